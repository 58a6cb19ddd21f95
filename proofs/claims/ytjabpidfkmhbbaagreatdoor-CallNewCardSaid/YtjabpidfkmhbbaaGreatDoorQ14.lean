/- Part 14 of what a proof leans on; pruned and shortened by a program out of longer texts. -/
import Derived.Test.YtjabpidfkmhbbaaGreatDoorQ13
namespace Go.Bw
open Go Go.RowKit
theorem E2{α β:Type}{f:α->Option β}:∀{l:List α} {m:List β},l.mapM f=some m->(∀x∈l,∃y∈m,f x=some y)/\∀y∈m,∃x∈l,f x=some y
 |[],m,h=>by rw[List.mapM_nil]at h;cases h;exact⟨λx h=>(nomatch h),λx h=>(nomatch h)⟩
 |x::l,m,h=>by
  rw[List.mapM_cons]at h;cases hx:f x with
  |none=>rw[hx]at h;cases h
  |some y=>
   rw[hx]at h;cases hl:l.mapM f with
   |none=>rw[hl]at h;cases h
   |some m'=>
    rw[hl]at h;cases h;obtain⟨h1,h2⟩:=E2 hl;refine⟨λz hz=>?_,λz hz=>?_⟩
    ·rcases List.mem_cons.1 hz with rfl|hz
     ·exact⟨y,by simp,hx⟩
     ·obtain⟨w,hw,he⟩:=h1 z hz;exact⟨w,by simp[hw],he⟩
    ·rcases List.mem_cons.1 hz with rfl|hz
     ·exact⟨x,by simp,hx⟩
     ·obtain⟨w,hw,he⟩:=h2 z hz;exact⟨w,by simp[hw],he⟩
theorem Ia{H:Type}{x y:Lit×DataW H}:∀{l:List (Lit×DataW H)},y∈DataW.insert x l↔y=x\/y∈l
 |[]=>by simp[DataW.insert]
 |z::l=>by
  unfold DataW.insert;split
  ·simp
  ·rw[List.mem_cons,Ia,List.mem_cons]
   constructor
   ·rintro(h|h|h)
    ·exact .inr (.inl h)
    ·exact .inl h
    ·exact .inr (.inr h)
   ·rintro(h|h|h)
    ·exact .inr (.inl h)
    ·exact .inl h
    ·exact .inr (.inr h)
theorem EO{H:Type}{y:Lit×DataW H}:∀{l:List (Lit×DataW H)},y∈l.foldr DataW.insert []↔y∈l
 |[]=>Iff.rfl
 |x::l=>by rw[List.foldr_cons,Ia,EO,List.mem_cons]
theorem rX{β:Type}:∀{l:List (Int×β)} {k:Int},dm l k=none↔∀x∈l,x.1≠k
 |[],k=>⟨λ_ x h=>(nomatch h),λ_ =>rfl⟩
 |p::l,k=>by
  unfold dm;cases h:k==p.1 with
  |true=>
   have:k=p.1:=by simpa using h
   exact⟨λh=>by simp at h,λh2=>absurd this.symm (h2 p (by simp))⟩
  |false=>
   have hn:¬k=p.1:=by simpa using h
   simp only[cond_false,Option.map_eq_none_iff];rw[rX];exact⟨λh2 x hx=>by
    rcases List.mem_cons.1 hx with rfl|hx
    ·exactλe=>hn e.symm
    ·exact h2 x hx,λh2 x hx=>h2 x (by simp[hx])⟩
theorem wY{β:Type}:∀{l:List (Int×β)} {k:Int} {q:Nat×β},dm l k=some q->(k,q.2)∈l
 |[],k,q,h=>by cases h
 |p::l,k,q,h=>by
  unfold dm at h;cases e:k==p.1 with
  |true=>
   have:k=p.1:=by simpa using e
   rw[e]at h;simp only[cond_true,Option.some.injEq]at h;subst h;subst this;simp
  |false=>rw[e]at h;simp only[cond_false,Option.map_eq_some_iff]at h;obtain⟨a,ha,rfl⟩:=h;have:=wY ha;exact abj _ this
theorem GC{β:Type}{l l':List (Int×β)}(h:∀x,x∈l↔x∈l')(hf:∀x∈l',∀y∈l',x.1=y.1->x=y)(k:Int)(z:β):ke l k z=ke l' k z/\mj l k=mj l' k:=by
 unfold ke mj;cases e:dm l k with
 |none=>have:dm l' k=none:=rX.2 λx hx=>rX.1 e x ((h x).2 hx);rw[this];exact⟨rfl,rfl⟩
 |some q=>
  have m1:=wY e;cases e':dm l' k with
  |none=>exact absurd rfl (rX.1 e' _ ((h _).1 m1))
  |some q'=>have m2:=wY e';have:=hf _ ((h _).1 m1) _ m2 rfl;have:q.2=q'.2:=(Prod.mk.inj this).2;simp[this]
theorem Ks{H:Type}{enc:TypeId×Value->H}{P:Program}{w:World}{base:Nat}{sp:Nat->Bool}{t k e:TypeId}(ht:P.underlying t=some (.map k e)){fuel:Nat}{cs:List Value}{S:List (Lit×DataW H)}{ps:List MemPlace}(h:DataW.trod enc P w base sp true fuel t cs=some (.map S,ps)):
  ∃b es clock n entries,cs=[.map (some b)]/\w.heap[b]? =some (.map es clock)/\es.all (·.born<clock)=true/\(es.toList.map (·.born)).eraseDups.length=es.size/\
   es.toList.mapM (λx=>(keyOf P k x.key).bind λkey=>if x.val.formed P e=true then(DataW.trod enc P w base sp true n e x.val.cells.toList).map λy=>((key,y.1),y.2)else none)=some entries/\(entries.map (·.1)).foldr DataW.insert []=S:=by
 cases fuel with
 |zero=>simp[DataW.trod]at h
 |succ n=>
  have h0:=h;rw[DataW.trod_step]at h;unfold DataW.trodStep at h;rw[ht]at h;split at h<;>try (simp_all;done)
  rename_i k' e' b hkk;have hke:k=k'/\e=e':=by simpa using hkk
  obtain⟨rfl,rfl⟩:=hke;clear h;rw[DataW.trod_step]at h0;unfold DataW.trodStep at h0;cases hb:w.heap[b]? with
  |none=>simp[ht,hb]at h0
  |some o=>
   cases o
   case map es clock=>
    simp only[ht,hb]at h0;split at h0
    ·rename_i hc
     obtain⟨_,_,L2,qJ⟩:=hc;simp only[Option.bind_eq_some_iff]at h0;obtain⟨entries,hm,h3⟩:=h0;split at h3
     ·simp only[Option.some.injEq,Prod.mk.injEq,DataW.map.injEq]at h3
      exact⟨b,es,clock,n,entries,rfl,hb,L2,qJ,hm,h3.1⟩
     ·cases h3
    ·cases h0
   all_goals (simp[ht,hb]at h0;done)
theorem GF{P:Program}{w:World}{base:Nat}{sp:Nat->Bool}{t k e:TypeId}{kd:IntKind}{fs rs:Array TypeId}{va:Bool}(ht:P.underlying t=some (.map k e))(hk:P.underlying k=some (.int kd))(he:P.underlying e=some (.func fs rs va))
  {fuel:Nat}{cs:List Value}{ps:List MemPlace}(T:List (Int×FuncId))(nm:FuncId->UInt8×List UInt8)
  (h:DataW.trod (funcToken P) P w base sp true fuel t cs=some (.map (T.map λx=>(.int kd x.1, .held ((nm x.2).1::(nm x.2).2))),ps))
  (hone:∀x∈T,((List.range P.funcs.size).filter λf=>(P.funcs[f]?).any (·.name.toUTF8.data.toList==(nm x.2).1::(nm x.2).2))=[x.2]):
  ∃b l,cs=[.map (some b)]/\QM b kd (λv:Value=>v) l w/\∀x,x∈l↔x∈T.map λy=>(y.1,Value.func (.func y.2) #[] #[]):=by
 obtain⟨b,es,clock,n,entries,rfl,hb,L2,qJ,hm,hs⟩:=Ks ht h;obtain⟨m1,m2⟩:=E2 hm;have hS:∀y,y∈entries.map (·.1)↔y∈T.map λx=>((Lit.int kd x.1:Lit),(DataW.held ((nm x.2).1::(nm x.2).2):DataW (List UInt8))):=λy=>by rw[← hs,EO]
 have key:∀x∈es.toList,∀y,(keyOf P k x.key).bind (λkey=>if x.val.formed P e=true then(DataW.trod (funcToken P) P w base sp true n e x.val.cells.toList).map λy=>((key,y.1),y.2)else none)=some y->∀t∈T,y.1=((Lit.int kd t.1:Lit),(DataW.held ((nm t.2).1::(nm t.2).2):DataW (List UInt8)))->x.key= .int kd t.1/\x.val= .func (.func t.2) #[] #[]:=by
  intro x hx y hy t' ht' hyt;simp only[Option.bind_eq_some_iff]at hy;obtain⟨lit,GM,h2⟩:=hy;split at h2
  ·rename_i hfm
   simp only[Option.map_eq_some_iff]at h2;obtain⟨z,hz,rfl⟩:=h2;obtain⟨e1,e2⟩:=Prod.mk.inj hyt;subst e1;refine⟨?_,?_⟩
   ·unfold keyOf at GM
    rw[hk]at GM;unfold mapKey at GM;rw[hk]at GM;cases hxk:x.key<;>rw[hxk]at GM<;>simp at GM;obtain⟨⟨rfl,_⟩,rfl⟩:=GM;rfl
   ·obtain⟨z1,z2⟩:=z
    dsimp only at e2;subst e2;have hv:x.val.cells.toList=[x.val]:=by cases Z3:x.val<;>first|rfl|(rw[Z3]at hfm;simp[Value.formed,he]at hfm)
    rw[hv]at hz;exact func_of_trod he (hone t' ht') hz
  ·cases h2
 let l:List (Int×Value):=es.toList.map λx=>(match x.key with| .int _ i=>i|_ =>0,x.val);have hx:∀x∈es.toList,∃t∈T,x.key= .int kd t.1/\x.val= .func (.func t.2) #[] #[]:=λx hx=>by obtain⟨y,hy,hxy⟩:=m1 x hx;have:=(hS y.1).1 (List.mem_map_of_mem hy);obtain⟨t',ht',e1⟩:=List.mem_map.1 this;exact⟨t',ht',key x hx y hxy t' ht' e1.symm⟩
 refine⟨b,l,rfl,⟨es,clock,hb,⟨?_,?_,?_⟩⟩,λp=>?_⟩
 ·rw[List.map_map]
  refine List.map_congr_left λx hx'=>?_;obtain⟨t',_,e1,_⟩:=hx x hx';simp[e1]
 ·intro x hx'
  have:=Array.all_eq_true_iff_forall_mem.1 L2 x (by simpa using hx');simpa using this
 ·exact Go.ChangeMaps.nodup_of_eraseDups _ (by rw[qJ];simp)
 ·constructor
  ·intro hp
   obtain⟨x,hx',rfl⟩:=List.mem_map.1 hp;obtain⟨t',ht',e1,e2⟩:=hx x hx';exact List.mem_map.2 ⟨t',ht',by simp[e1,e2]⟩
  ·intro hp
   obtain⟨t',ht',rfl⟩:=List.mem_map.1 hp;have:=(hS _).2 (List.mem_map_of_mem (f:=λx=>((Lit.int kd x.1:Lit),(DataW.held ((nm x.2).1::(nm x.2).2):DataW (List UInt8)))) ht');obtain⟨y,hy,e1⟩:=List.mem_map.1 this;obtain⟨x,hx',hxy⟩:=m2 y hy;obtain⟨e2,e3⟩:=key x hx' y hxy t' ht' e1;exact List.mem_map.2 ⟨x,hx',by simp[e2,e3]⟩
end Go.Bw
