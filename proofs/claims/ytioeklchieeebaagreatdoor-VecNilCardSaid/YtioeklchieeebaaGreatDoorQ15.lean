/- Part 15 of what a proof leans on; pruned and shortened by a program out of longer texts. -/
import Derived.Test.YtioeklchieeebaaGreatDoorQ14
namespace Go.Proofs.Z
open Go Go.Bw
set_option maxRecDepth 100000 in
theorem aaP{a b c:Int}(_ : -9223372036854775808<=a/\a<=9223372036854775807)(_ :0<=b/\b<=18446744073709551615)(_ : -9223372036854775808<=c/\c<=9223372036854775807):zH 20000 a b c=some true:=by kernel_rfl
end Go.Proofs.Z
namespace Go.Rw
open Go Go.Bw Go.RowKit
variable {G:Sg} {P:Program}
def Ys(W w:World):Prop:=W.heap.size<=w.heap.size/\∀b,b<W.heap.size->w.heap[b]? =W.heap[b]?
theorem SN{g:IntKind×List (Int×Nat)}{mb:Nat}{W w:World}(h:Yw g mb W)(hs:Ys W w):Yw g mb w:=by
 obtain⟨h1,l,⟨es,clock,h2,h3⟩,h4⟩:=h;have keep:∀{b:Nat} {o:Obj},W.heap[b]? =some o->w.heap[b]? =some o:=λ{b o} hb=>(hs.2 b (aiH.1 hb).1).trans hb;refine⟨?_,l,⟨es,clock,keep h2,h3⟩,h4⟩;unfold World.cell? at h1 ⊢;cases e:W.heap[0]? with
 |none=>rw[e]at h1;cases h1
 |some o=>rw[e]at h1;rw[keep e];exact h1
theorem Ij{ct:Ct P G}{W:World}{x:HI G ct.s}{y:HL G (aK ct.s.bV)}{v:Value}{vs:List Value}(hz:ct.R x y)(hgl:∀g,G.gt=some g->∃mb,Yw g mb W)(hv:∀J:World->Prop,(∀w,J w->Ys W w)->rl J (λ_ =>none) (ct.s.bl x).1 vs)(h0:(ct.s.bl x).2.1=[])(h1:(dP (λm=>m) ct.s.bV y 0).2.1=[])
  (hro:ct.s.ro x=[])(hout:∀(J:World->Prop) (σ:aX) u us,rl J σ (dP (λm=>m) ct.s.bV y 0).1 (u::us)->u=v):
  Calls P ct.s.k vs.toArray W λe W'=>e= .returned v/\aO [] W W':=by
 have jZ:∀b,b∈List.range W.heap.size↔b<W.heap.size:=λb=>List.mem_range;generalize List.range W.heap.size=bs at jZ;have hR:∀w,Hs [.ext bs (Ys W)] w->Ys W w:=λw h=>(h _ List.mem_cons_self).1 w (Nat.le_refl _) λ_ _ =>rfl;have hS:∀w,aO [] W w->Hs [.ext bs (Ys W)] w:=λw h r hr=>by obtain rfl:=List.mem_singleton.1 hr;exact⟨λw' k1 k2=>⟨Nat.le_trans h.size k1,λb hb=>(k2 b ((jZ b).2 hb)).trans (h.block b hb (by simp))⟩,λb hb=>Nat.lt_of_lt_of_le ((jZ b).1 hb) h.size⟩
 have:=(vL (ct:=ct) (R:=[.ext bs (Ys W)]) (jv:=[]) (ρ:=λ_ =>none) hz (λg hg=>by
  obtain⟨mb,h⟩:=hgl g hg;exact⟨mb,λw hw=>SN h (hR w hw)⟩) (λJ hJ=>hv J λw hw=>hR w (hJ w hw)) h0 h1 (λJ _ r o e=>by rw[hro]at e;cases e) (λ_ _ =>rfl) hout).calls W (λw hw=>hS w (by simpa[bn]using hw)) (bq.nil _ _ _)
 exact this.mono λe W' ⟨_,_,he,hs,_⟩=>⟨he,by simpa[bn]using hs⟩
end Go.Rw
namespace Go.Bw
open Go Go.RowKit
theorem HD{α β:Type}{f:α->Option β}:∀{l:List α} {m:List β},l.mapM f=some m->(∀x∈l,∃y∈m,f x=some y)/\∀y∈m,∃x∈l,f x=some y
 |[],m,h=>by rw[List.mapM_nil]at h;cases h;exact⟨λx h=>(nomatch h),λx h=>(nomatch h)⟩
 |x::l,m,h=>by
  rw[List.mapM_cons]at h;cases hx:f x with
  |none=>rw[hx]at h;cases h
  |some y=>
   rw[hx]at h;cases hl:l.mapM f with
   |none=>rw[hl]at h;cases h
   |some m'=>
    rw[hl]at h;cases h;obtain⟨h1,h2⟩:=HD hl;refine⟨λz hz=>?_,λz hz=>?_⟩
    ·rcases List.mem_cons.1 hz with rfl|hz
     ·exact⟨y,by simp,hx⟩
     ·obtain⟨w,hw,he⟩:=h1 z hz;exact⟨w,by simp[hw],he⟩
    ·rcases List.mem_cons.1 hz with rfl|hz
     ·exact⟨x,by simp,hx⟩
     ·obtain⟨w,hw,he⟩:=h2 z hz;exact⟨w,by simp[hw],he⟩
theorem KR{H:Type}{x y:Lit×DataW H}:∀{l:List (Lit×DataW H)},y∈DataW.insert x l↔y=x\/y∈l
 |[]=>by simp[DataW.insert]
 |z::l=>by
  unfold DataW.insert;split
  ·simp
  ·rw[List.mem_cons,KR,List.mem_cons]
   constructor
   ·rintro(h|h|h)
    ·exact .inr (.inl h)
    ·exact .inl h
    ·exact .inr (.inr h)
   ·rintro(h|h|h)
    ·exact .inr (.inl h)
    ·exact .inl h
    ·exact .inr (.inr h)
theorem Hi{H:Type}{y:Lit×DataW H}:∀{l:List (Lit×DataW H)},y∈l.foldr DataW.insert []↔y∈l
 |[]=>Iff.rfl
 |x::l=>by rw[List.foldr_cons,KR,Hi,List.mem_cons]
theorem s6{β:Type}:∀{l:List (Int×β)} {k:Int},dW l k=none↔∀x∈l,x.1≠k
 |[],k=>⟨λ_ x h=>(nomatch h),λ_ =>rfl⟩
 |p::l,k=>by
  unfold dW;cases h:k==p.1 with
  |true=>
   have:k=p.1:=by simpa using h
   exact⟨λh=>by simp at h,λh2=>absurd this.symm (h2 p (by simp))⟩
  |false=>
   have hn:¬k=p.1:=by simpa using h
   simp only[cond_false,Option.map_eq_none_iff];rw[s6];exact⟨λh2 x hx=>by
    rcases List.mem_cons.1 hx with rfl|hx
    ·exactλe=>hn e.symm
    ·exact h2 x hx,λh2 x hx=>h2 x (by simp[hx])⟩
theorem yb{β:Type}:∀{l:List (Int×β)} {k:Int} {q:Nat×β},dW l k=some q->(k,q.2)∈l
 |[],k,q,h=>by cases h
 |p::l,k,q,h=>by
  unfold dW at h;cases e:k==p.1 with
  |true=>
   have:k=p.1:=by simpa using e
   rw[e]at h;simp only[cond_true,Option.some.injEq]at h;subst h;subst this;simp
  |false=>rw[e]at h;simp only[cond_false,Option.map_eq_some_iff]at h;obtain⟨a,ha,rfl⟩:=h;have:=yb ha;exact aiL _ this
theorem Jr{β:Type}{l l':List (Int×β)}(h:∀x,x∈l↔x∈l')(hf:∀x∈l',∀y∈l',x.1=y.1->x=y)(k:Int)(z:β):kU l k z=kU l' k z/\m9 l k=m9 l' k:=by
 unfold kU m9;cases e:dW l k with
 |none=>have:dW l' k=none:=s6.2 λx hx=>s6.1 e x ((h x).2 hx);rw[this];exact⟨rfl,rfl⟩
 |some q=>
  have m1:=yb e;cases e':dW l' k with
  |none=>exact absurd rfl (s6.1 e' _ ((h _).1 m1))
  |some q'=>have m2:=yb e';have:=hf _ ((h _).1 m1) _ m2 rfl;have:q.2=q'.2:=(Prod.mk.inj this).2;simp[this]
theorem N5{H:Type}{enc:TypeId×Value->H}{P:Program}{w:World}{base:Nat}{sp:Nat->Bool}{t k e:TypeId}(ht:P.underlying t=some (.map k e)){fuel:Nat}{cs:List Value}{S:List (Lit×DataW H)}{ps:List MemPlace}(h:DataW.trod enc P w base sp true fuel t cs=some (.map S,ps)):
  ∃b es clock n entries,cs=[.map (some b)]/\w.heap[b]? =some (.map es clock)/\es.all (·.born<clock)=true/\(es.toList.map (·.born)).eraseDups.length=es.size/\
   es.toList.mapM (λx=>(keyOf P k x.key).bind λkey=>if x.val.formed P e=true then(DataW.trod enc P w base sp true n e x.val.cells.toList).map λy=>((key,y.1),y.2)else none)=some entries/\(entries.map (·.1)).foldr DataW.insert []=S:=by
 cases fuel with
 |zero=>simp[DataW.trod]at h
 |succ n=>
  have h0:=h;rw[DataW.trod_step]at h;unfold DataW.trodStep at h;rw[ht]at h;split at h<;>try (simp_all;done)
  rename_i k' e' b hkk;have hke:k=k'/\e=e':=by simpa using hkk
  obtain⟨rfl,rfl⟩:=hke;clear h;rw[DataW.trod_step]at h0;unfold DataW.trodStep at h0;cases hb:w.heap[b]? with
  |none=>simp[ht,hb]at h0
  |some o=>
   cases o
   case map es clock=>
    simp only[ht,hb]at h0;split at h0
    ·rename_i hc
     obtain⟨_,_,Pu,rK⟩:=hc;simp only[Option.bind_eq_some_iff]at h0;obtain⟨entries,hm,h3⟩:=h0;split at h3
     ·simp only[Option.some.injEq,Prod.mk.injEq,DataW.map.injEq]at h3
      exact⟨b,es,clock,n,entries,rfl,hb,Pu,rK,hm,h3.1⟩
     ·cases h3
    ·cases h0
   all_goals (simp[ht,hb]at h0;done)
theorem Jt{P:Program}{w:World}{base:Nat}{sp:Nat->Bool}{t k e:TypeId}{kd:IntKind}{fs rs:Array TypeId}{va:Bool}(ht:P.underlying t=some (.map k e))(hk:P.underlying k=some (.int kd))(he:P.underlying e=some (.func fs rs va))
  {fuel:Nat}{cs:List Value}{ps:List MemPlace}(T:List (Int×FuncId))(nm:FuncId->UInt8×List UInt8)
  (h:DataW.trod (funcToken P) P w base sp true fuel t cs=some (.map (T.map λx=>(.int kd x.1, .held ((nm x.2).1::(nm x.2).2))),ps))
  (hone:∀x∈T,((List.range P.funcs.size).filter λf=>(P.funcs[f]?).any (·.name.toUTF8.data.toList==(nm x.2).1::(nm x.2).2))=[x.2]):
  ∃b l,cs=[.map (some b)]/\UK b kd (λv:Value=>v) l w/\∀x,x∈l↔x∈T.map λy=>(y.1,Value.func (.func y.2) #[] #[]):=by
 obtain⟨b,es,clock,n,entries,rfl,hb,Pu,rK,hm,hs⟩:=N5 ht h;obtain⟨m1,m2⟩:=HD hm;have hS:∀y,y∈entries.map (·.1)↔y∈T.map λx=>((Lit.int kd x.1:Lit),(DataW.held ((nm x.2).1::(nm x.2).2):DataW (List UInt8))):=λy=>by rw[← hs,Hi]
 have key:∀x∈es.toList,∀y,(keyOf P k x.key).bind (λkey=>if x.val.formed P e=true then(DataW.trod (funcToken P) P w base sp true n e x.val.cells.toList).map λy=>((key,y.1),y.2)else none)=some y->∀t∈T,y.1=((Lit.int kd t.1:Lit),(DataW.held ((nm t.2).1::(nm t.2).2):DataW (List UInt8)))->x.key= .int kd t.1/\x.val= .func (.func t.2) #[] #[]:=by
  intro x hx y hy t' ht' hyt;simp only[Option.bind_eq_some_iff]at hy;obtain⟨lit,JD,h2⟩:=hy;split at h2
  ·rename_i hfm
   simp only[Option.map_eq_some_iff]at h2;obtain⟨z,hz,rfl⟩:=h2;obtain⟨e1,e2⟩:=Prod.mk.inj hyt;subst e1;refine⟨?_,?_⟩
   ·unfold keyOf at JD
    rw[hk]at JD;unfold mapKey at JD;rw[hk]at JD;cases hxk:x.key<;>rw[hxk]at JD<;>simp at JD;obtain⟨⟨rfl,_⟩,rfl⟩:=JD;rfl
   ·obtain⟨z1,z2⟩:=z
    dsimp only at e2;subst e2;have hv:x.val.cells.toList=[x.val]:=by cases hxv:x.val<;>first|rfl|(rw[hxv]at hfm;simp[Value.formed,he]at hfm)
    rw[hv]at hz;exact func_of_trod he (hone t' ht') hz
  ·cases h2
 let l:List (Int×Value):=es.toList.map λx=>(match x.key with| .int _ i=>i|_ =>0,x.val);have hx:∀x∈es.toList,∃t∈T,x.key= .int kd t.1/\x.val= .func (.func t.2) #[] #[]:=λx hx=>by obtain⟨y,hy,hxy⟩:=m1 x hx;have:=(hS y.1).1 (List.mem_map_of_mem hy);obtain⟨t',ht',e1⟩:=List.mem_map.1 this;exact⟨t',ht',key x hx y hxy t' ht' e1.symm⟩
 refine⟨b,l,rfl,⟨es,clock,hb,⟨?_,?_,?_⟩⟩,λ_=>?_⟩
 ·rw[List.map_map]
  refine List.map_congr_left λx hx'=>?_;obtain⟨t',_,e1,_⟩:=hx x hx';simp[e1]
 ·intro x hx'
  have:=Array.all_eq_true_iff_forall_mem.1 Pu x (by simpa using hx');simpa using this
 ·exact Go.ChangeMaps.nodup_of_eraseDups _ (by rw[rK];simp)
 ·constructor
  ·intro hp
   obtain⟨x,hx',rfl⟩:=List.mem_map.1 hp;obtain⟨t',ht',e1,e2⟩:=hx x hx';exact List.mem_map.2 ⟨t',ht',by simp[e1,e2]⟩
  ·intro hp
   obtain⟨t',ht',rfl⟩:=List.mem_map.1 hp;have:=(hS _).2 (List.mem_map_of_mem (f:=λx=>((Lit.int kd x.1:Lit),(DataW.held ((nm x.2).1::(nm x.2).2):DataW (List UInt8)))) ht');obtain⟨y,hy,e1⟩:=List.mem_map.1 this;obtain⟨x,hx',hxy⟩:=m2 y hy;obtain⟨e2,e3⟩:=key x hx' y hxy t' ht' e1;exact List.mem_map.2 ⟨x,hx',by simp[e2,e3]⟩
end Go.Bw
