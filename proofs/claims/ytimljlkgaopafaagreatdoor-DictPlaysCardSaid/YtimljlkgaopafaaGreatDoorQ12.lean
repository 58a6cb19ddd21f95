/- Part 12 of what a proof leans on; pruned and shortened by a program out of longer texts. -/
import Derived.Test.YtimljlkgaopafaaGreatDoorQ11
namespace Go.Proofs.Z
open Go Go.Bw Go.Rw Go.RowKit
noncomputable section
theorem NR:abr Tryz.prog 265 43 1 (λ(e:Int)=>([.int .i64 e]:List Value)):=by
 have hf:=Tryz.func265;refine⟨λargs w=>?_,λb w=>?_,λb Tb xs e w hn hb=>?_⟩
 ·have h1:Tryz.f265.name≠ "runtime.NumGoroutine" :=by
   intro h;have:(Tryz.f265.name== "runtime.NumGoroutine")=false:=by kernel_rfl
   rw[h]at this;simp at this
  have h2:Tryz.f265.body.isSome=true:=by kernel_rfl
  obtain⟨code,h2⟩:=Option.isSome_iff_exists.1 h2;simp[callFunc,hf,h1,h2,Go.mark]
 ·refine callsDIn_of_wpSIn hf rfl trivial λc₀ cs hu=>?_
  apply wpSIn_seq;apply wpSIn_region;simp[wpOpsSIn,go_sem,recoverD,hu,Tryz.ntmps265,Exit.thenS];apply wpSIn_seq;apply wpSIn_region;simp[wpOpsSIn,go_sem,recoverD,hu,Tryz.ntmps265,Exit.thenS];refine wpSIn_cond (t:=false) (by simp[Act.eval,Array.replicate]) ?_;simp only[Bool.false_eq_true,if_false];refine wpSIn_of_wpIn rfl (wpIn_skip ?_);cases c₀;simp_all[bodyPostS,results,aQ.refl]
 ·have hi:Tryz.prog.underlying 43=some (.int .i64):=by kernel_rfl
  refine callsDIn_of_wpSIn hf rfl trivial λc₀ cs hu=>?_;apply wpSIn_seq;apply wpSIn_region;simp[wpOpsSIn,go_sem,recoverD,hu,Tryz.ntmps265,Exit.thenS];refine wpSIn_of_wpIn rfl ?_;have key:WP Tryz.prog Tryz.f265.ntmps ⟨none,w,[b]⟩ [] (match Tryz.f265.body with
   |some (.seq _ y)=>y
   |_ => .skip) (λen a' w'=>(en= .normal\/en= .ret)/\a'.defers=[]/\aQ [b] w w'/\w'.heap[b]? =some (.cells ((λ(e:Int)=>([.int .i64 e]:List Value)) e).toArray Tb (0,0))) [(2, .iface 43 (.int .i64 e)),(0,dO b 0)] [.cells b Tb xs]:=by
   refine qQ ?_;refine jl ?_;refine bQ rfl (cz rfl) ?_;refine bQ (v:= .bool true) rfl (aG (by simp) λa w hf _ _ =>by
    have h6:=hf 6 _ rfl;have he:=run_equal_held_nil (P:=Tryz.prog) w 20 43 (.int .i64 e) (by kernel_rfl);simp[execOp,go_sem,Act.eval,h6,eqGuard,binOp,he]) ?_
   refine qR ?_;refine ny ?_;refine I9 rfl (λhc=>?_) (λhc=>?_);rotate_left
   ·cases hc
   refine qQ ?_;refine jl ?_;refine bQ rfl (cz rfl) ?_;refine bQ (v:= .tuple #[.int .i64 e, .bool true]) rfl (aG (by simp) λa w hf _ _ =>by simp[execOp,aI hf (x:= .tmp 9) rfl,Instr.typeAssert,run_underlying hi]) ?_;refine bQ rfl (cz rfl) ?_;refine bQ rfl (mW rfl rfl) ?_;refine bQ rfl (mW rfl rfl) ?_;refine bQ rfl (oZ rfl) ?_;refine bQ rfl (oZ rfl) ?_;refine qR ?_;refine ny ?_;refine qQ ?_;refine qQ ?_;refine jl ?_;refine bQ rfl (cz rfl) ?_;refine bQ rfl (Cd rfl) ?_;refine qR ?_;refine ny ?_;refine I9 rfl (λhc=>?_) (λhc=>?_)
   ·cases hc
   refine DL ?_;refine ny ?_;haveI:R9 Tryz.prog 43 1:=⟨by kernel_rfl⟩;refine jl ?_;refine bQ rfl (cz rfl) ?_;refine bQ rfl (cz rfl) ?_;refine bQ rfl (vC rfl) ?_;refine F1 (rP (n:=1) (vs:=[.int .i64 e]) (cs':=[.int .i64 e]) rfl rfl rfl rfl (by rw[hn];decide) (ld rfl) (by
    match xs,hn with
    |[_],_ =>rfl)) (λ_ _ =>?_)
   refine qR ?_
   exactλa w' hst=>⟨.inl rfl,hst.df,hst.si,hst.hp.holds (.cells b Tb ((λ(e:Int)=>([.int .i64 e]:List Value)) e)) (by simp)⟩
  refine wpIn_mono (key _ w ⟨by simp[Tryz.ntmps265],λd v h=>?_,rfl,aQ.refl _ _,?_⟩) λen a' w' ⟨h1,h2,h3,h4⟩=>?_
  ·simp only[lk]at h
   cases h0:Nat.beq 2 d with
   |true=>rw[h0]at h;obtain rfl:=akf h0;cases h;simp
   |false=>
    rw[h0]at h;simp only[cond_false]at h;cases W4:Nat.beq 0 d with
    |true=>rw[W4]at h;obtain rfl:=akf W4;cases h;simp
    |false=>rw[W4]at h;cases h
  ·refine(bH.nil _ _ _).cons hb (λb' hb'=>?_) (λs hs=>by cases hs)
   have e2:b'=b:=by simpa[aE.cI]using hb'
   subst e2;exact⟨.inl (by simp),(akl.1 hb).1⟩
  ·rcases h1 with rfl|rfl
   ·exact⟨h2,_,rfl,_,by simp[results];rfl,⟨_,rfl⟩,rfl,h3,h4⟩
   ·exact⟨h2,_,rfl,_,by simp[results];rfl,⟨_,rfl⟩,rfl,h3,h4⟩
theorem NQ:abr Tryz.prog 62 43 1 (λ(e:Int)=>([.int .i64 e]:List Value)):=by
 have hf:=Tryz.func62;refine⟨λargs w=>?_,λb w=>?_,λb Tb xs e w hn hb=>?_⟩
 ·have h1:Tryz.f62.name≠ "runtime.NumGoroutine" :=by
   intro h;have:(Tryz.f62.name== "runtime.NumGoroutine")=false:=by kernel_rfl
   rw[h]at this;simp at this
  have h2:Tryz.f62.body.isSome=true:=by kernel_rfl
  obtain⟨code,h2⟩:=Option.isSome_iff_exists.1 h2;simp[callFunc,hf,h1,h2,Go.mark]
 ·refine callsDIn_of_wpSIn hf rfl trivial λc₀ cs hu=>?_
  apply wpSIn_seq;apply wpSIn_region;simp[wpOpsSIn,go_sem,recoverD,hu,Tryz.ntmps62,Exit.thenS];apply wpSIn_seq;apply wpSIn_region;simp[wpOpsSIn,go_sem,recoverD,hu,Tryz.ntmps62,Exit.thenS];refine wpSIn_cond (t:=false) (by simp[Act.eval,Array.replicate]) ?_;simp only[Bool.false_eq_true,if_false];refine wpSIn_of_wpIn rfl (wpIn_skip ?_);cases c₀;simp_all[bodyPostS,results,aQ.refl]
 ·have hi:Tryz.prog.underlying 43=some (.int .i64):=by kernel_rfl
  refine callsDIn_of_wpSIn hf rfl trivial λc₀ cs hu=>?_;apply wpSIn_seq;apply wpSIn_region;simp[wpOpsSIn,go_sem,recoverD,hu,Tryz.ntmps62,Exit.thenS];refine wpSIn_of_wpIn rfl ?_;have key:WP Tryz.prog Tryz.f62.ntmps ⟨none,w,[b]⟩ [] (match Tryz.f62.body with
   |some (.seq _ y)=>y
   |_ => .skip) (λen a' w'=>(en= .normal\/en= .ret)/\a'.defers=[]/\aQ [b] w w'/\w'.heap[b]? =some (.cells ((λ(e:Int)=>([.int .i64 e]:List Value)) e).toArray Tb (0,0))) [(2, .iface 43 (.int .i64 e)),(0,dO b 0)] [.cells b Tb xs]:=by
   refine qQ ?_;refine jl ?_;refine bQ rfl (cz rfl) ?_;refine bQ (v:= .bool true) rfl (aG (by simp) λa w hf _ _ =>by
    have h6:=hf 6 _ rfl;have he:=run_equal_held_nil (P:=Tryz.prog) w 20 43 (.int .i64 e) (by kernel_rfl);simp[execOp,go_sem,Act.eval,h6,eqGuard,binOp,he]) ?_
   refine qR ?_;refine ny ?_;refine I9 rfl (λhc=>?_) (λhc=>?_);rotate_left
   ·cases hc
   refine qQ ?_;refine jl ?_;refine bQ rfl (cz rfl) ?_;refine bQ (v:= .tuple #[.int .i64 e, .bool true]) rfl (aG (by simp) λa w hf _ _ =>by simp[execOp,aI hf (x:= .tmp 9) rfl,Instr.typeAssert,run_underlying hi]) ?_;refine bQ rfl (cz rfl) ?_;refine bQ rfl (mW rfl rfl) ?_;refine bQ rfl (mW rfl rfl) ?_;refine bQ rfl (oZ rfl) ?_;refine bQ rfl (oZ rfl) ?_;refine qR ?_;refine ny ?_;refine qQ ?_;refine qQ ?_;refine jl ?_;refine bQ rfl (cz rfl) ?_;refine bQ rfl (Cd rfl) ?_;refine qR ?_;refine ny ?_;refine I9 rfl (λhc=>?_) (λhc=>?_)
   ·cases hc
   refine DL ?_;refine ny ?_;haveI:R9 Tryz.prog 43 1:=⟨by kernel_rfl⟩;refine jl ?_;refine bQ rfl (cz rfl) ?_;refine bQ rfl (cz rfl) ?_;refine bQ rfl (vC rfl) ?_;refine F1 (rP (n:=1) (vs:=[.int .i64 e]) (cs':=[.int .i64 e]) rfl rfl rfl rfl (by rw[hn];decide) (ld rfl) (by
    match xs,hn with
    |[_],_ =>rfl)) (λ_ _ =>?_)
   refine qR ?_
   exactλa w' hst=>⟨.inl rfl,hst.df,hst.si,hst.hp.holds (.cells b Tb ((λ(e:Int)=>([.int .i64 e]:List Value)) e)) (by simp)⟩
  refine wpIn_mono (key _ w ⟨by simp[Tryz.ntmps62],λd v h=>?_,rfl,aQ.refl _ _,?_⟩) λen a' w' ⟨h1,h2,h3,h4⟩=>?_
  ·simp only[lk]at h
   cases h0:Nat.beq 2 d with
   |true=>rw[h0]at h;obtain rfl:=akf h0;cases h;simp
   |false=>
    rw[h0]at h;simp only[cond_false]at h;cases W4:Nat.beq 0 d with
    |true=>rw[W4]at h;obtain rfl:=akf W4;cases h;simp
    |false=>rw[W4]at h;cases h
  ·refine(bH.nil _ _ _).cons hb (λb' hb'=>?_) (λs hs=>by cases hs)
   have e2:b'=b:=by simpa[aE.cI]using hb'
   subst e2;exact⟨.inl (by simp),(akl.1 hb).1⟩
  ·rcases h1 with rfl|rfl
   ·exact⟨h2,_,rfl,_,by simp[results];rfl,⟨_,rfl⟩,rfl,h3,h4⟩
   ·exact⟨h2,_,rfl,_,by simp[results];rfl,⟨_,rfl⟩,rfl,h3,h4⟩
theorem xD:abr Tryz.prog 129 43 3 (λ(e:Int)=>(dK.enc ⟨e,0,0⟩:List Value)):=by
 have hf:=Tryz.func129;refine⟨λargs w=>?_,λb w=>?_,λb Tb xs e w hn hb=>?_⟩
 ·have h1:Tryz.f129.name≠ "runtime.NumGoroutine" :=by
   intro h;have:(Tryz.f129.name== "runtime.NumGoroutine")=false:=by kernel_rfl
   rw[h]at this;simp at this
  have h2:Tryz.f129.body.isSome=true:=by kernel_rfl
  obtain⟨code,h2⟩:=Option.isSome_iff_exists.1 h2;simp[callFunc,hf,h1,h2,Go.mark]
 ·refine callsDIn_of_wpSIn hf rfl trivial λc₀ cs hu=>?_
  apply wpSIn_seq;apply wpSIn_region;simp[wpOpsSIn,go_sem,recoverD,hu,Tryz.ntmps129,Exit.thenS];apply wpSIn_seq;apply wpSIn_region;simp[wpOpsSIn,go_sem,recoverD,hu,Tryz.ntmps129,Exit.thenS];refine wpSIn_cond (t:=false) (by simp[Act.eval,Array.replicate]) ?_;simp only[Bool.false_eq_true,if_false];refine wpSIn_of_wpIn rfl (wpIn_skip ?_);cases c₀;simp_all[bodyPostS,results,aQ.refl]
 ·have hi:Tryz.prog.underlying 43=some (.int .i64):=by kernel_rfl
  refine callsDIn_of_wpSIn hf rfl trivial λc₀ cs hu=>?_;apply wpSIn_seq;apply wpSIn_region;simp[wpOpsSIn,go_sem,recoverD,hu,Tryz.ntmps129,Exit.thenS];refine wpSIn_of_wpIn rfl ?_;have key:WP Tryz.prog Tryz.f129.ntmps ⟨none,w,[b]⟩ [] (match Tryz.f129.body with
   |some (.seq _ y)=>y
   |_ => .skip) (λen a' w'=>(en= .normal\/en= .ret)/\a'.defers=[]/\aQ [b] w w'/\w'.heap[b]? =some (.cells ((λ(e:Int)=>(dK.enc ⟨e,0,0⟩:List Value)) e).toArray Tb (0,0))) [(1, .iface 43 (.int .i64 e)),(0,dO b 0)] [.cells b Tb xs]:=by
   refine qQ ?_;refine jl ?_;refine bQ rfl (cz rfl) ?_;refine bQ (v:= .bool true) rfl (aG (by simp) λa w hf _ _ =>by
    have h6:=hf 5 _ rfl;have he:=run_equal_held_nil (P:=Tryz.prog) w 20 43 (.int .i64 e) (by kernel_rfl);simp[execOp,go_sem,Act.eval,h6,eqGuard,binOp,he]) ?_
   refine qR ?_;refine ny ?_;refine I9 rfl (λhc=>?_) (λhc=>?_);rotate_left
   ·cases hc
   refine qQ ?_;refine jl ?_;refine bQ rfl (cz rfl) ?_;refine bQ (v:= .tuple #[.int .i64 e, .bool true]) rfl (aG (by simp) λa w hf _ _ =>by simp[execOp,aI hf (x:= .tmp 8) rfl,Instr.typeAssert,run_underlying hi]) ?_;refine bQ rfl (cz rfl) ?_;refine bQ rfl (mW rfl rfl) ?_;refine bQ rfl (mW rfl rfl) ?_;refine bQ rfl (oZ rfl) ?_;refine bQ rfl (oZ rfl) ?_;refine qR ?_;refine ny ?_;refine qQ ?_;refine qQ ?_;refine jl ?_;refine bQ rfl (cz rfl) ?_;refine bQ rfl (Cd rfl) ?_;refine qR ?_;refine ny ?_;refine I9 rfl (λhc=>?_) (λhc=>?_)
   ·cases hc
   refine DL ?_;refine ny ?_;haveI:R9 Tryz.prog 120 3:=⟨by kernel_rfl⟩;haveI:jH Tryz.prog 120 ji:=⟨by kernel_rfl⟩;haveI:TPl Tryz.prog 120 [(0,1),(1,1),(2,1)]:=⟨by kernel_rfl⟩;refine jl ?_;refine bQ rfl (cz rfl) ?_;refine bQ rfl (Ac (cs:=dK.enc ⟨e,0,0⟩) rfl rfl) ?_;refine F1 (rP (n:=3) (vs:=dK.enc ⟨e,0,0⟩) (cs':=dK.enc ⟨e,0,0⟩) rfl rfl rfl rfl (by rw[hn];decide) (ld rfl) (by
    match xs,hn with
    |[_,_,_],_ =>rfl)) (λ_ _ =>?_)
   refine qR ?_
   exactλa w' hst=>⟨.inl rfl,hst.df,hst.si,hst.hp.holds (.cells b Tb ((λ(e:Int)=>(dK.enc ⟨e,0,0⟩:List Value)) e)) (by simp)⟩
  refine wpIn_mono (key _ w ⟨by simp[Tryz.ntmps129],λd v h=>?_,rfl,aQ.refl _ _,?_⟩) λen a' w' ⟨h1,h2,h3,h4⟩=>?_
  ·simp only[lk]at h
   cases h0:Nat.beq 1 d with
   |true=>rw[h0]at h;obtain rfl:=akf h0;cases h;simp
   |false=>
    rw[h0]at h;simp only[cond_false]at h;cases W4:Nat.beq 0 d with
    |true=>rw[W4]at h;obtain rfl:=akf W4;cases h;simp
    |false=>rw[W4]at h;cases h
  ·refine(bH.nil _ _ _).cons hb (λb' hb'=>?_) (λs hs=>by cases hs)
   have e2:b'=b:=by simpa[aE.cI]using hb'
   subst e2;exact⟨.inl (by simp),(akl.1 hb).1⟩
  ·rcases h1 with rfl|rfl
   ·exact⟨h2,_,rfl,_,by simp[results];rfl,⟨_,rfl⟩,rfl,h3,h4⟩
   ·exact⟨h2,_,rfl,_,by simp[results];rfl,⟨_,rfl⟩,rfl,h3,h4⟩
def eks:List (Ek Tryz.prog sg):=[⟨265,43,1,λ(e:Int)=>([.int .i64 e]:List Value),λe=> .int .i64 e,λ_ _ e=>⟨.int .i64 e,rfl,rfl⟩,NR⟩,⟨62,43,1,λ(e:Int)=>([.int .i64 e]:List Value),λe=> .int .i64 e,λ_ _ e=>⟨.int .i64 e,rfl,rfl⟩,NQ⟩,⟨129,43,3,λ(e:Int)=>(dK.enc ⟨e,0,0⟩:List Value),λe=> .dat (.st 22) (⟨e,0,0⟩:ah),λJ _ e=>⟨.agg (dK.enc ⟨e,0,0⟩).toArray,⟨_,rfl,bq.iff (L:=dK) (J:=J)|>.2 rfl,λ_ =>⟨_,rfl⟩,nofun⟩,rfl⟩,xD⟩]
abbrev CT:=Ct Tryz.prog sg
abbrev dN:Sh:= .box 222 (.st (.part 952 (.v (.st 19)) (.part 1 (.v (.int .i64)) (.part 6 (.v (.st 23)) (.part 2 (.v (.st 4)) (.part 1 (.v (.int .i64)) (.part 1 (.v .bool) (.part 1 (.row 169 2 (.st 4)) .nil))))))))
def g7{R:Type}(y:ae×Int×aD×av×Int×Bool×(List av)×R):aq:=⟨y.1,y.2.1,y.2.2.1,y.2.2.2.1,y.2.2.2.2.1,y.2.2.2.2.2.1,y.2.2.2.2.2.2.1⟩
def h7{R:Type}(z:aq)(r:R):ae×Int×aD×av×Int×Bool×(List av)×R:=(z.aH,z.fZ,z.c,z.run,z.lD,z.z6,z.gk,r)
def vw0:VwA sg:=⟨[(.int .i64),(.st 19),(.int .i64),(.st 23),(.st 4),(.int .i64), .bool,(.sl (.st 4))],λB n e=>fe (λk x0 (x1:aq)=>B (λe=>k e.1 (g7 e.2)) (x0,h7 x1 ())) n e.1 (g7 e.2),λ_ _ =>rfl,λ_ _ _ =>rfl⟩
abbrev tW(n:Nat)(h:List (Nat×Hn))(cs:List (Ct Tryz.prog sg)):wS Tryz.prog sg:=afW tt zt n h cs [] [] eks
abbrev tX(n:Nat)(h:List (Nat×Hn))(cs:List (Ct Tryz.prog sg))(vs:List (Nat×VwA sg))(its:List (It Tryz.prog sg)):wS Tryz.prog sg:=afW tt zt n h cs vs its eks
def rU(x y:av):Bool:=x.At==y.At&&x.N==y.N
def Aq(x y:dQ):Bool:=x.gen==y.gen&&x.kS==y.kS&&x.kM==y.kM
def bz(n:Nat):Ct Tryz.prog sg:=abL (tW n [] []) 267 43 (by kernel_rfl) (λ_=>by kernel_rfl)
def bn(n:Nat):Ct Tryz.prog sg:=abL (tW n [] []) 130 43 (by kernel_rfl) (λ_=>by kernel_rfl)
def C6(n:Nat)(a0:Int):Option br:=cn (decide ((if 64<a0 then 64 else a0)<1)) (lt ({l:=[]}:br) λax=>some ax) (lt ({At:=0,N:=(if 64<a0 then 64 else a0)}:av) λcJ=>lt ({l:=([cJ]:List av)}:br) λeF=>some eF)
def Kj(n:Nat):CT:=cV (tW n [] []) (kU 74 [.i] [.s 25]) (a1 (C6 n)) u1 m1
def bL(n:Nat)(a0:av):Option Int:=some (wr .i64 (a0.At+a0.N))
def tO(n:Nat):CT:=cV (tW n [] []) (kU 105 [.s 4] [.i]) (a1 (bL n)) u1 m1
def nj(n:Nat)(a0:av):Option Bool:=some ((decide (1<=a0.N)&&decide (0<=a0.At))&&decide (a0.At<=(wr .i64 (64-a0.N))))
def tN(n:Nat):CT:=cV (tW n [] []) (kU 103 [.s 4] [.b]) (a1 (nj n)) u1 m1
def yd(n:Nat)(a0:(List av)):Option (List av):=some a0
def CB(n:Nat):CT:=cV (tW n [] []) ⟨128,[], .cons (.v (.sl (.st 4))) .nil, .cons (.fn (.func 140) .nil (.cons (.box 64 (.v (.sl (.st 4)))) .nil)) .nil,[none], .nil,[],[]⟩ (a1 (yd n)) u1 m1
def pJ(n:Nat)(a0:br):Option (List av):=bd (yd n a0.l) λbA=>some bA
def we(n:Nat):CT:=cV (tW n [] [CB n]) ⟨104,[], .cons (.v (.st 25)) .nil, .cons (.fn (.func 140) .nil (.cons (.box 64 (.v (.sl (.st 4)))) .nil)) .nil,[none], .nil,[],[]⟩ (a1 (pJ n)) u1 m1
def jt(n:Nat)(a1:(List av)):Option (List (Int×av)):=iv (λJv (eF:Int)=>cn (decide (eF<(a1.length:Int))) (gu (dH eF a1.length)<|lt ((a1.getD (Int.toNat eF) default):av) λgN=>yl (eF,gN)<|Jv (wr .i64 (eF+1))) (some [])) n 0
def sU(n:Nat):It Tryz.prog sg:=mkI (tX n [(3, .loop [(.dS 7,(.v (.int .i64)))])] [] [] []) 3000 140 (.cons (.box 64 (.v (.sl (.st 4)))) .nil) (.cons (.v (.int .i64)) (.cons (.v (.st 4)) .nil)) (.int (.st (G:=sg) (i:=4) (λ(x:av)=>cZ.enc bO x) (λJ cs x=>bq.iff (L:=bO)) .nil)) (B:=Int×av) (λy=>(y.1,(y.2,()))) (λx=>(x.1,x.2.1)) (λx=>jt n x.1) (λ_ =>rfl) (by kernel_rfl) (λx=>by kernel_rfl)
def mH(n:Nat)(a0:br)(a1:Int)(a2:Int):Option (br×Bool):=lt ({At:=a1,N:=a2}:av) λax=>bd (nj n ax) λbp=>cn ((!bp)) (some (a0,false)) (bd (pJ n a0) λdZ=>bd (jt n dZ) λeB=>Wt (λ(e56:Int×av) k42 (dI:Bool) (nQ:(List av)) (iw:av)=>lt (e56.1:Int) λ_=>lt (e56.2:av) λuW=>bd (bL n uW) λMT=>cn (decide (MT<iw.At)) (gu (ig nQ.length 1 16)<|lt (nQ++([uW]):List av) λOC=>k42 dI OC iw) (bd (bL n iw) λSk=>cn (decide (Sk<uW.At)) (lt (λ(x63:Bool) (Uq:(List av))=>gu (ig Uq.length 1 16)<|lt (Uq++([uW]):List av) λx73=>k42 x63 x73 iw) λj67=>cn ((!dI)) (gu (ig nQ.length 1 16)<|lt (nQ++([iw]):List av) λT5=>j67 true T5) (j67 dI nQ)) (bd (bL n uW) λKc=>cn ((Kc==iw.At)) (lt ({At:=uW.At,N:=wr .i64 (uW.N+iw.N)}:av) λx77=>k42 dI nQ x77) (bd (bL n iw) λx78=>cn ((uW.At==x78)) (lt ({iw with N:=wr .i64 (iw.N+uW.N)}:av) λx79=>k42 dI nQ x79) (some (a0,false)))))) (λ(dI:Bool) (nQ:(List av)) (iw:av)=>cn ((!dI)) (gu (ig nQ.length 1 16)<|lt (nQ++([iw]):List av) λx84=>lt ({l:=x84}:br) λx87=>some (x87,true)) (lt ({l:=nQ}:br) λx93=>some (x93,true))) eB false ([]:List av) ax)
def wg(n:Nat):CT:=cV (tX n [(15, .loop [(.via 10, .box 4 (.v .bool)),(.via 9, .box 64 (.row 169 2 (.st 4))),(.via 8, .box 169 (.v (.st 4))),(.via 6, .box 179 (.unk 1)),(.via 7, .box 4 (.unk 1))]),(30, .join [(.via 10, .box 4 (.v .bool)),(.via 9, .box 64 (.row 169 2 (.st 4)))] [])] [tN n,we n,tO n] [] [sU n]) (kU 85 [.s 25, .i, .i] [.t [.s 25, .b]]) (a3 (mH n)) u2 m2
def mI(n:Nat)(a0:av)(a1:av):Option Bool:=cl (((rU a1 a0)==false)&&((decide (a0.At<=a1.At))==true)) (bL n a1) default λax=>cl (((rU a1 a0)==false)&&((decide (a0.At<=a1.At))==true)) (bL n a0) default λbp=>some ((rU a1 a0)||(decide (a0.At<=a1.At)&&decide (ax<=bp)))
def wh(n:Nat):CT:=cV (tW n [] [tO n]) (kU 127 [.s 4, .s 4] [.b]) (a2 (mI n)) u1 m1
def ye(n:Nat)(a0:av)(a1:av):Option Bool:=bd (mI n a0 a1) λax=>some ax
def CD(n:Nat):CT:=cV (tW n [] [wh n]) ⟨126,[(169, .v (.st 4))], .cons (.v (.st 4)) (.cons (.bS 0) .nil), .cons (.v .bool) .nil,[], .nil,[],[]⟩ (λx=>ye n x.2.1 x.1) u1 m1
def eL(n:Nat)(a0:(List av))(gJ:av):Option Int:=iv (λNv (bp:Int)=>cn (decide (bp<(a0.length:Int))) (gu (dH bp a0.length)<|bd (ye n (a0.getD (Int.toNat bp) default) gJ) λcJ=>cn (cJ) (some bp) (Nv (wr .i64 (bp+1)))) (some (-1))) n 0
def lW(n:Nat):CT:=cV (tW n [(5, .loop [(.dS 8,(.v (.int .i64)))])] [CD n]) ⟨136,[(169, .v (.st 4))], .cons (.v (.sl (.st 4))) (.cons (.fn (.func 126) .nil (.cons (.bS 0) .nil)) .nil), .cons (.v (.int .i64)) .nil,[], .nil,[],[]⟩ (λx=>eL n x.2.1 x.1) u1 m1
def cY(n:Nat)(a0:(List av))(gJ:av):Option Bool:=bd (eL n a0 gJ) λax=>some (decide (0<=ax))
def kx(n:Nat):CT:=cV (tW n [] [lW n]) ⟨125,[(169, .v (.st 4))], .cons (.v (.sl (.st 4))) (.cons (.fn (.func 126) .nil (.cons (.bS 0) .nil)) .nil), .cons (.v .bool) .nil,[], .nil,[],[]⟩ (λx=>cY n x.2.1 x.1) u1 m1
def iC(n:Nat)(a0:br)(a1:Int):Option Bool:=lt ({At:=a1,N:=1}:av) λax=>bd (nj n ax) λbp=>cl (bp==true) (cY n a0.l ax) default λcU=>some (bp&&cU)
def n8(n:Nat):CT:=cV (tW n [] [tN n,kx n]) (kU 102 [.s 25, .i] [.b]) (a2 (iC n)) u1 m1
def pK(n:Nat)(a0:br)(a1:Int):Option (Int×Bool):=bd (pJ n a0) λax=>bd (jt n ax) λcU=>yD (λ(mg:Int×av) k28 (u27:Unit)=>lt (mg.1:Int) λ_=>lt (mg.2:av) λdW=>cn ((decide (1<=a1)&&decide (a1<=dW.N))) (some (dW.At,true)) (k28 ())) (λ(u27:Unit)=>some (0,false)) cU ()
def D6(n:Nat):CT:=cV (tX n [(5, .loop [(.via 4, .box 3 (.unk 1)),(.via 5, .box 4 (.unk 1))])] [we n] [] [sU n]) (kU 117 [.s 25, .i] [.t [.i, .b]]) (a2 (pK n)) u2 m2
def eu(n:Nat)(a1:Int):Option Unit:=lt (λ(u21:Unit)=>cn (decide (0<(wr .i64 (a1-0)))) (gu (Mg (wr .i64 (a1-0)) 16)<|some ()) (some ())) λYO=>cn (decide (a1<0)) (none) (YO ())
namespace H
theorem vZ{n a1 r}(h:eu n a1=some r):Bw.Fn (α:=Value) Tryz.prog 145 [.slice none 0 0, .int .i64 a1] (λ_ =>True) [] (λv=>uV v 0) (λv=>v) (λv=>[rY v 169 2 bO []]):=by
 unfold eu at h;refine uH Tryz.func145 (by kernel_rfl) rfl Tryz.ntmps145 rfl (λcx oo hpre hro=>?_);refine SC 5 rf ?_;obtain⟨YO,ajm,h⟩:=AU h;refine CU (α:=Unit) [0,1] rf (λu21=>[]) (λu21=>[]) (λu21=>YO u21=some r) ?_ ?_
 ·
  refine SC 6 rf ?_;refine Ol h rf (λhc h=>?_) λhc h=>?_
  ·cases h
  ·refine DL ?_;exact CE [] (()) h rf rf rf
 ·
  rintro u21 h;replace h:YO u21=some r:=h;replace h:=agL ajm h;refine SC 5 rf ?_;refine bQ rfl (R8 rfl) ?_;refine bQ rfl (cz rfl) ?_;refine bQ rfl (tq (Fz.nil (A:=Hs []) (L:=LB)) rfl) ?_;refine bQ rfl (Qi (X9 rfl rfl rfl) rfl) ?_;refine SL 10 rf ?_;refine Ol h rf (λhc h=>?_) λhc h=>?_
  ·obtain⟨Gn,h⟩:=qo h;refine SC 3 rf ?_;refine bQ rfl (R8 rfl) ?_;refine bQ rfl (K8 rfl rfl) ?_;refine bQ rfl (cz rfl) ?_;refine A4 rfl (abp (q:= .i64) (bytes:=16) bO (by kernel_rfl) rfl rfl Gn) (λ⟨b24,ajN⟩ _ =>?_);refine bQ rfl (cz rfl) ?_;refine bQ rfl (tq (Fz.nil (A:=Hs []) (L:=LB)) rfl) ?_;refine bQ rfl (Yk rfl rfl) ?_;refine SL 10 rf ?_;have h:=sj h;subst h;exact Aa (.slice (some ⟨b24,0,none⟩) 0 ajN) rfl (.tmp rfl .nil) ⟨_,_,rfl⟩ rfl (ks:=[0]) rfl (by decide)
  ·refine SC 9 rf ?_;refine aa3 169 2 bO ?_;have h:=sj h;subst h;exact Aa (.slice none 0 0) rfl (.tmp rfl .nil) ⟨_,_,rfl⟩ rfl (ks:=[0]) rfl (by decide)
end H
def vI(n:Nat):Ct Tryz.prog sg:=
 letI:bq ((Ty.st 4).L sg):=inferInstanceAs (bq bO)
 ajM (λa=>eu n a) (by kernel_rfl) (Xh (t:= .st 4) rfl λa1 r h=>H.vZ h)
def oz(n:Nat)(a0:(List (List av))):Option (List av):=fe (λk27 (bA:Int) (cM:Int)=>cn (decide (cM<(a0.length:Int))) (gu (dH cM a0.length)<|cn (decide ((wr .i64 (bA+((a0.getD (Int.toNat cM) default).length:Int)))<0)) (none) (k27 (wr .i64 (bA+((a0.getD (Int.toNat cM) default).length:Int))) (wr .i64 (cM+1)))) (bd (eu n bA) λ_=>fe (λk45 (gN:(List av)) (o5:Int)=>cn (decide (o5<(a0.length:Int))) (gu (dH o5 a0.length)<|gu (ig gN.length (a0.getD (Int.toNat o5) default).length 16)<|lt (gN++(a0.getD (Int.toNat o5) default):List av) λCp=>k45 Cp (wr .i64 (o5+1))) (some gN)) n ([]:List av) 0)) n 0 0
def y6(n:Nat):CT:=cV (tW n [(7, .loop [(.dS 3,(.v (.int .i64))),(.dS 11,(.v (.int .i64)))]),(23, .loop [(.dS 6,(.row 169 2 (.st 4))),(.dS 27,(.v (.int .i64)))])] [vI n]) ⟨137,[], .cons (.v (.sl (.sl (.st 4)))) .nil, .cons (.row 169 2 (.st 4)) .nil,[none], .nil,[],[]⟩ (a1 (oz n)) u1 m1
def ni(n:Nat)(a0:av)(a1:av):Option Bool:=bd (mI n a0 a1) λax=>some ax
def BI(n:Nat):CT:=cV (tW n [] [wh n]) ⟨135,[(169, .v (.st 4))], .cons (.v (.st 4)) (.cons (.bS 0) .nil), .cons (.v .bool) .nil,[], .nil,[],[]⟩ (λx=>ni n x.2.1 x.1) u1 m1
def bW(n:Nat)(a0:(List av))(gJ:av):Option Int:=iv (λNv (bp:Int)=>cn (decide (bp<(a0.length:Int))) (gu (dH bp a0.length)<|bd (ni n (a0.getD (Int.toNat bp) default) gJ) λcJ=>cn (cJ) (some bp) (Nv (wr .i64 (bp+1)))) (some (-1))) n 0
def lf(n:Nat):CT:=cV (tW n [(5, .loop [(.dS 8,(.v (.int .i64)))])] [BI n]) ⟨136,[(169, .v (.st 4))], .cons (.v (.sl (.st 4))) (.cons (.fn (.func 135) .nil (.cons (.bS 0) .nil)) .nil), .cons (.v (.int .i64)) .nil,[], .nil,[],[]⟩ (λx=>bW n x.2.1 x.1) u1 m1
def fF(n:Nat)(cS:(List av))(dg:(List av))(dz:(List av)):Option (List av):=cn (decide ((wr .i64 (0+(cS.length:Int)))<0)) (none) (cn (decide ((wr .i64 ((wr .i64 (0+(cS.length:Int)))+(dg.length:Int)))<0)) (none) (cn (decide ((wr .i64 ((wr .i64 ((wr .i64 (0+(cS.length:Int)))+(dg.length:Int)))+(dz.length:Int)))<0)) (none) (bd (eu n (wr .i64 ((wr .i64 ((wr .i64 (0+(cS.length:Int)))+(dg.length:Int)))+(dz.length:Int)))) λ_=>gu (ig ([]:List av).length cS.length 16)<|lt (([]:List av)++cS:List av) λdZ=>gu (ig dZ.length dg.length 16)<|lt (dZ++dg:List av) λeB=>gu (ig eB.length dz.length 16)<|lt (eB++dz:List av) λcN=>some cN)))
def jY(n:Nat)(a0:br)(a1:Int)(a2:Int):Option (br×Bool):=lt ({At:=a1,N:=a2}:av) λax=>bd (nj n ax) λbp=>cn ((!bp)) (some (a0,false)) (bd (bW n a0.l ax) λdP=>cn (decide (dP<0)) (some (a0,false)) (gu (dH dP a0.l.length)<|lt ((a0.l.getD (Int.toNat dP) default):av) λdW=>lt (λ(dI:(List av))=>lt (λ(Kg:(List av))=>gu (dH dP (a0.l.length+1))<|gu (dH (wr .i64 (dP+1)) (a0.l.length+1))<|bd (fF n (a0.l.take (Int.toNat dP)) Kg (a0.l.drop (Int.toNat (wr .i64 (dP+1))))) λMS=>lt ({l:=MS}:br) λKc=>some (Kc,true)) λj51=>bd (bL n ax) λMU=>bd (bL n dW) λOD=>cn (decide (MU<OD)) (bd (bL n ax) λow=>bd (bL n dW) λuW=>bd (bL n ax) λHt=>lt ({At:=ow,N:=wr .i64 (uW-Ht)}:av) λMT=>gu (ig dI.length 1 16)<|lt (dI++([MT]):List av) λOC=>j51 OC) (j51 dI)) λj40=>cn (decide (dW.At<ax.At)) (lt ({At:=dW.At,N:=wr .i64 (ax.At-dW.At)}:av) λiw=>gu (ig ([]:List av).length 1 16)<|lt (([]:List av)++([iw]):List av) λyu=>j40 yu) (j40 ([]:List av))))
theorem adh{n:Nat}{a b c:List av}:oz (n+4) [a,b,c]=fF n a b c:=by kernel_rfl
def qD(n:Nat)(a0:br)(a1:Int)(a2:Int):Option (br×Bool):=lt ({At:=a1,N:=a2}:av) λax=>bd (nj n ax) λbp=>cn ((!bp)) (some (a0,false)) (bd (bW n a0.l ax) λdP=>cn (decide (dP<0)) (some (a0,false)) (gu (dH dP a0.l.length)<|lt ((a0.l.getD (Int.toNat dP) default):av) λdW=>lt (λ(dI:(List av))=>lt (λ(Kg:(List av))=>gu (dH dP (a0.l.length+1))<|gu (dH (wr .i64 (dP+1)) (a0.l.length+1))<|bd (oz (n+4) [a0.l.take (Int.toNat dP),Kg,a0.l.drop (Int.toNat (wr .i64 (dP+1)))]) λMS=>lt ({l:=MS}:br) λKc=>some (Kc,true)) λj51=>bd (bL n ax) λMU=>bd (bL n dW) λOD=>cn (decide (MU<OD)) (bd (bL n ax) λow=>bd (bL n dW) λuW=>bd (bL n ax) λHt=>lt ({At:=ow,N:=wr .i64 (uW-Ht)}:av) λMT=>gu (ig dI.length 1 16)<|lt (dI++([MT]):List av) λOC=>j51 OC) (j51 dI)) λj40=>cn (decide (dW.At<ax.At)) (lt ({At:=dW.At,N:=wr .i64 (ax.At-dW.At)}:av) λiw=>gu (ig ([]:List av).length 1 16)<|lt (([]:List av)++([iw]):List av) λyu=>j40 yu) (j40 ([]:List av))))
theorem EY(n:Nat)(a0:br)(a1:Int)(a2:Int):qD n a0 a1 a2=jY n a0 a1 a2:=by unfold qD jY;simp only[adh]
def D5(n:Nat):CT:=cV (tW n [(24, .join [(.dS 12,(.row 169 2 (.st 4)))] []),(28, .join [(.dS 12,(.row 169 2 (.st 4)))] [])] [tN n,lf n,tO n,y6 (n+4)]) (kU 118 [.s 25, .i, .i] [.t [.s 25, .b]]) (a3 (jY n)) u2 m2 (hW:=λx=>Eq.trans (b:=qD n x.1 x.2.1 x.2.2.1) (by kernel_rfl) (EY ..))
def gS(n:Nat)(a0:aC):Option aC:=some a0
def pD(n:Nat):CT:=cV (tW n [] []) ⟨138,[], .cons (.v (.st 5)) .nil, .cons (.fn (.func 146) .nil (.cons (.box 66 (.v (.st 5))) .nil)) .nil,[none], .nil,[],[]⟩ (a1 (gS n)) u1 m1
def gi(n:Nat)(a1:aC):Option (List (Int×av)):=fe (λk39 (eB:Int) (cL:Int)=>cn (decide (cL<(a1.aN.length:Int))) (gu (dH cL a1.aN.length)<|lt ((a1.aN.getD (Int.toNat cL) default):av) λiw=>yl (eB,iw)<|k39 (wr .i64 (eB+(wr .i64 (iw.N*32)))) (wr .i64 (cL+1))) (some [])) n 0 0
def nV(n:Nat):It Tryz.prog sg:=mkI (tX n [(5, .loop [(.dS 3,(.v (.int .i64))),(.dS 9,(.v (.int .i64)))])] [] [] []) 3000 146 (.cons (.box 66 (.v (.st 5))) .nil) (.cons (.v (.int .i64)) (.cons (.v (.st 4)) .nil)) (.int (.st (G:=sg) (i:=4) (λ(x:av)=>cZ.enc bO x) (λJ cs x=>bq.iff (L:=bO)) .nil)) (B:=Int×av) (λy=>(y.1,(y.2,()))) (λx=>(x.1,x.2.1)) (λx=>gi n x.1) (λ_ =>rfl) (by kernel_rfl) (λx=>by kernel_rfl)
def jW(n:Nat)(a0:aC)(a1:Int):Option (Int×Bool):=bd (gS n a0) λax=>bd (gi n ax) λcU=>yD (λ(mg:Int×av) k28 (u27:Unit)=>lt (mg.1:Int) λcN=>lt (mg.2:av) λdW=>cn ((decide (cN<=a1)&&decide (a1<(wr .i64 (cN+(wr .i64 (dW.N*32))))))) (lt (wr .i64 ((wr .i64 ((wr .i64 (dW.At*32))+a1))-cN):Int) λdI=>some (dI,true)) (k28 ())) (λ(u27:Unit)=>some (0,false)) cU ()
def yy(n:Nat):CT:=cV (tX n [(5, .loop [(.via 4, .box 3 (.unk 1)),(.via 5, .box 4 (.unk 1))])] [pD n] [] [nV n]) (kU 120 [.s 5, .i] [.t [.i, .b]]) (a2 (jW n)) u2 m2
def dw(n:Nat)(a0:aC):Option Int:=bd (gS n a0) λax=>bd (gi n ax) λcU=>yD (λ(u7:Int×av) k29 (dP:Int)=>lt (u7.1:Int) λ_=>lt (u7.2:av) λcN=>lt (wr .i64 (dP+cN.N):Int) λnC=>k29 nC) (λ(dP:Int)=>some dP) cU 0
def iV(n:Nat):CT:=cV (tX n [(7, .loop [(.via 3, .box 3 (.v (.int .i64)))])] [pD n] [] [nV n]) (kU 209 [.s 5] [.i]) (a1 (dw n)) u1 m1
def gj(n:Nat)(a0:aC):Option Bool:=fe (λk38 (gV:Int) (dh:br)=>cn (decide (gV<(a0.aN.length:Int))) (gu (dH gV a0.aN.length)<|lt ((a0.aN.getD (Int.toNat gV) default):av) λtM=>bd (mH n dh tM.At tM.N) λiw=>cn ((!iw.2)) (some false) (k38 (wr .i64 (gV+1)) iw.1)) (cl ((decide (0<=a0.er))==true) (dw n a0) default λMU=>some (decide (0<=a0.er)&&decide (a0.er<=(wr .i64 (MU*32)))))) n 0 kD
def sQ(n:Nat):CT:=cV (tW n [(7, .loop [(.dS 11,(.v (.int .i64))),(.via 3, .box 179 (.v (.st 25)))])] [wg n,iV n]) (kU 171 [.s 5] [.b]) (a1 (gj n)) u1 m1
def pI(n:Nat)(a0:(List Int))(a1:Int):Option Int:=iv (λNv (bp:Int)=>cn (decide (bp<(a0.length:Int))) (gu (dH bp a0.length)<|cn ((a1==(a0.getD (Int.toNat bp) default))) (some bp) (Nv (wr .i64 (bp+1)))) (some (-1))) n 0
def AL(n:Nat):CT:=cV (tW n [(5, .loop [(.dS 8,(.v (.int .i64)))])] []) (kU 292 [.v (.sl (.int .i64)), .i] [.i]) (a2 (pI n)) u1 m1
def gQ(n:Nat)(a0:(List Int))(a1:Int):Option Bool:=bd (pI n a0 a1) λax=>some (decide (0<=ax))
def xb(n:Nat):CT:=cV (tW n [] [AL n]) (kU 280 [.v (.sl (.int .i64)), .i] [.b]) (a2 (gQ n)) u1 m1
def lK(n:Nat)(a0:Int)(a1:Int):Option Bool:=cl ((decide (1<=a0)&&decide (a0<=128))==true) (gQ n ([1,2,4,8]:List Int) a1) default λdZ=>some ((decide (1<=a0)&&decide (a0<=128))&&dZ)
def ya(n:Nat)(a0:Int)(a1:Int):Option Bool:=cn (decide (1<=a0)&&decide (a0<=128)) (bd (gQ n ([1,2,4,8]:List Int) a1) λx=>some x) (some false)
theorem Gr(n:Nat)(a0 a1:Int):ya n a0 a1=lK n a0 a1:=aeq
def xX(n:Nat):CT:=cV (tW n [] [xb n]) (kU 244 [.i, .i] [.b]) (a2 (lK n)) u1 m1 (hW:=λx=>Eq.trans (b:=ya n x.1 x.2.1) (by kernel_rfl) (Gr ..))
def p6(n:Nat)(a0:Int)(a1:Int):Option (Int×Bool):=bd (lK n a0 a1) λax=>cn ((!ax)) (some (0,false)) (some (wr .i64 (Int.tdiv (wr .i64 ((wr .i64 (a0+32))-1)) 32),true))
def HF(n:Nat):CT:=cV (tW n [] [xX n]) (kU 206 [.i, .i] [.t [.i, .b]]) (a2 (p6 n)) u2 m2
def jD(n:Nat)(a0:Int)(a1:Int):Option Int:=some (AF .i64 (wr .i64 ((wr .i64 (a0+a1))-1)) (wr .i64 (a1-1)))
def xe(n:Nat):CT:=cV (tW n [] []) ⟨245,[(3, .v (.int .i64))], .cons (.v (.int .i64)) (.cons (.bS 0) .nil), .cons (.v (.int .i64)) .nil,[], .nil,[],[]⟩ (λx=>jD n x.2.1 x.1) u1 m1
def gI(n:Nat)(a0:aC)(a1:Int)(a2:Int):Option (Int×Bool):=bd (lK n a1 a2) λax=>cn ((!ax)) (some (0,false)) (bd (jD n a0.er a2) λbp=>bd (dw n a0) λbA=>cn (decide ((wr .i64 (bA*32))<(wr .i64 (bp+a1)))) (some (0,false)) (some (bp,true)))
def rB(n:Nat):CT:=cV (tW n [] [xX n,xe n,iV n]) (kU 208 [.s 5, .i, .i] [.t [.i, .b]]) (a3 (gI n)) u2 m2
def fO(n:Nat)(a0:aC)(a1:av):Option aC:=gu (ig a0.aN.length 1 16)<|lt (a0.aN++([a1]):List av) λcM=>bd (dw n a0) λdP=>lt ({aN:=cM,er:=wr .i64 (dP*32)}:aC) λeF=>some eF
namespace H
theorem uL{a0 K}[Cg K]{v0}(f0:Fz K v0 bO a0):FnW Tryz.prog 246 [v0] K (yp v0):=by refine uH Tryz.func246 (by kernel_rfl) rfl Tryz.ntmps246 rfl (λcx oo hpre hro=>?_);haveI:=adp oo hpre;refine SC 9 rf ?_;refine bQ rfl (tq f0 rfl) ?_;refine bQ rfl (cz rfl) ?_;refine bQ rfl (tq f0 rfl) ?_;refine bQ rfl (Yl f0 rfl rfl rfl) ?_;refine SL 4 rf ?_;skip;skip;exact RV rf (rt rf rn) rf
abbrev ij:cZ aC:=cZ.via (LP (LSl bO) (LI .i64)) (λx=>(x.aN,x.er))
def iG:List Value:=[.slice none 0 0]++([.int .i64 0])
theorem nf{A:World->Prop}:ij.fg A iG cQ:=⟨_,_,rfl,⟨_,rfl,Fz.nil⟩,rfl⟩
theorem Am:aV ij (LSl bO) 0 (λx=>x.aN) (λx v=>{x with aN:=v}):=(aV.fst aV.id).via _ _ _ 0 rfl (λ_ =>rfl) (λ_ _ =>rfl)
theorem yI{n:Nat}{a0:aC}{r:Int}{R:List aE}(hg:Uk sg (Hs R)){vX:List Value}(f0:(ij).fg (Hs R) vX a0)(h:dw n a0=some r):FnW Tryz.prog 209 [.agg vX.toArray] (Hs R) (.int .i64 r):=by
 obtain⟨c1,c2,e0,k0,k1⟩:=f0;exact Fn.pre (zL (ct:=iV n) (nc:=[]) (ρ:=λ_ =>none) (x:=(a0,())) (y:=(r,())) ⟨r,h,rfl⟩ hg (λJ hJ=>⟨_,_,rfl,Ms (t:= .st 5) (cZ.mono _ hJ ⟨c1,c2,e0,agx k0,k1⟩) rfl,rfl⟩) rfl rfl (λJ _ r o e=>by cases e) (λ_ _ =>rfl) λJ σ u us ⟨_,_,e,h1,_⟩=>by
  cases e;have h1:[u]=[.int .i64 _]:=h1;cases h1;rfl) λw hw=>λw' hs=>Cg.ok w w' hw hs
theorem zV{n a0 a1 r}{R:List aE}(hg:Uk sg (Hs R)){vX}(f0:(ij).fg (Hs R) vX a0)(h:fO n a0 a1=some r):FnB Tryz.prog 210 [A vX, .agg (bO.enc a1).toArray] (Hs R) (λJ v=>∃u0,v=(A u0)/\(ij).fg (λw=>(Hs R) w/\J w) u0 (r)):=by
 unfold fO at h;refine fo Tryz.func210 (by kernel_rfl) rfl Tryz.ntmps210 rfl λcx _ hro oo hpre=>?_;refine SC 2 rf ?_;refine W1 rf (Sc rfl) λ_=>?_;refine W1 rf (ou bO a1 rfl rfl) λ_=>?_;refine W1 rf (Ag (hz:=(⟨by kernel_rfl⟩:jH Tryz.prog 66 iG))) λ_=>?_;refine SL 3 rf ?_;obtain⟨Gn,h⟩:=qo h;obtain⟨cM,S7,h⟩:=AU h;obtain⟨dP,ajb,h⟩:=tg h;obtain⟨eF,aja,h⟩:=AU h;refine RZ abM (.Sy [] [(0,[2]),(1,[5]),(2,[6]),(3,[3]),(6,[2])] (.alt 4 [8] (.Sy [(0,[2]),(1,[5]),(2,[6]),(6,[2])] [] (.alt 5 [7,9] (.Sy [(6,[2])] [(7,[11]),(8,[12]),(9,[10,13])] (.alt 10 [4,14] (.fin [] []) .no)) .no)) .no)) (by kernel_rfl) ?_;refine T0 ?_;refine NS 1 rf ?_;obtain⟨v21,agY,f22⟩:=Am.sl f0;refine NV rf rf (tn rfl agY) ?_;refine NC rf rf (uL (K:=(Hs R)) (f22.mono ent)) rf ?_;refine NV rf rf (kY (M:=bO) (aV.id (L:=bO)) rfl rfl) ?_;refine NV rf rf (Ce rfl (cZ.len _ f0)) ?_;refine wV ?_;refine X1 rf rf (MI bO a1 rfl rfl rfl rfl (by decide) (by decide)) λb9 _ =>?_;refine MG ?_ ?_
 ·refine RSn 1 rf rf ?_;refine RO rf rf (tn rfl agY) rf ?_;refine RO rf rf (MF (uL (K:=(Hs R)) (f22.mono ent)) rfl kn) rf ?_;refine RO rf rf (Ce rfl (cZ.len _ f0)) rf ?_;exact Oj
 refine wV ?_;refine X1 rf rf (YB (sz:=2) (L:=bO) (xs:=a0.aN) (y:=a1) (bytes:=16) f22 rfl rfl rfl (uP Gn).1 (uP Gn).2) λv25 aah=>?_;rw[← S7]at aah;rw[← S7];refine MG ?_ ?_
 ·refine RO rf rf (Ce rfl (cZ.len _ f0)) rf ?_;exact Oj
 refine NC rf rf (yI (R:=R) hg (mo f0) ajb) rf ?_;refine NS 1 rf ?_;obtain⟨c30,ajr,f31⟩:∃cc,([v25]++((LI .i64).enc (wr .i64 (dP*32))))=cc/\(ij).fg (Hs [rY v25 169 2 bO cM]) cc eF:=⟨_,rfl,by rw[aja];exact⟨_,_,rfl,⟨_,rfl,(Fz.row (e:=169) (sz:=2) (L:=bO) (xs:=cM) rfl aah).mono ent⟩,fl⟩⟩;refine NV rf rf (Ac (cs:=c30) rfl (by rw[← ajr];first|rfl|(have qz0:=(Fz.row (e:=169) (sz:=2) (L:=bO) (xs:=cM) rfl aah).sl.cells;have pz0:=(Fz.row (e:=169) (sz:=2) (L:=bO) (xs:=cM) rfl aah).sl.size;generalize v25=vz0 at qz0 pz0 ⊢;simp[vx,bX,show∀k i,(Value.int k i).cells= #[Value.int k i]fromλ_ _ =>rfl,show∀q,(Value.bool q).cells= #[Value.bool q]fromλ_ =>rfl,show∀a,(Value.agg a).cells=a fromλ_ =>rfl,qz0,pz0];try rfl))) ?_;refine wV ?_;obtain⟨c32,ajq,f33⟩:=sto (C:=(Hs [rY v25 169 2 bO cM])) (x':=eF) (aV.id (L:=ij)) nf (mo f31) rf;refine X0 rf (RXs ajq rf rf rf rf) ?_;refine F00 ?_;refine SX 2 rf ?_;have h:=sj h;subst h;exact RBu (R:=[rY v25 169 2 bO cM]) [0] rf rf (ra rf (cZ.len _ f33) rn) ⟨_,rfl,(mo f33)⟩
end H
def y8(n:Nat):Ct Tryz.prog sg:=ctV (G:=sg) ⟨210,[], .cons (.v (.st 5)) (.cons (.v (.st 4)) .nil), .cons (.v (.st 5)) .nil,[], .nil,[],[]⟩ (λx=>fO n x.1 x.2.1) (λz=>(z,())) (cQ) (by kernel_rfl) (Xi (λ_ =>rfl) (λ_ =>rfl) rfl λρ R x z vs hg hz hv=>by
 obtain⟨cs,r1,e_1,⟨c1,c2,e0,h0,h1⟩,v1⟩:=Lz hv rfl;obtain⟨cr,r2,e_2,h2,v2⟩:=Lz v1 rfl;have e_0:r2=[]:=v2;subst e_0 e_2 e_1;obtain rfl:=(bq.iff (L:=bO)).1 h2;exact⟨_,H.zV hg ⟨c1,c2,e0,aiT h0,h1⟩ hz,λJ v ⟨u,e,d1,d2,e1,k0,k1⟩=>by
  subst e;exact⟨_,_,rfl,Ms (t:= .st 5) ⟨d1,d2,e1,agx k0,k1⟩ rfl,rfl⟩⟩)
def ia(n:Nat)(a0:aC)(a1:Int)(a2:Int):Option (aC×Int×Bool):=bd (gI n a0 a1 a2) λax=>cn (ax.2) (lt ({a0 with er:=wr .i64 (ax.1+a1)}:aC) λbp=>some (bp,ax.1,ax.2)) (some (a0,ax.1,ax.2))
def AP(n:Nat):CT:=cV (tW n [] [rB n]) (kU 211 [.s 5, .i, .i] [.t [.s 5, .i, .b]]) (a3 (ia n)) u3 m3
def tE(n:Nat)(a0:Int)(a1:Int):Option Int:=some (wr .u32 ((wr .u32 ((Lu .u32 a1 8)+(wr .u32 a0)))+1))
def Fy(n:Nat):CT:=cV (tW n [] []) (kU 153 [.i, .w] [.w]) (a2 (tE n)) u1 m1
def bw(n:Nat)(a0:Int):Option (Int×Bool):=cn (((decide ((wr .i64 ((wr .i64 (tj .u32 a0 255))-1))<0)||decide (32<=(wr .i64 ((wr .i64 (tj .u32 a0 255))-1))))||decide (8388607<(vM .u32 a0 8)))) (some (0,false)) (some (wr .i64 ((wr .i64 (tj .u32 a0 255))-1),true))
def bZ(n:Nat):CT:=cV (tW n [] []) (kU 55 [.w] [.t [.i, .b]]) (a1 (bw n)) u2 m2
def aJ(n:Nat)(a0:cj)(a1:Int):Option Bool:=bd (bw n a1) λax=>gu (!(ax.2==true)||dH ax.1 32)<|lt ({gen:=vM .u32 a1 8,kS:=true,kM:=false}:dQ) λbA=>some (ax.2&&(Aq (a0.bB (Int.toNat ax.1)) bA))
def aS(n:Nat):CT:=cV (tW n [] [bZ n]) (kU 54 [.s 8, .w] [.b]) (a2 (aJ n)) u1 m1
def pX(n:Nat)(a0:cj)(a1:Int):Option (Int×Bool):=gu (!((decide (a1<0)||decide (32<=a1))==false)||dH a1 32)<|cn (((decide (a1<0)||decide (32<=a1))||(!((a0.bB (Int.toNat a1)).kS)))) (some (0,false)) (gu (dH a1 32)<|bd (tE n a1 ((a0.bB (Int.toNat a1)).gen)) λbA=>some (bA,true))
def Ei(n:Nat):CT:=cV (tW n [] [Fy n]) (kU 152 [.s 8, .i] [.t [.w, .b]]) (a2 (pX n)) u2 m2
def l9(n:Nat)(a0:cj):Option (cj×Int×Bool):=iv (λNv (bp:Int)=>cn (decide (bp<32)) (gu (dH bp 32)<|lt ((a0.bB (Int.toNat bp)):dQ) λcJ=>cn ((cJ.kS||cJ.kM)) (Nv (wr .i64 (bp+1))) (gu (dH bp 32)<|lt ({a0 with bB:=(iW a0.bB (Int.toNat bp) ({(a0.bB (Int.toNat bp))with kS:=true}))}:cj) λeF=>bd (tE n bp cJ.gen) λeB=>some (eF,eB,true))) (some (a0,0,false))) n 0
def sV(n:Nat)(a0 b0:cj)(Nv:Int->Option (cj×Int×Bool))(bp:Int):Option (cj×Int×Bool):=cn (decide (bp<32)) (gu (dH bp 32)<|lt ((a0.bB (Int.toNat bp)):dQ) λcJ=>cn ((cJ.kS||cJ.kM)) (Nv (wr .i64 (bp+1))) (gu (dH bp 32)<|lt ({b0 with bB:=(iW b0.bB (Int.toNat bp) ({(b0.bB (Int.toNat bp))with kS:=true}))}:cj) λeF=>bd (tE n bp cJ.gen) λeB=>some (eF,eB,true))) (some (b0,0,false))
def sR(n:Nat)(a0:cj):Option (cj×Int×Bool):=fe (λkk x b=>sV n a0 b (λx=>kk x b) x) n 0 a0
theorem A1(n:Nat)(a0:cj):sR n a0=l9 n a0:=QZ (sV n a0) n 0 a0
def sP(n:Nat):CT:=cV (tW n [(5, .loop [(.dS 9,(.v (.int .i64))),(.via 1, .box 75 (.v (.st 8))),(.via 2, .box 75 (.unk 96))])] [Fy n]) (kU 259 [.s 8] [.t [.s 8, .w, .b]]) (a1 (l9 n)) u3 m3 (hW:=λx=>Eq.trans (b:=sR n x.1) (by kernel_rfl) (A1 ..))
def kg(n:Nat)(a0:cj)(a1:Int):Option (cj×Bool):=bd (aJ n a0 a1) λax=>cn ((!ax)) (some (a0,false)) (bd (bw n a1) λbp=>gu (dH bp.1 32)<|lt ({a0 with bB:=(iW a0.bB (Int.toNat bp.1) ({(a0.bB (Int.toNat bp.1))with kS:=false}))}:cj) λcM=>cn ((((cM.bB (Int.toNat bp.1)).gen)==8388607)) (lt ({cM with bB:=(iW cM.bB (Int.toNat bp.1) ({(cM.bB (Int.toNat bp.1))with kM:=true}))}:cj) λcU=>some (cU,true)) (lt ({cM with bB:=(iW cM.bB (Int.toNat bp.1) ({(cM.bB (Int.toNat bp.1))with gen:=wr .u32 (((cM.bB (Int.toNat bp.1)).gen)+1)}))}:cj) λdZ=>some (dZ,true)))
def tV(n:Nat):CT:=cV (tW n [] [aS n,bZ n]) (kU 287 [.s 8, .w] [.t [.s 8, .b]]) (a2 (kg n)) u2 m2
def ez(n:Nat)(a0:cj):Option (List Int):=fe (λk33 (cJ:(List Int)) (eB:Int)=>cn (decide (eB<32)) (bd (pX n a0 eB) λcN=>cn (cN.2) (gu (ig cJ.length 1 4)<|lt (cJ++([cN.1]):List Int) λnC=>k33 nC (wr .i64 (eB+1))) (k33 cJ (wr .i64 (eB+1)))) (some cJ)) n ([]) 0
def jr(n:Nat):CT:=cV (tW n [(7, .loop [(.dS 3,(.row 28 1 (.int .u32))),(.dS 7,(.v (.int .i64)))])] [Ei n]) ⟨151,[], .cons (.v (.st 8)) .nil, .cons (.row 28 1 (.int .u32)) .nil,[none], .nil,[],[]⟩ (a1 (ez n)) u1 m1
def dD(n:Nat)(a0:aY)(a1:Int):Option (bI×Int):=bd (aJ n a0.fT a1) λax=>cn ((!ax)) (lt ({Region:=0,By:=0,To:=0,nA:=false,vG:=0}:bI) λbp=>some (bp,4)) (bd (bw n a1) λbA=>gu (dH bA.1 16)<|lt ((a0.bB (Int.toNat bA.1)):bI) λcU=>some (cU,0))
def eK(n:Nat):CT:=cV (tW n [] [aS n,bZ n]) (kU 114 [.s 15, .w] [.t [.s 14, .i]]) (a2 (dD n)) u2 m2
def vl(n:Nat)(a0:bI)(a1:Int):Option Bool:=some ((wr .i64 a0.To)==a1)
def AJ(n:Nat):CT:=cV (tW n [] []) ⟨239,[(3, .v (.int .i64))], .cons (.v (.st 14)) (.cons (.bS 0) .nil), .cons (.v .bool) .nil,[], .nil,[],[]⟩ (λx=>vl n x.2.1 x.1) u1 m1
def gX(n:Nat)(a0:aY)(gJ:Int):Option (List Int):=bd (ez n a0.fT) λax=>fe (λJv (cL:(List Int)) (cN:Int)=>cn (decide (cN<(ax.length:Int))) (gu (dH cN ax.length)<|bd (dD n a0 (ax.getD (Int.toNat cN) default)) λgN=>bd (vl n gN.1 gJ) λtM=>cn (tM) (gu (ig cL.length 1 4)<|lt (cL++([(ax.getD (Int.toNat cN) default)]):List Int) λo5=>Jv o5 (wr .i64 (cN+1))) (Jv cL (wr .i64 (cN+1)))) (some cL)) n ([]) 0
def mq(n:Nat):CT:=cV (tW n [(7, .loop [(.dS 5,(.row 28 1 (.int .u32))),(.dS 14,(.v (.int .i64)))])] [jr n,eK n,AJ n]) ⟨238,[(3, .v (.int .i64))], .cons (.v (.st 15)) (.cons (.fn (.func 239) .nil (.cons (.bS 0) .nil)) .nil), .cons (.v (.sl (.int .u32))) .nil,[], .nil,[],[]⟩ (λx=>gX n x.2.1 x.1) u1 m1
def yb(n:Nat)(a0:aY)(a1:Int):Option (List Int):=bd (gX n a0 a1) λax=>some ax
def Cz(n:Nat):CT:=cV (tW n [] [mq n]) (kU 173 [.s 15, .i] [.v (.sl (.int .u32))]) (a2 (yb n)) u1 m1
def l6(n:Nat)(a0:aY)(a1:Int):Option Bool:=cl ((a1==0)==false) (aJ n a0.fT a1) default λax=>some ((a1==0)||ax)
def nD(n:Nat):CT:=cV (tW n [] [aS n]) (kU 286 [.s 15, .w] [.b]) (a2 (l6 n)) u1 m1
def rC(n:Nat)(a0:bI)(a1:Int)(a2:Int)(a3:Bool):Option (Bool×Bool):=lt ((a3||(((a0.Region==a1)&&(a0.vG==a2))&&a0.nA)):Bool) λax=>some (((a0.Region==a1)&&(a0.vG==a2)),ax)
def w9(n:Nat):CT:=cV (tW n [] []) ⟨293,[(28, .v (.int .u32)),(28, .v (.int .u32))], .cons (.v (.st 14)) (.cons (.bS 0) (.cons (.bS 1) (.cons (.box 4 (.v .bool)) .nil))), .cons (.v .bool) (.cons (.box 4 (.v .bool)) .nil),[some 2], .nil,[],[[3]]⟩ (λx=>rC n x.2.2.1 x.1 x.2.1 x.2.2.2.1) u2 m2
def gA(n:Nat)(a0:aY)(gJ:Int)(oP:Int)(I6:Bool):Option ((List Int)×Bool):=bd (ez n a0.fT) λax=>zC (λk39 (gV:(List Int)) (dW:Int) (nC:Bool)=>cn (decide (dW<(ax.length:Int))) (gu (dH dW ax.length)<|bd (dD n a0 (ax.getD (Int.toNat dW) default)) λiw=>bd (rC n iw.1 gJ oP nC) λo5=>cn (o5.1) (gu (ig gV.length 1 4)<|lt (gV++([(ax.getD (Int.toNat dW) default)]):List Int) λyu=>k39 yu (wr .i64 (dW+1)) o5.2) (k39 gV (wr .i64 (dW+1)) o5.2)) (some (gV,nC))) n ([]) 0 I6
def kH(n:Nat):CT:=cV (tW n [(7, .loop [(.dS 5,(.row 28 1 (.int .u32))),(.dS 14,(.v (.int .i64))),(.cap 1 2, .box 4 (.v .bool))])] [jr n,eK n,w9 n]) ⟨238,[(28, .v (.int .u32)),(28, .v (.int .u32))], .cons (.v (.st 15)) (.cons (.fn (.func 293) .nil (.cons (.bS 0) (.cons (.bS 1) (.cons (.box 4 (.v .bool)) .nil)))) .nil), .cons (.v (.sl (.int .u32))) (.cons (.box 4 (.v .bool)) .nil),[some 2], .nil,[],[[1,2]]⟩ (λx=>gA n x.2.2.1 x.1 x.2.1 x.2.2.2.1) u2 m2
def kK(n:Nat)(a0:aY)(a1:Int)(a2:Int):Option (Int×Bool):=bd (gA n a0 a1 a2 false) λax=>some ((ax.1.length:Int),ax.2)
def mB(n:Nat):CT:=cV (tW n [] [kH n]) (kU 285 [.s 15, .w, .w] [.t [.i, .b]]) (a3 (kK n)) u2 m2
def wm(n:Nat)(a0:aY)(a1:bI):Option Int:=bd (dD n a0 a1.vG) λax=>bd (kK n a0 a1.Region a1.vG) λbp=>bd (l6 n a0 a1.vG) λbA=>cn ((!bA)) (some 4) (cn ((((decide (8<=a1.By)||decide (8<=a1.To))||(a1.By==a1.To))||(a1.Region==0))) (some 2) (cn (((a1.vG !=0)&&(((ax.1.Region !=a1.Region)||(ax.1.To !=a1.By))||(a1.nA&&(!ax.1.nA))))) (some 12) (cn ((bp.2||(a1.nA&&decide (0<bp.1)))) (some 5) (some 0))))
def BE(n:Nat):CT:=cV (tW n [] [eK n,mB n,nD n]) (kU 258 [.s 15, .s 14] [.i]) (a2 (wm n)) u1 m1
def vm(n:Nat)(a0:aY)(a1:bI):Option (aY×Int×Int):=bd (wm n a0 a1) λax=>cn ((ax !=0)) (some (a0,0,ax)) (bd (l9 n a0.fT) λbp=>bd (bw n bp.2.1) λbA=>cn (((!bA.2)||decide (16<=bA.1))) (some (a0,0,7)) (lt ({a0 with fT:=bp.1}:aY) λcM=>gu (dH bA.1 16)<|lt ({cM with bB:=(iW cM.bB (Int.toNat bA.1) a1)}:aY) λdZ=>some (dZ,bp.2.1,0)))
def AK(n:Nat):CT:=cV (tW n [] [BE n,sP n,bZ n]) (kU 225 [.s 15, .s 14] [.t [.s 15, .w, .i]]) (a2 (vm n)) u3 m3
def gP(n:Nat)(a0:aY)(a1:(List Int)):Option aY:=fe (λk28 (cM:Int) (cU:aY)=>cn (decide (cM<(a1.length:Int))) (gu (dH cM a1.length)<|bd (kg n cU.fT (a1.getD (Int.toNat cM) default)) λeB=>lt ({cU with fT:=eB.1}:aY) λcL=>k28 (wr .i64 (cM+1)) cL) (some cU)) n 0 a0
def w8(n:Nat):CT:=cV (tW n [(5, .loop [(.dS 9,(.v (.int .i64))),(.via 2, .box 92 (.v (.st 15)))])] [tV n]) (kU 262 [.s 15, .v (.sl (.int .u32))] [.s 15]) (a2 (gP n)) u1 m1
def jX(n:Nat)(a0:bI)(a1:Int):Option Bool:=some (a0.vG==a1)
def ei(n:Nat)(a0:aY)(gJ:Int):Option (List Int):=bd (ez n a0.fT) λax=>fe (λJv (cL:(List Int)) (cN:Int)=>cn (decide (cN<(ax.length:Int))) (gu (dH cN ax.length)<|bd (dD n a0 (ax.getD (Int.toNat cN) default)) λgN=>bd (jX n gN.1 gJ) λtM=>cn (tM) (gu (ig cL.length 1 4)<|lt (cL++([(ax.getD (Int.toNat cN) default)]):List Int) λo5=>Jv o5 (wr .i64 (cN+1))) (Jv cL (wr .i64 (cN+1)))) (some cL)) n ([]) 0
def iX:Nat->Int->(List (Int×Bool))->aY->Option (List (Int×Bool))
 |0,_,_,_ =>none
 |n+1,a0,a1,a2=>
 lt (uC a1 a0 true:(List (Int×Bool))) λax=>
 bd (ei n a2 a0) λbp=>
 fe (λJv (dh:Int) (cN:(List (Int×Bool)))=>
 cn (decide (dh<(bp.length:Int))) (
 gu (dH dh bp.length)<|
 bd (iX n (bp.getD (Int.toNat dh) default) cN a2) λgN=>
 Jv (wr .i64 (dh+1)) gN) (
 some cN)) n 0 ax
def iq(n:Nat)(a0:aY)(a1:Int):Option (aY×(List Int)×Int):=bd (aJ n a0.fT a1) λax=>cn ((!ax)) (some (a0,([]:List Int),4)) (bd (iX n a1 ([]:List (Int×Bool)) a0) λbA=>bd (ez n a0.fT) λcM=>fe (λk40 (cN:(List Int)) (dI:Int)=>cn (decide (dI<(cM.length:Int))) (gu (dH dI cM.length)<|cn ((oH bA (cM.getD (Int.toNat dI) default) false)) (gu (ig cN.length 1 4)<|lt (cN++([(cM.getD (Int.toNat dI) default)]):List Int) λrW=>k40 rW (wr .i64 (dI+1))) (k40 cN (wr .i64 (dI+1)))) (bd (gP n a0 cN) λyO=>some (yO,cN,0))) n ([]) 0)
namespace H
instance:Gw Tryz.prog 342 28 4 .u32:=⟨⟨by kernel_rfl,by kernel_rfl⟩⟩
instance:Gw Tryz.prog 350 5 25 .u8:=⟨⟨by kernel_rfl,by kernel_rfl⟩⟩
instance:Qn Tryz.prog 4 (Value.bool false):=⟨by kernel_rfl⟩
instance:Qn Tryz.prog 25 .nilFunc:=⟨by kernel_rfl⟩
theorem GO(x y:dQ):Value.bool (yF [(0,some .u32),(1,none),(2,none)] (cm.enc x) (cm.enc y))= .bool (Aq x y):=congrArg Value.bool (by show((x.gen==y.gen)&&((x.kS==y.kS)&&((x.kM==y.kM)&&true)))=(x.gen==y.gen&&x.kS==y.kS&&x.kM==y.kM);simp[Bool.and_assoc])
theorem N8{n a0 a1 r}(h:tE n a0 a1=some r):FnV Tryz.prog 153 [.int .i64 a0, .int .u32 a1] (.int .u32 r):=by unfold tE at h;refine uH Tryz.func153 (by kernel_rfl) rfl Tryz.ntmps153 rfl (λcx oo hpre hro=>?_);refine SC 8 rf ?_;refine bQ rfl (R1 rfl rfl (by decide)) ?_;refine SL 8 rf ?_;have h:=sj h;subst h;exact RV rf (rt rf rn) rf
theorem mT{n a0 r}(h:bw n a0=some r):FnV Tryz.prog 55 [.int .u32 a0] (.tuple #[.int .i64 r.1, .bool r.2]):=by
 unfold bw at h;refine uH Tryz.func55 (by kernel_rfl) rfl Tryz.ntmps55 rfl (λcx oo hpre hro=>?_);refine SC 9 rf ?_;refine bQ rfl (abm rfl rfl) ?_;refine SL 11 rf ?_;refine GB rf rf rf (λhb=>cz rfl) ?_;refine GB rf rf rf (λhb=>Qm (Mi rfl hb) rfl) ?_;refine bQ rfl (R3 rfl rfl) ?_;refine bQ rfl (cz rfl) ?_;refine GB rf rf rf (λhb=>cz rfl) ?_;refine GB rf rf rf (λhb=>MA (Mi rfl hb) rfl (by decide)) ?_;refine GB rf rf rf (λhb=>Yi (Mi rfl hb) rfl) ?_;refine bQ rfl (R3 rfl rfl) ?_;refine SL 2 rf ?_;refine Ol h rf (λhc h=>?_) λhc h=>?_
 ·refine SC 8 rf ?_;have h:=sj h;subst h;exact RV rf (rt rf (rt rf rn)) rf
 ·refine SC 10 rf ?_;have h:=sj h;subst h;exact RV rf (rt rf (rt rf rn)) rf
theorem oL{n a0 a1 r}(h:aJ n a0 a1=some r):FnV Tryz.prog 54 [.agg (aO.enc a0).toArray, .int .u32 a1] (.bool r):=by unfold aJ at h;refine uH Tryz.func54 (by kernel_rfl) rfl Tryz.ntmps54 rfl (λcx oo hpre hro=>?_);refine SC 2 rf ?_;refine W1 rf (ou aO a0 rfl rfl) λ_=>?_;obtain⟨ax,Ip,h⟩:=tg h;refine SL 6 rf ?_;refine CV (mT Ip) rf rf ?_;obtain⟨PA,h⟩:=qo h;obtain⟨bA,Pu,h⟩:=AU h;refine SL 11 rf ?_;refine GB rf rf rf (λhb=>cz rfl) ?_;refine GB rf rf rf (λhb=>K7 rfl) ?_;refine GB rf rf rf (λhb=>AH (m:=(Int.toNat ax.1)) (Mi rfl hb) (Mi rfl hb) (cq (Im PA hb)).1 (cq (Im PA hb)).2) ?_;refine GB rf rf rf (λhb=>kY (M:=cm) (dU.c0 (aV.idx (L:=cm) (m:=32) (k:=3) ((Int.toNat ax.1)) (cq (Im PA hb)).2 rfl)) (Mi rfl hb) rfl) ?_;refine GB rf rf rf (λhb=>cz rfl) ?_;refine GB rf rf rf (λhb=>MA (Mi rfl hb) rfl (by decide)) ?_;refine GB rf rf rf (λhb=>Ac (cs:=cm.enc bA) (NN (Mi rfl hb) (NN rfl rfl)) (by rw[Pu];rfl)) ?_;refine GB rf rf rf (λhb=>Qi (MD (cs:=cm.enc (a0.bB (Int.toNat ax.1))) (ds:=cm.enc bA) (Mi rfl hb) (Mi rfl hb) rfl rfl) (GO _ _)) ?_;refine bQ rfl (Jd rfl rfl) ?_;refine SL 4 rf ?_;have h:=sj h;subst h;exact RV rf (rt rf rn) rf
theorem E4{n a0 a1 r}(h:pX n a0 a1=some r):FnV Tryz.prog 152 [.agg (aO.enc a0).toArray, .int .i64 a1] (.tuple #[.int .u32 r.1, .bool r.2]):=by
 unfold pX at h;refine uH Tryz.func152 (by kernel_rfl) rfl Tryz.ntmps152 rfl (λcx oo hpre hro=>?_);refine SC 2 rf ?_;refine W1 rf (ou aO a0 rfl rfl) λ_=>?_;obtain⟨adL,h⟩:=qo h;refine SL 10 rf ?_;refine GB rf rf rf (λhb=>cz rfl) ?_;refine GB rf rf rf (λhb=>Qm (Mi rfl hb) rfl) ?_;refine bQ rfl (R3 rfl rfl) ?_;refine bQ rfl (cz rfl) ?_;refine GB rf rf rf (λhb=>cz rfl) ?_;refine GB rf rf rf (λhb=>K7 rfl) ?_;refine GB rf rf rf (λhb=>AH (m:=(Int.toNat a1)) (Mi rfl hb) (Mi rfl hb) (cq (Im adL hb)).1 (cq (Im adL hb)).2) ?_;refine GB rf rf rf (λhb=>DM (Mi rfl hb)) ?_;refine GB rf rf rf (λhb=>aeQ ((dU.c0 (aV.idx (L:=cm) (m:=32) (k:=3) ((Int.toNat a1)) (cq (Im adL hb)).2 rfl)).comp mX) (Mi rfl hb)) ?_;refine GB rf rf rf (λhb=>Cd (Mi rfl hb)) ?_;refine bQ rfl (R3 rfl rfl) ?_;refine SL 2 rf ?_;refine Ol h rf (λhc h=>?_) λhc h=>?_
 ·refine SC 8 rf ?_;have h:=sj h;subst h;exact RV rf (rt rf (rt rf rn)) rf
 ·obtain⟨PA,h⟩:=qo h;obtain⟨bA,Pu,h⟩:=tg h;refine SC 7 rf ?_;refine bQ rfl (AH (m:=(Int.toNat a1)) rfl rfl (cq PA).1 (cq PA).2) ?_;refine bQ rfl (DM rfl) ?_;refine bQ rfl (E9 ((dU.c0 (aV.idx (L:=cm) (m:=32) (k:=3) ((Int.toNat a1)) (cq PA).2 rfl)).comp jI) rfl) ?_;refine CV (N8 Pu) rf rf ?_;refine SL 5 rf ?_;have h:=sj h;subst h;exact RV rf (rt rf (rt rf rn)) rf
theorem B9{n a0 a1 r}(h:kg n a0 a1=some r):FnV Tryz.prog 287 [.agg (aO.enc a0).toArray, .int .u32 a1] (.tuple #[.agg (aO.enc r.1).toArray, .bool r.2]):=by
 unfold kg at h;refine uH Tryz.func287 (by kernel_rfl) rfl Tryz.ntmps287 rfl (λcx oo hpre hro=>?_);refine SC 2 rf ?_;refine W1 rf (ou aO a0 rfl rfl) λ_=>?_;refine W1 rf (wU (L:=aO) (z:=iF) ⟨by kernel_rfl⟩) λ_=>?_;obtain⟨ax,Ip,h⟩:=tg h;refine SL 6 rf ?_;refine bQ rfl (kY (M:=aO) (aV.id (L:=aO)) rfl rfl) ?_;refine bQ rfl (cz rfl) ?_;refine CV (oL Ip) rf rf ?_;refine SL 3 rf ?_;refine Ol h rf (λhc h=>?_) λhc h=>?_
 ·refine SC 2 rf ?_;refine bQ rfl (kY (M:=aO) (aV.id (L:=aO)) rfl rfl) ?_;refine W0 (wT (M:=aO) (aV.id (L:=aO)) a0 a0 rfl rfl rfl rfl rfl) ?_;refine SL 5 rf ?_;have h:=sj h;subst h;exact RV rf (ra rf (iz _ _) (rt rf rn)) rf
 ·
  obtain⟨bp,Wz,h⟩:=tg h;refine SC 5 rf ?_;refine CV (mT Wz) rf rf ?_;obtain⟨Gn,h⟩:=qo h;refine SL 11 rf ?_;refine bQ rfl (AH (m:=(Int.toNat bp.1)) rfl rfl (cq Gn).1 (cq Gn).2) ?_;obtain⟨cM,S7,h⟩:=AU h;refine SL 8 rf ?_;refine W0 (wT (M:=LB) ((dU.c0 (aV.idx (L:=cm) (m:=32) (k:=3) ((Int.toNat bp.1)) (cq Gn).2 rfl)).comp mX) false cM S7 rfl rfl rfl rfl) ?_;refine SL 8 rf ?_;refine bQ rfl (E9 ((dU.c0 (aV.idx (L:=cm) (m:=32) (k:=3) ((Int.toNat bp.1)) (cq Gn).2 rfl)).comp jI) rfl) ?_;refine SL 3 rf ?_;refine Ol h rf (λhc h=>?_) λhc h=>?_
  ·obtain⟨cU,adv,h⟩:=AU h;refine SC 4 rf ?_;refine W0 (wT (M:=LB) ((dU.c0 (aV.idx (L:=cm) (m:=32) (k:=3) ((Int.toNat bp.1)) (cq Gn).2 rfl)).comp qy) true cU adv rfl rfl rfl rfl) ?_;refine SL 4 rf ?_;refine bQ rfl (kY (M:=aO) (aV.id (L:=aO)) rfl rfl) ?_;refine W0 (wT (M:=aO) (aV.id (L:=aO)) cU cU rfl rfl rfl rfl rfl) ?_;refine SL 4 rf ?_;have h:=sj h;subst h;exact RV rf (ra rf (iz _ _) (rt rf rn)) rf
  ·obtain⟨dZ,ajc,h⟩:=AU h;refine SC 4 rf ?_;refine bQ rfl (E9 ((dU.c0 (aV.idx (L:=cm) (m:=32) (k:=3) ((Int.toNat bp.1)) (cq Gn).2 rfl)).comp jI) rfl) ?_;refine SL 3 rf ?_;refine W0 (wT (M:=(LI .u32)) ((dU.c0 (aV.idx (L:=cm) (m:=32) (k:=3) ((Int.toNat bp.1)) (cq Gn).2 rfl)).comp jI) (wr .u32 (((cM.bB (Int.toNat bp.1)).gen)+1)) dZ ajc rfl rfl rfl rfl) ?_;refine SL 4 rf ?_;refine bQ rfl (kY (M:=aO) (aV.id (L:=aO)) rfl rfl) ?_;refine W0 (wT (M:=aO) (aV.id (L:=aO)) dZ dZ rfl rfl rfl rfl rfl) ?_;refine SL 4 rf ?_;have h:=sj h;subst h;exact RV rf (ra rf (iz _ _) (rt rf rn)) rf
theorem rL{n a0 r}(h:ez n a0=some r):Bw.Fn (α:=Value) Tryz.prog 151 [.agg (aO.enc a0).toArray] (λ_ =>True) [] (λv=>uV v r.length) (λv=>v) (λv=>[rY v 28 1 (LI .u32) r]):=by
 unfold ez at h;refine uH Tryz.func151 (by kernel_rfl) rfl Tryz.ntmps151 rfl (λcx oo hpre hro=>?_);refine SC 2 rf ?_;refine W1 rf (ou aO a0 rfl rfl) λb1=>?_;refine SL 15 rf ?_;refine My 28 1 (LI .u32) ?_;obtain⟨adn,WR,h⟩:=Ns h;refine LO (β:=(List Int)×Int×Value) [1] [0,1] (λ(m32,cJ,eB,Zc)=>[(3,Zc),(7, .int .i64 eB)]) (λ(m32,cJ,eB,Zc)=>[rY Zc 28 1 (LI .u32) cJ, .cells b1 75 (aO.enc a0)]) (λ(m32,cJ,eB,Zc)=>uV Zc cJ.length/\fe adn m32 cJ eB=some r) (n,[],0, .slice none 0 0) ⟨⟨_,_,rfl⟩,h⟩ rf rf rf ?_;rintro m32 ⟨cJ,eB,Zc⟩ ⟨ag7,h⟩;replace h:=KI WR h;obtain⟨m32,rfl,h⟩:=h;refine SC 6 rf ?_;refine Ol h rf (λhc h=>?_) λhc h=>?_
 ·
  obtain⟨cN,ai8,h⟩:=tg h;refine SC 12 rf ?_;refine bQ rfl (kY (M:=aO) (aV.id (L:=aO)) rfl rfl) ?_;refine bQ rfl (cz rfl) ?_;refine CV (E4 ai8) rf rf ?_;refine SL 12 rf ?_;refine Ol h rf (λhc h=>?_) λhc h=>?_
  ·obtain⟨Td,h⟩:=qo h;obtain⟨nC,agX,h⟩:=AU h;refine SC 3 rf ?_;refine A4 rfl (MI (LI .u32) cN.1 rfl rfl rfl rfl (by decide) (by decide)) (λb19 _ =>?_);refine A4 rfl (MJ (sz:=1) (L:=(LI .u32)) (xs:=cJ) (y:=cN.1) (bytes:=4) rfl rfl rfl (uP Td).1 (uP Td).2) (λv37 WD=>?_);rw[← agX]at WD;rw[← agX];refine SL 8 rf ?_;exact LN [1,2] (nC,wr .i64 (eB+1),v37) ⟨WD,h⟩ rf rf rf
  ·refine SC 7 rf ?_;exact LN [0,1] (cJ,wr .i64 (eB+1),Zc) ⟨ag7,h⟩ rf rf rf
 ·refine SC 12 rf ?_;have h:=sj h;subst h;exact Aa Zc rfl (.tmp rfl .nil) ag7 rfl (ks:=[0]) rfl (by decide)
theorem B8{n a0 a1 r}(h:dD n a0 a1=some r):FnV Tryz.prog 114 [.agg (aA.enc a0).toArray, .int .u32 a1] (.tuple #[.agg (bE.enc r.1).toArray, .int .i64 r.2]):=by
 unfold dD at h;refine uH Tryz.func114 (by kernel_rfl) rfl Tryz.ntmps114 rfl (λcx oo hpre hro=>?_);refine SC 2 rf ?_;refine W1 rf (ou aA a0 rfl rfl) λ_=>?_;refine W1 rf (wU (L:=bE) (z:=iE) ⟨by kernel_rfl⟩) λ_=>?_;obtain⟨ax,Ip,h⟩:=tg h;refine SL 7 rf ?_;refine bQ rfl (kY (M:=aO) fz rfl rfl) ?_;refine bQ rfl (cz rfl) ?_;refine CV (oL Ip) rf rf ?_;refine SL 3 rf ?_;refine Ol h rf (λhc h=>?_) λhc h=>?_
 ·obtain⟨bp,Wz,h⟩:=AU h;refine SC 2 rf ?_;refine bQ rfl (Ac (cs:=bE.enc bp) rfl (by rw[Wz];rfl)) ?_;refine W0 (wT (M:=bE) (aV.id (L:=bE)) bp bp rfl rfl rfl rfl rfl) ?_;refine SL 5 rf ?_;have h:=sj h;subst h;exact RV rf (ra rf (iz _ _) (rt rf rn)) rf
 ·obtain⟨bA,Pu,h⟩:=tg h;refine SC 5 rf ?_;refine CV (mT Pu) rf rf ?_;obtain⟨adK,h⟩:=qo h;obtain⟨cU,adv,h⟩:=AU h;refine SL 11 rf ?_;refine bQ rfl (Oe (m:=(Int.toNat bA.1)) rfl rfl (cq adK).1 (cq adK).2) ?_;refine bQ rfl (kY (M:=bE) (rQ.comp (aV.idx (L:=bE) (m:=16) (k:=5) ((Int.toNat bA.1)) (cq adK).2 rfl)) rfl rfl) ?_;refine W0 (wT (M:=bE) (aV.id (L:=bE)) (a0.bB (Int.toNat bA.1)) cU adv rfl rfl rfl rfl) ?_;refine SL 4 rf ?_;have h:=sj h;subst h;exact RV rf (ra rf (iz _ _) (rt rf rn)) rf
theorem xI{n a0 a1 r K}[Cg K]{v1}(f1:Fz K v1 (LI .u32) a1)(h:gP n a0 a1=some r):FnW Tryz.prog 262 [.agg (aA.enc a0).toArray,v1] K (.agg (aA.enc r).toArray):=by
 unfold gP at h;refine fo Tryz.func262 (by kernel_rfl) rfl Tryz.ntmps262 rfl λcx _ hro oo hpre=>?_;refine SC 2 rf ?_;refine W1 rf (ou aA a0 rfl rfl) λb2=>?_;refine W1 rf (wU (L:=aA) (z:=dY) ⟨by kernel_rfl⟩) λb4=>?_;refine SL 6 rf ?_;refine bQ rfl (tq f1 rfl) ?_;refine SL 4 rf ?_;obtain⟨aiV,ahg,h⟩:=Ns h;refine LO (β:=Int×aY) [2,4,7,8] [0,1] (λ(m27,cM,cU)=>[(9, .int .i64 cM)]) (λ(m27,cM,cU)=>[.cells b4 92 (aA.enc dY), .cells b2 92 (aA.enc cU)]) (λ(m27,cM,cU)=>fe aiV m27 cM cU=some r) (n,0,a0) h rf rf rf ?_;rintro m27 ⟨cM,cU⟩ h;replace h:=KI ahg h;obtain⟨m27,rfl,h⟩:=h;refine SC 6 rf ?_;refine Ol h rf (λhc h=>?_) λhc h=>?_
 ·obtain⟨adJ,h⟩:=qo h;refine SC 6 rf ?_;refine bQ rfl (Ab (m:=(Int.toNat cM)) f1 rfl rfl rfl (cq adJ).1 (cq adJ).2) ?_;refine bQ rfl (AG f1 (aV.idx (L:=(LI .u32)) (m:=(a1.length)) (k:=1) ((Int.toNat cM)) (cq adJ).2 rfl) rfl) ?_;obtain⟨eB,ai9,h⟩:=tg h;obtain⟨cL,Pt,h⟩:=AU h;refine SL 5 rf ?_;refine bQ rfl (kY (M:=aO) fz rfl rfl) ?_;refine bQ rfl (cz rfl) ?_;refine CV (B9 ai9) rf rf ?_;refine SL 4 rf ?_;refine W0 (wT (M:=aO) fz eB.1 cL Pt rfl rfl rfl rfl) ?_;refine SL 7 rf ?_;exact LN [0,1] (wr .i64 (cM+1),cL) h rf rf rf
 ·refine SC 7 rf ?_;refine bQ rfl (kY (M:=aA) (aV.id (L:=aA)) rfl rfl) ?_;refine W0 (wT (M:=aA) (aV.id (L:=aA)) cU cU rfl rfl rfl rfl rfl) ?_;refine SL 3 rf ?_;have h:=sj h;subst h;exact RV rf (ra rf (iz _ _) rn) rf
theorem u9{n a0 a1 r q1}(h:jX n a0 a1=some r):Bw.Fn (α:=Unit) Tryz.prog 261 [.agg (bE.enc a0).toArray,dO q1 0] (Ul (bF [.cells q1 28 ((LI .u32).enc a1)]) (λ_ =>True)) [.cells q1 28 ((LI .u32).enc a1)] (λ_ =>True) (λ_ =>(.bool r)) (λ_ =>[.cells q1 28 ((LI .u32).enc a1)]):=by unfold jX at h;refine uH Tryz.func261 (by kernel_rfl) rfl Tryz.ntmps261 rfl (λcx oo hpre hro=>?_);refine SC 2 rf ?_;refine W1 rf (ou bE a0 rfl rfl) λ_=>?_;refine SL 6 rf ?_;refine bQ rfl (E9 sW rfl) ?_;refine bQ rfl (E9 (aV.id (L:=(LI .u32))) rfl) ?_;refine SL 5 rf ?_;have h:=sj h;subst h;exact Aa () rfl (.tmp rfl .nil) trivial rfl (ks:=[1]) rfl (by decide)
theorem jT{n a0 gJ r O7}(h:ei n a0 gJ=some r):FnC Tryz.prog 238 [.agg (aA.enc a0).toArray, .func (.func 261) #[] #[dO O7 0]] (λ_ =>True) [.cells O7 28 ((LI .u32).enc gJ)] (λJ v ho=>∃u0,v=(u0)/\ho=[.cells O7 28 ((LI .u32).enc gJ)]/\Fz J u0 (LI .u32) (r)):=by
 unfold ei at h;refine uH Tryz.func238 (by kernel_rfl) rfl Tryz.ntmps238 rfl (λcx oo hpre hro=>?_);refine SC 2 rf ?_;refine W1 rf (ou aA a0 rfl rfl) λb2=>?_;obtain⟨ax,Ip,h⟩:=tg h;refine SL 12 rf ?_;refine bQ rfl (kY (M:=aO) fz rfl rfl) ?_;refine A4 rfl (Sb (rL Ip) rfl (λ_ _ _ =>trivial)) (λv23 adA=>?_);dsimp only[List.cons_append,List.nil_append];refine bQ rfl (tq (Fz.row (e:=28) (sz:=1) (L:=(LI .u32)) (xs:=ax) rfl adA) rfl) ?_;refine SL 4 rf ?_;refine My 28 1 (LI .u32) ?_;obtain⟨adl,WO,h⟩:=Ns h;refine LO (β:=(List Int)×Int×Value) [1,2,12,13] [0,1,2,3] (λ(Wh,cL,cN,OL)=>[(5,OL),(14, .int .i64 cN)]) (λ(Wh,cL,cN,OL)=>[rY OL 28 1 (LI .u32) cL,rY v23 28 1 (LI .u32) ax, .cells b2 92 (aA.enc a0), .cells O7 28 ((LI .u32).enc gJ)]) (λ(Wh,cL,cN,OL)=>uV OL cL.length/\fe adl Wh cL cN=some r) (n,[],0, .slice none 0 0) ⟨⟨_,_,rfl⟩,h⟩ rf rf rf ?_;rintro Wh ⟨cL,cN,OL⟩ ⟨ag6,h⟩;replace h:=KI WO h;obtain⟨Wh,rfl,h⟩:=h;refine SC 6 rf ?_;refine Ol h rf (λhc h=>?_) λhc h=>?_
 ·
  obtain⟨Pz,h⟩:=qo h;refine SC 6 rf ?_;refine bQ rfl (Ab (m:=(Int.toNat cN)) (Fz.row (e:=28) (sz:=1) (L:=(LI .u32)) (xs:=ax) rfl adA) rfl rfl rfl (cq Pz).1 (cq Pz).2) ?_;refine bQ rfl (AG (Fz.row (e:=28) (sz:=1) (L:=(LI .u32)) (xs:=ax) rfl adA) (aV.idx (L:=(LI .u32)) (m:=(ax.length)) (k:=1) ((Int.toNat cN)) (cq Pz).2 rfl) rfl) ?_;obtain⟨gN,adu,h⟩:=tg h;refine SL 5 rf ?_;refine bQ rfl (kY (M:=aA) (aV.id (L:=aA)) rfl rfl) ?_;refine bQ rfl (cz rfl) ?_;refine CV (B8 adu) rf rf ?_;refine SL 3 rf ?_;refine W1 rf (wU (L:=bE) (z:=iE) ⟨by kernel_rfl⟩) λb8=>?_;refine W0 (wT (M:=bE) (aV.id (L:=bE)) gN.1 gN.1 rfl rfl rfl rfl rfl) ?_;obtain⟨tM,aag,h⟩:=tg h;refine SL 6 rf ?_;refine bQ rfl (kY (M:=bE) (aV.id (L:=bE)) rfl rfl) ?_;refine A4 rfl (Af (K:=(λ_ =>True)) (nc:=[.cells O7 28 ((LI .u32).enc gJ)]) (rest:=[.cells b8 89 (bE.enc gN.1),rY OL 28 1 (LI .u32) cL,rY v23 28 1 (LI .u32) ax, .cells b2 92 (aA.enc a0)]) (ks:=[4,0,1,2,3]) (u9 aag) rfl rfl rfl rfl (by decide)) (λ_ _ =>?_);dsimp only[List.cons_append,List.nil_append];refine SL 2 rf ?_;refine Ol h rf (λhc h=>?_) λhc h=>?_
  ·obtain⟨Ta,h⟩:=qo h;obtain⟨o5,agV,h⟩:=AU h;refine SC 3 rf ?_;refine A4 rfl (MI (LI .u32) (ax.getD (Int.toNat cN) default) rfl rfl rfl rfl (by decide) (by decide)) (λb29 _ =>?_);refine A4 rfl (MJ (sz:=1) (L:=(LI .u32)) (xs:=cL) (y:=(ax.getD (Int.toNat cN) default)) (bytes:=4) rfl rfl rfl (uP Ta).1 (uP Ta).2) (λv43 ag5=>?_);rw[← agV]at ag5;rw[← agV];refine SL 8 rf ?_;exact LN [3,4,5,1] (o5,wr .i64 (cN+1),v43) ⟨ag5,h⟩ rf rf rf
  ·refine SC 7 rf ?_;exact LN [2,3,4,0] (cL,wr .i64 (cN+1),OL) ⟨ag6,h⟩ rf rf rf
 ·refine SC 12 rf ?_;have h:=sj h;subst h;refine E7 (R:=[rY OL 28 1 (LI .u32) cL]) (H':=[.cells O7 28 ((LI .u32).enc gJ)]) (ks:=[0,3]) rfl (by decide) ?_;have p45:Fz (Hs [.ext (bF [rY OL 28 1 (LI .u32) cL]) (Hs [rY OL 28 1 (LI .u32) cL])]) OL (LI .u32) cL:=(Fz.row (e:=28) (sz:=1) (L:=(LI .u32)) (xs:=cL) rfl ag6).mono ent;exact Aa (OL,[.cells O7 28 ((LI .u32).enc gJ)],bF [rY OL 28 1 (LI .u32) cL],Hs [rY OL 28 1 (LI .u32) cL]) rfl (.tmp rfl .nil) ⟨_,rfl,rfl,p45⟩ rfl (ks:=[0,1]) rfl (by decide)
theorem wQ{n a0 a1 a2 r}{q1 m1:Nat}{q2:Nat}{q3:Nat}(h:iX n a0 a1 a2=some r):Bw.Fn (α:=Unit) Tryz.prog 260 [.int .u32 a0,dO q1 0,dO q2 0,dO q3 0] (Ul (bF [.cells q1 342 [.map (some m1)],Mp m1 .u32 Value.bool a1, .cells q2 92 (aA.enc a2), .cells q3 294 [.func (.func 260) #[] #[dO q1 0,dO q2 0,dO q3 0]]]) (λ_ =>True)) [.cells q1 342 [.map (some m1)],Mp m1 .u32 Value.bool a1, .cells q2 92 (aA.enc a2), .cells q3 294 [.func (.func 260) #[] #[dO q1 0,dO q2 0,dO q3 0]]] (λ_ =>True) (λ_ =>(.tuple #[])) (λ_ =>[.cells q1 342 [.map (some m1)],Mp m1 .u32 Value.bool r, .cells q2 92 (aA.enc a2), .cells q3 294 [.func (.func 260) #[] #[dO q1 0,dO q2 0,dO q3 0]]]):=by
 induction n generalizing a0 a1 a2 r q1 m1 q2 q3 with
 |zero=>cases h
 |succ n ih=>
 rw[iX]at h;refine uH Tryz.func260 (by kernel_rfl) rfl Tryz.ntmps260 rfl (λcx oo hpre hro=>?_);refine SC 2 rf ?_;refine W1 rf (ou (LI .u32) a0 rfl rfl) λb4=>?_;obtain⟨ax,Ip,h⟩:=AU h;refine SL 4 rf ?_;refine bQ rfl (tn rfl rfl) ?_;refine bQ rfl (E9 (aV.id (L:=(LI .u32))) rfl) ?_;refine F1 (MH true rfl rfl rfl rfl) (λ_ _ =>?_);rw[← Ip];obtain⟨bp,Wz,h⟩:=tg h;refine SL 4 rf ?_;refine bQ rfl (kY (M:=aA) (aV.id (L:=aA)) rfl rfl) ?_;refine bQ rfl (rO rfl) ?_;refine A4 rfl (Af (K:=(λ_ =>True)) (nc:=[.cells b4 28 ((LI .u32).enc a0)]) (rest:=[.cells q1 342 [.map (some m1)],Mp m1 .u32 Value.bool ax, .cells q2 92 (aA.enc a2), .cells q3 294 [.func (.func 260) #[] #[dO q1 0,dO q2 0,dO q3 0]]]) (ks:=[0,1,2,3,4]) (jT Wz) rfl rfl rfl rfl (by decide)) (λ⟨w23,aj4,aes,J25⟩ aji=>?_);obtain⟨Zc,rfl,rfl,f27⟩:=aji;replace f27:Fz (Hs [.ext aes J25]) w23 (LI .u32) bp:=f27;dsimp only[List.cons_append,List.nil_append];refine bQ rfl (tq f27 rfl) ?_;refine SL 4 rf ?_;obtain⟨adl,WO,h⟩:=Ns h;refine LO (β:=Int×(List (Int×Bool))) [3,11,12] [0,1,2,3,4,5] (λ(Wh,dh,cN)=>[(13, .int .i64 dh)]) (λ(Wh,dh,cN)=>[.ext aes J25, .cells b4 28 ((LI .u32).enc a0), .cells q1 342 [.map (some m1)],Mp m1 .u32 Value.bool cN, .cells q2 92 (aA.enc a2), .cells q3 294 [.func (.func 260) #[] #[dO q1 0,dO q2 0,dO q3 0]]]) (λ(Wh,dh,cN)=>fe adl Wh dh cN=some r) (n,0,ax) h rf rf rf ?_;rintro Wh ⟨dh,cN⟩ h;replace h:=KI WO h;obtain⟨Wh,rfl,h⟩:=h;refine SC 6 rf ?_;refine Ol h rf (λhc h=>?_) λhc h=>?_
 ·obtain⟨Pz,h⟩:=qo h;refine SC 6 rf ?_;refine bQ rfl (Ab (m:=(Int.toNat dh)) f27 rfl rfl rfl (cq Pz).1 (cq Pz).2) ?_;refine bQ rfl (AG f27 (aV.idx (L:=(LI .u32)) (m:=(bp.length)) (k:=1) ((Int.toNat dh)) (cq Pz).2 rfl) rfl) ?_;obtain⟨gN,adu,h⟩:=tg h;refine SL 4 rf ?_;refine bQ rfl (tn rfl rfl) ?_;refine bQ rfl (cz rfl) ?_;refine A4 rfl (Af (K:=(λ_ =>True)) (nc:=[.cells q1 342 [.map (some m1)],Mp m1 .u32 Value.bool cN, .cells q2 92 (aA.enc a2), .cells q3 294 [.func (.func 260) #[] #[dO q1 0,dO q2 0,dO q3 0]]]) (rest:=[.ext aes J25, .cells b4 28 ((LI .u32).enc a0)]) (ks:=[2,3,4,5,0,1]) (ih adu) rfl rfl rfl rfl (by decide)) (λ_ _ =>?_);dsimp only[List.cons_append,List.nil_append];refine SL 7 rf ?_;exact LN [4,5,0,1,2,3] (wr .i64 (dh+1),gN) h rf rf rf
 ·refine SC 4 rf ?_;have h:=sj h;subst h;exact X2 () rfl .nil trivial rfl (ks:=[2,3,4,5]) rfl (by decide)
theorem yG{n a0 a1 r}(h:iq n a0 a1=some r):FnB Tryz.prog 226 [.agg (aA.enc a0).toArray, .int .u32 a1] (λ_ =>True) (λJ v=>∃u1,v=(.tuple #[.agg (aA.enc r.1).toArray,u1, .int .i64 r.2.2])/\Fz J u1 (LI .u32) (r.2.1)):=by
 unfold iq at h;refine uH Tryz.func226 (by kernel_rfl) rfl Tryz.ntmps226 rfl (λcx oo hpre hro=>?_);refine SC 2 rf ?_;refine W1 rf (ou aA a0 rfl rfl) λb2=>?_;refine W1 rf (wU (L:=aA) (z:=dY) ⟨by kernel_rfl⟩) λb4=>?_;obtain⟨ax,Ip,h⟩:=tg h;refine SL 8 rf ?_;refine bQ rfl (kY (M:=aO) fz rfl rfl) ?_;refine bQ rfl (cz rfl) ?_;refine CV (oL Ip) rf rf ?_;refine SL 3 rf ?_;refine Ol h rf (λhc h=>?_) λhc h=>?_
 ·refine SC 2 rf ?_;refine bQ rfl (kY (M:=aA) (aV.id (L:=aA)) rfl rfl) ?_;refine W0 (wT (M:=aA) (aV.id (L:=aA)) a0 a0 rfl rfl rfl rfl rfl) ?_;refine SL 6 rf ?_;have h:=sj h;subst h;refine E7 (R:=[]) (H':=[.cells b4 92 (aA.enc a0)]) (ks:=[0]) rfl (by decide) ?_;have p22:Fz (Hs [.ext (bF []) (Hs [])]) (.slice none 0 0) (LI .u32) ([]:List Int):=(Fz.nil (A:=Hs []) (L:=(LI .u32))).mono ent;exact Aa (.tuple #[.agg (aA.enc a0).toArray, .slice none 0 0, .int .i64 4],bF [],Hs []) rfl (.agg rfl inferInstance inferInstance (iz _ _) (.tmp rfl (.tmp rfl .nil))) ⟨_,rfl,p22⟩ rfl (ks:=[0]) rfl (by decide)
 ·
  refine SC 4 rf ?_;refine A4 rfl (Je .u32 Value.bool) (λb18 _ =>?_);refine W1 rf (Ag (hz:=(⟨by kernel_rfl⟩:jH Tryz.prog 342 [.map none]))) λb7=>?_;refine W0 (rP (n:=1) (cs':=[.map (some b18)]) rfl rfl rfl rfl (by decide) (ld rfl) rfl) ?_;refine SL 4 rf ?_;refine W1 rf (Ag (hz:=(⟨by kernel_rfl⟩:jH Tryz.prog 294 [.nilFunc]))) λb8=>?_;refine SL 5 rf ?_;refine W0 (rP (n:=1) (cs':=[.func (.func 260) #[] #[dO b7 0,dO b2 0,dO b8 0]]) rfl rfl rfl rfl (by decide) (ld rfl) rfl) ?_;obtain⟨bA,Pu,h⟩:=tg h;refine SL 4 rf ?_;refine bQ rfl (tn rfl rfl) ?_;refine bQ rfl (cz rfl) ?_;refine A4 rfl (Af (K:=(λ_ =>True)) (nc:=[.cells b7 342 [.map (some b18)],Mp b18 .u32 Value.bool ([]:List (Int×Bool)), .cells b2 92 (aA.enc a0), .cells b8 294 [.func (.func 260) #[] #[dO b7 0,dO b2 0,dO b8 0]]]) (rest:=[.cells b4 92 (aA.enc dY)]) (ks:=[1,2,4,0,3]) (wQ Pu) rfl rfl rfl rfl (by decide)) (λ_ _ =>?_);dsimp only[List.cons_append,List.nil_append];obtain⟨cM,S7,h⟩:=tg h;refine SL 11 rf ?_;refine bQ rfl (kY (M:=aO) fz rfl rfl) ?_;refine A4 rfl (Sb (rL S7) rfl (λ_ _ _ =>trivial)) (λv26 adz=>?_);dsimp only[List.cons_append,List.nil_append];refine bQ rfl (tq (Fz.row (e:=28) (sz:=1) (L:=(LI .u32)) (xs:=cM) rfl adz) rfl) ?_;refine SL 4 rf ?_;refine My 28 1 (LI .u32) ?_;obtain⟨aiU,ahf,h⟩:=Ns h;refine LO (β:=(List Int)×Int×Value) [2,4,7,25,26] [0,1,2,3,4,5,6] (λ(m39,cN,dI,OJ)=>[(9,OJ),(27, .int .i64 dI)]) (λ(m39,cN,dI,OJ)=>[rY OJ 28 1 (LI .u32) cN,rY v26 28 1 (LI .u32) cM, .cells b7 342 [.map (some b18)],Mp b18 .u32 Value.bool bA, .cells b2 92 (aA.enc a0), .cells b8 294 [.func (.func 260) #[] #[dO b7 0,dO b2 0,dO b8 0]], .cells b4 92 (aA.enc dY)]) (λ(m39,cN,dI,OJ)=>uV OJ cN.length/\fe aiU m39 cN dI=some r) (n,[],0, .slice none 0 0) ⟨⟨_,_,rfl⟩,h⟩ rf rf rf ?_;rintro m39 ⟨cN,dI,OJ⟩ ⟨ady,h⟩;replace h:=KI ahf h;obtain⟨m39,rfl,h⟩:=h;refine SC 6 rf ?_;refine Ol h rf (λhc h=>?_) λhc h=>?_
  ·
   obtain⟨Ta,h⟩:=qo h;refine SC 6 rf ?_;refine bQ rfl (Ab (m:=(Int.toNat dI)) (Fz.row (e:=28) (sz:=1) (L:=(LI .u32)) (xs:=cM) rfl adz) rfl rfl rfl (cq Ta).1 (cq Ta).2) ?_;refine bQ rfl (AG (Fz.row (e:=28) (sz:=1) (L:=(LI .u32)) (xs:=cM) rfl adz) (aV.idx (L:=(LI .u32)) (m:=(cM.length)) (k:=1) ((Int.toNat dI)) (cq Ta).2 rfl) rfl) ?_;refine SL 5 rf ?_;refine bQ rfl (tn rfl rfl) ?_;refine bQ rfl (cz rfl) ?_;refine bQ rfl (TR false rfl rfl) ?_;refine SL 2 rf ?_;refine Ol h rf (λhc h=>?_) λhc h=>?_
   ·obtain⟨ahk,h⟩:=qo h;obtain⟨rW,agU,h⟩:=AU h;refine SC 3 rf ?_;refine A4 rfl (MI (LI .u32) (cM.getD (Int.toNat dI) default) rfl rfl rfl rfl (by decide) (by decide)) (λb36 _ =>?_);refine A4 rfl (MJ (sz:=1) (L:=(LI .u32)) (xs:=cN) (y:=(cM.getD (Int.toNat dI) default)) (bytes:=4) rfl rfl rfl (uP ahk).1 (uP ahk).2) (λv44 ag4=>?_);rw[← agU]at ag4;rw[← agU];refine SL 8 rf ?_;exact LN [1,2,3,4,5,6,7] (rW,wr .i64 (dI+1),v44) ⟨ag4,h⟩ rf rf rf
   ·refine SC 7 rf ?_;exact LN [0,1,2,3,4,5,6] (cN,wr .i64 (dI+1),OJ) ⟨ady,h⟩ rf rf rf
  ·obtain⟨yO,ai7,h⟩:=tg h;refine SC 7 rf ?_;refine bQ rfl (kY (M:=aA) (aV.id (L:=aA)) rfl rfl) ?_;refine bQ rfl (cz rfl) ?_;refine CV (xI (K:=(Hs [rY OJ 28 1 (LI .u32) cN])) ((Fz.row (e:=28) (sz:=1) (L:=(LI .u32)) (xs:=cN) rfl ady).mono ent) ai7) rf rf ?_;refine bQ rfl (cz rfl) ?_;refine W0 (wT (M:=aA) (aV.id (L:=aA)) yO yO rfl rfl rfl rfl rfl) ?_;refine SL 5 rf ?_;have h:=sj h;subst h;refine E7 (R:=[rY OJ 28 1 (LI .u32) cN]) (H':=[.cells b4 92 (aA.enc yO)]) (ks:=[0,6]) rfl (by decide) ?_;have p47:Fz (Hs [.ext (bF [rY OJ 28 1 (LI .u32) cN]) (Hs [rY OJ 28 1 (LI .u32) cN])]) OJ (LI .u32) cN:=(Fz.row (e:=28) (sz:=1) (L:=(LI .u32)) (xs:=cN) rfl ady).mono ent;exact Aa (.tuple #[.agg (aA.enc yO).toArray,OJ, .int .i64 0],bF [rY OJ 28 1 (LI .u32) cN],Hs [rY OJ 28 1 (LI .u32) cN]) rfl (.agg rfl inferInstance inferInstance (iz _ _) (.tmp rfl (.tmp rfl .nil))) ⟨_,rfl,p47⟩ rfl (ks:=[0]) rfl (by decide)
end H
def qu(n:Nat):Ct Tryz.prog sg:=ctV (G:=sg) ⟨226,[], .cons (.v (.st 15)) (.cons (.v (.int .u32)) .nil), .cons (.jc (.cons (.v (.st 15)) (.cons (.v (.sl (.int .u32))) (.cons (.v (.int .i64)) .nil)))) .nil,[], .nil,[],[]⟩ (λx=>iq n x.1 x.2.1) (λz=>(z.1,(z.2.1,(z.2.2,())))) (dY,[],0) (by kernel_rfl) (Xi (λ_ =>rfl) (λ_ =>rfl) rfl λρ R x z vs hg hz hv=>by
 letI:bq ((Ty.int .u32).L sg):=inferInstanceAs (bq (LI .u32));obtain⟨cs,r1,e_1,h0,v1⟩:=Lz hv rfl;obtain⟨r2,e_2,v2⟩:=O4 v1;have e_0:r2=[]:=v2;subst e_0 e_2 e_1;have h5:aA.fg (Hs R) cs x.1:=h0;exact⟨_,aaF (H.yG hz) (λ_ _ =>trivial) (by rw[show aA.enc x.1=cs from(bq.iff.1 h5).symm];rfl),λJ v ⟨u,e,h⟩=>by
  subst e;exact⟨_,_,rfl,⟨_,rfl,_,_,rfl,Ms (t:= .st 15) ((bq.iff (L:=aA)).2 rfl) rfl,_,_,rfl,abA (e:= .int .u32) (h.mono λ_ q=>q.2),_,_,rfl,rfl,rfl⟩,rfl⟩⟩)
def vj(n:Nat)(a0:bI)(a1:Int):Option Bool:=some (a0.Region==a1)
def AI(n:Nat):CT:=cV (tW n [] []) ⟨291,[(28, .v (.int .u32))], .cons (.v (.st 14)) (.cons (.bS 0) .nil), .cons (.v .bool) .nil,[], .nil,[],[]⟩ (λx=>vj n x.2.1 x.1) u1 m1
def gW(n:Nat)(a0:aY)(gJ:Int):Option (List Int):=bd (ez n a0.fT) λax=>fe (λJv (cL:(List Int)) (cN:Int)=>cn (decide (cN<(ax.length:Int))) (gu (dH cN ax.length)<|bd (dD n a0 (ax.getD (Int.toNat cN) default)) λgN=>bd (vj n gN.1 gJ) λtM=>cn (tM) (gu (ig cL.length 1 4)<|lt (cL++([(ax.getD (Int.toNat cN) default)]):List Int) λo5=>Jv o5 (wr .i64 (cN+1))) (Jv cL (wr .i64 (cN+1)))) (some cL)) n ([]) 0
def mj(n:Nat):CT:=cV (tW n [(7, .loop [(.dS 5,(.row 28 1 (.int .u32))),(.dS 14,(.v (.int .i64)))])] [jr n,eK n,AI n]) ⟨238,[(28, .v (.int .u32))], .cons (.v (.st 15)) (.cons (.fn (.func 291) .nil (.cons (.bS 0) .nil)) .nil), .cons (.v (.sl (.int .u32))) .nil,[], .nil,[],[]⟩ (λx=>gW n x.2.1 x.1) u1 m1
def n9(n:Nat)(a0:aY)(a1:Int):Option (List Int):=bd (gW n a0 a1) λax=>some ax
def pq(n:Nat):CT:=cV (tW n [] [mj n]) (kU 278 [.s 15, .w] [.v (.sl (.int .u32))]) (a2 (n9 n)) u1 m1
def ug(n:Nat)(a0:aY)(a1:Int):Option aY:=bd (n9 n a0 a1) λax=>bd (gP n a0 ax) λdP=>some dP
def yZ(n:Nat):CT:=cV (tW n [] [pq n,w8 n]) (kU 248 [.s 15, .w] [.s 15]) (a2 (ug n)) u1 m1
def oy(n:Nat)(a0:aY)(a1:Int)(a2:Int):Option Bool:=bd (kK n a0 a1 a2) λax=>bd (l6 n a0 a2) λbp=>some (bp&&(!ax.2))
def q9(n:Nat):CT:=cV (tW n [] [mB n,nD n]) (kU 272 [.s 15, .w, .w] [.b]) (a3 (oy n)) u1 m1
def nJ(n:Nat)(a0:aY)(a1:Int)(a2:Int):Option Bool:=bd (kK n a0 a1 a2) λax=>bd (l6 n a0 a2) λbp=>some (bp&&(ax.1==0))
def qt(n:Nat):CT:=cV (tW n [] [mB n,nD n]) (kU 274 [.s 15, .w, .w] [.b]) (a3 (nJ n)) u1 m1
def mG(n:Nat)(a0:ay)(a1:Int):Option Int:=bd (bw n a1) λax=>gu (dH ax.1 32)<|bd (aJ n a0.fT.lI ((a0.aZ (Int.toNat ax.1)).Up)) λbA=>cn (bA) (some ((a0.aZ (Int.toNat ax.1)).Up)) (some 0)
def wc(n:Nat):CT:=cV (tW n [] [bZ n,aS n]) (kU 56 [.s 10, .w] [.w]) (a2 (mG n)) u1 m1
def eU(n:Nat)(a0:ay)(a1:Int):Option (aP×Int):=bd (aJ n a0.fT.lI a1) λax=>cn ((!ax)) (lt ({Up:=0,gq:=0,E:=cQ,rV:=(λ_ =>0)}:aP) λbp=>some (bp,4)) (bd (bw n a1) λdP=>gu (dH dP.1 32)<|lt ((a0.aZ (Int.toNat dP.1)):aP) λgV=>bd (mG n a0 a1) λdW=>lt ({gV with Up:=dW}:aP) λnC=>some (nC,0))
def fY(n:Nat):CT:=cV (tW n [] [aS n,bZ n,wc n]) (kU 24 [.s 10, .w] [.t [.s 6, .i]]) (a2 (eU n)) u2 m2
def pG(n:Nat)(a0:mF):Option (List Int):=bd (ez n a0.lI) λax=>some ax
def qA(n:Nat):CT:=cV (tW n [] [jr n]) ⟨148,[], .cons (.v (.st 9)) .nil, .cons (.row 28 1 (.int .u32)) .nil,[none], .nil,[],[]⟩ (a1 (pG n)) u1 m1
def mE(n:Nat)(a0:Int):Option Bool:=some (decide (0<=a0)&&decide (a0<=64))
def Bk(n:Nat):CT:=cV (tW n [] []) (kU 279 [.i] [.b]) (a1 (mE n)) u1 m1
def oa(n:Nat)(a0:ay)(a1:Int)(a2:Int):Option (ay×Int×Int):=cl ((a1 !=0)==true) (aJ n a0.fT.lI a1) default λax=>cn (((a1 !=0)&&(!ax))) (some (a0,0,4)) (bd (mE n a2) λcU=>cn ((!cU)) (some (a0,0,2)) (bd (l9 n a0.fT.lI) λeF=>cn ((!eF.2.2)) (some (a0,0,7)) (lt ({a0 with fT:={a0.fT with lI:=eF.1}}:ay) λdh=>bd (bw n eF.2.1) λnC=>lt ({Up:=a1,gq:=a2,E:=cQ,rV:=(λ_ =>0)}:aP) λdI=>gu (dH nC.1 32)<|lt ({dh with aZ:=(iW dh.aZ (Int.toNat nC.1) dI)}:ay) λiw=>some (iw,eF.2.1,0))))
def CA(n:Nat):CT:=cV (tW n [] [aS n,Bk n,sP n,bZ n]) (kU 241 [.s 10, .w, .i] [.t [.s 10, .w, .i]]) (a3 (oa n)) u3 m3
def jj(n:Nat)(a0:ay)(a1:Int)(a2:aP):Option (ay×Int):=bd (aJ n a0.fT.lI a1) λax=>cn ((!ax)) (some (a0,4)) (bd (mE n a2.gq) λcU=>cl ((!cU)==false) (gj n a2.E) default λdP=>cn (((!cU)||(!dP))) (some (a0,2)) (bd (bw n a1) λgV=>gu (dH gV.1 32)<|lt ({a2 with Up:=(a0.aZ (Int.toNat gV.1)).Up}:aP) λcN=>gu (dH gV.1 32)<|lt ({a0 with aZ:=(iW a0.aZ (Int.toNat gV.1) cN)}:ay) λnQ=>some (nQ,0)))
def pz(n:Nat):CT:=cV (tW n [] [aS n,Bk n,sQ n,bZ n]) (kU 247 [.s 10, .w, .s 6] [.t [.s 10, .i]]) (a3 (jj n)) u2 m2
def pH(n:Nat)(a0:ay)(a1:Int)(a2:Int):Option (ay×Int):=bd (aJ n a0.fT.lI a1) λax=>cl (((!ax)==false)&&((a2 !=0)==true)) (aJ n a0.fT.lI a2) default λbp=>cn (((!ax)||((a2 !=0)&&(!bp)))) (some (a0,4)) (iv (λk30 (cJ:Int)=>cn ((cJ !=0)) (cn ((cJ==a1)) (some (a0,12)) (bd (mG n a0 cJ) λcN=>k30 cN)) (bd (bw n a1) λdW=>gu (dH dW.1 32)<|lt ({a0 with aZ:=(iW a0.aZ (Int.toNat dW.1) ({(a0.aZ (Int.toNat dW.1))with Up:=a2}))}:ay) λdI=>some (dI,0))) n a2)
def sF(n:Nat):CT:=cV (tW n [(9, .loop [(.dS 8,(.v (.int .u32))),(.via 6, .box 80 (.unk 480))])] [aS n,wc n,bZ n]) (kU 254 [.s 10, .w, .w] [.t [.s 10, .i]]) (a3 (pH n)) u2 m2
def wo(n:Nat)(a0:ay)(a1:Int):Option (ay×Int):=bd (kg n a0.fT.lI a1) λax=>cn ((!ax.2)) (some (a0,4)) (lt ({a0 with fT:={a0.fT with lI:=ax.1}}:ay) λcU=>bd (bw n a1) λdP=>lt ({Up:=0,gq:=0,E:=cQ,rV:=(λ_ =>0)}:aP) λeF=>gu (dH dP.1 32)<|lt ({cU with aZ:=(iW cU.aZ (Int.toNat dP.1) eF)}:ay) λdh=>some (dh,0))
def BF(n:Nat):CT:=cV (tW n [] [tV n,bZ n]) (kU 281 [.s 10, .w] [.t [.s 10, .i]]) (a2 (wo n)) u2 m2
def td(n:Nat)(a0:ay)(a1:Int):Option (ay×Int):=some (a0,a1)
def tY(n:Nat):CT:=cV (tW n [] []) ⟨250,[], .cons (.v (.st 10)) (.cons (.v (.int .u32)) .nil), .cons (.fn (.func 282) .nil (.cons (.box 80 (.v (.st 10))) (.cons (.box 28 (.v (.int .u32))) .nil))) .nil,[none,none], .nil,[],[]⟩ (a2 (td n)) u2 m2
def pZ(n:Nat)(a1:ay)(a2:Int):Option (List Int):=iv (λk41 (dh:Int)=>bd (eU n a1 dh) λo5=>cn (((o5.2!=0)||(o5.1.Up==0))==false) (yl o5.1.Up<|k41 o5.1.Up) (some [])) n a2
def qI(n:Nat):It Tryz.prog sg:=mkI (tX n [(1, .loop [(.via 2, .box 28 (.v (.int .u32)))])] [fY n] [] []) 3000 282 (.cons (.box 80 (.v (.st 10))) (.cons (.box 28 (.v (.int .u32))) .nil)) (.cons (.v (.int .u32)) .nil) (.int .nil) (B:=Int) (λy=>(y,())) (λx=>(x.1)) (λx=>pZ n x.1 x.2.1) (λ_ =>rfl) (by kernel_rfl) (λx=>by kernel_rfl)
def nt(n:Nat)(a0:ay)(a1:Int):Option Int:=bd (aJ n a0.fT.lI a1) λax=>cn ((!ax)) (some 0) (bd (td n a0 a1) λbp=>bd (pZ n bp.1 bp.2) λcJ=>yD (λ(mg:Int) k31 (eB:Int)=>lt (mg:Int) λ_=>lt (wr .i64 (eB+1):Int) λdI=>k31 dI) (λ(eB:Int)=>some eB) cJ 1)
def ua(n:Nat):CT:=cV (tX n [(11, .loop [(.via 5, .box 3 (.v (.int .i64)))])] [aS n,tY n] [] [qI n]) (kU 242 [.s 10, .w] [.i]) (a2 (nt n)) u1 m1
def jC(n:Nat)(a0:ay)(a1:Int):Option Int:=bd (aJ n a0.fT.lI a1) λax=>cn ((!ax)) (some 0) (bd (td n a0 a1) λbp=>bd (pZ n bp.1 bp.2) λcJ=>yD (λ(mg:Int) k31 (eB:Int)=>lt (mg:Int) λdW=>k31 dW) (λ(eB:Int)=>some eB) cJ a1)
def iA(n:Nat):CT:=cV (tX n [(9, .loop [(.via 3, .box 28 (.v (.int .u32)))])] [aS n,tY n] [] [qI n]) (kU 216 [.s 10, .w] [.w]) (a2 (jC n)) u1 m1
def oq(n:Nat)(a0:ay)(a1:Int)(a2:Int):Option Bool:=bd (aJ n a0.fT.lI a1) λax=>cl ((!ax)==false) (aJ n a0.fT.lI a2) default λbp=>cn (((!ax)||(!bp))) (some false) (lt ((a1==a2):Bool) λbA=>bd (td n a0 a2) λcM=>bd (pZ n cM.1 cM.2) λeF=>yD (λ(mR:Int) k33 (gV:Bool)=>lt (mR:Int) λdI=>lt ((gV||(dI==a1)):Bool) λgN=>k33 gN) (λ(gV:Bool)=>some gV) eF bA)
def pC(n:Nat):CT:=cV (tX n [(11, .loop [(.via 7, .box 4 (.v .bool))])] [aS n,tY n] [] [qI n]) (kU 252 [.s 10, .w, .w] [.b]) (a3 (oq n)) u1 m1
def uG(n:Nat)(a0:ay)(a1:Int)(a2:Int):Option (ay×Int×Int):=bd (oa n a0 a1 a2) λax=>cl (((ax.2.2==0)||(ax.2.2==7))==true) (nt n a0 a1) default λeB=>cn ((((ax.2.2==0)||(ax.2.2==7))&&decide (6<=eB))) (some (a0,0,8)) (some (ax.1,ax.2.1,ax.2.2))
def Ll(n:Nat):CT:=cV (tW n [] [CA n,ua n]) (kU 203 [.s 10, .w, .i] [.t [.s 10, .w, .i]]) (a3 (uG n)) u3 m3
def nX(n:Nat)(a0:Int)(a1:ay)(a2:Int):Option Bool:=bd (eU n a1 a0) λax=>some (ax.1.Up !=a2)
def xW(n:Nat):CT:=cV (tW n [] [fY n]) ⟨149,[(80, .v (.st 10)),(28, .v (.int .u32))], .cons (.v (.int .u32)) (.cons (.bS 0) (.cons (.bS 1) .nil)), .cons (.v .bool) .nil,[], .nil,[],[]⟩ (λx=>nX n x.2.2.1 x.1 x.2.1) u1 m1
def iu(n:Nat)(a0:(List Int))(gJ:ay)(oP:Int):Option Int:=iv (λNv (bp:Int)=>cn (decide (bp<(a0.length:Int))) (gu (dH bp a0.length)<|bd (nX n (a0.getD (Int.toNat bp) default) gJ oP) λcJ=>cn (cJ) (some bp) (Nv (wr .i64 (bp+1)))) (some (-1))) n 0
def eM(n:Nat)(a0:(List Int))(gJ:ay)(oP:Int):Option (Int×List Int):=bd (iu n a0 gJ oP) λi=>some (i,a0)
def gy(n:Nat)(a0:(List Int))(gJ:ay)(oP:Int):Option (Int×List Int):=iv (λNv (bp:Int)=>cn (decide (bp<(a0.length:Int))) (gu (dH bp a0.length)<|bd (nX n (a0.getD (Int.toNat bp) default) gJ oP) λcJ=>cn (cJ) (some (bp,a0)) (Nv (wr .i64 (bp+1)))) (some (-1,a0))) n 0
theorem lZ(n:Nat)(a0:(List Int))(gJ:ay)(oP:Int):gy n a0 gJ oP=eM n a0 gJ oP:=(Nt (λK i=>by simp only[ahJ,ahI,ab4];rfl) n 0).symm
def lX(n:Nat):CT:=cV (tW n [(5, .loop [(.dS 8,(.v (.int .i64)))])] [xW n]) ⟨150,[(80, .v (.st 10)),(28, .v (.int .u32))], .cons (.row 28 1 (.int .u32)) (.cons (.fn (.func 149) .nil (.cons (.bS 0) (.cons (.bS 1) .nil))) .nil), .cons (.v (.int .i64)) (.cons (.row 28 1 (.int .u32)) .nil),[some 2], .nil,[],[[0]]⟩ (λx=>eM n x.2.2.1 x.1 x.2.1) u2 m2 (hW:=λx=>Eq.trans (b:=gy n x.2.2.1 x.1 x.2.1) (by kernel_rfl) (lZ ..))
def eY(n:Nat)(a0:(List Int))(gJ:ay)(oP:Int):Option (List Int):=bd (iu n a0 gJ oP) λax=>cn ((ax==(-1))) (some a0) (zC (λk34 (dP:(List Int)) (eB:Int) (cL:Int)=>cn (decide (cL<(dP.length:Int))) (gu (dH cL dP.length)<|bd (nX n (dP.getD (Int.toNat cL) default) gJ oP) λnC=>cn ((!nC)) (gu (dH eB dP.length)<|lt ((dP.set (Int.toNat eB) (dP.getD (Int.toNat cL) default)):List Int) λnQ=>k34 nQ (wr .i64 (eB+1)) (wr .i64 (cL+1))) (k34 dP eB (wr .i64 (cL+1)))) (gu (dH eB (dP.length+1))<|lt (dP.take (Int.toNat eB)++List.replicate (dP.length-(Int.toNat eB)) 0:List Int) λiw=>gu (dH eB (iw.length+1))<|lt (iw.take (Int.toNat eB):List Int) λyu=>some yu)) n a0 ax (wr .i64 (ax+1)))
def gK(n:Nat)(a0:(List Int))(gJ:ay)(oP:Int):Option (List Int):=bd (eM n a0 gJ oP) λxr=>cn ((xr.1==(-1))) (some xr.2) (zC (λk34 (dP:(List Int)) (eB:Int) (cL:Int)=>cn (decide (cL<(dP.length:Int))) (gu (dH cL dP.length)<|bd (nX n (dP.getD (Int.toNat cL) default) gJ oP) λnC=>cn ((!nC)) (gu (dH eB dP.length)<|lt ((dP.set (Int.toNat eB) (dP.getD (Int.toNat cL) default)):List Int) λnQ=>k34 nQ (wr .i64 (eB+1)) (wr .i64 (cL+1))) (k34 dP eB (wr .i64 (cL+1)))) (gu (dH eB (dP.length+1))<|lt (dP.take (Int.toNat eB)++List.replicate (dP.length-(Int.toNat eB)) 0:List Int) λiw=>gu (dH eB (iw.length+1))<|lt (iw.take (Int.toNat eB):List Int) λyu=>some yu)) n xr.2 xr.1 (wr .i64 (xr.1+1)))
theorem mA(n:Nat)(a0:(List Int))(gJ:ay)(oP:Int):gK n a0 gJ oP=eY n a0 gJ oP:=ab4
def mw(n:Nat):CT:=cV (tW n [(11, .loop [(.dS 0,(.row 28 1 (.int .u32))),(.dS 5,(.v (.int .i64))),(.dS 6,(.v (.int .i64)))]),(1000041, .join [] [])] [lX n,xW n]) ⟨147,[(80, .v (.st 10)),(28, .v (.int .u32))], .cons (.row 28 1 (.int .u32)) (.cons (.fn (.func 149) .nil (.cons (.bS 0) (.cons (.bS 1) .nil))) .nil), .cons (.row 28 1 (.int .u32)) .nil,[none], .nil,[],[]⟩ (λx=>eY n x.2.2.1 x.1 x.2.1) u1 m1 (hW:=λx=>Eq.trans (b:=gK n x.2.2.1 x.1 x.2.1) (by kernel_rfl) (mA ..))
def FK(n:Nat)(a0:ay)(a1:Int):Option (List Int):=bd (aJ n a0.fT.lI a1) λax=>cn ((!ax)) (some ([]:List Int)) (bd (pG n a0.fT) λbA=>bd (eY n bA a0 a1) λcJ=>some cJ)
def JL(n:Nat):CT:=cV (tW n [] [aS n,qA n,mw n]) ⟨143,[], .cons (.v (.st 10)) (.cons (.v (.int .u32)) .nil), .cons (.row 28 1 (.int .u32)) .nil,[none], .nil,[],[]⟩ (a2 (FK n)) u1 m1
def pY(n:Nat)(a0:ay)(a1:Int):Option (Int×ay):=some (a1,a0)
def pB(n:Nat):CT:=cV (tW n [] []) ⟨132,[], .cons (.v (.st 10)) (.cons (.v (.int .u32)) .nil), .cons (.fn (.func 142) .nil (.cons (.box 28 (.v (.int .u32))) (.cons (.box 80 (.v (.st 10))) .nil))) .nil,[none,none], .nil,[],[]⟩ (a2 (pY n)) u2 m2
def jV(n:Nat)(a0:(List Int)):Option (List Int):=zC (λk33 (cJ:(List Int)) (eF:Int) (eB:Int)=>cn (decide (eF<eB)) (gu (dH eB cJ.length)<|gu (dH eF cJ.length)<|gu (dH eF cJ.length)<|lt ((cJ.set (Int.toNat eF) (cJ.getD (Int.toNat eB) default)):List Int) λdI=>gu (dH eB dI.length)<|lt ((dI.set (Int.toNat eB) (cJ.getD (Int.toNat eF) default)):List Int) λtM=>k33 tM (wr .i64 (eF+1)) (wr .i64 (eB-1))) (some cJ)) n a0 0 (wr .i64 ((a0.length:Int)-1))
namespace H
theorem yH{n a0 r v0}(f0:uV v0 a0.length)(h:jV n a0=some r):Bw.Fn (α:=Value) Tryz.prog 144 [v0] (Ul (bF [rY v0 28 1 (LI .u32) a0]) (λ_ =>True)) [rY v0 28 1 (LI .u32) a0] (λv=>v=v0/\uV v r.length) (λv=> .tuple #[]) (λv=>[rY v 28 1 (LI .u32) r]):=by
 unfold jV at h;refine uH Tryz.func144 (by kernel_rfl) rfl Tryz.ntmps144 rfl (λcx oo hpre hro=>?_);refine SC 3 rf ?_;refine bQ rfl (tq (Fz.row (e:=28) (sz:=1) (L:=(LI .u32)) (xs:=a0) rfl f0) rfl) ?_;refine SL 6 rf ?_;obtain⟨adn,WR,h⟩:=agF h;refine LO (β:=(List Int)×Int×Int) [] [0] (λ(m32,cJ,eF,eB)=>[(0,v0),(2, .int .i64 eF),(3, .int .i64 eB)]) (λ(m32,cJ,eF,eB)=>[rY v0 28 1 (LI .u32) cJ]) (λ(m32,cJ,eF,eB)=>uV v0 cJ.length/\zC adn m32 cJ eF eB=some r) (n,a0,0,wr .i64 ((a0.length:Int)-1)) ⟨f0,h⟩ rf rf rf ?_;rintro m32 ⟨cJ,eF,eB⟩ ⟨Pw,h⟩;replace h:=abO WR h;obtain⟨m32,rfl,h⟩:=h;refine SC 8 rf ?_;refine Ol h rf (λhc h=>?_) λhc h=>?_
 ·
  refine SC 4 rf ?_;obtain⟨adI,h⟩:=qo h;obtain⟨Td,h⟩:=qo h;obtain⟨aap,h⟩:=qo h;obtain⟨dI,agW,h⟩:=AU h;obtain⟨aao,h⟩:=qo h;obtain⟨tM,aag,h⟩:=AU h;refine RZ abM (.Sy [] [(0,[0]),(1,[2]),(2,[0]),(3,[3]),(4,[0]),(5,[3]),(6,[18,19]),(7,[20]),(8,[0]),(9,[2]),(10,[22,23]),(11,[24]),(12,[14,15])] (.alt 13 [21,26] (.Sy [(2,[0]),(3,[3])] [(14,[16,17])] (.alt 15 [25,27] (.fin [] []) .no)) .no)) (by kernel_rfl) ?_;refine T0 ?_;refine NS 6 rf ?_;refine NV rf rf (Ab (m:=(Int.toNat eB)) (Fz.row (e:=28) (sz:=1) (L:=(LI .u32)) (xs:=cJ) rfl Pw) rfl rfl rfl (cq adI).1 (cq adI).2) ?_;refine NV rf rf (AG (Fz.row (e:=28) (sz:=1) (L:=(LI .u32)) (xs:=cJ) rfl Pw) (aV.idx (L:=(LI .u32)) (m:=(cJ.length)) (k:=1) ((Int.toNat eB)) (cq adI).2 rfl) rfl) ?_;refine NS 2 rf ?_;refine NV rf rf (Ab (m:=(Int.toNat eF)) (Fz.row (e:=28) (sz:=1) (L:=(LI .u32)) (xs:=cJ) rfl Pw) rfl rfl rfl (cq Td).1 (cq Td).2) ?_;refine NV rf rf (AG (Fz.row (e:=28) (sz:=1) (L:=(LI .u32)) (xs:=cJ) rfl Pw) (aV.idx (L:=(LI .u32)) (m:=(cJ.length)) (k:=1) ((Int.toNat eF)) (cq Td).2 rfl) rfl) ?_;refine NV rf rf (Ab (m:=(Int.toNat eF)) (Fz.row (e:=28) (sz:=1) (L:=(LI .u32)) (xs:=cJ) rfl Pw) rfl rfl rfl (cq aap).1 (cq aap).2) ?_;refine wV ?_;refine X0 rf (Yv (sz:=1) (M:=(LI .u32)) (Int.toNat eF) (aV.idx (L:=(LI .u32)) (m:=(cJ.length)) (k:=1) ((Int.toNat eF)) (cq aap).2 rfl) (cJ.getD (Int.toNat eB) default) dI agW rfl rfl rfl rfl (cq aap).2 rfl rfl) ?_;have WD:uV v0 dI.length:=by rw[agW,List.length_set];exact Pw
  refine MG ?_ ?_
  ·exact RE 2 rf rf
  refine NV rf rf (Ab (m:=(Int.toNat eB)) (Fz.row (e:=28) (sz:=1) (L:=(LI .u32)) (xs:=dI) rfl WD) rfl rfl rfl (cq aao).1 (cq aao).2) ?_;refine wV ?_;refine X0 rf (Yv (sz:=1) (M:=(LI .u32)) (Int.toNat eB) (aV.idx (L:=(LI .u32)) (m:=(dI.length)) (k:=1) ((Int.toNat eB)) (cq aao).2 rfl) (cJ.getD (Int.toNat eF) default) tM aag rfl rfl rfl rfl (cq aao).2 rfl rfl) ?_;have ajf:uV v0 tM.length:=by rw[aag,List.length_set];exact WD
  refine F00 ?_;refine SX 10 rf ?_;exact LN [0] (tM,wr .i64 (eF+1),wr .i64 (eB-1)) ⟨ajf,h⟩ rf rf rf
 ·refine SC 4 rf ?_;have h:=sj h;subst h;exact X2 v0 rfl .nil ⟨rfl,Pw⟩ rfl (ks:=[0]) rfl (by decide)
end H
def yw(n:Nat):Ct Tryz.prog sg:=ctV (G:=sg) ⟨144,[], .cons (.row 28 1 (.int .u32)) .nil, .cons (.jc .nil) (.cons (.row 28 1 (.int .u32)) .nil),[some 0], .nil,[],[[0]]⟩ (λx=>jV n x.1) (λz=>(z,())) ([]) (by kernel_rfl) (letI:bq ((Ty.int .u32).L sg):=inferInstanceAs (bq (LI .u32));Tk (t:= .int .u32) rfl λv0 a0 r h0 h=>H.yH h0 h)
def mQ(n:Nat)(a1:Int)(a2:ay):Option (List Int):=iv (λk40 (eB:(List Int))=>cn (decide (0<(eB.length:Int))) (gu (dH (wr .i64 ((eB.length:Int)-1)) eB.length)<|yl (eB.getD (Int.toNat (wr .i64 ((eB.length:Int)-1))) default)<|bd (FK n a2 (eB.getD (Int.toNat (wr .i64 ((eB.length:Int)-1))) default)) λyO=>bd (jV n yO) λCp=>gu (dH (wr .i64 ((eB.length:Int)-1)) (eB.length+1))<|lt (eB.take (Int.toNat (wr .i64 ((eB.length:Int)-1))):List Int) λow=>gu (ig ow.length Cp.length 4)<|lt (ow++Cp:List Int) λMT=>k40 MT) (some [])) n ([a1]:List Int)
def nr(n:Nat):It Tryz.prog sg:=mkI (tX n [(3, .loop [(.dS 4,(.row 28 1 (.int .u32)))]),(1000031, .join [] [])] [JL n,yw n] [] []) 3000 142 (.cons (.box 28 (.v (.int .u32))) (.cons (.box 80 (.v (.st 10))) .nil)) (.cons (.v (.int .u32)) .nil) (.int .nil) (B:=Int) (λy=>(y,())) (λx=>(x.1)) (λx=>mQ n x.1 x.2.1) (λ_ =>rfl) (by kernel_rfl) (λx=>by kernel_rfl)
def fW(n:Nat)(gJ:Int)(oP:ay):Option (List Int):=bd (mQ n gJ oP) λax=>yD (λ(tF:Int) k29 (dZ:(List Int))=>lt (tF:Int) λdh=>gu (ig dZ.length 1 4)<|lt (dZ++([dh]):List Int) λnC=>k29 nC) (λ(dZ:(List Int))=>some dZ) ax ([]:List Int)
def jS(n:Nat):CT:=cV (tX n [(5, .loop [(.via 2, .box 167 (.row 28 1 (.int .u32)))])] [] [] [nr n]) (kU 141 [.kz, .fn (.func 142) .nil (.cons (.box 28 (.v (.int .u32))) (.cons (.box 80 (.v (.st 10))) .nil))] [.v (.sl (.int .u32))]) (a2 (fW n)) u1 m1
def iB(n:Nat)(cS:Int)(dg:ay):Option (List Int):=bd (fW n cS dg) λax=>some ax
def ng(n:Nat):CT:=cV (tW n [] [jS n]) (kU 131 [.fn (.func 142) .nil (.cons (.box 28 (.v (.int .u32))) (.cons (.box 80 (.v (.st 10))) .nil))] [.v (.sl (.int .u32))]) (a2 (iB n)) u1 m1
def tf(n:Nat)(a0:ay)(a1:Int):Option (List Int):=bd (aJ n a0.fT.lI a1) λax=>cn ((!ax)) (some ([]:List Int)) (bd (pY n a0 a1) λbA=>bd (iB n bA.1 bA.2) λdP=>some dP)
def tZ(n:Nat):CT:=cV (tW n [] [aS n,pB n,ng n]) (kU 110 [.s 10, .w] [.v (.sl (.int .u32))]) (a2 (tf n)) u1 m1
def FM(n:Nat)(a0:ay)(a1:Int):Option (ay×(List Int)×Int):=bd (tf n a0 a1) λax=>cn (((ax.length:Int)==0)) (some (a0,([]:List Int),4)) (fe (λk47 (iw:Int) (o5:ay)=>cn (decide (iw<(ax.length:Int))) (gu (dH iw ax.length)<|bd (wo n o5 (ax.getD (Int.toNat iw) default)) λKe=>k47 (wr .i64 (iw+1)) Ke.1) (some (o5,ax,0))) n 0 a0)
def JM(n:Nat):CT:=cV (tW n [(11, .loop [(.dS 19,(.v (.int .i64))),(.via 2, .box 80 (.v (.st 10)))])] [tZ n,BF n]) (kU 249 [.s 10, .w] [.t [.s 10, .v (.sl (.int .u32)), .i]]) (a2 (FM n)) u3 m3
def FJ(n:Nat)(a0:ay)(a1:Int):Option Int:=bd (pY n a0 a1) λax=>bd (mQ n ax.1 ax.2) λdZ=>yD (λ(u7:Int) k30 (eF:Int)=>lt (u7:Int) λcN=>bd (nt n a0 cN) λnC=>bd (nt n a0 a1) λdI=>lt ((if eF<wr .i64 ((wr .i64 (nC-dI))+1)then wr .i64 ((wr .i64 (nC-dI))+1)else eF):Int) λnQ=>k30 nQ) (λ(eF:Int)=>some eF) dZ 0
def JK(n:Nat):CT:=cV (tX n [(7, .loop [(.via 5, .box 3 (.v (.int .i64)))])] [pB n,ua n] [] [nr n]) (kU 253 [.s 10, .w] [.i]) (a2 (FJ n)) u1 m1
def Dx(n:Nat)(a0:ay)(a1:Int)(a2:Int):Option (ay×Int):=bd (aJ n a0.fT.lI a1) λax=>cl ((!ax)==false) (aJ n a0.fT.lI a2) default λbp=>cn (((!ax)||(!bp))) (some (a0,4)) (bd (jC n a0 a1) λdZ=>cl ((dZ !=a1)==false) (oq n a0 a1 a2) default λcJ=>cn (((dZ !=a1)||cJ)) (some (a0,12)) (bd (nt n a0 a2) λcL=>bd (FJ n a0 a1) λgV=>cn (decide (6<(wr .i64 (cL+gV)))) (some (a0,8)) (bd (pH n a0 a1 a2) λnC=>some (nC.1,nC.2))))
def HD(n:Nat):CT:=cV (tW n [] [aS n,iA n,pC n,ua n,JK n,sF n]) (kU 218 [.s 10, .w, .w] [.t [.s 10, .i]]) (a3 (Dx n)) u2 m2
def Dy(n:Nat)(a0:Int)(a1:Int)(a2:ay):Option Bool:=cl ((a0 !=a1)==true) (oq n a2 a0 a1) default λax=>some ((a0 !=a1)&&ax)
def HE(n:Nat):CT:=cV (tW n [] [pC n]) ⟨283,[(28, .v (.int .u32)),(80, .v (.st 10))], .cons (.v (.int .u32)) (.cons (.bS 0) (.cons (.bS 1) .nil)), .cons (.v .bool) .nil,[], .nil,[],[]⟩ (λx=>Dy n x.2.2.1 x.1 x.2.1) u1 m1
def ID(n:Nat)(a0:ay)(a1:Int):Option (ay×Int):=bd (aJ n a0.fT.lI a1) λax=>cn ((!ax)) (some (a0,4)) (bd (pY n a0 a1) λcJ=>bd (mQ n cJ.1 cJ.2) λgV=>yD (λ(e49:Int) k44 (iw:ay)=>lt (e49:Int) λKg=>bd (eU n iw Kg) λCp=>fe (λk74 (MS:Int) (T5:aP)=>cn (decide (MS<8)) (gu (dH MS 8)<|bd (Dy n (Cp.1.rV (Int.toNat MS)) a1 a0) λKc=>cn (Kc) (gu (dH MS 8)<|lt ({T5 with rV:=(iW T5.rV (Int.toNat MS) 0)}:aP) λx78=>k74 (wr .i64 (MS+1)) x78) (k74 (wr .i64 (MS+1)) T5)) (bd (jj n iw Kg T5) λx81=>k44 x81.1)) n 0 Cp.1) (λ(iw:ay)=>bd (pH n iw a1 0) λx91=>some (x91.1,x91.2)) gV a0)
def Lm(n:Nat):CT:=cV (tX n [(13, .loop [(.via 7, .box 80 (.v (.st 10)))]),(19, .loop [(.dS 34,(.v (.int .i64))),(.via 9, .box 69 (.v (.st 6)))])] [aS n,pB n,fY n,HE n,pz n,sF n] [] [nr n]) (kU 251 [.s 10, .w] [.t [.s 10, .i]]) (a2 (ID n)) u2 m2
def kB(n:Nat)(a0:dM)(a1:ay)(a2:Int):Option fS:=bd (jC n a1 a2) λax=>bd (bw n ax) λbp=>gu (!((!bp.2)==false)||dH bp.1 32)<|cn (((!bp.2)||(((a0.bB (Int.toNat bp.1)).root)!=ax))) (lt ({yM:=0,kA:=0,jJ:=0}:fS) λcM=>some cM) (gu (dH bp.1 32)<|lt ((a0.bB (Int.toNat bp.1)).own:fS) λdZ=>some dZ)
def jL(n:Nat):CT:=cV (tW n [] [iA n,bZ n]) (kU 224 [.s 13, .s 10, .w] [.s 11]) (a3 (kB n)) u1 m1
def De(n:Nat)(a0:Int):Option Int:=gu (decide (0<=(tj .i64 a0 7)))<|some (Lu .u8 1 (tj .i64 a0 7))
def Ed(n:Nat):CT:=cV (tW n [] []) (kU 237 [.i] [.v (.int .u8)]) (a1 (De n)) u1 m1
def yf(n:Nat)(a0:fS)(a1:Int):Option Bool:=cl ((((a0.yM==3)&&decide (0<=a1))&&decide (a1<8))==true) (De n a1) default λax=>some ((((a0.yM==3)&&decide (0<=a1))&&decide (a1<8))&&((tj .u8 a0.jJ ax)!=0))
def CN(n:Nat):CT:=cV (tW n [] [Ed n]) ⟨236,[(3, .v (.int .i64))], .cons (.v (.st 11)) (.cons (.bS 0) .nil), .cons (.v .bool) .nil,[], .nil,[],[]⟩ (λx=>yf n x.2.1 x.1) u1 m1
def jP(n:Nat)(a0:dM)(a1:ay)(aeB:Int):Option (List Int):=bd (pG n a1.fT) λax=>fe (λJv (cL:(List Int)) (cN:Int)=>cn (decide (cN<(ax.length:Int))) (gu (dH cN ax.length)<|bd (jC n a1 (ax.getD (Int.toNat cN) default)) λgN=>cl ((gN==(ax.getD (Int.toNat cN) default))==true) (kB n a0 a1 (ax.getD (Int.toNat cN) default)) default λtM=>cl ((gN==(ax.getD (Int.toNat cN) default))==true) (yf n tM aeB) default λiw=>cn (((gN==(ax.getD (Int.toNat cN) default))&&iw)) (gu (ig cL.length 1 4)<|lt (cL++([(ax.getD (Int.toNat cN) default)]):List Int) λrW=>Jv rW (wr .i64 (cN+1))) (Jv cL (wr .i64 (cN+1)))) (some cL)) n ([]) 0
def o6(n:Nat):CT:=cV (tW n [(7, .loop [(.dS 7,(.row 28 1 (.int .u32))),(.dS 14,(.v (.int .i64)))])] [qA n,iA n,jL n,CN n]) ⟨235,[(3, .v (.int .i64))], .cons (.v (.st 13)) (.cons (.v (.st 10)) (.cons (.fn (.func 236) .nil (.cons (.bS 0) .nil)) .nil)), .cons (.v (.sl (.int .u32))) .nil,[], .nil,[],[]⟩ (λx=>jP n x.2.1 x.2.2.1 x.1) u1 m1
def Br(n:Nat)(a0:dM)(a1:ay)(a2:Int):Option (List Int):=bd (jP n a0 a1 a2) λax=>some ax
def F7(n:Nat):CT:=cV (tW n [] [o6 n]) (kU 172 [.s 13, .s 10, .i] [.v (.sl (.int .u32))]) (a3 (Br n)) u1 m1
def nk(n:Nat)(a0:dM)(a1:ay)(a2:Int)(a3:Int)(a4:fS):Option (dM×Int):=bd (aJ n a1.fT.lI a2) λax=>cn ((!ax)) (some (a0,4)) (bd (jC n a1 a2) λbp=>cn ((bp !=a2)) (some (a0,12)) (cn ((decide (a3<0)||decide (8<=a3))) (some (a0,2)) (bd (bw n a2) λbA=>lt ({root:=a2,own:=a4}:mO) λcM=>gu (dH bA.1 32)<|lt ({a0 with bB:=(iW a0.bB (Int.toNat bA.1) cM)}:dM) λdZ=>some (dZ,0))))
def pA(n:Nat):CT:=cV (tW n [] [aS n,iA n,bZ n]) (kU 255 [.s 13, .s 10, .w, .i, .s 11] [.t [.s 13, .i]]) (λx=>nk n x.1 x.2.1 x.2.2.1 x.2.2.2.1 x.2.2.2.2.1) u2 m2
def yg(n:Nat)(a0:dM)(a1:ay)(a2:Int)(a3:Int):Option (dM×Int):=bd (De n a3) λax=>lt ({yM:=3,kA:=0,jJ:=ax}:fS) λbp=>bd (nk n a0 a1 a2 a3 bp) λbA=>some (bA.1,bA.2)
def CO(n:Nat):CT:=cV (tW n [] [Ed n,pA n]) (kU 219 [.s 13, .s 10, .w, .i] [.t [.s 13, .i]]) (a4 (yg n)) u2 m2
def vP(n:Nat)(a0:dM)(a1:ay)(a2:Int)(a3:Int)(a4:Bool):Option (dM×Int×Int):=bd (kB n a0 a1 a2) λax=>bd (nk n a0 a1 a2 a3 ax) λbp=>bd (De n a3) λbA=>cl ((bp.2==4)==false) (aJ n a1.fT.lI a2) default λcM=>cl (((bp.2==4)==false)&&(cM==true)) (jC n a1 a2) default λcU=>cn (((bp.2==4)||(cM&&(cU !=a2)))) (some (a0,0,bp.2)) (cn ((ax.yM !=3)) (some (a0,0,12)) (cn ((bp.2!=0)) (some (a0,0,bp.2)) (cn ((((tj .u8 ax.jJ bA)!=0)&&a4)) (some (a0,0,7)) (cn (((!((tj .u8 ax.jJ bA)!=0))&&(!a4))) (some (a0,0,5)) (bd (De n a3) λdZ=>lt ({ax with jJ:=MR .u8 ax.jJ dZ}:fS) λcJ=>bd (nk n bp.1 a1 a2 a3 cJ) λdP=>some (dP.1,cJ.jJ,dP.2))))))
def xU(n:Nat):CT:=cV (tW n [] [jL n,pA n,Ed n,aS n,iA n]) (kU 256 [.s 13, .s 10, .w, .i, .b] [.t [.s 13, .v (.int .u8), .i]]) (λx=>vP n x.1 x.2.1 x.2.2.1 x.2.2.2.1 x.2.2.2.2.1) u3 m3
def vQ(n:Nat)(a0:dM)(a1:ay)(a2:Int)(a3:Int):Option (dM×Int):=bd (vP n a0 a1 a2 a3 true) λax=>some (ax.1,ax.2.2)
def xV(n:Nat):CT:=cV (tW n [] [xU n]) (kU 222 [.s 13, .s 10, .w, .i] [.t [.s 13, .i]]) (a4 (vQ n)) u2 m2
def Dg(n:Nat)(a0:dM)(a1:ay)(a2:Int):Option (dM×Int):=lt ({yM:=2,kA:=0,jJ:=0}:fS) λax=>bd (nk n a0 a1 a2 0 ax) λbp=>some (bp.1,bp.2)
def Hx(n:Nat):CT:=cV (tW n [] [pA n]) (kU 227 [.s 13, .s 10, .w] [.t [.s 13, .i]]) (a3 (Dg n)) u2 m2
def wD(n:Nat)(a0:fS)(a1:Int):Option Bool:=some ((a0.yM==1)&&((wr .i64 a0.kA)==a1))
def BJ(n:Nat):CT:=cV (tW n [] []) ⟨269,[(3, .v (.int .i64))], .cons (.v (.st 11)) (.cons (.bS 0) .nil), .cons (.v .bool) .nil,[], .nil,[],[]⟩ (λx=>wD n x.2.1 x.1) u1 m1
def jv(n:Nat)(a0:dM)(a1:ay)(aeB:Int):Option (List Int):=bd (pG n a1.fT) λax=>fe (λJv (cL:(List Int)) (cN:Int)=>cn (decide (cN<(ax.length:Int))) (gu (dH cN ax.length)<|bd (jC n a1 (ax.getD (Int.toNat cN) default)) λgN=>cl ((gN==(ax.getD (Int.toNat cN) default))==true) (kB n a0 a1 (ax.getD (Int.toNat cN) default)) default λtM=>cl ((gN==(ax.getD (Int.toNat cN) default))==true) (wD n tM aeB) default λiw=>cn (((gN==(ax.getD (Int.toNat cN) default))&&iw)) (gu (ig cL.length 1 4)<|lt (cL++([(ax.getD (Int.toNat cN) default)]):List Int) λrW=>Jv rW (wr .i64 (cN+1))) (Jv cL (wr .i64 (cN+1)))) (some cL)) n ([]) 0
def ox(n:Nat):CT:=cV (tW n [(7, .loop [(.dS 7,(.row 28 1 (.int .u32))),(.dS 14,(.v (.int .i64)))])] [qA n,iA n,jL n,BJ n]) ⟨235,[(3, .v (.int .i64))], .cons (.v (.st 13)) (.cons (.v (.st 10)) (.cons (.fn (.func 269) .nil (.cons (.bS 0) .nil)) .nil)), .cons (.v (.sl (.int .u32))) .nil,[], .nil,[],[]⟩ (λx=>jv n x.2.1 x.2.2.1 x.1) u1 m1
def zx(n:Nat)(a0:dM)(a1:ay)(a2:Int):Option (List Int):=bd (jv n a0 a1 a2) λax=>some ax
def Ee(n:Nat):CT:=cV (tW n [] [ox n]) (kU 234 [.s 13, .s 10, .i] [.v (.sl (.int .u32))]) (a3 (zx n)) u1 m1
def Bs(n:Nat)(a0:dM)(a1:ay)(a2:Int)(a3:Int):Option (dM×Int):=lt ({yM:=1,kA:=wr .u8 a3,jJ:=0}:fS) λax=>bd (nk n a0 a1 a2 a3 ax) λbp=>some (bp.1,bp.2)
def F8(n:Nat):CT:=cV (tW n [] [pA n]) (kU 243 [.s 13, .s 10, .w, .i] [.t [.s 13, .i]]) (a4 (Bs n)) u2 m2
def rH(n:Nat)(a0:Int):Option Int:=gu (dH a0 256)<|some (wr .i64 (Lib.pop8 a0))
def xd(n:Nat):CT:=cV (tW n [] []) (kU 284 [.v (.int .u8)] [.i]) (a1 (rH n)) u1 m1
def Bt(n:Nat)(a0:dM)(a1:ay)(a2:Int)(a3:Int):Option (dM×Int×Int):=bd (vP n a0 a1 a2 a3 false) λax=>bd (rH n ax.2.1) λbp=>some (ax.1,bp,ax.2.2)
def F9(n:Nat):CT:=cV (tW n [] [xU n,xd n]) (kU 257 [.s 13, .s 10, .w, .i] [.t [.s 13, .i, .i]]) (a4 (Bt n)) u3 m3
namespace H
end H
end
end Go.Proofs.Z
