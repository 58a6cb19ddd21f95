/- Part 4 of what a proof leans on; pruned and shortened by a program out of longer texts. -/
import Derived.Test.YtbalnnoofdkbaaaQ3
namespace Go.Proofs.Ytbalnnoofdkbaaa
open Go Go.Bw
theorem nq {b:Bool} (hb:b = true) (e:Int):xE Try.prog 39 [.bool b, .int .i64 e] (.tuple #[]):=by
 subst hb
 refine eR Try.func39 (by kernel_rfl) rfl Try.ntmps39 rfl (fun cx dc hpre hro=>?_)
 refine aS ?_
 refine aB ?_
 refine ag rfl (ah rfl) ?_
 refine ag rfl (eW rfl) ?_
 refine bh ?_
 refine aI ?_
 refine iq rfl (fun hc=>?_) (fun hc=>?_)
 ·cases hc
 refine fV ?_
 exact rN () rfl .nil trivial rfl (ks:=[]) rfl (by decide)
theorem nL {b:Bool} (hb:b = false) (e:Int):GN Try.prog 39 [.bool b, .int .i64 e] (fun _=>True) 57 e:=by
 subst hb
 refine A1 Try.func39 (by kernel_rfl) rfl Try.ntmps39 rfl (fun cx dc hpre hro=>?_)
 refine aS ?_
 refine aB ?_
 refine ag rfl (ah rfl) ?_
 refine ag rfl (eW rfl) ?_
 refine bh ?_
 refine aI ?_
 refine iq rfl (fun hc=>?_) (fun hc=>?_)
 rotate_left
 ·cases hc
 refine aB ?_
 refine ag rfl (ah rfl) ?_
 refine ag rfl (FY rfl) ?_
 exact Bn rfl uE
theorem lf:xF Try.prog 37 57:=by
 have hf:=Try.func37
 refine ⟨fun args w=>?_,fun b w=>?_,fun b Tb x e w hb=>?_⟩
 ·have h1:Try.f37.name ≠ "runtime.NumGoroutine":=by
   intro h
   have:(Try.f37.name == "runtime.NumGoroutine") = false:=by kernel_rfl
   rw [h] at this; simp at this
  have h2:Try.f37.body.isSome = true:=by kernel_rfl
  obtain ⟨code,h2⟩:=Option.isSome_iff_exists.1 h2
  simp [callFunc,hf,h1,h2,Go.mark]
 ·refine callsDIn_of_wpSIn hf rfl trivial fun c₀ cs hu=>?_
  apply wpSIn_seq
  apply wpSIn_region
  simp [wpOpsSIn,go_sem,recoverD,hu,Try.ntmps37,Exit.thenS]
  apply wpSIn_seq
  apply wpSIn_region
  simp [wpOpsSIn,go_sem,recoverD,hu,Try.ntmps37,Exit.thenS]
  refine wpSIn_cond (t:=false) (by simp [Act.eval,Array.replicate]) ?_
  simp only [Bool.false_eq_true,if_false]
  refine wpSIn_of_wpIn rfl (wpIn_skip ?_)
  cases c₀
  simp_all [bodyPostS,results,bw.refl]
 ·have hi:Try.prog.underlying 57 = some (.int .i64):=by kernel_rfl
  refine callsDIn_of_wpSIn hf rfl trivial fun c₀ cs hu=>?_
  apply wpSIn_seq
  apply wpSIn_region
  simp [wpOpsSIn,go_sem,recoverD,hu,Try.ntmps37,Exit.thenS]
  refine wpSIn_of_wpIn rfl ?_
  have key:WP Try.prog Try.f37.ntmps ⟨none,w,[b]⟩ [] (match Try.f37.body with
   | some (.seq _ y)=>y
   | _=>.skip) (fun en a' w'=>(en = .normal∨en = .ret)∧a'.defers = []∧bw [b] w w'∧w'.heap[b]? = some (.cells #[.int .i64 e] Tb (0,0))) [(2, .iface 57 (.int .i64 e)),(0,Ptr b 0)] [.cells b Tb [x]]:=by
   refine aS ?_
   refine aB ?_
   refine ag rfl (ah rfl) ?_
   refine ag (v:=.bool true) rfl (br (by simp) fun a w hf _ _=>by
    have h6:=hf 6 _ rfl
    have he:=run_equal_held_nil (P:=Try.prog) w 20 57 (.int .i64 e) (by kernel_rfl)
    simp [execOp,go_sem,Act.eval,h6,eqGuard,binOp,he]) ?_
   refine bh ?_
   refine aI ?_
   refine iq rfl (fun hc=>?_) (fun hc=>?_)
   rotate_left
   ·cases hc
   refine aS ?_
   refine aB ?_
   refine ag rfl (ah rfl) ?_
   refine ag (v:=.tuple #[.int .i64 e, .bool true]) rfl (br (by simp) fun a w hf _ _=>by simp [execOp,bK hf (x:=.tmp 9) rfl,Instr.typeAssert,run_underlying hi]) ?_
   refine ag rfl (ah rfl) ?_
   refine ag rfl (bt rfl rfl) ?_
   refine ag rfl (bt rfl rfl) ?_
   refine ag rfl (aC rfl) ?_
   refine ag rfl (aC rfl) ?_
   refine bh ?_
   refine aI ?_
   refine aS ?_
   refine aS ?_
   refine aB ?_
   refine ag rfl (ah rfl) ?_
   refine ag rfl (eW rfl) ?_
   refine bh ?_
   refine aI ?_
   refine iq rfl (fun hc=>?_) (fun hc=>?_)
   ·cases hc
   refine fV ?_
   refine aI ?_
   refine aB ?_
   refine ag rfl (ah rfl) ?_
   refine ag rfl (ah rfl) ?_
   refine ag rfl (qm rfl) ?_
   refine fq (nB (n:=1) (cs':=[.int .i64 e]) rfl rfl rfl rfl (by simp) (qK rfl) rfl) (fun _ _=>?_)
   refine bh ?_
   exact fun a w' hst=>⟨.inl rfl,hst.df,hst.si,hst.hp.holds (.cells b Tb [.int .i64 e]) (by simp)⟩
  refine wpIn_mono (key _ w ⟨by simp [Try.ntmps37],fun d v h=>?_,rfl,bw.refl _ _,?_⟩) fun en a' w' ⟨h1,h2,h3,h4⟩=>?_
  ·simp only [lk] at h
   cases h0:Nat.beq 2 d with
   | true =>
    rw [h0] at h
    obtain rfl:=Nat.eq_of_beq_eq_true h0
    cases h; simp
   | false =>
    rw [h0] at h
    simp only [cond_false] at h
    cases Nh:Nat.beq 0 d with
    | true =>
     rw [Nh] at h
     obtain rfl:=Nat.eq_of_beq_eq_true Nh
     cases h; simp
    | false=>rw [Nh] at h; cases h
  ·refine (cy.nil _ _ _).cons hb (fun b' hb'=>?_) (fun s hs=>by cases hs)
   have e2:b' = b:=by simpa [aZ.gN] using hb'
   subst e2
   exact ⟨.inl (by simp),(Array.getElem?_eq_some_iff.1 hb).1⟩
  ·rcases h1 with rfl | rfl
   ·exact ⟨h2,_,rfl,_,by simp [results]; rfl,⟨_,rfl⟩,rfl,h3,h4⟩
   ·exact ⟨h2,_,rfl,_,by simp [results]; rfl,⟨_,rfl⟩,rfl,h3,h4⟩
def iU (n:Nat) (a0:ai) (a1:Int):Option Int:=
 gu (!((decide (1 ≤ a1) && decide (a1 ≤ 32)) == true) || dU (wr .u32 (a1 - 1)) 32) <|
 cn (((decide (1 ≤ a1) && decide (a1 ≤ 32)) && ((a0.B.Is (Int.toNat (wr .u32 (a1 - 1)))) == 1))) (
 bd (eT n a0.B (wr .i64 (wr .u32 (a1 - 1)))) fun cB =>
 some cB) (
 some (wr .i64 a1))
theorem mB {n:Nat} {a0:ai} {a1:Int} {r:Int} {K:World→Prop} [bF K] {ct:List Value} (f0:(ak).rep K ct a0) (h:iU n a0 a1 = some r):qM Try.prog 6 [.agg ct.toArray, .int .u32 a1] K (.int .i64 r):=by
 unfold iU at h
 refine eR Try.func6 (by kernel_rfl) rfl Try.ntmps6 rfl (fun cx dc hpre hro=>?_)
 haveI:=jH dc hpre
 refine aS ?_
 refine aB ?_
 refine cG rfl (bH rfl) (fun b2 _=>?_)
 refine ag rfl (aC rfl) ?_
 refine bh ?_
 refine aI ?_
 refine aS ?_
 refine aS ?_
 obtain ⟨oD,h⟩:=cD h
 refine aB ?_
 refine ag rfl (ah rfl) ?_
 refine ag rfl (lF rfl rfl) ?_
 refine ag rfl (ah rfl) ?_
 refine cC (cg rfl rfl) rfl (fun hb=>ah rfl) ?_
 refine cC (cg rfl rfl) rfl (fun hb=>nw (bT rfl hb) rfl) ?_
 refine ag rfl (cM rfl rfl) ?_
 refine ag rfl (ah rfl) ?_
 refine cC (cg rfl rfl) rfl (fun hb=>ah rfl) ?_
 refine cC (cg rfl rfl) rfl (fun hb=>oR (bT rfl hb) rfl rfl) ?_
 refine cC (cg rfl rfl) rfl (fun hb=>aH rfl) ?_
 refine cC (cg rfl rfl) rfl (fun hb=>aH (bT rfl hb)) ?_
 refine cC (cg rfl rfl) rfl (fun hb=>bV (m:=(Int.toNat (wr .u32 (a1 - 1)))) (bT rfl hb) (bT rfl hb) (ay (gG oD hb)).1 (ay (gG oD hb)).2) ?_
 refine cC (cg rfl rfl) rfl (fun hb=>bG (bT rfl hb) (((bN.c0 eM).comp (aN.idx (L:=(LI .i64)) (m:=32) (k:=1) ((Int.toNat (wr .u32 (a1 - 1)))) (ay (gG oD hb)).2 rfl)).int f0)) ?_
 refine cC (cg rfl rfl) rfl (fun hb=>dM (bT rfl hb) rfl) ?_
 refine ag rfl (cM rfl rfl) ?_
 refine bh ?_
 refine aI ?_
 refine iq rfl (fun hc=>?_) (fun hc=>?_)
 ·
  replace h:=oH hc h
  refine aS ?_
  obtain ⟨cB,gE,h⟩:=bu h
  refine aB ?_
  refine ag rfl (aH rfl) ?_
  refine ag rfl (aR rfl (bg.iff.1 (bN.get f0)) (bx _ _)) ?_
  refine ag rfl (ah rfl) ?_
  refine ag rfl (oR rfl rfl rfl) ?_
  refine ag rfl (lq rfl rfl) ?_
  refine ag rfl (bD (gP gE) rfl (fun _ _ _=>trivial)) ?_
  refine ag rfl (aC rfl) ?_
  refine bh ?_
  refine aI ?_
  refine fJ ?_
  refine dK ?_
  replace h:=Option.some.inj h
  subst h
  exact bW () rfl (.tmp rfl .nil) trivial rfl (ks:=[]) rfl (by decide)
 ·
  replace h:=oI hc h
  refine fV ?_
  refine aI ?_
  refine aS ?_
  refine aB ?_
  refine ag rfl (ah rfl) ?_
  refine ag rfl (lq rfl rfl) ?_
  refine ag rfl (aC rfl) ?_
  refine bh ?_
  refine aI ?_
  refine fJ ?_
  replace h:=Option.some.inj h
  subst h
  exact bW () rfl (.tmp rfl .nil) trivial rfl (ks:=[]) rfl (by decide)
def gI (n:Nat) (a0:au) (a1:Int) (a2:Int):Option (Except Int bE):=
 bd (cU n a0 a1) fun bp =>
 tc (bp.2 == 0) (.error bp.2) <|
 tc (decide (0 ≤ a2) && decide (a2 < 8)) (.error 2) <|
 some (.ok bp.1)
theorem nY {n:Nat} {a0:au} {a1:Int} {a2:Int} {e:Int} {K:World→Prop} [bF K] {ct:List Value} (f0:(ae).rep K ct a0) (h:gI n a0 a1 a2 = some (.error e)):GN Try.prog 38 [.agg ct.toArray, .int .u32 a1, .int .i64 a2] K 57 e:=by
 unfold gI at h
 refine A1 Try.func38 (by kernel_rfl) rfl Try.ntmps38 rfl (fun cx dc hpre hro=>?_)
 haveI:=jH dc hpre
 refine aS ?_
 refine aB ?_
 refine cG rfl (bH rfl) (fun b3 _=>?_)
 refine cG rfl (bk (hz:=(⟨by kernel_rfl⟩ : bY Try.prog 38 aX))) (fun b6 _=>?_)
 refine bh ?_
 refine aI ?_
 refine aS ?_
 obtain ⟨bp,cu,h⟩:=bu h
 refine aB ?_
 refine ag rfl (aj rfl (aJ.len _ f0)) ?_
 refine ag rfl (ah rfl) ?_
 refine cG rfl (dW (dY (K:=K) (aJ.mono _ dk f0) cu) rfl) (fun ⟨wu,cY,gC⟩ pQ=>?_)
 obtain ⟨pz,rfl,f26⟩:=pQ
 replace f26:(ax).rep (fun w=>K w∧Hs [.ext cY gC] w) pz bp.1:=f26
 refine ag rfl (ah rfl) ?_
 refine ag rfl (bt rfl rfl) ?_
 refine ag rfl (bt rfl rfl) ?_
 refine cG rfl (bk (hz:=(⟨by kernel_rfl⟩ : bY Try.prog 38 aX))) (fun b7 _=>?_)
 obtain ⟨qx,wY,f29⟩ : ∃cc,bP aX 0 pz = cc∧(ax).rep (fun w=>K w∧Hs [.ext cY gC] w) cc bp.1:=⟨_,rfl,(aN.id (L:=ax)).set (aJ.mono _ dk (show (ax).rep (Hs []) aX dx from bL)) (aJ.mono _ dk f26)⟩
 refine fq (ei pz (aN.id (L:=ax)) (v:=bp.1) (r:=(show (ax).rep (Hs []) aX dx from bL)) (rv:=((aJ.mono _ dk f26):(ax).rep (fun w=>K w∧Hs [.ext cY gC] w) pz bp.1)) rfl rfl rfl rfl wY) (fun _ _=>?_)
 refine ag rfl (aC rfl) ?_
 refine bh ?_
 refine aI ?_
 refine aS ?_
 rcases yx h with ⟨AX,h⟩ | ⟨AX,h⟩
 ·
  refine aB ?_
  refine ag rfl (ah rfl) ?_
  refine ag rfl (dM rfl rfl) ?_
  refine ag rfl (ah rfl) ?_
  refine nu (nL AX _) rfl (fun _ _ _=>trivial) ?_
  refine gJ ?_
  replace h:=Except.error.inj (Option.some.inj h)
  subst h
  exact uE
 refine aB ?_
 refine ag rfl (ah rfl) ?_
 refine ag rfl (dM rfl rfl) ?_
 refine ag rfl (ah rfl) ?_
 refine ag rfl (bD (nq AX _) rfl (fun _ _ _=>trivial)) ?_
 refine bh ?_
 refine aI ?_
 refine aS ?_
 rcases yx h with ⟨uf,h⟩ | ⟨uf,h⟩
 ·
  refine aB ?_
  refine ag rfl (ah rfl) ?_
  refine ag rfl (lF rfl rfl) ?_
  refine ag rfl (ah rfl) ?_
  refine cC (cg rfl rfl) rfl (fun hb=>ah rfl) ?_
  refine cC (cg rfl rfl) rfl (fun hb=>nv (bT rfl hb) rfl) ?_
  refine ag rfl (cM rfl rfl) ?_
  refine nu (nL uf _) rfl (fun _ _ _=>trivial) ?_
  refine gJ ?_
  replace h:=Except.error.inj (Option.some.inj h)
  subst h
  exact uE
 refine aB ?_
 refine ag rfl (ah rfl) ?_
 refine ag rfl (lF rfl rfl) ?_
 refine ag rfl (ah rfl) ?_
 refine cC (cg rfl rfl) rfl (fun hb=>ah rfl) ?_
 refine cC (cg rfl rfl) rfl (fun hb=>nv (bT rfl hb) rfl) ?_
 refine ag rfl (cM rfl rfl) ?_
 refine ag rfl (bD (nq uf _) rfl (fun _ _ _=>trivial)) ?_
 refine bh ?_
 refine aI ?_
 refine aS ?_
 refine aB ?_
 refine ag rfl (aj rfl (aJ.len _ f29)) ?_
 obtain ⟨CT,AV,f33⟩ : ∃cc,bP aX 0 qx = cc∧(ax).rep (fun w=>K w∧Hs [.ext cY gC] w) cc bp.1:=⟨_,rfl,(aN.id (L:=ax)).set (aJ.mono _ dk (show (ax).rep (Hs []) aX dx from bL)) (aJ.mono _ dk f29)⟩
 refine fq (ei qx (aN.id (L:=ax)) (v:=bp.1) (r:=(show (ax).rep (Hs []) aX dx from bL)) (rv:=((aJ.mono _ dk f29):(ax).rep (fun w=>K w∧Hs [.ext cY gC] w) qx bp.1)) rfl rfl rfl rfl AV) (fun _ _=>?_)
 refine bh ?_
 refine aI ?_
 refine fJ ?_
 cases h
theorem n6 {n:Nat} {a0:au} {a1:Int} {a2:Int} {r:bE} {K:World→Prop} [bF K] {ct:List Value} (f0:(ae).rep K ct a0) (h:gI n a0 a1 a2 = some (.ok r)):p9 Try.prog 38 [.agg ct.toArray, .int .u32 a1, .int .i64 a2] K (fun J v=>∃u0,v = (.agg u0.toArray)∧(ax).rep (fun w=>K w∧J w) u0 (r)):=by
 unfold gI at h
 refine eR Try.func38 (by kernel_rfl) rfl Try.ntmps38 rfl (fun cx dc hpre hro=>?_)
 haveI:=jH dc hpre
 refine aS ?_
 refine aB ?_
 refine cG rfl (bH rfl) (fun b3 _=>?_)
 refine cG rfl (bk (hz:=(⟨by kernel_rfl⟩ : bY Try.prog 38 aX))) (fun b6 _=>?_)
 refine bh ?_
 refine aI ?_
 refine aS ?_
 obtain ⟨bp,cu,h⟩:=bu h
 refine aB ?_
 refine ag rfl (aj rfl (aJ.len _ f0)) ?_
 refine ag rfl (ah rfl) ?_
 refine cG rfl (dW (dY (K:=K) (aJ.mono _ dk f0) cu) rfl) (fun ⟨wu,cY,gC⟩ pQ=>?_)
 obtain ⟨pz,rfl,f26⟩:=pQ
 replace f26:(ax).rep (fun w=>K w∧Hs [.ext cY gC] w) pz bp.1:=f26
 refine ag rfl (ah rfl) ?_
 refine ag rfl (bt rfl rfl) ?_
 refine ag rfl (bt rfl rfl) ?_
 refine cG rfl (bk (hz:=(⟨by kernel_rfl⟩ : bY Try.prog 38 aX))) (fun b7 _=>?_)
 obtain ⟨qx,wY,f29⟩ : ∃cc,bP aX 0 pz = cc∧(ax).rep (fun w=>K w∧Hs [.ext cY gC] w) cc bp.1:=⟨_,rfl,(aN.id (L:=ax)).set (aJ.mono _ dk (show (ax).rep (Hs []) aX dx from bL)) (aJ.mono _ dk f26)⟩
 refine fq (ei pz (aN.id (L:=ax)) (v:=bp.1) (r:=(show (ax).rep (Hs []) aX dx from bL)) (rv:=((aJ.mono _ dk f26):(ax).rep (fun w=>K w∧Hs [.ext cY gC] w) pz bp.1)) rfl rfl rfl rfl wY) (fun _ _=>?_)
 refine ag rfl (aC rfl) ?_
 refine bh ?_
 refine aI ?_
 refine aS ?_
 obtain ⟨AX,h⟩:=Dn h
 refine aB ?_
 refine ag rfl (ah rfl) ?_
 refine ag rfl (dM rfl rfl) ?_
 refine ag rfl (ah rfl) ?_
 refine ag rfl (bD (nq AX _) rfl (fun _ _ _=>trivial)) ?_
 refine bh ?_
 refine aI ?_
 refine aS ?_
 obtain ⟨uf,h⟩:=Dn h
 refine aB ?_
 refine ag rfl (ah rfl) ?_
 refine ag rfl (lF rfl rfl) ?_
 refine ag rfl (ah rfl) ?_
 refine cC (cg rfl rfl) rfl (fun hb=>ah rfl) ?_
 refine cC (cg rfl rfl) rfl (fun hb=>nv (bT rfl hb) rfl) ?_
 refine ag rfl (cM rfl rfl) ?_
 refine ag rfl (bD (nq uf _) rfl (fun _ _ _=>trivial)) ?_
 refine bh ?_
 refine aI ?_
 refine aS ?_
 refine aB ?_
 refine ag rfl (aj rfl (aJ.len _ f29)) ?_
 obtain ⟨CT,AV,f33⟩ : ∃cc,bP aX 0 qx = cc∧(ax).rep (fun w=>K w∧Hs [.ext cY gC] w) cc bp.1:=⟨_,rfl,(aN.id (L:=ax)).set (aJ.mono _ dk (show (ax).rep (Hs []) aX dx from bL)) (aJ.mono _ dk f29)⟩
 refine fq (ei qx (aN.id (L:=ax)) (v:=bp.1) (r:=(show (ax).rep (Hs []) aX dx from bL)) (rv:=((aJ.mono _ dk f29):(ax).rep (fun w=>K w∧Hs [.ext cY gC] w) qx bp.1)) rfl rfl rfl rfl AV) (fun _ _=>?_)
 refine bh ?_
 refine aI ?_
 refine fJ ?_
 replace h:=Except.ok.inj (Option.some.inj h)
 subst h
 refine bC (R:=[.ext cY gC]) (H':=[.cells b6 38 CT]) (ks:=[1,2]) rfl (by decide) ?_
 have K1:(ax).rep (fun w=>K w∧(Hs [.ext (bI [.ext cY gC]) (Hs [.ext cY gC])]) w) CT bp.1:=aJ.mono _ dk f33
 exact bW (.agg CT.toArray,bI [.ext cY gC],Hs [.ext cY gC]) rfl (.agg rfl inferInstance inferInstance (aJ.len _ f33) .nil) ⟨_,rfl,K1⟩ rfl (ks:=[0]) rfl (by decide)
def iY (n:Nat) (a0:au) (a1:Int) (a2:Int):Option (Int × Int):=
 tr (gI n a0 a1 a2) (fun Jr=>(0,Jr)) fun bp =>
 gu (dU a2 8) <|
 tc ((bp.Cells (Int.toNat a2)) != 0) (0,10) <|
 bd (aY n a0.book.iP (bp.Cells (Int.toNat a2))) fun bZ =>
 tc bZ (0,4) <|
 some ((bp.Cells (Int.toNat a2)),0)
theorem mF {n:Nat} {a0:au} {a1:Int} {a2:Int} {r:Int × Int} {K:World→Prop} [bF K] {ct:List Value} (f0:(ae).rep K ct a0) (h:iY n a0 a1 a2 = some r):qM Try.prog 11 [.agg ct.toArray, .int .u32 a1, .int .i64 a2] K (.tuple #[.int .u32 r.1, .int .i64 r.2]):=by
 unfold iY at h
 refine eR Try.func11 (by kernel_rfl) rfl Try.ntmps11 rfl (fun cx dc hpre hro=>?_)
 haveI:=jH dc hpre
 refine aS ?_
 refine aB ?_
 refine cG rfl (bH rfl) (fun b3 _=>?_)
 refine ag rfl (aC rfl) ?_
 refine cG rfl (cP (L:=(LI .i64)) (z:=0) ⟨by kernel_rfl⟩) (fun b7 _=>?_)
 refine bh ?_
 refine aI ?_
 refine aS ?_
 refine aB ?_
 refine vY rfl hro ?_
 refine bh ?_
 refine aI ?_
 refine aS ?_
 rcases G1 h with ⟨Jr,I3,h⟩ | ⟨bp,cu,h⟩
 ·
  refine aB ?_
  refine ag rfl (aj rfl (aJ.len _ f0)) ?_
  refine ag rfl (ah rfl) ?_
  refine ag rfl (ah rfl) ?_
  refine nu (nY (K:=K) (aJ.mono _ dk f0) I3) rfl kn ?_
  refine gJ ?_
  refine l9 lf ?_
  replace h:=Option.some.inj h
  subst h
  exact bW () rfl (.tmp rfl (.one rfl inferInstance inferInstance rfl .nil)) trivial rfl (ks:=[]) rfl (by decide)
 obtain ⟨oA,h⟩:=cD h
 refine aB ?_
 refine ag rfl (aj rfl (aJ.len _ f0)) ?_
 refine ag rfl (ah rfl) ?_
 refine ag rfl (ah rfl) ?_
 refine cG rfl (dW (n6 (K:=K) (aJ.mono _ dk f0) cu) rfl) (fun ⟨wu,cY,gC⟩ pQ=>?_)
 obtain ⟨pz,rfl,f26⟩:=pQ
 replace f26:ax.rep (fun w=>K w∧Hs [.ext cY gC] w) pz bp:=f26
 refine ag rfl (zb (fo:=4) dN f26 rfl (by kernel_rfl)) ?_
 refine ag rfl (ah rfl) ?_
 refine ag rfl (tA (m:=(Int.toNat a2)) rfl rfl (ay oA).1 (ay oA).2 ((aN.idx (L:=(LI .u32)) (m:=8) (k:=1) (Int.toNat a2) (ay oA).2 rfl).int (rp _ _))) ?_
 refine ag rfl (aC rfl) ?_
 refine bh ?_
 refine aI ?_
 refine aS ?_
 rcases yx h with ⟨Fg,h⟩ | ⟨Fg,h⟩
 ·
  refine aB ?_
  refine ag rfl (ah rfl) ?_
  refine ag rfl (j5 rfl rfl) ?_
  refine nu (nL Fg _) rfl (fun _ _ _=>trivial) ?_
  refine gJ ?_
  refine l9 lf ?_
  replace h:=Option.some.inj h
  subst h
  exact bW () rfl (.tmp rfl (.one rfl inferInstance inferInstance rfl .nil)) trivial rfl (ks:=[]) rfl (by decide)
 refine aB ?_
 refine ag rfl (ah rfl) ?_
 refine ag rfl (j5 rfl rfl) ?_
 refine ag rfl (bD (nq Fg _) rfl (fun _ _ _=>trivial)) ?_
 refine bh ?_
 refine aI ?_
 refine aS ?_
 obtain ⟨bZ,qu,h⟩:=bu h
 rcases yx h with ⟨uf,h⟩ | ⟨uf,h⟩
 ·
  refine aB ?_
  refine ag rfl (aH rfl) ?_
  refine ag rfl (aH rfl) ?_
  refine ag rfl (aR rfl (bg.iff.1 ((aQ.c0 aV).get f0)) (bx _ _)) ?_
  refine ag rfl (ah rfl) ?_
  refine ag rfl (bD (bf qu) rfl (fun _ _ _=>trivial)) ?_
  refine nu (nL uf _) rfl (fun _ _ _=>trivial) ?_
  refine gJ ?_
  refine l9 lf ?_
  replace h:=Option.some.inj h
  subst h
  exact bW () rfl (.tmp rfl (.one rfl inferInstance inferInstance rfl .nil)) trivial rfl (ks:=[]) rfl (by decide)
 refine aB ?_
 refine ag rfl (aH rfl) ?_
 refine ag rfl (aH rfl) ?_
 refine ag rfl (aR rfl (bg.iff.1 ((aQ.c0 aV).get f0)) (bx _ _)) ?_
 refine ag rfl (ah rfl) ?_
 refine ag rfl (bD (bf qu) rfl (fun _ _ _=>trivial)) ?_
 refine ag rfl (bD (nq uf _) rfl (fun _ _ _=>trivial)) ?_
 refine bh ?_
 refine aI ?_
 refine aS ?_
 refine aB ?_
 refine ag rfl (ah rfl) ?_
 refine ag rfl (aC rfl) ?_
 refine fq (dD (M:=(LI .i64)) (aN.id (L:=(LI .i64))) 0 0 rfl rfl rfl rfl rfl) (fun _ _=>?_)
 refine bh ?_
 refine aI ?_
 refine fJ ?_
 replace h:=Option.some.inj h
 subst h
 refine vW lf ?_
 exact bW () rfl (.tmp rfl (.one rfl inferInstance inferInstance rfl .nil)) trivial rfl (ks:=[]) rfl (by decide)
def nk (n:Nat) (a0:au) (a1:Int) (a2:Int) (a3:Int) (a4:Bool):Option (au × Int):=
 bd (aY n a0.book.iP a1) fun bp =>
 cl ((bp == true) && ((a3 == 0) == false)) (aY n a0.book.iP a3) default fun cB =>
 tc (bp && ((a3 == 0) || cB)) (aW,4) <|
 tr (gI n a0 a1 a2) (fun CJ=>(aW,CJ)) fun iT =>
 cl (((a3 == 0) || a4) == false) (fe n a0 a3 a1) default fun fZ =>
 tc (((a3 == 0) || a4) || fZ) (aW,5) <|
 gu (dU a2 8) <|
 lt ({ iT with Cells:=(eO iT.Cells (Int.toNat a2) a3) }:bE) fun mh =>
 bd (dP n a0 a1 mh) fun kE =>
 some (kE.1,kE.2)
theorem xl {n:Nat} {a0:au} {a1:Int} {a2:Int} {a3:Int} {a4:Bool} {r:au × Int} {K:World→Prop} [bF K] {ct:List Value} (f0:(ae).rep K ct a0) (h:nk n a0 a1 a2 a3 a4 = some r):p9 Try.prog 20 [.agg ct.toArray, .int .u32 a1, .int .i64 a2, .int .u32 a3, .bool a4] K (fun J v=>∃u0,v = (.tuple #[.agg u0.toArray, .int .i64 r.2])∧(ae).rep (fun w=>K w∧J w) u0 (r.1)):=by
 unfold nk at h
 refine eR Try.func20 (by kernel_rfl) rfl Try.ntmps20 rfl (fun cx dc hpre hro=>?_)
 haveI:=jH dc hpre
 refine aS ?_
 refine aB ?_
 refine cG rfl (bH rfl) (fun b5 _=>?_)
 refine cG rfl (bk (hz:=(⟨by kernel_rfl⟩ : bY Try.prog 41 av))) (fun nS _=>?_)
 refine cG rfl (cP (L:=(LI .i64)) (z:=0) ⟨by kernel_rfl⟩) (fun KC _=>?_)
 refine bh ?_
 refine aI ?_
 refine aS ?_
 refine aB ?_
 refine vY rfl hro ?_
 refine bh ?_
 refine aI ?_
 refine aS ?_
 obtain ⟨bp,cu,h⟩:=bu h
 obtain ⟨cB,gE,_,h⟩:=jd h
 rcases yx h with ⟨Fh,h⟩ | ⟨Fh,h⟩
 ·
  refine aB ?_
  refine ag rfl (aH rfl) ?_
  refine ag rfl (aH rfl) ?_
  refine ag rfl (aR rfl (bg.iff.1 ((aQ.c0 aV).get f0)) (bx _ _)) ?_
  refine ag rfl (ah rfl) ?_
  refine ag rfl (bD (bf cu) rfl (fun _ _ _=>trivial)) ?_
  refine ag rfl (ah rfl) ?_
  refine cC (cg rfl rfl) rfl (fun hb=>ah rfl) ?_
  refine cC (cg rfl rfl) rfl (fun hb=>dM (bT rfl hb) rfl) ?_
  refine cC (cg rfl rfl) rfl (fun hb=>ah (bT rfl hb)) ?_
  refine cC (iO rfl rfl) rfl (fun hb=>aH rfl) ?_
  refine cC (iO rfl rfl) rfl (fun hb=>aH (bT rfl hb)) ?_
  refine cC (iO rfl rfl) rfl (fun hb=>aR (bT rfl hb) (bg.iff.1 ((aQ.c0 aV).get f0)) (bx _ _)) ?_
  refine cC (iO rfl rfl) rfl (fun hb=>ah rfl) ?_
  refine cC (iO rfl rfl) rfl (fun hb=>bD (bf (gE hb)) (aU (bT rfl hb) (aU (bT rfl hb) rfl)) (fun _ _ _=>trivial)) ?_
  refine cC (cg rfl rfl) rfl (fun hb=>dV (bT rfl hb) (w5 rfl hb)) ?_
  refine ag rfl (cM rfl rfl) ?_
  refine nu (nL Fh _) rfl (fun _ _ _=>trivial) ?_
  refine gJ ?_
  refine l9 lf ?_
  replace h:=Option.some.inj h
  subst h
  refine bC (R:=[]) (H':=[.cells KC 57 ((LI .i64).enc 4), .cells nS 41 av]) (ks:=[0,1]) rfl (by decide) ?_
  have PO:(ae).rep (fun w=>K w∧(Hs [.ext (bI []) (Hs [])]) w) av aW:=aJ.mono _ dk (show (ae).rep (Hs []) av aW from aD)
  exact bW (.tuple #[.agg av.toArray, .int .i64 4],bI [],Hs []) rfl (.agg rfl inferInstance inferInstance (aJ.len _ (show (ae).rep (Hs []) av aW from aD)) (.one rfl inferInstance inferInstance rfl .nil)) ⟨_,rfl,PO⟩ rfl (ks:=[0]) rfl (by decide)
 refine aB ?_
 refine ag rfl (aH rfl) ?_
 refine ag rfl (aH rfl) ?_
 refine ag rfl (aR rfl (bg.iff.1 ((aQ.c0 aV).get f0)) (bx _ _)) ?_
 refine ag rfl (ah rfl) ?_
 refine ag rfl (bD (bf cu) rfl (fun _ _ _=>trivial)) ?_
 refine ag rfl (ah rfl) ?_
 refine cC (cg rfl rfl) rfl (fun hb=>ah rfl) ?_
 refine cC (cg rfl rfl) rfl (fun hb=>dM (bT rfl hb) rfl) ?_
 refine cC (cg rfl rfl) rfl (fun hb=>ah (bT rfl hb)) ?_
 refine cC (iO rfl rfl) rfl (fun hb=>aH rfl) ?_
 refine cC (iO rfl rfl) rfl (fun hb=>aH (bT rfl hb)) ?_
 refine cC (iO rfl rfl) rfl (fun hb=>aR (bT rfl hb) (bg.iff.1 ((aQ.c0 aV).get f0)) (bx _ _)) ?_
 refine cC (iO rfl rfl) rfl (fun hb=>ah rfl) ?_
 refine cC (iO rfl rfl) rfl (fun hb=>bD (bf (gE hb)) (aU (bT rfl hb) (aU (bT rfl hb) rfl)) (fun _ _ _=>trivial)) ?_
 refine cC (cg rfl rfl) rfl (fun hb=>dV (bT rfl hb) (w5 rfl hb)) ?_
 refine ag rfl (cM rfl rfl) ?_
 refine ag rfl (bD (nq Fh _) rfl (fun _ _ _=>trivial)) ?_
 refine bh ?_
 refine aI ?_
 refine aS ?_
 rcases G1 h with ⟨CJ,I2,h⟩ | ⟨iT,nh,h⟩
 ·
  refine aB ?_
  refine ag rfl (aj rfl (aJ.len _ f0)) ?_
  refine ag rfl (ah rfl) ?_
  refine ag rfl (ah rfl) ?_
  refine nu (nY (K:=K) (aJ.mono _ dk f0) I2) rfl kn ?_
  refine gJ ?_
  refine l9 lf ?_
  replace h:=Option.some.inj h
  subst h
  refine bC (R:=[]) (H':=[.cells KC 57 ((LI .i64).enc CJ), .cells nS 41 av]) (ks:=[0,1]) rfl (by decide) ?_
  have K1:(ae).rep (fun w=>K w∧(Hs [.ext (bI []) (Hs [])]) w) av aW:=aJ.mono _ dk (show (ae).rep (Hs []) av aW from aD)
  exact bW (.tuple #[.agg av.toArray, .int .i64 CJ],bI [],Hs []) rfl (.agg rfl inferInstance inferInstance (aJ.len _ (show (ae).rep (Hs []) av aW from aD)) (.one rfl inferInstance inferInstance rfl .nil)) ⟨_,rfl,K1⟩ rfl (ks:=[0]) rfl (by decide)
 refine aB ?_
 refine ag rfl (aj rfl (aJ.len _ f0)) ?_
 refine ag rfl (ah rfl) ?_
 refine ag rfl (ah rfl) ?_
 refine cG rfl (dW (n6 (K:=K) (aJ.mono _ dk f0) nh) rfl) (fun ⟨Rz,pB,yp⟩ Mu=>?_)
 obtain ⟨Gy,rfl,f30⟩:=Mu
 replace f30:ax.rep (fun w=>K w∧Hs [.ext pB yp] w) Gy iT:=f30
 refine cG rfl (bk (hz:=(⟨by kernel_rfl⟩ : bY Try.prog 38 aX))) (fun NW _=>?_)
 obtain ⟨CT,AV,f33⟩ : ∃cc,bP aX 0 Gy = cc∧(ax).rep (fun w=>K w∧Hs [.ext pB yp] w) cc iT:=⟨_,rfl,(aN.id (L:=ax)).set (aJ.mono _ dk (show (ax).rep (Hs []) aX dx from bL)) (aJ.mono _ dk f30)⟩
 refine fq (ei Gy (aN.id (L:=ax)) (v:=iT) (r:=(show (ax).rep (Hs []) aX dx from bL)) (rv:=((aJ.mono _ dk f30):(ax).rep (fun w=>K w∧Hs [.ext pB yp] w) Gy iT)) rfl rfl rfl rfl AV) (fun _ _=>?_)
 refine bh ?_
 refine aI ?_
 refine aS ?_
 obtain ⟨fZ,oX,_,h⟩:=jd h
 rcases yx h with ⟨Ff,h⟩ | ⟨Ff,h⟩
 ·
  refine aB ?_
  refine ag rfl (ah rfl) ?_
  refine ag rfl (dM rfl rfl) ?_
  refine ag rfl (ah rfl) ?_
  refine cC (cg rfl rfl) rfl (fun hb=>ah rfl) ?_
  refine ag rfl (dV rfl rfl) ?_
  refine ag rfl (ah rfl) ?_
  refine cC (cg rfl rfl) rfl (fun hb=>aj rfl (aJ.len _ f0)) ?_
  refine cC (cg rfl rfl) rfl (fun hb=>ah rfl) ?_
  refine cC (cg rfl rfl) rfl (fun hb=>ah rfl) ?_
  refine cC (cg rfl rfl) rfl (fun hb=>bD (gX (K:=K) (aJ.mono _ dk f0) (oX hb)) (aU (bT rfl hb) (aU (bT rfl hb) (aU (bT rfl hb) rfl))) kn) ?_
  refine ag rfl (dV rfl rfl) ?_
  refine nu (nL Ff _) rfl (fun _ _ _=>trivial) ?_
  refine gJ ?_
  refine l9 lf ?_
  replace h:=Option.some.inj h
  subst h
  refine bC (R:=[]) (H':=[.cells KC 57 ((LI .i64).enc 5), .cells nS 41 av]) (ks:=[2,3]) rfl (by decide) ?_
  have PE:(ae).rep (fun w=>K w∧(Hs [.ext (bI []) (Hs [])]) w) av aW:=aJ.mono _ dk (show (ae).rep (Hs []) av aW from aD)
  exact bW (.tuple #[.agg av.toArray, .int .i64 5],bI [],Hs []) rfl (.agg rfl inferInstance inferInstance (aJ.len _ (show (ae).rep (Hs []) av aW from aD)) (.one rfl inferInstance inferInstance rfl .nil)) ⟨_,rfl,PE⟩ rfl (ks:=[0]) rfl (by decide)
 refine aB ?_
 refine ag rfl (ah rfl) ?_
 refine ag rfl (dM rfl rfl) ?_
 refine ag rfl (ah rfl) ?_
 refine cC (cg rfl rfl) rfl (fun hb=>ah rfl) ?_
 refine ag rfl (dV rfl rfl) ?_
 refine ag rfl (ah rfl) ?_
 refine cC (cg rfl rfl) rfl (fun hb=>aj rfl (aJ.len _ f0)) ?_
 refine cC (cg rfl rfl) rfl (fun hb=>ah rfl) ?_
 refine cC (cg rfl rfl) rfl (fun hb=>ah rfl) ?_
 refine cC (cg rfl rfl) rfl (fun hb=>bD (gX (K:=K) (aJ.mono _ dk f0) (oX hb)) (aU (bT rfl hb) (aU (bT rfl hb) (aU (bT rfl hb) rfl))) kn) ?_
 refine ag rfl (dV rfl rfl) ?_
 refine ag rfl (bD (nq Ff _) rfl (fun _ _ _=>trivial)) ?_
 refine bh ?_
 refine aI ?_
 refine aS ?_
 obtain ⟨oz,h⟩:=cD h
 obtain ⟨mh,sg,h⟩:=cQ h
 refine aB ?_
 refine ag rfl (ah rfl) ?_
 refine ag rfl (ah rfl) ?_
 refine ag rfl (aH rfl) ?_
 refine ag rfl (bV (m:=(Int.toNat a2)) rfl rfl (ay oz).1 (ay oz).2) ?_
 obtain ⟨QH,M4,f41⟩ : ∃cc,bP CT (4 + (Int.toNat a2) * 1) ((LI .u32).enc a3) = cc∧(ax).rep (fun w=>K w∧Hs [.ext pB yp] w) cc mh:=⟨_,rfl,by rw [sg]; exact (dN.comp (aN.idx (L:=(LI .u32)) (m:=8) (k:=1) ((Int.toNat a2)) (ay oz).2 rfl)).set (aJ.mono _ dk f33) (bg.iff.2 rfl)⟩
 refine fq (ei ((LI .u32).enc a3) (dN.comp (aN.idx (L:=(LI .u32)) (m:=8) (k:=1) ((Int.toNat a2)) (ay oz).2 rfl)) (v:=a3) (r:=f33) (rv:=((bg.iff.2 rfl):((LI .u32)).rep (fun w=>K w∧Hs [.ext pB yp] w) ((LI .u32).enc a3) a3)) rfl rfl rfl rfl M4) (fun _ _=>?_)
 refine bh ?_
 refine aI ?_
 refine aS ?_
 obtain ⟨kE,Ao,h⟩:=bu h
 refine aB ?_
 refine ag rfl (aj rfl (aJ.len _ f0)) ?_
 refine ag rfl (ah rfl) ?_
 refine ag rfl (aj rfl (aJ.len _ f41)) ?_
 refine cG rfl (dW (jo (K:=(fun w=>K w∧Hs [.ext pB yp] w)) (aJ.mono _ dk f0) (aJ.mono _ dk f41) Ao) rfl) (fun ⟨N8,nn,v9⟩ EK=>?_)
 obtain ⟨BI,rfl,f47⟩:=EK
 replace f47:(ae).rep (fun w=>(fun w=>K w∧Hs [.ext pB yp] w) w∧Hs [.ext nn v9] w) BI kE.1:=f47
 refine ag rfl (bt rfl rfl) ?_
 refine ag rfl (bt rfl rfl) ?_
 obtain ⟨FN,Fc,f50⟩ : ∃cc,bP av 0 BI = cc∧(ae).rep (fun w=>K w∧Hs [.ext pB yp, .ext nn v9] w) cc kE.1:=⟨_,rfl,(aN.id (L:=ae)).set (aJ.mono _ dk (show (ae).rep (Hs []) av aW from aD)) (aJ.mono _ dk f47)⟩
 refine fq (ei BI (aN.id (L:=ae)) (v:=kE.1) (r:=(show (ae).rep (Hs []) av aW from aD)) (rv:=((aJ.mono _ dk f47):(ae).rep (fun w=>K w∧Hs [.ext pB yp, .ext nn v9] w) BI kE.1)) rfl rfl rfl rfl Fc) (fun _ _=>?_)
 refine fq (dD (M:=(LI .i64)) (aN.id (L:=(LI .i64))) kE.2 kE.2 rfl rfl rfl rfl rfl) (fun _ _=>?_)
 refine bh ?_
 refine aI ?_
 refine fJ ?_
 replace h:=Option.some.inj h
 subst h
 refine vW lf ?_
 refine bC (R:=[.ext nn v9, .ext pB yp]) (H':=[.cells KC 57 ((LI .i64).enc kE.2), .cells nS 41 FN]) (ks:=[0,2,3,4]) rfl (by decide) ?_
 have PB:(ae).rep (fun w=>K w∧(Hs [.ext (bI [.ext nn v9, .ext pB yp]) (Hs [.ext nn v9, .ext pB yp])]) w) FN kE.1:=aJ.mono _ dk f50
 exact bW (.tuple #[.agg FN.toArray, .int .i64 kE.2],bI [.ext nn v9, .ext pB yp],Hs [.ext nn v9, .ext pB yp]) rfl (.agg rfl inferInstance inferInstance (aJ.len _ f50) (.one rfl inferInstance inferInstance rfl .nil)) ⟨_,rfl,PB⟩ rfl (ks:=[0]) rfl (by decide)
def jT (n:Nat) (a0:au) (a1:Int) (a2:Int) (a3:Int) (a4:Bool):Option (au × Int):=
 bd (nk n a0 a1 a2 a3 a4) fun bp =>
 cn ((bp.2 != 0)) (
 some (a0,bp.2)) (
 some (bp.1,0))
theorem mE {n:Nat} {a0:au} {a1:Int} {a2:Int} {a3:Int} {a4:Bool} {r:au × Int} {K:World→Prop} [bF K] {ct:List Value} (f0:(ae).rep K ct a0) (h:jT n a0 a1 a2 a3 a4 = some r):p9 Try.prog 7 [.agg ct.toArray, .int .u32 a1, .int .i64 a2, .int .u32 a3, .bool a4] K (fun J v=>∃u0,v = (.tuple #[.agg u0.toArray, .int .i64 r.2])∧(ae).rep (fun w=>K w∧J w) u0 (r.1)):=by
 unfold jT at h
 refine eR Try.func7 (by kernel_rfl) rfl Try.ntmps7 rfl (fun cx dc hpre hro=>?_)
 haveI:=jH dc hpre
 refine aS ?_
 refine aB ?_
 refine cG rfl (bH rfl) (fun b5 _=>?_)
 refine cG rfl (bk (hz:=(⟨by kernel_rfl⟩ : bY Try.prog 41 av))) (fun nS _=>?_)
 refine ag rfl (aC rfl) ?_
 refine bh ?_
 refine aI ?_
 refine aS ?_
 obtain ⟨bp,cu,h⟩:=bu h
 refine aB ?_
 refine ag rfl (aj rfl (aJ.len _ f0)) ?_
 refine ag rfl (ah rfl) ?_
 refine ag rfl (ah rfl) ?_
 refine ag rfl (ah rfl) ?_
 refine ag rfl (ah rfl) ?_
 refine cG rfl (dW (xl (K:=K) (aJ.mono _ dk f0) cu) rfl) (fun ⟨wu,cY,gC⟩ pQ=>?_)
 obtain ⟨pz,rfl,f26⟩:=pQ
 replace f26:(ae).rep (fun w=>K w∧Hs [.ext cY gC] w) pz bp.1:=f26
 refine ag rfl (ah rfl) ?_
 refine ag rfl (bt rfl rfl) ?_
 refine ag rfl (bt rfl rfl) ?_
 refine cG rfl (bk (hz:=(⟨by kernel_rfl⟩ : bY Try.prog 41 av))) (fun NW _=>?_)
 obtain ⟨qx,wY,f29⟩ : ∃cc,bP av 0 pz = cc∧(ae).rep (fun w=>K w∧Hs [.ext cY gC] w) cc bp.1:=⟨_,rfl,(aN.id (L:=ae)).set (aJ.mono _ dk (show (ae).rep (Hs []) av aW from aD)) (aJ.mono _ dk f26)⟩
 refine fq (ei pz (aN.id (L:=ae)) (v:=bp.1) (r:=(show (ae).rep (Hs []) av aW from aD)) (rv:=((aJ.mono _ dk f26):(ae).rep (fun w=>K w∧Hs [.ext cY gC] w) pz bp.1)) rfl rfl rfl rfl wY) (fun _ _=>?_)
 refine ag rfl (aC rfl) ?_
 refine bh ?_
 refine aI ?_
 refine aS ?_
 refine aS ?_
 refine aB ?_
 refine ag rfl (ah rfl) ?_
 refine ag rfl (j5 rfl rfl) ?_
 refine bh ?_
 refine aI ?_
 refine iq rfl (fun hc=>?_) (fun hc=>?_)
 ·
  replace h:=oH hc h
  refine aS ?_
  refine aB ?_
  refine ag rfl (aj rfl (aJ.len _ f0)) ?_
  refine ag rfl (ah rfl) ?_
  obtain ⟨sE,uc,f31⟩ : ∃cc,bP av 0 ct = cc∧(ae).rep K cc a0:=⟨_,rfl,(aN.id (L:=ae)).set (aJ.mono _ dk (show (ae).rep (Hs []) av aW from aD)) (aJ.mono _ dk f0)⟩
  refine fq (ei ct (aN.id (L:=ae)) (v:=a0) (r:=(show (ae).rep (Hs []) av aW from aD)) (rv:=((aJ.mono _ dk f0):(ae).rep K ct a0)) rfl rfl rfl rfl uc) (fun _ _=>?_)
  refine ag rfl (aC rfl) ?_
  refine bh ?_
  refine aI ?_
  refine fJ ?_
  refine dK ?_
  replace h:=Option.some.inj h
  subst h
  refine bC (R:=[]) (H':=[.cells nS 41 sE]) (ks:=[2]) rfl (by decide) ?_
  have K2:(ae).rep (fun w=>K w∧(Hs [.ext (bI []) (Hs [])]) w) sE a0:=aJ.mono _ dk f31
  exact bW (.tuple #[.agg sE.toArray, .int .i64 bp.2],bI [],Hs []) rfl (.agg rfl inferInstance inferInstance (aJ.len _ f31) (.tmp rfl .nil)) ⟨_,rfl,K2⟩ rfl (ks:=[0]) rfl (by decide)
 ·
  replace h:=oI hc h
  refine fV ?_
  refine aI ?_
  refine aS ?_
  refine aB ?_
  refine ag rfl (aj rfl (aJ.len _ f29)) ?_
  obtain ⟨xn,M7,f34⟩ : ∃cc,bP av 0 qx = cc∧(ae).rep (fun w=>K w∧Hs [.ext cY gC] w) cc bp.1:=⟨_,rfl,(aN.id (L:=ae)).set (aJ.mono _ dk (show (ae).rep (Hs []) av aW from aD)) (aJ.mono _ dk f29)⟩
  refine fq (ei qx (aN.id (L:=ae)) (v:=bp.1) (r:=(show (ae).rep (Hs []) av aW from aD)) (rv:=((aJ.mono _ dk f29):(ae).rep (fun w=>K w∧Hs [.ext cY gC] w) qx bp.1)) rfl rfl rfl rfl M7) (fun _ _=>?_)
  refine ag rfl (aC rfl) ?_
  refine bh ?_
  refine aI ?_
  refine fJ ?_
  replace h:=Option.some.inj h
  subst h
  refine bC (R:=[.ext cY gC]) (H':=[.cells nS 41 xn]) (ks:=[1,2]) rfl (by decide) ?_
  have PG:(ae).rep (fun w=>K w∧(Hs [.ext (bI [.ext cY gC]) (Hs [.ext cY gC])]) w) xn bp.1:=aJ.mono _ dk f34
  exact bW (.tuple #[.agg xn.toArray, .int .i64 0],bI [.ext cY gC],Hs [.ext cY gC]) rfl (.agg rfl inferInstance inferInstance (aJ.len _ f34) (.tmp rfl .nil)) ⟨_,rfl,PG⟩ rfl (ks:=[0]) rfl (by decide)
def jM (n:Nat)  : Option Bool:=
 bd (ia n aW 0 1) fun bp =>
 bd (ia n bp.1 1 1) fun bZ =>
 bd (ia n bZ.1 1 1) fun mh =>
 bd (jT n mh.1 2 0 1 false) fun j6 =>
 bd (jT n j6.1 2 1 3 false) fun tF =>
 bd (jT n j6.1 1 0 2 false) fun Gm =>
 bd (iY n j6.1 2 0) fun Dh =>
 bd (iY n j6.1 2 1) fun xG =>
 some ((((((j6.2 == 0) && (tF.2 == 5)) && (Gm.2 == 5)) && (Dh.1 == 1)) && (Dh.2 == 0)) && (xG.2 == 10))
theorem n5 {n:Nat}  {r:Bool}  (h:jM n  = some r):xE Try.prog 5 [] (.bool r):=by
 unfold jM at h
 refine eR Try.func5 (by kernel_rfl) rfl Try.ntmps5 rfl (fun cx dc hpre hro=>?_)
 refine aS ?_
 refine aB ?_
 refine ag rfl (aC rfl) ?_
 refine bh ?_
 refine aI ?_
 refine aS ?_
 refine aB ?_
 refine cG rfl (bk (hz:=(⟨by kernel_rfl⟩ : bY Try.prog 41 av))) (fun b1 _=>?_)
 refine bh ?_
 refine aI ?_
 refine aS ?_
 obtain ⟨bp,cu,h⟩:=bu h
 refine aB ?_
 refine ag rfl (aj rfl (aJ.len _ (show (ae).rep (Hs []) av aW from aD))) ?_
 refine cG rfl (dW (ku (K:=(Hs [])) (aJ.mono _ dk (show (ae).rep (Hs []) av aW from aD)) cu) rfl) (fun ⟨wu,cY,gC⟩ pQ=>?_)
 obtain ⟨pz,rfl,f26⟩:=pQ
 replace f26:(ae).rep (fun w=>(Hs []) w∧Hs [.ext cY gC] w) pz bp.1:=f26
 refine ag rfl (ah rfl) ?_
 refine ag rfl (bt rfl rfl) ?_
 refine ag rfl (bt rfl rfl) ?_
 refine ag rfl (bt rfl rfl) ?_
 obtain ⟨qx,wY,f29⟩ : ∃cc,bP av 0 pz = cc∧(ae).rep (Hs [.ext cY gC]) cc bp.1:=⟨_,rfl,(aN.id (L:=ae)).set (aJ.mono _ dk (show (ae).rep (Hs []) av aW from aD)) (aJ.mono _ dk f26)⟩
 refine fq (ei pz (aN.id (L:=ae)) (v:=bp.1) (r:=(show (ae).rep (Hs []) av aW from aD)) (rv:=((aJ.mono _ dk f26):(ae).rep (Hs [.ext cY gC]) pz bp.1)) rfl rfl rfl rfl wY) (fun _ _=>?_)
 refine bh ?_
 refine aI ?_
 refine aS ?_
 obtain ⟨bZ,qu,h⟩:=bu h
 refine aB ?_
 refine ag rfl (aj rfl (aJ.len _ f29)) ?_
 refine cG rfl (dW (ku (K:=(Hs [.ext cY gC])) (aJ.mono _ dk f29) qu) rfl) (fun ⟨Rx,cJ,fM⟩ Ms=>?_)
 obtain ⟨tq,rfl,f35⟩:=Ms
 replace f35:(ae).rep (fun w=>(Hs [.ext cY gC]) w∧Hs [.ext cJ fM] w) tq bZ.1:=f35
 refine ag rfl (ah rfl) ?_
 refine ag rfl (bt rfl rfl) ?_
 refine ag rfl (bt rfl rfl) ?_
 refine ag rfl (bt rfl rfl) ?_
 obtain ⟨A9,AU,f38⟩ : ∃cc,bP qx 0 tq = cc∧(ae).rep (Hs [.ext cY gC, .ext cJ fM]) cc bZ.1:=⟨_,rfl,(aN.id (L:=ae)).set (aJ.mono _ dk f29) (aJ.mono _ dk f35)⟩
 refine fq (ei tq (aN.id (L:=ae)) (v:=bZ.1) (r:=f29) (rv:=((aJ.mono _ dk f35):(ae).rep (Hs [.ext cY gC, .ext cJ fM]) tq bZ.1)) rfl rfl rfl rfl AU) (fun _ _=>?_)
 refine bh ?_
 refine aI ?_
 refine aS ?_
 obtain ⟨mh,sg,h⟩:=bu h
 refine aB ?_
 refine ag rfl (aj rfl (aJ.len _ f38)) ?_
 refine cG rfl (dW (ku (K:=(Hs [.ext cY gC, .ext cJ fM])) (aJ.mono _ dk f38) sg) rfl) (fun ⟨N9,ij,nE⟩ Az=>?_)
 obtain ⟨vJ,rfl,f44⟩:=Az
 replace f44:(ae).rep (fun w=>(Hs [.ext cY gC, .ext cJ fM]) w∧Hs [.ext ij nE] w) vJ mh.1:=f44
 refine ag rfl (ah rfl) ?_
 refine ag rfl (bt rfl rfl) ?_
 refine ag rfl (bt rfl rfl) ?_
 refine ag rfl (bt rfl rfl) ?_
 obtain ⟨y8,AT,f47⟩ : ∃cc,bP A9 0 vJ = cc∧(ae).rep (Hs [.ext cY gC, .ext cJ fM, .ext ij nE]) cc mh.1:=⟨_,rfl,(aN.id (L:=ae)).set (aJ.mono _ dk f38) (aJ.mono _ dk f44)⟩
 refine fq (ei vJ (aN.id (L:=ae)) (v:=mh.1) (r:=f38) (rv:=((aJ.mono _ dk f44):(ae).rep (Hs [.ext cY gC, .ext cJ fM, .ext ij nE]) vJ mh.1)) rfl rfl rfl rfl AT) (fun _ _=>?_)
 refine bh ?_
 refine aI ?_
 refine aS ?_
 obtain ⟨j6,An,h⟩:=bu h
 refine aB ?_
 refine ag rfl (aj rfl (aJ.len _ f47)) ?_
 refine cG rfl (dW (mE (K:=(Hs [.ext cY gC, .ext cJ fM, .ext ij nE])) (aJ.mono _ dk f47) An) rfl) (fun ⟨Rt,pY,zj⟩ Mr=>?_)
 obtain ⟨JK,rfl,f53⟩:=Mr
 replace f53:(ae).rep (fun w=>(Hs [.ext cY gC, .ext cJ fM, .ext ij nE]) w∧Hs [.ext pY zj] w) JK j6.1:=f53
 refine ag rfl (ah rfl) ?_
 refine ag rfl (bt rfl rfl) ?_
 refine ag rfl (bt rfl rfl) ?_
 obtain ⟨tp,M3,f56⟩ : ∃cc,bP y8 0 JK = cc∧(ae).rep (Hs [.ext cY gC, .ext cJ fM, .ext ij nE, .ext pY zj]) cc j6.1:=⟨_,rfl,(aN.id (L:=ae)).set (aJ.mono _ dk f47) (aJ.mono _ dk f53)⟩
 refine fq (ei JK (aN.id (L:=ae)) (v:=j6.1) (r:=f47) (rv:=((aJ.mono _ dk f53):(ae).rep (Hs [.ext cY gC, .ext cJ fM, .ext ij nE, .ext pY zj]) JK j6.1)) rfl rfl rfl rfl M3) (fun _ _=>?_)
 refine ag rfl (aC rfl) ?_
 refine bh ?_
 refine aI ?_
 refine aS ?_
 obtain ⟨tF,vo,h⟩:=bu h
 refine aB ?_
 refine ag rfl (aj rfl (aJ.len _ f56)) ?_
 refine cG rfl (dW (mE (K:=(Hs [.ext cY gC, .ext cJ fM, .ext ij nE, .ext pY zj])) (aJ.mono _ dk f56) vo) rfl) (fun ⟨Rr,FR,N3⟩ Mq=>?_)
 obtain ⟨Kz,rfl,f62⟩:=Mq
 replace f62:(ae).rep (fun w=>(Hs [.ext cY gC, .ext cJ fM, .ext ij nE, .ext pY zj]) w∧Hs [.ext FR N3] w) Kz tF.1:=f62
 refine ag rfl (ah rfl) ?_
 refine ag rfl (bt rfl rfl) ?_
 refine ag rfl (bt rfl rfl) ?_
 refine cG rfl (bk (hz:=(⟨by kernel_rfl⟩ : bY Try.prog 41 av))) (fun b3 _=>?_)
 obtain ⟨JJ,M1,f65⟩ : ∃cc,bP av 0 Kz = cc∧(ae).rep (Hs [.ext cY gC, .ext cJ fM, .ext ij nE, .ext pY zj, .ext FR N3]) cc tF.1:=⟨_,rfl,(aN.id (L:=ae)).set (aJ.mono _ dk (show (ae).rep (Hs []) av aW from aD)) (aJ.mono _ dk f62)⟩
 refine fq (ei Kz (aN.id (L:=ae)) (v:=tF.1) (r:=(show (ae).rep (Hs []) av aW from aD)) (rv:=((aJ.mono _ dk f62):(ae).rep (Hs [.ext cY gC, .ext cJ fM, .ext ij nE, .ext pY zj, .ext FR N3]) Kz tF.1)) rfl rfl rfl rfl M1) (fun _ _=>?_)
 refine ag rfl (aC rfl) ?_
 refine bh ?_
 refine aI ?_
 refine aS ?_
 obtain ⟨Gm,LM,h⟩:=bu h
 refine aB ?_
 refine ag rfl (aj rfl (aJ.len _ f56)) ?_
 refine cG rfl (dW (mE (K:=(Hs [.ext cY gC, .ext cJ fM, .ext ij nE, .ext pY zj])) (aJ.mono _ dk f56) LM) rfl) (fun ⟨Rm,FQ,N2⟩ Mm=>?_)
 obtain ⟨Kx,rfl,f71⟩:=Mm
 replace f71:(ae).rep (fun w=>(Hs [.ext cY gC, .ext cJ fM, .ext ij nE, .ext pY zj]) w∧Hs [.ext FQ N2] w) Kx Gm.1:=f71
 refine ag rfl (ah rfl) ?_
 refine ag rfl (bt rfl rfl) ?_
 refine ag rfl (bt rfl rfl) ?_
 refine cG rfl (bk (hz:=(⟨by kernel_rfl⟩ : bY Try.prog 41 av))) (fun b5 _=>?_)
 obtain ⟨JI,MZ,f74⟩ : ∃cc,bP av 0 Kx = cc∧(ae).rep (Hs [.ext cY gC, .ext cJ fM, .ext ij nE, .ext pY zj, .ext FQ N2]) cc Gm.1:=⟨_,rfl,(aN.id (L:=ae)).set (aJ.mono _ dk (show (ae).rep (Hs []) av aW from aD)) (aJ.mono _ dk f71)⟩
 refine fq (ei Kx (aN.id (L:=ae)) (v:=Gm.1) (r:=(show (ae).rep (Hs []) av aW from aD)) (rv:=((aJ.mono _ dk f71):(ae).rep (Hs [.ext cY gC, .ext cJ fM, .ext ij nE, .ext pY zj, .ext FQ N2]) Kx Gm.1)) rfl rfl rfl rfl MZ) (fun _ _=>?_)
 refine ag rfl (aC rfl) ?_
 refine bh ?_
 refine aI ?_
 refine aS ?_
 obtain ⟨Dh,EA,h⟩:=bu h
 refine aB ?_
 refine ag rfl (aj rfl (aJ.len _ f56)) ?_
 refine ag rfl (bD (mF (K:=(Hs [.ext cY gC, .ext cJ fM, .ext ij nE, .ext pY zj])) (aJ.mono _ dk f56) EA) rfl kn) ?_
 refine ag rfl (ah rfl) ?_
 refine ag rfl (bt rfl rfl) ?_
 refine ag rfl (bt rfl rfl) ?_
 refine ag rfl (aC rfl) ?_
 refine ag rfl (aC rfl) ?_
 refine bh ?_
 refine aI ?_
 refine aS ?_
 obtain ⟨xG,Al,h⟩:=bu h
 refine aB ?_
 refine ag rfl (aj rfl (aJ.len _ f56)) ?_
 refine ag rfl (bD (mF (K:=(Hs [.ext cY gC, .ext cJ fM, .ext ij nE, .ext pY zj])) (aJ.mono _ dk f56) Al) rfl kn) ?_
 refine ag rfl (ah rfl) ?_
 refine ag rfl (bt rfl rfl) ?_
 refine ag rfl (bt rfl rfl) ?_
 refine ag rfl (aC rfl) ?_
 refine ag rfl (aC rfl) ?_
 refine bh ?_
 refine aI ?_
 refine aS ?_
 refine aB ?_
 refine ag rfl (ah rfl) ?_
 refine ag rfl (dM rfl rfl) ?_
 refine ag rfl (ah rfl) ?_
 refine cC (cg rfl rfl) rfl (fun hb=>ah rfl) ?_
 refine cC (cg rfl rfl) rfl (fun hb=>dM (bT rfl hb) rfl) ?_
 refine ag rfl (cM rfl rfl) ?_
 refine ag rfl (ah rfl) ?_
 refine cC (cg rfl rfl) rfl (fun hb=>ah rfl) ?_
 refine cC (cg rfl rfl) rfl (fun hb=>dM (bT rfl hb) rfl) ?_
 refine ag rfl (cM rfl rfl) ?_
 refine ag rfl (ah rfl) ?_
 refine cC (cg rfl rfl) rfl (fun hb=>ah rfl) ?_
 refine cC (cg rfl rfl) rfl (fun hb=>dM (bT rfl hb) rfl) ?_
 refine ag rfl (cM rfl rfl) ?_
 refine ag rfl (ah rfl) ?_
 refine cC (cg rfl rfl) rfl (fun hb=>ah rfl) ?_
 refine cC (cg rfl rfl) rfl (fun hb=>dM (bT rfl hb) rfl) ?_
 refine ag rfl (cM rfl rfl) ?_
 refine ag rfl (ah rfl) ?_
 refine cC (cg rfl rfl) rfl (fun hb=>ah rfl) ?_
 refine cC (cg rfl rfl) rfl (fun hb=>dM (bT rfl hb) rfl) ?_
 refine ag rfl (cM rfl rfl) ?_
 refine ag rfl (aC rfl) ?_
 refine bh ?_
 refine aI ?_
 refine fJ ?_
 replace h:=Option.some.inj h
 subst h
 exact bW () rfl (.tmp rfl .nil) trivial rfl (ks:=[]) rfl (by decide)
def jK (n:Nat) (a0:ai) (a1:Int) (a2:Int):Option (Int × Int):=
 bd (bB n a0 a1) fun bp =>
 cn ((!bp)) (
 some (0,4)) (
 cn ((decide (a2 < 0) || decide (7 < a2))) (
 some (0,2)) (
 bd (bM n a0.B a1) fun cB =>
 gu (dU cB 32) <|
 gu (dU a2 8) <|
 cn ((((a0.R (Int.toNat cB)).Cells (Int.toNat a2)) == 0)) (
 some (0,10)) (
 bd (bB n a0 ((a0.R (Int.toNat cB)).Cells (Int.toNat a2))) fun iT =>
 cn ((!iT)) (
 some (0,4)) (
 some (((a0.R (Int.toNat cB)).Cells (Int.toNat a2)),0)))))
theorem sw {n:Nat} {a0:ai} {a1:Int} {a2:Int} {r:Int × Int} {K:World→Prop} [bF K] {ct:List Value} (f0:(ak).rep K ct a0) (h:jK n a0 a1 a2 = some r):qM Try.prog 12 [.agg ct.toArray, .int .i64 a1, .int .i64 a2] K (.tuple #[.int .i64 r.1, .int .i64 r.2]):=by
 unfold jK at h
 refine eR Try.func12 (by kernel_rfl) rfl Try.ntmps12 rfl (fun cx dc hpre hro=>?_)
 haveI:=jH dc hpre
 refine aS ?_
 refine aB ?_
 refine cG rfl (bH rfl) (fun b3 _=>?_)
 refine ag rfl (aC rfl) ?_
 refine ag rfl (aC rfl) ?_
 refine bh ?_
 refine aI ?_
 refine aS ?_
 refine aS ?_
 obtain ⟨bp,cu,h⟩:=bu h
 refine aB ?_
 refine ag rfl (aj rfl (aJ.len _ f0)) ?_
 refine ag rfl (ah rfl) ?_
 refine ag rfl (bD (bO (K:=K) (aJ.mono _ dk f0) cu) rfl kn) ?_
 refine ag rfl (eW rfl) ?_
 refine bh ?_
 refine aI ?_
 refine iq rfl (fun hc=>?_) (fun hc=>?_)
 ·
  replace h:=oH hc h
  refine aS ?_
  refine aB ?_
  refine ag rfl (aC rfl) ?_
  refine ag rfl (aC rfl) ?_
  refine bh ?_
  refine aI ?_
  refine fJ ?_
  refine dK ?_
  replace h:=Option.some.inj h
  subst h
  exact bW () rfl (.tmp rfl (.tmp rfl .nil)) trivial rfl (ks:=[]) rfl (by decide)
 ·
  replace h:=oI hc h
  refine fV ?_
  refine aI ?_
  refine aS ?_
  refine aS ?_
  refine aB ?_
  refine ag rfl (ah rfl) ?_
  refine ag rfl (nv rfl rfl) ?_
  refine ag rfl (ah rfl) ?_
  refine cC (cg rfl rfl) rfl (fun hb=>ah rfl) ?_
  refine cC (cg rfl rfl) rfl (fun hb=>kW (bT rfl hb) rfl) ?_
  refine ag rfl (dV rfl rfl) ?_
  refine bh ?_
  refine aI ?_
  refine iq rfl (fun hc=>?_) (fun hc=>?_)
  ·
   replace h:=oH hc h
   refine aS ?_
   refine aB ?_
   refine ag rfl (aC rfl) ?_
   refine ag rfl (aC rfl) ?_
   refine bh ?_
   refine aI ?_
   refine fJ ?_
   refine dK ?_
   replace h:=Option.some.inj h
   subst h
   exact bW () rfl (.tmp rfl (.tmp rfl .nil)) trivial rfl (ks:=[]) rfl (by decide)
  ·
   replace h:=oI hc h
   refine fV ?_
   refine aI ?_
   refine aS ?_
   obtain ⟨cB,gE,h⟩:=bu h
   obtain ⟨rD,h⟩:=cD h
   obtain ⟨wW,h⟩:=cD h
   refine aB ?_
   refine ag rfl (aH rfl) ?_
   refine ag rfl (aR rfl (bg.iff.1 (bN.get f0)) (bx _ _)) ?_
   refine ag rfl (ah rfl) ?_
   refine ag rfl (bD (cE gE) rfl (fun _ _ _=>trivial)) ?_
   refine ag rfl (ah rfl) ?_
   refine ag rfl (aH rfl) ?_
   refine ag rfl (bV (m:=(Int.toNat cB)) rfl rfl (ay rD).1 (ay rD).2) ?_
   refine ag rfl (eX rfl) ?_
   refine ag rfl (bV (m:=(Int.toNat a2)) rfl rfl (ay wW).1 (ay wW).2) ?_
   refine ag rfl (bG rfl ((((cw.comp (aN.idx (L:=aO) (m:=32) (k:=12) ((Int.toNat cB)) (ay rD).2 rfl)).comp dO).comp (aN.idx (L:=(LI .i64)) (m:=8) (k:=1) ((Int.toNat a2)) (ay wW).2 rfl)).int f0)) ?_
   refine ag rfl (aC rfl) ?_
   refine bh ?_
   refine aI ?_
   refine aS ?_
   refine aS ?_
   refine aB ?_
   refine ag rfl (ah rfl) ?_
   refine ag rfl (dM rfl rfl) ?_
   refine bh ?_
   refine aI ?_
   refine iq rfl (fun hc=>?_) (fun hc=>?_)
   ·
    replace h:=oH hc h
    refine aS ?_
    refine aB ?_
    refine ag rfl (aC rfl) ?_
    refine ag rfl (aC rfl) ?_
    refine bh ?_
    refine aI ?_
    refine fJ ?_
    refine dK ?_
    replace h:=Option.some.inj h
    subst h
    exact bW () rfl (.tmp rfl (.tmp rfl .nil)) trivial rfl (ks:=[]) rfl (by decide)
   ·
    replace h:=oI hc h
    refine fV ?_
    refine aI ?_
    refine aS ?_
    refine aS ?_
    obtain ⟨iT,nh,h⟩:=bu h
    refine aB ?_
    refine ag rfl (aj rfl (aJ.len _ f0)) ?_
    refine ag rfl (ah rfl) ?_
    refine ag rfl (bD (bO (K:=K) (aJ.mono _ dk f0) nh) rfl kn) ?_
    refine ag rfl (eW rfl) ?_
    refine bh ?_
    refine aI ?_
    refine iq rfl (fun hc=>?_) (fun hc=>?_)
    ·
     replace h:=oH hc h
     refine aS ?_
     refine aB ?_
     refine ag rfl (aC rfl) ?_
     refine ag rfl (aC rfl) ?_
     refine bh ?_
     refine aI ?_
     refine fJ ?_
     refine dK ?_
     replace h:=Option.some.inj h
     subst h
     exact bW () rfl (.tmp rfl (.tmp rfl .nil)) trivial rfl (ks:=[]) rfl (by decide)
    ·
     replace h:=oI hc h
     refine fV ?_
     refine aI ?_
     refine aS ?_
     refine aB ?_
     refine ag rfl (ah rfl) ?_
     refine ag rfl (aC rfl) ?_
     refine ag rfl (aC rfl) ?_
     refine bh ?_
     refine aI ?_
     refine fJ ?_
     replace h:=Option.some.inj h
     subst h
     exact bW () rfl (.tmp rfl (.tmp rfl .nil)) trivial rfl (ks:=[]) rfl (by decide)
def lM (n:Nat) (a0:ai) (a1:Int) (a2:Int) (a3:Int) (a4:Bool):Option (ai × Int):=
 bd (bB n a0 a1) fun bp =>
 cl (((!bp) == false) && ((a3 != 0) == true)) (bB n a0 a3) default fun cB =>
 cn (((!bp) || ((a3 != 0) && (!cB)))) (
 some (a0,4)) (
 cn ((decide (a2 < 0) || decide (7 < a2))) (
 some (a0,2)) (
 cl (((a3 != 0) && (!a4)) == true) (gl n a0 a3 a1) default fun eH =>
 cn ((((a3 != 0) && (!a4)) && (!eH))) (
 some (a0,5)) (
 bd (bM n a0.B a1) fun j7 =>
 gu (dU j7 32) <|
 gu (dU a2 8) <|
 lt ({ a0 with R:=(eO a0.R (Int.toNat j7) ({ (a0.R (Int.toNat j7)) with Cells:=(eO ((a0.R (Int.toNat j7)).Cells) (Int.toNat a2) a3) })) }:ai) fun gi =>
 some (gi,0))))
theorem vE {n:Nat} {a0:ai} {a1:Int} {a2:Int} {a3:Int} {a4:Bool} {r:ai × Int} {K:World→Prop} [bF K] {ct:List Value} (f0:(ak).rep K ct a0) (h:lM n a0 a1 a2 a3 a4 = some r):p9 Try.prog 8 [.agg ct.toArray, .int .i64 a1, .int .i64 a2, .int .i64 a3, .bool a4] K (fun J v=>∃u0,v = (.tuple #[.agg u0.toArray, .int .i64 r.2])∧(ak).rep (fun w=>K w∧J w) u0 (r.1)):=by
 unfold lM at h
 refine eR Try.func8 (by kernel_rfl) rfl Try.ntmps8 rfl (fun cx dc hpre hro=>?_)
 haveI:=jH dc hpre
 refine aS ?_
 refine aB ?_
 refine cG rfl (bH rfl) (fun b5 _=>?_)
 refine cG rfl (bk (hz:=(⟨by kernel_rfl⟩ : bY Try.prog 53 aE))) (fun nS _=>?_)
 refine ag rfl (aC rfl) ?_
 refine bh ?_
 refine aI ?_
 refine aS ?_
 refine aS ?_
 obtain ⟨bp,cu,h⟩:=bu h
 obtain ⟨cB,gE,_,h⟩:=jd h
 refine aB ?_
 refine ag rfl (aj rfl (aJ.len _ f0)) ?_
 refine ag rfl (ah rfl) ?_
 refine ag rfl (bD (bO (K:=K) (aJ.mono _ dk f0) cu) rfl kn) ?_
 refine ag rfl (eW rfl) ?_
 refine ag rfl (ah rfl) ?_
 refine cC (cg rfl rfl) rfl (fun hb=>ah rfl) ?_
 refine cC (cg rfl rfl) rfl (fun hb=>j5 (bT rfl hb) rfl) ?_
 refine cC (cg rfl rfl) rfl (fun hb=>ah (bT rfl hb)) ?_
 refine cC (iO rfl rfl) rfl (fun hb=>aj rfl (aJ.len _ f0)) ?_
 refine cC (iO rfl rfl) rfl (fun hb=>ah rfl) ?_
 refine cC (iO rfl rfl) rfl (fun hb=>bD (bO (K:=K) (aJ.mono _ dk f0) (gE hb)) (aU (bT rfl hb) (aU (bT rfl hb) rfl)) kn) ?_
 refine cC (iO rfl rfl) rfl (fun hb=>eW (bT rfl hb)) ?_
 refine cC (cg rfl rfl) rfl (fun hb=>cM (bT rfl hb) (w5 rfl hb)) ?_
 refine ag rfl (dV rfl rfl) ?_
 refine bh ?_
 refine aI ?_
 refine iq rfl (fun hc=>?_) (fun hc=>?_)
 ·
  replace h:=oH hc h
  refine aS ?_
  refine aB ?_
  refine ag rfl (aj rfl (aJ.len _ f0)) ?_
  obtain ⟨xo,AW,f24⟩ : ∃cc,bP aE 0 ct = cc∧(ak).rep K cc a0:=⟨_,rfl,(aN.id (L:=ak)).set (aJ.mono _ dk (show (ak).rep (Hs []) aE cv from aP)) (aJ.mono _ dk f0)⟩
  refine fq (ei ct (aN.id (L:=ak)) (v:=a0) (r:=(show (ak).rep (Hs []) aE cv from aP)) (rv:=((aJ.mono _ dk f0):(ak).rep K ct a0)) rfl rfl rfl rfl AW) (fun _ _=>?_)
  refine ag rfl (aC rfl) ?_
  refine bh ?_
  refine aI ?_
  refine fJ ?_
  refine dK ?_
  replace h:=Option.some.inj h
  subst h
  refine bC (R:=[]) (H':=[.cells nS 53 xo]) (ks:=[0]) rfl (by decide) ?_
  have PN:(ak).rep (fun w=>K w∧(Hs [.ext (bI []) (Hs [])]) w) xo a0:=aJ.mono _ dk f24
  exact bW (.tuple #[.agg xo.toArray, .int .i64 4],bI [],Hs []) rfl (.agg rfl inferInstance inferInstance (aJ.len _ f24) (.tmp rfl .nil)) ⟨_,rfl,PN⟩ rfl (ks:=[0]) rfl (by decide)
 ·
  replace h:=oI hc h
  refine fV ?_
  refine aI ?_
  refine aS ?_
  refine aS ?_
  refine aB ?_
  refine ag rfl (ah rfl) ?_
  refine ag rfl (nv rfl rfl) ?_
  refine ag rfl (ah rfl) ?_
  refine cC (cg rfl rfl) rfl (fun hb=>ah rfl) ?_
  refine cC (cg rfl rfl) rfl (fun hb=>kW (bT rfl hb) rfl) ?_
  refine ag rfl (dV rfl rfl) ?_
  refine bh ?_
  refine aI ?_
  refine iq rfl (fun hc=>?_) (fun hc=>?_)
  ·
   replace h:=oH hc h
   refine aS ?_
   refine aB ?_
   refine ag rfl (aj rfl (aJ.len _ f0)) ?_
   obtain ⟨Ba,Fe,f27⟩ : ∃cc,bP aE 0 ct = cc∧(ak).rep K cc a0:=⟨_,rfl,(aN.id (L:=ak)).set (aJ.mono _ dk (show (ak).rep (Hs []) aE cv from aP)) (aJ.mono _ dk f0)⟩
   refine fq (ei ct (aN.id (L:=ak)) (v:=a0) (r:=(show (ak).rep (Hs []) aE cv from aP)) (rv:=((aJ.mono _ dk f0):(ak).rep K ct a0)) rfl rfl rfl rfl Fe) (fun _ _=>?_)
   refine ag rfl (aC rfl) ?_
   refine bh ?_
   refine aI ?_
   refine fJ ?_
   refine dK ?_
   replace h:=Option.some.inj h
   subst h
   refine bC (R:=[]) (H':=[.cells nS 53 Ba]) (ks:=[0]) rfl (by decide) ?_
   have PL:(ak).rep (fun w=>K w∧(Hs [.ext (bI []) (Hs [])]) w) Ba a0:=aJ.mono _ dk f27
   exact bW (.tuple #[.agg Ba.toArray, .int .i64 2],bI [],Hs []) rfl (.agg rfl inferInstance inferInstance (aJ.len _ f27) (.tmp rfl .nil)) ⟨_,rfl,PL⟩ rfl (ks:=[0]) rfl (by decide)
  ·
   replace h:=oI hc h
   refine fV ?_
   refine aI ?_
   refine aS ?_
   refine aS ?_
   obtain ⟨eH,ow,_,h⟩:=jd h
   refine aB ?_
   refine ag rfl (ah rfl) ?_
   refine ag rfl (j5 rfl rfl) ?_
   refine ag rfl (ah rfl) ?_
   refine cC (cg rfl rfl) rfl (fun hb=>ah rfl) ?_
   refine cC (cg rfl rfl) rfl (fun hb=>eW (bT rfl hb)) ?_
   refine ag rfl (cM rfl rfl) ?_
   refine ag rfl (ah rfl) ?_
   refine cC (cg rfl rfl) rfl (fun hb=>aj rfl (aJ.len _ f0)) ?_
   refine cC (cg rfl rfl) rfl (fun hb=>ah rfl) ?_
   refine cC (cg rfl rfl) rfl (fun hb=>ah rfl) ?_
   refine cC (cg rfl rfl) rfl (fun hb=>bD (l7 (K:=K) (aJ.mono _ dk f0) (ow hb)) (aU (bT rfl hb) (aU (bT rfl hb) (aU (bT rfl hb) rfl))) kn) ?_
   refine cC (cg rfl rfl) rfl (fun hb=>eW (bT rfl hb)) ?_
   refine ag rfl (cM rfl rfl) ?_
   refine bh ?_
   refine aI ?_
   refine iq rfl (fun hc=>?_) (fun hc=>?_)
   ·
    replace h:=oH hc h
    refine aS ?_
    refine aB ?_
    refine ag rfl (aj rfl (aJ.len _ f0)) ?_
    obtain ⟨sE,uc,f31⟩ : ∃cc,bP aE 0 ct = cc∧(ak).rep K cc a0:=⟨_,rfl,(aN.id (L:=ak)).set (aJ.mono _ dk (show (ak).rep (Hs []) aE cv from aP)) (aJ.mono _ dk f0)⟩
    refine fq (ei ct (aN.id (L:=ak)) (v:=a0) (r:=(show (ak).rep (Hs []) aE cv from aP)) (rv:=((aJ.mono _ dk f0):(ak).rep K ct a0)) rfl rfl rfl rfl uc) (fun _ _=>?_)
    refine ag rfl (aC rfl) ?_
    refine bh ?_
    refine aI ?_
    refine fJ ?_
    refine dK ?_
    replace h:=Option.some.inj h
    subst h
    refine bC (R:=[]) (H':=[.cells nS 53 sE]) (ks:=[0]) rfl (by decide) ?_
    have K2:(ak).rep (fun w=>K w∧(Hs [.ext (bI []) (Hs [])]) w) sE a0:=aJ.mono _ dk f31
    exact bW (.tuple #[.agg sE.toArray, .int .i64 5],bI [],Hs []) rfl (.agg rfl inferInstance inferInstance (aJ.len _ f31) (.tmp rfl .nil)) ⟨_,rfl,K2⟩ rfl (ks:=[0]) rfl (by decide)
   ·
    replace h:=oI hc h
    refine fV ?_
    refine aI ?_
    refine aS ?_
    obtain ⟨j7,rq,h⟩:=bu h
    obtain ⟨lC,h⟩:=cD h
    obtain ⟨jN,h⟩:=cD h
    obtain ⟨gi,j4,h⟩:=cQ h
    refine aB ?_
    refine ag rfl (aH rfl) ?_
    refine ag rfl (aR rfl (bg.iff.1 (bN.get f0)) (bx _ _)) ?_
    refine ag rfl (ah rfl) ?_
    refine ag rfl (bD (cE rq) rfl (fun _ _ _=>trivial)) ?_
    refine ag rfl (ah rfl) ?_
    refine ag rfl (ah rfl) ?_
    refine ag rfl (aH rfl) ?_
    refine ag rfl (bV (m:=(Int.toNat j7)) rfl rfl (ay lC).1 (ay lC).2) ?_
    refine ag rfl (eX rfl) ?_
    refine ag rfl (bV (m:=(Int.toNat a2)) rfl rfl (ay jN).1 (ay jN).2) ?_
    obtain ⟨A9,AU,f38⟩ : ∃cc,bP ct (((64 + (Int.toNat j7) * 12) + 4) + (Int.toNat a2) * 1) ((LI .i64).enc a3) = cc∧(ak).rep K cc gi:=⟨_,rfl,by rw [j4]; exact (((cw.comp (aN.idx (L:=aO) (m:=32) (k:=12) ((Int.toNat j7)) (ay lC).2 rfl)).comp dO).comp (aN.idx (L:=(LI .i64)) (m:=8) (k:=1) ((Int.toNat a2)) (ay jN).2 rfl)).set (aJ.mono _ dk f0) (bg.iff.2 rfl)⟩
    refine fq (ei ((LI .i64).enc a3) (((cw.comp (aN.idx (L:=aO) (m:=32) (k:=12) ((Int.toNat j7)) (ay lC).2 rfl)).comp dO).comp (aN.idx (L:=(LI .i64)) (m:=8) (k:=1) ((Int.toNat a2)) (ay jN).2 rfl)) (v:=a3) (r:=f0) (rv:=((bg.iff.2 rfl):((LI .i64)).rep K ((LI .i64).enc a3) a3)) rfl rfl rfl rfl AU) (fun _ _=>?_)
    refine bh ?_
    refine aI ?_
    refine aS ?_
    refine aB ?_
    refine ag rfl (aj rfl (aJ.len _ f38)) ?_
    obtain ⟨xm,M5,f40⟩ : ∃cc,bP aE 0 A9 = cc∧(ak).rep K cc gi:=⟨_,rfl,(aN.id (L:=ak)).set (aJ.mono _ dk (show (ak).rep (Hs []) aE cv from aP)) (aJ.mono _ dk f38)⟩
    refine fq (ei A9 (aN.id (L:=ak)) (v:=gi) (r:=(show (ak).rep (Hs []) aE cv from aP)) (rv:=((aJ.mono _ dk f38):(ak).rep K A9 gi)) rfl rfl rfl rfl M5) (fun _ _=>?_)
    refine ag rfl (aC rfl) ?_
    refine bh ?_
    refine aI ?_
    refine fJ ?_
    replace h:=Option.some.inj h
    subst h
    refine bC (R:=[]) (H':=[.cells nS 53 xm]) (ks:=[0]) rfl (by decide) ?_
    have PC:(ak).rep (fun w=>K w∧(Hs [.ext (bI []) (Hs [])]) w) xm gi:=aJ.mono _ dk f40
    exact bW (.tuple #[.agg xm.toArray, .int .i64 0],bI [],Hs []) rfl (.agg rfl inferInstance inferInstance (aJ.len _ f40) (.tmp rfl .nil)) ⟨_,rfl,PC⟩ rfl (ks:=[0]) rfl (by decide)
def iS (n:Nat) (a0:(List gS)) (a1:Int) (a2:Int):Option Bool:=
 cn (decide (100 < (a0.length:Int))) (
 bd (jM n ) fun bp =>
 some bp) (
 j9 (fun PW (fY:Int) (fZ:ai) (fO:au) =>
 cn (decide (fY < (a0.length:Int))) (
 gu (dU fY a0.length) <|
 lt ((a0.getD (Int.toNat fY) default):gS) fun gD =>
 lt (fun (j6:Bool) (nW:ai) (yu:au) =>
 cl ((!j6) == false) (jy n yu nW) default fun zn =>
 cn (((!j6) || (!zn))) (
 some false) (
 PW (wr .i64 (fY + 1)) nW yu)) fun HN =>
 cn ((gD.Do == 3)) (
 bd (iU n fZ gD.A) fun KO =>
 bd (iU n fZ gD.C) fun tF =>
 bd (jT n fO (wr .u32 KO) gD.cq (wr .u32 tF) (gD.B == 1)) fun jE =>
 bd (lM n fZ KO gD.cq tF (gD.B == 1)) fun rX =>
 HN (jE.2 == rX.2) rX.1 jE.1) (
 bd (kO n fO fZ gD) fun wk =>
 HN wk.2.2 wk.2.1 wk.1)) (
 bd (iU n fZ a1) fun KN =>
 bd (iY n fO (wr .u32 KN) a2) fun GQ =>
 bd (jK n fZ KN a2) fun GO =>
 cl ((((wr .i64 GQ.1) == GO.1) && (GQ.2 == GO.2)) == true) (jM n ) default fun N6 =>
 some ((((wr .i64 GQ.1) == GO.1) && (GQ.2 == GO.2)) && N6))) n 0 cv aW)
theorem pq {n:Nat} {a0:(List gS)} {a1:Int} {a2:Int} {r:Bool} {K:World→Prop} [bF K] {v0:Value} (f0:Fz K v0 bS a0) (h:iS n a0 a1 a2 = some r):qM Try.prog 3 [v0, .int .u32 a1, .int .i64 a2] K (.bool r):=by
 unfold iS at h
 refine eR Try.func3 (by kernel_rfl) rfl Try.ntmps3 rfl (fun cx dc hpre hro=>?_)
 haveI:=jH dc hpre
 refine aS ?_
 refine aB ?_
 refine ag rfl (aC rfl) ?_
 refine bh ?_
 refine aI ?_
 refine aS ?_
 refine aS ?_
 refine aB ?_
 refine ag rfl (ah rfl) ?_
 refine ag rfl (dH f0 rfl) ?_
 refine ag rfl (kW rfl rfl) ?_
 refine bh ?_
 refine aI ?_
 refine iq rfl (fun hc=>?_) (fun hc=>?_)
 ·
  replace h:=oH hc h
  refine aS ?_
  obtain ⟨bp,cu,h⟩:=bu h
  refine aB ?_
  refine ag rfl (bD (n5 cu) rfl (fun _ _ _=>trivial)) ?_
  refine ag rfl (aC rfl) ?_
  refine bh ?_
  refine aI ?_
  refine fJ ?_
  refine dK ?_
  replace h:=Option.some.inj h
  subst h
  exact bW () rfl (.tmp rfl .nil) trivial rfl (ks:=[]) rfl (by decide)
 ·
  replace h:=oI hc h
  refine fV ?_
  refine aI ?_
  refine aS ?_
  refine aB ?_
  refine cG rfl (bk (hz:=(⟨by kernel_rfl⟩ : bY Try.prog 41 av))) (fun b7 _=>?_)
  refine bh ?_
  refine aI ?_
  refine aS ?_
  refine aB ?_
  refine cG rfl (bk (hz:=(⟨by kernel_rfl⟩ : bY Try.prog 53 aE))) (fun b8 _=>?_)
  refine bh ?_
  refine aI ?_
  refine aS ?_
  refine aS ?_
  refine aB ?_
  refine ag rfl (aC rfl) ?_
  refine bh ?_
  refine aI ?_
  refine nt ?_
  obtain ⟨HE,IB,h⟩:=xV h
  refine kA ?_
  refine vX (α:=Nat × Int × ai × au × (List Value) × (List Value) × (List Nat) × (World→Prop)) [0,1,2,7,8] (.cons rfl (.cons rfl (.cons rfl (.cons rfl (.cons rfl (.nil)))))) (fun (Ca,fY,fZ,fO,tq,xm,cJ,fM)=>[(9, .int .i64 fY)]) (fun (Ca,fY,fZ,fO,tq,xm,cJ,fM)=>[.ext cJ fM, .cells b8 53 tq, .cells b7 41 xm]) (fun (Ca,fY,fZ,fO,tq,xm,cJ,fM)=>(ak).rep (Hs [.ext cJ fM]) tq fZ∧(ae).rep (Hs [.ext cJ fM]) xm fO∧j9 HE Ca fY fZ fO = some r) (fun (Ca,fY,fZ,fO,tq,xm,cJ,fM)=>Ca) (n,0,cv,aW,aE,av,[],(Hs [])) ⟨(aJ.mono _ dk (show (ak).rep (Hs []) aE cv from aP)),(aJ.mono _ dk (show (ae).rep (Hs []) av aW from aD)),h⟩ (pE rfl (qJ)) (ks:=[0,1,2]) rfl (by decide) ?_
  rintro ⟨Ca,fY,fZ,fO,tq,xm,cJ,fM⟩ ⟨f37,f40,h⟩
  replace h:j9 HE Ca fY fZ fO = some r:=h
  replace h:=xU IB h
  obtain ⟨Ca,rfl,h⟩:=h
  refine aS ?_
  refine aS ?_
  refine aB ?_
  refine ag rfl (ah rfl) ?_
  refine ag rfl (ah rfl) ?_
  refine ag rfl (dH f0 rfl) ?_
  refine ag rfl (nv rfl rfl) ?_
  refine bh ?_
  refine aI ?_
  refine iq rfl (fun hc=>?_) (fun hc=>?_)
  ·
   replace h:=oH hc h
   refine fV ?_
   refine aI ?_
   refine aS ?_
   refine nt ?_
   refine aS ?_
   obtain ⟨yW,h⟩:=cD h
   obtain ⟨gD,Cp,h⟩:=cQ h
   refine aB ?_
   refine ag rfl (ah rfl) ?_
   refine ag rfl (ah rfl) ?_
   refine ag rfl (dL (m:=(Int.toNat fY)) f0 rfl rfl rfl (ay yW).1 (ay yW).2) ?_
   refine ag rfl (qH (M:=bS) f0 (aN.idx (L:=bS) (m:=(a0.length)) (k:=5) ((Int.toNat fY)) (ay yW).2 rfl) rfl rfl (by decide)) ?_
   refine cG rfl (cP (L:=bS) (z:=ql) ⟨by kernel_rfl⟩) (fun nS _=>?_)
   refine fq (dD (M:=bS) (aN.id (L:=bS)) (a0.getD (Int.toNat fY) default) gD Cp rfl rfl rfl rfl) (fun _ _=>?_)
   refine bh ?_
   refine aI ?_
   refine aS ?_
   refine aB ?_
   refine ag rfl (aC rfl) ?_
   refine bh ?_
   refine aI ?_
   obtain ⟨HN,MG,h⟩:=cQ h
   refine yb (α:=Bool × ai × au × (List Value) × (List Value) × (List Nat) × (World→Prop)) [0,1,2,7,8,9] (.cons rfl (.cons rfl (.cons rfl (.cons rfl (.cons rfl (.cons rfl (.nil))))))) (fun (j6,nW,yu,BH,CR,sF,BN)=>[(11, .bool j6)]) (fun (j6,nW,yu,BH,CR,sF,BN)=>[.ext sF BN, .cells nS 55 (bS.enc gD), .ext cJ fM, .cells b8 53 BH, .cells b7 41 CR]) (fun (j6,nW,yu,BH,CR,sF,BN)=>(ak).rep (Hs [.ext cJ fM, .ext sF BN]) BH nW∧(ae).rep (Hs [.ext cJ fM, .ext sF BN]) CR yu∧HN j6 nW yu = some r) ?_ ?_
   ·
    refine aS ?_
    refine aB ?_
    refine ag rfl (aH rfl) ?_
    refine ag rfl (bQ nC rfl) ?_
    refine ag rfl (dM rfl rfl) ?_
    refine bh ?_
    refine aI ?_
    refine iq rfl (fun hc=>?_) (fun hc=>?_)
    ·
     replace h:=oH hc h
     refine aS ?_
     obtain ⟨KO,LS,h⟩:=bu h
     obtain ⟨tF,vo,h⟩:=bu h
     refine dy mixed (.iH [] [(0,[8]),(1,[10]),(2,[41]),(3,[40,42]),(4,[8]),(5,[10]),(6,[45]),(7,[44,46])] (.alt 8 [43] (.iH [] [] (.alt 9 [47] (.fin [] []) .no)) .no)) (by kernel_rfl) ?_
     refine eA ?_ ?_
     ·exact gQ
     refine eF rfl rfl (nT rfl (aj rfl (aJ.len _ f37))) ?_
     refine eF rfl rfl (nT rfl (aH rfl)) ?_
     refine eF rfl rfl (nT rfl (bQ oe rfl)) ?_
     refine eF rfl rfl (nT rfl (bD (mB (K:=(Hs [.ext cJ fM])) (aJ.mono _ dk f37) LS) rfl kn)) ?_
     refine eF rfl rfl (nT rfl (aj rfl (aJ.len _ f37))) ?_
     refine eF rfl rfl (nT rfl (aH rfl)) ?_
     refine eF rfl rfl (nT rfl (bQ od rfl)) ?_
     refine eF rfl rfl (nT rfl (bD (mB (K:=(Hs [.ext cJ fM])) (aJ.mono _ dk f37) vo) rfl kn)) ?_
     refine bA ?_
     refine ny rfl rfl (v8 rfl ((aC rfl).rx)) (fun _ _=>?_) p6
     refine eA ?_ ?_
     ·exact gQ
     refine bA ?_
     refine ny rfl rfl (v8 rfl ((aC rfl).rx)) (fun _ _=>?_) p6
     refine uK ?_ ?_
     ·exact gQ
     refine bA ?_
     refine aI ?_
     refine aS ?_
     obtain ⟨jE,LR,h⟩:=bu h
     refine aB ?_
     refine ag rfl (aj rfl (aJ.len _ f40)) ?_
     refine ag rfl (ah rfl) ?_
     refine ag rfl (lq rfl rfl) ?_
     refine ag rfl (aH rfl) ?_
     refine ag rfl (bQ gY rfl) ?_
     refine ag rfl (ah rfl) ?_
     refine ag rfl (lq rfl rfl) ?_
     refine ag rfl (aH rfl) ?_
     refine ag rfl (bQ iM rfl) ?_
     refine ag rfl (dM rfl rfl) ?_
     refine cG rfl (dW (mE (K:=(Hs [.ext cJ fM])) (aJ.mono _ dk f40) LR) rfl) (fun ⟨Rq,vM,DP⟩ Mn=>?_)
     obtain ⟨JJ,rfl,f63⟩:=Mn
     replace f63:(ae).rep (fun w=>(Hs [.ext cJ fM]) w∧Hs [.ext vM DP] w) JJ jE.1:=f63
     refine ag rfl (ah rfl) ?_
     refine ag rfl (bt rfl rfl) ?_
     refine ag rfl (bt rfl rfl) ?_
     refine cG rfl (bk (hz:=(⟨by kernel_rfl⟩ : bY Try.prog 41 av))) (fun QW _=>?_)
     obtain ⟨Ky,M0,f66⟩ : ∃cc,bP av 0 JJ = cc∧(ae).rep (Hs [.ext cJ fM, .ext vM DP]) cc jE.1:=⟨_,rfl,(aN.id (L:=ae)).set (aJ.mono _ dk (show (ae).rep (Hs []) av aW from aD)) (aJ.mono _ dk f63)⟩
     refine fq (ei JJ (aN.id (L:=ae)) (v:=jE.1) (r:=(show (ae).rep (Hs []) av aW from aD)) (rv:=((aJ.mono _ dk f63):(ae).rep (Hs [.ext cJ fM, .ext vM DP]) JJ jE.1)) rfl rfl rfl rfl M0) (fun _ _=>?_)
     refine ag rfl (aC rfl) ?_
     refine bh ?_
     refine aI ?_
     refine aS ?_
     obtain ⟨rX,EB,h⟩:=bu h
     refine aB ?_
     refine ag rfl (aj rfl (aJ.len _ f37)) ?_
     refine ag rfl (ah rfl) ?_
     refine ag rfl (aH rfl) ?_
     refine ag rfl (bQ gY rfl) ?_
     refine ag rfl (ah rfl) ?_
     refine ag rfl (aH rfl) ?_
     refine ag rfl (bQ iM rfl) ?_
     refine ag rfl (dM rfl rfl) ?_
     refine cG rfl (dW (vE (K:=(Hs [.ext cJ fM])) (aJ.mono _ dk f37) EB) rfl) (fun ⟨Rl,vL,DO⟩ Ml=>?_)
     obtain ⟨JI,rfl,f72⟩:=Ml
     replace f72:(ak).rep (fun w=>(Hs [.ext cJ fM]) w∧Hs [.ext vL DO] w) JI rX.1:=f72
     refine ag rfl (ah rfl) ?_
     refine ag rfl (bt rfl rfl) ?_
     refine ag rfl (bt rfl rfl) ?_
     refine cG rfl (bk (hz:=(⟨by kernel_rfl⟩ : bY Try.prog 53 aE))) (fun QV _=>?_)
     obtain ⟨Kw,MY,f75⟩ : ∃cc,bP aE 0 JI = cc∧(ak).rep (Hs [.ext cJ fM, .ext vL DO]) cc rX.1:=⟨_,rfl,(aN.id (L:=ak)).set (aJ.mono _ dk (show (ak).rep (Hs []) aE cv from aP)) (aJ.mono _ dk f72)⟩
     refine fq (ei JI (aN.id (L:=ak)) (v:=rX.1) (r:=(show (ak).rep (Hs []) aE cv from aP)) (rv:=((aJ.mono _ dk f72):(ak).rep (Hs [.ext cJ fM, .ext vL DO]) JI rX.1)) rfl rfl rfl rfl MY) (fun _ _=>?_)
     refine ag rfl (aC rfl) ?_
     refine bh ?_
     refine aI ?_
     refine aS ?_
     refine dy mixed (.iH [] [(0,[14]),(1,[16])] (.alt 2 [7,74] (.iH [(1,[16])] [] (.alt 3 [8,75] (.fin [] []) .no)) .no)) (by kernel_rfl) ?_
     refine eA ?_ ?_
     ·exact gQ
     refine eF rfl rfl (nT rfl (aj rfl (aJ.len _ f66))) ?_
     refine eF rfl rfl (nT rfl (aj rfl (aJ.len _ f75))) ?_
     refine bA ?_
     obtain ⟨NK,MX,f77⟩ : ∃cc,bP xm 0 Ky = cc∧(ae).rep (Hs [.ext cJ fM, .ext vM DP]) cc jE.1:=⟨_,rfl,(aN.id (L:=ae)).set (aJ.mono _ dk f40) (aJ.mono _ dk f66)⟩
     refine rR rfl (v8 rfl (ei Ky (aN.id (L:=ae)) (v:=jE.1) (r:=f40) (rv:=((aJ.mono _ dk f66):(ae).rep (Hs [.ext cJ fM, .ext vM DP]) Ky jE.1)) rfl rfl rfl rfl MX)) (fun _ _=>?_) p6
     refine eA ?_ ?_
     ·
      refine iE rfl rfl (nT rfl (rP (aj rfl (aJ.len _ f75)) rfl)) ?_
      exact gQ
     refine bA ?_
     obtain ⟨JH,MW,f79⟩ : ∃cc,bP tq 0 Kw = cc∧(ak).rep (Hs [.ext cJ fM, .ext vL DO]) cc rX.1:=⟨_,rfl,(aN.id (L:=ak)).set (aJ.mono _ dk f37) (aJ.mono _ dk f75)⟩
     refine rR rfl (v8 rfl (ei Kw (aN.id (L:=ak)) (v:=rX.1) (r:=f37) (rv:=((aJ.mono _ dk f75):(ak).rep (Hs [.ext cJ fM, .ext vL DO]) Kw rX.1)) rfl rfl rfl rfl MW)) (fun _ _=>?_) p6
     refine uK ?_ ?_
     ·exact gQ
     refine bA ?_
     refine aI ?_
     refine aB ?_
     refine ag rfl (ah rfl) ?_
     refine ag rfl (ah rfl) ?_
     refine ag rfl (dM rfl rfl) ?_
     refine ag rfl (aC rfl) ?_
     refine bh ?_
     refine bC (R:=[.ext vL DO, .ext vM DP]) (H':=[.cells QV 53 Kw, .cells QW 41 Ky, .cells nS 55 (bS.enc gD), .ext cJ fM, .cells b8 53 JH, .cells b7 41 NK]) (ks:=[1,3,0,2,4,5,6,7]) rfl (by decide) ?_
     exact uF ((jE.2 == rX.2),rX.1,jE.1,JH,NK,(bI [.ext vL DO, .ext vM DP]),(Hs [.ext vL DO, .ext vM DP])) ⟨(aJ.mono _ dk f79),(aJ.mono _ dk f77),h⟩ (pE rfl (qJ)) (.cons rfl (.cons rfl (.cons rfl (.cons rfl (.cons rfl (.cons rfl (.nil))))))) (ks:=[0,3,4,5,6]) rfl (by decide)
    ·
     replace h:=oI hc h
     obtain ⟨wk,LG,h⟩:=bu h
     refine aB ?_
     refine ag rfl (aj rfl (aJ.len _ f40)) ?_
     refine ag rfl (aj rfl (aJ.len _ f37)) ?_
     refine ag rfl (dR (M:=bS) (aN.id (L:=bS)) rfl rfl) ?_
     refine cG rfl (dW (uy (K:=(Hs [.ext cJ fM])) (aJ.mono _ dk f40) (aJ.mono _ dk f37) LG) rfl) (fun ⟨Rj,uC,Dc⟩ Mk=>?_)
     obtain ⟨Kv,zz,rfl,f85,f87⟩:=Mk
     replace f85:(ae).rep (fun w=>(Hs [.ext cJ fM]) w∧Hs [.ext uC Dc] w) Kv wk.1:=f85
     replace f87:(ak).rep (fun w=>(Hs [.ext cJ fM]) w∧Hs [.ext uC Dc] w) zz wk.2.1:=f87
     refine ag rfl (ah rfl) ?_
     refine ag rfl (bt rfl rfl) ?_
     refine ag rfl (bt rfl rfl) ?_
     refine ag rfl (bt rfl rfl) ?_
     obtain ⟨OH,MU,f90⟩ : ∃cc,bP xm 0 Kv = cc∧(ae).rep (Hs [.ext cJ fM, .ext uC Dc]) cc wk.1:=⟨_,rfl,(aN.id (L:=ae)).set (aJ.mono _ dk f40) (aJ.mono _ dk f85)⟩
     refine fq (ei Kv (aN.id (L:=ae)) (v:=wk.1) (r:=f40) (rv:=((aJ.mono _ dk f85):(ae).rep (Hs [.ext cJ fM, .ext uC Dc]) Kv wk.1)) rfl rfl rfl rfl MU) (fun _ _=>?_)
     obtain ⟨OG,MT,f92⟩ : ∃cc,bP tq 0 zz = cc∧(ak).rep (Hs [.ext cJ fM, .ext uC Dc]) cc wk.2.1:=⟨_,rfl,(aN.id (L:=ak)).set (aJ.mono _ dk f37) (aJ.mono _ dk f87)⟩
     refine fq (ei zz (aN.id (L:=ak)) (v:=wk.2.1) (r:=f37) (rv:=((aJ.mono _ dk f87):(ak).rep (Hs [.ext cJ fM, .ext uC Dc]) zz wk.2.1)) rfl rfl rfl rfl MT) (fun _ _=>?_)
     refine ag rfl (aC rfl) ?_
     refine bh ?_
     refine bC (R:=[.ext uC Dc]) (H':=[.cells nS 55 (bS.enc gD), .ext cJ fM, .cells b8 53 OG, .cells b7 41 OH]) (ks:=[0,1,2,3,4]) rfl (by decide) ?_
     exact uF (wk.2.2,wk.2.1,wk.1,OG,OH,(bI [.ext uC Dc]),(Hs [.ext uC Dc])) ⟨(aJ.mono _ dk f92),(aJ.mono _ dk f90),h⟩ (pE rfl (qJ)) (.cons rfl (.cons rfl (.cons rfl (.cons rfl (.cons rfl (.cons rfl (.nil))))))) (ks:=[0,1,2,3,4]) rfl (by decide)
   ·
    rintro ⟨j6,nW,yu,BH,CR,sF,BN⟩ ⟨f51,f54,h⟩
    replace h:HN j6 nW yu = some r:=h
    replace h:=HL MG h
    refine aS ?_
    obtain ⟨zn,Ex,_,h⟩:=jd h
    refine aB ?_
    refine ag rfl (ah rfl) ?_
    refine ag rfl (eW rfl) ?_
    refine ag rfl (ah rfl) ?_
    refine cC (cg rfl rfl) rfl (fun hb=>aj rfl (aJ.len _ f54)) ?_
    refine cC (cg rfl rfl) rfl (fun hb=>aj rfl (aJ.len _ f51)) ?_
    refine cC (cg rfl rfl) rfl (fun hb=>bD (uz (K:=(Hs [.ext cJ fM, .ext sF BN])) (aJ.mono _ dk f54) (aJ.mono _ dk f51) (Ex hb)) (aU (bT rfl hb) (aU (bT rfl hb) rfl)) kn) ?_
    refine cC (cg rfl rfl) rfl (fun hb=>eW (bT rfl hb)) ?_
    refine ag rfl (dV rfl rfl) ?_
    refine bh ?_
    refine aI ?_
    refine iq rfl (fun hc=>?_) (fun hc=>?_)
    ·
     replace h:=oH hc h
     refine aS ?_
     refine aB ?_
     refine ag rfl (aC rfl) ?_
     refine bh ?_
     refine aI ?_
     refine fJ ?_
     refine mI ?_
     refine dK ?_
     refine dK ?_
     refine mI ?_
     refine dK ?_
     replace h:=Option.some.inj h
     subst h
     exact bW () rfl (.tmp rfl .nil) trivial rfl (ks:=[]) rfl (by decide)
    ·
     replace h:=oI hc h
     refine fV ?_
     refine rO ?_
     refine aI ?_
     refine aB ?_
     refine ag rfl (ah rfl) ?_
     refine ag rfl (p5 rfl rfl rfl) ?_
     refine ag rfl (aC rfl) ?_
     refine bh ?_
     refine bC (R:=[.ext sF BN, .ext cJ fM]) (H':=[.cells nS 55 (bS.enc gD), .cells b8 53 BH, .cells b7 41 CR]) (ks:=[0,2,1,3,4]) rfl (by decide) ?_
     exact vV (Ca,wr .i64 (fY + 1),nW,yu,BH,CR,(bI [.ext sF BN, .ext cJ fM]),(Hs [.ext sF BN, .ext cJ fM])) (Nat.lt_succ_self _) ⟨(aJ.mono _ dk f51),(aJ.mono _ dk f54),h⟩ (pE rfl (qJ)) (.cons rfl (.cons rfl (.cons rfl (.cons rfl (.cons rfl (.nil)))))) (ks:=[0,2,3]) rfl (by decide)
  ·
   replace h:=oI hc h
   refine ya ?_
   refine kz ?_
   refine kz ?_
   refine ob ?_
   refine aI ?_
   refine aS ?_
   obtain ⟨KN,Lz,h⟩:=bu h
   refine aB ?_
   refine ag rfl (aj rfl (aJ.len _ f37)) ?_
   refine ag rfl (ah rfl) ?_
   refine ag rfl (bD (mB (K:=(Hs [.ext cJ fM])) (aJ.mono _ dk f37) Lz) rfl kn) ?_
   refine ag rfl (aC rfl) ?_
   refine bh ?_
   refine aI ?_
   refine aS ?_
   obtain ⟨GQ,Ly,h⟩:=bu h
   refine aB ?_
   refine ag rfl (aj rfl (aJ.len _ f40)) ?_
   refine ag rfl (ah rfl) ?_
   refine ag rfl (lq rfl rfl) ?_
   refine ag rfl (ah rfl) ?_
   refine ag rfl (bD (mF (K:=(Hs [.ext cJ fM])) (aJ.mono _ dk f40) Ly) rfl kn) ?_
   refine ag rfl (ah rfl) ?_
   refine ag rfl (bt rfl rfl) ?_
   refine ag rfl (bt rfl rfl) ?_
   refine ag rfl (aC rfl) ?_
   refine ag rfl (aC rfl) ?_
   refine bh ?_
   refine aI ?_
   refine aS ?_
   obtain ⟨GO,Lx,h⟩:=bu h
   refine aB ?_
   refine ag rfl (aj rfl (aJ.len _ f37)) ?_
   refine ag rfl (ah rfl) ?_
   refine ag rfl (ah rfl) ?_
   refine ag rfl (bD (sw (K:=(Hs [.ext cJ fM])) (aJ.mono _ dk f37) Lx) rfl kn) ?_
   refine ag rfl (ah rfl) ?_
   refine ag rfl (bt rfl rfl) ?_
   refine ag rfl (bt rfl rfl) ?_
   refine ag rfl (aC rfl) ?_
   refine ag rfl (aC rfl) ?_
   refine bh ?_
   refine aI ?_
   refine aS ?_
   obtain ⟨N6,Lw,_,h⟩:=jd h
   refine aB ?_
   refine ag rfl (ah rfl) ?_
   refine ag rfl (lq rfl rfl) ?_
   refine ag rfl (ah rfl) ?_
   refine ag rfl (dM rfl rfl) ?_
   refine ag rfl (ah rfl) ?_
   refine cC (cg rfl rfl) rfl (fun hb=>ah rfl) ?_
   refine cC (cg rfl rfl) rfl (fun hb=>ah rfl) ?_
   refine cC (cg rfl rfl) rfl (fun hb=>dM (bT rfl hb) (bT rfl hb)) ?_
   refine ag rfl (cM rfl rfl) ?_
   refine ag rfl (ah rfl) ?_
   refine cC (cg rfl rfl) rfl (fun hb=>bD (n5 (Lw hb)) rfl (fun _ _ _=>trivial)) ?_
   refine ag rfl (cM rfl rfl) ?_
   refine ag rfl (aC rfl) ?_
   refine bh ?_
   refine aI ?_
   refine fJ ?_
   replace h:=Option.some.inj h
   subst h
   exact bW () rfl (.tmp rfl .nil) trivial rfl (ks:=[]) rfl (by decide)
end Go.Proofs.Ytbalnnoofdkbaaa
namespace Go.Proofs.Ytbalnnoofdkbaaa
open Go Go.Bw
def D7 (w:ai) (x c:Int):Int × Int:=
  if bn w.B x = true then (if 0 ≤ c∧c < 8 then (if (w.R (ck x)).Cells c.toNat = 0 then (0,10) else if bn w.B ((w.R (ck x)).Cells c.toNat) = true then ((w.R (ck x)).Cells c.toNat,0) else (0,4)) else (0,2)) else (0,4)
def E7 (w:ai) (x c z:Int) (ic:Bool):Int:=
  if bn w.B x = true∧(z = 0∨bn w.B z = true) then (if 0 ≤ c∧c < 8 then (if z = 0∨ic = true∨lz w z x = true then 0 else 5) else 2) else 4
def C7 (w:ai) (x c z:Int):ai:=zv w x { w.R (ck x) with Cells:=eO (w.R (ck x)).Cells c.toNat z }
section
variable {n:Nat} {t:au} {w:ai}
theorem qX (r:fF t w) {a:Int} (h0:0 ≤ a) (h1:a < 4294967296):∃v,iU n w a = some v∧0 ≤ v∧v < 4294967296:=by
  have e:iU n w a = g8 n w a:=rfl
  rw [e]
  exact oV r h0 h1
theorem xN (r:fF t w) {x:Int} (x0:0 ≤ x) (x1:x < 4294967296) (c:Int):gI n t x c = some (if bn w.B x = true then (if 0 ≤ c∧c < 8 then .ok (kF t w x) else .error 2) else .error 4):=by
  unfold gI
  rw [az (nJ r x0 x1)]
  cases hg:bn w.B x with
  | false=>rfl
  | true =>
    rw [if_pos rfl,if_pos rfl]
    by_cases hc:0 ≤ c∧c < 8
    · have e:(decide (0 ≤ c) && decide (c < 8)) = true:=by simpa using hc
      rw [if_pos hc,e]; rfl
    · have e:(decide (0 ≤ c) && decide (c < 8)) = false:=by rw [Bool.and_eq_false_iff,decide_eq_false_iff_not,decide_eq_false_iff_not]; omega
      rw [if_neg hc,e]; rfl
theorem Dm {α β:Type} {x:Option (Except Int α)} {a:α} {f:Int→β} {k:α→Option β} (h:x = some (.ok a)):tr x f k = k a:=by rw [h]; rfl
theorem zJ {α β:Type} {x:Option (Except Int α)} {e:Int} {f:Int→β} {k:α→Option β} (h:x = some (.error e)):tr x f k = some (f e):=by rw [h]; rfl
theorem FJ (r:fF t w) {x:Int} (x0:0 ≤ x) (x1:x < 4294967296) (c:Int):iY n t x c = some (D7 w x c):=by
  unfold iY D7
  have hR:=xN (n:=n) r x0 x1 c
  cases hg:bn w.B x with
  | false=>rw [hg,if_neg (by decide)] at hR; rw [if_neg (by decide),zJ hR]
  | true =>
    rw [hg,if_pos rfl] at hR
    rw [if_pos rfl]
    by_cases hc:0 ≤ c∧c < 8
    · rw [if_pos hc] at hR
      rw [if_pos hc,Dm hR,aM (cL hc.1 hc.2)]
      obtain ⟨l1,l2⟩:=dA ⟨x0,hg⟩
      have hr:=r.zU _ l1 l2
      have hk:c.toNat < 8:=by omega
      have hcell:(kF t w x).Cells c.toNat = (w.R (ck x)).Cells c.toNat:=hr.c _ hk
      have wQ:=hr.c0 _ hk
      rw [hcell]
      generalize (w.R (ck x)).Cells c.toNat = z at wQ
      rw [az (jv r.book wQ.1 (by omega))]
      by_cases hz:z = 0
      · subst hz; rfl
      · have e:(z != 0) = true:=by simpa using hz
        rw [if_neg hz,e]
        cases bn w.B z <;> rfl
    · rw [if_neg hc] at hR; rw [if_neg hc,zJ hR]
theorem yE (hn:40 ≤ n) (r:fF t w) {x:Int} (x0:0 ≤ x) (c:Int):jK n w x c = some (D7 w x c):=by
  unfold jK D7
  rw [az (bX hn r x0)]
  cases hg:bn w.B x with
  | false=>rfl
  | true =>
    rw [aA (b:=!true) rfl,if_pos rfl]
    by_cases hc:0 ≤ c∧c < 8
    · have e:(decide (c < 0) || decide (7 < c)) = false:=by rw [Bool.or_eq_false_iff,decide_eq_false_iff_not,decide_eq_false_iff_not]; omega
      obtain ⟨l1,l2⟩:=dA ⟨x0,hg⟩
      have wQ:=(r.zU _ l1 l2).c0 c.toNat (by omega)
      rw [if_pos hc,e,aA rfl,az (di hn r.book x0),hg,if_pos rfl,aM (fI x),aM (cL hc.1 hc.2)]
      show cn ((w.R (ck x)).Cells c.toNat == 0) (some (0,10)) (bd (bB n w ((w.R (ck x)).Cells c.toNat)) fun iT=>cn (!iT) (some (0,4)) (some ((w.R (ck x)).Cells c.toNat,0))) = _
      generalize (w.R (ck x)).Cells c.toNat = z at wQ
      rw [az (bX hn r wQ.1)]
      by_cases hz:z = 0
      · subst hz; rfl
      · have e:(z == 0) = false:=by simpa using hz
        rw [if_neg hz,e,aA rfl]
        cases bn w.B z <;> rfl
    · have e:(decide (c < 0) || decide (7 < c)) = true:=by rw [Bool.or_eq_true,decide_eq_true_eq,decide_eq_true_eq]; omega
      rw [if_neg hc,e]; rfl
theorem CL {x c z:Int} {ic:Bool} (h:¬ (bn w.B x = true∧(z = 0∨bn w.B z = true))):E7 w x c z ic = 4:=if_neg h
theorem Jv {x c z:Int} {ic:Bool} (h:bn w.B x = true∧(z = 0∨bn w.B z = true)) (hc:¬ (0 ≤ c∧c < 8)):E7 w x c z ic = 2:=(if_pos h).trans (if_neg hc)
theorem Ju {x c z:Int} {ic:Bool} (h:bn w.B x = true∧(z = 0∨bn w.B z = true)) (hc:0 ≤ c∧c < 8) (ho:¬ (z = 0∨ic = true∨lz w z x = true)):E7 w x c z ic = 5:=(if_pos h).trans ((if_pos hc).trans (if_neg ho))
theorem Jw {x c z:Int} {ic:Bool} (h:bn w.B x = true∧(z = 0∨bn w.B z = true)) (hc:0 ≤ c∧c < 8) (ho:z = 0∨ic = true∨lz w z x = true):E7 w x c z ic = 0:=(if_pos h).trans ((if_pos hc).trans (if_pos ho))
theorem Hp {z:Int} {a:Bool}:((z == 0) || a) = true↔z = 0∨a = true:=by rw [Bool.or_eq_true,beq_iff_eq]
theorem B4 {z:Int} {a:Bool} (h:¬ (z = 0∨a = true)):((z == 0) || a) = false:=by
  rw [← Bool.not_eq_true,Hp]; exact h
theorem BY (hn:200 ≤ n) (r:fF t w) (tt:iL w) {x z:Int} (x0:0 ≤ x) (z0:0 ≤ z) (c:Int) (ic:Bool):lM n w x c z ic = some (if E7 w x c z ic = 0 then C7 w x c z else w,E7 w x c z ic):=by
  unfold lM
  rw [az (bX (by omega) r x0),dj (bX (by omega) r z0)]
  cases hg:bn w.B x with
  | false=>rw [CL (fun h=>by rw [hg] at h; exact absurd h.1 (by decide))]; rfl
  | true =>
    have e0:((!true) || ((z != 0) && (!(bif ((!true) == false) && ((z != 0) == true) then bn w.B z else default)))) = !((z == 0) || bn w.B z):=by
      by_cases hz:z = 0
      · subst hz; rfl
      · have e1:(z != 0) = true:=by simpa using hz
        have e2:(z == 0) = false:=by simpa using hz
        rw [e1,e2]; cases bn w.B z <;> rfl
    rw [e0]
    by_cases yQ:z = 0∨bn w.B z = true
    · rw [Hp.2 yQ,aA (b:=!true) rfl]
      by_cases hc:0 ≤ c∧c < 8
      · have e:(decide (c < 0) || decide (7 < c)) = false:=by rw [Bool.or_eq_false_iff,decide_eq_false_iff_not,decide_eq_false_iff_not]; omega
        rw [e,aA rfl,dj (xP hn r tt z0 x0)]
        have e2:(((z != 0) && (!ic)) && (!(bif ((z != 0) && (!ic)) == true then lz w z x else default))) = !((z == 0) || (ic || lz w z x)):=by
          by_cases hz:z = 0
          · subst hz; rfl
          · have e1:(z != 0) = true:=by simpa using hz
            have e2:(z == 0) = false:=by simpa using hz
            rw [e1,e2]; cases ic <;> cases lz w z x <;> rfl
        rw [e2]
        by_cases ho:z = 0∨ic = true∨lz w z x = true
        · rw [Hp.2 (by rw [Bool.or_eq_true]; exact ho),aA (b:=!true) rfl,Jw ⟨hg,yQ⟩ hc ho,if_pos rfl,az (di (by omega) r.book x0),if_pos hg,aM (fI x),aM (cL hc.1 hc.2),lt_eq]
          rfl
        · rw [B4 (by rw [Bool.or_eq_true]; exact ho),aT (b:=!false) rfl,Ju ⟨hg,yQ⟩ hc ho]; rfl
      · have e:(decide (c < 0) || decide (7 < c)) = true:=by rw [Bool.or_eq_true,decide_eq_true_eq,decide_eq_true_eq]; omega
        rw [e,Jv ⟨hg,yQ⟩ hc]; rfl
    · rw [B4 yQ,aT (b:=!false) rfl,CL (fun h=>yQ h.2)]; rfl
theorem K0 (hn:200 ≤ n) (r:fF t w) (tt:iL w) (i:nV w) {x z:Int} (x0:0 ≤ x) (x1:x < 4294967296) (z0:0 ≤ z) (z1:z < 4294967296) (c:Int) (ic:Bool) :
    ∃t',jT n t x c z ic = some (t',E7 w x c z ic)∧fF t' (if E7 w x c z ic = 0 then C7 w x c z else w)∧iL (if E7 w x c z ic = 0 then C7 w x c z else w)∧nV (if E7 w x c z ic = 0 then C7 w x c z else w):=by
  have hP:∃t',nk n t x c z ic = some (t',E7 w x c z ic)∧(E7 w x c z ic = 0→fF t' (C7 w x c z)∧iL (C7 w x c z)∧nV (C7 w x c z)):=by
    unfold nk
    have hR:=xN (n:=n) r x0 x1 c
    rw [az (jv r.book x0 x1),dj (jv r.book z0 z1)]
    cases hg:bn w.B x with
    | false =>
      rw [CL (fun h=>by rw [hg] at h; exact absurd h.1 (by decide))]
      exact ⟨_,rfl,fun h=>absurd h (by decide)⟩
    | true =>
      rw [hg,if_pos rfl] at hR
      have e0:(true && ((z == 0) || (bif (true == true) && ((z == 0) == false) then bn w.B z else default))) = ((z == 0) || bn w.B z):=by
        by_cases hz:z = 0
        · subst hz; rfl
        · have e2:(z == 0) = false:=by simpa using hz
          rw [e2]; rfl
      rw [e0]
      by_cases yQ:z = 0∨bn w.B z = true
      · rw [Hp.2 yQ]
        show ∃t',tr _ _ _ = some (t',_)∧_
        by_cases hc:0 ≤ c∧c < 8
        · rw [if_pos hc] at hR
          rw [Dm hR,dj (tR (by omega) r tt z0 z1 x0 x1)]
          have e2:(((z == 0) || ic) || (bif (((z == 0) || ic) == false) then lz w z x else default)) = ((z == 0) || (ic || lz w z x)):=by
            cases z == 0 <;> cases ic <;> cases lz w z x <;> rfl
          rw [e2]
          by_cases ho:z = 0∨ic = true∨lz w z x = true
          · obtain ⟨t',s1,s2,s3,s4,s5⟩:=DI (n:=n) hn r tt i ⟨x0,hg⟩ z0 z1 (k:=c.toNat) (by omega)
            rw [Hp.2 (by rw [Bool.or_eq_true]; exact ho),Jw ⟨hg,yQ⟩ hc ho]
            refine ⟨t',?_,fun _=>⟨s3,s4,s5⟩⟩
            show gu (dU c 8) _ = _
            rw [aM (cL hc.1 hc.2),lt_eq,az s1]
          · rw [B4 (by rw [Bool.or_eq_true]; exact ho),Ju ⟨hg,yQ⟩ hc ho]
            exact ⟨_,rfl,fun h=>absurd h (by decide)⟩
        · rw [if_neg hc] at hR
          rw [zJ hR,Jv ⟨hg,yQ⟩ hc]
          exact ⟨_,rfl,fun h=>absurd h (by decide)⟩
      · rw [B4 yQ,CL (fun h=>yQ h.2)]
        exact ⟨_,rfl,fun h=>absurd h (by decide)⟩
  obtain ⟨t',p1,p2⟩:=hP
  unfold jT
  rw [az p1]
  by_cases he:E7 w x c z ic = 0
  · rw [if_pos he]
    obtain ⟨a,b,d⟩:=p2 he
    exact ⟨t',by rw [aA (by simpa using he),he],a,b,d⟩
  · rw [if_neg he]
    exact ⟨t,by rw [aT (by simpa using he)],r,tt,i⟩
end
set_option maxRecDepth 100000 in
theorem xH:jM 1000 = some true:=by kernel_rfl
theorem vg {l:List gS} (hl:∀a ∈ l,Kh a) {x:Int} (hx:0 ≤ x∧x ≤ 4294967295) {c:Int} (_:-9223372036854775808 ≤ c∧c ≤ 9223372036854775807):iS 1000 l x c = some true:=by
  unfold iS
  by_cases hc:100 < l.length
  · rw [aT (decide_eq_true (by omega)),az xH]
  rw [aA (decide_eq_false (by omega))]
  refine nI (fun (i:Int) (w:ai) (t:au)=>0 ≤ i∧i ≤ l.length∧fF t w∧iL w∧nV w) (fun i _ _=>((l.length:Int) - i).toNat) (fun o=>o = some true) ?_ 1000 0 _ _ ⟨by omega,by omega,Df.1,Df.2,Aj⟩ (by omega)
  rintro kk i w t ⟨i0,i1,r,tt,iv⟩ ih
  by_cases hi:i < l.length
  · have ha:=hl _ (hY (l:=l) (i:=i.toNat) (by omega))
    rw [aT (by simpa using hi),aM (cL i0 (by omega)),lt_eq,lt_eq]
    have done:∀(t' : au) (w' : ai),fF t' w'→iL w'→nV w'→(cl ((!true) == false) (jy 1000 t' w') default fun zn=>cn ((!true) || (!zn)) (some false) (kk (wr .i64 (i + 1)) w' t')) = some true:=fun t' w' r' KU Ls=>by
      refine (o9 (by rfl) (G7 (by omega) r')).trans ?_
      rw [aA (by rfl),cA (by omega) (by omega)]
      exact ih _ _ _ ⟨by omega,by omega,r',KU,Ls⟩ (by omega)
    generalize l.getD i.toNat default = a at ha
    by_cases hd:a.Do = 3
    · rw [aT (by simpa using hd)]
      obtain ⟨_,hA,_,hC,_⟩:=ha
      obtain ⟨y,y1,y2,y3⟩:=qX (n:=1000) r hA.1 (by omega)
      obtain ⟨z,z1,z2,z3⟩:=qX (n:=1000) r hC.1 (by omega)
      obtain ⟨t',p1,p2,p3,p4⟩:=K0 (n:=1000) (by omega) r tt iv y2 y3 z2 z3 a.cq (a.B == 1)
      rw [az y1,az z1,mK (x:=y) (by omega) (by omega),mK (x:=z) (by omega) (by omega),az p1,az (BY (by omega) r tt y2 z2 a.cq (a.B == 1))]
      dsimp only
      rw [beq_self_eq_true]
      exact done _ _ p2 p3 p4
    · obtain ⟨t',w',e,r',KU,Ls⟩:=JA (n:=1000) (by omega) r tt iv ha
      rw [aA (by simpa using hd),az e]
      exact done _ _ r' KU Ls
  · obtain ⟨y,y1,y2,y3⟩:=qX (n:=1000) r hx.1 (by omega)
    have hD:0 ≤ (D7 w y c).1∧(D7 w y c).1 < 4294967296:=by
      unfold D7
      split
      · rename_i hg
        split
        · rename_i RL
          obtain ⟨l1,l2⟩:=dA ⟨y2,hg⟩
          have wQ:=(r.zU _ l1 l2).c0 c.toNat (by omega)
          split
          · decide
          · split
            · exact ⟨wQ.1,by show (w.R (ck y)).Cells c.toNat < _; omega⟩
            · decide
        · decide
      · decide
    rw [aA (by simpa using hi),az y1,mK (x:=y) (by omega) (by omega),az (FJ r y2 y3 c),az (yE (by omega) r y2 c),cA (by omega) (by omega),beq_self_eq_true,beq_self_eq_true]
    exact (o9 (by rfl) xH).trans (by rfl)
end Go.Proofs.Ytbalnnoofdkbaaa
