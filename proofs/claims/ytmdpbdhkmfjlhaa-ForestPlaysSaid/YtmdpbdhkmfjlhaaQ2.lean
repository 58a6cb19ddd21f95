/- Part 2 of what a proof leans on; pruned and shortened by a program out of longer texts. -/
import Derived.Test.YtmdpbdhkmfjlhaaQ1
namespace Go.Proofs.Ytmdpbdhkmfjlhaa
open Go Go.Bw
structure gS where
 gen:Int
 iB:Bool
 retired:Bool
abbrev bp:aN gS:=aN.via (LP (LI .u32) (LP LB LB)) (fun x=>(x.gen,x.iB,x.retired))
abbrev nB:gS:=⟨0,false,false⟩
theorem fE:aI bp (LI .u32) 0 (fun x=>x.gen) (fun x v=>{ x with gen:=v }):=(aI.fst aI.id).via _ _ _ 0 rfl (fun _=>rfl) (fun _ _=>rfl)
theorem fD:aI bp LB 1 (fun x=>x.iB) (fun x v=>{ x with iB:=v }):=(aI.snd (aI.fst aI.id)).via _ _ _ 1 rfl (fun _=>rfl) (fun _ _=>rfl)
theorem jc:aI bp LB 2 (fun x=>x.retired) (fun x v=>{ x with retired:=v }):=(aI.snd (aI.snd aI.id)).via _ _ _ 2 rfl (fun _=>rfl) (fun _ _=>rfl)
def kx (x y:gS):Bool:=x.gen == y.gen && x.iB == y.iB && x.retired == y.retired
theorem pO (x y:gS):Value.bool (vQ [(0,some .u32),(1,none),(2,none)] (bp.enc x) (bp.enc y)) = .bool (kx x y):=congrArg Value.bool (by show ((x.gen == y.gen) && ((x.iB == y.iB) && ((x.retired == y.retired) && true))) = (x.gen == y.gen && x.iB == y.iB && x.retired == y.retired); simp [Bool.and_assoc])
structure aY where
 slots:(Nat→gS)
abbrev az:aN aY:=aN.via (LA bp 32) (fun x=>x.slots)
abbrev gC:aY:=⟨(fun _=>nB)⟩
theorem cg:aI az (LA bp 32) 0 (fun x=>x.slots) (fun x v=>{ x with slots:=v }):=aI.id.via _ _ _ 0 rfl (fun _=>rfl) (fun _ _=>rfl)
def jS (n:Nat) (a0:Int) (a1:Int):Option Int:=
 some (wr .u32 ((wr .u32 ((AV .u32 a1 8) + (wr .u32 a0))) + 1))
theorem pB {n a0 a1 r}  (h:jS n a0 a1 = some r):w9 Try.prog 151 [.int .i64 a0, .int .u32 a1] (.int .u32 r):=by
 unfold jS at h
 refine fG Try.func151 (by kernel_rfl) rfl Try.ntmps151 rfl (fun cx cZ hpre hro=>?_)
 refine SC 8 rf ?_
 refine aj rfl (BX rfl rfl (by decide)) ?_
 refine SL 8 rf ?_
 have h:=sj h; subst h
 exact RV rf (rt rf rn) rf
def bF (n:Nat) (a0:Int):Option (Int × Bool):=
 cn (((decide ((wr .i64 ((wr .i64 (uS .u32 a0 255)) - 1)) < 0) || decide (32 ≤ (wr .i64 ((wr .i64 (uS .u32 a0 255)) - 1)))) || decide (8388607 < (vp .u32 a0 8)))) (
 some (0,false)) (
 some (wr .i64 ((wr .i64 (uS .u32 a0 255)) - 1),true))
theorem cN {n a0 r}  (h:bF n a0 = some r):w9 Try.prog 101 [.int .u32 a0] (.tuple #[.int .i64 r.1, .bool r.2]):=by
 unfold bF at h
 refine fG Try.func101 (by kernel_rfl) rfl Try.ntmps101 rfl (fun cx cZ hpre hro=>?_)
 refine SC 9 rf ?_
 refine aj rfl (B1 rfl rfl) ?_
 refine SL 11 rf ?_
 refine GB rf rf rf (fun hb=>au rfl) ?_
 refine GB rf rf rf (fun hb=>o7 (bD rfl hb) rfl) ?_
 refine aj rfl (eu rfl rfl) ?_
 refine aj rfl (au rfl) ?_
 refine GB rf rf rf (fun hb=>au rfl) ?_
 refine GB rf rf rf (fun hb=>wT (bD rfl hb) rfl (by decide)) ?_
 refine GB rf rf rf (fun hb=>mW (bD rfl hb) rfl) ?_
 refine aj rfl (eu rfl rfl) ?_
 refine SL 2 rf ?_
 refine ei h rf (fun hc h=>?_) fun hc h=>?_
 ·
  refine SC 8 rf ?_
  have h:=sj h; subst h
  exact RV rf (rt rf (rt rf rn)) rf
 ·
  refine SC 10 rf ?_
  have h:=sj h; subst h
  exact RV rf (rt rf (rt rf rn)) rf
def aS (n:Nat) (a0:aY) (a1:Int):Option Bool:=
 bd (bF n a1) fun bf =>
 gu (!(bf.2 == true) || dH bf.1 32) <|
 lt ({ gen:=vp .u32 a1 8,iB:=true,retired:=false }:gS) fun jE =>
 some (bf.2 && (kx (a0.slots (Int.toNat bf.1)) jE))
theorem bn {n a0 a1 r}  (h:aS n a0 a1 = some r):w9 Try.prog 44 [.agg (az.enc a0).toArray, .int .u32 a1] (.bool r):=by
 unfold aS at h
 refine fG Try.func44 (by kernel_rfl) rfl Try.ntmps44 rfl (fun cx cZ hpre hro=>?_)
 refine SC 2 rf ?_
 refine W1 rf (eF az a0 rfl rfl) fun b2=>?_
 obtain ⟨bf,bZ,h⟩:=bg h
 refine SL 6 rf ?_
 refine CV (cN bZ) rf rf ?_
 obtain ⟨nN,h⟩:=cm h
 obtain ⟨jE,j6,h⟩:=cL h
 refine SL 11 rf ?_
 refine GB rf rf rf (fun hb=>au rfl) ?_
 refine GB rf rf rf (fun hb=>aM rfl) ?_
 refine GB rf rf rf (fun hb=>fY (m:=(Int.toNat bf.1)) (bD rfl hb) (bD rfl hb) (ay (gQ nN hb)).1 (ay (gQ nN hb)).2) ?_
 refine GB rf rf rf (fun hb=>dy (M:=bp) (cg.c0 (aI.idx (L:=bp) (m:=32) (k:=3) ((Int.toNat bf.1)) (ay (gQ nN hb)).2 rfl)) (bD rfl hb) rfl) ?_
 refine GB rf rf rf (fun hb=>au rfl) ?_
 refine GB rf rf rf (fun hb=>wT (bD rfl hb) rfl (by decide)) ?_
 refine GB rf rf rf (fun hb=>gX (cs:=bp.enc jE) (aA (bD rfl hb) (aA rfl rfl)) (by rw [j6]; rfl)) ?_
 refine GB rf rf rf (fun hb=>qK (BY (cs:=bp.enc (a0.slots (Int.toNat bf.1))) (ds:=bp.enc jE) (bD rfl hb) (bD rfl hb) rfl rfl) (pO _ _)) ?_
 refine aj rfl (cM rfl rfl) ?_
 refine SL 4 rf ?_
 have h:=sj h; subst h
 exact RV rf (rt rf rn) rf
def gT (n:Nat) (a0:aY) (a1:Int):Option (Int × Bool):=
 gu (!((decide (a1 < 0) || decide (32 ≤ a1)) == false) || dH a1 32) <|
 cn (((decide (a1 < 0) || decide (32 ≤ a1)) || (!((a0.slots (Int.toNat a1)).iB)))) (
 some (0,false)) (
 gu (dH a1 32) <|
 bd (jS n a1 ((a0.slots (Int.toNat a1)).gen)) fun jE =>
 some (jE,true))
theorem o5 {n a0 a1 r}  (h:gT n a0 a1 = some r):w9 Try.prog 152 [.agg (az.enc a0).toArray, .int .i64 a1] (.tuple #[.int .u32 r.1, .bool r.2]):=by
 unfold gT at h
 refine fG Try.func152 (by kernel_rfl) rfl Try.ntmps152 rfl (fun cx cZ hpre hro=>?_)
 refine SC 2 rf ?_
 refine W1 rf (eF az a0 rfl rfl) fun b2=>?_
 obtain ⟨qA,h⟩:=cm h
 refine SL 10 rf ?_
 refine GB rf rf rf (fun hb=>au rfl) ?_
 refine GB rf rf rf (fun hb=>o7 (bD rfl hb) rfl) ?_
 refine aj rfl (eu rfl rfl) ?_
 refine aj rfl (au rfl) ?_
 refine GB rf rf rf (fun hb=>au rfl) ?_
 refine GB rf rf rf (fun hb=>aM rfl) ?_
 refine GB rf rf rf (fun hb=>fY (m:=(Int.toNat a1)) (bD rfl hb) (bD rfl hb) (ay (gQ qA hb)).1 (ay (gQ qA hb)).2) ?_
 refine GB rf rf rf (fun hb=>fc (bD rfl hb)) ?_
 refine GB rf rf rf (fun hb=>mV ((cg.c0 (aI.idx (L:=bp) (m:=32) (k:=3) ((Int.toNat a1)) (ay (gQ qA hb)).2 rfl)).comp fD) (bD rfl hb)) ?_
 refine GB rf rf rf (fun hb=>ij (bD rfl hb)) ?_
 refine aj rfl (eu rfl rfl) ?_
 refine SL 2 rf ?_
 refine ei h rf (fun hc h=>?_) fun hc h=>?_
 ·
  refine SC 8 rf ?_
  have h:=sj h; subst h
  exact RV rf (rt rf (rt rf rn)) rf
 ·
  obtain ⟨nN,h⟩:=cm h
  obtain ⟨jE,j6,h⟩:=bg h
  refine SC 7 rf ?_
  refine aj rfl (fY (m:=(Int.toNat a1)) rfl rfl (ay nN).1 (ay nN).2) ?_
  refine aj rfl (fc rfl) ?_
  refine aj rfl (bH ((cg.c0 (aI.idx (L:=bp) (m:=32) (k:=3) ((Int.toNat a1)) (ay nN).2 rfl)).comp fE) rfl) ?_
  refine CV (pB j6) rf rf ?_
  refine SL 5 rf ?_
  have h:=sj h; subst h
  exact RV rf (rt rf (rt rf rn)) rf
def eC (n:Nat) (a0:aY):Option (aY × Int × Bool):=
 dF (fun vx (ck:Int) =>
 cn (decide (ck < 32)) (
 gu (dH ck 32) <|
 lt ((a0.slots (Int.toNat ck)):gS) fun cw =>
 cn ((cw.iB || cw.retired)) (
 vx (wr .i64 (ck + 1))) (
 gu (dH ck 32) <|
 lt ({ a0 with slots:=(er a0.slots (Int.toNat ck) ({ (a0.slots (Int.toNat ck)) with iB:=true })) }:aY) fun eo =>
 bd (jS n ck cw.gen) fun bJ =>
 some (eo,bJ,true))) (
 some (a0,0,false))) n 0
theorem nq {n a0 r}  (h:eC n a0 = some r):w9 Try.prog 106 [.agg (az.enc a0).toArray] (.tuple #[.agg (az.enc r.1).toArray, .int .u32 r.2.1, .bool r.2.2]):=by
 unfold eC at h
 refine fG Try.func106 (by kernel_rfl) rfl Try.ntmps106 rfl (fun cx cZ hpre hro=>?_)
 refine SC 2 rf ?_
 refine W1 rf (eF az a0 rfl rfl) fun b1=>?_
 refine W1 rf (cU (L:=az) (z:=gC) ⟨by kernel_rfl⟩) fun b2=>?_
 refine SL 8 rf ?_
 refine aj rfl (dy (M:=(LA bp 32)) cg rfl rfl) ?_
 refine SL 4 rf ?_
 obtain ⟨qj,mN,h⟩:=kJ h
 refine LO (β:=Int) [1,2,8] [0,1] (fun (mH,ck)=>[(9, .int .i64 ck)]) (fun (mH,ck)=>[.cells b2 66 (az.enc gC), .cells b1 66 (az.enc a0)]) (fun (mH,ck)=>dF qj mH ck = some r) (n,0) h rf rf rf ?_
 rintro mH ck h
 replace h:=kI mN h; obtain ⟨mH,rfl,h⟩:=h
 refine SC 6 rf ?_
 refine ei h rf (fun hc h=>?_) fun hc h=>?_
 ·
  obtain ⟨mj,h⟩:=cm h
  obtain ⟨cw,kR,h⟩:=cL h
  refine SC 7 rf ?_
  refine aj rfl (EJ (L:=bp) (m:=(Int.toNat ck)) rfl rfl (ay mj).1 (ay mj).2 rfl rfl) ?_
  refine W1 rf (cU (L:=bp) (z:=nB) ⟨by kernel_rfl⟩) fun b6=>?_
  refine aj rfl (bB rfl) ?_
  refine W0 (di (M:=bp) (aI.id (L:=bp)) (a0.slots (Int.toNat ck)) cw kR rfl rfl rfl rfl) ?_
  refine SL 6 rf ?_
  refine aj rfl (mV fD rfl) ?_
  refine aj rfl (au rfl) ?_
  refine GB rf rf rf (fun hb=>aM rfl) ?_
  refine GB rf rf rf (fun hb=>mV jc (bD rfl hb)) ?_
  refine aj rfl (eu rfl rfl) ?_
  refine SL 2 rf ?_
  refine ei h rf (fun hc h=>?_) fun hc h=>?_
  ·
   refine SC 8 rf ?_
   exact LN [1,2] (wr .i64 (ck + 1)) h rf rf rf
  ·
   obtain ⟨qz,h⟩:=cm h
   obtain ⟨eo,oU,h⟩:=cL h
   refine SC 6 rf ?_
   refine aj rfl (fY (m:=(Int.toNat ck)) rfl rfl (ay qz).1 (ay qz).2) ?_
   refine aj rfl (fc rfl) ?_
   refine W0 (di (M:=LB) ((cg.c0 (aI.idx (L:=bp) (m:=32) (k:=3) ((Int.toNat ck)) (ay qz).2 rfl)).comp fD) true eo oU rfl rfl rfl rfl) ?_
   refine SL 3 rf ?_
   obtain ⟨bJ,sR,h⟩:=bg h
   refine cJ mixed (.gB [] [(0,[1]),(1,[5]),(2,[6]),(3,[25]),(4,[24,26])] (.alt 5 [2,23] (.gB [] [] (.alt 6 [27] (.gB [] [] (.alt 7 [] (.fin [] []) .no)) .no)) .no)) (by kernel_rfl) ?_
   refine T0 ?_
   refine NV rf rf (dy (M:=az) (aI.id (L:=az)) rfl rfl) ?_
   refine NS 2 rf ?_
   refine NV rf rf (bH fE rfl) ?_
   refine NC rf rf (pB sR) rf ?_
   refine aW ?_
   refine X0 rf (di (M:=az) (aI.id (L:=az)) eo eo rfl rfl rfl rfl rfl) ?_
   refine B4 ?_
   refine XV rf rf (bB rfl) ?_
   refine B4 ?_
   refine XV rf rf (bB rfl) ?_
   refine pb ?_
   refine SX 7 rf ?_
   have h:=sj h; subst h
   exact RV rf (ra rf (br _ _) (rt rf (rt rf rn))) rf
 ·
  refine SC 7 rf ?_
  refine aj rfl (dy (M:=az) (aI.id (L:=az)) rfl rfl) ?_
  refine W0 (di (M:=az) (aI.id (L:=az)) a0 a0 rfl rfl rfl rfl rfl) ?_
  refine SL 5 rf ?_
  have h:=sj h; subst h
  exact RV rf (ra rf (br _ _) (rt rf (rt rf rn))) rf
def fT (n:Nat) (a0:aY) (a1:Int):Option (aY × Bool):=
 bd (aS n a0 a1) fun bf =>
 cn ((!bf)) (
 some (a0,false)) (
 bd (bF n a1) fun ck =>
 gu (dH ck.1 32) <|
 lt ({ a0 with slots:=(er a0.slots (Int.toNat ck.1) ({ (a0.slots (Int.toNat ck.1)) with iB:=false })) }:aY) fun n5 =>
 cn ((((n5.slots (Int.toNat ck.1)).gen) == 8388607)) (
 lt ({ n5 with slots:=(er n5.slots (Int.toNat ck.1) ({ (n5.slots (Int.toNat ck.1)) with retired:=true })) }:aY) fun js =>
 some (js,true)) (
 lt ({ n5 with slots:=(er n5.slots (Int.toNat ck.1) ({ (n5.slots (Int.toNat ck.1)) with gen:=wr .u32 (((n5.slots (Int.toNat ck.1)).gen) + 1) })) }:aY) fun dx =>
 some (dx,true)))
theorem nX {n a0 a1 r}  (h:fT n a0 a1 = some r):w9 Try.prog 100 [.agg (az.enc a0).toArray, .int .u32 a1] (.tuple #[.agg (az.enc r.1).toArray, .bool r.2]):=by
 unfold fT at h
 refine fG Try.func100 (by kernel_rfl) rfl Try.ntmps100 rfl (fun cx cZ hpre hro=>?_)
 refine SC 2 rf ?_
 refine W1 rf (eF az a0 rfl rfl) fun b2=>?_
 refine W1 rf (cU (L:=az) (z:=gC) ⟨by kernel_rfl⟩) fun b4=>?_
 obtain ⟨bf,bZ,h⟩:=bg h
 refine SL 6 rf ?_
 refine aj rfl (dy (M:=az) (aI.id (L:=az)) rfl rfl) ?_
 refine aj rfl (au rfl) ?_
 refine CV (bn bZ) rf rf ?_
 refine SL 3 rf ?_
 refine ei h rf (fun hc h=>?_) fun hc h=>?_
 ·
  refine SC 2 rf ?_
  refine aj rfl (dy (M:=az) (aI.id (L:=az)) rfl rfl) ?_
  refine W0 (di (M:=az) (aI.id (L:=az)) a0 a0 rfl rfl rfl rfl rfl) ?_
  refine SL 5 rf ?_
  have h:=sj h; subst h
  exact RV rf (ra rf (br _ _) (rt rf rn)) rf
 ·
  obtain ⟨ck,ic,h⟩:=bg h
  refine SC 5 rf ?_
  refine CV (cN ic) rf rf ?_
  obtain ⟨vJ,h⟩:=cm h
  refine SL 11 rf ?_
  refine aj rfl (fY (m:=(Int.toNat ck.1)) rfl rfl (ay vJ).1 (ay vJ).2) ?_
  obtain ⟨n5,vB,h⟩:=cL h
  refine SL 8 rf ?_
  refine W0 (di (M:=LB) ((cg.c0 (aI.idx (L:=bp) (m:=32) (k:=3) ((Int.toNat ck.1)) (ay vJ).2 rfl)).comp fD) false n5 vB rfl rfl rfl rfl) ?_
  refine SL 8 rf ?_
  refine aj rfl (bH ((cg.c0 (aI.idx (L:=bp) (m:=32) (k:=3) ((Int.toNat ck.1)) (ay vJ).2 rfl)).comp fE) rfl) ?_
  refine SL 3 rf ?_
  refine ei h rf (fun hc h=>?_) fun hc h=>?_
  ·
   obtain ⟨js,nJ,h⟩:=cL h
   refine SC 4 rf ?_
   refine W0 (di (M:=LB) ((cg.c0 (aI.idx (L:=bp) (m:=32) (k:=3) ((Int.toNat ck.1)) (ay vJ).2 rfl)).comp jc) true js nJ rfl rfl rfl rfl) ?_
   refine SL 4 rf ?_
   refine aj rfl (dy (M:=az) (aI.id (L:=az)) rfl rfl) ?_
   refine W0 (di (M:=az) (aI.id (L:=az)) js js rfl rfl rfl rfl rfl) ?_
   refine SL 4 rf ?_
   have h:=sj h; subst h
   exact RV rf (ra rf (br _ _) (rt rf rn)) rf
  ·
   obtain ⟨dx,lV,h⟩:=cL h
   refine SC 4 rf ?_
   refine aj rfl (bH ((cg.c0 (aI.idx (L:=bp) (m:=32) (k:=3) ((Int.toNat ck.1)) (ay vJ).2 rfl)).comp fE) rfl) ?_
   refine SL 3 rf ?_
   refine W0 (di (M:=(LI .u32)) ((cg.c0 (aI.idx (L:=bp) (m:=32) (k:=3) ((Int.toNat ck.1)) (ay vJ).2 rfl)).comp fE) (wr .u32 (((n5.slots (Int.toNat ck.1)).gen) + 1)) dx lV rfl rfl rfl rfl) ?_
   refine SL 4 rf ?_
   refine aj rfl (dy (M:=az) (aI.id (L:=az)) rfl rfl) ?_
   refine W0 (di (M:=az) (aI.id (L:=az)) dx dx rfl rfl rfl rfl rfl) ?_
   refine SL 4 rf ?_
   have h:=sj h; subst h
   exact RV rf (ra rf (br _ _) (rt rf rn)) rf
def eY (n:Nat) (a0:aY):Option (List Int):=
 dD (fun xA (cw:(List Int)) (bJ:Int) =>
 cn (decide (bJ < 32)) (
 bd (gT n a0 bJ) fun fI =>
 cn (fI.2) (
 gu (kV cw.length 1 4) <|
 lt (cw++([fI.1]):List Int) fun gE =>
 xA gE (wr .i64 (bJ + 1))) (
 xA cw (wr .i64 (bJ + 1)))) (
 some cw)) n ([]) 0
theorem mP {n a0 r}  (h:eY n a0 = some r):Bw.Fn (α:=Value) Try.prog 107 [.agg (az.enc a0).toArray] (fun _=>True) [] (fun v=>jI v r.length) (fun v=>v) (fun v=>[Row v 69 1 (LI .u32) r]):=by
 unfold eY at h
 refine fG Try.func107 (by kernel_rfl) rfl Try.ntmps107 rfl (fun cx cZ hpre hro=>?_)
 refine SC 2 rf ?_
 refine W1 rf (eF az a0 rfl rfl) fun b1=>?_
 refine SL 15 rf ?_
 refine oD 69 1 (LI .u32) ?_
 obtain ⟨vw,qv,h⟩:=lq h
 refine LO (β:=(List Int) × Int × Value) [1] [0,1] (fun (m32,cw,bJ,sE)=>[(3,sE),(7, .int .i64 bJ)]) (fun (m32,cw,bJ,sE)=>[Row sE 69 1 (LI .u32) cw, .cells b1 66 (az.enc a0)]) (fun (m32,cw,bJ,sE)=>jI sE cw.length∧dD vw m32 cw bJ = some r) (n,[],0, .slice none 0 0) ⟨⟨_,_,rfl⟩,h⟩ rf rf rf ?_
 rintro m32 ⟨cw,bJ,sE⟩ ⟨nj,h⟩
 replace h:=lp qv h; obtain ⟨m32,rfl,h⟩:=h
 refine SC 6 rf ?_
 refine ei h rf (fun hc h=>?_) fun hc h=>?_
 ·
  obtain ⟨fI,sP,h⟩:=bg h
  refine SC 12 rf ?_
  refine aj rfl (dy (M:=az) (aI.id (L:=az)) rfl rfl) ?_
  refine aj rfl (au rfl) ?_
  refine CV (o5 sP) rf rf ?_
  refine SL 12 rf ?_
  refine ei h rf (fun hc h=>?_) fun hc h=>?_
  ·
   obtain ⟨kS,h⟩:=cm h
   obtain ⟨gE,j5,h⟩:=cL h
   refine SC 3 rf ?_
   refine ez rfl (l5 (LI .u32) fI.1 rfl rfl rfl rfl (by decide) (by decide)) (fun P2 _=>?_)
   refine ez rfl (kO (sz:=1) (L:=(LI .u32)) (xs:=cw) (y:=fI.1) (bytes:=4) rfl rfl rfl (fX kS).1 (fX kS).2) (fun Ce rm=>?_)
   rw [← j5] at rm; rw [← j5]
   refine SL 8 rf ?_
   exact LN [1,2] (gE,wr .i64 (bJ + 1),Ce) ⟨rm,h⟩ rf rf rf
  ·
   refine SC 7 rf ?_
   exact LN [0,1] (cw,wr .i64 (bJ + 1),sE) ⟨nj,h⟩ rf rf rf
 ·
  refine SC 12 rf ?_
  have h:=sj h; subst h
  exact dG sE rfl (.tmp rfl .nil) nj rfl (ks:=[0]) rfl (by decide)
end Go.Proofs.Ytmdpbdhkmfjlhaa
namespace Go.Proofs.Ytmdpbdhkmfjlhaa
open Go Go.Bw
structure aC where
 ia:(Nat→Int)
 Is:(Nat→Int)
abbrev aB:aN aC:=aN.via (LP (LA (LI .i64) 32) (LA (LI .i64) 32)) (fun x=>(x.ia,x.Is))
abbrev hM:aC:=⟨(fun _=>0),(fun _=>0)⟩
theorem hO:aI aB (LA (LI .i64) 32) 0 (fun x=>x.ia) (fun x v=>{ x with ia:=v }):=(aI.fst aI.id).via _ _ _ 0 rfl (fun _=>rfl) (fun _ _=>rfl)
theorem eJ:aI aB (LA (LI .i64) 32) 32 (fun x=>x.Is) (fun x v=>{ x with Is:=v }):=(aI.snd aI.id).via _ _ _ 32 rfl (fun _=>rfl) (fun _ _=>rfl)
def eP (n:Nat) (a0:aC) (a1:Int):Option Int:=
 gu (dH a1 32) <|
 some (wr .i64 ((wr .i64 (a1 + (wr .i64 (256 * (a0.ia (Int.toNat a1)))))) + 1))
theorem iz {n a0 a1 r}  (h:eP n a0 a1 = some r):w9 Try.prog 122 [.agg (aB.enc a0).toArray, .int .i64 a1] (.int .i64 r):=by
 unfold eP at h
 refine fG Try.func122 (by kernel_rfl) rfl Try.ntmps122 rfl (fun cx cZ hpre hro=>?_)
 refine SC 2 rf ?_
 refine W1 rf (eF aB a0 rfl rfl) fun b2=>?_
 obtain ⟨qA,h⟩:=cm h
 refine SL 8 rf ?_
 refine aj rfl (fY (m:=(Int.toNat a1)) rfl rfl (ay qA).1 (ay qA).2) ?_
 refine aj rfl (bH (hO.c0 (aI.idx (L:=(LI .i64)) (m:=32) (k:=1) ((Int.toNat a1)) (ay qA).2 rfl)) rfl) ?_
 refine SL 7 rf ?_
 have h:=sj h; subst h
 exact RV rf (rt rf rn) rf
def bC (n:Nat) (a0:aC) (a1:Int):Option Int:=
 dF (fun vx (ck:Int) =>
 cn (decide (ck < 32)) (
 gu (dH ck 32) <|
 cl (((a0.Is (Int.toNat ck)) == 1) == true) (eP n a0 ck) default fun cw =>
 cn ((((a0.Is (Int.toNat ck)) == 1) && (cw == a1))) (
 some ck) (
 vx (wr .i64 (ck + 1)))) (
 some (-1))) n 0
theorem cI {n a0 a1 r}  (h:bC n a0 a1 = some r):w9 Try.prog 117 [.agg (aB.enc a0).toArray, .int .i64 a1] (.int .i64 r):=by
 unfold bC at h
 refine fG Try.func117 (by kernel_rfl) rfl Try.ntmps117 rfl (fun cx cZ hpre hro=>?_)
 refine SC 2 rf ?_
 refine W1 rf (eF aB a0 rfl rfl) fun b2=>?_
 refine SL 10 rf ?_
 obtain ⟨qj,mN,h⟩:=kJ h
 refine LO (β:=Int) [1,2] [0] (fun (mH,ck)=>[(5, .int .i64 ck)]) (fun (mH,ck)=>[.cells b2 101 (aB.enc a0)]) (fun (mH,ck)=>dF qj mH ck = some r) (n,0) h rf rf rf ?_
 rintro mH ck h
 replace h:=kI mN h; obtain ⟨mH,rfl,h⟩:=h
 refine SC 7 rf ?_
 refine ei h rf (fun hc h=>?_) fun hc h=>?_
 ·
  obtain ⟨mj,h⟩:=cm h
  obtain ⟨cw,kR,_,h⟩:=fV h
  refine SC 8 rf ?_
  refine aj rfl (bU (m:=(Int.toNat ck)) rfl rfl (ay mj).1 (ay mj).2) ?_
  refine aj rfl (bH (eJ.comp (aI.idx (L:=(LI .i64)) (m:=32) (k:=1) ((Int.toNat ck)) (ay mj).2 rfl)) rfl) ?_
  refine SL 2 rf ?_
  refine GB rf rf rf (fun hb=>dy (M:=aB) (aI.id (L:=aB)) rfl rfl) ?_
  refine GB rf rf rf (fun hb=>au rfl) ?_
  refine GB rf rf rf (fun hb=>bS (iz (kR hb)) (aA (bD rfl hb) (aA (bD rfl hb) rfl)) (fun _ _ _=>trivial)) ?_
  refine GB rf rf rf (fun hb=>au rfl) ?_
  refine GB rf rf rf (fun hb=>fg (bD rfl hb) (bD rfl hb)) ?_
  refine aj rfl (cM rfl rfl) ?_
  refine SL 2 rf ?_
  refine ei h rf (fun hc h=>?_) fun hc h=>?_
  ·
   refine SC 12 rf ?_
   have h:=sj h; subst h
   exact RV rf (rt rf rn) rf
  ·
   refine SC 8 rf ?_
   exact LN [0] (wr .i64 (ck + 1)) h rf rf rf
 ·
  refine SC 11 rf ?_
  have h:=sj h; subst h
  exact RV rf (rt rf rn) rf
def fk (n:Nat) (a0:aC) (a1:Int):Option (aC × Bool):=
 bd (bC n a0 a1) fun bf =>
 cn (decide (bf < 0)) (
 some (a0,false)) (
 gu (dH bf 32) <|
 lt ({ a0 with Is:=(er a0.Is (Int.toNat bf) 0) }:aC) fun jE =>
 gu (dH bf 32) <|
 cn (((jE.ia (Int.toNat bf)) == 8388607)) (
 gu (dH bf 32) <|
 lt ({ jE with Is:=(er jE.Is (Int.toNat bf) 2) }:aC) fun dx =>
 some (dx,true)) (
 gu (dH bf 32) <|
 gu (dH bf 32) <|
 lt ({ jE with ia:=(er jE.ia (Int.toNat bf) (wr .i64 ((jE.ia (Int.toNat bf)) + 1))) }:aC) fun eo =>
 some (eo,true)))
theorem oy {n a0 a1 r}  (h:fk n a0 a1 = some r):w9 Try.prog 153 [.agg (aB.enc a0).toArray, .int .i64 a1] (.tuple #[.agg (aB.enc r.1).toArray, .bool r.2]):=by
 unfold fk at h
 refine fG Try.func153 (by kernel_rfl) rfl Try.ntmps153 rfl (fun cx cZ hpre hro=>?_)
 refine SC 2 rf ?_
 refine W1 rf (eF aB a0 rfl rfl) fun b2=>?_
 refine W1 rf (cU (L:=aB) (z:=hM) ⟨by kernel_rfl⟩) fun b4=>?_
 obtain ⟨bf,bZ,h⟩:=bg h
 refine SL 5 rf ?_
 refine aj rfl (dy (M:=aB) (aI.id (L:=aB)) rfl rfl) ?_
 refine aj rfl (au rfl) ?_
 refine CV (cI bZ) rf rf ?_
 refine SL 10 rf ?_
 refine ei h rf (fun hc h=>?_) fun hc h=>?_
 ·
  refine SC 2 rf ?_
  refine aj rfl (dy (M:=aB) (aI.id (L:=aB)) rfl rfl) ?_
  refine W0 (di (M:=aB) (aI.id (L:=aB)) a0 a0 rfl rfl rfl rfl rfl) ?_
  refine SL 5 rf ?_
  have h:=sj h; subst h
  exact RV rf (ra rf (br _ _) (rt rf rn)) rf
 ·
  obtain ⟨nN,h⟩:=cm h
  obtain ⟨jE,j6,h⟩:=cL h
  refine SC 6 rf ?_
  refine aj rfl (bU (m:=(Int.toNat bf)) rfl rfl (ay nN).1 (ay nN).2) ?_
  refine W0 (di (M:=(LI .i64)) (eJ.comp (aI.idx (L:=(LI .i64)) (m:=32) (k:=1) ((Int.toNat bf)) (ay nN).2 rfl)) 0 jE j6 rfl rfl rfl rfl) ?_
  obtain ⟨DZ,h⟩:=cm h
  refine SL 7 rf ?_
  refine aj rfl (fY (m:=(Int.toNat bf)) rfl rfl (ay DZ).1 (ay DZ).2) ?_
  refine aj rfl (bH (hO.c0 (aI.idx (L:=(LI .i64)) (m:=32) (k:=1) ((Int.toNat bf)) (ay DZ).2 rfl)) rfl) ?_
  refine SL 3 rf ?_
  refine ei h rf (fun hc h=>?_) fun hc h=>?_
  ·
   obtain ⟨DY,h⟩:=cm h
   obtain ⟨dx,lV,h⟩:=cL h
   refine SC 3 rf ?_
   refine aj rfl (bU (m:=(Int.toNat bf)) rfl rfl (ay DY).1 (ay DY).2) ?_
   refine W0 (di (M:=(LI .i64)) (eJ.comp (aI.idx (L:=(LI .i64)) (m:=32) (k:=1) ((Int.toNat bf)) (ay DY).2 rfl)) 2 dx lV rfl rfl rfl rfl) ?_
   refine SL 4 rf ?_
   refine aj rfl (dy (M:=aB) (aI.id (L:=aB)) rfl rfl) ?_
   refine W0 (di (M:=aB) (aI.id (L:=aB)) dx dx rfl rfl rfl rfl rfl) ?_
   refine SL 4 rf ?_
   have h:=sj h; subst h
   exact RV rf (ra rf (br _ _) (rt rf rn)) rf
  ·
   obtain ⟨nM,h⟩:=cm h
   obtain ⟨qz,h⟩:=cm h
   obtain ⟨eo,oU,h⟩:=cL h
   refine SC 4 rf ?_
   refine aj rfl (fY (m:=(Int.toNat bf)) rfl rfl (ay nM).1 (ay nM).2) ?_
   refine aj rfl (bH (hO.c0 (aI.idx (L:=(LI .i64)) (m:=32) (k:=1) ((Int.toNat bf)) (ay nM).2 rfl)) rfl) ?_
   refine SL 2 rf ?_
   refine aj rfl (fY (m:=(Int.toNat bf)) rfl rfl (ay qz).1 (ay qz).2) ?_
   refine W0 (di (M:=(LI .i64)) (hO.c0 (aI.idx (L:=(LI .i64)) (m:=32) (k:=1) ((Int.toNat bf)) (ay qz).2 rfl)) (wr .i64 ((jE.ia (Int.toNat bf)) + 1)) eo oU rfl rfl rfl rfl) ?_
   refine SL 4 rf ?_
   refine aj rfl (dy (M:=aB) (aI.id (L:=aB)) rfl rfl) ?_
   refine W0 (di (M:=aB) (aI.id (L:=aB)) eo eo rfl rfl rfl rfl rfl) ?_
   refine SL 4 rf ?_
   have h:=sj h; subst h
   exact RV rf (ra rf (br _ _) (rt rf rn)) rf
def eU (n:Nat) (a0:aC):Option (aC × Int):=
 dF (fun vx (ck:Int) =>
 cn (decide (ck < 32)) (
 gu (dH ck 32) <|
 cn (((a0.Is (Int.toNat ck)) == 0)) (
 gu (dH ck 32) <|
 lt ({ a0 with Is:=(er a0.Is (Int.toNat ck) 1) }:aC) fun ef =>
 bd (eP n ef ck) fun eo =>
 some (ef,eo)) (
 vx (wr .i64 (ck + 1)))) (
 some (a0,0))) n 0
theorem nW {n a0 r}  (h:eU n a0 = some r):w9 Try.prog 155 [.agg (aB.enc a0).toArray] (.tuple #[.agg (aB.enc r.1).toArray, .int .i64 r.2]):=by
 unfold eU at h
 refine fG Try.func155 (by kernel_rfl) rfl Try.ntmps155 rfl (fun cx cZ hpre hro=>?_)
 refine SC 2 rf ?_
 refine W1 rf (eF aB a0 rfl rfl) fun b1=>?_
 refine W1 rf (cU (L:=aB) (z:=hM) ⟨by kernel_rfl⟩) fun b2=>?_
 refine SL 10 rf ?_
 obtain ⟨qj,mN,h⟩:=kJ h
 refine LO (β:=Int) [1,2] [0,1] (fun (mH,ck)=>[(4, .int .i64 ck)]) (fun (mH,ck)=>[.cells b2 101 (aB.enc hM), .cells b1 101 (aB.enc a0)]) (fun (mH,ck)=>dF qj mH ck = some r) (n,0) h rf rf rf ?_
 rintro mH ck h
 replace h:=kI mN h; obtain ⟨mH,rfl,h⟩:=h
 refine SC 7 rf ?_
 refine ei h rf (fun hc h=>?_) fun hc h=>?_
 ·
  obtain ⟨mj,h⟩:=cm h
  refine SC 8 rf ?_
  refine aj rfl (bU (m:=(Int.toNat ck)) rfl rfl (ay mj).1 (ay mj).2) ?_
  refine aj rfl (bH (eJ.comp (aI.idx (L:=(LI .i64)) (m:=32) (k:=1) ((Int.toNat ck)) (ay mj).2 rfl)) rfl) ?_
  refine SL 3 rf ?_
  refine ei h rf (fun hc h=>?_) fun hc h=>?_
  ·
   obtain ⟨nM,h⟩:=cm h
   obtain ⟨ef,qq,h⟩:=cL h
   refine SC 4 rf ?_
   refine aj rfl (bU (m:=(Int.toNat ck)) rfl rfl (ay nM).1 (ay nM).2) ?_
   refine W0 (di (M:=(LI .i64)) (eJ.comp (aI.idx (L:=(LI .i64)) (m:=32) (k:=1) ((Int.toNat ck)) (ay nM).2 rfl)) 1 ef qq rfl rfl rfl rfl) ?_
   refine SL 3 rf ?_
   obtain ⟨eo,oU,h⟩:=bg h
   refine cJ mixed (.gB [] [(0,[1]),(1,[1]),(2,[4]),(3,[18,19])] (.alt 4 [2,17] (.gB [] [] (.alt 5 [20] (.fin [] []) .no)) .no)) (by kernel_rfl) ?_
   refine T0 ?_
   refine NV rf rf (dy (M:=aB) (aI.id (L:=aB)) rfl rfl) ?_
   refine NV rf rf (dy (M:=aB) (aI.id (L:=aB)) rfl rfl) ?_
   refine NS 1 rf ?_
   refine NC rf rf (iz oU) rf ?_
   refine aW ?_
   refine X0 rf (di (M:=aB) (aI.id (L:=aB)) ef ef rfl rfl rfl rfl rfl) ?_
   refine B4 ?_
   refine XV rf rf (bB rfl) ?_
   refine pb ?_
   refine SX 7 rf ?_
   have h:=sj h; subst h
   exact RV rf (ra rf (br _ _) (rt rf rn)) rf
  ·
   refine SC 8 rf ?_
   exact LN [0,1] (wr .i64 (ck + 1)) h rf rf rf
 ·
  refine SC 7 rf ?_
  refine aj rfl (dy (M:=aB) (aI.id (L:=aB)) rfl rfl) ?_
  refine W0 (di (M:=aB) (aI.id (L:=aB)) a0 a0 rfl rfl rfl rfl rfl) ?_
  refine SL 4 rf ?_
  have h:=sj h; subst h
  exact RV rf (ra rf (br _ _) (rt rf rn)) rf
end Go.Proofs.Ytmdpbdhkmfjlhaa
namespace Go.Proofs.Ytmdpbdhkmfjlhaa
open Go Go.Bw
end Go.Proofs.Ytmdpbdhkmfjlhaa
namespace Go.Proofs.Ytmdpbdhkmfjlhaa
open Go Go.Bw
end Go.Proofs.Ytmdpbdhkmfjlhaa
namespace Go.Bw
open Go
theorem bT {x:Int} (h1:-9223372036854775808 ≤ x) (h2:x ≤ 9223372036854775807):wr .i64 x = x:=IntWalk.i64_in x ⟨h1,h2⟩
theorem mA {x:Int} (h1:0 ≤ x) (h2:x ≤ 4294967295):wr .u32 x = x:=IntWalk.u32_in x ⟨h1,h2⟩
theorem uL {k:IntKind} {a:Nat} (h:a < 2 ^ k.bits):(BitVec.ofInt k.bits (a:Int)).toNat = a:=by
  rw [BitVec.toNat_ofInt]
  have:((a:Int) % ((2 ^ k.bits:Nat):Int)) = ((a % 2 ^ k.bits:Nat):Int):=(Int.natCast_emod _ _).symm
  rw [this,Nat.mod_eq_of_lt h]; rfl
theorem CY {k:IntKind} {r:Nat} (h:r < 2 ^ IntKind.up k):wr k (r:Int) = r:=AP h
theorem wQ (k:IntKind) {r:Nat} (h:r < 2 ^ IntKind.up k):r < 2 ^ k.bits:=Nat.lt_of_lt_of_le h (Nat.pow_le_pow_right (by decide) (BM k))
theorem z7 {k:IntKind} {a b:Nat} (ha:a < 2 ^ IntKind.up k) (hb:b < 2 ^ IntKind.up k):uS k a b = ((a &&& b:Nat):Int):=by
  unfold uS
  rw [BitVec.toNat_and,uL (wQ k ha),uL (wQ k hb)]
  exact CY (Nat.lt_of_le_of_lt Nat.and_le_left ha)
theorem z8 {k:IntKind} {a:Int} (m:Nat) {b:Int} (h0:0 ≤ a) (ha:a < ((2 ^ IntKind.up k:Nat):Int)) (hb:b = ((2 ^ m - 1:Nat):Int)) (hm:2 ^ m - 1 < 2 ^ IntKind.up k):uS k a b = a % ((2 ^ m:Nat):Int):=by
  obtain ⟨x,rfl⟩:=Int.eq_ofNat_of_zero_le h0
  subst hb
  rw [z7 (by exact_mod_cast ha) hm,Nat.and_two_pow_sub_one_eq_mod]
  exact Int.natCast_emod _ _
theorem tW {k:IntKind} {a:Int} (m:Nat) {b:Int} (hb:b = (m:Int)) (hm:m ≤ k.bits):vp k a b = a / ((2 ^ m:Nat):Int):=by
  subst hb
  unfold vp
  rw [Int.toNat_natCast,Nat.min_eq_left hm,Int.fdiv_eq_ediv_of_nonneg _ (Int.pow_nonneg (by decide))]
  congr 1
theorem yH {k:IntKind} {a:Int} (m:Nat) {b:Int} (hb:b = (m:Int)) (hm:m ≤ k.bits):AV k a b = wr k (a * ((2 ^ m:Nat):Int)):=by
  subst hb
  unfold AV wr
  rw [Int.toNat_natCast,Nat.min_eq_left hm]
  congr 2
theorem yC {a b:Int} (h:0 ≤ a):Int.tmod a b = a % b:=Int.tmod_eq_emod_of_nonneg h
theorem cD {i:Int} {n:Nat} (h0:0 ≤ i) (h1:i < (n:Int)):dH i n = true:=by simp [dH,h0,h1]
theorem ko {n m b:Nat} (h:(n + m) * b ≤ 140737488355328) (h2:n + m ≤ 9223372036854775807):kV n m b = true:=by simp [kV,h,h2]
theorem oK {α:Type} (f:Nat→α) (i:Nat) (v:α):er f i v i = v:=by simp [er]
theorem iM {α:Type} (f:Nat→α) {i j:Nat} (v:α) (h:j ≠ i):er f i v j = f j:=by simp [er,h]
theorem cr {α:Type} (f:Nat→α) (i j:Nat) (v:α):er f i v j = if j = i then v else f j:=rfl
section
variable {α ρ:Type}
theorem av {m:Option α} {x:α} {f:α→Option ρ} (h:m = some x):bd m f = f x:=by subst h; rfl
theorem lt_eq (a:α) (f:α→Option ρ):lt a f = f a:=rfl
theorem aD {b:Bool} {k:Option ρ} (h:b = true):gu b k = k:=by subst h; rfl
theorem aK {b:Bool} {x y:Option ρ} (h:b = true):cn b x y = x:=by subst h; rfl
theorem ax {b:Bool} {x y:Option ρ} (h:b = false):cn b x y = y:=by subst h; rfl
theorem gI {g:Bool} {m:Option α} {z x:α} {f:α→Option ρ} (h:g = true) (hm:m = some x):cl g m z f = f x:=by subst h; subst hm; rfl
theorem uG {g:Bool} {m:Option α} {z:α} {f:α→Option ρ} (h:g = false):cl g m z f = f z:=by subst h; rfl
theorem c9 {g:Bool} {m:Option α} {z x:α} {f:α→Option ρ} (hm:m = some x):cl g m z f = f (bif g then x else z):=by subst hm; cases g <;> rfl
end
end Go.Bw
namespace Go.Proofs.Ytmdpbdhkmfjlhaa
open Go Go.Bw
def gR (i g:Int):Int:=i + 256 * g + 1
theorem oc {n:Nat} {i g:Int} (h0:0 ≤ i) (h1:i < 32) (g0:0 ≤ g) (g1:g ≤ 8388607):jS n i g = some (gR i g):=by
  unfold jS gR
  rw [yH (b:=8) 8 rfl (by decide),mA (x:=g * _) (by omega) (by omega),mA (x:=i) (by omega) (by omega),mA (x:=g * _ + i) (by omega) (by omega),mA (by omega) (by omega)]
  congr 1; omega
theorem m9 {n:Nat} {w:aC} {i:Int} (h0:0 ≤ i) (h1:i < 32) (g0:0 ≤ w.ia i.toNat) (g1:w.ia i.toNat ≤ 8388607):eP n w i = some (gR i (w.ia i.toNat)):=by
  unfold eP gR
  rw [aD (cD h0 (by omega)),bT (x:=256 * _) (by omega) (by omega),bT (x:=i + _) (by omega) (by omega),bT (by omega) (by omega)]
def tM (h:Int):Bool:=decide (1 ≤ h % 256∧h % 256 ≤ 32∧h / 256 ≤ 8388607)
def g5 (h:Int):Int:=if tM h then h % 256 - 1 else 0
theorem dJ (h:Int):0 ≤ g5 h∧g5 h < 32:=by
  unfold g5 tM
  split
  · rename_i h1; simp at h1; omega
  · omega
theorem kG {n:Nat} {h:Int} (h0:0 ≤ h) (h1:h < 4294967296):bF n h = some (g5 h,tM h):=by
  unfold bF
  have e1:uS .u32 h 255 = h % 256:=z8 8 h0 (by simpa [IntKind.up,IntKind.signed,IntKind.bits] using h1) rfl (by decide)
  have e2:vp .u32 h 8 = h / 256:=tW 8 rfl (by decide)
  rw [e1,e2,bT (x:=h % 256) (by omega) (by omega),bT (x:=h % 256 - 1) (by omega) (by omega)]
  by_cases hb:tM h = true
  · have hb':=hb
    simp only [tM,decide_eq_true_eq] at hb'
    rw [ax (by simp; omega)]
    simp [g5,hb]
  · have hb':=hb
    simp only [tM,decide_eq_true_eq] at hb'
    rw [aK (by simp; omega)]
    simp [g5,hb]
structure RB (b:aY) (w:aC):Prop where
  gen:∀i,i < 32→(b.slots i).gen = w.ia i
  Cr:∀i,i < 32→(b.slots i).iB = (w.Is i == 1)
  ret:∀i,i < 32→(b.slots i).retired = (w.Is i == 2)
  Cl:∀i,i < 32→w.Is i = 0∨w.Is i = 1∨w.Is i = 2
  iK:∀i,i < 32→0 ≤ w.ia i∧w.ia i ≤ 8388607
theorem wJ {n:Nat} {b:aY} {w:aC} (r:RB b w) {h:Int} (h0:0 ≤ h) (h1:h < 4294967296) :
    aS n b h = some (tM h && (w.Is (g5 h).toNat == 1) && (w.ia (g5 h).toNat == h / 256)):=by
  unfold aS
  obtain ⟨hs0,DF⟩:=dJ h
  rw [av (kG h0 h1),aD (by rw [cD hs0 (by simpa using DF)]; simp)]
  simp only [lt]
  have hi:(g5 h).toNat < 32:=by omega
  have e2:vp .u32 h 8 = h / 256:=tW 8 rfl (by decide)
  rw [e2]
  simp only [kx,r.gen _ hi,r.Cr _ hi,r.ret _ hi]
  have hk:=r.Cl _ hi
  congr 1
  rcases hk with hk | hk | hk <;> simp [hk,Bool.and_comm,Bool.and_left_comm,Bool.and_assoc]
theorem oV {h:Int} (h0:0 ≤ h) (hb:tM h = true):gR (g5 h) (h / 256) = h:=by
  have hb':=hb
  simp only [tM,decide_eq_true_eq] at hb'
  simp only [g5,hb,if_true,gR]; omega
theorem lU {i g:Int} (h0:0 ≤ i) (h1:i < 32) (g0:0 ≤ g) (g1:g ≤ 8388607):tM (gR i g) = true∧g5 (gR i g) = i∧gR i g / 256 = g∧0 < gR i g∧gR i g < 4294967296:=by
  have e:tM (gR i g) = true:=decide_eq_true (by unfold gR; omega)
  refine ⟨e,?_,?_,?_,?_⟩
  · unfold g5; rw [if_pos e]; unfold gR; omega
  all_goals (unfold gR; omega)
def bk (w:aC) (h:Int):Bool:=tM h && (w.Is (g5 h).toNat == 1) && (w.ia (g5 h).toNat == h / 256)
theorem de {n:Nat} (hn:40 ≤ n) {b:aY} {w:aC} (r:RB b w) {h:Int} (h0:0 ≤ h):bC n w h = some (if bk w h then g5 h else -1):=by
  unfold bC
  refine fR (fun x=>0 ≤ x∧x ≤ 32∧(bk w h = true→x ≤ g5 h)) (fun x=>(32 - x).toNat) (fun o=>o = some (if bk w h then g5 h else -1)) ?_ n 0 ⟨by omega,by omega,fun _=>(dJ h).1⟩ (by omega)
  rintro k x ⟨x0,x1,hx⟩ ih
  obtain ⟨s0,s1⟩:=dJ h
  by_cases hc:x < 32
  · rw [aK (by simpa using hc),aD (cD x0 (by omega))]
    have hg:=r.iK x.toNat (by omega)
    rw [c9 (m9 x0 hc hg.1 hg.2)]
    by_cases he:(w.Is x.toNat == 1 && gR x (w.ia x.toNat) == h) = true
    · have he':=he
      simp only [Bool.and_eq_true,beq_iff_eq] at he'
      obtain ⟨e1,e2⟩:=he'
      rw [aK (by simp [e1,e2])]
      obtain ⟨q1,q2,q3,q4,q5⟩:=lU x0 hc hg.1 hg.2
      rw [e2] at q1 q2 q3
      have:bk w h = true:=by simp [bk,q1,q2,q3,e1]
      simp [this,q2]
    · rw [ax (by
        cases h1:(w.Is x.toNat == 1) with
        | false=>simp
        | true=>simpa [h1] using he),bT (by omega) (by omega)]
      refine ih _ ⟨by omega,by omega,fun Cy=>?_⟩ (by omega)
      have h2:=hx Cy
      have:x ≠ g5 h:=by
        rintro rfl
        refine he ?_
        simp only [bk,Bool.and_eq_true,beq_iff_eq] at Cy
        simp [Cy.1.2,Cy.2,oV h0 Cy.1.1]
      omega
  · rw [ax (by simpa using hc)]
    have:bk w h = false:=by
      cases Ow:bk w h with
      | false=>rfl
      | true=>have:=hx Ow; omega
    simp [this]
def jJ (w:aC) (h:Int):aC:=
  if w.ia (g5 h).toNat = 8388607 then { w with Is:=er w.Is (g5 h).toNat 2 } else { ia:=er w.ia (g5 h).toNat (w.ia (g5 h).toNat + 1),Is:=er w.Is (g5 h).toNat 0 }
theorem sG {α:Type} (G:Nat→α) (i:Nat) (a b:α):er (er G i a) i b = er G i b:=by
  funext q; unfold er; split <;> rfl
theorem vt {n:Nat} (hn:40 ≤ n) {b:aY} {w:aC} (r:RB b w) {h:Int} (h0:0 ≤ h):fk n w h = some (if bk w h then jJ w h else w,bk w h):=by
  unfold fk
  obtain ⟨s0,s1⟩:=dJ h
  rw [av (de hn r h0)]
  cases hg:bk w h with
  | false=>rfl
  | true =>
    have hr:=r.iK (g5 h).toNat (by omega)
    simp only [if_true]
    rw [ax (by simpa using s0),aD (cD s0 (by simpa using s1))]
    simp only [lt,aD (cD s0 (show g5 h < ((32:Nat):Int) by simpa using s1))]
    unfold jJ
    by_cases hl:w.ia (g5 h).toNat = 8388607
    · rw [aK (by simpa using hl)]; simp [hl,sG]
    · rw [ax (by simpa using hl),bT (by omega) (by omega)]; simp [hl]
theorem AQ {n:Nat} {b:aY} {w:aC} (r:RB b w) {h:Int} (h0:0 ≤ h) (h1:h < 4294967296) :
    ∃b',fT n b h = some (b',bk w h)∧RB b' (if bk w h then jJ w h else w):=by
  unfold fT
  obtain ⟨s0,s1⟩:=dJ h
  have hi:(g5 h).toNat < 32:=by omega
  rw [av (wJ r h0 h1)]
  show ∃b',cn (!bk w h) _ _ = _∧_
  cases hg:bk w h with
  | false=>exact ⟨b,rfl,r⟩
  | true =>
    rw [ax (b:=!true) rfl,av (kG h0 h1),aD (cD s0 (by simpa using s1))]
    simp only [lt]
    have K5:=r.gen _ hi
    have hr:=r.iK _ hi
    have K2:w.Is (g5 h).toNat = 1:=by simp only [bk,Bool.and_eq_true,beq_iff_eq] at hg; exact hg.1.2
    have Oi:(b.slots (g5 h).toNat).retired = false:=by rw [r.ret _ hi,K2]; rfl
    simp only [oK,K5,sG]
    unfold jJ
    by_cases hl:w.ia (g5 h).toNat = 8388607
    · rw [aK (by simpa using hl)]
      refine ⟨_,rfl,?_⟩
      simp only [if_true,hl]
      refine ⟨?_,?_,?_,?_,?_⟩ <;> intro i yf <;> by_cases e:i = (g5 h).toNat
      all_goals (try subst e)
      all_goals simp [cr, *,r.gen,r.Cr,r.ret,r.Cl,r.iK]
      all_goals (first | exact (r.Cl i yf) | exact r.iK i yf)
    · rw [ax (by simpa using hl),mA (by omega) (by omega)]
      refine ⟨_,rfl,?_⟩
      simp only [if_true,if_neg hl]
      refine ⟨?_,?_,?_,?_,?_⟩ <;> intro i yf <;> by_cases e:i = (g5 h).toNat
      all_goals (try subst e)
      all_goals simp [cr, *,r.gen,r.Cr,r.ret,r.Cl,r.iK]
      all_goals (first | exact (r.Cl i yf) | exact r.iK i yf | omega)
def oH (w:aC) (f:Nat):Prop:=f ≤ 32∧(∀j,j < f→w.Is j ≠ 0)∧(f < 32→w.Is f = 0)
theorem uD (w:aC):∃f,oH w f:=by
  have key:∀k,k ≤ 32→(∃f,oH w f)∨(∀j,j < k→w.Is j ≠ 0):=by
    intro k
    induction k with
    | zero=>intro _; exact .inr (fun j hj=>absurd hj (Nat.not_lt_zero _))
    | succ k ih =>
      intro hk
      rcases ih (by omega) with h | h
      · exact .inl h
      · by_cases e:w.Is k = 0
        · exact .inl ⟨k,by omega,h,fun _=>e⟩
        · refine .inr (fun j hj=>?_)
          by_cases e2:j = k
          · subst e2; exact e
          · exact h j (by omega)
  rcases key 32 (Nat.le_refl _) with h | h
  · exact h
  · exact ⟨32,Nat.le_refl _,h,fun h=>absurd h (Nat.lt_irrefl _)⟩
def iC (w:aC) (f:Nat):aC:={ w with Is:=er w.Is f 1 }
theorem pg {n:Nat} (hn:40 ≤ n) {b:aY} {w:aC} (r:RB b w) {f:Nat} (hf:oH w f) :
    eU n w = some (if f < 32 then (iC w f,gR f (w.ia f)) else (w,0)):=by
  unfold eU
  obtain ⟨f1,f2,f3⟩:=hf
  refine fR (fun x=>0 ≤ x∧x ≤ (f:Int)) (fun x=>(32 - x).toNat) (fun o=>o = some (if f < 32 then (iC w f,gR f (w.ia f)) else (w,0))) ?_ n 0 ⟨by omega,by omega⟩ (by omega)
  rintro k x ⟨x0,x1⟩ ih
  by_cases hc:x < 32
  · rw [aK (by simpa using hc),aD (cD x0 (by omega))]
    by_cases he:w.Is x.toNat = 0
    · have e:x = (f:Int):=by
        rcases Int.lt_or_lt_of_ne (a:=x) (b:=f) |> fun h=>(Decidable.em (x = f)) with h | h
        · exact h
        · exact absurd he (f2 x.toNat (by omega))
      subst e
      simp only [Int.toNat_natCast] at he ⊢
      rw [aK (by simpa using he),aD (cD x0 (by omega)),lt_eq,av (m9 (w:={ w with Is:=er w.Is f 1 }) x0 hc (r.iK f (by omega)).1 (r.iK f (by omega)).2),if_pos (by omega)]
      rfl
    · rw [ax (by simpa using he),bT (by omega) (by omega)]
      refine ih _ ⟨by omega,?_⟩ (by omega)
      rcases Decidable.em (x = f) with h | h
      · subst h; exact absurd (f3 (by omega)) (by simpa using he)
      · omega
  · rw [ax (by simpa using hc),if_neg (by omega)]
theorem ur {n:Nat} (hn:40 ≤ n) {b:aY} {w:aC} (r:RB b w) {f:Nat} (hf:oH w f) :
    ∃b',eC n b = some (b',if f < 32 then gR f (w.ia f) else 0,decide (f < 32))∧RB b' (if f < 32 then iC w f else w):=by
  unfold eC
  obtain ⟨f1,f2,f3⟩:=hf
  refine fR (fun x=>0 ≤ x∧x ≤ (f:Int)) (fun x=>(32 - x).toNat) (fun o=>∃b',o = some (b',if f < 32 then gR f (w.ia f) else 0,decide (f < 32))∧RB b' (if f < 32 then iC w f else w)) ?_ n 0 ⟨by omega,by omega⟩ (by omega)
  rintro k x ⟨x0,x1⟩ ih
  by_cases hc:x < 32
  · have hi:x.toNat < 32:=by omega
    rw [aK (by simpa using hc),aD (cD x0 (by omega)),lt_eq]
    by_cases he:w.Is x.toNat = 0
    · have e:x = (f:Int):=by
        rcases Decidable.em (x = f) with h | h
        · exact h
        · exact absurd he (f2 x.toNat (by omega))
      subst e
      simp only [Int.toNat_natCast] at he hi ⊢
      rw [ax (by simp [r.Cr f hi,r.ret f hi,he]),aD (cD x0 (by omega)),lt_eq,av (oc x0 hc (by rw [r.gen f hi]; exact (r.iK f hi).1) (by rw [r.gen f hi]; exact (r.iK f hi).2)),if_pos hi,if_pos hi]
      refine ⟨_,by rw [r.gen f hi,decide_eq_true hi],?_⟩
      refine ⟨?_,?_,?_,?_,?_⟩ <;> intro i yf <;> by_cases e:i = f
      all_goals (try subst e)
      all_goals simp [iC,cr, *,r.gen,r.Cr,r.ret,r.Cl,r.iK]
      all_goals (first | exact (r.Cl i yf) | exact r.iK i yf | (rw [r.ret _ yf,he]; rfl))
    · rw [aK (by
        rcases r.Cl _ hi with h | h | h
        · exact absurd h he
        · simp [r.Cr _ hi,h]
        · simp [r.ret _ hi,h]),bT (by omega) (by omega)]
      refine ih _ ⟨by omega,?_⟩ (by omega)
      rcases Decidable.em (x = f) with h | h
      · subst h; exact absurd (f3 (by omega)) (by simpa using he)
      · omega
  · rw [ax (by simpa using hc),if_neg (by omega),if_neg (by omega)]
    exact ⟨b,by rw [decide_eq_false (by omega)],r⟩
theorem Io {n:Nat} {b:aY} {w:aC} (r:RB b w) {i:Int} (h0:0 ≤ i) (h1:i < 32):gT n b i = some (if w.Is i.toNat = 1 then gR i (w.ia i.toNat) else 0,w.Is i.toNat == 1):=by
  have hi:i.toNat < 32:=by omega
  unfold gT
  rw [aD (by rw [cD h0 (by omega)]; simp)]
  by_cases e:w.Is i.toNat = 1
  · rw [ax (by simp [r.Cr _ hi,e]; omega),aD (cD h0 (by omega)),av (oc h0 h1 (by rw [r.gen _ hi]; exact (r.iK _ hi).1) (by rw [r.gen _ hi]; exact (r.iK _ hi).2)),r.gen _ hi]
    simp [e]
  · rw [aK (by simp [r.Cr _ hi,e])]
    simp [e]
def cz (w:aC):Nat→List Int
  | 0=>[]
  | k + 1=>cz w k++(if w.Is k = 1 then [gR k (w.ia k)] else [])
theorem fx (w:aC) (k:Nat):(cz w k).length ≤ k:=by
  induction k with
  | zero=>simp [cz]
  | succ k ih=>simp only [cz,List.length_append]; split <;> simp <;> omega
theorem xB {n:Nat} (hn:40 ≤ n) {b:aY} {w:aC} (r:RB b w):eY n b = some (cz w 32):=by
  unfold eY
  refine eV (fun (l:List Int) (x:Int)=>∃k:Nat,x = k∧k ≤ 32∧l = cz w k) (fun _ (x:Int)=>(32 - x).toNat) (fun o=>o = some (cz w 32)) ?_ n [] 0 ⟨0,rfl,by omega,rfl⟩ (by omega)
  rintro kk l x ⟨k,rfl,hk,rfl⟩ ih
  by_cases hc:k < 32
  · rw [aK (by simp; omega),av (Io r (by omega) (by omega))]
    simp only [Int.toNat_natCast]
    by_cases e:w.Is k = 1
    · rw [aK (by simpa using e),aD (ko (by have:=fx w k; omega) (by have:=fx w k; omega)),lt_eq,bT (by omega) (by omega)]
      exact ih _ _ ⟨k + 1,by omega,by omega,by simp [cz,e]⟩ (by omega)
    · rw [ax (by simpa using e),bT (by omega) (by omega)]
      exact ih _ _ ⟨k + 1,by omega,by omega,by simp [cz,e]⟩ (by omega)
  · rw [ax (by simp; omega)]
    obtain rfl:k = 32:=by omega
    rfl
end Go.Proofs.Ytmdpbdhkmfjlhaa
namespace Go.Proofs.Ytmdpbdhkmfjlhaa
open Go Go.Bw
def bz (w:aC) (h:Int):Prop:=0 ≤ h∧bk w h = true
theorem fU {w:aC} {h:Int}:bk w h = true↔tM h = true∧w.Is (g5 h).toNat = 1∧w.ia (g5 h).toNat = h / 256:=by
  unfold bk
  rw [Bool.and_eq_true,Bool.and_eq_true,beq_iff_eq,beq_iff_eq,and_assoc]
theorem yG {h:Int} (hb:tM h = true):h < 4294967296:=by
  unfold tM at hb
  simp only [decide_eq_true_eq] at hb; omega
theorem mL {b:aY} {w:aC} (r:RB b w):∀(k:Nat),k ≤ 32→∀x,x ∈ cz w k↔bz w x∧g5 x < k
  | 0,_,x=>⟨fun h=>(by cases h),fun h=>absurd h.2 (by have:=(dJ x).1; omega)⟩
  | k + 1,hk,x=>by
    have ih:=mL r k (by omega) x
    have hr:=r.iK k (by omega)
    obtain ⟨q1,q2,q3,q4,q5⟩:=lU (i:=k) (g:=w.ia k) (by omega) (by omega) hr.1 hr.2
    have hx:=dJ x
    rw [cz,List.mem_append,ih]
    constructor
    · rintro (h | h)
      · exact ⟨h.1,by omega⟩
      · split at h
        · rename_i hi
          have e:=List.mem_singleton.1 h
          subst e
          exact ⟨⟨by omega,fU.2 ⟨q1,by rw [q2]; exact hi,by rw [q2,q3]; rfl⟩⟩,by omega⟩
        · cases h
    · rintro ⟨h1,h2⟩
      by_cases e:g5 x < k
      · exact .inl ⟨h1,e⟩
      · have e1:g5 x = k:=by omega
        obtain ⟨g1,g2,g3⟩:=fU.1 h1.2
        have e2:(g5 x).toNat = k:=by omega
        rw [e2] at g2 g3
        refine .inr ?_
        rw [if_pos g2,List.mem_singleton,g3,← e1,oV h1.1 g1]
theorem qo {b:aY} {w:aC} (r:RB b w):∀(k:Nat),k ≤ 32→(cz w k).Nodup
  | 0,_=>List.nodup_nil
  | k + 1,hk=>by
    rw [cz,List.nodup_append]
    refine ⟨qo r k (by omega),by split <;> simp,fun a ha c hc e=>?_⟩
    split at hc
    · have e1:=List.mem_singleton.1 hc
      have hr:=r.iK k (by omega)
      obtain ⟨q1,q2,q3,q4,q5⟩:=lU (i:=k) (g:=w.ia k) (by omega) (by omega) hr.1 hr.2
      have:=((mL r k (by omega) a).1 ha).2
      rw [e,e1,q2] at this
      omega
    · cases hc
theorem bV {b:aY} {w:aC} (r:RB b w) (x:Int):x ∈ cz w 32↔bz w x:=by
  rw [mL r 32 (Nat.le_refl _)]
  have:=dJ x
  exact ⟨fun h=>h.1,fun h=>⟨h,by omega⟩⟩
def po (w:aC) (h:Int):Prop:=0 ≤ h∧tM h = true∧(h / 256 < w.ia (g5 h).toNat∨(h / 256 = w.ia (g5 h).toNat∧w.Is (g5 h).toNat ≠ 0))
theorem je {b:aY} {w:aC} (r:RB b w) {f:Nat} (hf:oH w f) (hl:f < 32) (x:Int):bz (iC w f) x↔bz w x∨x = gR f (w.ia f):=by
  have hr:=r.iK f hl
  obtain ⟨q1,q2,q3,q4,q5⟩:=lU (i:=f) (g:=w.ia f) (by omega) (by omega) hr.1 hr.2
  have hx:=dJ x
  unfold bz
  rw [fU,fU]
  show 0 ≤ x∧tM x = true∧er w.Is f 1 (g5 x).toNat = 1∧w.ia (g5 x).toNat = x / 256↔_
  rw [cr]
  by_cases e:(g5 x).toNat = f
  · rw [if_pos e,e]
    constructor
    · rintro ⟨h1,h2,_,h4⟩
      refine .inr ?_
      have:=oV h1 h2
      rw [← this,h4]
      congr 1; omega
    · rintro (⟨h1,h2,h3,h4⟩ | h)
      · exact absurd (hf.2.2 hl) (by omega)
      · subst h; exact ⟨by omega,q1,rfl,by rw [q3]⟩
  · rw [if_neg e]
    refine ⟨fun h=>.inl h,fun h=>h.elim _root_.id fun h=>?_⟩
    subst h
    exact absurd (by rw [q2]; rfl) e
theorem qc {w:aC} {f:Nat} (x:Int) (h:po w x):po (iC w f) x:=by
  obtain ⟨h1,h2,h3⟩:=h
  refine ⟨h1,h2,?_⟩
  show x / 256 < w.ia (g5 x).toNat∨(x / 256 = w.ia (g5 x).toNat∧er w.Is f 1 (g5 x).toNat ≠ 0)
  rw [cr]
  split
  · exact h3.imp _root_.id fun h=>⟨h.1,by omega⟩
  · exact h3
theorem yT {b:aY} {w:aC} (r:RB b w) {f:Nat} (hf:oH w f) (hl:f < 32):¬ po w (gR f (w.ia f)):=by
  have hr:=r.iK f hl
  obtain ⟨q1,q2,q3,q4,q5⟩:=lU (i:=f) (g:=w.ia f) (by omega) (by omega) hr.1 hr.2
  rintro ⟨_,_,h⟩
  rw [q2,q3] at h
  have:=hf.2.2 hl
  rcases h with h | h
  · exact absurd h (by simp)
  · exact h.2 this
theorem xL {b:aY} {w:aC} (r:RB b w) {h:Int} (h0:0 ≤ h) (x:Int):bz (if bk w h then jJ w h else w) x↔bz w x∧x ≠ h:=by
  cases hg:bk w h with
  | false =>
    refine ⟨fun hx=>⟨hx,fun e=>?_⟩,fun hx=>hx.1⟩
    subst e
    have h2:bk w x = true:=hx.2
    rw [h2] at hg; cases hg
  | true =>
    rw [if_pos rfl]
    obtain ⟨g1,g2,g3⟩:=fU.1 hg
    have hr:=r.iK (g5 h).toNat (by have:=dJ h; omega)
    have hx:=dJ x
    have hh:=dJ h
    have key:∀w',jJ w h = w'→(∀j,j ≠ (g5 h).toNat→w'.Is j = w.Is j∧w'.ia j = w.ia j)→w'.Is (g5 h).toNat ≠ 1→(bz w' x↔bz w x∧x ≠ h):=by
      intro w' _ k1 k2
      unfold bz
      rw [fU,fU]
      by_cases e:(g5 x).toNat = (g5 h).toNat
      · constructor
        · rintro ⟨_,_,h3,_⟩; rw [e] at h3; exact absurd h3 k2
        · rintro ⟨⟨h1,h2,h3,h4⟩,h5⟩
          refine absurd ?_ h5
          rw [← oV h1 h2,← oV h0 g1,← h4,← g3,e]
          congr 1; omega
      · rw [(k1 _ e).1,(k1 _ e).2]
        exact ⟨fun hx=>⟨hx,fun e2=>e (by rw [e2])⟩,fun hx=>hx.1⟩
    refine key _ rfl (fun j hj=>?_) ?_
    · unfold jJ
      split
      · exact ⟨iM _ _ hj,rfl⟩
      · exact ⟨iM _ _ hj,iM _ _ hj⟩
    · unfold jJ
      split
      · show er w.Is _ 2 _ ≠ 1; rw [oK]; decide
      · show er w.Is _ 0 _ ≠ 1; rw [oK]; decide
theorem xw {w:aC} {h:Int} (x:Int) (hp:po w x):po (if bk w h then jJ w h else w) x:=by
  cases hg:bk w h with
  | false=>exact hp
  | true =>
    rw [if_pos rfl]
    obtain ⟨h1,h2,h3⟩:=hp
    refine ⟨h1,h2,?_⟩
    unfold jJ
    split
    · show x / 256 < w.ia (g5 x).toNat∨(x / 256 = w.ia (g5 x).toNat∧er w.Is (g5 h).toNat 2 (g5 x).toNat ≠ 0)
      rw [cr]
      split
      · exact h3.imp _root_.id fun h=>⟨h.1,by decide⟩
      · exact h3
    · show x / 256 < er w.ia (g5 h).toNat _ (g5 x).toNat∨(x / 256 = er w.ia (g5 h).toNat _ (g5 x).toNat∧er w.Is (g5 h).toNat 0 (g5 x).toNat ≠ 0)
      rw [cr,cr]
      split
      · rename_i e
        rw [e] at h3
        left; omega
      · exact h3
end Go.Proofs.Ytmdpbdhkmfjlhaa
namespace Go.Bw
open Go
theorem sH:∀(t u:List Int),t.Nodup→(∀x ∈ t,x ∈ u)→t.length ≤ u.length
  | [],u,_,_=>Nat.zero_le _
  | x::t,u,hn,hs=>by
    rw [List.nodup_cons] at hn
    have hx:=hs x (by simp)
    have:=sH t (u.erase x) hn.2 fun y hy=>(List.mem_erase_of_ne (fun e=>hn.1 (by rw [← e]; exact hy))).2 (hs y (by simp [hy]))
    rw [List.length_erase_of_mem hx] at this
    have h0:0 < u.length:=List.length_pos_of_mem hx
    rw [List.length_cons]; omega
theorem yJ {t u:List Int} (ht:t.Nodup) (hu:u.Nodup) (h:∀x,x ∈ t↔x ∈ u):t.length = u.length:=
  Nat.le_antisymm (sH t u ht fun x hx=>(h x).1 hx) (sH u t hu fun x hx=>(h x).2 hx)
section
variable {β:Type}
theorem rW (l:List (Int × β)) (k:Int) (v:β):(ri l k v).map Prod.fst = if k ∈ l.map Prod.fst then l.map Prod.fst else l.map Prod.fst++[k]:=by
  induction l with
  | nil=>simp [ri]
  | cons p r ih =>
    unfold ri
    by_cases h:k = p.1
    · subst h; simp
    · have:(k == p.1) = false:=by simpa using h
      rw [this,cond_false,List.map_cons,ih]
      by_cases h2:k ∈ r.map Prod.fst
      · rw [if_pos h2,if_pos (by simp [h2])]; rfl
      · rw [if_neg h2,if_neg (by rw [List.map_cons,List.mem_cons]; exact fun hh=>hh.elim h h2)]; rfl
theorem A5 {l:List (Int × β)} {k:Int} {z:β} (h:k ∉ l.map Prod.fst):y4 l k z = z:=by
  have:nv l k = none:=by
    induction l with
    | nil=>rfl
    | cons p r ih =>
      rw [List.map_cons,List.mem_cons,not_or] at h
      unfold nv
      have e:(k == p.1) = false:=by simpa using h.1
      rw [e,cond_false,ih h.2]; rfl
  unfold y4; rw [this]; rfl
theorem yZ {l:List (Int × β)} {k:Int} {z:β} (h:k ∈ l.map Prod.fst):(k,y4 l k z) ∈ l:=by
  unfold y4
  cases hm:nv l k with
  | some q =>
    have:=rX (j:=q.1) (y:=q.2) hm
    exact List.mem_of_getElem? this
  | none =>
    exfalso
    induction l with
    | nil=>simp at h
    | cons p r ih =>
      unfold nv at hm
      by_cases e:k = p.1
      · have:(k == p.1) = true:=by simpa using e
        rw [this] at hm; simp at hm
      · have e2:(k == p.1) = false:=by simpa using e
        rw [e2] at hm
        simp only [cond_false,Option.map_eq_none_iff] at hm
        rw [List.map_cons,List.mem_cons] at h
        exact ih (h.elim (fun hh=>absurd hh e) _root_.id) hm
theorem um {l:List (Int × β)} (k:Int) (v:β) (h:(l.map Prod.fst).Nodup):((ri l k v).map Prod.fst).Nodup:=by
  rw [rW]
  split
  · exact h
  · rename_i hk
    rw [List.nodup_append]
    refine ⟨h,by simp,fun a ha b hb e=>hk ?_⟩
    have:b = k:=by simpa using hb
    rw [← this,← e]; exact ha
theorem sM {l:List (Int × β)} {k:Int} {v:β} {x:Int}:x ∈ (ri l k v).map Prod.fst↔x ∈ l.map Prod.fst∨x = k:=by
  rw [rW]
  split
  · rename_i h
    exact ⟨.inl,fun hh=>hh.elim _root_.id fun e=>e ▸ h⟩
  · simp
end
structure pN (l:List (Int × Bool)) (S:Int→Prop):Prop where
  nd:(l.map Prod.fst).Nodup
  tr:∀p ∈ l,p.2 = true
  mem:∀k,k ∈ l.map Prod.fst↔S k
theorem pN.nil:pN [] (fun _=>False):=⟨by simp,by simp,by simp⟩
theorem pN.get {l:List (Int × Bool)} {S:Int→Prop} (h:pN l S) (k:Int):y4 l k false = true↔S k:=by
  rw [← h.mem k]
  by_cases hk:k ∈ l.map Prod.fst
  · exact ⟨fun _=>hk,fun _=>h.tr _ (yZ hk)⟩
  · rw [A5 hk]; exact ⟨fun hh=>(by cases hh),fun hh=>absurd hh hk⟩
theorem C7 {l:List (Int × Bool)} {k:Int} (h:∀p ∈ l,p.2 = true):∀p ∈ ri l k true,p.2 = true:=by
  induction l with
  | nil=>intro p hp; rw [ri,List.mem_singleton] at hp; rw [hp]
  | cons q r ih =>
    intro p hp
    unfold ri at hp
    cases e:k == q.1 with
    | true =>
      rw [e,cond_true,List.mem_cons] at hp
      rcases hp with rfl | hp
      · rfl
      · exact h p (by simp [hp])
    | false =>
      rw [e,cond_false,List.mem_cons] at hp
      rcases hp with rfl | hp
      · exact h p (by simp)
      · exact ih (fun z hz=>h z (by simp [hz])) p hp
theorem pN.set {l:List (Int × Bool)} {S T:Int→Prop} (h:pN l S) {k:Int} (hT:∀x,T x↔S x∨x = k):pN (ri l k true) T:=
  ⟨um k true h.nd,C7 h.tr,fun x=>by rw [sM,h.mem,hT]⟩
theorem pN.congr {l:List (Int × Bool)} {S T:Int→Prop} (h:pN l S) (hT:∀x,T x↔S x):pN l T:=⟨h.nd,h.tr,fun x=>by rw [h.mem,hT]⟩
theorem pN.len {l:List (Int × Bool)} {S:Int→Prop} (h:pN l S) {t:List Int} (ht:t.Nodup) (hm:∀x,x ∈ t↔S x):l.length = t.length:=by
  rw [← yJ h.nd ht fun x=>by rw [h.mem,hm],List.length_map]
end Go.Bw
namespace Go.Proofs.Ytmdpbdhkmfjlhaa
open Go Go.Bw
def bN (h:Int):Nat:=(g5 h).toNat
theorem jW (h:Int):bN h < 32:=by have:=dJ h; unfold bN; omega
theorem AU (h:Int):(bN h:Int) = g5 h:=by have:=dJ h; unfold bN; omega
theorem oX {w:aC} {h:Int} (hg:bk w h = true):tM h = true∧w.Is (bN h) = 1∧w.ia (bN h) = h / 256:=fU.1 hg
theorem j8 {n:Nat} {b:aY} {w:aC} (r:RB b w) {h:Int} (h0:0 ≤ h) (h1:h < 4294967296):aS n b h = some (bk w h):=wJ r h0 h1
end Go.Proofs.Ytmdpbdhkmfjlhaa
namespace Go.Proofs.Ytmdpbdhkmfjlhaa
open Go Go.Bw
theorem eM {w:aC} {x:Int} (h:bz w x):gR (bN x) (w.ia (bN x)) = x:=by
  obtain ⟨g1,g2,g3⟩:=oX h.2
  rw [g3,AU,oV h.1 g1]
end Go.Proofs.Ytmdpbdhkmfjlhaa
namespace Go.Proofs.Ytmdpbdhkmfjlhaa
open Go Go.Bw
def yd (w:aC) (h:Int):aC:=if bk w h = true then jJ w h else w
theorem tQ {w:aC} {h:Int} {i:Nat} (hi:i ≠ bN h):(jJ w h).Is i = w.Is i∧(jJ w h).ia i = w.ia i:=by
  unfold jJ
  split
  · exact ⟨iM _ _ hi,rfl⟩
  · exact ⟨iM _ _ hi,iM _ _ hi⟩
theorem p4 (w:aC) (h:Int):(jJ w h).Is (bN h) ≠ 1:=by
  unfold jJ
  split
  · show er w.Is (bN h) 2 (bN h) ≠ 1; rw [oK]; decide
  · show er w.Is (bN h) 0 (bN h) ≠ 1; rw [oK]; decide
theorem AR {w:aC} {h:Int} {i:Nat} (hi:(yd w h).Is i = 1):w.Is i = 1∧(yd w h).ia i = w.ia i:=by
  unfold yd at *
  cases hg:bk w h with
  | false=>rw [hg] at hi; exact ⟨hi,by simp⟩
  | true =>
    rw [hg,if_pos rfl] at hi
    rw [if_pos rfl]
    by_cases e:i = bN h
    · subst e; exact absurd hi (p4 w h)
    · have:=tQ (w:=w) (h:=h) e
      exact ⟨by rw [← this.1]; exact hi,this.2⟩
theorem uc {n:Nat} (hn:40 ≤ n) {b:aY} {w:aC} (r:RB b w) {h:Int} (h0:0 ≤ h):fk n w h = some (yd w h,bk w h):=vt hn r h0
def qF (p:Nat→Bool):Nat→Nat
  | 0=>0
  | k + 1=>qF p k + (if p k = true then 1 else 0)
theorem s6 (p:Nat→Bool):∀k,qF p k ≤ k
  | 0=>Nat.le_refl _
  | k + 1=>by have:=s6 p k; simp only [qF]; split <;> omega
theorem r9 {p q:Nat→Bool} (h:∀i,p i = true→q i = true):∀k,qF p k ≤ qF q k
  | 0=>Nat.le_refl _
  | k + 1=>by
    have:=r9 h k
    simp only [qF]
    by_cases e:p k = true
    · rw [if_pos e,if_pos (h k e)]; omega
    · rw [if_neg e]; omega
theorem oo {p q:Nat→Bool} (h:∀i,p i = true→q i = true) {c:Nat} (hp:p c = false) (hq:q c = true):∀k,c < k→qF p k < qF q k
  | 0,hc=>absurd hc (Nat.not_lt_zero _)
  | k + 1,hc=>by
    simp only [qF]
    by_cases e:c = k
    · subst e
      have:=r9 h c
      rw [hp,hq]; simp; omega
    · have:=oo h hp hq k (by omega)
      by_cases e2:p k = true
      · rw [if_pos e2,if_pos (h k e2)]; omega
      · rw [if_neg e2]; omega
end Go.Proofs.Ytmdpbdhkmfjlhaa
namespace Go.Proofs.Ytmdpbdhkmfjlhaa
open Go Go.Bw
end Go.Proofs.Ytmdpbdhkmfjlhaa
namespace Go.Proofs.Ytmdpbdhkmfjlhaa
open Go Go.Bw
def AT (ρ:Nat→Nat):Nat→Nat
  | 0=>0
  | k + 1=>AT ρ k + ρ k
theorem wq (ρ:Nat→Nat) {j:Nat}:∀k,j < k→ρ j ≤ AT ρ k
  | 0,h=>absurd h (Nat.not_lt_zero _)
  | k + 1,h=>by
    simp only [AT]
    by_cases e:j = k
    · subst e; omega
    · have:=wq ρ (j:=j) k (by omega); omega
theorem r7 {w:aC} {x:Int} (h:bz w x):po w x:=by
  obtain ⟨g1,g2,g3⟩:=oX h.2
  exact ⟨h.1,g1, .inr ⟨g3.symm,by show w.Is (bN x) ≠ 0; omega⟩⟩
end Go.Proofs.Ytmdpbdhkmfjlhaa
namespace Go.Proofs.Ytmdpbdhkmfjlhaa
open Go Go.Bw
section
end
end Go.Proofs.Ytmdpbdhkmfjlhaa
namespace Go.Bw
open Go Go.RowKit
structure CP (P:Program) (gf:Nat) (caps:List Value) (Hc Ho:List aO) (K:World→Prop) (encs:Nat→List Value) (n:Nat):Prop where
  fn:∀(l:Nat) (J:Nat→List Nat→World→Prop) (Jx:List Nat→World→Prop) (bs:List Nat),
    Fn (α:=Bool × List Nat) P gf (.func (.yield l) #[] #[]::caps) (fun w=>Av (bs++bE Hc) K w∧CJ P l (bs++bE Hc) w J Jx encs n) (.ext bs (J 0 bs)::Hc)
      (fun _=>True) (fun _=>.tuple #[]) (fun x=>.ext x.2 (bif x.1 then J n x.2 else Jx x.2)::Ho)
theorem o6 {P:Program} {N:Nat} {c:Cx} {D:List Deferred} {Q:Exit→Act→World→Prop} {F:cY} {H:List aO} {g:Operand} {ps:List Nat} {assign body:Code}
    {gf n:Nat} {caps:Array Value} {Hc Ho:List aO} {K:World→Prop} {encs:Nat→List Value} {α β:Type}
    (hro:c.ro = none) (hg:ev F g = some (.func (.func gf) #[] caps)) (hit:CP P gf caps.toList Hc Ho K encs n) (hlen:∀k,(encs k).length = ps.length) (hps:ps.all (Nat.blt · N) = true)
    [Lp:w6 c [] K]
    (p:Nat→α→Prop) (I:Nat→α→List aO) (px:Code→β→Prop) (X:β→List aO) (i0:α) (Bv:p 0 i0) {ks:List Nat} (hk:pick H ks = some (Hc++I 0 i0)) (hn:ks.Nodup)
    (hbody:∀(k:Nat) (i:α) (l dd:Nat) (rec:Loop) (c' : Cx),k < n→p k i→rec.state = .ready→rec.pending = none→c'.ro = some l→(∀w,bj c'.bs c'.w0 w→bj c.bs c.w0 w) →
      (∀b,(b ∈ c'.bs∨c'.w0.heap.size ≤ b)→(b ∈ c.bs∨c.w0.heap.size ≤ b)) →
      WP P N c' [] assign (we P l body (wc c' (JW c.w0.heap.size c.bs (p (k + 1)) (fun i=>.obj dd (.deferred (some []))::.obj l (.loop rec)::I (k + 1) i))
        (JW c.w0.heap.size c.bs (fun q:Code × β=>px q.1 q.2) (fun q=>.obj dd (.deferred (some []))::.obj l (.loop { rec with state:=.done,pending:=some q.1 })::X q.2))))
        (pH ps (encs k) F) (.obj dd (.deferred (some []))::.obj l (.loop rec)::I k i))
    (hdone:∀dd i,p n i→WQ N c (mark dd::D) Q .normal F (.obj dd (.deferred (some []))::(Ho++I n i)))
    (zB:∀dd j i,px j i→WP P N c (mark dd::D) j Q F (.obj dd (.deferred (some []))::(Ho++X i))) :
    WP P N c D (.rangeFunc g ps.toArray assign body) Q F H:=fun a w hst=>by
  refine wpIn_rangeFunc fun fn _=>?_
  have nK:(FA c.ro).round = none:=hro
  rw [nK]
  obtain ⟨rec,mg⟩ : ∃rec:Loop,rec = { state:=.ready,pending:=none,fn,tmps:=a.tmps,params:=ps.toArray,assign,body,defers:=w.heap.size }:=⟨_,rfl⟩
  obtain ⟨W1,zN⟩ : ∃W1,(w.alloc (.deferred (some []))).alloc (.loop rec) = W1:=⟨_,rfl⟩
  have DF:bj [] w W1:=by rw [← zN]; exact (bj.alloc w _).ext (bj.alloc _ _)
  have Ku:W1.heap.size = w.heap.size + 2:=by rw [← zN]; simp
  have Lo:W1.heap[w.heap.size + 1]? = some (.loop rec):=by
    rw [← zN]; have:=World.alloc_heap_new (w.alloc (.deferred (some []))) (.loop rec); rwa [World.size_alloc] at this
  have Lq:W1.heap[w.heap.size]? = some (.deferred (some [])):=by
    rw [← zN]; exact (Below.heap_alloc _ _ _ (by simp)).trans (World.alloc_heap_new w _)
  have K8:=bw hst.fr hg
  have hfr:=hst.fr
  let J:Nat→List Nat→World→Prop:=fun k=>JW c.w0.heap.size c.bs (p k) (fun i=>.obj w.heap.size (.deferred (some []))::.obj (w.heap.size + 1) (.loop rec)::I k i)
  let Jx:List Nat→World→Prop:=JW c.w0.heap.size c.bs (fun q:Code × β=>px q.1 q.2) (fun q=>.obj w.heap.size (.deferred (some []))::.obj (w.heap.size + 1) (.loop { rec with state:=.done,pending:=some q.1 })::X q.2)
  have zu:=(hst.hp.ext DF).pick hk hn
  have Eg:bW c.bs c.w0.heap.size (.obj w.heap.size (.deferred (some []))::.obj (w.heap.size + 1) (.loop rec)::(Hc++I 0 i0)) W1:=by
    have hlt:∀s ∈ Hc++I 0 i0,∀b ∈ s.gM,b < w.heap.size:=fun s hs b hb=>by
      have hm:s ∈ H:=by
        obtain ⟨jj,hj⟩:=List.mem_iff_getElem?.1 hs
        obtain ⟨kk,_,hh⟩:=lg hk jj s hj
        exact List.mem_of_getElem? hh
      exact (hst.hp.own s hm b hb).2
    have Kt:=hst.si.size
    refine bW.cons (bW.cons zu Lo ?_ ?_) Lq ?_ ?_
    · intro b hb; have e:b = w.heap.size + 1:=by simpa [aO.gM] using hb
      subst e; exact ⟨.inr (by omega),by omega⟩
    · intro s hs b hb cZ
      have e:b = w.heap.size + 1:=by simpa [aO.gM] using hb
      have:=hlt s hs b cZ; omega
    · intro b hb; have e:b = w.heap.size:=by simpa [aO.gM] using hb
      subst e; exact ⟨.inr (by omega),by omega⟩
    · intro s hs b hb cZ
      have e:b = w.heap.size:=by simpa [aO.gM] using hb
      rcases List.mem_cons.1 hs with rfl | hs
      · have e2:b = w.heap.size + 1:=by simpa [aO.gM] using cZ
        omega
      · have:=hlt s hs b cZ; omega
  let I0:List aO:=.obj w.heap.size (.deferred (some []))::.obj (w.heap.size + 1) (.loop rec)::I 0 i0
  have Ef:bW c.bs c.w0.heap.size I0 W1:=Eg.sub (by
    refine List.Sublist.cons_cons _ (List.Sublist.cons_cons _ (List.sublist_append_right _ _)))
  have yj:bW c.bs c.w0.heap.size Hc W1:=Eg.sub (by
    refine List.Sublist.cons _ (List.Sublist.cons _ (List.sublist_append_left _ _)))
  have hap:∀r ∈ I0,∀s ∈ Hc,r.apart s:=by
    intro r hr s hs
    have zq:=Eg.apart
    rw [List.pairwise_cons,List.pairwise_cons,List.pairwise_append] at zq
    obtain ⟨q1,q2,_,_,q3⟩:=zq
    rcases List.mem_cons.1 hr with rfl | hr
    · exact q1 s (by simp [hs])
    · rcases List.mem_cons.1 hr with rfl | hr
      · exact q2 s (by simp [hs])
      · exact aO.ji (q3 s hs r hr)
  have hfn:=hit.fn (w.heap.size + 1) J Jx (bE I0)
  have vL:bE (aO.ext (bE I0) (J 0 (bE I0))::Hc) = bE I0++bE Hc:=by simp [bE,aO.gM]
  refine ⟨w.heap.size + 1,[mark w.heap.size],W1,{ target:=.fn (.func gf) caps,args:=#[.func (.yield (w.heap.size + 1)) #[] #[]] },W1,gf,
    (Value.func (.yield (w.heap.size + 1)) #[] #[]::caps.toList).toArray,W1,?_,?_,fun _ _=>trivial,?_,fun h=>by simp at h,?_⟩
  · rw [← zN,mg]; exact run_enterLoop_outer _ _ _ _ _
  · simp only [resolve,K8]
    simp [go_sem]
  · have:=hfn.enter (#[.func (.yield (w.heap.size + 1)) #[] #[]]++caps) W1
    simp only [invoke]
    rw [this]
    congr 2
    simp
  · have hin:bW (bE I0++bE Hc) W1.heap.size (aO.ext (bE I0) (J 0 (bE I0))::Hc) W1:=by
      refine ⟨?_,?_,?_⟩
      · intro r hr
        rcases List.mem_cons.1 hr with rfl | hr
        · exact tI (I:=fun i=>.obj w.heap.size (.deferred (some []))::.obj (w.heap.size + 1) (.loop rec)::I 0 i) i0 Bv Ef
        · exact yj.holds r hr
      · intro r hr b hb
        rcases List.mem_cons.1 hr with rfl | hr
        · obtain ⟨s,hs,cZ⟩:=cR.1 hb
          exact ⟨.inl (List.mem_append_left _ hb),(Ef.own s hs b cZ).2⟩
        · exact ⟨.inl (List.mem_append_right _ (cR.2 ⟨r,hr,hb⟩)),(yj.own r hr b hb).2⟩
      · refine List.pairwise_cons.2 ⟨fun s hs b hb cZ=>?_,yj.apart⟩
        obtain ⟨r,hr,sW⟩:=cR.1 hb
        exact hap r hr s hs b sW cZ
    have pA:∀b ∈ bE I0++bE Hc,b ∈ c.bs∨c.w0.heap.size ≤ b:=fun b hb=>by
      rcases List.mem_append.1 hb with h | h
      · obtain ⟨r,hr,sW⟩:=cR.1 h; exact (Ef.own r hr b sW).1
      · obtain ⟨r,hr,sW⟩:=cR.1 h; exact (yj.own r hr b sW).1
    have ux:bj c.bs c.w0 W1:=hst.si.ext DF
    have vK:=hfn.calls W1 ⟨fun w' DB=>Lp.ok w' (ux.trans DB pA) (fun r hr=>by cases hr),?_⟩ (by rw [vL]; exact hin)
    · refine j9 c.ro ?_
      intro cs
      obtain ⟨e,w2,fr,⟨x,_,he,xH,zE⟩,vC,pz⟩:=vK cs
      refine ⟨e,w2,fr,?_,vC,pz⟩
      subst he
      rw [vL] at xH zE
      obtain ⟨go,bs'⟩:=x
      have zm:bj c.bs c.w0 w2:=ux.trans xH pA
      have hex:=zE.holds _ (List.mem_cons_self)
      have Ee:∀r ∈ Ho,r.holds w2:=fun r hr=>zE.holds r (List.mem_cons_of_mem _ hr)
      have Ed:∀s ∈ Ho,∀b ∈ bs',b ∉ s.gM:=fun s hs b hb=>by
        have:=zE.apart
        rw [List.pairwise_cons] at this
        exact this.1 s hs b hb
      have both:∀(IL:List aO) (jump:Option Code) (st:LoopState),st ≠ .busy→bs' = bE (.obj w.heap.size (.deferred (some []))::.obj (w.heap.size + 1) (.loop { rec with state:=st,pending:=jump })::IL) →
          bW c.bs c.w0.heap.size (.obj w.heap.size (.deferred (some []))::.obj (w.heap.size + 1) (.loop { rec with state:=st,pending:=jump })::IL) w2 →
          ∃w4,(Instr.endLoop (w.heap.size + 1)).run P w2 = .ok jump w4∧St N c (mark w.heap.size::D) F (.obj w.heap.size (.deferred (some []))::(Ho++IL)) { a with defers:=mark w.heap.size::a.defers } w4:=by
        intro IL jump st zl cZ hI
        have hl:w2.heap[w.heap.size + 1]? = some (.loop { rec with state:=st,pending:=jump }):=hI.holds (.obj (w.heap.size + 1) _) (by simp)
        have lC:bW c.bs c.w0.heap.size (.obj w.heap.size (.deferred (some []))::.obj (w.heap.size + 1) (.loop { rec with state:=st,pending:=jump })::(Ho++IL)) w2:=by
          have hq:=hI.apart
          rw [List.pairwise_cons,List.pairwise_cons] at hq
          refine ⟨?_,?_,?_⟩
          · intro r hr
            rcases List.mem_cons.1 hr with rfl | hr
            · exact hI.holds _ (by simp)
            · rcases List.mem_cons.1 hr with rfl | hr
              · exact hI.holds _ (by simp)
              · rcases List.mem_append.1 hr with h | h
                · exact Ee r h
                · exact hI.holds r (by simp [h])
          · intro r hr b hb
            rcases List.mem_cons.1 hr with rfl | hr
            · exact hI.own _ (by simp) b hb
            · rcases List.mem_cons.1 hr with rfl | hr
              · exact hI.own _ (by simp) b hb
              · rcases List.mem_append.1 hr with h | h
                · obtain ⟨o,lt⟩:=zE.own r (List.mem_cons_of_mem _ h) b hb
                  exact ⟨o.elim (pA b) (fun o=>.inr (Nat.le_trans ux.size o)),lt⟩
                · exact hI.own r (by simp [h]) b hb
          · have D7:∀r,r ∈ (aO.obj w.heap.size (.deferred (some []))::.obj (w.heap.size + 1) (.loop { rec with state:=st,pending:=jump })::IL)→∀s ∈ Ho,r.apart s:=fun r hr s hs b hb Ec =>
              Ed s hs b (by rw [cZ]; exact cR.2 ⟨r,hr,hb⟩) Ec
            refine List.pairwise_cons.2 ⟨fun s hs=>?_,List.pairwise_cons.2 ⟨fun s hs=>?_,List.pairwise_append.2 ⟨(List.pairwise_cons.1 zE.apart).2,hq.2.2,fun s hs r hr=>aO.ji (D7 r (by simp [hr]) s hs)⟩⟩⟩
            · rcases List.mem_cons.1 hs with rfl | hs
              · exact hq.1 _ (by simp)
              · rcases List.mem_append.1 hs with h | h
                · exact D7 _ (by simp) s h
                · exact hq.1 s (by simp [h])
            · rcases List.mem_append.1 hs with h | h
              · exact D7 _ (by simp) s h
              · exact hq.2.1 s h
        have zk:St N c (mark w.heap.size::D) F (.obj w.heap.size (.deferred (some []))::.obj (w.heap.size + 1) (.loop { rec with state:=st,pending:=jump })::(Ho++IL)) { a with defers:=mark w.heap.size::a.defers } w2:=
          ⟨hst.tm,hfr,by simp [hst.df],zm,lC⟩
        have Ky:pM (.obj w.heap.size (.deferred (some []))::.obj (w.heap.size + 1) (.loop { rec with state:=st,pending:=jump })::(Ho++IL)) (w.heap.size + 1) (.loop { rec with state:=.exhausted,pending:=jump }) (.obj w.heap.size (.deferred (some []))::.obj (w.heap.size + 1) (.loop { rec with state:=.exhausted,pending:=jump })::(Ho++IL)):=inferInstance
        have ho:o9 (.obj w.heap.size (.deferred (some []))::.obj (w.heap.size + 1) (.loop { rec with state:=st,pending:=jump })::(Ho++IL)) (w.heap.size + 1) (.loop { rec with state:=st,pending:=jump }):=inferInstance
        obtain ⟨h3,_⟩:=zk.yI ho Ky
        refine ⟨_,run_endLoop hl zl,⟨h3.tm,h3.fr,h3.df,h3.si,h3.hp.sub ?_⟩⟩
        exact List.Sublist.cons_cons _ (List.Sublist.cons _ (List.Sublist.refl _))
      cases go with
      | true =>
        obtain ⟨i,xJ,hI,cZ⟩:=ext_get hex
        have GJ:({ rec with state:=LoopState.ready,pending:=none }:Loop) = rec:=by rw [mg]
        obtain ⟨w4,h4,h5⟩:=both (I n i) none .ready (by simp) (by rw [GJ]; exact cZ) (by rw [GJ]; exact hI)
        exact ⟨none,w4,h4,hdone _ i xJ _ _ h5⟩
      | false =>
        obtain ⟨⟨j,i⟩,xJ,hI,cZ⟩:=ext_get hex
        obtain ⟨w4,h4,h5⟩:=both (X i) (some j) .done (by simp) cZ hI
        exact ⟨some j,w4,h4,zB _ j i xJ _ _ h5⟩
    ·
      intro k Fa W bs Kz Ll D0
      obtain ⟨i,xJ,hI,cZ⟩:=ext_get D0
      have hl:W.heap[w.heap.size + 1]? = some (.loop rec):=hI.holds (.obj (w.heap.size + 1) _) (by simp)
      have hy:=run_yield (P:=P) (args:=(encs k).toArray) hl (by rw [mg]; simpa using hlen k)
      refine ⟨_,_,_,_,hy,?_⟩
      have zn:bj c.bs c.w0 W:=ux.trans Kz pA
      have hsub:∀b,(b ∈ bE (aO.obj w.heap.size (.deferred (some []))::.obj (w.heap.size + 1) (.loop rec)::I k i)∨W.heap.size ≤ b)→(b ∈ c.bs∨c.w0.heap.size ≤ b):=fun b hb=>by
        rcases hb with hb | hb
        · obtain ⟨r,hr,sW⟩:=cR.1 hb; exact (hI.own r hr b sW).1
        · exact .inr (Nat.le_trans zn.size hb)
      have hb:=hbody k i (w.heap.size + 1) w.heap.size rec ⟨some (w.heap.size + 1),W,bs⟩ Fa xJ (by rw [mg]) (by rw [mg]) rfl (fun w' DB=>zn.trans DB fun b hb=>hsub b (.inl (by rw [← cZ]; exact hb))) (fun b hb=>hsub b (by rw [← cZ]; exact hb))
      have ht:=wC (ps:=ps) (vs:=encs k) hfr hst.tm hps
      have Ds:(rec.params.zip (encs k).toArray).foldl (fun tmps (t,a)=>tmps.setIfInBounds t a) rec.tmps = (ps.zip (encs k)).foldl (fun t q=>t.setIfInBounds q.1 q.2) a.tmps:=by
        rw [mg]; simp
      rw [Ds]
      have GK:rec.assign = assign∧rec.body = body:=by rw [mg]; exact ⟨rfl,rfl⟩
      rw [GK.1,GK.2]
      have HH:bW bs W.heap.size (.obj w.heap.size (.deferred (some []))::.obj (w.heap.size + 1) (.loop rec)::I k i) W:=
        ⟨hI.holds,fun r hr b hb=>⟨.inl (by rw [cZ]; exact cR.2 ⟨r,hr,hb⟩),(hI.own r hr b hb).2⟩,hI.apart⟩
      have nK:=roundIn_of_wpIn (F:=FA none) (n:=0) (P:=P) (l:=w.heap.size + 1) (f:=rec.fn) (R:=wc ⟨some (w.heap.size + 1),W,bs⟩ (J (k + 1)) Jx) trivial
        (hb { tmps:=(ps.zip (encs k)).foldl (fun t q=>t.setIfInBounds q.1 q.2) a.tmps,defers:=[] } W ⟨ht.2,ht.1,rfl,bj.refl _ _,HH⟩)
      refine nK.mono fun e W' hr=>?_
      rw [vL] at *
      exact hr
end Go.Bw
namespace Go.Bw
open Go Go.RowKit
section rules
variable {P:Program} {N:Nat} {c:Cx} {D:List Deferred} {Q:Exit→Act→World→Prop} {F:cY} {H:List aO} {d:Option Tmp} {ty:TypeId} {ps:String} {af:Array Edge} {g:Option (Nat × Bool)} {α β γ:Type}
theorem VS.yB {o:Oper} {v:Value} {H' : List aO} (h:VS P N c o F H v) (ht:∀w,bW c.bs c.w0.heap.size H w→bW c.bs c.w0.heap.size H' w):RX (α:=Unit) P N c o F H (fun _=>True) (fun _=>v) (fun _=>H'):=
  fun D a w next Q hst hk=>h D a w next Q hst fun w' hw=>hk () w' trivial (hst.si.ext hw) (ht _ (hst.hp.ext hw))
theorem Bu {bs:List Nat} {n0 b e sz:Nat} {w:World} {L:aN α} [aV L] {y:α} (hn:L.n = sz) (h:bW bs n0 (.cells b e (L.enc y)::H) w):bW bs n0 (Row (.slice (some ⟨b,0,none⟩) 1 1) e sz L [y]::H) w:=by
  have:=h.yB (k:=0) (r:=.cells b e (L.enc y)) (r':=Row (.slice (some ⟨b,0,none⟩) 1 1) e sz L [y]) rfl (fun w hw=>by
    have hb:w.heap[b]? = some (.cells (L.enc y).toArray e (0,0)):=hw
    have e1:eL L [y] = L.enc y:=rP L y
    refine ⟨by rw [e1,br,hn]; simp, .inr ⟨b,1,_,rfl,Nat.zero_le _,hb,Nat.le_refl _,by decide,by simp [br,hn],?_⟩⟩
    rw [e1]
    exact List.take_of_length_le (by rw [br,hn]; simp)) (fun x hx=>by simpa [aO.gM,Value.ownBlock] using hx)
  exact this
theorem wX {x:Operand} {t e sz:Nat} (L:aN α) [aV L] (y:α) {zs:List Value} {val:Value} [ht:pE P t e sz] [hz:bQ P e zs] (hx:ev F x = some val) (hc:val.cells.toList = L.enc y) (hl:L.n = sz) (IW:zs.length = sz) (h0:0 < sz) (hs:sz ≤ 16777216) :
    RX P N c ⟨d, .buildSlice t 1 #[(0,x)],ty,ps,af,g⟩ F H (fun _=>True) (fun b=>.slice (some ⟨b,0,none⟩) 1 1) (fun b=>Row (.slice (some ⟨b,0,none⟩) 1 1) e sz L [y]::H):=
  fun D a w next Q hst hk=>l5 L y hx hc hl IW h0 hs D a w next Q hst fun b w' hp hsi hh=>hk b w' hp hsi (Bu hl hh)
theorem xk {w:World} {v:Value} {e sz n m:Nat} {xs:List Value} (h:(aO.row v e sz n xs).holds w) (hm:m ≤ n):(aO.row (jg 0 m sz v) e sz m (xs.take (m * sz))).holds w:=by
  obtain ⟨h1,h2⟩:=h
  have hle:m * sz ≤ n * sz:=Nat.mul_le_mul_right _ hm
  refine ⟨by rw [List.length_take,h1,Nat.min_eq_left hle],?_⟩
  rcases h2 with ⟨rfl,rfl⟩ | ⟨gb,cap,cur,rfl,q1,q2,q3,q4,q5,q6⟩
  · obtain rfl:m = 0:=by omega
    exact .inl ⟨by simp [jg],rfl⟩
  · refine .inr ⟨gb,cap,cur,?_,q1,q2,by omega,q4,q5,?_⟩
    · simp [jg,Addr.add_lit]
    · rw [← q6,List.take_take,Nat.min_eq_left hle]
theorem wV {v:Value} {n m sz:Nat} (h:jI v n):jI (jg 0 m sz v) m:=by
  obtain ⟨a,cp,rfl⟩:=h; exact ⟨_,_,rfl⟩
theorem rN (L:aN α) [aV L] (xs:List α) {m sz:Nat} (hn:L.n = sz) (hm:m ≤ xs.length):(eL L xs).take (m * sz) = eL L (xs.take m):=by
  have:=tZ L xs 0 m (Nat.zero_le _) hm
  subst hn
  simpa using this
theorem DH {bs:List Nat} {n0 e sz m:Nat} {w:World} {v:Value} {L:aN α} [aV L] {xs:List α} {f:aO→List aO} [hr:mY H v e sz xs.length (eL L xs) f] (hn:L.n = sz) (hm:m ≤ xs.length) (h:bW bs n0 H w):bW bs n0 (f (Row (jg 0 m sz v) e sz L (xs.take m))) w:=by
  obtain ⟨k,k1,k2⟩:=hr.ok
  rw [k2]
  refine h.yB k1 (fun w hw=>?_) (fun b hb=>?_)
  · have:=xk (m:=m) hw hm
    rw [rN L xs hn hm] at this
    have e1:(xs.take m).length = m:=by rw [List.length_take]; omega
    unfold Row; rw [e1]; exact this
  · simpa [aO.gM,zT] using hb
theorem sy {x hi:Operand} {t e sz m:Nat} {k:IntKind} {i:Int} {v:Value} {L:aN α} [aV L] {xs:List α} {f:aO→List aO} [ht:pE P t e sz] (hs:jI v xs.length) (hn:L.n = sz) (hx:ev F x = some v) (hhi:ev F hi = some (.int k i)) (hi' : i = (m:Int)) (hm:m ≤ xs.length) [hr:mY H v e sz xs.length (eL L xs) f] [Kn c H (Hs [Row v e sz L xs])] :
    RX (α:=Unit) P N c ⟨d, .slice t x none (some hi) none,ty,ps,af,g⟩ F H (fun _=>True) (fun _=>jg 0 m sz v) (fun _=>f (Row (jg 0 m sz v) e sz L (xs.take m))):=
  (xZ (Fz.row (e:=e) hn.symm hs) hx hhi hi' hm).yB fun _ hp=>DH hn hm hp
theorem rO (L:aN α) [aV L] (z0:α) {z:Value} (he:L.enc z0 = [z]):∀n:Nat,eL L (List.replicate n z0) = List.replicate n z
  | 0=>rfl
  | n + 1=>by
    have:=rO L z0 he n
    rw [List.replicate_succ,List.replicate_succ]
    show L.enc z0++eL L (List.replicate n z0) = _
    rw [he,this]; rfl
theorem tX {P:Program} {w:World} {t e ty:Nat} (e1:P.underlying t = some (.slice e)) (a:Option Addr) (cp:Nat):(Builtin.clear_ #[t] ty #[.slice a 0 cp]).run P w = .ok (.tuple #[]) w:=by
  cases a <;> simp [Builtin.clear_,run_underlying e1]
theorem x6 {L:aN α} [aV L] {xs ys:List α} {v:Value} {e t m:Nat} {z0:α} {z:Value} {x:Operand} {f:aO→List aO} (ht:wM P t e 1 = true) (hz:I5 P e z) (he:L.enc z0 = [z]) (N8:z.cells = #[z]) (h1:z.oneCell' = true) (hL:L.n = 1) (hm:m ≤ xs.length)
    (hx:ev F x = some (jg m xs.length 1 v)) [hr:mY H v e 1 xs.length (eL L xs) f] (hy:ys = xs.take m++List.replicate (xs.length - m) z0) :
    RX (α:=Unit) P N c ⟨d, .call ⟨.builtin .clear,#[x],#[t]⟩,ty,ps,af,g⟩ F H (fun _=>True) (fun _=>.tuple #[]) (fun _=>f (Row v e 1 L ys)):=fun D a w next Q hst hk=>by
  obtain ⟨inf,e1,e2,e3⟩:=pE.get ht
  obtain ⟨k,k1,k2⟩:=hr.ok
  have AF:aO.row v e 1 xs.length (eL L xs) ∈ H:=List.mem_of_getElem? k1
  have hown:w.ownsRow 0 e 1 v xs.length (eL L xs):=hst.hp.holds _ AF
  obtain ⟨hlen,r5⟩:=hown
  have Mm:=bw hst.fr hx
  have Cs:ys.length = xs.length:=by rw [hy,List.length_append,List.length_take,List.length_replicate]; omega
  by_cases hem:m = xs.length
  · have Ml:ys = xs:=by rw [hy,hem,List.take_length]; simp
    refine gk (by simp) (v:=.tuple #[]) (w':=w) ?_ (hk () w trivial hst.si ?_)
    · have hv:∃a0 cp,a.eval x = .slice a0 0 cp:=by
        rw [Mm,hem]
        rcases r5 with ⟨hv,h0⟩ | ⟨gb,cap,cur,hv,_⟩
        · rw [hv]; exact ⟨_,_,by rw [jg,Nat.sub_self]⟩
        · rw [hv]; exact ⟨_,_,by rw [jg,Nat.sub_self]⟩
      obtain ⟨a0,cp,hv⟩:=hv
      have:=tX (P:=P) (w:=w) (ty:=ty) e1 a0 cp
      simp [execOp,resolve,invoke,builtin,hv,this]
    · rw [k2]
      exact hst.hp.yB k1 (fun w hw=>by rw [Ml]; exact hw) (fun b hb=>by rw [Ml] at hb; exact hb)
  · rcases r5 with ⟨_,h0⟩ | ⟨gb,cap,cur,rfl,_,Cw,hnc,I1,hcs,wH⟩
    · omega
    have hone:ja (List.replicate (xs.length - m) z):=fun v hv=>by rw [List.eq_of_mem_replicate hv]; exact h1
    have hsc:=run_storeCells_at P gb m e (List.replicate (xs.length - m) z) 0 cur w Cw (by simp; omega) hone
    simp only [Nat.add_zero] at hsc
    obtain ⟨cs',D5⟩ : ∃cs',(cur.toList.take m++List.replicate (xs.length - m) z++cur.toList.drop (m + (List.replicate (xs.length - m) z).length)).toArray = cs':=⟨_,rfl⟩
    rw [D5] at hsc
    have ni:bj [gb] w (w.setRow gb cs'):=⟨rfl,rfl,rfl,by simp,fun k _ hk=>setRow_other w gb k _ (by simpa using hk)⟩
    refine gk (by simp) (v:=.tuple #[]) (w':=w.setRow gb cs') ?_ (hk () _ trivial (hst.si.store hst.hp AF (by simp [aO.gM,Value.ownBlock]) ni) ?_)
    · obtain ⟨j,hj⟩ : ∃j,xs.length - m = j + 1:=⟨xs.length - m - 1,by omega⟩
      have JS:=C9 hz w
      have JU:=qV N8 (j + 1)
      have hne:¬ cap = m:=by omega
      rw [hj] at hsc
      have N9:a.eval x = .slice (some ⟨gb,m,none⟩) (j + 1) (cap - m):=by rw [Mm]; simp [jg,hne,Addr.add_lit,hj]
      simp [execOp,resolve,invoke,builtin,N9,Builtin.clear_,run_underlying e1,JS,JU,hsc]
    · show bW c.bs c.w0.heap.size (f (Row _ e 1 L ys)) _
      rw [Row,k2]
      have zk:=setRow_heap w gb cur cs' e (0,0) Cw
      have Lb:cur.toList.length = cap:=by simpa using hcs
      refine hst.hp.set k1 ni.size (fun j hj hn=>ni.block j hj (by simpa [aO.gM,Value.ownBlock] using hn)) ?_ hst.si.size (fun b' hb'=>?_)
      · refine ⟨by rw [mE,hL], .inr ⟨gb,cap,cs',by rw [Cs],Nat.zero_le _,zk,by omega,I1,?_,?_⟩⟩
        · rw [← D5]; simp; omega
        · rw [Cs,← D5,Nat.mul_one,hy,mF,rO L z0 he]
          have t1:=rN L xs (m:=m) (sz:=1) hL hm
          rw [Nat.mul_one] at t1
          rw [← t1,← wH,List.take_take,Nat.mul_one,Nat.min_eq_left hm]
          simp only [List.toList_toArray]
          rw [List.take_append_of_le_length (by simp; omega)]
          exact List.take_of_length_le (by simp; omega)
      · have h5:b' = gb:=by simpa [aO.gM,Value.ownBlock] using hb'
        subst h5
        exact ⟨.inl (by simp [aO.gM,Value.ownBlock]),Nat.lt_of_lt_of_le (Array.getElem?_eq_some_iff.1 Cw).1 ni.size⟩
theorem Ir {ops:Array Oper} {rest:List Oper} {op:Op} {dd:Tmp} {gg:Option (Nat × Bool)} {b:Bool} {p:α→Prop} {fv:α→Value} {fH:α→List aO} (hg:Gd ops F gg b) (hb:b = true) (hd:Nat.blt dd N = true) (hv:RX P N c ⟨some dd,op,ty,ps,af,gg⟩ F H p fv fH)
    (h:∀x,p x→WL P N c D ops Q rest ((dd,bif b then fv x else undef)::F) (fH x)):WL P N c D ops Q (⟨some dd,op,ty,ps,af,gg⟩::rest) F H:=by
  subst hb
  exact Iq hg hd (fun _=>hv) (fun _ x hx=>h x hx) nofun
theorem It {ops:Array Oper} {rest:List Oper} {op:Op} {dd:Tmp} {gg:Option (Nat × Bool)} {b:Bool} {v:Value} (hg:Gd ops F gg b) (hb:b = false) (hd:Nat.blt dd N = true)
    (h:WL P N c D ops Q rest ((dd,bif b then v else undef)::F) H):WL P N c D ops Q (⟨some dd,op,ty,ps,af,gg⟩::rest) F H:=by
  subst hb
  exact pW hg hd h
theorem HI {x y:Bool} (h:(x == false) = false) (hc:(x || y) = false):False:=by cases x <;> simp at h hc
theorem MG {x y b:Bool} (h:(x == false) = true) (hc:(x || y) = b):y = b:=by cases x <;> simp_all
theorem Fn.Ci {P:Program} {f:Nat} {args:List Value} {K:World→Prop} {e sz:Nat} {L:aN α} [aV L] {xs:List α} (hn:sz = L.n) (h:Fn (α:=Value) P f args K [] (fun v=>jI v xs.length) (fun v=>v) (fun v=>[Row v e sz L xs])):pG P f args K (fun J v=>Fz (fun w=>K w∧J w) v L xs):=by
  refine ⟨h.enter,fun w hw hp cs=>?_⟩
  obtain ⟨en,w',fr,⟨v,px,he,hs,hh⟩,more⟩:=h.calls w hw hp cs
  refine ⟨en,w',fr,⟨(v,bE [Row v e sz L xs],Hs [Row v e sz L xs]),?_,he,hs,vX (R:=[Row v e sz L xs]) (H':=[]) hh⟩,more⟩
  exact (Fz.row (e:=e) hn px).mono nh
end rules
end Go.Bw
namespace Go.Proofs.Ytmdpbdhkmfjlhaa
open Go Go.Bw
structure aP where
 At:Int
 N:Int
abbrev ai:aN aP:=aN.via (LP (LI .i64) (LI .i64)) (fun x=>(x.At,x.N))
abbrev iE:aP:=⟨0,0⟩
instance:Inhabited aP:=⟨iE⟩
theorem dR:aI ai (LI .i64) 0 (fun x=>x.At) (fun x v=>{ x with At:=v }):=(aI.fst aI.id).via _ _ _ 0 rfl (fun _=>rfl) (fun _ _=>rfl)
theorem dL:aI ai (LI .i64) 1 (fun x=>x.N) (fun x v=>{ x with N:=v }):=(aI.snd aI.id).via _ _ _ 1 rfl (fun _=>rfl) (fun _ _=>rfl)
def jG (n:Nat) (a0:(List aP)):Option (List aP):=
 some a0
theorem ot {n a0 r K} [bu K] {v0} (f0:Fz K v0 ai a0) (h:jG n a0 = some r):Bw.Fn (α:=Nat × List Value) Try.prog 149 [v0] K [] (fun (b0,c0)=>((pF ai)).rep K c0 r) (fun (b0,c0)=>.func (.func 165) #[] #[Ptr b0 0]) (fun (b0,c0)=>[.cells b0 44 c0]):=by
 unfold jG at h
 refine fo Try.func149 (by kernel_rfl) rfl Try.ntmps149 rfl fun cx _ hro cZ hpre=>?_
 refine SC 2 rf ?_
 refine W1 rf (wY rfl f0.sl.cells) fun b1=>?_
 refine SL 10 rf ?_
 have h:=sj h; subst h
 exact dG ⟨b1,[v0]⟩ rfl (.tmp rfl .nil) (aN.mono _ nh ⟨_,rfl,f0⟩) rfl (ks:=[0]) rfl (by decide)
structure cC where
 l:(List aP)
abbrev bY:aN cC:=aN.via (pF ai) (fun x=>x.l)
abbrev jz:cC:=⟨[]⟩
def fm:List Value:=[.slice none 0 0]
theorem g6 {A:World→Prop}:bY.rep A fm jz:=⟨_,rfl,Fz.nil⟩
theorem rF:aI bY (pF ai) 0 (fun x=>x.l) (fun x v=>{ x with l:=v }):=aI.id.via _ _ _ 0 rfl (fun _=>rfl) (fun _ _=>rfl)
def iO (n:Nat) (a0:cC):Option (List aP):=
 bd (jG n a0.l) fun jE =>
 some jE
theorem oZ {n a0 r K} [bu K] {cq} (f0:(bY).rep K cq a0) (h:iO n a0 = some r):Bw.Fn (α:=Nat × List Value) Try.prog 94 [A cq] K [] (fun (b0,c0)=>((pF ai)).rep K c0 r) (fun (b0,c0)=>.func (.func 165) #[] #[Ptr b0 0]) (fun (b0,c0)=>[.cells b0 44 c0]):=by
 unfold iO at h
 refine fo Try.func94 (by kernel_rfl) rfl Try.ntmps94 rfl fun cx _ hro cZ hpre=>?_
 refine SC 2 rf ?_
 refine W1 rf (bA rfl) fun b1=>?_
 obtain ⟨jE,j6,h⟩:=bg h
 refine SL 6 rf ?_
 obtain ⟨IS,sS,f22⟩:=rF.sl f0
 refine aj rfl (bq rfl sS) ?_
 refine ez rfl (dV (ot (K:=K) (f22.mono nh) j6) rfl kn) (fun ⟨L3,AJ⟩ f26=>?_)
 replace f26:((pF ai)).rep K AJ jE:=f26
 dsimp only [List.cons_append,List.nil_append]
 refine SL 4 rf ?_
 have h:=sj h; subst h
 exact dG ⟨L3,AJ⟩ rfl (.tmp rfl .nil) (mo f26) rfl (ks:=[0]) rfl (by decide)
def fq (n:Nat) (a1:(List aP)):Option (List (Int × aP)):=
 dF (fun E6 (eo:Int) =>
 cn (decide (eo < (a1.length:Int))) (
 gu (dH eo a1.length) <|
 lt ((a1.getD (Int.toNat eo) default):aP) fun m8 =>
 yl (eo,m8) <|
 E6 (wr .i64 (eo + 1))) (
 some [])) n 0
theorem mK {n:Nat} {a1:(List aP)} {l:List (Int × aP)} {K:World→Prop} {q1:Nat} {kX:List Value} (f1:((pF ai)).rep K kX a1) (h:fq n a1 = some l):w8 Try.prog 165 [Ptr q1 0] [.cells q1 44 kX] K (fun k=>[.int .i64 ((l.getD k default).1), .agg (ai.enc ((l.getD k default).2)).toArray]) l.length:=by
 unfold fq at h
 refine ⟨fun y J Jx bs=>fG Try.func165 (by kernel_rfl) rfl Try.ntmps165 rfl (fun cx cZ hpre hro=>?_)⟩
 haveI:=jm (show cx.bs = bs++bE [.cells q1 44 kX] from cZ) hpre.1
 have hR:CJ Try.prog y cx.bs cx.w0 J Jx (fun k=>[.int .i64 ((l.getD k default).1), .agg (ai.enc ((l.getD k default).2)).toArray]) l.length:=by rw [show cx.bs = bs++bE [.cells q1 44 kX] from cZ]; exact hpre.2
 have D4:l.drop 0 = l:=rfl
 have DN:0 ≤ l.length:=Nat.zero_le _
 refine SC 2 rf ?_
 obtain ⟨IS,sS,f22⟩:=(aI.id (L:=(pF ai))).sl f1
 refine aj rfl (bq rfl sS) ?_
 refine aj rfl (cS f22 rfl) ?_
 refine SL 4 rf ?_
 obtain ⟨Dk,zA,h⟩:=kJ h
 refine LO (β:=Int × Nat × (List (Int × aP)) × (List Nat)) [0,5,6] [0,1] (fun (y9,eo,lz,FM,s4)=>[(7, .int .i64 eo)]) (fun (y9,eo,lz,FM,s4)=>[.ext s4 (J lz s4), .cells q1 44 kX]) (fun (y9,eo,lz,FM,s4)=>l.drop lz = FM∧lz ≤ l.length∧dF Dk y9 eo = some FM) (n,0,0,l,bs) ⟨D4,DN,h⟩ rf rf rf ?_
 rintro y9 ⟨eo,lz,FM,s4⟩ ⟨Hy,KZ,h⟩
 replace h:=kI zA h; obtain ⟨y9,rfl,h⟩:=h
 refine SC 6 rf ?_
 refine ei h rf (fun hc h=>?_) fun hc h=>?_
 ·
  obtain ⟨ry,h⟩:=cm h
  obtain ⟨m8,uv,h⟩:=cL h
  refine SC 7 rf ?_
  refine aj rfl (dg (m:=(Int.toNat eo)) f22 rfl rfl rfl (ay ry).1 (ay ry).2) ?_
  refine aj rfl (pX (M:=ai) f22 (aI.idx (L:=ai) (m:=(a1.length)) (k:=2) ((Int.toNat eo)) (ay ry).2 rfl) rfl rfl (by decide)) ?_
  refine W1 rf (cU (L:=ai) (z:=iE) ⟨by kernel_rfl⟩) fun b4=>?_
  refine aj rfl (bB rfl) ?_
  refine W0 (di (M:=ai) (aI.id (L:=ai)) (a1.getD (Int.toNat eo) default) m8 uv rfl rfl rfl rfl) ?_
  refine SL 3 rf ?_
  obtain ⟨NF,KJ,h⟩:=AO h
  obtain ⟨KV,ru,La,KT⟩:=drop_cons (Hy.trans KJ)
  refine SC 3 rf ?_
  refine aj rfl (dy (M:=ai) (aI.id (L:=ai)) rfl rfl) ?_
  refine ez rfl (oE (bs:=s4) hR KV hro rfl (show oY _ _ = some [.int .i64 ((l.getD lz default).1), .agg (ai.enc ((l.getD lz default).2)).toArray] by rw [ru]; rfl)) (fun ⟨HK,HO⟩ _=>?_)
  refine SL 3 rf ?_
  refine sx rfl (fun hc=>?_) (fun hc=>?_)
  ·
   obtain rfl:HK = false:=by simpa using hc
   dsimp only [cond_true,cond_false]
   refine SC 5 rf ?_
   exact dG (false,HO) rfl .nil trivial rfl (ks:=[1,2]) rfl (by decide)
  ·
   obtain rfl:HK = true:=by simpa using hc
   dsimp only [cond_true,cond_false]
   refine SC 7 rf ?_
   exact LN [1,2] (wr .i64 (eo + 1),lz + 1,NF,HO) ⟨La,KT,h⟩ rf rf rf
 ·
  refine SC 4 rf ?_
  have h:=sj h; subst h
  have Ly:=drop_nil Hy KZ
  refine pU (ks:=[0,1]) (H':=[.ext s4 (J (lz) s4), .cells q1 44 kX]) rfl (by decide) ?_
  refine pV (J:=J) (n:=l.length) Ly ?_
  exact tj (true,s4) rfl .nil trivial rfl (ks:=[0,1]) rfl (by decide)
def jN (n:Nat) (a0:aP):Option Bool:=
 some ((decide (1 ≤ a0.N) && decide (0 ≤ a0.At)) && decide (a0.At ≤ (wr .i64 (64 - a0.N))))
theorem qG {n a0 r}  (h:jN n a0 = some r):w9 Try.prog 95 [.agg (ai.enc a0).toArray] (.bool r):=by
 unfold jN at h
 refine fG Try.func95 (by kernel_rfl) rfl Try.ntmps95 rfl (fun cx cZ hpre hro=>?_)
 refine SC 2 rf ?_
 refine W1 rf (eF ai a0 rfl rfl) fun b1=>?_
 refine SL 6 rf ?_
 refine aj rfl (bH dL rfl) ?_
 refine SL 2 rf ?_
 refine GB rf rf rf (fun hb=>aM rfl) ?_
 refine GB rf rf rf (fun hb=>bH dR (bD rfl hb)) ?_
 refine GB rf rf rf (fun hb=>o7 (bD rfl hb) rfl) ?_
 refine aj rfl (cM rfl rfl) ?_
 refine aj rfl (au rfl) ?_
 refine GB rf rf rf (fun hb=>aM rfl) ?_
 refine GB rf rf rf (fun hb=>bH dR (bD rfl hb)) ?_
 refine GB rf rf rf (fun hb=>aM rfl) ?_
 refine GB rf rf rf (fun hb=>bH dL (bD rfl hb)) ?_
 refine GB rf rf rf (fun hb=>qL rfl (bD rfl hb) rfl) ?_
 refine GB rf rf rf (fun hb=>n3 (bD rfl hb) (bD rfl hb)) ?_
 refine aj rfl (cM rfl rfl) ?_
 refine SL 4 rf ?_
 have h:=sj h; subst h
 exact RV rf (rt rf rn) rf
def cW (n:Nat) (a0:aP):Option Int:=
 some (wr .i64 (a0.At + a0.N))
theorem iU {n a0 r}  (h:cW n a0 = some r):w9 Try.prog 145 [.agg (ai.enc a0).toArray] (.int .i64 r):=by
 unfold cW at h
 refine fG Try.func145 (by kernel_rfl) rfl Try.ntmps145 rfl (fun cx cZ hpre hro=>?_)
 refine SC 2 rf ?_
 refine W1 rf (eF ai a0 rfl rfl) fun b1=>?_
 refine SL 6 rf ?_
 refine aj rfl (bH dR rfl) ?_
 refine aj rfl (aM rfl) ?_
 refine aj rfl (bH dL rfl) ?_
 refine SL 5 rf ?_
 have h:=sj h; subst h
 exact RV rf (rt rf rn) rf
def gO (n:Nat) (a0:cC) (a1:Int) (a2:Int):Option (cC × Bool):=
 lt ({ At:=a1,N:=a2 }:aP) fun bf =>
 bd (jN n bf) fun ck =>
 cn ((!ck)) (
 some (a0,false)) (
 bd (iO n a0) fun dx =>
 bd (fq n dx) fun bJ =>
 pJ (fun (HP:Int × aP) Bc (gA:Bool) (fh:(List aP)) (dP:aP) =>
 lt (HP.1:Int) fun tP =>
 lt (HP.2:aP) fun oI =>
 bd (cW n oI) fun yc =>
 cn (decide (yc < dP.At)) (
 gu (kV fh.length 1 16) <|
 lt (fh++([oI]):List aP) fun jF =>
 Bc gA jF dP) (
 bd (cW n dP) fun yt =>
 cn (decide (yt < oI.At)) (
 lt (fun (sB:Bool) (kY:(List aP)) =>
 gu (kV kY.length 1 16) <|
 lt (kY++([oI]):List aP) fun oJ =>
 Bc sB oJ dP) fun Cq =>
 cn ((!gA)) (
 gu (kV fh.length 1 16) <|
 lt (fh++([dP]):List aP) fun kz =>
 Cq true kz) (
 Cq gA fh)) (
 bd (cW n oI) fun vg =>
 cn ((vg == dP.At)) (
 lt ({ At:=oI.At,N:=wr .i64 (oI.N + dP.N) }:aP) fun Cc =>
 Bc gA fh Cc) (
 bd (cW n dP) fun xb =>
 cn ((oI.At == xb)) (
 lt ({ dP with N:=wr .i64 (dP.N + oI.N) }:aP) fun E2 =>
 Bc gA fh E2) (
 some (a0,false)))))) (fun (gA:Bool) (fh:(List aP)) (dP:aP) =>
 cn ((!gA)) (
 gu (kV fh.length 1 16) <|
 lt (fh++([dP]):List aP) fun m6 =>
 lt ({ l:=m6 }:cC) fun va =>
 some (va,true)) (
 lt ({ l:=fh }:cC) fun CR =>
 some (CR,true))) bJ false ([]:List aP) bf)
theorem o4 {n a0 a1 a2 r K} [bu K] {cq} (f0:(bY).rep K cq a0) (h:gO n a0 a1 a2 = some r):pG Try.prog 90 [A cq, .int .i64 a1, .int .i64 a2] K (fun J v=>∃u0,v = (.tuple #[A u0, .bool r.2])∧(bY).rep (fun w=>K w∧J w) u0 (r.1)):=by
 unfold gO at h
 refine fo Try.func90 (by kernel_rfl) rfl Try.ntmps90 rfl fun cx _ hro cZ hpre=>?_
 refine SC 2 rf ?_
 refine W1 rf (bA rfl) fun b3=>?_
 refine W1 rf (bh (hz:=(⟨by kernel_rfl⟩ : bQ Try.prog 46 fm))) fun b6=>?_
 refine W1 rf (cU (L:=LB) (z:=false) ⟨by kernel_rfl⟩) fun b7=>?_
 obtain ⟨bf,bZ,h⟩:=cL h
 refine SL 6 rf ?_
 refine aj rfl (gX (cs:=ai.enc bf) rfl (by rw [bZ]; rfl)) ?_
 refine W1 rf (cU (L:=ai) (z:=iE) ⟨by kernel_rfl⟩) fun b8=>?_
 refine W0 (di (M:=ai) (aI.id (L:=ai)) bf bf rfl rfl rfl rfl rfl) ?_
 obtain ⟨ck,ic,h⟩:=bg h
 refine SL 5 rf ?_
 refine aj rfl (dy (M:=ai) (aI.id (L:=ai)) rfl rfl) ?_
 refine CV (qG ic) rf rf ?_
 refine SL 3 rf ?_
 refine ei h rf (fun hc h=>?_) fun hc h=>?_
 ·
  refine SC 2 rf ?_
  refine aj rfl (ae rfl (aN.len _ f0)) ?_
  refine ST (C:=K) a0 (aI.id (L:=bY)) g6 (mo f0) rf rf rf rf rf fun zX f24=>?_
  refine W0 (di (M:=LB) (aI.id (L:=LB)) false false rfl rfl rfl rfl rfl) ?_
  refine SL 4 rf ?_
  have h:=sj h; subst h
  exact kE [] rf rf (ra rf (aN.len _ f24) (ro rf rfl rn)) ⟨_,rfl,(mo f24)⟩
 ·
  refine SC 4 rf ?_
  refine W1 rf (bh (hz:=(⟨by kernel_rfl⟩ : bQ Try.prog 44 [.slice none 0 0]))) fun b9=>?_
  refine SL 4 rf ?_
  refine W1 rf (cU (L:=LB) (z:=false) ⟨by kernel_rfl⟩) fun vZ=>?_
  refine W0 (di (M:=LB) (aI.id (L:=LB)) false false rfl rfl rfl rfl rfl) ?_
  obtain ⟨dx,lV,h⟩:=bg h
  refine SL 5 rf ?_
  refine aj rfl (ae rfl (aN.len _ f0)) ?_
  refine ez rfl (dV (oZ (K:=K) (mo f0) lV) rfl kn) (fun ⟨MS,yn⟩ f29=>?_)
  replace f29:((pF ai)).rep K yn dx:=f29
  dsimp only [List.cons_append,List.nil_append]
  refine SL 3 rf ?_
  obtain ⟨bJ,sR,h⟩:=bg h
  refine oD 57 2 ai ?_
  obtain ⟨Dp,G8,Ej,Hq,h⟩:=Gh h
  refine lI (K:=K) (α:=Bool × (List aP) × aP × Value) (β:=Bool × (List aP) × aP × cC × Value × (List Value)) hro rfl (mK (K:=K) (mo f29) sR) (fun _=>rfl) rfl (fun Ba=>fun (gA,fh,dP,tL)=>jI tL fh.length∧pJ Dp Ej (bJ.drop Ba) gA fh dP = some r) (fun Ba=>fun (gA,fh,dP,tL)=>[Row tL 57 2 ai fh, .cells vZ 4 (LB.enc gA), .cells b9 44 ([tL]), .cells b8 57 (ai.enc dP), .cells b7 4 (LB.enc false), .cells b6 46 fm, .cells b3 46 cq]) (fun j=>fun (my,vh,nF,Ft,CZ,Ew)=>j = Code.ret∧jI CZ vh.length∧(bY).rep K Ew Ft∧some (Ft,false) = some r) (fun (my,vh,nF,Ft,CZ,Ew)=>[Row CZ 57 2 ai vh, .cells vZ 4 (LB.enc my), .cells b9 44 ([CZ]), .cells b8 57 (ai.enc nF), .cells b7 4 (LB.enc false), .cells b6 46 Ew, .cells b3 46 cq]) ⟨false,([]:List aP),bf, .slice none 0 0⟩ ⟨⟨_,_,rfl⟩,h⟩ (ks:=[1,0,2,3,4,5,6,7]) rfl (by decide) ?_ ?_ ?_
  ·
   rintro Ba ⟨gA,fh,dP,tL⟩ lo dd rec c' hk ⟨qt,h⟩ pq sU nL hsi hT
   replace h:pJ Dp Ej (bJ.drop Ba) gA fh dP = some r:=h
   replace h:=Gf G8 hk h
   haveI:=mI (K:=K) hsi
   dsimp only [pH]
   obtain ⟨tP,xF,h⟩:=cL h
   rw [← xF]
   obtain ⟨oI,Kg,h⟩:=cL h
   rw [← Kg]
   refine lH ?_
   refine W1 rf (cU (L:=ai) (z:=iE) ⟨by kernel_rfl⟩) fun O6=>?_
   refine W0 (di (M:=ai) (aI.id (L:=ai)) oI oI rfl rfl rfl rfl rfl) ?_
   refine tq ?_
   refine jA pq nL ?_
   refine SC 3 rf ?_
   obtain ⟨yc,xE,h⟩:=bg h
   refine cJ mixed (.gB [] [(0,[12]),(1,[26]),(2,[8]),(3,[28]),(4,[27,29])] (.alt 5 [30] (.fin [] []) .no)) (by kernel_rfl) ?_
   refine T0 ?_
   refine NV rf rf (dy (M:=ai) (aI.id (L:=ai)) rfl rfl) ?_
   refine NC rf rf (iU xE) rf ?_
   refine NS 1 rf ?_
   refine NV rf rf (bH dR rfl) ?_
   refine NE 1 rf ?_
   refine XV rf rf (bB rfl) ?_
   refine pb ?_
   refine iA ?_
   refine ei h rf (fun hc h=>?_) fun hc h=>?_
   ·
    obtain ⟨Hh,h⟩:=cm h
    obtain ⟨jF,Bl,h⟩:=cL h
    refine lH ?_
    refine aj rfl (bq rfl rfl) ?_
    refine aj rfl (dy (M:=ai) (aI.id (L:=ai)) rfl rfl) ?_
    refine ez rfl (l5 ai oI rfl rfl rfl rfl (by decide) (by decide)) (fun P0 _=>?_)
    refine ez rfl (kO (sz:=2) (L:=ai) (xs:=fh) (y:=oI) (bytes:=16) rfl rfl rfl (fX Hh).1 (fX Hh).2) (fun Fx Br=>?_)
    rw [← Bl] at Br; rw [← Bl]
    refine W0 (qO (cs':=[Fx]) [Fx] (aI.id (L:=(pF ai))) (v:=jF) ⟨_,rfl,(Fz.row (e:=57) (sz:=2) (L:=ai) (xs:=fh) rfl qt)⟩ (rv:=(⟨_,rfl,(Fz.row (e:=57) (sz:=2) (L:=ai) (xs:=jF) rfl Br)⟩ : ((pF ai)).rep (Hs [Row Fx 57 2 ai jF]) [Fx] jF)) rfl rfl (Fz.row (e:=57) (sz:=2) (L:=ai) (xs:=jF) rfl Br).sl.cells rfl rfl) ?_
    refine SL 3 rf ?_
    exact iY pq sU hT ⟨gA,jF,dP,Fx⟩ ⟨Br,h⟩ (ks:=[2,3,4,5,6,7,8,9,10]) rfl (by decide)
   ·
    refine nZ ?_
    obtain ⟨yt,zh,h⟩:=bg h
    refine cJ mixed (.gB [] [(0,[12]),(1,[36]),(2,[8]),(3,[38]),(4,[37,39])] (.alt 5 [40] (.fin [] []) .no)) (by kernel_rfl) ?_
    refine T0 ?_
    refine NS 1 rf ?_
    refine NV rf rf (bH dR rfl) ?_
    refine NV rf rf (dy (M:=ai) (aI.id (L:=ai)) rfl rfl) ?_
    refine NC rf rf (iU zh) rf ?_
    refine NE 1 rf ?_
    refine XV rf rf (bB rfl) ?_
    refine pb ?_
    refine iA ?_
    refine ei h rf (fun hc h=>?_) fun hc h=>?_
    ·
     obtain ⟨Cq,K0,h⟩:=cL h
     refine CU (α:=Bool × (List aP) × Value) [9,12] rf (fun (sB,kY,E3)=>[]) (fun (sB,kY,E3)=>[.cells O6 57 (ai.enc oI), .obj dd (.deferred (some [])), .obj lo (.loop { rec with state:=.busy }),Row E3 57 2 ai kY, .cells vZ 4 (LB.enc sB), .cells b9 44 ([E3]), .cells b8 57 (ai.enc dP), .cells b7 4 (LB.enc false), .cells b6 46 fm, .cells b3 46 cq]) (fun (sB,kY,E3)=>jI E3 kY.length∧Cq sB kY = some r) ?_ ?_
     ·
      refine SC 2 rf ?_
      refine aj rfl (mV (aI.id (L:=LB)) rfl) ?_
      refine SL 3 rf ?_
      refine ei h rf (fun hc h=>?_) fun hc h=>?_
      ·
       obtain ⟨rq,h⟩:=cm h
       obtain ⟨kz,Bk,h⟩:=cL h
       refine SC 2 rf ?_
       refine aj rfl (bq rfl rfl) ?_
       refine aj rfl (dy (M:=ai) (aI.id (L:=ai)) rfl rfl) ?_
       refine ez rfl (l5 ai dP rfl rfl rfl rfl (by decide) (by decide)) (fun PY _=>?_)
       refine ez rfl (kO (sz:=2) (L:=ai) (xs:=fh) (y:=dP) (bytes:=16) rfl rfl rfl (fX rq).1 (fX rq).2) (fun Fw Bq=>?_)
       rw [← Bk] at Bq; rw [← Bk]
       refine W0 (qO (cs':=[Fw]) [Fw] (aI.id (L:=(pF ai))) (v:=kz) ⟨_,rfl,(Fz.row (e:=57) (sz:=2) (L:=ai) (xs:=fh) rfl qt)⟩ (rv:=(⟨_,rfl,(Fz.row (e:=57) (sz:=2) (L:=ai) (xs:=kz) rfl Bq)⟩ : ((pF ai)).rep (Hs [Row Fw 57 2 ai kz]) [Fw] kz)) rfl rfl (Fz.row (e:=57) (sz:=2) (L:=ai) (xs:=kz) rfl Bq).sl.cells rfl rfl) ?_
       refine SL 3 rf ?_
       refine W0 (di (M:=LB) (aI.id (L:=LB)) true true rfl rfl rfl rfl rfl) ?_
       refine tq ?_
       exact CE [1,2,3,4,5,6,7,8,9,10] (true,kz,Fw) ⟨Bq,h⟩ rf rf rf
      ·
       refine tp ?_
       exact CE [0,1,2,3,4,5,6,7,8,9] (gA,fh,tL) ⟨qt,h⟩ rf rf rf
     ·
      rintro ⟨sB,kY,E3⟩ ⟨KB,h⟩
      replace h:Cq sB kY = some r:=h
      replace h:=Ge K0 h
      obtain ⟨Hg,h⟩:=cm h
      obtain ⟨oJ,xD,h⟩:=cL h
      refine lH ?_
      refine aj rfl (bq rfl rfl) ?_
      refine aj rfl (dy (M:=ai) (aI.id (L:=ai)) rfl rfl) ?_
      refine ez rfl (l5 ai oI rfl rfl rfl rfl (by decide) (by decide)) (fun PX _=>?_)
      refine ez rfl (kO (sz:=2) (L:=ai) (xs:=kY) (y:=oI) (bytes:=16) rfl rfl rfl (fX Hg).1 (fX Hg).2) (fun Fv Bp=>?_)
      rw [← xD] at Bp; rw [← xD]
      refine W0 (qO (cs':=[Fv]) [Fv] (aI.id (L:=(pF ai))) (v:=oJ) ⟨_,rfl,(Fz.row (e:=57) (sz:=2) (L:=ai) (xs:=kY) rfl KB)⟩ (rv:=(⟨_,rfl,(Fz.row (e:=57) (sz:=2) (L:=ai) (xs:=oJ) rfl Bp)⟩ : ((pF ai)).rep (Hs [Row Fv 57 2 ai oJ]) [Fv] oJ)) rfl rfl (Fz.row (e:=57) (sz:=2) (L:=ai) (xs:=oJ) rfl Bp).sl.cells rfl rfl) ?_
      refine SL 3 rf ?_
      exact iY pq sU hT ⟨sB,oJ,dP,Fv⟩ ⟨Bp,h⟩ (ks:=[2,3,4,5,6,7,8,9,10]) rfl (by decide)
    ·
     refine nZ ?_
     obtain ⟨vg,zg,h⟩:=bg h
     refine cJ mixed (.gB [] [(0,[12]),(1,[52]),(2,[8]),(3,[54]),(4,[53,55])] (.alt 5 [56] (.fin [] []) .no)) (by kernel_rfl) ?_
     refine T0 ?_
     refine NV rf rf (dy (M:=ai) (aI.id (L:=ai)) rfl rfl) ?_
     refine NC rf rf (iU zg) rf ?_
     refine NS 1 rf ?_
     refine NV rf rf (bH dR rfl) ?_
     refine NE 1 rf ?_
     refine XV rf rf (bB rfl) ?_
     refine pb ?_
     refine iA ?_
     refine ei h rf (fun hc h=>?_) fun hc h=>?_
     ·
      obtain ⟨Cc,J4,h⟩:=cL h
      refine SC 2 rf ?_
      refine aj rfl (bH dR rfl) ?_
      refine aj rfl (aM rfl) ?_
      refine aj rfl (bH dL rfl) ?_
      refine aj rfl (aM rfl) ?_
      refine aj rfl (bH dL rfl) ?_
      refine aj rfl (qN rfl rfl rfl) ?_
      refine aj rfl (gX (cs:=ai.enc Cc) rfl (by rw [J4]; rfl)) ?_
      refine W0 (di (M:=ai) (aI.id (L:=ai)) Cc Cc rfl rfl rfl rfl rfl) ?_
      refine SL 3 rf ?_
      exact iY pq sU hT ⟨gA,fh,Cc,tL⟩ ⟨qt,h⟩ (ks:=[1,2,3,4,5,6,7,8,9]) rfl (by decide)
     ·
      refine nZ ?_
      obtain ⟨xb,Dy,h⟩:=bg h
      refine cJ mixed (.gB [] [(0,[12]),(1,[66]),(2,[8]),(3,[68]),(4,[67,69])] (.alt 5 [70] (.fin [] []) .no)) (by kernel_rfl) ?_
      refine T0 ?_
      refine NS 1 rf ?_
      refine NV rf rf (bH dR rfl) ?_
      refine NV rf rf (dy (M:=ai) (aI.id (L:=ai)) rfl rfl) ?_
      refine NC rf rf (iU Dy) rf ?_
      refine NE 1 rf ?_
      refine XV rf rf (bB rfl) ?_
      refine pb ?_
      refine iA ?_
      refine ei h rf (fun hc h=>?_) fun hc h=>?_
      ·
       obtain ⟨E2,J3,h⟩:=cL h
       refine SC 2 rf ?_
       refine aj rfl (bH dL rfl) ?_
       refine aj rfl (aM rfl) ?_
       refine aj rfl (bH dL rfl) ?_
       refine SL 2 rf ?_
       refine W0 (di (M:=(LI .i64)) dL (wr .i64 (dP.N + oI.N)) E2 J3 rfl rfl rfl rfl) ?_
       refine SL 3 rf ?_
       exact iY pq sU hT ⟨gA,fh,E2,tL⟩ ⟨qt,h⟩ (ks:=[1,2,3,4,5,6,7,8,9]) rfl (by decide)
      ·
       refine SC 2 rf ?_
       refine aj rfl (ae rfl (aN.len _ f0)) ?_
       refine ST (C:=K) a0 (aI.id (L:=bY)) g6 (mo f0) rf rf rf rf rf fun MJ f81=>?_
       refine W0 (di (M:=LB) (aI.id (L:=LB)) false false rfl rfl rfl rfl rfl) ?_
       refine SL 5 rf ?_
       exact BQ hT (.inl ⟨rfl,rfl⟩) ⟨Code.ret,gA,fh,dP,a0,tL,MJ⟩ ⟨rfl,qt,(mo f81),h⟩ (ks:=[1,2,3,4,5,6,7,8,9]) rfl (by decide)
  ·
   rintro BG ⟨gA,fh,dP,tL⟩ ⟨qt,h⟩
   replace h:pJ Dp Ej (bJ.drop bJ.length) gA fh dP = some r:=h
   replace h:=Gg Hq rfl h
   dsimp only [List.cons_append,List.nil_append]
   refine SX 5 rf ?_
   refine aj rfl (mV (aI.id (L:=LB)) rfl) ?_
   refine SL 3 rf ?_
   refine ei h rf (fun hc h=>?_) fun hc h=>?_
   ·
    obtain ⟨Hf,h⟩:=cm h
    obtain ⟨m6,xC,h⟩:=cL h
    refine lH ?_
    refine aj rfl (bq rfl rfl) ?_
    refine aj rfl (dy (M:=ai) (aI.id (L:=ai)) rfl rfl) ?_
    refine ez rfl (l5 ai dP rfl rfl rfl rfl (by decide) (by decide)) (fun PW _=>?_)
    refine ez rfl (kO (sz:=2) (L:=ai) (xs:=fh) (y:=dP) (bytes:=16) rfl rfl rfl (fX Hf).1 (fX Hf).2) (fun ye xI=>?_)
    rw [← xC] at xI; rw [← xC]
    refine W0 (qO (cs':=[ye]) [ye] (aI.id (L:=(pF ai))) (v:=m6) ⟨_,rfl,(Fz.row (e:=57) (sz:=2) (L:=ai) (xs:=fh) rfl qt)⟩ (rv:=(⟨_,rfl,(Fz.row (e:=57) (sz:=2) (L:=ai) (xs:=m6) rfl xI)⟩ : ((pF ai)).rep (Hs [Row ye 57 2 ai m6]) [ye] m6)) rfl rfl (Fz.row (e:=57) (sz:=2) (L:=ai) (xs:=m6) rfl xI).sl.cells rfl rfl) ?_
    obtain ⟨va,zf,h⟩:=cL h
    refine SL 4 rf ?_
    refine aj rfl (bq rfl rfl) ?_
    obtain ⟨Et,Ld,f89⟩ : ∃cc,[ye] = cc∧(bY).rep (Hs [Row ye 57 2 ai m6]) cc va:=⟨_,rfl,by rw [zf]; exact ⟨_,rfl,(Fz.row (e:=57) (sz:=2) (L:=ai) (xs:=m6) rfl xI).mono nh⟩⟩
    refine aj rfl (gX (cs:=Et) rfl (by rw [← Ld]; first | rfl | (simp [og,cO,show ∀k i,(Value.int k i).cells = #[Value.int k i] from fun _ _=>rfl,show ∀q,(Value.bool q).cells = #[Value.bool q] from fun _=>rfl,show ∀a,(Value.agg a).cells = a from fun _=>rfl,(Fz.row (e:=57) (sz:=2) (L:=ai) (xs:=m6) rfl xI).sl.cells,(Fz.row (e:=57) (sz:=2) (L:=ai) (xs:=m6) rfl xI).sl.size]; try rfl))) ?_
    refine ST (C:=(Hs [Row ye 57 2 ai m6])) va (aI.id (L:=bY)) g6 (mo f89) rf rf rf rf rf fun LL f91=>?_
    refine W0 (di (M:=LB) (aI.id (L:=LB)) true true rfl rfl rfl rfl rfl) ?_
    refine SL 3 rf ?_
    have h:=sj h; subst h
    refine bM (R:=[Row ye 57 2 ai m6]) (H':=[.obj BG (.deferred (some [])), .cells b7 4 (LB.enc true), .cells b6 46 LL]) (ks:=[3,1,7,8]) rfl (by decide) ?_
    have NJ:(bY).rep (fun w=>K w∧(Hs [.ext (bE [Row ye 57 2 ai m6]) (Hs [Row ye 57 2 ai m6])]) w) LL va:=aN.mono _ nh f91
    exact jq (.tuple #[A LL, .bool true],bE [Row ye 57 2 ai m6],Hs [Row ye 57 2 ai m6]) rfl (.agg rfl inferInstance inferInstance (aN.len _ f91) (.one rfl inferInstance inferInstance rfl .nil)) ⟨_,rfl,NJ⟩ rfl (ks:=[0]) rfl (by decide)
   ·
    obtain ⟨CR,JY,h⟩:=cL h
    refine SC 4 rf ?_
    refine aj rfl (bq rfl rfl) ?_
    obtain ⟨OQ,Lc,f95⟩ : ∃cc,[tL] = cc∧(bY).rep (Hs [Row tL 57 2 ai fh]) cc CR:=⟨_,rfl,by rw [JY]; exact ⟨_,rfl,(Fz.row (e:=57) (sz:=2) (L:=ai) (xs:=fh) rfl qt).mono nh⟩⟩
    refine aj rfl (gX (cs:=OQ) rfl (by rw [← Lc]; first | rfl | (simp [og,cO,show ∀k i,(Value.int k i).cells = #[Value.int k i] from fun _ _=>rfl,show ∀q,(Value.bool q).cells = #[Value.bool q] from fun _=>rfl,show ∀a,(Value.agg a).cells = a from fun _=>rfl,(Fz.row (e:=57) (sz:=2) (L:=ai) (xs:=fh) rfl qt).sl.cells,(Fz.row (e:=57) (sz:=2) (L:=ai) (xs:=fh) rfl qt).sl.size]; try rfl))) ?_
    refine ST (C:=(Hs [Row tL 57 2 ai fh])) CR (aI.id (L:=bY)) g6 (mo f95) rf rf rf rf rf fun HZ f97=>?_
    refine W0 (di (M:=LB) (aI.id (L:=LB)) true true rfl rfl rfl rfl rfl) ?_
    refine SL 3 rf ?_
    have h:=sj h; subst h
    refine bM (R:=[Row tL 57 2 ai fh]) (H':=[.obj BG (.deferred (some [])), .cells b7 4 (LB.enc true), .cells b6 46 HZ]) (ks:=[2,0,6,7]) rfl (by decide) ?_
    have NI:(bY).rep (fun w=>K w∧(Hs [.ext (bE [Row tL 57 2 ai fh]) (Hs [Row tL 57 2 ai fh])]) w) HZ CR:=aN.mono _ nh f97
    exact jq (.tuple #[A HZ, .bool true],bE [Row tL 57 2 ai fh],Hs [Row tL 57 2 ai fh]) rfl (.agg rfl inferInstance inferInstance (aN.len _ f97) (.one rfl inferInstance inferInstance rfl .nil)) ⟨_,rfl,NI⟩ rfl (ks:=[0]) rfl (by decide)
  ·
   rintro BG j ⟨my,vh,nF,Ft,CZ,Ew⟩ ⟨rfl,GC,f53,h⟩
   dsimp only [List.cons_append,List.nil_append]
   refine SC 3 rf ?_
   have h:=sj h; subst h
   refine bM (R:=[]) (H':=[.obj BG (.deferred (some [])), .cells b7 4 (LB.enc false), .cells b6 46 Ew]) (ks:=[0,6,7]) rfl (by decide) ?_
   have NH:(bY).rep (fun w=>K w∧(Hs [.ext (bE []) (Hs [])]) w) Ew Ft:=aN.mono _ nh f53
   exact jq (.tuple #[A Ew, .bool false],bE [],Hs []) rfl (.agg rfl inferInstance inferInstance (aN.len _ f53) (.one rfl inferInstance inferInstance rfl .nil)) ⟨_,rfl,NH⟩ rfl (ks:=[0]) rfl (by decide)
end Go.Proofs.Ytmdpbdhkmfjlhaa
namespace Go.Proofs.Ytmdpbdhkmfjlhaa
open Go Go.Bw
structure cu where
 aU:(List aP)
 nD:Int
abbrev cB:aN cu:=aN.via (LP (pF ai) (LI .i64)) (fun x=>(x.aU,x.nD))
abbrev ec:cu:=⟨[],0⟩
def fK:List Value:=[.slice none 0 0]++([.int .i64 0])
theorem g7 {A:World→Prop}:cB.rep A fK ec:=⟨_,_,rfl,⟨_,rfl,Fz.nil⟩,rfl⟩
theorem dO:aI cB (pF ai) 0 (fun x=>x.aU) (fun x v=>{ x with aU:=v }):=(aI.fst aI.id).via _ _ _ 0 rfl (fun _=>rfl) (fun _ _=>rfl)
theorem iq:aI cB (LI .i64) 1 (fun x=>x.nD) (fun x v=>{ x with nD:=v }):=(aI.snd aI.id).via _ _ _ 1 rfl (fun _=>rfl) (fun _ _=>rfl)
def fA (n:Nat) (a0:cu):Option cu:=
 some a0
theorem lX {n a0 r K} [bu K] {cq} (f0:(cB).rep K cq a0) (h:fA n a0 = some r):Bw.Fn (α:=Nat × List Value) Try.prog 166 [A cq] K [] (fun (b0,c0)=>(cB).rep K c0 r) (fun (b0,c0)=>.func (.func 167) #[] #[Ptr b0 0]) (fun (b0,c0)=>[.cells b0 71 c0]):=by
 unfold fA at h
 refine fo Try.func166 (by kernel_rfl) rfl Try.ntmps166 rfl fun cx _ hro cZ hpre=>?_
 refine SC 2 rf ?_
 refine W1 rf (bA rfl) fun b1=>?_
 refine SL 10 rf ?_
 have h:=sj h; subst h
 exact dG ⟨b1,cq⟩ rfl (.tmp rfl .nil) (mo f0) rfl (ks:=[0]) rfl (by decide)
def dU (n:Nat) (a1:cu):Option (List (Int × aP)):=
 dD (fun JP (bJ:Int) (gF:Int) =>
 cn (decide (gF < (a1.aU.length:Int))) (
 gu (dH gF a1.aU.length) <|
 lt ((a1.aU.getD (Int.toNat gF) default):aP) fun dP =>
 yl (bJ,dP) <|
 JP (wr .i64 (bJ + (wr .i64 (dP.N * 32)))) (wr .i64 (gF + 1))) (
 some [])) n 0 0
theorem kA {n:Nat} {a1:cu} {l:List (Int × aP)} {K:World→Prop} {q1:Nat} {kX:List Value} (f1:(cB).rep K kX a1) (h:dU n a1 = some l):w8 Try.prog 167 [Ptr q1 0] [.cells q1 71 kX] K (fun k=>[.int .i64 ((l.getD k default).1), .agg (ai.enc ((l.getD k default).2)).toArray]) l.length:=by
 unfold dU at h
 refine ⟨fun y J Jx bs=>fG Try.func167 (by kernel_rfl) rfl Try.ntmps167 rfl (fun cx cZ hpre hro=>?_)⟩
 haveI:=jm (show cx.bs = bs++bE [.cells q1 71 kX] from cZ) hpre.1
 have hR:CJ Try.prog y cx.bs cx.w0 J Jx (fun k=>[.int .i64 ((l.getD k default).1), .agg (ai.enc ((l.getD k default).2)).toArray]) l.length:=by rw [show cx.bs = bs++bE [.cells q1 71 kX] from cZ]; exact hpre.2
 have D4:l.drop 0 = l:=rfl
 have DN:0 ≤ l.length:=Nat.zero_le _
 refine SC 8 rf ?_
 obtain ⟨IS,sS,f22⟩:=dO.sl f1
 refine aj rfl (bq rfl sS) ?_
 refine aj rfl (cS f22 rfl) ?_
 refine SL 4 rf ?_
 obtain ⟨JI,G1,h⟩:=lq h
 refine LO (β:=Int × Int × Nat × (List (Int × aP)) × (List Nat)) [0,7,8] [0,1] (fun (F3,bJ,gF,lu,FL,sZ)=>[(3, .int .i64 bJ),(9, .int .i64 gF)]) (fun (F3,bJ,gF,lu,FL,sZ)=>[.ext sZ (J lu sZ), .cells q1 71 kX]) (fun (F3,bJ,gF,lu,FL,sZ)=>l.drop lu = FL∧lu ≤ l.length∧dD JI F3 bJ gF = some FL) (n,0,0,0,l,bs) ⟨D4,DN,h⟩ rf rf rf ?_
 rintro F3 ⟨bJ,gF,lu,FL,sZ⟩ ⟨Hx,KY,h⟩
 replace h:=lp G1 h; obtain ⟨F3,rfl,h⟩:=h
 refine SC 6 rf ?_
 refine ei h rf (fun hc h=>?_) fun hc h=>?_
 ·
  obtain ⟨mh,h⟩:=cm h
  obtain ⟨dP,uu,h⟩:=cL h
  refine SC 6 rf ?_
  refine aj rfl (dg (m:=(Int.toNat gF)) f22 rfl rfl rfl (ay mh).1 (ay mh).2) ?_
  refine aj rfl (pX (M:=ai) f22 (aI.idx (L:=ai) (m:=(a1.aU.length)) (k:=2) ((Int.toNat gF)) (ay mh).2 rfl) rfl rfl (by decide)) ?_
  refine W1 rf (cU (L:=ai) (z:=iE) ⟨by kernel_rfl⟩) fun b5=>?_
  refine W0 (di (M:=ai) (aI.id (L:=ai)) (a1.aU.getD (Int.toNat gF) default) dP uu rfl rfl rfl rfl) ?_
  refine SL 4 rf ?_
  obtain ⟨Jp,DG,h⟩:=AO h
  obtain ⟨DM,DV,D3,DL⟩:=drop_cons (Hx.trans DG)
  refine SC 3 rf ?_
  refine aj rfl (dy (M:=ai) (aI.id (L:=ai)) rfl rfl) ?_
  refine ez rfl (oE (bs:=sZ) hR DM hro rfl (show oY _ _ = some [.int .i64 ((l.getD lu default).1), .agg (ai.enc ((l.getD lu default).2)).toArray] by rw [DV]; rfl)) (fun ⟨zO,vP⟩ _=>?_)
  refine SL 3 rf ?_
  refine sx rfl (fun hc=>?_) (fun hc=>?_)
  ·
   obtain rfl:zO = false:=by simpa using hc
   dsimp only [cond_true,cond_false]
   refine SC 6 rf ?_
   exact dG (false,vP) rfl .nil trivial rfl (ks:=[1,2]) rfl (by decide)
  ·
   obtain rfl:zO = true:=by simpa using hc
   dsimp only [cond_true,cond_false]
   refine SC 5 rf ?_
   refine aj rfl (bH dL rfl) ?_
   refine SL 10 rf ?_
   exact LN [1,2] (wr .i64 (bJ + (wr .i64 (dP.N * 32))),wr .i64 (gF + 1),lu + 1,Jp,vP) ⟨D3,DL,h⟩ rf rf rf
 ·
  refine SC 4 rf ?_
  have h:=sj h; subst h
  have Lx:=drop_nil Hx KY
  refine pU (ks:=[0,1]) (H':=[.ext sZ (J (lu) sZ), .cells q1 71 kX]) rfl (by decide) ?_
  refine pV (J:=J) (n:=l.length) Lx ?_
  exact tj (true,sZ) rfl .nil trivial rfl (ks:=[0,1]) rfl (by decide)
def eO (n:Nat) (a0:cu):Option Int:=
 bd (fA n a0) fun bf =>
 bd (dU n bf) fun js =>
 ff (fun (BF:Int × aP) Bf (ef:Int) =>
 lt (BF.1:Int) fun lO =>
 lt (BF.2:aP) fun fI =>
 lt (wr .i64 (ef + fI.N):Int) fun gE =>
 Bf gE) (fun (ef:Int) =>
 some ef) js 0
theorem mq {n a0 r K} [bu K] {cq} (f0:(cB).rep K cq a0) (h:eO n a0 = some r):qU Try.prog 150 [A cq] K (.int .i64 r):=by
 unfold eO at h
 refine fo Try.func150 (by kernel_rfl) rfl Try.ntmps150 rfl fun cx _ hro cZ hpre=>?_
 refine SC 2 rf ?_
 refine W1 rf (bA rfl) fun b1=>?_
 refine SL 5 rf ?_
 refine W1 rf (cU (L:=(LI .i64)) (z:=0) ⟨by kernel_rfl⟩) fun b3=>?_
 refine W0 (di (M:=(LI .i64)) (aI.id (L:=(LI .i64))) 0 0 rfl rfl rfl rfl rfl) ?_
 obtain ⟨bf,bZ,h⟩:=bg h
 refine SL 5 rf ?_
 refine aj rfl (ae rfl (aN.len _ f0)) ?_
 refine ez rfl (dV (lX (K:=K) (mo f0) bZ) rfl kn) (fun ⟨O3,zX⟩ f24=>?_)
 replace f24:(cB).rep K zX bf:=f24
 dsimp only [List.cons_append,List.nil_append]
 refine SL 3 rf ?_
 obtain ⟨js,nJ,h⟩:=bg h
 obtain ⟨vz,zD,vO,zJ,h⟩:=qn h
 refine lI (K:=K) (α:=Int) (β:=Unit) hro rfl (kA (K:=K) (mo f24) nJ) (fun _=>rfl) rfl (fun lz=>fun ef=>ff vz vO (js.drop lz) ef = some r) (fun lz=>fun ef=>[.cells b3 3 ((LI .i64).enc ef), .cells b1 71 cq]) (fun _ _=>False) (fun _=>[]) 0 h (ks:=[0,1,2]) rfl (by decide) ?_ ?_ ?_
 ·
  rintro lz ef lo dd rec c' hk h pq sU nL hsi hT
  replace h:ff vz vO (js.drop lz) ef = some r:=h
  replace h:=ql zD hk h
  haveI:=mI (K:=K) hsi
  dsimp only [pH]
  obtain ⟨lO,sQ,h⟩:=cL h
  rw [← sQ]
  obtain ⟨fI,sP,h⟩:=cL h
  rw [← sP]
  refine lH ?_
  refine W1 rf (cU (L:=ai) (z:=iE) ⟨by kernel_rfl⟩) fun b5=>?_
  refine W0 (di (M:=ai) (aI.id (L:=ai)) fI fI rfl rfl rfl rfl rfl) ?_
  refine tq ?_
  refine jA pq nL ?_
  obtain ⟨gE,j5,h⟩:=cL h
  refine SC 2 rf ?_
  refine aj rfl (bH (aI.id (L:=(LI .i64))) rfl) ?_
  refine aj rfl (aM rfl) ?_
  refine aj rfl (bH dL rfl) ?_
  refine aj rfl (qN rfl rfl rfl) ?_
  refine W0 (di (M:=(LI .i64)) (aI.id (L:=(LI .i64))) (wr .i64 (ef + fI.N)) gE j5 rfl rfl rfl rfl) ?_
  refine SL 2 rf ?_
  exact iY pq sU hT gE h (ks:=[1,2,3,4]) rfl (by decide)
 ·
  rintro LH ef h
  replace h:ff vz vO (js.drop js.length) ef = some r:=h
  replace h:=qm zJ rfl h
  dsimp only [List.cons_append,List.nil_append]
  refine SX 4 rf ?_
  refine aj rfl (bH (aI.id (L:=(LI .i64))) rfl) ?_
  refine SL 4 rf ?_
  have h:=sj h; subst h
  exact jq () rfl (.tmp rfl .nil) trivial rfl (ks:=[]) rfl (by decide)
 ·
  intro dd j i hf; exact hf.elim
def eD (n:Nat) (a0:cu):Option Bool:=
 dD (fun JQ (eX:Int) (lO:cC) =>
 cn (decide (eX < (a0.aU.length:Int))) (
 gu (dH eX a0.aU.length) <|
 lt ((a0.aU.getD (Int.toNat eX) default):aP) fun jk =>
 bd (gO n lO jk.At jk.N) fun dP =>
 cn ((!dP.2)) (
 some false) (
 JQ (wr .i64 (eX + 1)) dP.1)) (
 cl ((decide (0 ≤ a0.nD)) == true) (eO n a0) default fun Mb =>
 some (decide (0 ≤ a0.nD) && decide (a0.nD ≤ (wr .i64 (Mb * 32)))))) n 0 jz
theorem nr {n a0 r K} [bu K] {cq} (f0:(cB).rep K cq a0) (h:eD n a0 = some r):qU Try.prog 103 [A cq] K (.bool r):=by
 unfold eD at h
 refine fo Try.func103 (by kernel_rfl) rfl Try.ntmps103 rfl fun cx _ hro cZ hpre=>?_
 refine SC 2 rf ?_
 refine W1 rf (bA rfl) fun b1=>?_
 refine SL 5 rf ?_
 refine W1 rf (bh (hz:=(⟨by kernel_rfl⟩ : bQ Try.prog 46 fm))) fun b3=>?_
 refine SL 6 rf ?_
 obtain ⟨IS,sS,f22⟩:=dO.sl f0
 refine aj rfl (bq rfl sS) ?_
 refine aj rfl (cS f22 rfl) ?_
 refine SL 4 rf ?_
 obtain ⟨Dj,zz,h⟩:=lq h
 refine jR ?_
 refine LO (β:=Int × cC × (List Value) × (List Nat) × (World→Prop)) [1,3,9,10] [0,1,2] (fun (y8,eX,lO,AI,lY,tJ)=>[(11, .int .i64 eX)]) (fun (y8,eX,lO,AI,lY,tJ)=>[.ext lY tJ, .cells b3 46 AI, .cells b1 71 cq]) (fun (y8,eX,lO,AI,lY,tJ)=>(bY).rep (Hs [.ext lY tJ]) AI lO∧dD Dj y8 eX lO = some r) (n,0,jz,fm,[],(Hs [])) ⟨(aN.mono _ nh (show (bY).rep (Hs []) fm jz from g6)),h⟩ rf rf rf ?_
 rintro y8 ⟨eX,lO,AI,lY,tJ⟩ ⟨f35,h⟩
 replace h:=lp zz h; obtain ⟨y8,rfl,h⟩:=h
 refine SC 6 rf ?_
 refine ei h rf (fun hc h=>?_) fun hc h=>?_
 ·
  obtain ⟨iS,h⟩:=cm h
  obtain ⟨jk,pK,h⟩:=cL h
  refine SC 6 rf ?_
  refine aj rfl (dg (m:=(Int.toNat eX)) f22 rfl rfl rfl (ay iS).1 (ay iS).2) ?_
  refine aj rfl (pX (M:=ai) f22 (aI.idx (L:=ai) (m:=(a0.aU.length)) (k:=2) ((Int.toNat eX)) (ay iS).2 rfl) rfl rfl (by decide)) ?_
  refine W1 rf (cU (L:=ai) (z:=iE) ⟨by kernel_rfl⟩) fun b5=>?_
  refine W0 (di (M:=ai) (aI.id (L:=ai)) (a0.aU.getD (Int.toNat eX) default) jk pK rfl rfl rfl rfl) ?_
  obtain ⟨dP,uu,h⟩:=bg h
  refine SL 4 rf ?_
  refine aj rfl (ae rfl (aN.len _ f35)) ?_
  refine aj rfl (aM rfl) ?_
  refine aj rfl (bH dR rfl) ?_
  refine aj rfl (aM rfl) ?_
  refine aj rfl (bH dL rfl) ?_
  refine CB (o4 (K:=(Hs [.ext lY tJ])) (mo f35) uu) rf rf ?_
  rintro PA lG sA ⟨BK,rfl,f46⟩
  replace f46:(bY).rep (fun w=>(Hs [.ext lY tJ]) w∧Hs [.ext lG sA] w) BK dP.1:=f46
  refine SL 3 rf ?_
  refine W1 rf (bh (hz:=(⟨by kernel_rfl⟩ : bQ Try.prog 46 fm))) fun b6=>?_
  refine ST (C:=(Hs [.ext lY tJ, .ext lG sA])) dP.1 (aI.id (L:=bY)) g6 (mo f46) rf rf rf rf rf fun H7 f49=>?_
  refine SL 10 rf ?_
  refine ei h rf (fun hc h=>?_) fun hc h=>?_
  ·
   refine SC 12 rf ?_
   have h:=sj h; subst h
   exact RV rf (rt rf rn) rf
  ·
   refine SC 3 rf ?_
   refine aj rfl (ae rfl (aN.len _ f49)) ?_
   refine ST (C:=(Hs [.ext lY tJ, .ext lG sA])) dP.1 (aI.id (L:=bY)) (mo f35) (mo f49) rf rf rf rf rf fun MM f51=>?_
   refine SL 7 rf ?_
   refine bM (R:=[.ext lG sA, .ext lY tJ]) (H':=[.cells b6 46 H7, .cells b5 57 (ai.enc jk), .cells b3 46 MM, .cells b1 71 cq]) (ks:=[1,3,0,2,4,5]) rfl (by decide) ?_
   exact LN [0,3,4] (wr .i64 (eX + 1),dP.1,MM,(bE [.ext lG sA, .ext lY tJ]),(Hs [.ext lG sA, .ext lY tJ])) ⟨(mo f51),h⟩ rf rf rf
 ·
  refine SC 6 rf ?_
  obtain ⟨Mb,Kh,_,h⟩:=fV h
  refine cJ mixed (.gB [] [(0,[1]),(1,[28]),(2,[29]),(3,[30]),(4,[1,31]),(5,[31,32]),(6,[1,31]),(7,[31,34]),(8,[31,35]),(9,[31,33,36]),(10,[31,37])] (.alt 11 [38] (.fin [] []) .no)) (by kernel_rfl) ?_
  refine T0 ?_
  refine NS 1 rf ?_
  refine NV rf rf (bq rfl (iq.int f0)) ?_
  refine NS 2 rf ?_
  refine NG rf rf (cF rfl rfl) (fun hb=>aM rfl) ?_
  refine NG rf rf (cF rfl rfl) (fun hb=>bq (bD rfl hb) (iq.int f0)) ?_
  refine NG rf rf (cF rfl rfl) (fun hb=>ae rfl (aN.len _ f0)) ?_
  refine NG rf rf (cF rfl rfl) (fun hb=>bS (mq (K:=K) (mo f0) (Kh hb)) (aA (bD rfl hb) rfl) kn) ?_
  refine NG rf rf (cF rfl rfl) (fun hb=>v8 (bD rfl hb) rfl rfl) ?_
  refine NG rf rf (cF rfl rfl) (fun hb=>n3 (bD rfl hb) (bD rfl hb)) ?_
  refine NV rf rf (cM rfl rfl) ?_
  refine aW ?_
  refine XV rf rf (bB rfl) ?_
  refine pb ?_
  refine SX 2 rf ?_
  have h:=sj h; subst h
  exact RV rf (rt rf rn) rf
structure gj where
 aU:(List (Nat→Int))
 nD:Int
abbrev fe:aN gj:=aN.via (LP (pF (LA (LI .i64) 2)) (LI .i64)) (fun x=>(x.aU,x.nD))
abbrev cE:gj:=⟨[],0⟩
def gq:List Value:=[.slice none 0 0]++([.int .i64 0])
theorem iw {A:World→Prop}:fe.rep A gq cE:=⟨_,_,rfl,⟨_,rfl,Fz.nil⟩,rfl⟩
theorem dW:aI fe (pF (LA (LI .i64) 2)) 0 (fun x=>x.aU) (fun x v=>{ x with aU:=v }):=(aI.fst aI.id).via _ _ _ 0 rfl (fun _=>rfl) (fun _ _=>rfl)
theorem iG:aI fe (LI .i64) 1 (fun x=>x.nD) (fun x v=>{ x with nD:=v }):=(aI.snd aI.id).via _ _ _ 1 rfl (fun _=>rfl) (fun _ _=>rfl)
def j4 (n:Nat) (a0:cu) (a1:gj):Option Bool:=
 cn ((((a0.aU.length:Int) != (a1.aU.length:Int)) || (a0.nD != a1.nD))) (
 some false) (
 dF (fun Bf (dx:Int) =>
 cn (decide (dx < (a0.aU.length:Int))) (
 gu (dH dx a0.aU.length) <|
 gu (dH dx a1.aU.length) <|
 gu (!((((a0.aU.getD (Int.toNat dx) default).At) != ((a1.aU.getD (Int.toNat dx) default) 0)) == false) || dH dx a0.aU.length) <|
 gu (!((((a0.aU.getD (Int.toNat dx) default).At) != ((a1.aU.getD (Int.toNat dx) default) 0)) == false) || dH dx a1.aU.length) <|
 cn (((((a0.aU.getD (Int.toNat dx) default).At) != ((a1.aU.getD (Int.toNat dx) default) 0)) || (((a0.aU.getD (Int.toNat dx) default).N) != ((a1.aU.getD (Int.toNat dx) default) 1)))) (
 some false) (
 Bf (wr .i64 (dx + 1)))) (
 some true)) n 0)
theorem tf {n a0 a1 r K} [bu K] {cq} (f0:(cB).rep K cq a0) {kX:List Value} (f1:(fe).rep K kX a1) (h:j4 n a0 a1 = some r):qU Try.prog 116 [A cq,A kX] K (.bool r):=by
 unfold j4 at h
 refine fo Try.func116 (by kernel_rfl) rfl Try.ntmps116 rfl fun cx _ hro cZ hpre=>?_
 refine SC 2 rf ?_
 refine W1 rf (bA rfl) fun b2=>?_
 refine W1 rf (bA rfl) fun b3=>?_
 refine SL 7 rf ?_
 obtain ⟨IS,sS,f22⟩:=dO.sl f0
 refine aj rfl (bq rfl sS) ?_
 refine aj rfl (cS f22 rfl) ?_
 refine aj rfl (aM rfl) ?_
 obtain ⟨q8,Kr,f24⟩:=dW.sl f1
 refine aj rfl (bq rfl Kr) ?_
 refine aj rfl (cS f24 rfl) ?_
 refine SL 2 rf ?_
 refine GB rf rf rf (fun hb=>aM rfl) ?_
 refine GB rf rf rf (fun hb=>bq (bD rfl hb) (iq.int f0)) ?_
 refine GB rf rf rf (fun hb=>aM rfl) ?_
 refine GB rf rf rf (fun hb=>bq (bD rfl hb) (iG.int f1)) ?_
 refine GB rf rf rf (fun hb=>mU (bD rfl hb) (bD rfl hb)) ?_
 refine aj rfl (eu rfl rfl) ?_
 refine SL 2 rf ?_
 refine ei h rf (fun hc h=>?_) fun hc h=>?_
 ·
  refine SC 7 rf ?_
  have h:=sj h; subst h
  exact RV rf (rt rf rn) rf
 ·
  refine SC 9 rf ?_
  obtain ⟨JM,G5,h⟩:=kJ h
  refine LO (β:=Int) [2,3] [0,1] (fun (F7,dx)=>[(5, .int .i64 dx)]) (fun (F7,dx)=>[.cells b3 80 kX, .cells b2 71 cq]) (fun (F7,dx)=>dF JM F7 dx = some r) (n,0) h rf rf rf ?_
  rintro F7 dx h
  replace h:=kI G5 h; obtain ⟨F7,rfl,h⟩:=h
  refine SC 5 rf ?_
  obtain ⟨v30,Kq,f31⟩:=dO.sl f0
  refine aj rfl (bq rfl Kq) ?_
  refine aj rfl (cS f31 rfl) ?_
  refine SL 3 rf ?_
  refine ei h rf (fun hc h=>?_) fun hc h=>?_
  ·
   refine SC 5 rf ?_
   obtain ⟨nk,h⟩:=cm h
   obtain ⟨oW,h⟩:=cm h
   obtain ⟨mh,h⟩:=cm h
   obtain ⟨ru,h⟩:=cm h
   refine cJ mixed (.fin [] [(0,[2]),(1,[27]),(2,[5]),(3,[28,29]),(4,[30]),(5,[31]),(6,[3]),(7,[33]),(8,[5]),(9,[34,35]),(10,[36]),(11,[37]),(12,[32,38]),(13,[39]),(14,[2,40]),(15,[40,41]),(16,[5,40]),(17,[40,42,43]),(18,[40,44]),(19,[40,45]),(20,[3,40]),(21,[40,47]),(22,[5,40]),(23,[40,48,49]),(24,[40,50]),(25,[40,51]),(26,[40,46,52]),(27,[40,53])]) (by kernel_rfl) ?_
   refine F0 ?_
   refine NS 1 rf ?_
   obtain ⟨AB,DC,f33⟩:=dO.sl f0
   refine NV rf rf (bq rfl DC) ?_
   refine NS 1 rf ?_
   refine NV rf rf (dg (m:=(Int.toNat dx)) f33 rfl rfl rfl (ay nk).1 (ay nk).2) ?_
   refine NV rf rf (wU f33 rfl (ay nk).2) ?_
   refine NV rf rf (dc f33 ((aI.idx (L:=ai) (m:=(a0.aU.length)) (k:=2) ((Int.toNat dx)) (ay nk).2 rfl).comp dR) rfl) ?_
   refine NS 1 rf ?_
   obtain ⟨PJ,Km,f36⟩:=dW.sl f1
   refine NV rf rf (bq rfl Km) ?_
   refine NS 1 rf ?_
   refine NV rf rf (dg (m:=(Int.toNat dx)) f36 rfl rfl rfl (ay oW).1 (ay oW).2) ?_
   refine NV rf rf (qM (m:=0) f36 rfl rfl (ay oW).2 rfl (by decide)) ?_
   refine NV rf rf (dc f36 ((aI.idx (L:=(LA (LI .i64) 2)) (m:=(a1.aU.length)) (k:=2) ((Int.toNat dx)) (ay oW).2 rfl).comp (aI.idx (L:=(LI .i64)) (m:=2) (k:=1) (0) (by decide) rfl)) rfl) ?_
   refine NS 2 rf ?_
   refine NG rf rf (cF rfl rfl) (fun hb=>aM rfl) ?_
   obtain ⟨Mf,Kl,f39⟩:=uB (g:=((((a0.aU.getD (Int.toNat dx) default).At) != ((a1.aU.getD (Int.toNat dx) default) 0)) == false)) (fun hb=>dO.sl f0)
   refine NG rf rf (cF rfl rfl) (fun hb=>bq (bD rfl hb) (Kl hb)) ?_
   refine NG rf rf (cF rfl rfl) (fun hb=>au rfl) ?_
   refine NG rf rf (cF rfl rfl) (fun hb=>dg (m:=(Int.toNat dx)) (f39 hb) rfl (bD rfl hb) (bD rfl hb) (ay (gQ mh hb)).1 (ay (gQ mh hb)).2) ?_
   refine NG rf rf (cF rfl rfl) (fun hb=>wU (f39 hb) (bD rfl hb) (ay (gQ mh hb)).2) ?_
   refine NG rf rf (cF rfl rfl) (fun hb=>dc (f39 hb) ((aI.idx (L:=ai) (m:=(a0.aU.length)) (k:=2) ((Int.toNat dx)) (ay (gQ mh hb)).2 rfl).comp dL) (bD rfl hb)) ?_
   refine NG rf rf (cF rfl rfl) (fun hb=>aM rfl) ?_
   obtain ⟨PI,Kk,f42⟩:=uB (g:=((((a0.aU.getD (Int.toNat dx) default).At) != ((a1.aU.getD (Int.toNat dx) default) 0)) == false)) (fun hb=>dW.sl f1)
   refine NG rf rf (cF rfl rfl) (fun hb=>bq (bD rfl hb) (Kk hb)) ?_
   refine NG rf rf (cF rfl rfl) (fun hb=>au rfl) ?_
   refine NG rf rf (cF rfl rfl) (fun hb=>dg (m:=(Int.toNat dx)) (f42 hb) rfl (bD rfl hb) (bD rfl hb) (ay (gQ ru hb)).1 (ay (gQ ru hb)).2) ?_
   refine NG rf rf (cF rfl rfl) (fun hb=>qM (m:=1) (f42 hb) (bD rfl hb) rfl (ay (gQ ru hb)).2 rfl (by decide)) ?_
   refine NG rf rf (cF rfl rfl) (fun hb=>dc (f42 hb) ((aI.idx (L:=(LA (LI .i64) 2)) (m:=(a1.aU.length)) (k:=2) ((Int.toNat dx)) (ay (gQ ru hb)).2 rfl).comp (aI.idx (L:=(LI .i64)) (m:=2) (k:=1) (1) (by decide) rfl)) (bD rfl hb)) ?_
   refine NG rf rf (cF rfl rfl) (fun hb=>mU (bD rfl hb) (bD rfl hb)) ?_
   refine NV rf rf (eu rfl rfl) ?_
   refine aW ?_
   refine iA ?_
   refine ei h rf (fun hc h=>?_) fun hc h=>?_
   ·
    refine SC 11 rf ?_
    have h:=sj h; subst h
    exact RV rf (rt rf rn) rf
   ·
    refine SC 8 rf ?_
    exact LN [0,1] (wr .i64 (dx + 1)) h rf rf rf
  ·
   refine SC 11 rf ?_
   have h:=sj h; subst h
   exact RV rf (rt rf rn) rf
def cT (n:Nat) (a0:gj):Option Bool:=
 jZ (fun Bd (dx:Int) (cw:Int) (ef:(Nat→Bool)) =>
 cn (decide (cw < (a0.aU.length:Int))) (
 gu (dH cw a0.aU.length) <|
 gu (dH cw a0.aU.length) <|
 cn (((((decide (((a0.aU.getD (Int.toNat cw) default) 1) < 1) || decide (64 < ((a0.aU.getD (Int.toNat cw) default) 1))) || decide (((a0.aU.getD (Int.toNat cw) default) 0) < 0)) || decide (63 < ((a0.aU.getD (Int.toNat cw) default) 0))) || decide (64 < (wr .i64 (((a0.aU.getD (Int.toNat cw) default) 0) + ((a0.aU.getD (Int.toNat cw) default) 1)))))) (
 some false) (
 dD (fun F9 (qX:Int) (u7:(Nat→Bool)) =>
 cn (decide (qX < (wr .i64 (((a0.aU.getD (Int.toNat cw) default) 0) + ((a0.aU.getD (Int.toNat cw) default) 1))))) (
 gu (dH qX 64) <|
 cn ((u7 (Int.toNat qX))) (
 some false) (
 gu (dH qX 64) <|
 lt ((er u7 (Int.toNat qX) true):(Nat→Bool)) fun nF =>
 F9 (wr .i64 (qX + 1)) nF)) (
 Bd (wr .i64 (dx + ((a0.aU.getD (Int.toNat cw) default) 1))) (wr .i64 (cw + 1)) u7)) n ((a0.aU.getD (Int.toNat cw) default) 0) ef)) (
 some (decide (0 ≤ a0.nD) && decide (a0.nD ≤ (wr .i64 (32 * dx)))))) n 0 0 (fun _=>false)
theorem nV {n a0 r K} [bu K] {cq} (f0:(fe).rep K cq a0) (h:cT n a0 = some r):qU Try.prog 154 [A cq] K (.bool r):=by
 unfold cT at h
 refine fo Try.func154 (by kernel_rfl) rfl Try.ntmps154 rfl fun cx _ hro cZ hpre=>?_
 refine SC 2 rf ?_
 refine W1 rf (bA rfl) fun b1=>?_
 refine SL 5 rf ?_
 refine W1 rf (cU (L:=(LA LB 64)) (z:=(fun _=>false)) ⟨by kernel_rfl⟩) fun b3=>?_
 refine SL 14 rf ?_
 obtain ⟨JK,G3,h⟩:=wG h
 refine LO (β:=Int × Int × (Nat→Bool)) [1,3] [0,1] (fun (F5,dx,cw,ef)=>[(4, .int .i64 dx),(5, .int .i64 cw)]) (fun (F5,dx,cw,ef)=>[.cells b3 37 ((LA LB 64).enc ef), .cells b1 80 cq]) (fun (F5,dx,cw,ef)=>jZ JK F5 dx cw ef = some r) (n,0,0,(fun _=>false)) h rf rf rf ?_
 rintro F5 ⟨dx,cw,ef⟩ h
 replace h:=wF G3 h; obtain ⟨F5,rfl,h⟩:=h
 refine SC 5 rf ?_
 obtain ⟨AB,DC,f33⟩:=dW.sl f0
 refine aj rfl (bq rfl DC) ?_
 refine aj rfl (cS f33 rfl) ?_
 refine SL 3 rf ?_
 refine ei h rf (fun hc h=>?_) fun hc h=>?_
 ·
  refine SC 5 rf ?_
  obtain ⟨lB,h⟩:=cm h
  obtain ⟨iS,h⟩:=cm h
  refine cJ mixed (.gB [] [(0,[1]),(1,[16]),(2,[5]),(3,[17,18]),(4,[19]),(5,[20]),(6,[1]),(7,[22]),(8,[5]),(9,[23,24]),(10,[25]),(11,[26])] (.alt 12 [21] (.gB [(6,[1]),(7,[22]),(8,[5]),(9,[23,24]),(10,[25]),(11,[26])] [] (.alt 13 [27] (.fin [] []) .no)) .no)) (by kernel_rfl) ?_
  refine T0 ?_
  refine NS 1 rf ?_
  obtain ⟨Nv,Ko,f35⟩:=dW.sl f0
  refine NV rf rf (bq rfl Ko) ?_
  refine NS 1 rf ?_
  refine NV rf rf (dg (m:=(Int.toNat cw)) f35 rfl rfl rfl (ay lB).1 (ay lB).2) ?_
  refine NV rf rf (qM (m:=0) f35 rfl rfl (ay lB).2 rfl (by decide)) ?_
  refine NV rf rf (dc f35 ((aI.idx (L:=(LA (LI .i64) 2)) (m:=(a0.aU.length)) (k:=2) ((Int.toNat cw)) (ay lB).2 rfl).comp (aI.idx (L:=(LI .i64)) (m:=2) (k:=1) (0) (by decide) rfl)) rfl) ?_
  refine NS 1 rf ?_
  obtain ⟨Ce,Gv,f38⟩:=dW.sl f0
  refine NV rf rf (bq rfl Gv) ?_
  refine NS 1 rf ?_
  refine NV rf rf (dg (m:=(Int.toNat cw)) f38 rfl rfl rfl (ay iS).1 (ay iS).2) ?_
  refine NV rf rf (qM (m:=1) f38 rfl rfl (ay iS).2 rfl (by decide)) ?_
  refine NV rf rf (dc f38 ((aI.idx (L:=(LA (LI .i64) 2)) (m:=(a0.aU.length)) (k:=2) ((Int.toNat cw)) (ay iS).2 rfl).comp (aI.idx (L:=(LI .i64)) (m:=2) (k:=1) (1) (by decide) rfl)) rfl) ?_
  refine aW ?_
  refine XV rf rf (bB rfl) ?_
  refine dQ ?_ ?_
  ·
   refine Iw 1 rf rf ?_
   refine RO rf rf (bq rfl Gv) rf ?_
   refine Iw 1 rf rf ?_
   refine RO rf rf (dg (m:=(Int.toNat cw)) f38 rfl rfl rfl (ay iS).1 (ay iS).2) rf ?_
   refine RO rf rf (qM (m:=1) f38 rfl rfl (ay iS).2 rfl (by decide)) rf ?_
   refine RO rf rf (dc f38 ((aI.idx (L:=(LA (LI .i64) 2)) (m:=(a0.aU.length)) (k:=2) ((Int.toNat cw)) (ay iS).2 rfl).comp (aI.idx (L:=(LI .i64)) (m:=2) (k:=1) (1) (by decide) rfl)) rfl) rf ?_
   exact ku
  refine aW ?_
  refine XV rf rf (bB rfl) ?_
  refine pb ?_
  refine SX 7 rf ?_
  refine GB rf rf rf (fun hb=>au rfl) ?_
  refine GB rf rf rf (fun hb=>mW (bD rfl hb) rfl) ?_
  refine aj rfl (eu rfl rfl) ?_
  refine aj rfl (au rfl) ?_
  refine GB rf rf rf (fun hb=>au rfl) ?_
  refine GB rf rf rf (fun hb=>Aj (bD rfl hb) rfl) ?_
  refine aj rfl (eu rfl rfl) ?_
  refine aj rfl (au rfl) ?_
  refine GB rf rf rf (fun hb=>au rfl) ?_
  refine GB rf rf rf (fun hb=>mW (bD rfl hb) rfl) ?_
  refine aj rfl (eu rfl rfl) ?_
  refine aj rfl (au rfl) ?_
  refine GB rf rf rf (fun hb=>au rfl) ?_
  refine GB rf rf rf (fun hb=>au rfl) ?_
  refine GB rf rf rf (fun hb=>qN (bD rfl hb) (bD rfl hb) rfl) ?_
  refine GB rf rf rf (fun hb=>mW (bD rfl hb) rfl) ?_
  refine aj rfl (eu rfl rfl) ?_
  refine SL 2 rf ?_
  refine ei h rf (fun hc h=>?_) fun hc h=>?_
  ·
   refine SC 12 rf ?_
   have h:=sj h; subst h
   exact RV rf (rt rf rn) rf
  ·
   refine SC 10 rf ?_
   obtain ⟨Dh,zx,h⟩:=lq h
   refine LO (β:=Int × (Nat→Bool)) [1,3,4,5,6,7] [0,1] (fun (y6,qX,u7)=>[(8, .int .i64 qX)]) (fun (y6,qX,u7)=>[.cells b3 37 ((LA LB 64).enc u7), .cells b1 80 cq]) (fun (y6,qX,u7)=>dD Dh y6 qX u7 = some r) (n,((a0.aU.getD (Int.toNat cw) default) 0),ef) h rf rf rf ?_
   rintro y6 ⟨qX,u7⟩ h
   replace h:=lp zx h; obtain ⟨y6,rfl,h⟩:=h
   refine SC 10 rf ?_
   refine ei h rf (fun hc h=>?_) fun hc h=>?_
   ·
    obtain ⟨ob,h⟩:=cm h
    refine SC 8 rf ?_
    refine aj rfl (fY (m:=(Int.toNat qX)) rfl rfl (ay ob).1 (ay ob).2) ?_
    refine aj rfl (mV (aI.idx (L:=LB) (m:=64) (k:=1) ((Int.toNat qX)) (ay ob).2 rfl) rfl) ?_
    refine SL 2 rf ?_
    refine ei h rf (fun hc h=>?_) fun hc h=>?_
    ·
     refine SC 17 rf ?_
     have h:=sj h; subst h
     exact RV rf (rt rf rn) rf
    ·
     obtain ⟨vG,h⟩:=cm h
     obtain ⟨nF,vA,h⟩:=cL h
     refine SC 4 rf ?_
     refine aj rfl (fY (m:=(Int.toNat qX)) rfl rfl (ay vG).1 (ay vG).2) ?_
     refine W0 (di (M:=LB) (aI.idx (L:=LB) (m:=64) (k:=1) ((Int.toNat qX)) (ay vG).2 rfl) true nF vA rfl rfl rfl rfl) ?_
     refine SL 8 rf ?_
     exact LN [0,1] (wr .i64 (qX + 1),nF) h rf rf rf
   ·
    refine SC 18 rf ?_
    exact LN [0,1] (wr .i64 (dx + ((a0.aU.getD (Int.toNat cw) default) 1)),wr .i64 (cw + 1),u7) h rf rf rf
 ·
  refine SC 8 rf ?_
  refine aj rfl (bq rfl (iG.int f0)) ?_
  refine SL 2 rf ?_
  refine GB rf rf rf (fun hb=>aM rfl) ?_
  refine GB rf rf rf (fun hb=>bq (bD rfl hb) (iG.int f0)) ?_
  refine GB rf rf rf (fun hb=>au rfl) ?_
  refine GB rf rf rf (fun hb=>v8 rfl (bD rfl hb) rfl) ?_
  refine GB rf rf rf (fun hb=>n3 (bD rfl hb) (bD rfl hb)) ?_
  refine aj rfl (cM rfl rfl) ?_
  refine SL 4 rf ?_
  have h:=sj h; subst h
  exact RV rf (rt rf rn) rf
end Go.Proofs.Ytmdpbdhkmfjlhaa
namespace Go.Proofs.Ytmdpbdhkmfjlhaa
open Go Go.Bw
abbrev Rn:=aP
structure Can (l:List Rn):Prop where
  iK:∀y ∈ l,0 ≤ y.At∧1 ≤ y.N∧y.At + y.N ≤ 64
  pw:l.Pairwise fun y z=>y.At + y.N < z.At
def dA (l:List Rn) (p:Int):Prop:=∃y ∈ l,y.At ≤ p∧p < y.At + y.N
def u9 (at_ k:Int):Prop:=1 ≤ k∧0 ≤ at_∧at_ + k ≤ 64
instance (a k:Int):Decidable (u9 a k):=by unfold u9; infer_instance
def AN (x:Int):Prop:=-9223372036854775808 ≤ x∧x ≤ 9223372036854775807
theorem Can.nil:Can []:=⟨by simp, .nil⟩
theorem uI:∀{l:List Rn} {lo:Int},Can l→(∀y ∈ l,lo ≤ y.At)→lo ≤ 65→(l.length:Int) * 2 ≤ 65 - lo
  | [],lo,_,_,h=>by simp; omega
  | y::r,lo,h,hl,_=>by
    obtain ⟨h1,h2⟩:=List.pairwise_cons.1 h.pw
    have hy:=h.iK y (by simp)
    have hy':=hl y (by simp)
    have:=uI (l:=r) (lo:=y.At + y.N + 1) ⟨fun z hz=>h.iK z (by simp [hz]),h2⟩ (fun z hz=>by have:=h1 z hz; omega) (by omega)
    simp only [List.length_cons]; omega
theorem Can.len {l:List Rn} (h:Can l):l.length ≤ 32:=by
  have:=uI (lo:=0) h (fun y hy=>(h.iK y hy).1) (by omega)
  omega
theorem Can.two {l:List Rn} (h:Can l) {y z:Rn} (hy:y ∈ l) (hz:z ∈ l):y = z∨y.At + y.N < z.At∨z.At + z.N < y.At:=by
  have:=h.pw
  clear h
  induction l with
  | nil=>simp at hy
  | cons x r ih =>
    obtain ⟨h1,h2⟩:=List.pairwise_cons.1 this
    rcases List.mem_cons.1 hy with rfl | hy' <;> rcases List.mem_cons.1 hz with rfl | Mk
    · exact .inl rfl
    · exact .inr (.inl (h1 z Mk))
    · exact .inr (.inr (h1 y hy'))
    · exact ih hy' Mk h2
theorem qf (p:Int):¬ dA [] p:=by simp [dA]
theorem oO {y:Rn} {r:List Rn} {p:Int}:dA (y::r) p↔(y.At ≤ p∧p < y.At + y.N)∨dA r p:=by simp [dA]
theorem fQ {l r:List Rn} {p:Int}:dA (l++r) p↔dA l p∨dA r p:=by simp [dA,or_and_right,exists_or]
theorem uq {l:List Rn} (h:Can l) {p:Int} (hp:dA l p):0 ≤ p∧p < 64:=by
  obtain ⟨y,hy,h1,h2⟩:=hp
  have:=h.iK y hy
  omega
theorem Can.whole {l:List Rn} (h:Can l) {at_ k:Int} (hk:1 ≤ k) (hm:∀p,at_ ≤ p→p < at_ + k→dA l p):∃y ∈ l,y.At ≤ at_∧at_ + k ≤ y.At + y.N:=by
  obtain ⟨y,hy,h1,h2⟩:=hm at_ (by omega) (by omega)
  refine ⟨y,hy,h1,?_⟩
  refine Int.not_lt.1 fun hlt=>?_
  obtain ⟨z,hz,h3,h4⟩:=hm (y.At + y.N) (by omega) (by omega)
  rcases h.two hy hz with rfl | h5 | h5
  · omega
  · omega
  · have:=h.iK z hz; omega
theorem all_eq {n:Nat} {l:List Rn} (hl:l.length ≤ 100) (hn:110 ≤ n):∃xs,fq n l = some xs∧xs.map Prod.snd = l:=by
  unfold fq
  have key:∀(m x:Nat),x ≤ l.length→l.length - x < m→∃xs,dF (fun E6 (eo:Int)=>cn (decide (eo < (l.length:Int))) (gu (dH eo l.length) <| lt ((l.getD (Int.toNat eo) default):aP) fun m8=>yl (eo,m8) <| E6 (wr .i64 (eo + 1))) (some [])) m (x:Int) = some xs∧xs.map Prod.snd = l.drop x:=by
    intro m
    induction m with
    | zero=>intro x _ h; omega
    | succ m ih =>
      intro x hx hm
      simp only [dF]
      by_cases hc:x < l.length
      · rw [aK (by simpa using hc),aD (cD (by omega) (by omega)),lt_eq,bT (by omega) (by omega)]
        obtain ⟨xs,h1,h2⟩:=ih (x + 1) (by omega) (by omega)
        have e:((x:Int) + 1) = ((x + 1:Nat):Int):=by omega
        rw [e,h1]
        refine ⟨_,rfl,?_⟩
        rw [List.map_cons,h2,List.drop_eq_getElem_cons hc,Int.toNat_natCast,List.getD,List.getElem?_eq_getElem hc]
        rfl
      · rw [ax (by simpa using hc)]
        exact ⟨[],rfl,by rw [List.drop_eq_nil_of_le (by omega)]; rfl⟩
  obtain ⟨xs,h1,h2⟩:=key n 0 (by omega) (by omega)
  exact ⟨xs,h1,by simpa using h2⟩
theorem BE (n:Nat) (r:cC):iO n r = some r.l:=rfl
theorem Dg {n:Nat} {at_ k:Int} (ha:AN at_) (hk:AN k):∃b,jN n ⟨at_,k⟩ = some b∧(b = true↔u9 at_ k):=by
  obtain ⟨a1,a2⟩:=ha
  obtain ⟨k1,k2⟩:=hk
  refine ⟨_,rfl,?_⟩
  show ((decide (1 ≤ k) && decide (0 ≤ at_)) && decide (at_ ≤ wr .i64 (64 - k))) = true↔_
  unfold u9
  by_cases h:1 ≤ k
  · rw [bT (by omega) (by omega)]; simp; omega
  · simp [h]
theorem zR {n:Nat} {y:Rn} (h:0 ≤ y.At∧1 ≤ y.N∧y.At + y.N ≤ 64):cW n y = some (y.At + y.N):=by
  unfold cW; rw [bT (by omega) (by omega)]
theorem Can.cut {l:List Rn} (h:Can l) {i:Nat} (hi:i < l.length) {left:List Rn} {at_ k:Int} (hk:1 ≤ k) (hin:l[i].At ≤ at_∧at_ + k ≤ l[i].At + l[i].N)
    (hl:Can left) (hm:∀p,dA left p↔(l[i].At ≤ p∧p < l[i].At + l[i].N)∧¬ (at_ ≤ p∧p < at_ + k)) (hb:∀y ∈ left,l[i].At ≤ y.At∧y.At + y.N ≤ l[i].At + l[i].N) :
    Can (l.take i++left++l.drop (i + 1))∧∀p,dA (l.take i++left++l.drop (i + 1)) p↔dA l p∧¬ (at_ ≤ p∧p < at_ + k):=by
  have e:l = l.take i++l[i]::l.drop (i + 1):=by rw [← List.drop_eq_getElem_cons hi,List.take_append_drop]
  generalize hy:l[i] = y at *
  have zq:=h.pw
  rw [e] at zq
  obtain ⟨q1,q2,q3⟩:=List.pairwise_append.1 zq
  obtain ⟨q4,q5⟩:=List.pairwise_cons.1 q2
  have Cs:y ∈ l:=by rw [e]; simp
  have Gj:=h.iK y Cs
  refine ⟨⟨?_,?_⟩,fun p=>?_⟩
  · intro z hz
    rcases List.mem_append.1 hz with hz | hz
    · rcases List.mem_append.1 hz with hz | hz
      · exact h.iK z (List.mem_of_mem_take hz)
      · exact hl.iK z hz
    · exact h.iK z (List.mem_of_mem_drop hz)
  · refine List.pairwise_append.2 ⟨List.pairwise_append.2 ⟨q1,hl.pw,fun a ha b hb'=>?_⟩,q5,fun a ha b hb'=>?_⟩
    · have:=q3 a ha y (by simp); have:=hb b hb'; omega
    · rcases List.mem_append.1 ha with ha | ha
      · exact q3 a ha b (by simp [hb'])
      · have:=q4 b hb'; have:=hb a ha; omega
  · have hp:dA l p↔dA (l.take i) p∨(y.At ≤ p∧p < y.At + y.N)∨dA (l.drop (i + 1)) p:=by
      conv=>lhs; rw [e,fQ,oO]
    rw [fQ,fQ,hm p,hp]
    have t1:dA (l.take i) p→p < y.At:=fun ⟨z,hz,h1,h2⟩=>by have:=q3 z hz y (by simp); omega
    have t2:dA (l.drop (i + 1)) p→y.At + y.N < p:=fun ⟨z,hz,h1,h2⟩=>by have:=q4 z hz; omega
    constructor
    · rintro ((c | ⟨c1,c2⟩) | c)
      · have:=t1 c; exact ⟨.inl c,by omega⟩
      · exact ⟨.inr (.inl c1),c2⟩
      · have:=t2 c; exact ⟨.inr (.inr c),by omega⟩
    · rintro ⟨c | c | c,d⟩
      · exact .inl (.inl c)
      · exact .inl (.inr ⟨c,d⟩)
      · exact .inr c
end Go.Proofs.Ytmdpbdhkmfjlhaa
namespace Go.Proofs.Ytmdpbdhkmfjlhaa
open Go Go.Bw
structure GI (l:List Rn) (at_ k:Int) (pre rest:List Rn) (put:Bool) (out:List Rn) (x:Rn):Prop where
  e:l = pre++rest
  free:∀p,dA pre p→¬ (at_ ≤ p∧p < at_ + k)
  lo:x.At ≤ at_∧(x.At = at_∨∃z ∈ pre,z.At + z.N = at_)
  hi:at_ + k ≤ x.At + x.N∧(x.At + x.N = at_ + k∨∃z ∈ pre,z.At + z.N = x.At + x.N)
  iK:0 ≤ x.At∧1 ≤ x.N∧x.At + x.N ≤ 64
  off:put = false→Can (out++[x])∧(∀z ∈ out,z ∈ pre)∧∀p,dA (out++[x]) p↔dA pre p∨(at_ ≤ p∧p < at_ + k)
  on:put = true→Can out∧(∀z ∈ out,z ∈ pre∨z = x)∧(∃z ∈ pre,x.At + x.N < z.At)∧∀p,dA out p↔dA pre p∨(at_ ≤ p∧p < at_ + k)
theorem jy {l:List Rn} {y:Rn} (h:Can l) (hy:0 ≤ y.At∧1 ≤ y.N∧y.At + y.N ≤ 64) (ha:∀z ∈ l,z.At + z.N < y.At):Can (l++[y]):=
  ⟨fun z hz=>by
    rcases List.mem_append.1 hz with hz | hz
    · exact h.iK z hz
    · rw [List.mem_singleton.1 hz]; exact hy,
   List.pairwise_append.2 ⟨h.pw,List.pairwise_singleton _ _,fun a OD b hb=>by rw [List.mem_singleton.1 hb]; exact ha a OD⟩⟩
theorem Can.init {l:List Rn} {y:Rn} (h:Can (l++[y])):Can l:=⟨fun z hz=>h.iK z (by simp [hz]),(List.pairwise_append.1 h.pw).1⟩
theorem Can.last {l:List Rn} {y:Rn} (h:Can (l++[y])):∀z ∈ l,z.At + z.N < y.At:=fun z hz=>(List.pairwise_append.1 h.pw).2.2 z hz y (by simp)
theorem fu {y:Rn} {p:Int}:dA [y] p↔y.At ≤ p∧p < y.At + y.N:=by rw [oO]; simp [dA]
def HL (r' : cC) (g:Bool) (l:List Rn) (r:cC) (at_ k:Int):Prop:=
  (g = true↔∀p,at_ ≤ p→p < at_ + k→¬ dA l p)∧(g = false→r' = r)∧(g = true→Can r'.l∧∀p,dA r'.l p↔dA l p∨(at_ ≤ p∧p < at_ + k))
theorem By {n:Nat} {r:cC} {l:List Rn} (hl:Can l) {at_ k:Int} (ho:u9 at_ k):∀(xs:List (Int × Rn)) (pre:List Rn) (put:Bool) (out:List Rn) (x:Rn),GI l at_ k pre (xs.map Prod.snd) put out x →
    ∃r' g,pJ (fun (HP:Int × aP) Bc (gA:Bool) (fh:(List aP)) (dP:aP) =>
      lt (HP.1:Int) fun tP =>
      lt (HP.2:aP) fun oI =>
      bd (cW n oI) fun yc =>
      cn (decide (yc < dP.At)) (
      gu (kV fh.length 1 16) <|
      lt (fh++([oI]):List aP) fun jF =>
      Bc gA jF dP) (
      bd (cW n dP) fun yt =>
      cn (decide (yt < oI.At)) (
      lt (fun (sB:Bool) (kY:(List aP)) =>
      gu (kV kY.length 1 16) <|
      lt (kY++([oI]):List aP) fun oJ =>
      Bc sB oJ dP) fun Cq =>
      cn ((!gA)) (
      gu (kV fh.length 1 16) <|
      lt (fh++([dP]):List aP) fun kz =>
      Cq true kz) (
      Cq gA fh)) (
      bd (cW n oI) fun vg =>
      cn ((vg == dP.At)) (
      lt ({ At:=oI.At,N:=wr .i64 (oI.N + dP.N) }:aP) fun Cc =>
      Bc gA fh Cc) (
      bd (cW n dP) fun xb =>
      cn ((oI.At == xb)) (
      lt ({ dP with N:=wr .i64 (dP.N + oI.N) }:aP) fun E2 =>
      Bc gA fh E2) (
      some (r,false)))))) (fun (gA:Bool) (fh:(List aP)) (dP:aP) =>
      cn ((!gA)) (
      gu (kV fh.length 1 16) <|
      lt (fh++([dP]):List aP) fun m6 =>
      lt ({ l:=m6 }:cC) fun va =>
      some (va,true)) (
      lt ({ l:=fh }:cC) fun CR =>
      some (CR,true))) xs put out x = some (r',g)∧HL r' g l r at_ k:=by
  intro xs
  induction xs with
  | nil =>
    intro pre put out x h
    have e:l = pre:=by have:=h.e; simpa using this
    subst e
    show ∃r' g,cn (!put) (gu (kV out.length 1 16) <| some ((⟨out++[x]⟩ : cC),true)) (some ((⟨out⟩ : cC),true)) = some (r',g)∧_
    have hfree:∀p,at_ ≤ p→p < at_ + k→¬ dA l p:=fun p h1 h2 hm=>h.free p hm ⟨h1,h2⟩
    cases put with
    | false =>
      obtain ⟨c1,c2,c3⟩:=h.off rfl
      have:=c1.init.len
      rw [aK (b:=!false) rfl,aD (ko (by omega) (by omega))]
      exact ⟨_,true,rfl,⟨fun _=>hfree,fun _=>rfl⟩,fun h=>(by cases h),fun _=>⟨c1,c3⟩⟩
    | true =>
      obtain ⟨c1,c2,c3,c4⟩:=h.on rfl
      rw [ax (b:=!true) rfl]
      exact ⟨_,true,rfl,⟨fun _=>hfree,fun _=>rfl⟩,fun h=>(by cases h),fun _=>⟨c1,c4⟩⟩
  | cons q xs ih =>
    obtain ⟨qi,y⟩:=q
    intro pre put out x h
    have he:l = (pre++[y])++xs.map Prod.snd:=by rw [h.e]; simp
    have Cs:y ∈ l:=by rw [h.e]; simp
    have Gj:=hl.iK y Cs
    have hpre:∀z ∈ pre,z.At + z.N < y.At:=fun z hz=>by
      have zq:=hl.pw
      rw [he] at zq
      exact (List.pairwise_append.1 (List.pairwise_append.1 zq).1).2.2 z hz y (by simp)
    have JS:∀z ∈ pre,0 ≤ z.At∧1 ≤ z.N∧z.At + z.N ≤ 64:=fun z hz=>hl.iK z (by rw [h.e]; simp [hz])
    obtain ⟨o1,o2,o3⟩:=ho
    obtain ⟨IV,Jy⟩:=h.lo
    obtain ⟨K3,yf⟩:=h.hi
    have Gk:=h.iK
    have ey:cW n y = some (y.At + y.N):=zR Gj
    have ex:cW n x = some (x.At + x.N):=zR Gk
    have hfree:(∀p,y.At ≤ p→p < y.At + y.N→¬ (at_ ≤ p∧p < at_ + k))→∀p,dA (pre++[y]) p→¬ (at_ ≤ p∧p < at_ + k):=fun hy p hp=>by
      rcases fQ.1 hp with hp | hp
      · exact h.free p hp
      · obtain ⟨h1,h2⟩:=fu.1 hp; exact hy p h1 h2
    have qu:∀{z},z ∈ pre→z ∈ pre++[y]:=fun hz=>by simp [hz]
    have hlo:x.At = at_∨∃z ∈ pre++[y],z.At + z.N = at_:=Jy.imp id fun ⟨z,hz,e⟩=>⟨z,qu hz,e⟩
    have hhi:x.At + x.N = at_ + k∨∃z ∈ pre++[y],z.At + z.N = x.At + x.N:=yf.imp id fun ⟨z,hz,e⟩=>⟨z,qu hz,e⟩
    have GO:∀p,dA (pre++[y]) p↔dA pre p∨(y.At ≤ p∧p < y.At + y.N):=fun p=>by rw [fQ,fu]
    have hput:put = true→x.At + x.N < y.At:=fun hp=>by obtain ⟨z,hz,h1⟩:=(h.on hp).2.2.1; have:=hpre z hz; have:=JS z hz; omega
    simp only [pJ]
    dsimp only [lt]
    rw [av ey]
    by_cases c1:y.At + y.N < x.At
    · have hf:put = false:=by
        cases put with
        | false=>rfl
        | true=>have:=hput rfl; omega
      subst hf
      obtain ⟨d1,d2,d3⟩:=h.off rfl
      have hlen:=d1.init.len
      rw [aK (by simpa using c1),aD (ko (by omega) (by omega))]
      refine ih (pre++[y]) false (out++[y]) x ⟨he,hfree fun p h1 h2=>by omega,⟨IV,hlo⟩,⟨K3,hhi⟩,Gk,fun _=>⟨?_,?_,fun p=>?_⟩,fun h=>by cases h⟩
      · refine jy (jy d1.init Gj fun z hz=>hpre z (d2 z hz)) Gk fun z hz=>?_
        rcases List.mem_append.1 hz with hz | hz
        · exact d1.last z hz
        · rw [List.mem_singleton.1 hz]; exact c1
      · intro z hz
        rcases List.mem_append.1 hz with hz | hz
        · exact qu (d2 z hz)
        · rw [List.mem_singleton.1 hz]; simp
      · have:=d3 p
        rw [fQ,fu] at this ⊢
        rw [fQ,fu,GO]
        constructor
        · rintro ((c | c) | c)
          · rcases this.1 (.inl c) with c | c
            · exact .inl (.inl c)
            · exact .inr c
          · exact .inl (.inr c)
          · rcases this.1 (.inr c) with c | c
            · exact .inl (.inl c)
            · exact .inr c
        · rintro ((c | c) | c)
          · rcases this.2 (.inl c) with c | c
            · exact .inl (.inl c)
            · exact .inr c
          · exact .inl (.inr c)
          · rcases this.2 (.inr c) with c | c
            · exact .inl (.inl c)
            · exact .inr c
    rw [ax (by simpa using c1),av ex]
    by_cases c2:x.At + x.N < y.At
    · rw [aK (by simpa using c2)]
      have hfr:=hfree fun p h1 h2=>by omega
      cases put with
      | false =>
        obtain ⟨d1,d2,d3⟩:=h.off rfl
        have hlen:=d1.init.len
        have zw:=d1.len
        rw [aK (b:=!false) rfl,aD (ko (by omega) (by omega)),aD (ko (by omega) (by omega))]
        refine ih (pre++[y]) true (out++[x]++[y]) x ⟨he,hfr,⟨IV,hlo⟩,⟨K3,hhi⟩,Gk,fun h=>(by cases h),fun _=>⟨?_,?_,⟨y,by simp,c2⟩,fun p=>?_⟩⟩
        · refine jy d1 Gj fun z hz=>?_
          rcases List.mem_append.1 hz with hz | hz
          · exact hpre z (d2 z hz)
          · rw [List.mem_singleton.1 hz]; exact c2
        · intro z hz
          simp only [List.mem_append,List.mem_singleton] at hz
          rcases hz with (hz | hz) | hz
          · exact .inl (qu (d2 z hz))
          · exact .inr hz
          · exact .inl (by simp [hz])
        · rw [fQ,fu,d3 p,GO]
          constructor
          · rintro ((c | c) | c)
            · exact .inl (.inl c)
            · exact .inr c
            · exact .inl (.inr c)
          · rintro ((c | c) | c)
            · exact .inl (.inl c)
            · exact .inr c
            · exact .inl (.inr c)
      | true =>
        obtain ⟨d1,d2,d3,d4⟩:=h.on rfl
        have hlen:=d1.len
        rw [ax (b:=!true) rfl,aD (ko (by omega) (by omega))]
        refine ih (pre++[y]) true (out++[y]) x ⟨he,hfr,⟨IV,hlo⟩,⟨K3,hhi⟩,Gk,fun h=>(by cases h),fun _=>⟨?_,?_,⟨y,by simp,c2⟩,fun p=>?_⟩⟩
        · refine jy d1 Gj fun z hz=>?_
          rcases d2 z hz with hz | rfl
          · exact hpre z hz
          · exact c2
        · intro z hz
          rcases List.mem_append.1 hz with hz | hz
          · exact (d2 z hz).imp qu id
          · exact .inl (by simp [List.mem_singleton.1 hz])
        · rw [fQ,fu,d4 p,GO]
          constructor
          · rintro ((c | c) | c)
            · exact .inl (.inl c)
            · exact .inr c
            · exact .inl (.inr c)
          · rintro ((c | c) | c)
            · exact .inl (.inl c)
            · exact .inr c
            · exact .inl (.inr c)
    have hf:put = false:=by
      cases put with
      | false=>rfl
      | true=>have:=hput rfl; omega
    subst hf
    obtain ⟨d1,d2,d3⟩:=h.off rfl
    rw [ax (by simpa using c2),av ey]
    by_cases c3:y.At + y.N = x.At
    · rw [aK (by simpa using c3),bT (by omega) (by omega)]
      have ME:x.At = at_:=by
        rcases Jy with e | ⟨z,hz,e⟩
        · exact e
        · have:=hpre z hz; omega
      refine ih (pre++[y]) false out ⟨y.At,y.N + x.N⟩ ⟨he,hfree fun p h1 h2=>by omega,⟨by dsimp only; omega, .inr ⟨y,by simp,by omega⟩⟩,⟨by dsimp only; omega,?_⟩,by dsimp only; omega,fun _=>⟨?_,fun z hz=>qu (d2 z hz),fun p=>?_⟩,fun h=>by cases h⟩
      · rcases hhi with e | ⟨z,hz,e⟩
        · exact .inl (by dsimp only; omega)
        · exact .inr ⟨z,hz,by dsimp only; omega⟩
      · exact jy d1.init (by dsimp only; omega) fun z hz=>hpre z (d2 z hz)
      · have:=d3 p
        rw [fQ,fu] at this ⊢
        rw [GO]
        dsimp only
        constructor
        · rintro (c | c)
          · rcases this.1 (.inl c) with c | c
            · exact .inl (.inl c)
            · exact .inr c
          · by_cases hp:p < x.At
            · exact .inl (.inr (by omega))
            · rcases this.1 (.inr (by omega)) with c | c
              · exact .inl (.inl c)
              · exact .inr c
        · rintro ((c | c) | c)
          · rcases this.2 (.inl c) with c | c
            · exact .inl c
            · exact .inr (by omega)
          · exact .inr (by omega)
          · exact .inr (by omega)
    rw [ax (by simpa using c3),av ex]
    by_cases c4:y.At = x.At + x.N
    · rw [aK (by simpa using c4),bT (by omega) (by omega)]
      refine ih (pre++[y]) false out ⟨x.At,x.N + y.N⟩ ⟨he,hfree fun p h1 h2=>by omega,⟨IV,hlo⟩,⟨by dsimp only; omega, .inr ⟨y,by simp,by dsimp only; omega⟩⟩,by dsimp only; omega,fun _=>⟨?_,fun z hz=>qu (d2 z hz),fun p=>?_⟩,fun h=>by cases h⟩
      · exact jy d1.init (by dsimp only; omega) fun z hz=>d1.last z hz
      · have:=d3 p
        rw [fQ,fu] at this ⊢
        rw [GO]
        dsimp only
        constructor
        · rintro (c | c)
          · rcases this.1 (.inl c) with c | c
            · exact .inl (.inl c)
            · exact .inr c
          · by_cases hp:p < x.At + x.N
            · rcases this.1 (.inr (by omega)) with c | c
              · exact .inl (.inl c)
              · exact .inr c
            · exact .inl (.inr (by omega))
        · rintro ((c | c) | c)
          · rcases this.2 (.inl c) with c | c
            · exact .inl c
            · exact .inr (by omega)
          · exact .inr (by omega)
          · exact .inr (by omega)
    rw [ax (by simpa using c4)]
    refine ⟨r,false,rfl,⟨fun h=>(by cases h),fun hno=>?_⟩,fun _=>rfl,fun h=>(by cases h)⟩
    have g1:y.At < at_ + k:=by
      rcases yf with e | ⟨z,hz,e⟩
      · omega
      · have:=hpre z hz; omega
    have g2:at_ < y.At + y.N:=by
      rcases Jy with e | ⟨z,hz,e⟩
      · omega
      · have:=hpre z hz; omega
    by_cases g3:at_ ≤ y.At
    · exact absurd ⟨y,Cs,by omega,by omega⟩ (hno y.At g3 g1)
    · exact absurd ⟨y,Cs,by omega,by omega⟩ (hno at_ (by omega) (by omega))
theorem Bz {n:Nat} (hn:110 ≤ n) {r:cC} (hr:Can r.l) {at_ k:Int} (ha:AN at_) (hk:AN k) :
    ∃r' g,gO n r at_ k = some (r',g)∧(g = true↔u9 at_ k∧∀p,at_ ≤ p→p < at_ + k→¬ dA r.l p)∧(g = false→r' = r)∧(g = true→Can r'.l∧∀p,dA r'.l p↔dA r.l p∨(at_ ≤ p∧p < at_ + k)):=by
  unfold gO
  rw [lt_eq]
  obtain ⟨b,hb,hb'⟩:=Dg (n:=n) ha hk
  rw [av hb]
  cases b with
  | false=>exact ⟨r,false,rfl,⟨fun h=>(by cases h),fun h=>hb'.2 h.1⟩,fun _=>rfl,fun h=>(by cases h)⟩
  | true =>
    have ho:=hb'.1 rfl
    obtain ⟨o1,o2,o3⟩:=ho
    rw [ax (b:=!true) rfl,av (BE n r)]
    obtain ⟨xs,h1,h2⟩:=all_eq (n:=n) (l:=r.l) (by have:=hr.len; omega) hn
    rw [av h1]
    obtain ⟨r',g,h3,h4,h5,h6⟩:=By (n:=n) (r:=r) hr (at_:=at_) (k:=k) ⟨o1,o2,o3⟩ xs [] false [] ⟨at_,k⟩ ⟨by simpa using h2.symm,fun p hp=>absurd hp (qf p),⟨Int.le_refl _, .inl rfl⟩,⟨Int.le_refl _, .inl rfl⟩,⟨o2,o1,o3⟩,
      fun _=>⟨jy Can.nil ⟨o2,o1,o3⟩ (by simp),by simp,fun p=>by rw [List.nil_append,fu]; simp [qf]⟩,fun h=>by cases h⟩
    exact ⟨r',g,h3,⟨fun hg=>⟨⟨o1,o2,o3⟩,h4.1 hg⟩,fun hg=>h4.2 hg.2⟩,h5,h6⟩
end Go.Proofs.Ytmdpbdhkmfjlhaa
namespace Go.Proofs.Ytmdpbdhkmfjlhaa
open Go Go.Bw
def ov (y:Rn) (i:Int):Int:=if i ≤ y.At then 0 else if y.At + y.N ≤ i then y.N else i - y.At
def l7 (l:List Rn) (i:Int):Int:=(l.map fun y=>ov y i).sum
theorem lS (y:Rn) (l:List Rn) (i:Int):l7 (y::l) i = ov y i + l7 l i:=rfl
theorem jU:∀{l:List Rn},Can l→l7 l 0 = 0
  | [],_=>rfl
  | y::r,h=>by
    have hy:=h.iK y (by simp)
    rw [lS,jU ⟨fun z hz=>h.iK z (by simp [hz]),(List.pairwise_cons.1 h.pw).2⟩]
    unfold ov; rw [if_pos hy.1]; rfl
theorem jV:∀{l:List Rn},Can l→∀i:Int,(dA l i→l7 l (i + 1) = l7 l i + 1)∧(¬ dA l i→l7 l (i + 1) = l7 l i)
  | [],_,i=>⟨fun h=>absurd h (qf i),fun _=>rfl⟩
  | y::r,h,i=>by
    obtain ⟨h1,h2⟩:=List.pairwise_cons.1 h.pw
    have hy:=h.iK y (by simp)
    obtain ⟨i1,i2⟩:=jV (l:=r) ⟨fun z hz=>h.iK z (by simp [hz]),h2⟩ i
    rw [lS,lS,oO]
    by_cases c:y.At ≤ i∧i < y.At + y.N
    · have hn:¬ dA r i:=fun ⟨z,hz,a,b⟩=>by have:=h1 z hz; omega
      rw [i2 hn]
      refine ⟨fun _=>?_,fun hh=>absurd (.inl c) hh⟩
      unfold ov
      rw [if_neg (by omega)]
      split <;> split <;> omega
    · have e:ov y (i + 1) = ov y i:=by
        unfold ov
        (repeat' split) <;> omega
      rw [e]
      refine ⟨fun hh=>?_,fun hh=>?_⟩
      · rw [i1 (hh.resolve_left c)]; omega
      · rw [i2 fun hm=>hh (.inr hm)]
def ep (l:List Rn):Int:=(l.map fun y=>y.N).sum
theorem fN (y:Rn) (l:List Rn):ep (y::l) = y.N + ep l:=rfl
theorem kZ:∀{l:List Rn},Can l→l7 l 64 = ep l
  | [],_=>rfl
  | y::r,h=>by
    have hy:=h.iK y (by simp)
    rw [lS,fN,kZ ⟨fun z hz=>h.iK z (by simp [hz]),(List.pairwise_cons.1 h.pw).2⟩]
    unfold ov; rw [if_neg (by omega),if_pos hy.2.2]
theorem tU:∀{l:List Rn} {lo:Int},Can l→(∀y ∈ l,lo ≤ y.At)→lo ≤ 65→0 ≤ ep l∧ep l ≤ 65 - lo
  | [],lo,_,_,h=>by simp [ep]; omega
  | y::r,lo,h,hl,_=>by
    obtain ⟨h1,h2⟩:=List.pairwise_cons.1 h.pw
    have hy:=h.iK y (by simp)
    have hy':=hl y (by simp)
    have:=tU (l:=r) (lo:=y.At + y.N + 1) ⟨fun z hz=>h.iK z (by simp [hz]),h2⟩ (fun z hz=>by have:=h1 z hz; omega) (by omega)
    rw [fN]; omega
theorem uF {n:Nat}:∀(xs:List (Int × Rn)) (s:Int),0 ≤ s→s ≤ 1000000 - ep (xs.map Prod.snd)→(∀e ∈ xs,1 ≤ e.2.N) →
    ff (fun (BF:Int × aP) Bf (ef:Int) =>
      lt (BF.1:Int) fun lO =>
      lt (BF.2:aP) fun fI =>
      lt (wr .i64 (ef + fI.N):Int) fun gE =>
      Bf gE) (fun (ef:Int) =>
      some ef) xs s = some (s + ep (xs.map Prod.snd))
  | [],s,_,_,_=>by show some s = _; simp [ep]
  | e::xs,s,h0,h1,h2=>by
    have:=h2 e (by simp)
    have hs:0 ≤ ep (xs.map Prod.snd):=by
      clear h1 h0
      have h3:∀e ∈ xs,1 ≤ e.2.N:=fun e he=>h2 e (by simp [he])
      clear h2 this
      induction xs with
      | nil=>simp [ep]
      | cons a xs ih=>have:=h3 a (by simp); have:=ih fun e he=>h3 e (by simp [he]); rw [List.map_cons,fN]; omega
    rw [List.map_cons,fN] at h1 ⊢
    show ff _ _ xs (wr .i64 (s + e.2.N)) = _
    rw [bT (by omega) (by omega),uF (n:=n) xs (s + e.2.N) (by omega) (by omega) (fun e he=>h2 e (by simp [he]))]
    congr 1; omega
def lQ (a:Nat→Int):Rn:=⟨a 0,a 1⟩
structure RS (r:cC) (w:Nat→Bool):Prop where
  can:Can r.l
  mem:∀p:Nat,p < 64→(w p = true↔dA r.l p)
theorem RS.all {r:cC} {w:Nat→Bool} (h:RS r w) (p:Int):dA r.l p↔0 ≤ p∧p < 64∧w p.toNat = true:=by
  constructor
  · intro hm
    obtain ⟨a,b⟩:=uq h.can hm
    exact ⟨a,b,(h.mem p.toNat (by omega)).2 (by rw [Int.toNat_of_nonneg a]; exact hm)⟩
  · rintro ⟨a,b,d⟩
    have:=(h.mem p.toNat (by omega)).1 d
    rwa [Int.toNat_of_nonneg a] at this
theorem RS.take {r r' : cC} {w w' : Nat→Bool} {a k:Int} (h:RS r w) (hc:Can r'.l) (hm:∀p,dA r'.l p↔dA r.l p∧¬ (a ≤ p∧p < a + k)) (hw:∀p:Nat,w' p = if a ≤ (p:Int)∧(p:Int) < a + k then false else w p):RS r' w':=
  ⟨hc,fun p hp=>by
    rw [hw p,hm]
    by_cases c:a ≤ (p:Int)∧(p:Int) < a + k
    · rw [if_pos c]; simp [c]
    · rw [if_neg c,h.mem p hp]; exact ⟨fun x=>⟨x,c⟩,fun x=>x.1⟩⟩
end Go.Proofs.Ytmdpbdhkmfjlhaa
namespace Go.Proofs.Ytmdpbdhkmfjlhaa
open Go Go.Bw
theorem xe {l m x:List Rn} (hl:Can l) (hm:Can m) (hx:Can x) (h1:∀p,dA l p↔dA m p∨dA x p) (h2:∀p,dA m p→¬ dA x p):ep l = ep m + ep x:=by
  have key:∀i:Nat,l7 l i = l7 m i + l7 x i:=by
    intro i
    induction i with
    | zero=>rw [Int.natCast_zero,jU hl,jU hm,jU hx]; rfl
    | succ i ih =>
      have e:((i + 1:Nat):Int) = (i:Int) + 1:=by omega
      rw [e]
      obtain ⟨a1,a2⟩:=jV hl i
      obtain ⟨b1,b2⟩:=jV hm i
      obtain ⟨c1,c2⟩:=jV hx i
      by_cases c:dA m i
      · rw [a1 ((h1 _).2 (.inl c)),b1 c,c2 (h2 _ c),ih]; omega
      · by_cases d:dA x i
        · rw [a1 ((h1 _).2 (.inr d)),b2 c,c1 d,ih]; omega
        · rw [a2 (fun h=>((h1 _).1 h).elim c d),b2 c,c2 d,ih]
  have:=key 64
  rw [show ((64:Nat):Int) = 64 from rfl,kZ hl,kZ hm,kZ hx] at this
  exact this
theorem BJ {a k:Int} (h:u9 a k):Can [(⟨a,k⟩ : Rn)]:=jy (l:=[]) Can.nil (by unfold u9 at h; exact ⟨h.2.1,h.1,h.2.2⟩) (by simp)
structure OW (first r:List Rn) (t:List Int):Prop where
  can:Can r
  nd:t.Nodup
  mem:∀p,dA first p↔dA r p∨p ∈ t
  apart:∀p,p ∈ t→¬ dA r p
theorem nc:∀(k:Nat) {t:List Int},t.Nodup→(∀p ∈ t,0 ≤ p∧p < (k:Int))→t.length ≤ k
  | 0,[],_,_=>Nat.le_refl _
  | 0,x::t,_,h=>by have:=h x (by simp); omega
  | k + 1,t,hn,h=>by
    by_cases hk:(k:Int) ∈ t
    · have h1:=nc k (hn.erase (k:Int)) fun x hx=>by
        have h2:=h x (List.mem_of_mem_erase hx)
        have h3:x ≠ k:=fun e=>by subst e; exact (List.Nodup.not_mem_erase hn) hx
        omega
      rw [List.length_erase_of_mem hk] at h1
      omega
    · have h1:=nc k hn fun x hx=>by
        have h2:=h x hx
        have h3:x ≠ k:=fun e=>hk (e ▸ hx)
        omega
      omega
theorem OW.iK {first r:List Rn} {t:List Int} (hf:Can first) (h:OW first r t) {p:Int} (hp:p ∈ t):0 ≤ p∧p < 64:=uq hf ((h.mem p).2 (.inr hp))
theorem OW.len {first r:List Rn} {t:List Int} (hf:Can first) (h:OW first r t):t.length ≤ 64:=nc 64 h.nd fun p hp=>h.iK hf hp
end Go.Proofs.Ytmdpbdhkmfjlhaa
namespace Go.Proofs.Ytmdpbdhkmfjlhaa
open Go Go.Bw
theorem wo {l:List (Nat→Int)} {i:Nat} (h:i < l.length):lQ (l.getD i default) = (l.map lQ)[i]'(by rw [List.length_map]; exact h):=by
  rw [List.getD,List.getElem?_eq_getElem h,List.getElem_map]; rfl
theorem xj {n:Nat} (hn:100 ≤ n) {e:cu} {x:gj} (hl:x.aU.length ≤ 90) (h1:e.aU = x.aU.map lQ) (h2:e.nD = x.nD):j4 n e x = some true:=by
  unfold j4
  have hlen:e.aU.length = x.aU.length:=by rw [h1,List.length_map]
  rw [ax (by simp [hlen,h2])]
  refine fR (fun (i:Int)=>0 ≤ i∧i ≤ e.aU.length) (fun i=>((e.aU.length:Int) - i).toNat) (fun o=>o = some true) ?_ n 0 ⟨by omega,by omega⟩ (by omega)
  rintro kk i ⟨i0,i1⟩ ih
  obtain ⟨i,rfl⟩:=Int.eq_ofNat_of_zero_le i0
  by_cases c:i < e.aU.length
  · have hg:e.aU.getD (Int.toNat (i:Int)) default = lQ (x.aU.getD (Int.toNat (i:Int)) default):=by
      rw [Int.toNat_natCast,wo (show i < x.aU.length by omega),List.getD,List.getElem?_eq_getElem c]
      simp [h1]
    have b1:dH (i:Int) e.aU.length = true:=cD (by omega) (by omega)
    have b2:dH (i:Int) x.aU.length = true:=cD (by omega) (by omega)
    rw [aK (by simpa using c),aD b1,aD b2,b1,b2,aD (by simp),aD (by simp),hg,ax (by simp [lQ]),bT (by omega) (by omega)]
    exact ih _ ⟨by omega,by omega⟩ (by omega)
  · rw [ax (by simpa using c)]
def CF:Int→List Rn→List (Int × Rn)
  | _,[]=>[]
  | b,y::r=>(b,y)::CF (b + 32 * y.N) r
def p8 (l:List Rn):Prop:=∀y ∈ l,1 ≤ y.N
theorem k6:∀{l:List Rn},p8 l→0 ≤ ep l
  | [],_=>by simp [ep]
  | y::r,h=>by
    have:=h y (by simp)
    have:=k6 (l:=r) fun z hz=>h z (by simp [hz])
    rw [fN]; omega
theorem xR {n:Nat} {e:cu} (hn:e.aU.length < n) (hl:e.aU.length ≤ 1000) (hp:p8 e.aU) (hs:ep e.aU ≤ 1000):dU n e = some (CF 0 e.aU):=by
  unfold dU
  have key:∀(m i:Nat) (b:Int),i ≤ e.aU.length→e.aU.length - i < m→0 ≤ b→b + 32 * ep (e.aU.drop i) ≤ 100000→dD (fun JP (bJ:Int) (gF:Int) =>
      cn (decide (gF < (e.aU.length:Int))) (
      gu (dH gF e.aU.length) <|
      lt ((e.aU.getD (Int.toNat gF) default):aP) fun dP =>
      yl (bJ,dP) <|
      JP (wr .i64 (bJ + (wr .i64 (dP.N * 32)))) (wr .i64 (gF + 1))) (
      some [])) m b (i:Int) = some (CF b (e.aU.drop i)):=by
    intro m
    induction m with
    | zero=>intro i b _ h; omega
    | succ m ih =>
      intro i b hi hm hb Kv
      simp only [dD]
      by_cases c:i < e.aU.length
      · have hg:e.aU.getD (Int.toNat (i:Int)) default = e.aU[i]:=by rw [Int.toNat_natCast,List.getD,List.getElem?_eq_getElem c]; rfl
        have hy:=hp _ (List.getElem_mem c)
        have hd:e.aU.drop i = e.aU[i]::e.aU.drop (i + 1):=List.drop_eq_getElem_cons c
        rw [hd,fN] at Kv
        have hr:0 ≤ ep (e.aU.drop (i + 1)):=k6 fun z hz=>hp z (List.mem_of_mem_drop hz)
        rw [aK (by simpa using c),aD (cD (by omega) (by omega)),lt_eq,hg,hd]
        rw [bT (x:=e.aU[i].N * 32) (by omega) (by omega),bT (x:=b + e.aU[i].N * 32) (by omega) (by omega),bT (x:=(i:Int) + 1) (by omega) (by omega)]
        have e1:((i:Int) + 1) = ((i + 1:Nat):Int):=by omega
        rw [e1,ih (i + 1) (b + e.aU[i].N * 32) (by omega) (by omega) (by omega) (by omega)]
        show some ((b,e.aU[i])::CF (b + e.aU[i].N * 32) (e.aU.drop (i + 1))) = some ((b,e.aU[i])::CF (b + 32 * e.aU[i].N) (e.aU.drop (i + 1)))
        rw [Int.mul_comm]
      · rw [ax (by simpa using c),List.drop_eq_nil_of_le (by omega)]; rfl
  have:=key n 0 0 (by omega) (by omega) (by omega) (by rw [List.drop_zero]; omega)
  simpa using this
theorem pT:∀(l:List Rn) (b:Int),(CF b l).map Prod.snd = l
  | [],_=>rfl
  | y::r,b=>by rw [CF,List.map_cons,pT r]
theorem yU {n:Nat} {e:cu} (hn:e.aU.length < n) (hl:e.aU.length ≤ 1000) (hp:p8 e.aU) (hs:ep e.aU ≤ 1000):eO n e = some (ep e.aU):=by
  unfold eO
  rw [av (show fA n e = some e from rfl),av (xR hn hl hp hs)]
  have h0:=k6 hp
  refine (uF (n:=n) (CF 0 e.aU) 0 (by omega) (by rw [pT]; omega) fun q hq=>hp q.2 (by rw [← pT e.aU 0]; exact List.mem_map_of_mem hq)).trans ?_
  rw [pT]; congr 1; omega
end Go.Proofs.Ytmdpbdhkmfjlhaa
namespace Go.Proofs.Ytmdpbdhkmfjlhaa
open Go Go.Bw
structure qT (l:List Rn):Prop where
  iK:∀y ∈ l,u9 y.At y.N
  pw:l.Pairwise fun y z=>∀p,y.At ≤ p→p < y.At + y.N→¬ (z.At ≤ p∧p < z.At + z.N)
theorem qT.nil:qT []:=⟨by simp, .nil⟩
theorem mO {l:List Rn} {y:Rn}:qT (l++[y])↔qT l∧u9 y.At y.N∧∀p,y.At ≤ p→p < y.At + y.N→¬ dA l p:=by
  constructor
  · rintro ⟨h1,h2⟩
    obtain ⟨p1,p2,p3⟩:=List.pairwise_append.1 h2
    exact ⟨⟨fun z hz=>h1 z (by simp [hz]),p1⟩,h1 y (by simp),fun p q1 q2 ⟨z,hz,q3,q4⟩=>p3 z hz y (by simp) p q3 q4 ⟨q1,q2⟩⟩
  · rintro ⟨⟨h1,h2⟩,h3,h4⟩
    refine ⟨fun z hz=>?_,List.pairwise_append.2 ⟨h2,List.pairwise_singleton _ _,fun a ha b hb p q1 q2 q3=>?_⟩⟩
    · rcases List.mem_append.1 hz with hz | hz
      · exact h1 z hz
      · rw [List.mem_singleton.1 hz]; exact h3
    · rw [List.mem_singleton.1 hb] at q3
      exact h4 p q3.1 q3.2 ⟨a,ha,q1,q2⟩
theorem qT.nat {l:List Rn} (h:qT l):p8 l:=fun y hy=>(h.iK y hy).1
theorem n6:∀(l m:List Rn),ep (l++m) = ep l + ep m
  | [],m=>by simp [ep]
  | y::r,m=>by rw [List.cons_append,fN,fN,n6 r m]; omega
theorem tT {l:List Rn} (h:Can l):∀i:Nat,l7 l i ≤ i
  | 0=>by rw [Int.natCast_zero,jU h]; exact Int.le_refl _
  | i + 1=>by
    have:=tT h i
    obtain ⟨a,b⟩:=jV h i
    have e:((i + 1:Nat):Int) = (i:Int) + 1:=by omega
    rw [e]
    by_cases c:dA l i
    · rw [a c]; omega
    · rw [b c]; omega
theorem y5 {n:Nat} (hn:110 ≤ n) {e:cu} (hl:e.aU.length ≤ 80) (hr:∀y ∈ e.aU,AN y.At∧AN y.N):∃b,eD n e = some b∧(b = true↔qT e.aU∧ep e.aU ≤ 64∧0 ≤ e.nD∧e.nD ≤ 32 * ep e.aU):=by
  unfold eD
  refine eV (fun (i:Int) (r:cC)=>0 ≤ i∧i ≤ e.aU.length∧Can r.l∧qT (e.aU.take i.toNat)∧(∀p,dA r.l p↔dA (e.aU.take i.toNat) p)∧ep r.l = ep (e.aU.take i.toNat)) (fun i _=>((e.aU.length:Int) - i).toNat)
    (fun o=>∃b,o = some b∧(b = true↔qT e.aU∧ep e.aU ≤ 64∧0 ≤ e.nD∧e.nD ≤ 32 * ep e.aU)) ?_ n 0 jz ⟨by omega,by omega,Can.nil,qT.nil,fun p=>Iff.rfl,rfl⟩ (by omega)
  rintro kk i r ⟨i0,i1,hc,hg,hm,hs⟩ ih
  obtain ⟨i,rfl⟩:=Int.eq_ofNat_of_zero_le i0
  rw [Int.toNat_natCast] at hg hm hs
  by_cases c:i < e.aU.length
  · have hgd:e.aU.getD (Int.toNat (i:Int)) default = e.aU[i]:=by rw [Int.toNat_natCast,List.getD,List.getElem?_eq_getElem c]; rfl
    have hy:=hr _ (List.getElem_mem c)
    have ht:e.aU.take (i + 1) = e.aU.take i++[e.aU[i]]:=List.take_succ_eq_append_getElem c
    rw [aK (by simpa using c),aD (cD (by omega) (by omega)),lt_eq,hgd]
    obtain ⟨r',g,g1,g2,g3,g4⟩:=Bz (n:=n) hn hc (at_:=e.aU[i].At) (k:=e.aU[i].N) hy.1 hy.2
    rw [av g1]
    have G6:g = true↔qT (e.aU.take (i + 1)):=by
      rw [g2,ht,mO]
      exact ⟨fun ⟨a,b⟩=>⟨hg,a,fun p q1 q2 q3=>b p q1 q2 ((hm p).2 q3)⟩,fun ⟨_,a,b⟩=>⟨a,fun p q1 q2 q3=>b p q1 q2 ((hm p).1 q3)⟩⟩
    cases g with
    | false =>
      refine ⟨false,rfl,fun h=>(by cases h),fun ⟨h,_⟩=>?_⟩
      rw [← List.take_append_drop (i + 1) e.aU] at h
      exact G6.2 ⟨fun y hy=>h.iK y (List.mem_append_left _ hy),(List.pairwise_append.1 h.pw).1⟩
    | true =>
      obtain ⟨c1,c2⟩:=g4 rfl
      have ho:=(g2.1 rfl).1
      rw [ax (b:=!true) rfl,bT (by omega) (by omega)]
      have e1:((i:Int) + 1).toNat = i + 1:=by omega
      refine ih _ _ ⟨by omega,by omega,c1,by rw [e1]; exact G6.1 rfl,fun p=>?_,?_⟩ (by omega)
      · rw [e1,ht,fQ,fu,c2 p,hm p]
      · rw [e1,ht,n6,← hs]
        rw [xe c1 hc (BJ ho) (fun p=>by rw [c2 p,fu]) (fun p hp hq=>(g2.1 rfl).2 p (fu.1 hq).1 (fu.1 hq).2 hp)]
  · rw [ax (by simpa using c)]
    obtain rfl:i = e.aU.length:=by omega
    rw [List.take_length] at hg hm hs
    have KH:=tU (lo:=0) hc (fun y hy=>(hc.iK y hy).1) (by omega)
    have OF:ep r.l ≤ 64:=by rw [← kZ hc]; exact tT hc 64
    rw [c9 (yU (n:=n) (by omega) (by omega) hg.nat (by rw [← hs]; omega))]
    refine ⟨_,rfl,?_⟩
    by_cases c0:0 ≤ e.nD
    · have e1:(bif decide (0 ≤ e.nD) == true then ep e.aU else default) = ep e.aU:=by simp [c0]
      rw [e1,bT (by omega) (by omega)]
      simp only [c0,decide_true,Bool.true_and,decide_eq_true_eq,true_and,← hs]
      exact ⟨fun h=>⟨hg,OF,by omega⟩,fun h=>by omega⟩
    · simp [c0]
end Go.Proofs.Ytmdpbdhkmfjlhaa
namespace Go.Proofs.Ytmdpbdhkmfjlhaa
open Go Go.Bw
structure Gx (l:List Rn):Prop where
  gd:qT l
  sum:ep l ≤ 64
theorem za:∀{l:List Rn},p8 l→(l.length:Int) ≤ ep l
  | [],_=>by simp [ep]
  | y::r,h=>by
    have h1:=h y (by simp)
    have h2:=za (l:=r) fun z hz=>h z (by simp [hz])
    rw [fN,List.length_cons]; omega
theorem Gx.len {l:List Rn} (h:Gx l):l.length ≤ 64:=by have:=za h.gd.nat; have:=h.sum; omega
theorem Gx.pos {l:List Rn} (h:Gx l):0 ≤ ep l:=k6 h.gd.nat
theorem C8 {l:List (Nat→Int)} {i:Nat}:(l.getD i default) 0 = (lQ (l.getD i default)).At:=rfl
theorem FC {l:List (Nat→Int)} {i:Nat}:(l.getD i default) 1 = (lQ (l.getD i default)).N:=rfl
theorem rY {l:List Rn} {y:Rn} {p:Int}:dA (l++[y]) p↔dA l p∨(y.At ≤ p∧p < y.At + y.N):=by rw [fQ,fu]
theorem rR {n:Nat} (hn:110 ≤ n) {x:gj} (hl:x.aU.length ≤ 80) (hr:∀y ∈ x.aU.map lQ,AN y.At∧AN y.N):∃b,cT n x = some b∧(b = true↔qT (x.aU.map lQ)∧0 ≤ x.nD∧x.nD ≤ 32 * ep (x.aU.map lQ)):=by
  unfold cT
  refine nf (fun (s i:Int) (t:Nat→Bool)=>0 ≤ i∧i ≤ x.aU.length∧qT ((x.aU.map lQ).take i.toNat)∧s = ep ((x.aU.map lQ).take i.toNat)∧∀p:Nat,p < 64→(t p = true↔dA ((x.aU.map lQ).take i.toNat) p)) (fun _ i _=>((x.aU.length:Int) - i).toNat)
    (fun o=>∃b,o = some b∧(b = true↔qT (x.aU.map lQ)∧0 ≤ x.nD∧x.nD ≤ 32 * ep (x.aU.map lQ))) ?_ n 0 0 _ ⟨by omega,by omega,qT.nil,rfl,fun p _=>⟨fun h=>by simp at h,fun h=>by simp [dA] at h⟩⟩ (by omega)
  rintro kk s i t ⟨i0,i1,hg,rfl,ht⟩ ih
  obtain ⟨i,rfl⟩:=Int.eq_ofNat_of_zero_le i0
  rw [Int.toNat_natCast] at *
  by_cases c:i < x.aU.length
  · have g1:dH (i:Int) x.aU.length = true:=cD (by omega) (by omega)
    have hi:i < (x.aU.map lQ).length:=by rw [List.length_map]; exact c
    have hy:=hr _ (List.getElem_mem hi)
    have hgt:=wo c
    have E9:(x.aU.map lQ).take (i + 1) = (x.aU.map lQ).take i++[(x.aU.map lQ)[i]]:=List.take_succ_eq_append_getElem hi
    have lC:qT (x.aU.map lQ)→qT ((x.aU.map lQ).take (i + 1)):=fun h=>by
      rw [← List.take_append_drop (i + 1) (x.aU.map lQ)] at h
      exact ⟨fun y hy=>h.iK y (List.mem_append_left _ hy),(List.pairwise_append.1 h.pw).1⟩
    have Ms:ep ((x.aU.map lQ).take i) ≤ 80 * 64:=by
      have:∀(l:List Rn),(∀y ∈ l,u9 y.At y.N)→ep l ≤ l.length * 64:=by
        intro l
        induction l with
        | nil=>intro _; simp [ep]
        | cons y r ih=>intro h; have h1:=h y (by simp); have:=ih fun z hz=>h z (by simp [hz]); unfold u9 at h1; rw [fN,List.length_cons]; omega
      have h2:=this _ hg.iK
      have h3:((x.aU.map lQ).take i).length ≤ 80:=by rw [List.length_take,List.length_map]; omega
      omega
    have Oe:0 ≤ ep ((x.aU.map lQ).take i):=k6 hg.nat
    rw [E9] at lC
    generalize (x.aU.map lQ)[i] = y at *
    rw [aK (by simpa using c)]
    simp only [C8,FC,Int.toNat_natCast,hgt,aD g1]
    obtain ⟨⟨a1,a2⟩,n1,n2⟩:=hy
    by_cases hk:u9 y.At y.N
    · obtain ⟨k1,k2,k3⟩:=hk
      rw [bT (x:=y.At + y.N) (by omega) (by omega),ax (by simp; omega)]
      refine eV (fun (p:Int) (t:Nat→Bool)=>y.At ≤ p∧p ≤ y.At + y.N∧(∀q,y.At ≤ q→q < p→¬ dA ((x.aU.map lQ).take i) q)∧∀q:Nat,q < 64→(t q = true↔dA ((x.aU.map lQ).take i) q∨(y.At ≤ (q:Int)∧(q:Int) < p))) (fun p _=>(y.At + y.N - p).toNat)
        (fun o=>∃b,o = some b∧(b = true↔qT (x.aU.map lQ)∧0 ≤ x.nD∧x.nD ≤ 32 * ep (x.aU.map lQ))) ?_ n _ t ⟨by omega,by omega,fun q _ _=>by omega,fun q hq=>by rw [ht q hq]; exact ⟨.inl,fun h=>h.elim id fun h=>by omega⟩⟩ (by omega)
      rintro k4 p t2 ⟨p0,p1,p2,p3⟩ Gi
      obtain ⟨p,rfl⟩:=Int.eq_ofNat_of_zero_le (show 0 ≤ p by omega)
      by_cases d:(p:Int) < y.At + y.N
      · have e1:dH (p:Int) 64 = true:=cD (by omega) (by omega)
        rw [aK (by simpa using d),aD e1,Int.toNat_natCast]
        have hp:=p3 p (by omega)
        by_cases m:dA ((x.aU.map lQ).take i) p
        · rw [aK (hp.2 (.inl m))]
          exact ⟨false,rfl,fun h=>(by cases h),fun ⟨h,_⟩=>absurd m ((mO.1 (lC h)).2.2 p p0 d)⟩
        · have:t2 p = false:=by
            cases hh:t2 p with
            | false=>rfl
            | true =>
              rcases hp.1 hh with h | h
              · exact absurd h m
              · omega
          rw [ax this,aD e1,lt_eq,bT (by omega) (by omega)]
          refine Gi _ _ ⟨by omega,by omega,fun q q1 q2=>?_,fun q hq=>?_⟩ (by omega)
          · by_cases e:q = p
            · subst e; exact m
            · exact p2 q q1 (by omega)
          · rw [cr]
            by_cases e:q = p
            · subst e; simp; exact .inr ⟨p0,by omega⟩
            · rw [if_neg e,p3 q hq]
              exact ⟨fun h=>h.imp id fun h=>⟨h.1,by omega⟩,fun h=>h.imp id fun h=>⟨h.1,by omega⟩⟩
      · rw [ax (by simpa using d),bT (by omega) (by omega),bT (by omega) (by omega)]
        have e1:((i:Int) + 1).toNat = i + 1:=by omega
        refine ih _ _ _ ⟨by omega,by omega,?_,?_,fun q hq=>?_⟩ (by omega)
        · rw [e1,E9]
          exact mO.2 ⟨hg,⟨k1,k2,k3⟩,fun q q1 q2=>p2 q q1 (by omega)⟩
        · rw [e1,E9,n6]; simp [ep]
        · rw [e1,E9,rY,p3 q hq]
          exact ⟨fun h=>h.imp id fun h=>⟨h.1,by omega⟩,fun h=>h.imp id fun h=>⟨h.1,by omega⟩⟩
    · have hb:(((((decide (y.N < 1) || decide (64 < y.N)) || decide (y.At < 0)) || decide (63 < y.At)) || decide (64 < (wr .i64 (y.At + y.N)))):Bool) = true:=by
        unfold u9 at hk
        by_cases h1:y.N < 1
        · simp [h1]
        by_cases h2:64 < y.N
        · simp [h2]
        by_cases h3:y.At < 0
        · simp [h3]
        by_cases h4:63 < y.At
        · simp [h4]
        rw [bT (x:=y.At + y.N) (by omega) (by omega)]
        have:64 < y.At + y.N:=by omega
        simp [this]
      rw [aK hb]
      exact ⟨false,rfl,fun h=>(by cases h),fun ⟨h,_⟩=>absurd (mO.1 (lC h)).2.1 hk⟩
  · rw [ax (by simpa using c)]
    have e:(x.aU.map lQ).take i = x.aU.map lQ:=List.take_of_length_le (by rw [List.length_map]; omega)
    rw [e] at hg ht ⊢
    have h2:ep (x.aU.map lQ) ≤ 80 * 64∧0 ≤ ep (x.aU.map lQ):=by
      have:∀(l:List Rn),(∀y ∈ l,u9 y.At y.N)→ep l ≤ l.length * 64:=by
        intro l
        induction l with
        | nil=>intro _; simp [ep]
        | cons y r ih=>intro h; have h1:=h y (by simp); have:=ih fun z hz=>h z (by simp [hz]); unfold u9 at h1; rw [fN,List.length_cons]; omega
      have h2:=this _ hg.iK
      rw [List.length_map] at h2
      exact ⟨by omega,k6 hg.nat⟩
    rw [bT (by omega) (by omega)]
    refine ⟨_,rfl,?_⟩
    rw [Bool.and_eq_true,decide_eq_true_iff,decide_eq_true_iff]
    exact ⟨fun h=>⟨hg,h⟩,fun h=>h.2⟩
def xu (y:Rn):List Int:=(List.range y.N.toNat).map fun (k:Nat)=>y.At + (k:Int)
theorem uo {y:Rn} {p:Int}:p ∈ xu y↔y.At ≤ p∧p < y.At + y.N:=by
  unfold xu
  rw [List.mem_map]
  constructor
  · rintro ⟨k,hk,rfl⟩
    rw [List.mem_range] at hk; omega
  · intro h
    exact ⟨(p - y.At).toNat,by rw [List.mem_range]; omega,by omega⟩
theorem A4 (y:Rn):(xu y).Nodup:=by
  unfold xu
  rw [List.Nodup,List.pairwise_map]
  exact List.nodup_range.imp fun h e=>h (by omega)
theorem yF {α:Type} {P:List α→Prop} (h0:P []) (h1:∀l y,P l→P (l++[y])) (l:List α):P l:=by
  have key:∀(r:List α),P r.reverse:=by
    intro r
    induction r with
    | nil=>exact h0
    | cons y r ih=>rw [List.reverse_cons]; exact h1 _ _ ih
  have:=key l.reverse
  rwa [List.reverse_reverse] at this
theorem AY:∀(l:List Rn),qT l→∃t:List Int,t.Nodup∧(∀p,p ∈ t↔dA l p)∧(t.length:Int) = ep l:=by
  intro l
  induction l using yF with
  | h0=>intro _; exact ⟨[],List.nodup_nil,by simp [dA],by simp [ep]⟩
  | h1 l y ih =>
    intro h
    obtain ⟨h1,h2,h3⟩:=mO.1 h
    obtain ⟨t,t1,t2,t3⟩:=ih h1
    refine ⟨t++xu y,List.nodup_append.2 ⟨t1,A4 y,fun a ha b hb e=>?_⟩,fun p=>?_,?_⟩
    · subst e
      have:=uo.1 hb
      exact h3 _ this.1 this.2 ((t2 _).1 ha)
    · rw [List.mem_append,t2,uo,rY]
    · have:=h2.1
      rw [List.length_append,n6]
      simp only [xu,List.length_map,List.length_range,ep,List.map_cons,List.map_nil,List.sum_cons,List.sum_nil] at *
      omega
theorem BB {l:List Rn} (h:qT l):ep l ≤ 64:=by
  obtain ⟨t,t1,t2,t3⟩:=AY l h
  have:=nc 64 t1 fun p hp=>by
    obtain ⟨y,hy,h1,h2⟩:=(t2 p).1 hp
    obtain ⟨a,b,c⟩:=h.iK y hy
    exact ⟨by omega,by omega⟩
  omega
end Go.Proofs.Ytmdpbdhkmfjlhaa
namespace Go.Proofs.Ytmdpbdhkmfjlhaa
open Go Go.Bw
structure Pc (e:cu):Prop where
  gx:Gx e.aU
  lo:0 ≤ e.nD
  hi:e.nD ≤ 32 * ep e.aU
end Go.Proofs.Ytmdpbdhkmfjlhaa
namespace Go.Proofs.Ytmdpbdhkmfjlhaa
open Go Go.Bw
structure bI where
 Up:Int
 bP:Int
 E:gj
 Cells:(Nat→Int)
abbrev aH:aN bI:=aN.via (LP (LI .i64) (LP (LI .i64) (LP fe (LA (LI .i64) 8)))) (fun x=>(x.Up,x.bP,x.E,x.Cells))
abbrev mT:bI:=⟨0,0,cE,(fun _=>0)⟩
def eH:List Value:=[.int .i64 0]++([.int .i64 0]++(gq++((((LA (LI .i64) 8)).enc (fun _=>0)))))
theorem eG {A:World→Prop}:aH.rep A eH mT:=⟨_,_,rfl,rfl,⟨_,_,rfl,rfl,⟨_,_,rfl,iw,fl⟩⟩⟩
theorem cX:aI aH (LI .i64) 0 (fun x=>x.Up) (fun x v=>{ x with Up:=v }):=(aI.fst aI.id).via _ _ _ 0 rfl (fun _=>rfl) (fun _ _=>rfl)
theorem gZ:aI aH (LI .i64) 1 (fun x=>x.bP) (fun x v=>{ x with bP:=v }):=(aI.snd (aI.fst aI.id)).via _ _ _ 1 rfl (fun _=>rfl) (fun _ _=>rfl)
theorem lM:aI aH fe 2 (fun x=>x.E) (fun x v=>{ x with E:=v }):=(aI.snd (aI.snd (aI.fst aI.id))).via _ _ _ 2 rfl (fun _=>rfl) (fun _ _=>rfl)
theorem fC:aI aH (LA (LI .i64) 8) 4 (fun x=>x.Cells) (fun x v=>{ x with Cells:=v }):=(aI.snd (aI.snd (aI.snd aI.id))).via _ _ _ 4 rfl (fun _=>rfl) (fun _ _=>rfl)
structure ag where
 B:aC
 R:(Nat→bI)
abbrev ak:aN ag:=aN.via (LP aB (LA aH 32)) (fun x=>(x.B,x.R))
abbrev eT:ag:=⟨hM,(fun _=>mT)⟩
def aJ:List Value:=((aB).enc hM)++((flat (fun _=>eH) 32))
theorem aT {A:World→Prop}:ak.rep A aJ eT:=⟨_,_,rfl,fl,⟨_,rfl,fun _ _=>eG⟩⟩
theorem bL:aI ak aB 0 (fun x=>x.B) (fun x v=>{ x with B:=v }):=(aI.fst aI.id).via _ _ _ 0 rfl (fun _=>rfl) (fun _ _=>rfl)
theorem cA:aI ak (LA aH 32) 64 (fun x=>x.R) (fun x v=>{ x with R:=v }):=(aI.snd aI.id).via _ _ _ 64 rfl (fun _=>rfl) (fun _ _=>rfl)
def bx (n:Nat) (a0:ag) (a1:Int):Option Bool:=
 bd (bC n a0.B a1) fun bf =>
 some (decide (0 ≤ bf))
theorem bG {n a0 a1 r K} [bu K] {cq} (f0:(ak).rep K cq a0) (h:bx n a0 a1 = some r):qU Try.prog 45 [A cq, .int .i64 a1] K (.bool r):=by
 unfold bx at h
 refine fo Try.func45 (by kernel_rfl) rfl Try.ntmps45 rfl fun cx _ hro cZ hpre=>?_
 refine SC 2 rf ?_
 refine W1 rf (bA rfl) fun b2=>?_
 obtain ⟨bf,bZ,h⟩:=bg h
 refine SL 6 rf ?_
 refine aj rfl (aQ rfl (aV.iff.1 (bL.get f0)) (br _ _)) ?_
 refine aj rfl (au rfl) ?_
 refine CV (cI bZ) rf rf ?_
 refine SL 5 rf ?_
 have h:=sj h; subst h
 exact RV rf (rt rf rn) rf
structure lR where
 iZ:aY
abbrev hY:aN lR:=aN.via az (fun x=>x.iZ)
abbrev oB:lR:=⟨gC⟩
theorem aX:aI hY az 0 (fun x=>x.iZ) (fun x v=>{ x with iZ:=v }):=aI.id.via _ _ _ 0 rfl (fun _=>rfl) (fun _ _=>rfl)
structure bt where
 Up:Int
 bP:Int
 E:cu
 Cells:(Nat→Int)
abbrev aF:aN bt:=aN.via (LP (LI .u32) (LP (LI .i64) (LP cB (LA (LI .u32) 8)))) (fun x=>(x.Up,x.bP,x.E,x.Cells))
abbrev mS:bt:=⟨0,0,ec,(fun _=>0)⟩
def dk:List Value:=[.int .u32 0]++([.int .i64 0]++(fK++((((LA (LI .u32) 8)).enc (fun _=>0)))))
theorem dj {A:World→Prop}:aF.rep A dk mS:=⟨_,_,rfl,rfl,⟨_,_,rfl,rfl,⟨_,_,rfl,g7,fl⟩⟩⟩
theorem bX:aI aF (LI .u32) 0 (fun x=>x.Up) (fun x v=>{ x with Up:=v }):=(aI.fst aI.id).via _ _ _ 0 rfl (fun _=>rfl) (fun _ _=>rfl)
theorem jD:aI aF (LI .i64) 1 (fun x=>x.bP) (fun x v=>{ x with bP:=v }):=(aI.snd (aI.fst aI.id)).via _ _ _ 1 rfl (fun _=>rfl) (fun _ _=>rfl)
theorem lK:aI aF cB 2 (fun x=>x.E) (fun x v=>{ x with E:=v }):=(aI.snd (aI.snd (aI.fst aI.id))).via _ _ _ 2 rfl (fun _=>rfl) (fun _ _=>rfl)
theorem fB:aI aF (LA (LI .u32) 8) 4 (fun x=>x.Cells) (fun x v=>{ x with Cells:=v }):=(aI.snd (aI.snd (aI.snd aI.id))).via _ _ _ 4 rfl (fun _=>rfl) (fun _ _=>rfl)
structure aq where
 book:lR
 regions:(Nat→bt)
abbrev ah:aN aq:=aN.via (LP hY (LA aF 32)) (fun x=>(x.book,x.regions))
abbrev eS:aq:=⟨oB,(fun _=>mS)⟩
def aE:List Value:=((hY).enc oB)++((flat (fun _=>dk) 32))
theorem aL {A:World→Prop}:ah.rep A aE eS:=⟨_,_,rfl,fl,⟨_,rfl,fun _ _=>dj⟩⟩
theorem aR:aI ah hY 0 (fun x=>x.book) (fun x v=>{ x with book:=v }):=(aI.fst aI.id).via _ _ _ 0 rfl (fun _=>rfl) (fun _ _=>rfl)
theorem cV:aI ah (LA aF 32) 96 (fun x=>x.regions) (fun x v=>{ x with regions:=v }):=(aI.snd aI.id).via _ _ _ 96 rfl (fun _=>rfl) (fun _ _=>rfl)
def eA (n:Nat) (a0:aq) (a1:Int):Option Int:=
 bd (bF n a1) fun bf =>
 gu (dH bf.1 32) <|
 bd (aS n a0.book.iZ ((a0.regions (Int.toNat bf.1)).Up)) fun jE =>
 cn (jE) (
 some ((a0.regions (Int.toNat bf.1)).Up)) (
 some 0)
theorem lE {n a0 a1 r K} [bu K] {cq} (f0:(ah).rep K cq a0) (h:eA n a0 a1 = some r):qU Try.prog 105 [A cq, .int .u32 a1] K (.int .u32 r):=by
 unfold eA at h
 refine fo Try.func105 (by kernel_rfl) rfl Try.ntmps105 rfl fun cx _ hro cZ hpre=>?_
 refine SC 2 rf ?_
 refine W1 rf (bA rfl) fun b2=>?_
 obtain ⟨bf,bZ,h⟩:=bg h
 refine SL 6 rf ?_
 refine CV (cN bZ) rf rf ?_
 obtain ⟨nN,h⟩:=cm h
 refine SL 12 rf ?_
 refine aj rfl (bU (m:=(Int.toNat bf.1)) rfl rfl (ay nN).1 (ay nN).2) ?_
 refine aj rfl (fc rfl) ?_
 refine aj rfl (bq rfl (((cV.comp (aI.idx (L:=aF) (m:=32) (k:=12) ((Int.toNat bf.1)) (ay nN).2 rfl)).comp bX).int f0)) ?_
 obtain ⟨jE,j6,h⟩:=bg h
 refine SL 7 rf ?_
 refine aj rfl (aQ rfl (aV.iff.1 ((aR.c0 aX).get f0)) (br _ _)) ?_
 refine aj rfl (au rfl) ?_
 refine CV (bn j6) rf rf ?_
 refine SL 2 rf ?_
 refine ei h rf (fun hc h=>?_) fun hc h=>?_
 ·
  refine SC 8 rf ?_
  have h:=sj h; subst h
  exact RV rf (rt rf rn) rf
 ·
  refine SC 8 rf ?_
  have h:=sj h; subst h
  exact RV rf (rt rf rn) rf
def cP (n:Nat) (a0:aq) (a1:Int):Option (bt × Int):=
 bd (aS n a0.book.iZ a1) fun bf =>
 cn ((!bf)) (
 lt ({ Up:=0,bP:=0,E:=ec,Cells:=(fun _=>0) }:bt) fun ck =>
 some (ck,4)) (
 bd (bF n a1) fun ef =>
 gu (dH ef.1 32) <|
 lt ((a0.regions (Int.toNat ef.1)):bt) fun eX =>
 bd (eA n a0 a1) fun fL =>
 lt ({ eX with Up:=fL }:bt) fun gE =>
 some (gE,0))
theorem eE {n a0 a1 r K} [bu K] {cq} (f0:(ah).rep K cq a0) (h:cP n a0 a1 = some r):pG Try.prog 39 [A cq, .int .u32 a1] K (fun J v=>∃u0,v = (.tuple #[A u0, .int .i64 r.2])∧(aF).rep (fun w=>K w∧J w) u0 (r.1)):=by
 unfold cP at h
 refine fo Try.func39 (by kernel_rfl) rfl Try.ntmps39 rfl fun cx _ hro cZ hpre=>?_
 refine SC 2 rf ?_
 refine W1 rf (bA rfl) fun b2=>?_
 refine W1 rf (bh (hz:=(⟨by kernel_rfl⟩ : bQ Try.prog 74 dk))) fun b4=>?_
 obtain ⟨bf,bZ,h⟩:=bg h
 refine SL 8 rf ?_
 refine aj rfl (aQ rfl (aV.iff.1 ((aR.c0 aX).get f0)) (br _ _)) ?_
 refine aj rfl (au rfl) ?_
 refine CV (bn bZ) rf rf ?_
 refine SL 3 rf ?_
 refine ei h rf (fun hc h=>?_) fun hc h=>?_
 ·
  obtain ⟨ck,ic,h⟩:=cL h
  refine SC 2 rf ?_
  obtain ⟨zX,Eb,f24⟩ : ∃cc,(((LI .u32).enc 0)++(((LI .i64).enc 0)++(fK++((LA (LI .u32) 8).enc (fun _=>0))))) = cc∧(aF).rep (Hs []) cc ck:=⟨_,rfl,by rw [ic]; exact ⟨_,_,rfl,fl,⟨_,_,rfl,fl,⟨_,_,rfl,g7,fl⟩⟩⟩⟩
  refine aj rfl (gX (cs:=zX) rfl (by rw [← Eb]; rfl)) ?_
  refine ST (C:=(Hs [])) ck (aI.id (L:=aF)) dj (mo f24) rf rf rf rf rf fun AJ f26=>?_
  refine SL 5 rf ?_
  have h:=sj h; subst h
  exact kE [] rf rf (ra rf (aN.len _ f26) (rt rf rn)) ⟨_,rfl,(mo f26)⟩
 ·
  obtain ⟨ef,qq,h⟩:=bg h
  refine SC 5 rf ?_
  refine CV (cN qq) rf rf ?_
  obtain ⟨DX,h⟩:=cm h
  obtain ⟨eX,oT,h⟩:=cL h
  refine SL 11 rf ?_
  refine aj rfl (bU (m:=(Int.toNat ef.1)) rfl rfl (ay DX).1 (ay DX).2) ?_
  obtain ⟨xT,zM,f31⟩:=oL ((cV.comp (aI.idx (L:=aF) (m:=32) (k:=12) ((Int.toNat ef.1)) (ay DX).2 rfl)).get f0)
  refine aj rfl (aQ rfl zM (aN.len _ f31)) ?_
  refine W1 rf (bh (hz:=(⟨by kernel_rfl⟩ : bQ Try.prog 74 dk))) fun b8=>?_
  refine ST (C:=K) eX (aI.id (L:=aF)) dj (mo f31) oT rf rf rf rf fun zW f34=>?_
  obtain ⟨fL,qp,h⟩:=bg h
  obtain ⟨gE,j5,h⟩:=cL h
  refine SL 4 rf ?_
  refine aj rfl (ae rfl (aN.len _ f0)) ?_
  refine aj rfl (au rfl) ?_
  refine CV (lE (K:=K) (mo f0) qp) rf rf ?_
  refine aj rfl (aM rfl) ?_
  refine ST (C:=K) gE bX (mo f34) fl j5 rf rf rf rf fun Fe f38=>?_
  refine SL 4 rf ?_
  refine aj rfl (ae rfl (aN.len _ f38)) ?_
  refine ST (C:=K) gE (aI.id (L:=aF)) dj (mo f38) rf rf rf rf rf fun CG f40=>?_
  refine SL 4 rf ?_
  have h:=sj h; subst h
  exact kE [] rf rf (ra rf (aN.len _ f40) (rt rf rn)) ⟨_,rfl,(mo f40)⟩
def dm (n:Nat) (a0:ag) (a1:Int):Option (ag × Int):=
 bd (bC n a0.B a1) fun bf =>
 cn (decide (bf < 0)) (
 some (a0,4)) (
 bd (fk n a0.B a1) fun js =>
 lt ({ a0 with B:=js.1 }:ag) fun dx =>
 lt ({ Up:=0,bP:=0,E:=cE,Cells:=(fun _=>0) }:bI) fun eo =>
 gu (dH bf 32) <|
 lt ({ dx with R:=(er dx.R (Int.toNat bf) eo) }:ag) fun lO =>
 dD (fun Cp (ga:Int) (my:ag) =>
 cn (decide (ga < 32)) (
 gu (dH ga 32) <|
 cn ((((my.R (Int.toNat ga)).Up) == a1)) (
 gu (dH ga 32) <|
 lt ({ my with R:=(er my.R (Int.toNat ga) ({ (my.R (Int.toNat ga)) with Up:=0 })) }:ag) fun tP =>
 Cp (wr .i64 (ga + 1)) tP) (
 Cp (wr .i64 (ga + 1)) my)) (
 some (my,0))) n 0 lO)
theorem nU {n a0 a1 r K} [bu K] {cq} (f0:(ak).rep K cq a0) (h:dm n a0 a1 = some r):pG Try.prog 110 [A cq, .int .i64 a1] K (fun J v=>∃u0,v = (.tuple #[A u0, .int .i64 r.2])∧(ak).rep (fun w=>K w∧J w) u0 (r.1)):=by
 unfold dm at h
 refine fo Try.func110 (by kernel_rfl) rfl Try.ntmps110 rfl fun cx _ hro cZ hpre=>?_
 refine SC 2 rf ?_
 refine W1 rf (bA rfl) fun b2=>?_
 refine W1 rf (bh (hz:=(⟨by kernel_rfl⟩ : bQ Try.prog 105 aJ))) fun b4=>?_
 obtain ⟨bf,bZ,h⟩:=bg h
 refine SL 6 rf ?_
 refine aj rfl (aQ rfl (aV.iff.1 (bL.get f0)) (br _ _)) ?_
 refine aj rfl (au rfl) ?_
 refine CV (cI bZ) rf rf ?_
 refine SL 10 rf ?_
 refine ei h rf (fun hc h=>?_) fun hc h=>?_
 ·
  refine SC 2 rf ?_
  refine aj rfl (ae rfl (aN.len _ f0)) ?_
  refine ST (C:=K) a0 (aI.id (L:=ak)) aT (mo f0) rf rf rf rf rf fun Ez f23=>?_
  refine SL 5 rf ?_
  have h:=sj h; subst h
  exact kE [] rf rf (ra rf (aN.len _ f23) (rt rf rn)) ⟨_,rfl,(mo f23)⟩
 ·
  obtain ⟨js,nJ,h⟩:=bg h
  obtain ⟨dx,lV,h⟩:=cL h
  refine SC 5 rf ?_
  refine aj rfl (aQ rfl (aV.iff.1 (bL.get f0)) (br _ _)) ?_
  refine aj rfl (au rfl) ?_
  refine CV (oy nJ) rf rf ?_
  refine SL 4 rf ?_
  refine ST (C:=K) dx bL (mo f0) fl lV rf rf rf rf fun BL f28=>?_
  obtain ⟨eo,oU,h⟩:=cL h
  obtain ⟨vH,h⟩:=cm h
  obtain ⟨lO,sQ,h⟩:=cL h
  refine SL 5 rf ?_
  obtain ⟨xT,zM,f31⟩ : ∃cc,(((LI .i64).enc 0)++(((LI .i64).enc 0)++(gq++((LA (LI .i64) 8).enc (fun _=>0))))) = cc∧(aH).rep (Hs []) cc eo:=⟨_,rfl,by rw [oU]; exact ⟨_,_,rfl,fl,⟨_,_,rfl,fl,⟨_,_,rfl,iw,fl⟩⟩⟩⟩
  refine aj rfl (gX (cs:=xT) rfl (by rw [← zM]; rfl)) ?_
  refine aj rfl (aM rfl) ?_
  refine aj rfl (bU (m:=(Int.toNat bf)) rfl rfl (ay vH).1 (ay vH).2) ?_
  refine ST (C:=K) lO (cA.comp (aI.idx (L:=aH) (m:=32) (k:=12) ((Int.toNat bf)) (ay vH).2 rfl)) (mo f28) (mo f31) sQ rf rf rf rf fun AI f35=>?_
  refine SL 9 rf ?_
  obtain ⟨JD,GV,h⟩:=lq h
  refine jR ?_
  refine LO (β:=Int × ag × (List Value) × (List Nat) × (World→Prop)) [1,2,4] [0,1,2] (fun (FW,ga,my,BK,lG,sA)=>[(7, .int .i64 ga)]) (fun (FW,ga,my,BK,lG,sA)=>[.ext lG sA, .cells b4 105 aJ, .cells b2 105 BK]) (fun (FW,ga,my,BK,lG,sA)=>(ak).rep (fun w=>K w∧Hs [.ext lG sA] w) BK my∧dD JD FW ga my = some r) (n,0,lO,AI,[],(Hs [])) ⟨(mo f35),h⟩ rf rf rf ?_
  rintro FW ⟨ga,my,BK,lG,sA⟩ ⟨f48,h⟩
  replace h:=lp GV h; obtain ⟨FW,rfl,h⟩:=h
  refine SC 7 rf ?_
  refine ei h rf (fun hc h=>?_) fun hc h=>?_
  ·
   obtain ⟨DT,h⟩:=cm h
   refine SC 8 rf ?_
   refine aj rfl (bU (m:=(Int.toNat ga)) rfl rfl (ay DT).1 (ay DT).2) ?_
   refine aj rfl (fc rfl) ?_
   refine aj rfl (bq rfl (((cA.comp (aI.idx (L:=aH) (m:=32) (k:=12) ((Int.toNat ga)) (ay DT).2 rfl)).comp cX).int f48)) ?_
   refine SL 4 rf ?_
   refine ei h rf (fun hc h=>?_) fun hc h=>?_
   ·
    obtain ⟨vF,h⟩:=cm h
    obtain ⟨tP,xF,h⟩:=cL h
    refine SC 3 rf ?_
    refine aj rfl (bU (m:=(Int.toNat ga)) rfl rfl (ay vF).1 (ay vF).2) ?_
    refine aj rfl (fc rfl) ?_
    refine ST (C:=(fun w=>K w∧Hs [.ext lG sA] w)) tP ((cA.comp (aI.idx (L:=aH) (m:=32) (k:=12) ((Int.toNat ga)) (ay vF).2 rfl)).comp cX) (mo f48) fl xF rf rf rf rf fun so f56=>?_
    refine SL 8 rf ?_
    refine bM (R:=[.ext lG sA]) (H':=[.cells b4 105 aJ, .cells b2 105 so]) (ks:=[0,1,2]) rfl (by decide) ?_
    exact LN [0,1,2] (wr .i64 (ga + 1),tP,so,(bE [.ext lG sA]),(Hs [.ext lG sA])) ⟨(mo f56),h⟩ rf rf rf
   ·
    refine SC 8 rf ?_
    refine bM (R:=[.ext lG sA]) (H':=[.cells b4 105 aJ, .cells b2 105 BK]) (ks:=[0,1,2]) rfl (by decide) ?_
    exact LN [0,1,2] (wr .i64 (ga + 1),my,BK,(bE [.ext lG sA]),(Hs [.ext lG sA])) ⟨(mo f48),h⟩ rf rf rf
  ·
   refine SC 7 rf ?_
   refine aj rfl (ae rfl (aN.len _ f48)) ?_
   refine ST (C:=(fun w=>K w∧Hs [.ext lG sA] w)) my (aI.id (L:=ak)) aT (mo f48) rf rf rf rf rf fun ML f58=>?_
   refine SL 4 rf ?_
   have h:=sj h; subst h
   exact kE [0] rf rf (ra rf (aN.len _ f58) (rt rf rn)) ⟨_,rfl,(mo f58)⟩
def cQ (n:Nat) (a0:ag) (a1:Int) (a2:Int):Option (ag × Int × Int):=
 cl ((a1 != 0) == true) (bx n a0 a1) default fun bf =>
 cn (((a1 != 0) && (!bf))) (
 some (a0,0,4)) (
 cn ((decide (a2 < 0) || decide (64 < a2))) (
 some (a0,0,2)) (
 bd (eU n a0.B) fun ef =>
 cn ((ef.2 == 0)) (
 some (a0,0,7)) (
 lt ({ a0 with B:=ef.1 }:ag) fun eX =>
 bd (bC n ef.1 ef.2) fun fL =>
 lt ({ Up:=a1,bP:=a2,E:=cE,Cells:=(fun _=>0) }:bI) fun gE =>
 gu (dH fL 32) <|
 lt ({ eX with R:=(er eX.R (Int.toNat fL) gE) }:ag) fun jk =>
 some (jk,ef.2,0))))
theorem ox {n a0 a1 a2 r K} [bu K] {cq} (f0:(ak).rep K cq a0) (h:cQ n a0 a1 a2 = some r):pG Try.prog 113 [A cq, .int .i64 a1, .int .i64 a2] K (fun J v=>∃u0,v = (.tuple #[A u0, .int .i64 r.2.1, .int .i64 r.2.2])∧(ak).rep (fun w=>K w∧J w) u0 (r.1)):=by
 unfold cQ at h
 refine fo Try.func113 (by kernel_rfl) rfl Try.ntmps113 rfl fun cx _ hro cZ hpre=>?_
 refine SC 2 rf ?_
 refine W1 rf (bA rfl) fun b3=>?_
 refine W1 rf (bh (hz:=(⟨by kernel_rfl⟩ : bQ Try.prog 105 aJ))) fun b6=>?_
 obtain ⟨bf,bZ,_,h⟩:=fV h
 refine SL 10 rf ?_
 refine GB rf rf rf (fun hb=>ae rfl (aN.len _ f0)) ?_
 refine GB rf rf rf (fun hb=>au rfl) ?_
 refine GB rf rf rf (fun hb=>bS (bG (K:=K) (mo f0) (bZ hb)) (aA (bD rfl hb) (aA (bD rfl hb) rfl)) kn) ?_
 refine GB rf rf rf (fun hb=>ij (bD rfl hb)) ?_
 refine aj rfl (cM rfl rfl) ?_
 refine SL 2 rf ?_
 refine ei h rf (fun hc h=>?_) fun hc h=>?_
 ·
  refine SC 2 rf ?_
  refine aj rfl (ae rfl (aN.len _ f0)) ?_
  refine ST (C:=K) a0 (aI.id (L:=ak)) aT (mo f0) rf rf rf rf rf fun Ez f23=>?_
  refine SL 6 rf ?_
  have h:=sj h; subst h
  exact kE [] rf rf (ra rf (aN.len _ f23) (rt rf (rt rf rn))) ⟨_,rfl,(mo f23)⟩
 ·
  refine SC 8 rf ?_
  refine GB rf rf rf (fun hb=>au rfl) ?_
  refine GB rf rf rf (fun hb=>mW (bD rfl hb) rfl) ?_
  refine aj rfl (eu rfl rfl) ?_
  refine SL 2 rf ?_
  refine ei h rf (fun hc h=>?_) fun hc h=>?_
  ·
   refine SC 2 rf ?_
   refine aj rfl (ae rfl (aN.len _ f0)) ?_
   refine ST (C:=K) a0 (aI.id (L:=ak)) aT (mo f0) rf rf rf rf rf fun AJ f26=>?_
   refine SL 6 rf ?_
   have h:=sj h; subst h
   exact kE [] rf rf (ra rf (aN.len _ f26) (rt rf (rt rf rn))) ⟨_,rfl,(mo f26)⟩
  ·
   obtain ⟨ef,qq,h⟩:=bg h
   refine SC 5 rf ?_
   refine aj rfl (aQ rfl (aV.iff.1 (bL.get f0)) (br _ _)) ?_
   refine CV (nW qq) rf rf ?_
   refine SL 3 rf ?_
   refine W1 rf (cU (L:=aB) (z:=hM) ⟨by kernel_rfl⟩) fun b9=>?_
   refine W0 (di (M:=aB) (aI.id (L:=aB)) ef.1 ef.1 rfl rfl rfl rfl rfl) ?_
   refine SL 10 rf ?_
   refine ei h rf (fun hc h=>?_) fun hc h=>?_
   ·
    refine SC 2 rf ?_
    refine aj rfl (ae rfl (aN.len _ f0)) ?_
    refine ST (C:=K) a0 (aI.id (L:=ak)) aT (mo f0) rf rf rf rf rf fun MO f30=>?_
    refine SL 6 rf ?_
    have h:=sj h; subst h
    exact kE [] rf rf (ra rf (aN.len _ f30) (rt rf (rt rf rn))) ⟨_,rfl,(mo f30)⟩
   ·
    obtain ⟨eX,oT,h⟩:=cL h
    refine SC 4 rf ?_
    refine aj rfl (dy (M:=aB) (aI.id (L:=aB)) rfl rfl) ?_
    refine aj rfl (aM rfl) ?_
    refine ST (C:=K) eX bL (mo f0) fl oT rf rf rf rf fun zW f34=>?_
    obtain ⟨fL,qp,h⟩:=bg h
    obtain ⟨gE,j5,h⟩:=cL h
    obtain ⟨iS,h⟩:=cm h
    obtain ⟨jk,pK,h⟩:=cL h
    refine SL 4 rf ?_
    refine aj rfl (dy (M:=aB) (aI.id (L:=aB)) rfl rfl) ?_
    refine aj rfl (au rfl) ?_
    refine CV (cI qp) rf rf ?_
    refine SL 2 rf ?_
    obtain ⟨Fe,Lh,f38⟩ : ∃cc,(((LI .i64).enc a1)++(((LI .i64).enc a2)++(gq++((LA (LI .i64) 8).enc (fun _=>0))))) = cc∧(aH).rep (Hs []) cc gE:=⟨_,rfl,by rw [j5]; exact ⟨_,_,rfl,fl,⟨_,_,rfl,fl,⟨_,_,rfl,iw,fl⟩⟩⟩⟩
    refine aj rfl (gX (cs:=Fe) rfl (by rw [← Lh]; rfl)) ?_
    refine aj rfl (aM rfl) ?_
    refine aj rfl (bU (m:=(Int.toNat fL)) rfl rfl (ay iS).1 (ay iS).2) ?_
    refine ST (C:=K) jk (cA.comp (aI.idx (L:=aH) (m:=32) (k:=12) ((Int.toNat fL)) (ay iS).2 rfl)) (mo f34) (mo f38) pK rf rf rf rf fun OS f42=>?_
    refine SL 4 rf ?_
    refine aj rfl (ae rfl (aN.len _ f42)) ?_
    refine aj rfl (au rfl) ?_
    refine ST (C:=K) jk (aI.id (L:=ak)) aT (mo f42) rf rf rf rf rf fun Ex f44=>?_
    refine SL 5 rf ?_
    have h:=sj h; subst h
    exact kE [] rf rf (ra rf (aN.len _ f44) (rt rf (rt rf rn))) ⟨_,rfl,(mo f44)⟩
def bK (n:Nat) (a0:ag) (a1:Int) (a2:Int):Option Bool:=
 dF (fun vx (ck:Int) =>
 cn ((ck != 0)) (
 bd (bC n a0.B ck) fun dx =>
 gu (dH dx 32) <|
 cn ((((a0.R (Int.toNat dx)).Up) == a1)) (
 some (a1 != 0)) (
 vx ((a0.R (Int.toNat dx)).Up))) (
 some false)) n a2
theorem ig {n a0 a1 a2 r K} [bu K] {cq} (f0:(ak).rep K cq a0) (h:bK n a0 a1 a2 = some r):qU Try.prog 129 [A cq, .int .i64 a1, .int .i64 a2] K (.bool r):=by
 unfold bK at h
 refine fo Try.func129 (by kernel_rfl) rfl Try.ntmps129 rfl fun cx _ hro cZ hpre=>?_
 refine SC 2 rf ?_
 refine W1 rf (bA rfl) fun b3=>?_
 refine SL 5 rf ?_
 obtain ⟨qj,mN,h⟩:=kJ h
 refine LO (β:=Int) [1,3] [0] (fun (mH,ck)=>[(2, .int .i64 ck)]) (fun (mH,ck)=>[.cells b3 105 cq]) (fun (mH,ck)=>dF qj mH ck = some r) (n,a2) h rf rf rf ?_
 rintro mH ck h
 replace h:=kI mN h; obtain ⟨mH,rfl,h⟩:=h
 refine SC 7 rf ?_
 refine ei h rf (fun hc h=>?_) fun hc h=>?_
 ·
  obtain ⟨dx,lV,h⟩:=bg h
  obtain ⟨nM,h⟩:=cm h
  refine SC 6 rf ?_
  refine aj rfl (aQ rfl (aV.iff.1 (bL.get f0)) (br _ _)) ?_
  refine aj rfl (au rfl) ?_
  refine CV (cI lV) rf rf ?_
  refine aj rfl (aM rfl) ?_
  refine aj rfl (bU (m:=(Int.toNat dx)) rfl rfl (ay nM).1 (ay nM).2) ?_
  refine aj rfl (fc rfl) ?_
  refine aj rfl (bq rfl (((cA.comp (aI.idx (L:=aH) (m:=32) (k:=12) ((Int.toNat dx)) (ay nM).2 rfl)).comp cX).int f0)) ?_
  refine SL 10 rf ?_
  refine ei h rf (fun hc h=>?_) fun hc h=>?_
  ·
   refine SC 12 rf ?_
   have h:=sj h; subst h
   exact RV rf (rt rf rn) rf
  ·
   refine SC 2 rf ?_
   exact LN [0] ((a0.R (Int.toNat dx)).Up) h rf rf rf
 ·
  refine SC 11 rf ?_
  have h:=sj h; subst h
  exact RV rf (rt rf rn) rf
def dS (n:Nat) (a0:ag) (a1:Int) (a2:Int):Option (ag × Int):=
 bd (bx n a0 a1) fun bf =>
 cl (((!bf) == false) && ((a2 != 0) == true)) (bx n a0 a2) default fun ck =>
 cn (((!bf) || ((a2 != 0) && (!ck)))) (
 some (a0,4)) (
 cl (((a2 != 0) == true) && ((a2 == a1) == false)) (bK n a0 a1 a2) default fun dx =>
 cn (((a2 != 0) && ((a2 == a1) || dx))) (
 some (a0,12)) (
 bd (bC n a0.B a1) fun bJ =>
 gu (dH bJ 32) <|
 lt ({ a0 with R:=(er a0.R (Int.toNat bJ) ({ (a0.R (Int.toNat bJ)) with Up:=a2 })) }:ag) fun eX =>
 some (eX,0)))
theorem nm {n a0 a1 a2 r K} [bu K] {cq} (f0:(ak).rep K cq a0) (h:dS n a0 a1 a2 = some r):pG Try.prog 112 [A cq, .int .i64 a1, .int .i64 a2] K (fun J v=>∃u0,v = (.tuple #[A u0, .int .i64 r.2])∧(ak).rep (fun w=>K w∧J w) u0 (r.1)):=by
 unfold dS at h
 refine fo Try.func112 (by kernel_rfl) rfl Try.ntmps112 rfl fun cx _ hro cZ hpre=>?_
 refine SC 2 rf ?_
 refine W1 rf (bA rfl) fun b3=>?_
 refine W1 rf (bh (hz:=(⟨by kernel_rfl⟩ : bQ Try.prog 105 aJ))) fun b6=>?_
 obtain ⟨bf,bZ,h⟩:=bg h
 obtain ⟨ck,ic,_,h⟩:=fV h
 refine SL 6 rf ?_
 refine aj rfl (ae rfl (aN.len _ f0)) ?_
 refine aj rfl (au rfl) ?_
 refine CV (bG (K:=K) (mo f0) bZ) rf rf ?_
 refine SL 2 rf ?_
 refine GB rf rf rf (fun hb=>au rfl) ?_
 refine GB rf rf rf (fun hb=>mU (bD rfl hb) rfl) ?_
 refine GB rf rf rf (fun hb=>au (bD rfl hb)) ?_
 refine lZ (mw rfl rfl) rfl (fun hb=>ae rfl (aN.len _ f0)) ?_
 refine lZ (mw rfl rfl) rfl (fun hb=>au rfl) ?_
 refine lZ (mw rfl rfl) rfl (fun hb=>bS (bG (K:=K) (mo f0) (ic hb)) (aA (bD rfl hb) (aA (bD rfl hb) rfl)) kn) ?_
 refine lZ (mw rfl rfl) rfl (fun hb=>ij (bD rfl hb)) ?_
 refine GB rf rf rf (fun hb=>cM (bD rfl hb) (BA rfl hb)) ?_
 refine aj rfl (eu rfl rfl) ?_
 refine SL 2 rf ?_
 refine ei h rf (fun hc h=>?_) fun hc h=>?_
 ·
  refine SC 2 rf ?_
  refine aj rfl (ae rfl (aN.len _ f0)) ?_
  refine ST (C:=K) a0 (aI.id (L:=ak)) aT (mo f0) rf rf rf rf rf fun zX f24=>?_
  refine SL 5 rf ?_
  have h:=sj h; subst h
  exact kE [] rf rf (ra rf (aN.len _ f24) (rt rf rn)) ⟨_,rfl,(mo f24)⟩
 ·
  obtain ⟨dx,lV,_,h⟩:=fV h
  refine SC 8 rf ?_
  refine GB rf rf rf (fun hb=>au rfl) ?_
  refine GB rf rf rf (fun hb=>au rfl) ?_
  refine GB rf rf rf (fun hb=>fg (bD rfl hb) (bD rfl hb)) ?_
  refine GB rf rf rf (fun hb=>au (bD rfl hb)) ?_
  refine lZ (mw rfl rfl) rfl (fun hb=>ae rfl (aN.len _ f0)) ?_
  refine lZ (mw rfl rfl) rfl (fun hb=>au rfl) ?_
  refine lZ (mw rfl rfl) rfl (fun hb=>au rfl) ?_
  refine lZ (mw rfl rfl) rfl (fun hb=>bS (ig (K:=K) (mo f0) (lV hb)) (aA (bD rfl hb) (aA (bD rfl hb) (aA (bD rfl hb) rfl))) kn) ?_
  refine GB rf rf rf (fun hb=>eu (bD rfl hb) (BA rfl hb)) ?_
  refine aj rfl (cM rfl rfl) ?_
  refine SL 2 rf ?_
  refine ei h rf (fun hc h=>?_) fun hc h=>?_
  ·
   refine SC 2 rf ?_
   refine aj rfl (ae rfl (aN.len _ f0)) ?_
   refine ST (C:=K) a0 (aI.id (L:=ak)) aT (mo f0) rf rf rf rf rf fun BL f28=>?_
   refine SL 5 rf ?_
   have h:=sj h; subst h
   exact kE [] rf rf (ra rf (aN.len _ f28) (rt rf rn)) ⟨_,rfl,(mo f28)⟩
  ·
   obtain ⟨bJ,sR,h⟩:=bg h
   obtain ⟨vI,h⟩:=cm h
   obtain ⟨eX,oT,h⟩:=cL h
   refine SC 5 rf ?_
   refine aj rfl (aQ rfl (aV.iff.1 (bL.get f0)) (br _ _)) ?_
   refine aj rfl (au rfl) ?_
   refine CV (cI sR) rf rf ?_
   refine SL 2 rf ?_
   refine aj rfl (bU (m:=(Int.toNat bJ)) rfl rfl (ay vI).1 (ay vI).2) ?_
   refine aj rfl (fc rfl) ?_
   refine ST (C:=K) eX ((cA.comp (aI.idx (L:=aH) (m:=32) (k:=12) ((Int.toNat bJ)) (ay vI).2 rfl)).comp cX) (mo f0) fl oT rf rf rf rf fun zW f34=>?_
   refine SL 4 rf ?_
   refine aj rfl (ae rfl (aN.len _ f34)) ?_
   refine ST (C:=K) eX (aI.id (L:=ak)) aT (mo f34) rf rf rf rf rf fun OT f36=>?_
   refine SL 4 rf ?_
   have h:=sj h; subst h
   exact kE [] rf rf (ra rf (aN.len _ f36) (rt rf rn)) ⟨_,rfl,(mo f36)⟩
def dY (n:Nat) (a0:ag) (a1:Int) (a2:bI):Option (ag × Int):=
 bd (bC n a0.B a1) fun bf =>
 cn (decide (bf < 0)) (
 some (a0,4)) (
 cl ((decide (a2.bP < 0) || decide (64 < a2.bP)) == false) (cT n a2.E) default fun cw =>
 cn (((decide (a2.bP < 0) || decide (64 < a2.bP)) || (!cw))) (
 some (a0,2)) (
 gu (dH bf 32) <|
 lt ({ a2 with Up:=(a0.R (Int.toNat bf)).Up }:bI) fun eX =>
 gu (dH bf 32) <|
 lt ({ a0 with R:=(er a0.R (Int.toNat bf) eX) }:ag) fun gE =>
 some (gE,0)))
theorem ow {n a0 a1 a2 r K} [bu K] {cq} (f0:(ak).rep K cq a0) {tO:List Value} (f2:(aH).rep K tO a2) (h:dY n a0 a1 a2 = some r):pG Try.prog 111 [A cq, .int .i64 a1,A tO] K (fun J v=>∃u0,v = (.tuple #[A u0, .int .i64 r.2])∧(ak).rep (fun w=>K w∧J w) u0 (r.1)):=by
 unfold dY at h
 refine fo Try.func111 (by kernel_rfl) rfl Try.ntmps111 rfl fun cx _ hro cZ hpre=>?_
 refine SC 2 rf ?_
 refine W1 rf (bA rfl) fun b3=>?_
 refine W1 rf (bA rfl) fun b5=>?_
 refine W1 rf (bh (hz:=(⟨by kernel_rfl⟩ : bQ Try.prog 105 aJ))) fun b6=>?_
 obtain ⟨bf,bZ,h⟩:=bg h
 refine SL 6 rf ?_
 refine aj rfl (aQ rfl (aV.iff.1 (bL.get f0)) (br _ _)) ?_
 refine aj rfl (au rfl) ?_
 refine CV (cI bZ) rf rf ?_
 refine SL 10 rf ?_
 refine ei h rf (fun hc h=>?_) fun hc h=>?_
 ·
  refine SC 2 rf ?_
  refine aj rfl (ae rfl (aN.len _ f0)) ?_
  refine ST (C:=K) a0 (aI.id (L:=ak)) aT (mo f0) rf rf rf rf rf fun Ez f23=>?_
  refine SL 5 rf ?_
  have h:=sj h; subst h
  exact kE [] rf rf (ra rf (aN.len _ f23) (rt rf rn)) ⟨_,rfl,(mo f23)⟩
 ·
  obtain ⟨cw,kR,_,h⟩:=fV h
  refine SC 6 rf ?_
  refine aj rfl (bq rfl (gZ.int f2)) ?_
  refine SL 2 rf ?_
  refine GB rf rf rf (fun hb=>aM rfl) ?_
  refine GB rf rf rf (fun hb=>bq (bD rfl hb) (gZ.int f2)) ?_
  refine GB rf rf rf (fun hb=>mW (bD rfl hb) rfl) ?_
  refine aj rfl (eu rfl rfl) ?_
  refine aj rfl (au rfl) ?_
  refine GB rf rf rf (fun hb=>aM rfl) ?_
  obtain ⟨AJ,Lk,f26⟩:=oL (lM.get f2)
  refine GB rf rf rf (fun hb=>aQ (bD rfl hb) Lk (aN.len _ f26)) ?_
  refine GB rf rf rf (fun hb=>bS (nV (K:=K) (mo f26) (kR hb)) (aA (bD rfl hb) rfl) kn) ?_
  refine GB rf rf rf (fun hb=>ij (bD rfl hb)) ?_
  refine aj rfl (eu rfl rfl) ?_
  refine SL 2 rf ?_
  refine ei h rf (fun hc h=>?_) fun hc h=>?_
  ·
   refine SC 2 rf ?_
   refine aj rfl (ae rfl (aN.len _ f0)) ?_
   refine ST (C:=K) a0 (aI.id (L:=ak)) aT (mo f0) rf rf rf rf rf fun yn f29=>?_
   refine SL 5 rf ?_
   have h:=sj h; subst h
   exact kE [] rf rf (ra rf (aN.len _ f29) (rt rf rn)) ⟨_,rfl,(mo f29)⟩
  ·
   obtain ⟨vI,h⟩:=cm h
   obtain ⟨eX,oT,h⟩:=cL h
   refine SC 6 rf ?_
   refine aj rfl (bU (m:=(Int.toNat bf)) rfl rfl (ay vI).1 (ay vI).2) ?_
   refine aj rfl (fc rfl) ?_
   refine aj rfl (bq rfl (((cA.comp (aI.idx (L:=aH) (m:=32) (k:=12) ((Int.toNat bf)) (ay vI).2 rfl)).comp cX).int f0)) ?_
   refine aj rfl (aM rfl) ?_
   refine ST (C:=K) eX cX (mo f2) fl oT rf rf rf rf fun zW f34=>?_
   obtain ⟨kS,h⟩:=cm h
   obtain ⟨gE,j5,h⟩:=cL h
   refine SL 5 rf ?_
   refine aj rfl (ae rfl (aN.len _ f34)) ?_
   refine aj rfl (aM rfl) ?_
   refine aj rfl (bU (m:=(Int.toNat bf)) rfl rfl (ay kS).1 (ay kS).2) ?_
   refine ST (C:=K) gE (cA.comp (aI.idx (L:=aH) (m:=32) (k:=12) ((Int.toNat bf)) (ay kS).2 rfl)) (mo f0) (mo f34) j5 rf rf rf rf fun Fe f38=>?_
   refine SL 4 rf ?_
   refine aj rfl (ae rfl (aN.len _ f38)) ?_
   refine ST (C:=K) gE (aI.id (L:=ak)) aT (mo f38) rf rf rf rf rf fun CG f40=>?_
   refine SL 4 rf ?_
   have h:=sj h; subst h
   exact kE [] rf rf (ra rf (aN.len _ f40) (rt rf rn)) ⟨_,rfl,(mo f40)⟩
def dM (n:Nat) (a0:aq) (a1:Int):Option (aq × Int):=
 bd (fT n a0.book.iZ a1) fun bf =>
 cn ((!bf.2)) (
 some (a0,4)) (
 lt ({ a0 with book:={ a0.book with iZ:=bf.1 } }:aq) fun js =>
 bd (bF n a1) fun ef =>
 lt ({ Up:=0,bP:=0,E:=ec,Cells:=(fun _=>0) }:bt) fun eo =>
 gu (dH ef.1 32) <|
 lt ({ js with regions:=(er js.regions (Int.toNat ef.1) eo) }:aq) fun lO =>
 some (lO,0))
theorem nT {n a0 a1 r K} [bu K] {cq} (f0:(ah).rep K cq a0) (h:dM n a0 a1 = some r):pG Try.prog 33 [A cq, .int .u32 a1] K (fun J v=>∃u0,v = (.tuple #[A u0, .int .i64 r.2])∧(ah).rep (fun w=>K w∧J w) u0 (r.1)):=by
 unfold dM at h
 refine fo Try.func33 (by kernel_rfl) rfl Try.ntmps33 rfl fun cx _ hro cZ hpre=>?_
 refine SC 2 rf ?_
 refine W1 rf (bA rfl) fun b2=>?_
 refine W1 rf (bh (hz:=(⟨by kernel_rfl⟩ : bQ Try.prog 77 aE))) fun b4=>?_
 obtain ⟨bf,bZ,h⟩:=bg h
 refine SL 7 rf ?_
 refine aj rfl (aQ rfl (aV.iff.1 ((aR.c0 aX).get f0)) (br _ _)) ?_
 refine aj rfl (au rfl) ?_
 refine CV (nX bZ) rf rf ?_
 refine SL 3 rf ?_
 refine W1 rf (cU (L:=az) (z:=gC) ⟨by kernel_rfl⟩) fun b6=>?_
 refine W0 (di (M:=az) (aI.id (L:=az)) bf.1 bf.1 rfl rfl rfl rfl rfl) ?_
 refine SL 10 rf ?_
 refine ei h rf (fun hc h=>?_) fun hc h=>?_
 ·
  refine SC 2 rf ?_
  refine aj rfl (ae rfl (aN.len _ f0)) ?_
  refine ST (C:=K) a0 (aI.id (L:=ah)) aL (mo f0) rf rf rf rf rf fun Ez f23=>?_
  refine SL 5 rf ?_
  have h:=sj h; subst h
  exact kE [] rf rf (ra rf (aN.len _ f23) (rt rf rn)) ⟨_,rfl,(mo f23)⟩
 ·
  obtain ⟨js,nJ,h⟩:=cL h
  refine SC 4 rf ?_
  refine aj rfl (dy (M:=az) (aI.id (L:=az)) rfl rfl) ?_
  refine SL 2 rf ?_
  refine ST (C:=K) js (aR.c0 aX) (mo f0) fl nJ rf rf rf rf fun Ey f27=>?_
  obtain ⟨ef,qq,h⟩:=bg h
  refine SL 5 rf ?_
  refine CV (cN qq) rf rf ?_
  obtain ⟨eo,oU,h⟩:=cL h
  obtain ⟨vH,h⟩:=cm h
  obtain ⟨lO,sQ,h⟩:=cL h
  refine SL 10 rf ?_
  obtain ⟨xT,zM,f31⟩ : ∃cc,(((LI .u32).enc 0)++(((LI .i64).enc 0)++(fK++((LA (LI .u32) 8).enc (fun _=>0))))) = cc∧(aF).rep (Hs []) cc eo:=⟨_,rfl,by rw [oU]; exact ⟨_,_,rfl,fl,⟨_,_,rfl,fl,⟨_,_,rfl,g7,fl⟩⟩⟩⟩
  refine aj rfl (gX (cs:=xT) rfl (by rw [← zM]; rfl)) ?_
  refine aj rfl (aM rfl) ?_
  refine aj rfl (bU (m:=(Int.toNat ef.1)) rfl rfl (ay vH).1 (ay vH).2) ?_
  refine ST (C:=K) lO (cV.comp (aI.idx (L:=aF) (m:=32) (k:=12) ((Int.toNat ef.1)) (ay vH).2 rfl)) (mo f27) (mo f31) sQ rf rf rf rf fun AI f35=>?_
  refine SL 4 rf ?_
  refine aj rfl (ae rfl (aN.len _ f35)) ?_
  refine ST (C:=K) lO (aI.id (L:=ah)) aL (mo f35) rf rf rf rf rf fun wP f37=>?_
  refine SL 4 rf ?_
  have h:=sj h; subst h
  exact kE [] rf rf (ra rf (aN.len _ f37) (rt rf rn)) ⟨_,rfl,(mo f37)⟩
def gN (n:Nat) (a0:Int):Option Bool:=
 some (decide (0 ≤ a0) && decide (a0 ≤ 64))
theorem nw {n a0 r}  (h:gN n a0 = some r):w9 Try.prog 102 [.int .i64 a0] (.bool r):=by
 unfold gN at h
 refine fG Try.func102 (by kernel_rfl) rfl Try.ntmps102 rfl (fun cx cZ hpre hro=>?_)
 refine SC 10 rf ?_
 refine GB rf rf rf (fun hb=>au rfl) ?_
 refine GB rf rf rf (fun hb=>n3 (bD rfl hb) rfl) ?_
 refine aj rfl (cM rfl rfl) ?_
 refine SL 4 rf ?_
 have h:=sj h; subst h
 exact RV rf (rt rf rn) rf
def dX (n:Nat) (a0:aq) (a1:Int) (a2:Int):Option (aq × Int × Int):=
 cl ((a1 != 0) == true) (aS n a0.book.iZ a1) default fun bf =>
 cn (((a1 != 0) && (!bf))) (
 some (a0,0,4)) (
 bd (gN n a2) fun js =>
 cn ((!js)) (
 some (a0,0,2)) (
 bd (eC n a0.book.iZ) fun eo =>
 cn ((!eo.2.2)) (
 some (a0,0,7)) (
 lt ({ a0 with book:={ a0.book with iZ:=eo.1 } }:aq) fun lO =>
 bd (bF n eo.2.1) fun gE =>
 lt ({ Up:=a1,bP:=a2,E:=ec,Cells:=(fun _=>0) }:bt) fun gA =>
 gu (dH gE.1 32) <|
 lt ({ lO with regions:=(er lO.regions (Int.toNat gE.1) gA) }:aq) fun dP =>
 some (dP,eo.2.1,0))))
theorem oq {n a0 a1 a2 r K} [bu K] {cq} (f0:(ah).rep K cq a0) (h:dX n a0 a1 a2 = some r):pG Try.prog 37 [A cq, .int .u32 a1, .int .i64 a2] K (fun J v=>∃u0,v = (.tuple #[A u0, .int .u32 r.2.1, .int .i64 r.2.2])∧(ah).rep (fun w=>K w∧J w) u0 (r.1)):=by
 unfold dX at h
 refine fo Try.func37 (by kernel_rfl) rfl Try.ntmps37 rfl fun cx _ hro cZ hpre=>?_
 refine SC 2 rf ?_
 refine W1 rf (bA rfl) fun b3=>?_
 refine W1 rf (bh (hz:=(⟨by kernel_rfl⟩ : bQ Try.prog 77 aE))) fun b6=>?_
 obtain ⟨bf,bZ,_,h⟩:=fV h
 refine SL 11 rf ?_
 refine GB rf rf rf (fun hb=>aM rfl) ?_
 refine GB rf rf rf (fun hb=>aM (bD rfl hb)) ?_
 refine GB rf rf rf (fun hb=>aQ (bD rfl hb) (aV.iff.1 ((aR.c0 aX).get f0)) (br _ _)) ?_
 refine GB rf rf rf (fun hb=>au rfl) ?_
 refine GB rf rf rf (fun hb=>bS (bn (bZ hb)) (aA (bD rfl hb) (aA (bD rfl hb) rfl)) (fun _ _ _=>trivial)) ?_
 refine GB rf rf rf (fun hb=>ij (bD rfl hb)) ?_
 refine aj rfl (cM rfl rfl) ?_
 refine SL 3 rf ?_
 refine ei h rf (fun hc h=>?_) fun hc h=>?_
 ·
  refine SC 2 rf ?_
  refine aj rfl (ae rfl (aN.len _ f0)) ?_
  refine ST (C:=K) a0 (aI.id (L:=ah)) aL (mo f0) rf rf rf rf rf fun Ez f23=>?_
  refine SL 7 rf ?_
  have h:=sj h; subst h
  exact kE [] rf rf (ra rf (aN.len _ f23) (rt rf (rt rf rn))) ⟨_,rfl,(mo f23)⟩
 ·
  obtain ⟨js,nJ,h⟩:=bg h
  refine SC 3 rf ?_
  refine CV (nw nJ) rf rf ?_
  refine SL 4 rf ?_
  refine ei h rf (fun hc h=>?_) fun hc h=>?_
  ·
   refine SC 2 rf ?_
   refine aj rfl (ae rfl (aN.len _ f0)) ?_
   refine ST (C:=K) a0 (aI.id (L:=ah)) aL (mo f0) rf rf rf rf rf fun Ey f27=>?_
   refine SL 7 rf ?_
   have h:=sj h; subst h
   exact kE [] rf rf (ra rf (aN.len _ f27) (rt rf (rt rf rn))) ⟨_,rfl,(mo f27)⟩
  ·
   obtain ⟨eo,oU,h⟩:=bg h
   refine SC 7 rf ?_
   refine aj rfl (aQ rfl (aV.iff.1 ((aR.c0 aX).get f0)) (br _ _)) ?_
   refine CV (nq oU) rf rf ?_
   refine SL 4 rf ?_
   refine W1 rf (cU (L:=az) (z:=gC) ⟨by kernel_rfl⟩) fun b9=>?_
   refine W0 (di (M:=az) (aI.id (L:=az)) eo.1 eo.1 rfl rfl rfl rfl rfl) ?_
   refine SL 11 rf ?_
   refine ei h rf (fun hc h=>?_) fun hc h=>?_
   ·
    refine SC 2 rf ?_
    refine aj rfl (ae rfl (aN.len _ f0)) ?_
    refine ST (C:=K) a0 (aI.id (L:=ah)) aL (mo f0) rf rf rf rf rf fun xT f31=>?_
    refine SL 6 rf ?_
    have h:=sj h; subst h
    exact kE [] rf rf (ra rf (aN.len _ f31) (rt rf (rt rf rn))) ⟨_,rfl,(mo f31)⟩
   ·
    obtain ⟨lO,sQ,h⟩:=cL h
    refine SC 4 rf ?_
    refine aj rfl (dy (M:=az) (aI.id (L:=az)) rfl rfl) ?_
    refine SL 2 rf ?_
    refine ST (C:=K) lO (aR.c0 aX) (mo f0) fl sQ rf rf rf rf fun AI f35=>?_
    obtain ⟨gE,j5,h⟩:=bg h
    refine SL 5 rf ?_
    refine CV (cN j5) rf rf ?_
    obtain ⟨gA,mM,h⟩:=cL h
    obtain ⟨mh,h⟩:=cm h
    obtain ⟨dP,uu,h⟩:=cL h
    refine SL 12 rf ?_
    obtain ⟨I3,Lg,f39⟩ : ∃cc,(((LI .u32).enc a1)++(((LI .i64).enc a2)++(fK++((LA (LI .u32) 8).enc (fun _=>0))))) = cc∧(aF).rep (Hs []) cc gA:=⟨_,rfl,by rw [mM]; exact ⟨_,_,rfl,fl,⟨_,_,rfl,fl,⟨_,_,rfl,g7,fl⟩⟩⟩⟩
    refine aj rfl (gX (cs:=I3) rfl (by rw [← Lg]; rfl)) ?_
    refine aj rfl (aM rfl) ?_
    refine aj rfl (bU (m:=(Int.toNat gE.1)) rfl rfl (ay mh).1 (ay mh).2) ?_
    refine ST (C:=K) dP (cV.comp (aI.idx (L:=aF) (m:=32) (k:=12) ((Int.toNat gE.1)) (ay mh).2 rfl)) (mo f35) (mo f39) uu rf rf rf rf fun rC f43=>?_
    refine SL 4 rf ?_
    refine aj rfl (ae rfl (aN.len _ f43)) ?_
    refine aj rfl (au rfl) ?_
    refine ST (C:=K) dP (aI.id (L:=ah)) aL (mo f43) rf rf rf rf rf fun PU f45=>?_
    refine SL 5 rf ?_
    have h:=sj h; subst h
    exact kE [] rf rf (ra rf (aN.len _ f45) (rt rf (rt rf rn))) ⟨_,rfl,(mo f45)⟩
def dz (n:Nat) (a0:aq) (a1:Int) (a2:Int):Option (aq × Int):=
 bd (aS n a0.book.iZ a1) fun bf =>
 cl (((!bf) == false) && ((a2 != 0) == true)) (aS n a0.book.iZ a2) default fun ck =>
 cn (((!bf) || ((a2 != 0) && (!ck)))) (
 some (a0,4)) (
 dF (fun Be (cw:Int) =>
 cn ((cw != 0)) (
 cn ((cw == a1)) (
 some (a0,12)) (
 bd (eA n a0 cw) fun fI =>
 Be fI)) (
 bd (bF n a1) fun fL =>
 gu (dH fL.1 32) <|
 lt ({ a0 with regions:=(er a0.regions (Int.toNat fL.1) ({ (a0.regions (Int.toNat fL.1)) with Up:=a2 })) }:aq) fun gA =>
 some (gA,0))) n a2)
theorem jK {n a0 a1 a2 r K} [bu K] {cq} (f0:(ah).rep K cq a0) (h:dz n a0 a1 a2 = some r):pG Try.prog 36 [A cq, .int .u32 a1, .int .u32 a2] K (fun J v=>∃u0,v = (.tuple #[A u0, .int .i64 r.2])∧(ah).rep (fun w=>K w∧J w) u0 (r.1)):=by
 unfold dz at h
 refine fo Try.func36 (by kernel_rfl) rfl Try.ntmps36 rfl fun cx _ hro cZ hpre=>?_
 refine SC 2 rf ?_
 refine W1 rf (bA rfl) fun b3=>?_
 refine W1 rf (bh (hz:=(⟨by kernel_rfl⟩ : bQ Try.prog 77 aE))) fun b6=>?_
 obtain ⟨bf,bZ,h⟩:=bg h
 obtain ⟨ck,ic,_,h⟩:=fV h
 refine SL 8 rf ?_
 refine aj rfl (aQ rfl (aV.iff.1 ((aR.c0 aX).get f0)) (br _ _)) ?_
 refine aj rfl (au rfl) ?_
 refine CV (bn bZ) rf rf ?_
 refine SL 2 rf ?_
 refine GB rf rf rf (fun hb=>au rfl) ?_
 refine GB rf rf rf (fun hb=>mU (bD rfl hb) rfl) ?_
 refine GB rf rf rf (fun hb=>au (bD rfl hb)) ?_
 refine lZ (mw rfl rfl) rfl (fun hb=>aM rfl) ?_
 refine lZ (mw rfl rfl) rfl (fun hb=>aM (bD rfl hb)) ?_
 refine lZ (mw rfl rfl) rfl (fun hb=>aQ (bD rfl hb) (aV.iff.1 ((aR.c0 aX).get f0)) (br _ _)) ?_
 refine lZ (mw rfl rfl) rfl (fun hb=>au rfl) ?_
 refine lZ (mw rfl rfl) rfl (fun hb=>bS (bn (ic hb)) (aA (bD rfl hb) (aA (bD rfl hb) rfl)) (fun _ _ _=>trivial)) ?_
 refine lZ (mw rfl rfl) rfl (fun hb=>ij (bD rfl hb)) ?_
 refine GB rf rf rf (fun hb=>cM (bD rfl hb) (BA rfl hb)) ?_
 refine aj rfl (eu rfl rfl) ?_
 refine SL 2 rf ?_
 refine ei h rf (fun hc h=>?_) fun hc h=>?_
 ·
  refine SC 2 rf ?_
  refine aj rfl (ae rfl (aN.len _ f0)) ?_
  refine ST (C:=K) a0 (aI.id (L:=ah)) aL (mo f0) rf rf rf rf rf fun zX f24=>?_
  refine SL 5 rf ?_
  have h:=sj h; subst h
  exact kE [] rf rf (ra rf (aN.len _ f24) (rt rf rn)) ⟨_,rfl,(mo f24)⟩
 ·
  refine SC 10 rf ?_
  obtain ⟨JL,G4,h⟩:=kJ h
  refine LO (β:=Int) [1,2,3,6] [0,1] (fun (F6,cw)=>[(8, .int .u32 cw)]) (fun (F6,cw)=>[.cells b6 77 aE, .cells b3 77 cq]) (fun (F6,cw)=>dF JL F6 cw = some r) (n,a2) h rf rf rf ?_
  rintro F6 cw h
  replace h:=kI G4 h; obtain ⟨F6,rfl,h⟩:=h
  refine SC 7 rf ?_
  refine ei h rf (fun hc h=>?_) fun hc h=>?_
  ·
   refine SC 11 rf ?_
   refine ei h rf (fun hc h=>?_) fun hc h=>?_
   ·
    refine SC 2 rf ?_
    refine aj rfl (ae rfl (aN.len _ f0)) ?_
    refine ST (C:=K) a0 (aI.id (L:=ah)) aL (mo f0) rf rf rf rf rf fun OU f32=>?_
    refine SL 9 rf ?_
    have h:=sj h; subst h
    exact kE [] rf rf (ra rf (aN.len _ f32) (rt rf rn)) ⟨_,rfl,(mo f32)⟩
   ·
    obtain ⟨fI,sP,h⟩:=bg h
    refine SC 4 rf ?_
    refine aj rfl (ae rfl (aN.len _ f0)) ?_
    refine aj rfl (au rfl) ?_
    refine CV (lE (K:=K) (mo f0) sP) rf rf ?_
    refine SL 2 rf ?_
    exact LN [0,1] fI h rf rf rf
  ·
   obtain ⟨fL,qp,h⟩:=bg h
   refine SC 8 rf ?_
   refine CV (cN qp) rf rf ?_
   obtain ⟨lB,h⟩:=cm h
   obtain ⟨gA,mM,h⟩:=cL h
   refine SL 12 rf ?_
   refine aj rfl (bU (m:=(Int.toNat fL.1)) rfl rfl (ay lB).1 (ay lB).2) ?_
   refine aj rfl (fc rfl) ?_
   refine ST (C:=K) gA ((cV.comp (aI.idx (L:=aF) (m:=32) (k:=12) ((Int.toNat fL.1)) (ay lB).2 rfl)).comp bX) (mo f0) fl mM rf rf rf rf fun I3 f39=>?_
   refine SL 4 rf ?_
   refine aj rfl (ae rfl (aN.len _ f39)) ?_
   refine ST (C:=K) gA (aI.id (L:=ah)) aL (mo f39) rf rf rf rf rf fun PV f41=>?_
   refine SL 4 rf ?_
   have h:=sj h; subst h
   exact kE [] rf rf (ra rf (aN.len _ f41) (rt rf rn)) ⟨_,rfl,(mo f41)⟩
def dI (n:Nat) (a0:aq) (a1:Int) (a2:bt):Option (aq × Int):=
 bd (aS n a0.book.iZ a1) fun bf =>
 cn ((!bf)) (
 some (a0,4)) (
 bd (gN n a2.bP) fun js =>
 cl ((!js) == false) (eD n a2.E) default fun ef =>
 cn (((!js) || (!ef))) (
 some (a0,2)) (
 bd (bF n a1) fun eX =>
 gu (dH eX.1 32) <|
 lt ({ a2 with Up:=(a0.regions (Int.toNat eX.1)).Up }:bt) fun fI =>
 gu (dH eX.1 32) <|
 lt ({ a0 with regions:=(er a0.regions (Int.toNat eX.1) fI) }:aq) fun fh =>
 some (fh,0)))
theorem kL {n a0 a1 a2 r K} [bu K] {cq} (f0:(ah).rep K cq a0) {tO:List Value} (f2:(aF).rep K tO a2) (h:dI n a0 a1 a2 = some r):pG Try.prog 34 [A cq, .int .u32 a1,A tO] K (fun J v=>∃u0,v = (.tuple #[A u0, .int .i64 r.2])∧(ah).rep (fun w=>K w∧J w) u0 (r.1)):=by
 unfold dI at h
 refine fo Try.func34 (by kernel_rfl) rfl Try.ntmps34 rfl fun cx _ hro cZ hpre=>?_
 refine SC 2 rf ?_
 refine W1 rf (bA rfl) fun b3=>?_
 refine W1 rf (bA rfl) fun b5=>?_
 refine W1 rf (bh (hz:=(⟨by kernel_rfl⟩ : bQ Try.prog 77 aE))) fun b6=>?_
 obtain ⟨bf,bZ,h⟩:=bg h
 refine SL 9 rf ?_
 refine aj rfl (aQ rfl (aV.iff.1 ((aR.c0 aX).get f0)) (br _ _)) ?_
 refine aj rfl (au rfl) ?_
 refine CV (bn bZ) rf rf ?_
 refine SL 4 rf ?_
 refine ei h rf (fun hc h=>?_) fun hc h=>?_
 ·
  refine SC 2 rf ?_
  refine aj rfl (ae rfl (aN.len _ f0)) ?_
  refine ST (C:=K) a0 (aI.id (L:=ah)) aL (mo f0) rf rf rf rf rf fun Ez f23=>?_
  refine SL 6 rf ?_
  have h:=sj h; subst h
  exact kE [] rf rf (ra rf (aN.len _ f23) (rt rf rn)) ⟨_,rfl,(mo f23)⟩
 ·
  obtain ⟨js,nJ,h⟩:=bg h
  obtain ⟨ef,qq,_,h⟩:=fV h
  refine SC 3 rf ?_
  refine aj rfl (bq rfl (jD.int f2)) ?_
  refine CV (nw nJ) rf rf ?_
  refine SL 2 rf ?_
  refine GB rf rf rf (fun hb=>aM rfl) ?_
  obtain ⟨Ey,Lj,f27⟩:=oL (lK.get f2)
  refine GB rf rf rf (fun hb=>aQ (bD rfl hb) Lj (aN.len _ f27)) ?_
  refine GB rf rf rf (fun hb=>bS (nr (K:=K) (mo f27) (qq hb)) (aA (bD rfl hb) rfl) kn) ?_
  refine GB rf rf rf (fun hb=>ij (bD rfl hb)) ?_
  refine aj rfl (eu rfl rfl) ?_
  refine SL 3 rf ?_
  refine ei h rf (fun hc h=>?_) fun hc h=>?_
  ·
   refine SC 2 rf ?_
   refine aj rfl (ae rfl (aN.len _ f0)) ?_
   refine ST (C:=K) a0 (aI.id (L:=ah)) aL (mo f0) rf rf rf rf rf fun MO f30=>?_
   refine SL 6 rf ?_
   have h:=sj h; subst h
   exact kE [] rf rf (ra rf (aN.len _ f30) (rt rf rn)) ⟨_,rfl,(mo f30)⟩
  ·
   obtain ⟨eX,oT,h⟩:=bg h
   refine SC 6 rf ?_
   refine CV (cN oT) rf rf ?_
   obtain ⟨DW,h⟩:=cm h
   obtain ⟨fI,sP,h⟩:=cL h
   refine SL 11 rf ?_
   refine aj rfl (bU (m:=(Int.toNat eX.1)) rfl rfl (ay DW).1 (ay DW).2) ?_
   refine aj rfl (fc rfl) ?_
   refine aj rfl (bq rfl (((cV.comp (aI.idx (L:=aF) (m:=32) (k:=12) ((Int.toNat eX.1)) (ay DW).2 rfl)).comp bX).int f0)) ?_
   refine aj rfl (aM rfl) ?_
   refine ST (C:=K) fI bX (mo f2) fl sP rf rf rf rf fun OT f36=>?_
   obtain ⟨oW,h⟩:=cm h
   obtain ⟨fh,uw,h⟩:=cL h
   refine SL 5 rf ?_
   refine aj rfl (ae rfl (aN.len _ f36)) ?_
   refine aj rfl (aM rfl) ?_
   refine aj rfl (bU (m:=(Int.toNat eX.1)) rfl rfl (ay oW).1 (ay oW).2) ?_
   refine ST (C:=K) fh (cV.comp (aI.idx (L:=aF) (m:=32) (k:=12) ((Int.toNat eX.1)) (ay oW).2 rfl)) (mo f0) (mo f36) uw rf rf rf rf fun CG f40=>?_
   refine SL 4 rf ?_
   refine aj rfl (ae rfl (aN.len _ f40)) ?_
   refine ST (C:=K) fh (aI.id (L:=ah)) aL (mo f40) rf rf rf rf rf fun OS f42=>?_
   refine SL 4 rf ?_
   have h:=sj h; subst h
   exact kE [] rf rf (ra rf (aN.len _ f42) (rt rf rn)) ⟨_,rfl,(mo f42)⟩
structure E5 where
 Do:Int
 A:Int
 B:Int
 R:bI
def fj (n:Nat) (a0:ag):Option (List Int):=
 dD (fun xA (cw:(List Int)) (bJ:Int) =>
 cn (decide (bJ < 32)) (
 gu (dH bJ 32) <|
 cn (((a0.B.Is (Int.toNat bJ)) == 1)) (
 bd (eP n a0.B bJ) fun fL =>
 gu (kV cw.length 1 8) <|
 lt (cw++([fL]):List Int) fun gA =>
 xA gA (wr .i64 (bJ + 1))) (
 xA cw (wr .i64 (bJ + 1)))) (
 some cw)) n ([]) 0
theorem kM {n a0 r K} [bu K] {cq} (f0:(ak).rep K cq a0) (h:fj n a0 = some r):Bw.Fn (α:=Value) Try.prog 114 [A cq] K [] (fun v=>jI v r.length) (fun v=>v) (fun v=>[Row v 3 1 (LI .i64) r]):=by
 unfold fj at h
 refine fo Try.func114 (by kernel_rfl) rfl Try.ntmps114 rfl fun cx _ hro cZ hpre=>?_
 refine SC 2 rf ?_
 refine W1 rf (bA rfl) fun b1=>?_
 refine SL 15 rf ?_
 refine oD 3 1 (LI .i64) ?_
 obtain ⟨vw,qv,h⟩:=lq h
 refine LO (β:=(List Int) × Int × Value) [1] [0,1] (fun (m32,cw,bJ,sE)=>[(3,sE),(4, .int .i64 bJ)]) (fun (m32,cw,bJ,sE)=>[Row sE 3 1 (LI .i64) cw, .cells b1 105 cq]) (fun (m32,cw,bJ,sE)=>jI sE cw.length∧dD vw m32 cw bJ = some r) (n,[],0, .slice none 0 0) ⟨⟨_,_,rfl⟩,h⟩ rf rf rf ?_
 rintro m32 ⟨cw,bJ,sE⟩ ⟨nj,h⟩
 replace h:=lp qv h; obtain ⟨m32,rfl,h⟩:=h
 refine SC 7 rf ?_
 refine ei h rf (fun hc h=>?_) fun hc h=>?_
 ·
  obtain ⟨nk,h⟩:=cm h
  refine SC 9 rf ?_
  refine aj rfl (bU (m:=(Int.toNat bJ)) rfl rfl (ay nk).1 (ay nk).2) ?_
  refine aj rfl (bq rfl (((bL.c0 eJ).comp (aI.idx (L:=(LI .i64)) (m:=32) (k:=1) ((Int.toNat bJ)) (ay nk).2 rfl)).int f0)) ?_
  refine SL 3 rf ?_
  refine ei h rf (fun hc h=>?_) fun hc h=>?_
  ·
   obtain ⟨fL,qp,h⟩:=bg h
   obtain ⟨lB,h⟩:=cm h
   obtain ⟨gA,mM,h⟩:=cL h
   refine SC 3 rf ?_
   refine aj rfl (aQ rfl (aV.iff.1 (bL.get f0)) (br _ _)) ?_
   refine aj rfl (au rfl) ?_
   refine CV (iz qp) rf rf ?_
   refine ez rfl (l5 (LI .i64) fL rfl rfl rfl rfl (by decide) (by decide)) (fun MT _=>?_)
   refine ez rfl (kO (sz:=1) (L:=(LI .i64)) (xs:=cw) (y:=fL) (bytes:=8) rfl rfl rfl (fX lB).1 (fX lB).2) (fun Mf Bt=>?_)
   rw [← mM] at Bt; rw [← mM]
   refine SL 9 rf ?_
   exact LN [1,2] (gA,wr .i64 (bJ + 1),Mf) ⟨Bt,h⟩ rf rf rf
  ·
   refine SC 8 rf ?_
   exact LN [0,1] (cw,wr .i64 (bJ + 1),sE) ⟨nj,h⟩ rf rf rf
 ·
  refine SC 12 rf ?_
  have h:=sj h; subst h
  exact dG sE rfl (.tmp rfl .nil) nj rfl (ks:=[0]) rfl (by decide)
def dK (n:Nat) (a0:ag) (a1:Int):Option (bI × Int):=
 bd (bC n a0.B a1) fun bf =>
 cn (decide (bf < 0)) (
 lt ({ Up:=0,bP:=0,E:=cE,Cells:=(fun _=>0) }:bI) fun ck =>
 some (ck,4)) (
 gu (dH bf 32) <|
 lt ((a0.R (Int.toNat bf)):bI) fun gF =>
 some (gF,0))
theorem gJ {n a0 a1 r K} [bu K] {cq} (f0:(ak).rep K cq a0) (h:dK n a0 a1 = some r):pG Try.prog 115 [A cq, .int .i64 a1] K (fun J v=>∃u0,v = (.tuple #[A u0, .int .i64 r.2])∧(aH).rep (fun w=>K w∧J w) u0 (r.1)):=by
 unfold dK at h
 refine fo Try.func115 (by kernel_rfl) rfl Try.ntmps115 rfl fun cx _ hro cZ hpre=>?_
 refine SC 2 rf ?_
 refine W1 rf (bA rfl) fun b2=>?_
 refine W1 rf (bh (hz:=(⟨by kernel_rfl⟩ : bQ Try.prog 83 eH))) fun b4=>?_
 obtain ⟨bf,bZ,h⟩:=bg h
 refine SL 6 rf ?_
 refine aj rfl (aQ rfl (aV.iff.1 (bL.get f0)) (br _ _)) ?_
 refine aj rfl (au rfl) ?_
 refine CV (cI bZ) rf rf ?_
 refine SL 10 rf ?_
 refine ei h rf (fun hc h=>?_) fun hc h=>?_
 ·
  obtain ⟨ck,ic,h⟩:=cL h
  refine SC 2 rf ?_
  obtain ⟨zX,Eb,f24⟩ : ∃cc,(((LI .i64).enc 0)++(((LI .i64).enc 0)++(gq++((LA (LI .i64) 8).enc (fun _=>0))))) = cc∧(aH).rep (Hs []) cc ck:=⟨_,rfl,by rw [ic]; exact ⟨_,_,rfl,fl,⟨_,_,rfl,fl,⟨_,_,rfl,iw,fl⟩⟩⟩⟩
  refine aj rfl (gX (cs:=zX) rfl (by rw [← Eb]; rfl)) ?_
  refine ST (C:=(Hs [])) ck (aI.id (L:=aH)) eG (mo f24) rf rf rf rf rf fun AJ f26=>?_
  refine SL 5 rf ?_
  have h:=sj h; subst h
  exact kE [] rf rf (ra rf (aN.len _ f26) (rt rf rn)) ⟨_,rfl,(mo f26)⟩
 ·
  obtain ⟨qz,h⟩:=cm h
  obtain ⟨gF,zj,h⟩:=cL h
  refine SC 6 rf ?_
  refine aj rfl (bU (m:=(Int.toNat bf)) rfl rfl (ay qz).1 (ay qz).2) ?_
  obtain ⟨MO,Li,f30⟩:=oL ((cA.comp (aI.idx (L:=aH) (m:=32) (k:=12) ((Int.toNat bf)) (ay qz).2 rfl)).get f0)
  refine aj rfl (aQ rfl Li (aN.len _ f30)) ?_
  refine ST (C:=K) gF (aI.id (L:=aH)) eG (mo f30) zj rf rf rf rf fun MN f33=>?_
  refine SL 4 rf ?_
  have h:=sj h; subst h
  exact kE [] rf rf (ra rf (aN.len _ f33) (rt rf rn)) ⟨_,rfl,(mo f33)⟩
def fM (n:Nat) (a0:lR):Option (List Int):=
 bd (eY n a0.iZ) fun bf =>
 some bf
theorem lD {n a0 r}  (h:fM n a0 = some r):Bw.Fn (α:=Value) Try.prog 38 [.agg (hY.enc a0).toArray] (fun _=>True) [] (fun v=>jI v r.length) (fun v=>v) (fun v=>[Row v 69 1 (LI .u32) r]):=by
 unfold fM at h
 refine fG Try.func38 (by kernel_rfl) rfl Try.ntmps38 rfl (fun cx cZ hpre hro=>?_)
 refine SC 2 rf ?_
 refine W1 rf (eF hY a0 rfl rfl) fun b1=>?_
 obtain ⟨bf,bZ,h⟩:=bg h
 refine SL 6 rf ?_
 refine aj rfl (dy (M:=az) aX rfl rfl) ?_
 refine ez rfl (dV (mP bZ) rfl (fun _ _ _=>trivial)) (fun q8 jP=>?_)
 dsimp only [List.cons_append,List.nil_append]
 refine SL 4 rf ?_
 have h:=sj h; subst h
 exact dG q8 rfl (.tmp rfl .nil) jP rfl (ks:=[0]) rfl (by decide)
def j3 (n:Nat) (a0:aq) (a1:ag):Option Bool:=
 bd (fM n a0.book) fun bf =>
 bd (fj n a1) fun js =>
 cn (((bf.length:Int) != (js.length:Int))) (
 some false) (
 dF (fun xA (bJ:Int) =>
 cn (decide (bJ < (bf.length:Int))) (
 gu (dH bJ bf.length) <|
 gu (dH bJ js.length) <|
 gu (!(((wr .i64 (bf.getD (Int.toNat bJ) default)) != (js.getD (Int.toNat bJ) default)) == false) || dH bJ bf.length) <|
 cl (((wr .i64 (bf.getD (Int.toNat bJ) default)) != (js.getD (Int.toNat bJ) default)) == false) (aS n a0.book.iZ (bf.getD (Int.toNat bJ) default)) default fun gA =>
 cn ((((wr .i64 (bf.getD (Int.toNat bJ) default)) != (js.getD (Int.toNat bJ) default)) || (!gA))) (
 some false) (
 gu (dH bJ bf.length) <|
 bd (cP n a0 (bf.getD (Int.toNat bJ) default)) fun m8 =>
 gu (dH bJ js.length) <|
 bd (dK n a1 (js.getD (Int.toNat bJ) default)) fun qW =>
 cl ((((m8.2 != 0) || ((wr .i64 m8.1.Up) != qW.1.Up)) || (m8.1.bP != qW.1.bP)) == false) (j4 n m8.1.E qW.1.E) default fun yt =>
 cn (((((m8.2 != 0) || ((wr .i64 m8.1.Up) != qW.1.Up)) || (m8.1.bP != qW.1.bP)) || (!yt))) (
 some false) (
 dF (fun N2 (kY:Int) =>
 cn (decide (kY < 8)) (
 gu (dH kY 8) <|
 gu (dH kY 8) <|
 cn (((wr .i64 (m8.1.Cells (Int.toNat kY))) != (qW.1.Cells (Int.toNat kY)))) (
 some false) (
 N2 (wr .i64 (kY + 1)))) (
 xA (wr .i64 (bJ + 1)))) n 0))) (
 some true)) n 0)
theorem td {n a0 a1 r K} [bu K] {cq} (f0:(ah).rep K cq a0) {kX:List Value} (f1:(ak).rep K kX a1) (h:j3 n a0 a1 = some r):qU Try.prog 43 [A cq,A kX] K (.bool r):=by
 unfold j3 at h
 refine fo Try.func43 (by kernel_rfl) rfl Try.ntmps43 rfl fun cx _ hro cZ hpre=>?_
 refine SC 2 rf ?_
 refine W1 rf (bA rfl) fun b2=>?_
 refine W1 rf (bA rfl) fun b3=>?_
 refine SL 4 rf ?_
 obtain ⟨bf,bZ,h⟩:=bg h
 obtain ⟨js,nJ,h⟩:=bg h
 refine cJ mixed (.gB [] [(0,[2]),(1,[13]),(3,[3])] (.alt 2 [14] (.gB [(3,[3])] [] (.alt 4 [16] (.gB [] [] (.alt 5 [15] (.gB [] [] (.alt 6 [17] (.fin [] []) .no)) .no)) .no)) .no)) (by kernel_rfl) ?_
 refine T0 ?_
 refine NS 1 rf ?_
 refine NV rf rf (aQ rfl (aV.iff.1 (aR.get f0)) (br _ _)) ?_
 refine NV rf rf (ae rfl (aN.len _ f1)) ?_
 refine aW ?_
 refine X1 rf rf (dV (lD bZ) rfl (fun _ _ _=>trivial)) fun q8 jP=>?_
 dsimp only [List.cons_append,List.nil_append]
 refine dQ ?_ ?_
 ·
  refine RO rf rf (ae rfl (aN.len _ f1)) rf ?_
  exact ku
 refine aW ?_
 refine X1 rf rf (dV (kM (K:=K) (mo f1) nJ) rfl kn) fun sF lW=>?_
 dsimp only [List.cons_append,List.nil_append]
 refine B4 ?_
 refine XV rf rf (bB rfl) ?_
 refine B4 ?_
 refine XV rf rf (bB rfl) ?_
 refine pb ?_
 refine SX 5 rf ?_
 refine aj rfl (cS (Fz.row (e:=69) (sz:=1) (L:=(LI .u32)) (xs:=bf) rfl jP) rfl) ?_
 refine aj rfl (au rfl) ?_
 refine aj rfl (cS (Fz.row (e:=3) (sz:=1) (L:=(LI .i64)) (xs:=js) rfl lW) rfl) ?_
 refine SL 3 rf ?_
 refine ei h rf (fun hc h=>?_) fun hc h=>?_
 ·
  refine SC 7 rf ?_
  have h:=sj h; subst h
  exact RV rf (rt rf rn) rf
 ·
  refine SC 9 rf ?_
  obtain ⟨vw,qv,h⟩:=kJ h
  refine LO (β:=Int) [2,3,5,6] [0,1,2,3] (fun (m32,bJ)=>[(7, .int .i64 bJ)]) (fun (m32,bJ)=>[Row sF 3 1 (LI .i64) js,Row q8 69 1 (LI .u32) bf, .cells b3 105 kX, .cells b2 77 cq]) (fun (m32,bJ)=>dF vw m32 bJ = some r) (n,0) h rf rf rf ?_
  rintro m32 bJ h
  replace h:=kI qv h; obtain ⟨m32,rfl,h⟩:=h
  refine SC 5 rf ?_
  refine aj rfl (cS (Fz.row (e:=69) (sz:=1) (L:=(LI .u32)) (xs:=bf) rfl jP) rfl) ?_
  refine SL 3 rf ?_
  refine ei h rf (fun hc h=>?_) fun hc h=>?_
  ·
   refine SC 6 rf ?_
   obtain ⟨nk,h⟩:=cm h
   obtain ⟨kS,h⟩:=cm h
   obtain ⟨lB,h⟩:=cm h
   obtain ⟨gA,mM,_,h⟩:=fV h
   refine cJ mixed (.fin [] [(0,[5]),(1,[7]),(2,[29,30]),(3,[31]),(4,[32]),(5,[6]),(6,[7]),(7,[34,35]),(8,[36]),(9,[33,37]),(10,[38]),(11,[2,39]),(12,[39,40]),(13,[39,41]),(14,[5,39]),(15,[7,39]),(16,[39,43,44]),(17,[39,45]),(18,[39,42,46]),(19,[39,47]),(20,[39,48])]) (by kernel_rfl) ?_
   refine F0 ?_
   refine NS 2 rf ?_
   refine NV rf rf (dg (m:=(Int.toNat bJ)) (Fz.row (e:=69) (sz:=1) (L:=(LI .u32)) (xs:=bf) rfl jP) rfl rfl rfl (ay nk).1 (ay nk).2) ?_
   refine NV rf rf (dc (Fz.row (e:=69) (sz:=1) (L:=(LI .u32)) (xs:=bf) rfl jP) (aI.idx (L:=(LI .u32)) (m:=(bf.length)) (k:=1) ((Int.toNat bJ)) (ay nk).2 rfl) rfl) ?_
   refine NS 3 rf ?_
   refine NV rf rf (dg (m:=(Int.toNat bJ)) (Fz.row (e:=3) (sz:=1) (L:=(LI .i64)) (xs:=js) rfl lW) rfl rfl rfl (ay kS).1 (ay kS).2) ?_
   refine NV rf rf (dc (Fz.row (e:=3) (sz:=1) (L:=(LI .i64)) (xs:=js) rfl lW) (aI.idx (L:=(LI .i64)) (m:=(js.length)) (k:=1) ((Int.toNat bJ)) (ay kS).2 rfl) rfl) ?_
   refine NS 2 rf ?_
   refine NG rf rf (cF rfl rfl) (fun hb=>aM rfl) ?_
   refine NG rf rf (cF rfl rfl) (fun hb=>aM (bD rfl hb)) ?_
   refine NG rf rf (cF rfl rfl) (fun hb=>aQ (bD rfl hb) (aV.iff.1 ((aR.c0 aX).get f0)) (br _ _)) ?_
   refine NG rf rf (cF rfl rfl) (fun hb=>au rfl) ?_
   refine NG rf rf (cF rfl rfl) (fun hb=>au rfl) ?_
   refine NG rf rf (cF rfl rfl) (fun hb=>dg (m:=(Int.toNat bJ)) (Fz.row (e:=69) (sz:=1) (L:=(LI .u32)) (xs:=bf) rfl jP) rfl (bD rfl hb) (bD rfl hb) (ay (gQ lB hb)).1 (ay (gQ lB hb)).2) ?_
   refine NG rf rf (cF rfl rfl) (fun hb=>dc (Fz.row (e:=69) (sz:=1) (L:=(LI .u32)) (xs:=bf) rfl jP) (aI.idx (L:=(LI .u32)) (m:=(bf.length)) (k:=1) ((Int.toNat bJ)) (ay (gQ lB hb)).2 rfl) (bD rfl hb)) ?_
   refine NG rf rf (cF rfl rfl) (fun hb=>bS (bn (mM hb)) (aA (bD rfl hb) (aA (bD rfl hb) rfl)) (fun _ _ _=>trivial)) ?_
   refine NG rf rf (cF rfl rfl) (fun hb=>ij (bD rfl hb)) ?_
   refine NV rf rf (eu rfl rfl) ?_
   refine aW ?_
   refine iA ?_
   refine ei h rf (fun hc h=>?_) fun hc h=>?_
   ·
    refine SC 12 rf ?_
    have h:=sj h; subst h
    exact RV rf (rt rf rn) rf
   ·
    refine SC 2 rf ?_
    obtain ⟨ry,h⟩:=cm h
    obtain ⟨m8,uv,h⟩:=bg h
    refine CU (α:=(List Value) × (List Nat) × (World→Prop) × Nat × (List Value)) [2,3,5,6,7] rf (fun (wO,gy,mc,b8,ym)=>[(8,Ptr b8 0),(9, .int .i64 m8.2)]) (fun (wO,gy,mc,b8,ym)=>[.cells b8 74 ym, .ext gy mc,Row sF 3 1 (LI .i64) js,Row q8 69 1 (LI .u32) bf, .cells b3 105 kX, .cells b2 77 cq]) (fun (wO,gy,mc,b8,ym)=>(aF).rep (fun w=>K w∧Hs [.ext gy mc] w) wO m8.1∧(aF).rep (fun w=>K w∧Hs [.ext gy mc] w) ym m8.1) ?_ ?_
    ·
     refine cJ mixed (.gB [] [(0,[2]),(1,[5]),(2,[7]),(3,[52,53]),(4,[54])] (.alt 5 [51,55] (.gB [] [(6,[56]),(7,[50]),(8,[50])] (.alt 9 [] (.gB [(6,[56]),(7,[50]),(8,[50])] [] (.alt 10 [8,57] (.gB [(8,[50])] [] (.alt 11 [58] (.fin [] []) .no)) .no)) .no)) (.alt 9 [] (.gB [(0,[2]),(1,[5]),(2,[7]),(3,[52,53]),(4,[54])] [] (.alt 5 [51,55] (.gB [] [(6,[56]),(7,[50]),(8,[50])] (.alt 10 [8,57] (.gB [(8,[50])] [] (.alt 11 [58] (.fin [] []) .no)) .no)) .no)) .no))) (by kernel_rfl) ?_
     refine T0 ?_
     refine NV rf rf (ae rfl (aN.len _ f0)) ?_
     refine NS 2 rf ?_
     refine NV rf rf (dg (m:=(Int.toNat bJ)) (Fz.row (e:=69) (sz:=1) (L:=(LI .u32)) (xs:=bf) rfl jP) rfl rfl rfl (ay ry).1 (ay ry).2) ?_
     refine NV rf rf (dc (Fz.row (e:=69) (sz:=1) (L:=(LI .u32)) (xs:=bf) rfl jP) (aI.idx (L:=(LI .u32)) (m:=(bf.length)) (k:=1) ((Int.toNat bJ)) (ay ry).2 rfl) rfl) ?_
     refine aW ?_
     refine X2 rf rf (gY (eE (K:=K) (mo f0) uv) rfl) (fun ⟨Md,gy,mc⟩ DJ=>?_) ?_
     ·
      obtain ⟨wO,rfl,f44⟩:=DJ
      replace f44:(aF).rep (fun w=>K w∧Hs [.ext gy mc] w) wO m8.1:=f44
      refine T0 ?_
      refine NE 3 rf ?_
      refine X1 rf rf (bh (hz:=(⟨by kernel_rfl⟩ : bQ Try.prog 74 dk))) fun b8 _=>?_
      refine dQ ?_ ?_
      ·
       exact RE 3 rf rf
      refine aW ?_
      obtain ⟨ym,Ea,f47⟩:=wu (C:=(fun w=>K w∧Hs [.ext gy mc] w)) (x':=m8.1) (aI.id (L:=aF)) dj (mo f44) rf
      refine X0 rf (wW Ea rf rf rf rf) ?_
      refine dQ ?_ ?_
      ·
       exact RE 1 rf rf
      refine aW ?_
      refine XV rf rf (bB rfl) ?_
      refine pb ?_
      exact CE [0,1,2,3,4,5] (wO,gy,mc,b8,ym) ⟨f44,f47⟩ rf rf rf
     refine X2 rf rf (bh (hz:=(⟨by kernel_rfl⟩ : bQ Try.prog 74 dk))) (fun b8 _=>?_) ?_
     ·
      refine dQ ?_ ?_
      ·
       refine RO rf rf (ae rfl (aN.len _ f0)) rf ?_
       refine Iw 2 rf rf ?_
       refine RO rf rf (dg (m:=(Int.toNat bJ)) (Fz.row (e:=69) (sz:=1) (L:=(LI .u32)) (xs:=bf) rfl jP) rfl rfl rfl (ay ry).1 (ay ry).2) rf ?_
       refine RO rf rf (dc (Fz.row (e:=69) (sz:=1) (L:=(LI .u32)) (xs:=bf) rfl jP) (aI.idx (L:=(LI .u32)) (m:=(bf.length)) (k:=1) ((Int.toNat bJ)) (ay ry).2 rfl) rfl) rf ?_
       exact ku
      refine aW ?_
      refine X1 rf rf (gY (eE (K:=K) (mo f0) uv) rfl) fun ⟨Md,gy,mc⟩ DJ=>?_
      obtain ⟨wO,rfl,f44⟩:=DJ
      replace f44:(aF).rep (fun w=>K w∧Hs [.ext gy mc] w) wO m8.1:=f44
      refine T0 ?_
      refine NE 3 rf ?_
      obtain ⟨ym,Ea,f47⟩:=wu (C:=(fun w=>K w∧Hs [.ext gy mc] w)) (x':=m8.1) (aI.id (L:=aF)) dj (mo f44) rf
      refine X0 rf (wW Ea rf rf rf rf) ?_
      refine dQ ?_ ?_
      ·
       exact RE 1 rf rf
      refine aW ?_
      refine XV rf rf (bB rfl) ?_
      refine pb ?_
      exact CE [1,0,2,3,4,5] (wO,gy,mc,b8,ym) ⟨f44,f47⟩ rf rf rf
     exact tC
    ·
     rintro ⟨wO,gy,mc,b8,ym⟩ ⟨f44,f47⟩
     obtain ⟨ob,h⟩:=cm h
     obtain ⟨qW,Bm,h⟩:=bg h
     refine CU (α:=(List Value) × (List Nat) × (World→Prop) × Nat × (List Value)) [2,3,5,6,7,8,9] rf (fun (so,kC,qS,vZ,sg)=>[(10,Ptr vZ 0)]) (fun (so,kC,qS,vZ,sg)=>[.cells vZ 83 sg, .ext kC qS, .cells b8 74 ym, .ext gy mc,Row sF 3 1 (LI .i64) js,Row q8 69 1 (LI .u32) bf, .cells b3 105 kX, .cells b2 77 cq]) (fun (so,kC,qS,vZ,sg)=>(aH).rep (fun w=>K w∧Hs [.ext kC qS] w) so qW.1∧(aH).rep (fun w=>K w∧Hs [.ext kC qS] w) sg qW.1) ?_ ?_
     ·
      refine cJ mixed (.gB [] [(0,[3]),(1,[6]),(2,[7]),(3,[61,62]),(4,[63])] (.alt 5 [60,64] (.gB [] [(6,[65]),(7,[59]),(8,[59])] (.alt 9 [] (.gB [(6,[65]),(7,[59]),(8,[59])] [] (.alt 10 [10,66] (.gB [(8,[59])] [] (.alt 11 [67] (.fin [] []) .no)) .no)) .no)) (.alt 9 [] (.gB [(0,[3]),(1,[6]),(2,[7]),(3,[61,62]),(4,[63])] [] (.alt 5 [60,64] (.gB [] [(6,[65]),(7,[59]),(8,[59])] (.alt 10 [10,66] (.gB [(8,[59])] [] (.alt 11 [67] (.fin [] []) .no)) .no)) .no)) .no))) (by kernel_rfl) ?_
      refine T0 ?_
      refine NV rf rf (ae rfl (aN.len _ f1)) ?_
      refine NS 2 rf ?_
      refine NV rf rf (dg (m:=(Int.toNat bJ)) (Fz.row (e:=3) (sz:=1) (L:=(LI .i64)) (xs:=js) rfl lW) rfl rfl rfl (ay ob).1 (ay ob).2) ?_
      refine NV rf rf (dc (Fz.row (e:=3) (sz:=1) (L:=(LI .i64)) (xs:=js) rfl lW) (aI.idx (L:=(LI .i64)) (m:=(js.length)) (k:=1) ((Int.toNat bJ)) (ay ob).2 rfl) rfl) ?_
      refine aW ?_
      refine X2 rf rf (gY (gJ (K:=K) (mo f1) Bm) rfl) (fun ⟨Mc,kC,qS⟩ DI=>?_) ?_
      ·
       obtain ⟨so,rfl,f54⟩:=DI
       replace f54:(aH).rep (fun w=>K w∧Hs [.ext kC qS] w) so qW.1:=f54
       refine T0 ?_
       refine NE 3 rf ?_
       refine X1 rf rf (bh (hz:=(⟨by kernel_rfl⟩ : bQ Try.prog 83 eH))) fun vZ _=>?_
       refine dQ ?_ ?_
       ·
        exact RE 3 rf rf
       refine aW ?_
       obtain ⟨sg,zL,f57⟩:=wu (C:=(fun w=>K w∧Hs [.ext kC qS] w)) (x':=qW.1) (aI.id (L:=aH)) eG (mo f54) rf
       refine X0 rf (wW zL rf rf rf rf) ?_
       refine dQ ?_ ?_
       ·
        exact RE 1 rf rf
       refine aW ?_
       refine XV rf rf (bB rfl) ?_
       refine pb ?_
       exact CE [0,1,2,3,4,5,6,7] (so,kC,qS,vZ,sg) ⟨f54,f57⟩ rf rf rf
      refine X2 rf rf (bh (hz:=(⟨by kernel_rfl⟩ : bQ Try.prog 83 eH))) (fun vZ _=>?_) ?_
      ·
       refine dQ ?_ ?_
       ·
        refine RO rf rf (ae rfl (aN.len _ f1)) rf ?_
        refine Iw 2 rf rf ?_
        refine RO rf rf (dg (m:=(Int.toNat bJ)) (Fz.row (e:=3) (sz:=1) (L:=(LI .i64)) (xs:=js) rfl lW) rfl rfl rfl (ay ob).1 (ay ob).2) rf ?_
        refine RO rf rf (dc (Fz.row (e:=3) (sz:=1) (L:=(LI .i64)) (xs:=js) rfl lW) (aI.idx (L:=(LI .i64)) (m:=(js.length)) (k:=1) ((Int.toNat bJ)) (ay ob).2 rfl) rfl) rf ?_
        exact ku
       refine aW ?_
       refine X1 rf rf (gY (gJ (K:=K) (mo f1) Bm) rfl) fun ⟨Mc,kC,qS⟩ DI=>?_
       obtain ⟨so,rfl,f54⟩:=DI
       replace f54:(aH).rep (fun w=>K w∧Hs [.ext kC qS] w) so qW.1:=f54
       refine T0 ?_
       refine NE 3 rf ?_
       obtain ⟨sg,zL,f57⟩:=wu (C:=(fun w=>K w∧Hs [.ext kC qS] w)) (x':=qW.1) (aI.id (L:=aH)) eG (mo f54) rf
       refine X0 rf (wW zL rf rf rf rf) ?_
       refine dQ ?_ ?_
       ·
        exact RE 1 rf rf
       refine aW ?_
       refine XV rf rf (bB rfl) ?_
       refine pb ?_
       exact CE [1,0,2,3,4,5,6,7] (so,kC,qS,vZ,sg) ⟨f54,f57⟩ rf rf rf
      exact tC
     ·
      rintro ⟨so,kC,qS,vZ,sg⟩ ⟨f54,f57⟩
      obtain ⟨yt,zh,_,h⟩:=fV h
      refine SC 6 rf ?_
      refine GB rf rf rf (fun hb=>aM rfl) ?_
      refine GB rf rf rf (fun hb=>bq (bD rfl hb) (bX.int f47)) ?_
      refine GB rf rf rf (fun hb=>tA (bD rfl hb) rfl) ?_
      refine GB rf rf rf (fun hb=>aM rfl) ?_
      refine GB rf rf rf (fun hb=>bq (bD rfl hb) (cX.int f57)) ?_
      refine GB rf rf rf (fun hb=>mU (bD rfl hb) (bD rfl hb)) ?_
      refine aj rfl (eu rfl rfl) ?_
      refine aj rfl (au rfl) ?_
      refine GB rf rf rf (fun hb=>aM rfl) ?_
      refine GB rf rf rf (fun hb=>bq (bD rfl hb) (jD.int f47)) ?_
      refine GB rf rf rf (fun hb=>aM rfl) ?_
      refine GB rf rf rf (fun hb=>bq (bD rfl hb) (gZ.int f57)) ?_
      refine GB rf rf rf (fun hb=>mU (bD rfl hb) (bD rfl hb)) ?_
      refine aj rfl (eu rfl rfl) ?_
      refine aj rfl (au rfl) ?_
      refine GB rf rf rf (fun hb=>aM rfl) ?_
      obtain ⟨Ev,D9,f59⟩:=oL (lK.get f47)
      refine GB rf rf rf (fun hb=>aQ (bD rfl hb) D9 (aN.len _ f59)) ?_
      refine GB rf rf rf (fun hb=>aM rfl) ?_
      obtain ⟨xS,D8,f61⟩:=oL (lM.get f57)
      refine GB rf rf rf (fun hb=>aQ (bD rfl hb) D8 (aN.len _ f61)) ?_
      refine GB rf rf rf (fun hb=>bS (tf (K:=(fun w=>K w∧Hs [.ext gy mc, .ext kC qS] w)) (mo f59) (mo f61) (zh hb)) (aA (bD rfl hb) (aA (bD rfl hb) rfl)) kn) ?_
      refine GB rf rf rf (fun hb=>ij (bD rfl hb)) ?_
      refine aj rfl (eu rfl rfl) ?_
      refine SL 2 rf ?_
      refine ei h rf (fun hc h=>?_) fun hc h=>?_
      ·
       refine SC 12 rf ?_
       have h:=sj h; subst h
       exact RV rf (rt rf rn) rf
      ·
       refine SC 8 rf ?_
       obtain ⟨JB,GR,h⟩:=kJ h
       refine LO (β:=Int) [2,3,5,6,7,8,10] [0,1,2,3,4,5,6,7] (fun (FU,kY)=>[(12, .int .i64 kY)]) (fun (FU,kY)=>[.cells vZ 83 sg, .ext kC qS, .cells b8 74 ym, .ext gy mc,Row sF 3 1 (LI .i64) js,Row q8 69 1 (LI .u32) bf, .cells b3 105 kX, .cells b2 77 cq]) (fun (FU,kY)=>dF JB FU kY = some r) (n,0) h rf rf rf ?_
       rintro FU kY h
       replace h:=kI GR h; obtain ⟨FU,rfl,h⟩:=h
       refine SC 7 rf ?_
       refine ei h rf (fun hc h=>?_) fun hc h=>?_
       ·
        refine SC 5 rf ?_
        obtain ⟨rq,h⟩:=cm h
        obtain ⟨vE,h⟩:=cm h
        refine cJ mixed (.fin [] [(0,[12]),(1,[8]),(2,[97,98]),(3,[99]),(4,[100]),(5,[12]),(6,[10]),(7,[102,103]),(8,[104]),(9,[101,105])]) (by kernel_rfl) ?_
        refine F0 ?_
        refine NS 2 rf ?_
        refine NV rf rf (bU (m:=(Int.toNat kY)) rfl rfl (ay rq).1 (ay rq).2) ?_
        refine NV rf rf (bq rfl ((fB.comp (aI.idx (L:=(LI .u32)) (m:=8) (k:=1) ((Int.toNat kY)) (ay rq).2 rfl)).int f47)) ?_
        refine NS 3 rf ?_
        refine NV rf rf (bU (m:=(Int.toNat kY)) rfl rfl (ay vE).1 (ay vE).2) ?_
        refine NV rf rf (bq rfl ((fC.comp (aI.idx (L:=(LI .i64)) (m:=8) (k:=1) ((Int.toNat kY)) (ay vE).2 rfl)).int f57)) ?_
        refine NE 1 rf ?_
        refine iA ?_
        refine ei h rf (fun hc h=>?_) fun hc h=>?_
        ·
         refine SC 15 rf ?_
         have h:=sj h; subst h
         exact RV rf (rt rf rn) rf
        ·
         refine SC 8 rf ?_
         exact LN [0,1,2,3,4,5,6,7] (wr .i64 (kY + 1)) h rf rf rf
       ·
        refine SC 11 rf ?_
        exact LN [4,5,6,7] (wr .i64 (bJ + 1)) h rf rf rf
  ·
   refine SC 11 rf ?_
   have h:=sj h; subst h
   exact RV rf (rt rf rn) rf
end Go.Proofs.Ytmdpbdhkmfjlhaa
namespace Go.Proofs.Ytmdpbdhkmfjlhaa
open Go Go.Bw
end Go.Proofs.Ytmdpbdhkmfjlhaa
namespace Go.Proofs.Ytmdpbdhkmfjlhaa
open Go Go.Bw
theorem eN {w:aC} {h:Int} (hg:bk w h = true):h < 4294967296:=yG (fU.1 hg).1
theorem r6 (w:aC):bk w 0 = false:=rfl
theorem g8 {w:aC} {h:Int} (hg:bz w h):0 < h:=by
  have:=hg.1
  rcases Int.lt_or_eq_of_le this with h1 | h1
  · exact h1
  · subst h1; have:=hg.2; rw [r6] at this; cases this
structure tE (p:bt) (x:bI):Prop where
  q:p.bP = x.bP
  e:p.E = ⟨x.E.aU.map lQ,x.E.nD⟩
  n:x.E.aU.length ≤ 80
  r:∀y ∈ x.E.aU.map lQ,AN y.At∧AN y.N
  c:∀i,i < 8→p.Cells i = x.Cells i
  c0:∀i,i < 8→0 ≤ x.Cells i∧x.Cells i ≤ 4294967295
theorem tE.FF {p:bt} {x:bI} (h:tE p x) (u v:Int):tE { p with Up:=u } { x with Up:=v }:=⟨h.q,h.e,h.n,h.r,h.c,h.c0⟩
def wm (B:aC) (h:Int):Int:=if bk B h = true then h else 0
structure fF (t:aq) (w:ag):Prop where
  book:RB t.book.iZ w.B
  Cj:∀i,i < 32→w.B.Is i = 1→tE (t.regions i) (w.R i)
  up:∀i,i < 32→w.B.Is i = 1→(w.R i).Up = wm w.B (t.regions i).Up
  old:∀i,i < 32→w.B.Is i = 1→(t.regions i).Up = 0∨po w.B (t.regions i).Up
def MU (w:ag) (ρ:Nat→Nat):Prop:=∀i,i < 32→w.B.Is i = 1→(w.R i).Up ≠ 0→ρ (bN (w.R i).Up) < ρ i
def iJ (w:ag):Prop:=∃ρ:Nat→Nat,MU w ρ
theorem fF.IT {t:aq} {w:ag} (r:fF t w) {i:Nat} (hi:i < 32) (h1:w.B.Is i = 1):(w.R i).Up = 0∨bz w.B (w.R i).Up:=by
  rw [r.up i hi h1]
  unfold wm
  split
  · rename_i h
    rcases r.old i hi h1 with h2 | h2
    · exact .inl h2
    · exact .inr ⟨h2.1,h⟩
  · exact .inl rfl
theorem dB {w:aC} {x:Int} (h:bz w x):bN x < 32∧w.Is (bN x) = 1:=⟨jW x,(oX h.2).2.1⟩
theorem fF.C1 {t:aq} {w:ag} (r:fF t w) {x:Int} (hx:bz w.B x):(w.R (bN x)).Up = 0∨bz w.B (w.R (bN x)).Up:=r.IT (dB hx).1 (dB hx).2
theorem fO (h:Int):dH (g5 h) 32 = true:=cD (dJ h).1 (by have:=dJ h; omega)
theorem yy {n:Nat} {t:aq} {w:ag} (r:fF t w) {x:Int} (hx:bz w.B x):eA n t x = some (w.R (bN x)).Up:=by
  unfold eA
  obtain ⟨l1,l2⟩:=dB hx
  have ho:=r.old _ l1 l2
  have hu:0 ≤ (t.regions (bN x)).Up∧(t.regions (bN x)).Up < 4294967296:=by
    rcases ho with h | h
    · rw [h]; decide
    · exact ⟨h.1,yG h.2.1⟩
  rw [av (kG hx.1 (eN hx.2)),aD (fO x)]
  show bd (aS n t.book.iZ (t.regions (bN x)).Up) _ = _
  rw [av (j8 r.book hu.1 hu.2),r.up _ l1 l2]
  unfold wm
  show cn (bk w.B (t.regions (bN x)).Up) (some (t.regions (bN x)).Up) (some 0) = _
  cases hg:bk w.B (t.regions (bN x)).Up with
  | true=>rw [aK rfl,if_pos rfl]
  | false=>rw [ax rfl,if_neg (by decide)]
def kQ (t:aq) (w:ag) (h:Int):bt:={ t.regions (bN h) with Up:=(w.R (bN h)).Up }
def Df:bt:={ Up:=0,bP:=0,E:=ec,Cells:=(fun _=>0) }
theorem oe {n:Nat} {t:aq} {w:ag} (r:fF t w) {h:Int} (h0:0 ≤ h) (h1:h < 4294967296):cP n t h = some (if bk w.B h = true then (kQ t w h,0) else (Df,4)):=by
  unfold cP
  rw [av (j8 r.book h0 h1)]
  cases hg:bk w.B h with
  | false=>rfl
  | true =>
    rw [ax (b:=!true) rfl,av (kG h0 h1),aD (fO h),lt_eq,av (yy r ⟨h0,hg⟩),lt_eq,if_pos rfl]; rfl
theorem nH {n:Nat} (hn:40 ≤ n) {t:aq} {w:ag} (r:fF t w) {h:Int} (hg:bz w.B h):dK n w h = some (w.R (bN h),0):=by
  unfold dK
  have hr:=dJ h
  rw [av (de hn r.book hg.1),hg.2,if_pos rfl,ax (by simp; omega),aD (fO h),lt_eq]
  rfl
theorem bO {n:Nat} (hn:40 ≤ n) {t:aq} {w:ag} (r:fF t w) {h:Int} (h0:0 ≤ h):bx n w h = some (bk w.B h):=by
  unfold bx
  have hr:=dJ h
  rw [av (de hn r.book h0)]
  cases bk w.B h with
  | false=>rfl
  | true=>rw [if_pos rfl]; simpa using hr.1
structure EW (t:aq) (w:ag) (t' : aq) (w' : ag) (who e:Int) (dr:Bool):Prop where
  rt:fF t' w'
  tt:iJ w'
  kp:∀g,bz w.B g→¬ (g = who∧e = 0)→bz w'.B g∧(t'.regions (bN g)).bP = (t.regions (bN g)).bP∧(t'.regions (bN g)).E = (t.regions (bN g)).E∧(t'.regions (bN g)).Cells = (t.regions (bN g)).Cells ∧
    ((w'.R (bN g)).Up = (w.R (bN g)).Up∨(dr = true∧e = 0∧(w.R (bN g)).Up = who∧who ≠ 0∧(w'.R (bN g)).Up = 0))
theorem EW.same {t:aq} {w:ag} (r:fF t w) (tt:iJ w) (who e:Int) (dr:Bool):EW t w t w who e dr:=⟨r,tt,fun _ hg _=>⟨hg,rfl,rfl,rfl, .inl rfl⟩⟩
theorem sC {b:aY} {w:aC} (r:RB b w) {h:Int} (h0:0 ≤ h) (x:Int):bz (yd w h) x↔bz w x∧x ≠ h:=xL r h0 x
theorem C3 {b:aY} {w:aC} (r:RB b w) {h u:Int} (hg:bz w h) (hu:0 ≤ u):wm (yd w h) u = if wm w u = h then 0 else wm w u:=by
  have hv:=sC r hg.1 u
  have hp:=g8 hg
  unfold wm
  cases h1:bk w u with
  | false =>
    have:bk (yd w h) u ≠ true:=fun h2=>by
      have:=(hv.1 ⟨hu,h2⟩).1.2; rw [h1] at this; cases this
    rw [if_neg this]; simp
  | true =>
    rw [if_pos rfl]
    by_cases e:u = h
    · rw [if_pos e,if_neg (fun h2=>(hv.1 ⟨hu,h2⟩).2 e)]
    · rw [if_neg e,if_pos (hv.2 ⟨⟨hu,h1⟩,e⟩).2]
theorem xn {n:Nat} (hn:40 ≤ n) (h:Int) (w:ag):∃w' : ag,dD (fun Cp (ga:Int) (my:ag) =>
  cn (decide (ga < 32)) (
  gu (dH ga 32) <|
  cn ((((my.R (Int.toNat ga)).Up) == h)) (
  gu (dH ga 32) <|
  lt ({ my with R:=(er my.R (Int.toNat ga) ({ (my.R (Int.toNat ga)) with Up:=0 })) }:ag) fun tP =>
  Cp (wr .i64 (ga + 1)) tP) (
  Cp (wr .i64 (ga + 1)) my)) (
  some (my,(0:Int)))) n 0 w = some (w',0)∧w'.B = w.B∧∀i,i < 32→w'.R i = if (w.R i).Up = h then { w.R i with Up:=0 } else w.R i:=by
  refine eV (fun (i:Int) (v:ag)=>0 ≤ i∧i ≤ 32∧v.B = w.B∧∀j,v.R j = if j < i.toNat∧(w.R j).Up = h then { w.R j with Up:=0 } else w.R j) (fun i _=>(32 - i).toNat)
    (fun o=>∃w' : ag,o = some (w',0)∧w'.B = w.B∧∀i,i < 32→w'.R i = if (w.R i).Up = h then { w.R i with Up:=0 } else w.R i) ?_ n 0 w ⟨by omega,by omega,rfl,fun j=>by simp⟩ (by omega)
  rintro kk i v ⟨i0,i1,hb,hv⟩ ih
  by_cases c:i < 32
  · have hi:=hv i.toNat
    rw [if_neg (fun hh=>absurd hh.1 (Nat.lt_irrefl _))] at hi
    rw [aK (by simpa using c),aD (cD i0 (by omega)),hi,bT (x:=i + 1) (by omega) (by omega)]
    have e1:(i + 1).toNat = i.toNat + 1:=by omega
    by_cases hu:(w.R i.toNat).Up = h
    · rw [aK (by simpa using hu),aD (cD i0 (by omega)),lt_eq]
      refine ih _ _ ⟨by omega,by omega,hb,fun j=>?_⟩ (by omega)
      show er v.R i.toNat _ j = _
      rw [cr]
      by_cases ej:j = i.toNat
      · subst ej; rw [if_pos rfl,if_pos ⟨by omega,hu⟩]
      · rw [if_neg ej,hv j]
        by_cases hj:(w.R j).Up = h
        · by_cases hl:j < i.toNat
          · rw [if_pos ⟨hl,hj⟩,if_pos ⟨by omega,hj⟩]
          · rw [if_neg (fun hh=>hl hh.1),if_neg (fun hh=>by omega)]
        · rw [if_neg (fun hh=>hj hh.2),if_neg (fun hh=>hj hh.2)]
    · rw [ax (by simpa using hu)]
      refine ih _ _ ⟨by omega,by omega,hb,fun j=>?_⟩ (by omega)
      rw [hv j]
      by_cases ej:j = i.toNat
      · subst ej; rw [if_neg (fun hh=>hu hh.2),if_neg (fun hh=>hu hh.2)]
      · by_cases hj:(w.R j).Up = h
        · by_cases hl:j < i.toNat
          · rw [if_pos ⟨hl,hj⟩,if_pos ⟨by omega,hj⟩]
          · rw [if_neg (fun hh=>hl hh.1),if_neg (fun hh=>by omega)]
        · rw [if_neg (fun hh=>hj hh.2),if_neg (fun hh=>hj hh.2)]
  · rw [ax (by simpa using c)]
    refine ⟨v,rfl,hb,fun j hj=>?_⟩
    rw [hv j]
    by_cases hu:(w.R j).Up = h
    · rw [if_pos ⟨by omega,hu⟩,if_pos hu]
    · rw [if_neg (fun hh=>hu hh.2),if_neg hu]
theorem HQ {n:Nat} (hn:40 ≤ n) {t:aq} {w:ag} (r:fF t w) (tt:iJ w) {h:Int} (h0:0 ≤ h) (h1:h < 4294967296) :
    ∃t' w' e,dM n t h = some (t',e)∧dm n w h = some (w',e)∧EW t w t' w' h e true:=by
  obtain ⟨b',e1,r'⟩:=AQ (n:=n) r.book h0 h1
  cases hg:bk w.B h with
  | false =>
    refine ⟨t,w,4,?_,?_, .same r tt _ _ _⟩
    · unfold dM; rw [av e1,hg]; rfl
    · unfold dm; rw [av (de hn r.book h0),hg]; rfl
  | true =>
    have yh:bz w.B h:=⟨h0,hg⟩
    obtain ⟨w',c1,c2,c3⟩:=xn (n:=n) hn h { B:=yd w.B h,R:=er w.R (bN h) { Up:=0,bP:=0,E:=cE,Cells:=(fun _=>0) } }
    have hpos:=g8 yh
    refine ⟨{ book:={ t.book with iZ:=b' },regions:=er t.regions (bN h) Df },w',0,?_,?_,?_⟩
    · unfold dM; rw [av e1,hg,ax (b:=!true) rfl,lt_eq,av (kG h0 h1),lt_eq,aD (fO h),lt_eq]; rfl
    · unfold dm
      have hr:=dJ h
      rw [av (de hn r.book h0),hg,if_pos rfl,ax (by simp; omega),av (uc hn r.book h0),lt_eq,lt_eq,aD (fO h),lt_eq]
      exact c1
    have hb:w'.B = yd w.B h:=c2
    have uy:∀i,i < 32→w'.B.Is i = 1→w.B.Is i = 1∧i ≠ bN h:=fun i hi hs=>by
      rw [hb] at hs
      refine ⟨(AR hs).1,fun e=>?_⟩
      subst e
      unfold yd at hs
      rw [hg,if_pos rfl] at hs
      exact p4 w.B h hs
    have hR:∀i,i < 32→i ≠ bN h→w'.R i = if (w.R i).Up = h then { w.R i with Up:=0 } else w.R i:=fun i hi hne=>by
      have q:=c3 i hi
      simp only [iM _ _ hne] at q
      exact q
    have hT:∀i,i ≠ bN h→er t.regions (bN h) Df i = t.regions i:=fun i hne=>iM _ _ hne
    have hU:∀i,i < 32→i ≠ bN h→(w'.R i).Up = if (w.R i).Up = h then 0 else (w.R i).Up:=fun i hi hne=>by
      rw [hR i hi hne]; split <;> rfl
    refine ⟨⟨?_,fun i hi hs=>?_,fun i hi hs=>?_,fun i hi hs=>?_⟩,?_,fun g zF hne=>?_⟩
    · rw [hb]; exact r'
    · obtain ⟨l1,l2⟩:=uy i hi hs
      have:=r.Cj i hi l1
      rw [hR i hi l2]
      dsimp only
      rw [hT i l2]
      split
      · exact ⟨this.q,this.e,this.n,this.r,this.c,this.c0⟩
      · exact this
    · obtain ⟨l1,l2⟩:=uy i hi hs
      dsimp only
      rw [hT i l2,hU i hi l2,hb]
      rw [C3 r.book yh,r.up i hi l1]
      rcases r.old i hi l1 with h | h
      · rw [h]; decide
      · exact h.1
    · obtain ⟨l1,l2⟩:=uy i hi hs
      dsimp only
      rw [hT i l2,hb]
      exact (r.old i hi l1).imp _root_.id fun hp=>xw (h:=h) _ hp
    · obtain ⟨ρ,hρ⟩:=tt
      refine ⟨ρ,fun i hi hs hu=>?_⟩
      obtain ⟨l1,l2⟩:=uy i hi hs
      rw [hU i hi l2] at hu ⊢
      by_cases e:(w.R i).Up = h
      · rw [if_pos e] at hu; exact absurd rfl hu
      · rw [if_neg e] at hu ⊢; exact hρ i hi l1 hu
    · have zv:g ≠ h:=fun e=>hne ⟨e,rfl⟩
      have Cy:bz w'.B g:=by rw [hb]; exact (sC r.book h0 g).2 ⟨zF,zv⟩
      obtain ⟨l1,l2⟩:=uy (bN g) (jW g) (dB Cy).2
      refine ⟨Cy,?_,?_,?_,?_⟩
      · dsimp only; rw [hT _ l2]
      · dsimp only; rw [hT _ l2]
      · dsimp only; rw [hT _ l2]
      · rw [hU _ (jW g) l2]
        by_cases e:(w.R (bN g)).Up = h
        · rw [if_pos e]; exact .inr ⟨rfl,rfl,e,by omega,rfl⟩
        · rw [if_neg e]; exact .inl rfl
end Go.Proofs.Ytmdpbdhkmfjlhaa
namespace Go.Proofs.Ytmdpbdhkmfjlhaa
open Go Go.Bw
theorem C4 {b:aY} {w:aC} (r:RB b w) {f:Nat} (hf:oH w f) (hl:f < 32) {u:Int} (hu:u = 0∨po w u):wm (iC w f) u = wm w u:=by
  rcases hu with h | h
  · subst h; rfl
  · have hv:=je r hf hl u
    have hne:u ≠ gR f (w.ia f):=fun e=>by rw [e] at h; exact yT r hf hl h
    unfold wm
    by_cases h1:bk w u = true
    · rw [if_pos h1,if_pos (hv.2 (.inl ⟨h.1,h1⟩)).2]
    · rw [if_neg h1,if_neg (fun h2=>(hv.1 ⟨h.1,h2⟩).elim (fun h3=>h1 h3.2) hne)]
def yW (B:aC) (a:Int):Bool:=(a == 0) || bk B a
theorem od {n:Nat} {t:aq} {w:ag} (r:fF t w) {a:Int} (h0:0 ≤ a) (h1:a < 4294967296) {ρ:Type} {f:Bool→Option ρ} {g:Bool} :
    cl g (aS n t.book.iZ a) default f = f (bif g then bk w.B a else default):=c9 (j8 r.book h0 h1)
theorem jl (B:aC) (a:Int):((a != 0) && (!(bif ((a != 0) == true) then bk B a else default))) = !yW B a:=by
  unfold yW
  by_cases h0:a = 0
  · subst h0; rfl
  · have h1:(a != 0) = true:=by simpa using h0
    have h2:(a == 0) = false:=by simpa using h0
    rw [h1,h2]; rfl
theorem vu {B:aC} {a:Int} (h0:0 ≤ a) (h:yW B a = true):a = 0∨bz B a:=by
  unfold yW at h
  rw [Bool.or_eq_true,beq_iff_eq] at h
  exact h.imp _root_.id fun hg=>⟨h0,hg⟩
theorem Ju {n:Nat} (hn:40 ≤ n) {t:aq} {w:ag} (r:fF t w) (tt:iJ w) {a q:Int} (a0:0 ≤ a) (a1:a < 4294967296) :
    ∃t' w' m e,dX n t a q = some (t',m,e)∧cQ n w a q = some (w',m,e)∧0 ≤ m∧m < 4294967296∧EW t w t' w' m e false:=by
  cases ha:yW w.B a with
  | false =>
    refine ⟨t,w,0,4,?_,?_,by decide,by decide, .same r tt _ _ _⟩
    · unfold dX; rw [od r a0 a1,jl,ha]; rfl
    · unfold cQ; rw [c9 (bO hn r a0),jl,ha]; rfl
  | true =>
  rcases Decidable.em (¬(0 ≤ q∧q ≤ 64)) with hq | hq
  · refine ⟨t,w,0,2,?_,?_,by decide,by decide, .same r tt _ _ _⟩
    · unfold dX; rw [od r a0 a1,jl,ha,ax (b:=!true) rfl]; unfold gN; rw [av rfl,aK (by simp; omega)]
    · unfold cQ; rw [c9 (bO hn r a0),jl,ha,ax (b:=!true) rfl,aK (by simp; omega)]
  have hq:=Decidable.not_not.1 hq
  obtain ⟨f,hf⟩:=uD w.B
  obtain ⟨b',i1,i2⟩:=ur (n:=n) hn r.book hf
  have i3:=pg (n:=n) hn r.book hf
  have hP:dX n t a q = (bd (eC n t.book.iZ) fun eo =>
  cn ((!eo.2.2)) (
  some (t,0,7)) (
  bd (bF n eo.2.1) fun gE =>
  gu (dH gE.1 32) <|
  some (⟨⟨eo.1⟩,er t.regions (Int.toNat gE.1) ⟨a,q,ec,fun _=>0⟩⟩,eo.2.1,0))):=by
    unfold dX; rw [od r a0 a1,jl,ha,ax (b:=!true) rfl]; unfold gN; rw [av rfl,ax (by simpa using hq)]; rfl
  have hR:cQ n w a q = (bd (eU n w.B) fun ef =>
  cn ((ef.2 == 0)) (
  some (w,0,7)) (
  bd (bC n ef.1 ef.2) fun fL =>
  gu (dH fL 32) <|
  some (⟨ef.1,er w.R (Int.toNat fL) ⟨a,q,cE,fun _=>0⟩⟩,ef.2,0))):=by
    unfold cQ; rw [c9 (bO hn r a0),jl,ha,ax (b:=!true) rfl,ax (by simp; omega)]; rfl
  rcases Decidable.em (¬ f < 32) with hl | hl
  · refine ⟨t,w,0,7,?_,?_,by decide,by decide, .same r tt _ _ _⟩
    · rw [hP,av i1,aK (by simpa using hl)]
    · rw [hR,av i3,if_neg hl]; rfl
  have hl:=Decidable.not_not.1 hl
  simp only [hl,if_true,decide_true] at i1 i2 i3
  have hr:=r.book.iK f hl
  obtain ⟨q1,q2,q3,q4,q5⟩:=lU (i:=f) (g:=w.B.ia f) (by omega) (by omega) hr.1 hr.2
  have hnew:bz (iC w.B f) (gR f (w.B.ia f)):=(je r.book hf hl _).2 (.inr rfl)
  have hfn:(g5 (gR f (w.B.ia f))).toNat = f:=by rw [q2]; omega
  have Mz:dH (g5 (gR f (w.B.ia f))) 32 = true:=fO _
  refine ⟨⟨⟨b'⟩,er t.regions f ⟨a,q,ec,fun _=>0⟩⟩,⟨iC w.B f,er w.R f ⟨a,q,cE,fun _=>0⟩⟩,gR f (w.B.ia f),0,?_,?_,by omega,q5,?_⟩
  · rw [hP,av i1,ax (b:=!true) rfl]
    dsimp only
    rw [av (kG (by omega) q5),aD Mz,hfn]
  · rw [hR,av i3,ax (by simp; omega),av (de hn i2 (by omega)),hnew.2,if_pos rfl,aD Mz,hfn]
  have Cz:=vu a0 ha
  have hfree:=hf.2.2 hl
  have hold:∀i,i ≠ f→(iC w.B f).Is i = 1→w.B.Is i = 1:=fun i hi hs=>by
    have:er w.B.Is f 1 i = 1:=hs
    rwa [iM _ _ hi] at this
  have hne:∀x,bz w.B x→bN x ≠ f:=fun x hx e=>by
    have:=(dB hx).2; rw [e,hfree] at this; cases this
  refine ⟨⟨i2,fun i hi hs=>?_,fun i hi hs=>?_,fun i hi hs=>?_⟩,?_,fun g hg _=>?_⟩
  · dsimp only
    rw [cr,cr]
    by_cases e:i = f
    · rw [if_pos e,if_pos e]
      exact ⟨rfl,rfl,(by show (0:Nat) ≤ 80; omega),(fun y hy=>by cases hy),fun _ _=>rfl,fun _ _=>by show (0:Int) ≤ 0∧(0:Int) ≤ 4294967295; decide⟩
    · rw [if_neg e,if_neg e]; exact r.Cj i hi (hold i e hs)
  · dsimp only
    simp only [cr]
    by_cases e:i = f
    · rw [if_pos e,if_pos e]
      show a = wm (iC w.B f) a
      rcases Cz with h | h
      · subst h; rfl
      · unfold wm; rw [if_pos ((je r.book hf hl a).2 (.inl h)).2]
    · rw [if_neg e,if_neg e]
      have h1:=hold i e hs
      rw [C4 r.book hf hl (r.old i hi h1)]; exact r.up i hi h1
  · dsimp only
    simp only [cr]
    by_cases e:i = f
    · rw [if_pos e]
      exact Cz.imp _root_.id fun h=>qc _ (r7 h)
    · rw [if_neg e]
      exact (r.old i hi (hold i e hs)).imp _root_.id (qc _)
  · obtain ⟨ρ,hρ⟩:=tt
    refine ⟨er ρ f (1 + AT ρ 32),fun i hi hs hu=>?_⟩
    dsimp only at hu ⊢
    simp only [cr] at hu ⊢
    by_cases e:i = f
    · rw [if_pos e] at hu
      rw [if_pos e,if_pos e]
      change a ≠ 0 at hu
      show (if bN a = f then _ else ρ (bN a)) < _
      have HG:=Cz.resolve_left hu
      rw [if_neg (hne a HG)]
      have:=wq ρ (j:=bN a) 32 (jW a)
      omega
    · rw [if_neg e] at hu
      rw [if_neg e,if_neg e]
      have h1:=hold i e hs
      rw [if_neg (hne _ ((r.IT hi h1).resolve_left hu))]
      exact hρ i hi h1 hu
  · have:=hne g hg
    refine ⟨(je r.book hf hl g).2 (.inl hg),?_,?_,?_, .inl ?_⟩
    all_goals (dsimp only; rw [iM _ _ this])
theorem Jv {n:Nat} (hn:110 ≤ n) {p:bt} {x:bI} (h:tE p x):∃b,eD n p.E = some b∧cT n x.E = some b:=by
  have hl:(x.E.aU.map lQ).length ≤ 80:=by rw [List.length_map]; exact h.n
  obtain ⟨b,b1,b2⟩:=y5 (n:=n) hn (e:=p.E) (by rw [h.e]; exact hl) (by rw [h.e]; exact h.r)
  obtain ⟨c,c1,c2⟩:=rR (n:=n) hn h.n h.r
  refine ⟨b,b1,?_⟩
  rw [c1]
  rw [h.e] at b2
  dsimp only at b2
  have:b = true↔c = true:=b2.trans ⟨fun ⟨q1,_,q3⟩=>c2.2 ⟨q1,q3⟩,fun h=>by
    obtain ⟨q1,q3⟩:=c2.1 h
    exact ⟨q1,BB q1,q3⟩⟩
  cases b <;> cases c <;> simp_all
theorem Jn {n:Nat} (hn:110 ≤ n) {t:aq} {w:ag} (r:fF t w) (tt:iJ w) {h:Int} (h0:0 ≤ h) (h1:h < 4294967296) {p:bt} {x:bI} (hx:tE p x) :
    ∃t' w' e,dI n t h p = some (t',e)∧dY n w h x = some (w',e)∧EW t w t' w' h e false:=by
  obtain ⟨b,b1,b2⟩:=Jv hn hx
  have Kx:=dJ h
  unfold dI dY
  rw [av (j8 r.book h0 h1),av (de (by omega) r.book h0)]
  cases hg:bk w.B h with
  | false=>exact ⟨t,w,4,rfl,rfl, .same r tt _ _ _⟩
  | true =>
  have yh:bz w.B h:=⟨h0,hg⟩
  obtain ⟨l1,l2⟩:=dB yh
  unfold gN
  rw [if_pos rfl,ax (b:=!true) rfl,ax (by simp; omega),av rfl,c9 b1,c9 b2,hx.q]
  rcases Decidable.em (¬((0 ≤ x.bP∧x.bP ≤ 64)∧b = true)) with hq | hq
  · refine ⟨t,w,2,?_,?_, .same r tt _ _ _⟩
    · rw [aK]
      by_cases h3:0 ≤ x.bP∧x.bP ≤ 64
      · have:b = false:=by cases b with
          | false=>rfl
          | true=>exact absurd ⟨h3,rfl⟩ hq
        rw [this]; simp
      · have:(decide (0 ≤ x.bP) && decide (x.bP ≤ 64)) = false:=by rw [Bool.and_eq_false_iff,decide_eq_false_iff_not,decide_eq_false_iff_not]; omega
        rw [this]; rfl
    · rw [aK]
      by_cases h3:0 ≤ x.bP∧x.bP ≤ 64
      · have:b = false:=by cases b with
          | false=>rfl
          | true=>exact absurd ⟨h3,rfl⟩ hq
        rw [this]; simp
      · have:(decide (x.bP < 0) || decide (64 < x.bP)) = true:=by rw [Bool.or_eq_true,decide_eq_true_eq,decide_eq_true_eq]; omega
        rw [this]; rfl
  obtain ⟨⟨q1,q2⟩,rfl⟩:=Decidable.not_not.1 hq
  have e1:(decide (0 ≤ x.bP) && decide (x.bP ≤ 64)) = true:=by simp [q1,q2]
  have e2:(decide (x.bP < 0) || decide (64 < x.bP)) = false:=by rw [Bool.or_eq_false_iff,decide_eq_false_iff_not,decide_eq_false_iff_not]; omega
  rw [e1,e2,ax (by rfl),ax (by rfl),av (kG h0 h1),aD (fO h),aD (fO h),lt_eq,aD (fO h),lt_eq,lt_eq,aD (fO h),lt_eq]
  refine ⟨_,_,0,rfl,rfl,?_⟩
  show EW t w ⟨t.book,er t.regions (bN h) { p with Up:=(t.regions (bN h)).Up,bP:=x.bP }⟩ ⟨w.B,er w.R (bN h) { x with Up:=(w.R (bN h)).Up }⟩ h 0 false
  have hT:∀i,(er t.regions (bN h) { p with Up:=(t.regions (bN h)).Up,bP:=x.bP } i).Up = (t.regions i).Up:=fun i=>by
    rw [cr]; split
    · rename_i e; rw [e]
    · rfl
  have hW:∀i,(er w.R (bN h) { x with Up:=(w.R (bN h)).Up } i).Up = (w.R i).Up:=fun i=>by
    rw [cr]; split
    · rename_i e; rw [e]
    · rfl
  refine ⟨⟨r.book,fun i hi hs=>?_,fun i hi hs=>?_,fun i hi hs=>?_⟩,?_,fun g zF hne=>?_⟩
  · dsimp only
    rw [cr,cr]
    by_cases e:i = bN h
    · rw [if_pos e,if_pos e]; exact ⟨rfl,hx.e,hx.n,hx.r,hx.c,hx.c0⟩
    · rw [if_neg e,if_neg e]; exact r.Cj i hi hs
  · dsimp only; rw [hT,hW]; exact r.up i hi hs
  · dsimp only; rw [hT]; exact r.old i hi hs
  · obtain ⟨ρ,hρ⟩:=tt
    refine ⟨ρ,fun i hi hs hu=>?_⟩
    dsimp only at hu ⊢; rw [hW] at hu ⊢; exact hρ i hi hs hu
  · have zv:bN g ≠ bN h:=fun e=>hne ⟨by rw [← eM zF,← eM yh,e],rfl⟩
    refine ⟨zF,?_,?_,?_, .inl ?_⟩
    all_goals (dsimp only; rw [iM _ _ zv])
end Go.Proofs.Ytmdpbdhkmfjlhaa
namespace Go.Proofs.Ytmdpbdhkmfjlhaa
open Go Go.Bw
inductive jB (w:ag) (s:Nat):Nat→Prop
  | self:jB w s s
  | down {i:Nat}:i < 32→w.B.Is i = 1→(w.R i).Up ≠ 0→jB w s (bN (w.R i).Up)→jB w s i
theorem jB.iff {w:ag} {s i:Nat} (hi:i < 32) (h1:w.B.Is i = 1):jB w s i↔i = s∨((w.R i).Up ≠ 0∧jB w s (bN (w.R i).Up)):=by
  constructor
  · intro h
    cases h with
    | self=>exact .inl rfl
    | down _ _ a b=>exact .inr ⟨a,b⟩
  · rintro (h | ⟨a,b⟩)
    · subst h; exact .self
    · exact .down hi h1 a b
def nS (w:ag) (ρ:Nat→Nat) (x:Int):Nat:=if x = 0 then 0 else qF (fun j=>decide (ρ j < ρ (bN x))) 32 + 1
theorem sd {t:aq} {w:ag} (r:fF t w) {ρ:Nat→Nat} (hρ:MU w ρ) {x:Int} (hx:bz w.B x):nS w ρ (w.R (bN x)).Up < nS w ρ x:=by
  have hp:=g8 hx
  obtain ⟨l1,l2⟩:=dB hx
  unfold nS
  rw [if_neg (show ¬ x = 0 by omega)]
  split
  · omega
  · rename_i hu
    have h2:=hρ _ l1 l2 hu
    have:=oo (p:=fun j=>decide (ρ j < ρ (bN (w.R (bN x)).Up))) (q:=fun j=>decide (ρ j < ρ (bN x))) (fun j hj=>by simp at hj ⊢; omega) (c:=bN (w.R (bN x)).Up) (by simp) (by simpa using h2) 32 (jW _)
    omega
theorem se (w:ag) (ρ:Nat→Nat) (x:Int):nS w ρ x ≤ 32:=by
  unfold nS
  split
  · omega
  · have:=oo (p:=fun j=>decide (ρ j < ρ (bN x))) (q:=fun _=>true) (fun _ _=>rfl) (c:=bN x) (by simp) rfl 32 (jW _)
    have:=s6 (fun _=>true) 32
    omega
theorem xo {n:Nat} (hn:40 ≤ n) {t:aq} {w:ag} (r:fF t w) (tt:iJ w) {h:Int} (hh:bz w.B h) {x0:Int} (hx0:bz w.B x0) :
    ∃b,bK n w h x0 = some b∧(b = true↔(w.R (bN x0)).Up ≠ 0∧jB w (bN h) (bN (w.R (bN x0)).Up)):=by
  obtain ⟨ρ,hρ⟩:=tt
  unfold bK
  have K4:=g8 hh
  refine fR (fun (x:Int)=>(x = 0∨bz w.B x)∧(((w.R (bN x0)).Up ≠ 0∧jB w (bN h) (bN (w.R (bN x0)).Up))↔(x ≠ 0∧(w.R (bN x)).Up ≠ 0∧jB w (bN h) (bN (w.R (bN x)).Up)))) (fun x=>nS w ρ x)
    (fun o=>∃b,o = some b∧(b = true↔(w.R (bN x0)).Up ≠ 0∧jB w (bN h) (bN (w.R (bN x0)).Up))) ?_ n x0 ⟨.inr hx0,?_⟩ (by have:=se w ρ x0; omega)
  · rintro kk x ⟨hx,hw⟩ ih
    by_cases h0:x = 0
    · subst h0
      rw [ax (by rfl)]
      exact ⟨false,rfl,by rw [hw]; simp⟩
    · have hg:=hx.resolve_left h0
      have Kx:=dJ x
      obtain ⟨l1,l2⟩:=dB hg
      rw [aK (by simpa using h0),av (de hn r.book hg.1),hg.2,if_pos rfl,aD (fO x)]
      show ∃b,cn ((w.R (bN x)).Up == h) (some (h != 0)) (kk (w.R (bN x)).Up) = some b∧_
      by_cases hu:(w.R (bN x)).Up = h
      · rw [aK (by simpa using hu)]
        refine ⟨_,rfl,?_⟩
        rw [hw,hu]
        exact ⟨fun _=>⟨h0,by omega, .self⟩,fun _=>by simp; omega⟩
      · rw [ax (by simpa using hu)]
        refine ih _ ⟨r.C1 hg,hw.trans ?_⟩ (sd r hρ hg)
        constructor
        · rintro ⟨_,a,b⟩
          have IY:=(r.C1 hg).resolve_left a
          obtain ⟨m1,m2⟩:=dB IY
          refine ⟨a,?_⟩
          rcases (jB.iff m1 m2).1 b with e | e
          · exact absurd (by rw [← eM IY,← eM hh,e]) hu
          · exact e
        · rintro ⟨a,b,c⟩
          have IY:=(r.C1 hg).resolve_left a
          obtain ⟨m1,m2⟩:=dB IY
          exact ⟨h0,a, .down m1 m2 b c⟩
  · have:=g8 hx0
    exact ⟨fun a=>⟨by omega,a⟩,fun a=>a.2⟩
theorem EA {n:Nat} (hn:40 ≤ n) {t:aq} {w:ag} (r:fF t w) (tt:iJ w) {h:Int} (hh:bz w.B h) {x0:Int} (hx0:x0 = 0∨bz w.B x0) (z:Option (aq × Int)) :
    (x0 ≠ 0∧jB w (bN h) (bN x0)→dF (fun Be (cw:Int) =>
  cn ((cw != 0)) (
  cn ((cw == h)) (
  some (t,12)) (
  bd (eA n t cw) fun fI =>
  Be fI)) z) n x0 = some (t,12))∧(¬ (x0 ≠ 0∧jB w (bN h) (bN x0))→dF (fun Be (cw:Int) =>
  cn ((cw != 0)) (
  cn ((cw == h)) (
  some (t,12)) (
  bd (eA n t cw) fun fI =>
  Be fI)) z) n x0 = z):=by
  obtain ⟨ρ,hρ⟩:=tt
  have K4:=g8 hh
  refine fR (fun (x:Int)=>(x = 0∨bz w.B x)∧((x0 ≠ 0∧jB w (bN h) (bN x0))↔(x ≠ 0∧jB w (bN h) (bN x)))) (fun x=>nS w ρ x)
    (fun o=>(x0 ≠ 0∧jB w (bN h) (bN x0)→o = some (t,12))∧(¬ (x0 ≠ 0∧jB w (bN h) (bN x0))→o = z)) ?_ n x0 ⟨hx0,Iff.rfl⟩ (by have:=se w ρ x0; omega)
  rintro kk x ⟨hx,hw⟩ ih
  by_cases h0:x = 0
  · subst h0
    rw [ax (by rfl)]
    exact ⟨fun hq=>absurd rfl (hw.1 hq).1,fun _=>rfl⟩
  · have hg:=hx.resolve_left h0
    obtain ⟨l1,l2⟩:=dB hg
    rw [aK (by simpa using h0)]
    by_cases hu:x = h
    · rw [aK (by simpa using hu)]
      exact ⟨fun _=>rfl,fun hq=>absurd (hw.2 ⟨h0,by rw [hu]; exact .self⟩) hq⟩
    · rw [ax (by simpa using hu),av (yy r hg)]
      refine ih _ ⟨r.C1 hg,hw.trans ?_⟩ (sd r hρ hg)
      constructor
      · rintro ⟨_,b⟩
        rcases (jB.iff l1 l2).1 b with e | e
        · exact absurd (by rw [← eM hg,← eM hh,e]) hu
        · exact e
      · rintro ⟨a,b⟩
        exact ⟨h0, .down l1 l2 a b⟩
theorem Dc {n:Nat} (hn:40 ≤ n) {t:aq} {w:ag} (r:fF t w) (tt:iJ w) {h a:Int} (h0:0 ≤ h) (h1:h < 4294967296) (a0:0 ≤ a) (a1:a < 4294967296) :
    ∃t' w' e,dz n t h a = some (t',e)∧dS n w h a = some (w',e)∧EW t w t' w' h e false:=by
  unfold dz dS
  rw [av (j8 r.book h0 h1),av (bO hn r h0),od r a0 a1,c9 (bO hn r a0)]
  cases hg:bk w.B h with
  | false=>exact ⟨t,w,4,rfl,rfl, .same r tt _ _ _⟩
  | true =>
  have yh:bz w.B h:=⟨h0,hg⟩
  obtain ⟨l1,l2⟩:=dB yh
  have hpos:=g8 yh
  have e0:∀v:Bool,(((!true) == false) && v) = v:=fun v=>by cases v <;> rfl
  rw [e0,jl]
  cases ha:yW w.B a with
  | false=>exact ⟨t,w,4,rfl,rfl, .same r tt _ _ _⟩
  | true =>
  rw [ax (by rfl),ax (by rfl)]
  have Cz:=vu a0 ha
  obtain ⟨p1,p2⟩:=EA (n:=n) hn r tt yh Cz (bd (bF n h) fun fL =>
  gu (dH fL.1 32) <|
  lt ({ t with regions:=(er t.regions (Int.toNat fL.1) ({ (t.regions (Int.toNat fL.1)) with Up:=a })) }:aq) fun gA =>
  some (gA,0))
  have hR:∃b,(b = true↔a ≠ 0∧jB w (bN h) (bN a))∧∀(F:Bool→Option (ag × Int)),(cl (((a != 0) == true) && ((a == h) == false)) (bK n w h a) default fun dx=>F ((a != 0) && ((a == h) || dx))) = F b:=by
    rcases Cz with e | e
    · subst e
      exact ⟨false,by simp,fun F=>rfl⟩
    · have hp:=g8 e
      obtain ⟨b,b1,b2⟩:=xo (n:=n) hn r tt yh e
      obtain ⟨m1,m2⟩:=dB e
      refine ⟨(a == h) || b,?_,fun F=>?_⟩
      · rw [Bool.or_eq_true,beq_iff_eq,b2,jB.iff m1 m2]
        constructor
        · rintro (q | q)
          · exact ⟨by omega, .inl (by rw [q])⟩
          · exact ⟨by omega, .inr q⟩
        · rintro ⟨_,q | q⟩
          · exact .inl (by rw [← eM e,← eM yh,q])
          · exact .inr q
      · have e1:(a != 0) = true:=by simp; omega
        rw [c9 b1,e1]
        cases a == h <;> rfl
  obtain ⟨b,b1,b2⟩:=hR
  rw [b2 (fun v=>cn v (some (w,12)) (bd (bC n w.B h) fun bJ =>
  gu (dH bJ 32) <|
  lt ({ w with R:=(er w.R (Int.toNat bJ) ({ (w.R (Int.toNat bJ)) with Up:=a })) }:ag) fun eX =>
  some (eX,0)))]
  cases b with
  | true=>exact ⟨t,w,12,p1 (b1.1 rfl),rfl, .same r tt _ _ _⟩
  | false =>
  have Mw:¬ (a ≠ 0∧jB w (bN h) (bN a)):=fun q=>by have:=b1.2 q; cases this
  rw [p2 Mw]
  rw [av (kG h0 h1),ax rfl,av (de hn r.book h0),hg,if_pos rfl]
  refine ⟨⟨t.book,er t.regions (bN h) { t.regions (bN h) with Up:=a }⟩,⟨w.B,er w.R (bN h) { w.R (bN h) with Up:=a }⟩,0,?_,?_,?_⟩
  · rw [aD (fO h)]; rfl
  · rw [aD (fO h)]; rfl
  refine ⟨⟨r.book,fun i hi hs=>?_,fun i hi hs=>?_,fun i hi hs=>?_⟩,?_,fun g zF hne=>?_⟩
  · dsimp only
    rw [cr,cr]
    by_cases e:i = bN h
    · rw [if_pos e,if_pos e]; exact (r.Cj _ l1 l2).FF _ _
    · rw [if_neg e,if_neg e]; exact r.Cj i hi hs
  · dsimp only
    simp only [cr]
    by_cases e:i = bN h
    · rw [if_pos e,if_pos e]
      show a = wm w.B a
      rcases Cz with q | q
      · subst q; rfl
      · unfold wm; rw [if_pos q.2]
    · rw [if_neg e,if_neg e]; exact r.up i hi hs
  · dsimp only
    simp only [cr]
    by_cases e:i = bN h
    · rw [if_pos e]; exact Cz.imp _root_.id r7
    · rw [if_neg e]; exact r.old i hi hs
  · obtain ⟨ρ,hρ⟩:=tt
    obtain ⟨f,f1,f2⟩ : ∃f:Nat→Nat,(∀i,jB w (bN h) i→f i = ρ i + ρ (bN a) + 1)∧∀i,¬ jB w (bN h) i→f i = ρ i:=by
      classical
      exact ⟨fun i=>if jB w (bN h) i then ρ i + ρ (bN a) + 1 else ρ i,fun i q=>if_pos q,fun i q=>if_neg q⟩
    refine ⟨f,fun i hi hs hu=>?_⟩
    have hU:(er w.R (bN h) { w.R (bN h) with Up:=a } i).Up = if i = bN h then a else (w.R i).Up:=by
      rw [cr]; split <;> rfl
    dsimp only at hu hs ⊢
    rw [hU] at hu ⊢
    by_cases e:i = bN h
    · rw [if_pos e] at hu ⊢
      rw [f2 _ (fun q=>Mw ⟨hu,q⟩),e,f1 _ .self]
      omega
    · rw [if_neg e] at hu ⊢
      have h2:=hρ i hi hs hu
      have h3:=jB.iff (s:=bN h) hi hs
      by_cases q:jB w (bN h) (bN (w.R i).Up)
      · rw [f1 _ q,f1 _ (h3.2 (.inr ⟨hu,q⟩))]; omega
      · rw [f2 _ q,f2 _ (fun c=>(h3.1 c).elim e fun c=>q c.2)]; exact h2
  · have zv:bN g ≠ bN h:=fun e=>hne ⟨by rw [← eM zF,← eM yh,e],rfl⟩
    refine ⟨zF,?_,?_,?_, .inl ?_⟩
    all_goals (dsimp only; rw [iM _ _ zv])
end Go.Proofs.Ytmdpbdhkmfjlhaa
namespace Go.Proofs.Ytmdpbdhkmfjlhaa
open Go Go.Bw
theorem wB {n:Nat} (hn:40 ≤ n) {t:aq} {w:ag} (r:fF t w):fj n w = some (cz w.B 32):=by
  unfold fj
  refine eV (fun (l:List Int) (x:Int)=>∃k:Nat,x = k∧k ≤ 32∧l = cz w.B k) (fun _ (x:Int)=>(32 - x).toNat) (fun o=>o = some (cz w.B 32)) ?_ n [] 0 ⟨0,rfl,by omega,rfl⟩ (by omega)
  rintro kk l x ⟨k,rfl,hk,rfl⟩ ih
  by_cases hc:k < 32
  · rw [aK (by simp; omega),aD (cD (by omega) (by omega))]
    have hr:=r.book.iK k hc
    by_cases e:w.B.Is k = 1
    · rw [aK (by simpa using e),av (m9 (by omega) (by omega) hr.1 hr.2),aD (ko (by have:=fx w.B k; omega) (by have:=fx w.B k; omega)),lt_eq,bT (by omega) (by omega)]
      exact ih _ _ ⟨k + 1,by omega,by omega,by simp [cz,e]⟩ (by omega)
    · rw [ax (by simpa using e),bT (by omega) (by omega)]
      exact ih _ _ ⟨k + 1,by omega,by omega,by simp [cz,e]⟩ (by omega)
  · rw [ax (by simp; omega)]
    obtain rfl:k = 32:=by omega
    rfl
theorem Ip {n:Nat} (hn:40 ≤ n) {t:aq} {w:ag} (r:fF t w):fM n t.book = some (cz w.B 32):=by
  unfold fM; rw [av (xB hn r.book)]
theorem gU {α:Type} [Inhabited α] {l:List α} {i:Nat} (h:i < l.length):l.getD i default ∈ l:=by
  rw [List.getD,List.getElem?_eq_getElem h]; exact List.getElem_mem _
theorem FH {n:Nat} (hn:100 ≤ n) {t:aq} {w:ag} (r:fF t w):j3 n t w = some true:=by
  unfold j3
  rw [av (Ip (by omega) r),av (wB (by omega) r),ax (by simp)]
  have hlen:=fx w.B 32
  have hmem:=bV r.book
  refine fR (fun (i:Int)=>0 ≤ i∧i ≤ (cz w.B 32).length) (fun i=>((cz w.B 32).length - i).toNat) (fun o=>o = some true) ?_ n 0 ⟨by omega,by omega⟩ (by omega)
  rintro kk i ⟨i0,i1⟩ ih
  by_cases c:i < (cz w.B 32).length
  · have g1:dH i (cz w.B 32).length = true:=cD i0 c
    have hg:=(hmem _).1 (gU (l:=cz w.B 32) (i:=i.toNat) (by omega))
    generalize (cz w.B 32).getD i.toNat default = x at *
    have hl:=eN hg.2
    have hp:=hg.1
    obtain ⟨l1,l2⟩:=dB hg
    have hR:=r.Cj _ l1 l2
    have e1:(x != x) = false:=by simp
    rw [aK (by simpa using c),aD g1,aD g1,bT (x:=x) (by omega) (by omega),e1,g1,aD (by rfl),c9 (j8 r.book hp hl),hg.2,ax (by rfl),aD (b:=true) rfl,av (oe r hp hl),if_pos hg.2,aD (b:=true) rfl,av (nH (by omega) r hg)]
    dsimp only
    have hu:0 ≤ (w.R (bN x)).Up∧(w.R (bN x)).Up < 4294967296:=by
      rcases r.C1 hg with h | h
      · rw [h]; decide
      · exact ⟨h.1,eN h.2⟩
    have Oc:(kQ t w x).Up = (w.R (bN x)).Up:=rfl
    have Ob:(kQ t w x).bP = (w.R (bN x)).bP:=hR.q
    have Mn:(kQ t w x).E = ⟨(w.R (bN x)).E.aU.map lQ,(w.R (bN x)).E.nD⟩:=hR.e
    have Oa:∀i,i < 8→(kQ t w x).Cells i = (w.R (bN x)).Cells i:=hR.c
    rw [Oc,Ob,bT (x:=(w.R (bN x)).Up) (by omega) (by omega),c9 (xj (by omega) (by have:=hR.n; omega) (by rw [Mn]) (by rw [Mn])),ax (by simp)]
    refine fR (fun (j:Int)=>0 ≤ j∧j ≤ 8) (fun j=>(8 - j).toNat) (fun o=>o = some true) ?_ n 0 ⟨by omega,by omega⟩ (by omega)
    rintro k2 j ⟨j0,j1⟩ Gi
    by_cases cj:j < 8
    · have h4:=Oa j.toNat (by omega)
      have h5:=hR.c0 j.toNat (by omega)
      rw [aK (by simpa using cj),aD (cD j0 (by omega)),aD (cD j0 (by omega)),h4,bT (x:=(w.R (bN x)).Cells j.toNat) (by omega) (by omega),ax (by simp),bT (by omega) (by omega)]
      exact Gi _ ⟨by omega,by omega⟩ (by omega)
    · rw [ax (by simpa using cj),bT (by omega) (by omega)]
      exact ih _ ⟨by omega,by omega⟩ (by omega)
  · rw [ax (by simpa using c)]
end Go.Proofs.Ytmdpbdhkmfjlhaa
namespace Go.Proofs.Ytmdpbdhkmfjlhaa
open Go Go.Bw
theorem uj {i:Nat} (h:eT.B.Is i = 1):False:=absurd (show (0:Int) = 1 from h) (by decide)
theorem Cb:fF eS eT∧iJ eT:=
  ⟨⟨⟨fun i _=>rfl,fun i _=>rfl,fun i _=>rfl,fun i _=>.inl rfl,fun i _=>⟨Int.le_refl 0,show (0:Int) ≤ 8388607 by decide⟩⟩,fun i _ h=>(uj h).elim,fun i _ h=>(uj h).elim,fun i _ h=>(uj h).elim⟩,fun _=>0,fun i _ h=>(uj h).elim⟩
end Go.Proofs.Ytmdpbdhkmfjlhaa
