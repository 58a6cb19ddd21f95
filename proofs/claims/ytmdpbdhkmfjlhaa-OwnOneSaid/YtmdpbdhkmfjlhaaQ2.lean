/- Part 2 of what a proof leans on; pruned and shortened by a program out of longer texts. -/
import Derived.Test.YtmdpbdhkmfjlhaaQ1
namespace Go.Proofs.Ytmdpbdhkmfjlhaa
open Go Go.Bw
structure gp where
 gen:Int
 g6:Bool
 retired:Bool
abbrev bg:bf gp:=bf.via (LP (LI .u32) (LP LB LB)) (fun x=>(x.gen,x.g6,x.retired))
abbrev mK:gp:=⟨0,false,false⟩
theorem fq:aF bg (LI .u32) 0 (fun x=>x.gen) (fun x v=>{ x with gen:=v }):=(aF.fst aF.id).via _ _ _ 0 rfl (fun _=>rfl) (fun _ _=>rfl)
theorem fm:aF bg LB 1 (fun x=>x.g6) (fun x v=>{ x with g6:=v }):=(aF.snd (aF.fst aF.id)).via _ _ _ 1 rfl (fun _=>rfl) (fun _ _=>rfl)
theorem iU:aF bg LB 2 (fun x=>x.retired) (fun x v=>{ x with retired:=v }):=(aF.snd (aF.snd aF.id)).via _ _ _ 2 rfl (fun _=>rfl) (fun _ _=>rfl)
def j9 (x y:gp):Bool:=x.gen == y.gen && x.g6 == y.g6 && x.retired == y.retired
theorem oR (x y:gp):Value.bool (qw [(0,some .u32),(1,none),(2,none)] (bg.enc x) (bg.enc y)) = .bool (j9 x y):=congrArg Value.bool (by show ((x.gen == y.gen) && ((x.g6 == y.g6) && ((x.retired == y.retired) && true))) = (x.gen == y.gen && x.g6 == y.g6 && x.retired == y.retired); simp [Bool.and_assoc])
structure aV where
 slots:(Nat→gp)
abbrev ax:bf aV:=bf.via (LA bg 32) (fun x=>x.slots)
abbrev fX:aV:=⟨(fun _=>mK)⟩
theorem bV:aF ax (LA bg 32) 0 (fun x=>x.slots) (fun x v=>{ x with slots:=v }):=aF.id.via _ _ _ 0 rfl (fun _=>rfl) (fun _ _=>rfl)
def jS (n:Nat) (a0:Int) (a1:Int):Option Int:=
 some (wr .u32 ((wr .u32 ((wK .u32 a1 8) + (wr .u32 a0))) + 1))
theorem oF {n a0 a1 r}  (h:jS n a0 a1 = some r):xN Try.prog 151 [.int .i64 a0, .int .u32 a1] (.int .u32 r):=by
 unfold jS at h
 refine eV Try.func151 (by kernel_rfl) rfl Try.ntmps151 rfl (fun cx cQ hpre hro=>?_)
 refine SC 8 rf ?_
 refine aq rfl (wg rfl rfl (by decide)) ?_
 refine SL 8 rf ?_
 have h:=sj h; subst h
 exact RV rf (rt rf rn) rf
def bk (n:Nat) (a0:Int):Option (Int × Bool):=
 cn (((decide ((wr .i64 ((wr .i64 (lK .u32 a0 255)) - 1)) < 0) || decide (32 ≤ (wr .i64 ((wr .i64 (lK .u32 a0 255)) - 1)))) || decide (8388607 < (uD .u32 a0 8)))) (
 some (0,false)) (
 some (wr .i64 ((wr .i64 (lK .u32 a0 255)) - 1),true))
theorem bO {n a0 r}  (h:bk n a0 = some r):xN Try.prog 101 [.int .u32 a0] (.tuple #[.int .i64 r.1, .bool r.2]):=by
 unfold bk at h
 refine eV Try.func101 (by kernel_rfl) rfl Try.ntmps101 rfl (fun cx cQ hpre hro=>?_)
 refine SC 9 rf ?_
 refine aq rfl (oZ rfl rfl) ?_
 refine SL 11 rf ?_
 refine GB rf rf rf (fun hb=>ay rfl) ?_
 refine GB rf rf rf (fun hb=>nh (bN rfl hb) rfl) ?_
 refine aq rfl (ga rfl rfl) ?_
 refine aq rfl (ay rfl) ?_
 refine GB rf rf rf (fun hb=>ay rfl) ?_
 refine GB rf rf rf (fun hb=>we (bN rfl hb) rfl (by decide)) ?_
 refine GB rf rf rf (fun hb=>sG (bN rfl hb) rfl) ?_
 refine aq rfl (ga rfl rfl) ?_
 refine SL 2 rf ?_
 refine fz h rf (fun hc h=>?_) fun hc h=>?_
 ·
  refine SC 8 rf ?_
  have h:=sj h; subst h
  exact RV rf (rt rf (rt rf rn)) rf
 ·
  refine SC 10 rf ?_
  have h:=sj h; subst h
  exact RV rf (rt rf (rt rf rn)) rf
def aJ (n:Nat) (a0:aV) (a1:Int):Option Bool:=
 bd (bk n a1) fun aQ =>
 gu (!(aQ.2 == true) || dj aQ.1 32) <|
 lt ({ gen:=uD .u32 a1 8,g6:=true,retired:=false }:gp) fun gN =>
 some (aQ.2 && (j9 (a0.slots (Int.toNat aQ.1)) gN))
theorem aT {n a0 a1 r}  (h:aJ n a0 a1 = some r):xN Try.prog 44 [.agg (ax.enc a0).toArray, .int .u32 a1] (.bool r):=by
 unfold aJ at h
 refine eV Try.func44 (by kernel_rfl) rfl Try.ntmps44 rfl (fun cx cQ hpre hro=>?_)
 refine SC 2 rf ?_
 refine W1 rf (ct ax a0 rfl rfl) fun b2=>?_
 obtain ⟨aQ,cv,h⟩:=bp h
 refine SL 6 rf ?_
 refine CV (bO cv) rf rf ?_
 obtain ⟨pR,h⟩:=dO h
 obtain ⟨gN,kZ,h⟩:=cN h
 refine SL 11 rf ?_
 refine GB rf rf rf (fun hb=>ay rfl) ?_
 refine GB rf rf rf (fun hb=>aN rfl) ?_
 refine GB rf rf rf (fun hb=>hY (m:=(Int.toNat aQ.1)) (bN rfl hb) (bN rfl hb) (aC (jH pR hb)).1 (aC (jH pR hb)).2) ?_
 refine GB rf rf rf (fun hb=>aU (M:=bg) (bV.c0 (aF.idx (L:=bg) (m:=32) (k:=3) ((Int.toNat aQ.1)) (aC (jH pR hb)).2 rfl)) (bN rfl hb) rfl) ?_
 refine GB rf rf rf (fun hb=>ay rfl) ?_
 refine GB rf rf rf (fun hb=>we (bN rfl hb) rfl (by decide)) ?_
 refine GB rf rf rf (fun hb=>eD (cs:=bg.enc gN) (aP (bN rfl hb) (aP rfl rfl)) (by rw [kZ]; rfl)) ?_
 refine GB rf rf rf (fun hb=>og (sI (cs:=bg.enc (a0.slots (Int.toNat aQ.1))) (ds:=bg.enc gN) (bN rfl hb) (bN rfl hb) rfl rfl) (oR _ _)) ?_
 refine aq rfl (cA rfl rfl) ?_
 refine SL 4 rf ?_
 have h:=sj h; subst h
 exact RV rf (rt rf rn) rf
def gq (n:Nat) (a0:aV) (a1:Int):Option (Int × Bool):=
 gu (!((decide (a1 < 0) || decide (32 ≤ a1)) == false) || dj a1 32) <|
 cn (((decide (a1 < 0) || decide (32 ≤ a1)) || (!((a0.slots (Int.toNat a1)).g6)))) (
 some (0,false)) (
 gu (dj a1 32) <|
 bd (jS n a1 ((a0.slots (Int.toNat a1)).gen)) fun gN =>
 some (gN,true))
theorem oc {n a0 a1 r}  (h:gq n a0 a1 = some r):xN Try.prog 152 [.agg (ax.enc a0).toArray, .int .i64 a1] (.tuple #[.int .u32 r.1, .bool r.2]):=by
 unfold gq at h
 refine eV Try.func152 (by kernel_rfl) rfl Try.ntmps152 rfl (fun cx cQ hpre hro=>?_)
 refine SC 2 rf ?_
 refine W1 rf (ct ax a0 rfl rfl) fun b2=>?_
 obtain ⟨tP,h⟩:=dO h
 refine SL 10 rf ?_
 refine GB rf rf rf (fun hb=>ay rfl) ?_
 refine GB rf rf rf (fun hb=>nh (bN rfl hb) rfl) ?_
 refine aq rfl (ga rfl rfl) ?_
 refine aq rfl (ay rfl) ?_
 refine GB rf rf rf (fun hb=>ay rfl) ?_
 refine GB rf rf rf (fun hb=>aN rfl) ?_
 refine GB rf rf rf (fun hb=>hY (m:=(Int.toNat a1)) (bN rfl hb) (bN rfl hb) (aC (jH tP hb)).1 (aC (jH tP hb)).2) ?_
 refine GB rf rf rf (fun hb=>iL (bN rfl hb)) ?_
 refine GB rf rf rf (fun hb=>ng ((bV.c0 (aF.idx (L:=bg) (m:=32) (k:=3) ((Int.toNat a1)) (aC (jH tP hb)).2 rfl)).comp fm) (bN rfl hb)) ?_
 refine GB rf rf rf (fun hb=>j7 (bN rfl hb)) ?_
 refine aq rfl (ga rfl rfl) ?_
 refine SL 2 rf ?_
 refine fz h rf (fun hc h=>?_) fun hc h=>?_
 ·
  refine SC 8 rf ?_
  have h:=sj h; subst h
  exact RV rf (rt rf (rt rf rn)) rf
 ·
  obtain ⟨pR,h⟩:=dO h
  obtain ⟨gN,kZ,h⟩:=bp h
  refine SC 7 rf ?_
  refine aq rfl (hY (m:=(Int.toNat a1)) rfl rfl (aC pR).1 (aC pR).2) ?_
  refine aq rfl (iL rfl) ?_
  refine aq rfl (aR ((bV.c0 (aF.idx (L:=bg) (m:=32) (k:=3) ((Int.toNat a1)) (aC pR).2 rfl)).comp fq) rfl) ?_
  refine CV (oF kZ) rf rf ?_
  refine SL 5 rf ?_
  have h:=sj h; subst h
  exact RV rf (rt rf (rt rf rn)) rf
def dY (n:Nat) (a0:aV):Option (aV × Int × Bool):=
 dW (fun uN (bT:Int) =>
 cn (decide (bT < 32)) (
 gu (dj bT 32) <|
 lt ((a0.slots (Int.toNat bT)):gp) fun c9 =>
 cn ((c9.g6 || c9.retired)) (
 uN (wr .i64 (bT + 1))) (
 gu (dj bT 32) <|
 lt ({ a0 with slots:=(dX a0.slots (Int.toNat bT) ({ (a0.slots (Int.toNat bT)) with g6:=true })) }:aV) fun eK =>
 bd (jS n bT c9.gen) fun bW =>
 some (eK,bW,true))) (
 some (a0,0,false))) n 0
theorem mE {n a0 r}  (h:dY n a0 = some r):xN Try.prog 106 [.agg (ax.enc a0).toArray] (.tuple #[.agg (ax.enc r.1).toArray, .int .u32 r.2.1, .bool r.2.2]):=by
 unfold dY at h
 refine eV Try.func106 (by kernel_rfl) rfl Try.ntmps106 rfl (fun cx cQ hpre hro=>?_)
 refine SC 2 rf ?_
 refine W1 rf (ct ax a0 rfl rfl) fun b1=>?_
 refine W1 rf (bj (L:=ax) (z:=fX) ⟨by kernel_rfl⟩) fun b2=>?_
 refine SL 8 rf ?_
 refine aq rfl (aU (M:=(LA bg 32)) bV rfl rfl) ?_
 refine SL 4 rf ?_
 obtain ⟨yx,tL,h⟩:=oz h
 refine LO (β:=Int) [1,2,8] [0,1] (fun (tG,bT)=>[(9, .int .i64 bT)]) (fun (tG,bT)=>[.cells b2 66 (ax.enc fX), .cells b1 66 (ax.enc a0)]) (fun (tG,bT)=>dW yx tG bT = some r) (n,0) h rf rf rf ?_
 rintro tG bT h
 replace h:=oy tL h; obtain ⟨tG,rfl,h⟩:=h
 refine SC 6 rf ?_
 refine fz h rf (fun hc h=>?_) fun hc h=>?_
 ·
  obtain ⟨pP,h⟩:=dO h
  obtain ⟨c9,mX,h⟩:=cN h
  refine SC 7 rf ?_
  refine aq rfl (DJ (L:=bg) (m:=(Int.toNat bT)) rfl rfl (aC pP).1 (aC pP).2 rfl rfl) ?_
  refine W1 rf (bj (L:=bg) (z:=mK) ⟨by kernel_rfl⟩) fun b6=>?_
  refine aq rfl (cO rfl) ?_
  refine W0 (bA (M:=bg) (aF.id (L:=bg)) (a0.slots (Int.toNat bT)) c9 mX rfl rfl rfl rfl) ?_
  refine SL 6 rf ?_
  refine aq rfl (ng fm rfl) ?_
  refine aq rfl (ay rfl) ?_
  refine GB rf rf rf (fun hb=>aN rfl) ?_
  refine GB rf rf rf (fun hb=>ng iU (bN rfl hb)) ?_
  refine aq rfl (ga rfl rfl) ?_
  refine SL 2 rf ?_
  refine fz h rf (fun hc h=>?_) fun hc h=>?_
  ·
   refine SC 8 rf ?_
   exact LN [1,2] (wr .i64 (bT + 1)) h rf rf rf
  ·
   obtain ⟨u5,h⟩:=dO h
   obtain ⟨eK,uU,h⟩:=cN h
   refine SC 6 rf ?_
   refine aq rfl (hY (m:=(Int.toNat bT)) rfl rfl (aC u5).1 (aC u5).2) ?_
   refine aq rfl (iL rfl) ?_
   refine W0 (bA (M:=LB) ((bV.c0 (aF.idx (L:=bg) (m:=32) (k:=3) ((Int.toNat bT)) (aC u5).2 rfl)).comp fm) true eK uU rfl rfl rfl rfl) ?_
   refine SL 3 rf ?_
   obtain ⟨bW,uT,h⟩:=bp h
   refine ec mixed (.lq [] [(0,[1]),(1,[5]),(2,[6]),(3,[25]),(4,[24,26])] (.alt 5 [2,23] (.lq [] [] (.alt 6 [27] (.lq [] [] (.alt 7 [] (.fin [] []) .no)) .no)) .no)) (by kernel_rfl) ?_
   refine T0 ?_
   refine NV rf rf (aU (M:=ax) (aF.id (L:=ax)) rfl rfl) ?_
   refine NS 2 rf ?_
   refine NV rf rf (aR fq rfl) ?_
   refine NC rf rf (oF uT) rf ?_
   refine dH ?_
   refine X0 rf (bA (M:=ax) (aF.id (L:=ax)) eK eK rfl rfl rfl rfl rfl) ?_
   refine Kz ?_
   refine XV rf rf (cO rfl) ?_
   refine Kz ?_
   refine XV rf rf (cO rfl) ?_
   refine sW ?_
   refine SX 7 rf ?_
   have h:=sj h; subst h
   exact RV rf (ra rf (aY _ _) (rt rf (rt rf rn))) rf
 ·
  refine SC 7 rf ?_
  refine aq rfl (aU (M:=ax) (aF.id (L:=ax)) rfl rfl) ?_
  refine W0 (bA (M:=ax) (aF.id (L:=ax)) a0 a0 rfl rfl rfl rfl rfl) ?_
  refine SL 5 rf ?_
  have h:=sj h; subst h
  exact RV rf (ra rf (aY _ _) (rt rf (rt rf rn))) rf
def fK (n:Nat) (a0:aV) (a1:Int):Option (aV × Bool):=
 bd (aJ n a0 a1) fun aQ =>
 cn ((!aQ)) (
 some (a0,false)) (
 bd (bk n a1) fun bT =>
 gu (dj bT.1 32) <|
 lt ({ a0 with slots:=(dX a0.slots (Int.toNat bT.1) ({ (a0.slots (Int.toNat bT.1)) with g6:=false })) }:aV) fun ju =>
 cn ((((ju.slots (Int.toNat bT.1)).gen) == 8388607)) (
 lt ({ ju with slots:=(dX ju.slots (Int.toNat bT.1) ({ (ju.slots (Int.toNat bT.1)) with retired:=true })) }:aV) fun nk =>
 some (nk,true)) (
 lt ({ ju with slots:=(dX ju.slots (Int.toNat bT.1) ({ (ju.slots (Int.toNat bT.1)) with gen:=wr .u32 (((ju.slots (Int.toNat bT.1)).gen) + 1) })) }:aV) fun dz =>
 some (dz,true)))
theorem nf {n a0 a1 r}  (h:fK n a0 a1 = some r):xN Try.prog 100 [.agg (ax.enc a0).toArray, .int .u32 a1] (.tuple #[.agg (ax.enc r.1).toArray, .bool r.2]):=by
 unfold fK at h
 refine eV Try.func100 (by kernel_rfl) rfl Try.ntmps100 rfl (fun cx cQ hpre hro=>?_)
 refine SC 2 rf ?_
 refine W1 rf (ct ax a0 rfl rfl) fun b2=>?_
 refine W1 rf (bj (L:=ax) (z:=fX) ⟨by kernel_rfl⟩) fun b4=>?_
 obtain ⟨aQ,cv,h⟩:=bp h
 refine SL 6 rf ?_
 refine aq rfl (aU (M:=ax) (aF.id (L:=ax)) rfl rfl) ?_
 refine aq rfl (ay rfl) ?_
 refine CV (aT cv) rf rf ?_
 refine SL 3 rf ?_
 refine fz h rf (fun hc h=>?_) fun hc h=>?_
 ·
  refine SC 2 rf ?_
  refine aq rfl (aU (M:=ax) (aF.id (L:=ax)) rfl rfl) ?_
  refine W0 (bA (M:=ax) (aF.id (L:=ax)) a0 a0 rfl rfl rfl rfl rfl) ?_
  refine SL 5 rf ?_
  have h:=sj h; subst h
  exact RV rf (ra rf (aY _ _) (rt rf rn)) rf
 ·
  obtain ⟨bT,iD,h⟩:=bp h
  refine SC 5 rf ?_
  refine CV (bO iD) rf rf ?_
  obtain ⟨pQ,h⟩:=dO h
  refine SL 11 rf ?_
  refine aq rfl (hY (m:=(Int.toNat bT.1)) rfl rfl (aC pQ).1 (aC pQ).2) ?_
  obtain ⟨ju,rU,h⟩:=cN h
  refine SL 8 rf ?_
  refine W0 (bA (M:=LB) ((bV.c0 (aF.idx (L:=bg) (m:=32) (k:=3) ((Int.toNat bT.1)) (aC pQ).2 rfl)).comp fm) false ju rU rfl rfl rfl rfl) ?_
  refine SL 8 rf ?_
  refine aq rfl (aR ((bV.c0 (aF.idx (L:=bg) (m:=32) (k:=3) ((Int.toNat bT.1)) (aC pQ).2 rfl)).comp fq) rfl) ?_
  refine SL 3 rf ?_
  refine fz h rf (fun hc h=>?_) fun hc h=>?_
  ·
   obtain ⟨nk,pJ,h⟩:=cN h
   refine SC 4 rf ?_
   refine W0 (bA (M:=LB) ((bV.c0 (aF.idx (L:=bg) (m:=32) (k:=3) ((Int.toNat bT.1)) (aC pQ).2 rfl)).comp iU) true nk pJ rfl rfl rfl rfl) ?_
   refine SL 4 rf ?_
   refine aq rfl (aU (M:=ax) (aF.id (L:=ax)) rfl rfl) ?_
   refine W0 (bA (M:=ax) (aF.id (L:=ax)) nk nk rfl rfl rfl rfl rfl) ?_
   refine SL 4 rf ?_
   have h:=sj h; subst h
   exact RV rf (ra rf (aY _ _) (rt rf rn)) rf
  ·
   obtain ⟨dz,nZ,h⟩:=cN h
   refine SC 4 rf ?_
   refine aq rfl (aR ((bV.c0 (aF.idx (L:=bg) (m:=32) (k:=3) ((Int.toNat bT.1)) (aC pQ).2 rfl)).comp fq) rfl) ?_
   refine SL 3 rf ?_
   refine W0 (bA (M:=(LI .u32)) ((bV.c0 (aF.idx (L:=bg) (m:=32) (k:=3) ((Int.toNat bT.1)) (aC pQ).2 rfl)).comp fq) (wr .u32 (((ju.slots (Int.toNat bT.1)).gen) + 1)) dz nZ rfl rfl rfl rfl) ?_
   refine SL 4 rf ?_
   refine aq rfl (aU (M:=ax) (aF.id (L:=ax)) rfl rfl) ?_
   refine W0 (bA (M:=ax) (aF.id (L:=ax)) dz dz rfl rfl rfl rfl rfl) ?_
   refine SL 4 rf ?_
   have h:=sj h; subst h
   exact RV rf (ra rf (aY _ _) (rt rf rn)) rf
def eP (n:Nat) (a0:aV):Option (List Int):=
 di (fun yy (c9:(List Int)) (bW:Int) =>
 cn (decide (bW < 32)) (
 bd (gq n a0 bW) fun cR =>
 cn (cR.2) (
 gu (jP c9.length 1 4) <|
 lt (c9++([cR.1]):List Int) fun ij =>
 yy ij (wr .i64 (bW + 1))) (
 yy c9 (wr .i64 (bW + 1)))) (
 some c9)) n ([]) 0
theorem mb {n a0 r}  (h:eP n a0 = some r):Bw.Fn (α:=Value) Try.prog 107 [.agg (ax.enc a0).toArray] (fun _=>True) [] (fun v=>ke v r.length) (fun v=>v) (fun v=>[Row v 69 1 (LI .u32) r]):=by
 unfold eP at h
 refine eV Try.func107 (by kernel_rfl) rfl Try.ntmps107 rfl (fun cx cQ hpre hro=>?_)
 refine SC 2 rf ?_
 refine W1 rf (ct ax a0 rfl rfl) fun b1=>?_
 refine SL 15 rf ?_
 refine nG 69 1 (LI .u32) ?_
 obtain ⟨Cs,yP,h⟩:=ox h
 refine LO (β:=(List Int) × Int × Value) [1] [0,1] (fun (m32,c9,bW,zK)=>[(3,zK),(7, .int .i64 bW)]) (fun (m32,c9,bW,zK)=>[Row zK 69 1 (LI .u32) c9, .cells b1 66 (ax.enc a0)]) (fun (m32,c9,bW,zK)=>ke zK c9.length∧di Cs m32 c9 bW = some r) (n,[],0, .slice none 0 0) ⟨⟨_,_,rfl⟩,h⟩ rf rf rf ?_
 rintro m32 ⟨c9,bW,zK⟩ ⟨n3,h⟩
 replace h:=ow yP h; obtain ⟨m32,rfl,h⟩:=h
 refine SC 6 rf ?_
 refine fz h rf (fun hc h=>?_) fun hc h=>?_
 ·
  obtain ⟨cR,pI,h⟩:=bp h
  refine SC 12 rf ?_
  refine aq rfl (aU (M:=ax) (aF.id (L:=ax)) rfl rfl) ?_
  refine aq rfl (ay rfl) ?_
  refine CV (oc pI) rf rf ?_
  refine SL 12 rf ?_
  refine fz h rf (fun hc h=>?_) fun hc h=>?_
  ·
   obtain ⟨n5,h⟩:=dO h
   obtain ⟨ij,l7,h⟩:=cN h
   refine SC 3 rf ?_
   refine eu rfl (lf (LI .u32) cR.1 rfl rfl rfl rfl (by decide) (by decide)) (fun NQ _=>?_)
   refine eu rfl (kz (sz:=1) (L:=(LI .u32)) (xs:=c9) (y:=cR.1) (bytes:=4) rfl rfl rfl (fZ n5).1 (fZ n5).2) (fun Ca qv=>?_)
   rw [← l7] at qv; rw [← l7]
   refine SL 8 rf ?_
   exact LN [1,2] (ij,wr .i64 (bW + 1),Ca) ⟨qv,h⟩ rf rf rf
  ·
   refine SC 7 rf ?_
   exact LN [0,1] (c9,wr .i64 (bW + 1),zK) ⟨n3,h⟩ rf rf rf
 ·
  refine SC 12 rf ?_
  have h:=sj h; subst h
  exact cY zK rfl (.tmp rfl .nil) n3 rfl (ks:=[0]) rfl (by decide)
end Go.Proofs.Ytmdpbdhkmfjlhaa
namespace Go.Proofs.Ytmdpbdhkmfjlhaa
open Go Go.Bw
structure az where
 gD:(Nat→Int)
 Is:(Nat→Int)
abbrev sx:az:=⟨(fun _=>0),(fun _=>0)⟩
def gR (n:Nat) (a0:az) (a1:Int):Option Int:=
 gu (dj a1 32) <|
 some (wr .i64 ((wr .i64 (a1 + (wr .i64 (256 * (a0.gD (Int.toNat a1)))))) + 1))
def bD (n:Nat) (a0:az) (a1:Int):Option Int:=
 dW (fun uN (bT:Int) =>
 cn (decide (bT < 32)) (
 gu (dj bT 32) <|
 cl (((a0.Is (Int.toNat bT)) == 1) == true) (gR n a0 bT) default fun c9 =>
 cn ((((a0.Is (Int.toNat bT)) == 1) && (c9 == a1))) (
 some bT) (
 uN (wr .i64 (bT + 1)))) (
 some (-1))) n 0
def gY (n:Nat) (a0:az) (a1:Int):Option (az × Bool):=
 bd (bD n a0 a1) fun aQ =>
 cn (decide (aQ < 0)) (
 some (a0,false)) (
 gu (dj aQ 32) <|
 lt ({ a0 with Is:=(dX a0.Is (Int.toNat aQ) 0) }:az) fun gN =>
 gu (dj aQ 32) <|
 cn (((gN.gD (Int.toNat aQ)) == 8388607)) (
 gu (dj aQ 32) <|
 lt ({ gN with Is:=(dX gN.Is (Int.toNat aQ) 2) }:az) fun dz =>
 some (dz,true)) (
 gu (dj aQ 32) <|
 gu (dj aQ 32) <|
 lt ({ gN with gD:=(dX gN.gD (Int.toNat aQ) (wr .i64 ((gN.gD (Int.toNat aQ)) + 1))) }:az) fun eK =>
 some (eK,true)))
def gG (n:Nat) (a0:az):Option (az × Int):=
 dW (fun uN (bT:Int) =>
 cn (decide (bT < 32)) (
 gu (dj bT 32) <|
 cn (((a0.Is (Int.toNat bT)) == 0)) (
 gu (dj bT 32) <|
 lt ({ a0 with Is:=(dX a0.Is (Int.toNat bT) 1) }:az) fun eE =>
 bd (gR n eE bT) fun eK =>
 some (eE,eK)) (
 uN (wr .i64 (bT + 1)))) (
 some (a0,0))) n 0
end Go.Proofs.Ytmdpbdhkmfjlhaa
namespace Go.Proofs.Ytmdpbdhkmfjlhaa
open Go Go.Bw
end Go.Proofs.Ytmdpbdhkmfjlhaa
namespace Go.Proofs.Ytmdpbdhkmfjlhaa
open Go Go.Bw
end Go.Proofs.Ytmdpbdhkmfjlhaa
namespace Go.Bw
open Go
theorem bP {x:Int} (h1:-9223372036854775808 ≤ x) (h2:x ≤ 9223372036854775807):wr .i64 x = x:=IntWalk.i64_in x ⟨h1,h2⟩
theorem HT {x:Int} (h1:0 ≤ x) (h2:x ≤ 255):wr .u8 x = x:=IntWalk.u8_in x ⟨h1,h2⟩
theorem sZ {x:Int} (h1:0 ≤ x) (h2:x ≤ 4294967295):wr .u32 x = x:=IntWalk.u32_in x ⟨h1,h2⟩
theorem tZ {k:IntKind} {a:Nat} (h:a < 2 ^ k.bits):(BitVec.ofInt k.bits (a:Int)).toNat = a:=by
  rw [BitVec.toNat_ofInt]
  have:((a:Int) % ((2 ^ k.bits:Nat):Int)) = ((a % 2 ^ k.bits:Nat):Int):=(Int.natCast_emod _ _).symm
  rw [this,Nat.mod_eq_of_lt h]; rfl
theorem B8 {k:IntKind} {r:Nat} (h:r < 2 ^ IntKind.up k):wr k (r:Int) = r:=zU h
theorem v9 (k:IntKind) {r:Nat} (h:r < 2 ^ IntKind.up k):r < 2 ^ k.bits:=Nat.lt_of_lt_of_le h (Nat.pow_le_pow_right (by decide) (A3 k))
theorem zi {k:IntKind} {a b:Nat} (ha:a < 2 ^ IntKind.up k) (hb:b < 2 ^ IntKind.up k):lK k a b = ((a &&& b:Nat):Int):=by
  unfold lK
  rw [BitVec.toNat_and,tZ (v9 k ha),tZ (v9 k hb)]
  exact B8 (Nat.lt_of_le_of_lt Nat.and_le_left ha)
theorem zj {k:IntKind} {a:Int} (m:Nat) {b:Int} (h0:0 ≤ a) (ha:a < ((2 ^ IntKind.up k:Nat):Int)) (hb:b = ((2 ^ m - 1:Nat):Int)) (hm:2 ^ m - 1 < 2 ^ IntKind.up k):lK k a b = a % ((2 ^ m:Nat):Int):=by
  obtain ⟨x,rfl⟩:=Int.eq_ofNat_of_zero_le h0
  subst hb
  rw [zi (by exact_mod_cast ha) hm,Nat.and_two_pow_sub_one_eq_mod]
  exact Int.natCast_emod _ _
theorem tc {k:IntKind} {a:Int} (m:Nat) {b:Int} (hb:b = (m:Int)) (hm:m ≤ k.bits):uD k a b = a / ((2 ^ m:Nat):Int):=by
  subst hb
  unfold uD
  rw [Int.toNat_natCast,Nat.min_eq_left hm,Int.fdiv_eq_ediv_of_nonneg _ (Int.pow_nonneg (by decide))]
  congr 1
theorem x4 {k:IntKind} {a:Int} (m:Nat) {b:Int} (hb:b = (m:Int)) (hm:m ≤ k.bits):wK k a b = wr k (a * ((2 ^ m:Nat):Int)):=by
  subst hb
  unfold wK wr
  rw [Int.toNat_natCast,Nat.min_eq_left hm]
  congr 2
theorem cC {i:Int} {n:Nat} (h0:0 ≤ i) (h1:i < (n:Int)):dj i n = true:=by simp [dj,h0,h1]
theorem jC {n m b:Nat} (h:(n + m) * b ≤ 140737488355328) (h2:n + m ≤ 9223372036854775807):jP n m b = true:=by simp [jP,h,h2]
theorem lQ {α:Type} (f:Nat→α) (i:Nat) (v:α):dX f i v i = v:=by simp [dX]
theorem iq {α:Type} (f:Nat→α) {i j:Nat} (v:α) (h:j ≠ i):dX f i v j = f j:=by simp [dX,h]
theorem bX {α:Type} (f:Nat→α) (i j:Nat) (v:α):dX f i v j = if j = i then v else f j:=rfl
section
variable {α ρ:Type}
theorem au {m:Option α} {x:α} {f:α→Option ρ} (h:m = some x):bd m f = f x:=by subst h; rfl
theorem lt_eq (a:α) (f:α→Option ρ):lt a f = f a:=rfl
theorem aB {b:Bool} {k:Option ρ} (h:b = true):gu b k = k:=by subst h; rfl
theorem aA {b:Bool} {x y:Option ρ} (h:b = true):cn b x y = x:=by subst h; rfl
theorem ak {b:Bool} {x y:Option ρ} (h:b = false):cn b x y = y:=by subst h; rfl
theorem nx {g:Bool} {m:Option α} {z x:α} {f:α→Option ρ} (h:g = true) (hm:m = some x):cl g m z f = f x:=by subst h; subst hm; rfl
theorem pW {g:Bool} {m:Option α} {z:α} {f:α→Option ρ} (h:g = false):cl g m z f = f z:=by subst h; rfl
theorem cy {g:Bool} {m:Option α} {z x:α} {f:α→Option ρ} (hm:m = some x):cl g m z f = f (bif g then x else z):=by subst hm; cases g <;> rfl
end
end Go.Bw
namespace Go.Proofs.Ytmdpbdhkmfjlhaa
open Go Go.Bw
def fJ (i g:Int):Int:=i + 256 * g + 1
theorem nt {n:Nat} {i g:Int} (h0:0 ≤ i) (h1:i < 32) (g0:0 ≤ g) (g1:g ≤ 8388607):jS n i g = some (fJ i g):=by
  unfold jS fJ
  rw [x4 (b:=8) 8 rfl (by decide),sZ (x:=g * _) (by omega) (by omega),sZ (x:=i) (by omega) (by omega),sZ (x:=g * _ + i) (by omega) (by omega),sZ (by omega) (by omega)]
  congr 1; omega
theorem nT {n:Nat} {w:az} {i:Int} (h0:0 ≤ i) (h1:i < 32) (g0:0 ≤ w.gD i.toNat) (g1:w.gD i.toNat ≤ 8388607):gR n w i = some (fJ i (w.gD i.toNat)):=by
  unfold gR fJ
  rw [aB (cC h0 (by omega)),bP (x:=256 * _) (by omega) (by omega),bP (x:=i + _) (by omega) (by omega),bP (by omega) (by omega)]
def sV (h:Int):Bool:=decide (1 ≤ h % 256∧h % 256 ≤ 32∧h / 256 ≤ 8388607)
def gC (h:Int):Int:=if sV h then h % 256 - 1 else 0
theorem de (h:Int):0 ≤ gC h∧gC h < 32:=by
  unfold gC sV
  split
  · rename_i h1; simp at h1; omega
  · omega
theorem iu {n:Nat} {h:Int} (h0:0 ≤ h) (h1:h < 4294967296):bk n h = some (gC h,sV h):=by
  unfold bk
  have e1:lK .u32 h 255 = h % 256:=zj 8 h0 (by simpa [IntKind.up,IntKind.signed,IntKind.bits] using h1) rfl (by decide)
  have e2:uD .u32 h 8 = h / 256:=tc 8 rfl (by decide)
  rw [e1,e2,bP (x:=h % 256) (by omega) (by omega),bP (x:=h % 256 - 1) (by omega) (by omega)]
  by_cases hb:sV h = true
  · have hb':=hb
    simp only [sV,decide_eq_true_eq] at hb'
    rw [ak (by simp; omega)]
    simp [gC,hb]
  · have hb':=hb
    simp only [sV,decide_eq_true_eq] at hb'
    rw [aA (by simp; omega)]
    simp [gC,hb]
structure RB (b:aV) (w:az):Prop where
  gen:∀i,i < 32→(b.slots i).gen = w.gD i
  BH:∀i,i < 32→(b.slots i).g6 = (w.Is i == 1)
  ret:∀i,i < 32→(b.slots i).retired = (w.Is i == 2)
  BB:∀i,i < 32→w.Is i = 0∨w.Is i = 1∨w.Is i = 2
  ic:∀i,i < 32→0 ≤ w.gD i∧w.gD i ≤ 8388607
theorem v5 {n:Nat} {b:aV} {w:az} (r:RB b w) {h:Int} (h0:0 ≤ h) (h1:h < 4294967296) :
    aJ n b h = some (sV h && (w.Is (gC h).toNat == 1) && (w.gD (gC h).toNat == h / 256)):=by
  unfold aJ
  obtain ⟨hs0,CO⟩:=de h
  rw [au (iu h0 h1),aB (by rw [cC hs0 (by simpa using CO)]; simp)]
  simp only [lt]
  have hi:(gC h).toNat < 32:=by omega
  have e2:uD .u32 h 8 = h / 256:=tc 8 rfl (by decide)
  rw [e2]
  simp only [j9,r.gen _ hi,r.BH _ hi,r.ret _ hi]
  have hk:=r.BB _ hi
  congr 1
  rcases hk with hk | hk | hk <;> simp [hk,Bool.and_comm,Bool.and_left_comm,Bool.and_assoc]
theorem n4 {h:Int} (h0:0 ≤ h) (hb:sV h = true):fJ (gC h) (h / 256) = h:=by
  have hb':=hb
  simp only [sV,decide_eq_true_eq] at hb'
  simp only [gC,hb,if_true,fJ]; omega
theorem kY {i g:Int} (h0:0 ≤ i) (h1:i < 32) (g0:0 ≤ g) (g1:g ≤ 8388607):sV (fJ i g) = true∧gC (fJ i g) = i∧fJ i g / 256 = g∧0 < fJ i g∧fJ i g < 4294967296:=by
  have e:sV (fJ i g) = true:=decide_eq_true (by unfold fJ; omega)
  refine ⟨e,?_,?_,?_,?_⟩
  · unfold gC; rw [if_pos e]; unfold fJ; omega
  all_goals (unfold fJ; omega)
def aX (w:az) (h:Int):Bool:=sV h && (w.Is (gC h).toNat == 1) && (w.gD (gC h).toNat == h / 256)
theorem cS {n:Nat} (hn:40 ≤ n) {b:aV} {w:az} (r:RB b w) {h:Int} (h0:0 ≤ h):bD n w h = some (if aX w h then gC h else -1):=by
  unfold bD
  refine gJ (fun x=>0 ≤ x∧x ≤ 32∧(aX w h = true→x ≤ gC h)) (fun x=>(32 - x).toNat) (fun o=>o = some (if aX w h then gC h else -1)) ?_ n 0 ⟨by omega,by omega,fun _=>(de h).1⟩ (by omega)
  rintro k x ⟨x0,x1,hx⟩ ih
  obtain ⟨s0,s1⟩:=de h
  by_cases hc:x < 32
  · rw [aA (by simpa using hc),aB (cC x0 (by omega))]
    have hg:=r.ic x.toNat (by omega)
    rw [cy (nT x0 hc hg.1 hg.2)]
    by_cases he:(w.Is x.toNat == 1 && fJ x (w.gD x.toNat) == h) = true
    · have he':=he
      simp only [Bool.and_eq_true,beq_iff_eq] at he'
      obtain ⟨e1,e2⟩:=he'
      rw [aA (by simp [e1,e2])]
      obtain ⟨q1,q2,q3,q4,q5⟩:=kY x0 hc hg.1 hg.2
      rw [e2] at q1 q2 q3
      have:aX w h = true:=by simp [aX,q1,q2,q3,e1]
      simp [this,q2]
    · rw [ak (by
        cases h1:(w.Is x.toNat == 1) with
        | false=>simp
        | true=>simpa [h1] using he),bP (by omega) (by omega)]
      refine ih _ ⟨by omega,by omega,fun BO=>?_⟩ (by omega)
      have h2:=hx BO
      have:x ≠ gC h:=by
        rintro rfl
        refine he ?_
        simp only [aX,Bool.and_eq_true,beq_iff_eq] at BO
        simp [BO.1.2,BO.2,n4 h0 BO.1.1]
      omega
  · rw [ak (by simpa using hc)]
    have:aX w h = false:=by
      cases Mu:aX w h with
      | false=>rfl
      | true=>have:=hx Mu; omega
    simp [this]
def jF (w:az) (h:Int):az:=
  if w.gD (gC h).toNat = 8388607 then { w with Is:=dX w.Is (gC h).toNat 2 } else { gD:=dX w.gD (gC h).toNat (w.gD (gC h).toNat + 1),Is:=dX w.Is (gC h).toNat 0 }
theorem rG {α:Type} (G:Nat→α) (i:Nat) (a b:α):dX (dX G i a) i b = dX G i b:=by
  funext q; unfold dX; split <;> rfl
theorem uG {n:Nat} (hn:40 ≤ n) {b:aV} {w:az} (r:RB b w) {h:Int} (h0:0 ≤ h):gY n w h = some (if aX w h then jF w h else w,aX w h):=by
  unfold gY
  obtain ⟨s0,s1⟩:=de h
  rw [au (cS hn r h0)]
  cases hg:aX w h with
  | false=>rfl
  | true =>
    have hr:=r.ic (gC h).toNat (by omega)
    simp only [if_true]
    rw [ak (by simpa using s0),aB (cC s0 (by simpa using s1))]
    simp only [lt,aB (cC s0 (show gC h < ((32:Nat):Int) by simpa using s1))]
    unfold jF
    by_cases hl:w.gD (gC h).toNat = 8388607
    · rw [aA (by simpa using hl)]; simp [hl,rG]
    · rw [ak (by simpa using hl),bP (by omega) (by omega)]; simp [hl]
theorem zV {n:Nat} {b:aV} {w:az} (r:RB b w) {h:Int} (h0:0 ≤ h) (h1:h < 4294967296) :
    ∃b',fK n b h = some (b',aX w h)∧RB b' (if aX w h then jF w h else w):=by
  unfold fK
  obtain ⟨s0,s1⟩:=de h
  have hi:(gC h).toNat < 32:=by omega
  rw [au (v5 r h0 h1)]
  show ∃b',cn (!aX w h) _ _ = _∧_
  cases hg:aX w h with
  | false=>exact ⟨b,rfl,r⟩
  | true =>
    rw [ak (b:=!true) rfl,au (iu h0 h1),aB (cC s0 (by simpa using s1))]
    simp only [lt]
    have JE:=r.gen _ hi
    have hr:=r.ic _ hi
    have JB:w.Is (gC h).toNat = 1:=by simp only [aX,Bool.and_eq_true,beq_iff_eq] at hg; exact hg.1.2
    have Me:(b.slots (gC h).toNat).retired = false:=by rw [r.ret _ hi,JB]; rfl
    simp only [lQ,JE,rG]
    unfold jF
    by_cases hl:w.gD (gC h).toNat = 8388607
    · rw [aA (by simpa using hl)]
      refine ⟨_,rfl,?_⟩
      simp only [if_true,hl]
      refine ⟨?_,?_,?_,?_,?_⟩ <;> intro i xG <;> by_cases e:i = (gC h).toNat
      all_goals (try subst e)
      all_goals simp [bX, *,r.gen,r.BH,r.ret,r.BB,r.ic]
      all_goals (first | exact (r.BB i xG) | exact r.ic i xG)
    · rw [ak (by simpa using hl),sZ (by omega) (by omega)]
      refine ⟨_,rfl,?_⟩
      simp only [if_true,if_neg hl]
      refine ⟨?_,?_,?_,?_,?_⟩ <;> intro i xG <;> by_cases e:i = (gC h).toNat
      all_goals (try subst e)
      all_goals simp [bX, *,r.gen,r.BH,r.ret,r.BB,r.ic]
      all_goals (first | exact (r.BB i xG) | exact r.ic i xG | omega)
def nN (w:az) (f:Nat):Prop:=f ≤ 32∧(∀j,j < f→w.Is j ≠ 0)∧(f < 32→w.Is f = 0)
theorem tT (w:az):∃f,nN w f:=by
  have key:∀k,k ≤ 32→(∃f,nN w f)∨(∀j,j < k→w.Is j ≠ 0):=by
    intro k
    induction k with
    | zero=>intro _; exact .inr (fun j hj=>absurd hj (Nat.not_lt_zero _))
    | succ k ih =>
      intro hk
      rcases ih (by omega) with h | h
      · exact .inl h
      · by_cases e:w.Is k = 0
        · exact .inl ⟨k,by omega,h,fun _=>e⟩
        · refine .inr (fun j hj=>?_)
          by_cases e2:j = k
          · subst e2; exact e
          · exact h j (by omega)
  rcases key 32 (Nat.le_refl _) with h | h
  · exact h
  · exact ⟨32,Nat.le_refl _,h,fun h=>absurd h (Nat.lt_irrefl _)⟩
def fY (w:az) (f:Nat):az:={ w with Is:=dX w.Is f 1 }
theorem ot {n:Nat} (hn:40 ≤ n) {b:aV} {w:az} (r:RB b w) {f:Nat} (hf:nN w f) :
    gG n w = some (if f < 32 then (fY w f,fJ f (w.gD f)) else (w,0)):=by
  unfold gG
  obtain ⟨f1,f2,f3⟩:=hf
  refine gJ (fun x=>0 ≤ x∧x ≤ (f:Int)) (fun x=>(32 - x).toNat) (fun o=>o = some (if f < 32 then (fY w f,fJ f (w.gD f)) else (w,0))) ?_ n 0 ⟨by omega,by omega⟩ (by omega)
  rintro k x ⟨x0,x1⟩ ih
  by_cases hc:x < 32
  · rw [aA (by simpa using hc),aB (cC x0 (by omega))]
    by_cases he:w.Is x.toNat = 0
    · have e:x = (f:Int):=by
        rcases Int.lt_or_lt_of_ne (a:=x) (b:=f) |> fun h=>(Decidable.em (x = f)) with h | h
        · exact h
        · exact absurd he (f2 x.toNat (by omega))
      subst e
      simp only [Int.toNat_natCast] at he ⊢
      rw [aA (by simpa using he),aB (cC x0 (by omega)),lt_eq,au (nT (w:={ w with Is:=dX w.Is f 1 }) x0 hc (r.ic f (by omega)).1 (r.ic f (by omega)).2),if_pos (by omega)]
      rfl
    · rw [ak (by simpa using he),bP (by omega) (by omega)]
      refine ih _ ⟨by omega,?_⟩ (by omega)
      rcases Decidable.em (x = f) with h | h
      · subst h; exact absurd (f3 (by omega)) (by simpa using he)
      · omega
  · rw [ak (by simpa using hc),if_neg (by omega)]
theorem tH {n:Nat} (hn:40 ≤ n) {b:aV} {w:az} (r:RB b w) {f:Nat} (hf:nN w f) :
    ∃b',dY n b = some (b',if f < 32 then fJ f (w.gD f) else 0,decide (f < 32))∧RB b' (if f < 32 then fY w f else w):=by
  unfold dY
  obtain ⟨f1,f2,f3⟩:=hf
  refine gJ (fun x=>0 ≤ x∧x ≤ (f:Int)) (fun x=>(32 - x).toNat) (fun o=>∃b',o = some (b',if f < 32 then fJ f (w.gD f) else 0,decide (f < 32))∧RB b' (if f < 32 then fY w f else w)) ?_ n 0 ⟨by omega,by omega⟩ (by omega)
  rintro k x ⟨x0,x1⟩ ih
  by_cases hc:x < 32
  · have hi:x.toNat < 32:=by omega
    rw [aA (by simpa using hc),aB (cC x0 (by omega)),lt_eq]
    by_cases he:w.Is x.toNat = 0
    · have e:x = (f:Int):=by
        rcases Decidable.em (x = f) with h | h
        · exact h
        · exact absurd he (f2 x.toNat (by omega))
      subst e
      simp only [Int.toNat_natCast] at he hi ⊢
      rw [ak (by simp [r.BH f hi,r.ret f hi,he]),aB (cC x0 (by omega)),lt_eq,au (nt x0 hc (by rw [r.gen f hi]; exact (r.ic f hi).1) (by rw [r.gen f hi]; exact (r.ic f hi).2)),if_pos hi,if_pos hi]
      refine ⟨_,by rw [r.gen f hi,decide_eq_true hi],?_⟩
      refine ⟨?_,?_,?_,?_,?_⟩ <;> intro i xG <;> by_cases e:i = f
      all_goals (try subst e)
      all_goals simp [fY,bX, *,r.gen,r.BH,r.ret,r.BB,r.ic]
      all_goals (first | exact (r.BB i xG) | exact r.ic i xG | (rw [r.ret _ xG,he]; rfl))
    · rw [aA (by
        rcases r.BB _ hi with h | h | h
        · exact absurd h he
        · simp [r.BH _ hi,h]
        · simp [r.ret _ hi,h]),bP (by omega) (by omega)]
      refine ih _ ⟨by omega,?_⟩ (by omega)
      rcases Decidable.em (x = f) with h | h
      · subst h; exact absurd (f3 (by omega)) (by simpa using he)
      · omega
  · rw [ak (by simpa using hc),if_neg (by omega),if_neg (by omega)]
    exact ⟨b,by rw [decide_eq_false (by omega)],r⟩
theorem G0 {n:Nat} {b:aV} {w:az} (r:RB b w) {i:Int} (h0:0 ≤ i) (h1:i < 32):gq n b i = some (if w.Is i.toNat = 1 then fJ i (w.gD i.toNat) else 0,w.Is i.toNat == 1):=by
  have hi:i.toNat < 32:=by omega
  unfold gq
  rw [aB (by rw [cC h0 (by omega)]; simp)]
  by_cases e:w.Is i.toNat = 1
  · rw [ak (by simp [r.BH _ hi,e]; omega),aB (cC h0 (by omega)),au (nt h0 h1 (by rw [r.gen _ hi]; exact (r.ic _ hi).1) (by rw [r.gen _ hi]; exact (r.ic _ hi).2)),r.gen _ hi]
    simp [e]
  · rw [aA (by simp [r.BH _ hi,e])]
    simp [e]
def bB (w:az):Nat→List Int
  | 0=>[]
  | k + 1=>bB w k++(if w.Is k = 1 then [fJ k (w.gD k)] else [])
theorem ff (w:az) (k:Nat):(bB w k).length ≤ k:=by
  induction k with
  | zero=>simp [bB]
  | succ k ih=>simp only [bB,List.length_append]; split <;> simp <;> omega
theorem wV {n:Nat} (hn:40 ≤ n) {b:aV} {w:az} (r:RB b w):eP n b = some (bB w 32):=by
  unfold eP
  refine dN (fun (l:List Int) (x:Int)=>∃k:Nat,x = k∧k ≤ 32∧l = bB w k) (fun _ (x:Int)=>(32 - x).toNat) (fun o=>o = some (bB w 32)) ?_ n [] 0 ⟨0,rfl,by omega,rfl⟩ (by omega)
  rintro kk l x ⟨k,rfl,hk,rfl⟩ ih
  by_cases hc:k < 32
  · rw [aA (by simp; omega),au (G0 r (by omega) (by omega))]
    simp only [Int.toNat_natCast]
    by_cases e:w.Is k = 1
    · rw [aA (by simpa using e),aB (jC (by have:=ff w k; omega) (by have:=ff w k; omega)),lt_eq,bP (by omega) (by omega)]
      exact ih _ _ ⟨k + 1,by omega,by omega,by simp [bB,e]⟩ (by omega)
    · rw [ak (by simpa using e),bP (by omega) (by omega)]
      exact ih _ _ ⟨k + 1,by omega,by omega,by simp [bB,e]⟩ (by omega)
  · rw [ak (by simp; omega)]
    obtain rfl:k = 32:=by omega
    rfl
end Go.Proofs.Ytmdpbdhkmfjlhaa
namespace Go.Proofs.Ytmdpbdhkmfjlhaa
open Go Go.Bw
def bh (w:az) (h:Int):Prop:=0 ≤ h∧aX w h = true
theorem fL {w:az} {h:Int}:aX w h = true↔sV h = true∧w.Is (gC h).toNat = 1∧w.gD (gC h).toNat = h / 256:=by
  unfold aX
  rw [Bool.and_eq_true,Bool.and_eq_true,beq_iff_eq,beq_iff_eq,and_assoc]
theorem x3 {h:Int} (hb:sV h = true):h < 4294967296:=by
  unfold sV at hb
  simp only [decide_eq_true_eq] at hb; omega
theorem l6 {b:aV} {w:az} (r:RB b w):∀(k:Nat),k ≤ 32→∀x,x ∈ bB w k↔bh w x∧gC x < k
  | 0,_,x=>⟨fun h=>(by cases h),fun h=>absurd h.2 (by have:=(de x).1; omega)⟩
  | k + 1,hk,x=>by
    have ih:=l6 r k (by omega) x
    have hr:=r.ic k (by omega)
    obtain ⟨q1,q2,q3,q4,q5⟩:=kY (i:=k) (g:=w.gD k) (by omega) (by omega) hr.1 hr.2
    have hx:=de x
    rw [bB,List.mem_append,ih]
    constructor
    · rintro (h | h)
      · exact ⟨h.1,by omega⟩
      · split at h
        · rename_i hi
          have e:=List.mem_singleton.1 h
          subst e
          exact ⟨⟨by omega,fL.2 ⟨q1,by rw [q2]; exact hi,by rw [q2,q3]; rfl⟩⟩,by omega⟩
        · cases h
    · rintro ⟨h1,h2⟩
      by_cases e:gC x < k
      · exact .inl ⟨h1,e⟩
      · have e1:gC x = k:=by omega
        obtain ⟨g1,g2,g3⟩:=fL.1 h1.2
        have e2:(gC x).toNat = k:=by omega
        rw [e2] at g2 g3
        refine .inr ?_
        rw [if_pos g2,List.mem_singleton,g3,← e1,n4 h1.1 g1]
theorem mW {b:aV} {w:az} (r:RB b w):∀(k:Nat),k ≤ 32→(bB w k).Nodup
  | 0,_=>List.nodup_nil
  | k + 1,hk=>by
    rw [bB,List.nodup_append]
    refine ⟨mW r k (by omega),by split <;> simp,fun a ha c hc e=>?_⟩
    split at hc
    · have e1:=List.mem_singleton.1 hc
      have hr:=r.ic k (by omega)
      obtain ⟨q1,q2,q3,q4,q5⟩:=kY (i:=k) (g:=w.gD k) (by omega) (by omega) hr.1 hr.2
      have:=((l6 r k (by omega) a).1 ha).2
      rw [e,e1,q2] at this
      omega
    · cases hc
theorem bJ {b:aV} {w:az} (r:RB b w) (x:Int):x ∈ bB w 32↔bh w x:=by
  rw [l6 r 32 (Nat.le_refl _)]
  have:=de x
  exact ⟨fun h=>h.1,fun h=>⟨h,by omega⟩⟩
def jZ (w:az) (h:Int):Prop:=0 ≤ h∧sV h = true∧(h / 256 < w.gD (gC h).toNat∨(h / 256 = w.gD (gC h).toNat∧w.Is (gC h).toNat ≠ 0))
theorem g7 {b:aV} {w:az} (r:RB b w) {f:Nat} (hf:nN w f) (hl:f < 32) (x:Int):bh (fY w f) x↔bh w x∨x = fJ f (w.gD f):=by
  have hr:=r.ic f hl
  obtain ⟨q1,q2,q3,q4,q5⟩:=kY (i:=f) (g:=w.gD f) (by omega) (by omega) hr.1 hr.2
  have hx:=de x
  unfold bh
  rw [fL,fL]
  show 0 ≤ x∧sV x = true∧dX w.Is f 1 (gC x).toNat = 1∧w.gD (gC x).toNat = x / 256↔_
  rw [bX]
  by_cases e:(gC x).toNat = f
  · rw [if_pos e,e]
    constructor
    · rintro ⟨h1,h2,_,h4⟩
      refine .inr ?_
      have:=n4 h1 h2
      rw [← this,h4]
      congr 1; omega
    · rintro (⟨h1,h2,h3,h4⟩ | h)
      · exact absurd (hf.2.2 hl) (by omega)
      · subst h; exact ⟨by omega,q1,rfl,by rw [q3]⟩
  · rw [if_neg e]
    refine ⟨fun h=>.inl h,fun h=>h.elim _root_.id fun h=>?_⟩
    subst h
    exact absurd (by rw [q2]; rfl) e
theorem mT {w:az} {f:Nat} (x:Int) (h:jZ w x):jZ (fY w f) x:=by
  obtain ⟨h1,h2,h3⟩:=h
  refine ⟨h1,h2,?_⟩
  show x / 256 < w.gD (gC x).toNat∨(x / 256 = w.gD (gC x).toNat∧dX w.Is f 1 (gC x).toNat ≠ 0)
  rw [bX]
  split
  · exact h3.imp _root_.id fun h=>⟨h.1,by omega⟩
  · exact h3
theorem tp {b:aV} {w:az} (r:RB b w) {f:Nat} (hf:nN w f) (hl:f < 32):¬ jZ w (fJ f (w.gD f)):=by
  have hr:=r.ic f hl
  obtain ⟨q1,q2,q3,q4,q5⟩:=kY (i:=f) (g:=w.gD f) (by omega) (by omega) hr.1 hr.2
  rintro ⟨_,_,h⟩
  rw [q2,q3] at h
  have:=hf.2.2 hl
  rcases h with h | h
  · exact absurd h (by simp)
  · exact h.2 this
theorem xd {b:aV} {w:az} (r:RB b w) {h:Int} (h0:0 ≤ h) (x:Int):bh (if aX w h then jF w h else w) x↔bh w x∧x ≠ h:=by
  cases hg:aX w h with
  | false =>
    refine ⟨fun hx=>⟨hx,fun e=>?_⟩,fun hx=>hx.1⟩
    subst e
    have h2:aX w x = true:=hx.2
    rw [h2] at hg; cases hg
  | true =>
    rw [if_pos rfl]
    obtain ⟨g1,g2,g3⟩:=fL.1 hg
    have hr:=r.ic (gC h).toNat (by have:=de h; omega)
    have hx:=de x
    have hh:=de h
    have key:∀w',jF w h = w'→(∀j,j ≠ (gC h).toNat→w'.Is j = w.Is j∧w'.gD j = w.gD j)→w'.Is (gC h).toNat ≠ 1→(bh w' x↔bh w x∧x ≠ h):=by
      intro w' _ k1 k2
      unfold bh
      rw [fL,fL]
      by_cases e:(gC x).toNat = (gC h).toNat
      · constructor
        · rintro ⟨_,_,h3,_⟩; rw [e] at h3; exact absurd h3 k2
        · rintro ⟨⟨h1,h2,h3,h4⟩,h5⟩
          refine absurd ?_ h5
          rw [← n4 h1 h2,← n4 h0 g1,← h4,← g3,e]
          congr 1; omega
      · rw [(k1 _ e).1,(k1 _ e).2]
        exact ⟨fun hx=>⟨hx,fun e2=>e (by rw [e2])⟩,fun hx=>hx.1⟩
    refine key _ rfl (fun j hj=>?_) ?_
    · unfold jF
      split
      · exact ⟨iq _ _ hj,rfl⟩
      · exact ⟨iq _ _ hj,iq _ _ hj⟩
    · unfold jF
      split
      · show dX w.Is _ 2 _ ≠ 1; rw [lQ]; decide
      · show dX w.Is _ 0 _ ≠ 1; rw [lQ]; decide
theorem qT {w:az} {h:Int} (x:Int) (hp:jZ w x):jZ (if aX w h then jF w h else w) x:=by
  cases hg:aX w h with
  | false=>exact hp
  | true =>
    rw [if_pos rfl]
    obtain ⟨h1,h2,h3⟩:=hp
    refine ⟨h1,h2,?_⟩
    unfold jF
    split
    · show x / 256 < w.gD (gC x).toNat∨(x / 256 = w.gD (gC x).toNat∧dX w.Is (gC h).toNat 2 (gC x).toNat ≠ 0)
      rw [bX]
      split
      · exact h3.imp _root_.id fun h=>⟨h.1,by decide⟩
      · exact h3
    · show x / 256 < dX w.gD (gC h).toNat _ (gC x).toNat∨(x / 256 = dX w.gD (gC h).toNat _ (gC x).toNat∧dX w.Is (gC h).toNat 0 (gC x).toNat ≠ 0)
      rw [bX,bX]
      split
      · rename_i e
        rw [e] at h3
        left; omega
      · exact h3
end Go.Proofs.Ytmdpbdhkmfjlhaa
namespace Go.Bw
open Go
theorem rH:∀(t u:List Int),t.Nodup→(∀x ∈ t,x ∈ u)→t.length ≤ u.length
  | [],u,_,_=>Nat.zero_le _
  | x::t,u,hn,hs=>by
    rw [List.nodup_cons] at hn
    have hx:=hs x (by simp)
    have:=rH t (u.erase x) hn.2 fun y hy=>(List.mem_erase_of_ne (fun e=>hn.1 (by rw [← e]; exact hy))).2 (hs y (by simp [hy]))
    rw [List.length_erase_of_mem hx] at this
    have h0:0 < u.length:=List.length_pos_of_mem hx
    rw [List.length_cons]; omega
theorem x6 {t u:List Int} (ht:t.Nodup) (hu:u.Nodup) (h:∀x,x ∈ t↔x ∈ u):t.length = u.length:=
  Nat.le_antisymm (rH t u ht fun x hx=>(h x).1 hx) (rH u t hu fun x hx=>(h x).2 hx)
section
variable {β:Type}
theorem qW (l:List (Int × β)) (k:Int) (v:β):(qq l k v).map Prod.fst = if k ∈ l.map Prod.fst then l.map Prod.fst else l.map Prod.fst++[k]:=by
  induction l with
  | nil=>simp [qq]
  | cons p r ih =>
    unfold qq
    by_cases h:k = p.1
    · subst h; simp
    · have:(k == p.1) = false:=by simpa using h
      rw [this,cond_false,List.map_cons,ih]
      by_cases h2:k ∈ r.map Prod.fst
      · rw [if_pos h2,if_pos (by simp [h2])]; rfl
      · rw [if_neg h2,if_neg (by rw [List.map_cons,List.mem_cons]; exact fun hh=>hh.elim h h2)]; rfl
theorem Aj {l:List (Int × β)} {k:Int} {z:β} (h:k ∉ l.map Prod.fst):yp l k z = z:=by
  have:mH l k = none:=by
    induction l with
    | nil=>rfl
    | cons p r ih =>
      rw [List.map_cons,List.mem_cons,not_or] at h
      unfold mH
      have e:(k == p.1) = false:=by simpa using h.1
      rw [e,cond_false,ih h.2]; rfl
  unfold yp; rw [this]; rfl
theorem yo {l:List (Int × β)} {k:Int} {z:β} (h:k ∈ l.map Prod.fst):(k,yp l k z) ∈ l:=by
  unfold yp
  cases hm:mH l k with
  | some q =>
    have:=qX (j:=q.1) (y:=q.2) hm
    exact List.mem_of_getElem? this
  | none =>
    exfalso
    induction l with
    | nil=>simp at h
    | cons p r ih =>
      unfold mH at hm
      by_cases e:k = p.1
      · have:(k == p.1) = true:=by simpa using e
        rw [this] at hm; simp at hm
      · have e2:(k == p.1) = false:=by simpa using e
        rw [e2] at hm
        simp only [cond_false,Option.map_eq_none_iff] at hm
        rw [List.map_cons,List.mem_cons] at h
        exact ih (h.elim (fun hh=>absurd hh e) _root_.id) hm
theorem tC {l:List (Int × β)} (k:Int) (v:β) (h:(l.map Prod.fst).Nodup):((qq l k v).map Prod.fst).Nodup:=by
  rw [qW]
  split
  · exact h
  · rename_i hk
    rw [List.nodup_append]
    refine ⟨h,by simp,fun a ha b hb e=>hk ?_⟩
    have:b = k:=by simpa using hb
    rw [← this,← e]; exact ha
theorem rN {l:List (Int × β)} {k:Int} {v:β} {x:Int}:x ∈ (qq l k v).map Prod.fst↔x ∈ l.map Prod.fst∨x = k:=by
  rw [qW]
  split
  · rename_i h
    exact ⟨.inl,fun hh=>hh.elim _root_.id fun e=>e ▸ h⟩
  · simp
end
structure oP (l:List (Int × Bool)) (S:Int→Prop):Prop where
  nd:(l.map Prod.fst).Nodup
  tr:∀p ∈ l,p.2 = true
  mem:∀k,k ∈ l.map Prod.fst↔S k
theorem oP.nil:oP [] (fun _=>False):=⟨by simp,by simp,by simp⟩
theorem oP.get {l:List (Int × Bool)} {S:Int→Prop} (h:oP l S) (k:Int):yp l k false = true↔S k:=by
  rw [← h.mem k]
  by_cases hk:k ∈ l.map Prod.fst
  · exact ⟨fun _=>hk,fun _=>h.tr _ (yo hk)⟩
  · rw [Aj hk]; exact ⟨fun hh=>(by cases hh),fun hh=>absurd hh hk⟩
theorem Ch {l:List (Int × Bool)} {k:Int} (h:∀p ∈ l,p.2 = true):∀p ∈ qq l k true,p.2 = true:=by
  induction l with
  | nil=>intro p hp; rw [qq,List.mem_singleton] at hp; rw [hp]
  | cons q r ih =>
    intro p hp
    unfold qq at hp
    cases e:k == q.1 with
    | true =>
      rw [e,cond_true,List.mem_cons] at hp
      rcases hp with rfl | hp
      · rfl
      · exact h p (by simp [hp])
    | false =>
      rw [e,cond_false,List.mem_cons] at hp
      rcases hp with rfl | hp
      · exact h p (by simp)
      · exact ih (fun z hz=>h z (by simp [hz])) p hp
theorem oP.set {l:List (Int × Bool)} {S T:Int→Prop} (h:oP l S) {k:Int} (hT:∀x,T x↔S x∨x = k):oP (qq l k true) T:=
  ⟨tC k true h.nd,Ch h.tr,fun x=>by rw [rN,h.mem,hT]⟩
theorem oP.congr {l:List (Int × Bool)} {S T:Int→Prop} (h:oP l S) (hT:∀x,T x↔S x):oP l T:=⟨h.nd,h.tr,fun x=>by rw [h.mem,hT]⟩
theorem oP.len {l:List (Int × Bool)} {S:Int→Prop} (h:oP l S) {t:List Int} (ht:t.Nodup) (hm:∀x,x ∈ t↔S x):l.length = t.length:=by
  rw [← x6 h.nd ht fun x=>by rw [h.mem,hm],List.length_map]
end Go.Bw
namespace Go.Proofs.Ytmdpbdhkmfjlhaa
open Go Go.Bw
def bI (h:Int):Nat:=(gC h).toNat
theorem iw (h:Int):bI h < 32:=by have:=de h; unfold bI; omega
theorem z5 (h:Int):(bI h:Int) = gC h:=by have:=de h; unfold bI; omega
theorem mz {w:az} {h:Int} (hg:aX w h = true):sV h = true∧w.Is (bI h) = 1∧w.gD (bI h) = h / 256:=fL.1 hg
theorem jg {n:Nat} {b:aV} {w:az} (r:RB b w) {h:Int} (h0:0 ≤ h) (h1:h < 4294967296):aJ n b h = some (aX w h):=v5 r h0 h1
end Go.Proofs.Ytmdpbdhkmfjlhaa
namespace Go.Proofs.Ytmdpbdhkmfjlhaa
open Go Go.Bw
theorem eA {w:az} {x:Int} (h:bh w x):fJ (bI x) (w.gD (bI x)) = x:=by
  obtain ⟨g1,g2,g3⟩:=mz h.2
  rw [g3,z5,n4 h.1 g1]
end Go.Proofs.Ytmdpbdhkmfjlhaa
namespace Go.Proofs.Ytmdpbdhkmfjlhaa
open Go Go.Bw
def wF (w:az) (h:Int):az:=if aX w h = true then jF w h else w
theorem s4 {w:az} {h:Int} {i:Nat} (hi:i ≠ bI h):(jF w h).Is i = w.Is i∧(jF w h).gD i = w.gD i:=by
  unfold jF
  split
  · exact ⟨iq _ _ hi,rfl⟩
  · exact ⟨iq _ _ hi,iq _ _ hi⟩
theorem o8 (w:az) (h:Int):(jF w h).Is (bI h) ≠ 1:=by
  unfold jF
  split
  · show dX w.Is (bI h) 2 (bI h) ≠ 1; rw [lQ]; decide
  · show dX w.Is (bI h) 0 (bI h) ≠ 1; rw [lQ]; decide
theorem zW {w:az} {h:Int} {i:Nat} (hi:(wF w h).Is i = 1):w.Is i = 1∧(wF w h).gD i = w.gD i:=by
  unfold wF at *
  cases hg:aX w h with
  | false=>rw [hg] at hi; exact ⟨hi,by simp⟩
  | true =>
    rw [hg,if_pos rfl] at hi
    rw [if_pos rfl]
    by_cases e:i = bI h
    · subst e; exact absurd hi (o8 w h)
    · have:=s4 (w:=w) (h:=h) e
      exact ⟨by rw [← this.1]; exact hi,this.2⟩
theorem tj {n:Nat} (hn:40 ≤ n) {b:aV} {w:az} (r:RB b w) {h:Int} (h0:0 ≤ h):gY n w h = some (wF w h,aX w h):=uG hn r h0
def pV (p:Nat→Bool):Nat→Nat
  | 0=>0
  | k + 1=>pV p k + (if p k = true then 1 else 0)
theorem sd (p:Nat→Bool):∀k,pV p k ≤ k
  | 0=>Nat.le_refl _
  | k + 1=>by have:=sd p k; simp only [pV]; split <;> omega
theorem rh {p q:Nat→Bool} (h:∀i,p i = true→q i = true):∀k,pV p k ≤ pV q k
  | 0=>Nat.le_refl _
  | k + 1=>by
    have:=rh h k
    simp only [pV]
    by_cases e:p k = true
    · rw [if_pos e,if_pos (h k e)]; omega
    · rw [if_neg e]; omega
theorem nw {p q:Nat→Bool} (h:∀i,p i = true→q i = true) {c:Nat} (hp:p c = false) (hq:q c = true):∀k,c < k→pV p k < pV q k
  | 0,hc=>absurd hc (Nat.not_lt_zero _)
  | k + 1,hc=>by
    simp only [pV]
    by_cases e:c = k
    · subst e
      have:=rh h c
      rw [hp,hq]; simp; omega
    · have:=nw h hp hq k (by omega)
      by_cases e2:p k = true
      · rw [if_pos e2,if_pos (h k e2)]; omega
      · rw [if_neg e2]; omega
end Go.Proofs.Ytmdpbdhkmfjlhaa
namespace Go.Proofs.Ytmdpbdhkmfjlhaa
open Go Go.Bw
end Go.Proofs.Ytmdpbdhkmfjlhaa
namespace Go.Proofs.Ytmdpbdhkmfjlhaa
open Go Go.Bw
def zZ (ρ:Nat→Nat):Nat→Nat
  | 0=>0
  | k + 1=>zZ ρ k + ρ k
theorem vK (ρ:Nat→Nat) {j:Nat}:∀k,j < k→ρ j ≤ zZ ρ k
  | 0,h=>absurd h (Nat.not_lt_zero _)
  | k + 1,h=>by
    simp only [zZ]
    by_cases e:j = k
    · subst e; omega
    · have:=vK ρ (j:=j) k (by omega); omega
theorem n6 {w:az} {x:Int} (h:bh w x):jZ w x:=by
  obtain ⟨g1,g2,g3⟩:=mz h.2
  exact ⟨h.1,g1, .inr ⟨g3.symm,by show w.Is (bI x) ≠ 0; omega⟩⟩
end Go.Proofs.Ytmdpbdhkmfjlhaa
namespace Go.Proofs.Ytmdpbdhkmfjlhaa
open Go Go.Bw
section
end
end Go.Proofs.Ytmdpbdhkmfjlhaa
namespace Go.Bw
open Go Go.RowKit
structure B2 (P:Program) (gf:Nat) (caps:List Value) (Hc Ho:List aH) (K:World→Prop) (encs:Nat→List Value) (n:Nat):Prop where
  fn:∀(l:Nat) (J:Nat→List Nat→World→Prop) (Jx:List Nat→World→Prop) (bs:List Nat),
    Fn (α:=Bool × List Nat) P gf (.func (.yield l) #[] #[]::caps) (fun w=>wB (bs++bx Hc) K w∧B0 P l (bs++bx Hc) w J Jx encs n) (.ext bs (J 0 bs)::Hc)
      (fun _=>True) (fun _=>.tuple #[]) (fun x=>.ext x.2 (bif x.1 then J n x.2 else Jx x.2)::Ho)
theorem oe {P:Program} {N:Nat} {c:Cx} {D:List Deferred} {Q:Exit→Act→World→Prop} {F:cI} {H:List aH} {g:Operand} {ps:List Nat} {assign body:Code}
    {gf n:Nat} {caps:Array Value} {Hc Ho:List aH} {K:World→Prop} {encs:Nat→List Value} {α β:Type}
    (hro:c.ro = none) (hg:ev F g = some (.func (.func gf) #[] caps)) (hit:B2 P gf caps.toList Hc Ho K encs n) (hlen:∀k,(encs k).length = ps.length) (hps:ps.all (Nat.blt · N) = true)
    [JV:vD c [] K]
    (p:Nat→α→Prop) (I:Nat→α→List aH) (px:Code→β→Prop) (X:β→List aH) (i0:α) (AI:p 0 i0) {ks:List Nat} (hk:pick H ks = some (Hc++I 0 i0)) (hn:ks.Nodup)
    (hbody:∀(k:Nat) (i:α) (l dd:Nat) (rec:Loop) (c' : Cx),k < n→p k i→rec.state = .ready→rec.pending = none→c'.ro = some l→(∀w,aZ c'.bs c'.w0 w→aZ c.bs c.w0 w) →
      (∀b,(b ∈ c'.bs∨c'.w0.heap.size ≤ b)→(b ∈ c.bs∨c.w0.heap.size ≤ b)) →
      WP P N c' [] assign (vA P l body (vz c' (JW c.w0.heap.size c.bs (p (k + 1)) (fun i=>.obj dd (.deferred (some []))::.obj l (.loop rec)::I (k + 1) i))
        (JW c.w0.heap.size c.bs (fun q:Code × β=>px q.1 q.2) (fun q=>.obj dd (.deferred (some []))::.obj l (.loop { rec with state:=.done,pending:=some q.1 })::X q.2))))
        (oJ ps (encs k) F) (.obj dd (.deferred (some []))::.obj l (.loop rec)::I k i))
    (hdone:∀dd i,p n i→WQ N c (mark dd::D) Q .normal F (.obj dd (.deferred (some []))::(Ho++I n i)))
    (yQ:∀dd j i,px j i→WP P N c (mark dd::D) j Q F (.obj dd (.deferred (some []))::(Ho++X i))) :
    WP P N c D (.rangeFunc g ps.toArray assign body) Q F H:=fun a w hst=>by
  refine wpIn_rangeFunc fun fn _=>?_
  have mY:(FA c.ro).round = none:=hro
  rw [mY]
  obtain ⟨rec,lG⟩ : ∃rec:Loop,rec = { state:=.ready,pending:=none,fn,tmps:=a.tmps,params:=ps.toArray,assign,body,defers:=w.heap.size }:=⟨_,rfl⟩
  obtain ⟨W1,y3⟩ : ∃W1,(w.alloc (.deferred (some []))).alloc (.loop rec) = W1:=⟨_,rfl⟩
  have CO:aZ [] w W1:=by rw [← y3]; exact (aZ.alloc w _).ext (aZ.alloc _ _)
  have I3:W1.heap.size = w.heap.size + 2:=by rw [← y3]; simp
  have JU:W1.heap[w.heap.size + 1]? = some (.loop rec):=by
    rw [← y3]; have:=World.alloc_heap_new (w.alloc (.deferred (some []))) (.loop rec); rwa [World.size_alloc] at this
  have JY:W1.heap[w.heap.size]? = some (.deferred (some [])):=by
    rw [← y3]; exact (Below.heap_alloc _ _ _ (by simp)).trans (World.alloc_heap_new w _)
  have JH:=bn hst.fr hg
  have hfr:=hst.fr
  let J:Nat→List Nat→World→Prop:=fun k=>JW c.w0.heap.size c.bs (p k) (fun i=>.obj w.heap.size (.deferred (some []))::.obj (w.heap.size + 1) (.loop rec)::I k i)
  let Jx:List Nat→World→Prop:=JW c.w0.heap.size c.bs (fun q:Code × β=>px q.1 q.2) (fun q=>.obj w.heap.size (.deferred (some []))::.obj (w.heap.size + 1) (.loop { rec with state:=.done,pending:=some q.1 })::X q.2)
  have yL:=(hst.hp.ext CO).pick hk hn
  have Dj:bL c.bs c.w0.heap.size (.obj w.heap.size (.deferred (some []))::.obj (w.heap.size + 1) (.loop rec)::(Hc++I 0 i0)) W1:=by
    have hlt:∀s ∈ Hc++I 0 i0,∀b ∈ s.gi,b < w.heap.size:=fun s hs b hb=>by
      have hm:s ∈ H:=by
        obtain ⟨jj,hj⟩:=List.mem_iff_getElem?.1 hs
        obtain ⟨kk,_,hh⟩:=kJ hk jj s hj
        exact List.mem_of_getElem? hh
      exact (hst.hp.own s hm b hb).2
    have I2:=hst.si.size
    refine bL.cons (bL.cons yL JU ?_ ?_) JY ?_ ?_
    · intro b hb; have e:b = w.heap.size + 1:=by simpa [aH.gi] using hb
      subst e; exact ⟨.inr (by omega),by omega⟩
    · intro s hs b hb cQ
      have e:b = w.heap.size + 1:=by simpa [aH.gi] using hb
      have:=hlt s hs b cQ; omega
    · intro b hb; have e:b = w.heap.size:=by simpa [aH.gi] using hb
      subst e; exact ⟨.inr (by omega),by omega⟩
    · intro s hs b hb cQ
      have e:b = w.heap.size:=by simpa [aH.gi] using hb
      rcases List.mem_cons.1 hs with rfl | hs
      · have e2:b = w.heap.size + 1:=by simpa [aH.gi] using cQ
        omega
      · have:=hlt s hs b cQ; omega
  let I0:List aH:=.obj w.heap.size (.deferred (some []))::.obj (w.heap.size + 1) (.loop rec)::I 0 i0
  have Di:bL c.bs c.w0.heap.size I0 W1:=Dj.sub (by
    refine List.Sublist.cons_cons _ (List.Sublist.cons_cons _ (List.sublist_append_right _ _)))
  have xJ:bL c.bs c.w0.heap.size Hc W1:=Dj.sub (by
    refine List.Sublist.cons _ (List.Sublist.cons _ (List.sublist_append_left _ _)))
  have hap:∀r ∈ I0,∀s ∈ Hc,r.apart s:=by
    intro r hr s hs
    have yK:=Dj.apart
    rw [List.pairwise_cons,List.pairwise_cons,List.pairwise_append] at yK
    obtain ⟨q1,q2,_,_,q3⟩:=yK
    rcases List.mem_cons.1 hr with rfl | hr
    · exact q1 s (by simp [hs])
    · rcases List.mem_cons.1 hr with rfl | hr
      · exact q2 s (by simp [hs])
      · exact aH.iW (q3 s hs r hr)
  have hfn:=hit.fn (w.heap.size + 1) J Jx (bx I0)
  have u9:bx (aH.ext (bx I0) (J 0 (bx I0))::Hc) = bx I0++bx Hc:=by simp [bx,aH.gi]
  refine ⟨w.heap.size + 1,[mark w.heap.size],W1,{ target:=.fn (.func gf) caps,args:=#[.func (.yield (w.heap.size + 1)) #[] #[]] },W1,gf,
    (Value.func (.yield (w.heap.size + 1)) #[] #[]::caps.toList).toArray,W1,?_,?_,fun _ _=>trivial,?_,fun h=>by simp at h,?_⟩
  · rw [← y3,lG]; exact run_enterLoop_outer _ _ _ _ _
  · simp only [resolve,JH]
    simp [go_sem]
  · have:=hfn.enter (#[.func (.yield (w.heap.size + 1)) #[] #[]]++caps) W1
    simp only [invoke]
    rw [this]
    congr 2
    simp
  · have hin:bL (bx I0++bx Hc) W1.heap.size (aH.ext (bx I0) (J 0 (bx I0))::Hc) W1:=by
      refine ⟨?_,?_,?_⟩
      · intro r hr
        rcases List.mem_cons.1 hr with rfl | hr
        · exact sO (I:=fun i=>.obj w.heap.size (.deferred (some []))::.obj (w.heap.size + 1) (.loop rec)::I 0 i) i0 AI Di
        · exact xJ.holds r hr
      · intro r hr b hb
        rcases List.mem_cons.1 hr with rfl | hr
        · obtain ⟨s,hs,cQ⟩:=cD.1 hb
          exact ⟨.inl (List.mem_append_left _ hb),(Di.own s hs b cQ).2⟩
        · exact ⟨.inl (List.mem_append_right _ (cD.2 ⟨r,hr,hb⟩)),(xJ.own r hr b hb).2⟩
      · refine List.pairwise_cons.2 ⟨fun s hs b hb cQ=>?_,xJ.apart⟩
        obtain ⟨r,hr,rW⟩:=cD.1 hb
        exact hap r hr s hs b rW cQ
    have oC:∀b ∈ bx I0++bx Hc,b ∈ c.bs∨c.w0.heap.size ≤ b:=fun b hb=>by
      rcases List.mem_append.1 hb with h | h
      · obtain ⟨r,hr,rW⟩:=cD.1 h; exact (Di.own r hr b rW).1
      · obtain ⟨r,hr,rW⟩:=cD.1 h; exact (xJ.own r hr b rW).1
    have tI:aZ c.bs c.w0 W1:=hst.si.ext CO
    have u7:=hfn.calls W1 ⟨fun w' CN=>JV.ok w' (tI.trans CN oC) (fun r hr=>by cases hr),?_⟩ (by rw [u9]; exact hin)
    · refine j3 c.ro ?_
      intro cs
      obtain ⟨e,w2,fr,⟨x,_,he,w5,xH⟩,uW,oB⟩:=u7 cs
      refine ⟨e,w2,fr,?_,uW,oB⟩
      subst he
      rw [u9] at w5 xH
      obtain ⟨go,bs'⟩:=x
      have yH:aZ c.bs c.w0 w2:=tI.trans w5 oC
      have hex:=xH.holds _ (List.mem_cons_self)
      have Dh:∀r ∈ Ho,r.holds w2:=fun r hr=>xH.holds r (List.mem_cons_of_mem _ hr)
      have Df:∀s ∈ Ho,∀b ∈ bs',b ∉ s.gi:=fun s hs b hb=>by
        have:=xH.apart
        rw [List.pairwise_cons] at this
        exact this.1 s hs b hb
      have both:∀(IL:List aH) (jump:Option Code) (st:LoopState),st ≠ .busy→bs' = bx (.obj w.heap.size (.deferred (some []))::.obj (w.heap.size + 1) (.loop { rec with state:=st,pending:=jump })::IL) →
          bL c.bs c.w0.heap.size (.obj w.heap.size (.deferred (some []))::.obj (w.heap.size + 1) (.loop { rec with state:=st,pending:=jump })::IL) w2 →
          ∃w4,(Instr.endLoop (w.heap.size + 1)).run P w2 = .ok jump w4∧St N c (mark w.heap.size::D) F (.obj w.heap.size (.deferred (some []))::(Ho++IL)) { a with defers:=mark w.heap.size::a.defers } w4:=by
        intro IL jump st yG cQ hI
        have hl:w2.heap[w.heap.size + 1]? = some (.loop { rec with state:=st,pending:=jump }):=hI.holds (.obj (w.heap.size + 1) _) (by simp)
        have kP:bL c.bs c.w0.heap.size (.obj w.heap.size (.deferred (some []))::.obj (w.heap.size + 1) (.loop { rec with state:=st,pending:=jump })::(Ho++IL)) w2:=by
          have hq:=hI.apart
          rw [List.pairwise_cons,List.pairwise_cons] at hq
          refine ⟨?_,?_,?_⟩
          · intro r hr
            rcases List.mem_cons.1 hr with rfl | hr
            · exact hI.holds _ (by simp)
            · rcases List.mem_cons.1 hr with rfl | hr
              · exact hI.holds _ (by simp)
              · rcases List.mem_append.1 hr with h | h
                · exact Dh r h
                · exact hI.holds r (by simp [h])
          · intro r hr b hb
            rcases List.mem_cons.1 hr with rfl | hr
            · exact hI.own _ (by simp) b hb
            · rcases List.mem_cons.1 hr with rfl | hr
              · exact hI.own _ (by simp) b hb
              · rcases List.mem_append.1 hr with h | h
                · obtain ⟨o,lt⟩:=xH.own r (List.mem_cons_of_mem _ h) b hb
                  exact ⟨o.elim (oC b) (fun o=>.inr (Nat.le_trans tI.size o)),lt⟩
                · exact hI.own r (by simp [h]) b hb
          · have Dc:∀r,r ∈ (aH.obj w.heap.size (.deferred (some []))::.obj (w.heap.size + 1) (.loop { rec with state:=st,pending:=jump })::IL)→∀s ∈ Ho,r.apart s:=fun r hr s hs b hb De =>
              Df s hs b (by rw [cQ]; exact cD.2 ⟨r,hr,hb⟩) De
            refine List.pairwise_cons.2 ⟨fun s hs=>?_,List.pairwise_cons.2 ⟨fun s hs=>?_,List.pairwise_append.2 ⟨(List.pairwise_cons.1 xH.apart).2,hq.2.2,fun s hs r hr=>aH.iW (Dc r (by simp [hr]) s hs)⟩⟩⟩
            · rcases List.mem_cons.1 hs with rfl | hs
              · exact hq.1 _ (by simp)
              · rcases List.mem_append.1 hs with h | h
                · exact Dc _ (by simp) s h
                · exact hq.1 s (by simp [h])
            · rcases List.mem_append.1 hs with h | h
              · exact Dc _ (by simp) s h
              · exact hq.2.1 s h
        have yF:St N c (mark w.heap.size::D) F (.obj w.heap.size (.deferred (some []))::.obj (w.heap.size + 1) (.loop { rec with state:=st,pending:=jump })::(Ho++IL)) { a with defers:=mark w.heap.size::a.defers } w2:=
          ⟨hst.tm,hfr,by simp [hst.df],yH,kP⟩
        have I7:oO (.obj w.heap.size (.deferred (some []))::.obj (w.heap.size + 1) (.loop { rec with state:=st,pending:=jump })::(Ho++IL)) (w.heap.size + 1) (.loop { rec with state:=.exhausted,pending:=jump }) (.obj w.heap.size (.deferred (some []))::.obj (w.heap.size + 1) (.loop { rec with state:=.exhausted,pending:=jump })::(Ho++IL)):=inferInstance
        have ho:om (.obj w.heap.size (.deferred (some []))::.obj (w.heap.size + 1) (.loop { rec with state:=st,pending:=jump })::(Ho++IL)) (w.heap.size + 1) (.loop { rec with state:=st,pending:=jump }):=inferInstance
        obtain ⟨h3,_⟩:=yF.x5 ho I7
        refine ⟨_,run_endLoop hl yG,⟨h3.tm,h3.fr,h3.df,h3.si,h3.hp.sub ?_⟩⟩
        exact List.Sublist.cons_cons _ (List.Sublist.cons _ (List.Sublist.refl _))
      cases go with
      | true =>
        obtain ⟨i,w7,hI,cQ⟩:=ext_get hex
        have FE:({ rec with state:=LoopState.ready,pending:=none }:Loop) = rec:=by rw [lG]
        obtain ⟨w4,h4,h5⟩:=both (I n i) none .ready (by simp) (by rw [FE]; exact cQ) (by rw [FE]; exact hI)
        exact ⟨none,w4,h4,hdone _ i w7 _ _ h5⟩
      | false =>
        obtain ⟨⟨j,i⟩,w7,hI,cQ⟩:=ext_get hex
        obtain ⟨w4,h4,h5⟩:=both (X i) (some j) .done (by simp) cQ hI
        exact ⟨some j,w4,h4,yQ _ j i w7 _ _ h5⟩
    ·
      intro k BM W bs I8 JQ C5
      obtain ⟨i,w7,hI,cQ⟩:=ext_get C5
      have hl:W.heap[w.heap.size + 1]? = some (.loop rec):=hI.holds (.obj (w.heap.size + 1) _) (by simp)
      have hy:=run_yield (P:=P) (args:=(encs k).toArray) hl (by rw [lG]; simpa using hlen k)
      refine ⟨_,_,_,_,hy,?_⟩
      have yI:aZ c.bs c.w0 W:=tI.trans I8 oC
      have hsub:∀b,(b ∈ bx (aH.obj w.heap.size (.deferred (some []))::.obj (w.heap.size + 1) (.loop rec)::I k i)∨W.heap.size ≤ b)→(b ∈ c.bs∨c.w0.heap.size ≤ b):=fun b hb=>by
        rcases hb with hb | hb
        · obtain ⟨r,hr,rW⟩:=cD.1 hb; exact (hI.own r hr b rW).1
        · exact .inr (Nat.le_trans yI.size hb)
      have hb:=hbody k i (w.heap.size + 1) w.heap.size rec ⟨some (w.heap.size + 1),W,bs⟩ BM w7 (by rw [lG]) (by rw [lG]) rfl (fun w' CN=>yI.trans CN fun b hb=>hsub b (.inl (by rw [← cQ]; exact hb))) (fun b hb=>hsub b (by rw [← cQ]; exact hb))
      have ht:=vM (ps:=ps) (vs:=encs k) hfr hst.tm hps
      have CA:(rec.params.zip (encs k).toArray).foldl (fun tmps (t,a)=>tmps.setIfInBounds t a) rec.tmps = (ps.zip (encs k)).foldl (fun t q=>t.setIfInBounds q.1 q.2) a.tmps:=by
        rw [lG]; simp
      rw [CA]
      have FG:rec.assign = assign∧rec.body = body:=by rw [lG]; exact ⟨rfl,rfl⟩
      rw [FG.1,FG.2]
      have Gn:bL bs W.heap.size (.obj w.heap.size (.deferred (some []))::.obj (w.heap.size + 1) (.loop rec)::I k i) W:=
        ⟨hI.holds,fun r hr b hb=>⟨.inl (by rw [cQ]; exact cD.2 ⟨r,hr,hb⟩),(hI.own r hr b hb).2⟩,hI.apart⟩
      have mY:=roundIn_of_wpIn (F:=FA none) (n:=0) (P:=P) (l:=w.heap.size + 1) (f:=rec.fn) (R:=vz ⟨some (w.heap.size + 1),W,bs⟩ (J (k + 1)) Jx) trivial
        (hb { tmps:=(ps.zip (encs k)).foldl (fun t q=>t.setIfInBounds q.1 q.2) a.tmps,defers:=[] } W ⟨ht.2,ht.1,rfl,aZ.refl _ _,Gn⟩)
      refine mY.mono fun e W' hr=>?_
      rw [u9] at *
      exact hr
end Go.Bw
namespace Go.Bw
open Go Go.RowKit
section rules
variable {P:Program} {N:Nat} {c:Cx} {D:List Deferred} {Q:Exit→Act→World→Prop} {F:cI} {H:List aH} {d:Option Tmp} {ty:TypeId} {ps:String} {af:Array Edge} {g:Option (Nat × Bool)} {α β γ:Type}
theorem VS.xW {o:Oper} {v:Value} {H' : List aH} (h:VS P N c o F H v) (ht:∀w,bL c.bs c.w0.heap.size H w→bL c.bs c.w0.heap.size H' w):RX (α:=Unit) P N c o F H (fun _=>True) (fun _=>v) (fun _=>H'):=
  fun D a w next Q hst hk=>h D a w next Q hst fun w' hw=>hk () w' trivial (hst.si.ext hw) (ht _ (hst.hp.ext hw))
theorem AH {bs:List Nat} {n0 b e sz:Nat} {w:World} {L:bf α} [aW L] {y:α} (hn:L.n = sz) (h:bL bs n0 (.cells b e (L.enc y)::H) w):bL bs n0 (Row (.slice (some ⟨b,0,none⟩) 1 1) e sz L [y]::H) w:=by
  have:=h.xW (k:=0) (r:=.cells b e (L.enc y)) (r':=Row (.slice (some ⟨b,0,none⟩) 1 1) e sz L [y]) rfl (fun w hw=>by
    have hb:w.heap[b]? = some (.cells (L.enc y).toArray e (0,0)):=hw
    have e1:eL L [y] = L.enc y:=qK L y
    refine ⟨by rw [e1,aY,hn]; simp, .inr ⟨b,1,_,rfl,Nat.zero_le _,hb,Nat.le_refl _,by decide,by simp [aY,hn],?_⟩⟩
    rw [e1]
    exact List.take_of_length_le (by rw [aY,hn]; simp)) (fun x hx=>by simpa [aH.gi,Value.ownBlock] using hx)
  exact this
theorem Bl {x:Operand} {t e sz:Nat} (L:bf α) [aW L] (y:α) {zs:List Value} {val:Value} [ht:qg P t e sz] [hz:dx P e zs] (hx:ev F x = some val) (hc:val.cells.toList = L.enc y) (hl:L.n = sz) (Hv:zs.length = sz) (h0:0 < sz) (hs:sz ≤ 16777216) :
    RX P N c ⟨d, .buildSlice t 1 #[(0,x)],ty,ps,af,g⟩ F H (fun _=>True) (fun b=>.slice (some ⟨b,0,none⟩) 1 1) (fun b=>Row (.slice (some ⟨b,0,none⟩) 1 1) e sz L [y]::H):=
  fun D a w next Q hst hk=>lf L y hx hc hl Hv h0 hs D a w next Q hst fun b w' hp hsi hh=>hk b w' hp hsi (AH hl hh)
theorem wL {w:World} {v:Value} {e sz n m:Nat} {xs:List Value} (h:(aH.row v e sz n xs).holds w) (hm:m ≤ n):(aH.row (iQ 0 m sz v) e sz m (xs.take (m * sz))).holds w:=by
  obtain ⟨h1,h2⟩:=h
  have hle:m * sz ≤ n * sz:=Nat.mul_le_mul_right _ hm
  refine ⟨by rw [List.length_take,h1,Nat.min_eq_left hle],?_⟩
  rcases h2 with ⟨rfl,rfl⟩ | ⟨gb,cap,cur,rfl,q1,q2,q3,q4,q5,q6⟩
  · obtain rfl:m = 0:=by omega
    exact .inl ⟨by simp [iQ],rfl⟩
  · refine .inr ⟨gb,cap,cur,?_,q1,q2,by omega,q4,q5,?_⟩
    · simp [iQ,Addr.add_lit]
    · rw [← q6,List.take_take,Nat.min_eq_left hle]
theorem wo {v:Value} {n m sz:Nat} (h:ke v n):ke (iQ 0 m sz v) m:=by
  obtain ⟨a,cp,rfl⟩:=h; exact ⟨_,_,rfl⟩
theorem qI (L:bf α) [aW L] (xs:List α) {m sz:Nat} (hn:L.n = sz) (hm:m ≤ xs.length):(eL L xs).take (m * sz) = eL L (xs.take m):=by
  have:=tg L xs 0 m (Nat.zero_le _) hm
  subst hn
  simpa using this
theorem CQ {bs:List Nat} {n0 e sz m:Nat} {w:World} {v:Value} {L:bf α} [aW L] {xs:List α} {f:aH→List aH} [hr:me H v e sz xs.length (eL L xs) f] (hn:L.n = sz) (hm:m ≤ xs.length) (h:bL bs n0 H w):bL bs n0 (f (Row (iQ 0 m sz v) e sz L (xs.take m))) w:=by
  obtain ⟨k,k1,k2⟩:=hr.ok
  rw [k2]
  refine h.xW k1 (fun w hw=>?_) (fun b hb=>?_)
  · have:=wL (m:=m) hw hm
    rw [qI L xs hn hm] at this
    have e1:(xs.take m).length = m:=by rw [List.length_take]; omega
    unfold Row; rw [e1]; exact this
  · simpa [aH.gi,za] using hb
theorem rB {x hi:Operand} {t e sz m:Nat} {k:IntKind} {i:Int} {v:Value} {L:bf α} [aW L] {xs:List α} {f:aH→List aH} [ht:qg P t e sz] (hs:ke v xs.length) (hn:L.n = sz) (hx:ev F x = some v) (hhi:ev F hi = some (.int k i)) (hi' : i = (m:Int)) (hm:m ≤ xs.length) [hr:me H v e sz xs.length (eL L xs) f] [Kn c H (Hs [Row v e sz L xs])] :
    RX (α:=Unit) P N c ⟨d, .slice t x none (some hi) none,ty,ps,af,g⟩ F H (fun _=>True) (fun _=>iQ 0 m sz v) (fun _=>f (Row (iQ 0 m sz v) e sz L (xs.take m))):=
  (rz (Fz.row (e:=e) hn.symm hs) hx hhi hi' hm).xW fun _ hp=>CQ hn hm hp
theorem qJ (L:bf α) [aW L] (z0:α) {z:Value} (he:L.enc z0 = [z]):∀n:Nat,eL L (List.replicate n z0) = List.replicate n z
  | 0=>rfl
  | n + 1=>by
    have:=qJ L z0 he n
    rw [List.replicate_succ,List.replicate_succ]
    show L.enc z0++eL L (List.replicate n z0) = _
    rw [he,this]; rfl
theorem td {P:Program} {w:World} {t e ty:Nat} (e1:P.underlying t = some (.slice e)) (a:Option Addr) (cp:Nat):(Builtin.clear_ #[t] ty #[.slice a 0 cp]).run P w = .ok (.tuple #[]) w:=by
  cases a <;> simp [Builtin.clear_,run_underlying e1]
theorem xx {L:bf α} [aW L] {xs ys:List α} {v:Value} {e t m:Nat} {z0:α} {z:Value} {x:Operand} {f:aH→List aH} (ht:v8 P t e 1 = true) (hz:HG P e z) (he:L.enc z0 = [z]) (L9:z.cells = #[z]) (h1:z.oneCell' = true) (hL:L.n = 1) (hm:m ≤ xs.length)
    (hx:ev F x = some (iQ m xs.length 1 v)) [hr:me H v e 1 xs.length (eL L xs) f] (hy:ys = xs.take m++List.replicate (xs.length - m) z0) :
    RX (α:=Unit) P N c ⟨d, .call ⟨.builtin .clear,#[x],#[t]⟩,ty,ps,af,g⟩ F H (fun _=>True) (fun _=>.tuple #[]) (fun _=>f (Row v e 1 L ys)):=fun D a w next Q hst hk=>by
  obtain ⟨inf,e1,e2,e3⟩:=qg.get ht
  obtain ⟨k,k1,k2⟩:=hr.ok
  have AJ:aH.row v e 1 xs.length (eL L xs) ∈ H:=List.mem_of_getElem? k1
  have hown:w.ownsRow 0 e 1 v xs.length (eL L xs):=hst.hp.holds _ AJ
  obtain ⟨hlen,q7⟩:=hown
  have Hw:=bn hst.fr hx
  have BJ:ys.length = xs.length:=by rw [hy,List.length_append,List.length_take,List.length_replicate]; omega
  by_cases hem:m = xs.length
  · have KN:ys = xs:=by rw [hy,hem,List.take_length]; simp
    refine gm (by simp) (v:=.tuple #[]) (w':=w) ?_ (hk () w trivial hst.si ?_)
    · have hv:∃a0 cp,a.eval x = .slice a0 0 cp:=by
        rw [Hw,hem]
        rcases q7 with ⟨hv,h0⟩ | ⟨gb,cap,cur,hv,_⟩
        · rw [hv]; exact ⟨_,_,by rw [iQ,Nat.sub_self]⟩
        · rw [hv]; exact ⟨_,_,by rw [iQ,Nat.sub_self]⟩
      obtain ⟨a0,cp,hv⟩:=hv
      have:=td (P:=P) (w:=w) (ty:=ty) e1 a0 cp
      simp [execOp,resolve,invoke,builtin,hv,this]
    · rw [k2]
      exact hst.hp.xW k1 (fun w hw=>by rw [KN]; exact hw) (fun b hb=>by rw [KN] at hb; exact hb)
  · rcases q7 with ⟨_,h0⟩ | ⟨gb,cap,cur,rfl,_,BN,hnc,HB,hcs,vV⟩
    · omega
    have hone:iS (List.replicate (xs.length - m) z):=fun v hv=>by rw [List.eq_of_mem_replicate hv]; exact h1
    have hsc:=run_storeCells_at P gb m e (List.replicate (xs.length - m) z) 0 cur w BN (by simp; omega) hone
    simp only [Nat.add_zero] at hsc
    obtain ⟨cs',Da⟩ : ∃cs',(cur.toList.take m++List.replicate (xs.length - m) z++cur.toList.drop (m + (List.replicate (xs.length - m) z).length)).toArray = cs':=⟨_,rfl⟩
    rw [Da] at hsc
    have mD:aZ [gb] w (w.setRow gb cs'):=⟨rfl,rfl,rfl,by simp,fun k _ hk=>setRow_other w gb k _ (by simpa using hk)⟩
    refine gm (by simp) (v:=.tuple #[]) (w':=w.setRow gb cs') ?_ (hk () _ trivial (hst.si.store hst.hp AJ (by simp [aH.gi,Value.ownBlock]) mD) ?_)
    · obtain ⟨j,hj⟩ : ∃j,xs.length - m = j + 1:=⟨xs.length - m - 1,by omega⟩
      have IE:=Ck hz w
      have L6:=ql L9 (j + 1)
      have hne:¬ cap = m:=by omega
      rw [hj] at hsc
      have Ma:a.eval x = .slice (some ⟨gb,m,none⟩) (j + 1) (cap - m):=by rw [Hw]; simp [iQ,hne,Addr.add_lit,hj]
      simp [execOp,resolve,invoke,builtin,Ma,Builtin.clear_,run_underlying e1,IE,L6,hsc]
    · show bL c.bs c.w0.heap.size (f (Row _ e 1 L ys)) _
      rw [Row,k2]
      have yF:=setRow_heap w gb cur cs' e (0,0) BN
      have JK:cur.toList.length = cap:=by simpa using hcs
      refine hst.hp.set k1 mD.size (fun j hj hn=>mD.block j hj (by simpa [aH.gi,Value.ownBlock] using hn)) ?_ hst.si.size (fun b' hb'=>?_)
      · refine ⟨by rw [lV,hL], .inr ⟨gb,cap,cs',by rw [BJ],Nat.zero_le _,yF,by omega,HB,?_,?_⟩⟩
        · rw [← Da]; simp; omega
        · rw [BJ,← Da,Nat.mul_one,hy,lW,qJ L z0 he]
          have t1:=qI L xs (m:=m) (sz:=1) hL hm
          rw [Nat.mul_one] at t1
          rw [← t1,← vV,List.take_take,Nat.mul_one,Nat.min_eq_left hm]
          simp only [List.toList_toArray]
          rw [List.take_append_of_le_length (by simp; omega)]
          exact List.take_of_length_le (by simp; omega)
      · have h5:b' = gb:=by simpa [aH.gi,Value.ownBlock] using hb'
        subst h5
        exact ⟨.inl (by simp [aH.gi,Value.ownBlock]),Nat.lt_of_lt_of_le (Array.getElem?_eq_some_iff.1 BN).1 mD.size⟩
theorem G2 {ops:Array Oper} {rest:List Oper} {op:Op} {dd:Tmp} {gg:Option (Nat × Bool)} {b:Bool} {p:α→Prop} {fv:α→Value} {fH:α→List aH} (hg:Gd ops F gg b) (hb:b = true) (hd:Nat.blt dd N = true) (hv:RX P N c ⟨some dd,op,ty,ps,af,gg⟩ F H p fv fH)
    (h:∀x,p x→WL P N c D ops Q rest ((dd,bif b then fv x else undef)::F) (fH x)):WL P N c D ops Q (⟨some dd,op,ty,ps,af,gg⟩::rest) F H:=by
  subst hb
  exact G1 hg hd (fun _=>hv) (fun _ x hx=>h x hx) nofun
theorem G3 {ops:Array Oper} {rest:List Oper} {op:Op} {dd:Tmp} {gg:Option (Nat × Bool)} {b:Bool} {v:Value} (hg:Gd ops F gg b) (hb:b = false) (hd:Nat.blt dd N = true)
    (h:WL P N c D ops Q rest ((dd,bif b then v else undef)::F) H):WL P N c D ops Q (⟨some dd,op,ty,ps,af,gg⟩::rest) F H:=by
  subst hb
  exact nI hg hd h
theorem Gp {x y:Bool} (h:(x == false) = false) (hc:(x || y) = false):False:=by cases x <;> simp at h hc
theorem K1 {x y b:Bool} (h:(x == false) = true) (hc:(x || y) = b):y = b:=by cases x <;> simp_all
end rules
end Go.Bw
namespace Go.Proofs.Ytmdpbdhkmfjlhaa
open Go Go.Bw
structure aI where
 At:Int
 N:Int
abbrev ai:bf aI:=bf.via (LP (LI .i64) (LI .i64)) (fun x=>(x.At,x.N))
abbrev hM:aI:=⟨0,0⟩
instance:Inhabited aI:=⟨hM⟩
theorem dQ:aF ai (LI .i64) 0 (fun x=>x.At) (fun x v=>{ x with At:=v }):=(aF.fst aF.id).via _ _ _ 0 rfl (fun _=>rfl) (fun _ _=>rfl)
theorem dD:aF ai (LI .i64) 1 (fun x=>x.N) (fun x v=>{ x with N:=v }):=(aF.snd aF.id).via _ _ _ 1 rfl (fun _=>rfl) (fun _ _=>rfl)
def jv (n:Nat) (a0:(List aI)):Option (List aI):=
 some a0
theorem nB {n a0 r K} [bz K] {v0} (f0:Fz K v0 ai a0) (h:jv n a0 = some r):Bw.Fn (α:=Nat × List Value) Try.prog 149 [v0] K [] (fun (b0,c0)=>((o5 ai)).rep K c0 r) (fun (b0,c0)=>.func (.func 165) #[] #[Ptr b0 0]) (fun (b0,c0)=>[.cells b0 44 c0]):=by
 unfold jv at h
 refine fo Try.func149 (by kernel_rfl) rfl Try.ntmps149 rfl fun cx _ hro cQ hpre=>?_
 refine SC 2 rf ?_
 refine W1 rf (wu rfl f0.sl.cells) fun b1=>?_
 refine SL 10 rf ?_
 have h:=sj h; subst h
 exact cY ⟨b1,[v0]⟩ rfl (.tmp rfl .nil) (bf.mono _ n8 ⟨_,rfl,f0⟩) rfl (ks:=[0]) rfl (by decide)
structure cu where
 l:(List aI)
abbrev bU:bf cu:=bf.via (o5 ai) (fun x=>x.l)
abbrev jn:cu:=⟨[]⟩
def eZ:List Value:=[.slice none 0 0]
theorem gE {A:World→Prop}:bU.rep A eZ jn:=⟨_,rfl,Fz.nil⟩
theorem qD:aF bU (o5 ai) 0 (fun x=>x.l) (fun x v=>{ x with l:=v }):=aF.id.via _ _ _ 0 rfl (fun _=>rfl) (fun _ _=>rfl)
def iy (n:Nat) (a0:cu):Option (List aI):=
 bd (jv n a0.l) fun gN =>
 some gN
theorem oa {n a0 r K} [bz K] {eN} (f0:(bU).rep K eN a0) (h:iy n a0 = some r):Bw.Fn (α:=Nat × List Value) Try.prog 94 [A eN] K [] (fun (b0,c0)=>((o5 ai)).rep K c0 r) (fun (b0,c0)=>.func (.func 165) #[] #[Ptr b0 0]) (fun (b0,c0)=>[.cells b0 44 c0]):=by
 unfold iy at h
 refine fo Try.func94 (by kernel_rfl) rfl Try.ntmps94 rfl fun cx _ hro cQ hpre=>?_
 refine SC 2 rf ?_
 refine W1 rf (bS rfl) fun b1=>?_
 obtain ⟨gN,kZ,h⟩:=bp h
 refine SL 6 rf ?_
 obtain ⟨HW,uV,f22⟩:=qD.sl f0
 refine aq rfl (cU rfl uV) ?_
 refine eu rfl (fC (nB (K:=K) (f22.mono n8) kZ) rfl kn) (fun ⟨Kt,GQ⟩ f26=>?_)
 replace f26:((o5 ai)).rep K GQ gN:=f26
 dsimp only [List.cons_append,List.nil_append]
 refine SL 4 rf ?_
 have h:=sj h; subst h
 exact cY ⟨Kt,GQ⟩ rfl (.tmp rfl .nil) (mo f26) rfl (ks:=[0]) rfl (by decide)
def fb (n:Nat) (a1:(List aI)):Option (List (Int × aI)):=
 dW (fun uM (eK:Int) =>
 cn (decide (eK < (a1.length:Int))) (
 gu (dj eK a1.length) <|
 lt ((a1.getD (Int.toNat eK) default):aI) fun jE =>
 yl (eK,jE) <|
 uM (wr .i64 (eK + 1))) (
 some [])) n 0
theorem l5 {n:Nat} {a1:(List aI)} {l:List (Int × aI)} {K:World→Prop} {q1:Nat} {gO:List Value} (f1:((o5 ai)).rep K gO a1) (h:fb n a1 = some l):wA Try.prog 165 [Ptr q1 0] [.cells q1 44 gO] K (fun k=>[.int .i64 ((l.getD k default).1), .agg (ai.enc ((l.getD k default).2)).toArray]) l.length:=by
 unfold fb at h
 refine ⟨fun y J Jx bs=>eV Try.func165 (by kernel_rfl) rfl Try.ntmps165 rfl (fun cx cQ hpre hro=>?_)⟩
 haveI:=gZ (show cx.bs = bs++bx [.cells q1 44 gO] from cQ) hpre.1
 have hR:B0 Try.prog y cx.bs cx.w0 J Jx (fun k=>[.int .i64 ((l.getD k default).1), .agg (ai.enc ((l.getD k default).2)).toArray]) l.length:=by rw [show cx.bs = bs++bx [.cells q1 44 gO] from cQ]; exact hpre.2
 have C9:l.drop 0 = l:=rfl
 have vY:0 ≤ l.length:=Nat.zero_le _
 refine SC 2 rf ?_
 obtain ⟨HW,uV,f22⟩:=(aF.id (L:=(o5 ai))).sl f1
 refine aq rfl (cU rfl uV) ?_
 refine aq rfl (ef f22 rfl) ?_
 refine SL 4 rf ?_
 obtain ⟨yw,tK,h⟩:=oz h
 refine LO (β:=Int × Nat × (List (Int × aI)) × (List Nat)) [0,5,6] [0,1] (fun (tF,eK,kN,EN,r7)=>[(7, .int .i64 eK)]) (fun (tF,eK,kN,EN,r7)=>[.ext r7 (J kN r7), .cells q1 44 gO]) (fun (tF,eK,kN,EN,r7)=>l.drop kN = EN∧kN ≤ l.length∧dW yw tF eK = some EN) (n,0,0,l,bs) ⟨C9,vY,h⟩ rf rf rf ?_
 rintro tF ⟨eK,kN,EN,r7⟩ ⟨Gj,Jv,h⟩
 replace h:=oy tK h; obtain ⟨tF,rfl,h⟩:=h
 refine SC 6 rf ?_
 refine fz h rf (fun hc h=>?_) fun hc h=>?_
 ·
  obtain ⟨pO,h⟩:=dO h
  obtain ⟨jE,rR,h⟩:=cN h
  refine SC 7 rf ?_
  refine aq rfl (ew (m:=(Int.toNat eK)) f22 rfl rfl rfl (aC pO).1 (aC pO).2) ?_
  refine aq rfl (oY (M:=ai) f22 (aF.idx (L:=ai) (m:=(a1.length)) (k:=2) ((Int.toNat eK)) (aC pO).2 rfl) rfl rfl (by decide)) ?_
  refine W1 rf (bj (L:=ai) (z:=hM) ⟨by kernel_rfl⟩) fun b4=>?_
  refine aq rfl (cO rfl) ?_
  refine W0 (bA (M:=ai) (aF.id (L:=ai)) (a1.getD (Int.toNat eK) default) jE rR rfl rfl rfl rfl) ?_
  refine SL 3 rf ?_
  obtain ⟨LL,Jh,h⟩:=zS h
  obtain ⟨Jr,yU,JJ,Jp⟩:=drop_cons (Gj.trans Jh)
  refine SC 3 rf ?_
  refine aq rfl (aU (M:=ai) (aF.id (L:=ai)) rfl rfl) ?_
  refine eu rfl (nL (bs:=r7) hR Jr hro rfl (show oE _ _ = some [.int .i64 ((l.getD kN default).1), .agg (ai.enc ((l.getD kN default).2)).toArray] by rw [yU]; rfl)) (fun ⟨Gr,Gz⟩ _=>?_)
  refine SL 3 rf ?_
  refine rq rfl (fun hc=>?_) (fun hc=>?_)
  ·
   obtain rfl:Gr = false:=by simpa using hc
   dsimp only [cond_true,cond_false]
   refine SC 5 rf ?_
   exact cY (false,Gz) rfl .nil trivial rfl (ks:=[1,2]) rfl (by decide)
  ·
   obtain rfl:Gr = true:=by simpa using hc
   dsimp only [cond_true,cond_false]
   refine SC 7 rf ?_
   exact LN [1,2] (wr .i64 (eK + 1),kN + 1,LL,Gz) ⟨JJ,Jp,h⟩ rf rf rf
 ·
  refine SC 4 rf ?_
  have h:=sj h; subst h
  have J6:=drop_nil Gj Jv
  refine oV (ks:=[0,1]) (H':=[.ext r7 (J (kN) r7), .cells q1 44 gO]) rfl (by decide) ?_
  refine oW (J:=J) (n:=l.length) J6 ?_
  exact sy (true,r7) rfl .nil trivial rfl (ks:=[0,1]) rfl (by decide)
def jL (n:Nat) (a0:aI):Option Bool:=
 some ((decide (1 ≤ a0.N) && decide (0 ≤ a0.At)) && decide (a0.At ≤ (wr .i64 (64 - a0.N))))
theorem pX {n a0 r}  (h:jL n a0 = some r):xN Try.prog 95 [.agg (ai.enc a0).toArray] (.bool r):=by
 unfold jL at h
 refine eV Try.func95 (by kernel_rfl) rfl Try.ntmps95 rfl (fun cx cQ hpre hro=>?_)
 refine SC 2 rf ?_
 refine W1 rf (ct ai a0 rfl rfl) fun b1=>?_
 refine SL 6 rf ?_
 refine aq rfl (aR dD rfl) ?_
 refine SL 2 rf ?_
 refine GB rf rf rf (fun hb=>aN rfl) ?_
 refine GB rf rf rf (fun hb=>aR dQ (bN rfl hb)) ?_
 refine GB rf rf rf (fun hb=>nh (bN rfl hb) rfl) ?_
 refine aq rfl (cA rfl rfl) ?_
 refine aq rfl (ay rfl) ?_
 refine GB rf rf rf (fun hb=>aN rfl) ?_
 refine GB rf rf rf (fun hb=>aR dQ (bN rfl hb)) ?_
 refine GB rf rf rf (fun hb=>aN rfl) ?_
 refine GB rf rf rf (fun hb=>aR dD (bN rfl hb)) ?_
 refine GB rf rf rf (fun hb=>sC rfl (bN rfl hb) rfl) ?_
 refine GB rf rf rf (fun hb=>sE (bN rfl hb) (bN rfl hb)) ?_
 refine aq rfl (cA rfl rfl) ?_
 refine SL 4 rf ?_
 have h:=sj h; subst h
 exact RV rf (rt rf rn) rf
def cL (n:Nat) (a0:aI):Option Int:=
 some (wr .i64 (a0.At + a0.N))
theorem iH {n a0 r}  (h:cL n a0 = some r):xN Try.prog 145 [.agg (ai.enc a0).toArray] (.int .i64 r):=by
 unfold cL at h
 refine eV Try.func145 (by kernel_rfl) rfl Try.ntmps145 rfl (fun cx cQ hpre hro=>?_)
 refine SC 2 rf ?_
 refine W1 rf (ct ai a0 rfl rfl) fun b1=>?_
 refine SL 6 rf ?_
 refine aq rfl (aR dQ rfl) ?_
 refine aq rfl (aN rfl) ?_
 refine aq rfl (aR dD rfl) ?_
 refine SL 5 rf ?_
 have h:=sj h; subst h
 exact RV rf (rt rf rn) rf
def gl (n:Nat) (a0:cu) (a1:Int) (a2:Int):Option (cu × Bool):=
 lt ({ At:=a1,N:=a2 }:aI) fun aQ =>
 bd (jL n aQ) fun bT =>
 cn ((!bT)) (
 some (a0,false)) (
 bd (iy n a0) fun dz =>
 bd (fb n dz) fun bW =>
 oK (fun (GA:Int × aI) Ap (gj:Bool) (fx:(List aI)) (bR:aI) =>
 lt (GA.1:Int) fun sR =>
 lt (GA.2:aI) fun nP =>
 bd (cL n nP) fun Bv =>
 cn (decide (Bv < bR.At)) (
 gu (jP fx.length 1 16) <|
 lt (fx++([nP]):List aI) fun mN =>
 Ap gj mN bR) (
 bd (cL n bR) fun xQ =>
 cn (decide (xQ < nP.At)) (
 lt (fun (xP:Bool) (ux:(List aI)) =>
 gu (jP ux.length 1 16) <|
 lt (ux++([nP]):List aI) fun rD =>
 Ap xP rD bR) fun BG =>
 cn ((!gj)) (
 gu (jP fx.length 1 16) <|
 lt (fx++([bR]):List aI) fun mM =>
 BG true mM) (
 BG gj fx)) (
 bd (cL n nP) fun sY =>
 cn ((sY == bR.At)) (
 lt ({ At:=nP.At,N:=wr .i64 (nP.N + bR.N) }:aI) fun Bu =>
 Ap gj fx Bu) (
 bd (cL n bR) fun wC =>
 cn ((nP.At == wC)) (
 lt ({ bR with N:=wr .i64 (bR.N + nP.N) }:aI) fun D4 =>
 Ap gj fx D4) (
 some (a0,false)))))) (fun (gj:Bool) (fx:(List aI)) (bR:aI) =>
 cn ((!gj)) (
 gu (jP fx.length 1 16) <|
 lt (fx++([bR]):List aI) fun rC =>
 lt ({ l:=rC }:cu) fun sX =>
 some (sX,true)) (
 lt ({ l:=fx }:cu) fun vE =>
 some (vE,true))) bW false ([]:List aI) aQ)
theorem ob {n a0 a1 a2 r K} [bz K] {eN} (f0:(bU).rep K eN a0) (h:gl n a0 a1 a2 = some r):uv Try.prog 90 [A eN, .int .i64 a1, .int .i64 a2] K (fun J v=>∃u0,v = (.tuple #[A u0, .bool r.2])∧(bU).rep (fun w=>K w∧J w) u0 (r.1)):=by
 unfold gl at h
 refine fo Try.func90 (by kernel_rfl) rfl Try.ntmps90 rfl fun cx _ hro cQ hpre=>?_
 refine SC 2 rf ?_
 refine W1 rf (bS rfl) fun b3=>?_
 refine W1 rf (cE (hz:=(⟨by kernel_rfl⟩ : dx Try.prog 46 eZ))) fun b6=>?_
 refine W1 rf (bj (L:=LB) (z:=false) ⟨by kernel_rfl⟩) fun b7=>?_
 obtain ⟨aQ,cv,h⟩:=cN h
 refine SL 6 rf ?_
 refine aq rfl (eD (cs:=ai.enc aQ) rfl (by rw [cv]; rfl)) ?_
 refine W1 rf (bj (L:=ai) (z:=hM) ⟨by kernel_rfl⟩) fun b8=>?_
 refine W0 (bA (M:=ai) (aF.id (L:=ai)) aQ aQ rfl rfl rfl rfl rfl) ?_
 obtain ⟨bT,iD,h⟩:=bp h
 refine SL 5 rf ?_
 refine aq rfl (aU (M:=ai) (aF.id (L:=ai)) rfl rfl) ?_
 refine CV (pX iD) rf rf ?_
 refine SL 3 rf ?_
 refine fz h rf (fun hc h=>?_) fun hc h=>?_
 ·
  refine SC 2 rf ?_
  refine aq rfl (av rfl (bf.len _ f0)) ?_
  refine ST (C:=K) a0 (aF.id (L:=bU)) gE (mo f0) rf rf rf rf rf fun Ei f24=>?_
  refine W0 (bA (M:=LB) (aF.id (L:=LB)) false false rfl rfl rfl rfl rfl) ?_
  refine SL 4 rf ?_
  have h:=sj h; subst h
  exact qh [] rf rf (ra rf (bf.len _ f24) (ro rf rfl rn)) ⟨_,rfl,(mo f24)⟩
 ·
  refine SC 4 rf ?_
  refine W1 rf (cE (hz:=(⟨by kernel_rfl⟩ : dx Try.prog 44 [.slice none 0 0]))) fun b9=>?_
  refine SL 4 rf ?_
  refine W1 rf (bj (L:=LB) (z:=false) ⟨by kernel_rfl⟩) fun BW=>?_
  refine W0 (bA (M:=LB) (aF.id (L:=LB)) false false rfl rfl rfl rfl rfl) ?_
  obtain ⟨dz,nZ,h⟩:=bp h
  refine SL 5 rf ?_
  refine aq rfl (av rfl (bf.len _ f0)) ?_
  refine eu rfl (fC (oa (K:=K) (mo f0) nZ) rfl kn) (fun ⟨NP,A2⟩ f29=>?_)
  replace f29:((o5 ai)).rep K A2 dz:=f29
  dsimp only [List.cons_append,List.nil_append]
  refine SL 3 rf ?_
  obtain ⟨bW,uT,h⟩:=bp h
  refine nG 57 2 ai ?_
  obtain ⟨Cw,FZ,Dm,Gb,h⟩:=Fh h
  refine kS (K:=K) (α:=Bool × (List aI) × aI × Value) (β:=Bool × (List aI) × aI × cu × Value × (List Value)) hro rfl (l5 (K:=K) (mo f29) uT) (fun _=>rfl) rfl (fun An=>fun (gj,fx,bR,sU)=>ke sU fx.length∧oK Cw Dm (bW.drop An) gj fx bR = some r) (fun An=>fun (gj,fx,bR,sU)=>[Row sU 57 2 ai fx, .cells BW 4 (LB.enc gj), .cells b9 44 ([sU]), .cells b8 57 (ai.enc bR), .cells b7 4 (LB.enc false), .cells b6 46 eZ, .cells b3 46 eN]) (fun j=>fun (lN,wD,nR,Ex,B9,Dy)=>j = Code.ret∧ke B9 wD.length∧(bU).rep K Dy Ex∧some (Ex,false) = some r) (fun (lN,wD,nR,Ex,B9,Dy)=>[Row B9 57 2 ai wD, .cells BW 4 (LB.enc lN), .cells b9 44 ([B9]), .cells b8 57 (ai.enc nR), .cells b7 4 (LB.enc false), .cells b6 46 Dy, .cells b3 46 eN]) ⟨false,([]:List aI),aQ, .slice none 0 0⟩ ⟨⟨_,_,rfl⟩,h⟩ (ks:=[1,0,2,3,4,5,6,7]) rfl (by decide) ?_ ?_ ?_
  ·
   rintro An ⟨gj,fx,bR,sU⟩ lo dd rec c' hk ⟨pK,h⟩ oA rV mZ hsi hT
   replace h:oK Cw Dm (bW.drop An) gj fx bR = some r:=h
   replace h:=Ff FZ hk h
   haveI:=lY (K:=K) hsi
   dsimp only [oJ]
   obtain ⟨sR,wW,h⟩:=cN h
   rw [← wW]
   obtain ⟨nP,IW,h⟩:=cN h
   rw [← IW]
   refine eY ?_
   refine W1 rf (bj (L:=ai) (z:=hM) ⟨by kernel_rfl⟩) fun Ku=>?_
   refine W0 (bA (M:=ai) (aF.id (L:=ai)) nP nP rfl rfl rfl rfl rfl) ?_
   refine sB ?_
   refine jo oA mZ ?_
   refine SC 3 rf ?_
   obtain ⟨Bv,Az,h⟩:=bp h
   refine ec mixed (.lq [] [(0,[12]),(1,[26]),(2,[8]),(3,[28]),(4,[27,29])] (.alt 5 [30] (.fin [] []) .no)) (by kernel_rfl) ?_
   refine T0 ?_
   refine NV rf rf (aU (M:=ai) (aF.id (L:=ai)) rfl rfl) ?_
   refine NC rf rf (iH Az) rf ?_
   refine NS 1 rf ?_
   refine NV rf rf (aR dQ rfl) ?_
   refine NE 1 rf ?_
   refine XV rf rf (cO rfl) ?_
   refine sW ?_
   refine jR ?_
   refine fz h rf (fun hc h=>?_) fun hc h=>?_
   ·
    obtain ⟨F7,h⟩:=dO h
    obtain ⟨mN,Fq,h⟩:=cN h
    refine eY ?_
    refine aq rfl (cU rfl rfl) ?_
    refine aq rfl (aU (M:=ai) (aF.id (L:=ai)) rfl rfl) ?_
    refine eu rfl (lf ai nP rfl rfl rfl rfl (by decide) (by decide)) (fun Lb _=>?_)
    refine eu rfl (kz (sz:=2) (L:=ai) (xs:=fx) (y:=nP) (bytes:=16) rfl rfl rfl (fZ F7).1 (fZ F7).2) (fun EC AG=>?_)
    rw [← Fq] at AG; rw [← Fq]
    refine W0 (qd (cs':=[EC]) [EC] (aF.id (L:=(o5 ai))) (v:=mN) ⟨_,rfl,(Fz.row (e:=57) (sz:=2) (L:=ai) (xs:=fx) rfl pK)⟩ (rv:=(⟨_,rfl,(Fz.row (e:=57) (sz:=2) (L:=ai) (xs:=mN) rfl AG)⟩ : ((o5 ai)).rep (Hs [Row EC 57 2 ai mN]) [EC] mN)) rfl rfl (Fz.row (e:=57) (sz:=2) (L:=ai) (xs:=mN) rfl AG).sl.cells rfl rfl) ?_
    refine SL 3 rf ?_
    exact iK oA rV hT ⟨gj,mN,bR,EC⟩ ⟨AG,h⟩ (ks:=[2,3,4,5,6,7,8,9,10]) rfl (by decide)
   ·
    refine qa ?_
    obtain ⟨xQ,CG,h⟩:=bp h
    refine ec mixed (.lq [] [(0,[12]),(1,[36]),(2,[8]),(3,[38]),(4,[37,39])] (.alt 5 [40] (.fin [] []) .no)) (by kernel_rfl) ?_
    refine T0 ?_
    refine NS 1 rf ?_
    refine NV rf rf (aR dQ rfl) ?_
    refine NV rf rf (aU (M:=ai) (aF.id (L:=ai)) rfl rfl) ?_
    refine NC rf rf (iH CG) rf ?_
    refine NE 1 rf ?_
    refine XV rf rf (cO rfl) ?_
    refine sW ?_
    refine jR ?_
    refine fz h rf (fun hc h=>?_) fun hc h=>?_
    ·
     obtain ⟨BG,Jz,h⟩:=cN h
     refine CU (α:=Bool × (List aI) × Value) [9,12] rf (fun (xP,ux,D7)=>[]) (fun (xP,ux,D7)=>[.cells Ku 57 (ai.enc nP), .obj dd (.deferred (some [])), .obj lo (.loop { rec with state:=.busy }),Row D7 57 2 ai ux, .cells BW 4 (LB.enc xP), .cells b9 44 ([D7]), .cells b8 57 (ai.enc bR), .cells b7 4 (LB.enc false), .cells b6 46 eZ, .cells b3 46 eN]) (fun (xP,ux,D7)=>ke D7 ux.length∧BG xP ux = some r) ?_ ?_
     ·
      refine SC 2 rf ?_
      refine aq rfl (ng (aF.id (L:=LB)) rfl) ?_
      refine SL 3 rf ?_
      refine fz h rf (fun hc h=>?_) fun hc h=>?_
      ·
       obtain ⟨F6,h⟩:=dO h
       obtain ⟨mM,Fp,h⟩:=cN h
       refine SC 2 rf ?_
       refine aq rfl (cU rfl rfl) ?_
       refine aq rfl (aU (M:=ai) (aF.id (L:=ai)) rfl rfl) ?_
       refine eu rfl (lf ai bR rfl rfl rfl rfl (by decide) (by decide)) (fun NN _=>?_)
       refine eu rfl (kz (sz:=2) (L:=ai) (xs:=fx) (y:=bR) (bytes:=16) rfl rfl rfl (fZ F6).1 (fZ F6).2) (fun EB AF=>?_)
       rw [← Fp] at AF; rw [← Fp]
       refine W0 (qd (cs':=[EB]) [EB] (aF.id (L:=(o5 ai))) (v:=mM) ⟨_,rfl,(Fz.row (e:=57) (sz:=2) (L:=ai) (xs:=fx) rfl pK)⟩ (rv:=(⟨_,rfl,(Fz.row (e:=57) (sz:=2) (L:=ai) (xs:=mM) rfl AF)⟩ : ((o5 ai)).rep (Hs [Row EB 57 2 ai mM]) [EB] mM)) rfl rfl (Fz.row (e:=57) (sz:=2) (L:=ai) (xs:=mM) rfl AF).sl.cells rfl rfl) ?_
       refine SL 3 rf ?_
       refine W0 (bA (M:=LB) (aF.id (L:=LB)) true true rfl rfl rfl rfl rfl) ?_
       refine sB ?_
       exact CE [1,2,3,4,5,6,7,8,9,10] (true,mM,EB) ⟨AF,h⟩ rf rf rf
      ·
       refine oX ?_
       exact CE [0,1,2,3,4,5,6,7,8,9] (gj,fx,sU) ⟨pK,h⟩ rf rf rf
     ·
      rintro ⟨xP,ux,D7⟩ ⟨I9,h⟩
      replace h:BG xP ux = some r:=h
      replace h:=yz Jz h
      obtain ⟨F5,h⟩:=dO h
      obtain ⟨rD,Ay,h⟩:=cN h
      refine eY ?_
      refine aq rfl (cU rfl rfl) ?_
      refine aq rfl (aU (M:=ai) (aF.id (L:=ai)) rfl rfl) ?_
      refine eu rfl (lf ai nP rfl rfl rfl rfl (by decide) (by decide)) (fun NM _=>?_)
      refine eu rfl (kz (sz:=2) (L:=ai) (xs:=ux) (y:=nP) (bytes:=16) rfl rfl rfl (fZ F5).1 (fZ F5).2) (fun EA AE=>?_)
      rw [← Ay] at AE; rw [← Ay]
      refine W0 (qd (cs':=[EA]) [EA] (aF.id (L:=(o5 ai))) (v:=rD) ⟨_,rfl,(Fz.row (e:=57) (sz:=2) (L:=ai) (xs:=ux) rfl I9)⟩ (rv:=(⟨_,rfl,(Fz.row (e:=57) (sz:=2) (L:=ai) (xs:=rD) rfl AE)⟩ : ((o5 ai)).rep (Hs [Row EA 57 2 ai rD]) [EA] rD)) rfl rfl (Fz.row (e:=57) (sz:=2) (L:=ai) (xs:=rD) rfl AE).sl.cells rfl rfl) ?_
      refine SL 3 rf ?_
      exact iK oA rV hT ⟨xP,rD,bR,EA⟩ ⟨AE,h⟩ (ks:=[2,3,4,5,6,7,8,9,10]) rfl (by decide)
    ·
     refine qa ?_
     obtain ⟨sY,yE,h⟩:=bp h
     refine ec mixed (.lq [] [(0,[12]),(1,[52]),(2,[8]),(3,[54]),(4,[53,55])] (.alt 5 [56] (.fin [] []) .no)) (by kernel_rfl) ?_
     refine T0 ?_
     refine NV rf rf (aU (M:=ai) (aF.id (L:=ai)) rfl rfl) ?_
     refine NC rf rf (iH yE) rf ?_
     refine NS 1 rf ?_
     refine NV rf rf (aR dQ rfl) ?_
     refine NE 1 rf ?_
     refine XV rf rf (cO rfl) ?_
     refine sW ?_
     refine jR ?_
     refine fz h rf (fun hc h=>?_) fun hc h=>?_
     ·
      obtain ⟨Bu,IQ,h⟩:=cN h
      refine SC 2 rf ?_
      refine aq rfl (aR dQ rfl) ?_
      refine aq rfl (aN rfl) ?_
      refine aq rfl (aR dD rfl) ?_
      refine aq rfl (aN rfl) ?_
      refine aq rfl (aR dD rfl) ?_
      refine aq rfl (sJ rfl rfl rfl) ?_
      refine aq rfl (eD (cs:=ai.enc Bu) rfl (by rw [IQ]; rfl)) ?_
      refine W0 (bA (M:=ai) (aF.id (L:=ai)) Bu Bu rfl rfl rfl rfl rfl) ?_
      refine SL 3 rf ?_
      exact iK oA rV hT ⟨gj,fx,Bu,sU⟩ ⟨pK,h⟩ (ks:=[1,2,3,4,5,6,7,8,9]) rfl (by decide)
     ·
      refine qa ?_
      obtain ⟨wC,CF,h⟩:=bp h
      refine ec mixed (.lq [] [(0,[12]),(1,[66]),(2,[8]),(3,[68]),(4,[67,69])] (.alt 5 [70] (.fin [] []) .no)) (by kernel_rfl) ?_
      refine T0 ?_
      refine NS 1 rf ?_
      refine NV rf rf (aR dQ rfl) ?_
      refine NV rf rf (aU (M:=ai) (aF.id (L:=ai)) rfl rfl) ?_
      refine NC rf rf (iH CF) rf ?_
      refine NE 1 rf ?_
      refine XV rf rf (cO rfl) ?_
      refine sW ?_
      refine jR ?_
      refine fz h rf (fun hc h=>?_) fun hc h=>?_
      ·
       obtain ⟨D4,IP,h⟩:=cN h
       refine SC 2 rf ?_
       refine aq rfl (aR dD rfl) ?_
       refine aq rfl (aN rfl) ?_
       refine aq rfl (aR dD rfl) ?_
       refine SL 2 rf ?_
       refine W0 (bA (M:=(LI .i64)) dD (wr .i64 (bR.N + nP.N)) D4 IP rfl rfl rfl rfl) ?_
       refine SL 3 rf ?_
       exact iK oA rV hT ⟨gj,fx,D4,sU⟩ ⟨pK,h⟩ (ks:=[1,2,3,4,5,6,7,8,9]) rfl (by decide)
      ·
       refine SC 2 rf ?_
       refine aq rfl (av rfl (bf.len _ f0)) ?_
       refine ST (C:=K) a0 (aF.id (L:=bU)) gE (mo f0) rf rf rf rf rf fun MQ f81=>?_
       refine W0 (bA (M:=LB) (aF.id (L:=LB)) false false rfl rfl rfl rfl rfl) ?_
       refine SL 5 rf ?_
       exact A8 hT (.inl ⟨rfl,rfl⟩) ⟨Code.ret,gj,fx,bR,a0,sU,MQ⟩ ⟨rfl,pK,(mo f81),h⟩ (ks:=[1,2,3,4,5,6,7,8,9]) rfl (by decide)
  ·
   rintro AU ⟨gj,fx,bR,sU⟩ ⟨pK,h⟩
   replace h:oK Cw Dm (bW.drop bW.length) gj fx bR = some r:=h
   replace h:=Fg Gb rfl h
   dsimp only [List.cons_append,List.nil_append]
   refine SX 5 rf ?_
   refine aq rfl (ng (aF.id (L:=LB)) rfl) ?_
   refine SL 3 rf ?_
   refine fz h rf (fun hc h=>?_) fun hc h=>?_
   ·
    obtain ⟨F4,h⟩:=dO h
    obtain ⟨rC,Fm,h⟩:=cN h
    refine eY ?_
    refine aq rfl (cU rfl rfl) ?_
    refine aq rfl (aU (M:=ai) (aF.id (L:=ai)) rfl rfl) ?_
    refine eu rfl (lf ai bR rfl rfl rfl rfl (by decide) (by decide)) (fun NL _=>?_)
    refine eu rfl (kz (sz:=2) (L:=ai) (xs:=fx) (y:=bR) (bytes:=16) rfl rfl rfl (fZ F4).1 (fZ F4).2) (fun xE w6=>?_)
    rw [← Fm] at w6; rw [← Fm]
    refine W0 (qd (cs':=[xE]) [xE] (aF.id (L:=(o5 ai))) (v:=rC) ⟨_,rfl,(Fz.row (e:=57) (sz:=2) (L:=ai) (xs:=fx) rfl pK)⟩ (rv:=(⟨_,rfl,(Fz.row (e:=57) (sz:=2) (L:=ai) (xs:=rC) rfl w6)⟩ : ((o5 ai)).rep (Hs [Row xE 57 2 ai rC]) [xE] rC)) rfl rfl (Fz.row (e:=57) (sz:=2) (L:=ai) (xs:=rC) rfl w6).sl.cells rfl rfl) ?_
    obtain ⟨sX,IM,h⟩:=cN h
    refine SL 4 rf ?_
    refine aq rfl (cU rfl rfl) ?_
    obtain ⟨HD,JM,f89⟩ : ∃cc,[xE] = cc∧(bU).rep (Hs [Row xE 57 2 ai rC]) cc sX:=⟨_,rfl,by rw [IM]; exact ⟨_,rfl,(Fz.row (e:=57) (sz:=2) (L:=ai) (xs:=rC) rfl w6).mono n8⟩⟩
    refine aq rfl (eD (cs:=HD) rfl (by rw [← JM]; first | rfl | (simp [oD,cz,show ∀k i,(Value.int k i).cells = #[Value.int k i] from fun _ _=>rfl,show ∀q,(Value.bool q).cells = #[Value.bool q] from fun _=>rfl,show ∀a,(Value.agg a).cells = a from fun _=>rfl,(Fz.row (e:=57) (sz:=2) (L:=ai) (xs:=rC) rfl w6).sl.cells,(Fz.row (e:=57) (sz:=2) (L:=ai) (xs:=rC) rfl w6).sl.size]; try rfl))) ?_
    refine ST (C:=(Hs [Row xE 57 2 ai rC])) sX (aF.id (L:=bU)) gE (mo f89) rf rf rf rf rf fun Kj f91=>?_
    refine W0 (bA (M:=LB) (aF.id (L:=LB)) true true rfl rfl rfl rfl rfl) ?_
    refine SL 3 rf ?_
    have h:=sj h; subst h
    refine bK (R:=[Row xE 57 2 ai rC]) (H':=[.obj AU (.deferred (some [])), .cells b7 4 (LB.enc true), .cells b6 46 Kj]) (ks:=[3,1,7,8]) rfl (by decide) ?_
    have LR:(bU).rep (fun w=>K w∧(Hs [.ext (bx [Row xE 57 2 ai rC]) (Hs [Row xE 57 2 ai rC])]) w) Kj sX:=bf.mono _ n8 f91
    exact jd (.tuple #[A Kj, .bool true],bx [Row xE 57 2 ai rC],Hs [Row xE 57 2 ai rC]) rfl (.agg rfl inferInstance inferInstance (bf.len _ f91) (.one rfl inferInstance inferInstance rfl .nil)) ⟨_,rfl,LR⟩ rfl (ks:=[0]) rfl (by decide)
   ·
    obtain ⟨vE,CC,h⟩:=cN h
    refine SC 4 rf ?_
    refine aq rfl (cU rfl rfl) ?_
    obtain ⟨MN,JL,f95⟩ : ∃cc,[sU] = cc∧(bU).rep (Hs [Row sU 57 2 ai fx]) cc vE:=⟨_,rfl,by rw [CC]; exact ⟨_,rfl,(Fz.row (e:=57) (sz:=2) (L:=ai) (xs:=fx) rfl pK).mono n8⟩⟩
    refine aq rfl (eD (cs:=MN) rfl (by rw [← JL]; first | rfl | (simp [oD,cz,show ∀k i,(Value.int k i).cells = #[Value.int k i] from fun _ _=>rfl,show ∀q,(Value.bool q).cells = #[Value.bool q] from fun _=>rfl,show ∀a,(Value.agg a).cells = a from fun _=>rfl,(Fz.row (e:=57) (sz:=2) (L:=ai) (xs:=fx) rfl pK).sl.cells,(Fz.row (e:=57) (sz:=2) (L:=ai) (xs:=fx) rfl pK).sl.size]; try rfl))) ?_
    refine ST (C:=(Hs [Row sU 57 2 ai fx])) vE (aF.id (L:=bU)) gE (mo f95) rf rf rf rf rf fun Ki f97=>?_
    refine W0 (bA (M:=LB) (aF.id (L:=LB)) true true rfl rfl rfl rfl rfl) ?_
    refine SL 3 rf ?_
    have h:=sj h; subst h
    refine bK (R:=[Row sU 57 2 ai fx]) (H':=[.obj AU (.deferred (some [])), .cells b7 4 (LB.enc true), .cells b6 46 Ki]) (ks:=[2,0,6,7]) rfl (by decide) ?_
    have LQ:(bU).rep (fun w=>K w∧(Hs [.ext (bx [Row sU 57 2 ai fx]) (Hs [Row sU 57 2 ai fx])]) w) Ki vE:=bf.mono _ n8 f97
    exact jd (.tuple #[A Ki, .bool true],bx [Row sU 57 2 ai fx],Hs [Row sU 57 2 ai fx]) rfl (.agg rfl inferInstance inferInstance (bf.len _ f97) (.one rfl inferInstance inferInstance rfl .nil)) ⟨_,rfl,LQ⟩ rfl (ks:=[0]) rfl (by decide)
  ·
   rintro AU j ⟨lN,wD,nR,Ex,B9,Dy⟩ ⟨rfl,FC,f53,h⟩
   dsimp only [List.cons_append,List.nil_append]
   refine SC 3 rf ?_
   have h:=sj h; subst h
   refine bK (R:=[]) (H':=[.obj AU (.deferred (some [])), .cells b7 4 (LB.enc false), .cells b6 46 Dy]) (ks:=[0,6,7]) rfl (by decide) ?_
   have LM:(bU).rep (fun w=>K w∧(Hs [.ext (bx []) (Hs [])]) w) Dy Ex:=bf.mono _ n8 f53
   exact jd (.tuple #[A Dy, .bool false],bx [],Hs []) rfl (.agg rfl inferInstance inferInstance (bf.len _ f53) (.one rfl inferInstance inferInstance rfl .nil)) ⟨_,rfl,LM⟩ rfl (ks:=[0]) rfl (by decide)
end Go.Proofs.Ytmdpbdhkmfjlhaa
namespace Go.Proofs.Ytmdpbdhkmfjlhaa
open Go Go.Bw
structure cG where
 bt:(List aI)
 o4:Int
abbrev cF:bf cG:=bf.via (LP (o5 ai) (LI .i64)) (fun x=>(x.bt,x.o4))
abbrev dJ:cG:=⟨[],0⟩
def fD:List Value:=[.slice none 0 0]++([.int .i64 0])
theorem gF {A:World→Prop}:cF.rep A fD dJ:=⟨_,_,rfl,⟨_,rfl,Fz.nil⟩,rfl⟩
theorem jt:aF cF (o5 ai) 0 (fun x=>x.bt) (fun x v=>{ x with bt:=v }):=(aF.fst aF.id).via _ _ _ 0 rfl (fun _=>rfl) (fun _ _=>rfl)
theorem jJ:aF cF (LI .i64) 1 (fun x=>x.o4) (fun x v=>{ x with o4:=v }):=(aF.snd aF.id).via _ _ _ 1 rfl (fun _=>rfl) (fun _ _=>rfl)
def fj (n:Nat) (a0:cG):Option cG:=
 some a0
theorem k8 {n a0 r K} [bz K] {eN} (f0:(cF).rep K eN a0) (h:fj n a0 = some r):Bw.Fn (α:=Nat × List Value) Try.prog 166 [A eN] K [] (fun (b0,c0)=>(cF).rep K c0 r) (fun (b0,c0)=>.func (.func 167) #[] #[Ptr b0 0]) (fun (b0,c0)=>[.cells b0 71 c0]):=by
 unfold fj at h
 refine fo Try.func166 (by kernel_rfl) rfl Try.ntmps166 rfl fun cx _ hro cQ hpre=>?_
 refine SC 2 rf ?_
 refine W1 rf (bS rfl) fun b1=>?_
 refine SL 10 rf ?_
 have h:=sj h; subst h
 exact cY ⟨b1,eN⟩ rfl (.tmp rfl .nil) (mo f0) rfl (ks:=[0]) rfl (by decide)
def dB (n:Nat) (a1:cG):Option (List (Int × aI)):=
 di (fun E9 (bW:Int) (dy:Int) =>
 cn (decide (dy < (a1.bt.length:Int))) (
 gu (dj dy a1.bt.length) <|
 lt ((a1.bt.getD (Int.toNat dy) default):aI) fun bR =>
 yl (bW,bR) <|
 E9 (wr .i64 (bW + (wr .i64 (bR.N * 32)))) (wr .i64 (dy + 1))) (
 some [])) n 0 0
theorem kf {n:Nat} {a1:cG} {l:List (Int × aI)} {K:World→Prop} {q1:Nat} {gO:List Value} (f1:(cF).rep K gO a1) (h:dB n a1 = some l):wA Try.prog 167 [Ptr q1 0] [.cells q1 71 gO] K (fun k=>[.int .i64 ((l.getD k default).1), .agg (ai.enc ((l.getD k default).2)).toArray]) l.length:=by
 unfold dB at h
 refine ⟨fun y J Jx bs=>eV Try.func167 (by kernel_rfl) rfl Try.ntmps167 rfl (fun cx cQ hpre hro=>?_)⟩
 haveI:=gZ (show cx.bs = bs++bx [.cells q1 71 gO] from cQ) hpre.1
 have hR:B0 Try.prog y cx.bs cx.w0 J Jx (fun k=>[.int .i64 ((l.getD k default).1), .agg (ai.enc ((l.getD k default).2)).toArray]) l.length:=by rw [show cx.bs = bs++bx [.cells q1 71 gO] from cQ]; exact hpre.2
 have C9:l.drop 0 = l:=rfl
 have vY:0 ≤ l.length:=Nat.zero_le _
 refine SC 8 rf ?_
 obtain ⟨HW,uV,f22⟩:=jt.sl f1
 refine aq rfl (cU rfl uV) ?_
 refine aq rfl (ef f22 rfl) ?_
 refine SL 4 rf ?_
 obtain ⟨Cr,yO,h⟩:=ox h
 refine LO (β:=Int × Int × Nat × (List (Int × aI)) × (List Nat)) [0,7,8] [0,1] (fun (yt,bW,dy,kM,EM,r6)=>[(3, .int .i64 bW),(9, .int .i64 dy)]) (fun (yt,bW,dy,kM,EM,r6)=>[.ext r6 (J kM r6), .cells q1 71 gO]) (fun (yt,bW,dy,kM,EM,r6)=>l.drop kM = EM∧kM ≤ l.length∧di Cr yt bW dy = some EM) (n,0,0,0,l,bs) ⟨C9,vY,h⟩ rf rf rf ?_
 rintro yt ⟨bW,dy,kM,EM,r6⟩ ⟨Gi,Ju,h⟩
 replace h:=ow yO h; obtain ⟨yt,rfl,h⟩:=h
 refine SC 6 rf ?_
 refine fz h rf (fun hc h=>?_) fun hc h=>?_
 ·
  obtain ⟨l8,h⟩:=dO h
  obtain ⟨bR,mC,h⟩:=cN h
  refine SC 6 rf ?_
  refine aq rfl (ew (m:=(Int.toNat dy)) f22 rfl rfl rfl (aC l8).1 (aC l8).2) ?_
  refine aq rfl (oY (M:=ai) f22 (aF.idx (L:=ai) (m:=(a1.bt.length)) (k:=2) ((Int.toNat dy)) (aC l8).2 rfl) rfl rfl (by decide)) ?_
  refine W1 rf (bj (L:=ai) (z:=hM) ⟨by kernel_rfl⟩) fun b5=>?_
  refine W0 (bA (M:=ai) (aF.id (L:=ai)) (a1.bt.getD (Int.toNat dy) default) bR mC rfl rfl rfl rfl) ?_
  refine SL 4 rf ?_
  obtain ⟨Ia,CP,h⟩:=zS h
  obtain ⟨CS,C0,C8,CR⟩:=drop_cons (Gi.trans CP)
  refine SC 3 rf ?_
  refine aq rfl (aU (M:=ai) (aF.id (L:=ai)) rfl rfl) ?_
  refine eu rfl (nL (bs:=r6) hR CS hro rfl (show oE _ _ = some [.int .i64 ((l.getD kM default).1), .agg (ai.enc ((l.getD kM default).2)).toArray] by rw [C0]; rfl)) (fun ⟨y4,vh⟩ _=>?_)
  refine SL 3 rf ?_
  refine rq rfl (fun hc=>?_) (fun hc=>?_)
  ·
   obtain rfl:y4 = false:=by simpa using hc
   dsimp only [cond_true,cond_false]
   refine SC 6 rf ?_
   exact cY (false,vh) rfl .nil trivial rfl (ks:=[1,2]) rfl (by decide)
  ·
   obtain rfl:y4 = true:=by simpa using hc
   dsimp only [cond_true,cond_false]
   refine SC 5 rf ?_
   refine aq rfl (aR dD rfl) ?_
   refine SL 10 rf ?_
   exact LN [1,2] (wr .i64 (bW + (wr .i64 (bR.N * 32))),wr .i64 (dy + 1),kM + 1,Ia,vh) ⟨C8,CR,h⟩ rf rf rf
 ·
  refine SC 4 rf ?_
  have h:=sj h; subst h
  have J5:=drop_nil Gi Ju
  refine oV (ks:=[0,1]) (H':=[.ext r6 (J (kM) r6), .cells q1 71 gO]) rfl (by decide) ?_
  refine oW (J:=J) (n:=l.length) J5 ?_
  exact sy (true,r6) rfl .nil trivial rfl (ks:=[0,1]) rfl (by decide)
def eC (n:Nat) (a0:cG):Option Int:=
 bd (fj n a0) fun aQ =>
 bd (dB n aQ) fun nk =>
 eU (fun (AS:Int × aI) As (eE:Int) =>
 lt (AS.1:Int) fun gB =>
 lt (AS.2:aI) fun cR =>
 lt (wr .i64 (eE + cR.N):Int) fun ij =>
 As ij) (fun (eE:Int) =>
 some eE) nk 0
theorem lJ {n a0 r K} [bz K] {eN} (f0:(cF).rep K eN a0) (h:eC n a0 = some r):qk Try.prog 150 [A eN] K (.int .i64 r):=by
 unfold eC at h
 refine fo Try.func150 (by kernel_rfl) rfl Try.ntmps150 rfl fun cx _ hro cQ hpre=>?_
 refine SC 2 rf ?_
 refine W1 rf (bS rfl) fun b1=>?_
 refine SL 5 rf ?_
 refine W1 rf (bj (L:=(LI .i64)) (z:=0) ⟨by kernel_rfl⟩) fun b3=>?_
 refine W0 (bA (M:=(LI .i64)) (aF.id (L:=(LI .i64))) 0 0 rfl rfl rfl rfl rfl) ?_
 obtain ⟨aQ,cv,h⟩:=bp h
 refine SL 5 rf ?_
 refine aq rfl (av rfl (bf.len _ f0)) ?_
 refine eu rfl (fC (k8 (K:=K) (mo f0) cv) rfl kn) (fun ⟨M1,Ei⟩ f24=>?_)
 replace f24:(cF).rep K Ei aQ:=f24
 dsimp only [List.cons_append,List.nil_append]
 refine SL 3 rf ?_
 obtain ⟨nk,pJ,h⟩:=bp h
 obtain ⟨uP,yS,vg,yX,h⟩:=pH h
 refine kS (K:=K) (α:=Int) (β:=Unit) hro rfl (kf (K:=K) (mo f24) pJ) (fun _=>rfl) rfl (fun kN=>fun eE=>eU uP vg (nk.drop kN) eE = some r) (fun kN=>fun eE=>[.cells b3 3 ((LI .i64).enc eE), .cells b1 71 eN]) (fun _ _=>False) (fun _=>[]) 0 h (ks:=[0,1,2]) rfl (by decide) ?_ ?_ ?_
 ·
  rintro kN eE lo dd rec c' hk h oA rV mZ hsi hT
  replace h:eU uP vg (nk.drop kN) eE = some r:=h
  replace h:=pF yS hk h
  haveI:=lY (K:=K) hsi
  dsimp only [oJ]
  obtain ⟨gB,rS,h⟩:=cN h
  rw [← rS]
  obtain ⟨cR,pI,h⟩:=cN h
  rw [← pI]
  refine eY ?_
  refine W1 rf (bj (L:=ai) (z:=hM) ⟨by kernel_rfl⟩) fun b5=>?_
  refine W0 (bA (M:=ai) (aF.id (L:=ai)) cR cR rfl rfl rfl rfl rfl) ?_
  refine sB ?_
  refine jo oA mZ ?_
  obtain ⟨ij,l7,h⟩:=cN h
  refine SC 2 rf ?_
  refine aq rfl (aR (aF.id (L:=(LI .i64))) rfl) ?_
  refine aq rfl (aN rfl) ?_
  refine aq rfl (aR dD rfl) ?_
  refine aq rfl (sJ rfl rfl rfl) ?_
  refine W0 (bA (M:=(LI .i64)) (aF.id (L:=(LI .i64))) (wr .i64 (eE + cR.N)) ij l7 rfl rfl rfl rfl) ?_
  refine SL 2 rf ?_
  exact iK oA rV hT ij h (ks:=[1,2,3,4]) rfl (by decide)
 ·
  rintro Ke eE h
  replace h:eU uP vg (nk.drop nk.length) eE = some r:=h
  replace h:=pG yX rfl h
  dsimp only [List.cons_append,List.nil_append]
  refine SX 4 rf ?_
  refine aq rfl (aR (aF.id (L:=(LI .i64))) rfl) ?_
  refine SL 4 rf ?_
  have h:=sj h; subst h
  exact jd () rfl (.tmp rfl .nil) trivial rfl (ks:=[]) rfl (by decide)
 ·
  intro dd j i hf; exact hf.elim
def dZ (n:Nat) (a0:cG):Option Bool:=
 di (fun IC (fa:Int) (gB:cu) =>
 cn (decide (fa < (a0.bt.length:Int))) (
 gu (dj fa a0.bt.length) <|
 lt ((a0.bt.getD (Int.toNat fa) default):aI) fun g5 =>
 bd (gl n gB g5.At g5.N) fun bR =>
 cn ((!bR.2)) (
 some false) (
 IC (wr .i64 (fa + 1)) bR.1)) (
 cl ((decide (0 ≤ a0.o4)) == true) (eC n a0) default fun D6 =>
 some (decide (0 ≤ a0.o4) && decide (a0.o4 ≤ (wr .i64 (D6 * 32)))))) n 0 jn
theorem mF {n a0 r K} [bz K] {eN} (f0:(cF).rep K eN a0) (h:dZ n a0 = some r):qk Try.prog 103 [A eN] K (.bool r):=by
 unfold dZ at h
 refine fo Try.func103 (by kernel_rfl) rfl Try.ntmps103 rfl fun cx _ hro cQ hpre=>?_
 refine SC 2 rf ?_
 refine W1 rf (bS rfl) fun b1=>?_
 refine SL 5 rf ?_
 refine W1 rf (cE (hz:=(⟨by kernel_rfl⟩ : dx Try.prog 46 eZ))) fun b3=>?_
 refine SL 6 rf ?_
 obtain ⟨HW,uV,f22⟩:=jt.sl f0
 refine aq rfl (cU rfl uV) ?_
 refine aq rfl (ef f22 rfl) ?_
 refine SL 4 rf ?_
 obtain ⟨Iu,FR,h⟩:=ox h
 refine nH ?_
 refine LO (β:=Int × cu × (List Value) × (List Nat) × (World→Prop)) [1,3,9,10] [0,1,2] (fun (E0,fa,gB,BV,cX,gU)=>[(11, .int .i64 fa)]) (fun (E0,fa,gB,BV,cX,gU)=>[.ext cX gU, .cells b3 46 BV, .cells b1 71 eN]) (fun (E0,fa,gB,BV,cX,gU)=>(bU).rep (Hs [.ext cX gU]) BV gB∧di Iu E0 fa gB = some r) (n,0,jn,eZ,[],(Hs [])) ⟨(bf.mono _ n8 (show (bU).rep (Hs []) eZ jn from gE)),h⟩ rf rf rf ?_
 rintro E0 ⟨fa,gB,BV,cX,gU⟩ ⟨f35,h⟩
 replace h:=ow FR h; obtain ⟨E0,rfl,h⟩:=h
 refine SC 6 rf ?_
 refine fz h rf (fun hc h=>?_) fun hc h=>?_
 ·
  obtain ⟨tM,h⟩:=dO h
  obtain ⟨g5,qu,h⟩:=cN h
  refine SC 6 rf ?_
  refine aq rfl (ew (m:=(Int.toNat fa)) f22 rfl rfl rfl (aC tM).1 (aC tM).2) ?_
  refine aq rfl (oY (M:=ai) f22 (aF.idx (L:=ai) (m:=(a0.bt.length)) (k:=2) ((Int.toNat fa)) (aC tM).2 rfl) rfl rfl (by decide)) ?_
  refine W1 rf (bj (L:=ai) (z:=hM) ⟨by kernel_rfl⟩) fun b5=>?_
  refine W0 (bA (M:=ai) (aF.id (L:=ai)) (a0.bt.getD (Int.toNat fa) default) g5 qu rfl rfl rfl rfl) ?_
  obtain ⟨bR,mC,h⟩:=bp h
  refine SL 4 rf ?_
  refine aq rfl (av rfl (bf.len _ f35)) ?_
  refine aq rfl (aN rfl) ?_
  refine aq rfl (aR dQ rfl) ?_
  refine aq rfl (aN rfl) ?_
  refine aq rfl (aR dD rfl) ?_
  refine CB (ob (K:=(Hs [.ext cX gU])) (mo f35) mC) rf rf ?_
  rintro Nu xm Ep ⟨MU,rfl,f46⟩
  replace f46:(bU).rep (fun w=>(Hs [.ext cX gU]) w∧Hs [.ext xm Ep] w) MU bR.1:=f46
  refine SL 3 rf ?_
  refine W1 rf (cE (hz:=(⟨by kernel_rfl⟩ : dx Try.prog 46 eZ))) fun b6=>?_
  refine ST (C:=(Hs [.ext cX gU, .ext xm Ep])) bR.1 (aF.id (L:=bU)) gE (mo f46) rf rf rf rf rf fun Kl f49=>?_
  refine SL 10 rf ?_
  refine fz h rf (fun hc h=>?_) fun hc h=>?_
  ·
   refine SC 12 rf ?_
   have h:=sj h; subst h
   exact RV rf (rt rf rn) rf
  ·
   refine SC 3 rf ?_
   refine aq rfl (av rfl (bf.len _ f49)) ?_
   refine ST (C:=(Hs [.ext cX gU, .ext xm Ep])) bR.1 (aF.id (L:=bU)) (mo f35) (mo f49) rf rf rf rf rf fun K6 f51=>?_
   refine SL 7 rf ?_
   refine bK (R:=[.ext xm Ep, .ext cX gU]) (H':=[.cells b6 46 Kl, .cells b5 57 (ai.enc g5), .cells b3 46 K6, .cells b1 71 eN]) (ks:=[1,3,0,2,4,5]) rfl (by decide) ?_
   exact LN [0,3,4] (wr .i64 (fa + 1),bR.1,K6,(bx [.ext xm Ep, .ext cX gU]),(Hs [.ext xm Ep, .ext cX gU])) ⟨(mo f51),h⟩ rf rf rf
 ·
  refine SC 6 rf ?_
  obtain ⟨D6,CH,_,h⟩:=j2 h
  refine ec mixed (.lq [] [(0,[1]),(1,[28]),(2,[29]),(3,[30]),(4,[1,31]),(5,[31,32]),(6,[1,31]),(7,[31,34]),(8,[31,35]),(9,[31,33,36]),(10,[31,37])] (.alt 11 [38] (.fin [] []) .no)) (by kernel_rfl) ?_
  refine T0 ?_
  refine NS 1 rf ?_
  refine NV rf rf (cU rfl (jJ.int f0)) ?_
  refine NS 2 rf ?_
  refine NG rf rf (dR rfl rfl) (fun hb=>aN rfl) ?_
  refine NG rf rf (dR rfl rfl) (fun hb=>cU (bN rfl hb) (jJ.int f0)) ?_
  refine NG rf rf (dR rfl rfl) (fun hb=>av rfl (bf.len _ f0)) ?_
  refine NG rf rf (dR rfl rfl) (fun hb=>dK (lJ (K:=K) (mo f0) (CH hb)) (aP (bN rfl hb) rfl) kn) ?_
  refine NG rf rf (dR rfl rfl) (fun hb=>zy (bN rfl hb) rfl rfl) ?_
  refine NG rf rf (dR rfl rfl) (fun hb=>sE (bN rfl hb) (bN rfl hb)) ?_
  refine NV rf rf (cA rfl rfl) ?_
  refine dH ?_
  refine XV rf rf (cO rfl) ?_
  refine sW ?_
  refine SX 2 rf ?_
  have h:=sj h; subst h
  exact RV rf (rt rf rn) rf
structure jN where
 bt:(List (Nat→Int))
 o4:Int
abbrev bY:jN:=⟨[],0⟩
def dm (n:Nat) (a0:jN):Option Bool:=
 jG (fun Aq (dz:Int) (c9:Int) (eE:(Nat→Bool)) =>
 cn (decide (c9 < (a0.bt.length:Int))) (
 gu (dj c9 a0.bt.length) <|
 gu (dj c9 a0.bt.length) <|
 cn (((((decide (((a0.bt.getD (Int.toNat c9) default) 1) < 1) || decide (64 < ((a0.bt.getD (Int.toNat c9) default) 1))) || decide (((a0.bt.getD (Int.toNat c9) default) 0) < 0)) || decide (63 < ((a0.bt.getD (Int.toNat c9) default) 0))) || decide (64 < (wr .i64 (((a0.bt.getD (Int.toNat c9) default) 0) + ((a0.bt.getD (Int.toNat c9) default) 1)))))) (
 some false) (
 di (fun E7 (lO:Int) (mw:(Nat→Bool)) =>
 cn (decide (lO < (wr .i64 (((a0.bt.getD (Int.toNat c9) default) 0) + ((a0.bt.getD (Int.toNat c9) default) 1))))) (
 gu (dj lO 64) <|
 cn ((mw (Int.toNat lO))) (
 some false) (
 gu (dj lO 64) <|
 lt ((dX mw (Int.toNat lO) true):(Nat→Bool)) fun nR =>
 E7 (wr .i64 (lO + 1)) nR)) (
 Aq (wr .i64 (dz + ((a0.bt.getD (Int.toNat c9) default) 1))) (wr .i64 (c9 + 1)) mw)) n ((a0.bt.getD (Int.toNat c9) default) 0) eE)) (
 some (decide (0 ≤ a0.o4) && decide (a0.o4 ≤ (wr .i64 (32 * dz)))))) n 0 0 (fun _=>false)
end Go.Proofs.Ytmdpbdhkmfjlhaa
namespace Go.Proofs.Ytmdpbdhkmfjlhaa
open Go Go.Bw
abbrev Rn:=aI
structure Can (l:List Rn):Prop where
  ic:∀y ∈ l,0 ≤ y.At∧1 ≤ y.N∧y.At + y.N ≤ 64
  pw:l.Pairwise fun y z=>y.At + y.N < z.At
def cV (l:List Rn) (p:Int):Prop:=∃y ∈ l,y.At ≤ p∧p < y.At + y.N
def ur (at_ k:Int):Prop:=1 ≤ k∧0 ≤ at_∧at_ + k ≤ 64
instance (a k:Int):Decidable (ur a k):=by unfold ur; infer_instance
def zR (x:Int):Prop:=-9223372036854775808 ≤ x∧x ≤ 9223372036854775807
theorem Can.nil:Can []:=⟨by simp, .nil⟩
theorem tX:∀{l:List Rn} {lo:Int},Can l→(∀y ∈ l,lo ≤ y.At)→lo ≤ 65→(l.length:Int) * 2 ≤ 65 - lo
  | [],lo,_,_,h=>by simp; omega
  | y::r,lo,h,hl,_=>by
    obtain ⟨h1,h2⟩:=List.pairwise_cons.1 h.pw
    have hy:=h.ic y (by simp)
    have hy':=hl y (by simp)
    have:=tX (l:=r) (lo:=y.At + y.N + 1) ⟨fun z hz=>h.ic z (by simp [hz]),h2⟩ (fun z hz=>by have:=h1 z hz; omega) (by omega)
    simp only [List.length_cons]; omega
theorem Can.len {l:List Rn} (h:Can l):l.length ≤ 32:=by
  have:=tX (lo:=0) h (fun y hy=>(h.ic y hy).1) (by omega)
  omega
theorem Can.two {l:List Rn} (h:Can l) {y z:Rn} (hy:y ∈ l) (hz:z ∈ l):y = z∨y.At + y.N < z.At∨z.At + z.N < y.At:=by
  have:=h.pw
  clear h
  induction l with
  | nil=>simp at hy
  | cons x r ih =>
    obtain ⟨h1,h2⟩:=List.pairwise_cons.1 this
    rcases List.mem_cons.1 hy with rfl | hy' <;> rcases List.mem_cons.1 hz with rfl | KM
    · exact .inl rfl
    · exact .inr (.inl (h1 z KM))
    · exact .inr (.inr (h1 y hy'))
    · exact ih hy' KM h2
theorem pB (p:Int):¬ cV [] p:=by simp [cV]
theorem nV {y:Rn} {r:List Rn} {p:Int}:cV (y::r) p↔(y.At ≤ p∧p < y.At + y.N)∨cV r p:=by simp [cV]
theorem fG {l r:List Rn} {p:Int}:cV (l++r) p↔cV l p∨cV r p:=by simp [cV,or_and_right,exists_or]
theorem tE {l:List Rn} (h:Can l) {p:Int} (hp:cV l p):0 ≤ p∧p < 64:=by
  obtain ⟨y,hy,h1,h2⟩:=hp
  have:=h.ic y hy
  omega
theorem Can.whole {l:List Rn} (h:Can l) {at_ k:Int} (hk:1 ≤ k) (hm:∀p,at_ ≤ p→p < at_ + k→cV l p):∃y ∈ l,y.At ≤ at_∧at_ + k ≤ y.At + y.N:=by
  obtain ⟨y,hy,h1,h2⟩:=hm at_ (by omega) (by omega)
  refine ⟨y,hy,h1,?_⟩
  refine Int.not_lt.1 fun hlt=>?_
  obtain ⟨z,hz,h3,h4⟩:=hm (y.At + y.N) (by omega) (by omega)
  rcases h.two hy hz with rfl | h5 | h5
  · omega
  · omega
  · have:=h.ic z hz; omega
theorem all_eq {n:Nat} {l:List Rn} (hl:l.length ≤ 100) (hn:110 ≤ n):∃xs,fb n l = some xs∧xs.map Prod.snd = l:=by
  unfold fb
  have key:∀(m x:Nat),x ≤ l.length→l.length - x < m→∃xs,dW (fun uM (eK:Int)=>cn (decide (eK < (l.length:Int))) (gu (dj eK l.length) <| lt ((l.getD (Int.toNat eK) default):aI) fun jE=>yl (eK,jE) <| uM (wr .i64 (eK + 1))) (some [])) m (x:Int) = some xs∧xs.map Prod.snd = l.drop x:=by
    intro m
    induction m with
    | zero=>intro x _ h; omega
    | succ m ih =>
      intro x hx hm
      simp only [dW]
      by_cases hc:x < l.length
      · rw [aA (by simpa using hc),aB (cC (by omega) (by omega)),lt_eq,bP (by omega) (by omega)]
        obtain ⟨xs,h1,h2⟩:=ih (x + 1) (by omega) (by omega)
        have e:((x:Int) + 1) = ((x + 1:Nat):Int):=by omega
        rw [e,h1]
        refine ⟨_,rfl,?_⟩
        rw [List.map_cons,h2,List.drop_eq_getElem_cons hc,Int.toNat_natCast,List.getD,List.getElem?_eq_getElem hc]
        rfl
      · rw [ak (by simpa using hc)]
        exact ⟨[],rfl,by rw [List.drop_eq_nil_of_le (by omega)]; rfl⟩
  obtain ⟨xs,h1,h2⟩:=key n 0 (by omega) (by omega)
  exact ⟨xs,h1,by simpa using h2⟩
theorem AR (n:Nat) (r:cu):iy n r = some r.l:=rfl
theorem Cq {n:Nat} {at_ k:Int} (ha:zR at_) (hk:zR k):∃b,jL n ⟨at_,k⟩ = some b∧(b = true↔ur at_ k):=by
  obtain ⟨a1,a2⟩:=ha
  obtain ⟨k1,k2⟩:=hk
  refine ⟨_,rfl,?_⟩
  show ((decide (1 ≤ k) && decide (0 ≤ at_)) && decide (at_ ≤ wr .i64 (64 - k))) = true↔_
  unfold ur
  by_cases h:1 ≤ k
  · rw [bP (by omega) (by omega)]; simp; omega
  · simp [h]
theorem y7 {n:Nat} {y:Rn} (h:0 ≤ y.At∧1 ≤ y.N∧y.At + y.N ≤ 64):cL n y = some (y.At + y.N):=by
  unfold cL; rw [bP (by omega) (by omega)]
theorem Can.cut {l:List Rn} (h:Can l) {i:Nat} (hi:i < l.length) {left:List Rn} {at_ k:Int} (hk:1 ≤ k) (hin:l[i].At ≤ at_∧at_ + k ≤ l[i].At + l[i].N)
    (hl:Can left) (hm:∀p,cV left p↔(l[i].At ≤ p∧p < l[i].At + l[i].N)∧¬ (at_ ≤ p∧p < at_ + k)) (hb:∀y ∈ left,l[i].At ≤ y.At∧y.At + y.N ≤ l[i].At + l[i].N) :
    Can (l.take i++left++l.drop (i + 1))∧∀p,cV (l.take i++left++l.drop (i + 1)) p↔cV l p∧¬ (at_ ≤ p∧p < at_ + k):=by
  have e:l = l.take i++l[i]::l.drop (i + 1):=by rw [← List.drop_eq_getElem_cons hi,List.take_append_drop]
  generalize hy:l[i] = y at *
  have yK:=h.pw
  rw [e] at yK
  obtain ⟨q1,q2,q3⟩:=List.pairwise_append.1 yK
  obtain ⟨q4,q5⟩:=List.pairwise_cons.1 q2
  have BJ:y ∈ l:=by rw [e]; simp
  have Fj:=h.ic y BJ
  refine ⟨⟨?_,?_⟩,fun p=>?_⟩
  · intro z hz
    rcases List.mem_append.1 hz with hz | hz
    · rcases List.mem_append.1 hz with hz | hz
      · exact h.ic z (List.mem_of_mem_take hz)
      · exact hl.ic z hz
    · exact h.ic z (List.mem_of_mem_drop hz)
  · refine List.pairwise_append.2 ⟨List.pairwise_append.2 ⟨q1,hl.pw,fun a ha b hb'=>?_⟩,q5,fun a ha b hb'=>?_⟩
    · have:=q3 a ha y (by simp); have:=hb b hb'; omega
    · rcases List.mem_append.1 ha with ha | ha
      · exact q3 a ha b (by simp [hb'])
      · have:=q4 b hb'; have:=hb a ha; omega
  · have hp:cV l p↔cV (l.take i) p∨(y.At ≤ p∧p < y.At + y.N)∨cV (l.drop (i + 1)) p:=by
      conv=>lhs; rw [e,fG,nV]
    rw [fG,fG,hm p,hp]
    have t1:cV (l.take i) p→p < y.At:=fun ⟨z,hz,h1,h2⟩=>by have:=q3 z hz y (by simp); omega
    have t2:cV (l.drop (i + 1)) p→y.At + y.N < p:=fun ⟨z,hz,h1,h2⟩=>by have:=q4 z hz; omega
    constructor
    · rintro ((c | ⟨c1,c2⟩) | c)
      · have:=t1 c; exact ⟨.inl c,by omega⟩
      · exact ⟨.inr (.inl c1),c2⟩
      · have:=t2 c; exact ⟨.inr (.inr c),by omega⟩
    · rintro ⟨c | c | c,d⟩
      · exact .inl (.inl c)
      · exact .inl (.inr ⟨c,d⟩)
      · exact .inr c
end Go.Proofs.Ytmdpbdhkmfjlhaa
namespace Go.Proofs.Ytmdpbdhkmfjlhaa
open Go Go.Bw
structure GI (l:List Rn) (at_ k:Int) (pre rest:List Rn) (put:Bool) (out:List Rn) (x:Rn):Prop where
  e:l = pre++rest
  free:∀p,cV pre p→¬ (at_ ≤ p∧p < at_ + k)
  lo:x.At ≤ at_∧(x.At = at_∨∃z ∈ pre,z.At + z.N = at_)
  hi:at_ + k ≤ x.At + x.N∧(x.At + x.N = at_ + k∨∃z ∈ pre,z.At + z.N = x.At + x.N)
  ic:0 ≤ x.At∧1 ≤ x.N∧x.At + x.N ≤ 64
  off:put = false→Can (out++[x])∧(∀z ∈ out,z ∈ pre)∧∀p,cV (out++[x]) p↔cV pre p∨(at_ ≤ p∧p < at_ + k)
  on:put = true→Can out∧(∀z ∈ out,z ∈ pre∨z = x)∧(∃z ∈ pre,x.At + x.N < z.At)∧∀p,cV out p↔cV pre p∨(at_ ≤ p∧p < at_ + k)
theorem jm {l:List Rn} {y:Rn} (h:Can l) (hy:0 ≤ y.At∧1 ≤ y.N∧y.At + y.N ≤ 64) (ha:∀z ∈ l,z.At + z.N < y.At):Can (l++[y]):=
  ⟨fun z hz=>by
    rcases List.mem_append.1 hz with hz | hz
    · exact h.ic z hz
    · rw [List.mem_singleton.1 hz]; exact hy,
   List.pairwise_append.2 ⟨h.pw,List.pairwise_singleton _ _,fun a MB b hb=>by rw [List.mem_singleton.1 hb]; exact ha a MB⟩⟩
theorem Can.init {l:List Rn} {y:Rn} (h:Can (l++[y])):Can l:=⟨fun z hz=>h.ic z (by simp [hz]),(List.pairwise_append.1 h.pw).1⟩
theorem Can.last {l:List Rn} {y:Rn} (h:Can (l++[y])):∀z ∈ l,z.At + z.N < y.At:=fun z hz=>(List.pairwise_append.1 h.pw).2.2 z hz y (by simp)
theorem fe {y:Rn} {p:Int}:cV [y] p↔y.At ≤ p∧p < y.At + y.N:=by rw [nV]; simp [cV]
def Gs (r' : cu) (g:Bool) (l:List Rn) (r:cu) (at_ k:Int):Prop:=
  (g = true↔∀p,at_ ≤ p→p < at_ + k→¬ cV l p)∧(g = false→r' = r)∧(g = true→Can r'.l∧∀p,cV r'.l p↔cV l p∨(at_ ≤ p∧p < at_ + k))
theorem AN {n:Nat} {r:cu} {l:List Rn} (hl:Can l) {at_ k:Int} (ho:ur at_ k):∀(xs:List (Int × Rn)) (pre:List Rn) (put:Bool) (out:List Rn) (x:Rn),GI l at_ k pre (xs.map Prod.snd) put out x →
    ∃r' g,oK (fun (GA:Int × aI) Ap (gj:Bool) (fx:(List aI)) (bR:aI) =>
      lt (GA.1:Int) fun sR =>
      lt (GA.2:aI) fun nP =>
      bd (cL n nP) fun Bv =>
      cn (decide (Bv < bR.At)) (
      gu (jP fx.length 1 16) <|
      lt (fx++([nP]):List aI) fun mN =>
      Ap gj mN bR) (
      bd (cL n bR) fun xQ =>
      cn (decide (xQ < nP.At)) (
      lt (fun (xP:Bool) (ux:(List aI)) =>
      gu (jP ux.length 1 16) <|
      lt (ux++([nP]):List aI) fun rD =>
      Ap xP rD bR) fun BG =>
      cn ((!gj)) (
      gu (jP fx.length 1 16) <|
      lt (fx++([bR]):List aI) fun mM =>
      BG true mM) (
      BG gj fx)) (
      bd (cL n nP) fun sY =>
      cn ((sY == bR.At)) (
      lt ({ At:=nP.At,N:=wr .i64 (nP.N + bR.N) }:aI) fun Bu =>
      Ap gj fx Bu) (
      bd (cL n bR) fun wC =>
      cn ((nP.At == wC)) (
      lt ({ bR with N:=wr .i64 (bR.N + nP.N) }:aI) fun D4 =>
      Ap gj fx D4) (
      some (r,false)))))) (fun (gj:Bool) (fx:(List aI)) (bR:aI) =>
      cn ((!gj)) (
      gu (jP fx.length 1 16) <|
      lt (fx++([bR]):List aI) fun rC =>
      lt ({ l:=rC }:cu) fun sX =>
      some (sX,true)) (
      lt ({ l:=fx }:cu) fun vE =>
      some (vE,true))) xs put out x = some (r',g)∧Gs r' g l r at_ k:=by
  intro xs
  induction xs with
  | nil =>
    intro pre put out x h
    have e:l = pre:=by have:=h.e; simpa using this
    subst e
    show ∃r' g,cn (!put) (gu (jP out.length 1 16) <| some ((⟨out++[x]⟩ : cu),true)) (some ((⟨out⟩ : cu),true)) = some (r',g)∧_
    have hfree:∀p,at_ ≤ p→p < at_ + k→¬ cV l p:=fun p h1 h2 hm=>h.free p hm ⟨h1,h2⟩
    cases put with
    | false =>
      obtain ⟨c1,c2,c3⟩:=h.off rfl
      have:=c1.init.len
      rw [aA (b:=!false) rfl,aB (jC (by omega) (by omega))]
      exact ⟨_,true,rfl,⟨fun _=>hfree,fun _=>rfl⟩,fun h=>(by cases h),fun _=>⟨c1,c3⟩⟩
    | true =>
      obtain ⟨c1,c2,c3,c4⟩:=h.on rfl
      rw [ak (b:=!true) rfl]
      exact ⟨_,true,rfl,⟨fun _=>hfree,fun _=>rfl⟩,fun h=>(by cases h),fun _=>⟨c1,c4⟩⟩
  | cons q xs ih =>
    obtain ⟨qi,y⟩:=q
    intro pre put out x h
    have he:l = (pre++[y])++xs.map Prod.snd:=by rw [h.e]; simp
    have BJ:y ∈ l:=by rw [h.e]; simp
    have Fj:=hl.ic y BJ
    have hpre:∀z ∈ pre,z.At + z.N < y.At:=fun z hz=>by
      have yK:=hl.pw
      rw [he] at yK
      exact (List.pairwise_append.1 (List.pairwise_append.1 yK).1).2.2 z hz y (by simp)
    have IE:∀z ∈ pre,0 ≤ z.At∧1 ≤ z.N∧z.At + z.N ≤ 64:=fun z hz=>hl.ic z (by rw [h.e]; simp [hz])
    obtain ⟨o1,o2,o3⟩:=ho
    obtain ⟨Hu,Il⟩:=h.lo
    obtain ⟨JC,xG⟩:=h.hi
    have Fk:=h.ic
    have ey:cL n y = some (y.At + y.N):=y7 Fj
    have ex:cL n x = some (x.At + x.N):=y7 Fk
    have hfree:(∀p,y.At ≤ p→p < y.At + y.N→¬ (at_ ≤ p∧p < at_ + k))→∀p,cV (pre++[y]) p→¬ (at_ ≤ p∧p < at_ + k):=fun hy p hp=>by
      rcases fG.1 hp with hp | hp
      · exact h.free p hp
      · obtain ⟨h1,h2⟩:=fe.1 hp; exact hy p h1 h2
    have pM:∀{z},z ∈ pre→z ∈ pre++[y]:=fun hz=>by simp [hz]
    have hlo:x.At = at_∨∃z ∈ pre++[y],z.At + z.N = at_:=Il.imp id fun ⟨z,hz,e⟩=>⟨z,pM hz,e⟩
    have hhi:x.At + x.N = at_ + k∨∃z ∈ pre++[y],z.At + z.N = x.At + x.N:=xG.imp id fun ⟨z,hz,e⟩=>⟨z,pM hz,e⟩
    have FL:∀p,cV (pre++[y]) p↔cV pre p∨(y.At ≤ p∧p < y.At + y.N):=fun p=>by rw [fG,fe]
    have hput:put = true→x.At + x.N < y.At:=fun hp=>by obtain ⟨z,hz,h1⟩:=(h.on hp).2.2.1; have:=hpre z hz; have:=IE z hz; omega
    simp only [oK]
    dsimp only [lt]
    rw [au ey]
    by_cases c1:y.At + y.N < x.At
    · have hf:put = false:=by
        cases put with
        | false=>rfl
        | true=>have:=hput rfl; omega
      subst hf
      obtain ⟨d1,d2,d3⟩:=h.off rfl
      have hlen:=d1.init.len
      rw [aA (by simpa using c1),aB (jC (by omega) (by omega))]
      refine ih (pre++[y]) false (out++[y]) x ⟨he,hfree fun p h1 h2=>by omega,⟨Hu,hlo⟩,⟨JC,hhi⟩,Fk,fun _=>⟨?_,?_,fun p=>?_⟩,fun h=>by cases h⟩
      · refine jm (jm d1.init Fj fun z hz=>hpre z (d2 z hz)) Fk fun z hz=>?_
        rcases List.mem_append.1 hz with hz | hz
        · exact d1.last z hz
        · rw [List.mem_singleton.1 hz]; exact c1
      · intro z hz
        rcases List.mem_append.1 hz with hz | hz
        · exact pM (d2 z hz)
        · rw [List.mem_singleton.1 hz]; simp
      · have:=d3 p
        rw [fG,fe] at this ⊢
        rw [fG,fe,FL]
        constructor
        · rintro ((c | c) | c)
          · rcases this.1 (.inl c) with c | c
            · exact .inl (.inl c)
            · exact .inr c
          · exact .inl (.inr c)
          · rcases this.1 (.inr c) with c | c
            · exact .inl (.inl c)
            · exact .inr c
        · rintro ((c | c) | c)
          · rcases this.2 (.inl c) with c | c
            · exact .inl (.inl c)
            · exact .inr c
          · exact .inl (.inr c)
          · rcases this.2 (.inr c) with c | c
            · exact .inl (.inl c)
            · exact .inr c
    rw [ak (by simpa using c1),au ex]
    by_cases c2:x.At + x.N < y.At
    · rw [aA (by simpa using c2)]
      have hfr:=hfree fun p h1 h2=>by omega
      cases put with
      | false =>
        obtain ⟨d1,d2,d3⟩:=h.off rfl
        have hlen:=d1.init.len
        have yN:=d1.len
        rw [aA (b:=!false) rfl,aB (jC (by omega) (by omega)),aB (jC (by omega) (by omega))]
        refine ih (pre++[y]) true (out++[x]++[y]) x ⟨he,hfr,⟨Hu,hlo⟩,⟨JC,hhi⟩,Fk,fun h=>(by cases h),fun _=>⟨?_,?_,⟨y,by simp,c2⟩,fun p=>?_⟩⟩
        · refine jm d1 Fj fun z hz=>?_
          rcases List.mem_append.1 hz with hz | hz
          · exact hpre z (d2 z hz)
          · rw [List.mem_singleton.1 hz]; exact c2
        · intro z hz
          simp only [List.mem_append,List.mem_singleton] at hz
          rcases hz with (hz | hz) | hz
          · exact .inl (pM (d2 z hz))
          · exact .inr hz
          · exact .inl (by simp [hz])
        · rw [fG,fe,d3 p,FL]
          constructor
          · rintro ((c | c) | c)
            · exact .inl (.inl c)
            · exact .inr c
            · exact .inl (.inr c)
          · rintro ((c | c) | c)
            · exact .inl (.inl c)
            · exact .inr c
            · exact .inl (.inr c)
      | true =>
        obtain ⟨d1,d2,d3,d4⟩:=h.on rfl
        have hlen:=d1.len
        rw [ak (b:=!true) rfl,aB (jC (by omega) (by omega))]
        refine ih (pre++[y]) true (out++[y]) x ⟨he,hfr,⟨Hu,hlo⟩,⟨JC,hhi⟩,Fk,fun h=>(by cases h),fun _=>⟨?_,?_,⟨y,by simp,c2⟩,fun p=>?_⟩⟩
        · refine jm d1 Fj fun z hz=>?_
          rcases d2 z hz with hz | rfl
          · exact hpre z hz
          · exact c2
        · intro z hz
          rcases List.mem_append.1 hz with hz | hz
          · exact (d2 z hz).imp pM id
          · exact .inl (by simp [List.mem_singleton.1 hz])
        · rw [fG,fe,d4 p,FL]
          constructor
          · rintro ((c | c) | c)
            · exact .inl (.inl c)
            · exact .inr c
            · exact .inl (.inr c)
          · rintro ((c | c) | c)
            · exact .inl (.inl c)
            · exact .inr c
            · exact .inl (.inr c)
    have hf:put = false:=by
      cases put with
      | false=>rfl
      | true=>have:=hput rfl; omega
    subst hf
    obtain ⟨d1,d2,d3⟩:=h.off rfl
    rw [ak (by simpa using c2),au ey]
    by_cases c3:y.At + y.N = x.At
    · rw [aA (by simpa using c3),bP (by omega) (by omega)]
      have KZ:x.At = at_:=by
        rcases Il with e | ⟨z,hz,e⟩
        · exact e
        · have:=hpre z hz; omega
      refine ih (pre++[y]) false out ⟨y.At,y.N + x.N⟩ ⟨he,hfree fun p h1 h2=>by omega,⟨by dsimp only; omega, .inr ⟨y,by simp,by omega⟩⟩,⟨by dsimp only; omega,?_⟩,by dsimp only; omega,fun _=>⟨?_,fun z hz=>pM (d2 z hz),fun p=>?_⟩,fun h=>by cases h⟩
      · rcases hhi with e | ⟨z,hz,e⟩
        · exact .inl (by dsimp only; omega)
        · exact .inr ⟨z,hz,by dsimp only; omega⟩
      · exact jm d1.init (by dsimp only; omega) fun z hz=>hpre z (d2 z hz)
      · have:=d3 p
        rw [fG,fe] at this ⊢
        rw [FL]
        dsimp only
        constructor
        · rintro (c | c)
          · rcases this.1 (.inl c) with c | c
            · exact .inl (.inl c)
            · exact .inr c
          · by_cases hp:p < x.At
            · exact .inl (.inr (by omega))
            · rcases this.1 (.inr (by omega)) with c | c
              · exact .inl (.inl c)
              · exact .inr c
        · rintro ((c | c) | c)
          · rcases this.2 (.inl c) with c | c
            · exact .inl c
            · exact .inr (by omega)
          · exact .inr (by omega)
          · exact .inr (by omega)
    rw [ak (by simpa using c3),au ex]
    by_cases c4:y.At = x.At + x.N
    · rw [aA (by simpa using c4),bP (by omega) (by omega)]
      refine ih (pre++[y]) false out ⟨x.At,x.N + y.N⟩ ⟨he,hfree fun p h1 h2=>by omega,⟨Hu,hlo⟩,⟨by dsimp only; omega, .inr ⟨y,by simp,by dsimp only; omega⟩⟩,by dsimp only; omega,fun _=>⟨?_,fun z hz=>pM (d2 z hz),fun p=>?_⟩,fun h=>by cases h⟩
      · exact jm d1.init (by dsimp only; omega) fun z hz=>d1.last z hz
      · have:=d3 p
        rw [fG,fe] at this ⊢
        rw [FL]
        dsimp only
        constructor
        · rintro (c | c)
          · rcases this.1 (.inl c) with c | c
            · exact .inl (.inl c)
            · exact .inr c
          · by_cases hp:p < x.At + x.N
            · rcases this.1 (.inr (by omega)) with c | c
              · exact .inl (.inl c)
              · exact .inr c
            · exact .inl (.inr (by omega))
        · rintro ((c | c) | c)
          · rcases this.2 (.inl c) with c | c
            · exact .inl c
            · exact .inr (by omega)
          · exact .inr (by omega)
          · exact .inr (by omega)
    rw [ak (by simpa using c4)]
    refine ⟨r,false,rfl,⟨fun h=>(by cases h),fun hno=>?_⟩,fun _=>rfl,fun h=>(by cases h)⟩
    have g1:y.At < at_ + k:=by
      rcases xG with e | ⟨z,hz,e⟩
      · omega
      · have:=hpre z hz; omega
    have g2:at_ < y.At + y.N:=by
      rcases Il with e | ⟨z,hz,e⟩
      · omega
      · have:=hpre z hz; omega
    by_cases g3:at_ ≤ y.At
    · exact absurd ⟨y,BJ,by omega,by omega⟩ (hno y.At g3 g1)
    · exact absurd ⟨y,BJ,by omega,by omega⟩ (hno at_ (by omega) (by omega))
theorem AO {n:Nat} (hn:110 ≤ n) {r:cu} (hr:Can r.l) {at_ k:Int} (ha:zR at_) (hk:zR k) :
    ∃r' g,gl n r at_ k = some (r',g)∧(g = true↔ur at_ k∧∀p,at_ ≤ p→p < at_ + k→¬ cV r.l p)∧(g = false→r' = r)∧(g = true→Can r'.l∧∀p,cV r'.l p↔cV r.l p∨(at_ ≤ p∧p < at_ + k)):=by
  unfold gl
  rw [lt_eq]
  obtain ⟨b,hb,hb'⟩:=Cq (n:=n) ha hk
  rw [au hb]
  cases b with
  | false=>exact ⟨r,false,rfl,⟨fun h=>(by cases h),fun h=>hb'.2 h.1⟩,fun _=>rfl,fun h=>(by cases h)⟩
  | true =>
    have ho:=hb'.1 rfl
    obtain ⟨o1,o2,o3⟩:=ho
    rw [ak (b:=!true) rfl,au (AR n r)]
    obtain ⟨xs,h1,h2⟩:=all_eq (n:=n) (l:=r.l) (by have:=hr.len; omega) hn
    rw [au h1]
    obtain ⟨r',g,h3,h4,h5,h6⟩:=AN (n:=n) (r:=r) hr (at_:=at_) (k:=k) ⟨o1,o2,o3⟩ xs [] false [] ⟨at_,k⟩ ⟨by simpa using h2.symm,fun p hp=>absurd hp (pB p),⟨Int.le_refl _, .inl rfl⟩,⟨Int.le_refl _, .inl rfl⟩,⟨o2,o1,o3⟩,
      fun _=>⟨jm Can.nil ⟨o2,o1,o3⟩ (by simp),by simp,fun p=>by rw [List.nil_append,fe]; simp [pB]⟩,fun h=>by cases h⟩
    exact ⟨r',g,h3,⟨fun hg=>⟨⟨o1,o2,o3⟩,h4.1 hg⟩,fun hg=>h4.2 hg.2⟩,h5,h6⟩
end Go.Proofs.Ytmdpbdhkmfjlhaa
namespace Go.Proofs.Ytmdpbdhkmfjlhaa
open Go Go.Bw
def ov (y:Rn) (i:Int):Int:=if i ≤ y.At then 0 else if y.At + y.N ≤ i then y.N else i - y.At
def lp (l:List Rn) (i:Int):Int:=(l.map fun y=>ov y i).sum
theorem kW (y:Rn) (l:List Rn) (i:Int):lp (y::l) i = ov y i + lp l i:=rfl
theorem jV:∀{l:List Rn},Can l→lp l 0 = 0
  | [],_=>rfl
  | y::r,h=>by
    have hy:=h.ic y (by simp)
    rw [kW,jV ⟨fun z hz=>h.ic z (by simp [hz]),(List.pairwise_cons.1 h.pw).2⟩]
    unfold ov; rw [if_pos hy.1]; rfl
theorem jW:∀{l:List Rn},Can l→∀i:Int,(cV l i→lp l (i + 1) = lp l i + 1)∧(¬ cV l i→lp l (i + 1) = lp l i)
  | [],_,i=>⟨fun h=>absurd h (pB i),fun _=>rfl⟩
  | y::r,h,i=>by
    obtain ⟨h1,h2⟩:=List.pairwise_cons.1 h.pw
    have hy:=h.ic y (by simp)
    obtain ⟨i1,i2⟩:=jW (l:=r) ⟨fun z hz=>h.ic z (by simp [hz]),h2⟩ i
    rw [kW,kW,nV]
    by_cases c:y.At ≤ i∧i < y.At + y.N
    · have hn:¬ cV r i:=fun ⟨z,hz,a,b⟩=>by have:=h1 z hz; omega
      rw [i2 hn]
      refine ⟨fun _=>?_,fun hh=>absurd (.inl c) hh⟩
      unfold ov
      rw [if_neg (by omega)]
      split <;> split <;> omega
    · have e:ov y (i + 1) = ov y i:=by
        unfold ov
        (repeat' split) <;> omega
      rw [e]
      refine ⟨fun hh=>?_,fun hh=>?_⟩
      · rw [i1 (hh.resolve_left c)]; omega
      · rw [i2 fun hm=>hh (.inr hm)]
def dL (l:List Rn):Int:=(l.map fun y=>y.N).sum
theorem fE (y:Rn) (l:List Rn):dL (y::l) = y.N + dL l:=rfl
theorem kE:∀{l:List Rn},Can l→lp l 64 = dL l
  | [],_=>rfl
  | y::r,h=>by
    have hy:=h.ic y (by simp)
    rw [kW,fE,kE ⟨fun z hz=>h.ic z (by simp [hz]),(List.pairwise_cons.1 h.pw).2⟩]
    unfold ov; rw [if_neg (by omega),if_pos hy.2.2]
theorem s9:∀{l:List Rn} {lo:Int},Can l→(∀y ∈ l,lo ≤ y.At)→lo ≤ 65→0 ≤ dL l∧dL l ≤ 65 - lo
  | [],lo,_,_,h=>by simp [dL]; omega
  | y::r,lo,h,hl,_=>by
    obtain ⟨h1,h2⟩:=List.pairwise_cons.1 h.pw
    have hy:=h.ic y (by simp)
    have hy':=hl y (by simp)
    have:=s9 (l:=r) (lo:=y.At + y.N + 1) ⟨fun z hz=>h.ic z (by simp [hz]),h2⟩ (fun z hz=>by have:=h1 z hz; omega) (by omega)
    rw [fE]; omega
theorem tV {n:Nat}:∀(xs:List (Int × Rn)) (s:Int),0 ≤ s→s ≤ 1000000 - dL (xs.map Prod.snd)→(∀e ∈ xs,1 ≤ e.2.N) →
    eU (fun (AS:Int × aI) As (eE:Int) =>
      lt (AS.1:Int) fun gB =>
      lt (AS.2:aI) fun cR =>
      lt (wr .i64 (eE + cR.N):Int) fun ij =>
      As ij) (fun (eE:Int) =>
      some eE) xs s = some (s + dL (xs.map Prod.snd))
  | [],s,_,_,_=>by show some s = _; simp [dL]
  | e::xs,s,h0,h1,h2=>by
    have:=h2 e (by simp)
    have hs:0 ≤ dL (xs.map Prod.snd):=by
      clear h1 h0
      have h3:∀e ∈ xs,1 ≤ e.2.N:=fun e he=>h2 e (by simp [he])
      clear h2 this
      induction xs with
      | nil=>simp [dL]
      | cons a xs ih=>have:=h3 a (by simp); have:=ih fun e he=>h3 e (by simp [he]); rw [List.map_cons,fE]; omega
    rw [List.map_cons,fE] at h1 ⊢
    show eU _ _ xs (wr .i64 (s + e.2.N)) = _
    rw [bP (by omega) (by omega),tV (n:=n) xs (s + e.2.N) (by omega) (by omega) (fun e he=>h2 e (by simp [he]))]
    congr 1; omega
def lR (a:Nat→Int):Rn:=⟨a 0,a 1⟩
structure RS (r:cu) (w:Nat→Bool):Prop where
  can:Can r.l
  mem:∀p:Nat,p < 64→(w p = true↔cV r.l p)
theorem RS.all {r:cu} {w:Nat→Bool} (h:RS r w) (p:Int):cV r.l p↔0 ≤ p∧p < 64∧w p.toNat = true:=by
  constructor
  · intro hm
    obtain ⟨a,b⟩:=tE h.can hm
    exact ⟨a,b,(h.mem p.toNat (by omega)).2 (by rw [Int.toNat_of_nonneg a]; exact hm)⟩
  · rintro ⟨a,b,d⟩
    have:=(h.mem p.toNat (by omega)).1 d
    rwa [Int.toNat_of_nonneg a] at this
theorem RS.take {r r' : cu} {w w' : Nat→Bool} {a k:Int} (h:RS r w) (hc:Can r'.l) (hm:∀p,cV r'.l p↔cV r.l p∧¬ (a ≤ p∧p < a + k)) (hw:∀p:Nat,w' p = if a ≤ (p:Int)∧(p:Int) < a + k then false else w p):RS r' w':=
  ⟨hc,fun p hp=>by
    rw [hw p,hm]
    by_cases c:a ≤ (p:Int)∧(p:Int) < a + k
    · rw [if_pos c]; simp [c]
    · rw [if_neg c,h.mem p hp]; exact ⟨fun x=>⟨x,c⟩,fun x=>x.1⟩⟩
end Go.Proofs.Ytmdpbdhkmfjlhaa
namespace Go.Proofs.Ytmdpbdhkmfjlhaa
open Go Go.Bw
theorem wH {l m x:List Rn} (hl:Can l) (hm:Can m) (hx:Can x) (h1:∀p,cV l p↔cV m p∨cV x p) (h2:∀p,cV m p→¬ cV x p):dL l = dL m + dL x:=by
  have key:∀i:Nat,lp l i = lp m i + lp x i:=by
    intro i
    induction i with
    | zero=>rw [Int.natCast_zero,jV hl,jV hm,jV hx]; rfl
    | succ i ih =>
      have e:((i + 1:Nat):Int) = (i:Int) + 1:=by omega
      rw [e]
      obtain ⟨a1,a2⟩:=jW hl i
      obtain ⟨b1,b2⟩:=jW hm i
      obtain ⟨c1,c2⟩:=jW hx i
      by_cases c:cV m i
      · rw [a1 ((h1 _).2 (.inl c)),b1 c,c2 (h2 _ c),ih]; omega
      · by_cases d:cV x i
        · rw [a1 ((h1 _).2 (.inr d)),b2 c,c1 d,ih]; omega
        · rw [a2 (fun h=>((h1 _).1 h).elim c d),b2 c,c2 d,ih]
  have:=key 64
  rw [show ((64:Nat):Int) = 64 from rfl,kE hl,kE hm,kE hx] at this
  exact this
theorem AY {a k:Int} (h:ur a k):Can [(⟨a,k⟩ : Rn)]:=jm (l:=[]) Can.nil (by unfold ur at h; exact ⟨h.2.1,h.1,h.2.2⟩) (by simp)
structure OW (first r:List Rn) (t:List Int):Prop where
  can:Can r
  nd:t.Nodup
  mem:∀p,cV first p↔cV r p∨p ∈ t
  apart:∀p,p ∈ t→¬ cV r p
theorem my:∀(k:Nat) {t:List Int},t.Nodup→(∀p ∈ t,0 ≤ p∧p < (k:Int))→t.length ≤ k
  | 0,[],_,_=>Nat.le_refl _
  | 0,x::t,_,h=>by have:=h x (by simp); omega
  | k + 1,t,hn,h=>by
    by_cases hk:(k:Int) ∈ t
    · have h1:=my k (hn.erase (k:Int)) fun x hx=>by
        have h2:=h x (List.mem_of_mem_erase hx)
        have h3:x ≠ k:=fun e=>by subst e; exact (List.Nodup.not_mem_erase hn) hx
        omega
      rw [List.length_erase_of_mem hk] at h1
      omega
    · have h1:=my k hn fun x hx=>by
        have h2:=h x hx
        have h3:x ≠ k:=fun e=>hk (e ▸ hx)
        omega
      omega
theorem OW.ic {first r:List Rn} {t:List Int} (hf:Can first) (h:OW first r t) {p:Int} (hp:p ∈ t):0 ≤ p∧p < 64:=tE hf ((h.mem p).2 (.inr hp))
theorem OW.len {first r:List Rn} {t:List Int} (hf:Can first) (h:OW first r t):t.length ≤ 64:=my 64 h.nd fun p hp=>h.ic hf hp
end Go.Proofs.Ytmdpbdhkmfjlhaa
namespace Go.Proofs.Ytmdpbdhkmfjlhaa
open Go Go.Bw
theorem zY {l:List (Nat→Int)} {i:Nat} (h:i < l.length):lR (l.getD i default) = (l.map lR)[i]'(by rw [List.length_map]; exact h):=by
  rw [List.getD,List.getElem?_eq_getElem h,List.getElem_map]; rfl
def BU:Int→List Rn→List (Int × Rn)
  | _,[]=>[]
  | b,y::r=>(b,y)::BU (b + 32 * y.N) r
def pc (l:List Rn):Prop:=∀y ∈ l,1 ≤ y.N
theorem kF:∀{l:List Rn},pc l→0 ≤ dL l
  | [],_=>by simp [dL]
  | y::r,h=>by
    have:=h y (by simp)
    have:=kF (l:=r) fun z hz=>h z (by simp [hz])
    rw [fE]; omega
theorem xk {n:Nat} {e:cG} (hn:e.bt.length < n) (hl:e.bt.length ≤ 1000) (hp:pc e.bt) (hs:dL e.bt ≤ 1000):dB n e = some (BU 0 e.bt):=by
  unfold dB
  have key:∀(m i:Nat) (b:Int),i ≤ e.bt.length→e.bt.length - i < m→0 ≤ b→b + 32 * dL (e.bt.drop i) ≤ 100000→di (fun E9 (bW:Int) (dy:Int) =>
      cn (decide (dy < (e.bt.length:Int))) (
      gu (dj dy e.bt.length) <|
      lt ((e.bt.getD (Int.toNat dy) default):aI) fun bR =>
      yl (bW,bR) <|
      E9 (wr .i64 (bW + (wr .i64 (bR.N * 32)))) (wr .i64 (dy + 1))) (
      some [])) m b (i:Int) = some (BU b (e.bt.drop i)):=by
    intro m
    induction m with
    | zero=>intro i b _ h; omega
    | succ m ih =>
      intro i b hi hm hb I4
      simp only [di]
      by_cases c:i < e.bt.length
      · have hg:e.bt.getD (Int.toNat (i:Int)) default = e.bt[i]:=by rw [Int.toNat_natCast,List.getD,List.getElem?_eq_getElem c]; rfl
        have hy:=hp _ (List.getElem_mem c)
        have hd:e.bt.drop i = e.bt[i]::e.bt.drop (i + 1):=List.drop_eq_getElem_cons c
        rw [hd,fE] at I4
        have hr:0 ≤ dL (e.bt.drop (i + 1)):=kF fun z hz=>hp z (List.mem_of_mem_drop hz)
        rw [aA (by simpa using c),aB (cC (by omega) (by omega)),lt_eq,hg,hd]
        rw [bP (x:=e.bt[i].N * 32) (by omega) (by omega),bP (x:=b + e.bt[i].N * 32) (by omega) (by omega),bP (x:=(i:Int) + 1) (by omega) (by omega)]
        have e1:((i:Int) + 1) = ((i + 1:Nat):Int):=by omega
        rw [e1,ih (i + 1) (b + e.bt[i].N * 32) (by omega) (by omega) (by omega) (by omega)]
        show some ((b,e.bt[i])::BU (b + e.bt[i].N * 32) (e.bt.drop (i + 1))) = some ((b,e.bt[i])::BU (b + 32 * e.bt[i].N) (e.bt.drop (i + 1)))
        rw [Int.mul_comm]
      · rw [ak (by simpa using c),List.drop_eq_nil_of_le (by omega)]; rfl
  have:=key n 0 0 (by omega) (by omega) (by omega) (by rw [List.drop_zero]; omega)
  simpa using this
theorem oU:∀(l:List Rn) (b:Int),(BU b l).map Prod.snd = l
  | [],_=>rfl
  | y::r,b=>by rw [BU,List.map_cons,oU r]
theorem yf {n:Nat} {e:cG} (hn:e.bt.length < n) (hl:e.bt.length ≤ 1000) (hp:pc e.bt) (hs:dL e.bt ≤ 1000):eC n e = some (dL e.bt):=by
  unfold eC
  rw [au (show fj n e = some e from rfl),au (xk hn hl hp hs)]
  have h0:=kF hp
  refine (tV (n:=n) (BU 0 e.bt) 0 (by omega) (by rw [oU]; omega) fun q hq=>hp q.2 (by rw [← oU e.bt 0]; exact List.mem_map_of_mem hq)).trans ?_
  rw [oU]; congr 1; omega
end Go.Proofs.Ytmdpbdhkmfjlhaa
namespace Go.Proofs.Ytmdpbdhkmfjlhaa
open Go Go.Bw
structure qj (l:List Rn):Prop where
  ic:∀y ∈ l,ur y.At y.N
  pw:l.Pairwise fun y z=>∀p,y.At ≤ p→p < y.At + y.N→¬ (z.At ≤ p∧p < z.At + z.N)
theorem qj.nil:qj []:=⟨by simp, .nil⟩
theorem l9 {l:List Rn} {y:Rn}:qj (l++[y])↔qj l∧ur y.At y.N∧∀p,y.At ≤ p→p < y.At + y.N→¬ cV l p:=by
  constructor
  · rintro ⟨h1,h2⟩
    obtain ⟨p1,p2,p3⟩:=List.pairwise_append.1 h2
    exact ⟨⟨fun z hz=>h1 z (by simp [hz]),p1⟩,h1 y (by simp),fun p q1 q2 ⟨z,hz,q3,q4⟩=>p3 z hz y (by simp) p q3 q4 ⟨q1,q2⟩⟩
  · rintro ⟨⟨h1,h2⟩,h3,h4⟩
    refine ⟨fun z hz=>?_,List.pairwise_append.2 ⟨h2,List.pairwise_singleton _ _,fun a ha b hb p q1 q2 q3=>?_⟩⟩
    · rcases List.mem_append.1 hz with hz | hz
      · exact h1 z hz
      · rw [List.mem_singleton.1 hz]; exact h3
    · rw [List.mem_singleton.1 hb] at q3
      exact h4 p q3.1 q3.2 ⟨a,ha,q1,q2⟩
theorem qj.nat {l:List Rn} (h:qj l):pc l:=fun y hy=>(h.ic y hy).1
theorem nm:∀(l m:List Rn),dL (l++m) = dL l + dL m
  | [],m=>by simp [dL]
  | y::r,m=>by rw [List.cons_append,fE,fE,nm r m]; omega
theorem s8 {l:List Rn} (h:Can l):∀i:Nat,lp l i ≤ i
  | 0=>by rw [Int.natCast_zero,jV h]; exact Int.le_refl _
  | i + 1=>by
    have:=s8 h i
    obtain ⟨a,b⟩:=jW h i
    have e:((i + 1:Nat):Int) = (i:Int) + 1:=by omega
    rw [e]
    by_cases c:cV l i
    · rw [a c]; omega
    · rw [b c]; omega
theorem yq {n:Nat} (hn:110 ≤ n) {e:cG} (hl:e.bt.length ≤ 80) (hr:∀y ∈ e.bt,zR y.At∧zR y.N):∃b,dZ n e = some b∧(b = true↔qj e.bt∧dL e.bt ≤ 64∧0 ≤ e.o4∧e.o4 ≤ 32 * dL e.bt):=by
  unfold dZ
  refine dN (fun (i:Int) (r:cu)=>0 ≤ i∧i ≤ e.bt.length∧Can r.l∧qj (e.bt.take i.toNat)∧(∀p,cV r.l p↔cV (e.bt.take i.toNat) p)∧dL r.l = dL (e.bt.take i.toNat)) (fun i _=>((e.bt.length:Int) - i).toNat)
    (fun o=>∃b,o = some b∧(b = true↔qj e.bt∧dL e.bt ≤ 64∧0 ≤ e.o4∧e.o4 ≤ 32 * dL e.bt)) ?_ n 0 jn ⟨by omega,by omega,Can.nil,qj.nil,fun p=>Iff.rfl,rfl⟩ (by omega)
  rintro kk i r ⟨i0,i1,hc,hg,hm,hs⟩ ih
  obtain ⟨i,rfl⟩:=Int.eq_ofNat_of_zero_le i0
  rw [Int.toNat_natCast] at hg hm hs
  by_cases c:i < e.bt.length
  · have hgd:e.bt.getD (Int.toNat (i:Int)) default = e.bt[i]:=by rw [Int.toNat_natCast,List.getD,List.getElem?_eq_getElem c]; rfl
    have hy:=hr _ (List.getElem_mem c)
    have ht:e.bt.take (i + 1) = e.bt.take i++[e.bt[i]]:=List.take_succ_eq_append_getElem c
    rw [aA (by simpa using c),aB (cC (by omega) (by omega)),lt_eq,hgd]
    obtain ⟨r',g,g1,g2,g3,g4⟩:=AO (n:=n) hn hc (at_:=e.bt[i].At) (k:=e.bt[i].N) hy.1 hy.2
    rw [au g1]
    have FX:g = true↔qj (e.bt.take (i + 1)):=by
      rw [g2,ht,l9]
      exact ⟨fun ⟨a,b⟩=>⟨hg,a,fun p q1 q2 q3=>b p q1 q2 ((hm p).2 q3)⟩,fun ⟨_,a,b⟩=>⟨a,fun p q1 q2 q3=>b p q1 q2 ((hm p).1 q3)⟩⟩
    cases g with
    | false =>
      refine ⟨false,rfl,fun h=>(by cases h),fun ⟨h,_⟩=>?_⟩
      rw [← List.take_append_drop (i + 1) e.bt] at h
      exact FX.2 ⟨fun y hy=>h.ic y (List.mem_append_left _ hy),(List.pairwise_append.1 h.pw).1⟩
    | true =>
      obtain ⟨c1,c2⟩:=g4 rfl
      have ho:=(g2.1 rfl).1
      rw [ak (b:=!true) rfl,bP (by omega) (by omega)]
      have e1:((i:Int) + 1).toNat = i + 1:=by omega
      refine ih _ _ ⟨by omega,by omega,c1,by rw [e1]; exact FX.1 rfl,fun p=>?_,?_⟩ (by omega)
      · rw [e1,ht,fG,fe,c2 p,hm p]
      · rw [e1,ht,nm,← hs]
        rw [wH c1 hc (AY ho) (fun p=>by rw [c2 p,fe]) (fun p hp hq=>(g2.1 rfl).2 p (fe.1 hq).1 (fe.1 hq).2 hp)]
  · rw [ak (by simpa using c)]
    obtain rfl:i = e.bt.length:=by omega
    rw [List.take_length] at hg hm hs
    have Je:=s9 (lo:=0) hc (fun y hy=>(hc.ic y hy).1) (by omega)
    have ME:dL r.l ≤ 64:=by rw [← kE hc]; exact s8 hc 64
    rw [cy (yf (n:=n) (by omega) (by omega) hg.nat (by rw [← hs]; omega))]
    refine ⟨_,rfl,?_⟩
    by_cases c0:0 ≤ e.o4
    · have e1:(bif decide (0 ≤ e.o4) == true then dL e.bt else default) = dL e.bt:=by simp [c0]
      rw [e1,bP (by omega) (by omega)]
      simp only [c0,decide_true,Bool.true_and,decide_eq_true_eq,true_and,← hs]
      exact ⟨fun h=>⟨hg,ME,by omega⟩,fun h=>by omega⟩
    · simp [c0]
end Go.Proofs.Ytmdpbdhkmfjlhaa
namespace Go.Proofs.Ytmdpbdhkmfjlhaa
open Go Go.Bw
structure Gx (l:List Rn):Prop where
  gd:qj l
  sum:dL l ≤ 64
theorem yu:∀{l:List Rn},pc l→(l.length:Int) ≤ dL l
  | [],_=>by simp [dL]
  | y::r,h=>by
    have h1:=h y (by simp)
    have h2:=yu (l:=r) fun z hz=>h z (by simp [hz])
    rw [fE,List.length_cons]; omega
theorem Gx.len {l:List Rn} (h:Gx l):l.length ≤ 64:=by have:=yu h.gd.nat; have:=h.sum; omega
theorem Gx.pos {l:List Rn} (h:Gx l):0 ≤ dL l:=kF h.gd.nat
theorem Ci {l:List (Nat→Int)} {i:Nat}:(l.getD i default) 0 = (lR (l.getD i default)).At:=rfl
theorem EE {l:List (Nat→Int)} {i:Nat}:(l.getD i default) 1 = (lR (l.getD i default)).N:=rfl
theorem qY {l:List Rn} {y:Rn} {p:Int}:cV (l++[y]) p↔cV l p∨(y.At ≤ p∧p < y.At + y.N):=by rw [fG,fe]
theorem qN {n:Nat} (hn:110 ≤ n) {x:jN} (hl:x.bt.length ≤ 80) (hr:∀y ∈ x.bt.map lR,zR y.At∧zR y.N):∃b,dm n x = some b∧(b = true↔qj (x.bt.map lR)∧0 ≤ x.o4∧x.o4 ≤ 32 * dL (x.bt.map lR)):=by
  unfold dm
  refine kK (fun (s i:Int) (t:Nat→Bool)=>0 ≤ i∧i ≤ x.bt.length∧qj ((x.bt.map lR).take i.toNat)∧s = dL ((x.bt.map lR).take i.toNat)∧∀p:Nat,p < 64→(t p = true↔cV ((x.bt.map lR).take i.toNat) p)) (fun _ i _=>((x.bt.length:Int) - i).toNat)
    (fun o=>∃b,o = some b∧(b = true↔qj (x.bt.map lR)∧0 ≤ x.o4∧x.o4 ≤ 32 * dL (x.bt.map lR))) ?_ n 0 0 _ ⟨by omega,by omega,qj.nil,rfl,fun p _=>⟨fun h=>by simp at h,fun h=>by simp [cV] at h⟩⟩ (by omega)
  rintro kk s i t ⟨i0,i1,hg,rfl,ht⟩ ih
  obtain ⟨i,rfl⟩:=Int.eq_ofNat_of_zero_le i0
  rw [Int.toNat_natCast] at *
  by_cases c:i < x.bt.length
  · have g1:dj (i:Int) x.bt.length = true:=cC (by omega) (by omega)
    have hi:i < (x.bt.map lR).length:=by rw [List.length_map]; exact c
    have hy:=hr _ (List.getElem_mem hi)
    have hgt:=zY c
    have Ee:(x.bt.map lR).take (i + 1) = (x.bt.map lR).take i++[(x.bt.map lR)[i]]:=List.take_succ_eq_append_getElem hi
    have kP:qj (x.bt.map lR)→qj ((x.bt.map lR).take (i + 1)):=fun h=>by
      rw [← List.take_append_drop (i + 1) (x.bt.map lR)] at h
      exact ⟨fun y hy=>h.ic y (List.mem_append_left _ hy),(List.pairwise_append.1 h.pw).1⟩
    have Fy:dL ((x.bt.map lR).take i) ≤ 80 * 64:=by
      have:∀(l:List Rn),(∀y ∈ l,ur y.At y.N)→dL l ≤ l.length * 64:=by
        intro l
        induction l with
        | nil=>intro _; simp [dL]
        | cons y r ih=>intro h; have h1:=h y (by simp); have:=ih fun z hz=>h z (by simp [hz]); unfold ur at h1; rw [fE,List.length_cons]; omega
      have h2:=this _ hg.ic
      have h3:((x.bt.map lR).take i).length ≤ 80:=by rw [List.length_take,List.length_map]; omega
      omega
    have Mc:0 ≤ dL ((x.bt.map lR).take i):=kF hg.nat
    rw [Ee] at kP
    generalize (x.bt.map lR)[i] = y at *
    rw [aA (by simpa using c)]
    simp only [Ci,EE,Int.toNat_natCast,hgt,aB g1]
    obtain ⟨⟨a1,a2⟩,n1,n2⟩:=hy
    by_cases hk:ur y.At y.N
    · obtain ⟨k1,k2,k3⟩:=hk
      rw [bP (x:=y.At + y.N) (by omega) (by omega),ak (by simp; omega)]
      refine dN (fun (p:Int) (t:Nat→Bool)=>y.At ≤ p∧p ≤ y.At + y.N∧(∀q,y.At ≤ q→q < p→¬ cV ((x.bt.map lR).take i) q)∧∀q:Nat,q < 64→(t q = true↔cV ((x.bt.map lR).take i) q∨(y.At ≤ (q:Int)∧(q:Int) < p))) (fun p _=>(y.At + y.N - p).toNat)
        (fun o=>∃b,o = some b∧(b = true↔qj (x.bt.map lR)∧0 ≤ x.o4∧x.o4 ≤ 32 * dL (x.bt.map lR))) ?_ n _ t ⟨by omega,by omega,fun q _ _=>by omega,fun q hq=>by rw [ht q hq]; exact ⟨.inl,fun h=>h.elim id fun h=>by omega⟩⟩ (by omega)
      rintro k4 p t2 ⟨p0,p1,p2,p3⟩ Fi
      obtain ⟨p,rfl⟩:=Int.eq_ofNat_of_zero_le (show 0 ≤ p by omega)
      by_cases d:(p:Int) < y.At + y.N
      · have e1:dj (p:Int) 64 = true:=cC (by omega) (by omega)
        rw [aA (by simpa using d),aB e1,Int.toNat_natCast]
        have hp:=p3 p (by omega)
        by_cases m:cV ((x.bt.map lR).take i) p
        · rw [aA (hp.2 (.inl m))]
          exact ⟨false,rfl,fun h=>(by cases h),fun ⟨h,_⟩=>absurd m ((l9.1 (kP h)).2.2 p p0 d)⟩
        · have:t2 p = false:=by
            cases hh:t2 p with
            | false=>rfl
            | true =>
              rcases hp.1 hh with h | h
              · exact absurd h m
              · omega
          rw [ak this,aB e1,lt_eq,bP (by omega) (by omega)]
          refine Fi _ _ ⟨by omega,by omega,fun q q1 q2=>?_,fun q hq=>?_⟩ (by omega)
          · by_cases e:q = p
            · subst e; exact m
            · exact p2 q q1 (by omega)
          · rw [bX]
            by_cases e:q = p
            · subst e; simp; exact .inr ⟨p0,by omega⟩
            · rw [if_neg e,p3 q hq]
              exact ⟨fun h=>h.imp id fun h=>⟨h.1,by omega⟩,fun h=>h.imp id fun h=>⟨h.1,by omega⟩⟩
      · rw [ak (by simpa using d),bP (by omega) (by omega),bP (by omega) (by omega)]
        have e1:((i:Int) + 1).toNat = i + 1:=by omega
        refine ih _ _ _ ⟨by omega,by omega,?_,?_,fun q hq=>?_⟩ (by omega)
        · rw [e1,Ee]
          exact l9.2 ⟨hg,⟨k1,k2,k3⟩,fun q q1 q2=>p2 q q1 (by omega)⟩
        · rw [e1,Ee,nm]; simp [dL]
        · rw [e1,Ee,qY,p3 q hq]
          exact ⟨fun h=>h.imp id fun h=>⟨h.1,by omega⟩,fun h=>h.imp id fun h=>⟨h.1,by omega⟩⟩
    · have hb:(((((decide (y.N < 1) || decide (64 < y.N)) || decide (y.At < 0)) || decide (63 < y.At)) || decide (64 < (wr .i64 (y.At + y.N)))):Bool) = true:=by
        unfold ur at hk
        by_cases h1:y.N < 1
        · simp [h1]
        by_cases h2:64 < y.N
        · simp [h2]
        by_cases h3:y.At < 0
        · simp [h3]
        by_cases h4:63 < y.At
        · simp [h4]
        rw [bP (x:=y.At + y.N) (by omega) (by omega)]
        have:64 < y.At + y.N:=by omega
        simp [this]
      rw [aA hb]
      exact ⟨false,rfl,fun h=>(by cases h),fun ⟨h,_⟩=>absurd (l9.1 (kP h)).2.1 hk⟩
  · rw [ak (by simpa using c)]
    have e:(x.bt.map lR).take i = x.bt.map lR:=List.take_of_length_le (by rw [List.length_map]; omega)
    rw [e] at hg ht ⊢
    have h2:dL (x.bt.map lR) ≤ 80 * 64∧0 ≤ dL (x.bt.map lR):=by
      have:∀(l:List Rn),(∀y ∈ l,ur y.At y.N)→dL l ≤ l.length * 64:=by
        intro l
        induction l with
        | nil=>intro _; simp [dL]
        | cons y r ih=>intro h; have h1:=h y (by simp); have:=ih fun z hz=>h z (by simp [hz]); unfold ur at h1; rw [fE,List.length_cons]; omega
      have h2:=this _ hg.ic
      rw [List.length_map] at h2
      exact ⟨by omega,kF hg.nat⟩
    rw [bP (by omega) (by omega)]
    refine ⟨_,rfl,?_⟩
    rw [Bool.and_eq_true,decide_eq_true_iff,decide_eq_true_iff]
    exact ⟨fun h=>⟨hg,h⟩,fun h=>h.2⟩
def wS (y:Rn):List Int:=(List.range y.N.toNat).map fun (k:Nat)=>y.At + (k:Int)
theorem tD {y:Rn} {p:Int}:p ∈ wS y↔y.At ≤ p∧p < y.At + y.N:=by
  unfold wS
  rw [List.mem_map]
  constructor
  · rintro ⟨k,hk,rfl⟩
    rw [List.mem_range] at hk; omega
  · intro h
    exact ⟨(p - y.At).toNat,by rw [List.mem_range]; omega,by omega⟩
theorem Ai (y:Rn):(wS y).Nodup:=by
  unfold wS
  rw [List.Nodup,List.pairwise_map]
  exact List.nodup_range.imp fun h e=>h (by omega)
theorem xZ {α:Type} {P:List α→Prop} (h0:P []) (h1:∀l y,P l→P (l++[y])) (l:List α):P l:=by
  have key:∀(r:List α),P r.reverse:=by
    intro r
    induction r with
    | nil=>exact h0
    | cons y r ih=>rw [List.reverse_cons]; exact h1 _ _ ih
  have:=key l.reverse
  rwa [List.reverse_reverse] at this
theorem Ab:∀(l:List Rn),qj l→∃t:List Int,t.Nodup∧(∀p,p ∈ t↔cV l p)∧(t.length:Int) = dL l:=by
  intro l
  induction l using xZ with
  | h0=>intro _; exact ⟨[],List.nodup_nil,by simp [cV],by simp [dL]⟩
  | h1 l y ih =>
    intro h
    obtain ⟨h1,h2,h3⟩:=l9.1 h
    obtain ⟨t,t1,t2,t3⟩:=ih h1
    refine ⟨t++wS y,List.nodup_append.2 ⟨t1,Ai y,fun a ha b hb e=>?_⟩,fun p=>?_,?_⟩
    · subst e
      have:=tD.1 hb
      exact h3 _ this.1 this.2 ((t2 _).1 ha)
    · rw [List.mem_append,t2,tD,qY]
    · have:=h2.1
      rw [List.length_append,nm]
      simp only [wS,List.length_map,List.length_range,dL,List.map_cons,List.map_nil,List.sum_cons,List.sum_nil] at *
      omega
theorem AP {l:List Rn} (h:qj l):dL l ≤ 64:=by
  obtain ⟨t,t1,t2,t3⟩:=Ab l h
  have:=my 64 t1 fun p hp=>by
    obtain ⟨y,hy,h1,h2⟩:=(t2 p).1 hp
    obtain ⟨a,b,c⟩:=h.ic y hy
    exact ⟨by omega,by omega⟩
  omega
end Go.Proofs.Ytmdpbdhkmfjlhaa
namespace Go.Proofs.Ytmdpbdhkmfjlhaa
open Go Go.Bw
structure M9 (e:cG):Prop where
  gx:Gx e.bt
  lo:0 ≤ e.o4
  hi:e.o4 ≤ 32 * dL e.bt
end Go.Proofs.Ytmdpbdhkmfjlhaa
namespace Go.Proofs.Ytmdpbdhkmfjlhaa
open Go Go.Bw
structure bG where
 Up:Int
 bu:Int
 E:jN
 Cells:(Nat→Int)
abbrev p9:bG:=⟨0,0,bY,(fun _=>0)⟩
structure ag where
 B:az
 R:(Nat→bG)
abbrev jc:ag:=⟨sx,(fun _=>p9)⟩
def bF (n:Nat) (a0:ag) (a1:Int):Option Bool:=
 bd (bD n a0.B a1) fun aQ =>
 some (decide (0 ≤ aQ))
structure kV where
 hO:aV
abbrev gM:bf kV:=bf.via ax (fun x=>x.hO)
abbrev nE:kV:=⟨fX⟩
theorem aL:aF gM ax 0 (fun x=>x.hO) (fun x v=>{ x with hO:=v }):=aF.id.via _ _ _ 0 rfl (fun _=>rfl) (fun _ _=>rfl)
structure br where
 Up:Int
 bu:Int
 E:cG
 Cells:(Nat→Int)
abbrev aM:bf br:=bf.via (LP (LI .u32) (LP (LI .i64) (LP cF (LA (LI .u32) 8)))) (fun x=>(x.Up,x.bu,x.E,x.Cells))
abbrev mc:br:=⟨0,0,dJ,(fun _=>0)⟩
def eo:List Value:=[.int .u32 0]++([.int .i64 0]++(fD++((((LA (LI .u32) 8)).enc (fun _=>0)))))
theorem ei {A:World→Prop}:aM.rep A eo mc:=⟨_,_,rfl,rfl,⟨_,_,rfl,rfl,⟨_,_,rfl,gF,fl⟩⟩⟩
theorem bZ:aF aM (LI .u32) 0 (fun x=>x.Up) (fun x v=>{ x with Up:=v }):=(aF.fst aF.id).via _ _ _ 0 rfl (fun _=>rfl) (fun _ _=>rfl)
theorem mh:aF aM (LI .i64) 1 (fun x=>x.bu) (fun x v=>{ x with bu:=v }):=(aF.snd (aF.fst aF.id)).via _ _ _ 1 rfl (fun _=>rfl) (fun _ _=>rfl)
theorem oh:aF aM cF 2 (fun x=>x.E) (fun x v=>{ x with E:=v }):=(aF.snd (aF.snd (aF.fst aF.id))).via _ _ _ 2 rfl (fun _=>rfl) (fun _ _=>rfl)
theorem js:aF aM (LA (LI .u32) 8) 4 (fun x=>x.Cells) (fun x v=>{ x with Cells:=v }):=(aF.snd (aF.snd (aF.snd aF.id))).via _ _ _ 4 rfl (fun _=>rfl) (fun _ _=>rfl)
structure aj where
 book:kV
 regions:(Nat→br)
abbrev ah:bf aj:=bf.via (LP gM (LA aM 32)) (fun x=>(x.book,x.regions))
abbrev eJ:aj:=⟨nE,(fun _=>mc)⟩
def aO:List Value:=((gM).enc nE)++((flat (fun _=>eo) 32))
theorem aK {A:World→Prop}:ah.rep A aO eJ:=⟨_,_,rfl,fl,⟨_,rfl,fun _ _=>ei⟩⟩
theorem aE:aF ah gM 0 (fun x=>x.book) (fun x v=>{ x with book:=v }):=(aF.fst aF.id).via _ _ _ 0 rfl (fun _=>rfl) (fun _ _=>rfl)
theorem cK:aF ah (LA aM 32) 96 (fun x=>x.regions) (fun x v=>{ x with regions:=v }):=(aF.snd aF.id).via _ _ _ 96 rfl (fun _=>rfl) (fun _ _=>rfl)
def dU (n:Nat) (a0:aj) (a1:Int):Option Int:=
 bd (bk n a1) fun aQ =>
 gu (dj aQ.1 32) <|
 bd (aJ n a0.book.hO ((a0.regions (Int.toNat aQ.1)).Up)) fun gN =>
 cn (gN) (
 some ((a0.regions (Int.toNat aQ.1)).Up)) (
 some 0)
theorem kQ {n a0 a1 r K} [bz K] {eN} (f0:(ah).rep K eN a0) (h:dU n a0 a1 = some r):qk Try.prog 105 [A eN, .int .u32 a1] K (.int .u32 r):=by
 unfold dU at h
 refine fo Try.func105 (by kernel_rfl) rfl Try.ntmps105 rfl fun cx _ hro cQ hpre=>?_
 refine SC 2 rf ?_
 refine W1 rf (bS rfl) fun b2=>?_
 obtain ⟨aQ,cv,h⟩:=bp h
 refine SL 6 rf ?_
 refine CV (bO cv) rf rf ?_
 obtain ⟨pR,h⟩:=dO h
 refine SL 12 rf ?_
 refine aq rfl (jq (m:=(Int.toNat aQ.1)) rfl rfl (aC pR).1 (aC pR).2) ?_
 refine aq rfl (iL rfl) ?_
 refine aq rfl (cU rfl (((cK.comp (aF.idx (L:=aM) (m:=32) (k:=12) ((Int.toNat aQ.1)) (aC pR).2 rfl)).comp bZ).int f0)) ?_
 obtain ⟨gN,kZ,h⟩:=bp h
 refine SL 7 rf ?_
 refine aq rfl (bq rfl (aW.iff.1 ((aE.c0 aL).get f0)) (aY _ _)) ?_
 refine aq rfl (ay rfl) ?_
 refine CV (aT kZ) rf rf ?_
 refine SL 2 rf ?_
 refine fz h rf (fun hc h=>?_) fun hc h=>?_
 ·
  refine SC 8 rf ?_
  have h:=sj h; subst h
  exact RV rf (rt rf rn) rf
 ·
  refine SC 8 rf ?_
  have h:=sj h; subst h
  exact RV rf (rt rf rn) rf
def dc (n:Nat) (a0:aj) (a1:Int):Option (br × Int):=
 bd (aJ n a0.book.hO a1) fun aQ =>
 cn ((!aQ)) (
 lt ({ Up:=0,bu:=0,E:=dJ,Cells:=(fun _=>0) }:br) fun bT =>
 some (bT,4)) (
 bd (bk n a1) fun eE =>
 gu (dj eE.1 32) <|
 lt ((a0.regions (Int.toNat eE.1)):br) fun fa =>
 bd (dU n a0 a1) fun kA =>
 lt ({ fa with Up:=kA }:br) fun ij =>
 some (ij,0))
theorem iG {n a0 a1 r K} [bz K] {eN} (f0:(ah).rep K eN a0) (h:dc n a0 a1 = some r):uv Try.prog 39 [A eN, .int .u32 a1] K (fun J v=>∃u0,v = (.tuple #[A u0, .int .i64 r.2])∧(aM).rep (fun w=>K w∧J w) u0 (r.1)):=by
 unfold dc at h
 refine fo Try.func39 (by kernel_rfl) rfl Try.ntmps39 rfl fun cx _ hro cQ hpre=>?_
 refine SC 2 rf ?_
 refine W1 rf (bS rfl) fun b2=>?_
 refine W1 rf (cE (hz:=(⟨by kernel_rfl⟩ : dx Try.prog 74 eo))) fun b4=>?_
 obtain ⟨aQ,cv,h⟩:=bp h
 refine SL 8 rf ?_
 refine aq rfl (bq rfl (aW.iff.1 ((aE.c0 aL).get f0)) (aY _ _)) ?_
 refine aq rfl (ay rfl) ?_
 refine CV (aT cv) rf rf ?_
 refine SL 3 rf ?_
 refine fz h rf (fun hc h=>?_) fun hc h=>?_
 ·
  obtain ⟨bT,iD,h⟩:=cN h
  refine SC 2 rf ?_
  obtain ⟨Ei,JP,f24⟩ : ∃cc,(((LI .u32).enc 0)++(((LI .i64).enc 0)++(fD++((LA (LI .u32) 8).enc (fun _=>0))))) = cc∧(aM).rep (Hs []) cc bT:=⟨_,rfl,by rw [iD]; exact ⟨_,_,rfl,fl,⟨_,_,rfl,fl,⟨_,_,rfl,gF,fl⟩⟩⟩⟩
  refine aq rfl (eD (cs:=Ei) rfl (by rw [← JP]; rfl)) ?_
  refine ST (C:=(Hs [])) bT (aF.id (L:=aM)) ei (mo f24) rf rf rf rf rf fun GQ f26=>?_
  refine SL 5 rf ?_
  have h:=sj h; subst h
  exact qh [] rf rf (ra rf (bf.len _ f26) (rt rf rn)) ⟨_,rfl,(mo f26)⟩
 ·
  obtain ⟨eE,rT,h⟩:=bp h
  refine SC 5 rf ?_
  refine CV (bO rT) rf rf ?_
  obtain ⟨C4,h⟩:=dO h
  obtain ⟨fa,uS,h⟩:=cN h
  refine SL 11 rf ?_
  refine aq rfl (jq (m:=(Int.toNat eE.1)) rfl rfl (aC C4).1 (aC C4).2) ?_
  obtain ⟨GN,Dd,f31⟩:=yb ((cK.comp (aF.idx (L:=aM) (m:=32) (k:=12) ((Int.toNat eE.1)) (aC C4).2 rfl)).get f0)
  refine aq rfl (bq rfl Dd (bf.len _ f31)) ?_
  refine W1 rf (cE (hz:=(⟨by kernel_rfl⟩ : dx Try.prog 74 eo))) fun b8=>?_
  refine ST (C:=K) fa (aF.id (L:=aM)) ei (mo f31) uS rf rf rf rf fun MX f34=>?_
  obtain ⟨kA,uR,h⟩:=bp h
  obtain ⟨ij,l7,h⟩:=cN h
  refine SL 4 rf ?_
  refine aq rfl (av rfl (bf.len _ f0)) ?_
  refine aq rfl (ay rfl) ?_
  refine CV (kQ (K:=K) (mo f0) uR) rf rf ?_
  refine aq rfl (aN rfl) ?_
  refine ST (C:=K) ij bZ (mo f34) fl l7 rf rf rf rf fun MW f38=>?_
  refine SL 4 rf ?_
  refine aq rfl (av rfl (bf.len _ f38)) ?_
  refine ST (C:=K) ij (aF.id (L:=aM)) ei (mo f38) rf rf rf rf rf fun MV f40=>?_
  refine SL 4 rf ?_
  have h:=sj h; subst h
  exact qh [] rf rf (ra rf (bf.len _ f40) (rt rf rn)) ⟨_,rfl,(mo f40)⟩
def dM (n:Nat) (a0:ag) (a1:Int):Option (ag × Int):=
 bd (bD n a0.B a1) fun aQ =>
 cn (decide (aQ < 0)) (
 some (a0,4)) (
 bd (gY n a0.B a1) fun nk =>
 lt ({ a0 with B:=nk.1 }:ag) fun dz =>
 lt ({ Up:=0,bu:=0,E:=bY,Cells:=(fun _=>0) }:bG) fun eK =>
 gu (dj aQ 32) <|
 lt ({ dz with R:=(dX dz.R (Int.toNat aQ) eK) }:ag) fun gB =>
 di (fun BF (gV:Int) (lN:ag) =>
 cn (decide (gV < 32)) (
 gu (dj gV 32) <|
 cn ((((lN.R (Int.toNat gV)).Up) == a1)) (
 gu (dj gV 32) <|
 lt ({ lN with R:=(dX lN.R (Int.toNat gV) ({ (lN.R (Int.toNat gV)) with Up:=0 })) }:ag) fun sR =>
 BF (wr .i64 (gV + 1)) sR) (
 BF (wr .i64 (gV + 1)) lN)) (
 some (lN,0))) n 0 gB)
def dg (n:Nat) (a0:ag) (a1:Int) (a2:Int):Option (ag × Int × Int):=
 cl ((a1 != 0) == true) (bF n a0 a1) default fun aQ =>
 cn (((a1 != 0) && (!aQ))) (
 some (a0,0,4)) (
 cn ((decide (a2 < 0) || decide (64 < a2))) (
 some (a0,0,2)) (
 bd (gG n a0.B) fun eE =>
 cn ((eE.2 == 0)) (
 some (a0,0,7)) (
 lt ({ a0 with B:=eE.1 }:ag) fun fa =>
 bd (bD n eE.1 eE.2) fun kA =>
 lt ({ Up:=a1,bu:=a2,E:=bY,Cells:=(fun _=>0) }:bG) fun ij =>
 gu (dj kA 32) <|
 lt ({ fa with R:=(dX fa.R (Int.toNat kA) ij) }:ag) fun g5 =>
 some (g5,eE.2,0))))
def bQ (n:Nat) (a0:ag) (a1:Int) (a2:Int):Option Bool:=
 dW (fun uN (bT:Int) =>
 cn ((bT != 0)) (
 bd (bD n a0.B bT) fun dz =>
 gu (dj dz 32) <|
 cn ((((a0.R (Int.toNat dz)).Up) == a1)) (
 some (a1 != 0)) (
 uN ((a0.R (Int.toNat dz)).Up))) (
 some false)) n a2
def fc (n:Nat) (a0:ag) (a1:Int) (a2:Int):Option (ag × Int):=
 bd (bF n a0 a1) fun aQ =>
 cl (((!aQ) == false) && ((a2 != 0) == true)) (bF n a0 a2) default fun bT =>
 cn (((!aQ) || ((a2 != 0) && (!bT)))) (
 some (a0,4)) (
 cl (((a2 != 0) == true) && ((a2 == a1) == false)) (bQ n a0 a1 a2) default fun dz =>
 cn (((a2 != 0) && ((a2 == a1) || dz))) (
 some (a0,12)) (
 bd (bD n a0.B a1) fun bW =>
 gu (dj bW 32) <|
 lt ({ a0 with R:=(dX a0.R (Int.toNat bW) ({ (a0.R (Int.toNat bW)) with Up:=a2 })) }:ag) fun fa =>
 some (fa,0)))
def gX (n:Nat) (a0:ag) (a1:Int) (a2:bG):Option (ag × Int):=
 bd (bD n a0.B a1) fun aQ =>
 cn (decide (aQ < 0)) (
 some (a0,4)) (
 cl ((decide (a2.bu < 0) || decide (64 < a2.bu)) == false) (dm n a2.E) default fun c9 =>
 cn (((decide (a2.bu < 0) || decide (64 < a2.bu)) || (!c9))) (
 some (a0,2)) (
 gu (dj aQ 32) <|
 lt ({ a2 with Up:=(a0.R (Int.toNat aQ)).Up }:bG) fun fa =>
 gu (dj aQ 32) <|
 lt ({ a0 with R:=(dX a0.R (Int.toNat aQ) fa) }:ag) fun ij =>
 some (ij,0)))
def dk (n:Nat) (a0:aj) (a1:Int):Option (aj × Int):=
 bd (fK n a0.book.hO a1) fun aQ =>
 cn ((!aQ.2)) (
 some (a0,4)) (
 lt ({ a0 with book:={ a0.book with hO:=aQ.1 } }:aj) fun nk =>
 bd (bk n a1) fun eE =>
 lt ({ Up:=0,bu:=0,E:=dJ,Cells:=(fun _=>0) }:br) fun eK =>
 gu (dj eE.1 32) <|
 lt ({ nk with regions:=(dX nk.regions (Int.toNat eE.1) eK) }:aj) fun gB =>
 some (gB,0))
theorem m9 {n a0 a1 r K} [bz K] {eN} (f0:(ah).rep K eN a0) (h:dk n a0 a1 = some r):uv Try.prog 33 [A eN, .int .u32 a1] K (fun J v=>∃u0,v = (.tuple #[A u0, .int .i64 r.2])∧(ah).rep (fun w=>K w∧J w) u0 (r.1)):=by
 unfold dk at h
 refine fo Try.func33 (by kernel_rfl) rfl Try.ntmps33 rfl fun cx _ hro cQ hpre=>?_
 refine SC 2 rf ?_
 refine W1 rf (bS rfl) fun b2=>?_
 refine W1 rf (cE (hz:=(⟨by kernel_rfl⟩ : dx Try.prog 77 aO))) fun b4=>?_
 obtain ⟨aQ,cv,h⟩:=bp h
 refine SL 7 rf ?_
 refine aq rfl (bq rfl (aW.iff.1 ((aE.c0 aL).get f0)) (aY _ _)) ?_
 refine aq rfl (ay rfl) ?_
 refine CV (nf cv) rf rf ?_
 refine SL 3 rf ?_
 refine W1 rf (bj (L:=ax) (z:=fX) ⟨by kernel_rfl⟩) fun b6=>?_
 refine W0 (bA (M:=ax) (aF.id (L:=ax)) aQ.1 aQ.1 rfl rfl rfl rfl rfl) ?_
 refine SL 10 rf ?_
 refine fz h rf (fun hc h=>?_) fun hc h=>?_
 ·
  refine SC 2 rf ?_
  refine aq rfl (av rfl (bf.len _ f0)) ?_
  refine ST (C:=K) a0 (aF.id (L:=ah)) aK (mo f0) rf rf rf rf rf fun Km f23=>?_
  refine SL 5 rf ?_
  have h:=sj h; subst h
  exact qh [] rf rf (ra rf (bf.len _ f23) (rt rf rn)) ⟨_,rfl,(mo f23)⟩
 ·
  obtain ⟨nk,pJ,h⟩:=cN h
  refine SC 4 rf ?_
  refine aq rfl (aU (M:=ax) (aF.id (L:=ax)) rfl rfl) ?_
  refine SL 2 rf ?_
  refine ST (C:=K) nk (aE.c0 aL) (mo f0) fl pJ rf rf rf rf fun DA f27=>?_
  obtain ⟨eE,rT,h⟩:=bp h
  refine SL 5 rf ?_
  refine CV (bO rT) rf rf ?_
  obtain ⟨eK,uU,h⟩:=cN h
  obtain ⟨u4,h⟩:=dO h
  obtain ⟨gB,rS,h⟩:=cN h
  refine SL 10 rf ?_
  obtain ⟨GN,Dd,f31⟩ : ∃cc,(((LI .u32).enc 0)++(((LI .i64).enc 0)++(fD++((LA (LI .u32) 8).enc (fun _=>0))))) = cc∧(aM).rep (Hs []) cc eK:=⟨_,rfl,by rw [uU]; exact ⟨_,_,rfl,fl,⟨_,_,rfl,fl,⟨_,_,rfl,gF,fl⟩⟩⟩⟩
  refine aq rfl (eD (cs:=GN) rfl (by rw [← Dd]; rfl)) ?_
  refine aq rfl (aN rfl) ?_
  refine aq rfl (jq (m:=(Int.toNat eE.1)) rfl rfl (aC u4).1 (aC u4).2) ?_
  refine ST (C:=K) gB (cK.comp (aF.idx (L:=aM) (m:=32) (k:=12) ((Int.toNat eE.1)) (aC u4).2 rfl)) (mo f27) (mo f31) rS rf rf rf rf fun BV f35=>?_
  refine SL 4 rf ?_
  refine aq rfl (av rfl (bf.len _ f35)) ?_
  refine ST (C:=K) gB (aF.id (L:=ah)) aK (mo f35) rf rf rf rf rf fun K8 f37=>?_
  refine SL 4 rf ?_
  have h:=sj h; subst h
  exact qh [] rf rf (ra rf (bf.len _ f37) (rt rf rn)) ⟨_,rfl,(mo f37)⟩
def gk (n:Nat) (a0:Int):Option Bool:=
 some (decide (0 ≤ a0) && decide (a0 ≤ 64))
theorem mI {n a0 r}  (h:gk n a0 = some r):xN Try.prog 102 [.int .i64 a0] (.bool r):=by
 unfold gk at h
 refine eV Try.func102 (by kernel_rfl) rfl Try.ntmps102 rfl (fun cx cQ hpre hro=>?_)
 refine SC 10 rf ?_
 refine GB rf rf rf (fun hb=>ay rfl) ?_
 refine GB rf rf rf (fun hb=>sE (bN rfl hb) rfl) ?_
 refine aq rfl (cA rfl rfl) ?_
 refine SL 4 rf ?_
 have h:=sj h; subst h
 exact RV rf (rt rf rn) rf
def dI (n:Nat) (a0:aj) (a1:Int) (a2:Int):Option (aj × Int × Int):=
 cl ((a1 != 0) == true) (aJ n a0.book.hO a1) default fun aQ =>
 cn (((a1 != 0) && (!aQ))) (
 some (a0,0,4)) (
 bd (gk n a2) fun nk =>
 cn ((!nk)) (
 some (a0,0,2)) (
 bd (dY n a0.book.hO) fun eK =>
 cn ((!eK.2.2)) (
 some (a0,0,7)) (
 lt ({ a0 with book:={ a0.book with hO:=eK.1 } }:aj) fun gB =>
 bd (bk n eK.2.1) fun ij =>
 lt ({ Up:=a1,bu:=a2,E:=dJ,Cells:=(fun _=>0) }:br) fun gj =>
 gu (dj ij.1 32) <|
 lt ({ gB with regions:=(dX gB.regions (Int.toNat ij.1) gj) }:aj) fun bR =>
 some (bR,eK.2.1,0))))
theorem nA {n a0 a1 a2 r K} [bz K] {eN} (f0:(ah).rep K eN a0) (h:dI n a0 a1 a2 = some r):uv Try.prog 37 [A eN, .int .u32 a1, .int .i64 a2] K (fun J v=>∃u0,v = (.tuple #[A u0, .int .u32 r.2.1, .int .i64 r.2.2])∧(ah).rep (fun w=>K w∧J w) u0 (r.1)):=by
 unfold dI at h
 refine fo Try.func37 (by kernel_rfl) rfl Try.ntmps37 rfl fun cx _ hro cQ hpre=>?_
 refine SC 2 rf ?_
 refine W1 rf (bS rfl) fun b3=>?_
 refine W1 rf (cE (hz:=(⟨by kernel_rfl⟩ : dx Try.prog 77 aO))) fun b6=>?_
 obtain ⟨aQ,cv,_,h⟩:=j2 h
 refine SL 11 rf ?_
 refine GB rf rf rf (fun hb=>aN rfl) ?_
 refine GB rf rf rf (fun hb=>aN (bN rfl hb)) ?_
 refine GB rf rf rf (fun hb=>bq (bN rfl hb) (aW.iff.1 ((aE.c0 aL).get f0)) (aY _ _)) ?_
 refine GB rf rf rf (fun hb=>ay rfl) ?_
 refine GB rf rf rf (fun hb=>dK (aT (cv hb)) (aP (bN rfl hb) (aP (bN rfl hb) rfl)) (fun _ _ _=>trivial)) ?_
 refine GB rf rf rf (fun hb=>j7 (bN rfl hb)) ?_
 refine aq rfl (cA rfl rfl) ?_
 refine SL 3 rf ?_
 refine fz h rf (fun hc h=>?_) fun hc h=>?_
 ·
  refine SC 2 rf ?_
  refine aq rfl (av rfl (bf.len _ f0)) ?_
  refine ST (C:=K) a0 (aF.id (L:=ah)) aK (mo f0) rf rf rf rf rf fun Km f23=>?_
  refine SL 7 rf ?_
  have h:=sj h; subst h
  exact qh [] rf rf (ra rf (bf.len _ f23) (rt rf (rt rf rn))) ⟨_,rfl,(mo f23)⟩
 ·
  obtain ⟨nk,pJ,h⟩:=bp h
  refine SC 3 rf ?_
  refine CV (mI pJ) rf rf ?_
  refine SL 4 rf ?_
  refine fz h rf (fun hc h=>?_) fun hc h=>?_
  ·
   refine SC 2 rf ?_
   refine aq rfl (av rfl (bf.len _ f0)) ?_
   refine ST (C:=K) a0 (aF.id (L:=ah)) aK (mo f0) rf rf rf rf rf fun DA f27=>?_
   refine SL 7 rf ?_
   have h:=sj h; subst h
   exact qh [] rf rf (ra rf (bf.len _ f27) (rt rf (rt rf rn))) ⟨_,rfl,(mo f27)⟩
  ·
   obtain ⟨eK,uU,h⟩:=bp h
   refine SC 7 rf ?_
   refine aq rfl (bq rfl (aW.iff.1 ((aE.c0 aL).get f0)) (aY _ _)) ?_
   refine CV (mE uU) rf rf ?_
   refine SL 4 rf ?_
   refine W1 rf (bj (L:=ax) (z:=fX) ⟨by kernel_rfl⟩) fun b9=>?_
   refine W0 (bA (M:=ax) (aF.id (L:=ax)) eK.1 eK.1 rfl rfl rfl rfl rfl) ?_
   refine SL 11 rf ?_
   refine fz h rf (fun hc h=>?_) fun hc h=>?_
   ·
    refine SC 2 rf ?_
    refine aq rfl (av rfl (bf.len _ f0)) ?_
    refine ST (C:=K) a0 (aF.id (L:=ah)) aK (mo f0) rf rf rf rf rf fun GN f31=>?_
    refine SL 6 rf ?_
    have h:=sj h; subst h
    exact qh [] rf rf (ra rf (bf.len _ f31) (rt rf (rt rf rn))) ⟨_,rfl,(mo f31)⟩
   ·
    obtain ⟨gB,rS,h⟩:=cN h
    refine SC 4 rf ?_
    refine aq rfl (aU (M:=ax) (aF.id (L:=ax)) rfl rfl) ?_
    refine SL 2 rf ?_
    refine ST (C:=K) gB (aE.c0 aL) (mo f0) fl rS rf rf rf rf fun BV f35=>?_
    obtain ⟨ij,l7,h⟩:=bp h
    refine SL 5 rf ?_
    refine CV (bO l7) rf rf ?_
    obtain ⟨gj,oL,h⟩:=cN h
    obtain ⟨l8,h⟩:=dO h
    obtain ⟨bR,mC,h⟩:=cN h
    refine SL 12 rf ?_
    obtain ⟨K7,JN,f39⟩ : ∃cc,(((LI .u32).enc a1)++(((LI .i64).enc a2)++(fD++((LA (LI .u32) 8).enc (fun _=>0))))) = cc∧(aM).rep (Hs []) cc gj:=⟨_,rfl,by rw [oL]; exact ⟨_,_,rfl,fl,⟨_,_,rfl,fl,⟨_,_,rfl,gF,fl⟩⟩⟩⟩
    refine aq rfl (eD (cs:=K7) rfl (by rw [← JN]; rfl)) ?_
    refine aq rfl (aN rfl) ?_
    refine aq rfl (jq (m:=(Int.toNat ij.1)) rfl rfl (aC l8).1 (aC l8).2) ?_
    refine ST (C:=K) bR (cK.comp (aF.idx (L:=aM) (m:=32) (k:=12) ((Int.toNat ij.1)) (aC l8).2 rfl)) (mo f35) (mo f39) mC rf rf rf rf fun xK f43=>?_
    refine SL 4 rf ?_
    refine aq rfl (av rfl (bf.len _ f43)) ?_
    refine aq rfl (ay rfl) ?_
    refine ST (C:=K) bR (aF.id (L:=ah)) aK (mo f43) rf rf rf rf rf fun NH f45=>?_
    refine SL 5 rf ?_
    have h:=sj h; subst h
    exact qh [] rf rf (ra rf (bf.len _ f45) (rt rf (rt rf rn))) ⟨_,rfl,(mo f45)⟩
def cT (n:Nat) (a0:aj) (a1:Int) (a2:Int):Option (aj × Int):=
 bd (aJ n a0.book.hO a1) fun aQ =>
 cl (((!aQ) == false) && ((a2 != 0) == true)) (aJ n a0.book.hO a2) default fun bT =>
 cn (((!aQ) || ((a2 != 0) && (!bT)))) (
 some (a0,4)) (
 dW (fun Ar (c9:Int) =>
 cn ((c9 != 0)) (
 cn ((c9 == a1)) (
 some (a0,12)) (
 bd (dU n a0 c9) fun cR =>
 Ar cR)) (
 bd (bk n a1) fun kA =>
 gu (dj kA.1 32) <|
 lt ({ a0 with regions:=(dX a0.regions (Int.toNat kA.1) ({ (a0.regions (Int.toNat kA.1)) with Up:=a2 })) }:aj) fun gj =>
 some (gj,0))) n a2)
theorem jI {n a0 a1 a2 r K} [bz K] {eN} (f0:(ah).rep K eN a0) (h:cT n a0 a1 a2 = some r):uv Try.prog 36 [A eN, .int .u32 a1, .int .u32 a2] K (fun J v=>∃u0,v = (.tuple #[A u0, .int .i64 r.2])∧(ah).rep (fun w=>K w∧J w) u0 (r.1)):=by
 unfold cT at h
 refine fo Try.func36 (by kernel_rfl) rfl Try.ntmps36 rfl fun cx _ hro cQ hpre=>?_
 refine SC 2 rf ?_
 refine W1 rf (bS rfl) fun b3=>?_
 refine W1 rf (cE (hz:=(⟨by kernel_rfl⟩ : dx Try.prog 77 aO))) fun b6=>?_
 obtain ⟨aQ,cv,h⟩:=bp h
 obtain ⟨bT,iD,_,h⟩:=j2 h
 refine SL 8 rf ?_
 refine aq rfl (bq rfl (aW.iff.1 ((aE.c0 aL).get f0)) (aY _ _)) ?_
 refine aq rfl (ay rfl) ?_
 refine CV (aT cv) rf rf ?_
 refine SL 2 rf ?_
 refine GB rf rf rf (fun hb=>ay rfl) ?_
 refine GB rf rf rf (fun hb=>iY (bN rfl hb) rfl) ?_
 refine GB rf rf rf (fun hb=>ay (bN rfl hb)) ?_
 refine kT (jD rfl rfl) rfl (fun hb=>aN rfl) ?_
 refine kT (jD rfl rfl) rfl (fun hb=>aN (bN rfl hb)) ?_
 refine kT (jD rfl rfl) rfl (fun hb=>bq (bN rfl hb) (aW.iff.1 ((aE.c0 aL).get f0)) (aY _ _)) ?_
 refine kT (jD rfl rfl) rfl (fun hb=>ay rfl) ?_
 refine kT (jD rfl rfl) rfl (fun hb=>dK (aT (iD hb)) (aP (bN rfl hb) (aP (bN rfl hb) rfl)) (fun _ _ _=>trivial)) ?_
 refine kT (jD rfl rfl) rfl (fun hb=>j7 (bN rfl hb)) ?_
 refine GB rf rf rf (fun hb=>cA (bN rfl hb) (va rfl hb)) ?_
 refine aq rfl (ga rfl rfl) ?_
 refine SL 2 rf ?_
 refine fz h rf (fun hc h=>?_) fun hc h=>?_
 ·
  refine SC 2 rf ?_
  refine aq rfl (av rfl (bf.len _ f0)) ?_
  refine ST (C:=K) a0 (aF.id (L:=ah)) aK (mo f0) rf rf rf rf rf fun Ei f24=>?_
  refine SL 5 rf ?_
  have h:=sj h; subst h
  exact qh [] rf rf (ra rf (bf.len _ f24) (rt rf rn)) ⟨_,rfl,(mo f24)⟩
 ·
  refine SC 10 rf ?_
  obtain ⟨Iw,FU,h⟩:=oz h
  refine LO (β:=Int) [1,2,3,6] [0,1] (fun (E2,c9)=>[(8, .int .u32 c9)]) (fun (E2,c9)=>[.cells b6 77 aO, .cells b3 77 eN]) (fun (E2,c9)=>dW Iw E2 c9 = some r) (n,a2) h rf rf rf ?_
  rintro E2 c9 h
  replace h:=oy FU h; obtain ⟨E2,rfl,h⟩:=h
  refine SC 7 rf ?_
  refine fz h rf (fun hc h=>?_) fun hc h=>?_
  ·
   refine SC 11 rf ?_
   refine fz h rf (fun hc h=>?_) fun hc h=>?_
   ·
    refine SC 2 rf ?_
    refine aq rfl (av rfl (bf.len _ f0)) ?_
    refine ST (C:=K) a0 (aF.id (L:=ah)) aK (mo f0) rf rf rf rf rf fun MY f32=>?_
    refine SL 9 rf ?_
    have h:=sj h; subst h
    exact qh [] rf rf (ra rf (bf.len _ f32) (rt rf rn)) ⟨_,rfl,(mo f32)⟩
   ·
    obtain ⟨cR,pI,h⟩:=bp h
    refine SC 4 rf ?_
    refine aq rfl (av rfl (bf.len _ f0)) ?_
    refine aq rfl (ay rfl) ?_
    refine CV (kQ (K:=K) (mo f0) pI) rf rf ?_
    refine SL 2 rf ?_
    exact LN [0,1] cR h rf rf rf
  ·
   obtain ⟨kA,uR,h⟩:=bp h
   refine SC 8 rf ?_
   refine CV (bO uR) rf rf ?_
   obtain ⟨tO,h⟩:=dO h
   obtain ⟨gj,oL,h⟩:=cN h
   refine SL 12 rf ?_
   refine aq rfl (jq (m:=(Int.toNat kA.1)) rfl rfl (aC tO).1 (aC tO).2) ?_
   refine aq rfl (iL rfl) ?_
   refine ST (C:=K) gj ((cK.comp (aF.idx (L:=aM) (m:=32) (k:=12) ((Int.toNat kA.1)) (aC tO).2 rfl)).comp bZ) (mo f0) fl oL rf rf rf rf fun K7 f39=>?_
   refine SL 4 rf ?_
   refine aq rfl (av rfl (bf.len _ f39)) ?_
   refine ST (C:=K) gj (aF.id (L:=ah)) aK (mo f39) rf rf rf rf rf fun NJ f41=>?_
   refine SL 4 rf ?_
   have h:=sj h; subst h
   exact qh [] rf rf (ra rf (bf.len _ f41) (rt rf rn)) ⟨_,rfl,(mo f41)⟩
def ep (n:Nat) (a0:aj) (a1:Int) (a2:br):Option (aj × Int):=
 bd (aJ n a0.book.hO a1) fun aQ =>
 cn ((!aQ)) (
 some (a0,4)) (
 bd (gk n a2.bu) fun nk =>
 cl ((!nk) == false) (dZ n a2.E) default fun eE =>
 cn (((!nk) || (!eE))) (
 some (a0,2)) (
 bd (bk n a1) fun fa =>
 gu (dj fa.1 32) <|
 lt ({ a2 with Up:=(a0.regions (Int.toNat fa.1)).Up }:br) fun cR =>
 gu (dj fa.1 32) <|
 lt ({ a0 with regions:=(dX a0.regions (Int.toNat fa.1) cR) }:aj) fun fx =>
 some (fx,0)))
theorem ny {n a0 a1 a2 r K} [bz K] {eN} (f0:(ah).rep K eN a0) {vj:List Value} (f2:(aM).rep K vj a2) (h:ep n a0 a1 a2 = some r):uv Try.prog 34 [A eN, .int .u32 a1,A vj] K (fun J v=>∃u0,v = (.tuple #[A u0, .int .i64 r.2])∧(ah).rep (fun w=>K w∧J w) u0 (r.1)):=by
 unfold ep at h
 refine fo Try.func34 (by kernel_rfl) rfl Try.ntmps34 rfl fun cx _ hro cQ hpre=>?_
 refine SC 2 rf ?_
 refine W1 rf (bS rfl) fun b3=>?_
 refine W1 rf (bS rfl) fun b5=>?_
 refine W1 rf (cE (hz:=(⟨by kernel_rfl⟩ : dx Try.prog 77 aO))) fun b6=>?_
 obtain ⟨aQ,cv,h⟩:=bp h
 refine SL 9 rf ?_
 refine aq rfl (bq rfl (aW.iff.1 ((aE.c0 aL).get f0)) (aY _ _)) ?_
 refine aq rfl (ay rfl) ?_
 refine CV (aT cv) rf rf ?_
 refine SL 4 rf ?_
 refine fz h rf (fun hc h=>?_) fun hc h=>?_
 ·
  refine SC 2 rf ?_
  refine aq rfl (av rfl (bf.len _ f0)) ?_
  refine ST (C:=K) a0 (aF.id (L:=ah)) aK (mo f0) rf rf rf rf rf fun Km f23=>?_
  refine SL 6 rf ?_
  have h:=sj h; subst h
  exact qh [] rf rf (ra rf (bf.len _ f23) (rt rf rn)) ⟨_,rfl,(mo f23)⟩
 ·
  obtain ⟨nk,pJ,h⟩:=bp h
  obtain ⟨eE,rT,_,h⟩:=j2 h
  refine SC 3 rf ?_
  refine aq rfl (cU rfl (mh.int f2)) ?_
  refine CV (mI pJ) rf rf ?_
  refine SL 2 rf ?_
  refine GB rf rf rf (fun hb=>aN rfl) ?_
  obtain ⟨DA,JO,f27⟩:=yb (oh.get f2)
  refine GB rf rf rf (fun hb=>bq (bN rfl hb) JO (bf.len _ f27)) ?_
  refine GB rf rf rf (fun hb=>dK (mF (K:=K) (mo f27) (rT hb)) (aP (bN rfl hb) rfl) kn) ?_
  refine GB rf rf rf (fun hb=>j7 (bN rfl hb)) ?_
  refine aq rfl (ga rfl rfl) ?_
  refine SL 3 rf ?_
  refine fz h rf (fun hc h=>?_) fun hc h=>?_
  ·
   refine SC 2 rf ?_
   refine aq rfl (av rfl (bf.len _ f0)) ?_
   refine ST (C:=K) a0 (aF.id (L:=ah)) aK (mo f0) rf rf rf rf rf fun NK f30=>?_
   refine SL 6 rf ?_
   have h:=sj h; subst h
   exact qh [] rf rf (ra rf (bf.len _ f30) (rt rf rn)) ⟨_,rfl,(mo f30)⟩
  ·
   obtain ⟨fa,uS,h⟩:=bp h
   refine SC 6 rf ?_
   refine CV (bO uS) rf rf ?_
   obtain ⟨C3,h⟩:=dO h
   obtain ⟨cR,pI,h⟩:=cN h
   refine SL 11 rf ?_
   refine aq rfl (jq (m:=(Int.toNat fa.1)) rfl rfl (aC C3).1 (aC C3).2) ?_
   refine aq rfl (iL rfl) ?_
   refine aq rfl (cU rfl (((cK.comp (aF.idx (L:=aM) (m:=32) (k:=12) ((Int.toNat fa.1)) (aC C3).2 rfl)).comp bZ).int f0)) ?_
   refine aq rfl (aN rfl) ?_
   refine ST (C:=K) cR bZ (mo f2) fl pI rf rf rf rf fun uu f36=>?_
   obtain ⟨tN,h⟩:=dO h
   obtain ⟨fx,wY,h⟩:=cN h
   refine SL 5 rf ?_
   refine aq rfl (av rfl (bf.len _ f36)) ?_
   refine aq rfl (aN rfl) ?_
   refine aq rfl (jq (m:=(Int.toNat fa.1)) rfl rfl (aC tN).1 (aC tN).2) ?_
   refine ST (C:=K) fx (cK.comp (aF.idx (L:=aM) (m:=32) (k:=12) ((Int.toNat fa.1)) (aC tN).2 rfl)) (mo f0) (mo f36) wY rf rf rf rf fun MV f40=>?_
   refine SL 4 rf ?_
   refine aq rfl (av rfl (bf.len _ f40)) ?_
   refine ST (C:=K) fx (aF.id (L:=ah)) aK (mo f40) rf rf rf rf rf fun NI f42=>?_
   refine SL 4 rf ?_
   have h:=sj h; subst h
   exact qh [] rf rf (ra rf (bf.len _ f42) (rt rf rn)) ⟨_,rfl,(mo f42)⟩
structure Eb where
 Do:Int
 A:Int
 B:Int
 R:bG
def jz (n:Nat) (a0:ag):Option (List Int):=
 di (fun yy (c9:(List Int)) (bW:Int) =>
 cn (decide (bW < 32)) (
 gu (dj bW 32) <|
 cn (((a0.B.Is (Int.toNat bW)) == 1)) (
 bd (gR n a0.B bW) fun kA =>
 gu (jP c9.length 1 8) <|
 lt (c9++([kA]):List Int) fun gj =>
 yy gj (wr .i64 (bW + 1))) (
 yy c9 (wr .i64 (bW + 1)))) (
 some c9)) n ([]) 0
def jy (n:Nat) (a0:ag) (a1:Int):Option (bG × Int):=
 bd (bD n a0.B a1) fun aQ =>
 cn (decide (aQ < 0)) (
 lt ({ Up:=0,bu:=0,E:=bY,Cells:=(fun _=>0) }:bG) fun bT =>
 some (bT,4)) (
 gu (dj aQ 32) <|
 lt ((a0.R (Int.toNat aQ)):bG) fun dy =>
 some (dy,0))
def dS (n:Nat) (a0:kV):Option (List Int):=
 bd (eP n a0.hO) fun aQ =>
 some aQ
theorem gK {n a0 r}  (h:dS n a0 = some r):Bw.Fn (α:=Value) Try.prog 38 [.agg (gM.enc a0).toArray] (fun _=>True) [] (fun v=>ke v r.length) (fun v=>v) (fun v=>[Row v 69 1 (LI .u32) r]):=by
 unfold dS at h
 refine eV Try.func38 (by kernel_rfl) rfl Try.ntmps38 rfl (fun cx cQ hpre hro=>?_)
 refine SC 2 rf ?_
 refine W1 rf (ct gM a0 rfl rfl) fun b1=>?_
 obtain ⟨aQ,cv,h⟩:=bp h
 refine SL 6 rf ?_
 refine aq rfl (aU (M:=ax) aL rfl rfl) ?_
 refine eu rfl (fC (mb cv) rfl (fun _ _ _=>trivial)) (fun zL jA=>?_)
 dsimp only [List.cons_append,List.nil_append]
 refine SL 4 rf ?_
 have h:=sj h; subst h
 exact cY zL rfl (.tmp rfl .nil) jA rfl (ks:=[0]) rfl (by decide)
end Go.Proofs.Ytmdpbdhkmfjlhaa
namespace Go.Proofs.Ytmdpbdhkmfjlhaa
open Go Go.Bw
end Go.Proofs.Ytmdpbdhkmfjlhaa
namespace Go.Proofs.Ytmdpbdhkmfjlhaa
open Go Go.Bw
theorem eB {w:az} {h:Int} (hg:aX w h = true):h < 4294967296:=x3 (fL.1 hg).1
theorem q8 (w:az):aX w 0 = false:=rfl
theorem fW {w:az} {h:Int} (hg:bh w h):0 < h:=by
  have:=hg.1
  rcases Int.lt_or_eq_of_le this with h1 | h1
  · exact h1
  · subst h1; have:=hg.2; rw [q8] at this; cases this
structure uo (p:br) (x:bG):Prop where
  q:p.bu = x.bu
  e:p.E = ⟨x.E.bt.map lR,x.E.o4⟩
  n:x.E.bt.length ≤ 80
  r:∀y ∈ x.E.bt.map lR,zR y.At∧zR y.N
  c:∀i,i < 8→p.Cells i = x.Cells i
  c0:∀i,i < 8→0 ≤ x.Cells i∧x.Cells i ≤ 4294967295
theorem uo.EH {p:br} {x:bG} (h:uo p x) (u v:Int):uo { p with Up:=u } { x with Up:=v }:=⟨h.q,h.e,h.n,h.r,h.c,h.c0⟩
def vI (B:az) (h:Int):Int:=if aX B h = true then h else 0
structure fu (t:aj) (w:ag):Prop where
  book:RB t.book.hO w.B
  D9:∀i,i < 32→w.B.Is i = 1→uo (t.regions i) (w.R i)
  up:∀i,i < 32→w.B.Is i = 1→(w.R i).Up = vI w.B (t.regions i).Up
  old:∀i,i < 32→w.B.Is i = 1→(t.regions i).Up = 0∨jZ w.B (t.regions i).Up
def Lf (w:ag) (ρ:Nat→Nat):Prop:=∀i,i < 32→w.B.Is i = 1→(w.R i).Up ≠ 0→ρ (bI (w.R i).Up) < ρ i
def gQ (w:ag):Prop:=∃ρ:Nat→Nat,Lf w ρ
theorem fu.Hr {t:aj} {w:ag} (r:fu t w) {i:Nat} (hi:i < 32) (h1:w.B.Is i = 1):(w.R i).Up = 0∨bh w.B (w.R i).Up:=by
  rw [r.up i hi h1]
  unfold vI
  split
  · rename_i h
    rcases r.old i hi h1 with h2 | h2
    · exact .inl h2
    · exact .inr ⟨h2.1,h⟩
  · exact .inl rfl
theorem dG {w:az} {x:Int} (h:bh w x):bI x < 32∧w.Is (bI x) = 1:=⟨iw x,(mz h.2).2.1⟩
theorem fu.D8 {t:aj} {w:ag} (r:fu t w) {x:Int} (hx:bh w.B x):(w.R (bI x)).Up = 0∨bh w.B (w.R (bI x)).Up:=r.Hr (dG hx).1 (dG hx).2
theorem eO (h:Int):dj (gC h) 32 = true:=cC (de h).1 (by have:=de h; omega)
theorem xT {n:Nat} {t:aj} {w:ag} (r:fu t w) {x:Int} (hx:bh w.B x):dU n t x = some (w.R (bI x)).Up:=by
  unfold dU
  obtain ⟨l1,l2⟩:=dG hx
  have ho:=r.old _ l1 l2
  have hu:0 ≤ (t.regions (bI x)).Up∧(t.regions (bI x)).Up < 4294967296:=by
    rcases ho with h | h
    · rw [h]; decide
    · exact ⟨h.1,x3 h.2.1⟩
  rw [au (iu hx.1 (eB hx.2)),aB (eO x)]
  show bd (aJ n t.book.hO (t.regions (bI x)).Up) _ = _
  rw [au (jg r.book hu.1 hu.2),r.up _ l1 l2]
  unfold vI
  show cn (aX w.B (t.regions (bI x)).Up) (some (t.regions (bI x)).Up) (some 0) = _
  cases hg:aX w.B (t.regions (bI x)).Up with
  | true=>rw [aA rfl,if_pos rfl]
  | false=>rw [ak rfl,if_neg (by decide)]
def nS (t:aj) (w:ag) (h:Int):br:={ t.regions (bI h) with Up:=(w.R (bI h)).Up }
def Cp:br:={ Up:=0,bu:=0,E:=dJ,Cells:=(fun _=>0) }
theorem rX {n:Nat} {t:aj} {w:ag} (r:fu t w) {h:Int} (h0:0 ≤ h) (h1:h < 4294967296):dc n t h = some (if aX w.B h = true then (nS t w h,0) else (Cp,4)):=by
  unfold dc
  rw [au (jg r.book h0 h1)]
  cases hg:aX w.B h with
  | false=>rfl
  | true =>
    rw [ak (b:=!true) rfl,au (iu h0 h1),aB (eO h),lt_eq,au (xT r ⟨h0,hg⟩),lt_eq,if_pos rfl]; rfl
theorem uI {n:Nat} (hn:40 ≤ n) {t:aj} {w:ag} (r:fu t w) {h:Int} (hg:bh w.B h):jy n w h = some (w.R (bI h),0):=by
  unfold jy
  have hr:=de h
  rw [au (cS hn r.book hg.1),hg.2,if_pos rfl,ak (by simp; omega),aB (eO h),lt_eq]
  rfl
theorem bM {n:Nat} (hn:40 ≤ n) {t:aj} {w:ag} (r:fu t w) {h:Int} (h0:0 ≤ h):bF n w h = some (aX w.B h):=by
  unfold bF
  have hr:=de h
  rw [au (cS hn r.book h0)]
  cases aX w.B h with
  | false=>rfl
  | true=>rw [if_pos rfl]; simpa using hr.1
structure DV (t:aj) (w:ag) (t' : aj) (w' : ag) (who e:Int) (dr:Bool):Prop where
  rt:fu t' w'
  tt:gQ w'
  kp:∀g,bh w.B g→¬ (g = who∧e = 0)→bh w'.B g∧(t'.regions (bI g)).bu = (t.regions (bI g)).bu∧(t'.regions (bI g)).E = (t.regions (bI g)).E∧(t'.regions (bI g)).Cells = (t.regions (bI g)).Cells ∧
    ((w'.R (bI g)).Up = (w.R (bI g)).Up∨(dr = true∧e = 0∧(w.R (bI g)).Up = who∧who ≠ 0∧(w'.R (bI g)).Up = 0))
theorem DV.same {t:aj} {w:ag} (r:fu t w) (tt:gQ w) (who e:Int) (dr:Bool):DV t w t w who e dr:=⟨r,tt,fun _ hg _=>⟨hg,rfl,rfl,rfl, .inl rfl⟩⟩
theorem rE {b:aV} {w:az} (r:RB b w) {h:Int} (h0:0 ≤ h) (x:Int):bh (wF w h) x↔bh w x∧x ≠ h:=xd r h0 x
theorem Cb {b:aV} {w:az} (r:RB b w) {h u:Int} (hg:bh w h) (hu:0 ≤ u):vI (wF w h) u = if vI w u = h then 0 else vI w u:=by
  have hv:=rE r hg.1 u
  have hp:=fW hg
  unfold vI
  cases h1:aX w u with
  | false =>
    have:aX (wF w h) u ≠ true:=fun h2=>by
      have:=(hv.1 ⟨hu,h2⟩).1.2; rw [h1] at this; cases this
    rw [if_neg this]; simp
  | true =>
    rw [if_pos rfl]
    by_cases e:u = h
    · rw [if_pos e,if_neg (fun h2=>(hv.1 ⟨hu,h2⟩).2 e)]
    · rw [if_neg e,if_pos (hv.2 ⟨⟨hu,h1⟩,e⟩).2]
theorem wO {n:Nat} (hn:40 ≤ n) (h:Int) (w:ag):∃w' : ag,di (fun BF (gV:Int) (lN:ag) =>
  cn (decide (gV < 32)) (
  gu (dj gV 32) <|
  cn ((((lN.R (Int.toNat gV)).Up) == h)) (
  gu (dj gV 32) <|
  lt ({ lN with R:=(dX lN.R (Int.toNat gV) ({ (lN.R (Int.toNat gV)) with Up:=0 })) }:ag) fun sR =>
  BF (wr .i64 (gV + 1)) sR) (
  BF (wr .i64 (gV + 1)) lN)) (
  some (lN,(0:Int)))) n 0 w = some (w',0)∧w'.B = w.B∧∀i,i < 32→w'.R i = if (w.R i).Up = h then { w.R i with Up:=0 } else w.R i:=by
  refine dN (fun (i:Int) (v:ag)=>0 ≤ i∧i ≤ 32∧v.B = w.B∧∀j,v.R j = if j < i.toNat∧(w.R j).Up = h then { w.R j with Up:=0 } else w.R j) (fun i _=>(32 - i).toNat)
    (fun o=>∃w' : ag,o = some (w',0)∧w'.B = w.B∧∀i,i < 32→w'.R i = if (w.R i).Up = h then { w.R i with Up:=0 } else w.R i) ?_ n 0 w ⟨by omega,by omega,rfl,fun j=>by simp⟩ (by omega)
  rintro kk i v ⟨i0,i1,hb,hv⟩ ih
  by_cases c:i < 32
  · have hi:=hv i.toNat
    rw [if_neg (fun hh=>absurd hh.1 (Nat.lt_irrefl _))] at hi
    rw [aA (by simpa using c),aB (cC i0 (by omega)),hi,bP (x:=i + 1) (by omega) (by omega)]
    have e1:(i + 1).toNat = i.toNat + 1:=by omega
    by_cases hu:(w.R i.toNat).Up = h
    · rw [aA (by simpa using hu),aB (cC i0 (by omega)),lt_eq]
      refine ih _ _ ⟨by omega,by omega,hb,fun j=>?_⟩ (by omega)
      show dX v.R i.toNat _ j = _
      rw [bX]
      by_cases ej:j = i.toNat
      · subst ej; rw [if_pos rfl,if_pos ⟨by omega,hu⟩]
      · rw [if_neg ej,hv j]
        by_cases hj:(w.R j).Up = h
        · by_cases hl:j < i.toNat
          · rw [if_pos ⟨hl,hj⟩,if_pos ⟨by omega,hj⟩]
          · rw [if_neg (fun hh=>hl hh.1),if_neg (fun hh=>by omega)]
        · rw [if_neg (fun hh=>hj hh.2),if_neg (fun hh=>hj hh.2)]
    · rw [ak (by simpa using hu)]
      refine ih _ _ ⟨by omega,by omega,hb,fun j=>?_⟩ (by omega)
      rw [hv j]
      by_cases ej:j = i.toNat
      · subst ej; rw [if_neg (fun hh=>hu hh.2),if_neg (fun hh=>hu hh.2)]
      · by_cases hj:(w.R j).Up = h
        · by_cases hl:j < i.toNat
          · rw [if_pos ⟨hl,hj⟩,if_pos ⟨by omega,hj⟩]
          · rw [if_neg (fun hh=>hl hh.1),if_neg (fun hh=>by omega)]
        · rw [if_neg (fun hh=>hj hh.2),if_neg (fun hh=>hj hh.2)]
  · rw [ak (by simpa using c)]
    refine ⟨v,rfl,hb,fun j hj=>?_⟩
    rw [hv j]
    by_cases hu:(w.R j).Up = h
    · rw [if_pos ⟨by omega,hu⟩,if_pos hu]
    · rw [if_neg (fun hh=>hu hh.2),if_neg hu]
theorem GC {n:Nat} (hn:40 ≤ n) {t:aj} {w:ag} (r:fu t w) (tt:gQ w) {h:Int} (h0:0 ≤ h) (h1:h < 4294967296) :
    ∃t' w' e,dk n t h = some (t',e)∧dM n w h = some (w',e)∧DV t w t' w' h e true:=by
  obtain ⟨b',e1,r'⟩:=zV (n:=n) r.book h0 h1
  cases hg:aX w.B h with
  | false =>
    refine ⟨t,w,4,?_,?_, .same r tt _ _ _⟩
    · unfold dk; rw [au e1,hg]; rfl
    · unfold dM; rw [au (cS hn r.book h0),hg]; rfl
  | true =>
    have xI:bh w.B h:=⟨h0,hg⟩
    obtain ⟨w',c1,c2,c3⟩:=wO (n:=n) hn h { B:=wF w.B h,R:=dX w.R (bI h) { Up:=0,bu:=0,E:=bY,Cells:=(fun _=>0) } }
    have hpos:=fW xI
    refine ⟨{ book:={ t.book with hO:=b' },regions:=dX t.regions (bI h) Cp },w',0,?_,?_,?_⟩
    · unfold dk; rw [au e1,hg,ak (b:=!true) rfl,lt_eq,au (iu h0 h1),lt_eq,aB (eO h),lt_eq]; rfl
    · unfold dM
      have hr:=de h
      rw [au (cS hn r.book h0),hg,if_pos rfl,ak (by simp; omega),au (tj hn r.book h0),lt_eq,lt_eq,aB (eO h),lt_eq]
      exact c1
    have hb:w'.B = wF w.B h:=c2
    have tJ:∀i,i < 32→w'.B.Is i = 1→w.B.Is i = 1∧i ≠ bI h:=fun i hi hs=>by
      rw [hb] at hs
      refine ⟨(zW hs).1,fun e=>?_⟩
      subst e
      unfold wF at hs
      rw [hg,if_pos rfl] at hs
      exact o8 w.B h hs
    have hR:∀i,i < 32→i ≠ bI h→w'.R i = if (w.R i).Up = h then { w.R i with Up:=0 } else w.R i:=fun i hi hne=>by
      have q:=c3 i hi
      simp only [iq _ _ hne] at q
      exact q
    have hT:∀i,i ≠ bI h→dX t.regions (bI h) Cp i = t.regions i:=fun i hne=>iq _ _ hne
    have hU:∀i,i < 32→i ≠ bI h→(w'.R i).Up = if (w.R i).Up = h then 0 else (w.R i).Up:=fun i hi hne=>by
      rw [hR i hi hne]; split <;> rfl
    refine ⟨⟨?_,fun i hi hs=>?_,fun i hi hs=>?_,fun i hi hs=>?_⟩,?_,fun g yT hne=>?_⟩
    · rw [hb]; exact r'
    · obtain ⟨l1,l2⟩:=tJ i hi hs
      have:=r.D9 i hi l1
      rw [hR i hi l2]
      dsimp only
      rw [hT i l2]
      split
      · exact ⟨this.q,this.e,this.n,this.r,this.c,this.c0⟩
      · exact this
    · obtain ⟨l1,l2⟩:=tJ i hi hs
      dsimp only
      rw [hT i l2,hU i hi l2,hb]
      rw [Cb r.book xI,r.up i hi l1]
      rcases r.old i hi l1 with h | h
      · rw [h]; decide
      · exact h.1
    · obtain ⟨l1,l2⟩:=tJ i hi hs
      dsimp only
      rw [hT i l2,hb]
      exact (r.old i hi l1).imp _root_.id fun hp=>qT (h:=h) _ hp
    · obtain ⟨ρ,hρ⟩:=tt
      refine ⟨ρ,fun i hi hs hu=>?_⟩
      obtain ⟨l1,l2⟩:=tJ i hi hs
      rw [hU i hi l2] at hu ⊢
      by_cases e:(w.R i).Up = h
      · rw [if_pos e] at hu; exact absurd rfl hu
      · rw [if_neg e] at hu ⊢; exact hρ i hi l1 hu
    · have yM:g ≠ h:=fun e=>hne ⟨e,rfl⟩
      have BO:bh w'.B g:=by rw [hb]; exact (rE r.book h0 g).2 ⟨yT,yM⟩
      obtain ⟨l1,l2⟩:=tJ (bI g) (iw g) (dG BO).2
      refine ⟨BO,?_,?_,?_,?_⟩
      · dsimp only; rw [hT _ l2]
      · dsimp only; rw [hT _ l2]
      · dsimp only; rw [hT _ l2]
      · rw [hU _ (iw g) l2]
        by_cases e:(w.R (bI g)).Up = h
        · rw [if_pos e]; exact .inr ⟨rfl,rfl,e,by omega,rfl⟩
        · rw [if_neg e]; exact .inl rfl
end Go.Proofs.Ytmdpbdhkmfjlhaa
namespace Go.Proofs.Ytmdpbdhkmfjlhaa
open Go Go.Bw
theorem Cc {b:aV} {w:az} (r:RB b w) {f:Nat} (hf:nN w f) (hl:f < 32) {u:Int} (hu:u = 0∨jZ w u):vI (fY w f) u = vI w u:=by
  rcases hu with h | h
  · subst h; rfl
  · have hv:=g7 r hf hl u
    have hne:u ≠ fJ f (w.gD f):=fun e=>by rw [e] at h; exact tp r hf hl h
    unfold vI
    by_cases h1:aX w u = true
    · rw [if_pos h1,if_pos (hv.2 (.inl ⟨h.1,h1⟩)).2]
    · rw [if_neg h1,if_neg (fun h2=>(hv.1 ⟨h.1,h2⟩).elim (fun h3=>h1 h3.2) hne)]
def yj (B:az) (a:Int):Bool:=(a == 0) || aX B a
theorem nu {n:Nat} {t:aj} {w:ag} (r:fu t w) {a:Int} (h0:0 ≤ a) (h1:a < 4294967296) {ρ:Type} {f:Bool→Option ρ} {g:Bool} :
    cl g (aJ n t.book.hO a) default f = f (bif g then aX w.B a else default):=cy (jg r.book h0 h1)
theorem jb (B:az) (a:Int):((a != 0) && (!(bif ((a != 0) == true) then aX B a else default))) = !yj B a:=by
  unfold yj
  by_cases h0:a = 0
  · subst h0; rfl
  · have h1:(a != 0) = true:=by simpa using h0
    have h2:(a == 0) = false:=by simpa using h0
    rw [h1,h2]; rfl
theorem uK {B:az} {a:Int} (h0:0 ≤ a) (h:yj B a = true):a = 0∨bh B a:=by
  unfold yj at h
  rw [Bool.or_eq_true,beq_iff_eq] at h
  exact h.imp _root_.id fun hg=>⟨h0,hg⟩
theorem Ii {n:Nat} (hn:40 ≤ n) {t:aj} {w:ag} (r:fu t w) (tt:gQ w) {a q:Int} (a0:0 ≤ a) (a1:a < 4294967296) :
    ∃t' w' m e,dI n t a q = some (t',m,e)∧dg n w a q = some (w',m,e)∧0 ≤ m∧m < 4294967296∧DV t w t' w' m e false:=by
  cases ha:yj w.B a with
  | false =>
    refine ⟨t,w,0,4,?_,?_,by decide,by decide, .same r tt _ _ _⟩
    · unfold dI; rw [nu r a0 a1,jb,ha]; rfl
    · unfold dg; rw [cy (bM hn r a0),jb,ha]; rfl
  | true =>
  rcases Decidable.em (¬(0 ≤ q∧q ≤ 64)) with hq | hq
  · refine ⟨t,w,0,2,?_,?_,by decide,by decide, .same r tt _ _ _⟩
    · unfold dI; rw [nu r a0 a1,jb,ha,ak (b:=!true) rfl]; unfold gk; rw [au rfl,aA (by simp; omega)]
    · unfold dg; rw [cy (bM hn r a0),jb,ha,ak (b:=!true) rfl,aA (by simp; omega)]
  have hq:=Decidable.not_not.1 hq
  obtain ⟨f,hf⟩:=tT w.B
  obtain ⟨b',i1,i2⟩:=tH (n:=n) hn r.book hf
  have i3:=ot (n:=n) hn r.book hf
  have hP:dI n t a q = (bd (dY n t.book.hO) fun eK =>
  cn ((!eK.2.2)) (
  some (t,0,7)) (
  bd (bk n eK.2.1) fun ij =>
  gu (dj ij.1 32) <|
  some (⟨⟨eK.1⟩,dX t.regions (Int.toNat ij.1) ⟨a,q,dJ,fun _=>0⟩⟩,eK.2.1,0))):=by
    unfold dI; rw [nu r a0 a1,jb,ha,ak (b:=!true) rfl]; unfold gk; rw [au rfl,ak (by simpa using hq)]; rfl
  have hR:dg n w a q = (bd (gG n w.B) fun eE =>
  cn ((eE.2 == 0)) (
  some (w,0,7)) (
  bd (bD n eE.1 eE.2) fun kA =>
  gu (dj kA 32) <|
  some (⟨eE.1,dX w.R (Int.toNat kA) ⟨a,q,bY,fun _=>0⟩⟩,eE.2,0))):=by
    unfold dg; rw [cy (bM hn r a0),jb,ha,ak (b:=!true) rfl,ak (by simp; omega)]; rfl
  rcases Decidable.em (¬ f < 32) with hl | hl
  · refine ⟨t,w,0,7,?_,?_,by decide,by decide, .same r tt _ _ _⟩
    · rw [hP,au i1,aA (by simpa using hl)]
    · rw [hR,au i3,if_neg hl]; rfl
  have hl:=Decidable.not_not.1 hl
  simp only [hl,if_true,decide_true] at i1 i2 i3
  have hr:=r.book.ic f hl
  obtain ⟨q1,q2,q3,q4,q5⟩:=kY (i:=f) (g:=w.B.gD f) (by omega) (by omega) hr.1 hr.2
  have hnew:bh (fY w.B f) (fJ f (w.B.gD f)):=(g7 r.book hf hl _).2 (.inr rfl)
  have hfn:(gC (fJ f (w.B.gD f))).toNat = f:=by rw [q2]; omega
  have KW:dj (gC (fJ f (w.B.gD f))) 32 = true:=eO _
  refine ⟨⟨⟨b'⟩,dX t.regions f ⟨a,q,dJ,fun _=>0⟩⟩,⟨fY w.B f,dX w.R f ⟨a,q,bY,fun _=>0⟩⟩,fJ f (w.B.gD f),0,?_,?_,by omega,q5,?_⟩
  · rw [hP,au i1,ak (b:=!true) rfl]
    dsimp only
    rw [au (iu (by omega) q5),aB KW,hfn]
  · rw [hR,au i3,ak (by simp; omega),au (cS hn i2 (by omega)),hnew.2,if_pos rfl,aB KW,hfn]
  have BQ:=uK a0 ha
  have hfree:=hf.2.2 hl
  have hold:∀i,i ≠ f→(fY w.B f).Is i = 1→w.B.Is i = 1:=fun i hi hs=>by
    have:dX w.B.Is f 1 i = 1:=hs
    rwa [iq _ _ hi] at this
  have hne:∀x,bh w.B x→bI x ≠ f:=fun x hx e=>by
    have:=(dG hx).2; rw [e,hfree] at this; cases this
  refine ⟨⟨i2,fun i hi hs=>?_,fun i hi hs=>?_,fun i hi hs=>?_⟩,?_,fun g hg _=>?_⟩
  · dsimp only
    rw [bX,bX]
    by_cases e:i = f
    · rw [if_pos e,if_pos e]
      exact ⟨rfl,rfl,(by show (0:Nat) ≤ 80; omega),(fun y hy=>by cases hy),fun _ _=>rfl,fun _ _=>by show (0:Int) ≤ 0∧(0:Int) ≤ 4294967295; decide⟩
    · rw [if_neg e,if_neg e]; exact r.D9 i hi (hold i e hs)
  · dsimp only
    simp only [bX]
    by_cases e:i = f
    · rw [if_pos e,if_pos e]
      show a = vI (fY w.B f) a
      rcases BQ with h | h
      · subst h; rfl
      · unfold vI; rw [if_pos ((g7 r.book hf hl a).2 (.inl h)).2]
    · rw [if_neg e,if_neg e]
      have h1:=hold i e hs
      rw [Cc r.book hf hl (r.old i hi h1)]; exact r.up i hi h1
  · dsimp only
    simp only [bX]
    by_cases e:i = f
    · rw [if_pos e]
      exact BQ.imp _root_.id fun h=>mT _ (n6 h)
    · rw [if_neg e]
      exact (r.old i hi (hold i e hs)).imp _root_.id (mT _)
  · obtain ⟨ρ,hρ⟩:=tt
    refine ⟨dX ρ f (1 + zZ ρ 32),fun i hi hs hu=>?_⟩
    dsimp only at hu ⊢
    simp only [bX] at hu ⊢
    by_cases e:i = f
    · rw [if_pos e] at hu
      rw [if_pos e,if_pos e]
      change a ≠ 0 at hu
      show (if bI a = f then _ else ρ (bI a)) < _
      have Dg:=BQ.resolve_left hu
      rw [if_neg (hne a Dg)]
      have:=vK ρ (j:=bI a) 32 (iw a)
      omega
    · rw [if_neg e] at hu
      rw [if_neg e,if_neg e]
      have h1:=hold i e hs
      rw [if_neg (hne _ ((r.Hr hi h1).resolve_left hu))]
      exact hρ i hi h1 hu
  · have:=hne g hg
    refine ⟨(g7 r.book hf hl g).2 (.inl hg),?_,?_,?_, .inl ?_⟩
    all_goals (dsimp only; rw [iq _ _ this])
theorem Ij {n:Nat} (hn:110 ≤ n) {p:br} {x:bG} (h:uo p x):∃b,dZ n p.E = some b∧dm n x.E = some b:=by
  have hl:(x.E.bt.map lR).length ≤ 80:=by rw [List.length_map]; exact h.n
  obtain ⟨b,b1,b2⟩:=yq (n:=n) hn (e:=p.E) (by rw [h.e]; exact hl) (by rw [h.e]; exact h.r)
  obtain ⟨c,c1,c2⟩:=qN (n:=n) hn h.n h.r
  refine ⟨b,b1,?_⟩
  rw [c1]
  rw [h.e] at b2
  dsimp only at b2
  have:b = true↔c = true:=b2.trans ⟨fun ⟨q1,_,q3⟩=>c2.2 ⟨q1,q3⟩,fun h=>by
    obtain ⟨q1,q3⟩:=c2.1 h
    exact ⟨q1,AP q1,q3⟩⟩
  cases b <;> cases c <;> simp_all
theorem H8 {n:Nat} (hn:110 ≤ n) {t:aj} {w:ag} (r:fu t w) (tt:gQ w) {h:Int} (h0:0 ≤ h) (h1:h < 4294967296) {p:br} {x:bG} (hx:uo p x) :
    ∃t' w' e,ep n t h p = some (t',e)∧gX n w h x = some (w',e)∧DV t w t' w' h e false:=by
  obtain ⟨b,b1,b2⟩:=Ij hn hx
  have I6:=de h
  unfold ep gX
  rw [au (jg r.book h0 h1),au (cS (by omega) r.book h0)]
  cases hg:aX w.B h with
  | false=>exact ⟨t,w,4,rfl,rfl, .same r tt _ _ _⟩
  | true =>
  have xI:bh w.B h:=⟨h0,hg⟩
  obtain ⟨l1,l2⟩:=dG xI
  unfold gk
  rw [if_pos rfl,ak (b:=!true) rfl,ak (by simp; omega),au rfl,cy b1,cy b2,hx.q]
  rcases Decidable.em (¬((0 ≤ x.bu∧x.bu ≤ 64)∧b = true)) with hq | hq
  · refine ⟨t,w,2,?_,?_, .same r tt _ _ _⟩
    · rw [aA]
      by_cases h3:0 ≤ x.bu∧x.bu ≤ 64
      · have:b = false:=by cases b with
          | false=>rfl
          | true=>exact absurd ⟨h3,rfl⟩ hq
        rw [this]; simp
      · have:(decide (0 ≤ x.bu) && decide (x.bu ≤ 64)) = false:=by rw [Bool.and_eq_false_iff,decide_eq_false_iff_not,decide_eq_false_iff_not]; omega
        rw [this]; rfl
    · rw [aA]
      by_cases h3:0 ≤ x.bu∧x.bu ≤ 64
      · have:b = false:=by cases b with
          | false=>rfl
          | true=>exact absurd ⟨h3,rfl⟩ hq
        rw [this]; simp
      · have:(decide (x.bu < 0) || decide (64 < x.bu)) = true:=by rw [Bool.or_eq_true,decide_eq_true_eq,decide_eq_true_eq]; omega
        rw [this]; rfl
  obtain ⟨⟨q1,q2⟩,rfl⟩:=Decidable.not_not.1 hq
  have e1:(decide (0 ≤ x.bu) && decide (x.bu ≤ 64)) = true:=by simp [q1,q2]
  have e2:(decide (x.bu < 0) || decide (64 < x.bu)) = false:=by rw [Bool.or_eq_false_iff,decide_eq_false_iff_not,decide_eq_false_iff_not]; omega
  rw [e1,e2,ak (by rfl),ak (by rfl),au (iu h0 h1),aB (eO h),aB (eO h),lt_eq,aB (eO h),lt_eq,lt_eq,aB (eO h),lt_eq]
  refine ⟨_,_,0,rfl,rfl,?_⟩
  show DV t w ⟨t.book,dX t.regions (bI h) { p with Up:=(t.regions (bI h)).Up,bu:=x.bu }⟩ ⟨w.B,dX w.R (bI h) { x with Up:=(w.R (bI h)).Up }⟩ h 0 false
  have hT:∀i,(dX t.regions (bI h) { p with Up:=(t.regions (bI h)).Up,bu:=x.bu } i).Up = (t.regions i).Up:=fun i=>by
    rw [bX]; split
    · rename_i e; rw [e]
    · rfl
  have hW:∀i,(dX w.R (bI h) { x with Up:=(w.R (bI h)).Up } i).Up = (w.R i).Up:=fun i=>by
    rw [bX]; split
    · rename_i e; rw [e]
    · rfl
  refine ⟨⟨r.book,fun i hi hs=>?_,fun i hi hs=>?_,fun i hi hs=>?_⟩,?_,fun g yT hne=>?_⟩
  · dsimp only
    rw [bX,bX]
    by_cases e:i = bI h
    · rw [if_pos e,if_pos e]; exact ⟨rfl,hx.e,hx.n,hx.r,hx.c,hx.c0⟩
    · rw [if_neg e,if_neg e]; exact r.D9 i hi hs
  · dsimp only; rw [hT,hW]; exact r.up i hi hs
  · dsimp only; rw [hT]; exact r.old i hi hs
  · obtain ⟨ρ,hρ⟩:=tt
    refine ⟨ρ,fun i hi hs hu=>?_⟩
    dsimp only at hu ⊢; rw [hW] at hu ⊢; exact hρ i hi hs hu
  · have yM:bI g ≠ bI h:=fun e=>hne ⟨by rw [← eA yT,← eA xI,e],rfl⟩
    refine ⟨yT,?_,?_,?_, .inl ?_⟩
    all_goals (dsimp only; rw [iq _ _ yM])
end Go.Proofs.Ytmdpbdhkmfjlhaa
namespace Go.Proofs.Ytmdpbdhkmfjlhaa
open Go Go.Bw
inductive jr (w:ag) (s:Nat):Nat→Prop
  | self:jr w s s
  | down {i:Nat}:i < 32→w.B.Is i = 1→(w.R i).Up ≠ 0→jr w s (bI (w.R i).Up)→jr w s i
theorem jr.iff {w:ag} {s i:Nat} (hi:i < 32) (h1:w.B.Is i = 1):jr w s i↔i = s∨((w.R i).Up ≠ 0∧jr w s (bI (w.R i).Up)):=by
  constructor
  · intro h
    cases h with
    | self=>exact .inl rfl
    | down _ _ a b=>exact .inr ⟨a,b⟩
  · rintro (h | ⟨a,b⟩)
    · subst h; exact .self
    · exact .down hi h1 a b
def m8 (w:ag) (ρ:Nat→Nat) (x:Int):Nat:=if x = 0 then 0 else pV (fun j=>decide (ρ j < ρ (bI x))) 32 + 1
theorem ri {t:aj} {w:ag} (r:fu t w) {ρ:Nat→Nat} (hρ:Lf w ρ) {x:Int} (hx:bh w.B x):m8 w ρ (w.R (bI x)).Up < m8 w ρ x:=by
  have hp:=fW hx
  obtain ⟨l1,l2⟩:=dG hx
  unfold m8
  rw [if_neg (show ¬ x = 0 by omega)]
  split
  · omega
  · rename_i hu
    have h2:=hρ _ l1 l2 hu
    have:=nw (p:=fun j=>decide (ρ j < ρ (bI (w.R (bI x)).Up))) (q:=fun j=>decide (ρ j < ρ (bI x))) (fun j hj=>by simp at hj ⊢; omega) (c:=bI (w.R (bI x)).Up) (by simp) (by simpa using h2) 32 (iw _)
    omega
theorem rj (w:ag) (ρ:Nat→Nat) (x:Int):m8 w ρ x ≤ 32:=by
  unfold m8
  split
  · omega
  · have:=nw (p:=fun j=>decide (ρ j < ρ (bI x))) (q:=fun _=>true) (fun _ _=>rfl) (c:=bI x) (by simp) rfl 32 (iw _)
    have:=sd (fun _=>true) 32
    omega
theorem wP {n:Nat} (hn:40 ≤ n) {t:aj} {w:ag} (r:fu t w) (tt:gQ w) {h:Int} (hh:bh w.B h) {x0:Int} (hx0:bh w.B x0) :
    ∃b,bQ n w h x0 = some b∧(b = true↔(w.R (bI x0)).Up ≠ 0∧jr w (bI h) (bI (w.R (bI x0)).Up)):=by
  obtain ⟨ρ,hρ⟩:=tt
  unfold bQ
  have JD:=fW hh
  refine gJ (fun (x:Int)=>(x = 0∨bh w.B x)∧(((w.R (bI x0)).Up ≠ 0∧jr w (bI h) (bI (w.R (bI x0)).Up))↔(x ≠ 0∧(w.R (bI x)).Up ≠ 0∧jr w (bI h) (bI (w.R (bI x)).Up)))) (fun x=>m8 w ρ x)
    (fun o=>∃b,o = some b∧(b = true↔(w.R (bI x0)).Up ≠ 0∧jr w (bI h) (bI (w.R (bI x0)).Up))) ?_ n x0 ⟨.inr hx0,?_⟩ (by have:=rj w ρ x0; omega)
  · rintro kk x ⟨hx,hw⟩ ih
    by_cases h0:x = 0
    · subst h0
      rw [ak (by rfl)]
      exact ⟨false,rfl,by rw [hw]; simp⟩
    · have hg:=hx.resolve_left h0
      have I6:=de x
      obtain ⟨l1,l2⟩:=dG hg
      rw [aA (by simpa using h0),au (cS hn r.book hg.1),hg.2,if_pos rfl,aB (eO x)]
      show ∃b,cn ((w.R (bI x)).Up == h) (some (h != 0)) (kk (w.R (bI x)).Up) = some b∧_
      by_cases hu:(w.R (bI x)).Up = h
      · rw [aA (by simpa using hu)]
        refine ⟨_,rfl,?_⟩
        rw [hw,hu]
        exact ⟨fun _=>⟨h0,by omega, .self⟩,fun _=>by simp; omega⟩
      · rw [ak (by simpa using hu)]
        refine ih _ ⟨r.D8 hg,hw.trans ?_⟩ (ri r hρ hg)
        constructor
        · rintro ⟨_,a,b⟩
          have Hz:=(r.D8 hg).resolve_left a
          obtain ⟨m1,m2⟩:=dG Hz
          refine ⟨a,?_⟩
          rcases (jr.iff m1 m2).1 b with e | e
          · exact absurd (by rw [← eA Hz,← eA hh,e]) hu
          · exact e
        · rintro ⟨a,b,c⟩
          have Hz:=(r.D8 hg).resolve_left a
          obtain ⟨m1,m2⟩:=dG Hz
          exact ⟨h0,a, .down m1 m2 b c⟩
  · have:=fW hx0
    exact ⟨fun a=>⟨by omega,a⟩,fun a=>a.2⟩
theorem DB {n:Nat} (hn:40 ≤ n) {t:aj} {w:ag} (r:fu t w) (tt:gQ w) {h:Int} (hh:bh w.B h) {x0:Int} (hx0:x0 = 0∨bh w.B x0) (z:Option (aj × Int)) :
    (x0 ≠ 0∧jr w (bI h) (bI x0)→dW (fun Ar (c9:Int) =>
  cn ((c9 != 0)) (
  cn ((c9 == h)) (
  some (t,12)) (
  bd (dU n t c9) fun cR =>
  Ar cR)) z) n x0 = some (t,12))∧(¬ (x0 ≠ 0∧jr w (bI h) (bI x0))→dW (fun Ar (c9:Int) =>
  cn ((c9 != 0)) (
  cn ((c9 == h)) (
  some (t,12)) (
  bd (dU n t c9) fun cR =>
  Ar cR)) z) n x0 = z):=by
  obtain ⟨ρ,hρ⟩:=tt
  have JD:=fW hh
  refine gJ (fun (x:Int)=>(x = 0∨bh w.B x)∧((x0 ≠ 0∧jr w (bI h) (bI x0))↔(x ≠ 0∧jr w (bI h) (bI x)))) (fun x=>m8 w ρ x)
    (fun o=>(x0 ≠ 0∧jr w (bI h) (bI x0)→o = some (t,12))∧(¬ (x0 ≠ 0∧jr w (bI h) (bI x0))→o = z)) ?_ n x0 ⟨hx0,Iff.rfl⟩ (by have:=rj w ρ x0; omega)
  rintro kk x ⟨hx,hw⟩ ih
  by_cases h0:x = 0
  · subst h0
    rw [ak (by rfl)]
    exact ⟨fun hq=>absurd rfl (hw.1 hq).1,fun _=>rfl⟩
  · have hg:=hx.resolve_left h0
    obtain ⟨l1,l2⟩:=dG hg
    rw [aA (by simpa using h0)]
    by_cases hu:x = h
    · rw [aA (by simpa using hu)]
      exact ⟨fun _=>rfl,fun hq=>absurd (hw.2 ⟨h0,by rw [hu]; exact .self⟩) hq⟩
    · rw [ak (by simpa using hu),au (xT r hg)]
      refine ih _ ⟨r.D8 hg,hw.trans ?_⟩ (ri r hρ hg)
      constructor
      · rintro ⟨_,b⟩
        rcases (jr.iff l1 l2).1 b with e | e
        · exact absurd (by rw [← eA hg,← eA hh,e]) hu
        · exact e
      · rintro ⟨a,b⟩
        exact ⟨h0, .down l1 l2 a b⟩
theorem Cl {n:Nat} (hn:40 ≤ n) {t:aj} {w:ag} (r:fu t w) (tt:gQ w) {h a:Int} (h0:0 ≤ h) (h1:h < 4294967296) (a0:0 ≤ a) (a1:a < 4294967296) :
    ∃t' w' e,cT n t h a = some (t',e)∧fc n w h a = some (w',e)∧DV t w t' w' h e false:=by
  unfold cT fc
  rw [au (jg r.book h0 h1),au (bM hn r h0),nu r a0 a1,cy (bM hn r a0)]
  cases hg:aX w.B h with
  | false=>exact ⟨t,w,4,rfl,rfl, .same r tt _ _ _⟩
  | true =>
  have xI:bh w.B h:=⟨h0,hg⟩
  obtain ⟨l1,l2⟩:=dG xI
  have hpos:=fW xI
  have e0:∀v:Bool,(((!true) == false) && v) = v:=fun v=>by cases v <;> rfl
  rw [e0,jb]
  cases ha:yj w.B a with
  | false=>exact ⟨t,w,4,rfl,rfl, .same r tt _ _ _⟩
  | true =>
  rw [ak (by rfl),ak (by rfl)]
  have BQ:=uK a0 ha
  obtain ⟨p1,p2⟩:=DB (n:=n) hn r tt xI BQ (bd (bk n h) fun kA =>
  gu (dj kA.1 32) <|
  lt ({ t with regions:=(dX t.regions (Int.toNat kA.1) ({ (t.regions (Int.toNat kA.1)) with Up:=a })) }:aj) fun gj =>
  some (gj,0))
  have hR:∃b,(b = true↔a ≠ 0∧jr w (bI h) (bI a))∧∀(F:Bool→Option (ag × Int)),(cl (((a != 0) == true) && ((a == h) == false)) (bQ n w h a) default fun dz=>F ((a != 0) && ((a == h) || dz))) = F b:=by
    rcases BQ with e | e
    · subst e
      exact ⟨false,by simp,fun F=>rfl⟩
    · have hp:=fW e
      obtain ⟨b,b1,b2⟩:=wP (n:=n) hn r tt xI e
      obtain ⟨m1,m2⟩:=dG e
      refine ⟨(a == h) || b,?_,fun F=>?_⟩
      · rw [Bool.or_eq_true,beq_iff_eq,b2,jr.iff m1 m2]
        constructor
        · rintro (q | q)
          · exact ⟨by omega, .inl (by rw [q])⟩
          · exact ⟨by omega, .inr q⟩
        · rintro ⟨_,q | q⟩
          · exact .inl (by rw [← eA e,← eA xI,q])
          · exact .inr q
      · have e1:(a != 0) = true:=by simp; omega
        rw [cy b1,e1]
        cases a == h <;> rfl
  obtain ⟨b,b1,b2⟩:=hR
  rw [b2 (fun v=>cn v (some (w,12)) (bd (bD n w.B h) fun bW =>
  gu (dj bW 32) <|
  lt ({ w with R:=(dX w.R (Int.toNat bW) ({ (w.R (Int.toNat bW)) with Up:=a })) }:ag) fun fa =>
  some (fa,0)))]
  cases b with
  | true=>exact ⟨t,w,12,p1 (b1.1 rfl),rfl, .same r tt _ _ _⟩
  | false =>
  have KT:¬ (a ≠ 0∧jr w (bI h) (bI a)):=fun q=>by have:=b1.2 q; cases this
  rw [p2 KT]
  rw [au (iu h0 h1),ak rfl,au (cS hn r.book h0),hg,if_pos rfl]
  refine ⟨⟨t.book,dX t.regions (bI h) { t.regions (bI h) with Up:=a }⟩,⟨w.B,dX w.R (bI h) { w.R (bI h) with Up:=a }⟩,0,?_,?_,?_⟩
  · rw [aB (eO h)]; rfl
  · rw [aB (eO h)]; rfl
  refine ⟨⟨r.book,fun i hi hs=>?_,fun i hi hs=>?_,fun i hi hs=>?_⟩,?_,fun g yT hne=>?_⟩
  · dsimp only
    rw [bX,bX]
    by_cases e:i = bI h
    · rw [if_pos e,if_pos e]; exact (r.D9 _ l1 l2).EH _ _
    · rw [if_neg e,if_neg e]; exact r.D9 i hi hs
  · dsimp only
    simp only [bX]
    by_cases e:i = bI h
    · rw [if_pos e,if_pos e]
      show a = vI w.B a
      rcases BQ with q | q
      · subst q; rfl
      · unfold vI; rw [if_pos q.2]
    · rw [if_neg e,if_neg e]; exact r.up i hi hs
  · dsimp only
    simp only [bX]
    by_cases e:i = bI h
    · rw [if_pos e]; exact BQ.imp _root_.id n6
    · rw [if_neg e]; exact r.old i hi hs
  · obtain ⟨ρ,hρ⟩:=tt
    obtain ⟨f,f1,f2⟩ : ∃f:Nat→Nat,(∀i,jr w (bI h) i→f i = ρ i + ρ (bI a) + 1)∧∀i,¬ jr w (bI h) i→f i = ρ i:=by
      classical
      exact ⟨fun i=>if jr w (bI h) i then ρ i + ρ (bI a) + 1 else ρ i,fun i q=>if_pos q,fun i q=>if_neg q⟩
    refine ⟨f,fun i hi hs hu=>?_⟩
    have hU:(dX w.R (bI h) { w.R (bI h) with Up:=a } i).Up = if i = bI h then a else (w.R i).Up:=by
      rw [bX]; split <;> rfl
    dsimp only at hu hs ⊢
    rw [hU] at hu ⊢
    by_cases e:i = bI h
    · rw [if_pos e] at hu ⊢
      rw [f2 _ (fun q=>KT ⟨hu,q⟩),e,f1 _ .self]
      omega
    · rw [if_neg e] at hu ⊢
      have h2:=hρ i hi hs hu
      have h3:=jr.iff (s:=bI h) hi hs
      by_cases q:jr w (bI h) (bI (w.R i).Up)
      · rw [f1 _ q,f1 _ (h3.2 (.inr ⟨hu,q⟩))]; omega
      · rw [f2 _ q,f2 _ (fun c=>(h3.1 c).elim e fun c=>q c.2)]; exact h2
  · have yM:bI g ≠ bI h:=fun e=>hne ⟨by rw [← eA yT,← eA xI,e],rfl⟩
    refine ⟨yT,?_,?_,?_, .inl ?_⟩
    all_goals (dsimp only; rw [iq _ _ yM])
end Go.Proofs.Ytmdpbdhkmfjlhaa
namespace Go.Proofs.Ytmdpbdhkmfjlhaa
open Go Go.Bw
theorem Aa {n:Nat} (hn:40 ≤ n) {t:aj} {w:ag} (r:fu t w):jz n w = some (bB w.B 32):=by
  unfold jz
  refine dN (fun (l:List Int) (x:Int)=>∃k:Nat,x = k∧k ≤ 32∧l = bB w.B k) (fun _ (x:Int)=>(32 - x).toNat) (fun o=>o = some (bB w.B 32)) ?_ n [] 0 ⟨0,rfl,by omega,rfl⟩ (by omega)
  rintro kk l x ⟨k,rfl,hk,rfl⟩ ih
  by_cases hc:k < 32
  · rw [aA (by simp; omega),aB (cC (by omega) (by omega))]
    have hr:=r.book.ic k hc
    by_cases e:w.B.Is k = 1
    · rw [aA (by simpa using e),au (nT (by omega) (by omega) hr.1 hr.2),aB (jC (by have:=ff w.B k; omega) (by have:=ff w.B k; omega)),lt_eq,bP (by omega) (by omega)]
      exact ih _ _ ⟨k + 1,by omega,by omega,by simp [bB,e]⟩ (by omega)
    · rw [ak (by simpa using e),bP (by omega) (by omega)]
      exact ih _ _ ⟨k + 1,by omega,by omega,by simp [bB,e]⟩ (by omega)
  · rw [ak (by simp; omega)]
    obtain rfl:k = 32:=by omega
    rfl
theorem A5 {n:Nat} (hn:40 ≤ n) {t:aj} {w:ag} (r:fu t w):dS n t.book = some (bB w.B 32):=by
  unfold dS; rw [au (wV hn r.book)]
theorem fS {α:Type} [Inhabited α] {l:List α} {i:Nat} (h:i < l.length):l.getD i default ∈ l:=by
  rw [List.getD,List.getElem?_eq_getElem h]; exact List.getElem_mem _
end Go.Proofs.Ytmdpbdhkmfjlhaa
namespace Go.Proofs.Ytmdpbdhkmfjlhaa
open Go Go.Bw
theorem tA {i:Nat} (h:jc.B.Is i = 1):False:=absurd (show (0:Int) = 1 from h) (by decide)
theorem Bs:fu eJ jc∧gQ jc:=
  ⟨⟨⟨fun i _=>rfl,fun i _=>rfl,fun i _=>rfl,fun i _=>.inl rfl,fun i _=>⟨Int.le_refl 0,show (0:Int) ≤ 8388607 by decide⟩⟩,fun i _ h=>(tA h).elim,fun i _ h=>(tA h).elim,fun i _ h=>(tA h).elim⟩,fun _=>0,fun i _ h=>(tA h).elim⟩
end Go.Proofs.Ytmdpbdhkmfjlhaa
namespace Go.Proofs.Ytmdpbdhkmfjlhaa
open Go Go.Bw
structure Fo (G:List Int) (up:Int→Int) (ρ:Int→Nat):Prop where
  nd:G.Nodup
  len:G.length ≤ 32
  pos:∀x ∈ G,x ≠ 0
  Hr:∀x ∈ G,up x = 0∨up x ∈ G
  rk:∀x ∈ G,ρ x < 32
  dn:∀x ∈ G,up x ≠ 0→ρ (up x) < ρ x
def s5 (up:Int→Int):Nat→Int→List Int
  | 0,_=>[]
  | k + 1,x=>if up x = 0 then [] else up x::s5 up k (up x)
def fI (G:List Int) (up:Int→Int) (x:Int):List Int:=G.filter fun y=>up y == x
def s7 (G:List Int) (up:Int→Int):Nat→Int→List Int
  | 0,_=>[]
  | k + 1,x=>x::(fI G up x).flatMap (s7 G up k)
abbrev U6 (up:Int→Int) (x:Int):List Int:=s5 up 32 x
abbrev V6 (G:List Int) (up:Int→Int) (x:Int):List Int:=s7 G up 32 x
theorem gn {G:List Int} {up:Int→Int} {x y:Int}:y ∈ fI G up x↔y ∈ G∧up y = x:=by simp [fI]
theorem m7 {α β:Type} {l:List α} {f g:α→List β} (h:∀x ∈ l,f x = g x):l.flatMap f = l.flatMap g:=by
  induction l with
  | nil=>rfl
  | cons a l ih=>rw [List.flatMap_cons,List.flatMap_cons,h a (by simp),ih fun x hx=>h x (by simp [hx])]
section
variable {G:List Int} {up:Int→Int} {ρ:Int→Nat}
theorem Fo.zM (f:Fo G up ρ) {x:Int} (hx:x ∈ G) (h:up x ≠ 0):up x ∈ G:=(f.Hr x hx).resolve_left h
theorem Fo.uz (f:Fo G up ρ) (P:Int→Prop) (h:∀x ∈ G,(up x ≠ 0→P (up x))→P x):∀x ∈ G,P x:=by
  have key:∀k x,x ∈ G→ρ x < k→P x:=by
    intro k
    induction k with
    | zero=>intro x _ h; omega
    | succ k ih=>intro x hx hk; exact h x hx fun hu=>ih _ (f.zM hx hu) (by have:=f.dn x hx hu; omega)
  exact fun x hx=>key _ x hx (Nat.lt_succ_self _)
theorem Fo.Ct (f:Fo G up ρ) {x y:Int} (hx:x ∈ G) (hy:y ∈ G) (h:up y = x):ρ x < ρ y:=by
  have:=f.dn y hy (by rw [h]; exact f.pos x hx)
  rwa [h] at this
theorem Fo.Du (f:Fo G up ρ) (P:Int→Prop) (h:∀x ∈ G,(∀y ∈ G,up y = x→P y)→P x):∀x ∈ G,P x:=by
  have key:∀k x,x ∈ G→32 - ρ x < k→P x:=by
    intro k
    induction k with
    | zero=>intro x _ h; omega
    | succ k ih=>intro x hx hk; exact h x hx fun y hy hu=>ih _ hy (by have:=f.Ct hx hy hu; have:=f.rk y hy; omega)
  exact fun x hx=>key _ x hx (Nat.lt_succ_self _)
theorem Fo.LF (f:Fo G up ρ):∀k x,x ∈ G→ρ x < k→s5 up (k + 1) x = s5 up k x:=by
  intro k
  induction k with
  | zero=>intro x _ h; omega
  | succ k ih =>
    intro x hx hk
    show (if up x = 0 then [] else up x::s5 up (k + 1) (up x)) = (if up x = 0 then [] else up x::s5 up k (up x))
    split
    · rfl
    · rename_i hu
      rw [ih _ (f.zM hx hu) (by have:=f.dn x hx hu; omega)]
theorem Fo.ED (f:Fo G up ρ) {x:Int} (hx:x ∈ G):U6 up x = if up x = 0 then [] else up x::U6 up (up x):=by
  show s5 up (31 + 1) x = _
  rw [s5]
  split
  · rfl
  · rename_i hu
    have:=f.dn x hx hu
    have:=f.rk x hx
    rw [← f.LF 31 _ (f.zM hx hu) (by omega)]
theorem Fo.u0 (f:Fo G up ρ) {x:Int} (hx:x ∈ G) (h:up x = 0):U6 up x = []:=by rw [f.ED hx,if_pos h]
theorem Fo.u1 (f:Fo G up ρ) {x:Int} (hx:x ∈ G) (h:up x ≠ 0):U6 up x = up x::U6 up (up x):=by rw [f.ED hx,if_neg h]
theorem Fo.Ly (f:Fo G up ρ):∀k x,x ∈ G→32 - ρ x ≤ k→s7 G up (k + 1) x = s7 G up k x:=by
  intro k
  induction k with
  | zero=>intro x hx h; have:=f.rk x hx; omega
  | succ k ih =>
    intro x hx hk
    rw [s7,s7]
    congr 1
    refine m7 fun y hy=>?_
    obtain ⟨hy,hu⟩:=gn.1 hy
    exact ih y hy (by have:=f.Ct hx hy hu; have:=f.rk y hy; omega)
theorem Fo.rF (f:Fo G up ρ) {x:Int} (hx:x ∈ G):V6 G up x = x::(fI G up x).flatMap (V6 G up):=by
  show s7 G up (31 + 1) x = _
  rw [s7]
  congr 1
  refine m7 fun y hy=>?_
  obtain ⟨hy,hu⟩:=gn.1 hy
  have:=f.Ct hx hy hu
  exact (f.Ly 31 y hy (by have:=f.rk y hy; omega)).symm
theorem Fo.oo (f:Fo G up ρ) {x:Int} (hx:x ∈ G):∀y ∈ U6 up x,y ∈ G∧ρ y < ρ x:=by
  refine f.uz (fun x=>∀y ∈ U6 up x,y ∈ G∧ρ y < ρ x) (fun x hx ih y hy=>?_) x hx
  by_cases hu:up x = 0
  · rw [f.u0 hx hu] at hy; cases hy
  · rw [f.u1 hx hu] at hy
    have:=f.dn x hx hu
    rcases List.mem_cons.1 hy with h | h
    · rw [h]; exact ⟨f.zM hx hu,this⟩
    · obtain ⟨h1,h2⟩:=ih hu y h; exact ⟨h1,by omega⟩
theorem Fo.By (f:Fo G up ρ) {x:Int} (hx:x ∈ G):x ∉ U6 up x:=fun h=>by have:=(f.oo hx x h).2; omega
theorem Fo.HY (f:Fo G up ρ) {x y z:Int} (hx:x ∈ G) (hy:y ∈ U6 up x) (hz:z ∈ U6 up y):z ∈ U6 up x:=by
  revert hy
  refine f.uz (fun x=>y ∈ U6 up x→z ∈ U6 up x) (fun x hx ih hy=>?_) x hx
  by_cases hu:up x = 0
  · rw [f.u0 hx hu] at hy; cases hy
  · rw [f.u1 hx hu] at hy ⊢
    rcases List.mem_cons.1 hy with h | h
    · rw [← h]; exact List.mem_cons_of_mem _ hz
    · exact List.mem_cons_of_mem _ (ih hu h)
theorem Fo.HX (f:Fo G up ρ) {x y:Int} (hx:x ∈ G) (hy:y = x∨y ∈ U6 up x) (hu:up y ≠ 0):up y ∈ U6 up x:=by
  rcases hy with h | h
  · subst h; rw [f.u1 hx hu]; exact List.mem_cons_self
  · exact f.HY hx h (by rw [f.u1 (f.oo hx y h).1 hu]; exact List.mem_cons_self)
theorem Fo.Cg (f:Fo G up ρ) {x y:Int} (hy:y ∈ G) (h:x ∈ U6 up y):∃k ∈ G,up k = x∧(k = y∨k ∈ U6 up y):=by
  revert h
  refine f.uz (fun y=>x ∈ U6 up y→∃k ∈ G,up k = x∧(k = y∨k ∈ U6 up y)) (fun y hy ih h=>?_) y hy
  by_cases hu:up y = 0
  · rw [f.u0 hy hu] at h; cases h
  · rw [f.u1 hy hu] at h
    rcases List.mem_cons.1 h with h | h
    · exact ⟨y,hy,h.symm, .inl rfl⟩
    · obtain ⟨k,k1,k2,k3⟩:=ih hu h
      refine ⟨k,k1,k2, .inr ?_⟩
      rw [f.u1 hy hu]
      rcases k3 with k3 | k3
      · rw [k3]; exact List.mem_cons_self
      · exact List.mem_cons_of_mem _ k3
theorem Fo.L1 (f:Fo G up ρ) {a b y:Int} (hy:y ∈ G) (ha:a = y∨a ∈ U6 up y) (hb:b = y∨b ∈ U6 up y):a = b∨a ∈ U6 up b∨b ∈ U6 up a:=by
  revert ha hb
  refine f.uz (fun y=>(a = y∨a ∈ U6 up y)→(b = y∨b ∈ U6 up y)→a = b∨a ∈ U6 up b∨b ∈ U6 up a) (fun y hy ih ha hb=>?_) y hy
  by_cases hu:up y = 0
  · rw [f.u0 hy hu] at ha hb
    have e1:a = y:=ha.resolve_right (by simp)
    have e2:b = y:=hb.resolve_right (by simp)
    exact .inl (e1.trans e2.symm)
  · rcases ha with ha | ha
    · rcases hb with hb | hb
      · exact .inl (ha.trans hb.symm)
      · subst ha; exact .inr (.inr hb)
    · rcases hb with hb | hb
      · subst hb; exact .inr (.inl ha)
      · rw [f.u1 hy hu] at ha hb
        exact ih hu (List.mem_cons.1 ha) (List.mem_cons.1 hb)
theorem Fo.mG (f:Fo G up ρ) {x:Int} (hx:x ∈ G):∀y,y ∈ V6 G up x↔y ∈ G∧(y = x∨x ∈ U6 up y):=by
  refine f.Du (fun x=>∀y,y ∈ V6 G up x↔y ∈ G∧(y = x∨x ∈ U6 up y)) (fun x hx ih y=>?_) x hx
  rw [f.rF hx,List.mem_cons,List.mem_flatMap]
  constructor
  · rintro (h | ⟨k,hk,h⟩)
    · subst h; exact ⟨hx, .inl rfl⟩
    · obtain ⟨k1,k2⟩:=gn.1 hk
      obtain ⟨h1,h2⟩:=(ih k k1 k2 y).1 h
      refine ⟨h1, .inr ?_⟩
      rw [← k2]
      exact f.HX h1 (h2.imp Eq.symm _root_.id) (by rw [k2]; exact f.pos x hx)
  · rintro ⟨h1,h | h⟩
    · exact .inl h
    · obtain ⟨k,k1,k2,k3⟩:=f.Cg h1 h
      exact .inr ⟨k,gn.2 ⟨k1,k2⟩,(ih k k1 k2 y).2 ⟨h1,k3.imp Eq.symm _root_.id⟩⟩
theorem qp {α β:Type} {l:List α} {g:α→List β} (hl:l.Nodup) (h1:∀x ∈ l,(g x).Nodup) (h2:∀x ∈ l,∀y ∈ l,x ≠ y→∀z ∈ g x,z ∉ g y):(l.flatMap g).Nodup:=by
  induction l with
  | nil=>simp
  | cons a l ih =>
    obtain ⟨ha,hl⟩:=List.nodup_cons.1 hl
    rw [List.flatMap_cons]
    refine List.nodup_append.2 ⟨h1 a (by simp),ih hl (fun x hx=>h1 x (by simp [hx])) (fun x hx y hy=>h2 x (by simp [hx]) y (by simp [hy])),fun z hz w hw e=>?_⟩
    subst e
    obtain ⟨b,hb,L7⟩:=List.mem_flatMap.1 hw
    exact h2 a (by simp) b (by simp [hb]) (fun e=>ha (e ▸ hb)) z hz L7
theorem Fo.Ez (f:Fo G up ρ) {x:Int} (hx:x ∈ G):(V6 G up x).Nodup:=by
  refine f.Du (fun x=>(V6 G up x).Nodup) (fun x hx ih=>?_) x hx
  rw [f.rF hx]
  refine List.nodup_cons.2 ⟨fun h=>?_,qp (f.nd.filter _) (fun k hk=>?_) (fun a ha b hb hne z hz L8=>?_)⟩
  · obtain ⟨k,hk,h⟩:=List.mem_flatMap.1 h
    obtain ⟨k1,k2⟩:=gn.1 hk
    have h3:=((f.mG k1 x).1 h).2
    have:=f.Ct hx k1 k2
    rcases h3 with h3 | h3
    · rw [h3] at this; omega
    · have:=(f.oo hx k h3).2; omega
  · obtain ⟨k1,k2⟩:=gn.1 hk; exact ih k k1 k2
  · obtain ⟨a1,a2⟩:=gn.1 ha
    obtain ⟨b1,b2⟩:=gn.1 hb
    obtain ⟨z1,z2⟩:=(f.mG a1 z).1 hz
    obtain ⟨_,z3⟩:=(f.mG b1 z).1 L8
    have ra:=f.Ct hx a1 a2
    have rb:=f.Ct hx b1 b2
    have x0:=f.pos x hx
    have no:∀{p q:Int},p ∈ G→up p = x→ρ x < ρ q→q ∉ U6 up p:=fun hp hu hr hq=>by
      rw [f.u1 hp (by rw [hu]; exact x0),hu] at hq
      rcases List.mem_cons.1 hq with h | h
      · rw [h] at hr; omega
      · have:=(f.oo hx _ h).2; omega
    rcases f.L1 z1 (z2.imp Eq.symm _root_.id) (z3.imp Eq.symm _root_.id) with h | h | h
    · exact hne h
    · exact no b1 b2 ra h
    · exact no a1 a2 rb h
theorem vR {l m:List Int} (hl:l.Nodup) (hs:∀x ∈ l,x ∈ m):l.length ≤ m.length:=by
  induction l generalizing m with
  | nil=>simp
  | cons a l ih =>
    obtain ⟨ha,hl⟩:=List.nodup_cons.1 hl
    have hm:=hs a (by simp)
    have:=ih (m:=m.erase a) hl (fun x hx=>(List.mem_erase_of_ne (fun (e:x = a)=>ha (by rw [← e]; exact hx))).2 (hs x (by simp [hx])))
    rw [List.length_erase_of_mem hm] at this
    have h0:0 < m.length:=List.length_pos_of_mem hm
    rw [List.length_cons]; omega
theorem Fo.qG (f:Fo G up ρ) {x:Int} (hx:x ∈ G):(V6 G up x).length ≤ 32:=Nat.le_trans (vR (f.Ez hx) fun y hy=>((f.mG hx y).1 hy).1) f.len
theorem Fo.HZ (f:Fo G up ρ) {x:Int} (hx:x ∈ G):(U6 up x).Nodup:=by
  refine f.uz (fun x=>(U6 up x).Nodup) (fun x hx ih=>?_) x hx
  by_cases hu:up x = 0
  · rw [f.u0 hx hu]; exact .nil
  · rw [f.u1 hx hu]; exact List.nodup_cons.2 ⟨f.By (f.zM hx hu),ih hu⟩
theorem Fo.xU (f:Fo G up ρ) {x:Int} (hx:x ∈ G):(U6 up x).length ≤ 32:=Nat.le_trans (vR (f.HZ hx) fun y hy=>(f.oo hx y hy).1) f.len
def tf (up:Int→Int) (x:Int):Int:=(U6 up x).getLastD x
theorem Fo.rt_eq (f:Fo G up ρ) {x:Int} (hx:x ∈ G):tf up x = if up x = 0 then x else tf up (up x):=by
  unfold tf
  by_cases hu:up x = 0
  · rw [f.u0 hx hu,if_pos hu]; rfl
  · rw [f.u1 hx hu,if_neg hu]
    cases h:U6 up (up x) with
    | nil=>rfl
    | cons a l=>simp [List.getLastD]
theorem Fo.x7 (f:Fo G up ρ) {x:Int} (hx:x ∈ G):tf up x ∈ G∧(tf up x = x∨tf up x ∈ U6 up x)∧up (tf up x) = 0:=by
  refine f.uz (fun x=>tf up x ∈ G∧(tf up x = x∨tf up x ∈ U6 up x)∧up (tf up x) = 0) (fun x hx ih=>?_) x hx
  rw [f.rt_eq hx]
  by_cases hu:up x = 0
  · rw [if_pos hu]; exact ⟨hx, .inl rfl,hu⟩
  · rw [if_neg hu]
    obtain ⟨h1,h2,h3⟩:=ih hu
    refine ⟨h1, .inr ?_,h3⟩
    rw [f.u1 hx hu]
    rcases h2 with h2 | h2
    · rw [h2]; exact List.mem_cons_self
    · exact List.mem_cons_of_mem _ h2
theorem Fo.pe (f:Fo G up ρ) {x:Int} (hx:x ∈ G):tf up x = x↔up x = 0:=by
  rw [f.rt_eq hx]
  by_cases hu:up x = 0
  · rw [if_pos hu]; exact ⟨fun _=>hu,fun _=>rfl⟩
  · rw [if_neg hu]
    refine ⟨fun h=>?_,fun h=>absurd h hu⟩
    have h1:=f.dn x hx hu
    obtain ⟨_,h2,_⟩:=f.x7 (f.zM hx hu)
    rw [h] at h2
    rcases h2 with h2 | h2
    · rw [← h2] at h1; omega
    · have:=(f.oo (f.zM hx hu) x h2).2; omega
end
end Go.Proofs.Ytmdpbdhkmfjlhaa
