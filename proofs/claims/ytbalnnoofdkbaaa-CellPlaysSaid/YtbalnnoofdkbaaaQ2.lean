/- Part 2 of what a proof leans on; pruned and shortened by a program out of longer texts. -/
import Derived.Test.YtbalnnoofdkbaaaQ1
namespace Go.Proofs.Ytbalnnoofdkbaaa
open Go Go.Bw
structure hM where
 gen:Int
 iV:Bool
 retired:Bool
abbrev bJ:aJ hM:=aJ.via (LP (LI .u32) (LP LB LB)) (fun x=>(x.gen,x.iV,x.retired))
abbrev oa:hM:=⟨0,false,false⟩
theorem fX:aN bJ (LI .u32) 0 (fun x=>x.gen) (fun x v=>{ x with gen:=v }):=(aN.fst aN.id).via _ _ _ 0 rfl (fun _=>rfl) (fun _ _=>rfl)
theorem fW:aN bJ LB 1 (fun x=>x.iV) (fun x v=>{ x with iV:=v }):=(aN.snd (aN.fst aN.id)).via _ _ _ 1 rfl (fun _=>rfl) (fun _ _=>rfl)
theorem jx:aN bJ LB 2 (fun x=>x.retired) (fun x v=>{ x with retired:=v }):=(aN.snd (aN.snd aN.id)).via _ _ _ 2 rfl (fun _=>rfl) (fun _ _=>rfl)
def kX (x y:hM):Bool:=x.gen == y.gen && x.iV == y.iV && x.retired == y.retired
theorem qB (x y:hM):Value.bool (xd [(0,some .u32),(1,none),(2,none)] (bJ.enc x) (bJ.enc y)) = .bool (kX x y):=congrArg Value.bool (by show ((x.gen == y.gen) && ((x.iV == y.iV) && ((x.retired == y.retired) && true))) = (x.gen == y.gen && x.iV == y.iV && x.retired == y.retired); simp [Bool.and_assoc])
structure bz where
 slots:(Nat→hM)
abbrev aF:aJ bz:=aJ.via (LA bJ 32) (fun x=>x.slots)
abbrev gT:bz:=⟨(fun _=>oa)⟩
theorem cI:aN aF (LA bJ 32) 0 (fun x=>x.slots) (fun x v=>{ x with slots:=v }):=aN.id.via _ _ _ 0 rfl (fun _=>rfl) (fun _ _=>rfl)
def kC (n:Nat) (a0:Int) (a1:Int):Option Int:=
 some (wr .u32 ((wr .u32 ((BX .u32 a1 8) + (wr .u32 a0))) + 1))
theorem qk {n a0 a1 r}  (h:kC n a0 a1 = some r):xE Try.prog 79 [.int .i64 a0, .int .u32 a1] (.int .u32 r):=by
 unfold kC at h
 refine eR Try.func79 (by kernel_rfl) rfl Try.ntmps79 rfl (fun cx dc hpre hro=>?_)
 refine SC 8 rf ?_
 refine ag rfl (C3 rfl rfl (by decide)) ?_
 refine SL 8 rf ?_
 have h:=sj h; subst h
 exact RV rf (rt rf rn) rf
def bU (n:Nat) (a0:Int):Option (Int × Bool):=
 cn (((decide ((wr .i64 ((wr .i64 (vR .u32 a0 255)) - 1)) < 0) || decide (32 ≤ (wr .i64 ((wr .i64 (vR .u32 a0 255)) - 1)))) || decide (8388607 < (wD .u32 a0 8)))) (
 some (0,false)) (
 some (wr .i64 ((wr .i64 (vR .u32 a0 255)) - 1),true))
theorem de {n a0 r}  (h:bU n a0 = some r):xE Try.prog 57 [.int .u32 a0] (.tuple #[.int .i64 r.1, .bool r.2]):=by
 unfold bU at h
 refine eR Try.func57 (by kernel_rfl) rfl Try.ntmps57 rfl (fun cx dc hpre hro=>?_)
 refine SC 9 rf ?_
 refine ag rfl (C6 rfl rfl) ?_
 refine SL 11 rf ?_
 refine GB rf rf rf (fun hb=>ah rfl) ?_
 refine GB rf rf rf (fun hb=>lF (bT rfl hb) rfl) ?_
 refine ag rfl (dV rfl rfl) ?_
 refine ag rfl (ah rfl) ?_
 refine GB rf rf rf (fun hb=>ah rfl) ?_
 refine GB rf rf rf (fun hb=>yc (bT rfl hb) rfl (by decide)) ?_
 refine GB rf rf rf (fun hb=>kW (bT rfl hb) rfl) ?_
 refine ag rfl (dV rfl rfl) ?_
 refine SL 2 rf ?_
 refine eS h rf (fun hc h=>?_) fun hc h=>?_
 ·
  refine SC 8 rf ?_
  have h:=sj h; subst h
  exact RV rf (rt rf (rt rf rn)) rf
 ·
  refine SC 10 rf ?_
  have h:=sj h; subst h
  exact RV rf (rt rf (rt rf rn)) rf
def aY (n:Nat) (a0:bz) (a1:Int):Option Bool:=
 bd (bU n a1) fun bp =>
 gu (!(bp.2 == true) || dU bp.1 32) <|
 lt ({ gen:=wD .u32 a1 8,iV:=true,retired:=false }:hM) fun kg =>
 some (bp.2 && (kX (a0.slots (Int.toNat bp.1)) kg))
theorem bf {n a0 a1 r}  (h:aY n a0 a1 = some r):xE Try.prog 35 [.agg (aF.enc a0).toArray, .int .u32 a1] (.bool r):=by
 unfold aY at h
 refine eR Try.func35 (by kernel_rfl) rfl Try.ntmps35 rfl (fun cx dc hpre hro=>?_)
 refine SC 2 rf ?_
 refine W1 rf (fa aF a0 rfl rfl) fun b2=>?_
 obtain ⟨bp,cu,h⟩:=bu h
 refine SL 6 rf ?_
 refine CV (de cu) rf rf ?_
 obtain ⟨oC,h⟩:=cD h
 obtain ⟨kg,lB,h⟩:=cQ h
 refine SL 11 rf ?_
 refine GB rf rf rf (fun hb=>ah rfl) ?_
 refine GB rf rf rf (fun hb=>aH rfl) ?_
 refine GB rf rf rf (fun hb=>gB (m:=(Int.toNat bp.1)) (bT rfl hb) (bT rfl hb) (ay (gG oC hb)).1 (ay (gG oC hb)).2) ?_
 refine GB rf rf rf (fun hb=>dR (M:=bJ) (cI.c0 (aN.idx (L:=bJ) (m:=32) (k:=3) ((Int.toNat bp.1)) (ay (gG oC hb)).2 rfl)) (bT rfl hb) rfl) ?_
 refine GB rf rf rf (fun hb=>ah rfl) ?_
 refine GB rf rf rf (fun hb=>yc (bT rfl hb) rfl (by decide)) ?_
 refine GB rf rf rf (fun hb=>iu (cs:=bJ.enc kg) (aU (bT rfl hb) (aU rfl rfl)) (by rw [lB]; rfl)) ?_
 refine GB rf rf rf (fun hb=>rP (C4 (cs:=bJ.enc (a0.slots (Int.toNat bp.1))) (ds:=bJ.enc kg) (bT rfl hb) (bT rfl hb) rfl rfl) (qB _ _)) ?_
 refine ag rfl (cM rfl rfl) ?_
 refine SL 4 rf ?_
 have h:=sj h; subst h
 exact RV rf (rt rf rn) rf
def hO (n:Nat) (a0:bz) (a1:Int):Option (Int × Bool):=
 gu (!((decide (a1 < 0) || decide (32 ≤ a1)) == false) || dU a1 32) <|
 cn (((decide (a1 < 0) || decide (32 ≤ a1)) || (!((a0.slots (Int.toNat a1)).iV)))) (
 some (0,false)) (
 gu (dU a1 32) <|
 bd (kC n a1 ((a0.slots (Int.toNat a1)).gen)) fun kg =>
 some (kg,true))
theorem pX {n a0 a1 r}  (h:hO n a0 a1 = some r):xE Try.prog 69 [.agg (aF.enc a0).toArray, .int .i64 a1] (.tuple #[.int .u32 r.1, .bool r.2]):=by
 unfold hO at h
 refine eR Try.func69 (by kernel_rfl) rfl Try.ntmps69 rfl (fun cx dc hpre hro=>?_)
 refine SC 2 rf ?_
 refine W1 rf (fa aF a0 rfl rfl) fun b2=>?_
 obtain ⟨oD,h⟩:=cD h
 refine SL 10 rf ?_
 refine GB rf rf rf (fun hb=>ah rfl) ?_
 refine GB rf rf rf (fun hb=>lF (bT rfl hb) rfl) ?_
 refine ag rfl (dV rfl rfl) ?_
 refine ag rfl (ah rfl) ?_
 refine GB rf rf rf (fun hb=>ah rfl) ?_
 refine GB rf rf rf (fun hb=>aH rfl) ?_
 refine GB rf rf rf (fun hb=>gB (m:=(Int.toNat a1)) (bT rfl hb) (bT rfl hb) (ay (gG oD hb)).1 (ay (gG oD hb)).2) ?_
 refine GB rf rf rf (fun hb=>eX (bT rfl hb)) ?_
 refine GB rf rf rf (fun hb=>nx ((cI.c0 (aN.idx (L:=bJ) (m:=32) (k:=3) ((Int.toNat a1)) (ay (gG oD hb)).2 rfl)).comp fW) (bT rfl hb)) ?_
 refine GB rf rf rf (fun hb=>eW (bT rfl hb)) ?_
 refine ag rfl (dV rfl rfl) ?_
 refine SL 2 rf ?_
 refine eS h rf (fun hc h=>?_) fun hc h=>?_
 ·
  refine SC 8 rf ?_
  have h:=sj h; subst h
  exact RV rf (rt rf (rt rf rn)) rf
 ·
  obtain ⟨oC,h⟩:=cD h
  obtain ⟨kg,lB,h⟩:=bu h
  refine SC 7 rf ?_
  refine ag rfl (gB (m:=(Int.toNat a1)) rfl rfl (ay oC).1 (ay oC).2) ?_
  refine ag rfl (eX rfl) ?_
  refine ag rfl (bQ ((cI.c0 (aN.idx (L:=bJ) (m:=32) (k:=3) ((Int.toNat a1)) (ay oC).2 rfl)).comp fX) rfl) ?_
  refine CV (qk lB) rf rf ?_
  refine SL 5 rf ?_
  have h:=sj h; subst h
  exact RV rf (rt rf (rt rf rn)) rf
def eY (n:Nat) (a0:bz):Option (bz × Int × Bool):=
 ef (fun wK (cB:Int) =>
 cn (decide (cB < 32)) (
 gu (dU cB 32) <|
 lt ((a0.slots (Int.toNat cB)):hM) fun cR =>
 cn ((cR.iV || cR.retired)) (
 wK (wr .i64 (cB + 1))) (
 gu (dU cB 32) <|
 lt ({ a0 with slots:=(eO a0.slots (Int.toNat cB) ({ (a0.slots (Int.toNat cB)) with iV:=true })) }:bz) fun eH =>
 bd (kC n cB cR.gen) fun bZ =>
 some (eH,bZ,true))) (
 some (a0,0,false))) n 0
theorem nQ {n a0 r}  (h:eY n a0 = some r):xE Try.prog 68 [.agg (aF.enc a0).toArray] (.tuple #[.agg (aF.enc r.1).toArray, .int .u32 r.2.1, .bool r.2.2]):=by
 unfold eY at h
 refine eR Try.func68 (by kernel_rfl) rfl Try.ntmps68 rfl (fun cx dc hpre hro=>?_)
 refine SC 2 rf ?_
 refine W1 rf (fa aF a0 rfl rfl) fun b1=>?_
 refine W1 rf (cP (L:=aF) (z:=gT) ⟨by kernel_rfl⟩) fun b2=>?_
 refine SL 8 rf ?_
 refine ag rfl (dR (M:=(LA bJ 32)) cI rfl rfl) ?_
 refine SL 4 rf ?_
 obtain ⟨q8,ni,h⟩:=ld h
 refine LO (β:=Int) [1,2,8] [0,1] (fun (m7,cB)=>[(9, .int .i64 cB)]) (fun (m7,cB)=>[.cells b2 29 (aF.enc gT), .cells b1 29 (aF.enc a0)]) (fun (m7,cB)=>ef q8 m7 cB = some r) (n,0) h rf rf rf ?_
 rintro m7 cB h
 replace h:=k9 ni h; obtain ⟨m7,rfl,h⟩:=h
 refine SC 6 rf ?_
 refine eS h rf (fun hc h=>?_) fun hc h=>?_
 ·
  obtain ⟨mS,h⟩:=cD h
  obtain ⟨cR,lA,h⟩:=cQ h
  refine SC 7 rf ?_
  refine ag rfl (F3 (L:=bJ) (m:=(Int.toNat cB)) rfl rfl (ay mS).1 (ay mS).2 rfl rfl) ?_
  refine W1 rf (cP (L:=bJ) (z:=oa) ⟨by kernel_rfl⟩) fun b6=>?_
  refine ag rfl (aC rfl) ?_
  refine W0 (dD (M:=bJ) (aN.id (L:=bJ)) (a0.slots (Int.toNat cB)) cR lA rfl rfl rfl rfl) ?_
  refine SL 6 rf ?_
  refine ag rfl (nx fW rfl) ?_
  refine ag rfl (ah rfl) ?_
  refine GB rf rf rf (fun hb=>aH rfl) ?_
  refine GB rf rf rf (fun hb=>nx jx (bT rfl hb)) ?_
  refine ag rfl (dV rfl rfl) ?_
  refine SL 2 rf ?_
  refine eS h rf (fun hc h=>?_) fun hc h=>?_
  ·
   refine SC 8 rf ?_
   exact LN [1,2] (wr .i64 (cB + 1)) h rf rf rf
  ·
   obtain ⟨oA,h⟩:=cD h
   obtain ⟨eH,ow,h⟩:=cQ h
   refine SC 6 rf ?_
   refine ag rfl (gB (m:=(Int.toNat cB)) rfl rfl (ay oA).1 (ay oA).2) ?_
   refine ag rfl (eX rfl) ?_
   refine W0 (dD (M:=LB) ((cI.c0 (aN.idx (L:=bJ) (m:=32) (k:=3) ((Int.toNat cB)) (ay oA).2 rfl)).comp fW) true eH ow rfl rfl rfl rfl) ?_
   refine SL 3 rf ?_
   obtain ⟨bZ,qu,h⟩:=bu h
   refine dy mixed (.iH [] [(0,[1]),(1,[5]),(2,[6]),(3,[25]),(4,[24,26])] (.alt 5 [2,23] (.iH [] [] (.alt 6 [27] (.iH [] [] (.alt 7 [] (.fin [] []) .no)) .no)) .no)) (by kernel_rfl) ?_
   refine T0 ?_
   refine NV rf rf (dR (M:=aF) (aN.id (L:=aF)) rfl rfl) ?_
   refine NS 2 rf ?_
   refine NV rf rf (bQ fX rfl) ?_
   refine NC rf rf (qk qu) rf ?_
   refine bA ?_
   refine X0 rf (dD (M:=aF) (aN.id (L:=aF)) eH eH rfl rfl rfl rfl rfl) ?_
   refine DJ ?_
   refine XV rf rf (aC rfl) ?_
   refine DJ ?_
   refine XV rf rf (aC rfl) ?_
   refine rT ?_
   refine SX 7 rf ?_
   have h:=sj h; subst h
   exact RV rf (ra rf (bx _ _) (rt rf (rt rf rn))) rf
 ·
  refine SC 7 rf ?_
  refine ag rfl (dR (M:=aF) (aN.id (L:=aF)) rfl rfl) ?_
  refine W0 (dD (M:=aF) (aN.id (L:=aF)) a0 a0 rfl rfl rfl rfl rfl) ?_
  refine SL 5 rf ?_
  have h:=sj h; subst h
  exact RV rf (ra rf (bx _ _) (rt rf (rt rf rn))) rf
def gq (n:Nat) (a0:bz) (a1:Int):Option (bz × Bool):=
 bd (aY n a0 a1) fun bp =>
 cn ((!bp)) (
 some (a0,false)) (
 bd (bU n a1) fun cB =>
 gu (dU cB.1 32) <|
 lt ({ a0 with slots:=(eO a0.slots (Int.toNat cB.1) ({ (a0.slots (Int.toNat cB.1)) with iV:=false })) }:bz) fun qa =>
 cn ((((qa.slots (Int.toNat cB.1)).gen) == 8388607)) (
 lt ({ qa with slots:=(eO qa.slots (Int.toNat cB.1) ({ (qa.slots (Int.toNat cB.1)) with retired:=true })) }:bz) fun iT =>
 some (iT,true)) (
 lt ({ qa with slots:=(eO qa.slots (Int.toNat cB.1) ({ (qa.slots (Int.toNat cB.1)) with gen:=wr .u32 (((qa.slots (Int.toNat cB.1)).gen) + 1) })) }:bz) fun dS =>
 some (dS,true)))
theorem oP {n a0 a1 r}  (h:gq n a0 a1 = some r):xE Try.prog 64 [.agg (aF.enc a0).toArray, .int .u32 a1] (.tuple #[.agg (aF.enc r.1).toArray, .bool r.2]):=by
 unfold gq at h
 refine eR Try.func64 (by kernel_rfl) rfl Try.ntmps64 rfl (fun cx dc hpre hro=>?_)
 refine SC 2 rf ?_
 refine W1 rf (fa aF a0 rfl rfl) fun b2=>?_
 refine W1 rf (cP (L:=aF) (z:=gT) ⟨by kernel_rfl⟩) fun b4=>?_
 obtain ⟨bp,cu,h⟩:=bu h
 refine SL 6 rf ?_
 refine ag rfl (dR (M:=aF) (aN.id (L:=aF)) rfl rfl) ?_
 refine ag rfl (ah rfl) ?_
 refine CV (bf cu) rf rf ?_
 refine SL 3 rf ?_
 refine eS h rf (fun hc h=>?_) fun hc h=>?_
 ·
  refine SC 2 rf ?_
  refine ag rfl (dR (M:=aF) (aN.id (L:=aF)) rfl rfl) ?_
  refine W0 (dD (M:=aF) (aN.id (L:=aF)) a0 a0 rfl rfl rfl rfl rfl) ?_
  refine SL 5 rf ?_
  have h:=sj h; subst h
  exact RV rf (ra rf (bx _ _) (rt rf rn)) rf
 ·
  obtain ⟨cB,gE,h⟩:=bu h
  refine SC 5 rf ?_
  refine CV (de gE) rf rf ?_
  obtain ⟨rD,h⟩:=cD h
  refine SL 11 rf ?_
  refine ag rfl (gB (m:=(Int.toNat cB.1)) rfl rfl (ay rD).1 (ay rD).2) ?_
  obtain ⟨qa,Aq,h⟩:=cQ h
  refine SL 8 rf ?_
  refine W0 (dD (M:=LB) ((cI.c0 (aN.idx (L:=bJ) (m:=32) (k:=3) ((Int.toNat cB.1)) (ay rD).2 rfl)).comp fW) false qa Aq rfl rfl rfl rfl) ?_
  refine SL 8 rf ?_
  refine ag rfl (bQ ((cI.c0 (aN.idx (L:=bJ) (m:=32) (k:=3) ((Int.toNat cB.1)) (ay rD).2 rfl)).comp fX) rfl) ?_
  refine SL 3 rf ?_
  refine eS h rf (fun hc h=>?_) fun hc h=>?_
  ·
   obtain ⟨iT,nh,h⟩:=cQ h
   refine SC 4 rf ?_
   refine W0 (dD (M:=LB) ((cI.c0 (aN.idx (L:=bJ) (m:=32) (k:=3) ((Int.toNat cB.1)) (ay rD).2 rfl)).comp jx) true iT nh rfl rfl rfl rfl) ?_
   refine SL 4 rf ?_
   refine ag rfl (dR (M:=aF) (aN.id (L:=aF)) rfl rfl) ?_
   refine W0 (dD (M:=aF) (aN.id (L:=aF)) iT iT rfl rfl rfl rfl rfl) ?_
   refine SL 4 rf ?_
   have h:=sj h; subst h
   exact RV rf (ra rf (bx _ _) (rt rf rn)) rf
  ·
   obtain ⟨dS,mz,h⟩:=cQ h
   refine SC 4 rf ?_
   refine ag rfl (bQ ((cI.c0 (aN.idx (L:=bJ) (m:=32) (k:=3) ((Int.toNat cB.1)) (ay rD).2 rfl)).comp fX) rfl) ?_
   refine SL 3 rf ?_
   refine W0 (dD (M:=(LI .u32)) ((cI.c0 (aN.idx (L:=bJ) (m:=32) (k:=3) ((Int.toNat cB.1)) (ay rD).2 rfl)).comp fX) (wr .u32 (((qa.slots (Int.toNat cB.1)).gen) + 1)) dS mz rfl rfl rfl rfl) ?_
   refine SL 4 rf ?_
   refine ag rfl (dR (M:=aF) (aN.id (L:=aF)) rfl rfl) ?_
   refine W0 (dD (M:=aF) (aN.id (L:=aF)) dS dS rfl rfl rfl rfl rfl) ?_
   refine SL 4 rf ?_
   have h:=sj h; subst h
   exact RV rf (ra rf (bx _ _) (rt rf rn)) rf
def fB (n:Nat) (a0:bz):Option (List Int):=
 ec (fun yO (cR:(List Int)) (bZ:Int) =>
 cn (decide (bZ < 32)) (
 bd (hO n a0 bZ) fun fY =>
 cn (fY.2) (
 gu (lE cR.length 1 4) <|
 lt (cR++([fY.1]):List Int) fun gi =>
 yO gi (wr .i64 (bZ + 1))) (
 yO cR (wr .i64 (bZ + 1)))) (
 some cR)) n ([]) 0
theorem nm {n a0 r}  (h:fB n a0 = some r):Bw.Fn (α:=Value) Try.prog 49 [.agg (aF.enc a0).toArray] (fun _=>True) [] (fun v=>kf v r.length) (fun v=>v) (fun v=>[Row v 32 1 (LI .u32) r]):=by
 unfold fB at h
 refine eR Try.func49 (by kernel_rfl) rfl Try.ntmps49 rfl (fun cx dc hpre hro=>?_)
 refine SC 2 rf ?_
 refine W1 rf (fa aF a0 rfl rfl) fun b1=>?_
 refine SL 15 rf ?_
 refine pD 32 1 (LI .u32) ?_
 obtain ⟨wJ,rA,h⟩:=lT h
 refine LO (β:=(List Int) × Int × Value) [1] [0,1] (fun (m32,cR,bZ,tI)=>[(3,tI),(7, .int .i64 bZ)]) (fun (m32,cR,bZ,tI)=>[Row tI 32 1 (LI .u32) cR, .cells b1 29 (aF.enc a0)]) (fun (m32,cR,bZ,tI)=>kf tI cR.length∧ec wJ m32 cR bZ = some r) (n,[],0, .slice none 0 0) ⟨⟨_,_,rfl⟩,h⟩ rf rf rf ?_
 rintro m32 ⟨cR,bZ,tI⟩ ⟨nO,h⟩
 replace h:=lS rA h; obtain ⟨m32,rfl,h⟩:=h
 refine SC 6 rf ?_
 refine eS h rf (fun hc h=>?_) fun hc h=>?_
 ·
  obtain ⟨fY,tW,h⟩:=bu h
  refine SC 12 rf ?_
  refine ag rfl (dR (M:=aF) (aN.id (L:=aF)) rfl rfl) ?_
  refine ag rfl (ah rfl) ?_
  refine CV (pX tW) rf rf ?_
  refine SL 12 rf ?_
  refine eS h rf (fun hc h=>?_) fun hc h=>?_
  ·
   obtain ⟨jN,h⟩:=cD h
   obtain ⟨gi,j4,h⟩:=cQ h
   refine SC 3 rf ?_
   refine cG rfl (mJ (LI .u32) fY.1 rfl rfl rfl rfl (by decide) (by decide)) (fun R1 _=>?_)
   refine cG rfl (lu (sz:=1) (L:=(LI .u32)) (xs:=cR) (y:=fY.1) (bytes:=4) rfl rfl rfl (gA jN).1 (gA jN).2) (fun Dj so=>?_)
   rw [← j4] at so; rw [← j4]
   refine SL 8 rf ?_
   exact LN [1,2] (gi,wr .i64 (bZ + 1),Dj) ⟨so,h⟩ rf rf rf
  ·
   refine SC 7 rf ?_
   exact LN [0,1] (cR,wr .i64 (bZ + 1),tI) ⟨nO,h⟩ rf rf rf
 ·
  refine SC 12 rf ?_
  have h:=sj h; subst h
  exact bW tI rfl (.tmp rfl .nil) nO rfl (ks:=[0]) rfl (by decide)
end Go.Proofs.Ytbalnnoofdkbaaa
namespace Go.Proofs.Ytbalnnoofdkbaaa
open Go Go.Bw
structure aL where
 iI:(Nat→Int)
 Is:(Nat→Int)
abbrev aK:aJ aL:=aJ.via (LP (LA (LI .i64) 32) (LA (LI .i64) 32)) (fun x=>(x.iI,x.Is))
abbrev iD:aL:=⟨(fun _=>0),(fun _=>0)⟩
theorem iF:aN aK (LA (LI .i64) 32) 0 (fun x=>x.iI) (fun x v=>{ x with iI:=v }):=(aN.fst aN.id).via _ _ _ 0 rfl (fun _=>rfl) (fun _ _=>rfl)
theorem eM:aN aK (LA (LI .i64) 32) 32 (fun x=>x.Is) (fun x v=>{ x with Is:=v }):=(aN.snd aN.id).via _ _ _ 32 rfl (fun _=>rfl) (fun _ _=>rfl)
def eT (n:Nat) (a0:aL) (a1:Int):Option Int:=
 gu (dU a1 32) <|
 some (wr .i64 ((wr .i64 (a1 + (wr .i64 (256 * (a0.iI (Int.toNat a1)))))) + 1))
theorem gP {n a0 a1 r}  (h:eT n a0 a1 = some r):xE Try.prog 19 [.agg (aK.enc a0).toArray, .int .i64 a1] (.int .i64 r):=by
 unfold eT at h
 refine eR Try.func19 (by kernel_rfl) rfl Try.ntmps19 rfl (fun cx dc hpre hro=>?_)
 refine SC 2 rf ?_
 refine W1 rf (fa aK a0 rfl rfl) fun b2=>?_
 obtain ⟨oD,h⟩:=cD h
 refine SL 8 rf ?_
 refine ag rfl (gB (m:=(Int.toNat a1)) rfl rfl (ay oD).1 (ay oD).2) ?_
 refine ag rfl (bQ (iF.c0 (aN.idx (L:=(LI .i64)) (m:=32) (k:=1) ((Int.toNat a1)) (ay oD).2 rfl)) rfl) ?_
 refine SL 7 rf ?_
 have h:=sj h; subst h
 exact RV rf (rt rf rn) rf
def bM (n:Nat) (a0:aL) (a1:Int):Option Int:=
 ef (fun wK (cB:Int) =>
 cn (decide (cB < 32)) (
 gu (dU cB 32) <|
 cl (((a0.Is (Int.toNat cB)) == 1) == true) (eT n a0 cB) default fun cR =>
 cn ((((a0.Is (Int.toNat cB)) == 1) && (cR == a1))) (
 some cB) (
 wK (wr .i64 (cB + 1)))) (
 some (-1))) n 0
theorem cE {n a0 a1 r}  (h:bM n a0 a1 = some r):xE Try.prog 23 [.agg (aK.enc a0).toArray, .int .i64 a1] (.int .i64 r):=by
 unfold bM at h
 refine eR Try.func23 (by kernel_rfl) rfl Try.ntmps23 rfl (fun cx dc hpre hro=>?_)
 refine SC 2 rf ?_
 refine W1 rf (fa aK a0 rfl rfl) fun b2=>?_
 refine SL 10 rf ?_
 obtain ⟨q8,ni,h⟩:=ld h
 refine LO (β:=Int) [1,2] [0] (fun (m7,cB)=>[(5, .int .i64 cB)]) (fun (m7,cB)=>[.cells b2 44 (aK.enc a0)]) (fun (m7,cB)=>ef q8 m7 cB = some r) (n,0) h rf rf rf ?_
 rintro m7 cB h
 replace h:=k9 ni h; obtain ⟨m7,rfl,h⟩:=h
 refine SC 7 rf ?_
 refine eS h rf (fun hc h=>?_) fun hc h=>?_
 ·
  obtain ⟨mS,h⟩:=cD h
  obtain ⟨cR,lA,_,h⟩:=jd h
  refine SC 8 rf ?_
  refine ag rfl (bV (m:=(Int.toNat cB)) rfl rfl (ay mS).1 (ay mS).2) ?_
  refine ag rfl (bQ (eM.comp (aN.idx (L:=(LI .i64)) (m:=32) (k:=1) ((Int.toNat cB)) (ay mS).2 rfl)) rfl) ?_
  refine SL 2 rf ?_
  refine GB rf rf rf (fun hb=>dR (M:=aK) (aN.id (L:=aK)) rfl rfl) ?_
  refine GB rf rf rf (fun hb=>ah rfl) ?_
  refine GB rf rf rf (fun hb=>bD (gP (lA hb)) (aU (bT rfl hb) (aU (bT rfl hb) rfl)) (fun _ _ _=>trivial)) ?_
  refine GB rf rf rf (fun hb=>ah rfl) ?_
  refine GB rf rf rf (fun hb=>dM (bT rfl hb) (bT rfl hb)) ?_
  refine ag rfl (cM rfl rfl) ?_
  refine SL 2 rf ?_
  refine eS h rf (fun hc h=>?_) fun hc h=>?_
  ·
   refine SC 12 rf ?_
   have h:=sj h; subst h
   exact RV rf (rt rf rn) rf
  ·
   refine SC 8 rf ?_
   exact LN [0] (wr .i64 (cB + 1)) h rf rf rf
 ·
  refine SC 11 rf ?_
  have h:=sj h; subst h
  exact RV rf (rt rf rn) rf
def fL (n:Nat) (a0:aL) (a1:Int):Option (aL × Bool):=
 bd (bM n a0 a1) fun bp =>
 cn (decide (bp < 0)) (
 some (a0,false)) (
 gu (dU bp 32) <|
 lt ({ a0 with Is:=(eO a0.Is (Int.toNat bp) 0) }:aL) fun kg =>
 gu (dU bp 32) <|
 cn (((kg.iI (Int.toNat bp)) == 8388607)) (
 gu (dU bp 32) <|
 lt ({ kg with Is:=(eO kg.Is (Int.toNat bp) 2) }:aL) fun dS =>
 some (dS,true)) (
 gu (dU bp 32) <|
 gu (dU bp 32) <|
 lt ({ kg with iI:=(eO kg.iI (Int.toNat bp) (wr .i64 ((kg.iI (Int.toNat bp)) + 1))) }:aL) fun eH =>
 some (eH,true)))
theorem po {n a0 a1 r}  (h:fL n a0 a1 = some r):xE Try.prog 72 [.agg (aK.enc a0).toArray, .int .i64 a1] (.tuple #[.agg (aK.enc r.1).toArray, .bool r.2]):=by
 unfold fL at h
 refine eR Try.func72 (by kernel_rfl) rfl Try.ntmps72 rfl (fun cx dc hpre hro=>?_)
 refine SC 2 rf ?_
 refine W1 rf (fa aK a0 rfl rfl) fun b2=>?_
 refine W1 rf (cP (L:=aK) (z:=iD) ⟨by kernel_rfl⟩) fun b4=>?_
 obtain ⟨bp,cu,h⟩:=bu h
 refine SL 5 rf ?_
 refine ag rfl (dR (M:=aK) (aN.id (L:=aK)) rfl rfl) ?_
 refine ag rfl (ah rfl) ?_
 refine CV (cE cu) rf rf ?_
 refine SL 10 rf ?_
 refine eS h rf (fun hc h=>?_) fun hc h=>?_
 ·
  refine SC 2 rf ?_
  refine ag rfl (dR (M:=aK) (aN.id (L:=aK)) rfl rfl) ?_
  refine W0 (dD (M:=aK) (aN.id (L:=aK)) a0 a0 rfl rfl rfl rfl rfl) ?_
  refine SL 5 rf ?_
  have h:=sj h; subst h
  exact RV rf (ra rf (bx _ _) (rt rf rn)) rf
 ·
  obtain ⟨oC,h⟩:=cD h
  obtain ⟨kg,lB,h⟩:=cQ h
  refine SC 6 rf ?_
  refine ag rfl (bV (m:=(Int.toNat bp)) rfl rfl (ay oC).1 (ay oC).2) ?_
  refine W0 (dD (M:=(LI .i64)) (eM.comp (aN.idx (L:=(LI .i64)) (m:=32) (k:=1) ((Int.toNat bp)) (ay oC).2 rfl)) 0 kg lB rfl rfl rfl rfl) ?_
  obtain ⟨wW,h⟩:=cD h
  refine SL 7 rf ?_
  refine ag rfl (gB (m:=(Int.toNat bp)) rfl rfl (ay wW).1 (ay wW).2) ?_
  refine ag rfl (bQ (iF.c0 (aN.idx (L:=(LI .i64)) (m:=32) (k:=1) ((Int.toNat bp)) (ay wW).2 rfl)) rfl) ?_
  refine SL 3 rf ?_
  refine eS h rf (fun hc h=>?_) fun hc h=>?_
  ·
   obtain ⟨EZ,h⟩:=cD h
   obtain ⟨dS,mz,h⟩:=cQ h
   refine SC 3 rf ?_
   refine ag rfl (bV (m:=(Int.toNat bp)) rfl rfl (ay EZ).1 (ay EZ).2) ?_
   refine W0 (dD (M:=(LI .i64)) (eM.comp (aN.idx (L:=(LI .i64)) (m:=32) (k:=1) ((Int.toNat bp)) (ay EZ).2 rfl)) 2 dS mz rfl rfl rfl rfl) ?_
   refine SL 4 rf ?_
   refine ag rfl (dR (M:=aK) (aN.id (L:=aK)) rfl rfl) ?_
   refine W0 (dD (M:=aK) (aN.id (L:=aK)) dS dS rfl rfl rfl rfl rfl) ?_
   refine SL 4 rf ?_
   have h:=sj h; subst h
   exact RV rf (ra rf (bx _ _) (rt rf rn)) rf
  ·
   obtain ⟨oB,h⟩:=cD h
   obtain ⟨oA,h⟩:=cD h
   obtain ⟨eH,ow,h⟩:=cQ h
   refine SC 4 rf ?_
   refine ag rfl (gB (m:=(Int.toNat bp)) rfl rfl (ay oB).1 (ay oB).2) ?_
   refine ag rfl (bQ (iF.c0 (aN.idx (L:=(LI .i64)) (m:=32) (k:=1) ((Int.toNat bp)) (ay oB).2 rfl)) rfl) ?_
   refine SL 2 rf ?_
   refine ag rfl (gB (m:=(Int.toNat bp)) rfl rfl (ay oA).1 (ay oA).2) ?_
   refine W0 (dD (M:=(LI .i64)) (iF.c0 (aN.idx (L:=(LI .i64)) (m:=32) (k:=1) ((Int.toNat bp)) (ay oA).2 rfl)) (wr .i64 ((kg.iI (Int.toNat bp)) + 1)) eH ow rfl rfl rfl rfl) ?_
   refine SL 4 rf ?_
   refine ag rfl (dR (M:=aK) (aN.id (L:=aK)) rfl rfl) ?_
   refine W0 (dD (M:=aK) (aN.id (L:=aK)) eH eH rfl rfl rfl rfl rfl) ?_
   refine SL 4 rf ?_
   have h:=sj h; subst h
   exact RV rf (ra rf (bx _ _) (rt rf rn)) rf
def fx (n:Nat) (a0:aL):Option (aL × Int):=
 ef (fun wK (cB:Int) =>
 cn (decide (cB < 32)) (
 gu (dU cB 32) <|
 cn (((a0.Is (Int.toNat cB)) == 0)) (
 gu (dU cB 32) <|
 lt ({ a0 with Is:=(eO a0.Is (Int.toNat cB) 1) }:aL) fun eN =>
 bd (eT n eN cB) fun eH =>
 some (eN,eH)) (
 wK (wr .i64 (cB + 1)))) (
 some (a0,0))) n 0
theorem oO {n a0 r}  (h:fx n a0 = some r):xE Try.prog 75 [.agg (aK.enc a0).toArray] (.tuple #[.agg (aK.enc r.1).toArray, .int .i64 r.2]):=by
 unfold fx at h
 refine eR Try.func75 (by kernel_rfl) rfl Try.ntmps75 rfl (fun cx dc hpre hro=>?_)
 refine SC 2 rf ?_
 refine W1 rf (fa aK a0 rfl rfl) fun b1=>?_
 refine W1 rf (cP (L:=aK) (z:=iD) ⟨by kernel_rfl⟩) fun b2=>?_
 refine SL 10 rf ?_
 obtain ⟨q8,ni,h⟩:=ld h
 refine LO (β:=Int) [1,2] [0,1] (fun (m7,cB)=>[(4, .int .i64 cB)]) (fun (m7,cB)=>[.cells b2 44 (aK.enc iD), .cells b1 44 (aK.enc a0)]) (fun (m7,cB)=>ef q8 m7 cB = some r) (n,0) h rf rf rf ?_
 rintro m7 cB h
 replace h:=k9 ni h; obtain ⟨m7,rfl,h⟩:=h
 refine SC 7 rf ?_
 refine eS h rf (fun hc h=>?_) fun hc h=>?_
 ·
  obtain ⟨mS,h⟩:=cD h
  refine SC 8 rf ?_
  refine ag rfl (bV (m:=(Int.toNat cB)) rfl rfl (ay mS).1 (ay mS).2) ?_
  refine ag rfl (bQ (eM.comp (aN.idx (L:=(LI .i64)) (m:=32) (k:=1) ((Int.toNat cB)) (ay mS).2 rfl)) rfl) ?_
  refine SL 3 rf ?_
  refine eS h rf (fun hc h=>?_) fun hc h=>?_
  ·
   obtain ⟨oB,h⟩:=cD h
   obtain ⟨eN,ru,h⟩:=cQ h
   refine SC 4 rf ?_
   refine ag rfl (bV (m:=(Int.toNat cB)) rfl rfl (ay oB).1 (ay oB).2) ?_
   refine W0 (dD (M:=(LI .i64)) (eM.comp (aN.idx (L:=(LI .i64)) (m:=32) (k:=1) ((Int.toNat cB)) (ay oB).2 rfl)) 1 eN ru rfl rfl rfl rfl) ?_
   refine SL 3 rf ?_
   obtain ⟨eH,ow,h⟩:=bu h
   refine dy mixed (.iH [] [(0,[1]),(1,[1]),(2,[4]),(3,[18,19])] (.alt 4 [2,17] (.iH [] [] (.alt 5 [20] (.fin [] []) .no)) .no)) (by kernel_rfl) ?_
   refine T0 ?_
   refine NV rf rf (dR (M:=aK) (aN.id (L:=aK)) rfl rfl) ?_
   refine NV rf rf (dR (M:=aK) (aN.id (L:=aK)) rfl rfl) ?_
   refine NS 1 rf ?_
   refine NC rf rf (gP ow) rf ?_
   refine bA ?_
   refine X0 rf (dD (M:=aK) (aN.id (L:=aK)) eN eN rfl rfl rfl rfl rfl) ?_
   refine DJ ?_
   refine XV rf rf (aC rfl) ?_
   refine rT ?_
   refine SX 7 rf ?_
   have h:=sj h; subst h
   exact RV rf (ra rf (bx _ _) (rt rf rn)) rf
  ·
   refine SC 8 rf ?_
   exact LN [0,1] (wr .i64 (cB + 1)) h rf rf rf
 ·
  refine SC 7 rf ?_
  refine ag rfl (dR (M:=aK) (aN.id (L:=aK)) rfl rfl) ?_
  refine W0 (dD (M:=aK) (aN.id (L:=aK)) a0 a0 rfl rfl rfl rfl rfl) ?_
  refine SL 4 rf ?_
  have h:=sj h; subst h
  exact RV rf (ra rf (bx _ _) (rt rf rn)) rf
end Go.Proofs.Ytbalnnoofdkbaaa
namespace Go.Proofs.Ytbalnnoofdkbaaa
open Go Go.Bw
end Go.Proofs.Ytbalnnoofdkbaaa
namespace Go.Proofs.Ytbalnnoofdkbaaa
open Go Go.Bw
end Go.Proofs.Ytbalnnoofdkbaaa
namespace Go.Bw
open Go
theorem cA {x:Int} (h1:-9223372036854775808 ≤ x) (h2:x ≤ 9223372036854775807):wr .i64 x = x:=IntWalk.i64_in x ⟨h1,h2⟩
theorem mK {x:Int} (h1:0 ≤ x) (h2:x ≤ 4294967295):wr .u32 x = x:=IntWalk.u32_in x ⟨h1,h2⟩
theorem vK {k:IntKind} {a:Nat} (h:a < 2 ^ k.bits):(BitVec.ofInt k.bits (a:Int)).toNat = a:=by
  rw [BitVec.toNat_ofInt]
  have:((a:Int) % ((2 ^ k.bits:Nat):Int)) = ((a % 2 ^ k.bits:Nat):Int):=(Int.natCast_emod _ _).symm
  rw [this,Nat.mod_eq_of_lt h]; rfl
theorem DZ {k:IntKind} {r:Nat} (h:r < 2 ^ IntKind.up k):wr k (r:Int) = r:=BR h
theorem x7 (k:IntKind) {r:Nat} (h:r < 2 ^ IntKind.up k):r < 2 ^ k.bits:=Nat.lt_of_lt_of_le h (Nat.pow_le_pow_right (by decide) (CW k))
theorem Bf {k:IntKind} {a b:Nat} (ha:a < 2 ^ IntKind.up k) (hb:b < 2 ^ IntKind.up k):vR k a b = ((a &&& b:Nat):Int):=by
  unfold vR
  rw [BitVec.toNat_and,vK (x7 k ha),vK (x7 k hb)]
  exact DZ (Nat.lt_of_le_of_lt Nat.and_le_left ha)
theorem Bg {k:IntKind} {a:Int} (m:Nat) {b:Int} (h0:0 ≤ a) (ha:a < ((2 ^ IntKind.up k:Nat):Int)) (hb:b = ((2 ^ m - 1:Nat):Int)) (hm:2 ^ m - 1 < 2 ^ IntKind.up k):vR k a b = a % ((2 ^ m:Nat):Int):=by
  obtain ⟨x,rfl⟩:=Int.eq_ofNat_of_zero_le h0
  subst hb
  rw [Bf (by exact_mod_cast ha) hm,Nat.and_two_pow_sub_one_eq_mod]
  exact Int.natCast_emod _ _
theorem u7 {k:IntKind} {a:Int} (m:Nat) {b:Int} (hb:b = (m:Int)) (hm:m ≤ k.bits):wD k a b = a / ((2 ^ m:Nat):Int):=by
  subst hb
  unfold wD
  rw [Int.toNat_natCast,Nat.min_eq_left hm,Int.fdiv_eq_ediv_of_nonneg _ (Int.pow_nonneg (by decide))]
  congr 1
theorem zO {k:IntKind} {a:Int} (m:Nat) {b:Int} (hb:b = (m:Int)) (hm:m ≤ k.bits):BX k a b = wr k (a * ((2 ^ m:Nat):Int)):=by
  subst hb
  unfold BX wr
  rw [Int.toNat_natCast,Nat.min_eq_left hm]
  congr 2
theorem zK {a b:Int} (h:0 ≤ a):Int.tmod a b = a % b:=Int.tmod_eq_emod_of_nonneg h
theorem cL {i:Int} {n:Nat} (h0:0 ≤ i) (h1:i < (n:Int)):dU i n = true:=by simp [dU,h0,h1]
theorem kV {n m b:Nat} (h:(n + m) * b ≤ 140737488355328) (h2:n + m ≤ 9223372036854775807):lE n m b = true:=by simp [lE,h,h2]
theorem pI {α:Type} (f:Nat→α) (i:Nat) (v:α):eO f i v i = v:=by simp [eO]
theorem je {α:Type} (f:Nat→α) {i j:Nat} (v:α) (h:j ≠ i):eO f i v j = f j:=by simp [eO,h]
theorem cK {α:Type} (f:Nat→α) (i j:Nat) (v:α):eO f i v j = if j = i then v else f j:=rfl
section
variable {α ρ:Type}
theorem az {m:Option α} {x:α} {f:α→Option ρ} (h:m = some x):bd m f = f x:=by subst h; rfl
theorem lt_eq (a:α) (f:α→Option ρ):lt a f = f a:=rfl
theorem aM {b:Bool} {k:Option ρ} (h:b = true):gu b k = k:=by subst h; rfl
theorem aT {b:Bool} {x y:Option ρ} (h:b = true):cn b x y = x:=by subst h; rfl
theorem aA {b:Bool} {x y:Option ρ} (h:b = false):cn b x y = y:=by subst h; rfl
theorem o9 {g:Bool} {m:Option α} {z x:α} {f:α→Option ρ} (h:g = true) (hm:m = some x):cl g m z f = f x:=by subst h; subst hm; rfl
theorem A6 {g:Bool} {m:Option α} {z:α} {f:α→Option ρ} (h:g = false):cl g m z f = f z:=by subst h; rfl
theorem dj {g:Bool} {m:Option α} {z x:α} {f:α→Option ρ} (hm:m = some x):cl g m z f = f (bif g then x else z):=by subst hm; cases g <;> rfl
end
end Go.Bw
namespace Go.Proofs.Ytbalnnoofdkbaaa
open Go Go.Bw
def hJ (i g:Int):Int:=i + 256 * g + 1
theorem o4 {n:Nat} {i g:Int} (h0:0 ≤ i) (h1:i < 32) (g0:0 ≤ g) (g1:g ≤ 8388607):kC n i g = some (hJ i g):=by
  unfold kC hJ
  rw [zO (b:=8) 8 rfl (by decide),mK (x:=g * _) (by omega) (by omega),mK (x:=i) (by omega) (by omega),mK (x:=g * _ + i) (by omega) (by omega),mK (by omega) (by omega)]
  congr 1; omega
theorem nG {n:Nat} {w:aL} {i:Int} (h0:0 ≤ i) (h1:i < 32) (g0:0 ≤ w.iI i.toNat) (g1:w.iI i.toNat ≤ 8388607):eT n w i = some (hJ i (w.iI i.toNat)):=by
  unfold eT hJ
  rw [aM (cL h0 (by omega)),cA (x:=256 * _) (by omega) (by omega),cA (x:=i + _) (by omega) (by omega),cA (by omega) (by omega)]
def uS (h:Int):Bool:=decide (1 ≤ h % 256∧h % 256 ≤ 32∧h / 256 ≤ 8388607)
def iy (h:Int):Int:=if uS h then h % 256 - 1 else 0
theorem eo (h:Int):0 ≤ iy h∧iy h < 32:=by
  unfold iy uS
  split
  · rename_i h1; simp at h1; omega
  · omega
theorem k8 {n:Nat} {h:Int} (h0:0 ≤ h) (h1:h < 4294967296):bU n h = some (iy h,uS h):=by
  unfold bU
  have e1:vR .u32 h 255 = h % 256:=Bg 8 h0 (by simpa [IntKind.up,IntKind.signed,IntKind.bits] using h1) rfl (by decide)
  have e2:wD .u32 h 8 = h / 256:=u7 8 rfl (by decide)
  rw [e1,e2,cA (x:=h % 256) (by omega) (by omega),cA (x:=h % 256 - 1) (by omega) (by omega)]
  by_cases hb:uS h = true
  · have hb':=hb
    simp only [uS,decide_eq_true_eq] at hb'
    rw [aA (by simp; omega)]
    simp [iy,hb]
  · have hb':=hb
    simp only [uS,decide_eq_true_eq] at hb'
    rw [aT (by simp; omega)]
    simp [iy,hb]
structure RB (b:bz) (w:aL):Prop where
  gen:∀i,i < 32→(b.slots i).gen = w.iI i
  Dv:∀i,i < 32→(b.slots i).iV = (w.Is i == 1)
  ret:∀i,i < 32→(b.slots i).retired = (w.Is i == 2)
  Dq:∀i,i < 32→w.Is i = 0∨w.Is i = 1∨w.Is i = 2
  jc:∀i,i < 32→0 ≤ w.iI i∧w.iI i ≤ 8388607
theorem xZ {n:Nat} {b:bz} {w:aL} (r:RB b w) {h:Int} (h0:0 ≤ h) (h1:h < 4294967296) :
    aY n b h = some (uS h && (w.Is (iy h).toNat == 1) && (w.iI (iy h).toNat == h / 256)):=by
  unfold aY
  obtain ⟨hs0,EG⟩:=eo h
  rw [az (k8 h0 h1),aM (by rw [cL hs0 (by simpa using EG)]; simp)]
  simp only [lt]
  have hi:(iy h).toNat < 32:=by omega
  have e2:wD .u32 h 8 = h / 256:=u7 8 rfl (by decide)
  rw [e2]
  simp only [kX,r.gen _ hi,r.Dv _ hi,r.ret _ hi]
  have hk:=r.Dq _ hi
  congr 1
  rcases hk with hk | hk | hk <;> simp [hk,Bool.and_comm,Bool.and_left_comm,Bool.and_assoc]
theorem pR {h:Int} (h0:0 ≤ h) (hb:uS h = true):hJ (iy h) (h / 256) = h:=by
  have hb':=hb
  simp only [uS,decide_eq_true_eq] at hb'
  simp only [iy,hb,if_true,hJ]; omega
theorem my {i g:Int} (h0:0 ≤ i) (h1:i < 32) (g0:0 ≤ g) (g1:g ≤ 8388607):uS (hJ i g) = true∧iy (hJ i g) = i∧hJ i g / 256 = g∧0 < hJ i g∧hJ i g < 4294967296:=by
  have e:uS (hJ i g) = true:=decide_eq_true (by unfold hJ; omega)
  refine ⟨e,?_,?_,?_,?_⟩
  · unfold iy; rw [if_pos e]; unfold hJ; omega
  all_goals (unfold hJ; omega)
def bn (w:aL) (h:Int):Bool:=uS h && (w.Is (iy h).toNat == 1) && (w.iI (iy h).toNat == h / 256)
theorem di {n:Nat} (hn:40 ≤ n) {b:bz} {w:aL} (r:RB b w) {h:Int} (h0:0 ≤ h):bM n w h = some (if bn w h then iy h else -1):=by
  unfold bM
  refine gn (fun x=>0 ≤ x∧x ≤ 32∧(bn w h = true→x ≤ iy h)) (fun x=>(32 - x).toNat) (fun o=>o = some (if bn w h then iy h else -1)) ?_ n 0 ⟨by omega,by omega,fun _=>(eo h).1⟩ (by omega)
  rintro k x ⟨x0,x1,hx⟩ ih
  obtain ⟨s0,s1⟩:=eo h
  by_cases hc:x < 32
  · rw [aT (by simpa using hc),aM (cL x0 (by omega))]
    have hg:=r.jc x.toNat (by omega)
    rw [dj (nG x0 hc hg.1 hg.2)]
    by_cases he:(w.Is x.toNat == 1 && hJ x (w.iI x.toNat) == h) = true
    · have he':=he
      simp only [Bool.and_eq_true,beq_iff_eq] at he'
      obtain ⟨e1,e2⟩:=he'
      rw [aT (by simp [e1,e2])]
      obtain ⟨q1,q2,q3,q4,q5⟩:=my x0 hc hg.1 hg.2
      rw [e2] at q1 q2 q3
      have:bn w h = true:=by simp [bn,q1,q2,q3,e1]
      simp [this,q2]
    · rw [aA (by
        cases h1:(w.Is x.toNat == 1) with
        | false=>simp
        | true=>simpa [h1] using he),cA (by omega) (by omega)]
      refine ih _ ⟨by omega,by omega,fun DB=>?_⟩ (by omega)
      have h2:=hx DB
      have:x ≠ iy h:=by
        rintro rfl
        refine he ?_
        simp only [bn,Bool.and_eq_true,beq_iff_eq] at DB
        simp [DB.1.2,DB.2,pR h0 DB.1.1]
      omega
  · rw [aA (by simpa using hc)]
    have:bn w h = false:=by
      cases Qk:bn w h with
      | false=>rfl
      | true=>have:=hx Qk; omega
    simp [this]
def j8 (w:aL) (h:Int):aL:=
  if w.iI (iy h).toNat = 8388607 then { w with Is:=eO w.Is (iy h).toNat 2 } else { iI:=eO w.iI (iy h).toNat (w.iI (iy h).toNat + 1),Is:=eO w.Is (iy h).toNat 0 }
theorem tK {α:Type} (G:Nat→α) (i:Nat) (a b:α):eO (eO G i a) i b = eO G i b:=by
  funext q; unfold eO; split <;> rfl
theorem wF {n:Nat} (hn:40 ≤ n) {b:bz} {w:aL} (r:RB b w) {h:Int} (h0:0 ≤ h):fL n w h = some (if bn w h then j8 w h else w,bn w h):=by
  unfold fL
  obtain ⟨s0,s1⟩:=eo h
  rw [az (di hn r h0)]
  cases hg:bn w h with
  | false=>rfl
  | true =>
    have hr:=r.jc (iy h).toNat (by omega)
    simp only [if_true]
    rw [aA (by simpa using s0),aM (cL s0 (by simpa using s1))]
    simp only [lt,aM (cL s0 (show iy h < ((32:Nat):Int) by simpa using s1))]
    unfold j8
    by_cases hl:w.iI (iy h).toNat = 8388607
    · rw [aT (by simpa using hl)]; simp [hl,tK]
    · rw [aA (by simpa using hl),cA (by omega) (by omega)]; simp [hl]
theorem BS {n:Nat} {b:bz} {w:aL} (r:RB b w) {h:Int} (h0:0 ≤ h) (h1:h < 4294967296) :
    ∃b',gq n b h = some (b',bn w h)∧RB b' (if bn w h then j8 w h else w):=by
  unfold gq
  obtain ⟨s0,s1⟩:=eo h
  have hi:(iy h).toNat < 32:=by omega
  rw [az (xZ r h0 h1)]
  show ∃b',cn (!bn w h) _ _ = _∧_
  cases hg:bn w h with
  | false=>exact ⟨b,rfl,r⟩
  | true =>
    rw [aA (b:=!true) rfl,az (k8 h0 h1),aM (cL s0 (by simpa using s1))]
    simp only [lt]
    have ML:=r.gen _ hi
    have hr:=r.jc _ hi
    have MI:w.Is (iy h).toNat = 1:=by simp only [bn,Bool.and_eq_true,beq_iff_eq] at hg; exact hg.1.2
    have Qa:(b.slots (iy h).toNat).retired = false:=by rw [r.ret _ hi,MI]; rfl
    simp only [pI,ML,tK]
    unfold j8
    by_cases hl:w.iI (iy h).toNat = 8388607
    · rw [aT (by simpa using hl)]
      refine ⟨_,rfl,?_⟩
      simp only [if_true,hl]
      refine ⟨?_,?_,?_,?_,?_⟩ <;> intro i zw <;> by_cases e:i = (iy h).toNat
      all_goals (try subst e)
      all_goals simp [cK, *,r.gen,r.Dv,r.ret,r.Dq,r.jc]
      all_goals (first | exact (r.Dq i zw) | exact r.jc i zw)
    · rw [aA (by simpa using hl),mK (by omega) (by omega)]
      refine ⟨_,rfl,?_⟩
      simp only [if_true,if_neg hl]
      refine ⟨?_,?_,?_,?_,?_⟩ <;> intro i zw <;> by_cases e:i = (iy h).toNat
      all_goals (try subst e)
      all_goals simp [cK, *,r.gen,r.Dv,r.ret,r.Dq,r.jc]
      all_goals (first | exact (r.Dq i zw) | exact r.jc i zw | omega)
def pG (w:aL) (f:Nat):Prop:=f ≤ 32∧(∀j,j < f→w.Is j ≠ 0)∧(f < 32→w.Is f = 0)
theorem vz (w:aL):∃f,pG w f:=by
  have key:∀k,k ≤ 32→(∃f,pG w f)∨(∀j,j < k→w.Is j ≠ 0):=by
    intro k
    induction k with
    | zero=>intro _; exact .inr (fun j hj=>absurd hj (Nat.not_lt_zero _))
    | succ k ih =>
      intro hk
      rcases ih (by omega) with h | h
      · exact .inl h
      · by_cases e:w.Is k = 0
        · exact .inl ⟨k,by omega,h,fun _=>e⟩
        · refine .inr (fun j hj=>?_)
          by_cases e2:j = k
          · subst e2; exact e
          · exact h j (by omega)
  rcases key 32 (Nat.le_refl _) with h | h
  · exact h
  · exact ⟨32,Nat.le_refl _,h,fun h=>absurd h (Nat.lt_irrefl _)⟩
def iW (w:aL) (f:Nat):aL:={ w with Is:=eO w.Is f 1 }
theorem qd {n:Nat} (hn:40 ≤ n) {b:bz} {w:aL} (r:RB b w) {f:Nat} (hf:pG w f) :
    fx n w = some (if f < 32 then (iW w f,hJ f (w.iI f)) else (w,0)):=by
  unfold fx
  obtain ⟨f1,f2,f3⟩:=hf
  refine gn (fun x=>0 ≤ x∧x ≤ (f:Int)) (fun x=>(32 - x).toNat) (fun o=>o = some (if f < 32 then (iW w f,hJ f (w.iI f)) else (w,0))) ?_ n 0 ⟨by omega,by omega⟩ (by omega)
  rintro k x ⟨x0,x1⟩ ih
  by_cases hc:x < 32
  · rw [aT (by simpa using hc),aM (cL x0 (by omega))]
    by_cases he:w.Is x.toNat = 0
    · have e:x = (f:Int):=by
        rcases Int.lt_or_lt_of_ne (a:=x) (b:=f) |> fun h=>(Decidable.em (x = f)) with h | h
        · exact h
        · exact absurd he (f2 x.toNat (by omega))
      subst e
      simp only [Int.toNat_natCast] at he ⊢
      rw [aT (by simpa using he),aM (cL x0 (by omega)),lt_eq,az (nG (w:={ w with Is:=eO w.Is f 1 }) x0 hc (r.jc f (by omega)).1 (r.jc f (by omega)).2),if_pos (by omega)]
      rfl
    · rw [aA (by simpa using he),cA (by omega) (by omega)]
      refine ih _ ⟨by omega,?_⟩ (by omega)
      rcases Decidable.em (x = f) with h | h
      · subst h; exact absurd (f3 (by omega)) (by simpa using he)
      · omega
  · rw [aA (by simpa using hc),if_neg (by omega)]
theorem vn {n:Nat} (hn:40 ≤ n) {b:bz} {w:aL} (r:RB b w) {f:Nat} (hf:pG w f) :
    ∃b',eY n b = some (b',if f < 32 then hJ f (w.iI f) else 0,decide (f < 32))∧RB b' (if f < 32 then iW w f else w):=by
  unfold eY
  obtain ⟨f1,f2,f3⟩:=hf
  refine gn (fun x=>0 ≤ x∧x ≤ (f:Int)) (fun x=>(32 - x).toNat) (fun o=>∃b',o = some (b',if f < 32 then hJ f (w.iI f) else 0,decide (f < 32))∧RB b' (if f < 32 then iW w f else w)) ?_ n 0 ⟨by omega,by omega⟩ (by omega)
  rintro k x ⟨x0,x1⟩ ih
  by_cases hc:x < 32
  · have hi:x.toNat < 32:=by omega
    rw [aT (by simpa using hc),aM (cL x0 (by omega)),lt_eq]
    by_cases he:w.Is x.toNat = 0
    · have e:x = (f:Int):=by
        rcases Decidable.em (x = f) with h | h
        · exact h
        · exact absurd he (f2 x.toNat (by omega))
      subst e
      simp only [Int.toNat_natCast] at he hi ⊢
      rw [aA (by simp [r.Dv f hi,r.ret f hi,he]),aM (cL x0 (by omega)),lt_eq,az (o4 x0 hc (by rw [r.gen f hi]; exact (r.jc f hi).1) (by rw [r.gen f hi]; exact (r.jc f hi).2)),if_pos hi,if_pos hi]
      refine ⟨_,by rw [r.gen f hi,decide_eq_true hi],?_⟩
      refine ⟨?_,?_,?_,?_,?_⟩ <;> intro i zw <;> by_cases e:i = f
      all_goals (try subst e)
      all_goals simp [iW,cK, *,r.gen,r.Dv,r.ret,r.Dq,r.jc]
      all_goals (first | exact (r.Dq i zw) | exact r.jc i zw | (rw [r.ret _ zw,he]; rfl))
    · rw [aT (by
        rcases r.Dq _ hi with h | h | h
        · exact absurd h he
        · simp [r.Dv _ hi,h]
        · simp [r.ret _ hi,h]),cA (by omega) (by omega)]
      refine ih _ ⟨by omega,?_⟩ (by omega)
      rcases Decidable.em (x = f) with h | h
      · subst h; exact absurd (f3 (by omega)) (by simpa using he)
      · omega
  · rw [aA (by simpa using hc),if_neg (by omega),if_neg (by omega)]
    exact ⟨b,by rw [decide_eq_false (by omega)],r⟩
theorem JY {n:Nat} {b:bz} {w:aL} (r:RB b w) {i:Int} (h0:0 ≤ i) (h1:i < 32):hO n b i = some (if w.Is i.toNat = 1 then hJ i (w.iI i.toNat) else 0,w.Is i.toNat == 1):=by
  have hi:i.toNat < 32:=by omega
  unfold hO
  rw [aM (by rw [cL h0 (by omega)]; simp)]
  by_cases e:w.Is i.toNat = 1
  · rw [aA (by simp [r.Dv _ hi,e]; omega),aM (cL h0 (by omega)),az (o4 h0 h1 (by rw [r.gen _ hi]; exact (r.jc _ hi).1) (by rw [r.gen _ hi]; exact (r.jc _ hi).2)),r.gen _ hi]
    simp [e]
  · rw [aT (by simp [r.Dv _ hi,e])]
    simp [e]
def cT (w:aL):Nat→List Int
  | 0=>[]
  | k + 1=>cT w k++(if w.Is k = 1 then [hJ k (w.iI k)] else [])
theorem gF (w:aL) (k:Nat):(cT w k).length ≤ k:=by
  induction k with
  | zero=>simp [cT]
  | succ k ih=>simp only [cT,List.length_append]; split <;> simp <;> omega
theorem yP {n:Nat} (hn:40 ≤ n) {b:bz} {w:aL} (r:RB b w):fB n b = some (cT w 32):=by
  unfold fB
  refine fy (fun (l:List Int) (x:Int)=>∃k:Nat,x = k∧k ≤ 32∧l = cT w k) (fun _ (x:Int)=>(32 - x).toNat) (fun o=>o = some (cT w 32)) ?_ n [] 0 ⟨0,rfl,by omega,rfl⟩ (by omega)
  rintro kk l x ⟨k,rfl,hk,rfl⟩ ih
  by_cases hc:k < 32
  · rw [aT (by simp; omega),az (JY r (by omega) (by omega))]
    simp only [Int.toNat_natCast]
    by_cases e:w.Is k = 1
    · rw [aT (by simpa using e),aM (kV (by have:=gF w k; omega) (by have:=gF w k; omega)),lt_eq,cA (by omega) (by omega)]
      exact ih _ _ ⟨k + 1,by omega,by omega,by simp [cT,e]⟩ (by omega)
    · rw [aA (by simpa using e),cA (by omega) (by omega)]
      exact ih _ _ ⟨k + 1,by omega,by omega,by simp [cT,e]⟩ (by omega)
  · rw [aA (by simp; omega)]
    obtain rfl:k = 32:=by omega
    rfl
end Go.Proofs.Ytbalnnoofdkbaaa
namespace Go.Proofs.Ytbalnnoofdkbaaa
open Go Go.Bw
def bR (w:aL) (h:Int):Prop:=0 ≤ h∧bn w h = true
theorem gw {w:aL} {h:Int}:bn w h = true↔uS h = true∧w.Is (iy h).toNat = 1∧w.iI (iy h).toNat = h / 256:=by
  unfold bn
  rw [Bool.and_eq_true,Bool.and_eq_true,beq_iff_eq,beq_iff_eq,and_assoc]
theorem zN {h:Int} (hb:uS h = true):h < 4294967296:=by
  unfold uS at hb
  simp only [decide_eq_true_eq] at hb; omega
theorem nf {b:bz} {w:aL} (r:RB b w):∀(k:Nat),k ≤ 32→∀x,x ∈ cT w k↔bR w x∧iy x < k
  | 0,_,x=>⟨fun h=>(by cases h),fun h=>absurd h.2 (by have:=(eo x).1; omega)⟩
  | k + 1,hk,x=>by
    have ih:=nf r k (by omega) x
    have hr:=r.jc k (by omega)
    obtain ⟨q1,q2,q3,q4,q5⟩:=my (i:=k) (g:=w.iI k) (by omega) (by omega) hr.1 hr.2
    have hx:=eo x
    rw [cT,List.mem_append,ih]
    constructor
    · rintro (h | h)
      · exact ⟨h.1,by omega⟩
      · split at h
        · rename_i hi
          have e:=List.mem_singleton.1 h
          subst e
          exact ⟨⟨by omega,gw.2 ⟨q1,by rw [q2]; exact hi,by rw [q2,q3]; rfl⟩⟩,by omega⟩
        · cases h
    · rintro ⟨h1,h2⟩
      by_cases e:iy x < k
      · exact .inl ⟨h1,e⟩
      · have e1:iy x = k:=by omega
        obtain ⟨g1,g2,g3⟩:=gw.1 h1.2
        have e2:(iy x).toNat = k:=by omega
        rw [e2] at g2 g3
        refine .inr ?_
        rw [if_pos g2,List.mem_singleton,g3,← e1,pR h1.1 g1]
theorem rm {b:bz} {w:aL} (r:RB b w):∀(k:Nat),k ≤ 32→(cT w k).Nodup
  | 0,_=>List.nodup_nil
  | k + 1,hk=>by
    rw [cT,List.nodup_append]
    refine ⟨rm r k (by omega),by split <;> simp,fun a ha c hc e=>?_⟩
    split at hc
    · have e1:=List.mem_singleton.1 hc
      have hr:=r.jc k (by omega)
      obtain ⟨q1,q2,q3,q4,q5⟩:=my (i:=k) (g:=w.iI k) (by omega) (by omega) hr.1 hr.2
      have:=((nf r k (by omega) a).1 ha).2
      rw [e,e1,q2] at this
      omega
    · cases hc
theorem cX {b:bz} {w:aL} (r:RB b w) (x:Int):x ∈ cT w 32↔bR w x:=by
  rw [nf r 32 (Nat.le_refl _)]
  have:=eo x
  exact ⟨fun h=>h.1,fun h=>⟨h,by omega⟩⟩
def qe (w:aL) (h:Int):Prop:=0 ≤ h∧uS h = true∧(h / 256 < w.iI (iy h).toNat∨(h / 256 = w.iI (iy h).toNat∧w.Is (iy h).toNat ≠ 0))
theorem jz {b:bz} {w:aL} (r:RB b w) {f:Nat} (hf:pG w f) (hl:f < 32) (x:Int):bR (iW w f) x↔bR w x∨x = hJ f (w.iI f):=by
  have hr:=r.jc f hl
  obtain ⟨q1,q2,q3,q4,q5⟩:=my (i:=f) (g:=w.iI f) (by omega) (by omega) hr.1 hr.2
  have hx:=eo x
  unfold bR
  rw [gw,gw]
  show 0 ≤ x∧uS x = true∧eO w.Is f 1 (iy x).toNat = 1∧w.iI (iy x).toNat = x / 256↔_
  rw [cK]
  by_cases e:(iy x).toNat = f
  · rw [if_pos e,e]
    constructor
    · rintro ⟨h1,h2,_,h4⟩
      refine .inr ?_
      have:=pR h1 h2
      rw [← this,h4]
      congr 1; omega
    · rintro (⟨h1,h2,h3,h4⟩ | h)
      · exact absurd (hf.2.2 hl) (by omega)
      · subst h; exact ⟨by omega,q1,rfl,by rw [q3]⟩
  · rw [if_neg e]
    refine ⟨fun h=>.inl h,fun h=>h.elim _root_.id fun h=>?_⟩
    subst h
    exact absurd (by rw [q2]; rfl) e
theorem qU {w:aL} {f:Nat} (x:Int) (h:qe w x):qe (iW w f) x:=by
  obtain ⟨h1,h2,h3⟩:=h
  refine ⟨h1,h2,?_⟩
  show x / 256 < w.iI (iy x).toNat∨(x / 256 = w.iI (iy x).toNat∧eO w.Is f 1 (iy x).toNat ≠ 0)
  rw [cK]
  split
  · exact h3.imp _root_.id fun h=>⟨h.1,by omega⟩
  · exact h3
theorem zZ {b:bz} {w:aL} (r:RB b w) {f:Nat} (hf:pG w f) (hl:f < 32):¬ qe w (hJ f (w.iI f)):=by
  have hr:=r.jc f hl
  obtain ⟨q1,q2,q3,q4,q5⟩:=my (i:=f) (g:=w.iI f) (by omega) (by omega) hr.1 hr.2
  rintro ⟨_,_,h⟩
  rw [q2,q3] at h
  have:=hf.2.2 hl
  rcases h with h | h
  · exact absurd h (by simp)
  · exact h.2 this
theorem yX {b:bz} {w:aL} (r:RB b w) {h:Int} (h0:0 ≤ h) (x:Int):bR (if bn w h then j8 w h else w) x↔bR w x∧x ≠ h:=by
  cases hg:bn w h with
  | false =>
    refine ⟨fun hx=>⟨hx,fun e=>?_⟩,fun hx=>hx.1⟩
    subst e
    have h2:bn w x = true:=hx.2
    rw [h2] at hg; cases hg
  | true =>
    rw [if_pos rfl]
    obtain ⟨g1,g2,g3⟩:=gw.1 hg
    have hr:=r.jc (iy h).toNat (by have:=eo h; omega)
    have hx:=eo x
    have hh:=eo h
    have key:∀w',j8 w h = w'→(∀j,j ≠ (iy h).toNat→w'.Is j = w.Is j∧w'.iI j = w.iI j)→w'.Is (iy h).toNat ≠ 1→(bR w' x↔bR w x∧x ≠ h):=by
      intro w' _ k1 k2
      unfold bR
      rw [gw,gw]
      by_cases e:(iy x).toNat = (iy h).toNat
      · constructor
        · rintro ⟨_,_,h3,_⟩; rw [e] at h3; exact absurd h3 k2
        · rintro ⟨⟨h1,h2,h3,h4⟩,h5⟩
          refine absurd ?_ h5
          rw [← pR h1 h2,← pR h0 g1,← h4,← g3,e]
          congr 1; omega
      · rw [(k1 _ e).1,(k1 _ e).2]
        exact ⟨fun hx=>⟨hx,fun e2=>e (by rw [e2])⟩,fun hx=>hx.1⟩
    refine key _ rfl (fun j hj=>?_) ?_
    · unfold j8
      split
      · exact ⟨je _ _ hj,rfl⟩
      · exact ⟨je _ _ hj,je _ _ hj⟩
    · unfold j8
      split
      · show eO w.Is _ 2 _ ≠ 1; rw [pI]; decide
      · show eO w.Is _ 0 _ ≠ 1; rw [pI]; decide
theorem yL {w:aL} {h:Int} (x:Int) (hp:qe w x):qe (if bn w h then j8 w h else w) x:=by
  cases hg:bn w h with
  | false=>exact hp
  | true =>
    rw [if_pos rfl]
    obtain ⟨h1,h2,h3⟩:=hp
    refine ⟨h1,h2,?_⟩
    unfold j8
    split
    · show x / 256 < w.iI (iy x).toNat∨(x / 256 = w.iI (iy x).toNat∧eO w.Is (iy h).toNat 2 (iy x).toNat ≠ 0)
      rw [cK]
      split
      · exact h3.imp _root_.id fun h=>⟨h.1,by decide⟩
      · exact h3
    · show x / 256 < eO w.iI (iy h).toNat _ (iy x).toNat∨(x / 256 = eO w.iI (iy h).toNat _ (iy x).toNat∧eO w.Is (iy h).toNat 0 (iy x).toNat ≠ 0)
      rw [cK,cK]
      split
      · rename_i e
        rw [e] at h3
        left; omega
      · exact h3
end Go.Proofs.Ytbalnnoofdkbaaa
namespace Go.Bw
open Go
theorem tM:∀(t u:List Int),t.Nodup→(∀x ∈ t,x ∈ u)→t.length ≤ u.length
  | [],u,_,_=>Nat.zero_le _
  | x::t,u,hn,hs=>by
    rw [List.nodup_cons] at hn
    have hx:=hs x (by simp)
    have:=tM t (u.erase x) hn.2 fun y hy=>(List.mem_erase_of_ne (fun e=>hn.1 (by rw [← e]; exact hy))).2 (hs y (by simp [hy]))
    rw [List.length_erase_of_mem hx] at this
    have h0:0 < u.length:=List.length_pos_of_mem hx
    rw [List.length_cons]; omega
theorem zQ {t u:List Int} (ht:t.Nodup) (hu:u.Nodup) (h:∀x,x ∈ t↔x ∈ u):t.length = u.length:=
  Nat.le_antisymm (tM t u ht fun x hx=>(h x).1 hx) (tM u t hu fun x hx=>(h x).2 hx)
section
variable {β:Type}
theorem sZ (l:List (Int × β)) (k:Int) (v:β):(sd l k v).map Prod.fst = if k ∈ l.map Prod.fst then l.map Prod.fst else l.map Prod.fst++[k]:=by
  induction l with
  | nil=>simp [sd]
  | cons p r ih =>
    unfold sd
    by_cases h:k = p.1
    · subst h; simp
    · have:(k == p.1) = false:=by simpa using h
      rw [this,cond_false,List.map_cons,ih]
      by_cases h2:k ∈ r.map Prod.fst
      · rw [if_pos h2,if_pos (by simp [h2])]; rfl
      · rw [if_neg h2,if_neg (by rw [List.map_cons,List.mem_cons]; exact fun hh=>hh.elim h h2)]; rfl
theorem B9 {l:List (Int × β)} {k:Int} {z:β} (h:k ∉ l.map Prod.fst):Ab l k z = z:=by
  have:nZ l k = none:=by
    induction l with
    | nil=>rfl
    | cons p r ih =>
      rw [List.map_cons,List.mem_cons,not_or] at h
      unfold nZ
      have e:(k == p.1) = false:=by simpa using h.1
      rw [e,cond_false,ih h.2]; rfl
  unfold Ab; rw [this]; rfl
theorem Aa {l:List (Int × β)} {k:Int} {z:β} (h:k ∈ l.map Prod.fst):(k,Ab l k z) ∈ l:=by
  unfold Ab
  cases hm:nZ l k with
  | some q =>
    have:=s6 (j:=q.1) (y:=q.2) hm
    exact List.mem_of_getElem? this
  | none =>
    exfalso
    induction l with
    | nil=>simp at h
    | cons p r ih =>
      unfold nZ at hm
      by_cases e:k = p.1
      · have:(k == p.1) = true:=by simpa using e
        rw [this] at hm; simp at hm
      · have e2:(k == p.1) = false:=by simpa using e
        rw [e2] at hm
        simp only [cond_false,Option.map_eq_none_iff] at hm
        rw [List.map_cons,List.mem_cons] at h
        exact ih (h.elim (fun hh=>absurd hh e) _root_.id) hm
theorem vk {l:List (Int × β)} (k:Int) (v:β) (h:(l.map Prod.fst).Nodup):((sd l k v).map Prod.fst).Nodup:=by
  rw [sZ]
  split
  · exact h
  · rename_i hk
    rw [List.nodup_append]
    refine ⟨h,by simp,fun a ha b hb e=>hk ?_⟩
    have:b = k:=by simpa using hb
    rw [← this,← e]; exact ha
theorem tS {l:List (Int × β)} {k:Int} {v:β} {x:Int}:x ∈ (sd l k v).map Prod.fst↔x ∈ l.map Prod.fst∨x = k:=by
  rw [sZ]
  split
  · rename_i h
    exact ⟨.inl,fun hh=>hh.elim _root_.id fun e=>e ▸ h⟩
  · simp
end
structure qA (l:List (Int × Bool)) (S:Int→Prop):Prop where
  nd:(l.map Prod.fst).Nodup
  tr:∀p ∈ l,p.2 = true
  mem:∀k,k ∈ l.map Prod.fst↔S k
theorem qA.nil:qA [] (fun _=>False):=⟨by simp,by simp,by simp⟩
theorem qA.get {l:List (Int × Bool)} {S:Int→Prop} (h:qA l S) (k:Int):Ab l k false = true↔S k:=by
  rw [← h.mem k]
  by_cases hk:k ∈ l.map Prod.fst
  · exact ⟨fun _=>hk,fun _=>h.tr _ (Aa hk)⟩
  · rw [B9 hk]; exact ⟨fun hh=>(by cases hh),fun hh=>absurd hh hk⟩
theorem Ea {l:List (Int × Bool)} {k:Int} (h:∀p ∈ l,p.2 = true):∀p ∈ sd l k true,p.2 = true:=by
  induction l with
  | nil=>intro p hp; rw [sd,List.mem_singleton] at hp; rw [hp]
  | cons q r ih =>
    intro p hp
    unfold sd at hp
    cases e:k == q.1 with
    | true =>
      rw [e,cond_true,List.mem_cons] at hp
      rcases hp with rfl | hp
      · rfl
      · exact h p (by simp [hp])
    | false =>
      rw [e,cond_false,List.mem_cons] at hp
      rcases hp with rfl | hp
      · exact h p (by simp)
      · exact ih (fun z hz=>h z (by simp [hz])) p hp
theorem qA.set {l:List (Int × Bool)} {S T:Int→Prop} (h:qA l S) {k:Int} (hT:∀x,T x↔S x∨x = k):qA (sd l k true) T:=
  ⟨vk k true h.nd,Ea h.tr,fun x=>by rw [tS,h.mem,hT]⟩
theorem qA.congr {l:List (Int × Bool)} {S T:Int→Prop} (h:qA l S) (hT:∀x,T x↔S x):qA l T:=⟨h.nd,h.tr,fun x=>by rw [h.mem,hT]⟩
theorem qA.len {l:List (Int × Bool)} {S:Int→Prop} (h:qA l S) {t:List Int} (ht:t.Nodup) (hm:∀x,x ∈ t↔S x):l.length = t.length:=by
  rw [← zQ h.nd ht fun x=>by rw [h.mem,hm],List.length_map]
end Go.Bw
namespace Go.Proofs.Ytbalnnoofdkbaaa
open Go Go.Bw
def ck (h:Int):Nat:=(iy h).toNat
theorem kI (h:Int):ck h < 32:=by have:=eo h; unfold ck; omega
theorem BW (h:Int):(ck h:Int) = iy h:=by have:=eo h; unfold ck; omega
theorem pT {w:aL} {h:Int} (hg:bn w h = true):uS h = true∧w.Is (ck h) = 1∧w.iI (ck h) = h / 256:=gw.1 hg
theorem jv {n:Nat} {b:bz} {w:aL} (r:RB b w) {h:Int} (h0:0 ≤ h) (h1:h < 4294967296):aY n b h = some (bn w h):=xZ r h0 h1
end Go.Proofs.Ytbalnnoofdkbaaa
namespace Go.Proofs.Ytbalnnoofdkbaaa
open Go Go.Bw
theorem fh {w:aL} {x:Int} (h:bR w x):hJ (ck x) (w.iI (ck x)) = x:=by
  obtain ⟨g1,g2,g3⟩:=pT h.2
  rw [g3,BW,pR h.1 g1]
end Go.Proofs.Ytbalnnoofdkbaaa
namespace Go.Proofs.Ytbalnnoofdkbaaa
open Go Go.Bw
def zo (w:aL) (h:Int):aL:=if bn w h = true then j8 w h else w
theorem uW {w:aL} {h:Int} {i:Nat} (hi:i ≠ ck h):(j8 w h).Is i = w.Is i∧(j8 w h).iI i = w.iI i:=by
  unfold j8
  split
  · exact ⟨je _ _ hi,rfl⟩
  · exact ⟨je _ _ hi,je _ _ hi⟩
theorem qO (w:aL) (h:Int):(j8 w h).Is (ck h) ≠ 1:=by
  unfold j8
  split
  · show eO w.Is (ck h) 2 (ck h) ≠ 1; rw [pI]; decide
  · show eO w.Is (ck h) 0 (ck h) ≠ 1; rw [pI]; decide
theorem BT {w:aL} {h:Int} {i:Nat} (hi:(zo w h).Is i = 1):w.Is i = 1∧(zo w h).iI i = w.iI i:=by
  unfold zo at *
  cases hg:bn w h with
  | false=>rw [hg] at hi; exact ⟨hi,by simp⟩
  | true =>
    rw [hg,if_pos rfl] at hi
    rw [if_pos rfl]
    by_cases e:i = ck h
    · subst e; exact absurd hi (qO w h)
    · have:=uW (w:=w) (h:=h) e
      exact ⟨by rw [← this.1]; exact hi,this.2⟩
theorem ve {n:Nat} (hn:40 ≤ n) {b:bz} {w:aL} (r:RB b w) {h:Int} (h0:0 ≤ h):fL n w h = some (zo w h,bn w h):=wF hn r h0
def rH (p:Nat→Bool):Nat→Nat
  | 0=>0
  | k + 1=>rH p k + (if p k = true then 1 else 0)
theorem uq (p:Nat→Bool):∀k,rH p k ≤ k
  | 0=>Nat.le_refl _
  | k + 1=>by have:=uq p k; simp only [rH]; split <;> omega
theorem tg {p q:Nat→Bool} (h:∀i,p i = true→q i = true):∀k,rH p k ≤ rH q k
  | 0=>Nat.le_refl _
  | k + 1=>by
    have:=tg h k
    simp only [rH]
    by_cases e:p k = true
    · rw [if_pos e,if_pos (h k e)]; omega
    · rw [if_neg e]; omega
theorem o8 {p q:Nat→Bool} (h:∀i,p i = true→q i = true) {c:Nat} (hp:p c = false) (hq:q c = true):∀k,c < k→rH p k < rH q k
  | 0,hc=>absurd hc (Nat.not_lt_zero _)
  | k + 1,hc=>by
    simp only [rH]
    by_cases e:c = k
    · subst e
      have:=tg h c
      rw [hp,hq]; simp; omega
    · have:=o8 h hp hq k (by omega)
      by_cases e2:p k = true
      · rw [if_pos e2,if_pos (h k e2)]; omega
      · rw [if_neg e2]; omega
end Go.Proofs.Ytbalnnoofdkbaaa
namespace Go.Proofs.Ytbalnnoofdkbaaa
open Go Go.Bw
end Go.Proofs.Ytbalnnoofdkbaaa
namespace Go.Proofs.Ytbalnnoofdkbaaa
open Go Go.Bw
def BV (ρ:Nat→Nat):Nat→Nat
  | 0=>0
  | k + 1=>BV ρ k + ρ k
theorem xK (ρ:Nat→Nat) {j:Nat}:∀k,j < k→ρ j ≤ BV ρ k
  | 0,h=>absurd h (Nat.not_lt_zero _)
  | k + 1,h=>by
    simp only [BV]
    by_cases e:j = k
    · subst e; omega
    · have:=xK ρ (j:=j) k (by omega); omega
theorem td {w:aL} {x:Int} (h:bR w x):qe w x:=by
  obtain ⟨g1,g2,g3⟩:=pT h.2
  exact ⟨h.1,g1, .inr ⟨g3.symm,by show w.Is (ck x) ≠ 0; omega⟩⟩
end Go.Proofs.Ytbalnnoofdkbaaa
namespace Go.Proofs.Ytbalnnoofdkbaaa
open Go Go.Bw
section
end
end Go.Proofs.Ytbalnnoofdkbaaa
namespace Go.Bw
open Go Go.RowKit
structure DS (P:Program) (gf:Nat) (caps:List Value) (Hc Ho:List aZ) (K:World→Prop) (encs:Nat→List Value) (n:Nat):Prop where
  fn:∀(l:Nat) (J:Nat→List Nat→World→Prop) (Jx:List Nat→World→Prop) (bs:List Nat),
    Fn (α:=Bool × List Nat) P gf (.func (.yield l) #[] #[]::caps) (fun w=>Bx (bs++bI Hc) K w∧DL P l (bs++bI Hc) w J Jx encs n) (.ext bs (J 0 bs)::Hc)
      (fun _=>True) (fun _=>.tuple #[]) (fun x=>.ext x.2 (bif x.1 then J n x.2 else Jx x.2)::Ho)
theorem pZ {P:Program} {N:Nat} {c:Cx} {D:List Deferred} {Q:Exit→Act→World→Prop} {F:dB} {H:List aZ} {g:Operand} {ps:List Nat} {assign body:Code}
    {gf n:Nat} {caps:Array Value} {Hc Ho:List aZ} {K:World→Prop} {encs:Nat→List Value} {α β:Type}
    (hro:c.ro = none) (hg:ev F g = some (.func (.func gf) #[] caps)) (hit:DS P gf caps.toList Hc Ho K encs n) (hlen:∀k,(encs k).length = ps.length) (hps:ps.all (Nat.blt · N) = true)
    [Nf:yn c [] K]
    (p:Nat→α→Prop) (I:Nat→α→List aZ) (px:Code→β→Prop) (X:β→List aZ) (i0:α) (Cz:p 0 i0) {ks:List Nat} (hk:pick H ks = some (Hc++I 0 i0)) (hn:ks.Nodup)
    (hbody:∀(k:Nat) (i:α) (l dd:Nat) (rec:Loop) (c' : Cx),k < n→p k i→rec.state = .ready→rec.pending = none→c'.ro = some l→(∀w,bw c'.bs c'.w0 w→bw c.bs c.w0 w) →
      (∀b,(b ∈ c'.bs∨c'.w0.heap.size ≤ b)→(b ∈ c.bs∨c.w0.heap.size ≤ b)) →
      WP P N c' [] assign (xA P l body (xy c' (JW c.w0.heap.size c.bs (p (k + 1)) (fun i=>.obj dd (.deferred (some []))::.obj l (.loop rec)::I (k + 1) i))
        (JW c.w0.heap.size c.bs (fun q:Code × β=>px q.1 q.2) (fun q=>.obj dd (.deferred (some []))::.obj l (.loop { rec with state:=.done,pending:=some q.1 })::X q.2))))
        (qp ps (encs k) F) (.obj dd (.deferred (some []))::.obj l (.loop rec)::I k i))
    (hdone:∀dd i,p n i→WQ N c (mark dd::D) Q .normal F (.obj dd (.deferred (some []))::(Ho++I n i)))
    (AI:∀dd j i,px j i→WP P N c (mark dd::D) j Q F (.obj dd (.deferred (some []))::(Ho++X i))) :
    WP P N c D (.rangeFunc g ps.toArray assign body) Q F H:=fun a w hst=>by
  refine wpIn_rangeFunc fun fn _=>?_
  have ox:(FA c.ro).round = none:=hro
  rw [ox]
  obtain ⟨rec,mQ⟩ : ∃rec:Loop,rec = { state:=.ready,pending:=none,fn,tmps:=a.tmps,params:=ps.toArray,assign,body,defers:=w.heap.size }:=⟨_,rfl⟩
  obtain ⟨W1,AY⟩ : ∃W1,(w.alloc (.deferred (some []))).alloc (.loop rec) = W1:=⟨_,rfl⟩
  have EG:bw [] w W1:=by rw [← AY]; exact (bw.alloc w _).ext (bw.alloc _ _)
  have L6:W1.heap.size = w.heap.size + 2:=by rw [← AY]; simp
  have Nd:W1.heap[w.heap.size + 1]? = some (.loop rec):=by
    rw [← AY]; have:=World.alloc_heap_new (w.alloc (.deferred (some []))) (.loop rec); rwa [World.size_alloc] at this
  have Ng:W1.heap[w.heap.size]? = some (.deferred (some [])):=by
    rw [← AY]; exact (Below.heap_alloc _ _ _ (by simp)).trans (World.alloc_heap_new w _)
  have MO:=bK hst.fr hg
  have hfr:=hst.fr
  let J:Nat→List Nat→World→Prop:=fun k=>JW c.w0.heap.size c.bs (p k) (fun i=>.obj w.heap.size (.deferred (some []))::.obj (w.heap.size + 1) (.loop rec)::I k i)
  let Jx:List Nat→World→Prop:=JW c.w0.heap.size c.bs (fun q:Code × β=>px q.1 q.2) (fun q=>.obj w.heap.size (.deferred (some []))::.obj (w.heap.size + 1) (.loop { rec with state:=.done,pending:=some q.1 })::X q.2)
  have Ay:=(hst.hp.ext EG).pick hk hn
  have Fp:cy c.bs c.w0.heap.size (.obj w.heap.size (.deferred (some []))::.obj (w.heap.size + 1) (.loop rec)::(Hc++I 0 i0)) W1:=by
    have hlt:∀s ∈ Hc++I 0 i0,∀b ∈ s.gN,b < w.heap.size:=fun s hs b hb=>by
      have hm:s ∈ H:=by
        obtain ⟨jj,hj⟩:=List.mem_iff_getElem?.1 hs
        obtain ⟨kk,_,hh⟩:=lR hk jj s hj
        exact List.mem_of_getElem? hh
      exact (hst.hp.own s hm b hb).2
    have L5:=hst.si.size
    refine cy.cons (cy.cons Ay Nd ?_ ?_) Ng ?_ ?_
    · intro b hb; have e:b = w.heap.size + 1:=by simpa [aZ.gN] using hb
      subst e; exact ⟨.inr (by omega),by omega⟩
    · intro s hs b hb dc
      have e:b = w.heap.size + 1:=by simpa [aZ.gN] using hb
      have:=hlt s hs b dc; omega
    · intro b hb; have e:b = w.heap.size:=by simpa [aZ.gN] using hb
      subst e; exact ⟨.inr (by omega),by omega⟩
    · intro s hs b hb dc
      have e:b = w.heap.size:=by simpa [aZ.gN] using hb
      rcases List.mem_cons.1 hs with rfl | hs
      · have e2:b = w.heap.size + 1:=by simpa [aZ.gN] using dc
        omega
      · have:=hlt s hs b dc; omega
  let I0:List aZ:=.obj w.heap.size (.deferred (some []))::.obj (w.heap.size + 1) (.loop rec)::I 0 i0
  have Fm:cy c.bs c.w0.heap.size I0 W1:=Fp.sub (by
    refine List.Sublist.cons_cons _ (List.Sublist.cons_cons _ (List.sublist_append_right _ _)))
  have zy:cy c.bs c.w0.heap.size Hc W1:=Fp.sub (by
    refine List.Sublist.cons _ (List.Sublist.cons _ (List.sublist_append_left _ _)))
  have hap:∀r ∈ I0,∀s ∈ Hc,r.apart s:=by
    intro r hr s hs
    have Aw:=Fp.apart
    rw [List.pairwise_cons,List.pairwise_cons,List.pairwise_append] at Aw
    obtain ⟨q1,q2,_,_,q3⟩:=Aw
    rcases List.mem_cons.1 hr with rfl | hr
    · exact q1 s (by simp [hs])
    · rcases List.mem_cons.1 hr with rfl | hr
      · exact q2 s (by simp [hs])
      · exact aZ.jD (q3 s hs r hr)
  have hfn:=hit.fn (w.heap.size + 1) J Jx (bI I0)
  have wZ:bI (aZ.ext (bI I0) (J 0 (bI I0))::Hc) = bI I0++bI Hc:=by simp [bI,aZ.gN]
  refine ⟨w.heap.size + 1,[mark w.heap.size],W1,{ target:=.fn (.func gf) caps,args:=#[.func (.yield (w.heap.size + 1)) #[] #[]] },W1,gf,
    (Value.func (.yield (w.heap.size + 1)) #[] #[]::caps.toList).toArray,W1,?_,?_,fun _ _=>trivial,?_,fun h=>by simp at h,?_⟩
  · rw [← AY,mQ]; exact run_enterLoop_outer _ _ _ _ _
  · simp only [resolve,MO]
    simp [go_sem]
  · have:=hfn.enter (#[.func (.yield (w.heap.size + 1)) #[] #[]]++caps) W1
    simp only [invoke]
    rw [this]
    congr 2
    simp
  · have hin:cy (bI I0++bI Hc) W1.heap.size (aZ.ext (bI I0) (J 0 (bI I0))::Hc) W1:=by
      refine ⟨?_,?_,?_⟩
      · intro r hr
        rcases List.mem_cons.1 hr with rfl | hr
        · exact uO (I:=fun i=>.obj w.heap.size (.deferred (some []))::.obj (w.heap.size + 1) (.loop rec)::I 0 i) i0 Cz Fm
        · exact zy.holds r hr
      · intro r hr b hb
        rcases List.mem_cons.1 hr with rfl | hr
        · obtain ⟨s,hs,dc⟩:=dw.1 hb
          exact ⟨.inl (List.mem_append_left _ hb),(Fm.own s hs b dc).2⟩
        · exact ⟨.inl (List.mem_append_right _ (dw.2 ⟨r,hr,hb⟩)),(zy.own r hr b hb).2⟩
      · refine List.pairwise_cons.2 ⟨fun s hs b hb dc=>?_,zy.apart⟩
        obtain ⟨r,hr,ud⟩:=dw.1 hb
        exact hap r hr s hs b ud dc
    have qh:∀b ∈ bI I0++bI Hc,b ∈ c.bs∨c.w0.heap.size ≤ b:=fun b hb=>by
      rcases List.mem_append.1 hb with h | h
      · obtain ⟨r,hr,ud⟩:=dw.1 h; exact (Fm.own r hr b ud).1
      · obtain ⟨r,hr,ud⟩:=dw.1 h; exact (zy.own r hr b ud).1
    have vt:bw c.bs c.w0 W1:=hst.si.ext EG
    have wX:=hfn.calls W1 ⟨fun w' EC=>Nf.ok w' (vt.trans EC qh) (fun r hr=>by cases hr),?_⟩ (by rw [wZ]; exact hin)
    · refine jB c.ro ?_
      intro cs
      obtain ⟨e,w2,fr,⟨x,_,he,yT,AL⟩,wO,qg⟩:=wX cs
      refine ⟨e,w2,fr,?_,wO,qg⟩
      subst he
      rw [wZ] at yT AL
      obtain ⟨go,bs'⟩:=x
      have As:bw c.bs c.w0 w2:=vt.trans yT qh
      have hex:=AL.holds _ (List.mem_cons_self)
      have Fk:∀r ∈ Ho,r.holds w2:=fun r hr=>AL.holds r (List.mem_cons_of_mem _ hr)
      have Fi:∀s ∈ Ho,∀b ∈ bs',b ∉ s.gN:=fun s hs b hb=>by
        have:=AL.apart
        rw [List.pairwise_cons] at this
        exact this.1 s hs b hb
      have both:∀(IL:List aZ) (jump:Option Code) (st:LoopState),st ≠ .busy→bs' = bI (.obj w.heap.size (.deferred (some []))::.obj (w.heap.size + 1) (.loop { rec with state:=st,pending:=jump })::IL) →
          cy c.bs c.w0.heap.size (.obj w.heap.size (.deferred (some []))::.obj (w.heap.size + 1) (.loop { rec with state:=st,pending:=jump })::IL) w2 →
          ∃w4,(Instr.endLoop (w.heap.size + 1)).run P w2 = .ok jump w4∧St N c (mark w.heap.size::D) F (.obj w.heap.size (.deferred (some []))::(Ho++IL)) { a with defers:=mark w.heap.size::a.defers } w4:=by
        intro IL jump st tY dc hI
        have hl:w2.heap[w.heap.size + 1]? = some (.loop { rec with state:=st,pending:=jump }):=hI.holds (.obj (w.heap.size + 1) _) (by simp)
        have lZ:cy c.bs c.w0.heap.size (.obj w.heap.size (.deferred (some []))::.obj (w.heap.size + 1) (.loop { rec with state:=st,pending:=jump })::(Ho++IL)) w2:=by
          have hq:=hI.apart
          rw [List.pairwise_cons,List.pairwise_cons] at hq
          refine ⟨?_,?_,?_⟩
          · intro r hr
            rcases List.mem_cons.1 hr with rfl | hr
            · exact hI.holds _ (by simp)
            · rcases List.mem_cons.1 hr with rfl | hr
              · exact hI.holds _ (by simp)
              · rcases List.mem_append.1 hr with h | h
                · exact Fk r h
                · exact hI.holds r (by simp [h])
          · intro r hr b hb
            rcases List.mem_cons.1 hr with rfl | hr
            · exact hI.own _ (by simp) b hb
            · rcases List.mem_cons.1 hr with rfl | hr
              · exact hI.own _ (by simp) b hb
              · rcases List.mem_append.1 hr with h | h
                · obtain ⟨o,lt⟩:=AL.own r (List.mem_cons_of_mem _ h) b hb
                  exact ⟨o.elim (qh b) (fun o=>.inr (Nat.le_trans vt.size o)),lt⟩
                · exact hI.own r (by simp [h]) b hb
          · have E8:∀r,r ∈ (aZ.obj w.heap.size (.deferred (some []))::.obj (w.heap.size + 1) (.loop { rec with state:=st,pending:=jump })::IL)→∀s ∈ Ho,r.apart s:=fun r hr s hs b hb CC =>
              Fi s hs b (by rw [dc]; exact dw.2 ⟨r,hr,hb⟩) CC
            refine List.pairwise_cons.2 ⟨fun s hs=>?_,List.pairwise_cons.2 ⟨fun s hs=>?_,List.pairwise_append.2 ⟨(List.pairwise_cons.1 AL.apart).2,hq.2.2,fun s hs r hr=>aZ.jD (E8 r (by simp [hr]) s hs)⟩⟩⟩
            · rcases List.mem_cons.1 hs with rfl | hs
              · exact hq.1 _ (by simp)
              · rcases List.mem_append.1 hs with h | h
                · exact E8 _ (by simp) s h
                · exact hq.1 s (by simp [h])
            · rcases List.mem_append.1 hs with h | h
              · exact E8 _ (by simp) s h
              · exact hq.2.1 s h
        have Ar:St N c (mark w.heap.size::D) F (.obj w.heap.size (.deferred (some []))::.obj (w.heap.size + 1) (.loop { rec with state:=st,pending:=jump })::(Ho++IL)) { a with defers:=mark w.heap.size::a.defers } w2:=
          ⟨hst.tm,hfr,by simp [hst.df],As,lZ⟩
        have Ma:qz (.obj w.heap.size (.deferred (some []))::.obj (w.heap.size + 1) (.loop { rec with state:=st,pending:=jump })::(Ho++IL)) (w.heap.size + 1) (.loop { rec with state:=.exhausted,pending:=jump }) (.obj w.heap.size (.deferred (some []))::.obj (w.heap.size + 1) (.loop { rec with state:=.exhausted,pending:=jump })::(Ho++IL)):=inferInstance
        have ho:p8 (.obj w.heap.size (.deferred (some []))::.obj (w.heap.size + 1) (.loop { rec with state:=st,pending:=jump })::(Ho++IL)) (w.heap.size + 1) (.loop { rec with state:=st,pending:=jump }):=inferInstance
        obtain ⟨h3,_⟩:=Ar.zP ho Ma
        refine ⟨_,run_endLoop hl tY,⟨h3.tm,h3.fr,h3.df,h3.si,h3.hp.sub ?_⟩⟩
        exact List.Sublist.cons_cons _ (List.Sublist.cons _ (List.Sublist.refl _))
      cases go with
      | true =>
        obtain ⟨i,yV,hI,dc⟩:=ext_get hex
        have Im:({ rec with state:=LoopState.ready,pending:=none }:Loop) = rec:=by rw [mQ]
        obtain ⟨w4,h4,h5⟩:=both (I n i) none .ready (by simp) (by rw [Im]; exact dc) (by rw [Im]; exact hI)
        exact ⟨none,w4,h4,hdone _ i yV _ _ h5⟩
      | false =>
        obtain ⟨⟨j,i⟩,yV,hI,dc⟩:=ext_get hex
        obtain ⟨w4,h4,h5⟩:=both (X i) (some j) .done (by simp) dc hI
        exact ⟨some j,w4,h4,AI _ j i yV _ _ h5⟩
    ·
      intro k Gu W bs Mb Na E0
      obtain ⟨i,yV,hI,dc⟩:=ext_get E0
      have hl:W.heap[w.heap.size + 1]? = some (.loop rec):=hI.holds (.obj (w.heap.size + 1) _) (by simp)
      have hy:=run_yield (P:=P) (args:=(encs k).toArray) hl (by rw [mQ]; simpa using hlen k)
      refine ⟨_,_,_,_,hy,?_⟩
      have Au:bw c.bs c.w0 W:=vt.trans Mb qh
      have hsub:∀b,(b ∈ bI (aZ.obj w.heap.size (.deferred (some []))::.obj (w.heap.size + 1) (.loop rec)::I k i)∨W.heap.size ≤ b)→(b ∈ c.bs∨c.w0.heap.size ≤ b):=fun b hb=>by
        rcases hb with hb | hb
        · obtain ⟨r,hr,ud⟩:=dw.1 hb; exact (hI.own r hr b ud).1
        · exact .inr (Nat.le_trans Au.size hb)
      have hb:=hbody k i (w.heap.size + 1) w.heap.size rec ⟨some (w.heap.size + 1),W,bs⟩ Gu yV (by rw [mQ]) (by rw [mQ]) rfl (fun w' EC=>Au.trans EC fun b hb=>hsub b (.inl (by rw [← dc]; exact hb))) (fun b hb=>hsub b (by rw [← dc]; exact hb))
      have ht:=xR (ps:=ps) (vs:=encs k) hfr hst.tm hps
      have Ew:(rec.params.zip (encs k).toArray).foldl (fun tmps (t,a)=>tmps.setIfInBounds t a) rec.tmps = (ps.zip (encs k)).foldl (fun t q=>t.setIfInBounds q.1 q.2) a.tmps:=by
        rw [mQ]; simp
      rw [Ew]
      have Io:rec.assign = assign∧rec.body = body:=by rw [mQ]; exact ⟨rfl,rfl⟩
      rw [Io.1,Io.2]
      have Jg:cy bs W.heap.size (.obj w.heap.size (.deferred (some []))::.obj (w.heap.size + 1) (.loop rec)::I k i) W:=
        ⟨hI.holds,fun r hr b hb=>⟨.inl (by rw [dc]; exact dw.2 ⟨r,hr,hb⟩),(hI.own r hr b hb).2⟩,hI.apart⟩
      have ox:=roundIn_of_wpIn (F:=FA none) (n:=0) (P:=P) (l:=w.heap.size + 1) (f:=rec.fn) (R:=xy ⟨some (w.heap.size + 1),W,bs⟩ (J (k + 1)) Jx) trivial
        (hb { tmps:=(ps.zip (encs k)).foldl (fun t q=>t.setIfInBounds q.1 q.2) a.tmps,defers:=[] } W ⟨ht.2,ht.1,rfl,bw.refl _ _,Jg⟩)
      refine ox.mono fun e W' hr=>?_
      rw [wZ] at *
      exact hr
end Go.Bw
namespace Go.Bw
open Go Go.RowKit
section rules
variable {P:Program} {N:Nat} {c:Cx} {D:List Deferred} {Q:Exit→Act→World→Prop} {F:dB} {H:List aZ} {d:Option Tmp} {ty:TypeId} {ps:String} {af:Array Edge} {g:Option (Nat × Bool)} {α β γ:Type}
theorem VS.zI {o:Oper} {v:Value} {H' : List aZ} (h:VS P N c o F H v) (ht:∀w,cy c.bs c.w0.heap.size H w→cy c.bs c.w0.heap.size H' w):RX (α:=Unit) P N c o F H (fun _=>True) (fun _=>v) (fun _=>H'):=
  fun D a w next Q hst hk=>h D a w next Q hst fun w' hw=>hk () w' trivial (hst.si.ext hw) (ht _ (hst.hp.ext hw))
theorem Cw {bs:List Nat} {n0 b e sz:Nat} {w:World} {L:aJ α} [bg L] {y:α} (hn:L.n = sz) (h:cy bs n0 (.cells b e (L.enc y)::H) w):cy bs n0 (Row (.slice (some ⟨b,0,none⟩) 1 1) e sz L [y]::H) w:=by
  have:=h.zI (k:=0) (r:=.cells b e (L.enc y)) (r':=Row (.slice (some ⟨b,0,none⟩) 1 1) e sz L [y]) rfl (fun w hw=>by
    have hb:w.heap[b]? = some (.cells (L.enc y).toArray e (0,0)):=hw
    have e1:fu L [y] = L.enc y:=sQ L y
    refine ⟨by rw [e1,bx,hn]; simp, .inr ⟨b,1,_,rfl,Nat.zero_le _,hb,Nat.le_refl _,by decide,by simp [bx,hn],?_⟩⟩
    rw [e1]
    exact List.take_of_length_le (by rw [bx,hn]; simp)) (fun x hx=>by simpa [aZ.gN,Value.ownBlock] using hx)
  exact this
theorem yf {x:Operand} {t e sz:Nat} (L:aJ α) [bg L] (y:α) {zs:List Value} {val:Value} [ht:qI P t e sz] [hz:bY P e zs] (hx:ev F x = some val) (hc:val.cells.toList = L.enc y) (hl:L.n = sz) (Ko:zs.length = sz) (h0:0 < sz) (hs:sz ≤ 16777216) :
    RX P N c ⟨d, .buildSlice t 1 #[(0,x)],ty,ps,af,g⟩ F H (fun _=>True) (fun b=>.slice (some ⟨b,0,none⟩) 1 1) (fun b=>Row (.slice (some ⟨b,0,none⟩) 1 1) e sz L [y]::H):=
  fun D a w next Q hst hk=>mJ L y hx hc hl Ko h0 hs D a w next Q hst fun b w' hp hsi hh=>hk b w' hp hsi (Cw hl hh)
theorem yC {w:World} {v:Value} {e sz n m:Nat} {xs:List Value} (h:(aZ.row v e sz n xs).holds w) (hm:m ≤ n):(aZ.row (jA 0 m sz v) e sz m (xs.take (m * sz))).holds w:=by
  obtain ⟨h1,h2⟩:=h
  have hle:m * sz ≤ n * sz:=Nat.mul_le_mul_right _ hm
  refine ⟨by rw [List.length_take,h1,Nat.min_eq_left hle],?_⟩
  rcases h2 with ⟨rfl,rfl⟩ | ⟨gb,cap,cur,rfl,q1,q2,q3,q4,q5,q6⟩
  · obtain rfl:m = 0:=by omega
    exact .inl ⟨by simp [jA],rfl⟩
  · refine .inr ⟨gb,cap,cur,?_,q1,q2,by omega,q4,q5,?_⟩
    · simp [jA,Addr.add_lit]
    · rw [← q6,List.take_take,Nat.min_eq_left hle]
theorem ye {v:Value} {n m sz:Nat} (h:kf v n):kf (jA 0 m sz v) m:=by
  obtain ⟨a,cp,rfl⟩:=h; exact ⟨_,_,rfl⟩
theorem sO (L:aJ α) [bg L] (xs:List α) {m sz:Nat} (hn:L.n = sz) (hm:m ≤ xs.length):(fu L xs).take (m * sz) = fu L (xs.take m):=by
  have:=va L xs 0 m (Nat.zero_le _) hm
  subst hn
  simpa using this
theorem EI {bs:List Nat} {n0 e sz m:Nat} {w:World} {v:Value} {L:aJ α} [bg L] {xs:List α} {f:aZ→List aZ} [hr:nA H v e sz xs.length (fu L xs) f] (hn:L.n = sz) (hm:m ≤ xs.length) (h:cy bs n0 H w):cy bs n0 (f (Row (jA 0 m sz v) e sz L (xs.take m))) w:=by
  obtain ⟨k,k1,k2⟩:=hr.ok
  rw [k2]
  refine h.zI k1 (fun w hw=>?_) (fun b hb=>?_)
  · have:=yC (m:=m) hw hm
    rw [sO L xs hn hm] at this
    have e1:(xs.take m).length = m:=by rw [List.length_take]; omega
    unfold Row; rw [e1]; exact this
  · simpa [aZ.gN,A5] using hb
theorem tB {x hi:Operand} {t e sz m:Nat} {k:IntKind} {i:Int} {v:Value} {L:aJ α} [bg L] {xs:List α} {f:aZ→List aZ} [ht:qI P t e sz] (hs:kf v xs.length) (hn:L.n = sz) (hx:ev F x = some v) (hhi:ev F hi = some (.int k i)) (hi' : i = (m:Int)) (hm:m ≤ xs.length) [hr:nA H v e sz xs.length (fu L xs) f] [Kn c H (Hs [Row v e sz L xs])] :
    RX (α:=Unit) P N c ⟨d, .slice t x none (some hi) none,ty,ps,af,g⟩ F H (fun _=>True) (fun _=>jA 0 m sz v) (fun _=>f (Row (jA 0 m sz v) e sz L (xs.take m))):=
  (ze (Fz.row (e:=e) hn.symm hs) hx hhi hi' hm).zI fun _ hp=>EI hn hm hp
theorem sP (L:aJ α) [bg L] (z0:α) {z:Value} (he:L.enc z0 = [z]):∀n:Nat,fu L (List.replicate n z0) = List.replicate n z
  | 0=>rfl
  | n + 1=>by
    have:=sP L z0 he n
    rw [List.replicate_succ,List.replicate_succ]
    show L.enc z0++fu L (List.replicate n z0) = _
    rw [he,this]; rfl
theorem u9 {P:Program} {w:World} {t e ty:Nat} (e1:P.underlying t = some (.slice e)) (a:Option Addr) (cp:Nat):(Builtin.clear_ #[t] ty #[.slice a 0 cp]).run P w = .ok (.tuple #[]) w:=by
  cases a <;> simp [Builtin.clear_,run_underlying e1]
theorem zh {L:aJ α} [bg L] {xs ys:List α} {v:Value} {e t m:Nat} {z0:α} {z:Value} {x:Operand} {f:aZ→List aZ} (ht:x6 P t e 1 = true) (hz:OQ P e z) (he:L.enc z0 = [z]) (P1:z.cells = #[z]) (h1:z.oneCell' = true) (hL:L.n = 1) (hm:m ≤ xs.length)
    (hx:ev F x = some (jA m xs.length 1 v)) [hr:nA H v e 1 xs.length (fu L xs) f] (hy:ys = xs.take m++List.replicate (xs.length - m) z0) :
    RX (α:=Unit) P N c ⟨d, .call ⟨.builtin .clear,#[x],#[t]⟩,ty,ps,af,g⟩ F H (fun _=>True) (fun _=>.tuple #[]) (fun _=>f (Row v e 1 L ys)):=fun D a w next Q hst hk=>by
  obtain ⟨inf,e1,e2,e3⟩:=qI.get ht
  obtain ⟨k,k1,k2⟩:=hr.ok
  have CA:aZ.row v e 1 xs.length (fu L xs) ∈ H:=List.mem_of_getElem? k1
  have hown:w.ownsRow 0 e 1 v xs.length (fu L xs):=hst.hp.holds _ CA
  obtain ⟨hlen,s9⟩:=hown
  have Oj:=bK hst.fr hx
  have Dw:ys.length = xs.length:=by rw [hy,List.length_append,List.length_take,List.length_replicate]; omega
  by_cases hem:m = xs.length
  · have Oi:ys = xs:=by rw [hy,hem,List.take_length]; simp
    refine g7 (by simp) (v:=.tuple #[]) (w':=w) ?_ (hk () w trivial hst.si ?_)
    · have hv:∃a0 cp,a.eval x = .slice a0 0 cp:=by
        rw [Oj,hem]
        rcases s9 with ⟨hv,h0⟩ | ⟨gb,cap,cur,hv,_⟩
        · rw [hv]; exact ⟨_,_,by rw [jA,Nat.sub_self]⟩
        · rw [hv]; exact ⟨_,_,by rw [jA,Nat.sub_self]⟩
      obtain ⟨a0,cp,hv⟩:=hv
      have:=u9 (P:=P) (w:=w) (ty:=ty) e1 a0 cp
      simp [execOp,resolve,invoke,builtin,hv,this]
    · rw [k2]
      exact hst.hp.zI k1 (fun w hw=>by rw [Oi]; exact hw) (fun b hb=>by rw [Oi] at hb; exact hb)
  · rcases s9 with ⟨_,h0⟩ | ⟨gb,cap,cur,rfl,_,DA,hnc,Kt,hcs,xX⟩
    · omega
    have hone:ju (List.replicate (xs.length - m) z):=fun v hv=>by rw [List.eq_of_mem_replicate hv]; exact h1
    have hsc:=run_storeCells_at P gb m e (List.replicate (xs.length - m) z) 0 cur w DA (by simp; omega) hone
    simp only [Nat.add_zero] at hsc
    obtain ⟨cs',E5⟩ : ∃cs',(cur.toList.take m++List.replicate (xs.length - m) z++cur.toList.drop (m + (List.replicate (xs.length - m) z).length)).toArray = cs':=⟨_,rfl⟩
    rw [E5] at hsc
    have nN:bw [gb] w (w.setRow gb cs'):=⟨rfl,rfl,rfl,by simp,fun k _ hk=>setRow_other w gb k _ (by simpa using hk)⟩
    refine g7 (by simp) (v:=.tuple #[]) (w':=w.setRow gb cs') ?_ (hk () _ trivial (hst.si.store hst.hp CA (by simp [aZ.gN,Value.ownBlock]) nN) ?_)
    · obtain ⟨j,hj⟩ : ∃j,xs.length - m = j + 1:=⟨xs.length - m - 1,by omega⟩
      have Lu:=Ec hz w
      have PY:=rW P1 (j + 1)
      have hne:¬ cap = m:=by omega
      rw [hj] at hsc
      have P2:a.eval x = .slice (some ⟨gb,m,none⟩) (j + 1) (cap - m):=by rw [Oj]; simp [jA,hne,Addr.add_lit,hj]
      simp [execOp,resolve,invoke,builtin,P2,Builtin.clear_,run_underlying e1,Lu,PY,hsc]
    · show cy c.bs c.w0.heap.size (f (Row _ e 1 L ys)) _
      rw [Row,k2]
      have Ar:=setRow_heap w gb cur cs' e (0,0) DA
      have MR:cur.toList.length = cap:=by simpa using hcs
      refine hst.hp.set k1 nN.size (fun j hj hn=>nN.block j hj (by simpa [aZ.gN,Value.ownBlock] using hn)) ?_ hst.si.size (fun b' hb'=>?_)
      · refine ⟨by rw [m5,hL], .inr ⟨gb,cap,cs',by rw [Dw],Nat.zero_le _,Ar,by omega,Kt,?_,?_⟩⟩
        · rw [← E5]; simp; omega
        · rw [Dw,← E5,Nat.mul_one,hy,m6,sP L z0 he]
          have t1:=sO L xs (m:=m) (sz:=1) hL hm
          rw [Nat.mul_one] at t1
          rw [← t1,← xX,List.take_take,Nat.mul_one,Nat.min_eq_left hm]
          simp only [List.toList_toArray]
          rw [List.take_append_of_le_length (by simp; omega)]
          exact List.take_of_length_le (by simp; omega)
      · have h5:b' = gb:=by simpa [aZ.gN,Value.ownBlock] using hb'
        subst h5
        exact ⟨.inl (by simp [aZ.gN,Value.ownBlock]),Nat.lt_of_lt_of_le (Array.getElem?_eq_some_iff.1 DA).1 nN.size⟩
theorem J1 {ops:Array Oper} {rest:List Oper} {op:Op} {dd:Tmp} {gg:Option (Nat × Bool)} {b:Bool} {p:α→Prop} {fv:α→Value} {fH:α→List aZ} (hg:Gd ops F gg b) (hb:b = true) (hd:Nat.blt dd N = true) (hv:RX P N c ⟨some dd,op,ty,ps,af,gg⟩ F H p fv fH)
    (h:∀x,p x→WL P N c D ops Q rest ((dd,bif b then fv x else undef)::F) (fH x)):WL P N c D ops Q (⟨some dd,op,ty,ps,af,gg⟩::rest) F H:=by
  subst hb
  exact J0 hg hd (fun _=>hv) (fun _ x hx=>h x hx) nofun
theorem J2 {ops:Array Oper} {rest:List Oper} {op:Op} {dd:Tmp} {gg:Option (Nat × Bool)} {b:Bool} {v:Value} (hg:Gd ops F gg b) (hb:b = false) (hd:Nat.blt dd N = true)
    (h:WL P N c D ops Q rest ((dd,bif b then v else undef)::F) H):WL P N c D ops Q (⟨some dd,op,ty,ps,af,gg⟩::rest) F H:=by
  subst hb
  exact uG hg hd h
theorem Jh {x y:Bool} (h:(x == false) = false) (hc:(x || y) = false):False:=by cases x <;> simp at h hc
theorem OE {x y b:Bool} (h:(x == false) = true) (hc:(x || y) = b):y = b:=by cases x <;> simp_all
end rules
end Go.Bw
namespace Go.Proofs.Ytbalnnoofdkbaaa
open Go Go.Bw
structure bj where
 At:Int
 N:Int
abbrev aq:aJ bj:=aJ.via (LP (LI .i64) (LI .i64)) (fun x=>(x.At,x.N))
abbrev iZ:bj:=⟨0,0⟩
instance:Inhabited bj:=⟨iZ⟩
theorem eB:aN aq (LI .i64) 0 (fun x=>x.At) (fun x v=>{ x with At:=v }):=(aN.fst aN.id).via _ _ _ 0 rfl (fun _=>rfl) (fun _ _=>rfl)
theorem er:aN aq (LI .i64) 1 (fun x=>x.N) (fun x v=>{ x with N:=v }):=(aN.snd aN.id).via _ _ _ 1 rfl (fun _=>rfl) (fun _ _=>rfl)
def dG (n:Nat) (a0:bj):Option Int:=
 some (wr .i64 (a0.At + a0.N))
theorem jq {n a0 r}  (h:dG n a0 = some r):xE Try.prog 82 [.agg (aq.enc a0).toArray] (.int .i64 r):=by
 unfold dG at h
 refine eR Try.func82 (by kernel_rfl) rfl Try.ntmps82 rfl (fun cx dc hpre hro=>?_)
 refine SC 2 rf ?_
 refine W1 rf (fa aq a0 rfl rfl) fun b1=>?_
 refine SL 6 rf ?_
 refine ag rfl (bQ eB rfl) ?_
 refine ag rfl (aH rfl) ?_
 refine ag rfl (bQ er rfl) ?_
 refine SL 5 rf ?_
 have h:=sj h; subst h
 exact RV rf (rt rf rn) rf
def ko (n:Nat) (a0:bj):Option Bool:=
 some ((decide (1 ≤ a0.N) && decide (0 ≤ a0.At)) && decide (a0.At ≤ (wr .i64 (64 - a0.N))))
theorem rI {n a0 r}  (h:ko n a0 = some r):xE Try.prog 80 [.agg (aq.enc a0).toArray] (.bool r):=by
 unfold ko at h
 refine eR Try.func80 (by kernel_rfl) rfl Try.ntmps80 rfl (fun cx dc hpre hro=>?_)
 refine SC 2 rf ?_
 refine W1 rf (fa aq a0 rfl rfl) fun b1=>?_
 refine SL 6 rf ?_
 refine ag rfl (bQ er rfl) ?_
 refine SL 2 rf ?_
 refine GB rf rf rf (fun hb=>aH rfl) ?_
 refine GB rf rf rf (fun hb=>bQ eB (bT rfl hb)) ?_
 refine GB rf rf rf (fun hb=>lF (bT rfl hb) rfl) ?_
 refine ag rfl (cM rfl rfl) ?_
 refine ag rfl (ah rfl) ?_
 refine GB rf rf rf (fun hb=>aH rfl) ?_
 refine GB rf rf rf (fun hb=>bQ eB (bT rfl hb)) ?_
 refine GB rf rf rf (fun hb=>aH rfl) ?_
 refine GB rf rf rf (fun hb=>bQ er (bT rfl hb)) ?_
 refine GB rf rf rf (fun hb=>oR rfl (bT rfl hb) rfl) ?_
 refine GB rf rf rf (fun hb=>nw (bT rfl hb) (bT rfl hb)) ?_
 refine ag rfl (cM rfl rfl) ?_
 refine SL 4 rf ?_
 have h:=sj h; subst h
 exact RV rf (rt rf rn) rf
def j2 (n:Nat) (a0:(List bj)):Option (List bj):=
 some a0
theorem pc {n a0 r K} [bF K] {v0} (f0:Fz K v0 aq a0) (h:j2 n a0 = some r):Bw.Fn (α:=Nat × List Value) Try.prog 85 [v0] K [] (fun (b0,c0)=>((qo aq)).rep K c0 r) (fun (b0,c0)=>.func (.func 87) #[] #[Ptr b0 0]) (fun (b0,c0)=>[.cells b0 33 c0]):=by
 unfold j2 at h
 refine fo Try.func85 (by kernel_rfl) rfl Try.ntmps85 rfl fun cx _ hro dc hpre=>?_
 refine SC 2 rf ?_
 refine W1 rf (yh rfl f0.sl.cells) fun b1=>?_
 refine SL 10 rf ?_
 have h:=sj h; subst h
 exact bW ⟨b1,[v0]⟩ rfl (.tmp rfl .nil) (aJ.mono _ dk ⟨_,rfl,f0⟩) rfl (ks:=[0]) rfl (by decide)
structure cW where
 l:(List bj)
abbrev cH:aJ cW:=aJ.via (qo aq) (fun x=>x.l)
abbrev jV:cW:=⟨[]⟩
def fN:List Value:=[.slice none 0 0]
theorem iz {A:World→Prop}:cH.rep A fN jV:=⟨_,rfl,Fz.nil⟩
theorem sI:aN cH (qo aq) 0 (fun x=>x.l) (fun x v=>{ x with l:=v }):=aN.id.via _ _ _ 0 rfl (fun _=>rfl) (fun _ _=>rfl)
def jg (n:Nat) (a0:cW):Option (List bj):=
 bd (j2 n a0.l) fun kg =>
 some kg
theorem pV {n a0 r K} [bF K] {ct} (f0:(cH).rep K ct a0) (h:jg n a0 = some r):Bw.Fn (α:=Nat × List Value) Try.prog 81 [A ct] K [] (fun (b0,c0)=>((qo aq)).rep K c0 r) (fun (b0,c0)=>.func (.func 87) #[] #[Ptr b0 0]) (fun (b0,c0)=>[.cells b0 33 c0]):=by
 unfold jg at h
 refine fo Try.func81 (by kernel_rfl) rfl Try.ntmps81 rfl fun cx _ hro dc hpre=>?_
 refine SC 2 rf ?_
 refine W1 rf (bH rfl) fun b1=>?_
 obtain ⟨kg,lB,h⟩:=bu h
 refine SL 6 rf ?_
 obtain ⟨Kj,tX,f22⟩:=sI.sl f0
 refine ag rfl (bG rfl tX) ?_
 refine cG rfl (eU (pc (K:=K) (f22.mono dk) lB) rfl kn) (fun ⟨NU,BK⟩ f26=>?_)
 replace f26:((qo aq)).rep K BK kg:=f26
 dsimp only [List.cons_append,List.nil_append]
 refine SL 4 rf ?_
 have h:=sj h; subst h
 exact bW ⟨NU,BK⟩ rfl (.tmp rfl .nil) (mo f26) rfl (ks:=[0]) rfl (by decide)
def fP (n:Nat) (a1:(List bj)):Option (List (Int × bj)):=
 ef (fun Gq (eH:Int) =>
 cn (decide (eH < (a1.length:Int))) (
 gu (dU eH a1.length) <|
 lt ((a1.getD (Int.toNat eH) default):bj) fun mh =>
 yl (eH,mh) <|
 Gq (wr .i64 (eH + 1))) (
 some [])) n 0
theorem nc {n:Nat} {a1:(List bj)} {l:List (Int × bj)} {K:World→Prop} {q1:Nat} {lH:List Value} (f1:((qo aq)).rep K lH a1) (h:fP n a1 = some l):yq Try.prog 87 [Ptr q1 0] [.cells q1 33 lH] K (fun k=>[.int .i64 ((l.getD k default).1), .agg (aq.enc ((l.getD k default).2)).toArray]) l.length:=by
 unfold fP at h
 refine ⟨fun y J Jx bs=>eR Try.func87 (by kernel_rfl) rfl Try.ntmps87 rfl (fun cx dc hpre hro=>?_)⟩
 haveI:=jI (show cx.bs = bs++bI [.cells q1 33 lH] from dc) hpre.1
 have hR:DL Try.prog y cx.bs cx.w0 J Jx (fun k=>[.int .i64 ((l.getD k default).1), .agg (aq.enc ((l.getD k default).2)).toArray]) l.length:=by rw [show cx.bs = bs++bI [.cells q1 33 lH] from dc]; exact hpre.2
 have E4:l.drop 0 = l:=rfl
 have EN:0 ≤ l.length:=Nat.zero_le _
 refine SC 2 rf ?_
 obtain ⟨Kj,tX,f22⟩:=(aN.id (L:=(qo aq))).sl f1
 refine ag rfl (bG rfl tX) ?_
 refine ag rfl (dH f22 rfl) ?_
 refine SL 4 rf ?_
 obtain ⟨Eo,AH,h⟩:=ld h
 refine LO (β:=Int × Nat × (List (Int × bj)) × (List Nat)) [0,5,6] [0,1] (fun (Ag,eH,lW,Hg,uk)=>[(7, .int .i64 eH)]) (fun (Ag,eH,lW,Hg,uk)=>[.ext uk (J lW uk), .cells q1 33 lH]) (fun (Ag,eH,lW,Hg,uk)=>l.drop lW = Hg∧lW ≤ l.length∧ef Eo Ag eH = some Hg) (n,0,0,l,bs) ⟨E4,EN,h⟩ rf rf rf ?_
 rintro Ag ⟨eH,lW,Hg,uk⟩ ⟨I8,ME,h⟩
 replace h:=k9 AH h; obtain ⟨Ag,rfl,h⟩:=h
 refine SC 6 rf ?_
 refine eS h rf (fun hc h=>?_) fun hc h=>?_
 ·
  obtain ⟨oz,h⟩:=cD h
  obtain ⟨mh,sg,h⟩:=cQ h
  refine SC 7 rf ?_
  refine ag rfl (dL (m:=(Int.toNat eH)) f22 rfl rfl rfl (ay oz).1 (ay oz).2) ?_
  refine ag rfl (qH (M:=aq) f22 (aN.idx (L:=aq) (m:=(a1.length)) (k:=2) ((Int.toNat eH)) (ay oz).2 rfl) rfl rfl (by decide)) ?_
  refine W1 rf (cP (L:=aq) (z:=iZ) ⟨by kernel_rfl⟩) fun b4=>?_
  refine ag rfl (aC rfl) ?_
  refine W0 (dD (M:=aq) (aN.id (L:=aq)) (a1.getD (Int.toNat eH) default) mh sg rfl rfl rfl rfl) ?_
  refine SL 3 rf ?_
  obtain ⟨Pr,Mj,h⟩:=BQ h
  obtain ⟨MA,su,MQ,My⟩:=drop_cons (I8.trans Mj)
  refine SC 3 rf ?_
  refine ag rfl (dR (M:=aq) (aN.id (L:=aq)) rfl rfl) ?_
  refine cG rfl (pF (bs:=uk) hR MA hro rfl (show qw _ _ = some [.int .i64 ((l.getD lW default).1), .agg (aq.enc ((l.getD lW default).2)).toArray] by rw [su]; rfl)) (fun ⟨Jj,Jt⟩ _=>?_)
  refine SL 3 rf ?_
  refine iq rfl (fun hc=>?_) (fun hc=>?_)
  ·
   obtain rfl:Jj = false:=by simpa using hc
   dsimp only [cond_true,cond_false]
   refine SC 5 rf ?_
   exact bW (false,Jt) rfl .nil trivial rfl (ks:=[1,2]) rfl (by decide)
  ·
   obtain rfl:Jj = true:=by simpa using hc
   dsimp only [cond_true,cond_false]
   refine SC 7 rf ?_
   exact LN [1,2] (wr .i64 (eH + 1),lW + 1,Pr,Jt) ⟨MQ,My,h⟩ rf rf rf
 ·
  refine SC 4 rf ?_
  have h:=sj h; subst h
  have Nw:=drop_nil I8 ME
  refine qF (ks:=[0,1]) (H':=[.ext uk (J (lW) uk), .cells q1 33 lH]) rfl (by decide) ?_
  refine qG (J:=J) (n:=l.length) Nw ?_
  exact rN (true,uk) rfl .nil trivial rfl (ks:=[0,1]) rfl (by decide)
def g6 (n:Nat) (a0:cW) (a1:Int) (a2:Int):Option (cW × Bool):=
 lt ({ At:=a1,N:=a2 }:bj) fun bp =>
 bd (ko n bp) fun cB =>
 cn ((!cB)) (
 some (a0,false)) (
 bd (jg n a0) fun dS =>
 bd (fP n dS) fun bZ =>
 qq (fun (Jy:Int × bj) Ce (gR:Bool) (fO:(List bj)) (ez:bj) =>
 lt (Jy.1:Int) fun uV =>
 lt (Jy.2:bj) fun pH =>
 bd (dG n pH) fun tF =>
 cn (decide (tF < ez.At)) (
 gu (lE fO.length 1 16) <|
 lt (fO++([pH]):List bj) fun mj =>
 Ce gR mj ez) (
 bd (dG n ez) fun zE =>
 cn (decide (zE < pH.At)) (
 lt (fun (tE:Bool) (nM:(List bj)) =>
 gu (lE nM.length 1 16) <|
 lt (nM++([pH]):List bj) fun uU =>
 Ce tE uU ez) fun Du =>
 cn ((!gR)) (
 gu (lE fO.length 1 16) <|
 lt (fO++([ez]):List bj) fun om =>
 Du true om) (
 Du gR fO)) (
 bd (dG n pH) fun xG =>
 cn ((xG == ez.At)) (
 lt ({ At:=pH.At,N:=wr .i64 (pH.N + ez.N) }:bj) fun Dg =>
 Ce gR fO Dg) (
 bd (dG n ez) fun yt =>
 cn ((pH.At == yt)) (
 lt ({ ez with N:=wr .i64 (ez.N + pH.N) }:bj) fun Gl =>
 Ce gR fO Gl) (
 some (a0,false)))))) (fun (gR:Bool) (fO:(List bj)) (ez:bj) =>
 cn ((!gR)) (
 gu (lE fO.length 1 16) <|
 lt (fO++([ez]):List bj) fun tD =>
 lt ({ l:=tD }:cW) fun DV =>
 some (DV,true)) (
 lt ({ l:=fO }:cW) fun zn =>
 some (zn,true))) bZ false ([]:List bj) bp)
theorem pW {n a0 a1 a2 r K} [bF K] {ct} (f0:(cH).rep K ct a0) (h:g6 n a0 a1 a2 = some r):p9 Try.prog 73 [A ct, .int .i64 a1, .int .i64 a2] K (fun J v=>∃u0,v = (.tuple #[A u0, .bool r.2])∧(cH).rep (fun w=>K w∧J w) u0 (r.1)):=by
 unfold g6 at h
 refine fo Try.func73 (by kernel_rfl) rfl Try.ntmps73 rfl fun cx _ hro dc hpre=>?_
 refine SC 2 rf ?_
 refine W1 rf (bH rfl) fun b3=>?_
 refine W1 rf (bk (hz:=(⟨by kernel_rfl⟩ : bY Try.prog 138 fN))) fun b6=>?_
 refine W1 rf (cP (L:=LB) (z:=false) ⟨by kernel_rfl⟩) fun b7=>?_
 obtain ⟨bp,cu,h⟩:=cQ h
 refine SL 6 rf ?_
 refine ag rfl (iu (cs:=aq.enc bp) rfl (by rw [cu]; rfl)) ?_
 refine W1 rf (cP (L:=aq) (z:=iZ) ⟨by kernel_rfl⟩) fun b8=>?_
 refine W0 (dD (M:=aq) (aN.id (L:=aq)) bp bp rfl rfl rfl rfl rfl) ?_
 obtain ⟨cB,gE,h⟩:=bu h
 refine SL 5 rf ?_
 refine ag rfl (dR (M:=aq) (aN.id (L:=aq)) rfl rfl) ?_
 refine CV (rI gE) rf rf ?_
 refine SL 3 rf ?_
 refine eS h rf (fun hc h=>?_) fun hc h=>?_
 ·
  refine SC 2 rf ?_
  refine ag rfl (aj rfl (aJ.len _ f0)) ?_
  refine ST (C:=K) a0 (aN.id (L:=cH)) iz (mo f0) rf rf rf rf rf fun xo f24=>?_
  refine W0 (dD (M:=LB) (aN.id (L:=LB)) false false rfl rfl rfl rfl rfl) ?_
  refine SL 4 rf ?_
  have h:=sj h; subst h
  exact k7 [] rf rf (ra rf (aJ.len _ f24) (ro rf rfl rn)) ⟨_,rfl,(mo f24)⟩
 ·
  refine SC 4 rf ?_
  refine W1 rf (bk (hz:=(⟨by kernel_rfl⟩ : bY Try.prog 33 [.slice none 0 0]))) fun b9=>?_
  refine SL 4 rf ?_
  refine W1 rf (cP (L:=LB) (z:=false) ⟨by kernel_rfl⟩) fun nS=>?_
  refine W0 (dD (M:=LB) (aN.id (L:=LB)) false false rfl rfl rfl rfl rfl) ?_
  obtain ⟨dS,mz,h⟩:=bu h
  refine SL 5 rf ?_
  refine ag rfl (aj rfl (aJ.len _ f0)) ?_
  refine cG rfl (eU (pV (K:=K) (mo f0) mz) rfl kn) (fun ⟨OO,qx⟩ f29=>?_)
  replace f29:((qo aq)).rep K qx dS:=f29
  dsimp only [List.cons_append,List.nil_append]
  refine SL 3 rf ?_
  obtain ⟨bZ,qu,h⟩:=bu h
  refine pD 124 2 aq ?_
  obtain ⟨Et,IM,Ft,IY,h⟩:=HQ h
  refine mb (K:=K) (α:=Bool × (List bj) × bj × Value) (β:=Bool × (List bj) × bj × cW × Value × (List Value)) hro rfl (nc (K:=K) (mo f29) qu) (fun _=>rfl) rfl (fun Cc=>fun (gR,fO,ez,uR)=>kf uR fO.length∧qq Et Ft (bZ.drop Cc) gR fO ez = some r) (fun Cc=>fun (gR,fO,ez,uR)=>[Row uR 124 2 aq fO, .cells nS 4 (LB.enc gR), .cells b9 33 ([uR]), .cells b8 124 (aq.enc ez), .cells b7 4 (LB.enc false), .cells b6 138 fN, .cells b3 138 ct]) (fun j=>fun (mW,wm,oo,GR,D0,FM)=>j = Code.ret∧kf D0 wm.length∧(cH).rep K FM GR∧some (GR,false) = some r) (fun (mW,wm,oo,GR,D0,FM)=>[Row D0 124 2 aq wm, .cells nS 4 (LB.enc mW), .cells b9 33 ([D0]), .cells b8 124 (aq.enc oo), .cells b7 4 (LB.enc false), .cells b6 138 FM, .cells b3 138 ct]) ⟨false,([]:List bj),bp, .slice none 0 0⟩ ⟨⟨_,_,rfl⟩,h⟩ (ks:=[1,0,2,3,4,5,6,7]) rfl (by decide) ?_ ?_ ?_
  ·
   rintro Cc ⟨gR,fO,ez,uR⟩ lo dd rec c' hk ⟨ry,h⟩ qf tZ oy hsi hT
   replace h:qq Et Ft (bZ.drop Cc) gR fO ez = some r:=h
   replace h:=HO IM hk h
   haveI:=m8 (K:=K) hsi
   dsimp only [qp]
   obtain ⟨uV,yR,h⟩:=cQ h
   rw [← yR]
   obtain ⟨pH,LU,h⟩:=cQ h
   rw [← LU]
   refine aB ?_
   refine W1 rf (cP (L:=aq) (z:=iZ) ⟨by kernel_rfl⟩) fun NW=>?_
   refine W0 (dD (M:=aq) (aN.id (L:=aq)) pH pH rfl rfl rfl rfl rfl) ?_
   refine bh ?_
   refine jW qf oy ?_
   refine SC 3 rf ?_
   obtain ⟨tF,vo,h⟩:=bu h
   refine dy mixed (.iH [] [(0,[12]),(1,[26]),(2,[8]),(3,[28]),(4,[27,29])] (.alt 5 [30] (.fin [] []) .no)) (by kernel_rfl) ?_
   refine T0 ?_
   refine NV rf rf (dR (M:=aq) (aN.id (L:=aq)) rfl rfl) ?_
   refine NC rf rf (jq vo) rf ?_
   refine NS 1 rf ?_
   refine NV rf rf (bQ eB rfl) ?_
   refine NE 1 rf ?_
   refine XV rf rf (aC rfl) ?_
   refine rT ?_
   refine aI ?_
   refine eS h rf (fun hc h=>?_) fun hc h=>?_
   ·
    obtain ⟨IT,h⟩:=cD h
    obtain ⟨mj,HW,h⟩:=cQ h
    refine aB ?_
    refine ag rfl (bG rfl rfl) ?_
    refine ag rfl (dR (M:=aq) (aN.id (L:=aq)) rfl rfl) ?_
    refine cG rfl (mJ aq pH rfl rfl rfl rfl (by decide) (by decide)) (fun RY _=>?_)
    refine cG rfl (lu (sz:=2) (L:=aq) (xs:=fO) (y:=pH) (bytes:=16) rfl rfl rfl (gA IT).1 (gA IT).2) (fun GY Ct=>?_)
    rw [← HW] at Ct; rw [← HW]
    refine W0 (ei (cs':=[GY]) [GY] (aN.id (L:=(qo aq))) (v:=mj) ⟨_,rfl,(Fz.row (e:=124) (sz:=2) (L:=aq) (xs:=fO) rfl ry)⟩ (rv:=(⟨_,rfl,(Fz.row (e:=124) (sz:=2) (L:=aq) (xs:=mj) rfl Ct)⟩ : ((qo aq)).rep (Hs [Row GY 124 2 aq mj]) [GY] mj)) rfl rfl (Fz.row (e:=124) (sz:=2) (L:=aq) (xs:=mj) rfl Ct).sl.cells rfl rfl) ?_
    refine SL 3 rf ?_
    exact jt qf tZ hT ⟨gR,mj,ez,GY⟩ ⟨Ct,h⟩ (ks:=[2,3,4,5,6,7,8,9,10]) rfl (by decide)
   ·
    refine aS ?_
    obtain ⟨zE,Am,h⟩:=bu h
    refine dy mixed (.iH [] [(0,[12]),(1,[36]),(2,[8]),(3,[38]),(4,[37,39])] (.alt 5 [40] (.fin [] []) .no)) (by kernel_rfl) ?_
    refine T0 ?_
    refine NS 1 rf ?_
    refine NV rf rf (bQ eB rfl) ?_
    refine NV rf rf (dR (M:=aq) (aN.id (L:=aq)) rfl rfl) ?_
    refine NC rf rf (jq Am) rf ?_
    refine NE 1 rf ?_
    refine XV rf rf (aC rfl) ?_
    refine rT ?_
    refine aI ?_
    refine eS h rf (fun hc h=>?_) fun hc h=>?_
    ·
     obtain ⟨Du,MF,h⟩:=cQ h
     refine CU (α:=Bool × (List bj) × Value) [9,12] rf (fun (tE,nM,Gn)=>[]) (fun (tE,nM,Gn)=>[.cells NW 124 (aq.enc pH), .obj dd (.deferred (some [])), .obj lo (.loop { rec with state:=.busy }),Row Gn 124 2 aq nM, .cells nS 4 (LB.enc tE), .cells b9 33 ([Gn]), .cells b8 124 (aq.enc ez), .cells b7 4 (LB.enc false), .cells b6 138 fN, .cells b3 138 ct]) (fun (tE,nM,Gn)=>kf Gn nM.length∧Du tE nM = some r) ?_ ?_
     ·
      refine SC 2 rf ?_
      refine ag rfl (nx (aN.id (L:=LB)) rfl) ?_
      refine SL 3 rf ?_
      refine eS h rf (fun hc h=>?_) fun hc h=>?_
      ·
       obtain ⟨sq,h⟩:=cD h
       obtain ⟨om,HV,h⟩:=cQ h
       refine SC 2 rf ?_
       refine ag rfl (bG rfl rfl) ?_
       refine ag rfl (dR (M:=aq) (aN.id (L:=aq)) rfl rfl) ?_
       refine cG rfl (mJ aq ez rfl rfl rfl rfl (by decide) (by decide)) (fun RU _=>?_)
       refine cG rfl (lu (sz:=2) (L:=aq) (xs:=fO) (y:=ez) (bytes:=16) rfl rfl rfl (gA sq).1 (gA sq).2) (fun GX Cs=>?_)
       rw [← HV] at Cs; rw [← HV]
       refine W0 (ei (cs':=[GX]) [GX] (aN.id (L:=(qo aq))) (v:=om) ⟨_,rfl,(Fz.row (e:=124) (sz:=2) (L:=aq) (xs:=fO) rfl ry)⟩ (rv:=(⟨_,rfl,(Fz.row (e:=124) (sz:=2) (L:=aq) (xs:=om) rfl Cs)⟩ : ((qo aq)).rep (Hs [Row GX 124 2 aq om]) [GX] om)) rfl rfl (Fz.row (e:=124) (sz:=2) (L:=aq) (xs:=om) rfl Cs).sl.cells rfl rfl) ?_
       refine SL 3 rf ?_
       refine W0 (dD (M:=LB) (aN.id (L:=LB)) true true rfl rfl rfl rfl rfl) ?_
       refine bh ?_
       exact CE [1,2,3,4,5,6,7,8,9,10] (true,om,GX) ⟨Cs,h⟩ rf rf rf
      ·
       refine fV ?_
       exact CE [0,1,2,3,4,5,6,7,8,9] (gR,fO,uR) ⟨ry,h⟩ rf rf rf
     ·
      rintro ⟨tE,nM,Gn⟩ ⟨Mc,h⟩
      replace h:Du tE nM = some r:=h
      replace h:=HM MF h
      obtain ⟨IS,h⟩:=cD h
      obtain ⟨uU,Cn,h⟩:=cQ h
      refine aB ?_
      refine ag rfl (bG rfl rfl) ?_
      refine ag rfl (dR (M:=aq) (aN.id (L:=aq)) rfl rfl) ?_
      refine cG rfl (mJ aq pH rfl rfl rfl rfl (by decide) (by decide)) (fun RT _=>?_)
      refine cG rfl (lu (sz:=2) (L:=aq) (xs:=nM) (y:=pH) (bytes:=16) rfl rfl rfl (gA IS).1 (gA IS).2) (fun GV Cr=>?_)
      rw [← Cn] at Cr; rw [← Cn]
      refine W0 (ei (cs':=[GV]) [GV] (aN.id (L:=(qo aq))) (v:=uU) ⟨_,rfl,(Fz.row (e:=124) (sz:=2) (L:=aq) (xs:=nM) rfl Mc)⟩ (rv:=(⟨_,rfl,(Fz.row (e:=124) (sz:=2) (L:=aq) (xs:=uU) rfl Cr)⟩ : ((qo aq)).rep (Hs [Row GV 124 2 aq uU]) [GV] uU)) rfl rfl (Fz.row (e:=124) (sz:=2) (L:=aq) (xs:=uU) rfl Cr).sl.cells rfl rfl) ?_
      refine SL 3 rf ?_
      exact jt qf tZ hT ⟨tE,uU,ez,GV⟩ ⟨Cr,h⟩ (ks:=[2,3,4,5,6,7,8,9,10]) rfl (by decide)
    ·
     refine aS ?_
     obtain ⟨xG,Al,h⟩:=bu h
     refine dy mixed (.iH [] [(0,[12]),(1,[52]),(2,[8]),(3,[54]),(4,[53,55])] (.alt 5 [56] (.fin [] []) .no)) (by kernel_rfl) ?_
     refine T0 ?_
     refine NV rf rf (dR (M:=aq) (aN.id (L:=aq)) rfl rfl) ?_
     refine NC rf rf (jq Al) rf ?_
     refine NS 1 rf ?_
     refine NV rf rf (bQ eB rfl) ?_
     refine NE 1 rf ?_
     refine XV rf rf (aC rfl) ?_
     refine rT ?_
     refine aI ?_
     refine eS h rf (fun hc h=>?_) fun hc h=>?_
     ·
      obtain ⟨Dg,LJ,h⟩:=cQ h
      refine SC 2 rf ?_
      refine ag rfl (bQ eB rfl) ?_
      refine ag rfl (aH rfl) ?_
      refine ag rfl (bQ er rfl) ?_
      refine ag rfl (aH rfl) ?_
      refine ag rfl (bQ er rfl) ?_
      refine ag rfl (p5 rfl rfl rfl) ?_
      refine ag rfl (iu (cs:=aq.enc Dg) rfl (by rw [LJ]; rfl)) ?_
      refine W0 (dD (M:=aq) (aN.id (L:=aq)) Dg Dg rfl rfl rfl rfl rfl) ?_
      refine SL 3 rf ?_
      exact jt qf tZ hT ⟨gR,fO,Dg,uR⟩ ⟨ry,h⟩ (ks:=[1,2,3,4,5,6,7,8,9]) rfl (by decide)
     ·
      refine aS ?_
      obtain ⟨yt,Ez,h⟩:=bu h
      refine dy mixed (.iH [] [(0,[12]),(1,[66]),(2,[8]),(3,[68]),(4,[67,69])] (.alt 5 [70] (.fin [] []) .no)) (by kernel_rfl) ?_
      refine T0 ?_
      refine NS 1 rf ?_
      refine NV rf rf (bQ eB rfl) ?_
      refine NV rf rf (dR (M:=aq) (aN.id (L:=aq)) rfl rfl) ?_
      refine NC rf rf (jq Ez) rf ?_
      refine NE 1 rf ?_
      refine XV rf rf (aC rfl) ?_
      refine rT ?_
      refine aI ?_
      refine eS h rf (fun hc h=>?_) fun hc h=>?_
      ·
       obtain ⟨Gl,LH,h⟩:=cQ h
       refine SC 2 rf ?_
       refine ag rfl (bQ er rfl) ?_
       refine ag rfl (aH rfl) ?_
       refine ag rfl (bQ er rfl) ?_
       refine SL 2 rf ?_
       refine W0 (dD (M:=(LI .i64)) er (wr .i64 (ez.N + pH.N)) Gl LH rfl rfl rfl rfl) ?_
       refine SL 3 rf ?_
       exact jt qf tZ hT ⟨gR,fO,Gl,uR⟩ ⟨ry,h⟩ (ks:=[1,2,3,4,5,6,7,8,9]) rfl (by decide)
      ·
       refine SC 2 rf ?_
       refine ag rfl (aj rfl (aJ.len _ f0)) ?_
       refine ST (C:=K) a0 (aN.id (L:=cH)) iz (mo f0) rf rf rf rf rf fun QD f81=>?_
       refine W0 (dD (M:=LB) (aN.id (L:=LB)) false false rfl rfl rfl rfl rfl) ?_
       refine SL 5 rf ?_
       exact CZ hT (.inl ⟨rfl,rfl⟩) ⟨Code.ret,gR,fO,ez,a0,uR,QD⟩ ⟨rfl,ry,(mo f81),h⟩ (ks:=[1,2,3,4,5,6,7,8,9]) rfl (by decide)
  ·
   rintro CN ⟨gR,fO,ez,uR⟩ ⟨ry,h⟩
   replace h:qq Et Ft (bZ.drop bZ.length) gR fO ez = some r:=h
   replace h:=HP IY rfl h
   dsimp only [List.cons_append,List.nil_append]
   refine SX 5 rf ?_
   refine ag rfl (nx (aN.id (L:=LB)) rfl) ?_
   refine SL 3 rf ?_
   refine eS h rf (fun hc h=>?_) fun hc h=>?_
   ·
    obtain ⟨IQ,h⟩:=cD h
    obtain ⟨tD,HU,h⟩:=cQ h
    refine aB ?_
    refine ag rfl (bG rfl rfl) ?_
    refine ag rfl (dR (M:=aq) (aN.id (L:=aq)) rfl rfl) ?_
    refine cG rfl (mJ aq ez rfl rfl rfl rfl (by decide) (by decide)) (fun RR _=>?_)
    refine cG rfl (lu (sz:=2) (L:=aq) (xs:=fO) (y:=ez) (bytes:=16) rfl rfl rfl (gA IQ).1 (gA IQ).2) (fun zq yU=>?_)
    rw [← HU] at yU; rw [← HU]
    refine W0 (ei (cs':=[zq]) [zq] (aN.id (L:=(qo aq))) (v:=tD) ⟨_,rfl,(Fz.row (e:=124) (sz:=2) (L:=aq) (xs:=fO) rfl ry)⟩ (rv:=(⟨_,rfl,(Fz.row (e:=124) (sz:=2) (L:=aq) (xs:=tD) rfl yU)⟩ : ((qo aq)).rep (Hs [Row zq 124 2 aq tD]) [zq] tD)) rfl rfl (Fz.row (e:=124) (sz:=2) (L:=aq) (xs:=tD) rfl yU).sl.cells rfl rfl) ?_
    obtain ⟨DV,LF,h⟩:=cQ h
    refine SL 4 rf ?_
    refine ag rfl (bG rfl rfl) ?_
    obtain ⟨zz,MV,f89⟩ : ∃cc,[zq] = cc∧(cH).rep (Hs [Row zq 124 2 aq tD]) cc DV:=⟨_,rfl,by rw [LF]; exact ⟨_,rfl,(Fz.row (e:=124) (sz:=2) (L:=aq) (xs:=tD) rfl yU).mono dk⟩⟩
    refine ag rfl (iu (cs:=zz) rfl (by rw [← MV]; first | rfl | (simp [qj,bP,show ∀k i,(Value.int k i).cells = #[Value.int k i] from fun _ _=>rfl,show ∀q,(Value.bool q).cells = #[Value.bool q] from fun _=>rfl,show ∀a,(Value.agg a).cells = a from fun _=>rfl,(Fz.row (e:=124) (sz:=2) (L:=aq) (xs:=tD) rfl yU).sl.cells,(Fz.row (e:=124) (sz:=2) (L:=aq) (xs:=tD) rfl yU).sl.size]; try rfl))) ?_
    refine ST (C:=(Hs [Row zq 124 2 aq tD])) DV (aN.id (L:=cH)) iz (mo f89) rf rf rf rf rf fun NI f91=>?_
    refine W0 (dD (M:=LB) (aN.id (L:=LB)) true true rfl rfl rfl rfl rfl) ?_
    refine SL 3 rf ?_
    have h:=sj h; subst h
    refine bC (R:=[Row zq 124 2 aq tD]) (H':=[.obj CN (.deferred (some [])), .cells b7 4 (LB.enc true), .cells b6 138 NI]) (ks:=[3,1,7,8]) rfl (by decide) ?_
    have Pu:(cH).rep (fun w=>K w∧(Hs [.ext (bI [Row zq 124 2 aq tD]) (Hs [Row zq 124 2 aq tD])]) w) NI DV:=aJ.mono _ dk f91
    exact jJ (.tuple #[A NI, .bool true],bI [Row zq 124 2 aq tD],Hs [Row zq 124 2 aq tD]) rfl (.agg rfl inferInstance inferInstance (aJ.len _ f91) (.one rfl inferInstance inferInstance rfl .nil)) ⟨_,rfl,Pu⟩ rfl (ks:=[0]) rfl (by decide)
   ·
    obtain ⟨zn,Ex,h⟩:=cQ h
    refine SC 4 rf ?_
    refine ag rfl (bG rfl rfl) ?_
    obtain ⟨QC,MS,f95⟩ : ∃cc,[uR] = cc∧(cH).rep (Hs [Row uR 124 2 aq fO]) cc zn:=⟨_,rfl,by rw [Ex]; exact ⟨_,rfl,(Fz.row (e:=124) (sz:=2) (L:=aq) (xs:=fO) rfl ry).mono dk⟩⟩
    refine ag rfl (iu (cs:=QC) rfl (by rw [← MS]; first | rfl | (simp [qj,bP,show ∀k i,(Value.int k i).cells = #[Value.int k i] from fun _ _=>rfl,show ∀q,(Value.bool q).cells = #[Value.bool q] from fun _=>rfl,show ∀a,(Value.agg a).cells = a from fun _=>rfl,(Fz.row (e:=124) (sz:=2) (L:=aq) (xs:=fO) rfl ry).sl.cells,(Fz.row (e:=124) (sz:=2) (L:=aq) (xs:=fO) rfl ry).sl.size]; try rfl))) ?_
    refine ST (C:=(Hs [Row uR 124 2 aq fO])) zn (aN.id (L:=cH)) iz (mo f95) rf rf rf rf rf fun JF f97=>?_
    refine W0 (dD (M:=LB) (aN.id (L:=LB)) true true rfl rfl rfl rfl rfl) ?_
    refine SL 3 rf ?_
    have h:=sj h; subst h
    refine bC (R:=[Row uR 124 2 aq fO]) (H':=[.obj CN (.deferred (some [])), .cells b7 4 (LB.enc true), .cells b6 138 JF]) (ks:=[2,0,6,7]) rfl (by decide) ?_
    have Pt:(cH).rep (fun w=>K w∧(Hs [.ext (bI [Row uR 124 2 aq fO]) (Hs [Row uR 124 2 aq fO])]) w) JF zn:=aJ.mono _ dk f97
    exact jJ (.tuple #[A JF, .bool true],bI [Row uR 124 2 aq fO],Hs [Row uR 124 2 aq fO]) rfl (.agg rfl inferInstance inferInstance (aJ.len _ f97) (.one rfl inferInstance inferInstance rfl .nil)) ⟨_,rfl,Pt⟩ rfl (ks:=[0]) rfl (by decide)
  ·
   rintro CN j ⟨mW,wm,oo,GR,D0,FM⟩ ⟨rfl,Ii,f53,h⟩
   dsimp only [List.cons_append,List.nil_append]
   refine SC 3 rf ?_
   have h:=sj h; subst h
   refine bC (R:=[]) (H':=[.obj CN (.deferred (some [])), .cells b7 4 (LB.enc false), .cells b6 138 FM]) (ks:=[0,6,7]) rfl (by decide) ?_
   have Ps:(cH).rep (fun w=>K w∧(Hs [.ext (bI []) (Hs [])]) w) FM GR:=aJ.mono _ dk f53
   exact jJ (.tuple #[A FM, .bool false],bI [],Hs []) rfl (.agg rfl inferInstance inferInstance (aJ.len _ f53) (.one rfl inferInstance inferInstance rfl .nil)) ⟨_,rfl,Ps⟩ rfl (ks:=[0]) rfl (by decide)
end Go.Proofs.Ytbalnnoofdkbaaa
namespace Go.Proofs.Ytbalnnoofdkbaaa
open Go Go.Bw
structure cN where
 bq:(List bj)
 og:Int
abbrev cV:aJ cN:=aJ.via (LP (qo aq) (LI .i64)) (fun x=>(x.bq,x.og))
abbrev eL:cN:=⟨[],0⟩
def gh:List Value:=[.slice none 0 0]++([.int .i64 0])
theorem iA {A:World→Prop}:cV.rep A gh eL:=⟨_,_,rfl,⟨_,rfl,Fz.nil⟩,rfl⟩
theorem ew:aN cV (qo aq) 0 (fun x=>x.bq) (fun x v=>{ x with bq:=v }):=(aN.fst aN.id).via _ _ _ 0 rfl (fun _=>rfl) (fun _ _=>rfl)
theorem iK:aN cV (LI .i64) 1 (fun x=>x.og) (fun x v=>{ x with og:=v }):=(aN.snd aN.id).via _ _ _ 1 rfl (fun _=>rfl) (fun _ _=>rfl)
structure gL where
 bq:(List (Nat→Int))
 og:Int
abbrev fE:aJ gL:=aJ.via (LP (qo (LA (LI .i64) 2)) (LI .i64)) (fun x=>(x.bq,x.og))
abbrev cZ:gL:=⟨[],0⟩
def gO:List Value:=[.slice none 0 0]++([.int .i64 0])
theorem iQ {A:World→Prop}:fE.rep A gO cZ:=⟨_,_,rfl,⟨_,rfl,Fz.nil⟩,rfl⟩
theorem eG:aN fE (qo (LA (LI .i64) 2)) 0 (fun x=>x.bq) (fun x v=>{ x with bq:=v }):=(aN.fst aN.id).via _ _ _ 0 rfl (fun _=>rfl) (fun _ _=>rfl)
theorem jb:aN fE (LI .i64) 1 (fun x=>x.og) (fun x v=>{ x with og:=v }):=(aN.snd aN.id).via _ _ _ 1 rfl (fun _=>rfl) (fun _ _=>rfl)
def kP (n:Nat) (a0:cN) (a1:gL):Option Bool:=
 cn ((((a0.bq.length:Int) != (a1.bq.length:Int)) || (a0.og != a1.og))) (
 some false) (
 ef (fun Ci (dS:Int) =>
 cn (decide (dS < (a0.bq.length:Int))) (
 gu (dU dS a0.bq.length) <|
 gu (dU dS a1.bq.length) <|
 gu (!((((a0.bq.getD (Int.toNat dS) default).At) != ((a1.bq.getD (Int.toNat dS) default) 0)) == false) || dU dS a0.bq.length) <|
 gu (!((((a0.bq.getD (Int.toNat dS) default).At) != ((a1.bq.getD (Int.toNat dS) default) 0)) == false) || dU dS a1.bq.length) <|
 cn (((((a0.bq.getD (Int.toNat dS) default).At) != ((a1.bq.getD (Int.toNat dS) default) 0)) || (((a0.bq.getD (Int.toNat dS) default).N) != ((a1.bq.getD (Int.toNat dS) default) 1)))) (
 some false) (
 Ci (wr .i64 (dS + 1)))) (
 some true)) n 0)
theorem uA {n a0 a1 r K} [bF K] {ct} (f0:(cV).rep K ct a0) {lH:List Value} (f1:(fE).rep K lH a1) (h:kP n a0 a1 = some r):qM Try.prog 36 [A ct,A lH] K (.bool r):=by
 unfold kP at h
 refine fo Try.func36 (by kernel_rfl) rfl Try.ntmps36 rfl fun cx _ hro dc hpre=>?_
 refine SC 2 rf ?_
 refine W1 rf (bH rfl) fun b2=>?_
 refine W1 rf (bH rfl) fun b3=>?_
 refine SL 7 rf ?_
 obtain ⟨Kj,tX,f22⟩:=ew.sl f0
 refine ag rfl (bG rfl tX) ?_
 refine ag rfl (dH f22 rfl) ?_
 refine ag rfl (aH rfl) ?_
 obtain ⟨r7,L3,f24⟩:=eG.sl f1
 refine ag rfl (bG rfl L3) ?_
 refine ag rfl (dH f24 rfl) ?_
 refine SL 2 rf ?_
 refine GB rf rf rf (fun hb=>aH rfl) ?_
 refine GB rf rf rf (fun hb=>bG (bT rfl hb) (iK.int f0)) ?_
 refine GB rf rf rf (fun hb=>aH rfl) ?_
 refine GB rf rf rf (fun hb=>bG (bT rfl hb) (jb.int f1)) ?_
 refine GB rf rf rf (fun hb=>j5 (bT rfl hb) (bT rfl hb)) ?_
 refine ag rfl (dV rfl rfl) ?_
 refine SL 2 rf ?_
 refine eS h rf (fun hc h=>?_) fun hc h=>?_
 ·
  refine SC 7 rf ?_
  have h:=sj h; subst h
  exact RV rf (rt rf rn) rf
 ·
  refine SC 9 rf ?_
  obtain ⟨Ln,II,h⟩:=ld h
  refine LO (β:=Int) [2,3] [0,1] (fun (HD,dS)=>[(5, .int .i64 dS)]) (fun (HD,dS)=>[.cells b3 47 lH, .cells b2 35 ct]) (fun (HD,dS)=>ef Ln HD dS = some r) (n,0) h rf rf rf ?_
  rintro HD dS h
  replace h:=k9 II h; obtain ⟨HD,rfl,h⟩:=h
  refine SC 5 rf ?_
  obtain ⟨v30,L2,f31⟩:=ew.sl f0
  refine ag rfl (bG rfl L2) ?_
  refine ag rfl (dH f31 rfl) ?_
  refine SL 3 rf ?_
  refine eS h rf (fun hc h=>?_) fun hc h=>?_
  ·
   refine SC 5 rf ?_
   obtain ⟨lC,h⟩:=cD h
   obtain ⟨pS,h⟩:=cD h
   obtain ⟨mR,h⟩:=cD h
   obtain ⟨su,h⟩:=cD h
   refine dy mixed (.fin [] [(0,[2]),(1,[27]),(2,[5]),(3,[28,29]),(4,[30]),(5,[31]),(6,[3]),(7,[33]),(8,[5]),(9,[34,35]),(10,[36]),(11,[37]),(12,[32,38]),(13,[39]),(14,[2,40]),(15,[40,41]),(16,[5,40]),(17,[40,42,43]),(18,[40,44]),(19,[40,45]),(20,[3,40]),(21,[40,47]),(22,[5,40]),(23,[40,48,49]),(24,[40,50]),(25,[40,51]),(26,[40,46,52]),(27,[40,53])]) (by kernel_rfl) ?_
   refine F0 ?_
   refine NS 1 rf ?_
   obtain ⟨BB,ED,f33⟩:=ew.sl f0
   refine NV rf rf (bG rfl ED) ?_
   refine NS 1 rf ?_
   refine NV rf rf (dL (m:=(Int.toNat dS)) f33 rfl rfl rfl (ay lC).1 (ay lC).2) ?_
   refine NV rf rf (yd f33 rfl (ay lC).2) ?_
   refine NV rf rf (dJ f33 ((aN.idx (L:=aq) (m:=(a0.bq.length)) (k:=2) ((Int.toNat dS)) (ay lC).2 rfl).comp eB) rfl) ?_
   refine NS 1 rf ?_
   obtain ⟨RH,L0,f36⟩:=eG.sl f1
   refine NV rf rf (bG rfl L0) ?_
   refine NS 1 rf ?_
   refine NV rf rf (dL (m:=(Int.toNat dS)) f36 rfl rfl rfl (ay pS).1 (ay pS).2) ?_
   refine NV rf rf (rQ (m:=0) f36 rfl rfl (ay pS).2 rfl (by decide)) ?_
   refine NV rf rf (dJ f36 ((aN.idx (L:=(LA (LI .i64) 2)) (m:=(a1.bq.length)) (k:=2) ((Int.toNat dS)) (ay pS).2 rfl).comp (aN.idx (L:=(LI .i64)) (m:=2) (k:=1) (0) (by decide) rfl)) rfl) ?_
   refine NS 2 rf ?_
   refine NG rf rf (cg rfl rfl) (fun hb=>aH rfl) ?_
   obtain ⟨Ob,LZ,f39⟩:=vx (g:=((((a0.bq.getD (Int.toNat dS) default).At) != ((a1.bq.getD (Int.toNat dS) default) 0)) == false)) (fun hb=>ew.sl f0)
   refine NG rf rf (cg rfl rfl) (fun hb=>bG (bT rfl hb) (LZ hb)) ?_
   refine NG rf rf (cg rfl rfl) (fun hb=>ah rfl) ?_
   refine NG rf rf (cg rfl rfl) (fun hb=>dL (m:=(Int.toNat dS)) (f39 hb) rfl (bT rfl hb) (bT rfl hb) (ay (gG mR hb)).1 (ay (gG mR hb)).2) ?_
   refine NG rf rf (cg rfl rfl) (fun hb=>yd (f39 hb) (bT rfl hb) (ay (gG mR hb)).2) ?_
   refine NG rf rf (cg rfl rfl) (fun hb=>dJ (f39 hb) ((aN.idx (L:=aq) (m:=(a0.bq.length)) (k:=2) ((Int.toNat dS)) (ay (gG mR hb)).2 rfl).comp er) (bT rfl hb)) ?_
   refine NG rf rf (cg rfl rfl) (fun hb=>aH rfl) ?_
   obtain ⟨RF,LY,f42⟩:=vx (g:=((((a0.bq.getD (Int.toNat dS) default).At) != ((a1.bq.getD (Int.toNat dS) default) 0)) == false)) (fun hb=>eG.sl f1)
   refine NG rf rf (cg rfl rfl) (fun hb=>bG (bT rfl hb) (LY hb)) ?_
   refine NG rf rf (cg rfl rfl) (fun hb=>ah rfl) ?_
   refine NG rf rf (cg rfl rfl) (fun hb=>dL (m:=(Int.toNat dS)) (f42 hb) rfl (bT rfl hb) (bT rfl hb) (ay (gG su hb)).1 (ay (gG su hb)).2) ?_
   refine NG rf rf (cg rfl rfl) (fun hb=>rQ (m:=1) (f42 hb) (bT rfl hb) rfl (ay (gG su hb)).2 rfl (by decide)) ?_
   refine NG rf rf (cg rfl rfl) (fun hb=>dJ (f42 hb) ((aN.idx (L:=(LA (LI .i64) 2)) (m:=(a1.bq.length)) (k:=2) ((Int.toNat dS)) (ay (gG su hb)).2 rfl).comp (aN.idx (L:=(LI .i64)) (m:=2) (k:=1) (1) (by decide) rfl)) (bT rfl hb)) ?_
   refine NG rf rf (cg rfl rfl) (fun hb=>j5 (bT rfl hb) (bT rfl hb)) ?_
   refine NV rf rf (dV rfl rfl) ?_
   refine bA ?_
   refine aI ?_
   refine eS h rf (fun hc h=>?_) fun hc h=>?_
   ·
    refine SC 11 rf ?_
    have h:=sj h; subst h
    exact RV rf (rt rf rn) rf
   ·
    refine SC 8 rf ?_
    exact LN [0,1] (wr .i64 (dS + 1)) h rf rf rf
  ·
   refine SC 11 rf ?_
   have h:=sj h; subst h
   exact RV rf (rt rf rn) rf
def fU (n:Nat) (a0:cN):Option cN:=
 some a0
theorem mD {n a0 r K} [bF K] {ct} (f0:(cV).rep K ct a0) (h:fU n a0 = some r):Bw.Fn (α:=Nat × List Value) Try.prog 83 [A ct] K [] (fun (b0,c0)=>(cV).rep K c0 r) (fun (b0,c0)=>.func (.func 86) #[] #[Ptr b0 0]) (fun (b0,c0)=>[.cells b0 35 c0]):=by
 unfold fU at h
 refine fo Try.func83 (by kernel_rfl) rfl Try.ntmps83 rfl fun cx _ hro dc hpre=>?_
 refine SC 2 rf ?_
 refine W1 rf (bH rfl) fun b1=>?_
 refine SL 10 rf ?_
 have h:=sj h; subst h
 exact bW ⟨b1,ct⟩ rfl (.tmp rfl .nil) (mo f0) rfl (ks:=[0]) rfl (by decide)
def eE (n:Nat) (a1:cN):Option (List (Int × bj)):=
 ec (fun Lq (bZ:Int) (gV:Int) =>
 cn (decide (gV < (a1.bq.length:Int))) (
 gu (dU gV a1.bq.length) <|
 lt ((a1.bq.getD (Int.toNat gV) default):bj) fun ez =>
 yl (bZ,ez) <|
 Lq (wr .i64 (bZ + (wr .i64 (ez.N * 32)))) (wr .i64 (gV + 1))) (
 some [])) n 0 0
theorem kY {n:Nat} {a1:cN} {l:List (Int × bj)} {K:World→Prop} {q1:Nat} {lH:List Value} (f1:(cV).rep K lH a1) (h:eE n a1 = some l):yq Try.prog 86 [Ptr q1 0] [.cells q1 35 lH] K (fun k=>[.int .i64 ((l.getD k default).1), .agg (aq.enc ((l.getD k default).2)).toArray]) l.length:=by
 unfold eE at h
 refine ⟨fun y J Jx bs=>eR Try.func86 (by kernel_rfl) rfl Try.ntmps86 rfl (fun cx dc hpre hro=>?_)⟩
 haveI:=jI (show cx.bs = bs++bI [.cells q1 35 lH] from dc) hpre.1
 have hR:DL Try.prog y cx.bs cx.w0 J Jx (fun k=>[.int .i64 ((l.getD k default).1), .agg (aq.enc ((l.getD k default).2)).toArray]) l.length:=by rw [show cx.bs = bs++bI [.cells q1 35 lH] from dc]; exact hpre.2
 have E4:l.drop 0 = l:=rfl
 have EN:0 ≤ l.length:=Nat.zero_le _
 refine SC 8 rf ?_
 obtain ⟨Kj,tX,f22⟩:=ew.sl f1
 refine ag rfl (bG rfl tX) ?_
 refine ag rfl (dH f22 rfl) ?_
 refine SL 4 rf ?_
 obtain ⟨Lj,ID,h⟩:=lT h
 refine LO (β:=Int × Int × Nat × (List (Int × bj)) × (List Nat)) [0,7,8] [0,1] (fun (Hz,bZ,gV,lV,Hf,uj)=>[(3, .int .i64 bZ),(9, .int .i64 gV)]) (fun (Hz,bZ,gV,lV,Hf,uj)=>[.ext uj (J lV uj), .cells q1 35 lH]) (fun (Hz,bZ,gV,lV,Hf,uj)=>l.drop lV = Hf∧lV ≤ l.length∧ec Lj Hz bZ gV = some Hf) (n,0,0,0,l,bs) ⟨E4,EN,h⟩ rf rf rf ?_
 rintro Hz ⟨bZ,gV,lV,Hf,uj⟩ ⟨I7,MD,h⟩
 replace h:=lS ID h; obtain ⟨Hz,rfl,h⟩:=h
 refine SC 6 rf ?_
 refine eS h rf (fun hc h=>?_) fun hc h=>?_
 ·
  obtain ⟨mR,h⟩:=cD h
  obtain ⟨ez,vp,h⟩:=cQ h
  refine SC 6 rf ?_
  refine ag rfl (dL (m:=(Int.toNat gV)) f22 rfl rfl rfl (ay mR).1 (ay mR).2) ?_
  refine ag rfl (qH (M:=aq) f22 (aN.idx (L:=aq) (m:=(a1.bq.length)) (k:=2) ((Int.toNat gV)) (ay mR).2 rfl) rfl rfl (by decide)) ?_
  refine W1 rf (cP (L:=aq) (z:=iZ) ⟨by kernel_rfl⟩) fun b5=>?_
  refine W0 (dD (M:=aq) (aN.id (L:=aq)) (a1.bq.getD (Int.toNat gV) default) ez vp rfl rfl rfl rfl) ?_
  refine SL 4 rf ?_
  obtain ⟨KZ,EH,h⟩:=BQ h
  obtain ⟨EM,EW,E3,EL⟩:=drop_cons (I7.trans EH)
  refine SC 3 rf ?_
  refine ag rfl (dR (M:=aq) (aN.id (L:=aq)) rfl rfl) ?_
  refine cG rfl (pF (bs:=uj) hR EM hro rfl (show qw _ _ = some [.int .i64 ((l.getD lV default).1), .agg (aq.enc ((l.getD lV default).2)).toArray] by rw [EW]; rfl)) (fun ⟨AZ,xb⟩ _=>?_)
  refine SL 3 rf ?_
  refine iq rfl (fun hc=>?_) (fun hc=>?_)
  ·
   obtain rfl:AZ = false:=by simpa using hc
   dsimp only [cond_true,cond_false]
   refine SC 6 rf ?_
   exact bW (false,xb) rfl .nil trivial rfl (ks:=[1,2]) rfl (by decide)
  ·
   obtain rfl:AZ = true:=by simpa using hc
   dsimp only [cond_true,cond_false]
   refine SC 5 rf ?_
   refine ag rfl (bQ er rfl) ?_
   refine SL 10 rf ?_
   exact LN [1,2] (wr .i64 (bZ + (wr .i64 (ez.N * 32))),wr .i64 (gV + 1),lV + 1,KZ,xb) ⟨E3,EL,h⟩ rf rf rf
 ·
  refine SC 4 rf ?_
  have h:=sj h; subst h
  have Nv:=drop_nil I7 MD
  refine qF (ks:=[0,1]) (H':=[.ext uj (J (lV) uj), .cells q1 35 lH]) rfl (by decide) ?_
  refine qG (J:=J) (n:=l.length) Nv ?_
  exact rN (true,uj) rfl .nil trivial rfl (ks:=[0,1]) rfl (by decide)
def fj (n:Nat) (a0:cN):Option Int:=
 bd (fU n a0) fun bp =>
 bd (eE n bp) fun iT =>
 fG (fun (CM:Int × bj) Ci (eN:Int) =>
 lt (CM.1:Int) fun j7 =>
 lt (CM.2:bj) fun fY =>
 lt (wr .i64 (eN + fY.N):Int) fun gi =>
 Ci gi) (fun (eN:Int) =>
 some eN) iT 0
theorem mU {n a0 r K} [bF K] {ct} (f0:(cV).rep K ct a0) (h:fj n a0 = some r):qM Try.prog 74 [A ct] K (.int .i64 r):=by
 unfold fj at h
 refine fo Try.func74 (by kernel_rfl) rfl Try.ntmps74 rfl fun cx _ hro dc hpre=>?_
 refine SC 2 rf ?_
 refine W1 rf (bH rfl) fun b1=>?_
 refine SL 5 rf ?_
 refine W1 rf (cP (L:=(LI .i64)) (z:=0) ⟨by kernel_rfl⟩) fun b3=>?_
 refine W0 (dD (M:=(LI .i64)) (aN.id (L:=(LI .i64))) 0 0 rfl rfl rfl rfl rfl) ?_
 obtain ⟨bp,cu,h⟩:=bu h
 refine SL 5 rf ?_
 refine ag rfl (aj rfl (aJ.len _ f0)) ?_
 refine cG rfl (eU (mD (K:=K) (mo f0) cu) rfl kn) (fun ⟨QT,xo⟩ f24=>?_)
 replace f24:(cV).rep K xo bp:=f24
 dsimp only [List.cons_append,List.nil_append]
 refine SL 3 rf ?_
 obtain ⟨iT,nh,h⟩:=bu h
 obtain ⟨wM,AK,w9,AR,h⟩:=rj h
 refine mb (K:=K) (α:=Int) (β:=Unit) hro rfl (kY (K:=K) (mo f24) nh) (fun _=>rfl) rfl (fun lW=>fun eN=>fG wM w9 (iT.drop lW) eN = some r) (fun lW=>fun eN=>[.cells b3 3 ((LI .i64).enc eN), .cells b1 35 ct]) (fun _ _=>False) (fun _=>[]) 0 h (ks:=[0,1,2]) rfl (by decide) ?_ ?_ ?_
 ·
  rintro lW eN lo dd rec c' hk h qf tZ oy hsi hT
  replace h:fG wM w9 (iT.drop lW) eN = some r:=h
  replace h:=rh AK hk h
  haveI:=m8 (K:=K) hsi
  dsimp only [qp]
  obtain ⟨j7,rq,h⟩:=cQ h
  rw [← rq]
  obtain ⟨fY,tW,h⟩:=cQ h
  rw [← tW]
  refine aB ?_
  refine W1 rf (cP (L:=aq) (z:=iZ) ⟨by kernel_rfl⟩) fun b5=>?_
  refine W0 (dD (M:=aq) (aN.id (L:=aq)) fY fY rfl rfl rfl rfl rfl) ?_
  refine bh ?_
  refine jW qf oy ?_
  obtain ⟨gi,j4,h⟩:=cQ h
  refine SC 2 rf ?_
  refine ag rfl (bQ (aN.id (L:=(LI .i64))) rfl) ?_
  refine ag rfl (aH rfl) ?_
  refine ag rfl (bQ er rfl) ?_
  refine ag rfl (p5 rfl rfl rfl) ?_
  refine W0 (dD (M:=(LI .i64)) (aN.id (L:=(LI .i64))) (wr .i64 (eN + fY.N)) gi j4 rfl rfl rfl rfl) ?_
  refine SL 2 rf ?_
  exact jt qf tZ hT gi h (ks:=[1,2,3,4]) rfl (by decide)
 ·
  rintro ND eN h
  replace h:fG wM w9 (iT.drop iT.length) eN = some r:=h
  replace h:=ri AR rfl h
  dsimp only [List.cons_append,List.nil_append]
  refine SX 4 rf ?_
  refine ag rfl (bQ (aN.id (L:=(LI .i64))) rfl) ?_
  refine SL 4 rf ?_
  have h:=sj h; subst h
  exact jJ () rfl (.tmp rfl .nil) trivial rfl (ks:=[]) rfl (by decide)
 ·
  intro dd j i hf; exact hf.elim
def eZ (n:Nat) (a0:cN):Option Bool:=
 ec (fun Lr (fA:Int) (j7:cW) =>
 cn (decide (fA < (a0.bq.length:Int))) (
 gu (dU fA a0.bq.length) <|
 lt ((a0.bq.getD (Int.toNat fA) default):bj) fun jF =>
 bd (g6 n j7 jF.At jF.N) fun ez =>
 cn ((!ez.2)) (
 some false) (
 Lr (wr .i64 (fA + 1)) ez.1)) (
 cl ((decide (0 ≤ a0.og)) == true) (fj n a0) default fun yu =>
 some (decide (0 ≤ a0.og) && decide (a0.og ≤ (wr .i64 (yu * 32)))))) n 0 jV
theorem nR {n a0 r K} [bF K] {ct} (f0:(cV).rep K ct a0) (h:eZ n a0 = some r):qM Try.prog 60 [A ct] K (.bool r):=by
 unfold eZ at h
 refine fo Try.func60 (by kernel_rfl) rfl Try.ntmps60 rfl fun cx _ hro dc hpre=>?_
 refine SC 2 rf ?_
 refine W1 rf (bH rfl) fun b1=>?_
 refine SL 5 rf ?_
 refine W1 rf (bk (hz:=(⟨by kernel_rfl⟩ : bY Try.prog 138 fN))) fun b3=>?_
 refine SL 6 rf ?_
 obtain ⟨Kj,tX,f22⟩:=ew.sl f0
 refine ag rfl (bG rfl tX) ?_
 refine ag rfl (dH f22 rfl) ?_
 refine SL 4 rf ?_
 obtain ⟨En,AG,h⟩:=lT h
 refine kA ?_
 refine LO (β:=Int × cW × (List Value) × (List Nat) × (World→Prop)) [1,3,9,10] [0,1,2] (fun (Af,fA,j7,BJ,mH,uQ)=>[(11, .int .i64 fA)]) (fun (Af,fA,j7,BJ,mH,uQ)=>[.ext mH uQ, .cells b3 138 BJ, .cells b1 35 ct]) (fun (Af,fA,j7,BJ,mH,uQ)=>(cH).rep (Hs [.ext mH uQ]) BJ j7∧ec En Af fA j7 = some r) (n,0,jV,fN,[],(Hs [])) ⟨(aJ.mono _ dk (show (cH).rep (Hs []) fN jV from iz)),h⟩ rf rf rf ?_
 rintro Af ⟨fA,j7,BJ,mH,uQ⟩ ⟨f35,h⟩
 replace h:=lS AG h; obtain ⟨Af,rfl,h⟩:=h
 refine SC 6 rf ?_
 refine eS h rf (fun hc h=>?_) fun hc h=>?_
 ·
  obtain ⟨jk,h⟩:=cD h
  obtain ⟨jF,qt,h⟩:=cQ h
  refine SC 6 rf ?_
  refine ag rfl (dL (m:=(Int.toNat fA)) f22 rfl rfl rfl (ay jk).1 (ay jk).2) ?_
  refine ag rfl (qH (M:=aq) f22 (aN.idx (L:=aq) (m:=(a0.bq.length)) (k:=2) ((Int.toNat fA)) (ay jk).2 rfl) rfl rfl (by decide)) ?_
  refine W1 rf (cP (L:=aq) (z:=iZ) ⟨by kernel_rfl⟩) fun b5=>?_
  refine W0 (dD (M:=aq) (aN.id (L:=aq)) (a0.bq.getD (Int.toNat fA) default) jF qt rfl rfl rfl rfl) ?_
  obtain ⟨ez,vp,h⟩:=bu h
  refine SL 4 rf ?_
  refine ag rfl (aj rfl (aJ.len _ f35)) ?_
  refine ag rfl (aH rfl) ?_
  refine ag rfl (bQ eB rfl) ?_
  refine ag rfl (aH rfl) ?_
  refine ag rfl (bQ er rfl) ?_
  refine CB (pW (K:=(Hs [.ext mH uQ])) (mo f35) vp) rf rf ?_
  rintro Rv l8 tC ⟨CS,rfl,f46⟩
  replace f46:(cH).rep (fun w=>(Hs [.ext mH uQ]) w∧Hs [.ext l8 tC] w) CS ez.1:=f46
  refine SL 3 rf ?_
  refine W1 rf (bk (hz:=(⟨by kernel_rfl⟩ : bY Try.prog 138 fN))) fun b6=>?_
  refine ST (C:=(Hs [.ext mH uQ, .ext l8 tC])) ez.1 (aN.id (L:=cH)) iz (mo f46) rf rf rf rf rf fun BI f49=>?_
  refine SL 10 rf ?_
  refine eS h rf (fun hc h=>?_) fun hc h=>?_
  ·
   refine SC 12 rf ?_
   have h:=sj h; subst h
   exact RV rf (rt rf rn) rf
  ·
   refine SC 3 rf ?_
   refine ag rfl (aj rfl (aJ.len _ f49)) ?_
   refine ST (C:=(Hs [.ext mH uQ, .ext l8 tC])) ez.1 (aN.id (L:=cH)) (mo f35) (mo f49) rf rf rf rf rf fun BH f51=>?_
   refine SL 7 rf ?_
   refine bC (R:=[.ext l8 tC, .ext mH uQ]) (H':=[.cells b6 138 BI, .cells b5 124 (aq.enc jF), .cells b3 138 BH, .cells b1 35 ct]) (ks:=[1,3,0,2,4,5]) rfl (by decide) ?_
   exact LN [0,3,4] (wr .i64 (fA + 1),ez.1,BH,(bI [.ext l8 tC, .ext mH uQ]),(Hs [.ext l8 tC, .ext mH uQ])) ⟨(mo f51),h⟩ rf rf rf
 ·
  refine SC 6 rf ?_
  obtain ⟨yu,LV,_,h⟩:=jd h
  refine dy mixed (.iH [] [(0,[1]),(1,[28]),(2,[29]),(3,[30]),(4,[1,31]),(5,[31,32]),(6,[1,31]),(7,[31,34]),(8,[31,35]),(9,[31,33,36]),(10,[31,37])] (.alt 11 [38] (.fin [] []) .no)) (by kernel_rfl) ?_
  refine T0 ?_
  refine NS 1 rf ?_
  refine NV rf rf (bG rfl (iK.int f0)) ?_
  refine NS 2 rf ?_
  refine NG rf rf (cg rfl rfl) (fun hb=>aH rfl) ?_
  refine NG rf rf (cg rfl rfl) (fun hb=>bG (bT rfl hb) (iK.int f0)) ?_
  refine NG rf rf (cg rfl rfl) (fun hb=>aj rfl (aJ.len _ f0)) ?_
  refine NG rf rf (cg rfl rfl) (fun hb=>bD (mU (K:=K) (mo f0) (LV hb)) (aU (bT rfl hb) rfl) kn) ?_
  refine NG rf rf (cg rfl rfl) (fun hb=>xw (bT rfl hb) rfl rfl) ?_
  refine NG rf rf (cg rfl rfl) (fun hb=>nw (bT rfl hb) (bT rfl hb)) ?_
  refine NV rf rf (cM rfl rfl) ?_
  refine bA ?_
  refine XV rf rf (aC rfl) ?_
  refine rT ?_
  refine SX 2 rf ?_
  have h:=sj h; subst h
  exact RV rf (rt rf rn) rf
def dz (n:Nat) (a0:gL):Option Bool:=
 j9 (fun Cg (dS:Int) (cR:Int) (eN:(Nat→Bool)) =>
 cn (decide (cR < (a0.bq.length:Int))) (
 gu (dU cR a0.bq.length) <|
 gu (dU cR a0.bq.length) <|
 cn (((((decide (((a0.bq.getD (Int.toNat cR) default) 1) < 1) || decide (64 < ((a0.bq.getD (Int.toNat cR) default) 1))) || decide (((a0.bq.getD (Int.toNat cR) default) 0) < 0)) || decide (63 < ((a0.bq.getD (Int.toNat cR) default) 0))) || decide (64 < (wr .i64 (((a0.bq.getD (Int.toNat cR) default) 0) + ((a0.bq.getD (Int.toNat cR) default) 1)))))) (
 some false) (
 ec (fun HH (rY:Int) (wc:(Nat→Bool)) =>
 cn (decide (rY < (wr .i64 (((a0.bq.getD (Int.toNat cR) default) 0) + ((a0.bq.getD (Int.toNat cR) default) 1))))) (
 gu (dU rY 64) <|
 cn ((wc (Int.toNat rY))) (
 some false) (
 gu (dU rY 64) <|
 lt ((eO wc (Int.toNat rY) true):(Nat→Bool)) fun oo =>
 HH (wr .i64 (rY + 1)) oo)) (
 Cg (wr .i64 (dS + ((a0.bq.getD (Int.toNat cR) default) 1))) (wr .i64 (cR + 1)) wc)) n ((a0.bq.getD (Int.toNat cR) default) 0) eN)) (
 some (decide (0 ≤ a0.og) && decide (a0.og ≤ (wr .i64 (32 * dS)))))) n 0 0 (fun _=>false)
theorem oN {n a0 r K} [bF K] {ct} (f0:(fE).rep K ct a0) (h:dz n a0 = some r):qM Try.prog 61 [A ct] K (.bool r):=by
 unfold dz at h
 refine fo Try.func61 (by kernel_rfl) rfl Try.ntmps61 rfl fun cx _ hro dc hpre=>?_
 refine SC 2 rf ?_
 refine W1 rf (bH rfl) fun b1=>?_
 refine SL 5 rf ?_
 refine W1 rf (cP (L:=(LA LB 64)) (z:=(fun _=>false)) ⟨by kernel_rfl⟩) fun b3=>?_
 refine SL 14 rf ?_
 obtain ⟨Ll,IF,h⟩:=xV h
 refine LO (β:=Int × Int × (Nat→Bool)) [1,3] [0,1] (fun (HB,dS,cR,eN)=>[(4, .int .i64 dS),(5, .int .i64 cR)]) (fun (HB,dS,cR,eN)=>[.cells b3 142 ((LA LB 64).enc eN), .cells b1 47 ct]) (fun (HB,dS,cR,eN)=>j9 Ll HB dS cR eN = some r) (n,0,0,(fun _=>false)) h rf rf rf ?_
 rintro HB ⟨dS,cR,eN⟩ h
 replace h:=xU IF h; obtain ⟨HB,rfl,h⟩:=h
 refine SC 5 rf ?_
 obtain ⟨BB,ED,f33⟩:=eG.sl f0
 refine ag rfl (bG rfl ED) ?_
 refine ag rfl (dH f33 rfl) ?_
 refine SL 3 rf ?_
 refine eS h rf (fun hc h=>?_) fun hc h=>?_
 ·
  refine SC 5 rf ?_
  obtain ⟨lY,h⟩:=cD h
  obtain ⟨jk,h⟩:=cD h
  refine dy mixed (.iH [] [(0,[1]),(1,[16]),(2,[5]),(3,[17,18]),(4,[19]),(5,[20]),(6,[1]),(7,[22]),(8,[5]),(9,[23,24]),(10,[25]),(11,[26])] (.alt 12 [21] (.iH [(6,[1]),(7,[22]),(8,[5]),(9,[23,24]),(10,[25]),(11,[26])] [] (.alt 13 [27] (.fin [] []) .no)) .no)) (by kernel_rfl) ?_
  refine T0 ?_
  refine NS 1 rf ?_
  obtain ⟨Pj,L1,f35⟩:=eG.sl f0
  refine NV rf rf (bG rfl L1) ?_
  refine NS 1 rf ?_
  refine NV rf rf (dL (m:=(Int.toNat cR)) f35 rfl rfl rfl (ay lY).1 (ay lY).2) ?_
  refine NV rf rf (rQ (m:=0) f35 rfl rfl (ay lY).2 rfl (by decide)) ?_
  refine NV rf rf (dJ f35 ((aN.idx (L:=(LA (LI .i64) 2)) (m:=(a0.bq.length)) (k:=2) ((Int.toNat cR)) (ay lY).2 rfl).comp (aN.idx (L:=(LI .i64)) (m:=2) (k:=1) (0) (by decide) rfl)) rfl) ?_
  refine NS 1 rf ?_
  obtain ⟨Dj,Ic,f38⟩:=eG.sl f0
  refine NV rf rf (bG rfl Ic) ?_
  refine NS 1 rf ?_
  refine NV rf rf (dL (m:=(Int.toNat cR)) f38 rfl rfl rfl (ay jk).1 (ay jk).2) ?_
  refine NV rf rf (rQ (m:=1) f38 rfl rfl (ay jk).2 rfl (by decide)) ?_
  refine NV rf rf (dJ f38 ((aN.idx (L:=(LA (LI .i64) 2)) (m:=(a0.bq.length)) (k:=2) ((Int.toNat cR)) (ay jk).2 rfl).comp (aN.idx (L:=(LI .i64)) (m:=2) (k:=1) (1) (by decide) rfl)) rfl) ?_
  refine bA ?_
  refine XV rf rf (aC rfl) ?_
  refine eA ?_ ?_
  ·
   refine J4 1 rf rf ?_
   refine RO rf rf (bG rfl Ic) rf ?_
   refine J4 1 rf rf ?_
   refine RO rf rf (dL (m:=(Int.toNat cR)) f38 rfl rfl rfl (ay jk).1 (ay jk).2) rf ?_
   refine RO rf rf (rQ (m:=1) f38 rfl rfl (ay jk).2 rfl (by decide)) rf ?_
   refine RO rf rf (dJ f38 ((aN.idx (L:=(LA (LI .i64) 2)) (m:=(a0.bq.length)) (k:=2) ((Int.toNat cR)) (ay jk).2 rfl).comp (aN.idx (L:=(LI .i64)) (m:=2) (k:=1) (1) (by decide) rfl)) rfl) rf ?_
   exact gQ
  refine bA ?_
  refine XV rf rf (aC rfl) ?_
  refine rT ?_
  refine SX 7 rf ?_
  refine GB rf rf rf (fun hb=>ah rfl) ?_
  refine GB rf rf rf (fun hb=>kW (bT rfl hb) rfl) ?_
  refine ag rfl (dV rfl rfl) ?_
  refine ag rfl (ah rfl) ?_
  refine GB rf rf rf (fun hb=>ah rfl) ?_
  refine GB rf rf rf (fun hb=>nv (bT rfl hb) rfl) ?_
  refine ag rfl (dV rfl rfl) ?_
  refine ag rfl (ah rfl) ?_
  refine GB rf rf rf (fun hb=>ah rfl) ?_
  refine GB rf rf rf (fun hb=>kW (bT rfl hb) rfl) ?_
  refine ag rfl (dV rfl rfl) ?_
  refine ag rfl (ah rfl) ?_
  refine GB rf rf rf (fun hb=>ah rfl) ?_
  refine GB rf rf rf (fun hb=>ah rfl) ?_
  refine GB rf rf rf (fun hb=>p5 (bT rfl hb) (bT rfl hb) rfl) ?_
  refine GB rf rf rf (fun hb=>kW (bT rfl hb) rfl) ?_
  refine ag rfl (dV rfl rfl) ?_
  refine SL 2 rf ?_
  refine eS h rf (fun hc h=>?_) fun hc h=>?_
  ·
   refine SC 12 rf ?_
   have h:=sj h; subst h
   exact RV rf (rt rf rn) rf
  ·
   refine SC 10 rf ?_
   obtain ⟨El,AE,h⟩:=lT h
   refine LO (β:=Int × (Nat→Bool)) [1,3,4,5,6,7] [0,1] (fun (Ad,rY,wc)=>[(8, .int .i64 rY)]) (fun (Ad,rY,wc)=>[.cells b3 142 ((LA LB 64).enc wc), .cells b1 47 ct]) (fun (Ad,rY,wc)=>ec El Ad rY wc = some r) (n,((a0.bq.getD (Int.toNat cR) default) 0),eN) h rf rf rf ?_
   rintro Ad ⟨rY,wc⟩ h
   replace h:=lS AE h; obtain ⟨Ad,rfl,h⟩:=h
   refine SC 10 rf ?_
   refine eS h rf (fun hc h=>?_) fun hc h=>?_
   ·
    obtain ⟨oZ,h⟩:=cD h
    refine SC 8 rf ?_
    refine ag rfl (gB (m:=(Int.toNat rY)) rfl rfl (ay oZ).1 (ay oZ).2) ?_
    refine ag rfl (nx (aN.idx (L:=LB) (m:=64) (k:=1) ((Int.toNat rY)) (ay oZ).2 rfl) rfl) ?_
    refine SL 2 rf ?_
    refine eS h rf (fun hc h=>?_) fun hc h=>?_
    ·
     refine SC 17 rf ?_
     have h:=sj h; subst h
     exact RV rf (rt rf rn) rf
    ·
     obtain ⟨wT,h⟩:=cD h
     obtain ⟨oo,wN,h⟩:=cQ h
     refine SC 4 rf ?_
     refine ag rfl (gB (m:=(Int.toNat rY)) rfl rfl (ay wT).1 (ay wT).2) ?_
     refine W0 (dD (M:=LB) (aN.idx (L:=LB) (m:=64) (k:=1) ((Int.toNat rY)) (ay wT).2 rfl) true oo wN rfl rfl rfl rfl) ?_
     refine SL 8 rf ?_
     exact LN [0,1] (wr .i64 (rY + 1),oo) h rf rf rf
   ·
    refine SC 18 rf ?_
    exact LN [0,1] (wr .i64 (dS + ((a0.bq.getD (Int.toNat cR) default) 1)),wr .i64 (cR + 1),wc) h rf rf rf
 ·
  refine SC 8 rf ?_
  refine ag rfl (bG rfl (jb.int f0)) ?_
  refine SL 2 rf ?_
  refine GB rf rf rf (fun hb=>aH rfl) ?_
  refine GB rf rf rf (fun hb=>bG (bT rfl hb) (jb.int f0)) ?_
  refine GB rf rf rf (fun hb=>ah rfl) ?_
  refine GB rf rf rf (fun hb=>xw rfl (bT rfl hb) rfl) ?_
  refine GB rf rf rf (fun hb=>nw (bT rfl hb) (bT rfl hb)) ?_
  refine ag rfl (cM rfl rfl) ?_
  refine SL 4 rf ?_
  have h:=sj h; subst h
  exact RV rf (rt rf rn) rf
end Go.Proofs.Ytbalnnoofdkbaaa
namespace Go.Proofs.Ytbalnnoofdkbaaa
open Go Go.Bw
abbrev Rn:=bj
structure Can (l:List Rn):Prop where
  jc:∀y ∈ l,0 ≤ y.At∧1 ≤ y.N∧y.At + y.N ≤ 64
  pw:l.Pairwise fun y z=>y.At + y.N < z.At
def dZ (l:List Rn) (p:Int):Prop:=∃y ∈ l,y.At ≤ p∧p < y.At + y.N
def wg (at_ k:Int):Prop:=1 ≤ k∧0 ≤ at_∧at_ + k ≤ 64
instance (a k:Int):Decidable (wg a k):=by unfold wg; infer_instance
def BO (x:Int):Prop:=-9223372036854775808 ≤ x∧x ≤ 9223372036854775807
theorem Can.nil:Can []:=⟨by simp, .nil⟩
theorem vD:∀{l:List Rn} {lo:Int},Can l→(∀y ∈ l,lo ≤ y.At)→lo ≤ 65→(l.length:Int) * 2 ≤ 65 - lo
  | [],lo,_,_,h=>by simp; omega
  | y::r,lo,h,hl,_=>by
    obtain ⟨h1,h2⟩:=List.pairwise_cons.1 h.pw
    have hy:=h.jc y (by simp)
    have hy':=hl y (by simp)
    have:=vD (l:=r) (lo:=y.At + y.N + 1) ⟨fun z hz=>h.jc z (by simp [hz]),h2⟩ (fun z hz=>by have:=h1 z hz; omega) (by omega)
    simp only [List.length_cons]; omega
theorem Can.len {l:List Rn} (h:Can l):l.length ≤ 32:=by
  have:=vD (lo:=0) h (fun y hy=>(h.jc y hy).1) (by omega)
  omega
theorem Can.two {l:List Rn} (h:Can l) {y z:Rn} (hy:y ∈ l) (hz:z ∈ l):y = z∨y.At + y.N < z.At∨z.At + z.N < y.At:=by
  have:=h.pw
  clear h
  induction l with
  | nil=>simp at hy
  | cons x r ih =>
    obtain ⟨h1,h2⟩:=List.pairwise_cons.1 this
    rcases List.mem_cons.1 hy with rfl | hy' <;> rcases List.mem_cons.1 hz with rfl | Oh
    · exact .inl rfl
    · exact .inr (.inl (h1 z Oh))
    · exact .inr (.inr (h1 y hy'))
    · exact ih hy' Oh h2
theorem qY (p:Int):¬ dZ [] p:=by simp [dZ]
theorem pL {y:Rn} {r:List Rn} {p:Int}:dZ (y::r) p↔(y.At ≤ p∧p < y.At + y.N)∨dZ r p:=by simp [dZ]
theorem gm {l r:List Rn} {p:Int}:dZ (l++r) p↔dZ l p∨dZ r p:=by simp [dZ,or_and_right,exists_or]
theorem vm {l:List Rn} (h:Can l) {p:Int} (hp:dZ l p):0 ≤ p∧p < 64:=by
  obtain ⟨y,hy,h1,h2⟩:=hp
  have:=h.jc y hy
  omega
theorem Can.whole {l:List Rn} (h:Can l) {at_ k:Int} (hk:1 ≤ k) (hm:∀p,at_ ≤ p→p < at_ + k→dZ l p):∃y ∈ l,y.At ≤ at_∧at_ + k ≤ y.At + y.N:=by
  obtain ⟨y,hy,h1,h2⟩:=hm at_ (by omega) (by omega)
  refine ⟨y,hy,h1,?_⟩
  refine Int.not_lt.1 fun hlt=>?_
  obtain ⟨z,hz,h3,h4⟩:=hm (y.At + y.N) (by omega) (by omega)
  rcases h.two hy hz with rfl | h5 | h5
  · omega
  · omega
  · have:=h.jc z hz; omega
theorem all_eq {n:Nat} {l:List Rn} (hl:l.length ≤ 100) (hn:110 ≤ n):∃xs,fP n l = some xs∧xs.map Prod.snd = l:=by
  unfold fP
  have key:∀(m x:Nat),x ≤ l.length→l.length - x < m→∃xs,ef (fun Gq (eH:Int)=>cn (decide (eH < (l.length:Int))) (gu (dU eH l.length) <| lt ((l.getD (Int.toNat eH) default):bj) fun mh=>yl (eH,mh) <| Gq (wr .i64 (eH + 1))) (some [])) m (x:Int) = some xs∧xs.map Prod.snd = l.drop x:=by
    intro m
    induction m with
    | zero=>intro x _ h; omega
    | succ m ih =>
      intro x hx hm
      simp only [ef]
      by_cases hc:x < l.length
      · rw [aT (by simpa using hc),aM (cL (by omega) (by omega)),lt_eq,cA (by omega) (by omega)]
        obtain ⟨xs,h1,h2⟩:=ih (x + 1) (by omega) (by omega)
        have e:((x:Int) + 1) = ((x + 1:Nat):Int):=by omega
        rw [e,h1]
        refine ⟨_,rfl,?_⟩
        rw [List.map_cons,h2,List.drop_eq_getElem_cons hc,Int.toNat_natCast,List.getD,List.getElem?_eq_getElem hc]
        rfl
      · rw [aA (by simpa using hc)]
        exact ⟨[],rfl,by rw [List.drop_eq_nil_of_le (by omega)]; rfl⟩
  obtain ⟨xs,h1,h2⟩:=key n 0 (by omega) (by omega)
  exact ⟨xs,h1,by simpa using h2⟩
theorem CK (n:Nat) (r:cW):jg n r = some r.l:=rfl
theorem Ek {n:Nat} {at_ k:Int} (ha:BO at_) (hk:BO k):∃b,ko n ⟨at_,k⟩ = some b∧(b = true↔wg at_ k):=by
  obtain ⟨a1,a2⟩:=ha
  obtain ⟨k1,k2⟩:=hk
  refine ⟨_,rfl,?_⟩
  show ((decide (1 ≤ k) && decide (0 ≤ at_)) && decide (at_ ≤ wr .i64 (64 - k))) = true↔_
  unfold wg
  by_cases h:1 ≤ k
  · rw [cA (by omega) (by omega)]; simp; omega
  · simp [h]
theorem A3 {n:Nat} {y:Rn} (h:0 ≤ y.At∧1 ≤ y.N∧y.At + y.N ≤ 64):dG n y = some (y.At + y.N):=by
  unfold dG; rw [cA (by omega) (by omega)]
theorem Can.cut {l:List Rn} (h:Can l) {i:Nat} (hi:i < l.length) {left:List Rn} {at_ k:Int} (hk:1 ≤ k) (hin:l[i].At ≤ at_∧at_ + k ≤ l[i].At + l[i].N)
    (hl:Can left) (hm:∀p,dZ left p↔(l[i].At ≤ p∧p < l[i].At + l[i].N)∧¬ (at_ ≤ p∧p < at_ + k)) (hb:∀y ∈ left,l[i].At ≤ y.At∧y.At + y.N ≤ l[i].At + l[i].N) :
    Can (l.take i++left++l.drop (i + 1))∧∀p,dZ (l.take i++left++l.drop (i + 1)) p↔dZ l p∧¬ (at_ ≤ p∧p < at_ + k):=by
  have e:l = l.take i++l[i]::l.drop (i + 1):=by rw [← List.drop_eq_getElem_cons hi,List.take_append_drop]
  generalize hy:l[i] = y at *
  have Aw:=h.pw
  rw [e] at Aw
  obtain ⟨q1,q2,q3⟩:=List.pairwise_append.1 Aw
  obtain ⟨q4,q5⟩:=List.pairwise_cons.1 q2
  have Dw:y ∈ l:=by rw [e]; simp
  have HS:=h.jc y Dw
  refine ⟨⟨?_,?_⟩,fun p=>?_⟩
  · intro z hz
    rcases List.mem_append.1 hz with hz | hz
    · rcases List.mem_append.1 hz with hz | hz
      · exact h.jc z (List.mem_of_mem_take hz)
      · exact hl.jc z hz
    · exact h.jc z (List.mem_of_mem_drop hz)
  · refine List.pairwise_append.2 ⟨List.pairwise_append.2 ⟨q1,hl.pw,fun a ha b hb'=>?_⟩,q5,fun a ha b hb'=>?_⟩
    · have:=q3 a ha y (by simp); have:=hb b hb'; omega
    · rcases List.mem_append.1 ha with ha | ha
      · exact q3 a ha b (by simp [hb'])
      · have:=q4 b hb'; have:=hb a ha; omega
  · have hp:dZ l p↔dZ (l.take i) p∨(y.At ≤ p∧p < y.At + y.N)∨dZ (l.drop (i + 1)) p:=by
      conv=>lhs; rw [e,gm,pL]
    rw [gm,gm,hm p,hp]
    have t1:dZ (l.take i) p→p < y.At:=fun ⟨z,hz,h1,h2⟩=>by have:=q3 z hz y (by simp); omega
    have t2:dZ (l.drop (i + 1)) p→y.At + y.N < p:=fun ⟨z,hz,h1,h2⟩=>by have:=q4 z hz; omega
    constructor
    · rintro ((c | ⟨c1,c2⟩) | c)
      · have:=t1 c; exact ⟨.inl c,by omega⟩
      · exact ⟨.inr (.inl c1),c2⟩
      · have:=t2 c; exact ⟨.inr (.inr c),by omega⟩
    · rintro ⟨c | c | c,d⟩
      · exact .inl (.inl c)
      · exact .inl (.inr ⟨c,d⟩)
      · exact .inr c
end Go.Proofs.Ytbalnnoofdkbaaa
namespace Go.Proofs.Ytbalnnoofdkbaaa
open Go Go.Bw
structure GI (l:List Rn) (at_ k:Int) (pre rest:List Rn) (put:Bool) (out:List Rn) (x:Rn):Prop where
  e:l = pre++rest
  free:∀p,dZ pre p→¬ (at_ ≤ p∧p < at_ + k)
  lo:x.At ≤ at_∧(x.At = at_∨∃z ∈ pre,z.At + z.N = at_)
  hi:at_ + k ≤ x.At + x.N∧(x.At + x.N = at_ + k∨∃z ∈ pre,z.At + z.N = x.At + x.N)
  jc:0 ≤ x.At∧1 ≤ x.N∧x.At + x.N ≤ 64
  off:put = false→Can (out++[x])∧(∀z ∈ out,z ∈ pre)∧∀p,dZ (out++[x]) p↔dZ pre p∨(at_ ≤ p∧p < at_ + k)
  on:put = true→Can out∧(∀z ∈ out,z ∈ pre∨z = x)∧(∃z ∈ pre,x.At + x.N < z.At)∧∀p,dZ out p↔dZ pre p∨(at_ ≤ p∧p < at_ + k)
theorem jU {l:List Rn} {y:Rn} (h:Can l) (hy:0 ≤ y.At∧1 ≤ y.N∧y.At + y.N ≤ 64) (ha:∀z ∈ l,z.At + z.N < y.At):Can (l++[y]):=
  ⟨fun z hz=>by
    rcases List.mem_append.1 hz with hz | hz
    · exact h.jc z hz
    · rw [List.mem_singleton.1 hz]; exact hy,
   List.pairwise_append.2 ⟨h.pw,List.pairwise_singleton _ _,fun a Qr b hb=>by rw [List.mem_singleton.1 hb]; exact ha a Qr⟩⟩
theorem Can.init {l:List Rn} {y:Rn} (h:Can (l++[y])):Can l:=⟨fun z hz=>h.jc z (by simp [hz]),(List.pairwise_append.1 h.pw).1⟩
theorem Can.last {l:List Rn} {y:Rn} (h:Can (l++[y])):∀z ∈ l,z.At + z.N < y.At:=fun z hz=>(List.pairwise_append.1 h.pw).2.2 z hz y (by simp)
theorem fQ {y:Rn} {p:Int}:dZ [y] p↔y.At ≤ p∧p < y.At + y.N:=by rw [pL]; simp [dZ]
def Jk (r' : cW) (g:Bool) (l:List Rn) (r:cW) (at_ k:Int):Prop:=
  (g = true↔∀p,at_ ≤ p→p < at_ + k→¬ dZ l p)∧(g = false→r' = r)∧(g = true→Can r'.l∧∀p,dZ r'.l p↔dZ l p∨(at_ ≤ p∧p < at_ + k))
theorem CF {n:Nat} {r:cW} {l:List Rn} (hl:Can l) {at_ k:Int} (ho:wg at_ k):∀(xs:List (Int × Rn)) (pre:List Rn) (put:Bool) (out:List Rn) (x:Rn),GI l at_ k pre (xs.map Prod.snd) put out x →
    ∃r' g,qq (fun (Jy:Int × bj) Ce (gR:Bool) (fO:(List bj)) (ez:bj) =>
      lt (Jy.1:Int) fun uV =>
      lt (Jy.2:bj) fun pH =>
      bd (dG n pH) fun tF =>
      cn (decide (tF < ez.At)) (
      gu (lE fO.length 1 16) <|
      lt (fO++([pH]):List bj) fun mj =>
      Ce gR mj ez) (
      bd (dG n ez) fun zE =>
      cn (decide (zE < pH.At)) (
      lt (fun (tE:Bool) (nM:(List bj)) =>
      gu (lE nM.length 1 16) <|
      lt (nM++([pH]):List bj) fun uU =>
      Ce tE uU ez) fun Du =>
      cn ((!gR)) (
      gu (lE fO.length 1 16) <|
      lt (fO++([ez]):List bj) fun om =>
      Du true om) (
      Du gR fO)) (
      bd (dG n pH) fun xG =>
      cn ((xG == ez.At)) (
      lt ({ At:=pH.At,N:=wr .i64 (pH.N + ez.N) }:bj) fun Dg =>
      Ce gR fO Dg) (
      bd (dG n ez) fun yt =>
      cn ((pH.At == yt)) (
      lt ({ ez with N:=wr .i64 (ez.N + pH.N) }:bj) fun Gl =>
      Ce gR fO Gl) (
      some (r,false)))))) (fun (gR:Bool) (fO:(List bj)) (ez:bj) =>
      cn ((!gR)) (
      gu (lE fO.length 1 16) <|
      lt (fO++([ez]):List bj) fun tD =>
      lt ({ l:=tD }:cW) fun DV =>
      some (DV,true)) (
      lt ({ l:=fO }:cW) fun zn =>
      some (zn,true))) xs put out x = some (r',g)∧Jk r' g l r at_ k:=by
  intro xs
  induction xs with
  | nil =>
    intro pre put out x h
    have e:l = pre:=by have:=h.e; simpa using this
    subst e
    show ∃r' g,cn (!put) (gu (lE out.length 1 16) <| some ((⟨out++[x]⟩ : cW),true)) (some ((⟨out⟩ : cW),true)) = some (r',g)∧_
    have hfree:∀p,at_ ≤ p→p < at_ + k→¬ dZ l p:=fun p h1 h2 hm=>h.free p hm ⟨h1,h2⟩
    cases put with
    | false =>
      obtain ⟨c1,c2,c3⟩:=h.off rfl
      have:=c1.init.len
      rw [aT (b:=!false) rfl,aM (kV (by omega) (by omega))]
      exact ⟨_,true,rfl,⟨fun _=>hfree,fun _=>rfl⟩,fun h=>(by cases h),fun _=>⟨c1,c3⟩⟩
    | true =>
      obtain ⟨c1,c2,c3,c4⟩:=h.on rfl
      rw [aA (b:=!true) rfl]
      exact ⟨_,true,rfl,⟨fun _=>hfree,fun _=>rfl⟩,fun h=>(by cases h),fun _=>⟨c1,c4⟩⟩
  | cons q xs ih =>
    obtain ⟨qi,y⟩:=q
    intro pre put out x h
    have he:l = (pre++[y])++xs.map Prod.snd:=by rw [h.e]; simp
    have Dw:y ∈ l:=by rw [h.e]; simp
    have HS:=hl.jc y Dw
    have hpre:∀z ∈ pre,z.At + z.N < y.At:=fun z hz=>by
      have Aw:=hl.pw
      rw [he] at Aw
      exact (List.pairwise_append.1 (List.pairwise_append.1 Aw).1).2.2 z hz y (by simp)
    have Lu:∀z ∈ pre,0 ≤ z.At∧1 ≤ z.N∧z.At + z.N ≤ 64:=fun z hz=>hl.jc z (by rw [h.e]; simp [hz])
    obtain ⟨o1,o2,o3⟩:=ho
    obtain ⟨Km,La⟩:=h.lo
    obtain ⟨MJ,zw⟩:=h.hi
    have HT:=h.jc
    have ey:dG n y = some (y.At + y.N):=A3 HS
    have ex:dG n x = some (x.At + x.N):=A3 HT
    have hfree:(∀p,y.At ≤ p→p < y.At + y.N→¬ (at_ ≤ p∧p < at_ + k))→∀p,dZ (pre++[y]) p→¬ (at_ ≤ p∧p < at_ + k):=fun hy p hp=>by
      rcases gm.1 hp with hp | hp
      · exact h.free p hp
      · obtain ⟨h1,h2⟩:=fQ.1 hp; exact hy p h1 h2
    have rz:∀{z},z ∈ pre→z ∈ pre++[y]:=fun hz=>by simp [hz]
    have hlo:x.At = at_∨∃z ∈ pre++[y],z.At + z.N = at_:=La.imp id fun ⟨z,hz,e⟩=>⟨z,rz hz,e⟩
    have hhi:x.At + x.N = at_ + k∨∃z ∈ pre++[y],z.At + z.N = x.At + x.N:=zw.imp id fun ⟨z,hz,e⟩=>⟨z,rz hz,e⟩
    have It:∀p,dZ (pre++[y]) p↔dZ pre p∨(y.At ≤ p∧p < y.At + y.N):=fun p=>by rw [gm,fQ]
    have hput:put = true→x.At + x.N < y.At:=fun hp=>by obtain ⟨z,hz,h1⟩:=(h.on hp).2.2.1; have:=hpre z hz; have:=Lu z hz; omega
    simp only [qq]
    dsimp only [lt]
    rw [az ey]
    by_cases c1:y.At + y.N < x.At
    · have hf:put = false:=by
        cases put with
        | false=>rfl
        | true=>have:=hput rfl; omega
      subst hf
      obtain ⟨d1,d2,d3⟩:=h.off rfl
      have hlen:=d1.init.len
      rw [aT (by simpa using c1),aM (kV (by omega) (by omega))]
      refine ih (pre++[y]) false (out++[y]) x ⟨he,hfree fun p h1 h2=>by omega,⟨Km,hlo⟩,⟨MJ,hhi⟩,HT,fun _=>⟨?_,?_,fun p=>?_⟩,fun h=>by cases h⟩
      · refine jU (jU d1.init HS fun z hz=>hpre z (d2 z hz)) HT fun z hz=>?_
        rcases List.mem_append.1 hz with hz | hz
        · exact d1.last z hz
        · rw [List.mem_singleton.1 hz]; exact c1
      · intro z hz
        rcases List.mem_append.1 hz with hz | hz
        · exact rz (d2 z hz)
        · rw [List.mem_singleton.1 hz]; simp
      · have:=d3 p
        rw [gm,fQ] at this ⊢
        rw [gm,fQ,It]
        constructor
        · rintro ((c | c) | c)
          · rcases this.1 (.inl c) with c | c
            · exact .inl (.inl c)
            · exact .inr c
          · exact .inl (.inr c)
          · rcases this.1 (.inr c) with c | c
            · exact .inl (.inl c)
            · exact .inr c
        · rintro ((c | c) | c)
          · rcases this.2 (.inl c) with c | c
            · exact .inl (.inl c)
            · exact .inr c
          · exact .inl (.inr c)
          · rcases this.2 (.inr c) with c | c
            · exact .inl (.inl c)
            · exact .inr c
    rw [aA (by simpa using c1),az ex]
    by_cases c2:x.At + x.N < y.At
    · rw [aT (by simpa using c2)]
      have hfr:=hfree fun p h1 h2=>by omega
      cases put with
      | false =>
        obtain ⟨d1,d2,d3⟩:=h.off rfl
        have hlen:=d1.init.len
        have AB:=d1.len
        rw [aT (b:=!false) rfl,aM (kV (by omega) (by omega)),aM (kV (by omega) (by omega))]
        refine ih (pre++[y]) true (out++[x]++[y]) x ⟨he,hfr,⟨Km,hlo⟩,⟨MJ,hhi⟩,HT,fun h=>(by cases h),fun _=>⟨?_,?_,⟨y,by simp,c2⟩,fun p=>?_⟩⟩
        · refine jU d1 HS fun z hz=>?_
          rcases List.mem_append.1 hz with hz | hz
          · exact hpre z (d2 z hz)
          · rw [List.mem_singleton.1 hz]; exact c2
        · intro z hz
          simp only [List.mem_append,List.mem_singleton] at hz
          rcases hz with (hz | hz) | hz
          · exact .inl (rz (d2 z hz))
          · exact .inr hz
          · exact .inl (by simp [hz])
        · rw [gm,fQ,d3 p,It]
          constructor
          · rintro ((c | c) | c)
            · exact .inl (.inl c)
            · exact .inr c
            · exact .inl (.inr c)
          · rintro ((c | c) | c)
            · exact .inl (.inl c)
            · exact .inr c
            · exact .inl (.inr c)
      | true =>
        obtain ⟨d1,d2,d3,d4⟩:=h.on rfl
        have hlen:=d1.len
        rw [aA (b:=!true) rfl,aM (kV (by omega) (by omega))]
        refine ih (pre++[y]) true (out++[y]) x ⟨he,hfr,⟨Km,hlo⟩,⟨MJ,hhi⟩,HT,fun h=>(by cases h),fun _=>⟨?_,?_,⟨y,by simp,c2⟩,fun p=>?_⟩⟩
        · refine jU d1 HS fun z hz=>?_
          rcases d2 z hz with hz | rfl
          · exact hpre z hz
          · exact c2
        · intro z hz
          rcases List.mem_append.1 hz with hz | hz
          · exact (d2 z hz).imp rz id
          · exact .inl (by simp [List.mem_singleton.1 hz])
        · rw [gm,fQ,d4 p,It]
          constructor
          · rintro ((c | c) | c)
            · exact .inl (.inl c)
            · exact .inr c
            · exact .inl (.inr c)
          · rintro ((c | c) | c)
            · exact .inl (.inl c)
            · exact .inr c
            · exact .inl (.inr c)
    have hf:put = false:=by
      cases put with
      | false=>rfl
      | true=>have:=hput rfl; omega
    subst hf
    obtain ⟨d1,d2,d3⟩:=h.off rfl
    rw [aA (by simpa using c2),az ey]
    by_cases c3:y.At + y.N = x.At
    · rw [aT (by simpa using c3),cA (by omega) (by omega)]
      have OC:x.At = at_:=by
        rcases La with e | ⟨z,hz,e⟩
        · exact e
        · have:=hpre z hz; omega
      refine ih (pre++[y]) false out ⟨y.At,y.N + x.N⟩ ⟨he,hfree fun p h1 h2=>by omega,⟨by dsimp only; omega, .inr ⟨y,by simp,by omega⟩⟩,⟨by dsimp only; omega,?_⟩,by dsimp only; omega,fun _=>⟨?_,fun z hz=>rz (d2 z hz),fun p=>?_⟩,fun h=>by cases h⟩
      · rcases hhi with e | ⟨z,hz,e⟩
        · exact .inl (by dsimp only; omega)
        · exact .inr ⟨z,hz,by dsimp only; omega⟩
      · exact jU d1.init (by dsimp only; omega) fun z hz=>hpre z (d2 z hz)
      · have:=d3 p
        rw [gm,fQ] at this ⊢
        rw [It]
        dsimp only
        constructor
        · rintro (c | c)
          · rcases this.1 (.inl c) with c | c
            · exact .inl (.inl c)
            · exact .inr c
          · by_cases hp:p < x.At
            · exact .inl (.inr (by omega))
            · rcases this.1 (.inr (by omega)) with c | c
              · exact .inl (.inl c)
              · exact .inr c
        · rintro ((c | c) | c)
          · rcases this.2 (.inl c) with c | c
            · exact .inl c
            · exact .inr (by omega)
          · exact .inr (by omega)
          · exact .inr (by omega)
    rw [aA (by simpa using c3),az ex]
    by_cases c4:y.At = x.At + x.N
    · rw [aT (by simpa using c4),cA (by omega) (by omega)]
      refine ih (pre++[y]) false out ⟨x.At,x.N + y.N⟩ ⟨he,hfree fun p h1 h2=>by omega,⟨Km,hlo⟩,⟨by dsimp only; omega, .inr ⟨y,by simp,by dsimp only; omega⟩⟩,by dsimp only; omega,fun _=>⟨?_,fun z hz=>rz (d2 z hz),fun p=>?_⟩,fun h=>by cases h⟩
      · exact jU d1.init (by dsimp only; omega) fun z hz=>d1.last z hz
      · have:=d3 p
        rw [gm,fQ] at this ⊢
        rw [It]
        dsimp only
        constructor
        · rintro (c | c)
          · rcases this.1 (.inl c) with c | c
            · exact .inl (.inl c)
            · exact .inr c
          · by_cases hp:p < x.At + x.N
            · rcases this.1 (.inr (by omega)) with c | c
              · exact .inl (.inl c)
              · exact .inr c
            · exact .inl (.inr (by omega))
        · rintro ((c | c) | c)
          · rcases this.2 (.inl c) with c | c
            · exact .inl c
            · exact .inr (by omega)
          · exact .inr (by omega)
          · exact .inr (by omega)
    rw [aA (by simpa using c4)]
    refine ⟨r,false,rfl,⟨fun h=>(by cases h),fun hno=>?_⟩,fun _=>rfl,fun h=>(by cases h)⟩
    have g1:y.At < at_ + k:=by
      rcases zw with e | ⟨z,hz,e⟩
      · omega
      · have:=hpre z hz; omega
    have g2:at_ < y.At + y.N:=by
      rcases La with e | ⟨z,hz,e⟩
      · omega
      · have:=hpre z hz; omega
    by_cases g3:at_ ≤ y.At
    · exact absurd ⟨y,Dw,by omega,by omega⟩ (hno y.At g3 g1)
    · exact absurd ⟨y,Dw,by omega,by omega⟩ (hno at_ (by omega) (by omega))
theorem CG {n:Nat} (hn:110 ≤ n) {r:cW} (hr:Can r.l) {at_ k:Int} (ha:BO at_) (hk:BO k) :
    ∃r' g,g6 n r at_ k = some (r',g)∧(g = true↔wg at_ k∧∀p,at_ ≤ p→p < at_ + k→¬ dZ r.l p)∧(g = false→r' = r)∧(g = true→Can r'.l∧∀p,dZ r'.l p↔dZ r.l p∨(at_ ≤ p∧p < at_ + k)):=by
  unfold g6
  rw [lt_eq]
  obtain ⟨b,hb,hb'⟩:=Ek (n:=n) ha hk
  rw [az hb]
  cases b with
  | false=>exact ⟨r,false,rfl,⟨fun h=>(by cases h),fun h=>hb'.2 h.1⟩,fun _=>rfl,fun h=>(by cases h)⟩
  | true =>
    have ho:=hb'.1 rfl
    obtain ⟨o1,o2,o3⟩:=ho
    rw [aA (b:=!true) rfl,az (CK n r)]
    obtain ⟨xs,h1,h2⟩:=all_eq (n:=n) (l:=r.l) (by have:=hr.len; omega) hn
    rw [az h1]
    obtain ⟨r',g,h3,h4,h5,h6⟩:=CF (n:=n) (r:=r) hr (at_:=at_) (k:=k) ⟨o1,o2,o3⟩ xs [] false [] ⟨at_,k⟩ ⟨by simpa using h2.symm,fun p hp=>absurd hp (qY p),⟨Int.le_refl _, .inl rfl⟩,⟨Int.le_refl _, .inl rfl⟩,⟨o2,o1,o3⟩,
      fun _=>⟨jU Can.nil ⟨o2,o1,o3⟩ (by simp),by simp,fun p=>by rw [List.nil_append,fQ]; simp [qY]⟩,fun h=>by cases h⟩
    exact ⟨r',g,h3,⟨fun hg=>⟨⟨o1,o2,o3⟩,h4.1 hg⟩,fun hg=>h4.2 hg.2⟩,h5,h6⟩
end Go.Proofs.Ytbalnnoofdkbaaa
namespace Go.Proofs.Ytbalnnoofdkbaaa
open Go Go.Bw
def ov (y:Rn) (i:Int):Int:=if i ≤ y.At then 0 else if y.At + y.N ≤ i then y.N else i - y.At
def mL (l:List Rn) (i:Int):Int:=(l.map fun y=>ov y i).sum
theorem mu (y:Rn) (l:List Rn) (i:Int):mL (y::l) i = ov y i + mL l i:=rfl
theorem kG:∀{l:List Rn},Can l→mL l 0 = 0
  | [],_=>rfl
  | y::r,h=>by
    have hy:=h.jc y (by simp)
    rw [mu,kG ⟨fun z hz=>h.jc z (by simp [hz]),(List.pairwise_cons.1 h.pw).2⟩]
    unfold ov; rw [if_pos hy.1]; rfl
theorem kH:∀{l:List Rn},Can l→∀i:Int,(dZ l i→mL l (i + 1) = mL l i + 1)∧(¬ dZ l i→mL l (i + 1) = mL l i)
  | [],_,i=>⟨fun h=>absurd h (qY i),fun _=>rfl⟩
  | y::r,h,i=>by
    obtain ⟨h1,h2⟩:=List.pairwise_cons.1 h.pw
    have hy:=h.jc y (by simp)
    obtain ⟨i1,i2⟩:=kH (l:=r) ⟨fun z hz=>h.jc z (by simp [hz]),h2⟩ i
    rw [mu,mu,pL]
    by_cases c:y.At ≤ i∧i < y.At + y.N
    · have hn:¬ dZ r i:=fun ⟨z,hz,a,b⟩=>by have:=h1 z hz; omega
      rw [i2 hn]
      refine ⟨fun _=>?_,fun hh=>absurd (.inl c) hh⟩
      unfold ov
      rw [if_neg (by omega)]
      split <;> split <;> omega
    · have e:ov y (i + 1) = ov y i:=by
        unfold ov
        (repeat' split) <;> omega
      rw [e]
      refine ⟨fun hh=>?_,fun hh=>?_⟩
      · rw [i1 (hh.resolve_left c)]; omega
      · rw [i2 fun hm=>hh (.inr hm)]
def eP (l:List Rn):Int:=(l.map fun y=>y.N).sum
theorem gk (y:Rn) (l:List Rn):eP (y::l) = y.N + eP l:=rfl
theorem lI:∀{l:List Rn},Can l→mL l 64 = eP l
  | [],_=>rfl
  | y::r,h=>by
    have hy:=h.jc y (by simp)
    rw [mu,gk,lI ⟨fun z hz=>h.jc z (by simp [hz]),(List.pairwise_cons.1 h.pw).2⟩]
    unfold ov; rw [if_neg (by omega),if_pos hy.2.2]
theorem u5:∀{l:List Rn} {lo:Int},Can l→(∀y ∈ l,lo ≤ y.At)→lo ≤ 65→0 ≤ eP l∧eP l ≤ 65 - lo
  | [],lo,_,_,h=>by simp [eP]; omega
  | y::r,lo,h,hl,_=>by
    obtain ⟨h1,h2⟩:=List.pairwise_cons.1 h.pw
    have hy:=h.jc y (by simp)
    have hy':=hl y (by simp)
    have:=u5 (l:=r) (lo:=y.At + y.N + 1) ⟨fun z hz=>h.jc z (by simp [hz]),h2⟩ (fun z hz=>by have:=h1 z hz; omega) (by omega)
    rw [gk]; omega
theorem vB {n:Nat}:∀(xs:List (Int × Rn)) (s:Int),0 ≤ s→s ≤ 1000000 - eP (xs.map Prod.snd)→(∀e ∈ xs,1 ≤ e.2.N) →
    fG (fun (CM:Int × bj) Ci (eN:Int) =>
      lt (CM.1:Int) fun j7 =>
      lt (CM.2:bj) fun fY =>
      lt (wr .i64 (eN + fY.N):Int) fun gi =>
      Ci gi) (fun (eN:Int) =>
      some eN) xs s = some (s + eP (xs.map Prod.snd))
  | [],s,_,_,_=>by show some s = _; simp [eP]
  | e::xs,s,h0,h1,h2=>by
    have:=h2 e (by simp)
    have hs:0 ≤ eP (xs.map Prod.snd):=by
      clear h1 h0
      have h3:∀e ∈ xs,1 ≤ e.2.N:=fun e he=>h2 e (by simp [he])
      clear h2 this
      induction xs with
      | nil=>simp [eP]
      | cons a xs ih=>have:=h3 a (by simp); have:=ih fun e he=>h3 e (by simp [he]); rw [List.map_cons,gk]; omega
    rw [List.map_cons,gk] at h1 ⊢
    show fG _ _ xs (wr .i64 (s + e.2.N)) = _
    rw [cA (by omega) (by omega),vB (n:=n) xs (s + e.2.N) (by omega) (by omega) (fun e he=>h2 e (by simp [he]))]
    congr 1; omega
def mm (a:Nat→Int):Rn:=⟨a 0,a 1⟩
structure RS (r:cW) (w:Nat→Bool):Prop where
  can:Can r.l
  mem:∀p:Nat,p < 64→(w p = true↔dZ r.l p)
theorem RS.all {r:cW} {w:Nat→Bool} (h:RS r w) (p:Int):dZ r.l p↔0 ≤ p∧p < 64∧w p.toNat = true:=by
  constructor
  · intro hm
    obtain ⟨a,b⟩:=vm h.can hm
    exact ⟨a,b,(h.mem p.toNat (by omega)).2 (by rw [Int.toNat_of_nonneg a]; exact hm)⟩
  · rintro ⟨a,b,d⟩
    have:=(h.mem p.toNat (by omega)).1 d
    rwa [Int.toNat_of_nonneg a] at this
theorem RS.take {r r' : cW} {w w' : Nat→Bool} {a k:Int} (h:RS r w) (hc:Can r'.l) (hm:∀p,dZ r'.l p↔dZ r.l p∧¬ (a ≤ p∧p < a + k)) (hw:∀p:Nat,w' p = if a ≤ (p:Int)∧(p:Int) < a + k then false else w p):RS r' w':=
  ⟨hc,fun p hp=>by
    rw [hw p,hm]
    by_cases c:a ≤ (p:Int)∧(p:Int) < a + k
    · rw [if_pos c]; simp [c]
    · rw [if_neg c,h.mem p hp]; exact ⟨fun x=>⟨x,c⟩,fun x=>x.1⟩⟩
end Go.Proofs.Ytbalnnoofdkbaaa
namespace Go.Proofs.Ytbalnnoofdkbaaa
open Go Go.Bw
theorem yy {l m x:List Rn} (hl:Can l) (hm:Can m) (hx:Can x) (h1:∀p,dZ l p↔dZ m p∨dZ x p) (h2:∀p,dZ m p→¬ dZ x p):eP l = eP m + eP x:=by
  have key:∀i:Nat,mL l i = mL m i + mL x i:=by
    intro i
    induction i with
    | zero=>rw [Int.natCast_zero,kG hl,kG hm,kG hx]; rfl
    | succ i ih =>
      have e:((i + 1:Nat):Int) = (i:Int) + 1:=by omega
      rw [e]
      obtain ⟨a1,a2⟩:=kH hl i
      obtain ⟨b1,b2⟩:=kH hm i
      obtain ⟨c1,c2⟩:=kH hx i
      by_cases c:dZ m i
      · rw [a1 ((h1 _).2 (.inl c)),b1 c,c2 (h2 _ c),ih]; omega
      · by_cases d:dZ x i
        · rw [a1 ((h1 _).2 (.inr d)),b2 c,c1 d,ih]; omega
        · rw [a2 (fun h=>((h1 _).1 h).elim c d),b2 c,c2 d,ih]
  have:=key 64
  rw [show ((64:Nat):Int) = 64 from rfl,lI hl,lI hm,lI hx] at this
  exact this
theorem CQ {a k:Int} (h:wg a k):Can [(⟨a,k⟩ : Rn)]:=jU (l:=[]) Can.nil (by unfold wg at h; exact ⟨h.2.1,h.1,h.2.2⟩) (by simp)
structure OW (first r:List Rn) (t:List Int):Prop where
  can:Can r
  nd:t.Nodup
  mem:∀p,dZ first p↔dZ r p∨p ∈ t
  apart:∀p,p ∈ t→¬ dZ r p
theorem nH:∀(k:Nat) {t:List Int},t.Nodup→(∀p ∈ t,0 ≤ p∧p < (k:Int))→t.length ≤ k
  | 0,[],_,_=>Nat.le_refl _
  | 0,x::t,_,h=>by have:=h x (by simp); omega
  | k + 1,t,hn,h=>by
    by_cases hk:(k:Int) ∈ t
    · have h1:=nH k (hn.erase (k:Int)) fun x hx=>by
        have h2:=h x (List.mem_of_mem_erase hx)
        have h3:x ≠ k:=fun e=>by subst e; exact (List.Nodup.not_mem_erase hn) hx
        omega
      rw [List.length_erase_of_mem hk] at h1
      omega
    · have h1:=nH k hn fun x hx=>by
        have h2:=h x hx
        have h3:x ≠ k:=fun e=>hk (e ▸ hx)
        omega
      omega
theorem OW.jc {first r:List Rn} {t:List Int} (hf:Can first) (h:OW first r t) {p:Int} (hp:p ∈ t):0 ≤ p∧p < 64:=vm hf ((h.mem p).2 (.inr hp))
theorem OW.len {first r:List Rn} {t:List Int} (hf:Can first) (h:OW first r t):t.length ≤ 64:=nH 64 h.nd fun p hp=>h.jc hf hp
end Go.Proofs.Ytbalnnoofdkbaaa
namespace Go.Proofs.Ytbalnnoofdkbaaa
open Go Go.Bw
theorem xJ {l:List (Nat→Int)} {i:Nat} (h:i < l.length):mm (l.getD i default) = (l.map mm)[i]'(by rw [List.length_map]; exact h):=by
  rw [List.getD,List.getElem?_eq_getElem h,List.getElem_map]; rfl
theorem yB {n:Nat} (hn:100 ≤ n) {e:cN} {x:gL} (hl:x.bq.length ≤ 90) (h1:e.bq = x.bq.map mm) (h2:e.og = x.og):kP n e x = some true:=by
  unfold kP
  have hlen:e.bq.length = x.bq.length:=by rw [h1,List.length_map]
  rw [aA (by simp [hlen,h2])]
  refine gn (fun (i:Int)=>0 ≤ i∧i ≤ e.bq.length) (fun i=>((e.bq.length:Int) - i).toNat) (fun o=>o = some true) ?_ n 0 ⟨by omega,by omega⟩ (by omega)
  rintro kk i ⟨i0,i1⟩ ih
  obtain ⟨i,rfl⟩:=Int.eq_ofNat_of_zero_le i0
  by_cases c:i < e.bq.length
  · have hg:e.bq.getD (Int.toNat (i:Int)) default = mm (x.bq.getD (Int.toNat (i:Int)) default):=by
      rw [Int.toNat_natCast,xJ (show i < x.bq.length by omega),List.getD,List.getElem?_eq_getElem c]
      simp [h1]
    have b1:dU (i:Int) e.bq.length = true:=cL (by omega) (by omega)
    have b2:dU (i:Int) x.bq.length = true:=cL (by omega) (by omega)
    rw [aT (by simpa using c),aM b1,aM b2,b1,b2,aM (by simp),aM (by simp),hg,aA (by simp [mm]),cA (by omega) (by omega)]
    exact ih _ ⟨by omega,by omega⟩ (by omega)
  · rw [aA (by simpa using c)]
def DH:Int→List Rn→List (Int × Rn)
  | _,[]=>[]
  | b,y::r=>(b,y)::DH (b + 32 * y.N) r
def qR (l:List Rn):Prop:=∀y ∈ l,1 ≤ y.N
theorem lJ:∀{l:List Rn},qR l→0 ≤ eP l
  | [],_=>by simp [eP]
  | y::r,h=>by
    have:=h y (by simp)
    have:=lJ (l:=r) fun z hz=>h z (by simp [hz])
    rw [gk]; omega
theorem y6 {n:Nat} {e:cN} (hn:e.bq.length < n) (hl:e.bq.length ≤ 1000) (hp:qR e.bq) (hs:eP e.bq ≤ 1000):eE n e = some (DH 0 e.bq):=by
  unfold eE
  have key:∀(m i:Nat) (b:Int),i ≤ e.bq.length→e.bq.length - i < m→0 ≤ b→b + 32 * eP (e.bq.drop i) ≤ 100000→ec (fun Lq (bZ:Int) (gV:Int) =>
      cn (decide (gV < (e.bq.length:Int))) (
      gu (dU gV e.bq.length) <|
      lt ((e.bq.getD (Int.toNat gV) default):bj) fun ez =>
      yl (bZ,ez) <|
      Lq (wr .i64 (bZ + (wr .i64 (ez.N * 32)))) (wr .i64 (gV + 1))) (
      some [])) m b (i:Int) = some (DH b (e.bq.drop i)):=by
    intro m
    induction m with
    | zero=>intro i b _ h; omega
    | succ m ih =>
      intro i b hi hm hb L7
      simp only [ec]
      by_cases c:i < e.bq.length
      · have hg:e.bq.getD (Int.toNat (i:Int)) default = e.bq[i]:=by rw [Int.toNat_natCast,List.getD,List.getElem?_eq_getElem c]; rfl
        have hy:=hp _ (List.getElem_mem c)
        have hd:e.bq.drop i = e.bq[i]::e.bq.drop (i + 1):=List.drop_eq_getElem_cons c
        rw [hd,gk] at L7
        have hr:0 ≤ eP (e.bq.drop (i + 1)):=lJ fun z hz=>hp z (List.mem_of_mem_drop hz)
        rw [aT (by simpa using c),aM (cL (by omega) (by omega)),lt_eq,hg,hd]
        rw [cA (x:=e.bq[i].N * 32) (by omega) (by omega),cA (x:=b + e.bq[i].N * 32) (by omega) (by omega),cA (x:=(i:Int) + 1) (by omega) (by omega)]
        have e1:((i:Int) + 1) = ((i + 1:Nat):Int):=by omega
        rw [e1,ih (i + 1) (b + e.bq[i].N * 32) (by omega) (by omega) (by omega) (by omega)]
        show some ((b,e.bq[i])::DH (b + e.bq[i].N * 32) (e.bq.drop (i + 1))) = some ((b,e.bq[i])::DH (b + 32 * e.bq[i].N) (e.bq.drop (i + 1)))
        rw [Int.mul_comm]
      · rw [aA (by simpa using c),List.drop_eq_nil_of_le (by omega)]; rfl
  have:=key n 0 0 (by omega) (by omega) (by omega) (by rw [List.drop_zero]; omega)
  simpa using this
theorem qE:∀(l:List Rn) (b:Int),(DH b l).map Prod.snd = l
  | [],_=>rfl
  | y::r,b=>by rw [DH,List.map_cons,qE r]
theorem z5 {n:Nat} {e:cN} (hn:e.bq.length < n) (hl:e.bq.length ≤ 1000) (hp:qR e.bq) (hs:eP e.bq ≤ 1000):fj n e = some (eP e.bq):=by
  unfold fj
  rw [az (show fU n e = some e from rfl),az (y6 hn hl hp hs)]
  have h0:=lJ hp
  refine (vB (n:=n) (DH 0 e.bq) 0 (by omega) (by rw [qE]; omega) fun q hq=>hp q.2 (by rw [← qE e.bq 0]; exact List.mem_map_of_mem hq)).trans ?_
  rw [qE]; congr 1; omega
end Go.Proofs.Ytbalnnoofdkbaaa
namespace Go.Proofs.Ytbalnnoofdkbaaa
open Go Go.Bw
structure rV (l:List Rn):Prop where
  jc:∀y ∈ l,wg y.At y.N
  pw:l.Pairwise fun y z=>∀p,y.At ≤ p→p < y.At + y.N→¬ (z.At ≤ p∧p < z.At + z.N)
theorem rV.nil:rV []:=⟨by simp, .nil⟩
theorem nj {l:List Rn} {y:Rn}:rV (l++[y])↔rV l∧wg y.At y.N∧∀p,y.At ≤ p→p < y.At + y.N→¬ dZ l p:=by
  constructor
  · rintro ⟨h1,h2⟩
    obtain ⟨p1,p2,p3⟩:=List.pairwise_append.1 h2
    exact ⟨⟨fun z hz=>h1 z (by simp [hz]),p1⟩,h1 y (by simp),fun p q1 q2 ⟨z,hz,q3,q4⟩=>p3 z hz y (by simp) p q3 q4 ⟨q1,q2⟩⟩
  · rintro ⟨⟨h1,h2⟩,h3,h4⟩
    refine ⟨fun z hz=>?_,List.pairwise_append.2 ⟨h2,List.pairwise_singleton _ _,fun a ha b hb p q1 q2 q3=>?_⟩⟩
    · rcases List.mem_append.1 hz with hz | hz
      · exact h1 z hz
      · rw [List.mem_singleton.1 hz]; exact h3
    · rw [List.mem_singleton.1 hb] at q3
      exact h4 p q3.1 q3.2 ⟨a,ha,q1,q2⟩
theorem rV.nat {l:List Rn} (h:rV l):qR l:=fun y hy=>(h.jc y hy).1
theorem oT:∀(l m:List Rn),eP (l++m) = eP l + eP m
  | [],m=>by simp [eP]
  | y::r,m=>by rw [List.cons_append,gk,gk,oT r m]; omega
theorem u4 {l:List Rn} (h:Can l):∀i:Nat,mL l i ≤ i
  | 0=>by rw [Int.natCast_zero,kG h]; exact Int.le_refl _
  | i + 1=>by
    have:=u4 h i
    obtain ⟨a,b⟩:=kH h i
    have e:((i + 1:Nat):Int) = (i:Int) + 1:=by omega
    rw [e]
    by_cases c:dZ l i
    · rw [a c]; omega
    · rw [b c]; omega
theorem Ac {n:Nat} (hn:110 ≤ n) {e:cN} (hl:e.bq.length ≤ 80) (hr:∀y ∈ e.bq,BO y.At∧BO y.N):∃b,eZ n e = some b∧(b = true↔rV e.bq∧eP e.bq ≤ 64∧0 ≤ e.og∧e.og ≤ 32 * eP e.bq):=by
  unfold eZ
  refine fy (fun (i:Int) (r:cW)=>0 ≤ i∧i ≤ e.bq.length∧Can r.l∧rV (e.bq.take i.toNat)∧(∀p,dZ r.l p↔dZ (e.bq.take i.toNat) p)∧eP r.l = eP (e.bq.take i.toNat)) (fun i _=>((e.bq.length:Int) - i).toNat)
    (fun o=>∃b,o = some b∧(b = true↔rV e.bq∧eP e.bq ≤ 64∧0 ≤ e.og∧e.og ≤ 32 * eP e.bq)) ?_ n 0 jV ⟨by omega,by omega,Can.nil,rV.nil,fun p=>Iff.rfl,rfl⟩ (by omega)
  rintro kk i r ⟨i0,i1,hc,hg,hm,hs⟩ ih
  obtain ⟨i,rfl⟩:=Int.eq_ofNat_of_zero_le i0
  rw [Int.toNat_natCast] at hg hm hs
  by_cases c:i < e.bq.length
  · have hgd:e.bq.getD (Int.toNat (i:Int)) default = e.bq[i]:=by rw [Int.toNat_natCast,List.getD,List.getElem?_eq_getElem c]; rfl
    have hy:=hr _ (List.getElem_mem c)
    have ht:e.bq.take (i + 1) = e.bq.take i++[e.bq[i]]:=List.take_succ_eq_append_getElem c
    rw [aT (by simpa using c),aM (cL (by omega) (by omega)),lt_eq,hgd]
    obtain ⟨r',g,g1,g2,g3,g4⟩:=CG (n:=n) hn hc (at_:=e.bq[i].At) (k:=e.bq[i].N) hy.1 hy.2
    rw [az g1]
    have IJ:g = true↔rV (e.bq.take (i + 1)):=by
      rw [g2,ht,nj]
      exact ⟨fun ⟨a,b⟩=>⟨hg,a,fun p q1 q2 q3=>b p q1 q2 ((hm p).2 q3)⟩,fun ⟨_,a,b⟩=>⟨a,fun p q1 q2 q3=>b p q1 q2 ((hm p).1 q3)⟩⟩
    cases g with
    | false =>
      refine ⟨false,rfl,fun h=>(by cases h),fun ⟨h,_⟩=>?_⟩
      rw [← List.take_append_drop (i + 1) e.bq] at h
      exact IJ.2 ⟨fun y hy=>h.jc y (List.mem_append_left _ hy),(List.pairwise_append.1 h.pw).1⟩
    | true =>
      obtain ⟨c1,c2⟩:=g4 rfl
      have ho:=(g2.1 rfl).1
      rw [aA (b:=!true) rfl,cA (by omega) (by omega)]
      have e1:((i:Int) + 1).toNat = i + 1:=by omega
      refine ih _ _ ⟨by omega,by omega,c1,by rw [e1]; exact IJ.1 rfl,fun p=>?_,?_⟩ (by omega)
      · rw [e1,ht,gm,fQ,c2 p,hm p]
      · rw [e1,ht,oT,← hs]
        rw [yy c1 hc (CQ ho) (fun p=>by rw [c2 p,fQ]) (fun p hp hq=>(g2.1 rfl).2 p (fQ.1 hq).1 (fQ.1 hq).2 hp)]
  · rw [aA (by simpa using c)]
    obtain rfl:i = e.bq.length:=by omega
    rw [List.take_length] at hg hm hs
    have Mh:=u5 (lo:=0) hc (fun y hy=>(hc.jc y hy).1) (by omega)
    have Qt:eP r.l ≤ 64:=by rw [← lI hc]; exact u4 hc 64
    rw [dj (z5 (n:=n) (by omega) (by omega) hg.nat (by rw [← hs]; omega))]
    refine ⟨_,rfl,?_⟩
    by_cases c0:0 ≤ e.og
    · have e1:(bif decide (0 ≤ e.og) == true then eP e.bq else default) = eP e.bq:=by simp [c0]
      rw [e1,cA (by omega) (by omega)]
      simp only [c0,decide_true,Bool.true_and,decide_eq_true_eq,true_and,← hs]
      exact ⟨fun h=>⟨hg,Qt,by omega⟩,fun h=>by omega⟩
    · simp [c0]
end Go.Proofs.Ytbalnnoofdkbaaa
namespace Go.Proofs.Ytbalnnoofdkbaaa
open Go Go.Bw
structure Gx (l:List Rn):Prop where
  gd:rV l
  sum:eP l ≤ 64
theorem Ah:∀{l:List Rn},qR l→(l.length:Int) ≤ eP l
  | [],_=>by simp [eP]
  | y::r,h=>by
    have h1:=h y (by simp)
    have h2:=Ah (l:=r) fun z hz=>h z (by simp [hz])
    rw [gk,List.length_cons]; omega
theorem Gx.len {l:List Rn} (h:Gx l):l.length ≤ 64:=by have:=Ah h.gd.nat; have:=h.sum; omega
theorem Gx.pos {l:List Rn} (h:Gx l):0 ≤ eP l:=lJ h.gd.nat
theorem Eb {l:List (Nat→Int)} {i:Nat}:(l.getD i default) 0 = (mm (l.getD i default)).At:=rfl
theorem G2 {l:List (Nat→Int)} {i:Nat}:(l.getD i default) 1 = (mm (l.getD i default)).N:=rfl
theorem s7 {l:List Rn} {y:Rn} {p:Int}:dZ (l++[y]) p↔dZ l p∨(y.At ≤ p∧p < y.At + y.N):=by rw [gm,fQ]
theorem sS {n:Nat} (hn:110 ≤ n) {x:gL} (hl:x.bq.length ≤ 80) (hr:∀y ∈ x.bq.map mm,BO y.At∧BO y.N):∃b,dz n x = some b∧(b = true↔rV (x.bq.map mm)∧0 ≤ x.og∧x.og ≤ 32 * eP (x.bq.map mm)):=by
  unfold dz
  refine nI (fun (s i:Int) (t:Nat→Bool)=>0 ≤ i∧i ≤ x.bq.length∧rV ((x.bq.map mm).take i.toNat)∧s = eP ((x.bq.map mm).take i.toNat)∧∀p:Nat,p < 64→(t p = true↔dZ ((x.bq.map mm).take i.toNat) p)) (fun _ i _=>((x.bq.length:Int) - i).toNat)
    (fun o=>∃b,o = some b∧(b = true↔rV (x.bq.map mm)∧0 ≤ x.og∧x.og ≤ 32 * eP (x.bq.map mm))) ?_ n 0 0 _ ⟨by omega,by omega,rV.nil,rfl,fun p _=>⟨fun h=>by simp at h,fun h=>by simp [dZ] at h⟩⟩ (by omega)
  rintro kk s i t ⟨i0,i1,hg,rfl,ht⟩ ih
  obtain ⟨i,rfl⟩:=Int.eq_ofNat_of_zero_le i0
  rw [Int.toNat_natCast] at *
  by_cases c:i < x.bq.length
  · have g1:dU (i:Int) x.bq.length = true:=cL (by omega) (by omega)
    have hi:i < (x.bq.map mm).length:=by rw [List.length_map]; exact c
    have hy:=hr _ (List.getElem_mem hi)
    have hgt:=xJ c
    have Gt:(x.bq.map mm).take (i + 1) = (x.bq.map mm).take i++[(x.bq.map mm)[i]]:=List.take_succ_eq_append_getElem hi
    have lZ:rV (x.bq.map mm)→rV ((x.bq.map mm).take (i + 1)):=fun h=>by
      rw [← List.take_append_drop (i + 1) (x.bq.map mm)] at h
      exact ⟨fun y hy=>h.jc y (List.mem_append_left _ hy),(List.pairwise_append.1 h.pw).1⟩
    have On:eP ((x.bq.map mm).take i) ≤ 80 * 64:=by
      have:∀(l:List Rn),(∀y ∈ l,wg y.At y.N)→eP l ≤ l.length * 64:=by
        intro l
        induction l with
        | nil=>intro _; simp [eP]
        | cons y r ih=>intro h; have h1:=h y (by simp); have:=ih fun z hz=>h z (by simp [hz]); unfold wg at h1; rw [gk,List.length_cons]; omega
      have h2:=this _ hg.jc
      have h3:((x.bq.map mm).take i).length ≤ 80:=by rw [List.length_take,List.length_map]; omega
      omega
    have P7:0 ≤ eP ((x.bq.map mm).take i):=lJ hg.nat
    rw [Gt] at lZ
    generalize (x.bq.map mm)[i] = y at *
    rw [aT (by simpa using c)]
    simp only [Eb,G2,Int.toNat_natCast,hgt,aM g1]
    obtain ⟨⟨a1,a2⟩,n1,n2⟩:=hy
    by_cases hk:wg y.At y.N
    · obtain ⟨k1,k2,k3⟩:=hk
      rw [cA (x:=y.At + y.N) (by omega) (by omega),aA (by simp; omega)]
      refine fy (fun (p:Int) (t:Nat→Bool)=>y.At ≤ p∧p ≤ y.At + y.N∧(∀q,y.At ≤ q→q < p→¬ dZ ((x.bq.map mm).take i) q)∧∀q:Nat,q < 64→(t q = true↔dZ ((x.bq.map mm).take i) q∨(y.At ≤ (q:Int)∧(q:Int) < p))) (fun p _=>(y.At + y.N - p).toNat)
        (fun o=>∃b,o = some b∧(b = true↔rV (x.bq.map mm)∧0 ≤ x.og∧x.og ≤ 32 * eP (x.bq.map mm))) ?_ n _ t ⟨by omega,by omega,fun q _ _=>by omega,fun q hq=>by rw [ht q hq]; exact ⟨.inl,fun h=>h.elim id fun h=>by omega⟩⟩ (by omega)
      rintro k4 p t2 ⟨p0,p1,p2,p3⟩ HR
      obtain ⟨p,rfl⟩:=Int.eq_ofNat_of_zero_le (show 0 ≤ p by omega)
      by_cases d:(p:Int) < y.At + y.N
      · have e1:dU (p:Int) 64 = true:=cL (by omega) (by omega)
        rw [aT (by simpa using d),aM e1,Int.toNat_natCast]
        have hp:=p3 p (by omega)
        by_cases m:dZ ((x.bq.map mm).take i) p
        · rw [aT (hp.2 (.inl m))]
          exact ⟨false,rfl,fun h=>(by cases h),fun ⟨h,_⟩=>absurd m ((nj.1 (lZ h)).2.2 p p0 d)⟩
        · have:t2 p = false:=by
            cases hh:t2 p with
            | false=>rfl
            | true =>
              rcases hp.1 hh with h | h
              · exact absurd h m
              · omega
          rw [aA this,aM e1,lt_eq,cA (by omega) (by omega)]
          refine HR _ _ ⟨by omega,by omega,fun q q1 q2=>?_,fun q hq=>?_⟩ (by omega)
          · by_cases e:q = p
            · subst e; exact m
            · exact p2 q q1 (by omega)
          · rw [cK]
            by_cases e:q = p
            · subst e; simp; exact .inr ⟨p0,by omega⟩
            · rw [if_neg e,p3 q hq]
              exact ⟨fun h=>h.imp id fun h=>⟨h.1,by omega⟩,fun h=>h.imp id fun h=>⟨h.1,by omega⟩⟩
      · rw [aA (by simpa using d),cA (by omega) (by omega),cA (by omega) (by omega)]
        have e1:((i:Int) + 1).toNat = i + 1:=by omega
        refine ih _ _ _ ⟨by omega,by omega,?_,?_,fun q hq=>?_⟩ (by omega)
        · rw [e1,Gt]
          exact nj.2 ⟨hg,⟨k1,k2,k3⟩,fun q q1 q2=>p2 q q1 (by omega)⟩
        · rw [e1,Gt,oT]; simp [eP]
        · rw [e1,Gt,s7,p3 q hq]
          exact ⟨fun h=>h.imp id fun h=>⟨h.1,by omega⟩,fun h=>h.imp id fun h=>⟨h.1,by omega⟩⟩
    · have hb:(((((decide (y.N < 1) || decide (64 < y.N)) || decide (y.At < 0)) || decide (63 < y.At)) || decide (64 < (wr .i64 (y.At + y.N)))):Bool) = true:=by
        unfold wg at hk
        by_cases h1:y.N < 1
        · simp [h1]
        by_cases h2:64 < y.N
        · simp [h2]
        by_cases h3:y.At < 0
        · simp [h3]
        by_cases h4:63 < y.At
        · simp [h4]
        rw [cA (x:=y.At + y.N) (by omega) (by omega)]
        have:64 < y.At + y.N:=by omega
        simp [this]
      rw [aT hb]
      exact ⟨false,rfl,fun h=>(by cases h),fun ⟨h,_⟩=>absurd (nj.1 (lZ h)).2.1 hk⟩
  · rw [aA (by simpa using c)]
    have e:(x.bq.map mm).take i = x.bq.map mm:=List.take_of_length_le (by rw [List.length_map]; omega)
    rw [e] at hg ht ⊢
    have h2:eP (x.bq.map mm) ≤ 80 * 64∧0 ≤ eP (x.bq.map mm):=by
      have:∀(l:List Rn),(∀y ∈ l,wg y.At y.N)→eP l ≤ l.length * 64:=by
        intro l
        induction l with
        | nil=>intro _; simp [eP]
        | cons y r ih=>intro h; have h1:=h y (by simp); have:=ih fun z hz=>h z (by simp [hz]); unfold wg at h1; rw [gk,List.length_cons]; omega
      have h2:=this _ hg.jc
      rw [List.length_map] at h2
      exact ⟨by omega,lJ hg.nat⟩
    rw [cA (by omega) (by omega)]
    refine ⟨_,rfl,?_⟩
    rw [Bool.and_eq_true,decide_eq_true_iff,decide_eq_true_iff]
    exact ⟨fun h=>⟨hg,h⟩,fun h=>h.2⟩
def yK (y:Rn):List Int:=(List.range y.N.toNat).map fun (k:Nat)=>y.At + (k:Int)
theorem vl {y:Rn} {p:Int}:p ∈ yK y↔y.At ≤ p∧p < y.At + y.N:=by
  unfold yK
  rw [List.mem_map]
  constructor
  · rintro ⟨k,hk,rfl⟩
    rw [List.mem_range] at hk; omega
  · intro h
    exact ⟨(p - y.At).toNat,by rw [List.mem_range]; omega,by omega⟩
theorem B8 (y:Rn):(yK y).Nodup:=by
  unfold yK
  rw [List.Nodup,List.pairwise_map]
  exact List.nodup_range.imp fun h e=>h (by omega)
theorem zM {α:Type} {P:List α→Prop} (h0:P []) (h1:∀l y,P l→P (l++[y])) (l:List α):P l:=by
  have key:∀(r:List α),P r.reverse:=by
    intro r
    induction r with
    | nil=>exact h0
    | cons y r ih=>rw [List.reverse_cons]; exact h1 _ _ ih
  have:=key l.reverse
  rwa [List.reverse_reverse] at this
theorem B1:∀(l:List Rn),rV l→∃t:List Int,t.Nodup∧(∀p,p ∈ t↔dZ l p)∧(t.length:Int) = eP l:=by
  intro l
  induction l using zM with
  | h0=>intro _; exact ⟨[],List.nodup_nil,by simp [dZ],by simp [eP]⟩
  | h1 l y ih =>
    intro h
    obtain ⟨h1,h2,h3⟩:=nj.1 h
    obtain ⟨t,t1,t2,t3⟩:=ih h1
    refine ⟨t++yK y,List.nodup_append.2 ⟨t1,B8 y,fun a ha b hb e=>?_⟩,fun p=>?_,?_⟩
    · subst e
      have:=vl.1 hb
      exact h3 _ this.1 this.2 ((t2 _).1 ha)
    · rw [List.mem_append,t2,vl,s7]
    · have:=h2.1
      rw [List.length_append,oT]
      simp only [yK,List.length_map,List.length_range,eP,List.map_cons,List.map_nil,List.sum_cons,List.sum_nil] at *
      omega
theorem CH {l:List Rn} (h:rV l):eP l ≤ 64:=by
  obtain ⟨t,t1,t2,t3⟩:=B1 l h
  have:=nH 64 t1 fun p hp=>by
    obtain ⟨y,hy,h1,h2⟩:=(t2 p).1 hp
    obtain ⟨a,b,c⟩:=h.jc y hy
    exact ⟨by omega,by omega⟩
  omega
end Go.Proofs.Ytbalnnoofdkbaaa
namespace Go.Proofs.Ytbalnnoofdkbaaa
open Go Go.Bw
structure Q7 (e:cN):Prop where
  gx:Gx e.bq
  lo:0 ≤ e.og
  hi:e.og ≤ 32 * eP e.bq
end Go.Proofs.Ytbalnnoofdkbaaa
namespace Go.Proofs.Ytbalnnoofdkbaaa
open Go Go.Bw
structure cr where
 Up:Int
 cq:Int
 E:gL
 Cells:(Nat→Int)
abbrev aO:aJ cr:=aJ.via (LP (LI .i64) (LP (LI .i64) (LP fE (LA (LI .i64) 8)))) (fun x=>(x.Up,x.cq,x.E,x.Cells))
abbrev nr:cr:=⟨0,0,cZ,(fun _=>0)⟩
def fc:List Value:=[.int .i64 0]++([.int .i64 0]++(gO++((((LA (LI .i64) 8)).enc (fun _=>0)))))
theorem fb {A:World→Prop}:aO.rep A fc nr:=⟨_,_,rfl,rfl,⟨_,_,rfl,rfl,⟨_,_,rfl,iQ,fl⟩⟩⟩
theorem dI:aN aO (LI .i64) 0 (fun x=>x.Up) (fun x v=>{ x with Up:=v }):=(aN.fst aN.id).via _ _ _ 0 rfl (fun _=>rfl) (fun _ _=>rfl)
theorem iw:aN aO (LI .i64) 1 (fun x=>x.cq) (fun x v=>{ x with cq:=v }):=(aN.snd (aN.fst aN.id)).via _ _ _ 1 rfl (fun _=>rfl) (fun _ _=>rfl)
theorem mg:aN aO fE 2 (fun x=>x.E) (fun x v=>{ x with E:=v }):=(aN.snd (aN.snd (aN.fst aN.id))).via _ _ _ 2 rfl (fun _=>rfl) (fun _ _=>rfl)
theorem dO:aN aO (LA (LI .i64) 8) 4 (fun x=>x.Cells) (fun x v=>{ x with Cells:=v }):=(aN.snd (aN.snd (aN.snd aN.id))).via _ _ _ 4 rfl (fun _=>rfl) (fun _ _=>rfl)
structure ai where
 B:aL
 R:(Nat→cr)
abbrev ak:aJ ai:=aJ.via (LP aK (LA aO 32)) (fun x=>(x.B,x.R))
abbrev cv:ai:=⟨iD,(fun _=>nr)⟩
def aE:List Value:=((aK).enc iD)++((flat (fun _=>fc) 32))
theorem aP {A:World→Prop}:ak.rep A aE cv:=⟨_,_,rfl,fl,⟨_,rfl,fun _ _=>fb⟩⟩
theorem bN:aN ak aK 0 (fun x=>x.B) (fun x v=>{ x with B:=v }):=(aN.fst aN.id).via _ _ _ 0 rfl (fun _=>rfl) (fun _ _=>rfl)
theorem cw:aN ak (LA aO 32) 64 (fun x=>x.R) (fun x v=>{ x with R:=v }):=(aN.snd aN.id).via _ _ _ 64 rfl (fun _=>rfl) (fun _ _=>rfl)
def fK (n:Nat) (a0:ai):Option (List Int):=
 ec (fun yO (cR:(List Int)) (bZ:Int) =>
 cn (decide (bZ < 32)) (
 gu (dU bZ 32) <|
 cn (((a0.B.Is (Int.toNat bZ)) == 1)) (
 bd (eT n a0.B bZ) fun fZ =>
 gu (lE cR.length 1 8) <|
 lt (cR++([fZ]):List Int) fun gR =>
 yO gR (wr .i64 (bZ + 1))) (
 yO cR (wr .i64 (bZ + 1)))) (
 some cR)) n ([]) 0
theorem lp {n a0 r K} [bF K] {ct} (f0:(ak).rep K ct a0) (h:fK n a0 = some r):Bw.Fn (α:=Value) Try.prog 34 [A ct] K [] (fun v=>kf v r.length) (fun v=>v) (fun v=>[Row v 3 1 (LI .i64) r]):=by
 unfold fK at h
 refine fo Try.func34 (by kernel_rfl) rfl Try.ntmps34 rfl fun cx _ hro dc hpre=>?_
 refine SC 2 rf ?_
 refine W1 rf (bH rfl) fun b1=>?_
 refine SL 15 rf ?_
 refine pD 3 1 (LI .i64) ?_
 obtain ⟨wJ,rA,h⟩:=lT h
 refine LO (β:=(List Int) × Int × Value) [1] [0,1] (fun (m32,cR,bZ,tI)=>[(3,tI),(4, .int .i64 bZ)]) (fun (m32,cR,bZ,tI)=>[Row tI 3 1 (LI .i64) cR, .cells b1 53 ct]) (fun (m32,cR,bZ,tI)=>kf tI cR.length∧ec wJ m32 cR bZ = some r) (n,[],0, .slice none 0 0) ⟨⟨_,_,rfl⟩,h⟩ rf rf rf ?_
 rintro m32 ⟨cR,bZ,tI⟩ ⟨nO,h⟩
 replace h:=lS rA h; obtain ⟨m32,rfl,h⟩:=h
 refine SC 7 rf ?_
 refine eS h rf (fun hc h=>?_) fun hc h=>?_
 ·
  obtain ⟨lC,h⟩:=cD h
  refine SC 9 rf ?_
  refine ag rfl (bV (m:=(Int.toNat bZ)) rfl rfl (ay lC).1 (ay lC).2) ?_
  refine ag rfl (bG rfl (((bN.c0 eM).comp (aN.idx (L:=(LI .i64)) (m:=32) (k:=1) ((Int.toNat bZ)) (ay lC).2 rfl)).int f0)) ?_
  refine SL 3 rf ?_
  refine eS h rf (fun hc h=>?_) fun hc h=>?_
  ·
   obtain ⟨fZ,oX,h⟩:=bu h
   obtain ⟨lY,h⟩:=cD h
   obtain ⟨gR,ng,h⟩:=cQ h
   refine SC 3 rf ?_
   refine ag rfl (aR rfl (bg.iff.1 (bN.get f0)) (bx _ _)) ?_
   refine ag rfl (ah rfl) ?_
   refine CV (gP oX) rf rf ?_
   refine cG rfl (mJ (LI .i64) fZ rfl rfl rfl rfl (by decide) (by decide)) (fun OP _=>?_)
   refine cG rfl (lu (sz:=1) (L:=(LI .i64)) (xs:=cR) (y:=fZ) (bytes:=8) rfl rfl rfl (gA lY).1 (gA lY).2) (fun Ob Cv=>?_)
   rw [← ng] at Cv; rw [← ng]
   refine SL 9 rf ?_
   exact LN [1,2] (gR,wr .i64 (bZ + 1),Ob) ⟨Cv,h⟩ rf rf rf
  ·
   refine SC 8 rf ?_
   exact LN [0,1] (cR,wr .i64 (bZ + 1),tI) ⟨nO,h⟩ rf rf rf
 ·
  refine SC 12 rf ?_
  have h:=sj h; subst h
  exact bW tI rfl (.tmp rfl .nil) nO rfl (ks:=[0]) rfl (by decide)
def ep (n:Nat) (a0:ai) (a1:Int):Option (cr × Int):=
 bd (bM n a0.B a1) fun bp =>
 cn (decide (bp < 0)) (
 lt ({ Up:=0,cq:=0,E:=cZ,Cells:=(fun _=>0) }:cr) fun cB =>
 some (cB,4)) (
 gu (dU bp 32) <|
 lt ((a0.R (Int.toNat bp)):cr) fun gV =>
 some (gV,0))
theorem gW {n a0 a1 r K} [bF K] {ct} (f0:(ak).rep K ct a0) (h:ep n a0 a1 = some r):p9 Try.prog 30 [A ct, .int .i64 a1] K (fun J v=>∃u0,v = (.tuple #[A u0, .int .i64 r.2])∧(aO).rep (fun w=>K w∧J w) u0 (r.1)):=by
 unfold ep at h
 refine fo Try.func30 (by kernel_rfl) rfl Try.ntmps30 rfl fun cx _ hro dc hpre=>?_
 refine SC 2 rf ?_
 refine W1 rf (bH rfl) fun b2=>?_
 refine W1 rf (bk (hz:=(⟨by kernel_rfl⟩ : bY Try.prog 50 fc))) fun b4=>?_
 obtain ⟨bp,cu,h⟩:=bu h
 refine SL 6 rf ?_
 refine ag rfl (aR rfl (bg.iff.1 (bN.get f0)) (bx _ _)) ?_
 refine ag rfl (ah rfl) ?_
 refine CV (cE cu) rf rf ?_
 refine SL 10 rf ?_
 refine eS h rf (fun hc h=>?_) fun hc h=>?_
 ·
  obtain ⟨cB,gE,h⟩:=cQ h
  refine SC 2 rf ?_
  obtain ⟨xo,AW,f24⟩ : ∃cc,(((LI .i64).enc 0)++(((LI .i64).enc 0)++(gO++((LA (LI .i64) 8).enc (fun _=>0))))) = cc∧(aO).rep (Hs []) cc cB:=⟨_,rfl,by rw [gE]; exact ⟨_,_,rfl,fl,⟨_,_,rfl,fl,⟨_,_,rfl,iQ,fl⟩⟩⟩⟩
  refine ag rfl (iu (cs:=xo) rfl (by rw [← AW]; rfl)) ?_
  refine ST (C:=(Hs [])) cB (aN.id (L:=aO)) fb (mo f24) rf rf rf rf rf fun BK f26=>?_
  refine SL 5 rf ?_
  have h:=sj h; subst h
  exact k7 [] rf rf (ra rf (aJ.len _ f26) (rt rf rn)) ⟨_,rfl,(mo f26)⟩
 ·
  obtain ⟨oA,h⟩:=cD h
  obtain ⟨gV,Ap,h⟩:=cQ h
  refine SC 6 rf ?_
  refine ag rfl (bV (m:=(Int.toNat bp)) rfl rfl (ay oA).1 (ay oA).2) ?_
  obtain ⟨OL,M8,f30⟩:=pJ ((cw.comp (aN.idx (L:=aO) (m:=32) (k:=12) ((Int.toNat bp)) (ay oA).2 rfl)).get f0)
  refine ag rfl (aR rfl M8 (aJ.len _ f30)) ?_
  refine ST (C:=K) gV (aN.id (L:=aO)) fb (mo f30) Ap rf rf rf rf fun CT f33=>?_
  refine SL 4 rf ?_
  have h:=sj h; subst h
  exact k7 [] rf rf (ra rf (aJ.len _ f33) (rt rf rn)) ⟨_,rfl,(mo f33)⟩
structure mq where
 iP:bz
abbrev iG:aJ mq:=aJ.via aF (fun x=>x.iP)
abbrev pC:mq:=⟨gT⟩
theorem aV:aN iG aF 0 (fun x=>x.iP) (fun x v=>{ x with iP:=v }):=aN.id.via _ _ _ 0 rfl (fun _=>rfl) (fun _ _=>rfl)
structure bE where
 Up:Int
 cq:Int
 E:cN
 Cells:(Nat→Int)
abbrev ax:aJ bE:=aJ.via (LP (LI .u32) (LP (LI .i64) (LP cV (LA (LI .u32) 8)))) (fun x=>(x.Up,x.cq,x.E,x.Cells))
abbrev dx:bE:=⟨0,0,eL,(fun _=>0)⟩
def aX:List Value:=[.int .u32 0]++([.int .i64 0]++(gh++((((LA (LI .u32) 8)).enc (fun _=>0)))))
theorem bL {A:World→Prop}:ax.rep A aX dx:=⟨_,_,rfl,rfl,⟨_,_,rfl,rfl,⟨_,_,rfl,iA,fl⟩⟩⟩
theorem cF:aN ax (LI .u32) 0 (fun x=>x.Up) (fun x v=>{ x with Up:=v }):=(aN.fst aN.id).via _ _ _ 0 rfl (fun _=>rfl) (fun _ _=>rfl)
theorem jZ:aN ax (LI .i64) 1 (fun x=>x.cq) (fun x v=>{ x with cq:=v }):=(aN.snd (aN.fst aN.id)).via _ _ _ 1 rfl (fun _=>rfl) (fun _ _=>rfl)
theorem me:aN ax cV 2 (fun x=>x.E) (fun x v=>{ x with E:=v }):=(aN.snd (aN.snd (aN.fst aN.id))).via _ _ _ 2 rfl (fun _=>rfl) (fun _ _=>rfl)
theorem dN:aN ax (LA (LI .u32) 8) 4 (fun x=>x.Cells) (fun x v=>{ x with Cells:=v }):=(aN.snd (aN.snd (aN.snd aN.id))).via _ _ _ 4 rfl (fun _=>rfl) (fun _ _=>rfl)
structure au where
 book:mq
 regions:(Nat→bE)
abbrev ae:aJ au:=aJ.via (LP iG (LA ax 32)) (fun x=>(x.book,x.regions))
abbrev aW:au:=⟨pC,(fun _=>dx)⟩
def av:List Value:=((iG).enc pC)++((flat (fun _=>aX) 32))
theorem aD {A:World→Prop}:ae.rep A av aW:=⟨_,_,rfl,fl,⟨_,rfl,fun _ _=>bL⟩⟩
theorem aQ:aN ae iG 0 (fun x=>x.book) (fun x v=>{ x with book:=v }):=(aN.fst aN.id).via _ _ _ 0 rfl (fun _=>rfl) (fun _ _=>rfl)
theorem dF:aN ae (LA ax 32) 96 (fun x=>x.regions) (fun x v=>{ x with regions:=v }):=(aN.snd aN.id).via _ _ _ 96 rfl (fun _=>rfl) (fun _ _=>rfl)
def eV (n:Nat) (a0:au) (a1:Int):Option Int:=
 bd (bU n a1) fun bp =>
 gu (dU bp.1 32) <|
 bd (aY n a0.book.iP ((a0.regions (Int.toNat bp.1)).Up)) fun kg =>
 cn (kg) (
 some ((a0.regions (Int.toNat bp.1)).Up)) (
 some 0)
theorem l6 {n a0 a1 r K} [bF K] {ct} (f0:(ae).rep K ct a0) (h:eV n a0 a1 = some r):qM Try.prog 58 [A ct, .int .u32 a1] K (.int .u32 r):=by
 unfold eV at h
 refine fo Try.func58 (by kernel_rfl) rfl Try.ntmps58 rfl fun cx _ hro dc hpre=>?_
 refine SC 2 rf ?_
 refine W1 rf (bH rfl) fun b2=>?_
 obtain ⟨bp,cu,h⟩:=bu h
 refine SL 6 rf ?_
 refine CV (de cu) rf rf ?_
 obtain ⟨oC,h⟩:=cD h
 refine SL 12 rf ?_
 refine ag rfl (bV (m:=(Int.toNat bp.1)) rfl rfl (ay oC).1 (ay oC).2) ?_
 refine ag rfl (eX rfl) ?_
 refine ag rfl (bG rfl (((dF.comp (aN.idx (L:=ax) (m:=32) (k:=12) ((Int.toNat bp.1)) (ay oC).2 rfl)).comp cF).int f0)) ?_
 obtain ⟨kg,lB,h⟩:=bu h
 refine SL 7 rf ?_
 refine ag rfl (aR rfl (bg.iff.1 ((aQ.c0 aV).get f0)) (bx _ _)) ?_
 refine ag rfl (ah rfl) ?_
 refine CV (bf lB) rf rf ?_
 refine SL 2 rf ?_
 refine eS h rf (fun hc h=>?_) fun hc h=>?_
 ·
  refine SC 8 rf ?_
  have h:=sj h; subst h
  exact RV rf (rt rf rn) rf
 ·
  refine SC 8 rf ?_
  have h:=sj h; subst h
  exact RV rf (rt rf rn) rf
def cU (n:Nat) (a0:au) (a1:Int):Option (bE × Int):=
 bd (aY n a0.book.iP a1) fun bp =>
 cn ((!bp)) (
 lt ({ Up:=0,cq:=0,E:=eL,Cells:=(fun _=>0) }:bE) fun cB =>
 some (cB,4)) (
 bd (bU n a1) fun eN =>
 gu (dU eN.1 32) <|
 lt ((a0.regions (Int.toNat eN.1)):bE) fun fA =>
 bd (eV n a0 a1) fun fZ =>
 lt ({ fA with Up:=fZ }:bE) fun gi =>
 some (gi,0))
theorem dY {n a0 a1 r K} [bF K] {ct} (f0:(ae).rep K ct a0) (h:cU n a0 a1 = some r):p9 Try.prog 29 [A ct, .int .u32 a1] K (fun J v=>∃u0,v = (.tuple #[A u0, .int .i64 r.2])∧(ax).rep (fun w=>K w∧J w) u0 (r.1)):=by
 unfold cU at h
 refine fo Try.func29 (by kernel_rfl) rfl Try.ntmps29 rfl fun cx _ hro dc hpre=>?_
 refine SC 2 rf ?_
 refine W1 rf (bH rfl) fun b2=>?_
 refine W1 rf (bk (hz:=(⟨by kernel_rfl⟩ : bY Try.prog 38 aX))) fun b4=>?_
 obtain ⟨bp,cu,h⟩:=bu h
 refine SL 8 rf ?_
 refine ag rfl (aR rfl (bg.iff.1 ((aQ.c0 aV).get f0)) (bx _ _)) ?_
 refine ag rfl (ah rfl) ?_
 refine CV (bf cu) rf rf ?_
 refine SL 3 rf ?_
 refine eS h rf (fun hc h=>?_) fun hc h=>?_
 ·
  obtain ⟨cB,gE,h⟩:=cQ h
  refine SC 2 rf ?_
  obtain ⟨xo,AW,f24⟩ : ∃cc,(((LI .u32).enc 0)++(((LI .i64).enc 0)++(gh++((LA (LI .u32) 8).enc (fun _=>0))))) = cc∧(ax).rep (Hs []) cc cB:=⟨_,rfl,by rw [gE]; exact ⟨_,_,rfl,fl,⟨_,_,rfl,fl,⟨_,_,rfl,iA,fl⟩⟩⟩⟩
  refine ag rfl (iu (cs:=xo) rfl (by rw [← AW]; rfl)) ?_
  refine ST (C:=(Hs [])) cB (aN.id (L:=ax)) bL (mo f24) rf rf rf rf rf fun BK f26=>?_
  refine SL 5 rf ?_
  have h:=sj h; subst h
  exact k7 [] rf rf (ra rf (aJ.len _ f26) (rt rf rn)) ⟨_,rfl,(mo f26)⟩
 ·
  obtain ⟨eN,ru,h⟩:=bu h
  refine SC 5 rf ?_
  refine CV (de ru) rf rf ?_
  obtain ⟨EY,h⟩:=cD h
  obtain ⟨fA,pP,h⟩:=cQ h
  refine SL 11 rf ?_
  refine ag rfl (bV (m:=(Int.toNat eN.1)) rfl rfl (ay EY).1 (ay EY).2) ?_
  obtain ⟨sE,uc,f31⟩:=pJ ((dF.comp (aN.idx (L:=ax) (m:=32) (k:=12) ((Int.toNat eN.1)) (ay EY).2 rfl)).get f0)
  refine ag rfl (aR rfl uc (aJ.len _ f31)) ?_
  refine W1 rf (bk (hz:=(⟨by kernel_rfl⟩ : bY Try.prog 38 aX))) fun b8=>?_
  refine ST (C:=K) fA (aN.id (L:=ax)) bL (mo f31) pP rf rf rf rf fun xn f34=>?_
  obtain ⟨fZ,oX,h⟩:=bu h
  obtain ⟨gi,j4,h⟩:=cQ h
  refine SL 4 rf ?_
  refine ag rfl (aj rfl (aJ.len _ f0)) ?_
  refine ag rfl (ah rfl) ?_
  refine CV (l6 (K:=K) (mo f0) oX) rf rf ?_
  refine ag rfl (aH rfl) ?_
  refine ST (C:=K) gi cF (mo f34) fl j4 rf rf rf rf fun A9 f38=>?_
  refine SL 4 rf ?_
  refine ag rfl (aj rfl (aJ.len _ f38)) ?_
  refine ST (C:=K) gi (aN.id (L:=ax)) bL (mo f38) rf rf rf rf rf fun xm f40=>?_
  refine SL 4 rf ?_
  have h:=sj h; subst h
  exact k7 [] rf rf (ra rf (aJ.len _ f40) (rt rf rn)) ⟨_,rfl,(mo f40)⟩
def gj (n:Nat) (a0:mq):Option (List Int):=
 bd (fB n a0.iP) fun bp =>
 some bp
theorem l5 {n a0 r}  (h:gj n a0 = some r):Bw.Fn (α:=Value) Try.prog 17 [.agg (iG.enc a0).toArray] (fun _=>True) [] (fun v=>kf v r.length) (fun v=>v) (fun v=>[Row v 32 1 (LI .u32) r]):=by
 unfold gj at h
 refine eR Try.func17 (by kernel_rfl) rfl Try.ntmps17 rfl (fun cx dc hpre hro=>?_)
 refine SC 2 rf ?_
 refine W1 rf (fa iG a0 rfl rfl) fun b1=>?_
 obtain ⟨bp,cu,h⟩:=bu h
 refine SL 6 rf ?_
 refine ag rfl (dR (M:=aF) aV rfl rfl) ?_
 refine cG rfl (eU (nm cu) rfl (fun _ _ _=>trivial)) (fun r7 kr=>?_)
 dsimp only [List.cons_append,List.nil_append]
 refine SL 4 rf ?_
 have h:=sj h; subst h
 exact bW r7 rfl (.tmp rfl .nil) kr rfl (ks:=[0]) rfl (by decide)
def jy (n:Nat) (a0:au) (a1:ai):Option Bool:=
 bd (gj n a0.book) fun bp =>
 bd (fK n a1) fun iT =>
 cn (((bp.length:Int) != (iT.length:Int))) (
 some false) (
 ef (fun yO (bZ:Int) =>
 cn (decide (bZ < (bp.length:Int))) (
 gu (dU bZ bp.length) <|
 gu (dU bZ iT.length) <|
 gu (!(((wr .i64 (bp.getD (Int.toNat bZ) default)) != (iT.getD (Int.toNat bZ) default)) == false) || dU bZ bp.length) <|
 cl (((wr .i64 (bp.getD (Int.toNat bZ) default)) != (iT.getD (Int.toNat bZ) default)) == false) (aY n a0.book.iP (bp.getD (Int.toNat bZ) default)) default fun gR =>
 cn ((((wr .i64 (bp.getD (Int.toNat bZ) default)) != (iT.getD (Int.toNat bZ) default)) || (!gR))) (
 some false) (
 gu (dU bZ bp.length) <|
 bd (cU n a0 (bp.getD (Int.toNat bZ) default)) fun mh =>
 gu (dU bZ iT.length) <|
 bd (ep n a1 (iT.getD (Int.toNat bZ) default)) fun nW =>
 cl ((((mh.2 != 0) || ((wr .i64 mh.1.Up) != nW.1.Up)) || (mh.1.cq != nW.1.cq)) == false) (kP n mh.1.E nW.1.E) default fun zE =>
 cn (((((mh.2 != 0) || ((wr .i64 mh.1.Up) != nW.1.Up)) || (mh.1.cq != nW.1.cq)) || (!zE))) (
 some false) (
 ef (fun PV (nM:Int) =>
 cn (decide (nM < 8)) (
 gu (dU nM 8) <|
 gu (dU nM 8) <|
 cn (((wr .i64 (mh.1.Cells (Int.toNat nM))) != (nW.1.Cells (Int.toNat nM)))) (
 some false) (
 PV (wr .i64 (nM + 1)))) (
 yO (wr .i64 (bZ + 1)))) n 0))) (
 some true)) n 0)
theorem uz {n a0 a1 r K} [bF K] {ct} (f0:(ae).rep K ct a0) {lH:List Value} (f1:(ak).rep K lH a1) (h:jy n a0 a1 = some r):qM Try.prog 10 [A ct,A lH] K (.bool r):=by
 unfold jy at h
 refine fo Try.func10 (by kernel_rfl) rfl Try.ntmps10 rfl fun cx _ hro dc hpre=>?_
 refine SC 2 rf ?_
 refine W1 rf (bH rfl) fun b2=>?_
 refine W1 rf (bH rfl) fun b3=>?_
 refine SL 4 rf ?_
 obtain ⟨bp,cu,h⟩:=bu h
 obtain ⟨iT,nh,h⟩:=bu h
 refine dy mixed (.iH [] [(0,[2]),(1,[13]),(3,[3])] (.alt 2 [14] (.iH [(3,[3])] [] (.alt 4 [16] (.iH [] [] (.alt 5 [15] (.iH [] [] (.alt 6 [17] (.fin [] []) .no)) .no)) .no)) .no)) (by kernel_rfl) ?_
 refine T0 ?_
 refine NS 1 rf ?_
 refine NV rf rf (aR rfl (bg.iff.1 (aQ.get f0)) (bx _ _)) ?_
 refine NV rf rf (aj rfl (aJ.len _ f1)) ?_
 refine bA ?_
 refine X1 rf rf (eU (l5 cu) rfl (fun _ _ _=>trivial)) fun r7 kr=>?_
 dsimp only [List.cons_append,List.nil_append]
 refine eA ?_ ?_
 ·
  refine RO rf rf (aj rfl (aJ.len _ f1)) rf ?_
  exact gQ
 refine bA ?_
 refine X1 rf rf (eU (lp (K:=K) (mo f1) nh) rfl kn) fun tJ mA=>?_
 dsimp only [List.cons_append,List.nil_append]
 refine DJ ?_
 refine XV rf rf (aC rfl) ?_
 refine DJ ?_
 refine XV rf rf (aC rfl) ?_
 refine rT ?_
 refine SX 5 rf ?_
 refine ag rfl (dH (Fz.row (e:=32) (sz:=1) (L:=(LI .u32)) (xs:=bp) rfl kr) rfl) ?_
 refine ag rfl (ah rfl) ?_
 refine ag rfl (dH (Fz.row (e:=3) (sz:=1) (L:=(LI .i64)) (xs:=iT) rfl mA) rfl) ?_
 refine SL 3 rf ?_
 refine eS h rf (fun hc h=>?_) fun hc h=>?_
 ·
  refine SC 7 rf ?_
  have h:=sj h; subst h
  exact RV rf (rt rf rn) rf
 ·
  refine SC 9 rf ?_
  obtain ⟨wJ,rA,h⟩:=ld h
  refine LO (β:=Int) [2,3,5,6] [0,1,2,3] (fun (m32,bZ)=>[(7, .int .i64 bZ)]) (fun (m32,bZ)=>[Row tJ 3 1 (LI .i64) iT,Row r7 32 1 (LI .u32) bp, .cells b3 53 lH, .cells b2 41 ct]) (fun (m32,bZ)=>ef wJ m32 bZ = some r) (n,0) h rf rf rf ?_
  rintro m32 bZ h
  replace h:=k9 rA h; obtain ⟨m32,rfl,h⟩:=h
  refine SC 5 rf ?_
  refine ag rfl (dH (Fz.row (e:=32) (sz:=1) (L:=(LI .u32)) (xs:=bp) rfl kr) rfl) ?_
  refine SL 3 rf ?_
  refine eS h rf (fun hc h=>?_) fun hc h=>?_
  ·
   refine SC 6 rf ?_
   obtain ⟨lC,h⟩:=cD h
   obtain ⟨jN,h⟩:=cD h
   obtain ⟨lY,h⟩:=cD h
   obtain ⟨gR,ng,_,h⟩:=jd h
   refine dy mixed (.fin [] [(0,[5]),(1,[7]),(2,[29,30]),(3,[31]),(4,[32]),(5,[6]),(6,[7]),(7,[34,35]),(8,[36]),(9,[33,37]),(10,[38]),(11,[2,39]),(12,[39,40]),(13,[39,41]),(14,[5,39]),(15,[7,39]),(16,[39,43,44]),(17,[39,45]),(18,[39,42,46]),(19,[39,47]),(20,[39,48])]) (by kernel_rfl) ?_
   refine F0 ?_
   refine NS 2 rf ?_
   refine NV rf rf (dL (m:=(Int.toNat bZ)) (Fz.row (e:=32) (sz:=1) (L:=(LI .u32)) (xs:=bp) rfl kr) rfl rfl rfl (ay lC).1 (ay lC).2) ?_
   refine NV rf rf (dJ (Fz.row (e:=32) (sz:=1) (L:=(LI .u32)) (xs:=bp) rfl kr) (aN.idx (L:=(LI .u32)) (m:=(bp.length)) (k:=1) ((Int.toNat bZ)) (ay lC).2 rfl) rfl) ?_
   refine NS 3 rf ?_
   refine NV rf rf (dL (m:=(Int.toNat bZ)) (Fz.row (e:=3) (sz:=1) (L:=(LI .i64)) (xs:=iT) rfl mA) rfl rfl rfl (ay jN).1 (ay jN).2) ?_
   refine NV rf rf (dJ (Fz.row (e:=3) (sz:=1) (L:=(LI .i64)) (xs:=iT) rfl mA) (aN.idx (L:=(LI .i64)) (m:=(iT.length)) (k:=1) ((Int.toNat bZ)) (ay jN).2 rfl) rfl) ?_
   refine NS 2 rf ?_
   refine NG rf rf (cg rfl rfl) (fun hb=>aH rfl) ?_
   refine NG rf rf (cg rfl rfl) (fun hb=>aH (bT rfl hb)) ?_
   refine NG rf rf (cg rfl rfl) (fun hb=>aR (bT rfl hb) (bg.iff.1 ((aQ.c0 aV).get f0)) (bx _ _)) ?_
   refine NG rf rf (cg rfl rfl) (fun hb=>ah rfl) ?_
   refine NG rf rf (cg rfl rfl) (fun hb=>ah rfl) ?_
   refine NG rf rf (cg rfl rfl) (fun hb=>dL (m:=(Int.toNat bZ)) (Fz.row (e:=32) (sz:=1) (L:=(LI .u32)) (xs:=bp) rfl kr) rfl (bT rfl hb) (bT rfl hb) (ay (gG lY hb)).1 (ay (gG lY hb)).2) ?_
   refine NG rf rf (cg rfl rfl) (fun hb=>dJ (Fz.row (e:=32) (sz:=1) (L:=(LI .u32)) (xs:=bp) rfl kr) (aN.idx (L:=(LI .u32)) (m:=(bp.length)) (k:=1) ((Int.toNat bZ)) (ay (gG lY hb)).2 rfl) (bT rfl hb)) ?_
   refine NG rf rf (cg rfl rfl) (fun hb=>bD (bf (ng hb)) (aU (bT rfl hb) (aU (bT rfl hb) rfl)) (fun _ _ _=>trivial)) ?_
   refine NG rf rf (cg rfl rfl) (fun hb=>eW (bT rfl hb)) ?_
   refine NV rf rf (dV rfl rfl) ?_
   refine bA ?_
   refine aI ?_
   refine eS h rf (fun hc h=>?_) fun hc h=>?_
   ·
    refine SC 12 rf ?_
    have h:=sj h; subst h
    exact RV rf (rt rf rn) rf
   ·
    refine SC 2 rf ?_
    obtain ⟨oz,h⟩:=cD h
    obtain ⟨mh,sg,h⟩:=bu h
    refine CU (α:=(List Value) × (List Nat) × (World→Prop) × Nat × (List Value)) [2,3,5,6,7] rf (fun (vJ,ij,nE,b8,y8)=>[(8,Ptr b8 0),(9, .int .i64 mh.2)]) (fun (vJ,ij,nE,b8,y8)=>[.cells b8 38 y8, .ext ij nE,Row tJ 3 1 (LI .i64) iT,Row r7 32 1 (LI .u32) bp, .cells b3 53 lH, .cells b2 41 ct]) (fun (vJ,ij,nE,b8,y8)=>(ax).rep (fun w=>K w∧Hs [.ext ij nE] w) vJ mh.1∧(ax).rep (fun w=>K w∧Hs [.ext ij nE] w) y8 mh.1) ?_ ?_
    ·
     refine dy mixed (.iH [] [(0,[2]),(1,[5]),(2,[7]),(3,[52,53]),(4,[54])] (.alt 5 [51,55] (.iH [] [(6,[56]),(7,[50]),(8,[50])] (.alt 9 [] (.iH [(6,[56]),(7,[50]),(8,[50])] [] (.alt 10 [8,57] (.iH [(8,[50])] [] (.alt 11 [58] (.fin [] []) .no)) .no)) .no)) (.alt 9 [] (.iH [(0,[2]),(1,[5]),(2,[7]),(3,[52,53]),(4,[54])] [] (.alt 5 [51,55] (.iH [] [(6,[56]),(7,[50]),(8,[50])] (.alt 10 [8,57] (.iH [(8,[50])] [] (.alt 11 [58] (.fin [] []) .no)) .no)) .no)) .no))) (by kernel_rfl) ?_
     refine T0 ?_
     refine NV rf rf (aj rfl (aJ.len _ f0)) ?_
     refine NS 2 rf ?_
     refine NV rf rf (dL (m:=(Int.toNat bZ)) (Fz.row (e:=32) (sz:=1) (L:=(LI .u32)) (xs:=bp) rfl kr) rfl rfl rfl (ay oz).1 (ay oz).2) ?_
     refine NV rf rf (dJ (Fz.row (e:=32) (sz:=1) (L:=(LI .u32)) (xs:=bp) rfl kr) (aN.idx (L:=(LI .u32)) (m:=(bp.length)) (k:=1) ((Int.toNat bZ)) (ay oz).2 rfl) rfl) ?_
     refine bA ?_
     refine X2 rf rf (dW (dY (K:=K) (mo f0) sg) rfl) (fun ⟨N9,ij,nE⟩ Az=>?_) ?_
     ·
      obtain ⟨vJ,rfl,f44⟩:=Az
      replace f44:(ax).rep (fun w=>K w∧Hs [.ext ij nE] w) vJ mh.1:=f44
      refine T0 ?_
      refine NE 3 rf ?_
      refine X1 rf rf (bk (hz:=(⟨by kernel_rfl⟩ : bY Try.prog 38 aX))) fun b8 _=>?_
      refine eA ?_ ?_
      ·
       exact RE 3 rf rf
      refine bA ?_
      obtain ⟨y8,AT,f47⟩:=zu (C:=(fun w=>K w∧Hs [.ext ij nE] w)) (x':=mh.1) (aN.id (L:=ax)) bL (mo f44) rf
      refine X0 rf (zD AT rf rf rf rf) ?_
      refine eA ?_ ?_
      ·
       exact RE 1 rf rf
      refine bA ?_
      refine XV rf rf (aC rfl) ?_
      refine rT ?_
      exact CE [0,1,2,3,4,5] (vJ,ij,nE,b8,y8) ⟨f44,f47⟩ rf rf rf
     refine X2 rf rf (bk (hz:=(⟨by kernel_rfl⟩ : bY Try.prog 38 aX))) (fun b8 _=>?_) ?_
     ·
      refine eA ?_ ?_
      ·
       refine RO rf rf (aj rfl (aJ.len _ f0)) rf ?_
       refine J4 2 rf rf ?_
       refine RO rf rf (dL (m:=(Int.toNat bZ)) (Fz.row (e:=32) (sz:=1) (L:=(LI .u32)) (xs:=bp) rfl kr) rfl rfl rfl (ay oz).1 (ay oz).2) rf ?_
       refine RO rf rf (dJ (Fz.row (e:=32) (sz:=1) (L:=(LI .u32)) (xs:=bp) rfl kr) (aN.idx (L:=(LI .u32)) (m:=(bp.length)) (k:=1) ((Int.toNat bZ)) (ay oz).2 rfl) rfl) rf ?_
       exact gQ
      refine bA ?_
      refine X1 rf rf (dW (dY (K:=K) (mo f0) sg) rfl) fun ⟨N9,ij,nE⟩ Az=>?_
      obtain ⟨vJ,rfl,f44⟩:=Az
      replace f44:(ax).rep (fun w=>K w∧Hs [.ext ij nE] w) vJ mh.1:=f44
      refine T0 ?_
      refine NE 3 rf ?_
      obtain ⟨y8,AT,f47⟩:=zu (C:=(fun w=>K w∧Hs [.ext ij nE] w)) (x':=mh.1) (aN.id (L:=ax)) bL (mo f44) rf
      refine X0 rf (zD AT rf rf rf rf) ?_
      refine eA ?_ ?_
      ·
       exact RE 1 rf rf
      refine bA ?_
      refine XV rf rf (aC rfl) ?_
      refine rT ?_
      exact CE [1,0,2,3,4,5] (vJ,ij,nE,b8,y8) ⟨f44,f47⟩ rf rf rf
     exact p6
    ·
     rintro ⟨vJ,ij,nE,b8,y8⟩ ⟨f44,f47⟩
     obtain ⟨oZ,h⟩:=cD h
     obtain ⟨nW,Co,h⟩:=bu h
     refine CU (α:=(List Value) × (List Nat) × (World→Prop) × Nat × (List Value)) [2,3,5,6,7,8,9] rf (fun (tp,kZ,rU,nS,vI)=>[(10,Ptr nS 0)]) (fun (tp,kZ,rU,nS,vI)=>[.cells nS 50 vI, .ext kZ rU, .cells b8 38 y8, .ext ij nE,Row tJ 3 1 (LI .i64) iT,Row r7 32 1 (LI .u32) bp, .cells b3 53 lH, .cells b2 41 ct]) (fun (tp,kZ,rU,nS,vI)=>(aO).rep (fun w=>K w∧Hs [.ext kZ rU] w) tp nW.1∧(aO).rep (fun w=>K w∧Hs [.ext kZ rU] w) vI nW.1) ?_ ?_
     ·
      refine dy mixed (.iH [] [(0,[3]),(1,[6]),(2,[7]),(3,[61,62]),(4,[63])] (.alt 5 [60,64] (.iH [] [(6,[65]),(7,[59]),(8,[59])] (.alt 9 [] (.iH [(6,[65]),(7,[59]),(8,[59])] [] (.alt 10 [10,66] (.iH [(8,[59])] [] (.alt 11 [67] (.fin [] []) .no)) .no)) .no)) (.alt 9 [] (.iH [(0,[3]),(1,[6]),(2,[7]),(3,[61,62]),(4,[63])] [] (.alt 5 [60,64] (.iH [] [(6,[65]),(7,[59]),(8,[59])] (.alt 10 [10,66] (.iH [(8,[59])] [] (.alt 11 [67] (.fin [] []) .no)) .no)) .no)) .no))) (by kernel_rfl) ?_
      refine T0 ?_
      refine NV rf rf (aj rfl (aJ.len _ f1)) ?_
      refine NS 2 rf ?_
      refine NV rf rf (dL (m:=(Int.toNat bZ)) (Fz.row (e:=3) (sz:=1) (L:=(LI .i64)) (xs:=iT) rfl mA) rfl rfl rfl (ay oZ).1 (ay oZ).2) ?_
      refine NV rf rf (dJ (Fz.row (e:=3) (sz:=1) (L:=(LI .i64)) (xs:=iT) rfl mA) (aN.idx (L:=(LI .i64)) (m:=(iT.length)) (k:=1) ((Int.toNat bZ)) (ay oZ).2 rfl) rfl) ?_
      refine bA ?_
      refine X2 rf rf (dW (gW (K:=K) (mo f1) Co) rfl) (fun ⟨N7,kZ,rU⟩ EJ=>?_) ?_
      ·
       obtain ⟨tp,rfl,f54⟩:=EJ
       replace f54:(aO).rep (fun w=>K w∧Hs [.ext kZ rU] w) tp nW.1:=f54
       refine T0 ?_
       refine NE 3 rf ?_
       refine X1 rf rf (bk (hz:=(⟨by kernel_rfl⟩ : bY Try.prog 50 fc))) fun nS _=>?_
       refine eA ?_ ?_
       ·
        exact RE 3 rf rf
       refine bA ?_
       obtain ⟨vI,Fb,f57⟩:=zu (C:=(fun w=>K w∧Hs [.ext kZ rU] w)) (x':=nW.1) (aN.id (L:=aO)) fb (mo f54) rf
       refine X0 rf (zD Fb rf rf rf rf) ?_
       refine eA ?_ ?_
       ·
        exact RE 1 rf rf
       refine bA ?_
       refine XV rf rf (aC rfl) ?_
       refine rT ?_
       exact CE [0,1,2,3,4,5,6,7] (tp,kZ,rU,nS,vI) ⟨f54,f57⟩ rf rf rf
      refine X2 rf rf (bk (hz:=(⟨by kernel_rfl⟩ : bY Try.prog 50 fc))) (fun nS _=>?_) ?_
      ·
       refine eA ?_ ?_
       ·
        refine RO rf rf (aj rfl (aJ.len _ f1)) rf ?_
        refine J4 2 rf rf ?_
        refine RO rf rf (dL (m:=(Int.toNat bZ)) (Fz.row (e:=3) (sz:=1) (L:=(LI .i64)) (xs:=iT) rfl mA) rfl rfl rfl (ay oZ).1 (ay oZ).2) rf ?_
        refine RO rf rf (dJ (Fz.row (e:=3) (sz:=1) (L:=(LI .i64)) (xs:=iT) rfl mA) (aN.idx (L:=(LI .i64)) (m:=(iT.length)) (k:=1) ((Int.toNat bZ)) (ay oZ).2 rfl) rfl) rf ?_
        exact gQ
       refine bA ?_
       refine X1 rf rf (dW (gW (K:=K) (mo f1) Co) rfl) fun ⟨N7,kZ,rU⟩ EJ=>?_
       obtain ⟨tp,rfl,f54⟩:=EJ
       replace f54:(aO).rep (fun w=>K w∧Hs [.ext kZ rU] w) tp nW.1:=f54
       refine T0 ?_
       refine NE 3 rf ?_
       obtain ⟨vI,Fb,f57⟩:=zu (C:=(fun w=>K w∧Hs [.ext kZ rU] w)) (x':=nW.1) (aN.id (L:=aO)) fb (mo f54) rf
       refine X0 rf (zD Fb rf rf rf rf) ?_
       refine eA ?_ ?_
       ·
        exact RE 1 rf rf
       refine bA ?_
       refine XV rf rf (aC rfl) ?_
       refine rT ?_
       exact CE [1,0,2,3,4,5,6,7] (tp,kZ,rU,nS,vI) ⟨f54,f57⟩ rf rf rf
      exact p6
     ·
      rintro ⟨tp,kZ,rU,nS,vI⟩ ⟨f54,f57⟩
      obtain ⟨zE,Am,_,h⟩:=jd h
      refine SC 6 rf ?_
      refine GB rf rf rf (fun hb=>aH rfl) ?_
      refine GB rf rf rf (fun hb=>bG (bT rfl hb) (cF.int f47)) ?_
      refine GB rf rf rf (fun hb=>lq (bT rfl hb) rfl) ?_
      refine GB rf rf rf (fun hb=>aH rfl) ?_
      refine GB rf rf rf (fun hb=>bG (bT rfl hb) (dI.int f57)) ?_
      refine GB rf rf rf (fun hb=>j5 (bT rfl hb) (bT rfl hb)) ?_
      refine ag rfl (dV rfl rfl) ?_
      refine ag rfl (ah rfl) ?_
      refine GB rf rf rf (fun hb=>aH rfl) ?_
      refine GB rf rf rf (fun hb=>bG (bT rfl hb) (jZ.int f47)) ?_
      refine GB rf rf rf (fun hb=>aH rfl) ?_
      refine GB rf rf rf (fun hb=>bG (bT rfl hb) (iw.int f57)) ?_
      refine GB rf rf rf (fun hb=>j5 (bT rfl hb) (bT rfl hb)) ?_
      refine ag rfl (dV rfl rfl) ?_
      refine ag rfl (ah rfl) ?_
      refine GB rf rf rf (fun hb=>aH rfl) ?_
      obtain ⟨FL,Fa,f59⟩:=pJ (me.get f47)
      refine GB rf rf rf (fun hb=>aR (bT rfl hb) Fa (aJ.len _ f59)) ?_
      refine GB rf rf rf (fun hb=>aH rfl) ?_
      obtain ⟨y7,E9,f61⟩:=pJ (mg.get f57)
      refine GB rf rf rf (fun hb=>aR (bT rfl hb) E9 (aJ.len _ f61)) ?_
      refine GB rf rf rf (fun hb=>bD (uA (K:=(fun w=>K w∧Hs [.ext ij nE, .ext kZ rU] w)) (mo f59) (mo f61) (Am hb)) (aU (bT rfl hb) (aU (bT rfl hb) rfl)) kn) ?_
      refine GB rf rf rf (fun hb=>eW (bT rfl hb)) ?_
      refine ag rfl (dV rfl rfl) ?_
      refine SL 2 rf ?_
      refine eS h rf (fun hc h=>?_) fun hc h=>?_
      ·
       refine SC 12 rf ?_
       have h:=sj h; subst h
       exact RV rf (rt rf rn) rf
      ·
       refine SC 8 rf ?_
       obtain ⟨Ld,Iv,h⟩:=ld h
       refine LO (β:=Int) [2,3,5,6,7,8,10] [0,1,2,3,4,5,6,7] (fun (Ht,nM)=>[(12, .int .i64 nM)]) (fun (Ht,nM)=>[.cells nS 50 vI, .ext kZ rU, .cells b8 38 y8, .ext ij nE,Row tJ 3 1 (LI .i64) iT,Row r7 32 1 (LI .u32) bp, .cells b3 53 lH, .cells b2 41 ct]) (fun (Ht,nM)=>ef Ld Ht nM = some r) (n,0) h rf rf rf ?_
       rintro Ht nM h
       replace h:=k9 Iv h; obtain ⟨Ht,rfl,h⟩:=h
       refine SC 7 rf ?_
       refine eS h rf (fun hc h=>?_) fun hc h=>?_
       ·
        refine SC 5 rf ?_
        obtain ⟨sq,h⟩:=cD h
        obtain ⟨wR,h⟩:=cD h
        refine dy mixed (.fin [] [(0,[12]),(1,[8]),(2,[97,98]),(3,[99]),(4,[100]),(5,[12]),(6,[10]),(7,[102,103]),(8,[104]),(9,[101,105])]) (by kernel_rfl) ?_
        refine F0 ?_
        refine NS 2 rf ?_
        refine NV rf rf (bV (m:=(Int.toNat nM)) rfl rfl (ay sq).1 (ay sq).2) ?_
        refine NV rf rf (bG rfl ((dN.comp (aN.idx (L:=(LI .u32)) (m:=8) (k:=1) ((Int.toNat nM)) (ay sq).2 rfl)).int f47)) ?_
        refine NS 3 rf ?_
        refine NV rf rf (bV (m:=(Int.toNat nM)) rfl rfl (ay wR).1 (ay wR).2) ?_
        refine NV rf rf (bG rfl ((dO.comp (aN.idx (L:=(LI .i64)) (m:=8) (k:=1) ((Int.toNat nM)) (ay wR).2 rfl)).int f57)) ?_
        refine NE 1 rf ?_
        refine aI ?_
        refine eS h rf (fun hc h=>?_) fun hc h=>?_
        ·
         refine SC 15 rf ?_
         have h:=sj h; subst h
         exact RV rf (rt rf rn) rf
        ·
         refine SC 8 rf ?_
         exact LN [0,1,2,3,4,5,6,7] (wr .i64 (nM + 1)) h rf rf rf
       ·
        refine SC 11 rf ?_
        exact LN [4,5,6,7] (wr .i64 (bZ + 1)) h rf rf rf
  ·
   refine SC 11 rf ?_
   have h:=sj h; subst h
   exact RV rf (rt rf rn) rf
def bB (n:Nat) (a0:ai) (a1:Int):Option Bool:=
 bd (bM n a0.B a1) fun bp =>
 some (decide (0 ≤ bp))
theorem bO {n a0 a1 r K} [bF K] {ct} (f0:(ak).rep K ct a0) (h:bB n a0 a1 = some r):qM Try.prog 21 [A ct, .int .i64 a1] K (.bool r):=by
 unfold bB at h
 refine fo Try.func21 (by kernel_rfl) rfl Try.ntmps21 rfl fun cx _ hro dc hpre=>?_
 refine SC 2 rf ?_
 refine W1 rf (bH rfl) fun b2=>?_
 obtain ⟨bp,cu,h⟩:=bu h
 refine SL 6 rf ?_
 refine ag rfl (aR rfl (bg.iff.1 (bN.get f0)) (bx _ _)) ?_
 refine ag rfl (ah rfl) ?_
 refine CV (cE cu) rf rf ?_
 refine SL 5 rf ?_
 have h:=sj h; subst h
 exact RV rf (rt rf rn) rf
def g5 (n:Nat) (a0:Int):Option Bool:=
 some (decide (0 ≤ a0) && decide (a0 ≤ 64))
theorem n3 {n a0 r}  (h:g5 n a0 = some r):xE Try.prog 59 [.int .i64 a0] (.bool r):=by
 unfold g5 at h
 refine eR Try.func59 (by kernel_rfl) rfl Try.ntmps59 rfl (fun cx dc hpre hro=>?_)
 refine SC 10 rf ?_
 refine GB rf rf rf (fun hb=>ah rfl) ?_
 refine GB rf rf rf (fun hb=>nw (bT rfl hb) rfl) ?_
 refine ag rfl (cM rfl rfl) ?_
 refine SL 4 rf ?_
 have h:=sj h; subst h
 exact RV rf (rt rf rn) rf
def dP (n:Nat) (a0:au) (a1:Int) (a2:bE):Option (au × Int):=
 bd (aY n a0.book.iP a1) fun bp =>
 cn ((!bp)) (
 some (a0,4)) (
 bd (g5 n a2.cq) fun iT =>
 cl ((!iT) == false) (eZ n a2.E) default fun eN =>
 cn (((!iT) || (!eN))) (
 some (a0,2)) (
 bd (bU n a1) fun fA =>
 gu (dU fA.1 32) <|
 lt ({ a2 with Up:=(a0.regions (Int.toNat fA.1)).Up }:bE) fun fY =>
 gu (dU fA.1 32) <|
 lt ({ a0 with regions:=(eO a0.regions (Int.toNat fA.1) fY) }:au) fun fO =>
 some (fO,0)))
theorem jo {n a0 a1 a2 r K} [bF K] {ct} (f0:(ae).rep K ct a0) {uT:List Value} (f2:(ax).rep K uT a2) (h:dP n a0 a1 a2 = some r):p9 Try.prog 31 [A ct, .int .u32 a1,A uT] K (fun J v=>∃u0,v = (.tuple #[A u0, .int .i64 r.2])∧(ae).rep (fun w=>K w∧J w) u0 (r.1)):=by
 unfold dP at h
 refine fo Try.func31 (by kernel_rfl) rfl Try.ntmps31 rfl fun cx _ hro dc hpre=>?_
 refine SC 2 rf ?_
 refine W1 rf (bH rfl) fun b3=>?_
 refine W1 rf (bH rfl) fun b5=>?_
 refine W1 rf (bk (hz:=(⟨by kernel_rfl⟩ : bY Try.prog 41 av))) fun b6=>?_
 obtain ⟨bp,cu,h⟩:=bu h
 refine SL 9 rf ?_
 refine ag rfl (aR rfl (bg.iff.1 ((aQ.c0 aV).get f0)) (bx _ _)) ?_
 refine ag rfl (ah rfl) ?_
 refine CV (bf cu) rf rf ?_
 refine SL 4 rf ?_
 refine eS h rf (fun hc h=>?_) fun hc h=>?_
 ·
  refine SC 2 rf ?_
  refine ag rfl (aj rfl (aJ.len _ f0)) ?_
  refine ST (C:=K) a0 (aN.id (L:=ae)) aD (mo f0) rf rf rf rf rf fun FP f23=>?_
  refine SL 6 rf ?_
  have h:=sj h; subst h
  exact k7 [] rf rf (ra rf (aJ.len _ f23) (rt rf rn)) ⟨_,rfl,(mo f23)⟩
 ·
  obtain ⟨iT,nh,h⟩:=bu h
  obtain ⟨eN,ru,_,h⟩:=jd h
  refine SC 3 rf ?_
  refine ag rfl (bG rfl (jZ.int f2)) ?_
  refine CV (n3 nh) rf rf ?_
  refine SL 2 rf ?_
  refine GB rf rf rf (fun hb=>aH rfl) ?_
  obtain ⟨Ba,Fe,f27⟩:=pJ (me.get f2)
  refine GB rf rf rf (fun hb=>aR (bT rfl hb) Fe (aJ.len _ f27)) ?_
  refine GB rf rf rf (fun hb=>bD (nR (K:=K) (mo f27) (ru hb)) (aU (bT rfl hb) rfl) kn) ?_
  refine GB rf rf rf (fun hb=>eW (bT rfl hb)) ?_
  refine ag rfl (dV rfl rfl) ?_
  refine SL 3 rf ?_
  refine eS h rf (fun hc h=>?_) fun hc h=>?_
  ·
   refine SC 2 rf ?_
   refine ag rfl (aj rfl (aJ.len _ f0)) ?_
   refine ST (C:=K) a0 (aN.id (L:=ae)) aD (mo f0) rf rf rf rf rf fun OL f30=>?_
   refine SL 6 rf ?_
   have h:=sj h; subst h
   exact k7 [] rf rf (ra rf (aJ.len _ f30) (rt rf rn)) ⟨_,rfl,(mo f30)⟩
  ·
   obtain ⟨fA,pP,h⟩:=bu h
   refine SC 6 rf ?_
   refine CV (de pP) rf rf ?_
   obtain ⟨EX,h⟩:=cD h
   obtain ⟨fY,tW,h⟩:=cQ h
   refine SL 11 rf ?_
   refine ag rfl (bV (m:=(Int.toNat fA.1)) rfl rfl (ay EX).1 (ay EX).2) ?_
   refine ag rfl (eX rfl) ?_
   refine ag rfl (bG rfl (((dF.comp (aN.idx (L:=ax) (m:=32) (k:=12) ((Int.toNat fA.1)) (ay EX).2 rfl)).comp cF).int f0)) ?_
   refine ag rfl (aH rfl) ?_
   refine ST (C:=K) fY cF (mo f2) fl tW rf rf rf rf fun QI f36=>?_
   obtain ⟨pS,h⟩:=cD h
   obtain ⟨fO,vq,h⟩:=cQ h
   refine SL 5 rf ?_
   refine ag rfl (aj rfl (aJ.len _ f36)) ?_
   refine ag rfl (aH rfl) ?_
   refine ag rfl (bV (m:=(Int.toNat fA.1)) rfl rfl (ay pS).1 (ay pS).2) ?_
   refine ST (C:=K) fO (dF.comp (aN.idx (L:=ax) (m:=32) (k:=12) ((Int.toNat fA.1)) (ay pS).2 rfl)) (mo f0) (mo f36) vq rf rf rf rf fun xm f40=>?_
   refine SL 4 rf ?_
   refine ag rfl (aj rfl (aJ.len _ f40)) ?_
   refine ST (C:=K) fO (aN.id (L:=ae)) aD (mo f40) rf rf rf rf rf fun QG f42=>?_
   refine SL 4 rf ?_
   have h:=sj h; subst h
   exact k7 [] rf rf (ra rf (aJ.len _ f42) (rt rf rn)) ⟨_,rfl,(mo f42)⟩
def eK (n:Nat) (a0:ai) (a1:Int) (a2:cr):Option (ai × Int):=
 bd (bM n a0.B a1) fun bp =>
 cn (decide (bp < 0)) (
 some (a0,4)) (
 cl ((decide (a2.cq < 0) || decide (64 < a2.cq)) == false) (dz n a2.E) default fun cR =>
 cn (((decide (a2.cq < 0) || decide (64 < a2.cq)) || (!cR))) (
 some (a0,2)) (
 gu (dU bp 32) <|
 lt ({ a2 with Up:=(a0.R (Int.toNat bp)).Up }:cr) fun fA =>
 gu (dU bp 32) <|
 lt ({ a0 with R:=(eO a0.R (Int.toNat bp) fA) }:ai) fun gi =>
 some (gi,0)))
theorem pe {n a0 a1 a2 r K} [bF K] {ct} (f0:(ak).rep K ct a0) {uT:List Value} (f2:(aO).rep K uT a2) (h:eK n a0 a1 a2 = some r):p9 Try.prog 32 [A ct, .int .i64 a1,A uT] K (fun J v=>∃u0,v = (.tuple #[A u0, .int .i64 r.2])∧(ak).rep (fun w=>K w∧J w) u0 (r.1)):=by
 unfold eK at h
 refine fo Try.func32 (by kernel_rfl) rfl Try.ntmps32 rfl fun cx _ hro dc hpre=>?_
 refine SC 2 rf ?_
 refine W1 rf (bH rfl) fun b3=>?_
 refine W1 rf (bH rfl) fun b5=>?_
 refine W1 rf (bk (hz:=(⟨by kernel_rfl⟩ : bY Try.prog 53 aE))) fun b6=>?_
 obtain ⟨bp,cu,h⟩:=bu h
 refine SL 6 rf ?_
 refine ag rfl (aR rfl (bg.iff.1 (bN.get f0)) (bx _ _)) ?_
 refine ag rfl (ah rfl) ?_
 refine CV (cE cu) rf rf ?_
 refine SL 10 rf ?_
 refine eS h rf (fun hc h=>?_) fun hc h=>?_
 ·
  refine SC 2 rf ?_
  refine ag rfl (aj rfl (aJ.len _ f0)) ?_
  refine ST (C:=K) a0 (aN.id (L:=ak)) aP (mo f0) rf rf rf rf rf fun FP f23=>?_
  refine SL 5 rf ?_
  have h:=sj h; subst h
  exact k7 [] rf rf (ra rf (aJ.len _ f23) (rt rf rn)) ⟨_,rfl,(mo f23)⟩
 ·
  obtain ⟨cR,lA,_,h⟩:=jd h
  refine SC 6 rf ?_
  refine ag rfl (bG rfl (iw.int f2)) ?_
  refine SL 2 rf ?_
  refine GB rf rf rf (fun hb=>aH rfl) ?_
  refine GB rf rf rf (fun hb=>bG (bT rfl hb) (iw.int f2)) ?_
  refine GB rf rf rf (fun hb=>kW (bT rfl hb) rfl) ?_
  refine ag rfl (dV rfl rfl) ?_
  refine ag rfl (ah rfl) ?_
  refine GB rf rf rf (fun hb=>aH rfl) ?_
  obtain ⟨BK,M9,f26⟩:=pJ (mg.get f2)
  refine GB rf rf rf (fun hb=>aR (bT rfl hb) M9 (aJ.len _ f26)) ?_
  refine GB rf rf rf (fun hb=>bD (oN (K:=K) (mo f26) (lA hb)) (aU (bT rfl hb) rfl) kn) ?_
  refine GB rf rf rf (fun hb=>eW (bT rfl hb)) ?_
  refine ag rfl (dV rfl rfl) ?_
  refine SL 2 rf ?_
  refine eS h rf (fun hc h=>?_) fun hc h=>?_
  ·
   refine SC 2 rf ?_
   refine ag rfl (aj rfl (aJ.len _ f0)) ?_
   refine ST (C:=K) a0 (aN.id (L:=ak)) aP (mo f0) rf rf rf rf rf fun qx f29=>?_
   refine SL 5 rf ?_
   have h:=sj h; subst h
   exact k7 [] rf rf (ra rf (aJ.len _ f29) (rt rf rn)) ⟨_,rfl,(mo f29)⟩
  ·
   obtain ⟨wV,h⟩:=cD h
   obtain ⟨fA,pP,h⟩:=cQ h
   refine SC 6 rf ?_
   refine ag rfl (bV (m:=(Int.toNat bp)) rfl rfl (ay wV).1 (ay wV).2) ?_
   refine ag rfl (eX rfl) ?_
   refine ag rfl (bG rfl (((cw.comp (aN.idx (L:=aO) (m:=32) (k:=12) ((Int.toNat bp)) (ay wV).2 rfl)).comp dI).int f0)) ?_
   refine ag rfl (aH rfl) ?_
   refine ST (C:=K) fA dI (mo f2) fl pP rf rf rf rf fun xn f34=>?_
   obtain ⟨jN,h⟩:=cD h
   obtain ⟨gi,j4,h⟩:=cQ h
   refine SL 5 rf ?_
   refine ag rfl (aj rfl (aJ.len _ f34)) ?_
   refine ag rfl (aH rfl) ?_
   refine ag rfl (bV (m:=(Int.toNat bp)) rfl rfl (ay jN).1 (ay jN).2) ?_
   refine ST (C:=K) gi (cw.comp (aN.idx (L:=aO) (m:=32) (k:=12) ((Int.toNat bp)) (ay jN).2 rfl)) (mo f0) (mo f34) j4 rf rf rf rf fun A9 f38=>?_
   refine SL 4 rf ?_
   refine ag rfl (aj rfl (aJ.len _ f38)) ?_
   refine ST (C:=K) gi (aN.id (L:=ak)) aP (mo f38) rf rf rf rf rf fun xm f40=>?_
   refine SL 4 rf ?_
   have h:=sj h; subst h
   exact k7 [] rf rf (ra rf (aJ.len _ f40) (rt rf rn)) ⟨_,rfl,(mo f40)⟩
def eu (n:Nat) (a0:au) (a1:Int):Option (au × Int):=
 bd (gq n a0.book.iP a1) fun bp =>
 cn ((!bp.2)) (
 some (a0,4)) (
 lt ({ a0 with book:={ a0.book with iP:=bp.1 } }:au) fun iT =>
 bd (bU n a1) fun eN =>
 lt ({ Up:=0,cq:=0,E:=eL,Cells:=(fun _=>0) }:bE) fun eH =>
 gu (dU eN.1 32) <|
 lt ({ iT with regions:=(eO iT.regions (Int.toNat eN.1) eH) }:au) fun j7 =>
 some (j7,0))
theorem oK {n a0 a1 r K} [bF K] {ct} (f0:(ae).rep K ct a0) (h:eu n a0 a1 = some r):p9 Try.prog 41 [A ct, .int .u32 a1] K (fun J v=>∃u0,v = (.tuple #[A u0, .int .i64 r.2])∧(ae).rep (fun w=>K w∧J w) u0 (r.1)):=by
 unfold eu at h
 refine fo Try.func41 (by kernel_rfl) rfl Try.ntmps41 rfl fun cx _ hro dc hpre=>?_
 refine SC 2 rf ?_
 refine W1 rf (bH rfl) fun b2=>?_
 refine W1 rf (bk (hz:=(⟨by kernel_rfl⟩ : bY Try.prog 41 av))) fun b4=>?_
 obtain ⟨bp,cu,h⟩:=bu h
 refine SL 7 rf ?_
 refine ag rfl (aR rfl (bg.iff.1 ((aQ.c0 aV).get f0)) (bx _ _)) ?_
 refine ag rfl (ah rfl) ?_
 refine CV (oP cu) rf rf ?_
 refine SL 3 rf ?_
 refine W1 rf (cP (L:=aF) (z:=gT) ⟨by kernel_rfl⟩) fun b6=>?_
 refine W0 (dD (M:=aF) (aN.id (L:=aF)) bp.1 bp.1 rfl rfl rfl rfl rfl) ?_
 refine SL 10 rf ?_
 refine eS h rf (fun hc h=>?_) fun hc h=>?_
 ·
  refine SC 2 rf ?_
  refine ag rfl (aj rfl (aJ.len _ f0)) ?_
  refine ST (C:=K) a0 (aN.id (L:=ae)) aD (mo f0) rf rf rf rf rf fun FP f23=>?_
  refine SL 5 rf ?_
  have h:=sj h; subst h
  exact k7 [] rf rf (ra rf (aJ.len _ f23) (rt rf rn)) ⟨_,rfl,(mo f23)⟩
 ·
  obtain ⟨iT,nh,h⟩:=cQ h
  refine SC 4 rf ?_
  refine ag rfl (dR (M:=aF) (aN.id (L:=aF)) rfl rfl) ?_
  refine SL 2 rf ?_
  refine ST (C:=K) iT (aQ.c0 aV) (mo f0) fl nh rf rf rf rf fun Ba f27=>?_
  obtain ⟨eN,ru,h⟩:=bu h
  refine SL 5 rf ?_
  refine CV (de ru) rf rf ?_
  obtain ⟨eH,ow,h⟩:=cQ h
  obtain ⟨wU,h⟩:=cD h
  obtain ⟨j7,rq,h⟩:=cQ h
  refine SL 10 rf ?_
  obtain ⟨sE,uc,f31⟩ : ∃cc,(((LI .u32).enc 0)++(((LI .i64).enc 0)++(gh++((LA (LI .u32) 8).enc (fun _=>0))))) = cc∧(ax).rep (Hs []) cc eH:=⟨_,rfl,by rw [ow]; exact ⟨_,_,rfl,fl,⟨_,_,rfl,fl,⟨_,_,rfl,iA,fl⟩⟩⟩⟩
  refine ag rfl (iu (cs:=sE) rfl (by rw [← uc]; rfl)) ?_
  refine ag rfl (aH rfl) ?_
  refine ag rfl (bV (m:=(Int.toNat eN.1)) rfl rfl (ay wU).1 (ay wU).2) ?_
  refine ST (C:=K) j7 (dF.comp (aN.idx (L:=ax) (m:=32) (k:=12) ((Int.toNat eN.1)) (ay wU).2 rfl)) (mo f27) (mo f31) rq rf rf rf rf fun BJ f35=>?_
  refine SL 4 rf ?_
  refine ag rfl (aj rfl (aJ.len _ f35)) ?_
  refine ST (C:=K) j7 (aN.id (L:=ae)) aD (mo f35) rf rf rf rf rf fun tq f37=>?_
  refine SL 4 rf ?_
  have h:=sj h; subst h
  exact k7 [] rf rf (ra rf (aJ.len _ f37) (rt rf rn)) ⟨_,rfl,(mo f37)⟩
def dX (n:Nat) (a0:au) (a1:Int) (a2:Int):Option (au × Int):=
 bd (aY n a0.book.iP a1) fun bp =>
 cl (((!bp) == false) && ((a2 != 0) == true)) (aY n a0.book.iP a2) default fun cB =>
 cn (((!bp) || ((a2 != 0) && (!cB)))) (
 some (a0,4)) (
 ef (fun Ch (cR:Int) =>
 cn ((cR != 0)) (
 cn ((cR == a1)) (
 some (a0,12)) (
 bd (eV n a0 cR) fun fY =>
 Ch fY)) (
 bd (bU n a1) fun fZ =>
 gu (dU fZ.1 32) <|
 lt ({ a0 with regions:=(eO a0.regions (Int.toNat fZ.1) ({ (a0.regions (Int.toNat fZ.1)) with Up:=a2 })) }:au) fun gR =>
 some (gR,0))) n a2)
theorem ke {n a0 a1 a2 r K} [bF K] {ct} (f0:(ae).rep K ct a0) (h:dX n a0 a1 a2 = some r):p9 Try.prog 44 [A ct, .int .u32 a1, .int .u32 a2] K (fun J v=>∃u0,v = (.tuple #[A u0, .int .i64 r.2])∧(ae).rep (fun w=>K w∧J w) u0 (r.1)):=by
 unfold dX at h
 refine fo Try.func44 (by kernel_rfl) rfl Try.ntmps44 rfl fun cx _ hro dc hpre=>?_
 refine SC 2 rf ?_
 refine W1 rf (bH rfl) fun b3=>?_
 refine W1 rf (bk (hz:=(⟨by kernel_rfl⟩ : bY Try.prog 41 av))) fun b6=>?_
 obtain ⟨bp,cu,h⟩:=bu h
 obtain ⟨cB,gE,_,h⟩:=jd h
 refine SL 8 rf ?_
 refine ag rfl (aR rfl (bg.iff.1 ((aQ.c0 aV).get f0)) (bx _ _)) ?_
 refine ag rfl (ah rfl) ?_
 refine CV (bf cu) rf rf ?_
 refine SL 2 rf ?_
 refine GB rf rf rf (fun hb=>ah rfl) ?_
 refine GB rf rf rf (fun hb=>j5 (bT rfl hb) rfl) ?_
 refine GB rf rf rf (fun hb=>ah (bT rfl hb)) ?_
 refine cC (iO rfl rfl) rfl (fun hb=>aH rfl) ?_
 refine cC (iO rfl rfl) rfl (fun hb=>aH (bT rfl hb)) ?_
 refine cC (iO rfl rfl) rfl (fun hb=>aR (bT rfl hb) (bg.iff.1 ((aQ.c0 aV).get f0)) (bx _ _)) ?_
 refine cC (iO rfl rfl) rfl (fun hb=>ah rfl) ?_
 refine cC (iO rfl rfl) rfl (fun hb=>bD (bf (gE hb)) (aU (bT rfl hb) (aU (bT rfl hb) rfl)) (fun _ _ _=>trivial)) ?_
 refine cC (iO rfl rfl) rfl (fun hb=>eW (bT rfl hb)) ?_
 refine GB rf rf rf (fun hb=>cM (bT rfl hb) (w5 rfl hb)) ?_
 refine ag rfl (dV rfl rfl) ?_
 refine SL 2 rf ?_
 refine eS h rf (fun hc h=>?_) fun hc h=>?_
 ·
  refine SC 2 rf ?_
  refine ag rfl (aj rfl (aJ.len _ f0)) ?_
  refine ST (C:=K) a0 (aN.id (L:=ae)) aD (mo f0) rf rf rf rf rf fun xo f24=>?_
  refine SL 5 rf ?_
  have h:=sj h; subst h
  exact k7 [] rf rf (ra rf (aJ.len _ f24) (rt rf rn)) ⟨_,rfl,(mo f24)⟩
 ·
  refine SC 10 rf ?_
  obtain ⟨Lm,IG,h⟩:=ld h
  refine LO (β:=Int) [1,2,3,6] [0,1] (fun (HC,cR)=>[(8, .int .u32 cR)]) (fun (HC,cR)=>[.cells b6 41 av, .cells b3 41 ct]) (fun (HC,cR)=>ef Lm HC cR = some r) (n,a2) h rf rf rf ?_
  rintro HC cR h
  replace h:=k9 IG h; obtain ⟨HC,rfl,h⟩:=h
  refine SC 7 rf ?_
  refine eS h rf (fun hc h=>?_) fun hc h=>?_
  ·
   refine SC 11 rf ?_
   refine eS h rf (fun hc h=>?_) fun hc h=>?_
   ·
    refine SC 2 rf ?_
    refine ag rfl (aj rfl (aJ.len _ f0)) ?_
    refine ST (C:=K) a0 (aN.id (L:=ae)) aD (mo f0) rf rf rf rf rf fun Gy f32=>?_
    refine SL 9 rf ?_
    have h:=sj h; subst h
    exact k7 [] rf rf (ra rf (aJ.len _ f32) (rt rf rn)) ⟨_,rfl,(mo f32)⟩
   ·
    obtain ⟨fY,tW,h⟩:=bu h
    refine SC 4 rf ?_
    refine ag rfl (aj rfl (aJ.len _ f0)) ?_
    refine ag rfl (ah rfl) ?_
    refine CV (l6 (K:=K) (mo f0) tW) rf rf ?_
    refine SL 2 rf ?_
    exact LN [0,1] fY h rf rf rf
  ·
   obtain ⟨fZ,oX,h⟩:=bu h
   refine SC 8 rf ?_
   refine CV (de oX) rf rf ?_
   obtain ⟨lY,h⟩:=cD h
   obtain ⟨gR,ng,h⟩:=cQ h
   refine SL 12 rf ?_
   refine ag rfl (bV (m:=(Int.toNat fZ.1)) rfl rfl (ay lY).1 (ay lY).2) ?_
   refine ag rfl (eX rfl) ?_
   refine ST (C:=K) gR ((dF.comp (aN.idx (L:=ax) (m:=32) (k:=12) ((Int.toNat fZ.1)) (ay lY).2 rfl)).comp cF) (mo f0) fl ng rf rf rf rf fun KB f39=>?_
   refine SL 4 rf ?_
   refine ag rfl (aj rfl (aJ.len _ f39)) ?_
   refine ST (C:=K) gR (aN.id (L:=ae)) aD (mo f39) rf rf rf rf rf fun QH f41=>?_
   refine SL 4 rf ?_
   have h:=sj h; subst h
   exact k7 [] rf rf (ra rf (aJ.len _ f41) (rt rf rn)) ⟨_,rfl,(mo f41)⟩
def eI (n:Nat) (a0:au) (a1:Int) (a2:Int):Option (au × Int × Int):=
 cl ((a1 != 0) == true) (aY n a0.book.iP a1) default fun bp =>
 cn (((a1 != 0) && (!bp))) (
 some (a0,0,4)) (
 bd (g5 n a2) fun iT =>
 cn ((!iT)) (
 some (a0,0,2)) (
 bd (eY n a0.book.iP) fun eH =>
 cn ((!eH.2.2)) (
 some (a0,0,7)) (
 lt ({ a0 with book:={ a0.book with iP:=eH.1 } }:au) fun j7 =>
 bd (bU n eH.2.1) fun gi =>
 lt ({ Up:=a1,cq:=a2,E:=eL,Cells:=(fun _=>0) }:bE) fun gR =>
 gu (dU gi.1 32) <|
 lt ({ j7 with regions:=(eO j7.regions (Int.toNat gi.1) gR) }:au) fun ez =>
 some (ez,eH.2.1,0))))
theorem pb {n a0 a1 a2 r K} [bF K] {ct} (f0:(ae).rep K ct a0) (h:eI n a0 a1 a2 = some r):p9 Try.prog 48 [A ct, .int .u32 a1, .int .i64 a2] K (fun J v=>∃u0,v = (.tuple #[A u0, .int .u32 r.2.1, .int .i64 r.2.2])∧(ae).rep (fun w=>K w∧J w) u0 (r.1)):=by
 unfold eI at h
 refine fo Try.func48 (by kernel_rfl) rfl Try.ntmps48 rfl fun cx _ hro dc hpre=>?_
 refine SC 2 rf ?_
 refine W1 rf (bH rfl) fun b3=>?_
 refine W1 rf (bk (hz:=(⟨by kernel_rfl⟩ : bY Try.prog 41 av))) fun b6=>?_
 obtain ⟨bp,cu,_,h⟩:=jd h
 refine SL 11 rf ?_
 refine GB rf rf rf (fun hb=>aH rfl) ?_
 refine GB rf rf rf (fun hb=>aH (bT rfl hb)) ?_
 refine GB rf rf rf (fun hb=>aR (bT rfl hb) (bg.iff.1 ((aQ.c0 aV).get f0)) (bx _ _)) ?_
 refine GB rf rf rf (fun hb=>ah rfl) ?_
 refine GB rf rf rf (fun hb=>bD (bf (cu hb)) (aU (bT rfl hb) (aU (bT rfl hb) rfl)) (fun _ _ _=>trivial)) ?_
 refine GB rf rf rf (fun hb=>eW (bT rfl hb)) ?_
 refine ag rfl (cM rfl rfl) ?_
 refine SL 3 rf ?_
 refine eS h rf (fun hc h=>?_) fun hc h=>?_
 ·
  refine SC 2 rf ?_
  refine ag rfl (aj rfl (aJ.len _ f0)) ?_
  refine ST (C:=K) a0 (aN.id (L:=ae)) aD (mo f0) rf rf rf rf rf fun FP f23=>?_
  refine SL 7 rf ?_
  have h:=sj h; subst h
  exact k7 [] rf rf (ra rf (aJ.len _ f23) (rt rf (rt rf rn))) ⟨_,rfl,(mo f23)⟩
 ·
  obtain ⟨iT,nh,h⟩:=bu h
  refine SC 3 rf ?_
  refine CV (n3 nh) rf rf ?_
  refine SL 4 rf ?_
  refine eS h rf (fun hc h=>?_) fun hc h=>?_
  ·
   refine SC 2 rf ?_
   refine ag rfl (aj rfl (aJ.len _ f0)) ?_
   refine ST (C:=K) a0 (aN.id (L:=ae)) aD (mo f0) rf rf rf rf rf fun Ba f27=>?_
   refine SL 7 rf ?_
   have h:=sj h; subst h
   exact k7 [] rf rf (ra rf (aJ.len _ f27) (rt rf (rt rf rn))) ⟨_,rfl,(mo f27)⟩
  ·
   obtain ⟨eH,ow,h⟩:=bu h
   refine SC 7 rf ?_
   refine ag rfl (aR rfl (bg.iff.1 ((aQ.c0 aV).get f0)) (bx _ _)) ?_
   refine CV (nQ ow) rf rf ?_
   refine SL 4 rf ?_
   refine W1 rf (cP (L:=aF) (z:=gT) ⟨by kernel_rfl⟩) fun b9=>?_
   refine W0 (dD (M:=aF) (aN.id (L:=aF)) eH.1 eH.1 rfl rfl rfl rfl rfl) ?_
   refine SL 11 rf ?_
   refine eS h rf (fun hc h=>?_) fun hc h=>?_
   ·
    refine SC 2 rf ?_
    refine ag rfl (aj rfl (aJ.len _ f0)) ?_
    refine ST (C:=K) a0 (aN.id (L:=ae)) aD (mo f0) rf rf rf rf rf fun sE f31=>?_
    refine SL 6 rf ?_
    have h:=sj h; subst h
    exact k7 [] rf rf (ra rf (aJ.len _ f31) (rt rf (rt rf rn))) ⟨_,rfl,(mo f31)⟩
   ·
    obtain ⟨j7,rq,h⟩:=cQ h
    refine SC 4 rf ?_
    refine ag rfl (dR (M:=aF) (aN.id (L:=aF)) rfl rfl) ?_
    refine SL 2 rf ?_
    refine ST (C:=K) j7 (aQ.c0 aV) (mo f0) fl rq rf rf rf rf fun BJ f35=>?_
    obtain ⟨gi,j4,h⟩:=bu h
    refine SL 5 rf ?_
    refine CV (de j4) rf rf ?_
    obtain ⟨gR,ng,h⟩:=cQ h
    obtain ⟨mR,h⟩:=cD h
    obtain ⟨ez,vp,h⟩:=cQ h
    refine SL 12 rf ?_
    obtain ⟨KB,M6,f39⟩ : ∃cc,(((LI .u32).enc a1)++(((LI .i64).enc a2)++(gh++((LA (LI .u32) 8).enc (fun _=>0))))) = cc∧(ax).rep (Hs []) cc gR:=⟨_,rfl,by rw [ng]; exact ⟨_,_,rfl,fl,⟨_,_,rfl,fl,⟨_,_,rfl,iA,fl⟩⟩⟩⟩
    refine ag rfl (iu (cs:=KB) rfl (by rw [← M6]; rfl)) ?_
    refine ag rfl (aH rfl) ?_
    refine ag rfl (bV (m:=(Int.toNat gi.1)) rfl rfl (ay mR).1 (ay mR).2) ?_
    refine ST (C:=K) ez (dF.comp (aN.idx (L:=ax) (m:=32) (k:=12) ((Int.toNat gi.1)) (ay mR).2 rfl)) (mo f35) (mo f39) vp rf rf rf rf fun sD f43=>?_
    refine SL 4 rf ?_
    refine ag rfl (aj rfl (aJ.len _ f43)) ?_
    refine ag rfl (ah rfl) ?_
    refine ST (C:=K) ez (aN.id (L:=ae)) aD (mo f43) rf rf rf rf rf fun RQ f45=>?_
    refine SL 5 rf ?_
    have h:=sj h; subst h
    exact k7 [] rf rf (ra rf (aJ.len _ f45) (rt rf (rt rf rn))) ⟨_,rfl,(mo f45)⟩
def cm (n:Nat) (a0:ai) (a1:Int) (a2:Int):Option Bool:=
 ef (fun wK (cB:Int) =>
 cn ((cB != 0)) (
 bd (bM n a0.B cB) fun dS =>
 gu (dU dS 32) <|
 cn ((((a0.R (Int.toNat dS)).Up) == a1)) (
 some (a1 != 0)) (
 wK ((a0.R (Int.toNat dS)).Up))) (
 some false)) n a2
theorem iJ {n a0 a1 a2 r K} [bF K] {ct} (f0:(ak).rep K ct a0) (h:cm n a0 a1 a2 = some r):qM Try.prog 51 [A ct, .int .i64 a1, .int .i64 a2] K (.bool r):=by
 unfold cm at h
 refine fo Try.func51 (by kernel_rfl) rfl Try.ntmps51 rfl fun cx _ hro dc hpre=>?_
 refine SC 2 rf ?_
 refine W1 rf (bH rfl) fun b3=>?_
 refine SL 5 rf ?_
 obtain ⟨q8,ni,h⟩:=ld h
 refine LO (β:=Int) [1,3] [0] (fun (m7,cB)=>[(2, .int .i64 cB)]) (fun (m7,cB)=>[.cells b3 53 ct]) (fun (m7,cB)=>ef q8 m7 cB = some r) (n,a2) h rf rf rf ?_
 rintro m7 cB h
 replace h:=k9 ni h; obtain ⟨m7,rfl,h⟩:=h
 refine SC 7 rf ?_
 refine eS h rf (fun hc h=>?_) fun hc h=>?_
 ·
  obtain ⟨dS,mz,h⟩:=bu h
  obtain ⟨oB,h⟩:=cD h
  refine SC 6 rf ?_
  refine ag rfl (aR rfl (bg.iff.1 (bN.get f0)) (bx _ _)) ?_
  refine ag rfl (ah rfl) ?_
  refine CV (cE mz) rf rf ?_
  refine ag rfl (aH rfl) ?_
  refine ag rfl (bV (m:=(Int.toNat dS)) rfl rfl (ay oB).1 (ay oB).2) ?_
  refine ag rfl (eX rfl) ?_
  refine ag rfl (bG rfl (((cw.comp (aN.idx (L:=aO) (m:=32) (k:=12) ((Int.toNat dS)) (ay oB).2 rfl)).comp dI).int f0)) ?_
  refine SL 10 rf ?_
  refine eS h rf (fun hc h=>?_) fun hc h=>?_
  ·
   refine SC 12 rf ?_
   have h:=sj h; subst h
   exact RV rf (rt rf rn) rf
  ·
   refine SC 2 rf ?_
   exact LN [0] ((a0.R (Int.toNat dS)).Up) h rf rf rf
 ·
  refine SC 11 rf ?_
  have h:=sj h; subst h
  exact RV rf (rt rf rn) rf
def dQ (n:Nat) (a0:ai) (a1:Int):Option (ai × Int):=
 bd (bM n a0.B a1) fun bp =>
 cn (decide (bp < 0)) (
 some (a0,4)) (
 bd (fL n a0.B a1) fun iT =>
 lt ({ a0 with B:=iT.1 }:ai) fun dS =>
 lt ({ Up:=0,cq:=0,E:=cZ,Cells:=(fun _=>0) }:cr) fun eH =>
 gu (dU bp 32) <|
 lt ({ dS with R:=(eO dS.R (Int.toNat bp) eH) }:ai) fun j7 =>
 ec (fun Dt (gD:Int) (mW:ai) =>
 cn (decide (gD < 32)) (
 gu (dU gD 32) <|
 cn ((((mW.R (Int.toNat gD)).Up) == a1)) (
 gu (dU gD 32) <|
 lt ({ mW with R:=(eO mW.R (Int.toNat gD) ({ (mW.R (Int.toNat gD)) with Up:=0 })) }:ai) fun uV =>
 Dt (wr .i64 (gD + 1)) uV) (
 Dt (wr .i64 (gD + 1)) mW)) (
 some (mW,0))) n 0 j7)
theorem oM {n a0 a1 r K} [bF K] {ct} (f0:(ak).rep K ct a0) (h:dQ n a0 a1 = some r):p9 Try.prog 53 [A ct, .int .i64 a1] K (fun J v=>∃u0,v = (.tuple #[A u0, .int .i64 r.2])∧(ak).rep (fun w=>K w∧J w) u0 (r.1)):=by
 unfold dQ at h
 refine fo Try.func53 (by kernel_rfl) rfl Try.ntmps53 rfl fun cx _ hro dc hpre=>?_
 refine SC 2 rf ?_
 refine W1 rf (bH rfl) fun b2=>?_
 refine W1 rf (bk (hz:=(⟨by kernel_rfl⟩ : bY Try.prog 53 aE))) fun b4=>?_
 obtain ⟨bp,cu,h⟩:=bu h
 refine SL 6 rf ?_
 refine ag rfl (aR rfl (bg.iff.1 (bN.get f0)) (bx _ _)) ?_
 refine ag rfl (ah rfl) ?_
 refine CV (cE cu) rf rf ?_
 refine SL 10 rf ?_
 refine eS h rf (fun hc h=>?_) fun hc h=>?_
 ·
  refine SC 2 rf ?_
  refine ag rfl (aj rfl (aJ.len _ f0)) ?_
  refine ST (C:=K) a0 (aN.id (L:=ak)) aP (mo f0) rf rf rf rf rf fun FP f23=>?_
  refine SL 5 rf ?_
  have h:=sj h; subst h
  exact k7 [] rf rf (ra rf (aJ.len _ f23) (rt rf rn)) ⟨_,rfl,(mo f23)⟩
 ·
  obtain ⟨iT,nh,h⟩:=bu h
  obtain ⟨dS,mz,h⟩:=cQ h
  refine SC 5 rf ?_
  refine ag rfl (aR rfl (bg.iff.1 (bN.get f0)) (bx _ _)) ?_
  refine ag rfl (ah rfl) ?_
  refine CV (po nh) rf rf ?_
  refine SL 4 rf ?_
  refine ST (C:=K) dS bN (mo f0) fl mz rf rf rf rf fun pz f28=>?_
  obtain ⟨eH,ow,h⟩:=cQ h
  obtain ⟨wU,h⟩:=cD h
  obtain ⟨j7,rq,h⟩:=cQ h
  refine SL 5 rf ?_
  obtain ⟨sE,uc,f31⟩ : ∃cc,(((LI .i64).enc 0)++(((LI .i64).enc 0)++(gO++((LA (LI .i64) 8).enc (fun _=>0))))) = cc∧(aO).rep (Hs []) cc eH:=⟨_,rfl,by rw [ow]; exact ⟨_,_,rfl,fl,⟨_,_,rfl,fl,⟨_,_,rfl,iQ,fl⟩⟩⟩⟩
  refine ag rfl (iu (cs:=sE) rfl (by rw [← uc]; rfl)) ?_
  refine ag rfl (aH rfl) ?_
  refine ag rfl (bV (m:=(Int.toNat bp)) rfl rfl (ay wU).1 (ay wU).2) ?_
  refine ST (C:=K) j7 (cw.comp (aN.idx (L:=aO) (m:=32) (k:=12) ((Int.toNat bp)) (ay wU).2 rfl)) (mo f28) (mo f31) rq rf rf rf rf fun BJ f35=>?_
  refine SL 9 rf ?_
  obtain ⟨Lf,Iy,h⟩:=lT h
  refine kA ?_
  refine LO (β:=Int × ai × (List Value) × (List Nat) × (World→Prop)) [1,2,4] [0,1,2] (fun (Hv,gD,mW,CS,l8,tC)=>[(7, .int .i64 gD)]) (fun (Hv,gD,mW,CS,l8,tC)=>[.ext l8 tC, .cells b4 53 aE, .cells b2 53 CS]) (fun (Hv,gD,mW,CS,l8,tC)=>(ak).rep (fun w=>K w∧Hs [.ext l8 tC] w) CS mW∧ec Lf Hv gD mW = some r) (n,0,j7,BJ,[],(Hs [])) ⟨(mo f35),h⟩ rf rf rf ?_
  rintro Hv ⟨gD,mW,CS,l8,tC⟩ ⟨f48,h⟩
  replace h:=lS Iy h; obtain ⟨Hv,rfl,h⟩:=h
  refine SC 7 rf ?_
  refine eS h rf (fun hc h=>?_) fun hc h=>?_
  ·
   obtain ⟨EU,h⟩:=cD h
   refine SC 8 rf ?_
   refine ag rfl (bV (m:=(Int.toNat gD)) rfl rfl (ay EU).1 (ay EU).2) ?_
   refine ag rfl (eX rfl) ?_
   refine ag rfl (bG rfl (((cw.comp (aN.idx (L:=aO) (m:=32) (k:=12) ((Int.toNat gD)) (ay EU).2 rfl)).comp dI).int f48)) ?_
   refine SL 4 rf ?_
   refine eS h rf (fun hc h=>?_) fun hc h=>?_
   ·
    obtain ⟨wS,h⟩:=cD h
    obtain ⟨uV,yR,h⟩:=cQ h
    refine SC 3 rf ?_
    refine ag rfl (bV (m:=(Int.toNat gD)) rfl rfl (ay wS).1 (ay wS).2) ?_
    refine ag rfl (eX rfl) ?_
    refine ST (C:=(fun w=>K w∧Hs [.ext l8 tC] w)) uV ((cw.comp (aN.idx (L:=aO) (m:=32) (k:=12) ((Int.toNat gD)) (ay wS).2 rfl)).comp dI) (mo f48) fl yR rf rf rf rf fun tp f56=>?_
    refine SL 8 rf ?_
    refine bC (R:=[.ext l8 tC]) (H':=[.cells b4 53 aE, .cells b2 53 tp]) (ks:=[0,1,2]) rfl (by decide) ?_
    exact LN [0,1,2] (wr .i64 (gD + 1),uV,tp,(bI [.ext l8 tC]),(Hs [.ext l8 tC])) ⟨(mo f56),h⟩ rf rf rf
   ·
    refine SC 8 rf ?_
    refine bC (R:=[.ext l8 tC]) (H':=[.cells b4 53 aE, .cells b2 53 CS]) (ks:=[0,1,2]) rfl (by decide) ?_
    exact LN [0,1,2] (wr .i64 (gD + 1),mW,CS,(bI [.ext l8 tC]),(Hs [.ext l8 tC])) ⟨(mo f48),h⟩ rf rf rf
  ·
   refine SC 7 rf ?_
   refine ag rfl (aj rfl (aJ.len _ f48)) ?_
   refine ST (C:=(fun w=>K w∧Hs [.ext l8 tC] w)) mW (aN.id (L:=ak)) aP (mo f48) rf rf rf rf rf fun OJ f58=>?_
   refine SL 4 rf ?_
   have h:=sj h; subst h
   exact k7 [0] rf rf (ra rf (aJ.len _ f58) (rt rf rn)) ⟨_,rfl,(mo f58)⟩
def eC (n:Nat) (a0:ai) (a1:Int) (a2:Int):Option (ai × Int):=
 bd (bB n a0 a1) fun bp =>
 cl (((!bp) == false) && ((a2 != 0) == true)) (bB n a0 a2) default fun cB =>
 cn (((!bp) || ((a2 != 0) && (!cB)))) (
 some (a0,4)) (
 cl (((a2 != 0) == true) && ((a2 == a1) == false)) (cm n a0 a1 a2) default fun dS =>
 cn (((a2 != 0) && ((a2 == a1) || dS))) (
 some (a0,12)) (
 bd (bM n a0.B a1) fun bZ =>
 gu (dU bZ 32) <|
 lt ({ a0 with R:=(eO a0.R (Int.toNat bZ) ({ (a0.R (Int.toNat bZ)) with Up:=a2 })) }:ai) fun fA =>
 some (fA,0)))
theorem nP {n a0 a1 a2 r K} [bF K] {ct} (f0:(ak).rep K ct a0) (h:eC n a0 a1 a2 = some r):p9 Try.prog 55 [A ct, .int .i64 a1, .int .i64 a2] K (fun J v=>∃u0,v = (.tuple #[A u0, .int .i64 r.2])∧(ak).rep (fun w=>K w∧J w) u0 (r.1)):=by
 unfold eC at h
 refine fo Try.func55 (by kernel_rfl) rfl Try.ntmps55 rfl fun cx _ hro dc hpre=>?_
 refine SC 2 rf ?_
 refine W1 rf (bH rfl) fun b3=>?_
 refine W1 rf (bk (hz:=(⟨by kernel_rfl⟩ : bY Try.prog 53 aE))) fun b6=>?_
 obtain ⟨bp,cu,h⟩:=bu h
 obtain ⟨cB,gE,_,h⟩:=jd h
 refine SL 6 rf ?_
 refine ag rfl (aj rfl (aJ.len _ f0)) ?_
 refine ag rfl (ah rfl) ?_
 refine CV (bO (K:=K) (mo f0) cu) rf rf ?_
 refine SL 2 rf ?_
 refine GB rf rf rf (fun hb=>ah rfl) ?_
 refine GB rf rf rf (fun hb=>j5 (bT rfl hb) rfl) ?_
 refine GB rf rf rf (fun hb=>ah (bT rfl hb)) ?_
 refine cC (iO rfl rfl) rfl (fun hb=>aj rfl (aJ.len _ f0)) ?_
 refine cC (iO rfl rfl) rfl (fun hb=>ah rfl) ?_
 refine cC (iO rfl rfl) rfl (fun hb=>bD (bO (K:=K) (mo f0) (gE hb)) (aU (bT rfl hb) (aU (bT rfl hb) rfl)) kn) ?_
 refine cC (iO rfl rfl) rfl (fun hb=>eW (bT rfl hb)) ?_
 refine GB rf rf rf (fun hb=>cM (bT rfl hb) (w5 rfl hb)) ?_
 refine ag rfl (dV rfl rfl) ?_
 refine SL 2 rf ?_
 refine eS h rf (fun hc h=>?_) fun hc h=>?_
 ·
  refine SC 2 rf ?_
  refine ag rfl (aj rfl (aJ.len _ f0)) ?_
  refine ST (C:=K) a0 (aN.id (L:=ak)) aP (mo f0) rf rf rf rf rf fun xo f24=>?_
  refine SL 5 rf ?_
  have h:=sj h; subst h
  exact k7 [] rf rf (ra rf (aJ.len _ f24) (rt rf rn)) ⟨_,rfl,(mo f24)⟩
 ·
  obtain ⟨dS,mz,_,h⟩:=jd h
  refine SC 8 rf ?_
  refine GB rf rf rf (fun hb=>ah rfl) ?_
  refine GB rf rf rf (fun hb=>ah rfl) ?_
  refine GB rf rf rf (fun hb=>dM (bT rfl hb) (bT rfl hb)) ?_
  refine GB rf rf rf (fun hb=>ah (bT rfl hb)) ?_
  refine cC (iO rfl rfl) rfl (fun hb=>aj rfl (aJ.len _ f0)) ?_
  refine cC (iO rfl rfl) rfl (fun hb=>ah rfl) ?_
  refine cC (iO rfl rfl) rfl (fun hb=>ah rfl) ?_
  refine cC (iO rfl rfl) rfl (fun hb=>bD (iJ (K:=K) (mo f0) (mz hb)) (aU (bT rfl hb) (aU (bT rfl hb) (aU (bT rfl hb) rfl))) kn) ?_
  refine GB rf rf rf (fun hb=>dV (bT rfl hb) (w5 rfl hb)) ?_
  refine ag rfl (cM rfl rfl) ?_
  refine SL 2 rf ?_
  refine eS h rf (fun hc h=>?_) fun hc h=>?_
  ·
   refine SC 2 rf ?_
   refine ag rfl (aj rfl (aJ.len _ f0)) ?_
   refine ST (C:=K) a0 (aN.id (L:=ak)) aP (mo f0) rf rf rf rf rf fun pz f28=>?_
   refine SL 5 rf ?_
   have h:=sj h; subst h
   exact k7 [] rf rf (ra rf (aJ.len _ f28) (rt rf rn)) ⟨_,rfl,(mo f28)⟩
  ·
   obtain ⟨bZ,qu,h⟩:=bu h
   obtain ⟨wV,h⟩:=cD h
   obtain ⟨fA,pP,h⟩:=cQ h
   refine SC 5 rf ?_
   refine ag rfl (aR rfl (bg.iff.1 (bN.get f0)) (bx _ _)) ?_
   refine ag rfl (ah rfl) ?_
   refine CV (cE qu) rf rf ?_
   refine SL 2 rf ?_
   refine ag rfl (bV (m:=(Int.toNat bZ)) rfl rfl (ay wV).1 (ay wV).2) ?_
   refine ag rfl (eX rfl) ?_
   refine ST (C:=K) fA ((cw.comp (aN.idx (L:=aO) (m:=32) (k:=12) ((Int.toNat bZ)) (ay wV).2 rfl)).comp dI) (mo f0) fl pP rf rf rf rf fun xn f34=>?_
   refine SL 4 rf ?_
   refine ag rfl (aj rfl (aJ.len _ f34)) ?_
   refine ST (C:=K) fA (aN.id (L:=ak)) aP (mo f34) rf rf rf rf rf fun QI f36=>?_
   refine SL 4 rf ?_
   have h:=sj h; subst h
   exact k7 [] rf rf (ra rf (aJ.len _ f36) (rt rf rn)) ⟨_,rfl,(mo f36)⟩
def dm (n:Nat) (a0:ai) (a1:Int) (a2:Int):Option (ai × Int × Int):=
 cl ((a1 != 0) == true) (bB n a0 a1) default fun bp =>
 cn (((a1 != 0) && (!bp))) (
 some (a0,0,4)) (
 cn ((decide (a2 < 0) || decide (64 < a2))) (
 some (a0,0,2)) (
 bd (fx n a0.B) fun eN =>
 cn ((eN.2 == 0)) (
 some (a0,0,7)) (
 lt ({ a0 with B:=eN.1 }:ai) fun fA =>
 bd (bM n eN.1 eN.2) fun fZ =>
 lt ({ Up:=a1,cq:=a2,E:=cZ,Cells:=(fun _=>0) }:cr) fun gi =>
 gu (dU fZ 32) <|
 lt ({ fA with R:=(eO fA.R (Int.toNat fZ) gi) }:ai) fun jF =>
 some (jF,eN.2,0))))
theorem pg {n a0 a1 a2 r K} [bF K] {ct} (f0:(ak).rep K ct a0) (h:dm n a0 a1 a2 = some r):p9 Try.prog 62 [A ct, .int .i64 a1, .int .i64 a2] K (fun J v=>∃u0,v = (.tuple #[A u0, .int .i64 r.2.1, .int .i64 r.2.2])∧(ak).rep (fun w=>K w∧J w) u0 (r.1)):=by
 unfold dm at h
 refine fo Try.func62 (by kernel_rfl) rfl Try.ntmps62 rfl fun cx _ hro dc hpre=>?_
 refine SC 2 rf ?_
 refine W1 rf (bH rfl) fun b3=>?_
 refine W1 rf (bk (hz:=(⟨by kernel_rfl⟩ : bY Try.prog 53 aE))) fun b6=>?_
 obtain ⟨bp,cu,_,h⟩:=jd h
 refine SL 10 rf ?_
 refine GB rf rf rf (fun hb=>aj rfl (aJ.len _ f0)) ?_
 refine GB rf rf rf (fun hb=>ah rfl) ?_
 refine GB rf rf rf (fun hb=>bD (bO (K:=K) (mo f0) (cu hb)) (aU (bT rfl hb) (aU (bT rfl hb) rfl)) kn) ?_
 refine GB rf rf rf (fun hb=>eW (bT rfl hb)) ?_
 refine ag rfl (cM rfl rfl) ?_
 refine SL 2 rf ?_
 refine eS h rf (fun hc h=>?_) fun hc h=>?_
 ·
  refine SC 2 rf ?_
  refine ag rfl (aj rfl (aJ.len _ f0)) ?_
  refine ST (C:=K) a0 (aN.id (L:=ak)) aP (mo f0) rf rf rf rf rf fun FP f23=>?_
  refine SL 6 rf ?_
  have h:=sj h; subst h
  exact k7 [] rf rf (ra rf (aJ.len _ f23) (rt rf (rt rf rn))) ⟨_,rfl,(mo f23)⟩
 ·
  refine SC 8 rf ?_
  refine GB rf rf rf (fun hb=>ah rfl) ?_
  refine GB rf rf rf (fun hb=>kW (bT rfl hb) rfl) ?_
  refine ag rfl (dV rfl rfl) ?_
  refine SL 2 rf ?_
  refine eS h rf (fun hc h=>?_) fun hc h=>?_
  ·
   refine SC 2 rf ?_
   refine ag rfl (aj rfl (aJ.len _ f0)) ?_
   refine ST (C:=K) a0 (aN.id (L:=ak)) aP (mo f0) rf rf rf rf rf fun BK f26=>?_
   refine SL 6 rf ?_
   have h:=sj h; subst h
   exact k7 [] rf rf (ra rf (aJ.len _ f26) (rt rf (rt rf rn))) ⟨_,rfl,(mo f26)⟩
  ·
   obtain ⟨eN,ru,h⟩:=bu h
   refine SC 5 rf ?_
   refine ag rfl (aR rfl (bg.iff.1 (bN.get f0)) (bx _ _)) ?_
   refine CV (oO ru) rf rf ?_
   refine SL 3 rf ?_
   refine W1 rf (cP (L:=aK) (z:=iD) ⟨by kernel_rfl⟩) fun b9=>?_
   refine W0 (dD (M:=aK) (aN.id (L:=aK)) eN.1 eN.1 rfl rfl rfl rfl rfl) ?_
   refine SL 10 rf ?_
   refine eS h rf (fun hc h=>?_) fun hc h=>?_
   ·
    refine SC 2 rf ?_
    refine ag rfl (aj rfl (aJ.len _ f0)) ?_
    refine ST (C:=K) a0 (aN.id (L:=ak)) aP (mo f0) rf rf rf rf rf fun OL f30=>?_
    refine SL 6 rf ?_
    have h:=sj h; subst h
    exact k7 [] rf rf (ra rf (aJ.len _ f30) (rt rf (rt rf rn))) ⟨_,rfl,(mo f30)⟩
   ·
    obtain ⟨fA,pP,h⟩:=cQ h
    refine SC 4 rf ?_
    refine ag rfl (dR (M:=aK) (aN.id (L:=aK)) rfl rfl) ?_
    refine ag rfl (aH rfl) ?_
    refine ST (C:=K) fA bN (mo f0) fl pP rf rf rf rf fun xn f34=>?_
    obtain ⟨fZ,oX,h⟩:=bu h
    obtain ⟨gi,j4,h⟩:=cQ h
    obtain ⟨jk,h⟩:=cD h
    obtain ⟨jF,qt,h⟩:=cQ h
    refine SL 4 rf ?_
    refine ag rfl (dR (M:=aK) (aN.id (L:=aK)) rfl rfl) ?_
    refine ag rfl (ah rfl) ?_
    refine CV (cE oX) rf rf ?_
    refine SL 2 rf ?_
    obtain ⟨A9,AU,f38⟩ : ∃cc,(((LI .i64).enc a1)++(((LI .i64).enc a2)++(gO++((LA (LI .i64) 8).enc (fun _=>0))))) = cc∧(aO).rep (Hs []) cc gi:=⟨_,rfl,by rw [j4]; exact ⟨_,_,rfl,fl,⟨_,_,rfl,fl,⟨_,_,rfl,iQ,fl⟩⟩⟩⟩
    refine ag rfl (iu (cs:=A9) rfl (by rw [← AU]; rfl)) ?_
    refine ag rfl (aH rfl) ?_
    refine ag rfl (bV (m:=(Int.toNat fZ)) rfl rfl (ay jk).1 (ay jk).2) ?_
    refine ST (C:=K) jF (cw.comp (aN.idx (L:=aO) (m:=32) (k:=12) ((Int.toNat fZ)) (ay jk).2 rfl)) (mo f34) (mo f38) qt rf rf rf rf fun QG f42=>?_
    refine SL 4 rf ?_
    refine ag rfl (aj rfl (aJ.len _ f42)) ?_
    refine ag rfl (ah rfl) ?_
    refine ST (C:=K) jF (aN.id (L:=ak)) aP (mo f42) rf rf rf rf rf fun FO f44=>?_
    refine SL 5 rf ?_
    have h:=sj h; subst h
    exact k7 [] rf rf (ra rf (aJ.len _ f44) (rt rf (rt rf rn))) ⟨_,rfl,(mo f44)⟩
end Go.Proofs.Ytbalnnoofdkbaaa
namespace Go.Proofs.Ytbalnnoofdkbaaa
open Go Go.Bw
end Go.Proofs.Ytbalnnoofdkbaaa
namespace Go.Proofs.Ytbalnnoofdkbaaa
open Go Go.Bw
set_option maxRecDepth 100000 in
theorem fR {w:aL} {h:Int} (hg:bn w h = true):h < 4294967296:=zN (gw.1 hg).1
theorem ta (w:aL):bn w 0 = false:=rfl
theorem iB {w:aL} {h:Int} (hg:bR w h):0 < h:=by
  have:=hg.1
  rcases Int.lt_or_eq_of_le this with h1 | h1
  · exact h1
  · subst h1; have:=hg.2; rw [ta] at this; cases this
structure uL (p:bE) (x:cr):Prop where
  q:p.cq = x.cq
  e:p.E = ⟨x.E.bq.map mm,x.E.og⟩
  n:x.E.bq.length ≤ 80
  r:∀y ∈ x.E.bq.map mm,BO y.At∧BO y.N
  c:∀i,i < 8→p.Cells i = x.Cells i
  c0:∀i,i < 8→0 ≤ x.Cells i∧x.Cells i ≤ 4294967295
theorem uL.G5 {p:bE} {x:cr} (h:uL p x) (u v:Int):uL { p with Up:=u } { x with Up:=v }:=⟨h.q,h.e,h.n,h.r,h.c,h.c0⟩
def xI (B:aL) (h:Int):Int:=if bn B h = true then h else 0
structure fF (t:au) (w:ai):Prop where
  book:RB t.book.iP w.B
  zU:∀i,i < 32→w.B.Is i = 1→uL (t.regions i) (w.R i)
  up:∀i,i < 32→w.B.Is i = 1→(w.R i).Up = xI w.B (t.regions i).Up
  old:∀i,i < 32→w.B.Is i = 1→(t.regions i).Up = 0∨qe w.B (t.regions i).Up
def OS (w:ai) (ρ:Nat→Nat):Prop:=∀i,i < 32→w.B.Is i = 1→(w.R i).Up ≠ 0→ρ (ck (w.R i).Up) < ρ i
def iL (w:ai):Prop:=∃ρ:Nat→Nat,OS w ρ
theorem fF.Kk {t:au} {w:ai} (r:fF t w) {i:Nat} (hi:i < 32) (h1:w.B.Is i = 1):(w.R i).Up = 0∨bR w.B (w.R i).Up:=by
  rw [r.up i hi h1]
  unfold xI
  split
  · rename_i h
    rcases r.old i hi h1 with h2 | h2
    · exact .inl h2
    · exact .inr ⟨h2.1,h⟩
  · exact .inl rfl
theorem dA {w:aL} {x:Int} (h:bR w x):ck x < 32∧w.Is (ck x) = 1:=⟨kI x,(pT h.2).2.1⟩
theorem fF.D2 {t:au} {w:ai} (r:fF t w) {x:Int} (hx:bR w.B x):(w.R (ck x)).Up = 0∨bR w.B (w.R (ck x)).Up:=r.Kk (dA hx).1 (dA hx).2
theorem fI (h:Int):dU (iy h) 32 = true:=cL (eo h).1 (by have:=eo h; omega)
theorem zG {n:Nat} {t:au} {w:ai} (r:fF t w) {x:Int} (hx:bR w.B x):eV n t x = some (w.R (ck x)).Up:=by
  unfold eV
  obtain ⟨l1,l2⟩:=dA hx
  have ho:=r.old _ l1 l2
  have hu:0 ≤ (t.regions (ck x)).Up∧(t.regions (ck x)).Up < 4294967296:=by
    rcases ho with h | h
    · rw [h]; decide
    · exact ⟨h.1,zN h.2.1⟩
  rw [az (k8 hx.1 (fR hx.2)),aM (fI x)]
  show bd (aY n t.book.iP (t.regions (ck x)).Up) _ = _
  rw [az (jv r.book hu.1 hu.2),r.up _ l1 l2]
  unfold xI
  show cn (bn w.B (t.regions (ck x)).Up) (some (t.regions (ck x)).Up) (some 0) = _
  cases hg:bn w.B (t.regions (ck x)).Up with
  | true=>rw [aT rfl,if_pos rfl]
  | false=>rw [aA rfl,if_neg (by decide)]
def kF (t:au) (w:ai) (h:Int):bE:={ t.regions (ck h) with Up:=(w.R (ck h)).Up }
def Ej:bE:={ Up:=0,cq:=0,E:=eL,Cells:=(fun _=>0) }
theorem nJ {n:Nat} {t:au} {w:ai} (r:fF t w) {h:Int} (h0:0 ≤ h) (h1:h < 4294967296):cU n t h = some (if bn w.B h = true then (kF t w h,0) else (Ej,4)):=by
  unfold cU
  rw [az (jv r.book h0 h1)]
  cases hg:bn w.B h with
  | false=>rfl
  | true =>
    rw [aA (b:=!true) rfl,az (k8 h0 h1),aM (fI h),lt_eq,az (zG r ⟨h0,hg⟩),lt_eq,if_pos rfl]; rfl
theorem ot {n:Nat} (hn:40 ≤ n) {t:au} {w:ai} (r:fF t w) {h:Int} (hg:bR w.B h):ep n w h = some (w.R (ck h),0):=by
  unfold ep
  have hr:=eo h
  rw [az (di hn r.book hg.1),hg.2,if_pos rfl,aA (by simp; omega),aM (fI h),lt_eq]
  rfl
theorem bX {n:Nat} (hn:40 ≤ n) {t:au} {w:ai} (r:fF t w) {h:Int} (h0:0 ≤ h):bB n w h = some (bn w.B h):=by
  unfold bB
  have hr:=eo h
  rw [az (di hn r.book h0)]
  cases bn w.B h with
  | false=>rfl
  | true=>rw [if_pos rfl]; simpa using hr.1
structure Gf (t:au) (w:ai) (t' : au) (w' : ai) (who e:Int) (dr:Bool):Prop where
  rt:fF t' w'
  tt:iL w'
  kp:∀g,bR w.B g→¬ (g = who∧e = 0)→bR w'.B g∧(t'.regions (ck g)).cq = (t.regions (ck g)).cq∧(t'.regions (ck g)).E = (t.regions (ck g)).E∧(t'.regions (ck g)).Cells = (t.regions (ck g)).Cells ∧
    ((w'.R (ck g)).Up = (w.R (ck g)).Up∨(dr = true∧e = 0∧(w.R (ck g)).Up = who∧who ≠ 0∧(w'.R (ck g)).Up = 0))
theorem Gf.same {t:au} {w:ai} (r:fF t w) (tt:iL w) (who e:Int) (dr:Bool):Gf t w t w who e dr:=⟨r,tt,fun _ hg _=>⟨hg,rfl,rfl,rfl, .inl rfl⟩⟩
theorem tG {b:bz} {w:aL} (r:RB b w) {h:Int} (h0:0 ≤ h) (x:Int):bR (zo w h) x↔bR w x∧x ≠ h:=yX r h0 x
theorem D4 {b:bz} {w:aL} (r:RB b w) {h u:Int} (hg:bR w h) (hu:0 ≤ u):xI (zo w h) u = if xI w u = h then 0 else xI w u:=by
  have hv:=tG r hg.1 u
  have hp:=iB hg
  unfold xI
  cases h1:bn w u with
  | false =>
    have:bn (zo w h) u ≠ true:=fun h2=>by
      have:=(hv.1 ⟨hu,h2⟩).1.2; rw [h1] at this; cases this
    rw [if_neg this]; simp
  | true =>
    rw [if_pos rfl]
    by_cases e:u = h
    · rw [if_pos e,if_neg (fun h2=>(hv.1 ⟨hu,h2⟩).2 e)]
    · rw [if_neg e,if_pos (hv.2 ⟨⟨hu,h1⟩,e⟩).2]
theorem yG {n:Nat} (hn:40 ≤ n) (h:Int) (w:ai):∃w' : ai,ec (fun Dt (gD:Int) (mW:ai) =>
  cn (decide (gD < 32)) (
  gu (dU gD 32) <|
  cn ((((mW.R (Int.toNat gD)).Up) == h)) (
  gu (dU gD 32) <|
  lt ({ mW with R:=(eO mW.R (Int.toNat gD) ({ (mW.R (Int.toNat gD)) with Up:=0 })) }:ai) fun uV =>
  Dt (wr .i64 (gD + 1)) uV) (
  Dt (wr .i64 (gD + 1)) mW)) (
  some (mW,(0:Int)))) n 0 w = some (w',0)∧w'.B = w.B∧∀i,i < 32→w'.R i = if (w.R i).Up = h then { w.R i with Up:=0 } else w.R i:=by
  refine fy (fun (i:Int) (v:ai)=>0 ≤ i∧i ≤ 32∧v.B = w.B∧∀j,v.R j = if j < i.toNat∧(w.R j).Up = h then { w.R j with Up:=0 } else w.R j) (fun i _=>(32 - i).toNat)
    (fun o=>∃w' : ai,o = some (w',0)∧w'.B = w.B∧∀i,i < 32→w'.R i = if (w.R i).Up = h then { w.R i with Up:=0 } else w.R i) ?_ n 0 w ⟨by omega,by omega,rfl,fun j=>by simp⟩ (by omega)
  rintro kk i v ⟨i0,i1,hb,hv⟩ ih
  by_cases c:i < 32
  · have hi:=hv i.toNat
    rw [if_neg (fun hh=>absurd hh.1 (Nat.lt_irrefl _))] at hi
    rw [aT (by simpa using c),aM (cL i0 (by omega)),hi,cA (x:=i + 1) (by omega) (by omega)]
    have e1:(i + 1).toNat = i.toNat + 1:=by omega
    by_cases hu:(w.R i.toNat).Up = h
    · rw [aT (by simpa using hu),aM (cL i0 (by omega)),lt_eq]
      refine ih _ _ ⟨by omega,by omega,hb,fun j=>?_⟩ (by omega)
      show eO v.R i.toNat _ j = _
      rw [cK]
      by_cases ej:j = i.toNat
      · subst ej; rw [if_pos rfl,if_pos ⟨by omega,hu⟩]
      · rw [if_neg ej,hv j]
        by_cases hj:(w.R j).Up = h
        · by_cases hl:j < i.toNat
          · rw [if_pos ⟨hl,hj⟩,if_pos ⟨by omega,hj⟩]
          · rw [if_neg (fun hh=>hl hh.1),if_neg (fun hh=>by omega)]
        · rw [if_neg (fun hh=>hj hh.2),if_neg (fun hh=>hj hh.2)]
    · rw [aA (by simpa using hu)]
      refine ih _ _ ⟨by omega,by omega,hb,fun j=>?_⟩ (by omega)
      rw [hv j]
      by_cases ej:j = i.toNat
      · subst ej; rw [if_neg (fun hh=>hu hh.2),if_neg (fun hh=>hu hh.2)]
      · by_cases hj:(w.R j).Up = h
        · by_cases hl:j < i.toNat
          · rw [if_pos ⟨hl,hj⟩,if_pos ⟨by omega,hj⟩]
          · rw [if_neg (fun hh=>hl hh.1),if_neg (fun hh=>by omega)]
        · rw [if_neg (fun hh=>hj hh.2),if_neg (fun hh=>hj hh.2)]
  · rw [aA (by simpa using c)]
    refine ⟨v,rfl,hb,fun j hj=>?_⟩
    rw [hv j]
    by_cases hu:(w.R j).Up = h
    · rw [if_pos ⟨by omega,hu⟩,if_pos hu]
    · rw [if_neg (fun hh=>hu hh.2),if_neg hu]
theorem Jz {n:Nat} (hn:40 ≤ n) {t:au} {w:ai} (r:fF t w) (tt:iL w) {h:Int} (h0:0 ≤ h) (h1:h < 4294967296) :
    ∃t' w' e,eu n t h = some (t',e)∧dQ n w h = some (w',e)∧Gf t w t' w' h e true:=by
  obtain ⟨b',e1,r'⟩:=BS (n:=n) r.book h0 h1
  cases hg:bn w.B h with
  | false =>
    refine ⟨t,w,4,?_,?_, .same r tt _ _ _⟩
    · unfold eu; rw [az e1,hg]; rfl
    · unfold dQ; rw [az (di hn r.book h0),hg]; rfl
  | true =>
    have zx:bR w.B h:=⟨h0,hg⟩
    obtain ⟨w',c1,c2,c3⟩:=yG (n:=n) hn h { B:=zo w.B h,R:=eO w.R (ck h) { Up:=0,cq:=0,E:=cZ,Cells:=(fun _=>0) } }
    have hpos:=iB zx
    refine ⟨{ book:={ t.book with iP:=b' },regions:=eO t.regions (ck h) Ej },w',0,?_,?_,?_⟩
    · unfold eu; rw [az e1,hg,aA (b:=!true) rfl,lt_eq,az (k8 h0 h1),lt_eq,aM (fI h),lt_eq]; rfl
    · unfold dQ
      have hr:=eo h
      rw [az (di hn r.book h0),hg,if_pos rfl,aA (by simp; omega),az (ve hn r.book h0),lt_eq,lt_eq,aM (fI h),lt_eq]
      exact c1
    have hb:w'.B = zo w.B h:=c2
    have vu:∀i,i < 32→w'.B.Is i = 1→w.B.Is i = 1∧i ≠ ck h:=fun i hi hs=>by
      rw [hb] at hs
      refine ⟨(BT hs).1,fun e=>?_⟩
      subst e
      unfold zo at hs
      rw [hg,if_pos rfl] at hs
      exact qO w.B h hs
    have hR:∀i,i < 32→i ≠ ck h→w'.R i = if (w.R i).Up = h then { w.R i with Up:=0 } else w.R i:=fun i hi hne=>by
      have q:=c3 i hi
      simp only [je _ _ hne] at q
      exact q
    have hT:∀i,i ≠ ck h→eO t.regions (ck h) Ej i = t.regions i:=fun i hne=>je _ _ hne
    have hU:∀i,i < 32→i ≠ ck h→(w'.R i).Up = if (w.R i).Up = h then 0 else (w.R i).Up:=fun i hi hne=>by
      rw [hR i hi hne]; split <;> rfl
    refine ⟨⟨?_,fun i hi hs=>?_,fun i hi hs=>?_,fun i hi hs=>?_⟩,?_,fun g AN hne=>?_⟩
    · rw [hb]; exact r'
    · obtain ⟨l1,l2⟩:=vu i hi hs
      have:=r.zU i hi l1
      rw [hR i hi l2]
      dsimp only
      rw [hT i l2]
      split
      · exact ⟨this.q,this.e,this.n,this.r,this.c,this.c0⟩
      · exact this
    · obtain ⟨l1,l2⟩:=vu i hi hs
      dsimp only
      rw [hT i l2,hU i hi l2,hb]
      rw [D4 r.book zx,r.up i hi l1]
      rcases r.old i hi l1 with h | h
      · rw [h]; decide
      · exact h.1
    · obtain ⟨l1,l2⟩:=vu i hi hs
      dsimp only
      rw [hT i l2,hb]
      exact (r.old i hi l1).imp _root_.id fun hp=>yL (h:=h) _ hp
    · obtain ⟨ρ,hρ⟩:=tt
      refine ⟨ρ,fun i hi hs hu=>?_⟩
      obtain ⟨l1,l2⟩:=vu i hi hs
      rw [hU i hi l2] at hu ⊢
      by_cases e:(w.R i).Up = h
      · rw [if_pos e] at hu; exact absurd rfl hu
      · rw [if_neg e] at hu ⊢; exact hρ i hi l1 hu
    · have AA:g ≠ h:=fun e=>hne ⟨e,rfl⟩
      have DB:bR w'.B g:=by rw [hb]; exact (tG r.book h0 g).2 ⟨AN,AA⟩
      obtain ⟨l1,l2⟩:=vu (ck g) (kI g) (dA DB).2
      refine ⟨DB,?_,?_,?_,?_⟩
      · dsimp only; rw [hT _ l2]
      · dsimp only; rw [hT _ l2]
      · dsimp only; rw [hT _ l2]
      · rw [hU _ (kI g) l2]
        by_cases e:(w.R (ck g)).Up = h
        · rw [if_pos e]; exact .inr ⟨rfl,rfl,e,by omega,rfl⟩
        · rw [if_neg e]; exact .inl rfl
end Go.Proofs.Ytbalnnoofdkbaaa
namespace Go.Proofs.Ytbalnnoofdkbaaa
open Go Go.Bw
theorem D5 {b:bz} {w:aL} (r:RB b w) {f:Nat} (hf:pG w f) (hl:f < 32) {u:Int} (hu:u = 0∨qe w u):xI (iW w f) u = xI w u:=by
  rcases hu with h | h
  · subst h; rfl
  · have hv:=jz r hf hl u
    have hne:u ≠ hJ f (w.iI f):=fun e=>by rw [e] at h; exact zZ r hf hl h
    unfold xI
    by_cases h1:bn w u = true
    · rw [if_pos h1,if_pos (hv.2 (.inl ⟨h.1,h1⟩)).2]
    · rw [if_neg h1,if_neg (fun h2=>(hv.1 ⟨h.1,h2⟩).elim (fun h3=>h1 h3.2) hne)]
def z7 (B:aL) (a:Int):Bool:=(a == 0) || bn B a
theorem o5 {n:Nat} {t:au} {w:ai} (r:fF t w) {a:Int} (h0:0 ≤ a) (h1:a < 4294967296) {ρ:Type} {f:Bool→Option ρ} {g:Bool} :
    cl g (aY n t.book.iP a) default f = f (bif g then bn w.B a else default):=dj (jv r.book h0 h1)
theorem jG (B:aL) (a:Int):((a != 0) && (!(bif ((a != 0) == true) then bn B a else default))) = !z7 B a:=by
  unfold z7
  by_cases h0:a = 0
  · subst h0; rfl
  · have h1:(a != 0) = true:=by simpa using h0
    have h2:(a == 0) = false:=by simpa using h0
    rw [h1,h2]; rfl
theorem wH {B:aL} {a:Int} (h0:0 ≤ a) (h:z7 B a = true):a = 0∨bR B a:=by
  unfold z7 at h
  rw [Bool.or_eq_true,beq_iff_eq] at h
  exact h.imp _root_.id fun hg=>⟨h0,hg⟩
theorem K7 {n:Nat} (hn:40 ≤ n) {t:au} {w:ai} (r:fF t w) (tt:iL w) {a q:Int} (a0:0 ≤ a) (a1:a < 4294967296) :
    ∃t' w' m e,eI n t a q = some (t',m,e)∧dm n w a q = some (w',m,e)∧0 ≤ m∧m < 4294967296∧Gf t w t' w' m e false:=by
  cases ha:z7 w.B a with
  | false =>
    refine ⟨t,w,0,4,?_,?_,by decide,by decide, .same r tt _ _ _⟩
    · unfold eI; rw [o5 r a0 a1,jG,ha]; rfl
    · unfold dm; rw [dj (bX hn r a0),jG,ha]; rfl
  | true =>
  rcases Decidable.em (¬(0 ≤ q∧q ≤ 64)) with hq | hq
  · refine ⟨t,w,0,2,?_,?_,by decide,by decide, .same r tt _ _ _⟩
    · unfold eI; rw [o5 r a0 a1,jG,ha,aA (b:=!true) rfl]; unfold g5; rw [az rfl,aT (by simp; omega)]
    · unfold dm; rw [dj (bX hn r a0),jG,ha,aA (b:=!true) rfl,aT (by simp; omega)]
  have hq:=Decidable.not_not.1 hq
  obtain ⟨f,hf⟩:=vz w.B
  obtain ⟨b',i1,i2⟩:=vn (n:=n) hn r.book hf
  have i3:=qd (n:=n) hn r.book hf
  have hP:eI n t a q = (bd (eY n t.book.iP) fun eH =>
  cn ((!eH.2.2)) (
  some (t,0,7)) (
  bd (bU n eH.2.1) fun gi =>
  gu (dU gi.1 32) <|
  some (⟨⟨eH.1⟩,eO t.regions (Int.toNat gi.1) ⟨a,q,eL,fun _=>0⟩⟩,eH.2.1,0))):=by
    unfold eI; rw [o5 r a0 a1,jG,ha,aA (b:=!true) rfl]; unfold g5; rw [az rfl,aA (by simpa using hq)]; rfl
  have hR:dm n w a q = (bd (fx n w.B) fun eN =>
  cn ((eN.2 == 0)) (
  some (w,0,7)) (
  bd (bM n eN.1 eN.2) fun fZ =>
  gu (dU fZ 32) <|
  some (⟨eN.1,eO w.R (Int.toNat fZ) ⟨a,q,cZ,fun _=>0⟩⟩,eN.2,0))):=by
    unfold dm; rw [dj (bX hn r a0),jG,ha,aA (b:=!true) rfl,aA (by simp; omega)]; rfl
  rcases Decidable.em (¬ f < 32) with hl | hl
  · refine ⟨t,w,0,7,?_,?_,by decide,by decide, .same r tt _ _ _⟩
    · rw [hP,az i1,aT (by simpa using hl)]
    · rw [hR,az i3,if_neg hl]; rfl
  have hl:=Decidable.not_not.1 hl
  simp only [hl,if_true,decide_true] at i1 i2 i3
  have hr:=r.book.jc f hl
  obtain ⟨q1,q2,q3,q4,q5⟩:=my (i:=f) (g:=w.B.iI f) (by omega) (by omega) hr.1 hr.2
  have hnew:bR (iW w.B f) (hJ f (w.B.iI f)):=(jz r.book hf hl _).2 (.inr rfl)
  have hfn:(iy (hJ f (w.B.iI f))).toNat = f:=by rw [q2]; omega
  have Ox:dU (iy (hJ f (w.B.iI f))) 32 = true:=fI _
  refine ⟨⟨⟨b'⟩,eO t.regions f ⟨a,q,eL,fun _=>0⟩⟩,⟨iW w.B f,eO w.R f ⟨a,q,cZ,fun _=>0⟩⟩,hJ f (w.B.iI f),0,?_,?_,by omega,q5,?_⟩
  · rw [hP,az i1,aA (b:=!true) rfl]
    dsimp only
    rw [az (k8 (by omega) q5),aM Ox,hfn]
  · rw [hR,az i3,aA (by simp; omega),az (di hn i2 (by omega)),hnew.2,if_pos rfl,aM Ox,hfn]
  have DC:=wH a0 ha
  have hfree:=hf.2.2 hl
  have hold:∀i,i ≠ f→(iW w.B f).Is i = 1→w.B.Is i = 1:=fun i hi hs=>by
    have:eO w.B.Is f 1 i = 1:=hs
    rwa [je _ _ hi] at this
  have hne:∀x,bR w.B x→ck x ≠ f:=fun x hx e=>by
    have:=(dA hx).2; rw [e,hfree] at this; cases this
  refine ⟨⟨i2,fun i hi hs=>?_,fun i hi hs=>?_,fun i hi hs=>?_⟩,?_,fun g hg _=>?_⟩
  · dsimp only
    rw [cK,cK]
    by_cases e:i = f
    · rw [if_pos e,if_pos e]
      exact ⟨rfl,rfl,(by show (0:Nat) ≤ 80; omega),(fun y hy=>by cases hy),fun _ _=>rfl,fun _ _=>by show (0:Int) ≤ 0∧(0:Int) ≤ 4294967295; decide⟩
    · rw [if_neg e,if_neg e]; exact r.zU i hi (hold i e hs)
  · dsimp only
    simp only [cK]
    by_cases e:i = f
    · rw [if_pos e,if_pos e]
      show a = xI (iW w.B f) a
      rcases DC with h | h
      · subst h; rfl
      · unfold xI; rw [if_pos ((jz r.book hf hl a).2 (.inl h)).2]
    · rw [if_neg e,if_neg e]
      have h1:=hold i e hs
      rw [D5 r.book hf hl (r.old i hi h1)]; exact r.up i hi h1
  · dsimp only
    simp only [cK]
    by_cases e:i = f
    · rw [if_pos e]
      exact DC.imp _root_.id fun h=>qU _ (td h)
    · rw [if_neg e]
      exact (r.old i hi (hold i e hs)).imp _root_.id (qU _)
  · obtain ⟨ρ,hρ⟩:=tt
    refine ⟨eO ρ f (1 + BV ρ 32),fun i hi hs hu=>?_⟩
    dsimp only at hu ⊢
    simp only [cK] at hu ⊢
    by_cases e:i = f
    · rw [if_pos e] at hu
      rw [if_pos e,if_pos e]
      change a ≠ 0 at hu
      show (if ck a = f then _ else ρ (ck a)) < _
      have Fj:=DC.resolve_left hu
      rw [if_neg (hne a Fj)]
      have:=xK ρ (j:=ck a) 32 (kI a)
      omega
    · rw [if_neg e] at hu
      rw [if_neg e,if_neg e]
      have h1:=hold i e hs
      rw [if_neg (hne _ ((r.Kk hi h1).resolve_left hu))]
      exact hρ i hi h1 hu
  · have:=hne g hg
    refine ⟨(jz r.book hf hl g).2 (.inl hg),?_,?_,?_, .inl ?_⟩
    all_goals (dsimp only; rw [je _ _ this])
theorem K8 {n:Nat} (hn:110 ≤ n) {p:bE} {x:cr} (h:uL p x):∃b,eZ n p.E = some b∧dz n x.E = some b:=by
  have hl:(x.E.bq.map mm).length ≤ 80:=by rw [List.length_map]; exact h.n
  obtain ⟨b,b1,b2⟩:=Ac (n:=n) hn (e:=p.E) (by rw [h.e]; exact hl) (by rw [h.e]; exact h.r)
  obtain ⟨c,c1,c2⟩:=sS (n:=n) hn h.n h.r
  refine ⟨b,b1,?_⟩
  rw [c1]
  rw [h.e] at b2
  dsimp only at b2
  have:b = true↔c = true:=b2.trans ⟨fun ⟨q1,_,q3⟩=>c2.2 ⟨q1,q3⟩,fun h=>by
    obtain ⟨q1,q3⟩:=c2.1 h
    exact ⟨q1,CH q1,q3⟩⟩
  cases b <;> cases c <;> simp_all
theorem KW {n:Nat} (hn:110 ≤ n) {t:au} {w:ai} (r:fF t w) (tt:iL w) {h:Int} (h0:0 ≤ h) (h1:h < 4294967296) {p:bE} {x:cr} (hx:uL p x) :
    ∃t' w' e,dP n t h p = some (t',e)∧eK n w h x = some (w',e)∧Gf t w t' w' h e false:=by
  obtain ⟨b,b1,b2⟩:=K8 hn hx
  have L9:=eo h
  unfold dP eK
  rw [az (jv r.book h0 h1),az (di (by omega) r.book h0)]
  cases hg:bn w.B h with
  | false=>exact ⟨t,w,4,rfl,rfl, .same r tt _ _ _⟩
  | true =>
  have zx:bR w.B h:=⟨h0,hg⟩
  obtain ⟨l1,l2⟩:=dA zx
  unfold g5
  rw [if_pos rfl,aA (b:=!true) rfl,aA (by simp; omega),az rfl,dj b1,dj b2,hx.q]
  rcases Decidable.em (¬((0 ≤ x.cq∧x.cq ≤ 64)∧b = true)) with hq | hq
  · refine ⟨t,w,2,?_,?_, .same r tt _ _ _⟩
    · rw [aT]
      by_cases h3:0 ≤ x.cq∧x.cq ≤ 64
      · have:b = false:=by cases b with
          | false=>rfl
          | true=>exact absurd ⟨h3,rfl⟩ hq
        rw [this]; simp
      · have:(decide (0 ≤ x.cq) && decide (x.cq ≤ 64)) = false:=by rw [Bool.and_eq_false_iff,decide_eq_false_iff_not,decide_eq_false_iff_not]; omega
        rw [this]; rfl
    · rw [aT]
      by_cases h3:0 ≤ x.cq∧x.cq ≤ 64
      · have:b = false:=by cases b with
          | false=>rfl
          | true=>exact absurd ⟨h3,rfl⟩ hq
        rw [this]; simp
      · have:(decide (x.cq < 0) || decide (64 < x.cq)) = true:=by rw [Bool.or_eq_true,decide_eq_true_eq,decide_eq_true_eq]; omega
        rw [this]; rfl
  obtain ⟨⟨q1,q2⟩,rfl⟩:=Decidable.not_not.1 hq
  have e1:(decide (0 ≤ x.cq) && decide (x.cq ≤ 64)) = true:=by simp [q1,q2]
  have e2:(decide (x.cq < 0) || decide (64 < x.cq)) = false:=by rw [Bool.or_eq_false_iff,decide_eq_false_iff_not,decide_eq_false_iff_not]; omega
  rw [e1,e2,aA (by rfl),aA (by rfl),az (k8 h0 h1),aM (fI h),aM (fI h),lt_eq,aM (fI h),lt_eq,lt_eq,aM (fI h),lt_eq]
  refine ⟨_,_,0,rfl,rfl,?_⟩
  show Gf t w ⟨t.book,eO t.regions (ck h) { p with Up:=(t.regions (ck h)).Up,cq:=x.cq }⟩ ⟨w.B,eO w.R (ck h) { x with Up:=(w.R (ck h)).Up }⟩ h 0 false
  have hT:∀i,(eO t.regions (ck h) { p with Up:=(t.regions (ck h)).Up,cq:=x.cq } i).Up = (t.regions i).Up:=fun i=>by
    rw [cK]; split
    · rename_i e; rw [e]
    · rfl
  have hW:∀i,(eO w.R (ck h) { x with Up:=(w.R (ck h)).Up } i).Up = (w.R i).Up:=fun i=>by
    rw [cK]; split
    · rename_i e; rw [e]
    · rfl
  refine ⟨⟨r.book,fun i hi hs=>?_,fun i hi hs=>?_,fun i hi hs=>?_⟩,?_,fun g AN hne=>?_⟩
  · dsimp only
    rw [cK,cK]
    by_cases e:i = ck h
    · rw [if_pos e,if_pos e]; exact ⟨rfl,hx.e,hx.n,hx.r,hx.c,hx.c0⟩
    · rw [if_neg e,if_neg e]; exact r.zU i hi hs
  · dsimp only; rw [hT,hW]; exact r.up i hi hs
  · dsimp only; rw [hT]; exact r.old i hi hs
  · obtain ⟨ρ,hρ⟩:=tt
    refine ⟨ρ,fun i hi hs hu=>?_⟩
    dsimp only at hu ⊢; rw [hW] at hu ⊢; exact hρ i hi hs hu
  · have AA:ck g ≠ ck h:=fun e=>hne ⟨by rw [← fh AN,← fh zx,e],rfl⟩
    refine ⟨AN,?_,?_,?_, .inl ?_⟩
    all_goals (dsimp only; rw [je _ _ AA])
end Go.Proofs.Ytbalnnoofdkbaaa
namespace Go.Proofs.Ytbalnnoofdkbaaa
open Go Go.Bw
inductive jX (w:ai) (s:Nat):Nat→Prop
  | self:jX w s s
  | down {i:Nat}:i < 32→w.B.Is i = 1→(w.R i).Up ≠ 0→jX w s (ck (w.R i).Up)→jX w s i
theorem jX.iff {w:ai} {s i:Nat} (hi:i < 32) (h1:w.B.Is i = 1):jX w s i↔i = s∨((w.R i).Up ≠ 0∧jX w s (ck (w.R i).Up)):=by
  constructor
  · intro h
    cases h with
    | self=>exact .inl rfl
    | down _ _ a b=>exact .inr ⟨a,b⟩
  · rintro (h | ⟨a,b⟩)
    · subst h; exact .self
    · exact .down hi h1 a b
def oJ (w:ai) (ρ:Nat→Nat) (x:Int):Nat:=if x = 0 then 0 else rH (fun j=>decide (ρ j < ρ (ck x))) 32 + 1
theorem tj {t:au} {w:ai} (r:fF t w) {ρ:Nat→Nat} (hρ:OS w ρ) {x:Int} (hx:bR w.B x):oJ w ρ (w.R (ck x)).Up < oJ w ρ x:=by
  have hp:=iB hx
  obtain ⟨l1,l2⟩:=dA hx
  unfold oJ
  rw [if_neg (show ¬ x = 0 by omega)]
  split
  · omega
  · rename_i hu
    have h2:=hρ _ l1 l2 hu
    have:=o8 (p:=fun j=>decide (ρ j < ρ (ck (w.R (ck x)).Up))) (q:=fun j=>decide (ρ j < ρ (ck x))) (fun j hj=>by simp at hj ⊢; omega) (c:=ck (w.R (ck x)).Up) (by simp) (by simpa using h2) 32 (kI _)
    omega
theorem tn (w:ai) (ρ:Nat→Nat) (x:Int):oJ w ρ x ≤ 32:=by
  unfold oJ
  split
  · omega
  · have:=o8 (p:=fun j=>decide (ρ j < ρ (ck x))) (q:=fun _=>true) (fun _ _=>rfl) (c:=ck x) (by simp) rfl 32 (kI _)
    have:=uq (fun _=>true) 32
    omega
theorem yH {n:Nat} (hn:40 ≤ n) {t:au} {w:ai} (r:fF t w) (tt:iL w) {h:Int} (hh:bR w.B h) {x0:Int} (hx0:bR w.B x0) :
    ∃b,cm n w h x0 = some b∧(b = true↔(w.R (ck x0)).Up ≠ 0∧jX w (ck h) (ck (w.R (ck x0)).Up)):=by
  obtain ⟨ρ,hρ⟩:=tt
  unfold cm
  have MK:=iB hh
  refine gn (fun (x:Int)=>(x = 0∨bR w.B x)∧(((w.R (ck x0)).Up ≠ 0∧jX w (ck h) (ck (w.R (ck x0)).Up))↔(x ≠ 0∧(w.R (ck x)).Up ≠ 0∧jX w (ck h) (ck (w.R (ck x)).Up)))) (fun x=>oJ w ρ x)
    (fun o=>∃b,o = some b∧(b = true↔(w.R (ck x0)).Up ≠ 0∧jX w (ck h) (ck (w.R (ck x0)).Up))) ?_ n x0 ⟨.inr hx0,?_⟩ (by have:=tn w ρ x0; omega)
  · rintro kk x ⟨hx,hw⟩ ih
    by_cases h0:x = 0
    · subst h0
      rw [aA (by rfl)]
      exact ⟨false,rfl,by rw [hw]; simp⟩
    · have hg:=hx.resolve_left h0
      have L9:=eo x
      obtain ⟨l1,l2⟩:=dA hg
      rw [aT (by simpa using h0),az (di hn r.book hg.1),hg.2,if_pos rfl,aM (fI x)]
      show ∃b,cn ((w.R (ck x)).Up == h) (some (h != 0)) (kk (w.R (ck x)).Up) = some b∧_
      by_cases hu:(w.R (ck x)).Up = h
      · rw [aT (by simpa using hu)]
        refine ⟨_,rfl,?_⟩
        rw [hw,hu]
        exact ⟨fun _=>⟨h0,by omega, .self⟩,fun _=>by simp; omega⟩
      · rw [aA (by simpa using hu)]
        refine ih _ ⟨r.D2 hg,hw.trans ?_⟩ (tj r hρ hg)
        constructor
        · rintro ⟨_,a,b⟩
          have Kr:=(r.D2 hg).resolve_left a
          obtain ⟨m1,m2⟩:=dA Kr
          refine ⟨a,?_⟩
          rcases (jX.iff m1 m2).1 b with e | e
          · exact absurd (by rw [← fh Kr,← fh hh,e]) hu
          · exact e
        · rintro ⟨a,b,c⟩
          have Kr:=(r.D2 hg).resolve_left a
          obtain ⟨m1,m2⟩:=dA Kr
          exact ⟨h0,a, .down m1 m2 b c⟩
  · have:=iB hx0
    exact ⟨fun a=>⟨by omega,a⟩,fun a=>a.2⟩
theorem FT {n:Nat} (hn:40 ≤ n) {t:au} {w:ai} (r:fF t w) (tt:iL w) {h:Int} (hh:bR w.B h) {x0:Int} (hx0:x0 = 0∨bR w.B x0) (z:Option (au × Int)) :
    (x0 ≠ 0∧jX w (ck h) (ck x0)→ef (fun Ch (cR:Int) =>
  cn ((cR != 0)) (
  cn ((cR == h)) (
  some (t,12)) (
  bd (eV n t cR) fun fY =>
  Ch fY)) z) n x0 = some (t,12))∧(¬ (x0 ≠ 0∧jX w (ck h) (ck x0))→ef (fun Ch (cR:Int) =>
  cn ((cR != 0)) (
  cn ((cR == h)) (
  some (t,12)) (
  bd (eV n t cR) fun fY =>
  Ch fY)) z) n x0 = z):=by
  obtain ⟨ρ,hρ⟩:=tt
  have MK:=iB hh
  refine gn (fun (x:Int)=>(x = 0∨bR w.B x)∧((x0 ≠ 0∧jX w (ck h) (ck x0))↔(x ≠ 0∧jX w (ck h) (ck x)))) (fun x=>oJ w ρ x)
    (fun o=>(x0 ≠ 0∧jX w (ck h) (ck x0)→o = some (t,12))∧(¬ (x0 ≠ 0∧jX w (ck h) (ck x0))→o = z)) ?_ n x0 ⟨hx0,Iff.rfl⟩ (by have:=tn w ρ x0; omega)
  rintro kk x ⟨hx,hw⟩ ih
  by_cases h0:x = 0
  · subst h0
    rw [aA (by rfl)]
    exact ⟨fun hq=>absurd rfl (hw.1 hq).1,fun _=>rfl⟩
  · have hg:=hx.resolve_left h0
    obtain ⟨l1,l2⟩:=dA hg
    rw [aT (by simpa using h0)]
    by_cases hu:x = h
    · rw [aT (by simpa using hu)]
      exact ⟨fun _=>rfl,fun hq=>absurd (hw.2 ⟨h0,by rw [hu]; exact .self⟩) hq⟩
    · rw [aA (by simpa using hu),az (zG r hg)]
      refine ih _ ⟨r.D2 hg,hw.trans ?_⟩ (tj r hρ hg)
      constructor
      · rintro ⟨_,b⟩
        rcases (jX.iff l1 l2).1 b with e | e
        · exact absurd (by rw [← fh hg,← fh hh,e]) hu
        · exact e
      · rintro ⟨a,b⟩
        exact ⟨h0, .down l1 l2 a b⟩
theorem Ef {n:Nat} (hn:40 ≤ n) {t:au} {w:ai} (r:fF t w) (tt:iL w) {h a:Int} (h0:0 ≤ h) (h1:h < 4294967296) (a0:0 ≤ a) (a1:a < 4294967296) :
    ∃t' w' e,dX n t h a = some (t',e)∧eC n w h a = some (w',e)∧Gf t w t' w' h e false:=by
  unfold dX eC
  rw [az (jv r.book h0 h1),az (bX hn r h0),o5 r a0 a1,dj (bX hn r a0)]
  cases hg:bn w.B h with
  | false=>exact ⟨t,w,4,rfl,rfl, .same r tt _ _ _⟩
  | true =>
  have zx:bR w.B h:=⟨h0,hg⟩
  obtain ⟨l1,l2⟩:=dA zx
  have hpos:=iB zx
  have e0:∀v:Bool,(((!true) == false) && v) = v:=fun v=>by cases v <;> rfl
  rw [e0,jG]
  cases ha:z7 w.B a with
  | false=>exact ⟨t,w,4,rfl,rfl, .same r tt _ _ _⟩
  | true =>
  rw [aA (by rfl),aA (by rfl)]
  have DC:=wH a0 ha
  obtain ⟨p1,p2⟩:=FT (n:=n) hn r tt zx DC (bd (bU n h) fun fZ =>
  gu (dU fZ.1 32) <|
  lt ({ t with regions:=(eO t.regions (Int.toNat fZ.1) ({ (t.regions (Int.toNat fZ.1)) with Up:=a })) }:au) fun gR =>
  some (gR,0))
  have hR:∃b,(b = true↔a ≠ 0∧jX w (ck h) (ck a))∧∀(F:Bool→Option (ai × Int)),(cl (((a != 0) == true) && ((a == h) == false)) (cm n w h a) default fun dS=>F ((a != 0) && ((a == h) || dS))) = F b:=by
    rcases DC with e | e
    · subst e
      exact ⟨false,by simp,fun F=>rfl⟩
    · have hp:=iB e
      obtain ⟨b,b1,b2⟩:=yH (n:=n) hn r tt zx e
      obtain ⟨m1,m2⟩:=dA e
      refine ⟨(a == h) || b,?_,fun F=>?_⟩
      · rw [Bool.or_eq_true,beq_iff_eq,b2,jX.iff m1 m2]
        constructor
        · rintro (q | q)
          · exact ⟨by omega, .inl (by rw [q])⟩
          · exact ⟨by omega, .inr q⟩
        · rintro ⟨_,q | q⟩
          · exact .inl (by rw [← fh e,← fh zx,q])
          · exact .inr q
      · have e1:(a != 0) = true:=by simp; omega
        rw [dj b1,e1]
        cases a == h <;> rfl
  obtain ⟨b,b1,b2⟩:=hR
  rw [b2 (fun v=>cn v (some (w,12)) (bd (bM n w.B h) fun bZ =>
  gu (dU bZ 32) <|
  lt ({ w with R:=(eO w.R (Int.toNat bZ) ({ (w.R (Int.toNat bZ)) with Up:=a })) }:ai) fun fA =>
  some (fA,0)))]
  cases b with
  | true=>exact ⟨t,w,12,p1 (b1.1 rfl),rfl, .same r tt _ _ _⟩
  | false =>
  have Ou:¬ (a ≠ 0∧jX w (ck h) (ck a)):=fun q=>by have:=b1.2 q; cases this
  rw [p2 Ou]
  rw [az (k8 h0 h1),aA rfl,az (di hn r.book h0),hg,if_pos rfl]
  refine ⟨⟨t.book,eO t.regions (ck h) { t.regions (ck h) with Up:=a }⟩,⟨w.B,eO w.R (ck h) { w.R (ck h) with Up:=a }⟩,0,?_,?_,?_⟩
  · rw [aM (fI h)]; rfl
  · rw [aM (fI h)]; rfl
  refine ⟨⟨r.book,fun i hi hs=>?_,fun i hi hs=>?_,fun i hi hs=>?_⟩,?_,fun g AN hne=>?_⟩
  · dsimp only
    rw [cK,cK]
    by_cases e:i = ck h
    · rw [if_pos e,if_pos e]; exact (r.zU _ l1 l2).G5 _ _
    · rw [if_neg e,if_neg e]; exact r.zU i hi hs
  · dsimp only
    simp only [cK]
    by_cases e:i = ck h
    · rw [if_pos e,if_pos e]
      show a = xI w.B a
      rcases DC with q | q
      · subst q; rfl
      · unfold xI; rw [if_pos q.2]
    · rw [if_neg e,if_neg e]; exact r.up i hi hs
  · dsimp only
    simp only [cK]
    by_cases e:i = ck h
    · rw [if_pos e]; exact DC.imp _root_.id td
    · rw [if_neg e]; exact r.old i hi hs
  · obtain ⟨ρ,hρ⟩:=tt
    obtain ⟨f,f1,f2⟩ : ∃f:Nat→Nat,(∀i,jX w (ck h) i→f i = ρ i + ρ (ck a) + 1)∧∀i,¬ jX w (ck h) i→f i = ρ i:=by
      classical
      exact ⟨fun i=>if jX w (ck h) i then ρ i + ρ (ck a) + 1 else ρ i,fun i q=>if_pos q,fun i q=>if_neg q⟩
    refine ⟨f,fun i hi hs hu=>?_⟩
    have hU:(eO w.R (ck h) { w.R (ck h) with Up:=a } i).Up = if i = ck h then a else (w.R i).Up:=by
      rw [cK]; split <;> rfl
    dsimp only at hu hs ⊢
    rw [hU] at hu ⊢
    by_cases e:i = ck h
    · rw [if_pos e] at hu ⊢
      rw [f2 _ (fun q=>Ou ⟨hu,q⟩),e,f1 _ .self]
      omega
    · rw [if_neg e] at hu ⊢
      have h2:=hρ i hi hs hu
      have h3:=jX.iff (s:=ck h) hi hs
      by_cases q:jX w (ck h) (ck (w.R i).Up)
      · rw [f1 _ q,f1 _ (h3.2 (.inr ⟨hu,q⟩))]; omega
      · rw [f2 _ q,f2 _ (fun c=>(h3.1 c).elim e fun c=>q c.2)]; exact h2
  · have AA:ck g ≠ ck h:=fun e=>hne ⟨by rw [← fh AN,← fh zx,e],rfl⟩
    refine ⟨AN,?_,?_,?_, .inl ?_⟩
    all_goals (dsimp only; rw [je _ _ AA])
end Go.Proofs.Ytbalnnoofdkbaaa
namespace Go.Proofs.Ytbalnnoofdkbaaa
open Go Go.Bw
theorem xQ {n:Nat} (hn:40 ≤ n) {t:au} {w:ai} (r:fF t w):fK n w = some (cT w.B 32):=by
  unfold fK
  refine fy (fun (l:List Int) (x:Int)=>∃k:Nat,x = k∧k ≤ 32∧l = cT w.B k) (fun _ (x:Int)=>(32 - x).toNat) (fun o=>o = some (cT w.B 32)) ?_ n [] 0 ⟨0,rfl,by omega,rfl⟩ (by omega)
  rintro kk l x ⟨k,rfl,hk,rfl⟩ ih
  by_cases hc:k < 32
  · rw [aT (by simp; omega),aM (cL (by omega) (by omega))]
    have hr:=r.book.jc k hc
    by_cases e:w.B.Is k = 1
    · rw [aT (by simpa using e),az (nG (by omega) (by omega) hr.1 hr.2),aM (kV (by have:=gF w.B k; omega) (by have:=gF w.B k; omega)),lt_eq,cA (by omega) (by omega)]
      exact ih _ _ ⟨k + 1,by omega,by omega,by simp [cT,e]⟩ (by omega)
    · rw [aA (by simpa using e),cA (by omega) (by omega)]
      exact ih _ _ ⟨k + 1,by omega,by omega,by simp [cT,e]⟩ (by omega)
  · rw [aA (by simp; omega)]
    obtain rfl:k = 32:=by omega
    rfl
theorem JZ {n:Nat} (hn:40 ≤ n) {t:au} {w:ai} (r:fF t w):gj n t.book = some (cT w.B 32):=by
  unfold gj; rw [az (yP hn r.book)]
theorem hY {α:Type} [Inhabited α] {l:List α} {i:Nat} (h:i < l.length):l.getD i default ∈ l:=by
  rw [List.getD,List.getElem?_eq_getElem h]; exact List.getElem_mem _
theorem G7 {n:Nat} (hn:100 ≤ n) {t:au} {w:ai} (r:fF t w):jy n t w = some true:=by
  unfold jy
  rw [az (JZ (by omega) r),az (xQ (by omega) r),aA (by simp)]
  have hlen:=gF w.B 32
  have hmem:=cX r.book
  refine gn (fun (i:Int)=>0 ≤ i∧i ≤ (cT w.B 32).length) (fun i=>((cT w.B 32).length - i).toNat) (fun o=>o = some true) ?_ n 0 ⟨by omega,by omega⟩ (by omega)
  rintro kk i ⟨i0,i1⟩ ih
  by_cases c:i < (cT w.B 32).length
  · have g1:dU i (cT w.B 32).length = true:=cL i0 c
    have hg:=(hmem _).1 (hY (l:=cT w.B 32) (i:=i.toNat) (by omega))
    generalize (cT w.B 32).getD i.toNat default = x at *
    have hl:=fR hg.2
    have hp:=hg.1
    obtain ⟨l1,l2⟩:=dA hg
    have hR:=r.zU _ l1 l2
    have e1:(x != x) = false:=by simp
    rw [aT (by simpa using c),aM g1,aM g1,cA (x:=x) (by omega) (by omega),e1,g1,aM (by rfl),dj (jv r.book hp hl),hg.2,aA (by rfl),aM (b:=true) rfl,az (nJ r hp hl),if_pos hg.2,aM (b:=true) rfl,az (ot (by omega) r hg)]
    dsimp only
    have hu:0 ≤ (w.R (ck x)).Up∧(w.R (ck x)).Up < 4294967296:=by
      rcases r.D2 hg with h | h
      · rw [h]; decide
      · exact ⟨h.1,fR h.2⟩
    have P5:(kF t w x).Up = (w.R (ck x)).Up:=rfl
    have P4:(kF t w x).cq = (w.R (ck x)).cq:=hR.q
    have Ok:(kF t w x).E = ⟨(w.R (ck x)).E.bq.map mm,(w.R (ck x)).E.og⟩:=hR.e
    have P3:∀i,i < 8→(kF t w x).Cells i = (w.R (ck x)).Cells i:=hR.c
    rw [P5,P4,cA (x:=(w.R (ck x)).Up) (by omega) (by omega),dj (yB (by omega) (by have:=hR.n; omega) (by rw [Ok]) (by rw [Ok])),aA (by simp)]
    refine gn (fun (j:Int)=>0 ≤ j∧j ≤ 8) (fun j=>(8 - j).toNat) (fun o=>o = some true) ?_ n 0 ⟨by omega,by omega⟩ (by omega)
    rintro k2 j ⟨j0,j1⟩ HR
    by_cases cj:j < 8
    · have h4:=P3 j.toNat (by omega)
      have h5:=hR.c0 j.toNat (by omega)
      rw [aT (by simpa using cj),aM (cL j0 (by omega)),aM (cL j0 (by omega)),h4,cA (x:=(w.R (ck x)).Cells j.toNat) (by omega) (by omega),aA (by simp),cA (by omega) (by omega)]
      exact HR _ ⟨by omega,by omega⟩ (by omega)
    · rw [aA (by simpa using cj),cA (by omega) (by omega)]
      exact ih _ ⟨by omega,by omega⟩ (by omega)
  · rw [aA (by simpa using c)]
end Go.Proofs.Ytbalnnoofdkbaaa
namespace Go.Proofs.Ytbalnnoofdkbaaa
open Go Go.Bw
theorem vi {i:Nat} (h:cv.B.Is i = 1):False:=absurd (show (0:Int) = 1 from h) (by decide)
theorem Df:fF aW cv∧iL cv:=
  ⟨⟨⟨fun i _=>rfl,fun i _=>rfl,fun i _=>rfl,fun i _=>.inl rfl,fun i _=>⟨Int.le_refl 0,show (0:Int) ≤ 8388607 by decide⟩⟩,fun i _ h=>(vi h).elim,fun i _ h=>(vi h).elim,fun i _ h=>(vi h).elim⟩,fun _=>0,fun i _ h=>(vi h).elim⟩
end Go.Proofs.Ytbalnnoofdkbaaa
