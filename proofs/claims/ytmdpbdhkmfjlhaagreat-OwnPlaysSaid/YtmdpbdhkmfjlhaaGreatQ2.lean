/- Part 2 of what a proof leans on; pruned and shortened by a program out of longer texts. -/
import Derived.Test.YtmdpbdhkmfjlhaaGreatQ1
namespace Go.Proofs.YtmdpbdhkmfjlhaaGreat
open Go Go.Bw
def tb:Tb:=⟨[(7,[(0,0),(1,1),(2,2),(3,3)]),(8,[(0,0),(1,1),(2,2),(3,3)]),(13,[(0,0),(1,1)]),(14,[(0,0),(1,1)]),(18,[(0,0)]),(19,[(0,0)]),(25,[(0,0),(1,1),(2,2)]),(26,[(0,0),(1,1),(2,2)]),(28,[(0,0)]),(29,[(0,0)]),(30,[(0,0)]),(31,[(0,0)]),(34,[(0,0),(1,1)]),(35,[(0,0),(1,1)]),(37,[(0,0),(1,1),(2,2),(3,4)]),(38,[(0,0),(1,1),(2,2),(3,4)]),(40,[(0,0),(1,96)]),(41,[(0,0),(1,96)]),(43,[(0,0),(1,32)]),(44,[(0,0),(1,32)]),(46,[(0,0),(1,1)]),(47,[(0,0),(1,1)]),(49,[(0,0),(1,1),(2,2),(3,4)]),(50,[(0,0),(1,1),(2,2),(3,4)]),(52,[(0,0),(1,64)]),(53,[(0,0),(1,64)]),(54,[(0,0),(1,1),(2,2)]),(55,[(0,0),(1,1),(2,2)]),(56,[(0,0),(1,1)]),(57,[(0,0),(1,1)]),(59,[(0,0)]),(60,[(0,0)]),(63,[(0,0),(1,1)]),(64,[(0,0),(1,1)]),(65,[(0,0),(1,1),(2,2),(3,3),(4,4)]),(66,[(0,0),(1,1),(2,2),(3,3),(4,4)]),(112,[(0,0),(1,1),(2,2)]),(113,[(0,0),(1,1),(2,2)]),(156,[(0,0)]),(157,[(0,0)]),(158,[(0,0),(1,1)]),(159,[(0,0),(1,1)]),(180,[(0,0),(1,1),(2,2),(3,3)]),(181,[(0,0),(1,1),(2,2),(3,3)]),(191,[(0,0),(1,1),(2,2),(3,3),(4,4),(5,5),(6,6),(7,7),(8,8),(9,9),(10,10)]),(192,[(0,0),(1,1),(2,2),(3,3),(4,4),(5,5),(6,6),(7,7),(8,8),(9,9),(10,10)])],[(2, .i64),(3, .i64),(5, .u8),(6, .u8),(12, .u64),(21, .i32),(23, .u32),(32, .u32),(79, .i64),(146, .u64),(185, .u8),(186, .u8),(189, .i32),(190, .i32)]⟩
instance:yu Tryz.prog tb:=⟨by kernel_rfl⟩
instance:Mw Tryz.prog 9:=⟨by kernel_rfl⟩
end Go.Proofs.YtmdpbdhkmfjlhaaGreat
namespace Go.Proofs.YtmdpbdhkmfjlhaaGreat
open Go Go.Bw
structure iU where
 gen:Int
 jC:Bool
 retired:Bool
abbrev bK:aL iU:=aL.via (LP (LI .u32) (LP LB LB)) (fun x=>(x.gen,x.jC,x.retired))
abbrev pT:iU:=⟨0,false,false⟩
theorem gL:aE bK (LI .u32) 0 (fun x=>x.gen) (fun x v=>{ x with gen:=v }):=(aE.fst aE.id).via _ _ _ 0 rfl (fun _=>rfl) (fun _ _=>rfl)
theorem gK:aE bK LB 1 (fun x=>x.jC) (fun x v=>{ x with jC:=v }):=(aE.snd (aE.fst aE.id)).via _ _ _ 1 rfl (fun _=>rfl) (fun _ _=>rfl)
theorem kE:aE bK LB 2 (fun x=>x.retired) (fun x v=>{ x with retired:=v }):=(aE.snd (aE.snd aE.id)).via _ _ _ 2 rfl (fun _=>rfl) (fun _ _=>rfl)
def mL (x y:iU):Bool:=x.gen == y.gen && x.jC == y.jC && x.retired == y.retired
theorem sO (x y:iU):Value.bool (xY [(0,some .u32),(1,none),(2,none)] (bK.enc x) (bK.enc y)) = .bool (mL x y):=congrArg Value.bool (by show ((x.gen == y.gen) && ((x.jC == y.jC) && ((x.retired == y.retired) && true))) = (x.gen == y.gen && x.jC == y.jC && x.retired == y.retired); simp [Bool.and_assoc])
structure bA where
 slots:(Nat→iU)
abbrev aD:aL bA:=aL.via (LA bK 32) (fun x=>x.slots)
abbrev iI:bA:=⟨(fun _=>pT)⟩
theorem cR:aE aD (LA bK 32) 0 (fun x=>x.slots) (fun x v=>{ x with slots:=v }):=aE.id.via _ _ _ 0 rfl (fun _=>rfl) (fun _ _=>rfl)
def lZ (n:Nat) (a0:Int) (a1:Int):Option Int:=
 some (wr .u32 ((wr .u32 ((sB .u32 a1 8) + (wr .u32 a0))) + 1))
theorem sw {n a0 a1 r}  (h:lZ n a0 a1 = some r):yz Tryz.prog 90 [.int .i64 a0, .int .u32 a1] (.int .u32 r):=by
 unfold lZ at h
 refine fI Tryz.func90 (by kernel_rfl) rfl Tryz.ntmps90 rfl (fun cx cZ hpre hro=>?_)
 refine SC 8 rf ?_
 refine ai rfl (wP rfl rfl (by decide)) ?_
 refine SL 8 rf ?_
 have h:=sj h; subst h
 exact RV rf (rt rf rn) rf
def bR (n:Nat) (a0:Int):Option (Int × Bool):=
 cn (((decide ((wr .i64 ((wr .i64 (kN .u32 a0 255)) - 1)) < 0) || decide (32 ≤ (wr .i64 ((wr .i64 (kN .u32 a0 255)) - 1)))) || decide (8388607 < (yL .u32 a0 8)))) (
 some (0,false)) (
 some (wr .i64 ((wr .i64 (kN .u32 a0 255)) - 1),true))
theorem cL {n a0 r}  (h:bR n a0 = some r):yz Tryz.prog 40 [.int .u32 a0] (.tuple #[.int .i64 r.1, .bool r.2]):=by
 unfold bR at h
 refine fI Tryz.func40 (by kernel_rfl) rfl Tryz.ntmps40 rfl (fun cx cZ hpre hro=>?_)
 refine SC 9 rf ?_
 refine ai rfl (rm rfl rfl) ?_
 refine SL 11 rf ?_
 refine GB rf rf rf (fun hb=>ak rfl) ?_
 refine GB rf rf rf (fun hb=>n8 (bC rfl hb) rfl) ?_
 refine ai rfl (eF rfl rfl) ?_
 refine ai rfl (ak rfl) ?_
 refine GB rf rf rf (fun hb=>ak rfl) ?_
 refine GB rf rf rf (fun hb=>Al (bC rfl hb) rfl (by decide)) ?_
 refine GB rf rf rf (fun hb=>nc (bC rfl hb) rfl) ?_
 refine ai rfl (eF rfl rfl) ?_
 refine SL 2 rf ?_
 refine dN h rf (fun hc h=>?_) fun hc h=>?_
 ·
  refine SC 8 rf ?_
  have h:=sj h; subst h
  exact RV rf (rt rf (rt rf rn)) rf
 ·
  refine SC 10 rf ?_
  have h:=sj h; subst h
  exact RV rf (rt rf (rt rf rn)) rf
def bk (n:Nat) (a0:bA) (a1:Int):Option Bool:=
 bd (bR n a1) fun aM =>
 gu (!(aM.2 == true) || dO aM.1 32) <|
 lt ({ gen:=yL .u32 a1 8,jC:=true,retired:=false }:iU) fun hJ =>
 some (aM.2 && (mL (a0.slots (Int.toNat aM.1)) hJ))
theorem bD {n a0 a1 r}  (h:bk n a0 a1 = some r):yz Tryz.prog 58 [.agg (aD.enc a0).toArray, .int .u32 a1] (.bool r):=by
 unfold bk at h
 refine fI Tryz.func58 (by kernel_rfl) rfl Tryz.ntmps58 rfl (fun cx cZ hpre hro=>?_)
 refine SC 2 rf ?_
 refine W1 rf (cC aD a0 rfl rfl) fun b2=>?_
 obtain ⟨aM,bX,h⟩:=aS h
 refine SL 6 rf ?_
 refine CV (cL bX) rf rf ?_
 obtain ⟨qj,h⟩:=cq h
 obtain ⟨hJ,jE,h⟩:=cj h
 refine SL 11 rf ?_
 refine GB rf rf rf (fun hb=>ak rfl) ?_
 refine GB rf rf rf (fun hb=>aO rfl) ?_
 refine GB rf rf rf (fun hb=>fK (m:=(Int.toNat aM.1)) (bC rfl hb) (bC rfl hb) (az (iJ qj hb)).1 (az (iJ qj hb)).2) ?_
 refine GB rf rf rf (fun hb=>bj (M:=bK) (cR.c0 (aE.idx (L:=bK) (m:=32) (k:=3) ((Int.toNat aM.1)) (az (iJ qj hb)).2 rfl)) (bC rfl hb) rfl) ?_
 refine GB rf rf rf (fun hb=>ak rfl) ?_
 refine GB rf rf rf (fun hb=>Al (bC rfl hb) rfl (by decide)) ?_
 refine GB rf rf rf (fun hb=>dI (cs:=bK.enc hJ) (aB (bC rfl hb) (aB rfl rfl)) (by rw [jE]; rfl)) ?_
 refine GB rf rf rf (fun hb=>kP (sY (cs:=bK.enc (a0.slots (Int.toNat aM.1))) (ds:=bK.enc hJ) (bC rfl hb) (bC rfl hb) rfl rfl) (sO _ _)) ?_
 refine ai rfl (bV rfl rfl) ?_
 refine SL 4 rf ?_
 have h:=sj h; subst h
 exact RV rf (rt rf rn) rf
def iV (n:Nat) (a0:bA) (a1:Int):Option (Int × Bool):=
 gu (!((decide (a1 < 0) || decide (32 ≤ a1)) == false) || dO a1 32) <|
 cn (((decide (a1 < 0) || decide (32 ≤ a1)) || (!((a0.slots (Int.toNat a1)).jC)))) (
 some (0,false)) (
 gu (dO a1 32) <|
 bd (lZ n a1 ((a0.slots (Int.toNat a1)).gen)) fun hJ =>
 some (hJ,true))
theorem rT {n a0 a1 r}  (h:iV n a0 a1 = some r):yz Tryz.prog 98 [.agg (aD.enc a0).toArray, .int .i64 a1] (.tuple #[.int .u32 r.1, .bool r.2]):=by
 unfold iV at h
 refine fI Tryz.func98 (by kernel_rfl) rfl Tryz.ntmps98 rfl (fun cx cZ hpre hro=>?_)
 refine SC 2 rf ?_
 refine W1 rf (cC aD a0 rfl rfl) fun b2=>?_
 obtain ⟨nE,h⟩:=cq h
 refine SL 10 rf ?_
 refine GB rf rf rf (fun hb=>ak rfl) ?_
 refine GB rf rf rf (fun hb=>n8 (bC rfl hb) rfl) ?_
 refine ai rfl (eF rfl rfl) ?_
 refine ai rfl (ak rfl) ?_
 refine GB rf rf rf (fun hb=>ak rfl) ?_
 refine GB rf rf rf (fun hb=>aO rfl) ?_
 refine GB rf rf rf (fun hb=>fK (m:=(Int.toNat a1)) (bC rfl hb) (bC rfl hb) (az (iJ nE hb)).1 (az (iJ nE hb)).2) ?_
 refine GB rf rf rf (fun hb=>fC (bC rfl hb)) ?_
 refine GB rf rf rf (fun hb=>lI ((cR.c0 (aE.idx (L:=bK) (m:=32) (k:=3) ((Int.toNat a1)) (az (iJ nE hb)).2 rfl)).comp gK) (bC rfl hb)) ?_
 refine GB rf rf rf (fun hb=>ja (bC rfl hb)) ?_
 refine ai rfl (eF rfl rfl) ?_
 refine SL 2 rf ?_
 refine dN h rf (fun hc h=>?_) fun hc h=>?_
 ·
  refine SC 8 rf ?_
  have h:=sj h; subst h
  exact RV rf (rt rf (rt rf rn)) rf
 ·
  obtain ⟨qj,h⟩:=cq h
  obtain ⟨hJ,jE,h⟩:=aS h
  refine SC 7 rf ?_
  refine ai rfl (fK (m:=(Int.toNat a1)) rfl rfl (az qj).1 (az qj).2) ?_
  refine ai rfl (fC rfl) ?_
  refine ai rfl (bg ((cR.c0 (aE.idx (L:=bK) (m:=32) (k:=3) ((Int.toNat a1)) (az qj).2 rfl)).comp gL) rfl) ?_
  refine CV (sw jE) rf rf ?_
  refine SL 5 rf ?_
  have h:=sj h; subst h
  exact RV rf (rt rf (rt rf rn)) rf
def fG (n:Nat) (a0:bA):Option (bA × Int × Bool):=
 eu (fun v7 (bE:Int) =>
 cn (decide (bE < 32)) (
 gu (dO bE 32) <|
 lt ((a0.slots (Int.toNat bE)):iU) fun cH =>
 cn ((cH.jC || cH.retired)) (
 v7 (wr .i64 (bE + 1))) (
 gu (dO bE 32) <|
 lt ({ a0 with slots:=(eG a0.slots (Int.toNat bE) ({ (a0.slots (Int.toNat bE)) with jC:=true })) }:bA) fun fa =>
 bd (lZ n bE cH.gen) fun cI =>
 some (fa,cI,true))) (
 some (a0,0,false))) n 0
theorem pJ {n a0 r}  (h:fG n a0 = some r):yz Tryz.prog 77 [.agg (aD.enc a0).toArray] (.tuple #[.agg (aD.enc r.1).toArray, .int .u32 r.2.1, .bool r.2.2]):=by
 unfold fG at h
 refine fI Tryz.func77 (by kernel_rfl) rfl Tryz.ntmps77 rfl (fun cx cZ hpre hro=>?_)
 refine SC 2 rf ?_
 refine W1 rf (cC aD a0 rfl rfl) fun b1=>?_
 refine W1 rf (bu (L:=aD) (z:=iI) ⟨by kernel_rfl⟩) fun b2=>?_
 refine SL 8 rf ?_
 refine ai rfl (bj (M:=(LA bK 32)) cR rfl rfl) ?_
 refine SL 4 rf ?_
 obtain ⟨p9,mq,h⟩:=mT h
 refine LO (β:=Int) [1,2,8] [0,1] (fun (me,bE)=>[(9, .int .i64 bE)]) (fun (me,bE)=>[.cells b2 29 (aD.enc iI), .cells b1 29 (aD.enc a0)]) (fun (me,bE)=>eu p9 me bE = some r) (n,0) h rf rf rf ?_
 rintro me bE h
 replace h:=mS mq h; obtain ⟨me,rfl,h⟩:=h
 refine SC 6 rf ?_
 refine dN h rf (fun hc h=>?_) fun hc h=>?_
 ·
  obtain ⟨mN,h⟩:=cq h
  obtain ⟨cH,lE,h⟩:=cj h
  refine SC 7 rf ?_
  refine ai rfl (ID (L:=bK) (m:=(Int.toNat bE)) rfl rfl (az mN).1 (az mN).2 rfl rfl) ?_
  refine W1 rf (bu (L:=bK) (z:=pT) ⟨by kernel_rfl⟩) fun b6=>?_
  refine ai rfl (bQ rfl) ?_
  refine W0 (bI (M:=bK) (aE.id (L:=bK)) (a0.slots (Int.toNat bE)) cH lE rfl rfl rfl rfl) ?_
  refine SL 6 rf ?_
  refine ai rfl (lI gK rfl) ?_
  refine ai rfl (ak rfl) ?_
  refine GB rf rf rf (fun hb=>aO rfl) ?_
  refine GB rf rf rf (fun hb=>lI kE (bC rfl hb)) ?_
  refine ai rfl (eF rfl rfl) ?_
  refine SL 2 rf ?_
  refine dN h rf (fun hc h=>?_) fun hc h=>?_
  ·
   refine SC 8 rf ?_
   exact LN [1,2] (wr .i64 (bE + 1)) h rf rf rf
  ·
   obtain ⟨tP,h⟩:=cq h
   obtain ⟨fa,rM,h⟩:=cj h
   refine SC 6 rf ?_
   refine ai rfl (fK (m:=(Int.toNat bE)) rfl rfl (az tP).1 (az tP).2) ?_
   refine ai rfl (fC rfl) ?_
   refine W0 (bI (M:=LB) ((cR.c0 (aE.idx (L:=bK) (m:=32) (k:=3) ((Int.toNat bE)) (az tP).2 rfl)).comp gK) true fa rM rfl rfl rfl rfl) ?_
   refine SL 3 rf ?_
   obtain ⟨cI,tI,h⟩:=aS h
   refine cK mixed (.gm [] [(0,[1]),(1,[5]),(2,[6]),(3,[25]),(4,[24,26])] (.alt 5 [2,23] (.gm [] [] (.alt 6 [27] (.gm [] [] (.alt 7 [] (.fin [] []) .no)) .no)) .no)) (by kernel_rfl) ?_
   refine T0 ?_
   refine NV rf rf (bj (M:=aD) (aE.id (L:=aD)) rfl rfl) ?_
   refine NS 2 rf ?_
   refine NV rf rf (bg gL rfl) ?_
   refine NC rf rf (sw tI) rf ?_
   refine aP ?_
   refine X0 rf (bI (M:=aD) (aE.id (L:=aD)) fa fa rfl rfl rfl rfl rfl) ?_
   refine E8 ?_
   refine XV rf rf (bQ rfl) ?_
   refine E8 ?_
   refine XV rf rf (bQ rfl) ?_
   refine oF ?_
   refine SX 7 rf ?_
   have h:=sj h; subst h
   exact RV rf (ra rf (aT _ _) (rt rf (rt rf rn))) rf
 ·
  refine SC 7 rf ?_
  refine ai rfl (bj (M:=aD) (aE.id (L:=aD)) rfl rfl) ?_
  refine W0 (bI (M:=aD) (aE.id (L:=aD)) a0 a0 rfl rfl rfl rfl rfl) ?_
  refine SL 5 rf ?_
  have h:=sj h; subst h
  exact RV rf (ra rf (aT _ _) (rt rf (rt rf rn))) rf
def gZ (n:Nat) (a0:bA) (a1:Int):Option (bA × Bool):=
 bd (bk n a0 a1) fun aM =>
 cn ((!aM)) (
 some (a0,false)) (
 bd (bR n a1) fun bE =>
 gu (dO bE.1 32) <|
 lt ({ a0 with slots:=(eG a0.slots (Int.toNat bE.1) ({ (a0.slots (Int.toNat bE.1)) with jC:=false })) }:bA) fun jS =>
 cn ((((jS.slots (Int.toNat bE.1)).gen) == 8388607)) (
 lt ({ jS with slots:=(eG jS.slots (Int.toNat bE.1) ({ (jS.slots (Int.toNat bE.1)) with retired:=true })) }:bA) fun fF =>
 some (fF,true)) (
 lt ({ jS with slots:=(eG jS.slots (Int.toNat bE.1) ({ (jS.slots (Int.toNat bE.1)) with gen:=wr .u32 (((jS.slots (Int.toNat bE.1)).gen) + 1) })) }:bA) fun dB =>
 some (dB,true)))
theorem qv {n a0 a1 r}  (h:gZ n a0 a1 = some r):yz Tryz.prog 79 [.agg (aD.enc a0).toArray, .int .u32 a1] (.tuple #[.agg (aD.enc r.1).toArray, .bool r.2]):=by
 unfold gZ at h
 refine fI Tryz.func79 (by kernel_rfl) rfl Tryz.ntmps79 rfl (fun cx cZ hpre hro=>?_)
 refine SC 2 rf ?_
 refine W1 rf (cC aD a0 rfl rfl) fun b2=>?_
 refine W1 rf (bu (L:=aD) (z:=iI) ⟨by kernel_rfl⟩) fun b4=>?_
 obtain ⟨aM,bX,h⟩:=aS h
 refine SL 6 rf ?_
 refine ai rfl (bj (M:=aD) (aE.id (L:=aD)) rfl rfl) ?_
 refine ai rfl (ak rfl) ?_
 refine CV (bD bX) rf rf ?_
 refine SL 3 rf ?_
 refine dN h rf (fun hc h=>?_) fun hc h=>?_
 ·
  refine SC 2 rf ?_
  refine ai rfl (bj (M:=aD) (aE.id (L:=aD)) rfl rfl) ?_
  refine W0 (bI (M:=aD) (aE.id (L:=aD)) a0 a0 rfl rfl rfl rfl rfl) ?_
  refine SL 5 rf ?_
  have h:=sj h; subst h
  exact RV rf (ra rf (aT _ _) (rt rf rn)) rf
 ·
  obtain ⟨bE,fc,h⟩:=aS h
  refine SC 5 rf ?_
  refine CV (cL fc) rf rf ?_
  obtain ⟨tR,h⟩:=cq h
  refine SL 11 rf ?_
  refine ai rfl (fK (m:=(Int.toNat bE.1)) rfl rfl (az tR).1 (az tR).2) ?_
  obtain ⟨jS,qf,h⟩:=cj h
  refine SL 8 rf ?_
  refine W0 (bI (M:=LB) ((cR.c0 (aE.idx (L:=bK) (m:=32) (k:=3) ((Int.toNat bE.1)) (az tR).2 rfl)).comp gK) false jS qf rfl rfl rfl rfl) ?_
  refine SL 8 rf ?_
  refine ai rfl (bg ((cR.c0 (aE.idx (L:=bK) (m:=32) (k:=3) ((Int.toNat bE.1)) (az tR).2 rfl)).comp gL) rfl) ?_
  refine SL 3 rf ?_
  refine dN h rf (fun hc h=>?_) fun hc h=>?_
  ·
   obtain ⟨fF,nD,h⟩:=cj h
   refine SC 4 rf ?_
   refine W0 (bI (M:=LB) ((cR.c0 (aE.idx (L:=bK) (m:=32) (k:=3) ((Int.toNat bE.1)) (az tR).2 rfl)).comp kE) true fF nD rfl rfl rfl rfl) ?_
   refine SL 4 rf ?_
   refine ai rfl (bj (M:=aD) (aE.id (L:=aD)) rfl rfl) ?_
   refine W0 (bI (M:=aD) (aE.id (L:=aD)) fF fF rfl rfl rfl rfl rfl) ?_
   refine SL 4 rf ?_
   have h:=sj h; subst h
   exact RV rf (ra rf (aT _ _) (rt rf rn)) rf
  ·
   obtain ⟨dB,lF,h⟩:=cj h
   refine SC 4 rf ?_
   refine ai rfl (bg ((cR.c0 (aE.idx (L:=bK) (m:=32) (k:=3) ((Int.toNat bE.1)) (az tR).2 rfl)).comp gL) rfl) ?_
   refine SL 3 rf ?_
   refine W0 (bI (M:=(LI .u32)) ((cR.c0 (aE.idx (L:=bK) (m:=32) (k:=3) ((Int.toNat bE.1)) (az tR).2 rfl)).comp gL) (wr .u32 (((jS.slots (Int.toNat bE.1)).gen) + 1)) dB lF rfl rfl rfl rfl) ?_
   refine SL 4 rf ?_
   refine ai rfl (bj (M:=aD) (aE.id (L:=aD)) rfl rfl) ?_
   refine W0 (bI (M:=aD) (aE.id (L:=aD)) dB dB rfl rfl rfl rfl rfl) ?_
   refine SL 4 rf ?_
   have h:=sj h; subst h
   exact RV rf (ra rf (aT _ _) (rt rf rn)) rf
def gh (n:Nat) (a0:bA):Option (List Int):=
 c9 (fun Cn (cH:(List Int)) (cI:Int) =>
 cn (decide (cI < 32)) (
 bd (iV n a0 cI) fun cT =>
 cn (cT.2) (
 gu (j9 cH.length 1 4) <|
 lt (cH++([cT.1]):List Int) fun gq =>
 Cn gq (wr .i64 (cI + 1))) (
 Cn cH (wr .i64 (cI + 1)))) (
 some cH)) n ([]) 0
theorem oY {n a0 r}  (h:gh n a0 = some r):Bw.Fn (α:=Value) Tryz.prog 89 [.agg (aD.enc a0).toArray] (fun _=>True) [] (fun v=>ko v r.length) (fun v=>v) (fun v=>[Row v 32 1 (LI .u32) r]):=by
 unfold gh at h
 refine fI Tryz.func89 (by kernel_rfl) rfl Tryz.ntmps89 rfl (fun cx cZ hpre hro=>?_)
 refine SC 2 rf ?_
 refine W1 rf (cC aD a0 rfl rfl) fun b1=>?_
 refine SL 15 rf ?_
 refine kW 32 1 (LI .u32) ?_
 obtain ⟨Cl,xP,h⟩:=kC h
 refine LO (β:=(List Int) × Int × Value) [1] [0,1] (fun (m32,cH,cI,qD)=>[(3,qD),(7, .int .i64 cI)]) (fun (m32,cH,cI,qD)=>[Row qD 32 1 (LI .u32) cH, .cells b1 29 (aD.enc a0)]) (fun (m32,cH,cI,qD)=>ko qD cH.length∧c9 Cl m32 cH cI = some r) (n,[],0, .slice none 0 0) ⟨⟨_,_,rfl⟩,h⟩ rf rf rf ?_
 rintro m32 ⟨cH,cI,qD⟩ ⟨pG,h⟩
 replace h:=kB xP h; obtain ⟨m32,rfl,h⟩:=h
 refine SC 6 rf ?_
 refine dN h rf (fun hc h=>?_) fun hc h=>?_
 ·
  obtain ⟨cT,qd,h⟩:=aS h
  refine SC 12 rf ?_
  refine ai rfl (bj (M:=aD) (aE.id (L:=aD)) rfl rfl) ?_
  refine ai rfl (ak rfl) ?_
  refine CV (rT qd) rf rf ?_
  refine SL 12 rf ?_
  refine dN h rf (fun hc h=>?_) fun hc h=>?_
  ·
   obtain ⟨oW,h⟩:=cq h
   obtain ⟨gq,mj,h⟩:=cj h
   refine SC 3 rf ?_
   refine ef rfl (ki (LI .u32) cT.1 rfl rfl rfl rfl (by decide) (by decide)) (fun Ug _=>?_)
   refine ef rfl (jn (sz:=1) (L:=(LI .u32)) (xs:=cH) (y:=cT.1) (bytes:=4) rfl rfl rfl (dA oW).1 (dA oW).2) (fun Fp uK=>?_)
   rw [← mj] at uK; rw [← mj]
   refine SL 8 rf ?_
   exact LN [1,2] (gq,wr .i64 (cI + 1),Fp) ⟨uK,h⟩ rf rf rf
  ·
   refine SC 7 rf ?_
   exact LN [0,1] (cH,wr .i64 (cI + 1),qD) ⟨pG,h⟩ rf rf rf
 ·
  refine SC 12 rf ?_
  have h:=sj h; subst h
  exact dF qD rfl (.tmp rfl .nil) pG rfl (ks:=[0]) rfl (by decide)
end Go.Proofs.YtmdpbdhkmfjlhaaGreat
namespace Go.Proofs.YtmdpbdhkmfjlhaaGreat
open Go Go.Bw
structure aJ where
 js:(Nat→Int)
 Is:(Nat→Int)
abbrev aI:aL aJ:=aL.via (LP (LA (LI .i64) 32) (LA (LI .i64) 32)) (fun x=>(x.js,x.Is))
abbrev jm:aJ:=⟨(fun _=>0),(fun _=>0)⟩
theorem jq:aE aI (LA (LI .i64) 32) 0 (fun x=>x.js) (fun x v=>{ x with js:=v }):=(aE.fst aE.id).via _ _ _ 0 rfl (fun _=>rfl) (fun _ _=>rfl)
theorem eZ:aE aI (LA (LI .i64) 32) 32 (fun x=>x.Is) (fun x v=>{ x with Is:=v }):=(aE.snd aE.id).via _ _ _ 32 rfl (fun _=>rfl) (fun _ _=>rfl)
def fg (n:Nat) (a0:aJ) (a1:Int):Option Int:=
 gu (dO a1 32) <|
 some (wr .i64 ((wr .i64 (a1 + (wr .i64 (256 * (a0.js (Int.toNat a1)))))) + 1))
theorem iz {n a0 a1 r}  (h:fg n a0 a1 = some r):yz Tryz.prog 51 [.agg (aI.enc a0).toArray, .int .i64 a1] (.int .i64 r):=by
 unfold fg at h
 refine fI Tryz.func51 (by kernel_rfl) rfl Tryz.ntmps51 rfl (fun cx cZ hpre hro=>?_)
 refine SC 2 rf ?_
 refine W1 rf (cC aI a0 rfl rfl) fun b2=>?_
 obtain ⟨nE,h⟩:=cq h
 refine SL 8 rf ?_
 refine ai rfl (fK (m:=(Int.toNat a1)) rfl rfl (az nE).1 (az nE).2) ?_
 refine ai rfl (bg (jq.c0 (aE.idx (L:=(LI .i64)) (m:=32) (k:=1) ((Int.toNat a1)) (az nE).2 rfl)) rfl) ?_
 refine SL 7 rf ?_
 have h:=sj h; subst h
 exact RV rf (rt rf rn) rf
def bY (n:Nat) (a0:aJ) (a1:Int):Option Int:=
 eu (fun v7 (bE:Int) =>
 cn (decide (bE < 32)) (
 gu (dO bE 32) <|
 cl (((a0.Is (Int.toNat bE)) == 1) == true) (fg n a0 bE) default fun cH =>
 cn ((((a0.Is (Int.toNat bE)) == 1) && (cH == a1))) (
 some bE) (
 v7 (wr .i64 (bE + 1)))) (
 some (-1))) n 0
theorem dz {n a0 a1 r}  (h:bY n a0 a1 = some r):yz Tryz.prog 38 [.agg (aI.enc a0).toArray, .int .i64 a1] (.int .i64 r):=by
 unfold bY at h
 refine fI Tryz.func38 (by kernel_rfl) rfl Tryz.ntmps38 rfl (fun cx cZ hpre hro=>?_)
 refine SC 2 rf ?_
 refine W1 rf (cC aI a0 rfl rfl) fun b2=>?_
 refine SL 10 rf ?_
 obtain ⟨p9,mq,h⟩:=mT h
 refine LO (β:=Int) [1,2] [0] (fun (me,bE)=>[(5, .int .i64 bE)]) (fun (me,bE)=>[.cells b2 44 (aI.enc a0)]) (fun (me,bE)=>eu p9 me bE = some r) (n,0) h rf rf rf ?_
 rintro me bE h
 replace h:=mS mq h; obtain ⟨me,rfl,h⟩:=h
 refine SC 7 rf ?_
 refine dN h rf (fun hc h=>?_) fun hc h=>?_
 ·
  obtain ⟨mN,h⟩:=cq h
  obtain ⟨cH,lE,_,h⟩:=gQ h
  refine SC 8 rf ?_
  refine ai rfl (cm (m:=(Int.toNat bE)) rfl rfl (az mN).1 (az mN).2) ?_
  refine ai rfl (bg (eZ.comp (aE.idx (L:=(LI .i64)) (m:=32) (k:=1) ((Int.toNat bE)) (az mN).2 rfl)) rfl) ?_
  refine SL 2 rf ?_
  refine GB rf rf rf (fun hb=>bj (M:=aI) (aE.id (L:=aI)) rfl rfl) ?_
  refine GB rf rf rf (fun hb=>ak rfl) ?_
  refine GB rf rf rf (fun hb=>ck (iz (lE hb)) (aB (bC rfl hb) (aB (bC rfl hb) rfl)) (fun _ _ _=>trivial)) ?_
  refine GB rf rf rf (fun hb=>ak rfl) ?_
  refine GB rf rf rf (fun hb=>ff (bC rfl hb) (bC rfl hb)) ?_
  refine ai rfl (bV rfl rfl) ?_
  refine SL 2 rf ?_
  refine dN h rf (fun hc h=>?_) fun hc h=>?_
  ·
   refine SC 12 rf ?_
   have h:=sj h; subst h
   exact RV rf (rt rf rn) rf
  ·
   refine SC 8 rf ?_
   exact LN [0] (wr .i64 (bE + 1)) h rf rf rf
 ·
  refine SC 11 rf ?_
  have h:=sj h; subst h
  exact RV rf (rt rf rn) rf
def gy (n:Nat) (a0:aJ) (a1:Int):Option (aJ × Bool):=
 bd (bY n a0 a1) fun aM =>
 cn (decide (aM < 0)) (
 some (a0,false)) (
 gu (dO aM 32) <|
 lt ({ a0 with Is:=(eG a0.Is (Int.toNat aM) 0) }:aJ) fun hJ =>
 gu (dO aM 32) <|
 cn (((hJ.js (Int.toNat aM)) == 8388607)) (
 gu (dO aM 32) <|
 lt ({ hJ with Is:=(eG hJ.Is (Int.toNat aM) 2) }:aJ) fun dB =>
 some (dB,true)) (
 gu (dO aM 32) <|
 gu (dO aM 32) <|
 lt ({ hJ with js:=(eG hJ.js (Int.toNat aM) (wr .i64 ((hJ.js (Int.toNat aM)) + 1))) }:aJ) fun fa =>
 some (fa,true)))
theorem q8 {n a0 a1 r}  (h:gy n a0 a1 = some r):yz Tryz.prog 81 [.agg (aI.enc a0).toArray, .int .i64 a1] (.tuple #[.agg (aI.enc r.1).toArray, .bool r.2]):=by
 unfold gy at h
 refine fI Tryz.func81 (by kernel_rfl) rfl Tryz.ntmps81 rfl (fun cx cZ hpre hro=>?_)
 refine SC 2 rf ?_
 refine W1 rf (cC aI a0 rfl rfl) fun b2=>?_
 refine W1 rf (bu (L:=aI) (z:=jm) ⟨by kernel_rfl⟩) fun b4=>?_
 obtain ⟨aM,bX,h⟩:=aS h
 refine SL 5 rf ?_
 refine ai rfl (bj (M:=aI) (aE.id (L:=aI)) rfl rfl) ?_
 refine ai rfl (ak rfl) ?_
 refine CV (dz bX) rf rf ?_
 refine SL 10 rf ?_
 refine dN h rf (fun hc h=>?_) fun hc h=>?_
 ·
  refine SC 2 rf ?_
  refine ai rfl (bj (M:=aI) (aE.id (L:=aI)) rfl rfl) ?_
  refine W0 (bI (M:=aI) (aE.id (L:=aI)) a0 a0 rfl rfl rfl rfl rfl) ?_
  refine SL 5 rf ?_
  have h:=sj h; subst h
  exact RV rf (ra rf (aT _ _) (rt rf rn)) rf
 ·
  obtain ⟨qj,h⟩:=cq h
  obtain ⟨hJ,jE,h⟩:=cj h
  refine SC 6 rf ?_
  refine ai rfl (cm (m:=(Int.toNat aM)) rfl rfl (az qj).1 (az qj).2) ?_
  refine W0 (bI (M:=(LI .i64)) (eZ.comp (aE.idx (L:=(LI .i64)) (m:=32) (k:=1) ((Int.toNat aM)) (az qj).2 rfl)) 0 hJ jE rfl rfl rfl rfl) ?_
  obtain ⟨xS,h⟩:=cq h
  refine SL 7 rf ?_
  refine ai rfl (fK (m:=(Int.toNat aM)) rfl rfl (az xS).1 (az xS).2) ?_
  refine ai rfl (bg (jq.c0 (aE.idx (L:=(LI .i64)) (m:=32) (k:=1) ((Int.toNat aM)) (az xS).2 rfl)) rfl) ?_
  refine SL 3 rf ?_
  refine dN h rf (fun hc h=>?_) fun hc h=>?_
  ·
   obtain ⟨tQ,h⟩:=cq h
   obtain ⟨dB,lF,h⟩:=cj h
   refine SC 3 rf ?_
   refine ai rfl (cm (m:=(Int.toNat aM)) rfl rfl (az tQ).1 (az tQ).2) ?_
   refine W0 (bI (M:=(LI .i64)) (eZ.comp (aE.idx (L:=(LI .i64)) (m:=32) (k:=1) ((Int.toNat aM)) (az tQ).2 rfl)) 2 dB lF rfl rfl rfl rfl) ?_
   refine SL 4 rf ?_
   refine ai rfl (bj (M:=aI) (aE.id (L:=aI)) rfl rfl) ?_
   refine W0 (bI (M:=aI) (aE.id (L:=aI)) dB dB rfl rfl rfl rfl rfl) ?_
   refine SL 4 rf ?_
   have h:=sj h; subst h
   exact RV rf (ra rf (aT _ _) (rt rf rn)) rf
  ·
   obtain ⟨mw,h⟩:=cq h
   obtain ⟨tP,h⟩:=cq h
   obtain ⟨fa,rM,h⟩:=cj h
   refine SC 4 rf ?_
   refine ai rfl (fK (m:=(Int.toNat aM)) rfl rfl (az mw).1 (az mw).2) ?_
   refine ai rfl (bg (jq.c0 (aE.idx (L:=(LI .i64)) (m:=32) (k:=1) ((Int.toNat aM)) (az mw).2 rfl)) rfl) ?_
   refine SL 2 rf ?_
   refine ai rfl (fK (m:=(Int.toNat aM)) rfl rfl (az tP).1 (az tP).2) ?_
   refine W0 (bI (M:=(LI .i64)) (jq.c0 (aE.idx (L:=(LI .i64)) (m:=32) (k:=1) ((Int.toNat aM)) (az tP).2 rfl)) (wr .i64 ((hJ.js (Int.toNat aM)) + 1)) fa rM rfl rfl rfl rfl) ?_
   refine SL 4 rf ?_
   refine ai rfl (bj (M:=aI) (aE.id (L:=aI)) rfl rfl) ?_
   refine W0 (bI (M:=aI) (aE.id (L:=aI)) fa fa rfl rfl rfl rfl rfl) ?_
   refine SL 4 rf ?_
   have h:=sj h; subst h
   exact RV rf (ra rf (aT _ _) (rt rf rn)) rf
def fX (n:Nat) (a0:aJ):Option (aJ × Int):=
 eu (fun v7 (bE:Int) =>
 cn (decide (bE < 32)) (
 gu (dO bE 32) <|
 cn (((a0.Is (Int.toNat bE)) == 0)) (
 gu (dO bE 32) <|
 lt ({ a0 with Is:=(eG a0.Is (Int.toNat bE) 1) }:aJ) fun dQ =>
 bd (fg n dQ bE) fun fa =>
 some (dQ,fa)) (
 v7 (wr .i64 (bE + 1)))) (
 some (a0,0))) n 0
theorem qt {n a0 r}  (h:fX n a0 = some r):yz Tryz.prog 87 [.agg (aI.enc a0).toArray] (.tuple #[.agg (aI.enc r.1).toArray, .int .i64 r.2]):=by
 unfold fX at h
 refine fI Tryz.func87 (by kernel_rfl) rfl Tryz.ntmps87 rfl (fun cx cZ hpre hro=>?_)
 refine SC 2 rf ?_
 refine W1 rf (cC aI a0 rfl rfl) fun b1=>?_
 refine W1 rf (bu (L:=aI) (z:=jm) ⟨by kernel_rfl⟩) fun b2=>?_
 refine SL 10 rf ?_
 obtain ⟨p9,mq,h⟩:=mT h
 refine LO (β:=Int) [1,2] [0,1] (fun (me,bE)=>[(4, .int .i64 bE)]) (fun (me,bE)=>[.cells b2 44 (aI.enc jm), .cells b1 44 (aI.enc a0)]) (fun (me,bE)=>eu p9 me bE = some r) (n,0) h rf rf rf ?_
 rintro me bE h
 replace h:=mS mq h; obtain ⟨me,rfl,h⟩:=h
 refine SC 7 rf ?_
 refine dN h rf (fun hc h=>?_) fun hc h=>?_
 ·
  obtain ⟨mN,h⟩:=cq h
  refine SC 8 rf ?_
  refine ai rfl (cm (m:=(Int.toNat bE)) rfl rfl (az mN).1 (az mN).2) ?_
  refine ai rfl (bg (eZ.comp (aE.idx (L:=(LI .i64)) (m:=32) (k:=1) ((Int.toNat bE)) (az mN).2 rfl)) rfl) ?_
  refine SL 3 rf ?_
  refine dN h rf (fun hc h=>?_) fun hc h=>?_
  ·
   obtain ⟨mw,h⟩:=cq h
   obtain ⟨dQ,qe,h⟩:=cj h
   refine SC 4 rf ?_
   refine ai rfl (cm (m:=(Int.toNat bE)) rfl rfl (az mw).1 (az mw).2) ?_
   refine W0 (bI (M:=(LI .i64)) (eZ.comp (aE.idx (L:=(LI .i64)) (m:=32) (k:=1) ((Int.toNat bE)) (az mw).2 rfl)) 1 dQ qe rfl rfl rfl rfl) ?_
   refine SL 3 rf ?_
   obtain ⟨fa,rM,h⟩:=aS h
   refine cK mixed (.gm [] [(0,[1]),(1,[1]),(2,[4]),(3,[18,19])] (.alt 4 [2,17] (.gm [] [] (.alt 5 [20] (.fin [] []) .no)) .no)) (by kernel_rfl) ?_
   refine T0 ?_
   refine NV rf rf (bj (M:=aI) (aE.id (L:=aI)) rfl rfl) ?_
   refine NV rf rf (bj (M:=aI) (aE.id (L:=aI)) rfl rfl) ?_
   refine NS 1 rf ?_
   refine NC rf rf (iz rM) rf ?_
   refine aP ?_
   refine X0 rf (bI (M:=aI) (aE.id (L:=aI)) dQ dQ rfl rfl rfl rfl rfl) ?_
   refine E8 ?_
   refine XV rf rf (bQ rfl) ?_
   refine oF ?_
   refine SX 7 rf ?_
   have h:=sj h; subst h
   exact RV rf (ra rf (aT _ _) (rt rf rn)) rf
  ·
   refine SC 8 rf ?_
   exact LN [0,1] (wr .i64 (bE + 1)) h rf rf rf
 ·
  refine SC 7 rf ?_
  refine ai rfl (bj (M:=aI) (aE.id (L:=aI)) rfl rfl) ?_
  refine W0 (bI (M:=aI) (aE.id (L:=aI)) a0 a0 rfl rfl rfl rfl rfl) ?_
  refine SL 4 rf ?_
  have h:=sj h; subst h
  exact RV rf (ra rf (aT _ _) (rt rf rn)) rf
end Go.Proofs.YtmdpbdhkmfjlhaaGreat
namespace Go.Proofs.YtmdpbdhkmfjlhaaGreat
open Go Go.Bw
end Go.Proofs.YtmdpbdhkmfjlhaaGreat
namespace Go.Proofs.YtmdpbdhkmfjlhaaGreat
open Go Go.Bw
end Go.Proofs.YtmdpbdhkmfjlhaaGreat
namespace Go.Bw
open Go
theorem cz {x:Int} (h1:-9223372036854775808 ≤ x) (h2:x ≤ 9223372036854775807):wr .i64 x = x:=IntWalk.i64_in x ⟨h1,h2⟩
theorem Nm {x:Int} (h1:0 ≤ x) (h2:x ≤ 255):wr .u8 x = x:=IntWalk.u8_in x ⟨h1,h2⟩
theorem oG {x:Int} (h1:0 ≤ x) (h2:x ≤ 4294967295):wr .u32 x = x:=IntWalk.u32_in x ⟨h1,h2⟩
theorem yc {k:IntKind} {a:Nat} (h:a < 2 ^ k.bits):(BitVec.ofInt k.bits (a:Int)).toNat = a:=by
  rw [BitVec.toNat_ofInt]
  have:((a:Int) % ((2 ^ k.bits:Nat):Int)) = ((a % 2 ^ k.bits:Nat):Int):=(Int.natCast_emod _ _).symm
  rw [this,Nat.mod_eq_of_lt h]; rfl
theorem Gk {k:IntKind} {r:Nat} (h:r < 2 ^ IntKind.up k):wr k (r:Int) = r:=D0 h
theorem Ai (k:IntKind) {r:Nat} (h:r < 2 ^ IntKind.up k):r < 2 ^ k.bits:=Nat.lt_of_lt_of_le h (Nat.pow_le_pow_right (by decide) (ET k))
theorem Dj {k:IntKind} {a b:Nat} (ha:a < 2 ^ IntKind.up k) (hb:b < 2 ^ IntKind.up k):kN k a b = ((a &&& b:Nat):Int):=by
  unfold kN
  rw [BitVec.toNat_and,yc (Ai k ha),yc (Ai k hb)]
  exact Gk (Nat.lt_of_le_of_lt Nat.and_le_left ha)
theorem Dk {k:IntKind} {a:Int} (m:Nat) {b:Int} (h0:0 ≤ a) (ha:a < ((2 ^ IntKind.up k:Nat):Int)) (hb:b = ((2 ^ m - 1:Nat):Int)) (hm:2 ^ m - 1 < 2 ^ IntKind.up k):kN k a b = a % ((2 ^ m:Nat):Int):=by
  obtain ⟨x,rfl⟩:=Int.eq_ofNat_of_zero_le h0
  subst hb
  rw [Dj (by exact_mod_cast ha) hm,Nat.and_two_pow_sub_one_eq_mod]
  exact Int.natCast_emod _ _
theorem xu {k:IntKind} {a:Int} (m:Nat) {b:Int} (hb:b = (m:Int)) (hm:m ≤ k.bits):yL k a b = a / ((2 ^ m:Nat):Int):=by
  subst hb
  unfold yL
  rw [Int.toNat_natCast,Nat.min_eq_left hm,Int.fdiv_eq_ediv_of_nonneg _ (Int.pow_nonneg (by decide))]
  congr 1
theorem BN {k:IntKind} {a:Int} (m:Nat) {b:Int} (hb:b = (m:Int)) (hm:m ≤ k.bits):sB k a b = wr k (a * ((2 ^ m:Nat):Int)):=by
  subst hb
  unfold sB wr
  rw [Int.toNat_natCast,Nat.min_eq_left hm]
  congr 2
theorem BG {a b:Int} (h:0 ≤ a):Int.tmod a b = a % b:=Int.tmod_eq_emod_of_nonneg h
theorem cP {i:Int} {n:Nat} (h0:0 ≤ i) (h1:i < (n:Int)):dO i n = true:=by simp [dO,h0,h1]
theorem iY {n m b:Nat} (h:(n + m) * b ≤ 140737488355328) (h2:n + m ≤ 9223372036854775807):j9 n m b = true:=by simp [j9,h,h2]
theorem p5 {α:Type} (f:Nat→α) (i:Nat) (v:α):eG f i v i = v:=by simp [eG]
theorem jT {α:Type} (f:Nat→α) {i j:Nat} (v:α) (h:j ≠ i):eG f i v j = f j:=by simp [eG,h]
theorem cE {α:Type} (f:Nat→α) (i j:Nat) (v:α):eG f i v j = if j = i then v else f j:=rfl
section
variable {α ρ:Type}
theorem ax {m:Option α} {x:α} {f:α→Option ρ} (h:m = some x):bd m f = f x:=by subst h; rfl
theorem lt_eq (a:α) (f:α→Option ρ):lt a f = f a:=rfl
theorem aF {b:Bool} {k:Option ρ} (h:b = true):gu b k = k:=by subst h; rfl
theorem aC {b:Bool} {x y:Option ρ} (h:b = true):cn b x y = x:=by subst h; rfl
theorem av {b:Bool} {x y:Option ρ} (h:b = false):cn b x y = y:=by subst h; rfl
theorem jk {g:Bool} {m:Option α} {z x:α} {f:α→Option ρ} (h:g = true) (hm:m = some x):cl g m z f = f x:=by subst h; subst hm; rfl
theorem qV {g:Bool} {m:Option α} {z:α} {f:α→Option ρ} (h:g = false):cl g m z f = f z:=by subst h; rfl
theorem dD {g:Bool} {m:Option α} {z x:α} {f:α→Option ρ} (hm:m = some x):cl g m z f = f (bif g then x else z):=by subst hm; cases g <;> rfl
end
end Go.Bw
namespace Go.Proofs.YtmdpbdhkmfjlhaaGreat
open Go Go.Bw
def iT (i g:Int):Int:=i + 256 * g + 1
theorem qQ {n:Nat} {i g:Int} (h0:0 ≤ i) (h1:i < 32) (g0:0 ≤ g) (g1:g ≤ 8388607):lZ n i g = some (iT i g):=by
  unfold lZ iT
  rw [BN (b:=8) 8 rfl (by decide),oG (x:=g * _) (by omega) (by omega),oG (x:=i) (by omega) (by omega),oG (x:=g * _ + i) (by omega) (by omega),oG (by omega) (by omega)]
  congr 1; omega
theorem pg {n:Nat} {w:aJ} {i:Int} (h0:0 ≤ i) (h1:i < 32) (g0:0 ≤ w.js i.toNat) (g1:w.js i.toNat ≤ 8388607):fg n w i = some (iT i (w.js i.toNat)):=by
  unfold fg iT
  rw [aF (cP h0 (by omega)),cz (x:=256 * _) (by omega) (by omega),cz (x:=i + _) (by omega) (by omega),cz (by omega) (by omega)]
def w9 (h:Int):Bool:=decide (1 ≤ h % 256∧h % 256 ≤ 32∧h / 256 ≤ 8388607)
def jf (h:Int):Int:=if w9 h then h % 256 - 1 else 0
theorem eB (h:Int):0 ≤ jf h∧jf h < 32:=by
  unfold jf w9
  split
  · rename_i h1; simp at h1; omega
  · omega
theorem jU {n:Nat} {h:Int} (h0:0 ≤ h) (h1:h < 4294967296):bR n h = some (jf h,w9 h):=by
  unfold bR
  have e1:kN .u32 h 255 = h % 256:=Dk 8 h0 (by simpa [IntKind.up,IntKind.signed,IntKind.bits] using h1) rfl (by decide)
  have e2:yL .u32 h 8 = h / 256:=xu 8 rfl (by decide)
  rw [e1,e2,cz (x:=h % 256) (by omega) (by omega),cz (x:=h % 256 - 1) (by omega) (by omega)]
  by_cases hb:w9 h = true
  · have hb':=hb
    simp only [w9,decide_eq_true_eq] at hb'
    rw [av (by simp; omega)]
    simp [jf,hb]
  · have hb':=hb
    simp only [w9,decide_eq_true_eq] at hb'
    rw [aC (by simp; omega)]
    simp [jf,hb]
structure RB (b:bA) (w:aJ):Prop where
  gen:∀i,i < 32→(b.slots i).gen = w.js i
  FD:∀i,i < 32→(b.slots i).jC = (w.Is i == 1)
  ret:∀i,i < 32→(b.slots i).retired = (w.Is i == 2)
  Fw:∀i,i < 32→w.Is i = 0∨w.Is i = 1∨w.Is i = 2
  jO:∀i,i < 32→0 ≤ w.js i∧w.js i ≤ 8388607
theorem Ab {n:Nat} {b:bA} {w:aJ} (r:RB b w) {h:Int} (h0:0 ≤ h) (h1:h < 4294967296) :
    bk n b h = some (w9 h && (w.Is (jf h).toNat == 1) && (w.js (jf h).toNat == h / 256)):=by
  unfold bk
  obtain ⟨hs0,Hl⟩:=eB h
  rw [ax (jU h0 h1),aF (by rw [cP hs0 (by simpa using Hl)]; simp)]
  simp only [lt]
  have hi:(jf h).toNat < 32:=by omega
  have e2:yL .u32 h 8 = h / 256:=xu 8 rfl (by decide)
  rw [e2]
  simp only [mL,r.gen _ hi,r.FD _ hi,r.ret _ hi]
  have hk:=r.Fw _ hi
  congr 1
  rcases hk with hk | hk | hk <;> simp [hk,Bool.and_comm,Bool.and_left_comm,Bool.and_assoc]
theorem rN {h:Int} (h0:0 ≤ h) (hb:w9 h = true):iT (jf h) (h / 256) = h:=by
  have hb':=hb
  simp only [w9,decide_eq_true_eq] at hb'
  simp only [jf,hb,if_true,iT]; omega
theorem nS {i g:Int} (h0:0 ≤ i) (h1:i < 32) (g0:0 ≤ g) (g1:g ≤ 8388607):w9 (iT i g) = true∧jf (iT i g) = i∧iT i g / 256 = g∧0 < iT i g∧iT i g < 4294967296:=by
  have e:w9 (iT i g) = true:=decide_eq_true (by unfold iT; omega)
  refine ⟨e,?_,?_,?_,?_⟩
  · unfold jf; rw [if_pos e]; unfold iT; omega
  all_goals (unfold iT; omega)
def bt (w:aJ) (h:Int):Bool:=w9 h && (w.Is (jf h).toNat == 1) && (w.js (jf h).toNat == h / 256)
theorem dY {n:Nat} (hn:40 ≤ n) {b:bA} {w:aJ} (r:RB b w) {h:Int} (h0:0 ≤ h):bY n w h = some (if bt w h then jf h else -1):=by
  unfold bY
  refine iE (fun x=>0 ≤ x∧x ≤ 32∧(bt w h = true→x ≤ jf h)) (fun x=>(32 - x).toNat) (fun o=>o = some (if bt w h then jf h else -1)) ?_ n 0 ⟨by omega,by omega,fun _=>(eB h).1⟩ (by omega)
  rintro k x ⟨x0,x1,hx⟩ ih
  obtain ⟨s0,s1⟩:=eB h
  by_cases hc:x < 32
  · rw [aC (by simpa using hc),aF (cP x0 (by omega))]
    have hg:=r.jO x.toNat (by omega)
    rw [dD (pg x0 hc hg.1 hg.2)]
    by_cases he:(w.Is x.toNat == 1 && iT x (w.js x.toNat) == h) = true
    · have he':=he
      simp only [Bool.and_eq_true,beq_iff_eq] at he'
      obtain ⟨e1,e2⟩:=he'
      rw [aC (by simp [e1,e2])]
      obtain ⟨q1,q2,q3,q4,q5⟩:=nS x0 hc hg.1 hg.2
      rw [e2] at q1 q2 q3
      have:bt w h = true:=by simp [bt,q1,q2,q3,e1]
      simp [this,q2]
    · rw [av (by
        cases h1:(w.Is x.toNat == 1) with
        | false=>simp
        | true=>simpa [h1] using he),cz (by omega) (by omega)]
      refine ih _ ⟨by omega,by omega,fun FJ=>?_⟩ (by omega)
      have h2:=hx FJ
      have:x ≠ jf h:=by
        rintro rfl
        refine he ?_
        simp only [bt,Bool.and_eq_true,beq_iff_eq] at FJ
        simp [FJ.1.2,FJ.2,rN h0 FJ.1.1]
      omega
  · rw [av (by simpa using hc)]
    have:bt w h = false:=by
      cases SF:bt w h with
      | false=>rfl
      | true=>have:=hx SF; omega
    simp [this]
def lM (w:aJ) (h:Int):aJ:=
  if w.js (jf h).toNat = 8388607 then { w with Is:=eG w.Is (jf h).toNat 2 } else { js:=eG w.js (jf h).toNat (w.js (jf h).toNat + 1),Is:=eG w.Is (jf h).toNat 0 }
theorem vL {α:Type} (G:Nat→α) (i:Nat) (a b:α):eG (eG G i a) i b = eG G i b:=by
  funext q; unfold eG; split <;> rfl
theorem yQ {n:Nat} (hn:40 ≤ n) {b:bA} {w:aJ} (r:RB b w) {h:Int} (h0:0 ≤ h):gy n w h = some (if bt w h then lM w h else w,bt w h):=by
  unfold gy
  obtain ⟨s0,s1⟩:=eB h
  rw [ax (dY hn r h0)]
  cases hg:bt w h with
  | false=>rfl
  | true =>
    have hr:=r.jO (jf h).toNat (by omega)
    simp only [if_true]
    rw [av (by simpa using s0),aF (cP s0 (by simpa using s1))]
    simp only [lt,aF (cP s0 (show jf h < ((32:Nat):Int) by simpa using s1))]
    unfold lM
    by_cases hl:w.js (jf h).toNat = 8388607
    · rw [aC (by simpa using hl)]; simp [hl,vL]
    · rw [av (by simpa using hl),cz (by omega) (by omega)]; simp [hl]
theorem D1 {n:Nat} {b:bA} {w:aJ} (r:RB b w) {h:Int} (h0:0 ≤ h) (h1:h < 4294967296) :
    ∃b',gZ n b h = some (b',bt w h)∧RB b' (if bt w h then lM w h else w):=by
  unfold gZ
  obtain ⟨s0,s1⟩:=eB h
  have hi:(jf h).toNat < 32:=by omega
  rw [ax (Ab r h0 h1)]
  show ∃b',cn (!bt w h) _ _ = _∧_
  cases hg:bt w h with
  | false=>exact ⟨b,rfl,r⟩
  | true =>
    rw [av (b:=!true) rfl,ax (jU h0 h1),aF (cP s0 (by simpa using s1))]
    simp only [lt]
    have Pd:=r.gen _ hi
    have hr:=r.jO _ hi
    have Pa:w.Is (jf h).toNat = 1:=by simp only [bt,Bool.and_eq_true,beq_iff_eq] at hg; exact hg.1.2
    have Sr:(b.slots (jf h).toNat).retired = false:=by rw [r.ret _ hi,Pa]; rfl
    simp only [p5,Pd,vL]
    unfold lM
    by_cases hl:w.js (jf h).toNat = 8388607
    · rw [aC (by simpa using hl)]
      refine ⟨_,rfl,?_⟩
      simp only [if_true,hl]
      refine ⟨?_,?_,?_,?_,?_⟩ <;> intro i Bq <;> by_cases e:i = (jf h).toNat
      all_goals (try subst e)
      all_goals simp [cE, *,r.gen,r.FD,r.ret,r.Fw,r.jO]
      all_goals (first | exact (r.Fw i Bq) | exact r.jO i Bq)
    · rw [av (by simpa using hl),oG (by omega) (by omega)]
      refine ⟨_,rfl,?_⟩
      simp only [if_true,if_neg hl]
      refine ⟨?_,?_,?_,?_,?_⟩ <;> intro i Bq <;> by_cases e:i = (jf h).toNat
      all_goals (try subst e)
      all_goals simp [cE, *,r.gen,r.FD,r.ret,r.Fw,r.jO]
      all_goals (first | exact (r.Fw i Bq) | exact r.jO i Bq | omega)
def rz (w:aJ) (f:Nat):Prop:=f ≤ 32∧(∀j,j < f→w.Is j ≠ 0)∧(f < 32→w.Is f = 0)
theorem xX (w:aJ):∃f,rz w f:=by
  have key:∀k,k ≤ 32→(∃f,rz w f)∨(∀j,j < k→w.Is j ≠ 0):=by
    intro k
    induction k with
    | zero=>intro _; exact .inr (fun j hj=>absurd hj (Nat.not_lt_zero _))
    | succ k ih =>
      intro hk
      rcases ih (by omega) with h | h
      · exact .inl h
      · by_cases e:w.Is k = 0
        · exact .inl ⟨k,by omega,h,fun _=>e⟩
        · refine .inr (fun j hj=>?_)
          by_cases e2:j = k
          · subst e2; exact e
          · exact h j (by omega)
  rcases key 32 (Nat.le_refl _) with h | h
  · exact h
  · exact ⟨32,Nat.le_refl _,h,fun h=>absurd h (Nat.lt_irrefl _)⟩
def jD (w:aJ) (f:Nat):aJ:={ w with Is:=eG w.Is f 1 }
theorem sd {n:Nat} (hn:40 ≤ n) {b:bA} {w:aJ} (r:RB b w) {f:Nat} (hf:rz w f) :
    fX n w = some (if f < 32 then (jD w f,iT f (w.js f)) else (w,0)):=by
  unfold fX
  obtain ⟨f1,f2,f3⟩:=hf
  refine iE (fun x=>0 ≤ x∧x ≤ (f:Int)) (fun x=>(32 - x).toNat) (fun o=>o = some (if f < 32 then (jD w f,iT f (w.js f)) else (w,0))) ?_ n 0 ⟨by omega,by omega⟩ (by omega)
  rintro k x ⟨x0,x1⟩ ih
  by_cases hc:x < 32
  · rw [aC (by simpa using hc),aF (cP x0 (by omega))]
    by_cases he:w.Is x.toNat = 0
    · have e:x = (f:Int):=by
        rcases Int.lt_or_lt_of_ne (a:=x) (b:=f) |> fun h=>(Decidable.em (x = f)) with h | h
        · exact h
        · exact absurd he (f2 x.toNat (by omega))
      subst e
      simp only [Int.toNat_natCast] at he ⊢
      rw [aC (by simpa using he),aF (cP x0 (by omega)),lt_eq,ax (pg (w:={ w with Is:=eG w.Is f 1 }) x0 hc (r.jO f (by omega)).1 (r.jO f (by omega)).2),if_pos (by omega)]
      rfl
    · rw [av (by simpa using he),cz (by omega) (by omega)]
      refine ih _ ⟨by omega,?_⟩ (by omega)
      rcases Decidable.em (x = f) with h | h
      · subst h; exact absurd (f3 (by omega)) (by simpa using he)
      · omega
  · rw [av (by simpa using hc),if_neg (by omega)]
theorem xK {n:Nat} (hn:40 ≤ n) {b:bA} {w:aJ} (r:RB b w) {f:Nat} (hf:rz w f) :
    ∃b',fG n b = some (b',if f < 32 then iT f (w.js f) else 0,decide (f < 32))∧RB b' (if f < 32 then jD w f else w):=by
  unfold fG
  obtain ⟨f1,f2,f3⟩:=hf
  refine iE (fun x=>0 ≤ x∧x ≤ (f:Int)) (fun x=>(32 - x).toNat) (fun o=>∃b',o = some (b',if f < 32 then iT f (w.js f) else 0,decide (f < 32))∧RB b' (if f < 32 then jD w f else w)) ?_ n 0 ⟨by omega,by omega⟩ (by omega)
  rintro k x ⟨x0,x1⟩ ih
  by_cases hc:x < 32
  · have hi:x.toNat < 32:=by omega
    rw [aC (by simpa using hc),aF (cP x0 (by omega)),lt_eq]
    by_cases he:w.Is x.toNat = 0
    · have e:x = (f:Int):=by
        rcases Decidable.em (x = f) with h | h
        · exact h
        · exact absurd he (f2 x.toNat (by omega))
      subst e
      simp only [Int.toNat_natCast] at he hi ⊢
      rw [av (by simp [r.FD f hi,r.ret f hi,he]),aF (cP x0 (by omega)),lt_eq,ax (qQ x0 hc (by rw [r.gen f hi]; exact (r.jO f hi).1) (by rw [r.gen f hi]; exact (r.jO f hi).2)),if_pos hi,if_pos hi]
      refine ⟨_,by rw [r.gen f hi,decide_eq_true hi],?_⟩
      refine ⟨?_,?_,?_,?_,?_⟩ <;> intro i Bq <;> by_cases e:i = f
      all_goals (try subst e)
      all_goals simp [jD,cE, *,r.gen,r.FD,r.ret,r.Fw,r.jO]
      all_goals (first | exact (r.Fw i Bq) | exact r.jO i Bq | (rw [r.ret _ Bq,he]; rfl))
    · rw [aC (by
        rcases r.Fw _ hi with h | h | h
        · exact absurd h he
        · simp [r.FD _ hi,h]
        · simp [r.ret _ hi,h]),cz (by omega) (by omega)]
      refine ih _ ⟨by omega,?_⟩ (by omega)
      rcases Decidable.em (x = f) with h | h
      · subst h; exact absurd (f3 (by omega)) (by simpa using he)
      · omega
  · rw [av (by simpa using hc),if_neg (by omega),if_neg (by omega)]
    exact ⟨b,by rw [decide_eq_false (by omega)],r⟩
theorem Mq {n:Nat} {b:bA} {w:aJ} (r:RB b w) {i:Int} (h0:0 ≤ i) (h1:i < 32):iV n b i = some (if w.Is i.toNat = 1 then iT i (w.js i.toNat) else 0,w.Is i.toNat == 1):=by
  have hi:i.toNat < 32:=by omega
  unfold iV
  rw [aF (by rw [cP h0 (by omega)]; simp)]
  by_cases e:w.Is i.toNat = 1
  · rw [av (by simp [r.FD _ hi,e]; omega),aF (cP h0 (by omega)),ax (qQ h0 h1 (by rw [r.gen _ hi]; exact (r.jO _ hi).1) (by rw [r.gen _ hi]; exact (r.jO _ hi).2)),r.gen _ hi]
    simp [e]
  · rw [aC (by simp [r.FD _ hi,e])]
    simp [e]
def ct (w:aJ):Nat→List Int
  | 0=>[]
  | k + 1=>ct w k++(if w.Is k = 1 then [iT k (w.js k)] else [])
theorem fz (w:aJ) (k:Nat):(ct w k).length ≤ k:=by
  induction k with
  | zero=>simp [ct]
  | succ k ih=>simp only [ct,List.length_append]; split <;> simp <;> omega
theorem AP {n:Nat} (hn:40 ≤ n) {b:bA} {w:aJ} (r:RB b w):gh n b = some (ct w 32):=by
  unfold gh
  refine eD (fun (l:List Int) (x:Int)=>∃k:Nat,x = k∧k ≤ 32∧l = ct w k) (fun _ (x:Int)=>(32 - x).toNat) (fun o=>o = some (ct w 32)) ?_ n [] 0 ⟨0,rfl,by omega,rfl⟩ (by omega)
  rintro kk l x ⟨k,rfl,hk,rfl⟩ ih
  by_cases hc:k < 32
  · rw [aC (by simp; omega),ax (Mq r (by omega) (by omega))]
    simp only [Int.toNat_natCast]
    by_cases e:w.Is k = 1
    · rw [aC (by simpa using e),aF (iY (by have:=fz w k; omega) (by have:=fz w k; omega)),lt_eq,cz (by omega) (by omega)]
      exact ih _ _ ⟨k + 1,by omega,by omega,by simp [ct,e]⟩ (by omega)
    · rw [av (by simpa using e),cz (by omega) (by omega)]
      exact ih _ _ ⟨k + 1,by omega,by omega,by simp [ct,e]⟩ (by omega)
  · rw [av (by simp; omega)]
    obtain rfl:k = 32:=by omega
    rfl
end Go.Proofs.YtmdpbdhkmfjlhaaGreat
namespace Go.Proofs.YtmdpbdhkmfjlhaaGreat
open Go Go.Bw
def bG (w:aJ) (h:Int):Prop:=0 ≤ h∧bt w h = true
theorem g5 {w:aJ} {h:Int}:bt w h = true↔w9 h = true∧w.Is (jf h).toNat = 1∧w.js (jf h).toNat = h / 256:=by
  unfold bt
  rw [Bool.and_eq_true,Bool.and_eq_true,beq_iff_eq,beq_iff_eq,and_assoc]
theorem BM {h:Int} (hb:w9 h = true):h < 4294967296:=by
  unfold w9 at hb
  simp only [decide_eq_true_eq] at hb; omega
theorem oS {b:bA} {w:aJ} (r:RB b w):∀(k:Nat),k ≤ 32→∀x,x ∈ ct w k↔bG w x∧jf x < k
  | 0,_,x=>⟨fun h=>(by cases h),fun h=>absurd h.2 (by have:=(eB x).1; omega)⟩
  | k + 1,hk,x=>by
    have ih:=oS r k (by omega) x
    have hr:=r.jO k (by omega)
    obtain ⟨q1,q2,q3,q4,q5⟩:=nS (i:=k) (g:=w.js k) (by omega) (by omega) hr.1 hr.2
    have hx:=eB x
    rw [ct,List.mem_append,ih]
    constructor
    · rintro (h | h)
      · exact ⟨h.1,by omega⟩
      · split at h
        · rename_i hi
          have e:=List.mem_singleton.1 h
          subst e
          exact ⟨⟨by omega,g5.2 ⟨q1,by rw [q2]; exact hi,by rw [q2,q3]; rfl⟩⟩,by omega⟩
        · cases h
    · rintro ⟨h1,h2⟩
      by_cases e:jf x < k
      · exact .inl ⟨h1,e⟩
      · have e1:jf x = k:=by omega
        obtain ⟨g1,g2,g3⟩:=g5.1 h1.2
        have e2:(jf x).toNat = k:=by omega
        rw [e2] at g2 g3
        refine .inr ?_
        rw [if_pos g2,List.mem_singleton,g3,← e1,rN h1.1 g1]
theorem tG {b:bA} {w:aJ} (r:RB b w):∀(k:Nat),k ≤ 32→(ct w k).Nodup
  | 0,_=>List.nodup_nil
  | k + 1,hk=>by
    rw [ct,List.nodup_append]
    refine ⟨tG r k (by omega),by split <;> simp,fun a ha c hc e=>?_⟩
    split at hc
    · have e1:=List.mem_singleton.1 hc
      have hr:=r.jO k (by omega)
      obtain ⟨q1,q2,q3,q4,q5⟩:=nS (i:=k) (g:=w.js k) (by omega) (by omega) hr.1 hr.2
      have:=((oS r k (by omega) a).1 ha).2
      rw [e,e1,q2] at this
      omega
    · cases hc
theorem cr {b:bA} {w:aJ} (r:RB b w) (x:Int):x ∈ ct w 32↔bG w x:=by
  rw [oS r 32 (Nat.le_refl _)]
  have:=eB x
  exact ⟨fun h=>h.1,fun h=>⟨h,by omega⟩⟩
def mc (w:aJ) (h:Int):Prop:=0 ≤ h∧w9 h = true∧(h / 256 < w.js (jf h).toNat∨(h / 256 = w.js (jf h).toNat∧w.Is (jf h).toNat ≠ 0))
theorem jF {b:bA} {w:aJ} (r:RB b w) {f:Nat} (hf:rz w f) (hl:f < 32) (x:Int):bG (jD w f) x↔bG w x∨x = iT f (w.js f):=by
  have hr:=r.jO f hl
  obtain ⟨q1,q2,q3,q4,q5⟩:=nS (i:=f) (g:=w.js f) (by omega) (by omega) hr.1 hr.2
  have hx:=eB x
  unfold bG
  rw [g5,g5]
  show 0 ≤ x∧w9 x = true∧eG w.Is f 1 (jf x).toNat = 1∧w.js (jf x).toNat = x / 256↔_
  rw [cE]
  by_cases e:(jf x).toNat = f
  · rw [if_pos e,e]
    constructor
    · rintro ⟨h1,h2,_,h4⟩
      refine .inr ?_
      have:=rN h1 h2
      rw [← this,h4]
      congr 1; omega
    · rintro (⟨h1,h2,h3,h4⟩ | h)
      · exact absurd (hf.2.2 hl) (by omega)
      · subst h; exact ⟨by omega,q1,rfl,by rw [q3]⟩
  · rw [if_neg e]
    refine ⟨fun h=>.inl h,fun h=>h.elim _root_.id fun h=>?_⟩
    subst h
    exact absurd (by rw [q2]; rfl) e
theorem p8 {w:aJ} {f:Nat} (x:Int) (h:mc w x):mc (jD w f) x:=by
  obtain ⟨h1,h2,h3⟩:=h
  refine ⟨h1,h2,?_⟩
  show x / 256 < w.js (jf x).toNat∨(x / 256 = w.js (jf x).toNat∧eG w.Is f 1 (jf x).toNat ≠ 0)
  rw [cE]
  split
  · exact h3.imp _root_.id fun h=>⟨h.1,by omega⟩
  · exact h3
theorem xC {b:bA} {w:aJ} (r:RB b w) {f:Nat} (hf:rz w f) (hl:f < 32):¬ mc w (iT f (w.js f)):=by
  have hr:=r.jO f hl
  obtain ⟨q1,q2,q3,q4,q5⟩:=nS (i:=f) (g:=w.js f) (by omega) (by omega) hr.1 hr.2
  rintro ⟨_,_,h⟩
  rw [q2,q3] at h
  have:=hf.2.2 hl
  rcases h with h | h
  · exact absurd h (by simp)
  · exact h.2 this
theorem A0 {b:bA} {w:aJ} (r:RB b w) {h:Int} (h0:0 ≤ h) (x:Int):bG (if bt w h then lM w h else w) x↔bG w x∧x ≠ h:=by
  cases hg:bt w h with
  | false =>
    refine ⟨fun hx=>⟨hx,fun e=>?_⟩,fun hx=>hx.1⟩
    subst e
    have h2:bt w x = true:=hx.2
    rw [h2] at hg; cases hg
  | true =>
    rw [if_pos rfl]
    obtain ⟨g1,g2,g3⟩:=g5.1 hg
    have hr:=r.jO (jf h).toNat (by have:=eB h; omega)
    have hx:=eB x
    have hh:=eB h
    have key:∀w',lM w h = w'→(∀j,j ≠ (jf h).toNat→w'.Is j = w.Is j∧w'.js j = w.js j)→w'.Is (jf h).toNat ≠ 1→(bG w' x↔bG w x∧x ≠ h):=by
      intro w' _ k1 k2
      unfold bG
      rw [g5,g5]
      by_cases e:(jf x).toNat = (jf h).toNat
      · constructor
        · rintro ⟨_,_,h3,_⟩; rw [e] at h3; exact absurd h3 k2
        · rintro ⟨⟨h1,h2,h3,h4⟩,h5⟩
          refine absurd ?_ h5
          rw [← rN h1 h2,← rN h0 g1,← h4,← g3,e]
          congr 1; omega
      · rw [(k1 _ e).1,(k1 _ e).2]
        exact ⟨fun hx=>⟨hx,fun e2=>e (by rw [e2])⟩,fun hx=>hx.1⟩
    refine key _ rfl (fun j hj=>?_) ?_
    · unfold lM
      split
      · exact ⟨jT _ _ hj,rfl⟩
      · exact ⟨jT _ _ hj,jT _ _ hj⟩
    · unfold lM
      split
      · show eG w.Is _ 2 _ ≠ 1; rw [p5]; decide
      · show eG w.Is _ 0 _ ≠ 1; rw [p5]; decide
theorem vg {w:aJ} {h:Int} (x:Int) (hp:mc w x):mc (if bt w h then lM w h else w) x:=by
  cases hg:bt w h with
  | false=>exact hp
  | true =>
    rw [if_pos rfl]
    obtain ⟨h1,h2,h3⟩:=hp
    refine ⟨h1,h2,?_⟩
    unfold lM
    split
    · show x / 256 < w.js (jf x).toNat∨(x / 256 = w.js (jf x).toNat∧eG w.Is (jf h).toNat 2 (jf x).toNat ≠ 0)
      rw [cE]
      split
      · exact h3.imp _root_.id fun h=>⟨h.1,by decide⟩
      · exact h3
    · show x / 256 < eG w.js (jf h).toNat _ (jf x).toNat∨(x / 256 = eG w.js (jf h).toNat _ (jf x).toNat∧eG w.Is (jf h).toNat 0 (jf x).toNat ≠ 0)
      rw [cE,cE]
      split
      · rename_i e
        rw [e] at h3
        left; omega
      · exact h3
end Go.Proofs.YtmdpbdhkmfjlhaaGreat
namespace Go.Bw
open Go
theorem vO:∀(t u:List Int),t.Nodup→(∀x ∈ t,x ∈ u)→t.length ≤ u.length
  | [],u,_,_=>Nat.zero_le _
  | x::t,u,hn,hs=>by
    rw [List.nodup_cons] at hn
    have hx:=hs x (by simp)
    have:=vO t (u.erase x) hn.2 fun y hy=>(List.mem_erase_of_ne (fun e=>hn.1 (by rw [← e]; exact hy))).2 (hs y (by simp [hy]))
    rw [List.length_erase_of_mem hx] at this
    have h0:0 < u.length:=List.length_pos_of_mem hx
    rw [List.length_cons]; omega
theorem BR {t u:List Int} (ht:t.Nodup) (hu:u.Nodup) (h:∀x,x ∈ t↔x ∈ u):t.length = u.length:=
  Nat.le_antisymm (vO t u ht fun x hx=>(h x).1 hx) (vO u t hu fun x hx=>(h x).2 hx)
section
variable {β:Type}
theorem vk (l:List (Int × β)) (k:Int) (v:β):(uF l k v).map Prod.fst = if k ∈ l.map Prod.fst then l.map Prod.fst else l.map Prod.fst++[k]:=by
  induction l with
  | nil=>simp [uF]
  | cons p r ih =>
    unfold uF
    by_cases h:k = p.1
    · subst h; simp
    · have:(k == p.1) = false:=by simpa using h
      rw [this,cond_false,List.map_cons,ih]
      by_cases h2:k ∈ r.map Prod.fst
      · rw [if_pos h2,if_pos (by simp [h2])]; rfl
      · rw [if_neg h2,if_neg (by rw [List.map_cons,List.mem_cons]; exact fun hh=>hh.elim h h2)]; rfl
theorem Ej {l:List (Int × β)} {k:Int} {z:β} (h:k ∉ l.map Prod.fst):Ca l k z = z:=by
  have:pN l k = none:=by
    induction l with
    | nil=>rfl
    | cons p r ih =>
      rw [List.map_cons,List.mem_cons,not_or] at h
      unfold pN
      have e:(k == p.1) = false:=by simpa using h.1
      rw [e,cond_false,ih h.2]; rfl
  unfold Ca; rw [this]; rfl
theorem B9 {l:List (Int × β)} {k:Int} {z:β} (h:k ∈ l.map Prod.fst):(k,Ca l k z) ∈ l:=by
  unfold Ca
  cases hm:pN l k with
  | some q =>
    have:=vl (j:=q.1) (y:=q.2) hm
    exact List.mem_of_getElem? this
  | none =>
    exfalso
    induction l with
    | nil=>simp at h
    | cons p r ih =>
      unfold pN at hm
      by_cases e:k = p.1
      · have:(k == p.1) = true:=by simpa using e
        rw [this] at hm; simp at hm
      · have e2:(k == p.1) = false:=by simpa using e
        rw [e2] at hm
        simp only [cond_false,Option.map_eq_none_iff] at hm
        rw [List.map_cons,List.mem_cons] at h
        exact ih (h.elim (fun hh=>absurd hh e) _root_.id) hm
theorem xG {l:List (Int × β)} (k:Int) (v:β) (h:(l.map Prod.fst).Nodup):((uF l k v).map Prod.fst).Nodup:=by
  rw [vk]
  split
  · exact h
  · rename_i hk
    rw [List.nodup_append]
    refine ⟨h,by simp,fun a ha b hb e=>hk ?_⟩
    have:b = k:=by simpa using hb
    rw [← this,← e]; exact ha
theorem vW {l:List (Int × β)} {k:Int} {v:β} {x:Int}:x ∈ (uF l k v).map Prod.fst↔x ∈ l.map Prod.fst∨x = k:=by
  rw [vk]
  split
  · rename_i h
    exact ⟨.inl,fun hh=>hh.elim _root_.id fun e=>e ▸ h⟩
  · simp
end
structure sK (l:List (Int × Bool)) (S:Int→Prop):Prop where
  nd:(l.map Prod.fst).Nodup
  tr:∀p ∈ l,p.2 = true
  mem:∀k,k ∈ l.map Prod.fst↔S k
theorem sK.nil:sK [] (fun _=>False):=⟨by simp,by simp,by simp⟩
theorem sK.get {l:List (Int × Bool)} {S:Int→Prop} (h:sK l S) (k:Int):Ca l k false = true↔S k:=by
  rw [← h.mem k]
  by_cases hk:k ∈ l.map Prod.fst
  · exact ⟨fun _=>hk,fun _=>h.tr _ (B9 hk)⟩
  · rw [Ej hk]; exact ⟨fun hh=>(by cases hh),fun hh=>absurd hh hk⟩
theorem Gu {l:List (Int × Bool)} {k:Int} (h:∀p ∈ l,p.2 = true):∀p ∈ uF l k true,p.2 = true:=by
  induction l with
  | nil=>intro p hp; rw [uF,List.mem_singleton] at hp; rw [hp]
  | cons q r ih =>
    intro p hp
    unfold uF at hp
    cases e:k == q.1 with
    | true =>
      rw [e,cond_true,List.mem_cons] at hp
      rcases hp with rfl | hp
      · rfl
      · exact h p (by simp [hp])
    | false =>
      rw [e,cond_false,List.mem_cons] at hp
      rcases hp with rfl | hp
      · exact h p (by simp)
      · exact ih (fun z hz=>h z (by simp [hz])) p hp
theorem sK.set {l:List (Int × Bool)} {S T:Int→Prop} (h:sK l S) {k:Int} (hT:∀x,T x↔S x∨x = k):sK (uF l k true) T:=
  ⟨xG k true h.nd,Gu h.tr,fun x=>by rw [vW,h.mem,hT]⟩
theorem sK.congr {l:List (Int × Bool)} {S T:Int→Prop} (h:sK l S) (hT:∀x,T x↔S x):sK l T:=⟨h.nd,h.tr,fun x=>by rw [h.mem,hT]⟩
theorem sK.len {l:List (Int × Bool)} {S:Int→Prop} (h:sK l S) {t:List Int} (ht:t.Nodup) (hm:∀x,x ∈ t↔S x):l.length = t.length:=by
  rw [← BR h.nd ht fun x=>by rw [h.mem,hm],List.length_map]
end Go.Bw
namespace Go.Proofs.YtmdpbdhkmfjlhaaGreat
open Go Go.Bw
def cw (h:Int):Nat:=(jf h).toNat
theorem kF (h:Int):cw h < 32:=by have:=eB h; unfold cw; omega
theorem D7 (h:Int):(cw h:Int) = jf h:=by have:=eB h; unfold cw; omega
theorem pq {w:aJ} {h:Int} (hg:bt w h = true):w9 h = true∧w.Is (cw h) = 1∧w.js (cw h) = h / 256:=g5.1 hg
theorem lO {n:Nat} {b:bA} {w:aJ} (r:RB b w) {h:Int} (h0:0 ≤ h) (h1:h < 4294967296):bk n b h = some (bt w h):=Ab r h0 h1
end Go.Proofs.YtmdpbdhkmfjlhaaGreat
namespace Go.Proofs.YtmdpbdhkmfjlhaaGreat
open Go Go.Bw
theorem fP {w:aJ} {x:Int} (h:bG w x):iT (cw x) (w.js (cw x)) = x:=by
  obtain ⟨g1,g2,g3⟩:=pq h.2
  rw [g3,D7,rN h.1 g1]
end Go.Proofs.YtmdpbdhkmfjlhaaGreat
namespace Go.Proofs.YtmdpbdhkmfjlhaaGreat
open Go Go.Bw
def As (w:aJ) (h:Int):aJ:=if bt w h = true then lM w h else w
theorem xk {w:aJ} {h:Int} {i:Nat} (hi:i ≠ cw h):(lM w h).Is i = w.Is i∧(lM w h).js i = w.js i:=by
  unfold lM
  split
  · exact ⟨jT _ _ hi,rfl⟩
  · exact ⟨jT _ _ hi,jT _ _ hi⟩
theorem s7 (w:aJ) (h:Int):(lM w h).Is (cw h) ≠ 1:=by
  unfold lM
  split
  · show eG w.Is (cw h) 2 (cw h) ≠ 1; rw [p5]; decide
  · show eG w.Is (cw h) 0 (cw h) ≠ 1; rw [p5]; decide
theorem D2 {w:aJ} {h:Int} {i:Nat} (hi:(As w h).Is i = 1):w.Is i = 1∧(As w h).js i = w.js i:=by
  unfold As at *
  cases hg:bt w h with
  | false=>rw [hg] at hi; exact ⟨hi,by simp⟩
  | true =>
    rw [hg,if_pos rfl] at hi
    rw [if_pos rfl]
    by_cases e:i = cw h
    · subst e; exact absurd hi (s7 w h)
    · have:=xk (w:=w) (h:=h) e
      exact ⟨by rw [← this.1]; exact hi,this.2⟩
theorem xy {n:Nat} (hn:40 ≤ n) {b:bA} {w:aJ} (r:RB b w) {h:Int} (h0:0 ≤ h):gy n w h = some (As w h,bt w h):=yQ hn r h0
def tV (p:Nat→Bool):Nat→Nat
  | 0=>0
  | k + 1=>tV p k + (if p k = true then 1 else 0)
theorem wC (p:Nat→Bool):∀k,tV p k ≤ k
  | 0=>Nat.le_refl _
  | k + 1=>by have:=wC p k; simp only [tV]; split <;> omega
theorem vv {p q:Nat→Bool} (h:∀i,p i = true→q i = true):∀k,tV p k ≤ tV q k
  | 0=>Nat.le_refl _
  | k + 1=>by
    have:=vv h k
    simp only [tV]
    by_cases e:p k = true
    · rw [if_pos e,if_pos (h k e)]; omega
    · rw [if_neg e]; omega
theorem qU {p q:Nat→Bool} (h:∀i,p i = true→q i = true) {c:Nat} (hp:p c = false) (hq:q c = true):∀k,c < k→tV p k < tV q k
  | 0,hc=>absurd hc (Nat.not_lt_zero _)
  | k + 1,hc=>by
    simp only [tV]
    by_cases e:c = k
    · subst e
      have:=vv h c
      rw [hp,hq]; simp; omega
    · have:=qU h hp hq k (by omega)
      by_cases e2:p k = true
      · rw [if_pos e2,if_pos (h k e2)]; omega
      · rw [if_neg e2]; omega
end Go.Proofs.YtmdpbdhkmfjlhaaGreat
namespace Go.Proofs.YtmdpbdhkmfjlhaaGreat
open Go Go.Bw
end Go.Proofs.YtmdpbdhkmfjlhaaGreat
namespace Go.Proofs.YtmdpbdhkmfjlhaaGreat
open Go Go.Bw
def D6 (ρ:Nat→Nat):Nat→Nat
  | 0=>0
  | k + 1=>D6 ρ k + ρ k
theorem zR (ρ:Nat→Nat) {j:Nat}:∀k,j < k→ρ j ≤ D6 ρ k
  | 0,h=>absurd h (Nat.not_lt_zero _)
  | k + 1,h=>by
    simp only [D6]
    by_cases e:j = k
    · subst e; omega
    · have:=zR ρ (j:=j) k (by omega); omega
theorem pz {w:aJ} {x:Int} (h:bG w x):mc w x:=by
  obtain ⟨g1,g2,g3⟩:=pq h.2
  exact ⟨h.1,g1, .inr ⟨g3.symm,by show w.Is (cw x) ≠ 0; omega⟩⟩
end Go.Proofs.YtmdpbdhkmfjlhaaGreat
namespace Go.Proofs.YtmdpbdhkmfjlhaaGreat
open Go Go.Bw
section
end
end Go.Proofs.YtmdpbdhkmfjlhaaGreat
namespace Go.Bw
open Go Go.RowKit
structure F8 (P:Program) (gf:Nat) (caps:List Value) (Hc Ho:List aW) (K:World→Prop) (encs:Nat→List Value) (n:Nat):Prop where
  fn:∀(l:Nat) (J:Nat→List Nat→World→Prop) (Jx:List Nat→World→Prop) (bs:List Nat),
    Fn (α:=Bool × List Nat) P gf (.func (.yield l) #[] #[]::caps) (fun w=>Ar (bs++bN Hc) K w∧F3 P l (bs++bN Hc) w J Jx encs n) (.ext bs (J 0 bs)::Hc)
      (fun _=>True) (fun _=>.tuple #[]) (fun x=>.ext x.2 (bif x.1 then J n x.2 else Jx x.2)::Ho)
theorem rU {P:Program} {N:Nat} {c:Cx} {D:List Deferred} {Q:Exit→Act→World→Prop} {F:dP} {H:List aW} {g:Operand} {ps:List Nat} {assign body:Code}
    {gf n:Nat} {caps:Array Value} {Hc Ho:List aW} {K:World→Prop} {encs:Nat→List Value} {α β:Type}
    (hro:c.ro = none) (hg:ev F g = some (.func (.func gf) #[] caps)) (hit:F8 P gf caps.toList Hc Ho K encs n) (hlen:∀k,(encs k).length = ps.length) (hps:ps.all (Nat.blt · N) = true)
    [PE:zL c [] K]
    (p:Nat→α→Prop) (I:Nat→α→List aW) (px:Code→β→Prop) (X:β→List aW) (i0:α) (EG:p 0 i0) {ks:List Nat} (hk:pick H ks = some (Hc++I 0 i0)) (hn:ks.Nodup)
    (hbody:∀(k:Nat) (i:α) (l dd:Nat) (rec:Loop) (c' : Cx),k < n→p k i→rec.state = .ready→rec.pending = none→c'.ro = some l→(∀w,bF c'.bs c'.w0 w→bF c.bs c.w0 w) →
      (∀b,(b ∈ c'.bs∨c'.w0.heap.size ≤ b)→(b ∈ c.bs∨c.w0.heap.size ≤ b)) →
      WP P N c' [] assign (zI P l body (zH c' (JW c.w0.heap.size c.bs (p (k + 1)) (fun i=>.obj dd (.deferred (some []))::.obj l (.loop rec)::I (k + 1) i))
        (JW c.w0.heap.size c.bs (fun q:Code × β=>px q.1 q.2) (fun q=>.obj dd (.deferred (some []))::.obj l (.loop { rec with state:=.done,pending:=some q.1 })::X q.2))))
        (sC ps (encs k) F) (.obj dd (.deferred (some []))::.obj l (.loop rec)::I k i))
    (hdone:∀dd i,p n i→WQ N c (mark dd::D) Q .normal F (.obj dd (.deferred (some []))::(Ho++I n i)))
    (CJ:∀dd j i,px j i→WP P N c (mark dd::D) j Q F (.obj dd (.deferred (some []))::(Ho++X i))) :
    WP P N c D (.rangeFunc g ps.toArray assign body) Q F H:=fun a w hst=>by
  refine wpIn_rangeFunc fun fn _=>?_
  have qg:(FA c.ro).round = none:=hro
  rw [qg]
  obtain ⟨rec,oA⟩ : ∃rec:Loop,rec = { state:=.ready,pending:=none,fn,tmps:=a.tmps,params:=ps.toArray,assign,body,defers:=w.heap.size }:=⟨_,rfl⟩
  obtain ⟨W1,CW⟩ : ∃W1,(w.alloc (.deferred (some []))).alloc (.loop rec) = W1:=⟨_,rfl⟩
  have Hl:bF [] w W1:=by rw [← CW]; exact (bF.alloc w _).ext (bF.alloc _ _)
  have Oy:W1.heap.size = w.heap.size + 2:=by rw [← CW]; simp
  have PD:W1.heap[w.heap.size + 1]? = some (.loop rec):=by
    rw [← CW]; have:=World.alloc_heap_new (w.alloc (.deferred (some []))) (.loop rec); rwa [World.size_alloc] at this
  have PF:W1.heap[w.heap.size]? = some (.deferred (some [])):=by
    rw [← CW]; exact (Below.heap_alloc _ _ _ (by simp)).trans (World.alloc_heap_new w _)
  have Pg:=bU hst.fr hg
  have hfr:=hst.fr
  let J:Nat→List Nat→World→Prop:=fun k=>JW c.w0.heap.size c.bs (p k) (fun i=>.obj w.heap.size (.deferred (some []))::.obj (w.heap.size + 1) (.loop rec)::I k i)
  let Jx:List Nat→World→Prop:=JW c.w0.heap.size c.bs (fun q:Code × β=>px q.1 q.2) (fun q=>.obj w.heap.size (.deferred (some []))::.obj (w.heap.size + 1) (.loop { rec with state:=.done,pending:=some q.1 })::X q.2)
  have CA:=(hst.hp.ext Hl).pick hk hn
  have HS:cJ c.bs c.w0.heap.size (.obj w.heap.size (.deferred (some []))::.obj (w.heap.size + 1) (.loop rec)::(Hc++I 0 i0)) W1:=by
    have hlt:∀s ∈ Hc++I 0 i0,∀b ∈ s.iN,b < w.heap.size:=fun s hs b hb=>by
      have hm:s ∈ H:=by
        obtain ⟨jj,hj⟩:=List.mem_iff_getElem?.1 hs
        obtain ⟨kk,_,hh⟩:=nu hk jj s hj
        exact List.mem_of_getElem? hh
      exact (hst.hp.own s hm b hb).2
    have Ox:=hst.si.size
    refine cJ.cons (cJ.cons CA PD ?_ ?_) PF ?_ ?_
    · intro b hb; have e:b = w.heap.size + 1:=by simpa [aW.iN] using hb
      subst e; exact ⟨.inr (by omega),by omega⟩
    · intro s hs b hb cZ
      have e:b = w.heap.size + 1:=by simpa [aW.iN] using hb
      have:=hlt s hs b cZ; omega
    · intro b hb; have e:b = w.heap.size:=by simpa [aW.iN] using hb
      subst e; exact ⟨.inr (by omega),by omega⟩
    · intro s hs b hb cZ
      have e:b = w.heap.size:=by simpa [aW.iN] using hb
      rcases List.mem_cons.1 hs with rfl | hs
      · have e2:b = w.heap.size + 1:=by simpa [aW.iN] using cZ
        omega
      · have:=hlt s hs b cZ; omega
  let I0:List aW:=.obj w.heap.size (.deferred (some []))::.obj (w.heap.size + 1) (.loop rec)::I 0 i0
  have HR:cJ c.bs c.w0.heap.size I0 W1:=HS.sub (by
    refine List.Sublist.cons_cons _ (List.Sublist.cons_cons _ (List.sublist_append_right _ _)))
  have Bs:cJ c.bs c.w0.heap.size Hc W1:=HS.sub (by
    refine List.Sublist.cons _ (List.Sublist.cons _ (List.sublist_append_left _ _)))
  have hap:∀r ∈ I0,∀s ∈ Hc,r.apart s:=by
    intro r hr s hs
    have Cz:=HS.apart
    rw [List.pairwise_cons,List.pairwise_cons,List.pairwise_append] at Cz
    obtain ⟨q1,q2,_,_,q3⟩:=Cz
    rcases List.mem_cons.1 hr with rfl | hr
    · exact q1 s (by simp [hs])
    · rcases List.mem_cons.1 hr with rfl | hr
      · exact q2 s (by simp [hs])
      · exact aW.kM (q3 s hs r hr)
  have hfn:=hit.fn (w.heap.size + 1) J Jx (bN I0)
  have zf:bN (aW.ext (bN I0) (J 0 (bN I0))::Hc) = bN I0++bN Hc:=by simp [bN,aW.iN]
  refine ⟨w.heap.size + 1,[mark w.heap.size],W1,{ target:=.fn (.func gf) caps,args:=#[.func (.yield (w.heap.size + 1)) #[] #[]] },W1,gf,
    (Value.func (.yield (w.heap.size + 1)) #[] #[]::caps.toList).toArray,W1,?_,?_,fun _ _=>trivial,?_,fun h=>by simp at h,?_⟩
  · rw [← CW,oA]; exact run_enterLoop_outer _ _ _ _ _
  · simp only [resolve,Pg]
    simp [go_sem]
  · have:=hfn.enter (#[.func (.yield (w.heap.size + 1)) #[] #[]]++caps) W1
    simp only [invoke]
    rw [this]
    congr 2
    simp
  · have hin:cJ (bN I0++bN Hc) W1.heap.size (aW.ext (bN I0) (J 0 (bN I0))::Hc) W1:=by
      refine ⟨?_,?_,?_⟩
      · intro r hr
        rcases List.mem_cons.1 hr with rfl | hr
        · exact w6 (I:=fun i=>.obj w.heap.size (.deferred (some []))::.obj (w.heap.size + 1) (.loop rec)::I 0 i) i0 EG HR
        · exact Bs.holds r hr
      · intro r hr b hb
        rcases List.mem_cons.1 hr with rfl | hr
        · obtain ⟨s,hs,cZ⟩:=dH.1 hb
          exact ⟨.inl (List.mem_append_left _ hb),(HR.own s hs b cZ).2⟩
        · exact ⟨.inl (List.mem_append_right _ (dH.2 ⟨r,hr,hb⟩)),(Bs.own r hr b hb).2⟩
      · refine List.pairwise_cons.2 ⟨fun s hs b hb cZ=>?_,Bs.apart⟩
        obtain ⟨r,hr,wm⟩:=dH.1 hb
        exact hap r hr s hs b wm cZ
    have sq:∀b ∈ bN I0++bN Hc,b ∈ c.bs∨c.w0.heap.size ≤ b:=fun b hb=>by
      rcases List.mem_append.1 hb with h | h
      · obtain ⟨r,hr,wm⟩:=dH.1 h; exact (HR.own r hr b wm).1
      · obtain ⟨r,hr,wm⟩:=dH.1 h; exact (Bs.own r hr b wm).1
    have xL:bF c.bs c.w0 W1:=hst.si.ext Hl
    have ze:=hfn.calls W1 ⟨fun w' Hh=>PE.ok w' (xL.trans Hh sq) (fun r hr=>by cases hr),?_⟩ (by rw [zf]; exact hin)
    · refine mz c.ro ?_
      intro cs
      obtain ⟨e,w2,fr,⟨x,_,he,AV,CM⟩,y5,so⟩:=ze cs
      refine ⟨e,w2,fr,?_,y5,so⟩
      subst he
      rw [zf] at AV CM
      obtain ⟨go,bs'⟩:=x
      have Cv:bF c.bs c.w0 w2:=xL.trans AV sq
      have hex:=CM.holds _ (List.mem_cons_self)
      have HQ:∀r ∈ Ho,r.holds w2:=fun r hr=>CM.holds r (List.mem_cons_of_mem _ hr)
      have HP:∀s ∈ Ho,∀b ∈ bs',b ∉ s.iN:=fun s hs b hb=>by
        have:=CM.apart
        rw [List.pairwise_cons] at this
        exact this.1 s hs b hb
      have both:∀(IL:List aW) (jump:Option Code) (st:LoopState),st ≠ .busy→bs' = bN (.obj w.heap.size (.deferred (some []))::.obj (w.heap.size + 1) (.loop { rec with state:=st,pending:=jump })::IL) →
          cJ c.bs c.w0.heap.size (.obj w.heap.size (.deferred (some []))::.obj (w.heap.size + 1) (.loop { rec with state:=st,pending:=jump })::IL) w2 →
          ∃w4,(Instr.endLoop (w.heap.size + 1)).run P w2 = .ok jump w4∧St N c (mark w.heap.size::D) F (.obj w.heap.size (.deferred (some []))::(Ho++IL)) { a with defers:=mark w.heap.size::a.defers } w4:=by
        intro IL jump st Cu cZ hI
        have hl:w2.heap[w.heap.size + 1]? = some (.loop { rec with state:=st,pending:=jump }):=hI.holds (.obj (w.heap.size + 1) _) (by simp)
        have nF:cJ c.bs c.w0.heap.size (.obj w.heap.size (.deferred (some []))::.obj (w.heap.size + 1) (.loop { rec with state:=st,pending:=jump })::(Ho++IL)) w2:=by
          have hq:=hI.apart
          rw [List.pairwise_cons,List.pairwise_cons] at hq
          refine ⟨?_,?_,?_⟩
          · intro r hr
            rcases List.mem_cons.1 hr with rfl | hr
            · exact hI.holds _ (by simp)
            · rcases List.mem_cons.1 hr with rfl | hr
              · exact hI.holds _ (by simp)
              · rcases List.mem_append.1 hr with h | h
                · exact HQ r h
                · exact hI.holds r (by simp [h])
          · intro r hr b hb
            rcases List.mem_cons.1 hr with rfl | hr
            · exact hI.own _ (by simp) b hb
            · rcases List.mem_cons.1 hr with rfl | hr
              · exact hI.own _ (by simp) b hb
              · rcases List.mem_append.1 hr with h | h
                · obtain ⟨o,lt⟩:=CM.own r (List.mem_cons_of_mem _ h) b hb
                  exact ⟨o.elim (sq b) (fun o=>.inr (Nat.le_trans xL.size o)),lt⟩
                · exact hI.own r (by simp [h]) b hb
          · have HM:∀r,r ∈ (aW.obj w.heap.size (.deferred (some []))::.obj (w.heap.size + 1) (.loop { rec with state:=st,pending:=jump })::IL)→∀s ∈ Ho,r.apart s:=fun r hr s hs b hb HO =>
              HP s hs b (by rw [cZ]; exact dH.2 ⟨r,hr,hb⟩) HO
            refine List.pairwise_cons.2 ⟨fun s hs=>?_,List.pairwise_cons.2 ⟨fun s hs=>?_,List.pairwise_append.2 ⟨(List.pairwise_cons.1 CM.apart).2,hq.2.2,fun s hs r hr=>aW.kM (HM r (by simp [hr]) s hs)⟩⟩⟩
            · rcases List.mem_cons.1 hs with rfl | hs
              · exact hq.1 _ (by simp)
              · rcases List.mem_append.1 hs with h | h
                · exact HM _ (by simp) s h
                · exact hq.1 s (by simp [h])
            · rcases List.mem_append.1 hs with h | h
              · exact HM _ (by simp) s h
              · exact hq.2.1 s h
        have Ct:St N c (mark w.heap.size::D) F (.obj w.heap.size (.deferred (some []))::.obj (w.heap.size + 1) (.loop { rec with state:=st,pending:=jump })::(Ho++IL)) { a with defers:=mark w.heap.size::a.defers } w2:=
          ⟨hst.tm,hfr,by simp [hst.df],Cv,nF⟩
        have OC:sJ (.obj w.heap.size (.deferred (some []))::.obj (w.heap.size + 1) (.loop { rec with state:=st,pending:=jump })::(Ho++IL)) (w.heap.size + 1) (.loop { rec with state:=.exhausted,pending:=jump }) (.obj w.heap.size (.deferred (some []))::.obj (w.heap.size + 1) (.loop { rec with state:=.exhausted,pending:=jump })::(Ho++IL)):=inferInstance
        have ho:r7 (.obj w.heap.size (.deferred (some []))::.obj (w.heap.size + 1) (.loop { rec with state:=st,pending:=jump })::(Ho++IL)) (w.heap.size + 1) (.loop { rec with state:=st,pending:=jump }):=inferInstance
        obtain ⟨h3,_⟩:=Ct.BO ho OC
        refine ⟨_,run_endLoop hl Cu,⟨h3.tm,h3.fr,h3.df,h3.si,h3.hp.sub ?_⟩⟩
        exact List.Sublist.cons_cons _ (List.Sublist.cons _ (List.Sublist.refl _))
      cases go with
      | true =>
        obtain ⟨i,AX,hI,cZ⟩:=ext_get hex
        have KQ:({ rec with state:=LoopState.ready,pending:=none }:Loop) = rec:=by rw [oA]
        obtain ⟨w4,h4,h5⟩:=both (I n i) none .ready (by simp) (by rw [KQ]; exact cZ) (by rw [KQ]; exact hI)
        exact ⟨none,w4,h4,hdone _ i AX _ _ h5⟩
      | false =>
        obtain ⟨⟨j,i⟩,AX,hI,cZ⟩:=ext_get hex
        obtain ⟨w4,h4,h5⟩:=both (X i) (some j) .done (by simp) cZ hI
        exact ⟨some j,w4,h4,CJ _ j i AX _ _ h5⟩
    ·
      intro k Bp W bs OD PA HD
      obtain ⟨i,AX,hI,cZ⟩:=ext_get HD
      have hl:W.heap[w.heap.size + 1]? = some (.loop rec):=hI.holds (.obj (w.heap.size + 1) _) (by simp)
      have hy:=run_yield (P:=P) (args:=(encs k).toArray) hl (by rw [oA]; simpa using hlen k)
      refine ⟨_,_,_,_,hy,?_⟩
      have Cw:bF c.bs c.w0 W:=xL.trans OD sq
      have hsub:∀b,(b ∈ bN (aW.obj w.heap.size (.deferred (some []))::.obj (w.heap.size + 1) (.loop rec)::I k i)∨W.heap.size ≤ b)→(b ∈ c.bs∨c.w0.heap.size ≤ b):=fun b hb=>by
        rcases hb with hb | hb
        · obtain ⟨r,hr,wm⟩:=dH.1 hb; exact (hI.own r hr b wm).1
        · exact .inr (Nat.le_trans Cw.size hb)
      have hb:=hbody k i (w.heap.size + 1) w.heap.size rec ⟨some (w.heap.size + 1),W,bs⟩ Bp AX (by rw [oA]) (by rw [oA]) rfl (fun w' Hh=>Cw.trans Hh fun b hb=>hsub b (.inl (by rw [← cZ]; exact hb))) (fun b hb=>hsub b (by rw [← cZ]; exact hb))
      have ht:=zW (ps:=ps) (vs:=encs k) hfr hst.tm hps
      have G4:(rec.params.zip (encs k).toArray).foldl (fun tmps (t,a)=>tmps.setIfInBounds t a) rec.tmps = (ps.zip (encs k)).foldl (fun t q=>t.setIfInBounds q.1 q.2) a.tmps:=by
        rw [oA]; simp
      rw [G4]
      have KR:rec.assign = assign∧rec.body = body:=by rw [oA]; exact ⟨rfl,rfl⟩
      rw [KR.1,KR.2]
      have LD:cJ bs W.heap.size (.obj w.heap.size (.deferred (some []))::.obj (w.heap.size + 1) (.loop rec)::I k i) W:=
        ⟨hI.holds,fun r hr b hb=>⟨.inl (by rw [cZ]; exact dH.2 ⟨r,hr,hb⟩),(hI.own r hr b hb).2⟩,hI.apart⟩
      have qg:=roundIn_of_wpIn (F:=FA none) (n:=0) (P:=P) (l:=w.heap.size + 1) (f:=rec.fn) (R:=zH ⟨some (w.heap.size + 1),W,bs⟩ (J (k + 1)) Jx) trivial
        (hb { tmps:=(ps.zip (encs k)).foldl (fun t q=>t.setIfInBounds q.1 q.2) a.tmps,defers:=[] } W ⟨ht.2,ht.1,rfl,bF.refl _ _,LD⟩)
      refine qg.mono fun e W' hr=>?_
      rw [zf] at *
      exact hr
end Go.Bw
namespace Go.Bw
open Go Go.RowKit
section rules
variable {P:Program} {N:Nat} {c:Cx} {D:List Deferred} {Q:Exit→Act→World→Prop} {F:dP} {H:List aW} {d:Option Tmp} {ty:TypeId} {ps:String} {af:Array Edge} {g:Option (Nat × Bool)} {α β γ:Type}
theorem VS.BF {o:Oper} {v:Value} {H' : List aW} (h:VS P N c o F H v) (ht:∀w,cJ c.bs c.w0.heap.size H w→cJ c.bs c.w0.heap.size H' w):RX (α:=Unit) P N c o F H (fun _=>True) (fun _=>v) (fun _=>H'):=
  fun D a w next Q hst hk=>h D a w next Q hst fun w' hw=>hk () w' trivial (hst.si.ext hw) (ht _ (hst.hp.ext hw))
theorem EF {bs:List Nat} {n0 b e sz:Nat} {w:World} {L:aL α} [bq L] {y:α} (hn:L.n = sz) (h:cJ bs n0 (.cells b e (L.enc y)::H) w):cJ bs n0 (Row (.slice (some ⟨b,0,none⟩) 1 1) e sz L [y]::H) w:=by
  have:=h.BF (k:=0) (r:=.cells b e (L.enc y)) (r':=Row (.slice (some ⟨b,0,none⟩) 1 1) e sz L [y]) rfl (fun w hw=>by
    have hb:w.heap[b]? = some (.cells (L.enc y).toArray e (0,0)):=hw
    have e1:fV L [y] = L.enc y:=u5 L y
    refine ⟨by rw [e1,aT,hn]; simp, .inr ⟨b,1,_,rfl,Nat.zero_le _,hb,Nat.le_refl _,by decide,by simp [aT,hn],?_⟩⟩
    rw [e1]
    exact List.take_of_length_le (by rw [aT,hn]; simp)) (fun x hx=>by simpa [aW.iN,Value.ownBlock] using hx)
  exact this
theorem An {x:Operand} {t e sz:Nat} (L:aL α) [bq L] (y:α) {zs:List Value} {val:Value} [ht:sI P t e sz] [hz:cA P e zs] (hx:ev F x = some val) (hc:val.cells.toList = L.enc y) (hl:L.n = sz) (MX:zs.length = sz) (h0:0 < sz) (hs:sz ≤ 16777216) :
    RX P N c ⟨d, .buildSlice t 1 #[(0,x)],ty,ps,af,g⟩ F H (fun _=>True) (fun b=>.slice (some ⟨b,0,none⟩) 1 1) (fun b=>Row (.slice (some ⟨b,0,none⟩) 1 1) e sz L [y]::H):=
  fun D a w next Q hst hk=>ki L y hx hc hl MX h0 hs D a w next Q hst fun b w' hp hsi hh=>hk b w' hp hsi (EF hl hh)
theorem Az {w:World} {v:Value} {e sz n m:Nat} {xs:List Value} (h:(aW.row v e sz n xs).holds w) (hm:m ≤ n):(aW.row (kI 0 m sz v) e sz m (xs.take (m * sz))).holds w:=by
  obtain ⟨h1,h2⟩:=h
  have hle:m * sz ≤ n * sz:=Nat.mul_le_mul_right _ hm
  refine ⟨by rw [List.length_take,h1,Nat.min_eq_left hle],?_⟩
  rcases h2 with ⟨rfl,rfl⟩ | ⟨gb,cap,cur,rfl,q1,q2,q3,q4,q5,q6⟩
  · obtain rfl:m = 0:=by omega
    exact .inl ⟨by simp [kI],rfl⟩
  · refine .inr ⟨gb,cap,cur,?_,q1,q2,by omega,q4,q5,?_⟩
    · simp [kI,Addr.add_lit]
    · rw [← q6,List.take_take,Nat.min_eq_left hle]
theorem Am {v:Value} {n m sz:Nat} (h:ko v n):ko (kI 0 m sz v) m:=by
  obtain ⟨a,cp,rfl⟩:=h; exact ⟨_,_,rfl⟩
theorem uZ (L:aL α) [bq L] (xs:List α) {m sz:Nat} (hn:L.n = sz) (hm:m ≤ xs.length):(fV L xs).take (m * sz) = fV L (xs.take m):=by
  have:=xx L xs 0 m (Nat.zero_le _) hm
  subst hn
  simpa using this
theorem Hq {bs:List Nat} {n0 e sz m:Nat} {w:World} {v:Value} {L:aL α} [bq L] {xs:List α} {f:aW→List aW} [hr:o7 H v e sz xs.length (fV L xs) f] (hn:L.n = sz) (hm:m ≤ xs.length) (h:cJ bs n0 H w):cJ bs n0 (f (Row (kI 0 m sz v) e sz L (xs.take m))) w:=by
  obtain ⟨k,k1,k2⟩:=hr.ok
  rw [k2]
  refine h.BF k1 (fun w hw=>?_) (fun b hb=>?_)
  · have:=Az (m:=m) hw hm
    rw [uZ L xs hn hm] at this
    have e1:(xs.take m).length = m:=by rw [List.length_take]; omega
    unfold Row; rw [e1]; exact this
  · simpa [aW.iN,C2] using hb
theorem vE {x hi:Operand} {t e sz m:Nat} {k:IntKind} {i:Int} {v:Value} {L:aL α} [bq L] {xs:List α} {f:aW→List aW} [ht:sI P t e sz] (hs:ko v xs.length) (hn:L.n = sz) (hx:ev F x = some v) (hhi:ev F hi = some (.int k i)) (hi' : i = (m:Int)) (hm:m ≤ xs.length) [hr:o7 H v e sz xs.length (fV L xs) f] [Kn c H (Hs [Row v e sz L xs])] :
    RX (α:=Unit) P N c ⟨d, .slice t x none (some hi) none,ty,ps,af,g⟩ F H (fun _=>True) (fun _=>kI 0 m sz v) (fun _=>f (Row (kI 0 m sz v) e sz L (xs.take m))):=
  (Bb (Fz.row (e:=e) hn.symm hs) hx hhi hi' hm).BF fun _ hp=>Hq hn hm hp
theorem u4 (L:aL α) [bq L] (z0:α) {z:Value} (he:L.enc z0 = [z]):∀n:Nat,fV L (List.replicate n z0) = List.replicate n z
  | 0=>rfl
  | n + 1=>by
    have:=u4 L z0 he n
    rw [List.replicate_succ,List.replicate_succ]
    show L.enc z0++fV L (List.replicate n z0) = _
    rw [he,this]; rfl
theorem xw {P:Program} {w:World} {t e ty:Nat} (e1:P.underlying t = some (.slice e)) (a:Option Addr) (cp:Nat):(Builtin.clear_ #[t] ty #[.slice a 0 cp]).run P w = .ok (.tuple #[]) w:=by
  cases a <;> simp [Builtin.clear_,run_underlying e1]
theorem Bf {L:aL α} [bq L] {xs ys:List α} {v:Value} {e t m:Nat} {z0:α} {z:Value} {x:Operand} {f:aW→List aW} (ht:Ad P t e 1 = true) (hz:Rc P e z) (he:L.enc z0 = [z]) (Sk:z.cells = #[z]) (h1:z.oneCell' = true) (hL:L.n = 1) (hm:m ≤ xs.length)
    (hx:ev F x = some (kI m xs.length 1 v)) [hr:o7 H v e 1 xs.length (fV L xs) f] (hy:ys = xs.take m++List.replicate (xs.length - m) z0) :
    RX (α:=Unit) P N c ⟨d, .call ⟨.builtin .clear,#[x],#[t]⟩,ty,ps,af,g⟩ F H (fun _=>True) (fun _=>.tuple #[]) (fun _=>f (Row v e 1 L ys)):=fun D a w next Q hst hk=>by
  obtain ⟨inf,e1,e2,e3⟩:=sI.get ht
  obtain ⟨k,k1,k2⟩:=hr.ok
  have DO:aW.row v e 1 xs.length (fV L xs) ∈ H:=List.mem_of_getElem? k1
  have hown:w.ownsRow 0 e 1 v xs.length (fV L xs):=hst.hp.holds _ DO
  obtain ⟨hlen,vp⟩:=hown
  have Qz:=bU hst.fr hx
  have FE:ys.length = xs.length:=by rw [hy,List.length_append,List.length_take,List.length_replicate]; omega
  by_cases hem:m = xs.length
  · have Qy:ys = xs:=by rw [hy,hem,List.take_length]; simp
    refine iR (by simp) (v:=.tuple #[]) (w':=w) ?_ (hk () w trivial hst.si ?_)
    · have hv:∃a0 cp,a.eval x = .slice a0 0 cp:=by
        rw [Qz,hem]
        rcases vp with ⟨hv,h0⟩ | ⟨gb,cap,cur,hv,_⟩
        · rw [hv]; exact ⟨_,_,by rw [kI,Nat.sub_self]⟩
        · rw [hv]; exact ⟨_,_,by rw [kI,Nat.sub_self]⟩
      obtain ⟨a0,cp,hv⟩:=hv
      have:=xw (P:=P) (w:=w) (ty:=ty) e1 a0 cp
      simp [execOp,resolve,invoke,builtin,hv,this]
    · rw [k2]
      exact hst.hp.BF k1 (fun w hw=>by rw [Qy]; exact hw) (fun b hb=>by rw [Qy] at hb; exact hb)
  · rcases vp with ⟨_,h0⟩ | ⟨gb,cap,cur,rfl,_,FI,hnc,M3,hcs,z7⟩
    · omega
    have hone:kA (List.replicate (xs.length - m) z):=fun v hv=>by rw [List.eq_of_mem_replicate hv]; exact h1
    have hsc:=run_storeCells_at P gb m e (List.replicate (xs.length - m) z) 0 cur w FI (by simp; omega) hone
    simp only [Nat.add_zero] at hsc
    obtain ⟨cs',HK⟩ : ∃cs',(cur.toList.take m++List.replicate (xs.length - m) z++cur.toList.drop (m + (List.replicate (xs.length - m) z).length)).toArray = cs':=⟨_,rfl⟩
    rw [HK] at hsc
    have pF:bF [gb] w (w.setRow gb cs'):=⟨rfl,rfl,rfl,by simp,fun k _ hk=>setRow_other w gb k _ (by simpa using hk)⟩
    refine iR (by simp) (v:=.tuple #[]) (w':=w.setRow gb cs') ?_ (hk () _ trivial (hst.si.store hst.hp DO (by simp [aW.iN,Value.ownBlock]) pF) ?_)
    · obtain ⟨j,hj⟩ : ∃j,xs.length - m = j + 1:=⟨xs.length - m - 1,by omega⟩
      have N4:=Gz hz w
      have Sh:=uy Sk (j + 1)
      have hne:¬ cap = m:=by omega
      rw [hj] at hsc
      have Sm:a.eval x = .slice (some ⟨gb,m,none⟩) (j + 1) (cap - m):=by rw [Qz]; simp [kI,hne,Addr.add_lit,hj]
      simp [execOp,resolve,invoke,builtin,Sm,Builtin.clear_,run_underlying e1,N4,Sh,hsc]
    · show cJ c.bs c.w0.heap.size (f (Row _ e 1 L ys)) _
      rw [Row,k2]
      have Ct:=setRow_heap w gb cur cs' e (0,0) FI
      have Pk:cur.toList.length = cap:=by simpa using hcs
      refine hst.hp.set k1 pF.size (fun j hj hn=>pF.block j hj (by simpa [aW.iN,Value.ownBlock] using hn)) ?_ hst.si.size (fun b' hb'=>?_)
      · refine ⟨by rw [oM,hL], .inr ⟨gb,cap,cs',by rw [FE],Nat.zero_le _,Ct,by omega,M3,?_,?_⟩⟩
        · rw [← HK]; simp; omega
        · rw [FE,← HK,Nat.mul_one,hy,oN,u4 L z0 he]
          have t1:=uZ L xs (m:=m) (sz:=1) hL hm
          rw [Nat.mul_one] at t1
          rw [← t1,← z7,List.take_take,Nat.mul_one,Nat.min_eq_left hm]
          simp only [List.toList_toArray]
          rw [List.take_append_of_le_length (by simp; omega)]
          exact List.take_of_length_le (by simp; omega)
      · have h5:b' = gb:=by simpa [aW.iN,Value.ownBlock] using hb'
        subst h5
        exact ⟨.inl (by simp [aW.iN,Value.ownBlock]),Nat.lt_of_lt_of_le (Array.getElem?_eq_some_iff.1 FI).1 pF.size⟩
theorem Mt {ops:Array Oper} {rest:List Oper} {op:Op} {dd:Tmp} {gg:Option (Nat × Bool)} {b:Bool} {p:α→Prop} {fv:α→Value} {fH:α→List aW} (hg:Gd ops F gg b) (hb:b = true) (hd:Nat.blt dd N = true) (hv:RX P N c ⟨some dd,op,ty,ps,af,gg⟩ F H p fv fH)
    (h:∀x,p x→WL P N c D ops Q rest ((dd,bif b then fv x else undef)::F) (fH x)):WL P N c D ops Q (⟨some dd,op,ty,ps,af,gg⟩::rest) F H:=by
  subst hb
  exact Ms hg hd (fun _=>hv) (fun _ x hx=>h x hx) nofun
theorem Mu {ops:Array Oper} {rest:List Oper} {op:Op} {dd:Tmp} {gg:Option (Nat × Bool)} {b:Bool} {v:Value} (hg:Gd ops F gg b) (hb:b = false) (hd:Nat.blt dd N = true)
    (h:WL P N c D ops Q rest ((dd,bif b then v else undef)::F) H):WL P N c D ops Q (⟨some dd,op,ty,ps,af,gg⟩::rest) F H:=by
  subst hb
  exact rj hg hd h
theorem LF {x y:Bool} (h:(x == false) = false) (hc:(x || y) = false):False:=by cases x <;> simp at h hc
theorem QU {x y b:Bool} (h:(x == false) = true) (hc:(x || y) = b):y = b:=by cases x <;> simp_all
theorem Fn.Ft {P:Program} {f:Nat} {args:List Value} {K:World→Prop} {e sz:Nat} {L:aL α} [bq L] {xs:List α} (hn:sz = L.n) (h:Fn (α:=Value) P f args K [] (fun v=>ko v xs.length) (fun v=>v) (fun v=>[Row v e sz L xs])):pY P f args K (fun J v=>Fz (fun w=>K w∧J w) v L xs):=by
  refine ⟨h.enter,fun w hw hp cs=>?_⟩
  obtain ⟨en,w',fr,⟨v,px,he,hs,hh⟩,more⟩:=h.calls w hw hp cs
  refine ⟨en,w',fr,⟨(v,bN [Row v e sz L xs],Hs [Row v e sz L xs]),?_,he,hs,zx (R:=[Row v e sz L xs]) (H':=[]) hh⟩,more⟩
  exact (Fz.row (e:=e) hn px).mono kx
end rules
end Go.Bw
namespace Go.Proofs.YtmdpbdhkmfjlhaaGreat
open Go Go.Bw
structure aZ where
 At:Int
 N:Int
abbrev au:aL aZ:=aL.via (LP (LI .i64) (LI .i64)) (fun x=>(x.At,x.N))
abbrev jJ:aZ:=⟨0,0⟩
instance:Inhabited aZ:=⟨jJ⟩
theorem fm:aE au (LI .i64) 0 (fun x=>x.At) (fun x v=>{ x with At:=v }):=(aE.fst aE.id).via _ _ _ 0 rfl (fun _=>rfl) (fun _ _=>rfl)
theorem eL:aE au (LI .i64) 1 (fun x=>x.N) (fun x v=>{ x with N:=v }):=(aE.snd aE.id).via _ _ _ 1 rfl (fun _=>rfl) (fun _ _=>rfl)
def dR (n:Nat) (a0:aZ):Option Int:=
 some (wr .i64 (a0.At + a0.N))
theorem j6 {n a0 r}  (h:dR n a0 = some r):yz Tryz.prog 96 [.agg (au.enc a0).toArray] (.int .i64 r):=by
 unfold dR at h
 refine fI Tryz.func96 (by kernel_rfl) rfl Tryz.ntmps96 rfl (fun cx cZ hpre hro=>?_)
 refine SC 2 rf ?_
 refine W1 rf (cC au a0 rfl rfl) fun b1=>?_
 refine SL 6 rf ?_
 refine ai rfl (bg fm rfl) ?_
 refine ai rfl (aO rfl) ?_
 refine ai rfl (bg eL rfl) ?_
 refine SL 5 rf ?_
 have h:=sj h; subst h
 exact RV rf (rt rf rn) rf
def lU (n:Nat) (a0:aZ):Option Bool:=
 some ((decide (1 ≤ a0.N) && decide (0 ≤ a0.At)) && decide (a0.At ≤ (wr .i64 (64 - a0.N))))
theorem tW {n a0 r}  (h:lU n a0 = some r):yz Tryz.prog 94 [.agg (au.enc a0).toArray] (.bool r):=by
 unfold lU at h
 refine fI Tryz.func94 (by kernel_rfl) rfl Tryz.ntmps94 rfl (fun cx cZ hpre hro=>?_)
 refine SC 2 rf ?_
 refine W1 rf (cC au a0 rfl rfl) fun b1=>?_
 refine SL 6 rf ?_
 refine ai rfl (bg eL rfl) ?_
 refine SL 2 rf ?_
 refine GB rf rf rf (fun hb=>aO rfl) ?_
 refine GB rf rf rf (fun hb=>bg fm (bC rfl hb)) ?_
 refine GB rf rf rf (fun hb=>n8 (bC rfl hb) rfl) ?_
 refine ai rfl (bV rfl rfl) ?_
 refine ai rfl (ak rfl) ?_
 refine GB rf rf rf (fun hb=>aO rfl) ?_
 refine GB rf rf rf (fun hb=>bg fm (bC rfl hb)) ?_
 refine GB rf rf rf (fun hb=>aO rfl) ?_
 refine GB rf rf rf (fun hb=>bg eL (bC rfl hb)) ?_
 refine GB rf rf rf (fun hb=>rW rfl (bC rfl hb) rfl) ?_
 refine GB rf rf rf (fun hb=>o6 (bC rfl hb) (bC rfl hb)) ?_
 refine ai rfl (bV rfl rfl) ?_
 refine SL 4 rf ?_
 have h:=sj h; subst h
 exact RV rf (rt rf rn) rf
def lC (n:Nat) (a0:(List aZ)):Option (List aZ):=
 some a0
theorem qX {n a0 r K} [bn K] {v0} (f0:Fz K v0 au a0) (h:lC n a0 = some r):Bw.Fn (α:=Nat × List Value) Tryz.prog 100 [v0] K [] (fun (b0,c0)=>((pX au)).rep K c0 r) (fun (b0,c0)=>.func (.func 102) #[] #[Ptr b0 0]) (fun (b0,c0)=>[.cells b0 33 c0]):=by
 unfold lC at h
 refine fo Tryz.func100 (by kernel_rfl) rfl Tryz.ntmps100 rfl fun cx _ hro cZ hpre=>?_
 refine SC 2 rf ?_
 refine W1 rf (Ao rfl f0.sl.cells) fun b1=>?_
 refine SL 10 rf ?_
 have h:=sj h; subst h
 exact dF ⟨b1,[v0]⟩ rfl (.tmp rfl .nil) (aL.mono _ kx ⟨_,rfl,f0⟩) rfl (ks:=[0]) rfl (by decide)
structure dm where
 l:(List aZ)
abbrev cQ:aL dm:=aL.via (pX au) (fun x=>x.l)
abbrev lg:dm:=⟨[]⟩
def gC:List Value:=[.slice none 0 0]
theorem jg {A:World→Prop}:cQ.rep A gC lg:=⟨_,rfl,Fz.nil⟩
theorem uS:aE cQ (pX au) 0 (fun x=>x.l) (fun x v=>{ x with l:=v }):=aE.id.via _ _ _ 0 rfl (fun _=>rfl) (fun _ _=>rfl)
def jW (n:Nat) (a0:dm):Option (List aZ):=
 bd (lC n a0.l) fun hJ =>
 some hJ
theorem rP {n a0 r K} [bn K] {cv} (f0:(cQ).rep K cv a0) (h:jW n a0 = some r):Bw.Fn (α:=Nat × List Value) Tryz.prog 95 [A cv] K [] (fun (b0,c0)=>((pX au)).rep K c0 r) (fun (b0,c0)=>.func (.func 102) #[] #[Ptr b0 0]) (fun (b0,c0)=>[.cells b0 33 c0]):=by
 unfold jW at h
 refine fo Tryz.func95 (by kernel_rfl) rfl Tryz.ntmps95 rfl fun cx _ hro cZ hpre=>?_
 refine SC 2 rf ?_
 refine W1 rf (aV rfl) fun b1=>?_
 obtain ⟨hJ,jE,h⟩:=aS h
 refine SL 6 rf ?_
 obtain ⟨Bn,uI,f22⟩:=uS.sl f0
 refine ai rfl (bL rfl uI) ?_
 refine ef rfl (eK (qX (K:=K) (f22.mono kx) jE) rfl kn) (fun ⟨M6,DT⟩ f26=>?_)
 replace f26:((pX au)).rep K DT hJ:=f26
 dsimp only [List.cons_append,List.nil_append]
 refine SL 4 rf ?_
 have h:=sj h; subst h
 exact dF ⟨M6,DT⟩ rfl (.tmp rfl .nil) (mo f26) rfl (ks:=[0]) rfl (by decide)
def gD (n:Nat) (a1:(List aZ)):Option (List (Int × aZ)):=
 eu (fun xd (fa:Int) =>
 cn (decide (fa < (a1.length:Int))) (
 gu (dO fa a1.length) <|
 lt ((a1.getD (Int.toNat fa) default):aZ) fun jN =>
 yl (fa,jN) <|
 xd (wr .i64 (fa + 1))) (
 some [])) n 0
theorem oR {n:Nat} {a1:(List aZ)} {l:List (Int × aZ)} {K:World→Prop} {q1:Nat} {fq:List Value} (f1:((pX au)).rep K fq a1) (h:gD n a1 = some l):Aq Tryz.prog 102 [Ptr q1 0] [.cells q1 33 fq] K (fun k=>[.int .i64 ((l.getD k default).1), .agg (au.enc ((l.getD k default).2)).toArray]) l.length:=by
 unfold gD at h
 refine ⟨fun y J Jx bs=>fI Tryz.func102 (by kernel_rfl) rfl Tryz.ntmps102 rfl (fun cx cZ hpre hro=>?_)⟩
 haveI:=jA (show cx.bs = bs++bN [.cells q1 33 fq] from cZ) hpre.1
 have hR:F3 Tryz.prog y cx.bs cx.w0 J Jx (fun k=>[.int .i64 ((l.getD k default).1), .agg (au.enc ((l.getD k default).2)).toArray]) l.length:=by rw [show cx.bs = bs++bN [.cells q1 33 fq] from cZ]; exact hpre.2
 have HJ:l.drop 0 = l:=rfl
 have Hu:0 ≤ l.length:=Nat.zero_le _
 refine SC 2 rf ?_
 obtain ⟨Bn,uI,f22⟩:=(aE.id (L:=(pX au))).sl f1
 refine ai rfl (bL rfl uI) ?_
 refine ai rfl (dg f22 rfl) ?_
 refine SL 4 rf ?_
 obtain ⟨vZ,qM,h⟩:=mT h
 refine LO (β:=Int × Nat × (List (Int × aZ)) × (List Nat)) [0,5,6] [0,1] (fun (qJ,fa,nA,JN,wz)=>[(7, .int .i64 fa)]) (fun (qJ,fa,nA,JN,wz)=>[.ext wz (J nA wz), .cells q1 33 fq]) (fun (qJ,fa,nA,JN,wz)=>l.drop nA = JN∧nA ≤ l.length∧eu vZ qJ fa = some JN) (n,0,0,l,bs) ⟨HJ,Hu,h⟩ rf rf rf ?_
 rintro qJ ⟨fa,nA,JN,wz⟩ ⟨Lq,O1,h⟩
 replace h:=mS qM h; obtain ⟨qJ,rfl,h⟩:=h
 refine SC 6 rf ?_
 refine dN h rf (fun hc h=>?_) fun hc h=>?_
 ·
  obtain ⟨oB,h⟩:=cq h
  obtain ⟨jN,sF,h⟩:=cj h
  refine SC 7 rf ?_
  refine ai rfl (cM (m:=(Int.toNat fa)) f22 rfl rfl rfl (az oB).1 (az oB).2) ?_
  refine ai rfl (pC (M:=au) f22 (aE.idx (L:=au) (m:=(a1.length)) (k:=2) ((Int.toNat fa)) (az oB).2 rfl) rfl rfl (by decide)) ?_
  refine W1 rf (bu (L:=au) (z:=jJ) ⟨by kernel_rfl⟩) fun b4=>?_
  refine ai rfl (bQ rfl) ?_
  refine W0 (bI (M:=au) (aE.id (L:=au)) (a1.getD (Int.toNat fa) default) jN sF rfl rfl rfl rfl) ?_
  refine SL 3 rf ?_
  obtain ⟨RW,OJ,h⟩:=DY h
  obtain ⟨OX,wj,Pj,OU⟩:=drop_cons (Lq.trans OJ)
  refine SC 3 rf ?_
  refine ai rfl (bj (M:=au) (aE.id (L:=au)) rfl rfl) ?_
  refine ef rfl (rq (bs:=wz) hR OX hro rfl (show rO _ _ = some [.int .i64 ((l.getD nA default).1), .agg (au.enc ((l.getD nA default).2)).toArray] by rw [wj]; rfl)) (fun ⟨LH,LU⟩ _=>?_)
  refine SL 3 rf ?_
  refine vB rfl (fun hc=>?_) (fun hc=>?_)
  ·
   obtain rfl:LH = false:=by simpa using hc
   dsimp only [cond_true,cond_false]
   refine SC 5 rf ?_
   exact dF (false,LU) rfl .nil trivial rfl (ks:=[1,2]) rfl (by decide)
  ·
   obtain rfl:LH = true:=by simpa using hc
   dsimp only [cond_true,cond_false]
   refine SC 7 rf ?_
   exact LN [1,2] (wr .i64 (fa + 1),nA + 1,RW,LU) ⟨Pj,OU,h⟩ rf rf rf
 ·
  refine SC 4 rf ?_
  have h:=sj h; subst h
  have PW:=drop_nil Lq O1
  refine sW (ks:=[0,1]) (H':=[.ext wz (J (nA) wz), .cells q1 33 fq]) rfl (by decide) ?_
  refine sX (J:=J) (n:=l.length) PW ?_
  exact wN (true,wz) rfl .nil trivial rfl (ks:=[0,1]) rfl (by decide)
def iP (n:Nat) (a0:dm) (a1:Int) (a2:Int):Option (dm × Bool):=
 lt ({ At:=a1,N:=a2 }:aZ) fun aM =>
 bd (lU n aM) fun bE =>
 cn ((!bE)) (
 some (a0,false)) (
 bd (jW n a0) fun dB =>
 bd (gD n dB) fun cI =>
 sE (fun (LV:Int × aZ) Ep (eR:Bool) (ez:(List aZ)) (dX:aZ) =>
 lt (LV.1:Int) fun lA =>
 lt (LV.2:aZ) fun nO =>
 bd (dR n nO) fun Fk =>
 cn (decide (Fk < dX.At)) (
 gu (j9 ez.length 1 16) <|
 lt (ez++([nO]):List aZ) fun lK =>
 Ep eR lK dX) (
 bd (dR n dX) fun vH =>
 cn (decide (vH < nO.At)) (
 lt (fun (rB:Bool) (s6:(List aZ)) =>
 gu (j9 s6.length 1 16) <|
 lt (s6++([nO]):List aZ) fun rA =>
 Ep rB rA dX) fun FC =>
 cn ((!eR)) (
 gu (j9 ez.length 1 16) <|
 lt (ez++([dX]):List aZ) fun pZ =>
 FC true pZ) (
 FC eR ez)) (
 bd (dR n nO) fun Bx =>
 cn ((Bx == dX.At)) (
 lt ({ At:=nO.At,N:=wr .i64 (nO.N + dX.N) }:aZ) fun Fh =>
 Ep eR ez Fh) (
 bd (dR n dX) fun sA =>
 cn ((nO.At == sA)) (
 lt ({ dX with N:=wr .i64 (dX.N + nO.N) }:aZ) fun IZ =>
 Ep eR ez IZ) (
 some (a0,false)))))) (fun (eR:Bool) (ez:(List aZ)) (dX:aZ) =>
 cn ((!eR)) (
 gu (j9 ez.length 1 16) <|
 lt (ez++([dX]):List aZ) fun vG =>
 lt ({ l:=vG }:dm) fun Gb =>
 some (Gb,true)) (
 lt ({ l:=ez }:dm) fun uo =>
 some (uo,true))) cI false ([]:List aZ) aM)
theorem rQ {n a0 a1 a2 r K} [bn K] {cv} (f0:(cQ).rep K cv a0) (h:iP n a0 a1 a2 = some r):pY Tryz.prog 85 [A cv, .int .i64 a1, .int .i64 a2] K (fun J v=>∃u0,v = (.tuple #[A u0, .bool r.2])∧(cQ).rep (fun w=>K w∧J w) u0 (r.1)):=by
 unfold iP at h
 refine fo Tryz.func85 (by kernel_rfl) rfl Tryz.ntmps85 rfl fun cx _ hro cZ hpre=>?_
 refine SC 2 rf ?_
 refine W1 rf (aV rfl) fun b3=>?_
 refine W1 rf (bz (hz:=(⟨by kernel_rfl⟩ : cA Tryz.prog 157 gC))) fun b6=>?_
 refine W1 rf (bu (L:=LB) (z:=false) ⟨by kernel_rfl⟩) fun b7=>?_
 obtain ⟨aM,bX,h⟩:=cj h
 refine SL 6 rf ?_
 refine ai rfl (dI (cs:=au.enc aM) rfl (by rw [bX]; rfl)) ?_
 refine W1 rf (bu (L:=au) (z:=jJ) ⟨by kernel_rfl⟩) fun b8=>?_
 refine W0 (bI (M:=au) (aE.id (L:=au)) aM aM rfl rfl rfl rfl rfl) ?_
 obtain ⟨bE,fc,h⟩:=aS h
 refine SL 5 rf ?_
 refine ai rfl (bj (M:=au) (aE.id (L:=au)) rfl rfl) ?_
 refine CV (tW fc) rf rf ?_
 refine SL 3 rf ?_
 refine dN h rf (fun hc h=>?_) fun hc h=>?_
 ·
  refine SC 2 rf ?_
  refine ai rfl (ae rfl (aL.len _ f0)) ?_
  refine ST (C:=K) a0 (aE.id (L:=cQ)) jg (mo f0) rf rf rf rf rf fun C7 f24=>?_
  refine W0 (bI (M:=LB) (aE.id (L:=LB)) false false rfl rfl rfl rfl rfl) ?_
  refine SL 4 rf ?_
  have h:=sj h; subst h
  exact lB [] rf rf (ra rf (aL.len _ f24) (ro rf rfl rn)) ⟨_,rfl,(mo f24)⟩
 ·
  refine SC 4 rf ?_
  refine W1 rf (bz (hz:=(⟨by kernel_rfl⟩ : cA Tryz.prog 33 [.slice none 0 0]))) fun b9=>?_
  refine SL 4 rf ?_
  refine W1 rf (bu (L:=LB) (z:=false) ⟨by kernel_rfl⟩) fun qB=>?_
  refine W0 (bI (M:=LB) (aE.id (L:=LB)) false false rfl rfl rfl rfl rfl) ?_
  obtain ⟨dB,lF,h⟩:=aS h
  refine SL 5 rf ?_
  refine ai rfl (ae rfl (aL.len _ f0)) ?_
  refine ef rfl (eK (rP (K:=K) (mo f0) lF) rfl kn) (fun ⟨Q9,Bt⟩ f29=>?_)
  replace f29:((pX au)).rep K Bt dB:=f29
  dsimp only [List.cons_append,List.nil_append]
  refine SL 3 rf ?_
  obtain ⟨cI,tI,h⟩:=aS h
  refine kW 159 2 au ?_
  obtain ⟨G1,La,HV,Lj,h⟩:=Kq h
  refine nK (K:=K) (α:=Bool × (List aZ) × aZ × Value) (β:=Bool × (List aZ) × aZ × dm × Value × (List Value)) hro rfl (oR (K:=K) (mo f29) tI) (fun _=>rfl) rfl (fun En=>fun (eR,ez,dX,w8)=>ko w8 ez.length∧sE G1 HV (cI.drop En) eR ez dX = some r) (fun En=>fun (eR,ez,dX,w8)=>[Row w8 159 2 au ez, .cells qB 4 (LB.enc eR), .cells b9 33 ([w8]), .cells b8 159 (au.enc dX), .cells b7 4 (LB.enc false), .cells b6 157 gC, .cells b3 157 cv]) (fun j=>fun (jK,sP,p4,Jr,Gl,Ik)=>j = Code.ret∧ko Gl sP.length∧(cQ).rep K Ik Jr∧some (Jr,false) = some r) (fun (jK,sP,p4,Jr,Gl,Ik)=>[Row Gl 159 2 au sP, .cells qB 4 (LB.enc jK), .cells b9 33 ([Gl]), .cells b8 159 (au.enc p4), .cells b7 4 (LB.enc false), .cells b6 157 Ik, .cells b3 157 cv]) ⟨false,([]:List aZ),aM, .slice none 0 0⟩ ⟨⟨_,_,rfl⟩,h⟩ (ks:=[1,0,2,3,4,5,6,7]) rfl (by decide) ?_ ?_ ?_
  ·
   rintro En ⟨eR,ez,dX,w8⟩ lo dd rec c' hk ⟨tJ,h⟩ sg we qh hsi hT
   replace h:sE G1 HV (cI.drop En) eR ez dX = some r:=h
   replace h:=Km La hk h
   haveI:=oP (K:=K) hsi
   dsimp only [sC]
   obtain ⟨lA,rL,h⟩:=cj h
   rw [← rL]
   obtain ⟨nO,Om,h⟩:=cj h
   rw [← Om]
   refine nJ ?_
   refine W1 rf (bu (L:=au) (z:=jJ) ⟨by kernel_rfl⟩) fun A7=>?_
   refine W0 (bI (M:=au) (aE.id (L:=au)) nO nO rfl rfl rfl rfl rfl) ?_
   refine rV ?_
   refine lp sg qh ?_
   refine SC 3 rf ?_
   obtain ⟨Fk,Ey,h⟩:=aS h
   refine cK mixed (.gm [] [(0,[12]),(1,[26]),(2,[8]),(3,[28]),(4,[27,29])] (.alt 5 [30] (.fin [] []) .no)) (by kernel_rfl) ?_
   refine T0 ?_
   refine NV rf rf (bj (M:=au) (aE.id (L:=au)) rfl rfl) ?_
   refine NC rf rf (j6 Ey) rf ?_
   refine NS 1 rf ?_
   refine NV rf rf (bg fm rfl) ?_
   refine NE 1 rf ?_
   refine XV rf rf (bQ rfl) ?_
   refine oF ?_
   refine kf ?_
   refine dN h rf (fun hc h=>?_) fun hc h=>?_
   ·
    obtain ⟨Lf,h⟩:=cq h
    obtain ⟨lK,Kv,h⟩:=cj h
    refine nJ ?_
    refine ai rfl (bL rfl rfl) ?_
    refine ai rfl (bj (M:=au) (aE.id (L:=au)) rfl rfl) ?_
    refine ef rfl (ki au nO rfl rfl rfl rfl (by decide) (by decide)) (fun Q7 _=>?_)
    refine ef rfl (jn (sz:=2) (L:=au) (xs:=ez) (y:=nO) (bytes:=16) rfl rfl rfl (dA Lf).1 (dA Lf).2) (fun Jw ED=>?_)
    rw [← Kv] at ED; rw [← Kv]
    refine W0 (nf (cs':=[Jw]) [Jw] (aE.id (L:=(pX au))) (v:=lK) ⟨_,rfl,(Fz.row (e:=159) (sz:=2) (L:=au) (xs:=ez) rfl tJ)⟩ (rv:=(⟨_,rfl,(Fz.row (e:=159) (sz:=2) (L:=au) (xs:=lK) rfl ED)⟩ : ((pX au)).rep (Hs [Row Jw 159 2 au lK]) [Jw] lK)) rfl rfl (Fz.row (e:=159) (sz:=2) (L:=au) (xs:=lK) rfl ED).sl.cells rfl rfl) ?_
    refine SL 3 rf ?_
    exact kg sg we hT ⟨eR,lK,dX,Jw⟩ ⟨ED,h⟩ (ks:=[2,3,4,5,6,7,8,9,10]) rfl (by decide)
   ·
    refine o5 ?_
    obtain ⟨vH,He,h⟩:=aS h
    refine cK mixed (.gm [] [(0,[12]),(1,[36]),(2,[8]),(3,[38]),(4,[37,39])] (.alt 5 [40] (.fin [] []) .no)) (by kernel_rfl) ?_
    refine T0 ?_
    refine NS 1 rf ?_
    refine NV rf rf (bg fm rfl) ?_
    refine NV rf rf (bj (M:=au) (aE.id (L:=au)) rfl rfl) ?_
    refine NC rf rf (j6 He) rf ?_
    refine NE 1 rf ?_
    refine XV rf rf (bQ rfl) ?_
    refine oF ?_
    refine kf ?_
    refine dN h rf (fun hc h=>?_) fun hc h=>?_
    ·
     obtain ⟨FC,O2,h⟩:=cj h
     refine CU (α:=Bool × (List aZ) × Value) [9,12] rf (fun (rB,s6,I1)=>[]) (fun (rB,s6,I1)=>[.cells A7 159 (au.enc nO), .obj dd (.deferred (some [])), .obj lo (.loop { rec with state:=.busy }),Row I1 159 2 au s6, .cells qB 4 (LB.enc rB), .cells b9 33 ([I1]), .cells b8 159 (au.enc dX), .cells b7 4 (LB.enc false), .cells b6 157 gC, .cells b3 157 cv]) (fun (rB,s6,I1)=>ko I1 s6.length∧FC rB s6 = some r) ?_ ?_
     ·
      refine SC 2 rf ?_
      refine ai rfl (lI (aE.id (L:=LB)) rfl) ?_
      refine SL 3 rf ?_
      refine dN h rf (fun hc h=>?_) fun hc h=>?_
      ·
       obtain ⟨AY,h⟩:=cq h
       obtain ⟨pZ,Ku,h⟩:=cj h
       refine SC 2 rf ?_
       refine ai rfl (bL rfl rfl) ?_
       refine ai rfl (bj (M:=au) (aE.id (L:=au)) rfl rfl) ?_
       refine ef rfl (ki au dX rfl rfl rfl rfl (by decide) (by decide)) (fun Ud _=>?_)
       refine ef rfl (jn (sz:=2) (L:=au) (xs:=ez) (y:=dX) (bytes:=16) rfl rfl rfl (dA AY).1 (dA AY).2) (fun Jv EC=>?_)
       rw [← Ku] at EC; rw [← Ku]
       refine W0 (nf (cs':=[Jv]) [Jv] (aE.id (L:=(pX au))) (v:=pZ) ⟨_,rfl,(Fz.row (e:=159) (sz:=2) (L:=au) (xs:=ez) rfl tJ)⟩ (rv:=(⟨_,rfl,(Fz.row (e:=159) (sz:=2) (L:=au) (xs:=pZ) rfl EC)⟩ : ((pX au)).rep (Hs [Row Jv 159 2 au pZ]) [Jv] pZ)) rfl rfl (Fz.row (e:=159) (sz:=2) (L:=au) (xs:=pZ) rfl EC).sl.cells rfl rfl) ?_
       refine SL 3 rf ?_
       refine W0 (bI (M:=LB) (aE.id (L:=LB)) true true rfl rfl rfl rfl rfl) ?_
       refine rV ?_
       exact CE [1,2,3,4,5,6,7,8,9,10] (true,pZ,Jv) ⟨EC,h⟩ rf rf rf
      ·
       refine kV ?_
       exact CE [0,1,2,3,4,5,6,7,8,9] (eR,ez,w8) ⟨tJ,h⟩ rf rf rf
     ·
      rintro ⟨rB,s6,I1⟩ ⟨OE,h⟩
      replace h:FC rB s6 = some r:=h
      replace h:=Kg O2 h
      obtain ⟨Le,h⟩:=cq h
      obtain ⟨rA,AQ,h⟩:=cj h
      refine nJ ?_
      refine ai rfl (bL rfl rfl) ?_
      refine ai rfl (bj (M:=au) (aE.id (L:=au)) rfl rfl) ?_
      refine ef rfl (ki au nO rfl rfl rfl rfl (by decide) (by decide)) (fun Uc _=>?_)
      refine ef rfl (jn (sz:=2) (L:=au) (xs:=s6) (y:=nO) (bytes:=16) rfl rfl rfl (dA Le).1 (dA Le).2) (fun Ju EB=>?_)
      rw [← AQ] at EB; rw [← AQ]
      refine W0 (nf (cs':=[Ju]) [Ju] (aE.id (L:=(pX au))) (v:=rA) ⟨_,rfl,(Fz.row (e:=159) (sz:=2) (L:=au) (xs:=s6) rfl OE)⟩ (rv:=(⟨_,rfl,(Fz.row (e:=159) (sz:=2) (L:=au) (xs:=rA) rfl EB)⟩ : ((pX au)).rep (Hs [Row Ju 159 2 au rA]) [Ju] rA)) rfl rfl (Fz.row (e:=159) (sz:=2) (L:=au) (xs:=rA) rfl EB).sl.cells rfl rfl) ?_
      refine SL 3 rf ?_
      exact kg sg we hT ⟨rB,rA,dX,Ju⟩ ⟨EB,h⟩ (ks:=[2,3,4,5,6,7,8,9,10]) rfl (by decide)
    ·
     refine o5 ?_
     obtain ⟨Bx,G8,h⟩:=aS h
     refine cK mixed (.gm [] [(0,[12]),(1,[52]),(2,[8]),(3,[54]),(4,[53,55])] (.alt 5 [56] (.fin [] []) .no)) (by kernel_rfl) ?_
     refine T0 ?_
     refine NV rf rf (bj (M:=au) (aE.id (L:=au)) rfl rfl) ?_
     refine NC rf rf (j6 G8) rf ?_
     refine NS 1 rf ?_
     refine NV rf rf (bg fm rfl) ?_
     refine NE 1 rf ?_
     refine XV rf rf (bQ rfl) ?_
     refine oF ?_
     refine kf ?_
     refine dN h rf (fun hc h=>?_) fun hc h=>?_
     ·
      obtain ⟨Fh,Oc,h⟩:=cj h
      refine SC 2 rf ?_
      refine ai rfl (bg fm rfl) ?_
      refine ai rfl (aO rfl) ?_
      refine ai rfl (bg eL rfl) ?_
      refine ai rfl (aO rfl) ?_
      refine ai rfl (bg eL rfl) ?_
      refine ai rfl (uh rfl rfl rfl) ?_
      refine ai rfl (dI (cs:=au.enc Fh) rfl (by rw [Oc]; rfl)) ?_
      refine W0 (bI (M:=au) (aE.id (L:=au)) Fh Fh rfl rfl rfl rfl rfl) ?_
      refine SL 3 rf ?_
      exact kg sg we hT ⟨eR,ez,Fh,w8⟩ ⟨tJ,h⟩ (ks:=[1,2,3,4,5,6,7,8,9]) rfl (by decide)
     ·
      refine o5 ?_
      obtain ⟨sA,Cs,h⟩:=aS h
      refine cK mixed (.gm [] [(0,[12]),(1,[66]),(2,[8]),(3,[68]),(4,[67,69])] (.alt 5 [70] (.fin [] []) .no)) (by kernel_rfl) ?_
      refine T0 ?_
      refine NS 1 rf ?_
      refine NV rf rf (bg fm rfl) ?_
      refine NV rf rf (bj (M:=au) (aE.id (L:=au)) rfl rfl) ?_
      refine NC rf rf (j6 Cs) rf ?_
      refine NE 1 rf ?_
      refine XV rf rf (bQ rfl) ?_
      refine oF ?_
      refine kf ?_
      refine dN h rf (fun hc h=>?_) fun hc h=>?_
      ·
       obtain ⟨IZ,Ob,h⟩:=cj h
       refine SC 2 rf ?_
       refine ai rfl (bg eL rfl) ?_
       refine ai rfl (aO rfl) ?_
       refine ai rfl (bg eL rfl) ?_
       refine SL 2 rf ?_
       refine W0 (bI (M:=(LI .i64)) eL (wr .i64 (dX.N + nO.N)) IZ Ob rfl rfl rfl rfl) ?_
       refine SL 3 rf ?_
       exact kg sg we hT ⟨eR,ez,IZ,w8⟩ ⟨tJ,h⟩ (ks:=[1,2,3,4,5,6,7,8,9]) rfl (by decide)
      ·
       refine SC 2 rf ?_
       refine ai rfl (ae rfl (aL.len _ f0)) ?_
       refine ST (C:=K) a0 (aE.id (L:=cQ)) jg (mo f0) rf rf rf rf rf fun P7 f81=>?_
       refine W0 (bI (M:=LB) (aE.id (L:=LB)) false false rfl rfl rfl rfl rfl) ?_
       refine SL 5 rf ?_
       exact EW hT (.inl ⟨rfl,rfl⟩) ⟨Code.ret,eR,ez,dX,a0,w8,P7⟩ ⟨rfl,tJ,(mo f81),h⟩ (ks:=[1,2,3,4,5,6,7,8,9]) rfl (by decide)
  ·
   rintro EN ⟨eR,ez,dX,w8⟩ ⟨tJ,h⟩
   replace h:sE G1 HV (cI.drop cI.length) eR ez dX = some r:=h
   replace h:=Ko Lj rfl h
   dsimp only [List.cons_append,List.nil_append]
   refine SX 5 rf ?_
   refine ai rfl (lI (aE.id (L:=LB)) rfl) ?_
   refine SL 3 rf ?_
   refine dN h rf (fun hc h=>?_) fun hc h=>?_
   ·
    obtain ⟨Ld,h⟩:=cq h
    obtain ⟨vG,Kt,h⟩:=cj h
    refine nJ ?_
    refine ai rfl (bL rfl rfl) ?_
    refine ai rfl (bj (M:=au) (aE.id (L:=au)) rfl rfl) ?_
    refine ef rfl (ki au dX rfl rfl rfl rfl (by decide) (by decide)) (fun Ub _=>?_)
    refine ef rfl (jn (sz:=2) (L:=au) (xs:=ez) (y:=dX) (bytes:=16) rfl rfl rfl (dA Ld).1 (dA Ld).2) (fun Bk AW=>?_)
    rw [← Kt] at AW; rw [← Kt]
    refine W0 (nf (cs':=[Bk]) [Bk] (aE.id (L:=(pX au))) (v:=vG) ⟨_,rfl,(Fz.row (e:=159) (sz:=2) (L:=au) (xs:=ez) rfl tJ)⟩ (rv:=(⟨_,rfl,(Fz.row (e:=159) (sz:=2) (L:=au) (xs:=vG) rfl AW)⟩ : ((pX au)).rep (Hs [Row Bk 159 2 au vG]) [Bk] vG)) rfl rfl (Fz.row (e:=159) (sz:=2) (L:=au) (xs:=vG) rfl AW).sl.cells rfl rfl) ?_
    obtain ⟨Gb,Oa,h⟩:=cj h
    refine SL 4 rf ?_
    refine ai rfl (bL rfl rfl) ?_
    obtain ⟨Ii,Po,f89⟩ : ∃cc,[Bk] = cc∧(cQ).rep (Hs [Row Bk 159 2 au vG]) cc Gb:=⟨_,rfl,by rw [Oa]; exact ⟨_,rfl,(Fz.row (e:=159) (sz:=2) (L:=au) (xs:=vG) rfl AW).mono kx⟩⟩
    refine ai rfl (dI (cs:=Ii) rfl (by rw [← Po]; first | rfl | (simp [oh,cW,show ∀k i,(Value.int k i).cells = #[Value.int k i] from fun _ _=>rfl,show ∀q,(Value.bool q).cells = #[Value.bool q] from fun _=>rfl,show ∀a,(Value.agg a).cells = a from fun _=>rfl,(Fz.row (e:=159) (sz:=2) (L:=au) (xs:=vG) rfl AW).sl.cells,(Fz.row (e:=159) (sz:=2) (L:=au) (xs:=vG) rfl AW).sl.size]; try rfl))) ?_
    refine ST (C:=(Hs [Row Bk 159 2 au vG])) Gb (aE.id (L:=cQ)) jg (mo f89) rf rf rf rf rf fun P6 f91=>?_
    refine W0 (bI (M:=LB) (aE.id (L:=LB)) true true rfl rfl rfl rfl rfl) ?_
    refine SL 3 rf ?_
    have h:=sj h; subst h
    refine bH (R:=[Row Bk 159 2 au vG]) (H':=[.obj EN (.deferred (some [])), .cells b7 4 (LB.enc true), .cells b6 157 P6]) (ks:=[3,1,7,8]) rfl (by decide) ?_
    have R1:(cQ).rep (fun w=>K w∧(Hs [.ext (bN [Row Bk 159 2 au vG]) (Hs [Row Bk 159 2 au vG])]) w) P6 Gb:=aL.mono _ kx f91
    exact kU (.tuple #[A P6, .bool true],bN [Row Bk 159 2 au vG],Hs [Row Bk 159 2 au vG]) rfl (.agg rfl inferInstance inferInstance (aL.len _ f91) (.one rfl inferInstance inferInstance rfl .nil)) ⟨_,rfl,R1⟩ rfl (ks:=[0]) rfl (by decide)
   ·
    obtain ⟨uo,G5,h⟩:=cj h
    refine SC 4 rf ?_
    refine ai rfl (bL rfl rfl) ?_
    obtain ⟨S0,Pm,f95⟩ : ∃cc,[w8] = cc∧(cQ).rep (Hs [Row w8 159 2 au ez]) cc uo:=⟨_,rfl,by rw [G5]; exact ⟨_,rfl,(Fz.row (e:=159) (sz:=2) (L:=au) (xs:=ez) rfl tJ).mono kx⟩⟩
    refine ai rfl (dI (cs:=S0) rfl (by rw [← Pm]; first | rfl | (simp [oh,cW,show ∀k i,(Value.int k i).cells = #[Value.int k i] from fun _ _=>rfl,show ∀q,(Value.bool q).cells = #[Value.bool q] from fun _=>rfl,show ∀a,(Value.agg a).cells = a from fun _=>rfl,(Fz.row (e:=159) (sz:=2) (L:=au) (xs:=ez) rfl tJ).sl.cells,(Fz.row (e:=159) (sz:=2) (L:=au) (xs:=ez) rfl tJ).sl.size]; try rfl))) ?_
    refine ST (C:=(Hs [Row w8 159 2 au ez])) uo (aE.id (L:=cQ)) jg (mo f95) rf rf rf rf rf fun L5 f97=>?_
    refine W0 (bI (M:=LB) (aE.id (L:=LB)) true true rfl rfl rfl rfl rfl) ?_
    refine SL 3 rf ?_
    have h:=sj h; subst h
    refine bH (R:=[Row w8 159 2 au ez]) (H':=[.obj EN (.deferred (some [])), .cells b7 4 (LB.enc true), .cells b6 157 L5]) (ks:=[2,0,6,7]) rfl (by decide) ?_
    have RZ:(cQ).rep (fun w=>K w∧(Hs [.ext (bN [Row w8 159 2 au ez]) (Hs [Row w8 159 2 au ez])]) w) L5 uo:=aL.mono _ kx f97
    exact kU (.tuple #[A L5, .bool true],bN [Row w8 159 2 au ez],Hs [Row w8 159 2 au ez]) rfl (.agg rfl inferInstance inferInstance (aL.len _ f97) (.one rfl inferInstance inferInstance rfl .nil)) ⟨_,rfl,RZ⟩ rfl (ks:=[0]) rfl (by decide)
  ·
   rintro EN j ⟨jK,sP,p4,Jr,Gl,Ik⟩ ⟨rfl,KN,f53,h⟩
   dsimp only [List.cons_append,List.nil_append]
   refine SC 3 rf ?_
   have h:=sj h; subst h
   refine bH (R:=[]) (H':=[.obj EN (.deferred (some [])), .cells b7 4 (LB.enc false), .cells b6 157 Ik]) (ks:=[0,6,7]) rfl (by decide) ?_
   have RY:(cQ).rep (fun w=>K w∧(Hs [.ext (bN []) (Hs [])]) w) Ik Jr:=aL.mono _ kx f53
   exact kU (.tuple #[A Ik, .bool false],bN [],Hs []) rfl (.agg rfl inferInstance inferInstance (aL.len _ f53) (.one rfl inferInstance inferInstance rfl .nil)) ⟨_,rfl,RY⟩ rfl (ks:=[0]) rfl (by decide)
end Go.Proofs.YtmdpbdhkmfjlhaaGreat
namespace Go.Proofs.YtmdpbdhkmfjlhaaGreat
open Go Go.Bw
structure dL where
 bS:(List aZ)
 r5:Int
abbrev dJ:aL dL:=aL.via (LP (pX au) (LI .i64)) (fun x=>(x.bS,x.r5))
abbrev eY:dL:=⟨[],0⟩
def gT:List Value:=[.slice none 0 0]++([.int .i64 0])
theorem jh {A:World→Prop}:dJ.rep A gT eY:=⟨_,_,rfl,⟨_,rfl,Fz.nil⟩,rfl⟩
theorem lz:aE dJ (pX au) 0 (fun x=>x.bS) (fun x v=>{ x with bS:=v }):=(aE.fst aE.id).via _ _ _ 0 rfl (fun _=>rfl) (fun _ _=>rfl)
theorem lQ:aE dJ (LI .i64) 1 (fun x=>x.r5) (fun x v=>{ x with r5:=v }):=(aE.snd aE.id).via _ _ _ 1 rfl (fun _=>rfl) (fun _ _=>rfl)
def gI (n:Nat) (a0:dL):Option dL:=
 some a0
theorem n4 {n a0 r K} [bn K] {cv} (f0:(dJ).rep K cv a0) (h:gI n a0 = some r):Bw.Fn (α:=Nat × List Value) Tryz.prog 97 [A cv] K [] (fun (b0,c0)=>(dJ).rep K c0 r) (fun (b0,c0)=>.func (.func 101) #[] #[Ptr b0 0]) (fun (b0,c0)=>[.cells b0 35 c0]):=by
 unfold gI at h
 refine fo Tryz.func97 (by kernel_rfl) rfl Tryz.ntmps97 rfl fun cx _ hro cZ hpre=>?_
 refine SC 2 rf ?_
 refine W1 rf (aV rfl) fun b1=>?_
 refine SL 10 rf ?_
 have h:=sj h; subst h
 exact dF ⟨b1,cv⟩ rfl (.tmp rfl .nil) (mo f0) rfl (ks:=[0]) rfl (by decide)
def eJ (n:Nat) (a1:dL):Option (List (Int × aZ)):=
 c9 (fun NZ (cI:Int) (dj:Int) =>
 cn (decide (dj < (a1.bS.length:Int))) (
 gu (dO dj a1.bS.length) <|
 lt ((a1.bS.getD (Int.toNat dj) default):aZ) fun dX =>
 yl (cI,dX) <|
 NZ (wr .i64 (cI + (wr .i64 (dX.N * 32)))) (wr .i64 (dj + 1))) (
 some [])) n 0 0
theorem mM {n:Nat} {a1:dL} {l:List (Int × aZ)} {K:World→Prop} {q1:Nat} {fq:List Value} (f1:(dJ).rep K fq a1) (h:eJ n a1 = some l):Aq Tryz.prog 101 [Ptr q1 0] [.cells q1 35 fq] K (fun k=>[.int .i64 ((l.getD k default).1), .agg (au.enc ((l.getD k default).2)).toArray]) l.length:=by
 unfold eJ at h
 refine ⟨fun y J Jx bs=>fI Tryz.func101 (by kernel_rfl) rfl Tryz.ntmps101 rfl (fun cx cZ hpre hro=>?_)⟩
 haveI:=jA (show cx.bs = bs++bN [.cells q1 35 fq] from cZ) hpre.1
 have hR:F3 Tryz.prog y cx.bs cx.w0 J Jx (fun k=>[.int .i64 ((l.getD k default).1), .agg (au.enc ((l.getD k default).2)).toArray]) l.length:=by rw [show cx.bs = bs++bN [.cells q1 35 fq] from cZ]; exact hpre.2
 have HJ:l.drop 0 = l:=rfl
 have Hu:0 ≤ l.length:=Nat.zero_le _
 refine SC 8 rf ?_
 obtain ⟨Bn,uI,f22⟩:=lz.sl f1
 refine ai rfl (bL rfl uI) ?_
 refine ai rfl (dg f22 rfl) ?_
 refine SL 4 rf ?_
 obtain ⟨NP,K3,h⟩:=kC h
 refine LO (β:=Int × Int × Nat × (List (Int × aZ)) × (List Nat)) [0,7,8] [0,1] (fun (J1,cI,dj,ny,JM,wv)=>[(3, .int .i64 cI),(9, .int .i64 dj)]) (fun (J1,cI,dj,ny,JM,wv)=>[.ext wv (J ny wv), .cells q1 35 fq]) (fun (J1,cI,dj,ny,JM,wv)=>l.drop ny = JM∧ny ≤ l.length∧c9 NP J1 cI dj = some JM) (n,0,0,0,l,bs) ⟨HJ,Hu,h⟩ rf rf rf ?_
 rintro J1 ⟨cI,dj,ny,JM,wv⟩ ⟨Lp,O0,h⟩
 replace h:=kB K3 h; obtain ⟨J1,rfl,h⟩:=h
 refine SC 6 rf ?_
 refine dN h rf (fun hc h=>?_) fun hc h=>?_
 ·
  obtain ⟨oV,h⟩:=cq h
  obtain ⟨dX,qL,h⟩:=cj h
  refine SC 6 rf ?_
  refine ai rfl (cM (m:=(Int.toNat dj)) f22 rfl rfl rfl (az oV).1 (az oV).2) ?_
  refine ai rfl (pC (M:=au) f22 (aE.idx (L:=au) (m:=(a1.bS.length)) (k:=2) ((Int.toNat dj)) (az oV).2 rfl) rfl rfl (by decide)) ?_
  refine W1 rf (bu (L:=au) (z:=jJ) ⟨by kernel_rfl⟩) fun b5=>?_
  refine W0 (bI (M:=au) (aE.id (L:=au)) (a1.bS.getD (Int.toNat dj) default) dX qL rfl rfl rfl rfl) ?_
  refine SL 4 rf ?_
  obtain ⟨Nx,Hp,h⟩:=DY h
  obtain ⟨Ht,AZ,HI,Hr⟩:=drop_cons (Lp.trans Hp)
  refine SC 3 rf ?_
  refine ai rfl (bj (M:=au) (aE.id (L:=au)) rfl rfl) ?_
  refine ef rfl (rq (bs:=wv) hR Ht hro rfl (show rO _ _ = some [.int .i64 ((l.getD ny default).1), .agg (au.enc ((l.getD ny default).2)).toArray] by rw [AZ]; rfl)) (fun ⟨CX,zj⟩ _=>?_)
  refine SL 3 rf ?_
  refine vB rfl (fun hc=>?_) (fun hc=>?_)
  ·
   obtain rfl:CX = false:=by simpa using hc
   dsimp only [cond_true,cond_false]
   refine SC 6 rf ?_
   exact dF (false,zj) rfl .nil trivial rfl (ks:=[1,2]) rfl (by decide)
  ·
   obtain rfl:CX = true:=by simpa using hc
   dsimp only [cond_true,cond_false]
   refine SC 5 rf ?_
   refine ai rfl (bg eL rfl) ?_
   refine SL 10 rf ?_
   exact LN [1,2] (wr .i64 (cI + (wr .i64 (dX.N * 32))),wr .i64 (dj + 1),ny + 1,Nx,zj) ⟨HI,Hr,h⟩ rf rf rf
 ·
  refine SC 4 rf ?_
  have h:=sj h; subst h
  have PV:=drop_nil Lp O0
  refine sW (ks:=[0,1]) (H':=[.ext wv (J (ny) wv), .cells q1 35 fq]) rfl (by decide) ?_
  refine sX (J:=J) (n:=l.length) PV ?_
  exact wN (true,wv) rfl .nil trivial rfl (ks:=[0,1]) rfl (by decide)
def fR (n:Nat) (a0:dL):Option Int:=
 bd (gI n a0) fun aM =>
 bd (eJ n aM) fun fF =>
 gn (fun (EM:Int × aZ) Et (dQ:Int) =>
 lt (EM.1:Int) fun jR =>
 lt (EM.2:aZ) fun cT =>
 lt (wr .i64 (dQ + cT.N):Int) fun gq =>
 Et gq) (fun (dQ:Int) =>
 some dQ) fF 0
theorem oD {n a0 r K} [bn K] {cv} (f0:(dJ).rep K cv a0) (h:fR n a0 = some r):pD Tryz.prog 86 [A cv] K (.int .i64 r):=by
 unfold fR at h
 refine fo Tryz.func86 (by kernel_rfl) rfl Tryz.ntmps86 rfl fun cx _ hro cZ hpre=>?_
 refine SC 2 rf ?_
 refine W1 rf (aV rfl) fun b1=>?_
 refine SL 5 rf ?_
 refine W1 rf (bu (L:=(LI .i64)) (z:=0) ⟨by kernel_rfl⟩) fun b3=>?_
 refine W0 (bI (M:=(LI .i64)) (aE.id (L:=(LI .i64))) 0 0 rfl rfl rfl rfl rfl) ?_
 obtain ⟨aM,bX,h⟩:=aS h
 refine SL 5 rf ?_
 refine ai rfl (ae rfl (aL.len _ f0)) ?_
 refine ef rfl (eK (n4 (K:=K) (mo f0) bX) rfl kn) (fun ⟨Tg,C7⟩ f24=>?_)
 replace f24:(dJ).rep K C7 aM:=f24
 dsimp only [List.cons_append,List.nil_append]
 refine SL 3 rf ?_
 obtain ⟨fF,nD,h⟩:=aS h
 obtain ⟨yW,CL,zi,CR,h⟩:=tF h
 refine nK (K:=K) (α:=Int) (β:=Unit) hro rfl (mM (K:=K) (mo f24) nD) (fun _=>rfl) rfl (fun nA=>fun dQ=>gn yW zi (fF.drop nA) dQ = some r) (fun nA=>fun dQ=>[.cells b3 3 ((LI .i64).enc dQ), .cells b1 35 cv]) (fun _ _=>False) (fun _=>[]) 0 h (ks:=[0,1,2]) rfl (by decide) ?_ ?_ ?_
 ·
  rintro nA dQ lo dd rec c' hk h sg we qh hsi hT
  replace h:gn yW zi (fF.drop nA) dQ = some r:=h
  replace h:=tD CL hk h
  haveI:=oP (K:=K) hsi
  dsimp only [sC]
  obtain ⟨jR,oU,h⟩:=cj h
  rw [← oU]
  obtain ⟨cT,qd,h⟩:=cj h
  rw [← qd]
  refine nJ ?_
  refine W1 rf (bu (L:=au) (z:=jJ) ⟨by kernel_rfl⟩) fun b5=>?_
  refine W0 (bI (M:=au) (aE.id (L:=au)) cT cT rfl rfl rfl rfl rfl) ?_
  refine rV ?_
  refine lp sg qh ?_
  obtain ⟨gq,mj,h⟩:=cj h
  refine SC 2 rf ?_
  refine ai rfl (bg (aE.id (L:=(LI .i64))) rfl) ?_
  refine ai rfl (aO rfl) ?_
  refine ai rfl (bg eL rfl) ?_
  refine ai rfl (uh rfl rfl rfl) ?_
  refine W0 (bI (M:=(LI .i64)) (aE.id (L:=(LI .i64))) (wr .i64 (dQ + cT.N)) gq mj rfl rfl rfl rfl) ?_
  refine SL 2 rf ?_
  exact kg sg we hT gq h (ks:=[1,2,3,4]) rfl (by decide)
 ·
  rintro P2 dQ h
  replace h:gn yW zi (fF.drop fF.length) dQ = some r:=h
  replace h:=tE CR rfl h
  dsimp only [List.cons_append,List.nil_append]
  refine SX 4 rf ?_
  refine ai rfl (bg (aE.id (L:=(LI .i64))) rfl) ?_
  refine SL 4 rf ?_
  have h:=sj h; subst h
  exact kU () rfl (.tmp rfl .nil) trivial rfl (ks:=[]) rfl (by decide)
 ·
  intro dd j i hf; exact hf.elim
def fJ (n:Nat) (a0:dL):Option Bool:=
 c9 (fun N0 (dV:Int) (jR:dm) =>
 cn (decide (dV < (a0.bS.length:Int))) (
 gu (dO dV a0.bS.length) <|
 lt ((a0.bS.getD (Int.toNat dV) default):aZ) fun gl =>
 bd (iP n jR gl.At gl.N) fun dX =>
 cn ((!dX.2)) (
 some false) (
 N0 (wr .i64 (dV + 1)) dX.1)) (
 cl ((decide (0 ≤ a0.r5)) == true) (fR n a0) default fun Qp =>
 some (decide (0 ≤ a0.r5) && decide (a0.r5 ≤ (wr .i64 (Qp * 32)))))) n 0 lg
theorem pK {n a0 r K} [bn K] {cv} (f0:(dJ).rep K cv a0) (h:fJ n a0 = some r):pD Tryz.prog 71 [A cv] K (.bool r):=by
 unfold fJ at h
 refine fo Tryz.func71 (by kernel_rfl) rfl Tryz.ntmps71 rfl fun cx _ hro cZ hpre=>?_
 refine SC 2 rf ?_
 refine W1 rf (aV rfl) fun b1=>?_
 refine SL 5 rf ?_
 refine W1 rf (bz (hz:=(⟨by kernel_rfl⟩ : cA Tryz.prog 157 gC))) fun b3=>?_
 refine SL 6 rf ?_
 obtain ⟨Bn,uI,f22⟩:=lz.sl f0
 refine ai rfl (bL rfl uI) ?_
 refine ai rfl (dg f22 rfl) ?_
 refine SL 4 rf ?_
 obtain ⟨GV,CI,h⟩:=kC h
 refine lX ?_
 refine LO (β:=Int × dm × (List Value) × (List Nat) × (World→Prop)) [1,3,9,10] [0,1,2] (fun (Cg,dV,jR,DS,n5,w7)=>[(11, .int .i64 dV)]) (fun (Cg,dV,jR,DS,n5,w7)=>[.ext n5 w7, .cells b3 157 DS, .cells b1 35 cv]) (fun (Cg,dV,jR,DS,n5,w7)=>(cQ).rep (Hs [.ext n5 w7]) DS jR∧c9 GV Cg dV jR = some r) (n,0,lg,gC,[],(Hs [])) ⟨(aL.mono _ kx (show (cQ).rep (Hs []) gC lg from jg)),h⟩ rf rf rf ?_
 rintro Cg ⟨dV,jR,DS,n5,w7⟩ ⟨f35,h⟩
 replace h:=kB CI h; obtain ⟨Cg,rfl,h⟩:=h
 refine SC 6 rf ?_
 refine dN h rf (fun hc h=>?_) fun hc h=>?_
 ·
  obtain ⟨jv,h⟩:=cq h
  obtain ⟨gl,m7,h⟩:=cj h
  refine SC 6 rf ?_
  refine ai rfl (cM (m:=(Int.toNat dV)) f22 rfl rfl rfl (az jv).1 (az jv).2) ?_
  refine ai rfl (pC (M:=au) f22 (aE.idx (L:=au) (m:=(a0.bS.length)) (k:=2) ((Int.toNat dV)) (az jv).2 rfl) rfl rfl (by decide)) ?_
  refine W1 rf (bu (L:=au) (z:=jJ) ⟨by kernel_rfl⟩) fun b5=>?_
  refine W0 (bI (M:=au) (aE.id (L:=au)) (a0.bS.getD (Int.toNat dV) default) gl m7 rfl rfl rfl rfl) ?_
  obtain ⟨dX,qL,h⟩:=aS h
  refine SL 4 rf ?_
  refine ai rfl (ae rfl (aL.len _ f35)) ?_
  refine ai rfl (aO rfl) ?_
  refine ai rfl (bg fm rfl) ?_
  refine ai rfl (aO rfl) ?_
  refine ai rfl (bg eL rfl) ?_
  refine CB (rQ (K:=(Hs [.ext n5 w7])) (mo f35) qL) rf rf ?_
  rintro TQ nI vF ⟨yb,rfl,f46⟩
  replace f46:(cQ).rep (fun w=>(Hs [.ext n5 w7]) w∧Hs [.ext nI vF] w) yb dX.1:=f46
  refine SL 3 rf ?_
  refine W1 rf (bz (hz:=(⟨by kernel_rfl⟩ : cA Tryz.prog 157 gC))) fun b6=>?_
  refine ST (C:=(Hs [.ext n5 w7, .ext nI vF])) dX.1 (aE.id (L:=cQ)) jg (mo f46) rf rf rf rf rf fun L9 f49=>?_
  refine SL 10 rf ?_
  refine dN h rf (fun hc h=>?_) fun hc h=>?_
  ·
   refine SC 12 rf ?_
   have h:=sj h; subst h
   exact RV rf (rt rf rn) rf
  ·
   refine SC 3 rf ?_
   refine ai rfl (ae rfl (aL.len _ f49)) ?_
   refine ST (C:=(Hs [.ext n5 w7, .ext nI vF])) dX.1 (aE.id (L:=cQ)) (mo f35) (mo f49) rf rf rf rf rf fun Jc f51=>?_
   refine SL 7 rf ?_
   refine bH (R:=[.ext nI vF, .ext n5 w7]) (H':=[.cells b6 157 L9, .cells b5 159 (au.enc gl), .cells b3 157 Jc, .cells b1 35 cv]) (ks:=[1,3,0,2,4,5]) rfl (by decide) ?_
   exact LN [0,3,4] (wr .i64 (dV + 1),dX.1,Jc,(bN [.ext nI vF, .ext n5 w7]),(Hs [.ext nI vF, .ext n5 w7])) ⟨(mo f51),h⟩ rf rf rf
 ·
  refine SC 6 rf ?_
  obtain ⟨Qp,Oo,_,h⟩:=gQ h
  refine cK mixed (.gm [] [(0,[1]),(1,[28]),(2,[29]),(3,[30]),(4,[1,31]),(5,[31,32]),(6,[1,31]),(7,[31,34]),(8,[31,35]),(9,[31,33,36]),(10,[31,37])] (.alt 11 [38] (.fin [] []) .no)) (by kernel_rfl) ?_
  refine T0 ?_
  refine NS 1 rf ?_
  refine NV rf rf (bL rfl (lQ.int f0)) ?_
  refine NS 2 rf ?_
  refine NG rf rf (cY rfl rfl) (fun hb=>aO rfl) ?_
  refine NG rf rf (cY rfl rfl) (fun hb=>bL (bC rfl hb) (lQ.int f0)) ?_
  refine NG rf rf (cY rfl rfl) (fun hb=>ae rfl (aL.len _ f0)) ?_
  refine NG rf rf (cY rfl rfl) (fun hb=>ck (oD (K:=K) (mo f0) (Oo hb)) (aB (bC rfl hb) rfl) kn) ?_
  refine NG rf rf (cY rfl rfl) (fun hb=>zE (bC rfl hb) rfl rfl) ?_
  refine NG rf rf (cY rfl rfl) (fun hb=>o6 (bC rfl hb) (bC rfl hb)) ?_
  refine NV rf rf (bV rfl rfl) ?_
  refine aP ?_
  refine XV rf rf (bQ rfl) ?_
  refine oF ?_
  refine SX 2 rf ?_
  have h:=sj h; subst h
  exact RV rf (rt rf rn) rf
structure jY where
 bS:(List (Nat→Int))
 r5:Int
abbrev g9:aL jY:=aL.via (LP (pX (LA (LI .i64) 2)) (LI .i64)) (fun x=>(x.bS,x.r5))
abbrev dw:jY:=⟨[],0⟩
def iw:List Value:=[.slice none 0 0]++([.int .i64 0])
theorem jy {A:World→Prop}:g9.rep A iw dw:=⟨_,_,rfl,⟨_,rfl,Fz.nil⟩,rfl⟩
theorem ju:aE g9 (pX (LA (LI .i64) 2)) 0 (fun x=>x.bS) (fun x v=>{ x with bS:=v }):=(aE.fst aE.id).via _ _ _ 0 rfl (fun _=>rfl) (fun _ _=>rfl)
theorem mJ:aE g9 (LI .i64) 1 (fun x=>x.r5) (fun x v=>{ x with r5:=v }):=(aE.snd aE.id).via _ _ _ 1 rfl (fun _=>rfl) (fun _ _=>rfl)
def dK (n:Nat) (a0:jY):Option Bool:=
 nv (fun Er (dB:Int) (cH:Int) (dQ:(Nat→Bool)) =>
 cn (decide (cH < (a0.bS.length:Int))) (
 gu (dO cH a0.bS.length) <|
 gu (dO cH a0.bS.length) <|
 cn (((((decide (((a0.bS.getD (Int.toNat cH) default) 1) < 1) || decide (64 < ((a0.bS.getD (Int.toNat cH) default) 1))) || decide (((a0.bS.getD (Int.toNat cH) default) 0) < 0)) || decide (63 < ((a0.bS.getD (Int.toNat cH) default) 0))) || decide (64 < (wr .i64 (((a0.bS.getD (Int.toNat cH) default) 0) + ((a0.bS.getD (Int.toNat cH) default) 1)))))) (
 some false) (
 c9 (fun Ka (hY:Int) (pE:(Nat→Bool)) =>
 cn (decide (hY < (wr .i64 (((a0.bS.getD (Int.toNat cH) default) 0) + ((a0.bS.getD (Int.toNat cH) default) 1))))) (
 gu (dO hY 64) <|
 cn ((pE (Int.toNat hY))) (
 some false) (
 gu (dO hY 64) <|
 lt ((eG pE (Int.toNat hY) true):(Nat→Bool)) fun p4 =>
 Ka (wr .i64 (hY + 1)) p4)) (
 Er (wr .i64 (dB + ((a0.bS.getD (Int.toNat cH) default) 1))) (wr .i64 (cH + 1)) pE)) n ((a0.bS.getD (Int.toNat cH) default) 0) dQ)) (
 some (decide (0 ≤ a0.r5) && decide (a0.r5 ≤ (wr .i64 (32 * dB)))))) n 0 0 (fun _=>false)
theorem qq {n a0 r K} [bn K] {cv} (f0:(g9).rep K cv a0) (h:dK n a0 = some r):pD Tryz.prog 72 [A cv] K (.bool r):=by
 unfold dK at h
 refine fo Tryz.func72 (by kernel_rfl) rfl Tryz.ntmps72 rfl fun cx _ hro cZ hpre=>?_
 refine SC 2 rf ?_
 refine W1 rf (aV rfl) fun b1=>?_
 refine SL 5 rf ?_
 refine W1 rf (bu (L:=(LA LB 64)) (z:=(fun _=>false)) ⟨by kernel_rfl⟩) fun b3=>?_
 refine SL 14 rf ?_
 obtain ⟨NR,K5,h⟩:=Ci h
 refine LO (β:=Int × Int × (Nat→Bool)) [1,3] [0,1] (fun (J3,dB,cH,dQ)=>[(4, .int .i64 dB),(5, .int .i64 cH)]) (fun (J3,dB,cH,dQ)=>[.cells b3 163 ((LA LB 64).enc dQ), .cells b1 47 cv]) (fun (J3,dB,cH,dQ)=>nv NR J3 dB cH dQ = some r) (n,0,0,(fun _=>false)) h rf rf rf ?_
 rintro J3 ⟨dB,cH,dQ⟩ h
 replace h:=Ch K5 h; obtain ⟨J3,rfl,h⟩:=h
 refine SC 5 rf ?_
 obtain ⟨lN,Ot,f33⟩:=ju.sl f0
 refine ai rfl (bL rfl Ot) ?_
 refine ai rfl (dg f33 rfl) ?_
 refine SL 3 rf ?_
 refine dN h rf (fun hc h=>?_) fun hc h=>?_
 ·
  refine SC 5 rf ?_
  obtain ⟨pH,h⟩:=cq h
  obtain ⟨jv,h⟩:=cq h
  refine cK mixed (.gm [] [(0,[1]),(1,[16]),(2,[5]),(3,[17,18]),(4,[19]),(5,[20]),(6,[1]),(7,[22]),(8,[5]),(9,[23,24]),(10,[25]),(11,[26])] (.alt 12 [21] (.gm [(6,[1]),(7,[22]),(8,[5]),(9,[23,24]),(10,[25]),(11,[26])] [] (.alt 13 [27] (.fin [] []) .no)) .no)) (by kernel_rfl) ?_
  refine T0 ?_
  refine NS 1 rf ?_
  obtain ⟨RP,Oq,f35⟩:=ju.sl f0
  refine NV rf rf (bL rfl Oq) ?_
  refine NS 1 rf ?_
  refine NV rf rf (cM (m:=(Int.toNat cH)) f35 rfl rfl rfl (az pH).1 (az pH).2) ?_
  refine NV rf rf (zF (m:=0) f35 rfl rfl (az pH).2 rfl (by decide)) ?_
  refine NV rf rf (cN f35 ((aE.idx (L:=(LA (LI .i64) 2)) (m:=(a0.bS.length)) (k:=2) ((Int.toNat cH)) (az pH).2 rfl).comp (aE.idx (L:=(LI .i64)) (m:=2) (k:=1) (0) (by decide) rfl)) rfl) ?_
  refine NS 1 rf ?_
  obtain ⟨Fp,KJ,f38⟩:=ju.sl f0
  refine NV rf rf (bL rfl KJ) ?_
  refine NS 1 rf ?_
  refine NV rf rf (cM (m:=(Int.toNat cH)) f38 rfl rfl rfl (az jv).1 (az jv).2) ?_
  refine NV rf rf (zF (m:=1) f38 rfl rfl (az jv).2 rfl (by decide)) ?_
  refine NV rf rf (cN f38 ((aE.idx (L:=(LA (LI .i64) 2)) (m:=(a0.bS.length)) (k:=2) ((Int.toNat cH)) (az jv).2 rfl).comp (aE.idx (L:=(LI .i64)) (m:=2) (k:=1) (1) (by decide) rfl)) rfl) ?_
  refine aP ?_
  refine XV rf rf (bQ rfl) ?_
  refine di ?_ ?_
  ·
   refine uw 1 rf rf ?_
   refine RO rf rf (bL rfl KJ) rf ?_
   refine uw 1 rf rf ?_
   refine RO rf rf (cM (m:=(Int.toNat cH)) f38 rfl rfl rfl (az jv).1 (az jv).2) rf ?_
   refine RO rf rf (zF (m:=1) f38 rfl rfl (az jv).2 rfl (by decide)) rf ?_
   refine RO rf rf (cN f38 ((aE.idx (L:=(LA (LI .i64) 2)) (m:=(a0.bS.length)) (k:=2) ((Int.toNat cH)) (az jv).2 rfl).comp (aE.idx (L:=(LI .i64)) (m:=2) (k:=1) (1) (by decide) rfl)) rfl) rf ?_
   exact fD
  refine aP ?_
  refine XV rf rf (bQ rfl) ?_
  refine oF ?_
  refine SX 7 rf ?_
  refine GB rf rf rf (fun hb=>ak rfl) ?_
  refine GB rf rf rf (fun hb=>nc (bC rfl hb) rfl) ?_
  refine ai rfl (eF rfl rfl) ?_
  refine ai rfl (ak rfl) ?_
  refine GB rf rf rf (fun hb=>ak rfl) ?_
  refine GB rf rf rf (fun hb=>rX (bC rfl hb) rfl) ?_
  refine ai rfl (eF rfl rfl) ?_
  refine ai rfl (ak rfl) ?_
  refine GB rf rf rf (fun hb=>ak rfl) ?_
  refine GB rf rf rf (fun hb=>nc (bC rfl hb) rfl) ?_
  refine ai rfl (eF rfl rfl) ?_
  refine ai rfl (ak rfl) ?_
  refine GB rf rf rf (fun hb=>ak rfl) ?_
  refine GB rf rf rf (fun hb=>ak rfl) ?_
  refine GB rf rf rf (fun hb=>uh (bC rfl hb) (bC rfl hb) rfl) ?_
  refine GB rf rf rf (fun hb=>nc (bC rfl hb) rfl) ?_
  refine ai rfl (eF rfl rfl) ?_
  refine SL 2 rf ?_
  refine dN h rf (fun hc h=>?_) fun hc h=>?_
  ·
   refine SC 12 rf ?_
   have h:=sj h; subst h
   exact RV rf (rt rf rn) rf
  ·
   refine SC 10 rf ?_
   obtain ⟨GR,CG,h⟩:=kC h
   refine LO (β:=Int × (Nat→Bool)) [1,3,4,5,6,7] [0,1] (fun (Cd,hY,pE)=>[(8, .int .i64 hY)]) (fun (Cd,hY,pE)=>[.cells b3 163 ((LA LB 64).enc pE), .cells b1 47 cv]) (fun (Cd,hY,pE)=>c9 GR Cd hY pE = some r) (n,((a0.bS.getD (Int.toNat cH) default) 0),dQ) h rf rf rf ?_
   rintro Cd ⟨hY,pE⟩ h
   replace h:=kB CG h; obtain ⟨Cd,rfl,h⟩:=h
   refine SC 10 rf ?_
   refine dN h rf (fun hc h=>?_) fun hc h=>?_
   ·
    obtain ⟨za,h⟩:=cq h
    refine SC 8 rf ?_
    refine ai rfl (fK (m:=(Int.toNat hY)) rfl rfl (az za).1 (az za).2) ?_
    refine ai rfl (lI (aE.idx (L:=LB) (m:=64) (k:=1) ((Int.toNat hY)) (az za).2 rfl) rfl) ?_
    refine SL 2 rf ?_
    refine dN h rf (fun hc h=>?_) fun hc h=>?_
    ·
     refine SC 17 rf ?_
     have h:=sj h; subst h
     exact RV rf (rt rf rn) rf
    ·
     obtain ⟨y9,h⟩:=cq h
     obtain ⟨p4,yX,h⟩:=cj h
     refine SC 4 rf ?_
     refine ai rfl (fK (m:=(Int.toNat hY)) rfl rfl (az y9).1 (az y9).2) ?_
     refine W0 (bI (M:=LB) (aE.idx (L:=LB) (m:=64) (k:=1) ((Int.toNat hY)) (az y9).2 rfl) true p4 yX rfl rfl rfl rfl) ?_
     refine SL 8 rf ?_
     exact LN [0,1] (wr .i64 (hY + 1),p4) h rf rf rf
   ·
    refine SC 18 rf ?_
    exact LN [0,1] (wr .i64 (dB + ((a0.bS.getD (Int.toNat cH) default) 1)),wr .i64 (cH + 1),pE) h rf rf rf
 ·
  refine SC 8 rf ?_
  refine ai rfl (bL rfl (mJ.int f0)) ?_
  refine SL 2 rf ?_
  refine GB rf rf rf (fun hb=>aO rfl) ?_
  refine GB rf rf rf (fun hb=>bL (bC rfl hb) (mJ.int f0)) ?_
  refine GB rf rf rf (fun hb=>ak rfl) ?_
  refine GB rf rf rf (fun hb=>zE rfl (bC rfl hb) rfl) ?_
  refine GB rf rf rf (fun hb=>o6 (bC rfl hb) (bC rfl hb)) ?_
  refine ai rfl (bV rfl rfl) ?_
  refine SL 4 rf ?_
  have h:=sj h; subst h
  exact RV rf (rt rf rn) rf
end Go.Proofs.YtmdpbdhkmfjlhaaGreat
namespace Go.Proofs.YtmdpbdhkmfjlhaaGreat
open Go Go.Bw
abbrev Rn:=aZ
structure Can (l:List Rn):Prop where
  jO:∀y ∈ l,0 ≤ y.At∧1 ≤ y.N∧y.At + y.N ≤ 64
  pw:l.Pairwise fun y z=>y.At + y.N < z.At
def ep (l:List Rn) (p:Int):Prop:=∃y ∈ l,y.At ≤ p∧p < y.At + y.N
def yx (at_ k:Int):Prop:=1 ≤ k∧0 ≤ at_∧at_ + k ≤ 64
instance (a k:Int):Decidable (yx a k):=by unfold yx; infer_instance
def DW (x:Int):Prop:=-9223372036854775808 ≤ x∧x ≤ 9223372036854775807
theorem Can.nil:Can []:=⟨by simp, .nil⟩
theorem x7:∀{l:List Rn} {lo:Int},Can l→(∀y ∈ l,lo ≤ y.At)→lo ≤ 65→(l.length:Int) * 2 ≤ 65 - lo
  | [],lo,_,_,h=>by simp; omega
  | y::r,lo,h,hl,_=>by
    obtain ⟨h1,h2⟩:=List.pairwise_cons.1 h.pw
    have hy:=h.jO y (by simp)
    have hy':=hl y (by simp)
    have:=x7 (l:=r) (lo:=y.At + y.N + 1) ⟨fun z hz=>h.jO z (by simp [hz]),h2⟩ (fun z hz=>by have:=h1 z hz; omega) (by omega)
    simp only [List.length_cons]; omega
theorem Can.len {l:List Rn} (h:Can l):l.length ≤ 32:=by
  have:=x7 (lo:=0) h (fun y hy=>(h.jO y hy).1) (by omega)
  omega
theorem Can.two {l:List Rn} (h:Can l) {y z:Rn} (hy:y ∈ l) (hz:z ∈ l):y = z∨y.At + y.N < z.At∨z.At + z.N < y.At:=by
  have:=h.pw
  clear h
  induction l with
  | nil=>simp at hy
  | cons x r ih =>
    obtain ⟨h1,h2⟩:=List.pairwise_cons.1 this
    rcases List.mem_cons.1 hy with rfl | hy' <;> rcases List.mem_cons.1 hz with rfl | Qx
    · exact .inl rfl
    · exact .inr (.inl (h1 z Qx))
    · exact .inr (.inr (h1 y hy'))
    · exact ih hy' Qx h2
theorem tw (p:Int):¬ ep [] p:=by simp [ep]
theorem rG {y:Rn} {r:List Rn} {p:Int}:ep (y::r) p↔(y.At ≤ p∧p < y.At + y.N)∨ep r p:=by simp [ep]
theorem gW {l r:List Rn} {p:Int}:ep (l++r) p↔ep l p∨ep r p:=by simp [ep,or_and_right,exists_or]
theorem xI {l:List Rn} (h:Can l) {p:Int} (hp:ep l p):0 ≤ p∧p < 64:=by
  obtain ⟨y,hy,h1,h2⟩:=hp
  have:=h.jO y hy
  omega
theorem Can.whole {l:List Rn} (h:Can l) {at_ k:Int} (hk:1 ≤ k) (hm:∀p,at_ ≤ p→p < at_ + k→ep l p):∃y ∈ l,y.At ≤ at_∧at_ + k ≤ y.At + y.N:=by
  obtain ⟨y,hy,h1,h2⟩:=hm at_ (by omega) (by omega)
  refine ⟨y,hy,h1,?_⟩
  refine Int.not_lt.1 fun hlt=>?_
  obtain ⟨z,hz,h3,h4⟩:=hm (y.At + y.N) (by omega) (by omega)
  rcases h.two hy hz with rfl | h5 | h5
  · omega
  · omega
  · have:=h.jO z hz; omega
theorem all_eq {n:Nat} {l:List Rn} (hl:l.length ≤ 100) (hn:110 ≤ n):∃xs,gD n l = some xs∧xs.map Prod.snd = l:=by
  unfold gD
  have key:∀(m x:Nat),x ≤ l.length→l.length - x < m→∃xs,eu (fun xd (fa:Int)=>cn (decide (fa < (l.length:Int))) (gu (dO fa l.length) <| lt ((l.getD (Int.toNat fa) default):aZ) fun jN=>yl (fa,jN) <| xd (wr .i64 (fa + 1))) (some [])) m (x:Int) = some xs∧xs.map Prod.snd = l.drop x:=by
    intro m
    induction m with
    | zero=>intro x _ h; omega
    | succ m ih =>
      intro x hx hm
      simp only [eu]
      by_cases hc:x < l.length
      · rw [aC (by simpa using hc),aF (cP (by omega) (by omega)),lt_eq,cz (by omega) (by omega)]
        obtain ⟨xs,h1,h2⟩:=ih (x + 1) (by omega) (by omega)
        have e:((x:Int) + 1) = ((x + 1:Nat):Int):=by omega
        rw [e,h1]
        refine ⟨_,rfl,?_⟩
        rw [List.map_cons,h2,List.drop_eq_getElem_cons hc,Int.toNat_natCast,List.getD,List.getElem?_eq_getElem hc]
        rfl
      · rw [av (by simpa using hc)]
        exact ⟨[],rfl,by rw [List.drop_eq_nil_of_le (by omega)]; rfl⟩
  obtain ⟨xs,h1,h2⟩:=key n 0 (by omega) (by omega)
  exact ⟨xs,h1,by simpa using h2⟩
theorem EL (n:Nat) (r:dm):jW n r = some r.l:=rfl
theorem GO {n:Nat} {at_ k:Int} (ha:DW at_) (hk:DW k):∃b,lU n ⟨at_,k⟩ = some b∧(b = true↔yx at_ k):=by
  obtain ⟨a1,a2⟩:=ha
  obtain ⟨k1,k2⟩:=hk
  refine ⟨_,rfl,?_⟩
  show ((decide (1 ≤ k) && decide (0 ≤ at_)) && decide (at_ ≤ wr .i64 (64 - k))) = true↔_
  unfold yx
  by_cases h:1 ≤ k
  · rw [cz (by omega) (by omega)]; simp; omega
  · simp [h]
theorem C0 {n:Nat} {y:Rn} (h:0 ≤ y.At∧1 ≤ y.N∧y.At + y.N ≤ 64):dR n y = some (y.At + y.N):=by
  unfold dR; rw [cz (by omega) (by omega)]
theorem Can.cut {l:List Rn} (h:Can l) {i:Nat} (hi:i < l.length) {left:List Rn} {at_ k:Int} (hk:1 ≤ k) (hin:l[i].At ≤ at_∧at_ + k ≤ l[i].At + l[i].N)
    (hl:Can left) (hm:∀p,ep left p↔(l[i].At ≤ p∧p < l[i].At + l[i].N)∧¬ (at_ ≤ p∧p < at_ + k)) (hb:∀y ∈ left,l[i].At ≤ y.At∧y.At + y.N ≤ l[i].At + l[i].N) :
    Can (l.take i++left++l.drop (i + 1))∧∀p,ep (l.take i++left++l.drop (i + 1)) p↔ep l p∧¬ (at_ ≤ p∧p < at_ + k):=by
  have e:l = l.take i++l[i]::l.drop (i + 1):=by rw [← List.drop_eq_getElem_cons hi,List.take_append_drop]
  generalize hy:l[i] = y at *
  have Cz:=h.pw
  rw [e] at Cz
  obtain ⟨q1,q2,q3⟩:=List.pairwise_append.1 Cz
  obtain ⟨q4,q5⟩:=List.pairwise_cons.1 q2
  have FE:y ∈ l:=by rw [e]; simp
  have Kr:=h.jO y FE
  refine ⟨⟨?_,?_⟩,fun p=>?_⟩
  · intro z hz
    rcases List.mem_append.1 hz with hz | hz
    · rcases List.mem_append.1 hz with hz | hz
      · exact h.jO z (List.mem_of_mem_take hz)
      · exact hl.jO z hz
    · exact h.jO z (List.mem_of_mem_drop hz)
  · refine List.pairwise_append.2 ⟨List.pairwise_append.2 ⟨q1,hl.pw,fun a ha b hb'=>?_⟩,q5,fun a ha b hb'=>?_⟩
    · have:=q3 a ha y (by simp); have:=hb b hb'; omega
    · rcases List.mem_append.1 ha with ha | ha
      · exact q3 a ha b (by simp [hb'])
      · have:=q4 b hb'; have:=hb a ha; omega
  · have hp:ep l p↔ep (l.take i) p∨(y.At ≤ p∧p < y.At + y.N)∨ep (l.drop (i + 1)) p:=by
      conv=>lhs; rw [e,gW,rG]
    rw [gW,gW,hm p,hp]
    have t1:ep (l.take i) p→p < y.At:=fun ⟨z,hz,h1,h2⟩=>by have:=q3 z hz y (by simp); omega
    have t2:ep (l.drop (i + 1)) p→y.At + y.N < p:=fun ⟨z,hz,h1,h2⟩=>by have:=q4 z hz; omega
    constructor
    · rintro ((c | ⟨c1,c2⟩) | c)
      · have:=t1 c; exact ⟨.inl c,by omega⟩
      · exact ⟨.inr (.inl c1),c2⟩
      · have:=t2 c; exact ⟨.inr (.inr c),by omega⟩
    · rintro ⟨c | c | c,d⟩
      · exact .inl (.inl c)
      · exact .inl (.inr ⟨c,d⟩)
      · exact .inr c
end Go.Proofs.YtmdpbdhkmfjlhaaGreat
namespace Go.Proofs.YtmdpbdhkmfjlhaaGreat
open Go Go.Bw
structure GI (l:List Rn) (at_ k:Int) (pre rest:List Rn) (put:Bool) (out:List Rn) (x:Rn):Prop where
  e:l = pre++rest
  free:∀p,ep pre p→¬ (at_ ≤ p∧p < at_ + k)
  lo:x.At ≤ at_∧(x.At = at_∨∃z ∈ pre,z.At + z.N = at_)
  hi:at_ + k ≤ x.At + x.N∧(x.At + x.N = at_ + k∨∃z ∈ pre,z.At + z.N = x.At + x.N)
  jO:0 ≤ x.At∧1 ≤ x.N∧x.At + x.N ≤ 64
  off:put = false→Can (out++[x])∧(∀z ∈ out,z ∈ pre)∧∀p,ep (out++[x]) p↔ep pre p∨(at_ ≤ p∧p < at_ + k)
  on:put = true→Can out∧(∀z ∈ out,z ∈ pre∨z = x)∧(∃z ∈ pre,x.At + x.N < z.At)∧∀p,ep out p↔ep pre p∨(at_ ≤ p∧p < at_ + k)
theorem ld {l:List Rn} {y:Rn} (h:Can l) (hy:0 ≤ y.At∧1 ≤ y.N∧y.At + y.N ≤ 64) (ha:∀z ∈ l,z.At + z.N < y.At):Can (l++[y]):=
  ⟨fun z hz=>by
    rcases List.mem_append.1 hz with hz | hz
    · exact h.jO z hz
    · rw [List.mem_singleton.1 hz]; exact hy,
   List.pairwise_append.2 ⟨h.pw,List.pairwise_singleton _ _,fun a SN b hb=>by rw [List.mem_singleton.1 hb]; exact ha a SN⟩⟩
theorem Can.init {l:List Rn} {y:Rn} (h:Can (l++[y])):Can l:=⟨fun z hz=>h.jO z (by simp [hz]),(List.pairwise_append.1 h.pw).1⟩
theorem Can.last {l:List Rn} {y:Rn} (h:Can (l++[y])):∀z ∈ l,z.At + z.N < y.At:=fun z hz=>(List.pairwise_append.1 h.pw).2.2 z hz y (by simp)
theorem gE {y:Rn} {p:Int}:ep [y] p↔y.At ≤ p∧p < y.At + y.N:=by rw [rG]; simp [ep]
def LJ (r' : dm) (g:Bool) (l:List Rn) (r:dm) (at_ k:Int):Prop:=
  (g = true↔∀p,at_ ≤ p→p < at_ + k→¬ ep l p)∧(g = false→r' = r)∧(g = true→Can r'.l∧∀p,ep r'.l p↔ep l p∨(at_ ≤ p∧p < at_ + k))
theorem EH {n:Nat} {r:dm} {l:List Rn} (hl:Can l) {at_ k:Int} (ho:yx at_ k):∀(xs:List (Int × Rn)) (pre:List Rn) (put:Bool) (out:List Rn) (x:Rn),GI l at_ k pre (xs.map Prod.snd) put out x →
    ∃r' g,sE (fun (LV:Int × aZ) Ep (eR:Bool) (ez:(List aZ)) (dX:aZ) =>
      lt (LV.1:Int) fun lA =>
      lt (LV.2:aZ) fun nO =>
      bd (dR n nO) fun Fk =>
      cn (decide (Fk < dX.At)) (
      gu (j9 ez.length 1 16) <|
      lt (ez++([nO]):List aZ) fun lK =>
      Ep eR lK dX) (
      bd (dR n dX) fun vH =>
      cn (decide (vH < nO.At)) (
      lt (fun (rB:Bool) (s6:(List aZ)) =>
      gu (j9 s6.length 1 16) <|
      lt (s6++([nO]):List aZ) fun rA =>
      Ep rB rA dX) fun FC =>
      cn ((!eR)) (
      gu (j9 ez.length 1 16) <|
      lt (ez++([dX]):List aZ) fun pZ =>
      FC true pZ) (
      FC eR ez)) (
      bd (dR n nO) fun Bx =>
      cn ((Bx == dX.At)) (
      lt ({ At:=nO.At,N:=wr .i64 (nO.N + dX.N) }:aZ) fun Fh =>
      Ep eR ez Fh) (
      bd (dR n dX) fun sA =>
      cn ((nO.At == sA)) (
      lt ({ dX with N:=wr .i64 (dX.N + nO.N) }:aZ) fun IZ =>
      Ep eR ez IZ) (
      some (r,false)))))) (fun (eR:Bool) (ez:(List aZ)) (dX:aZ) =>
      cn ((!eR)) (
      gu (j9 ez.length 1 16) <|
      lt (ez++([dX]):List aZ) fun vG =>
      lt ({ l:=vG }:dm) fun Gb =>
      some (Gb,true)) (
      lt ({ l:=ez }:dm) fun uo =>
      some (uo,true))) xs put out x = some (r',g)∧LJ r' g l r at_ k:=by
  intro xs
  induction xs with
  | nil =>
    intro pre put out x h
    have e:l = pre:=by have:=h.e; simpa using this
    subst e
    show ∃r' g,cn (!put) (gu (j9 out.length 1 16) <| some ((⟨out++[x]⟩ : dm),true)) (some ((⟨out⟩ : dm),true)) = some (r',g)∧_
    have hfree:∀p,at_ ≤ p→p < at_ + k→¬ ep l p:=fun p h1 h2 hm=>h.free p hm ⟨h1,h2⟩
    cases put with
    | false =>
      obtain ⟨c1,c2,c3⟩:=h.off rfl
      have:=c1.init.len
      rw [aC (b:=!false) rfl,aF (iY (by omega) (by omega))]
      exact ⟨_,true,rfl,⟨fun _=>hfree,fun _=>rfl⟩,fun h=>(by cases h),fun _=>⟨c1,c3⟩⟩
    | true =>
      obtain ⟨c1,c2,c3,c4⟩:=h.on rfl
      rw [av (b:=!true) rfl]
      exact ⟨_,true,rfl,⟨fun _=>hfree,fun _=>rfl⟩,fun h=>(by cases h),fun _=>⟨c1,c4⟩⟩
  | cons q xs ih =>
    obtain ⟨qi,y⟩:=q
    intro pre put out x h
    have he:l = (pre++[y])++xs.map Prod.snd:=by rw [h.e]; simp
    have FE:y ∈ l:=by rw [h.e]; simp
    have Kr:=hl.jO y FE
    have hpre:∀z ∈ pre,z.At + z.N < y.At:=fun z hz=>by
      have Cz:=hl.pw
      rw [he] at Cz
      exact (List.pairwise_append.1 (List.pairwise_append.1 Cz).1).2.2 z hz y (by simp)
    have N4:∀z ∈ pre,0 ≤ z.At∧1 ≤ z.N∧z.At + z.N ≤ 64:=fun z hz=>hl.jO z (by rw [h.e]; simp [hz])
    obtain ⟨o1,o2,o3⟩:=ho
    obtain ⟨MW,NJ⟩:=h.lo
    obtain ⟨Pb,Bq⟩:=h.hi
    have Ks:=h.jO
    have ey:dR n y = some (y.At + y.N):=C0 Kr
    have ex:dR n x = some (x.At + x.N):=C0 Ks
    have hfree:(∀p,y.At ≤ p→p < y.At + y.N→¬ (at_ ≤ p∧p < at_ + k))→∀p,ep (pre++[y]) p→¬ (at_ ≤ p∧p < at_ + k):=fun hy p hp=>by
      rcases gW.1 hp with hp | hp
      · exact h.free p hp
      · obtain ⟨h1,h2⟩:=gE.1 hp; exact hy p h1 h2
    have tM:∀{z},z ∈ pre→z ∈ pre++[y]:=fun hz=>by simp [hz]
    have hlo:x.At = at_∨∃z ∈ pre++[y],z.At + z.N = at_:=NJ.imp id fun ⟨z,hz,e⟩=>⟨z,tM hz,e⟩
    have hhi:x.At + x.N = at_ + k∨∃z ∈ pre++[y],z.At + z.N = x.At + x.N:=Bq.imp id fun ⟨z,hz,e⟩=>⟨z,tM hz,e⟩
    have KY:∀p,ep (pre++[y]) p↔ep pre p∨(y.At ≤ p∧p < y.At + y.N):=fun p=>by rw [gW,gE]
    have hput:put = true→x.At + x.N < y.At:=fun hp=>by obtain ⟨z,hz,h1⟩:=(h.on hp).2.2.1; have:=hpre z hz; have:=N4 z hz; omega
    simp only [sE]
    dsimp only [lt]
    rw [ax ey]
    by_cases c1:y.At + y.N < x.At
    · have hf:put = false:=by
        cases put with
        | false=>rfl
        | true=>have:=hput rfl; omega
      subst hf
      obtain ⟨d1,d2,d3⟩:=h.off rfl
      have hlen:=d1.init.len
      rw [aC (by simpa using c1),aF (iY (by omega) (by omega))]
      refine ih (pre++[y]) false (out++[y]) x ⟨he,hfree fun p h1 h2=>by omega,⟨MW,hlo⟩,⟨Pb,hhi⟩,Ks,fun _=>⟨?_,?_,fun p=>?_⟩,fun h=>by cases h⟩
      · refine ld (ld d1.init Kr fun z hz=>hpre z (d2 z hz)) Ks fun z hz=>?_
        rcases List.mem_append.1 hz with hz | hz
        · exact d1.last z hz
        · rw [List.mem_singleton.1 hz]; exact c1
      · intro z hz
        rcases List.mem_append.1 hz with hz | hz
        · exact tM (d2 z hz)
        · rw [List.mem_singleton.1 hz]; simp
      · have:=d3 p
        rw [gW,gE] at this ⊢
        rw [gW,gE,KY]
        constructor
        · rintro ((c | c) | c)
          · rcases this.1 (.inl c) with c | c
            · exact .inl (.inl c)
            · exact .inr c
          · exact .inl (.inr c)
          · rcases this.1 (.inr c) with c | c
            · exact .inl (.inl c)
            · exact .inr c
        · rintro ((c | c) | c)
          · rcases this.2 (.inl c) with c | c
            · exact .inl (.inl c)
            · exact .inr c
          · exact .inl (.inr c)
          · rcases this.2 (.inr c) with c | c
            · exact .inl (.inl c)
            · exact .inr c
    rw [av (by simpa using c1),ax ex]
    by_cases c2:x.At + x.N < y.At
    · rw [aC (by simpa using c2)]
      have hfr:=hfree fun p h1 h2=>by omega
      cases put with
      | false =>
        obtain ⟨d1,d2,d3⟩:=h.off rfl
        have hlen:=d1.init.len
        have CD:=d1.len
        rw [aC (b:=!false) rfl,aF (iY (by omega) (by omega)),aF (iY (by omega) (by omega))]
        refine ih (pre++[y]) true (out++[x]++[y]) x ⟨he,hfr,⟨MW,hlo⟩,⟨Pb,hhi⟩,Ks,fun h=>(by cases h),fun _=>⟨?_,?_,⟨y,by simp,c2⟩,fun p=>?_⟩⟩
        · refine ld d1 Kr fun z hz=>?_
          rcases List.mem_append.1 hz with hz | hz
          · exact hpre z (d2 z hz)
          · rw [List.mem_singleton.1 hz]; exact c2
        · intro z hz
          simp only [List.mem_append,List.mem_singleton] at hz
          rcases hz with (hz | hz) | hz
          · exact .inl (tM (d2 z hz))
          · exact .inr hz
          · exact .inl (by simp [hz])
        · rw [gW,gE,d3 p,KY]
          constructor
          · rintro ((c | c) | c)
            · exact .inl (.inl c)
            · exact .inr c
            · exact .inl (.inr c)
          · rintro ((c | c) | c)
            · exact .inl (.inl c)
            · exact .inr c
            · exact .inl (.inr c)
      | true =>
        obtain ⟨d1,d2,d3,d4⟩:=h.on rfl
        have hlen:=d1.len
        rw [av (b:=!true) rfl,aF (iY (by omega) (by omega))]
        refine ih (pre++[y]) true (out++[y]) x ⟨he,hfr,⟨MW,hlo⟩,⟨Pb,hhi⟩,Ks,fun h=>(by cases h),fun _=>⟨?_,?_,⟨y,by simp,c2⟩,fun p=>?_⟩⟩
        · refine ld d1 Kr fun z hz=>?_
          rcases d2 z hz with hz | rfl
          · exact hpre z hz
          · exact c2
        · intro z hz
          rcases List.mem_append.1 hz with hz | hz
          · exact (d2 z hz).imp tM id
          · exact .inl (by simp [List.mem_singleton.1 hz])
        · rw [gW,gE,d4 p,KY]
          constructor
          · rintro ((c | c) | c)
            · exact .inl (.inl c)
            · exact .inr c
            · exact .inl (.inr c)
          · rintro ((c | c) | c)
            · exact .inl (.inl c)
            · exact .inr c
            · exact .inl (.inr c)
    have hf:put = false:=by
      cases put with
      | false=>rfl
      | true=>have:=hput rfl; omega
    subst hf
    obtain ⟨d1,d2,d3⟩:=h.off rfl
    rw [av (by simpa using c2),ax ey]
    by_cases c3:y.At + y.N = x.At
    · rw [aC (by simpa using c3),cz (by omega) (by omega)]
      have QS:x.At = at_:=by
        rcases NJ with e | ⟨z,hz,e⟩
        · exact e
        · have:=hpre z hz; omega
      refine ih (pre++[y]) false out ⟨y.At,y.N + x.N⟩ ⟨he,hfree fun p h1 h2=>by omega,⟨by dsimp only; omega, .inr ⟨y,by simp,by omega⟩⟩,⟨by dsimp only; omega,?_⟩,by dsimp only; omega,fun _=>⟨?_,fun z hz=>tM (d2 z hz),fun p=>?_⟩,fun h=>by cases h⟩
      · rcases hhi with e | ⟨z,hz,e⟩
        · exact .inl (by dsimp only; omega)
        · exact .inr ⟨z,hz,by dsimp only; omega⟩
      · exact ld d1.init (by dsimp only; omega) fun z hz=>hpre z (d2 z hz)
      · have:=d3 p
        rw [gW,gE] at this ⊢
        rw [KY]
        dsimp only
        constructor
        · rintro (c | c)
          · rcases this.1 (.inl c) with c | c
            · exact .inl (.inl c)
            · exact .inr c
          · by_cases hp:p < x.At
            · exact .inl (.inr (by omega))
            · rcases this.1 (.inr (by omega)) with c | c
              · exact .inl (.inl c)
              · exact .inr c
        · rintro ((c | c) | c)
          · rcases this.2 (.inl c) with c | c
            · exact .inl c
            · exact .inr (by omega)
          · exact .inr (by omega)
          · exact .inr (by omega)
    rw [av (by simpa using c3),ax ex]
    by_cases c4:y.At = x.At + x.N
    · rw [aC (by simpa using c4),cz (by omega) (by omega)]
      refine ih (pre++[y]) false out ⟨x.At,x.N + y.N⟩ ⟨he,hfree fun p h1 h2=>by omega,⟨MW,hlo⟩,⟨by dsimp only; omega, .inr ⟨y,by simp,by dsimp only; omega⟩⟩,by dsimp only; omega,fun _=>⟨?_,fun z hz=>tM (d2 z hz),fun p=>?_⟩,fun h=>by cases h⟩
      · exact ld d1.init (by dsimp only; omega) fun z hz=>d1.last z hz
      · have:=d3 p
        rw [gW,gE] at this ⊢
        rw [KY]
        dsimp only
        constructor
        · rintro (c | c)
          · rcases this.1 (.inl c) with c | c
            · exact .inl (.inl c)
            · exact .inr c
          · by_cases hp:p < x.At + x.N
            · rcases this.1 (.inr (by omega)) with c | c
              · exact .inl (.inl c)
              · exact .inr c
            · exact .inl (.inr (by omega))
        · rintro ((c | c) | c)
          · rcases this.2 (.inl c) with c | c
            · exact .inl c
            · exact .inr (by omega)
          · exact .inr (by omega)
          · exact .inr (by omega)
    rw [av (by simpa using c4)]
    refine ⟨r,false,rfl,⟨fun h=>(by cases h),fun hno=>?_⟩,fun _=>rfl,fun h=>(by cases h)⟩
    have g1:y.At < at_ + k:=by
      rcases Bq with e | ⟨z,hz,e⟩
      · omega
      · have:=hpre z hz; omega
    have g2:at_ < y.At + y.N:=by
      rcases NJ with e | ⟨z,hz,e⟩
      · omega
      · have:=hpre z hz; omega
    by_cases g3:at_ ≤ y.At
    · exact absurd ⟨y,FE,by omega,by omega⟩ (hno y.At g3 g1)
    · exact absurd ⟨y,FE,by omega,by omega⟩ (hno at_ (by omega) (by omega))
theorem EI {n:Nat} (hn:110 ≤ n) {r:dm} (hr:Can r.l) {at_ k:Int} (ha:DW at_) (hk:DW k) :
    ∃r' g,iP n r at_ k = some (r',g)∧(g = true↔yx at_ k∧∀p,at_ ≤ p→p < at_ + k→¬ ep r.l p)∧(g = false→r' = r)∧(g = true→Can r'.l∧∀p,ep r'.l p↔ep r.l p∨(at_ ≤ p∧p < at_ + k)):=by
  unfold iP
  rw [lt_eq]
  obtain ⟨b,hb,hb'⟩:=GO (n:=n) ha hk
  rw [ax hb]
  cases b with
  | false=>exact ⟨r,false,rfl,⟨fun h=>(by cases h),fun h=>hb'.2 h.1⟩,fun _=>rfl,fun h=>(by cases h)⟩
  | true =>
    have ho:=hb'.1 rfl
    obtain ⟨o1,o2,o3⟩:=ho
    rw [av (b:=!true) rfl,ax (EL n r)]
    obtain ⟨xs,h1,h2⟩:=all_eq (n:=n) (l:=r.l) (by have:=hr.len; omega) hn
    rw [ax h1]
    obtain ⟨r',g,h3,h4,h5,h6⟩:=EH (n:=n) (r:=r) hr (at_:=at_) (k:=k) ⟨o1,o2,o3⟩ xs [] false [] ⟨at_,k⟩ ⟨by simpa using h2.symm,fun p hp=>absurd hp (tw p),⟨Int.le_refl _, .inl rfl⟩,⟨Int.le_refl _, .inl rfl⟩,⟨o2,o1,o3⟩,
      fun _=>⟨ld Can.nil ⟨o2,o1,o3⟩ (by simp),by simp,fun p=>by rw [List.nil_append,gE]; simp [tw]⟩,fun h=>by cases h⟩
    exact ⟨r',g,h3,⟨fun hg=>⟨⟨o1,o2,o3⟩,h4.1 hg⟩,fun hg=>h4.2 hg.2⟩,h5,h6⟩
end Go.Proofs.YtmdpbdhkmfjlhaaGreat
namespace Go.Proofs.YtmdpbdhkmfjlhaaGreat
open Go Go.Bw
def ov (y:Rn) (i:Int):Int:=if i ≤ y.At then 0 else if y.At + y.N ≤ i then y.N else i - y.At
def od (l:List Rn) (i:Int):Int:=(l.map fun y=>ov y i).sum
theorem nQ (y:Rn) (l:List Rn) (i:Int):od (y::l) i = ov y i + od l i:=rfl
theorem l6:∀{l:List Rn},Can l→od l 0 = 0
  | [],_=>rfl
  | y::r,h=>by
    have hy:=h.jO y (by simp)
    rw [nQ,l6 ⟨fun z hz=>h.jO z (by simp [hz]),(List.pairwise_cons.1 h.pw).2⟩]
    unfold ov; rw [if_pos hy.1]; rfl
theorem l7:∀{l:List Rn},Can l→∀i:Int,(ep l i→od l (i + 1) = od l i + 1)∧(¬ ep l i→od l (i + 1) = od l i)
  | [],_,i=>⟨fun h=>absurd h (tw i),fun _=>rfl⟩
  | y::r,h,i=>by
    obtain ⟨h1,h2⟩:=List.pairwise_cons.1 h.pw
    have hy:=h.jO y (by simp)
    obtain ⟨i1,i2⟩:=l7 (l:=r) ⟨fun z hz=>h.jO z (by simp [hz]),h2⟩ i
    rw [nQ,nQ,rG]
    by_cases c:y.At ≤ i∧i < y.At + y.N
    · have hn:¬ ep r i:=fun ⟨z,hz,a,b⟩=>by have:=h1 z hz; omega
      rw [i2 hn]
      refine ⟨fun _=>?_,fun hh=>absurd (.inl c) hh⟩
      unfold ov
      rw [if_neg (by omega)]
      split <;> split <;> omega
    · have e:ov y (i + 1) = ov y i:=by
        unfold ov
        (repeat' split) <;> omega
      rw [e]
      refine ⟨fun hh=>?_,fun hh=>?_⟩
      · rw [i1 (hh.resolve_left c)]; omega
      · rw [i2 fun hm=>hh (.inr hm)]
def fb (l:List Rn):Int:=(l.map fun y=>y.N).sum
theorem gU (y:Rn) (l:List Rn):fb (y::l) = y.N + fb l:=rfl
theorem nj:∀{l:List Rn},Can l→od l 64 = fb l
  | [],_=>rfl
  | y::r,h=>by
    have hy:=h.jO y (by simp)
    rw [nQ,gU,nj ⟨fun z hz=>h.jO z (by simp [hz]),(List.pairwise_cons.1 h.pw).2⟩]
    unfold ov; rw [if_neg (by omega),if_pos hy.2.2]
theorem xp:∀{l:List Rn} {lo:Int},Can l→(∀y ∈ l,lo ≤ y.At)→lo ≤ 65→0 ≤ fb l∧fb l ≤ 65 - lo
  | [],lo,_,_,h=>by simp [fb]; omega
  | y::r,lo,h,hl,_=>by
    obtain ⟨h1,h2⟩:=List.pairwise_cons.1 h.pw
    have hy:=h.jO y (by simp)
    have hy':=hl y (by simp)
    have:=xp (l:=r) (lo:=y.At + y.N + 1) ⟨fun z hz=>h.jO z (by simp [hz]),h2⟩ (fun z hz=>by have:=h1 z hz; omega) (by omega)
    rw [gU]; omega
theorem x5 {n:Nat}:∀(xs:List (Int × Rn)) (s:Int),0 ≤ s→s ≤ 1000000 - fb (xs.map Prod.snd)→(∀e ∈ xs,1 ≤ e.2.N) →
    gn (fun (EM:Int × aZ) Et (dQ:Int) =>
      lt (EM.1:Int) fun jR =>
      lt (EM.2:aZ) fun cT =>
      lt (wr .i64 (dQ + cT.N):Int) fun gq =>
      Et gq) (fun (dQ:Int) =>
      some dQ) xs s = some (s + fb (xs.map Prod.snd))
  | [],s,_,_,_=>by show some s = _; simp [fb]
  | e::xs,s,h0,h1,h2=>by
    have:=h2 e (by simp)
    have hs:0 ≤ fb (xs.map Prod.snd):=by
      clear h1 h0
      have h3:∀e ∈ xs,1 ≤ e.2.N:=fun e he=>h2 e (by simp [he])
      clear h2 this
      induction xs with
      | nil=>simp [fb]
      | cons a xs ih=>have:=h3 a (by simp); have:=ih fun e he=>h3 e (by simp [he]); rw [List.map_cons,gU]; omega
    rw [List.map_cons,gU] at h1 ⊢
    show gn _ _ xs (wr .i64 (s + e.2.N)) = _
    rw [cz (by omega) (by omega),x5 (n:=n) xs (s + e.2.N) (by omega) (by omega) (fun e he=>h2 e (by simp [he]))]
    congr 1; omega
def oI (a:Nat→Int):Rn:=⟨a 0,a 1⟩
structure RS (r:dm) (w:Nat→Bool):Prop where
  can:Can r.l
  mem:∀p:Nat,p < 64→(w p = true↔ep r.l p)
theorem RS.all {r:dm} {w:Nat→Bool} (h:RS r w) (p:Int):ep r.l p↔0 ≤ p∧p < 64∧w p.toNat = true:=by
  constructor
  · intro hm
    obtain ⟨a,b⟩:=xI h.can hm
    exact ⟨a,b,(h.mem p.toNat (by omega)).2 (by rw [Int.toNat_of_nonneg a]; exact hm)⟩
  · rintro ⟨a,b,d⟩
    have:=(h.mem p.toNat (by omega)).1 d
    rwa [Int.toNat_of_nonneg a] at this
theorem RS.take {r r' : dm} {w w' : Nat→Bool} {a k:Int} (h:RS r w) (hc:Can r'.l) (hm:∀p,ep r'.l p↔ep r.l p∧¬ (a ≤ p∧p < a + k)) (hw:∀p:Nat,w' p = if a ≤ (p:Int)∧(p:Int) < a + k then false else w p):RS r' w':=
  ⟨hc,fun p hp=>by
    rw [hw p,hm]
    by_cases c:a ≤ (p:Int)∧(p:Int) < a + k
    · rw [if_pos c]; simp [c]
    · rw [if_neg c,h.mem p hp]; exact ⟨fun x=>⟨x,c⟩,fun x=>x.1⟩⟩
end Go.Proofs.YtmdpbdhkmfjlhaaGreat
namespace Go.Proofs.YtmdpbdhkmfjlhaaGreat
open Go Go.Bw
theorem Av {l m x:List Rn} (hl:Can l) (hm:Can m) (hx:Can x) (h1:∀p,ep l p↔ep m p∨ep x p) (h2:∀p,ep m p→¬ ep x p):fb l = fb m + fb x:=by
  have key:∀i:Nat,od l i = od m i + od x i:=by
    intro i
    induction i with
    | zero=>rw [Int.natCast_zero,l6 hl,l6 hm,l6 hx]; rfl
    | succ i ih =>
      have e:((i + 1:Nat):Int) = (i:Int) + 1:=by omega
      rw [e]
      obtain ⟨a1,a2⟩:=l7 hl i
      obtain ⟨b1,b2⟩:=l7 hm i
      obtain ⟨c1,c2⟩:=l7 hx i
      by_cases c:ep m i
      · rw [a1 ((h1 _).2 (.inl c)),b1 c,c2 (h2 _ c),ih]; omega
      · by_cases d:ep x i
        · rw [a1 ((h1 _).2 (.inr d)),b2 c,c1 d,ih]; omega
        · rw [a2 (fun h=>((h1 _).1 h).elim c d),b2 c,c2 d,ih]
  have:=key 64
  rw [show ((64:Nat):Int) = 64 from rfl,nj hl,nj hm,nj hx] at this
  exact this
theorem ER {a k:Int} (h:yx a k):Can [(⟨a,k⟩ : Rn)]:=ld (l:=[]) Can.nil (by unfold yx at h; exact ⟨h.2.1,h.1,h.2.2⟩) (by simp)
structure OW (first r:List Rn) (t:List Int):Prop where
  can:Can r
  nd:t.Nodup
  mem:∀p,ep first p↔ep r p∨p ∈ t
  apart:∀p,p ∈ t→¬ ep r p
theorem po:∀(k:Nat) {t:List Int},t.Nodup→(∀p ∈ t,0 ≤ p∧p < (k:Int))→t.length ≤ k
  | 0,[],_,_=>Nat.le_refl _
  | 0,x::t,_,h=>by have:=h x (by simp); omega
  | k + 1,t,hn,h=>by
    by_cases hk:(k:Int) ∈ t
    · have h1:=po k (hn.erase (k:Int)) fun x hx=>by
        have h2:=h x (List.mem_of_mem_erase hx)
        have h3:x ≠ k:=fun e=>by subst e; exact (List.Nodup.not_mem_erase hn) hx
        omega
      rw [List.length_erase_of_mem hk] at h1
      omega
    · have h1:=po k hn fun x hx=>by
        have h2:=h x hx
        have h3:x ≠ k:=fun e=>hk (e ▸ hx)
        omega
      omega
theorem OW.jO {first r:List Rn} {t:List Int} (hf:Can first) (h:OW first r t) {p:Int} (hp:p ∈ t):0 ≤ p∧p < 64:=xI hf ((h.mem p).2 (.inr hp))
theorem OW.len {first r:List Rn} {t:List Int} (hf:Can first) (h:OW first r t):t.length ≤ 64:=po 64 h.nd fun p hp=>h.jO hf hp
end Go.Proofs.YtmdpbdhkmfjlhaaGreat
namespace Go.Proofs.YtmdpbdhkmfjlhaaGreat
open Go Go.Bw
theorem D4 {l:List (Nat→Int)} {i:Nat} (h:i < l.length):oI (l.getD i default) = (l.map oI)[i]'(by rw [List.length_map]; exact h):=by
  rw [List.getD,List.getElem?_eq_getElem h,List.getElem_map]; rfl
def FR:Int→List Rn→List (Int × Rn)
  | _,[]=>[]
  | b,y::r=>(b,y)::FR (b + 32 * y.N) r
def ta (l:List Rn):Prop:=∀y ∈ l,1 ≤ y.N
theorem nk:∀{l:List Rn},ta l→0 ≤ fb l
  | [],_=>by simp [fb]
  | y::r,h=>by
    have:=h y (by simp)
    have:=nk (l:=r) fun z hz=>h z (by simp [hz])
    rw [gU]; omega
theorem A4 {n:Nat} {e:dL} (hn:e.bS.length < n) (hl:e.bS.length ≤ 1000) (hp:ta e.bS) (hs:fb e.bS ≤ 1000):eJ n e = some (FR 0 e.bS):=by
  unfold eJ
  have key:∀(m i:Nat) (b:Int),i ≤ e.bS.length→e.bS.length - i < m→0 ≤ b→b + 32 * fb (e.bS.drop i) ≤ 100000→c9 (fun NZ (cI:Int) (dj:Int) =>
      cn (decide (dj < (e.bS.length:Int))) (
      gu (dO dj e.bS.length) <|
      lt ((e.bS.getD (Int.toNat dj) default):aZ) fun dX =>
      yl (cI,dX) <|
      NZ (wr .i64 (cI + (wr .i64 (dX.N * 32)))) (wr .i64 (dj + 1))) (
      some [])) m b (i:Int) = some (FR b (e.bS.drop i)):=by
    intro m
    induction m with
    | zero=>intro i b _ h; omega
    | succ m ih =>
      intro i b hi hm hb Oz
      simp only [c9]
      by_cases c:i < e.bS.length
      · have hg:e.bS.getD (Int.toNat (i:Int)) default = e.bS[i]:=by rw [Int.toNat_natCast,List.getD,List.getElem?_eq_getElem c]; rfl
        have hy:=hp _ (List.getElem_mem c)
        have hd:e.bS.drop i = e.bS[i]::e.bS.drop (i + 1):=List.drop_eq_getElem_cons c
        rw [hd,gU] at Oz
        have hr:0 ≤ fb (e.bS.drop (i + 1)):=nk fun z hz=>hp z (List.mem_of_mem_drop hz)
        rw [aC (by simpa using c),aF (cP (by omega) (by omega)),lt_eq,hg,hd]
        rw [cz (x:=e.bS[i].N * 32) (by omega) (by omega),cz (x:=b + e.bS[i].N * 32) (by omega) (by omega),cz (x:=(i:Int) + 1) (by omega) (by omega)]
        have e1:((i:Int) + 1) = ((i + 1:Nat):Int):=by omega
        rw [e1,ih (i + 1) (b + e.bS[i].N * 32) (by omega) (by omega) (by omega) (by omega)]
        show some ((b,e.bS[i])::FR (b + e.bS[i].N * 32) (e.bS.drop (i + 1))) = some ((b,e.bS[i])::FR (b + 32 * e.bS[i].N) (e.bS.drop (i + 1)))
        rw [Int.mul_comm]
      · rw [av (by simpa using c),List.drop_eq_nil_of_le (by omega)]; rfl
  have:=key n 0 0 (by omega) (by omega) (by omega) (by rw [List.drop_zero]; omega)
  simpa using this
theorem sU:∀(l:List Rn) (b:Int),(FR b l).map Prod.snd = l
  | [],_=>rfl
  | y::r,b=>by rw [FR,List.map_cons,sU r]
theorem B2 {n:Nat} {e:dL} (hn:e.bS.length < n) (hl:e.bS.length ≤ 1000) (hp:ta e.bS) (hs:fb e.bS ≤ 1000):fR n e = some (fb e.bS):=by
  unfold fR
  rw [ax (show gI n e = some e from rfl),ax (A4 hn hl hp hs)]
  have h0:=nk hp
  refine (x5 (n:=n) (FR 0 e.bS) 0 (by omega) (by rw [sU]; omega) fun q hq=>hp q.2 (by rw [← sU e.bS 0]; exact List.mem_map_of_mem hq)).trans ?_
  rw [sU]; congr 1; omega
end Go.Proofs.YtmdpbdhkmfjlhaaGreat
namespace Go.Proofs.YtmdpbdhkmfjlhaaGreat
open Go Go.Bw
structure ux (l:List Rn):Prop where
  jO:∀y ∈ l,yx y.At y.N
  pw:l.Pairwise fun y z=>∀p,y.At ≤ p→p < y.At + y.N→¬ (z.At ≤ p∧p < z.At + z.N)
theorem ux.nil:ux []:=⟨by simp, .nil⟩
theorem oX {l:List Rn} {y:Rn}:ux (l++[y])↔ux l∧yx y.At y.N∧∀p,y.At ≤ p→p < y.At + y.N→¬ ep l p:=by
  constructor
  · rintro ⟨h1,h2⟩
    obtain ⟨p1,p2,p3⟩:=List.pairwise_append.1 h2
    exact ⟨⟨fun z hz=>h1 z (by simp [hz]),p1⟩,h1 y (by simp),fun p q1 q2 ⟨z,hz,q3,q4⟩=>p3 z hz y (by simp) p q3 q4 ⟨q1,q2⟩⟩
  · rintro ⟨⟨h1,h2⟩,h3,h4⟩
    refine ⟨fun z hz=>?_,List.pairwise_append.2 ⟨h2,List.pairwise_singleton _ _,fun a ha b hb p q1 q2 q3=>?_⟩⟩
    · rcases List.mem_append.1 hz with hz | hz
      · exact h1 z hz
      · rw [List.mem_singleton.1 hz]; exact h3
    · rw [List.mem_singleton.1 hb] at q3
      exact h4 p q3.1 q3.2 ⟨a,ha,q1,q2⟩
theorem ux.nat {l:List Rn} (h:ux l):ta l:=fun y hy=>(h.jO y hy).1
theorem qE:∀(l m:List Rn),fb (l++m) = fb l + fb m
  | [],m=>by simp [fb]
  | y::r,m=>by rw [List.cons_append,gU,gU,qE r m]; omega
theorem xo {l:List Rn} (h:Can l):∀i:Nat,od l i ≤ i
  | 0=>by rw [Int.natCast_zero,l6 h]; exact Int.le_refl _
  | i + 1=>by
    have:=xo h i
    obtain ⟨a,b⟩:=l7 h i
    have e:((i + 1:Nat):Int) = (i:Int) + 1:=by omega
    rw [e]
    by_cases c:ep l i
    · rw [a c]; omega
    · rw [b c]; omega
theorem Cb {n:Nat} (hn:110 ≤ n) {e:dL} (hl:e.bS.length ≤ 80) (hr:∀y ∈ e.bS,DW y.At∧DW y.N):∃b,fJ n e = some b∧(b = true↔ux e.bS∧fb e.bS ≤ 64∧0 ≤ e.r5∧e.r5 ≤ 32 * fb e.bS):=by
  unfold fJ
  refine eD (fun (i:Int) (r:dm)=>0 ≤ i∧i ≤ e.bS.length∧Can r.l∧ux (e.bS.take i.toNat)∧(∀p,ep r.l p↔ep (e.bS.take i.toNat) p)∧fb r.l = fb (e.bS.take i.toNat)) (fun i _=>((e.bS.length:Int) - i).toNat)
    (fun o=>∃b,o = some b∧(b = true↔ux e.bS∧fb e.bS ≤ 64∧0 ≤ e.r5∧e.r5 ≤ 32 * fb e.bS)) ?_ n 0 lg ⟨by omega,by omega,Can.nil,ux.nil,fun p=>Iff.rfl,rfl⟩ (by omega)
  rintro kk i r ⟨i0,i1,hc,hg,hm,hs⟩ ih
  obtain ⟨i,rfl⟩:=Int.eq_ofNat_of_zero_le i0
  rw [Int.toNat_natCast] at hg hm hs
  by_cases c:i < e.bS.length
  · have hgd:e.bS.getD (Int.toNat (i:Int)) default = e.bS[i]:=by rw [Int.toNat_natCast,List.getD,List.getElem?_eq_getElem c]; rfl
    have hy:=hr _ (List.getElem_mem c)
    have ht:e.bS.take (i + 1) = e.bS.take i++[e.bS[i]]:=List.take_succ_eq_append_getElem c
    rw [aC (by simpa using c),aF (cP (by omega) (by omega)),lt_eq,hgd]
    obtain ⟨r',g,g1,g2,g3,g4⟩:=EI (n:=n) hn hc (at_:=e.bS[i].At) (k:=e.bS[i].N) hy.1 hy.2
    rw [ax g1]
    have K8:g = true↔ux (e.bS.take (i + 1)):=by
      rw [g2,ht,oX]
      exact ⟨fun ⟨a,b⟩=>⟨hg,a,fun p q1 q2 q3=>b p q1 q2 ((hm p).2 q3)⟩,fun ⟨_,a,b⟩=>⟨a,fun p q1 q2 q3=>b p q1 q2 ((hm p).1 q3)⟩⟩
    cases g with
    | false =>
      refine ⟨false,rfl,fun h=>(by cases h),fun ⟨h,_⟩=>?_⟩
      rw [← List.take_append_drop (i + 1) e.bS] at h
      exact K8.2 ⟨fun y hy=>h.jO y (List.mem_append_left _ hy),(List.pairwise_append.1 h.pw).1⟩
    | true =>
      obtain ⟨c1,c2⟩:=g4 rfl
      have ho:=(g2.1 rfl).1
      rw [av (b:=!true) rfl,cz (by omega) (by omega)]
      have e1:((i:Int) + 1).toNat = i + 1:=by omega
      refine ih _ _ ⟨by omega,by omega,c1,by rw [e1]; exact K8.1 rfl,fun p=>?_,?_⟩ (by omega)
      · rw [e1,ht,gW,gE,c2 p,hm p]
      · rw [e1,ht,qE,← hs]
        rw [Av c1 hc (ER ho) (fun p=>by rw [c2 p,gE]) (fun p hp hq=>(g2.1 rfl).2 p (gE.1 hq).1 (gE.1 hq).2 hp)]
  · rw [av (by simpa using c)]
    obtain rfl:i = e.bS.length:=by omega
    rw [List.take_length] at hg hm hs
    have KP:=xp (lo:=0) hc (fun y hy=>(hc.jO y hy).1) (by omega)
    have SP:fb r.l ≤ 64:=by rw [← nj hc]; exact xo hc 64
    rw [dD (B2 (n:=n) (by omega) (by omega) hg.nat (by rw [← hs]; omega))]
    refine ⟨_,rfl,?_⟩
    by_cases c0:0 ≤ e.r5
    · have e1:(bif decide (0 ≤ e.r5) == true then fb e.bS else default) = fb e.bS:=by simp [c0]
      rw [e1,cz (by omega) (by omega)]
      simp only [c0,decide_true,Bool.true_and,decide_eq_true_eq,true_and,← hs]
      exact ⟨fun h=>⟨hg,SP,by omega⟩,fun h=>by omega⟩
    · simp [c0]
end Go.Proofs.YtmdpbdhkmfjlhaaGreat
namespace Go.Proofs.YtmdpbdhkmfjlhaaGreat
open Go Go.Bw
structure Gx (l:List Rn):Prop where
  gd:ux l
  sum:fb l ≤ 64
theorem Cj:∀{l:List Rn},ta l→(l.length:Int) ≤ fb l
  | [],_=>by simp [fb]
  | y::r,h=>by
    have h1:=h y (by simp)
    have h2:=Cj (l:=r) fun z hz=>h z (by simp [hz])
    rw [gU,List.length_cons]; omega
theorem Gx.len {l:List Rn} (h:Gx l):l.length ≤ 64:=by have:=Cj h.gd.nat; have:=h.sum; omega
theorem Gx.pos {l:List Rn} (h:Gx l):0 ≤ fb l:=nk h.gd.nat
theorem Gv {l:List (Nat→Int)} {i:Nat}:(l.getD i default) 0 = (oI (l.getD i default)).At:=rfl
theorem JA {l:List (Nat→Int)} {i:Nat}:(l.getD i default) 1 = (oI (l.getD i default)).N:=rfl
theorem vm {l:List Rn} {y:Rn} {p:Int}:ep (l++[y]) p↔ep l p∨(y.At ≤ p∧p < y.At + y.N):=by rw [gW,gE]
theorem u9 {n:Nat} (hn:110 ≤ n) {x:jY} (hl:x.bS.length ≤ 80) (hr:∀y ∈ x.bS.map oI,DW y.At∧DW y.N):∃b,dK n x = some b∧(b = true↔ux (x.bS.map oI)∧0 ≤ x.r5∧x.r5 ≤ 32 * fb (x.bS.map oI)):=by
  unfold dK
  refine rH (fun (s i:Int) (t:Nat→Bool)=>0 ≤ i∧i ≤ x.bS.length∧ux ((x.bS.map oI).take i.toNat)∧s = fb ((x.bS.map oI).take i.toNat)∧∀p:Nat,p < 64→(t p = true↔ep ((x.bS.map oI).take i.toNat) p)) (fun _ i _=>((x.bS.length:Int) - i).toNat)
    (fun o=>∃b,o = some b∧(b = true↔ux (x.bS.map oI)∧0 ≤ x.r5∧x.r5 ≤ 32 * fb (x.bS.map oI))) ?_ n 0 0 _ ⟨by omega,by omega,ux.nil,rfl,fun p _=>⟨fun h=>by simp at h,fun h=>by simp [ep] at h⟩⟩ (by omega)
  rintro kk s i t ⟨i0,i1,hg,rfl,ht⟩ ih
  obtain ⟨i,rfl⟩:=Int.eq_ofNat_of_zero_le i0
  rw [Int.toNat_natCast] at *
  by_cases c:i < x.bS.length
  · have g1:dO (i:Int) x.bS.length = true:=cP (by omega) (by omega)
    have hi:i < (x.bS.map oI).length:=by rw [List.length_map]; exact c
    have hy:=hr _ (List.getElem_mem hi)
    have hgt:=D4 c
    have yy:(x.bS.map oI).take (i + 1) = (x.bS.map oI).take i++[(x.bS.map oI)[i]]:=List.take_succ_eq_append_getElem hi
    have nF:ux (x.bS.map oI)→ux ((x.bS.map oI).take (i + 1)):=fun h=>by
      rw [← List.take_append_drop (i + 1) (x.bS.map oI)] at h
      exact ⟨fun y hy=>h.jO y (List.mem_append_left _ hy),(List.pairwise_append.1 h.pw).1⟩
    have MY:fb ((x.bS.map oI).take i) ≤ 80 * 64:=by
      have:∀(l:List Rn),(∀y ∈ l,yx y.At y.N)→fb l ≤ l.length * 64:=by
        intro l
        induction l with
        | nil=>intro _; simp [fb]
        | cons y r ih=>intro h; have h1:=h y (by simp); have:=ih fun z hz=>h z (by simp [hz]); unfold yx at h1; rw [gU,List.length_cons]; omega
      have h2:=this _ hg.jO
      have h3:((x.bS.map oI).take i).length ≤ 80:=by rw [List.length_take,List.length_map]; omega
      omega
    have So:0 ≤ fb ((x.bS.map oI).take i):=nk hg.nat
    rw [yy] at nF
    generalize (x.bS.map oI)[i] = y at *
    rw [aC (by simpa using c)]
    simp only [Gv,JA,Int.toNat_natCast,hgt,aF g1]
    obtain ⟨⟨a1,a2⟩,n1,n2⟩:=hy
    by_cases hk:yx y.At y.N
    · obtain ⟨k1,k2,k3⟩:=hk
      rw [cz (x:=y.At + y.N) (by omega) (by omega),av (by simp; omega)]
      refine eD (fun (p:Int) (t:Nat→Bool)=>y.At ≤ p∧p ≤ y.At + y.N∧(∀q,y.At ≤ q→q < p→¬ ep ((x.bS.map oI).take i) q)∧∀q:Nat,q < 64→(t q = true↔ep ((x.bS.map oI).take i) q∨(y.At ≤ (q:Int)∧(q:Int) < p))) (fun p _=>(y.At + y.N - p).toNat)
        (fun o=>∃b,o = some b∧(b = true↔ux (x.bS.map oI)∧0 ≤ x.r5∧x.r5 ≤ 32 * fb (x.bS.map oI))) ?_ n _ t ⟨by omega,by omega,fun q _ _=>by omega,fun q hq=>by rw [ht q hq]; exact ⟨.inl,fun h=>h.elim id fun h=>by omega⟩⟩ (by omega)
      rintro k4 p t2 ⟨p0,p1,p2,p3⟩ N2
      obtain ⟨p,rfl⟩:=Int.eq_ofNat_of_zero_le (show 0 ≤ p by omega)
      by_cases d:(p:Int) < y.At + y.N
      · have e1:dO (p:Int) 64 = true:=cP (by omega) (by omega)
        rw [aC (by simpa using d),aF e1,Int.toNat_natCast]
        have hp:=p3 p (by omega)
        by_cases m:ep ((x.bS.map oI).take i) p
        · rw [aC (hp.2 (.inl m))]
          exact ⟨false,rfl,fun h=>(by cases h),fun ⟨h,_⟩=>absurd m ((oX.1 (nF h)).2.2 p p0 d)⟩
        · have:t2 p = false:=by
            cases hh:t2 p with
            | false=>rfl
            | true =>
              rcases hp.1 hh with h | h
              · exact absurd h m
              · omega
          rw [av this,aF e1,lt_eq,cz (by omega) (by omega)]
          refine N2 _ _ ⟨by omega,by omega,fun q q1 q2=>?_,fun q hq=>?_⟩ (by omega)
          · by_cases e:q = p
            · subst e; exact m
            · exact p2 q q1 (by omega)
          · rw [cE]
            by_cases e:q = p
            · subst e; simp; exact .inr ⟨p0,by omega⟩
            · rw [if_neg e,p3 q hq]
              exact ⟨fun h=>h.imp id fun h=>⟨h.1,by omega⟩,fun h=>h.imp id fun h=>⟨h.1,by omega⟩⟩
      · rw [av (by simpa using d),cz (by omega) (by omega),cz (by omega) (by omega)]
        have e1:((i:Int) + 1).toNat = i + 1:=by omega
        refine ih _ _ _ ⟨by omega,by omega,?_,?_,fun q hq=>?_⟩ (by omega)
        · rw [e1,yy]
          exact oX.2 ⟨hg,⟨k1,k2,k3⟩,fun q q1 q2=>p2 q q1 (by omega)⟩
        · rw [e1,yy,qE]; simp [fb]
        · rw [e1,yy,vm,p3 q hq]
          exact ⟨fun h=>h.imp id fun h=>⟨h.1,by omega⟩,fun h=>h.imp id fun h=>⟨h.1,by omega⟩⟩
    · have hb:(((((decide (y.N < 1) || decide (64 < y.N)) || decide (y.At < 0)) || decide (63 < y.At)) || decide (64 < (wr .i64 (y.At + y.N)))):Bool) = true:=by
        unfold yx at hk
        by_cases h1:y.N < 1
        · simp [h1]
        by_cases h2:64 < y.N
        · simp [h2]
        by_cases h3:y.At < 0
        · simp [h3]
        by_cases h4:63 < y.At
        · simp [h4]
        rw [cz (x:=y.At + y.N) (by omega) (by omega)]
        have:64 < y.At + y.N:=by omega
        simp [this]
      rw [aC hb]
      exact ⟨false,rfl,fun h=>(by cases h),fun ⟨h,_⟩=>absurd (oX.1 (nF h)).2.1 hk⟩
  · rw [av (by simpa using c)]
    have e:(x.bS.map oI).take i = x.bS.map oI:=List.take_of_length_le (by rw [List.length_map]; omega)
    rw [e] at hg ht ⊢
    have h2:fb (x.bS.map oI) ≤ 80 * 64∧0 ≤ fb (x.bS.map oI):=by
      have:∀(l:List Rn),(∀y ∈ l,yx y.At y.N)→fb l ≤ l.length * 64:=by
        intro l
        induction l with
        | nil=>intro _; simp [fb]
        | cons y r ih=>intro h; have h1:=h y (by simp); have:=ih fun z hz=>h z (by simp [hz]); unfold yx at h1; rw [gU,List.length_cons]; omega
      have h2:=this _ hg.jO
      rw [List.length_map] at h2
      exact ⟨by omega,nk hg.nat⟩
    rw [cz (by omega) (by omega)]
    refine ⟨_,rfl,?_⟩
    rw [Bool.and_eq_true,decide_eq_true_iff,decide_eq_true_iff]
    exact ⟨fun h=>⟨hg,h⟩,fun h=>h.2⟩
def AI (y:Rn):List Int:=(List.range y.N.toNat).map fun (k:Nat)=>y.At + (k:Int)
theorem xH {y:Rn} {p:Int}:p ∈ AI y↔y.At ≤ p∧p < y.At + y.N:=by
  unfold AI
  rw [List.mem_map]
  constructor
  · rintro ⟨k,hk,rfl⟩
    rw [List.mem_range] at hk; omega
  · intro h
    exact ⟨(p - y.At).toNat,by rw [List.mem_range]; omega,by omega⟩
theorem Ei (y:Rn):(AI y).Nodup:=by
  unfold AI
  rw [List.Nodup,List.pairwise_map]
  exact List.nodup_range.imp fun h e=>h (by omega)
theorem BL {α:Type} {P:List α→Prop} (h0:P []) (h1:∀l y,P l→P (l++[y])) (l:List α):P l:=by
  have key:∀(r:List α),P r.reverse:=by
    intro r
    induction r with
    | nil=>exact h0
    | cons y r ih=>rw [List.reverse_cons]; exact h1 _ _ ih
  have:=key l.reverse
  rwa [List.reverse_reverse] at this
theorem Ec:∀(l:List Rn),ux l→∃t:List Int,t.Nodup∧(∀p,p ∈ t↔ep l p)∧(t.length:Int) = fb l:=by
  intro l
  induction l using BL with
  | h0=>intro _; exact ⟨[],List.nodup_nil,by simp [ep],by simp [fb]⟩
  | h1 l y ih =>
    intro h
    obtain ⟨h1,h2,h3⟩:=oX.1 h
    obtain ⟨t,t1,t2,t3⟩:=ih h1
    refine ⟨t++AI y,List.nodup_append.2 ⟨t1,Ei y,fun a ha b hb e=>?_⟩,fun p=>?_,?_⟩
    · subst e
      have:=xH.1 hb
      exact h3 _ this.1 this.2 ((t2 _).1 ha)
    · rw [List.mem_append,t2,xH,vm]
    · have:=h2.1
      rw [List.length_append,qE]
      simp only [AI,List.length_map,List.length_range,fb,List.map_cons,List.map_nil,List.sum_cons,List.sum_nil] at *
      omega
theorem EJ {l:List Rn} (h:ux l):fb l ≤ 64:=by
  obtain ⟨t,t1,t2,t3⟩:=Ec l h
  have:=po 64 t1 fun p hp=>by
    obtain ⟨y,hy,h1,h2⟩:=(t2 p).1 hp
    obtain ⟨a,b,c⟩:=h.jO y hy
    exact ⟨by omega,by omega⟩
  omega
end Go.Proofs.YtmdpbdhkmfjlhaaGreat
namespace Go.Proofs.YtmdpbdhkmfjlhaaGreat
open Go Go.Bw
structure Tp (e:dL):Prop where
  gx:Gx e.bS
  lo:0 ≤ e.r5
  hi:e.r5 ≤ 32 * fb e.bS
end Go.Proofs.YtmdpbdhkmfjlhaaGreat
namespace Go.Proofs.YtmdpbdhkmfjlhaaGreat
open Go Go.Bw
structure cy where
 Up:Int
 bP:Int
 E:jY
 Cells:(Nat→Int)
abbrev bh:aL cy:=aL.via (LP (LI .i64) (LP (LI .i64) (LP g9 (LA (LI .i64) 8)))) (fun x=>(x.Up,x.bP,x.E,x.Cells))
abbrev o4:cy:=⟨0,0,dw,(fun _=>0)⟩
def iu:List Value:=[.int .i64 0]++([.int .i64 0]++(iw++((((LA (LI .i64) 8)).enc (fun _=>0)))))
theorem iq {A:World→Prop}:bh.rep A iu o4:=⟨_,_,rfl,rfl,⟨_,_,rfl,rfl,⟨_,_,rfl,jy,fl⟩⟩⟩
theorem eo:aE bh (LI .i64) 0 (fun x=>x.Up) (fun x v=>{ x with Up:=v }):=(aE.fst aE.id).via _ _ _ 0 rfl (fun _=>rfl) (fun _ _=>rfl)
theorem lu:aE bh (LI .i64) 1 (fun x=>x.bP) (fun x v=>{ x with bP:=v }):=(aE.snd (aE.fst aE.id)).via _ _ _ 1 rfl (fun _=>rfl) (fun _ _=>rfl)
theorem rZ:aE bh g9 2 (fun x=>x.E) (fun x v=>{ x with E:=v }):=(aE.snd (aE.snd (aE.fst aE.id))).via _ _ _ 2 rfl (fun _=>rfl) (fun _ _=>rfl)
theorem je:aE bh (LA (LI .i64) 8) 4 (fun x=>x.Cells) (fun x v=>{ x with Cells:=v }):=(aE.snd (aE.snd (aE.snd aE.id))).via _ _ _ 4 rfl (fun _=>rfl) (fun _ _=>rfl)
structure ah where
 B:aJ
 R:(Nat→cy)
abbrev ay:aL ah:=aL.via (LP aI (LA bh 32)) (fun x=>(x.B,x.R))
abbrev fk:ah:=⟨jm,(fun _=>o4)⟩
def aQ:List Value:=((aI).enc jm)++((flat (fun _=>iu) 32))
theorem bp {A:World→Prop}:ay.rep A aQ fk:=⟨_,_,rfl,fl,⟨_,rfl,fun _ _=>iq⟩⟩
theorem bZ:aE ay aI 0 (fun x=>x.B) (fun x v=>{ x with B:=v }):=(aE.fst aE.id).via _ _ _ 0 rfl (fun _=>rfl) (fun _ _=>rfl)
theorem dk:aE ay (LA bh 32) 64 (fun x=>x.R) (fun x v=>{ x with R:=v }):=(aE.snd aE.id).via _ _ _ 64 rfl (fun _=>rfl) (fun _ _=>rfl)
def bB (n:Nat) (a0:ah) (a1:Int):Option Bool:=
 bd (bY n a0.B a1) fun aM =>
 some (decide (0 ≤ aM))
theorem bJ {n a0 a1 r K} [bn K] {cv} (f0:(ay).rep K cv a0) (h:bB n a0 a1 = some r):pD Tryz.prog 8 [A cv, .int .i64 a1] K (.bool r):=by
 unfold bB at h
 refine fo Tryz.func8 (by kernel_rfl) rfl Tryz.ntmps8 rfl fun cx _ hro cZ hpre=>?_
 refine SC 2 rf ?_
 refine W1 rf (aV rfl) fun b2=>?_
 obtain ⟨aM,bX,h⟩:=aS h
 refine SL 6 rf ?_
 refine ai rfl (bf rfl (bq.iff.1 (bZ.get f0)) (aT _ _)) ?_
 refine ai rfl (ak rfl) ?_
 refine CV (dz bX) rf rf ?_
 refine SL 5 rf ?_
 have h:=sj h; subst h
 exact RV rf (rt rf rn) rf
structure nP where
 jQ:bA
abbrev jr:aL nP:=aL.via aD (fun x=>x.jQ)
abbrev rh:nP:=⟨iI⟩
theorem br:aE jr aD 0 (fun x=>x.jQ) (fun x v=>{ x with jQ:=v }):=aE.id.via _ _ _ 0 rfl (fun _=>rfl) (fun _ _=>rfl)
structure bT where
 Up:Int
 bP:Int
 E:dL
 Cells:(Nat→Int)
abbrev aY:aL bT:=aL.via (LP (LI .u32) (LP (LI .i64) (LP dJ (LA (LI .u32) 8)))) (fun x=>(x.Up,x.bP,x.E,x.Cells))
abbrev oZ:bT:=⟨0,0,eY,(fun _=>0)⟩
def eP:List Value:=[.int .u32 0]++([.int .i64 0]++(gT++((((LA (LI .u32) 8)).enc (fun _=>0)))))
theorem eO {A:World→Prop}:aY.rep A eP oZ:=⟨_,_,rfl,rfl,⟨_,_,rfl,rfl,⟨_,_,rfl,jh,fl⟩⟩⟩
theorem cU:aE aY (LI .u32) 0 (fun x=>x.Up) (fun x v=>{ x with Up:=v }):=(aE.fst aE.id).via _ _ _ 0 rfl (fun _=>rfl) (fun _ _=>rfl)
theorem o8:aE aY (LI .i64) 1 (fun x=>x.bP) (fun x v=>{ x with bP:=v }):=(aE.snd (aE.fst aE.id)).via _ _ _ 1 rfl (fun _=>rfl) (fun _ _=>rfl)
theorem rY:aE aY dJ 2 (fun x=>x.E) (fun x v=>{ x with E:=v }):=(aE.snd (aE.snd (aE.fst aE.id))).via _ _ _ 2 rfl (fun _=>rfl) (fun _ _=>rfl)
theorem jd:aE aY (LA (LI .u32) 8) 4 (fun x=>x.Cells) (fun x v=>{ x with Cells:=v }):=(aE.snd (aE.snd (aE.snd aE.id))).via _ _ _ 4 rfl (fun _=>rfl) (fun _ _=>rfl)
structure aq where
 book:nP
 regions:(Nat→bT)
abbrev aj:aL aq:=aL.via (LP jr (LA aY 32)) (fun x=>(x.book,x.regions))
abbrev fU:aq:=⟨rh,(fun _=>oZ)⟩
def aN:List Value:=((jr).enc rh)++((flat (fun _=>eP) 32))
theorem aX {A:World→Prop}:aj.rep A aN fU:=⟨_,_,rfl,fl,⟨_,rfl,fun _ _=>eO⟩⟩
theorem aR:aE aj jr 0 (fun x=>x.book) (fun x v=>{ x with book:=v }):=(aE.fst aE.id).via _ _ _ 0 rfl (fun _=>rfl) (fun _ _=>rfl)
theorem dM:aE aj (LA aY 32) 96 (fun x=>x.regions) (fun x v=>{ x with regions:=v }):=(aE.snd aE.id).via _ _ _ 96 rfl (fun _=>rfl) (fun _ _=>rfl)
def fu (n:Nat) (a0:aq) (a1:Int):Option Int:=
 bd (bR n a1) fun aM =>
 gu (dO aM.1 32) <|
 bd (bk n a0.book.jQ ((a0.regions (Int.toNat aM.1)).Up)) fun hJ =>
 cn (hJ) (
 some ((a0.regions (Int.toNat aM.1)).Up)) (
 some 0)
theorem nG {n a0 a1 r K} [bn K] {cv} (f0:(aj).rep K cv a0) (h:fu n a0 a1 = some r):pD Tryz.prog 69 [A cv, .int .u32 a1] K (.int .u32 r):=by
 unfold fu at h
 refine fo Tryz.func69 (by kernel_rfl) rfl Tryz.ntmps69 rfl fun cx _ hro cZ hpre=>?_
 refine SC 2 rf ?_
 refine W1 rf (aV rfl) fun b2=>?_
 obtain ⟨aM,bX,h⟩:=aS h
 refine SL 6 rf ?_
 refine CV (cL bX) rf rf ?_
 obtain ⟨qj,h⟩:=cq h
 refine SL 12 rf ?_
 refine ai rfl (cm (m:=(Int.toNat aM.1)) rfl rfl (az qj).1 (az qj).2) ?_
 refine ai rfl (fC rfl) ?_
 refine ai rfl (bL rfl (((dM.comp (aE.idx (L:=aY) (m:=32) (k:=12) ((Int.toNat aM.1)) (az qj).2 rfl)).comp cU).int f0)) ?_
 obtain ⟨hJ,jE,h⟩:=aS h
 refine SL 7 rf ?_
 refine ai rfl (bf rfl (bq.iff.1 ((aR.c0 br).get f0)) (aT _ _)) ?_
 refine ai rfl (ak rfl) ?_
 refine CV (bD jE) rf rf ?_
 refine SL 2 rf ?_
 refine dN h rf (fun hc h=>?_) fun hc h=>?_
 ·
  refine SC 8 rf ?_
  have h:=sj h; subst h
  exact RV rf (rt rf rn) rf
 ·
  refine SC 8 rf ?_
  have h:=sj h; subst h
  exact RV rf (rt rf rn) rf
def dZ (n:Nat) (a0:aq) (a1:Int):Option (bT × Int):=
 bd (bk n a0.book.jQ a1) fun aM =>
 cn ((!aM)) (
 lt ({ Up:=0,bP:=0,E:=eY,Cells:=(fun _=>0) }:bT) fun bE =>
 some (bE,4)) (
 bd (bR n a1) fun dQ =>
 gu (dO dQ.1 32) <|
 lt ((a0.regions (Int.toNat dQ.1)):bT) fun dV =>
 bd (fu n a0 a1) fun ia =>
 lt ({ dV with Up:=ia }:bT) fun gq =>
 some (gq,0))
theorem iK {n a0 a1 r K} [bn K] {cv} (f0:(aj).rep K cv a0) (h:dZ n a0 a1 = some r):pY Tryz.prog 31 [A cv, .int .u32 a1] K (fun J v=>∃u0,v = (.tuple #[A u0, .int .i64 r.2])∧(aY).rep (fun w=>K w∧J w) u0 (r.1)):=by
 unfold dZ at h
 refine fo Tryz.func31 (by kernel_rfl) rfl Tryz.ntmps31 rfl fun cx _ hro cZ hpre=>?_
 refine SC 2 rf ?_
 refine W1 rf (aV rfl) fun b2=>?_
 refine W1 rf (bz (hz:=(⟨by kernel_rfl⟩ : cA Tryz.prog 38 eP))) fun b4=>?_
 obtain ⟨aM,bX,h⟩:=aS h
 refine SL 8 rf ?_
 refine ai rfl (bf rfl (bq.iff.1 ((aR.c0 br).get f0)) (aT _ _)) ?_
 refine ai rfl (ak rfl) ?_
 refine CV (bD bX) rf rf ?_
 refine SL 3 rf ?_
 refine dN h rf (fun hc h=>?_) fun hc h=>?_
 ·
  obtain ⟨bE,fc,h⟩:=cj h
  refine SC 2 rf ?_
  obtain ⟨C7,HN,f24⟩ : ∃cc,(((LI .u32).enc 0)++(((LI .i64).enc 0)++(gT++((LA (LI .u32) 8).enc (fun _=>0))))) = cc∧(aY).rep (Hs []) cc bE:=⟨_,rfl,by rw [fc]; exact ⟨_,_,rfl,fl,⟨_,_,rfl,fl,⟨_,_,rfl,jh,fl⟩⟩⟩⟩
  refine ai rfl (dI (cs:=C7) rfl (by rw [← HN]; rfl)) ?_
  refine ST (C:=(Hs [])) bE (aE.id (L:=aY)) eO (mo f24) rf rf rf rf rf fun DT f26=>?_
  refine SL 5 rf ?_
  have h:=sj h; subst h
  exact lB [] rf rf (ra rf (aL.len _ f26) (rt rf rn)) ⟨_,rfl,(mo f26)⟩
 ·
  obtain ⟨dQ,qe,h⟩:=aS h
  refine SC 5 rf ?_
  refine CV (cL qe) rf rf ?_
  obtain ⟨zc,h⟩:=cq h
  obtain ⟨dV,nC,h⟩:=cj h
  refine SL 11 rf ?_
  refine ai rfl (cm (m:=(Int.toNat dQ.1)) rfl rfl (az zc).1 (az zc).2) ?_
  obtain ⟨Ag,CT,f31⟩:=vQ ((dM.comp (aE.idx (L:=aY) (m:=32) (k:=12) ((Int.toNat dQ.1)) (az zc).2 rfl)).get f0)
  refine ai rfl (bf rfl CT (aL.len _ f31)) ?_
  refine W1 rf (bz (hz:=(⟨by kernel_rfl⟩ : cA Tryz.prog 38 eP))) fun b8=>?_
  refine ST (C:=K) dV (aE.id (L:=aY)) eO (mo f31) nC rf rf rf rf fun C6 f34=>?_
  obtain ⟨ia,oT,h⟩:=aS h
  obtain ⟨gq,mj,h⟩:=cj h
  refine SL 4 rf ?_
  refine ai rfl (ae rfl (aL.len _ f0)) ?_
  refine ai rfl (ak rfl) ?_
  refine CV (nG (K:=K) (mo f0) oT) rf rf ?_
  refine ai rfl (aO rfl) ?_
  refine ST (C:=K) gq cU (mo f34) fl mj rf rf rf rf fun Je f38=>?_
  refine SL 4 rf ?_
  refine ai rfl (ae rfl (aL.len _ f38)) ?_
  refine ST (C:=K) gq (aE.id (L:=aY)) eO (mo f38) rf rf rf rf rf fun Q3 f40=>?_
  refine SL 4 rf ?_
  have h:=sj h; subst h
  exact lB [] rf rf (ra rf (aL.len _ f40) (rt rf rn)) ⟨_,rfl,(mo f40)⟩
def eV (n:Nat) (a0:ah) (a1:Int):Option (cy × Int):=
 bd (bY n a0.B a1) fun aM =>
 cn (decide (aM < 0)) (
 lt ({ Up:=0,bP:=0,E:=dw,Cells:=(fun _=>0) }:cy) fun bE =>
 some (bE,4)) (
 gu (dO aM 32) <|
 lt ((a0.R (Int.toNat aM)):cy) fun dj =>
 some (dj,0))
theorem mY {n a0 a1 r K} [bn K] {cv} (f0:(ay).rep K cv a0) (h:eV n a0 a1 = some r):pY Tryz.prog 32 [A cv, .int .i64 a1] K (fun J v=>∃u0,v = (.tuple #[A u0, .int .i64 r.2])∧(bh).rep (fun w=>K w∧J w) u0 (r.1)):=by
 unfold eV at h
 refine fo Tryz.func32 (by kernel_rfl) rfl Tryz.ntmps32 rfl fun cx _ hro cZ hpre=>?_
 refine SC 2 rf ?_
 refine W1 rf (aV rfl) fun b2=>?_
 refine W1 rf (bz (hz:=(⟨by kernel_rfl⟩ : cA Tryz.prog 50 iu))) fun b4=>?_
 obtain ⟨aM,bX,h⟩:=aS h
 refine SL 6 rf ?_
 refine ai rfl (bf rfl (bq.iff.1 (bZ.get f0)) (aT _ _)) ?_
 refine ai rfl (ak rfl) ?_
 refine CV (dz bX) rf rf ?_
 refine SL 10 rf ?_
 refine dN h rf (fun hc h=>?_) fun hc h=>?_
 ·
  obtain ⟨bE,fc,h⟩:=cj h
  refine SC 2 rf ?_
  obtain ⟨C7,HN,f24⟩ : ∃cc,(((LI .i64).enc 0)++(((LI .i64).enc 0)++(iw++((LA (LI .i64) 8).enc (fun _=>0))))) = cc∧(bh).rep (Hs []) cc bE:=⟨_,rfl,by rw [fc]; exact ⟨_,_,rfl,fl,⟨_,_,rfl,fl,⟨_,_,rfl,jy,fl⟩⟩⟩⟩
  refine ai rfl (dI (cs:=C7) rfl (by rw [← HN]; rfl)) ?_
  refine ST (C:=(Hs [])) bE (aE.id (L:=bh)) iq (mo f24) rf rf rf rf rf fun DT f26=>?_
  refine SL 5 rf ?_
  have h:=sj h; subst h
  exact lB [] rf rf (ra rf (aL.len _ f26) (rt rf rn)) ⟨_,rfl,(mo f26)⟩
 ·
  obtain ⟨tP,h⟩:=cq h
  obtain ⟨dj,tH,h⟩:=cj h
  refine SC 6 rf ?_
  refine ai rfl (cm (m:=(Int.toNat aM)) rfl rfl (az tP).1 (az tP).2) ?_
  obtain ⟨FV,Px,f30⟩:=vQ ((dk.comp (aE.idx (L:=bh) (m:=32) (k:=12) ((Int.toNat aM)) (az tP).2 rfl)).get f0)
  refine ai rfl (bf rfl Px (aL.len _ f30)) ?_
  refine ST (C:=K) dj (aE.id (L:=bh)) iq (mo f30) tH rf rf rf rf fun Q4 f33=>?_
  refine SL 4 rf ?_
  have h:=sj h; subst h
  exact lB [] rf rf (ra rf (aL.len _ f33) (rt rf rn)) ⟨_,rfl,(mo f33)⟩
def iO (n:Nat) (a0:Int):Option Bool:=
 some (decide (0 ≤ a0) && decide (a0 ≤ 64))
theorem pO {n a0 r}  (h:iO n a0 = some r):yz Tryz.prog 70 [.int .i64 a0] (.bool r):=by
 unfold iO at h
 refine fI Tryz.func70 (by kernel_rfl) rfl Tryz.ntmps70 rfl (fun cx cZ hpre hro=>?_)
 refine SC 10 rf ?_
 refine GB rf rf rf (fun hb=>ak rfl) ?_
 refine GB rf rf rf (fun hb=>o6 (bC rfl hb) rfl) ?_
 refine ai rfl (bV rfl rfl) ?_
 refine SL 4 rf ?_
 have h:=sj h; subst h
 exact RV rf (rt rf rn) rf
def eA (n:Nat) (a0:aq) (a1:Int) (a2:bT):Option (aq × Int):=
 bd (bk n a0.book.jQ a1) fun aM =>
 cn ((!aM)) (
 some (a0,4)) (
 bd (iO n a2.bP) fun fF =>
 cl ((!fF) == false) (fJ n a2.E) default fun dQ =>
 cn (((!fF) || (!dQ))) (
 some (a0,2)) (
 bd (bR n a1) fun dV =>
 gu (dO dV.1 32) <|
 lt ({ a2 with Up:=(a0.regions (Int.toNat dV.1)).Up }:bT) fun cT =>
 gu (dO dV.1 32) <|
 lt ({ a0 with regions:=(eG a0.regions (Int.toNat dV.1) cT) }:aq) fun ez =>
 some (ez,0)))
theorem mV {n a0 a1 a2 r K} [bn K] {cv} (f0:(aj).rep K cv a0) {xg:List Value} (f2:(aY).rep K xg a2) (h:eA n a0 a1 a2 = some r):pY Tryz.prog 33 [A cv, .int .u32 a1,A xg] K (fun J v=>∃u0,v = (.tuple #[A u0, .int .i64 r.2])∧(aj).rep (fun w=>K w∧J w) u0 (r.1)):=by
 unfold eA at h
 refine fo Tryz.func33 (by kernel_rfl) rfl Tryz.ntmps33 rfl fun cx _ hro cZ hpre=>?_
 refine SC 2 rf ?_
 refine W1 rf (aV rfl) fun b3=>?_
 refine W1 rf (aV rfl) fun b5=>?_
 refine W1 rf (bz (hz:=(⟨by kernel_rfl⟩ : cA Tryz.prog 41 aN))) fun b6=>?_
 obtain ⟨aM,bX,h⟩:=aS h
 refine SL 9 rf ?_
 refine ai rfl (bf rfl (bq.iff.1 ((aR.c0 br).get f0)) (aT _ _)) ?_
 refine ai rfl (ak rfl) ?_
 refine CV (bD bX) rf rf ?_
 refine SL 4 rf ?_
 refine dN h rf (fun hc h=>?_) fun hc h=>?_
 ·
  refine SC 2 rf ?_
  refine ai rfl (ae rfl (aL.len _ f0)) ?_
  refine ST (C:=K) a0 (aE.id (L:=aj)) aX (mo f0) rf rf rf rf rf fun Ip f23=>?_
  refine SL 6 rf ?_
  have h:=sj h; subst h
  exact lB [] rf rf (ra rf (aL.len _ f23) (rt rf rn)) ⟨_,rfl,(mo f23)⟩
 ·
  obtain ⟨fF,nD,h⟩:=aS h
  obtain ⟨dQ,qe,_,h⟩:=gQ h
  refine SC 3 rf ?_
  refine ai rfl (bL rfl (o8.int f2)) ?_
  refine CV (pO nD) rf rf ?_
  refine SL 2 rf ?_
  refine GB rf rf rf (fun hb=>aO rfl) ?_
  obtain ⟨Io,Py,f27⟩:=vQ (rY.get f2)
  refine GB rf rf rf (fun hb=>bf (bC rfl hb) Py (aL.len _ f27)) ?_
  refine GB rf rf rf (fun hb=>ck (pK (K:=K) (mo f27) (qe hb)) (aB (bC rfl hb) rfl) kn) ?_
  refine GB rf rf rf (fun hb=>ja (bC rfl hb)) ?_
  refine ai rfl (eF rfl rfl) ?_
  refine SL 3 rf ?_
  refine dN h rf (fun hc h=>?_) fun hc h=>?_
  ·
   refine SC 2 rf ?_
   refine ai rfl (ae rfl (aL.len _ f0)) ?_
   refine ST (C:=K) a0 (aE.id (L:=aj)) aX (mo f0) rf rf rf rf rf fun FV f30=>?_
   refine SL 6 rf ?_
   have h:=sj h; subst h
   exact lB [] rf rf (ra rf (aL.len _ f30) (rt rf rn)) ⟨_,rfl,(mo f30)⟩
  ·
   obtain ⟨dV,nC,h⟩:=aS h
   refine SC 6 rf ?_
   refine CV (cL nC) rf rf ?_
   obtain ⟨tO,h⟩:=cq h
   obtain ⟨cT,qd,h⟩:=cj h
   refine SL 11 rf ?_
   refine ai rfl (cm (m:=(Int.toNat dV.1)) rfl rfl (az tO).1 (az tO).2) ?_
   refine ai rfl (fC rfl) ?_
   refine ai rfl (bL rfl (((dM.comp (aE.idx (L:=aY) (m:=32) (k:=12) ((Int.toNat dV.1)) (az tO).2 rfl)).comp cU).int f0)) ?_
   refine ai rfl (aO rfl) ?_
   refine ST (C:=K) cT cU (mo f2) fl qd rf rf rf rf fun S7 f36=>?_
   obtain ⟨xR,h⟩:=cq h
   obtain ⟨ez,uH,h⟩:=cj h
   refine SL 5 rf ?_
   refine ai rfl (ae rfl (aL.len _ f36)) ?_
   refine ai rfl (aO rfl) ?_
   refine ai rfl (cm (m:=(Int.toNat dV.1)) rfl rfl (az xR).1 (az xR).2) ?_
   refine ST (C:=K) ez (dM.comp (aE.idx (L:=aY) (m:=32) (k:=12) ((Int.toNat dV.1)) (az xR).2 rfl)) (mo f0) (mo f36) uH rf rf rf rf fun Q3 f40=>?_
   refine SL 4 rf ?_
   refine ai rfl (ae rfl (aL.len _ f40)) ?_
   refine ST (C:=K) ez (aE.id (L:=aj)) aX (mo f40) rf rf rf rf rf fun Jd f42=>?_
   refine SL 4 rf ?_
   have h:=sj h; subst h
   exact lB [] rf rf (ra rf (aL.len _ f42) (rt rf rn)) ⟨_,rfl,(mo f42)⟩
def eU (n:Nat) (a0:ah) (a1:Int) (a2:cy):Option (ah × Int):=
 bd (bY n a0.B a1) fun aM =>
 cn (decide (aM < 0)) (
 some (a0,4)) (
 cl ((decide (a2.bP < 0) || decide (64 < a2.bP)) == false) (dK n a2.E) default fun cH =>
 cn (((decide (a2.bP < 0) || decide (64 < a2.bP)) || (!cH))) (
 some (a0,2)) (
 gu (dO aM 32) <|
 lt ({ a2 with Up:=(a0.R (Int.toNat aM)).Up }:cy) fun dV =>
 gu (dO aM 32) <|
 lt ({ a0 with R:=(eG a0.R (Int.toNat aM) dV) }:ah) fun gq =>
 some (gq,0)))
theorem qZ {n a0 a1 a2 r K} [bn K] {cv} (f0:(ay).rep K cv a0) {xg:List Value} (f2:(bh).rep K xg a2) (h:eU n a0 a1 a2 = some r):pY Tryz.prog 34 [A cv, .int .i64 a1,A xg] K (fun J v=>∃u0,v = (.tuple #[A u0, .int .i64 r.2])∧(ay).rep (fun w=>K w∧J w) u0 (r.1)):=by
 unfold eU at h
 refine fo Tryz.func34 (by kernel_rfl) rfl Tryz.ntmps34 rfl fun cx _ hro cZ hpre=>?_
 refine SC 2 rf ?_
 refine W1 rf (aV rfl) fun b3=>?_
 refine W1 rf (aV rfl) fun b5=>?_
 refine W1 rf (bz (hz:=(⟨by kernel_rfl⟩ : cA Tryz.prog 53 aQ))) fun b6=>?_
 obtain ⟨aM,bX,h⟩:=aS h
 refine SL 6 rf ?_
 refine ai rfl (bf rfl (bq.iff.1 (bZ.get f0)) (aT _ _)) ?_
 refine ai rfl (ak rfl) ?_
 refine CV (dz bX) rf rf ?_
 refine SL 10 rf ?_
 refine dN h rf (fun hc h=>?_) fun hc h=>?_
 ·
  refine SC 2 rf ?_
  refine ai rfl (ae rfl (aL.len _ f0)) ?_
  refine ST (C:=K) a0 (aE.id (L:=ay)) bp (mo f0) rf rf rf rf rf fun Ip f23=>?_
  refine SL 5 rf ?_
  have h:=sj h; subst h
  exact lB [] rf rf (ra rf (aL.len _ f23) (rt rf rn)) ⟨_,rfl,(mo f23)⟩
 ·
  obtain ⟨cH,lE,_,h⟩:=gQ h
  refine SC 6 rf ?_
  refine ai rfl (bL rfl (lu.int f2)) ?_
  refine SL 2 rf ?_
  refine GB rf rf rf (fun hb=>aO rfl) ?_
  refine GB rf rf rf (fun hb=>bL (bC rfl hb) (lu.int f2)) ?_
  refine GB rf rf rf (fun hb=>nc (bC rfl hb) rfl) ?_
  refine ai rfl (eF rfl rfl) ?_
  refine ai rfl (ak rfl) ?_
  refine GB rf rf rf (fun hb=>aO rfl) ?_
  obtain ⟨DT,Pz,f26⟩:=vQ (rZ.get f2)
  refine GB rf rf rf (fun hb=>bf (bC rfl hb) Pz (aL.len _ f26)) ?_
  refine GB rf rf rf (fun hb=>ck (qq (K:=K) (mo f26) (lE hb)) (aB (bC rfl hb) rfl) kn) ?_
  refine GB rf rf rf (fun hb=>ja (bC rfl hb)) ?_
  refine ai rfl (eF rfl rfl) ?_
  refine SL 2 rf ?_
  refine dN h rf (fun hc h=>?_) fun hc h=>?_
  ·
   refine SC 2 rf ?_
   refine ai rfl (ae rfl (aL.len _ f0)) ?_
   refine ST (C:=K) a0 (aE.id (L:=ay)) bp (mo f0) rf rf rf rf rf fun Bt f29=>?_
   refine SL 5 rf ?_
   have h:=sj h; subst h
   exact lB [] rf rf (ra rf (aL.len _ f29) (rt rf rn)) ⟨_,rfl,(mo f29)⟩
  ·
   obtain ⟨qP,h⟩:=cq h
   obtain ⟨dV,nC,h⟩:=cj h
   refine SC 6 rf ?_
   refine ai rfl (cm (m:=(Int.toNat aM)) rfl rfl (az qP).1 (az qP).2) ?_
   refine ai rfl (fC rfl) ?_
   refine ai rfl (bL rfl (((dk.comp (aE.idx (L:=bh) (m:=32) (k:=12) ((Int.toNat aM)) (az qP).2 rfl)).comp eo).int f0)) ?_
   refine ai rfl (aO rfl) ?_
   refine ST (C:=K) dV eo (mo f2) fl nC rf rf rf rf fun C6 f34=>?_
   obtain ⟨oW,h⟩:=cq h
   obtain ⟨gq,mj,h⟩:=cj h
   refine SL 5 rf ?_
   refine ai rfl (ae rfl (aL.len _ f34)) ?_
   refine ai rfl (aO rfl) ?_
   refine ai rfl (cm (m:=(Int.toNat aM)) rfl rfl (az oW).1 (az oW).2) ?_
   refine ST (C:=K) gq (dk.comp (aE.idx (L:=bh) (m:=32) (k:=12) ((Int.toNat aM)) (az oW).2 rfl)) (mo f0) (mo f34) mj rf rf rf rf fun Je f38=>?_
   refine SL 4 rf ?_
   refine ai rfl (ae rfl (aL.len _ f38)) ?_
   refine ST (C:=K) gq (aE.id (L:=ay)) bp (mo f38) rf rf rf rf rf fun Q3 f40=>?_
   refine SL 4 rf ?_
   have h:=sj h; subst h
   exact lB [] rf rf (ra rf (aL.len _ f40) (rt rf rn)) ⟨_,rfl,(mo f40)⟩
def fN (n:Nat) (a0:ah):Option (List Int):=
 c9 (fun Cn (cH:(List Int)) (cI:Int) =>
 cn (decide (cI < 32)) (
 gu (dO cI 32) <|
 cn (((a0.B.Is (Int.toNat cI)) == 1)) (
 bd (fg n a0.B cI) fun ia =>
 gu (j9 cH.length 1 8) <|
 lt (cH++([ia]):List Int) fun eR =>
 Cn eR (wr .i64 (cI + 1))) (
 Cn cH (wr .i64 (cI + 1)))) (
 some cH)) n ([]) 0
theorem j7 {n a0 r K} [bn K] {cv} (f0:(ay).rep K cv a0) (h:fN n a0 = some r):Bw.Fn (α:=Value) Tryz.prog 36 [A cv] K [] (fun v=>ko v r.length) (fun v=>v) (fun v=>[Row v 3 1 (LI .i64) r]):=by
 unfold fN at h
 refine fo Tryz.func36 (by kernel_rfl) rfl Tryz.ntmps36 rfl fun cx _ hro cZ hpre=>?_
 refine SC 2 rf ?_
 refine W1 rf (aV rfl) fun b1=>?_
 refine SL 15 rf ?_
 refine kW 3 1 (LI .i64) ?_
 obtain ⟨Cl,xP,h⟩:=kC h
 refine LO (β:=(List Int) × Int × Value) [1] [0,1] (fun (m32,cH,cI,qD)=>[(3,qD),(4, .int .i64 cI)]) (fun (m32,cH,cI,qD)=>[Row qD 3 1 (LI .i64) cH, .cells b1 53 cv]) (fun (m32,cH,cI,qD)=>ko qD cH.length∧c9 Cl m32 cH cI = some r) (n,[],0, .slice none 0 0) ⟨⟨_,_,rfl⟩,h⟩ rf rf rf ?_
 rintro m32 ⟨cH,cI,qD⟩ ⟨pG,h⟩
 replace h:=kB xP h; obtain ⟨m32,rfl,h⟩:=h
 refine SC 7 rf ?_
 refine dN h rf (fun hc h=>?_) fun hc h=>?_
 ·
  obtain ⟨zb,h⟩:=cq h
  refine SC 9 rf ?_
  refine ai rfl (cm (m:=(Int.toNat cI)) rfl rfl (az zb).1 (az zb).2) ?_
  refine ai rfl (bL rfl (((bZ.c0 eZ).comp (aE.idx (L:=(LI .i64)) (m:=32) (k:=1) ((Int.toNat cI)) (az zb).2 rfl)).int f0)) ?_
  refine SL 3 rf ?_
  refine dN h rf (fun hc h=>?_) fun hc h=>?_
  ·
   obtain ⟨ia,oT,h⟩:=aS h
   obtain ⟨pH,h⟩:=cq h
   obtain ⟨eR,qc,h⟩:=cj h
   refine SC 3 rf ?_
   refine ai rfl (bf rfl (bq.iff.1 (bZ.get f0)) (aT _ _)) ?_
   refine ai rfl (ak rfl) ?_
   refine CV (iz oT) rf rf ?_
   refine ef rfl (ki (LI .i64) ia rfl rfl rfl rfl (by decide) (by decide)) (fun Ra _=>?_)
   refine ef rfl (jn (sz:=1) (L:=(LI .i64)) (xs:=cH) (y:=ia) (bytes:=8) rfl rfl rfl (dA pH).1 (dA pH).2) (fun RN EE=>?_)
   rw [← qc] at EE; rw [← qc]
   refine SL 9 rf ?_
   exact LN [1,2] (eR,wr .i64 (cI + 1),RN) ⟨EE,h⟩ rf rf rf
  ·
   refine SC 8 rf ?_
   exact LN [0,1] (cH,wr .i64 (cI + 1),qD) ⟨pG,h⟩ rf rf rf
 ·
  refine SC 12 rf ?_
  have h:=sj h; subst h
  exact dF qD rfl (.tmp rfl .nil) pG rfl (ks:=[0]) rfl (by decide)
def eS (n:Nat) (a0:aq) (a1:Int) (a2:Int):Option (aq × Int × Int):=
 cl ((a1 != 0) == true) (bk n a0.book.jQ a1) default fun aM =>
 cn (((a1 != 0) && (!aM))) (
 some (a0,0,4)) (
 bd (iO n a2) fun fF =>
 cn ((!fF)) (
 some (a0,0,2)) (
 bd (fG n a0.book.jQ) fun fa =>
 cn ((!fa.2.2)) (
 some (a0,0,7)) (
 lt ({ a0 with book:={ a0.book with jQ:=fa.1 } }:aq) fun jR =>
 bd (bR n fa.2.1) fun gq =>
 lt ({ Up:=a1,bP:=a2,E:=eY,Cells:=(fun _=>0) }:bT) fun eR =>
 gu (dO gq.1 32) <|
 lt ({ jR with regions:=(eG jR.regions (Int.toNat gq.1) eR) }:aq) fun dX =>
 some (dX,fa.2.1,0))))
theorem qW {n a0 a1 a2 r K} [bn K] {cv} (f0:(aj).rep K cv a0) (h:eS n a0 a1 a2 = some r):pY Tryz.prog 46 [A cv, .int .u32 a1, .int .i64 a2] K (fun J v=>∃u0,v = (.tuple #[A u0, .int .u32 r.2.1, .int .i64 r.2.2])∧(aj).rep (fun w=>K w∧J w) u0 (r.1)):=by
 unfold eS at h
 refine fo Tryz.func46 (by kernel_rfl) rfl Tryz.ntmps46 rfl fun cx _ hro cZ hpre=>?_
 refine SC 2 rf ?_
 refine W1 rf (aV rfl) fun b3=>?_
 refine W1 rf (bz (hz:=(⟨by kernel_rfl⟩ : cA Tryz.prog 41 aN))) fun b6=>?_
 obtain ⟨aM,bX,_,h⟩:=gQ h
 refine SL 11 rf ?_
 refine GB rf rf rf (fun hb=>aO rfl) ?_
 refine GB rf rf rf (fun hb=>aO (bC rfl hb)) ?_
 refine GB rf rf rf (fun hb=>bf (bC rfl hb) (bq.iff.1 ((aR.c0 br).get f0)) (aT _ _)) ?_
 refine GB rf rf rf (fun hb=>ak rfl) ?_
 refine GB rf rf rf (fun hb=>ck (bD (bX hb)) (aB (bC rfl hb) (aB (bC rfl hb) rfl)) (fun _ _ _=>trivial)) ?_
 refine GB rf rf rf (fun hb=>ja (bC rfl hb)) ?_
 refine ai rfl (bV rfl rfl) ?_
 refine SL 3 rf ?_
 refine dN h rf (fun hc h=>?_) fun hc h=>?_
 ·
  refine SC 2 rf ?_
  refine ai rfl (ae rfl (aL.len _ f0)) ?_
  refine ST (C:=K) a0 (aE.id (L:=aj)) aX (mo f0) rf rf rf rf rf fun Ip f23=>?_
  refine SL 7 rf ?_
  have h:=sj h; subst h
  exact lB [] rf rf (ra rf (aL.len _ f23) (rt rf (rt rf rn))) ⟨_,rfl,(mo f23)⟩
 ·
  obtain ⟨fF,nD,h⟩:=aS h
  refine SC 3 rf ?_
  refine CV (pO nD) rf rf ?_
  refine SL 4 rf ?_
  refine dN h rf (fun hc h=>?_) fun hc h=>?_
  ·
   refine SC 2 rf ?_
   refine ai rfl (ae rfl (aL.len _ f0)) ?_
   refine ST (C:=K) a0 (aE.id (L:=aj)) aX (mo f0) rf rf rf rf rf fun Io f27=>?_
   refine SL 7 rf ?_
   have h:=sj h; subst h
   exact lB [] rf rf (ra rf (aL.len _ f27) (rt rf (rt rf rn))) ⟨_,rfl,(mo f27)⟩
  ·
   obtain ⟨fa,rM,h⟩:=aS h
   refine SC 7 rf ?_
   refine ai rfl (bf rfl (bq.iff.1 ((aR.c0 br).get f0)) (aT _ _)) ?_
   refine CV (pJ rM) rf rf ?_
   refine SL 4 rf ?_
   refine W1 rf (bu (L:=aD) (z:=iI) ⟨by kernel_rfl⟩) fun b9=>?_
   refine W0 (bI (M:=aD) (aE.id (L:=aD)) fa.1 fa.1 rfl rfl rfl rfl rfl) ?_
   refine SL 11 rf ?_
   refine dN h rf (fun hc h=>?_) fun hc h=>?_
   ·
    refine SC 2 rf ?_
    refine ai rfl (ae rfl (aL.len _ f0)) ?_
    refine ST (C:=K) a0 (aE.id (L:=aj)) aX (mo f0) rf rf rf rf rf fun Ag f31=>?_
    refine SL 6 rf ?_
    have h:=sj h; subst h
    exact lB [] rf rf (ra rf (aL.len _ f31) (rt rf (rt rf rn))) ⟨_,rfl,(mo f31)⟩
   ·
    obtain ⟨jR,oU,h⟩:=cj h
    refine SC 4 rf ?_
    refine ai rfl (bj (M:=aD) (aE.id (L:=aD)) rfl rfl) ?_
    refine SL 2 rf ?_
    refine ST (C:=K) jR (aR.c0 br) (mo f0) fl oU rf rf rf rf fun DS f35=>?_
    obtain ⟨gq,mj,h⟩:=aS h
    refine SL 5 rf ?_
    refine CV (cL mj) rf rf ?_
    obtain ⟨eR,qc,h⟩:=cj h
    obtain ⟨oV,h⟩:=cq h
    obtain ⟨dX,qL,h⟩:=cj h
    refine SL 12 rf ?_
    obtain ⟨M5,Pv,f39⟩ : ∃cc,(((LI .u32).enc a1)++(((LI .i64).enc a2)++(gT++((LA (LI .u32) 8).enc (fun _=>0))))) = cc∧(aY).rep (Hs []) cc eR:=⟨_,rfl,by rw [qc]; exact ⟨_,_,rfl,fl,⟨_,_,rfl,fl,⟨_,_,rfl,jh,fl⟩⟩⟩⟩
    refine ai rfl (dI (cs:=M5) rfl (by rw [← Pv]; rfl)) ?_
    refine ai rfl (aO rfl) ?_
    refine ai rfl (cm (m:=(Int.toNat gq.1)) rfl rfl (az oV).1 (az oV).2) ?_
    refine ST (C:=K) dX (dM.comp (aE.idx (L:=aY) (m:=32) (k:=12) ((Int.toNat gq.1)) (az oV).2 rfl)) (mo f35) (mo f39) qL rf rf rf rf fun ur f43=>?_
    refine SL 4 rf ?_
    refine ai rfl (ae rfl (aL.len _ f43)) ?_
    refine ai rfl (ak rfl) ?_
    refine ST (C:=K) dX (aE.id (L:=aj)) aX (mo f43) rf rf rf rf rf fun FU f45=>?_
    refine SL 5 rf ?_
    have h:=sj h; subst h
    exact lB [] rf rf (ra rf (aL.len _ f45) (rt rf (rt rf rn))) ⟨_,rfl,(mo f45)⟩
def eC (n:Nat) (a0:aq) (a1:Int):Option (aq × Int):=
 bd (gZ n a0.book.jQ a1) fun aM =>
 cn ((!aM.2)) (
 some (a0,4)) (
 lt ({ a0 with book:={ a0.book with jQ:=aM.1 } }:aq) fun fF =>
 bd (bR n a1) fun dQ =>
 lt ({ Up:=0,bP:=0,E:=eY,Cells:=(fun _=>0) }:bT) fun fa =>
 gu (dO dQ.1 32) <|
 lt ({ fF with regions:=(eG fF.regions (Int.toNat dQ.1) fa) }:aq) fun jR =>
 some (jR,0))
theorem qo {n a0 a1 r K} [bn K] {cv} (f0:(aj).rep K cv a0) (h:eC n a0 a1 = some r):pY Tryz.prog 55 [A cv, .int .u32 a1] K (fun J v=>∃u0,v = (.tuple #[A u0, .int .i64 r.2])∧(aj).rep (fun w=>K w∧J w) u0 (r.1)):=by
 unfold eC at h
 refine fo Tryz.func55 (by kernel_rfl) rfl Tryz.ntmps55 rfl fun cx _ hro cZ hpre=>?_
 refine SC 2 rf ?_
 refine W1 rf (aV rfl) fun b2=>?_
 refine W1 rf (bz (hz:=(⟨by kernel_rfl⟩ : cA Tryz.prog 41 aN))) fun b4=>?_
 obtain ⟨aM,bX,h⟩:=aS h
 refine SL 7 rf ?_
 refine ai rfl (bf rfl (bq.iff.1 ((aR.c0 br).get f0)) (aT _ _)) ?_
 refine ai rfl (ak rfl) ?_
 refine CV (qv bX) rf rf ?_
 refine SL 3 rf ?_
 refine W1 rf (bu (L:=aD) (z:=iI) ⟨by kernel_rfl⟩) fun b6=>?_
 refine W0 (bI (M:=aD) (aE.id (L:=aD)) aM.1 aM.1 rfl rfl rfl rfl rfl) ?_
 refine SL 10 rf ?_
 refine dN h rf (fun hc h=>?_) fun hc h=>?_
 ·
  refine SC 2 rf ?_
  refine ai rfl (ae rfl (aL.len _ f0)) ?_
  refine ST (C:=K) a0 (aE.id (L:=aj)) aX (mo f0) rf rf rf rf rf fun Ip f23=>?_
  refine SL 5 rf ?_
  have h:=sj h; subst h
  exact lB [] rf rf (ra rf (aL.len _ f23) (rt rf rn)) ⟨_,rfl,(mo f23)⟩
 ·
  obtain ⟨fF,nD,h⟩:=cj h
  refine SC 4 rf ?_
  refine ai rfl (bj (M:=aD) (aE.id (L:=aD)) rfl rfl) ?_
  refine SL 2 rf ?_
  refine ST (C:=K) fF (aR.c0 br) (mo f0) fl nD rf rf rf rf fun Io f27=>?_
  obtain ⟨dQ,qe,h⟩:=aS h
  refine SL 5 rf ?_
  refine CV (cL qe) rf rf ?_
  obtain ⟨fa,rM,h⟩:=cj h
  obtain ⟨mu,h⟩:=cq h
  obtain ⟨jR,oU,h⟩:=cj h
  refine SL 10 rf ?_
  obtain ⟨Ag,CT,f31⟩ : ∃cc,(((LI .u32).enc 0)++(((LI .i64).enc 0)++(gT++((LA (LI .u32) 8).enc (fun _=>0))))) = cc∧(aY).rep (Hs []) cc fa:=⟨_,rfl,by rw [rM]; exact ⟨_,_,rfl,fl,⟨_,_,rfl,fl,⟨_,_,rfl,jh,fl⟩⟩⟩⟩
  refine ai rfl (dI (cs:=Ag) rfl (by rw [← CT]; rfl)) ?_
  refine ai rfl (aO rfl) ?_
  refine ai rfl (cm (m:=(Int.toNat dQ.1)) rfl rfl (az mu).1 (az mu).2) ?_
  refine ST (C:=K) jR (dM.comp (aE.idx (L:=aY) (m:=32) (k:=12) ((Int.toNat dQ.1)) (az mu).2 rfl)) (mo f27) (mo f31) oU rf rf rf rf fun DS f35=>?_
  refine SL 4 rf ?_
  refine ai rfl (ae rfl (aL.len _ f35)) ?_
  refine ST (C:=K) jR (aE.id (L:=aj)) aX (mo f35) rf rf rf rf rf fun ud f37=>?_
  refine SL 4 rf ?_
  have h:=sj h; subst h
  exact lB [] rf rf (ra rf (aL.len _ f37) (rt rf rn)) ⟨_,rfl,(mo f37)⟩
def ec (n:Nat) (a0:ah) (a1:Int):Option (ah × Int):=
 bd (bY n a0.B a1) fun aM =>
 cn (decide (aM < 0)) (
 some (a0,4)) (
 bd (gy n a0.B a1) fun fF =>
 lt ({ a0 with B:=fF.1 }:ah) fun dB =>
 lt ({ Up:=0,bP:=0,E:=dw,Cells:=(fun _=>0) }:cy) fun fa =>
 gu (dO aM 32) <|
 lt ({ dB with R:=(eG dB.R (Int.toNat aM) fa) }:ah) fun jR =>
 c9 (fun DM (gk:Int) (jK:ah) =>
 cn (decide (gk < 32)) (
 gu (dO gk 32) <|
 cn ((((jK.R (Int.toNat gk)).Up) == a1)) (
 gu (dO gk 32) <|
 lt ({ jK with R:=(eG jK.R (Int.toNat gk) ({ (jK.R (Int.toNat gk)) with Up:=0 })) }:ah) fun lA =>
 DM (wr .i64 (gk + 1)) lA) (
 DM (wr .i64 (gk + 1)) jK)) (
 some (jK,0))) n 0 jR)
theorem qp {n a0 a1 r K} [bn K] {cv} (f0:(ay).rep K cv a0) (h:ec n a0 a1 = some r):pY Tryz.prog 57 [A cv, .int .i64 a1] K (fun J v=>∃u0,v = (.tuple #[A u0, .int .i64 r.2])∧(ay).rep (fun w=>K w∧J w) u0 (r.1)):=by
 unfold ec at h
 refine fo Tryz.func57 (by kernel_rfl) rfl Tryz.ntmps57 rfl fun cx _ hro cZ hpre=>?_
 refine SC 2 rf ?_
 refine W1 rf (aV rfl) fun b2=>?_
 refine W1 rf (bz (hz:=(⟨by kernel_rfl⟩ : cA Tryz.prog 53 aQ))) fun b4=>?_
 obtain ⟨aM,bX,h⟩:=aS h
 refine SL 6 rf ?_
 refine ai rfl (bf rfl (bq.iff.1 (bZ.get f0)) (aT _ _)) ?_
 refine ai rfl (ak rfl) ?_
 refine CV (dz bX) rf rf ?_
 refine SL 10 rf ?_
 refine dN h rf (fun hc h=>?_) fun hc h=>?_
 ·
  refine SC 2 rf ?_
  refine ai rfl (ae rfl (aL.len _ f0)) ?_
  refine ST (C:=K) a0 (aE.id (L:=ay)) bp (mo f0) rf rf rf rf rf fun Ip f23=>?_
  refine SL 5 rf ?_
  have h:=sj h; subst h
  exact lB [] rf rf (ra rf (aL.len _ f23) (rt rf rn)) ⟨_,rfl,(mo f23)⟩
 ·
  obtain ⟨fF,nD,h⟩:=aS h
  obtain ⟨dB,lF,h⟩:=cj h
  refine SC 5 rf ?_
  refine ai rfl (bf rfl (bq.iff.1 (bZ.get f0)) (aT _ _)) ?_
  refine ai rfl (ak rfl) ?_
  refine CV (q8 nD) rf rf ?_
  refine SL 4 rf ?_
  refine ST (C:=K) dB bZ (mo f0) fl lF rf rf rf rf fun ES f28=>?_
  obtain ⟨fa,rM,h⟩:=cj h
  obtain ⟨mu,h⟩:=cq h
  obtain ⟨jR,oU,h⟩:=cj h
  refine SL 5 rf ?_
  obtain ⟨Ag,CT,f31⟩ : ∃cc,(((LI .i64).enc 0)++(((LI .i64).enc 0)++(iw++((LA (LI .i64) 8).enc (fun _=>0))))) = cc∧(bh).rep (Hs []) cc fa:=⟨_,rfl,by rw [rM]; exact ⟨_,_,rfl,fl,⟨_,_,rfl,fl,⟨_,_,rfl,jy,fl⟩⟩⟩⟩
  refine ai rfl (dI (cs:=Ag) rfl (by rw [← CT]; rfl)) ?_
  refine ai rfl (aO rfl) ?_
  refine ai rfl (cm (m:=(Int.toNat aM)) rfl rfl (az mu).1 (az mu).2) ?_
  refine ST (C:=K) jR (dk.comp (aE.idx (L:=bh) (m:=32) (k:=12) ((Int.toNat aM)) (az mu).2 rfl)) (mo f28) (mo f31) oU rf rf rf rf fun DS f35=>?_
  refine SL 9 rf ?_
  obtain ⟨GQ,CF,h⟩:=kC h
  refine lX ?_
  refine LO (β:=Int × ah × (List Value) × (List Nat) × (World→Prop)) [1,2,4] [0,1,2] (fun (Cc,gk,jK,yb,nI,vF)=>[(7, .int .i64 gk)]) (fun (Cc,gk,jK,yb,nI,vF)=>[.ext nI vF, .cells b4 53 aQ, .cells b2 53 yb]) (fun (Cc,gk,jK,yb,nI,vF)=>(ay).rep (fun w=>K w∧Hs [.ext nI vF] w) yb jK∧c9 GQ Cc gk jK = some r) (n,0,jR,DS,[],(Hs [])) ⟨(mo f35),h⟩ rf rf rf ?_
  rintro Cc ⟨gk,jK,yb,nI,vF⟩ ⟨f48,h⟩
  replace h:=kB CF h; obtain ⟨Cc,rfl,h⟩:=h
  refine SC 7 rf ?_
  refine dN h rf (fun hc h=>?_) fun hc h=>?_
  ·
   obtain ⟨HB,h⟩:=cq h
   refine SC 8 rf ?_
   refine ai rfl (cm (m:=(Int.toNat gk)) rfl rfl (az HB).1 (az HB).2) ?_
   refine ai rfl (fC rfl) ?_
   refine ai rfl (bL rfl (((dk.comp (aE.idx (L:=bh) (m:=32) (k:=12) ((Int.toNat gk)) (az HB).2 rfl)).comp eo).int f48)) ?_
   refine SL 4 rf ?_
   refine dN h rf (fun hc h=>?_) fun hc h=>?_
   ·
    obtain ⟨sG,h⟩:=cq h
    obtain ⟨lA,rL,h⟩:=cj h
    refine SC 3 rf ?_
    refine ai rfl (cm (m:=(Int.toNat gk)) rfl rfl (az sG).1 (az sG).2) ?_
    refine ai rfl (fC rfl) ?_
    refine ST (C:=(fun w=>K w∧Hs [.ext nI vF] w)) lA ((dk.comp (aE.idx (L:=bh) (m:=32) (k:=12) ((Int.toNat gk)) (az sG).2 rfl)).comp eo) (mo f48) fl rL rf rf rf rf fun FT f56=>?_
    refine SL 8 rf ?_
    refine bH (R:=[.ext nI vF]) (H':=[.cells b4 53 aQ, .cells b2 53 FT]) (ks:=[0,1,2]) rfl (by decide) ?_
    exact LN [0,1,2] (wr .i64 (gk + 1),lA,FT,(bN [.ext nI vF]),(Hs [.ext nI vF])) ⟨(mo f56),h⟩ rf rf rf
   ·
    refine SC 8 rf ?_
    refine bH (R:=[.ext nI vF]) (H':=[.cells b4 53 aQ, .cells b2 53 yb]) (ks:=[0,1,2]) rfl (by decide) ?_
    exact LN [0,1,2] (wr .i64 (gk + 1),jK,yb,(bN [.ext nI vF]),(Hs [.ext nI vF])) ⟨(mo f48),h⟩ rf rf rf
  ·
   refine SC 7 rf ?_
   refine ai rfl (ae rfl (aL.len _ f48)) ?_
   refine ST (C:=(fun w=>K w∧Hs [.ext nI vF] w)) jK (aE.id (L:=ay)) bp (mo f48) rf rf rf rf rf fun P8 f58=>?_
   refine SL 4 rf ?_
   have h:=sj h; subst h
   exact lB [0] rf rf (ra rf (aL.len _ f58) (rt rf rn)) ⟨_,rfl,(mo f58)⟩
def ei (n:Nat) (a0:aq) (a1:Int) (a2:Int):Option (aq × Int):=
 bd (bk n a0.book.jQ a1) fun aM =>
 cl (((!aM) == false) && ((a2 != 0) == true)) (bk n a0.book.jQ a2) default fun bE =>
 cn (((!aM) || ((a2 != 0) && (!bE)))) (
 some (a0,4)) (
 eu (fun Es (cH:Int) =>
 cn ((cH != 0)) (
 cn ((cH == a1)) (
 some (a0,12)) (
 bd (fu n a0 cH) fun cT =>
 Es cT)) (
 bd (bR n a1) fun ia =>
 gu (dO ia.1 32) <|
 lt ({ a0 with regions:=(eG a0.regions (Int.toNat ia.1) ({ (a0.regions (Int.toNat ia.1)) with Up:=a2 })) }:aq) fun eR =>
 some (eR,0))) n a2)
theorem lP {n a0 a1 a2 r K} [bn K] {cv} (f0:(aj).rep K cv a0) (h:ei n a0 a1 a2 = some r):pY Tryz.prog 62 [A cv, .int .u32 a1, .int .u32 a2] K (fun J v=>∃u0,v = (.tuple #[A u0, .int .i64 r.2])∧(aj).rep (fun w=>K w∧J w) u0 (r.1)):=by
 unfold ei at h
 refine fo Tryz.func62 (by kernel_rfl) rfl Tryz.ntmps62 rfl fun cx _ hro cZ hpre=>?_
 refine SC 2 rf ?_
 refine W1 rf (aV rfl) fun b3=>?_
 refine W1 rf (bz (hz:=(⟨by kernel_rfl⟩ : cA Tryz.prog 41 aN))) fun b6=>?_
 obtain ⟨aM,bX,h⟩:=aS h
 obtain ⟨bE,fc,_,h⟩:=gQ h
 refine SL 8 rf ?_
 refine ai rfl (bf rfl (bq.iff.1 ((aR.c0 br).get f0)) (aT _ _)) ?_
 refine ai rfl (ak rfl) ?_
 refine CV (bD bX) rf rf ?_
 refine SL 2 rf ?_
 refine GB rf rf rf (fun hb=>ak rfl) ?_
 refine GB rf rf rf (fun hb=>mG (bC rfl hb) rfl) ?_
 refine GB rf rf rf (fun hb=>ak (bC rfl hb)) ?_
 refine kz (jx rfl rfl) rfl (fun hb=>aO rfl) ?_
 refine kz (jx rfl rfl) rfl (fun hb=>aO (bC rfl hb)) ?_
 refine kz (jx rfl rfl) rfl (fun hb=>bf (bC rfl hb) (bq.iff.1 ((aR.c0 br).get f0)) (aT _ _)) ?_
 refine kz (jx rfl rfl) rfl (fun hb=>ak rfl) ?_
 refine kz (jx rfl rfl) rfl (fun hb=>ck (bD (fc hb)) (aB (bC rfl hb) (aB (bC rfl hb) rfl)) (fun _ _ _=>trivial)) ?_
 refine kz (jx rfl rfl) rfl (fun hb=>ja (bC rfl hb)) ?_
 refine GB rf rf rf (fun hb=>bV (bC rfl hb) (uL rfl hb)) ?_
 refine ai rfl (eF rfl rfl) ?_
 refine SL 2 rf ?_
 refine dN h rf (fun hc h=>?_) fun hc h=>?_
 ·
  refine SC 2 rf ?_
  refine ai rfl (ae rfl (aL.len _ f0)) ?_
  refine ST (C:=K) a0 (aE.id (L:=aj)) aX (mo f0) rf rf rf rf rf fun C7 f24=>?_
  refine SL 5 rf ?_
  have h:=sj h; subst h
  exact lB [] rf rf (ra rf (aL.len _ f24) (rt rf rn)) ⟨_,rfl,(mo f24)⟩
 ·
  refine SC 10 rf ?_
  obtain ⟨NT,K6,h⟩:=mT h
  refine LO (β:=Int) [1,2,3,6] [0,1] (fun (J4,cH)=>[(8, .int .u32 cH)]) (fun (J4,cH)=>[.cells b6 41 aN, .cells b3 41 cv]) (fun (J4,cH)=>eu NT J4 cH = some r) (n,a2) h rf rf rf ?_
  rintro J4 cH h
  replace h:=mS K6 h; obtain ⟨J4,rfl,h⟩:=h
  refine SC 7 rf ?_
  refine dN h rf (fun hc h=>?_) fun hc h=>?_
  ·
   refine SC 11 rf ?_
   refine dN h rf (fun hc h=>?_) fun hc h=>?_
   ·
    refine SC 2 rf ?_
    refine ai rfl (ae rfl (aL.len _ f0)) ?_
    refine ST (C:=K) a0 (aE.id (L:=aj)) aX (mo f0) rf rf rf rf rf fun S8 f32=>?_
    refine SL 9 rf ?_
    have h:=sj h; subst h
    exact lB [] rf rf (ra rf (aL.len _ f32) (rt rf rn)) ⟨_,rfl,(mo f32)⟩
   ·
    obtain ⟨cT,qd,h⟩:=aS h
    refine SC 4 rf ?_
    refine ai rfl (ae rfl (aL.len _ f0)) ?_
    refine ai rfl (ak rfl) ?_
    refine CV (nG (K:=K) (mo f0) qd) rf rf ?_
    refine SL 2 rf ?_
    exact LN [0,1] cT h rf rf rf
  ·
   obtain ⟨ia,oT,h⟩:=aS h
   refine SC 8 rf ?_
   refine CV (cL oT) rf rf ?_
   obtain ⟨pH,h⟩:=cq h
   obtain ⟨eR,qc,h⟩:=cj h
   refine SL 12 rf ?_
   refine ai rfl (cm (m:=(Int.toNat ia.1)) rfl rfl (az pH).1 (az pH).2) ?_
   refine ai rfl (fC rfl) ?_
   refine ST (C:=K) eR ((dM.comp (aE.idx (L:=aY) (m:=32) (k:=12) ((Int.toNat ia.1)) (az pH).2 rfl)).comp cU) (mo f0) fl qc rf rf rf rf fun M5 f39=>?_
   refine SL 4 rf ?_
   refine ai rfl (ae rfl (aL.len _ f39)) ?_
   refine ST (C:=K) eR (aE.id (L:=aj)) aX (mo f39) rf rf rf rf rf fun DR f41=>?_
   refine SL 4 rf ?_
   have h:=sj h; subst h
   exact lB [] rf rf (ra rf (aL.len _ f41) (rt rf rn)) ⟨_,rfl,(mo f41)⟩
def cu (n:Nat) (a0:ah) (a1:Int) (a2:Int):Option Bool:=
 eu (fun v7 (bE:Int) =>
 cn ((bE != 0)) (
 bd (bY n a0.B bE) fun dB =>
 gu (dO dB 32) <|
 cn ((((a0.R (Int.toNat dB)).Up) == a1)) (
 some (a1 != 0)) (
 v7 ((a0.R (Int.toNat dB)).Up))) (
 some false)) n a2
theorem jt {n a0 a1 a2 r K} [bn K] {cv} (f0:(ay).rep K cv a0) (h:cu n a0 a1 a2 = some r):pD Tryz.prog 63 [A cv, .int .i64 a1, .int .i64 a2] K (.bool r):=by
 unfold cu at h
 refine fo Tryz.func63 (by kernel_rfl) rfl Tryz.ntmps63 rfl fun cx _ hro cZ hpre=>?_
 refine SC 2 rf ?_
 refine W1 rf (aV rfl) fun b3=>?_
 refine SL 5 rf ?_
 obtain ⟨p9,mq,h⟩:=mT h
 refine LO (β:=Int) [1,3] [0] (fun (me,bE)=>[(2, .int .i64 bE)]) (fun (me,bE)=>[.cells b3 53 cv]) (fun (me,bE)=>eu p9 me bE = some r) (n,a2) h rf rf rf ?_
 rintro me bE h
 replace h:=mS mq h; obtain ⟨me,rfl,h⟩:=h
 refine SC 7 rf ?_
 refine dN h rf (fun hc h=>?_) fun hc h=>?_
 ·
  obtain ⟨dB,lF,h⟩:=aS h
  obtain ⟨mw,h⟩:=cq h
  refine SC 6 rf ?_
  refine ai rfl (bf rfl (bq.iff.1 (bZ.get f0)) (aT _ _)) ?_
  refine ai rfl (ak rfl) ?_
  refine CV (dz lF) rf rf ?_
  refine ai rfl (aO rfl) ?_
  refine ai rfl (cm (m:=(Int.toNat dB)) rfl rfl (az mw).1 (az mw).2) ?_
  refine ai rfl (fC rfl) ?_
  refine ai rfl (bL rfl (((dk.comp (aE.idx (L:=bh) (m:=32) (k:=12) ((Int.toNat dB)) (az mw).2 rfl)).comp eo).int f0)) ?_
  refine SL 10 rf ?_
  refine dN h rf (fun hc h=>?_) fun hc h=>?_
  ·
   refine SC 12 rf ?_
   have h:=sj h; subst h
   exact RV rf (rt rf rn) rf
  ·
   refine SC 2 rf ?_
   exact LN [0] ((a0.R (Int.toNat dB)).Up) h rf rf rf
 ·
  refine SC 11 rf ?_
  have h:=sj h; subst h
  exact RV rf (rt rf rn) rf
def eH (n:Nat) (a0:ah) (a1:Int) (a2:Int):Option (ah × Int):=
 bd (bB n a0 a1) fun aM =>
 cl (((!aM) == false) && ((a2 != 0) == true)) (bB n a0 a2) default fun bE =>
 cn (((!aM) || ((a2 != 0) && (!bE)))) (
 some (a0,4)) (
 cl (((a2 != 0) == true) && ((a2 == a1) == false)) (cu n a0 a1 a2) default fun dB =>
 cn (((a2 != 0) && ((a2 == a1) || dB))) (
 some (a0,12)) (
 bd (bY n a0.B a1) fun cI =>
 gu (dO cI 32) <|
 lt ({ a0 with R:=(eG a0.R (Int.toNat cI) ({ (a0.R (Int.toNat cI)) with Up:=a2 })) }:ah) fun dV =>
 some (dV,0)))
theorem pI {n a0 a1 a2 r K} [bn K] {cv} (f0:(ay).rep K cv a0) (h:eH n a0 a1 a2 = some r):pY Tryz.prog 67 [A cv, .int .i64 a1, .int .i64 a2] K (fun J v=>∃u0,v = (.tuple #[A u0, .int .i64 r.2])∧(ay).rep (fun w=>K w∧J w) u0 (r.1)):=by
 unfold eH at h
 refine fo Tryz.func67 (by kernel_rfl) rfl Tryz.ntmps67 rfl fun cx _ hro cZ hpre=>?_
 refine SC 2 rf ?_
 refine W1 rf (aV rfl) fun b3=>?_
 refine W1 rf (bz (hz:=(⟨by kernel_rfl⟩ : cA Tryz.prog 53 aQ))) fun b6=>?_
 obtain ⟨aM,bX,h⟩:=aS h
 obtain ⟨bE,fc,_,h⟩:=gQ h
 refine SL 6 rf ?_
 refine ai rfl (ae rfl (aL.len _ f0)) ?_
 refine ai rfl (ak rfl) ?_
 refine CV (bJ (K:=K) (mo f0) bX) rf rf ?_
 refine SL 2 rf ?_
 refine GB rf rf rf (fun hb=>ak rfl) ?_
 refine GB rf rf rf (fun hb=>mG (bC rfl hb) rfl) ?_
 refine GB rf rf rf (fun hb=>ak (bC rfl hb)) ?_
 refine kz (jx rfl rfl) rfl (fun hb=>ae rfl (aL.len _ f0)) ?_
 refine kz (jx rfl rfl) rfl (fun hb=>ak rfl) ?_
 refine kz (jx rfl rfl) rfl (fun hb=>ck (bJ (K:=K) (mo f0) (fc hb)) (aB (bC rfl hb) (aB (bC rfl hb) rfl)) kn) ?_
 refine kz (jx rfl rfl) rfl (fun hb=>ja (bC rfl hb)) ?_
 refine GB rf rf rf (fun hb=>bV (bC rfl hb) (uL rfl hb)) ?_
 refine ai rfl (eF rfl rfl) ?_
 refine SL 2 rf ?_
 refine dN h rf (fun hc h=>?_) fun hc h=>?_
 ·
  refine SC 2 rf ?_
  refine ai rfl (ae rfl (aL.len _ f0)) ?_
  refine ST (C:=K) a0 (aE.id (L:=ay)) bp (mo f0) rf rf rf rf rf fun C7 f24=>?_
  refine SL 5 rf ?_
  have h:=sj h; subst h
  exact lB [] rf rf (ra rf (aL.len _ f24) (rt rf rn)) ⟨_,rfl,(mo f24)⟩
 ·
  obtain ⟨dB,lF,_,h⟩:=gQ h
  refine SC 8 rf ?_
  refine GB rf rf rf (fun hb=>ak rfl) ?_
  refine GB rf rf rf (fun hb=>ak rfl) ?_
  refine GB rf rf rf (fun hb=>ff (bC rfl hb) (bC rfl hb)) ?_
  refine GB rf rf rf (fun hb=>ak (bC rfl hb)) ?_
  refine kz (jx rfl rfl) rfl (fun hb=>ae rfl (aL.len _ f0)) ?_
  refine kz (jx rfl rfl) rfl (fun hb=>ak rfl) ?_
  refine kz (jx rfl rfl) rfl (fun hb=>ak rfl) ?_
  refine kz (jx rfl rfl) rfl (fun hb=>ck (jt (K:=K) (mo f0) (lF hb)) (aB (bC rfl hb) (aB (bC rfl hb) (aB (bC rfl hb) rfl))) kn) ?_
  refine GB rf rf rf (fun hb=>eF (bC rfl hb) (uL rfl hb)) ?_
  refine ai rfl (bV rfl rfl) ?_
  refine SL 2 rf ?_
  refine dN h rf (fun hc h=>?_) fun hc h=>?_
  ·
   refine SC 2 rf ?_
   refine ai rfl (ae rfl (aL.len _ f0)) ?_
   refine ST (C:=K) a0 (aE.id (L:=ay)) bp (mo f0) rf rf rf rf rf fun ES f28=>?_
   refine SL 5 rf ?_
   have h:=sj h; subst h
   exact lB [] rf rf (ra rf (aL.len _ f28) (rt rf rn)) ⟨_,rfl,(mo f28)⟩
  ·
   obtain ⟨cI,tI,h⟩:=aS h
   obtain ⟨qP,h⟩:=cq h
   obtain ⟨dV,nC,h⟩:=cj h
   refine SC 5 rf ?_
   refine ai rfl (bf rfl (bq.iff.1 (bZ.get f0)) (aT _ _)) ?_
   refine ai rfl (ak rfl) ?_
   refine CV (dz tI) rf rf ?_
   refine SL 2 rf ?_
   refine ai rfl (cm (m:=(Int.toNat cI)) rfl rfl (az qP).1 (az qP).2) ?_
   refine ai rfl (fC rfl) ?_
   refine ST (C:=K) dV ((dk.comp (aE.idx (L:=bh) (m:=32) (k:=12) ((Int.toNat cI)) (az qP).2 rfl)).comp eo) (mo f0) fl nC rf rf rf rf fun C6 f34=>?_
   refine SL 4 rf ?_
   refine ai rfl (ae rfl (aL.len _ f34)) ?_
   refine ST (C:=K) dV (aE.id (L:=ay)) bp (mo f34) rf rf rf rf rf fun S7 f36=>?_
   refine SL 4 rf ?_
   have h:=sj h; subst h
   exact lB [] rf rf (ra rf (aL.len _ f36) (rt rf rn)) ⟨_,rfl,(mo f36)⟩
def dG (n:Nat) (a0:ah) (a1:Int) (a2:Int):Option (ah × Int × Int):=
 cl ((a1 != 0) == true) (bB n a0 a1) default fun aM =>
 cn (((a1 != 0) && (!aM))) (
 some (a0,0,4)) (
 cn ((decide (a2 < 0) || decide (64 < a2))) (
 some (a0,0,2)) (
 bd (fX n a0.B) fun dQ =>
 cn ((dQ.2 == 0)) (
 some (a0,0,7)) (
 lt ({ a0 with B:=dQ.1 }:ah) fun dV =>
 bd (bY n dQ.1 dQ.2) fun ia =>
 lt ({ Up:=a1,bP:=a2,E:=dw,Cells:=(fun _=>0) }:cy) fun gq =>
 gu (dO ia 32) <|
 lt ({ dV with R:=(eG dV.R (Int.toNat ia) gq) }:ah) fun gl =>
 some (gl,dQ.2,0))))
theorem q7 {n a0 a1 a2 r K} [bn K] {cv} (f0:(ay).rep K cv a0) (h:dG n a0 a1 a2 = some r):pY Tryz.prog 73 [A cv, .int .i64 a1, .int .i64 a2] K (fun J v=>∃u0,v = (.tuple #[A u0, .int .i64 r.2.1, .int .i64 r.2.2])∧(ay).rep (fun w=>K w∧J w) u0 (r.1)):=by
 unfold dG at h
 refine fo Tryz.func73 (by kernel_rfl) rfl Tryz.ntmps73 rfl fun cx _ hro cZ hpre=>?_
 refine SC 2 rf ?_
 refine W1 rf (aV rfl) fun b3=>?_
 refine W1 rf (bz (hz:=(⟨by kernel_rfl⟩ : cA Tryz.prog 53 aQ))) fun b6=>?_
 obtain ⟨aM,bX,_,h⟩:=gQ h
 refine SL 10 rf ?_
 refine GB rf rf rf (fun hb=>ae rfl (aL.len _ f0)) ?_
 refine GB rf rf rf (fun hb=>ak rfl) ?_
 refine GB rf rf rf (fun hb=>ck (bJ (K:=K) (mo f0) (bX hb)) (aB (bC rfl hb) (aB (bC rfl hb) rfl)) kn) ?_
 refine GB rf rf rf (fun hb=>ja (bC rfl hb)) ?_
 refine ai rfl (bV rfl rfl) ?_
 refine SL 2 rf ?_
 refine dN h rf (fun hc h=>?_) fun hc h=>?_
 ·
  refine SC 2 rf ?_
  refine ai rfl (ae rfl (aL.len _ f0)) ?_
  refine ST (C:=K) a0 (aE.id (L:=ay)) bp (mo f0) rf rf rf rf rf fun Ip f23=>?_
  refine SL 6 rf ?_
  have h:=sj h; subst h
  exact lB [] rf rf (ra rf (aL.len _ f23) (rt rf (rt rf rn))) ⟨_,rfl,(mo f23)⟩
 ·
  refine SC 8 rf ?_
  refine GB rf rf rf (fun hb=>ak rfl) ?_
  refine GB rf rf rf (fun hb=>nc (bC rfl hb) rfl) ?_
  refine ai rfl (eF rfl rfl) ?_
  refine SL 2 rf ?_
  refine dN h rf (fun hc h=>?_) fun hc h=>?_
  ·
   refine SC 2 rf ?_
   refine ai rfl (ae rfl (aL.len _ f0)) ?_
   refine ST (C:=K) a0 (aE.id (L:=ay)) bp (mo f0) rf rf rf rf rf fun DT f26=>?_
   refine SL 6 rf ?_
   have h:=sj h; subst h
   exact lB [] rf rf (ra rf (aL.len _ f26) (rt rf (rt rf rn))) ⟨_,rfl,(mo f26)⟩
  ·
   obtain ⟨dQ,qe,h⟩:=aS h
   refine SC 5 rf ?_
   refine ai rfl (bf rfl (bq.iff.1 (bZ.get f0)) (aT _ _)) ?_
   refine CV (qt qe) rf rf ?_
   refine SL 3 rf ?_
   refine W1 rf (bu (L:=aI) (z:=jm) ⟨by kernel_rfl⟩) fun b9=>?_
   refine W0 (bI (M:=aI) (aE.id (L:=aI)) dQ.1 dQ.1 rfl rfl rfl rfl rfl) ?_
   refine SL 10 rf ?_
   refine dN h rf (fun hc h=>?_) fun hc h=>?_
   ·
    refine SC 2 rf ?_
    refine ai rfl (ae rfl (aL.len _ f0)) ?_
    refine ST (C:=K) a0 (aE.id (L:=ay)) bp (mo f0) rf rf rf rf rf fun FV f30=>?_
    refine SL 6 rf ?_
    have h:=sj h; subst h
    exact lB [] rf rf (ra rf (aL.len _ f30) (rt rf (rt rf rn))) ⟨_,rfl,(mo f30)⟩
   ·
    obtain ⟨dV,nC,h⟩:=cj h
    refine SC 4 rf ?_
    refine ai rfl (bj (M:=aI) (aE.id (L:=aI)) rfl rfl) ?_
    refine ai rfl (aO rfl) ?_
    refine ST (C:=K) dV bZ (mo f0) fl nC rf rf rf rf fun C6 f34=>?_
    obtain ⟨ia,oT,h⟩:=aS h
    obtain ⟨gq,mj,h⟩:=cj h
    obtain ⟨jv,h⟩:=cq h
    obtain ⟨gl,m7,h⟩:=cj h
    refine SL 4 rf ?_
    refine ai rfl (bj (M:=aI) (aE.id (L:=aI)) rfl rfl) ?_
    refine ai rfl (ak rfl) ?_
    refine CV (dz oT) rf rf ?_
    refine SL 2 rf ?_
    obtain ⟨Je,Pw,f38⟩ : ∃cc,(((LI .i64).enc a1)++(((LI .i64).enc a2)++(iw++((LA (LI .i64) 8).enc (fun _=>0))))) = cc∧(bh).rep (Hs []) cc gq:=⟨_,rfl,by rw [mj]; exact ⟨_,_,rfl,fl,⟨_,_,rfl,fl,⟨_,_,rfl,jy,fl⟩⟩⟩⟩
    refine ai rfl (dI (cs:=Je) rfl (by rw [← Pw]; rfl)) ?_
    refine ai rfl (aO rfl) ?_
    refine ai rfl (cm (m:=(Int.toNat ia)) rfl rfl (az jv).1 (az jv).2) ?_
    refine ST (C:=K) gl (dk.comp (aE.idx (L:=bh) (m:=32) (k:=12) ((Int.toNat ia)) (az jv).2 rfl)) (mo f34) (mo f38) m7 rf rf rf rf fun Jd f42=>?_
    refine SL 4 rf ?_
    refine ai rfl (ae rfl (aL.len _ f42)) ?_
    refine ai rfl (ak rfl) ?_
    refine ST (C:=K) gl (aE.id (L:=ay)) bp (mo f42) rf rf rf rf rf fun Im f44=>?_
    refine SL 5 rf ?_
    have h:=sj h; subst h
    exact lB [] rf rf (ra rf (aL.len _ f44) (rt rf (rt rf rn))) ⟨_,rfl,(mo f44)⟩
def fZ (n:Nat) (a0:nP):Option (List Int):=
 bd (gh n a0.jQ) fun aM =>
 some aM
theorem kJ {n a0 r}  (h:fZ n a0 = some r):Bw.Fn (α:=Value) Tryz.prog 76 [.agg (jr.enc a0).toArray] (fun _=>True) [] (fun v=>ko v r.length) (fun v=>v) (fun v=>[Row v 32 1 (LI .u32) r]):=by
 unfold fZ at h
 refine fI Tryz.func76 (by kernel_rfl) rfl Tryz.ntmps76 rfl (fun cx cZ hpre hro=>?_)
 refine SC 2 rf ?_
 refine W1 rf (cC jr a0 rfl rfl) fun b1=>?_
 obtain ⟨aM,bX,h⟩:=aS h
 refine SL 6 rf ?_
 refine ai rfl (bj (M:=aD) br rfl rfl) ?_
 refine ef rfl (eK (oY bX) rfl (fun _ _ _=>trivial)) (fun rD fe=>?_)
 dsimp only [List.cons_append,List.nil_append]
 refine SL 4 rf ?_
 have h:=sj h; subst h
 exact dF rD rfl (.tmp rfl .nil) fe rfl (ks:=[0]) rfl (by decide)
end Go.Proofs.YtmdpbdhkmfjlhaaGreat
namespace Go.Proofs.YtmdpbdhkmfjlhaaGreat
open Go Go.Bw
end Go.Proofs.YtmdpbdhkmfjlhaaGreat
namespace Go.Proofs.YtmdpbdhkmfjlhaaGreat
open Go Go.Bw
set_option maxRecDepth 100000 in
theorem fQ {w:aJ} {h:Int} (hg:bt w h = true):h < 4294967296:=BM (g5.1 hg).1
theorem vq (w:aJ):bt w 0 = false:=rfl
theorem iG {w:aJ} {h:Int} (hg:bG w h):0 < h:=by
  have:=hg.1
  rcases Int.lt_or_eq_of_le this with h1 | h1
  · exact h1
  · subst h1; have:=hg.2; rw [vq] at this; cases this
structure wW (p:bT) (x:cy):Prop where
  q:p.bP = x.bP
  e:p.E = ⟨x.E.bS.map oI,x.E.r5⟩
  n:x.E.bS.length ≤ 80
  r:∀y ∈ x.E.bS.map oI,DW y.At∧DW y.N
  c:∀i,i < 8→p.Cells i = x.Cells i
  c0:∀i,i < 8→0 ≤ x.Cells i∧x.Cells i ≤ 4294967295
theorem wW.JD {p:bT} {x:cy} (h:wW p x) (u v:Int):wW { p with Up:=u } { x with Up:=v }:=⟨h.q,h.e,h.n,h.r,h.c,h.c0⟩
def zP (B:aJ) (h:Int):Int:=if bt B h = true then h else 0
structure fE (t:aq) (w:ah):Prop where
  book:RB t.book.jQ w.B
  GC:∀i,i < 32→w.B.Is i = 1→wW (t.regions i) (w.R i)
  up:∀i,i < 32→w.B.Is i = 1→(w.R i).Up = zP w.B (t.regions i).Up
  old:∀i,i < 32→w.B.Is i = 1→(t.regions i).Up = 0∨mc w.B (t.regions i).Up
def Rd (w:ah) (ρ:Nat→Nat):Prop:=∀i,i < 32→w.B.Is i = 1→(w.R i).Up ≠ 0→ρ (cw (w.R i).Up) < ρ i
def hM (w:ah):Prop:=∃ρ:Nat→Nat,Rd w ρ
theorem fE.MS {t:aq} {w:ah} (r:fE t w) {i:Nat} (hi:i < 32) (h1:w.B.Is i = 1):(w.R i).Up = 0∨bG w.B (w.R i).Up:=by
  rw [r.up i hi h1]
  unfold zP
  split
  · rename_i h
    rcases r.old i hi h1 with h2 | h2
    · exact .inl h2
    · exact .inr ⟨h2.1,h⟩
  · exact .inl rfl
theorem eE {w:aJ} {x:Int} (h:bG w x):cw x < 32∧w.Is (cw x) = 1:=⟨kF x,(pq h.2).2.1⟩
theorem fE.I2 {t:aq} {w:ah} (r:fE t w) {x:Int} (hx:bG w.B x):(w.R (cw x)).Up = 0∨bG w.B (w.R (cw x)).Up:=r.MS (eE hx).1 (eE hx).2
theorem ga (h:Int):dO (jf h) 32 = true:=cP (eB h).1 (by have:=eB h; omega)
theorem BB {n:Nat} {t:aq} {w:ah} (r:fE t w) {x:Int} (hx:bG w.B x):fu n t x = some (w.R (cw x)).Up:=by
  unfold fu
  obtain ⟨l1,l2⟩:=eE hx
  have ho:=r.old _ l1 l2
  have hu:0 ≤ (t.regions (cw x)).Up∧(t.regions (cw x)).Up < 4294967296:=by
    rcases ho with h | h
    · rw [h]; decide
    · exact ⟨h.1,BM h.2.1⟩
  rw [ax (jU hx.1 (fQ hx.2)),aF (ga x)]
  show bd (bk n t.book.jQ (t.regions (cw x)).Up) _ = _
  rw [ax (lO r.book hu.1 hu.2),r.up _ l1 l2]
  unfold zP
  show cn (bt w.B (t.regions (cw x)).Up) (some (t.regions (cw x)).Up) (some 0) = _
  cases hg:bt w.B (t.regions (cw x)).Up with
  | true=>rw [aC rfl,if_pos rfl]
  | false=>rw [av rfl,if_neg (by decide)]
def oH (t:aq) (w:ah) (h:Int):bT:={ t.regions (cw h) with Up:=(w.R (cw h)).Up }
def GN:bT:={ Up:=0,bP:=0,E:=eY,Cells:=(fun _=>0) }
theorem sR {n:Nat} {t:aq} {w:ah} (r:fE t w) {h:Int} (h0:0 ≤ h) (h1:h < 4294967296):dZ n t h = some (if bt w.B h = true then (oH t w h,0) else (GN,4)):=by
  unfold dZ
  rw [ax (lO r.book h0 h1)]
  cases hg:bt w.B h with
  | false=>rfl
  | true =>
    rw [av (b:=!true) rfl,ax (jU h0 h1),aF (ga h),lt_eq,ax (BB r ⟨h0,hg⟩),lt_eq,if_pos rfl]; rfl
theorem tp {n:Nat} (hn:40 ≤ n) {t:aq} {w:ah} (r:fE t w) {h:Int} (hg:bG w.B h):eV n w h = some (w.R (cw h),0):=by
  unfold eV
  have hr:=eB h
  rw [ax (dY hn r.book hg.1),hg.2,if_pos rfl,av (by simp; omega),aF (ga h),lt_eq]
  rfl
theorem cg {n:Nat} (hn:40 ≤ n) {t:aq} {w:ah} (r:fE t w) {h:Int} (h0:0 ≤ h):bB n w h = some (bt w.B h):=by
  unfold bB
  have hr:=eB h
  rw [ax (dY hn r.book h0)]
  cases bt w.B h with
  | false=>rfl
  | true=>rw [if_pos rfl]; simpa using hr.1
structure IQ (t:aq) (w:ah) (t' : aq) (w' : ah) (who e:Int) (dr:Bool):Prop where
  rt:fE t' w'
  tt:hM w'
  kp:∀g,bG w.B g→¬ (g = who∧e = 0)→bG w'.B g∧(t'.regions (cw g)).bP = (t.regions (cw g)).bP∧(t'.regions (cw g)).E = (t.regions (cw g)).E∧(t'.regions (cw g)).Cells = (t.regions (cw g)).Cells ∧
    ((w'.R (cw g)).Up = (w.R (cw g)).Up∨(dr = true∧e = 0∧(w.R (cw g)).Up = who∧who ≠ 0∧(w'.R (cw g)).Up = 0))
theorem IQ.same {t:aq} {w:ah} (r:fE t w) (tt:hM w) (who e:Int) (dr:Bool):IQ t w t w who e dr:=⟨r,tt,fun _ hg _=>⟨hg,rfl,rfl,rfl, .inl rfl⟩⟩
theorem vJ {b:bA} {w:aJ} (r:RB b w) {h:Int} (h0:0 ≤ h) (x:Int):bG (As w h) x↔bG w x∧x ≠ h:=A0 r h0 x
theorem Gp {b:bA} {w:aJ} (r:RB b w) {h u:Int} (hg:bG w h) (hu:0 ≤ u):zP (As w h) u = if zP w u = h then 0 else zP w u:=by
  have hv:=vJ r hg.1 u
  have hp:=iG hg
  unfold zP
  cases h1:bt w u with
  | false =>
    have:bt (As w h) u ≠ true:=fun h2=>by
      have:=(hv.1 ⟨hu,h2⟩).1.2; rw [h1] at this; cases this
    rw [if_neg this]; simp
  | true =>
    rw [if_pos rfl]
    by_cases e:u = h
    · rw [if_pos e,if_neg (fun h2=>(hv.1 ⟨hu,h2⟩).2 e)]
    · rw [if_neg e,if_pos (hv.2 ⟨⟨hu,h1⟩,e⟩).2]
theorem AE {n:Nat} (hn:40 ≤ n) (h:Int) (w:ah):∃w' : ah,c9 (fun DM (gk:Int) (jK:ah) =>
  cn (decide (gk < 32)) (
  gu (dO gk 32) <|
  cn ((((jK.R (Int.toNat gk)).Up) == h)) (
  gu (dO gk 32) <|
  lt ({ jK with R:=(eG jK.R (Int.toNat gk) ({ (jK.R (Int.toNat gk)) with Up:=0 })) }:ah) fun lA =>
  DM (wr .i64 (gk + 1)) lA) (
  DM (wr .i64 (gk + 1)) jK)) (
  some (jK,(0:Int)))) n 0 w = some (w',0)∧w'.B = w.B∧∀i,i < 32→w'.R i = if (w.R i).Up = h then { w.R i with Up:=0 } else w.R i:=by
  refine eD (fun (i:Int) (v:ah)=>0 ≤ i∧i ≤ 32∧v.B = w.B∧∀j,v.R j = if j < i.toNat∧(w.R j).Up = h then { w.R j with Up:=0 } else w.R j) (fun i _=>(32 - i).toNat)
    (fun o=>∃w' : ah,o = some (w',0)∧w'.B = w.B∧∀i,i < 32→w'.R i = if (w.R i).Up = h then { w.R i with Up:=0 } else w.R i) ?_ n 0 w ⟨by omega,by omega,rfl,fun j=>by simp⟩ (by omega)
  rintro kk i v ⟨i0,i1,hb,hv⟩ ih
  by_cases c:i < 32
  · have hi:=hv i.toNat
    rw [if_neg (fun hh=>absurd hh.1 (Nat.lt_irrefl _))] at hi
    rw [aC (by simpa using c),aF (cP i0 (by omega)),hi,cz (x:=i + 1) (by omega) (by omega)]
    have e1:(i + 1).toNat = i.toNat + 1:=by omega
    by_cases hu:(w.R i.toNat).Up = h
    · rw [aC (by simpa using hu),aF (cP i0 (by omega)),lt_eq]
      refine ih _ _ ⟨by omega,by omega,hb,fun j=>?_⟩ (by omega)
      show eG v.R i.toNat _ j = _
      rw [cE]
      by_cases ej:j = i.toNat
      · subst ej; rw [if_pos rfl,if_pos ⟨by omega,hu⟩]
      · rw [if_neg ej,hv j]
        by_cases hj:(w.R j).Up = h
        · by_cases hl:j < i.toNat
          · rw [if_pos ⟨hl,hj⟩,if_pos ⟨by omega,hj⟩]
          · rw [if_neg (fun hh=>hl hh.1),if_neg (fun hh=>by omega)]
        · rw [if_neg (fun hh=>hj hh.2),if_neg (fun hh=>hj hh.2)]
    · rw [av (by simpa using hu)]
      refine ih _ _ ⟨by omega,by omega,hb,fun j=>?_⟩ (by omega)
      rw [hv j]
      by_cases ej:j = i.toNat
      · subst ej; rw [if_neg (fun hh=>hu hh.2),if_neg (fun hh=>hu hh.2)]
      · by_cases hj:(w.R j).Up = h
        · by_cases hl:j < i.toNat
          · rw [if_pos ⟨hl,hj⟩,if_pos ⟨by omega,hj⟩]
          · rw [if_neg (fun hh=>hl hh.1),if_neg (fun hh=>by omega)]
        · rw [if_neg (fun hh=>hj hh.2),if_neg (fun hh=>hj hh.2)]
  · rw [av (by simpa using c)]
    refine ⟨v,rfl,hb,fun j hj=>?_⟩
    rw [hv j]
    by_cases hu:(w.R j).Up = h
    · rw [if_pos ⟨by omega,hu⟩,if_pos hu]
    · rw [if_neg (fun hh=>hu hh.2),if_neg hu]
theorem LW {n:Nat} (hn:40 ≤ n) {t:aq} {w:ah} (r:fE t w) (tt:hM w) {h:Int} (h0:0 ≤ h) (h1:h < 4294967296) :
    ∃t' w' e,eC n t h = some (t',e)∧ec n w h = some (w',e)∧IQ t w t' w' h e true:=by
  obtain ⟨b',e1,r'⟩:=D1 (n:=n) r.book h0 h1
  cases hg:bt w.B h with
  | false =>
    refine ⟨t,w,4,?_,?_, .same r tt _ _ _⟩
    · unfold eC; rw [ax e1,hg]; rfl
    · unfold ec; rw [ax (dY hn r.book h0),hg]; rfl
  | true =>
    have Br:bG w.B h:=⟨h0,hg⟩
    obtain ⟨w',c1,c2,c3⟩:=AE (n:=n) hn h { B:=As w.B h,R:=eG w.R (cw h) { Up:=0,bP:=0,E:=dw,Cells:=(fun _=>0) } }
    have hpos:=iG Br
    refine ⟨{ book:={ t.book with jQ:=b' },regions:=eG t.regions (cw h) GN },w',0,?_,?_,?_⟩
    · unfold eC; rw [ax e1,hg,av (b:=!true) rfl,lt_eq,ax (jU h0 h1),lt_eq,aF (ga h),lt_eq]; rfl
    · unfold ec
      have hr:=eB h
      rw [ax (dY hn r.book h0),hg,if_pos rfl,av (by simp; omega),ax (xy hn r.book h0),lt_eq,lt_eq,aF (ga h),lt_eq]
      exact c1
    have hb:w'.B = As w.B h:=c2
    have xN:∀i,i < 32→w'.B.Is i = 1→w.B.Is i = 1∧i ≠ cw h:=fun i hi hs=>by
      rw [hb] at hs
      refine ⟨(D2 hs).1,fun e=>?_⟩
      subst e
      unfold As at hs
      rw [hg,if_pos rfl] at hs
      exact s7 w.B h hs
    have hR:∀i,i < 32→i ≠ cw h→w'.R i = if (w.R i).Up = h then { w.R i with Up:=0 } else w.R i:=fun i hi hne=>by
      have q:=c3 i hi
      simp only [jT _ _ hne] at q
      exact q
    have hT:∀i,i ≠ cw h→eG t.regions (cw h) GN i = t.regions i:=fun i hne=>jT _ _ hne
    have hU:∀i,i < 32→i ≠ cw h→(w'.R i).Up = if (w.R i).Up = h then 0 else (w.R i).Up:=fun i hi hne=>by
      rw [hR i hi hne]; split <;> rfl
    refine ⟨⟨?_,fun i hi hs=>?_,fun i hi hs=>?_,fun i hi hs=>?_⟩,?_,fun g CN hne=>?_⟩
    · rw [hb]; exact r'
    · obtain ⟨l1,l2⟩:=xN i hi hs
      have:=r.GC i hi l1
      rw [hR i hi l2]
      dsimp only
      rw [hT i l2]
      split
      · exact ⟨this.q,this.e,this.n,this.r,this.c,this.c0⟩
      · exact this
    · obtain ⟨l1,l2⟩:=xN i hi hs
      dsimp only
      rw [hT i l2,hU i hi l2,hb]
      rw [Gp r.book Br,r.up i hi l1]
      rcases r.old i hi l1 with h | h
      · rw [h]; decide
      · exact h.1
    · obtain ⟨l1,l2⟩:=xN i hi hs
      dsimp only
      rw [hT i l2,hb]
      exact (r.old i hi l1).imp _root_.id fun hp=>vg (h:=h) _ hp
    · obtain ⟨ρ,hρ⟩:=tt
      refine ⟨ρ,fun i hi hs hu=>?_⟩
      obtain ⟨l1,l2⟩:=xN i hi hs
      rw [hU i hi l2] at hu ⊢
      by_cases e:(w.R i).Up = h
      · rw [if_pos e] at hu; exact absurd rfl hu
      · rw [if_neg e] at hu ⊢; exact hρ i hi l1 hu
    · have CC:g ≠ h:=fun e=>hne ⟨e,rfl⟩
      have FJ:bG w'.B g:=by rw [hb]; exact (vJ r.book h0 g).2 ⟨CN,CC⟩
      obtain ⟨l1,l2⟩:=xN (cw g) (kF g) (eE FJ).2
      refine ⟨FJ,?_,?_,?_,?_⟩
      · dsimp only; rw [hT _ l2]
      · dsimp only; rw [hT _ l2]
      · dsimp only; rw [hT _ l2]
      · rw [hU _ (kF g) l2]
        by_cases e:(w.R (cw g)).Up = h
        · rw [if_pos e]; exact .inr ⟨rfl,rfl,e,by omega,rfl⟩
        · rw [if_neg e]; exact .inl rfl
end Go.Proofs.YtmdpbdhkmfjlhaaGreat
namespace Go.Proofs.YtmdpbdhkmfjlhaaGreat
open Go Go.Bw
theorem Gq {b:bA} {w:aJ} (r:RB b w) {f:Nat} (hf:rz w f) (hl:f < 32) {u:Int} (hu:u = 0∨mc w u):zP (jD w f) u = zP w u:=by
  rcases hu with h | h
  · subst h; rfl
  · have hv:=jF r hf hl u
    have hne:u ≠ iT f (w.js f):=fun e=>by rw [e] at h; exact xC r hf hl h
    unfold zP
    by_cases h1:bt w u = true
    · rw [if_pos h1,if_pos (hv.2 (.inl ⟨h.1,h1⟩)).2]
    · rw [if_neg h1,if_neg (fun h2=>(hv.1 ⟨h.1,h2⟩).elim (fun h3=>h1 h3.2) hne)]
def B6 (B:aJ) (a:Int):Bool:=(a == 0) || bt B a
theorem qR {n:Nat} {t:aq} {w:ah} (r:fE t w) {a:Int} (h0:0 ≤ a) (h1:a < 4294967296) {ρ:Type} {f:Bool→Option ρ} {g:Bool} :
    cl g (bk n t.book.jQ a) default f = f (bif g then bt w.B a else default):=dD (lO r.book h0 h1)
theorem kT (B:aJ) (a:Int):((a != 0) && (!(bif ((a != 0) == true) then bt B a else default))) = !B6 B a:=by
  unfold B6
  by_cases h0:a = 0
  · subst h0; rfl
  · have h1:(a != 0) = true:=by simpa using h0
    have h2:(a == 0) = false:=by simpa using h0
    rw [h1,h2]; rfl
theorem yT {B:aJ} {a:Int} (h0:0 ≤ a) (h:B6 B a = true):a = 0∨bG B a:=by
  unfold B6 at h
  rw [Bool.or_eq_true,beq_iff_eq] at h
  exact h.imp _root_.id fun hg=>⟨h0,hg⟩
theorem NF {n:Nat} (hn:40 ≤ n) {t:aq} {w:ah} (r:fE t w) (tt:hM w) {a q:Int} (a0:0 ≤ a) (a1:a < 4294967296) :
    ∃t' w' m e,eS n t a q = some (t',m,e)∧dG n w a q = some (w',m,e)∧0 ≤ m∧m < 4294967296∧IQ t w t' w' m e false:=by
  cases ha:B6 w.B a with
  | false =>
    refine ⟨t,w,0,4,?_,?_,by decide,by decide, .same r tt _ _ _⟩
    · unfold eS; rw [qR r a0 a1,kT,ha]; rfl
    · unfold dG; rw [dD (cg hn r a0),kT,ha]; rfl
  | true =>
  rcases Decidable.em (¬(0 ≤ q∧q ≤ 64)) with hq | hq
  · refine ⟨t,w,0,2,?_,?_,by decide,by decide, .same r tt _ _ _⟩
    · unfold eS; rw [qR r a0 a1,kT,ha,av (b:=!true) rfl]; unfold iO; rw [ax rfl,aC (by simp; omega)]
    · unfold dG; rw [dD (cg hn r a0),kT,ha,av (b:=!true) rfl,aC (by simp; omega)]
  have hq:=Decidable.not_not.1 hq
  obtain ⟨f,hf⟩:=xX w.B
  obtain ⟨b',i1,i2⟩:=xK (n:=n) hn r.book hf
  have i3:=sd (n:=n) hn r.book hf
  have hP:eS n t a q = (bd (fG n t.book.jQ) fun fa =>
  cn ((!fa.2.2)) (
  some (t,0,7)) (
  bd (bR n fa.2.1) fun gq =>
  gu (dO gq.1 32) <|
  some (⟨⟨fa.1⟩,eG t.regions (Int.toNat gq.1) ⟨a,q,eY,fun _=>0⟩⟩,fa.2.1,0))):=by
    unfold eS; rw [qR r a0 a1,kT,ha,av (b:=!true) rfl]; unfold iO; rw [ax rfl,av (by simpa using hq)]; rfl
  have hR:dG n w a q = (bd (fX n w.B) fun dQ =>
  cn ((dQ.2 == 0)) (
  some (w,0,7)) (
  bd (bY n dQ.1 dQ.2) fun ia =>
  gu (dO ia 32) <|
  some (⟨dQ.1,eG w.R (Int.toNat ia) ⟨a,q,dw,fun _=>0⟩⟩,dQ.2,0))):=by
    unfold dG; rw [dD (cg hn r a0),kT,ha,av (b:=!true) rfl,av (by simp; omega)]; rfl
  rcases Decidable.em (¬ f < 32) with hl | hl
  · refine ⟨t,w,0,7,?_,?_,by decide,by decide, .same r tt _ _ _⟩
    · rw [hP,ax i1,aC (by simpa using hl)]
    · rw [hR,ax i3,if_neg hl]; rfl
  have hl:=Decidable.not_not.1 hl
  simp only [hl,if_true,decide_true] at i1 i2 i3
  have hr:=r.book.jO f hl
  obtain ⟨q1,q2,q3,q4,q5⟩:=nS (i:=f) (g:=w.B.js f) (by omega) (by omega) hr.1 hr.2
  have hnew:bG (jD w.B f) (iT f (w.B.js f)):=(jF r.book hf hl _).2 (.inr rfl)
  have hfn:(jf (iT f (w.B.js f))).toNat = f:=by rw [q2]; omega
  have QK:dO (jf (iT f (w.B.js f))) 32 = true:=ga _
  refine ⟨⟨⟨b'⟩,eG t.regions f ⟨a,q,eY,fun _=>0⟩⟩,⟨jD w.B f,eG w.R f ⟨a,q,dw,fun _=>0⟩⟩,iT f (w.B.js f),0,?_,?_,by omega,q5,?_⟩
  · rw [hP,ax i1,av (b:=!true) rfl]
    dsimp only
    rw [ax (jU (by omega) q5),aF QK,hfn]
  · rw [hR,ax i3,av (by simp; omega),ax (dY hn i2 (by omega)),hnew.2,if_pos rfl,aF QK,hfn]
  have FL:=yT a0 ha
  have hfree:=hf.2.2 hl
  have hold:∀i,i ≠ f→(jD w.B f).Is i = 1→w.B.Is i = 1:=fun i hi hs=>by
    have:eG w.B.Is f 1 i = 1:=hs
    rwa [jT _ _ hi] at this
  have hne:∀x,bG w.B x→cw x ≠ f:=fun x hx e=>by
    have:=(eE hx).2; rw [e,hfree] at this; cases this
  refine ⟨⟨i2,fun i hi hs=>?_,fun i hi hs=>?_,fun i hi hs=>?_⟩,?_,fun g hg _=>?_⟩
  · dsimp only
    rw [cE,cE]
    by_cases e:i = f
    · rw [if_pos e,if_pos e]
      exact ⟨rfl,rfl,(by show (0:Nat) ≤ 80; omega),(fun y hy=>by cases hy),fun _ _=>rfl,fun _ _=>by show (0:Int) ≤ 0∧(0:Int) ≤ 4294967295; decide⟩
    · rw [if_neg e,if_neg e]; exact r.GC i hi (hold i e hs)
  · dsimp only
    simp only [cE]
    by_cases e:i = f
    · rw [if_pos e,if_pos e]
      show a = zP (jD w.B f) a
      rcases FL with h | h
      · subst h; rfl
      · unfold zP; rw [if_pos ((jF r.book hf hl a).2 (.inl h)).2]
    · rw [if_neg e,if_neg e]
      have h1:=hold i e hs
      rw [Gq r.book hf hl (r.old i hi h1)]; exact r.up i hi h1
  · dsimp only
    simp only [cE]
    by_cases e:i = f
    · rw [if_pos e]
      exact FL.imp _root_.id fun h=>p8 _ (pz h)
    · rw [if_neg e]
      exact (r.old i hi (hold i e hs)).imp _root_.id (p8 _)
  · obtain ⟨ρ,hρ⟩:=tt
    refine ⟨eG ρ f (1 + D6 ρ 32),fun i hi hs hu=>?_⟩
    dsimp only at hu ⊢
    simp only [cE] at hu ⊢
    by_cases e:i = f
    · rw [if_pos e] at hu
      rw [if_pos e,if_pos e]
      change a ≠ 0 at hu
      show (if cw a = f then _ else ρ (cw a)) < _
      have LC:=FL.resolve_left hu
      rw [if_neg (hne a LC)]
      have:=zR ρ (j:=cw a) 32 (kF a)
      omega
    · rw [if_neg e] at hu
      rw [if_neg e,if_neg e]
      have h1:=hold i e hs
      rw [if_neg (hne _ ((r.MS hi h1).resolve_left hu))]
      exact hρ i hi h1 hu
  · have:=hne g hg
    refine ⟨(jF r.book hf hl g).2 (.inl hg),?_,?_,?_, .inl ?_⟩
    all_goals (dsimp only; rw [jT _ _ this])
theorem NH {n:Nat} (hn:110 ≤ n) {p:bT} {x:cy} (h:wW p x):∃b,fJ n p.E = some b∧dK n x.E = some b:=by
  have hl:(x.E.bS.map oI).length ≤ 80:=by rw [List.length_map]; exact h.n
  obtain ⟨b,b1,b2⟩:=Cb (n:=n) hn (e:=p.E) (by rw [h.e]; exact hl) (by rw [h.e]; exact h.r)
  obtain ⟨c,c1,c2⟩:=u9 (n:=n) hn h.n h.r
  refine ⟨b,b1,?_⟩
  rw [c1]
  rw [h.e] at b2
  dsimp only at b2
  have:b = true↔c = true:=b2.trans ⟨fun ⟨q1,_,q3⟩=>c2.2 ⟨q1,q3⟩,fun h=>by
    obtain ⟨q1,q3⟩:=c2.1 h
    exact ⟨q1,EJ q1,q3⟩⟩
  cases b <;> cases c <;> simp_all
theorem Nv {n:Nat} (hn:110 ≤ n) {t:aq} {w:ah} (r:fE t w) (tt:hM w) {h:Int} (h0:0 ≤ h) (h1:h < 4294967296) {p:bT} {x:cy} (hx:wW p x) :
    ∃t' w' e,eA n t h p = some (t',e)∧eU n w h x = some (w',e)∧IQ t w t' w' h e false:=by
  obtain ⟨b,b1,b2⟩:=NH hn hx
  have OB:=eB h
  unfold eA eU
  rw [ax (lO r.book h0 h1),ax (dY (by omega) r.book h0)]
  cases hg:bt w.B h with
  | false=>exact ⟨t,w,4,rfl,rfl, .same r tt _ _ _⟩
  | true =>
  have Br:bG w.B h:=⟨h0,hg⟩
  obtain ⟨l1,l2⟩:=eE Br
  unfold iO
  rw [if_pos rfl,av (b:=!true) rfl,av (by simp; omega),ax rfl,dD b1,dD b2,hx.q]
  rcases Decidable.em (¬((0 ≤ x.bP∧x.bP ≤ 64)∧b = true)) with hq | hq
  · refine ⟨t,w,2,?_,?_, .same r tt _ _ _⟩
    · rw [aC]
      by_cases h3:0 ≤ x.bP∧x.bP ≤ 64
      · have:b = false:=by cases b with
          | false=>rfl
          | true=>exact absurd ⟨h3,rfl⟩ hq
        rw [this]; simp
      · have:(decide (0 ≤ x.bP) && decide (x.bP ≤ 64)) = false:=by rw [Bool.and_eq_false_iff,decide_eq_false_iff_not,decide_eq_false_iff_not]; omega
        rw [this]; rfl
    · rw [aC]
      by_cases h3:0 ≤ x.bP∧x.bP ≤ 64
      · have:b = false:=by cases b with
          | false=>rfl
          | true=>exact absurd ⟨h3,rfl⟩ hq
        rw [this]; simp
      · have:(decide (x.bP < 0) || decide (64 < x.bP)) = true:=by rw [Bool.or_eq_true,decide_eq_true_eq,decide_eq_true_eq]; omega
        rw [this]; rfl
  obtain ⟨⟨q1,q2⟩,rfl⟩:=Decidable.not_not.1 hq
  have e1:(decide (0 ≤ x.bP) && decide (x.bP ≤ 64)) = true:=by simp [q1,q2]
  have e2:(decide (x.bP < 0) || decide (64 < x.bP)) = false:=by rw [Bool.or_eq_false_iff,decide_eq_false_iff_not,decide_eq_false_iff_not]; omega
  rw [e1,e2,av (by rfl),av (by rfl),ax (jU h0 h1),aF (ga h),aF (ga h),lt_eq,aF (ga h),lt_eq,lt_eq,aF (ga h),lt_eq]
  refine ⟨_,_,0,rfl,rfl,?_⟩
  show IQ t w ⟨t.book,eG t.regions (cw h) { p with Up:=(t.regions (cw h)).Up,bP:=x.bP }⟩ ⟨w.B,eG w.R (cw h) { x with Up:=(w.R (cw h)).Up }⟩ h 0 false
  have hT:∀i,(eG t.regions (cw h) { p with Up:=(t.regions (cw h)).Up,bP:=x.bP } i).Up = (t.regions i).Up:=fun i=>by
    rw [cE]; split
    · rename_i e; rw [e]
    · rfl
  have hW:∀i,(eG w.R (cw h) { x with Up:=(w.R (cw h)).Up } i).Up = (w.R i).Up:=fun i=>by
    rw [cE]; split
    · rename_i e; rw [e]
    · rfl
  refine ⟨⟨r.book,fun i hi hs=>?_,fun i hi hs=>?_,fun i hi hs=>?_⟩,?_,fun g CN hne=>?_⟩
  · dsimp only
    rw [cE,cE]
    by_cases e:i = cw h
    · rw [if_pos e,if_pos e]; exact ⟨rfl,hx.e,hx.n,hx.r,hx.c,hx.c0⟩
    · rw [if_neg e,if_neg e]; exact r.GC i hi hs
  · dsimp only; rw [hT,hW]; exact r.up i hi hs
  · dsimp only; rw [hT]; exact r.old i hi hs
  · obtain ⟨ρ,hρ⟩:=tt
    refine ⟨ρ,fun i hi hs hu=>?_⟩
    dsimp only at hu ⊢; rw [hW] at hu ⊢; exact hρ i hi hs hu
  · have CC:cw g ≠ cw h:=fun e=>hne ⟨by rw [← fP CN,← fP Br,e],rfl⟩
    refine ⟨CN,?_,?_,?_, .inl ?_⟩
    all_goals (dsimp only; rw [jT _ _ CC])
end Go.Proofs.YtmdpbdhkmfjlhaaGreat
namespace Go.Proofs.YtmdpbdhkmfjlhaaGreat
open Go Go.Bw
inductive lq (w:ah) (s:Nat):Nat→Prop
  | self:lq w s s
  | down {i:Nat}:i < 32→w.B.Is i = 1→(w.R i).Up ≠ 0→lq w s (cw (w.R i).Up)→lq w s i
theorem lq.iff {w:ah} {s i:Nat} (hi:i < 32) (h1:w.B.Is i = 1):lq w s i↔i = s∨((w.R i).Up ≠ 0∧lq w s (cw (w.R i).Up)):=by
  constructor
  · intro h
    cases h with
    | self=>exact .inl rfl
    | down _ _ a b=>exact .inr ⟨a,b⟩
  · rintro (h | ⟨a,b⟩)
    · subst h; exact .self
    · exact .down hi h1 a b
def qn (w:ah) (ρ:Nat→Nat) (x:Int):Nat:=if x = 0 then 0 else tV (fun j=>decide (ρ j < ρ (cw x))) 32 + 1
theorem vw {t:aq} {w:ah} (r:fE t w) {ρ:Nat→Nat} (hρ:Rd w ρ) {x:Int} (hx:bG w.B x):qn w ρ (w.R (cw x)).Up < qn w ρ x:=by
  have hp:=iG hx
  obtain ⟨l1,l2⟩:=eE hx
  unfold qn
  rw [if_neg (show ¬ x = 0 by omega)]
  split
  · omega
  · rename_i hu
    have h2:=hρ _ l1 l2 hu
    have:=qU (p:=fun j=>decide (ρ j < ρ (cw (w.R (cw x)).Up))) (q:=fun j=>decide (ρ j < ρ (cw x))) (fun j hj=>by simp at hj ⊢; omega) (c:=cw (w.R (cw x)).Up) (by simp) (by simpa using h2) 32 (kF _)
    omega
theorem vx (w:ah) (ρ:Nat→Nat) (x:Int):qn w ρ x ≤ 32:=by
  unfold qn
  split
  · omega
  · have:=qU (p:=fun j=>decide (ρ j < ρ (cw x))) (q:=fun _=>true) (fun _ _=>rfl) (c:=cw x) (by simp) rfl 32 (kF _)
    have:=wC (fun _=>true) 32
    omega
theorem AF {n:Nat} (hn:40 ≤ n) {t:aq} {w:ah} (r:fE t w) (tt:hM w) {h:Int} (hh:bG w.B h) {x0:Int} (hx0:bG w.B x0) :
    ∃b,cu n w h x0 = some b∧(b = true↔(w.R (cw x0)).Up ≠ 0∧lq w (cw h) (cw (w.R (cw x0)).Up)):=by
  obtain ⟨ρ,hρ⟩:=tt
  unfold cu
  have Pc:=iG hh
  refine iE (fun (x:Int)=>(x = 0∨bG w.B x)∧(((w.R (cw x0)).Up ≠ 0∧lq w (cw h) (cw (w.R (cw x0)).Up))↔(x ≠ 0∧(w.R (cw x)).Up ≠ 0∧lq w (cw h) (cw (w.R (cw x)).Up)))) (fun x=>qn w ρ x)
    (fun o=>∃b,o = some b∧(b = true↔(w.R (cw x0)).Up ≠ 0∧lq w (cw h) (cw (w.R (cw x0)).Up))) ?_ n x0 ⟨.inr hx0,?_⟩ (by have:=vx w ρ x0; omega)
  · rintro kk x ⟨hx,hw⟩ ih
    by_cases h0:x = 0
    · subst h0
      rw [av (by rfl)]
      exact ⟨false,rfl,by rw [hw]; simp⟩
    · have hg:=hx.resolve_left h0
      have OB:=eB x
      obtain ⟨l1,l2⟩:=eE hg
      rw [aC (by simpa using h0),ax (dY hn r.book hg.1),hg.2,if_pos rfl,aF (ga x)]
      show ∃b,cn ((w.R (cw x)).Up == h) (some (h != 0)) (kk (w.R (cw x)).Up) = some b∧_
      by_cases hu:(w.R (cw x)).Up = h
      · rw [aC (by simpa using hu)]
        refine ⟨_,rfl,?_⟩
        rw [hw,hu]
        exact ⟨fun _=>⟨h0,by omega, .self⟩,fun _=>by simp; omega⟩
      · rw [av (by simpa using hu)]
        refine ih _ ⟨r.I2 hg,hw.trans ?_⟩ (vw r hρ hg)
        constructor
        · rintro ⟨_,a,b⟩
          have M0:=(r.I2 hg).resolve_left a
          obtain ⟨m1,m2⟩:=eE M0
          refine ⟨a,?_⟩
          rcases (lq.iff m1 m2).1 b with e | e
          · exact absurd (by rw [← fP M0,← fP hh,e]) hu
          · exact e
        · rintro ⟨a,b,c⟩
          have M0:=(r.I2 hg).resolve_left a
          obtain ⟨m1,m2⟩:=eE M0
          exact ⟨h0,a, .down m1 m2 b c⟩
  · have:=iG hx0
    exact ⟨fun a=>⟨by omega,a⟩,fun a=>a.2⟩
theorem It {n:Nat} (hn:40 ≤ n) {t:aq} {w:ah} (r:fE t w) (tt:hM w) {h:Int} (hh:bG w.B h) {x0:Int} (hx0:x0 = 0∨bG w.B x0) (z:Option (aq × Int)) :
    (x0 ≠ 0∧lq w (cw h) (cw x0)→eu (fun Es (cH:Int) =>
  cn ((cH != 0)) (
  cn ((cH == h)) (
  some (t,12)) (
  bd (fu n t cH) fun cT =>
  Es cT)) z) n x0 = some (t,12))∧(¬ (x0 ≠ 0∧lq w (cw h) (cw x0))→eu (fun Es (cH:Int) =>
  cn ((cH != 0)) (
  cn ((cH == h)) (
  some (t,12)) (
  bd (fu n t cH) fun cT =>
  Es cT)) z) n x0 = z):=by
  obtain ⟨ρ,hρ⟩:=tt
  have Pc:=iG hh
  refine iE (fun (x:Int)=>(x = 0∨bG w.B x)∧((x0 ≠ 0∧lq w (cw h) (cw x0))↔(x ≠ 0∧lq w (cw h) (cw x)))) (fun x=>qn w ρ x)
    (fun o=>(x0 ≠ 0∧lq w (cw h) (cw x0)→o = some (t,12))∧(¬ (x0 ≠ 0∧lq w (cw h) (cw x0))→o = z)) ?_ n x0 ⟨hx0,Iff.rfl⟩ (by have:=vx w ρ x0; omega)
  rintro kk x ⟨hx,hw⟩ ih
  by_cases h0:x = 0
  · subst h0
    rw [av (by rfl)]
    exact ⟨fun hq=>absurd rfl (hw.1 hq).1,fun _=>rfl⟩
  · have hg:=hx.resolve_left h0
    obtain ⟨l1,l2⟩:=eE hg
    rw [aC (by simpa using h0)]
    by_cases hu:x = h
    · rw [aC (by simpa using hu)]
      exact ⟨fun _=>rfl,fun hq=>absurd (hw.2 ⟨h0,by rw [hu]; exact .self⟩) hq⟩
    · rw [av (by simpa using hu),ax (BB r hg)]
      refine ih _ ⟨r.I2 hg,hw.trans ?_⟩ (vw r hρ hg)
      constructor
      · rintro ⟨_,b⟩
        rcases (lq.iff l1 l2).1 b with e | e
        · exact absurd (by rw [← fP hg,← fP hh,e]) hu
        · exact e
      · rintro ⟨a,b⟩
        exact ⟨h0, .down l1 l2 a b⟩
theorem GF {n:Nat} (hn:40 ≤ n) {t:aq} {w:ah} (r:fE t w) (tt:hM w) {h a:Int} (h0:0 ≤ h) (h1:h < 4294967296) (a0:0 ≤ a) (a1:a < 4294967296) :
    ∃t' w' e,ei n t h a = some (t',e)∧eH n w h a = some (w',e)∧IQ t w t' w' h e false:=by
  unfold ei eH
  rw [ax (lO r.book h0 h1),ax (cg hn r h0),qR r a0 a1,dD (cg hn r a0)]
  cases hg:bt w.B h with
  | false=>exact ⟨t,w,4,rfl,rfl, .same r tt _ _ _⟩
  | true =>
  have Br:bG w.B h:=⟨h0,hg⟩
  obtain ⟨l1,l2⟩:=eE Br
  have hpos:=iG Br
  have e0:∀v:Bool,(((!true) == false) && v) = v:=fun v=>by cases v <;> rfl
  rw [e0,kT]
  cases ha:B6 w.B a with
  | false=>exact ⟨t,w,4,rfl,rfl, .same r tt _ _ _⟩
  | true =>
  rw [av (by rfl),av (by rfl)]
  have FL:=yT a0 ha
  obtain ⟨p1,p2⟩:=It (n:=n) hn r tt Br FL (bd (bR n h) fun ia =>
  gu (dO ia.1 32) <|
  lt ({ t with regions:=(eG t.regions (Int.toNat ia.1) ({ (t.regions (Int.toNat ia.1)) with Up:=a })) }:aq) fun eR =>
  some (eR,0))
  have hR:∃b,(b = true↔a ≠ 0∧lq w (cw h) (cw a))∧∀(F:Bool→Option (ah × Int)),(cl (((a != 0) == true) && ((a == h) == false)) (cu n w h a) default fun dB=>F ((a != 0) && ((a == h) || dB))) = F b:=by
    rcases FL with e | e
    · subst e
      exact ⟨false,by simp,fun F=>rfl⟩
    · have hp:=iG e
      obtain ⟨b,b1,b2⟩:=AF (n:=n) hn r tt Br e
      obtain ⟨m1,m2⟩:=eE e
      refine ⟨(a == h) || b,?_,fun F=>?_⟩
      · rw [Bool.or_eq_true,beq_iff_eq,b2,lq.iff m1 m2]
        constructor
        · rintro (q | q)
          · exact ⟨by omega, .inl (by rw [q])⟩
          · exact ⟨by omega, .inr q⟩
        · rintro ⟨_,q | q⟩
          · exact .inl (by rw [← fP e,← fP Br,q])
          · exact .inr q
      · have e1:(a != 0) = true:=by simp; omega
        rw [dD b1,e1]
        cases a == h <;> rfl
  obtain ⟨b,b1,b2⟩:=hR
  rw [b2 (fun v=>cn v (some (w,12)) (bd (bY n w.B h) fun cI =>
  gu (dO cI 32) <|
  lt ({ w with R:=(eG w.R (Int.toNat cI) ({ (w.R (Int.toNat cI)) with Up:=a })) }:ah) fun dV =>
  some (dV,0)))]
  cases b with
  | true=>exact ⟨t,w,12,p1 (b1.1 rfl),rfl, .same r tt _ _ _⟩
  | false =>
  have QG:¬ (a ≠ 0∧lq w (cw h) (cw a)):=fun q=>by have:=b1.2 q; cases this
  rw [p2 QG]
  rw [ax (jU h0 h1),av rfl,ax (dY hn r.book h0),hg,if_pos rfl]
  refine ⟨⟨t.book,eG t.regions (cw h) { t.regions (cw h) with Up:=a }⟩,⟨w.B,eG w.R (cw h) { w.R (cw h) with Up:=a }⟩,0,?_,?_,?_⟩
  · rw [aF (ga h)]; rfl
  · rw [aF (ga h)]; rfl
  refine ⟨⟨r.book,fun i hi hs=>?_,fun i hi hs=>?_,fun i hi hs=>?_⟩,?_,fun g CN hne=>?_⟩
  · dsimp only
    rw [cE,cE]
    by_cases e:i = cw h
    · rw [if_pos e,if_pos e]; exact (r.GC _ l1 l2).JD _ _
    · rw [if_neg e,if_neg e]; exact r.GC i hi hs
  · dsimp only
    simp only [cE]
    by_cases e:i = cw h
    · rw [if_pos e,if_pos e]
      show a = zP w.B a
      rcases FL with q | q
      · subst q; rfl
      · unfold zP; rw [if_pos q.2]
    · rw [if_neg e,if_neg e]; exact r.up i hi hs
  · dsimp only
    simp only [cE]
    by_cases e:i = cw h
    · rw [if_pos e]; exact FL.imp _root_.id pz
    · rw [if_neg e]; exact r.old i hi hs
  · obtain ⟨ρ,hρ⟩:=tt
    obtain ⟨f,f1,f2⟩ : ∃f:Nat→Nat,(∀i,lq w (cw h) i→f i = ρ i + ρ (cw a) + 1)∧∀i,¬ lq w (cw h) i→f i = ρ i:=by
      classical
      exact ⟨fun i=>if lq w (cw h) i then ρ i + ρ (cw a) + 1 else ρ i,fun i q=>if_pos q,fun i q=>if_neg q⟩
    refine ⟨f,fun i hi hs hu=>?_⟩
    have hU:(eG w.R (cw h) { w.R (cw h) with Up:=a } i).Up = if i = cw h then a else (w.R i).Up:=by
      rw [cE]; split <;> rfl
    dsimp only at hu hs ⊢
    rw [hU] at hu ⊢
    by_cases e:i = cw h
    · rw [if_pos e] at hu ⊢
      rw [f2 _ (fun q=>QG ⟨hu,q⟩),e,f1 _ .self]
      omega
    · rw [if_neg e] at hu ⊢
      have h2:=hρ i hi hs hu
      have h3:=lq.iff (s:=cw h) hi hs
      by_cases q:lq w (cw h) (cw (w.R i).Up)
      · rw [f1 _ q,f1 _ (h3.2 (.inr ⟨hu,q⟩))]; omega
      · rw [f2 _ q,f2 _ (fun c=>(h3.1 c).elim e fun c=>q c.2)]; exact h2
  · have CC:cw g ≠ cw h:=fun e=>hne ⟨by rw [← fP CN,← fP Br,e],rfl⟩
    refine ⟨CN,?_,?_,?_, .inl ?_⟩
    all_goals (dsimp only; rw [jT _ _ CC])
end Go.Proofs.YtmdpbdhkmfjlhaaGreat
namespace Go.Proofs.YtmdpbdhkmfjlhaaGreat
open Go Go.Bw
theorem vS {n:Nat} (hn:40 ≤ n) {t:aq} {w:ah} (r:fE t w):fN n w = some (ct w.B 32):=by
  unfold fN
  refine eD (fun (l:List Int) (x:Int)=>∃k:Nat,x = k∧k ≤ 32∧l = ct w.B k) (fun _ (x:Int)=>(32 - x).toNat) (fun o=>o = some (ct w.B 32)) ?_ n [] 0 ⟨0,rfl,by omega,rfl⟩ (by omega)
  rintro kk l x ⟨k,rfl,hk,rfl⟩ ih
  by_cases hc:k < 32
  · rw [aC (by simp; omega),aF (cP (by omega) (by omega))]
    have hr:=r.book.jO k hc
    by_cases e:w.B.Is k = 1
    · rw [aC (by simpa using e),ax (pg (by omega) (by omega) hr.1 hr.2),aF (iY (by have:=fz w.B k; omega) (by have:=fz w.B k; omega)),lt_eq,cz (by omega) (by omega)]
      exact ih _ _ ⟨k + 1,by omega,by omega,by simp [ct,e]⟩ (by omega)
    · rw [av (by simpa using e),cz (by omega) (by omega)]
      exact ih _ _ ⟨k + 1,by omega,by omega,by simp [ct,e]⟩ (by omega)
  · rw [av (by simp; omega)]
    obtain rfl:k = 32:=by omega
    rfl
theorem Ir {n:Nat} (hn:40 ≤ n) {t:aq} {w:ah} (r:fE t w):fZ n t.book = some (ct w.B 32):=by
  unfold fZ; rw [ax (AP hn r.book)]
theorem g6 {α:Type} [Inhabited α] {l:List α} {i:Nat} (h:i < l.length):l.getD i default ∈ l:=by
  rw [List.getD,List.getElem?_eq_getElem h]; exact List.getElem_mem _
end Go.Proofs.YtmdpbdhkmfjlhaaGreat
namespace Go.Proofs.YtmdpbdhkmfjlhaaGreat
open Go Go.Bw
theorem xE {i:Nat} (h:fk.B.Is i = 1):False:=absurd (show (0:Int) = 1 from h) (by decide)
theorem Fg:fE fU fk∧hM fk:=
  ⟨⟨⟨fun i _=>rfl,fun i _=>rfl,fun i _=>rfl,fun i _=>.inl rfl,fun i _=>⟨Int.le_refl 0,show (0:Int) ≤ 8388607 by decide⟩⟩,fun i _ h=>(xE h).elim,fun i _ h=>(xE h).elim,fun i _ h=>(xE h).elim⟩,fun _=>0,fun i _ h=>(xE h).elim⟩
end Go.Proofs.YtmdpbdhkmfjlhaaGreat
namespace Go.Proofs.YtmdpbdhkmfjlhaaGreat
open Go Go.Bw
structure Fo (G:List Int) (up:Int→Int) (ρ:Int→Nat):Prop where
  nd:G.Nodup
  len:G.length ≤ 32
  pos:∀x ∈ G,x ≠ 0
  MS:∀x ∈ G,up x = 0∨up x ∈ G
  rk:∀x ∈ G,ρ x < 32
  dn:∀x ∈ G,up x ≠ 0→ρ (up x) < ρ x
def xl (up:Int→Int):Nat→Int→List Int
  | 0,_=>[]
  | k + 1,x=>if up x = 0 then [] else up x::xl up k (up x)
def gX (G:List Int) (up:Int→Int) (x:Int):List Int:=G.filter fun y=>up y == x
def xn (G:List Int) (up:Int→Int):Nat→Int→List Int
  | 0,_=>[]
  | k + 1,x=>x::(gX G up x).flatMap (xn G up k)
abbrev U6 (up:Int→Int) (x:Int):List Int:=xl up 32 x
abbrev V6 (G:List Int) (up:Int→Int) (x:Int):List Int:=xn G up 32 x
theorem iS {G:List Int} {up:Int→Int} {x y:Int}:y ∈ gX G up x↔y ∈ G∧up y = x:=by simp [gX]
theorem qm {α β:Type} {l:List α} {f g:α→List β} (h:∀x ∈ l,f x = g x):l.flatMap f = l.flatMap g:=by
  induction l with
  | nil=>rfl
  | cons a l ih=>rw [List.flatMap_cons,List.flatMap_cons,h a (by simp),ih fun x hx=>h x (by simp [hx])]
section
variable {G:List Int} {up:Int→Int} {ρ:Int→Nat}
theorem Fo.BA (f:Fo G up ρ) {x:Int} (hx:x ∈ G) (h:up x ≠ 0):up x ∈ G:=(f.MS x hx).resolve_left h
theorem Fo.yG (f:Fo G up ρ) (P:Int→Prop) (h:∀x ∈ G,(up x ≠ 0→P (up x))→P x):∀x ∈ G,P x:=by
  have key:∀k x,x ∈ G→ρ x < k→P x:=by
    intro k
    induction k with
    | zero=>intro x _ h; omega
    | succ k ih=>intro x hx hk; exact h x hx fun hu=>ih _ (f.BA hx hu) (by have:=f.dn x hx hu; omega)
  exact fun x hx=>key _ x hx (Nat.lt_succ_self _)
theorem Fo.GX (f:Fo G up ρ) {x y:Int} (hx:x ∈ G) (hy:y ∈ G) (h:up y = x):ρ x < ρ y:=by
  have:=f.dn y hy (by rw [h]; exact f.pos x hx)
  rwa [h] at this
theorem Fo.Ie (f:Fo G up ρ) (P:Int→Prop) (h:∀x ∈ G,(∀y ∈ G,up y = x→P y)→P x):∀x ∈ G,P x:=by
  have key:∀k x,x ∈ G→32 - ρ x < k→P x:=by
    intro k
    induction k with
    | zero=>intro x _ h; omega
    | succ k ih=>intro x hx hk; exact h x hx fun y hy hu=>ih _ hy (by have:=f.GX hx hy hu; have:=f.rk y hy; omega)
  exact fun x hx=>key _ x hx (Nat.lt_succ_self _)
theorem Fo.RQ (f:Fo G up ρ):∀k x,x ∈ G→ρ x < k→xl up (k + 1) x = xl up k x:=by
  intro k
  induction k with
  | zero=>intro x _ h; omega
  | succ k ih =>
    intro x hx hk
    show (if up x = 0 then [] else up x::xl up (k + 1) (up x)) = (if up x = 0 then [] else up x::xl up k (up x))
    split
    · rfl
    · rename_i hu
      rw [ih _ (f.BA hx hu) (by have:=f.dn x hx hu; omega)]
theorem Fo.Jz (f:Fo G up ρ) {x:Int} (hx:x ∈ G):U6 up x = if up x = 0 then [] else up x::U6 up (up x):=by
  show xl up (31 + 1) x = _
  rw [xl]
  split
  · rfl
  · rename_i hu
    have:=f.dn x hx hu
    have:=f.rk x hx
    rw [← f.RQ 31 _ (f.BA hx hu) (by omega)]
theorem Fo.u0 (f:Fo G up ρ) {x:Int} (hx:x ∈ G) (h:up x = 0):U6 up x = []:=by rw [f.Jz hx,if_pos h]
theorem Fo.u1 (f:Fo G up ρ) {x:Int} (hx:x ∈ G) (h:up x ≠ 0):U6 up x = up x::U6 up (up x):=by rw [f.Jz hx,if_neg h]
theorem Fo.RJ (f:Fo G up ρ):∀k x,x ∈ G→32 - ρ x ≤ k→xn G up (k + 1) x = xn G up k x:=by
  intro k
  induction k with
  | zero=>intro x hx h; have:=f.rk x hx; omega
  | succ k ih =>
    intro x hx hk
    rw [xn,xn]
    congr 1
    refine qm fun y hy=>?_
    obtain ⟨hy,hu⟩:=iS.1 hy
    exact ih y hy (by have:=f.GX hx hy hu; have:=f.rk y hy; omega)
theorem Fo.vK (f:Fo G up ρ) {x:Int} (hx:x ∈ G):V6 G up x = x::(gX G up x).flatMap (V6 G up):=by
  show xn G up (31 + 1) x = _
  rw [xn]
  congr 1
  refine qm fun y hy=>?_
  obtain ⟨hy,hu⟩:=iS.1 hy
  have:=f.GX hx hy hu
  exact (f.RJ 31 y hy (by have:=f.rk y hy; omega)).symm
theorem Fo.r8 (f:Fo G up ρ) {x:Int} (hx:x ∈ G):∀y ∈ U6 up x,y ∈ G∧ρ y < ρ x:=by
  refine f.yG (fun x=>∀y ∈ U6 up x,y ∈ G∧ρ y < ρ x) (fun x hx ih y hy=>?_) x hx
  by_cases hu:up x = 0
  · rw [f.u0 hx hu] at hy; cases hy
  · rw [f.u1 hx hu] at hy
    have:=f.dn x hx hu
    rcases List.mem_cons.1 hy with h | h
    · rw [h]; exact ⟨f.BA hx hu,this⟩
    · obtain ⟨h1,h2⟩:=ih hu y h; exact ⟨h1,by omega⟩
theorem Fo.Fs (f:Fo G up ρ) {x:Int} (hx:x ∈ G):x ∉ U6 up x:=fun h=>by have:=(f.r8 hx x h).2; omega
theorem Fo.Ns (f:Fo G up ρ) {x y z:Int} (hx:x ∈ G) (hy:y ∈ U6 up x) (hz:z ∈ U6 up y):z ∈ U6 up x:=by
  revert hy
  refine f.yG (fun x=>y ∈ U6 up x→z ∈ U6 up x) (fun x hx ih hy=>?_) x hx
  by_cases hu:up x = 0
  · rw [f.u0 hx hu] at hy; cases hy
  · rw [f.u1 hx hu] at hy ⊢
    rcases List.mem_cons.1 hy with h | h
    · rw [← h]; exact List.mem_cons_of_mem _ hz
    · exact List.mem_cons_of_mem _ (ih hu h)
theorem Fo.Nr (f:Fo G up ρ) {x y:Int} (hx:x ∈ G) (hy:y = x∨y ∈ U6 up x) (hu:up y ≠ 0):up y ∈ U6 up x:=by
  rcases hy with h | h
  · subst h; rw [f.u1 hx hu]; exact List.mem_cons_self
  · exact f.Ns hx h (by rw [f.u1 (f.r8 hx y h).1 hu]; exact List.mem_cons_self)
theorem Fo.Gt (f:Fo G up ρ) {x y:Int} (hy:y ∈ G) (h:x ∈ U6 up y):∃k ∈ G,up k = x∧(k = y∨k ∈ U6 up y):=by
  revert h
  refine f.yG (fun y=>x ∈ U6 up y→∃k ∈ G,up k = x∧(k = y∨k ∈ U6 up y)) (fun y hy ih h=>?_) y hy
  by_cases hu:up y = 0
  · rw [f.u0 hy hu] at h; cases h
  · rw [f.u1 hy hu] at h
    rcases List.mem_cons.1 h with h | h
    · exact ⟨y,hy,h.symm, .inl rfl⟩
    · obtain ⟨k,k1,k2,k3⟩:=ih hu h
      refine ⟨k,k1,k2, .inr ?_⟩
      rw [f.u1 hy hu]
      rcases k3 with k3 | k3
      · rw [k3]; exact List.mem_cons_self
      · exact List.mem_cons_of_mem _ k3
theorem Fo.Sf (f:Fo G up ρ) {a b y:Int} (hy:y ∈ G) (ha:a = y∨a ∈ U6 up y) (hb:b = y∨b ∈ U6 up y):a = b∨a ∈ U6 up b∨b ∈ U6 up a:=by
  revert ha hb
  refine f.yG (fun y=>(a = y∨a ∈ U6 up y)→(b = y∨b ∈ U6 up y)→a = b∨a ∈ U6 up b∨b ∈ U6 up a) (fun y hy ih ha hb=>?_) y hy
  by_cases hu:up y = 0
  · rw [f.u0 hy hu] at ha hb
    have e1:a = y:=ha.resolve_right (by simp)
    have e2:b = y:=hb.resolve_right (by simp)
    exact .inl (e1.trans e2.symm)
  · rcases ha with ha | ha
    · rcases hb with hb | hb
      · exact .inl (ha.trans hb.symm)
      · subst ha; exact .inr (.inr hb)
    · rcases hb with hb | hb
      · subst hb; exact .inr (.inl ha)
      · rw [f.u1 hy hu] at ha hb
        exact ih hu (List.mem_cons.1 ha) (List.mem_cons.1 hb)
theorem Fo.pM (f:Fo G up ρ) {x:Int} (hx:x ∈ G):∀y,y ∈ V6 G up x↔y ∈ G∧(y = x∨x ∈ U6 up y):=by
  refine f.Ie (fun x=>∀y,y ∈ V6 G up x↔y ∈ G∧(y = x∨x ∈ U6 up y)) (fun x hx ih y=>?_) x hx
  rw [f.vK hx,List.mem_cons,List.mem_flatMap]
  constructor
  · rintro (h | ⟨k,hk,h⟩)
    · subst h; exact ⟨hx, .inl rfl⟩
    · obtain ⟨k1,k2⟩:=iS.1 hk
      obtain ⟨h1,h2⟩:=(ih k k1 k2 y).1 h
      refine ⟨h1, .inr ?_⟩
      rw [← k2]
      exact f.Nr h1 (h2.imp Eq.symm _root_.id) (by rw [k2]; exact f.pos x hx)
  · rintro ⟨h1,h | h⟩
    · exact .inl h
    · obtain ⟨k,k1,k2,k3⟩:=f.Gt h1 h
      exact .inr ⟨k,iS.2 ⟨k1,k2⟩,(ih k k1 k2 y).2 ⟨h1,k3.imp Eq.symm _root_.id⟩⟩
theorem uE {α β:Type} {l:List α} {g:α→List β} (hl:l.Nodup) (h1:∀x ∈ l,(g x).Nodup) (h2:∀x ∈ l,∀y ∈ l,x ≠ y→∀z ∈ g x,z ∉ g y):(l.flatMap g).Nodup:=by
  induction l with
  | nil=>simp
  | cons a l ih =>
    obtain ⟨ha,hl⟩:=List.nodup_cons.1 hl
    rw [List.flatMap_cons]
    refine List.nodup_append.2 ⟨h1 a (by simp),ih hl (fun x hx=>h1 x (by simp [hx])) (fun x hx y hy=>h2 x (by simp [hx]) y (by simp [hy])),fun z hz w hw e=>?_⟩
    subst e
    obtain ⟨b,hb,Si⟩:=List.mem_flatMap.1 hw
    exact h2 a (by simp) b (by simp [hb]) (fun e=>ha (e ▸ hb)) z hz Si
theorem Fo.Jt (f:Fo G up ρ) {x:Int} (hx:x ∈ G):(V6 G up x).Nodup:=by
  refine f.Ie (fun x=>(V6 G up x).Nodup) (fun x hx ih=>?_) x hx
  rw [f.vK hx]
  refine List.nodup_cons.2 ⟨fun h=>?_,uE (f.nd.filter _) (fun k hk=>?_) (fun a ha b hb hne z hz Sj=>?_)⟩
  · obtain ⟨k,hk,h⟩:=List.mem_flatMap.1 h
    obtain ⟨k1,k2⟩:=iS.1 hk
    have h3:=((f.pM k1 x).1 h).2
    have:=f.GX hx k1 k2
    rcases h3 with h3 | h3
    · rw [h3] at this; omega
    · have:=(f.r8 hx k h3).2; omega
  · obtain ⟨k1,k2⟩:=iS.1 hk; exact ih k k1 k2
  · obtain ⟨a1,a2⟩:=iS.1 ha
    obtain ⟨b1,b2⟩:=iS.1 hb
    obtain ⟨z1,z2⟩:=(f.pM a1 z).1 hz
    obtain ⟨_,z3⟩:=(f.pM b1 z).1 Sj
    have ra:=f.GX hx a1 a2
    have rb:=f.GX hx b1 b2
    have x0:=f.pos x hx
    have no:∀{p q:Int},p ∈ G→up p = x→ρ x < ρ q→q ∉ U6 up p:=fun hp hu hr hq=>by
      rw [f.u1 hp (by rw [hu]; exact x0),hu] at hq
      rcases List.mem_cons.1 hq with h | h
      · rw [h] at hr; omega
      · have:=(f.r8 hx _ h).2; omega
    rcases f.Sf z1 (z2.imp Eq.symm _root_.id) (z3.imp Eq.symm _root_.id) with h | h | h
    · exact hne h
    · exact no b1 b2 ra h
    · exact no a1 a2 rb h
theorem z5 {l m:List Int} (hl:l.Nodup) (hs:∀x ∈ l,x ∈ m):l.length ≤ m.length:=by
  induction l generalizing m with
  | nil=>simp
  | cons a l ih =>
    obtain ⟨ha,hl⟩:=List.nodup_cons.1 hl
    have hm:=hs a (by simp)
    have:=ih (m:=m.erase a) hl (fun x hx=>(List.mem_erase_of_ne (fun (e:x = a)=>ha (by rw [← e]; exact hx))).2 (hs x (by simp [hx])))
    rw [List.length_erase_of_mem hm] at this
    have h0:0 < m.length:=List.length_pos_of_mem hm
    rw [List.length_cons]; omega
theorem Fo.uX (f:Fo G up ρ) {x:Int} (hx:x ∈ G):(V6 G up x).length ≤ 32:=Nat.le_trans (z5 (f.Jt hx) fun y hy=>((f.pM hx y).1 hy).1) f.len
theorem Fo.Nt (f:Fo G up ρ) {x:Int} (hx:x ∈ G):(U6 up x).Nodup:=by
  refine f.yG (fun x=>(U6 up x).Nodup) (fun x hx ih=>?_) x hx
  by_cases hu:up x = 0
  · rw [f.u0 hx hu]; exact .nil
  · rw [f.u1 hx hu]; exact List.nodup_cons.2 ⟨f.Fs (f.BA hx hu),ih hu⟩
theorem Fo.BD (f:Fo G up ρ) {x:Int} (hx:x ∈ G):(U6 up x).length ≤ 32:=Nat.le_trans (z5 (f.Nt hx) fun y hy=>(f.r8 hx y hy).1) f.len
def xb (up:Int→Int) (x:Int):Int:=(U6 up x).getLastD x
theorem Fo.rt_eq (f:Fo G up ρ) {x:Int} (hx:x ∈ G):xb up x = if up x = 0 then x else xb up (up x):=by
  unfold xb
  by_cases hu:up x = 0
  · rw [f.u0 hx hu,if_pos hu]; rfl
  · rw [f.u1 hx hu,if_neg hu]
    cases h:U6 up (up x) with
    | nil=>rfl
    | cons a l=>simp [List.getLastD]
theorem Fo.BS (f:Fo G up ρ) {x:Int} (hx:x ∈ G):xb up x ∈ G∧(xb up x = x∨xb up x ∈ U6 up x)∧up (xb up x) = 0:=by
  refine f.yG (fun x=>xb up x ∈ G∧(xb up x = x∨xb up x ∈ U6 up x)∧up (xb up x) = 0) (fun x hx ih=>?_) x hx
  rw [f.rt_eq hx]
  by_cases hu:up x = 0
  · rw [if_pos hu]; exact ⟨hx, .inl rfl,hu⟩
  · rw [if_neg hu]
    obtain ⟨h1,h2,h3⟩:=ih hu
    refine ⟨h1, .inr ?_,h3⟩
    rw [f.u1 hx hu]
    rcases h2 with h2 | h2
    · rw [h2]; exact List.mem_cons_self
    · exact List.mem_cons_of_mem _ h2
theorem Fo.yO (f:Fo G up ρ) {x:Int} (hx:x ∈ G):xb up x = x↔up x = 0:=by
  rw [f.rt_eq hx]
  by_cases hu:up x = 0
  · rw [if_pos hu]; exact ⟨fun _=>hu,fun _=>rfl⟩
  · rw [if_neg hu]
    refine ⟨fun h=>?_,fun h=>absurd h hu⟩
    have h1:=f.dn x hx hu
    obtain ⟨_,h2,_⟩:=f.BS (f.BA hx hu)
    rw [h] at h2
    rcases h2 with h2 | h2
    · rw [← h2] at h1; omega
    · have:=(f.r8 (f.BA hx hu) x h2).2; omega
end
end Go.Proofs.YtmdpbdhkmfjlhaaGreat
