/- Part 3 of what a proof leans on; pruned and shortened by a program out of longer texts. -/
import Derived.Test.YtmdpbdhkmfjlhaaQ2
namespace Go.Proofs.Ytmdpbdhkmfjlhaa
open Go Go.Bw
instance:G5 Try.prog 52 3 5 .i64:=⟨⟨by kernel_rfl,by kernel_rfl⟩⟩
instance:G5 Try.prog 209 69 4 .u32:=⟨⟨by kernel_rfl,by kernel_rfl⟩⟩
instance:HG Try.prog 4 (Value.bool false):=⟨by kernel_rfl⟩
instance:HG Try.prog 5 (Value.int .u8 0):=⟨by kernel_rfl⟩
def lX (n:Nat) (a0:ag) (a1:Int):Option Int:=
 bd (jy n a0 a1) fun aQ =>
 some aQ.1.Up
def mR (n:Nat) (a0:ag) (a1:Int):Option (List Int):=
 bd (jz n a0) fun aQ =>
 di (fun uM (dy:(List Int)) (cR:Int) =>
 cn (decide (cR < (aQ.length:Int))) (
 bd (bF n a0 a1) fun fx =>
 gu (!(fx == true) || dj cR aQ.length) <|
 cl (fx == true) (lX n a0 (aQ.getD (Int.toNat cR) default)) default fun g5 =>
 cn ((fx && (g5 == a1))) (
 gu (dj cR aQ.length) <|
 gu (jP dy.length 1 8) <|
 lt (dy++([(aQ.getD (Int.toNat cR) default)]):List Int) fun lO =>
 uM lO (wr .i64 (cR + 1))) (
 uM dy (wr .i64 (cR + 1)))) (
 some dy)) n ([]) 0
def fN:Nat→ag→Int→Option (List Int)
 | 0,_,_=>none
 | n + 1,a0,a1 =>
 bd (bF n a0 a1) fun aQ =>
 cn ((!aQ)) (
 some ([]:List Int)) (
 bd (mR n a0 a1) fun ju =>
 di (fun IC (fa:(List Int)) (kA:Int) =>
 cn (decide (kA < (ju.length:Int))) (
 gu (dj kA ju.length) <|
 bd (fN n a0 (ju.getD (Int.toNat kA) default)) fun g5 =>
 gu (jP fa.length g5.length 8) <|
 lt (fa++g5:List Int) fun gV =>
 IC gV (wr .i64 (kA + 1))) (
 some fa)) n ([a1]:List Int) 0)
def pq (n:Nat) (a0:ag) (a1:Int):Option (ag × (List Int) × Int):=
 bd (fN n a0 a1) fun aQ =>
 di (fun E8 (cR:Int) (kA:ag) =>
 cn (decide (cR < (aQ.length:Int))) (
 gu (dj cR aQ.length) <|
 bd (dM n kA (aQ.getD (Int.toNat cR) default)) fun kD =>
 E8 (wr .i64 (cR + 1)) kD.1) (
 cn (((aQ.length:Int) == 0)) (
 some (kA,([]:List Int),4)) (
 some (kA,aQ,0)))) n 0 a0
def jX (n:Nat) (a0:ag) (a1:Int) (a2:Int):Option Bool:=
 bd (bF n a0 a1) fun aQ =>
 cl (aQ == true) (bF n a0 a2) default fun bT =>
 cl (((aQ && bT) == true) && ((a1 == a2) == false)) (bQ n a0 a1 a2) default fun gN =>
 some ((aQ && bT) && ((a1 == a2) || gN))
def eG:Nat→ag→Int→Option Int
 | 0,_,_=>none
 | n + 1,a0,a1 =>
 bd (bF n a0 a1) fun aQ =>
 cn ((!aQ)) (
 some 0) (
 bd (lX n a0 a1) fun bT =>
 bd (eG n a0 bT) fun gN =>
 some (wr .i64 (1 + gN)))
def ou (n:Nat) (a0:ag) (a1:Int) (a2:Int):Option (ag × Int):=
 bd (bF n a0 a1) fun aQ =>
 cl ((!aQ) == false) (bF n a0 a2) default fun bT =>
 cn (((!aQ) || (!bT))) (
 some (a0,4)) (
 bd (lX n a0 a1) fun dz =>
 cl ((dz != 0) == false) (jX n a0 a1 a2) default fun c9 =>
 cn (((dz != 0) || c9)) (
 some (a0,12)) (
 bd (fc n a0 a1 a2) fun dy =>
 bd (fN n dy.1 a1) fun g5 =>
 dW (fun E6 (gV:Int) =>
 cn (decide (gV < (g5.length:Int))) (
 gu (dj gV g5.length) <|
 bd (eG n dy.1 (g5.getD (Int.toNat gV) default)) fun nR =>
 cn (decide (6 < nR)) (
 some (a0,8)) (
 E6 (wr .i64 (gV + 1)))) (
 some (dy.1,dy.2))) n 0))
def qQ (n:Nat) (a0:ag) (a1:Int):Option (ag × Int):=
 bd (bF n a0 a1) fun aQ =>
 cn ((!aQ)) (
 some (a0,4)) (
 bd (fN n a0 a1) fun c9 =>
 di (fun IA (g5:Int) (bR:ag) =>
 cn (decide (g5 < (c9.length:Int))) (
 gu (dj g5 c9.length) <|
 bd (bD n a0.B (c9.getD (Int.toNat g5) default)) fun ni =>
 di (fun BE (nj:Int) (mN:ag) =>
 cn (decide (nj < 8)) (
 gu (dj ni 32) <|
 gu (dj nj 8) <|
 cl ((((a0.R (Int.toNat ni)).Cells (Int.toNat nj)) != 0) == true) (bQ n a0 ((a0.R (Int.toNat ni)).Cells (Int.toNat nj)) a1) default fun B6 =>
 cn (((((a0.R (Int.toNat ni)).Cells (Int.toNat nj)) != 0) && B6)) (
 gu (dj ni 32) <|
 gu (dj nj 8) <|
 lt ({ mN with R:=(dX mN.R (Int.toNat ni) ({ (mN.R (Int.toNat ni)) with Cells:=(dX ((mN.R (Int.toNat ni)).Cells) (Int.toNat nj) 0) })) }:ag) fun Ew =>
 BE (wr .i64 (nj + 1)) Ew) (
 BE (wr .i64 (nj + 1)) mN)) (
 IA (wr .i64 (g5 + 1)) mN)) n 0 bR) (
 bd (bD n a0.B a1) fun rD =>
 gu (dj rD 32) <|
 lt ({ bR with R:=(dX bR.R (Int.toNat rD) ({ (bR.R (Int.toNat rD)) with Up:=0 })) }:ag) fun Hq =>
 some (Hq,0))) n 0 a0)
def qP (n:Nat) (a0:ag) (a1:Int) (a2:Int):Option (ag × Int × Int):=
 cl ((a1 == 0) == false) (bF n a0 a1) default fun aQ =>
 cl (((((a1 == 0) || aQ) && decide (0 ≤ a2)) && decide (a2 ≤ 64)) == true) (eG n a0 a1) default fun bT =>
 cn ((((((a1 == 0) || aQ) && decide (0 ≤ a2)) && decide (a2 ≤ 64)) && decide (5 < bT))) (
 some (a0,0,8)) (
 bd (dg n a0 a1 a2) fun dz =>
 some (dz.1,dz.2.1,dz.2.2))
def fh (n:Nat) (a0:aj) (a1:Int):Option (aj × Int):=
 some (a0,a1)
theorem j5 {n a0 a1 r K} [bz K] {eN} (f0:(ah).rep K eN a0) (h:fh n a0 a1 = some r):Bw.Fn (α:=Nat × List Value × Nat) Try.prog 128 [A eN, .int .u32 a1] K [] (fun (b0,c0,b1)=>(ah).rep K c0 r.1) (fun (b0,c0,b1)=>.func (.func 160) #[] #[Ptr b0 0,Ptr b1 0]) (fun (b0,c0,b1)=>[.cells b0 77 c0, .cells b1 69 ((LI .u32).enc r.2)]):=by
 unfold fh at h
 refine fo Try.func128 (by kernel_rfl) rfl Try.ntmps128 rfl fun cx _ hro cQ hpre=>?_
 refine SC 2 rf ?_
 refine W1 rf (bS rfl) fun b2=>?_
 refine W1 rf (ct (LI .u32) a1 rfl rfl) fun b3=>?_
 refine SL 10 rf ?_
 have h:=sj h; subst h
 exact cY ⟨b2,eN,b3⟩ rfl (.tmp rfl .nil) (mo f0) rfl (ks:=[1,0]) rfl (by decide)
def eS (n:Nat) (a1:aj) (a2:Int):Option (List Int):=
 dW (fun L4 (gB:Int) =>
 bd (dc n a1 gB) fun kD =>
 cn (((kD.2 != 0) || (kD.1.Up == 0)) == false) (
 yl kD.1.Up <|
 L4 kD.1.Up) (
 some [])) n a2
theorem iC {n:Nat} {a1:aj} {a2:Int} {l:List Int} {K:World→Prop} [bz K] {q1:Nat} {gO:List Value} (f1:(ah).rep K gO a1) {q2:Nat} (h:eS n a1 a2 = some l):B2 Try.prog 160 [Ptr q1 0,Ptr q2 0] [.cells q1 77 gO, .cells q2 69 ((LI .u32).enc a2)] [.cells q1 77 gO] K (fun k=>[.int .u32 (l.getD k default)]) l.length:=by
 unfold eS at h
 refine ⟨fun y J Jx bs=>eV Try.func160 (by kernel_rfl) rfl Try.ntmps160 rfl (fun cx cQ hpre hro=>?_)⟩
 haveI:=gZ (show cx.bs = bs++bx [.cells q1 77 gO, .cells q2 69 ((LI .u32).enc a2)] from cQ) hpre.1
 have hR:B0 Try.prog y cx.bs cx.w0 J Jx (fun k=>[.int .u32 (l.getD k default)]) l.length:=by rw [show cx.bs = bs++bx [.cells q1 77 gO, .cells q2 69 ((LI .u32).enc a2)] from cQ]; exact hpre.2
 have C9:l.drop 0 = l:=rfl
 have vY:0 ≤ l.length:=Nat.zero_le _
 refine qb ?_
 obtain ⟨Ir,FP,h⟩:=oz h
 refine LO (β:=Int × Nat × (List Int) × (List Nat)) [0,1,2] [0,1,2] (fun (EY,gB,nq,EK,rZ)=>[]) (fun (EY,gB,nq,EK,rZ)=>[.ext rZ (J nq rZ), .cells q1 77 gO, .cells q2 69 ((LI .u32).enc gB)]) (fun (EY,gB,nq,EK,rZ)=>l.drop nq = EK∧nq ≤ l.length∧dW Ir EY gB = some EK) (n,a2,0,l,bs) ⟨C9,vY,h⟩ rf rf rf ?_
 rintro EY ⟨gB,nq,EK,rZ⟩ ⟨Gg,Js,h⟩
 replace h:=oy FP h; obtain ⟨EY,rfl,h⟩:=h
 obtain ⟨kD,CM,h⟩:=bp h
 refine SC 3 rf ?_
 refine aq rfl (av rfl (bf.len _ f1)) ?_
 refine aq rfl (aR (aF.id (L:=(LI .u32))) rfl) ?_
 refine CB (iG (K:=K) (mo f1) CM) rf rf ?_
 rintro Nt GY Lo ⟨Kl,rfl,f47⟩
 replace f47:(aM).rep (fun w=>K w∧Hs [.ext GY Lo] w) Kl kD.1:=f47
 refine SL 3 rf ?_
 refine W1 rf (cE (hz:=(⟨by kernel_rfl⟩ : dx Try.prog 74 eo))) fun b4=>?_
 refine ST (C:=(fun w=>K w∧Hs [.ext GY Lo] w)) kD.1 (aF.id (L:=aM)) ei (mo f47) rf rf rf rf rf fun NF f50=>?_
 refine SL 5 rf ?_
 rcases Bool.eq_false_or_eq_true (((kD.2 != 0) || (kD.1.Up == 0)) == false) with nr | nr
 ·
  replace h:=GL nr h
  obtain ⟨LK,Jg,h⟩:=zS h
  obtain ⟨Jq,JF,JI,Jo⟩:=drop_cons (Gg.trans Jg)
  refine SC 4 rf ?_
  refine GB rf rf rf (fun hb=>aN rfl) ?_
  refine GB rf rf rf (fun hb=>cU (bN rfl hb) (bZ.int f50)) ?_
  refine GB rf rf rf (fun hb=>fP (bN rfl hb) rfl) ?_
  refine aq rfl (ga rfl rfl) ?_
  refine aq rfl (ay rfl) ?_
  refine GB rf rf rf (fun hb=>ay rfl) ?_
  refine GB rf rf rf (fun hb=>aN rfl) ?_
  refine GB rf rf rf (fun hb=>cU (bN rfl hb) (bZ.int f50)) ?_
  have hb:=nr; refine G2 (dR rfl rfl) nr rfl (nL (bs:=rZ) hR Jq hro (bN rfl hb) (show oE _ _ = some [.int .u32 (l.getD nq default)] by rw [JF]; exact (aP (bN rfl hb) rfl))) (fun ⟨Gq,Gy⟩ _=>?_)
  refine GB rf rf rf (fun hb=>j7 (bN rfl hb)) ?_
  refine aq rfl (ga rfl rfl) ?_
  refine SL 2 rf ?_
  refine rq rfl (fun hc=>?_) (fun hc=>?_)
  ·
   replace hc:=K1 nr hc
   obtain rfl:Gq = false:=by simpa using hc
   dsimp only [cond_true,cond_false]
   refine SC 5 rf ?_
   exact cY (false,Gy) rfl .nil trivial rfl (ks:=[2,3]) rfl (by decide)
  ·
   replace hc:=K1 nr hc
   obtain rfl:Gq = true:=by simpa using hc
   dsimp only [cond_true,cond_false]
   refine SC 4 rf ?_
   refine aq rfl (cU rfl (bZ.int f50)) ?_
   refine W0 (bA (M:=(LI .u32)) (aF.id (L:=(LI .u32))) kD.1.Up kD.1.Up rfl rfl rfl rfl rfl) ?_
   refine SL 2 rf ?_
   exact LN [2,3,4] (kD.1.Up,nq + 1,LK,Gy) ⟨JI,Jo,h⟩ rf rf rf
 ·
  replace h:=GM nr h
  refine SC 4 rf ?_
  refine GB rf rf rf (fun hb=>aN rfl) ?_
  refine GB rf rf rf (fun hb=>cU (bN rfl hb) (bZ.int f50)) ?_
  refine GB rf rf rf (fun hb=>fP (bN rfl hb) rfl) ?_
  refine aq rfl (ga rfl rfl) ?_
  refine aq rfl (ay rfl) ?_
  refine GB rf rf rf (fun hb=>ay rfl) ?_
  refine GB rf rf rf (fun hb=>aN rfl) ?_
  refine GB rf rf rf (fun hb=>cU (bN rfl hb) (bZ.int f50)) ?_
  refine G3 (v:=.bool true) (dR rfl rfl) nr rfl ?_
  refine GB rf rf rf (fun hb=>j7 (bN rfl hb)) ?_
  refine aq rfl (ga rfl rfl) ?_
  refine SL 2 rf ?_
  refine rq rfl (fun _=>?_) (fun hc=>(Gp nr hc).elim)
  refine SC 5 rf ?_
  have h:=sj h; subst h
  have J4:=drop_nil Gg Js
  refine oV (ks:=[2,3]) (H':=[.ext rZ (J (nq) rZ), .cells q1 77 gO]) rfl (by decide) ?_
  refine oW (J:=J) (n:=l.length) J4 ?_
  exact cY (true,rZ) rfl .nil trivial rfl (ks:=[0,1]) rfl (by decide)
def dA (n:Nat) (a0:aj) (a1:Int):Option Int:=
 bd (aJ n a0.book.hO a1) fun aQ =>
 cn ((!aQ)) (
 some 0) (
 bd (fh n a0 a1) fun bT =>
 bd (eS n bT.1 bT.2) fun c9 =>
 eU (fun (Dq:Int) Aq (bW:Int) =>
 lt (Dq:Int) fun kA =>
 lt (wr .i64 (bW + 1):Int) fun gj =>
 Aq gj) (fun (bW:Int) =>
 some bW) c9 1)
theorem iI {n a0 a1 r K} [bz K] {eN} (f0:(ah).rep K eN a0) (h:dA n a0 a1 = some r):qk Try.prog 54 [A eN, .int .u32 a1] K (.int .i64 r):=by
 unfold dA at h
 refine fo Try.func54 (by kernel_rfl) rfl Try.ntmps54 rfl fun cx _ hro cQ hpre=>?_
 refine SC 2 rf ?_
 refine W1 rf (bS rfl) fun b2=>?_
 obtain ⟨aQ,cv,h⟩:=bp h
 refine SL 8 rf ?_
 refine aq rfl (bq rfl (aW.iff.1 ((aE.c0 aL).get f0)) (aY _ _)) ?_
 refine aq rfl (ay rfl) ?_
 refine CV (aT cv) rf rf ?_
 refine SL 3 rf ?_
 refine fz h rf (fun hc h=>?_) fun hc h=>?_
 ·
  refine SC 7 rf ?_
  have h:=sj h; subst h
  exact RV rf (rt rf rn) rf
 ·
  refine SC 4 rf ?_
  refine W1 rf (bj (L:=(LI .i64)) (z:=0) ⟨by kernel_rfl⟩) fun b5=>?_
  refine W0 (bA (M:=(LI .i64)) (aF.id (L:=(LI .i64))) 1 1 rfl rfl rfl rfl rfl) ?_
  obtain ⟨bT,iD,h⟩:=bp h
  refine SL 5 rf ?_
  refine aq rfl (av rfl (bf.len _ f0)) ?_
  refine aq rfl (ay rfl) ?_
  refine eu rfl (fC (j5 (K:=K) (mo f0) iD) rfl kn) (fun ⟨Ld,GR,M0⟩ f25=>?_)
  replace f25:(ah).rep K GR bT.1:=f25
  dsimp only [List.cons_append,List.nil_append]
  refine SL 3 rf ?_
  obtain ⟨c9,mX,h⟩:=bp h
  obtain ⟨uO,yR,vf,yW,h⟩:=pH h
  refine oe (K:=K) (α:=Int) (β:=Unit) hro rfl (iC (K:=K) (mo f25) mX) (fun _=>rfl) rfl (fun kM=>fun bW=>eU uO vf (c9.drop kM) bW = some r) (fun kM=>fun bW=>[.cells b5 3 ((LI .i64).enc bW), .cells b2 77 eN]) (fun _ _=>False) (fun _=>[]) 1 h (ks:=[0,1,2,3]) rfl (by decide) ?_ ?_ ?_
  ·
   rintro kM bW lo dd rec c' hk h oA rV mZ hsi hT
   replace h:eU uO vf (c9.drop kM) bW = some r:=h
   replace h:=pF yR hk h
   haveI:=lY (K:=K) hsi
   dsimp only [oJ]
   obtain ⟨kA,uR,h⟩:=cN h
   rw [← uR]
   refine oX ?_
   refine jo oA mZ ?_
   obtain ⟨gj,oL,h⟩:=cN h
   refine SC 2 rf ?_
   refine aq rfl (aR (aF.id (L:=(LI .i64))) rfl) ?_
   refine aq rfl (sJ rfl rfl rfl) ?_
   refine W0 (bA (M:=(LI .i64)) (aF.id (L:=(LI .i64))) (wr .i64 (bW + 1)) gj oL rfl rfl rfl rfl) ?_
   refine SL 2 rf ?_
   exact iK oA rV hT gj h (ks:=[0,1,2,3]) rfl (by decide)
  ·
   rintro MJ bW h
   replace h:eU uO vf (c9.drop c9.length) bW = some r:=h
   replace h:=pG yW rfl h
   dsimp only [List.cons_append,List.nil_append]
   refine SX 4 rf ?_
   refine aq rfl (aR (aF.id (L:=(LI .i64))) rfl) ?_
   refine SL 4 rf ?_
   have h:=sj h; subst h
   exact jd () rfl (.tmp rfl .nil) trivial rfl (ks:=[]) rfl (by decide)
  ·
   intro dd j i hf; exact hf.elim
def dw (n:Nat) (a0:aj) (a1:Int):Option Int:=
 bd (aJ n a0.book.hO a1) fun aQ =>
 cn ((!aQ)) (
 some 0) (
 bd (fh n a0 a1) fun bT =>
 bd (eS n bT.1 bT.2) fun c9 =>
 eU (fun (Dq:Int) Aq (bW:Int) =>
 lt (Dq:Int) fun kA =>
 Aq kA) (fun (bW:Int) =>
 some bW) c9 a1)
theorem eI {n a0 a1 r K} [bz K] {eN} (f0:(ah).rep K eN a0) (h:dw n a0 a1 = some r):qk Try.prog 56 [A eN, .int .u32 a1] K (.int .u32 r):=by
 unfold dw at h
 refine fo Try.func56 (by kernel_rfl) rfl Try.ntmps56 rfl fun cx _ hro cQ hpre=>?_
 refine SC 2 rf ?_
 refine W1 rf (bS rfl) fun b2=>?_
 refine W1 rf (ct (LI .u32) a1 rfl rfl) fun b3=>?_
 obtain ⟨aQ,cv,h⟩:=bp h
 refine SL 8 rf ?_
 refine aq rfl (bq rfl (aW.iff.1 ((aE.c0 aL).get f0)) (aY _ _)) ?_
 refine aq rfl (aR (aF.id (L:=(LI .u32))) rfl) ?_
 refine CV (aT cv) rf rf ?_
 refine SL 3 rf ?_
 refine fz h rf (fun hc h=>?_) fun hc h=>?_
 ·
  refine SC 7 rf ?_
  have h:=sj h; subst h
  exact RV rf (rt rf rn) rf
 ·
  obtain ⟨bT,iD,h⟩:=bp h
  refine SC 5 rf ?_
  refine aq rfl (av rfl (bf.len _ f0)) ?_
  refine aq rfl (aR (aF.id (L:=(LI .u32))) rfl) ?_
  refine eu rfl (fC (j5 (K:=K) (mo f0) iD) rfl kn) (fun ⟨Ld,GR,M0⟩ f25=>?_)
  replace f25:(ah).rep K GR bT.1:=f25
  dsimp only [List.cons_append,List.nil_append]
  refine SL 3 rf ?_
  obtain ⟨c9,mX,h⟩:=bp h
  obtain ⟨uO,yR,vf,yW,h⟩:=pH h
  refine oe (K:=K) (α:=Int) (β:=Unit) hro rfl (iC (K:=K) (mo f25) mX) (fun _=>rfl) rfl (fun kM=>fun bW=>eU uO vf (c9.drop kM) bW = some r) (fun kM=>fun bW=>[.cells b3 69 ((LI .u32).enc bW), .cells b2 77 eN]) (fun _ _=>False) (fun _=>[]) a1 h (ks:=[0,1,2,3]) rfl (by decide) ?_ ?_ ?_
  ·
   rintro kM bW lo dd rec c' hk h oA rV mZ hsi hT
   replace h:eU uO vf (c9.drop kM) bW = some r:=h
   replace h:=pF yR hk h
   haveI:=lY (K:=K) hsi
   dsimp only [oJ]
   obtain ⟨kA,uR,h⟩:=cN h
   rw [← uR]
   refine SC 3 rf ?_
   refine jo oA mZ ?_
   refine SC 3 rf ?_
   refine W0 (bA (M:=(LI .u32)) (aF.id (L:=(LI .u32))) kA kA rfl rfl rfl rfl rfl) ?_
   refine SL 2 rf ?_
   exact iK oA rV hT kA h (ks:=[0,1,2,3]) rfl (by decide)
  ·
   rintro Ke bW h
   replace h:eU uO vf (c9.drop c9.length) bW = some r:=h
   replace h:=pG yW rfl h
   dsimp only [List.cons_append,List.nil_append]
   refine SX 4 rf ?_
   refine aq rfl (aR (aF.id (L:=(LI .u32))) rfl) ?_
   refine SL 4 rf ?_
   have h:=sj h; subst h
   exact jd () rfl (.tmp rfl .nil) trivial rfl (ks:=[]) rfl (by decide)
  ·
   intro dd j i hf; exact hf.elim
def eX (n:Nat) (a0:aj) (a1:Int) (a2:Int):Option Bool:=
 bd (aJ n a0.book.hO a1) fun aQ =>
 cl ((!aQ) == false) (aJ n a0.book.hO a2) default fun bT =>
 cn (((!aQ) || (!bT))) (
 some false) (
 lt ((a1 == a2):Bool) fun gN =>
 bd (fh n a0 a2) fun ju =>
 bd (eS n ju.1 ju.2) fun eK =>
 eU (fun (J8:Int) yy (fa:Bool) =>
 lt (J8:Int) fun gj =>
 lt ((fa || (gj == a1)):Bool) fun jE =>
 yy jE) (fun (fa:Bool) =>
 some fa) eK gN)
theorem kr {n a0 a1 a2 r K} [bz K] {eN} (f0:(ah).rep K eN a0) (h:eX n a0 a1 a2 = some r):qk Try.prog 58 [A eN, .int .u32 a1, .int .u32 a2] K (.bool r):=by
 unfold eX at h
 refine fo Try.func58 (by kernel_rfl) rfl Try.ntmps58 rfl fun cx _ hro cQ hpre=>?_
 refine SC 2 rf ?_
 refine W1 rf (bS rfl) fun b3=>?_
 refine W1 rf (ct (LI .u32) a1 rfl rfl) fun b4=>?_
 obtain ⟨aQ,cv,h⟩:=bp h
 obtain ⟨bT,iD,_,h⟩:=j2 h
 refine SL 8 rf ?_
 refine aq rfl (bq rfl (aW.iff.1 ((aE.c0 aL).get f0)) (aY _ _)) ?_
 refine aq rfl (aR (aF.id (L:=(LI .u32))) rfl) ?_
 refine CV (aT cv) rf rf ?_
 refine SL 2 rf ?_
 refine GB rf rf rf (fun hb=>aN rfl) ?_
 refine GB rf rf rf (fun hb=>aN (bN rfl hb)) ?_
 refine GB rf rf rf (fun hb=>bq (bN rfl hb) (aW.iff.1 ((aE.c0 aL).get f0)) (aY _ _)) ?_
 refine GB rf rf rf (fun hb=>ay rfl) ?_
 refine GB rf rf rf (fun hb=>dK (aT (iD hb)) (aP (bN rfl hb) (aP (bN rfl hb) rfl)) (fun _ _ _=>trivial)) ?_
 refine GB rf rf rf (fun hb=>j7 (bN rfl hb)) ?_
 refine aq rfl (ga rfl rfl) ?_
 refine SL 2 rf ?_
 refine fz h rf (fun hc h=>?_) fun hc h=>?_
 ·
  refine SC 7 rf ?_
  have h:=sj h; subst h
  exact RV rf (rt rf rn) rf
 ·
  obtain ⟨gN,kZ,h⟩:=cN h
  refine SC 4 rf ?_
  refine aq rfl (aR (aF.id (L:=(LI .u32))) rfl) ?_
  refine SL 2 rf ?_
  refine W1 rf (bj (L:=LB) (z:=false) ⟨by kernel_rfl⟩) fun b7=>?_
  refine W0 (bA (M:=LB) (aF.id (L:=LB)) (a1 == a2) gN kZ rfl rfl rfl rfl) ?_
  obtain ⟨ju,rU,h⟩:=bp h
  refine SL 5 rf ?_
  refine aq rfl (av rfl (bf.len _ f0)) ?_
  refine aq rfl (ay rfl) ?_
  refine eu rfl (fC (j5 (K:=K) (mo f0) rU) rfl kn) (fun ⟨Lc,DA,MZ⟩ f27=>?_)
  replace f27:(ah).rep K DA ju.1:=f27
  dsimp only [List.cons_append,List.nil_append]
  refine SL 3 rf ?_
  obtain ⟨eK,uU,h⟩:=bp h
  obtain ⟨Cy,F1,Dn,Gc,h⟩:=pH h
  refine oe (K:=K) (α:=Bool) (β:=Unit) hro rfl (iC (K:=K) (mo f27) uU) (fun _=>rfl) rfl (fun nq=>fun fa=>eU Cy Dn (eK.drop nq) fa = some r) (fun nq=>fun fa=>[.cells b7 4 (LB.enc fa), .cells b4 69 ((LI .u32).enc a1), .cells b3 77 eN]) (fun _ _=>False) (fun _=>[]) gN h (ks:=[0,1,2,3,4]) rfl (by decide) ?_ ?_ ?_
  ·
   rintro nq fa lo dd rec c' hk h oA rV mZ hsi hT
   replace h:eU Cy Dn (eK.drop nq) fa = some r:=h
   replace h:=pF F1 hk h
   haveI:=lY (K:=K) hsi
   dsimp only [oJ]
   obtain ⟨gj,oL,h⟩:=cN h
   rw [← oL]
   refine SC 3 rf ?_
   refine jo oA mZ ?_
   obtain ⟨jE,rR,h⟩:=cN h
   refine SC 2 rf ?_
   refine aq rfl (ng (aF.id (L:=LB)) rfl) ?_
   refine aq rfl (ay rfl) ?_
   refine GB rf rf rf (fun hb=>ay rfl) ?_
   refine GB rf rf rf (fun hb=>aR (aF.id (L:=(LI .u32))) rfl) ?_
   refine GB rf rf rf (fun hb=>fP (bN rfl hb) (bN rfl hb)) ?_
   refine aq rfl (ga rfl rfl) ?_
   refine W0 (bA (M:=LB) (aF.id (L:=LB)) (fa || (gj == a1)) jE rR rfl rfl rfl rfl) ?_
   refine SL 2 rf ?_
   exact iK oA rV hT jE h (ks:=[0,1,2,3,4]) rfl (by decide)
  ·
   rintro MI fa h
   replace h:eU Cy Dn (eK.drop eK.length) fa = some r:=h
   replace h:=pG Gc rfl h
   dsimp only [List.cons_append,List.nil_append]
   refine SX 4 rf ?_
   refine aq rfl (ng (aF.id (L:=LB)) rfl) ?_
   refine SL 4 rf ?_
   have h:=sj h; subst h
   exact jd () rfl (.tmp rfl .nil) trivial rfl (ks:=[]) rfl (by decide)
  ·
   intro dd j i hf; exact hf.elim
def g8 (n:Nat) (a0:aj) (a1:Int) (a2:Int):Option (aj × Int × Int):=
 bd (dI n a0 a1 a2) fun aQ =>
 cl (((aQ.2.2 == 0) || (aQ.2.2 == 7)) == true) (dA n a0 a1) default fun bW =>
 cn ((((aQ.2.2 == 0) || (aQ.2.2 == 7)) && decide (6 ≤ bW))) (
 some (a0,0,8)) (
 some (aQ.1,aQ.2.1,aQ.2.2))
theorem k7 {n a0 a1 a2 r K} [bz K] {eN} (f0:(ah).rep K eN a0) (h:g8 n a0 a1 a2 = some r):uv Try.prog 63 [A eN, .int .u32 a1, .int .i64 a2] K (fun J v=>∃u0,v = (.tuple #[A u0, .int .u32 r.2.1, .int .i64 r.2.2])∧(ah).rep (fun w=>K w∧J w) u0 (r.1)):=by
 unfold g8 at h
 refine fo Try.func63 (by kernel_rfl) rfl Try.ntmps63 rfl fun cx _ hro cQ hpre=>?_
 refine SC 2 rf ?_
 refine W1 rf (bS rfl) fun b3=>?_
 refine W1 rf (cE (hz:=(⟨by kernel_rfl⟩ : dx Try.prog 77 aO))) fun b6=>?_
 obtain ⟨aQ,cv,h⟩:=bp h
 refine SL 6 rf ?_
 refine aq rfl (av rfl (bf.len _ f0)) ?_
 refine SL 2 rf ?_
 refine CB (nA (K:=K) (mo f0) cv) rf rf ?_
 rintro sS dP ja ⟨GO,rfl,f26⟩
 replace f26:(ah).rep (fun w=>K w∧Hs [.ext dP ja] w) GO aQ.1:=f26
 refine SL 4 rf ?_
 refine W1 rf (cE (hz:=(⟨by kernel_rfl⟩ : dx Try.prog 77 aO))) fun b9=>?_
 refine ST (C:=(fun w=>K w∧Hs [.ext dP ja] w)) aQ.1 (aF.id (L:=ah)) aK (mo f26) rf rf rf rf rf fun A2 f29=>?_
 obtain ⟨bW,uT,_,h⟩:=j2 h
 refine SL 10 rf ?_
 refine GB rf rf rf (fun hb=>ay rfl) ?_
 refine GB rf rf rf (fun hb=>fP (bN rfl hb) rfl) ?_
 refine aq rfl (ga rfl rfl) ?_
 refine aq rfl (ay rfl) ?_
 refine GB rf rf rf (fun hb=>av rfl (bf.len _ f0)) ?_
 refine GB rf rf rf (fun hb=>ay rfl) ?_
 refine GB rf rf rf (fun hb=>dK (iI (K:=K) (mo f0) (uT hb)) (aP (bN rfl hb) (aP (bN rfl hb) rfl)) kn) ?_
 refine GB rf rf rf (fun hb=>nh (bN rfl hb) rfl) ?_
 refine aq rfl (cA rfl rfl) ?_
 refine SL 2 rf ?_
 refine fz h rf (fun hc h=>?_) fun hc h=>?_
 ·
  refine SC 2 rf ?_
  refine aq rfl (av rfl (bf.len _ f0)) ?_
  refine ST (C:=K) a0 (aF.id (L:=ah)) aK (mo f0) rf rf rf rf rf fun MY f32=>?_
  refine SL 6 rf ?_
  have h:=sj h; subst h
  exact qh [] rf rf (ra rf (bf.len _ f32) (rt rf (rt rf rn))) ⟨_,rfl,(mo f32)⟩
 ·
  refine SC 4 rf ?_
  refine aq rfl (av rfl (bf.len _ f29)) ?_
  refine SL 2 rf ?_
  refine ST (C:=(fun w=>K w∧Hs [.ext dP ja] w)) aQ.1 (aF.id (L:=ah)) aK (mo f29) rf rf rf rf rf fun BV f35=>?_
  refine SL 5 rf ?_
  have h:=sj h; subst h
  exact qh [1] rf rf (ra rf (bf.len _ f35) (rt rf (rt rf rn))) ⟨_,rfl,(mo f35)⟩
def eH (n:Nat) (a0:Int) (a1:aj) (a2:Int):Option Bool:=
 bd (dc n a1 a0) fun aQ =>
 some (aQ.1.Up != a2)
theorem lE {n a0 a1 a2 r K} [bz K] {q1 gO} (f1:(ah).rep K gO a1) {q2:Nat} (h:eH n a0 a1 a2 = some r):Bw.Fn (α:=Unit) Try.prog 124 [.int .u32 a0,Ptr q1 0,Ptr q2 0] (wB (bx [.cells q1 77 gO, .cells q2 69 ((LI .u32).enc a2)]) K) [.cells q1 77 gO, .cells q2 69 ((LI .u32).enc a2)] (fun _=>True) (fun _=>(.bool r)) (fun _=>[.cells q1 77 gO, .cells q2 69 ((LI .u32).enc a2)]):=by
 unfold eH at h
 refine eV Try.func124 (by kernel_rfl) rfl Try.ntmps124 rfl (fun cx cQ hpre hro=>?_)
 haveI:=gZ cQ hpre
 obtain ⟨aQ,cv,h⟩:=bp h
 refine SC 7 rf ?_
 refine aq rfl (av rfl (bf.len _ f1)) ?_
 refine aq rfl (ay rfl) ?_
 refine CB (iG (K:=K) (mo f1) cv) rf rf ?_
 rintro sS dP ja ⟨GO,rfl,f26⟩
 replace f26:(aM).rep (fun w=>K w∧Hs [.ext dP ja] w) GO aQ.1:=f26
 refine SL 3 rf ?_
 refine W1 rf (cE (hz:=(⟨by kernel_rfl⟩ : dx Try.prog 74 eo))) fun b5=>?_
 refine ST (C:=(fun w=>K w∧Hs [.ext dP ja] w)) aQ.1 (aF.id (L:=aM)) ei (mo f26) rf rf rf rf rf fun A2 f29=>?_
 refine SL 6 rf ?_
 refine aq rfl (cU rfl (bZ.int f29)) ?_
 refine aq rfl (aR (aF.id (L:=(LI .u32))) rfl) ?_
 refine SL 5 rf ?_
 have h:=sj h; subst h
 exact cY () rfl (.tmp rfl .nil) trivial rfl (ks:=[2,3]) rfl (by decide)
def cr (n:Nat) (a0:(List Int)) (lM:aj) (jQ:Int):Option Int:=
 dW (fun uN (bT:Int) =>
 cn (decide (bT < (a0.length:Int))) (
 gu (dj bT a0.length) <|
 bd (eH n (a0.getD (Int.toNat bT) default) lM jQ) fun c9 =>
 cn (c9) (
 some bT) (
 uN (wr .i64 (bT + 1)))) (
 some (-1))) n 0
theorem gw {n a0 lM jQ r K} [bz K] {v0} (f0:Fz K v0 (LI .u32) a0) {kI:Nat} {ko:List Value} (AQ:(ah).rep K ko lM) {kH:Nat} (h:cr n a0 lM jQ = some r):Bw.Fn (α:=Unit) Try.prog 156 [v0, .func (.func 124) #[] #[Ptr kI 0,Ptr kH 0]] (wB (bx [.cells kI 77 ko, .cells kH 69 ((LI .u32).enc jQ)]) K) [.cells kI 77 ko, .cells kH 69 ((LI .u32).enc jQ)] (fun _=>True) (fun _=>(.int .i64 r)) (fun _=>[.cells kI 77 ko, .cells kH 69 ((LI .u32).enc jQ)]):=by
 unfold cr at h
 refine eV Try.func156 (by kernel_rfl) rfl Try.ntmps156 rfl (fun cx cQ hpre hro=>?_)
 haveI:=gZ cQ hpre
 refine SC 9 rf ?_
 refine aq rfl (ef f0 rfl) ?_
 refine SL 4 rf ?_
 obtain ⟨yx,tL,h⟩:=oz h
 refine LO (β:=Int) [0,1,7] [0,1] (fun (tG,bT)=>[(8, .int .i64 bT)]) (fun (tG,bT)=>[.cells kI 77 ko, .cells kH 69 ((LI .u32).enc jQ)]) (fun (tG,bT)=>dW yx tG bT = some r) (n,0) h rf rf rf ?_
 rintro tG bT h
 replace h:=oy tL h; obtain ⟨tG,rfl,h⟩:=h
 refine SC 6 rf ?_
 refine fz h rf (fun hc h=>?_) fun hc h=>?_
 ·
  obtain ⟨pP,h⟩:=dO h
  obtain ⟨c9,mX,h⟩:=bp h
  refine SC 15 rf ?_
  refine aq rfl (ew (m:=(Int.toNat bT)) f0 rfl rfl rfl (aC pP).1 (aC pP).2) ?_
  refine aq rfl (eT f0 (aF.idx (L:=(LI .u32)) (m:=(a0.length)) (k:=1) ((Int.toNat bT)) (aC pP).2 rfl) rfl) ?_
  refine eu rfl (gA (K:=K) (kC:=[.cells kI 77 ko, .cells kH 69 ((LI .u32).enc jQ)]) (rest:=[]) (ks:=[0,1]) (lE (K:=K) (mo AQ) mX) rfl rfl rfl rfl (by decide)) (fun _ _=>?_)
  dsimp only [List.cons_append,List.nil_append]
  refine SL 2 rf ?_
  refine fz h rf (fun hc h=>?_) fun hc h=>?_
  ·
   refine SC 12 rf ?_
   have h:=sj h; subst h
   exact cY () rfl (.tmp rfl .nil) trivial rfl (ks:=[0,1]) rfl (by decide)
  ·
   refine SC 7 rf ?_
   exact LN [0,1] (wr .i64 (bT + 1)) h rf rf rf
 ·
  refine SC 11 rf ?_
  have h:=sj h; subst h
  exact cY () rfl (.tmp rfl .nil) trivial rfl (ks:=[0,1]) rfl (by decide)
def cj (n:Nat) (a0:(List Int)) (lM:aj) (jQ:Int):Option (List Int):=
 bd (cr n a0 lM jQ) fun aQ =>
 cn ((aQ == (-1))) (
 some a0) (
 jG (fun Fa (eE:(List Int)) (bW:Int) (dy:Int) =>
 cn (decide (dy < (eE.length:Int))) (
 gu (dj dy eE.length) <|
 bd (eH n (eE.getD (Int.toNat dy) default) lM jQ) fun ij =>
 cn ((!ij)) (
 gu (dj bW eE.length) <|
 lt ((eE.set (Int.toNat bW) (eE.getD (Int.toNat dy) default)):List Int) fun fx =>
 Fa fx (wr .i64 (bW + 1)) (wr .i64 (dy + 1))) (
 Fa eE bW (wr .i64 (dy + 1)))) (
 gu (dj bW (eE.length + 1)) <|
 lt (eE.take (Int.toNat bW)++List.replicate (eE.length - (Int.toNat bW)) 0:List Int) fun bR =>
 gu (dj bW (bR.length + 1)) <|
 lt (bR.take (Int.toNat bW):List Int) fun mw =>
 some mw)) n a0 aQ (wr .i64 (aQ + 1)))
theorem gh {n a0 lM jQ r K} [bz K] {v0} (f0:ke v0 a0.length) {kI:Nat} {ko:List Value} (AQ:(ah).rep K ko lM) {kH:Nat} (h:cj n a0 lM jQ = some r):Bw.Fn (α:=Value) Try.prog 123 [v0, .func (.func 124) #[] #[Ptr kI 0,Ptr kH 0]] (wB (bx [Row v0 69 1 (LI .u32) a0, .cells kI 77 ko, .cells kH 69 ((LI .u32).enc jQ)]) K) [Row v0 69 1 (LI .u32) a0, .cells kI 77 ko, .cells kH 69 ((LI .u32).enc jQ)] (fun v=>ke v r.length) (fun v=>v) (fun v=>[Row v 69 1 (LI .u32) r, .cells kI 77 ko, .cells kH 69 ((LI .u32).enc jQ)]):=by
 unfold cj at h
 refine eV Try.func123 (by kernel_rfl) rfl Try.ntmps123 rfl (fun cx cQ hpre hro=>?_)
 haveI:=gZ cQ hpre
 obtain ⟨aQ,cv,h⟩:=bp h
 refine SC 9 rf ?_
 refine eu rfl (gA (K:=(fun w=>K w∧Hs [Row v0 69 1 (LI .u32) a0] w)) (kC:=[.cells kI 77 ko, .cells kH 69 ((LI .u32).enc jQ)]) (rest:=[Row v0 69 1 (LI .u32) a0]) (ks:=[1,2,0]) (gw (K:=(fun w=>K w∧Hs [Row v0 69 1 (LI .u32) a0] w)) ((Fz.row (e:=69) (sz:=1) (L:=(LI .u32)) (xs:=a0) rfl f0).mono n8) (mo AQ) cv) rfl rfl rfl rfl (by decide)) (fun _ _=>?_)
 dsimp only [List.cons_append,List.nil_append]
 refine SL 10 rf ?_
 refine fz h rf (fun hc h=>?_) fun hc h=>?_
 ·
  refine SC 8 rf ?_
  have h:=sj h; subst h
  exact cY v0 rfl (.tmp rfl .nil) f0 rfl (ks:=[2,0,1]) rfl (by decide)
 ·
  refine SC 11 rf ?_
  obtain ⟨Iv,FT,h⟩:=vU h
  refine LO (β:=(List Int) × Int × Int) [1] [0,1,2] (fun (E1,eE,bW,dy)=>[(0,v0),(5, .int .i64 bW),(6, .int .i64 dy)]) (fun (E1,eE,bW,dy)=>[.cells kI 77 ko, .cells kH 69 ((LI .u32).enc jQ),Row v0 69 1 (LI .u32) eE]) (fun (E1,eE,bW,dy)=>ke v0 eE.length∧jG Iv E1 eE bW dy = some r) (n,a0,aQ,wr .i64 (aQ + 1)) ⟨f0,h⟩ rf rf rf ?_
  rintro E1 ⟨eE,bW,dy⟩ ⟨n3,h⟩
  replace h:=vT FT h; obtain ⟨E1,rfl,h⟩:=h
  refine SC 5 rf ?_
  refine aq rfl (ef (Fz.row (e:=69) (sz:=1) (L:=(LI .u32)) (xs:=eE) rfl n3) rfl) ?_
  refine SL 3 rf ?_
  refine fz h rf (fun hc h=>?_) fun hc h=>?_
  ·
   obtain ⟨n5,h⟩:=dO h
   refine SC 8 rf ?_
   refine aq rfl (ew (m:=(Int.toNat dy)) (Fz.row (e:=69) (sz:=1) (L:=(LI .u32)) (xs:=eE) rfl n3) rfl rfl rfl (aC n5).1 (aC n5).2) ?_
   refine aq rfl (eT (Fz.row (e:=69) (sz:=1) (L:=(LI .u32)) (xs:=eE) rfl n3) (aF.idx (L:=(LI .u32)) (m:=(eE.length)) (k:=1) ((Int.toNat dy)) (aC n5).2 rfl) rfl) ?_
   obtain ⟨ij,l7,h⟩:=bp h
   refine SL 7 rf ?_
   refine eu rfl (gA (K:=K) (kC:=[.cells kI 77 ko, .cells kH 69 ((LI .u32).enc jQ)]) (rest:=[Row v0 69 1 (LI .u32) eE]) (ks:=[0,1,2]) (lE (K:=K) (mo AQ) l7) rfl rfl rfl rfl (by decide)) (fun _ _=>?_)
   dsimp only [List.cons_append,List.nil_append]
   refine SL 3 rf ?_
   refine fz h rf (fun hc h=>?_) fun hc h=>?_
   ·
    obtain ⟨tN,h⟩:=dO h
    obtain ⟨fx,wY,h⟩:=cN h
    refine SC 5 rf ?_
    refine aq rfl (ew (m:=(Int.toNat bW)) (Fz.row (e:=69) (sz:=1) (L:=(LI .u32)) (xs:=eE) rfl n3) rfl rfl rfl (aC tN).1 (aC tN).2) ?_
    refine W0 (vB (sz:=1) (M:=(LI .u32)) (Int.toNat bW) (aF.idx (L:=(LI .u32)) (m:=(eE.length)) (k:=1) ((Int.toNat bW)) (aC tN).2 rfl) (eE.getD (Int.toNat dy) default) fx wY rfl rfl rfl rfl (aC tN).2 rfl rfl) ?_
    have Jc:ke v0 fx.length:=by rw [wY,List.length_set]; exact n3
    refine SL 14 rf ?_
    exact LN [0,1,2] (fx,wr .i64 (bW + 1),wr .i64 (dy + 1)) ⟨Jc,h⟩ rf rf rf
   ·
    refine SC 8 rf ?_
    exact LN [0,1,2] (eE,bW,wr .i64 (dy + 1)) ⟨n3,h⟩ rf rf rf
  ·
   obtain ⟨l8,h⟩:=dO h
   obtain ⟨bR,mC,h⟩:=cN h
   refine SC 9 rf ?_
   refine aq rfl (xq (l:=(Int.toNat bW)) (Fz.row (e:=69) (sz:=1) (L:=(LI .u32)) (xs:=eE) rfl n3) rfl rfl (aC l8).1 (Nat.lt_succ_iff.1 (aC l8).2)) ?_
   refine zw (xx (L:=(LI .u32)) (z0:=0) (e:=69) (by kernel_rfl) ⟨by kernel_rfl⟩ rfl rfl rfl rfl (Nat.lt_succ_iff.1 (aC l8).2) rfl mC) (fun _ _=>?_)
   have FD:ke v0 bR.length:=by rw [mC,List.length_append,List.length_take,List.length_replicate,Nat.min_eq_left (Nat.lt_succ_iff.1 (aC l8).2),Nat.add_sub_cancel' (Nat.lt_succ_iff.1 (aC l8).2)]; exact n3
   obtain ⟨yU,h⟩:=dO h
   obtain ⟨mw,wX,h⟩:=cN h
   refine SL 6 rf ?_
   refine eu rfl (rB (e:=69) (sz:=1) (L:=(LI .u32)) FD rfl rfl rfl (aC yU).1 (Nat.lt_succ_iff.1 (aC yU).2)) (fun _ _=>?_)
   have uX:ke (iQ 0 (Int.toNat bW) 1 v0) mw.length:=by rw [wX,List.length_take,Nat.min_eq_left (Nat.lt_succ_iff.1 (aC yU).2)]; exact wo FD
   rw [← wX]
   refine SL 4 rf ?_
   have h:=sj h; subst h
   exact cY (iQ 0 (Int.toNat bW) 1 v0) rfl (.tmp rfl .nil) uX rfl (ks:=[2,0,1]) rfl (by decide)
def ji (n:Nat) (a0:aj) (a1:Int):Option (List Int):=
 bd (aJ n a0.book.hO a1) fun aQ =>
 cn ((!aQ)) (
 some ([]:List Int)) (
 bd (dS n a0.book) fun gN =>
 bd (cj n gN a0 a1) fun c9 =>
 some c9)
theorem qz {n a0 a1 r K} [bz K] {eN} (f0:(ah).rep K eN a0) (h:ji n a0 a1 = some r):Bw.Fn (α:=Value) Try.prog 50 [A eN, .int .u32 a1] K [] (fun v=>ke v r.length) (fun v=>v) (fun v=>[Row v 69 1 (LI .u32) r]):=by
 unfold ji at h
 refine fo Try.func50 (by kernel_rfl) rfl Try.ntmps50 rfl fun cx _ hro cQ hpre=>?_
 refine SC 2 rf ?_
 refine W1 rf (bS rfl) fun b2=>?_
 refine W1 rf (ct (LI .u32) a1 rfl rfl) fun b3=>?_
 obtain ⟨aQ,cv,h⟩:=bp h
 refine SL 8 rf ?_
 refine aq rfl (bq rfl (aW.iff.1 ((aE.c0 aL).get f0)) (aY _ _)) ?_
 refine aq rfl (aR (aF.id (L:=(LI .u32))) rfl) ?_
 refine CV (aT cv) rf rf ?_
 refine SL 3 rf ?_
 refine fz h rf (fun hc h=>?_) fun hc h=>?_
 ·
  refine SC 7 rf ?_
  refine A9 69 1 (LI .u32) ?_
  have h:=sj h; subst h
  exact cY (.slice none 0 0) rfl (.tmp rfl .nil) ⟨_,_,rfl⟩ rfl (ks:=[0]) rfl (by decide)
 ·
  obtain ⟨gN,kZ,h⟩:=bp h
  obtain ⟨c9,mX,h⟩:=bp h
  refine SC 5 rf ?_
  refine aq rfl (bq rfl (aW.iff.1 (aE.get f0)) (aY _ _)) ?_
  refine eu rfl (fC (gK kZ) rfl (fun _ _ _=>trivial)) (fun LD Jd=>?_)
  dsimp only [List.cons_append,List.nil_append]
  refine aq rfl (ku rfl) ?_
  refine eu rfl (gA (K:=K) (kC:=[Row LD 69 1 (LI .u32) gN, .cells b2 77 eN, .cells b3 69 ((LI .u32).enc a1)]) (rest:=[]) (ks:=[0,2,1]) (gh (K:=K) Jd (mo f0) mX) rfl rfl rfl rfl (by decide)) (fun zK n3=>?_)
  dsimp only [List.cons_append,List.nil_append]
  refine SL 4 rf ?_
  have h:=sj h; subst h
  exact cY zK rfl (.tmp rfl .nil) n3 rfl (ks:=[0]) rfl (by decide)
def fg (n:Nat) (a0:aj) (a1:Int):Option (Int × aj):=
 some (a1,a0)
theorem j4 {n a0 a1 r K} [bz K] {eN} (f0:(ah).rep K eN a0) (h:fg n a0 a1 = some r):Bw.Fn (α:=Nat × Nat × List Value) Try.prog 127 [A eN, .int .u32 a1] K [] (fun (b0,b1,c1)=>(ah).rep K c1 r.2) (fun (b0,b1,c1)=>.func (.func 158) #[] #[Ptr b0 0,Ptr b1 0]) (fun (b0,b1,c1)=>[.cells b0 69 ((LI .u32).enc r.1), .cells b1 77 c1]):=by
 unfold fg at h
 refine fo Try.func127 (by kernel_rfl) rfl Try.ntmps127 rfl fun cx _ hro cQ hpre=>?_
 refine SC 2 rf ?_
 refine W1 rf (bS rfl) fun b2=>?_
 refine W1 rf (ct (LI .u32) a1 rfl rfl) fun b3=>?_
 refine SL 10 rf ?_
 have h:=sj h; subst h
 exact cY ⟨b3,b2,eN⟩ rfl (.tmp rfl .nil) (mo f0) rfl (ks:=[0,1]) rfl (by decide)
def ez (n:Nat) (a0:(List Int)):Option (List Int):=
 jG (fun yy (c9:(List Int)) (eK:Int) (bW:Int) =>
 cn (decide (eK < bW)) (
 gu (dj bW c9.length) <|
 gu (dj eK c9.length) <|
 gu (dj eK c9.length) <|
 lt ((c9.set (Int.toNat eK) (c9.getD (Int.toNat bW) default)):List Int) fun gj =>
 gu (dj bW gj.length) <|
 lt ((gj.set (Int.toNat bW) (c9.getD (Int.toNat eK) default)):List Int) fun g5 =>
 yy g5 (wr .i64 (eK + 1)) (wr .i64 (bW - 1))) (
 some c9)) n a0 0 (wr .i64 ((a0.length:Int) - 1))
theorem lI {n a0 r v0} (f0:ke v0 a0.length) (h:ez n a0 = some r):Bw.Fn (α:=Value) Try.prog 159 [v0] (wB (bx [Row v0 69 1 (LI .u32) a0]) (fun _=>True)) [Row v0 69 1 (LI .u32) a0] (fun v=>v = v0∧ke v r.length) (fun v=>.tuple #[]) (fun v=>[Row v 69 1 (LI .u32) r]):=by
 unfold ez at h
 refine eV Try.func159 (by kernel_rfl) rfl Try.ntmps159 rfl (fun cx cQ hpre hro=>?_)
 refine SC 3 rf ?_
 refine aq rfl (ef (Fz.row (e:=69) (sz:=1) (L:=(LI .u32)) (xs:=a0) rfl f0) rfl) ?_
 refine SL 6 rf ?_
 obtain ⟨Cs,yP,h⟩:=vU h
 refine LO (β:=(List Int) × Int × Int) [] [0] (fun (m32,c9,eK,bW)=>[(0,v0),(2, .int .i64 eK),(3, .int .i64 bW)]) (fun (m32,c9,eK,bW)=>[Row v0 69 1 (LI .u32) c9]) (fun (m32,c9,eK,bW)=>ke v0 c9.length∧jG Cs m32 c9 eK bW = some r) (n,a0,0,wr .i64 ((a0.length:Int) - 1)) ⟨f0,h⟩ rf rf rf ?_
 rintro m32 ⟨c9,eK,bW⟩ ⟨pL,h⟩
 replace h:=vT yP h; obtain ⟨m32,rfl,h⟩:=h
 refine SC 8 rf ?_
 refine fz h rf (fun hc h=>?_) fun hc h=>?_
 ·
  refine SC 4 rf ?_
  obtain ⟨C2,h⟩:=dO h
  obtain ⟨n5,h⟩:=dO h
  obtain ⟨tO,h⟩:=dO h
  obtain ⟨gj,oL,h⟩:=cN h
  obtain ⟨tM,h⟩:=dO h
  obtain ⟨g5,qu,h⟩:=cN h
  refine ec mixed (.lq [] [(0,[0]),(1,[2]),(2,[0]),(3,[3]),(4,[0]),(5,[3]),(6,[18,19]),(7,[20]),(8,[0]),(9,[2]),(10,[22,23]),(11,[24]),(12,[14,15])] (.alt 13 [21,26] (.lq [(2,[0]),(3,[3])] [(14,[16,17])] (.alt 15 [25,27] (.fin [] []) .no)) .no)) (by kernel_rfl) ?_
  refine T0 ?_
  refine NS 6 rf ?_
  refine NV rf rf (ew (m:=(Int.toNat bW)) (Fz.row (e:=69) (sz:=1) (L:=(LI .u32)) (xs:=c9) rfl pL) rfl rfl rfl (aC C2).1 (aC C2).2) ?_
  refine NV rf rf (eT (Fz.row (e:=69) (sz:=1) (L:=(LI .u32)) (xs:=c9) rfl pL) (aF.idx (L:=(LI .u32)) (m:=(c9.length)) (k:=1) ((Int.toNat bW)) (aC C2).2 rfl) rfl) ?_
  refine NS 2 rf ?_
  refine NV rf rf (ew (m:=(Int.toNat eK)) (Fz.row (e:=69) (sz:=1) (L:=(LI .u32)) (xs:=c9) rfl pL) rfl rfl rfl (aC n5).1 (aC n5).2) ?_
  refine NV rf rf (eT (Fz.row (e:=69) (sz:=1) (L:=(LI .u32)) (xs:=c9) rfl pL) (aF.idx (L:=(LI .u32)) (m:=(c9.length)) (k:=1) ((Int.toNat eK)) (aC n5).2 rfl) rfl) ?_
  refine NV rf rf (ew (m:=(Int.toNat eK)) (Fz.row (e:=69) (sz:=1) (L:=(LI .u32)) (xs:=c9) rfl pL) rfl rfl rfl (aC tO).1 (aC tO).2) ?_
  refine dH ?_
  refine X0 rf (vB (sz:=1) (M:=(LI .u32)) (Int.toNat eK) (aF.idx (L:=(LI .u32)) (m:=(c9.length)) (k:=1) ((Int.toNat eK)) (aC tO).2 rfl) (c9.getD (Int.toNat bW) default) gj oL rfl rfl rfl rfl (aC tO).2 rfl rfl) ?_
  have qv:ke v0 gj.length:=by rw [oL,List.length_set]; exact pL
  refine kx ?_ ?_
  ·
   exact RE 2 rf rf
  refine NV rf rf (ew (m:=(Int.toNat bW)) (Fz.row (e:=69) (sz:=1) (L:=(LI .u32)) (xs:=gj) rfl qv) rfl rfl rfl (aC tM).1 (aC tM).2) ?_
  refine dH ?_
  refine X0 rf (vB (sz:=1) (M:=(LI .u32)) (Int.toNat bW) (aF.idx (L:=(LI .u32)) (m:=(gj.length)) (k:=1) ((Int.toNat bW)) (aC tM).2 rfl) (c9.getD (Int.toNat eK) default) g5 qu rfl rfl rfl rfl (aC tM).2 rfl rfl) ?_
  have Jb:ke v0 g5.length:=by rw [qu,List.length_set]; exact qv
  refine sW ?_
  refine SX 10 rf ?_
  exact LN [0] (g5,wr .i64 (eK + 1),wr .i64 (bW - 1)) ⟨Jb,h⟩ rf rf rf
 ·
  refine SC 4 rf ?_
  have h:=sj h; subst h
  exact sy v0 rfl .nil ⟨rfl,pL⟩ rfl (ks:=[0]) rfl (by decide)
def eR (n:Nat) (a1:Int) (a2:aj):Option (List Int):=
 dW (fun E8 (bW:(List Int)) =>
 cn (decide (0 < (bW.length:Int))) (
 gu (dj (wr .i64 ((bW.length:Int) - 1)) bW.length) <|
 yl (bW.getD (Int.toNat (wr .i64 ((bW.length:Int) - 1))) default) <|
 bd (ji n a2 (bW.getD (Int.toNat (wr .i64 ((bW.length:Int) - 1))) default)) fun lN =>
 bd (ez n lN) fun nR =>
 gu (dj (wr .i64 ((bW.length:Int) - 1)) (bW.length + 1)) <|
 lt (bW.take (Int.toNat (wr .i64 ((bW.length:Int) - 1))):List Int) fun sR =>
 gu (jP sR.length nR.length 4) <|
 lt (sR++nR:List Int) fun Bv =>
 E8 Bv) (
 some [])) n ([a1]:List Int)
theorem iB {n:Nat} {a1:Int} {a2:aj} {l:List Int} {K:World→Prop} [bz K] {q1:Nat} {q2:Nat} {vj:List Value} (f2:(ah).rep K vj a2) (h:eR n a1 a2 = some l):wA Try.prog 158 [Ptr q1 0,Ptr q2 0] [.cells q1 69 ((LI .u32).enc a1), .cells q2 77 vj] K (fun k=>[.int .u32 (l.getD k default)]) l.length:=by
 unfold eR at h
 refine ⟨fun y J Jx bs=>eV Try.func158 (by kernel_rfl) rfl Try.ntmps158 rfl (fun cx cQ hpre hro=>?_)⟩
 haveI:=gZ (show cx.bs = bs++bx [.cells q1 69 ((LI .u32).enc a1), .cells q2 77 vj] from cQ) hpre.1
 have hR:B0 Try.prog y cx.bs cx.w0 J Jx (fun k=>[.int .u32 (l.getD k default)]) l.length:=by rw [show cx.bs = bs++bx [.cells q1 69 ((LI .u32).enc a1), .cells q2 77 vj] from cQ]; exact hpre.2
 have C9:l.drop 0 = l:=rfl
 have vY:0 ≤ l.length:=Nat.zero_le _
 refine SC 2 rf ?_
 refine aq rfl (aR (aF.id (L:=(LI .u32))) rfl) ?_
 refine eu rfl (Bl (LI .u32) a1 rfl rfl rfl rfl (by decide) (by decide)) (fun b8 _=>?_)
 refine SL 4 rf ?_
 obtain ⟨It,FQ,h⟩:=oz h
 refine LO (β:=(List Int) × Value × Nat × (List Int) × (List Nat)) [0,2] [0,1,2,3] (fun (EZ,bW,Bx,qt,EL,r5)=>[(4,Bx)]) (fun (EZ,bW,Bx,qt,EL,r5)=>[Row Bx 69 1 (LI .u32) bW, .ext r5 (J qt r5), .cells q1 69 ((LI .u32).enc a1), .cells q2 77 vj]) (fun (EZ,bW,Bx,qt,EL,r5)=>ke Bx bW.length∧l.drop qt = EL∧qt ≤ l.length∧dW It EZ bW = some EL) (n,([a1]:List Int), .slice (some ⟨b8,0,none⟩) 1 1,0,l,bs) ⟨⟨_,_,rfl⟩,C9,vY,h⟩ rf rf rf ?_
 rintro EZ ⟨bW,Bx,qt,EL,r5⟩ ⟨uY,Gh,Jt,h⟩
 replace h:=oy FQ h; obtain ⟨EZ,rfl,h⟩:=h
 refine SC 4 rf ?_
 refine aq rfl (ef (Fz.row (e:=69) (sz:=1) (L:=(LI .u32)) (xs:=bW) rfl uY) rfl) ?_
 refine SL 3 rf ?_
 refine fz h rf (fun hc h=>?_) fun hc h=>?_
 ·
  obtain ⟨C1,h⟩:=dO h
  refine SC 7 rf ?_
  refine aq rfl (ef (Fz.row (e:=69) (sz:=1) (L:=(LI .u32)) (xs:=bW) rfl uY) rfl) ?_
  refine aq rfl (sC rfl rfl rfl) ?_
  refine aq rfl (ew (m:=(Int.toNat (wr .i64 ((bW.length:Int) - 1)))) (Fz.row (e:=69) (sz:=1) (L:=(LI .u32)) (xs:=bW) rfl uY) rfl rfl rfl (aC C1).1 (aC C1).2) ?_
  refine aq rfl (eT (Fz.row (e:=69) (sz:=1) (L:=(LI .u32)) (xs:=bW) rfl uY) (aF.idx (L:=(LI .u32)) (m:=(bW.length)) (k:=1) ((Int.toNat (wr .i64 ((bW.length:Int) - 1)))) (aC C1).2 rfl) rfl) ?_
  refine SL 5 rf ?_
  obtain ⟨Ia,CP,h⟩:=zS h
  obtain ⟨CS,C0,C8,CR⟩:=drop_cons (Gh.trans CP)
  refine SC 3 rf ?_
  refine eu rfl (nL (bs:=r5) hR CS hro rfl (show oE _ _ = some [.int .u32 (l.getD qt default)] by rw [C0]; rfl)) (fun ⟨y4,vh⟩ _=>?_)
  refine SL 3 rf ?_
  refine rq rfl (fun hc=>?_) (fun hc=>?_)
  ·
   obtain rfl:y4 = false:=by simpa using hc
   dsimp only [cond_true,cond_false]
   refine SC 5 rf ?_
   exact cY (false,vh) rfl .nil trivial rfl (ks:=[1,2,3]) rfl (by decide)
  ·
   obtain rfl:y4 = true:=by simpa using hc
   dsimp only [cond_true,cond_false]
   obtain ⟨lN,CL,h⟩:=bp h
   refine SC 4 rf ?_
   refine aq rfl (av rfl (bf.len _ f2)) ?_
   refine aq rfl (ay rfl) ?_
   refine eu rfl (fC (qz (K:=K) (mo f2) CL) rfl kn) (fun B9 FC=>?_)
   dsimp only [List.cons_append,List.nil_append]
   obtain ⟨nR,CI,h⟩:=bp h
   refine SL 6 rf ?_
   refine eu rfl (gA (K:=(fun _=>True)) (kC:=[Row B9 69 1 (LI .u32) lN]) (rest:=[Row Bx 69 1 (LI .u32) bW, .ext vh (J (qt + 1) vh), .cells q1 69 ((LI .u32).enc a1), .cells q2 77 vj]) (ks:=[0,1,2,3,4]) (lI FC CI) rfl rfl rfl rfl (by decide)) (fun _ ⟨rfl,Ja⟩=>?_)
   dsimp only [List.cons_append,List.nil_append]
   obtain ⟨CY,h⟩:=dO h
   obtain ⟨sR,wW,h⟩:=cN h
   obtain ⟨F8,h⟩:=dO h
   obtain ⟨Bv,Az,h⟩:=cN h
   refine SL 5 rf ?_
   refine aq rfl (ef (Fz.row (e:=69) (sz:=1) (L:=(LI .u32)) (xs:=bW) rfl uY) rfl) ?_
   refine aq rfl (sC rfl rfl rfl) ?_
   refine eu rfl (rB (e:=69) (sz:=1) (L:=(LI .u32)) uY rfl rfl rfl (aC CY).1 (Nat.lt_succ_iff.1 (aC CY).2)) (fun _ _=>?_)
   have Md:ke (iQ 0 (Int.toNat (wr .i64 ((bW.length:Int) - 1))) 1 Bx) sR.length:=by rw [wW,List.length_take,Nat.min_eq_left (Nat.lt_succ_iff.1 (aC CY).2)]; exact wo uY
   rw [← wW]
   refine aq rfl (ay rfl) ?_
   refine eu rfl (Bm (sz:=1) (L:=(LI .u32)) (xs:=sR) (ys:=nR) (bytes:=4) (Fz.row (e:=69) (sz:=1) (L:=(LI .u32)) (xs:=nR) rfl Ja) rfl rfl rfl (fZ F8).1 (fZ F8).2) (fun Lz FB=>?_)
   rw [← Az] at FB; rw [← Az]
   refine SL 3 rf ?_
   exact LN [1,2,3,4] (Bv,Lz,qt + 1,Ia,vh) ⟨FB,C8,CR,h⟩ rf rf rf
 ·
  refine SC 4 rf ?_
  have h:=sj h; subst h
  have J3:=drop_nil Gh Jt
  refine oV (ks:=[1,2,3]) (H':=[.ext r5 (J (qt) r5), .cells q1 69 ((LI .u32).enc a1), .cells q2 77 vj]) rfl (by decide) ?_
  refine oW (J:=J) (n:=l.length) J3 ?_
  exact sy (true,r5) rfl .nil trivial rfl (ks:=[0,1,2]) rfl (by decide)
def bH (n:Nat) (lM:Int) (jQ:aj):Option (List Int):=
 bd (eR n lM jQ) fun aQ =>
 eU (fun (J9:Int) As (dz:(List Int)) =>
 lt (J9:Int) fun gB =>
 gu (jP dz.length 1 4) <|
 lt (dz++([gB]):List Int) fun ij =>
 As ij) (fun (dz:(List Int)) =>
 some dz) aQ ([]:List Int)
theorem fA {n lM jQ r K} [bz K] {kI kH tU} (J1:(ah).rep K tU jQ) (h:bH n lM jQ = some r):HN Try.prog 157 [.slice none 0 0, .func (.func 158) #[] #[Ptr kI 0,Ptr kH 0]] K [.cells kI 69 ((LI .u32).enc lM), .cells kH 77 tU] (fun J v ho=>∃u0,v = (u0)∧ho = [.cells kI 69 ((LI .u32).enc lM), .cells kH 77 tU]∧Fz (fun w=>K w∧J w) u0 (LI .u32) (r)):=by
 unfold bH at h
 refine eV Try.func157 (by kernel_rfl) rfl Try.ntmps157 rfl (fun cx cQ hpre hro=>?_)
 haveI:=gZ cQ hpre
 refine SC 2 rf ?_
 refine W1 rf (wu rfl (Fz.nil (A:=Hs []) (L:=(LI .u32))).sl.cells) fun b2=>?_
 refine SL 10 rf ?_
 obtain ⟨aQ,cv,h⟩:=bp h
 refine nG 69 1 (LI .u32) ?_
 obtain ⟨uP,yS,vg,yX,h⟩:=pH h
 refine kS (K:=K) (α:=(List Int) × Value) (β:=Unit) hro rfl (iB (K:=K) (mo J1) cv) (fun _=>rfl) rfl (fun kN=>fun (dz,uq)=>ke uq dz.length∧eU uP vg (aQ.drop kN) dz = some r) (fun kN=>fun (dz,uq)=>[Row uq 69 1 (LI .u32) dz, .cells b2 93 ([uq])]) (fun _ _=>False) (fun _=>[]) ⟨([]:List Int), .slice none 0 0⟩ ⟨⟨_,_,rfl⟩,h⟩ (ks:=[2,3,0,1]) rfl (by decide) ?_ ?_ ?_
 ·
  rintro kN ⟨dz,uq⟩ lo dd rec c' hk ⟨pL,h⟩ oA rV mZ hsi hT
  replace h:eU uP vg (aQ.drop kN) dz = some r:=h
  replace h:=pF yS hk h
  haveI:=lY (K:=K) hsi
  dsimp only [oJ]
  obtain ⟨gB,rS,h⟩:=cN h
  rw [← rS]
  refine SC 3 rf ?_
  refine jo oA mZ ?_
  obtain ⟨n5,h⟩:=dO h
  obtain ⟨ij,l7,h⟩:=cN h
  refine SC 2 rf ?_
  refine aq rfl (cU rfl rfl) ?_
  refine aq rfl (ay rfl) ?_
  refine eu rfl (lf (LI .u32) gB rfl rfl rfl rfl (by decide) (by decide)) (fun BW _=>?_)
  refine eu rfl (kz (sz:=1) (L:=(LI .u32)) (xs:=dz) (y:=gB) (bytes:=4) rfl rfl rfl (fZ n5).1 (fZ n5).2) (fun Ca qv=>?_)
  rw [← l7] at qv; rw [← l7]
  refine W0 (qd (cs':=[Ca]) [Ca] (aF.id (L:=(o5 (LI .u32)))) (v:=ij) ⟨_,rfl,(Fz.row (e:=69) (sz:=1) (L:=(LI .u32)) (xs:=dz) rfl pL)⟩ (rv:=(⟨_,rfl,(Fz.row (e:=69) (sz:=1) (L:=(LI .u32)) (xs:=ij) rfl qv)⟩ : ((o5 (LI .u32))).rep (Hs [Row Ca 69 1 (LI .u32) ij]) [Ca] ij)) rfl rfl (Fz.row (e:=69) (sz:=1) (L:=(LI .u32)) (xs:=ij) rfl qv).sl.cells rfl rfl) ?_
  refine SL 2 rf ?_
  exact iK oA rV hT ⟨ij,Ca⟩ ⟨qv,h⟩ (ks:=[1,2,3,4]) rfl (by decide)
 ·
  rintro GD ⟨dz,uq⟩ ⟨pL,h⟩
  replace h:eU uP vg (aQ.drop aQ.length) dz = some r:=h
  replace h:=pG yX rfl h
  dsimp only [List.cons_append,List.nil_append]
  refine SX 4 rf ?_
  refine aq rfl (cU rfl rfl) ?_
  refine SL 4 rf ?_
  have h:=sj h; subst h
  refine bK (R:=[Row uq 69 1 (LI .u32) dz]) (H':=[.obj GD (.deferred (some [])), .cells kI 69 ((LI .u32).enc lM), .cells kH 77 tU]) (ks:=[3,0,1,2]) rfl (by decide) ?_
  have LV:Fz (fun w=>K w∧(Hs [.ext (bx [Row uq 69 1 (LI .u32) dz]) (Hs [Row uq 69 1 (LI .u32) dz])]) w) uq (LI .u32) dz:=(Fz.row (e:=69) (sz:=1) (L:=(LI .u32)) (xs:=dz) rfl pL).mono n8
  exact jd (uq,[.cells kI 69 ((LI .u32).enc lM), .cells kH 77 tU],bx [Row uq 69 1 (LI .u32) dz],Hs [Row uq 69 1 (LI .u32) dz]) rfl (.tmp rfl .nil) ⟨_,rfl,rfl,LV⟩ rfl (ks:=[0,2,3]) rfl (by decide)
 ·
  intro dd j i hf; exact hf.elim
def cw (n:Nat) (uc:Int) (A6:aj):Option (List Int):=
 bd (bH n uc A6) fun aQ =>
 some aQ
theorem gL {n uc A6 r K} [bz K] {wR wQ q9} (J2:(ah).rep K q9 A6) (h:cw n uc A6 = some r):HN Try.prog 126 [.func (.func 158) #[] #[Ptr wR 0,Ptr wQ 0]] K [.cells wR 69 ((LI .u32).enc uc), .cells wQ 77 q9] (fun J v ho=>∃u0,v = (u0)∧ho = [.cells wR 69 ((LI .u32).enc uc), .cells wQ 77 q9]∧Fz (fun w=>K w∧J w) u0 (LI .u32) (r)):=by
 unfold cw at h
 refine eV Try.func126 (by kernel_rfl) rfl Try.ntmps126 rfl (fun cx cQ hpre hro=>?_)
 haveI:=gZ cQ hpre
 obtain ⟨aQ,cv,h⟩:=bp h
 refine SC 8 rf ?_
 refine eu rfl (gA (K:=K) (kC:=[.cells wR 69 ((LI .u32).enc uc), .cells wQ 77 q9]) (rest:=[]) (ks:=[0,1]) (fA (K:=K) (mo J2) cv) rfl rfl rfl rfl (by decide)) (fun ⟨sS,FJ,dP,ja⟩ uZ=>?_)
 obtain ⟨uq,rfl,rfl,f26⟩:=uZ
 replace f26:Fz (fun w=>K w∧Hs [.ext dP ja] w) sS (LI .u32) aQ:=f26
 dsimp only [List.cons_append,List.nil_append]
 refine SL 4 rf ?_
 have h:=sj h; subst h
 refine bK (R:=[.ext dP ja]) (H':=[.cells wR 69 ((LI .u32).enc uc), .cells wQ 77 q9]) (ks:=[0,1,2]) rfl (by decide) ?_
 have ET:Fz (fun w=>K w∧(Hs [.ext (bx [.ext dP ja]) (Hs [.ext dP ja])]) w) sS (LI .u32) aQ:=f26.mono n8
 exact cY (sS,[.cells wR 69 ((LI .u32).enc uc), .cells wQ 77 q9],bx [.ext dP ja],Hs [.ext dP ja]) rfl (.tmp rfl .nil) ⟨_,rfl,rfl,ET⟩ rfl (ks:=[0,1,2]) rfl (by decide)
def iE (n:Nat) (a0:aj) (a1:Int):Option (List Int):=
 bd (aJ n a0.book.hO a1) fun aQ =>
 cn ((!aQ)) (
 some ([]:List Int)) (
 bd (fg n a0 a1) fun gN =>
 bd (cw n gN.1 gN.2) fun eE =>
 some eE)
theorem p6 {n a0 a1 r K} [bz K] {eN} (f0:(ah).rep K eN a0) (h:iE n a0 a1 = some r):uv Try.prog 52 [A eN, .int .u32 a1] K (fun J v=>Fz (fun w=>K w∧J w) v (LI .u32) r):=by
 unfold iE at h
 refine fo Try.func52 (by kernel_rfl) rfl Try.ntmps52 rfl fun cx _ hro cQ hpre=>?_
 refine SC 2 rf ?_
 refine W1 rf (bS rfl) fun b2=>?_
 obtain ⟨aQ,cv,h⟩:=bp h
 refine SL 8 rf ?_
 refine aq rfl (bq rfl (aW.iff.1 ((aE.c0 aL).get f0)) (aY _ _)) ?_
 refine aq rfl (ay rfl) ?_
 refine CV (aT cv) rf rf ?_
 refine SL 3 rf ?_
 refine fz h rf (fun hc h=>?_) fun hc h=>?_
 ·
  refine SC 7 rf ?_
  have h:=sj h; subst h
  refine bK (R:=[]) (H':=[]) (ks:=[]) rfl (by decide) ?_
  have LZ:Fz (fun w=>K w∧(Hs [.ext (bx []) (Hs [])]) w) (.slice none 0 0) (LI .u32) ([]:List Int):=(Fz.nil (A:=Hs []) (L:=(LI .u32))).mono n8
  exact cY (.slice none 0 0,bx [],Hs []) rfl (.tmp rfl .nil) LZ rfl (ks:=[0]) rfl (by decide)
 ·
  obtain ⟨gN,kZ,h⟩:=bp h
  obtain ⟨eE,rT,h⟩:=bp h
  refine SC 4 rf ?_
  refine aq rfl (av rfl (bf.len _ f0)) ?_
  refine aq rfl (ay rfl) ?_
  refine eu rfl (fC (j4 (K:=K) (mo f0) kZ) rfl kn) (fun ⟨Kt,Lc,DA⟩ f27=>?_)
  replace f27:(ah).rep K DA gN.2:=f27
  dsimp only [List.cons_append,List.nil_append]
  refine eu rfl (gA (K:=K) (kC:=[.cells Kt 69 ((LI .u32).enc gN.1), .cells Lc 77 DA]) (rest:=[.cells b2 77 eN]) (ks:=[0,1,2]) (gL (K:=K) (mo f27) rT) rfl rfl rfl rfl (by decide)) (fun ⟨HU,Mj,cX,gU⟩ Jm=>?_)
  obtain ⟨Ny,rfl,rfl,f33⟩:=Jm
  replace f33:Fz (fun w=>K w∧Hs [.ext cX gU] w) HU (LI .u32) eE:=f33
  dsimp only [List.cons_append,List.nil_append]
  refine SL 4 rf ?_
  have h:=sj h; subst h
  refine bK (R:=[.ext cX gU]) (H':=[]) (ks:=[0]) rfl (by decide) ?_
  have LW:Fz (fun w=>K w∧(Hs [.ext (bx [.ext cX gU]) (Hs [.ext cX gU])]) w) HU (LI .u32) eE:=f33.mono n8
  exact cY (HU,bx [.ext cX gU],Hs [.ext cX gU]) rfl (.tmp rfl .nil) LW rfl (ks:=[0]) rfl (by decide)
def jk (n:Nat) (a0:aj) (a1:Int):Option (aj × (List Int) × Int):=
 bd (iE n a0 a1) fun aQ =>
 cn (((aQ.length:Int) == 0)) (
 some (a0,([]:List Int),4)) (
 di (fun E7 (bR:Int) (kD:aj) =>
 cn (decide (bR < (aQ.length:Int))) (
 gu (dj bR aQ.length) <|
 bd (dk n kD (aQ.getD (Int.toNat bR) default)) fun vG =>
 E7 (wr .i64 (bR + 1)) vG.1) (
 some (kD,aQ,0))) n 0 a0)
theorem qA {n a0 a1 r K} [bz K] {eN} (f0:(ah).rep K eN a0) (h:jk n a0 a1 = some r):uv Try.prog 60 [A eN, .int .u32 a1] K (fun J v=>∃u0 u1,v = (.tuple #[A u0,u1, .int .i64 r.2.2])∧(ah).rep (fun w=>K w∧J w) u0 (r.1)∧Fz (fun w=>K w∧J w) u1 (LI .u32) (r.2.1)):=by
 unfold jk at h
 refine fo Try.func60 (by kernel_rfl) rfl Try.ntmps60 rfl fun cx _ hro cQ hpre=>?_
 refine SC 2 rf ?_
 refine W1 rf (bS rfl) fun b2=>?_
 refine W1 rf (cE (hz:=(⟨by kernel_rfl⟩ : dx Try.prog 77 aO))) fun b4=>?_
 obtain ⟨aQ,cv,h⟩:=bp h
 refine SL 6 rf ?_
 refine aq rfl (av rfl (bf.len _ f0)) ?_
 refine aq rfl (ay rfl) ?_
 refine eu rfl (mg (p6 (K:=K) (mo f0) cv) rfl) (fun ⟨sS,dP,ja⟩ uZ=>?_)
 have f26:Fz (fun w=>K w∧Hs [.ext dP ja] w) sS (LI .u32) aQ:=uZ
 refine SL 7 rf ?_
 refine aq rfl (ef f26 rfl) ?_
 refine SL 3 rf ?_
 refine fz h rf (fun hc h=>?_) fun hc h=>?_
 ·
  refine SC 2 rf ?_
  refine aq rfl (av rfl (bf.len _ f0)) ?_
  refine ST (C:=K) a0 (aF.id (L:=ah)) aK (mo f0) rf rf rf rf rf fun A2 f29=>?_
  refine SL 6 rf ?_
  have h:=sj h; subst h
  refine bK (R:=[]) (H':=[.cells b4 77 A2]) (ks:=[1]) rfl (by decide) ?_
  have LY:(ah).rep (fun w=>K w∧(Hs [.ext (bx []) (Hs [])]) w) A2 a0:=bf.mono _ n8 f29
  have LX:Fz (fun w=>K w∧(Hs [.ext (bx []) (Hs [])]) w) (.slice none 0 0) (LI .u32) ([]:List Int):=(Fz.nil (A:=Hs []) (L:=(LI .u32))).mono n8
  exact cY (.tuple #[A A2, .slice none 0 0, .int .i64 4],bx [],Hs []) rfl (.agg rfl inferInstance inferInstance (bf.len _ f29) (.tmp rfl (.tmp rfl .nil))) ⟨_,_,rfl,LY,LX⟩ rfl (ks:=[0]) rfl (by decide)
 ·
  refine SC 6 rf ?_
  refine aq rfl (ef f26 rfl) ?_
  refine SL 4 rf ?_
  obtain ⟨Ip,FN,h⟩:=ox h
  refine nH ?_
  refine LO (β:=Int × aj × (List Value) × (List Nat) × (World→Prop)) [2,4,7,17,18] [0,1,2,3] (fun (EW,bR,kD,Eh,eM,jT)=>[(19, .int .i64 bR)]) (fun (EW,bR,kD,Eh,eM,jT)=>[.ext eM jT, .ext dP ja, .cells b4 77 aO, .cells b2 77 Eh]) (fun (EW,bR,kD,Eh,eM,jT)=>(ah).rep (fun w=>K w∧Hs [.ext eM jT] w) Eh kD∧di Ip EW bR kD = some r) (n,0,a0,eN,[],(Hs [])) ⟨(mo f0),h⟩ rf rf rf ?_
  rintro EW ⟨bR,kD,Eh,eM,jT⟩ ⟨f44,h⟩
  replace h:=ow FN h; obtain ⟨EW,rfl,h⟩:=h
  refine SC 6 rf ?_
  refine fz h rf (fun hc h=>?_) fun hc h=>?_
  ·
   obtain ⟨CZ,h⟩:=dO h
   refine SC 6 rf ?_
   refine aq rfl (ew (m:=(Int.toNat bR)) f26 rfl rfl rfl (aC CZ).1 (aC CZ).2) ?_
   refine aq rfl (eT f26 (aF.idx (L:=(LI .u32)) (m:=(aQ.length)) (k:=1) ((Int.toNat bR)) (aC CZ).2 rfl) rfl) ?_
   obtain ⟨vG,CJ,h⟩:=bp h
   refine SL 4 rf ?_
   refine aq rfl (av rfl (bf.len _ f44)) ?_
   refine aq rfl (ay rfl) ?_
   refine CB (m9 (K:=(fun w=>K w∧Hs [.ext eM jT] w)) (mo f44) CJ) rf rf ?_
   rintro Lv oN xM ⟨Kk,rfl,f54⟩
   replace f54:(ah).rep (fun w=>(fun w=>K w∧Hs [.ext eM jT] w) w∧Hs [.ext oN xM] w) Kk vG.1:=f54
   refine SL 3 rf ?_
   refine ST (C:=(fun w=>K w∧Hs [.ext eM jT, .ext oN xM] w)) vG.1 (aF.id (L:=ah)) (mo f44) (mo f54) rf rf rf rf rf fun HE f57=>?_
   refine SL 7 rf ?_
   refine bK (R:=[.ext oN xM, .ext eM jT]) (H':=[.ext dP ja, .cells b4 77 aO, .cells b2 77 HE]) (ks:=[0,1,2,3,4]) rfl (by decide) ?_
   exact LN [0,1,2,3] (wr .i64 (bR + 1),vG.1,HE,(bx [.ext oN xM, .ext eM jT]),(Hs [.ext oN xM, .ext eM jT])) ⟨(mo f57),h⟩ rf rf rf
  ·
   refine SC 7 rf ?_
   refine aq rfl (av rfl (bf.len _ f44)) ?_
   refine aq rfl (ay rfl) ?_
   refine ST (C:=(fun w=>K w∧Hs [.ext eM jT] w)) kD (aF.id (L:=ah)) aK (mo f44) rf rf rf rf rf fun Eg f59=>?_
   refine SL 5 rf ?_
   have h:=sj h; subst h
   refine bK (R:=[.ext eM jT, .ext dP ja]) (H':=[.cells b4 77 Eg]) (ks:=[0,1,2]) rfl (by decide) ?_
   have LU:(ah).rep (fun w=>K w∧(Hs [.ext (bx [.ext eM jT, .ext dP ja]) (Hs [.ext eM jT, .ext dP ja])]) w) Eg kD:=bf.mono _ n8 f59
   have LS:Fz (fun w=>K w∧(Hs [.ext (bx [.ext eM jT, .ext dP ja]) (Hs [.ext eM jT, .ext dP ja])]) w) sS (LI .u32) aQ:=f26.mono n8
   exact cY (.tuple #[A Eg,sS, .int .i64 0],bx [.ext eM jT, .ext dP ja],Hs [.ext eM jT, .ext dP ja]) rfl (.agg rfl inferInstance inferInstance (bf.len _ f59) (.tmp rfl (.tmp rfl .nil))) ⟨_,_,rfl,LU,LS⟩ rfl (ks:=[0]) rfl (by decide)
def jh (n:Nat) (a0:aj) (a1:Int):Option Int:=
 bd (fg n a0 a1) fun aQ =>
 bd (eR n aQ.1 aQ.2) fun dz =>
 eU (fun (AS:Int) Ar (eK:Int) =>
 lt (AS:Int) fun cR =>
 bd (dA n a0 cR) fun ij =>
 bd (dA n a0 a1) fun gj =>
 lt ((if eK < wr .i64 ((wr .i64 (ij - gj)) + 1) then wr .i64 ((wr .i64 (ij - gj)) + 1) else eK):Int) fun fx =>
 Ar fx) (fun (eK:Int) =>
 some eK) dz 0
theorem qx {n a0 a1 r K} [bz K] {eN} (f0:(ah).rep K eN a0) (h:jh n a0 a1 = some r):qk Try.prog 131 [A eN, .int .u32 a1] K (.int .i64 r):=by
 unfold jh at h
 refine fo Try.func131 (by kernel_rfl) rfl Try.ntmps131 rfl fun cx _ hro cQ hpre=>?_
 refine SC 2 rf ?_
 refine W1 rf (bS rfl) fun b2=>?_
 refine W1 rf (ct (LI .u32) a1 rfl rfl) fun b3=>?_
 refine SL 5 rf ?_
 refine W1 rf (bj (L:=(LI .i64)) (z:=0) ⟨by kernel_rfl⟩) fun b5=>?_
 refine W0 (bA (M:=(LI .i64)) (aF.id (L:=(LI .i64))) 0 0 rfl rfl rfl rfl rfl) ?_
 obtain ⟨aQ,cv,h⟩:=bp h
 refine SL 5 rf ?_
 refine aq rfl (av rfl (bf.len _ f0)) ?_
 refine aq rfl (aR (aF.id (L:=(LI .u32))) rfl) ?_
 refine eu rfl (fC (j4 (K:=K) (mo f0) cv) rfl kn) (fun ⟨M1,Ld,GR⟩ f25=>?_)
 replace f25:(ah).rep K GR aQ.2:=f25
 dsimp only [List.cons_append,List.nil_append]
 refine SL 3 rf ?_
 obtain ⟨dz,nZ,h⟩:=bp h
 obtain ⟨Cz,F3,Dp,Ge,h⟩:=pH h
 refine kS (K:=K) (α:=Int) (β:=Unit) hro rfl (iB (K:=K) (mo f25) nZ) (fun _=>rfl) rfl (fun Ao=>fun eK=>eU Cz Dp (dz.drop Ao) eK = some r) (fun Ao=>fun eK=>[.cells b5 3 ((LI .i64).enc eK), .cells b3 69 ((LI .u32).enc a1), .cells b2 77 eN]) (fun _ _=>False) (fun _=>[]) 0 h (ks:=[0,1,2,3,4]) rfl (by decide) ?_ ?_ ?_
 ·
  rintro Ao eK lo dd rec c' hk h oA rV mZ hsi hT
  replace h:eU Cz Dp (dz.drop Ao) eK = some r:=h
  replace h:=pF F3 hk h
  haveI:=lY (K:=K) hsi
  dsimp only [oJ]
  obtain ⟨cR,pI,h⟩:=cN h
  rw [← pI]
  refine SC 3 rf ?_
  refine jo oA mZ ?_
  refine qb ?_
  obtain ⟨ij,l7,h⟩:=bp h
  obtain ⟨gj,oL,h⟩:=bp h
  obtain ⟨fx,wY,h⟩:=cN h
  refine ec mixed (.lq [] [(0,[5]),(1,[2]),(2,[6]),(3,[12,13]),(4,[2]),(5,[3]),(6,[15,16]),(7,[14,17]),(8,[18]),(9,[11,19])] (.alt 10 [5,20] (.fin [] []) .no)) (by kernel_rfl) ?_
  refine T0 ?_
  refine NV rf rf (aR (aF.id (L:=(LI .i64))) rfl) ?_
  refine NV rf rf (av rfl (bf.len _ f0)) ?_
  refine NS 1 rf ?_
  refine NC rf rf (iI (K:=K) (mo f0) l7) rf ?_
  refine NV rf rf (av rfl (bf.len _ f0)) ?_
  refine NV rf rf (aR (aF.id (L:=(LI .u32))) rfl) ?_
  refine NC rf rf (iI (K:=K) (mo f0) oL) rf ?_
  refine NS 2 rf ?_
  refine NV rf rf (DH rfl rfl) ?_
  refine dH ?_
  refine X0 rf (bA (M:=(LI .i64)) (aF.id (L:=(LI .i64))) (if eK < wr .i64 ((wr .i64 (ij - gj)) + 1) then wr .i64 ((wr .i64 (ij - gj)) + 1) else eK) fx wY rfl rfl rfl rfl) ?_
  refine sW ?_
  refine ug ?_
  exact iK oA rV hT fx h (ks:=[0,1,2,3,4]) rfl (by decide)
 ·
  rintro GD eK h
  replace h:eU Cz Dp (dz.drop dz.length) eK = some r:=h
  replace h:=pG Ge rfl h
  dsimp only [List.cons_append,List.nil_append]
  refine SX 4 rf ?_
  refine aq rfl (aR (aF.id (L:=(LI .i64))) rfl) ?_
  refine SL 4 rf ?_
  have h:=sj h; subst h
  exact jd () rfl (.tmp rfl .nil) trivial rfl (ks:=[]) rfl (by decide)
 ·
  intro dd j i hf; exact hf.elim
def iF (n:Nat) (a0:aj) (a1:Int) (a2:Int):Option (aj × Int):=
 bd (aJ n a0.book.hO a1) fun aQ =>
 cl ((!aQ) == false) (aJ n a0.book.hO a2) default fun bT =>
 cn (((!aQ) || (!bT))) (
 some (a0,4)) (
 bd (dw n a0 a1) fun dz =>
 cl ((dz != a1) == false) (eX n a0 a1 a2) default fun c9 =>
 cn (((dz != a1) || c9)) (
 some (a0,12)) (
 bd (dA n a0 a2) fun dy =>
 bd (jh n a0 a1) fun fa =>
 cn (decide (6 < (wr .i64 (dy + fa)))) (
 some (a0,8)) (
 bd (cT n a0 a1 a2) fun ij =>
 some (ij.1,ij.2))))
theorem p7 {n a0 a1 a2 r K} [bz K] {eN} (f0:(ah).rep K eN a0) (h:iF n a0 a1 a2 = some r):uv Try.prog 62 [A eN, .int .u32 a1, .int .u32 a2] K (fun J v=>∃u0,v = (.tuple #[A u0, .int .i64 r.2])∧(ah).rep (fun w=>K w∧J w) u0 (r.1)):=by
 unfold iF at h
 refine fo Try.func62 (by kernel_rfl) rfl Try.ntmps62 rfl fun cx _ hro cQ hpre=>?_
 refine SC 2 rf ?_
 refine W1 rf (bS rfl) fun b3=>?_
 refine W1 rf (cE (hz:=(⟨by kernel_rfl⟩ : dx Try.prog 77 aO))) fun b6=>?_
 obtain ⟨aQ,cv,h⟩:=bp h
 obtain ⟨bT,iD,_,h⟩:=j2 h
 refine SL 9 rf ?_
 refine aq rfl (bq rfl (aW.iff.1 ((aE.c0 aL).get f0)) (aY _ _)) ?_
 refine aq rfl (ay rfl) ?_
 refine CV (aT cv) rf rf ?_
 refine SL 2 rf ?_
 refine GB rf rf rf (fun hb=>aN rfl) ?_
 refine GB rf rf rf (fun hb=>aN (bN rfl hb)) ?_
 refine GB rf rf rf (fun hb=>bq (bN rfl hb) (aW.iff.1 ((aE.c0 aL).get f0)) (aY _ _)) ?_
 refine GB rf rf rf (fun hb=>ay rfl) ?_
 refine GB rf rf rf (fun hb=>dK (aT (iD hb)) (aP (bN rfl hb) (aP (bN rfl hb) rfl)) (fun _ _ _=>trivial)) ?_
 refine GB rf rf rf (fun hb=>j7 (bN rfl hb)) ?_
 refine aq rfl (ga rfl rfl) ?_
 refine SL 3 rf ?_
 refine fz h rf (fun hc h=>?_) fun hc h=>?_
 ·
  refine SC 2 rf ?_
  refine aq rfl (av rfl (bf.len _ f0)) ?_
  refine ST (C:=K) a0 (aF.id (L:=ah)) aK (mo f0) rf rf rf rf rf fun Ei f24=>?_
  refine SL 6 rf ?_
  have h:=sj h; subst h
  exact qh [] rf rf (ra rf (bf.len _ f24) (rt rf rn)) ⟨_,rfl,(mo f24)⟩
 ·
  obtain ⟨dz,nZ,h⟩:=bp h
  obtain ⟨c9,mX,_,h⟩:=j2 h
  refine SC 2 rf ?_
  refine aq rfl (av rfl (bf.len _ f0)) ?_
  refine aq rfl (ay rfl) ?_
  refine CV (eI (K:=K) (mo f0) nZ) rf rf ?_
  refine SL 3 rf ?_
  refine GB rf rf rf (fun hb=>av rfl (bf.len _ f0)) ?_
  refine GB rf rf rf (fun hb=>ay rfl) ?_
  refine GB rf rf rf (fun hb=>ay rfl) ?_
  refine GB rf rf rf (fun hb=>dK (kr (K:=K) (mo f0) (mX hb)) (aP (bN rfl hb) (aP (bN rfl hb) (aP (bN rfl hb) rfl))) kn) ?_
  refine aq rfl (ga rfl rfl) ?_
  refine SL 3 rf ?_
  refine fz h rf (fun hc h=>?_) fun hc h=>?_
  ·
   refine SC 2 rf ?_
   refine aq rfl (av rfl (bf.len _ f0)) ?_
   refine ST (C:=K) a0 (aF.id (L:=ah)) aK (mo f0) rf rf rf rf rf fun A2 f29=>?_
   refine SL 6 rf ?_
   have h:=sj h; subst h
   exact qh [] rf rf (ra rf (bf.len _ f29) (rt rf rn)) ⟨_,rfl,(mo f29)⟩
  ·
   refine qa ?_
   obtain ⟨dy,AA,h⟩:=bp h
   obtain ⟨fa,uS,h⟩:=bp h
   refine ec mixed (.lq [] [(0,[3]),(1,[2]),(2,[38,39]),(3,[3]),(4,[1]),(5,[41,42]),(6,[40,43]),(7,[44])] (.alt 8 [45] (.fin [] []) .no)) (by kernel_rfl) ?_
   refine T0 ?_
   refine NV rf rf (av rfl (bf.len _ f0)) ?_
   refine NS 1 rf ?_
   refine NC rf rf (iI (K:=K) (mo f0) AA) rf ?_
   refine NV rf rf (av rfl (bf.len _ f0)) ?_
   refine NS 1 rf ?_
   refine NC rf rf (qx (K:=K) (mo f0) uS) rf ?_
   refine NE 2 rf ?_
   refine XV rf rf (cO rfl) ?_
   refine sW ?_
   refine jR ?_
   refine fz h rf (fun hc h=>?_) fun hc h=>?_
   ·
    refine SC 2 rf ?_
    refine aq rfl (av rfl (bf.len _ f0)) ?_
    refine ST (C:=K) a0 (aF.id (L:=ah)) aK (mo f0) rf rf rf rf rf fun MX f34=>?_
    refine SL 6 rf ?_
    have h:=sj h; subst h
    exact qh [] rf rf (ra rf (bf.len _ f34) (rt rf rn)) ⟨_,rfl,(mo f34)⟩
   ·
    obtain ⟨ij,l7,h⟩:=bp h
    refine SC 5 rf ?_
    refine aq rfl (av rfl (bf.len _ f0)) ?_
    refine SL 2 rf ?_
    refine CB (jI (K:=K) (mo f0) l7) rf rf ?_
    rintro Nv GZ Lp ⟨xK,rfl,f41⟩
    replace f41:(ah).rep (fun w=>K w∧Hs [.ext GZ Lp] w) xK ij.1:=f41
    refine SL 2 rf ?_
    refine ST (C:=(fun w=>K w∧Hs [.ext GZ Lp] w)) ij.1 (aF.id (L:=ah)) aK (mo f41) rf rf rf rf rf fun Eh f44=>?_
    refine SL 4 rf ?_
    have h:=sj h; subst h
    exact qh [0] rf rf (ra rf (bf.len _ f44) (rt rf rn)) ⟨_,rfl,(mo f44)⟩
def fO (n:Nat) (a0:Int) (a1:Int) (a2:aj):Option Bool:=
 cl ((a0 != a1) == true) (eX n a2 a0 a1) default fun aQ =>
 some ((a0 != a1) && aQ)
theorem p8 {n a0 a1 a2 r K} [bz K] {q1 q2 vj} (f2:(ah).rep K vj a2) (h:fO n a0 a1 a2 = some r):Bw.Fn (α:=Unit) Try.prog 130 [.int .u32 a0,Ptr q1 0,Ptr q2 0] (wB (bx [.cells q1 69 ((LI .u32).enc a1), .cells q2 77 vj]) K) [.cells q1 69 ((LI .u32).enc a1), .cells q2 77 vj] (fun _=>True) (fun _=>(.bool r)) (fun _=>[.cells q1 69 ((LI .u32).enc a1), .cells q2 77 vj]):=by
 unfold fO at h
 refine eV Try.func130 (by kernel_rfl) rfl Try.ntmps130 rfl (fun cx cQ hpre hro=>?_)
 haveI:=gZ cQ hpre
 obtain ⟨aQ,cv,_,h⟩:=j2 h
 refine SC 8 rf ?_
 refine aq rfl (aR (aF.id (L:=(LI .u32))) rfl) ?_
 refine SL 2 rf ?_
 refine GB rf rf rf (fun hb=>av rfl (bf.len _ f2)) ?_
 refine GB rf rf rf (fun hb=>ay rfl) ?_
 refine GB rf rf rf (fun hb=>aR (aF.id (L:=(LI .u32))) rfl) ?_
 refine GB rf rf rf (fun hb=>dK (kr (K:=K) (mo f2) (cv hb)) (aP (bN rfl hb) (aP (bN rfl hb) (aP (bN rfl hb) rfl))) kn) ?_
 refine aq rfl (cA rfl rfl) ?_
 refine SL 4 rf ?_
 have h:=sj h; subst h
 exact cY () rfl (.tmp rfl .nil) trivial rfl (ks:=[0,1]) rfl (by decide)
def j1 (n:Nat) (a0:aj) (a1:Int):Option (aj × Int):=
 bd (aJ n a0.book.hO a1) fun aQ =>
 cn ((!aQ)) (
 some (a0,4)) (
 bd (fg n a0 a1) fun c9 =>
 bd (eR n c9.1 c9.2) fun fa =>
 eU (fun (J7:Int) IB (bR:aj) =>
 lt (J7:Int) fun ni =>
 bd (dc n bR ni) fun nR =>
 di (fun BD (lP:Int) (mM:br) =>
 cn (decide (lP < 8)) (
 gu (dj lP 8) <|
 bd (fO n (nR.1.Cells (Int.toNat lP)) a1 a0) fun sY =>
 cn (sY) (
 gu (dj lP 8) <|
 lt ({ mM with Cells:=(dX mM.Cells (Int.toNat lP) 0) }:br) fun wC =>
 BD (wr .i64 (lP + 1)) wC) (
 BD (wr .i64 (lP + 1)) mM)) (
 bd (ep n bR ni mM) fun B5 =>
 IB B5.1)) n 0 nR.1) (fun (bR:aj) =>
 bd (cT n bR a1 0) fun sQ =>
 some (sQ.1,sQ.2)) fa a0)
theorem sq {n a0 a1 r K} [bz K] {eN} (f0:(ah).rep K eN a0) (h:j1 n a0 a1 = some r):uv Try.prog 61 [A eN, .int .u32 a1] K (fun J v=>∃u0,v = (.tuple #[A u0, .int .i64 r.2])∧(ah).rep (fun w=>K w∧J w) u0 (r.1)):=by
 unfold j1 at h
 refine fo Try.func61 (by kernel_rfl) rfl Try.ntmps61 rfl fun cx _ hro cQ hpre=>?_
 refine SC 2 rf ?_
 refine W1 rf (bS rfl) fun b2=>?_
 refine W1 rf (ct (LI .u32) a1 rfl rfl) fun b3=>?_
 refine W1 rf (cE (hz:=(⟨by kernel_rfl⟩ : dx Try.prog 77 aO))) fun b4=>?_
 obtain ⟨aQ,cv,h⟩:=bp h
 refine SL 8 rf ?_
 refine aq rfl (bq rfl (aW.iff.1 ((aE.c0 aL).get f0)) (aY _ _)) ?_
 refine aq rfl (aR (aF.id (L:=(LI .u32))) rfl) ?_
 refine CV (aT cv) rf rf ?_
 refine SL 3 rf ?_
 refine fz h rf (fun hc h=>?_) fun hc h=>?_
 ·
  refine SC 2 rf ?_
  refine aq rfl (av rfl (bf.len _ f0)) ?_
  refine ST (C:=K) a0 (aF.id (L:=ah)) aK (mo f0) rf rf rf rf rf fun Km f23=>?_
  refine SL 5 rf ?_
  have h:=sj h; subst h
  exact qh [] rf rf (ra rf (bf.len _ f23) (rt rf rn)) ⟨_,rfl,(mo f23)⟩
 ·
  refine SC 5 rf ?_
  refine W1 rf (cE (hz:=(⟨by kernel_rfl⟩ : dx Try.prog 109 [.nilFunc]))) fun b6=>?_
  refine W0 (nM (n:=1) (cs':=[.func (.func 130) #[] #[Ptr b3 0,Ptr b2 0]]) rfl rfl rfl rfl (by decide) (sN rfl) rfl) ?_
  refine SL 4 rf ?_
  refine aq rfl (av rfl (bf.len _ f0)) ?_
  refine W1 rf (cE (hz:=(⟨by kernel_rfl⟩ : dx Try.prog 77 aO))) fun b7=>?_
  refine ST (C:=K) a0 (aF.id (L:=ah)) aK (mo f0) rf rf rf rf rf fun GQ f26=>?_
  obtain ⟨c9,mX,h⟩:=bp h
  refine SL 5 rf ?_
  refine aq rfl (av rfl (bf.len _ f0)) ?_
  refine aq rfl (aR (aF.id (L:=(LI .u32))) rfl) ?_
  refine eu rfl (fC (j4 (K:=K) (mo f0) mX) rfl kn) (fun ⟨MZ,NO,GN⟩ f31=>?_)
  replace f31:(ah).rep K GN c9.2:=f31
  dsimp only [List.cons_append,List.nil_append]
  refine SL 3 rf ?_
  obtain ⟨fa,uS,h⟩:=bp h
  refine nH ?_
  obtain ⟨Cv,FY,Dl,Ga,h⟩:=pH h
  refine kS (K:=K) (α:=aj × (List Value) × (List Nat) × (World→Prop)) (β:=Unit) hro rfl (iB (K:=K) (mo f31) uS) (fun _=>rfl) rfl (fun Am=>fun (bR,xK,eM,jT)=>(ah).rep (fun w=>K w∧Hs [.ext eM jT] w) xK bR∧eU Cv Dl (fa.drop Am) bR = some r) (fun Am=>fun (bR,xK,eM,jT)=>[.ext eM jT, .cells b7 77 xK, .cells b6 109 [.func (.func 130) #[] #[Ptr b3 0,Ptr b2 0]], .cells b4 77 aO, .cells b3 69 ((LI .u32).enc a1), .cells b2 77 eN]) (fun _ _=>False) (fun _=>[]) ⟨a0,GQ,[],(Hs [])⟩ ⟨(mo f26),h⟩ (ks:=[1,2,0,3,4,5,6,7]) rfl (by decide) ?_ ?_ ?_
  ·
   rintro Am ⟨bR,xK,eM,jT⟩ lo dd rec c' hk ⟨f43,h⟩ oA rV mZ hsi hT
   replace h:eU Cv Dl (fa.drop Am) bR = some r:=h
   replace h:=pF FY hk h
   haveI:=lY (K:=K) hsi
   dsimp only [oJ]
   obtain ⟨ni,CK,h⟩:=cN h
   rw [← CK]
   refine SC 3 rf ?_
   refine jo oA mZ ?_
   obtain ⟨nR,CI,h⟩:=bp h
   refine SC 3 rf ?_
   refine aq rfl (av rfl (bf.len _ f43)) ?_
   refine aq rfl (ay rfl) ?_
   refine CB (iG (K:=(fun w=>K w∧Hs [.ext eM jT] w)) (mo f43) CI) rf rf ?_
   rintro Ns nD wz ⟨HE,rfl,f55⟩
   replace f55:(aM).rep (fun w=>(fun w=>K w∧Hs [.ext eM jT] w) w∧Hs [.ext nD wz] w) HE nR.1:=f55
   refine SL 3 rf ?_
   refine W1 rf (cE (hz:=(⟨by kernel_rfl⟩ : dx Try.prog 74 eo))) fun b9=>?_
   refine ST (C:=(fun w=>K w∧Hs [.ext eM jT, .ext nD wz] w)) nR.1 (aF.id (L:=aM)) ei (mo f55) rf rf rf rf rf fun MT f58=>?_
   refine SL 7 rf ?_
   refine aq rfl (bq rfl (aW.iff.1 (js.get f58)) (aY _ _)) ?_
   refine SL 4 rf ?_
   obtain ⟨Io,FM,h⟩:=ox h
   refine nH ?_
   refine LO (β:=Int × br × (List Value) × (List Nat) × (World→Prop)) [6,7,8,9,33] [0,1,2,3,4,5,6,7,8,9,10] (fun (EV,lP,mM,AZ,k9,sP)=>[(34, .int .i64 lP)]) (fun (EV,lP,mM,AZ,k9,sP)=>[.ext k9 sP, .cells b9 74 AZ, .ext nD wz, .obj dd (.deferred (some [])), .obj lo (.loop { rec with state:=.busy }), .ext eM jT, .cells b7 77 xK, .cells b6 109 [.func (.func 130) #[] #[Ptr b3 0,Ptr b2 0]], .cells b4 77 aO, .cells b3 69 ((LI .u32).enc a1), .cells b2 77 eN]) (fun (EV,lP,mM,AZ,k9,sP)=>(aM).rep (fun w=>K w∧Hs [.ext eM jT, .ext nD wz, .ext k9 sP] w) AZ mM∧di Io EV lP mM = some r) (n,0,nR.1,MT,[],(Hs [])) ⟨(mo f58),h⟩ rf rf rf ?_
   rintro EV ⟨lP,mM,AZ,k9,sP⟩ ⟨f71,h⟩
   replace h:=ow FM h; obtain ⟨EV,rfl,h⟩:=h
   refine SC 6 rf ?_
   refine fz h rf (fun hc h=>?_) fun hc h=>?_
   ·
    obtain ⟨CW,h⟩:=dO h
    refine SC 7 rf ?_
    refine aq rfl (xo (m:=(Int.toNat lP)) rfl rfl (aC CW).1 (aC CW).2 ((aF.idx (L:=(LI .u32)) (m:=8) (k:=1) (Int.toNat lP) (aC CW).2 rfl).int (rp _ _))) ?_
    obtain ⟨sY,yE,h⟩:=bp h
    refine SL 6 rf ?_
    refine aq rfl (cU rfl rfl) ?_
    refine aq rfl (ay rfl) ?_
    refine eu rfl (gA (K:=K) (kC:=[.cells b3 69 ((LI .u32).enc a1), .cells b2 77 eN]) (rest:=[.ext k9 sP, .cells b9 74 AZ, .ext nD wz, .obj dd (.deferred (some [])), .obj lo (.loop { rec with state:=.busy }), .ext eM jT, .cells b7 77 xK, .cells b6 109 [.func (.func 130) #[] #[Ptr b3 0,Ptr b2 0]], .cells b4 77 aO]) (ks:=[9,10,0,1,2,3,4,5,6,7,8]) (p8 (K:=K) (mo f0) yE) rfl rfl rfl rfl (by decide)) (fun _ _=>?_)
    dsimp only [List.cons_append,List.nil_append]
    refine SL 2 rf ?_
    refine fz h rf (fun hc h=>?_) fun hc h=>?_
    ·
     obtain ⟨CT,h⟩:=dO h
     obtain ⟨wC,CF,h⟩:=cN h
     refine SC 3 rf ?_
     refine aq rfl (jq (m:=(Int.toNat lP)) rfl rfl (aC CT).1 (aC CT).2) ?_
     refine ST (C:=(fun w=>K w∧Hs [.ext eM jT, .ext nD wz, .ext k9 sP] w)) wC (js.comp (aF.idx (L:=(LI .u32)) (m:=8) (k:=1) ((Int.toNat lP)) (aC CT).2 rfl)) (mo f71) fl CF rf rf rf rf fun K4 f80=>?_
     refine SL 7 rf ?_
     refine bK (R:=[.ext k9 sP]) (H':=[.cells b3 69 ((LI .u32).enc a1), .cells b2 77 eN, .cells b9 74 K4, .ext nD wz, .obj dd (.deferred (some [])), .obj lo (.loop { rec with state:=.busy }), .ext eM jT, .cells b7 77 xK, .cells b6 109 [.func (.func 130) #[] #[Ptr b3 0,Ptr b2 0]], .cells b4 77 aO]) (ks:=[2,0,1,3,4,5,6,7,8,9,10]) rfl (by decide) ?_
     exact LN [0,3,4,5,6,7,8,9,10,1,2] (wr .i64 (lP + 1),wC,K4,(bx [.ext k9 sP]),(Hs [.ext k9 sP])) ⟨(mo f80),h⟩ rf rf rf
    ·
     refine SC 7 rf ?_
     refine bK (R:=[.ext k9 sP]) (H':=[.cells b3 69 ((LI .u32).enc a1), .cells b2 77 eN, .cells b9 74 AZ, .ext nD wz, .obj dd (.deferred (some [])), .obj lo (.loop { rec with state:=.busy }), .ext eM jT, .cells b7 77 xK, .cells b6 109 [.func (.func 130) #[] #[Ptr b3 0,Ptr b2 0]], .cells b4 77 aO]) (ks:=[2,0,1,3,4,5,6,7,8,9,10]) rfl (by decide) ?_
     exact LN [0,3,4,5,6,7,8,9,10,1,2] (wr .i64 (lP + 1),mM,AZ,(bx [.ext k9 sP]),(Hs [.ext k9 sP])) ⟨(mo f71),h⟩ rf rf rf
   ·
    obtain ⟨B5,IN,h⟩:=bp h
    refine SC 6 rf ?_
    refine aq rfl (av rfl (bf.len _ f43)) ?_
    refine aq rfl (ay rfl) ?_
    refine aq rfl (av rfl (bf.len _ f71)) ?_
    refine CB (ny (K:=(fun w=>K w∧Hs [.ext eM jT, .ext nD wz, .ext k9 sP] w)) (mo f43) (mo f71) IN) rf rf ?_
    rintro Np zg Hg ⟨MO,rfl,f86⟩
    replace f86:(ah).rep (fun w=>(fun w=>K w∧Hs [.ext eM jT, .ext nD wz, .ext k9 sP] w) w∧Hs [.ext zg Hg] w) MO B5.1:=f86
    refine SL 3 rf ?_
    refine ST (C:=(fun w=>K w∧Hs [.ext eM jT, .ext nD wz, .ext k9 sP, .ext zg Hg] w)) B5.1 (aF.id (L:=ah)) (mo f43) (mo f86) rf rf rf rf rf fun HD f89=>?_
    refine SL 2 rf ?_
    refine bK (R:=[.ext zg Hg, .ext k9 sP, .ext nD wz, .ext eM jT]) (H':=[.cells b9 74 AZ, .obj dd (.deferred (some [])), .obj lo (.loop { rec with state:=.busy }), .cells b7 77 HD, .cells b6 109 [.func (.func 130) #[] #[Ptr b3 0,Ptr b2 0]], .cells b4 77 aO, .cells b3 69 ((LI .u32).enc a1), .cells b2 77 eN]) (ks:=[0,1,3,6,2,4,5,7,8,9,10,11]) rfl (by decide) ?_
    exact iK oA rV hT ⟨B5.1,HD,(bx [.ext zg Hg, .ext k9 sP, .ext nD wz, .ext eM jT]),(Hs [.ext zg Hg, .ext k9 sP, .ext nD wz, .ext eM jT])⟩ ⟨(mo f89),h⟩ (ks:=[2,3,0,4,5,6,7,8]) rfl (by decide)
  ·
   rintro Kc ⟨bR,xK,eM,jT⟩ ⟨f43,h⟩
   replace h:eU Cv Dl (fa.drop fa.length) bR = some r:=h
   replace h:=pG Ga rfl h
   dsimp only [List.cons_append,List.nil_append]
   obtain ⟨sQ,CD,h⟩:=bp h
   refine SX 4 rf ?_
   refine aq rfl (av rfl (bf.len _ f43)) ?_
   refine aq rfl (aR (aF.id (L:=(LI .u32))) rfl) ?_
   refine CB (jI (K:=(fun w=>K w∧Hs [.ext eM jT] w)) (mo f43) CD) rf rf ?_
   rintro No vq DX ⟨MM,rfl,f96⟩
   replace f96:(ah).rep (fun w=>(fun w=>K w∧Hs [.ext eM jT] w) w∧Hs [.ext vq DX] w) MM sQ.1:=f96
   refine SL 2 rf ?_
   refine ST (C:=(fun w=>K w∧Hs [.ext eM jT, .ext vq DX] w)) sQ.1 (aF.id (L:=ah)) aK (mo f96) rf rf rf rf rf fun Kh f99=>?_
   refine SL 4 rf ?_
   have h:=sj h; subst h
   refine bK (R:=[.ext vq DX, .ext eM jT]) (H':=[.obj Kc (.deferred (some [])), .cells b4 77 Kh]) (ks:=[0,4,1,7]) rfl (by decide) ?_
   have Ic:(ah).rep (fun w=>K w∧(Hs [.ext (bx [.ext vq DX, .ext eM jT]) (Hs [.ext vq DX, .ext eM jT])]) w) Kh sQ.1:=bf.mono _ n8 f99
   exact jd (.tuple #[A Kh, .int .i64 sQ.2],bx [.ext vq DX, .ext eM jT],Hs [.ext vq DX, .ext eM jT]) rfl (.agg rfl inferInstance inferInstance (bf.len _ f99) (.tmp rfl .nil)) ⟨_,rfl,Ic⟩ rfl (ks:=[0]) rfl (by decide)
  ·
   intro dd j i hf; exact hf.elim
structure fV where
 Do:Int
 A:Int
 B:Int
 C:Int
 bu:Int
abbrev bw:bf fV:=bf.via (LP (LI .u8) (LP (LI .u32) (LP (LI .u32) (LP (LI .u32) (LI .i64))))) (fun x=>(x.Do,x.A,x.B,x.C,x.bu))
abbrev oG:fV:=⟨0,0,0,0,0⟩
instance:Inhabited fV:=⟨oG⟩
theorem iN:aF bw (LI .u8) 0 (fun x=>x.Do) (fun x v=>{ x with Do:=v }):=(aF.fst aF.id).via _ _ _ 0 rfl (fun _=>rfl) (fun _ _=>rfl)
theorem je:aF bw (LI .u32) 1 (fun x=>x.A) (fun x v=>{ x with A:=v }):=(aF.snd (aF.fst aF.id)).via _ _ _ 1 rfl (fun _=>rfl) (fun _ _=>rfl)
theorem qE:aF bw (LI .u32) 2 (fun x=>x.B) (fun x v=>{ x with B:=v }):=(aF.snd (aF.snd (aF.fst aF.id))).via _ _ _ 2 rfl (fun _=>rfl) (fun _ _=>rfl)
theorem fk:aF bw (LI .i64) 4 (fun x=>x.bu) (fun x v=>{ x with bu:=v }):=(aF.snd (aF.snd (aF.snd (aF.snd aF.id)))).via _ _ _ 4 rfl (fun _=>rfl) (fun _ _=>rfl)
end Go.Proofs.Ytmdpbdhkmfjlhaa
namespace Go.Proofs.Ytmdpbdhkmfjlhaa
open Go Go.Bw
def cg (w:ag) (x:Int):Int:=(w.R (bI x)).Up
abbrev Gw (w:ag):List Int:=bB w.B 32
theorem rY {t:aj} {w:ag} (r:fu t w) (tt:gQ w):∃ρ,Fo (Gw w) (cg w) ρ:=by
  obtain ⟨q,hq⟩:=tt
  have hm:=bJ r.book
  refine ⟨fun x=>pV (fun j=>decide (q j < q (bI x))) 32,⟨mW r.book 32 (by omega),ff _ _,fun x hx=>?_,fun x hx=>?_,fun x hx=>?_,fun x hx hu=>?_⟩⟩
  · have:=fW ((hm x).1 hx); omega
  · exact (r.D8 ((hm x).1 hx)).imp _root_.id (hm _).2
  · have:=nw (p:=fun j=>decide (q j < q (bI x))) (q:=fun _=>true) (fun _ _=>rfl) (c:=bI x) (by simp) rfl 32 (iw _)
    have:=sd (fun _=>true) 32
    omega
  · obtain ⟨l1,l2⟩:=dG ((hm x).1 hx)
    have h2:=hq _ l1 l2 hu
    exact nw (p:=fun j=>decide (q j < q (bI (w.R (bI x)).Up))) (q:=fun j=>decide (q j < q (bI x))) (fun j hj=>by simp at hj ⊢; omega) (c:=bI (w.R (bI x)).Up) (by simp) (by simpa using h2) 32 (iw _)
section
universe u1 u2 u3
theorem nW {α1 ρ:Type} {B:(α1→Option ρ)→α1→Option ρ} (g:α1→ρ) (I:α1→Prop) (μ:α1→Nat) (hB:∀k a,I a→(∀b,I b→μ b < μ a→k b = some (g b))→B k a = some (g a)):∀n a,I a→μ a < n→dW B n a = some (g a):=by
  intro n
  induction n with
  | zero=>intro a _ h; exact absurd h (Nat.not_lt_zero _)
  | succ n ih=>intro a hi hm; exact hB _ a hi fun b hj hl=>ih b hj (by omega)
end
theorem vu {n:Nat} (hn:40 ≤ n) {t:aj} {w:ag} (r:fu t w) (tt:gQ w) {h:Int} (hh:bh w.B h):eS n t h = some (U6 (cg w) h):=by
  obtain ⟨ρ,f⟩:=rY r tt
  have hm:=bJ r.book
  unfold eS
  refine nW (fun x=>U6 (cg w) x) (fun x=>bh w.B x) ρ (fun k x hx ih=>?_) n h hh (by have:=f.rk h ((hm h).2 hh); omega)
  have hG:=(hm x).2 hx
  rw [au (rX r hx.1 (eB hx.2)),if_pos hx.2]
  show cn (((0:Int) != 0 || (cg w x == 0)) == false) (yl (cg w x) (k (cg w x))) (some []) = _
  by_cases hu:cg w x = 0
  · rw [f.u0 hG hu,ak (by simp [hu])]
  · rw [f.u1 hG hu,aA (by simp [hu]),ih _ ((hm _).1 (f.zM hG hu)) (f.dn x hG hu)]; rfl
def fM (w:ag) (a:Int):Int:=if aX w.B a = true then 1 + ((U6 (cg w) a).length:Int) else 0
def cq (w:ag) (a:Int):Int:=if aX w.B a = true then tf (cg w) a else 0
def qo (w:ag) (a b:Int):Bool:=aX w.B a && aX w.B b && ((a == b) || (U6 (cg w) b).contains a)
def rQ (w:ag) (a:Int):List Int:=if aX w.B a = true then fI (Gw w) (cg w) a else []
def jU (w:ag) (a:Int):List Int:=if aX w.B a = true then V6 (Gw w) (cg w) a else []
section
variable {n:Nat} {t:aj} {w:ag}
theorem Av (l:List Int) (x:Int) (h0:0 ≤ x) (h1:x + (l.length:Int) ≤ 1000000):eU (fun (Dq:Int) Aq (bW:Int) =>
  lt (Dq:Int) fun _ =>
  lt (wr .i64 (bW + 1):Int) fun gj =>
  Aq gj) (fun (bW:Int) =>
  some bW) l x = some (x + (l.length:Int)):=by
  induction l generalizing x with
  | nil=>simp [eU]
  | cons a l ih =>
    rw [List.length_cons] at h1
    have e:wr .i64 (x + 1) = x + 1:=bP (by omega) (by omega)
    refine (ih (wr .i64 (x + 1)) (by rw [e]; omega) (by rw [e]; omega)).trans ?_
    rw [e,List.length_cons]; congr 1; omega
theorem r8 (hn:40 ≤ n) (r:fu t w) (tt:gQ w) {a:Int} (h0:0 ≤ a) (h1:a < 4294967296):dA n t a = some (fM w a):=by
  unfold dA fM
  rw [au (jg r.book h0 h1)]
  cases hg:aX w.B a with
  | false=>rfl
  | true =>
    obtain ⟨ρ,f⟩:=rY r tt
    have hG:=(bJ r.book a).2 ⟨h0,hg⟩
    rw [ak (b:=!true) rfl,if_pos rfl]
    unfold fh
    rw [au rfl,au (vu hn r tt ⟨h0,hg⟩)]
    have:=f.xU hG
    exact Av _ 1 (by omega) (by omega)
theorem yB (l:List Int) (x:Int):eU (fun (Dq:Int) Aq (_:Int) =>
  lt (Dq:Int) fun kA =>
  Aq kA) (fun (bW:Int) =>
  some bW) l x = some (l.getLastD x):=by
  induction l generalizing x with
  | nil=>rfl
  | cons a l ih=>exact (ih a).trans (by cases l <;> rfl)
theorem mQ (hn:40 ≤ n) (r:fu t w) (tt:gQ w) {a:Int} (h0:0 ≤ a) (h1:a < 4294967296):dw n t a = some (cq w a):=by
  unfold dw cq
  rw [au (jg r.book h0 h1)]
  cases hg:aX w.B a with
  | false=>rfl
  | true =>
    rw [ak (b:=!true) rfl,if_pos rfl]
    unfold fh
    rw [au rfl,au (vu hn r tt ⟨h0,hg⟩)]
    exact yB _ a
theorem Cu (a1:Int) (l:List Int) (x:Bool):eU (fun (J8:Int) yy (fa:Bool) =>
  lt (J8:Int) fun gj =>
  lt ((fa || (gj == a1)):Bool) fun jE =>
  yy jE) (fun (fa:Bool) =>
  some fa) l x = some (x || l.contains a1):=by
  induction l generalizing x with
  | nil=>simp [eU]
  | cons a l ih =>
    refine (ih (x || (a == a1))).trans ?_
    rw [List.contains_cons,Bool.or_assoc,Bool.beq_comm (a:=a)]
theorem vO (hn:40 ≤ n) (r:fu t w) (tt:gQ w) {a b:Int} (h0:0 ≤ a) (h1:a < 4294967296) (k0:0 ≤ b) (k1:b < 4294967296):eX n t a b = some (qo w a b):=by
  unfold eX qo
  rw [au (jg r.book h0 h1),cy (jg r.book k0 k1)]
  cases hg:aX w.B a with
  | false=>rfl
  | true =>
    cases hk:aX w.B b with
    | false=>rfl
    | true =>
      rw [ak (by rfl),lt_eq]
      unfold fh
      rw [au rfl,au (vu hn r tt ⟨k0,hk⟩)]
      exact Cu a _ _
end
end Go.Proofs.Ytmdpbdhkmfjlhaa
namespace Go.Proofs.Ytmdpbdhkmfjlhaa
open Go Go.Bw
theorem tB {α:Type} (l:List α):l = []∨∃i x,l = i++[x]:=by
  rcases l with _ | ⟨a,l⟩
  · exact .inl rfl
  · exact .inr ⟨(a::l).dropLast,(a::l).getLast (by simp),(List.dropLast_concat_getLast (by simp)).symm⟩
theorem fB {α:Type} [Inhabited α] {l:List α} {i:Nat} (h:i < l.length):l.getD i default = l[i]:=by rw [List.getD,List.getElem?_eq_getElem h]; rfl
theorem ID (d:Int→Option Bool) (p:Int→Bool) (l:List Int) (hd:∀x ∈ l,d x = some (p x)) (hl:l.length < 1000) (z:Option Int) {n:Nat} (hn:l.length < n) :
    ∃i:Nat,i ≤ l.length∧(∀x ∈ l.take i,p x = false)∧((i < l.length∧p (l.getD i default) = true∧dW (fun uN (bT:Int) =>
  cn (decide (bT < (l.length:Int))) (
  gu (dj bT l.length) <|
  bd (d (l.getD (Int.toNat bT) default)) fun c9 =>
  cn (c9) (
  some bT) (
  uN (wr .i64 (bT + 1)))) z) n 0 = some (i:Int))∨(i = l.length∧dW (fun uN (bT:Int) =>
  cn (decide (bT < (l.length:Int))) (
  gu (dj bT l.length) <|
  bd (d (l.getD (Int.toNat bT) default)) fun c9 =>
  cn (c9) (
  some bT) (
  uN (wr .i64 (bT + 1)))) z) n 0 = z)):=by
  refine gJ (fun (x:Int)=>∃k:Nat,x = k∧k ≤ l.length∧∀x ∈ l.take k,p x = false) (fun x=>l.length - x.toNat) (fun o=>∃i:Nat,i ≤ l.length∧(∀x ∈ l.take i,p x = false)∧((i < l.length∧p (l.getD i default) = true∧o = some (i:Int))∨(i = l.length∧o = z))) ?_ n 0 ⟨0,rfl,by omega,by simp⟩ (by omega)
  rintro kk x ⟨k,rfl,hk,hp⟩ ih
  by_cases c:k < l.length
  · have hm:l.getD k default ∈ l:=fS c
    rw [aA (decide_eq_true (by omega)),aB (cC (by omega) (by omega)),Int.toNat_natCast,au (hd _ hm)]
    cases hb:p (l.getD k default) with
    | true=>rw [aA rfl]; exact ⟨k,hk,hp, .inl ⟨c,hb,rfl⟩⟩
    | false =>
      rw [ak rfl,bP (by omega) (by omega)]
      refine ih _ ⟨k + 1,by omega,by omega,fun y hy=>?_⟩ (by omega)
      rw [List.take_succ_eq_append_getElem c,List.mem_append,List.mem_singleton] at hy
      rcases hy with hy | hy
      · exact hp y hy
      · rw [hy,← fB c]; exact hb
  · rw [ak (decide_eq_false (by omega))]
    exact ⟨k,hk,hp, .inr ⟨by omega,rfl⟩⟩
theorem Kb (d:Int→Option Bool) (p:Int→Bool) (l:List Int) (hd:∀x ∈ l,d x = some (p x)) (hl:l.length < 1000) {i:Nat} (hi:i < l.length) (hp:p (l.getD i default) = true) (h0:∀x ∈ l.take i,p x = false) {n:Nat} (hn:l.length < n) :
    jG (fun Fa (eE:(List Int)) (bW:Int) (dy:Int) =>
  cn (decide (dy < (eE.length:Int))) (
  gu (dj dy eE.length) <|
  bd (d (eE.getD (Int.toNat dy) default)) fun ij =>
  cn ((!ij)) (
  gu (dj bW eE.length) <|
  lt ((eE.set (Int.toNat bW) (eE.getD (Int.toNat dy) default)):List Int) fun fx =>
  Fa fx (wr .i64 (bW + 1)) (wr .i64 (dy + 1))) (
  Fa eE bW (wr .i64 (dy + 1)))) (
  gu (dj bW (eE.length + 1)) <|
  lt (eE.take (Int.toNat bW)++List.replicate (eE.length - (Int.toNat bW)) 0:List Int) fun bR =>
  gu (dj bW (bR.length + 1)) <|
  lt (bR.take (Int.toNat bW):List Int) fun mw =>
  some mw)) n l (i:Int) (wr .i64 ((i:Int) + 1)) = some (l.filter fun x=>!p x):=by
  rw [bP (by omega) (by omega)]
  have JG:(l.take i).filter (fun x=>!p x) = l.take i:=List.filter_eq_self.2 fun x hx=>by rw [h0 x hx]; rfl
  have Mv:(l.take (i + 1)).filter (fun x=>!p x) = l.take i:=by
    rw [List.take_succ_eq_append_getElem hi,List.filter_append,JG,← fB hi]
    generalize l.getD i default = y at hp
    simp [hp]
  refine kK (fun (s:List Int) (a b:Int)=>∃u v:Nat,a = u∧b = v∧u < v∧v ≤ l.length∧s.length = l.length∧s.drop v = l.drop v∧s.take u = (l.take v).filter fun x=>!p x) (fun _ _ b=>l.length - b.toNat) (fun o=>o = some (l.filter fun x=>!p x)) ?_ n l i ((i:Int) + 1) ⟨i,i + 1,rfl,by omega,by omega,by omega,rfl,rfl,Mv.symm⟩ (by omega)
  rintro kk s a b ⟨u,v,rfl,rfl,huv,hv,hs,h1,h2⟩ ih
  by_cases c:v < l.length
  · have e1:s.getD v default = l.getD v default:=by
      have:=congrArg (fun q:List Int=>q[0]?) h1
      simp only [List.getElem?_drop,Nat.add_zero] at this
      rw [List.getD,List.getD,this]
    have hm:l.getD v default ∈ l:=fS c
    rw [aA (decide_eq_true (by omega)),aB (cC (by omega) (by omega)),Int.toNat_natCast,e1,au (hd _ hm),bP (x:=(v:Int) + 1) (by omega) (by omega)]
    have KY:∀q:List Int,q.drop v = l.drop v→q.drop (v + 1) = l.drop (v + 1):=fun q hq=>by
      rw [← List.drop_drop,← List.drop_drop,hq]
    have ht:(l.take (v + 1)).filter (fun x=>!p x) = (l.take v).filter (fun x=>!p x)++(if p (l.getD v default) = true then [] else [l.getD v default]):=by
      rw [List.take_succ_eq_append_getElem c,List.filter_append,← fB c]
      generalize l.getD v default = y
      cases hy:p y <;> simp [hy]
    cases hb:p (l.getD v default) with
    | true =>
      rw [ak (b:=!true) rfl]
      exact ih _ _ _ ⟨u,v + 1,rfl,by omega,by omega,by omega,hs,KY _ h1,by rw [ht,hb,h2]; simp⟩ (by omega)
    | false =>
      rw [aA (b:=!false) rfl,aB (cC (by omega) (by omega)),lt_eq,Int.toNat_natCast,bP (x:=(u:Int) + 1) (by omega) (by omega)]
      refine ih _ _ _ ⟨u + 1,v + 1,by omega,by omega,by omega,by omega,by rw [List.length_set]; exact hs,KY _ (by rw [List.drop_set_of_lt huv]; exact h1),?_⟩ (by omega)
      rw [ht,hb,← h2]
      have Mb:u < (s.set u (l.getD v default)).length:=by rw [List.length_set]; omega
      rw [List.take_succ_eq_append_getElem Mb,List.getElem_set_self,List.take_set_of_le (Nat.le_refl u)]
      rfl
  · obtain rfl:v = l.length:=by omega
    have Fw:(s.take u).length = u:=by rw [List.length_take]; omega
    rw [ak (decide_eq_false (by omega)),aB (cC (by omega) (by omega)),lt_eq,Int.toNat_natCast,aB (cC (by omega) (by simp; omega)),lt_eq]
    rw [List.take_append_of_le_length (by omega),List.take_of_length_le (by omega),h2,List.take_length]
section
variable {n:Nat} {t:aj} {w:ag}
theorem E5 (hn:100 ≤ n) (r:fu t w) {a:Int} (h0:0 ≤ a) (h1:a < 4294967296):ji n t a = some (rQ w a):=by
  unfold ji rQ
  rw [au (jg r.book h0 h1)]
  cases hg:aX w.B a with
  | false=>rfl
  | true =>
    have hm:=bJ r.book
    have hlen:=ff w.B 32
    rw [ak (b:=!true) rfl,if_pos rfl,au (A5 (by omega) r)]
    have hd:∀x ∈ Gw w,eH n x t a = some (cg w x != a):=fun x hx=>by
      have hx:=(hm x).1 hx
      unfold eH
      rw [au (rX r hx.1 (eB hx.2)),if_pos hx.2]; rfl
    have hk:fI (Gw w) (cg w) a = (Gw w).filter fun x=>!(cg w x != a):=by
      unfold fI; congr 1; funext x; simp [bne]
    unfold cj cr
    obtain ⟨i,i1,i2,i3⟩:=ID (n:=n) (fun x=>eH n x t a) (fun x=>cg w x != a) (Gw w) hd (by show (bB w.B 32).length < 1000; omega) (some (-1)) (by show (bB w.B 32).length < n; omega)
    rcases i3 with ⟨q1,q2,q3⟩ | ⟨q1,q3⟩
    · have:=Kb (n:=n) (fun x=>eH n x t a) (fun x=>cg w x != a) (Gw w) hd (by show (bB w.B 32).length < 1000; omega) q1 q2 i2 (by show (bB w.B 32).length < n; omega)
      rw [au q3,ak (by simp)]
      refine (au this).trans ?_
      rw [hk]
    · rw [au q3,aA (by rfl)]
      refine (au rfl).trans ?_
      rw [hk]
      rw [q1,List.take_length] at i2
      exact congrArg some (List.filter_eq_self.2 fun x hx=>by have:=i2 x hx; simp only [this]; rfl).symm
theorem H9 {l:List Int} (hl:l.length < 1000) (hn:l.length < n):ez n l = some l.reverse:=by
  unfold ez
  rw [bP (by omega) (by omega)]
  refine kK (fun (s:List Int) (a b:Int)=>∃u:Nat,a = u∧b = (l.length:Int) - 1 - u∧s.length = l.length∧u ≤ l.length∧∀k,k < l.length→s.getD k default = if k < u∨l.length ≤ k + u then l.getD (l.length - 1 - k) default else l.getD k default) (fun _ _ b=>(b + 1).toNat) (fun o=>o = some l.reverse) ?_ n l 0 ((l.length:Int) - 1) ⟨0,rfl,by omega,rfl,by omega,fun k hk=>by rw [if_neg (by omega)]⟩ (by omega)
  rintro kk s a b ⟨u,rfl,rfl,hs,hu,hq⟩ ih
  by_cases c:2 * u + 1 < l.length
  · have e2:((l.length:Int) - 1 - u).toNat = l.length - 1 - u:=by omega
    rw [aA (decide_eq_true (by omega)),aB (cC (by omega) (by omega)),aB (cC (by omega) (by omega)),aB (cC (by omega) (by omega)),lt_eq,aB (cC (by omega) (by rw [List.length_set]; omega)),lt_eq,bP (x:=(u:Int) + 1) (by omega) (by omega),bP (x:=(l.length:Int) - 1 - u - 1) (by omega) (by omega),Int.toNat_natCast,e2]
    refine ih _ _ _ ⟨u + 1,by omega,by omega,by rw [List.length_set,List.length_set]; exact hs,by omega,fun k hk=>?_⟩ (by omega)
    have gs:∀(q:List Int) (i:Nat) (x:Int) (k:Nat),q.length = l.length→k < l.length→(q.set i x).getD k default = if i = k then x else q.getD k default:=fun q i x k h1 h2=>by
      rw [List.getD,List.getElem?_set]
      by_cases e:i = k
      · subst e; rw [if_pos rfl,if_pos (by omega),if_pos rfl]; rfl
      · rw [if_neg e,if_neg e,List.getD]
    have a1:=hq u (by omega)
    have a2:=hq (l.length - 1 - u) (by omega)
    rw [if_neg (by omega)] at a1 a2
    rw [gs _ _ _ _ (by rw [List.length_set]; exact hs) hk,gs _ _ _ _ hs hk,a1,a2,hq k hk]
    by_cases k1:l.length - 1 - u = k
    · rw [if_pos k1,if_pos (by omega)]; congr 1; omega
    · rw [if_neg k1]
      by_cases k2:u = k
      · rw [if_pos k2,if_pos (by omega)]; congr 1; omega
      · rw [if_neg k2]
        by_cases k3:k < u∨l.length ≤ k + u
        · rw [if_pos k3,if_pos (by omega)]
        · rw [if_neg k3,if_neg (by omega)]
  · rw [ak (decide_eq_false (by omega))]
    congr 1
    refine List.ext_getElem (by simp [hs]) fun k h1 h2=>?_
    have hk:k < l.length:=by omega
    rw [List.getElem_reverse,← fB h1,← fB (by omega),hq k hk]
    split
    · rfl
    · congr 1; omega
theorem pb (hn:100 ≤ n) (r:fu t w) (tt:gQ w) {a:Int} (ha:bh w.B a):eR n a t = some (V6 (Gw w) (cg w) a):=by
  obtain ⟨ρ,f⟩:=rY r tt
  have hm:=bJ r.book
  unfold eR
  have hv:=f.qG ((hm a).2 ha)
  refine (nW (fun s:List Int=>s.reverse.flatMap (V6 (Gw w) (cg w))) (fun s=>(∀x ∈ s,x ∈ Gw w)∧(s.reverse.flatMap (V6 (Gw w) (cg w))).length ≤ 32) (fun s=>(s.reverse.flatMap (V6 (Gw w) (cg w))).length) (fun k s hs ih=>?_) n [a] ⟨by simpa using (hm a).2 ha,by simpa using hv⟩ (by simp; omega)).trans (by simp)
  obtain ⟨hs,hlen⟩:=hs
  rcases tB s with rfl | ⟨i,x,rfl⟩
  · rfl
  · have hx:x ∈ Gw w:=hs x (by simp)
    have hxs:=(hm x).1 hx
    have e1:(i++[x]).reverse.flatMap (V6 (Gw w) (cg w)) = V6 (Gw w) (cg w) x++i.reverse.flatMap (V6 (Gw w) (cg w)):=by
      rw [List.reverse_append,List.reverse_singleton,List.singleton_append,List.flatMap_cons]
    have hge:∀q:List Int,(∀x ∈ q,x ∈ Gw w)→q.length ≤ (q.flatMap (V6 (Gw w) (cg w))).length:=fun q=>by
      induction q with
      | nil=>intro _; simp
      | cons b q ih =>
        intro hq
        have h1:=ih fun x hx=>hq x (by simp [hx])
        have h2:=f.rF (hq b (by simp))
        rw [List.flatMap_cons,List.length_append,h2,List.length_cons,List.length_cons]; omega
    have hi:=hge i.reverse fun y hy=>hs y (by simp at hy; simp [hy])
    rw [e1,List.length_append] at hlen
    have pN:i.length ≤ 32:=by rw [List.length_reverse] at hi; omega
    have ex:wr .i64 (((i++[x]).length:Int) - 1) = i.length:=by
      rw [List.length_append,List.length_singleton,bP (by omega) (by omega)]; omega
    have eg:(i++[x]).getD (Int.toNat (i.length:Int)) default = x:=by simp [List.getD]
    have hkn:rQ w x = fI (Gw w) (cg w) x:=by unfold rQ; rw [if_pos hxs.2]
    have Ml:(fI (Gw w) (cg w) x).length ≤ 32:=Nat.le_trans (List.length_filter_le _ _) f.len
    have hpos:0 < ((i++[x]).length:Int):=by rw [List.length_append,List.length_singleton]; omega
    rw [aA (decide_eq_true hpos),ex,aB (cC (by omega) (by simp; omega)),eg,au (E5 hn r hxs.1 (eB hxs.2)),hkn,au (H9 (by omega) (by omega)),aB (cC (by omega) (by simp; omega)),lt_eq]
    have et:(i++[x]).take (Int.toNat (i.length:Int)) = i:=by simp
    rw [et,aB (jC (by simp; omega) (by simp; omega)),lt_eq,e1,f.rF hx]
    have e2:(i++(fI (Gw w) (cg w) x).reverse).reverse.flatMap (V6 (Gw w) (cg w)) = (fI (Gw w) (cg w) x).flatMap (V6 (Gw w) (cg w))++i.reverse.flatMap (V6 (Gw w) (cg w)):=by
      rw [List.reverse_append,List.reverse_reverse,List.flatMap_append]
    have e3:=congrArg List.length (f.rF hx)
    rw [List.length_cons] at e3
    rw [ih _ ⟨fun y hy=>?_,by rw [e2,List.length_append]; omega⟩ (by rw [e2,e1,List.length_append,List.length_append]; omega),e2]
    · rfl
    · rcases List.mem_append.1 hy with h | h
      · exact hs y (by simp [h])
      · exact (gn.1 (List.mem_reverse.1 h)).1
theorem Aw (l x:List Int) (h:x.length + l.length ≤ 1000):eU (fun (J9:Int) As (dz:(List Int)) =>
  lt (J9:Int) fun gB =>
  gu (jP dz.length 1 4) <|
  lt (dz++([gB]):List Int) fun ij =>
  As ij) (fun (dz:(List Int)) =>
  some dz) l x = some (x++l):=by
  induction l generalizing x with
  | nil=>simp [eU]
  | cons a l ih =>
    rw [List.length_cons] at h
    have e:jP x.length 1 4 = true:=jC (by omega) (by omega)
    have:=ih (x++[a]) (by simp; omega)
    refine Eq.trans ?_ (this.trans (by simp))
    show gu (jP x.length 1 4) _ = _
    rw [aB e]; rfl
theorem Ce (hn:100 ≤ n) (r:fu t w) (tt:gQ w) {a:Int} (h0:0 ≤ a) (h1:a < 4294967296):iE n t a = some (jU w a):=by
  unfold iE jU
  rw [au (jg r.book h0 h1)]
  cases hg:aX w.B a with
  | false=>rfl
  | true =>
    obtain ⟨ρ,f⟩:=rY r tt
    have hv:=f.qG ((bJ r.book a).2 ⟨h0,hg⟩)
    rw [ak (b:=!true) rfl,if_pos rfl]
    unfold fg cw bH
    rw [au rfl,au (pb hn r tt ⟨h0,hg⟩),au (Aw _ [] (by simp; omega))]
    rfl
end
end Go.Proofs.Ytmdpbdhkmfjlhaa
namespace Go.Proofs.Ytmdpbdhkmfjlhaa
open Go Go.Bw
section
variable {n:Nat} {t:aj} {w:ag}
theorem uH (hn:40 ≤ n) (r:fu t w) {x:Int} (hx:bh w.B x):lX n w x = some (cg w x):=by
  unfold lX; rw [au (uI hn r hx)]; rfl
theorem yc (hn:100 ≤ n) (r:fu t w) {a:Int} (h0:0 ≤ a):mR n w a = some (rQ w a):=by
  unfold mR
  have hm:=bJ r.book
  have hlen:=ff w.B 32
  rw [au (Aa (by omega) r)]
  refine dN (fun (s:List Int) (i:Int)=>∃k:Nat,i = k∧k ≤ (Gw w).length∧s = if aX w.B a = true then ((Gw w).take k).filter (fun y=>cg w y == a) else []) (fun _ i=>(Gw w).length - i.toNat) (fun o=>o = some (rQ w a)) ?_ n [] 0 ⟨0,rfl,by omega,by simp⟩ (by show (Gw w).length - (0:Int).toNat < n; have:(Gw w).length ≤ 32:=hlen; omega)
  rintro kk s i ⟨k,rfl,hk,rfl⟩ ih
  have hl:(Gw w).length ≤ 32:=hlen
  have hl' : (bB w.B 32).length = (Gw w).length:=rfl
  by_cases c:k < (Gw w).length
  · have hx:=(hm _).1 (fS (l:=Gw w) (i:=k) c)
    have Fy:∀q:Bool,(if q = true then ((Gw w).take k).filter (fun y=>cg w y == a) else []).length ≤ 32:=fun q=>by
      split
      · exact Nat.le_trans (List.length_filter_le _ _) (by rw [List.length_take]; omega)
      · simp
    rw [aA (decide_eq_true (by omega)),au (bM (by omega) r h0),aB (by rw [cC (i:=(k:Int)) (n:=(bB w.B 32).length) (by omega) (by omega)]; simp),Int.toNat_natCast,cy (uH (by omega) r hx),bP (x:=(k:Int) + 1) (by omega) (by omega)]
    have ht:((Gw w).take (k + 1)).filter (fun y=>cg w y == a) = ((Gw w).take k).filter (fun y=>cg w y == a)++(if cg w ((Gw w).getD k default) = a then [(Gw w).getD k default] else []):=by
      rw [List.take_succ_eq_append_getElem c,List.filter_append,← fB c]
      generalize (Gw w).getD k default = y
      by_cases hy:cg w y = a <;> simp [hy]
    have hs:=Fy (aX w.B a)
    cases hg:aX w.B a with
    | false =>
      rw [ak (by rfl)]
      exact ih _ _ ⟨k + 1,by omega,by omega,by rw [hg,if_neg (by decide),if_neg (by decide)]⟩ (by omega)
    | true =>
      rw [hg] at hs
      by_cases hu:cg w ((Gw w).getD k default) = a
      · rw [aA (show (true && ((bif true == true then cg w ((Gw w).getD k default) else default) == a)) = true by rw [hu]; simp),aB (cC (by omega) (by omega)),aB (jC (by omega) (by omega)),lt_eq]
        exact ih _ _ ⟨k + 1,by omega,by omega,by rw [hg,if_pos rfl,if_pos rfl,ht,if_pos hu]⟩ (by omega)
      · rw [ak (show (true && ((bif true == true then cg w ((Gw w).getD k default) else default) == a)) = false by simpa using hu)]
        exact ih _ _ ⟨k + 1,by omega,by omega,by rw [hg,if_pos rfl,if_pos rfl,ht,if_neg hu,List.append_nil]⟩ (by omega)
  · rw [ak (decide_eq_false (by omega))]
    unfold rQ fI
    rw [List.take_of_length_le (by omega)]
theorem wM (r:fu t w) (tt:gQ w):∀(m:Nat) {ρ:Int→Nat},Fo (Gw w) (cg w) ρ→∀a,a ∈ Gw w→132 - ρ a < m→fN m w a = some (V6 (Gw w) (cg w) a):=by
  have hm:=bJ r.book
  intro m
  induction m with
  | zero=>intro ρ f a ha h; omega
  | succ m ih =>
    intro ρ f a ha AJ
    have hr:=f.rk a ha
    have hg:=(hm a).1 ha
    unfold fN
    have hkn:rQ w a = fI (Gw w) (cg w) a:=by unfold rQ; rw [if_pos hg.2]
    rw [au (bM (by omega) r hg.1),hg.2,ak (b:=!true) rfl,au (yc (by omega) r hg.1),hkn]
    have hv:=f.rF ha
    have hvl:=f.qG ha
    have Ml:(fI (Gw w) (cg w) a).length ≤ 32:=Nat.le_trans (List.length_filter_le _ _) f.len
    refine dN (fun (s:List Int) (i:Int)=>∃k:Nat,i = k∧k ≤ (fI (Gw w) (cg w) a).length∧s = a::((fI (Gw w) (cg w) a).take k).flatMap (V6 (Gw w) (cg w))) (fun _ i=>(fI (Gw w) (cg w) a).length - i.toNat) (fun o=>o = some (V6 (Gw w) (cg w) a)) ?_ m [a] 0 ⟨0,rfl,by omega,rfl⟩ (by omega)
    rintro kk s i ⟨k,rfl,hk,rfl⟩ Fi
    by_cases c:k < (fI (Gw w) (cg w) a).length
    · have hx:=gn.1 (fS (l:=fI (Gw w) (cg w) a) (i:=k) c)
      have Nz:=f.Ct ha hx.1 hx.2
      have:=f.rk _ hx.1
      have ht:((fI (Gw w) (cg w) a).take (k + 1)).flatMap (V6 (Gw w) (cg w)) = ((fI (Gw w) (cg w) a).take k).flatMap (V6 (Gw w) (cg w))++V6 (Gw w) (cg w) ((fI (Gw w) (cg w) a).getD k default):=by
        rw [List.take_succ_eq_append_getElem c,List.flatMap_append,← fB c]; simp
      have hle:(((fI (Gw w) (cg w) a).take (k + 1)).flatMap (V6 (Gw w) (cg w))).length + 1 ≤ 32:=by
        have e:=congrArg List.length hv
        rw [List.length_cons,← List.take_append_drop (k + 1) (fI (Gw w) (cg w) a),List.flatMap_append,List.length_append] at e
        omega
      rw [ht,List.length_append] at hle
      rw [aA (decide_eq_true (by omega)),aB (cC (by omega) (by omega)),Int.toNat_natCast,au (ih f _ hx.1 (by omega)),aB (jC (by rw [List.length_cons]; omega) (by rw [List.length_cons]; omega)),lt_eq,bP (by omega) (by omega)]
      exact Fi _ _ ⟨k + 1,by omega,by omega,by rw [ht]; rfl⟩ (by omega)
    · rw [ak (decide_eq_false (by omega)),List.take_of_length_le (by omega),hv]
theorem rK (hn:200 ≤ n) (r:fu t w) (tt:gQ w) {a:Int} (h0:0 ≤ a):fN n w a = some (jU w a):=by
  unfold jU
  cases hg:aX w.B a with
  | false =>
    obtain ⟨m,rfl⟩ : ∃m,n = m + 1:=⟨n - 1,by omega⟩
    unfold fN; rw [au (bM (by omega) r h0),hg]; rfl
  | true =>
    obtain ⟨ρ,f⟩:=rY r tt
    have ha:=(bJ r.book a).2 ⟨h0,hg⟩
    rw [if_pos rfl]
    exact wM r tt n f a ha (by omega)
theorem z9 (r:fu t w) (tt:gQ w):∀(m:Nat) {ρ:Int→Nat},Fo (Gw w) (cg w) ρ→∀a,a ∈ Gw w→ρ a + 100 < m→eG m w a = some (1 + ((U6 (cg w) a).length:Int)):=by
  have hm:=bJ r.book
  intro m
  induction m with
  | zero=>intro ρ f a ha h; omega
  | succ m ih =>
    intro ρ f a ha AJ
    have hg:=(hm a).1 ha
    have hl:=f.xU ha
    unfold eG
    rw [au (bM (by omega) r hg.1),hg.2,ak (b:=!true) rfl,au (uH (by omega) r hg)]
    by_cases hu:cg w a = 0
    · have h0:eG m w 0 = some 0:=by
        obtain ⟨m,rfl⟩ : ∃k,m = k + 1:=⟨m - 1,by omega⟩
        unfold eG; rw [au (bM (by omega) r (by omega)),q8]; rfl
      rw [hu,au h0,f.u0 ha hu]; rfl
    · rw [au (ih f _ (f.zM ha hu) (by have:=f.dn a ha hu; omega))]
      rw [f.u1 ha hu,List.length_cons] at hl ⊢
      rw [bP (by omega) (by omega)]; congr 1; omega
theorem qO (hn:200 ≤ n) (r:fu t w) (tt:gQ w) {a:Int} (h0:0 ≤ a):eG n w a = some (fM w a):=by
  unfold fM
  cases hg:aX w.B a with
  | false =>
    obtain ⟨m,rfl⟩ : ∃m,n = m + 1:=⟨n - 1,by omega⟩
    unfold eG; rw [au (bM (by omega) r h0),hg]; rfl
  | true =>
    obtain ⟨ρ,f⟩:=rY r tt
    have ha:=(bJ r.book a).2 ⟨h0,hg⟩
    rw [if_pos rfl]
    exact z9 r tt n f a ha (by have:=f.rk a ha; omega)
theorem rL (hn:40 ≤ n) (r:fu t w) (tt:gQ w) (a:Int) {b:Int} (hb:bh w.B b):bQ n w a b = some ((U6 (cg w) b).contains a):=by
  obtain ⟨ρ,f⟩:=rY r tt
  have hm:=bJ r.book
  unfold bQ
  refine (nW (fun x=>if x = 0 then false else (U6 (cg w) x).contains a) (fun x=>x = 0∨bh w.B x) (fun x=>if x = 0 then 0 else ρ x + 1) (fun k x hx ih=>?_) n b (.inr hb) ?_).trans (by rw [if_neg (f.pos b ((hm b).2 hb))])
  · by_cases h0:x = 0
    · subst h0; rw [ak (by rfl)]; rfl
    · have hg:=hx.resolve_left h0
      have hG:=(hm x).2 hg
      have I6:=de x
      rw [aA (by simpa using h0),au (cS hn r.book hg.1),hg.2,if_pos rfl,aB (eO x),if_neg h0]
      show cn (cg w x == a) (some (a != 0)) (k (cg w x)) = _
      by_cases hu:cg w x = 0
      · rw [hu,f.u0 hG hu]
        by_cases ha:a = 0
        · subst ha; rw [aA (by rfl)]; rfl
        · rw [ak (by simpa using Ne.symm ha),ih 0 (.inl rfl) (by rw [if_pos rfl,if_neg h0]; omega)]; rfl
      · rw [f.u1 hG hu]
        by_cases ha:cg w x = a
        · rw [aA (by simpa using ha)]
          have:a ≠ 0:=ha ▸ hu
          rw [List.contains_cons,ha]; simp [this]
        · rw [ak (by simpa using ha),ih _ (.inr ((hm _).1 (f.zM hG hu))) (by rw [if_neg hu,if_neg h0]; have:=f.dn x hG hu; omega),if_neg hu,List.contains_cons]
          congr 1
          have:(a == cg w x) = false:=by simpa using Ne.symm ha
          rw [this,Bool.false_or]
  · have hp:=f.pos b ((hm b).2 hb)
    rw [if_neg hp]; have:=f.rk b ((hm b).2 hb); omega
theorem z7 (hn:200 ≤ n) (r:fu t w) (tt:gQ w) {a b:Int} (h0:0 ≤ a) (k0:0 ≤ b):jX n w a b = some (qo w a b):=by
  unfold jX qo
  rw [au (bM (by omega) r h0),cy (bM (by omega) r k0)]
  cases hg:aX w.B a with
  | false=>rfl
  | true =>
    cases hk:aX w.B b with
    | false=>rfl
    | true =>
      by_cases e:a = b
      · subst e; rw [pW (by simp)]; simp
      · refine (nx (by simpa using e) (rL (by omega) r tt a ⟨k0,hk⟩)).trans ?_
        rfl
theorem Au (d:Int→Option Int) (e:Option Int) (v:Int→Int) (c:Int) (hc:0 ≤ c∧c ≤ 1000) (he:e = some c) (l:List Int) (hd:∀x ∈ l,d x = some (v x)∧0 ≤ v x∧v x ≤ 1000) (x:Int) (h0:0 ≤ x∧x ≤ 5000) :
    eU (fun (AS:Int) Ar (eK:Int) =>
  lt (AS:Int) fun cR =>
  bd (d cR) fun ij =>
  bd e fun gj =>
  lt ((if eK < wr .i64 ((wr .i64 (ij - gj)) + 1) then wr .i64 ((wr .i64 (ij - gj)) + 1) else eK):Int) fun fx =>
  Ar fx) (fun (eK:Int) =>
  some eK) l x = some (l.foldl (fun m y=>max m (v y - c + 1)) x):=by
  subst he
  induction l generalizing x with
  | nil=>rfl
  | cons a l ih =>
    obtain ⟨a1,a2,a3⟩:=hd a (by simp)
    have e1:wr .i64 (v a - c) = v a - c:=bP (by omega) (by omega)
    have e2:wr .i64 (v a - c + 1) = v a - c + 1:=bP (by omega) (by omega)
    have key:=ih (fun y hy=>hd y (by simp [hy])) (max x (v a - c + 1)) (by omega)
    rw [List.foldl_cons,← key]
    show bd (d a) _ = _
    rw [au a1,au rfl,e1,e2]
    show eU _ _ l _ = _
    congr 1
    simp only [Int.max_def]
    split <;> split <;> omega
theorem y5 (v:Int→Int) (c:Int) (l:List Int) (x k:Int):k < l.foldl (fun m y=>max m (v y - c + 1)) x↔k < x∨∃y ∈ l,k < v y - c + 1:=by
  induction l generalizing x with
  | nil=>simp
  | cons a l ih =>
    rw [List.foldl_cons,ih]
    constructor
    · rintro (h | ⟨y,hy,h⟩)
      · rcases Int.lt_or_le k x with h1 | h1
        · exact .inl h1
        · exact .inr ⟨a,by simp,by omega⟩
      · exact .inr ⟨y,by simp [hy],h⟩
    · rintro (h | ⟨y,hy,h⟩)
      · exact .inl (by omega)
      · rcases List.mem_cons.1 hy with e | hy
        · subst e; exact .inl (by omega)
        · exact .inr ⟨y,hy,h⟩
end
end Go.Proofs.Ytmdpbdhkmfjlhaa
namespace Go.Proofs.Ytmdpbdhkmfjlhaa
open Go Go.Bw
def oI (w:ag):Prop:=∀g,bh w.B g→(0 ≤ (w.R (bI g)).bu∧(w.R (bI g)).bu ≤ 64)∧∀n,110 ≤ n→dm n (w.R (bI g)).E = some true
def Ah:bG:={ Up:=0,bu:=0,E:=bY,Cells:=(fun _=>0) }
def vi (w:ag) (h:Int):ag:=if aX w.B h = true then ⟨wF w.B h,fun j=>if j < 32∧(dX w.R (bI h) Ah j).Up = h then { dX w.R (bI h) Ah j with Up:=0 } else dX w.R (bI h) Ah j⟩ else w
theorem wN {n:Nat} (hn:40 ≤ n) (h:Int) (w:ag):di (fun BF (gV:Int) (lN:ag) =>
  cn (decide (gV < 32)) (
  gu (dj gV 32) <|
  cn ((((lN.R (Int.toNat gV)).Up) == h)) (
  gu (dj gV 32) <|
  lt ({ lN with R:=(dX lN.R (Int.toNat gV) ({ (lN.R (Int.toNat gV)) with Up:=0 })) }:ag) fun sR =>
  BF (wr .i64 (gV + 1)) sR) (
  BF (wr .i64 (gV + 1)) lN)) (
  some (lN,(0:Int)))) n 0 w = some (({ B:=w.B,R:=fun j=>if j < 32∧(w.R j).Up = h then { w.R j with Up:=0 } else w.R j }:ag),0):=by
  refine dN (fun (i:Int) (v:ag)=>0 ≤ i∧i ≤ 32∧v.B = w.B∧∀j,v.R j = if j < i.toNat∧(w.R j).Up = h then { w.R j with Up:=0 } else w.R j) (fun i _=>(32 - i).toNat)
    (fun o=>o = some (({ B:=w.B,R:=fun j=>if j < 32∧(w.R j).Up = h then { w.R j with Up:=0 } else w.R j }:ag),0)) ?_ n 0 w ⟨by omega,by omega,rfl,fun j=>by simp⟩ (by omega)
  rintro kk i v ⟨i0,i1,hb,hv⟩ ih
  by_cases c:i < 32
  · have hi:=hv i.toNat
    rw [if_neg (fun hh=>absurd hh.1 (Nat.lt_irrefl _))] at hi
    rw [aA (by simpa using c),aB (cC i0 (by omega)),hi,bP (x:=i + 1) (by omega) (by omega)]
    have e1:(i + 1).toNat = i.toNat + 1:=by omega
    have step:∀j,j ≠ i.toNat→(if j < i.toNat∧(w.R j).Up = h then { w.R j with Up:=0 } else w.R j) = (if j < (i + 1).toNat∧(w.R j).Up = h then { w.R j with Up:=0 } else w.R j):=fun j hj=>by
      by_cases hu:(w.R j).Up = h
      · by_cases hl:j < i.toNat
        · rw [if_pos ⟨hl,hu⟩,if_pos ⟨by omega,hu⟩]
        · rw [if_neg (fun hh=>hl hh.1),if_neg (fun hh=>by omega)]
      · rw [if_neg (fun hh=>hu hh.2),if_neg (fun hh=>hu hh.2)]
    by_cases hu:(w.R i.toNat).Up = h
    · rw [aA (by simpa using hu),aB (cC i0 (by omega)),lt_eq]
      refine ih _ _ ⟨by omega,by omega,hb,fun j=>?_⟩ (by omega)
      show dX v.R i.toNat _ j = _
      rw [bX]
      by_cases ej:j = i.toNat
      · subst ej; rw [if_pos rfl,if_pos ⟨by omega,hu⟩]
      · rw [if_neg ej,hv j,step j ej]
    · rw [ak (by simpa using hu)]
      refine ih _ _ ⟨by omega,by omega,hb,fun j=>?_⟩ (by omega)
      rw [hv j]
      by_cases ej:j = i.toNat
      · subst ej; rw [if_neg (fun hh=>hu hh.2),if_neg (fun hh=>hu hh.2)]
      · exact step j ej
  · rw [ak (by simpa using c)]
    have e:v = ({ B:=w.B,R:=fun j=>if j < 32∧(w.R j).Up = h then { w.R j with Up:=0 } else w.R j }:ag):=by
      obtain ⟨vb,vr⟩:=v
      congr 1
      funext j
      rw [show vr j = _ from hv j,show i.toNat = 32 by omega]
    rw [e]
section
variable {n:Nat} {t:aj} {w:ag}
theorem tn (hn:40 ≤ n) (r:fu t w) {h:Int} (h0:0 ≤ h):dM n w h = some (vi w h,if aX w.B h = true then 0 else 4):=by
  unfold dM vi
  have hr:=de h
  rw [au (cS hn r.book h0)]
  cases hg:aX w.B h with
  | false=>rfl
  | true =>
    rw [if_pos rfl,ak (by simp; omega),au (tj hn r.book h0),lt_eq,lt_eq,aB (eO h),lt_eq,if_pos rfl,if_pos rfl]
    exact wN (n:=n) hn h ⟨wF w.B h,dX w.R (bI h) Ah⟩
theorem BT (hn:40 ≤ n) (r:fu t w) (tt:gQ w) {h:Int} (h0:0 ≤ h) (h1:h < 4294967296) :
    ∃t',dk n t h = some (t',if aX w.B h = true then 0 else 4)∧fu t' (vi w h)∧gQ (vi w h):=by
  obtain ⟨t',w',e,e1,e2,k⟩:=GC hn r tt h0 h1
  obtain ⟨rfl,rfl⟩:=Prod.mk.inj (Option.some.inj (e2.symm.trans (tn hn r h0)))
  exact ⟨t',e1,k.rt,k.tt⟩
theorem pU (r:fu t w) {h:Int} (h0:0 ≤ h) (x:Int):bh (vi w h).B x↔bh w.B x∧x ≠ h:=by
  unfold vi
  cases hg:aX w.B h with
  | false =>
    rw [if_neg (by decide)]
    exact ⟨fun hx=>⟨hx,fun e=>by subst e; have:=hx.2; rw [hg] at this; cases this⟩,fun hx=>hx.1⟩
  | true=>rw [if_pos rfl]; exact rE r.book h0 x
theorem v7 (r:fu t w) {h:Int} (h0:0 ≤ h) {x:Int} (hx:bh (vi w h).B x):(vi w h).R (bI x) = if cg w x = h then { w.R (bI x) with Up:=0 } else w.R (bI x):=by
  obtain ⟨x1,x2⟩:=(pU r h0 x).1 hx
  unfold vi
  cases hg:aX w.B h with
  | false =>
    rw [if_neg (by decide)]
    split
    · rename_i hu
      have:h = 0∨bh w.B h:=by rw [← hu]; exact r.D8 x1
      rcases this with e | e
      · have:(w.R (bI x)).Up = 0:=hu.trans e
        rw [← this]
      · have:=e.2; rw [hg] at this; cases this
    · rfl
  | true =>
    rw [if_pos rfl]
    have hne:bI x ≠ bI h:=fun e=>x2 (by rw [← eA x1,← eA ⟨h0,hg⟩,e])
    dsimp only
    rw [iq _ _ hne]
    by_cases hu:cg w x = h
    · rw [if_pos hu,if_pos ⟨iw x,hu⟩]
    · rw [if_neg hu,if_neg (fun hh=>hu hh.2)]
theorem Dt (r:fu t w) {h:Int} (h0:0 ≤ h) {x:Int} (hx:bh (vi w h).B x):cg (vi w h) x = if cg w x = h then 0 else cg w x:=by
  unfold cg
  rw [v7 r h0 hx]
  show (if (w.R (bI x)).Up = h then _ else _:bG).Up = _
  split <;> rfl
theorem oI.drop (i:oI w) (r:fu t w) {h:Int} (h0:0 ≤ h):oI (vi w h):=fun g hg=>by
  have:=i g ((pU r h0 g).1 hg).1
  rw [v7 r h0 hg]
  split
  · exact this
  · exact this
def o9 (w:ag) (h a:Int):ag:={ w with R:=dX w.R (bI h) { w.R (bI h) with Up:=a } }
theorem qM (hn:40 ≤ n) (r:fu t w) (tt:gQ w) {h a:Int} (hh:bh w.B h) (ha:a = 0∨bh w.B a) (hno:¬ (a ≠ 0∧(a = h∨h ∈ U6 (cg w) a))):fc n w h a = some (o9 w h a,0):=by
  unfold fc o9
  have a0:0 ≤ a:=by rcases ha with e | e; omega; exact e.1
  have ok:yj w.B a = true:=by
    unfold yj
    rcases ha with e | e
    · rw [e]; rfl
    · rw [e.2,Bool.or_true]
  have e0:∀v:Bool,(((!true) == false) && v) = v:=fun v=>by cases v <;> rfl
  rw [au (bM hn r hh.1),cy (bM hn r a0),hh.2,e0,jb,ok,ak (by rfl)]
  have key:∀F:Bool→Option (ag × Int),(cl (((a != 0) == true) && ((a == h) == false)) (bQ n w h a) default fun dz=>F ((a != 0) && ((a == h) || dz))) = F false:=fun F=>by
    by_cases e:a = 0
    · subst e; rfl
    · have hg:=ha.resolve_left e
      have h1:a ≠ h:=fun q=>hno ⟨e, .inl q⟩
      have h2:(U6 (cg w) a).contains h = false:=by
        rw [← Bool.not_eq_true,List.contains_iff_mem]; exact fun q=>hno ⟨e, .inr q⟩
      have e1:(a == h) = false:=by simpa using h1
      rw [nx (by simp [e,h1]) (rL hn r tt h hg),h2,e1]; simp
  rw [key (fun v=>cn v (some (w,12)) (bd (bD n w.B h) fun bW =>
  gu (dj bW 32) <|
  lt ({ w with R:=(dX w.R (Int.toNat bW) ({ (w.R (Int.toNat bW)) with Up:=a })) }:ag) fun fa =>
  some (fa,0))),ak rfl,au (cS hn r.book hh.1),hh.2,if_pos rfl,aB (eO h)]
  rfl
theorem ye (hn:40 ≤ n) (r:fu t w) (tt:gQ w) {h a:Int} (hh:bh w.B h) (ha:a = 0∨bh w.B a) (hno:¬ (a ≠ 0∧(a = h∨h ∈ U6 (cg w) a))) :
    ∃t',cT n t h a = some (t',0)∧fu t' (o9 w h a)∧gQ (o9 w h a):=by
  have a0:0 ≤ a∧a < 4294967296:=by rcases ha with e | e; omega; exact ⟨e.1,eB e.2⟩
  obtain ⟨t',w',e,e1,e2,k⟩:=Cl hn r tt hh.1 (eB hh.2) a0.1 a0.2
  obtain ⟨rfl,rfl⟩:=Prod.mk.inj (Option.some.inj (e2.symm.trans (qM hn r tt hh ha hno)))
  exact ⟨t',e1,k.rt,k.tt⟩
theorem xS {h a x:Int} (hh:bh w.B h) (hx:bh w.B x):cg (o9 w h a) x = if x = h then a else cg w x:=by
  unfold cg o9
  dsimp only
  rw [bX]
  by_cases e:x = h
  · rw [if_pos e,if_pos (by rw [e])]
  · rw [if_neg e,if_neg (fun q=>e (by rw [← eA hx,← eA hh,q]))]
theorem oI.up (i:oI w) (h a:Int):oI (o9 w h a):=fun g hg=>by
  have:=i g hg
  unfold o9
  dsimp only
  rw [bX]
  split
  · rename_i e; rw [e] at this; exact this
  · exact this
def Cj (w:ag) (h:Int) (x:bG):ag:={ w with R:=dX w.R (bI h) { x with Up:=(w.R (bI h)).Up } }
theorem z6 (hn:40 ≤ n) (r:fu t w) {h:Int} (hh:bh w.B h) {x:bG} (hq:0 ≤ x.bu∧x.bu ≤ 64) (hm:dm n x.E = some true):gX n w h x = some (Cj w h x,0):=by
  unfold gX Cj
  have I6:=de h
  rw [au (cS (by omega) r.book hh.1),hh.2,if_pos rfl,ak (by simp; omega),cy hm]
  have e2:(decide (x.bu < 0) || decide (64 < x.bu)) = false:=by rw [Bool.or_eq_false_iff,decide_eq_false_iff_not,decide_eq_false_iff_not]; omega
  rw [e2,ak (by rfl),aB (eO h),lt_eq,aB (eO h),lt_eq]
  rfl
theorem H7 (hn:110 ≤ n) (r:fu t w) (tt:gQ w) {h:Int} (hh:bh w.B h) {p:br} {x:bG} (hx:uo p x) (hq:0 ≤ x.bu∧x.bu ≤ 64) (hm:dm n x.E = some true) :
    ∃t',ep n t h p = some (t',0)∧fu t' (Cj w h x)∧gQ (Cj w h x):=by
  obtain ⟨t',w',e,e1,e2,k⟩:=H8 hn r tt hh.1 (eB hh.2) hx
  obtain ⟨rfl,rfl⟩:=Prod.mk.inj (Option.some.inj (e2.symm.trans (z6 (by omega) r hh hq hm)))
  exact ⟨t',e1,k.rt,k.tt⟩
theorem oI.set (i:oI w) {h:Int} (hh:bh w.B h) {x:bG} (hq:x.bu = (w.R (bI h)).bu) (he:x.E = (w.R (bI h)).E):oI (Cj w h x):=fun g hg=>by
  have h1:=i g hg
  have h2:=i h hh
  unfold Cj
  dsimp only
  rw [bX]
  split
  · dsimp only; rw [hq,he]; exact h2
  · exact h1
theorem z8 (hn:40 ≤ n) (r:fu t w) {a q:Int} (ha:a = 0∨bh w.B a) (hq:0 ≤ q∧q ≤ 64) {f:Nat} (hf:nN w.B f) :
    dg n w a q = some (if f < 32 then (⟨fY w.B f,dX w.R f ⟨a,q,bY,fun _=>0⟩⟩,fJ f (w.B.gD f),0) else (w,0,7)):=by
  have a0:0 ≤ a:=by rcases ha with e | e; omega; exact e.1
  have ok:yj w.B a = true:=by
    unfold yj
    rcases ha with e | e
    · rw [e]; rfl
    · rw [e.2,Bool.or_true]
  unfold dg
  rw [cy (bM hn r a0),jb,ok,ak (b:=!true) rfl,ak (by simp; omega),au (ot hn r.book hf)]
  by_cases hl:f < 32
  · rw [if_pos hl,if_pos hl]
    have hr:=r.book.ic f hl
    obtain ⟨q1,q2,q3,q4,q5⟩:=kY (i:=f) (g:=w.B.gD f) (by omega) (by omega) hr.1 hr.2
    obtain ⟨b',i1,i2⟩:=tH (n:=n) hn r.book hf
    rw [if_pos hl] at i2
    have hnew:bh (fY w.B f) (fJ f (w.B.gD f)):=(g7 r.book hf hl _).2 (.inr rfl)
    have hfn:(gC (fJ f (w.B.gD f))).toNat = f:=by rw [q2]; omega
    rw [ak (by simp; omega),lt_eq]
    dsimp only
    rw [au (cS hn i2 (by omega)),hnew.2,if_pos rfl]
    show gu (dj (gC (fJ f (w.B.gD f))) 32) _ = _
    rw [aB (eO _),hfn]; rfl
  · rw [if_neg hl,if_neg hl]; rfl
end
end Go.Proofs.Ytmdpbdhkmfjlhaa
namespace Go.Proofs.Ytmdpbdhkmfjlhaa
open Go Go.Bw
abbrev er (w:ag) (l:List Int):ag:=l.foldl vi w
section
variable {n:Nat} {t:aj} {w:ag}
theorem y8 (l:List Int):∀{t:aj} {w:ag},fu t w→gQ w→oI w→(∀x ∈ l,0 ≤ x∧x < 4294967296)→(∃t',fu t' (er w l))∧gQ (er w l)∧oI (er w l)∧(∀y,bh (er w l).B y↔bh w.B y∧y ∉ l)∧(∀y,bh (er w l).B y→cg (er w l) y = if cg w y ∈ l then 0 else cg w y):=by
  induction l with
  | nil=>intro t w r tt i _; exact ⟨⟨t,r⟩,tt,i,fun y=>by simp,fun y _=>by simp⟩
  | cons x l ih =>
    intro t w r tt i hl
    have hx:=hl x (by simp)
    obtain ⟨t1,_,r1,Ht⟩:=BT (n:=40) (by omega) r tt hx.1 hx.2
    obtain ⟨a1,a2,a3,a4,a5⟩:=ih r1 Ht (i.drop r hx.1) fun y hy=>hl y (by simp [hy])
    refine ⟨a1,a2,a3,fun y=>?_,fun y hy=>?_⟩
    · refine (a4 y).trans ?_
      rw [pU r hx.1,List.mem_cons,not_or,and_assoc]
    · refine (a5 y hy).trans ?_
      rw [Dt r hx.1 ((a4 y).1 hy).1]
      by_cases e:cg w y = x
      · rw [if_pos e,if_pos (List.mem_cons.2 (.inl e))]; split <;> rfl
      · rw [if_neg e]
        by_cases e2:cg w y ∈ l
        · rw [if_pos e2,if_pos (List.mem_cons_of_mem _ e2)]
        · rw [if_neg e2,if_neg (fun h=>(List.mem_cons.1 h).elim e e2)]
theorem Ds (hn:100 ≤ n) (r:fu t w) (tt:gQ w) {l:List Int} (hl:∀x ∈ l,0 ≤ x∧x < 4294967296) (hlen:l.length ≤ 40):∃t',di (fun E7 (bR:Int) (kD:aj) =>
  cn (decide (bR < (l.length:Int))) (
  gu (dj bR l.length) <|
  bd (dk n kD (l.getD (Int.toNat bR) default)) fun vG =>
  E7 (wr .i64 (bR + 1)) vG.1) (
  some (kD,l,(0:Int)))) n 0 t = some (t',l,0)∧fu t' (er w l)∧gQ (er w l):=by
  refine dN (fun (i:Int) (t:aj)=>∃k:Nat,i = k∧k ≤ l.length∧fu t (er w (l.take k))∧gQ (er w (l.take k))) (fun i _=>l.length - i.toNat) (fun o=>∃t',o = some (t',l,0)∧fu t' (er w l)∧gQ (er w l)) ?_ n 0 t ⟨0,rfl,by omega,r,tt⟩ (by omega)
  rintro kk i t ⟨k,rfl,hk,r,tt⟩ ih
  by_cases c:k < l.length
  · have hx:=hl _ (fS (l:=l) (i:=k) c)
    obtain ⟨t1,e1,r1,Ht⟩:=BT (n:=n) (by omega) r tt hx.1 hx.2
    have et:vi (er w (l.take k)) (l.getD k default) = er w (l.take (k + 1)):=by
      rw [List.take_succ_eq_append_getElem c,← fB c,er,er,List.foldl_append]; rfl
    rw [et] at r1 Ht
    rw [aA (decide_eq_true (by omega)),aB (cC (by omega) (by omega)),Int.toNat_natCast,au e1,bP (by omega) (by omega)]
    exact ih _ _ ⟨k + 1,by omega,by omega,r1,Ht⟩ (by omega)
  · rw [ak (decide_eq_false (by omega))]
    rw [List.take_of_length_le (by omega)] at r tt
    exact ⟨t,rfl,r,tt⟩
theorem Dr (hn:100 ≤ n) (r:fu t w) (tt:gQ w) (i:oI w) {l:List Int} (hl:∀x ∈ l,0 ≤ x∧x < 4294967296) (hlen:l.length ≤ 40) {ρ:Type} (F:ag→Option ρ):di (fun E8 (cR:Int) (kA:ag) =>
  cn (decide (cR < (l.length:Int))) (
  gu (dj cR l.length) <|
  bd (dM n kA (l.getD (Int.toNat cR) default)) fun kD =>
  E8 (wr .i64 (cR + 1)) kD.1) (
  F kA)) n 0 w = F (er w l):=by
  refine dN (fun (i:Int) (v:ag)=>∃k:Nat,i = k∧k ≤ l.length∧v = er w (l.take k)) (fun i _=>l.length - i.toNat) (fun o=>o = F (er w l)) ?_ n 0 w ⟨0,rfl,by omega,rfl⟩ (by omega)
  rintro kk x v ⟨k,rfl,hk,rfl⟩ ih
  by_cases c:k < l.length
  · have hx:=hl _ (fS (l:=l) (i:=k) c)
    obtain ⟨⟨t1,r1⟩,_⟩:=y8 (l.take k) r tt i fun y hy=>hl y (List.mem_of_mem_take hy)
    rw [aA (decide_eq_true (by omega)),aB (cC (by omega) (by omega)),Int.toNat_natCast,au (tn (by omega) r1 hx.1),bP (by omega) (by omega)]
    exact ih _ _ ⟨k + 1,by omega,by omega,by rw [List.take_succ_eq_append_getElem c,← fB c,er,er,List.foldl_append]; rfl⟩ (by omega)
  · rw [ak (decide_eq_false (by omega)),List.take_of_length_le (by omega)]
theorem vJ (r:fu t w) (tt:gQ w) (a:Int):(∀x ∈ jU w a,bh w.B x)∧(jU w a).length ≤ 32:=by
  unfold jU
  cases hg:aX w.B a with
  | false=>exact ⟨fun x hx=>(by rw [if_neg (by decide)] at hx; cases hx),by simp⟩
  | true =>
    rw [if_pos rfl]
    by_cases h0:0 ≤ a
    · obtain ⟨ρ,f⟩:=rY r tt
      have ha:=(bJ r.book a).2 ⟨h0,hg⟩
      exact ⟨fun x hx=>(bJ r.book x).1 ((f.mG ha x).1 hx).1,f.qG ha⟩
    · exact absurd hg (by
        intro h
        have h3:=(fL.1 h).2.2
        have h4:=r.book.ic (bI a) (iw a)
        unfold bI at h4
        omega)
theorem s6 (r:fu t w) (tt:gQ w) (a:Int):∀x ∈ jU w a,0 ≤ x∧x < 4294967296:=fun x hx=>by
  have:=(vJ r tt a).1 x hx; exact ⟨this.1,eB this.2⟩
theorem zX (r:fu t w) (tt:gQ w) {a:Int} (h0:0 ≤ a):(jU w a).length = 0↔aX w.B a = false:=by
  unfold jU
  cases hg:aX w.B a with
  | false=>simp
  | true =>
    obtain ⟨ρ,f⟩:=rY r tt
    rw [if_pos rfl,f.rF ((bJ r.book a).2 ⟨h0,hg⟩)]; simp
theorem Gv (hn:200 ≤ n) (r:fu t w) (tt:gQ w) (i:oI w) {a:Int} (h0:0 ≤ a) (h1:a < 4294967296) :
    ∃t',jk n t a = some (t',jU w a,if aX w.B a = true then 0 else 4)∧pq n w a = some (er w (jU w a),jU w a,if aX w.B a = true then 0 else 4)∧fu t' (er w (jU w a))∧gQ (er w (jU w a)):=by
  have hr:=s6 r tt a
  have hl:=(vJ r tt a).2
  have hz:=zX r tt h0
  unfold jk pq
  rw [au (Ce (by omega) r tt h0 h1),au (rK (by omega) r tt h0)]
  have hR:=Dr (n:=n) (by omega) r tt i hr (by omega) fun v=>cn (((jU w a).length:Int) == 0) (some (v,([]:List Int),(4:Int))) (some (v,jU w a,0))
  cases hg:aX w.B a with
  | false =>
    have e:=List.length_eq_zero_iff.1 (hz.2 hg)
    rw [e] at hR ⊢
    exact ⟨t,by rw [aA (by rfl)]; rfl,hR,r,tt⟩
  | true =>
    have e:(((jU w a).length:Int) == 0) = false:=by
      have:(jU w a).length ≠ 0:=fun q=>by have:=hz.1 q; rw [hg] at this; cases this
      simpa using this
    obtain ⟨t',e1,e2,e3⟩:=Ds (n:=n) (by omega) r tt hr (by omega)
    rw [ak e]
    refine ⟨t',e1,?_,e2,e3⟩
    rw [hR,ak e]; rfl
def AW (L:List Int) (c0 c:Nat→Int):Nat→Int:=fun i=>if i < 8∧L.contains (c0 i) = true then 0 else c i
theorem GK {α ρ:Type} (get:α→Nat→Int) (put:α→Nat→α) (p:α) (c:Nat→Int) (d:Int→Option Bool) (L:List Int) (hd:∀i,i < 8→d (c i) = some (L.contains (c i))) (fin:(Nat→Int)→α) (h0:fin (get p) = p)
    (hput:∀g i,put (fin g) i = fin (dX g i 0)) (F:α→Option ρ) {m:Nat} (hm:10 ≤ m):di (fun BD (lP:Int) (mM:α) =>
  cn (decide (lP < 8)) (
  gu (dj lP 8) <|
  bd (d (c (Int.toNat lP))) fun sY =>
  cn (sY) (
  gu (dj lP 8) <|
  lt (put mM (Int.toNat lP)) fun wC =>
  BD (wr .i64 (lP + 1)) wC) (
  BD (wr .i64 (lP + 1)) mM)) (
  F mM)) m 0 p = F (fin (AW L c (get p))):=by
  refine dN (fun (i:Int) (v:α)=>∃k:Nat,i = k∧k ≤ 8∧v = fin (fun j=>if j < k∧L.contains (c j) = true then 0 else get p j)) (fun i _=>8 - i.toNat) (fun o=>o = F (fin (AW L c (get p)))) ?_ m 0 p ⟨0,rfl,by omega,by simp [h0]⟩ (by omega)
  rintro kk x v ⟨k,rfl,hk,rfl⟩ ih
  by_cases q:k < 8
  · rw [aA (decide_eq_true (by omega)),aB (cC (by omega) (by omega)),Int.toNat_natCast,au (hd k q),bP (by omega) (by omega)]
    have st:∀j,j ≠ k→(if j < k + 1∧L.contains (c j) = true then (0:Int) else get p j) = if j < k∧L.contains (c j) = true then 0 else get p j:=fun j hj=>by
      by_cases h1:L.contains (c j) = true
      · by_cases h2:j < k
        · rw [if_pos ⟨by omega,h1⟩,if_pos ⟨h2,h1⟩]
        · rw [if_neg (fun h=>by omega),if_neg (fun h=>h2 h.1)]
      · rw [if_neg (fun h=>h1 h.2),if_neg (fun h=>h1 h.2)]
    cases hc:L.contains (c k) with
    | true =>
      rw [aA rfl,aB (cC (by omega) (by omega)),lt_eq,hput]
      refine ih _ _ ⟨k + 1,by omega,by omega,?_⟩ (by omega)
      congr 1; funext j
      rw [bX]
      by_cases e:j = k
      · subst e; rw [if_pos rfl,if_pos ⟨by omega,hc⟩]
      · rw [if_neg e,st j e]
    | false =>
      rw [ak rfl]
      refine ih _ _ ⟨k + 1,by omega,by omega,?_⟩ (by omega)
      congr 1; funext j
      by_cases e:j = k
      · subst e; rw [if_neg (fun h=>by rw [hc] at h; exact absurd h.2 (by decide)),if_neg (fun h=>by rw [hc] at h; exact absurd h.2 (by decide))]
      · rw [st j e]
  · rw [ak (decide_eq_false (by omega))]
    obtain rfl:k = 8:=by omega
    rfl
def xj (w0:ag) (L:List Int) (v:ag) (x:Int):ag:={ v with R:=dX v.R (bI x) { v.R (bI x) with Cells:=AW L (w0.R (bI x)).Cells (v.R (bI x)).Cells } }
abbrev lz (w:ag) (L l:List Int):ag:=l.foldl (xj w L) w
theorem Dx (w0:ag) (L:List Int) (v:ag) (x y:Int):cg (xj w0 L v x) y = cg v y:=by
  unfold cg xj
  dsimp only
  rw [bX]
  split
  · rename_i e; rw [e]
  · rfl
theorem n9 (w0:ag) (L l:List Int):∀v:ag,(l.foldl (xj w0 L) v).B = v.B:=by
  induction l with
  | nil=>intro v; rfl
  | cons x l ih=>intro v; exact ih _
theorem AV (w0:ag) (L l:List Int) (y:Int):∀v:ag,cg (l.foldl (xj w0 L) v) y = cg v y:=by
  induction l with
  | nil=>intro v; rfl
  | cons x l ih=>intro v; exact (ih _).trans (Dx _ _ _ _ _)
theorem AL {B:az} {x y:Int} (hx:bh B x) (hy:bh B y) (e:bI x = bI y):x = y:=by rw [← eA hx,← eA hy,e]
end
end Go.Proofs.Ytmdpbdhkmfjlhaa
namespace Go.Proofs.Ytmdpbdhkmfjlhaa
open Go Go.Bw
section
variable {n:Nat} {t:aj} {w:ag}
theorem Ac (r:fu t w) (tt:gQ w) {h:Int} (hh:bh w.B h) {c:Int} (c0:0 ≤ c):((c != h) && qo w c h) = (U6 (cg w) h).contains c:=by
  obtain ⟨ρ,f⟩:=rY r tt
  have hG:=(bJ r.book h).2 hh
  unfold qo
  by_cases e:c = h
  · subst e
    have:(U6 (cg w) c).contains c = false:=by rw [← Bool.not_eq_true,List.contains_iff_mem]; exact f.By hG
    rw [this]; simp
  · have e1:(c != h) = true:=by simpa using e
    have e2:(c == h) = false:=by simpa using e
    rw [e1,e2,hh.2]
    cases hc:(U6 (cg w) h).contains c with
    | false=>simp
    | true =>
      have:=(bJ r.book c).1 (f.oo hG c (List.contains_iff_mem.1 hc)).1
      rw [this.2]; rfl
theorem Dw (hn:100 ≤ n) (r:fu t w) (tt:gQ w) {h:Int} (hh:bh w.B h) (s:Int) (hs:0 ≤ s∧s < 32) (v:ag) {ρ:Type} (F:ag→Option ρ) :
    di (fun BE (nj:Int) (mN:ag) =>
  cn (decide (nj < 8)) (
  gu (dj s 32) <|
  gu (dj nj 8) <|
  cl ((((w.R (Int.toNat s)).Cells (Int.toNat nj)) != 0) == true) (bQ n w ((w.R (Int.toNat s)).Cells (Int.toNat nj)) h) default fun B6 =>
  cn (((((w.R (Int.toNat s)).Cells (Int.toNat nj)) != 0) && B6)) (
  gu (dj s 32) <|
  gu (dj nj 8) <|
  lt ({ mN with R:=(dX mN.R (Int.toNat s) ({ (mN.R (Int.toNat s)) with Cells:=(dX ((mN.R (Int.toNat s)).Cells) (Int.toNat nj) 0) })) }:ag) fun Ew =>
  BE (wr .i64 (nj + 1)) Ew) (
  BE (wr .i64 (nj + 1)) mN)) (
  F mN)) n 0 v = F { v with R:=dX v.R s.toNat { v.R s.toNat with Cells:=AW (U6 (cg w) h) (w.R s.toNat).Cells (v.R s.toNat).Cells } }:=by
  obtain ⟨ρ',f⟩:=rY r tt
  have hG:=(bJ r.book h).2 hh
  have Je:dj s 32 = true:=cC hs.1 (by omega)
  have key:∀(c:Int) (G:Bool→Option ρ),(cl ((c != 0) == true) (bQ n w c h) default fun B6=>G ((c != 0) && B6)) = G ((U6 (cg w) h).contains c):=fun c G=>by
    by_cases e:c = 0
    · subst e
      have:(U6 (cg w) h).contains 0 = false:=by
        rw [← Bool.not_eq_true,List.contains_iff_mem]; exact fun q=>f.pos 0 (f.oo hG 0 q).1 rfl
      rw [this]; rfl
    · have e1:(c != 0) = true:=by simpa using e
      rw [nx (by rw [e1]; rfl) (rL (by omega) r tt c hh),e1,Bool.true_and]
  refine dN (fun (i:Int) (x:ag)=>∃k:Nat,i = k∧k ≤ 8∧x = { v with R:=dX v.R s.toNat { v.R s.toNat with Cells:=fun j=>if j < k∧(U6 (cg w) h).contains ((w.R s.toNat).Cells j) = true then 0 else (v.R s.toNat).Cells j } }) (fun i _=>8 - i.toNat)
    (fun o=>o = F { v with R:=dX v.R s.toNat { v.R s.toNat with Cells:=AW (U6 (cg w) h) (w.R s.toNat).Cells (v.R s.toNat).Cells } }) ?_ n 0 v ⟨0,rfl,by omega,?_⟩ (by omega)
  · rintro kk x y ⟨k,rfl,hk,rfl⟩ ih
    by_cases q:k < 8
    · have BM:dj (k:Int) 8 = true:=cC (by omega) (by omega)
      have st:∀j,j ≠ k→(if j < k + 1∧(U6 (cg w) h).contains ((w.R s.toNat).Cells j) = true then (0:Int) else (v.R s.toNat).Cells j) = if j < k∧(U6 (cg w) h).contains ((w.R s.toNat).Cells j) = true then 0 else (v.R s.toNat).Cells j:=fun j hj=>by
        by_cases h1:(U6 (cg w) h).contains ((w.R s.toNat).Cells j) = true
        · by_cases h2:j < k
          · rw [if_pos ⟨by omega,h1⟩,if_pos ⟨h2,h1⟩]
          · rw [if_neg (fun h=>by omega),if_neg (fun h=>h2 h.1)]
        · rw [if_neg (fun h=>h1 h.2),if_neg (fun h=>h1 h.2)]
      rw [aA (decide_eq_true (by omega)),aB Je,aB BM,Int.toNat_natCast,bP (x:=(k:Int) + 1) (by omega) (by omega)]
      refine (key _ (fun b=>cn b _ _)).trans ?_
      cases hc:(U6 (cg w) h).contains ((w.R s.toNat).Cells k) with
      | true =>
        rw [aA rfl,aB Je,aB BM,lt_eq]
        refine ih _ _ ⟨k + 1,by omega,by omega,?_⟩ (by omega)
        dsimp only
        rw [rG,lQ]
        congr 2
        congr 1
        funext j
        rw [bX]
        by_cases e:j = k
        · subst e; rw [if_pos rfl,if_pos ⟨by omega,hc⟩]
        · rw [if_neg e,st j e]
      | false =>
        rw [ak rfl]
        refine ih _ _ ⟨k + 1,by omega,by omega,?_⟩ (by omega)
        dsimp only
        congr 2
        congr 1
        funext j
        by_cases e:j = k
        · subst e; rw [if_neg (fun h=>by rw [hc] at h; exact absurd h.2 (by decide)),if_neg (fun h=>by rw [hc] at h; exact absurd h.2 (by decide))]
        · rw [st j e]
    · rw [ak (decide_eq_false (by omega))]
      obtain rfl:k = 8:=by omega
      rfl
  · have:(fun j=>if j < 0∧(U6 (cg w) h).contains ((w.R s.toNat).Cells j) = true then (0:Int) else (v.R s.toNat).Cells j) = (v.R s.toNat).Cells:=by funext j; simp
    rw [this]
    obtain ⟨vb,vr⟩:=v
    congr 1
    funext j
    rw [bX]
    split
    · rename_i e; rw [e]
    · rfl
theorem GH (hn:200 ≤ n) {t0:aj} {w0:ag} (r0:fu t0 w0) (KG:gQ w0) (i0:oI w0) {h:Int} (hh:bh w0.B h) (fin:aj→Option (aj × Int)) (l:List Int):∀{t:aj} {w:ag},fu t w→gQ w→oI w→w.B = w0.B→(∀x ∈ l,bh w.B x∧w.R (bI x) = w0.R (bI x))→l.Nodup →
    ∃t',eU (fun (J7:Int) IB (bR:aj) =>
  lt (J7:Int) fun ni =>
  bd (dc n bR ni) fun nR =>
  di (fun BD (lP:Int) (mM:br) =>
  cn (decide (lP < 8)) (
  gu (dj lP 8) <|
  bd (fO n (nR.1.Cells (Int.toNat lP)) h t0) fun sY =>
  cn (sY) (
  gu (dj lP 8) <|
  lt ({ mM with Cells:=(dX mM.Cells (Int.toNat lP) 0) }:br) fun wC =>
  BD (wr .i64 (lP + 1)) wC) (
  BD (wr .i64 (lP + 1)) mM)) (
  bd (ep n bR ni mM) fun B5 =>
  IB B5.1)) n 0 nR.1) fin l t = fin t'∧fu t' (l.foldl (xj w0 (U6 (cg w0) h)) w)∧gQ (l.foldl (xj w0 (U6 (cg w0) h)) w)∧oI (l.foldl (xj w0 (U6 (cg w0) h)) w):=by
  induction l with
  | nil=>intro t w r tt i _ _ _; exact ⟨t,rfl,r,tt,i⟩
  | cons x l ih =>
    intro t w r tt i hb hl hd
    obtain ⟨hx,hd⟩:=List.nodup_cons.1 hd
    obtain ⟨hg,hr⟩:=hl x (by simp)
    obtain ⟨l1,l2⟩:=dG hg
    have hR:=r.D9 _ l1 l2
    have hq:=i x hg
    have hc:∀k,k < 8→fO n ((nS t w x).Cells k) h t0 = some ((U6 (cg w0) h).contains ((nS t w x).Cells k)):=fun k hk=>by
      have e1:(nS t w x).Cells k = (w.R (bI x)).Cells k:=hR.c k hk
      have e2:=hR.c0 k hk
      rw [e1]
      unfold fO
      rw [cy (vO (by omega) r0 KG e2.1 (by omega) hh.1 (eB hh.2)),← Ac r0 KG hh e2.1]
      cases h3:((w.R (bI x)).Cells k != h) <;> rfl
    have hin:=fun F:br→Option (aj × Int)=>GK (fun v:br=>v.Cells) (fun v k=>{ v with Cells:=dX v.Cells k 0 }) (nS t w x) (nS t w x).Cells (fun c=>fO n c h t0) (U6 (cg w0) h) hc (fun g=>{ nS t w x with Cells:=g }) rfl (fun _ _=>rfl) F (m:=n) (by omega)
    have hp:uo { nS t w x with Cells:=AW (U6 (cg w0) h) (nS t w x).Cells (nS t w x).Cells } { w.R (bI x) with Cells:=AW (U6 (cg w0) h) (w0.R (bI x)).Cells (w.R (bI x)).Cells }:=by
      refine ⟨hR.q,hR.e,hR.n,hR.r,fun k hk=>?_,fun k hk=>?_⟩
      · show (if k < 8∧(U6 (cg w0) h).contains ((nS t w x).Cells k) = true then 0 else (nS t w x).Cells k) = if k < 8∧(U6 (cg w0) h).contains ((w0.R (bI x)).Cells k) = true then 0 else (w.R (bI x)).Cells k
        have e1:(nS t w x).Cells k = (w.R (bI x)).Cells k:=hR.c k hk
        rw [e1,← hr]
      · have:=hR.c0 k hk
        show 0 ≤ (if k < 8∧(U6 (cg w0) h).contains ((w0.R (bI x)).Cells k) = true then 0 else (w.R (bI x)).Cells k)∧(if k < 8∧(U6 (cg w0) h).contains ((w0.R (bI x)).Cells k) = true then 0 else (w.R (bI x)).Cells k) ≤ 4294967295
        split
        · decide
        · exact this
    obtain ⟨t1,s1,s2,s3⟩:=H7 (n:=n) (by omega) r tt hg hp hq.1 (hq.2 n (by omega))
    have et:Cj w x { w.R (bI x) with Cells:=AW (U6 (cg w0) h) (w0.R (bI x)).Cells (w.R (bI x)).Cells } = xj w0 (U6 (cg w0) h) w x:=rfl
    rw [et] at s2 s3
    have si:oI (xj w0 (U6 (cg w0) h) w x):=i.set hg (x:={ w.R (bI x) with Cells:=AW (U6 (cg w0) h) (w0.R (bI x)).Cells (w.R (bI x)).Cells }) rfl rfl
    have oB:∀y ∈ l,bh (xj w0 (U6 (cg w0) h) w x).B y∧(xj w0 (U6 (cg w0) h) w x).R (bI y) = w0.R (bI y):=fun y hy=>by
      obtain ⟨y1,y2⟩:=hl y (by simp [hy])
      refine ⟨y1,?_⟩
      rw [← y2]
      unfold xj
      exact iq _ _ (fun q=>hx (by rw [AL hg y1 q.symm]; exact hy))
    obtain ⟨t',q1,q2,q3,q4⟩:=ih s2 s3 si hb oB hd
    refine ⟨t',?_,q2,q3,q4⟩
    refine Eq.trans ?_ q1
    show bd (dc n t x) _ = _
    rw [au (rX r hg.1 (eB hg.2)),if_pos hg.2]
    refine (hin _).trans ?_
    rw [au s1]
theorem GF (hn:200 ≤ n) (r:fu t w) (tt:gQ w) {h:Int} (hh:bh w.B h) {l:List Int} (hl:∀x ∈ l,bh w.B x) (hlen:l.length ≤ 40) {ρ:Type} (F:ag→Option ρ) :
    di (fun IA (g5:Int) (bR:ag) =>
  cn (decide (g5 < (l.length:Int))) (
  gu (dj g5 l.length) <|
  bd (bD n w.B (l.getD (Int.toNat g5) default)) fun ni =>
  di (fun BE (nj:Int) (mN:ag) =>
  cn (decide (nj < 8)) (
  gu (dj ni 32) <|
  gu (dj nj 8) <|
  cl ((((w.R (Int.toNat ni)).Cells (Int.toNat nj)) != 0) == true) (bQ n w ((w.R (Int.toNat ni)).Cells (Int.toNat nj)) h) default fun B6 =>
  cn (((((w.R (Int.toNat ni)).Cells (Int.toNat nj)) != 0) && B6)) (
  gu (dj ni 32) <|
  gu (dj nj 8) <|
  lt ({ mN with R:=(dX mN.R (Int.toNat ni) ({ (mN.R (Int.toNat ni)) with Cells:=(dX ((mN.R (Int.toNat ni)).Cells) (Int.toNat nj) 0) })) }:ag) fun Ew =>
  BE (wr .i64 (nj + 1)) Ew) (
  BE (wr .i64 (nj + 1)) mN)) (
  IA (wr .i64 (g5 + 1)) mN)) n 0 bR) (
  F bR)) n 0 w = F (lz w (U6 (cg w) h) l):=by
  refine dN (fun (i:Int) (v:ag)=>∃k:Nat,i = k∧k ≤ l.length∧v = lz w (U6 (cg w) h) (l.take k)) (fun i _=>l.length - i.toNat) (fun o=>o = F (lz w (U6 (cg w) h) l)) ?_ n 0 w ⟨0,rfl,by omega,rfl⟩ (by omega)
  rintro kk x v ⟨k,rfl,hk,rfl⟩ ih
  by_cases c:k < l.length
  · have hx:=hl _ (fS (l:=l) (i:=k) c)
    rw [aA (decide_eq_true (by omega)),aB (cC (by omega) (by omega)),Int.toNat_natCast,au (cS (by omega) r.book hx.1),hx.2,if_pos rfl,Dw (by omega) r tt hh _ (by have:=de (l.getD k default); omega),bP (by omega) (by omega)]
    exact ih _ _ ⟨k + 1,by omega,by omega,by rw [List.take_succ_eq_append_getElem c,← fB c,lz,lz,List.foldl_append]; rfl⟩ (by omega)
  · rw [ak (decide_eq_false (by omega)),List.take_of_length_le (by omega)]
def lH (w:ag) (h:Int):ag:=if aX w.B h = true then o9 (lz w (U6 (cg w) h) (V6 (Gw w) (cg w) h)) h 0 else w
theorem Kg (hn:200 ≤ n) (r:fu t w) (tt:gQ w) (i:oI w) {h:Int} (h0:0 ≤ h) (h1:h < 4294967296) :
    ∃t',j1 n t h = some (t',if aX w.B h = true then 0 else 4)∧qQ n w h = some (lH w h,if aX w.B h = true then 0 else 4)∧fu t' (lH w h)∧gQ (lH w h)∧oI (lH w h):=by
  unfold j1 qQ lH
  rw [au (jg r.book h0 h1),au (bM (by omega) r h0)]
  cases hg:aX w.B h with
  | false =>
    simp only [Bool.false_eq_true,if_false]
    exact ⟨t,rfl,rfl,r,tt,i⟩
  | true =>
    rw [if_pos rfl,if_pos rfl]
    have hh:bh w.B h:=⟨h0,hg⟩
    obtain ⟨ρ,f⟩:=rY r tt
    have hm:=bJ r.book
    have hG:=(hm h).2 hh
    have hu:jU w h = V6 (Gw w) (cg w) h:=by unfold jU; rw [if_pos hg]
    have hl:∀x ∈ V6 (Gw w) (cg w) h,bh w.B x:=fun x hx=>(hm x).1 ((f.mG hG x).1 hx).1
    rw [ak (b:=!true) rfl,ak (b:=!true) rfl]
    unfold fg
    rw [au rfl,au (pb (by omega) r tt hh),au (rK (by omega) r tt h0),hu]
    obtain ⟨t1,a1,a2,a3,a4⟩:=GH (n:=n) hn r tt i hh (fun bR=>bd (cT n bR h 0) fun sQ=>some (sQ.1,sQ.2)) (V6 (Gw w) (cg w) h) r tt i rfl (fun x hx=>⟨hl x hx,rfl⟩) (f.Ez hG)
    have hb:(lz w (U6 (cg w) h) (V6 (Gw w) (cg w) h)).B = w.B:=n9 _ _ _ _
    have Mt:bh (lz w (U6 (cg w) h) (V6 (Gw w) (cg w) h)).B h:=by rw [hb]; exact hh
    obtain ⟨t2,b1,b2,b3⟩:=ye (n:=n) (by omega) a2 a3 Mt (a:=0) (.inl rfl) (fun q=>q.1 rfl)
    refine ⟨t2,?_,?_,b2,b3,a4.up h 0⟩
    · refine a1.trans ?_
      rw [au b1]
    · refine (GF (n:=n) hn r tt hh hl (by have:=f.qG hG; omega) _).trans ?_
      generalize lz w (U6 (cg w) h) (V6 (Gw w) (cg w) h) = v
      rw [au (cS (by omega) r.book h0),hg,if_pos rfl,aB (eO h)]
      rfl
end
end Go.Proofs.Ytmdpbdhkmfjlhaa
namespace Go.Proofs.Ytmdpbdhkmfjlhaa
open Go Go.Bw
section
variable {G:List Int} {up up' : Int→Int} {ρ ρ' : Int→Nat}
theorem Fo.J0 (f:Fo G up ρ) (f' : Fo G up' ρ') {h a:Int} (Ed:∀x ∈ G,up' x = if x = h then a else up x) (ha:a ≠ 0) (h0:up h = 0):∀y ∈ G,U6 up' y = if y = h∨h ∈ U6 up y then U6 up y++(a::U6 up' a) else U6 up y:=by
  refine f.uz _ fun y hy ih=>?_
  have hu:=Ed y hy
  by_cases e:y = h
  · subst e
    rw [if_pos rfl] at hu
    rw [if_pos (.inl rfl),f.u0 hy h0,f'.u1 hy (by rw [hu]; exact ha),hu]; rfl
  · rw [if_neg e] at hu
    by_cases e0:up y = 0
    · rw [f'.u0 hy (hu.trans e0),f.u0 hy e0,if_neg (fun q=>q.elim e (by simp))]
    · have hi:=ih e0
      rw [f'.u1 hy (by rw [hu]; exact e0),hu,hi,f.u1 hy e0]
      by_cases q:up y = h∨h ∈ U6 up (up y)
      · rw [if_pos q,if_pos (.inr (List.mem_cons.2 (q.imp Eq.symm _root_.id)))]; rfl
      · rw [if_neg q,if_neg (fun p=>p.elim e fun p=>q ((List.mem_cons.1 p).imp Eq.symm _root_.id))]
theorem Fo.JZ (f:Fo G up ρ) (f' : Fo G up' ρ') {h a:Int} (Ed:∀x ∈ G,up' x = if x = h then a else up x) (hh:h ∈ G) (h0:up h = 0) (hno:¬ (a = h∨h ∈ U6 up a)):∀x ∈ G,(x = h∨h ∈ U6 up x)→V6 G up' x = V6 G up x:=by
  refine f.Du _ fun x hx ih hv=>?_
  have hk:fI G up' x = fI G up x:=by
    unfold fI
    refine List.filter_congr fun y hy=>?_
    rw [Ed y hy]
    by_cases e:y = h
    · subst e
      have e1:(a == x) = false:=by
        simp only [beq_eq_false_iff_ne,ne_eq]
        exact fun q=>hno (by rw [q]; exact hv)
      have e2:(up y == x) = false:=by
        rw [h0]; simp only [beq_eq_false_iff_ne,ne_eq]; exact fun q=>f.pos x hx q.symm
      rw [if_pos rfl,e1,e2]
    · rw [if_neg e]
  rw [f.rF hx,f'.rF hx,hk]
  congr 1
  refine m7 fun y hy=>?_
  obtain ⟨y1,y2⟩:=gn.1 hy
  refine ih y y1 y2 (.inr ?_)
  rw [f.u1 y1 (by rw [y2]; exact f.pos x hx),y2]
  exact List.mem_cons.2 (hv.imp Eq.symm _root_.id)
end
section
variable {n:Nat} {t:aj} {w:ag}
theorem r9 (r:fu t w) (tt:gQ w) (x:Int):0 ≤ fM w x∧fM w x ≤ 33:=by
  unfold fM
  by_cases hg:aX w.B x = true
  · rw [if_pos hg]
    by_cases h0:0 ≤ x
    · obtain ⟨ρ,f⟩:=rY r tt
      have:=f.xU ((bJ r.book x).2 ⟨h0,hg⟩); omega
    · have h3:=(fL.1 hg).2.2
      have h4:=r.book.ic (bI x) (iw x)
      unfold bI at h4; omega
  · rw [if_neg hg]; omega
theorem EF (hn:200 ≤ n) (r:fu t w) (tt:gQ w) {h:Int} (hh:bh w.B h):∃m,jh n t h = some m∧0 ≤ m∧m ≤ 34∧∀k,0 ≤ k→(k < m↔∃y ∈ V6 (Gw w) (cg w) h,k < fM w y - fM w h + 1):=by
  obtain ⟨ρ,f⟩:=rY r tt
  have hm:=bJ r.book
  have hG:=(hm h).2 hh
  have hd:=fun x=>r9 r tt x
  unfold jh fg
  rw [au rfl,au (pb (by omega) r tt hh)]
  have hl:∀x ∈ V6 (Gw w) (cg w) h,dA n t x = some (fM w x)∧0 ≤ fM w x∧fM w x ≤ 1000:=fun x hx=>by
    have hx:=(hm x).1 ((f.mG hG x).1 hx).1
    have:=hd x
    exact ⟨r8 (by omega) r tt hx.1 (eB hx.2),by omega,by omega⟩
  have key:=Au (fun x=>dA n t x) (dA n t h) (fM w) (fM w h) (by have:=hd h; omega) (r8 (by omega) r tt hh.1 (eB hh.2)) (V6 (Gw w) (cg w) h) hl 0 (by omega)
  have hf:=y5 (fM w) (fM w h) (V6 (Gw w) (cg w) h) 0
  have Ms:1 ≤ fM w h:=by unfold fM; rw [if_pos hh.2]; omega
  refine ⟨_,key,?_,?_,fun k hk=>(hf k).trans ⟨fun q=>q.resolve_left (by omega), .inr⟩⟩
  · have:=(hf (-1)).2 (.inl (by omega)); omega
  · rcases Int.lt_or_le 34 ((V6 (Gw w) (cg w) h).foldl (fun m y=>max m (fM w y - fM w h + 1)) 0) with q | q
    · rcases (hf 34).1 q with q | ⟨y,_,q⟩
      · omega
      · have:=hd y; omega
    · exact q
theorem Im (d:Int→Option Int) (v:Int→Int) (l:List Int) (hd:∀x ∈ l,d x = some (v x)) (hlen:l.length ≤ 40) {ρ:Type} (A B:Option ρ) (hn:100 ≤ n) :
    ((∃y ∈ l,6 < v y)→dW (fun E6 (gV:Int) =>
  cn (decide (gV < (l.length:Int))) (
  gu (dj gV l.length) <|
  bd (d (l.getD (Int.toNat gV) default)) fun nR =>
  cn (decide (6 < nR)) A (
  E6 (wr .i64 (gV + 1)))) B) n 0 = A)∧((∀y ∈ l,v y ≤ 6)→dW (fun E6 (gV:Int) =>
  cn (decide (gV < (l.length:Int))) (
  gu (dj gV l.length) <|
  bd (d (l.getD (Int.toNat gV) default)) fun nR =>
  cn (decide (6 < nR)) A (
  E6 (wr .i64 (gV + 1)))) B) n 0 = B):=by
  refine gJ (fun (i:Int)=>∃k:Nat,i = k∧k ≤ l.length∧∀y ∈ l.take k,v y ≤ 6) (fun i=>l.length - i.toNat) (fun o=>((∃y ∈ l,6 < v y)→o = A)∧((∀y ∈ l,v y ≤ 6)→o = B)) ?_ n 0 ⟨0,rfl,by omega,by simp⟩ (by omega)
  rintro kk x ⟨k,rfl,hk,hp⟩ ih
  by_cases c:k < l.length
  · have hm:l.getD k default ∈ l:=fS c
    rw [aA (decide_eq_true (by omega)),aB (cC (by omega) (by omega)),Int.toNat_natCast,au (hd _ hm)]
    by_cases q:6 < v (l.getD k default)
    · rw [aA (decide_eq_true q)]
      exact ⟨fun _=>rfl,fun h=>by have:=h _ hm; omega⟩
    · rw [ak (decide_eq_false q),bP (by omega) (by omega)]
      refine ih _ ⟨k + 1,by omega,by omega,fun y hy=>?_⟩ (by omega)
      rw [List.take_succ_eq_append_getElem c,List.mem_append,List.mem_singleton] at hy
      rcases hy with hy | hy
      · exact hp y hy
      · rw [hy,← fB c]; omega
  · rw [ak (decide_eq_false (by omega))]
    rw [List.take_of_length_le (by omega)] at hp
    exact ⟨fun ⟨y,hy,q⟩=>by have:=hp y hy; omega,fun _=>rfl⟩
structure Nk (w:ag) (h a:Int) (w' : ag) (e:Int):Prop where
  no:e ≠ 0→w' = w
  is:e = 0→w' = o9 w h a∧bh w.B h∧bh w.B a∧cg w h = 0∧¬ (a = h∨h ∈ U6 (cg w) a)∧∀y ∈ V6 (Gw w) (cg w) h,fM w' y ≤ 6
theorem Dk (hn:200 ≤ n) (r:fu t w) (tt:gQ w) (i:oI w) {h a:Int} (h0:0 ≤ h) (h1:h < 4294967296) (a0:0 ≤ a) (a1:a < 4294967296) :
    ∃t' w' e,iF n t h a = some (t',e)∧ou n w h a = some (w',e)∧fu t' w'∧gQ w'∧oI w'∧Nk w h a w' e:=by
  unfold iF ou
  rw [au (jg r.book h0 h1),au (bM (by omega) r h0),cy (jg r.book a0 a1),cy (bM (by omega) r a0)]
  cases hg:aX w.B h with
  | false=>exact ⟨t,w,4,rfl,rfl,r,tt,i,⟨fun _=>rfl,fun h=>absurd h (by decide)⟩⟩
  | true =>
  cases hk:aX w.B a with
  | false=>exact ⟨t,w,4,rfl,rfl,r,tt,i,⟨fun _=>rfl,fun h=>absurd h (by decide)⟩⟩
  | true =>
  have hh:bh w.B h:=⟨h0,hg⟩
  have ha:bh w.B a:=⟨a0,hk⟩
  obtain ⟨ρ,f⟩:=rY r tt
  have hm:=bJ r.book
  have hG:=(hm h).2 hh
  have aG:=(hm a).2 ha
  have Jf:cq w h = tf (cg w) h:=by unfold cq; rw [if_pos hg]
  have KS:qo w h a = ((h == a) || (U6 (cg w) a).contains h):=by unfold qo; rw [hg,hk]; rfl
  rw [ak (by rfl),ak (by rfl),au (mQ (by omega) r tt h0 h1),au (uH (by omega) r hh),cy (vO (by omega) r tt h0 h1 a0 a1),cy (z7 (by omega) r tt h0 a0),Jf]
  by_cases hu:cg w h = 0
  · have e1:(tf (cg w) h != h) = false:=by simpa using (f.pe hG).2 hu
    have e2:(cg w h != 0) = false:=by simpa using hu
    rw [e1,e2]
    by_cases ho:a = h∨h ∈ U6 (cg w) a
    · have e3:qo w h a = true:=by
        rw [KS,Bool.or_eq_true,beq_iff_eq,List.contains_iff_mem]; exact ho.imp Eq.symm _root_.id
      rw [e3]
      exact ⟨t,w,12,rfl,rfl,r,tt,i,⟨fun _=>rfl,fun h=>absurd h (by decide)⟩⟩
    · have e3:qo w h a = false:=by
        rw [KS,Bool.or_eq_false_iff,beq_eq_false_iff_ne,← Bool.not_eq_true,List.contains_iff_mem]
        exact ⟨fun q=>ho (.inl q.symm),fun q=>ho (.inr q)⟩
      have an:a ≠ 0:=f.pos a aG
      obtain ⟨t',b1,b2,b3⟩:=ye (n:=n) (by omega) r tt hh (.inr ha) (fun q=>ho q.2)
      obtain ⟨ρ',f'⟩:=rY b2 b3
      have Ed:∀x ∈ Gw w,cg (o9 w h a) x = if x = h then a else cg w x:=fun x hx=>xS hh ((hm x).1 hx)
      have f' : Fo (Gw w) (cg (o9 w h a)) ρ':=f'
      have gu:=f.J0 f' Ed an hu
      have gv:=f.JZ f' Ed hG hu ho h hG (.inl rfl)
      have ua:U6 (cg (o9 w h a)) a = U6 (cg w) a:=by rw [gu a aG,if_neg ho]
      have I1:jU (o9 w h a) h = V6 (Gw w) (cg w) h:=by
        unfold jU
        rw [if_pos (show aX (o9 w h a).B h = true from hg)]; exact gv
      have C7:∀y ∈ V6 (Gw w) (cg w) h,fM (o9 w h a) y = fM w y + fM w a:=fun y hy=>by
        obtain ⟨y1,y2⟩:=(f.mG hG y).1 hy
        have yg:aX w.B y = true:=((hm y).1 y1).2
        unfold fM
        rw [if_pos (show aX (o9 w h a).B y = true from yg),if_pos yg,if_pos hk,gu y y1,if_pos y2,List.length_append,List.length_cons,ua]
        omega
      obtain ⟨m,m1,m2,m3,m4⟩:=EF (n:=n) hn r tt hh
      have dh:fM w h = 1:=by unfold fM; rw [if_pos hg,f.u0 hG hu]; rfl
      have da:=r9 r tt a
      have d1:wr .i64 (fM w a + m) = fM w a + m:=bP (by omega) (by omega)
      rw [e3,ak (by rfl),ak (by rfl),au (r8 (by omega) r tt a0 a1),au m1,d1,au (qM (by omega) r tt hh (.inr ha) (fun q=>ho q.2))]
      dsimp only
      rw [au (rK hn b2 b3 h0),I1]
      obtain ⟨q1,q2⟩:=Im (n:=n) (fun x=>eG n (o9 w h a) x) (fM (o9 w h a)) (V6 (Gw w) (cg w) h) (fun x hx=>qO hn b2 b3 ((hm x).1 ((f.mG hG x).1 hx).1).1) (by have:=f.qG hG; omega) (some (w,(8:Int))) (some (o9 w h a,(0:Int))) (by omega)
      by_cases hq:∃y ∈ V6 (Gw w) (cg w) h,6 < fM (o9 w h a) y
      · have:6 < fM w a + m:=by
          obtain ⟨y,hy,hq⟩:=hq
          rw [C7 y hy] at hq
          rcases Int.lt_or_le 6 (fM w a) with h6 | h6
          · omega
          · have:=(m4 (6 - fM w a) (by omega)).2 ⟨y,hy,by omega⟩
            omega
        rw [aA (decide_eq_true this)]
        exact ⟨t,w,8,rfl,q1 hq,r,tt,i,⟨fun _=>rfl,fun h=>absurd h (by decide)⟩⟩
      · have kP:∀y ∈ V6 (Gw w) (cg w) h,fM (o9 w h a) y ≤ 6:=fun y hy=>Int.not_lt.1 fun q=>hq ⟨y,hy,q⟩
        have hV:h ∈ V6 (Gw w) (cg w) h:=(f.mG hG h).2 ⟨hG, .inl rfl⟩
        have:¬ 6 < fM w a + m:=fun q=>by
          have h6:=kP h hV
          rw [C7 h hV] at h6
          obtain ⟨y,hy,hq⟩:=(m4 (6 - fM w a) (by omega)).1 (by omega)
          have:=kP y hy
          rw [C7 y hy] at this
          omega
        rw [ak (decide_eq_false this),au b1]
        exact ⟨t',o9 w h a,0,rfl,q2 kP,b2,b3,i.up h a,⟨fun h=>absurd rfl h,fun _=>⟨rfl,hh,ha,hu,ho,kP⟩⟩⟩
  · have e1:(tf (cg w) h != h) = true:=by simpa using fun q=>hu ((f.pe hG).1 q)
    have e2:(cg w h != 0) = true:=by simpa using hu
    rw [e1,e2]
    exact ⟨t,w,12,rfl,rfl,r,tt,i,⟨fun _=>rfl,fun h=>absurd h (by decide)⟩⟩
structure M7 (w:ag) (a q:Int) (w' : ag) (m e:Int):Prop where
  no:e ≠ 0→w' = w
  is:e = 0→∃f,nN w.B f∧f < 32∧(a = 0∨bh w.B a)∧(0 ≤ q∧q ≤ 64)∧fM w a ≤ 5∧m = fJ f (w.B.gD f)∧w' = ⟨fY w.B f,dX w.R f ⟨a,q,bY,fun _=>0⟩⟩
theorem Ik {n:Nat} (hn:110 ≤ n):dm n bY = some true:=by
  obtain ⟨b,b1,b2⟩:=qN (n:=n) hn (x:=bY) (by show (0:Nat) ≤ 80; omega) (fun y hy=>by cases hy)
  rw [b1,b2.2 ⟨qj.nil,by show (0:Int) ≤ 0; decide,by show (0:Int) ≤ 32 * 0; decide⟩]
theorem Ih (hn:200 ≤ n) (r:fu t w) (tt:gQ w) (i:oI w) {a q:Int} (a0:0 ≤ a) (a1:a < 4294967296) :
    ∃t' w' m e,g8 n t a q = some (t',m,e)∧qP n w a q = some (w',m,e)∧0 ≤ m∧m < 4294967296∧fu t' w'∧gQ w'∧oI w'∧M7 w a q w' m e:=by
  obtain ⟨t',w',m,e,e1,e2,m0,m1,k⟩:=Ii (n:=n) (by omega) r tt (q:=q) a0 a1
  have hd:=r9 r tt a
  unfold g8 qP
  rw [au e1,cy (r8 (by omega) r tt a0 a1),cy (bM (by omega) r a0),cy (qO hn r tt a0),au e2]
  dsimp only
  by_cases hok:(a = 0∨bh w.B a)∧0 ≤ q∧q ≤ 64
  · obtain ⟨ha,hq⟩:=hok
    obtain ⟨f,hf⟩:=tT w.B
    have hx:=z8 (n:=n) (by omega) r ha hq hf
    rw [e2] at hx
    have c1:((((a == 0) || (bif (a == 0) == false then aX w.B a else default)) && decide (0 ≤ q)) && decide (q ≤ 64)) = true:=by
      have:((a == 0) || (bif (a == 0) == false then aX w.B a else default)) = true:=by
        rcases ha with e | e
        · subst e; rfl
        · rw [e.2]; cases a == 0 <;> rfl
      rw [this,decide_eq_true hq.1,decide_eq_true hq.2]; rfl
    have c2:((e == 0) || (e == 7)) = true:=by
      have:=Option.some.inj hx
      by_cases hl:f < 32
      · rw [if_pos hl] at this; rw [(Prod.mk.inj (Prod.mk.inj this).2).2]; rfl
      · rw [if_neg hl] at this; rw [(Prod.mk.inj (Prod.mk.inj this).2).2]; rfl
    rw [c1,c2]
    by_cases h6:6 ≤ fM w a
    · have h5:(5:Int) < fM w a:=by omega
      rw [aA (by simpa using h6),aA (by simpa using h5)]
      exact ⟨t,w,0,8,rfl,rfl,by decide,by decide,r,tt,i,⟨fun _=>rfl,fun h=>absurd h (by decide)⟩⟩
    · have h5:¬ (5:Int) < fM w a:=by omega
      rw [ak (by simpa using h6),ak (by simpa using h5)]
      refine ⟨t',w',m,e,rfl,rfl,m0,m1,k.rt,k.tt,?_,?_⟩
      · have:=Option.some.inj hx
        by_cases hl:f < 32
        · rw [if_pos hl] at this
          obtain ⟨rfl,h2⟩:=Prod.mk.inj this
          intro g yT
          dsimp only
          rw [bX]
          split
          · exact ⟨hq,fun n hn=>Ik hn⟩
          · rename_i hne
            refine i g (((g7 r.book hf hl g).1 yT).resolve_right fun e=>?_)
            have hr:=r.book.ic f hl
            obtain ⟨q1,q2,q3,q4,q5⟩:=kY (i:=f) (g:=w.B.gD f) (by omega) (by omega) hr.1 hr.2
            exact hne (by rw [e]; unfold bI; rw [q2]; omega)
        · rw [if_neg hl] at this
          rw [(Prod.mk.inj this).1]; exact i
      · have:=Option.some.inj hx
        by_cases hl:f < 32
        · rw [if_pos hl] at this
          obtain ⟨h1,h2⟩:=Prod.mk.inj this
          obtain ⟨h2,h3⟩:=Prod.mk.inj h2
          exact ⟨fun h=>absurd h3 h,fun _=>⟨f,hf,hl,ha,hq,by omega,h2,h1⟩⟩
        · rw [if_neg hl] at this
          obtain ⟨h1,h2⟩:=Prod.mk.inj this
          obtain ⟨h2,h3⟩:=Prod.mk.inj h2
          exact ⟨fun _=>h1,fun h=>absurd (h3.symm.trans h) (by decide)⟩
  · have hw:w' = w∧e ≠ 0∧e ≠ 7:=by
      unfold dg at e2
      rw [cy (bM (by omega) r a0),jb] at e2
      cases hx:yj w.B a with
      | false =>
        rw [hx,aA (b:=!false) rfl] at e2
        obtain ⟨h1,h2⟩:=Prod.mk.inj (Option.some.inj e2)
        exact ⟨h1.symm,by rw [← (Prod.mk.inj h2).2]; decide,by rw [← (Prod.mk.inj h2).2]; decide⟩
      | true =>
        have hq:¬ (0 ≤ q∧q ≤ 64):=fun h=>hok ⟨uK a0 hx,h⟩
        rw [hx,ak (b:=!true) rfl,aA (by simp; omega)] at e2
        obtain ⟨h1,h2⟩:=Prod.mk.inj (Option.some.inj e2)
        exact ⟨h1.symm,by rw [← (Prod.mk.inj h2).2]; decide,by rw [← (Prod.mk.inj h2).2]; decide⟩
    obtain ⟨rfl,n0,n7⟩:=hw
    have c1:((((a == 0) || (bif (a == 0) == false then aX w'.B a else default)) && decide (0 ≤ q)) && decide (q ≤ 64)) = false:=by
      by_cases hq:0 ≤ q∧q ≤ 64
      · have ha:¬ (a = 0∨bh w'.B a):=fun h=>hok ⟨h,hq⟩
        have e1:(a == 0) = false:=by simpa using fun h=>ha (.inl h)
        have e2:aX w'.B a = false:=by
          cases h:aX w'.B a with
          | false=>rfl
          | true=>exact absurd (.inr ⟨a0,h⟩) ha
        rw [e1,e2]; rfl
      · have:(decide (0 ≤ q) && decide (q ≤ 64)) = false:=by rw [Bool.and_eq_false_iff,decide_eq_false_iff_not,decide_eq_false_iff_not]; omega
        rw [Bool.and_assoc,this,Bool.and_false]
    have c2:((e == 0) || (e == 7)) = false:=by rw [Bool.or_eq_false_iff,beq_eq_false_iff_ne,beq_eq_false_iff_ne]; exact ⟨n0,n7⟩
    rw [c1,c2,ak (by rfl),ak (by rfl)]
    exact ⟨t',w',m,e,rfl,rfl,m0,m1,k.rt,k.tt,i,⟨fun _=>rfl,fun h=>absurd h n0⟩⟩
end
end Go.Proofs.Ytmdpbdhkmfjlhaa
namespace Go.Proofs.Ytmdpbdhkmfjlhaa
open Go Go.Bw
section
variable {n:Nat} {t:aj} {w:ag}
def KF (a:fV):Prop:=(0 ≤ a.Do∧a.Do ≤ 255)∧(0 ≤ a.A∧a.A ≤ 4294967295)∧(0 ≤ a.B∧a.B ≤ 4294967295)∧(0 ≤ a.C∧a.C ≤ 4294967295)∧(-9223372036854775808 ≤ a.bu∧a.bu ≤ 9223372036854775807)
end
theorem yC:oI jc:=fun g hg=>by
  have:=(dG hg).2
  exact (tA this).elim
end Go.Proofs.Ytmdpbdhkmfjlhaa
namespace Go.Proofs.Ytmdpbdhkmfjlhaa
open Go Go.Bw
section
variable {G G' : List Int} {up up' : Int→Int} {ρ ρ' : Int→Nat}
end
section
variable {n:Nat} {t:aj} {w:ag}
theorem Gu (r:fu t w) (tt:gQ w) {G:List Int} (hG:Gw w = G):∃ρ,Fo G (cg w) ρ:=by subst hG; exact rY r tt
theorem y9 (w:ag) (h:Int):(lH w h).B = w.B:=by
  unfold lH
  split
  · generalize V6 (Gw w) (cg w) h = l
    generalize U6 (cg w) h = L
    exact n9 w L l w
  · rfl
theorem Dv (h:Int) {x:Int} (hh:bh w.B h) (hx:bh w.B x):cg (lH w h) x = if x = h then 0 else cg w x:=by
  unfold lH
  rw [if_pos hh.2]
  generalize V6 (Gw w) (cg w) h = l
  generalize U6 (cg w) h = L
  have hb:(lz w L l).B = w.B:=n9 w L l w
  have hu:cg (lz w L l) x = cg w x:=AV w L l x w
  generalize lz w L l = v at hb hu ⊢
  rw [xS (by rw [hb]; exact hh) (by rw [hb]; exact hx),hu]
end
end Go.Proofs.Ytmdpbdhkmfjlhaa
namespace Go.Proofs.Ytmdpbdhkmfjlhaa
open Go Go.Bw
structure cm where
 Kind:Int
 Task:Int
 bE:Int
abbrev aD:bf cm:=bf.via (LP (LI .u8) (LP (LI .u8) (LI .u8))) (fun x=>(x.Kind,x.Task,x.bE))
abbrev iX:cm:=⟨0,0,0⟩
instance:Inhabited cm:=⟨iX⟩
theorem cZ:aF aD (LI .u8) 0 (fun x=>x.Kind) (fun x v=>{ x with Kind:=v }):=(aF.fst aF.id).via _ _ _ 0 rfl (fun _=>rfl) (fun _ _=>rfl)
theorem mj:aF aD (LI .u8) 1 (fun x=>x.Task) (fun x v=>{ x with Task:=v }):=(aF.snd (aF.fst aF.id)).via _ _ _ 1 rfl (fun _=>rfl) (fun _ _=>rfl)
theorem dF:aF aD (LI .u8) 2 (fun x=>x.bE) (fun x v=>{ x with bE:=v }):=(aF.snd (aF.snd aF.id)).via _ _ _ 2 rfl (fun _=>rfl) (fun _ _=>rfl)
def cB (x y:cm):Bool:=x.Kind == y.Kind && x.Task == y.Task && x.bE == y.bE
theorem mu (x y:cm):Value.bool (qw [(0,some .u8),(1,some .u8),(2,some .u8)] (aD.enc x) (aD.enc y)) = .bool (cB x y):=congrArg Value.bool (by show ((x.Kind == y.Kind) && ((x.Task == y.Task) && ((x.bE == y.bE) && true))) = (x.Kind == y.Kind && x.Task == y.Task && x.bE == y.bE); simp [Bool.and_assoc])
theorem nO (x y:cm):Value.bool (!(qw [(0,some .u8),(1,some .u8),(2,some .u8)] (aD.enc x) (aD.enc y))) = .bool (!(cB x y)):=congrArg (fun v=>match v with | Value.bool b=>Value.bool (!b) | v=>v) (mu x y)
structure nn where
 root:Int
 own:cm
abbrev fQ:bf nn:=bf.via (LP (LI .u32) aD) (fun x=>(x.root,x.own))
abbrev vv:nn:=⟨0,iX⟩
theorem oQ:aF fQ (LI .u32) 0 (fun x=>x.root) (fun x v=>{ x with root:=v }):=(aF.fst aF.id).via _ _ _ 0 rfl (fun _=>rfl) (fun _ _=>rfl)
theorem qf:aF fQ aD 1 (fun x=>x.own) (fun x v=>{ x with own:=v }):=(aF.snd aF.id).via _ _ _ 1 rfl (fun _=>rfl) (fun _ _=>rfl)
structure bC where
 slots:(Nat→nn)
abbrev ae:bf bC:=bf.via (LA fQ 32) (fun x=>x.slots)
abbrev cJ:bC:=⟨(fun _=>vv)⟩
theorem iZ:aF ae (LA fQ 32) 0 (fun x=>x.slots) (fun x v=>{ x with slots:=v }):=aF.id.via _ _ _ 0 rfl (fun _=>rfl) (fun _ _=>rfl)
def cH (n:Nat) (a0:bC) (a1:aj) (a2:Int):Option cm:=
 bd (dw n a1 a2) fun aQ =>
 bd (bk n aQ) fun bT =>
 gu (!((!bT.2) == false) || dj bT.1 32) <|
 cn (((!bT.2) || (((a0.slots (Int.toNat bT.1)).root) != aQ))) (
 lt ({ Kind:=0,Task:=0,bE:=0 }:cm) fun ju =>
 some ju) (
 gu (dj bT.1 32) <|
 lt ((a0.slots (Int.toNat bT.1)).own:cm) fun dz =>
 some dz)
theorem cW {n a0 a1 a2 r K} [bz K] {gO} (f1:(ah).rep K gO a1) (h:cH n a0 a1 a2 = some r):qk Try.prog 72 [.agg (ae.enc a0).toArray,A gO, .int .u32 a2] K (.agg (aD.enc r).toArray):=by
 unfold cH at h
 refine fo Try.func72 (by kernel_rfl) rfl Try.ntmps72 rfl fun cx _ hro cQ hpre=>?_
 refine SC 2 rf ?_
 refine W1 rf (ct ae a0 rfl rfl) fun b3=>?_
 refine W1 rf (bS rfl) fun b4=>?_
 refine W1 rf (bj (L:=aD) (z:=iX) ⟨by kernel_rfl⟩) fun b6=>?_
 obtain ⟨aQ,cv,h⟩:=bp h
 refine SL 4 rf ?_
 refine aq rfl (av rfl (bf.len _ f1)) ?_
 refine aq rfl (ay rfl) ?_
 refine CV (eI (K:=K) (mo f1) cv) rf rf ?_
 obtain ⟨bT,iD,h⟩:=bp h
 refine SL 6 rf ?_
 refine CV (bO iD) rf rf ?_
 obtain ⟨pQ,h⟩:=dO h
 refine SL 13 rf ?_
 refine GB rf rf rf (fun hb=>ay rfl) ?_
 refine GB rf rf rf (fun hb=>aN rfl) ?_
 refine GB rf rf rf (fun hb=>hY (m:=(Int.toNat bT.1)) (bN rfl hb) (bN rfl hb) (aC (jH pQ hb)).1 (aC (jH pQ hb)).2) ?_
 refine GB rf rf rf (fun hb=>iL (bN rfl hb)) ?_
 refine GB rf rf rf (fun hb=>aR ((iZ.c0 (aF.idx (L:=fQ) (m:=32) (k:=4) ((Int.toNat bT.1)) (aC (jH pQ hb)).2 rfl)).comp oQ) (bN rfl hb)) ?_
 refine GB rf rf rf (fun hb=>ay rfl) ?_
 refine GB rf rf rf (fun hb=>iY (bN rfl hb) (bN rfl hb)) ?_
 refine aq rfl (ga rfl rfl) ?_
 refine SL 2 rf ?_
 refine fz h rf (fun hc h=>?_) fun hc h=>?_
 ·
  obtain ⟨ju,rU,h⟩:=cN h
  refine SC 2 rf ?_
  refine aq rfl (eD (cs:=aD.enc ju) rfl (by rw [rU]; rfl)) ?_
  refine W0 (bA (M:=aD) (aF.id (L:=aD)) ju ju rfl rfl rfl rfl rfl) ?_
  refine SL 4 rf ?_
  have h:=sj h; subst h
  exact RV rf (ra rf (aY _ _) rn) rf
 ·
  obtain ⟨u6,h⟩:=dO h
  obtain ⟨dz,nZ,h⟩:=cN h
  refine SC 6 rf ?_
  refine aq rfl (hY (m:=(Int.toNat bT.1)) rfl rfl (aC u6).1 (aC u6).2) ?_
  refine aq rfl (iL rfl) ?_
  refine aq rfl (aU (M:=aD) ((iZ.c0 (aF.idx (L:=fQ) (m:=32) (k:=4) ((Int.toNat bT.1)) (aC u6).2 rfl)).comp qf) rfl rfl) ?_
  refine W0 (bA (M:=aD) (aF.id (L:=aD)) ((a0.slots (Int.toNat bT.1)).own) dz nZ rfl rfl rfl rfl) ?_
  refine SL 3 rf ?_
  have h:=sj h; subst h
  exact RV rf (ra rf (aY _ _) rn) rf
def eF (n:Nat) (a0:bC) (a1:aj) (a2:Int) (a3:Int) (a4:cm):Option (bC × Int):=
 bd (aJ n a1.book.hO a2) fun aQ =>
 cn ((!aQ)) (
 some (a0,4)) (
 bd (dw n a1 a2) fun bT =>
 cn ((bT != a2)) (
 some (a0,12)) (
 cn ((decide (a3 < 0) || decide (8 ≤ a3))) (
 some (a0,2)) (
 bd (bk n a2) fun gN =>
 lt ({ root:=a2,own:=a4 }:nn) fun ju =>
 gu (dj gN.1 32) <|
 lt ({ a0 with slots:=(dX a0.slots (Int.toNat gN.1) ju) }:bC) fun dz =>
 some (dz,0))))
theorem gy {n a0 a1 a2 a3 a4 r K} [bz K] {gO} (f1:(ah).rep K gO a1) (h:eF n a0 a1 a2 a3 a4 = some r):qk Try.prog 138 [.agg (ae.enc a0).toArray,A gO, .int .u32 a2, .int .i64 a3, .agg (aD.enc a4).toArray] K (.tuple #[.agg (ae.enc r.1).toArray, .int .i64 r.2]):=by
 unfold eF at h
 refine fo Try.func138 (by kernel_rfl) rfl Try.ntmps138 rfl fun cx _ hro cQ hpre=>?_
 refine SC 2 rf ?_
 refine W1 rf (ct ae a0 rfl rfl) fun b5=>?_
 refine W1 rf (bS rfl) fun b6=>?_
 refine W1 rf (ct aD a4 rfl rfl) fun b9=>?_
 refine W1 rf (bj (L:=ae) (z:=cJ) ⟨by kernel_rfl⟩) fun BW=>?_
 obtain ⟨aQ,cv,h⟩:=bp h
 refine SL 9 rf ?_
 refine aq rfl (bq rfl (aW.iff.1 ((aE.c0 aL).get f1)) (aY _ _)) ?_
 refine aq rfl (ay rfl) ?_
 refine CV (aT cv) rf rf ?_
 refine SL 4 rf ?_
 refine fz h rf (fun hc h=>?_) fun hc h=>?_
 ·
  refine SC 2 rf ?_
  refine aq rfl (aU (M:=ae) (aF.id (L:=ae)) rfl rfl) ?_
  refine W0 (bA (M:=ae) (aF.id (L:=ae)) a0 a0 rfl rfl rfl rfl rfl) ?_
  refine SL 6 rf ?_
  have h:=sj h; subst h
  exact RV rf (ra rf (aY _ _) (rt rf rn)) rf
 ·
  obtain ⟨bT,iD,h⟩:=bp h
  refine SC 2 rf ?_
  refine aq rfl (av rfl (bf.len _ f1)) ?_
  refine aq rfl (ay rfl) ?_
  refine CV (eI (K:=K) (mo f1) iD) rf rf ?_
  refine SL 5 rf ?_
  refine fz h rf (fun hc h=>?_) fun hc h=>?_
  ·
   refine SC 2 rf ?_
   refine aq rfl (aU (M:=ae) (aF.id (L:=ae)) rfl rfl) ?_
   refine W0 (bA (M:=ae) (aF.id (L:=ae)) a0 a0 rfl rfl rfl rfl rfl) ?_
   refine SL 6 rf ?_
   have h:=sj h; subst h
   exact RV rf (ra rf (aY _ _) (rt rf rn)) rf
  ·
   refine SC 5 rf ?_
   refine GB rf rf rf (fun hb=>ay rfl) ?_
   refine GB rf rf rf (fun hb=>nh (bN rfl hb) rfl) ?_
   refine aq rfl (ga rfl rfl) ?_
   refine SL 3 rf ?_
   refine fz h rf (fun hc h=>?_) fun hc h=>?_
   ·
    refine SC 2 rf ?_
    refine aq rfl (aU (M:=ae) (aF.id (L:=ae)) rfl rfl) ?_
    refine W0 (bA (M:=ae) (aF.id (L:=ae)) a0 a0 rfl rfl rfl rfl rfl) ?_
    refine SL 6 rf ?_
    have h:=sj h; subst h
    exact RV rf (ra rf (aY _ _) (rt rf rn)) rf
   ·
    obtain ⟨gN,kZ,h⟩:=bp h
    refine SC 6 rf ?_
    refine CV (bO kZ) rf rf ?_
    obtain ⟨ju,rU,h⟩:=cN h
    obtain ⟨u6,h⟩:=dO h
    obtain ⟨dz,nZ,h⟩:=cN h
    refine SL 11 rf ?_
    refine aq rfl (aU (M:=aD) (aF.id (L:=aD)) rfl rfl) ?_
    refine aq rfl (eD (cs:=fQ.enc ju) rfl (by rw [rU]; rfl)) ?_
    refine aq rfl (aN rfl) ?_
    refine aq rfl (hY (m:=(Int.toNat gN.1)) rfl rfl (aC u6).1 (aC u6).2) ?_
    refine W0 (bA (M:=fQ) (iZ.c0 (aF.idx (L:=fQ) (m:=32) (k:=4) ((Int.toNat gN.1)) (aC u6).2 rfl)) ju dz nZ rfl rfl rfl rfl) ?_
    refine SL 4 rf ?_
    refine aq rfl (aU (M:=ae) (aF.id (L:=ae)) rfl rfl) ?_
    refine W0 (bA (M:=ae) (aF.id (L:=ae)) dz dz rfl rfl rfl rfl rfl) ?_
    refine SL 4 rf ?_
    have h:=sj h; subst h
    exact RV rf (ra rf (aY _ _) (rt rf rn)) rf
def kj (n:Nat) (a0:Int):Option Int:=
 gu (decide (0 ≤ (lK .i64 a0 7))) <|
 some (wK .u8 1 (lK .i64 a0 7))
theorem mB {n a0 r}  (h:kj n a0 = some r):xN Try.prog 139 [.int .i64 a0] (.int .u8 r):=by
 unfold kj at h
 refine eV Try.func139 (by kernel_rfl) rfl Try.ntmps139 rfl (fun cx cQ hpre hro=>?_)
 obtain ⟨tP,h⟩:=dO h
 refine SC 8 rf ?_
 refine aq rfl (oZ rfl rfl) ?_
 refine aq rfl (wg rfl rfl (Gt tP)) ?_
 refine SL 4 rf ?_
 have h:=sj h; subst h
 exact RV rf (rt rf rn) rf
def fT (n:Nat) (a0:bC) (a1:aj) (a2:Int) (a3:Int) (a4:Bool):Option (bC × Int × Int):=
 bd (cH n a0 a1 a2) fun aQ =>
 bd (eF n a0 a1 a2 a3 aQ) fun bT =>
 bd (kj n a3) fun gN =>
 cl ((bT.2 == 4) == false) (aJ n a1.book.hO a2) default fun ju =>
 cl (((bT.2 == 4) == false) && (ju == true)) (dw n a1 a2) default fun nk =>
 cn (((bT.2 == 4) || (ju && (nk != a2)))) (
 some (a0,0,bT.2)) (
 cn ((aQ.Kind != 3)) (
 some (a0,0,12)) (
 cn ((bT.2 != 0)) (
 some (a0,0,bT.2)) (
 cn ((((lK .u8 aQ.bE gN) != 0) && a4)) (
 some (a0,0,7)) (
 cn (((!((lK .u8 aQ.bE gN) != 0)) && (!a4))) (
 some (a0,0,5)) (
 bd (kj n a3) fun dz =>
 lt ({ aQ with bE:=uw .u8 aQ.bE dz }:cm) fun c9 =>
 bd (eF n bT.1 a1 a2 a3 c9) fun eE =>
 some (eE.1,c9.bE,eE.2))))))
theorem lA {n a0 a1 a2 a3 a4 r K} [bz K] {gO} (f1:(ah).rep K gO a1) (h:fT n a0 a1 a2 a3 a4 = some r):qk Try.prog 140 [.agg (ae.enc a0).toArray,A gO, .int .u32 a2, .int .i64 a3, .bool a4] K (.tuple #[.agg (ae.enc r.1).toArray, .int .u8 r.2.1, .int .i64 r.2.2]):=by
 unfold fT at h
 refine fo Try.func140 (by kernel_rfl) rfl Try.ntmps140 rfl fun cx _ hro cQ hpre=>?_
 refine SC 2 rf ?_
 refine W1 rf (ct ae a0 rfl rfl) fun b5=>?_
 refine W1 rf (bS rfl) fun b6=>?_
 refine W1 rf (bj (L:=ae) (z:=cJ) ⟨by kernel_rfl⟩) fun BW=>?_
 obtain ⟨aQ,cv,h⟩:=bp h
 refine SL 6 rf ?_
 refine aq rfl (aU (M:=ae) (aF.id (L:=ae)) rfl rfl) ?_
 refine aq rfl (av rfl (bf.len _ f1)) ?_
 refine aq rfl (ay rfl) ?_
 refine CV (cW (K:=K) (mo f1) cv) rf rf ?_
 refine W1 rf (bj (L:=aD) (z:=iX) ⟨by kernel_rfl⟩) fun NT=>?_
 refine W0 (bA (M:=aD) (aF.id (L:=aD)) aQ aQ rfl rfl rfl rfl rfl) ?_
 obtain ⟨bT,iD,h⟩:=bp h
 refine SL 4 rf ?_
 refine aq rfl (aU (M:=ae) (aF.id (L:=ae)) rfl rfl) ?_
 refine aq rfl (av rfl (bf.len _ f1)) ?_
 refine SL 2 rf ?_
 refine aq rfl (aU (M:=aD) (aF.id (L:=aD)) rfl rfl) ?_
 refine CV (gy (K:=K) (mo f1) iD) rf rf ?_
 refine SL 3 rf ?_
 refine W1 rf (bj (L:=ae) (z:=cJ) ⟨by kernel_rfl⟩) fun NR=>?_
 refine W0 (bA (M:=ae) (aF.id (L:=ae)) bT.1 bT.1 rfl rfl rfl rfl rfl) ?_
 refine SL 4 rf ?_
 obtain ⟨gN,kZ,h⟩:=bp h
 refine ec mixed (.lq [] [(0,[13]),(1,[30]),(2,[3]),(3,[32]),(4,[31,33]),(5,[34])] (.alt 6 [35] (.fin [] []) .no)) (by kernel_rfl) ?_
 refine T0 ?_
 refine NS 1 rf ?_
 refine NV rf rf (aR dF rfl) ?_
 refine NS 1 rf ?_
 refine NC rf rf (mB kZ) rf ?_
 refine NV rf rf (oZ rfl rfl) ?_
 refine NE 1 rf ?_
 refine XV rf rf (cO rfl) ?_
 refine sW ?_
 obtain ⟨ju,rU,_,h⟩:=j2 h
 obtain ⟨nk,pJ,_,h⟩:=j2 h
 refine SX 8 rf ?_
 refine GB rf rf rf (fun hb=>aN rfl) ?_
 refine GB rf rf rf (fun hb=>aN (bN rfl hb)) ?_
 refine GB rf rf rf (fun hb=>bq (bN rfl hb) (aW.iff.1 ((aE.c0 aL).get f1)) (aY _ _)) ?_
 refine GB rf rf rf (fun hb=>ay rfl) ?_
 refine GB rf rf rf (fun hb=>dK (aT (rU hb)) (aP (bN rfl hb) (aP (bN rfl hb) rfl)) (fun _ _ _=>trivial)) ?_
 refine GB rf rf rf (fun hb=>ay (bN rfl hb)) ?_
 refine kT (jD rfl rfl) rfl (fun hb=>av rfl (bf.len _ f1)) ?_
 refine kT (jD rfl rfl) rfl (fun hb=>ay rfl) ?_
 refine kT (jD rfl rfl) rfl (fun hb=>dK (eI (K:=K) (mo f1) (pJ hb)) (aP (bN rfl hb) (aP (bN rfl hb) rfl)) kn) ?_
 refine kT (jD rfl rfl) rfl (fun hb=>ay rfl) ?_
 refine kT (jD rfl rfl) rfl (fun hb=>iY (bN rfl hb) (bN rfl hb)) ?_
 refine GB rf rf rf (fun hb=>cA (bN rfl hb) (va rfl hb)) ?_
 refine aq rfl (ga rfl rfl) ?_
 refine SL 3 rf ?_
 refine fz h rf (fun hc h=>?_) fun hc h=>?_
 ·
  refine SC 2 rf ?_
  refine aq rfl (aU (M:=ae) (aF.id (L:=ae)) rfl rfl) ?_
  refine aq rfl (ay rfl) ?_
  refine W0 (bA (M:=ae) (aF.id (L:=ae)) a0 a0 rfl rfl rfl rfl rfl) ?_
  refine SL 7 rf ?_
  have h:=sj h; subst h
  exact RV rf (ra rf (aY _ _) (rt rf (rt rf rn))) rf
 ·
  refine SC 3 rf ?_
  refine aq rfl (aR cZ rfl) ?_
  refine SL 4 rf ?_
  refine fz h rf (fun hc h=>?_) fun hc h=>?_
  ·
   refine SC 2 rf ?_
   refine aq rfl (aU (M:=ae) (aF.id (L:=ae)) rfl rfl) ?_
   refine W0 (bA (M:=ae) (aF.id (L:=ae)) a0 a0 rfl rfl rfl rfl rfl) ?_
   refine SL 7 rf ?_
   have h:=sj h; subst h
   exact RV rf (ra rf (aY _ _) (rt rf (rt rf rn))) rf
  ·
   refine SC 7 rf ?_
   refine fz h rf (fun hc h=>?_) fun hc h=>?_
   ·
    refine SC 2 rf ?_
    refine aq rfl (aU (M:=ae) (aF.id (L:=ae)) rfl rfl) ?_
    refine aq rfl (ay rfl) ?_
    refine W0 (bA (M:=ae) (aF.id (L:=ae)) a0 a0 rfl rfl rfl rfl rfl) ?_
    refine SL 7 rf ?_
    have h:=sj h; subst h
    exact RV rf (ra rf (aY _ _) (rt rf (rt rf rn))) rf
   ·
    refine SC 4 rf ?_
    refine GB rf rf rf (fun hb=>ay rfl) ?_
    refine aq rfl (cA rfl rfl) ?_
    refine SL 3 rf ?_
    refine fz h rf (fun hc h=>?_) fun hc h=>?_
    ·
     refine SC 2 rf ?_
     refine aq rfl (aU (M:=ae) (aF.id (L:=ae)) rfl rfl) ?_
     refine W0 (bA (M:=ae) (aF.id (L:=ae)) a0 a0 rfl rfl rfl rfl rfl) ?_
     refine SL 7 rf ?_
     have h:=sj h; subst h
     exact RV rf (ra rf (aY _ _) (rt rf (rt rf rn))) rf
    ·
     refine SC 5 rf ?_
     refine GB rf rf rf (fun hb=>ay rfl) ?_
     refine GB rf rf rf (fun hb=>j7 (bN rfl hb)) ?_
     refine aq rfl (cA rfl rfl) ?_
     refine SL 3 rf ?_
     refine fz h rf (fun hc h=>?_) fun hc h=>?_
     ·
      refine SC 2 rf ?_
      refine aq rfl (aU (M:=ae) (aF.id (L:=ae)) rfl rfl) ?_
      refine W0 (bA (M:=ae) (aF.id (L:=ae)) a0 a0 rfl rfl rfl rfl rfl) ?_
      refine SL 7 rf ?_
      have h:=sj h; subst h
      exact RV rf (ra rf (aY _ _) (rt rf (rt rf rn))) rf
     ·
      refine SC 4 rf ?_
      obtain ⟨dz,nZ,h⟩:=bp h
      obtain ⟨c9,mX,h⟩:=cN h
      refine ec mixed (.lq [] [(0,[13]),(1,[79]),(2,[3]),(3,[81]),(4,[80,82]),(5,[13])] (.alt 6 [83,84] (.fin [] []) .no)) (by kernel_rfl) ?_
      refine T0 ?_
      refine NS 1 rf ?_
      refine NV rf rf (aR dF rfl) ?_
      refine NS 1 rf ?_
      refine NC rf rf (mB nZ) rf ?_
      refine NV rf rf (Bg rfl rfl) ?_
      refine NE 1 rf ?_
      refine X0 rf (bA (M:=(LI .u8)) dF (uw .u8 aQ.bE dz) c9 mX rfl rfl rfl rfl) ?_
      refine sW ?_
      obtain ⟨eE,rT,h⟩:=bp h
      refine SX 3 rf ?_
      refine aq rfl (aU (M:=ae) (aF.id (L:=ae)) rfl rfl) ?_
      refine aq rfl (av rfl (bf.len _ f1)) ?_
      refine SL 2 rf ?_
      refine aq rfl (aU (M:=aD) (aF.id (L:=aD)) rfl rfl) ?_
      refine CV (gy (K:=K) (mo f1) rT) rf rf ?_
      refine SL 3 rf ?_
      refine W0 (bA (M:=ae) (aF.id (L:=ae)) eE.1 eE.1 rfl rfl rfl rfl rfl) ?_
      refine SL 4 rf ?_
      refine ec mixed (.lq [] [(0,[14]),(1,[13]),(2,[95]),(3,[15])] (.alt 4 [10,94] (.lq [(1,[13]),(2,[95]),(3,[15])] [] (.alt 5 [96] (.lq [(3,[15])] [] (.alt 6 [97] (.fin [] []) .no)) .no)) .no)) (by kernel_rfl) ?_
      refine T0 ?_
      refine NV rf rf (aU (M:=ae) (aF.id (L:=ae)) rfl rfl) ?_
      refine NS 1 rf ?_
      refine NV rf rf (aR dF rfl) ?_
      refine NE 1 rf ?_
      refine X0 rf (bA (M:=ae) (aF.id (L:=ae)) eE.1 eE.1 rfl rfl rfl rfl rfl) ?_
      refine kx ?_ ?_
      ·
       refine G7 1 rf rf ?_
       refine RO rf rf (aR dF rfl) rf ?_
       exact RE 1 rf rf
      refine dH ?_
      refine XV rf rf (cO rfl) ?_
      refine kx ?_ ?_
      ·
       exact RE 1 rf rf
      refine dH ?_
      refine XV rf rf (cO rfl) ?_
      refine sW ?_
      refine SX 2 rf ?_
      have h:=sj h; subst h
      exact RV rf (ra rf (aY _ _) (rt rf (rt rf rn))) rf
def dV (n:Nat) (a0:Int):Option Int:=
 gu (dj a0 256) <|
 some (wr .i64 (Lib.pop8 a0))
theorem k6 {n a0 r}  (h:dV n a0 = some r):xN Try.prog 141 [.int .u8 a0] (.int .i64 r):=by
 unfold dV at h
 refine eV Try.func141 (by kernel_rfl) rfl Try.ntmps141 rfl (fun cx cQ hpre hro=>?_)
 obtain ⟨tP,h⟩:=dO h
 refine SC 8 rf ?_
 refine aq rfl (Bh (m:=(Int.toNat a0)) rfl rfl (aC tP).1 (aC tP).2) ?_
 refine SL 5 rf ?_
 have h:=sj h; subst h
 exact RV rf (rt rf rn) rf
def gT (n:Nat) (a0:bC) (a1:aj) (a2:Int) (a3:Int):Option (bC × Int × Int):=
 bd (fT n a0 a1 a2 a3 false) fun aQ =>
 bd (dV n aQ.2.1) fun bT =>
 some (aQ.1,bT,aQ.2.2)
theorem lD {n a0 a1 a2 a3 r K} [bz K] {gO} (f1:(ah).rep K gO a1) (h:gT n a0 a1 a2 a3 = some r):qk Try.prog 78 [.agg (ae.enc a0).toArray,A gO, .int .u32 a2, .int .i64 a3] K (.tuple #[.agg (ae.enc r.1).toArray, .int .i64 r.2.1, .int .i64 r.2.2]):=by
 unfold gT at h
 refine fo Try.func78 (by kernel_rfl) rfl Try.ntmps78 rfl fun cx _ hro cQ hpre=>?_
 refine SC 2 rf ?_
 refine W1 rf (ct ae a0 rfl rfl) fun b4=>?_
 refine W1 rf (bS rfl) fun b5=>?_
 refine W1 rf (bj (L:=ae) (z:=cJ) ⟨by kernel_rfl⟩) fun b8=>?_
 obtain ⟨aQ,cv,h⟩:=bp h
 refine SL 6 rf ?_
 refine aq rfl (aU (M:=ae) (aF.id (L:=ae)) rfl rfl) ?_
 refine aq rfl (av rfl (bf.len _ f1)) ?_
 refine SL 2 rf ?_
 refine CV (lA (K:=K) (mo f1) cv) rf rf ?_
 refine SL 4 rf ?_
 refine W1 rf (bj (L:=ae) (z:=cJ) ⟨by kernel_rfl⟩) fun Le=>?_
 refine W0 (bA (M:=ae) (aF.id (L:=ae)) aQ.1 aQ.1 rfl rfl rfl rfl rfl) ?_
 refine SL 5 rf ?_
 obtain ⟨bT,iD,h⟩:=bp h
 refine ec mixed (.lq [] [(0,[11]),(1,[12]),(2,[24]),(3,[13])] (.alt 4 [8,23] (.lq [(3,[13])] [] (.alt 5 [25] (.lq [(3,[13])] [] (.alt 6 [26] (.fin [] []) .no)) .no)) .no)) (by kernel_rfl) ?_
 refine T0 ?_
 refine NV rf rf (aU (M:=ae) (aF.id (L:=ae)) rfl rfl) ?_
 refine NS 1 rf ?_
 refine NC rf rf (k6 iD) rf ?_
 refine NE 1 rf ?_
 refine X0 rf (bA (M:=ae) (aF.id (L:=ae)) aQ.1 aQ.1 rfl rfl rfl rfl rfl) ?_
 refine kx ?_ ?_
 ·
  exact RE 1 rf rf
 refine dH ?_
 refine XV rf rf (cO rfl) ?_
 refine kx ?_ ?_
 ·
  exact RE 1 rf rf
 refine dH ?_
 refine XV rf rf (cO rfl) ?_
 refine sW ?_
 refine SX 2 rf ?_
 have h:=sj h; subst h
 exact RV rf (ra rf (aY _ _) (rt rf (rt rf rn))) rf
def iz (n:Nat) (a0:bC) (a1:aj) (a2:Int):Option (bC × Int):=
 lt ({ Kind:=2,Task:=0,bE:=0 }:cm) fun aQ =>
 bd (eF n a0 a1 a2 0 aQ) fun bT =>
 some (bT.1,bT.2)
theorem pY {n a0 a1 a2 r K} [bz K] {gO} (f1:(ah).rep K gO a1) (h:iz n a0 a1 a2 = some r):qk Try.prog 76 [.agg (ae.enc a0).toArray,A gO, .int .u32 a2] K (.tuple #[.agg (ae.enc r.1).toArray, .int .i64 r.2]):=by
 unfold iz at h
 refine fo Try.func76 (by kernel_rfl) rfl Try.ntmps76 rfl fun cx _ hro cQ hpre=>?_
 refine SC 2 rf ?_
 refine W1 rf (ct ae a0 rfl rfl) fun b3=>?_
 refine W1 rf (bS rfl) fun b4=>?_
 refine W1 rf (bj (L:=ae) (z:=cJ) ⟨by kernel_rfl⟩) fun b6=>?_
 obtain ⟨aQ,cv,h⟩:=cN h
 obtain ⟨bT,iD,h⟩:=bp h
 refine SL 5 rf ?_
 refine aq rfl (aU (M:=ae) (aF.id (L:=ae)) rfl rfl) ?_
 refine aq rfl (av rfl (bf.len _ f1)) ?_
 refine aq rfl (ay rfl) ?_
 refine aq rfl (eD (cs:=aD.enc aQ) rfl (by rw [cv]; rfl)) ?_
 refine CV (gy (K:=K) (mo f1) iD) rf rf ?_
 refine SL 2 rf ?_
 refine W0 (bA (M:=ae) (aF.id (L:=ae)) bT.1 bT.1 rfl rfl rfl rfl rfl) ?_
 refine SL 4 rf ?_
 have h:=sj h; subst h
 exact RV rf (ra rf (aY _ _) (rt rf rn)) rf
def eW (n:Nat) (a0:bC) (a1:aj) (a2:Int) (a3:Int):Option (bC × Int):=
 bd (kj n a3) fun aQ =>
 lt ({ Kind:=3,Task:=0,bE:=aQ }:cm) fun bT =>
 bd (eF n a0 a1 a2 a3 bT) fun gN =>
 some (gN.1,gN.2)
theorem kq {n a0 a1 a2 a3 r K} [bz K] {gO} (f1:(ah).rep K gO a1) (h:eW n a0 a1 a2 a3 = some r):qk Try.prog 75 [.agg (ae.enc a0).toArray,A gO, .int .u32 a2, .int .i64 a3] K (.tuple #[.agg (ae.enc r.1).toArray, .int .i64 r.2]):=by
 unfold eW at h
 refine fo Try.func75 (by kernel_rfl) rfl Try.ntmps75 rfl fun cx _ hro cQ hpre=>?_
 refine SC 2 rf ?_
 refine W1 rf (ct ae a0 rfl rfl) fun b4=>?_
 refine W1 rf (bS rfl) fun b5=>?_
 refine W1 rf (bj (L:=ae) (z:=cJ) ⟨by kernel_rfl⟩) fun b8=>?_
 refine SL 4 rf ?_
 obtain ⟨aQ,cv,h⟩:=bp h
 obtain ⟨bT,iD,h⟩:=cN h
 obtain ⟨gN,kZ,h⟩:=bp h
 refine ec mixed (.lq [] [(0,[4]),(1,[5]),(2,[2]),(3,[3]),(4,[3]),(5,[14]),(6,[15]),(7,[10,11,12,13,16]),(8,[17]),(9,[17])] (.alt 10 [8,18] (.lq [] [] (.alt 11 [19] (.fin [] []) .no)) .no)) (by kernel_rfl) ?_
 refine T0 ?_
 refine NV rf rf (aU (M:=ae) (aF.id (L:=ae)) rfl rfl) ?_
 refine NV rf rf (av rfl (bf.len _ f1)) ?_
 refine NS 3 rf ?_
 refine NC rf rf (mB cv) rf ?_
 refine NV rf rf (eD (cs:=aD.enc bT) rfl (by rw [iD]; rfl)) ?_
 refine NC rf rf (gy (K:=K) (mo f1) kZ) rf ?_
 refine NE 2 rf ?_
 refine X0 rf (bA (M:=ae) (aF.id (L:=ae)) gN.1 gN.1 rfl rfl rfl rfl rfl) ?_
 refine Kz ?_
 refine XV rf rf (cO rfl) ?_
 refine sW ?_
 refine SX 2 rf ?_
 have h:=sj h; subst h
 exact RV rf (ra rf (aY _ _) (rt rf rn)) rf
def fy (n:Nat) (a0:bC) (a1:aj) (a2:Int) (a3:Int):Option (bC × Int):=
 lt ({ Kind:=1,Task:=wr .u8 a3,bE:=0 }:cm) fun aQ =>
 bd (eF n a0 a1 a2 a3 aQ) fun bT =>
 some (bT.1,bT.2)
theorem jB {n a0 a1 a2 a3 r K} [bz K] {gO} (f1:(ah).rep K gO a1) (h:fy n a0 a1 a2 a3 = some r):qk Try.prog 74 [.agg (ae.enc a0).toArray,A gO, .int .u32 a2, .int .i64 a3] K (.tuple #[.agg (ae.enc r.1).toArray, .int .i64 r.2]):=by
 unfold fy at h
 refine fo Try.func74 (by kernel_rfl) rfl Try.ntmps74 rfl fun cx _ hro cQ hpre=>?_
 refine SC 2 rf ?_
 refine W1 rf (ct ae a0 rfl rfl) fun b4=>?_
 refine W1 rf (bS rfl) fun b5=>?_
 refine W1 rf (bj (L:=ae) (z:=cJ) ⟨by kernel_rfl⟩) fun b8=>?_
 obtain ⟨aQ,cv,h⟩:=cN h
 obtain ⟨bT,iD,h⟩:=bp h
 refine SL 5 rf ?_
 refine aq rfl (aU (M:=ae) (aF.id (L:=ae)) rfl rfl) ?_
 refine aq rfl (av rfl (bf.len _ f1)) ?_
 refine SL 4 rf ?_
 refine aq rfl (eD (cs:=aD.enc aQ) rfl (by rw [cv]; rfl)) ?_
 refine CV (gy (K:=K) (mo f1) iD) rf rf ?_
 refine SL 2 rf ?_
 refine W0 (bA (M:=ae) (aF.id (L:=ae)) bT.1 bT.1 rfl rfl rfl rfl rfl) ?_
 refine SL 4 rf ?_
 have h:=sj h; subst h
 exact RV rf (ra rf (aY _ _) (rt rf rn)) rf
def gS (n:Nat) (a0:bC) (a1:aj) (a2:Int) (a3:Int):Option (bC × Int):=
 bd (fT n a0 a1 a2 a3 true) fun aQ =>
 some (aQ.1,aQ.2.2)
theorem lB {n a0 a1 a2 a3 r K} [bz K] {gO} (f1:(ah).rep K gO a1) (h:gS n a0 a1 a2 a3 = some r):qk Try.prog 77 [.agg (ae.enc a0).toArray,A gO, .int .u32 a2, .int .i64 a3] K (.tuple #[.agg (ae.enc r.1).toArray, .int .i64 r.2]):=by
 unfold gS at h
 refine fo Try.func77 (by kernel_rfl) rfl Try.ntmps77 rfl fun cx _ hro cQ hpre=>?_
 refine SC 2 rf ?_
 refine W1 rf (ct ae a0 rfl rfl) fun b4=>?_
 refine W1 rf (bS rfl) fun b5=>?_
 refine W1 rf (bj (L:=ae) (z:=cJ) ⟨by kernel_rfl⟩) fun b8=>?_
 obtain ⟨aQ,cv,h⟩:=bp h
 refine SL 5 rf ?_
 refine aq rfl (aU (M:=ae) (aF.id (L:=ae)) rfl rfl) ?_
 refine aq rfl (av rfl (bf.len _ f1)) ?_
 refine SL 2 rf ?_
 refine CV (lA (K:=K) (mo f1) cv) rf rf ?_
 refine SL 4 rf ?_
 refine W1 rf (bj (L:=ae) (z:=cJ) ⟨by kernel_rfl⟩) fun BW=>?_
 refine W0 (bA (M:=ae) (aF.id (L:=ae)) aQ.1 aQ.1 rfl rfl rfl rfl rfl) ?_
 refine SL 6 rf ?_
 refine aq rfl (aU (M:=ae) (aF.id (L:=ae)) rfl rfl) ?_
 refine aq rfl (ay rfl) ?_
 refine W0 (bA (M:=ae) (aF.id (L:=ae)) aQ.1 aQ.1 rfl rfl rfl rfl rfl) ?_
 refine SL 4 rf ?_
 have h:=sj h; subst h
 exact RV rf (ra rf (aY _ _) (rt rf rn)) rf
def iA (n:Nat) (a0:(List fV)) (a1:Int):Option Bool:=
 dW (fun uN (bT:Int) =>
 cn (decide (bT < (a0.length:Int))) (
 gu (dj bT a0.length) <|
 gu (!((decide (9 < ((a0.getD (Int.toNat bT) default).Do))) == true) || dj bT a0.length) <|
 cn ((decide (9 < ((a0.getD (Int.toNat bT) default).Do)) && (((a0.getD (Int.toNat bT) default).A) == a1))) (
 some true) (
 uN (wr .i64 (bT + 1)))) (
 some false)) n 0
theorem p4 {n a0 a1 r K} [bz K] {v0} (f0:Fz K v0 bw a0) (h:iA n a0 a1 = some r):qk Try.prog 73 [v0, .int .u32 a1] K (.bool r):=by
 unfold iA at h
 refine fo Try.func73 (by kernel_rfl) rfl Try.ntmps73 rfl fun cx _ hro cQ hpre=>?_
 refine SC 12 rf ?_
 obtain ⟨yx,tL,h⟩:=oz h
 refine LO (β:=Int) [0,1] [] (fun (tG,bT)=>[(5, .int .i64 bT)]) (fun (tG,bT)=>[]) (fun (tG,bT)=>dW yx tG bT = some r) (n,0) h rf rf rf ?_
 rintro tG bT h
 replace h:=oy tL h; obtain ⟨tG,rfl,h⟩:=h
 refine SC 5 rf ?_
 refine aq rfl (ef f0 rfl) ?_
 refine SL 3 rf ?_
 refine fz h rf (fun hc h=>?_) fun hc h=>?_
 ·
  obtain ⟨pP,h⟩:=dO h
  obtain ⟨AK,h⟩:=dO h
  refine SC 8 rf ?_
  refine aq rfl (ew (m:=(Int.toNat bT)) f0 rfl rfl rfl (aC pP).1 (aC pP).2) ?_
  refine aq rfl (wj f0 rfl (aC pP).2) ?_
  refine aq rfl (eT f0 ((aF.idx (L:=bw) (m:=(a0.length)) (k:=5) ((Int.toNat bT)) (aC pP).2 rfl).comp iN) rfl) ?_
  refine SL 2 rf ?_
  refine GB rf rf rf (fun hb=>ay rfl) ?_
  refine GB rf rf rf (fun hb=>ay rfl) ?_
  refine GB rf rf rf (fun hb=>ew (m:=(Int.toNat bT)) f0 rfl (bN rfl hb) (bN rfl hb) (aC (jH AK hb)).1 (aC (jH AK hb)).2) ?_
  refine GB rf rf rf (fun hb=>wj f0 (bN rfl hb) (aC (jH AK hb)).2) ?_
  refine GB rf rf rf (fun hb=>eT f0 ((aF.idx (L:=bw) (m:=(a0.length)) (k:=5) ((Int.toNat bT)) (aC (jH AK hb)).2 rfl).comp je) (bN rfl hb)) ?_
  refine GB rf rf rf (fun hb=>ay rfl) ?_
  refine GB rf rf rf (fun hb=>fP (bN rfl hb) (bN rfl hb)) ?_
  refine aq rfl (cA rfl rfl) ?_
  refine SL 2 rf ?_
  refine fz h rf (fun hc h=>?_) fun hc h=>?_
  ·
   refine SC 11 rf ?_
   have h:=sj h; subst h
   exact RV rf (rt rf rn) rf
  ·
   refine SC 8 rf ?_
   exact LN [] (wr .i64 (bT + 1)) h rf rf rf
 ·
  refine SC 11 rf ?_
  have h:=sj h; subst h
  exact RV rf (rt rf rn) rf
def fR (n:Nat) (a0:cm) (a1:Int):Option Bool:=
 cl ((((a0.Kind == 3) && decide (0 ≤ a1)) && decide (a1 < 8)) == true) (kj n a1) default fun aQ =>
 some ((((a0.Kind == 3) && decide (0 ≤ a1)) && decide (a1 < 8)) && ((lK .u8 a0.bE aQ) != 0))
theorem nC {n a0 a1 r q1} (h:fR n a0 a1 = some r):Bw.Fn (α:=Unit) Try.prog 163 [.agg (aD.enc a0).toArray,Ptr q1 0] (wB (bx [.cells q1 3 ((LI .i64).enc a1)]) (fun _=>True)) [.cells q1 3 ((LI .i64).enc a1)] (fun _=>True) (fun _=>(.bool r)) (fun _=>[.cells q1 3 ((LI .i64).enc a1)]):=by
 unfold fR at h
 refine eV Try.func163 (by kernel_rfl) rfl Try.ntmps163 rfl (fun cx cQ hpre hro=>?_)
 refine SC 2 rf ?_
 refine W1 rf (ct aD a0 rfl rfl) fun b2=>?_
 refine SL 4 rf ?_
 obtain ⟨aQ,cv,_,h⟩:=j2 h
 refine ec mixed (.lq [] [(0,[2]),(1,[4]),(2,[5]),(3,[6]),(4,[1,7]),(5,[7,8]),(6,[7,9]),(7,[10]),(8,[1,11]),(9,[11,12]),(10,[11,13]),(11,[14]),(12,[2,15]),(13,[15,16]),(14,[1,15]),(15,[15,18]),(16,[15,17,19]),(17,[15,20]),(18,[15,21])] (.alt 19 [22] (.fin [] []) .no)) (by kernel_rfl) ?_
 refine T0 ?_
 refine NS 1 rf ?_
 refine NV rf rf (aR cZ rfl) ?_
 refine NS 2 rf ?_
 refine NG rf rf (dR rfl rfl) (fun hb=>aR (aF.id (L:=(LI .i64))) rfl) ?_
 refine NG rf rf (dR rfl rfl) (fun hb=>nh (bN rfl hb) rfl) ?_
 refine NV rf rf (cA rfl rfl) ?_
 refine NS 1 rf ?_
 refine NG rf rf (dR rfl rfl) (fun hb=>aR (aF.id (L:=(LI .i64))) rfl) ?_
 refine NG rf rf (dR rfl rfl) (fun hb=>zz (bN rfl hb) rfl) ?_
 refine NV rf rf (cA rfl rfl) ?_
 refine NS 1 rf ?_
 refine NG rf rf (dR rfl rfl) (fun hb=>aN rfl) ?_
 refine NG rf rf (dR rfl rfl) (fun hb=>aR dF (bN rfl hb)) ?_
 refine NG rf rf (dR rfl rfl) (fun hb=>aR (aF.id (L:=(LI .i64))) rfl) ?_
 refine NG rf rf (dR rfl rfl) (fun hb=>dK (mB (cv hb)) (aP (bN rfl hb) rfl) (fun _ _ _=>trivial)) ?_
 refine NG rf rf (dR rfl rfl) (fun hb=>oZ (bN rfl hb) (bN rfl hb)) ?_
 refine NG rf rf (dR rfl rfl) (fun hb=>iY (bN rfl hb) rfl) ?_
 refine NV rf rf (cA rfl rfl) ?_
 refine dH ?_
 refine XV rf rf (cO rfl) ?_
 refine sW ?_
 refine SX 2 rf ?_
 have h:=sj h; subst h
 exact cY () rfl (.tmp rfl .nil) trivial rfl (ks:=[1]) rfl (by decide)
def cP (n:Nat) (a0:bC) (a1:aj) (ld:Int):Option (List Int):=
 bd (dS n a1.book) fun aQ =>
 di (fun uM (dy:(List Int)) (cR:Int) =>
 cn (decide (cR < (aQ.length:Int))) (
 gu (dj cR aQ.length) <|
 bd (dw n a1 (aQ.getD (Int.toNat cR) default)) fun jE =>
 cl ((jE == (aQ.getD (Int.toNat cR) default)) == true) (cH n a0 a1 (aQ.getD (Int.toNat cR) default)) default fun g5 =>
 cl ((jE == (aQ.getD (Int.toNat cR) default)) == true) (fR n g5 ld) default fun bR =>
 cn (((jE == (aQ.getD (Int.toNat cR) default)) && bR)) (
 gu (jP dy.length 1 4) <|
 lt (dy++([(aQ.getD (Int.toNat cR) default)]):List Int) fun lO =>
 uM lO (wr .i64 (cR + 1))) (
 uM dy (wr .i64 (cR + 1)))) (
 some dy)) n ([]) 0
theorem ig {n a0 a1 ld r K} [bz K] {gO} (f1:(ah).rep K gO a1) {mS:Nat} (h:cP n a0 a1 ld = some r):HN Try.prog 161 [.agg (ae.enc a0).toArray,A gO, .func (.func 163) #[] #[Ptr mS 0]] K [.cells mS 3 ((LI .i64).enc ld)] (fun J v ho=>∃u0,v = (u0)∧ho = [.cells mS 3 ((LI .i64).enc ld)]∧Fz (fun w=>K w∧J w) u0 (LI .u32) (r)):=by
 unfold cP at h
 refine eV Try.func161 (by kernel_rfl) rfl Try.ntmps161 rfl (fun cx cQ hpre hro=>?_)
 haveI:=gZ cQ hpre
 refine SC 2 rf ?_
 refine W1 rf (ct ae a0 rfl rfl) fun b3=>?_
 refine W1 rf (bS rfl) fun b4=>?_
 obtain ⟨aQ,cv,h⟩:=bp h
 refine SL 12 rf ?_
 refine aq rfl (bq rfl (aW.iff.1 (aE.get f1)) (aY _ _)) ?_
 refine eu rfl (fC (gK cv) rfl (fun _ _ _=>trivial)) (fun zL jA=>?_)
 dsimp only [List.cons_append,List.nil_append]
 refine aq rfl (ef (Fz.row (e:=69) (sz:=1) (L:=(LI .u32)) (xs:=aQ) rfl jA) rfl) ?_
 refine SL 4 rf ?_
 refine nG 69 1 (LI .u32) ?_
 obtain ⟨yw,tK,h⟩:=ox h
 refine LO (β:=(List Int) × Int × Value) [2,3,4,12,13] [0,1,2,3,4] (fun (tF,dy,cR,mO)=>[(7,mO),(14, .int .i64 cR)]) (fun (tF,dy,cR,mO)=>[Row mO 69 1 (LI .u32) dy,Row zL 69 1 (LI .u32) aQ, .cells b4 77 gO, .cells b3 146 (ae.enc a0), .cells mS 3 ((LI .i64).enc ld)]) (fun (tF,dy,cR,mO)=>ke mO dy.length∧di yw tF dy cR = some r) (n,[],0, .slice none 0 0) ⟨⟨_,_,rfl⟩,h⟩ rf rf rf ?_
 rintro tF ⟨dy,cR,mO⟩ ⟨yJ,h⟩
 replace h:=ow tK h; obtain ⟨tF,rfl,h⟩:=h
 refine SC 6 rf ?_
 refine fz h rf (fun hc h=>?_) fun hc h=>?_
 ·
  obtain ⟨pO,h⟩:=dO h
  refine SC 6 rf ?_
  refine aq rfl (ew (m:=(Int.toNat cR)) (Fz.row (e:=69) (sz:=1) (L:=(LI .u32)) (xs:=aQ) rfl jA) rfl rfl rfl (aC pO).1 (aC pO).2) ?_
  refine aq rfl (eT (Fz.row (e:=69) (sz:=1) (L:=(LI .u32)) (xs:=aQ) rfl jA) (aF.idx (L:=(LI .u32)) (m:=(aQ.length)) (k:=1) ((Int.toNat cR)) (aC pO).2 rfl) rfl) ?_
  obtain ⟨jE,rR,h⟩:=bp h
  obtain ⟨g5,qu,_,h⟩:=j2 h
  obtain ⟨bR,mC,_,h⟩:=j2 h
  refine SL 5 rf ?_
  refine aq rfl (av rfl (bf.len _ f1)) ?_
  refine aq rfl (ay rfl) ?_
  refine CV (eI (K:=K) (mo f1) rR) rf rf ?_
  refine SL 3 rf ?_
  refine GB rf rf rf (fun hb=>ay rfl) ?_
  refine GB rf rf rf (fun hb=>aU (M:=ae) (aF.id (L:=ae)) rfl rfl) ?_
  refine GB rf rf rf (fun hb=>av rfl (bf.len _ f1)) ?_
  refine GB rf rf rf (fun hb=>ay rfl) ?_
  refine GB rf rf rf (fun hb=>dK (cW (K:=K) (mo f1) (qu hb)) (aP (bN rfl hb) (aP (bN rfl hb) (aP (bN rfl hb) rfl))) kn) ?_
  refine ru (dR rfl rfl) rfl (fun hb=>nC (mC hb)) (fun hb=>(bN rfl hb)) (fun hb=>(aP (bN rfl hb) rfl)) rfl (kC:=[.cells mS 3 ((LI .i64).enc ld)]) (EJ:=[Row mO 69 1 (LI .u32) dy,Row zL 69 1 (LI .u32) aQ, .cells b4 77 gO, .cells b3 146 (ae.enc a0)]) (ks:=[4,0,1,2,3]) rfl (by decide) (fun hb=>inferInstance) ?_
  dsimp only [List.cons_append,List.nil_append]
  refine aq rfl (cA rfl rfl) ?_
  refine SL 2 rf ?_
  refine fz h rf (fun hc h=>?_) fun hc h=>?_
  ·
   obtain ⟨yV,h⟩:=dO h
   obtain ⟨lO,uQ,h⟩:=cN h
   refine SC 3 rf ?_
   refine eu rfl (lf (LI .u32) (aQ.getD (Int.toNat cR) default) rfl rfl rfl rfl (by decide) (by decide)) (fun Lb _=>?_)
   refine eu rfl (kz (sz:=1) (L:=(LI .u32)) (xs:=dy) (y:=(aQ.getD (Int.toNat cR) default)) (bytes:=4) rfl rfl rfl (fZ yV).1 (fZ yV).2) (fun HV uX=>?_)
   rw [← uQ] at uX; rw [← uQ]
   refine SL 8 rf ?_
   exact LN [2,3,4,5,1] (lO,wr .i64 (cR + 1),HV) ⟨uX,h⟩ rf rf rf
  ·
   refine SC 7 rf ?_
   exact LN [1,2,3,4,0] (dy,wr .i64 (cR + 1),mO) ⟨yJ,h⟩ rf rf rf
 ·
  refine SC 12 rf ?_
  have h:=sj h; subst h
  refine bK (R:=[Row mO 69 1 (LI .u32) dy]) (H':=[.cells mS 3 ((LI .i64).enc ld)]) (ks:=[0,4]) rfl (by decide) ?_
  have Ib:Fz (fun w=>K w∧(Hs [.ext (bx [Row mO 69 1 (LI .u32) dy]) (Hs [Row mO 69 1 (LI .u32) dy])]) w) mO (LI .u32) dy:=(Fz.row (e:=69) (sz:=1) (L:=(LI .u32)) (xs:=dy) rfl yJ).mono n8
  exact cY (mO,[.cells mS 3 ((LI .i64).enc ld)],bx [Row mO 69 1 (LI .u32) dy],Hs [Row mO 69 1 (LI .u32) dy]) rfl (.tmp rfl .nil) ⟨_,rfl,rfl,Ib⟩ rfl (ks:=[0,1]) rfl (by decide)
def fU (n:Nat) (a0:bC) (a1:aj) (a2:Int):Option (List Int):=
 bd (cP n a0 a1 a2) fun aQ =>
 some aQ
theorem lC {n a0 a1 a2 r K} [bz K] {gO} (f1:(ah).rep K gO a1) (h:fU n a0 a1 a2 = some r):uv Try.prog 137 [.agg (ae.enc a0).toArray,A gO, .int .i64 a2] K (fun J v=>Fz (fun w=>K w∧J w) v (LI .u32) r):=by
 unfold fU at h
 refine fo Try.func137 (by kernel_rfl) rfl Try.ntmps137 rfl fun cx _ hro cQ hpre=>?_
 refine SC 2 rf ?_
 refine W1 rf (ct ae a0 rfl rfl) fun b3=>?_
 refine W1 rf (bS rfl) fun b4=>?_
 refine W1 rf (ct (LI .i64) a2 rfl rfl) fun b5=>?_
 obtain ⟨aQ,cv,h⟩:=bp h
 refine SL 5 rf ?_
 refine aq rfl (aU (M:=ae) (aF.id (L:=ae)) rfl rfl) ?_
 refine aq rfl (av rfl (bf.len _ f1)) ?_
 refine aq rfl (ku rfl) ?_
 refine eu rfl (gA (K:=K) (kC:=[.cells b5 3 ((LI .i64).enc a2)]) (rest:=[.cells b4 77 gO, .cells b3 146 (ae.enc a0)]) (ks:=[0,1,2]) (ig (K:=K) (mo f1) cv) rfl rfl rfl rfl (by decide)) (fun ⟨sS,FJ,dP,ja⟩ uZ=>?_)
 obtain ⟨uq,rfl,rfl,f26⟩:=uZ
 replace f26:Fz (fun w=>K w∧Hs [.ext dP ja] w) sS (LI .u32) aQ:=f26
 dsimp only [List.cons_append,List.nil_append]
 refine SL 4 rf ?_
 have h:=sj h; subst h
 refine bK (R:=[.ext dP ja]) (H':=[]) (ks:=[0]) rfl (by decide) ?_
 have ET:Fz (fun w=>K w∧(Hs [.ext (bx [.ext dP ja]) (Hs [.ext dP ja])]) w) sS (LI .u32) aQ:=f26.mono n8
 exact cY (sS,bx [.ext dP ja],Hs [.ext dP ja]) rfl (.tmp rfl .nil) ET rfl (ks:=[0]) rfl (by decide)
def gI (n:Nat) (a0:cm) (a1:Int):Option Bool:=
 some ((a0.Kind == 1) && ((wr .i64 a0.Task) == a1))
theorem nc {n a0 a1 r q1} (h:gI n a0 a1 = some r):Bw.Fn (α:=Unit) Try.prog 162 [.agg (aD.enc a0).toArray,Ptr q1 0] (wB (bx [.cells q1 3 ((LI .i64).enc a1)]) (fun _=>True)) [.cells q1 3 ((LI .i64).enc a1)] (fun _=>True) (fun _=>(.bool r)) (fun _=>[.cells q1 3 ((LI .i64).enc a1)]):=by
 unfold gI at h
 refine eV Try.func162 (by kernel_rfl) rfl Try.ntmps162 rfl (fun cx cQ hpre hro=>?_)
 refine SC 2 rf ?_
 refine W1 rf (ct aD a0 rfl rfl) fun b2=>?_
 refine SL 6 rf ?_
 refine aq rfl (aR cZ rfl) ?_
 refine SL 2 rf ?_
 refine GB rf rf rf (fun hb=>aN rfl) ?_
 refine GB rf rf rf (fun hb=>aR mj (bN rfl hb)) ?_
 refine GB rf rf rf (fun hb=>wk (bN rfl hb) rfl) ?_
 refine GB rf rf rf (fun hb=>aR (aF.id (L:=(LI .i64))) rfl) ?_
 refine GB rf rf rf (fun hb=>fP (bN rfl hb) (bN rfl hb)) ?_
 refine aq rfl (cA rfl rfl) ?_
 refine SL 4 rf ?_
 have h:=sj h; subst h
 exact cY () rfl (.tmp rfl .nil) trivial rfl (ks:=[1]) rfl (by decide)
def cM (n:Nat) (a0:bC) (a1:aj) (ld:Int):Option (List Int):=
 bd (dS n a1.book) fun aQ =>
 di (fun uM (dy:(List Int)) (cR:Int) =>
 cn (decide (cR < (aQ.length:Int))) (
 gu (dj cR aQ.length) <|
 bd (dw n a1 (aQ.getD (Int.toNat cR) default)) fun jE =>
 cl ((jE == (aQ.getD (Int.toNat cR) default)) == true) (cH n a0 a1 (aQ.getD (Int.toNat cR) default)) default fun g5 =>
 cl ((jE == (aQ.getD (Int.toNat cR) default)) == true) (gI n g5 ld) default fun bR =>
 cn (((jE == (aQ.getD (Int.toNat cR) default)) && bR)) (
 gu (jP dy.length 1 4) <|
 lt (dy++([(aQ.getD (Int.toNat cR) default)]):List Int) fun lO =>
 uM lO (wr .i64 (cR + 1))) (
 uM dy (wr .i64 (cR + 1)))) (
 some dy)) n ([]) 0
theorem hJ {n a0 a1 ld r K} [bz K] {gO} (f1:(ah).rep K gO a1) {mS:Nat} (h:cM n a0 a1 ld = some r):HN Try.prog 161 [.agg (ae.enc a0).toArray,A gO, .func (.func 162) #[] #[Ptr mS 0]] K [.cells mS 3 ((LI .i64).enc ld)] (fun J v ho=>∃u0,v = (u0)∧ho = [.cells mS 3 ((LI .i64).enc ld)]∧Fz (fun w=>K w∧J w) u0 (LI .u32) (r)):=by
 unfold cM at h
 refine eV Try.func161 (by kernel_rfl) rfl Try.ntmps161 rfl (fun cx cQ hpre hro=>?_)
 haveI:=gZ cQ hpre
 refine SC 2 rf ?_
 refine W1 rf (ct ae a0 rfl rfl) fun b3=>?_
 refine W1 rf (bS rfl) fun b4=>?_
 obtain ⟨aQ,cv,h⟩:=bp h
 refine SL 12 rf ?_
 refine aq rfl (bq rfl (aW.iff.1 (aE.get f1)) (aY _ _)) ?_
 refine eu rfl (fC (gK cv) rfl (fun _ _ _=>trivial)) (fun zL jA=>?_)
 dsimp only [List.cons_append,List.nil_append]
 refine aq rfl (ef (Fz.row (e:=69) (sz:=1) (L:=(LI .u32)) (xs:=aQ) rfl jA) rfl) ?_
 refine SL 4 rf ?_
 refine nG 69 1 (LI .u32) ?_
 obtain ⟨yw,tK,h⟩:=ox h
 refine LO (β:=(List Int) × Int × Value) [2,3,4,12,13] [0,1,2,3,4] (fun (tF,dy,cR,mO)=>[(7,mO),(14, .int .i64 cR)]) (fun (tF,dy,cR,mO)=>[Row mO 69 1 (LI .u32) dy,Row zL 69 1 (LI .u32) aQ, .cells b4 77 gO, .cells b3 146 (ae.enc a0), .cells mS 3 ((LI .i64).enc ld)]) (fun (tF,dy,cR,mO)=>ke mO dy.length∧di yw tF dy cR = some r) (n,[],0, .slice none 0 0) ⟨⟨_,_,rfl⟩,h⟩ rf rf rf ?_
 rintro tF ⟨dy,cR,mO⟩ ⟨yJ,h⟩
 replace h:=ow tK h; obtain ⟨tF,rfl,h⟩:=h
 refine SC 6 rf ?_
 refine fz h rf (fun hc h=>?_) fun hc h=>?_
 ·
  obtain ⟨pO,h⟩:=dO h
  refine SC 6 rf ?_
  refine aq rfl (ew (m:=(Int.toNat cR)) (Fz.row (e:=69) (sz:=1) (L:=(LI .u32)) (xs:=aQ) rfl jA) rfl rfl rfl (aC pO).1 (aC pO).2) ?_
  refine aq rfl (eT (Fz.row (e:=69) (sz:=1) (L:=(LI .u32)) (xs:=aQ) rfl jA) (aF.idx (L:=(LI .u32)) (m:=(aQ.length)) (k:=1) ((Int.toNat cR)) (aC pO).2 rfl) rfl) ?_
  obtain ⟨jE,rR,h⟩:=bp h
  obtain ⟨g5,qu,_,h⟩:=j2 h
  obtain ⟨bR,mC,_,h⟩:=j2 h
  refine SL 5 rf ?_
  refine aq rfl (av rfl (bf.len _ f1)) ?_
  refine aq rfl (ay rfl) ?_
  refine CV (eI (K:=K) (mo f1) rR) rf rf ?_
  refine SL 3 rf ?_
  refine GB rf rf rf (fun hb=>ay rfl) ?_
  refine GB rf rf rf (fun hb=>aU (M:=ae) (aF.id (L:=ae)) rfl rfl) ?_
  refine GB rf rf rf (fun hb=>av rfl (bf.len _ f1)) ?_
  refine GB rf rf rf (fun hb=>ay rfl) ?_
  refine GB rf rf rf (fun hb=>dK (cW (K:=K) (mo f1) (qu hb)) (aP (bN rfl hb) (aP (bN rfl hb) (aP (bN rfl hb) rfl))) kn) ?_
  refine ru (dR rfl rfl) rfl (fun hb=>nc (mC hb)) (fun hb=>(bN rfl hb)) (fun hb=>(aP (bN rfl hb) rfl)) rfl (kC:=[.cells mS 3 ((LI .i64).enc ld)]) (EJ:=[Row mO 69 1 (LI .u32) dy,Row zL 69 1 (LI .u32) aQ, .cells b4 77 gO, .cells b3 146 (ae.enc a0)]) (ks:=[4,0,1,2,3]) rfl (by decide) (fun hb=>inferInstance) ?_
  dsimp only [List.cons_append,List.nil_append]
  refine aq rfl (cA rfl rfl) ?_
  refine SL 2 rf ?_
  refine fz h rf (fun hc h=>?_) fun hc h=>?_
  ·
   obtain ⟨yV,h⟩:=dO h
   obtain ⟨lO,uQ,h⟩:=cN h
   refine SC 3 rf ?_
   refine eu rfl (lf (LI .u32) (aQ.getD (Int.toNat cR) default) rfl rfl rfl rfl (by decide) (by decide)) (fun Lb _=>?_)
   refine eu rfl (kz (sz:=1) (L:=(LI .u32)) (xs:=dy) (y:=(aQ.getD (Int.toNat cR) default)) (bytes:=4) rfl rfl rfl (fZ yV).1 (fZ yV).2) (fun HV uX=>?_)
   rw [← uQ] at uX; rw [← uQ]
   refine SL 8 rf ?_
   exact LN [2,3,4,5,1] (lO,wr .i64 (cR + 1),HV) ⟨uX,h⟩ rf rf rf
  ·
   refine SC 7 rf ?_
   exact LN [1,2,3,4,0] (dy,wr .i64 (cR + 1),mO) ⟨yJ,h⟩ rf rf rf
 ·
  refine SC 12 rf ?_
  have h:=sj h; subst h
  refine bK (R:=[Row mO 69 1 (LI .u32) dy]) (H':=[.cells mS 3 ((LI .i64).enc ld)]) (ks:=[0,4]) rfl (by decide) ?_
  have Ib:Fz (fun w=>K w∧(Hs [.ext (bx [Row mO 69 1 (LI .u32) dy]) (Hs [Row mO 69 1 (LI .u32) dy])]) w) mO (LI .u32) dy:=(Fz.row (e:=69) (sz:=1) (L:=(LI .u32)) (xs:=dy) rfl yJ).mono n8
  exact cY (mO,[.cells mS 3 ((LI .i64).enc ld)],bx [Row mO 69 1 (LI .u32) dy],Hs [Row mO 69 1 (LI .u32) dy]) rfl (.tmp rfl .nil) ⟨_,rfl,rfl,Ib⟩ rfl (ks:=[0,1]) rfl (by decide)
def fF (n:Nat) (a0:bC) (a1:aj) (a2:Int):Option (List Int):=
 bd (cM n a0 a1 a2) fun aQ =>
 some aQ
theorem kR {n a0 a1 a2 r K} [bz K] {gO} (f1:(ah).rep K gO a1) (h:fF n a0 a1 a2 = some r):uv Try.prog 136 [.agg (ae.enc a0).toArray,A gO, .int .i64 a2] K (fun J v=>Fz (fun w=>K w∧J w) v (LI .u32) r):=by
 unfold fF at h
 refine fo Try.func136 (by kernel_rfl) rfl Try.ntmps136 rfl fun cx _ hro cQ hpre=>?_
 refine SC 2 rf ?_
 refine W1 rf (ct ae a0 rfl rfl) fun b3=>?_
 refine W1 rf (bS rfl) fun b4=>?_
 refine W1 rf (ct (LI .i64) a2 rfl rfl) fun b5=>?_
 obtain ⟨aQ,cv,h⟩:=bp h
 refine SL 5 rf ?_
 refine aq rfl (aU (M:=ae) (aF.id (L:=ae)) rfl rfl) ?_
 refine aq rfl (av rfl (bf.len _ f1)) ?_
 refine aq rfl (ku rfl) ?_
 refine eu rfl (gA (K:=K) (kC:=[.cells b5 3 ((LI .i64).enc a2)]) (rest:=[.cells b4 77 gO, .cells b3 146 (ae.enc a0)]) (ks:=[0,1,2]) (hJ (K:=K) (mo f1) cv) rfl rfl rfl rfl (by decide)) (fun ⟨sS,FJ,dP,ja⟩ uZ=>?_)
 obtain ⟨uq,rfl,rfl,f26⟩:=uZ
 replace f26:Fz (fun w=>K w∧Hs [.ext dP ja] w) sS (LI .u32) aQ:=f26
 dsimp only [List.cons_append,List.nil_append]
 refine SL 4 rf ?_
 have h:=sj h; subst h
 refine bK (R:=[.ext dP ja]) (H':=[]) (ks:=[0]) rfl (by decide) ?_
 have ET:Fz (fun w=>K w∧(Hs [.ext (bx [.ext dP ja]) (Hs [.ext dP ja])]) w) sS (LI .u32) aQ:=f26.mono n8
 exact cY (sS,bx [.ext dP ja],Hs [.ext dP ja]) rfl (.tmp rfl .nil) ET rfl (ks:=[0]) rfl (by decide)
def kL (n:Nat) (a0:(List Int)) (a1:Int):Option Int:=
 di (fun KK (gN:Int) (ju:Int) =>
 cn (decide (ju < (a0.length:Int))) (
 gu (dj ju a0.length) <|
 cn (((a0.getD (Int.toNat ju) default) == a1)) (
 KK (wr .i64 (gN + 1)) (wr .i64 (ju + 1))) (
 KK gN (wr .i64 (ju + 1)))) (
 some gN)) n 0 0
theorem pZ {n a0 a1 r K} [bz K] {v0} (f0:Fz K v0 (LI .u32) a0) (h:kL n a0 a1 = some r):qk Try.prog 142 [v0, .int .u32 a1] K (.int .i64 r):=by
 unfold kL at h
 refine fo Try.func142 (by kernel_rfl) rfl Try.ntmps142 rfl fun cx _ hro cQ hpre=>?_
 refine SC 17 rf ?_
 obtain ⟨Iz,FW,h⟩:=ox h
 refine LO (β:=Int × Int) [0,1] [] (fun (E4,gN,ju)=>[(5, .int .i64 gN),(6, .int .i64 ju)]) (fun (E4,gN,ju)=>[]) (fun (E4,gN,ju)=>di Iz E4 gN ju = some r) (n,0,0) h rf rf rf ?_
 rintro E4 ⟨gN,ju⟩ h
 replace h:=ow FW h; obtain ⟨E4,rfl,h⟩:=h
 refine SC 5 rf ?_
 refine aq rfl (ef f0 rfl) ?_
 refine SL 3 rf ?_
 refine fz h rf (fun hc h=>?_) fun hc h=>?_
 ·
  obtain ⟨u5,h⟩:=dO h
  refine SC 8 rf ?_
  refine aq rfl (ew (m:=(Int.toNat ju)) f0 rfl rfl rfl (aC u5).1 (aC u5).2) ?_
  refine aq rfl (eT f0 (aF.idx (L:=(LI .u32)) (m:=(a0.length)) (k:=1) ((Int.toNat ju)) (aC u5).2 rfl) rfl) ?_
  refine SL 4 rf ?_
  refine fz h rf (fun hc h=>?_) fun hc h=>?_
  ·
   refine SC 12 rf ?_
   exact LN [] (wr .i64 (gN + 1),wr .i64 (ju + 1)) h rf rf rf
  ·
   refine SC 8 rf ?_
   exact LN [] (gN,wr .i64 (ju + 1)) h rf rf rf
 ·
  refine SC 12 rf ?_
  have h:=sj h; subst h
  exact RV rf (rt rf rn) rf
def iV (n:Nat) (a0:aj) (a1:bC):Option Bool:=
 bd (dS n a0.book) fun aQ =>
 dW (fun As (dz:Int) =>
 cn (decide (dz < (aQ.length:Int))) (
 gu (dj dz aQ.length) <|
 bd (cH n a1 a0 (aQ.getD (Int.toNat dz) default)) fun dy =>
 gu (dj dz aQ.length) <|
 bd (dw n a0 (aQ.getD (Int.toNat dz) default)) fun gB =>
 bd (cH n a1 a0 gB) fun cR =>
 cn (((((!(cB dy cR)) || decide (3 < dy.Kind)) || ((dy.Kind != 3) && (dy.bE != 0))) || ((dy.Kind != 1) && (dy.Task != 0)))) (
 some false) (
 jG (fun L3 (fx:Int) (jE:Int) (g5:Int) =>
 cn (decide (g5 < 8)) (
 bd (fF n a1 a0 g5) fun mw =>
 gu (dj dz aQ.length) <|
 bd (kL n mw (aQ.getD (Int.toNat dz) default)) fun D6 =>
 bd (fU n a1 a0 g5) fun HS =>
 gu (dj dz aQ.length) <|
 bd (kL n HS (aQ.getD (Int.toNat dz) default)) fun HR =>
 L3 (wr .i64 (fx + D6)) (wr .i64 (jE + HR)) (wr .i64 (g5 + 1))) (
 cn ((decide (1 < fx) || ((fx == 1) && decide (0 < jE)))) (
 some false) (
 As (wr .i64 (dz + 1))))) n 0 0 0)) (
 some true)) n 0
theorem tY {n a0 a1 r K} [bz K] {eN} (f0:(ah).rep K eN a0) (h:iV n a0 a1 = some r):qk Try.prog 79 [A eN, .agg (ae.enc a1).toArray] K (.bool r):=by
 unfold iV at h
 refine fo Try.func79 (by kernel_rfl) rfl Try.ntmps79 rfl fun cx _ hro cQ hpre=>?_
 refine SC 2 rf ?_
 refine W1 rf (bS rfl) fun b2=>?_
 refine W1 rf (ct ae a1 rfl rfl) fun b3=>?_
 obtain ⟨aQ,cv,h⟩:=bp h
 refine SL 6 rf ?_
 refine aq rfl (bq rfl (aW.iff.1 (aE.get f0)) (aY _ _)) ?_
 refine eu rfl (fC (gK cv) rfl (fun _ _ _=>trivial)) (fun zL jA=>?_)
 dsimp only [List.cons_append,List.nil_append]
 refine SL 10 rf ?_
 obtain ⟨Iy,FV,h⟩:=oz h
 refine LO (β:=Int) [2,3,5] [0,1,2] (fun (E3,dz)=>[(6, .int .i64 dz)]) (fun (E3,dz)=>[Row zL 69 1 (LI .u32) aQ, .cells b3 146 (ae.enc a1), .cells b2 77 eN]) (fun (E3,dz)=>dW Iy E3 dz = some r) (n,0) h rf rf rf ?_
 rintro E3 dz h
 replace h:=oy FV h; obtain ⟨E3,rfl,h⟩:=h
 refine SC 5 rf ?_
 refine aq rfl (ef (Fz.row (e:=69) (sz:=1) (L:=(LI .u32)) (xs:=aQ) rfl jA) rfl) ?_
 refine SL 3 rf ?_
 refine fz h rf (fun hc h=>?_) fun hc h=>?_
 ·
  refine SC 5 rf ?_
  obtain ⟨xb,h⟩:=dO h
  obtain ⟨dy,AA,h⟩:=bp h
  refine ec mixed (.lq [] [(0,[3]),(1,[2]),(2,[5]),(3,[6]),(4,[22,23]),(5,[24]),(6,[20,21,25])] (.alt 7 [] (.lq [(0,[3]),(1,[2]),(2,[5]),(3,[6]),(4,[22,23]),(5,[24]),(6,[20,21,25])] [] (.alt 8 [7,26] (.fin [] []) .no)) .no)) (by kernel_rfl) ?_
  refine T0 ?_
  refine NV rf rf (aU (M:=ae) (aF.id (L:=ae)) rfl rfl) ?_
  refine NV rf rf (av rfl (bf.len _ f0)) ?_
  refine NS 2 rf ?_
  refine NV rf rf (ew (m:=(Int.toNat dz)) (Fz.row (e:=69) (sz:=1) (L:=(LI .u32)) (xs:=aQ) rfl jA) rfl rfl rfl (aC xb).1 (aC xb).2) ?_
  refine NV rf rf (eT (Fz.row (e:=69) (sz:=1) (L:=(LI .u32)) (xs:=aQ) rfl jA) (aF.idx (L:=(LI .u32)) (m:=(aQ.length)) (k:=1) ((Int.toNat dz)) (aC xb).2 rfl) rfl) ?_
  refine NC rf rf (cW (K:=K) (mo f0) AA) rf ?_
  refine dH ?_
  refine X1 rf rf (bj (L:=aD) (z:=iX) ⟨by kernel_rfl⟩) fun b7 _=>?_
  refine kx ?_ ?_
  ·
   refine RO rf rf (aU (M:=ae) (aF.id (L:=ae)) rfl rfl) rf ?_
   refine RO rf rf (av rfl (bf.len _ f0)) rf ?_
   refine G7 2 rf rf ?_
   refine RO rf rf (ew (m:=(Int.toNat dz)) (Fz.row (e:=69) (sz:=1) (L:=(LI .u32)) (xs:=aQ) rfl jA) rfl rfl rfl (aC xb).1 (aC xb).2) rf ?_
   refine RO rf rf (eT (Fz.row (e:=69) (sz:=1) (L:=(LI .u32)) (xs:=aQ) rfl jA) (aF.idx (L:=(LI .u32)) (m:=(aQ.length)) (k:=1) ((Int.toNat dz)) (aC xb).2 rfl) rfl) rf ?_
   refine RO rf rf (dK (cW (K:=K) (mo f0) AA) rfl kn) rf ?_
   exact qc
  refine dH ?_
  refine X0 rf (bA (M:=aD) (aF.id (L:=aD)) dy dy rfl rfl rfl rfl rfl) ?_
  refine sW ?_
  refine SX 3 rf ?_
  obtain ⟨u4,h⟩:=dO h
  obtain ⟨gB,rS,h⟩:=bp h
  obtain ⟨cR,pI,h⟩:=bp h
  refine ec mixed (.fin [] [(0,[7]),(1,[3]),(2,[2]),(3,[2]),(4,[5]),(5,[6]),(6,[31,32]),(7,[33]),(8,[30,34]),(9,[28,29,35]),(10,[27,36]),(11,[37]),(12,[7,38]),(13,[38,39]),(14,[38,40]),(15,[38,41]),(16,[42]),(17,[7,43]),(18,[43,44]),(19,[43,45]),(20,[43,46]),(21,[7,47]),(22,[47,48]),(23,[47,49]),(24,[43,47,50]),(25,[43,51]),(26,[52]),(27,[7,53]),(28,[53,54]),(29,[53,55]),(30,[53,56]),(31,[7,57]),(32,[57,58]),(33,[57,59]),(34,[53,57,60]),(35,[53,61])]) (by kernel_rfl) ?_
  refine F0 ?_
  refine NV rf rf (aU (M:=aD) (aF.id (L:=aD)) rfl rfl) ?_
  refine NV rf rf (aU (M:=ae) (aF.id (L:=ae)) rfl rfl) ?_
  refine NV rf rf (av rfl (bf.len _ f0)) ?_
  refine NV rf rf (av rfl (bf.len _ f0)) ?_
  refine NS 2 rf ?_
  refine NV rf rf (ew (m:=(Int.toNat dz)) (Fz.row (e:=69) (sz:=1) (L:=(LI .u32)) (xs:=aQ) rfl jA) rfl rfl rfl (aC u4).1 (aC u4).2) ?_
  refine NV rf rf (eT (Fz.row (e:=69) (sz:=1) (L:=(LI .u32)) (xs:=aQ) rfl jA) (aF.idx (L:=(LI .u32)) (m:=(aQ.length)) (k:=1) ((Int.toNat dz)) (aC u4).2 rfl) rfl) ?_
  refine NC rf rf (eI (K:=K) (mo f0) rS) rf ?_
  refine NC rf rf (cW (K:=K) (mo f0) pI) rf ?_
  refine NV rf rf (og (wh (cs:=aD.enc dy) (ds:=aD.enc cR) rfl rfl rfl rfl) (nO _ _)) ?_
  refine NS 1 rf ?_
  refine NG rf rf (dR rfl rfl) (fun hb=>aN rfl) ?_
  refine NG rf rf (dR rfl rfl) (fun hb=>aR cZ (bN rfl hb)) ?_
  refine NG rf rf (dR rfl rfl) (fun hb=>sG (bN rfl hb) rfl) ?_
  refine NV rf rf (ga rfl rfl) ?_
  refine NS 1 rf ?_
  refine NG rf rf (dR rfl rfl) (fun hb=>aN rfl) ?_
  refine NG rf rf (dR rfl rfl) (fun hb=>aR cZ (bN rfl hb)) ?_
  refine NG rf rf (dR rfl rfl) (fun hb=>iY (bN rfl hb) rfl) ?_
  refine NG rf rf (dR rfl rfl) (fun hb=>ay (bN rfl hb)) ?_
  refine NG rf rf (jD rfl rfl) (fun hb=>aN rfl) ?_
  refine NG rf rf (jD rfl rfl) (fun hb=>aR dF (bN rfl hb)) ?_
  refine NG rf rf (jD rfl rfl) (fun hb=>iY (bN rfl hb) rfl) ?_
  refine NG rf rf (dR rfl rfl) (fun hb=>cA (bN rfl hb) (va rfl hb)) ?_
  refine NV rf rf (ga rfl rfl) ?_
  refine NS 1 rf ?_
  refine NG rf rf (dR rfl rfl) (fun hb=>aN rfl) ?_
  refine NG rf rf (dR rfl rfl) (fun hb=>aR cZ (bN rfl hb)) ?_
  refine NG rf rf (dR rfl rfl) (fun hb=>iY (bN rfl hb) rfl) ?_
  refine NG rf rf (dR rfl rfl) (fun hb=>ay (bN rfl hb)) ?_
  refine NG rf rf (jD rfl rfl) (fun hb=>aN rfl) ?_
  refine NG rf rf (jD rfl rfl) (fun hb=>aR mj (bN rfl hb)) ?_
  refine NG rf rf (jD rfl rfl) (fun hb=>iY (bN rfl hb) rfl) ?_
  refine NG rf rf (dR rfl rfl) (fun hb=>cA (bN rfl hb) (va rfl hb)) ?_
  refine NV rf rf (ga rfl rfl) ?_
  refine dH ?_
  refine jR ?_
  refine fz h rf (fun hc h=>?_) fun hc h=>?_
  ·
   refine SC 12 rf ?_
   have h:=sj h; subst h
   exact RV rf (rt rf rn) rf
  ·
   refine SC 15 rf ?_
   obtain ⟨Iq,FO,h⟩:=vU h
   refine LO (β:=Int × Int × Int) [2,3,5,6] [0,1,2,3] (fun (EX,fx,jE,g5)=>[(8, .int .i64 fx),(9, .int .i64 jE),(10, .int .i64 g5)]) (fun (EX,fx,jE,g5)=>[.cells b7 141 (aD.enc dy),Row zL 69 1 (LI .u32) aQ, .cells b3 146 (ae.enc a1), .cells b2 77 eN]) (fun (EX,fx,jE,g5)=>jG Iq EX fx jE g5 = some r) (n,0,0,0) h rf rf rf ?_
   rintro EX ⟨fx,jE,g5⟩ h
   replace h:=vT FO h; obtain ⟨EX,rfl,h⟩:=h
   refine SC 7 rf ?_
   refine fz h rf (fun hc h=>?_) fun hc h=>?_
   ·
    refine SC 5 rf ?_
    obtain ⟨mw,wX,h⟩:=bp h
    obtain ⟨w9,h⟩:=dO h
    obtain ⟨D6,CH,h⟩:=bp h
    refine ec mixed (.lq [] [(0,[8]),(1,[3]),(2,[2]),(3,[10]),(5,[5]),(6,[6]),(7,[72,73]),(8,[74])] (.alt 4 [68,69,70] (.lq [(0,[8]),(5,[5]),(6,[6]),(7,[72,73]),(8,[74])] [(9,[71,75]),(10,[67,76])] (.alt 11 [77] (.fin [] []) .no)) .no)) (by kernel_rfl) ?_
    refine T0 ?_
    refine NS 1 rf ?_
    refine NV rf rf (aU (M:=ae) (aF.id (L:=ae)) rfl rfl) ?_
    refine NV rf rf (av rfl (bf.len _ f0)) ?_
    refine NS 3 rf ?_
    refine NV rf rf (ew (m:=(Int.toNat dz)) (Fz.row (e:=69) (sz:=1) (L:=(LI .u32)) (xs:=aQ) rfl jA) rfl rfl rfl (aC w9).1 (aC w9).2) ?_
    refine NV rf rf (eT (Fz.row (e:=69) (sz:=1) (L:=(LI .u32)) (xs:=aQ) rfl jA) (aF.idx (L:=(LI .u32)) (m:=(aQ.length)) (k:=1) ((Int.toNat dz)) (aC w9).2 rfl) rfl) ?_
    refine dH ?_
    refine X1 rf rf (mg (kR (K:=K) (mo f0) wX) rfl) fun ⟨Lx,GX,Ln⟩ Jl=>?_
    have f49:Fz (fun w=>K w∧Hs [.ext GX Ln] w) Lx (LI .u32) mw:=Jl
    refine kx ?_ ?_
    ·
     refine G7 3 rf rf ?_
     refine RO rf rf (ew (m:=(Int.toNat dz)) (Fz.row (e:=69) (sz:=1) (L:=(LI .u32)) (xs:=aQ) rfl jA) rfl rfl rfl (aC w9).1 (aC w9).2) rf ?_
     refine RO rf rf (eT (Fz.row (e:=69) (sz:=1) (L:=(LI .u32)) (xs:=aQ) rfl jA) (aF.idx (L:=(LI .u32)) (m:=(aQ.length)) (k:=1) ((Int.toNat dz)) (aC w9).2 rfl) rfl) rf ?_
     exact qc
    refine NC rf rf (pZ (K:=(fun w=>K w∧Hs [.ext GX Ln] w)) (f49.mono n8) CH) rf ?_
    refine NE 1 rf ?_
    refine XV rf rf (cO rfl) ?_
    refine sW ?_
    refine jR ?_
    obtain ⟨HS,IX,h⟩:=bp h
    obtain ⟨w8,h⟩:=dO h
    obtain ⟨HR,IV,h⟩:=bp h
    refine ec mixed (.lq [] [(0,[9]),(1,[3]),(2,[2]),(3,[10]),(5,[5]),(6,[6]),(7,[83,84]),(8,[85])] (.alt 4 [79,80,81] (.lq [(0,[9]),(5,[5]),(6,[6]),(7,[83,84]),(8,[85])] [(9,[82,86]),(10,[78,87])] (.alt 11 [88] (.fin [] []) .no)) .no)) (by kernel_rfl) ?_
    refine T0 ?_
    refine NS 1 rf ?_
    refine NV rf rf (aU (M:=ae) (aF.id (L:=ae)) rfl rfl) ?_
    refine NV rf rf (av rfl (bf.len _ f0)) ?_
    refine NS 3 rf ?_
    refine NV rf rf (ew (m:=(Int.toNat dz)) (Fz.row (e:=69) (sz:=1) (L:=(LI .u32)) (xs:=aQ) rfl jA) rfl rfl rfl (aC w8).1 (aC w8).2) ?_
    refine NV rf rf (eT (Fz.row (e:=69) (sz:=1) (L:=(LI .u32)) (xs:=aQ) rfl jA) (aF.idx (L:=(LI .u32)) (m:=(aQ.length)) (k:=1) ((Int.toNat dz)) (aC w8).2 rfl) rfl) ?_
    refine dH ?_
    refine X1 rf rf (mg (lC (K:=K) (mo f0) IX) rfl) fun ⟨Lu,GV,Lm⟩ Jj=>?_
    have f58:Fz (fun w=>K w∧Hs [.ext GV Lm] w) Lu (LI .u32) HS:=Jj
    refine kx ?_ ?_
    ·
     refine G7 3 rf rf ?_
     refine RO rf rf (ew (m:=(Int.toNat dz)) (Fz.row (e:=69) (sz:=1) (L:=(LI .u32)) (xs:=aQ) rfl jA) rfl rfl rfl (aC w8).1 (aC w8).2) rf ?_
     refine RO rf rf (eT (Fz.row (e:=69) (sz:=1) (L:=(LI .u32)) (xs:=aQ) rfl jA) (aF.idx (L:=(LI .u32)) (m:=(aQ.length)) (k:=1) ((Int.toNat dz)) (aC w8).2 rfl) rfl) rf ?_
     exact qc
    refine NC rf rf (pZ (K:=(fun w=>K w∧Hs [.ext GV Lm] w)) (f58.mono n8) IV) rf ?_
    refine NE 1 rf ?_
    refine XV rf rf (cO rfl) ?_
    refine sW ?_
    refine SX 7 rf ?_
    exact LN [2,3,4,5] (wr .i64 (fx + D6),wr .i64 (jE + HR),wr .i64 (g5 + 1)) h rf rf rf
   ·
    refine SC 10 rf ?_
    refine GB rf rf rf (fun hb=>ay rfl) ?_
    refine GB rf rf rf (fun hb=>fP (bN rfl hb) rfl) ?_
    refine GB rf rf rf (fun hb=>ay (bN rfl hb)) ?_
    refine kT (jD rfl rfl) rfl (fun hb=>ay rfl) ?_
    refine kT (jD rfl rfl) rfl (fun hb=>sG (bN rfl hb) rfl) ?_
    refine GB rf rf rf (fun hb=>cA (bN rfl hb) (va rfl hb)) ?_
    refine aq rfl (ga rfl rfl) ?_
    refine SL 2 rf ?_
    refine fz h rf (fun hc h=>?_) fun hc h=>?_
    ·
     refine SC 11 rf ?_
     have h:=sj h; subst h
     exact RV rf (rt rf rn) rf
    ·
     refine SC 8 rf ?_
     exact LN [1,2,3] (wr .i64 (dz + 1)) h rf rf rf
 ·
  refine SC 11 rf ?_
  have h:=sj h; subst h
  exact RV rf (rt rf rn) rf
def jf (n:Nat)  : Option Bool:=
 bd (g8 n eJ 0 1) fun aQ =>
 bd (g8 n aQ.1 1 1) fun bW =>
 bd (fy n cJ bW.1 1 3) fun jE =>
 bd (cH n jE.1 bW.1 2) fun g5 =>
 bd (eW n jE.1 bW.1 1 3) fun bR =>
 bd (gS n bR.1 bW.1 1 0) fun kD =>
 bd (gT n kD.1 bW.1 1 3) fun lO =>
 bd (fy n jE.1 bW.1 2 1) fun mw =>
 lt ({ Kind:=1,Task:=3,bE:=0 }:cm) fun gV =>
 cl (((((((jE.2 == 0) && (cB g5 gV)) && (bR.2 == 0)) && (kD.2 == 0)) && (lO.2.2 == 0)) && (lO.2.1 == 1)) == true) (cH n lO.1 bW.1 2) default fun lN =>
 lt ({ Kind:=3,Task:=0,bE:=1 }:cm) fun wD =>
 cl (((((((((jE.2 == 0) && (cB g5 gV)) && (bR.2 == 0)) && (kD.2 == 0)) && (lO.2.2 == 0)) && (lO.2.1 == 1)) && (cB lN wD)) && (mw.2 == 12)) == true) (fF n jE.1 bW.1 3) default fun ni =>
 cl ((((((((((jE.2 == 0) && (cB g5 gV)) && (bR.2 == 0)) && (kD.2 == 0)) && (lO.2.2 == 0)) && (lO.2.1 == 1)) && (cB lN wD)) && (mw.2 == 12)) && ((ni.length:Int) == 1)) == true) (fU n lO.1 bW.1 0) default fun sR =>
 some ((((((((((jE.2 == 0) && (cB g5 gV)) && (bR.2 == 0)) && (kD.2 == 0)) && (lO.2.2 == 0)) && (lO.2.1 == 1)) && (cB lN wD)) && (mw.2 == 12)) && ((ni.length:Int) == 1)) && ((sR.length:Int) == 1))
theorem mJ {n}  {r:Bool}  (h:jf n  = some r):xN Try.prog 71 [] (.bool r):=by
 unfold jf at h
 refine eV Try.func71 (by kernel_rfl) rfl Try.ntmps71 rfl (fun cx cQ hpre hro=>?_)
 refine SC 7 rf ?_
 refine W1 rf (cE (hz:=(⟨by kernel_rfl⟩ : dx Try.prog 77 aO))) fun b1=>?_
 refine SL 4 rf ?_
 refine W1 rf (bj (L:=ae) (z:=cJ) ⟨by kernel_rfl⟩) fun b2=>?_
 obtain ⟨aQ,cv,h⟩:=bp h
 refine SL 4 rf ?_
 refine aq rfl (av rfl (bf.len _ (show (ah).rep (Hs []) aO eJ from aK))) ?_
 refine CB (k7 (K:=(Hs [])) (mo (show (ah).rep (Hs []) aO eJ from aK)) cv) rf rf ?_
 rintro sS dP ja ⟨GO,rfl,f26⟩
 replace f26:(ah).rep (fun w=>(Hs []) w∧Hs [.ext dP ja] w) GO aQ.1:=f26
 refine SL 4 rf ?_
 refine ST (C:=(Hs [.ext dP ja])) aQ.1 (aF.id (L:=ah)) aK (mo f26) rf rf rf rf rf fun A2 f29=>?_
 obtain ⟨bW,uT,h⟩:=bp h
 refine SL 4 rf ?_
 refine aq rfl (av rfl (bf.len _ f29)) ?_
 refine CB (k7 (K:=(Hs [.ext dP ja])) (mo f29) uT) rf rf ?_
 rintro Nw od xC ⟨K8,rfl,f35⟩
 replace f35:(ah).rep (fun w=>(Hs [.ext dP ja]) w∧Hs [.ext od xC] w) K8 bW.1:=f35
 refine SL 4 rf ?_
 refine ST (C:=(Hs [.ext dP ja, .ext od xC])) bW.1 (aF.id (L:=ah)) (mo f29) (mo f35) rf rf rf rf rf fun MW f38=>?_
 obtain ⟨jE,rR,h⟩:=bp h
 refine SL 4 rf ?_
 refine aq rfl (aU (M:=ae) (aF.id (L:=ae)) rfl rfl) ?_
 refine aq rfl (av rfl (bf.len _ f38)) ?_
 refine CV (jB (K:=(Hs [.ext dP ja, .ext od xC])) (mo f38) rR) rf rf ?_
 refine SL 3 rf ?_
 refine W0 (bA (M:=ae) (aF.id (L:=ae)) jE.1 jE.1 rfl rfl rfl rfl rfl) ?_
 obtain ⟨g5,qu,h⟩:=bp h
 refine SL 5 rf ?_
 refine aq rfl (aU (M:=ae) (aF.id (L:=ae)) rfl rfl) ?_
 refine aq rfl (av rfl (bf.len _ f38)) ?_
 refine CV (cW (K:=(Hs [.ext dP ja, .ext od xC])) (mo f38) qu) rf rf ?_
 refine W1 rf (bj (L:=aD) (z:=iX) ⟨by kernel_rfl⟩) fun b4=>?_
 refine W0 (bA (M:=aD) (aF.id (L:=aD)) g5 g5 rfl rfl rfl rfl rfl) ?_
 obtain ⟨bR,mC,h⟩:=bp h
 refine SL 4 rf ?_
 refine aq rfl (aU (M:=ae) (aF.id (L:=ae)) rfl rfl) ?_
 refine aq rfl (av rfl (bf.len _ f38)) ?_
 refine CV (kq (K:=(Hs [.ext dP ja, .ext od xC])) (mo f38) mC) rf rf ?_
 refine SL 3 rf ?_
 refine W1 rf (bj (L:=ae) (z:=cJ) ⟨by kernel_rfl⟩) fun b5=>?_
 refine W0 (bA (M:=ae) (aF.id (L:=ae)) bR.1 bR.1 rfl rfl rfl rfl rfl) ?_
 obtain ⟨kD,CM,h⟩:=bp h
 refine SL 5 rf ?_
 refine aq rfl (aU (M:=ae) (aF.id (L:=ae)) rfl rfl) ?_
 refine aq rfl (av rfl (bf.len _ f38)) ?_
 refine CV (lB (K:=(Hs [.ext dP ja, .ext od xC])) (mo f38) CM) rf rf ?_
 refine SL 3 rf ?_
 refine W0 (bA (M:=ae) (aF.id (L:=ae)) kD.1 kD.1 rfl rfl rfl rfl rfl) ?_
 obtain ⟨lO,uQ,h⟩:=bp h
 refine SL 5 rf ?_
 refine aq rfl (aU (M:=ae) (aF.id (L:=ae)) rfl rfl) ?_
 refine aq rfl (av rfl (bf.len _ f38)) ?_
 refine CV (lD (K:=(Hs [.ext dP ja, .ext od xC])) (mo f38) uQ) rf rf ?_
 refine SL 4 rf ?_
 refine W0 (bA (M:=ae) (aF.id (L:=ae)) lO.1 lO.1 rfl rfl rfl rfl rfl) ?_
 obtain ⟨mw,wX,h⟩:=bp h
 refine SL 6 rf ?_
 refine aq rfl (aU (M:=ae) (aF.id (L:=ae)) rfl rfl) ?_
 refine aq rfl (av rfl (bf.len _ f38)) ?_
 refine CV (jB (K:=(Hs [.ext dP ja, .ext od xC])) (mo f38) wX) rf rf ?_
 refine SL 3 rf ?_
 refine W1 rf (bj (L:=ae) (z:=cJ) ⟨by kernel_rfl⟩) fun BW=>?_
 refine W0 (bA (M:=ae) (aF.id (L:=ae)) mw.1 mw.1 rfl rfl rfl rfl rfl) ?_
 obtain ⟨gV,IZ,h⟩:=cN h
 obtain ⟨lN,CL,_,h⟩:=j2 h
 obtain ⟨wD,IY,h⟩:=cN h
 obtain ⟨ni,CK,_,h⟩:=j2 h
 obtain ⟨sR,wW,_,h⟩:=j2 h
 refine SL 8 rf ?_
 refine GB rf rf rf (fun hb=>aU (M:=aD) (aF.id (L:=aD)) rfl rfl) ?_
 refine GB rf rf rf (fun hb=>eD (cs:=aD.enc gV) (aP rfl (aP rfl rfl)) (by rw [IZ]; rfl)) ?_
 refine GB rf rf rf (fun hb=>og (sI (cs:=aD.enc g5) (ds:=aD.enc gV) (bN rfl hb) (bN rfl hb) rfl rfl) (mu _ _)) ?_
 refine aq rfl (cA rfl rfl) ?_
 refine aq rfl (ay rfl) ?_
 refine GB rf rf rf (fun hb=>ay rfl) ?_
 refine GB rf rf rf (fun hb=>fP (bN rfl hb) rfl) ?_
 refine aq rfl (cA rfl rfl) ?_
 refine aq rfl (ay rfl) ?_
 refine GB rf rf rf (fun hb=>ay rfl) ?_
 refine GB rf rf rf (fun hb=>fP (bN rfl hb) rfl) ?_
 refine aq rfl (cA rfl rfl) ?_
 refine aq rfl (ay rfl) ?_
 refine GB rf rf rf (fun hb=>ay rfl) ?_
 refine GB rf rf rf (fun hb=>fP (bN rfl hb) rfl) ?_
 refine aq rfl (cA rfl rfl) ?_
 refine aq rfl (ay rfl) ?_
 refine GB rf rf rf (fun hb=>ay rfl) ?_
 refine GB rf rf rf (fun hb=>fP (bN rfl hb) rfl) ?_
 refine aq rfl (cA rfl rfl) ?_
 refine aq rfl (ay rfl) ?_
 refine GB rf rf rf (fun hb=>aU (M:=ae) (aF.id (L:=ae)) rfl rfl) ?_
 refine GB rf rf rf (fun hb=>av rfl (bf.len _ f38)) ?_
 refine GB rf rf rf (fun hb=>dK (cW (K:=(Hs [.ext dP ja, .ext od xC])) (mo f38) (CL hb)) (aP (bN rfl hb) (aP (bN rfl hb) (aP rfl rfl))) kn) ?_
 refine GB rf rf rf (fun hb=>eD (cs:=aD.enc wD) (aP rfl (aP rfl rfl)) (by rw [IY]; rfl)) ?_
 refine GB rf rf rf (fun hb=>og (sI (cs:=aD.enc lN) (ds:=aD.enc wD) (bN rfl hb) (bN rfl hb) rfl rfl) (mu _ _)) ?_
 refine aq rfl (cA rfl rfl) ?_
 refine aq rfl (ay rfl) ?_
 refine GB rf rf rf (fun hb=>ay rfl) ?_
 refine GB rf rf rf (fun hb=>fP (bN rfl hb) rfl) ?_
 refine aq rfl (cA rfl rfl) ?_
 refine aq rfl (ay rfl) ?_
 refine GB rf rf rf (fun hb=>aU (M:=ae) (aF.id (L:=ae)) rfl rfl) ?_
 refine GB rf rf rf (fun hb=>av rfl (bf.len _ f38)) ?_
 refine ry (dR rfl rfl) rfl (fun hb=>kR (K:=(Hs [.ext dP ja, .ext od xC])) (mo f38) (CK hb)) (fun hb=>(aP (bN rfl hb) (aP (bN rfl hb) (aP rfl rfl)))) (fun hb=>inferInstance) (fun ⟨Lw,Ks,Nc⟩ Jk=>?_)
 have f53:(((((((((jE.2 == 0) && (cB g5 gV)) && (bR.2 == 0)) && (kD.2 == 0)) && (lO.2.2 == 0)) && (lO.2.1 == 1)) && (cB lN wD)) && (mw.2 == 12)) == true) = true→Fz (fun w=>(Hs [.ext dP ja, .ext od xC]) w∧Hs [.ext Ks Nc] w) Lw (LI .u32) ni:=Jk
 refine GB rf rf rf (fun hb=>ef (f53 hb) (bN rfl hb)) ?_
 refine GB rf rf rf (fun hb=>fP (bN rfl hb) rfl) ?_
 refine aq rfl (cA rfl rfl) ?_
 refine aq rfl (ay rfl) ?_
 refine GB rf rf rf (fun hb=>aU (M:=ae) (aF.id (L:=ae)) rfl rfl) ?_
 refine GB rf rf rf (fun hb=>av rfl (bf.len _ f38)) ?_
 refine ry (dR rfl rfl) rfl (fun hb=>lC (K:=(Hs [.ext dP ja, .ext od xC])) (mo f38) (wW hb)) (fun hb=>(aP (bN rfl hb) (aP (bN rfl hb) (aP rfl rfl)))) (fun hb=>inferInstance) (fun ⟨Lt,Kr,Nb⟩ Ji=>?_)
 have f59:((((((((((jE.2 == 0) && (cB g5 gV)) && (bR.2 == 0)) && (kD.2 == 0)) && (lO.2.2 == 0)) && (lO.2.1 == 1)) && (cB lN wD)) && (mw.2 == 12)) && ((ni.length:Int) == 1)) == true) = true→Fz (fun w=>(Hs [.ext dP ja, .ext od xC]) w∧Hs [.ext Kr Nb] w) Lt (LI .u32) sR:=Ji
 refine GB rf rf rf (fun hb=>ef (f59 hb) (bN rfl hb)) ?_
 refine GB rf rf rf (fun hb=>fP (bN rfl hb) rfl) ?_
 refine aq rfl (cA rfl rfl) ?_
 refine SL 4 rf ?_
 have h:=sj h; subst h
 exact RV rf (rt rf rn) rf
def jO (n:Nat) (a0:(List fV)):Option Bool:=
 cn (decide (100 < (a0.length:Int))) (
 bd (jf n ) fun aQ =>
 some aQ) (
 jG (fun E9 (fa:Int) (gB:bC) (cR:aj) =>
 cn (decide (fa < (a0.length:Int))) (
 gu (dj fa a0.length) <|
 lt ((a0.getD (Int.toNat fa) default):fV) fun bR =>
 lt (fun (mw:bC) (gV:aj) =>
 bd (iV n gV mw) fun wE =>
 cn ((!wE)) (
 some false) (
 E9 (wr .i64 (fa + 1)) mw gV)) fun yA =>
 cn ((bR.Do == 0)) (
 bd (jk n cR bR.A) fun vG =>
 yA gB vG.1) (
 cn ((bR.Do == 1)) (
 bd (j1 n cR bR.A) fun xQ =>
 bd (aJ n cR.book.hO bR.A) fun D5 =>
 cl (D5 == true) (dw n cR bR.A) default fun Ev =>
 cl ((D5 && (Ev != bR.A)) == true) (cH n gB xQ.1 bR.A) default fun rD =>
 gu (!(((D5 && (Ev != bR.A)) && (rD.Kind != 0)) == true) || dj fa (a0.length + 1)) <|
 cl (((D5 && (Ev != bR.A)) && (rD.Kind != 0)) == true) (iA n (a0.take (Int.toNat fa)) bR.A) default fun Hq =>
 cn ((((D5 && (Ev != bR.A)) && (rD.Kind != 0)) && (!Hq))) (
 some false) (
 yA gB xQ.1)) (
 cn ((bR.Do == 2)) (
 bd (iF n cR bR.A bR.B) fun sY =>
 yA gB sY.1) (
 lt (fun (Bt:Bool) =>
 cn (Bt) (
 lt (fun (sX:Int) (vF:bC) =>
 bd (cH n vF cR bR.A) fun xO =>
 cn ((((sX == 0) && ((xO.Kind == 1) != (bR.Do == 10))) || (((sX == 0) && (xO.Kind != 1)) && (xO.Kind != 3)))) (
 some false) (
 yA vF cR)) fun Fc =>
 cn ((bR.Do == 10)) (
 bd (fy n gB cR bR.A bR.bu) fun B4 =>
 Fc B4.2 B4.1) (
 bd (eW n gB cR bR.A bR.bu) fun sQ =>
 Fc sQ.2 sQ.1)) (
 cn ((bR.Do == 11)) (
 bd (iz n gB cR bR.A) fun vE =>
 yA vE.1 cR) (
 cn ((bR.Do == 13)) (
 bd (gS n gB cR bR.A bR.bu) fun D3 =>
 yA D3.1 cR) (
 cn ((bR.Do == 14)) (
 bd (gT n gB cR bR.A bR.bu) fun D2 =>
 yA D2.1 cR) (
 bd (g8 n cR bR.A bR.bu) fun zJ =>
 cl (((zJ.2.2 == 0) && (bR.A == 0)) == true) (cH n gB zJ.1 zJ.2.1) default fun B7 =>
 lt ({ Kind:=0,Task:=0,bE:=0 }:cm) fun zT =>
 cn ((((zJ.2.2 == 0) && (bR.A == 0)) && (!(cB B7 zT)))) (
 some false) (
 yA gB zJ.1)))))) fun Fe =>
 cn ((bR.Do == 10)) (
 Fe (bR.Do == 10)) (
 Fe (bR.Do == 12)))))) (
 bd (jf n ) fun Ey =>
 some Ey)) n 0 cJ eJ)
theorem p5 {n a0 r K} [bz K] {v0} (f0:Fz K v0 bw a0) (h:jO n a0 = some r):qk Try.prog 12 [v0] K (.bool r):=by
 unfold jO at h
 refine fo Try.func12 (by kernel_rfl) rfl Try.ntmps12 rfl fun cx _ hro cQ hpre=>?_
 refine SC 9 rf ?_
 refine aq rfl (ef f0 rfl) ?_
 refine SL 3 rf ?_
 refine fz h rf (fun hc h=>?_) fun hc h=>?_
 ·
  obtain ⟨aQ,cv,h⟩:=bp h
  refine SC 2 rf ?_
  refine CV (mJ cv) rf rf ?_
  refine SL 5 rf ?_
  have h:=sj h; subst h
  exact RV rf (rt rf rn) rf
 ·
  refine SC 4 rf ?_
  refine W1 rf (cE (hz:=(⟨by kernel_rfl⟩ : dx Try.prog 77 aO))) fun b3=>?_
  refine SL 4 rf ?_
  refine W1 rf (bj (L:=ae) (z:=cJ) ⟨by kernel_rfl⟩) fun b4=>?_
  refine SL 9 rf ?_
  obtain ⟨Cr,yO,h⟩:=vU h
  refine nH ?_
  refine LO (β:=Int × bC × aj × (List Value) × (List Nat) × (World→Prop)) [0,3,4] [0,1,2] (fun (yt,fa,gB,cR,uu,cX,gU)=>[(5, .int .i64 fa)]) (fun (yt,fa,gB,cR,uu,cX,gU)=>[.ext cX gU, .cells b4 146 (ae.enc gB), .cells b3 77 uu]) (fun (yt,fa,gB,cR,uu,cX,gU)=>(ah).rep (Hs [.ext cX gU]) uu cR∧jG Cr yt fa gB cR = some r) (n,0,cJ,eJ,aO,[],(Hs [])) ⟨(bf.mono _ n8 (show (ah).rep (Hs []) aO eJ from aK)),h⟩ rf rf rf ?_
  rintro yt ⟨fa,gB,cR,uu,cX,gU⟩ ⟨f36,h⟩
  replace h:=vT yO h; obtain ⟨yt,rfl,h⟩:=h
  refine SC 5 rf ?_
  refine aq rfl (ef f0 rfl) ?_
  refine SL 3 rf ?_
  refine fz h rf (fun hc h=>?_) fun hc h=>?_
  ·
   obtain ⟨l8,h⟩:=dO h
   obtain ⟨bR,mC,h⟩:=cN h
   refine SC 8 rf ?_
   refine aq rfl (ew (m:=(Int.toNat fa)) f0 rfl rfl rfl (aC l8).1 (aC l8).2) ?_
   refine aq rfl (oY (M:=bw) f0 (aF.idx (L:=bw) (m:=(a0.length)) (k:=5) ((Int.toNat fa)) (aC l8).2 rfl) rfl rfl (by decide)) ?_
   refine W1 rf (bj (L:=bw) (z:=oG) ⟨by kernel_rfl⟩) fun b6=>?_
   refine W0 (bA (M:=bw) (aF.id (L:=bw)) (a0.getD (Int.toNat fa) default) bR mC rfl rfl rfl rfl) ?_
   refine SL 5 rf ?_
   refine aq rfl (aR je rfl) ?_
   refine SL 3 rf ?_
   obtain ⟨yA,JA,h⟩:=cN h
   refine CU (α:=bC × aj × (List Value) × (List Nat) × (World→Prop)) [0,3,4,5] rf (fun (mw,gV,Dz,su,Bo)=>[]) (fun (mw,gV,Dz,su,Bo)=>[.ext su Bo, .cells b6 114 (bw.enc bR), .ext cX gU, .cells b4 146 (ae.enc mw), .cells b3 77 Dz]) (fun (mw,gV,Dz,su,Bo)=>(ah).rep (Hs [.ext cX gU, .ext su Bo]) Dz gV∧yA mw gV = some r) ?_ ?_
   ·
    refine SC 3 rf ?_
    refine aq rfl (aR iN rfl) ?_
    refine SL 9 rf ?_
    refine fz h rf (fun hc h=>?_) fun hc h=>?_
    ·
     obtain ⟨vG,CJ,h⟩:=bp h
     refine eY ?_
     refine aq rfl (av rfl (bf.len _ f36)) ?_
     refine aq rfl (ay rfl) ?_
     refine CB (qA (K:=(Hs [.ext cX gU])) (mo f36) CJ) rf rf ?_
     rintro Lv oN xM ⟨Kk,LC,rfl,f54,f56⟩
     replace f54:(ah).rep (fun w=>(Hs [.ext cX gU]) w∧Hs [.ext oN xM] w) Kk vG.1:=f54
     replace f56:Fz (fun w=>(Hs [.ext cX gU]) w∧Hs [.ext oN xM] w) LC (LI .u32) vG.2.1:=f56
     refine SL 4 rf ?_
     refine ST (C:=(Hs [.ext cX gU, .ext oN xM])) vG.1 (aF.id (L:=ah)) (mo f36) (mo f54) rf rf rf rf rf fun Eg f59=>?_
     refine SL 2 rf ?_
     refine bK (R:=[.ext oN xM]) (H':=[.cells b6 114 (bw.enc bR), .ext cX gU, .cells b4 146 (ae.enc gB), .cells b3 77 Eg]) (ks:=[0,1,2,3,4]) rfl (by decide) ?_
     exact CE [0,1,2,3,4] (gB,vG.1,Eg,(bx [.ext oN xM]),(Hs [.ext oN xM])) ⟨(mo f59),h⟩ rf rf rf
    ·
     refine SC 6 rf ?_
     refine fz h rf (fun hc h=>?_) fun hc h=>?_
     ·
      refine SC 2 rf ?_
      refine aq rfl (av rfl (bf.len _ f36)) ?_
      refine W1 rf (cE (hz:=(⟨by kernel_rfl⟩ : dx Try.prog 77 aO))) fun b8=>?_
      refine ST (C:=(Hs [.ext cX gU])) cR (aF.id (L:=ah)) aK (mo f36) rf rf rf rf rf fun MS f61=>?_
      obtain ⟨xQ,CG,h⟩:=bp h
      refine SL 4 rf ?_
      refine aq rfl (av rfl (bf.len _ f36)) ?_
      refine aq rfl (ay rfl) ?_
      refine CB (sq (K:=(Hs [.ext cX gU])) (mo f36) CG) rf rf ?_
      rintro Nr xl Eo ⟨MR,rfl,f67⟩
      replace f67:(ah).rep (fun w=>(Hs [.ext cX gU]) w∧Hs [.ext xl Eo] w) MR xQ.1:=f67
      refine SL 3 rf ?_
      refine ST (C:=(Hs [.ext cX gU, .ext xl Eo])) xQ.1 (aF.id (L:=ah)) (mo f36) (mo f67) rf rf rf rf rf fun K5 f70=>?_
      refine SL 3 rf ?_
      obtain ⟨D5,IU,h⟩:=bp h
      obtain ⟨Ev,IT,_,h⟩:=j2 h
      obtain ⟨rD,Ay,_,h⟩:=j2 h
      obtain ⟨CX,h⟩:=dO h
      obtain ⟨Hq,IS,_,h⟩:=j2 h
      refine ec mixed (.fin [] [(0,[8]),(1,[76]),(2,[77]),(3,[7]),(4,[78,79]),(5,[80]),(6,[8,81]),(7,[7,81]),(8,[81,82,83]),(9,[7,81]),(10,[81,84,85]),(11,[81,86]),(12,[87]),(13,[4,88]),(14,[3,88]),(15,[7,88]),(16,[88,89,90,91]),(17,[88,92]),(18,[88,93]),(19,[88,94]),(20,[95]),(21,[0,96]),(22,[5,96]),(23,[96,97,98]),(24,[6,96]),(25,[96,100]),(26,[96,99,101]),(27,[96,102]),(28,[96,103])]) (by kernel_rfl) ?_
      refine F0 ?_
      refine NS 2 rf ?_
      refine NV rf rf (bq rfl (aW.iff.1 ((aE.c0 aL).get f61)) (aY _ _)) ?_
      refine NS 1 rf ?_
      refine NC rf rf (aT IU) rf ?_
      refine NS 1 rf ?_
      refine NG rf rf (dR rfl rfl) (fun hb=>av rfl (bf.len _ f61)) ?_
      refine NG rf rf (dR rfl rfl) (fun hb=>ay rfl) ?_
      refine NG rf rf (dR rfl rfl) (fun hb=>dK (eI (K:=(Hs [.ext cX gU])) (mo f61) (IT hb)) (aP (bN rfl hb) (aP (bN rfl hb) rfl)) kn) ?_
      refine NG rf rf (dR rfl rfl) (fun hb=>ay rfl) ?_
      refine NG rf rf (dR rfl rfl) (fun hb=>iY (bN rfl hb) (bN rfl hb)) ?_
      refine NV rf rf (cA rfl rfl) ?_
      refine NS 1 rf ?_
      refine NG rf rf (dR rfl rfl) (fun hb=>aU (M:=ae) (aF.id (L:=ae)) rfl rfl) ?_
      refine NG rf rf (dR rfl rfl) (fun hb=>av rfl (bf.len _ f70)) ?_
      refine NG rf rf (dR rfl rfl) (fun hb=>ay rfl) ?_
      refine NG rf rf (dR rfl rfl) (fun hb=>dK (cW (K:=(Hs [.ext cX gU, .ext xl Eo])) (mo f70) (Ay hb)) (aP (bN rfl hb) (aP (bN rfl hb) (aP (bN rfl hb) rfl))) kn) ?_
      refine NG rf rf (dR rfl rfl) (fun hb=>xp cZ (bN rfl hb) (by kernel_rfl)) ?_
      refine NG rf rf (dR rfl rfl) (fun hb=>iY (bN rfl hb) rfl) ?_
      refine NV rf rf (cA rfl rfl) ?_
      refine NS 1 rf ?_
      refine NG rf rf (dR rfl rfl) (fun hb=>ay rfl) ?_
      refine NG rf rf (dR rfl rfl) (fun hb=>ay rfl) ?_
      refine NG rf rf (dR rfl rfl) (fun hb=>rz (m:=(Int.toNat fa)) f0 (bN rfl hb) (bN rfl hb) (aC (jH CX hb)).1 (Nat.lt_succ_iff.1 (aC (jH CX hb)).2)) ?_
      refine NG rf rf (dR rfl rfl) (fun hb=>aN rfl) ?_
      refine NG rf rf (dR rfl rfl) (fun hb=>aR je (bN rfl hb)) ?_
      refine NG rf rf (dR rfl rfl) (fun hb=>dK (p4 (K:=K) ((f0.GJ (Int.toNat fa) 5 rfl (Nat.lt_succ_iff.1 (aC (jH CX hb)).2)).mono n8) (IS hb)) (aP (bN rfl hb) (aP (bN rfl hb) rfl)) kn) ?_
      refine NG rf rf (dR rfl rfl) (fun hb=>j7 (bN rfl hb)) ?_
      refine NV rf rf (cA rfl rfl) ?_
      refine dH ?_
      refine jR ?_
      refine fz h rf (fun hc h=>?_) fun hc h=>?_
      ·
       refine SC 13 rf ?_
       have h:=sj h; subst h
       exact RV rf (rt rf rn) rf
      ·
       refine SC 2 rf ?_
       refine bK (R:=[.ext xl Eo]) (H':=[.cells b8 77 MS, .cells b6 114 (bw.enc bR), .ext cX gU, .cells b4 146 (ae.enc gB), .cells b3 77 K5]) (ks:=[0,1,2,3,4,5]) rfl (by decide) ?_
       exact CE [0,2,3,4,5] (gB,xQ.1,K5,(bx [.ext xl Eo]),(Hs [.ext xl Eo])) ⟨(mo f70),h⟩ rf rf rf
     ·
      refine SC 6 rf ?_
      refine fz h rf (fun hc h=>?_) fun hc h=>?_
      ·
       obtain ⟨sY,yE,h⟩:=bp h
       refine eY ?_
       refine aq rfl (av rfl (bf.len _ f36)) ?_
       refine SL 2 rf ?_
       refine aq rfl (aR qE rfl) ?_
       refine CB (p7 (K:=(Hs [.ext cX gU])) (mo f36) yE) rf rf ?_
       rintro Nq zh Hh ⟨MP,rfl,f81⟩
       replace f81:(ah).rep (fun w=>(Hs [.ext cX gU]) w∧Hs [.ext zh Hh] w) MP sY.1:=f81
       refine SL 3 rf ?_
       refine ST (C:=(Hs [.ext cX gU, .ext zh Hh])) sY.1 (aF.id (L:=ah)) (mo f36) (mo f81) rf rf rf rf rf fun K3 f84=>?_
       refine SL 2 rf ?_
       refine bK (R:=[.ext zh Hh]) (H':=[.cells b6 114 (bw.enc bR), .ext cX gU, .cells b4 146 (ae.enc gB), .cells b3 77 K3]) (ks:=[0,1,2,3,4]) rfl (by decide) ?_
       exact CE [0,1,2,3,4] (gB,sY.1,K3,(bx [.ext zh Hh]),(Hs [.ext zh Hh])) ⟨(mo f84),h⟩ rf rf rf
      ·
       obtain ⟨Fe,Jy,h⟩:=cN h
       refine CU (α:=Bool) [0,3,4,5,6,7,32] rf (fun Bt=>[(115, .bool Bt)]) (fun Bt=>[.cells b6 114 (bw.enc bR), .ext cX gU, .cells b4 146 (ae.enc gB), .cells b3 77 uu]) (fun Bt=>Fe Bt = some r) ?_ ?_
       ·
        refine SC 6 rf ?_
        refine fz h rf (fun hc h=>?_) fun hc h=>?_
        ·
         refine oX ?_
         exact CE [0,1,2,3] ((bR.Do == 10)) h rf rf rf
        ·
         refine SC 4 rf ?_
         exact CE [0,1,2,3] ((bR.Do == 12)) h rf rf rf
       ·
        rintro Bt h
        replace h:Fe Bt = some r:=h
        replace h:=Fb Jy h
        refine fz h rf (fun hc h=>?_) fun hc h=>?_
        ·
         refine SC 2 rf ?_
         refine aq rfl (aU (M:=ae) (aF.id (L:=ae)) rfl rfl) ?_
         refine W1 rf (bj (L:=ae) (z:=cJ) ⟨by kernel_rfl⟩) fun b9=>?_
         refine W0 (bA (M:=ae) (aF.id (L:=ae)) gB gB rfl rfl rfl rfl rfl) ?_
         refine SL 7 rf ?_
         obtain ⟨Fc,Jw,h⟩:=cN h
         refine CU (α:=Int × bC) [0,3,4,5,6,7,9] rf (fun (sX,vF)=>[(10, .int .i64 sX)]) (fun (sX,vF)=>[.cells b9 146 (ae.enc vF), .cells b6 114 (bw.enc bR), .ext cX gU, .cells b4 146 (ae.enc gB), .cells b3 77 uu]) (fun (sX,vF)=>Fc sX vF = some r) ?_ ?_
         ·
          refine SC 3 rf ?_
          refine aq rfl (aR iN rfl) ?_
          refine SL 3 rf ?_
          refine fz h rf (fun hc h=>?_) fun hc h=>?_
          ·
           obtain ⟨B4,IK,h⟩:=bp h
           refine eY ?_
           refine aq rfl (aU (M:=ae) (aF.id (L:=ae)) rfl rfl) ?_
           refine aq rfl (av rfl (bf.len _ f36)) ?_
           refine SL 2 rf ?_
           refine aq rfl (aR fk rfl) ?_
           refine CV (jB (K:=(Hs [.ext cX gU])) (mo f36) IK) rf rf ?_
           refine SL 3 rf ?_
           refine W0 (bA (M:=ae) (aF.id (L:=ae)) B4.1 B4.1 rfl rfl rfl rfl rfl) ?_
           refine SL 2 rf ?_
           exact CE [0,1,2,3,4] (B4.2,B4.1) h rf rf rf
          ·
           obtain ⟨sQ,CD,h⟩:=bp h
           refine eY ?_
           refine aq rfl (aU (M:=ae) (aF.id (L:=ae)) rfl rfl) ?_
           refine aq rfl (av rfl (bf.len _ f36)) ?_
           refine SL 2 rf ?_
           refine aq rfl (aR fk rfl) ?_
           refine CV (kq (K:=(Hs [.ext cX gU])) (mo f36) CD) rf rf ?_
           refine SL 3 rf ?_
           refine W0 (bA (M:=ae) (aF.id (L:=ae)) sQ.1 sQ.1 rfl rfl rfl rfl rfl) ?_
           refine SL 2 rf ?_
           exact CE [0,1,2,3,4] (sQ.2,sQ.1) h rf rf rf
         ·
          rintro ⟨sX,vF⟩ h
          replace h:Fc sX vF = some r:=h
          replace h:=yz Jw h
          obtain ⟨xO,IJ,h⟩:=bp h
          refine SC 2 rf ?_
          refine aq rfl (aU (M:=ae) (aF.id (L:=ae)) rfl rfl) ?_
          refine aq rfl (av rfl (bf.len _ f36)) ?_
          refine aq rfl (ay rfl) ?_
          refine CV (cW (K:=(Hs [.ext cX gU])) (mo f36) IJ) rf rf ?_
          refine W1 rf (bj (L:=aD) (z:=iX) ⟨by kernel_rfl⟩) fun Le=>?_
          refine W0 (bA (M:=aD) (aF.id (L:=aD)) xO xO rfl rfl rfl rfl rfl) ?_
          refine SL 8 rf ?_
          refine GB rf rf rf (fun hb=>aN rfl) ?_
          refine GB rf rf rf (fun hb=>aR cZ (bN rfl hb)) ?_
          refine GB rf rf rf (fun hb=>fP (bN rfl hb) rfl) ?_
          refine GB rf rf rf (fun hb=>aN rfl) ?_
          refine GB rf rf rf (fun hb=>aR iN (bN rfl hb)) ?_
          refine GB rf rf rf (fun hb=>fP (bN rfl hb) rfl) ?_
          refine GB rf rf rf (fun hb=>Bi (bN rfl hb) (bN rfl hb)) ?_
          refine aq rfl (cA rfl rfl) ?_
          refine aq rfl (ay rfl) ?_
          refine GB rf rf rf (fun hb=>ay rfl) ?_
          refine GB rf rf rf (fun hb=>fP (bN rfl hb) rfl) ?_
          refine GB rf rf rf (fun hb=>ay (bN rfl hb)) ?_
          refine kT (jD rfl rfl) rfl (fun hb=>aN rfl) ?_
          refine kT (jD rfl rfl) rfl (fun hb=>aR cZ (bN rfl hb)) ?_
          refine kT (jD rfl rfl) rfl (fun hb=>iY (bN rfl hb) rfl) ?_
          refine GB rf rf rf (fun hb=>cA (bN rfl hb) (va rfl hb)) ?_
          refine GB rf rf rf (fun hb=>ay (bN rfl hb)) ?_
          refine kT (jD rfl rfl) rfl (fun hb=>aN rfl) ?_
          refine kT (jD rfl rfl) rfl (fun hb=>aR cZ (bN rfl hb)) ?_
          refine kT (jD rfl rfl) rfl (fun hb=>iY (bN rfl hb) rfl) ?_
          refine GB rf rf rf (fun hb=>cA (bN rfl hb) (va rfl hb)) ?_
          refine aq rfl (ga rfl rfl) ?_
          refine SL 2 rf ?_
          refine fz h rf (fun hc h=>?_) fun hc h=>?_
          ·
           refine SC 14 rf ?_
           have h:=sj h; subst h
           exact RV rf (rt rf rn) rf
          ·
           refine SC 3 rf ?_
           refine aq rfl (aU (M:=ae) (aF.id (L:=ae)) rfl rfl) ?_
           refine W0 (bA (M:=ae) (aF.id (L:=ae)) vF vF rfl rfl rfl rfl rfl) ?_
           refine SL 2 rf ?_
           refine bK (R:=[]) (H':=[.cells Le 141 (aD.enc xO), .cells b9 146 (ae.enc vF), .cells b6 114 (bw.enc bR), .ext cX gU, .cells b4 146 (ae.enc vF), .cells b3 77 uu]) (ks:=[0,1,2,3,4,5]) rfl (by decide) ?_
           exact CE [0,3,4,5,6] (vF,cR,uu,(bx []),(Hs [])) ⟨(mo f36),h⟩ rf rf rf
        ·
         refine SC 6 rf ?_
         refine fz h rf (fun hc h=>?_) fun hc h=>?_
         ·
          obtain ⟨vE,CC,h⟩:=bp h
          refine eY ?_
          refine aq rfl (aU (M:=ae) (aF.id (L:=ae)) rfl rfl) ?_
          refine aq rfl (av rfl (bf.len _ f36)) ?_
          refine aq rfl (ay rfl) ?_
          refine CV (pY (K:=(Hs [.ext cX gU])) (mo f36) CC) rf rf ?_
          refine SL 3 rf ?_
          refine W0 (bA (M:=ae) (aF.id (L:=ae)) vE.1 vE.1 rfl rfl rfl rfl rfl) ?_
          refine SL 2 rf ?_
          refine bK (R:=[]) (H':=[.cells b6 114 (bw.enc bR), .ext cX gU, .cells b4 146 (ae.enc vE.1), .cells b3 77 uu]) (ks:=[0,1,2,3]) rfl (by decide) ?_
          exact CE [0,1,2,3,4] (vE.1,cR,uu,(bx []),(Hs [])) ⟨(mo f36),h⟩ rf rf rf
         ·
          refine SC 6 rf ?_
          refine fz h rf (fun hc h=>?_) fun hc h=>?_
          ·
           obtain ⟨D3,II,h⟩:=bp h
           refine eY ?_
           refine aq rfl (aU (M:=ae) (aF.id (L:=ae)) rfl rfl) ?_
           refine aq rfl (av rfl (bf.len _ f36)) ?_
           refine SL 2 rf ?_
           refine aq rfl (aR fk rfl) ?_
           refine CV (lB (K:=(Hs [.ext cX gU])) (mo f36) II) rf rf ?_
           refine SL 3 rf ?_
           refine W0 (bA (M:=ae) (aF.id (L:=ae)) D3.1 D3.1 rfl rfl rfl rfl rfl) ?_
           refine SL 2 rf ?_
           refine bK (R:=[]) (H':=[.cells b6 114 (bw.enc bR), .ext cX gU, .cells b4 146 (ae.enc D3.1), .cells b3 77 uu]) (ks:=[0,1,2,3]) rfl (by decide) ?_
           exact CE [0,1,2,3,4] (D3.1,cR,uu,(bx []),(Hs [])) ⟨(mo f36),h⟩ rf rf rf
          ·
           refine SC 6 rf ?_
           refine fz h rf (fun hc h=>?_) fun hc h=>?_
           ·
            obtain ⟨D2,IG,h⟩:=bp h
            refine eY ?_
            refine aq rfl (aU (M:=ae) (aF.id (L:=ae)) rfl rfl) ?_
            refine aq rfl (av rfl (bf.len _ f36)) ?_
            refine SL 2 rf ?_
            refine aq rfl (aR fk rfl) ?_
            refine CV (lD (K:=(Hs [.ext cX gU])) (mo f36) IG) rf rf ?_
            refine SL 4 rf ?_
            refine W0 (bA (M:=ae) (aF.id (L:=ae)) D2.1 D2.1 rfl rfl rfl rfl rfl) ?_
            refine SL 2 rf ?_
            refine bK (R:=[]) (H':=[.cells b6 114 (bw.enc bR), .ext cX gU, .cells b4 146 (ae.enc D2.1), .cells b3 77 uu]) (ks:=[0,1,2,3]) rfl (by decide) ?_
            exact CE [0,1,2,3,4] (D2.1,cR,uu,(bx []),(Hs [])) ⟨(mo f36),h⟩ rf rf rf
           ·
            obtain ⟨zJ,IF,h⟩:=bp h
            refine SC 2 rf ?_
            refine aq rfl (av rfl (bf.len _ f36)) ?_
            refine SL 2 rf ?_
            refine aq rfl (aR fk rfl) ?_
            refine CB (k7 (K:=(Hs [.ext cX gU])) (mo f36) IF) rf rf ?_
            rintro Nn vp DW ⟨Kq,rfl,f101⟩
            replace f101:(ah).rep (fun w=>(Hs [.ext cX gU]) w∧Hs [.ext vp DW] w) Kq zJ.1:=f101
            refine SL 4 rf ?_
            refine W1 rf (cE (hz:=(⟨by kernel_rfl⟩ : dx Try.prog 77 aO))) fun Ku=>?_
            refine ST (C:=(Hs [.ext cX gU, .ext vp DW])) zJ.1 (aF.id (L:=ah)) aK (mo f101) rf rf rf rf rf fun Ko f104=>?_
            refine SL 6 rf ?_
            refine aq rfl (av rfl (bf.len _ f104)) ?_
            refine ST (C:=(Hs [.ext cX gU, .ext vp DW])) zJ.1 (aF.id (L:=ah)) (mo f36) (mo f104) rf rf rf rf rf fun GU f106=>?_
            obtain ⟨B7,Fv,_,h⟩:=j2 h
            obtain ⟨zT,Fu,h⟩:=cN h
            refine SL 7 rf ?_
            refine GB rf rf rf (fun hb=>aN rfl) ?_
            refine GB rf rf rf (fun hb=>aR je (bN rfl hb)) ?_
            refine GB rf rf rf (fun hb=>fP (bN rfl hb) rfl) ?_
            refine aq rfl (cA rfl rfl) ?_
            refine aq rfl (ay rfl) ?_
            refine GB rf rf rf (fun hb=>aU (M:=ae) (aF.id (L:=ae)) rfl rfl) ?_
            refine GB rf rf rf (fun hb=>av rfl (bf.len _ f106)) ?_
            refine GB rf rf rf (fun hb=>ay rfl) ?_
            refine GB rf rf rf (fun hb=>dK (cW (K:=(Hs [.ext cX gU, .ext vp DW])) (mo f106) (Fv hb)) (aP (bN rfl hb) (aP (bN rfl hb) (aP (bN rfl hb) rfl))) kn) ?_
            refine GB rf rf rf (fun hb=>eD (cs:=aD.enc zT) rfl (by rw [Fu]; rfl)) ?_
            refine GB rf rf rf (fun hb=>og (wh (cs:=aD.enc B7) (ds:=aD.enc zT) (bN rfl hb) (bN rfl hb) rfl rfl) (nO _ _)) ?_
            refine aq rfl (cA rfl rfl) ?_
            refine SL 2 rf ?_
            refine fz h rf (fun hc h=>?_) fun hc h=>?_
            ·
             refine SC 13 rf ?_
             have h:=sj h; subst h
             exact RV rf (rt rf rn) rf
            ·
             refine SC 2 rf ?_
             refine bK (R:=[.ext vp DW]) (H':=[.cells Ku 77 Ko, .cells b6 114 (bw.enc bR), .ext cX gU, .cells b4 146 (ae.enc gB), .cells b3 77 GU]) (ks:=[1,0,2,3,4,5]) rfl (by decide) ?_
             exact CE [0,2,3,4,5] (gB,zJ.1,GU,(bx [.ext vp DW]),(Hs [.ext vp DW])) ⟨(mo f106),h⟩ rf rf rf
   ·
    rintro ⟨mw,gV,Dz,su,Bo⟩ ⟨f47,h⟩
    replace h:yA mw gV = some r:=h
    replace h:=yz JA h
    obtain ⟨wE,Ft,h⟩:=bp h
    refine SC 2 rf ?_
    refine aq rfl (av rfl (bf.len _ f47)) ?_
    refine aq rfl (aU (M:=ae) (aF.id (L:=ae)) rfl rfl) ?_
    refine CV (tY (K:=(Hs [.ext cX gU, .ext su Bo])) (mo f47) Ft) rf rf ?_
    refine SL 3 rf ?_
    refine fz h rf (fun hc h=>?_) fun hc h=>?_
    ·
     refine SC 11 rf ?_
     have h:=sj h; subst h
     exact RV rf (rt rf rn) rf
    ·
     refine SC 8 rf ?_
     refine bK (R:=[.ext su Bo, .ext cX gU]) (H':=[.cells b6 114 (bw.enc bR), .cells b4 146 (ae.enc mw), .cells b3 77 Dz]) (ks:=[0,2,1,3,4]) rfl (by decide) ?_
     exact LN [0,2,3] (wr .i64 (fa + 1),mw,gV,Dz,(bx [.ext su Bo, .ext cX gU]),(Hs [.ext su Bo, .ext cX gU])) ⟨(mo f47),h⟩ rf rf rf
  ·
   obtain ⟨Ey,Fs,h⟩:=bp h
   refine SC 7 rf ?_
   refine CV (mJ Fs) rf rf ?_
   refine SL 4 rf ?_
   have h:=sj h; subst h
   exact RV rf (rt rf rn) rf
end Go.Proofs.Ytmdpbdhkmfjlhaa
namespace Go.Proofs.Ytmdpbdhkmfjlhaa
open Go Go.Bw
set_option maxRecDepth 100000 in
theorem vH:jf 1000 = some true:=by kernel_rfl
structure xA (x:cm):Prop where
  k:0 ≤ x.Kind∧x.Kind ≤ 3
  h:x.Kind ≠ 3→x.bE = 0
  t:x.Kind ≠ 1→x.Task = 0
  hr:0 ≤ x.bE∧x.bE ≤ 255
  tr:0 ≤ x.Task∧x.Task ≤ 7
def vS:cm:={ Kind:=0,Task:=0,bE:=0 }
theorem vN:xA vS:=⟨by decide,fun _=>rfl,fun _=>rfl,by decide,by decide⟩
structure xB (w:ag) (o:bC) (S:Int→Prop):Prop where
  g:∀i,i < 32→xA (o.slots i).own
  p:∀i,i < 32→(o.slots i).root = 0∨(jZ w.B (o.slots i).root∧S (o.slots i).root)
def kB (w:ag) (o:bC) (h:Int):cm:=if aX w.B h = true∧(o.slots (bI (cq w h))).root = cq w h then (o.slots (bI (cq w h))).own else vS
theorem xV (x:Int):0 ≤ wr .u8 x∧wr .u8 x ≤ 255:=by
  have h:wr .u8 x = x % 256:=by simp [wr,IntKind.wrap,IntKind.signed,IntKind.bits]
  rw [h]; omega
theorem Kv (x:Int):0 ≤ lK .i64 x 7∧lK .i64 x 7 ≤ 7:=by
  unfold lK
  have h:((BitVec.ofInt (IntKind.bits .i64) x &&& BitVec.ofInt (IntKind.bits .i64) 7).toNat) ≤ 7:=by
    rw [BitVec.toNat_and]
    exact Nat.le_trans Nat.and_le_right (by decide)
  generalize ((BitVec.ofInt (IntKind.bits .i64) x &&& BitVec.ofInt (IntKind.bits .i64) 7).toNat) = k at h
  have e:IntKind.wrap .i64 (k:Int) = k:=bP (by omega) (by omega)
  rw [e]; omega
section
variable {n:Nat} {t:aj} {w:ag} {o:bC}
theorem qL (r:fu t w) (tt:gQ w) {h:Int} (hh:bh w.B h):bh w.B (cq w h)∧cq w (cq w h) = cq w h:=by
  obtain ⟨ρ,f⟩:=rY r tt
  have hG:=(bJ r.book h).2 hh
  obtain ⟨a,b,c⟩:=f.x7 hG
  have e:cq w h = tf (cg w) h:=by unfold cq; rw [if_pos hh.2]
  have g:=(bJ r.book _).1 a
  rw [e]
  refine ⟨g,?_⟩
  unfold cq
  rw [if_pos g.2]; exact (f.pe a).2 c
theorem mU (hn:40 ≤ n) (r:fu t w) (tt:gQ w) {h:Int} (h0:0 ≤ h) (h1:h < 4294967296):cH n o t h = some (kB w o h):=by
  unfold cH kB
  rw [au (mQ hn r tt h0 h1)]
  cases hg:aX w.B h with
  | false =>
    have e:cq w h = 0:=by unfold cq; rw [hg]; rfl
    rw [e,au (iu (by omega) (by omega)),if_neg (fun q=>by cases q.1)]
    rfl
  | true =>
    obtain ⟨g,_⟩:=qL r tt ⟨h0,hg⟩
    have gs:=(mz g.2).1
    rw [au (iu g.1 (eB g.2)),gs,aB (by rw [eO]; simp)]
    show cn ((!true) || ((o.slots (bI (cq w h))).root != cq w h)) _ _ = _
    by_cases e:(o.slots (bI (cq w h))).root = cq w h
    · rw [ak (by simpa using e),aB (eO _),lt_eq,if_pos ⟨rfl,e⟩]; rfl
    · rw [aA (by simpa using e),lt_eq,if_neg (fun q=>e q.2)]; rfl
theorem tw {S:Int→Prop} (q:xB w o S) (h:Int):xA (kB w o h):=by
  unfold kB
  split
  · exact q.g _ (iw _)
  · exact vN
def iP (w:ag) (h task:Int):Int:=if aX w.B h = false then 4 else if cq w h ≠ h then 12 else if task < 0∨8 ≤ task then 2 else 0
def qm (o:bC) (h:Int) (x:cm):bC:={ o with slots:=dX o.slots (bI h) { root:=h,own:=x } }
theorem uE (hn:40 ≤ n) (r:fu t w) (tt:gQ w) {h task:Int} (h0:0 ≤ h) (h1:h < 4294967296) (x:cm):eF n o t h task x = some (if iP w h task = 0 then qm o h x else o,iP w h task):=by
  unfold eF
  rw [au (jg r.book h0 h1)]
  cases hg:aX w.B h with
  | false =>
    have he:iP w h task = 4:=by unfold iP; rw [if_pos hg]
    rw [he,if_neg (by decide)]; rfl
  | true =>
    have hn:¬ aX w.B h = false:=by rw [hg]; decide
    rw [ak (b:=!true) rfl,au (mQ (by omega) r tt h0 h1)]
    by_cases hr:cq w h = h
    · rw [ak (by simpa using hr)]
      by_cases ht:task < 0∨8 ≤ task
      · have he:iP w h task = 2:=by unfold iP; rw [if_neg hn,if_neg (fun q=>q hr),if_pos ht]
        rw [aA (by simpa using ht),he,if_neg (by decide)]
      · have he:iP w h task = 0:=by unfold iP; rw [if_neg hn,if_neg (fun q=>q hr),if_neg ht]
        rw [ak (by rw [Bool.or_eq_false_iff,decide_eq_false_iff_not,decide_eq_false_iff_not]; omega),he,if_pos rfl,au (iu h0 h1),lt_eq,aB (eO h),lt_eq]
        rfl
    · have he:iP w h task = 12:=by unfold iP; rw [if_neg hn,if_pos hr]
      rw [aA (by simpa using hr),he,if_neg (by decide)]
theorem rJ {h task:Int} (h0:0 ≤ h) (e:iP w h task = 0):bh w.B h∧cq w h = h∧0 ≤ task∧task < 8:=by
  unfold iP at e
  split at e
  · cases e
  · rename_i h1
    split at e
    · cases e
    · rename_i h2
      split at e
      · cases e
      · rename_i h3
        exact ⟨⟨h0,by simpa using h1⟩,Decidable.not_not.1 h2,by omega,by omega⟩
theorem xB.Bz {S:Int→Prop} (q:xB w o S) {h:Int} (hh:bh w.B h) (hS:S h) {x:cm} (hx:xA x):xB w (qm o h x) S:=by
  refine ⟨fun i hi=>?_,fun i hi=>?_⟩
  · unfold qm; dsimp only; rw [bX]; split
    · exact hx
    · exact q.g i hi
  · unfold qm; dsimp only; rw [bX]; split
    · exact .inr ⟨n6 hh,hS⟩
    · exact q.p i hi
theorem Ag {h:Int} (hh:bh w.B h) (hr:cq w h = h) (x:cm):kB w (qm o h x) h = x:=by
  unfold kB qm
  rw [hr]
  simp only [lQ]
  rw [if_pos ⟨hh.2,trivial⟩]
theorem vt (a:Int):∃b,kj n a = some b∧0 ≤ b∧b ≤ 255:=by
  unfold kj
  have:=Kv a
  rw [aB (decide_eq_true this.1)]
  exact ⟨_,rfl,by unfold wK; exact xV _⟩
theorem tv (hn:40 ≤ n) (r:fu t w) (tt:gQ w) {S:Int→Prop} (q:xB w o S) {h task:Int} (h0:0 ≤ h) (h1:h < 4294967296) (hS:S h) (hold:Bool) :
    ∃o' v e,fT n o t h task hold = some (o',v,e)∧0 ≤ v∧v ≤ 255∧xB w o' S:=by
  obtain ⟨b,b1,b2,b3⟩:=vt (n:=n) task
  have hx:=tw q h
  unfold fT
  rw [au (mU hn r tt h0 h1),au (uE hn r tt h0 h1 _),au b1]
  dsimp only
  generalize kB w o h = x at hx
  rw [cy (jg r.book h0 h1),cy (mQ hn r tt h0 h1)]
  generalize NB:((iP w h task == 4) || ((bif (iP w h task == 4) == false then aX w.B h else default) && ((bif ((iP w h task == 4) == false) && ((bif (iP w h task == 4) == false then aX w.B h else default) == true) then cq w h else default) != h))) = c1
  cases c1 with
  | true=>rw [aA rfl]; exact ⟨_,_,_,rfl,by decide,by decide,q⟩
  | false =>
  rw [ak rfl]
  by_cases hk:x.Kind = 3
  · rw [ak (by simpa using hk)]
    by_cases he:iP w h task = 0
    · obtain ⟨s1,s2,_⟩:=rJ h0 he
      rw [ak (by simpa using he),he,if_pos rfl]
      generalize ((lK .u8 x.bE b) != 0) = has
      cases Ms:(has && hold) with
      | true=>rw [aA rfl]; exact ⟨_,_,_,rfl,by decide,by decide,q⟩
      | false =>
        rw [ak rfl]
        cases xH:(!has && !hold) with
        | true=>rw [aA rfl]; exact ⟨_,_,_,rfl,by decide,by decide,q⟩
        | false =>
          have hu:0 ≤ uw .u8 x.bE b∧uw .u8 x.bE b ≤ 255:=by unfold uw; exact xV _
          have Hw:xA { x with bE:=uw .u8 x.bE b }:=⟨hx.k,fun q=>absurd hk q,hx.t,hu,hx.tr⟩
          rw [ak rfl,au b1,lt_eq,au (uE hn r tt h0 h1 _),he,if_pos rfl]
          exact ⟨_,_,_,rfl,hu.1,hu.2,(q.Bz s1 hS hx).Bz s1 hS Hw⟩
    · rw [aA (by simpa using he)]; exact ⟨_,_,_,rfl,by decide,by decide,q⟩
  · rw [aA (by simpa using hk)]; exact ⟨_,_,_,rfl,by decide,by decide,q⟩
theorem Cm {v:Int} (h0:0 ≤ v) (h1:v ≤ 255):dV n v = some (wr .i64 (Lib.pop8 v)):=by
  unfold dV
  rw [aB (cC h0 (by omega))]
def vZ (k b:Int) (x:cm):Bool:=(((x.Kind == 3) && decide (0 ≤ k)) && decide (k < 8)) && ((lK .u8 x.bE (bif (((x.Kind == 3) && decide (0 ≤ k)) && decide (k < 8)) == true then b else default)) != 0)
theorem xX (hn:100 ≤ n) (r:fu t w) (tt:gQ w) (d:cm→Option Bool) (p:cm→Bool) (hd:∀x,d x = some (p x)) :
    di (fun uM (dy:(List Int)) (cR:Int) =>
  cn (decide (cR < ((bB w.B 32).length:Int))) (
  gu (dj cR (bB w.B 32).length) <|
  bd (dw n t ((bB w.B 32).getD (Int.toNat cR) default)) fun jE =>
  cl ((jE == ((bB w.B 32).getD (Int.toNat cR) default)) == true) (cH n o t ((bB w.B 32).getD (Int.toNat cR) default)) default fun g5 =>
  cl ((jE == ((bB w.B 32).getD (Int.toNat cR) default)) == true) (d g5) default fun bR =>
  cn (((jE == ((bB w.B 32).getD (Int.toNat cR) default)) && bR)) (
  gu (jP dy.length 1 4) <|
  lt (dy++([((bB w.B 32).getD (Int.toNat cR) default)]):List Int) fun lO =>
  uM lO (wr .i64 (cR + 1))) (
  uM dy (wr .i64 (cR + 1)))) (
  some dy)) n [] 0 = some ((Gw w).filter fun h=>(cq w h == h) && p (kB w o h)):=by
  have hm:=bJ r.book
  have hlen:=ff w.B 32
  have MD:Gw w = bB w.B 32:=rfl
  rw [MD]
  generalize bB w.B 32 = G at hm hlen ⊢
  refine dN (fun (s:List Int) (i:Int)=>∃k:Nat,i = k∧k ≤ G.length∧s = (G.take k).filter fun h=>(cq w h == h) && p (kB w o h)) (fun _ i=>G.length - i.toNat) (fun q=>q = some (G.filter fun h=>(cq w h == h) && p (kB w o h))) ?_ n [] 0 ⟨0,rfl,by omega,by simp⟩ (by omega)
  rintro kk s i ⟨k,rfl,hk,rfl⟩ ih
  by_cases c:k < G.length
  · have hx:=(hm _).1 (fS (l:=G) (i:=k) c)
    have ht:(G.take (k + 1)).filter (fun h=>(cq w h == h) && p (kB w o h)) = (G.take k).filter (fun h=>(cq w h == h) && p (kB w o h))++(if ((cq w (G.getD k default) == G.getD k default) && p (kB w o (G.getD k default))) = true then [G.getD k default] else []):=by
      rw [List.take_succ_eq_append_getElem c,List.filter_append,← fB c]
      generalize G.getD k default = y
      cases hy:((cq w y == y) && p (kB w o y)) <;> simp [hy]
    have Fy:((G.take k).filter (fun h=>(cq w h == h) && p (kB w o h))).length ≤ 32:=Nat.le_trans (List.length_filter_le _ _) (by rw [List.length_take]; omega)
    simp only [Int.toNat_natCast]
    generalize G.getD k default = y at hx ht ⊢
    have hl:=eB hx.2
    rw [aA (decide_eq_true (by omega)),aB (cC (by omega) (by omega)),au (mQ (by omega) r tt hx.1 hl),bP (x:=(k:Int) + 1) (by omega) (by omega)]
    cases hr:(cq w y == y) with
    | false =>
      rw [hr] at ht
      rw [pW (by rfl),pW (by rfl),ak (by rfl)]
      exact ih _ _ ⟨k + 1,by omega,by omega,by rw [ht]; simp⟩ (by omega)
    | true =>
      rw [hr] at ht
      refine (nx (by rfl) (mU (by omega) r tt hx.1 hl)).trans ((nx (by rfl) (hd _)).trans ?_)
      cases hp:p (kB w o y) with
      | true =>
        rw [hp] at ht
        rw [aA (by rfl),aB (jC (by omega) (by omega)),lt_eq]
        exact ih _ _ ⟨k + 1,by omega,by omega,by rw [ht]; simp⟩ (by omega)
      | false =>
        rw [hp] at ht
        rw [ak (by rfl)]
        exact ih _ _ ⟨k + 1,by omega,by omega,by rw [ht]; simp⟩ (by omega)
  · rw [ak (decide_eq_false (by omega)),List.take_of_length_le (by omega)]
theorem ya (hn:100 ≤ n) (r:fu t w) (tt:gQ w) (k:Int):fF n o t k = some ((Gw w).filter fun h=>(cq w h == h) && (((kB w o h).Kind == 1) && ((wr .i64 (kB w o h).Task) == k))):=by
  unfold fF cM
  rw [au (A5 (by omega) r)]
  exact au (xX (o:=o) hn r tt (fun x=>gI n x k) (fun x=>(x.Kind == 1) && ((wr .i64 x.Task) == k)) (fun x=>rfl))
theorem yY (hn:100 ≤ n) (r:fu t w) (tt:gQ w) (k:Int):∃p:cm→Bool,(∀x,p x = true→x.Kind = 3)∧fU n o t k = some ((Gw w).filter fun h=>(cq w h == h) && p (kB w o h)):=by
  unfold fU cP
  rw [au (A5 (by omega) r)]
  obtain ⟨b,b1,_⟩:=vt (n:=n) k
  have key:=xX (o:=o) hn r tt (fun x=>fR n x k) (vZ k b) (fun x=>by unfold fR vZ; rw [cy b1])
  refine ⟨vZ k b,fun x hx=>?_,au key⟩
  unfold vZ at hx
  simp only [Bool.and_eq_true,beq_iff_eq] at hx
  exact hx.1.1.1
theorem BI {l:List Int} (hl:l.Nodup) (hlen:l.length ≤ 40) (hn:100 ≤ n) (h:Int):kL n l h = some (if h ∈ l then 1 else 0):=by
  unfold kL
  refine dN (fun (c i:Int)=>∃k:Nat,i = k∧k ≤ l.length∧c = if h ∈ l.take k then 1 else 0) (fun _ i=>l.length - i.toNat) (fun o=>o = some (if h ∈ l then 1 else 0)) ?_ n 0 0 ⟨0,rfl,by omega,by simp⟩ (by omega)
  rintro kk c i ⟨k,rfl,hk,rfl⟩ ih
  by_cases q:k < l.length
  · have hnt:l.getD k default ∉ l.take k:=fun hm=>by
      have:=hl
      rw [← List.take_append_drop k l] at this
      refine (List.nodup_append.1 this).2.2 _ hm _ ?_ rfl
      rw [List.drop_eq_getElem_cons q,← fB q]; exact List.mem_cons_self
    have ht:h ∈ l.take (k + 1)↔h ∈ l.take k∨h = l.getD k default:=by
      rw [List.take_succ_eq_append_getElem q,List.mem_append,List.mem_singleton,← fB q]
    rw [aA (decide_eq_true (by omega)),aB (cC (by omega) (by omega)),Int.toNat_natCast,bP (x:=(k:Int) + 1) (by omega) (by omega)]
    by_cases e:l.getD k default = h
    · have hno:h ∉ l.take k:=by rw [← e]; exact hnt
      rw [aA (by simpa using e),if_neg hno]
      exact ih _ _ ⟨k + 1,by omega,by omega,by rw [if_pos (ht.2 (.inr e.symm))]; exact bP (by decide) (by decide)⟩ (by omega)
    · rw [ak (by simpa using e)]
      refine ih _ _ ⟨k + 1,by omega,by omega,?_⟩ (by omega)
      by_cases m:h ∈ l.take k
      · rw [if_pos m,if_pos (ht.2 (.inl m))]
      · rw [if_neg m,if_neg (fun q=>(ht.1 q).elim m fun q=>e q.symm)]
  · rw [ak (decide_eq_false (by omega)),List.take_of_length_le (by omega)]
theorem Ig (hn:100 ≤ n) (r:fu t w) (tt:gQ w) {S:Int→Prop} (q:xB w o S):iV n t o = some true:=by
  have hm:=bJ r.book
  have hlen:=ff w.B 32
  have xF:=mW r.book 32 (by omega)
  unfold iV
  rw [au (A5 (by omega) r)]
  refine gJ (fun (i:Int)=>0 ≤ i∧i ≤ (bB w.B 32).length) (fun i=>(((bB w.B 32).length:Int) - i).toNat) (fun o=>o = some true) ?_ n 0 ⟨by omega,by omega⟩ (by omega)
  rintro kk i ⟨i0,i1⟩ ih
  by_cases c:i < (bB w.B 32).length
  · have hx:=(hm _).1 (fS (l:=bB w.B 32) (i:=i.toNat) (by omega))
    have g1:dj i (bB w.B 32).length = true:=cC i0 c
    generalize (bB w.B 32).getD i.toNat default = h at hx ⊢
    have hl:=eB hx.2
    obtain ⟨rg,rr⟩:=qL r tt hx
    have he:kB w o (cq w h) = kB w o h:=by
      unfold kB; rw [rr,rg.2,hx.2]
    have hG:=tw q h
    rw [aA (by simpa using c),aB g1,au (mU (by omega) r tt hx.1 hl),aB g1,au (mQ (by omega) r tt hx.1 hl),au (mU (by omega) r tt rg.1 (eB rg.2)),he]
    generalize hy:kB w o h = x at hG ⊢
    have c1:(((((!(cB x x)) || decide (3 < x.Kind)) || ((x.Kind != 3) && (x.bE != 0))) || ((x.Kind != 1) && (x.Task != 0)))) = false:=by
      have e1:cB x x = true:=by simp [cB]
      have e2:decide (3 < x.Kind) = false:=decide_eq_false (by have:=hG.k; omega)
      have e3:((x.Kind != 3) && (x.bE != 0)) = false:=by
        by_cases e:x.Kind = 3
        · simp [e]
        · rw [hG.h e]; simp
      have e4:((x.Kind != 1) && (x.Task != 0)) = false:=by
        by_cases e:x.Kind = 1
        · simp [e]
        · rw [hG.t e]; simp
      rw [e1,e2,e3,e4]; rfl
    rw [ak c1,bP (x:=i + 1) (by omega) (by omega)]
    refine kK (fun (a b k:Int)=>(0 ≤ k∧k ≤ 8)∧(a = if (cq w h = h∧x.Kind = 1∧x.Task < k) then 1 else 0)∧(0 ≤ b∧b ≤ k)∧(x.Kind ≠ 3→b = 0)) (fun _ _ k=>(8 - k).toNat) (fun o=>o = some true) ?_ n 0 0 0 ⟨by omega,by rw [if_neg (fun q=>by have:=hG.tr; omega)],by omega,fun _=>rfl⟩ (by omega)
    rintro k2 a b k ⟨⟨k0,k1⟩,rfl,⟨b0,b1⟩,hb⟩ Fi
    by_cases ck:k < 8
    · obtain ⟨p,p1,p2⟩:=yY (o:=o) hn r tt k
      have hfl:∀g:Int→Bool,((Gw w).filter g).length ≤ 40:=fun g=>Nat.le_trans (List.length_filter_le _ _) (by show (bB w.B 32).length ≤ 40; omega)
      have hfn:∀g:Int→Bool,((Gw w).filter g).Nodup:=fun g=>xF.filter _
      have Mr:h ∈ Gw w:=(hm h).2 hx
      rw [aA (by simpa using ck),au (ya (o:=o) hn r tt k),aB g1,au (BI (hfn _) (hfl _) hn h),au p2,aB g1,au (BI (hfn _) (hfl _) hn h)]
      have wt:wr .i64 x.Task = x.Task:=bP (by have:=hG.tr; omega) (by have:=hG.tr; omega)
      have m1:(h ∈ (Gw w).filter fun h=>(cq w h == h) && (((kB w o h).Kind == 1) && ((wr .i64 (kB w o h).Task) == k)))↔(cq w h = h∧x.Kind = 1∧x.Task = k):=by
        rw [List.mem_filter,hy,wt]; simp [Mr]
      have m2:(h ∈ (Gw w).filter fun h=>(cq w h == h) && p (kB w o h))→x.Kind = 3:=fun q=>by
        rw [List.mem_filter,hy] at q
        have:=q.2
        rw [Bool.and_eq_true] at this
        exact p1 x this.2
      have s1:∀(P Q:Prop) [Decidable P] [Decidable Q],0 ≤ ((if P then 1 else 0:Int) + (if Q then 1 else 0))∧((if P then 1 else 0:Int) + (if Q then 1 else 0)) ≤ 2:=fun P Q _ _=>by split <;> split <;> omega
      have s2:=s1 (cq w h = h∧x.Kind = 1∧x.Task < k) (h ∈ (Gw w).filter fun h=>(cq w h == h) && (((kB w o h).Kind == 1) && ((wr .i64 (kB w o h).Task) == k)))
      have s3:0 ≤ (if h ∈ (Gw w).filter (fun h=>(cq w h == h) && p (kB w o h)) then 1 else 0:Int)∧(if h ∈ (Gw w).filter (fun h=>(cq w h == h) && p (kB w o h)) then 1 else 0:Int) ≤ 1:=by split <;> decide
      rw [bP (x:=_ + _) (by omega) (by omega),bP (x:=b + _) (by omega) (by omega),bP (x:=k + 1) (by omega) (by omega)]
      refine Fi _ _ _ ⟨by omega,?_,by omega,fun h3=>?_⟩ (by omega)
      · by_cases a1:cq w h = h∧x.Kind = 1
        · by_cases a2:x.Task < k
          · rw [if_pos ⟨a1.1,a1.2,a2⟩,if_neg (fun q=>by have:=(m1.1 q).2.2; omega),if_pos ⟨a1.1,a1.2,by omega⟩]; rfl
          · by_cases a3:x.Task = k
            · rw [if_neg (fun q=>a2 q.2.2),if_pos (m1.2 ⟨a1.1,a1.2,a3⟩),if_pos ⟨a1.1,a1.2,by omega⟩]; rfl
            · rw [if_neg (fun q=>a2 q.2.2),if_neg (fun q=>a3 (m1.1 q).2.2),if_neg (fun q=>by omega)]; rfl
        · rw [if_neg (fun q=>a1 ⟨q.1,q.2.1⟩),if_neg (fun q=>a1 ⟨(m1.1 q).1,(m1.1 q).2.1⟩),if_neg (fun q=>a1 ⟨q.1,q.2.1⟩)]; rfl
      · rw [hb h3,if_neg (fun q=>h3 (m2 q))]; rfl
    · rw [ak (by simpa using ck),ak ?_]
      · exact ih _ ⟨by omega,by omega⟩ (by omega)
      · by_cases a1:cq w h = h∧x.Kind = 1∧x.Task < k
        · rw [if_pos a1,hb (by omega)]; rfl
        · rw [if_neg a1]; rfl
  · rw [ak (by simpa using c)]
end
end Go.Proofs.Ytmdpbdhkmfjlhaa
namespace Go.Proofs.Ytmdpbdhkmfjlhaa
open Go Go.Bw
def Br (l:List fV) (h:Int):Prop:=∃a ∈ l,9 < a.Do∧a.A = h
theorem A4 {n:Nat} (hn:200 ≤ n) {l:List fV} (hl:l.length ≤ 100) (h:Int):∃b,iA n l h = some b∧(b = true↔Br l h):=by
  unfold iA
  refine gJ (fun (i:Int)=>∃k:Nat,i = k∧k ≤ l.length∧¬ Br (l.take k) h) (fun i=>l.length - i.toNat) (fun o=>∃b,o = some b∧(b = true↔Br l h)) ?_ n 0 ⟨0,rfl,by omega,fun ⟨a,ha,_⟩=>by simp at ha⟩ (by omega)
  rintro kk i ⟨k,rfl,hk,hp⟩ ih
  by_cases c:k < l.length
  · have hm:=fS (l:=l) (i:=k) c
    have g1:dj (k:Int) l.length = true:=cC (by omega) (by omega)
    have ht:∀a,a ∈ l.take (k + 1)↔a ∈ l.take k∨a = l.getD k default:=fun a=>by
      rw [List.take_succ_eq_append_getElem c,List.mem_append,List.mem_singleton,← fB c]
    rw [Int.toNat_natCast]
    generalize l.getD k default = a at hm ht ⊢
    rw [aA (decide_eq_true (by omega)),aB g1,aB (by rw [g1]; simp),bP (x:=(k:Int) + 1) (by omega) (by omega)]
    by_cases e:9 < a.Do∧a.A = h
    · rw [aA (by simpa using e)]
      exact ⟨true,rfl,fun _=>⟨a,hm,e⟩,fun _=>rfl⟩
    · rw [ak (by rw [Bool.and_eq_false_iff,decide_eq_false_iff_not,beq_eq_false_iff_ne]; omega)]
      refine ih _ ⟨k + 1,by omega,by omega,fun ⟨b,hb,q⟩=>?_⟩ (by omega)
      rcases (ht b).1 hb with hb | hb
      · exact hp ⟨b,hb,q⟩
      · exact e (hb ▸ q)
  · rw [ak (decide_eq_false (by omega))]
    rw [List.take_of_length_le (by omega)] at hp
    exact ⟨false,rfl,fun q=>(by cases q),fun q=>absurd q hp⟩
theorem uJ (l:List Int):∀(w:ag) (x:Int),jZ w.B x→jZ (er w l).B x:=by
  induction l with
  | nil=>intro w x h; exact h
  | cons y l ih =>
    intro w x h
    refine ih _ _ ?_
    unfold vi
    split
    · unfold wF; exact qT (h:=y) x h
    · exact h
theorem xB.mono {w w' : ag} {o:bC} {S S' : Int→Prop} (q:xB w o S) (hp:∀x,jZ w.B x→jZ w'.B x) (hS:∀x,S x→S' x):xB w' o S':=⟨q.g,fun i hi=>(q.p i hi).imp _root_.id fun h=>⟨hp _ h.1,hS _ h.2⟩⟩
theorem wT {l:List fV} (hl:∀a ∈ l,KF a):jO 1000 l = some true:=by
  unfold jO
  by_cases hc:100 < l.length
  · rw [aA (decide_eq_true (by omega)),au vH]
  rw [ak (decide_eq_false (by omega))]
  refine kK (fun (i:Int) (o:bC) (t:aj)=>∃k:Nat,i = k∧k ≤ l.length∧∃w,fu t w∧gQ w∧oI w∧xB w o (Br (l.take k))) (fun i _ _=>((l.length:Int) - i).toNat) (fun o=>o = some true) ?_ 1000 0 _ _ ⟨0,rfl,by omega,_,Bs.1,Bs.2,yC,fun i _=>vN,fun i _=>.inl rfl⟩ (by omega)
  rintro kk i o t ⟨k,rfl,hk,w,r,tt,iv,q⟩ ih
  by_cases hx:k < l.length
  · have hm:=fS (l:=l) (i:=k) hx
    obtain ⟨_,hA,hB,hC,hQ⟩:=hl _ hm
    have ht:∀a,a ∈ l.take (k + 1)↔a ∈ l.take k∨a = l.getD k default:=fun a=>by
      rw [List.take_succ_eq_append_getElem hx,List.mem_append,List.mem_singleton,← fB hx]
    rw [aA (decide_eq_true (by omega)),aB (cC (by omega) (by omega)),lt_eq]
    rw [Int.toNat_natCast]
    generalize l.getD k default = a at *
    have A0:=hA.1
    have A1:a.A < 4294967296:=by omega
    have grow:∀x,Br (l.take k) x→Br (l.take (k + 1)) x:=fun x ⟨b,hb,e⟩=>⟨b,(ht b).2 (.inl hb),e⟩
    have now:9 < a.Do→Br (l.take (k + 1)) a.A:=fun h=>⟨a,(ht a).2 (.inr rfl),h,rfl⟩
    rw [bP (x:=(k:Int) + 1) (by omega) (by omega),lt_eq]
    have vQ:∀o' t' w',fu t' w'→gQ w'→oI w'→xB w' o' (Br (l.take (k + 1)))→(bd (iV 1000 t' o') fun wE=>cn (!wE) (some false) (kk ((k:Int) + 1) o' t')) = some true:=fun o' t' w' r' KH L5 q'=>by
      rw [au (Ig (by omega) r' KH q'),ak (b:=!true) rfl]
      exact ih _ _ _ ⟨k + 1,by omega,by omega,w',r',KH,L5,q'⟩ (by omega)
    by_cases d0:a.Do = 0
    · obtain ⟨t',e1,_,e3,e4⟩:=Gv (n:=1000) (by omega) r tt iv A0 A1
      rw [aA (by simpa using d0),au e1]
      exact vQ o t' _ e3 e4 (y8 _ r tt iv (s6 r tt a.A)).2.2.1 (q.mono (uJ _ w) grow)
    rw [ak (by simpa using d0)]
    by_cases d1:a.Do = 1
    · obtain ⟨t',e1,_,e3,e4,e5⟩:=Kg (n:=1000) (by omega) r tt iv A0 A1
      have hb:=y9 w a.A
      obtain ⟨bb,b1,b2⟩:=A4 (n:=1000) (by omega) (l:=l.take k) (by rw [List.length_take]; omega) a.A
      have g1:dj (k:Int) (l.length + 1) = true:=cC (by omega) (by omega)
      rw [aA (by simpa using d1),au e1,au (jg r.book A0 A1),cy (mQ (by omega) r tt A0 A1),cy (mU (o:=o) (by omega) e3 e4 A0 A1),aB (by rw [g1]; simp),cy b1,ak ?_]
      · exact vQ o t' _ e3 e4 e5 (q.mono (fun x h=>by rw [hb]; exact h) grow)
      · cases hg:aX w.B a.A with
        | false=>rfl
        | true =>
          by_cases hr:cq w a.A = a.A
          · simp [hr]
          · have zN:(cq w a.A != a.A) = true:=by simpa using hr
            show ((true && (cq w a.A != a.A)) && ((bif ((true && (cq w a.A != a.A)) == true) then kB (lH w a.A) o a.A else default).Kind != 0) && (!(bif (((true && (cq w a.A != a.A)) && ((bif ((true && (cq w a.A != a.A)) == true) then kB (lH w a.A) o a.A else default).Kind != 0)) == true) then bb else default))) = false
            rw [zN]
            by_cases vY:(kB (lH w a.A) o a.A).Kind = 0
            · rw [show (bif ((true && true) == true) then kB (lH w a.A) o a.A else default) = kB (lH w a.A) o a.A from rfl,vY]; rfl
            · have HC:bb = true:=by
                refine b2.2 ?_
                have hh:bh w.B a.A:=⟨A0,hg⟩
                obtain ⟨ρ,f⟩:=Gu e3 e4 (G:=Gw w) (by unfold Gw; rw [hb])
                have hG:=(bJ r.book a.A).2 hh
                have FF:cq (lH w a.A) a.A = a.A:=by
                  unfold cq
                  rw [hb,if_pos hg]
                  exact (f.pe hG).2 (by rw [Dv a.A hh hh,if_pos rfl])
                unfold kB at vY
                rw [FF] at vY
                split at vY
                · rename_i hs
                  rcases q.p (bI a.A) (iw _) with h | h
                  · rw [hs.2] at h
                    have:=fW hh; omega
                  · rw [hs.2] at h; exact h.2
                · exact absurd rfl vY
              have:((kB (lH w a.A) o a.A).Kind != 0) = true:=by simpa using vY
              rw [show (bif ((true && true) == true) then kB (lH w a.A) o a.A else default) = kB (lH w a.A) o a.A from rfl,this,HC]; rfl
    rw [ak (by simpa using d1)]
    by_cases d2:a.Do = 2
    · obtain ⟨t',w',e,e1,_,e3,e4,e5,e6⟩:=Dk (n:=1000) (by omega) r tt iv A0 A1 hB.1 (by omega)
      have hb:w'.B = w.B:=by
        by_cases e0:e = 0
        · rw [(e6.is e0).1]; rfl
        · rw [e6.no e0]
      rw [aA (by simpa using d2),au e1]
      exact vQ o t' w' e3 e4 e5 (q.mono (fun x h=>by rw [hb]; exact h) grow)
    rw [ak (by simpa using d2),lt_eq]
    have q1:xB w o (Br (l.take (k + 1))):=q.mono (fun x h=>h) grow
    have fin:∀(x:cm) (task:Int),xA x→(x.Kind = 1∨x.Kind = 3)→((x.Kind == 1) = (a.Do == 10))→9 < a.Do→∀o' e,o' = (if iP w a.A task = 0 then qm o a.A x else o)→e = iP w a.A task →
        (bd (cH 1000 o' t a.A) fun xO =>
  cn ((((e == 0) && ((xO.Kind == 1) != (a.Do == 10))) || (((e == 0) && (xO.Kind != 1)) && (xO.Kind != 3)))) (
  some false) (
  (bd (iV 1000 t o') fun wE=>cn (!wE) (some false) (kk ((k:Int) + 1) o' t)))) = some true:=fun x task gx Mn BM h9 o' e ho he=>by
      rw [au (mU (by omega) r tt A0 A1)]
      by_cases e0:iP w a.A task = 0
      · obtain ⟨s1,s2,_⟩:=rJ A0 e0
        rw [if_pos e0] at ho
        subst ho
        rw [Ag s1 s2,BM,ak ?_]
        · exact vQ _ t w r tt iv (q1.Bz s1 (now h9) gx)
        · rcases Mn with h | h <;> rw [h] <;> simp
      · rw [if_neg e0] at ho
        subst ho
        have:(e == 0) = false:=by rw [he]; simpa using e0
        rw [this,ak (by rfl)]
        exact vQ _ t w r tt iv q1
    have Bz:=fun (x:cm) (task:Int)=>uE (n:=1000) (o:=o) (by omega) r tt (task:=task) A0 A1 x
    by_cases d10:a.Do = 10
    · rw [aA (by simpa using d10)]
      have AT:(a.Do == 10) = true:=by simpa using d10
      show cn (a.Do == 10) _ _ = some true
      rw [aA AT,lt_eq,aA AT]
      have:fy 1000 o t a.A a.bu = some (if iP w a.A a.bu = 0 then qm o a.A { Kind:=1,Task:=wr .u8 a.bu,bE:=0 } else o,iP w a.A a.bu):=by
        unfold fy; rw [lt_eq,au (Bz _ _)]
      rw [au this]
      dsimp only
      by_cases e0:iP w a.A a.bu = 0
      · have hq:=(rJ A0 e0).2.2
        have wq:wr .u8 a.bu = a.bu:=HT hq.1 (by omega)
        refine fin { Kind:=1,Task:=wr .u8 a.bu,bE:=0 } a.bu ⟨by dsimp only; decide,fun _=>rfl,fun h=>absurd rfl h,by dsimp only; decide,by dsimp only; rw [wq]; omega⟩ (.inl rfl) (by rw [AT]; rfl) (by omega) _ _ rfl rfl
      · rw [if_neg e0]
        refine fin { Kind:=1,Task:=0,bE:=0 } a.bu ⟨by dsimp only; decide,fun _=>rfl,fun h=>absurd rfl h,by dsimp only; decide,by dsimp only; decide⟩ (.inl rfl) (by rw [AT]; rfl) (by omega) _ _ (by rw [if_neg e0]) rfl
    · have AT:(a.Do == 10) = false:=by simpa using d10
      rw [ak (by simpa using d10)]
      by_cases d12:a.Do = 12
      · have Ka:(a.Do == 12) = true:=by simpa using d12
        show cn (a.Do == 12) _ _ = some true
        rw [aA Ka,lt_eq,ak AT]
        obtain ⟨b,b1,b2,b3⟩:=vt (n:=1000) a.bu
        have:eW 1000 o t a.A a.bu = some (if iP w a.A a.bu = 0 then qm o a.A { Kind:=3,Task:=0,bE:=b } else o,iP w a.A a.bu):=by
          unfold eW; rw [au b1,lt_eq,au (Bz _ _)]
        rw [au this]
        dsimp only
        exact fin { Kind:=3,Task:=0,bE:=b } a.bu ⟨by dsimp only; decide,fun h=>absurd rfl h,fun _=>rfl,⟨b2,b3⟩,by dsimp only; decide⟩ (.inr rfl) (by rw [AT]; rfl) (by omega) _ _ rfl rfl
      · have Ka:(a.Do == 12) = false:=by simpa using d12
        show cn (a.Do == 12) _ _ = some true
        rw [ak Ka]
        by_cases d11:a.Do = 11
        · rw [aA (by simpa using d11)]
          have:iz 1000 o t a.A = some (if iP w a.A 0 = 0 then qm o a.A { Kind:=2,Task:=0,bE:=0 } else o,iP w a.A 0):=by
            unfold iz; rw [lt_eq,au (Bz _ _)]
          rw [au this]
          dsimp only
          by_cases e0:iP w a.A 0 = 0
          · rw [if_pos e0]
            exact vQ _ t w r tt iv (q1.Bz (rJ A0 e0).1 (now (by omega)) ⟨by dsimp only; decide,fun _=>rfl,fun _=>rfl,by dsimp only; decide,by dsimp only; decide⟩)
          · rw [if_neg e0]; exact vQ _ t w r tt iv q1
        rw [ak (by simpa using d11)]
        by_cases d13:a.Do = 13
        · obtain ⟨o',v,e,h1,h2,h3,h4⟩:=tv (n:=1000) (by omega) r tt q1 (task:=a.bu) A0 A1 (now (by omega)) true
          rw [aA (by simpa using d13)]
          unfold gS
          rw [au h1]
          exact vQ _ t w r tt iv h4
        rw [ak (by simpa using d13)]
        by_cases d14:a.Do = 14
        · obtain ⟨o',v,e,h1,h2,h3,h4⟩:=tv (n:=1000) (by omega) r tt q1 (task:=a.bu) A0 A1 (now (by omega)) false
          rw [aA (by simpa using d14)]
          unfold gT
          rw [au h1,au (Cm h2 h3)]
          exact vQ _ t w r tt iv h4
        rw [ak (by simpa using d14)]
        obtain ⟨t',w',m,e,e1,_,m0,m1,e3,e4,e5,e6⟩:=Ih (n:=1000) (by omega) r tt iv (q:=a.bu) A0 A1
        rw [au e1,cy (mU (o:=o) (by omega) e3 e4 m0 m1),lt_eq]
        have hp:∀x,jZ w.B x→jZ w'.B x:=fun x h=>by
          by_cases e0:e = 0
          · obtain ⟨f0,hf,Hy,ha,hq,hd,rfl,rfl⟩:=e6.is e0
            exact mT x h
          · rw [e6.no e0]; exact h
        have hno:((((e == 0) && (a.A == 0)) && (!(cB (bif (((e == 0) && (a.A == 0)) == true) then kB w' o m else default) vS)))) = false:=by
          by_cases e0:e = 0
          · obtain ⟨f0,hf,Hy,ha,hq,hd,rfl,rfl⟩:=e6.is e0
            by_cases Kw:a.A = 0
            · have Mi:kB ⟨fY w.B f0,dX w.R f0 ⟨a.A,a.bu,bY,fun _=>0⟩⟩ o (fJ f0 (w.B.gD f0)) = vS:=by
                have hr:=r.book.ic f0 Hy
                obtain ⟨q1,q2,q3,q4,q5⟩:=kY (i:=f0) (g:=w.B.gD f0) (by omega) (by omega) hr.1 hr.2
                have hnew:bh (fY w.B f0) (fJ f0 (w.B.gD f0)):=(g7 r.book hf Hy _).2 (.inr rfl)
                obtain ⟨ρ,f⟩:=rY e3 e4
                have hG:=(bJ e3.book _).2 hnew
                have Fy:bI (fJ f0 (w.B.gD f0)) = f0:=by unfold bI; rw [q2]; omega
                have Jf:cq ⟨fY w.B f0,dX w.R f0 ⟨a.A,a.bu,bY,fun _=>0⟩⟩ (fJ f0 (w.B.gD f0)) = fJ f0 (w.B.gD f0):=by
                  unfold cq
                  rw [if_pos hnew.2]
                  refine (f.pe hG).2 ?_
                  unfold cg; dsimp only; rw [Fy,lQ]; exact Kw
                unfold kB
                rw [Jf,if_neg ?_]
                rintro ⟨_,h2⟩
                rcases q.p (bI (fJ f0 (w.B.gD f0))) (iw _) with h | h
                · rw [h2] at h; omega
                · rw [h2] at h; exact tp r.book hf Hy h.1
              rw [e0,Kw] at *
              rw [show (bif ((((0:Int) == 0) && ((0:Int) == 0)) == true) then _ else (default:cm)) = _ from rfl,Mi]
              rfl
            · have:(a.A == 0) = false:=by simpa using Kw
              rw [this,Bool.and_false]; rfl
          · have:(e == 0) = false:=by simpa using e0
            rw [this]; rfl
        refine (ak hno).trans ?_
        exact vQ o t' w' e3 e4 e5 (q1.mono hp fun x h=>h)
  · rw [ak (decide_eq_false (by omega)),au vH]
end Go.Proofs.Ytmdpbdhkmfjlhaa
