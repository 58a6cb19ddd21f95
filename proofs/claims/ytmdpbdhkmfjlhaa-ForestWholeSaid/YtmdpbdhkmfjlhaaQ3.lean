/- Part 3 of what a proof leans on; pruned and shortened by a program out of longer texts. -/
import Derived.Test.YtmdpbdhkmfjlhaaQ2
namespace Go.Proofs.Ytmdpbdhkmfjlhaa
open Go Go.Bw
instance:tn Try.prog 52 3 5 .i64:=⟨⟨by kernel_rfl,by kernel_rfl⟩⟩
instance:tn Try.prog 209 69 4 .u32:=⟨⟨by kernel_rfl,by kernel_rfl⟩⟩
instance:Dl Try.prog 4 (Value.bool false):=⟨by kernel_rfl⟩
instance:Dl Try.prog 5 (Value.int .u8 0):=⟨by kernel_rfl⟩
def kO (n:Nat) (a0:ae) (a1:Int):Option Int:=
 bd (iI n a0 a1) fun bn =>
 some bn.1.Up
def lR (n:Nat) (a0:ae) (a1:Int):Option (List Int):=
 bd (iJ n a0) fun bn =>
 cP (fun A6 (fC:(List Int)) (hJ:Int) =>
 cn (decide (hJ < (bn.length:Int))) (
 bd (bu n a0 a1) fun fe =>
 gu (!(fe == true) || cV hJ bn.length) <|
 cl (fe == true) (kO n a0 (bn.getD (Int.toNat hJ) default)) default fun iP =>
 cn ((fe && (iP == a1))) (
 gu (cV hJ bn.length) <|
 gu (jH fC.length 1 8) <|
 lt (fC++([(bn.getD (Int.toNat hJ) default)]):List Int) fun AT =>
 A6 AT (wr .i64 (hJ + 1))) (
 A6 fC (wr .i64 (hJ + 1)))) (
 some fC)) n ([]) 0
def fc:Nat→ae→Int→Option (List Int)
 | 0,_,_=>none
 | n + 1,a0,a1 =>
 bd (bu n a0 a1) fun bn =>
 cn ((!bn)) (
 some ([]:List Int)) (
 bd (lR n a0 a1) fun p8 =>
 cP (fun Ij (eC:(List Int)) (iW:Int) =>
 cn (decide (iW < (p8.length:Int))) (
 gu (cV iW p8.length) <|
 bd (fc n a0 (p8.getD (Int.toNat iW) default)) fun iP =>
 gu (jH eC.length iP.length 8) <|
 lt (eC++iP:List Int) fun jF =>
 Ij jF (wr .i64 (iW + 1))) (
 some eC)) n ([a1]:List Int) 0)
def oH (n:Nat) (a0:ae) (a1:Int):Option (ae × (List Int) × Int):=
 bd (fc n a0 a1) fun bn =>
 cP (fun EO (hJ:Int) (iW:ae) =>
 cn (decide (hJ < (bn.length:Int))) (
 gu (cV hJ bn.length) <|
 bd (dD n iW (bn.getD (Int.toNat hJ) default)) fun mj =>
 EO (wr .i64 (hJ + 1)) mj.1) (
 cn (((bn.length:Int) == 0)) (
 some (iW,([]:List Int),4)) (
 some (iW,bn,0)))) n 0 a0
def je (n:Nat) (a0:ae) (a1:Int) (a2:Int):Option Bool:=
 bd (bu n a0 a1) fun bn =>
 cl (bn == true) (bu n a0 a2) default fun cD =>
 cl (((bn && cD) == true) && ((a1 == a2) == false)) (bE n a0 a1 a2) default fun j4 =>
 some ((bn && cD) && ((a1 == a2) || j4))
def dW:Nat→ae→Int→Option Int
 | 0,_,_=>none
 | n + 1,a0,a1 =>
 bd (bu n a0 a1) fun bn =>
 cn ((!bn)) (
 some 0) (
 bd (kO n a0 a1) fun cD =>
 bd (dW n a0 cD) fun j4 =>
 some (wr .i64 (1 + j4)))
def nN (n:Nat) (a0:ae) (a1:Int) (a2:Int):Option (ae × Int):=
 bd (bu n a0 a1) fun bn =>
 cl ((!bn) == false) (bu n a0 a2) default fun cD =>
 cn (((!bn) || (!cD))) (
 some (a0,4)) (
 bd (kO n a0 a1) fun fJ =>
 cl ((fJ != 0) == false) (je n a0 a1 a2) default fun cU =>
 cn (((fJ != 0) || cU)) (
 some (a0,12)) (
 bd (eH n a0 a1 a2) fun fC =>
 bd (fc n fC.1 a1) fun iP =>
 dz (fun EM (jF:Int) =>
 cn (decide (jF < (iP.length:Int))) (
 gu (cV jF iP.length) <|
 bd (dW n fC.1 (iP.getD (Int.toNat jF) default)) fun j3 =>
 cn (decide (6 < j3)) (
 some (a0,8)) (
 EM (wr .i64 (jF + 1)))) (
 some (fC.1,fC.2))) n 0))
def qh (n:Nat) (a0:ae) (a1:Int):Option (ae × Int):=
 bd (bu n a0 a1) fun bn =>
 cn ((!bn)) (
 some (a0,4)) (
 bd (fc n a0 a1) fun cU =>
 cP (fun Ig (iP:Int) (dg:ae) =>
 cn (decide (iP < (cU.length:Int))) (
 gu (cV iP cU.length) <|
 bd (bp n a0.B (cU.getD (Int.toNat iP) default)) fun k8 =>
 cP (fun A4 (lu:Int) (lN:ae) =>
 cn (decide (lu < 8)) (
 gu (cV k8 32) <|
 gu (cV lu 8) <|
 cl ((((a0.R (Int.toNat k8)).Cells (Int.toNat lu)) != 0) == true) (bE n a0 ((a0.R (Int.toNat k8)).Cells (Int.toNat lu)) a1) default fun wT =>
 cn (((((a0.R (Int.toNat k8)).Cells (Int.toNat lu)) != 0) && wT)) (
 gu (cV k8 32) <|
 gu (cV lu 8) <|
 lt ({ lN with R:=(dx lN.R (Int.toNat k8) ({ (lN.R (Int.toNat k8)) with Cells:=(dx ((lN.R (Int.toNat k8)).Cells) (Int.toNat lu) 0) })) }:ae) fun D6 =>
 A4 (wr .i64 (lu + 1)) D6) (
 A4 (wr .i64 (lu + 1)) lN)) (
 Ig (wr .i64 (iP + 1)) lN)) n 0 dg) (
 bd (bp n a0.B a1) fun mX =>
 gu (cV mX 32) <|
 lt ({ dg with R:=(dx dg.R (Int.toNat mX) ({ (dg.R (Int.toNat mX)) with Up:=0 })) }:ae) fun Lt =>
 some (Lt,0))) n 0 a0)
def qg (n:Nat) (a0:ae) (a1:Int) (a2:Int):Option (ae × Int × Int):=
 cl ((a1 == 0) == false) (bu n a0 a1) default fun bn =>
 cl (((((a1 == 0) || bn) && decide (0 ≤ a2)) && decide (a2 ≤ 64)) == true) (dW n a0 a1) default fun cD =>
 cn ((((((a1 == 0) || bn) && decide (0 ≤ a2)) && decide (a2 ≤ 64)) && decide (5 < cD))) (
 some (a0,0,8)) (
 bd (cM n a0 a1 a2) fun fJ =>
 some (fJ.1,fJ.2.1,fJ.2.2))
def eL (n:Nat) (a0:ai) (a1:Int):Option (ai × Int):=
 some (a0,a1)
theorem jl {n a0 a1 r K} [bL K] {ep} (f0:(ag).rep K ep a0) (h:eL n a0 a1 = some r):Bw.Fn (α:=Nat × List Value × Nat) Try.prog 128 [A ep, .int .u32 a1] K [] (fun (b0,c0,b1)=>(ag).rep K c0 r.1) (fun (b0,c0,b1)=>.func (.func 160) #[] #[Ptr b0 0,Ptr b1 0]) (fun (b0,c0,b1)=>[.cells b0 77 c0, .cells b1 69 ((LI .u32).enc r.2)]):=by
 unfold eL at h
 refine fo Try.func128 (by kernel_rfl) rfl Try.ntmps128 rfl fun cx _ hro cX hpre=>?_
 refine SC 2 rf ?_
 refine W1 rf (cO rfl) fun b2=>?_
 refine W1 rf (fk (LI .u32) a1 rfl rfl) fun b3=>?_
 refine SL 10 rf ?_
 have h:=sj h; subst h
 exact dL ⟨b2,ep,b3⟩ rfl (.tmp rfl .nil) (mo f0) rfl (ks:=[1,0]) rfl (by decide)
def ew (n:Nat) (a1:ai) (a2:Int):Option (List Int):=
 dz (fun Mc (kB:Int) =>
 bd (bX n a1 kB) fun mj =>
 cn (((mj.2 != 0) || (mj.1.Up == 0)) == false) (
 yl mj.1.Up <|
 Mc mj.1.Up) (
 some [])) n a2
theorem gN {n:Nat} {a1:ai} {a2:Int} {l:List Int} {K:World→Prop} [bL K] {q1:Nat} {nU:List Value} (f1:(ag).rep K nU a1) {q2:Nat} (h:ew n a1 a2 = some l):Bs Try.prog 160 [Ptr q1 0,Ptr q2 0] [.cells q1 77 nU, .cells q2 69 ((LI .u32).enc a2)] [.cells q1 77 nU] K (fun k=>[.int .u32 (l.getD k default)]) l.length:=by
 unfold ew at h
 refine ⟨fun y J Jx bs=>fF Try.func160 (by kernel_rfl) rfl Try.ntmps160 rfl (fun cx cX hpre hro=>?_)⟩
 haveI:=hO (show cx.bs = bs++br [.cells q1 77 nU, .cells q2 69 ((LI .u32).enc a2)] from cX) hpre.1
 have hR:Bp Try.prog y cx.bs cx.w0 J Jx (fun k=>[.int .u32 (l.getD k default)]) l.length:=by rw [show cx.bs = bs++br [.cells q1 77 nU, .cells q2 69 ((LI .u32).enc a2)] from cX]; exact hpre.2
 have CH:l.drop 0 = l:=rfl
 have Cl:0 ≤ l.length:=Nat.zero_le _
 refine pg ?_
 obtain ⟨H7,Fy,h⟩:=mB h
 refine LO (β:=Int × Nat × (List Int) × (List Nat)) [0,1,2] [0,1,2] (fun (ED,kB,mC,Eo,rj)=>[]) (fun (ED,kB,mC,Eo,rj)=>[.ext rj (J mC rj), .cells q1 77 nU, .cells q2 69 ((LI .u32).enc kB)]) (fun (ED,kB,mC,Eo,rj)=>l.drop mC = Eo∧mC ≤ l.length∧dz H7 ED kB = some Eo) (n,a2,0,l,bs) ⟨CH,Cl,h⟩ rf rf rf ?_
 rintro ED ⟨kB,mC,Eo,rj⟩ ⟨FY,Ji,h⟩
 replace h:=mA Fy h; obtain ⟨ED,rfl,h⟩:=h
 obtain ⟨mj,IK,h⟩:=bz h
 refine SC 3 rf ?_
 refine au rfl (ak rfl (aY.len _ f1)) ?_
 refine au rfl (bt (aS.id (L:=(LI .u32))) rfl) ?_
 refine CB (dO (K:=K) (mo f1) IK) rf rf ?_
 rintro Nv GJ Lk ⟨J6,rfl,f47⟩
 replace f47:(az).rep (fun w=>K w∧Hs [.ext GJ Lk] w) J6 mj.1:=f47
 refine SL 3 rf ?_
 refine W1 rf (bG (hz:=(⟨by kernel_rfl⟩ : cy Try.prog 74 cB))) fun b4=>?_
 refine ST (C:=(fun w=>K w∧Hs [.ext GJ Lk] w)) mj.1 (aS.id (L:=az)) cA (mo f47) rf rf rf rf rf fun NJ f50=>?_
 refine SL 5 rf ?_
 rcases Bool.eq_false_or_eq_true (((mj.2 != 0) || (mj.1.Up == 0)) == false) with mE | mE
 ·
  replace h:=Gq mE h
  obtain ⟨LU,I4,h⟩:=zb h
  obtain ⟨Jg,x4,Ju,Je⟩:=drop_cons (FY.trans I4)
  refine SC 4 rf ?_
  refine GB rf rf rf (fun hb=>aW rfl) ?_
  refine GB rf rf rf (fun hb=>cE (cC rfl hb) (bM.int f50)) ?_
  refine GB rf rf rf (fun hb=>jt (cC rfl hb) rfl) ?_
  refine au rfl (gl rfl rfl) ?_
  refine au rfl (ay rfl) ?_
  refine GB rf rf rf (fun hb=>ay rfl) ?_
  refine GB rf rf rf (fun hb=>aW rfl) ?_
  refine GB rf rf rf (fun hb=>cE (cC rfl hb) (bM.int f50)) ?_
  have hb:=mE; refine GN (cF rfl rfl) mE rfl (mT (bs:=rj) hR Jg hro (cC rfl hb) (show nx _ _ = some [.int .u32 (l.getD mC default)] by rw [x4]; exact (aL (cC rfl hb) rfl))) (fun ⟨Gb,Gg⟩ _=>?_)
  refine GB rf rf rf (fun hb=>jI (cC rfl hb)) ?_
  refine au rfl (gl rfl rfl) ?_
  refine SL 2 rf ?_
  refine qF rfl (fun hc=>?_) (fun hc=>?_)
  ·
   replace hc:=KW mE hc
   obtain rfl:Gb = false:=by simpa using hc
   dsimp only [cond_true,cond_false]
   refine SC 5 rf ?_
   exact dL (false,Gg) rfl .nil trivial rfl (ks:=[2,3]) rfl (by decide)
  ·
   replace hc:=KW mE hc
   obtain rfl:Gb = true:=by simpa using hc
   dsimp only [cond_true,cond_false]
   refine SC 4 rf ?_
   refine au rfl (cE rfl (bM.int f50)) ?_
   refine W0 (dA (M:=(LI .u32)) (aS.id (L:=(LI .u32))) mj.1.Up mj.1.Up rfl rfl rfl rfl rfl) ?_
   refine SL 2 rf ?_
   exact LN [2,3,4] (mj.1.Up,mC + 1,LU,Gg) ⟨Ju,Je,h⟩ rf rf rf
 ·
  replace h:=Gr mE h
  refine SC 4 rf ?_
  refine GB rf rf rf (fun hb=>aW rfl) ?_
  refine GB rf rf rf (fun hb=>cE (cC rfl hb) (bM.int f50)) ?_
  refine GB rf rf rf (fun hb=>jt (cC rfl hb) rfl) ?_
  refine au rfl (gl rfl rfl) ?_
  refine au rfl (ay rfl) ?_
  refine GB rf rf rf (fun hb=>ay rfl) ?_
  refine GB rf rf rf (fun hb=>aW rfl) ?_
  refine GB rf rf rf (fun hb=>cE (cC rfl hb) (bM.int f50)) ?_
  refine GO (v:=.bool true) (cF rfl rfl) mE rfl ?_
  refine GB rf rf rf (fun hb=>jI (cC rfl hb)) ?_
  refine au rfl (gl rfl rfl) ?_
  refine SL 2 rf ?_
  refine qF rfl (fun _=>?_) (fun hc=>(F9 mE hc).elim)
  refine SC 5 rf ?_
  have h:=sj h; subst h
  have JO:=drop_nil FY Ji
  refine oh (ks:=[2,3]) (H':=[.ext rj (J (mC) rj), .cells q1 77 nU]) rfl (by decide) ?_
  refine om (J:=J) (n:=l.length) JO ?_
  exact dL (true,rj) rfl .nil trivial rfl (ks:=[0,1]) rfl (by decide)
def ct (n:Nat) (a0:ai) (a1:Int):Option Int:=
 bd (aJ n a0.book.gV a1) fun bn =>
 cn ((!bn)) (
 some 0) (
 bd (eL n a0 a1) fun cD =>
 bd (ew n cD.1 cD.2) fun cU =>
 eB (fun (CZ:Int) zL (bN:Int) =>
 lt (CZ:Int) fun iW =>
 lt (wr .i64 (bN + 1):Int) fun fB =>
 zL fB) (fun (bN:Int) =>
 some bN) cU 1)
theorem ez {n a0 a1 r K} [bL K] {ep} (f0:(ag).rep K ep a0) (h:ct n a0 a1 = some r):wE Try.prog 54 [A ep, .int .u32 a1] K (.int .i64 r):=by
 unfold ct at h
 refine fo Try.func54 (by kernel_rfl) rfl Try.ntmps54 rfl fun cx _ hro cX hpre=>?_
 refine SC 2 rf ?_
 refine W1 rf (cO rfl) fun b2=>?_
 obtain ⟨bn,dm,h⟩:=bz h
 refine SL 8 rf ?_
 refine au rfl (bg rfl (aP.iff.1 ((aB.c0 aK).get f0)) (bw _ _)) ?_
 refine au rfl (ay rfl) ?_
 refine CV (aT dm) rf rf ?_
 refine SL 3 rf ?_
 refine fL h rf (fun hc h=>?_) fun hc h=>?_
 ·
  refine SC 7 rf ?_
  have h:=sj h; subst h
  exact RV rf (rt rf rn) rf
 ·
  refine SC 4 rf ?_
  refine W1 rf (cJ (L:=(LI .i64)) (z:=0) ⟨by kernel_rfl⟩) fun b5=>?_
  refine W0 (dA (M:=(LI .i64)) (aS.id (L:=(LI .i64))) 1 1 rfl rfl rfl rfl rfl) ?_
  obtain ⟨cD,lT,h⟩:=bz h
  refine SL 5 rf ?_
  refine au rfl (ak rfl (aY.len _ f0)) ?_
  refine au rfl (ay rfl) ?_
  refine ef rfl (fI (jl (K:=K) (mo f0) lT) rfl kn) (fun ⟨K8,Gy,M6⟩ f25=>?_)
  replace f25:(ag).rep K Gy cD.1:=f25
  dsimp only [List.cons_append,List.nil_append]
  refine SL 3 rf ?_
  obtain ⟨cU,nn,h⟩:=bz h
  obtain ⟨tQ,xX,uo,x9,h⟩:=oR h
  refine nD (K:=K) (α:=Int) (β:=Unit) hro rfl (gN (K:=K) (mo f25) nn) (fun _=>rfl) rfl (fun jS=>fun bN=>eB tQ uo (cU.drop jS) bN = some r) (fun jS=>fun bN=>[.cells b5 3 ((LI .i64).enc bN), .cells b2 77 ep]) (fun _ _=>False) (fun _=>[]) 1 h (ks:=[0,1,2,3]) rfl (by decide) ?_ ?_ ?_
  ·
   rintro jS bN lo dd rec c' hk h nR qZ lV hsi hT
   replace h:eB tQ uo (cU.drop jS) bN = some r:=h
   replace h:=oP xX hk h
   haveI:=kP (K:=K) hsi
   dsimp only [n3]
   obtain ⟨iW,qX,h⟩:=cW h
   rw [← qX]
   refine rJ ?_
   refine iz nR lV ?_
   obtain ⟨fB,mD,h⟩:=cW h
   refine SC 2 rf ?_
   refine au rfl (bt (aS.id (L:=(LI .i64))) rfl) ?_
   refine au rfl (rP rfl rfl rfl) ?_
   refine W0 (dA (M:=(LI .i64)) (aS.id (L:=(LI .i64))) (wr .i64 (bN + 1)) fB mD rfl rfl rfl rfl) ?_
   refine SL 2 rf ?_
   exact gT nR qZ hT fB h (ks:=[0,1,2,3]) rfl (by decide)
  ·
   rintro MQ bN h
   replace h:eB tQ uo (cU.drop cU.length) bN = some r:=h
   replace h:=oQ x9 rfl h
   dsimp only [List.cons_append,List.nil_append]
   refine SX 4 rf ?_
   refine au rfl (bt (aS.id (L:=(LI .i64))) rfl) ?_
   refine SL 4 rf ?_
   have h:=sj h; subst h
   exact ic () rfl (.tmp rfl .nil) trivial rfl (ks:=[]) rfl (by decide)
  ·
   intro dd j i hf; exact hf.elim
def cS (n:Nat) (a0:ai) (a1:Int):Option Int:=
 bd (aJ n a0.book.gV a1) fun bn =>
 cn ((!bn)) (
 some 0) (
 bd (eL n a0 a1) fun cD =>
 bd (ew n cD.1 cD.2) fun cU =>
 eB (fun (CZ:Int) zL (bN:Int) =>
 lt (CZ:Int) fun iW =>
 zL iW) (fun (bN:Int) =>
 some bN) cU a1)
theorem dG {n a0 a1 r K} [bL K] {ep} (f0:(ag).rep K ep a0) (h:cS n a0 a1 = some r):wE Try.prog 56 [A ep, .int .u32 a1] K (.int .u32 r):=by
 unfold cS at h
 refine fo Try.func56 (by kernel_rfl) rfl Try.ntmps56 rfl fun cx _ hro cX hpre=>?_
 refine SC 2 rf ?_
 refine W1 rf (cO rfl) fun b2=>?_
 refine W1 rf (fk (LI .u32) a1 rfl rfl) fun b3=>?_
 obtain ⟨bn,dm,h⟩:=bz h
 refine SL 8 rf ?_
 refine au rfl (bg rfl (aP.iff.1 ((aB.c0 aK).get f0)) (bw _ _)) ?_
 refine au rfl (bt (aS.id (L:=(LI .u32))) rfl) ?_
 refine CV (aT dm) rf rf ?_
 refine SL 3 rf ?_
 refine fL h rf (fun hc h=>?_) fun hc h=>?_
 ·
  refine SC 7 rf ?_
  have h:=sj h; subst h
  exact RV rf (rt rf rn) rf
 ·
  obtain ⟨cD,lT,h⟩:=bz h
  refine SC 5 rf ?_
  refine au rfl (ak rfl (aY.len _ f0)) ?_
  refine au rfl (bt (aS.id (L:=(LI .u32))) rfl) ?_
  refine ef rfl (fI (jl (K:=K) (mo f0) lT) rfl kn) (fun ⟨K8,Gy,M6⟩ f25=>?_)
  replace f25:(ag).rep K Gy cD.1:=f25
  dsimp only [List.cons_append,List.nil_append]
  refine SL 3 rf ?_
  obtain ⟨cU,nn,h⟩:=bz h
  obtain ⟨tQ,xX,uo,x9,h⟩:=oR h
  refine nD (K:=K) (α:=Int) (β:=Unit) hro rfl (gN (K:=K) (mo f25) nn) (fun _=>rfl) rfl (fun jS=>fun bN=>eB tQ uo (cU.drop jS) bN = some r) (fun jS=>fun bN=>[.cells b3 69 ((LI .u32).enc bN), .cells b2 77 ep]) (fun _ _=>False) (fun _=>[]) a1 h (ks:=[0,1,2,3]) rfl (by decide) ?_ ?_ ?_
  ·
   rintro jS bN lo dd rec c' hk h nR qZ lV hsi hT
   replace h:eB tQ uo (cU.drop jS) bN = some r:=h
   replace h:=oP xX hk h
   haveI:=kP (K:=K) hsi
   dsimp only [n3]
   obtain ⟨iW,qX,h⟩:=cW h
   rw [← qX]
   refine SC 3 rf ?_
   refine iz nR lV ?_
   refine SC 3 rf ?_
   refine W0 (dA (M:=(LI .u32)) (aS.id (L:=(LI .u32))) iW iW rfl rfl rfl rfl rfl) ?_
   refine SL 2 rf ?_
   exact gT nR qZ hT iW h (ks:=[0,1,2,3]) rfl (by decide)
  ·
   rintro JZ bN h
   replace h:eB tQ uo (cU.drop cU.length) bN = some r:=h
   replace h:=oQ x9 rfl h
   dsimp only [List.cons_append,List.nil_append]
   refine SX 4 rf ?_
   refine au rfl (bt (aS.id (L:=(LI .u32))) rfl) ?_
   refine SL 4 rf ?_
   have h:=sj h; subst h
   exact ic () rfl (.tmp rfl .nil) trivial rfl (ks:=[]) rfl (by decide)
  ·
   intro dd j i hf; exact hf.elim
def cN (n:Nat) (a0:ai) (a1:Int) (a2:Int):Option Bool:=
 bd (aJ n a0.book.gV a1) fun bn =>
 cl ((!bn) == false) (aJ n a0.book.gV a2) default fun cD =>
 cn (((!bn) || (!cD))) (
 some false) (
 lt ((a1 == a2):Bool) fun j4 =>
 bd (eL n a0 a2) fun p8 =>
 bd (ew n p8.1 p8.2) fun dF =>
 eB (fun (JS:Int) xH (eC:Bool) =>
 lt (JS:Int) fun fB =>
 lt ((eC || (fB == a1)):Bool) fun fM =>
 xH fM) (fun (eC:Bool) =>
 some eC) dF j4)
theorem eO {n a0 a1 a2 r K} [bL K] {ep} (f0:(ag).rep K ep a0) (h:cN n a0 a1 a2 = some r):wE Try.prog 58 [A ep, .int .u32 a1, .int .u32 a2] K (.bool r):=by
 unfold cN at h
 refine fo Try.func58 (by kernel_rfl) rfl Try.ntmps58 rfl fun cx _ hro cX hpre=>?_
 refine SC 2 rf ?_
 refine W1 rf (cO rfl) fun b3=>?_
 refine W1 rf (fk (LI .u32) a1 rfl rfl) fun b4=>?_
 obtain ⟨bn,dm,h⟩:=bz h
 obtain ⟨cD,lT,_,h⟩:=iU h
 refine SL 8 rf ?_
 refine au rfl (bg rfl (aP.iff.1 ((aB.c0 aK).get f0)) (bw _ _)) ?_
 refine au rfl (bt (aS.id (L:=(LI .u32))) rfl) ?_
 refine CV (aT dm) rf rf ?_
 refine SL 2 rf ?_
 refine GB rf rf rf (fun hb=>aW rfl) ?_
 refine GB rf rf rf (fun hb=>aW (cC rfl hb)) ?_
 refine GB rf rf rf (fun hb=>bg (cC rfl hb) (aP.iff.1 ((aB.c0 aK).get f0)) (bw _ _)) ?_
 refine GB rf rf rf (fun hb=>ay rfl) ?_
 refine GB rf rf rf (fun hb=>c9 (aT (lT hb)) (aL (cC rfl hb) (aL (cC rfl hb) rfl)) (fun _ _ _=>trivial)) ?_
 refine GB rf rf rf (fun hb=>jI (cC rfl hb)) ?_
 refine au rfl (gl rfl rfl) ?_
 refine SL 2 rf ?_
 refine fL h rf (fun hc h=>?_) fun hc h=>?_
 ·
  refine SC 7 rf ?_
  have h:=sj h; subst h
  exact RV rf (rt rf rn) rf
 ·
  obtain ⟨j4,nq,h⟩:=cW h
  refine SC 4 rf ?_
  refine au rfl (bt (aS.id (L:=(LI .u32))) rfl) ?_
  refine SL 2 rf ?_
  refine W1 rf (cJ (L:=LB) (z:=false) ⟨by kernel_rfl⟩) fun b7=>?_
  refine W0 (dA (M:=LB) (aS.id (L:=LB)) (a1 == a2) j4 nq rfl rfl rfl rfl) ?_
  obtain ⟨p8,Ca,h⟩:=bz h
  refine SL 5 rf ?_
  refine au rfl (ak rfl (aY.len _ f0)) ?_
  refine au rfl (ay rfl) ?_
  refine ef rfl (fI (jl (K:=K) (mo f0) Ca) rfl kn) (fun ⟨K7,C9,M5⟩ f27=>?_)
  replace f27:(ag).rep K C9 p8.1:=f27
  dsimp only [List.cons_append,List.nil_append]
  refine SL 3 rf ?_
  obtain ⟨dF,tV,h⟩:=bz h
  obtain ⟨B0,FK,CX,FV,h⟩:=oR h
  refine nD (K:=K) (α:=Bool) (β:=Unit) hro rfl (gN (K:=K) (mo f27) tV) (fun _=>rfl) rfl (fun mC=>fun eC=>eB B0 CX (dF.drop mC) eC = some r) (fun mC=>fun eC=>[.cells b7 4 (LB.enc eC), .cells b4 69 ((LI .u32).enc a1), .cells b3 77 ep]) (fun _ _=>False) (fun _=>[]) j4 h (ks:=[0,1,2,3,4]) rfl (by decide) ?_ ?_ ?_
  ·
   rintro mC eC lo dd rec c' hk h nR qZ lV hsi hT
   replace h:eB B0 CX (dF.drop mC) eC = some r:=h
   replace h:=oP FK hk h
   haveI:=kP (K:=K) hsi
   dsimp only [n3]
   obtain ⟨fB,mD,h⟩:=cW h
   rw [← mD]
   refine SC 3 rf ?_
   refine iz nR lV ?_
   obtain ⟨fM,qW,h⟩:=cW h
   refine SC 2 rf ?_
   refine au rfl (mb (aS.id (L:=LB)) rfl) ?_
   refine au rfl (ay rfl) ?_
   refine GB rf rf rf (fun hb=>ay rfl) ?_
   refine GB rf rf rf (fun hb=>bt (aS.id (L:=(LI .u32))) rfl) ?_
   refine GB rf rf rf (fun hb=>jt (cC rfl hb) (cC rfl hb)) ?_
   refine au rfl (gl rfl rfl) ?_
   refine W0 (dA (M:=LB) (aS.id (L:=LB)) (eC || (fB == a1)) fM qW rfl rfl rfl rfl) ?_
   refine SL 2 rf ?_
   exact gT nR qZ hT fM h (ks:=[0,1,2,3,4]) rfl (by decide)
  ·
   rintro MP eC h
   replace h:eB B0 CX (dF.drop dF.length) eC = some r:=h
   replace h:=oQ FV rfl h
   dsimp only [List.cons_append,List.nil_append]
   refine SX 4 rf ?_
   refine au rfl (mb (aS.id (L:=LB)) rfl) ?_
   refine SL 4 rf ?_
   have h:=sj h; subst h
   exact ic () rfl (.tmp rfl .nil) trivial rfl (ks:=[]) rfl (by decide)
  ·
   intro dd j i hf; exact hf.elim
def fg (n:Nat) (a0:ai) (a1:Int) (a2:Int):Option (ai × Int × Int):=
 bd (di n a0 a1 a2) fun bn =>
 cl (((bn.2.2 == 0) || (bn.2.2 == 7)) == true) (ct n a0 a1) default fun bN =>
 cn ((((bn.2.2 == 0) || (bn.2.2 == 7)) && decide (6 ≤ bN))) (
 some (a0,0,8)) (
 some (bn.1,bn.2.1,bn.2.2))
theorem gQ {n a0 a1 a2 r K} [bL K] {ep} (f0:(ag).rep K ep a0) (h:fg n a0 a1 a2 = some r):tv Try.prog 63 [A ep, .int .u32 a1, .int .i64 a2] K (fun J v=>∃u0,v = (.tuple #[A u0, .int .u32 r.2.1, .int .i64 r.2.2])∧(ag).rep (fun w=>K w∧J w) u0 (r.1)):=by
 unfold fg at h
 refine fo Try.func63 (by kernel_rfl) rfl Try.ntmps63 rfl fun cx _ hro cX hpre=>?_
 refine SC 2 rf ?_
 refine W1 rf (cO rfl) fun b3=>?_
 refine W1 rf (bG (hz:=(⟨by kernel_rfl⟩ : cy Try.prog 77 aH))) fun b6=>?_
 obtain ⟨bn,dm,h⟩:=bz h
 refine SL 6 rf ?_
 refine au rfl (ak rfl (aY.len _ f0)) ?_
 refine SL 2 rf ?_
 refine CB (mL (K:=K) (mo f0) dm) rf rf ?_
 rintro yX dP iK ⟨Gu,rfl,f26⟩
 replace f26:(ag).rep (fun w=>K w∧Hs [.ext dP iK] w) Gu bn.1:=f26
 refine SL 4 rf ?_
 refine W1 rf (bG (hz:=(⟨by kernel_rfl⟩ : cy Try.prog 77 aH))) fun b9=>?_
 refine ST (C:=(fun w=>K w∧Hs [.ext dP iK] w)) bn.1 (aS.id (L:=ag)) aD (mo f26) rf rf rf rf rf fun Ag f29=>?_
 obtain ⟨bN,tU,_,h⟩:=iU h
 refine SL 10 rf ?_
 refine GB rf rf rf (fun hb=>ay rfl) ?_
 refine GB rf rf rf (fun hb=>jt (cC rfl hb) rfl) ?_
 refine au rfl (gl rfl rfl) ?_
 refine au rfl (ay rfl) ?_
 refine GB rf rf rf (fun hb=>ak rfl (aY.len _ f0)) ?_
 refine GB rf rf rf (fun hb=>ay rfl) ?_
 refine GB rf rf rf (fun hb=>c9 (ez (K:=K) (mo f0) (tU hb)) (aL (cC rfl hb) (aL (cC rfl hb) rfl)) kn) ?_
 refine GB rf rf rf (fun hb=>pq (cC rfl hb) rfl) ?_
 refine au rfl (fz rfl rfl) ?_
 refine SL 2 rf ?_
 refine fL h rf (fun hc h=>?_) fun hc h=>?_
 ·
  refine SC 2 rf ?_
  refine au rfl (ak rfl (aY.len _ f0)) ?_
  refine ST (C:=K) a0 (aS.id (L:=ag)) aD (mo f0) rf rf rf rf rf fun M3 f32=>?_
  refine SL 6 rf ?_
  have h:=sj h; subst h
  exact pG [] rf rf (ra rf (aY.len _ f32) (rt rf (rt rf rn))) ⟨_,rfl,(mo f32)⟩
 ·
  refine SC 4 rf ?_
  refine au rfl (ak rfl (aY.len _ f29)) ?_
  refine SL 2 rf ?_
  refine ST (C:=(fun w=>K w∧Hs [.ext dP iK] w)) bn.1 (aS.id (L:=ag)) aD (mo f29) rf rf rf rf rf fun Bm f35=>?_
  refine SL 5 rf ?_
  have h:=sj h; subst h
  exact pG [1] rf rf (ra rf (aY.len _ f35) (rt rf (rt rf rn))) ⟨_,rfl,(mo f35)⟩
def dX (n:Nat) (a0:Int) (a1:ai) (a2:Int):Option Bool:=
 bd (bX n a1 a0) fun bn =>
 some (bn.1.Up != a2)
theorem kA {n a0 a1 a2 r K} [bL K] {q1 nU} (f1:(ag).rep K nU a1) {q2:Nat} (h:dX n a0 a1 a2 = some r):Bw.Fn (α:=Unit) Try.prog 124 [.int .u32 a0,Ptr q1 0,Ptr q2 0] (yU (br [.cells q1 77 nU, .cells q2 69 ((LI .u32).enc a2)]) K) [.cells q1 77 nU, .cells q2 69 ((LI .u32).enc a2)] (fun _=>True) (fun _=>(.bool r)) (fun _=>[.cells q1 77 nU, .cells q2 69 ((LI .u32).enc a2)]):=by
 unfold dX at h
 refine fF Try.func124 (by kernel_rfl) rfl Try.ntmps124 rfl (fun cx cX hpre hro=>?_)
 haveI:=hO cX hpre
 obtain ⟨bn,dm,h⟩:=bz h
 refine SC 7 rf ?_
 refine au rfl (ak rfl (aY.len _ f1)) ?_
 refine au rfl (ay rfl) ?_
 refine CB (dO (K:=K) (mo f1) dm) rf rf ?_
 rintro yX dP iK ⟨Gu,rfl,f26⟩
 replace f26:(az).rep (fun w=>K w∧Hs [.ext dP iK] w) Gu bn.1:=f26
 refine SL 3 rf ?_
 refine W1 rf (bG (hz:=(⟨by kernel_rfl⟩ : cy Try.prog 74 cB))) fun b5=>?_
 refine ST (C:=(fun w=>K w∧Hs [.ext dP iK] w)) bn.1 (aS.id (L:=az)) cA (mo f26) rf rf rf rf rf fun Ag f29=>?_
 refine SL 6 rf ?_
 refine au rfl (cE rfl (bM.int f29)) ?_
 refine au rfl (bt (aS.id (L:=(LI .u32))) rfl) ?_
 refine SL 5 rf ?_
 have h:=sj h; subst h
 exact dL () rfl (.tmp rfl .nil) trivial rfl (ks:=[2,3]) rfl (by decide)
def bP (n:Nat) (a0:(List Int)) (kG:ai) (iV:Int):Option Int:=
 dz (fun tP (cD:Int) =>
 cn (decide (cD < (a0.length:Int))) (
 gu (cV cD a0.length) <|
 bd (dX n (a0.getD (Int.toNat cD) default) kG iV) fun cU =>
 cn (cU) (
 some cD) (
 tP (wr .i64 (cD + 1)))) (
 some (-1))) n 0
theorem fT {n a0 kG iV r K} [bL K] {v0} (f0:Fz K v0 (LI .u32) a0) {jP:Nat} {jD:List Value} (z8:(ag).rep K jD kG) {jO:Nat} (h:bP n a0 kG iV = some r):Bw.Fn (α:=Unit) Try.prog 156 [v0, .func (.func 124) #[] #[Ptr jP 0,Ptr jO 0]] (yU (br [.cells jP 77 jD, .cells jO 69 ((LI .u32).enc iV)]) K) [.cells jP 77 jD, .cells jO 69 ((LI .u32).enc iV)] (fun _=>True) (fun _=>(.int .i64 r)) (fun _=>[.cells jP 77 jD, .cells jO 69 ((LI .u32).enc iV)]):=by
 unfold bP at h
 refine fF Try.func156 (by kernel_rfl) rfl Try.ntmps156 rfl (fun cx cX hpre hro=>?_)
 haveI:=hO cX hpre
 refine SC 9 rf ?_
 refine au rfl (cu f0 rfl) ?_
 refine SL 4 rf ?_
 obtain ⟨xG,sK,h⟩:=mB h
 refine LO (β:=Int) [0,1,7] [0,1] (fun (sE,cD)=>[(8, .int .i64 cD)]) (fun (sE,cD)=>[.cells jP 77 jD, .cells jO 69 ((LI .u32).enc iV)]) (fun (sE,cD)=>dz xG sE cD = some r) (n,0) h rf rf rf ?_
 rintro sE cD h
 replace h:=mA sK h; obtain ⟨sE,rfl,h⟩:=h
 refine SC 6 rf ?_
 refine fL h rf (fun hc h=>?_) fun hc h=>?_
 ·
  obtain ⟨pQ,h⟩:=dZ h
  obtain ⟨cU,nn,h⟩:=bz h
  refine SC 15 rf ?_
  refine au rfl (eD (m:=(Int.toNat cD)) f0 rfl rfl rfl (aE pQ).1 (aE pQ).2) ?_
  refine au rfl (fj f0 (aS.idx (L:=(LI .u32)) (m:=(a0.length)) (k:=1) ((Int.toNat cD)) (aE pQ).2 rfl) rfl) ?_
  refine ef rfl (iD (K:=K) (lK:=[.cells jP 77 jD, .cells jO 69 ((LI .u32).enc iV)]) (rest:=[]) (ks:=[0,1]) (kA (K:=K) (mo z8) nn) rfl rfl rfl rfl (by decide)) (fun _ _=>?_)
  dsimp only [List.cons_append,List.nil_append]
  refine SL 2 rf ?_
  refine fL h rf (fun hc h=>?_) fun hc h=>?_
  ·
   refine SC 12 rf ?_
   have h:=sj h; subst h
   exact dL () rfl (.tmp rfl .nil) trivial rfl (ks:=[0,1]) rfl (by decide)
  ·
   refine SC 7 rf ?_
   exact LN [0,1] (wr .i64 (cD + 1)) h rf rf rf
 ·
  refine SC 11 rf ?_
  have h:=sj h; subst h
  exact dL () rfl (.tmp rfl .nil) trivial rfl (ks:=[0,1]) rfl (by decide)
def bO (n:Nat) (a0:(List Int)) (kG:ai) (iV:Int):Option (List Int):=
 bd (bP n a0 kG iV) fun bn =>
 cn ((bn == (-1))) (
 some a0) (
 ku (fun EP (dk:(List Int)) (bN:Int) (fC:Int) =>
 cn (decide (fC < (dk.length:Int))) (
 gu (cV fC dk.length) <|
 bd (dX n (dk.getD (Int.toNat fC) default) kG iV) fun gF =>
 cn ((!gF)) (
 gu (cV bN dk.length) <|
 lt ((dk.set (Int.toNat bN) (dk.getD (Int.toNat fC) default)):List Int) fun fe =>
 EP fe (wr .i64 (bN + 1)) (wr .i64 (fC + 1))) (
 EP dk bN (wr .i64 (fC + 1)))) (
 gu (cV bN (dk.length + 1)) <|
 lt (dk.take (Int.toNat bN)++List.replicate (dk.length - (Int.toNat bN)) 0:List Int) fun dg =>
 gu (cV bN (dg.length + 1)) <|
 lt (dg.take (Int.toNat bN):List Int) fun zc =>
 some zc)) n a0 bn (wr .i64 (bn + 1)))
theorem fK {n a0 kG iV r K} [bL K] {v0} (f0:jw v0 a0.length) {jP:Nat} {jD:List Value} (z8:(ag).rep K jD kG) {jO:Nat} (h:bO n a0 kG iV = some r):Bw.Fn (α:=Value) Try.prog 123 [v0, .func (.func 124) #[] #[Ptr jP 0,Ptr jO 0]] (yU (br [Row v0 69 1 (LI .u32) a0, .cells jP 77 jD, .cells jO 69 ((LI .u32).enc iV)]) K) [Row v0 69 1 (LI .u32) a0, .cells jP 77 jD, .cells jO 69 ((LI .u32).enc iV)] (fun v=>jw v r.length) (fun v=>v) (fun v=>[Row v 69 1 (LI .u32) r, .cells jP 77 jD, .cells jO 69 ((LI .u32).enc iV)]):=by
 unfold bO at h
 refine fF Try.func123 (by kernel_rfl) rfl Try.ntmps123 rfl (fun cx cX hpre hro=>?_)
 haveI:=hO cX hpre
 obtain ⟨bn,dm,h⟩:=bz h
 refine SC 9 rf ?_
 refine ef rfl (iD (K:=(fun w=>K w∧Hs [Row v0 69 1 (LI .u32) a0] w)) (lK:=[.cells jP 77 jD, .cells jO 69 ((LI .u32).enc iV)]) (rest:=[Row v0 69 1 (LI .u32) a0]) (ks:=[1,2,0]) (fT (K:=(fun w=>K w∧Hs [Row v0 69 1 (LI .u32) a0] w)) ((Fz.row (e:=69) (sz:=1) (L:=(LI .u32)) (xs:=a0) rfl f0).mono od) (mo z8) dm) rfl rfl rfl rfl (by decide)) (fun _ _=>?_)
 dsimp only [List.cons_append,List.nil_append]
 refine SL 10 rf ?_
 refine fL h rf (fun hc h=>?_) fun hc h=>?_
 ·
  refine SC 8 rf ?_
  have h:=sj h; subst h
  exact dL v0 rfl (.tmp rfl .nil) f0 rfl (ks:=[2,0,1]) rfl (by decide)
 ·
  refine SC 11 rf ?_
  obtain ⟨Ib,FE,h⟩:=AZ h
  refine LO (β:=(List Int) × Int × Int) [1] [0,1,2] (fun (EH,dk,bN,fC)=>[(0,v0),(5, .int .i64 bN),(6, .int .i64 fC)]) (fun (EH,dk,bN,fC)=>[.cells jP 77 jD, .cells jO 69 ((LI .u32).enc iV),Row v0 69 1 (LI .u32) dk]) (fun (EH,dk,bN,fC)=>jw v0 dk.length∧ku Ib EH dk bN fC = some r) (n,a0,bn,wr .i64 (bn + 1)) ⟨f0,h⟩ rf rf rf ?_
  rintro EH ⟨dk,bN,fC⟩ ⟨nr,h⟩
  replace h:=AY FE h; obtain ⟨EH,rfl,h⟩:=h
  refine SC 5 rf ?_
  refine au rfl (cu (Fz.row (e:=69) (sz:=1) (L:=(LI .u32)) (xs:=dk) rfl nr) rfl) ?_
  refine SL 3 rf ?_
  refine fL h rf (fun hc h=>?_) fun hc h=>?_
  ·
   obtain ⟨nv,h⟩:=dZ h
   refine SC 8 rf ?_
   refine au rfl (eD (m:=(Int.toNat fC)) (Fz.row (e:=69) (sz:=1) (L:=(LI .u32)) (xs:=dk) rfl nr) rfl rfl rfl (aE nv).1 (aE nv).2) ?_
   refine au rfl (fj (Fz.row (e:=69) (sz:=1) (L:=(LI .u32)) (xs:=dk) rfl nr) (aS.idx (L:=(LI .u32)) (m:=(dk.length)) (k:=1) ((Int.toNat fC)) (aE nv).2 rfl) rfl) ?_
   obtain ⟨gF,ke,h⟩:=bz h
   refine SL 7 rf ?_
   refine ef rfl (iD (K:=K) (lK:=[.cells jP 77 jD, .cells jO 69 ((LI .u32).enc iV)]) (rest:=[Row v0 69 1 (LI .u32) dk]) (ks:=[0,1,2]) (kA (K:=K) (mo z8) ke) rfl rfl rfl rfl (by decide)) (fun _ _=>?_)
   dsimp only [List.cons_append,List.nil_append]
   refine SL 3 rf ?_
   refine fL h rf (fun hc h=>?_) fun hc h=>?_
   ·
    obtain ⟨sM,h⟩:=dZ h
    obtain ⟨fe,sH,h⟩:=cW h
    refine SC 5 rf ?_
    refine au rfl (eD (m:=(Int.toNat bN)) (Fz.row (e:=69) (sz:=1) (L:=(LI .u32)) (xs:=dk) rfl nr) rfl rfl rfl (aE sM).1 (aE sM).2) ?_
    refine W0 (uO (sz:=1) (M:=(LI .u32)) (Int.toNat bN) (aS.idx (L:=(LI .u32)) (m:=(dk.length)) (k:=1) ((Int.toNat bN)) (aE sM).2 rfl) (dk.getD (Int.toNat fC) default) fe sH rfl rfl rfl rfl (aE sM).2 rfl rfl) ?_
    have I1:jw v0 fe.length:=by rw [sH,List.length_set]; exact nr
    refine SL 14 rf ?_
    exact LN [0,1,2] (fe,wr .i64 (bN + 1),wr .i64 (fC + 1)) ⟨I1,h⟩ rf rf rf
   ·
    refine SC 8 rf ?_
    exact LN [0,1,2] (dk,bN,wr .i64 (fC + 1)) ⟨nr,h⟩ rf rf rf
  ·
   obtain ⟨nu,h⟩:=dZ h
   obtain ⟨dg,sG,h⟩:=cW h
   refine SC 9 rf ?_
   refine au rfl (wu (l:=(Int.toNat bN)) (Fz.row (e:=69) (sz:=1) (L:=(LI .u32)) (xs:=dk) rfl nr) rfl rfl (aE nu).1 (Nat.lt_succ_iff.1 (aE nu).2)) ?_
   refine vk (wB (L:=(LI .u32)) (z0:=0) (e:=69) (by kernel_rfl) ⟨by kernel_rfl⟩ rfl rfl rfl rfl (Nat.lt_succ_iff.1 (aE nu).2) rfl sG) (fun _ _=>?_)
   have Fi:jw v0 dg.length:=by rw [sG,List.length_append,List.length_take,List.length_replicate,Nat.min_eq_left (Nat.lt_succ_iff.1 (aE nu).2),Nat.add_sub_cancel' (Nat.lt_succ_iff.1 (aE nu).2)]; exact nr
   obtain ⟨x5,h⟩:=dZ h
   obtain ⟨zc,E1,h⟩:=cW h
   refine SL 6 rf ?_
   refine ef rfl (qG (e:=69) (sz:=1) (L:=(LI .u32)) Fi rfl rfl rfl (aE x5).1 (Nat.lt_succ_iff.1 (aE x5).2)) (fun _ _=>?_)
   have IY:jw (g7 0 (Int.toNat bN) 1 v0) zc.length:=by rw [E1,List.length_take,Nat.min_eq_left (Nat.lt_succ_iff.1 (aE x5).2)]; exact vo Fi
   rw [← E1]
   refine SL 4 rf ?_
   have h:=sj h; subst h
   exact dL (g7 0 (Int.toNat bN) 1 v0) rfl (.tmp rfl .nil) IY rfl (ks:=[2,0,1]) rfl (by decide)
def gJ (n:Nat) (a0:ai) (a1:Int):Option (List Int):=
 bd (aJ n a0.book.gV a1) fun bn =>
 cn ((!bn)) (
 some ([]:List Int)) (
 bd (dI n a0.book) fun j4 =>
 bd (bO n j4 a0 a1) fun cU =>
 some cU)
theorem lH {n a0 a1 r K} [bL K] {ep} (f0:(ag).rep K ep a0) (h:gJ n a0 a1 = some r):Bw.Fn (α:=Value) Try.prog 50 [A ep, .int .u32 a1] K [] (fun v=>jw v r.length) (fun v=>v) (fun v=>[Row v 69 1 (LI .u32) r]):=by
 unfold gJ at h
 refine fo Try.func50 (by kernel_rfl) rfl Try.ntmps50 rfl fun cx _ hro cX hpre=>?_
 refine SC 2 rf ?_
 refine W1 rf (cO rfl) fun b2=>?_
 refine W1 rf (fk (LI .u32) a1 rfl rfl) fun b3=>?_
 obtain ⟨bn,dm,h⟩:=bz h
 refine SL 8 rf ?_
 refine au rfl (bg rfl (aP.iff.1 ((aB.c0 aK).get f0)) (bw _ _)) ?_
 refine au rfl (bt (aS.id (L:=(LI .u32))) rfl) ?_
 refine CV (aT dm) rf rf ?_
 refine SL 3 rf ?_
 refine fL h rf (fun hc h=>?_) fun hc h=>?_
 ·
  refine SC 7 rf ?_
  refine Am 69 1 (LI .u32) ?_
  have h:=sj h; subst h
  exact dL (.slice none 0 0) rfl (.tmp rfl .nil) ⟨_,_,rfl⟩ rfl (ks:=[0]) rfl (by decide)
 ·
  obtain ⟨j4,nq,h⟩:=bz h
  obtain ⟨cU,nn,h⟩:=bz h
  refine SC 5 rf ?_
  refine au rfl (bg rfl (aP.iff.1 (aB.get f0)) (bw _ _)) ?_
  refine ef rfl (fI (gh nq) rfl (fun _ _ _=>trivial)) (fun LL I2=>?_)
  dsimp only [List.cons_append,List.nil_append]
  refine au rfl (nY rfl) ?_
  refine ef rfl (iD (K:=K) (lK:=[Row LL 69 1 (LI .u32) j4, .cells b2 77 ep, .cells b3 69 ((LI .u32).enc a1)]) (rest:=[]) (ks:=[0,2,1]) (fK (K:=K) I2 (mo f0) nn) rfl rfl rfl rfl (by decide)) (fun yY nr=>?_)
  dsimp only [List.cons_append,List.nil_append]
  refine SL 4 rf ?_
  have h:=sj h; subst h
  exact dL yY rfl (.tmp rfl .nil) nr rfl (ks:=[0]) rfl (by decide)
def eK (n:Nat) (a0:ai) (a1:Int):Option (Int × ai):=
 some (a1,a0)
theorem jk {n a0 a1 r K} [bL K] {ep} (f0:(ag).rep K ep a0) (h:eK n a0 a1 = some r):Bw.Fn (α:=Nat × Nat × List Value) Try.prog 127 [A ep, .int .u32 a1] K [] (fun (b0,b1,c1)=>(ag).rep K c1 r.2) (fun (b0,b1,c1)=>.func (.func 158) #[] #[Ptr b0 0,Ptr b1 0]) (fun (b0,b1,c1)=>[.cells b0 69 ((LI .u32).enc r.1), .cells b1 77 c1]):=by
 unfold eK at h
 refine fo Try.func127 (by kernel_rfl) rfl Try.ntmps127 rfl fun cx _ hro cX hpre=>?_
 refine SC 2 rf ?_
 refine W1 rf (cO rfl) fun b2=>?_
 refine W1 rf (fk (LI .u32) a1 rfl rfl) fun b3=>?_
 refine SL 10 rf ?_
 have h:=sj h; subst h
 exact dL ⟨b3,b2,ep⟩ rfl (.tmp rfl .nil) (mo f0) rfl (ks:=[0,1]) rfl (by decide)
def dQ (n:Nat) (a0:(List Int)):Option (List Int):=
 ku (fun xH (cU:(List Int)) (dF:Int) (bN:Int) =>
 cn (decide (dF < bN)) (
 gu (cV bN cU.length) <|
 gu (cV dF cU.length) <|
 gu (cV dF cU.length) <|
 lt ((cU.set (Int.toNat dF) (cU.getD (Int.toNat bN) default)):List Int) fun fB =>
 gu (cV bN fB.length) <|
 lt ((fB.set (Int.toNat bN) (cU.getD (Int.toNat dF) default)):List Int) fun iP =>
 xH iP (wr .i64 (dF + 1)) (wr .i64 (bN - 1))) (
 some cU)) n a0 0 (wr .i64 ((a0.length:Int) - 1))
theorem kE {n a0 r v0} (f0:jw v0 a0.length) (h:dQ n a0 = some r):Bw.Fn (α:=Value) Try.prog 159 [v0] (yU (br [Row v0 69 1 (LI .u32) a0]) (fun _=>True)) [Row v0 69 1 (LI .u32) a0] (fun v=>v = v0∧jw v r.length) (fun v=>.tuple #[]) (fun v=>[Row v 69 1 (LI .u32) r]):=by
 unfold dQ at h
 refine fF Try.func159 (by kernel_rfl) rfl Try.ntmps159 rfl (fun cx cX hpre hro=>?_)
 refine SC 3 rf ?_
 refine au rfl (cu (Fz.row (e:=69) (sz:=1) (L:=(LI .u32)) (xs:=a0) rfl f0) rfl) ?_
 refine SL 6 rf ?_
 obtain ⟨BT,xV,h⟩:=AZ h
 refine LO (β:=(List Int) × Int × Int) [] [0] (fun (m32,cU,dF,bN)=>[(0,v0),(2, .int .i64 dF),(3, .int .i64 bN)]) (fun (m32,cU,dF,bN)=>[Row v0 69 1 (LI .u32) cU]) (fun (m32,cU,dF,bN)=>jw v0 cU.length∧ku BT m32 cU dF bN = some r) (n,a0,0,wr .i64 ((a0.length:Int) - 1)) ⟨f0,h⟩ rf rf rf ?_
 rintro m32 ⟨cU,dF,bN⟩ ⟨oU,h⟩
 replace h:=AY xV h; obtain ⟨m32,rfl,h⟩:=h
 refine SC 8 rf ?_
 refine fL h rf (fun hc h=>?_) fun hc h=>?_
 ·
  refine SC 4 rf ?_
  obtain ⟨Cu,h⟩:=dZ h
  obtain ⟨nv,h⟩:=dZ h
  obtain ⟨sN,h⟩:=dZ h
  obtain ⟨fB,mD,h⟩:=cW h
  obtain ⟨sL,h⟩:=dZ h
  obtain ⟨iP,vS,h⟩:=cW h
  refine eV mixed (.mm [] [(0,[0]),(1,[2]),(2,[0]),(3,[3]),(4,[0]),(5,[3]),(6,[18,19]),(7,[20]),(8,[0]),(9,[2]),(10,[22,23]),(11,[24]),(12,[14,15])] (.alt 13 [21,26] (.mm [(2,[0]),(3,[3])] [(14,[16,17])] (.alt 15 [25,27] (.fin [] []) .no)) .no)) (by kernel_rfl) ?_
  refine T0 ?_
  refine NS 6 rf ?_
  refine NV rf rf (eD (m:=(Int.toNat bN)) (Fz.row (e:=69) (sz:=1) (L:=(LI .u32)) (xs:=cU) rfl oU) rfl rfl rfl (aE Cu).1 (aE Cu).2) ?_
  refine NV rf rf (fj (Fz.row (e:=69) (sz:=1) (L:=(LI .u32)) (xs:=cU) rfl oU) (aS.idx (L:=(LI .u32)) (m:=(cU.length)) (k:=1) ((Int.toNat bN)) (aE Cu).2 rfl) rfl) ?_
  refine NS 2 rf ?_
  refine NV rf rf (eD (m:=(Int.toNat dF)) (Fz.row (e:=69) (sz:=1) (L:=(LI .u32)) (xs:=cU) rfl oU) rfl rfl rfl (aE nv).1 (aE nv).2) ?_
  refine NV rf rf (fj (Fz.row (e:=69) (sz:=1) (L:=(LI .u32)) (xs:=cU) rfl oU) (aS.idx (L:=(LI .u32)) (m:=(cU.length)) (k:=1) ((Int.toNat dF)) (aE nv).2 rfl) rfl) ?_
  refine NV rf rf (eD (m:=(Int.toNat dF)) (Fz.row (e:=69) (sz:=1) (L:=(LI .u32)) (xs:=cU) rfl oU) rfl rfl rfl (aE sN).1 (aE sN).2) ?_
  refine cT ?_
  refine X0 rf (uO (sz:=1) (M:=(LI .u32)) (Int.toNat dF) (aS.idx (L:=(LI .u32)) (m:=(cU.length)) (k:=1) ((Int.toNat dF)) (aE sN).2 rfl) (cU.getD (Int.toNat bN) default) fB mD rfl rfl rfl rfl (aE sN).2 rfl rfl) ?_
  have pP:jw v0 fB.length:=by rw [mD,List.length_set]; exact oU
  refine lp ?_ ?_
  ·
   exact RE 2 rf rf
  refine NV rf rf (eD (m:=(Int.toNat bN)) (Fz.row (e:=69) (sz:=1) (L:=(LI .u32)) (xs:=fB) rfl pP) rfl rfl rfl (aE sL).1 (aE sL).2) ?_
  refine cT ?_
  refine X0 rf (uO (sz:=1) (M:=(LI .u32)) (Int.toNat bN) (aS.idx (L:=(LI .u32)) (m:=(fB.length)) (k:=1) ((Int.toNat bN)) (aE sL).2 rfl) (cU.getD (Int.toNat dF) default) iP vS rfl rfl rfl rfl (aE sL).2 rfl rfl) ?_
  have IZ:jw v0 iP.length:=by rw [vS,List.length_set]; exact pP
  refine yV ?_
  refine SX 10 rf ?_
  exact LN [0] (iP,wr .i64 (dF + 1),wr .i64 (bN - 1)) ⟨IZ,h⟩ rf rf rf
 ·
  refine SC 4 rf ?_
  have h:=sj h; subst h
  exact rH v0 rfl .nil ⟨rfl,oU⟩ rfl (ks:=[0]) rfl (by decide)
def eu (n:Nat) (a1:Int) (a2:ai):Option (List Int):=
 dz (fun EO (bN:(List Int)) =>
 cn (decide (0 < (bN.length:Int))) (
 gu (cV (wr .i64 ((bN.length:Int) - 1)) bN.length) <|
 yl (bN.getD (Int.toNat (wr .i64 ((bN.length:Int) - 1))) default) <|
 bd (gJ n a2 (bN.getD (Int.toNat (wr .i64 ((bN.length:Int) - 1))) default)) fun mY =>
 bd (dQ n mY) fun j3 =>
 gu (cV (wr .i64 ((bN.length:Int) - 1)) (bN.length + 1)) <|
 lt (bN.take (Int.toNat (wr .i64 ((bN.length:Int) - 1))):List Int) fun uU =>
 gu (jH uU.length j3.length 4) <|
 lt (uU++j3:List Int) fun wH =>
 EO wH) (
 some [])) n ([a1]:List Int)
theorem gM {n:Nat} {a1:Int} {a2:ai} {l:List Int} {K:World→Prop} [bL K] {q1:Nat} {q2:Nat} {ux:List Value} (f2:(ag).rep K ux a2) (h:eu n a1 a2 = some l):vv Try.prog 158 [Ptr q1 0,Ptr q2 0] [.cells q1 69 ((LI .u32).enc a1), .cells q2 77 ux] K (fun k=>[.int .u32 (l.getD k default)]) l.length:=by
 unfold eu at h
 refine ⟨fun y J Jx bs=>fF Try.func158 (by kernel_rfl) rfl Try.ntmps158 rfl (fun cx cX hpre hro=>?_)⟩
 haveI:=hO (show cx.bs = bs++br [.cells q1 69 ((LI .u32).enc a1), .cells q2 77 ux] from cX) hpre.1
 have hR:Bp Try.prog y cx.bs cx.w0 J Jx (fun k=>[.int .u32 (l.getD k default)]) l.length:=by rw [show cx.bs = bs++br [.cells q1 69 ((LI .u32).enc a1), .cells q2 77 ux] from cX]; exact hpre.2
 have CH:l.drop 0 = l:=rfl
 have Cl:0 ≤ l.length:=Nat.zero_le _
 refine SC 2 rf ?_
 refine au rfl (bt (aS.id (L:=(LI .u32))) rfl) ?_
 refine ef rfl (AI (LI .u32) a1 rfl rfl rfl rfl (by decide) (by decide)) (fun b8 _=>?_)
 refine SL 4 rf ?_
 obtain ⟨H8,FB,h⟩:=mB h
 refine LO (β:=(List Int) × Value × Nat × (List Int) × (List Nat)) [0,2] [0,1,2,3] (fun (EE,bN,AU,pO,Ep,rm)=>[(4,AU)]) (fun (EE,bN,AU,pO,Ep,rm)=>[Row AU 69 1 (LI .u32) bN, .ext rm (J pO rm), .cells q1 69 ((LI .u32).enc a1), .cells q2 77 ux]) (fun (EE,bN,AU,pO,Ep,rm)=>jw AU bN.length∧l.drop pO = Ep∧pO ≤ l.length∧dz H8 EE bN = some Ep) (n,([a1]:List Int), .slice (some ⟨b8,0,none⟩) 1 1,0,l,bs) ⟨⟨_,_,rfl⟩,CH,Cl,h⟩ rf rf rf ?_
 rintro EE ⟨bN,AU,pO,Ep,rm⟩ ⟨uc,FZ,Jj,h⟩
 replace h:=mA FB h; obtain ⟨EE,rfl,h⟩:=h
 refine SC 4 rf ?_
 refine au rfl (cu (Fz.row (e:=69) (sz:=1) (L:=(LI .u32)) (xs:=bN) rfl uc) rfl) ?_
 refine SL 3 rf ?_
 refine fL h rf (fun hc h=>?_) fun hc h=>?_
 ·
  obtain ⟨Ct,h⟩:=dZ h
  refine SC 7 rf ?_
  refine au rfl (cu (Fz.row (e:=69) (sz:=1) (L:=(LI .u32)) (xs:=bN) rfl uc) rfl) ?_
  refine au rfl (po rfl rfl rfl) ?_
  refine au rfl (eD (m:=(Int.toNat (wr .i64 ((bN.length:Int) - 1)))) (Fz.row (e:=69) (sz:=1) (L:=(LI .u32)) (xs:=bN) rfl uc) rfl rfl rfl (aE Ct).1 (aE Ct).2) ?_
  refine au rfl (fj (Fz.row (e:=69) (sz:=1) (L:=(LI .u32)) (xs:=bN) rfl uc) (aS.idx (L:=(LI .u32)) (m:=(bN.length)) (k:=1) ((Int.toNat (wr .i64 ((bN.length:Int) - 1)))) (aE Ct).2 rfl) rfl) ?_
  refine SL 5 rf ?_
  obtain ⟨HO,Ce,h⟩:=zb h
  obtain ⟨Ck,Cs,CG,Cj⟩:=drop_cons (FZ.trans Ce)
  refine SC 3 rf ?_
  refine ef rfl (mT (bs:=rm) hR Ck hro rfl (show nx _ _ = some [.int .u32 (l.getD pO default)] by rw [Cs]; rfl)) (fun ⟨yd,ur⟩ _=>?_)
  refine SL 3 rf ?_
  refine qF rfl (fun hc=>?_) (fun hc=>?_)
  ·
   obtain rfl:yd = false:=by simpa using hc
   dsimp only [cond_true,cond_false]
   refine SC 5 rf ?_
   exact dL (false,ur) rfl .nil trivial rfl (ks:=[1,2,3]) rfl (by decide)
  ·
   obtain rfl:yd = true:=by simpa using hc
   dsimp only [cond_true,cond_false]
   obtain ⟨mY,IJ,h⟩:=bz h
   refine SC 4 rf ?_
   refine au rfl (ak rfl (aY.len _ f2)) ?_
   refine au rfl (ay rfl) ?_
   refine ef rfl (fI (lH (K:=K) (mo f2) IJ) rfl kn) (fun BA Fh=>?_)
   dsimp only [List.cons_append,List.nil_append]
   obtain ⟨j3,B8,h⟩:=bz h
   refine SL 6 rf ?_
   refine ef rfl (iD (K:=(fun _=>True)) (lK:=[Row BA 69 1 (LI .u32) mY]) (rest:=[Row AU 69 1 (LI .u32) bN, .ext ur (J (pO + 1) ur), .cells q1 69 ((LI .u32).enc a1), .cells q2 77 ux]) (ks:=[0,1,2,3,4]) (kE Fh B8) rfl rfl rfl rfl (by decide)) (fun _ ⟨rfl,IX⟩=>?_)
   dsimp only [List.cons_append,List.nil_append]
   obtain ⟨Cq,h⟩:=dZ h
   obtain ⟨uU,zS,h⟩:=cW h
   obtain ⟨FQ,h⟩:=dZ h
   obtain ⟨wH,vR,h⟩:=cW h
   refine SL 5 rf ?_
   refine au rfl (cu (Fz.row (e:=69) (sz:=1) (L:=(LI .u32)) (xs:=bN) rfl uc) rfl) ?_
   refine au rfl (po rfl rfl rfl) ?_
   refine ef rfl (qG (e:=69) (sz:=1) (L:=(LI .u32)) uc rfl rfl rfl (aE Cq).1 (Nat.lt_succ_iff.1 (aE Cq).2)) (fun _ _=>?_)
   have Mk:jw (g7 0 (Int.toNat (wr .i64 ((bN.length:Int) - 1))) 1 AU) uU.length:=by rw [zS,List.length_take,Nat.min_eq_left (Nat.lt_succ_iff.1 (aE Cq).2)]; exact vo uc
   rw [← zS]
   refine au rfl (ay rfl) ?_
   refine ef rfl (AJ (sz:=1) (L:=(LI .u32)) (xs:=uU) (ys:=j3) (bytes:=4) (Fz.row (e:=69) (sz:=1) (L:=(LI .u32)) (xs:=j3) rfl IX) rfl rfl rfl (gR FQ).1 (gR FQ).2) (fun LK Fg=>?_)
   rw [← vR] at Fg; rw [← vR]
   refine SL 3 rf ?_
   exact LN [1,2,3,4] (wH,LK,pO + 1,HO,ur) ⟨Fg,CG,Cj,h⟩ rf rf rf
 ·
  refine SC 4 rf ?_
  have h:=sj h; subst h
  have JN:=drop_nil FZ Jj
  refine oh (ks:=[1,2,3]) (H':=[.ext rm (J (pO) rm), .cells q1 69 ((LI .u32).enc a1), .cells q2 77 ux]) rfl (by decide) ?_
  refine om (J:=J) (n:=l.length) JN ?_
  exact rH (true,rm) rfl .nil trivial rfl (ks:=[0,1,2]) rfl (by decide)
def bA (n:Nat) (kG:Int) (iV:ai):Option (List Int):=
 bd (eu n kG iV) fun bn =>
 eB (fun (JU:Int) BV (fJ:(List Int)) =>
 lt (JU:Int) fun kB =>
 gu (jH fJ.length 1 4) <|
 lt (fJ++([kB]):List Int) fun gF =>
 BV gF) (fun (fJ:(List Int)) =>
 some fJ) bn ([]:List Int)
theorem eU {n kG iV r K} [bL K] {jP jO sU} (JL:(ag).rep K sU iV) (h:bA n kG iV = some r):Lo Try.prog 157 [.slice none 0 0, .func (.func 158) #[] #[Ptr jP 0,Ptr jO 0]] K [.cells jP 69 ((LI .u32).enc kG), .cells jO 77 sU] (fun J v ho=>∃u0,v = (u0)∧ho = [.cells jP 69 ((LI .u32).enc kG), .cells jO 77 sU]∧Fz (fun w=>K w∧J w) u0 (LI .u32) (r)):=by
 unfold bA at h
 refine fF Try.func157 (by kernel_rfl) rfl Try.ntmps157 rfl (fun cx cX hpre hro=>?_)
 haveI:=hO cX hpre
 refine SC 2 rf ?_
 refine W1 rf (vp rfl (Fz.nil (A:=Hs []) (L:=(LI .u32))).sl.cells) fun b2=>?_
 refine SL 10 rf ?_
 obtain ⟨bn,dm,h⟩:=bz h
 refine rK 69 1 (LI .u32) ?_
 obtain ⟨tR,xY,uq,ya,h⟩:=oR h
 refine jY (K:=K) (α:=(List Int) × Value) (β:=Unit) hro rfl (gM (K:=K) (mo JL) dm) (fun _=>rfl) rfl (fun jT=>fun (fJ,uW)=>jw uW fJ.length∧eB tR uq (bn.drop jT) fJ = some r) (fun jT=>fun (fJ,uW)=>[Row uW 69 1 (LI .u32) fJ, .cells b2 93 ([uW])]) (fun _ _=>False) (fun _=>[]) ⟨([]:List Int), .slice none 0 0⟩ ⟨⟨_,_,rfl⟩,h⟩ (ks:=[2,3,0,1]) rfl (by decide) ?_ ?_ ?_
 ·
  rintro jT ⟨fJ,uW⟩ lo dd rec c' hk ⟨oU,h⟩ nR qZ lV hsi hT
  replace h:eB tR uq (bn.drop jT) fJ = some r:=h
  replace h:=oP xY hk h
  haveI:=kP (K:=K) hsi
  dsimp only [n3]
  obtain ⟨kB,tS,h⟩:=cW h
  rw [← tS]
  refine SC 3 rf ?_
  refine iz nR lV ?_
  obtain ⟨nv,h⟩:=dZ h
  obtain ⟨gF,ke,h⟩:=cW h
  refine SC 2 rf ?_
  refine au rfl (cE rfl rfl) ?_
  refine au rfl (ay rfl) ?_
  refine ef rfl (mg (LI .u32) kB rfl rfl rfl rfl (by decide) (by decide)) (fun Ht _=>?_)
  refine ef rfl (lq (sz:=1) (L:=(LI .u32)) (xs:=fJ) (y:=kB) (bytes:=4) rfl rfl rfl (gR nv).1 (gR nv).2) (fun BB pP=>?_)
  rw [← ke] at pP; rw [← ke]
  refine W0 (pA (cs':=[BB]) [BB] (aS.id (L:=(ou (LI .u32)))) (v:=gF) ⟨_,rfl,(Fz.row (e:=69) (sz:=1) (L:=(LI .u32)) (xs:=fJ) rfl oU)⟩ (rv:=(⟨_,rfl,(Fz.row (e:=69) (sz:=1) (L:=(LI .u32)) (xs:=gF) rfl pP)⟩ : ((ou (LI .u32))).rep (Hs [Row BB 69 1 (LI .u32) gF]) [BB] gF)) rfl rfl (Fz.row (e:=69) (sz:=1) (L:=(LI .u32)) (xs:=gF) rfl pP).sl.cells rfl rfl) ?_
  refine SL 2 rf ?_
  exact gT nR qZ hT ⟨gF,BB⟩ ⟨pP,h⟩ (ks:=[1,2,3,4]) rfl (by decide)
 ·
  rintro Gk ⟨fJ,uW⟩ ⟨oU,h⟩
  replace h:eB tR uq (bn.drop bn.length) fJ = some r:=h
  replace h:=oQ ya rfl h
  dsimp only [List.cons_append,List.nil_append]
  refine SX 4 rf ?_
  refine au rfl (cE rfl rfl) ?_
  refine SL 4 rf ?_
  have h:=sj h; subst h
  refine bV (R:=[Row uW 69 1 (LI .u32) fJ]) (H':=[.obj Gk (.deferred (some [])), .cells jP 69 ((LI .u32).enc kG), .cells jO 77 sU]) (ks:=[3,0,1,2]) rfl (by decide) ?_
  have L1:Fz (fun w=>K w∧(Hs [.ext (br [Row uW 69 1 (LI .u32) fJ]) (Hs [Row uW 69 1 (LI .u32) fJ])]) w) uW (LI .u32) fJ:=(Fz.row (e:=69) (sz:=1) (L:=(LI .u32)) (xs:=fJ) rfl oU).mono od
  exact ic (uW,[.cells jP 69 ((LI .u32).enc kG), .cells jO 77 sU],br [Row uW 69 1 (LI .u32) fJ],Hs [Row uW 69 1 (LI .u32) fJ]) rfl (.tmp rfl .nil) ⟨_,rfl,rfl,L1⟩ rfl (ks:=[0,2,3]) rfl (by decide)
 ·
  intro dd j i hf; exact hf.elim
def bS (n:Nat) (s8:Int) (Aj:ai):Option (List Int):=
 bd (bA n s8 Aj) fun bn =>
 some bn
theorem gi {n s8 Aj r K} [bL K] {vK vJ qA} (JM:(ag).rep K qA Aj) (h:bS n s8 Aj = some r):Lo Try.prog 126 [.func (.func 158) #[] #[Ptr vK 0,Ptr vJ 0]] K [.cells vK 69 ((LI .u32).enc s8), .cells vJ 77 qA] (fun J v ho=>∃u0,v = (u0)∧ho = [.cells vK 69 ((LI .u32).enc s8), .cells vJ 77 qA]∧Fz (fun w=>K w∧J w) u0 (LI .u32) (r)):=by
 unfold bS at h
 refine fF Try.func126 (by kernel_rfl) rfl Try.ntmps126 rfl (fun cx cX hpre hro=>?_)
 haveI:=hO cX hpre
 obtain ⟨bn,dm,h⟩:=bz h
 refine SC 8 rf ?_
 refine ef rfl (iD (K:=K) (lK:=[.cells vK 69 ((LI .u32).enc s8), .cells vJ 77 qA]) (rest:=[]) (ks:=[0,1]) (eU (K:=K) (mo JM) dm) rfl rfl rfl rfl (by decide)) (fun ⟨yX,Mt,dP,iK⟩ Ch=>?_)
 obtain ⟨uW,rfl,rfl,f26⟩:=Ch
 replace f26:Fz (fun w=>K w∧Hs [.ext dP iK] w) yX (LI .u32) bn:=f26
 dsimp only [List.cons_append,List.nil_append]
 refine SL 4 rf ?_
 have h:=sj h; subst h
 refine bV (R:=[.ext dP iK]) (H':=[.cells vK 69 ((LI .u32).enc s8), .cells vJ 77 qA]) (ks:=[0,1,2]) rfl (by decide) ?_
 have L5:Fz (fun w=>K w∧(Hs [.ext (br [.ext dP iK]) (Hs [.ext dP iK])]) w) yX (LI .u32) bn:=f26.mono od
 exact dL (yX,[.cells vK 69 ((LI .u32).enc s8), .cells vJ 77 qA],br [.ext dP iK],Hs [.ext dP iK]) rfl (.tmp rfl .nil) ⟨_,rfl,rfl,L5⟩ rfl (ks:=[0,1,2]) rfl (by decide)
def eM (n:Nat) (a0:ai) (a1:Int):Option (List Int):=
 bd (aJ n a0.book.gV a1) fun bn =>
 cn ((!bn)) (
 some ([]:List Int)) (
 bd (eK n a0 a1) fun j4 =>
 bd (bS n j4.1 j4.2) fun dk =>
 some dk)
theorem gP {n a0 a1 r K} [bL K] {ep} (f0:(ag).rep K ep a0) (h:eM n a0 a1 = some r):tv Try.prog 52 [A ep, .int .u32 a1] K (fun J v=>Fz (fun w=>K w∧J w) v (LI .u32) r):=by
 unfold eM at h
 refine fo Try.func52 (by kernel_rfl) rfl Try.ntmps52 rfl fun cx _ hro cX hpre=>?_
 refine SC 2 rf ?_
 refine W1 rf (cO rfl) fun b2=>?_
 obtain ⟨bn,dm,h⟩:=bz h
 refine SL 8 rf ?_
 refine au rfl (bg rfl (aP.iff.1 ((aB.c0 aK).get f0)) (bw _ _)) ?_
 refine au rfl (ay rfl) ?_
 refine CV (aT dm) rf rf ?_
 refine SL 3 rf ?_
 refine fL h rf (fun hc h=>?_) fun hc h=>?_
 ·
  refine SC 7 rf ?_
  have h:=sj h; subst h
  refine bV (R:=[]) (H':=[]) (ks:=[]) rfl (by decide) ?_
  have L6:Fz (fun w=>K w∧(Hs [.ext (br []) (Hs [])]) w) (.slice none 0 0) (LI .u32) ([]:List Int):=(Fz.nil (A:=Hs []) (L:=(LI .u32))).mono od
  exact dL (.slice none 0 0,br [],Hs []) rfl (.tmp rfl .nil) L6 rfl (ks:=[0]) rfl (by decide)
 ·
  obtain ⟨j4,nq,h⟩:=bz h
  obtain ⟨dk,tW,h⟩:=bz h
  refine SC 4 rf ?_
  refine au rfl (ak rfl (aY.len _ f0)) ?_
  refine au rfl (ay rfl) ?_
  refine ef rfl (fI (jk (K:=K) (mo f0) nq) rfl kn) (fun ⟨Kg,K7,C9⟩ f27=>?_)
  replace f27:(ag).rep K C9 j4.2:=f27
  dsimp only [List.cons_append,List.nil_append]
  refine ef rfl (iD (K:=K) (lK:=[.cells Kg 69 ((LI .u32).enc j4.1), .cells K7 77 C9]) (rest:=[.cells b2 77 ep]) (ks:=[0,1,2]) (gi (K:=K) (mo f27) tW) rfl rfl rfl rfl (by decide)) (fun ⟨HE,Ms,kg,rX⟩ Jc=>?_)
  obtain ⟨NA,rfl,rfl,f33⟩:=Jc
  replace f33:Fz (fun w=>K w∧Hs [.ext kg rX] w) HE (LI .u32) dk:=f33
  dsimp only [List.cons_append,List.nil_append]
  refine SL 4 rf ?_
  have h:=sj h; subst h
  refine bV (R:=[.ext kg rX]) (H':=[]) (ks:=[0]) rfl (by decide) ?_
  have L2:Fz (fun w=>K w∧(Hs [.ext (br [.ext kg rX]) (Hs [.ext kg rX])]) w) HE (LI .u32) dk:=f33.mono od
  exact dL (HE,br [.ext kg rX],Hs [.ext kg rX]) rfl (.tmp rfl .nil) L2 rfl (ks:=[0]) rfl (by decide)
def iq (n:Nat) (a0:ai) (a1:Int):Option (ai × (List Int) × Int):=
 bd (eM n a0 a1) fun bn =>
 cn (((bn.length:Int) == 0)) (
 some (a0,([]:List Int),4)) (
 cP (fun EN (dg:Int) (mj:ai) =>
 cn (decide (dg < (bn.length:Int))) (
 gu (cV dg bn.length) <|
 bd (cQ n mj (bn.getD (Int.toNat dg) default)) fun lO =>
 EN (wr .i64 (dg + 1)) lO.1) (
 some (mj,bn,0))) n 0 a0)
theorem pT {n a0 a1 r K} [bL K] {ep} (f0:(ag).rep K ep a0) (h:iq n a0 a1 = some r):tv Try.prog 60 [A ep, .int .u32 a1] K (fun J v=>∃u0 u1,v = (.tuple #[A u0,u1, .int .i64 r.2.2])∧(ag).rep (fun w=>K w∧J w) u0 (r.1)∧Fz (fun w=>K w∧J w) u1 (LI .u32) (r.2.1)):=by
 unfold iq at h
 refine fo Try.func60 (by kernel_rfl) rfl Try.ntmps60 rfl fun cx _ hro cX hpre=>?_
 refine SC 2 rf ?_
 refine W1 rf (cO rfl) fun b2=>?_
 refine W1 rf (bG (hz:=(⟨by kernel_rfl⟩ : cy Try.prog 77 aH))) fun b4=>?_
 obtain ⟨bn,dm,h⟩:=bz h
 refine SL 6 rf ?_
 refine au rfl (ak rfl (aY.len _ f0)) ?_
 refine au rfl (ay rfl) ?_
 refine ef rfl (gU (gP (K:=K) (mo f0) dm) rfl) (fun ⟨yX,dP,iK⟩ Ch=>?_)
 have f26:Fz (fun w=>K w∧Hs [.ext dP iK] w) yX (LI .u32) bn:=Ch
 refine SL 7 rf ?_
 refine au rfl (cu f26 rfl) ?_
 refine SL 3 rf ?_
 refine fL h rf (fun hc h=>?_) fun hc h=>?_
 ·
  refine SC 2 rf ?_
  refine au rfl (ak rfl (aY.len _ f0)) ?_
  refine ST (C:=K) a0 (aS.id (L:=ag)) aD (mo f0) rf rf rf rf rf fun Ag f29=>?_
  refine SL 6 rf ?_
  have h:=sj h; subst h
  refine bV (R:=[]) (H':=[.cells b4 77 Ag]) (ks:=[1]) rfl (by decide) ?_
  have L4:(ag).rep (fun w=>K w∧(Hs [.ext (br []) (Hs [])]) w) Ag a0:=aY.mono _ od f29
  have L3:Fz (fun w=>K w∧(Hs [.ext (br []) (Hs [])]) w) (.slice none 0 0) (LI .u32) ([]:List Int):=(Fz.nil (A:=Hs []) (L:=(LI .u32))).mono od
  exact dL (.tuple #[A Ag, .slice none 0 0, .int .i64 4],br [],Hs []) rfl (.agg rfl inferInstance inferInstance (aY.len _ f29) (.tmp rfl (.tmp rfl .nil))) ⟨_,_,rfl,L4,L3⟩ rfl (ks:=[0]) rfl (by decide)
 ·
  refine SC 6 rf ?_
  refine au rfl (cu f26 rfl) ?_
  refine SL 4 rf ?_
  obtain ⟨H6,Fx,h⟩:=nQ h
  refine mR ?_
  refine LO (β:=Int × ai × (List Value) × (List Nat) × (World→Prop)) [2,4,7,17,18] [0,1,2,3] (fun (EC,dg,mj,DR,ec,iY)=>[(19, .int .i64 dg)]) (fun (EC,dg,mj,DR,ec,iY)=>[.ext ec iY, .ext dP iK, .cells b4 77 aH, .cells b2 77 DR]) (fun (EC,dg,mj,DR,ec,iY)=>(ag).rep (fun w=>K w∧Hs [.ext ec iY] w) DR mj∧cP H6 EC dg mj = some r) (n,0,a0,ep,[],(Hs [])) ⟨(mo f0),h⟩ rf rf rf ?_
  rintro EC ⟨dg,mj,DR,ec,iY⟩ ⟨f44,h⟩
  replace h:=nP Fx h; obtain ⟨EC,rfl,h⟩:=h
  refine SC 6 rf ?_
  refine fL h rf (fun hc h=>?_) fun hc h=>?_
  ·
   obtain ⟨Cr,h⟩:=dZ h
   refine SC 6 rf ?_
   refine au rfl (eD (m:=(Int.toNat dg)) f26 rfl rfl rfl (aE Cr).1 (aE Cr).2) ?_
   refine au rfl (fj f26 (aS.idx (L:=(LI .u32)) (m:=(bn.length)) (k:=1) ((Int.toNat dg)) (aE Cr).2 rfl) rfl) ?_
   obtain ⟨lO,II,h⟩:=bz h
   refine SL 4 rf ?_
   refine au rfl (ak rfl (aY.len _ f44)) ?_
   refine au rfl (ay rfl) ?_
   refine CB (l6 (K:=(fun w=>K w∧Hs [.ext ec iY] w)) (mo f44) II) rf rf ?_
   rintro Nt yx GY ⟨K0,rfl,f54⟩
   replace f54:(ag).rep (fun w=>(fun w=>K w∧Hs [.ext ec iY] w) w∧Hs [.ext yx GY] w) K0 lO.1:=f54
   refine SL 3 rf ?_
   refine ST (C:=(fun w=>K w∧Hs [.ext ec iY, .ext yx GY] w)) lO.1 (aS.id (L:=ag)) (mo f44) (mo f54) rf rf rf rf rf fun Hq f57=>?_
   refine SL 7 rf ?_
   refine bV (R:=[.ext yx GY, .ext ec iY]) (H':=[.ext dP iK, .cells b4 77 aH, .cells b2 77 Hq]) (ks:=[0,1,2,3,4]) rfl (by decide) ?_
   exact LN [0,1,2,3] (wr .i64 (dg + 1),lO.1,Hq,(br [.ext yx GY, .ext ec iY]),(Hs [.ext yx GY, .ext ec iY])) ⟨(mo f57),h⟩ rf rf rf
  ·
   refine SC 7 rf ?_
   refine au rfl (ak rfl (aY.len _ f44)) ?_
   refine au rfl (ay rfl) ?_
   refine ST (C:=(fun w=>K w∧Hs [.ext ec iY] w)) mj (aS.id (L:=ag)) aD (mo f44) rf rf rf rf rf fun J5 f59=>?_
   refine SL 5 rf ?_
   have h:=sj h; subst h
   refine bV (R:=[.ext ec iY, .ext dP iK]) (H':=[.cells b4 77 J5]) (ks:=[0,1,2]) rfl (by decide) ?_
   have L0:(ag).rep (fun w=>K w∧(Hs [.ext (br [.ext ec iY, .ext dP iK]) (Hs [.ext ec iY, .ext dP iK])]) w) J5 mj:=aY.mono _ od f59
   have LZ:Fz (fun w=>K w∧(Hs [.ext (br [.ext ec iY, .ext dP iK]) (Hs [.ext ec iY, .ext dP iK])]) w) yX (LI .u32) bn:=f26.mono od
   exact dL (.tuple #[A J5,yX, .int .i64 0],br [.ext ec iY, .ext dP iK],Hs [.ext ec iY, .ext dP iK]) rfl (.agg rfl inferInstance inferInstance (aY.len _ f59) (.tmp rfl (.tmp rfl .nil))) ⟨_,_,rfl,L0,LZ⟩ rfl (ks:=[0]) rfl (by decide)
def ij (n:Nat) (a0:ai) (a1:Int):Option Int:=
 bd (eK n a0 a1) fun bn =>
 bd (eu n bn.1 bn.2) fun fJ =>
 eB (fun (Aa:Int) zM (dF:Int) =>
 lt (Aa:Int) fun hJ =>
 bd (ct n a0 hJ) fun gF =>
 bd (ct n a0 a1) fun fB =>
 lt ((if dF < wr .i64 ((wr .i64 (gF - fB)) + 1) then wr .i64 ((wr .i64 (gF - fB)) + 1) else dF):Int) fun fe =>
 zM fe) (fun (dF:Int) =>
 some dF) fJ 0
theorem pS {n a0 a1 r K} [bL K] {ep} (f0:(ag).rep K ep a0) (h:ij n a0 a1 = some r):wE Try.prog 131 [A ep, .int .u32 a1] K (.int .i64 r):=by
 unfold ij at h
 refine fo Try.func131 (by kernel_rfl) rfl Try.ntmps131 rfl fun cx _ hro cX hpre=>?_
 refine SC 2 rf ?_
 refine W1 rf (cO rfl) fun b2=>?_
 refine W1 rf (fk (LI .u32) a1 rfl rfl) fun b3=>?_
 refine SL 5 rf ?_
 refine W1 rf (cJ (L:=(LI .i64)) (z:=0) ⟨by kernel_rfl⟩) fun b5=>?_
 refine W0 (dA (M:=(LI .i64)) (aS.id (L:=(LI .i64))) 0 0 rfl rfl rfl rfl rfl) ?_
 obtain ⟨bn,dm,h⟩:=bz h
 refine SL 5 rf ?_
 refine au rfl (ak rfl (aY.len _ f0)) ?_
 refine au rfl (bt (aS.id (L:=(LI .u32))) rfl) ?_
 refine ef rfl (fI (jk (K:=K) (mo f0) dm) rfl kn) (fun ⟨M7,K8,Gy⟩ f25=>?_)
 replace f25:(ag).rep K Gy bn.2:=f25
 dsimp only [List.cons_append,List.nil_append]
 refine SL 3 rf ?_
 obtain ⟨fJ,tX,h⟩:=bz h
 obtain ⟨B1,FL,CY,FW,h⟩:=oR h
 refine jY (K:=K) (α:=Int) (β:=Unit) hro rfl (gM (K:=K) (mo f25) tX) (fun _=>rfl) rfl (fun zJ=>fun dF=>eB B1 CY (fJ.drop zJ) dF = some r) (fun zJ=>fun dF=>[.cells b5 3 ((LI .i64).enc dF), .cells b3 69 ((LI .u32).enc a1), .cells b2 77 ep]) (fun _ _=>False) (fun _=>[]) 0 h (ks:=[0,1,2,3,4]) rfl (by decide) ?_ ?_ ?_
 ·
  rintro zJ dF lo dd rec c' hk h nR qZ lV hsi hT
  replace h:eB B1 CY (fJ.drop zJ) dF = some r:=h
  replace h:=oP FL hk h
  haveI:=kP (K:=K) hsi
  dsimp only [n3]
  obtain ⟨hJ,oS,h⟩:=cW h
  rw [← oS]
  refine SC 3 rf ?_
  refine iz nR lV ?_
  refine pg ?_
  obtain ⟨gF,ke,h⟩:=bz h
  obtain ⟨fB,mD,h⟩:=bz h
  obtain ⟨fe,sH,h⟩:=cW h
  refine eV mixed (.mm [] [(0,[5]),(1,[2]),(2,[6]),(3,[12,13]),(4,[2]),(5,[3]),(6,[15,16]),(7,[14,17]),(8,[18]),(9,[11,19])] (.alt 10 [5,20] (.fin [] []) .no)) (by kernel_rfl) ?_
  refine T0 ?_
  refine NV rf rf (bt (aS.id (L:=(LI .i64))) rfl) ?_
  refine NV rf rf (ak rfl (aY.len _ f0)) ?_
  refine NS 1 rf ?_
  refine NC rf rf (ez (K:=K) (mo f0) ke) rf ?_
  refine NV rf rf (ak rfl (aY.len _ f0)) ?_
  refine NV rf rf (bt (aS.id (L:=(LI .u32))) rfl) ?_
  refine NC rf rf (ez (K:=K) (mo f0) mD) rf ?_
  refine NS 2 rf ?_
  refine NV rf rf (Di rfl rfl) ?_
  refine cT ?_
  refine X0 rf (dA (M:=(LI .i64)) (aS.id (L:=(LI .i64))) (if dF < wr .i64 ((wr .i64 (gF - fB)) + 1) then wr .i64 ((wr .i64 (gF - fB)) + 1) else dF) fe sH rfl rfl rfl rfl) ?_
  refine yV ?_
  refine tc ?_
  exact gT nR qZ hT fe h (ks:=[0,1,2,3,4]) rfl (by decide)
 ·
  rintro Gk dF h
  replace h:eB B1 CY (fJ.drop fJ.length) dF = some r:=h
  replace h:=oQ FW rfl h
  dsimp only [List.cons_append,List.nil_append]
  refine SX 4 rf ?_
  refine au rfl (bt (aS.id (L:=(LI .i64))) rfl) ?_
  refine SL 4 rf ?_
  have h:=sj h; subst h
  exact ic () rfl (.tmp rfl .nil) trivial rfl (ks:=[]) rfl (by decide)
 ·
  intro dd j i hf; exact hf.elim
def ga (n:Nat) (a0:ai) (a1:Int) (a2:Int):Option (ai × Int):=
 bd (aJ n a0.book.gV a1) fun bn =>
 cl ((!bn) == false) (aJ n a0.book.gV a2) default fun cD =>
 cn (((!bn) || (!cD))) (
 some (a0,4)) (
 bd (cS n a0 a1) fun fJ =>
 cl ((fJ != a1) == false) (cN n a0 a1 a2) default fun cU =>
 cn (((fJ != a1) || cU)) (
 some (a0,12)) (
 bd (ct n a0 a2) fun fC =>
 bd (ij n a0 a1) fun eC =>
 cn (decide (6 < (wr .i64 (fC + eC)))) (
 some (a0,8)) (
 bd (cH n a0 a1 a2) fun gF =>
 some (gF.1,gF.2))))
theorem kV {n a0 a1 a2 r K} [bL K] {ep} (f0:(ag).rep K ep a0) (h:ga n a0 a1 a2 = some r):tv Try.prog 62 [A ep, .int .u32 a1, .int .u32 a2] K (fun J v=>∃u0,v = (.tuple #[A u0, .int .i64 r.2])∧(ag).rep (fun w=>K w∧J w) u0 (r.1)):=by
 unfold ga at h
 refine fo Try.func62 (by kernel_rfl) rfl Try.ntmps62 rfl fun cx _ hro cX hpre=>?_
 refine SC 2 rf ?_
 refine W1 rf (cO rfl) fun b3=>?_
 refine W1 rf (bG (hz:=(⟨by kernel_rfl⟩ : cy Try.prog 77 aH))) fun b6=>?_
 obtain ⟨bn,dm,h⟩:=bz h
 obtain ⟨cD,lT,_,h⟩:=iU h
 refine SL 9 rf ?_
 refine au rfl (bg rfl (aP.iff.1 ((aB.c0 aK).get f0)) (bw _ _)) ?_
 refine au rfl (ay rfl) ?_
 refine CV (aT dm) rf rf ?_
 refine SL 2 rf ?_
 refine GB rf rf rf (fun hb=>aW rfl) ?_
 refine GB rf rf rf (fun hb=>aW (cC rfl hb)) ?_
 refine GB rf rf rf (fun hb=>bg (cC rfl hb) (aP.iff.1 ((aB.c0 aK).get f0)) (bw _ _)) ?_
 refine GB rf rf rf (fun hb=>ay rfl) ?_
 refine GB rf rf rf (fun hb=>c9 (aT (lT hb)) (aL (cC rfl hb) (aL (cC rfl hb) rfl)) (fun _ _ _=>trivial)) ?_
 refine GB rf rf rf (fun hb=>jI (cC rfl hb)) ?_
 refine au rfl (gl rfl rfl) ?_
 refine SL 3 rf ?_
 refine fL h rf (fun hc h=>?_) fun hc h=>?_
 ·
  refine SC 2 rf ?_
  refine au rfl (ak rfl (aY.len _ f0)) ?_
  refine ST (C:=K) a0 (aS.id (L:=ag)) aD (mo f0) rf rf rf rf rf fun DS f24=>?_
  refine SL 6 rf ?_
  have h:=sj h; subst h
  exact pG [] rf rf (ra rf (aY.len _ f24) (rt rf rn)) ⟨_,rfl,(mo f24)⟩
 ·
  obtain ⟨fJ,tX,h⟩:=bz h
  obtain ⟨cU,nn,_,h⟩:=iU h
  refine SC 2 rf ?_
  refine au rfl (ak rfl (aY.len _ f0)) ?_
  refine au rfl (ay rfl) ?_
  refine CV (dG (K:=K) (mo f0) tX) rf rf ?_
  refine SL 3 rf ?_
  refine GB rf rf rf (fun hb=>ak rfl (aY.len _ f0)) ?_
  refine GB rf rf rf (fun hb=>ay rfl) ?_
  refine GB rf rf rf (fun hb=>ay rfl) ?_
  refine GB rf rf rf (fun hb=>c9 (eO (K:=K) (mo f0) (nn hb)) (aL (cC rfl hb) (aL (cC rfl hb) (aL (cC rfl hb) rfl))) kn) ?_
  refine au rfl (gl rfl rfl) ?_
  refine SL 3 rf ?_
  refine fL h rf (fun hc h=>?_) fun hc h=>?_
  ·
   refine SC 2 rf ?_
   refine au rfl (ak rfl (aY.len _ f0)) ?_
   refine ST (C:=K) a0 (aS.id (L:=ag)) aD (mo f0) rf rf rf rf rf fun Ag f29=>?_
   refine SL 6 rf ?_
   have h:=sj h; subst h
   exact pG [] rf rf (ra rf (aY.len _ f29) (rt rf rn)) ⟨_,rfl,(mo f29)⟩
  ·
   refine pe ?_
   obtain ⟨fC,IM,h⟩:=bz h
   obtain ⟨eC,tT,h⟩:=bz h
   refine eV mixed (.mm [] [(0,[3]),(1,[2]),(2,[38,39]),(3,[3]),(4,[1]),(5,[41,42]),(6,[40,43]),(7,[44])] (.alt 8 [45] (.fin [] []) .no)) (by kernel_rfl) ?_
   refine T0 ?_
   refine NV rf rf (ak rfl (aY.len _ f0)) ?_
   refine NS 1 rf ?_
   refine NC rf rf (ez (K:=K) (mo f0) IM) rf ?_
   refine NV rf rf (ak rfl (aY.len _ f0)) ?_
   refine NS 1 rf ?_
   refine NC rf rf (pS (K:=K) (mo f0) tT) rf ?_
   refine NE 2 rf ?_
   refine XV rf rf (ei rfl) ?_
   refine yV ?_
   refine gA ?_
   refine fL h rf (fun hc h=>?_) fun hc h=>?_
   ·
    refine SC 2 rf ?_
    refine au rfl (ak rfl (aY.len _ f0)) ?_
    refine ST (C:=K) a0 (aS.id (L:=ag)) aD (mo f0) rf rf rf rf rf fun Af f34=>?_
    refine SL 6 rf ?_
    have h:=sj h; subst h
    exact pG [] rf rf (ra rf (aY.len _ f34) (rt rf rn)) ⟨_,rfl,(mo f34)⟩
   ·
    obtain ⟨gF,ke,h⟩:=bz h
    refine SC 5 rf ?_
    refine au rfl (ak rfl (aY.len _ f0)) ?_
    refine SL 2 rf ?_
    refine CB (iN (K:=K) (mo f0) ke) rf rf ?_
    rintro Nx GK Ll ⟨wO,rfl,f41⟩
    replace f41:(ag).rep (fun w=>K w∧Hs [.ext GK Ll] w) wO gF.1:=f41
    refine SL 2 rf ?_
    refine ST (C:=(fun w=>K w∧Hs [.ext GK Ll] w)) gF.1 (aS.id (L:=ag)) aD (mo f41) rf rf rf rf rf fun DR f44=>?_
    refine SL 4 rf ?_
    have h:=sj h; subst h
    exact pG [0] rf rf (ra rf (aY.len _ f44) (rt rf rn)) ⟨_,rfl,(mo f44)⟩
def fh (n:Nat) (a0:Int) (a1:Int) (a2:ai):Option Bool:=
 cl ((a0 != a1) == true) (cN n a2 a0 a1) default fun bn =>
 some ((a0 != a1) && bn)
theorem o9 {n a0 a1 a2 r K} [bL K] {q1 q2 ux} (f2:(ag).rep K ux a2) (h:fh n a0 a1 a2 = some r):Bw.Fn (α:=Unit) Try.prog 130 [.int .u32 a0,Ptr q1 0,Ptr q2 0] (yU (br [.cells q1 69 ((LI .u32).enc a1), .cells q2 77 ux]) K) [.cells q1 69 ((LI .u32).enc a1), .cells q2 77 ux] (fun _=>True) (fun _=>(.bool r)) (fun _=>[.cells q1 69 ((LI .u32).enc a1), .cells q2 77 ux]):=by
 unfold fh at h
 refine fF Try.func130 (by kernel_rfl) rfl Try.ntmps130 rfl (fun cx cX hpre hro=>?_)
 haveI:=hO cX hpre
 obtain ⟨bn,dm,_,h⟩:=iU h
 refine SC 8 rf ?_
 refine au rfl (bt (aS.id (L:=(LI .u32))) rfl) ?_
 refine SL 2 rf ?_
 refine GB rf rf rf (fun hb=>ak rfl (aY.len _ f2)) ?_
 refine GB rf rf rf (fun hb=>ay rfl) ?_
 refine GB rf rf rf (fun hb=>bt (aS.id (L:=(LI .u32))) rfl) ?_
 refine GB rf rf rf (fun hb=>c9 (eO (K:=K) (mo f2) (dm hb)) (aL (cC rfl hb) (aL (cC rfl hb) (aL (cC rfl hb) rfl))) kn) ?_
 refine au rfl (fz rfl rfl) ?_
 refine SL 4 rf ?_
 have h:=sj h; subst h
 exact dL () rfl (.tmp rfl .nil) trivial rfl (ks:=[0,1]) rfl (by decide)
def g6 (n:Nat) (a0:ai) (a1:Int):Option (ai × Int):=
 bd (aJ n a0.book.gV a1) fun bn =>
 cn ((!bn)) (
 some (a0,4)) (
 bd (eK n a0 a1) fun cU =>
 bd (eu n cU.1 cU.2) fun eC =>
 eB (fun (JR:Int) Ih (dg:ai) =>
 lt (JR:Int) fun k8 =>
 bd (bX n dg k8) fun j3 =>
 cP (fun A3 (kH:Int) (lM:aX) =>
 cn (decide (kH < 8)) (
 gu (cV kH 8) <|
 bd (fh n (j3.1.Cells (Int.toNat kH)) a1 a0) fun wS =>
 cn (wS) (
 gu (cV kH 8) <|
 lt ({ lM with Cells:=(dx lM.Cells (Int.toNat kH) 0) }:aX) fun vw =>
 A3 (wr .i64 (kH + 1)) vw) (
 A3 (wr .i64 (kH + 1)) lM)) (
 bd (cK n dg k8 lM) fun tB =>
 Ih tB.1)) n 0 j3.1) (fun (dg:ai) =>
 bd (cH n dg a1 0) fun mh =>
 some (mh.1,mh.2)) eC a0)
theorem mN {n a0 a1 r K} [bL K] {ep} (f0:(ag).rep K ep a0) (h:g6 n a0 a1 = some r):tv Try.prog 61 [A ep, .int .u32 a1] K (fun J v=>∃u0,v = (.tuple #[A u0, .int .i64 r.2])∧(ag).rep (fun w=>K w∧J w) u0 (r.1)):=by
 unfold g6 at h
 refine fo Try.func61 (by kernel_rfl) rfl Try.ntmps61 rfl fun cx _ hro cX hpre=>?_
 refine SC 2 rf ?_
 refine W1 rf (cO rfl) fun b2=>?_
 refine W1 rf (fk (LI .u32) a1 rfl rfl) fun b3=>?_
 refine W1 rf (bG (hz:=(⟨by kernel_rfl⟩ : cy Try.prog 77 aH))) fun b4=>?_
 obtain ⟨bn,dm,h⟩:=bz h
 refine SL 8 rf ?_
 refine au rfl (bg rfl (aP.iff.1 ((aB.c0 aK).get f0)) (bw _ _)) ?_
 refine au rfl (bt (aS.id (L:=(LI .u32))) rfl) ?_
 refine CV (aT dm) rf rf ?_
 refine SL 3 rf ?_
 refine fL h rf (fun hc h=>?_) fun hc h=>?_
 ·
  refine SC 2 rf ?_
  refine au rfl (ak rfl (aY.len _ f0)) ?_
  refine ST (C:=K) a0 (aS.id (L:=ag)) aD (mo f0) rf rf rf rf rf fun J7 f23=>?_
  refine SL 5 rf ?_
  have h:=sj h; subst h
  exact pG [] rf rf (ra rf (aY.len _ f23) (rt rf rn)) ⟨_,rfl,(mo f23)⟩
 ·
  refine SC 5 rf ?_
  refine W1 rf (bG (hz:=(⟨by kernel_rfl⟩ : cy Try.prog 109 [.nilFunc]))) fun b6=>?_
  refine W0 (mU (n:=1) (cs':=[.func (.func 130) #[] #[Ptr b3 0,Ptr b2 0]]) rfl rfl rfl rfl (by decide) (rV rfl) rfl) ?_
  refine SL 4 rf ?_
  refine au rfl (ak rfl (aY.len _ f0)) ?_
  refine W1 rf (bG (hz:=(⟨by kernel_rfl⟩ : cy Try.prog 77 aH))) fun b7=>?_
  refine ST (C:=K) a0 (aS.id (L:=ag)) aD (mo f0) rf rf rf rf rf fun Gv f26=>?_
  obtain ⟨cU,nn,h⟩:=bz h
  refine SL 5 rf ?_
  refine au rfl (ak rfl (aY.len _ f0)) ?_
  refine au rfl (bt (aS.id (L:=(LI .u32))) rfl) ?_
  refine ef rfl (fI (jk (K:=K) (mo f0) nn) rfl kn) (fun ⟨M5,NW,Gt⟩ f31=>?_)
  replace f31:(ag).rep K Gt cU.2:=f31
  dsimp only [List.cons_append,List.nil_append]
  refine SL 3 rf ?_
  obtain ⟨eC,tT,h⟩:=bz h
  refine mR ?_
  obtain ⟨BY,FI,CT,FT,h⟩:=oR h
  refine jY (K:=K) (α:=ai × (List Value) × (List Nat) × (World→Prop)) (β:=Unit) hro rfl (gM (K:=K) (mo f31) tT) (fun _=>rfl) rfl (fun zH=>fun (dg,wO,ec,iY)=>(ag).rep (fun w=>K w∧Hs [.ext ec iY] w) wO dg∧eB BY CT (eC.drop zH) dg = some r) (fun zH=>fun (dg,wO,ec,iY)=>[.ext ec iY, .cells b7 77 wO, .cells b6 109 [.func (.func 130) #[] #[Ptr b3 0,Ptr b2 0]], .cells b4 77 aH, .cells b3 69 ((LI .u32).enc a1), .cells b2 77 ep]) (fun _ _=>False) (fun _=>[]) ⟨a0,Gv,[],(Hs [])⟩ ⟨(mo f26),h⟩ (ks:=[1,2,0,3,4,5,6,7]) rfl (by decide) ?_ ?_ ?_
  ·
   rintro zH ⟨dg,wO,ec,iY⟩ lo dd rec c' hk ⟨f43,h⟩ nR qZ lV hsi hT
   replace h:eB BY CT (eC.drop zH) dg = some r:=h
   replace h:=oP FI hk h
   haveI:=kP (K:=K) hsi
   dsimp only [n3]
   obtain ⟨k8,B9,h⟩:=cW h
   rw [← B9]
   refine SC 3 rf ?_
   refine iz nR lV ?_
   obtain ⟨j3,B8,h⟩:=bz h
   refine SC 3 rf ?_
   refine au rfl (ak rfl (aY.len _ f43)) ?_
   refine au rfl (ay rfl) ?_
   refine CB (dO (K:=(fun w=>K w∧Hs [.ext ec iY] w)) (mo f43) B8) rf rf ?_
   rintro Ns mO vu ⟨Hq,rfl,f55⟩
   replace f55:(az).rep (fun w=>(fun w=>K w∧Hs [.ext ec iY] w) w∧Hs [.ext mO vu] w) Hq j3.1:=f55
   refine SL 3 rf ?_
   refine W1 rf (bG (hz:=(⟨by kernel_rfl⟩ : cy Try.prog 74 cB))) fun b9=>?_
   refine ST (C:=(fun w=>K w∧Hs [.ext ec iY, .ext mO vu] w)) j3.1 (aS.id (L:=az)) cA (mo f55) rf rf rf rf rf fun MX f58=>?_
   refine SL 7 rf ?_
   refine au rfl (bg rfl (aP.iff.1 (eP.get f58)) (bw _ _)) ?_
   refine SL 4 rf ?_
   obtain ⟨HY,Fv,h⟩:=nQ h
   refine mR ?_
   refine LO (β:=Int × aX × (List Value) × (List Nat) × (World→Prop)) [6,7,8,9,33] [0,1,2,3,4,5,6,7,8,9,10] (fun (EA,kH,lM,yw,jz,pH)=>[(34, .int .i64 kH)]) (fun (EA,kH,lM,yw,jz,pH)=>[.ext jz pH, .cells b9 74 yw, .ext mO vu, .obj dd (.deferred (some [])), .obj lo (.loop { rec with state:=.busy }), .ext ec iY, .cells b7 77 wO, .cells b6 109 [.func (.func 130) #[] #[Ptr b3 0,Ptr b2 0]], .cells b4 77 aH, .cells b3 69 ((LI .u32).enc a1), .cells b2 77 ep]) (fun (EA,kH,lM,yw,jz,pH)=>(az).rep (fun w=>K w∧Hs [.ext ec iY, .ext mO vu, .ext jz pH] w) yw lM∧cP HY EA kH lM = some r) (n,0,j3.1,MX,[],(Hs [])) ⟨(mo f58),h⟩ rf rf rf ?_
   rintro EA ⟨kH,lM,yw,jz,pH⟩ ⟨f71,h⟩
   replace h:=nP Fv h; obtain ⟨EA,rfl,h⟩:=h
   refine SC 6 rf ?_
   refine fL h rf (fun hc h=>?_) fun hc h=>?_
   ·
    obtain ⟨Cn,h⟩:=dZ h
    refine SC 7 rf ?_
    refine au rfl (wq (m:=(Int.toNat kH)) rfl rfl (aE Cn).1 (aE Cn).2 ((aS.idx (L:=(LI .u32)) (m:=8) (k:=1) (Int.toNat kH) (aE Cn).2 rfl).int (rp _ _))) ?_
    obtain ⟨wS,B6,h⟩:=bz h
    refine SL 6 rf ?_
    refine au rfl (cE rfl rfl) ?_
    refine au rfl (ay rfl) ?_
    refine ef rfl (iD (K:=K) (lK:=[.cells b3 69 ((LI .u32).enc a1), .cells b2 77 ep]) (rest:=[.ext jz pH, .cells b9 74 yw, .ext mO vu, .obj dd (.deferred (some [])), .obj lo (.loop { rec with state:=.busy }), .ext ec iY, .cells b7 77 wO, .cells b6 109 [.func (.func 130) #[] #[Ptr b3 0,Ptr b2 0]], .cells b4 77 aH]) (ks:=[9,10,0,1,2,3,4,5,6,7,8]) (o9 (K:=K) (mo f0) B6) rfl rfl rfl rfl (by decide)) (fun _ _=>?_)
    dsimp only [List.cons_append,List.nil_append]
    refine SL 2 rf ?_
    refine fL h rf (fun hc h=>?_) fun hc h=>?_
    ·
     obtain ⟨Cm,h⟩:=dZ h
     obtain ⟨vw,B5,h⟩:=cW h
     refine SC 3 rf ?_
     refine au rfl (gp (m:=(Int.toNat kH)) rfl rfl (aE Cm).1 (aE Cm).2) ?_
     refine ST (C:=(fun w=>K w∧Hs [.ext ec iY, .ext mO vu, .ext jz pH] w)) vw (eP.comp (aS.idx (L:=(LI .u32)) (m:=8) (k:=1) ((Int.toNat kH)) (aE Cm).2 rfl)) (mo f71) fl B5 rf rf rf rf fun C8 f80=>?_
     refine SL 7 rf ?_
     refine bV (R:=[.ext jz pH]) (H':=[.cells b3 69 ((LI .u32).enc a1), .cells b2 77 ep, .cells b9 74 C8, .ext mO vu, .obj dd (.deferred (some [])), .obj lo (.loop { rec with state:=.busy }), .ext ec iY, .cells b7 77 wO, .cells b6 109 [.func (.func 130) #[] #[Ptr b3 0,Ptr b2 0]], .cells b4 77 aH]) (ks:=[2,0,1,3,4,5,6,7,8,9,10]) rfl (by decide) ?_
     exact LN [0,3,4,5,6,7,8,9,10,1,2] (wr .i64 (kH + 1),vw,C8,(br [.ext jz pH]),(Hs [.ext jz pH])) ⟨(mo f80),h⟩ rf rf rf
    ·
     refine SC 7 rf ?_
     refine bV (R:=[.ext jz pH]) (H':=[.cells b3 69 ((LI .u32).enc a1), .cells b2 77 ep, .cells b9 74 yw, .ext mO vu, .obj dd (.deferred (some [])), .obj lo (.loop { rec with state:=.busy }), .ext ec iY, .cells b7 77 wO, .cells b6 109 [.func (.func 130) #[] #[Ptr b3 0,Ptr b2 0]], .cells b4 77 aH]) (ks:=[2,0,1,3,4,5,6,7,8,9,10]) rfl (by decide) ?_
     exact LN [0,3,4,5,6,7,8,9,10,1,2] (wr .i64 (kH + 1),lM,yw,(br [.ext jz pH]),(Hs [.ext jz pH])) ⟨(mo f71),h⟩ rf rf rf
   ·
    obtain ⟨tB,B4,h⟩:=bz h
    refine SC 6 rf ?_
    refine au rfl (ak rfl (aY.len _ f43)) ?_
    refine au rfl (ay rfl) ?_
    refine au rfl (ak rfl (aY.len _ f71)) ?_
    refine CB (jE (K:=(fun w=>K w∧Hs [.ext ec iY, .ext mO vu, .ext jz pH] w)) (mo f43) (mo f71) B4) rf rf ?_
    rintro Lw jm pD ⟨J4,rfl,f86⟩
    replace f86:(ag).rep (fun w=>(fun w=>K w∧Hs [.ext ec iY, .ext mO vu, .ext jz pH] w) w∧Hs [.ext jm pD] w) J4 tB.1:=f86
    refine SL 3 rf ?_
    refine ST (C:=(fun w=>K w∧Hs [.ext ec iY, .ext mO vu, .ext jz pH, .ext jm pD] w)) tB.1 (aS.id (L:=ag)) (mo f43) (mo f86) rf rf rf rf rf fun y5 f89=>?_
    refine SL 2 rf ?_
    refine bV (R:=[.ext jm pD, .ext jz pH, .ext mO vu, .ext ec iY]) (H':=[.cells b9 74 yw, .obj dd (.deferred (some [])), .obj lo (.loop { rec with state:=.busy }), .cells b7 77 y5, .cells b6 109 [.func (.func 130) #[] #[Ptr b3 0,Ptr b2 0]], .cells b4 77 aH, .cells b3 69 ((LI .u32).enc a1), .cells b2 77 ep]) (ks:=[0,1,3,6,2,4,5,7,8,9,10,11]) rfl (by decide) ?_
    exact gT nR qZ hT ⟨tB.1,y5,(br [.ext jm pD, .ext jz pH, .ext mO vu, .ext ec iY]),(Hs [.ext jm pD, .ext jz pH, .ext mO vu, .ext ec iY])⟩ ⟨(mo f89),h⟩ (ks:=[2,3,0,4,5,6,7,8]) rfl (by decide)
  ·
   rintro JY ⟨dg,wO,ec,iY⟩ ⟨f43,h⟩
   replace h:eB BY CT (eC.drop eC.length) dg = some r:=h
   replace h:=oQ FT rfl h
   dsimp only [List.cons_append,List.nil_append]
   obtain ⟨mh,Ir,h⟩:=bz h
   refine SX 4 rf ?_
   refine au rfl (ak rfl (aY.len _ f43)) ?_
   refine au rfl (bt (aS.id (L:=(LI .u32))) rfl) ?_
   refine CB (iN (K:=(fun w=>K w∧Hs [.ext ec iY] w)) (mo f43) Ir) rf rf ?_
   rintro Np uF DB ⟨MT,rfl,f96⟩
   replace f96:(ag).rep (fun w=>(fun w=>K w∧Hs [.ext ec iY] w) w∧Hs [.ext uF DB] w) MT mh.1:=f96
   refine SL 2 rf ?_
   refine ST (C:=(fun w=>K w∧Hs [.ext ec iY, .ext uF DB] w)) mh.1 (aS.id (L:=ag)) aD (mo f96) rf rf rf rf rf fun J1 f99=>?_
   refine SL 4 rf ?_
   have h:=sj h; subst h
   refine bV (R:=[.ext uF DB, .ext ec iY]) (H':=[.obj JY (.deferred (some [])), .cells b4 77 J1]) (ks:=[0,4,1,7]) rfl (by decide) ?_
   have HP:(ag).rep (fun w=>K w∧(Hs [.ext (br [.ext uF DB, .ext ec iY]) (Hs [.ext uF DB, .ext ec iY])]) w) J1 mh.1:=aY.mono _ od f99
   exact ic (.tuple #[A J1, .int .i64 mh.2],br [.ext uF DB, .ext ec iY],Hs [.ext uF DB, .ext ec iY]) rfl (.agg rfl inferInstance inferInstance (aY.len _ f99) (.tmp rfl .nil)) ⟨_,rfl,HP⟩ rfl (ks:=[0]) rfl (by decide)
  ·
   intro dd j i hf; exact hf.elim
def nk (n:Nat) (a0:(List Int)) (a1:(List Int)):Option Bool:=
 cn (((a0.length:Int) != (a1.length:Int))) (
 some false) (
 dz (fun tP (cD:Int) =>
 cn (decide (cD < (a0.length:Int))) (
 gu (cV cD a0.length) <|
 gu (cV cD a1.length) <|
 cn (((wr .i64 (a0.getD (Int.toNat cD) default)) != (a1.getD (Int.toNat cD) default))) (
 some false) (
 tP (wr .i64 (cD + 1)))) (
 some true)) n 0)
theorem sY {n a0 a1 r K} [bL K] {v0} (f0:Fz K v0 (LI .u32) a0) {v1:Value} (f1:Fz K v1 (LI .i64) a1) (h:nk n a0 a1 = some r):wE Try.prog 49 [v0,v1] K (.bool r):=by
 unfold nk at h
 refine fo Try.func49 (by kernel_rfl) rfl Try.ntmps49 rfl fun cx _ hro cX hpre=>?_
 refine SC 9 rf ?_
 refine au rfl (cu f0 rfl) ?_
 refine au rfl (ay rfl) ?_
 refine au rfl (cu f1 rfl) ?_
 refine SL 3 rf ?_
 refine fL h rf (fun hc h=>?_) fun hc h=>?_
 ·
  refine SC 7 rf ?_
  have h:=sj h; subst h
  exact RV rf (rt rf rn) rf
 ·
  refine SC 9 rf ?_
  obtain ⟨xG,sK,h⟩:=mB h
  refine LO (β:=Int) [0,1] [] (fun (sE,cD)=>[(5, .int .i64 cD)]) (fun (sE,cD)=>[]) (fun (sE,cD)=>dz xG sE cD = some r) (n,0) h rf rf rf ?_
  rintro sE cD h
  replace h:=mA sK h; obtain ⟨sE,rfl,h⟩:=h
  refine SC 5 rf ?_
  refine au rfl (cu f0 rfl) ?_
  refine SL 3 rf ?_
  refine fL h rf (fun hc h=>?_) fun hc h=>?_
  ·
   refine SC 5 rf ?_
   obtain ⟨pQ,h⟩:=dZ h
   obtain ⟨Cz,h⟩:=dZ h
   refine eV mixed (.fin [] [(0,[0]),(1,[5]),(2,[17,18]),(3,[19]),(4,[20]),(5,[1]),(6,[5]),(7,[22,23]),(8,[24]),(9,[21,25])]) (by kernel_rfl) ?_
   refine F0 ?_
   refine NS 2 rf ?_
   refine NV rf rf (eD (m:=(Int.toNat cD)) f0 rfl rfl rfl (aE pQ).1 (aE pQ).2) ?_
   refine NV rf rf (fj f0 (aS.idx (L:=(LI .u32)) (m:=(a0.length)) (k:=1) ((Int.toNat cD)) (aE pQ).2 rfl) rfl) ?_
   refine NS 3 rf ?_
   refine NV rf rf (eD (m:=(Int.toNat cD)) f1 rfl rfl rfl (aE Cz).1 (aE Cz).2) ?_
   refine NV rf rf (fj f1 (aS.idx (L:=(LI .i64)) (m:=(a1.length)) (k:=1) ((Int.toNat cD)) (aE Cz).2 rfl) rfl) ?_
   refine NE 1 rf ?_
   refine gA ?_
   refine fL h rf (fun hc h=>?_) fun hc h=>?_
   ·
    refine SC 11 rf ?_
    have h:=sj h; subst h
    exact RV rf (rt rf rn) rf
   ·
    refine SC 8 rf ?_
    exact LN [] (wr .i64 (cD + 1)) h rf rf rf
  ·
   refine SC 11 rf ?_
   have h:=sj h; subst h
   exact RV rf (rt rf rn) rf
def ig (n:Nat)  : Option Bool:=
 bd (fg n dY 0 1) fun bn =>
 bd (fg n bn.1 1 1) fun bN =>
 bd (fg n bN.1 2 1) fun fM =>
 bd (fg n fM.1 1 1) fun k8 =>
 bd (eM n k8.1 1) fun wH =>
 bd (ga n k8.1 1 3) fun oy =>
 bd (g6 n k8.1 2) fun mX =>
 bd (nk n wH ([1,2,3,4]:List Int)) fun AR =>
 cl (AR == true) (ct n k8.1 3) default fun Bv =>
 cl ((AR && (Bv == 3)) == true) (cS n k8.1 3) default fun nI =>
 cl (((AR && (Bv == 3)) && (nI == 1)) == true) (cN n k8.1 1 3) default fun D5 =>
 cl ((((((AR && (Bv == 3)) && (nI == 1)) && D5) && (oy.2 == 12)) && (mX.2 == 0)) == true) (cS n mX.1 3) default fun G3 =>
 cl (((((((AR && (Bv == 3)) && (nI == 1)) && D5) && (oy.2 == 12)) && (mX.2 == 0)) && (G3 == 2)) == true) (gJ n mX.1 1) default fun wR =>
 some (((((((AR && (Bv == 3)) && (nI == 1)) && D5) && (oy.2 == 12)) && (mX.2 == 0)) && (G3 == 2)) && ((wR.length:Int) == 1))
theorem lG {n}  {r:Bool}  (h:ig n  = some r):za Try.prog 46 [] (.bool r):=by
 unfold ig at h
 refine fF Try.func46 (by kernel_rfl) rfl Try.ntmps46 rfl (fun cx cX hpre hro=>?_)
 refine SC 7 rf ?_
 refine W1 rf (bG (hz:=(⟨by kernel_rfl⟩ : cy Try.prog 77 aH))) fun b1=>?_
 obtain ⟨bn,dm,h⟩:=bz h
 refine SL 4 rf ?_
 refine au rfl (ak rfl (aY.len _ (show (ag).rep (Hs []) aH dY from aD))) ?_
 refine CB (gQ (K:=(Hs [])) (mo (show (ag).rep (Hs []) aH dY from aD)) dm) rf rf ?_
 rintro yX dP iK ⟨Gu,rfl,f26⟩
 replace f26:(ag).rep (fun w=>(Hs []) w∧Hs [.ext dP iK] w) Gu bn.1:=f26
 refine SL 4 rf ?_
 refine ST (C:=(Hs [.ext dP iK])) bn.1 (aS.id (L:=ag)) aD (mo f26) rf rf rf rf rf fun Ag f29=>?_
 obtain ⟨bN,tU,h⟩:=bz h
 refine SL 4 rf ?_
 refine au rfl (ak rfl (aY.len _ f29)) ?_
 refine CB (gQ (K:=(Hs [.ext dP iK])) (mo f29) tU) rf rf ?_
 rintro Ny jo pF ⟨K3,rfl,f35⟩
 replace f35:(ag).rep (fun w=>(Hs [.ext dP iK]) w∧Hs [.ext jo pF] w) K3 bN.1:=f35
 refine SL 4 rf ?_
 refine ST (C:=(Hs [.ext dP iK, .ext jo pF])) bN.1 (aS.id (L:=ag)) (mo f29) (mo f35) rf rf rf rf rf fun M1 f38=>?_
 obtain ⟨fM,qW,h⟩:=bz h
 refine SL 4 rf ?_
 refine au rfl (ak rfl (aY.len _ f38)) ?_
 refine CB (gQ (K:=(Hs [.ext dP iK, .ext jo pF])) (mo f38) qW) rf rf ?_
 rintro Kv jn pE ⟨MZ,rfl,f44⟩
 replace f44:(ag).rep (fun w=>(Hs [.ext dP iK, .ext jo pF]) w∧Hs [.ext jn pE] w) MZ fM.1:=f44
 refine SL 4 rf ?_
 refine ST (C:=(Hs [.ext dP iK, .ext jo pF, .ext jn pE])) fM.1 (aS.id (L:=ag)) (mo f38) (mo f44) rf rf rf rf rf fun NK f47=>?_
 obtain ⟨k8,B9,h⟩:=bz h
 refine SL 4 rf ?_
 refine au rfl (ak rfl (aY.len _ f47)) ?_
 refine CB (gQ (K:=(Hs [.ext dP iK, .ext jo pF, .ext jn pE])) (mo f47) B9) rf rf ?_
 rintro Nu kW tu ⟨MY,rfl,f53⟩
 replace f53:(ag).rep (fun w=>(Hs [.ext dP iK, .ext jo pF, .ext jn pE]) w∧Hs [.ext kW tu] w) MY k8.1:=f53
 refine SL 4 rf ?_
 refine ST (C:=(Hs [.ext dP iK, .ext jo pF, .ext jn pE, .ext kW tu])) k8.1 (aS.id (L:=ag)) (mo f47) (mo f53) rf rf rf rf rf fun K0 f56=>?_
 obtain ⟨wH,vR,h⟩:=bz h
 refine SL 4 rf ?_
 refine au rfl (ak rfl (aY.len _ f56)) ?_
 refine ef rfl (gU (gP (K:=(Hs [.ext dP iK, .ext jo pF, .ext jn pE, .ext kW tu])) (mo f56) vR) rfl) (fun ⟨Ly,GH,Lj⟩ I9=>?_)
 have f62:Fz (fun w=>(Hs [.ext dP iK, .ext jo pF, .ext jn pE, .ext kW tu]) w∧Hs [.ext GH Lj] w) Ly (LI .u32) wH:=I9
 obtain ⟨oy,IC,h⟩:=bz h
 refine SL 5 rf ?_
 refine au rfl (ak rfl (aY.len _ f56)) ?_
 refine CB (kV (K:=(Hs [.ext dP iK, .ext jo pF, .ext jn pE, .ext kW tu])) (mo f56) IC) rf rf ?_
 rintro Nq jz pH ⟨yw,rfl,f69⟩
 replace f69:(ag).rep (fun w=>(Hs [.ext dP iK, .ext jo pF, .ext jn pE, .ext kW tu]) w∧Hs [.ext jz pH] w) yw oy.1:=f69
 refine SL 3 rf ?_
 refine W1 rf (bG (hz:=(⟨by kernel_rfl⟩ : cy Try.prog 77 aH))) fun b3=>?_
 refine ST (C:=(Hs [.ext dP iK, .ext jo pF, .ext jn pE, .ext kW tu, .ext jz pH])) oy.1 (aS.id (L:=ag)) aD (mo f69) rf rf rf rf rf fun NI f72=>?_
 obtain ⟨mX,vQ,h⟩:=bz h
 refine SL 5 rf ?_
 refine au rfl (ak rfl (aY.len _ f56)) ?_
 refine CB (mN (K:=(Hs [.ext dP iK, .ext jo pF, .ext jn pE, .ext kW tu])) (mo f56) vQ) rf rf ?_
 rintro Ku s4 Br ⟨C8,rfl,f78⟩
 replace f78:(ag).rep (fun w=>(Hs [.ext dP iK, .ext jo pF, .ext jn pE, .ext kW tu]) w∧Hs [.ext s4 Br] w) C8 mX.1:=f78
 refine SL 3 rf ?_
 refine W1 rf (bG (hz:=(⟨by kernel_rfl⟩ : cy Try.prog 77 aH))) fun b5=>?_
 refine ST (C:=(Hs [.ext dP iK, .ext jo pF, .ext jn pE, .ext kW tu, .ext s4 Br])) mX.1 (aS.id (L:=ag)) aD (mo f78) rf rf rf rf rf fun KZ f81=>?_
 obtain ⟨AR,Iw,h⟩:=bz h
 obtain ⟨Bv,Iv,_,h⟩:=iU h
 obtain ⟨nI,zR,_,h⟩:=iU h
 obtain ⟨D5,Iu,_,h⟩:=iU h
 obtain ⟨G3,It,_,h⟩:=iU h
 obtain ⟨wR,B3,_,h⟩:=iU h
 refine SL 6 rf ?_
 refine ef rfl (Dt (cs:=dR (LI .i64) ([1,2,3,4]:List Int)) rfl rfl (by decide) (by decide) (by decide)) (fun K6 _=>?_)
 refine CV (sY (K:=(Hs [.cells K6 3 (dR (LI .i64) ([1,2,3,4]:List Int)), .ext dP iK, .ext jo pF, .ext jn pE, .ext kW tu, .ext GH Lj])) (f62.mono od) ((Fz.cells (b:=K6) (T:=3) (m:=4) (L:=(LI .i64)) (xs:=([1,2,3,4]:List Int)) rfl).mono od) Iw) rf rf ?_
 refine au rfl (ay rfl) ?_
 refine GB rf rf rf (fun hb=>ak rfl (aY.len _ f56)) ?_
 refine GB rf rf rf (fun hb=>c9 (ez (K:=(Hs [.ext dP iK, .ext jo pF, .ext jn pE, .ext kW tu])) (mo f56) (Iv hb)) (aL (cC rfl hb) (aL rfl rfl)) kn) ?_
 refine GB rf rf rf (fun hb=>jt (cC rfl hb) rfl) ?_
 refine au rfl (fz rfl rfl) ?_
 refine au rfl (ay rfl) ?_
 refine GB rf rf rf (fun hb=>ak rfl (aY.len _ f56)) ?_
 refine GB rf rf rf (fun hb=>c9 (dG (K:=(Hs [.ext dP iK, .ext jo pF, .ext jn pE, .ext kW tu])) (mo f56) (zR hb)) (aL (cC rfl hb) (aL rfl rfl)) kn) ?_
 refine GB rf rf rf (fun hb=>jt (cC rfl hb) rfl) ?_
 refine au rfl (fz rfl rfl) ?_
 refine au rfl (ay rfl) ?_
 refine GB rf rf rf (fun hb=>ak rfl (aY.len _ f56)) ?_
 refine GB rf rf rf (fun hb=>c9 (eO (K:=(Hs [.ext dP iK, .ext jo pF, .ext jn pE, .ext kW tu])) (mo f56) (Iu hb)) (aL (cC rfl hb) (aL rfl (aL rfl rfl))) kn) ?_
 refine au rfl (fz rfl rfl) ?_
 refine au rfl (ay rfl) ?_
 refine GB rf rf rf (fun hb=>ay rfl) ?_
 refine GB rf rf rf (fun hb=>jt (cC rfl hb) rfl) ?_
 refine au rfl (fz rfl rfl) ?_
 refine au rfl (ay rfl) ?_
 refine GB rf rf rf (fun hb=>ay rfl) ?_
 refine GB rf rf rf (fun hb=>jt (cC rfl hb) rfl) ?_
 refine au rfl (fz rfl rfl) ?_
 refine au rfl (ay rfl) ?_
 refine GB rf rf rf (fun hb=>ak rfl (aY.len _ f81)) ?_
 refine GB rf rf rf (fun hb=>c9 (dG (K:=(Hs [.ext dP iK, .ext jo pF, .ext jn pE, .ext kW tu, .ext s4 Br])) (mo f81) (It hb)) (aL (cC rfl hb) (aL rfl rfl)) kn) ?_
 refine GB rf rf rf (fun hb=>jt (cC rfl hb) rfl) ?_
 refine au rfl (fz rfl rfl) ?_
 refine au rfl (ay rfl) ?_
 refine GB rf rf rf (fun hb=>ak rfl (aY.len _ f81)) ?_
 refine wk (cF rfl rfl) rfl (fun hb=>Fn.Em (by decide) (lH (K:=(Hs [.ext dP iK, .ext jo pF, .ext jn pE, .ext kW tu, .ext s4 Br])) (mo f81) (B3 hb))) (fun hb=>(aL (cC rfl hb) (aL rfl rfl))) (fun hb=>inferInstance) (fun ⟨Lv,Ke,Ng⟩ I6=>?_)
 have f92:(((((((AR && (Bv == 3)) && (nI == 1)) && D5) && (oy.2 == 12)) && (mX.2 == 0)) && (G3 == 2)) == true) = true→Fz (fun w=>(Hs [.ext dP iK, .ext jo pF, .ext jn pE, .ext kW tu, .ext s4 Br]) w∧Hs [.ext Ke Ng] w) Lv (LI .u32) wR:=I6
 refine GB rf rf rf (fun hb=>cu (f92 hb) (cC rfl hb)) ?_
 refine GB rf rf rf (fun hb=>jt (cC rfl hb) rfl) ?_
 refine au rfl (fz rfl rfl) ?_
 refine SL 4 rf ?_
 have h:=sj h; subst h
 exact RV rf (rt rf rn) rf
structure g5 where
 Do:Int
 A:Int
 B:Int
 C:Int
 bJ:Int
abbrev bk:aY g5:=aY.via (LP (LI .u8) (LP (LI .u32) (LP (LI .u32) (LP (LI .u32) (LI .i64))))) (fun x=>(x.Do,x.A,x.B,x.C,x.bJ))
abbrev nW:g5:=⟨0,0,0,0,0⟩
instance:Inhabited g5:=⟨nW⟩
theorem pC:aS bk (LI .u8) 0 (fun x=>x.Do) (fun x v=>{ x with Do:=v }):=(aS.fst aS.id).via _ _ _ 0 rfl (fun _=>rfl) (fun _ _=>rfl)
theorem p4:aS bk (LI .u32) 1 (fun x=>x.A) (fun x v=>{ x with A:=v }):=(aS.snd (aS.fst aS.id)).via _ _ _ 1 rfl (fun _=>rfl) (fun _ _=>rfl)
theorem jK:aS bk (LI .u32) 2 (fun x=>x.B) (fun x v=>{ x with B:=v }):=(aS.snd (aS.snd (aS.fst aS.id))).via _ _ _ 2 rfl (fun _=>rfl) (fun _ _=>rfl)
theorem pZ:aS bk (LI .u32) 3 (fun x=>x.C) (fun x v=>{ x with C:=v }):=(aS.snd (aS.snd (aS.snd (aS.fst aS.id)))).via _ _ _ 3 rfl (fun _=>rfl) (fun _ _=>rfl)
theorem mV:aS bk (LI .i64) 4 (fun x=>x.bJ) (fun x v=>{ x with bJ:=v }):=(aS.snd (aS.snd (aS.snd (aS.snd aS.id)))).via _ _ _ 4 rfl (fun _=>rfl) (fun _ _=>rfl)
def gI (n:Nat) (a0:ai):Option Bool:=
 bd (dI n a0.book) fun bn =>
 cP (fun Kz (dk:Int) (dF:(List (Int × Bool))) =>
 cn (decide (dk < (bn.length:Int))) (
 gu (cV dk bn.length) <|
 bd (ct n a0 (bn.getD (Int.toNat dk) default)) fun hJ =>
 cl ((decide (6 < hJ)) == false) (ct n a0 (bn.getD (Int.toNat dk) default)) default fun iW =>
 cl ((decide (6 < hJ) || decide (iW < 1)) == false) (cS n a0 (bn.getD (Int.toNat dk) default)) default fun gF =>
 cl ((decide (6 < hJ) || decide (iW < 1)) == false) (cN n a0 gF (bn.getD (Int.toNat dk) default)) default fun fB =>
 cn (((decide (6 < hJ) || decide (iW < 1)) || (!fB))) (
 some false) (
 bd (cS n a0 (bn.getD (Int.toNat dk) default)) fun fe =>
 cn ((fe != (bn.getD (Int.toNat dk) default))) (
 Kz (wr .i64 (dk + 1)) dF) (
 bd (eM n a0 (bn.getD (Int.toNat dk) default)) fun fM =>
 cP (fun Mb (lO:Int) (j3:(List (Int × Bool))) =>
 cn (decide (lO < (fM.length:Int))) (
 gu (cV lO fM.length) <|
 gu (!((nc j3 (fM.getD (Int.toNat lO) default) false) == false) || cV lO fM.length) <|
 cl ((nc j3 (fM.getD (Int.toNat lO) default) false) == false) (cS n a0 (fM.getD (Int.toNat lO) default)) default fun Ks =>
 cn (((nc j3 (fM.getD (Int.toNat lO) default) false) || (Ks != (bn.getD (Int.toNat dk) default)))) (
 some false) (
 gu (cV lO fM.length) <|
 lt (lz j3 (fM.getD (Int.toNat lO) default) true:(List (Int × Bool))) fun lu =>
 Mb (wr .i64 (lO + 1)) lu)) (
 Kz (wr .i64 (dk + 1)) j3)) n 0 dF))) (
 some ((dF.length:Int) == (bn.length:Int)))) n 0 ([]:List (Int × Bool))
theorem pR {n a0 r K} [bL K] {ep} (f0:(ag).rep K ep a0) (h:gI n a0 = some r):wE Try.prog 64 [A ep] K (.bool r):=by
 unfold gI at h
 refine fo Try.func64 (by kernel_rfl) rfl Try.ntmps64 rfl fun cx _ hro cX hpre=>?_
 refine SC 2 rf ?_
 refine W1 rf (cO rfl) fun b1=>?_
 obtain ⟨bn,dm,h⟩:=bz h
 refine SL 6 rf ?_
 refine au rfl (bg rfl (aP.iff.1 (aB.get f0)) (bw _ _)) ?_
 refine ef rfl (fI (gh dm) rfl (fun _ _ _=>trivial)) (fun G6 vW=>?_)
 dsimp only [List.cons_append,List.nil_append]
 refine SL 5 rf ?_
 refine ef rfl (uP .u32 Value.bool) (fun Hr _=>?_)
 refine SL 10 rf ?_
 obtain ⟨Ic,FF,h⟩:=nQ h
 refine LO (β:=Int × (List (Int × Bool))) [1,3,4] [0,1,2] (fun (EI,dk,dF)=>[(5, .int .i64 dk)]) (fun (EI,dk,dF)=>[Mp Hr .u32 Value.bool dF,Row G6 69 1 (LI .u32) bn, .cells b1 77 ep]) (fun (EI,dk,dF)=>cP Ic EI dk dF = some r) (n,0,([]:List (Int × Bool))) h rf rf rf ?_
 rintro EI ⟨dk,dF⟩ h
 replace h:=nP FF h; obtain ⟨EI,rfl,h⟩:=h
 refine SC 5 rf ?_
 refine au rfl (cu (Fz.row (e:=69) (sz:=1) (L:=(LI .u32)) (xs:=bn) rfl vW) rfl) ?_
 refine SL 3 rf ?_
 refine fL h rf (fun hc h=>?_) fun hc h=>?_
 ·
  obtain ⟨uf,h⟩:=dZ h
  refine SC 8 rf ?_
  refine au rfl (eD (m:=(Int.toNat dk)) (Fz.row (e:=69) (sz:=1) (L:=(LI .u32)) (xs:=bn) rfl vW) rfl rfl rfl (aE uf).1 (aE uf).2) ?_
  refine au rfl (fj (Fz.row (e:=69) (sz:=1) (L:=(LI .u32)) (xs:=bn) rfl vW) (aS.idx (L:=(LI .u32)) (m:=(bn.length)) (k:=1) ((Int.toNat dk)) (aE uf).2 rfl) rfl) ?_
  refine SL 5 rf ?_
  obtain ⟨hJ,oS,h⟩:=bz h
  obtain ⟨iW,qX,_,h⟩:=iU h
  obtain ⟨gF,ke,_,h⟩:=iU h
  obtain ⟨fB,mD,_,h⟩:=iU h
  refine eV mixed (.fin [] [(0,[1]),(1,[6]),(2,[23,24]),(3,[25]),(4,[26]),(5,[1,27]),(6,[6,27]),(7,[27,28,29]),(8,[27,30]),(9,[27,31]),(10,[32]),(11,[1,33]),(12,[1,33]),(13,[6,33]),(14,[33,35,36]),(15,[6,33]),(16,[33,34,37,38]),(17,[33,39]),(18,[33,40])]) (by kernel_rfl) ?_
  refine F0 ?_
  refine NV rf rf (ak rfl (aY.len _ f0)) ?_
  refine NS 1 rf ?_
  refine NC rf rf (ez (K:=K) (mo f0) oS) rf ?_
  refine NS 2 rf ?_
  refine NG rf rf (cF rfl rfl) (fun hb=>ak rfl (aY.len _ f0)) ?_
  refine NG rf rf (cF rfl rfl) (fun hb=>ay rfl) ?_
  refine NG rf rf (cF rfl rfl) (fun hb=>c9 (ez (K:=K) (mo f0) (qX hb)) (aL (cC rfl hb) (aL (cC rfl hb) rfl)) kn) ?_
  refine NG rf rf (cF rfl rfl) (fun hb=>yK (cC rfl hb) rfl) ?_
  refine NV rf rf (gl rfl rfl) ?_
  refine NS 1 rf ?_
  refine NG rf rf (cF rfl rfl) (fun hb=>ak rfl (aY.len _ f0)) ?_
  refine NG rf rf (cF rfl rfl) (fun hb=>ak rfl (aY.len _ f0)) ?_
  refine NG rf rf (cF rfl rfl) (fun hb=>ay rfl) ?_
  refine NG rf rf (cF rfl rfl) (fun hb=>c9 (dG (K:=K) (mo f0) (ke hb)) (aL (cC rfl hb) (aL (cC rfl hb) rfl)) kn) ?_
  refine NG rf rf (cF rfl rfl) (fun hb=>ay rfl) ?_
  refine NG rf rf (cF rfl rfl) (fun hb=>c9 (eO (K:=K) (mo f0) (mD hb)) (aL (cC rfl hb) (aL (cC rfl hb) (aL (cC rfl hb) rfl))) kn) ?_
  refine NG rf rf (cF rfl rfl) (fun hb=>jI (cC rfl hb)) ?_
  refine NV rf rf (gl rfl rfl) ?_
  refine cT ?_
  refine gA ?_
  refine fL h rf (fun hc h=>?_) fun hc h=>?_
  ·
   refine SC 12 rf ?_
   have h:=sj h; subst h
   exact RV rf (rt rf rn) rf
  ·
   obtain ⟨fe,sH,h⟩:=bz h
   refine SC 5 rf ?_
   refine au rfl (ak rfl (aY.len _ f0)) ?_
   refine au rfl (ay rfl) ?_
   refine CV (dG (K:=K) (mo f0) sH) rf rf ?_
   refine SL 4 rf ?_
   refine fL h rf (fun hc h=>?_) fun hc h=>?_
   ·
    refine SC 9 rf ?_
    exact LN [0,1,2] (wr .i64 (dk + 1),dF) h rf rf rf
   ·
    obtain ⟨fM,qW,h⟩:=bz h
    refine SC 4 rf ?_
    refine au rfl (ak rfl (aY.len _ f0)) ?_
    refine au rfl (ay rfl) ?_
    refine ef rfl (gU (gP (K:=K) (mo f0) qW) rfl) (fun ⟨Kv,jn,pE⟩ Jb=>?_)
    have f44:Fz (fun w=>K w∧Hs [.ext jn pE] w) Kv (LI .u32) fM:=Jb
    refine SL 9 rf ?_
    obtain ⟨HZ,Fw,h⟩:=nQ h
    refine LO (β:=Int × (List (Int × Bool))) [1,3,4,5,6,7] [0,1,2,3] (fun (EB,lO,j3)=>[(8, .int .i64 lO)]) (fun (EB,lO,j3)=>[.ext jn pE,Mp Hr .u32 Value.bool j3,Row G6 69 1 (LI .u32) bn, .cells b1 77 ep]) (fun (EB,lO,j3)=>cP HZ EB lO j3 = some r) (n,0,dF) h rf rf rf ?_
    rintro EB ⟨lO,j3⟩ h
    replace h:=nP Fw h; obtain ⟨EB,rfl,h⟩:=h
    refine SC 5 rf ?_
    refine au rfl (cu f44 rfl) ?_
    refine SL 3 rf ?_
    refine fL h rf (fun hc h=>?_) fun hc h=>?_
    ·
     refine SC 6 rf ?_
     obtain ⟨x4,h⟩:=dZ h
     obtain ⟨Cp,h⟩:=dZ h
     obtain ⟨Ks,IF,_,h⟩:=iU h
     refine eV mixed (.fin [] [(0,[4]),(1,[7]),(2,[8]),(3,[57,58]),(4,[59]),(5,[56,60]),(6,[61]),(7,[1,62]),(8,[7,62]),(9,[8,62]),(10,[62,64,65]),(11,[62,66]),(12,[62,63,67]),(13,[6,62]),(14,[62,68,69]),(15,[62,70])]) (by kernel_rfl) ?_
     refine F0 ?_
     refine NS 3 rf ?_
     refine NV rf rf (eD (m:=(Int.toNat lO)) f44 rfl rfl rfl (aE x4).1 (aE x4).2) ?_
     refine NV rf rf (fj f44 (aS.idx (L:=(LI .u32)) (m:=(fM.length)) (k:=1) ((Int.toNat lO)) (aE x4).2 rfl) rfl) ?_
     refine NV rf rf (wm false rfl rfl) ?_
     refine NS 1 rf ?_
     refine NG rf rf (cF rfl rfl) (fun hb=>ak rfl (aY.len _ f0)) ?_
     refine NG rf rf (cF rfl rfl) (fun hb=>ay rfl) ?_
     refine NG rf rf (cF rfl rfl) (fun hb=>ay rfl) ?_
     refine NG rf rf (cF rfl rfl) (fun hb=>eD (m:=(Int.toNat lO)) f44 rfl (cC rfl hb) (cC rfl hb) (aE (kz Cp hb)).1 (aE (kz Cp hb)).2) ?_
     refine NG rf rf (cF rfl rfl) (fun hb=>fj f44 (aS.idx (L:=(LI .u32)) (m:=(fM.length)) (k:=1) ((Int.toNat lO)) (aE (kz Cp hb)).2 rfl) (cC rfl hb)) ?_
     refine NG rf rf (cF rfl rfl) (fun hb=>c9 (dG (K:=K) (mo f0) (IF hb)) (aL (cC rfl hb) (aL (cC rfl hb) rfl)) kn) ?_
     refine NG rf rf (cF rfl rfl) (fun hb=>ay rfl) ?_
     refine NG rf rf (cF rfl rfl) (fun hb=>l9 (cC rfl hb) (cC rfl hb)) ?_
     refine NV rf rf (gl rfl rfl) ?_
     refine cT ?_
     refine gA ?_
     refine fL h rf (fun hc h=>?_) fun hc h=>?_
     ·
      refine SC 16 rf ?_
      have h:=sj h; subst h
      exact RV rf (rt rf rn) rf
     ·
      obtain ⟨Co,h⟩:=dZ h
      obtain ⟨lu,IE,h⟩:=cW h
      refine SC 6 rf ?_
      refine au rfl (eD (m:=(Int.toNat lO)) f44 rfl rfl rfl (aE Co).1 (aE Co).2) ?_
      refine au rfl (fj f44 (aS.idx (L:=(LI .u32)) (m:=(fM.length)) (k:=1) ((Int.toNat lO)) (aE Co).2 rfl) rfl) ?_
      refine vk (rS true rfl rfl rfl rfl) (fun _ _=>?_)
      rw [← IE]
      refine SL 8 rf ?_
      exact LN [0,1,2,3] (wr .i64 (lO + 1),lu) h rf rf rf
    ·
     refine SC 11 rf ?_
     exact LN [1,2,3] (wr .i64 (dk + 1),j3) h rf rf rf
 ·
  refine SC 8 rf ?_
  refine au rfl (Aw rfl) ?_
  refine au rfl (ay rfl) ?_
  refine au rfl (cu (Fz.row (e:=69) (sz:=1) (L:=(LI .u32)) (xs:=bn) rfl vW) rfl) ?_
  refine SL 5 rf ?_
  have h:=sj h; subst h
  exact RV rf (rt rf rn) rf
def fE (n:Nat) (a0:(List g5)):Option Bool:=
 cn (decide (100 < (a0.length:Int))) (
 bd (ig n ) fun bn =>
 some bn) (
 cP (fun A6 (fC:Int) (eC:ai) =>
 cn (decide (fC < (a0.length:Int))) (
 gu (cV fC a0.length) <|
 lt ((a0.getD (Int.toNat fC) default):g5) fun fM =>
 bd (eM n eC fM.A) fun iP =>
 lt (fun (tw:ai) =>
 bd (gI n tw) fun ze =>
 cn ((!ze)) (
 some false) (
 A6 (wr .i64 (fC + 1)) tw)) fun zN =>
 cn ((fM.Do == 0)) (
 bd (iq n eC fM.A) fun iZ =>
 bd (aJ n eC.book.gV fM.A) fun DI =>
 cl ((((iZ.2.2 == 0) != DI) || ((iZ.2.1.length:Int) != (iP.length:Int))) == false) (dI n iZ.1.book) default fun wT =>
 cl ((((iZ.2.2 == 0) != DI) || ((iZ.2.1.length:Int) != (iP.length:Int))) == false) (dI n eC.book) default fun mX =>
 cn (((((iZ.2.2 == 0) != DI) || ((iZ.2.1.length:Int) != (iP.length:Int))) || ((wT.length:Int) != (wr .i64 ((mX.length:Int) - (iP.length:Int)))))) (
 some false) (
 zN iZ.1)) (
 cn ((fM.Do == 1)) (
 bd (g6 n eC fM.A) fun tB =>
 dz (fun Ma (mh:Int) =>
 cn (decide (mh < (iP.length:Int))) (
 gu (cV mh iP.length) <|
 bd (bX n tB.1 (iP.getD (Int.toNat mh) default)) fun uT =>
 gu (!((uT.2 != 0) == false) || cV mh iP.length) <|
 cl ((uT.2 != 0) == false) (cS n tB.1 (iP.getD (Int.toNat mh) default)) default fun Eb =>
 cn (((uT.2 != 0) || (Eb != fM.A))) (
 some false) (
 dz (fun Ik (lP:Int) =>
 cn (decide (lP < 8)) (
 gu (cV lP 8) <|
 cl (((uT.1.Cells (Int.toNat lP)) != fM.A) == true) (cN n eC (uT.1.Cells (Int.toNat lP)) fM.A) default fun Ea =>
 cn ((((uT.1.Cells (Int.toNat lP)) != fM.A) && Ea)) (
 some false) (
 Ik (wr .i64 (lP + 1)))) (
 Ma (wr .i64 (mh + 1)))) n 0)) (
 zN tB.1)) n 0) (
 cn ((fM.Do == 2)) (
 bd (ga n eC fM.A fM.B) fun pK =>
 cl ((pK.2 == 0) == true) (cS n pK.1 fM.A) default fun D9 =>
 cl ((pK.2 == 0) == true) (cS n eC fM.B) default fun D8 =>
 cn (((pK.2 == 0) && (D9 != D8))) (
 some false) (
 zN pK.1)) (
 cn ((fM.Do == 3)) (
 bd (bX n eC fM.A) fun vx =>
 gu (cV (Int.tmod fM.B 8) 8) <|
 lt ({ vx.1 with Cells:=(dx vx.1.Cells (Int.toNat (Int.tmod fM.B 8)) fM.C) }:aX) fun Bx =>
 cn ((vx.2 == 0)) (
 bd (cK n eC fM.A Bx) fun wW =>
 zN wW.1) (
 zN eC)) (
 bd (fg n eC fM.A fM.bJ) fun wV =>
 zN wV.1))))) (
 bd (ig n ) fun D7 =>
 some D7)) n 0 dY)
theorem lB {n a0 r K} [bL K] {v0} (f0:Fz K v0 bk a0) (h:fE n a0 = some r):wE Try.prog 9 [v0] K (.bool r):=by
 unfold fE at h
 refine fo Try.func9 (by kernel_rfl) rfl Try.ntmps9 rfl fun cx _ hro cX hpre=>?_
 refine SC 9 rf ?_
 refine au rfl (cu f0 rfl) ?_
 refine SL 3 rf ?_
 refine fL h rf (fun hc h=>?_) fun hc h=>?_
 ·
  obtain ⟨bn,dm,h⟩:=bz h
  refine SC 2 rf ?_
  refine CV (lG dm) rf rf ?_
  refine SL 5 rf ?_
  have h:=sj h; subst h
  exact RV rf (rt rf rn) rf
 ·
  refine SC 4 rf ?_
  refine W1 rf (bG (hz:=(⟨by kernel_rfl⟩ : cy Try.prog 77 aH))) fun b3=>?_
  refine SL 9 rf ?_
  obtain ⟨BS,xU,h⟩:=nQ h
  refine mR ?_
  refine LO (β:=Int × ai × (List Value) × (List Nat) × (World→Prop)) [0,3] [0,1] (fun (xD,fC,eC,Af,dw,gX)=>[(4, .int .i64 fC)]) (fun (xD,fC,eC,Af,dw,gX)=>[.ext dw gX, .cells b3 77 Af]) (fun (xD,fC,eC,Af,dw,gX)=>(ag).rep (Hs [.ext dw gX]) Af eC∧cP BS xD fC eC = some r) (n,0,dY,aH,[],(Hs [])) ⟨(aY.mono _ od (show (ag).rep (Hs []) aH dY from aD)),h⟩ rf rf rf ?_
  rintro xD ⟨fC,eC,Af,dw,gX⟩ ⟨f34,h⟩
  replace h:=nP xU h; obtain ⟨xD,rfl,h⟩:=h
  refine SC 5 rf ?_
  refine au rfl (cu f0 rfl) ?_
  refine SL 3 rf ?_
  refine fL h rf (fun hc h=>?_) fun hc h=>?_
  ·
   obtain ⟨ud,h⟩:=dZ h
   obtain ⟨fM,qW,h⟩:=cW h
   refine SC 8 rf ?_
   refine au rfl (eD (m:=(Int.toNat fC)) f0 rfl rfl rfl (aE ud).1 (aE ud).2) ?_
   refine au rfl (oq (M:=bk) f0 (aS.idx (L:=bk) (m:=(a0.length)) (k:=5) ((Int.toNat fC)) (aE ud).2 rfl) rfl rfl (by decide)) ?_
   refine W1 rf (cJ (L:=bk) (z:=nW) ⟨by kernel_rfl⟩) fun b5=>?_
   refine W0 (dA (M:=bk) (aS.id (L:=bk)) (a0.getD (Int.toNat fC) default) fM qW rfl rfl rfl rfl) ?_
   refine SL 5 rf ?_
   refine au rfl (bt p4 rfl) ?_
   obtain ⟨iP,vS,h⟩:=bz h
   refine SL 5 rf ?_
   refine au rfl (ak rfl (aY.len _ f34)) ?_
   refine au rfl (ay rfl) ?_
   refine ef rfl (gU (gP (K:=(Hs [.ext dw gX])) (mo f34) vS) rfl) (fun ⟨Lz,n6,wQ⟩ Ja=>?_)
   have f45:Fz (fun w=>(Hs [.ext dw gX]) w∧Hs [.ext n6 wQ] w) Lz (LI .u32) iP:=Ja
   refine SL 5 rf ?_
   refine au rfl (ak rfl (aY.len _ f34)) ?_
   refine W1 rf (bG (hz:=(⟨by kernel_rfl⟩ : cy Try.prog 77 aH))) fun b8=>?_
   refine ST (C:=(Hs [.ext dw gX])) eC (aS.id (L:=ag)) aD (mo f34) rf rf rf rf rf fun wh f48=>?_
   refine SL 2 rf ?_
   obtain ⟨zN,Jn,h⟩:=cW h
   refine CU (α:=ai × (List Value) × (List Nat) × (World→Prop)) [0,3,4] rf (fun (tw,uE,rE,AN)=>[]) (fun (tw,uE,rE,AN)=>[.ext rE AN, .cells b8 77 wh, .ext n6 wQ, .cells b5 114 (bk.enc fM), .ext dw gX, .cells b3 77 uE]) (fun (tw,uE,rE,AN)=>(ag).rep (Hs [.ext dw gX, .ext rE AN]) uE tw∧zN tw = some r) ?_ ?_
   ·
    refine SC 3 rf ?_
    refine au rfl (bt pC rfl) ?_
    refine SL 9 rf ?_
    refine fL h rf (fun hc h=>?_) fun hc h=>?_
    ·
     obtain ⟨iZ,B7,h⟩:=bz h
     refine SC 2 rf ?_
     refine au rfl (ak rfl (aY.len _ f34)) ?_
     refine au rfl (ay rfl) ?_
     refine CB (pT (K:=(Hs [.ext dw gX])) (mo f34) B7) rf rf ?_
     rintro Nr uG DC ⟨MW,LJ,rfl,f60,f62⟩
     replace f60:(ag).rep (fun w=>(Hs [.ext dw gX]) w∧Hs [.ext uG DC] w) MW iZ.1:=f60
     replace f62:Fz (fun w=>(Hs [.ext dw gX]) w∧Hs [.ext uG DC] w) LJ (LI .u32) iZ.2.1:=f62
     refine SL 4 rf ?_
     refine W1 rf (bG (hz:=(⟨by kernel_rfl⟩ : cy Try.prog 77 aH))) fun b9=>?_
     refine ST (C:=(Hs [.ext dw gX, .ext uG DC])) iZ.1 (aS.id (L:=ag)) aD (mo f60) rf rf rf rf rf fun MV f65=>?_
     refine SL 6 rf ?_
     obtain ⟨DI,IB,h⟩:=bz h
     obtain ⟨wT,IA,_,h⟩:=iU h
     obtain ⟨mX,vQ,_,h⟩:=iU h
     refine eV mixed (.mm [] [(0,[11]),(1,[61]),(2,[3]),(3,[63]),(4,[64]),(5,[6]),(6,[65,66]),(7,[62,67]),(8,[68]),(9,[10,69]),(10,[69,70]),(11,[7,69]),(12,[69,72]),(13,[69,71,73]),(14,[69,74]),(15,[75]),(16,[9,76]),(17,[76,77]),(20,[3,76]),(21,[76,81]),(24,[7,76]),(25,[76,85])] (.alt 18 [76,78] (.mm [(20,[3,76]),(21,[76,81]),(24,[7,76]),(25,[76,85])] [(19,[76,79])] (.alt 22 [76,82] (.fin [(24,[7,76]),(25,[76,85]),(19,[76,79])] [(23,[76,83]),(26,[76,84,86]),(27,[76,80,87]),(28,[76,88])]) .no)) .no)) (by kernel_rfl) ?_
     refine T0 ?_
     refine NS 4 rf ?_
     refine NV rf rf (bg rfl (aP.iff.1 ((aB.c0 aK).get f34)) (bw _ _)) ?_
     refine NS 1 rf ?_
     refine NC rf rf (aT IB) rf ?_
     refine NV rf rf (Av rfl rfl) ?_
     refine NS 1 rf ?_
     refine NG rf rf (cF rfl rfl) (fun hb=>ay rfl) ?_
     refine NG rf rf (cF rfl rfl) (fun hb=>cu f62 (cC rfl hb)) ?_
     refine NG rf rf (cF rfl rfl) (fun hb=>ay rfl) ?_
     refine NG rf rf (cF rfl rfl) (fun hb=>cu f45 (cC rfl hb)) ?_
     refine NG rf rf (cF rfl rfl) (fun hb=>l9 (cC rfl hb) (cC rfl hb)) ?_
     refine NV rf rf (gl rfl rfl) ?_
     refine NS 1 rf ?_
     refine NG rf rf (cF rfl rfl) (fun hb=>aW rfl) ?_
     refine NG rf rf (cF rfl rfl) (fun hb=>bg (cC rfl hb) (aP.iff.1 (aB.get f65)) (bw _ _)) ?_
     refine NG rf rf (cF rfl rfl) (fun hb=>aW rfl) ?_
     refine NG rf rf (cF rfl rfl) (fun hb=>bg (cC rfl hb) (aP.iff.1 (aB.get f34)) (bw _ _)) ?_
     refine NG rf rf (cF rfl rfl) (fun hb=>ay rfl) ?_
     refine NG rf rf (cF rfl rfl) (fun hb=>cu f45 (cC rfl hb)) ?_
     refine cT ?_
     refine kY rfl rfl (tp (cF rfl rfl) (fun hb=>Fn.En (by decide) (gh (IA hb))) (fun hb=>(aL (cC rfl hb) rfl)) (fun hb=>inferInstance)) (fun ⟨Lx,GF,Li⟩ I8=>?_) uL
     have f72:((((iZ.2.2 == 0) != DI) || ((iZ.2.1.length:Int) != (iP.length:Int))) == false) = true→Fz (Hs [.ext GF Li]) Lx (LI .u32) wT:=I8
     refine lp ?_ ?_
     ·
      refine gj rfl rfl (tg (cF rfl rfl) (fun hb=>aW rfl)) ?_
      refine gj rfl rfl (tg (cF rfl rfl) (fun hb=>nE (bg (cC rfl hb) (aP.iff.1 (aB.get f34)) (bw _ _)) rfl)) ?_
      refine gj rfl rfl (tg (cF rfl rfl) (fun hb=>ay rfl)) ?_
      refine gj rfl rfl (tg (cF rfl rfl) (fun hb=>nE (cu f45 (cC rfl hb)) rfl)) ?_
      exact pz
     refine NG rf rf (cF rfl rfl) (fun hb=>cu (f72 hb) (cC rfl hb)) ?_
     refine cT ?_
     refine kY rfl rfl (tp (cF rfl rfl) (fun hb=>Fn.En (by decide) (gh (vQ hb))) (fun hb=>(aL (cC rfl hb) rfl)) (fun hb=>inferInstance)) (fun ⟨Ku,s4,Br⟩ I7=>?_) uL
     have f78:((((iZ.2.2 == 0) != DI) || ((iZ.2.1.length:Int) != (iP.length:Int))) == false) = true→Fz (Hs [.ext s4 Br]) Ku (LI .u32) mX:=I7
     refine AG ?_ ?_
     ·
      refine gj rfl rfl (tg (cF rfl rfl) (fun hb=>ay rfl)) ?_
      refine gj rfl rfl (tg (cF rfl rfl) (fun hb=>nE (cu f45 (cC rfl hb)) rfl)) ?_
      refine gj rfl rfl (tg (cF rfl rfl) (fun hb=>nE (cu (f72 hb) (cC rfl hb)) rfl)) ?_
      exact pz
     refine NG rf rf (cF rfl rfl) (fun hb=>cu (f78 hb) (cC rfl hb)) ?_
     refine NG rf rf (cF rfl rfl) (fun hb=>po (cC rfl hb) (cC rfl hb) rfl) ?_
     refine NG rf rf (cF rfl rfl) (fun hb=>l9 (cC rfl hb) (cC rfl hb)) ?_
     refine NV rf rf (gl rfl rfl) ?_
     refine cT ?_
     refine gA ?_
     refine fL h rf (fun hc h=>?_) fun hc h=>?_
     ·
      refine SC 14 rf ?_
      have h:=sj h; subst h
      exact RV rf (rt rf rn) rf
     ·
      refine SC 3 rf ?_
      refine au rfl (ak rfl (aY.len _ f65)) ?_
      refine ST (C:=(Hs [.ext dw gX, .ext uG DC])) iZ.1 (aS.id (L:=ag)) (mo f34) (mo f65) rf rf rf rf rf fun C8 f80=>?_
      refine SL 2 rf ?_
      refine bV (R:=[.ext uG DC]) (H':=[.ext s4 Br, .ext GF Li, .cells b9 77 MV, .cells b8 77 wh, .ext n6 wQ, .cells b5 114 (bk.enc fM), .ext dw gX, .cells b3 77 C8]) (ks:=[3,0,1,2,4,5,6,7,8]) rfl (by decide) ?_
      exact CE [0,4,5,6,7,8] (iZ.1,C8,(br [.ext uG DC]),(Hs [.ext uG DC])) ⟨(mo f80),h⟩ rf rf rf
    ·
     refine SC 6 rf ?_
     refine fL h rf (fun hc h=>?_) fun hc h=>?_
     ·
      obtain ⟨tB,B4,h⟩:=bz h
      refine SC 2 rf ?_
      refine au rfl (ak rfl (aY.len _ f34)) ?_
      refine au rfl (ay rfl) ?_
      refine CB (mN (K:=(Hs [.ext dw gX])) (mo f34) B4) rf rf ?_
      rintro Lw jm pD ⟨J4,rfl,f86⟩
      replace f86:(ag).rep (fun w=>(Hs [.ext dw gX]) w∧Hs [.ext jm pD] w) J4 tB.1:=f86
      refine SL 3 rf ?_
      refine ST (C:=(Hs [.ext dw gX, .ext jm pD])) tB.1 (aS.id (L:=ag)) (mo f34) (mo f86) rf rf rf rf rf fun y5 f89=>?_
      refine SL 8 rf ?_
      obtain ⟨HX,Fu,h⟩:=mB h
      refine LO (β:=Int) [0,3,4,6,7,8] [0,1,2,3,4,5] (fun (Ez,mh)=>[(12, .int .i64 mh)]) (fun (Ez,mh)=>[.ext jm pD, .cells b8 77 wh, .ext n6 wQ, .cells b5 114 (bk.enc fM), .ext dw gX, .cells b3 77 y5]) (fun (Ez,mh)=>dz HX Ez mh = some r) (n,0) h rf rf rf ?_
      rintro Ez mh h
      replace h:=mA Fu h; obtain ⟨Ez,rfl,h⟩:=h
      refine SC 5 rf ?_
      refine au rfl (cu f45 rfl) ?_
      refine SL 3 rf ?_
      refine fL h rf (fun hc h=>?_) fun hc h=>?_
      ·
       refine SC 4 rf ?_
       obtain ⟨vZ,h⟩:=dZ h
       obtain ⟨uT,EY,h⟩:=bz h
       refine CU (α:=(List Value) × (List Nat) × (World→Prop) × Nat × (List Value)) [0,3,4,6,7,8,12] rf (fun (pV,l8,uR,y6,pU)=>[(13,Ptr y6 0),(14, .int .i64 uT.2)]) (fun (pV,l8,uR,y6,pU)=>[.cells y6 74 pU, .ext l8 uR, .ext jm pD, .cells b8 77 wh, .ext n6 wQ, .cells b5 114 (bk.enc fM), .ext dw gX, .cells b3 77 y5]) (fun (pV,l8,uR,y6,pU)=>(az).rep (fun w=>(Hs [.ext dw gX, .ext jm pD]) w∧Hs [.ext l8 uR] w) pV uT.1∧(az).rep (Hs [.ext dw gX, .ext jm pD, .ext l8 uR]) pU uT.1) ?_ ?_
       ·
        refine eV mixed (.mm [] [(0,[3]),(1,[7]),(2,[12]),(3,[107,108]),(4,[109])] (.alt 5 [106,110] (.mm [] [(6,[111]),(7,[105]),(8,[105])] (.alt 9 [] (.mm [(6,[111]),(7,[105]),(8,[105])] [] (.alt 10 [13,112] (.mm [(8,[105])] [] (.alt 11 [113] (.fin [] []) .no)) .no)) .no)) (.alt 9 [] (.mm [(0,[3]),(1,[7]),(2,[12]),(3,[107,108]),(4,[109])] [] (.alt 5 [106,110] (.mm [] [(6,[111]),(7,[105]),(8,[105])] (.alt 10 [13,112] (.mm [(8,[105])] [] (.alt 11 [113] (.fin [] []) .no)) .no)) .no)) .no))) (by kernel_rfl) ?_
        refine T0 ?_
        refine NV rf rf (ak rfl (aY.len _ f89)) ?_
        refine NS 2 rf ?_
        refine NV rf rf (eD (m:=(Int.toNat mh)) f45 rfl rfl rfl (aE vZ).1 (aE vZ).2) ?_
        refine NV rf rf (fj f45 (aS.idx (L:=(LI .u32)) (m:=(iP.length)) (k:=1) ((Int.toNat mh)) (aE vZ).2 rfl) rfl) ?_
        refine cT ?_
        refine X2 rf rf (gU (dO (K:=(Hs [.ext dw gX, .ext jm pD])) (mo f89) EY) rfl) (fun ⟨Lu,l8,uR⟩ xR=>?_) ?_
        ·
         obtain ⟨pV,rfl,f101⟩:=xR
         replace f101:(az).rep (fun w=>(Hs [.ext dw gX, .ext jm pD]) w∧Hs [.ext l8 uR] w) pV uT.1:=f101
         refine T0 ?_
         refine NE 3 rf ?_
         refine X1 rf rf (bG (hz:=(⟨by kernel_rfl⟩ : cy Try.prog 74 cB))) fun y6 _=>?_
         refine lp ?_ ?_
         ·
          exact RE 3 rf rf
         refine cT ?_
         obtain ⟨pU,yb,f104⟩:=HK (C:=(Hs [.ext dw gX, .ext jm pD, .ext l8 uR])) (x':=uT.1) (aS.id (L:=az)) cA (mo f101) rf
         refine X0 rf (Kj yb rf rf rf rf) ?_
         refine lp ?_ ?_
         ·
          exact RE 1 rf rf
         refine cT ?_
         refine XV rf rf (ei rfl) ?_
         refine yV ?_
         exact CE [0,1,2,3,4,5,6,7] (pV,l8,uR,y6,pU) ⟨f101,f104⟩ rf rf rf
        refine X2 rf rf (bG (hz:=(⟨by kernel_rfl⟩ : cy Try.prog 74 cB))) (fun y6 _=>?_) ?_
        ·
         refine lp ?_ ?_
         ·
          refine RO rf rf (ak rfl (aY.len _ f89)) rf ?_
          refine Lb 2 rf rf ?_
          refine RO rf rf (eD (m:=(Int.toNat mh)) f45 rfl rfl rfl (aE vZ).1 (aE vZ).2) rf ?_
          refine RO rf rf (fj f45 (aS.idx (L:=(LI .u32)) (m:=(iP.length)) (k:=1) ((Int.toNat mh)) (aE vZ).2 rfl) rfl) rf ?_
          exact pz
         refine cT ?_
         refine X1 rf rf (gU (dO (K:=(Hs [.ext dw gX, .ext jm pD])) (mo f89) EY) rfl) fun ⟨Lu,l8,uR⟩ xR=>?_
         obtain ⟨pV,rfl,f101⟩:=xR
         replace f101:(az).rep (fun w=>(Hs [.ext dw gX, .ext jm pD]) w∧Hs [.ext l8 uR] w) pV uT.1:=f101
         refine T0 ?_
         refine NE 3 rf ?_
         obtain ⟨pU,yb,f104⟩:=HK (C:=(Hs [.ext dw gX, .ext jm pD, .ext l8 uR])) (x':=uT.1) (aS.id (L:=az)) cA (mo f101) rf
         refine X0 rf (Kj yb rf rf rf rf) ?_
         refine lp ?_ ?_
         ·
          exact RE 1 rf rf
         refine cT ?_
         refine XV rf rf (ei rfl) ?_
         refine yV ?_
         exact CE [1,0,2,3,4,5,6,7] (pV,l8,uR,y6,pU) ⟨f101,f104⟩ rf rf rf
        exact uL
       ·
        rintro ⟨pV,l8,uR,y6,pU⟩ ⟨f101,f104⟩
        refine SC 2 rf ?_
        obtain ⟨x8,h⟩:=dZ h
        obtain ⟨Eb,Fc,_,h⟩:=iU h
        refine eV mixed (.fin [] [(0,[14]),(1,[114]),(2,[115]),(3,[3,116]),(4,[7,116]),(5,[12,116]),(6,[116,118,119]),(7,[116,120]),(8,[116,117,121]),(9,[6,116]),(10,[116,122,123]),(11,[116,124])]) (by kernel_rfl) ?_
        refine F0 ?_
        refine NS 3 rf ?_
        refine NG rf rf (cF rfl rfl) (fun hb=>ak rfl (aY.len _ f89)) ?_
        refine NG rf rf (cF rfl rfl) (fun hb=>ay rfl) ?_
        refine NG rf rf (cF rfl rfl) (fun hb=>ay rfl) ?_
        refine NG rf rf (cF rfl rfl) (fun hb=>eD (m:=(Int.toNat mh)) f45 rfl (cC rfl hb) (cC rfl hb) (aE (kz x8 hb)).1 (aE (kz x8 hb)).2) ?_
        refine NG rf rf (cF rfl rfl) (fun hb=>fj f45 (aS.idx (L:=(LI .u32)) (m:=(iP.length)) (k:=1) ((Int.toNat mh)) (aE (kz x8 hb)).2 rfl) (cC rfl hb)) ?_
        refine NG rf rf (cF rfl rfl) (fun hb=>c9 (dG (K:=(Hs [.ext dw gX, .ext jm pD])) (mo f89) (Fc hb)) (aL (cC rfl hb) (aL (cC rfl hb) rfl)) kn) ?_
        refine NG rf rf (cF rfl rfl) (fun hb=>ay rfl) ?_
        refine NG rf rf (cF rfl rfl) (fun hb=>l9 (cC rfl hb) (cC rfl hb)) ?_
        refine NV rf rf (gl rfl rfl) ?_
        refine cT ?_
        refine gA ?_
        refine fL h rf (fun hc h=>?_) fun hc h=>?_
        ·
         refine SC 18 rf ?_
         have h:=sj h; subst h
         exact RV rf (rt rf rn) rf
        ·
         refine SC 8 rf ?_
         obtain ⟨EK,Ci,h⟩:=mB h
         refine LO (β:=Int) [0,3,4,6,7,8,12,13] [0,1,2,3,4,5,6,7] (fun (xE,lP)=>[(15, .int .i64 lP)]) (fun (xE,lP)=>[.cells y6 74 pU, .ext l8 uR, .ext jm pD, .cells b8 77 wh, .ext n6 wQ, .cells b5 114 (bk.enc fM), .ext dw gX, .cells b3 77 y5]) (fun (xE,lP)=>dz EK xE lP = some r) (n,0) h rf rf rf ?_
         rintro xE lP h
         replace h:=mA Ci h; obtain ⟨xE,rfl,h⟩:=h
         refine SC 7 rf ?_
         refine fL h rf (fun hc h=>?_) fun hc h=>?_
         ·
          obtain ⟨x7,h⟩:=dZ h
          refine SC 8 rf ?_
          refine au rfl (gp (m:=(Int.toNat lP)) rfl rfl (aE x7).1 (aE x7).2) ?_
          refine au rfl (cE rfl ((eP.comp (aS.idx (L:=(LI .u32)) (m:=8) (k:=1) ((Int.toNat lP)) (aE x7).2 rfl)).int f104)) ?_
          obtain ⟨Ea,Fb,_,h⟩:=iU h
          refine SL 9 rf ?_
          refine GB rf rf rf (fun hb=>ak rfl (aY.len _ f48)) ?_
          refine GB rf rf rf (fun hb=>ay rfl) ?_
          refine GB rf rf rf (fun hb=>ay rfl) ?_
          refine GB rf rf rf (fun hb=>c9 (eO (K:=(Hs [.ext dw gX])) (mo f48) (Fb hb)) (aL (cC rfl hb) (aL (cC rfl hb) (aL (cC rfl hb) rfl))) kn) ?_
          refine au rfl (fz rfl rfl) ?_
          refine SL 2 rf ?_
          refine fL h rf (fun hc h=>?_) fun hc h=>?_
          ·
           refine SC 21 rf ?_
           have h:=sj h; subst h
           exact RV rf (rt rf rn) rf
          ·
           refine SC 8 rf ?_
           exact LN [0,1,2,3,4,5,6,7] (wr .i64 (lP + 1)) h rf rf rf
         ·
          refine SC 11 rf ?_
          exact LN [2,3,4,5,6,7] (wr .i64 (mh + 1)) h rf rf rf
      ·
       refine SC 5 rf ?_
       refine bV (R:=[.ext jm pD]) (H':=[.cells b8 77 wh, .ext n6 wQ, .cells b5 114 (bk.enc fM), .ext dw gX, .cells b3 77 y5]) (ks:=[0,1,2,3,4,5]) rfl (by decide) ?_
       exact CE [0,1,2,3,4,5] (tB.1,y5,(br [.ext jm pD]),(Hs [.ext jm pD])) ⟨(mo f89),h⟩ rf rf rf
     ·
      refine SC 6 rf ?_
      refine fL h rf (fun hc h=>?_) fun hc h=>?_
      ·
       obtain ⟨pK,Fa,h⟩:=bz h
       refine SC 2 rf ?_
       refine au rfl (ak rfl (aY.len _ f34)) ?_
       refine SL 2 rf ?_
       refine au rfl (bt jK rfl) ?_
       refine CB (kV (K:=(Hs [.ext dw gX])) (mo f34) Fa) rf rf ?_
       rintro LG pb uS ⟨Kc,rfl,f119⟩
       replace f119:(ag).rep (fun w=>(Hs [.ext dw gX]) w∧Hs [.ext pb uS] w) Kc pK.1:=f119
       refine SL 3 rf ?_
       refine W1 rf (bG (hz:=(⟨by kernel_rfl⟩ : cy Try.prog 77 aH))) fun M8=>?_
       refine ST (C:=(Hs [.ext pb uS, .ext dw gX])) pK.1 (aS.id (L:=ag)) aD (mo f119) rf rf rf rf rf fun Kb f122=>?_
       refine SL 5 rf ?_
       obtain ⟨D9,E9,_,h⟩:=iU h
       obtain ⟨D8,E8,_,h⟩:=iU h
       refine eV mixed (.fin [] [(0,[18]),(1,[153]),(2,[154]),(3,[17,155]),(4,[6,155]),(5,[155,156,157]),(6,[3,155]),(7,[5,155]),(8,[155,160]),(9,[155,159,161]),(10,[155,158,162]),(11,[155,163])]) (by kernel_rfl) ?_
       refine F0 ?_
       refine NS 3 rf ?_
       refine NG rf rf (cF rfl rfl) (fun hb=>ak rfl (aY.len _ f122)) ?_
       refine NG rf rf (cF rfl rfl) (fun hb=>ay rfl) ?_
       refine NG rf rf (cF rfl rfl) (fun hb=>c9 (dG (K:=(Hs [.ext pb uS, .ext dw gX])) (mo f122) (E9 hb)) (aL (cC rfl hb) (aL (cC rfl hb) rfl)) kn) ?_
       refine NG rf rf (cF rfl rfl) (fun hb=>ak rfl (aY.len _ f34)) ?_
       refine NG rf rf (cF rfl rfl) (fun hb=>aW rfl) ?_
       refine NG rf rf (cF rfl rfl) (fun hb=>bt jK (cC rfl hb)) ?_
       refine NG rf rf (cF rfl rfl) (fun hb=>c9 (dG (K:=(Hs [.ext dw gX])) (mo f34) (E8 hb)) (aL (cC rfl hb) (aL (cC rfl hb) rfl)) kn) ?_
       refine NG rf rf (cF rfl rfl) (fun hb=>l9 (cC rfl hb) (cC rfl hb)) ?_
       refine NV rf rf (fz rfl rfl) ?_
       refine cT ?_
       refine gA ?_
       refine fL h rf (fun hc h=>?_) fun hc h=>?_
       ·
        refine SC 14 rf ?_
        have h:=sj h; subst h
        exact RV rf (rt rf rn) rf
       ·
        refine SC 3 rf ?_
        refine au rfl (ak rfl (aY.len _ f122)) ?_
        refine ST (C:=(Hs [.ext pb uS, .ext dw gX])) pK.1 (aS.id (L:=ag)) (mo f34) (mo f122) rf rf rf rf rf fun GD f126=>?_
        refine SL 2 rf ?_
        refine bV (R:=[.ext pb uS]) (H':=[.cells M8 77 Kb, .cells b8 77 wh, .ext n6 wQ, .cells b5 114 (bk.enc fM), .ext dw gX, .cells b3 77 GD]) (ks:=[1,0,2,3,4,5,6]) rfl (by decide) ?_
        exact CE [0,2,3,4,5,6] (pK.1,GD,(br [.ext pb uS]),(Hs [.ext pb uS])) ⟨(mo f126),h⟩ rf rf rf
      ·
       refine SC 6 rf ?_
       refine fL h rf (fun hc h=>?_) fun hc h=>?_
       ·
        obtain ⟨vx,E7,h⟩:=bz h
        refine SC 2 rf ?_
        refine au rfl (ak rfl (aY.len _ f34)) ?_
        refine au rfl (ay rfl) ?_
        refine CB (dO (K:=(Hs [.ext dw gX])) (mo f34) E7) rf rf ?_
        rintro LF lI p7 ⟨Ka,rfl,f132⟩
        replace f132:(az).rep (fun w=>(Hs [.ext dw gX]) w∧Hs [.ext lI p7] w) Ka vx.1:=f132
        refine SL 3 rf ?_
        refine W1 rf (bG (hz:=(⟨by kernel_rfl⟩ : cy Try.prog 74 cB))) fun Kh=>?_
        refine ST (C:=(Hs [.ext lI p7, .ext dw gX])) vx.1 (aS.id (L:=az)) cA (mo f132) rf rf rf rf rf fun M4 f135=>?_
        obtain ⟨x6,h⟩:=dZ h
        obtain ⟨Bx,E6,h⟩:=cW h
        refine SL 6 rf ?_
        refine au rfl (bt jK rfl) ?_
        refine au rfl (Dg rfl rfl (by decide) rfl) ?_
        refine au rfl (aW rfl) ?_
        refine au rfl (bt pZ rfl) ?_
        refine au rfl (aW rfl) ?_
        refine au rfl (gp (m:=(Int.toNat (Int.tmod fM.B 8))) rfl rfl (aE x6).1 (aE x6).2) ?_
        refine ST (C:=(Hs [.ext lI p7, .ext dw gX])) Bx (eP.comp (aS.idx (L:=(LI .u32)) (m:=8) (k:=1) ((Int.toNat (Int.tmod fM.B 8))) (aE x6).2 rfl)) (mo f135) fl E6 rf rf rf rf fun GC f139=>?_
        refine SL 8 rf ?_
        refine fL h rf (fun hc h=>?_) fun hc h=>?_
        ·
         obtain ⟨wW,E5,h⟩:=bz h
         refine g9 ?_
         refine au rfl (ak rfl (aY.len _ f34)) ?_
         refine au rfl (ay rfl) ?_
         refine au rfl (ak rfl (aY.len _ f139)) ?_
         refine CB (jE (K:=(Hs [.ext lI p7, .ext dw gX])) (mo f34) (mo f139) E5) rf rf ?_
         rintro LD s6 yT ⟨J9,rfl,f145⟩
         replace f145:(ag).rep (fun w=>(Hs [.ext lI p7, .ext dw gX]) w∧Hs [.ext s6 yT] w) J9 wW.1:=f145
         refine SL 3 rf ?_
         refine ST (C:=(Hs [.ext lI p7, .ext s6 yT, .ext dw gX])) wW.1 (aS.id (L:=ag)) (mo f34) (mo f145) rf rf rf rf rf fun GA f148=>?_
         refine SL 2 rf ?_
         refine bV (R:=[.ext s6 yT, .ext lI p7]) (H':=[.cells Kh 74 GC, .cells b8 77 wh, .ext n6 wQ, .cells b5 114 (bk.enc fM), .ext dw gX, .cells b3 77 GA]) (ks:=[0,2,1,3,4,5,6,7]) rfl (by decide) ?_
         exact CE [0,2,3,4,5,6] (wW.1,GA,(br [.ext s6 yT, .ext lI p7]),(Hs [.ext s6 yT, .ext lI p7])) ⟨(mo f148),h⟩ rf rf rf
        ·
         refine SC 2 rf ?_
         refine bV (R:=[]) (H':=[.cells Kh 74 GC, .ext lI p7, .cells b8 77 wh, .ext n6 wQ, .cells b5 114 (bk.enc fM), .ext dw gX, .cells b3 77 Af]) (ks:=[0,1,2,3,4,5,6]) rfl (by decide) ?_
         exact CE [0,3,4,5,6,7] (eC,Af,(br []),(Hs [])) ⟨(mo f34),h⟩ rf rf rf
       ·
        obtain ⟨wV,E4,h⟩:=bz h
        refine g9 ?_
        refine au rfl (ak rfl (aY.len _ f34)) ?_
        refine SL 2 rf ?_
        refine au rfl (bt mV rfl) ?_
        refine CB (gQ (K:=(Hs [.ext dw gX])) (mo f34) E4) rf rf ?_
        rintro LC s5 yS ⟨J8,rfl,f154⟩
        replace f154:(ag).rep (fun w=>(Hs [.ext dw gX]) w∧Hs [.ext s5 yS] w) J8 wV.1:=f154
        refine SL 4 rf ?_
        refine ST (C:=(Hs [.ext s5 yS, .ext dw gX])) wV.1 (aS.id (L:=ag)) (mo f34) (mo f154) rf rf rf rf rf fun Gz f157=>?_
        refine SL 2 rf ?_
        refine bV (R:=[.ext s5 yS]) (H':=[.cells b8 77 wh, .ext n6 wQ, .cells b5 114 (bk.enc fM), .ext dw gX, .cells b3 77 Gz]) (ks:=[0,1,2,3,4,5]) rfl (by decide) ?_
        exact CE [0,1,2,3,4,5] (wV.1,Gz,(br [.ext s5 yS]),(Hs [.ext s5 yS])) ⟨(mo f157),h⟩ rf rf rf
   ·
    rintro ⟨tw,uE,rE,AN⟩ ⟨f53,h⟩
    replace h:zN tw = some r:=h
    replace h:=ES Jn h
    obtain ⟨ze,E3,h⟩:=bz h
    refine SC 2 rf ?_
    refine au rfl (ak rfl (aY.len _ f53)) ?_
    refine CV (pR (K:=(Hs [.ext dw gX, .ext rE AN])) (mo f53) E3) rf rf ?_
    refine SL 3 rf ?_
    refine fL h rf (fun hc h=>?_) fun hc h=>?_
    ·
     refine SC 11 rf ?_
     have h:=sj h; subst h
     exact RV rf (rt rf rn) rf
    ·
     refine SC 8 rf ?_
     refine bV (R:=[.ext rE AN, .ext dw gX]) (H':=[.cells b8 77 wh, .ext n6 wQ, .cells b5 114 (bk.enc fM), .cells b3 77 uE]) (ks:=[0,4,1,2,3,5]) rfl (by decide) ?_
     exact LN [0,4] (wr .i64 (fC + 1),tw,uE,(br [.ext rE AN, .ext dw gX]),(Hs [.ext rE AN, .ext dw gX])) ⟨(mo f53),h⟩ rf rf rf
  ·
   obtain ⟨D7,E2,h⟩:=bz h
   refine SC 7 rf ?_
   refine CV (lG E2) rf rf ?_
   refine SL 4 rf ?_
   have h:=sj h; subst h
   exact RV rf (rt rf rn) rf
end Go.Proofs.Ytmdpbdhkmfjlhaa
namespace Go.Proofs.Ytmdpbdhkmfjlhaa
open Go Go.Bw
def bx (w:ae) (x:Int):Int:=(w.R (bj x)).Up
abbrev Gw (w:ae):List Int:=bQ w.B 32
theorem mZ {t:ai} {w:ae} (r:eo t w) (tt:fA w):∃ρ,Fo (Gw w) (bx w) ρ:=by
  obtain ⟨q,hq⟩:=tt
  have hm:=aZ r.book
  refine ⟨fun x=>o7 (fun j=>decide (q j < q (bj x))) 32,⟨j9 r.book 32 (by omega),eJ _ _,fun x hx=>?_,fun x hx=>?_,fun x hx=>?_,fun x hx hu=>?_⟩⟩
  · have:=fZ ((hm x).1 hx); omega
  · exact (r.DK ((hm x).1 hx)).imp _root_.id (hm _).2
  · have:=mK (p:=fun j=>decide (q j < q (bj x))) (q:=fun _=>true) (fun _ _=>rfl) (c:=bj x) (by simp) rfl 32 (iG _)
    have:=rA (fun _=>true) 32
    omega
  · obtain ⟨l1,l2⟩:=cw ((hm x).1 hx)
    have h2:=hq _ l1 l2 hu
    exact mK (p:=fun j=>decide (q j < q (bj (w.R (bj x)).Up))) (q:=fun j=>decide (q j < q (bj x))) (fun j hj=>by simp at hj ⊢; omega) (c:=bj (w.R (bj x)).Up) (by simp) (by simpa using h2) 32 (iG _)
section
universe u1 u2 u3
theorem ni {α1 ρ:Type} {B:(α1→Option ρ)→α1→Option ρ} (g:α1→ρ) (I:α1→Prop) (μ:α1→Nat) (hB:∀k a,I a→(∀b,I b→μ b < μ a→k b = some (g b))→B k a = some (g a)):∀n a,I a→μ a < n→dz B n a = some (g a):=by
  intro n
  induction n with
  | zero=>intro a _ h; exact absurd h (Nat.not_lt_zero _)
  | succ n ih=>intro a hi hm; exact hB _ a hi fun b hj hl=>ih b hj (by omega)
end
theorem uH {n:Nat} (hn:40 ≤ n) {t:ai} {w:ae} (r:eo t w) (tt:fA w) {h:Int} (hh:aO w.B h):ew n t h = some (U6 (bx w) h):=by
  obtain ⟨ρ,f⟩:=mZ r tt
  have hm:=aZ r.book
  unfold ew
  refine ni (fun x=>U6 (bx w) x) (fun x=>aO w.B x) ρ (fun k x hx ih=>?_) n h hh (by have:=f.rk h ((hm h).2 hh); omega)
  have hG:=(hm x).2 hx
  rw [aq (mH r hx.1 (dU hx.2)),if_pos hx.2]
  show cn (((0:Int) != 0 || (bx w x == 0)) == false) (yl (bx w x) (k (bx w x))) (some []) = _
  by_cases hu:bx w x = 0
  · rw [f.u0 hG hu,aj (by simp [hu])]
  · rw [f.u1 hG hu,aC (by simp [hu]),ih _ ((hm _).1 (f.yZ hG hu)) (f.dn x hG hu)]; rfl
def dK (w:ae) (a:Int):Int:=if aQ w.B a = true then 1 + ((U6 (bx w) a).length:Int) else 0
def jd (w:ae) (a:Int):Int:=if aQ w.B a = true then nZ (bx w) a else 0
def m8 (w:ae) (a b:Int):Bool:=aQ w.B a && aQ w.B b && ((a == b) || (U6 (bx w) b).contains a)
def qV (w:ae) (a:Int):List Int:=if aQ w.B a = true then fa (Gw w) (bx w) a else []
def dB (w:ae) (a:Int):List Int:=if aQ w.B a = true then V6 (Gw w) (bx w) a else []
section
variable {n:Nat} {t:ai} {w:ae}
theorem zP (l:List Int) (x:Int) (h0:0 ≤ x) (h1:x + (l.length:Int) ≤ 1000000):eB (fun (CZ:Int) zL (bN:Int) =>
  lt (CZ:Int) fun _ =>
  lt (wr .i64 (bN + 1):Int) fun fB =>
  zL fB) (fun (bN:Int) =>
  some bN) l x = some (x + (l.length:Int)):=by
  induction l generalizing x with
  | nil=>simp [eB]
  | cons a l ih =>
    rw [List.length_cons] at h1
    have e:wr .i64 (x + 1) = x + 1:=bK (by omega) (by omega)
    refine (ih (wr .i64 (x + 1)) (by rw [e]; omega) (by rw [e]; omega)).trans ?_
    rw [e,List.length_cons]; congr 1; omega
theorem o6 (hn:40 ≤ n) (r:eo t w) (tt:fA w) {a:Int} (h0:0 ≤ a) (h1:a < 4294967296):ct n t a = some (dK w a):=by
  unfold ct dK
  rw [aq (jh r.book h0 h1)]
  cases hg:aQ w.B a with
  | false=>rfl
  | true =>
    obtain ⟨ρ,f⟩:=mZ r tt
    have hG:=(aZ r.book a).2 ⟨h0,hg⟩
    rw [aj (b:=!true) rfl,if_pos rfl]
    unfold eL
    rw [aq rfl,aq (uH hn r tt ⟨h0,hg⟩)]
    have:=f.w5 hG
    exact zP _ 1 (by omega) (by omega)
theorem xI (l:List Int) (x:Int):eB (fun (CZ:Int) zL (_:Int) =>
  lt (CZ:Int) fun iW =>
  zL iW) (fun (bN:Int) =>
  some bN) l x = some (l.getLastD x):=by
  induction l generalizing x with
  | nil=>rfl
  | cons a l ih=>exact (ih a).trans (by cases l <;> rfl)
theorem m6 (hn:40 ≤ n) (r:eo t w) (tt:fA w) {a:Int} (h0:0 ≤ a) (h1:a < 4294967296):cS n t a = some (jd w a):=by
  unfold cS jd
  rw [aq (jh r.book h0 h1)]
  cases hg:aQ w.B a with
  | false=>rfl
  | true =>
    rw [aj (b:=!true) rfl,if_pos rfl]
    unfold eL
    rw [aq rfl,aq (uH hn r tt ⟨h0,hg⟩)]
    exact xI _ a
theorem BW (a1:Int) (l:List Int) (x:Bool):eB (fun (JS:Int) xH (eC:Bool) =>
  lt (JS:Int) fun fB =>
  lt ((eC || (fB == a1)):Bool) fun fM =>
  xH fM) (fun (eC:Bool) =>
  some eC) l x = some (x || l.contains a1):=by
  induction l generalizing x with
  | nil=>simp [eB]
  | cons a l ih =>
    refine (ih (x || (a == a1))).trans ?_
    rw [List.contains_cons,Bool.or_assoc,Bool.beq_comm (a:=a)]
theorem oc (hn:40 ≤ n) (r:eo t w) (tt:fA w) {a b:Int} (h0:0 ≤ a) (h1:a < 4294967296) (k0:0 ≤ b) (k1:b < 4294967296):cN n t a b = some (m8 w a b):=by
  unfold cN m8
  rw [aq (jh r.book h0 h1),cz (jh r.book k0 k1)]
  cases hg:aQ w.B a with
  | false=>rfl
  | true =>
    cases hk:aQ w.B b with
    | false=>rfl
    | true =>
      rw [aj (by rfl),lt_eq]
      unfold eL
      rw [aq rfl,aq (uH hn r tt ⟨k0,hk⟩)]
      exact BW a _ _
end
end Go.Proofs.Ytmdpbdhkmfjlhaa
namespace Go.Proofs.Ytmdpbdhkmfjlhaa
open Go Go.Bw
theorem sA {α:Type} (l:List α):l = []∨∃i x,l = i++[x]:=by
  rcases l with _ | ⟨a,l⟩
  · exact .inl rfl
  · exact .inr ⟨(a::l).dropLast,(a::l).getLast (by simp),(List.dropLast_concat_getLast (by simp)).symm⟩
theorem ff {α:Type} [Inhabited α] {l:List α} {i:Nat} (h:i < l.length):l.getD i default = l[i]:=by rw [List.getD,List.getElem?_eq_getElem h]; rfl
theorem Im (d:Int→Option Bool) (p:Int→Bool) (l:List Int) (hd:∀x ∈ l,d x = some (p x)) (hl:l.length < 1000) (z:Option Int) {n:Nat} (hn:l.length < n) :
    ∃i:Nat,i ≤ l.length∧(∀x ∈ l.take i,p x = false)∧((i < l.length∧p (l.getD i default) = true∧dz (fun tP (cD:Int) =>
  cn (decide (cD < (l.length:Int))) (
  gu (cV cD l.length) <|
  bd (d (l.getD (Int.toNat cD) default)) fun cU =>
  cn (cU) (
  some cD) (
  tP (wr .i64 (cD + 1)))) z) n 0 = some (i:Int))∨(i = l.length∧dz (fun tP (cD:Int) =>
  cn (decide (cD < (l.length:Int))) (
  gu (cV cD l.length) <|
  bd (d (l.getD (Int.toNat cD) default)) fun cU =>
  cn (cU) (
  some cD) (
  tP (wr .i64 (cD + 1)))) z) n 0 = z)):=by
  refine fY (fun (x:Int)=>∃k:Nat,x = k∧k ≤ l.length∧∀x ∈ l.take k,p x = false) (fun x=>l.length - x.toNat) (fun o=>∃i:Nat,i ≤ l.length∧(∀x ∈ l.take i,p x = false)∧((i < l.length∧p (l.getD i default) = true∧o = some (i:Int))∨(i = l.length∧o = z))) ?_ n 0 ⟨0,rfl,by omega,by simp⟩ (by omega)
  rintro kk x ⟨k,rfl,hk,hp⟩ ih
  by_cases c:k < l.length
  · have hm:l.getD k default ∈ l:=fq c
    rw [aC (decide_eq_true (by omega)),aA (bT (by omega) (by omega)),Int.toNat_natCast,aq (hd _ hm)]
    cases hb:p (l.getD k default) with
    | true=>rw [aC rfl]; exact ⟨k,hk,hp, .inl ⟨c,hb,rfl⟩⟩
    | false =>
      rw [aj rfl,bK (by omega) (by omega)]
      refine ih _ ⟨k + 1,by omega,by omega,fun y hy=>?_⟩ (by omega)
      rw [List.take_succ_eq_append_getElem c,List.mem_append,List.mem_singleton] at hy
      rcases hy with hy | hy
      · exact hp y hy
      · rw [hy,← ff c]; exact hb
  · rw [aj (decide_eq_false (by omega))]
    exact ⟨k,hk,hp, .inr ⟨by omega,rfl⟩⟩
theorem JV (d:Int→Option Bool) (p:Int→Bool) (l:List Int) (hd:∀x ∈ l,d x = some (p x)) (hl:l.length < 1000) {i:Nat} (hi:i < l.length) (hp:p (l.getD i default) = true) (h0:∀x ∈ l.take i,p x = false) {n:Nat} (hn:l.length < n) :
    ku (fun EP (dk:(List Int)) (bN:Int) (fC:Int) =>
  cn (decide (fC < (dk.length:Int))) (
  gu (cV fC dk.length) <|
  bd (d (dk.getD (Int.toNat fC) default)) fun gF =>
  cn ((!gF)) (
  gu (cV bN dk.length) <|
  lt ((dk.set (Int.toNat bN) (dk.getD (Int.toNat fC) default)):List Int) fun fe =>
  EP fe (wr .i64 (bN + 1)) (wr .i64 (fC + 1))) (
  EP dk bN (wr .i64 (fC + 1)))) (
  gu (cV bN (dk.length + 1)) <|
  lt (dk.take (Int.toNat bN)++List.replicate (dk.length - (Int.toNat bN)) 0:List Int) fun dg =>
  gu (cV bN (dg.length + 1)) <|
  lt (dg.take (Int.toNat bN):List Int) fun zc =>
  some zc)) n l (i:Int) (wr .i64 ((i:Int) + 1)) = some (l.filter fun x=>!p x):=by
  rw [bK (by omega) (by omega)]
  have Js:(l.take i).filter (fun x=>!p x) = l.take i:=List.filter_eq_self.2 fun x hx=>by rw [h0 x hx]; rfl
  have MA:(l.take (i + 1)).filter (fun x=>!p x) = l.take i:=by
    rw [List.take_succ_eq_append_getElem hi,List.filter_append,Js,← ff hi]
    generalize l.getD i default = y at hp
    simp [hp]
  refine nh (fun (s:List Int) (a b:Int)=>∃u v:Nat,a = u∧b = v∧u < v∧v ≤ l.length∧s.length = l.length∧s.drop v = l.drop v∧s.take u = (l.take v).filter fun x=>!p x) (fun _ _ b=>l.length - b.toNat) (fun o=>o = some (l.filter fun x=>!p x)) ?_ n l i ((i:Int) + 1) ⟨i,i + 1,rfl,by omega,by omega,by omega,rfl,rfl,MA.symm⟩ (by omega)
  rintro kk s a b ⟨u,v,rfl,rfl,huv,hv,hs,h1,h2⟩ ih
  by_cases c:v < l.length
  · have e1:s.getD v default = l.getD v default:=by
      have:=congrArg (fun q:List Int=>q[0]?) h1
      simp only [List.getElem?_drop,Nat.add_zero] at this
      rw [List.getD,List.getD,this]
    have hm:l.getD v default ∈ l:=fq c
    rw [aC (decide_eq_true (by omega)),aA (bT (by omega) (by omega)),Int.toNat_natCast,e1,aq (hd _ hm),bK (x:=(v:Int) + 1) (by omega) (by omega)]
    have KS:∀q:List Int,q.drop v = l.drop v→q.drop (v + 1) = l.drop (v + 1):=fun q hq=>by
      rw [← List.drop_drop,← List.drop_drop,hq]
    have ht:(l.take (v + 1)).filter (fun x=>!p x) = (l.take v).filter (fun x=>!p x)++(if p (l.getD v default) = true then [] else [l.getD v default]):=by
      rw [List.take_succ_eq_append_getElem c,List.filter_append,← ff c]
      generalize l.getD v default = y
      cases hy:p y <;> simp [hy]
    cases hb:p (l.getD v default) with
    | true =>
      rw [aj (b:=!true) rfl]
      exact ih _ _ _ ⟨u,v + 1,rfl,by omega,by omega,by omega,hs,KS _ h1,by rw [ht,hb,h2]; simp⟩ (by omega)
    | false =>
      rw [aC (b:=!false) rfl,aA (bT (by omega) (by omega)),lt_eq,Int.toNat_natCast,bK (x:=(u:Int) + 1) (by omega) (by omega)]
      refine ih _ _ _ ⟨u + 1,v + 1,by omega,by omega,by omega,by omega,by rw [List.length_set]; exact hs,KS _ (by rw [List.drop_set_of_lt huv]; exact h1),?_⟩ (by omega)
      rw [ht,hb,← h2]
      have Mi:u < (s.set u (l.getD v default)).length:=by rw [List.length_set]; omega
      rw [List.take_succ_eq_append_getElem Mi,List.getElem_set_self,List.take_set_of_le (Nat.le_refl u)]
      rfl
  · obtain rfl:v = l.length:=by omega
    have Fe:(s.take u).length = u:=by rw [List.length_take]; omega
    rw [aj (decide_eq_false (by omega)),aA (bT (by omega) (by omega)),lt_eq,Int.toNat_natCast,aA (bT (by omega) (by simp; omega)),lt_eq]
    rw [List.take_append_of_le_length (by omega),List.take_of_length_le (by omega),h2,List.take_length]
section
variable {n:Nat} {t:ai} {w:ae}
theorem EL (hn:100 ≤ n) (r:eo t w) {a:Int} (h0:0 ≤ a) (h1:a < 4294967296):gJ n t a = some (qV w a):=by
  unfold gJ qV
  rw [aq (jh r.book h0 h1)]
  cases hg:aQ w.B a with
  | false=>rfl
  | true =>
    have hm:=aZ r.book
    have hlen:=eJ w.B 32
    rw [aj (b:=!true) rfl,if_pos rfl,aq (Ai (by omega) r)]
    have hd:∀x ∈ Gw w,dX n x t a = some (bx w x != a):=fun x hx=>by
      have hx:=(hm x).1 hx
      unfold dX
      rw [aq (mH r hx.1 (dU hx.2)),if_pos hx.2]; rfl
    have hk:fa (Gw w) (bx w) a = (Gw w).filter fun x=>!(bx w x != a):=by
      unfold fa; congr 1; funext x; simp [bne]
    unfold bO bP
    obtain ⟨i,i1,i2,i3⟩:=Im (n:=n) (fun x=>dX n x t a) (fun x=>bx w x != a) (Gw w) hd (by show (bQ w.B 32).length < 1000; omega) (some (-1)) (by show (bQ w.B 32).length < n; omega)
    rcases i3 with ⟨q1,q2,q3⟩ | ⟨q1,q3⟩
    · have:=JV (n:=n) (fun x=>dX n x t a) (fun x=>bx w x != a) (Gw w) hd (by show (bQ w.B 32).length < 1000; omega) q1 q2 i2 (by show (bQ w.B 32).length < n; omega)
      rw [aq q3,aj (by simp)]
      refine (aq this).trans ?_
      rw [hk]
    · rw [aq q3,aC (by rfl)]
      refine (aq rfl).trans ?_
      rw [hk]
      rw [q1,List.take_length] at i2
      exact congrArg some (List.filter_eq_self.2 fun x hx=>by have:=i2 x hx; simp only [this]; rfl).symm
theorem HN {l:List Int} (hl:l.length < 1000) (hn:l.length < n):dQ n l = some l.reverse:=by
  unfold dQ
  rw [bK (by omega) (by omega)]
  refine nh (fun (s:List Int) (a b:Int)=>∃u:Nat,a = u∧b = (l.length:Int) - 1 - u∧s.length = l.length∧u ≤ l.length∧∀k,k < l.length→s.getD k default = if k < u∨l.length ≤ k + u then l.getD (l.length - 1 - k) default else l.getD k default) (fun _ _ b=>(b + 1).toNat) (fun o=>o = some l.reverse) ?_ n l 0 ((l.length:Int) - 1) ⟨0,rfl,by omega,rfl,by omega,fun k hk=>by rw [if_neg (by omega)]⟩ (by omega)
  rintro kk s a b ⟨u,rfl,rfl,hs,hu,hq⟩ ih
  by_cases c:2 * u + 1 < l.length
  · have e2:((l.length:Int) - 1 - u).toNat = l.length - 1 - u:=by omega
    rw [aC (decide_eq_true (by omega)),aA (bT (by omega) (by omega)),aA (bT (by omega) (by omega)),aA (bT (by omega) (by omega)),lt_eq,aA (bT (by omega) (by rw [List.length_set]; omega)),lt_eq,bK (x:=(u:Int) + 1) (by omega) (by omega),bK (x:=(l.length:Int) - 1 - u - 1) (by omega) (by omega),Int.toNat_natCast,e2]
    refine ih _ _ _ ⟨u + 1,by omega,by omega,by rw [List.length_set,List.length_set]; exact hs,by omega,fun k hk=>?_⟩ (by omega)
    have gs:∀(q:List Int) (i:Nat) (x:Int) (k:Nat),q.length = l.length→k < l.length→(q.set i x).getD k default = if i = k then x else q.getD k default:=fun q i x k h1 h2=>by
      rw [List.getD,List.getElem?_set]
      by_cases e:i = k
      · subst e; rw [if_pos rfl,if_pos (by omega),if_pos rfl]; rfl
      · rw [if_neg e,if_neg e,List.getD]
    have a1:=hq u (by omega)
    have a2:=hq (l.length - 1 - u) (by omega)
    rw [if_neg (by omega)] at a1 a2
    rw [gs _ _ _ _ (by rw [List.length_set]; exact hs) hk,gs _ _ _ _ hs hk,a1,a2,hq k hk]
    by_cases k1:l.length - 1 - u = k
    · rw [if_pos k1,if_pos (by omega)]; congr 1; omega
    · rw [if_neg k1]
      by_cases k2:u = k
      · rw [if_pos k2,if_pos (by omega)]; congr 1; omega
      · rw [if_neg k2]
        by_cases k3:k < u∨l.length ≤ k + u
        · rw [if_pos k3,if_pos (by omega)]
        · rw [if_neg k3,if_neg (by omega)]
  · rw [aj (decide_eq_false (by omega))]
    congr 1
    refine List.ext_getElem (by simp [hs]) fun k h1 h2=>?_
    have hk:k < l.length:=by omega
    rw [List.getElem_reverse,← ff h1,← ff (by omega),hq k hk]
    split
    · rfl
    · congr 1; omega
theorem oB (hn:100 ≤ n) (r:eo t w) (tt:fA w) {a:Int} (ha:aO w.B a):eu n a t = some (V6 (Gw w) (bx w) a):=by
  obtain ⟨ρ,f⟩:=mZ r tt
  have hm:=aZ r.book
  unfold eu
  have hv:=f.oA ((hm a).2 ha)
  refine (ni (fun s:List Int=>s.reverse.flatMap (V6 (Gw w) (bx w))) (fun s=>(∀x ∈ s,x ∈ Gw w)∧(s.reverse.flatMap (V6 (Gw w) (bx w))).length ≤ 32) (fun s=>(s.reverse.flatMap (V6 (Gw w) (bx w))).length) (fun k s hs ih=>?_) n [a] ⟨by simpa using (hm a).2 ha,by simpa using hv⟩ (by simp; omega)).trans (by simp)
  obtain ⟨hs,hlen⟩:=hs
  rcases sA s with rfl | ⟨i,x,rfl⟩
  · rfl
  · have hx:x ∈ Gw w:=hs x (by simp)
    have hxs:=(hm x).1 hx
    have e1:(i++[x]).reverse.flatMap (V6 (Gw w) (bx w)) = V6 (Gw w) (bx w) x++i.reverse.flatMap (V6 (Gw w) (bx w)):=by
      rw [List.reverse_append,List.reverse_singleton,List.singleton_append,List.flatMap_cons]
    have hge:∀q:List Int,(∀x ∈ q,x ∈ Gw w)→q.length ≤ (q.flatMap (V6 (Gw w) (bx w))).length:=fun q=>by
      induction q with
      | nil=>intro _; simp
      | cons b q ih =>
        intro hq
        have h1:=ih fun x hx=>hq x (by simp [hx])
        have h2:=f.qI (hq b (by simp))
        rw [List.flatMap_cons,List.length_append,h2,List.length_cons,List.length_cons]; omega
    have hi:=hge i.reverse fun y hy=>hs y (by simp at hy; simp [hy])
    rw [e1,List.length_append] at hlen
    have oW:i.length ≤ 32:=by rw [List.length_reverse] at hi; omega
    have ex:wr .i64 (((i++[x]).length:Int) - 1) = i.length:=by
      rw [List.length_append,List.length_singleton,bK (by omega) (by omega)]; omega
    have eg:(i++[x]).getD (Int.toNat (i.length:Int)) default = x:=by simp [List.getD]
    have hkn:qV w x = fa (Gw w) (bx w) x:=by unfold qV; rw [if_pos hxs.2]
    have Mv:(fa (Gw w) (bx w) x).length ≤ 32:=Nat.le_trans (List.length_filter_le _ _) f.len
    have hpos:0 < ((i++[x]).length:Int):=by rw [List.length_append,List.length_singleton]; omega
    rw [aC (decide_eq_true hpos),ex,aA (bT (by omega) (by simp; omega)),eg,aq (EL hn r hxs.1 (dU hxs.2)),hkn,aq (HN (by omega) (by omega)),aA (bT (by omega) (by simp; omega)),lt_eq]
    have et:(i++[x]).take (Int.toNat (i.length:Int)) = i:=by simp
    rw [et,aA (jr (by simp; omega) (by simp; omega)),lt_eq,e1,f.qI hx]
    have e2:(i++(fa (Gw w) (bx w) x).reverse).reverse.flatMap (V6 (Gw w) (bx w)) = (fa (Gw w) (bx w) x).flatMap (V6 (Gw w) (bx w))++i.reverse.flatMap (V6 (Gw w) (bx w)):=by
      rw [List.reverse_append,List.reverse_reverse,List.flatMap_append]
    have e3:=congrArg List.length (f.qI hx)
    rw [List.length_cons] at e3
    rw [ih _ ⟨fun y hy=>?_,by rw [e2,List.length_append]; omega⟩ (by rw [e2,e1,List.length_append,List.length_append]; omega),e2]
    · rfl
    · rcases List.mem_append.1 hy with h | h
      · exact hs y (by simp [h])
      · exact (fQ.1 (List.mem_reverse.1 h)).1
theorem zQ (l x:List Int) (h:x.length + l.length ≤ 1000):eB (fun (JU:Int) BV (fJ:(List Int)) =>
  lt (JU:Int) fun kB =>
  gu (jH fJ.length 1 4) <|
  lt (fJ++([kB]):List Int) fun gF =>
  BV gF) (fun (fJ:(List Int)) =>
  some fJ) l x = some (x++l):=by
  induction l generalizing x with
  | nil=>simp [eB]
  | cons a l ih =>
    rw [List.length_cons] at h
    have e:jH x.length 1 4 = true:=jr (by omega) (by omega)
    have:=ih (x++[a]) (by simp; omega)
    refine Eq.trans ?_ (this.trans (by simp))
    show gu (jH x.length 1 4) _ = _
    rw [aA e]; rfl
theorem tD (hn:100 ≤ n) (r:eo t w) (tt:fA w) {a:Int} (h0:0 ≤ a) (h1:a < 4294967296):eM n t a = some (dB w a):=by
  unfold eM dB
  rw [aq (jh r.book h0 h1)]
  cases hg:aQ w.B a with
  | false=>rfl
  | true =>
    obtain ⟨ρ,f⟩:=mZ r tt
    have hv:=f.oA ((aZ r.book a).2 ⟨h0,hg⟩)
    rw [aj (b:=!true) rfl,if_pos rfl]
    unfold eK bS bA
    rw [aq rfl,aq (oB hn r tt ⟨h0,hg⟩),aq (zQ _ [] (by simp; omega))]
    rfl
end
end Go.Proofs.Ytmdpbdhkmfjlhaa
namespace Go.Proofs.Ytmdpbdhkmfjlhaa
open Go Go.Bw
section
variable {n:Nat} {t:ai} {w:ae}
theorem tL (hn:40 ≤ n) (r:eo t w) {x:Int} (hx:aO w.B x):kO n w x = some (bx w x):=by
  unfold kO; rw [aq (tM hn r hx)]; rfl
theorem xm (hn:100 ≤ n) (r:eo t w) {a:Int} (h0:0 ≤ a):lR n w a = some (qV w a):=by
  unfold lR
  have hm:=aZ r.book
  have hlen:=eJ w.B 32
  rw [aq (zv (by omega) r)]
  refine de (fun (s:List Int) (i:Int)=>∃k:Nat,i = k∧k ≤ (Gw w).length∧s = if aQ w.B a = true then ((Gw w).take k).filter (fun y=>bx w y == a) else []) (fun _ i=>(Gw w).length - i.toNat) (fun o=>o = some (qV w a)) ?_ n [] 0 ⟨0,rfl,by omega,by simp⟩ (by show (Gw w).length - (0:Int).toNat < n; have:(Gw w).length ≤ 32:=hlen; omega)
  rintro kk s i ⟨k,rfl,hk,rfl⟩ ih
  have hl:(Gw w).length ≤ 32:=hlen
  have hl' : (bQ w.B 32).length = (Gw w).length:=rfl
  by_cases c:k < (Gw w).length
  · have hx:=(hm _).1 (fq (l:=Gw w) (i:=k) c)
    have Hf:∀q:Bool,(if q = true then ((Gw w).take k).filter (fun y=>bx w y == a) else []).length ≤ 32:=fun q=>by
      split
      · exact Nat.le_trans (List.length_filter_le _ _) (by rw [List.length_take]; omega)
      · simp
    rw [aC (decide_eq_true (by omega)),aq (bC (by omega) r h0),aA (by rw [bT (i:=(k:Int)) (n:=(bQ w.B 32).length) (by omega) (by omega)]; simp),Int.toNat_natCast,cz (tL (by omega) r hx),bK (x:=(k:Int) + 1) (by omega) (by omega)]
    have ht:((Gw w).take (k + 1)).filter (fun y=>bx w y == a) = ((Gw w).take k).filter (fun y=>bx w y == a)++(if bx w ((Gw w).getD k default) = a then [(Gw w).getD k default] else []):=by
      rw [List.take_succ_eq_append_getElem c,List.filter_append,← ff c]
      generalize (Gw w).getD k default = y
      by_cases hy:bx w y = a <;> simp [hy]
    have hs:=Hf (aQ w.B a)
    cases hg:aQ w.B a with
    | false =>
      rw [aj (by rfl)]
      exact ih _ _ ⟨k + 1,by omega,by omega,by rw [hg,if_neg (by decide),if_neg (by decide)]⟩ (by omega)
    | true =>
      rw [hg] at hs
      by_cases hu:bx w ((Gw w).getD k default) = a
      · rw [aC (show (true && ((bif true == true then bx w ((Gw w).getD k default) else default) == a)) = true by rw [hu]; simp),aA (bT (by omega) (by omega)),aA (jr (by omega) (by omega)),lt_eq]
        exact ih _ _ ⟨k + 1,by omega,by omega,by rw [hg,if_pos rfl,if_pos rfl,ht,if_pos hu]⟩ (by omega)
      · rw [aj (show (true && ((bif true == true then bx w ((Gw w).getD k default) else default) == a)) = false by simpa using hu)]
        exact ih _ _ ⟨k + 1,by omega,by omega,by rw [hg,if_pos rfl,if_pos rfl,ht,if_neg hu,List.append_nil]⟩ (by omega)
  · rw [aj (decide_eq_false (by omega))]
    unfold qV fa
    rw [List.take_of_length_le (by omega)]
theorem vF (r:eo t w) (tt:fA w):∀(m:Nat) {ρ:Int→Nat},Fo (Gw w) (bx w) ρ→∀a,a ∈ Gw w→132 - ρ a < m→fc m w a = some (V6 (Gw w) (bx w) a):=by
  have hm:=aZ r.book
  intro m
  induction m with
  | zero=>intro ρ f a ha h; omega
  | succ m ih =>
    intro ρ f a ha zZ
    have hr:=f.rk a ha
    have hg:=(hm a).1 ha
    unfold fc
    have hkn:qV w a = fa (Gw w) (bx w) a:=by unfold qV; rw [if_pos hg.2]
    rw [aq (bC (by omega) r hg.1),hg.2,aj (b:=!true) rfl,aq (xm (by omega) r hg.1),hkn]
    have hv:=f.qI ha
    have hvl:=f.oA ha
    have Mv:(fa (Gw w) (bx w) a).length ≤ 32:=Nat.le_trans (List.length_filter_le _ _) f.len
    refine de (fun (s:List Int) (i:Int)=>∃k:Nat,i = k∧k ≤ (fa (Gw w) (bx w) a).length∧s = a::((fa (Gw w) (bx w) a).take k).flatMap (V6 (Gw w) (bx w))) (fun _ i=>(fa (Gw w) (bx w) a).length - i.toNat) (fun o=>o = some (V6 (Gw w) (bx w) a)) ?_ m [a] 0 ⟨0,rfl,by omega,rfl⟩ (by omega)
    rintro kk s i ⟨k,rfl,hk,rfl⟩ BX
    by_cases c:k < (fa (Gw w) (bx w) a).length
    · have hx:=fQ.1 (fq (l:=fa (Gw w) (bx w) a) (i:=k) c)
      have NB:=f.BU ha hx.1 hx.2
      have:=f.rk _ hx.1
      have ht:((fa (Gw w) (bx w) a).take (k + 1)).flatMap (V6 (Gw w) (bx w)) = ((fa (Gw w) (bx w) a).take k).flatMap (V6 (Gw w) (bx w))++V6 (Gw w) (bx w) ((fa (Gw w) (bx w) a).getD k default):=by
        rw [List.take_succ_eq_append_getElem c,List.flatMap_append,← ff c]; simp
      have hle:(((fa (Gw w) (bx w) a).take (k + 1)).flatMap (V6 (Gw w) (bx w))).length + 1 ≤ 32:=by
        have e:=congrArg List.length hv
        rw [List.length_cons,← List.take_append_drop (k + 1) (fa (Gw w) (bx w) a),List.flatMap_append,List.length_append] at e
        omega
      rw [ht,List.length_append] at hle
      rw [aC (decide_eq_true (by omega)),aA (bT (by omega) (by omega)),Int.toNat_natCast,aq (ih f _ hx.1 (by omega)),aA (jr (by rw [List.length_cons]; omega) (by rw [List.length_cons]; omega)),lt_eq,bK (by omega) (by omega)]
      exact BX _ _ ⟨k + 1,by omega,by omega,by rw [ht]; rfl⟩ (by omega)
    · rw [aj (decide_eq_false (by omega)),List.take_of_length_le (by omega),hv]
theorem qO (hn:200 ≤ n) (r:eo t w) (tt:fA w) {a:Int} (h0:0 ≤ a):fc n w a = some (dB w a):=by
  unfold dB
  cases hg:aQ w.B a with
  | false =>
    obtain ⟨m,rfl⟩ : ∃m,n = m + 1:=⟨n - 1,by omega⟩
    unfold fc; rw [aq (bC (by omega) r h0),hg]; rfl
  | true =>
    obtain ⟨ρ,f⟩:=mZ r tt
    have ha:=(aZ r.book a).2 ⟨h0,hg⟩
    rw [if_pos rfl]
    exact vF r tt n f a ha (by omega)
theorem zu (r:eo t w) (tt:fA w):∀(m:Nat) {ρ:Int→Nat},Fo (Gw w) (bx w) ρ→∀a,a ∈ Gw w→ρ a + 100 < m→dW m w a = some (1 + ((U6 (bx w) a).length:Int)):=by
  have hm:=aZ r.book
  intro m
  induction m with
  | zero=>intro ρ f a ha h; omega
  | succ m ih =>
    intro ρ f a ha zZ
    have hg:=(hm a).1 ha
    have hl:=f.w5 ha
    unfold dW
    rw [aq (bC (by omega) r hg.1),hg.2,aj (b:=!true) rfl,aq (tL (by omega) r hg)]
    by_cases hu:bx w a = 0
    · have h0:dW m w 0 = some 0:=by
        obtain ⟨m,rfl⟩ : ∃k,m = k + 1:=⟨m - 1,by omega⟩
        unfold dW; rw [aq (bC (by omega) r (by omega)),qw]; rfl
      rw [hu,aq h0,f.u0 ha hu]; rfl
    · rw [aq (ih f _ (f.yZ ha hu) (by have:=f.dn a ha hu; omega))]
      rw [f.u1 ha hu,List.length_cons] at hl ⊢
      rw [bK (by omega) (by omega)]; congr 1; omega
theorem qf (hn:200 ≤ n) (r:eo t w) (tt:fA w) {a:Int} (h0:0 ≤ a):dW n w a = some (dK w a):=by
  unfold dK
  cases hg:aQ w.B a with
  | false =>
    obtain ⟨m,rfl⟩ : ∃m,n = m + 1:=⟨n - 1,by omega⟩
    unfold dW; rw [aq (bC (by omega) r h0),hg]; rfl
  | true =>
    obtain ⟨ρ,f⟩:=mZ r tt
    have ha:=(aZ r.book a).2 ⟨h0,hg⟩
    rw [if_pos rfl]
    exact zu r tt n f a ha (by have:=f.rk a ha; omega)
theorem qP (hn:40 ≤ n) (r:eo t w) (tt:fA w) (a:Int) {b:Int} (hb:aO w.B b):bE n w a b = some ((U6 (bx w) b).contains a):=by
  obtain ⟨ρ,f⟩:=mZ r tt
  have hm:=aZ r.book
  unfold bE
  refine (ni (fun x=>if x = 0 then false else (U6 (bx w) x).contains a) (fun x=>x = 0∨aO w.B x) (fun x=>if x = 0 then 0 else ρ x + 1) (fun k x hx ih=>?_) n b (.inr hb) ?_).trans (by rw [if_neg (f.pos b ((hm b).2 hb))])
  · by_cases h0:x = 0
    · subst h0; rw [aj (by rfl)]; rfl
    · have hg:=hx.resolve_left h0
      have hG:=(hm x).2 hg
      have IT:=cL x
      rw [aC (by simpa using h0),aq (cG hn r.book hg.1),hg.2,if_pos rfl,aA (eY x),if_neg h0]
      show cn (bx w x == a) (some (a != 0)) (k (bx w x)) = _
      by_cases hu:bx w x = 0
      · rw [hu,f.u0 hG hu]
        by_cases ha:a = 0
        · subst ha; rw [aC (by rfl)]; rfl
        · rw [aj (by simpa using Ne.symm ha),ih 0 (.inl rfl) (by rw [if_pos rfl,if_neg h0]; omega)]; rfl
      · rw [f.u1 hG hu]
        by_cases ha:bx w x = a
        · rw [aC (by simpa using ha)]
          have:a ≠ 0:=ha ▸ hu
          rw [List.contains_cons,ha]; simp [this]
        · rw [aj (by simpa using ha),ih _ (.inr ((hm _).1 (f.yZ hG hu))) (by rw [if_neg hu,if_neg h0]; have:=f.dn x hG hu; omega),if_neg hu,List.contains_cons]
          congr 1
          have:(a == bx w x) = false:=by simpa using Ne.symm ha
          rw [this,Bool.false_or]
  · have hp:=f.pos b ((hm b).2 hb)
    rw [if_neg hp]; have:=f.rk b ((hm b).2 hb); omega
theorem zo (hn:200 ≤ n) (r:eo t w) (tt:fA w) {a b:Int} (h0:0 ≤ a) (k0:0 ≤ b):je n w a b = some (m8 w a b):=by
  unfold je m8
  rw [aq (bC (by omega) r h0),cz (bC (by omega) r k0)]
  cases hg:aQ w.B a with
  | false=>rfl
  | true =>
    cases hk:aQ w.B b with
    | false=>rfl
    | true =>
      by_cases e:a = b
      · subst e; rw [yq (by simp)]; simp
      · refine (hY (by simpa using e) (qP (by omega) r tt a ⟨k0,hk⟩)).trans ?_
        rfl
theorem zO (d:Int→Option Int) (e:Option Int) (v:Int→Int) (c:Int) (hc:0 ≤ c∧c ≤ 1000) (he:e = some c) (l:List Int) (hd:∀x ∈ l,d x = some (v x)∧0 ≤ v x∧v x ≤ 1000) (x:Int) (h0:0 ≤ x∧x ≤ 5000) :
    eB (fun (Aa:Int) zM (dF:Int) =>
  lt (Aa:Int) fun hJ =>
  bd (d hJ) fun gF =>
  bd e fun fB =>
  lt ((if dF < wr .i64 ((wr .i64 (gF - fB)) + 1) then wr .i64 ((wr .i64 (gF - fB)) + 1) else dF):Int) fun fe =>
  zM fe) (fun (dF:Int) =>
  some dF) l x = some (l.foldl (fun m y=>max m (v y - c + 1)) x):=by
  subst he
  induction l generalizing x with
  | nil=>rfl
  | cons a l ih =>
    obtain ⟨a1,a2,a3⟩:=hd a (by simp)
    have e1:wr .i64 (v a - c) = v a - c:=bK (by omega) (by omega)
    have e2:wr .i64 (v a - c + 1) = v a - c + 1:=bK (by omega) (by omega)
    have key:=ih (fun y hy=>hd y (by simp [hy])) (max x (v a - c + 1)) (by omega)
    rw [List.foldl_cons,← key]
    show bd (d a) _ = _
    rw [aq a1,aq rfl,e1,e2]
    show eB _ _ l _ = _
    congr 1
    simp only [Int.max_def]
    split <;> split <;> omega
theorem ye (v:Int→Int) (c:Int) (l:List Int) (x k:Int):k < l.foldl (fun m y=>max m (v y - c + 1)) x↔k < x∨∃y ∈ l,k < v y - c + 1:=by
  induction l generalizing x with
  | nil=>simp
  | cons a l ih =>
    rw [List.foldl_cons,ih]
    constructor
    · rintro (h | ⟨y,hy,h⟩)
      · rcases Int.lt_or_le k x with h1 | h1
        · exact .inl h1
        · exact .inr ⟨a,by simp,by omega⟩
      · exact .inr ⟨y,by simp [hy],h⟩
    · rintro (h | ⟨y,hy,h⟩)
      · exact .inl (by omega)
      · rcases List.mem_cons.1 hy with e | hy
        · subst e; exact .inl (by omega)
        · exact .inr ⟨y,hy,h⟩
end
end Go.Proofs.Ytmdpbdhkmfjlhaa
namespace Go.Proofs.Ytmdpbdhkmfjlhaa
open Go Go.Bw
def mq (w:ae):Prop:=∀g,aO w.B g→(0 ≤ (w.R (bj g)).bJ∧(w.R (bj g)).bJ ≤ 64)∧∀n,110 ≤ n→cR n (w.R (bj g)).E = some true
def zB:bq:={ Up:=0,bJ:=0,E:=bF,Cells:=(fun _=>0) }
def vg (w:ae) (h:Int):ae:=if aQ w.B h = true then ⟨wI w.B h,fun j=>if j < 32∧(dx w.R (bj h) zB j).Up = h then { dx w.R (bj h) zB j with Up:=0 } else dx w.R (bj h) zB j⟩ else w
theorem vG {n:Nat} (hn:40 ≤ n) (h:Int) (w:ae):cP (fun A5 (jF:Int) (mY:ae) =>
  cn (decide (jF < 32)) (
  gu (cV jF 32) <|
  cn ((((mY.R (Int.toNat jF)).Up) == h)) (
  gu (cV jF 32) <|
  lt ({ mY with R:=(dx mY.R (Int.toNat jF) ({ (mY.R (Int.toNat jF)) with Up:=0 })) }:ae) fun uU =>
  A5 (wr .i64 (jF + 1)) uU) (
  A5 (wr .i64 (jF + 1)) mY)) (
  some (mY,(0:Int)))) n 0 w = some (({ B:=w.B,R:=fun j=>if j < 32∧(w.R j).Up = h then { w.R j with Up:=0 } else w.R j }:ae),0):=by
  refine de (fun (i:Int) (v:ae)=>0 ≤ i∧i ≤ 32∧v.B = w.B∧∀j,v.R j = if j < i.toNat∧(w.R j).Up = h then { w.R j with Up:=0 } else w.R j) (fun i _=>(32 - i).toNat)
    (fun o=>o = some (({ B:=w.B,R:=fun j=>if j < 32∧(w.R j).Up = h then { w.R j with Up:=0 } else w.R j }:ae),0)) ?_ n 0 w ⟨by omega,by omega,rfl,fun j=>by simp⟩ (by omega)
  rintro kk i v ⟨i0,i1,hb,hv⟩ ih
  by_cases c:i < 32
  · have hi:=hv i.toNat
    rw [if_neg (fun hh=>absurd hh.1 (Nat.lt_irrefl _))] at hi
    rw [aC (by simpa using c),aA (bT i0 (by omega)),hi,bK (x:=i + 1) (by omega) (by omega)]
    have e1:(i + 1).toNat = i.toNat + 1:=by omega
    have step:∀j,j ≠ i.toNat→(if j < i.toNat∧(w.R j).Up = h then { w.R j with Up:=0 } else w.R j) = (if j < (i + 1).toNat∧(w.R j).Up = h then { w.R j with Up:=0 } else w.R j):=fun j hj=>by
      by_cases hu:(w.R j).Up = h
      · by_cases hl:j < i.toNat
        · rw [if_pos ⟨hl,hu⟩,if_pos ⟨by omega,hu⟩]
        · rw [if_neg (fun hh=>hl hh.1),if_neg (fun hh=>by omega)]
      · rw [if_neg (fun hh=>hu hh.2),if_neg (fun hh=>hu hh.2)]
    by_cases hu:(w.R i.toNat).Up = h
    · rw [aC (by simpa using hu),aA (bT i0 (by omega)),lt_eq]
      refine ih _ _ ⟨by omega,by omega,hb,fun j=>?_⟩ (by omega)
      show dx v.R i.toNat _ j = _
      rw [bD]
      by_cases ej:j = i.toNat
      · subst ej; rw [if_pos rfl,if_pos ⟨by omega,hu⟩]
      · rw [if_neg ej,hv j,step j ej]
    · rw [aj (by simpa using hu)]
      refine ih _ _ ⟨by omega,by omega,hb,fun j=>?_⟩ (by omega)
      rw [hv j]
      by_cases ej:j = i.toNat
      · subst ej; rw [if_neg (fun hh=>hu hh.2),if_neg (fun hh=>hu hh.2)]
      · exact step j ej
  · rw [aj (by simpa using c)]
    have e:v = ({ B:=w.B,R:=fun j=>if j < 32∧(w.R j).Up = h then { w.R j with Up:=0 } else w.R j }:ae):=by
      obtain ⟨vb,vr⟩:=v
      congr 1
      funext j
      rw [show vr j = _ from hv j,show i.toNat = 32 by omega]
    rw [e]
section
variable {n:Nat} {t:ai} {w:ae}
theorem sx (hn:40 ≤ n) (r:eo t w) {h:Int} (h0:0 ≤ h):dD n w h = some (vg w h,if aQ w.B h = true then 0 else 4):=by
  unfold dD vg
  have hr:=cL h
  rw [aq (cG hn r.book h0)]
  cases hg:aQ w.B h with
  | false=>rfl
  | true =>
    rw [if_pos rfl,aj (by simp; omega),aq (sw hn r.book h0),lt_eq,lt_eq,aA (eY h),lt_eq,if_pos rfl,if_pos rfl]
    exact vG (n:=n) hn h ⟨wI w.B h,dx w.R (bj h) zB⟩
theorem Bk (hn:40 ≤ n) (r:eo t w) (tt:fA w) {h:Int} (h0:0 ≤ h) (h1:h < 4294967296) :
    ∃t',cQ n t h = some (t',if aQ w.B h = true then 0 else 4)∧eo t' (vg w h)∧fA (vg w h):=by
  obtain ⟨t',w',e,e1,e2,k⟩:=Gj hn r tt h0 h1
  obtain ⟨rfl,rfl⟩:=Prod.mk.inj (Option.some.inj (e2.symm.trans (sx hn r h0)))
  exact ⟨t',e1,k.rt,k.tt⟩
theorem o5 (r:eo t w) {h:Int} (h0:0 ≤ h) (x:Int):aO (vg w h).B x↔aO w.B x∧x ≠ h:=by
  unfold vg
  cases hg:aQ w.B h with
  | false =>
    rw [if_neg (by decide)]
    exact ⟨fun hx=>⟨hx,fun e=>by subst e; have:=hx.2; rw [hg] at this; cases this⟩,fun hx=>hx.1⟩
  | true=>rw [if_pos rfl]; exact qH r.book h0 x
theorem vf (r:eo t w) {h:Int} (h0:0 ≤ h) {x:Int} (hx:aO (vg w h).B x):(vg w h).R (bj x) = if bx w x = h then { w.R (bj x) with Up:=0 } else w.R (bj x):=by
  obtain ⟨x1,x2⟩:=(o5 r h0 x).1 hx
  unfold vg
  cases hg:aQ w.B h with
  | false =>
    rw [if_neg (by decide)]
    split
    · rename_i hu
      have:h = 0∨aO w.B h:=by rw [← hu]; exact r.DK x1
      rcases this with e | e
      · have:(w.R (bj x)).Up = 0:=hu.trans e
        rw [← this]
      · have:=e.2; rw [hg] at this; cases this
    · rfl
  | true =>
    rw [if_pos rfl]
    have hne:bj x ≠ bj h:=fun e=>x2 (by rw [← dS x1,← dS ⟨h0,hg⟩,e])
    dsimp only
    rw [fN _ _ hne]
    by_cases hu:bx w x = h
    · rw [if_pos hu,if_pos ⟨iG x,hu⟩]
    · rw [if_neg hu,if_neg (fun hh=>hu hh.2)]
theorem C2 (r:eo t w) {h:Int} (h0:0 ≤ h) {x:Int} (hx:aO (vg w h).B x):bx (vg w h) x = if bx w x = h then 0 else bx w x:=by
  unfold bx
  rw [vf r h0 hx]
  show (if (w.R (bj x)).Up = h then _ else _:bq).Up = _
  split <;> rfl
theorem mq.drop (i:mq w) (r:eo t w) {h:Int} (h0:0 ≤ h):mq (vg w h):=fun g hg=>by
  have:=i g ((o5 r h0 g).1 hg).1
  rw [vf r h0 hg]
  split
  · exact this
  · exact this
def m5 (w:ae) (h a:Int):ae:={ w with R:=dx w.R (bj h) { w.R (bj h) with Up:=a } }
theorem qd (hn:40 ≤ n) (r:eo t w) (tt:fA w) {h a:Int} (hh:aO w.B h) (ha:a = 0∨aO w.B a) (hno:¬ (a ≠ 0∧(a = h∨h ∈ U6 (bx w) a))):eH n w h a = some (m5 w h a,0):=by
  unfold eH m5
  have a0:0 ≤ a:=by rcases ha with e | e; omega; exact e.1
  have ok:xw w.B a = true:=by
    unfold xw
    rcases ha with e | e
    · rw [e]; rfl
    · rw [e.2,Bool.or_true]
  have e0:∀v:Bool,(((!true) == false) && v) = v:=fun v=>by cases v <;> rfl
  rw [aq (bC hn r hh.1),cz (bC hn r a0),hh.2,e0,hM,ok,aj (by rfl)]
  have key:∀F:Bool→Option (ae × Int),(cl (((a != 0) == true) && ((a == h) == false)) (bE n w h a) default fun fJ=>F ((a != 0) && ((a == h) || fJ))) = F false:=fun F=>by
    by_cases e:a = 0
    · subst e; rfl
    · have hg:=ha.resolve_left e
      have h1:a ≠ h:=fun q=>hno ⟨e, .inl q⟩
      have h2:(U6 (bx w) a).contains h = false:=by
        rw [← Bool.not_eq_true,List.contains_iff_mem]; exact fun q=>hno ⟨e, .inr q⟩
      have e1:(a == h) = false:=by simpa using h1
      rw [hY (by simp [e,h1]) (qP hn r tt h hg),h2,e1]; simp
  rw [key (fun v=>cn v (some (w,12)) (bd (bp n w.B h) fun bN =>
  gu (cV bN 32) <|
  lt ({ w with R:=(dx w.R (Int.toNat bN) ({ (w.R (Int.toNat bN)) with Up:=a })) }:ae) fun eC =>
  some (eC,0))),aj rfl,aq (cG hn r.book hh.1),hh.2,if_pos rfl,aA (eY h)]
  rfl
theorem xo (hn:40 ≤ n) (r:eo t w) (tt:fA w) {h a:Int} (hh:aO w.B h) (ha:a = 0∨aO w.B a) (hno:¬ (a ≠ 0∧(a = h∨h ∈ U6 (bx w) a))) :
    ∃t',cH n t h a = some (t',0)∧eo t' (m5 w h a)∧fA (m5 w h a):=by
  have a0:0 ≤ a∧a < 4294967296:=by rcases ha with e | e; omega; exact ⟨e.1,dU e.2⟩
  obtain ⟨t',w',e,e1,e2,k⟩:=BM hn r tt hh.1 (dU hh.2) a0.1 a0.2
  obtain ⟨rfl,rfl⟩:=Prod.mk.inj (Option.some.inj (e2.symm.trans (qd hn r tt hh ha hno)))
  exact ⟨t',e1,k.rt,k.tt⟩
theorem qK {h a x:Int} (hh:aO w.B h) (hx:aO w.B x):bx (m5 w h a) x = if x = h then a else bx w x:=by
  unfold bx m5
  dsimp only
  rw [bD]
  by_cases e:x = h
  · rw [if_pos e,if_pos (by rw [e])]
  · rw [if_neg e,if_neg (fun q=>e (by rw [← dS hx,← dS hh,q]))]
theorem mq.up (i:mq w) (h a:Int):mq (m5 w h a):=fun g hg=>by
  have:=i g hg
  unfold m5
  dsimp only
  rw [bD]
  split
  · rename_i e; rw [e] at this; exact this
  · exact this
def vD (w:ae) (h:Int) (x:bq):ae:={ w with R:=dx w.R (bj h) { x with Up:=(w.R (bj h)).Up } }
theorem u4 (hn:40 ≤ n) (r:eo t w) {h:Int} (hh:aO w.B h) {x:bq} (hq:0 ≤ x.bJ∧x.bJ ≤ 64) (hm:cR n x.E = some true):fm n w h x = some (vD w h x,0):=by
  unfold fm vD
  have IT:=cL h
  rw [aq (cG (by omega) r.book hh.1),hh.2,if_pos rfl,aj (by simp; omega),cz hm]
  have e2:(decide (x.bJ < 0) || decide (64 < x.bJ)) = false:=by rw [Bool.or_eq_false_iff,decide_eq_false_iff_not,decide_eq_false_iff_not]; omega
  rw [e2,aj (by rfl),aA (eY h),lt_eq,aA (eY h),lt_eq]
  rfl
theorem Ek (hn:110 ≤ n) (r:eo t w) (tt:fA w) {h:Int} (hh:aO w.B h) {p:aX} {x:bq} (hx:rR p x) (hq:0 ≤ x.bJ∧x.bJ ≤ 64) (hm:cR n x.E = some true) :
    ∃t',cK n t h p = some (t',0)∧eo t' (vD w h x)∧fA (vD w h x):=by
  obtain ⟨t',w',e,e1,e2,k⟩:=HM hn r tt hh.1 (dU hh.2) hx
  obtain ⟨rfl,rfl⟩:=Prod.mk.inj (Option.some.inj (e2.symm.trans (u4 (by omega) r hh hq hm)))
  exact ⟨t',e1,k.rt,k.tt⟩
theorem BK (h:Int) (x:bq) (y:Int):bx (vD w h x) y = bx w y:=by
  unfold bx vD
  dsimp only
  rw [bD]
  split
  · rename_i e; rw [e]
  · rfl
theorem mq.set (i:mq w) {h:Int} (hh:aO w.B h) {x:bq} (hq:x.bJ = (w.R (bj h)).bJ) (he:x.E = (w.R (bj h)).E):mq (vD w h x):=fun g hg=>by
  have h1:=i g hg
  have h2:=i h hh
  unfold vD
  dsimp only
  rw [bD]
  split
  · dsimp only; rw [hq,he]; exact h2
  · exact h1
theorem zq (hn:40 ≤ n) (r:eo t w) {a q:Int} (ha:a = 0∨aO w.B a) (hq:0 ≤ q∧q ≤ 64) {f:Nat} (hf:mW w.B f) :
    cM n w a q = some (if f < 32 then (⟨fx w.B f,dx w.R f ⟨a,q,bF,fun _=>0⟩⟩,fy f (w.B.gm f),0) else (w,0,7)):=by
  have a0:0 ≤ a:=by rcases ha with e | e; omega; exact e.1
  have ok:xw w.B a = true:=by
    unfold xw
    rcases ha with e | e
    · rw [e]; rfl
    · rw [e.2,Bool.or_true]
  unfold cM
  rw [cz (bC hn r a0),hM,ok,aj (b:=!true) rfl,aj (by simp; omega),aq (nM hn r.book hf)]
  by_cases hl:f < 32
  · rw [if_pos hl,if_pos hl]
    have hr:=r.book.gG f hl
    obtain ⟨q1,q2,q3,q4,q5⟩:=j8 (i:=f) (g:=w.B.gm f) (by omega) (by omega) hr.1 hr.2
    obtain ⟨b',i1,i2⟩:=sF (n:=n) hn r.book hf
    rw [if_pos hl] at i2
    have hnew:aO (fx w.B f) (fy f (w.B.gm f)):=(gC r.book hf hl _).2 (.inr rfl)
    have hfn:(fU (fy f (w.B.gm f))).toNat = f:=by rw [q2]; omega
    rw [aj (by simp; omega),lt_eq]
    dsimp only
    rw [aq (cG hn i2 (by omega)),hnew.2,if_pos rfl]
    show gu (cV (fU (fy f (w.B.gm f))) 32) _ = _
    rw [aA (eY _),hfn]; rfl
  · rw [if_neg hl,if_neg hl]; rfl
end
end Go.Proofs.Ytmdpbdhkmfjlhaa
namespace Go.Proofs.Ytmdpbdhkmfjlhaa
open Go Go.Bw
abbrev cZ (w:ae) (l:List Int):ae:=l.foldl vg w
section
variable {n:Nat} {t:ai} {w:ae}
theorem ry (l:List Int):∀{t:ai} {w:ae},eo t w→fA w→mq w→(∀x ∈ l,0 ≤ x∧x < 4294967296)→(∃t',eo t' (cZ w l))∧fA (cZ w l)∧mq (cZ w l)∧(∀y,aO (cZ w l).B y↔aO w.B y∧y ∉ l)∧(∀y,aO (cZ w l).B y→bx (cZ w l) y = if bx w y ∈ l then 0 else bx w y):=by
  induction l with
  | nil=>intro t w r tt i _; exact ⟨⟨t,r⟩,tt,i,fun y=>by simp,fun y _=>by simp⟩
  | cons x l ih =>
    intro t w r tt i hl
    have hx:=hl x (by simp)
    obtain ⟨t1,_,r1,G8⟩:=Bk (n:=40) (by omega) r tt hx.1 hx.2
    obtain ⟨a1,a2,a3,a4,a5⟩:=ih r1 G8 (i.drop r hx.1) fun y hy=>hl y (by simp [hy])
    refine ⟨a1,a2,a3,fun y=>?_,fun y hy=>?_⟩
    · refine (a4 y).trans ?_
      rw [o5 r hx.1,List.mem_cons,not_or,and_assoc]
    · refine (a5 y hy).trans ?_
      rw [C2 r hx.1 ((a4 y).1 hy).1]
      by_cases e:bx w y = x
      · rw [if_pos e,if_pos (List.mem_cons.2 (.inl e))]; split <;> rfl
      · rw [if_neg e]
        by_cases e2:bx w y ∈ l
        · rw [if_pos e2,if_pos (List.mem_cons_of_mem _ e2)]
        · rw [if_neg e2,if_neg (fun h=>(List.mem_cons.1 h).elim e e2)]
theorem C1 (hn:100 ≤ n) (r:eo t w) (tt:fA w) {l:List Int} (hl:∀x ∈ l,0 ≤ x∧x < 4294967296) (hlen:l.length ≤ 40):∃t',cP (fun EN (dg:Int) (mj:ai) =>
  cn (decide (dg < (l.length:Int))) (
  gu (cV dg l.length) <|
  bd (cQ n mj (l.getD (Int.toNat dg) default)) fun lO =>
  EN (wr .i64 (dg + 1)) lO.1) (
  some (mj,l,(0:Int)))) n 0 t = some (t',l,0)∧eo t' (cZ w l)∧fA (cZ w l):=by
  refine de (fun (i:Int) (t:ai)=>∃k:Nat,i = k∧k ≤ l.length∧eo t (cZ w (l.take k))∧fA (cZ w (l.take k))) (fun i _=>l.length - i.toNat) (fun o=>∃t',o = some (t',l,0)∧eo t' (cZ w l)∧fA (cZ w l)) ?_ n 0 t ⟨0,rfl,by omega,r,tt⟩ (by omega)
  rintro kk i t ⟨k,rfl,hk,r,tt⟩ ih
  by_cases c:k < l.length
  · have hx:=hl _ (fq (l:=l) (i:=k) c)
    obtain ⟨t1,e1,r1,G8⟩:=Bk (n:=n) (by omega) r tt hx.1 hx.2
    have et:vg (cZ w (l.take k)) (l.getD k default) = cZ w (l.take (k + 1)):=by
      rw [List.take_succ_eq_append_getElem c,← ff c,cZ,cZ,List.foldl_append]; rfl
    rw [et] at r1 G8
    rw [aC (decide_eq_true (by omega)),aA (bT (by omega) (by omega)),Int.toNat_natCast,aq e1,bK (by omega) (by omega)]
    exact ih _ _ ⟨k + 1,by omega,by omega,r1,G8⟩ (by omega)
  · rw [aj (decide_eq_false (by omega))]
    rw [List.take_of_length_le (by omega)] at r tt
    exact ⟨t,rfl,r,tt⟩
theorem C0 (hn:100 ≤ n) (r:eo t w) (tt:fA w) (i:mq w) {l:List Int} (hl:∀x ∈ l,0 ≤ x∧x < 4294967296) (hlen:l.length ≤ 40) {ρ:Type} (F:ae→Option ρ):cP (fun EO (hJ:Int) (iW:ae) =>
  cn (decide (hJ < (l.length:Int))) (
  gu (cV hJ l.length) <|
  bd (dD n iW (l.getD (Int.toNat hJ) default)) fun mj =>
  EO (wr .i64 (hJ + 1)) mj.1) (
  F iW)) n 0 w = F (cZ w l):=by
  refine de (fun (i:Int) (v:ae)=>∃k:Nat,i = k∧k ≤ l.length∧v = cZ w (l.take k)) (fun i _=>l.length - i.toNat) (fun o=>o = F (cZ w l)) ?_ n 0 w ⟨0,rfl,by omega,rfl⟩ (by omega)
  rintro kk x v ⟨k,rfl,hk,rfl⟩ ih
  by_cases c:k < l.length
  · have hx:=hl _ (fq (l:=l) (i:=k) c)
    obtain ⟨⟨t1,r1⟩,_⟩:=ry (l.take k) r tt i fun y hy=>hl y (List.mem_of_mem_take hy)
    rw [aC (decide_eq_true (by omega)),aA (bT (by omega) (by omega)),Int.toNat_natCast,aq (sx (by omega) r1 hx.1),bK (by omega) (by omega)]
    exact ih _ _ ⟨k + 1,by omega,by omega,by rw [List.take_succ_eq_append_getElem c,← ff c,cZ,cZ,List.foldl_append]; rfl⟩ (by omega)
  · rw [aj (decide_eq_false (by omega)),List.take_of_length_le (by omega)]
theorem k9 (r:eo t w) (tt:fA w) (a:Int):(∀x ∈ dB w a,aO w.B x)∧(dB w a).length ≤ 32:=by
  unfold dB
  cases hg:aQ w.B a with
  | false=>exact ⟨fun x hx=>(by rw [if_neg (by decide)] at hx; cases hx),by simp⟩
  | true =>
    rw [if_pos rfl]
    by_cases h0:0 ≤ a
    · obtain ⟨ρ,f⟩:=mZ r tt
      have ha:=(aZ r.book a).2 ⟨h0,hg⟩
      exact ⟨fun x hx=>(aZ r.book x).1 ((f.iM ha x).1 hx).1,f.oA ha⟩
    · exact absurd hg (by
        intro h
        have h3:=(eE.1 h).2.2
        have h4:=r.book.gG (bj a) (iG a)
        unfold bj at h4
        omega)
theorem mu (r:eo t w) (tt:fA w) (a:Int):∀x ∈ dB w a,0 ≤ x∧x < 4294967296:=fun x hx=>by
  have:=(k9 r tt a).1 x hx; exact ⟨this.1,dU this.2⟩
theorem zi (r:eo t w) (tt:fA w) {a:Int} (h0:0 ≤ a):(dB w a).length = 0↔aQ w.B a = false:=by
  unfold dB
  cases hg:aQ w.B a with
  | false=>simp
  | true =>
    obtain ⟨ρ,f⟩:=mZ r tt
    rw [if_pos rfl,f.qI ((aZ r.book a).2 ⟨h0,hg⟩)]; simp
theorem Gf (hn:200 ≤ n) (r:eo t w) (tt:fA w) (i:mq w) {a:Int} (h0:0 ≤ a) (h1:a < 4294967296) :
    ∃t',iq n t a = some (t',dB w a,if aQ w.B a = true then 0 else 4)∧oH n w a = some (cZ w (dB w a),dB w a,if aQ w.B a = true then 0 else 4)∧eo t' (cZ w (dB w a))∧fA (cZ w (dB w a)):=by
  have hr:=mu r tt a
  have hl:=(k9 r tt a).2
  have hz:=zi r tt h0
  unfold iq oH
  rw [aq (tD (by omega) r tt h0 h1),aq (qO (by omega) r tt h0)]
  have hR:=C0 (n:=n) (by omega) r tt i hr (by omega) fun v=>cn (((dB w a).length:Int) == 0) (some (v,([]:List Int),(4:Int))) (some (v,dB w a,0))
  cases hg:aQ w.B a with
  | false =>
    have e:=List.length_eq_zero_iff.1 (hz.2 hg)
    rw [e] at hR ⊢
    exact ⟨t,by rw [aC (by rfl)]; rfl,hR,r,tt⟩
  | true =>
    have e:(((dB w a).length:Int) == 0) = false:=by
      have:(dB w a).length ≠ 0:=fun q=>by have:=hz.1 q; rw [hg] at this; cases this
      simpa using this
    obtain ⟨t',e1,e2,e3⟩:=C1 (n:=n) (by omega) r tt hr (by omega)
    rw [aj e]
    refine ⟨t',e1,?_,e2,e3⟩
    rw [hR,aj e]; rfl
def wN (L:List Int) (c0 c:Nat→Int):Nat→Int:=fun i=>if i < 8∧L.contains (c0 i) = true then 0 else c i
theorem Gp {α ρ:Type} (get:α→Nat→Int) (put:α→Nat→α) (p:α) (c:Nat→Int) (d:Int→Option Bool) (L:List Int) (hd:∀i,i < 8→d (c i) = some (L.contains (c i))) (fin:(Nat→Int)→α) (h0:fin (get p) = p)
    (hput:∀g i,put (fin g) i = fin (dx g i 0)) (F:α→Option ρ) {m:Nat} (hm:10 ≤ m):cP (fun A3 (kH:Int) (lM:α) =>
  cn (decide (kH < 8)) (
  gu (cV kH 8) <|
  bd (d (c (Int.toNat kH))) fun wS =>
  cn (wS) (
  gu (cV kH 8) <|
  lt (put lM (Int.toNat kH)) fun vw =>
  A3 (wr .i64 (kH + 1)) vw) (
  A3 (wr .i64 (kH + 1)) lM)) (
  F lM)) m 0 p = F (fin (wN L c (get p))):=by
  refine de (fun (i:Int) (v:α)=>∃k:Nat,i = k∧k ≤ 8∧v = fin (fun j=>if j < k∧L.contains (c j) = true then 0 else get p j)) (fun i _=>8 - i.toNat) (fun o=>o = F (fin (wN L c (get p)))) ?_ m 0 p ⟨0,rfl,by omega,by simp [h0]⟩ (by omega)
  rintro kk x v ⟨k,rfl,hk,rfl⟩ ih
  by_cases q:k < 8
  · rw [aC (decide_eq_true (by omega)),aA (bT (by omega) (by omega)),Int.toNat_natCast,aq (hd k q),bK (by omega) (by omega)]
    have st:∀j,j ≠ k→(if j < k + 1∧L.contains (c j) = true then (0:Int) else get p j) = if j < k∧L.contains (c j) = true then 0 else get p j:=fun j hj=>by
      by_cases h1:L.contains (c j) = true
      · by_cases h2:j < k
        · rw [if_pos ⟨by omega,h1⟩,if_pos ⟨h2,h1⟩]
        · rw [if_neg (fun h=>by omega),if_neg (fun h=>h2 h.1)]
      · rw [if_neg (fun h=>h1 h.2),if_neg (fun h=>h1 h.2)]
    cases hc:L.contains (c k) with
    | true =>
      rw [aC rfl,aA (bT (by omega) (by omega)),lt_eq,hput]
      refine ih _ _ ⟨k + 1,by omega,by omega,?_⟩ (by omega)
      congr 1; funext j
      rw [bD]
      by_cases e:j = k
      · subst e; rw [if_pos rfl,if_pos ⟨by omega,hc⟩]
      · rw [if_neg e,st j e]
    | false =>
      rw [aj rfl]
      refine ih _ _ ⟨k + 1,by omega,by omega,?_⟩ (by omega)
      congr 1; funext j
      by_cases e:j = k
      · subst e; rw [if_neg (fun h=>by rw [hc] at h; exact absurd h.2 (by decide)),if_neg (fun h=>by rw [hc] at h; exact absurd h.2 (by decide))]
      · rw [st j e]
  · rw [aj (decide_eq_false (by omega))]
    obtain rfl:k = 8:=by omega
    rfl
def qz (w0:ae) (L:List Int) (v:ae) (x:Int):ae:={ v with R:=dx v.R (bj x) { v.R (bj x) with Cells:=wN L (w0.R (bj x)).Cells (v.R (bj x)).Cells } }
abbrev jW (w:ae) (L l:List Int):ae:=l.foldl (qz w L) w
theorem C7 (w0:ae) (L:List Int) (v:ae) (x y:Int):bx (qz w0 L v x) y = bx v y:=by
  unfold bx qz
  dsimp only
  rw [bD]
  split
  · rename_i e; rw [e]
  · rfl
theorem ny (w0:ae) (L l:List Int):∀v:ae,(l.foldl (qz w0 L) v).B = v.B:=by
  induction l with
  | nil=>intro v; rfl
  | cons x l ih=>intro v; exact ih _
theorem Ac (w0:ae) (L l:List Int) (y:Int):∀v:ae,bx (l.foldl (qz w0 L) v) y = bx v y:=by
  induction l with
  | nil=>intro v; rfl
  | cons x l ih=>intro v; exact (ih _).trans (C7 _ _ _ _ _)
theorem uv (w0:ae) (L l:List Int) {y:Int}:∀v:ae,(∀x ∈ l,bj x ≠ bj y)→(l.foldl (qz w0 L) v).R (bj y) = v.R (bj y):=by
  induction l with
  | nil=>intro v _; rfl
  | cons x l ih =>
    intro v h
    refine (ih _ fun z hz=>h z (by simp [hz])).trans ?_
    unfold qz
    exact fN _ _ (Ne.symm (h x (by simp)))
theorem rh {B:ax} {x y:Int} (hx:aO B x) (hy:aO B y) (e:bj x = bj y):x = y:=by rw [← dS hx,← dS hy,e]
theorem uw (w:ae) (L:List Int) {l:List Int} (hl:∀x ∈ l,aO w.B x) (hd:l.Nodup) {y:Int} (hy:y ∈ l):∀v:ae,(v.R (bj y)).Cells = (w.R (bj y)).Cells→((l.foldl (qz w L) v).R (bj y)).Cells = wN L (w.R (bj y)).Cells (w.R (bj y)).Cells:=by
  induction l with
  | nil=>cases hy
  | cons x l ih =>
    intro v hv
    obtain ⟨hx,hd⟩:=List.nodup_cons.1 hd
    rw [List.foldl_cons]
    rcases List.mem_cons.1 hy with e | hy
    · subst e
      rw [uv w L l _ fun z hz q=>hx (by rw [← rh (hl z (by simp [hz])) (hl y (by simp)) q]; exact hz)]
      unfold qz
      dsimp only
      rw [kI,hv]
    · refine ih (fun z hz=>hl z (by simp [hz])) hd hy _ ?_
      unfold qz
      dsimp only
      rw [fN _ _ (fun q=>hx (by rw [rh (hl x (by simp)) (hl y (by simp [hy])) q.symm]; exact hy))]
      exact hv
end
end Go.Proofs.Ytmdpbdhkmfjlhaa
namespace Go.Proofs.Ytmdpbdhkmfjlhaa
open Go Go.Bw
section
variable {n:Nat} {t:ai} {w:ae}
theorem qR (r:eo t w) (tt:fA w) {h:Int} (hh:aO w.B h) {c:Int} (c0:0 ≤ c):((c != h) && m8 w c h) = (U6 (bx w) h).contains c:=by
  obtain ⟨ρ,f⟩:=mZ r tt
  have hG:=(aZ r.book h).2 hh
  unfold m8
  by_cases e:c = h
  · subst e
    have:(U6 (bx w) c).contains c = false:=by rw [← Bool.not_eq_true,List.contains_iff_mem]; exact f.AW hG
    rw [this]; simp
  · have e1:(c != h) = true:=by simpa using e
    have e2:(c == h) = false:=by simpa using e
    rw [e1,e2,hh.2]
    cases hc:(U6 (bx w) h).contains c with
    | false=>simp
    | true =>
      have:=(aZ r.book c).1 (f.mw hG c (List.contains_iff_mem.1 hc)).1
      rw [this.2]; rfl
theorem C6 (hn:100 ≤ n) (r:eo t w) (tt:fA w) {h:Int} (hh:aO w.B h) (s:Int) (hs:0 ≤ s∧s < 32) (v:ae) {ρ:Type} (F:ae→Option ρ) :
    cP (fun A4 (lu:Int) (lN:ae) =>
  cn (decide (lu < 8)) (
  gu (cV s 32) <|
  gu (cV lu 8) <|
  cl ((((w.R (Int.toNat s)).Cells (Int.toNat lu)) != 0) == true) (bE n w ((w.R (Int.toNat s)).Cells (Int.toNat lu)) h) default fun wT =>
  cn (((((w.R (Int.toNat s)).Cells (Int.toNat lu)) != 0) && wT)) (
  gu (cV s 32) <|
  gu (cV lu 8) <|
  lt ({ lN with R:=(dx lN.R (Int.toNat s) ({ (lN.R (Int.toNat s)) with Cells:=(dx ((lN.R (Int.toNat s)).Cells) (Int.toNat lu) 0) })) }:ae) fun D6 =>
  A4 (wr .i64 (lu + 1)) D6) (
  A4 (wr .i64 (lu + 1)) lN)) (
  F lN)) n 0 v = F { v with R:=dx v.R s.toNat { v.R s.toNat with Cells:=wN (U6 (bx w) h) (w.R s.toNat).Cells (v.R s.toNat).Cells } }:=by
  obtain ⟨ρ',f⟩:=mZ r tt
  have hG:=(aZ r.book h).2 hh
  have I3:cV s 32 = true:=bT hs.1 (by omega)
  have key:∀(c:Int) (G:Bool→Option ρ),(cl ((c != 0) == true) (bE n w c h) default fun wT=>G ((c != 0) && wT)) = G ((U6 (bx w) h).contains c):=fun c G=>by
    by_cases e:c = 0
    · subst e
      have:(U6 (bx w) h).contains 0 = false:=by
        rw [← Bool.not_eq_true,List.contains_iff_mem]; exact fun q=>f.pos 0 (f.mw hG 0 q).1 rfl
      rw [this]; rfl
    · have e1:(c != 0) = true:=by simpa using e
      rw [hY (by rw [e1]; rfl) (qP (by omega) r tt c hh),e1,Bool.true_and]
  refine de (fun (i:Int) (x:ae)=>∃k:Nat,i = k∧k ≤ 8∧x = { v with R:=dx v.R s.toNat { v.R s.toNat with Cells:=fun j=>if j < k∧(U6 (bx w) h).contains ((w.R s.toNat).Cells j) = true then 0 else (v.R s.toNat).Cells j } }) (fun i _=>8 - i.toNat)
    (fun o=>o = F { v with R:=dx v.R s.toNat { v.R s.toNat with Cells:=wN (U6 (bx w) h) (w.R s.toNat).Cells (v.R s.toNat).Cells } }) ?_ n 0 v ⟨0,rfl,by omega,?_⟩ (by omega)
  · rintro kk x y ⟨k,rfl,hk,rfl⟩ ih
    by_cases q:k < 8
    · have DO:cV (k:Int) 8 = true:=bT (by omega) (by omega)
      have st:∀j,j ≠ k→(if j < k + 1∧(U6 (bx w) h).contains ((w.R s.toNat).Cells j) = true then (0:Int) else (v.R s.toNat).Cells j) = if j < k∧(U6 (bx w) h).contains ((w.R s.toNat).Cells j) = true then 0 else (v.R s.toNat).Cells j:=fun j hj=>by
        by_cases h1:(U6 (bx w) h).contains ((w.R s.toNat).Cells j) = true
        · by_cases h2:j < k
          · rw [if_pos ⟨by omega,h1⟩,if_pos ⟨h2,h1⟩]
          · rw [if_neg (fun h=>by omega),if_neg (fun h=>h2 h.1)]
        · rw [if_neg (fun h=>h1 h.2),if_neg (fun h=>h1 h.2)]
      rw [aC (decide_eq_true (by omega)),aA I3,aA DO,Int.toNat_natCast,bK (x:=(k:Int) + 1) (by omega) (by omega)]
      refine (key _ (fun b=>cn b _ _)).trans ?_
      cases hc:(U6 (bx w) h).contains ((w.R s.toNat).Cells k) with
      | true =>
        rw [aC rfl,aA I3,aA DO,lt_eq]
        refine ih _ _ ⟨k + 1,by omega,by omega,?_⟩ (by omega)
        dsimp only
        rw [qJ,kI]
        congr 2
        congr 1
        funext j
        rw [bD]
        by_cases e:j = k
        · subst e; rw [if_pos rfl,if_pos ⟨by omega,hc⟩]
        · rw [if_neg e,st j e]
      | false =>
        rw [aj rfl]
        refine ih _ _ ⟨k + 1,by omega,by omega,?_⟩ (by omega)
        dsimp only
        congr 2
        congr 1
        funext j
        by_cases e:j = k
        · subst e; rw [if_neg (fun h=>by rw [hc] at h; exact absurd h.2 (by decide)),if_neg (fun h=>by rw [hc] at h; exact absurd h.2 (by decide))]
        · rw [st j e]
    · rw [aj (decide_eq_false (by omega))]
      obtain rfl:k = 8:=by omega
      rfl
  · have:(fun j=>if j < 0∧(U6 (bx w) h).contains ((w.R s.toNat).Cells j) = true then (0:Int) else (v.R s.toNat).Cells j) = (v.R s.toNat).Cells:=by funext j; simp
    rw [this]
    obtain ⟨vb,vr⟩:=v
    congr 1
    funext j
    rw [bD]
    split
    · rename_i e; rw [e]
    · rfl
theorem Gm (hn:200 ≤ n) {t0:ai} {w0:ae} (r0:eo t0 w0) (Kw:fA w0) (i0:mq w0) {h:Int} (hh:aO w0.B h) (fin:ai→Option (ai × Int)) (l:List Int):∀{t:ai} {w:ae},eo t w→fA w→mq w→w.B = w0.B→(∀x ∈ l,aO w.B x∧w.R (bj x) = w0.R (bj x))→l.Nodup →
    ∃t',eB (fun (JR:Int) Ih (dg:ai) =>
  lt (JR:Int) fun k8 =>
  bd (bX n dg k8) fun j3 =>
  cP (fun A3 (kH:Int) (lM:aX) =>
  cn (decide (kH < 8)) (
  gu (cV kH 8) <|
  bd (fh n (j3.1.Cells (Int.toNat kH)) h t0) fun wS =>
  cn (wS) (
  gu (cV kH 8) <|
  lt ({ lM with Cells:=(dx lM.Cells (Int.toNat kH) 0) }:aX) fun vw =>
  A3 (wr .i64 (kH + 1)) vw) (
  A3 (wr .i64 (kH + 1)) lM)) (
  bd (cK n dg k8 lM) fun tB =>
  Ih tB.1)) n 0 j3.1) fin l t = fin t'∧eo t' (l.foldl (qz w0 (U6 (bx w0) h)) w)∧fA (l.foldl (qz w0 (U6 (bx w0) h)) w)∧mq (l.foldl (qz w0 (U6 (bx w0) h)) w):=by
  induction l with
  | nil=>intro t w r tt i _ _ _; exact ⟨t,rfl,r,tt,i⟩
  | cons x l ih =>
    intro t w r tt i hb hl hd
    obtain ⟨hx,hd⟩:=List.nodup_cons.1 hd
    obtain ⟨hg,hr⟩:=hl x (by simp)
    obtain ⟨l1,l2⟩:=cw hg
    have hR:=r.zn _ l1 l2
    have hq:=i x hg
    have hc:∀k,k < 8→fh n ((jG t w x).Cells k) h t0 = some ((U6 (bx w0) h).contains ((jG t w x).Cells k)):=fun k hk=>by
      have e1:(jG t w x).Cells k = (w.R (bj x)).Cells k:=hR.c k hk
      have e2:=hR.c0 k hk
      rw [e1]
      unfold fh
      rw [cz (oc (by omega) r0 Kw e2.1 (by omega) hh.1 (dU hh.2)),← qR r0 Kw hh e2.1]
      cases h3:((w.R (bj x)).Cells k != h) <;> rfl
    have hin:=fun F:aX→Option (ai × Int)=>Gp (fun v:aX=>v.Cells) (fun v k=>{ v with Cells:=dx v.Cells k 0 }) (jG t w x) (jG t w x).Cells (fun c=>fh n c h t0) (U6 (bx w0) h) hc (fun g=>{ jG t w x with Cells:=g }) rfl (fun _ _=>rfl) F (m:=n) (by omega)
    have hp:rR { jG t w x with Cells:=wN (U6 (bx w0) h) (jG t w x).Cells (jG t w x).Cells } { w.R (bj x) with Cells:=wN (U6 (bx w0) h) (w0.R (bj x)).Cells (w.R (bj x)).Cells }:=by
      refine ⟨hR.q,hR.e,hR.n,hR.r,fun k hk=>?_,fun k hk=>?_⟩
      · show (if k < 8∧(U6 (bx w0) h).contains ((jG t w x).Cells k) = true then 0 else (jG t w x).Cells k) = if k < 8∧(U6 (bx w0) h).contains ((w0.R (bj x)).Cells k) = true then 0 else (w.R (bj x)).Cells k
        have e1:(jG t w x).Cells k = (w.R (bj x)).Cells k:=hR.c k hk
        rw [e1,← hr]
      · have:=hR.c0 k hk
        show 0 ≤ (if k < 8∧(U6 (bx w0) h).contains ((w0.R (bj x)).Cells k) = true then 0 else (w.R (bj x)).Cells k)∧(if k < 8∧(U6 (bx w0) h).contains ((w0.R (bj x)).Cells k) = true then 0 else (w.R (bj x)).Cells k) ≤ 4294967295
        split
        · decide
        · exact this
    obtain ⟨t1,s1,s2,s3⟩:=Ek (n:=n) (by omega) r tt hg hp hq.1 (hq.2 n (by omega))
    have et:vD w x { w.R (bj x) with Cells:=wN (U6 (bx w0) h) (w0.R (bj x)).Cells (w.R (bj x)).Cells } = qz w0 (U6 (bx w0) h) w x:=rfl
    rw [et] at s2 s3
    have si:mq (qz w0 (U6 (bx w0) h) w x):=i.set hg (x:={ w.R (bj x) with Cells:=wN (U6 (bx w0) h) (w0.R (bj x)).Cells (w.R (bj x)).Cells }) rfl rfl
    have nS:∀y ∈ l,aO (qz w0 (U6 (bx w0) h) w x).B y∧(qz w0 (U6 (bx w0) h) w x).R (bj y) = w0.R (bj y):=fun y hy=>by
      obtain ⟨y1,y2⟩:=hl y (by simp [hy])
      refine ⟨y1,?_⟩
      rw [← y2]
      unfold qz
      exact fN _ _ (fun q=>hx (by rw [rh hg y1 q.symm]; exact hy))
    obtain ⟨t',q1,q2,q3,q4⟩:=ih s2 s3 si hb nS hd
    refine ⟨t',?_,q2,q3,q4⟩
    refine Eq.trans ?_ q1
    show bd (bX n t x) _ = _
    rw [aq (mH r hg.1 (dU hg.2)),if_pos hg.2]
    refine (hin _).trans ?_
    rw [aq s1]
theorem Gl (hn:200 ≤ n) (r:eo t w) (tt:fA w) {h:Int} (hh:aO w.B h) {l:List Int} (hl:∀x ∈ l,aO w.B x) (hlen:l.length ≤ 40) {ρ:Type} (F:ae→Option ρ) :
    cP (fun Ig (iP:Int) (dg:ae) =>
  cn (decide (iP < (l.length:Int))) (
  gu (cV iP l.length) <|
  bd (bp n w.B (l.getD (Int.toNat iP) default)) fun k8 =>
  cP (fun A4 (lu:Int) (lN:ae) =>
  cn (decide (lu < 8)) (
  gu (cV k8 32) <|
  gu (cV lu 8) <|
  cl ((((w.R (Int.toNat k8)).Cells (Int.toNat lu)) != 0) == true) (bE n w ((w.R (Int.toNat k8)).Cells (Int.toNat lu)) h) default fun wT =>
  cn (((((w.R (Int.toNat k8)).Cells (Int.toNat lu)) != 0) && wT)) (
  gu (cV k8 32) <|
  gu (cV lu 8) <|
  lt ({ lN with R:=(dx lN.R (Int.toNat k8) ({ (lN.R (Int.toNat k8)) with Cells:=(dx ((lN.R (Int.toNat k8)).Cells) (Int.toNat lu) 0) })) }:ae) fun D6 =>
  A4 (wr .i64 (lu + 1)) D6) (
  A4 (wr .i64 (lu + 1)) lN)) (
  Ig (wr .i64 (iP + 1)) lN)) n 0 dg) (
  F dg)) n 0 w = F (jW w (U6 (bx w) h) l):=by
  refine de (fun (i:Int) (v:ae)=>∃k:Nat,i = k∧k ≤ l.length∧v = jW w (U6 (bx w) h) (l.take k)) (fun i _=>l.length - i.toNat) (fun o=>o = F (jW w (U6 (bx w) h) l)) ?_ n 0 w ⟨0,rfl,by omega,rfl⟩ (by omega)
  rintro kk x v ⟨k,rfl,hk,rfl⟩ ih
  by_cases c:k < l.length
  · have hx:=hl _ (fq (l:=l) (i:=k) c)
    rw [aC (decide_eq_true (by omega)),aA (bT (by omega) (by omega)),Int.toNat_natCast,aq (cG (by omega) r.book hx.1),hx.2,if_pos rfl,C6 (by omega) r tt hh _ (by have:=cL (l.getD k default); omega),bK (by omega) (by omega)]
    exact ih _ _ ⟨k + 1,by omega,by omega,by rw [List.take_succ_eq_append_getElem c,← ff c,jW,jW,List.foldl_append]; rfl⟩ (by omega)
  · rw [aj (decide_eq_false (by omega)),List.take_of_length_le (by omega)]
def jy (w:ae) (h:Int):ae:=if aQ w.B h = true then m5 (jW w (U6 (bx w) h) (V6 (Gw w) (bx w) h)) h 0 else w
theorem J0 (hn:200 ≤ n) (r:eo t w) (tt:fA w) (i:mq w) {h:Int} (h0:0 ≤ h) (h1:h < 4294967296) :
    ∃t',g6 n t h = some (t',if aQ w.B h = true then 0 else 4)∧qh n w h = some (jy w h,if aQ w.B h = true then 0 else 4)∧eo t' (jy w h)∧fA (jy w h)∧mq (jy w h):=by
  unfold g6 qh jy
  rw [aq (jh r.book h0 h1),aq (bC (by omega) r h0)]
  cases hg:aQ w.B h with
  | false =>
    simp only [Bool.false_eq_true,if_false]
    exact ⟨t,rfl,rfl,r,tt,i⟩
  | true =>
    rw [if_pos rfl,if_pos rfl]
    have hh:aO w.B h:=⟨h0,hg⟩
    obtain ⟨ρ,f⟩:=mZ r tt
    have hm:=aZ r.book
    have hG:=(hm h).2 hh
    have hu:dB w h = V6 (Gw w) (bx w) h:=by unfold dB; rw [if_pos hg]
    have hl:∀x ∈ V6 (Gw w) (bx w) h,aO w.B x:=fun x hx=>(hm x).1 ((f.iM hG x).1 hx).1
    rw [aj (b:=!true) rfl,aj (b:=!true) rfl]
    unfold eK
    rw [aq rfl,aq (oB (by omega) r tt hh),aq (qO (by omega) r tt h0),hu]
    obtain ⟨t1,a1,a2,a3,a4⟩:=Gm (n:=n) hn r tt i hh (fun dg=>bd (cH n dg h 0) fun mh=>some (mh.1,mh.2)) (V6 (Gw w) (bx w) h) r tt i rfl (fun x hx=>⟨hl x hx,rfl⟩) (f.wX hG)
    have hb:(jW w (U6 (bx w) h) (V6 (Gw w) (bx w) h)).B = w.B:=ny _ _ _ _
    have My:aO (jW w (U6 (bx w) h) (V6 (Gw w) (bx w) h)).B h:=by rw [hb]; exact hh
    obtain ⟨t2,b1,b2,b3⟩:=xo (n:=n) (by omega) a2 a3 My (a:=0) (.inl rfl) (fun q=>q.1 rfl)
    refine ⟨t2,?_,?_,b2,b3,a4.up h 0⟩
    · refine a1.trans ?_
      rw [aq b1]
    · refine (Gl (n:=n) hn r tt hh hl (by have:=f.oA hG; omega) _).trans ?_
      generalize jW w (U6 (bx w) h) (V6 (Gw w) (bx w) h) = v
      rw [aq (cG (by omega) r.book h0),hg,if_pos rfl,aA (eY h)]
      rfl
end
end Go.Proofs.Ytmdpbdhkmfjlhaa
namespace Go.Proofs.Ytmdpbdhkmfjlhaa
open Go Go.Bw
section
variable {G:List Int} {up up' : Int→Int} {ρ ρ' : Int→Nat}
theorem Fo.Ga (f:Fo G up ρ) (f' : Fo G up' ρ') {h a:Int} (Bb:∀x ∈ G,up' x = if x = h then a else up x) (ha:a ≠ 0) (h0:up h = 0):∀y ∈ G,U6 up' y = if y = h∨h ∈ U6 up y then U6 up y++(a::U6 up' a) else U6 up y:=by
  refine f.pL _ fun y hy ih=>?_
  have hu:=Bb y hy
  by_cases e:y = h
  · subst e
    rw [if_pos rfl] at hu
    rw [if_pos (.inl rfl),f.u0 hy h0,f'.u1 hy (by rw [hu]; exact ha),hu]; rfl
  · rw [if_neg e] at hu
    by_cases e0:up y = 0
    · rw [f'.u0 hy (hu.trans e0),f.u0 hy e0,if_neg (fun q=>q.elim e (by simp))]
    · have hi:=ih e0
      rw [f'.u1 hy (by rw [hu]; exact e0),hu,hi,f.u1 hy e0]
      by_cases q:up y = h∨h ∈ U6 up (up y)
      · rw [if_pos q,if_pos (.inr (List.mem_cons.2 (q.imp Eq.symm _root_.id)))]; rfl
      · rw [if_neg q,if_neg (fun p=>p.elim e fun p=>q ((List.mem_cons.1 p).imp Eq.symm _root_.id))]
theorem Fo.JJ (f:Fo G up ρ) (f' : Fo G up' ρ') {h a:Int} (Bb:∀x ∈ G,up' x = if x = h then a else up x) (hh:h ∈ G) (h0:up h = 0) (hno:¬ (a = h∨h ∈ U6 up a)):∀x ∈ G,(x = h∨h ∈ U6 up x)→V6 G up' x = V6 G up x:=by
  refine f.C5 _ fun x hx ih hv=>?_
  have hk:fa G up' x = fa G up x:=by
    unfold fa
    refine List.filter_congr fun y hy=>?_
    rw [Bb y hy]
    by_cases e:y = h
    · subst e
      have e1:(a == x) = false:=by
        simp only [beq_eq_false_iff_ne,ne_eq]
        exact fun q=>hno (by rw [q]; exact hv)
      have e2:(up y == x) = false:=by
        rw [h0]; simp only [beq_eq_false_iff_ne,ne_eq]; exact fun q=>f.pos x hx q.symm
      rw [if_pos rfl,e1,e2]
    · rw [if_neg e]
  rw [f.qI hx,f'.qI hx,hk]
  congr 1
  refine lZ fun y hy=>?_
  obtain ⟨y1,y2⟩:=fQ.1 hy
  refine ih y y1 y2 (.inr ?_)
  rw [f.u1 y1 (by rw [y2]; exact f.pos x hx),y2]
  exact List.mem_cons.2 (hv.imp Eq.symm _root_.id)
end
section
variable {n:Nat} {t:ai} {w:ae}
theorem rz (r:eo t w) (tt:fA w) (x:Int):0 ≤ dK w x∧dK w x ≤ 33:=by
  unfold dK
  by_cases hg:aQ w.B x = true
  · rw [if_pos hg]
    by_cases h0:0 ≤ x
    · obtain ⟨ρ,f⟩:=mZ r tt
      have:=f.w5 ((aZ r.book x).2 ⟨h0,hg⟩); omega
    · have h3:=(eE.1 hg).2.2
      have h4:=r.book.gG (bj x) (iG x)
      unfold bj at h4; omega
  · rw [if_neg hg]; omega
theorem Eh (hn:200 ≤ n) (r:eo t w) (tt:fA w) {h:Int} (hh:aO w.B h):∃m,ij n t h = some m∧0 ≤ m∧m ≤ 34∧∀k,0 ≤ k→(k < m↔∃y ∈ V6 (Gw w) (bx w) h,k < dK w y - dK w h + 1):=by
  obtain ⟨ρ,f⟩:=mZ r tt
  have hm:=aZ r.book
  have hG:=(hm h).2 hh
  have hd:=fun x=>rz r tt x
  unfold ij eK
  rw [aq rfl,aq (oB (by omega) r tt hh)]
  have hl:∀x ∈ V6 (Gw w) (bx w) h,ct n t x = some (dK w x)∧0 ≤ dK w x∧dK w x ≤ 1000:=fun x hx=>by
    have hx:=(hm x).1 ((f.iM hG x).1 hx).1
    have:=hd x
    exact ⟨o6 (by omega) r tt hx.1 (dU hx.2),by omega,by omega⟩
  have key:=zO (fun x=>ct n t x) (ct n t h) (dK w) (dK w h) (by have:=hd h; omega) (o6 (by omega) r tt hh.1 (dU hh.2)) (V6 (Gw w) (bx w) h) hl 0 (by omega)
  have hf:=ye (dK w) (dK w h) (V6 (Gw w) (bx w) h) 0
  have NF:1 ≤ dK w h:=by unfold dK; rw [if_pos hh.2]; omega
  refine ⟨_,key,?_,?_,fun k hk=>(hf k).trans ⟨fun q=>q.resolve_left (by omega), .inr⟩⟩
  · have:=(hf (-1)).2 (.inl (by omega)); omega
  · rcases Int.lt_or_le 34 ((V6 (Gw w) (bx w) h).foldl (fun m y=>max m (dK w y - dK w h + 1)) 0) with q | q
    · rcases (hf 34).1 q with q | ⟨y,_,q⟩
      · omega
      · have:=hd y; omega
    · exact q
theorem HW (d:Int→Option Int) (v:Int→Int) (l:List Int) (hd:∀x ∈ l,d x = some (v x)) (hlen:l.length ≤ 40) {ρ:Type} (A B:Option ρ) (hn:100 ≤ n) :
    ((∃y ∈ l,6 < v y)→dz (fun EM (jF:Int) =>
  cn (decide (jF < (l.length:Int))) (
  gu (cV jF l.length) <|
  bd (d (l.getD (Int.toNat jF) default)) fun j3 =>
  cn (decide (6 < j3)) A (
  EM (wr .i64 (jF + 1)))) B) n 0 = A)∧((∀y ∈ l,v y ≤ 6)→dz (fun EM (jF:Int) =>
  cn (decide (jF < (l.length:Int))) (
  gu (cV jF l.length) <|
  bd (d (l.getD (Int.toNat jF) default)) fun j3 =>
  cn (decide (6 < j3)) A (
  EM (wr .i64 (jF + 1)))) B) n 0 = B):=by
  refine fY (fun (i:Int)=>∃k:Nat,i = k∧k ≤ l.length∧∀y ∈ l.take k,v y ≤ 6) (fun i=>l.length - i.toNat) (fun o=>((∃y ∈ l,6 < v y)→o = A)∧((∀y ∈ l,v y ≤ 6)→o = B)) ?_ n 0 ⟨0,rfl,by omega,by simp⟩ (by omega)
  rintro kk x ⟨k,rfl,hk,hp⟩ ih
  by_cases c:k < l.length
  · have hm:l.getD k default ∈ l:=fq c
    rw [aC (decide_eq_true (by omega)),aA (bT (by omega) (by omega)),Int.toNat_natCast,aq (hd _ hm)]
    by_cases q:6 < v (l.getD k default)
    · rw [aC (decide_eq_true q)]
      exact ⟨fun _=>rfl,fun h=>by have:=h _ hm; omega⟩
    · rw [aj (decide_eq_false q),bK (by omega) (by omega)]
      refine ih _ ⟨k + 1,by omega,by omega,fun y hy=>?_⟩ (by omega)
      rw [List.take_succ_eq_append_getElem c,List.mem_append,List.mem_singleton] at hy
      rcases hy with hy | hy
      · exact hp y hy
      · rw [hy,← ff c]; omega
  · rw [aj (decide_eq_false (by omega))]
    rw [List.take_of_length_le (by omega)] at hp
    exact ⟨fun ⟨y,hy,q⟩=>by have:=hp y hy; omega,fun _=>rfl⟩
structure Ln (w:ae) (h a:Int) (w' : ae) (e:Int):Prop where
  no:e ≠ 0→w' = w
  is:e = 0→w' = m5 w h a∧aO w.B h∧aO w.B a∧bx w h = 0∧¬ (a = h∨h ∈ U6 (bx w) a)∧∀y ∈ V6 (Gw w) (bx w) h,dK w' y ≤ 6
theorem CR (hn:200 ≤ n) (r:eo t w) (tt:fA w) (i:mq w) {h a:Int} (h0:0 ≤ h) (h1:h < 4294967296) (a0:0 ≤ a) (a1:a < 4294967296) :
    ∃t' w' e,ga n t h a = some (t',e)∧nN n w h a = some (w',e)∧eo t' w'∧fA w'∧mq w'∧Ln w h a w' e:=by
  unfold ga nN
  rw [aq (jh r.book h0 h1),aq (bC (by omega) r h0),cz (jh r.book a0 a1),cz (bC (by omega) r a0)]
  cases hg:aQ w.B h with
  | false=>exact ⟨t,w,4,rfl,rfl,r,tt,i,⟨fun _=>rfl,fun h=>absurd h (by decide)⟩⟩
  | true =>
  cases hk:aQ w.B a with
  | false=>exact ⟨t,w,4,rfl,rfl,r,tt,i,⟨fun _=>rfl,fun h=>absurd h (by decide)⟩⟩
  | true =>
  have hh:aO w.B h:=⟨h0,hg⟩
  have ha:aO w.B a:=⟨a0,hk⟩
  obtain ⟨ρ,f⟩:=mZ r tt
  have hm:=aZ r.book
  have hG:=(hm h).2 hh
  have aG:=(hm a).2 ha
  have Ml:jd w h = nZ (bx w) h:=by unfold jd; rw [if_pos hg]
  have KL:m8 w h a = ((h == a) || (U6 (bx w) a).contains h):=by unfold m8; rw [hg,hk]; rfl
  rw [aj (by rfl),aj (by rfl),aq (m6 (by omega) r tt h0 h1),aq (tL (by omega) r hh),cz (oc (by omega) r tt h0 h1 a0 a1),cz (zo (by omega) r tt h0 a0),Ml]
  by_cases hu:bx w h = 0
  · have e1:(nZ (bx w) h != h) = false:=by simpa using (f.qN hG).2 hu
    have e2:(bx w h != 0) = false:=by simpa using hu
    rw [e1,e2]
    by_cases ho:a = h∨h ∈ U6 (bx w) a
    · have e3:m8 w h a = true:=by
        rw [KL,Bool.or_eq_true,beq_iff_eq,List.contains_iff_mem]; exact ho.imp Eq.symm _root_.id
      rw [e3]
      exact ⟨t,w,12,rfl,rfl,r,tt,i,⟨fun _=>rfl,fun h=>absurd h (by decide)⟩⟩
    · have e3:m8 w h a = false:=by
        rw [KL,Bool.or_eq_false_iff,beq_eq_false_iff_ne,← Bool.not_eq_true,List.contains_iff_mem]
        exact ⟨fun q=>ho (.inl q.symm),fun q=>ho (.inr q)⟩
      have an:a ≠ 0:=f.pos a aG
      obtain ⟨t',b1,b2,b3⟩:=xo (n:=n) (by omega) r tt hh (.inr ha) (fun q=>ho q.2)
      obtain ⟨ρ',f'⟩:=mZ b2 b3
      have Bb:∀x ∈ Gw w,bx (m5 w h a) x = if x = h then a else bx w x:=fun x hx=>qK hh ((hm x).1 hx)
      have f' : Fo (Gw w) (bx (m5 w h a)) ρ':=f'
      have gu:=f.Ga f' Bb an hu
      have gv:=f.JJ f' Bb hG hu ho h hG (.inl rfl)
      have ua:U6 (bx (m5 w h a)) a = U6 (bx w) a:=by rw [gu a aG,if_neg ho]
      have Cc:dB (m5 w h a) h = V6 (Gw w) (bx w) h:=by
        unfold dB
        rw [if_pos (show aQ (m5 w h a).B h = true from hg)]; exact gv
      have CF:∀y ∈ V6 (Gw w) (bx w) h,dK (m5 w h a) y = dK w y + dK w a:=fun y hy=>by
        obtain ⟨y1,y2⟩:=(f.iM hG y).1 hy
        have yg:aQ w.B y = true:=((hm y).1 y1).2
        unfold dK
        rw [if_pos (show aQ (m5 w h a).B y = true from yg),if_pos yg,if_pos hk,gu y y1,if_pos y2,List.length_append,List.length_cons,ua]
        omega
      obtain ⟨m,m1,m2,m3,m4⟩:=Eh (n:=n) hn r tt hh
      have dh:dK w h = 1:=by unfold dK; rw [if_pos hg,f.u0 hG hu]; rfl
      have da:=rz r tt a
      have d1:wr .i64 (dK w a + m) = dK w a + m:=bK (by omega) (by omega)
      rw [e3,aj (by rfl),aj (by rfl),aq (o6 (by omega) r tt a0 a1),aq m1,d1,aq (qd (by omega) r tt hh (.inr ha) (fun q=>ho q.2))]
      dsimp only
      rw [aq (qO hn b2 b3 h0),Cc]
      obtain ⟨q1,q2⟩:=HW (n:=n) (fun x=>dW n (m5 w h a) x) (dK (m5 w h a)) (V6 (Gw w) (bx w) h) (fun x hx=>qf hn b2 b3 ((hm x).1 ((f.iM hG x).1 hx).1).1) (by have:=f.oA hG; omega) (some (w,(8:Int))) (some (m5 w h a,(0:Int))) (by omega)
      by_cases hq:∃y ∈ V6 (Gw w) (bx w) h,6 < dK (m5 w h a) y
      · have:6 < dK w a + m:=by
          obtain ⟨y,hy,hq⟩:=hq
          rw [CF y hy] at hq
          rcases Int.lt_or_le 6 (dK w a) with h6 | h6
          · omega
          · have:=(m4 (6 - dK w a) (by omega)).2 ⟨y,hy,by omega⟩
            omega
        rw [aC (decide_eq_true this)]
        exact ⟨t,w,8,rfl,q1 hq,r,tt,i,⟨fun _=>rfl,fun h=>absurd h (by decide)⟩⟩
      · have jV:∀y ∈ V6 (Gw w) (bx w) h,dK (m5 w h a) y ≤ 6:=fun y hy=>Int.not_lt.1 fun q=>hq ⟨y,hy,q⟩
        have hV:h ∈ V6 (Gw w) (bx w) h:=(f.iM hG h).2 ⟨hG, .inl rfl⟩
        have:¬ 6 < dK w a + m:=fun q=>by
          have h6:=jV h hV
          rw [CF h hV] at h6
          obtain ⟨y,hy,hq⟩:=(m4 (6 - dK w a) (by omega)).1 (by omega)
          have:=jV y hy
          rw [CF y hy] at this
          omega
        rw [aj (decide_eq_false this),aq b1]
        exact ⟨t',m5 w h a,0,rfl,q2 jV,b2,b3,i.up h a,⟨fun h=>absurd rfl h,fun _=>⟨rfl,hh,ha,hu,ho,jV⟩⟩⟩
  · have e1:(nZ (bx w) h != h) = true:=by simpa using fun q=>hu ((f.qN hG).1 q)
    have e2:(bx w h != 0) = true:=by simpa using hu
    rw [e1,e2]
    exact ⟨t,w,12,rfl,rfl,r,tt,i,⟨fun _=>rfl,fun h=>absurd h (by decide)⟩⟩
structure Lg (w:ae) (a q:Int) (w' : ae) (m e:Int):Prop where
  no:e ≠ 0→w' = w
  is:e = 0→∃f,mW w.B f∧f < 32∧(a = 0∨aO w.B a)∧(0 ≤ q∧q ≤ 64)∧dK w a ≤ 5∧m = fy f (w.B.gm f)∧w' = ⟨fx w.B f,dx w.R f ⟨a,q,bF,fun _=>0⟩⟩
theorem HU {n:Nat} (hn:110 ≤ n):cR n bF = some true:=by
  obtain ⟨b,b1,b2⟩:=qe (n:=n) hn (x:=bF) (by show (0:Nat) ≤ 80; omega) (fun y hy=>by cases hy)
  rw [b1,b2.2 ⟨pI.nil,by show (0:Int) ≤ 0; decide,by show (0:Int) ≤ 32 * 0; decide⟩]
theorem HR (hn:200 ≤ n) (r:eo t w) (tt:fA w) (i:mq w) {a q:Int} (a0:0 ≤ a) (a1:a < 4294967296) :
    ∃t' w' m e,fg n t a q = some (t',m,e)∧qg n w a q = some (w',m,e)∧0 ≤ m∧m < 4294967296∧eo t' w'∧fA w'∧mq w'∧Lg w a q w' m e:=by
  obtain ⟨t',w',m,e,e1,e2,m0,m1,k⟩:=HS (n:=n) (by omega) r tt (q:=q) a0 a1
  have hd:=rz r tt a
  unfold fg qg
  rw [aq e1,cz (o6 (by omega) r tt a0 a1),cz (bC (by omega) r a0),cz (qf hn r tt a0),aq e2]
  dsimp only
  by_cases hok:(a = 0∨aO w.B a)∧0 ≤ q∧q ≤ 64
  · obtain ⟨ha,hq⟩:=hok
    obtain ⟨f,hf⟩:=sR w.B
    have hx:=zq (n:=n) (by omega) r ha hq hf
    rw [e2] at hx
    have c1:((((a == 0) || (bif (a == 0) == false then aQ w.B a else default)) && decide (0 ≤ q)) && decide (q ≤ 64)) = true:=by
      have:((a == 0) || (bif (a == 0) == false then aQ w.B a else default)) = true:=by
        rcases ha with e | e
        · subst e; rfl
        · rw [e.2]; cases a == 0 <;> rfl
      rw [this,decide_eq_true hq.1,decide_eq_true hq.2]; rfl
    have c2:((e == 0) || (e == 7)) = true:=by
      have:=Option.some.inj hx
      by_cases hl:f < 32
      · rw [if_pos hl] at this; rw [(Prod.mk.inj (Prod.mk.inj this).2).2]; rfl
      · rw [if_neg hl] at this; rw [(Prod.mk.inj (Prod.mk.inj this).2).2]; rfl
    rw [c1,c2]
    by_cases h6:6 ≤ dK w a
    · have h5:(5:Int) < dK w a:=by omega
      rw [aC (by simpa using h6),aC (by simpa using h5)]
      exact ⟨t,w,0,8,rfl,rfl,by decide,by decide,r,tt,i,⟨fun _=>rfl,fun h=>absurd h (by decide)⟩⟩
    · have h5:¬ (5:Int) < dK w a:=by omega
      rw [aj (by simpa using h6),aj (by simpa using h5)]
      refine ⟨t',w',m,e,rfl,rfl,m0,m1,k.rt,k.tt,?_,?_⟩
      · have:=Option.some.inj hx
        by_cases hl:f < 32
        · rw [if_pos hl] at this
          obtain ⟨rfl,h2⟩:=Prod.mk.inj this
          intro g x3
          dsimp only
          rw [bD]
          split
          · exact ⟨hq,fun n hn=>HU hn⟩
          · rename_i hne
            refine i g (((gC r.book hf hl g).1 x3).resolve_right fun e=>?_)
            have hr:=r.book.gG f hl
            obtain ⟨q1,q2,q3,q4,q5⟩:=j8 (i:=f) (g:=w.B.gm f) (by omega) (by omega) hr.1 hr.2
            exact hne (by rw [e]; unfold bj; rw [q2]; omega)
        · rw [if_neg hl] at this
          rw [(Prod.mk.inj this).1]; exact i
      · have:=Option.some.inj hx
        by_cases hl:f < 32
        · rw [if_pos hl] at this
          obtain ⟨h1,h2⟩:=Prod.mk.inj this
          obtain ⟨h2,h3⟩:=Prod.mk.inj h2
          exact ⟨fun h=>absurd h3 h,fun _=>⟨f,hf,hl,ha,hq,by omega,h2,h1⟩⟩
        · rw [if_neg hl] at this
          obtain ⟨h1,h2⟩:=Prod.mk.inj this
          obtain ⟨h2,h3⟩:=Prod.mk.inj h2
          exact ⟨fun _=>h1,fun h=>absurd (h3.symm.trans h) (by decide)⟩
  · have hw:w' = w∧e ≠ 0∧e ≠ 7:=by
      unfold cM at e2
      rw [cz (bC (by omega) r a0),hM] at e2
      cases hx:xw w.B a with
      | false =>
        rw [hx,aC (b:=!false) rfl] at e2
        obtain ⟨h1,h2⟩:=Prod.mk.inj (Option.some.inj e2)
        exact ⟨h1.symm,by rw [← (Prod.mk.inj h2).2]; decide,by rw [← (Prod.mk.inj h2).2]; decide⟩
      | true =>
        have hq:¬ (0 ≤ q∧q ≤ 64):=fun h=>hok ⟨tN a0 hx,h⟩
        rw [hx,aj (b:=!true) rfl,aC (by simp; omega)] at e2
        obtain ⟨h1,h2⟩:=Prod.mk.inj (Option.some.inj e2)
        exact ⟨h1.symm,by rw [← (Prod.mk.inj h2).2]; decide,by rw [← (Prod.mk.inj h2).2]; decide⟩
    obtain ⟨rfl,n0,n7⟩:=hw
    have c1:((((a == 0) || (bif (a == 0) == false then aQ w'.B a else default)) && decide (0 ≤ q)) && decide (q ≤ 64)) = false:=by
      by_cases hq:0 ≤ q∧q ≤ 64
      · have ha:¬ (a = 0∨aO w'.B a):=fun h=>hok ⟨h,hq⟩
        have e1:(a == 0) = false:=by simpa using fun h=>ha (.inl h)
        have e2:aQ w'.B a = false:=by
          cases h:aQ w'.B a with
          | false=>rfl
          | true=>exact absurd (.inr ⟨a0,h⟩) ha
        rw [e1,e2]; rfl
      · have:(decide (0 ≤ q) && decide (q ≤ 64)) = false:=by rw [Bool.and_eq_false_iff,decide_eq_false_iff_not,decide_eq_false_iff_not]; omega
        rw [Bool.and_assoc,this,Bool.and_false]
    have c2:((e == 0) || (e == 7)) = false:=by rw [Bool.or_eq_false_iff,beq_eq_false_iff_ne,beq_eq_false_iff_ne]; exact ⟨n0,n7⟩
    rw [c1,c2,aj (by rfl),aj (by rfl)]
    exact ⟨t',w',m,e,rfl,rfl,m0,m1,k.rt,k.tt,i,⟨fun _=>rfl,fun h=>absurd h n0⟩⟩
end
end Go.Proofs.Ytmdpbdhkmfjlhaa
namespace Go.Proofs.Ytmdpbdhkmfjlhaa
open Go Go.Bw
set_option maxRecDepth 100000 in
theorem uV:ig 1000 = some true:=by kernel_rfl
section
variable {n:Nat} {t:ai} {w:ae}
theorem Gs (hn:200 ≤ n) (r:eo t w) (tt:fA w) (i:mq w) {h z:Int} (hh:aO w.B h) (z0:0 ≤ z) (z1:z < 4294967296) {k:Nat} (hk:k < 8) :
    ∃t',cK n t h { jG t w h with Cells:=dx (jG t w h).Cells k z } = some (t',0)∧fm n w h { w.R (bj h) with Cells:=dx (w.R (bj h)).Cells k z } = some (vD w h { w.R (bj h) with Cells:=dx (w.R (bj h)).Cells k z },0) ∧
      eo t' (vD w h { w.R (bj h) with Cells:=dx (w.R (bj h)).Cells k z })∧fA (vD w h { w.R (bj h) with Cells:=dx (w.R (bj h)).Cells k z })∧mq (vD w h { w.R (bj h) with Cells:=dx (w.R (bj h)).Cells k z }):=by
  obtain ⟨l1,l2⟩:=cw hh
  have hR:=r.zn _ l1 l2
  have hq:=i h hh
  have hp:rR { jG t w h with Cells:=dx (jG t w h).Cells k z } { w.R (bj h) with Cells:=dx (w.R (bj h)).Cells k z }:=by
    refine ⟨hR.q,hR.e,hR.n,hR.r,fun j hj=>?_,fun j hj=>?_⟩
    · dsimp only
      rw [bD,bD]
      split
      · rfl
      · exact hR.c j hj
    · dsimp only
      rw [bD]
      split
      · omega
      · exact hR.c0 j hj
  obtain ⟨t1,s1,s2,s3⟩:=Ek (n:=n) (by omega) r tt hh hp hq.1 (hq.2 n (by omega))
  exact ⟨t1,s1,u4 (by omega) r hh hq.1 (hq.2 n (by omega)),s2,s3,i.set hh rfl rfl⟩
def Kr (a:g5):Prop:=(0 ≤ a.Do∧a.Do ≤ 255)∧(0 ≤ a.A∧a.A ≤ 4294967295)∧(0 ≤ a.B∧a.B ≤ 4294967295)∧(0 ≤ a.C∧a.C ≤ 4294967295)∧(-9223372036854775808 ≤ a.bJ∧a.bJ ≤ 9223372036854775807)
end
theorem xJ:mq ia:=fun g hg=>by
  have:=(cw hg).2
  exact (ql this).elim
end Go.Proofs.Ytmdpbdhkmfjlhaa
namespace Go.Proofs.Ytmdpbdhkmfjlhaa
open Go Go.Bw
section
variable {G G' : List Int} {up up' : Int→Int} {ρ ρ' : Int→Nat}
theorem Fo.AV (f:Fo G up ρ) (f' : Fo G' up' ρ') (hs:∀x ∈ G',x ∈ G∧up' x = up x):∀y ∈ G',U6 up' y = U6 up y:=by
  refine f'.pL _ fun y hy ih=>?_
  obtain ⟨h1,h2⟩:=hs y hy
  by_cases e:up y = 0
  · rw [f'.u0 hy (h2.trans e),f.u0 h1 e]
  · rw [f'.u1 hy (by rw [h2]; exact e),f.u1 h1 e,ih (by rw [h2]; exact e),h2]
theorem Fo.Gn (f:Fo G up ρ) (f' : Fo G up' ρ') {h:Int} (Bb:∀x ∈ G,up' x = if x = h then 0 else up x):∀y ∈ G,(U6 up' y).length ≤ (U6 up y).length∧(h ∈ U6 up y→y ≠ h→h ∈ U6 up' y):=by
  refine f.pL _ fun y hy ih=>?_
  have hu:=Bb y hy
  by_cases e:y = h
  · rw [if_pos e] at hu
    rw [f'.u0 hy hu]; exact ⟨by simp,fun _ h=>absurd e h⟩
  · rw [if_neg e] at hu
    by_cases e0:up y = 0
    · rw [f'.u0 hy (hu.trans e0),f.u0 hy e0]; exact ⟨by simp,fun h=>by cases h⟩
    · obtain ⟨i1,i2⟩:=ih e0
      rw [f'.u1 hy (by rw [hu]; exact e0),hu,f.u1 hy e0]
      refine ⟨by rw [List.length_cons,List.length_cons]; omega,fun q _=>?_⟩
      by_cases e1:up y = h
      · rw [e1]; exact List.mem_cons_self
      · exact List.mem_cons_of_mem _ (i2 ((List.mem_cons.1 q).resolve_left (Ne.symm e1)) e1)
theorem Fo.BL (f:Fo G up ρ) {h:Int} (hh:h ∈ G) (h0:up h = 0) (x:Int):x ∈ V6 G up h↔x ∈ G∧nZ up x = h:=by
  rw [f.iM hh]
  refine ⟨fun ⟨a,b⟩=>⟨a,f.xh a (b.imp Eq.symm _root_.id) h0⟩,fun ⟨a,b⟩=>⟨a,?_⟩⟩
  have:=(f.oE a).2.1
  rw [b] at this
  exact this.imp Eq.symm _root_.id
end
def wG (w:ae):Prop:=∀x,aO w.B x→dK w x ≤ 6
section
variable {n:Nat} {t:ai} {w:ae}
theorem Bz (hn:200 ≤ n) (r:eo t w) (tt:fA w) (dp:wG w):gI n t = some true:=by
  obtain ⟨ρ,f⟩:=mZ r tt
  have hm:=aZ r.book
  have hlen:(Gw w).length ≤ 32:=eJ w.B 32
  unfold gI
  rw [aq (Ai (by omega) r)]
  show cP _ n 0 [] = _
  generalize hg:bQ w.B 32 = G at hm ⊢
  have hG:Gw w = G:=hg
  rw [hG] at f hlen
  refine de (fun (i:Int) (m:List (Int × Bool))=>∃k:Nat,i = k∧k ≤ G.length∧mc m (fun x=>x ∈ G∧nZ (bx w) x ∈ G.take k)) (fun i _=>G.length - i.toNat) (fun o=>o = some true) ?_ n 0 [] ⟨0,rfl,by omega,mc.nil.congr fun x=>by simp⟩ (by omega)
  rintro kk i m ⟨k,rfl,hk,hS⟩ ih
  by_cases c:k < G.length
  · have hx:G.getD k default ∈ G:=fq c
    have y3:∀x,x ∈ G.take (k + 1)↔x ∈ G.take k∨x = G.getD k default:=fun x=>by
      rw [List.take_succ_eq_append_getElem c,List.mem_append,List.mem_singleton,← ff c]
    have hnt:G.getD k default ∉ G.take k:=fun q=>by
      have:=f.nd
      rw [← List.take_append_drop k G] at this
      refine (List.nodup_append.1 this).2.2 _ q _ ?_ rfl
      rw [List.drop_eq_getElem_cons c,← ff c]; exact List.mem_cons_self
    simp only [Int.toNat_natCast]
    generalize G.getD k default = h at hx y3 hnt ⊢
    have hs:=(hm h).1 hx
    have hl:=dU hs.2
    have d1:=dp h hs
    have d2:1 ≤ dK w h:=by unfold dK; rw [if_pos hs.2]; omega
    have hr:jd w h = nZ (bx w) h:=by unfold jd; rw [if_pos hs.2]
    obtain ⟨q1,q2,q3⟩:=f.oE hx
    have hq:=(hm _).1 q1
    have ho:m8 w (nZ (bx w) h) h = true:=by
      unfold m8
      rw [hq.2,hs.2,Bool.true_and,Bool.true_and,Bool.or_eq_true,beq_iff_eq,List.contains_iff_mem]; exact q2
    have dd:=o6 (n:=n) (by omega) r tt hs.1 hl
    have rr:=m6 (n:=n) (by omega) r tt hs.1 hl
    rw [hr] at rr
    have b1:(decide (6 < dK w h) == false) = true:=by rw [decide_eq_false (by omega)]; rfl
    have b2:((decide (6 < dK w h) || decide (dK w h < 1)) == false) = true:=by rw [decide_eq_false (by omega),decide_eq_false (by omega)]; rfl
    rw [aC (decide_eq_true (by omega)),aA (bT (by omega) (by omega)),aq dd]
    refine (hY b1 dd).trans ((hY b2 rr).trans ((hY b2 (oc (by omega) r tt hq.1 (dU hq.2) hs.1 hl)).trans ?_))
    rw [ho,aj (by rw [decide_eq_false (by omega),decide_eq_false (by omega)]; rfl),aq rr,bK (x:=(k:Int) + 1) (by omega) (by omega)]
    by_cases qu:nZ (bx w) h = h
    · have h0:=(f.qN hx).1 qu
      have hv:=f.BL hx h0
      have Cc:dB w h = V6 G (bx w) h:=by unfold dB; rw [if_pos hs.2,hG]
      have vl:=f.oA hx
      have vn:=f.wX hx
      rw [aj (by simpa using qu),aq (tD (by omega) r tt hs.1 hl),Cc]
      generalize V6 G (bx w) h = l at hv vl vn
      refine de (fun (i:Int) (m:List (Int × Bool))=>∃j:Nat,i = j∧j ≤ l.length∧mc m (fun x=>(x ∈ G∧nZ (bx w) x ∈ G.take k)∨x ∈ l.take j)) (fun i _=>l.length - i.toNat) (fun o=>o = some true) ?_ n 0 m ⟨0,rfl,by omega,hS.congr fun x=>by simp⟩ (by omega)
      rintro k2 i2 m2 ⟨j,rfl,hj,Hp⟩ BX
      by_cases cj:j < l.length
      · have hy:l.getD j default ∈ l:=fq cj
        have KD:∀x,x ∈ l.take (j + 1)↔x ∈ l.take j∨x = l.getD j default:=fun x=>by
          rw [List.take_succ_eq_append_getElem cj,List.mem_append,List.mem_singleton,← ff cj]
        have KE:l.getD j default ∉ l.take j:=fun q=>by
          rw [← List.take_append_drop j l] at vn
          refine (List.nodup_append.1 vn).2.2 _ q _ ?_ rfl
          rw [List.drop_eq_getElem_cons cj,← ff cj]; exact List.mem_cons_self
        simp only [Int.toNat_natCast]
        generalize l.getD j default = y at hy KD KE ⊢
        obtain ⟨y1,y2⟩:=(hv y).1 hy
        have ys:=(hm y).1 y1
        have yr:=m6 (n:=n) (by omega) r tt ys.1 (dU ys.2)
        have Lr:jd w y = h:=by unfold jd; rw [if_pos ys.2]; exact y2
        rw [Lr] at yr
        have hno:nc m2 y false = false:=by
          rw [← Bool.not_eq_true,Hp.get]
          rintro (⟨_,q⟩ | q)
          · rw [y2] at q; exact hnt q
          · exact KE q
        rw [aC (decide_eq_true (by omega)),aA (bT (by omega) (by omega)),aA (by rw [bT (i:=(j:Int)) (n:=l.length) (by omega) (by omega)]; simp),hno]
        refine (hY (by rfl) yr).trans ?_
        rw [aj (by simp),aA (bT (by omega) (by omega)),lt_eq,bK (x:=(j:Int) + 1) (by omega) (by omega)]
        exact BX _ _ ⟨j + 1,by omega,by omega,Hp.set fun x=>by rw [KD,or_assoc]⟩ (by omega)
      · rw [aj (decide_eq_false (by omega))]
        rw [show l.take j = l from List.take_of_length_le (by omega)] at Hp
        refine ih _ _ ⟨k + 1,by omega,by omega,Hp.congr fun x=>?_⟩ (by omega)
        rw [hv x,y3]
        constructor
        · rintro ⟨a,b | b⟩
          · exact .inl ⟨a,b⟩
          · exact .inr ⟨a,b⟩
        · rintro (⟨a,b⟩ | ⟨a,b⟩)
          · exact ⟨a, .inl b⟩
          · exact ⟨a, .inr b⟩
    · rw [aC (by simpa using qu)]
      refine ih _ _ ⟨k + 1,by omega,by omega,hS.congr fun x=>?_⟩ (by omega)
      rw [y3]
      refine ⟨fun ⟨a,b⟩=>⟨a,b.resolve_right fun e=>qu ?_⟩,fun ⟨a,b⟩=>⟨a, .inl b⟩⟩
      have:=(f.oE a).2.2
      rw [e] at this
      exact (f.qN hx).2 this
  · rw [aj (decide_eq_false (by omega))]
    rw [List.take_of_length_le (by omega)] at hS
    have:=hS.len f.nd fun x=>⟨fun a=>⟨a,(f.oE a).1⟩,fun a=>a.1⟩
    rw [this]; simp
theorem Bh (r:eo t w) (tt:fA w) {G:List Int} (hG:Gw w = G):∃ρ,Fo G (bx w) ρ:=by subst hG; exact mZ r tt
theorem yj {t' : ai} {w' : ae} (r:eo t w) (tt:fA w) (r' : eo t' w') (vz:fA w') (hs:∀x,aO w'.B x→aO w.B x∧bx w' x = bx w x) (dp:wG w):wG w':=fun x hx=>by
  obtain ⟨ρ,f⟩:=mZ r tt
  obtain ⟨ρ',f'⟩:=mZ r' vz
  have:=f.AV f' (fun y hy=>by
    obtain ⟨a,b⟩:=hs y ((aZ r'.book y).1 hy)
    exact ⟨(aZ r.book y).2 a,b⟩) x ((aZ r'.book x).2 hx)
  have h2:=dp x (hs x hx).1
  unfold dK at h2 ⊢
  rw [if_pos (hs x hx).1.2] at h2
  rw [if_pos hx.2,this]; exact h2
theorem tE (r:eo t w) (tt:fA w) (a:Int) {y:Int} (hy:aO w.B y) (hu:bx w y ∈ dB w a):y ∈ dB w a:=by
  have hg:=(k9 r tt a).1 _ hu
  unfold dB at hu ⊢
  by_cases Hi:aQ w.B a = true
  · rw [if_pos Hi] at hu ⊢
    obtain ⟨ρ,f⟩:=mZ r tt
    have hm:=aZ r.book
    have ha:0 ≤ a:=by
      rcases Int.lt_or_le a 0 with h | h
      · have h3:=(eE.1 Hi).2.2
        have h4:=r.book.gG (bj a) (iG a)
        unfold bj at h4; omega
      · exact h
    have aG:=(hm a).2 ⟨ha,Hi⟩
    have yG:=(hm y).2 hy
    have h0:bx w y ≠ 0:=f.pos _ ((hm _).2 hg)
    refine (f.iM aG y).2 ⟨yG, .inr ?_⟩
    rw [f.u1 yG h0]
    rcases ((f.iM aG _).1 hu).2 with h | h
    · rw [h]; exact List.mem_cons_self
    · exact List.mem_cons_of_mem _ h
  · rw [if_neg Hi] at hu; cases hu
theorem yn (r:eo t w) (tt:fA w) (i:mq w) (dp:wG w) (a:Int):wG (cZ w (dB w a)):=by
  obtain ⟨⟨t',r'⟩,vz,i',hg,hu⟩:=ry (dB w a) r tt i (mu r tt a)
  refine yj r tt r' vz (fun x hx=>?_) dp
  obtain ⟨h1,h2⟩:=(hg x).1 hx
  exact ⟨h1,by rw [hu x hx,if_neg fun q=>h2 (tE r tt a h1 q)]⟩
theorem BG (r:eo t w) (tt:fA w) {a:Int} (h0:0 ≤ a):(dB w a).Nodup:=by
  unfold dB
  split
  · rename_i hg
    obtain ⟨ρ,f⟩:=mZ r tt
    exact f.wX ((aZ r.book a).2 ⟨h0,hg⟩)
  · exact .nil
theorem wc (r:eo t w) (tt:fA w) (i:mq w) {a:Int} (h0:0 ≤ a):(Gw (cZ w (dB w a))).length + (dB w a).length = (Gw w).length:=by
  obtain ⟨⟨t',r'⟩,vz,i',hg,hu⟩:=ry (dB w a) r tt i (mu r tt a)
  have hm:=aZ r.book
  have hm':=aZ r'.book
  rw [← List.length_append]
  refine so (List.nodup_append.2 ⟨j9 r'.book 32 (by omega),BG r tt h0,fun x hx y hy e=>?_⟩) (j9 r.book 32 (by omega)) fun x=>?_
  · subst e; exact ((hg x).1 ((hm' x).1 hx)).2 hy
  · rw [List.mem_append]
    show (x ∈ Gw (cZ w (dB w a))∨_)↔x ∈ Gw w
    rw [hm x,hm' x,hg x]
    constructor
    · rintro (h | h)
      · exact h.1
      · exact (k9 r tt a).1 x h
    · intro h
      by_cases q:x ∈ dB w a
      · exact .inr q
      · exact .inl ⟨h,q⟩
theorem sS (w:ae) (h:Int):(jy w h).B = w.B:=by
  unfold jy
  split
  · generalize V6 (Gw w) (bx w) h = l
    generalize U6 (bx w) h = L
    exact ny w L l w
  · rfl
theorem yo (h:Int) {x:Int} (hh:aO w.B h) (hx:aO w.B x):bx (jy w h) x = if x = h then 0 else bx w x:=by
  unfold jy
  rw [if_pos hh.2]
  generalize V6 (Gw w) (bx w) h = l
  generalize U6 (bx w) h = L
  have hb:(jW w L l).B = w.B:=ny w L l w
  have hu:bx (jW w L l) x = bx w x:=Ac w L l x w
  generalize jW w L l = v at hb hu ⊢
  rw [qK (by rw [hb]; exact hh) (by rw [hb]; exact hx),hu]
theorem we (r:eo t w) (tt:fA w) {h y:Int} (hh:aO w.B h) (hy:y ∈ dB w h):((jy w h).R (bj y)).Cells = wN (U6 (bx w) h) (w.R (bj y)).Cells (w.R (bj y)).Cells:=by
  obtain ⟨ρ,f⟩:=mZ r tt
  have hm:=aZ r.book
  have hG:=(hm h).2 hh
  unfold dB at hy
  rw [if_pos hh.2] at hy
  have hgd:∀x ∈ V6 (Gw w) (bx w) h,aO w.B x:=fun x hx=>(hm x).1 ((f.iM hG x).1 hx).1
  have vY:=f.wX hG
  unfold jy
  rw [if_pos hh.2]
  generalize V6 (Gw w) (bx w) h = l at hy hgd vY ⊢
  generalize U6 (bx w) h = L
  have key:=uw w L hgd vY hy w rfl
  have e:jW w L l = l.foldl (qz w L) w:=rfl
  rw [e]
  generalize l.foldl (qz w L) w = v at key ⊢
  unfold m5
  dsimp only
  rw [bD]
  split
  · rename_i e; rw [e] at key; rw [e]; exact key
  · exact key
theorem C4 (r:eo t w) (tt:fA w) {t' : ai} {h:Int} (r' : eo t' (jy w h)) (vz:fA (jy w h)) (hh:aO w.B h) (dp:wG w):wG (jy w h)∧∀y ∈ dB w h,jd (jy w h) y = h:=by
  obtain ⟨ρ,f⟩:=mZ r tt
  have hm:=aZ r.book
  have hb:=sS w h
  obtain ⟨ρ',f'⟩:=Bh r' vz (G:=Gw w) (by unfold Gw; rw [hb])
  have hG:=(hm h).2 hh
  have key:=f.Gn f' (h:=h) (fun x hx=>yo h hh ((hm x).1 hx))
  refine ⟨fun x hx=>?_,fun y hy=>?_⟩
  · rw [hb] at hx
    have h1:=dp x hx
    have h2:=(key x ((hm x).2 hx)).1
    unfold dK at h1 ⊢
    rw [hb]
    rw [if_pos hx.2] at h1 ⊢
    omega
  · unfold dB at hy
    rw [if_pos hh.2] at hy
    obtain ⟨y1,y2⟩:=(f.iM hG y).1 hy
    unfold jd
    rw [hb,if_pos ((hm y).1 y1).2]
    refine f'.xh y1 ?_ (by rw [yo h hh hh,if_pos rfl])
    by_cases e:y = h
    · exact .inl e.symm
    · exact .inr ((key y y1).2 (y2.resolve_left e) e)
theorem ym (r:eo t w) (tt:fA w) {t' : ai} {w' : ae} {h a e:Int} (r' : eo t' w') (vz:fA w') (g:Ln w h a w' e) (dp:wG w):wG w'∧(e = 0→jd w' h = jd w a):=by
  by_cases e0:e = 0
  · obtain ⟨rfl,hh,ha,hu,hno,hd⟩:=g.is e0
    obtain ⟨ρ,f⟩:=mZ r tt
    have hm:=aZ r.book
    obtain ⟨ρ',f'⟩:=Bh r' vz (G:=Gw w) rfl
    have hG:=(hm h).2 hh
    have aG:=(hm a).2 ha
    have an:=f.pos a aG
    have gu:=f.Ga f' (h:=h) (a:=a) (fun x hx=>qK hh ((hm x).1 hx)) an hu
    have ua:U6 (bx (m5 w h a)) a = U6 (bx w) a:=by rw [gu a aG,if_neg hno]
    refine ⟨fun x hx=>?_,fun _=>?_⟩
    · have hx:aO w.B x:=hx
      by_cases q:x = h∨h ∈ U6 (bx w) x
      · exact hd x ((f.iM hG x).2 ⟨(hm x).2 hx,q⟩)
      · have h1:=dp x hx
        unfold dK at h1 ⊢
        rw [if_pos hx.2] at h1
        rw [if_pos (show aQ (m5 w h a).B x = true from hx.2),gu x ((hm x).2 hx),if_neg q]
        exact h1
    · unfold jd
      rw [if_pos (show aQ (m5 w h a).B h = true from hh.2),if_pos ha.2,f'.rt_eq hG,qK hh hh,if_pos rfl,if_neg an]
      unfold nZ
      rw [ua]
  · rw [g.no e0]; exact ⟨dp,fun h=>absurd h e0⟩
theorem C3 (r:eo t w) (tt:fA w) {t' : ai} {w' : ae} {a q m e:Int} (r' : eo t' w') (vz:fA w') (g:Lg w a q w' m e) (dp:wG w):wG w':=by
  by_cases e0:e = 0
  · obtain ⟨f0,hf,hl,ha,hq,hd,rfl,rfl⟩:=g.is e0
    obtain ⟨ρ,f⟩:=mZ r tt
    obtain ⟨ρ',f'⟩:=mZ r' vz
    have hm:=aZ r.book
    have hm':=aZ r'.book
    have KP:=gC r.book hf hl
    have hr:=r.book.gG f0 hl
    obtain ⟨q1,q2,q3,q4,q5⟩:=j8 (i:=f0) (g:=w.B.gm f0) (by omega) (by omega) hr.1 hr.2
    have Hf:bj (fy f0 (w.B.gm f0)) = f0:=by unfold bj; rw [q2]; omega
    have hne:∀x,aO w.B x→bj x ≠ f0:=fun x hx e=>by
      have:=(cw hx).2; rw [e,hf.2.2 hl] at this; cases this
    have LQ:∀x,aO w.B x→bx (⟨fx w.B f0,dx w.R f0 ⟨a,q,bF,fun _=>0⟩⟩ : ae) x = bx w x:=fun x hx=>by
      unfold bx; dsimp only; rw [fN _ _ (hne x hx)]
    have HG:bx (⟨fx w.B f0,dx w.R f0 ⟨a,q,bF,fun _=>0⟩⟩ : ae) (fy f0 (w.B.gm f0)) = a:=by
      unfold bx; dsimp only; rw [Hf,kI]
    have old:∀x,aO w.B x→U6 (bx (⟨fx w.B f0,dx w.R f0 ⟨a,q,bF,fun _=>0⟩⟩ : ae)) x = U6 (bx w) x:=fun x hx=>by
      refine (f'.AV f (G':=Gw w) (fun y hy=>?_) x ((hm x).2 hx)).symm
      have hy:=(hm y).1 hy
      exact ⟨(hm' y).2 ((KP y).2 (.inl hy)),(LQ y hy).symm⟩
    intro x hx
    rcases (KP x).1 hx with h | h
    · have h1:=dp x h
      unfold dK at h1 ⊢
      rw [if_pos h.2] at h1
      rw [if_pos hx.2,old x h]; exact h1
    · subst h
      unfold dK
      rw [if_pos hx.2]
      have KF:=(hm' _).2 hx
      rcases ha with h | h
      · rw [f'.u0 KF (HG.trans h)]; decide
      · have a0:=f.pos a ((hm a).2 h)
        rw [f'.u1 KF (by rw [HG]; exact a0),HG,old a h,List.length_cons]
        unfold dK at hd
        rw [if_pos h.2] at hd
        omega
  · rw [g.no e0]; exact dp
end
end Go.Proofs.Ytmdpbdhkmfjlhaa
namespace Go.Proofs.Ytmdpbdhkmfjlhaa
open Go Go.Bw
theorem zA {t:ai} {w:ae} (r:eo t w) (tt:fA w) {h:Int} (hh:aO w.B h) {c:Int} (c0:0 ≤ c):((((if (U6 (bx w) h).contains c = true then 0 else c):Int) != h) && m8 w (if (U6 (bx w) h).contains c = true then 0 else c) h) = false:=by
  obtain ⟨ρ,f⟩:=mZ r tt
  cases hc:(U6 (bx w) h).contains c with
  | true =>
    rw [if_pos rfl,qR r tt hh (by omega),← Bool.not_eq_true,List.contains_iff_mem]
    exact fun q=>f.pos 0 (f.mw ((aZ r.book h).2 hh) 0 q).1 rfl
  | false=>rw [if_neg (by decide),qR r tt hh c0]; exact hc
theorem ri {l:List g5} (hl:∀a ∈ l,Kr a):fE 1000 l = some true:=by
  unfold fE
  by_cases hc:100 < l.length
  · rw [aC (decide_eq_true (by omega)),aq uV]
  rw [aj (decide_eq_false (by omega))]
  refine de (fun (i:Int) (t:ai)=>0 ≤ i∧i ≤ l.length∧∃w,eo t w∧fA w∧mq w∧wG w) (fun i _=>((l.length:Int) - i).toNat) (fun o=>o = some true) ?_ 1000 0 _ ⟨by omega,by omega,_,AQ.1,AQ.2,xJ,fun x hx=>(ql (cw hx).2).elim⟩ (by omega)
  rintro kk i t ⟨i0,i1,w,r,tt,iv,dp⟩ ih
  by_cases hx:i < l.length
  · obtain ⟨_,hA,hB,hC,hQ⟩:=hl _ (fq (l:=l) (i:=i.toNat) (by omega))
    rw [aC (by simpa using hx),aA (bT i0 (by omega)),lt_eq]
    generalize l.getD i.toNat default = a at *
    have A0:=hA.1
    have A1:a.A < 4294967296:=by omega
    rw [aq (tD (by omega) r tt A0 A1),bK (x:=i + 1) (by omega) (by omega),lt_eq]
    have xA:∀t' w',eo t' w'→fA w'→mq w'→wG w'→(bd (gI 1000 t') fun ze=>cn (!ze) (some false) (kk (i + 1) t')) = some true:=fun t' w' r' vz Il DP=>by
      rw [aq (Bz (by omega) r' vz DP),aj (b:=!true) rfl]
      exact ih _ _ ⟨by omega,by omega,w',r',vz,Il,DP⟩ (by omega)
    have ul:=(k9 r tt a.A).2
    have ug:=(k9 r tt a.A).1
    by_cases d0:a.Do = 0
    · obtain ⟨t',e1,_,e3,e4⟩:=Gf (n:=1000) (by omega) r tt iv A0 A1
      have hs:=wc r tt iv A0
      have Il:=(ry _ r tt iv (mu r tt a.A)).2.2.1
      rw [aC (by simpa using d0),aq e1,aq (jh r.book A0 A1)]
      have b1:(((((if aQ w.B a.A = true then 0 else 4:Int) == 0) != aQ w.B a.A) || (((dB w a.A).length:Int) != ((dB w a.A).length:Int))) == false) = true:=by
        cases aQ w.B a.A <;> simp
      have b2:=eq_of_beq b1
      refine (hY b1 (Ai (by omega) e3)).trans ((hY b1 (Ai (by omega) r)).trans ?_)
      have l1:(bQ w.B 32).length ≤ 32:=eJ w.B 32
      have hs' : ((bQ (cZ w (dB w a.A)).B 32).length:Int) = (bQ w.B 32).length - (dB w a.A).length:=by
        have:(bQ (cZ w (dB w a.A)).B 32).length + (dB w a.A).length = (bQ w.B 32).length:=hs
        omega
      rw [aj (by rw [b2,hs',bK (by omega) (by omega)]; simp)]
      exact xA t' _ e3 e4 Il (yn r tt iv dp a.A)
    rw [aj (by simpa using d0)]
    by_cases d1:a.Do = 1
    · obtain ⟨t',e1,_,e3,e4,e5⟩:=J0 (n:=1000) (by omega) r tt iv A0 A1
      rw [aC (by simpa using d1),aq e1]
      cases hg:aQ w.B a.A with
      | false =>
        have hu:dB w a.A = []:=by unfold dB; rw [if_neg (by rw [hg]; decide)]
        have hw:jy w a.A = w:=by unfold jy; rw [if_neg (by rw [hg]; decide)]
        rw [hw] at e3 e4 e5
        rw [hu]
        exact xA t' w e3 e4 e5 dp
      | true =>
        have hh:aO w.B a.A:=⟨A0,hg⟩
        obtain ⟨DP,qu⟩:=C4 r tt e3 e4 hh dp
        have hb:=sS w a.A
        refine fY (fun (j:Int)=>0 ≤ j∧j ≤ (dB w a.A).length) (fun j=>(((dB w a.A).length:Int) - j).toNat) (fun o=>o = some true) ?_ 1000 0 ⟨by omega,by omega⟩ (by omega)
        rintro k2 j ⟨j0,j1⟩ BX
        by_cases cj:j < (dB w a.A).length
        · have hm:=fq (l:=dB w a.A) (i:=j.toNat) (by omega)
          generalize (dB w a.A).getD j.toNat default = y at hm
          have ys:=ug y hm
          have yl:=dU ys.2
          have q8:=we r tt hh hm
          obtain ⟨l1,l2⟩:=cw ys
          have hR:=e3.zn _ l1 (by rw [hb]; exact l2)
          have MI:=r.zn _ l1 l2
          have Ls:aQ (jy w a.A).B y = true:=by rw [hb]; exact ys.2
          have g1:cV j (dB w a.A).length = true:=bT j0 cj
          have rr:=m6 (n:=1000) (by omega) e3 e4 ys.1 yl
          rw [qu y hm] at rr
          rw [aC (by simpa using cj),aA g1,aq (mH e3 ys.1 yl),if_pos Ls,aA (by rw [g1]; simp)]
          refine (hY (by rfl) rr).trans ?_
          rw [aj (by simp),bK (x:=j + 1) (by omega) (by omega)]
          refine fY (fun (q:Int)=>0 ≤ q∧q ≤ 8) (fun q=>(8 - q).toNat) (fun o=>o = some true) ?_ 1000 0 ⟨by omega,by omega⟩ (by omega)
          rintro k3 q ⟨q0,q1⟩ Md
          by_cases cq:q < 8
          · have hcell:(jG t' (jy w a.A) y).Cells q.toNat = if (U6 (bx w) a.A).contains ((w.R (bj y)).Cells q.toNat) = true then 0 else (w.R (bj y)).Cells q.toNat:=by
              refine (hR.c q.toNat (by omega)).trans ?_
              rw [q8]
              unfold wN
              cases (U6 (bx w) a.A).contains ((w.R (bj y)).Cells q.toNat) with
              | true=>rw [if_pos ⟨by omega,rfl⟩,if_pos rfl]
              | false=>rw [if_neg (by simp),if_neg (by decide)]
            have c0:=MI.c0 q.toNat (by omega)
            have hno:=zA r tt hh c0.1
            rw [← hcell] at hno
            have cr:0 ≤ (jG t' (jy w a.A) y).Cells q.toNat∧(jG t' (jy w a.A) y).Cells q.toNat < 4294967296:=by
              rw [hcell]
              split
              · decide
              · omega
            dsimp only
            generalize (jG t' (jy w a.A) y).Cells q.toNat = z at hno cr
            rw [aC (by simpa using cq),aA (bT q0 (by omega)),cz (oc (by omega) r tt cr.1 cr.2 A0 A1),bK (x:=q + 1) (by omega) (by omega),aj ?_]
            · exact Md _ ⟨by omega,by omega⟩ (by omega)
            · cases hz:(z != a.A) with
              | false=>rfl
              | true=>rw [hz,Bool.true_and] at hno; rw [hno]; rfl
          · rw [aj (by simpa using cq)]
            exact BX _ ⟨by omega,by omega⟩ (by omega)
        · rw [aj (by simpa using cj)]
          exact xA t' _ e3 e4 e5 DP
    rw [aj (by simpa using d1)]
    by_cases d2:a.Do = 2
    · obtain ⟨t',w',e,e1,_,e3,e4,e5,e6⟩:=CR (n:=1000) (by omega) r tt iv A0 A1 hB.1 (by omega)
      obtain ⟨DP,hr⟩:=ym r tt e3 e4 e6 dp
      rw [aC (by simpa using d2),aq e1,cz (m6 (by omega) e3 e4 A0 A1),cz (m6 (by omega) r tt hB.1 (by omega))]
      have b1:((e == 0) && ((bif (e == 0) == true then jd w' a.A else default) != (bif (e == 0) == true then jd w a.B else default))) = false:=by
        by_cases e0:e = 0
        · rw [hr e0]; simp
        · have:(e == 0) = false:=by simpa using e0
          rw [this]; rfl
      rw [aj b1]
      exact xA t' w' e3 e4 e5 DP
    rw [aj (by simpa using d2)]
    by_cases d3:a.Do = 3
    · have hb:Int.tmod a.B 8 = a.B % 8:=w7 hB.1
      have hk:cV (Int.tmod a.B 8) 8 = true:=by rw [hb]; exact bT (by omega) (by omega)
      rw [aC (by simpa using d3),aq (mH r A0 A1),aA hk,lt_eq]
      cases hg:aQ w.B a.A with
      | false =>
        rw [if_neg (by decide),aj (by rfl)]
        exact xA t w r tt iv dp
      | true =>
        have hh:aO w.B a.A:=⟨A0,hg⟩
        obtain ⟨t',e1,_,e3,e4,e5⟩:=Gs (n:=1000) (by omega) r tt iv hh hC.1 (by omega) (k:=(Int.tmod a.B 8).toNat) (by rw [hb]; omega)
        rw [if_pos rfl,aC (by rfl)]
        dsimp only at e1 ⊢
        rw [aq e1]
        refine xA t' _ e3 e4 e5 (yj r tt e3 e4 (fun x hx=>⟨hx,BK _ _ _⟩) dp)
    rw [aj (by simpa using d3)]
    obtain ⟨t',w',m,e,e1,_,m0,m1,e3,e4,e5,e6⟩:=HR (n:=1000) (by omega) r tt iv (q:=a.bJ) A0 A1
    rw [aq e1]
    exact xA t' w' e3 e4 e5 (C3 r tt e3 e4 e6 dp)
  · rw [aj (by simpa using hx),aq uV]
end Go.Proofs.Ytmdpbdhkmfjlhaa
