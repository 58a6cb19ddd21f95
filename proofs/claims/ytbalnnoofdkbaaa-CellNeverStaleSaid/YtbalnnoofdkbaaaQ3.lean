/- Part 3 of what a proof leans on; pruned and shortened by a program out of longer texts. -/
import Derived.Test.YtbalnnoofdkbaaaQ2
namespace Go.Proofs.Ytbalnnoofdkbaaa
open Go Go.Bw
def k9 (n:Nat) (a0:ag) (a1:Int):Option Int:=
 bd (iZ n a0 a1) fun bu =>
 some bu.1.Up
def mg (n:Nat) (a0:ag) (a1:Int):Option (List Int):=
 bd (ja n a0) fun bu =>
 dF (fun A8 (fF:(List Int)) (jq:Int) =>
 cn (decide (jq < (bu.length:Int))) (
 bd (bH n a0 a1) fun fE =>
 gu (!(fE == true) || dB jq bu.length) <|
 cl (fE == true) (k9 n a0 (bu.getD (Int.toNat jq) default)) default fun lX =>
 cn ((fE && (lX == a1))) (
 gu (dB jq bu.length) <|
 gu (jY fF.length 1 8) <|
 lt (fF++([(bu.getD (Int.toNat jq) default)]):List Int) fun AS =>
 A8 AS (wr .i64 (jq + 1))) (
 A8 fF (wr .i64 (jq + 1)))) (
 some fF)) n ([]) 0
def fj:Nat→ag→Int→Option (List Int)
 | 0,_,_=>none
 | n + 1,a0,a1 =>
 bd (bH n a0 a1) fun bu =>
 cn ((!bu)) (
 some ([]:List Int)) (
 bd (mg n a0 a1) fun qk =>
 dF (fun H9 (eZ:(List Int)) (jK:Int) =>
 cn (decide (jK < (qk.length:Int))) (
 gu (dB jK qk.length) <|
 bd (fj n a0 (qk.getD (Int.toNat jK) default)) fun lX =>
 gu (jY eZ.length lX.length 8) <|
 lt (eZ++lX:List Int) fun jW =>
 H9 jW (wr .i64 (jK + 1))) (
 some eZ)) n ([a1]:List Int) 0)
def oT (n:Nat) (a0:ag) (a1:Int):Option (ag × (List Int) × Int):=
 bd (fj n a0 a1) fun bu =>
 dF (fun ES (jq:Int) (jK:ag) =>
 cn (decide (jq < (bu.length:Int))) (
 gu (dB jq bu.length) <|
 bd (dJ n jK (bu.getD (Int.toNat jq) default)) fun hY =>
 ES (wr .i64 (jq + 1)) hY.1) (
 cn (((bu.length:Int) == 0)) (
 some (jK,([]:List Int),4)) (
 some (jK,bu,0)))) n 0 a0
def jy (n:Nat) (a0:ag) (a1:Int) (a2:Int):Option Bool:=
 bd (bH n a0 a1) fun bu =>
 cl (bu == true) (bH n a0 a2) default fun cZ =>
 cl (((bu && cZ) == true) && ((a1 == a2) == false)) (bS n a0 a1 a2) default fun kq =>
 some ((bu && cZ) && ((a1 == a2) || kq))
def ef:Nat→ag→Int→Option Int
 | 0,_,_=>none
 | n + 1,a0,a1 =>
 bd (bH n a0 a1) fun bu =>
 cn ((!bu)) (
 some 0) (
 bd (k9 n a0 a1) fun cZ =>
 bd (ef n a0 cZ) fun kq =>
 some (wr .i64 (1 + kq)))
def nT (n:Nat) (a0:ag) (a1:Int) (a2:Int):Option (ag × Int):=
 bd (bH n a0 a1) fun bu =>
 cl ((!bu) == false) (bH n a0 a2) default fun cZ =>
 cn (((!bu) || (!cZ))) (
 some (a0,4)) (
 bd (k9 n a0 a1) fun fL =>
 cl ((fL != 0) == false) (jy n a0 a1 a2) default fun de =>
 cn (((fL != 0) || de)) (
 some (a0,12)) (
 bd (eJ n a0 a1 a2) fun fF =>
 bd (fj n fF.1 a1) fun lX =>
 dk (fun EP (jW:Int) =>
 cn (decide (jW < (lX.length:Int))) (
 gu (dB jW lX.length) <|
 bd (ef n fF.1 (lX.getD (Int.toNat jW) default)) fun nc =>
 cn (decide (6 < nc)) (
 some (a0,8)) (
 EP (wr .i64 (jW + 1)))) (
 some (fF.1,fF.2))) n 0))
def qx (n:Nat) (a0:ag) (a1:Int):Option (ag × Int):=
 bd (bH n a0 a1) fun bu =>
 cn ((!bu)) (
 some (a0,4)) (
 bd (fj n a0 a1) fun de =>
 dF (fun H6 (lX:Int) (dA:ag) =>
 cn (decide (lX < (de.length:Int))) (
 gu (dB lX de.length) <|
 bd (bE n a0.B (de.getD (Int.toNat lX) default)) fun kX =>
 dF (fun A6 (mF:Int) (mc:ag) =>
 cn (decide (mF < 8)) (
 gu (dB kX 32) <|
 gu (dB mF 8) <|
 cl ((((a0.R (Int.toNat kX)).Cells (Int.toNat mF)) != 0) == true) (bS n a0 ((a0.R (Int.toNat kX)).Cells (Int.toNat mF)) a1) default fun Bz =>
 cn (((((a0.R (Int.toNat kX)).Cells (Int.toNat mF)) != 0) && Bz)) (
 gu (dB kX 32) <|
 gu (dB mF 8) <|
 lt ({ mc with R:=(dI mc.R (Int.toNat kX) ({ (mc.R (Int.toNat kX)) with Cells:=(dI ((mc.R (Int.toNat kX)).Cells) (Int.toNat mF) 0) })) }:ag) fun Eg =>
 A6 (wr .i64 (mF + 1)) Eg) (
 A6 (wr .i64 (mF + 1)) mc)) (
 H6 (wr .i64 (lX + 1)) mc)) n 0 dA) (
 bd (bE n a0.B a1) fun u4 =>
 gu (dB u4 32) <|
 lt ({ dA with R:=(dI dA.R (Int.toNat u4) ({ (dA.R (Int.toNat u4)) with Up:=0 })) }:ag) fun qV =>
 some (qV,0))) n 0 a0)
def qw (n:Nat) (a0:ag) (a1:Int) (a2:Int):Option (ag × Int × Int):=
 cl ((a1 == 0) == false) (bH n a0 a1) default fun bu =>
 cl (((((a1 == 0) || bu) && decide (0 ≤ a2)) && decide (a2 ≤ 64)) == true) (ef n a0 a1) default fun cZ =>
 cn ((((((a1 == 0) || bu) && decide (0 ≤ a2)) && decide (a2 ≤ 64)) && decide (5 < cZ))) (
 some (a0,0,8)) (
 bd (cX n a0 a1 a2) fun fL =>
 some (fL.1,fL.2.1,fL.2.2))
def eN (n:Nat) (a0:ai) (a1:Int):Option (ai × Int):=
 some (a0,a1)
theorem jD {n a0 a1 r K} [bT K] {dM} (f0:(ae).rep K dM a0) (h:eN n a0 a1 = some r):Bw.Fn (α:=Nat × List Value × Nat) Try.prog 50 [A dM, .int .u32 a1] K [] (fun (b0,c0,b1)=>(ae).rep K c0 r.1) (fun (b0,c0,b1)=>.func (.func 70) #[] #[Ptr b0 0,Ptr b1 0]) (fun (b0,c0,b1)=>[.cells b0 41 c0, .cells b1 32 ((LI .u32).enc r.2)]):=by
 unfold eN at h
 refine fo Try.func50 (by kernel_rfl) rfl Try.ntmps50 rfl fun cx _ hro cU hpre=>?_
 refine SC 2 rf ?_
 refine W1 rf (cH rfl) fun b2=>?_
 refine W1 rf (fz (LI .u32) a1 rfl rfl) fun b3=>?_
 refine SL 10 rf ?_
 have h:=sj h; subst h
 exact cg ⟨b2,dM,b3⟩ rfl (.tmp rfl .nil) (mo f0) rfl (ks:=[1,0]) rfl (by decide)
def eB (n:Nat) (a1:ai) (a2:Int):Option (List Int):=
 dk (fun LG (kO:Int) =>
 bd (cM n a1 kO) fun hY =>
 cn (((hY.2 != 0) || (hY.1.Up == 0)) == false) (
 yl hY.1.Up <|
 LG hY.1.Up) (
 some [])) n a2
theorem gU {n:Nat} {a1:ai} {a2:Int} {l:List Int} {K:World→Prop} [bT K] {q1:Nat} {n4:List Value} (f1:(ae).rep K n4 a1) {q2:Nat} (h:eB n a1 a2 = some l):Bu Try.prog 70 [Ptr q1 0,Ptr q2 0] [.cells q1 41 n4, .cells q2 32 ((LI .u32).enc a2)] [.cells q1 41 n4] K (fun k=>[.int .u32 (l.getD k default)]) l.length:=by
 unfold eB at h
 refine ⟨fun y J Jx bs=>eF Try.func70 (by kernel_rfl) rfl Try.ntmps70 rfl (fun cx cU hpre hro=>?_)⟩
 haveI:=iz (show cx.bs = bs++bz [.cells q1 41 n4, .cells q2 32 ((LI .u32).enc a2)] from cU) hpre.1
 have hR:Br Try.prog y cx.bs cx.w0 J Jx (fun k=>[.int .u32 (l.getD k default)]) l.length:=by rw [show cx.bs = bs++bz [.cells q1 41 n4, .cells q2 32 ((LI .u32).enc a2)] from cU]; exact hpre.2
 have CR:l.drop 0 = l:=rfl
 have Cz:0 ≤ l.length:=Nat.zero_le _
 refine gC ?_
 obtain ⟨HU,Fs,h⟩:=nW h
 refine LO (β:=Int × Nat × (List Int) × (List Nat)) [0,1,2] [0,1,2] (fun (EI,kO,mK,Ev,rH)=>[]) (fun (EI,kO,mK,Ev,rH)=>[.ext rH (J mK rH), .cells q1 41 n4, .cells q2 32 ((LI .u32).enc kO)]) (fun (EI,kO,mK,Ev,rH)=>l.drop mK = Ev∧mK ≤ l.length∧dk HU EI kO = some Ev) (n,a2,0,l,bs) ⟨CR,Cz,h⟩ rf rf rf ?_
 rintro EI ⟨kO,mK,Ev,rH⟩ ⟨FT,I5,h⟩
 replace h:=nV Fs h; obtain ⟨EI,rfl,h⟩:=h
 obtain ⟨hY,Cm,h⟩:=bM h
 refine SC 3 rf ?_
 refine ah rfl (ay rfl (aQ.len _ f1)) ?_
 refine ah rfl (bD (bf.id (L:=(LI .u32))) rfl) ?_
 refine CB (eP (K:=K) (mo f1) Cm) rf rf ?_
 rintro K8 pH yU ⟨Bo,rfl,f47⟩
 replace f47:(au).rep (fun w=>K w∧Hs [.ext pH yU] w) Bo hY.1:=f47
 refine SL 3 rf ?_
 refine W1 rf (bK (hz:=(⟨by kernel_rfl⟩ : cK Try.prog 38 aT))) fun b4=>?_
 refine ST (C:=(fun w=>K w∧Hs [.ext pH yU] w)) hY.1 (bf.id (L:=au)) bC (mo f47) rf rf rf rf rf fun G9 f50=>?_
 refine SL 5 rf ?_
 rcases Bool.eq_false_or_eq_true (((hY.2 != 0) || (hY.1.Up == 0)) == false) with mM | mM
 ·
  replace h:=nC mM h
  obtain ⟨Li,IK,h⟩:=zb h
  obtain ⟨I3,Jf,Ji,I1⟩:=drop_cons (FT.trans IK)
  refine SC 4 rf ?_
  refine GB rf rf rf (fun hb=>aK rfl) ?_
  refine GB rf rf rf (fun hb=>cQ (cT rfl hb) (bX.int f50)) ?_
  refine GB rf rf rf (fun hb=>dV (cT rfl hb) rfl) ?_
  refine ah rfl (fC rfl rfl) ?_
  refine ah rfl (ak rfl) ?_
  refine GB rf rf rf (fun hb=>ak rfl) ?_
  refine GB rf rf rf (fun hb=>aK rfl) ?_
  refine GB rf rf rf (fun hb=>cQ (cT rfl hb) (bX.int f50)) ?_
  have hb:=mM; refine Gu (di rfl rfl) mM rfl (m7 (bs:=rH) hR I3 hro (cT rfl hb) (show og _ _ = some [.int .u32 (l.getD mK default)] by rw [Jf]; exact (bJ (cT rfl hb) rfl))) (fun ⟨F4,F9⟩ _=>?_)
  refine GB rf rf rf (fun hb=>iu (cT rfl hb)) ?_
  refine ah rfl (fC rfl rfl) ?_
  refine SL 2 rf ?_
  refine gB rfl (fun hc=>?_) (fun hc=>?_)
  ·
   replace hc:=KE mM hc
   obtain rfl:F4 = false:=by simpa using hc
   dsimp only [cond_true,cond_false]
   refine SC 5 rf ?_
   exact cg (false,F9) rfl .nil trivial rfl (ks:=[2,3]) rfl (by decide)
  ·
   replace hc:=KE mM hc
   obtain rfl:F4 = true:=by simpa using hc
   dsimp only [cond_true,cond_false]
   refine SC 4 rf ?_
   refine ah rfl (cQ rfl (bX.int f50)) ?_
   refine W0 (dx (M:=(LI .u32)) (bf.id (L:=(LI .u32))) hY.1.Up hY.1.Up rfl rfl rfl rfl rfl) ?_
   refine SL 2 rf ?_
   exact LN [2,3,4] (hY.1.Up,mK + 1,Li,F9) ⟨Ji,I1,h⟩ rf rf rf
 ·
  replace h:=nD mM h
  refine SC 4 rf ?_
  refine GB rf rf rf (fun hb=>aK rfl) ?_
  refine GB rf rf rf (fun hb=>cQ (cT rfl hb) (bX.int f50)) ?_
  refine GB rf rf rf (fun hb=>dV (cT rfl hb) rfl) ?_
  refine ah rfl (fC rfl rfl) ?_
  refine ah rfl (ak rfl) ?_
  refine GB rf rf rf (fun hb=>ak rfl) ?_
  refine GB rf rf rf (fun hb=>aK rfl) ?_
  refine GB rf rf rf (fun hb=>cQ (cT rfl hb) (bX.int f50)) ?_
  refine Gv (v:=.bool true) (di rfl rfl) mM rfl ?_
  refine GB rf rf rf (fun hb=>iu (cT rfl hb)) ?_
  refine ah rfl (fC rfl rfl) ?_
  refine SL 2 rf ?_
  refine gB rfl (fun _=>?_) (fun hc=>(F1 mM hc).elim)
  refine SC 5 rf ?_
  have h:=sj h; subst h
  have JJ:=drop_nil FT I5
  refine oD (ks:=[2,3]) (H':=[.ext rH (J (mK) rH), .cells q1 41 n4]) rfl (by decide) ?_
  refine oE (J:=J) (n:=l.length) JJ ?_
  exact cg (true,rH) rfl .nil trivial rfl (ks:=[0,1]) rfl (by decide)
def dm (n:Nat) (a0:ai) (a1:Int):Option Int:=
 bd (aO n a0.book.gN a1) fun bu =>
 cn ((!bu)) (
 some 0) (
 bd (eN n a0 a1) fun cZ =>
 bd (eB n cZ.1 cZ.2) fun de =>
 eD (fun (Dg:Int) zK (bW:Int) =>
 lt (Dg:Int) fun jK =>
 lt (wr .i64 (bW + 1):Int) fun fO =>
 zK fO) (fun (bW:Int) =>
 some bW) de 1)
theorem gZ {n a0 a1 r K} [bT K] {dM} (f0:(ae).rep K dM a0) (h:dm n a0 a1 = some r):wU Try.prog 46 [A dM, .int .u32 a1] K (.int .i64 r):=by
 unfold dm at h
 refine fo Try.func46 (by kernel_rfl) rfl Try.ntmps46 rfl fun cx _ hro cU hpre=>?_
 refine SC 2 rf ?_
 refine W1 rf (cH rfl) fun b2=>?_
 obtain ⟨bu,cS,h⟩:=bM h
 refine SL 8 rf ?_
 refine ah rfl (bn rfl (aZ.iff.1 ((aD.c0 aI).get f0)) (bF _ _)) ?_
 refine ah rfl (ak rfl) ?_
 refine CV (aS cS) rf rf ?_
 refine SL 3 rf ?_
 refine jc h rf (fun hc h=>?_) fun hc h=>?_
 ·
  refine SC 7 rf ?_
  have h:=sj h; subst h
  exact RV rf (rt rf rn) rf
 ·
  refine SC 4 rf ?_
  refine W1 rf (cL (L:=(LI .i64)) (z:=0) ⟨by kernel_rfl⟩) fun b5=>?_
  refine W0 (dx (M:=(LI .i64)) (bf.id (L:=(LI .i64))) 1 1 rfl rfl rfl rfl rfl) ?_
  obtain ⟨cZ,kQ,h⟩:=bM h
  refine SL 5 rf ?_
  refine ah rfl (ay rfl (aQ.len _ f0)) ?_
  refine ah rfl (ak rfl) ?_
  refine cu rfl (fK (jD (K:=K) (mo f0) kQ) rfl kn) (fun ⟨KO,Gp,MB⟩ f25=>?_)
  replace f25:(ae).rep K Gp cZ.1:=f25
  dsimp only [List.cons_append,List.nil_append]
  refine SL 3 rf ?_
  obtain ⟨de,nn,h⟩:=bM h
  obtain ⟨ud,xW,uC,x6,h⟩:=o7 h
  refine nI (K:=K) (α:=Int) (β:=Unit) hro rfl (gU (K:=K) (mo f25) nn) (fun _=>rfl) rfl (fun j6=>fun bW=>eD ud uC (de.drop j6) bW = some r) (fun j6=>fun bW=>[.cells b5 3 ((LI .i64).enc bW), .cells b2 41 dM]) (fun _ _=>False) (fun _=>[]) 1 h (ks:=[0,1,2,3]) rfl (by decide) ?_ ?_ ?_
  ·
   rintro j6 bW lo dd rec c' hk h nX rE mm hsi hT
   replace h:eD ud uC (de.drop j6) bW = some r:=h
   replace h:=o5 xW hk h
   haveI:=ld (K:=K) hsi
   dsimp only [oa]
   obtain ⟨jK,pX,h⟩:=dj h
   rw [← pX]
   refine gG ?_
   refine iR nX mm ?_
   obtain ⟨fO,oc,h⟩:=dj h
   refine SC 2 rf ?_
   refine ah rfl (bD (bf.id (L:=(LI .i64))) rfl) ?_
   refine ah rfl (mD rfl rfl rfl) ?_
   refine W0 (dx (M:=(LI .i64)) (bf.id (L:=(LI .i64))) (wr .i64 (bW + 1)) fO oc rfl rfl rfl rfl) ?_
   refine SL 2 rf ?_
   exact g7 nX rE hT fO h (ks:=[0,1,2,3]) rfl (by decide)
  ·
   rintro Mn bW h
   replace h:eD ud uC (de.drop de.length) bW = some r:=h
   replace h:=o6 x6 rfl h
   dsimp only [List.cons_append,List.nil_append]
   refine SX 4 rf ?_
   refine ah rfl (bD (bf.id (L:=(LI .i64))) rfl) ?_
   refine SL 4 rf ?_
   have h:=sj h; subst h
   exact iA () rfl (.tmp rfl .nil) trivial rfl (ks:=[]) rfl (by decide)
  ·
   intro dd j i hf; exact hf.elim
def iJ (n:Nat) (a0:ai) (a1:Int):Option Int:=
 bd (aO n a0.book.gN a1) fun bu =>
 cn ((!bu)) (
 some 0) (
 bd (eN n a0 a1) fun cZ =>
 bd (eB n cZ.1 cZ.2) fun de =>
 eD (fun (Dg:Int) zK (bW:Int) =>
 lt (Dg:Int) fun jK =>
 zK jK) (fun (bW:Int) =>
 some bW) de a1)
theorem p7 {n a0 a1 r K} [bT K] {dM} (f0:(ae).rep K dM a0) (h:iJ n a0 a1 = some r):wU Try.prog 45 [A dM, .int .u32 a1] K (.int .u32 r):=by
 unfold iJ at h
 refine fo Try.func45 (by kernel_rfl) rfl Try.ntmps45 rfl fun cx _ hro cU hpre=>?_
 refine SC 2 rf ?_
 refine W1 rf (cH rfl) fun b2=>?_
 refine W1 rf (fz (LI .u32) a1 rfl rfl) fun b3=>?_
 obtain ⟨bu,cS,h⟩:=bM h
 refine SL 8 rf ?_
 refine ah rfl (bn rfl (aZ.iff.1 ((aD.c0 aI).get f0)) (bF _ _)) ?_
 refine ah rfl (bD (bf.id (L:=(LI .u32))) rfl) ?_
 refine CV (aS cS) rf rf ?_
 refine SL 3 rf ?_
 refine jc h rf (fun hc h=>?_) fun hc h=>?_
 ·
  refine SC 7 rf ?_
  have h:=sj h; subst h
  exact RV rf (rt rf rn) rf
 ·
  obtain ⟨cZ,kQ,h⟩:=bM h
  refine SC 5 rf ?_
  refine ah rfl (ay rfl (aQ.len _ f0)) ?_
  refine ah rfl (bD (bf.id (L:=(LI .u32))) rfl) ?_
  refine cu rfl (fK (jD (K:=K) (mo f0) kQ) rfl kn) (fun ⟨KO,Gp,MB⟩ f25=>?_)
  replace f25:(ae).rep K Gp cZ.1:=f25
  dsimp only [List.cons_append,List.nil_append]
  refine SL 3 rf ?_
  obtain ⟨de,nn,h⟩:=bM h
  obtain ⟨ud,xW,uC,x6,h⟩:=o7 h
  refine nI (K:=K) (α:=Int) (β:=Unit) hro rfl (gU (K:=K) (mo f25) nn) (fun _=>rfl) rfl (fun j6=>fun bW=>eD ud uC (de.drop j6) bW = some r) (fun j6=>fun bW=>[.cells b3 32 ((LI .u32).enc bW), .cells b2 41 dM]) (fun _ _=>False) (fun _=>[]) a1 h (ks:=[0,1,2,3]) rfl (by decide) ?_ ?_ ?_
  ·
   rintro j6 bW lo dd rec c' hk h nX rE mm hsi hT
   replace h:eD ud uC (de.drop j6) bW = some r:=h
   replace h:=o5 xW hk h
   haveI:=ld (K:=K) hsi
   dsimp only [oa]
   obtain ⟨jK,pX,h⟩:=dj h
   rw [← pX]
   refine SC 3 rf ?_
   refine iR nX mm ?_
   refine SC 3 rf ?_
   refine W0 (dx (M:=(LI .u32)) (bf.id (L:=(LI .u32))) jK jK rfl rfl rfl rfl rfl) ?_
   refine SL 2 rf ?_
   exact g7 nX rE hT jK h (ks:=[0,1,2,3]) rfl (by decide)
  ·
   rintro JS bW h
   replace h:eD ud uC (de.drop de.length) bW = some r:=h
   replace h:=o6 x6 rfl h
   dsimp only [List.cons_append,List.nil_append]
   refine SX 4 rf ?_
   refine ah rfl (bD (bf.id (L:=(LI .u32))) rfl) ?_
   refine SL 4 rf ?_
   have h:=sj h; subst h
   exact iA () rfl (.tmp rfl .nil) trivial rfl (ks:=[]) rfl (by decide)
  ·
   intro dd j i hf; exact hf.elim
def cY (n:Nat) (a0:ai) (a1:Int) (a2:Int):Option Bool:=
 bd (aO n a0.book.gN a1) fun bu =>
 cl ((!bu) == false) (aO n a0.book.gN a2) default fun cZ =>
 cn (((!bu) || (!cZ))) (
 some false) (
 lt ((a1 == a2):Bool) fun kq =>
 bd (eN n a0 a2) fun qk =>
 bd (eB n qk.1 qk.2) fun eo =>
 eD (fun (JO:Int) xF (eZ:Bool) =>
 lt (JO:Int) fun fO =>
 lt ((eZ || (fO == a1)):Bool) fun iD =>
 xF iD) (fun (eZ:Bool) =>
 some eZ) eo kq)
theorem eR {n a0 a1 a2 r K} [bT K] {dM} (f0:(ae).rep K dM a0) (h:cY n a0 a1 a2 = some r):wU Try.prog 18 [A dM, .int .u32 a1, .int .u32 a2] K (.bool r):=by
 unfold cY at h
 refine fo Try.func18 (by kernel_rfl) rfl Try.ntmps18 rfl fun cx _ hro cU hpre=>?_
 refine SC 2 rf ?_
 refine W1 rf (cH rfl) fun b3=>?_
 refine W1 rf (fz (LI .u32) a1 rfl rfl) fun b4=>?_
 obtain ⟨bu,cS,h⟩:=bM h
 obtain ⟨cZ,kQ,_,h⟩:=oh h
 refine SL 8 rf ?_
 refine ah rfl (bn rfl (aZ.iff.1 ((aD.c0 aI).get f0)) (bF _ _)) ?_
 refine ah rfl (bD (bf.id (L:=(LI .u32))) rfl) ?_
 refine CV (aS cS) rf rf ?_
 refine SL 2 rf ?_
 refine GB rf rf rf (fun hb=>aK rfl) ?_
 refine GB rf rf rf (fun hb=>aK (cT rfl hb)) ?_
 refine GB rf rf rf (fun hb=>bn (cT rfl hb) (aZ.iff.1 ((aD.c0 aI).get f0)) (bF _ _)) ?_
 refine GB rf rf rf (fun hb=>ak rfl) ?_
 refine GB rf rf rf (fun hb=>bZ (aS (kQ hb)) (bJ (cT rfl hb) (bJ (cT rfl hb) rfl)) (fun _ _ _=>trivial)) ?_
 refine GB rf rf rf (fun hb=>iu (cT rfl hb)) ?_
 refine ah rfl (fC rfl rfl) ?_
 refine SL 2 rf ?_
 refine jc h rf (fun hc h=>?_) fun hc h=>?_
 ·
  refine SC 7 rf ?_
  have h:=sj h; subst h
  exact RV rf (rt rf rn) rf
 ·
  obtain ⟨kq,nq,h⟩:=dj h
  refine SC 4 rf ?_
  refine ah rfl (bD (bf.id (L:=(LI .u32))) rfl) ?_
  refine SL 2 rf ?_
  refine W1 rf (cL (L:=LB) (z:=false) ⟨by kernel_rfl⟩) fun b7=>?_
  refine W0 (dx (M:=LB) (bf.id (L:=LB)) (a1 == a2) kq nq rfl rfl rfl rfl) ?_
  obtain ⟨qk,Cn,h⟩:=bM h
  refine SL 5 rf ?_
  refine ah rfl (ay rfl (aQ.len _ f0)) ?_
  refine ah rfl (ak rfl) ?_
  refine cu rfl (fK (jD (K:=K) (mo f0) Cn) rfl kn) (fun ⟨KN,Dp,MA⟩ f27=>?_)
  replace f27:(ae).rep K Dp qk.1:=f27
  dsimp only [List.cons_append,List.nil_append]
  refine SL 3 rf ?_
  obtain ⟨eo,uj,h⟩:=bM h
  obtain ⟨Cb,FD,Dd,FN,h⟩:=o7 h
  refine nI (K:=K) (α:=Bool) (β:=Unit) hro rfl (gU (K:=K) (mo f27) uj) (fun _=>rfl) rfl (fun mK=>fun eZ=>eD Cb Dd (eo.drop mK) eZ = some r) (fun mK=>fun eZ=>[.cells b7 4 (LB.enc eZ), .cells b4 32 ((LI .u32).enc a1), .cells b3 41 dM]) (fun _ _=>False) (fun _=>[]) kq h (ks:=[0,1,2,3,4]) rfl (by decide) ?_ ?_ ?_
  ·
   rintro mK eZ lo dd rec c' hk h nX rE mm hsi hT
   replace h:eD Cb Dd (eo.drop mK) eZ = some r:=h
   replace h:=o5 FD hk h
   haveI:=ld (K:=K) hsi
   dsimp only [oa]
   obtain ⟨fO,oc,h⟩:=dj h
   rw [← oc]
   refine SC 3 rf ?_
   refine iR nX mm ?_
   obtain ⟨iD,rB,h⟩:=dj h
   refine SC 2 rf ?_
   refine ah rfl (mC (bf.id (L:=LB)) rfl) ?_
   refine ah rfl (ak rfl) ?_
   refine GB rf rf rf (fun hb=>ak rfl) ?_
   refine GB rf rf rf (fun hb=>bD (bf.id (L:=(LI .u32))) rfl) ?_
   refine GB rf rf rf (fun hb=>dV (cT rfl hb) (cT rfl hb)) ?_
   refine ah rfl (fC rfl rfl) ?_
   refine W0 (dx (M:=LB) (bf.id (L:=LB)) (eZ || (fO == a1)) iD rB rfl rfl rfl rfl) ?_
   refine SL 2 rf ?_
   exact g7 nX rE hT iD h (ks:=[0,1,2,3,4]) rfl (by decide)
  ·
   rintro Mm eZ h
   replace h:eD Cb Dd (eo.drop eo.length) eZ = some r:=h
   replace h:=o6 FN rfl h
   dsimp only [List.cons_append,List.nil_append]
   refine SX 4 rf ?_
   refine ah rfl (mC (bf.id (L:=LB)) rfl) ?_
   refine SL 4 rf ?_
   have h:=sj h; subst h
   exact iA () rfl (.tmp rfl .nil) trivial rfl (ks:=[]) rfl (by decide)
  ·
   intro dd j i hf; exact hf.elim
def fW (n:Nat) (a0:ai) (a1:Int) (a2:Int):Option (ai × Int × Int):=
 bd (dD n a0 a1 a2) fun bu =>
 cl (((bu.2.2 == 0) || (bu.2.2 == 7)) == true) (dm n a0 a1) default fun bW =>
 cn ((((bu.2.2 == 0) || (bu.2.2 == 7)) && decide (6 ≤ bW))) (
 some (a0,0,8)) (
 some (bu.1,bu.2.1,bu.2.2))
theorem jl {n a0 a1 a2 r K} [bT K] {dM} (f0:(ae).rep K dM a0) (h:fW n a0 a1 a2 = some r):tJ Try.prog 16 [A dM, .int .u32 a1, .int .i64 a2] K (fun J v=>∃u0,v = (.tuple #[A u0, .int .u32 r.2.1, .int .i64 r.2.2])∧(ae).rep (fun w=>K w∧J w) u0 (r.1)):=by
 unfold fW at h
 refine fo Try.func16 (by kernel_rfl) rfl Try.ntmps16 rfl fun cx _ hro cU hpre=>?_
 refine SC 2 rf ?_
 refine W1 rf (cH rfl) fun b3=>?_
 refine W1 rf (bK (hz:=(⟨by kernel_rfl⟩ : cK Try.prog 41 aq))) fun b6=>?_
 obtain ⟨bu,cS,h⟩:=bM h
 refine SL 6 rf ?_
 refine ah rfl (ay rfl (aQ.len _ f0)) ?_
 refine SL 2 rf ?_
 refine CB (mS (K:=K) (mo f0) cS) rf rf ?_
 rintro u9 cw fu ⟨om,rfl,f26⟩
 replace f26:(ae).rep (fun w=>K w∧Hs [.ext cw fu] w) om bu.1:=f26
 refine SL 4 rf ?_
 refine W1 rf (bK (hz:=(⟨by kernel_rfl⟩ : cK Try.prog 41 aq))) fun b9=>?_
 refine ST (C:=(fun w=>K w∧Hs [.ext cw fu] w)) bu.1 (bf.id (L:=ae)) aB (mo f26) rf rf rf rf rf fun pO f29=>?_
 obtain ⟨bW,pY,_,h⟩:=oh h
 refine SL 10 rf ?_
 refine GB rf rf rf (fun hb=>ak rfl) ?_
 refine GB rf rf rf (fun hb=>dV (cT rfl hb) rfl) ?_
 refine ah rfl (fC rfl rfl) ?_
 refine ah rfl (ak rfl) ?_
 refine GB rf rf rf (fun hb=>ay rfl (aQ.len _ f0)) ?_
 refine GB rf rf rf (fun hb=>ak rfl) ?_
 refine GB rf rf rf (fun hb=>bZ (gZ (K:=K) (mo f0) (pY hb)) (bJ (cT rfl hb) (bJ (cT rfl hb) rfl)) kn) ?_
 refine GB rf rf rf (fun hb=>lE (cT rfl hb) rfl) ?_
 refine ah rfl (ec rfl rfl) ?_
 refine SL 2 rf ?_
 refine jc h rf (fun hc h=>?_) fun hc h=>?_
 ·
  refine SC 2 rf ?_
  refine ah rfl (ay rfl (aQ.len _ f0)) ?_
  refine ST (C:=K) a0 (bf.id (L:=ae)) aB (mo f0) rf rf rf rf rf fun D0 f32=>?_
  refine SL 6 rf ?_
  have h:=sj h; subst h
  exact pQ [] rf rf (ra rf (aQ.len _ f32) (rt rf (rt rf rn))) ⟨_,rfl,(mo f32)⟩
 ·
  refine SC 4 rf ?_
  refine ah rfl (ay rfl (aQ.len _ f29)) ?_
  refine SL 2 rf ?_
  refine ST (C:=(fun w=>K w∧Hs [.ext cw fu] w)) bu.1 (bf.id (L:=ae)) aB (mo f29) rf rf rf rf rf fun Bp f35=>?_
  refine SL 5 rf ?_
  have h:=sj h; subst h
  exact pQ [1] rf rf (ra rf (aQ.len _ f35) (rt rf (rt rf rn))) ⟨_,rfl,(mo f35)⟩
def ei (n:Nat) (a0:Int) (a1:ai) (a2:Int):Option Bool:=
 bd (cM n a1 a0) fun bu =>
 some (bu.1.Up != a2)
theorem kM {n a0 a1 a2 r K} [bT K] {q1 n4} (f1:(ae).rep K n4 a1) {q2:Nat} (h:ei n a0 a1 a2 = some r):Bw.Fn (α:=Unit) Try.prog 78 [.int .u32 a0,Ptr q1 0,Ptr q2 0] (yV (bz [.cells q1 41 n4, .cells q2 32 ((LI .u32).enc a2)]) K) [.cells q1 41 n4, .cells q2 32 ((LI .u32).enc a2)] (fun _=>True) (fun _=>(.bool r)) (fun _=>[.cells q1 41 n4, .cells q2 32 ((LI .u32).enc a2)]):=by
 unfold ei at h
 refine eF Try.func78 (by kernel_rfl) rfl Try.ntmps78 rfl (fun cx cU hpre hro=>?_)
 haveI:=iz cU hpre
 obtain ⟨bu,cS,h⟩:=bM h
 refine SC 7 rf ?_
 refine ah rfl (ay rfl (aQ.len _ f1)) ?_
 refine ah rfl (ak rfl) ?_
 refine CB (eP (K:=K) (mo f1) cS) rf rf ?_
 rintro u9 cw fu ⟨om,rfl,f26⟩
 replace f26:(au).rep (fun w=>K w∧Hs [.ext cw fu] w) om bu.1:=f26
 refine SL 3 rf ?_
 refine W1 rf (bK (hz:=(⟨by kernel_rfl⟩ : cK Try.prog 38 aT))) fun b5=>?_
 refine ST (C:=(fun w=>K w∧Hs [.ext cw fu] w)) bu.1 (bf.id (L:=au)) bC (mo f26) rf rf rf rf rf fun pO f29=>?_
 refine SL 6 rf ?_
 refine ah rfl (cQ rfl (bX.int f29)) ?_
 refine ah rfl (bD (bf.id (L:=(LI .u32))) rfl) ?_
 refine SL 5 rf ?_
 have h:=sj h; subst h
 exact cg () rfl (.tmp rfl .nil) trivial rfl (ks:=[2,3]) rfl (by decide)
def ck (n:Nat) (a0:(List Int)) (kV:ai) (jn:Int):Option Int:=
 dk (fun v5 (cZ:Int) =>
 cn (decide (cZ < (a0.length:Int))) (
 gu (dB cZ a0.length) <|
 bd (ei n (a0.getD (Int.toNat cZ) default) kV jn) fun de =>
 cn (de) (
 some cZ) (
 v5 (wr .i64 (cZ + 1)))) (
 some (-1))) n 0
theorem fX {n a0 kV jn r K} [bT K] {v0} (f0:Fz K v0 (LI .u32) a0) {j4:Nat} {jR:List Value} (z9:(ae).rep K jR kV) {j3:Nat} (h:ck n a0 kV jn = some r):Bw.Fn (α:=Unit) Try.prog 84 [v0, .func (.func 78) #[] #[Ptr j4 0,Ptr j3 0]] (yV (bz [.cells j4 41 jR, .cells j3 32 ((LI .u32).enc jn)]) K) [.cells j4 41 jR, .cells j3 32 ((LI .u32).enc jn)] (fun _=>True) (fun _=>(.int .i64 r)) (fun _=>[.cells j4 41 jR, .cells j3 32 ((LI .u32).enc jn)]):=by
 unfold ck at h
 refine eF Try.func84 (by kernel_rfl) rfl Try.ntmps84 rfl (fun cx cU hpre hro=>?_)
 haveI:=iz cU hpre
 refine SC 9 rf ?_
 refine ah rfl (fJ f0 rfl) ?_
 refine SL 4 rf ?_
 obtain ⟨B3,xU,h⟩:=nW h
 refine LO (β:=Int) [0,1,7] [0,1] (fun (xD,cZ)=>[(8, .int .i64 cZ)]) (fun (xD,cZ)=>[.cells j4 41 jR, .cells j3 32 ((LI .u32).enc jn)]) (fun (xD,cZ)=>dk B3 xD cZ = some r) (n,0) h rf rf rf ?_
 rintro xD cZ h
 replace h:=nV xU h; obtain ⟨xD,rfl,h⟩:=h
 refine SC 6 rf ?_
 refine jc h rf (fun hc h=>?_) fun hc h=>?_
 ·
  obtain ⟨wj,h⟩:=eX h
  obtain ⟨de,nn,h⟩:=bM h
  refine SC 15 rf ?_
  refine ah rfl (gM (m:=(Int.toNat cZ)) f0 rfl rfl rfl (aV wj).1 (aV wj).2) ?_
  refine ah rfl (jT f0 (bf.idx (L:=(LI .u32)) (m:=(a0.length)) (k:=1) ((Int.toNat cZ)) (aV wj).2 rfl) rfl) ?_
  refine cu rfl (iU (K:=K) (l9:=[.cells j4 41 jR, .cells j3 32 ((LI .u32).enc jn)]) (rest:=[]) (ks:=[0,1]) (kM (K:=K) (mo z9) nn) rfl rfl rfl rfl (by decide)) (fun _ _=>?_)
  dsimp only [List.cons_append,List.nil_append]
  refine SL 2 rf ?_
  refine jc h rf (fun hc h=>?_) fun hc h=>?_
  ·
   refine SC 12 rf ?_
   have h:=sj h; subst h
   exact cg () rfl (.tmp rfl .nil) trivial rfl (ks:=[0,1]) rfl (by decide)
  ·
   refine SC 7 rf ?_
   exact LN [0,1] (wr .i64 (cZ + 1)) h rf rf rf
 ·
  refine SC 11 rf ?_
  have h:=sj h; subst h
  exact cg () rfl (.tmp rfl .nil) trivial rfl (ks:=[0,1]) rfl (by decide)
def bY (n:Nat) (a0:(List Int)) (kV:ai) (jn:Int):Option (List Int):=
 bd (ck n a0 kV jn) fun bu =>
 cn ((bu == (-1))) (
 some a0) (
 kL (fun ET (eE:(List Int)) (bW:Int) (fF:Int) =>
 cn (decide (fF < (eE.length:Int))) (
 gu (dB fF eE.length) <|
 bd (ei n (eE.getD (Int.toNat fF) default) kV jn) fun gR =>
 cn ((!gR)) (
 gu (dB bW eE.length) <|
 lt ((eE.set (Int.toNat bW) (eE.getD (Int.toNat fF) default)):List Int) fun fE =>
 ET fE (wr .i64 (bW + 1)) (wr .i64 (fF + 1))) (
 ET eE bW (wr .i64 (fF + 1)))) (
 gu (dB bW (eE.length + 1)) <|
 lt (eE.take (Int.toNat bW)++List.replicate (eE.length - (Int.toNat bW)) 0:List Int) fun dA =>
 gu (dB bW (dA.length + 1)) <|
 lt (dA.take (Int.toNat bW):List Int) fun zc =>
 some zc)) n a0 bu (wr .i64 (bu + 1)))
theorem fN {n a0 kV jn r K} [bT K] {v0} (f0:jU v0 a0.length) {j4:Nat} {jR:List Value} (z9:(ae).rep K jR kV) {j3:Nat} (h:bY n a0 kV jn = some r):Bw.Fn (α:=Value) Try.prog 77 [v0, .func (.func 78) #[] #[Ptr j4 0,Ptr j3 0]] (yV (bz [Row v0 32 1 (LI .u32) a0, .cells j4 41 jR, .cells j3 32 ((LI .u32).enc jn)]) K) [Row v0 32 1 (LI .u32) a0, .cells j4 41 jR, .cells j3 32 ((LI .u32).enc jn)] (fun v=>jU v r.length) (fun v=>v) (fun v=>[Row v 32 1 (LI .u32) r, .cells j4 41 jR, .cells j3 32 ((LI .u32).enc jn)]):=by
 unfold bY at h
 refine eF Try.func77 (by kernel_rfl) rfl Try.ntmps77 rfl (fun cx cU hpre hro=>?_)
 haveI:=iz cU hpre
 obtain ⟨bu,cS,h⟩:=bM h
 refine SC 9 rf ?_
 refine cu rfl (iU (K:=(fun w=>K w∧Hs [Row v0 32 1 (LI .u32) a0] w)) (l9:=[.cells j4 41 jR, .cells j3 32 ((LI .u32).enc jn)]) (rest:=[Row v0 32 1 (LI .u32) a0]) (ks:=[1,2,0]) (fX (K:=(fun w=>K w∧Hs [Row v0 32 1 (LI .u32) a0] w)) ((Fz.row (e:=32) (sz:=1) (L:=(LI .u32)) (xs:=a0) rfl f0).mono dg) (mo z9) cS) rfl rfl rfl rfl (by decide)) (fun _ _=>?_)
 dsimp only [List.cons_append,List.nil_append]
 refine SL 10 rf ?_
 refine jc h rf (fun hc h=>?_) fun hc h=>?_
 ·
  refine SC 8 rf ?_
  have h:=sj h; subst h
  exact cg v0 rfl (.tmp rfl .nil) f0 rfl (ks:=[2,0,1]) rfl (by decide)
 ·
  refine SC 11 rf ?_
  obtain ⟨HY,Fw,h⟩:=A1 h
  refine LO (β:=(List Int) × Int × Int) [1] [0,1,2] (fun (EM,eE,bW,fF)=>[(0,v0),(5, .int .i64 bW),(6, .int .i64 fF)]) (fun (EM,eE,bW,fF)=>[.cells j4 41 jR, .cells j3 32 ((LI .u32).enc jn),Row v0 32 1 (LI .u32) eE]) (fun (EM,eE,bW,fF)=>jU v0 eE.length∧kL HY EM eE bW fF = some r) (n,a0,bu,wr .i64 (bu + 1)) ⟨f0,h⟩ rf rf rf ?_
  rintro EM ⟨eE,bW,fF⟩ ⟨nr,h⟩
  replace h:=A0 Fw h; obtain ⟨EM,rfl,h⟩:=h
  refine SC 5 rf ?_
  refine ah rfl (fJ (Fz.row (e:=32) (sz:=1) (L:=(LI .u32)) (xs:=eE) rfl nr) rfl) ?_
  refine SL 3 rf ?_
  refine jc h rf (fun hc h=>?_) fun hc h=>?_
  ·
   obtain ⟨nw,h⟩:=eX h
   refine SC 8 rf ?_
   refine ah rfl (gM (m:=(Int.toNat fF)) (Fz.row (e:=32) (sz:=1) (L:=(LI .u32)) (xs:=eE) rfl nr) rfl rfl rfl (aV nw).1 (aV nw).2) ?_
   refine ah rfl (jT (Fz.row (e:=32) (sz:=1) (L:=(LI .u32)) (xs:=eE) rfl nr) (bf.idx (L:=(LI .u32)) (m:=(eE.length)) (k:=1) ((Int.toNat fF)) (aV nw).2 rfl) rfl) ?_
   obtain ⟨gR,lq,h⟩:=bM h
   refine SL 7 rf ?_
   refine cu rfl (iU (K:=K) (l9:=[.cells j4 41 jR, .cells j3 32 ((LI .u32).enc jn)]) (rest:=[Row v0 32 1 (LI .u32) eE]) (ks:=[0,1,2]) (kM (K:=K) (mo z9) lq) rfl rfl rfl rfl (by decide)) (fun _ _=>?_)
   dsimp only [List.cons_append,List.nil_append]
   refine SL 3 rf ?_
   refine jc h rf (fun hc h=>?_) fun hc h=>?_
   ·
    obtain ⟨sZ,h⟩:=eX h
    obtain ⟨fE,v8,h⟩:=dj h
    refine SC 5 rf ?_
    refine ah rfl (gM (m:=(Int.toNat bW)) (Fz.row (e:=32) (sz:=1) (L:=(LI .u32)) (xs:=eE) rfl nr) rfl rfl rfl (aV sZ).1 (aV sZ).2) ?_
    refine W0 (uW (sz:=1) (M:=(LI .u32)) (Int.toNat bW) (bf.idx (L:=(LI .u32)) (m:=(eE.length)) (k:=1) ((Int.toNat bW)) (aV sZ).2 rfl) (eE.getD (Int.toNat fF) default) fE v8 rfl rfl rfl rfl (aV sZ).2 rfl rfl) ?_
    have IF:jU v0 fE.length:=by rw [v8,List.length_set]; exact nr
    refine SL 14 rf ?_
    exact LN [0,1,2] (fE,wr .i64 (bW + 1),wr .i64 (fF + 1)) ⟨IF,h⟩ rf rf rf
   ·
    refine SC 8 rf ?_
    exact LN [0,1,2] (eE,bW,wr .i64 (fF + 1)) ⟨nr,h⟩ rf rf rf
  ·
   obtain ⟨nv,h⟩:=eX h
   obtain ⟨dA,sV,h⟩:=dj h
   refine SC 9 rf ?_
   refine ah rfl (wC (l:=(Int.toNat bW)) (Fz.row (e:=32) (sz:=1) (L:=(LI .u32)) (xs:=eE) rfl nr) rfl rfl (aV nv).1 (Nat.lt_succ_iff.1 (aV nv).2)) ?_
   refine eU (wG (L:=(LI .u32)) (z0:=0) (e:=32) (by kernel_rfl) ⟨by kernel_rfl⟩ rfl rfl rfl rfl (Nat.lt_succ_iff.1 (aV nv).2) rfl sV) (fun _ _=>?_)
   have Fe:jU v0 dA.length:=by rw [sV,List.length_append,List.length_take,List.length_replicate,Nat.min_eq_left (Nat.lt_succ_iff.1 (aV nv).2),Nat.add_sub_cancel' (Nat.lt_succ_iff.1 (aV nv).2)]; exact nr
   obtain ⟨x3,h⟩:=eX h
   obtain ⟨zc,E4,h⟩:=dj h
   refine SL 6 rf ?_
   refine cu rfl (qU (e:=32) (sz:=1) (L:=(LI .u32)) Fe rfl rfl rfl (aV x3).1 (Nat.lt_succ_iff.1 (aV x3).2)) (fun _ _=>?_)
   have ID:jU (ig 0 (Int.toNat bW) 1 v0) zc.length:=by rw [E4,List.length_take,Nat.min_eq_left (Nat.lt_succ_iff.1 (aV x3).2)]; exact vB Fe
   rw [← E4]
   refine SL 4 rf ?_
   have h:=sj h; subst h
   exact cg (ig 0 (Int.toNat bW) 1 v0) rfl (.tmp rfl .nil) ID rfl (ks:=[2,0,1]) rfl (by decide)
def iK (n:Nat) (a0:ai) (a1:Int):Option (List Int):=
 bd (aO n a0.book.gN a1) fun bu =>
 cn ((!bu)) (
 some ([]:List Int)) (
 bd (eu n a0.book) fun kq =>
 bd (bY n kq a0 a1) fun de =>
 some de)
theorem p8 {n a0 a1 r K} [bT K] {dM} (f0:(ae).rep K dM a0) (h:iK n a0 a1 = some r):Bw.Fn (α:=Value) Try.prog 66 [A dM, .int .u32 a1] K [] (fun v=>jU v r.length) (fun v=>v) (fun v=>[Row v 32 1 (LI .u32) r]):=by
 unfold iK at h
 refine fo Try.func66 (by kernel_rfl) rfl Try.ntmps66 rfl fun cx _ hro cU hpre=>?_
 refine SC 2 rf ?_
 refine W1 rf (cH rfl) fun b2=>?_
 refine W1 rf (fz (LI .u32) a1 rfl rfl) fun b3=>?_
 obtain ⟨bu,cS,h⟩:=bM h
 refine SL 8 rf ?_
 refine ah rfl (bn rfl (aZ.iff.1 ((aD.c0 aI).get f0)) (bF _ _)) ?_
 refine ah rfl (bD (bf.id (L:=(LI .u32))) rfl) ?_
 refine CV (aS cS) rf rf ?_
 refine SL 3 rf ?_
 refine jc h rf (fun hc h=>?_) fun hc h=>?_
 ·
  refine SC 7 rf ?_
  refine Aq 32 1 (LI .u32) ?_
  have h:=sj h; subst h
  exact cg (.slice none 0 0) rfl (.tmp rfl .nil) ⟨_,_,rfl⟩ rfl (ks:=[0]) rfl (by decide)
 ·
  obtain ⟨kq,nq,h⟩:=bM h
  obtain ⟨de,nn,h⟩:=bM h
  refine SC 5 rf ?_
  refine ah rfl (bn rfl (aZ.iff.1 (aD.get f0)) (bF _ _)) ?_
  refine cu rfl (fK (ke nq) rfl (fun _ _ _=>trivial)) (fun Lc IG=>?_)
  dsimp only [List.cons_append,List.nil_append]
  refine ah rfl (n9 rfl) ?_
  refine cu rfl (iU (K:=K) (l9:=[Row Lc 32 1 (LI .u32) kq, .cells b2 41 dM, .cells b3 32 ((LI .u32).enc a1)]) (rest:=[]) (ks:=[0,2,1]) (fN (K:=K) IG (mo f0) nn) rfl rfl rfl rfl (by decide)) (fun yZ nr=>?_)
  dsimp only [List.cons_append,List.nil_append]
  refine SL 4 rf ?_
  have h:=sj h; subst h
  exact cg yZ rfl (.tmp rfl .nil) nr rfl (ks:=[0]) rfl (by decide)
def eM (n:Nat) (a0:ai) (a1:Int):Option (Int × ai):=
 some (a1,a0)
theorem jC {n a0 a1 r K} [bT K] {dM} (f0:(ae).rep K dM a0) (h:eM n a0 a1 = some r):Bw.Fn (α:=Nat × Nat × List Value) Try.prog 43 [A dM, .int .u32 a1] K [] (fun (b0,b1,c1)=>(ae).rep K c1 r.2) (fun (b0,b1,c1)=>.func (.func 65) #[] #[Ptr b0 0,Ptr b1 0]) (fun (b0,b1,c1)=>[.cells b0 32 ((LI .u32).enc r.1), .cells b1 41 c1]):=by
 unfold eM at h
 refine fo Try.func43 (by kernel_rfl) rfl Try.ntmps43 rfl fun cx _ hro cU hpre=>?_
 refine SC 2 rf ?_
 refine W1 rf (cH rfl) fun b2=>?_
 refine W1 rf (fz (LI .u32) a1 rfl rfl) fun b3=>?_
 refine SL 10 rf ?_
 have h:=sj h; subst h
 exact cg ⟨b3,b2,dM⟩ rfl (.tmp rfl .nil) (mo f0) rfl (ks:=[0,1]) rfl (by decide)
def dW (n:Nat) (a0:(List Int)):Option (List Int):=
 kL (fun xF (de:(List Int)) (eo:Int) (bW:Int) =>
 cn (decide (eo < bW)) (
 gu (dB bW de.length) <|
 gu (dB eo de.length) <|
 gu (dB eo de.length) <|
 lt ((de.set (Int.toNat eo) (de.getD (Int.toNat bW) default)):List Int) fun fO =>
 gu (dB bW fO.length) <|
 lt ((fO.set (Int.toNat bW) (de.getD (Int.toNat eo) default)):List Int) fun lX =>
 xF lX (wr .i64 (eo + 1)) (wr .i64 (bW - 1))) (
 some de)) n a0 0 (wr .i64 ((a0.length:Int) - 1))
theorem kT {n a0 r v0} (f0:jU v0 a0.length) (h:dW n a0 = some r):Bw.Fn (α:=Value) Try.prog 67 [v0] (yV (bz [Row v0 32 1 (LI .u32) a0]) (fun _=>True)) [Row v0 32 1 (LI .u32) a0] (fun v=>v = v0∧jU v r.length) (fun v=>.tuple #[]) (fun v=>[Row v 32 1 (LI .u32) r]):=by
 unfold dW at h
 refine eF Try.func67 (by kernel_rfl) rfl Try.ntmps67 rfl (fun cx cU hpre hro=>?_)
 refine SC 3 rf ?_
 refine ah rfl (fJ (Fz.row (e:=32) (sz:=1) (L:=(LI .u32)) (xs:=a0) rfl f0) rfl) ?_
 refine SL 6 rf ?_
 obtain ⟨B2,xT,h⟩:=A1 h
 refine LO (β:=(List Int) × Int × Int) [] [0] (fun (m32,de,eo,bW)=>[(0,v0),(2, .int .i64 eo),(3, .int .i64 bW)]) (fun (m32,de,eo,bW)=>[Row v0 32 1 (LI .u32) de]) (fun (m32,de,eo,bW)=>jU v0 de.length∧kL B2 m32 de eo bW = some r) (n,a0,0,wr .i64 ((a0.length:Int) - 1)) ⟨f0,h⟩ rf rf rf ?_
 rintro m32 ⟨de,eo,bW⟩ ⟨pc,h⟩
 replace h:=A0 xT h; obtain ⟨m32,rfl,h⟩:=h
 refine SC 8 rf ?_
 refine jc h rf (fun hc h=>?_) fun hc h=>?_
 ·
  refine SC 4 rf ?_
  obtain ⟨CI,h⟩:=eX h
  obtain ⟨nw,h⟩:=eX h
  obtain ⟨s6,h⟩:=eX h
  obtain ⟨fO,oc,h⟩:=dj h
  obtain ⟨sY,h⟩:=eX h
  obtain ⟨lX,zR,h⟩:=dj h
  refine g8 mixed (.oQ [] [(0,[0]),(1,[2]),(2,[0]),(3,[3]),(4,[0]),(5,[3]),(6,[18,19]),(7,[20]),(8,[0]),(9,[2]),(10,[22,23]),(11,[24]),(12,[14,15])] (.alt 13 [21,26] (.oQ [(2,[0]),(3,[3])] [(14,[16,17])] (.alt 15 [25,27] (.fin [] []) .no)) .no)) (by kernel_rfl) ?_
  refine T0 ?_
  refine NS 6 rf ?_
  refine NV rf rf (gM (m:=(Int.toNat bW)) (Fz.row (e:=32) (sz:=1) (L:=(LI .u32)) (xs:=de) rfl pc) rfl rfl rfl (aV CI).1 (aV CI).2) ?_
  refine NV rf rf (jT (Fz.row (e:=32) (sz:=1) (L:=(LI .u32)) (xs:=de) rfl pc) (bf.idx (L:=(LI .u32)) (m:=(de.length)) (k:=1) ((Int.toNat bW)) (aV CI).2 rfl) rfl) ?_
  refine NS 2 rf ?_
  refine NV rf rf (gM (m:=(Int.toNat eo)) (Fz.row (e:=32) (sz:=1) (L:=(LI .u32)) (xs:=de) rfl pc) rfl rfl rfl (aV nw).1 (aV nw).2) ?_
  refine NV rf rf (jT (Fz.row (e:=32) (sz:=1) (L:=(LI .u32)) (xs:=de) rfl pc) (bf.idx (L:=(LI .u32)) (m:=(de.length)) (k:=1) ((Int.toNat eo)) (aV nw).2 rfl) rfl) ?_
  refine NV rf rf (gM (m:=(Int.toNat eo)) (Fz.row (e:=32) (sz:=1) (L:=(LI .u32)) (xs:=de) rfl pc) rfl rfl rfl (aV s6).1 (aV s6).2) ?_
  refine gl ?_
  refine X0 rf (uW (sz:=1) (M:=(LI .u32)) (Int.toNat eo) (bf.idx (L:=(LI .u32)) (m:=(de.length)) (k:=1) ((Int.toNat eo)) (aV s6).2 rfl) (de.getD (Int.toNat bW) default) fO oc rfl rfl rfl rfl (aV s6).2 rfl rfl) ?_
  have pZ:jU v0 fO.length:=by rw [oc,List.length_set]; exact pc
  refine r9 ?_ ?_
  ·
   exact RE 2 rf rf
  refine NV rf rf (gM (m:=(Int.toNat bW)) (Fz.row (e:=32) (sz:=1) (L:=(LI .u32)) (xs:=fO) rfl pZ) rfl rfl rfl (aV sY).1 (aV sY).2) ?_
  refine gl ?_
  refine X0 rf (uW (sz:=1) (M:=(LI .u32)) (Int.toNat bW) (bf.idx (L:=(LI .u32)) (m:=(fO.length)) (k:=1) ((Int.toNat bW)) (aV sY).2 rfl) (de.getD (Int.toNat eo) default) lX zR rfl rfl rfl rfl (aV sY).2 rfl rfl) ?_
  have IE:jU v0 lX.length:=by rw [zR,List.length_set]; exact pZ
  refine AO ?_
  refine SX 10 rf ?_
  exact LN [0] (lX,wr .i64 (eo + 1),wr .i64 (bW - 1)) ⟨IE,h⟩ rf rf rf
 ·
  refine SC 4 rf ?_
  have h:=sj h; subst h
  exact pJ v0 rfl .nil ⟨rfl,pc⟩ rfl (ks:=[0]) rfl (by decide)
def eA (n:Nat) (a1:Int) (a2:ai):Option (List Int):=
 dk (fun ES (bW:(List Int)) =>
 cn (decide (0 < (bW.length:Int))) (
 gu (dB (wr .i64 ((bW.length:Int) - 1)) bW.length) <|
 yl (bW.getD (Int.toNat (wr .i64 ((bW.length:Int) - 1))) default) <|
 bd (iK n a2 (bW.getD (Int.toNat (wr .i64 ((bW.length:Int) - 1))) default)) fun kN =>
 bd (dW n kN) fun nc =>
 gu (dB (wr .i64 ((bW.length:Int) - 1)) (bW.length + 1)) <|
 lt (bW.take (Int.toNat (wr .i64 ((bW.length:Int) - 1))):List Int) fun u6 =>
 gu (jY u6.length nc.length 4) <|
 lt (u6++nc:List Int) fun oM =>
 ES oM) (
 some [])) n ([a1]:List Int)
theorem gT {n:Nat} {a1:Int} {a2:ai} {l:List Int} {K:World→Prop} [bT K] {q1:Nat} {q2:Nat} {uI:List Value} (f2:(ae).rep K uI a2) (h:eA n a1 a2 = some l):vI Try.prog 65 [Ptr q1 0,Ptr q2 0] [.cells q1 32 ((LI .u32).enc a1), .cells q2 41 uI] K (fun k=>[.int .u32 (l.getD k default)]) l.length:=by
 unfold eA at h
 refine ⟨fun y J Jx bs=>eF Try.func65 (by kernel_rfl) rfl Try.ntmps65 rfl (fun cx cU hpre hro=>?_)⟩
 haveI:=iz (show cx.bs = bs++bz [.cells q1 32 ((LI .u32).enc a1), .cells q2 41 uI] from cU) hpre.1
 have hR:Br Try.prog y cx.bs cx.w0 J Jx (fun k=>[.int .u32 (l.getD k default)]) l.length:=by rw [show cx.bs = bs++bz [.cells q1 32 ((LI .u32).enc a1), .cells q2 41 uI] from cU]; exact hpre.2
 have CR:l.drop 0 = l:=rfl
 have Cz:0 ≤ l.length:=Nat.zero_le _
 refine SC 2 rf ?_
 refine ah rfl (bD (bf.id (L:=(LI .u32))) rfl) ?_
 refine cu rfl (AG (LI .u32) a1 rfl rfl rfl rfl (by decide) (by decide)) (fun b8 _=>?_)
 refine SL 4 rf ?_
 obtain ⟨HV,Ft,h⟩:=nW h
 refine LO (β:=(List Int) × Value × Nat × (List Int) × (List Nat)) [0,2] [0,1,2,3] (fun (EJ,bW,AT,pW,Ew,rI)=>[(4,AT)]) (fun (EJ,bW,AT,pW,Ew,rI)=>[Row AT 32 1 (LI .u32) bW, .ext rI (J pW rI), .cells q1 32 ((LI .u32).enc a1), .cells q2 41 uI]) (fun (EJ,bW,AT,pW,Ew,rI)=>jU AT bW.length∧l.drop pW = Ew∧pW ≤ l.length∧dk HV EJ bW = some Ew) (n,([a1]:List Int), .slice (some ⟨b8,0,none⟩) 1 1,0,l,bs) ⟨⟨_,_,rfl⟩,CR,Cz,h⟩ rf rf rf ?_
 rintro EJ ⟨bW,AT,pW,Ew,rI⟩ ⟨ur,FU,I6,h⟩
 replace h:=nV Ft h; obtain ⟨EJ,rfl,h⟩:=h
 refine SC 4 rf ?_
 refine ah rfl (fJ (Fz.row (e:=32) (sz:=1) (L:=(LI .u32)) (xs:=bW) rfl ur) rfl) ?_
 refine SL 3 rf ?_
 refine jc h rf (fun hc h=>?_) fun hc h=>?_
 ·
  obtain ⟨CH,h⟩:=eX h
  refine SC 7 rf ?_
  refine ah rfl (fJ (Fz.row (e:=32) (sz:=1) (L:=(LI .u32)) (xs:=bW) rfl ur) rfl) ?_
  refine ah rfl (r5 rfl rfl rfl) ?_
  refine ah rfl (gM (m:=(Int.toNat (wr .i64 ((bW.length:Int) - 1)))) (Fz.row (e:=32) (sz:=1) (L:=(LI .u32)) (xs:=bW) rfl ur) rfl rfl rfl (aV CH).1 (aV CH).2) ?_
  refine ah rfl (jT (Fz.row (e:=32) (sz:=1) (L:=(LI .u32)) (xs:=bW) rfl ur) (bf.idx (L:=(LI .u32)) (m:=(bW.length)) (k:=1) ((Int.toNat (wr .i64 ((bW.length:Int) - 1)))) (aV CH).2 rfl) rfl) ?_
  refine SL 5 rf ?_
  obtain ⟨HE,Cq,h⟩:=zb h
  obtain ⟨Cy,CG,CQ,Cw⟩:=drop_cons (FU.trans Cq)
  refine SC 3 rf ?_
  refine cu rfl (m7 (bs:=rI) hR Cy hro rfl (show og _ _ = some [.int .u32 (l.getD pW default)] by rw [CG]; rfl)) (fun ⟨yd,uE⟩ _=>?_)
  refine SL 3 rf ?_
  refine gB rfl (fun hc=>?_) (fun hc=>?_)
  ·
   obtain rfl:yd = false:=by simpa using hc
   dsimp only [cond_true,cond_false]
   refine SC 5 rf ?_
   exact cg (false,uE) rfl .nil trivial rfl (ks:=[1,2,3]) rfl (by decide)
  ·
   obtain rfl:yd = true:=by simpa using hc
   dsimp only [cond_true,cond_false]
   obtain ⟨kN,Cl,h⟩:=bM h
   refine SC 4 rf ?_
   refine ah rfl (ay rfl (aQ.len _ f2)) ?_
   refine ah rfl (ak rfl) ?_
   refine cu rfl (fK (p8 (K:=K) (mo f2) Cl) rfl kn) (fun BE Fc=>?_)
   dsimp only [List.cons_append,List.nil_append]
   obtain ⟨nc,Cj,h⟩:=bM h
   refine SL 6 rf ?_
   refine cu rfl (iU (K:=(fun _=>True)) (l9:=[Row BE 32 1 (LI .u32) kN]) (rest:=[Row AT 32 1 (LI .u32) bW, .ext uE (J (pW + 1) uE), .cells q1 32 ((LI .u32).enc a1), .cells q2 41 uI]) (ks:=[0,1,2,3,4]) (kT Fc Cj) rfl rfl rfl rfl (by decide)) (fun _ ⟨rfl,IC⟩=>?_)
   dsimp only [List.cons_append,List.nil_append]
   obtain ⟨CD,h⟩:=eX h
   obtain ⟨u6,zQ,h⟩:=dj h
   obtain ⟨FJ,h⟩:=eX h
   obtain ⟨oM,sU,h⟩:=dj h
   refine SL 5 rf ?_
   refine ah rfl (fJ (Fz.row (e:=32) (sz:=1) (L:=(LI .u32)) (xs:=bW) rfl ur) rfl) ?_
   refine ah rfl (r5 rfl rfl rfl) ?_
   refine cu rfl (qU (e:=32) (sz:=1) (L:=(LI .u32)) ur rfl rfl rfl (aV CD).1 (Nat.lt_succ_iff.1 (aV CD).2)) (fun _ _=>?_)
   have LV:jU (ig 0 (Int.toNat (wr .i64 ((bW.length:Int) - 1))) 1 AT) u6.length:=by rw [zQ,List.length_take,Nat.min_eq_left (Nat.lt_succ_iff.1 (aV CD).2)]; exact vB ur
   rw [← zQ]
   refine ah rfl (ak rfl) ?_
   refine cu rfl (AH (sz:=1) (L:=(LI .u32)) (xs:=u6) (ys:=nc) (bytes:=4) (Fz.row (e:=32) (sz:=1) (L:=(LI .u32)) (xs:=nc) rfl IC) rfl rfl rfl (g5 FJ).1 (g5 FJ).2) (fun La Fb=>?_)
   rw [← sU] at Fb; rw [← sU]
   refine SL 3 rf ?_
   exact LN [1,2,3,4] (oM,La,pW + 1,HE,uE) ⟨Fb,CQ,Cw,h⟩ rf rf rf
 ·
  refine SC 4 rf ?_
  have h:=sj h; subst h
  have JI:=drop_nil FU I6
  refine oD (ks:=[1,2,3]) (H':=[.ext rI (J (pW) rI), .cells q1 32 ((LI .u32).enc a1), .cells q2 41 uI]) rfl (by decide) ?_
  refine oE (J:=J) (n:=l.length) JI ?_
  exact pJ (true,rI) rfl .nil trivial rfl (ks:=[0,1,2]) rfl (by decide)
def bO (n:Nat) (kV:Int) (jn:ai):Option (List Int):=
 bd (eA n kV jn) fun bu =>
 eD (fun (JP:Int) B5 (fL:(List Int)) =>
 lt (JP:Int) fun kO =>
 gu (jY fL.length 1 4) <|
 lt (fL++([kO]):List Int) fun gR =>
 B5 gR) (fun (fL:(List Int)) =>
 some fL) bu ([]:List Int)
theorem eY {n kV jn r K} [bT K] {j4 j3 tf} (JF:(ae).rep K tf jn) (h:bO n kV jn = some r):K3 Try.prog 76 [.slice none 0 0, .func (.func 65) #[] #[Ptr j4 0,Ptr j3 0]] K [.cells j4 32 ((LI .u32).enc kV), .cells j3 41 tf] (fun J v ho=>∃u0,v = (u0)∧ho = [.cells j4 32 ((LI .u32).enc kV), .cells j3 41 tf]∧Fz (fun w=>K w∧J w) u0 (LI .u32) (r)):=by
 unfold bO at h
 refine eF Try.func76 (by kernel_rfl) rfl Try.ntmps76 rfl (fun cx cU hpre hro=>?_)
 haveI:=iz cU hpre
 refine SC 2 rf ?_
 refine W1 rf (vC rfl (Fz.nil (A:=Hs []) (L:=(LI .u32))).sl.cells) fun b2=>?_
 refine SL 10 rf ?_
 obtain ⟨bu,cS,h⟩:=bM h
 refine rY 32 1 (LI .u32) ?_
 obtain ⟨uf,xX,uD,x7,h⟩:=o7 h
 refine ki (K:=K) (α:=(List Int) × Value) (β:=Unit) hro rfl (gT (K:=K) (mo JF) cS) (fun _=>rfl) rfl (fun j7=>fun (fL,va)=>jU va fL.length∧eD uf uD (bu.drop j7) fL = some r) (fun j7=>fun (fL,va)=>[Row va 32 1 (LI .u32) fL, .cells b2 70 ([va])]) (fun _ _=>False) (fun _=>[]) ⟨([]:List Int), .slice none 0 0⟩ ⟨⟨_,_,rfl⟩,h⟩ (ks:=[2,3,0,1]) rfl (by decide) ?_ ?_ ?_
 ·
  rintro j7 ⟨fL,va⟩ lo dd rec c' hk ⟨pc,h⟩ nX rE mm hsi hT
  replace h:eD uf uD (bu.drop j7) fL = some r:=h
  replace h:=o5 xX hk h
  haveI:=ld (K:=K) hsi
  dsimp only [oa]
  obtain ⟨kO,ug,h⟩:=dj h
  rw [← ug]
  refine SC 3 rf ?_
  refine iR nX mm ?_
  obtain ⟨nw,h⟩:=eX h
  obtain ⟨gR,lq,h⟩:=dj h
  refine SC 2 rf ?_
  refine ah rfl (cQ rfl rfl) ?_
  refine ah rfl (ak rfl) ?_
  refine cu rfl (mE (LI .u32) kO rfl rfl rfl rfl (by decide) (by decide)) (fun wR _=>?_)
  refine cu rfl (lQ (sz:=1) (L:=(LI .u32)) (xs:=fL) (y:=kO) (bytes:=4) rfl rfl rfl (g5 nw).1 (g5 nw).2) (fun BF pZ=>?_)
  rw [← lq] at pZ; rw [← lq]
  refine W0 (dL (cs':=[BF]) [BF] (bf.id (L:=(oJ (LI .u32)))) (v:=gR) ⟨_,rfl,(Fz.row (e:=32) (sz:=1) (L:=(LI .u32)) (xs:=fL) rfl pc)⟩ (rv:=(⟨_,rfl,(Fz.row (e:=32) (sz:=1) (L:=(LI .u32)) (xs:=gR) rfl pZ)⟩ : ((oJ (LI .u32))).rep (Hs [Row BF 32 1 (LI .u32) gR]) [BF] gR)) rfl rfl (Fz.row (e:=32) (sz:=1) (L:=(LI .u32)) (xs:=gR) rfl pZ).sl.cells rfl rfl) ?_
  refine SL 2 rf ?_
  exact g7 nX rE hT ⟨gR,BF⟩ ⟨pZ,h⟩ (ks:=[1,2,3,4]) rfl (by decide)
 ·
  rintro Gf ⟨fL,va⟩ ⟨pc,h⟩
  replace h:eD uf uD (bu.drop bu.length) fL = some r:=h
  replace h:=o6 x7 rfl h
  dsimp only [List.cons_append,List.nil_append]
  refine SX 4 rf ?_
  refine ah rfl (cQ rfl rfl) ?_
  refine SL 4 rf ?_
  have h:=sj h; subst h
  refine bP (R:=[Row va 32 1 (LI .u32) fL]) (H':=[.obj Gf (.deferred (some [])), .cells j4 32 ((LI .u32).enc kV), .cells j3 41 tf]) (ks:=[3,0,1,2]) rfl (by decide) ?_
  have Lq:Fz (fun w=>K w∧(Hs [.ext (bz [Row va 32 1 (LI .u32) fL]) (Hs [Row va 32 1 (LI .u32) fL])]) w) va (LI .u32) fL:=(Fz.row (e:=32) (sz:=1) (L:=(LI .u32)) (xs:=fL) rfl pc).mono dg
  exact iA (va,[.cells j4 32 ((LI .u32).enc kV), .cells j3 41 tf],bz [Row va 32 1 (LI .u32) fL],Hs [Row va 32 1 (LI .u32) fL]) rfl (.tmp rfl .nil) ⟨_,rfl,rfl,Lq⟩ rfl (ks:=[0,2,3]) rfl (by decide)
 ·
  intro dd j i hf; exact hf.elim
def cr (n:Nat) (tv:Int) (An:ai):Option (List Int):=
 bd (bO n tv An) fun bu =>
 some bu
theorem gk {n tv An r K} [bT K] {vV vU qN} (JG:(ae).rep K qN An) (h:cr n tv An = some r):K3 Try.prog 63 [.func (.func 65) #[] #[Ptr vV 0,Ptr vU 0]] K [.cells vV 32 ((LI .u32).enc tv), .cells vU 41 qN] (fun J v ho=>∃u0,v = (u0)∧ho = [.cells vV 32 ((LI .u32).enc tv), .cells vU 41 qN]∧Fz (fun w=>K w∧J w) u0 (LI .u32) (r)):=by
 unfold cr at h
 refine eF Try.func63 (by kernel_rfl) rfl Try.ntmps63 rfl (fun cx cU hpre hro=>?_)
 haveI:=iz cU hpre
 obtain ⟨bu,cS,h⟩:=bM h
 refine SC 8 rf ?_
 refine cu rfl (iU (K:=K) (l9:=[.cells vV 32 ((LI .u32).enc tv), .cells vU 41 qN]) (rest:=[]) (ks:=[0,1]) (eY (K:=K) (mo JG) cS) rfl rfl rfl rfl (by decide)) (fun ⟨u9,L1,cw,fu⟩ nt=>?_)
 obtain ⟨va,rfl,rfl,f26⟩:=nt
 replace f26:Fz (fun w=>K w∧Hs [.ext cw fu] w) u9 (LI .u32) bu:=f26
 dsimp only [List.cons_append,List.nil_append]
 refine SL 4 rf ?_
 have h:=sj h; subst h
 refine bP (R:=[.ext cw fu]) (H':=[.cells vV 32 ((LI .u32).enc tv), .cells vU 41 qN]) (ks:=[0,1,2]) rfl (by decide) ?_
 have Lx:Fz (fun w=>K w∧(Hs [.ext (bz [.ext cw fu]) (Hs [.ext cw fu])]) w) u9 (LI .u32) bu:=f26.mono dg
 exact cg (u9,[.cells vV 32 ((LI .u32).enc tv), .cells vU 41 qN],bz [.ext cw fu],Hs [.ext cw fu]) rfl (.tmp rfl .nil) ⟨_,rfl,rfl,Lx⟩ rfl (ks:=[0,1,2]) rfl (by decide)
def gW (n:Nat) (a0:ai) (a1:Int):Option (List Int):=
 bd (aO n a0.book.gN a1) fun bu =>
 cn ((!bu)) (
 some ([]:List Int)) (
 bd (eM n a0 a1) fun kq =>
 bd (cr n kq.1 kq.2) fun eE =>
 some eE)
theorem pE {n a0 a1 r K} [bT K] {dM} (f0:(ae).rep K dM a0) (h:gW n a0 a1 = some r):tJ Try.prog 40 [A dM, .int .u32 a1] K (fun J v=>Fz (fun w=>K w∧J w) v (LI .u32) r):=by
 unfold gW at h
 refine fo Try.func40 (by kernel_rfl) rfl Try.ntmps40 rfl fun cx _ hro cU hpre=>?_
 refine SC 2 rf ?_
 refine W1 rf (cH rfl) fun b2=>?_
 obtain ⟨bu,cS,h⟩:=bM h
 refine SL 8 rf ?_
 refine ah rfl (bn rfl (aZ.iff.1 ((aD.c0 aI).get f0)) (bF _ _)) ?_
 refine ah rfl (ak rfl) ?_
 refine CV (aS cS) rf rf ?_
 refine SL 3 rf ?_
 refine jc h rf (fun hc h=>?_) fun hc h=>?_
 ·
  refine SC 7 rf ?_
  have h:=sj h; subst h
  refine bP (R:=[]) (H':=[]) (ks:=[]) rfl (by decide) ?_
  have Lz:Fz (fun w=>K w∧(Hs [.ext (bz []) (Hs [])]) w) (.slice none 0 0) (LI .u32) ([]:List Int):=(Fz.nil (A:=Hs []) (L:=(LI .u32))).mono dg
  exact cg (.slice none 0 0,bz [],Hs []) rfl (.tmp rfl .nil) Lz rfl (ks:=[0]) rfl (by decide)
 ·
  obtain ⟨kq,nq,h⟩:=bM h
  obtain ⟨eE,uk,h⟩:=bM h
  refine SC 4 rf ?_
  refine ah rfl (ay rfl (aQ.len _ f0)) ?_
  refine ah rfl (ak rfl) ?_
  refine cu rfl (fK (jC (K:=K) (mo f0) nq) rfl kn) (fun ⟨J4,KN,Dp⟩ f27=>?_)
  replace f27:(ae).rep K Dp kq.2:=f27
  dsimp only [List.cons_append,List.nil_append]
  refine cu rfl (iU (K:=K) (l9:=[.cells J4 32 ((LI .u32).enc kq.1), .cells KN 41 Dp]) (rest:=[.cells b2 41 dM]) (ks:=[0,1,2]) (gk (K:=K) (mo f27) uk) rfl rfl rfl rfl (by decide)) (fun ⟨Hv,L0,kG,su⟩ IW=>?_)
  obtain ⟨M9,rfl,rfl,f33⟩:=IW
  replace f33:Fz (fun w=>K w∧Hs [.ext kG su] w) Hv (LI .u32) eE:=f33
  dsimp only [List.cons_append,List.nil_append]
  refine SL 4 rf ?_
  have h:=sj h; subst h
  refine bP (R:=[.ext kG su]) (H':=[]) (ks:=[0]) rfl (by decide) ?_
  have Ls:Fz (fun w=>K w∧(Hs [.ext (bz [.ext kG su]) (Hs [.ext kG su])]) w) Hv (LI .u32) eE:=f33.mono dg
  exact cg (Hv,bz [.ext kG su],Hs [.ext kG su]) rfl (.tmp rfl .nil) Ls rfl (ks:=[0]) rfl (by decide)
def iL (n:Nat) (a0:ai) (a1:Int):Option (ai × (List Int) × Int):=
 bd (gW n a0 a1) fun bu =>
 cn (((bu.length:Int) == 0)) (
 some (a0,([]:List Int),4)) (
 dF (fun ER (dA:Int) (hY:ai) =>
 cn (decide (dA < (bu.length:Int))) (
 gu (dB dA bu.length) <|
 bd (c9 n hY (bu.getD (Int.toNat dA) default)) fun BA =>
 ER (wr .i64 (dA + 1)) BA.1) (
 some (hY,bu,0))) n 0 a0)
theorem p9 {n a0 a1 r K} [bT K] {dM} (f0:(ae).rep K dM a0) (h:iL n a0 a1 = some r):tJ Try.prog 13 [A dM, .int .u32 a1] K (fun J v=>∃u0 u1,v = (.tuple #[A u0,u1, .int .i64 r.2.2])∧(ae).rep (fun w=>K w∧J w) u0 (r.1)∧Fz (fun w=>K w∧J w) u1 (LI .u32) (r.2.1)):=by
 unfold iL at h
 refine fo Try.func13 (by kernel_rfl) rfl Try.ntmps13 rfl fun cx _ hro cU hpre=>?_
 refine SC 2 rf ?_
 refine W1 rf (cH rfl) fun b2=>?_
 refine W1 rf (bK (hz:=(⟨by kernel_rfl⟩ : cK Try.prog 41 aq))) fun b4=>?_
 obtain ⟨bu,cS,h⟩:=bM h
 refine SL 6 rf ?_
 refine ah rfl (ay rfl (aQ.len _ f0)) ?_
 refine ah rfl (ak rfl) ?_
 refine cu rfl (dy (pE (K:=K) (mo f0) cS) rfl) (fun ⟨u9,cw,fu⟩ nt=>?_)
 have f26:Fz (fun w=>K w∧Hs [.ext cw fu] w) u9 (LI .u32) bu:=nt
 refine SL 7 rf ?_
 refine ah rfl (fJ f26 rfl) ?_
 refine SL 3 rf ?_
 refine jc h rf (fun hc h=>?_) fun hc h=>?_
 ·
  refine SC 2 rf ?_
  refine ah rfl (ay rfl (aQ.len _ f0)) ?_
  refine ST (C:=K) a0 (bf.id (L:=ae)) aB (mo f0) rf rf rf rf rf fun pO f29=>?_
  refine SL 6 rf ?_
  have h:=sj h; subst h
  refine bP (R:=[]) (H':=[.cells b4 41 pO]) (ks:=[1]) rfl (by decide) ?_
  have Lw:(ae).rep (fun w=>K w∧(Hs [.ext (bz []) (Hs [])]) w) pO a0:=aQ.mono _ dg f29
  have Lv:Fz (fun w=>K w∧(Hs [.ext (bz []) (Hs [])]) w) (.slice none 0 0) (LI .u32) ([]:List Int):=(Fz.nil (A:=Hs []) (L:=(LI .u32))).mono dg
  exact cg (.tuple #[A pO, .slice none 0 0, .int .i64 4],bz [],Hs []) rfl (.agg rfl inferInstance inferInstance (aQ.len _ f29) (.tmp rfl (.tmp rfl .nil))) ⟨_,_,rfl,Lw,Lv⟩ rfl (ks:=[0]) rfl (by decide)
 ·
  refine SC 6 rf ?_
  refine ah rfl (fJ f26 rfl) ?_
  refine SL 4 rf ?_
  obtain ⟨HT,Fq,h⟩:=qI h
  refine mZ ?_
  refine LO (β:=Int × ai × (List Value) × (List Nat) × (World→Prop)) [2,4,7,17,18] [0,1,2,3] (fun (EH,dA,hY,tI,er,js)=>[(19, .int .i64 dA)]) (fun (EH,dA,hY,tI,er,js)=>[.ext er js, .ext cw fu, .cells b4 41 aq, .cells b2 41 tI]) (fun (EH,dA,hY,tI,er,js)=>(ae).rep (fun w=>K w∧Hs [.ext er js] w) tI hY∧dF HT EH dA hY = some r) (n,0,a0,dM,[],(Hs [])) ⟨(mo f0),h⟩ rf rf rf ?_
  rintro EH ⟨dA,hY,tI,er,js⟩ ⟨f44,h⟩
  replace h:=qH Fq h; obtain ⟨EH,rfl,h⟩:=h
  refine SC 6 rf ?_
  refine jc h rf (fun hc h=>?_) fun hc h=>?_
  ·
   obtain ⟨CF,h⟩:=eX h
   refine SC 6 rf ?_
   refine ah rfl (gM (m:=(Int.toNat dA)) f26 rfl rfl rfl (aV CF).1 (aV CF).2) ?_
   refine ah rfl (jT f26 (bf.idx (L:=(LI .u32)) (m:=(bu.length)) (k:=1) ((Int.toNat dA)) (aV CF).2 rfl) rfl) ?_
   obtain ⟨BA,Ip,h⟩:=bM h
   refine SL 4 rf ?_
   refine ah rfl (ay rfl (aQ.len _ f44)) ?_
   refine ah rfl (ak rfl) ?_
   refine CB (mz (K:=(fun w=>K w∧Hs [.ext er js] w)) (mo f44) Ip) rf rf ?_
   rintro MZ yz GH ⟨Gl,rfl,f54⟩
   replace f54:(ae).rep (fun w=>(fun w=>K w∧Hs [.ext er js] w) w∧Hs [.ext yz GH] w) Gl BA.1:=f54
   refine SL 3 rf ?_
   refine ST (C:=(fun w=>K w∧Hs [.ext er js, .ext yz GH] w)) BA.1 (bf.id (L:=ae)) (mo f44) (mo f54) rf rf rf rf rf fun G7 f57=>?_
   refine SL 7 rf ?_
   refine bP (R:=[.ext yz GH, .ext er js]) (H':=[.ext cw fu, .cells b4 41 aq, .cells b2 41 G7]) (ks:=[0,1,2,3,4]) rfl (by decide) ?_
   exact LN [0,1,2,3] (wr .i64 (dA + 1),BA.1,G7,(bz [.ext yz GH, .ext er js]),(Hs [.ext yz GH, .ext er js])) ⟨(mo f57),h⟩ rf rf rf
  ·
   refine SC 7 rf ?_
   refine ah rfl (ay rfl (aQ.len _ f44)) ?_
   refine ah rfl (ak rfl) ?_
   refine ST (C:=(fun w=>K w∧Hs [.ext er js] w)) hY (bf.id (L:=ae)) aB (mo f44) rf rf rf rf rf fun J2 f59=>?_
   refine SL 5 rf ?_
   have h:=sj h; subst h
   refine bP (R:=[.ext er js, .ext cw fu]) (H':=[.cells b4 41 J2]) (ks:=[0,1,2]) rfl (by decide) ?_
   have Lo:(ae).rep (fun w=>K w∧(Hs [.ext (bz [.ext er js, .ext cw fu]) (Hs [.ext er js, .ext cw fu])]) w) J2 hY:=aQ.mono _ dg f59
   have Ln:Fz (fun w=>K w∧(Hs [.ext (bz [.ext er js, .ext cw fu]) (Hs [.ext er js, .ext cw fu])]) w) u9 (LI .u32) bu:=f26.mono dg
   exact cg (.tuple #[A J2,u9, .int .i64 0],bz [.ext er js, .ext cw fu],Hs [.ext er js, .ext cw fu]) rfl (.agg rfl inferInstance inferInstance (aQ.len _ f59) (.tmp rfl (.tmp rfl .nil))) ⟨_,_,rfl,Lo,Ln⟩ rfl (ks:=[0]) rfl (by decide)
def iI (n:Nat) (a0:ai) (a1:Int):Option Int:=
 bd (eM n a0 a1) fun bu =>
 bd (eA n bu.1 bu.2) fun fL =>
 eD (fun (Ad:Int) zL (eo:Int) =>
 lt (Ad:Int) fun jq =>
 bd (dm n a0 jq) fun gR =>
 bd (dm n a0 a1) fun fO =>
 lt ((if eo < wr .i64 ((wr .i64 (gR - fO)) + 1) then wr .i64 ((wr .i64 (gR - fO)) + 1) else eo):Int) fun fE =>
 zL fE) (fun (eo:Int) =>
 some eo) fL 0
theorem p6 {n a0 a1 r K} [bT K] {dM} (f0:(ae).rep K dM a0) (h:iI n a0 a1 = some r):wU Try.prog 47 [A dM, .int .u32 a1] K (.int .i64 r):=by
 unfold iI at h
 refine fo Try.func47 (by kernel_rfl) rfl Try.ntmps47 rfl fun cx _ hro cU hpre=>?_
 refine SC 2 rf ?_
 refine W1 rf (cH rfl) fun b2=>?_
 refine W1 rf (fz (LI .u32) a1 rfl rfl) fun b3=>?_
 refine SL 5 rf ?_
 refine W1 rf (cL (L:=(LI .i64)) (z:=0) ⟨by kernel_rfl⟩) fun b5=>?_
 refine W0 (dx (M:=(LI .i64)) (bf.id (L:=(LI .i64))) 0 0 rfl rfl rfl rfl rfl) ?_
 obtain ⟨bu,cS,h⟩:=bM h
 refine SL 5 rf ?_
 refine ah rfl (ay rfl (aQ.len _ f0)) ?_
 refine ah rfl (bD (bf.id (L:=(LI .u32))) rfl) ?_
 refine cu rfl (fK (jC (K:=K) (mo f0) cS) rfl kn) (fun ⟨MC,KO,Gp⟩ f25=>?_)
 replace f25:(ae).rep K Gp bu.2:=f25
 dsimp only [List.cons_append,List.nil_append]
 refine SL 3 rf ?_
 obtain ⟨fL,um,h⟩:=bM h
 obtain ⟨Cc,FE,De,FO,h⟩:=o7 h
 refine ki (K:=K) (α:=Int) (β:=Unit) hro rfl (gT (K:=K) (mo f25) um) (fun _=>rfl) rfl (fun zI=>fun eo=>eD Cc De (fL.drop zI) eo = some r) (fun zI=>fun eo=>[.cells b5 3 ((LI .i64).enc eo), .cells b3 32 ((LI .u32).enc a1), .cells b2 41 dM]) (fun _ _=>False) (fun _=>[]) 0 h (ks:=[0,1,2,3,4]) rfl (by decide) ?_ ?_ ?_
 ·
  rintro zI eo lo dd rec c' hk h nX rE mm hsi hT
  replace h:eD Cc De (fL.drop zI) eo = some r:=h
  replace h:=o5 FE hk h
  haveI:=ld (K:=K) hsi
  dsimp only [oa]
  obtain ⟨jq,rC,h⟩:=dj h
  rw [← rC]
  refine SC 3 rf ?_
  refine iR nX mm ?_
  refine gC ?_
  obtain ⟨gR,lq,h⟩:=bM h
  obtain ⟨fO,oc,h⟩:=bM h
  obtain ⟨fE,v8,h⟩:=dj h
  refine g8 mixed (.oQ [] [(0,[5]),(1,[2]),(2,[6]),(3,[12,13]),(4,[2]),(5,[3]),(6,[15,16]),(7,[14,17]),(8,[18]),(9,[11,19])] (.alt 10 [5,20] (.fin [] []) .no)) (by kernel_rfl) ?_
  refine T0 ?_
  refine NV rf rf (bD (bf.id (L:=(LI .i64))) rfl) ?_
  refine NV rf rf (ay rfl (aQ.len _ f0)) ?_
  refine NS 1 rf ?_
  refine NC rf rf (gZ (K:=K) (mo f0) lq) rf ?_
  refine NV rf rf (ay rfl (aQ.len _ f0)) ?_
  refine NV rf rf (bD (bf.id (L:=(LI .u32))) rfl) ?_
  refine NC rf rf (gZ (K:=K) (mo f0) oc) rf ?_
  refine NS 2 rf ?_
  refine NV rf rf (Dw rfl rfl) ?_
  refine gl ?_
  refine X0 rf (dx (M:=(LI .i64)) (bf.id (L:=(LI .i64))) (if eo < wr .i64 ((wr .i64 (gR - fO)) + 1) then wr .i64 ((wr .i64 (gR - fO)) + 1) else eo) fE v8 rfl rfl rfl rfl) ?_
  refine AO ?_
  refine gA ?_
  exact g7 nX rE hT fE h (ks:=[0,1,2,3,4]) rfl (by decide)
 ·
  rintro Gf eo h
  replace h:eD Cc De (fL.drop fL.length) eo = some r:=h
  replace h:=o6 FO rfl h
  dsimp only [List.cons_append,List.nil_append]
  refine SX 4 rf ?_
  refine ah rfl (bD (bf.id (L:=(LI .i64))) rfl) ?_
  refine SL 4 rf ?_
  have h:=sj h; subst h
  exact iA () rfl (.tmp rfl .nil) trivial rfl (ks:=[]) rfl (by decide)
 ·
  intro dd j i hf; exact hf.elim
def gX (n:Nat) (a0:ai) (a1:Int) (a2:Int):Option (ai × Int):=
 bd (aO n a0.book.gN a1) fun bu =>
 cl ((!bu) == false) (aO n a0.book.gN a2) default fun cZ =>
 cn (((!bu) || (!cZ))) (
 some (a0,4)) (
 bd (iJ n a0 a1) fun fL =>
 cl ((fL != a1) == false) (cY n a0 a1 a2) default fun de =>
 cn (((fL != a1) || de)) (
 some (a0,12)) (
 bd (dm n a0 a2) fun fF =>
 bd (iI n a0 a1) fun eZ =>
 cn (decide (6 < (wr .i64 (fF + eZ)))) (
 some (a0,8)) (
 bd (cP n a0 a1 a2) fun gR =>
 some (gR.1,gR.2))))
theorem pF {n a0 a1 a2 r K} [bT K] {dM} (f0:(ae).rep K dM a0) (h:gX n a0 a1 a2 = some r):tJ Try.prog 15 [A dM, .int .u32 a1, .int .u32 a2] K (fun J v=>∃u0,v = (.tuple #[A u0, .int .i64 r.2])∧(ae).rep (fun w=>K w∧J w) u0 (r.1)):=by
 unfold gX at h
 refine fo Try.func15 (by kernel_rfl) rfl Try.ntmps15 rfl fun cx _ hro cU hpre=>?_
 refine SC 2 rf ?_
 refine W1 rf (cH rfl) fun b3=>?_
 refine W1 rf (bK (hz:=(⟨by kernel_rfl⟩ : cK Try.prog 41 aq))) fun b6=>?_
 obtain ⟨bu,cS,h⟩:=bM h
 obtain ⟨cZ,kQ,_,h⟩:=oh h
 refine SL 9 rf ?_
 refine ah rfl (bn rfl (aZ.iff.1 ((aD.c0 aI).get f0)) (bF _ _)) ?_
 refine ah rfl (ak rfl) ?_
 refine CV (aS cS) rf rf ?_
 refine SL 2 rf ?_
 refine GB rf rf rf (fun hb=>aK rfl) ?_
 refine GB rf rf rf (fun hb=>aK (cT rfl hb)) ?_
 refine GB rf rf rf (fun hb=>bn (cT rfl hb) (aZ.iff.1 ((aD.c0 aI).get f0)) (bF _ _)) ?_
 refine GB rf rf rf (fun hb=>ak rfl) ?_
 refine GB rf rf rf (fun hb=>bZ (aS (kQ hb)) (bJ (cT rfl hb) (bJ (cT rfl hb) rfl)) (fun _ _ _=>trivial)) ?_
 refine GB rf rf rf (fun hb=>iu (cT rfl hb)) ?_
 refine ah rfl (fC rfl rfl) ?_
 refine SL 3 rf ?_
 refine jc h rf (fun hc h=>?_) fun hc h=>?_
 ·
  refine SC 2 rf ?_
  refine ah rfl (ay rfl (aQ.len _ f0)) ?_
  refine ST (C:=K) a0 (bf.id (L:=ae)) aB (mo f0) rf rf rf rf rf fun D1 f24=>?_
  refine SL 6 rf ?_
  have h:=sj h; subst h
  exact pQ [] rf rf (ra rf (aQ.len _ f24) (rt rf rn)) ⟨_,rfl,(mo f24)⟩
 ·
  obtain ⟨fL,um,h⟩:=bM h
  obtain ⟨de,nn,_,h⟩:=oh h
  refine SC 2 rf ?_
  refine ah rfl (ay rfl (aQ.len _ f0)) ?_
  refine ah rfl (ak rfl) ?_
  refine CV (p7 (K:=K) (mo f0) um) rf rf ?_
  refine SL 3 rf ?_
  refine GB rf rf rf (fun hb=>ay rfl (aQ.len _ f0)) ?_
  refine GB rf rf rf (fun hb=>ak rfl) ?_
  refine GB rf rf rf (fun hb=>ak rfl) ?_
  refine GB rf rf rf (fun hb=>bZ (eR (K:=K) (mo f0) (nn hb)) (bJ (cT rfl hb) (bJ (cT rfl hb) (bJ (cT rfl hb) rfl))) kn) ?_
  refine ah rfl (fC rfl rfl) ?_
  refine SL 3 rf ?_
  refine jc h rf (fun hc h=>?_) fun hc h=>?_
  ·
   refine SC 2 rf ?_
   refine ah rfl (ay rfl (aQ.len _ f0)) ?_
   refine ST (C:=K) a0 (bf.id (L:=ae)) aB (mo f0) rf rf rf rf rf fun pO f29=>?_
   refine SL 6 rf ?_
   have h:=sj h; subst h
   exact pQ [] rf rf (ra rf (aQ.len _ f29) (rt rf rn)) ⟨_,rfl,(mo f29)⟩
  ·
   refine aU ?_
   obtain ⟨fF,Iq,h⟩:=bM h
   obtain ⟨eZ,uh,h⟩:=bM h
   refine g8 mixed (.oQ [] [(0,[3]),(1,[2]),(2,[38,39]),(3,[3]),(4,[1]),(5,[41,42]),(6,[40,43]),(7,[44])] (.alt 8 [45] (.fin [] []) .no)) (by kernel_rfl) ?_
   refine T0 ?_
   refine NV rf rf (ay rfl (aQ.len _ f0)) ?_
   refine NS 1 rf ?_
   refine NC rf rf (gZ (K:=K) (mo f0) Iq) rf ?_
   refine NV rf rf (ay rfl (aQ.len _ f0)) ?_
   refine NS 1 rf ?_
   refine NC rf rf (p6 (K:=K) (mo f0) uh) rf ?_
   refine NE 2 rf ?_
   refine XV rf rf (aP rfl) ?_
   refine AO ?_
   refine aE ?_
   refine jc h rf (fun hc h=>?_) fun hc h=>?_
   ·
    refine SC 2 rf ?_
    refine ah rfl (ay rfl (aQ.len _ f0)) ?_
    refine ST (C:=K) a0 (bf.id (L:=ae)) aB (mo f0) rf rf rf rf rf fun tp f34=>?_
    refine SL 6 rf ?_
    have h:=sj h; subst h
    exact pQ [] rf rf (ra rf (aQ.len _ f34) (rt rf rn)) ⟨_,rfl,(mo f34)⟩
   ·
    obtain ⟨gR,lq,h⟩:=bM h
    refine SC 5 rf ?_
    refine ah rfl (ay rfl (aQ.len _ f0)) ?_
    refine SL 2 rf ?_
    refine CB (je (K:=K) (mo f0) lq) rf rf ?_
    rintro M5 Gq K0 ⟨wQ,rfl,f41⟩
    replace f41:(ae).rep (fun w=>K w∧Hs [.ext Gq K0] w) wQ gR.1:=f41
    refine SL 2 rf ?_
    refine ST (C:=(fun w=>K w∧Hs [.ext Gq K0] w)) gR.1 (bf.id (L:=ae)) aB (mo f41) rf rf rf rf rf fun tI f44=>?_
    refine SL 4 rf ?_
    have h:=sj h; subst h
    exact pQ [0] rf rf (ra rf (aQ.len _ f44) (rt rf rn)) ⟨_,rfl,(mo f44)⟩
def fx (n:Nat) (a0:Int) (a1:Int) (a2:ai):Option Bool:=
 cl ((a0 != a1) == true) (cY n a2 a0 a1) default fun bu =>
 some ((a0 != a1) && bu)
theorem pG {n a0 a1 a2 r K} [bT K] {q1 q2 uI} (f2:(ae).rep K uI a2) (h:fx n a0 a1 a2 = some r):Bw.Fn (α:=Unit) Try.prog 42 [.int .u32 a0,Ptr q1 0,Ptr q2 0] (yV (bz [.cells q1 32 ((LI .u32).enc a1), .cells q2 41 uI]) K) [.cells q1 32 ((LI .u32).enc a1), .cells q2 41 uI] (fun _=>True) (fun _=>(.bool r)) (fun _=>[.cells q1 32 ((LI .u32).enc a1), .cells q2 41 uI]):=by
 unfold fx at h
 refine eF Try.func42 (by kernel_rfl) rfl Try.ntmps42 rfl (fun cx cU hpre hro=>?_)
 haveI:=iz cU hpre
 obtain ⟨bu,cS,_,h⟩:=oh h
 refine SC 8 rf ?_
 refine ah rfl (bD (bf.id (L:=(LI .u32))) rfl) ?_
 refine SL 2 rf ?_
 refine GB rf rf rf (fun hb=>ay rfl (aQ.len _ f2)) ?_
 refine GB rf rf rf (fun hb=>ak rfl) ?_
 refine GB rf rf rf (fun hb=>bD (bf.id (L:=(LI .u32))) rfl) ?_
 refine GB rf rf rf (fun hb=>bZ (eR (K:=K) (mo f2) (cS hb)) (bJ (cT rfl hb) (bJ (cT rfl hb) (bJ (cT rfl hb) rfl))) kn) ?_
 refine ah rfl (ec rfl rfl) ?_
 refine SL 4 rf ?_
 have h:=sj h; subst h
 exact cg () rfl (.tmp rfl .nil) trivial rfl (ks:=[0,1]) rfl (by decide)
def jB (n:Nat) (a0:ai) (a1:Int):Option (ai × Int):=
 bd (aO n a0.book.gN a1) fun bu =>
 cn ((!bu)) (
 some (a0,4)) (
 bd (eM n a0 a1) fun de =>
 bd (eA n de.1 de.2) fun eZ =>
 eD (fun (JN:Int) H7 (dA:ai) =>
 lt (JN:Int) fun kX =>
 bd (cM n dA kX) fun nc =>
 dF (fun A5 (kW:Int) (mb:bj) =>
 cn (decide (kW < 8)) (
 gu (dB kW 8) <|
 bd (fx n (nc.1.Cells (Int.toNat kW)) a1 a0) fun uZ =>
 cn (uZ) (
 gu (dB kW 8) <|
 lt ({ mb with Cells:=(dI mb.Cells (Int.toNat kW) 0) }:bj) fun vJ =>
 A5 (wr .i64 (kW + 1)) vJ) (
 A5 (wr .i64 (kW + 1)) mb)) (
 bd (cV n dA kX mb) fun By =>
 H7 By.1)) n 0 nc.1) (fun (dA:ai) =>
 bd (cP n dA a1 0) fun yY =>
 some (yY.1,yY.2)) eZ a0)
theorem rT {n a0 a1 r K} [bT K] {dM} (f0:(ae).rep K dM a0) (h:jB n a0 a1 = some r):tJ Try.prog 14 [A dM, .int .u32 a1] K (fun J v=>∃u0,v = (.tuple #[A u0, .int .i64 r.2])∧(ae).rep (fun w=>K w∧J w) u0 (r.1)):=by
 unfold jB at h
 refine fo Try.func14 (by kernel_rfl) rfl Try.ntmps14 rfl fun cx _ hro cU hpre=>?_
 refine SC 2 rf ?_
 refine W1 rf (cH rfl) fun b2=>?_
 refine W1 rf (fz (LI .u32) a1 rfl rfl) fun b3=>?_
 refine W1 rf (bK (hz:=(⟨by kernel_rfl⟩ : cK Try.prog 41 aq))) fun b4=>?_
 obtain ⟨bu,cS,h⟩:=bM h
 refine SL 8 rf ?_
 refine ah rfl (bn rfl (aZ.iff.1 ((aD.c0 aI).get f0)) (bF _ _)) ?_
 refine ah rfl (bD (bf.id (L:=(LI .u32))) rfl) ?_
 refine CV (aS cS) rf rf ?_
 refine SL 3 rf ?_
 refine jc h rf (fun hc h=>?_) fun hc h=>?_
 ·
  refine SC 2 rf ?_
  refine ah rfl (ay rfl (aQ.len _ f0)) ?_
  refine ST (C:=K) a0 (bf.id (L:=ae)) aB (mo f0) rf rf rf rf rf fun J3 f23=>?_
  refine SL 5 rf ?_
  have h:=sj h; subst h
  exact pQ [] rf rf (ra rf (aQ.len _ f23) (rt rf rn)) ⟨_,rfl,(mo f23)⟩
 ·
  refine SC 5 rf ?_
  refine W1 rf (bK (hz:=(⟨by kernel_rfl⟩ : cK Try.prog 98 [.nilFunc]))) fun b6=>?_
  refine W0 (lG (n:=1) (cs':=[.func (.func 42) #[] #[Ptr b3 0,Ptr b2 0]]) rfl rfl rfl rfl (by decide) (oH rfl) rfl) ?_
  refine SL 4 rf ?_
  refine ah rfl (ay rfl (aQ.len _ f0)) ?_
  refine W1 rf (bK (hz:=(⟨by kernel_rfl⟩ : cK Try.prog 41 aq))) fun b7=>?_
  refine ST (C:=K) a0 (bf.id (L:=ae)) aB (mo f0) rf rf rf rf rf fun Gn f26=>?_
  obtain ⟨de,nn,h⟩:=bM h
  refine SL 5 rf ?_
  refine ah rfl (ay rfl (aQ.len _ f0)) ?_
  refine ah rfl (bD (bf.id (L:=(LI .u32))) rfl) ?_
  refine cu rfl (fK (jC (K:=K) (mo f0) nn) rfl kn) (fun ⟨MA,Nn,Al⟩ f31=>?_)
  replace f31:(ae).rep K Al de.2:=f31
  dsimp only [List.cons_append,List.nil_append]
  refine SL 3 rf ?_
  obtain ⟨eZ,uh,h⟩:=bM h
  refine mZ ?_
  obtain ⟨B9,FB,Db,FL,h⟩:=o7 h
  refine ki (K:=K) (α:=ai × (List Value) × (List Nat) × (World→Prop)) (β:=Unit) hro rfl (gT (K:=K) (mo f31) uh) (fun _=>rfl) rfl (fun zG=>fun (dA,wQ,er,js)=>(ae).rep (fun w=>K w∧Hs [.ext er js] w) wQ dA∧eD B9 Db (eZ.drop zG) dA = some r) (fun zG=>fun (dA,wQ,er,js)=>[.ext er js, .cells b7 41 wQ, .cells b6 98 [.func (.func 42) #[] #[Ptr b3 0,Ptr b2 0]], .cells b4 41 aq, .cells b3 32 ((LI .u32).enc a1), .cells b2 41 dM]) (fun _ _=>False) (fun _=>[]) ⟨a0,Gn,[],(Hs [])⟩ ⟨(mo f26),h⟩ (ks:=[1,2,0,3,4,5,6,7]) rfl (by decide) ?_ ?_ ?_
  ·
   rintro zG ⟨dA,wQ,er,js⟩ lo dd rec c' hk ⟨f43,h⟩ nX rE mm hsi hT
   replace h:eD B9 Db (eZ.drop zG) dA = some r:=h
   replace h:=o5 FB hk h
   haveI:=ld (K:=K) hsi
   dsimp only [oa]
   obtain ⟨kX,Ck,h⟩:=dj h
   rw [← Ck]
   refine SC 3 rf ?_
   refine iR nX mm ?_
   obtain ⟨nc,Cj,h⟩:=bM h
   refine SC 3 rf ?_
   refine ah rfl (ay rfl (aQ.len _ f43)) ?_
   refine ah rfl (ak rfl) ?_
   refine CB (eP (K:=(fun w=>K w∧Hs [.ext er js] w)) (mo f43) Cj) rf rf ?_
   rintro MY mU vG ⟨G7,rfl,f55⟩
   replace f55:(au).rep (fun w=>(fun w=>K w∧Hs [.ext er js] w) w∧Hs [.ext mU vG] w) G7 nc.1:=f55
   refine SL 3 rf ?_
   refine W1 rf (bK (hz:=(⟨by kernel_rfl⟩ : cK Try.prog 38 aT))) fun b9=>?_
   refine ST (C:=(fun w=>K w∧Hs [.ext er js, .ext mU vG] w)) nc.1 (bf.id (L:=au)) bC (mo f55) rf rf rf rf rf fun Mv f58=>?_
   refine SL 7 rf ?_
   refine ah rfl (bn rfl (aZ.iff.1 (dQ.get f58)) (bF _ _)) ?_
   refine SL 4 rf ?_
   obtain ⟨HS,Fp,h⟩:=qI h
   refine mZ ?_
   refine LO (β:=Int × bj × (List Value) × (List Nat) × (World→Prop)) [6,7,8,9,33] [0,1,2,3,4,5,6,7,8,9,10] (fun (EG,kW,mb,Aj,kF,sq)=>[(34, .int .i64 kW)]) (fun (EG,kW,mb,Aj,kF,sq)=>[.ext kF sq, .cells b9 38 Aj, .ext mU vG, .obj dd (.deferred (some [])), .obj lo (.loop { rec with state:=.busy }), .ext er js, .cells b7 41 wQ, .cells b6 98 [.func (.func 42) #[] #[Ptr b3 0,Ptr b2 0]], .cells b4 41 aq, .cells b3 32 ((LI .u32).enc a1), .cells b2 41 dM]) (fun (EG,kW,mb,Aj,kF,sq)=>(au).rep (fun w=>K w∧Hs [.ext er js, .ext mU vG, .ext kF sq] w) Aj mb∧dF HS EG kW mb = some r) (n,0,nc.1,Mv,[],(Hs [])) ⟨(mo f58),h⟩ rf rf rf ?_
   rintro EG ⟨kW,mb,Aj,kF,sq⟩ ⟨f71,h⟩
   replace h:=qH Fp h; obtain ⟨EG,rfl,h⟩:=h
   refine SC 6 rf ?_
   refine jc h rf (fun hc h=>?_) fun hc h=>?_
   ·
    obtain ⟨CC,h⟩:=eX h
    refine SC 7 rf ?_
    refine ah rfl (qS (m:=(Int.toNat kW)) rfl rfl (aV CC).1 (aV CC).2 ((bf.idx (L:=(LI .u32)) (m:=8) (k:=1) (Int.toNat kW) (aV CC).2 rfl).int (rp _ _))) ?_
    obtain ⟨uZ,xJ,h⟩:=bM h
    refine SL 6 rf ?_
    refine ah rfl (cQ rfl rfl) ?_
    refine ah rfl (ak rfl) ?_
    refine cu rfl (iU (K:=K) (l9:=[.cells b3 32 ((LI .u32).enc a1), .cells b2 41 dM]) (rest:=[.ext kF sq, .cells b9 38 Aj, .ext mU vG, .obj dd (.deferred (some [])), .obj lo (.loop { rec with state:=.busy }), .ext er js, .cells b7 41 wQ, .cells b6 98 [.func (.func 42) #[] #[Ptr b3 0,Ptr b2 0]], .cells b4 41 aq]) (ks:=[9,10,0,1,2,3,4,5,6,7,8]) (pG (K:=K) (mo f0) xJ) rfl rfl rfl rfl (by decide)) (fun _ _=>?_)
    dsimp only [List.cons_append,List.nil_append]
    refine SL 2 rf ?_
    refine jc h rf (fun hc h=>?_) fun hc h=>?_
    ·
     obtain ⟨CA,h⟩:=eX h
     obtain ⟨vJ,Cg,h⟩:=dj h
     refine SC 3 rf ?_
     refine ah rfl (g9 (m:=(Int.toNat kW)) rfl rfl (aV CA).1 (aV CA).2) ?_
     refine ST (C:=(fun w=>K w∧Hs [.ext er js, .ext mU vG, .ext kF sq] w)) vJ (dQ.comp (bf.idx (L:=(LI .u32)) (m:=8) (k:=1) ((Int.toNat kW)) (aV CA).2 rfl)) (mo f71) fl Cg rf rf rf rf fun KH f80=>?_
     refine SL 7 rf ?_
     refine bP (R:=[.ext kF sq]) (H':=[.cells b3 32 ((LI .u32).enc a1), .cells b2 41 dM, .cells b9 38 KH, .ext mU vG, .obj dd (.deferred (some [])), .obj lo (.loop { rec with state:=.busy }), .ext er js, .cells b7 41 wQ, .cells b6 98 [.func (.func 42) #[] #[Ptr b3 0,Ptr b2 0]], .cells b4 41 aq]) (ks:=[2,0,1,3,4,5,6,7,8,9,10]) rfl (by decide) ?_
     exact LN [0,3,4,5,6,7,8,9,10,1,2] (wr .i64 (kW + 1),vJ,KH,(bz [.ext kF sq]),(Hs [.ext kF sq])) ⟨(mo f80),h⟩ rf rf rf
    ·
     refine SC 7 rf ?_
     refine bP (R:=[.ext kF sq]) (H':=[.cells b3 32 ((LI .u32).enc a1), .cells b2 41 dM, .cells b9 38 Aj, .ext mU vG, .obj dd (.deferred (some [])), .obj lo (.loop { rec with state:=.busy }), .ext er js, .cells b7 41 wQ, .cells b6 98 [.func (.func 42) #[] #[Ptr b3 0,Ptr b2 0]], .cells b4 41 aq]) (ks:=[2,0,1,3,4,5,6,7,8,9,10]) rfl (by decide) ?_
     exact LN [0,3,4,5,6,7,8,9,10,1,2] (wr .i64 (kW + 1),mb,Aj,(bz [.ext kF sq]),(Hs [.ext kF sq])) ⟨(mo f71),h⟩ rf rf rf
   ·
    obtain ⟨By,Ii,h⟩:=bM h
    refine SC 6 rf ?_
    refine ah rfl (ay rfl (aQ.len _ f43)) ?_
    refine ah rfl (ak rfl) ?_
    refine ah rfl (ay rfl (aQ.len _ f71)) ?_
    refine CB (jS (K:=(fun w=>K w∧Hs [.ext er js, .ext mU vG, .ext kF sq] w)) (mo f43) (mo f71) Ii) rf rf ?_
    rintro MW yy GF ⟨Mt,rfl,f86⟩
    replace f86:(ae).rep (fun w=>(fun w=>K w∧Hs [.ext er js, .ext mU vG, .ext kF sq] w) w∧Hs [.ext yy GF] w) Mt By.1:=f86
    refine SL 3 rf ?_
    refine ST (C:=(fun w=>K w∧Hs [.ext er js, .ext mU vG, .ext kF sq, .ext yy GF] w)) By.1 (bf.id (L:=ae)) (mo f43) (mo f86) rf rf rf rf rf fun G4 f89=>?_
    refine SL 2 rf ?_
    refine bP (R:=[.ext yy GF, .ext kF sq, .ext mU vG, .ext er js]) (H':=[.cells b9 38 Aj, .obj dd (.deferred (some [])), .obj lo (.loop { rec with state:=.busy }), .cells b7 41 G4, .cells b6 98 [.func (.func 42) #[] #[Ptr b3 0,Ptr b2 0]], .cells b4 41 aq, .cells b3 32 ((LI .u32).enc a1), .cells b2 41 dM]) (ks:=[0,1,3,6,2,4,5,7,8,9,10,11]) rfl (by decide) ?_
    exact g7 nX rE hT ⟨By.1,G4,(bz [.ext yy GF, .ext kF sq, .ext mU vG, .ext er js]),(Hs [.ext yy GF, .ext kF sq, .ext mU vG, .ext er js])⟩ ⟨(mo f89),h⟩ (ks:=[2,3,0,4,5,6,7,8]) rfl (by decide)
  ·
   rintro JR ⟨dA,wQ,er,js⟩ ⟨f43,h⟩
   replace h:eD B9 Db (eZ.drop eZ.length) dA = some r:=h
   replace h:=o6 FL rfl h
   dsimp only [List.cons_append,List.nil_append]
   obtain ⟨yY,Ih,h⟩:=bM h
   refine SX 4 rf ?_
   refine ah rfl (ay rfl (aQ.len _ f43)) ?_
   refine ah rfl (bD (bf.id (L:=(LI .u32))) rfl) ?_
   refine CB (je (K:=(fun w=>K w∧Hs [.ext er js] w)) (mo f43) Ih) rf rf ?_
   rintro MU uP DJ ⟨Ms,rfl,f96⟩
   replace f96:(ae).rep (fun w=>(fun w=>K w∧Hs [.ext er js] w) w∧Hs [.ext uP DJ] w) Ms yY.1:=f96
   refine SL 2 rf ?_
   refine ST (C:=(fun w=>K w∧Hs [.ext er js, .ext uP DJ] w)) yY.1 (bf.id (L:=ae)) aB (mo f96) rf rf rf rf rf fun JV f99=>?_
   refine SL 4 rf ?_
   have h:=sj h; subst h
   refine bP (R:=[.ext uP DJ, .ext er js]) (H':=[.obj JR (.deferred (some [])), .cells b4 41 JV]) (ks:=[0,4,1,7]) rfl (by decide) ?_
   have HH:(ae).rep (fun w=>K w∧(Hs [.ext (bz [.ext uP DJ, .ext er js]) (Hs [.ext uP DJ, .ext er js])]) w) JV yY.1:=aQ.mono _ dg f99
   exact iA (.tuple #[A JV, .int .i64 yY.2],bz [.ext uP DJ, .ext er js],Hs [.ext uP DJ, .ext er js]) rfl (.agg rfl inferInstance inferInstance (aQ.len _ f99) (.tmp rfl .nil)) ⟨_,rfl,HH⟩ rfl (ks:=[0]) rfl (by decide)
  ·
   intro dd j i hf; exact hf.elim
structure gP where
 Do:Int
 A:Int
 B:Int
 C:Int
 bq:Int
abbrev bL:aQ gP:=aQ.via (LP (LI .u8) (LP (LI .u32) (LP (LI .u32) (LP (LI .u32) (LI .i64))))) (fun x=>(x.Do,x.A,x.B,x.C,x.bq))
abbrev n6:gP:=⟨0,0,0,0,0⟩
instance:Inhabited gP:=⟨n6⟩
theorem pM:bf bL (LI .u8) 0 (fun x=>x.Do) (fun x v=>{ x with Do:=v }):=(bf.fst bf.id).via _ _ _ 0 rfl (fun _=>rfl) (fun _ _=>rfl)
theorem qg:bf bL (LI .u32) 1 (fun x=>x.A) (fun x v=>{ x with A:=v }):=(bf.snd (bf.fst bf.id)).via _ _ _ 1 rfl (fun _=>rfl) (fun _ _=>rfl)
theorem qf:bf bL (LI .u32) 2 (fun x=>x.B) (fun x v=>{ x with B:=v }):=(bf.snd (bf.snd (bf.fst bf.id))).via _ _ _ 2 rfl (fun _=>rfl) (fun _ _=>rfl)
theorem iC:bf bL (LI .u32) 3 (fun x=>x.C) (fun x v=>{ x with C:=v }):=(bf.snd (bf.snd (bf.snd (bf.fst bf.id)))).via _ _ _ 3 rfl (fun _=>rfl) (fun _ _=>rfl)
theorem hM:bf bL (LI .i64) 4 (fun x=>x.bq) (fun x v=>{ x with bq:=v }):=(bf.snd (bf.snd (bf.snd (bf.snd bf.id)))).via _ _ _ 4 rfl (fun _=>rfl) (fun _ _=>rfl)
end Go.Proofs.Ytbalnnoofdkbaaa
namespace Go.Proofs.Ytbalnnoofdkbaaa
open Go Go.Bw
def bQ (w:ag) (x:Int):Int:=(w.R (bt x)).Up
abbrev Gw (w:ag):List Int:=ct w.B 32
theorem ny {t:ai} {w:ag} (r:dZ t w) (tt:fD w):∃ρ,Fo (Gw w) (bQ w) ρ:=by
  obtain ⟨q,hq⟩:=tt
  have hm:=bA r.book
  refine ⟨fun x=>pC (fun j=>decide (q j < q (bt x))) 32,⟨o8 r.book 32 (by omega),fk _ _,fun x hx=>?_,fun x hx=>?_,fun x hx=>?_,fun x hx hu=>?_⟩⟩
  · have:=gj ((hm x).1 hx); omega
  · exact (r.DR ((hm x).1 hx)).imp _root_.id (hm _).2
  · have:=mR (p:=fun j=>decide (q j < q (bt x))) (q:=fun _=>true) (fun _ _=>rfl) (c:=bt x) (by simp) rfl 32 (iX _)
    have:=rP (fun _=>true) 32
    omega
  · obtain ⟨l1,l2⟩:=cJ ((hm x).1 hx)
    have h2:=hq _ l1 l2 hu
    exact mR (p:=fun j=>decide (q j < q (bt (w.R (bt x)).Up))) (q:=fun j=>decide (q j < q (bt x))) (fun j hj=>by simp at hj ⊢; omega) (c:=bt (w.R (bt x)).Up) (by simp) (by simpa using h2) 32 (iX _)
section
universe u1 u2 u3
theorem nj {α1 ρ:Type} {B:(α1→Option ρ)→α1→Option ρ} (g:α1→ρ) (I:α1→Prop) (μ:α1→Nat) (hB:∀k a,I a→(∀b,I b→μ b < μ a→k b = some (g b))→B k a = some (g a)):∀n a,I a→μ a < n→dk B n a = some (g a):=by
  intro n
  induction n with
  | zero=>intro a _ h; exact absurd h (Nat.not_lt_zero _)
  | succ n ih=>intro a hi hm; exact hB _ a hi fun b hj hl=>ih b hj (by omega)
end
theorem uR {n:Nat} (hn:40 ≤ n) {t:ai} {w:ag} (r:dZ t w) (tt:fD w) {h:Int} (hh:aX w.B h):eB n t h = some (U6 (bQ w) h):=by
  obtain ⟨ρ,f⟩:=ny r tt
  have hm:=bA r.book
  unfold eB
  refine nj (fun x=>U6 (bQ w) x) (fun x=>aX w.B x) ρ (fun k x hx ih=>?_) n h hh (by have:=f.rk h ((hm h).2 hh); omega)
  have hG:=(hm x).2 hx
  rw [ax (oz r hx.1 (ez hx.2)),if_pos hx.2]
  show cn (((0:Int) != 0 || (bQ w x == 0)) == false) (yl (bQ w x) (k (bQ w x))) (some []) = _
  by_cases hu:bQ w x = 0
  · rw [f.u0 hG hu,av (by simp [hu])]
  · rw [f.u1 hG hu,aJ (by simp [hu]),ih _ ((hm _).1 (f.y3 hG hu)) (f.dn x hG hu)]; rfl
def fh (w:ag) (a:Int):Int:=if aR w.B a = true then 1 + ((U6 (bQ w) a).length:Int) else 0
def vh (w:ag) (a:Int):Int:=if aR w.B a = true then tG (bQ w) a else 0
def jL (w:ag) (a b:Int):Bool:=aR w.B a && aR w.B b && ((a == b) || (U6 (bQ w) b).contains a)
def rA (w:ag) (a:Int):List Int:=if aR w.B a = true then ff (Gw w) (bQ w) a else []
def fP (w:ag) (a:Int):List Int:=if aR w.B a = true then V6 (Gw w) (bQ w) a else []
section
variable {n:Nat} {t:ai} {w:ag}
theorem zN (l:List Int) (x:Int) (h0:0 ≤ x) (h1:x + (l.length:Int) ≤ 1000000):eD (fun (Dg:Int) zK (bW:Int) =>
  lt (Dg:Int) fun _ =>
  lt (wr .i64 (bW + 1):Int) fun fO =>
  zK fO) (fun (bW:Int) =>
  some bW) l x = some (x + (l.length:Int)):=by
  induction l generalizing x with
  | nil=>simp [eD]
  | cons a l ih =>
    rw [List.length_cons] at h1
    have e:wr .i64 (x + 1) = x + 1:=cj (by omega) (by omega)
    refine (ih (wr .i64 (x + 1)) (by rw [e]; omega) (by rw [e]; omega)).trans ?_
    rw [e,List.length_cons]; congr 1; omega
theorem rN (hn:40 ≤ n) (r:dZ t w) (tt:fD w) {a:Int} (h0:0 ≤ a) (h1:a < 4294967296):dm n t a = some (fh w a):=by
  unfold dm fh
  rw [ax (iH r.book h0 h1)]
  cases hg:aR w.B a with
  | false=>rfl
  | true =>
    obtain ⟨ρ,f⟩:=ny r tt
    have hG:=(bA r.book a).2 ⟨h0,hg⟩
    rw [av (b:=!true) rfl,if_pos rfl]
    unfold eN
    rw [ax rfl,ax (uR hn r tt ⟨h0,hg⟩)]
    have:=f.wY hG
    exact zN _ 1 (by omega) (by omega)
theorem xG (l:List Int) (x:Int):eD (fun (Dg:Int) zK (_:Int) =>
  lt (Dg:Int) fun jK =>
  zK jK) (fun (bW:Int) =>
  some bW) l x = some (l.getLastD x):=by
  induction l generalizing x with
  | nil=>rfl
  | cons a l ih=>exact (ih a).trans (by cases l <;> rfl)
theorem BS (hn:40 ≤ n) (r:dZ t w) (tt:fD w) {a:Int} (h0:0 ≤ a) (h1:a < 4294967296):iJ n t a = some (vh w a):=by
  unfold iJ vh
  rw [ax (iH r.book h0 h1)]
  cases hg:aR w.B a with
  | false=>rfl
  | true =>
    rw [av (b:=!true) rfl,if_pos rfl]
    unfold eN
    rw [ax rfl,ax (uR hn r tt ⟨h0,hg⟩)]
    exact xG _ a
theorem B8 (a1:Int) (l:List Int) (x:Bool):eD (fun (JO:Int) xF (eZ:Bool) =>
  lt (JO:Int) fun fO =>
  lt ((eZ || (fO == a1)):Bool) fun iD =>
  xF iD) (fun (eZ:Bool) =>
  some eZ) l x = some (x || l.contains a1):=by
  induction l generalizing x with
  | nil=>simp [eD]
  | cons a l ih =>
    refine (ih (x || (a == a1))).trans ?_
    rw [List.contains_cons,Bool.or_assoc,Bool.beq_comm (a:=a)]
theorem oy (hn:40 ≤ n) (r:dZ t w) (tt:fD w) {a b:Int} (h0:0 ≤ a) (h1:a < 4294967296) (k0:0 ≤ b) (k1:b < 4294967296):cY n t a b = some (jL w a b):=by
  unfold cY jL
  rw [ax (iH r.book h0 h1),cN (iH r.book k0 k1)]
  cases hg:aR w.B a with
  | false=>rfl
  | true =>
    cases hk:aR w.B b with
    | false=>rfl
    | true =>
      rw [av (by rfl),lt_eq]
      unfold eN
      rw [ax rfl,ax (uR hn r tt ⟨k0,hk⟩)]
      exact B8 a _ _
end
end Go.Proofs.Ytbalnnoofdkbaaa
namespace Go.Proofs.Ytbalnnoofdkbaaa
open Go Go.Bw
theorem sN {α:Type} (l:List α):l = []∨∃i x,l = i++[x]:=by
  rcases l with _ | ⟨a,l⟩
  · exact .inl rfl
  · exact .inr ⟨(a::l).dropLast,(a::l).getLast (by simp),(List.dropLast_concat_getLast (by simp)).symm⟩
theorem gV {α:Type} [Inhabited α] {l:List α} {i:Nat} (h:i < l.length):l.getD i default = l[i]:=by rw [List.getD,List.getElem?_eq_getElem h]; rfl
theorem Ia (d:Int→Option Bool) (p:Int→Bool) (l:List Int) (hd:∀x ∈ l,d x = some (p x)) (hl:l.length < 1000) (z:Option Int) {n:Nat} (hn:l.length < n) :
    ∃i:Nat,i ≤ l.length∧(∀x ∈ l.take i,p x = false)∧((i < l.length∧p (l.getD i default) = true∧dk (fun v5 (cZ:Int) =>
  cn (decide (cZ < (l.length:Int))) (
  gu (dB cZ l.length) <|
  bd (d (l.getD (Int.toNat cZ) default)) fun de =>
  cn (de) (
  some cZ) (
  v5 (wr .i64 (cZ + 1)))) z) n 0 = some (i:Int))∨(i = l.length∧dk (fun v5 (cZ:Int) =>
  cn (decide (cZ < (l.length:Int))) (
  gu (dB cZ l.length) <|
  bd (d (l.getD (Int.toNat cZ) default)) fun de =>
  cn (de) (
  some cZ) (
  v5 (wr .i64 (cZ + 1)))) z) n 0 = z)):=by
  refine gi (fun (x:Int)=>∃k:Nat,x = k∧k ≤ l.length∧∀x ∈ l.take k,p x = false) (fun x=>l.length - x.toNat) (fun o=>∃i:Nat,i ≤ l.length∧(∀x ∈ l.take i,p x = false)∧((i < l.length∧p (l.getD i default) = true∧o = some (i:Int))∨(i = l.length∧o = z))) ?_ n 0 ⟨0,rfl,by omega,by simp⟩ (by omega)
  rintro kk x ⟨k,rfl,hk,hp⟩ ih
  by_cases c:k < l.length
  · have hm:l.getD k default ∈ l:=gw c
    rw [aJ (decide_eq_true (by omega)),aF (cD (by omega) (by omega)),Int.toNat_natCast,ax (hd _ hm)]
    cases hb:p (l.getD k default) with
    | true=>rw [aJ rfl]; exact ⟨k,hk,hp, .inl ⟨c,hb,rfl⟩⟩
    | false =>
      rw [av rfl,cj (by omega) (by omega)]
      refine ih _ ⟨k + 1,by omega,by omega,fun y hy=>?_⟩ (by omega)
      rw [List.take_succ_eq_append_getElem c,List.mem_append,List.mem_singleton] at hy
      rcases hy with hy | hy
      · exact hp y hy
      · rw [hy,← gV c]; exact hb
  · rw [av (decide_eq_false (by omega))]
    exact ⟨k,hk,hp, .inr ⟨by omega,rfl⟩⟩
theorem JQ (d:Int→Option Bool) (p:Int→Bool) (l:List Int) (hd:∀x ∈ l,d x = some (p x)) (hl:l.length < 1000) {i:Nat} (hi:i < l.length) (hp:p (l.getD i default) = true) (h0:∀x ∈ l.take i,p x = false) {n:Nat} (hn:l.length < n) :
    kL (fun ET (eE:(List Int)) (bW:Int) (fF:Int) =>
  cn (decide (fF < (eE.length:Int))) (
  gu (dB fF eE.length) <|
  bd (d (eE.getD (Int.toNat fF) default)) fun gR =>
  cn ((!gR)) (
  gu (dB bW eE.length) <|
  lt ((eE.set (Int.toNat bW) (eE.getD (Int.toNat fF) default)):List Int) fun fE =>
  ET fE (wr .i64 (bW + 1)) (wr .i64 (fF + 1))) (
  ET eE bW (wr .i64 (fF + 1)))) (
  gu (dB bW (eE.length + 1)) <|
  lt (eE.take (Int.toNat bW)++List.replicate (eE.length - (Int.toNat bW)) 0:List Int) fun dA =>
  gu (dB bW (dA.length + 1)) <|
  lt (dA.take (Int.toNat bW):List Int) fun zc =>
  some zc)) n l (i:Int) (wr .i64 ((i:Int) + 1)) = some (l.filter fun x=>!p x):=by
  rw [cj (by omega) (by omega)]
  have Jg:(l.take i).filter (fun x=>!p x) = l.take i:=List.filter_eq_self.2 fun x hx=>by rw [h0 x hx]; rfl
  have L8:(l.take (i + 1)).filter (fun x=>!p x) = l.take i:=by
    rw [List.take_succ_eq_append_getElem hi,List.filter_append,Jg,← gV hi]
    generalize l.getD i default = y at hp
    simp [hp]
  refine ni (fun (s:List Int) (a b:Int)=>∃u v:Nat,a = u∧b = v∧u < v∧v ≤ l.length∧s.length = l.length∧s.drop v = l.drop v∧s.take u = (l.take v).filter fun x=>!p x) (fun _ _ b=>l.length - b.toNat) (fun o=>o = some (l.filter fun x=>!p x)) ?_ n l i ((i:Int) + 1) ⟨i,i + 1,rfl,by omega,by omega,by omega,rfl,rfl,L8.symm⟩ (by omega)
  rintro kk s a b ⟨u,v,rfl,rfl,huv,hv,hs,h1,h2⟩ ih
  by_cases c:v < l.length
  · have e1:s.getD v default = l.getD v default:=by
      have:=congrArg (fun q:List Int=>q[0]?) h1
      simp only [List.getElem?_drop,Nat.add_zero] at this
      rw [List.getD,List.getD,this]
    have hm:l.getD v default ∈ l:=gw c
    rw [aJ (decide_eq_true (by omega)),aF (cD (by omega) (by omega)),Int.toNat_natCast,e1,ax (hd _ hm),cj (x:=(v:Int) + 1) (by omega) (by omega)]
    have KA:∀q:List Int,q.drop v = l.drop v→q.drop (v + 1) = l.drop (v + 1):=fun q hq=>by
      rw [← List.drop_drop,← List.drop_drop,hq]
    have ht:(l.take (v + 1)).filter (fun x=>!p x) = (l.take v).filter (fun x=>!p x)++(if p (l.getD v default) = true then [] else [l.getD v default]):=by
      rw [List.take_succ_eq_append_getElem c,List.filter_append,← gV c]
      generalize l.getD v default = y
      cases hy:p y <;> simp [hy]
    cases hb:p (l.getD v default) with
    | true =>
      rw [av (b:=!true) rfl]
      exact ih _ _ _ ⟨u,v + 1,rfl,by omega,by omega,by omega,hs,KA _ h1,by rw [ht,hb,h2]; simp⟩ (by omega)
    | false =>
      rw [aJ (b:=!false) rfl,aF (cD (by omega) (by omega)),lt_eq,Int.toNat_natCast,cj (x:=(u:Int) + 1) (by omega) (by omega)]
      refine ih _ _ _ ⟨u + 1,v + 1,by omega,by omega,by omega,by omega,by rw [List.length_set]; exact hs,KA _ (by rw [List.drop_set_of_lt huv]; exact h1),?_⟩ (by omega)
      rw [ht,hb,← h2]
      have LS:u < (s.set u (l.getD v default)).length:=by rw [List.length_set]; omega
      rw [List.take_succ_eq_append_getElem LS,List.getElem_set_self,List.take_set_of_le (Nat.le_refl u)]
      rfl
  · obtain rfl:v = l.length:=by omega
    have E9:(s.take u).length = u:=by rw [List.length_take]; omega
    rw [av (decide_eq_false (by omega)),aF (cD (by omega) (by omega)),lt_eq,Int.toNat_natCast,aF (cD (by omega) (by simp; omega)),lt_eq]
    rw [List.take_append_of_le_length (by omega),List.take_of_length_le (by omega),h2,List.take_length]
section
variable {n:Nat} {t:ai} {w:ag}
theorem EO (hn:100 ≤ n) (r:dZ t w) {a:Int} (h0:0 ≤ a) (h1:a < 4294967296):iK n t a = some (rA w a):=by
  unfold iK rA
  rw [ax (iH r.book h0 h1)]
  cases hg:aR w.B a with
  | false=>rfl
  | true =>
    have hm:=bA r.book
    have hlen:=fk w.B 32
    rw [av (b:=!true) rfl,if_pos rfl,ax (Gs (by omega) r)]
    have hd:∀x ∈ Gw w,ei n x t a = some (bQ w x != a):=fun x hx=>by
      have hx:=(hm x).1 hx
      unfold ei
      rw [ax (oz r hx.1 (ez hx.2)),if_pos hx.2]; rfl
    have hk:ff (Gw w) (bQ w) a = (Gw w).filter fun x=>!(bQ w x != a):=by
      unfold ff; congr 1; funext x; simp [bne]
    unfold bY ck
    obtain ⟨i,i1,i2,i3⟩:=Ia (n:=n) (fun x=>ei n x t a) (fun x=>bQ w x != a) (Gw w) hd (by show (ct w.B 32).length < 1000; omega) (some (-1)) (by show (ct w.B 32).length < n; omega)
    rcases i3 with ⟨q1,q2,q3⟩ | ⟨q1,q3⟩
    · have:=JQ (n:=n) (fun x=>ei n x t a) (fun x=>bQ w x != a) (Gw w) hd (by show (ct w.B 32).length < 1000; omega) q1 q2 i2 (by show (ct w.B 32).length < n; omega)
      rw [ax q3,av (by simp)]
      refine (ax this).trans ?_
      rw [hk]
    · rw [ax q3,aJ (by rfl)]
      refine (ax rfl).trans ?_
      rw [hk]
      rw [q1,List.take_length] at i2
      exact congrArg some (List.filter_eq_self.2 fun x hx=>by have:=i2 x hx; simp only [this]; rfl).symm
theorem HD {l:List Int} (hl:l.length < 1000) (hn:l.length < n):dW n l = some l.reverse:=by
  unfold dW
  rw [cj (by omega) (by omega)]
  refine ni (fun (s:List Int) (a b:Int)=>∃u:Nat,a = u∧b = (l.length:Int) - 1 - u∧s.length = l.length∧u ≤ l.length∧∀k,k < l.length→s.getD k default = if k < u∨l.length ≤ k + u then l.getD (l.length - 1 - k) default else l.getD k default) (fun _ _ b=>(b + 1).toNat) (fun o=>o = some l.reverse) ?_ n l 0 ((l.length:Int) - 1) ⟨0,rfl,by omega,rfl,by omega,fun k hk=>by rw [if_neg (by omega)]⟩ (by omega)
  rintro kk s a b ⟨u,rfl,rfl,hs,hu,hq⟩ ih
  by_cases c:2 * u + 1 < l.length
  · have e2:((l.length:Int) - 1 - u).toNat = l.length - 1 - u:=by omega
    rw [aJ (decide_eq_true (by omega)),aF (cD (by omega) (by omega)),aF (cD (by omega) (by omega)),aF (cD (by omega) (by omega)),lt_eq,aF (cD (by omega) (by rw [List.length_set]; omega)),lt_eq,cj (x:=(u:Int) + 1) (by omega) (by omega),cj (x:=(l.length:Int) - 1 - u - 1) (by omega) (by omega),Int.toNat_natCast,e2]
    refine ih _ _ _ ⟨u + 1,by omega,by omega,by rw [List.length_set,List.length_set]; exact hs,by omega,fun k hk=>?_⟩ (by omega)
    have gs:∀(q:List Int) (i:Nat) (x:Int) (k:Nat),q.length = l.length→k < l.length→(q.set i x).getD k default = if i = k then x else q.getD k default:=fun q i x k h1 h2=>by
      rw [List.getD,List.getElem?_set]
      by_cases e:i = k
      · subst e; rw [if_pos rfl,if_pos (by omega),if_pos rfl]; rfl
      · rw [if_neg e,if_neg e,List.getD]
    have a1:=hq u (by omega)
    have a2:=hq (l.length - 1 - u) (by omega)
    rw [if_neg (by omega)] at a1 a2
    rw [gs _ _ _ _ (by rw [List.length_set]; exact hs) hk,gs _ _ _ _ hs hk,a1,a2,hq k hk]
    by_cases k1:l.length - 1 - u = k
    · rw [if_pos k1,if_pos (by omega)]; congr 1; omega
    · rw [if_neg k1]
      by_cases k2:u = k
      · rw [if_pos k2,if_pos (by omega)]; congr 1; omega
      · rw [if_neg k2]
        by_cases k3:k < u∨l.length ≤ k + u
        · rw [if_pos k3,if_pos (by omega)]
        · rw [if_neg k3,if_neg (by omega)]
  · rw [av (decide_eq_false (by omega))]
    congr 1
    refine List.ext_getElem (by simp [hs]) fun k h1 h2=>?_
    have hk:k < l.length:=by omega
    rw [List.getElem_reverse,← gV h1,← gV (by omega),hq k hk]
    split
    · rfl
    · congr 1; omega
theorem oO (hn:100 ≤ n) (r:dZ t w) (tt:fD w) {a:Int} (ha:aX w.B a):eA n a t = some (V6 (Gw w) (bQ w) a):=by
  obtain ⟨ρ,f⟩:=ny r tt
  have hm:=bA r.book
  unfold eA
  have hv:=f.ql ((hm a).2 ha)
  refine (nj (fun s:List Int=>s.reverse.flatMap (V6 (Gw w) (bQ w))) (fun s=>(∀x ∈ s,x ∈ Gw w)∧(s.reverse.flatMap (V6 (Gw w) (bQ w))).length ≤ 32) (fun s=>(s.reverse.flatMap (V6 (Gw w) (bQ w))).length) (fun k s hs ih=>?_) n [a] ⟨by simpa using (hm a).2 ha,by simpa using hv⟩ (by simp; omega)).trans (by simp)
  obtain ⟨hs,hlen⟩:=hs
  rcases sN s with rfl | ⟨i,x,rfl⟩
  · rfl
  · have hx:x ∈ Gw w:=hs x (by simp)
    have hxs:=(hm x).1 hx
    have e1:(i++[x]).reverse.flatMap (V6 (Gw w) (bQ w)) = V6 (Gw w) (bQ w) x++i.reverse.flatMap (V6 (Gw w) (bQ w)):=by
      rw [List.reverse_append,List.reverse_singleton,List.singleton_append,List.flatMap_cons]
    have hge:∀q:List Int,(∀x ∈ q,x ∈ Gw w)→q.length ≤ (q.flatMap (V6 (Gw w) (bQ w))).length:=fun q=>by
      induction q with
      | nil=>intro _; simp
      | cons b q ih =>
        intro hq
        have h1:=ih fun x hx=>hq x (by simp [hx])
        have h2:=f.qX (hq b (by simp))
        rw [List.flatMap_cons,List.length_append,h2,List.length_cons,List.length_cons]; omega
    have hi:=hge i.reverse fun y hy=>hs y (by simp at hy; simp [hy])
    rw [e1,List.length_append] at hlen
    have pg:i.length ≤ 32:=by rw [List.length_reverse] at hi; omega
    have ex:wr .i64 (((i++[x]).length:Int) - 1) = i.length:=by
      rw [List.length_append,List.length_singleton,cj (by omega) (by omega)]; omega
    have eg:(i++[x]).getD (Int.toNat (i.length:Int)) default = x:=by simp [List.getD]
    have hkn:rA w x = ff (Gw w) (bQ w) x:=by unfold rA; rw [if_pos hxs.2]
    have L3:(ff (Gw w) (bQ w) x).length ≤ 32:=Nat.le_trans (List.length_filter_le _ _) f.len
    have hpos:0 < ((i++[x]).length:Int):=by rw [List.length_append,List.length_singleton]; omega
    rw [aJ (decide_eq_true hpos),ex,aF (cD (by omega) (by simp; omega)),eg,ax (EO hn r hxs.1 (ez hxs.2)),hkn,ax (HD (by omega) (by omega)),aF (cD (by omega) (by simp; omega)),lt_eq]
    have et:(i++[x]).take (Int.toNat (i.length:Int)) = i:=by simp
    rw [et,aF (jF (by simp; omega) (by simp; omega)),lt_eq,e1,f.qX hx]
    have e2:(i++(ff (Gw w) (bQ w) x).reverse).reverse.flatMap (V6 (Gw w) (bQ w)) = (ff (Gw w) (bQ w) x).flatMap (V6 (Gw w) (bQ w))++i.reverse.flatMap (V6 (Gw w) (bQ w)):=by
      rw [List.reverse_append,List.reverse_reverse,List.flatMap_append]
    have e3:=congrArg List.length (f.qX hx)
    rw [List.length_cons] at e3
    rw [ih _ ⟨fun y hy=>?_,by rw [e2,List.length_append]; omega⟩ (by rw [e2,e1,List.length_append,List.length_append]; omega),e2]
    · rfl
    · rcases List.mem_append.1 hy with h | h
      · exact hs y (by simp [h])
      · exact (fT.1 (List.mem_reverse.1 h)).1
theorem zO (l x:List Int) (h:x.length + l.length ≤ 1000):eD (fun (JP:Int) B5 (fL:(List Int)) =>
  lt (JP:Int) fun kO =>
  gu (jY fL.length 1 4) <|
  lt (fL++([kO]):List Int) fun gR =>
  B5 gR) (fun (fL:(List Int)) =>
  some fL) l x = some (x++l):=by
  induction l generalizing x with
  | nil=>simp [eD]
  | cons a l ih =>
    rw [List.length_cons] at h
    have e:jY x.length 1 4 = true:=jF (by omega) (by omega)
    have:=ih (x++[a]) (by simp; omega)
    refine Eq.trans ?_ (this.trans (by simp))
    show gu (jY x.length 1 4) _ = _
    rw [aF e]; rfl
theorem BJ (hn:100 ≤ n) (r:dZ t w) (tt:fD w) {a:Int} (h0:0 ≤ a) (h1:a < 4294967296):gW n t a = some (fP w a):=by
  unfold gW fP
  rw [ax (iH r.book h0 h1)]
  cases hg:aR w.B a with
  | false=>rfl
  | true =>
    obtain ⟨ρ,f⟩:=ny r tt
    have hv:=f.ql ((bA r.book a).2 ⟨h0,hg⟩)
    rw [av (b:=!true) rfl,if_pos rfl]
    unfold eM cr bO
    rw [ax rfl,ax (oO hn r tt ⟨h0,hg⟩),ax (zO _ [] (by simp; omega))]
    rfl
end
end Go.Proofs.Ytbalnnoofdkbaaa
namespace Go.Proofs.Ytbalnnoofdkbaaa
open Go Go.Bw
section
variable {n:Nat} {t:ai} {w:ag}
theorem tW (hn:40 ≤ n) (r:dZ t w) {x:Int} (hx:aX w.B x):k9 n w x = some (bQ w x):=by
  unfold k9; rw [ax (tX hn r hx)]; rfl
theorem xk (hn:100 ≤ n) (r:dZ t w) {a:Int} (h0:0 ≤ a):mg n w a = some (rA w a):=by
  unfold mg
  have hm:=bA r.book
  have hlen:=fk w.B 32
  rw [ax (zv (by omega) r)]
  refine dR (fun (s:List Int) (i:Int)=>∃k:Nat,i = k∧k ≤ (Gw w).length∧s = if aR w.B a = true then ((Gw w).take k).filter (fun y=>bQ w y == a) else []) (fun _ i=>(Gw w).length - i.toNat) (fun o=>o = some (rA w a)) ?_ n [] 0 ⟨0,rfl,by omega,by simp⟩ (by show (Gw w).length - (0:Int).toNat < n; have:(Gw w).length ≤ 32:=hlen; omega)
  rintro kk s i ⟨k,rfl,hk,rfl⟩ ih
  have hl:(Gw w).length ≤ 32:=hlen
  have hl' : (ct w.B 32).length = (Gw w).length:=rfl
  by_cases c:k < (Gw w).length
  · have hx:=(hm _).1 (gw (l:=Gw w) (i:=k) c)
    have GV:∀q:Bool,(if q = true then ((Gw w).take k).filter (fun y=>bQ w y == a) else []).length ≤ 32:=fun q=>by
      split
      · exact Nat.le_trans (List.length_filter_le _ _) (by rw [List.length_take]; omega)
      · simp
    rw [aJ (decide_eq_true (by omega)),ax (bR (by omega) r h0),aF (by rw [cD (i:=(k:Int)) (n:=(ct w.B 32).length) (by omega) (by omega)]; simp),Int.toNat_natCast,cN (tW (by omega) r hx),cj (x:=(k:Int) + 1) (by omega) (by omega)]
    have ht:((Gw w).take (k + 1)).filter (fun y=>bQ w y == a) = ((Gw w).take k).filter (fun y=>bQ w y == a)++(if bQ w ((Gw w).getD k default) = a then [(Gw w).getD k default] else []):=by
      rw [List.take_succ_eq_append_getElem c,List.filter_append,← gV c]
      generalize (Gw w).getD k default = y
      by_cases hy:bQ w y = a <;> simp [hy]
    have hs:=GV (aR w.B a)
    cases hg:aR w.B a with
    | false =>
      rw [av (by rfl)]
      exact ih _ _ ⟨k + 1,by omega,by omega,by rw [hg,if_neg (by decide),if_neg (by decide)]⟩ (by omega)
    | true =>
      rw [hg] at hs
      by_cases hu:bQ w ((Gw w).getD k default) = a
      · rw [aJ (show (true && ((bif true == true then bQ w ((Gw w).getD k default) else default) == a)) = true by rw [hu]; simp),aF (cD (by omega) (by omega)),aF (jF (by omega) (by omega)),lt_eq]
        exact ih _ _ ⟨k + 1,by omega,by omega,by rw [hg,if_pos rfl,if_pos rfl,ht,if_pos hu]⟩ (by omega)
      · rw [av (show (true && ((bif true == true then bQ w ((Gw w).getD k default) else default) == a)) = false by simpa using hu)]
        exact ih _ _ ⟨k + 1,by omega,by omega,by rw [hg,if_pos rfl,if_pos rfl,ht,if_neg hu,List.append_nil]⟩ (by omega)
  · rw [av (decide_eq_false (by omega))]
    unfold rA ff
    rw [List.take_of_length_le (by omega)]
theorem vQ (r:dZ t w) (tt:fD w):∀(m:Nat) {ρ:Int→Nat},Fo (Gw w) (bQ w) ρ→∀a,a ∈ Gw w→132 - ρ a < m→fj m w a = some (V6 (Gw w) (bQ w) a):=by
  have hm:=bA r.book
  intro m
  induction m with
  | zero=>intro ρ f a ha h; omega
  | succ m ih =>
    intro ρ f a ha zZ
    have hr:=f.rk a ha
    have hg:=(hm a).1 ha
    unfold fj
    have hkn:rA w a = ff (Gw w) (bQ w) a:=by unfold rA; rw [if_pos hg.2]
    rw [ax (bR (by omega) r hg.1),hg.2,av (b:=!true) rfl,ax (xk (by omega) r hg.1),hkn]
    have hv:=f.qX ha
    have hvl:=f.ql ha
    have L3:(ff (Gw w) (bQ w) a).length ≤ 32:=Nat.le_trans (List.length_filter_le _ _) f.len
    refine dR (fun (s:List Int) (i:Int)=>∃k:Nat,i = k∧k ≤ (ff (Gw w) (bQ w) a).length∧s = a::((ff (Gw w) (bQ w) a).take k).flatMap (V6 (Gw w) (bQ w))) (fun _ i=>(ff (Gw w) (bQ w) a).length - i.toNat) (fun o=>o = some (V6 (Gw w) (bQ w) a)) ?_ m [a] 0 ⟨0,rfl,by omega,rfl⟩ (by omega)
    rintro kk s i ⟨k,rfl,hk,rfl⟩ DU
    by_cases c:k < (ff (Gw w) (bQ w) a).length
    · have hx:=fT.1 (gw (l:=ff (Gw w) (bQ w) a) (i:=k) c)
      have Na:=f.B4 ha hx.1 hx.2
      have:=f.rk _ hx.1
      have ht:((ff (Gw w) (bQ w) a).take (k + 1)).flatMap (V6 (Gw w) (bQ w)) = ((ff (Gw w) (bQ w) a).take k).flatMap (V6 (Gw w) (bQ w))++V6 (Gw w) (bQ w) ((ff (Gw w) (bQ w) a).getD k default):=by
        rw [List.take_succ_eq_append_getElem c,List.flatMap_append,← gV c]; simp
      have hle:(((ff (Gw w) (bQ w) a).take (k + 1)).flatMap (V6 (Gw w) (bQ w))).length + 1 ≤ 32:=by
        have e:=congrArg List.length hv
        rw [List.length_cons,← List.take_append_drop (k + 1) (ff (Gw w) (bQ w) a),List.flatMap_append,List.length_append] at e
        omega
      rw [ht,List.length_append] at hle
      rw [aJ (decide_eq_true (by omega)),aF (cD (by omega) (by omega)),Int.toNat_natCast,ax (ih f _ hx.1 (by omega)),aF (jF (by rw [List.length_cons]; omega) (by rw [List.length_cons]; omega)),lt_eq,cj (by omega) (by omega)]
      exact DU _ _ ⟨k + 1,by omega,by omega,by rw [ht]; rfl⟩ (by omega)
    · rw [av (decide_eq_false (by omega)),List.take_of_length_le (by omega),hv]
theorem rh (hn:200 ≤ n) (r:dZ t w) (tt:fD w) {a:Int} (h0:0 ≤ a):fj n w a = some (fP w a):=by
  unfold fP
  cases hg:aR w.B a with
  | false =>
    obtain ⟨m,rfl⟩ : ∃m,n = m + 1:=⟨n - 1,by omega⟩
    unfold fj; rw [ax (bR (by omega) r h0),hg]; rfl
  | true =>
    obtain ⟨ρ,f⟩:=ny r tt
    have ha:=(bA r.book a).2 ⟨h0,hg⟩
    rw [if_pos rfl]
    exact vQ r tt n f a ha (by omega)
theorem zu (r:dZ t w) (tt:fD w):∀(m:Nat) {ρ:Int→Nat},Fo (Gw w) (bQ w) ρ→∀a,a ∈ Gw w→ρ a + 100 < m→ef m w a = some (1 + ((U6 (bQ w) a).length:Int)):=by
  have hm:=bA r.book
  intro m
  induction m with
  | zero=>intro ρ f a ha h; omega
  | succ m ih =>
    intro ρ f a ha zZ
    have hg:=(hm a).1 ha
    have hl:=f.wY ha
    unfold ef
    rw [ax (bR (by omega) r hg.1),hg.2,av (b:=!true) rfl,ax (tW (by omega) r hg)]
    by_cases hu:bQ w a = 0
    · have h0:ef m w 0 = some 0:=by
        obtain ⟨m,rfl⟩ : ∃k,m = k + 1:=⟨m - 1,by omega⟩
        unfold ef; rw [ax (bR (by omega) r (by omega)),qL]; rfl
      rw [hu,ax h0,f.u0 ha hu]; rfl
    · rw [ax (ih f _ (f.y3 ha hu) (by have:=f.dn a ha hu; omega))]
      rw [f.u1 ha hu,List.length_cons] at hl ⊢
      rw [cj (by omega) (by omega)]; congr 1; omega
theorem qv (hn:200 ≤ n) (r:dZ t w) (tt:fD w) {a:Int} (h0:0 ≤ a):ef n w a = some (fh w a):=by
  unfold fh
  cases hg:aR w.B a with
  | false =>
    obtain ⟨m,rfl⟩ : ∃m,n = m + 1:=⟨n - 1,by omega⟩
    unfold ef; rw [ax (bR (by omega) r h0),hg]; rfl
  | true =>
    obtain ⟨ρ,f⟩:=ny r tt
    have ha:=(bA r.book a).2 ⟨h0,hg⟩
    rw [if_pos rfl]
    exact zu r tt n f a ha (by have:=f.rk a ha; omega)
theorem ri (hn:40 ≤ n) (r:dZ t w) (tt:fD w) (a:Int) {b:Int} (hb:aX w.B b):bS n w a b = some ((U6 (bQ w) b).contains a):=by
  obtain ⟨ρ,f⟩:=ny r tt
  have hm:=bA r.book
  unfold bS
  refine (nj (fun x=>if x = 0 then false else (U6 (bQ w) x).contains a) (fun x=>x = 0∨aX w.B x) (fun x=>if x = 0 then 0 else ρ x + 1) (fun k x hx ih=>?_) n b (.inr hb) ?_).trans (by rw [if_neg (f.pos b ((hm b).2 hb))])
  · by_cases h0:x = 0
    · subst h0; rw [av (by rfl)]; rfl
    · have hg:=hx.resolve_left h0
      have hG:=(hm x).2 hg
      have Iy:=cW x
      rw [aJ (by simpa using h0),ax (cO hn r.book hg.1),hg.2,if_pos rfl,aF (fc x),if_neg h0]
      show cn (bQ w x == a) (some (a != 0)) (k (bQ w x)) = _
      by_cases hu:bQ w x = 0
      · rw [hu,f.u0 hG hu]
        by_cases ha:a = 0
        · subst ha; rw [aJ (by rfl)]; rfl
        · rw [av (by simpa using Ne.symm ha),ih 0 (.inl rfl) (by rw [if_pos rfl,if_neg h0]; omega)]; rfl
      · rw [f.u1 hG hu]
        by_cases ha:bQ w x = a
        · rw [aJ (by simpa using ha)]
          have:a ≠ 0:=ha ▸ hu
          rw [List.contains_cons,ha]; simp [this]
        · rw [av (by simpa using ha),ih _ (.inr ((hm _).1 (f.y3 hG hu))) (by rw [if_neg hu,if_neg h0]; have:=f.dn x hG hu; omega),if_neg hu,List.contains_cons]
          congr 1
          have:(a == bQ w x) = false:=by simpa using Ne.symm ha
          rw [this,Bool.false_or]
  · have hp:=f.pos b ((hm b).2 hb)
    rw [if_neg hp]; have:=f.rk b ((hm b).2 hb); omega
theorem zo (hn:200 ≤ n) (r:dZ t w) (tt:fD w) {a b:Int} (h0:0 ≤ a) (k0:0 ≤ b):jy n w a b = some (jL w a b):=by
  unfold jy jL
  rw [ax (bR (by omega) r h0),cN (bR (by omega) r k0)]
  cases hg:aR w.B a with
  | false=>rfl
  | true =>
    cases hk:aR w.B b with
    | false=>rfl
    | true =>
      by_cases e:a = b
      · subst e; rw [yt (by simp)]; simp
      · refine (oB (by simpa using e) (ri (by omega) r tt a ⟨k0,hk⟩)).trans ?_
        rfl
theorem zM (d:Int→Option Int) (e:Option Int) (v:Int→Int) (c:Int) (hc:0 ≤ c∧c ≤ 1000) (he:e = some c) (l:List Int) (hd:∀x ∈ l,d x = some (v x)∧0 ≤ v x∧v x ≤ 1000) (x:Int) (h0:0 ≤ x∧x ≤ 5000) :
    eD (fun (Ad:Int) zL (eo:Int) =>
  lt (Ad:Int) fun jq =>
  bd (d jq) fun gR =>
  bd e fun fO =>
  lt ((if eo < wr .i64 ((wr .i64 (gR - fO)) + 1) then wr .i64 ((wr .i64 (gR - fO)) + 1) else eo):Int) fun fE =>
  zL fE) (fun (eo:Int) =>
  some eo) l x = some (l.foldl (fun m y=>max m (v y - c + 1)) x):=by
  subst he
  induction l generalizing x with
  | nil=>rfl
  | cons a l ih =>
    obtain ⟨a1,a2,a3⟩:=hd a (by simp)
    have e1:wr .i64 (v a - c) = v a - c:=cj (by omega) (by omega)
    have e2:wr .i64 (v a - c + 1) = v a - c + 1:=cj (by omega) (by omega)
    have key:=ih (fun y hy=>hd y (by simp [hy])) (max x (v a - c + 1)) (by omega)
    rw [List.foldl_cons,← key]
    show bd (d a) _ = _
    rw [ax a1,ax rfl,e1,e2]
    show eD _ _ l _ = _
    congr 1
    simp only [Int.max_def]
    split <;> split <;> omega
theorem ye (v:Int→Int) (c:Int) (l:List Int) (x k:Int):k < l.foldl (fun m y=>max m (v y - c + 1)) x↔k < x∨∃y ∈ l,k < v y - c + 1:=by
  induction l generalizing x with
  | nil=>simp
  | cons a l ih =>
    rw [List.foldl_cons,ih]
    constructor
    · rintro (h | ⟨y,hy,h⟩)
      · rcases Int.lt_or_le k x with h1 | h1
        · exact .inl h1
        · exact .inr ⟨a,by simp,by omega⟩
      · exact .inr ⟨y,by simp [hy],h⟩
    · rintro (h | ⟨y,hy,h⟩)
      · exact .inl (by omega)
      · rcases List.mem_cons.1 hy with e | hy
        · subst e; exact .inl (by omega)
        · exact .inr ⟨y,hy,h⟩
end
end Go.Proofs.Ytbalnnoofdkbaaa
namespace Go.Proofs.Ytbalnnoofdkbaaa
open Go Go.Bw
def lW (w:ag):Prop:=∀g,aX w.B g→(0 ≤ (w.R (bt g)).bq∧(w.R (bt g)).bq ≤ 64)∧∀n,110 ≤ n→dc n (w.R (bt g)).E = some true
def zC:bI:={ Up:=0,bq:=0,E:=cq,Cells:=(fun _=>0) }
def vt (w:ag) (h:Int):ag:=if aR w.B h = true then ⟨wK w.B h,fun j=>if j < 32∧(dI w.R (bt h) zC j).Up = h then { dI w.R (bt h) zC j with Up:=0 } else dI w.R (bt h) zC j⟩ else w
theorem vR {n:Nat} (hn:40 ≤ n) (h:Int) (w:ag):dF (fun A7 (jW:Int) (kN:ag) =>
  cn (decide (jW < 32)) (
  gu (dB jW 32) <|
  cn ((((kN.R (Int.toNat jW)).Up) == h)) (
  gu (dB jW 32) <|
  lt ({ kN with R:=(dI kN.R (Int.toNat jW) ({ (kN.R (Int.toNat jW)) with Up:=0 })) }:ag) fun u6 =>
  A7 (wr .i64 (jW + 1)) u6) (
  A7 (wr .i64 (jW + 1)) kN)) (
  some (kN,(0:Int)))) n 0 w = some (({ B:=w.B,R:=fun j=>if j < 32∧(w.R j).Up = h then { w.R j with Up:=0 } else w.R j }:ag),0):=by
  refine dR (fun (i:Int) (v:ag)=>0 ≤ i∧i ≤ 32∧v.B = w.B∧∀j,v.R j = if j < i.toNat∧(w.R j).Up = h then { w.R j with Up:=0 } else w.R j) (fun i _=>(32 - i).toNat)
    (fun o=>o = some (({ B:=w.B,R:=fun j=>if j < 32∧(w.R j).Up = h then { w.R j with Up:=0 } else w.R j }:ag),0)) ?_ n 0 w ⟨by omega,by omega,rfl,fun j=>by simp⟩ (by omega)
  rintro kk i v ⟨i0,i1,hb,hv⟩ ih
  by_cases c:i < 32
  · have hi:=hv i.toNat
    rw [if_neg (fun hh=>absurd hh.1 (Nat.lt_irrefl _))] at hi
    rw [aJ (by simpa using c),aF (cD i0 (by omega)),hi,cj (x:=i + 1) (by omega) (by omega)]
    have e1:(i + 1).toNat = i.toNat + 1:=by omega
    have step:∀j,j ≠ i.toNat→(if j < i.toNat∧(w.R j).Up = h then { w.R j with Up:=0 } else w.R j) = (if j < (i + 1).toNat∧(w.R j).Up = h then { w.R j with Up:=0 } else w.R j):=fun j hj=>by
      by_cases hu:(w.R j).Up = h
      · by_cases hl:j < i.toNat
        · rw [if_pos ⟨hl,hu⟩,if_pos ⟨by omega,hu⟩]
        · rw [if_neg (fun hh=>hl hh.1),if_neg (fun hh=>by omega)]
      · rw [if_neg (fun hh=>hu hh.2),if_neg (fun hh=>hu hh.2)]
    by_cases hu:(w.R i.toNat).Up = h
    · rw [aJ (by simpa using hu),aF (cD i0 (by omega)),lt_eq]
      refine ih _ _ ⟨by omega,by omega,hb,fun j=>?_⟩ (by omega)
      show dI v.R i.toNat _ j = _
      rw [bG]
      by_cases ej:j = i.toNat
      · subst ej; rw [if_pos rfl,if_pos ⟨by omega,hu⟩]
      · rw [if_neg ej,hv j,step j ej]
    · rw [av (by simpa using hu)]
      refine ih _ _ ⟨by omega,by omega,hb,fun j=>?_⟩ (by omega)
      rw [hv j]
      by_cases ej:j = i.toNat
      · subst ej; rw [if_neg (fun hh=>hu hh.2),if_neg (fun hh=>hu hh.2)]
      · exact step j ej
  · rw [av (by simpa using c)]
    have e:v = ({ B:=w.B,R:=fun j=>if j < 32∧(w.R j).Up = h then { w.R j with Up:=0 } else w.R j }:ag):=by
      obtain ⟨vb,vr⟩:=v
      congr 1
      funext j
      rw [show vr j = _ from hv j,show i.toNat = 32 by omega]
    rw [e]
section
variable {n:Nat} {t:ai} {w:ag}
theorem sL (hn:40 ≤ n) (r:dZ t w) {h:Int} (h0:0 ≤ h):dJ n w h = some (vt w h,if aR w.B h = true then 0 else 4):=by
  unfold dJ vt
  have hr:=cW h
  rw [ax (cO hn r.book h0)]
  cases hg:aR w.B h with
  | false=>rfl
  | true =>
    rw [if_pos rfl,av (by simp; omega),ax (sK hn r.book h0),lt_eq,lt_eq,aF (fc h),lt_eq,if_pos rfl,if_pos rfl]
    exact vR (n:=n) hn h ⟨wK w.B h,dI w.R (bt h) zC⟩
theorem ym (hn:40 ≤ n) (r:dZ t w) (tt:fD w) {h:Int} (h0:0 ≤ h) (h1:h < 4294967296) :
    ∃t',c9 n t h = some (t',if aR w.B h = true then 0 else 4)∧dZ t' (vt w h)∧fD (vt w h):=by
  obtain ⟨t',w',e,e1,e2,k⟩:=Ge hn r tt h0 h1
  obtain ⟨rfl,rfl⟩:=Prod.mk.inj (Option.some.inj (e2.symm.trans (sL hn r h0)))
  exact ⟨t',e1,k.rt,k.tt⟩
theorem pz (r:dZ t w) {h:Int} (h0:0 ≤ h) (x:Int):aX (vt w h).B x↔aX w.B x∧x ≠ h:=by
  unfold vt
  cases hg:aR w.B h with
  | false =>
    rw [if_neg (by decide)]
    exact ⟨fun hx=>⟨hx,fun e=>by subst e; have:=hx.2; rw [hg] at this; cases this⟩,fun hx=>hx.1⟩
  | true=>rw [if_pos rfl]; exact qW r.book h0 x
theorem rM (r:dZ t w) {h:Int} (h0:0 ≤ h) {x:Int} (hx:aX (vt w h).B x):(vt w h).R (bt x) = if bQ w x = h then { w.R (bt x) with Up:=0 } else w.R (bt x):=by
  obtain ⟨x1,x2⟩:=(pz r h0 x).1 hx
  unfold vt
  cases hg:aR w.B h with
  | false =>
    rw [if_neg (by decide)]
    split
    · rename_i hu
      have:h = 0∨aX w.B h:=by rw [← hu]; exact r.DR x1
      rcases this with e | e
      · have:(w.R (bt x)).Up = 0:=hu.trans e
        rw [← this]
      · have:=e.2; rw [hg] at this; cases this
    · rfl
  | true =>
    rw [if_pos rfl]
    have hne:bt x ≠ bt h:=fun e=>x2 (by rw [← dX x1,← dX ⟨h0,hg⟩,e])
    dsimp only
    rw [fI _ _ hne]
    by_cases hu:bQ w x = h
    · rw [if_pos hu,if_pos ⟨iX x,hu⟩]
    · rw [if_neg hu,if_neg (fun hh=>hu hh.2)]
theorem Dj (r:dZ t w) {h:Int} (h0:0 ≤ h) {x:Int} (hx:aX (vt w h).B x):bQ (vt w h) x = if bQ w x = h then 0 else bQ w x:=by
  unfold bQ
  rw [rM r h0 hx]
  show (if (w.R (bt x)).Up = h then _ else _:bI).Up = _
  split <;> rfl
theorem lW.drop (i:lW w) (r:dZ t w) {h:Int} (h0:0 ≤ h):lW (vt w h):=fun g hg=>by
  have:=i g ((pz r h0 g).1 hg).1
  rw [rM r h0 hg]
  split
  · exact this
  · exact this
def nP (w:ag) (h a:Int):ag:={ w with R:=dI w.R (bt h) { w.R (bt h) with Up:=a } }
theorem qt (hn:40 ≤ n) (r:dZ t w) (tt:fD w) {h a:Int} (hh:aX w.B h) (ha:a = 0∨aX w.B a) (hno:¬ (a ≠ 0∧(a = h∨h ∈ U6 (bQ w) a))):eJ n w h a = some (nP w h a,0):=by
  unfold eJ nP
  have a0:0 ≤ a:=by rcases ha with e | e; omega; exact e.1
  have ok:xq w.B a = true:=by
    unfold xq
    rcases ha with e | e
    · rw [e]; rfl
    · rw [e.2,Bool.or_true]
  have e0:∀v:Bool,(((!true) == false) && v) = v:=fun v=>by cases v <;> rfl
  rw [ax (bR hn r hh.1),cN (bR hn r a0),hh.2,e0,iy,ok,av (by rfl)]
  have key:∀F:Bool→Option (ag × Int),(cl (((a != 0) == true) && ((a == h) == false)) (bS n w h a) default fun fL=>F ((a != 0) && ((a == h) || fL))) = F false:=fun F=>by
    by_cases e:a = 0
    · subst e; rfl
    · have hg:=ha.resolve_left e
      have h1:a ≠ h:=fun q=>hno ⟨e, .inl q⟩
      have h2:(U6 (bQ w) a).contains h = false:=by
        rw [← Bool.not_eq_true,List.contains_iff_mem]; exact fun q=>hno ⟨e, .inr q⟩
      have e1:(a == h) = false:=by simpa using h1
      rw [oB (by simp [e,h1]) (ri hn r tt h hg),h2,e1]; simp
  rw [key (fun v=>cn v (some (w,12)) (bd (bE n w.B h) fun bW =>
  gu (dB bW 32) <|
  lt ({ w with R:=(dI w.R (Int.toNat bW) ({ (w.R (Int.toNat bW)) with Up:=a })) }:ag) fun eZ =>
  some (eZ,0))),av rfl,ax (cO hn r.book hh.1),hh.2,if_pos rfl,aF (fc h)]
  rfl
theorem xm (hn:40 ≤ n) (r:dZ t w) (tt:fD w) {h a:Int} (hh:aX w.B h) (ha:a = 0∨aX w.B a) (hno:¬ (a ≠ 0∧(a = h∨h ∈ U6 (bQ w) a))) :
    ∃t',cP n t h a = some (t',0)∧dZ t' (nP w h a)∧fD (nP w h a):=by
  have a0:0 ≤ a∧a < 4294967296:=by rcases ha with e | e; omega; exact ⟨e.1,ez e.2⟩
  obtain ⟨t',w',e,e1,e2,k⟩:=BT hn r tt hh.1 (ez hh.2) a0.1 a0.2
  obtain ⟨rfl,rfl⟩:=Prod.mk.inj (Option.some.inj (e2.symm.trans (qt hn r tt hh ha hno)))
  exact ⟨t',e1,k.rt,k.tt⟩
theorem tM {h a x:Int} (hh:aX w.B h) (hx:aX w.B x):bQ (nP w h a) x = if x = h then a else bQ w x:=by
  unfold bQ nP
  dsimp only
  rw [bG]
  by_cases e:x = h
  · rw [if_pos e,if_pos (by rw [e])]
  · rw [if_neg e,if_neg (fun q=>e (by rw [← dX hx,← dX hh,q]))]
theorem lW.up (i:lW w) (h a:Int):lW (nP w h a):=fun g hg=>by
  have:=i g hg
  unfold nP
  dsimp only
  rw [bG]
  split
  · rename_i e; rw [e] at this; exact this
  · exact this
def tQ (w:ag) (h:Int) (x:bI):ag:={ w with R:=dI w.R (bt h) { x with Up:=(w.R (bt h)).Up } }
theorem vj (hn:40 ≤ n) (r:dZ t w) {h:Int} (hh:aX w.B h) {x:bI} (hq:0 ≤ x.bq∧x.bq ≤ 64) (hm:dc n x.E = some true):fB n w h x = some (tQ w h x,0):=by
  unfold fB tQ
  have Iy:=cW h
  rw [ax (cO (by omega) r.book hh.1),hh.2,if_pos rfl,av (by simp; omega),cN hm]
  have e2:(decide (x.bq < 0) || decide (64 < x.bq)) = false:=by rw [Bool.or_eq_false_iff,decide_eq_false_iff_not,decide_eq_false_iff_not]; omega
  rw [e2,av (by rfl),aF (fc h),lt_eq,aF (fc h),lt_eq]
  rfl
theorem Et (hn:110 ≤ n) (r:dZ t w) (tt:fD w) {h:Int} (hh:aX w.B h) {p:bj} {x:bI} (hx:sd p x) (hq:0 ≤ x.bq∧x.bq ≤ 64) (hm:dc n x.E = some true) :
    ∃t',cV n t h p = some (t',0)∧dZ t' (tQ w h x)∧fD (tQ w h x):=by
  obtain ⟨t',w',e,e1,e2,k⟩:=HC hn r tt hh.1 (ez hh.2) hx
  obtain ⟨rfl,rfl⟩:=Prod.mk.inj (Option.some.inj (e2.symm.trans (vj (by omega) r hh hq hm)))
  exact ⟨t',e1,k.rt,k.tt⟩
theorem BO (h:Int) (x:bI) (y:Int):bQ (tQ w h x) y = bQ w y:=by
  unfold bQ tQ
  dsimp only
  rw [bG]
  split
  · rename_i e; rw [e]
  · rfl
theorem lW.set (i:lW w) {h:Int} (hh:aX w.B h) {x:bI} (hq:x.bq = (w.R (bt h)).bq) (he:x.E = (w.R (bt h)).E):lW (tQ w h x):=fun g hg=>by
  have h1:=i g hg
  have h2:=i h hh
  unfold tQ
  dsimp only
  rw [bG]
  split
  · dsimp only; rw [hq,he]; exact h2
  · exact h1
theorem zq (hn:40 ≤ n) (r:dZ t w) {a q:Int} (ha:a = 0∨aX w.B a) (hq:0 ≤ q∧q ≤ 64) {f:Nat} (hf:m8 w.B f) :
    cX n w a q = some (if f < 32 then (⟨gn w.B f,dI w.R f ⟨a,q,cq,fun _=>0⟩⟩,fM f (w.B.gD f),0) else (w,0,7)):=by
  have a0:0 ≤ a:=by rcases ha with e | e; omega; exact e.1
  have ok:xq w.B a = true:=by
    unfold xq
    rcases ha with e | e
    · rw [e]; rfl
    · rw [e.2,Bool.or_true]
  unfold cX
  rw [cN (bR hn r a0),iy,ok,av (b:=!true) rfl,av (by simp; omega),ax (nS hn r.book hf)]
  by_cases hl:f < 32
  · rw [if_pos hl,if_pos hl]
    have hr:=r.book.gO f hl
    obtain ⟨q1,q2,q3,q4,q5⟩:=kA (i:=f) (g:=w.B.gD f) (by omega) (by omega) hr.1 hr.2
    obtain ⟨b',i1,i2⟩:=sS (n:=n) hn r.book hf
    rw [if_pos hl] at i2
    have hnew:aX (gn w.B f) (fM f (w.B.gD f)):=(gJ r.book hf hl _).2 (.inr rfl)
    have hfn:(fY (fM f (w.B.gD f))).toNat = f:=by rw [q2]; omega
    rw [av (by simp; omega),lt_eq]
    dsimp only
    rw [ax (cO hn i2 (by omega)),hnew.2,if_pos rfl]
    show gu (dB (fY (fM f (w.B.gD f))) 32) _ = _
    rw [aF (fc _),hfn]; rfl
  · rw [if_neg hl,if_neg hl]; rfl
end
end Go.Proofs.Ytbalnnoofdkbaaa
namespace Go.Proofs.Ytbalnnoofdkbaaa
open Go Go.Bw
abbrev dK (w:ag) (l:List Int):ag:=l.foldl vt w
section
variable {n:Nat} {t:ai} {w:ag}
theorem rL (l:List Int):∀{t:ai} {w:ag},dZ t w→fD w→lW w→(∀x ∈ l,0 ≤ x∧x < 4294967296)→(∃t',dZ t' (dK w l))∧fD (dK w l)∧lW (dK w l)∧(∀y,aX (dK w l).B y↔aX w.B y∧y ∉ l)∧(∀y,aX (dK w l).B y→bQ (dK w l) y = if bQ w y ∈ l then 0 else bQ w y):=by
  induction l with
  | nil=>intro t w r tt i _; exact ⟨⟨t,r⟩,tt,i,fun y=>by simp,fun y _=>by simp⟩
  | cons x l ih =>
    intro t w r tt i hl
    have hx:=hl x (by simp)
    obtain ⟨t1,_,r1,BL⟩:=ym (n:=40) (by omega) r tt hx.1 hx.2
    obtain ⟨a1,a2,a3,a4,a5⟩:=ih r1 BL (i.drop r hx.1) fun y hy=>hl y (by simp [hy])
    refine ⟨a1,a2,a3,fun y=>?_,fun y hy=>?_⟩
    · refine (a4 y).trans ?_
      rw [pz r hx.1,List.mem_cons,not_or,and_assoc]
    · refine (a5 y hy).trans ?_
      rw [Dj r hx.1 ((a4 y).1 hy).1]
      by_cases e:bQ w y = x
      · rw [if_pos e,if_pos (List.mem_cons.2 (.inl e))]; split <;> rfl
      · rw [if_neg e]
        by_cases e2:bQ w y ∈ l
        · rw [if_pos e2,if_pos (List.mem_cons_of_mem _ e2)]
        · rw [if_neg e2,if_neg (fun h=>(List.mem_cons.1 h).elim e e2)]
theorem Di (hn:100 ≤ n) (r:dZ t w) (tt:fD w) {l:List Int} (hl:∀x ∈ l,0 ≤ x∧x < 4294967296) (hlen:l.length ≤ 40):∃t',dF (fun ER (dA:Int) (hY:ai) =>
  cn (decide (dA < (l.length:Int))) (
  gu (dB dA l.length) <|
  bd (c9 n hY (l.getD (Int.toNat dA) default)) fun BA =>
  ER (wr .i64 (dA + 1)) BA.1) (
  some (hY,l,(0:Int)))) n 0 t = some (t',l,0)∧dZ t' (dK w l)∧fD (dK w l):=by
  refine dR (fun (i:Int) (t:ai)=>∃k:Nat,i = k∧k ≤ l.length∧dZ t (dK w (l.take k))∧fD (dK w (l.take k))) (fun i _=>l.length - i.toNat) (fun o=>∃t',o = some (t',l,0)∧dZ t' (dK w l)∧fD (dK w l)) ?_ n 0 t ⟨0,rfl,by omega,r,tt⟩ (by omega)
  rintro kk i t ⟨k,rfl,hk,r,tt⟩ ih
  by_cases c:k < l.length
  · have hx:=hl _ (gw (l:=l) (i:=k) c)
    obtain ⟨t1,e1,r1,BL⟩:=ym (n:=n) (by omega) r tt hx.1 hx.2
    have et:vt (dK w (l.take k)) (l.getD k default) = dK w (l.take (k + 1)):=by
      rw [List.take_succ_eq_append_getElem c,← gV c,dK,dK,List.foldl_append]; rfl
    rw [et] at r1 BL
    rw [aJ (decide_eq_true (by omega)),aF (cD (by omega) (by omega)),Int.toNat_natCast,ax e1,cj (by omega) (by omega)]
    exact ih _ _ ⟨k + 1,by omega,by omega,r1,BL⟩ (by omega)
  · rw [av (decide_eq_false (by omega))]
    rw [List.take_of_length_le (by omega)] at r tt
    exact ⟨t,rfl,r,tt⟩
theorem Dh (hn:100 ≤ n) (r:dZ t w) (tt:fD w) (i:lW w) {l:List Int} (hl:∀x ∈ l,0 ≤ x∧x < 4294967296) (hlen:l.length ≤ 40) {ρ:Type} (F:ag→Option ρ):dF (fun ES (jq:Int) (jK:ag) =>
  cn (decide (jq < (l.length:Int))) (
  gu (dB jq l.length) <|
  bd (dJ n jK (l.getD (Int.toNat jq) default)) fun hY =>
  ES (wr .i64 (jq + 1)) hY.1) (
  F jK)) n 0 w = F (dK w l):=by
  refine dR (fun (i:Int) (v:ag)=>∃k:Nat,i = k∧k ≤ l.length∧v = dK w (l.take k)) (fun i _=>l.length - i.toNat) (fun o=>o = F (dK w l)) ?_ n 0 w ⟨0,rfl,by omega,rfl⟩ (by omega)
  rintro kk x v ⟨k,rfl,hk,rfl⟩ ih
  by_cases c:k < l.length
  · have hx:=hl _ (gw (l:=l) (i:=k) c)
    obtain ⟨⟨t1,r1⟩,_⟩:=rL (l.take k) r tt i fun y hy=>hl y (List.mem_of_mem_take hy)
    rw [aJ (decide_eq_true (by omega)),aF (cD (by omega) (by omega)),Int.toNat_natCast,ax (sL (by omega) r1 hx.1),cj (by omega) (by omega)]
    exact ih _ _ ⟨k + 1,by omega,by omega,by rw [List.take_succ_eq_append_getElem c,← gV c,dK,dK,List.foldl_append]; rfl⟩ (by omega)
  · rw [av (decide_eq_false (by omega)),List.take_of_length_le (by omega)]
theorem qZ (r:dZ t w) (tt:fD w) (a:Int):(∀x ∈ fP w a,aX w.B x)∧(fP w a).length ≤ 32:=by
  unfold fP
  cases hg:aR w.B a with
  | false=>exact ⟨fun x hx=>(by rw [if_neg (by decide)] at hx; cases hx),by simp⟩
  | true =>
    rw [if_pos rfl]
    by_cases h0:0 ≤ a
    · obtain ⟨ρ,f⟩:=ny r tt
      have ha:=(bA r.book a).2 ⟨h0,hg⟩
      exact ⟨fun x hx=>(bA r.book x).1 ((f.jt ha x).1 hx).1,f.ql ha⟩
    · exact absurd hg (by
        intro h
        have h3:=(eG.1 h).2.2
        have h4:=r.book.gO (bt a) (iX a)
        unfold bt at h4
        omega)
theorem mG (r:dZ t w) (tt:fD w) (a:Int):∀x ∈ fP w a,0 ≤ x∧x < 4294967296:=fun x hx=>by
  have:=(qZ r tt a).1 x hx; exact ⟨this.1,ez this.2⟩
theorem zi (r:dZ t w) (tt:fD w) {a:Int} (h0:0 ≤ a):(fP w a).length = 0↔aR w.B a = false:=by
  unfold fP
  cases hg:aR w.B a with
  | false=>simp
  | true =>
    obtain ⟨ρ,f⟩:=ny r tt
    rw [if_pos rfl,f.qX ((bA r.book a).2 ⟨h0,hg⟩)]; simp
theorem F7 (hn:200 ≤ n) (r:dZ t w) (tt:fD w) (i:lW w) {a:Int} (h0:0 ≤ a) (h1:a < 4294967296) :
    ∃t',iL n t a = some (t',fP w a,if aR w.B a = true then 0 else 4)∧oT n w a = some (dK w (fP w a),fP w a,if aR w.B a = true then 0 else 4)∧dZ t' (dK w (fP w a))∧fD (dK w (fP w a)):=by
  have hr:=mG r tt a
  have hl:=(qZ r tt a).2
  have hz:=zi r tt h0
  unfold iL oT
  rw [ax (BJ (by omega) r tt h0 h1),ax (rh (by omega) r tt h0)]
  have hR:=Dh (n:=n) (by omega) r tt i hr (by omega) fun v=>cn (((fP w a).length:Int) == 0) (some (v,([]:List Int),(4:Int))) (some (v,fP w a,0))
  cases hg:aR w.B a with
  | false =>
    have e:=List.length_eq_zero_iff.1 (hz.2 hg)
    rw [e] at hR ⊢
    exact ⟨t,by rw [aJ (by rfl)]; rfl,hR,r,tt⟩
  | true =>
    have e:(((fP w a).length:Int) == 0) = false:=by
      have:(fP w a).length ≠ 0:=fun q=>by have:=hz.1 q; rw [hg] at this; cases this
      simpa using this
    obtain ⟨t',e1,e2,e3⟩:=Di (n:=n) (by omega) r tt hr (by omega)
    rw [av e]
    refine ⟨t',e1,?_,e2,e3⟩
    rw [hR,av e]; rfl
def yq (L:List Int) (c0 c:Nat→Int):Nat→Int:=fun i=>if i < 8∧L.contains (c0 i) = true then 0 else c i
theorem Gj {α ρ:Type} (get:α→Nat→Int) (put:α→Nat→α) (p:α) (c:Nat→Int) (d:Int→Option Bool) (L:List Int) (hd:∀i,i < 8→d (c i) = some (L.contains (c i))) (fin:(Nat→Int)→α) (h0:fin (get p) = p)
    (hput:∀g i,put (fin g) i = fin (dI g i 0)) (F:α→Option ρ) {m:Nat} (hm:10 ≤ m):dF (fun A5 (kW:Int) (mb:α) =>
  cn (decide (kW < 8)) (
  gu (dB kW 8) <|
  bd (d (c (Int.toNat kW))) fun uZ =>
  cn (uZ) (
  gu (dB kW 8) <|
  lt (put mb (Int.toNat kW)) fun vJ =>
  A5 (wr .i64 (kW + 1)) vJ) (
  A5 (wr .i64 (kW + 1)) mb)) (
  F mb)) m 0 p = F (fin (yq L c (get p))):=by
  refine dR (fun (i:Int) (v:α)=>∃k:Nat,i = k∧k ≤ 8∧v = fin (fun j=>if j < k∧L.contains (c j) = true then 0 else get p j)) (fun i _=>8 - i.toNat) (fun o=>o = F (fin (yq L c (get p)))) ?_ m 0 p ⟨0,rfl,by omega,by simp [h0]⟩ (by omega)
  rintro kk x v ⟨k,rfl,hk,rfl⟩ ih
  by_cases q:k < 8
  · rw [aJ (decide_eq_true (by omega)),aF (cD (by omega) (by omega)),Int.toNat_natCast,ax (hd k q),cj (by omega) (by omega)]
    have st:∀j,j ≠ k→(if j < k + 1∧L.contains (c j) = true then (0:Int) else get p j) = if j < k∧L.contains (c j) = true then 0 else get p j:=fun j hj=>by
      by_cases h1:L.contains (c j) = true
      · by_cases h2:j < k
        · rw [if_pos ⟨by omega,h1⟩,if_pos ⟨h2,h1⟩]
        · rw [if_neg (fun h=>by omega),if_neg (fun h=>h2 h.1)]
      · rw [if_neg (fun h=>h1 h.2),if_neg (fun h=>h1 h.2)]
    cases hc:L.contains (c k) with
    | true =>
      rw [aJ rfl,aF (cD (by omega) (by omega)),lt_eq,hput]
      refine ih _ _ ⟨k + 1,by omega,by omega,?_⟩ (by omega)
      congr 1; funext j
      rw [bG]
      by_cases e:j = k
      · subst e; rw [if_pos rfl,if_pos ⟨by omega,hc⟩]
      · rw [if_neg e,st j e]
    | false =>
      rw [av rfl]
      refine ih _ _ ⟨k + 1,by omega,by omega,?_⟩ (by omega)
      congr 1; funext j
      by_cases e:j = k
      · subst e; rw [if_neg (fun h=>by rw [hc] at h; exact absurd h.2 (by decide)),if_neg (fun h=>by rw [hc] at h; exact absurd h.2 (by decide))]
      · rw [st j e]
  · rw [av (decide_eq_false (by omega))]
    obtain rfl:k = 8:=by omega
    rfl
def p5 (w0:ag) (L:List Int) (v:ag) (x:Int):ag:={ v with R:=dI v.R (bt x) { v.R (bt x) with Cells:=yq L (w0.R (bt x)).Cells (v.R (bt x)).Cells } }
abbrev jQ (w:ag) (L l:List Int):ag:=l.foldl (p5 w L) w
theorem Dn (w0:ag) (L:List Int) (v:ag) (x y:Int):bQ (p5 w0 L v x) y = bQ v y:=by
  unfold bQ p5
  dsimp only
  rw [bG]
  split
  · rename_i e; rw [e]
  · rfl
theorem nB (w0:ag) (L l:List Int):∀v:ag,(l.foldl (p5 w0 L) v).B = v.B:=by
  induction l with
  | nil=>intro v; rfl
  | cons x l ih=>intro v; exact ih _
theorem Af (w0:ag) (L l:List Int) (y:Int):∀v:ag,bQ (l.foldl (p5 w0 L) v) y = bQ v y:=by
  induction l with
  | nil=>intro v; rfl
  | cons x l ih=>intro v; exact (ih _).trans (Dn _ _ _ _ _)
theorem pB (w0:ag) (L l:List Int) {y:Int}:∀v:ag,(∀x ∈ l,bt x ≠ bt y)→(l.foldl (p5 w0 L) v).R (bt y) = v.R (bt y):=by
  induction l with
  | nil=>intro v _; rfl
  | cons x l ih =>
    intro v h
    refine (ih _ fun z hz=>h z (by simp [hz])).trans ?_
    unfold p5
    exact fI _ _ (Ne.symm (h x (by simp)))
theorem mO {B:aC} {x y:Int} (hx:aX B x) (hy:aX B y) (e:bt x = bt y):x = y:=by rw [← dX hx,← dX hy,e]
theorem uG (w:ag) (L:List Int) {l:List Int} (hl:∀x ∈ l,aX w.B x) (hd:l.Nodup) {y:Int} (hy:y ∈ l):∀v:ag,(v.R (bt y)).Cells = (w.R (bt y)).Cells→((l.foldl (p5 w L) v).R (bt y)).Cells = yq L (w.R (bt y)).Cells (w.R (bt y)).Cells:=by
  induction l with
  | nil=>cases hy
  | cons x l ih =>
    intro v hv
    obtain ⟨hx,hd⟩:=List.nodup_cons.1 hd
    rw [List.foldl_cons]
    rcases List.mem_cons.1 hy with e | hy
    · subst e
      rw [pB w L l _ fun z hz q=>hx (by rw [← mO (hl z (by simp [hz])) (hl y (by simp)) q]; exact hz)]
      unfold p5
      dsimp only
      rw [kY,hv]
    · refine ih (fun z hz=>hl z (by simp [hz])) hd hy _ ?_
      unfold p5
      dsimp only
      rw [fI _ _ (fun q=>hx (by rw [mO (hl x (by simp)) (hl y (by simp [hy])) q.symm]; exact hy))]
      exact hv
end
end Go.Proofs.Ytbalnnoofdkbaaa
namespace Go.Proofs.Ytbalnnoofdkbaaa
open Go Go.Bw
section
variable {n:Nat} {t:ai} {w:ag}
theorem zy (r:dZ t w) (tt:fD w) {h:Int} (hh:aX w.B h) {c:Int} (c0:0 ≤ c):((c != h) && jL w c h) = (U6 (bQ w) h).contains c:=by
  obtain ⟨ρ,f⟩:=ny r tt
  have hG:=(bA r.book h).2 hh
  unfold jL
  by_cases e:c = h
  · subst e
    have:(U6 (bQ w) c).contains c = false:=by rw [← Bool.not_eq_true,List.contains_iff_mem]; exact f.AV hG
    rw [this]; simp
  · have e1:(c != h) = true:=by simpa using e
    have e2:(c == h) = false:=by simpa using e
    rw [e1,e2,hh.2]
    cases hc:(U6 (bQ w) h).contains c with
    | false=>simp
    | true =>
      have:=(bA r.book c).1 (f.mH hG c (List.contains_iff_mem.1 hc)).1
      rw [this.2]; rfl
theorem Dm (hn:100 ≤ n) (r:dZ t w) (tt:fD w) {h:Int} (hh:aX w.B h) (s:Int) (hs:0 ≤ s∧s < 32) (v:ag) {ρ:Type} (F:ag→Option ρ) :
    dF (fun A6 (mF:Int) (mc:ag) =>
  cn (decide (mF < 8)) (
  gu (dB s 32) <|
  gu (dB mF 8) <|
  cl ((((w.R (Int.toNat s)).Cells (Int.toNat mF)) != 0) == true) (bS n w ((w.R (Int.toNat s)).Cells (Int.toNat mF)) h) default fun Bz =>
  cn (((((w.R (Int.toNat s)).Cells (Int.toNat mF)) != 0) && Bz)) (
  gu (dB s 32) <|
  gu (dB mF 8) <|
  lt ({ mc with R:=(dI mc.R (Int.toNat s) ({ (mc.R (Int.toNat s)) with Cells:=(dI ((mc.R (Int.toNat s)).Cells) (Int.toNat mF) 0) })) }:ag) fun Eg =>
  A6 (wr .i64 (mF + 1)) Eg) (
  A6 (wr .i64 (mF + 1)) mc)) (
  F mc)) n 0 v = F { v with R:=dI v.R s.toNat { v.R s.toNat with Cells:=yq (U6 (bQ w) h) (w.R s.toNat).Cells (v.R s.toNat).Cells } }:=by
  obtain ⟨ρ',f⟩:=ny r tt
  have hG:=(bA r.book h).2 hh
  have IJ:dB s 32 = true:=cD hs.1 (by omega)
  have key:∀(c:Int) (G:Bool→Option ρ),(cl ((c != 0) == true) (bS n w c h) default fun Bz=>G ((c != 0) && Bz)) = G ((U6 (bQ w) h).contains c):=fun c G=>by
    by_cases e:c = 0
    · subst e
      have:(U6 (bQ w) h).contains 0 = false:=by
        rw [← Bool.not_eq_true,List.contains_iff_mem]; exact fun q=>f.pos 0 (f.mH hG 0 q).1 rfl
      rw [this]; rfl
    · have e1:(c != 0) = true:=by simpa using e
      rw [oB (by rw [e1]; rfl) (ri (by omega) r tt c hh),e1,Bool.true_and]
  refine dR (fun (i:Int) (x:ag)=>∃k:Nat,i = k∧k ≤ 8∧x = { v with R:=dI v.R s.toNat { v.R s.toNat with Cells:=fun j=>if j < k∧(U6 (bQ w) h).contains ((w.R s.toNat).Cells j) = true then 0 else (v.R s.toNat).Cells j } }) (fun i _=>8 - i.toNat)
    (fun o=>o = F { v with R:=dI v.R s.toNat { v.R s.toNat with Cells:=yq (U6 (bQ w) h) (w.R s.toNat).Cells (v.R s.toNat).Cells } }) ?_ n 0 v ⟨0,rfl,by omega,?_⟩ (by omega)
  · rintro kk x y ⟨k,rfl,hk,rfl⟩ ih
    by_cases q:k < 8
    · have DX:dB (k:Int) 8 = true:=cD (by omega) (by omega)
      have st:∀j,j ≠ k→(if j < k + 1∧(U6 (bQ w) h).contains ((w.R s.toNat).Cells j) = true then (0:Int) else (v.R s.toNat).Cells j) = if j < k∧(U6 (bQ w) h).contains ((w.R s.toNat).Cells j) = true then 0 else (v.R s.toNat).Cells j:=fun j hj=>by
        by_cases h1:(U6 (bQ w) h).contains ((w.R s.toNat).Cells j) = true
        · by_cases h2:j < k
          · rw [if_pos ⟨by omega,h1⟩,if_pos ⟨h2,h1⟩]
          · rw [if_neg (fun h=>by omega),if_neg (fun h=>h2 h.1)]
        · rw [if_neg (fun h=>h1 h.2),if_neg (fun h=>h1 h.2)]
      rw [aJ (decide_eq_true (by omega)),aF IJ,aF DX,Int.toNat_natCast,cj (x:=(k:Int) + 1) (by omega) (by omega)]
      refine (key _ (fun b=>cn b _ _)).trans ?_
      cases hc:(U6 (bQ w) h).contains ((w.R s.toNat).Cells k) with
      | true =>
        rw [aJ rfl,aF IJ,aF DX,lt_eq]
        refine ih _ _ ⟨k + 1,by omega,by omega,?_⟩ (by omega)
        dsimp only
        rw [qY,kY]
        congr 2
        congr 1
        funext j
        rw [bG]
        by_cases e:j = k
        · subst e; rw [if_pos rfl,if_pos ⟨by omega,hc⟩]
        · rw [if_neg e,st j e]
      | false =>
        rw [av rfl]
        refine ih _ _ ⟨k + 1,by omega,by omega,?_⟩ (by omega)
        dsimp only
        congr 2
        congr 1
        funext j
        by_cases e:j = k
        · subst e; rw [if_neg (fun h=>by rw [hc] at h; exact absurd h.2 (by decide)),if_neg (fun h=>by rw [hc] at h; exact absurd h.2 (by decide))]
        · rw [st j e]
    · rw [av (decide_eq_false (by omega))]
      obtain rfl:k = 8:=by omega
      rfl
  · have:(fun j=>if j < 0∧(U6 (bQ w) h).contains ((w.R s.toNat).Cells j) = true then (0:Int) else (v.R s.toNat).Cells j) = (v.R s.toNat).Cells:=by funext j; simp
    rw [this]
    obtain ⟨vb,vr⟩:=v
    congr 1
    funext j
    rw [bG]
    split
    · rename_i e; rw [e]
    · rfl
theorem Gh (hn:200 ≤ n) {t0:ai} {w0:ag} (r0:dZ t0 w0) (Kg:fD w0) (i0:lW w0) {h:Int} (hh:aX w0.B h) (fin:ai→Option (ai × Int)) (l:List Int):∀{t:ai} {w:ag},dZ t w→fD w→lW w→w.B = w0.B→(∀x ∈ l,aX w.B x∧w.R (bt x) = w0.R (bt x))→l.Nodup →
    ∃t',eD (fun (JN:Int) H7 (dA:ai) =>
  lt (JN:Int) fun kX =>
  bd (cM n dA kX) fun nc =>
  dF (fun A5 (kW:Int) (mb:bj) =>
  cn (decide (kW < 8)) (
  gu (dB kW 8) <|
  bd (fx n (nc.1.Cells (Int.toNat kW)) h t0) fun uZ =>
  cn (uZ) (
  gu (dB kW 8) <|
  lt ({ mb with Cells:=(dI mb.Cells (Int.toNat kW) 0) }:bj) fun vJ =>
  A5 (wr .i64 (kW + 1)) vJ) (
  A5 (wr .i64 (kW + 1)) mb)) (
  bd (cV n dA kX mb) fun By =>
  H7 By.1)) n 0 nc.1) fin l t = fin t'∧dZ t' (l.foldl (p5 w0 (U6 (bQ w0) h)) w)∧fD (l.foldl (p5 w0 (U6 (bQ w0) h)) w)∧lW (l.foldl (p5 w0 (U6 (bQ w0) h)) w):=by
  induction l with
  | nil=>intro t w r tt i _ _ _; exact ⟨t,rfl,r,tt,i⟩
  | cons x l ih =>
    intro t w r tt i hb hl hd
    obtain ⟨hx,hd⟩:=List.nodup_cons.1 hd
    obtain ⟨hg,hr⟩:=hl x (by simp)
    obtain ⟨l1,l2⟩:=cJ hg
    have hR:=r.AY _ l1 l2
    have hq:=i x hg
    have hc:∀k,k < 8→fx n ((kr t w x).Cells k) h t0 = some ((U6 (bQ w0) h).contains ((kr t w x).Cells k)):=fun k hk=>by
      have e1:(kr t w x).Cells k = (w.R (bt x)).Cells k:=hR.c k hk
      have e2:=hR.c0 k hk
      rw [e1]
      unfold fx
      rw [cN (oy (by omega) r0 Kg e2.1 (by omega) hh.1 (ez hh.2)),← zy r0 Kg hh e2.1]
      cases h3:((w.R (bt x)).Cells k != h) <;> rfl
    have hin:=fun F:bj→Option (ai × Int)=>Gj (fun v:bj=>v.Cells) (fun v k=>{ v with Cells:=dI v.Cells k 0 }) (kr t w x) (kr t w x).Cells (fun c=>fx n c h t0) (U6 (bQ w0) h) hc (fun g=>{ kr t w x with Cells:=g }) rfl (fun _ _=>rfl) F (m:=n) (by omega)
    have hp:sd { kr t w x with Cells:=yq (U6 (bQ w0) h) (kr t w x).Cells (kr t w x).Cells } { w.R (bt x) with Cells:=yq (U6 (bQ w0) h) (w0.R (bt x)).Cells (w.R (bt x)).Cells }:=by
      refine ⟨hR.q,hR.e,hR.n,hR.r,fun k hk=>?_,fun k hk=>?_⟩
      · show (if k < 8∧(U6 (bQ w0) h).contains ((kr t w x).Cells k) = true then 0 else (kr t w x).Cells k) = if k < 8∧(U6 (bQ w0) h).contains ((w0.R (bt x)).Cells k) = true then 0 else (w.R (bt x)).Cells k
        have e1:(kr t w x).Cells k = (w.R (bt x)).Cells k:=hR.c k hk
        rw [e1,← hr]
      · have:=hR.c0 k hk
        show 0 ≤ (if k < 8∧(U6 (bQ w0) h).contains ((w0.R (bt x)).Cells k) = true then 0 else (w.R (bt x)).Cells k)∧(if k < 8∧(U6 (bQ w0) h).contains ((w0.R (bt x)).Cells k) = true then 0 else (w.R (bt x)).Cells k) ≤ 4294967295
        split
        · decide
        · exact this
    obtain ⟨t1,s1,s2,s3⟩:=Et (n:=n) (by omega) r tt hg hp hq.1 (hq.2 n (by omega))
    have et:tQ w x { w.R (bt x) with Cells:=yq (U6 (bQ w0) h) (w0.R (bt x)).Cells (w.R (bt x)).Cells } = p5 w0 (U6 (bQ w0) h) w x:=rfl
    rw [et] at s2 s3
    have si:lW (p5 w0 (U6 (bQ w0) h) w x):=i.set hg (x:={ w.R (bt x) with Cells:=yq (U6 (bQ w0) h) (w0.R (bt x)).Cells (w.R (bt x)).Cells }) rfl rfl
    have nY:∀y ∈ l,aX (p5 w0 (U6 (bQ w0) h) w x).B y∧(p5 w0 (U6 (bQ w0) h) w x).R (bt y) = w0.R (bt y):=fun y hy=>by
      obtain ⟨y1,y2⟩:=hl y (by simp [hy])
      refine ⟨y1,?_⟩
      rw [← y2]
      unfold p5
      exact fI _ _ (fun q=>hx (by rw [mO hg y1 q.symm]; exact hy))
    obtain ⟨t',q1,q2,q3,q4⟩:=ih s2 s3 si hb nY hd
    refine ⟨t',?_,q2,q3,q4⟩
    refine Eq.trans ?_ q1
    show bd (cM n t x) _ = _
    rw [ax (oz r hg.1 (ez hg.2)),if_pos hg.2]
    refine (hin _).trans ?_
    rw [ax s1]
theorem Gg (hn:200 ≤ n) (r:dZ t w) (tt:fD w) {h:Int} (hh:aX w.B h) {l:List Int} (hl:∀x ∈ l,aX w.B x) (hlen:l.length ≤ 40) {ρ:Type} (F:ag→Option ρ) :
    dF (fun H6 (lX:Int) (dA:ag) =>
  cn (decide (lX < (l.length:Int))) (
  gu (dB lX l.length) <|
  bd (bE n w.B (l.getD (Int.toNat lX) default)) fun kX =>
  dF (fun A6 (mF:Int) (mc:ag) =>
  cn (decide (mF < 8)) (
  gu (dB kX 32) <|
  gu (dB mF 8) <|
  cl ((((w.R (Int.toNat kX)).Cells (Int.toNat mF)) != 0) == true) (bS n w ((w.R (Int.toNat kX)).Cells (Int.toNat mF)) h) default fun Bz =>
  cn (((((w.R (Int.toNat kX)).Cells (Int.toNat mF)) != 0) && Bz)) (
  gu (dB kX 32) <|
  gu (dB mF 8) <|
  lt ({ mc with R:=(dI mc.R (Int.toNat kX) ({ (mc.R (Int.toNat kX)) with Cells:=(dI ((mc.R (Int.toNat kX)).Cells) (Int.toNat mF) 0) })) }:ag) fun Eg =>
  A6 (wr .i64 (mF + 1)) Eg) (
  A6 (wr .i64 (mF + 1)) mc)) (
  H6 (wr .i64 (lX + 1)) mc)) n 0 dA) (
  F dA)) n 0 w = F (jQ w (U6 (bQ w) h) l):=by
  refine dR (fun (i:Int) (v:ag)=>∃k:Nat,i = k∧k ≤ l.length∧v = jQ w (U6 (bQ w) h) (l.take k)) (fun i _=>l.length - i.toNat) (fun o=>o = F (jQ w (U6 (bQ w) h) l)) ?_ n 0 w ⟨0,rfl,by omega,rfl⟩ (by omega)
  rintro kk x v ⟨k,rfl,hk,rfl⟩ ih
  by_cases c:k < l.length
  · have hx:=hl _ (gw (l:=l) (i:=k) c)
    rw [aJ (decide_eq_true (by omega)),aF (cD (by omega) (by omega)),Int.toNat_natCast,ax (cO (by omega) r.book hx.1),hx.2,if_pos rfl,Dm (by omega) r tt hh _ (by have:=cW (l.getD k default); omega),cj (by omega) (by omega)]
    exact ih _ _ ⟨k + 1,by omega,by omega,by rw [List.take_succ_eq_append_getElem c,← gV c,jQ,jQ,List.foldl_append]; rfl⟩ (by omega)
  · rw [av (decide_eq_false (by omega)),List.take_of_length_le (by omega)]
def kS (w:ag) (h:Int):ag:=if aR w.B h = true then nP (jQ w (U6 (bQ w) h) (V6 (Gw w) (bQ w) h)) h 0 else w
theorem JU (hn:200 ≤ n) (r:dZ t w) (tt:fD w) (i:lW w) {h:Int} (h0:0 ≤ h) (h1:h < 4294967296) :
    ∃t',jB n t h = some (t',if aR w.B h = true then 0 else 4)∧qx n w h = some (kS w h,if aR w.B h = true then 0 else 4)∧dZ t' (kS w h)∧fD (kS w h)∧lW (kS w h):=by
  unfold jB qx kS
  rw [ax (iH r.book h0 h1),ax (bR (by omega) r h0)]
  cases hg:aR w.B h with
  | false =>
    simp only [Bool.false_eq_true,if_false]
    exact ⟨t,rfl,rfl,r,tt,i⟩
  | true =>
    rw [if_pos rfl,if_pos rfl]
    have hh:aX w.B h:=⟨h0,hg⟩
    obtain ⟨ρ,f⟩:=ny r tt
    have hm:=bA r.book
    have hG:=(hm h).2 hh
    have hu:fP w h = V6 (Gw w) (bQ w) h:=by unfold fP; rw [if_pos hg]
    have hl:∀x ∈ V6 (Gw w) (bQ w) h,aX w.B x:=fun x hx=>(hm x).1 ((f.jt hG x).1 hx).1
    rw [av (b:=!true) rfl,av (b:=!true) rfl]
    unfold eM
    rw [ax rfl,ax (oO (by omega) r tt hh),ax (rh (by omega) r tt h0),hu]
    obtain ⟨t1,a1,a2,a3,a4⟩:=Gh (n:=n) hn r tt i hh (fun dA=>bd (cP n dA h 0) fun yY=>some (yY.1,yY.2)) (V6 (Gw w) (bQ w) h) r tt i rfl (fun x hx=>⟨hl x hx,rfl⟩) (f.BD hG)
    have hb:(jQ w (U6 (bQ w) h) (V6 (Gw w) (bQ w) h)).B = w.B:=nB _ _ _ _
    have L6:aX (jQ w (U6 (bQ w) h) (V6 (Gw w) (bQ w) h)).B h:=by rw [hb]; exact hh
    obtain ⟨t2,b1,b2,b3⟩:=xm (n:=n) (by omega) a2 a3 L6 (a:=0) (.inl rfl) (fun q=>q.1 rfl)
    refine ⟨t2,?_,?_,b2,b3,a4.up h 0⟩
    · refine a1.trans ?_
      rw [ax b1]
    · refine (Gg (n:=n) hn r tt hh hl (by have:=f.ql hG; omega) _).trans ?_
      generalize jQ w (U6 (bQ w) h) (V6 (Gw w) (bQ w) h) = v
      rw [ax (cO (by omega) r.book h0),hg,if_pos rfl,aF (fc h)]
      rfl
end
end Go.Proofs.Ytbalnnoofdkbaaa
namespace Go.Proofs.Ytbalnnoofdkbaaa
open Go Go.Bw
section
variable {G:List Int} {up up' : Int→Int} {ρ ρ' : Int→Nat}
theorem Fo.F3 (f:Fo G up ρ) (f' : Fo G up' ρ') {h a:Int} (y4:∀x ∈ G,up' x = if x = h then a else up x) (ha:a ≠ 0) (h0:up h = 0):∀y ∈ G,U6 up' y = if y = h∨h ∈ U6 up y then U6 up y++(a::U6 up' a) else U6 up y:=by
  refine f.q7 _ fun y hy ih=>?_
  have hu:=y4 y hy
  by_cases e:y = h
  · subst e
    rw [if_pos rfl] at hu
    rw [if_pos (.inl rfl),f.u0 hy h0,f'.u1 hy (by rw [hu]; exact ha),hu]; rfl
  · rw [if_neg e] at hu
    by_cases e0:up y = 0
    · rw [f'.u0 hy (hu.trans e0),f.u0 hy e0,if_neg (fun q=>q.elim e (by simp))]
    · have hi:=ih e0
      rw [f'.u1 hy (by rw [hu]; exact e0),hu,hi,f.u1 hy e0]
      by_cases q:up y = h∨h ∈ U6 up (up y)
      · rw [if_pos q,if_pos (.inr (List.mem_cons.2 (q.imp Eq.symm _root_.id)))]; rfl
      · rw [if_neg q,if_neg (fun p=>p.elim e fun p=>q ((List.mem_cons.1 p).imp Eq.symm _root_.id))]
theorem Fo.JE (f:Fo G up ρ) (f' : Fo G up' ρ') {h a:Int} (y4:∀x ∈ G,up' x = if x = h then a else up x) (hh:h ∈ G) (h0:up h = 0) (hno:¬ (a = h∨h ∈ U6 up a)):∀x ∈ G,(x = h∨h ∈ U6 up x)→V6 G up' x = V6 G up x:=by
  refine f.Dk _ fun x hx ih hv=>?_
  have hk:ff G up' x = ff G up x:=by
    unfold ff
    refine List.filter_congr fun y hy=>?_
    rw [y4 y hy]
    by_cases e:y = h
    · subst e
      have e1:(a == x) = false:=by
        simp only [beq_eq_false_iff_ne,ne_eq]
        exact fun q=>hno (by rw [q]; exact hv)
      have e2:(up y == x) = false:=by
        rw [h0]; simp only [beq_eq_false_iff_ne,ne_eq]; exact fun q=>f.pos x hx q.symm
      rw [if_pos rfl,e1,e2]
    · rw [if_neg e]
  rw [f.qX hx,f'.qX hx,hk]
  congr 1
  refine mw fun y hy=>?_
  obtain ⟨y1,y2⟩:=fT.1 hy
  refine ih y y1 y2 (.inr ?_)
  rw [f.u1 y1 (by rw [y2]; exact f.pos x hx),y2]
  exact List.mem_cons.2 (hv.imp Eq.symm _root_.id)
end
section
variable {n:Nat} {t:ai} {w:ag}
theorem rO (r:dZ t w) (tt:fD w) (x:Int):0 ≤ fh w x∧fh w x ≤ 33:=by
  unfold fh
  by_cases hg:aR w.B x = true
  · rw [if_pos hg]
    by_cases h0:0 ≤ x
    · obtain ⟨ρ,f⟩:=ny r tt
      have:=f.wY ((bA r.book x).2 ⟨h0,hg⟩); omega
    · have h3:=(eG.1 hg).2.2
      have h4:=r.book.gO (bt x) (iX x)
      unfold bt at h4; omega
  · rw [if_neg hg]; omega
theorem Ep (hn:200 ≤ n) (r:dZ t w) (tt:fD w) {h:Int} (hh:aX w.B h):∃m,iI n t h = some m∧0 ≤ m∧m ≤ 34∧∀k,0 ≤ k→(k < m↔∃y ∈ V6 (Gw w) (bQ w) h,k < fh w y - fh w h + 1):=by
  obtain ⟨ρ,f⟩:=ny r tt
  have hm:=bA r.book
  have hG:=(hm h).2 hh
  have hd:=fun x=>rO r tt x
  unfold iI eM
  rw [ax rfl,ax (oO (by omega) r tt hh)]
  have hl:∀x ∈ V6 (Gw w) (bQ w) h,dm n t x = some (fh w x)∧0 ≤ fh w x∧fh w x ≤ 1000:=fun x hx=>by
    have hx:=(hm x).1 ((f.jt hG x).1 hx).1
    have:=hd x
    exact ⟨rN (by omega) r tt hx.1 (ez hx.2),by omega,by omega⟩
  have key:=zM (fun x=>dm n t x) (dm n t h) (fh w) (fh w h) (by have:=hd h; omega) (rN (by omega) r tt hh.1 (ez hh.2)) (V6 (Gw w) (bQ w) h) hl 0 (by omega)
  have hf:=ye (fh w) (fh w h) (V6 (Gw w) (bQ w) h) 0
  have Nc:1 ≤ fh w h:=by unfold fh; rw [if_pos hh.2]; omega
  refine ⟨_,key,?_,?_,fun k hk=>(hf k).trans ⟨fun q=>q.resolve_left (by omega), .inr⟩⟩
  · have:=(hf (-1)).2 (.inl (by omega)); omega
  · rcases Int.lt_or_le 34 ((V6 (Gw w) (bQ w) h).foldl (fun m y=>max m (fh w y - fh w h + 1)) 0) with q | q
    · rcases (hf 34).1 q with q | ⟨y,_,q⟩
      · omega
      · have:=hd y; omega
    · exact q
theorem HR (d:Int→Option Int) (v:Int→Int) (l:List Int) (hd:∀x ∈ l,d x = some (v x)) (hlen:l.length ≤ 40) {ρ:Type} (A B:Option ρ) (hn:100 ≤ n) :
    ((∃y ∈ l,6 < v y)→dk (fun EP (jW:Int) =>
  cn (decide (jW < (l.length:Int))) (
  gu (dB jW l.length) <|
  bd (d (l.getD (Int.toNat jW) default)) fun nc =>
  cn (decide (6 < nc)) A (
  EP (wr .i64 (jW + 1)))) B) n 0 = A)∧((∀y ∈ l,v y ≤ 6)→dk (fun EP (jW:Int) =>
  cn (decide (jW < (l.length:Int))) (
  gu (dB jW l.length) <|
  bd (d (l.getD (Int.toNat jW) default)) fun nc =>
  cn (decide (6 < nc)) A (
  EP (wr .i64 (jW + 1)))) B) n 0 = B):=by
  refine gi (fun (i:Int)=>∃k:Nat,i = k∧k ≤ l.length∧∀y ∈ l.take k,v y ≤ 6) (fun i=>l.length - i.toNat) (fun o=>((∃y ∈ l,6 < v y)→o = A)∧((∀y ∈ l,v y ≤ 6)→o = B)) ?_ n 0 ⟨0,rfl,by omega,by simp⟩ (by omega)
  rintro kk x ⟨k,rfl,hk,hp⟩ ih
  by_cases c:k < l.length
  · have hm:l.getD k default ∈ l:=gw c
    rw [aJ (decide_eq_true (by omega)),aF (cD (by omega) (by omega)),Int.toNat_natCast,ax (hd _ hm)]
    by_cases q:6 < v (l.getD k default)
    · rw [aJ (decide_eq_true q)]
      exact ⟨fun _=>rfl,fun h=>by have:=h _ hm; omega⟩
    · rw [av (decide_eq_false q),cj (by omega) (by omega)]
      refine ih _ ⟨k + 1,by omega,by omega,fun y hy=>?_⟩ (by omega)
      rw [List.take_succ_eq_append_getElem c,List.mem_append,List.mem_singleton] at hy
      rcases hy with hy | hy
      · exact hp y hy
      · rw [hy,← gV c]; omega
  · rw [av (decide_eq_false (by omega))]
    rw [List.take_of_length_le (by omega)] at hp
    exact ⟨fun ⟨y,hy,q⟩=>by have:=hp y hy; omega,fun _=>rfl⟩
structure K2 (w:ag) (h a:Int) (w' : ag) (e:Int):Prop where
  no:e ≠ 0→w' = w
  is:e = 0→w' = nP w h a∧aX w.B h∧aX w.B a∧bQ w h = 0∧¬ (a = h∨h ∈ U6 (bQ w) a)∧∀y ∈ V6 (Gw w) (bQ w) h,fh w' y ≤ 6
theorem Da (hn:200 ≤ n) (r:dZ t w) (tt:fD w) (i:lW w) {h a:Int} (h0:0 ≤ h) (h1:h < 4294967296) (a0:0 ≤ a) (a1:a < 4294967296) :
    ∃t' w' e,gX n t h a = some (t',e)∧nT n w h a = some (w',e)∧dZ t' w'∧fD w'∧lW w'∧K2 w h a w' e:=by
  unfold gX nT
  rw [ax (iH r.book h0 h1),ax (bR (by omega) r h0),cN (iH r.book a0 a1),cN (bR (by omega) r a0)]
  cases hg:aR w.B h with
  | false=>exact ⟨t,w,4,rfl,rfl,r,tt,i,⟨fun _=>rfl,fun h=>absurd h (by decide)⟩⟩
  | true =>
  cases hk:aR w.B a with
  | false=>exact ⟨t,w,4,rfl,rfl,r,tt,i,⟨fun _=>rfl,fun h=>absurd h (by decide)⟩⟩
  | true =>
  have hh:aX w.B h:=⟨h0,hg⟩
  have ha:aX w.B a:=⟨a0,hk⟩
  obtain ⟨ρ,f⟩:=ny r tt
  have hm:=bA r.book
  have hG:=(hm h).2 hh
  have aG:=(hm a).2 ha
  have LW:vh w h = tG (bQ w) h:=by unfold vh; rw [if_pos hg]
  have Kt:jL w h a = ((h == a) || (U6 (bQ w) a).contains h):=by unfold jL; rw [hg,hk]; rfl
  rw [av (by rfl),av (by rfl),ax (BS (by omega) r tt h0 h1),ax (tW (by omega) r hh),cN (oy (by omega) r tt h0 h1 a0 a1),cN (zo (by omega) r tt h0 a0),LW]
  by_cases hu:bQ w h = 0
  · have e1:(tG (bQ w) h != h) = false:=by simpa using (f.xe hG).2 hu
    have e2:(bQ w h != 0) = false:=by simpa using hu
    rw [e1,e2]
    by_cases ho:a = h∨h ∈ U6 (bQ w) a
    · have e3:jL w h a = true:=by
        rw [Kt,Bool.or_eq_true,beq_iff_eq,List.contains_iff_mem]; exact ho.imp Eq.symm _root_.id
      rw [e3]
      exact ⟨t,w,12,rfl,rfl,r,tt,i,⟨fun _=>rfl,fun h=>absurd h (by decide)⟩⟩
    · have e3:jL w h a = false:=by
        rw [Kt,Bool.or_eq_false_iff,beq_eq_false_iff_ne,← Bool.not_eq_true,List.contains_iff_mem]
        exact ⟨fun q=>ho (.inl q.symm),fun q=>ho (.inr q)⟩
      have an:a ≠ 0:=f.pos a aG
      obtain ⟨t',b1,b2,b3⟩:=xm (n:=n) (by omega) r tt hh (.inr ha) (fun q=>ho q.2)
      obtain ⟨ρ',f'⟩:=ny b2 b3
      have y4:∀x ∈ Gw w,bQ (nP w h a) x = if x = h then a else bQ w x:=fun x hx=>tM hh ((hm x).1 hx)
      have f' : Fo (Gw w) (bQ (nP w h a)) ρ':=f'
      have gu:=f.F3 f' y4 an hu
      have gv:=f.JE f' y4 hG hu ho h hG (.inl rfl)
      have ua:U6 (bQ (nP w h a)) a = U6 (bQ w) a:=by rw [gu a aG,if_neg ho]
      have Ir:fP (nP w h a) h = V6 (Gw w) (bQ w) h:=by
        unfold fP
        rw [if_pos (show aR (nP w h a).B h = true from hg)]; exact gv
      have CP:∀y ∈ V6 (Gw w) (bQ w) h,fh (nP w h a) y = fh w y + fh w a:=fun y hy=>by
        obtain ⟨y1,y2⟩:=(f.jt hG y).1 hy
        have yg:aR w.B y = true:=((hm y).1 y1).2
        unfold fh
        rw [if_pos (show aR (nP w h a).B y = true from yg),if_pos yg,if_pos hk,gu y y1,if_pos y2,List.length_append,List.length_cons,ua]
        omega
      obtain ⟨m,m1,m2,m3,m4⟩:=Ep (n:=n) hn r tt hh
      have dh:fh w h = 1:=by unfold fh; rw [if_pos hg,f.u0 hG hu]; rfl
      have da:=rO r tt a
      have d1:wr .i64 (fh w a + m) = fh w a + m:=cj (by omega) (by omega)
      rw [e3,av (by rfl),av (by rfl),ax (rN (by omega) r tt a0 a1),ax m1,d1,ax (qt (by omega) r tt hh (.inr ha) (fun q=>ho q.2))]
      dsimp only
      rw [ax (rh hn b2 b3 h0),Ir]
      obtain ⟨q1,q2⟩:=HR (n:=n) (fun x=>ef n (nP w h a) x) (fh (nP w h a)) (V6 (Gw w) (bQ w) h) (fun x hx=>qv hn b2 b3 ((hm x).1 ((f.jt hG x).1 hx).1).1) (by have:=f.ql hG; omega) (some (w,(8:Int))) (some (nP w h a,(0:Int))) (by omega)
      by_cases hq:∃y ∈ V6 (Gw w) (bQ w) h,6 < fh (nP w h a) y
      · have:6 < fh w a + m:=by
          obtain ⟨y,hy,hq⟩:=hq
          rw [CP y hy] at hq
          rcases Int.lt_or_le 6 (fh w a) with h6 | h6
          · omega
          · have:=(m4 (6 - fh w a) (by omega)).2 ⟨y,hy,by omega⟩
            omega
        rw [aJ (decide_eq_true this)]
        exact ⟨t,w,8,rfl,q1 hq,r,tt,i,⟨fun _=>rfl,fun h=>absurd h (by decide)⟩⟩
      · have j9:∀y ∈ V6 (Gw w) (bQ w) h,fh (nP w h a) y ≤ 6:=fun y hy=>Int.not_lt.1 fun q=>hq ⟨y,hy,q⟩
        have hV:h ∈ V6 (Gw w) (bQ w) h:=(f.jt hG h).2 ⟨hG, .inl rfl⟩
        have:¬ 6 < fh w a + m:=fun q=>by
          have h6:=j9 h hV
          rw [CP h hV] at h6
          obtain ⟨y,hy,hq⟩:=(m4 (6 - fh w a) (by omega)).1 (by omega)
          have:=j9 y hy
          rw [CP y hy] at this
          omega
        rw [av (decide_eq_false this),ax b1]
        exact ⟨t',nP w h a,0,rfl,q2 j9,b2,b3,i.up h a,⟨fun h=>absurd rfl h,fun _=>⟨rfl,hh,ha,hu,ho,j9⟩⟩⟩
  · have e1:(tG (bQ w) h != h) = true:=by simpa using fun q=>hu ((f.xe hG).1 q)
    have e2:(bQ w h != 0) = true:=by simpa using hu
    rw [e1,e2]
    exact ⟨t,w,12,rfl,rfl,r,tt,i,⟨fun _=>rfl,fun h=>absurd h (by decide)⟩⟩
structure KX (w:ag) (a q:Int) (w' : ag) (m e:Int):Prop where
  no:e ≠ 0→w' = w
  is:e = 0→∃f,m8 w.B f∧f < 32∧(a = 0∨aX w.B a)∧(0 ≤ q∧q ≤ 64)∧fh w a ≤ 5∧m = fM f (w.B.gD f)∧w' = ⟨gn w.B f,dI w.R f ⟨a,q,cq,fun _=>0⟩⟩
theorem HP {n:Nat} (hn:110 ≤ n):dc n cq = some true:=by
  obtain ⟨b,b1,b2⟩:=qu (n:=n) hn (x:=cq) (by show (0:Nat) ≤ 80; omega) (fun y hy=>by cases hy)
  rw [b1,b2.2 ⟨pR.nil,by show (0:Int) ≤ 0; decide,by show (0:Int) ≤ 32 * 0; decide⟩]
theorem HM (hn:200 ≤ n) (r:dZ t w) (tt:fD w) (i:lW w) {a q:Int} (a0:0 ≤ a) (a1:a < 4294967296) :
    ∃t' w' m e,fW n t a q = some (t',m,e)∧qw n w a q = some (w',m,e)∧0 ≤ m∧m < 4294967296∧dZ t' w'∧fD w'∧lW w'∧KX w a q w' m e:=by
  obtain ⟨t',w',m,e,e1,e2,m0,m1,k⟩:=HN (n:=n) (by omega) r tt (q:=q) a0 a1
  have hd:=rO r tt a
  unfold fW qw
  rw [ax e1,cN (rN (by omega) r tt a0 a1),cN (bR (by omega) r a0),cN (qv hn r tt a0),ax e2]
  dsimp only
  by_cases hok:(a = 0∨aX w.B a)∧0 ≤ q∧q ≤ 64
  · obtain ⟨ha,hq⟩:=hok
    obtain ⟨f,hf⟩:=ta w.B
    have hx:=zq (n:=n) (by omega) r ha hq hf
    rw [e2] at hx
    have c1:((((a == 0) || (bif (a == 0) == false then aR w.B a else default)) && decide (0 ≤ q)) && decide (q ≤ 64)) = true:=by
      have:((a == 0) || (bif (a == 0) == false then aR w.B a else default)) = true:=by
        rcases ha with e | e
        · subst e; rfl
        · rw [e.2]; cases a == 0 <;> rfl
      rw [this,decide_eq_true hq.1,decide_eq_true hq.2]; rfl
    have c2:((e == 0) || (e == 7)) = true:=by
      have:=Option.some.inj hx
      by_cases hl:f < 32
      · rw [if_pos hl] at this; rw [(Prod.mk.inj (Prod.mk.inj this).2).2]; rfl
      · rw [if_neg hl] at this; rw [(Prod.mk.inj (Prod.mk.inj this).2).2]; rfl
    rw [c1,c2]
    by_cases h6:6 ≤ fh w a
    · have h5:(5:Int) < fh w a:=by omega
      rw [aJ (by simpa using h6),aJ (by simpa using h5)]
      exact ⟨t,w,0,8,rfl,rfl,by decide,by decide,r,tt,i,⟨fun _=>rfl,fun h=>absurd h (by decide)⟩⟩
    · have h5:¬ (5:Int) < fh w a:=by omega
      rw [av (by simpa using h6),av (by simpa using h5)]
      refine ⟨t',w',m,e,rfl,rfl,m0,m1,k.rt,k.tt,?_,?_⟩
      · have:=Option.some.inj hx
        by_cases hl:f < 32
        · rw [if_pos hl] at this
          obtain ⟨rfl,h2⟩:=Prod.mk.inj this
          intro g xZ
          dsimp only
          rw [bG]
          split
          · exact ⟨hq,fun n hn=>HP hn⟩
          · rename_i hne
            refine i g (((gJ r.book hf hl g).1 xZ).resolve_right fun e=>?_)
            have hr:=r.book.gO f hl
            obtain ⟨q1,q2,q3,q4,q5⟩:=kA (i:=f) (g:=w.B.gD f) (by omega) (by omega) hr.1 hr.2
            exact hne (by rw [e]; unfold bt; rw [q2]; omega)
        · rw [if_neg hl] at this
          rw [(Prod.mk.inj this).1]; exact i
      · have:=Option.some.inj hx
        by_cases hl:f < 32
        · rw [if_pos hl] at this
          obtain ⟨h1,h2⟩:=Prod.mk.inj this
          obtain ⟨h2,h3⟩:=Prod.mk.inj h2
          exact ⟨fun h=>absurd h3 h,fun _=>⟨f,hf,hl,ha,hq,by omega,h2,h1⟩⟩
        · rw [if_neg hl] at this
          obtain ⟨h1,h2⟩:=Prod.mk.inj this
          obtain ⟨h2,h3⟩:=Prod.mk.inj h2
          exact ⟨fun _=>h1,fun h=>absurd (h3.symm.trans h) (by decide)⟩
  · have hw:w' = w∧e ≠ 0∧e ≠ 7:=by
      unfold cX at e2
      rw [cN (bR (by omega) r a0),iy] at e2
      cases hx:xq w.B a with
      | false =>
        rw [hx,aJ (b:=!false) rfl] at e2
        obtain ⟨h1,h2⟩:=Prod.mk.inj (Option.some.inj e2)
        exact ⟨h1.symm,by rw [← (Prod.mk.inj h2).2]; decide,by rw [← (Prod.mk.inj h2).2]; decide⟩
      | true =>
        have hq:¬ (0 ≤ q∧q ≤ 64):=fun h=>hok ⟨tY a0 hx,h⟩
        rw [hx,av (b:=!true) rfl,aJ (by simp; omega)] at e2
        obtain ⟨h1,h2⟩:=Prod.mk.inj (Option.some.inj e2)
        exact ⟨h1.symm,by rw [← (Prod.mk.inj h2).2]; decide,by rw [← (Prod.mk.inj h2).2]; decide⟩
    obtain ⟨rfl,n0,n7⟩:=hw
    have c1:((((a == 0) || (bif (a == 0) == false then aR w'.B a else default)) && decide (0 ≤ q)) && decide (q ≤ 64)) = false:=by
      by_cases hq:0 ≤ q∧q ≤ 64
      · have ha:¬ (a = 0∨aX w'.B a):=fun h=>hok ⟨h,hq⟩
        have e1:(a == 0) = false:=by simpa using fun h=>ha (.inl h)
        have e2:aR w'.B a = false:=by
          cases h:aR w'.B a with
          | false=>rfl
          | true=>exact absurd (.inr ⟨a0,h⟩) ha
        rw [e1,e2]; rfl
      · have:(decide (0 ≤ q) && decide (q ≤ 64)) = false:=by rw [Bool.and_eq_false_iff,decide_eq_false_iff_not,decide_eq_false_iff_not]; omega
        rw [Bool.and_assoc,this,Bool.and_false]
    have c2:((e == 0) || (e == 7)) = false:=by rw [Bool.or_eq_false_iff,beq_eq_false_iff_ne,beq_eq_false_iff_ne]; exact ⟨n0,n7⟩
    rw [c1,c2,av (by rfl),av (by rfl)]
    exact ⟨t',w',m,e,rfl,rfl,m0,m1,k.rt,k.tt,i,⟨fun _=>rfl,fun h=>absurd h n0⟩⟩
end
end Go.Proofs.Ytbalnnoofdkbaaa
namespace Go.Proofs.Ytbalnnoofdkbaaa
open Go Go.Bw
section
variable {n:Nat} {t:ai} {w:ag}
theorem Gk (hn:200 ≤ n) (r:dZ t w) (tt:fD w) (i:lW w) {h z:Int} (hh:aX w.B h) (z0:0 ≤ z) (z1:z < 4294967296) {k:Nat} (hk:k < 8) :
    ∃t',cV n t h { kr t w h with Cells:=dI (kr t w h).Cells k z } = some (t',0)∧fB n w h { w.R (bt h) with Cells:=dI (w.R (bt h)).Cells k z } = some (tQ w h { w.R (bt h) with Cells:=dI (w.R (bt h)).Cells k z },0) ∧
      dZ t' (tQ w h { w.R (bt h) with Cells:=dI (w.R (bt h)).Cells k z })∧fD (tQ w h { w.R (bt h) with Cells:=dI (w.R (bt h)).Cells k z })∧lW (tQ w h { w.R (bt h) with Cells:=dI (w.R (bt h)).Cells k z }):=by
  obtain ⟨l1,l2⟩:=cJ hh
  have hR:=r.AY _ l1 l2
  have hq:=i h hh
  have hp:sd { kr t w h with Cells:=dI (kr t w h).Cells k z } { w.R (bt h) with Cells:=dI (w.R (bt h)).Cells k z }:=by
    refine ⟨hR.q,hR.e,hR.n,hR.r,fun j hj=>?_,fun j hj=>?_⟩
    · dsimp only
      rw [bG,bG]
      split
      · rfl
      · exact hR.c j hj
    · dsimp only
      rw [bG]
      split
      · omega
      · exact hR.c0 j hj
  obtain ⟨t1,s1,s2,s3⟩:=Et (n:=n) (by omega) r tt hh hp hq.1 (hq.2 n (by omega))
  exact ⟨t1,s1,vj (by omega) r hh hq.1 (hq.2 n (by omega)),s2,s3,i.set hh rfl rfl⟩
def Kc (a:gP):Prop:=(0 ≤ a.Do∧a.Do ≤ 255)∧(0 ≤ a.A∧a.A ≤ 4294967295)∧(0 ≤ a.B∧a.B ≤ 4294967295)∧(0 ≤ a.C∧a.C ≤ 4294967295)∧(-9223372036854775808 ≤ a.bq∧a.bq ≤ 9223372036854775807)
end
theorem xH:lW gy:=fun g hg=>by
  have:=(cJ hg).2
  exact (qC this).elim
theorem yo (w:ag) (h:Int):(kS w h).B = w.B:=by
  unfold kS
  split
  · generalize V6 (Gw w) (bQ w) h = l
    generalize U6 (bQ w) h = L
    exact nB w L l w
  · rfl
end Go.Proofs.Ytbalnnoofdkbaaa
namespace Go.Proofs.Ytbalnnoofdkbaaa
open Go Go.Bw
section
variable {G G' : List Int} {up up' : Int→Int} {ρ ρ' : Int→Nat}
theorem Fo.AU (f:Fo G up ρ) (f' : Fo G' up' ρ') (hs:∀x ∈ G',x ∈ G∧up' x = up x):∀y ∈ G',U6 up' y = U6 up y:=by
  refine f'.q7 _ fun y hy ih=>?_
  obtain ⟨h1,h2⟩:=hs y hy
  by_cases e:up y = 0
  · rw [f'.u0 hy (h2.trans e),f.u0 h1 e]
  · rw [f'.u1 hy (by rw [h2]; exact e),f.u1 h1 e,ih (by rw [h2]; exact e),h2]
end
section
variable {n:Nat} {t:ai} {w:ag}
theorem Bj (r:dZ t w) (tt:fD w) {G:List Int} (hG:Gw w = G):∃ρ,Fo G (bQ w) ρ:=by subst hG; exact ny r tt
theorem tO (r:dZ t w) (tt:fD w) (a:Int) {y:Int} (hy:aX w.B y) (hu:bQ w y ∈ fP w a):y ∈ fP w a:=by
  have hg:=(qZ r tt a).1 _ hu
  unfold fP at hu ⊢
  by_cases GZ:aR w.B a = true
  · rw [if_pos GZ] at hu ⊢
    obtain ⟨ρ,f⟩:=ny r tt
    have hm:=bA r.book
    have ha:0 ≤ a:=by
      rcases Int.lt_or_le a 0 with h | h
      · have h3:=(eG.1 GZ).2.2
        have h4:=r.book.gO (bt a) (iX a)
        unfold bt at h4; omega
      · exact h
    have aG:=(hm a).2 ⟨ha,GZ⟩
    have yG:=(hm y).2 hy
    have h0:bQ w y ≠ 0:=f.pos _ ((hm _).2 hg)
    refine (f.jt aG y).2 ⟨yG, .inr ?_⟩
    rw [f.u1 yG h0]
    rcases ((f.jt aG _).1 hu).2 with h | h
    · rw [h]; exact List.mem_cons_self
    · exact List.mem_cons_of_mem _ h
  · rw [if_neg GZ] at hu; cases hu
theorem Dl (h:Int) {x:Int} (hh:aX w.B h) (hx:aX w.B x):bQ (kS w h) x = if x = h then 0 else bQ w x:=by
  unfold kS
  rw [if_pos hh.2]
  generalize V6 (Gw w) (bQ w) h = l
  generalize U6 (bQ w) h = L
  have hb:(jQ w L l).B = w.B:=nB w L l w
  have hu:bQ (jQ w L l) x = bQ w x:=Af w L l x w
  generalize jQ w L l = v at hb hu ⊢
  rw [tM (by rw [hb]; exact hh) (by rw [hb]; exact hx),hu]
theorem wq (r:dZ t w) (tt:fD w) {h y:Int} (hh:aX w.B h) (hy:y ∈ fP w h):((kS w h).R (bt y)).Cells = yq (U6 (bQ w) h) (w.R (bt y)).Cells (w.R (bt y)).Cells:=by
  obtain ⟨ρ,f⟩:=ny r tt
  have hm:=bA r.book
  have hG:=(hm h).2 hh
  unfold fP at hy
  rw [if_pos hh.2] at hy
  have hgd:∀x ∈ V6 (Gw w) (bQ w) h,aX w.B x:=fun x hx=>(hm x).1 ((f.jt hG x).1 hx).1
  have wh:=f.BD hG
  unfold kS
  rw [if_pos hh.2]
  generalize V6 (Gw w) (bQ w) h = l at hy hgd wh ⊢
  generalize U6 (bQ w) h = L
  have key:=uG w L hgd wh hy w rfl
  have e:jQ w L l = l.foldl (p5 w L) w:=rfl
  rw [e]
  generalize l.foldl (p5 w L) w = v at key ⊢
  unfold nP
  dsimp only
  rw [bG]
  split
  · rename_i e; rw [e] at key; rw [e]; exact key
  · exact key
end
end Go.Proofs.Ytbalnnoofdkbaaa
namespace Go.Bw
open Go Go.RowKit
abbrev zx (T:Nat) (e:Int):List PanicEntry:=[{ v:=.iface T (.int .i64 e),recovered:=false }]
structure Ef (P:Program) (f:Nat) (args:List Value) (pre:World→Prop) (T:Nat) (e:Int):Prop where
  enter:∀args w,(callFunc f args).run P w = .ok (.enter f args) w
  calls:∀w,pre w→Calls P f args.toArray w fun en w'=>en = .panicked (zx T e)∧aY [] w w'
def Bt (P:Program) (c:Cx) (fn:Func) (T:Nat) (e:Int):Exit→Act→World→Prop:=
  bodyPostM (FA none) 0 P fn fun en w'=>en = .panicked (zx T e)∧aY c.bs c.w0 w'
section
variable {α:Type} {P:Program} {N:Nat} {c:Cx} {F:cC} {H:List aL} {D:List Deferred} {fn:Func} {p:α→Prop} {fv:α→Value} {fH:α→List aL} {ops:Array Oper} {d:Option Tmp} {ty:TypeId} {ps:String} {af:Array Edge}
theorem yf {f:Nat} {fn:Func} {code:Code} {args:List Value} {pre:World→Prop} {T:Nat} {e:Int}
    (hf:P.funcs[f]? = some fn) (hname:(fn.name == "runtime.NumGoroutine") = false) (hb:fn.body = some code) (hN:fn.ntmps = N) (ha:Nat.ble args.length N = true)
    (h:∀c:Cx,c.bs = bz []→pre c.w0→c.ro = none→WP P N c [] code (Bt P c fn T e) (uA 0 args) []):Ef P f args pre T e:=by
  refine ⟨fun args w=>?_,fun w hw=>?_⟩
  · have h1:fn.name ≠ "runtime.NumGoroutine":=by simpa using hname
    simp [callFunc,hf,h1,hb,Go.mark]
  · refine (callsIn_wide (n:=0)).1 (callsIn_of_wp_marks (F:=Fence.wide) hf hb trivial ?_)
    refine h ⟨none,w,bz []⟩ rfl hw rfl _ w ⟨?_,?_,rfl,aY.refl _ _,bN.nil _ _ _⟩
    · have:=Nat.le_of_ble_eq_true ha
      simp; omega
    · intro d v hd
      obtain ⟨_,h2⟩:=vn args 0 d v hd
      simp only [Nat.sub_zero] at h2
      have hlt:=(List.getElem?_eq_some_iff.1 h2).1
      rw [Array.getElem?_append_left (by simpa using hlt)]
      simpa using h2
theorem rX {T:Nat} {e:Int}:WQ N c [] (Bt P c fn T e) (.panic (zx T e)) F H:=fun a w hst=>by
  show LeavesInM (FA none) 0 P fn a.tmps _ a.defers (.panicking _) w
  rw [hst.df]
  exact ⟨rfl,hst.si⟩
theorem St.JH {a:Act} {w w' : World} (h:St N c D F H a w) (hs:aY [] w w'):St N c D F H a w':=⟨h.tm,h.fr,h.df,h.si.ext hs,h.hp.ext hs⟩
theorem lD {Q:Exit→Act→World→Prop} {l:List Oper} {args:List Operand} {ats:Array TypeId} {f:Nat} {vs:List Value} {pre:World→Prop} {T:Nat} {e:Int} (hc:Ef P f vs pre T e) (ha:og F args = some vs)
    (hpre:∀w,aY c.bs c.w0 w→bN c.bs c.w0.heap.size H w→pre w) (h:WQ N c D Q (.panic (zx T e)) F H):WL P N c D ops Q (⟨d, .call ⟨.value (.func f),args.toArray,ats⟩,ty,ps,af,none⟩::l) F H:=fun a w hst=>by
  refine wpListIn_step fun K hK=>?_
  rw [if_pos (by simp [Region.wanted])]
  refine ⟨fun _ _=>trivial,?_⟩
  have hs:Oper.semAt (FA c.ro).round a.eval (⟨d, .call ⟨.value (.func f),args.toArray,ats⟩,ty,ps,af,none⟩ : Oper) = execOp a.eval ⟨d, .call ⟨.value (.func f),args.toArray,ats⟩,ty,ps,af,none⟩:=Oper.semAt_eq _ _ _ (by simp)
  have hr:(execOp a.eval ⟨d, .call ⟨.value (.func f),args.toArray,ats⟩,ty,ps,af,none⟩).run P w = .ok (.enter f vs.toArray) w:=by
    have e1:a.eval (.func f) = .func (.func f) #[] #[]:=rfl
    have e2:=nA hst.fr ha
    have e3:#[]++(args.toArray.map a.eval)++#[] = vs.toArray:=by rw [← e2]; simp
    simp only [execOp,resolve,e1,Deferred.ofValue,Sem.run_bind,Sem.run_pure,Result.andThen_ok,invoke,e3]
    exact hc.enter _ _
  rw [hs,hr]
  refine ⟨fun h=>by simp at h,ij c.ro ?_⟩
  intro cs
  obtain ⟨en,w',fr,⟨rfl,hsi⟩,rest⟩:=hc.calls w (hpre w hst.si hst.hp) cs
  exact ⟨_,w',fr,h a w' (hst.JH hsi),rest⟩
theorem yJ {Q:Exit→Act→World→Prop} {l:List Oper} {x:Operand} {T:Nat} {e:Int} (hx:ev F x = some (.iface T (.int .i64 e))) (h:WQ N c D Q (.panic (zx T e)) F H):WL P N c D ops Q (⟨d, .panic x,ty,ps,af,none⟩::l) F H:=fun a w hst=>by
  refine wpListIn_step fun K hK=>?_
  rw [if_pos (by simp [Region.wanted])]
  refine ⟨fun _ _=>trivial,?_⟩
  rw [Oper.semAt_eq _ _ _ (by simp)]
  have:(execOp a.eval ⟨d, .panic x,ty,ps,af,none⟩).run P w = .halt (.panic (.iface T (.int .i64 e))) w:=by
    simp [execOp,bp hst.fr hx,Instr.panic]
  rw [this]
  exact h a w hst
theorem Dv {x:Operand} {T:Nat} {v:Value} {k:IntKind} {g:Option (Nat × Bool)} [ht:yM P T k] (hx:ev F x = some v):VS P N c ⟨d, .makeInterface T x,ty,ps,af,g⟩ F H (.iface T v):=
  bh (by simp) fun a w hf _ _=>by simp [execOp,bp hf hx,Instr.makeInterface,run_underlying ht.ok]
theorem fq {K:Act→World→Prop} {Q:Exit→Act→World→Prop} {ch:List PanicEntry} (h:WQ N c D Q (.panic ch) F H):WQ N c D (Exit.then K Q) (.panic ch) F H:=h
structure uY (P:Program) (f T:Nat):Prop where
  enter:∀args w,(callFunc f args).run P w = .ok (.enter f args) w
  ret:∀b w,CallsDIn (FA none) 0 P f #[Ptr b 0] .returning w fun en u' w'=>(∃v,en = .returned v)∧u' = .returning∧aY [] w w'
  zx:∀b Tb x e w,w.heap[b]? = some (.cells #[x] Tb (0,0))→CallsDIn (FA none) 0 P f #[Ptr b 0] (.panicking (zx T e)) w fun en u' w' =>
    (∃v,en = .returned v)∧settle u' = .returning∧aY [b] w w'∧w'.heap[b]? = some (.cells #[.int .i64 e] Tb (0,0))
def pA (f b:Nat):Deferred:={ target:=.fn (.func f) #[],args:=#[Ptr b 0] }
theorem tC {Q:Exit→Act→World→Prop} {l:List Oper} {x:Operand} {ats:Array TypeId} {f b:Nat} (hx:ev F x = some (Ptr b 0)) (hro:c.ro = none) (h:WL P N c (pA f b::D) ops Q l F H):WL P N c D ops Q (⟨none, .defer ⟨.value (.func f),#[x],ats⟩,ty,ps,af,none⟩::l) F H:=fun a w hst=>by
  refine wpListIn_step fun K hK=>?_
  rw [if_pos (by simp [Region.wanted])]
  refine ⟨fun _ _=>trivial,?_⟩
  have e0:(FA c.ro).round = none:=by rw [hro]
  rw [e0,Oper.semAt_none]
  have e1:a.eval (.func f) = .func (.func f) #[] #[]:=rfl
  have:(execOp a.eval ⟨none, .defer ⟨.value (.func f),#[x],ats⟩,ty,ps,af,none⟩).run P w = .ok (.defer (pA f b)) w:=by
    simp [execOp,resolve,e1,Deferred.ofValue,bp hst.fr hx,pA]
  rw [this]
  exact hK _ _ (h _ w ⟨hst.tm,hst.fr,by show _::a.defers = _; rw [hst.df],hst.si,hst.hp⟩)
theorem tB {f b T:Nat} (hE:uY P f T) (h:WQ N c [] (Post P c fn p fv fH) .ret F H):WQ N c [pA f b] (Post P c fn p fv fH) .ret F H:=fun a w hst=>by
  show LeavesInM (FA none) 0 P fn a.tmps _ a.defers .returning w
  rw [hst.df]
  refine ⟨by simp, .inr ⟨by simp,_,_,f,#[Ptr b 0],rfl,?_,fun _ _=>trivial,?_⟩⟩
  · simp only [pA,invoke]; exact hE.enter _ _
  · refine (hE.ret b w).mono fun en u' w'=>?_
    rintro ⟨⟨v,rfl⟩,rfl,hs⟩
    have rD:St N c [] F H { a with defers:=[] } w':=⟨hst.tm,hst.fr,rfl,hst.si.ext hs,hst.hp.ext hs⟩
    exact h _ _ rD
theorem kg {f b T Tb:Nat} {e:Int} {x:Value} {H' : List aL} (hE:uY P f T) [hc:jZ H b Tb [x]] [hs:qd H b [.int .i64 e] H'] (h:WQ N c [] (Post P c fn p fv fH) .ret F H'):WQ N c [pA f b] (Post P c fn p fv fH) (.panic (zx T e)) F H:=fun a w hst=>by
  show LeavesInM (FA none) 0 P fn a.tmps _ a.defers (.panicking _) w
  rw [hst.df]
  refine ⟨by simp, .inr ⟨by simp,_,_,f,#[Ptr b 0],rfl,?_,fun _ _=>trivial,?_⟩⟩
  · simp only [pA,invoke]; exact hE.enter _ _
  · have hb:w.heap[b]? = some (.cells #[x] Tb (0,0)):=hst.hp.holds _ hc.mem
    refine (hE.zx b Tb x e w hb).mono fun en u' w'=>?_
    rintro ⟨⟨v,rfl⟩,hu,hsi,hb'⟩
    obtain ⟨k,T',cs,hk,rfl⟩:=hs.ok
    have hm:aL.cells b T' cs ∈ H:=List.mem_of_getElem? hk
    have hT:T' = Tb:=by
      have:=hst.hp.holds _ hm
      have h2:w.heap[b]? = some (.cells cs.toArray T' (0,0)):=this
      rw [hb] at h2
      simp only [Option.some.injEq,Obj.cells.injEq] at h2
      exact h2.2.1.symm
    subst hT
    have IY:bN c.bs c.w0.heap.size (H.set k (.cells b T' [.int .i64 e])) w':=by
      refine hst.hp.set hk hsi.size (fun j hj hn=>hsi.block j hj (by simpa [aL.fA] using hn)) hb' hst.si.size (fun b' z5=>?_)
      have e2:b' = b:=by simpa [aL.fA] using z5
      subst e2
      exact ⟨.inl (by simp [aL.fA]),Nat.lt_of_lt_of_le (Array.getElem?_eq_some_iff.1 hb).1 hsi.size⟩
    have rD:St N c [] F (H.set k (.cells b T' [.int .i64 e])) { a with defers:=[] } w':=⟨hst.tm,hst.fr,rfl,hst.si.store hst.hp hm (by simp [aL.fA]) hsi,IY⟩
    show LeavesInM (FA none) 0 P fn a.tmps _ [] (settle u') w'
    rw [hu]
    exact h _ _ rD
end
def Bm (P:Program) (T j o n:Nat):Bool:=match P.underlying T with
  | some (.struct fs)=>match fs[j]? with
    | some fl=>Nat.beq fl.offset o && rS P fl.type n
    | none=>false
  | _=>false
theorem wB {α β:Type} {P:Program} {N:Nat} {c:Cx} {F:cC} {H:List aL} {d:Option Tmp} {ty:TypeId} {ps:String} {af:Array Edge} {g:Option (Nat × Bool)} {T j fo:Nat} {x:Operand} {L:aQ α} {M:aQ β} [aZ M] {A:World→Prop} {cs:List Value} {y:α} {gg:α→β} {s:α→β→α} (p:bf L M fo gg s) (r:L.rep A cs y) (hx:ev F x = some (.agg cs.toArray)) (ht:Bm P T j fo M.n = true) :
    VS P N c ⟨d, .field T x j,ty,ps,af,g⟩ F H (.agg (M.enc (gg y)).toArray):=
  bh (by simp) fun a w hfr _ _=>by
    have hg:(cs.drop fo).take M.n = M.enc (gg y):=aZ.iff.1 (p.get r)
    unfold Bm at ht
    split at ht
    · rename_i fs e1
      split at ht
      · rename_i fl e2
        rw [Bool.and_eq_true] at ht
        have ho:=Nat.eq_of_beq_eq_true ht.1
        haveI:iw P fl.type M.n:=⟨ht.2⟩
        have C5:(isAgg fl.type).run P w = .ok true w:=jw w
        have hs:(sizeOf fl.type).run P w = .ok M.n w:=Bw.run_sizeOf w
        have hp:(part fl.type cs.toArray fl.offset).run P w = .ok (.agg (M.enc (gg y)).toArray) w:=by
          have:(cs.toArray.extract fo (fo + M.n)) = (M.enc (gg y)).toArray:=by
            apply Array.ext'
            rw [← hg]
            simp [List.extract_eq_take_drop]
          simp only [part,Sem.run_bind,C5,Result.andThen_ok,if_true,hs,ho,Sem.run_pure,this]
        have ha:(asAgg (.agg cs.toArray)).run P w = .ok cs.toArray w:=rfl
        simp [execOp,bp hfr hx,Instr.field,run_underlying e1,e2,ha,hp]
      · cases ht
    · cases ht
def tc {α:Type} (b:Bool) (f:α) (k:Option α):Option α:=bif b then k else some f
theorem vL {α:Type} {b:Bool} {f r:α} {k:Option α} (h:tc b f k = some r):(b = false∧some f = some r)∨(b = true∧k = some r):=by cases b <;> simp_all [tc]
theorem AX {α:Type} {b:Bool} {e:Int} {r:α} {k:Option (Except Int α)} (h:tc b (.error e) k = some (.ok r)):b = true∧k = some (.ok r):=by cases b <;> simp_all [tc]
def tr {α β:Type} (x:Option (Except Int α)) (f:Int→β) (k:α→Option β):Option β:=match x with
  | some (.ok a)=>k a
  | some (.error e)=>some (f e)
  | none=>none
theorem En {α β:Type} {x:Option (Except Int α)} {f:Int→β} {k:α→Option β} {r:β} (h:tr x f k = some r):(∃e,x = some (.error e)∧some (f e) = some r)∨∃a,x = some (.ok a)∧k a = some r:=by
  match x,h with
  | some (.ok a),h=>exact .inr ⟨a,rfl,h⟩
  | some (.error e),h=>exact .inl ⟨e,rfl,h⟩
end Go.Bw
namespace Go.Proofs.Ytbalnnoofdkbaaa
open Go Go.Bw
theorem lC {b:Bool} (hb:b = true) (e:Int):yW Try.prog 39 [.bool b, .int .i64 e] (.tuple #[]):=by
 subst hb
 refine eF Try.func39 (by kernel_rfl) rfl Try.ntmps39 rfl (fun cx cU hpre hro=>?_)
 refine aU ?_
 refine az ?_
 refine ah rfl (ak rfl) ?_
 refine ah rfl (iu rfl) ?_
 refine aW ?_
 refine aE ?_
 refine gB rfl (fun hc=>?_) (fun hc=>?_)
 ·cases hc
 refine gG ?_
 exact pJ () rfl .nil trivial rfl (ks:=[]) rfl (by decide)
theorem lO {b:Bool} (hb:b = false) (e:Int):Ef Try.prog 39 [.bool b, .int .i64 e] (fun _=>True) 57 e:=by
 subst hb
 refine yf Try.func39 (by kernel_rfl) rfl Try.ntmps39 rfl (fun cx cU hpre hro=>?_)
 refine aU ?_
 refine az ?_
 refine ah rfl (ak rfl) ?_
 refine ah rfl (iu rfl) ?_
 refine aW ?_
 refine aE ?_
 refine gB rfl (fun hc=>?_) (fun hc=>?_)
 rotate_left
 ·cases hc
 refine az ?_
 refine ah rfl (ak rfl) ?_
 refine ah rfl (Dv rfl) ?_
 exact yJ rfl rX
theorem jP:uY Try.prog 37 57:=by
 have hf:=Try.func37
 refine ⟨fun args w=>?_,fun b w=>?_,fun b Tb x e w hb=>?_⟩
 ·have h1:Try.f37.name ≠ "runtime.NumGoroutine":=by
   intro h
   have:(Try.f37.name == "runtime.NumGoroutine") = false:=by kernel_rfl
   rw [h] at this; simp at this
  have h2:Try.f37.body.isSome = true:=by kernel_rfl
  obtain ⟨code,h2⟩:=Option.isSome_iff_exists.1 h2
  simp [callFunc,hf,h1,h2,Go.mark]
 ·refine callsDIn_of_wpSIn hf rfl trivial fun c₀ cs hu=>?_
  apply wpSIn_seq
  apply wpSIn_region
  simp [wpOpsSIn,go_sem,recoverD,hu,Try.ntmps37,Exit.thenS]
  apply wpSIn_seq
  apply wpSIn_region
  simp [wpOpsSIn,go_sem,recoverD,hu,Try.ntmps37,Exit.thenS]
  refine wpSIn_cond (t:=false) (by simp [Act.eval,Array.replicate]) ?_
  simp only [Bool.false_eq_true,if_false]
  refine wpSIn_of_wpIn rfl (wpIn_skip ?_)
  cases c₀
  simp_all [bodyPostS,results,aY.refl]
 ·have hi:Try.prog.underlying 57 = some (.int .i64):=by kernel_rfl
  refine callsDIn_of_wpSIn hf rfl trivial fun c₀ cs hu=>?_
  apply wpSIn_seq
  apply wpSIn_region
  simp [wpOpsSIn,go_sem,recoverD,hu,Try.ntmps37,Exit.thenS]
  refine wpSIn_of_wpIn rfl ?_
  have key:WP Try.prog Try.f37.ntmps ⟨none,w,[b]⟩ [] (match Try.f37.body with
   | some (.seq _ y)=>y
   | _=>.skip) (fun en a' w'=>(en = .normal∨en = .ret)∧a'.defers = []∧aY [b] w w'∧w'.heap[b]? = some (.cells #[.int .i64 e] Tb (0,0))) [(2, .iface 57 (.int .i64 e)),(0,Ptr b 0)] [.cells b Tb [x]]:=by
   refine aU ?_
   refine az ?_
   refine ah rfl (ak rfl) ?_
   refine ah (v:=.bool true) rfl (bh (by simp) fun a w hf _ _=>by
    have h6:=hf 6 _ rfl
    have he:=run_equal_held_nil (P:=Try.prog) w 20 57 (.int .i64 e) (by kernel_rfl)
    simp [execOp,go_sem,Act.eval,h6,eqGuard,binOp,he]) ?_
   refine aW ?_
   refine aE ?_
   refine gB rfl (fun hc=>?_) (fun hc=>?_)
   rotate_left
   ·cases hc
   refine aU ?_
   refine az ?_
   refine ah rfl (ak rfl) ?_
   refine ah (v:=.tuple #[.int .i64 e, .bool true]) rfl (bh (by simp) fun a w hf _ _=>by simp [execOp,bp hf (x:=.tmp 9) rfl,Instr.typeAssert,run_underlying hi]) ?_
   refine ah rfl (ak rfl) ?_
   refine ah rfl (aM rfl rfl) ?_
   refine ah rfl (aM rfl rfl) ?_
   refine ah rfl (aP rfl) ?_
   refine ah rfl (aP rfl) ?_
   refine aW ?_
   refine aE ?_
   refine aU ?_
   refine aU ?_
   refine az ?_
   refine ah rfl (ak rfl) ?_
   refine ah rfl (iu rfl) ?_
   refine aW ?_
   refine aE ?_
   refine gB rfl (fun hc=>?_) (fun hc=>?_)
   ·cases hc
   refine gG ?_
   refine aE ?_
   refine az ?_
   refine ah rfl (ak rfl) ?_
   refine ah rfl (ak rfl) ?_
   refine ah rfl (n8 rfl) ?_
   refine eU (lG (n:=1) (cs':=[.int .i64 e]) rfl rfl rfl rfl (by simp) (oH rfl) rfl) (fun _ _=>?_)
   refine aW ?_
   exact fun a w' hst=>⟨.inl rfl,hst.df,hst.si,hst.hp.holds (.cells b Tb [.int .i64 e]) (by simp)⟩
  refine wpIn_mono (key _ w ⟨by simp [Try.ntmps37],fun d v h=>?_,rfl,aY.refl _ _,?_⟩) fun en a' w' ⟨h1,h2,h3,h4⟩=>?_
  ·simp only [lk] at h
   cases h0:Nat.beq 2 d with
   | true =>
    rw [h0] at h
    obtain rfl:=Nat.eq_of_beq_eq_true h0
    cases h; simp
   | false =>
    rw [h0] at h
    simp only [cond_false] at h
    cases JD:Nat.beq 0 d with
    | true =>
     rw [JD] at h
     obtain rfl:=Nat.eq_of_beq_eq_true JD
     cases h; simp
    | false=>rw [JD] at h; cases h
  ·refine (bN.nil _ _ _).cons hb (fun b' hb'=>?_) (fun s hs=>by cases hs)
   have e2:b' = b:=by simpa [aL.fA] using hb'
   subst e2
   exact ⟨.inl (by simp),(Array.getElem?_eq_some_iff.1 hb).1⟩
  ·rcases h1 with rfl | rfl
   ·exact ⟨h2,_,rfl,_,by simp [results]; rfl,⟨_,rfl⟩,rfl,h3,h4⟩
   ·exact ⟨h2,_,rfl,_,by simp [results]; rfl,⟨_,rfl⟩,rfl,h3,h4⟩
def fm (n:Nat) (a0:ai) (a1:Int) (a2:Int):Option (Except Int bj):=
 bd (cM n a0 a1) fun bu =>
 tc (bu.2 == 0) (.error bu.2) <|
 tc (decide (0 ≤ a2) && decide (a2 < 8)) (.error 2) <|
 some (.ok bu.1)
theorem lY {n:Nat} {a0:ai} {a1:Int} {a2:Int} {e:Int} {K:World→Prop} [bT K] {dM:List Value} (f0:(ae).rep K dM a0) (h:fm n a0 a1 a2 = some (.error e)):Ef Try.prog 38 [.agg dM.toArray, .int .u32 a1, .int .i64 a2] K 57 e:=by
 unfold fm at h
 refine yf Try.func38 (by kernel_rfl) rfl Try.ntmps38 rfl (fun cx cU hpre hro=>?_)
 haveI:=kB cU hpre
 refine aU ?_
 refine az ?_
 refine cu rfl (cH rfl) (fun b3 _=>?_)
 refine cu rfl (bK (hz:=(⟨by kernel_rfl⟩ : cK Try.prog 38 aT))) (fun b6 _=>?_)
 refine aW ?_
 refine aE ?_
 refine aU ?_
 obtain ⟨bu,cS,h⟩:=bM h
 refine az ?_
 refine ah rfl (ay rfl (aQ.len _ f0)) ?_
 refine ah rfl (ak rfl) ?_
 refine cu rfl (dy (eP (K:=K) (aQ.mono _ dg f0) cS) rfl) (fun ⟨u9,cw,fu⟩ nt=>?_)
 obtain ⟨om,rfl,f26⟩:=nt
 replace f26:(au).rep (fun w=>K w∧Hs [.ext cw fu] w) om bu.1:=f26
 refine ah rfl (ak rfl) ?_
 refine ah rfl (aM rfl rfl) ?_
 refine ah rfl (aM rfl rfl) ?_
 refine cu rfl (bK (hz:=(⟨by kernel_rfl⟩ : cK Try.prog 38 aT))) (fun b7 _=>?_)
 obtain ⟨pO,ux,f29⟩ : ∃cc,bw aT 0 om = cc∧(au).rep (fun w=>K w∧Hs [.ext cw fu] w) cc bu.1:=⟨_,rfl,(bf.id (L:=au)).set (aQ.mono _ dg (show (au).rep (Hs []) aT cz from bC)) (aQ.mono _ dg f26)⟩
 refine eU (dL om (bf.id (L:=au)) (v:=bu.1) (r:=(show (au).rep (Hs []) aT cz from bC)) (rv:=((aQ.mono _ dg f26):(au).rep (fun w=>K w∧Hs [.ext cw fu] w) om bu.1)) rfl rfl rfl rfl ux) (fun _ _=>?_)
 refine ah rfl (aP rfl) ?_
 refine aW ?_
 refine aE ?_
 refine aU ?_
 rcases vL h with ⟨yb,h⟩ | ⟨yb,h⟩
 ·
  refine az ?_
  refine ah rfl (ak rfl) ?_
  refine ah rfl (dV rfl rfl) ?_
  refine ah rfl (ak rfl) ?_
  refine lD (lO yb _) rfl (fun _ _ _=>trivial) ?_
  refine fq ?_
  replace h:=Except.error.inj (Option.some.inj h)
  subst h
  exact rX
 refine az ?_
 refine ah rfl (ak rfl) ?_
 refine ah rfl (dV rfl rfl) ?_
 refine ah rfl (ak rfl) ?_
 refine ah rfl (bZ (lC yb _) rfl (fun _ _ _=>trivial)) ?_
 refine aW ?_
 refine aE ?_
 refine aU ?_
 rcases vL h with ⟨rG,h⟩ | ⟨rG,h⟩
 ·
  refine az ?_
  refine ah rfl (ak rfl) ?_
  refine ah rfl (lE rfl rfl) ?_
  refine ah rfl (ak rfl) ?_
  refine cI (di rfl rfl) rfl (fun hb=>ak rfl) ?_
  refine cI (di rfl rfl) rfl (fun hb=>mB (cT rfl hb) rfl) ?_
  refine ah rfl (ec rfl rfl) ?_
  refine lD (lO rG _) rfl (fun _ _ _=>trivial) ?_
  refine fq ?_
  replace h:=Except.error.inj (Option.some.inj h)
  subst h
  exact rX
 refine az ?_
 refine ah rfl (ak rfl) ?_
 refine ah rfl (lE rfl rfl) ?_
 refine ah rfl (ak rfl) ?_
 refine cI (di rfl rfl) rfl (fun hb=>ak rfl) ?_
 refine cI (di rfl rfl) rfl (fun hb=>mB (cT rfl hb) rfl) ?_
 refine ah rfl (ec rfl rfl) ?_
 refine ah rfl (bZ (lC rG _) rfl (fun _ _ _=>trivial)) ?_
 refine aW ?_
 refine aE ?_
 refine aU ?_
 refine az ?_
 refine ah rfl (ay rfl (aQ.len _ f29)) ?_
 obtain ⟨DZ,x9,f33⟩ : ∃cc,bw aT 0 pO = cc∧(au).rep (fun w=>K w∧Hs [.ext cw fu] w) cc bu.1:=⟨_,rfl,(bf.id (L:=au)).set (aQ.mono _ dg (show (au).rep (Hs []) aT cz from bC)) (aQ.mono _ dg f29)⟩
 refine eU (dL pO (bf.id (L:=au)) (v:=bu.1) (r:=(show (au).rep (Hs []) aT cz from bC)) (rv:=((aQ.mono _ dg f29):(au).rep (fun w=>K w∧Hs [.ext cw fu] w) pO bu.1)) rfl rfl rfl rfl x9) (fun _ _=>?_)
 refine aW ?_
 refine aE ?_
 refine jb ?_
 cases h
theorem l7 {n:Nat} {a0:ai} {a1:Int} {a2:Int} {r:bj} {K:World→Prop} [bT K] {dM:List Value} (f0:(ae).rep K dM a0) (h:fm n a0 a1 a2 = some (.ok r)):tJ Try.prog 38 [.agg dM.toArray, .int .u32 a1, .int .i64 a2] K (fun J v=>∃u0,v = (.agg u0.toArray)∧(au).rep (fun w=>K w∧J w) u0 (r)):=by
 unfold fm at h
 refine eF Try.func38 (by kernel_rfl) rfl Try.ntmps38 rfl (fun cx cU hpre hro=>?_)
 haveI:=kB cU hpre
 refine aU ?_
 refine az ?_
 refine cu rfl (cH rfl) (fun b3 _=>?_)
 refine cu rfl (bK (hz:=(⟨by kernel_rfl⟩ : cK Try.prog 38 aT))) (fun b6 _=>?_)
 refine aW ?_
 refine aE ?_
 refine aU ?_
 obtain ⟨bu,cS,h⟩:=bM h
 refine az ?_
 refine ah rfl (ay rfl (aQ.len _ f0)) ?_
 refine ah rfl (ak rfl) ?_
 refine cu rfl (dy (eP (K:=K) (aQ.mono _ dg f0) cS) rfl) (fun ⟨u9,cw,fu⟩ nt=>?_)
 obtain ⟨om,rfl,f26⟩:=nt
 replace f26:(au).rep (fun w=>K w∧Hs [.ext cw fu] w) om bu.1:=f26
 refine ah rfl (ak rfl) ?_
 refine ah rfl (aM rfl rfl) ?_
 refine ah rfl (aM rfl rfl) ?_
 refine cu rfl (bK (hz:=(⟨by kernel_rfl⟩ : cK Try.prog 38 aT))) (fun b7 _=>?_)
 obtain ⟨pO,ux,f29⟩ : ∃cc,bw aT 0 om = cc∧(au).rep (fun w=>K w∧Hs [.ext cw fu] w) cc bu.1:=⟨_,rfl,(bf.id (L:=au)).set (aQ.mono _ dg (show (au).rep (Hs []) aT cz from bC)) (aQ.mono _ dg f26)⟩
 refine eU (dL om (bf.id (L:=au)) (v:=bu.1) (r:=(show (au).rep (Hs []) aT cz from bC)) (rv:=((aQ.mono _ dg f26):(au).rep (fun w=>K w∧Hs [.ext cw fu] w) om bu.1)) rfl rfl rfl rfl ux) (fun _ _=>?_)
 refine ah rfl (aP rfl) ?_
 refine aW ?_
 refine aE ?_
 refine aU ?_
 obtain ⟨yb,h⟩:=AX h
 refine az ?_
 refine ah rfl (ak rfl) ?_
 refine ah rfl (dV rfl rfl) ?_
 refine ah rfl (ak rfl) ?_
 refine ah rfl (bZ (lC yb _) rfl (fun _ _ _=>trivial)) ?_
 refine aW ?_
 refine aE ?_
 refine aU ?_
 obtain ⟨rG,h⟩:=AX h
 refine az ?_
 refine ah rfl (ak rfl) ?_
 refine ah rfl (lE rfl rfl) ?_
 refine ah rfl (ak rfl) ?_
 refine cI (di rfl rfl) rfl (fun hb=>ak rfl) ?_
 refine cI (di rfl rfl) rfl (fun hb=>mB (cT rfl hb) rfl) ?_
 refine ah rfl (ec rfl rfl) ?_
 refine ah rfl (bZ (lC rG _) rfl (fun _ _ _=>trivial)) ?_
 refine aW ?_
 refine aE ?_
 refine aU ?_
 refine az ?_
 refine ah rfl (ay rfl (aQ.len _ f29)) ?_
 obtain ⟨DZ,x9,f33⟩ : ∃cc,bw aT 0 pO = cc∧(au).rep (fun w=>K w∧Hs [.ext cw fu] w) cc bu.1:=⟨_,rfl,(bf.id (L:=au)).set (aQ.mono _ dg (show (au).rep (Hs []) aT cz from bC)) (aQ.mono _ dg f29)⟩
 refine eU (dL pO (bf.id (L:=au)) (v:=bu.1) (r:=(show (au).rep (Hs []) aT cz from bC)) (rv:=((aQ.mono _ dg f29):(au).rep (fun w=>K w∧Hs [.ext cw fu] w) pO bu.1)) rfl rfl rfl rfl x9) (fun _ _=>?_)
 refine aW ?_
 refine aE ?_
 refine jb ?_
 replace h:=Except.ok.inj (Option.some.inj h)
 subst h
 refine bP (R:=[.ext cw fu]) (H':=[.cells b6 38 DZ]) (ks:=[1,2]) rfl (by decide) ?_
 have HG:(au).rep (fun w=>K w∧(Hs [.ext (bz [.ext cw fu]) (Hs [.ext cw fu])]) w) DZ bu.1:=aQ.mono _ dg f33
 exact cg (.agg DZ.toArray,bz [.ext cw fu],Hs [.ext cw fu]) rfl (.agg rfl inferInstance inferInstance (aQ.len _ f33) .nil) ⟨_,rfl,HG⟩ rfl (ks:=[0]) rfl (by decide)
def fy (n:Nat) (a0:ai) (a1:Int) (a2:Int):Option (Int × Int):=
 tr (fm n a0 a1 a2) (fun F8=>(0,F8)) fun bu =>
 gu (dB a2 8) <|
 tc ((bu.Cells (Int.toNat a2)) != 0) (0,10) <|
 bd (aO n a0.book.gN (bu.Cells (Int.toNat a2))) fun bW =>
 tc bW (0,4) <|
 some ((bu.Cells (Int.toNat a2)),0)
theorem jm {n:Nat} {a0:ai} {a1:Int} {a2:Int} {r:Int × Int} {K:World→Prop} [bT K] {dM:List Value} (f0:(ae).rep K dM a0) (h:fy n a0 a1 a2 = some r):wU Try.prog 11 [.agg dM.toArray, .int .u32 a1, .int .i64 a2] K (.tuple #[.int .u32 r.1, .int .i64 r.2]):=by
 unfold fy at h
 refine eF Try.func11 (by kernel_rfl) rfl Try.ntmps11 rfl (fun cx cU hpre hro=>?_)
 haveI:=kB cU hpre
 refine aU ?_
 refine az ?_
 refine cu rfl (cH rfl) (fun b3 _=>?_)
 refine ah rfl (aP rfl) ?_
 refine cu rfl (cL (L:=(LI .i64)) (z:=0) ⟨by kernel_rfl⟩) (fun b7 _=>?_)
 refine aW ?_
 refine aE ?_
 refine aU ?_
 refine az ?_
 refine tC rfl hro ?_
 refine aW ?_
 refine aE ?_
 refine aU ?_
 rcases En h with ⟨F8,FQ,h⟩ | ⟨bu,cS,h⟩
 ·
  refine az ?_
  refine ah rfl (ay rfl (aQ.len _ f0)) ?_
  refine ah rfl (ak rfl) ?_
  refine ah rfl (ak rfl) ?_
  refine lD (lY (K:=K) (aQ.mono _ dg f0) FQ) rfl kn ?_
  refine fq ?_
  refine kg jP ?_
  replace h:=Option.some.inj h
  subst h
  exact cg () rfl (.tmp rfl (.one rfl inferInstance inferInstance rfl .nil)) trivial rfl (ks:=[]) rfl (by decide)
 obtain ⟨uu,h⟩:=eX h
 refine az ?_
 refine ah rfl (ay rfl (aQ.len _ f0)) ?_
 refine ah rfl (ak rfl) ?_
 refine ah rfl (ak rfl) ?_
 refine cu rfl (dy (l7 (K:=K) (aQ.mono _ dg f0) cS) rfl) (fun ⟨u9,cw,fu⟩ nt=>?_)
 obtain ⟨om,rfl,f26⟩:=nt
 replace f26:au.rep (fun w=>K w∧Hs [.ext cw fu] w) om bu:=f26
 refine ah rfl (wB (fo:=4) dQ f26 rfl (by kernel_rfl)) ?_
 refine ah rfl (ak rfl) ?_
 refine ah rfl (qS (m:=(Int.toNat a2)) rfl rfl (aV uu).1 (aV uu).2 ((bf.idx (L:=(LI .u32)) (m:=8) (k:=1) (Int.toNat a2) (aV uu).2 rfl).int (rp _ _))) ?_
 refine ah rfl (aP rfl) ?_
 refine aW ?_
 refine aE ?_
 refine aU ?_
 rcases vL h with ⟨C2,h⟩ | ⟨C2,h⟩
 ·
  refine az ?_
  refine ah rfl (ak rfl) ?_
  refine ah rfl (jG rfl rfl) ?_
  refine lD (lO C2 _) rfl (fun _ _ _=>trivial) ?_
  refine fq ?_
  refine kg jP ?_
  replace h:=Option.some.inj h
  subst h
  exact cg () rfl (.tmp rfl (.one rfl inferInstance inferInstance rfl .nil)) trivial rfl (ks:=[]) rfl (by decide)
 refine az ?_
 refine ah rfl (ak rfl) ?_
 refine ah rfl (jG rfl rfl) ?_
 refine ah rfl (bZ (lC C2 _) rfl (fun _ _ _=>trivial)) ?_
 refine aW ?_
 refine aE ?_
 refine aU ?_
 obtain ⟨bW,pY,h⟩:=bM h
 rcases vL h with ⟨rG,h⟩ | ⟨rG,h⟩
 ·
  refine az ?_
  refine ah rfl (aK rfl) ?_
  refine ah rfl (aK rfl) ?_
  refine ah rfl (bn rfl (aZ.iff.1 ((aD.c0 aI).get f0)) (bF _ _)) ?_
  refine ah rfl (ak rfl) ?_
  refine ah rfl (bZ (aS pY) rfl (fun _ _ _=>trivial)) ?_
  refine lD (lO rG _) rfl (fun _ _ _=>trivial) ?_
  refine fq ?_
  refine kg jP ?_
  replace h:=Option.some.inj h
  subst h
  exact cg () rfl (.tmp rfl (.one rfl inferInstance inferInstance rfl .nil)) trivial rfl (ks:=[]) rfl (by decide)
 refine az ?_
 refine ah rfl (aK rfl) ?_
 refine ah rfl (aK rfl) ?_
 refine ah rfl (bn rfl (aZ.iff.1 ((aD.c0 aI).get f0)) (bF _ _)) ?_
 refine ah rfl (ak rfl) ?_
 refine ah rfl (bZ (aS pY) rfl (fun _ _ _=>trivial)) ?_
 refine ah rfl (bZ (lC rG _) rfl (fun _ _ _=>trivial)) ?_
 refine aW ?_
 refine aE ?_
 refine aU ?_
 refine az ?_
 refine ah rfl (ak rfl) ?_
 refine ah rfl (aP rfl) ?_
 refine eU (dx (M:=(LI .i64)) (bf.id (L:=(LI .i64))) 0 0 rfl rfl rfl rfl rfl) (fun _ _=>?_)
 refine aW ?_
 refine aE ?_
 refine jb ?_
 replace h:=Option.some.inj h
 subst h
 refine tB jP ?_
 exact cg () rfl (.tmp rfl (.one rfl inferInstance inferInstance rfl .nil)) trivial rfl (ks:=[]) rfl (by decide)
def lz (n:Nat) (a0:ai) (a1:Int) (a2:Int) (a3:Int) (a4:Bool):Option (ai × Int):=
 bd (aO n a0.book.gN a1) fun bu =>
 cl ((bu == true) && ((a3 == 0) == false)) (aO n a0.book.gN a3) default fun cZ =>
 tc (bu && ((a3 == 0) || cZ)) (aH,4) <|
 tr (fm n a0 a1 a2) (fun Aa=>(aH,Aa)) fun lK =>
 cl (((a3 == 0) || a4) == false) (cY n a0 a3 a1) default fun jK =>
 tc (((a3 == 0) || a4) || jK) (aH,5) <|
 gu (dB a2 8) <|
 lt ({ lK with Cells:=(dI lK.Cells (Int.toNat a2) a3) }:bj) fun iD =>
 bd (cV n a0 a1 iD) fun hY =>
 some (hY.1,hY.2)
theorem uO {n:Nat} {a0:ai} {a1:Int} {a2:Int} {a3:Int} {a4:Bool} {r:ai × Int} {K:World→Prop} [bT K] {dM:List Value} (f0:(ae).rep K dM a0) (h:lz n a0 a1 a2 a3 a4 = some r):tJ Try.prog 20 [.agg dM.toArray, .int .u32 a1, .int .i64 a2, .int .u32 a3, .bool a4] K (fun J v=>∃u0,v = (.tuple #[.agg u0.toArray, .int .i64 r.2])∧(ae).rep (fun w=>K w∧J w) u0 (r.1)):=by
 unfold lz at h
 refine eF Try.func20 (by kernel_rfl) rfl Try.ntmps20 rfl (fun cx cU hpre hro=>?_)
 haveI:=kB cU hpre
 refine aU ?_
 refine az ?_
 refine cu rfl (cH rfl) (fun b5 _=>?_)
 refine cu rfl (bK (hz:=(⟨by kernel_rfl⟩ : cK Try.prog 41 aq))) (fun wR _=>?_)
 refine cu rfl (cL (L:=(LI .i64)) (z:=0) ⟨by kernel_rfl⟩) (fun Hf _=>?_)
 refine aW ?_
 refine aE ?_
 refine aU ?_
 refine az ?_
 refine tC rfl hro ?_
 refine aW ?_
 refine aE ?_
 refine aU ?_
 obtain ⟨bu,cS,h⟩:=bM h
 obtain ⟨cZ,kQ,_,h⟩:=oh h
 rcases vL h with ⟨C3,h⟩ | ⟨C3,h⟩
 ·
  refine az ?_
  refine ah rfl (aK rfl) ?_
  refine ah rfl (aK rfl) ?_
  refine ah rfl (bn rfl (aZ.iff.1 ((aD.c0 aI).get f0)) (bF _ _)) ?_
  refine ah rfl (ak rfl) ?_
  refine ah rfl (bZ (aS cS) rfl (fun _ _ _=>trivial)) ?_
  refine ah rfl (ak rfl) ?_
  refine cI (di rfl rfl) rfl (fun hb=>ak rfl) ?_
  refine cI (di rfl rfl) rfl (fun hb=>dV (cT rfl hb) rfl) ?_
  refine cI (di rfl rfl) rfl (fun hb=>ak (cT rfl hb)) ?_
  refine cI (gp rfl rfl) rfl (fun hb=>aK rfl) ?_
  refine cI (gp rfl rfl) rfl (fun hb=>aK (cT rfl hb)) ?_
  refine cI (gp rfl rfl) rfl (fun hb=>bn (cT rfl hb) (aZ.iff.1 ((aD.c0 aI).get f0)) (bF _ _)) ?_
  refine cI (gp rfl rfl) rfl (fun hb=>ak rfl) ?_
  refine cI (gp rfl rfl) rfl (fun hb=>bZ (aS (kQ hb)) (bJ (cT rfl hb) (bJ (cT rfl hb) rfl)) (fun _ _ _=>trivial)) ?_
  refine cI (di rfl rfl) rfl (fun hb=>fC (cT rfl hb) (uz rfl hb)) ?_
  refine ah rfl (ec rfl rfl) ?_
  refine lD (lO C3 _) rfl (fun _ _ _=>trivial) ?_
  refine fq ?_
  refine kg jP ?_
  replace h:=Option.some.inj h
  subst h
  refine bP (R:=[]) (H':=[.cells Hf 57 ((LI .i64).enc 4), .cells wR 41 aq]) (ks:=[0,1]) rfl (by decide) ?_
  have Ly:(ae).rep (fun w=>K w∧(Hs [.ext (bz []) (Hs [])]) w) aq aH:=aQ.mono _ dg (show (ae).rep (Hs []) aq aH from aB)
  exact cg (.tuple #[.agg aq.toArray, .int .i64 4],bz [],Hs []) rfl (.agg rfl inferInstance inferInstance (aQ.len _ (show (ae).rep (Hs []) aq aH from aB)) (.one rfl inferInstance inferInstance rfl .nil)) ⟨_,rfl,Ly⟩ rfl (ks:=[0]) rfl (by decide)
 refine az ?_
 refine ah rfl (aK rfl) ?_
 refine ah rfl (aK rfl) ?_
 refine ah rfl (bn rfl (aZ.iff.1 ((aD.c0 aI).get f0)) (bF _ _)) ?_
 refine ah rfl (ak rfl) ?_
 refine ah rfl (bZ (aS cS) rfl (fun _ _ _=>trivial)) ?_
 refine ah rfl (ak rfl) ?_
 refine cI (di rfl rfl) rfl (fun hb=>ak rfl) ?_
 refine cI (di rfl rfl) rfl (fun hb=>dV (cT rfl hb) rfl) ?_
 refine cI (di rfl rfl) rfl (fun hb=>ak (cT rfl hb)) ?_
 refine cI (gp rfl rfl) rfl (fun hb=>aK rfl) ?_
 refine cI (gp rfl rfl) rfl (fun hb=>aK (cT rfl hb)) ?_
 refine cI (gp rfl rfl) rfl (fun hb=>bn (cT rfl hb) (aZ.iff.1 ((aD.c0 aI).get f0)) (bF _ _)) ?_
 refine cI (gp rfl rfl) rfl (fun hb=>ak rfl) ?_
 refine cI (gp rfl rfl) rfl (fun hb=>bZ (aS (kQ hb)) (bJ (cT rfl hb) (bJ (cT rfl hb) rfl)) (fun _ _ _=>trivial)) ?_
 refine cI (di rfl rfl) rfl (fun hb=>fC (cT rfl hb) (uz rfl hb)) ?_
 refine ah rfl (ec rfl rfl) ?_
 refine ah rfl (bZ (lC C3 _) rfl (fun _ _ _=>trivial)) ?_
 refine aW ?_
 refine aE ?_
 refine aU ?_
 rcases En h with ⟨Aa,FP,h⟩ | ⟨lK,o9,h⟩
 ·
  refine az ?_
  refine ah rfl (ay rfl (aQ.len _ f0)) ?_
  refine ah rfl (ak rfl) ?_
  refine ah rfl (ak rfl) ?_
  refine lD (lY (K:=K) (aQ.mono _ dg f0) FP) rfl kn ?_
  refine fq ?_
  refine kg jP ?_
  replace h:=Option.some.inj h
  subst h
  refine bP (R:=[]) (H':=[.cells Hf 57 ((LI .i64).enc Aa), .cells wR 41 aq]) (ks:=[0,1]) rfl (by decide) ?_
  have HG:(ae).rep (fun w=>K w∧(Hs [.ext (bz []) (Hs [])]) w) aq aH:=aQ.mono _ dg (show (ae).rep (Hs []) aq aH from aB)
  exact cg (.tuple #[.agg aq.toArray, .int .i64 Aa],bz [],Hs []) rfl (.agg rfl inferInstance inferInstance (aQ.len _ (show (ae).rep (Hs []) aq aH from aB)) (.one rfl inferInstance inferInstance rfl .nil)) ⟨_,rfl,HG⟩ rfl (ks:=[0]) rfl (by decide)
 refine az ?_
 refine ah rfl (ay rfl (aQ.len _ f0)) ?_
 refine ah rfl (ak rfl) ?_
 refine ah rfl (ak rfl) ?_
 refine cu rfl (dy (l7 (K:=K) (aQ.mono _ dg f0) o9) rfl) (fun ⟨M7,mV,vH⟩ IX=>?_)
 obtain ⟨D0,rfl,f30⟩:=IX
 replace f30:au.rep (fun w=>K w∧Hs [.ext mV vH] w) D0 lK:=f30
 refine cu rfl (bK (hz:=(⟨by kernel_rfl⟩ : cK Try.prog 38 aT))) (fun J5 _=>?_)
 obtain ⟨DZ,x9,f33⟩ : ∃cc,bw aT 0 D0 = cc∧(au).rep (fun w=>K w∧Hs [.ext mV vH] w) cc lK:=⟨_,rfl,(bf.id (L:=au)).set (aQ.mono _ dg (show (au).rep (Hs []) aT cz from bC)) (aQ.mono _ dg f30)⟩
 refine eU (dL D0 (bf.id (L:=au)) (v:=lK) (r:=(show (au).rep (Hs []) aT cz from bC)) (rv:=((aQ.mono _ dg f30):(au).rep (fun w=>K w∧Hs [.ext mV vH] w) D0 lK)) rfl rfl rfl rfl x9) (fun _ _=>?_)
 refine aW ?_
 refine aE ?_
 refine aU ?_
 obtain ⟨jK,pX,_,h⟩:=oh h
 rcases vL h with ⟨C1,h⟩ | ⟨C1,h⟩
 ·
  refine az ?_
  refine ah rfl (ak rfl) ?_
  refine ah rfl (dV rfl rfl) ?_
  refine ah rfl (ak rfl) ?_
  refine cI (di rfl rfl) rfl (fun hb=>ak rfl) ?_
  refine ah rfl (fC rfl rfl) ?_
  refine ah rfl (ak rfl) ?_
  refine cI (di rfl rfl) rfl (fun hb=>ay rfl (aQ.len _ f0)) ?_
  refine cI (di rfl rfl) rfl (fun hb=>ak rfl) ?_
  refine cI (di rfl rfl) rfl (fun hb=>ak rfl) ?_
  refine cI (di rfl rfl) rfl (fun hb=>bZ (eR (K:=K) (aQ.mono _ dg f0) (pX hb)) (bJ (cT rfl hb) (bJ (cT rfl hb) (bJ (cT rfl hb) rfl))) kn) ?_
  refine ah rfl (fC rfl rfl) ?_
  refine lD (lO C1 _) rfl (fun _ _ _=>trivial) ?_
  refine fq ?_
  refine kg jP ?_
  replace h:=Option.some.inj h
  subst h
  refine bP (R:=[]) (H':=[.cells Hf 57 ((LI .i64).enc 5), .cells wR 41 aq]) (ks:=[2,3]) rfl (by decide) ?_
  have Lr:(ae).rep (fun w=>K w∧(Hs [.ext (bz []) (Hs [])]) w) aq aH:=aQ.mono _ dg (show (ae).rep (Hs []) aq aH from aB)
  exact cg (.tuple #[.agg aq.toArray, .int .i64 5],bz [],Hs []) rfl (.agg rfl inferInstance inferInstance (aQ.len _ (show (ae).rep (Hs []) aq aH from aB)) (.one rfl inferInstance inferInstance rfl .nil)) ⟨_,rfl,Lr⟩ rfl (ks:=[0]) rfl (by decide)
 refine az ?_
 refine ah rfl (ak rfl) ?_
 refine ah rfl (dV rfl rfl) ?_
 refine ah rfl (ak rfl) ?_
 refine cI (di rfl rfl) rfl (fun hb=>ak rfl) ?_
 refine ah rfl (fC rfl rfl) ?_
 refine ah rfl (ak rfl) ?_
 refine cI (di rfl rfl) rfl (fun hb=>ay rfl (aQ.len _ f0)) ?_
 refine cI (di rfl rfl) rfl (fun hb=>ak rfl) ?_
 refine cI (di rfl rfl) rfl (fun hb=>ak rfl) ?_
 refine cI (di rfl rfl) rfl (fun hb=>bZ (eR (K:=K) (aQ.mono _ dg f0) (pX hb)) (bJ (cT rfl hb) (bJ (cT rfl hb) (bJ (cT rfl hb) rfl))) kn) ?_
 refine ah rfl (fC rfl rfl) ?_
 refine ah rfl (bZ (lC C1 _) rfl (fun _ _ _=>trivial)) ?_
 refine aW ?_
 refine aE ?_
 refine aU ?_
 obtain ⟨od,h⟩:=eX h
 obtain ⟨iD,rB,h⟩:=dj h
 refine az ?_
 refine ah rfl (ak rfl) ?_
 refine ah rfl (ak rfl) ?_
 refine ah rfl (aK rfl) ?_
 refine ah rfl (g9 (m:=(Int.toNat a2)) rfl rfl (aV od).1 (aV od).2) ?_
 obtain ⟨My,Jq,f41⟩ : ∃cc,bw DZ (4 + (Int.toNat a2) * 1) ((LI .u32).enc a3) = cc∧(au).rep (fun w=>K w∧Hs [.ext mV vH] w) cc iD:=⟨_,rfl,by rw [rB]; exact (dQ.comp (bf.idx (L:=(LI .u32)) (m:=8) (k:=1) ((Int.toNat a2)) (aV od).2 rfl)).set (aQ.mono _ dg f33) (aZ.iff.2 rfl)⟩
 refine eU (dL ((LI .u32).enc a3) (dQ.comp (bf.idx (L:=(LI .u32)) (m:=8) (k:=1) ((Int.toNat a2)) (aV od).2 rfl)) (v:=a3) (r:=f33) (rv:=((aZ.iff.2 rfl):((LI .u32)).rep (fun w=>K w∧Hs [.ext mV vH] w) ((LI .u32).enc a3) a3)) rfl rfl rfl rfl Jq) (fun _ _=>?_)
 refine aW ?_
 refine aE ?_
 refine aU ?_
 obtain ⟨hY,Cm,h⟩:=bM h
 refine az ?_
 refine ah rfl (ay rfl (aQ.len _ f0)) ?_
 refine ah rfl (ak rfl) ?_
 refine ah rfl (ay rfl (aQ.len _ f41)) ?_
 refine cu rfl (dy (jS (K:=(fun w=>K w∧Hs [.ext mV vH] w)) (aQ.mono _ dg f0) (aQ.mono _ dg f41) Cm) rfl) (fun ⟨K8,pH,yU⟩ IT=>?_)
 obtain ⟨Bo,rfl,f47⟩:=IT
 replace f47:(ae).rep (fun w=>(fun w=>K w∧Hs [.ext mV vH] w) w∧Hs [.ext pH yU] w) Bo hY.1:=f47
 refine ah rfl (aM rfl rfl) ?_
 refine ah rfl (aM rfl rfl) ?_
 obtain ⟨G9,Jo,f50⟩ : ∃cc,bw aq 0 Bo = cc∧(ae).rep (fun w=>K w∧Hs [.ext mV vH, .ext pH yU] w) cc hY.1:=⟨_,rfl,(bf.id (L:=ae)).set (aQ.mono _ dg (show (ae).rep (Hs []) aq aH from aB)) (aQ.mono _ dg f47)⟩
 refine eU (dL Bo (bf.id (L:=ae)) (v:=hY.1) (r:=(show (ae).rep (Hs []) aq aH from aB)) (rv:=((aQ.mono _ dg f47):(ae).rep (fun w=>K w∧Hs [.ext mV vH, .ext pH yU] w) Bo hY.1)) rfl rfl rfl rfl Jo) (fun _ _=>?_)
 refine eU (dx (M:=(LI .i64)) (bf.id (L:=(LI .i64))) hY.2 hY.2 rfl rfl rfl rfl rfl) (fun _ _=>?_)
 refine aW ?_
 refine aE ?_
 refine jb ?_
 replace h:=Option.some.inj h
 subst h
 refine tB jP ?_
 refine bP (R:=[.ext pH yU, .ext mV vH]) (H':=[.cells Hf 57 ((LI .i64).enc hY.2), .cells wR 41 G9]) (ks:=[0,2,3,4]) rfl (by decide) ?_
 have Lp:(ae).rep (fun w=>K w∧(Hs [.ext (bz [.ext pH yU, .ext mV vH]) (Hs [.ext pH yU, .ext mV vH])]) w) G9 hY.1:=aQ.mono _ dg f50
 exact cg (.tuple #[.agg G9.toArray, .int .i64 hY.2],bz [.ext pH yU, .ext mV vH],Hs [.ext pH yU, .ext mV vH]) rfl (.agg rfl inferInstance inferInstance (aQ.len _ f50) (.one rfl inferInstance inferInstance rfl .nil)) ⟨_,rfl,Lp⟩ rfl (ks:=[0]) rfl (by decide)
def iO (n:Nat) (a0:ai) (a1:Int) (a2:Int) (a3:Int) (a4:Bool):Option (ai × Int):=
 bd (lz n a0 a1 a2 a3 a4) fun bu =>
 cn ((bu.2 != 0)) (
 some (a0,bu.2)) (
 some (bu.1,0))
theorem kE {n:Nat} {a0:ai} {a1:Int} {a2:Int} {a3:Int} {a4:Bool} {r:ai × Int} {K:World→Prop} [bT K] {dM:List Value} (f0:(ae).rep K dM a0) (h:iO n a0 a1 a2 a3 a4 = some r):tJ Try.prog 7 [.agg dM.toArray, .int .u32 a1, .int .i64 a2, .int .u32 a3, .bool a4] K (fun J v=>∃u0,v = (.tuple #[.agg u0.toArray, .int .i64 r.2])∧(ae).rep (fun w=>K w∧J w) u0 (r.1)):=by
 unfold iO at h
 refine eF Try.func7 (by kernel_rfl) rfl Try.ntmps7 rfl (fun cx cU hpre hro=>?_)
 haveI:=kB cU hpre
 refine aU ?_
 refine az ?_
 refine cu rfl (cH rfl) (fun b5 _=>?_)
 refine cu rfl (bK (hz:=(⟨by kernel_rfl⟩ : cK Try.prog 41 aq))) (fun wR _=>?_)
 refine ah rfl (aP rfl) ?_
 refine aW ?_
 refine aE ?_
 refine aU ?_
 obtain ⟨bu,cS,h⟩:=bM h
 refine az ?_
 refine ah rfl (ay rfl (aQ.len _ f0)) ?_
 refine ah rfl (ak rfl) ?_
 refine ah rfl (ak rfl) ?_
 refine ah rfl (ak rfl) ?_
 refine ah rfl (ak rfl) ?_
 refine cu rfl (dy (uO (K:=K) (aQ.mono _ dg f0) cS) rfl) (fun ⟨u9,cw,fu⟩ nt=>?_)
 obtain ⟨om,rfl,f26⟩:=nt
 replace f26:(ae).rep (fun w=>K w∧Hs [.ext cw fu] w) om bu.1:=f26
 refine ah rfl (ak rfl) ?_
 refine ah rfl (aM rfl rfl) ?_
 refine ah rfl (aM rfl rfl) ?_
 refine cu rfl (bK (hz:=(⟨by kernel_rfl⟩ : cK Try.prog 41 aq))) (fun J5 _=>?_)
 obtain ⟨pO,ux,f29⟩ : ∃cc,bw aq 0 om = cc∧(ae).rep (fun w=>K w∧Hs [.ext cw fu] w) cc bu.1:=⟨_,rfl,(bf.id (L:=ae)).set (aQ.mono _ dg (show (ae).rep (Hs []) aq aH from aB)) (aQ.mono _ dg f26)⟩
 refine eU (dL om (bf.id (L:=ae)) (v:=bu.1) (r:=(show (ae).rep (Hs []) aq aH from aB)) (rv:=((aQ.mono _ dg f26):(ae).rep (fun w=>K w∧Hs [.ext cw fu] w) om bu.1)) rfl rfl rfl rfl ux) (fun _ _=>?_)
 refine ah rfl (aP rfl) ?_
 refine aW ?_
 refine aE ?_
 refine aU ?_
 refine aU ?_
 refine az ?_
 refine ah rfl (ak rfl) ?_
 refine ah rfl (jG rfl rfl) ?_
 refine aW ?_
 refine aE ?_
 refine gB rfl (fun hc=>?_) (fun hc=>?_)
 ·
  replace h:=nC hc h
  refine aU ?_
  refine az ?_
  refine ah rfl (ay rfl (aQ.len _ f0)) ?_
  refine ah rfl (ak rfl) ?_
  obtain ⟨Al,ya,f31⟩ : ∃cc,bw aq 0 dM = cc∧(ae).rep K cc a0:=⟨_,rfl,(bf.id (L:=ae)).set (aQ.mono _ dg (show (ae).rep (Hs []) aq aH from aB)) (aQ.mono _ dg f0)⟩
  refine eU (dL dM (bf.id (L:=ae)) (v:=a0) (r:=(show (ae).rep (Hs []) aq aH from aB)) (rv:=((aQ.mono _ dg f0):(ae).rep K dM a0)) rfl rfl rfl rfl ya) (fun _ _=>?_)
  refine ah rfl (aP rfl) ?_
  refine aW ?_
  refine aE ?_
  refine jb ?_
  refine cE ?_
  replace h:=Option.some.inj h
  subst h
  refine bP (R:=[]) (H':=[.cells wR 41 Al]) (ks:=[2]) rfl (by decide) ?_
  have Lu:(ae).rep (fun w=>K w∧(Hs [.ext (bz []) (Hs [])]) w) Al a0:=aQ.mono _ dg f31
  exact cg (.tuple #[.agg Al.toArray, .int .i64 bu.2],bz [],Hs []) rfl (.agg rfl inferInstance inferInstance (aQ.len _ f31) (.tmp rfl .nil)) ⟨_,rfl,Lu⟩ rfl (ks:=[0]) rfl (by decide)
 ·
  replace h:=nD hc h
  refine gG ?_
  refine aE ?_
  refine aU ?_
  refine az ?_
  refine ah rfl (ay rfl (aQ.len _ f29)) ?_
  obtain ⟨tp,Jt,f34⟩ : ∃cc,bw aq 0 pO = cc∧(ae).rep (fun w=>K w∧Hs [.ext cw fu] w) cc bu.1:=⟨_,rfl,(bf.id (L:=ae)).set (aQ.mono _ dg (show (ae).rep (Hs []) aq aH from aB)) (aQ.mono _ dg f29)⟩
  refine eU (dL pO (bf.id (L:=ae)) (v:=bu.1) (r:=(show (ae).rep (Hs []) aq aH from aB)) (rv:=((aQ.mono _ dg f29):(ae).rep (fun w=>K w∧Hs [.ext cw fu] w) pO bu.1)) rfl rfl rfl rfl Jt) (fun _ _=>?_)
  refine ah rfl (aP rfl) ?_
  refine aW ?_
  refine aE ?_
  refine jb ?_
  replace h:=Option.some.inj h
  subst h
  refine bP (R:=[.ext cw fu]) (H':=[.cells wR 41 tp]) (ks:=[1,2]) rfl (by decide) ?_
  have Lt:(ae).rep (fun w=>K w∧(Hs [.ext (bz [.ext cw fu]) (Hs [.ext cw fu])]) w) tp bu.1:=aQ.mono _ dg f34
  exact cg (.tuple #[.agg tp.toArray, .int .i64 0],bz [.ext cw fu],Hs [.ext cw fu]) rfl (.agg rfl inferInstance inferInstance (aQ.len _ f34) (.tmp rfl .nil)) ⟨_,rfl,Lt⟩ rfl (ks:=[0]) rfl (by decide)
def iG (n:Nat)  : Option Bool:=
 bd (fW n aH 0 1) fun bu =>
 bd (fW n bu.1 1 1) fun bW =>
 bd (fW n bW.1 1 1) fun iD =>
 bd (iO n iD.1 2 0 1 false) fun kX =>
 bd (iO n kX.1 2 1 3 false) fun oM =>
 bd (iO n kX.1 1 0 2 false) fun u5 =>
 bd (fy n kX.1 2 0) fun qV =>
 bd (fy n kX.1 2 1) fun uZ =>
 some ((((((kX.2 == 0) && (oM.2 == 5)) && (u5.2 == 5)) && (qV.1 == 1)) && (qV.2 == 0)) && (uZ.2 == 10))
theorem l6 {n:Nat}  {r:Bool}  (h:iG n  = some r):yW Try.prog 5 [] (.bool r):=by
 unfold iG at h
 refine eF Try.func5 (by kernel_rfl) rfl Try.ntmps5 rfl (fun cx cU hpre hro=>?_)
 refine aU ?_
 refine az ?_
 refine ah rfl (aP rfl) ?_
 refine aW ?_
 refine aE ?_
 refine aU ?_
 refine az ?_
 refine cu rfl (bK (hz:=(⟨by kernel_rfl⟩ : cK Try.prog 41 aq))) (fun b1 _=>?_)
 refine aW ?_
 refine aE ?_
 refine aU ?_
 obtain ⟨bu,cS,h⟩:=bM h
 refine az ?_
 refine ah rfl (ay rfl (aQ.len _ (show (ae).rep (Hs []) aq aH from aB))) ?_
 refine cu rfl (dy (jl (K:=(Hs [])) (aQ.mono _ dg (show (ae).rep (Hs []) aq aH from aB)) cS) rfl) (fun ⟨u9,cw,fu⟩ nt=>?_)
 obtain ⟨om,rfl,f26⟩:=nt
 replace f26:(ae).rep (fun w=>(Hs []) w∧Hs [.ext cw fu] w) om bu.1:=f26
 refine ah rfl (ak rfl) ?_
 refine ah rfl (aM rfl rfl) ?_
 refine ah rfl (aM rfl rfl) ?_
 refine ah rfl (aM rfl rfl) ?_
 obtain ⟨pO,ux,f29⟩ : ∃cc,bw aq 0 om = cc∧(ae).rep (Hs [.ext cw fu]) cc bu.1:=⟨_,rfl,(bf.id (L:=ae)).set (aQ.mono _ dg (show (ae).rep (Hs []) aq aH from aB)) (aQ.mono _ dg f26)⟩
 refine eU (dL om (bf.id (L:=ae)) (v:=bu.1) (r:=(show (ae).rep (Hs []) aq aH from aB)) (rv:=((aQ.mono _ dg f26):(ae).rep (Hs [.ext cw fu]) om bu.1)) rfl rfl rfl rfl ux) (fun _ _=>?_)
 refine aW ?_
 refine aE ?_
 refine aU ?_
 obtain ⟨bW,pY,h⟩:=bM h
 refine az ?_
 refine ah rfl (ay rfl (aQ.len _ f29)) ?_
 refine cu rfl (dy (jl (K:=(Hs [.ext cw fu])) (aQ.mono _ dg f29) pY) rfl) (fun ⟨M6,jX,qj⟩ IV=>?_)
 obtain ⟨Gm,rfl,f35⟩:=IV
 replace f35:(ae).rep (fun w=>(Hs [.ext cw fu]) w∧Hs [.ext jX qj] w) Gm bW.1:=f35
 refine ah rfl (ak rfl) ?_
 refine ah rfl (aM rfl rfl) ?_
 refine ah rfl (aM rfl rfl) ?_
 refine ah rfl (aM rfl rfl) ?_
 obtain ⟨KK,Js,f38⟩ : ∃cc,bw pO 0 Gm = cc∧(ae).rep (Hs [.ext cw fu, .ext jX qj]) cc bW.1:=⟨_,rfl,(bf.id (L:=ae)).set (aQ.mono _ dg f29) (aQ.mono _ dg f35)⟩
 refine eU (dL Gm (bf.id (L:=ae)) (v:=bW.1) (r:=f29) (rv:=((aQ.mono _ dg f35):(ae).rep (Hs [.ext cw fu, .ext jX qj]) Gm bW.1)) rfl rfl rfl rfl Js) (fun _ _=>?_)
 refine aW ?_
 refine aE ?_
 refine aU ?_
 obtain ⟨iD,rB,h⟩:=bM h
 refine az ?_
 refine ah rfl (ay rfl (aQ.len _ f38)) ?_
 refine cu rfl (dy (jl (K:=(Hs [.ext cw fu, .ext jX qj])) (aQ.mono _ dg f38) rB) rfl) (fun ⟨M4,lB,tF⟩ IU=>?_)
 obtain ⟨He,rfl,f44⟩:=IU
 replace f44:(ae).rep (fun w=>(Hs [.ext cw fu, .ext jX qj]) w∧Hs [.ext lB tF] w) He iD.1:=f44
 refine ah rfl (ak rfl) ?_
 refine ah rfl (aM rfl rfl) ?_
 refine ah rfl (aM rfl rfl) ?_
 refine ah rfl (aM rfl rfl) ?_
 obtain ⟨Mx,Jp,f47⟩ : ∃cc,bw KK 0 He = cc∧(ae).rep (Hs [.ext cw fu, .ext jX qj, .ext lB tF]) cc iD.1:=⟨_,rfl,(bf.id (L:=ae)).set (aQ.mono _ dg f38) (aQ.mono _ dg f44)⟩
 refine eU (dL He (bf.id (L:=ae)) (v:=iD.1) (r:=f38) (rv:=((aQ.mono _ dg f44):(ae).rep (Hs [.ext cw fu, .ext jX qj, .ext lB tF]) He iD.1)) rfl rfl rfl rfl Jp) (fun _ _=>?_)
 refine aW ?_
 refine aE ?_
 refine aU ?_
 obtain ⟨kX,Ck,h⟩:=bM h
 refine az ?_
 refine ah rfl (ay rfl (aQ.len _ f47)) ?_
 refine cu rfl (dy (kE (K:=(Hs [.ext cw fu, .ext jX qj, .ext lB tF])) (aQ.mono _ dg f47) Ck) rfl) (fun ⟨M0,nH,wI⟩ IQ=>?_)
 obtain ⟨G8,rfl,f53⟩:=IQ
 replace f53:(ae).rep (fun w=>(Hs [.ext cw fu, .ext jX qj, .ext lB tF]) w∧Hs [.ext nH wI] w) G8 kX.1:=f53
 refine ah rfl (ak rfl) ?_
 refine ah rfl (aM rfl rfl) ?_
 refine ah rfl (aM rfl rfl) ?_
 obtain ⟨Gl,C0,f56⟩ : ∃cc,bw Mx 0 G8 = cc∧(ae).rep (Hs [.ext cw fu, .ext jX qj, .ext lB tF, .ext nH wI]) cc kX.1:=⟨_,rfl,(bf.id (L:=ae)).set (aQ.mono _ dg f47) (aQ.mono _ dg f53)⟩
 refine eU (dL G8 (bf.id (L:=ae)) (v:=kX.1) (r:=f47) (rv:=((aQ.mono _ dg f53):(ae).rep (Hs [.ext cw fu, .ext jX qj, .ext lB tF, .ext nH wI]) G8 kX.1)) rfl rfl rfl rfl C0) (fun _ _=>?_)
 refine ah rfl (aP rfl) ?_
 refine aW ?_
 refine aE ?_
 refine aU ?_
 obtain ⟨oM,sU,h⟩:=bM h
 refine az ?_
 refine ah rfl (ay rfl (aQ.len _ f56)) ?_
 refine cu rfl (dy (kE (K:=(Hs [.ext cw fu, .ext jX qj, .ext lB tF, .ext nH wI])) (aQ.mono _ dg f56) sU) rfl) (fun ⟨K7,qb,y9⟩ Ct=>?_)
 obtain ⟨Ak,rfl,f62⟩:=Ct
 replace f62:(ae).rep (fun w=>(Hs [.ext cw fu, .ext jX qj, .ext lB tF, .ext nH wI]) w∧Hs [.ext qb y9] w) Ak oM.1:=f62
 refine ah rfl (ak rfl) ?_
 refine ah rfl (aM rfl rfl) ?_
 refine ah rfl (aM rfl rfl) ?_
 refine cu rfl (bK (hz:=(⟨by kernel_rfl⟩ : cK Try.prog 41 aq))) (fun b3 _=>?_)
 obtain ⟨J1,CZ,f65⟩ : ∃cc,bw aq 0 Ak = cc∧(ae).rep (Hs [.ext cw fu, .ext jX qj, .ext lB tF, .ext nH wI, .ext qb y9]) cc oM.1:=⟨_,rfl,(bf.id (L:=ae)).set (aQ.mono _ dg (show (ae).rep (Hs []) aq aH from aB)) (aQ.mono _ dg f62)⟩
 refine eU (dL Ak (bf.id (L:=ae)) (v:=oM.1) (r:=(show (ae).rep (Hs []) aq aH from aB)) (rv:=((aQ.mono _ dg f62):(ae).rep (Hs [.ext cw fu, .ext jX qj, .ext lB tF, .ext nH wI, .ext qb y9]) Ak oM.1)) rfl rfl rfl rfl CZ) (fun _ _=>?_)
 refine ah rfl (aP rfl) ?_
 refine aW ?_
 refine aE ?_
 refine aU ?_
 obtain ⟨u5,Ci,h⟩:=bM h
 refine az ?_
 refine ah rfl (ay rfl (aQ.len _ f56)) ?_
 refine cu rfl (dy (kE (K:=(Hs [.ext cw fu, .ext jX qj, .ext lB tF, .ext nH wI])) (aQ.mono _ dg f56) Ci) rfl) (fun ⟨K6,qa,y8⟩ Cs=>?_)
 obtain ⟨Ai,rfl,f71⟩:=Cs
 replace f71:(ae).rep (fun w=>(Hs [.ext cw fu, .ext jX qj, .ext lB tF, .ext nH wI]) w∧Hs [.ext qa y8] w) Ai u5.1:=f71
 refine ah rfl (ak rfl) ?_
 refine ah rfl (aM rfl rfl) ?_
 refine ah rfl (aM rfl rfl) ?_
 refine cu rfl (bK (hz:=(⟨by kernel_rfl⟩ : cK Try.prog 41 aq))) (fun b5 _=>?_)
 obtain ⟨J0,CY,f74⟩ : ∃cc,bw aq 0 Ai = cc∧(ae).rep (Hs [.ext cw fu, .ext jX qj, .ext lB tF, .ext nH wI, .ext qa y8]) cc u5.1:=⟨_,rfl,(bf.id (L:=ae)).set (aQ.mono _ dg (show (ae).rep (Hs []) aq aH from aB)) (aQ.mono _ dg f71)⟩
 refine eU (dL Ai (bf.id (L:=ae)) (v:=u5.1) (r:=(show (ae).rep (Hs []) aq aH from aB)) (rv:=((aQ.mono _ dg f71):(ae).rep (Hs [.ext cw fu, .ext jX qj, .ext lB tF, .ext nH wI, .ext qa y8]) Ai u5.1)) rfl rfl rfl rfl CY) (fun _ _=>?_)
 refine ah rfl (aP rfl) ?_
 refine aW ?_
 refine aE ?_
 refine aU ?_
 obtain ⟨qV,Ch,h⟩:=bM h
 refine az ?_
 refine ah rfl (ay rfl (aQ.len _ f56)) ?_
 refine ah rfl (bZ (jm (K:=(Hs [.ext cw fu, .ext jX qj, .ext lB tF, .ext nH wI])) (aQ.mono _ dg f56) Ch) rfl kn) ?_
 refine ah rfl (ak rfl) ?_
 refine ah rfl (aM rfl rfl) ?_
 refine ah rfl (aM rfl rfl) ?_
 refine ah rfl (aP rfl) ?_
 refine ah rfl (aP rfl) ?_
 refine aW ?_
 refine aE ?_
 refine aU ?_
 obtain ⟨uZ,xJ,h⟩:=bM h
 refine az ?_
 refine ah rfl (ay rfl (aQ.len _ f56)) ?_
 refine ah rfl (bZ (jm (K:=(Hs [.ext cw fu, .ext jX qj, .ext lB tF, .ext nH wI])) (aQ.mono _ dg f56) xJ) rfl kn) ?_
 refine ah rfl (ak rfl) ?_
 refine ah rfl (aM rfl rfl) ?_
 refine ah rfl (aM rfl rfl) ?_
 refine ah rfl (aP rfl) ?_
 refine ah rfl (aP rfl) ?_
 refine aW ?_
 refine aE ?_
 refine aU ?_
 refine az ?_
 refine ah rfl (ak rfl) ?_
 refine ah rfl (dV rfl rfl) ?_
 refine ah rfl (ak rfl) ?_
 refine cI (di rfl rfl) rfl (fun hb=>ak rfl) ?_
 refine cI (di rfl rfl) rfl (fun hb=>dV (cT rfl hb) rfl) ?_
 refine ah rfl (ec rfl rfl) ?_
 refine ah rfl (ak rfl) ?_
 refine cI (di rfl rfl) rfl (fun hb=>ak rfl) ?_
 refine cI (di rfl rfl) rfl (fun hb=>dV (cT rfl hb) rfl) ?_
 refine ah rfl (ec rfl rfl) ?_
 refine ah rfl (ak rfl) ?_
 refine cI (di rfl rfl) rfl (fun hb=>ak rfl) ?_
 refine cI (di rfl rfl) rfl (fun hb=>dV (cT rfl hb) rfl) ?_
 refine ah rfl (ec rfl rfl) ?_
 refine ah rfl (ak rfl) ?_
 refine cI (di rfl rfl) rfl (fun hb=>ak rfl) ?_
 refine cI (di rfl rfl) rfl (fun hb=>dV (cT rfl hb) rfl) ?_
 refine ah rfl (ec rfl rfl) ?_
 refine ah rfl (ak rfl) ?_
 refine cI (di rfl rfl) rfl (fun hb=>ak rfl) ?_
 refine cI (di rfl rfl) rfl (fun hb=>dV (cT rfl hb) rfl) ?_
 refine ah rfl (ec rfl rfl) ?_
 refine ah rfl (aP rfl) ?_
 refine aW ?_
 refine aE ?_
 refine jb ?_
 replace h:=Option.some.inj h
 subst h
 exact cg () rfl (.tmp rfl .nil) trivial rfl (ks:=[]) rfl (by decide)
def eL (n:Nat) (a0:(List gP)):Option Bool:=
 cn (decide (100 < (a0.length:Int))) (
 bd (iG n ) fun bu =>
 some bu) (
 dF (fun A8 (fF:Int) (eZ:ai) =>
 cn (decide (fF < (a0.length:Int))) (
 gu (dB fF a0.length) <|
 lt ((a0.getD (Int.toNat fF) default):gP) fun iD =>
 lt (fun (hY:ai) =>
 bd (eu n hY.book) fun pN =>
 dk (fun B7 (iE:Int) =>
 cn (decide (iE < (pN.length:Int))) (
 dk (fun B6 (lS:Int) =>
 cn (decide (lS < 8)) (
 gu (dB iE pN.length) <|
 bd (fy n hY (pN.getD (Int.toNat iE) default) lS) fun lR =>
 gu (!(((lR.2 != 10) == true) && ((lR.2 != 0) == false)) || dB iE pN.length) <|
 cl (((lR.2 != 10) == true) && ((lR.2 != 0) == false)) (cY n hY lR.1 (pN.getD (Int.toNat iE) default)) default fun ze =>
 cn (((lR.2 != 10) && ((lR.2 != 0) || (!ze)))) (
 some false) (
 B6 (wr .i64 (lS + 1)))) (
 B7 (wr .i64 (iE + 1)))) n 0) (
 A8 (wr .i64 (fF + 1)) hY)) n 0) fun Ba =>
 cn ((iD.Do == 0)) (
 bd (iL n eZ iD.A) fun kN =>
 Ba kN.1) (
 cn ((iD.Do == 1)) (
 bd (jB n eZ iD.A) fun oM =>
 Ba oM.1) (
 cn ((iD.Do == 2)) (
 bd (gX n eZ iD.A iD.B) fun u5 =>
 Ba u5.1) (
 cn ((iD.Do == 3)) (
 bd (iO n eZ iD.A iD.bq iD.C false) fun qV =>
 bd (fy n qV.1 iD.A iD.bq) fun ow =>
 cn (((((qV.2 == 0) && (iD.C != 0)) && ((ow.2 != 0) || (ow.1 != iD.C))) || (((qV.2 == 0) && (iD.C == 0)) && (ow.2 != 10)))) (
 some false) (
 Ba qV.1)) (
 bd (fW n eZ iD.A iD.bq) fun tK =>
 Ba tK.1))))) (
 bd (iG n ) fun Ei =>
 some Ei)) n 0 aH)
theorem kC {n:Nat} {a0:(List gP)} {r:Bool} {K:World→Prop} [bT K] {v0:Value} (f0:Fz K v0 bL a0) (h:eL n a0 = some r):wU Try.prog 4 [v0] K (.bool r):=by
 unfold eL at h
 refine eF Try.func4 (by kernel_rfl) rfl Try.ntmps4 rfl (fun cx cU hpre hro=>?_)
 haveI:=kB cU hpre
 refine aU ?_
 refine az ?_
 refine ah rfl (aP rfl) ?_
 refine aW ?_
 refine aE ?_
 refine aU ?_
 refine aU ?_
 refine az ?_
 refine ah rfl (ak rfl) ?_
 refine ah rfl (fJ f0 rfl) ?_
 refine ah rfl (uT rfl rfl) ?_
 refine aW ?_
 refine aE ?_
 refine gB rfl (fun hc=>?_) (fun hc=>?_)
 ·
  replace h:=nC hc h
  refine aU ?_
  obtain ⟨bu,cS,h⟩:=bM h
  refine az ?_
  refine ah rfl (bZ (l6 cS) rfl (fun _ _ _=>trivial)) ?_
  refine ah rfl (aP rfl) ?_
  refine aW ?_
  refine aE ?_
  refine jb ?_
  refine cE ?_
  replace h:=Option.some.inj h
  subst h
  exact cg () rfl (.tmp rfl .nil) trivial rfl (ks:=[]) rfl (by decide)
 ·
  replace h:=nD hc h
  refine gG ?_
  refine aE ?_
  refine aU ?_
  refine az ?_
  refine cu rfl (bK (hz:=(⟨by kernel_rfl⟩ : cK Try.prog 41 aq))) (fun b3 _=>?_)
  refine aW ?_
  refine aE ?_
  refine aU ?_
  refine aU ?_
  refine az ?_
  refine ah rfl (aP rfl) ?_
  refine aW ?_
  refine aE ?_
  refine gC ?_
  obtain ⟨zF,xS,h⟩:=qI h
  refine mZ ?_
  refine mY (α:=Nat × Int × ai × (List Value) × (List Nat) × (World→Prop)) [0,3] (.cons rfl (.cons rfl (.nil))) (fun (tZ,fF,eZ,tp,eS,jV)=>[(4, .int .i64 fF)]) (fun (tZ,fF,eZ,tp,eS,jV)=>[.ext eS jV, .cells b3 41 tp]) (fun (tZ,fF,eZ,tp,eS,jV)=>(ae).rep (Hs [.ext eS jV]) tp eZ∧dF zF tZ fF eZ = some r) (fun (tZ,fF,eZ,tp,eS,jV)=>tZ) (n,0,aH,aq,[],(Hs [])) ⟨(aQ.mono _ dg (show (ae).rep (Hs []) aq aH from aB)),h⟩ (ko rfl (hJ)) (ks:=[0,1]) rfl (by decide) ?_
  rintro ⟨tZ,fF,eZ,tp,eS,jV⟩ ⟨f34,h⟩
  replace h:dF zF tZ fF eZ = some r:=h
  replace h:=qH xS h
  obtain ⟨tZ,rfl,h⟩:=h
  refine aU ?_
  refine aU ?_
  refine az ?_
  refine ah rfl (ak rfl) ?_
  refine ah rfl (ak rfl) ?_
  refine ah rfl (fJ f0 rfl) ?_
  refine ah rfl (mB rfl rfl) ?_
  refine aW ?_
  refine aE ?_
  refine gB rfl (fun hc=>?_) (fun hc=>?_)
  ·
   replace h:=nC hc h
   refine gG ?_
   refine aE ?_
   refine aU ?_
   refine gC ?_
   refine aU ?_
   obtain ⟨od,h⟩:=eX h
   obtain ⟨iD,rB,h⟩:=dj h
   refine az ?_
   refine ah rfl (ak rfl) ?_
   refine ah rfl (ak rfl) ?_
   refine ah rfl (gM (m:=(Int.toNat fF)) f0 rfl rfl rfl (aV od).1 (aV od).2) ?_
   refine ah rfl (oG (M:=bL) f0 (bf.idx (L:=bL) (m:=(a0.length)) (k:=5) ((Int.toNat fF)) (aV od).2 rfl) rfl rfl (by decide)) ?_
   refine cu rfl (cL (L:=bL) (z:=n6) ⟨by kernel_rfl⟩) (fun b5 _=>?_)
   refine eU (dx (M:=bL) (bf.id (L:=bL)) (a0.getD (Int.toNat fF) default) iD rB rfl rfl rfl rfl) (fun _ _=>?_)
   refine aW ?_
   refine aE ?_
   refine aU ?_
   refine az ?_
   refine ah rfl (aK rfl) ?_
   refine ah rfl (bD qg rfl) ?_
   refine ah rfl (aP rfl) ?_
   refine aW ?_
   refine aE ?_
   obtain ⟨Ba,Ja,h⟩:=dj h
   refine vy (α:=ai × (List Value) × (List Nat) × (World→Prop)) [0,3,4] (.cons rfl (.cons rfl (.cons rfl (.nil)))) (fun (hY,tI,oo,wT)=>[]) (fun (hY,tI,oo,wT)=>[.ext oo wT, .cells b5 55 (bL.enc iD), .ext eS jV, .cells b3 41 tI]) (fun (hY,tI,oo,wT)=>(ae).rep (Hs [.ext eS jV, .ext oo wT]) tI hY∧Ba hY = some r) ?_ ?_
   ·
    refine aU ?_
    refine az ?_
    refine ah rfl (aK rfl) ?_
    refine ah rfl (bD pM rfl) ?_
    refine aW ?_
    refine aE ?_
    refine gC ?_
    refine aU ?_
    refine az ?_
    refine ah rfl (dV rfl rfl) ?_
    refine ah rfl (aP rfl) ?_
    refine aW ?_
    refine aE ?_
    refine gB rfl (fun hc=>?_) (fun hc=>?_)
    ·
     replace h:=nC hc h
     obtain ⟨kN,Cl,h⟩:=bM h
     refine az ?_
     refine ah rfl (ay rfl (aQ.len _ f34)) ?_
     refine ah rfl (ak rfl) ?_
     refine cu rfl (dy (p9 (K:=(Hs [.ext eS jV])) (aQ.mono _ dg f34) Cl) rfl) (fun ⟨M1,uQ,DK⟩ IS=>?_)
     obtain ⟨wP,Lb,rfl,f51,f53⟩:=IS
     replace f51:(ae).rep (fun w=>(Hs [.ext eS jV]) w∧Hs [.ext uQ DK] w) wP kN.1:=f51
     replace f53:Fz (fun w=>(Hs [.ext eS jV]) w∧Hs [.ext uQ DK] w) Lb (LI .u32) kN.2.1:=f53
     refine ah rfl (ak rfl) ?_
     refine ah rfl (aM rfl rfl) ?_
     refine ah rfl (aM rfl rfl) ?_
     refine ah rfl (aM rfl rfl) ?_
     obtain ⟨Gl,C0,f56⟩ : ∃cc,bw tp 0 wP = cc∧(ae).rep (Hs [.ext eS jV, .ext uQ DK]) cc kN.1:=⟨_,rfl,(bf.id (L:=ae)).set (aQ.mono _ dg f34) (aQ.mono _ dg f51)⟩
     refine eU (dL wP (bf.id (L:=ae)) (v:=kN.1) (r:=f34) (rv:=((aQ.mono _ dg f51):(ae).rep (Hs [.ext eS jV, .ext uQ DK]) wP kN.1)) rfl rfl rfl rfl C0) (fun _ _=>?_)
     refine aW ?_
     refine gA ?_
     refine bP (R:=[.ext uQ DK]) (H':=[.cells b5 55 (bL.enc iD), .ext eS jV, .cells b3 41 Gl]) (ks:=[0,1,2,3]) rfl (by decide) ?_
     exact lP (kN.1,Gl,(bz [.ext uQ DK]),(Hs [.ext uQ DK])) ⟨(aQ.mono _ dg f56),h⟩ (hJ) (.cons rfl (.cons rfl (.cons rfl (.nil)))) (ks:=[0,1,2,3]) rfl (by decide)
    ·
     replace h:=nD hc h
     refine aU ?_
     refine az ?_
     refine ah rfl (dV rfl rfl) ?_
     refine ah rfl (aP rfl) ?_
     refine aW ?_
     refine aE ?_
     refine gB rfl (fun hc=>?_) (fun hc=>?_)
     ·
      replace h:=nC hc h
      obtain ⟨oM,sU,h⟩:=bM h
      refine az ?_
      refine ah rfl (ay rfl (aQ.len _ f34)) ?_
      refine ah rfl (ak rfl) ?_
      refine cu rfl (dy (rT (K:=(Hs [.ext eS jV])) (aQ.mono _ dg f34) sU) rfl) (fun ⟨K7,qb,y9⟩ Ct=>?_)
      obtain ⟨Ak,rfl,f62⟩:=Ct
      replace f62:(ae).rep (fun w=>(Hs [.ext eS jV]) w∧Hs [.ext qb y9] w) Ak oM.1:=f62
      refine ah rfl (ak rfl) ?_
      refine ah rfl (aM rfl rfl) ?_
      refine ah rfl (aM rfl rfl) ?_
      obtain ⟨J1,CZ,f65⟩ : ∃cc,bw tp 0 Ak = cc∧(ae).rep (Hs [.ext eS jV, .ext qb y9]) cc oM.1:=⟨_,rfl,(bf.id (L:=ae)).set (aQ.mono _ dg f34) (aQ.mono _ dg f62)⟩
      refine eU (dL Ak (bf.id (L:=ae)) (v:=oM.1) (r:=f34) (rv:=((aQ.mono _ dg f62):(ae).rep (Hs [.ext eS jV, .ext qb y9]) Ak oM.1)) rfl rfl rfl rfl CZ) (fun _ _=>?_)
      refine aW ?_
      refine gA ?_
      refine bP (R:=[.ext qb y9]) (H':=[.cells b5 55 (bL.enc iD), .ext eS jV, .cells b3 41 J1]) (ks:=[0,1,2,3]) rfl (by decide) ?_
      exact lP (oM.1,J1,(bz [.ext qb y9]),(Hs [.ext qb y9])) ⟨(aQ.mono _ dg f65),h⟩ (hJ) (.cons rfl (.cons rfl (.cons rfl (.nil)))) (ks:=[0,1,2,3]) rfl (by decide)
     ·
      replace h:=nD hc h
      refine aU ?_
      refine az ?_
      refine ah rfl (dV rfl rfl) ?_
      refine ah rfl (aP rfl) ?_
      refine aW ?_
      refine aE ?_
      refine gB rfl (fun hc=>?_) (fun hc=>?_)
      ·
       replace h:=nC hc h
       obtain ⟨u5,Ci,h⟩:=bM h
       refine az ?_
       refine ah rfl (ay rfl (aQ.len _ f34)) ?_
       refine ah rfl (ak rfl) ?_
       refine ah rfl (aK rfl) ?_
       refine ah rfl (bD qf rfl) ?_
       refine cu rfl (dy (pF (K:=(Hs [.ext eS jV])) (aQ.mono _ dg f34) Ci) rfl) (fun ⟨K6,qa,y8⟩ Cs=>?_)
       obtain ⟨Ai,rfl,f71⟩:=Cs
       replace f71:(ae).rep (fun w=>(Hs [.ext eS jV]) w∧Hs [.ext qa y8] w) Ai u5.1:=f71
       refine ah rfl (ak rfl) ?_
       refine ah rfl (aM rfl rfl) ?_
       refine ah rfl (aM rfl rfl) ?_
       obtain ⟨J0,CY,f74⟩ : ∃cc,bw tp 0 Ai = cc∧(ae).rep (Hs [.ext eS jV, .ext qa y8]) cc u5.1:=⟨_,rfl,(bf.id (L:=ae)).set (aQ.mono _ dg f34) (aQ.mono _ dg f71)⟩
       refine eU (dL Ai (bf.id (L:=ae)) (v:=u5.1) (r:=f34) (rv:=((aQ.mono _ dg f71):(ae).rep (Hs [.ext eS jV, .ext qa y8]) Ai u5.1)) rfl rfl rfl rfl CY) (fun _ _=>?_)
       refine aW ?_
       refine gA ?_
       refine bP (R:=[.ext qa y8]) (H':=[.cells b5 55 (bL.enc iD), .ext eS jV, .cells b3 41 J0]) (ks:=[0,1,2,3]) rfl (by decide) ?_
       exact lP (u5.1,J0,(bz [.ext qa y8]),(Hs [.ext qa y8])) ⟨(aQ.mono _ dg f74),h⟩ (hJ) (.cons rfl (.cons rfl (.cons rfl (.nil)))) (ks:=[0,1,2,3]) rfl (by decide)
      ·
       replace h:=nD hc h
       refine aU ?_
       refine az ?_
       refine ah rfl (dV rfl rfl) ?_
       refine ah rfl (aP rfl) ?_
       refine aW ?_
       refine aE ?_
       refine gB rfl (fun hc=>?_) (fun hc=>?_)
       ·
        replace h:=nC hc h
        refine aU ?_
        obtain ⟨qV,Ch,h⟩:=bM h
        refine az ?_
        refine ah rfl (ay rfl (aQ.len _ f34)) ?_
        refine ah rfl (ak rfl) ?_
        refine ah rfl (aK rfl) ?_
        refine ah rfl (bD hM rfl) ?_
        refine ah rfl (aK rfl) ?_
        refine ah rfl (bD iC rfl) ?_
        refine cu rfl (dy (kE (K:=(Hs [.ext eS jV])) (aQ.mono _ dg f34) Ch) rfl) (fun ⟨MX,rU,AL⟩ IP=>?_)
        obtain ⟨G6,rfl,f80⟩:=IP
        replace f80:(ae).rep (fun w=>(Hs [.ext eS jV]) w∧Hs [.ext rU AL] w) G6 qV.1:=f80
        refine ah rfl (ak rfl) ?_
        refine ah rfl (aM rfl rfl) ?_
        refine ah rfl (aM rfl rfl) ?_
        refine cu rfl (bK (hz:=(⟨by kernel_rfl⟩ : cK Try.prog 41 aq))) (fun b7 _=>?_)
        obtain ⟨G5,Jn,f83⟩ : ∃cc,bw aq 0 G6 = cc∧(ae).rep (Hs [.ext eS jV, .ext rU AL]) cc qV.1:=⟨_,rfl,(bf.id (L:=ae)).set (aQ.mono _ dg (show (ae).rep (Hs []) aq aH from aB)) (aQ.mono _ dg f80)⟩
        refine eU (dL G6 (bf.id (L:=ae)) (v:=qV.1) (r:=(show (ae).rep (Hs []) aq aH from aB)) (rv:=((aQ.mono _ dg f80):(ae).rep (Hs [.ext eS jV, .ext rU AL]) G6 qV.1)) rfl rfl rfl rfl Jn) (fun _ _=>?_)
        refine ah rfl (aP rfl) ?_
        refine aW ?_
        refine aE ?_
        refine aU ?_
        obtain ⟨ow,zP,h⟩:=bM h
        refine az ?_
        refine ah rfl (ay rfl (aQ.len _ f83)) ?_
        refine ah rfl (ak rfl) ?_
        refine ah rfl (aK rfl) ?_
        refine ah rfl (bD hM rfl) ?_
        refine ah rfl (bZ (jm (K:=(Hs [.ext eS jV, .ext rU AL])) (aQ.mono _ dg f83) zP) rfl kn) ?_
        refine ah rfl (ak rfl) ?_
        refine ah rfl (aM rfl rfl) ?_
        refine ah rfl (aM rfl rfl) ?_
        refine ah rfl (aP rfl) ?_
        refine ah rfl (aP rfl) ?_
        refine aW ?_
        refine aE ?_
        refine aU ?_
        refine aU ?_
        refine az ?_
        refine ah rfl (ak rfl) ?_
        refine ah rfl (dV rfl rfl) ?_
        refine ah rfl (ak rfl) ?_
        refine cI (di rfl rfl) rfl (fun hb=>aK rfl) ?_
        refine cI (di rfl rfl) rfl (fun hb=>bD iC (cT rfl hb)) ?_
        refine cI (di rfl rfl) rfl (fun hb=>jG (cT rfl hb) rfl) ?_
        refine ah rfl (ec rfl rfl) ?_
        refine ah rfl (ak rfl) ?_
        refine cI (di rfl rfl) rfl (fun hb=>ak rfl) ?_
        refine cI (di rfl rfl) rfl (fun hb=>jG (cT rfl hb) rfl) ?_
        refine cI (di rfl rfl) rfl (fun hb=>ak (cT rfl hb)) ?_
        refine cI (gp rfl rfl) rfl (fun hb=>ak rfl) ?_
        refine cI (gp rfl rfl) rfl (fun hb=>aK rfl) ?_
        refine cI (gp rfl rfl) rfl (fun hb=>bD iC (cT rfl hb)) ?_
        refine cI (gp rfl rfl) rfl (fun hb=>jG (cT rfl hb) (cT rfl hb)) ?_
        refine cI (di rfl rfl) rfl (fun hb=>fC (cT rfl hb) (uz rfl hb)) ?_
        refine ah rfl (ec rfl rfl) ?_
        refine ah rfl (ak rfl) ?_
        refine cI (di rfl rfl) rfl (fun hb=>ak rfl) ?_
        refine cI (di rfl rfl) rfl (fun hb=>dV (cT rfl hb) rfl) ?_
        refine cI (di rfl rfl) rfl (fun hb=>ak (cT rfl hb)) ?_
        refine cI (gp rfl rfl) rfl (fun hb=>aK rfl) ?_
        refine cI (gp rfl rfl) rfl (fun hb=>bD iC (cT rfl hb)) ?_
        refine cI (gp rfl rfl) rfl (fun hb=>dV (cT rfl hb) rfl) ?_
        refine cI (di rfl rfl) rfl (fun hb=>ec (cT rfl hb) (uz rfl hb)) ?_
        refine cI (di rfl rfl) rfl (fun hb=>ak (cT rfl hb)) ?_
        refine cI (gp rfl rfl) rfl (fun hb=>ak rfl) ?_
        refine cI (gp rfl rfl) rfl (fun hb=>jG (cT rfl hb) rfl) ?_
        refine cI (di rfl rfl) rfl (fun hb=>ec (cT rfl hb) (uz rfl hb)) ?_
        refine ah rfl (fC rfl rfl) ?_
        refine aW ?_
        refine aE ?_
        refine gB rfl (fun hc=>?_) (fun hc=>?_)
        ·
         replace h:=nC hc h
         refine aU ?_
         refine az ?_
         refine ah rfl (aP rfl) ?_
         refine aW ?_
         refine aE ?_
         refine jb ?_
         refine cE ?_
         refine dN ?_
         refine cE ?_
         refine dN ?_
         refine cE ?_
         refine cE ?_
         refine dN ?_
         refine cE ?_
         replace h:=Option.some.inj h
         subst h
         exact cg () rfl (.tmp rfl .nil) trivial rfl (ks:=[]) rfl (by decide)
        ·
         replace h:=nD hc h
         refine gG ?_
         refine aE ?_
         refine az ?_
         refine ah rfl (ay rfl (aQ.len _ f83)) ?_
         obtain ⟨KG,Jm,f86⟩ : ∃cc,bw tp 0 G5 = cc∧(ae).rep (Hs [.ext eS jV, .ext rU AL]) cc qV.1:=⟨_,rfl,(bf.id (L:=ae)).set (aQ.mono _ dg f34) (aQ.mono _ dg f83)⟩
         refine eU (dL G5 (bf.id (L:=ae)) (v:=qV.1) (r:=f34) (rv:=((aQ.mono _ dg f83):(ae).rep (Hs [.ext eS jV, .ext rU AL]) G5 qV.1)) rfl rfl rfl rfl Jm) (fun _ _=>?_)
         refine aW ?_
         refine gA ?_
         refine bP (R:=[.ext rU AL]) (H':=[.cells b7 41 G5, .cells b5 55 (bL.enc iD), .ext eS jV, .cells b3 41 KG]) (ks:=[1,0,2,3,4]) rfl (by decide) ?_
         exact lP (qV.1,KG,(bz [.ext rU AL]),(Hs [.ext rU AL])) ⟨(aQ.mono _ dg f86),h⟩ (hJ) (.cons rfl (.cons rfl (.cons rfl (.nil)))) (ks:=[0,2,3,4]) rfl (by decide)
       ·
        replace h:=nD hc h
        obtain ⟨tK,Ce,h⟩:=bM h
        refine az ?_
        refine ah rfl (ay rfl (aQ.len _ f34)) ?_
        refine ah rfl (ak rfl) ?_
        refine ah rfl (aK rfl) ?_
        refine ah rfl (bD hM rfl) ?_
        refine cu rfl (dy (jl (K:=(Hs [.ext eS jV])) (aQ.mono _ dg f34) Ce) rfl) (fun ⟨MV,wv,D9⟩ IN=>?_)
        obtain ⟨G3,rfl,f92⟩:=IN
        replace f92:(ae).rep (fun w=>(Hs [.ext eS jV]) w∧Hs [.ext wv D9] w) G3 tK.1:=f92
        refine ah rfl (ak rfl) ?_
        refine ah rfl (aM rfl rfl) ?_
        refine ah rfl (aM rfl rfl) ?_
        refine ah rfl (aM rfl rfl) ?_
        obtain ⟨G2,CX,f95⟩ : ∃cc,bw tp 0 G3 = cc∧(ae).rep (Hs [.ext eS jV, .ext wv D9]) cc tK.1:=⟨_,rfl,(bf.id (L:=ae)).set (aQ.mono _ dg f34) (aQ.mono _ dg f92)⟩
        refine eU (dL G3 (bf.id (L:=ae)) (v:=tK.1) (r:=f34) (rv:=((aQ.mono _ dg f92):(ae).rep (Hs [.ext eS jV, .ext wv D9]) G3 tK.1)) rfl rfl rfl rfl CX) (fun _ _=>?_)
        refine aW ?_
        refine gA ?_
        refine bP (R:=[.ext wv D9]) (H':=[.cells b5 55 (bL.enc iD), .ext eS jV, .cells b3 41 G2]) (ks:=[0,1,2,3]) rfl (by decide) ?_
        exact lP (tK.1,G2,(bz [.ext wv D9]),(Hs [.ext wv D9])) ⟨(aQ.mono _ dg f95),h⟩ (hJ) (.cons rfl (.cons rfl (.cons rfl (.nil)))) (ks:=[0,1,2,3]) rfl (by decide)
   ·
    rintro ⟨hY,tI,oo,wT⟩ ⟨f44,h⟩
    replace h:Ba hY = some r:=h
    replace h:=EV Ja h
    refine aU ?_
    obtain ⟨pN,Ie,h⟩:=bM h
    refine az ?_
    refine ah rfl (aK rfl) ?_
    refine ah rfl (bn rfl (aZ.iff.1 (aD.get f44)) (bF _ _)) ?_
    refine cu rfl (fK (ke Ie) rfl (fun _ _ _=>trivial)) (fun Hw xN=>?_)
    dsimp only [List.cons_append,List.nil_append]
    refine ah rfl (aP rfl) ?_
    refine aW ?_
    refine aE ?_
    refine aU ?_
    refine az ?_
    refine ah rfl (aP rfl) ?_
    refine aW ?_
    refine aE ?_
    refine gC ?_
    obtain ⟨A3,Cv,h⟩:=nW h
    refine mY (α:=Nat × Int) [0,3,4,11] (.cons rfl (.cons rfl (.cons rfl (.cons rfl (.nil))))) (fun (ru,iE)=>[(12, .int .i64 iE)]) (fun (ru,iE)=>[Row Hw 32 1 (LI .u32) pN, .ext oo wT, .cells b5 55 (bL.enc iD), .ext eS jV, .cells b3 41 tI]) (fun (ru,iE)=>dk A3 ru iE = some r) (fun (ru,iE)=>ru) (n,0) h (ko rfl (hJ)) (ks:=[0,1,2,3,4]) rfl (by decide) ?_
    rintro ⟨ru,iE⟩ h
    replace h:dk A3 ru iE = some r:=h
    replace h:=nV Cv h
    obtain ⟨ru,rfl,h⟩:=h
    refine aU ?_
    refine aU ?_
    refine az ?_
    refine ah rfl (ak rfl) ?_
    refine ah rfl (ak rfl) ?_
    refine ah rfl (fJ (Fz.row (e:=32) (sz:=1) (L:=(LI .u32)) (xs:=pN) rfl xN) rfl) ?_
    refine ah rfl (mB rfl rfl) ?_
    refine aW ?_
    refine aE ?_
    refine gB rfl (fun hc=>?_) (fun hc=>?_)
    ·
     replace h:=nC hc h
     refine gG ?_
     refine aE ?_
     refine aU ?_
     refine gC ?_
     refine aU ?_
     refine az ?_
     refine ah rfl (aP rfl) ?_
     refine aW ?_
     refine aE ?_
     refine gC ?_
     obtain ⟨A2,Cu,h⟩:=nW h
     refine mY (α:=Nat × Int) [0,3,4,11,12] (.cons rfl (.cons rfl (.cons rfl (.cons rfl (.cons rfl (.nil)))))) (fun (rq,lS)=>[(13, .int .i64 lS)]) (fun (rq,lS)=>[Row Hw 32 1 (LI .u32) pN, .ext oo wT, .cells b5 55 (bL.enc iD), .ext eS jV, .cells b3 41 tI]) (fun (rq,lS)=>dk A2 rq lS = some r) (fun (rq,lS)=>rq) (n,0) h (ko rfl (hJ)) (ks:=[0,1,2,3,4]) rfl (by decide) ?_
     rintro ⟨rq,lS⟩ h
     replace h:dk A2 rq lS = some r:=h
     replace h:=nV Cu h
     obtain ⟨rq,rfl,h⟩:=h
     refine aU ?_
     refine aU ?_
     refine az ?_
     refine ah rfl (ak rfl) ?_
     refine ah rfl (mB rfl rfl) ?_
     refine aW ?_
     refine aE ?_
     refine gB rfl (fun hc=>?_) (fun hc=>?_)
     ·
      replace h:=nC hc h
      refine gG ?_
      refine aE ?_
      refine aU ?_
      refine gC ?_
      refine aU ?_
      obtain ⟨x5,h⟩:=eX h
      obtain ⟨lR,E8,h⟩:=bM h
      refine g8 mixed (.oQ [] [(0,[3]),(1,[11]),(2,[12]),(3,[136,137]),(4,[138]),(5,[13]),(6,[135,139,140]),(7,[141]),(8,[134]),(9,[134])] (.alt 10 [142] (.oQ [(9,[134])] [] (.alt 11 [143] (.fin [] []) .no)) .no)) (by kernel_rfl) ?_
      refine r9 ?_ ?_
      ·exact m6
      refine bx rfl rfl (kH rfl (ay rfl (aQ.len _ f44))) ?_
      refine bx rfl rfl (kH rfl (ak rfl)) ?_
      refine bx rfl rfl (kH rfl (ak rfl)) ?_
      refine bx rfl rfl (kH rfl (gM (m:=(Int.toNat iE)) (Fz.row (e:=32) (sz:=1) (L:=(LI .u32)) (xs:=pN) rfl xN) rfl rfl rfl (aV x5).1 (aV x5).2)) ?_
      refine bx rfl rfl (kH rfl (jT (Fz.row (e:=32) (sz:=1) (L:=(LI .u32)) (xs:=pN) rfl xN) (bf.idx (L:=(LI .u32)) (m:=(pN.length)) (k:=1) ((Int.toNat iE)) (aV x5).2 rfl) rfl)) ?_
      refine bx rfl rfl (kH rfl (ak rfl)) ?_
      refine bx rfl rfl (kH rfl (bZ (jm (K:=(Hs [.ext eS jV, .ext oo wT])) (aQ.mono _ dg f44) E8) rfl kn)) ?_
      refine bx rfl rfl (kH rfl (ak rfl)) ?_
      refine bx rfl rfl (kH rfl (aM rfl rfl)) ?_
      refine bx rfl rfl (kH rfl (aM rfl rfl)) ?_
      refine gl ?_
      refine pK rfl rfl (AI rfl ((aP rfl).rx)) (fun _ _=>?_) yP
      refine r9 ?_ ?_
      ·
       refine qT rfl rfl (kH rfl (yK (aM rfl rfl) rfl)) ?_
       exact m6
      refine gl ?_
      refine pK rfl rfl (AI rfl ((aP rfl).rx)) (fun _ _=>?_) yP
      refine vA ?_ ?_
      ·exact m6
      refine gl ?_
      refine aE ?_
      refine aU ?_
      obtain ⟨x4,h⟩:=eX h
      obtain ⟨ze,E6,_,h⟩:=oh h
      refine g8 mixed (.fin [] [(0,[15]),(1,[144]),(2,[145]),(3,[15,146]),(4,[146,147]),(5,[146,148]),(6,[3,149]),(7,[14,149]),(8,[11,149]),(9,[12,149]),(10,[149,152,153]),(11,[149,154]),(12,[149,150,151,155]),(13,[149,156]),(14,[146,149,157]),(15,[146,158])]) (by kernel_rfl) ?_
      refine vA ?_ ?_
      ·exact m6
      refine bx rfl rfl (kH rfl (ak rfl)) ?_
      refine bx rfl rfl (kH rfl (jG rfl rfl)) ?_
      refine bx rfl rfl (kH rfl (ak rfl)) ?_
      refine bx rfl rfl (nJ (di rfl rfl) (fun hb=>ak rfl)) ?_
      refine bx rfl rfl (nJ (di rfl rfl) (fun hb=>jG (cT rfl hb) rfl)) ?_
      refine bx rfl rfl (nJ (di rfl rfl) (fun hb=>ak (cT rfl hb))) ?_
      refine bx rfl rfl (nJ (gp rfl rfl) (fun hb=>ay rfl (aQ.len _ f44))) ?_
      refine bx rfl rfl (nJ (gp rfl rfl) (fun hb=>ak rfl)) ?_
      refine bx rfl rfl (nJ (gp rfl rfl) (fun hb=>ak rfl)) ?_
      refine bx rfl rfl (nJ (gp rfl rfl) (fun hb=>ak rfl)) ?_
      refine bx rfl rfl (nJ (gp rfl rfl) (fun hb=>gM (m:=(Int.toNat iE)) (Fz.row (e:=32) (sz:=1) (L:=(LI .u32)) (xs:=pN) rfl xN) rfl (cT rfl hb) (cT rfl hb) (aV (mL x4 hb)).1 (aV (mL x4 hb)).2)) ?_
      refine bx rfl rfl (nJ (gp rfl rfl) (fun hb=>jT (Fz.row (e:=32) (sz:=1) (L:=(LI .u32)) (xs:=pN) rfl xN) (bf.idx (L:=(LI .u32)) (m:=(pN.length)) (k:=1) ((Int.toNat iE)) (aV (mL x4 hb)).2 rfl) (cT rfl hb))) ?_
      refine bx rfl rfl (nJ (gp rfl rfl) (fun hb=>bZ (eR (K:=(Hs [.ext eS jV, .ext oo wT])) (aQ.mono _ dg f44) (E6 hb)) (bJ (cT rfl hb) (bJ (cT rfl hb) (bJ (cT rfl hb) rfl))) kn)) ?_
      refine bx rfl rfl (nJ (gp rfl rfl) (fun hb=>iu (cT rfl hb))) ?_
      refine bx rfl rfl (nJ (di rfl rfl) (fun hb=>fC (cT rfl hb) (uz rfl hb))) ?_
      refine bx rfl rfl (kH rfl (ec rfl rfl)) ?_
      refine gl ?_
      refine aE ?_
      refine gB rfl (fun hc=>?_) (fun hc=>?_)
      ·
       replace h:=nC hc h
       refine aU ?_
       refine az ?_
       refine ah rfl (aP rfl) ?_
       refine aW ?_
       refine aE ?_
       refine jb ?_
       refine dN ?_
       refine cE ?_
       refine cE ?_
       refine dN ?_
       refine dN ?_
       refine cE ?_
       refine cE ?_
       refine dN ?_
       refine dN ?_
       refine cE ?_
       refine cE ?_
       refine dN ?_
       refine cE ?_
       replace h:=Option.some.inj h
       subst h
       exact cg () rfl (.tmp rfl .nil) trivial rfl (ks:=[]) rfl (by decide)
      ·
       replace h:=nD hc h
       refine gG ?_
       refine gA ?_
       refine aE ?_
       refine az ?_
       refine ah rfl (ak rfl) ?_
       refine ah rfl (mD rfl rfl rfl) ?_
       refine ah rfl (aP rfl) ?_
       refine aW ?_
       exact mX (rq,wr .i64 (lS + 1)) (Nat.lt_succ_self _) h (ko rfl (hJ)) (.cons rfl (.cons rfl (.cons rfl (.cons rfl (.cons rfl (.nil)))))) (ks:=[0,1,2,3,4]) rfl (by decide)
     ·
      replace h:=nD hc h
      refine oF ?_
      refine eT ?_
      refine eT ?_
      refine iB ?_
      refine gA ?_
      refine aE ?_
      refine az ?_
      refine ah rfl (ak rfl) ?_
      refine ah rfl (mD rfl rfl rfl) ?_
      refine ah rfl (aP rfl) ?_
      refine aW ?_
      exact mX (ru,wr .i64 (iE + 1)) (Nat.lt_succ_self _) h (ko rfl (hJ)) (.cons rfl (.cons rfl (.cons rfl (.cons rfl (.nil))))) (ks:=[0,1,2,3,4]) rfl (by decide)
    ·
     replace h:=nD hc h
     refine oF ?_
     refine eT ?_
     refine eT ?_
     refine iB ?_
     refine gA ?_
     refine aE ?_
     refine az ?_
     refine ah rfl (ak rfl) ?_
     refine ah rfl (mD rfl rfl rfl) ?_
     refine ah rfl (aP rfl) ?_
     refine aW ?_
     refine bP (R:=[.ext oo wT, .ext eS jV]) (H':=[Row Hw 32 1 (LI .u32) pN, .cells b5 55 (bL.enc iD), .cells b3 41 tI]) (ks:=[1,3,0,2,4]) rfl (by decide) ?_
     exact mX (tZ,wr .i64 (fF + 1),hY,tI,(bz [.ext oo wT, .ext eS jV]),(Hs [.ext oo wT, .ext eS jV])) (Nat.lt_succ_self _) ⟨(aQ.mono _ dg f44),h⟩ (ko rfl (hJ)) (.cons rfl (.cons rfl (.nil))) (ks:=[0,3]) rfl (by decide)
  ·
   replace h:=nD hc h
   refine oF ?_
   refine eT ?_
   refine eT ?_
   refine iB ?_
   refine aE ?_
   refine aU ?_
   obtain ⟨Ei,E5,h⟩:=bM h
   refine az ?_
   refine ah rfl (bZ (l6 E5) rfl (fun _ _ _=>trivial)) ?_
   refine ah rfl (aP rfl) ?_
   refine aW ?_
   refine aE ?_
   refine jb ?_
   replace h:=Option.some.inj h
   subst h
   exact cg () rfl (.tmp rfl .nil) trivial rfl (ks:=[]) rfl (by decide)
end Go.Proofs.Ytbalnnoofdkbaaa
namespace Go.Proofs.Ytbalnnoofdkbaaa
open Go Go.Bw
def D7 (w:ag) (x c:Int):Int × Int:=
  if aR w.B x = true then (if 0 ≤ c∧c < 8 then (if (w.R (bt x)).Cells c.toNat = 0 then (0,10) else if aR w.B ((w.R (bt x)).Cells c.toNat) = true then ((w.R (bt x)).Cells c.toNat,0) else (0,4)) else (0,2)) else (0,4)
def E7 (w:ag) (x c z:Int) (iN:Bool):Int:=
  if aR w.B x = true∧(z = 0∨aR w.B z = true) then (if 0 ≤ c∧c < 8 then (if z = 0∨iN = true∨jL w z x = true then 0 else 5) else 2) else 4
def C7 (w:ag) (x c z:Int):ag:=tQ w x { w.R (bt x) with Cells:=dI (w.R (bt x)).Cells c.toNat z }
section
variable {n:Nat} {t:ai} {w:ag}
theorem vi (r:dZ t w) {x:Int} (x0:0 ≤ x) (x1:x < 4294967296) (c:Int):fm n t x c = some (if aR w.B x = true then (if 0 ≤ c∧c < 8 then .ok (kr t w x) else .error 2) else .error 4):=by
  unfold fm
  rw [ax (oz r x0 x1)]
  cases hg:aR w.B x with
  | false=>rfl
  | true =>
    rw [if_pos rfl,if_pos rfl]
    by_cases hc:0 ≤ c∧c < 8
    · have e:(decide (0 ≤ c) && decide (c < 8)) = true:=by simpa using hc
      rw [if_pos hc,e]; rfl
    · have e:(decide (0 ≤ c) && decide (c < 8)) = false:=by rw [Bool.and_eq_false_iff,decide_eq_false_iff_not,decide_eq_false_iff_not]; omega
      rw [if_neg hc,e]; rfl
theorem AW {α β:Type} {x:Option (Except Int α)} {a:α} {f:Int→β} {k:α→Option β} (h:x = some (.ok a)):tr x f k = k a:=by rw [h]; rfl
theorem w5 {α β:Type} {x:Option (Except Int α)} {e:Int} {f:Int→β} {k:α→Option β} (h:x = some (.error e)):tr x f k = some (f e):=by rw [h]; rfl
theorem yn (r:dZ t w) {x:Int} (x0:0 ≤ x) (x1:x < 4294967296) (c:Int):fy n t x c = some (D7 w x c):=by
  unfold fy D7
  have hR:=vi (n:=n) r x0 x1 c
  cases hg:aR w.B x with
  | false=>rw [hg,if_neg (by decide)] at hR; rw [if_neg (by decide),w5 hR]
  | true =>
    rw [hg,if_pos rfl] at hR
    rw [if_pos rfl]
    by_cases hc:0 ≤ c∧c < 8
    · rw [if_pos hc] at hR
      rw [if_pos hc,AW hR,aF (cD hc.1 hc.2)]
      obtain ⟨l1,l2⟩:=cJ ⟨x0,hg⟩
      have hr:=r.AY _ l1 l2
      have hk:c.toNat < 8:=by omega
      have hcell:(kr t w x).Cells c.toNat = (w.R (bt x)).Cells c.toNat:=hr.c _ hk
      have Fi:=hr.c0 _ hk
      rw [hcell]
      generalize (w.R (bt x)).Cells c.toNat = z at Fi
      rw [ax (iH r.book Fi.1 (by omega))]
      by_cases hz:z = 0
      · subst hz; rfl
      · have e:(z != 0) = true:=by simpa using hz
        rw [if_neg hz,e]
        cases aR w.B z <;> rfl
    · rw [if_neg hc] at hR; rw [if_neg hc,w5 hR]
theorem Ac {x c z:Int} {iN:Bool} (h:¬ (aR w.B x = true∧(z = 0∨aR w.B z = true))):E7 w x c z iN = 4:=if_neg h
theorem Df {x c z:Int} {iN:Bool} (h:aR w.B x = true∧(z = 0∨aR w.B z = true)) (hc:¬ (0 ≤ c∧c < 8)):E7 w x c z iN = 2:=(if_pos h).trans (if_neg hc)
theorem Gb {x c z:Int} {iN:Bool} (h:aR w.B x = true∧(z = 0∨aR w.B z = true)) (hc:0 ≤ c∧c < 8) (ho:¬ (z = 0∨iN = true∨jL w z x = true)):E7 w x c z iN = 5:=(if_pos h).trans ((if_pos hc).trans (if_neg ho))
theorem JM {x c z:Int} {iN:Bool} (h:aR w.B x = true∧(z = 0∨aR w.B z = true)) (hc:0 ≤ c∧c < 8) (ho:z = 0∨iN = true∨jL w z x = true):E7 w x c z iN = 0:=(if_pos h).trans ((if_pos hc).trans (if_pos ho))
theorem HK {z:Int} {a:Bool}:((z == 0) || a) = true↔z = 0∨a = true:=by rw [Bool.or_eq_true,beq_iff_eq]
theorem EE {z:Int} {a:Bool} (h:¬ (z = 0∨a = true)):((z == 0) || a) = false:=by
  rw [← Bool.not_eq_true,HK]; exact h
theorem HF (hn:200 ≤ n) (r:dZ t w) (tt:fD w) (i:lW w) {x z:Int} (x0:0 ≤ x) (x1:x < 4294967296) (z0:0 ≤ z) (z1:z < 4294967296) (c:Int) (iN:Bool) :
    ∃t',iO n t x c z iN = some (t',E7 w x c z iN)∧dZ t' (if E7 w x c z iN = 0 then C7 w x c z else w)∧fD (if E7 w x c z iN = 0 then C7 w x c z else w)∧lW (if E7 w x c z iN = 0 then C7 w x c z else w):=by
  have hP:∃t',lz n t x c z iN = some (t',E7 w x c z iN)∧(E7 w x c z iN = 0→dZ t' (C7 w x c z)∧fD (C7 w x c z)∧lW (C7 w x c z)):=by
    unfold lz
    have hR:=vi (n:=n) r x0 x1 c
    rw [ax (iH r.book x0 x1),cN (iH r.book z0 z1)]
    cases hg:aR w.B x with
    | false =>
      rw [Ac (fun h=>by rw [hg] at h; exact absurd h.1 (by decide))]
      exact ⟨_,rfl,fun h=>absurd h (by decide)⟩
    | true =>
      rw [hg,if_pos rfl] at hR
      have e0:(true && ((z == 0) || (bif (true == true) && ((z == 0) == false) then aR w.B z else default))) = ((z == 0) || aR w.B z):=by
        by_cases hz:z = 0
        · subst hz; rfl
        · have e2:(z == 0) = false:=by simpa using hz
          rw [e2]; rfl
      rw [e0]
      by_cases DV:z = 0∨aR w.B z = true
      · rw [HK.2 DV]
        show ∃t',tr _ _ _ = some (t',_)∧_
        by_cases hc:0 ≤ c∧c < 8
        · rw [if_pos hc] at hR
          rw [AW hR,cN (oy (by omega) r tt z0 z1 x0 x1)]
          have e2:(((z == 0) || iN) || (bif (((z == 0) || iN) == false) then jL w z x else default)) = ((z == 0) || (iN || jL w z x)):=by
            cases z == 0 <;> cases iN <;> cases jL w z x <;> rfl
          rw [e2]
          by_cases ho:z = 0∨iN = true∨jL w z x = true
          · obtain ⟨t',s1,s2,s3,s4,s5⟩:=Gk (n:=n) hn r tt i ⟨x0,hg⟩ z0 z1 (k:=c.toNat) (by omega)
            rw [HK.2 (by rw [Bool.or_eq_true]; exact ho),JM ⟨hg,DV⟩ hc ho]
            refine ⟨t',?_,fun _=>⟨s3,s4,s5⟩⟩
            show gu (dB c 8) _ = _
            rw [aF (cD hc.1 hc.2),lt_eq,ax s1]
          · rw [EE (by rw [Bool.or_eq_true]; exact ho),Gb ⟨hg,DV⟩ hc ho]
            exact ⟨_,rfl,fun h=>absurd h (by decide)⟩
        · rw [if_neg hc] at hR
          rw [w5 hR,Df ⟨hg,DV⟩ hc]
          exact ⟨_,rfl,fun h=>absurd h (by decide)⟩
      · rw [EE DV,Ac (fun h=>DV h.2)]
        exact ⟨_,rfl,fun h=>absurd h (by decide)⟩
  obtain ⟨t',p1,p2⟩:=hP
  unfold iO
  rw [ax p1]
  by_cases he:E7 w x c z iN = 0
  · rw [if_pos he]
    obtain ⟨a,b,d⟩:=p2 he
    exact ⟨t',by rw [av (by simpa using he),he],a,b,d⟩
  · rw [if_neg he]
    exact ⟨t,by rw [aJ (by simpa using he)],r,tt,i⟩
end
set_option maxRecDepth 100000 in
theorem u7:iG 1000 = some true:=by kernel_rfl
end Go.Proofs.Ytbalnnoofdkbaaa
namespace Go.Proofs.Ytbalnnoofdkbaaa
open Go Go.Bw
section
variable {G:List Int} {up up' : Int→Int} {ρ ρ' : Int→Nat}
theorem Fo.Gi (f:Fo G up ρ) (f' : Fo G up' ρ') {h:Int} (y4:∀x ∈ G,up' x = if x = h then 0 else up x) (z:Int):∀y ∈ G,z ∈ U6 up y→z ∈ U6 up' y∨((y = h∨h ∈ U6 up y)∧z ∈ U6 up h):=by
  refine f.q7 _ fun y hy ih hz=>?_
  have hu:=y4 y hy
  by_cases e:y = h
  · rw [e] at hz; exact .inr ⟨.inl e,hz⟩
  · rw [if_neg e] at hu
    by_cases e0:up y = 0
    · rw [f.u0 hy e0] at hz; cases hz
    · rw [f.u1 hy e0] at hz
      rw [f'.u1 hy (by rw [hu]; exact e0),hu,f.u1 hy e0]
      rcases List.mem_cons.1 hz with q | q
      · rw [q]; exact .inl List.mem_cons_self
      · rcases ih e0 q with q | ⟨q1,q2⟩
        · exact .inl (List.mem_cons_of_mem _ q)
        · refine .inr ⟨.inr ?_,q2⟩
          rcases q1 with q1 | q1
          · rw [q1]; exact List.mem_cons_self
          · exact List.mem_cons_of_mem _ q1
end
def vD (w:ag):Prop:=∀x,aX w.B x→∀k,k < 8→(w.R (bt x)).Cells k = 0∨(w.R (bt x)).Cells k = x∨(w.R (bt x)).Cells k ∈ U6 (bQ w) x
section
variable {n:Nat} {t:ai} {w:ag}
theorem HJ (r:dZ t w) (tt:fD w) {z x:Int} (hx:aX w.B x) (h:z = x∨z ∈ U6 (bQ w) x):aX w.B z∧jL w z x = true:=by
  obtain ⟨ρ,f⟩:=ny r tt
  have hm:=bA r.book
  have hz:aX w.B z:=by
    rcases h with h | h
    · rw [h]; exact hx
    · exact (hm z).1 (f.mH ((hm x).2 hx) z h).1
  refine ⟨hz,?_⟩
  unfold jL
  rw [hz.2,hx.2]
  have:((z == x) || (U6 (bQ w) x).contains z) = true:=by
    rw [Bool.or_eq_true,beq_iff_eq,List.contains_iff_mem]; exact h
  rw [this]; rfl
theorem ED {z x:Int} (h:jL w z x = true):z = x∨z ∈ U6 (bQ w) x:=by
  unfold jL at h
  rw [Bool.and_eq_true,Bool.or_eq_true,beq_iff_eq,List.contains_iff_mem] at h
  exact h.2
theorem td (l:List Int):∀{t:ai} {w:ag},dZ t w→fD w→lW w→(∀x ∈ l,0 ≤ x∧x < 4294967296)→∀y,aX (dK w l).B y→((dK w l).R (bt y)).Cells = (w.R (bt y)).Cells:=by
  induction l with
  | nil=>intro t w _ _ _ _ y _; rfl
  | cons x l ih =>
    intro t w r tt i hl y hy
    have hx:=hl x (by simp)
    obtain ⟨t1,_,r1,BL⟩:=ym (n:=40) (by omega) r tt hx.1 hx.2
    have hl' : ∀y ∈ l,0 ≤ y∧y < 4294967296:=fun y hy=>hl y (by simp [hy])
    obtain ⟨_,_,_,a4,_⟩:=rL l r1 BL (i.drop r hx.1) hl'
    refine (ih r1 BL (i.drop r hx.1) hl' y hy).trans ?_
    have LQ:=((a4 y).1 hy).1
    rw [rM r hx.1 LQ]
    split <;> rfl
theorem xy (r:dZ t w) (tt:fD w) (i:lW w) (ns:vD w) (a:Int):vD (dK w (fP w a)):=by
  obtain ⟨⟨t',r'⟩,zj,i',hg,hu⟩:=rL (fP w a) r tt i (mG r tt a)
  obtain ⟨ρ,f⟩:=ny r tt
  obtain ⟨ρ',f'⟩:=ny r' zj
  intro x hx k hk
  have hx0:=((hg x).1 hx).1
  have hU:=f.AU f' (fun y hy=>by
    have hy:=(bA r'.book y).1 hy
    obtain ⟨h1,h2⟩:=(hg y).1 hy
    exact ⟨(bA r.book y).2 h1,by rw [hu y hy,if_neg fun q=>h2 (tO r tt a h1 q)]⟩) x ((bA r'.book x).2 hx)
  have hc:=td (fP w a) r tt i (mG r tt a) x hx
  have:=ns x hx0 k hk
  rw [hc,hU]
  exact this
theorem qm (w:ag) (h a:Int) (j:Nat):((nP w h a).R j).Cells = (w.R j).Cells:=by
  unfold nP
  dsimp only
  rw [bG]
  split
  · rename_i e; rw [e]
  · rfl
theorem uH (r:dZ t w) (tt:fD w) {h y:Int} (hh:aX w.B h) (hy:aX w.B y) (hn:y ∉ fP w h):((kS w h).R (bt y)).Cells = (w.R (bt y)).Cells:=by
  obtain ⟨ρ,f⟩:=ny r tt
  have hm:=bA r.book
  have hG:=(hm h).2 hh
  unfold fP at hn
  rw [if_pos hh.2] at hn
  have hgd:∀x ∈ V6 (Gw w) (bQ w) h,aX w.B x:=fun x hx=>(hm x).1 ((f.jt hG x).1 hx).1
  unfold kS
  rw [if_pos hh.2,qm]
  generalize V6 (Gw w) (bQ w) h = l at hn hgd ⊢
  generalize U6 (bQ w) h = L
  have e:jQ w L l = l.foldl (p5 w L) w:=rfl
  rw [e,pB w L l w fun z hz q=>hn (by rw [← mO (hgd z hz) hy q]; exact hz)]
theorem BZ (r:dZ t w) (tt:fD w) {t' : ai} {h:Int} (h0:0 ≤ h) (r' : dZ t' (kS w h)) (zj:fD (kS w h)) (ns:vD w):vD (kS w h):=by
  cases hg:aR w.B h with
  | false =>
    have:kS w h = w:=by unfold kS; rw [hg,if_neg (by decide)]
    rw [this]; exact ns
  | true =>
    have hh:aX w.B h:=⟨h0,hg⟩
    obtain ⟨ρ,f⟩:=ny r tt
    have hm:=bA r.book
    have hb:=yo w h
    obtain ⟨ρ',f'⟩:=Bj r' zj (G:=Gw w) (by unfold Gw; rw [hb])
    have hG:=(hm h).2 hh
    have key:=fun z=>f.Gi f' (h:=h) (fun x hx=>Dl h hh ((hm x).1 hx)) z
    intro x hx k hk
    rw [hb] at hx
    have Ic:=(hm x).2 hx
    have old:=ns x hx k hk
    by_cases hu:x ∈ fP w h
    · rw [wq r tt hh hu]
      show (if k < 8∧(U6 (bQ w) h).contains ((w.R (bt x)).Cells k) = true then (0:Int) else (w.R (bt x)).Cells k) = 0∨(if k < 8∧(U6 (bQ w) h).contains ((w.R (bt x)).Cells k) = true then (0:Int) else (w.R (bt x)).Cells k) = x∨(if k < 8∧(U6 (bQ w) h).contains ((w.R (bt x)).Cells k) = true then (0:Int) else (w.R (bt x)).Cells k) ∈ _
      by_cases hc:(U6 (bQ w) h).contains ((w.R (bt x)).Cells k) = true
      · rw [if_pos ⟨hk,hc⟩]; exact .inl rfl
      · rw [if_neg (fun q=>hc q.2)]
        rcases old with o | o | o
        · exact .inl o
        · exact .inr (.inl o)
        · rcases key _ x Ic o with q | q
          · exact .inr (.inr q)
          · exact absurd (List.contains_iff_mem.2 q.2) hc
    · rw [uH r tt hh hx hu]
      rcases old with o | o | o
      · exact .inl o
      · exact .inr (.inl o)
      · rcases key _ x Ic o with q | q
        · exact .inr (.inr q)
        · refine absurd ?_ hu
          unfold fP
          rw [if_pos hg]
          exact (f.jt hG x).2 ⟨Ic,q.1⟩
theorem xx (r:dZ t w) (tt:fD w) {t' : ai} {w' : ag} {h a e:Int} (r' : dZ t' w') (zj:fD w') (g:K2 w h a w' e) (ns:vD w):vD w':=by
  by_cases e0:e = 0
  · obtain ⟨rfl,hh,ha,hu,hno,hd⟩:=g.is e0
    obtain ⟨ρ,f⟩:=ny r tt
    have hm:=bA r.book
    obtain ⟨ρ',f'⟩:=Bj r' zj (G:=Gw w) rfl
    have an:=f.pos a ((hm a).2 ha)
    have gu:=f.F3 f' (h:=h) (a:=a) (fun x hx=>tM hh ((hm x).1 hx)) an hu
    intro x hx k hk
    have hx:aX w.B x:=hx
    have old:=ns x hx k hk
    rw [qm,gu x ((hm x).2 hx)]
    rcases old with o | o | o
    · exact .inl o
    · exact .inr (.inl o)
    · refine .inr (.inr ?_)
      split
      · exact List.mem_append_left _ o
      · exact o
  · rw [g.no e0]; exact ns
theorem BY (r:dZ t w) (tt:fD w) {t' : ai} {w' : ag} {a q m e:Int} (r' : dZ t' w') (zj:fD w') (g:KX w a q w' m e) (ns:vD w):vD w':=by
  by_cases e0:e = 0
  · obtain ⟨f0,hf,hl,ha,hq,hd,rfl,rfl⟩:=g.is e0
    obtain ⟨ρ,f⟩:=ny r tt
    obtain ⟨ρ',f'⟩:=ny r' zj
    have hm:=bA r.book
    have hm':=bA r'.book
    have Kx:=gJ r.book hf hl
    have hr:=r.book.gO f0 hl
    obtain ⟨q1,q2,q3,q4,q5⟩:=kA (i:=f0) (g:=w.B.gD f0) (by omega) (by omega) hr.1 hr.2
    have GV:bt (fM f0 (w.B.gD f0)) = f0:=by unfold bt; rw [q2]; omega
    have hne:∀x,aX w.B x→bt x ≠ f0:=fun x hx e=>by
      have:=(cJ hx).2; rw [e,hf.2.2 hl] at this; cases this
    intro x hx k hk
    rcases (Kx x).1 hx with h | h
    · have hU:U6 (bQ (⟨gn w.B f0,dI w.R f0 ⟨a,q,cq,fun _=>0⟩⟩ : ag)) x = U6 (bQ w) x:=by
        refine (f'.AU f (G':=Gw w) (fun y hy=>?_) x ((hm x).2 h)).symm
        have hy:=(hm y).1 hy
        refine ⟨(hm' y).2 ((Kx y).2 (.inl hy)),?_⟩
        unfold bQ; dsimp only; rw [fI _ _ (hne y hy)]
      rw [hU]
      dsimp only
      rw [fI _ _ (hne x h)]
      exact ns x h k hk
    · refine .inl ?_
      dsimp only
      rw [h,GV,kY]
  · rw [g.no e0]; exact ns
theorem vv {x c z:Int} {y:Int} (hx:aX w.B x) (hy:aX w.B y) (k:Nat):((C7 w x c z).R (bt y)).Cells k = if y = x∧k = c.toNat then z else (w.R (bt y)).Cells k:=by
  unfold C7 tQ
  dsimp only
  rw [bG]
  by_cases e:y = x
  · subst e
    rw [if_pos rfl]
    dsimp only
    rw [bG]
    by_cases q:k = c.toNat
    · rw [if_pos q,if_pos ⟨rfl,q⟩]
    · rw [if_neg q,if_neg (fun h=>q h.2)]
  · rw [if_neg (fun q=>e (mO hy hx q)),if_neg (fun h=>e h.1)]
theorem BX (r:dZ t w) (tt:fD w) {x c z:Int} (x0:0 ≤ x) (ns:vD w):vD (if E7 w x c z false = 0 then C7 w x c z else w):=by
  by_cases he:E7 w x c z false = 0
  · rw [if_pos he]
    have hg:aR w.B x = true∧(z = 0∨aR w.B z = true):=Decidable.byContradiction fun h=>by rw [Ac h] at he; exact absurd he (by decide)
    have hc:0 ≤ c∧c < 8:=Decidable.byContradiction fun h=>by rw [Df hg h] at he; exact absurd he (by decide)
    have ho:z = 0∨false = true∨jL w z x = true:=Decidable.byContradiction fun h=>by rw [Gb hg hc h] at he; exact absurd he (by decide)
    have hx:aX w.B x:=⟨x0,hg.1⟩
    have y4:bQ (C7 w x c z) = bQ w:=funext fun y=>BO _ _ _
    intro y hy k hk
    have hy:aX w.B y:=hy
    rw [vv hx hy,y4]
    by_cases q:y = x∧k = c.toNat
    · rw [if_pos q,q.1]
      rcases ho with o | o | o
      · exact .inl o
      · cases o
      · exact .inr (ED o)
    · rw [if_neg q]; exact ns y hy k hk
  · rw [if_neg he]; exact ns
theorem zB:vD gy:=fun g hg=>(qC (cJ hg).2).elim
theorem sR (hn:200 ≤ n) (r:dZ t w) (tt:fD w) (ns:vD w) (AJ:Option Bool):(bd (eu n t.book) fun pN =>
  dk (fun B7 (iE:Int) =>
  cn (decide (iE < (pN.length:Int))) (
  dk (fun B6 (lS:Int) =>
  cn (decide (lS < 8)) (
  gu (dB iE pN.length) <|
  bd (fy n t (pN.getD (Int.toNat iE) default) lS) fun lR =>
  gu (!(((lR.2 != 10) == true) && ((lR.2 != 0) == false)) || dB iE pN.length) <|
  cl (((lR.2 != 10) == true) && ((lR.2 != 0) == false)) (cY n t lR.1 (pN.getD (Int.toNat iE) default)) default fun ze =>
  cn (((lR.2 != 10) && ((lR.2 != 0) || (!ze)))) (
  some false) (
  B6 (wr .i64 (lS + 1)))) (
  B7 (wr .i64 (iE + 1)))) n 0) AJ) n 0) = AJ:=by
  rw [ax (Gs (by omega) r)]
  have hlen:=fk w.B 32
  refine gi (fun (i:Int)=>0 ≤ i∧i ≤ (ct w.B 32).length) (fun i=>(((ct w.B 32).length:Int) - i).toNat) (fun o=>o = AJ) ?_ n 0 ⟨by omega,by omega⟩ (by omega)
  rintro kk i ⟨i0,i1⟩ ih
  by_cases hi:i < (ct w.B 32).length
  · have hx:=(bA r.book _).1 (gw (l:=ct w.B 32) (i:=i.toNat) (by omega))
    rw [aJ (by simpa using hi)]
    generalize (ct w.B 32).getD i.toNat default = x at hx
    refine gi (fun (c:Int)=>0 ≤ c∧c ≤ 8) (fun c=>(8 - c).toNat) (fun o=>o = AJ) ?_ n 0 ⟨by omega,by omega⟩ (by omega)
    rintro k2 c ⟨c0,c1⟩ DU
    by_cases hc:c < 8
    · rw [aJ (by simpa using hc),aF (cD i0 hi),ax (yn r hx.1 (ez hx.2) c)]
      have hD:D7 w x c = if (w.R (bt x)).Cells c.toNat = 0 then (0,10) else if aR w.B ((w.R (bt x)).Cells c.toNat) = true then ((w.R (bt x)).Cells c.toNat,0) else (0,4):=by
        unfold D7; rw [if_pos hx.2,if_pos ⟨c0,hc⟩]
      have hz:=ns x hx c.toNat (by omega)
      rw [hD,cj (x:=c + 1) (by omega) (by omega)]
      generalize (w.R (bt x)).Cells c.toNat = z at hz
      by_cases z0:z = 0
      · rw [if_pos z0]
        exact DU _ ⟨by omega,by omega⟩ (by omega)
      · obtain ⟨hg,ho⟩:=HJ r tt hx (hz.resolve_left z0)
        rw [if_neg z0,if_pos hg.2]
        dsimp only
        rw [cD i0 hi,aF (by rfl)]
        refine (oB (by rfl) (oy (by omega) r tt hg.1 (ez hg.2) hx.1 (ez hx.2))).trans ?_
        rw [ho,av (by rfl)]
        exact DU _ ⟨by omega,by omega⟩ (by omega)
    · rw [av (by simpa using hc),cj (by omega) (by omega)]
      exact ih _ ⟨by omega,by omega⟩ (by omega)
  · rw [av (by simpa using hi)]
end
theorem sF {l:List gP} (hl:∀a ∈ l,Kc a):eL 1000 l = some true:=by
  unfold eL
  by_cases hc:100 < l.length
  · rw [aJ (decide_eq_true (by omega)),ax u7]
  rw [av (decide_eq_false (by omega))]
  refine dR (fun (i:Int) (t:ai)=>0 ≤ i∧i ≤ l.length∧∃w,dZ t w∧fD w∧lW w∧vD w) (fun i _=>((l.length:Int) - i).toNat) (fun o=>o = some true) ?_ 1000 0 _ ⟨by omega,by omega,_,AQ.1,AQ.2,xH,zB⟩ (by omega)
  rintro kk i t ⟨i0,i1,w,r,tt,iv,ns⟩ ih
  by_cases hi:i < l.length
  · have ha:=hl _ (gw (l:=l) (i:=i.toNat) (by omega))
    rw [aJ (by simpa using hi),aF (cD i0 (by omega)),lt_eq,lt_eq]
    generalize l.getD i.toNat default = a at ha
    obtain ⟨_,hA,hB,hC,_⟩:=ha
    have done:∀(t' : ai) (w' : ag),dZ t' w'→fD w'→lW w'→vD w'→kk (wr .i64 (i + 1)) t' = some true:=fun t' w' r' zj LH ns'=>by
      rw [cj (by omega) (by omega)]
      exact ih _ _ ⟨by omega,by omega,w',r',zj,LH,ns'⟩ (by omega)
    by_cases d0:a.Do = 0
    · obtain ⟨t',e1,e2,e3,e4⟩:=F7 (n:=1000) (by omega) r tt iv hA.1 (by omega)
      rw [aJ (by simpa using d0),ax e1]
      have ns':=xy r tt iv ns a.A
      refine (sR (by omega) e3 e4 ns' _).trans (done t' _ e3 e4 (rL _ r tt iv (mG r tt a.A)).2.2.1 ns')
    rw [av (by simpa using d0)]
    by_cases d1:a.Do = 1
    · obtain ⟨t',e1,e2,e3,e4,e5⟩:=JU (n:=1000) (by omega) r tt iv hA.1 (by omega)
      rw [aJ (by simpa using d1),ax e1]
      have ns':=BZ r tt hA.1 e3 e4 ns
      exact (sR (by omega) e3 e4 ns' _).trans (done t' _ e3 e4 e5 ns')
    rw [av (by simpa using d1)]
    by_cases d2:a.Do = 2
    · obtain ⟨t',w',e,e1,e2,e3,e4,e5,g⟩:=Da (n:=1000) (by omega) r tt iv hA.1 (by omega) hB.1 (by omega)
      rw [aJ (by simpa using d2),ax e1]
      have ns':=xx r tt e3 e4 g ns
      exact (sR (by omega) e3 e4 ns' _).trans (done t' _ e3 e4 e5 ns')
    rw [av (by simpa using d2)]
    by_cases d3:a.Do = 3
    · obtain ⟨t',p1,p2,p3,p4⟩:=HF (n:=1000) (by omega) r tt iv hA.1 (by omega) hC.1 (by omega) a.bq false
      have ns':=BX r tt (c:=a.bq) (z:=a.C) hA.1 ns
      rw [aJ (by simpa using d3),ax p1]
      dsimp only
      rw [ax (yn p2 hA.1 (by omega) a.bq)]
      have key:((((E7 w a.A a.bq a.C false == 0) && (a.C != 0)) && (((D7 (if E7 w a.A a.bq a.C false = 0 then C7 w a.A a.bq a.C else w) a.A a.bq).2 != 0) || ((D7 (if E7 w a.A a.bq a.C false = 0 then C7 w a.A a.bq a.C else w) a.A a.bq).1 != a.C))) || (((E7 w a.A a.bq a.C false == 0) && (a.C == 0)) && ((D7 (if E7 w a.A a.bq a.C false = 0 then C7 w a.A a.bq a.C else w) a.A a.bq).2 != 10))) = false:=by
        by_cases he:E7 w a.A a.bq a.C false = 0
        · have hg:aR w.B a.A = true∧(a.C = 0∨aR w.B a.C = true):=Decidable.byContradiction fun h=>by rw [Ac h] at he; exact absurd he (by decide)
          have Md:0 ≤ a.bq∧a.bq < 8:=Decidable.byContradiction fun h=>by rw [Df hg h] at he; exact absurd he (by decide)
          have hx:aX w.B a.A:=⟨hA.1,hg.1⟩
          have hD:D7 (C7 w a.A a.bq a.C) a.A a.bq = if a.C = 0 then (0,10) else (a.C,0):=by
            unfold D7
            rw [if_pos (show aR (C7 w a.A a.bq a.C).B a.A = true from hg.1),if_pos Md,vv hx hx,if_pos (⟨rfl,rfl⟩ : a.A = a.A∧a.bq.toNat = a.bq.toNat)]
            by_cases z0:a.C = 0
            · rw [if_pos z0,if_pos z0]
            · rw [if_neg z0,if_neg z0,if_pos (show aR (C7 w a.A a.bq a.C).B a.C = true from hg.2.resolve_left z0)]
          rw [if_pos he,hD,he]
          by_cases z0:a.C = 0
          · rw [if_pos z0,z0]; rfl
          · have e1:(a.C == 0) = false:=by simpa using z0
            rw [if_neg z0,e1]; simp
        · have e1:(E7 w a.A a.bq a.C false == 0) = false:=by simpa using he
          rw [e1]; rfl
      rw [key,av rfl]
      exact (sR (by omega) p2 p3 ns' _).trans (done t' _ p2 p3 p4 ns')
    rw [av (by simpa using d3)]
    obtain ⟨t',w',m,e,e1,e2,m0,m1,e3,e4,e5,g⟩:=HM (n:=1000) (by omega) r tt iv (q:=a.bq) hA.1 (by omega)
    rw [ax e1]
    have ns':=BY r tt e3 e4 g ns
    exact (sR (by omega) e3 e4 ns' _).trans (done t' _ e3 e4 e5 ns')
  · rw [av (by simpa using hi),ax u7]
end Go.Proofs.Ytbalnnoofdkbaaa
