/- Part 3 of what a proof leans on; pruned and shortened by a program out of longer texts. -/
import Derived.Test.YtmdpbdhkmfjlhaaGreatQ2
namespace Go.Proofs.YtmdpbdhkmfjlhaaGreat
open Go Go.Bw
def jX (n:Nat) (a0:ah) (a1:Int):Option Int:=
 bd (eV n a0 a1) fun aM =>
 some aM.1.Up
theorem mB {n a0 a1 r K} [bn K] {cv} (f0:(ay).rep K cv a0) (h:jX n a0 a1 = some r):pD Tryz.prog 65 [A cv, .int .i64 a1] K (.int .i64 r):=by
 unfold jX at h
 refine fo Tryz.func65 (by kernel_rfl) rfl Tryz.ntmps65 rfl fun cx _ hro cZ hpre=>?_
 refine SC 2 rf ?_
 refine W1 rf (aV rfl) fun b2=>?_
 obtain ⟨aM,bX,h⟩:=aS h
 refine SL 5 rf ?_
 refine ai rfl (ae rfl (aL.len _ f0)) ?_
 refine ai rfl (ak rfl) ?_
 refine CB (mY (K:=K) (mo f0) bX) rf rf ?_
 rintro vI eN kq ⟨ES,rfl,f26⟩
 replace f26:(bh).rep (fun w=>K w∧Hs [.ext eN kq] w) ES aM.1:=f26
 refine SL 3 rf ?_
 refine W1 rf (bz (hz:=(⟨by kernel_rfl⟩ : cA Tryz.prog 50 iu))) fun b5=>?_
 refine ST (C:=(fun w=>K w∧Hs [.ext eN kq] w)) aM.1 (aE.id (L:=bh)) iq (mo f26) rf rf rf rf rf fun Bt f29=>?_
 refine SL 6 rf ?_
 refine ai rfl (bL rfl (eo.int f29)) ?_
 refine SL 4 rf ?_
 have h:=sj h; subst h
 exact RV rf (rt rf rn) rf
def l8 (n:Nat) (a0:ah) (a1:Int):Option (List Int):=
 bd (fN n a0) fun aM =>
 c9 (fun xd (dj:(List Int)) (cT:Int) =>
 cn (decide (cT < (aM.length:Int))) (
 bd (bB n a0 a1) fun ez =>
 gu (!(ez == true) || dO cT aM.length) <|
 cl (ez == true) (jX n a0 (aM.getD (Int.toNat cT) default)) default fun gl =>
 cn ((ez && (gl == a1))) (
 gu (dO cT aM.length) <|
 gu (j9 dj.length 1 8) <|
 lt (dj++([(aM.getD (Int.toNat cT) default)]):List Int) fun hY =>
 xd hY (wr .i64 (cT + 1))) (
 xd dj (wr .i64 (cT + 1)))) (
 some dj)) n ([]) 0
theorem wF {n a0 a1 r K} [bn K] {cv} (f0:(ay).rep K cv a0) (h:l8 n a0 a1 = some r):Bw.Fn (α:=Value) Tryz.prog 80 [A cv, .int .i64 a1] K [] (fun v=>ko v r.length) (fun v=>v) (fun v=>[Row v 3 1 (LI .i64) r]):=by
 unfold l8 at h
 refine fo Tryz.func80 (by kernel_rfl) rfl Tryz.ntmps80 rfl fun cx _ hro cZ hpre=>?_
 refine SC 2 rf ?_
 refine W1 rf (aV rfl) fun b2=>?_
 obtain ⟨aM,bX,h⟩:=aS h
 refine SL 10 rf ?_
 refine ai rfl (ae rfl (aL.len _ f0)) ?_
 refine ef rfl (eK (j7 (K:=K) (mo f0) bX) rfl kn) (fun rD fe=>?_)
 dsimp only [List.cons_append,List.nil_append]
 refine SL 10 rf ?_
 refine kW 3 1 (LI .i64) ?_
 obtain ⟨vZ,qM,h⟩:=kC h
 refine LO (β:=(List Int) × Int × Value) [1,2,6] [0,1,2] (fun (qJ,dj,cT,lN)=>[(5,lN),(7, .int .i64 cT)]) (fun (qJ,dj,cT,lN)=>[Row lN 3 1 (LI .i64) dj,Row rD 3 1 (LI .i64) aM, .cells b2 53 cv]) (fun (qJ,dj,cT,lN)=>ko lN dj.length∧c9 vZ qJ dj cT = some r) (n,[],0, .slice none 0 0) ⟨⟨_,_,rfl⟩,h⟩ rf rf rf ?_
 rintro qJ ⟨dj,cT,lN⟩ ⟨tK,h⟩
 replace h:=kB qM h; obtain ⟨qJ,rfl,h⟩:=h
 refine SC 5 rf ?_
 refine ai rfl (dg (Fz.row (e:=3) (sz:=1) (L:=(LI .i64)) (xs:=aM) rfl fe) rfl) ?_
 refine SL 3 rf ?_
 refine dN h rf (fun hc h=>?_) fun hc h=>?_
 ·
  refine SC 5 rf ?_
  obtain ⟨ez,uH,h⟩:=aS h
  obtain ⟨jv,h⟩:=cq h
  obtain ⟨gl,m7,_,h⟩:=gQ h
  refine cK mixed (.fin [] [(0,[2]),(1,[1]),(2,[16,17]),(3,[18]),(4,[2,19]),(5,[6,19]),(6,[7,19]),(7,[19,21,22]),(8,[19,23]),(9,[19,20,24]),(10,[1,19]),(11,[19,25,26]),(12,[19,27])]) (by kernel_rfl) ?_
  refine F0 ?_
  refine NV rf rf (ae rfl (aL.len _ f0)) ?_
  refine NS 1 rf ?_
  refine NC rf rf (bJ (K:=K) (mo f0) uH) rf ?_
  refine NS 1 rf ?_
  refine NG rf rf (cY rfl rfl) (fun hb=>ae rfl (aL.len _ f0)) ?_
  refine NG rf rf (cY rfl rfl) (fun hb=>ak rfl) ?_
  refine NG rf rf (cY rfl rfl) (fun hb=>ak rfl) ?_
  refine NG rf rf (cY rfl rfl) (fun hb=>cM (m:=(Int.toNat cT)) (Fz.row (e:=3) (sz:=1) (L:=(LI .i64)) (xs:=aM) rfl fe) rfl (bC rfl hb) (bC rfl hb) (az (iJ jv hb)).1 (az (iJ jv hb)).2) ?_
  refine NG rf rf (cY rfl rfl) (fun hb=>cN (Fz.row (e:=3) (sz:=1) (L:=(LI .i64)) (xs:=aM) rfl fe) (aE.idx (L:=(LI .i64)) (m:=(aM.length)) (k:=1) ((Int.toNat cT)) (az (iJ jv hb)).2 rfl) (bC rfl hb)) ?_
  refine NG rf rf (cY rfl rfl) (fun hb=>ck (mB (K:=K) (mo f0) (m7 hb)) (aB (bC rfl hb) (aB (bC rfl hb) rfl)) kn) ?_
  refine NG rf rf (cY rfl rfl) (fun hb=>ak rfl) ?_
  refine NG rf rf (cY rfl rfl) (fun hb=>ff (bC rfl hb) (bC rfl hb)) ?_
  refine NV rf rf (bV rfl rfl) ?_
  refine aP ?_
  refine kf ?_
  refine dN h rf (fun hc h=>?_) fun hc h=>?_
  ·
   obtain ⟨nV,h⟩:=cq h
   obtain ⟨qO,h⟩:=cq h
   obtain ⟨hY,qb,h⟩:=cj h
   refine SC 4 rf ?_
   refine ai rfl (cM (m:=(Int.toNat cT)) (Fz.row (e:=3) (sz:=1) (L:=(LI .i64)) (xs:=aM) rfl fe) rfl rfl rfl (az nV).1 (az nV).2) ?_
   refine ai rfl (cN (Fz.row (e:=3) (sz:=1) (L:=(LI .i64)) (xs:=aM) rfl fe) (aE.idx (L:=(LI .i64)) (m:=(aM.length)) (k:=1) ((Int.toNat cT)) (az nV).2 rfl) rfl) ?_
   refine ef rfl (ki (LI .i64) (aM.getD (Int.toNat cT) default) rfl rfl rfl rfl (by decide) (by decide)) (fun Ue _=>?_)
   refine ef rfl (jn (sz:=1) (L:=(LI .i64)) (xs:=dj) (y:=(aM.getD (Int.toNat cT) default)) (bytes:=8) rfl rfl rfl (dA qO).1 (dA qO).2) (fun Gm uJ=>?_)
   rw [← qb] at uJ; rw [← qb]
   refine SL 9 rf ?_
   exact LN [1,2,3] (hY,wr .i64 (cT + 1),Gm) ⟨uJ,h⟩ rf rf rf
  ·
   refine SC 8 rf ?_
   exact LN [0,1,2] (dj,wr .i64 (cT + 1),lN) ⟨tK,h⟩ rf rf rf
 ·
  refine SC 12 rf ?_
  have h:=sj h; subst h
  exact dF lN rfl (.tmp rfl .nil) tK rfl (ks:=[0]) rfl (by decide)
def fS:Nat→ah→Int→Option (List Int)
 | 0,_,_=>none
 | n + 1,a0,a1 =>
 bd (bB n a0 a1) fun aM =>
 cn ((!aM)) (
 some ([]:List Int)) (
 bd (l8 n a0 a1) fun jS =>
 c9 (fun N0 (dV:(List Int)) (ia:Int) =>
 cn (decide (ia < (jS.length:Int))) (
 gu (dO ia jS.length) <|
 bd (fS n a0 (jS.getD (Int.toNat ia) default)) fun gl =>
 gu (j9 dV.length gl.length 8) <|
 lt (dV++gl:List Int) fun gk =>
 N0 gk (wr .i64 (ia + 1))) (
 some dV)) n ([a1]:List Int) 0)
theorem m9 {n a0 a1 r K} [bn K] {cv} (f0:(ay).rep K cv a0) (h:fS n a0 a1 = some r):Bw.Fn (α:=Value) Tryz.prog 56 [A cv, .int .i64 a1] K [] (fun v=>ko v r.length) (fun v=>v) (fun v=>[Row v 3 1 (LI .i64) r]):=by
 induction n generalizing a0 a1 r K cv with
 | zero=>cases h
 | succ n ih =>
 rw [fS] at h
 refine fo Tryz.func56 (by kernel_rfl) rfl Tryz.ntmps56 rfl fun cx _ hro cZ hpre=>?_
 refine SC 2 rf ?_
 refine W1 rf (aV rfl) fun b2=>?_
 obtain ⟨aM,bX,h⟩:=aS h
 refine SL 6 rf ?_
 refine ai rfl (ae rfl (aL.len _ f0)) ?_
 refine ai rfl (ak rfl) ?_
 refine CV (bJ (K:=K) (mo f0) bX) rf rf ?_
 refine SL 3 rf ?_
 refine dN h rf (fun hc h=>?_) fun hc h=>?_
 ·
  refine SC 7 rf ?_
  refine Ak 3 1 (LI .i64) ?_
  have h:=sj h; subst h
  exact dF (.slice none 0 0) rfl (.tmp rfl .nil) ⟨_,_,rfl⟩ rfl (ks:=[0]) rfl (by decide)
 ·
  refine SC 5 rf ?_
  refine ef rfl (An (LI .i64) a1 rfl rfl rfl rfl (by decide) (by decide)) (fun Mn _=>?_)
  obtain ⟨jS,qf,h⟩:=aS h
  refine SL 5 rf ?_
  refine ai rfl (ae rfl (aL.len _ f0)) ?_
  refine ai rfl (ak rfl) ?_
  refine ef rfl (eK (wF (K:=K) (mo f0) qf) rfl kn) (fun nN ku=>?_)
  dsimp only [List.cons_append,List.nil_append]
  refine SL 10 rf ?_
  obtain ⟨GV,CI,h⟩:=kC h
  refine LO (β:=(List Int) × Int × Value) [2,6] [0,1,2] (fun (Cg,dV,ia,lR)=>[(5,lR),(7, .int .i64 ia)]) (fun (Cg,dV,ia,lR)=>[Row nN 3 1 (LI .i64) jS,Row lR 3 1 (LI .i64) dV, .cells b2 53 cv]) (fun (Cg,dV,ia,lR)=>ko lR dV.length∧c9 GV Cg dV ia = some r) (n,([a1]:List Int),0, .slice (some ⟨Mn,0,none⟩) 1 1) ⟨⟨_,_,rfl⟩,h⟩ rf rf rf ?_
  rintro Cg ⟨dV,ia,lR⟩ ⟨j3,h⟩
  replace h:=kB CI h; obtain ⟨Cg,rfl,h⟩:=h
  refine SC 5 rf ?_
  refine ai rfl (dg (Fz.row (e:=3) (sz:=1) (L:=(LI .i64)) (xs:=jS) rfl ku) rfl) ?_
  refine SL 3 rf ?_
  refine dN h rf (fun hc h=>?_) fun hc h=>?_
  ·
   refine SC 4 rf ?_
   obtain ⟨jv,h⟩:=cq h
   obtain ⟨gl,m7,h⟩:=aS h
   obtain ⟨wh,h⟩:=cq h
   obtain ⟨gk,yY,h⟩:=cj h
   refine cK mixed (.gm [] [(0,[5]),(1,[2]),(2,[6]),(3,[7]),(4,[25,26]),(5,[27])] (.alt 6 [24,28] (.gm [(0,[5])] [] (.alt 7 [23,29] (.gm [] [] (.alt 8 [30] (.fin [] []) .no)) .no)) .no)) (by kernel_rfl) ?_
   refine T0 ?_
   refine NS 1 rf ?_
   refine NV rf rf (ae rfl (aL.len _ f0)) ?_
   refine NS 2 rf ?_
   refine NV rf rf (cM (m:=(Int.toNat ia)) (Fz.row (e:=3) (sz:=1) (L:=(LI .i64)) (xs:=jS) rfl ku) rfl rfl rfl (az jv).1 (az jv).2) ?_
   refine NV rf rf (cN (Fz.row (e:=3) (sz:=1) (L:=(LI .i64)) (xs:=jS) rfl ku) (aE.idx (L:=(LI .i64)) (m:=(jS.length)) (k:=1) ((Int.toNat ia)) (az jv).2 rfl) rfl) ?_
   refine aP ?_
   refine X1 rf rf (eK (ih (K:=K) (mo f0) m7) rfl kn) fun Qr Cy=>?_
   dsimp only [List.cons_append,List.nil_append]
   refine di ?_ ?_
   ·
    exact RE 1 rf rf
   refine aP ?_
   refine X1 rf rf (oa (sz:=1) (L:=(LI .i64)) (xs:=dV) (ys:=gl) (bytes:=8) (Fz.row (e:=3) (sz:=1) (L:=(LI .i64)) (xs:=gl) rfl Cy) rfl rfl rfl (dA wh).1 (dA wh).2) fun Bl xM=>?_
   rw [← yY] at xM; rw [← yY]
   refine E8 ?_
   refine XV rf rf (bQ rfl) ?_
   refine oF ?_
   refine SX 7 rf ?_
   exact LN [1,2,3] (gk,wr .i64 (ia + 1),Bl) ⟨xM,h⟩ rf rf rf
  ·
   refine SC 12 rf ?_
   have h:=sj h; subst h
   exact dF lR rfl (.tmp rfl .nil) j3 rfl (ks:=[1]) rfl (by decide)
def l9 (n:Nat) (a0:ah) (a1:Int):Option (ah × (List Int) × Int):=
 bd (fS n a0 a1) fun aM =>
 c9 (fun Cm (cT:Int) (ia:ah) =>
 cn (decide (cT < (aM.length:Int))) (
 gu (dO cT aM.length) <|
 bd (ec n ia (aM.getD (Int.toNat cT) default)) fun jL =>
 Cm (wr .i64 (cT + 1)) jL.1) (
 cn (((aM.length:Int) == 0)) (
 some (ia,([]:List Int),4)) (
 some (ia,aM,0)))) n 0 a0
theorem wG {n a0 a1 r K} [bn K] {cv} (f0:(ay).rep K cv a0) (h:l9 n a0 a1 = some r):pY Tryz.prog 25 [A cv, .int .i64 a1] K (fun J v=>∃u0 u1,v = (.tuple #[A u0,u1, .int .i64 r.2.2])∧(ay).rep (fun w=>K w∧J w) u0 (r.1)∧Fz (fun w=>K w∧J w) u1 (LI .i64) (r.2.1)):=by
 unfold l9 at h
 refine fo Tryz.func25 (by kernel_rfl) rfl Tryz.ntmps25 rfl fun cx _ hro cZ hpre=>?_
 refine SC 2 rf ?_
 refine W1 rf (aV rfl) fun b2=>?_
 refine W1 rf (bz (hz:=(⟨by kernel_rfl⟩ : cA Tryz.prog 53 aQ))) fun b4=>?_
 obtain ⟨aM,bX,h⟩:=aS h
 refine SL 6 rf ?_
 refine ai rfl (ae rfl (aL.len _ f0)) ?_
 refine ai rfl (ak rfl) ?_
 refine ef rfl (eK (m9 (K:=K) (mo f0) bX) rfl kn) (fun rD fe=>?_)
 dsimp only [List.cons_append,List.nil_append]
 refine SL 10 rf ?_
 obtain ⟨Ck,xO,h⟩:=kC h
 refine lX ?_
 refine LO (β:=Int × ah × (List Value) × (List Nat) × (World→Prop)) [2,4,7] [0,1,2,3] (fun (xJ,cT,ia,ud,g8,nL)=>[(8, .int .i64 cT)]) (fun (xJ,cT,ia,ud,g8,nL)=>[.ext g8 nL,Row rD 3 1 (LI .i64) aM, .cells b4 53 aQ, .cells b2 53 ud]) (fun (xJ,cT,ia,ud,g8,nL)=>(ay).rep (fun w=>K w∧Hs [.ext g8 nL] w) ud ia∧c9 Ck xJ cT ia = some r) (n,0,a0,cv,[],(Hs [])) ⟨(mo f0),h⟩ rf rf rf ?_
 rintro xJ ⟨cT,ia,ud,g8,nL⟩ ⟨f37,h⟩
 replace h:=kB xO h; obtain ⟨xJ,rfl,h⟩:=h
 refine SC 5 rf ?_
 refine ai rfl (dg (Fz.row (e:=3) (sz:=1) (L:=(LI .i64)) (xs:=aM) rfl fe) rfl) ?_
 refine SL 3 rf ?_
 refine dN h rf (fun hc h=>?_) fun hc h=>?_
 ·
  refine SC 4 rf ?_
  obtain ⟨nV,h⟩:=cq h
  obtain ⟨jL,yZ,h⟩:=aS h
  refine cK mixed (.gm [] [(0,[2]),(1,[7]),(2,[8]),(3,[20,21]),(4,[22])] (.alt 5 [19,23] (.gm [] [(6,[24]),(7,[18]),(8,[18])] (.alt 9 [2,25] (.fin [(8,[18])] []) .no)) .no)) (by kernel_rfl) ?_
  refine T0 ?_
  refine NV rf rf (ae rfl (aL.len _ f37)) ?_
  refine NS 2 rf ?_
  refine NV rf rf (cM (m:=(Int.toNat cT)) (Fz.row (e:=3) (sz:=1) (L:=(LI .i64)) (xs:=aM) rfl fe) rfl rfl rfl (az nV).1 (az nV).2) ?_
  refine NV rf rf (cN (Fz.row (e:=3) (sz:=1) (L:=(LI .i64)) (xs:=aM) rfl fe) (aE.idx (L:=(LI .i64)) (m:=(aM.length)) (k:=1) ((Int.toNat cT)) (az nV).2 rfl) rfl) ?_
  refine aP ?_
  refine X1 rf rf (mI (qp (K:=(fun w=>K w∧Hs [.ext g8 nL] w)) (mo f37) yZ) rfl) fun ⟨Ry,ye,F6⟩ OQ=>?_
  obtain ⟨L9,rfl,f47⟩:=OQ
  replace f47:(ay).rep (fun w=>(fun w=>K w∧Hs [.ext g8 nL] w) w∧Hs [.ext ye F6] w) L9 jL.1:=f47
  refine T0 ?_
  refine NE 3 rf ?_
  obtain ⟨L8,Pu,f50⟩:=Bo (C:=(fun w=>K w∧Hs [.ext g8 nL, .ext ye F6] w)) (x':=jL.1) (aE.id (L:=ay)) (mo f37) (mo f47) rf
  refine X0 rf (Bv Pu rf rf rf rf) ?_
  refine E9 ?_ ?_
  ·
   exact RE 1 rf rf
  refine aP ?_
  refine SX 7 rf ?_
  refine bH (R:=[.ext ye F6, .ext g8 nL]) (H':=[Row rD 3 1 (LI .i64) aM, .cells b4 53 aQ, .cells b2 53 L8]) (ks:=[0,1,2,3,4]) rfl (by decide) ?_
  exact LN [0,1,2,3] (wr .i64 (cT + 1),jL.1,L8,(bN [.ext ye F6, .ext g8 nL]),(Hs [.ext ye F6, .ext g8 nL])) ⟨(mo f50),h⟩ rf rf rf
 ·
  refine SC 9 rf ?_
  refine ai rfl (dg (Fz.row (e:=3) (sz:=1) (L:=(LI .i64)) (xs:=aM) rfl fe) rfl) ?_
  refine SL 3 rf ?_
  refine dN h rf (fun hc h=>?_) fun hc h=>?_
  ·
   refine SC 2 rf ?_
   refine ai rfl (ae rfl (aL.len _ f37)) ?_
   refine ST (C:=(fun w=>K w∧Hs [.ext g8 nL] w)) ia (aE.id (L:=ay)) bp (mo f37) rf rf rf rf rf fun Il f52=>?_
   refine SL 6 rf ?_
   have h:=sj h; subst h
   refine bH (R:=[.ext g8 nL]) (H':=[.cells b4 53 Il]) (ks:=[0,2]) rfl (by decide) ?_
   have R7:(ay).rep (fun w=>K w∧(Hs [.ext (bN [.ext g8 nL]) (Hs [.ext g8 nL])]) w) Il ia:=aL.mono _ kx f52
   have R6:Fz (fun w=>K w∧(Hs [.ext (bN [.ext g8 nL]) (Hs [.ext g8 nL])]) w) (.slice none 0 0) (LI .i64) ([]:List Int):=(Fz.nil (A:=Hs []) (L:=(LI .i64))).mono kx
   exact dF (.tuple #[A Il, .slice none 0 0, .int .i64 4],bN [.ext g8 nL],Hs [.ext g8 nL]) rfl (.agg rfl inferInstance inferInstance (aL.len _ f52) (.tmp rfl (.tmp rfl .nil))) ⟨_,_,rfl,R7,R6⟩ rfl (ks:=[0]) rfl (by decide)
  ·
   refine SC 4 rf ?_
   refine ai rfl (ae rfl (aL.len _ f37)) ?_
   refine ai rfl (ak rfl) ?_
   refine ST (C:=(fun w=>K w∧Hs [.ext g8 nL] w)) ia (aE.id (L:=ay)) bp (mo f37) rf rf rf rf rf fun FT f56=>?_
   refine SL 5 rf ?_
   have h:=sj h; subst h
   refine bH (R:=[.ext g8 nL,Row rD 3 1 (LI .i64) aM]) (H':=[.cells b4 53 FT]) (ks:=[0,1,2]) rfl (by decide) ?_
   have R5:(ay).rep (fun w=>K w∧(Hs [.ext (bN [.ext g8 nL,Row rD 3 1 (LI .i64) aM]) (Hs [.ext g8 nL,Row rD 3 1 (LI .i64) aM])]) w) FT ia:=aL.mono _ kx f56
   have R4:Fz (fun w=>K w∧(Hs [.ext (bN [.ext g8 nL,Row rD 3 1 (LI .i64) aM]) (Hs [.ext g8 nL,Row rD 3 1 (LI .i64) aM])]) w) rD (LI .i64) aM:=(Fz.row (e:=3) (sz:=1) (L:=(LI .i64)) (xs:=aM) rfl fe).mono kx
   exact dF (.tuple #[A FT,rD, .int .i64 0],bN [.ext g8 nL,Row rD 3 1 (LI .i64) aM],Hs [.ext g8 nL,Row rD 3 1 (LI .i64) aM]) rfl (.agg rfl inferInstance inferInstance (aL.len _ f56) (.tmp rfl (.tmp rfl .nil))) ⟨_,_,rfl,R5,R4⟩ rfl (ks:=[0]) rfl (by decide)
def iQ (n:Nat) (a0:ah) (a1:Int) (a2:Int):Option Bool:=
 bd (bB n a0 a1) fun aM =>
 cl (aM == true) (bB n a0 a2) default fun bE =>
 cl (((aM && bE) == true) && ((a1 == a2) == false)) (cu n a0 a1 a2) default fun hJ =>
 some ((aM && bE) && ((a1 == a2) || hJ))
theorem rR {n a0 a1 a2 r K} [bn K] {cv} (f0:(ay).rep K cv a0) (h:iQ n a0 a1 a2 = some r):pD Tryz.prog 66 [A cv, .int .i64 a1, .int .i64 a2] K (.bool r):=by
 unfold iQ at h
 refine fo Tryz.func66 (by kernel_rfl) rfl Tryz.ntmps66 rfl fun cx _ hro cZ hpre=>?_
 refine SC 2 rf ?_
 refine W1 rf (aV rfl) fun b3=>?_
 obtain ⟨aM,bX,h⟩:=aS h
 obtain ⟨bE,fc,_,h⟩:=gQ h
 obtain ⟨hJ,jE,_,h⟩:=gQ h
 refine SL 5 rf ?_
 refine ai rfl (ae rfl (aL.len _ f0)) ?_
 refine ai rfl (ak rfl) ?_
 refine CV (bJ (K:=K) (mo f0) bX) rf rf ?_
 refine ai rfl (ak rfl) ?_
 refine GB rf rf rf (fun hb=>ae rfl (aL.len _ f0)) ?_
 refine GB rf rf rf (fun hb=>ak rfl) ?_
 refine GB rf rf rf (fun hb=>ck (bJ (K:=K) (mo f0) (fc hb)) (aB (bC rfl hb) (aB (bC rfl hb) rfl)) kn) ?_
 refine ai rfl (bV rfl rfl) ?_
 refine ai rfl (ak rfl) ?_
 refine GB rf rf rf (fun hb=>ak rfl) ?_
 refine GB rf rf rf (fun hb=>ak rfl) ?_
 refine GB rf rf rf (fun hb=>ff (bC rfl hb) (bC rfl hb)) ?_
 refine GB rf rf rf (fun hb=>ak (bC rfl hb)) ?_
 refine kz (jx rfl rfl) rfl (fun hb=>ae rfl (aL.len _ f0)) ?_
 refine kz (jx rfl rfl) rfl (fun hb=>ak rfl) ?_
 refine kz (jx rfl rfl) rfl (fun hb=>ak rfl) ?_
 refine kz (jx rfl rfl) rfl (fun hb=>ck (jt (K:=K) (mo f0) (jE hb)) (aB (bC rfl hb) (aB (bC rfl hb) (aB (bC rfl hb) rfl))) kn) ?_
 refine GB rf rf rf (fun hb=>eF (bC rfl hb) (uL rfl hb)) ?_
 refine ai rfl (bV rfl rfl) ?_
 refine SL 4 rf ?_
 have h:=sj h; subst h
 exact RV rf (rt rf rn) rf
def eT:Nat→ah→Int→Option Int
 | 0,_,_=>none
 | n + 1,a0,a1 =>
 bd (bB n a0 a1) fun aM =>
 cn ((!aM)) (
 some 0) (
 bd (jX n a0 a1) fun bE =>
 bd (eT n a0 bE) fun hJ =>
 some (wr .i64 (1 + hJ)))
theorem pP {n a0 a1 r K} [bn K] {cv} (f0:(ay).rep K cv a0) (h:eT n a0 a1 = some r):pD Tryz.prog 68 [A cv, .int .i64 a1] K (.int .i64 r):=by
 induction n generalizing a0 a1 r K cv with
 | zero=>cases h
 | succ n ih =>
 rw [eT] at h
 refine fo Tryz.func68 (by kernel_rfl) rfl Tryz.ntmps68 rfl fun cx _ hro cZ hpre=>?_
 refine SC 2 rf ?_
 refine W1 rf (aV rfl) fun b2=>?_
 obtain ⟨aM,bX,h⟩:=aS h
 refine SL 6 rf ?_
 refine ai rfl (ae rfl (aL.len _ f0)) ?_
 refine ai rfl (ak rfl) ?_
 refine CV (bJ (K:=K) (mo f0) bX) rf rf ?_
 refine SL 3 rf ?_
 refine dN h rf (fun hc h=>?_) fun hc h=>?_
 ·
  refine SC 7 rf ?_
  have h:=sj h; subst h
  exact RV rf (rt rf rn) rf
 ·
  refine SC 3 rf ?_
  obtain ⟨bE,fc,h⟩:=aS h
  obtain ⟨hJ,jE,h⟩:=aS h
  refine cK mixed (.gm [] [(0,[2]),(1,[2]),(2,[1]),(3,[10,11]),(4,[9,12]),(5,[13])] (.alt 6 [14] (.fin [] []) .no)) (by kernel_rfl) ?_
  refine T0 ?_
  refine NV rf rf (ae rfl (aL.len _ f0)) ?_
  refine NV rf rf (ae rfl (aL.len _ f0)) ?_
  refine NS 1 rf ?_
  refine NC rf rf (mB (K:=K) (mo f0) fc) rf ?_
  refine NC rf rf (ih (K:=K) (mo f0) jE) rf ?_
  refine NE 1 rf ?_
  refine XV rf rf (bQ rfl) ?_
  refine oF ?_
  refine SX 2 rf ?_
  have h:=sj h; subst h
  exact RV rf (rt rf rn) rf
def kY (n:Nat) (a0:ah) (a1:Int) (a2:Int):Option (ah × Int):=
 bd (bB n a0 a1) fun aM =>
 cl ((!aM) == false) (bB n a0 a2) default fun bE =>
 cn (((!aM) || (!bE))) (
 some (a0,4)) (
 bd (jX n a0 a1) fun dB =>
 cl ((dB != 0) == false) (iQ n a0 a1 a2) default fun cH =>
 cn (((dB != 0) || cH)) (
 some (a0,12)) (
 bd (eH n a0 a1 a2) fun dj =>
 bd (fS n dj.1 a1) fun gl =>
 eu (fun J9 (gk:Int) =>
 cn (decide (gk < (gl.length:Int))) (
 gu (dO gk gl.length) <|
 bd (eT n dj.1 (gl.getD (Int.toNat gk) default)) fun p4 =>
 cn (decide (6 < p4)) (
 some (a0,8)) (
 J9 (wr .i64 (gk + 1)))) (
 some (dj.1,dj.2))) n 0))
theorem uM {n a0 a1 a2 r K} [bn K] {cv} (f0:(ay).rep K cv a0) (h:kY n a0 a1 a2 = some r):pY Tryz.prog 30 [A cv, .int .i64 a1, .int .i64 a2] K (fun J v=>∃u0,v = (.tuple #[A u0, .int .i64 r.2])∧(ay).rep (fun w=>K w∧J w) u0 (r.1)):=by
 unfold kY at h
 refine fo Tryz.func30 (by kernel_rfl) rfl Tryz.ntmps30 rfl fun cx _ hro cZ hpre=>?_
 refine SC 2 rf ?_
 refine W1 rf (aV rfl) fun b3=>?_
 refine W1 rf (bz (hz:=(⟨by kernel_rfl⟩ : cA Tryz.prog 53 aQ))) fun b6=>?_
 obtain ⟨aM,bX,h⟩:=aS h
 obtain ⟨bE,fc,_,h⟩:=gQ h
 refine SL 6 rf ?_
 refine ai rfl (ae rfl (aL.len _ f0)) ?_
 refine ai rfl (ak rfl) ?_
 refine CV (bJ (K:=K) (mo f0) bX) rf rf ?_
 refine SL 2 rf ?_
 refine GB rf rf rf (fun hb=>ae rfl (aL.len _ f0)) ?_
 refine GB rf rf rf (fun hb=>ak rfl) ?_
 refine GB rf rf rf (fun hb=>ck (bJ (K:=K) (mo f0) (fc hb)) (aB (bC rfl hb) (aB (bC rfl hb) rfl)) kn) ?_
 refine GB rf rf rf (fun hb=>ja (bC rfl hb)) ?_
 refine ai rfl (eF rfl rfl) ?_
 refine SL 2 rf ?_
 refine dN h rf (fun hc h=>?_) fun hc h=>?_
 ·
  refine SC 2 rf ?_
  refine ai rfl (ae rfl (aL.len _ f0)) ?_
  refine ST (C:=K) a0 (aE.id (L:=ay)) bp (mo f0) rf rf rf rf rf fun C7 f24=>?_
  refine SL 5 rf ?_
  have h:=sj h; subst h
  exact lB [] rf rf (ra rf (aL.len _ f24) (rt rf rn)) ⟨_,rfl,(mo f24)⟩
 ·
  obtain ⟨dB,lF,h⟩:=aS h
  obtain ⟨cH,lE,_,h⟩:=gQ h
  refine SC 5 rf ?_
  refine ai rfl (ae rfl (aL.len _ f0)) ?_
  refine ai rfl (ak rfl) ?_
  refine CV (mB (K:=K) (mo f0) lF) rf rf ?_
  refine SL 2 rf ?_
  refine GB rf rf rf (fun hb=>ae rfl (aL.len _ f0)) ?_
  refine GB rf rf rf (fun hb=>ak rfl) ?_
  refine GB rf rf rf (fun hb=>ak rfl) ?_
  refine GB rf rf rf (fun hb=>ck (rR (K:=K) (mo f0) (lE hb)) (aB (bC rfl hb) (aB (bC rfl hb) (aB (bC rfl hb) rfl))) kn) ?_
  refine ai rfl (eF rfl rfl) ?_
  refine SL 2 rf ?_
  refine dN h rf (fun hc h=>?_) fun hc h=>?_
  ·
   refine SC 2 rf ?_
   refine ai rfl (ae rfl (aL.len _ f0)) ?_
   refine ST (C:=K) a0 (aE.id (L:=ay)) bp (mo f0) rf rf rf rf rf fun Bt f29=>?_
   refine SL 5 rf ?_
   have h:=sj h; subst h
   exact lB [] rf rf (ra rf (aL.len _ f29) (rt rf rn)) ⟨_,rfl,(mo f29)⟩
  ·
   obtain ⟨dj,tH,h⟩:=aS h
   refine SC 4 rf ?_
   refine ai rfl (ae rfl (aL.len _ f0)) ?_
   refine SL 2 rf ?_
   refine CB (pI (K:=K) (mo f0) tH) rf rf ?_
   rintro TT A5 Jl ⟨Je,rfl,f36⟩
   replace f36:(ay).rep (fun w=>K w∧Hs [.ext A5 Jl] w) Je dj.1:=f36
   refine SL 3 rf ?_
   refine W1 rf (bz (hz:=(⟨by kernel_rfl⟩ : cA Tryz.prog 53 aQ))) fun b8=>?_
   refine ST (C:=(fun w=>K w∧Hs [.ext A5 Jl] w)) dj.1 (aE.id (L:=ay)) bp (mo f36) rf rf rf rf rf fun M5 f39=>?_
   obtain ⟨gl,m7,h⟩:=aS h
   refine SL 5 rf ?_
   refine ai rfl (ae rfl (aL.len _ f39)) ?_
   refine ai rfl (ak rfl) ?_
   refine ef rfl (eK (m9 (K:=(fun w=>K w∧Hs [.ext A5 Jl] w)) (mo f39) m7) rfl kn) (fun Qr Cy=>?_)
   dsimp only [List.cons_append,List.nil_append]
   refine SL 10 rf ?_
   obtain ⟨NN,K1,h⟩:=mT h
   refine LO (β:=Int) [3,6,8,9,10] [0,1,2,3,4] (fun (JZ,gk)=>[(11, .int .i64 gk)]) (fun (JZ,gk)=>[Row Qr 3 1 (LI .i64) gl, .cells b8 53 M5, .ext A5 Jl, .cells b6 53 aQ, .cells b3 53 cv]) (fun (JZ,gk)=>eu NN JZ gk = some r) (n,0) h rf rf rf ?_
   rintro JZ gk h
   replace h:=mS K1 h; obtain ⟨JZ,rfl,h⟩:=h
   refine SC 5 rf ?_
   refine ai rfl (dg (Fz.row (e:=3) (sz:=1) (L:=(LI .i64)) (xs:=gl) rfl Cy) rfl) ?_
   refine SL 3 rf ?_
   refine dN h rf (fun hc h=>?_) fun hc h=>?_
   ·
    refine SC 5 rf ?_
    obtain ⟨y9,h⟩:=cq h
    obtain ⟨p4,yX,h⟩:=aS h
    refine cK mixed (.fin [] [(0,[8]),(1,[10]),(2,[11]),(3,[51,52]),(4,[53]),(5,[50,54]),(6,[55])]) (by kernel_rfl) ?_
    refine F0 ?_
    refine NV rf rf (ae rfl (aL.len _ f39)) ?_
    refine NS 2 rf ?_
    refine NV rf rf (cM (m:=(Int.toNat gk)) (Fz.row (e:=3) (sz:=1) (L:=(LI .i64)) (xs:=gl) rfl Cy) rfl rfl rfl (az y9).1 (az y9).2) ?_
    refine NV rf rf (cN (Fz.row (e:=3) (sz:=1) (L:=(LI .i64)) (xs:=gl) rfl Cy) (aE.idx (L:=(LI .i64)) (m:=(gl.length)) (k:=1) ((Int.toNat gk)) (az y9).2 rfl) rfl) ?_
    refine NC rf rf (pP (K:=(fun w=>K w∧Hs [.ext A5 Jl] w)) (mo f39) yX) rf ?_
    refine NE 1 rf ?_
    refine kf ?_
    refine dN h rf (fun hc h=>?_) fun hc h=>?_
    ·
     refine SC 2 rf ?_
     refine ai rfl (ae rfl (aL.len _ f0)) ?_
     refine ST (C:=K) a0 (aE.id (L:=ay)) bp (mo f0) rf rf rf rf rf fun Il f52=>?_
     refine SL 9 rf ?_
     have h:=sj h; subst h
     exact lB [] rf rf (ra rf (aL.len _ f52) (rt rf rn)) ⟨_,rfl,(mo f52)⟩
    ·
     refine SC 8 rf ?_
     exact LN [0,1,2,3,4] (wr .i64 (gk + 1)) h rf rf rf
   ·
    refine SC 7 rf ?_
    refine ai rfl (ae rfl (aL.len _ f39)) ?_
    refine ai rfl (ak rfl) ?_
    refine ST (C:=(fun w=>K w∧Hs [.ext A5 Jl] w)) dj.1 (aE.id (L:=ay)) bp (mo f39) rf rf rf rf rf fun T9 f55=>?_
    refine SL 4 rf ?_
    have h:=sj h; subst h
    exact lB [2] rf rf (ra rf (aL.len _ f55) (rt rf rn)) ⟨_,rfl,(mo f55)⟩
def nq (n:Nat) (a0:ah) (a1:Int):Option (ah × Int):=
 bd (bB n a0 a1) fun aM =>
 cn ((!aM)) (
 some (a0,4)) (
 bd (fS n a0 a1) fun cH =>
 c9 (fun NW (gl:Int) (dX:ah) =>
 cn (decide (gl < (cH.length:Int))) (
 gu (dO gl cH.length) <|
 bd (bY n a0.B (cH.getD (Int.toNat gl) default)) fun ox =>
 c9 (fun Fy (kX:Int) (lK:ah) =>
 cn (decide (kX < 8)) (
 gu (dO ox 32) <|
 gu (dO kX 8) <|
 cl ((((a0.R (Int.toNat ox)).Cells (Int.toNat kX)) != 0) == true) (cu n a0 ((a0.R (Int.toNat ox)).Cells (Int.toNat kX)) a1) default fun Fj =>
 cn (((((a0.R (Int.toNat ox)).Cells (Int.toNat kX)) != 0) && Fj)) (
 gu (dO ox 32) <|
 gu (dO kX 8) <|
 lt ({ lK with R:=(eG lK.R (Int.toNat ox) ({ (lK.R (Int.toNat ox)) with Cells:=(eG ((lK.R (Int.toNat ox)).Cells) (Int.toNat kX) 0) })) }:ah) fun Fi =>
 Fy (wr .i64 (kX + 1)) Fi) (
 Fy (wr .i64 (kX + 1)) lK)) (
 NW (wr .i64 (gl + 1)) lK)) n 0 dX) (
 bd (bY n a0.B a1) fun rA =>
 gu (dO rA 32) <|
 lt ({ dX with R:=(eG dX.R (Int.toNat rA) ({ (dX.R (Int.toNat rA)) with Up:=0 })) }:ah) fun MR =>
 some (MR,0))) n 0 a0)
theorem x9 {n a0 a1 r K} [bn K] {cv} (f0:(ay).rep K cv a0) (h:nq n a0 a1 = some r):pY Tryz.prog 28 [A cv, .int .i64 a1] K (fun J v=>∃u0,v = (.tuple #[A u0, .int .i64 r.2])∧(ay).rep (fun w=>K w∧J w) u0 (r.1)):=by
 unfold nq at h
 refine fo Tryz.func28 (by kernel_rfl) rfl Tryz.ntmps28 rfl fun cx _ hro cZ hpre=>?_
 refine SC 2 rf ?_
 refine W1 rf (aV rfl) fun b2=>?_
 refine W1 rf (bz (hz:=(⟨by kernel_rfl⟩ : cA Tryz.prog 53 aQ))) fun b4=>?_
 obtain ⟨aM,bX,h⟩:=aS h
 refine SL 6 rf ?_
 refine ai rfl (ae rfl (aL.len _ f0)) ?_
 refine ai rfl (ak rfl) ?_
 refine CV (bJ (K:=K) (mo f0) bX) rf rf ?_
 refine SL 3 rf ?_
 refine dN h rf (fun hc h=>?_) fun hc h=>?_
 ·
  refine SC 2 rf ?_
  refine ai rfl (ae rfl (aL.len _ f0)) ?_
  refine ST (C:=K) a0 (aE.id (L:=ay)) bp (mo f0) rf rf rf rf rf fun Ip f23=>?_
  refine SL 5 rf ?_
  have h:=sj h; subst h
  exact lB [] rf rf (ra rf (aL.len _ f23) (rt rf rn)) ⟨_,rfl,(mo f23)⟩
 ·
  refine SC 4 rf ?_
  refine ai rfl (ae rfl (aL.len _ f0)) ?_
  refine W1 rf (bz (hz:=(⟨by kernel_rfl⟩ : cA Tryz.prog 53 aQ))) fun b6=>?_
  refine ST (C:=K) a0 (aE.id (L:=ay)) bp (mo f0) rf rf rf rf rf fun DT f26=>?_
  obtain ⟨cH,lE,h⟩:=aS h
  refine SL 4 rf ?_
  refine ai rfl (ae rfl (aL.len _ f0)) ?_
  refine ai rfl (ak rfl) ?_
  refine ef rfl (eK (m9 (K:=K) (mo f0) lE) rfl kn) (fun Jy Hj=>?_)
  dsimp only [List.cons_append,List.nil_append]
  refine SL 10 rf ?_
  obtain ⟨NO,K2,h⟩:=kC h
  refine lX ?_
  refine LO (β:=Int × ah × (List Value) × (List Nat) × (World→Prop)) [1,2,4,6,7] [0,1,2,3,4] (fun (J0,gl,dX,ur,kL,r6)=>[(8, .int .i64 gl)]) (fun (J0,gl,dX,ur,kL,r6)=>[.ext kL r6,Row Jy 3 1 (LI .i64) cH, .cells b6 53 ur, .cells b4 53 aQ, .cells b2 53 cv]) (fun (J0,gl,dX,ur,kL,r6)=>(ay).rep (fun w=>K w∧Hs [.ext kL r6] w) ur dX∧c9 NO J0 gl dX = some r) (n,0,a0,DT,[],(Hs [])) ⟨(mo f26),h⟩ rf rf rf ?_
  rintro J0 ⟨gl,dX,ur,kL,r6⟩ ⟨f43,h⟩
  replace h:=kB K2 h; obtain ⟨J0,rfl,h⟩:=h
  refine SC 5 rf ?_
  refine ai rfl (dg (Fz.row (e:=3) (sz:=1) (L:=(LI .i64)) (xs:=cH) rfl Hj) rfl) ?_
  refine SL 3 rf ?_
  refine dN h rf (fun hc h=>?_) fun hc h=>?_
  ·
   refine SC 5 rf ?_
   obtain ⟨HC,h⟩:=cq h
   obtain ⟨ox,AR,h⟩:=aS h
   refine cK mixed (.gm [] [(0,[2]),(1,[27]),(2,[7]),(3,[8]),(4,[29,30]),(5,[31]),(6,[28,32])] (.alt 7 [33] (.fin [] []) .no)) (by kernel_rfl) ?_
   refine T0 ?_
   refine NS 1 rf ?_
   refine NV rf rf (bf rfl (bq.iff.1 (bZ.get f0)) (aT _ _)) ?_
   refine NS 2 rf ?_
   refine NV rf rf (cM (m:=(Int.toNat gl)) (Fz.row (e:=3) (sz:=1) (L:=(LI .i64)) (xs:=cH) rfl Hj) rfl rfl rfl (az HC).1 (az HC).2) ?_
   refine NV rf rf (cN (Fz.row (e:=3) (sz:=1) (L:=(LI .i64)) (xs:=cH) rfl Hj) (aE.idx (L:=(LI .i64)) (m:=(cH.length)) (k:=1) ((Int.toNat gl)) (az HC).2 rfl) rfl) ?_
   refine NC rf rf (dz AR) rf ?_
   refine aP ?_
   refine XV rf rf (bQ rfl) ?_
   refine oF ?_
   refine SX 7 rf ?_
   obtain ⟨NM,K0,h⟩:=kC h
   refine lX ?_
   refine LO (β:=Int × ah × (List Value) × (List Nat) × (World→Prop)) [1,2,4,6,7,8,9] [0,1,2,3,4,5] (fun (JY,kX,lK,uq,mE,um)=>[(10, .int .i64 kX)]) (fun (JY,kX,lK,uq,mE,um)=>[.ext mE um, .ext kL r6,Row Jy 3 1 (LI .i64) cH, .cells b6 53 uq, .cells b4 53 aQ, .cells b2 53 cv]) (fun (JY,kX,lK,uq,mE,um)=>(ay).rep (fun w=>K w∧Hs [.ext kL r6, .ext mE um] w) uq lK∧c9 NM JY kX lK = some r) (n,0,dX,ur,[],(Hs [])) ⟨(mo f43),h⟩ rf rf rf ?_
   rintro JY ⟨kX,lK,uq,mE,um⟩ ⟨f61,h⟩
   replace h:=kB K0 h; obtain ⟨JY,rfl,h⟩:=h
   refine SC 7 rf ?_
   refine dN h rf (fun hc h=>?_) fun hc h=>?_
   ·
    obtain ⟨HA,h⟩:=cq h
    obtain ⟨xQ,h⟩:=cq h
    refine SC 9 rf ?_
    refine ai rfl (cm (m:=(Int.toNat ox)) rfl rfl (az HA).1 (az HA).2) ?_
    refine ai rfl (fC rfl) ?_
    refine ai rfl (cm (m:=(Int.toNat kX)) rfl rfl (az xQ).1 (az xQ).2) ?_
    refine ai rfl (bL rfl ((((dk.comp (aE.idx (L:=bh) (m:=32) (k:=12) ((Int.toNat ox)) (az HA).2 rfl)).comp je).comp (aE.idx (L:=(LI .i64)) (m:=8) (k:=1) ((Int.toNat kX)) (az xQ).2 rfl)).int f0)) ?_
    obtain ⟨Fj,Oj,_,h⟩:=gQ h
    refine SL 8 rf ?_
    refine GB rf rf rf (fun hb=>ae rfl (aL.len _ f0)) ?_
    refine GB rf rf rf (fun hb=>ak rfl) ?_
    refine GB rf rf rf (fun hb=>ak rfl) ?_
    refine GB rf rf rf (fun hb=>ck (jt (K:=K) (mo f0) (Oj hb)) (aB (bC rfl hb) (aB (bC rfl hb) (aB (bC rfl hb) rfl))) kn) ?_
    refine ai rfl (bV rfl rfl) ?_
    refine SL 2 rf ?_
    refine dN h rf (fun hc h=>?_) fun hc h=>?_
    ·
     obtain ⟨AY,h⟩:=cq h
     obtain ⟨Hy,h⟩:=cq h
     obtain ⟨Fi,Oh,h⟩:=cj h
     refine SC 4 rf ?_
     refine ai rfl (cm (m:=(Int.toNat ox)) rfl rfl (az AY).1 (az AY).2) ?_
     refine ai rfl (fC rfl) ?_
     refine ai rfl (cm (m:=(Int.toNat kX)) rfl rfl (az Hy).1 (az Hy).2) ?_
     refine ST (C:=(fun w=>K w∧Hs [.ext kL r6, .ext mE um] w)) Fi (((dk.comp (aE.idx (L:=bh) (m:=32) (k:=12) ((Int.toNat ox)) (az AY).2 rfl)).comp je).comp (aE.idx (L:=(LI .i64)) (m:=8) (k:=1) ((Int.toNat kX)) (az Hy).2 rfl)) (mo f61) fl Oh rf rf rf rf fun L7 f72=>?_
     refine SL 8 rf ?_
     refine bH (R:=[.ext mE um]) (H':=[.ext kL r6,Row Jy 3 1 (LI .i64) cH, .cells b6 53 L7, .cells b4 53 aQ, .cells b2 53 cv]) (ks:=[0,1,2,3,4,5]) rfl (by decide) ?_
     exact LN [0,1,2,3,4,5] (wr .i64 (kX + 1),Fi,L7,(bN [.ext mE um]),(Hs [.ext mE um])) ⟨(mo f72),h⟩ rf rf rf
    ·
     refine SC 8 rf ?_
     refine bH (R:=[.ext mE um]) (H':=[.ext kL r6,Row Jy 3 1 (LI .i64) cH, .cells b6 53 uq, .cells b4 53 aQ, .cells b2 53 cv]) (ks:=[0,1,2,3,4,5]) rfl (by decide) ?_
     exact LN [0,1,2,3,4,5] (wr .i64 (kX + 1),lK,uq,(bN [.ext mE um]),(Hs [.ext mE um])) ⟨(mo f61),h⟩ rf rf rf
   ·
    refine SC 11 rf ?_
    refine bH (R:=[.ext mE um, .ext kL r6]) (H':=[Row Jy 3 1 (LI .i64) cH, .cells b6 53 uq, .cells b4 53 aQ, .cells b2 53 cv]) (ks:=[0,1,2,3,4,5]) rfl (by decide) ?_
    exact LN [0,1,2,3,4] (wr .i64 (gl + 1),lK,uq,(bN [.ext mE um, .ext kL r6]),(Hs [.ext mE um, .ext kL r6])) ⟨(mo f61),h⟩ rf rf rf
  ·
   obtain ⟨rA,AQ,h⟩:=aS h
   obtain ⟨Hx,h⟩:=cq h
   obtain ⟨MR,Od,h⟩:=cj h
   refine SC 8 rf ?_
   refine ai rfl (bf rfl (bq.iff.1 (bZ.get f0)) (aT _ _)) ?_
   refine ai rfl (ak rfl) ?_
   refine CV (dz AQ) rf rf ?_
   refine ai rfl (aO rfl) ?_
   refine ai rfl (cm (m:=(Int.toNat rA)) rfl rfl (az Hx).1 (az Hx).2) ?_
   refine ai rfl (fC rfl) ?_
   refine ST (C:=(fun w=>K w∧Hs [.ext kL r6] w)) MR ((dk.comp (aE.idx (L:=bh) (m:=32) (k:=12) ((Int.toNat rA)) (az Hx).2 rfl)).comp eo) (mo f43) fl Od rf rf rf rf fun T8 f77=>?_
   refine SL 4 rf ?_
   refine ai rfl (ae rfl (aL.len _ f77)) ?_
   refine ST (C:=(fun w=>K w∧Hs [.ext kL r6] w)) MR (aE.id (L:=ay)) bp (mo f77) rf rf rf rf rf fun QZ f79=>?_
   refine SL 4 rf ?_
   have h:=sj h; subst h
   exact lB [0] rf rf (ra rf (aL.len _ f79) (rt rf rn)) ⟨_,rfl,(mo f79)⟩
def nn (n:Nat) (a0:ah) (a1:Int) (a2:Int):Option (ah × Int × Int):=
 cl ((a1 == 0) == false) (bB n a0 a1) default fun aM =>
 cl (((((a1 == 0) || aM) && decide (0 ≤ a2)) && decide (a2 ≤ 64)) == true) (eT n a0 a1) default fun bE =>
 cn ((((((a1 == 0) || aM) && decide (0 ≤ a2)) && decide (a2 ≤ 64)) && decide (5 < bE))) (
 some (a0,0,8)) (
 bd (dG n a0 a1 a2) fun dB =>
 some (dB.1,dB.2.1,dB.2.2))
theorem x8 {n a0 a1 a2 r K} [bn K] {cv} (f0:(ay).rep K cv a0) (h:nn n a0 a1 a2 = some r):pY Tryz.prog 35 [A cv, .int .i64 a1, .int .i64 a2] K (fun J v=>∃u0,v = (.tuple #[A u0, .int .i64 r.2.1, .int .i64 r.2.2])∧(ay).rep (fun w=>K w∧J w) u0 (r.1)):=by
 unfold nn at h
 refine fo Tryz.func35 (by kernel_rfl) rfl Tryz.ntmps35 rfl fun cx _ hro cZ hpre=>?_
 refine SC 2 rf ?_
 refine W1 rf (aV rfl) fun b3=>?_
 refine W1 rf (bz (hz:=(⟨by kernel_rfl⟩ : cA Tryz.prog 53 aQ))) fun b6=>?_
 obtain ⟨aM,bX,_,h⟩:=gQ h
 obtain ⟨bE,fc,_,h⟩:=gQ h
 refine SL 10 rf ?_
 refine GB rf rf rf (fun hb=>ae rfl (aL.len _ f0)) ?_
 refine GB rf rf rf (fun hb=>ak rfl) ?_
 refine GB rf rf rf (fun hb=>ck (bJ (K:=K) (mo f0) (bX hb)) (aB (bC rfl hb) (aB (bC rfl hb) rfl)) kn) ?_
 refine ai rfl (eF rfl rfl) ?_
 refine ai rfl (ak rfl) ?_
 refine GB rf rf rf (fun hb=>ak rfl) ?_
 refine GB rf rf rf (fun hb=>n8 (bC rfl hb) rfl) ?_
 refine ai rfl (bV rfl rfl) ?_
 refine ai rfl (ak rfl) ?_
 refine GB rf rf rf (fun hb=>ak rfl) ?_
 refine GB rf rf rf (fun hb=>o6 (bC rfl hb) rfl) ?_
 refine ai rfl (bV rfl rfl) ?_
 refine ai rfl (ak rfl) ?_
 refine GB rf rf rf (fun hb=>ae rfl (aL.len _ f0)) ?_
 refine GB rf rf rf (fun hb=>ak rfl) ?_
 refine GB rf rf rf (fun hb=>ck (pP (K:=K) (mo f0) (fc hb)) (aB (bC rfl hb) (aB (bC rfl hb) rfl)) kn) ?_
 refine GB rf rf rf (fun hb=>nc (bC rfl hb) rfl) ?_
 refine ai rfl (bV rfl rfl) ?_
 refine SL 2 rf ?_
 refine dN h rf (fun hc h=>?_) fun hc h=>?_
 ·
  refine SC 2 rf ?_
  refine ai rfl (ae rfl (aL.len _ f0)) ?_
  refine ST (C:=K) a0 (aE.id (L:=ay)) bp (mo f0) rf rf rf rf rf fun C7 f24=>?_
  refine SL 6 rf ?_
  have h:=sj h; subst h
  exact lB [] rf rf (ra rf (aL.len _ f24) (rt rf (rt rf rn))) ⟨_,rfl,(mo f24)⟩
 ·
  obtain ⟨dB,lF,h⟩:=aS h
  refine SC 4 rf ?_
  refine ai rfl (ae rfl (aL.len _ f0)) ?_
  refine SL 2 rf ?_
  refine CB (q7 (K:=K) (mo f0) lF) rf rf ?_
  rintro TV Mj Rq ⟨Q4,rfl,f31⟩
  replace f31:(ay).rep (fun w=>K w∧Hs [.ext Mj Rq] w) Q4 dB.1:=f31
  refine SL 3 rf ?_
  refine ST (C:=(fun w=>K w∧Hs [.ext Mj Rq] w)) dB.1 (aE.id (L:=ay)) bp (mo f31) rf rf rf rf rf fun C6 f34=>?_
  refine SL 5 rf ?_
  have h:=sj h; subst h
  exact lB [0] rf rf (ra rf (aL.len _ f34) (rt rf (rt rf rn))) ⟨_,rfl,(mo f34)⟩
def gN:Nat→ah→Int→Option Int
 | 0,_,_=>none
 | n + 1,a0,a1 =>
 bd (bB n a0 a1) fun aM =>
 cl (aM == true) (jX n a0 a1) default fun bE =>
 cn ((aM && (bE != 0))) (
 bd (jX n a0 a1) fun hJ =>
 bd (gN n a0 hJ) fun jS =>
 some jS) (
 bd (bB n a0 a1) fun fF =>
 cn (fF) (
 some a1) (
 some 0))
theorem nX {n a0 a1 r K} [bn K] {cv} (f0:(ay).rep K cv a0) (h:gN n a0 a1 = some r):pD Tryz.prog 43 [A cv, .int .i64 a1] K (.int .i64 r):=by
 induction n generalizing a0 a1 r K cv with
 | zero=>cases h
 | succ n ih =>
 rw [gN] at h
 refine fo Tryz.func43 (by kernel_rfl) rfl Tryz.ntmps43 rfl fun cx _ hro cZ hpre=>?_
 refine SC 2 rf ?_
 refine W1 rf (aV rfl) fun b2=>?_
 obtain ⟨aM,bX,h⟩:=aS h
 obtain ⟨bE,fc,_,h⟩:=gQ h
 refine SL 6 rf ?_
 refine ai rfl (ae rfl (aL.len _ f0)) ?_
 refine ai rfl (ak rfl) ?_
 refine CV (bJ (K:=K) (mo f0) bX) rf rf ?_
 refine ai rfl (ak rfl) ?_
 refine GB rf rf rf (fun hb=>ae rfl (aL.len _ f0)) ?_
 refine GB rf rf rf (fun hb=>ak rfl) ?_
 refine GB rf rf rf (fun hb=>ck (mB (K:=K) (mo f0) (fc hb)) (aB (bC rfl hb) (aB (bC rfl hb) rfl)) kn) ?_
 refine GB rf rf rf (fun hb=>mG (bC rfl hb) rfl) ?_
 refine ai rfl (bV rfl rfl) ?_
 refine SL 2 rf ?_
 refine dN h rf (fun hc h=>?_) fun hc h=>?_
 ·
  refine o5 ?_
  obtain ⟨hJ,jE,h⟩:=aS h
  obtain ⟨jS,qf,h⟩:=aS h
  refine cK mixed (.gm [] [(0,[2]),(1,[2]),(2,[1]),(3,[15,16]),(4,[14,17])] (.alt 5 [18] (.fin [] []) .no)) (by kernel_rfl) ?_
  refine T0 ?_
  refine NV rf rf (ae rfl (aL.len _ f0)) ?_
  refine NV rf rf (ae rfl (aL.len _ f0)) ?_
  refine NS 1 rf ?_
  refine NC rf rf (mB (K:=K) (mo f0) jE) rf ?_
  refine NC rf rf (ih (K:=K) (mo f0) qf) rf ?_
  refine aP ?_
  refine XV rf rf (bQ rfl) ?_
  refine oF ?_
  refine SX 3 rf ?_
  have h:=sj h; subst h
  exact RV rf (rt rf rn) rf
 ·
  obtain ⟨fF,nD,h⟩:=aS h
  refine SC 5 rf ?_
  refine ai rfl (ae rfl (aL.len _ f0)) ?_
  refine ai rfl (ak rfl) ?_
  refine CV (bJ (K:=K) (mo f0) nD) rf rf ?_
  refine SL 2 rf ?_
  refine dN h rf (fun hc h=>?_) fun hc h=>?_
  ·
   refine SC 8 rf ?_
   have h:=sj h; subst h
   exact RV rf (rt rf rn) rf
  ·
   refine SC 8 rf ?_
   have h:=sj h; subst h
   exact RV rf (rt rf rn) rf
def gG (n:Nat) (a0:aq) (a1:Int):Option (aq × Int):=
 some (a0,a1)
theorem mD {n a0 a1 r K} [bn K] {cv} (f0:(aj).rep K cv a0) (h:gG n a0 a1 = some r):Bw.Fn (α:=Nat × List Value × Nat) Tryz.prog 75 [A cv, .int .u32 a1] K [] (fun (b0,c0,b1)=>(aj).rep K c0 r.1) (fun (b0,c0,b1)=>.func (.func 88) #[] #[Ptr b0 0,Ptr b1 0]) (fun (b0,c0,b1)=>[.cells b0 41 c0, .cells b1 32 ((LI .u32).enc r.2)]):=by
 unfold gG at h
 refine fo Tryz.func75 (by kernel_rfl) rfl Tryz.ntmps75 rfl fun cx _ hro cZ hpre=>?_
 refine SC 2 rf ?_
 refine W1 rf (aV rfl) fun b2=>?_
 refine W1 rf (cC (LI .u32) a1 rfl rfl) fun b3=>?_
 refine SL 10 rf ?_
 have h:=sj h; subst h
 exact dF ⟨b2,cv,b3⟩ rfl (.tmp rfl .nil) (mo f0) rfl (ks:=[1,0]) rfl (by decide)
def gj (n:Nat) (a1:aq) (a2:Int):Option (List Int):=
 eu (fun GY (jR:Int) =>
 bd (dZ n a1 jR) fun jL =>
 cn (((jL.2 != 0) || (jL.1.Up == 0)) == false) (
 yl jL.1.Up <|
 GY jL.1.Up) (
 some [])) n a2
theorem j2 {n:Nat} {a1:aq} {a2:Int} {l:List Int} {K:World→Prop} [bn K] {q1:Nat} {fq:List Value} (f1:(aj).rep K fq a1) {q2:Nat} (h:gj n a1 a2 = some l):F8 Tryz.prog 88 [Ptr q1 0,Ptr q2 0] [.cells q1 41 fq, .cells q2 32 ((LI .u32).enc a2)] [.cells q1 41 fq] K (fun k=>[.int .u32 (l.getD k default)]) l.length:=by
 unfold gj at h
 refine ⟨fun y J Jx bs=>fI Tryz.func88 (by kernel_rfl) rfl Tryz.ntmps88 rfl (fun cx cZ hpre hro=>?_)⟩
 haveI:=jA (show cx.bs = bs++bN [.cells q1 41 fq, .cells q2 32 ((LI .u32).enc a2)] from cZ) hpre.1
 have hR:F3 Tryz.prog y cx.bs cx.w0 J Jx (fun k=>[.int .u32 (l.getD k default)]) l.length:=by rw [show cx.bs = bs++bN [.cells q1 41 fq, .cells q2 32 ((LI .u32).enc a2)] from cZ]; exact hpre.2
 have HJ:l.drop 0 = l:=rfl
 have Hu:0 ≤ l.length:=Nat.zero_le _
 refine ug ?_
 obtain ⟨GU,CH,h⟩:=mT h
 refine LO (β:=Int × Nat × (List Int) × (List Nat)) [0,1,2] [0,1,2] (fun (Ce,jR,qK,JK,wo)=>[]) (fun (Ce,jR,qK,JK,wo)=>[.ext wo (J qK wo), .cells q1 41 fq, .cells q2 32 ((LI .u32).enc jR)]) (fun (Ce,jR,qK,JK,wo)=>l.drop qK = JK∧qK ≤ l.length∧eu GU Ce jR = some JK) (n,a2,0,l,bs) ⟨HJ,Hu,h⟩ rf rf rf ?_
 rintro Ce ⟨jR,qK,JK,wo⟩ ⟨Ln,OY,h⟩
 replace h:=mS CH h; obtain ⟨Ce,rfl,h⟩:=h
 obtain ⟨jL,yZ,h⟩:=aS h
 refine SC 3 rf ?_
 refine ai rfl (ae rfl (aL.len _ f1)) ?_
 refine ai rfl (bg (aE.id (L:=(LI .u32))) rfl) ?_
 refine CB (iK (K:=K) (mo f1) yZ) rf rf ?_
 rintro Ry ye F6 ⟨L9,rfl,f47⟩
 replace f47:(aY).rep (fun w=>K w∧Hs [.ext ye F6] w) L9 jL.1:=f47
 refine SL 3 rf ?_
 refine W1 rf (bz (hz:=(⟨by kernel_rfl⟩ : cA Tryz.prog 38 eP))) fun b4=>?_
 refine ST (C:=(fun w=>K w∧Hs [.ext ye F6] w)) jL.1 (aE.id (L:=aY)) eO (mo f47) rf rf rf rf rf fun L8 f50=>?_
 refine SL 5 rf ?_
 rcases Bool.eq_false_or_eq_true (((jL.2 != 0) || (jL.1.Up == 0)) == false) with qN | qN
 ·
  replace h:=L2 qN h
  obtain ⟨RU,OI,h⟩:=DY h
  obtain ⟨OV,Pe,Ph,OT⟩:=drop_cons (Ln.trans OI)
  refine SC 4 rf ?_
  refine GB rf rf rf (fun hb=>aO rfl) ?_
  refine GB rf rf rf (fun hb=>bL (bC rfl hb) (cU.int f50)) ?_
  refine GB rf rf rf (fun hb=>ff (bC rfl hb) rfl) ?_
  refine ai rfl (eF rfl rfl) ?_
  refine ai rfl (ak rfl) ?_
  refine GB rf rf rf (fun hb=>ak rfl) ?_
  refine GB rf rf rf (fun hb=>aO rfl) ?_
  refine GB rf rf rf (fun hb=>bL (bC rfl hb) (cU.int f50)) ?_
  have hb:=qN; refine Mt (cY rfl rfl) qN rfl (rq (bs:=wo) hR OV hro (bC rfl hb) (show rO _ _ = some [.int .u32 (l.getD qK default)] by rw [Pe]; exact (aB (bC rfl hb) rfl))) (fun ⟨LG,LS⟩ _=>?_)
  refine GB rf rf rf (fun hb=>ja (bC rfl hb)) ?_
  refine ai rfl (eF rfl rfl) ?_
  refine SL 2 rf ?_
  refine vB rfl (fun hc=>?_) (fun hc=>?_)
  ·
   replace hc:=QU qN hc
   obtain rfl:LG = false:=by simpa using hc
   dsimp only [cond_true,cond_false]
   refine SC 5 rf ?_
   exact dF (false,LS) rfl .nil trivial rfl (ks:=[2,3]) rfl (by decide)
  ·
   replace hc:=QU qN hc
   obtain rfl:LG = true:=by simpa using hc
   dsimp only [cond_true,cond_false]
   refine SC 4 rf ?_
   refine ai rfl (bL rfl (cU.int f50)) ?_
   refine W0 (bI (M:=(LI .u32)) (aE.id (L:=(LI .u32))) jL.1.Up jL.1.Up rfl rfl rfl rfl rfl) ?_
   refine SL 2 rf ?_
   exact LN [2,3,4] (jL.1.Up,qK + 1,RU,LS) ⟨Ph,OT,h⟩ rf rf rf
 ·
  replace h:=L3 qN h
  refine SC 4 rf ?_
  refine GB rf rf rf (fun hb=>aO rfl) ?_
  refine GB rf rf rf (fun hb=>bL (bC rfl hb) (cU.int f50)) ?_
  refine GB rf rf rf (fun hb=>ff (bC rfl hb) rfl) ?_
  refine ai rfl (eF rfl rfl) ?_
  refine ai rfl (ak rfl) ?_
  refine GB rf rf rf (fun hb=>ak rfl) ?_
  refine GB rf rf rf (fun hb=>aO rfl) ?_
  refine GB rf rf rf (fun hb=>bL (bC rfl hb) (cU.int f50)) ?_
  refine Mu (v:=.bool true) (cY rfl rfl) qN rfl ?_
  refine GB rf rf rf (fun hb=>ja (bC rfl hb)) ?_
  refine ai rfl (eF rfl rfl) ?_
  refine SL 2 rf ?_
  refine vB rfl (fun _=>?_) (fun hc=>(LF qN hc).elim)
  refine SC 5 rf ?_
  have h:=sj h; subst h
  have PU:=drop_nil Ln OY
  refine sW (ks:=[2,3]) (H':=[.ext wo (J (qK) wo), .cells q1 41 fq]) rfl (by decide) ?_
  refine sX (J:=J) (n:=l.length) PU ?_
  exact dF (true,wo) rfl .nil trivial rfl (ks:=[0,1]) rfl (by decide)
def eI (n:Nat) (a0:aq) (a1:Int):Option Int:=
 bd (bk n a0.book.jQ a1) fun aM =>
 cn ((!aM)) (
 some 0) (
 bd (gG n a0 a1) fun bE =>
 bd (gj n bE.1 bE.2) fun cH =>
 gn (fun (H9:Int) Er (cI:Int) =>
 lt (H9:Int) fun ia =>
 lt (wr .i64 (cI + 1):Int) fun eR =>
 Er eR) (fun (cI:Int) =>
 some cI) cH 1)
theorem j8 {n a0 a1 r K} [bn K] {cv} (f0:(aj).rep K cv a0) (h:eI n a0 a1 = some r):pD Tryz.prog 47 [A cv, .int .u32 a1] K (.int .i64 r):=by
 unfold eI at h
 refine fo Tryz.func47 (by kernel_rfl) rfl Tryz.ntmps47 rfl fun cx _ hro cZ hpre=>?_
 refine SC 2 rf ?_
 refine W1 rf (aV rfl) fun b2=>?_
 obtain ⟨aM,bX,h⟩:=aS h
 refine SL 8 rf ?_
 refine ai rfl (bf rfl (bq.iff.1 ((aR.c0 br).get f0)) (aT _ _)) ?_
 refine ai rfl (ak rfl) ?_
 refine CV (bD bX) rf rf ?_
 refine SL 3 rf ?_
 refine dN h rf (fun hc h=>?_) fun hc h=>?_
 ·
  refine SC 7 rf ?_
  have h:=sj h; subst h
  exact RV rf (rt rf rn) rf
 ·
  refine SC 4 rf ?_
  refine W1 rf (bu (L:=(LI .i64)) (z:=0) ⟨by kernel_rfl⟩) fun b5=>?_
  refine W0 (bI (M:=(LI .i64)) (aE.id (L:=(LI .i64))) 1 1 rfl rfl rfl rfl rfl) ?_
  obtain ⟨bE,fc,h⟩:=aS h
  refine SL 5 rf ?_
  refine ai rfl (ae rfl (aL.len _ f0)) ?_
  refine ai rfl (ak rfl) ?_
  refine ef rfl (eK (mD (K:=K) (mo f0) fc) rfl kn) (fun ⟨Ml,Jf,Tf⟩ f25=>?_)
  replace f25:(aj).rep K Jf bE.1:=f25
  dsimp only [List.cons_append,List.nil_append]
  refine SL 3 rf ?_
  obtain ⟨cH,lE,h⟩:=aS h
  obtain ⟨yV,CK,zh,CQ,h⟩:=tF h
  refine rU (K:=K) (α:=Int) (β:=Unit) hro rfl (j2 (K:=K) (mo f25) lE) (fun _=>rfl) rfl (fun ny=>fun cI=>gn yV zh (cH.drop ny) cI = some r) (fun ny=>fun cI=>[.cells b5 3 ((LI .i64).enc cI), .cells b2 41 cv]) (fun _ _=>False) (fun _=>[]) 1 h (ks:=[0,1,2,3]) rfl (by decide) ?_ ?_ ?_
  ·
   rintro ny cI lo dd rec c' hk h sg we qh hsi hT
   replace h:gn yV zh (cH.drop ny) cI = some r:=h
   replace h:=tD CK hk h
   haveI:=oP (K:=K) hsi
   dsimp only [sC]
   obtain ⟨ia,oT,h⟩:=cj h
   rw [← oT]
   refine kV ?_
   refine lp sg qh ?_
   obtain ⟨eR,qc,h⟩:=cj h
   refine SC 2 rf ?_
   refine ai rfl (bg (aE.id (L:=(LI .i64))) rfl) ?_
   refine ai rfl (uh rfl rfl rfl) ?_
   refine W0 (bI (M:=(LI .i64)) (aE.id (L:=(LI .i64))) (wr .i64 (cI + 1)) eR qc rfl rfl rfl rfl) ?_
   refine SL 2 rf ?_
   exact kg sg we hT eR h (ks:=[0,1,2,3]) rfl (by decide)
  ·
   rintro SW cI h
   replace h:gn yV zh (cH.drop cH.length) cI = some r:=h
   replace h:=tE CQ rfl h
   dsimp only [List.cons_append,List.nil_append]
   refine SX 4 rf ?_
   refine ai rfl (bg (aE.id (L:=(LI .i64))) rfl) ?_
   refine SL 4 rf ?_
   have h:=sj h; subst h
   exact kU () rfl (.tmp rfl .nil) trivial rfl (ks:=[]) rfl (by decide)
  ·
   intro dd j i hf; exact hf.elim
def fA (n:Nat) (a0:aq) (a1:Int):Option Int:=
 bd (bk n a0.book.jQ a1) fun aM =>
 cn ((!aM)) (
 some 0) (
 bd (gG n a0 a1) fun bE =>
 bd (gj n bE.1 bE.2) fun cH =>
 gn (fun (H9:Int) Er (cI:Int) =>
 lt (H9:Int) fun ia =>
 Er ia) (fun (cI:Int) =>
 some cI) cH a1)
theorem iH {n a0 a1 r K} [bn K] {cv} (f0:(aj).rep K cv a0) (h:fA n a0 a1 = some r):pD Tryz.prog 39 [A cv, .int .u32 a1] K (.int .u32 r):=by
 unfold fA at h
 refine fo Tryz.func39 (by kernel_rfl) rfl Tryz.ntmps39 rfl fun cx _ hro cZ hpre=>?_
 refine SC 2 rf ?_
 refine W1 rf (aV rfl) fun b2=>?_
 refine W1 rf (cC (LI .u32) a1 rfl rfl) fun b3=>?_
 obtain ⟨aM,bX,h⟩:=aS h
 refine SL 8 rf ?_
 refine ai rfl (bf rfl (bq.iff.1 ((aR.c0 br).get f0)) (aT _ _)) ?_
 refine ai rfl (bg (aE.id (L:=(LI .u32))) rfl) ?_
 refine CV (bD bX) rf rf ?_
 refine SL 3 rf ?_
 refine dN h rf (fun hc h=>?_) fun hc h=>?_
 ·
  refine SC 7 rf ?_
  have h:=sj h; subst h
  exact RV rf (rt rf rn) rf
 ·
  obtain ⟨bE,fc,h⟩:=aS h
  refine SC 5 rf ?_
  refine ai rfl (ae rfl (aL.len _ f0)) ?_
  refine ai rfl (bg (aE.id (L:=(LI .u32))) rfl) ?_
  refine ef rfl (eK (mD (K:=K) (mo f0) fc) rfl kn) (fun ⟨Ml,Jf,Tf⟩ f25=>?_)
  replace f25:(aj).rep K Jf bE.1:=f25
  dsimp only [List.cons_append,List.nil_append]
  refine SL 3 rf ?_
  obtain ⟨cH,lE,h⟩:=aS h
  obtain ⟨yV,CK,zh,CQ,h⟩:=tF h
  refine rU (K:=K) (α:=Int) (β:=Unit) hro rfl (j2 (K:=K) (mo f25) lE) (fun _=>rfl) rfl (fun ny=>fun cI=>gn yV zh (cH.drop ny) cI = some r) (fun ny=>fun cI=>[.cells b3 32 ((LI .u32).enc cI), .cells b2 41 cv]) (fun _ _=>False) (fun _=>[]) a1 h (ks:=[0,1,2,3]) rfl (by decide) ?_ ?_ ?_
  ·
   rintro ny cI lo dd rec c' hk h sg we qh hsi hT
   replace h:gn yV zh (cH.drop ny) cI = some r:=h
   replace h:=tD CK hk h
   haveI:=oP (K:=K) hsi
   dsimp only [sC]
   obtain ⟨ia,oT,h⟩:=cj h
   rw [← oT]
   refine SC 3 rf ?_
   refine lp sg qh ?_
   refine SC 3 rf ?_
   refine W0 (bI (M:=(LI .u32)) (aE.id (L:=(LI .u32))) ia ia rfl rfl rfl rfl rfl) ?_
   refine SL 2 rf ?_
   exact kg sg we hT ia h (ks:=[0,1,2,3]) rfl (by decide)
  ·
   rintro P2 cI h
   replace h:gn yV zh (cH.drop cH.length) cI = some r:=h
   replace h:=tE CQ rfl h
   dsimp only [List.cons_append,List.nil_append]
   refine SX 4 rf ?_
   refine ai rfl (bg (aE.id (L:=(LI .u32))) rfl) ?_
   refine SL 4 rf ?_
   have h:=sj h; subst h
   exact kU () rfl (.tmp rfl .nil) trivial rfl (ks:=[]) rfl (by decide)
  ·
   intro dd j i hf; exact hf.elim
def gB (n:Nat) (a0:aq) (a1:Int) (a2:Int):Option Bool:=
 bd (bk n a0.book.jQ a1) fun aM =>
 cl ((!aM) == false) (bk n a0.book.jQ a2) default fun bE =>
 cn (((!aM) || (!bE))) (
 some false) (
 lt ((a1 == a2):Bool) fun hJ =>
 bd (gG n a0 a2) fun jS =>
 bd (gj n jS.1 jS.2) fun fa =>
 gn (fun (PY:Int) Cn (dV:Bool) =>
 lt (PY:Int) fun eR =>
 lt ((dV || (eR == a1)):Bool) fun jN =>
 Cn jN) (fun (dV:Bool) =>
 some dV) fa hJ)
theorem m5 {n a0 a1 a2 r K} [bn K] {cv} (f0:(aj).rep K cv a0) (h:gB n a0 a1 a2 = some r):pD Tryz.prog 60 [A cv, .int .u32 a1, .int .u32 a2] K (.bool r):=by
 unfold gB at h
 refine fo Tryz.func60 (by kernel_rfl) rfl Tryz.ntmps60 rfl fun cx _ hro cZ hpre=>?_
 refine SC 2 rf ?_
 refine W1 rf (aV rfl) fun b3=>?_
 refine W1 rf (cC (LI .u32) a1 rfl rfl) fun b4=>?_
 obtain ⟨aM,bX,h⟩:=aS h
 obtain ⟨bE,fc,_,h⟩:=gQ h
 refine SL 8 rf ?_
 refine ai rfl (bf rfl (bq.iff.1 ((aR.c0 br).get f0)) (aT _ _)) ?_
 refine ai rfl (bg (aE.id (L:=(LI .u32))) rfl) ?_
 refine CV (bD bX) rf rf ?_
 refine SL 2 rf ?_
 refine GB rf rf rf (fun hb=>aO rfl) ?_
 refine GB rf rf rf (fun hb=>aO (bC rfl hb)) ?_
 refine GB rf rf rf (fun hb=>bf (bC rfl hb) (bq.iff.1 ((aR.c0 br).get f0)) (aT _ _)) ?_
 refine GB rf rf rf (fun hb=>ak rfl) ?_
 refine GB rf rf rf (fun hb=>ck (bD (fc hb)) (aB (bC rfl hb) (aB (bC rfl hb) rfl)) (fun _ _ _=>trivial)) ?_
 refine GB rf rf rf (fun hb=>ja (bC rfl hb)) ?_
 refine ai rfl (eF rfl rfl) ?_
 refine SL 2 rf ?_
 refine dN h rf (fun hc h=>?_) fun hc h=>?_
 ·
  refine SC 7 rf ?_
  have h:=sj h; subst h
  exact RV rf (rt rf rn) rf
 ·
  obtain ⟨hJ,jE,h⟩:=cj h
  refine SC 4 rf ?_
  refine ai rfl (bg (aE.id (L:=(LI .u32))) rfl) ?_
  refine SL 2 rf ?_
  refine W1 rf (bu (L:=LB) (z:=false) ⟨by kernel_rfl⟩) fun b7=>?_
  refine W0 (bI (M:=LB) (aE.id (L:=LB)) (a1 == a2) hJ jE rfl rfl rfl rfl) ?_
  obtain ⟨jS,qf,h⟩:=aS h
  refine SL 5 rf ?_
  refine ai rfl (ae rfl (aL.len _ f0)) ?_
  refine ai rfl (ak rfl) ?_
  refine ef rfl (eK (mD (K:=K) (mo f0) qf) rfl kn) (fun ⟨Mk,Io,Te⟩ f27=>?_)
  replace f27:(aj).rep K Io jS.1:=f27
  dsimp only [List.cons_append,List.nil_append]
  refine SL 3 rf ?_
  obtain ⟨fa,rM,h⟩:=aS h
  obtain ⟨G2,Lb,HW,Lk,h⟩:=tF h
  refine rU (K:=K) (α:=Bool) (β:=Unit) hro rfl (j2 (K:=K) (mo f27) rM) (fun _=>rfl) rfl (fun qK=>fun dV=>gn G2 HW (fa.drop qK) dV = some r) (fun qK=>fun dV=>[.cells b7 4 (LB.enc dV), .cells b4 32 ((LI .u32).enc a1), .cells b3 41 cv]) (fun _ _=>False) (fun _=>[]) hJ h (ks:=[0,1,2,3,4]) rfl (by decide) ?_ ?_ ?_
  ·
   rintro qK dV lo dd rec c' hk h sg we qh hsi hT
   replace h:gn G2 HW (fa.drop qK) dV = some r:=h
   replace h:=tD Lb hk h
   haveI:=oP (K:=K) hsi
   dsimp only [sC]
   obtain ⟨eR,qc,h⟩:=cj h
   rw [← qc]
   refine SC 3 rf ?_
   refine lp sg qh ?_
   obtain ⟨jN,sF,h⟩:=cj h
   refine SC 2 rf ?_
   refine ai rfl (lI (aE.id (L:=LB)) rfl) ?_
   refine ai rfl (ak rfl) ?_
   refine GB rf rf rf (fun hb=>ak rfl) ?_
   refine GB rf rf rf (fun hb=>bg (aE.id (L:=(LI .u32))) rfl) ?_
   refine GB rf rf rf (fun hb=>ff (bC rfl hb) (bC rfl hb)) ?_
   refine ai rfl (eF rfl rfl) ?_
   refine W0 (bI (M:=LB) (aE.id (L:=LB)) (dV || (eR == a1)) jN sF rfl rfl rfl rfl) ?_
   refine SL 2 rf ?_
   exact kg sg we hT jN h (ks:=[0,1,2,3,4]) rfl (by decide)
  ·
   rintro SV dV h
   replace h:gn G2 HW (fa.drop fa.length) dV = some r:=h
   replace h:=tE Lk rfl h
   dsimp only [List.cons_append,List.nil_append]
   refine SX 4 rf ?_
   refine ai rfl (lI (aE.id (L:=LB)) rfl) ?_
   refine SL 4 rf ?_
   have h:=sj h; subst h
   exact kU () rfl (.tmp rfl .nil) trivial rfl (ks:=[]) rfl (by decide)
  ·
   intro dd j i hf; exact hf.elim
def jG (n:Nat) (a0:aq) (a1:Int) (a2:Int):Option (aq × Int × Int):=
 bd (eS n a0 a1 a2) fun aM =>
 cl (((aM.2.2 == 0) || (aM.2.2 == 7)) == true) (eI n a0 a1) default fun cI =>
 cn ((((aM.2.2 == 0) || (aM.2.2 == 7)) && decide (6 ≤ cI))) (
 some (a0,0,8)) (
 some (aM.1,aM.2.1,aM.2.2))
theorem n3 {n a0 a1 a2 r K} [bn K] {cv} (f0:(aj).rep K cv a0) (h:jG n a0 a1 a2 = some r):pY Tryz.prog 14 [A cv, .int .u32 a1, .int .i64 a2] K (fun J v=>∃u0,v = (.tuple #[A u0, .int .u32 r.2.1, .int .i64 r.2.2])∧(aj).rep (fun w=>K w∧J w) u0 (r.1)):=by
 unfold jG at h
 refine fo Tryz.func14 (by kernel_rfl) rfl Tryz.ntmps14 rfl fun cx _ hro cZ hpre=>?_
 refine SC 2 rf ?_
 refine W1 rf (aV rfl) fun b3=>?_
 refine W1 rf (bz (hz:=(⟨by kernel_rfl⟩ : cA Tryz.prog 41 aN))) fun b6=>?_
 obtain ⟨aM,bX,h⟩:=aS h
 refine SL 6 rf ?_
 refine ai rfl (ae rfl (aL.len _ f0)) ?_
 refine SL 2 rf ?_
 refine CB (qW (K:=K) (mo f0) bX) rf rf ?_
 rintro vI eN kq ⟨ES,rfl,f26⟩
 replace f26:(aj).rep (fun w=>K w∧Hs [.ext eN kq] w) ES aM.1:=f26
 refine SL 4 rf ?_
 refine W1 rf (bz (hz:=(⟨by kernel_rfl⟩ : cA Tryz.prog 41 aN))) fun b9=>?_
 refine ST (C:=(fun w=>K w∧Hs [.ext eN kq] w)) aM.1 (aE.id (L:=aj)) aX (mo f26) rf rf rf rf rf fun Bt f29=>?_
 obtain ⟨cI,tI,_,h⟩:=gQ h
 refine SL 10 rf ?_
 refine GB rf rf rf (fun hb=>ak rfl) ?_
 refine GB rf rf rf (fun hb=>ff (bC rfl hb) rfl) ?_
 refine ai rfl (eF rfl rfl) ?_
 refine ai rfl (ak rfl) ?_
 refine GB rf rf rf (fun hb=>ae rfl (aL.len _ f0)) ?_
 refine GB rf rf rf (fun hb=>ak rfl) ?_
 refine GB rf rf rf (fun hb=>ck (j8 (K:=K) (mo f0) (tI hb)) (aB (bC rfl hb) (aB (bC rfl hb) rfl)) kn) ?_
 refine GB rf rf rf (fun hb=>n8 (bC rfl hb) rfl) ?_
 refine ai rfl (bV rfl rfl) ?_
 refine SL 2 rf ?_
 refine dN h rf (fun hc h=>?_) fun hc h=>?_
 ·
  refine SC 2 rf ?_
  refine ai rfl (ae rfl (aL.len _ f0)) ?_
  refine ST (C:=K) a0 (aE.id (L:=aj)) aX (mo f0) rf rf rf rf rf fun S8 f32=>?_
  refine SL 6 rf ?_
  have h:=sj h; subst h
  exact lB [] rf rf (ra rf (aL.len _ f32) (rt rf (rt rf rn))) ⟨_,rfl,(mo f32)⟩
 ·
  refine SC 4 rf ?_
  refine ai rfl (ae rfl (aL.len _ f29)) ?_
  refine SL 2 rf ?_
  refine ST (C:=(fun w=>K w∧Hs [.ext eN kq] w)) aM.1 (aE.id (L:=aj)) aX (mo f29) rf rf rf rf rf fun DS f35=>?_
  refine SL 5 rf ?_
  have h:=sj h; subst h
  exact lB [1] rf rf (ra rf (aL.len _ f35) (rt rf (rt rf rn))) ⟨_,rfl,(mo f35)⟩
def fT (n:Nat) (a0:Int) (a1:aq) (a2:Int):Option Bool:=
 bd (dZ n a1 a0) fun aM =>
 some (aM.1.Up != a2)
theorem ow {n a0 a1 a2 r K} [bn K] {q1 fq} (f1:(aj).rep K fq a1) {q2:Nat} (h:fT n a0 a1 a2 = some r):Bw.Fn (α:=Unit) Tryz.prog 93 [.int .u32 a0,Ptr q1 0,Ptr q2 0] (Ar (bN [.cells q1 41 fq, .cells q2 32 ((LI .u32).enc a2)]) K) [.cells q1 41 fq, .cells q2 32 ((LI .u32).enc a2)] (fun _=>True) (fun _=>(.bool r)) (fun _=>[.cells q1 41 fq, .cells q2 32 ((LI .u32).enc a2)]):=by
 unfold fT at h
 refine fI Tryz.func93 (by kernel_rfl) rfl Tryz.ntmps93 rfl (fun cx cZ hpre hro=>?_)
 haveI:=jA cZ hpre
 obtain ⟨aM,bX,h⟩:=aS h
 refine SC 7 rf ?_
 refine ai rfl (ae rfl (aL.len _ f1)) ?_
 refine ai rfl (ak rfl) ?_
 refine CB (iK (K:=K) (mo f1) bX) rf rf ?_
 rintro vI eN kq ⟨ES,rfl,f26⟩
 replace f26:(aY).rep (fun w=>K w∧Hs [.ext eN kq] w) ES aM.1:=f26
 refine SL 3 rf ?_
 refine W1 rf (bz (hz:=(⟨by kernel_rfl⟩ : cA Tryz.prog 38 eP))) fun b5=>?_
 refine ST (C:=(fun w=>K w∧Hs [.ext eN kq] w)) aM.1 (aE.id (L:=aY)) eO (mo f26) rf rf rf rf rf fun Bt f29=>?_
 refine SL 6 rf ?_
 refine ai rfl (bL rfl (cU.int f29)) ?_
 refine ai rfl (bg (aE.id (L:=(LI .u32))) rfl) ?_
 refine SL 5 rf ?_
 have h:=sj h; subst h
 exact dF () rfl (.tmp rfl .nil) trivial rfl (ks:=[2,3]) rfl (by decide)
def dc (n:Nat) (a0:(List Int)) (oE:aq) (lW:Int):Option Int:=
 eu (fun v7 (bE:Int) =>
 cn (decide (bE < (a0.length:Int))) (
 gu (dO bE a0.length) <|
 bd (fT n (a0.getD (Int.toNat bE) default) oE lW) fun cH =>
 cn (cH) (
 some bE) (
 v7 (wr .i64 (bE + 1)))) (
 some (-1))) n 0
theorem iW {n a0 oE lW r K} [bn K] {v0} (f0:Fz K v0 (LI .u32) a0) {nt:Nat} {mU:List Value} (EK:(aj).rep K mU oE) {nr:Nat} (h:dc n a0 oE lW = some r):Bw.Fn (α:=Unit) Tryz.prog 99 [v0, .func (.func 93) #[] #[Ptr nt 0,Ptr nr 0]] (Ar (bN [.cells nt 41 mU, .cells nr 32 ((LI .u32).enc lW)]) K) [.cells nt 41 mU, .cells nr 32 ((LI .u32).enc lW)] (fun _=>True) (fun _=>(.int .i64 r)) (fun _=>[.cells nt 41 mU, .cells nr 32 ((LI .u32).enc lW)]):=by
 unfold dc at h
 refine fI Tryz.func99 (by kernel_rfl) rfl Tryz.ntmps99 rfl (fun cx cZ hpre hro=>?_)
 haveI:=jA cZ hpre
 refine SC 9 rf ?_
 refine ai rfl (dg f0 rfl) ?_
 refine SL 4 rf ?_
 obtain ⟨p9,mq,h⟩:=mT h
 refine LO (β:=Int) [0,1,7] [0,1] (fun (me,bE)=>[(8, .int .i64 bE)]) (fun (me,bE)=>[.cells nt 41 mU, .cells nr 32 ((LI .u32).enc lW)]) (fun (me,bE)=>eu p9 me bE = some r) (n,0) h rf rf rf ?_
 rintro me bE h
 replace h:=mS mq h; obtain ⟨me,rfl,h⟩:=h
 refine SC 6 rf ?_
 refine dN h rf (fun hc h=>?_) fun hc h=>?_
 ·
  obtain ⟨mN,h⟩:=cq h
  obtain ⟨cH,lE,h⟩:=aS h
  refine SC 15 rf ?_
  refine ai rfl (cM (m:=(Int.toNat bE)) f0 rfl rfl rfl (az mN).1 (az mN).2) ?_
  refine ai rfl (cN f0 (aE.idx (L:=(LI .u32)) (m:=(a0.length)) (k:=1) ((Int.toNat bE)) (az mN).2 rfl) rfl) ?_
  refine ef rfl (jc (K:=K) (ni:=[.cells nt 41 mU, .cells nr 32 ((LI .u32).enc lW)]) (rest:=[]) (ks:=[0,1]) (ow (K:=K) (mo EK) lE) rfl rfl rfl rfl (by decide)) (fun _ _=>?_)
  dsimp only [List.cons_append,List.nil_append]
  refine SL 2 rf ?_
  refine dN h rf (fun hc h=>?_) fun hc h=>?_
  ·
   refine SC 12 rf ?_
   have h:=sj h; subst h
   exact dF () rfl (.tmp rfl .nil) trivial rfl (ks:=[0,1]) rfl (by decide)
  ·
   refine SC 7 rf ?_
   exact LN [0,1] (wr .i64 (bE + 1)) h rf rf rf
 ·
  refine SC 11 rf ?_
  have h:=sj h; subst h
  exact dF () rfl (.tmp rfl .nil) trivial rfl (ks:=[0,1]) rfl (by decide)
def cX (n:Nat) (a0:(List Int)) (oE:aq) (lW:Int):Option (List Int):=
 bd (dc n a0 oE lW) fun aM =>
 cn ((aM == (-1))) (
 some a0) (
 nv (fun Kb (dQ:(List Int)) (cI:Int) (dj:Int) =>
 cn (decide (dj < (dQ.length:Int))) (
 gu (dO dj dQ.length) <|
 bd (fT n (dQ.getD (Int.toNat dj) default) oE lW) fun gq =>
 cn ((!gq)) (
 gu (dO cI dQ.length) <|
 lt ((dQ.set (Int.toNat cI) (dQ.getD (Int.toNat dj) default)):List Int) fun ez =>
 Kb ez (wr .i64 (cI + 1)) (wr .i64 (dj + 1))) (
 Kb dQ cI (wr .i64 (dj + 1)))) (
 gu (dO cI (dQ.length + 1)) <|
 lt (dQ.take (Int.toNat cI)++List.replicate (dQ.length - (Int.toNat cI)) 0:List Int) fun dX =>
 gu (dO cI (dX.length + 1)) <|
 lt (dX.take (Int.toNat cI):List Int) fun pE =>
 some pE)) n a0 aM (wr .i64 (aM + 1)))
theorem iM {n a0 oE lW r K} [bn K] {v0} (f0:ko v0 a0.length) {nt:Nat} {mU:List Value} (EK:(aj).rep K mU oE) {nr:Nat} (h:cX n a0 oE lW = some r):Bw.Fn (α:=Value) Tryz.prog 92 [v0, .func (.func 93) #[] #[Ptr nt 0,Ptr nr 0]] (Ar (bN [Row v0 32 1 (LI .u32) a0, .cells nt 41 mU, .cells nr 32 ((LI .u32).enc lW)]) K) [Row v0 32 1 (LI .u32) a0, .cells nt 41 mU, .cells nr 32 ((LI .u32).enc lW)] (fun v=>ko v r.length) (fun v=>v) (fun v=>[Row v 32 1 (LI .u32) r, .cells nt 41 mU, .cells nr 32 ((LI .u32).enc lW)]):=by
 unfold cX at h
 refine fI Tryz.func92 (by kernel_rfl) rfl Tryz.ntmps92 rfl (fun cx cZ hpre hro=>?_)
 haveI:=jA cZ hpre
 obtain ⟨aM,bX,h⟩:=aS h
 refine SC 9 rf ?_
 refine ef rfl (jc (K:=(fun w=>K w∧Hs [Row v0 32 1 (LI .u32) a0] w)) (ni:=[.cells nt 41 mU, .cells nr 32 ((LI .u32).enc lW)]) (rest:=[Row v0 32 1 (LI .u32) a0]) (ks:=[1,2,0]) (iW (K:=(fun w=>K w∧Hs [Row v0 32 1 (LI .u32) a0] w)) ((Fz.row (e:=32) (sz:=1) (L:=(LI .u32)) (xs:=a0) rfl f0).mono kx) (mo EK) bX) rfl rfl rfl rfl (by decide)) (fun _ _=>?_)
 dsimp only [List.cons_append,List.nil_append]
 refine SL 10 rf ?_
 refine dN h rf (fun hc h=>?_) fun hc h=>?_
 ·
  refine SC 8 rf ?_
  have h:=sj h; subst h
  exact dF v0 rfl (.tmp rfl .nil) f0 rfl (ks:=[2,0,1]) rfl (by decide)
 ·
  refine SC 11 rf ?_
  obtain ⟨NQ,K4,h⟩:=Ci h
  refine LO (β:=(List Int) × Int × Int) [1] [0,1,2] (fun (J2,dQ,cI,dj)=>[(0,v0),(5, .int .i64 cI),(6, .int .i64 dj)]) (fun (J2,dQ,cI,dj)=>[.cells nt 41 mU, .cells nr 32 ((LI .u32).enc lW),Row v0 32 1 (LI .u32) dQ]) (fun (J2,dQ,cI,dj)=>ko v0 dQ.length∧nv NQ J2 dQ cI dj = some r) (n,a0,aM,wr .i64 (aM + 1)) ⟨f0,h⟩ rf rf rf ?_
  rintro J2 ⟨dQ,cI,dj⟩ ⟨pG,h⟩
  replace h:=Ch K4 h; obtain ⟨J2,rfl,h⟩:=h
  refine SC 5 rf ?_
  refine ai rfl (dg (Fz.row (e:=32) (sz:=1) (L:=(LI .u32)) (xs:=dQ) rfl pG) rfl) ?_
  refine SL 3 rf ?_
  refine dN h rf (fun hc h=>?_) fun hc h=>?_
  ·
   obtain ⟨oW,h⟩:=cq h
   refine SC 8 rf ?_
   refine ai rfl (cM (m:=(Int.toNat dj)) (Fz.row (e:=32) (sz:=1) (L:=(LI .u32)) (xs:=dQ) rfl pG) rfl rfl rfl (az oW).1 (az oW).2) ?_
   refine ai rfl (cN (Fz.row (e:=32) (sz:=1) (L:=(LI .u32)) (xs:=dQ) rfl pG) (aE.idx (L:=(LI .u32)) (m:=(dQ.length)) (k:=1) ((Int.toNat dj)) (az oW).2 rfl) rfl) ?_
   obtain ⟨gq,mj,h⟩:=aS h
   refine SL 7 rf ?_
   refine ef rfl (jc (K:=K) (ni:=[.cells nt 41 mU, .cells nr 32 ((LI .u32).enc lW)]) (rest:=[Row v0 32 1 (LI .u32) dQ]) (ks:=[0,1,2]) (ow (K:=K) (mo EK) mj) rfl rfl rfl rfl (by decide)) (fun _ _=>?_)
   dsimp only [List.cons_append,List.nil_append]
   refine SL 3 rf ?_
   refine dN h rf (fun hc h=>?_) fun hc h=>?_
   ·
    obtain ⟨xR,h⟩:=cq h
    obtain ⟨ez,uH,h⟩:=cj h
    refine SC 5 rf ?_
    refine ai rfl (cM (m:=(Int.toNat cI)) (Fz.row (e:=32) (sz:=1) (L:=(LI .u32)) (xs:=dQ) rfl pG) rfl rfl rfl (az xR).1 (az xR).2) ?_
    refine W0 (wX (sz:=1) (M:=(LI .u32)) (Int.toNat cI) (aE.idx (L:=(LI .u32)) (m:=(dQ.length)) (k:=1) ((Int.toNat cI)) (az xR).2 rfl) (dQ.getD (Int.toNat dj) default) ez uH rfl rfl rfl rfl (az xR).2 rfl rfl) ?_
    have EE:ko v0 ez.length:=by rw [uH,List.length_set]; exact pG
    refine SL 14 rf ?_
    exact LN [0,1,2] (ez,wr .i64 (cI + 1),wr .i64 (dj + 1)) ⟨EE,h⟩ rf rf rf
   ·
    refine SC 8 rf ?_
    exact LN [0,1,2] (dQ,cI,wr .i64 (dj + 1)) ⟨pG,h⟩ rf rf rf
  ·
   obtain ⟨oV,h⟩:=cq h
   obtain ⟨dX,qL,h⟩:=cj h
   refine SC 9 rf ?_
   refine ai rfl (Ba (l:=(Int.toNat cI)) (Fz.row (e:=32) (sz:=1) (L:=(LI .u32)) (xs:=dQ) rfl pG) rfl rfl (az oV).1 (Nat.lt_succ_iff.1 (az oV).2)) ?_
   refine Dv (Bf (L:=(LI .u32)) (z0:=0) (e:=32) (by kernel_rfl) ⟨by kernel_rfl⟩ rfl rfl rfl rfl (Nat.lt_succ_iff.1 (az oV).2) rfl qL) (fun _ _=>?_)
   have wc:ko v0 dX.length:=by rw [qL,List.length_append,List.length_take,List.length_replicate,Nat.min_eq_left (Nat.lt_succ_iff.1 (az oV).2),Nat.add_sub_cancel' (Nat.lt_succ_iff.1 (az oV).2)]; exact pG
   obtain ⟨wj,h⟩:=cq h
   obtain ⟨pE,AT,h⟩:=cj h
   refine SL 6 rf ?_
   refine ef rfl (vE (e:=32) (sz:=1) (L:=(LI .u32)) wc rfl rfl rfl (az wj).1 (Nat.lt_succ_iff.1 (az wj).2)) (fun _ _=>?_)
   have uJ:ko (kI 0 (Int.toNat cI) 1 v0) pE.length:=by rw [AT,List.length_take,Nat.min_eq_left (Nat.lt_succ_iff.1 (az wj).2)]; exact Am wc
   rw [← AT]
   refine SL 4 rf ?_
   have h:=sj h; subst h
   exact dF (kI 0 (Int.toNat cI) 1 v0) rfl (.tmp rfl .nil) uJ rfl (ks:=[2,0,1]) rfl (by decide)
def k7 (n:Nat) (a0:aq) (a1:Int):Option (List Int):=
 bd (bk n a0.book.jQ a1) fun aM =>
 cn ((!aM)) (
 some ([]:List Int)) (
 bd (fZ n a0.book) fun hJ =>
 bd (cX n hJ a0 a1) fun cH =>
 some cH)
theorem uO {n a0 a1 r K} [bn K] {cv} (f0:(aj).rep K cv a0) (h:k7 n a0 a1 = some r):Bw.Fn (α:=Value) Tryz.prog 83 [A cv, .int .u32 a1] K [] (fun v=>ko v r.length) (fun v=>v) (fun v=>[Row v 32 1 (LI .u32) r]):=by
 unfold k7 at h
 refine fo Tryz.func83 (by kernel_rfl) rfl Tryz.ntmps83 rfl fun cx _ hro cZ hpre=>?_
 refine SC 2 rf ?_
 refine W1 rf (aV rfl) fun b2=>?_
 refine W1 rf (cC (LI .u32) a1 rfl rfl) fun b3=>?_
 obtain ⟨aM,bX,h⟩:=aS h
 refine SL 8 rf ?_
 refine ai rfl (bf rfl (bq.iff.1 ((aR.c0 br).get f0)) (aT _ _)) ?_
 refine ai rfl (bg (aE.id (L:=(LI .u32))) rfl) ?_
 refine CV (bD bX) rf rf ?_
 refine SL 3 rf ?_
 refine dN h rf (fun hc h=>?_) fun hc h=>?_
 ·
  refine SC 7 rf ?_
  refine Ak 32 1 (LI .u32) ?_
  have h:=sj h; subst h
  exact dF (.slice none 0 0) rfl (.tmp rfl .nil) ⟨_,_,rfl⟩ rfl (ks:=[0]) rfl (by decide)
 ·
  obtain ⟨hJ,jE,h⟩:=aS h
  obtain ⟨cH,lE,h⟩:=aS h
  refine SC 5 rf ?_
  refine ai rfl (bf rfl (bq.iff.1 (aR.get f0)) (aT _ _)) ?_
  refine ef rfl (eK (kJ jE) rfl (fun _ _ _=>trivial)) (fun Qs OH=>?_)
  dsimp only [List.cons_append,List.nil_append]
  refine ai rfl (m6 rfl) ?_
  refine ef rfl (jc (K:=K) (ni:=[Row Qs 32 1 (LI .u32) hJ, .cells b2 41 cv, .cells b3 32 ((LI .u32).enc a1)]) (rest:=[]) (ks:=[0,2,1]) (iM (K:=K) OH (mo f0) lE) rfl rfl rfl rfl (by decide)) (fun qD pG=>?_)
  dsimp only [List.cons_append,List.nil_append]
  refine SL 4 rf ?_
  have h:=sj h; subst h
  exact dF qD rfl (.tmp rfl .nil) pG rfl (ks:=[0]) rfl (by decide)
def gF (n:Nat) (a0:aq) (a1:Int):Option (Int × aq):=
 some (a1,a0)
theorem mC {n a0 a1 r K} [bn K] {cv} (f0:(aj).rep K cv a0) (h:gF n a0 a1 = some r):Bw.Fn (α:=Nat × Nat × List Value) Tryz.prog 61 [A cv, .int .u32 a1] K [] (fun (b0,b1,c1)=>(aj).rep K c1 r.2) (fun (b0,b1,c1)=>.func (.func 82) #[] #[Ptr b0 0,Ptr b1 0]) (fun (b0,b1,c1)=>[.cells b0 32 ((LI .u32).enc r.1), .cells b1 41 c1]):=by
 unfold gF at h
 refine fo Tryz.func61 (by kernel_rfl) rfl Tryz.ntmps61 rfl fun cx _ hro cZ hpre=>?_
 refine SC 2 rf ?_
 refine W1 rf (aV rfl) fun b2=>?_
 refine W1 rf (cC (LI .u32) a1 rfl rfl) fun b3=>?_
 refine SL 10 rf ?_
 have h:=sj h; subst h
 exact dF ⟨b3,b2,cv⟩ rfl (.tmp rfl .nil) (mo f0) rfl (ks:=[0,1]) rfl (by decide)
def fO (n:Nat) (a0:(List Int)):Option (List Int):=
 nv (fun Cn (cH:(List Int)) (fa:Int) (cI:Int) =>
 cn (decide (fa < cI)) (
 gu (dO cI cH.length) <|
 gu (dO fa cH.length) <|
 gu (dO fa cH.length) <|
 lt ((cH.set (Int.toNat fa) (cH.getD (Int.toNat cI) default)):List Int) fun eR =>
 gu (dO cI eR.length) <|
 lt ((eR.set (Int.toNat cI) (cH.getD (Int.toNat fa) default)):List Int) fun gl =>
 Cn gl (wr .i64 (fa + 1)) (wr .i64 (cI - 1))) (
 some cH)) n a0 0 (wr .i64 ((a0.length:Int) - 1))
theorem oC {n a0 r v0} (f0:ko v0 a0.length) (h:fO n a0 = some r):Bw.Fn (α:=Value) Tryz.prog 84 [v0] (Ar (bN [Row v0 32 1 (LI .u32) a0]) (fun _=>True)) [Row v0 32 1 (LI .u32) a0] (fun v=>v = v0∧ko v r.length) (fun v=>.tuple #[]) (fun v=>[Row v 32 1 (LI .u32) r]):=by
 unfold fO at h
 refine fI Tryz.func84 (by kernel_rfl) rfl Tryz.ntmps84 rfl (fun cx cZ hpre hro=>?_)
 refine SC 3 rf ?_
 refine ai rfl (dg (Fz.row (e:=32) (sz:=1) (L:=(LI .u32)) (xs:=a0) rfl f0) rfl) ?_
 refine SL 6 rf ?_
 obtain ⟨Cl,xP,h⟩:=Ci h
 refine LO (β:=(List Int) × Int × Int) [] [0] (fun (m32,cH,fa,cI)=>[(0,v0),(2, .int .i64 fa),(3, .int .i64 cI)]) (fun (m32,cH,fa,cI)=>[Row v0 32 1 (LI .u32) cH]) (fun (m32,cH,fa,cI)=>ko v0 cH.length∧nv Cl m32 cH fa cI = some r) (n,a0,0,wr .i64 ((a0.length:Int) - 1)) ⟨f0,h⟩ rf rf rf ?_
 rintro m32 ⟨cH,fa,cI⟩ ⟨tL,h⟩
 replace h:=Ch xP h; obtain ⟨m32,rfl,h⟩:=h
 refine SC 8 rf ?_
 refine dN h rf (fun hc h=>?_) fun hc h=>?_
 ·
  refine SC 4 rf ?_
  obtain ⟨zb,h⟩:=cq h
  obtain ⟨oW,h⟩:=cq h
  obtain ⟨pH,h⟩:=cq h
  obtain ⟨eR,qc,h⟩:=cj h
  obtain ⟨jv,h⟩:=cq h
  obtain ⟨gl,m7,h⟩:=cj h
  refine cK mixed (.gm [] [(0,[0]),(1,[2]),(2,[0]),(3,[3]),(4,[0]),(5,[3]),(6,[18,19]),(7,[20]),(8,[0]),(9,[2]),(10,[22,23]),(11,[24]),(12,[14,15])] (.alt 13 [21,26] (.gm [(2,[0]),(3,[3])] [(14,[16,17])] (.alt 15 [25,27] (.fin [] []) .no)) .no)) (by kernel_rfl) ?_
  refine T0 ?_
  refine NS 6 rf ?_
  refine NV rf rf (cM (m:=(Int.toNat cI)) (Fz.row (e:=32) (sz:=1) (L:=(LI .u32)) (xs:=cH) rfl tL) rfl rfl rfl (az zb).1 (az zb).2) ?_
  refine NV rf rf (cN (Fz.row (e:=32) (sz:=1) (L:=(LI .u32)) (xs:=cH) rfl tL) (aE.idx (L:=(LI .u32)) (m:=(cH.length)) (k:=1) ((Int.toNat cI)) (az zb).2 rfl) rfl) ?_
  refine NS 2 rf ?_
  refine NV rf rf (cM (m:=(Int.toNat fa)) (Fz.row (e:=32) (sz:=1) (L:=(LI .u32)) (xs:=cH) rfl tL) rfl rfl rfl (az oW).1 (az oW).2) ?_
  refine NV rf rf (cN (Fz.row (e:=32) (sz:=1) (L:=(LI .u32)) (xs:=cH) rfl tL) (aE.idx (L:=(LI .u32)) (m:=(cH.length)) (k:=1) ((Int.toNat fa)) (az oW).2 rfl) rfl) ?_
  refine NV rf rf (cM (m:=(Int.toNat fa)) (Fz.row (e:=32) (sz:=1) (L:=(LI .u32)) (xs:=cH) rfl tL) rfl rfl rfl (az pH).1 (az pH).2) ?_
  refine aP ?_
  refine X0 rf (wX (sz:=1) (M:=(LI .u32)) (Int.toNat fa) (aE.idx (L:=(LI .u32)) (m:=(cH.length)) (k:=1) ((Int.toNat fa)) (az pH).2 rfl) (cH.getD (Int.toNat cI) default) eR qc rfl rfl rfl rfl (az pH).2 rfl rfl) ?_
  have uK:ko v0 eR.length:=by rw [qc,List.length_set]; exact tL
  refine di ?_ ?_
  ·
   exact RE 2 rf rf
  refine NV rf rf (cM (m:=(Int.toNat cI)) (Fz.row (e:=32) (sz:=1) (L:=(LI .u32)) (xs:=eR) rfl uK) rfl rfl rfl (az jv).1 (az jv).2) ?_
  refine aP ?_
  refine X0 rf (wX (sz:=1) (M:=(LI .u32)) (Int.toNat cI) (aE.idx (L:=(LI .u32)) (m:=(eR.length)) (k:=1) ((Int.toNat cI)) (az jv).2 rfl) (cH.getD (Int.toNat fa) default) gl m7 rfl rfl rfl rfl (az jv).2 rfl rfl) ?_
  have OG:ko v0 gl.length:=by rw [m7,List.length_set]; exact uK
  refine oF ?_
  refine SX 10 rf ?_
  exact LN [0] (gl,wr .i64 (fa + 1),wr .i64 (cI - 1)) ⟨OG,h⟩ rf rf rf
 ·
  refine SC 4 rf ?_
  have h:=sj h; subst h
  exact wN v0 rfl .nil ⟨rfl,tL⟩ rfl (ks:=[0]) rfl (by decide)
def gi (n:Nat) (a1:Int) (a2:aq):Option (List Int):=
 eu (fun Cm (cI:(List Int)) =>
 cn (decide (0 < (cI.length:Int))) (
 gu (dO (wr .i64 ((cI.length:Int) - 1)) cI.length) <|
 yl (cI.getD (Int.toNat (wr .i64 ((cI.length:Int) - 1))) default) <|
 bd (k7 n a2 (cI.getD (Int.toNat (wr .i64 ((cI.length:Int) - 1))) default)) fun jK =>
 bd (fO n jK) fun p4 =>
 gu (dO (wr .i64 ((cI.length:Int) - 1)) (cI.length + 1)) <|
 lt (cI.take (Int.toNat (wr .i64 ((cI.length:Int) - 1))):List Int) fun lA =>
 gu (j9 lA.length p4.length 4) <|
 lt (lA++p4:List Int) fun Fk =>
 Cm Fk) (
 some [])) n ([a1]:List Int)
theorem j1 {n:Nat} {a1:Int} {a2:aq} {l:List Int} {K:World→Prop} [bn K] {q1:Nat} {q2:Nat} {xg:List Value} (f2:(aj).rep K xg a2) (h:gi n a1 a2 = some l):Aq Tryz.prog 82 [Ptr q1 0,Ptr q2 0] [.cells q1 32 ((LI .u32).enc a1), .cells q2 41 xg] K (fun k=>[.int .u32 (l.getD k default)]) l.length:=by
 unfold gi at h
 refine ⟨fun y J Jx bs=>fI Tryz.func82 (by kernel_rfl) rfl Tryz.ntmps82 rfl (fun cx cZ hpre hro=>?_)⟩
 haveI:=jA (show cx.bs = bs++bN [.cells q1 32 ((LI .u32).enc a1), .cells q2 41 xg] from cZ) hpre.1
 have hR:F3 Tryz.prog y cx.bs cx.w0 J Jx (fun k=>[.int .u32 (l.getD k default)]) l.length:=by rw [show cx.bs = bs++bN [.cells q1 32 ((LI .u32).enc a1), .cells q2 41 xg] from cZ]; exact hpre.2
 have HJ:l.drop 0 = l:=rfl
 have Hu:0 ≤ l.length:=Nat.zero_le _
 refine SC 2 rf ?_
 refine ai rfl (bg (aE.id (L:=(LI .u32))) rfl) ?_
 refine ef rfl (An (LI .u32) a1 rfl rfl rfl rfl (by decide) (by decide)) (fun b8 _=>?_)
 refine SL 4 rf ?_
 obtain ⟨Ck,xO,h⟩:=mT h
 refine LO (β:=(List Int) × Value × Nat × (List Int) × (List Nat)) [0,2] [0,1,2,3] (fun (xJ,cI,Fq,uG,JL,wu)=>[(4,Fq)]) (fun (xJ,cI,Fq,uG,JL,wu)=>[Row Fq 32 1 (LI .u32) cI, .ext wu (J uG wu), .cells q1 32 ((LI .u32).enc a1), .cells q2 41 xg]) (fun (xJ,cI,Fq,uG,JL,wu)=>ko Fq cI.length∧l.drop uG = JL∧uG ≤ l.length∧eu Ck xJ cI = some JL) (n,([a1]:List Int), .slice (some ⟨b8,0,none⟩) 1 1,0,l,bs) ⟨⟨_,_,rfl⟩,HJ,Hu,h⟩ rf rf rf ?_
 rintro xJ ⟨cI,Fq,uG,JL,wu⟩ ⟨y6,Lo,OZ,h⟩
 replace h:=mS xO h; obtain ⟨xJ,rfl,h⟩:=h
 refine SC 4 rf ?_
 refine ai rfl (dg (Fz.row (e:=32) (sz:=1) (L:=(LI .u32)) (xs:=cI) rfl y6) rfl) ?_
 refine SL 3 rf ?_
 refine dN h rf (fun hc h=>?_) fun hc h=>?_
 ·
  obtain ⟨nV,h⟩:=cq h
  refine SC 7 rf ?_
  refine ai rfl (dg (Fz.row (e:=32) (sz:=1) (L:=(LI .u32)) (xs:=cI) rfl y6) rfl) ?_
  refine ai rfl (rW rfl rfl rfl) ?_
  refine ai rfl (cM (m:=(Int.toNat (wr .i64 ((cI.length:Int) - 1)))) (Fz.row (e:=32) (sz:=1) (L:=(LI .u32)) (xs:=cI) rfl y6) rfl rfl rfl (az nV).1 (az nV).2) ?_
  refine ai rfl (cN (Fz.row (e:=32) (sz:=1) (L:=(LI .u32)) (xs:=cI) rfl y6) (aE.idx (L:=(LI .u32)) (m:=(cI.length)) (k:=1) ((Int.toNat (wr .i64 ((cI.length:Int) - 1)))) (az nV).2 rfl) rfl) ?_
  refine SL 5 rf ?_
  obtain ⟨Nx,Hp,h⟩:=DY h
  obtain ⟨Ht,AZ,HI,Hr⟩:=drop_cons (Lo.trans Hp)
  refine SC 3 rf ?_
  refine ef rfl (rq (bs:=wu) hR Ht hro rfl (show rO _ _ = some [.int .u32 (l.getD uG default)] by rw [AZ]; rfl)) (fun ⟨CX,zj⟩ _=>?_)
  refine SL 3 rf ?_
  refine vB rfl (fun hc=>?_) (fun hc=>?_)
  ·
   obtain rfl:CX = false:=by simpa using hc
   dsimp only [cond_true,cond_false]
   refine SC 5 rf ?_
   exact dF (false,zj) rfl .nil trivial rfl (ks:=[1,2,3]) rfl (by decide)
  ·
   obtain rfl:CX = true:=by simpa using hc
   dsimp only [cond_true,cond_false]
   obtain ⟨jK,AS,h⟩:=aS h
   refine SC 4 rf ?_
   refine ai rfl (ae rfl (aL.len _ f2)) ?_
   refine ai rfl (ak rfl) ?_
   refine ef rfl (eK (uO (K:=K) (mo f2) AS) rfl kn) (fun Gl KN=>?_)
   dsimp only [List.cons_append,List.nil_append]
   obtain ⟨p4,yX,h⟩:=aS h
   refine SL 6 rf ?_
   refine ef rfl (jc (K:=(fun _=>True)) (ni:=[Row Gl 32 1 (LI .u32) jK]) (rest:=[Row Fq 32 1 (LI .u32) cI, .ext zj (J (uG + 1) zj), .cells q1 32 ((LI .u32).enc a1), .cells q2 41 xg]) (ks:=[0,1,2,3,4]) (oC KN yX) rfl rfl rfl rfl (by decide)) (fun _ ⟨rfl,OF⟩=>?_)
   dsimp only [List.cons_append,List.nil_append]
   obtain ⟨sG,h⟩:=cq h
   obtain ⟨lA,rL,h⟩:=cj h
   obtain ⟨Lg,h⟩:=cq h
   obtain ⟨Fk,Ey,h⟩:=cj h
   refine SL 5 rf ?_
   refine ai rfl (dg (Fz.row (e:=32) (sz:=1) (L:=(LI .u32)) (xs:=cI) rfl y6) rfl) ?_
   refine ai rfl (rW rfl rfl rfl) ?_
   refine ef rfl (vE (e:=32) (sz:=1) (L:=(LI .u32)) y6 rfl rfl rfl (az sG).1 (Nat.lt_succ_iff.1 (az sG).2)) (fun _ _=>?_)
   have Hi:ko (kI 0 (Int.toNat (wr .i64 ((cI.length:Int) - 1))) 1 Fq) lA.length:=by rw [rL,List.length_take,Nat.min_eq_left (Nat.lt_succ_iff.1 (az sG).2)]; exact Am y6
   rw [← rL]
   refine ai rfl (ak rfl) ?_
   refine ef rfl (oa (sz:=1) (L:=(LI .u32)) (xs:=lA) (ys:=p4) (bytes:=4) (Fz.row (e:=32) (sz:=1) (L:=(LI .u32)) (xs:=p4) rfl OF) rfl rfl rfl (dA Lg).1 (dA Lg).2) (fun RK KM=>?_)
   rw [← Ey] at KM; rw [← Ey]
   refine SL 3 rf ?_
   exact LN [1,2,3,4] (Fk,RK,uG + 1,Nx,zj) ⟨KM,HI,Hr,h⟩ rf rf rf
 ·
  refine SC 4 rf ?_
  have h:=sj h; subst h
  have PT:=drop_nil Lo OZ
  refine sW (ks:=[1,2,3]) (H':=[.ext wu (J (uG) wu), .cells q1 32 ((LI .u32).enc a1), .cells q2 41 xg]) rfl (by decide) ?_
  refine sX (J:=J) (n:=l.length) PT ?_
  exact wN (true,wu) rfl .nil trivial rfl (ks:=[0,1,2]) rfl (by decide)
def cF (n:Nat) (oE:Int) (lW:aq):Option (List Int):=
 bd (gi n oE lW) fun aM =>
 gn (fun (PZ:Int) Et (dB:(List Int)) =>
 lt (PZ:Int) fun jR =>
 gu (j9 dB.length 1 4) <|
 lt (dB++([jR]):List Int) fun gq =>
 Et gq) (fun (dB:(List Int)) =>
 some dB) aM ([]:List Int)
theorem gS {n oE lW r K} [bn K] {nt nr x4} (PK:(aj).rep K x4 lW) (h:cF n oE lW = some r):Nf Tryz.prog 91 [.slice none 0 0, .func (.func 82) #[] #[Ptr nt 0,Ptr nr 0]] K [.cells nt 32 ((LI .u32).enc oE), .cells nr 41 x4] (fun J v ho=>∃u0,v = (u0)∧ho = [.cells nt 32 ((LI .u32).enc oE), .cells nr 41 x4]∧Fz (fun w=>K w∧J w) u0 (LI .u32) (r)):=by
 unfold cF at h
 refine fI Tryz.func91 (by kernel_rfl) rfl Tryz.ntmps91 rfl (fun cx cZ hpre hro=>?_)
 haveI:=jA cZ hpre
 refine SC 2 rf ?_
 refine W1 rf (Ao rfl (Fz.nil (A:=Hs []) (L:=(LI .u32))).sl.cells) fun b2=>?_
 refine SL 10 rf ?_
 obtain ⟨aM,bX,h⟩:=aS h
 refine kW 32 1 (LI .u32) ?_
 obtain ⟨yW,CL,zi,CR,h⟩:=tF h
 refine nK (K:=K) (α:=(List Int) × Value) (β:=Unit) hro rfl (j1 (K:=K) (mo PK) bX) (fun _=>rfl) rfl (fun nA=>fun (dB,yw)=>ko yw dB.length∧gn yW zi (aM.drop nA) dB = some r) (fun nA=>fun (dB,yw)=>[Row yw 32 1 (LI .u32) dB, .cells b2 75 ([yw])]) (fun _ _=>False) (fun _=>[]) ⟨([]:List Int), .slice none 0 0⟩ ⟨⟨_,_,rfl⟩,h⟩ (ks:=[2,3,0,1]) rfl (by decide) ?_ ?_ ?_
 ·
  rintro nA ⟨dB,yw⟩ lo dd rec c' hk ⟨tL,h⟩ sg we qh hsi hT
  replace h:gn yW zi (aM.drop nA) dB = some r:=h
  replace h:=tD CL hk h
  haveI:=oP (K:=K) hsi
  dsimp only [sC]
  obtain ⟨jR,oU,h⟩:=cj h
  rw [← oU]
  refine SC 3 rf ?_
  refine lp sg qh ?_
  obtain ⟨oW,h⟩:=cq h
  obtain ⟨gq,mj,h⟩:=cj h
  refine SC 2 rf ?_
  refine ai rfl (bL rfl rfl) ?_
  refine ai rfl (ak rfl) ?_
  refine ef rfl (ki (LI .u32) jR rfl rfl rfl rfl (by decide) (by decide)) (fun qB _=>?_)
  refine ef rfl (jn (sz:=1) (L:=(LI .u32)) (xs:=dB) (y:=jR) (bytes:=4) rfl rfl rfl (dA oW).1 (dA oW).2) (fun Fp uK=>?_)
  rw [← mj] at uK; rw [← mj]
  refine W0 (nf (cs':=[Fp]) [Fp] (aE.id (L:=(pX (LI .u32)))) (v:=gq) ⟨_,rfl,(Fz.row (e:=32) (sz:=1) (L:=(LI .u32)) (xs:=dB) rfl tL)⟩ (rv:=(⟨_,rfl,(Fz.row (e:=32) (sz:=1) (L:=(LI .u32)) (xs:=gq) rfl uK)⟩ : ((pX (LI .u32))).rep (Hs [Row Fp 32 1 (LI .u32) gq]) [Fp] gq)) rfl rfl (Fz.row (e:=32) (sz:=1) (L:=(LI .u32)) (xs:=gq) rfl uK).sl.cells rfl rfl) ?_
  refine SL 2 rf ?_
  exact kg sg we hT ⟨gq,Fp⟩ ⟨uK,h⟩ (ks:=[1,2,3,4]) rfl (by decide)
 ·
  rintro LY ⟨dB,yw⟩ ⟨tL,h⟩
  replace h:gn yW zi (aM.drop aM.length) dB = some r:=h
  replace h:=tE CR rfl h
  dsimp only [List.cons_append,List.nil_append]
  refine SX 4 rf ?_
  refine ai rfl (bL rfl rfl) ?_
  refine SL 4 rf ?_
  have h:=sj h; subst h
  refine bH (R:=[Row yw 32 1 (LI .u32) dB]) (H':=[.obj LY (.deferred (some [])), .cells nt 32 ((LI .u32).enc oE), .cells nr 41 x4]) (ks:=[3,0,1,2]) rfl (by decide) ?_
  have R8:Fz (fun w=>K w∧(Hs [.ext (bN [Row yw 32 1 (LI .u32) dB]) (Hs [Row yw 32 1 (LI .u32) dB])]) w) yw (LI .u32) dB:=(Fz.row (e:=32) (sz:=1) (L:=(LI .u32)) (xs:=dB) rfl tL).mono kx
  exact kU (yw,[.cells nt 32 ((LI .u32).enc oE), .cells nr 41 x4],bN [Row yw 32 1 (LI .u32) dB],Hs [Row yw 32 1 (LI .u32) dB]) rfl (.tmp rfl .nil) ⟨_,rfl,rfl,R8⟩ rfl (ks:=[0,2,3]) rfl (by decide)
 ·
  intro dd j i hf; exact hf.elim
def dy (n:Nat) (yn:Int) (EU:aq):Option (List Int):=
 bd (cF n yn EU) fun aM =>
 some aM
theorem jl {n yn EU r K} [bn K] {AH AG vu} (PS:(aj).rep K vu EU) (h:dy n yn EU = some r):Nf Tryz.prog 78 [.func (.func 82) #[] #[Ptr AH 0,Ptr AG 0]] K [.cells AH 32 ((LI .u32).enc yn), .cells AG 41 vu] (fun J v ho=>∃u0,v = (u0)∧ho = [.cells AH 32 ((LI .u32).enc yn), .cells AG 41 vu]∧Fz (fun w=>K w∧J w) u0 (LI .u32) (r)):=by
 unfold dy at h
 refine fI Tryz.func78 (by kernel_rfl) rfl Tryz.ntmps78 rfl (fun cx cZ hpre hro=>?_)
 haveI:=jA cZ hpre
 obtain ⟨aM,bX,h⟩:=aS h
 refine SC 8 rf ?_
 refine ef rfl (jc (K:=K) (ni:=[.cells AH 32 ((LI .u32).enc yn), .cells AG 41 vu]) (rest:=[]) (ks:=[0,1]) (gS (K:=K) (mo PS) bX) rfl rfl rfl rfl (by decide)) (fun ⟨vI,KW,eN,kq⟩ y7=>?_)
 obtain ⟨yw,rfl,rfl,f26⟩:=y7
 replace f26:Fz (fun w=>K w∧Hs [.ext eN kq] w) vI (LI .u32) aM:=f26
 dsimp only [List.cons_append,List.nil_append]
 refine SL 4 rf ?_
 have h:=sj h; subst h
 refine bH (R:=[.ext eN kq]) (H':=[.cells AH 32 ((LI .u32).enc yn), .cells AG 41 vu]) (ks:=[0,1,2]) rfl (by decide) ?_
 have JS:Fz (fun w=>K w∧(Hs [.ext (bN [.ext eN kq]) (Hs [.ext eN kq])]) w) vI (LI .u32) aM:=f26.mono kx
 exact dF (vI,[.cells AH 32 ((LI .u32).enc yn), .cells AG 41 vu],bN [.ext eN kq],Hs [.ext eN kq]) rfl (.tmp rfl .nil) ⟨_,rfl,rfl,JS⟩ rfl (ks:=[0,1,2]) rfl (by decide)
def j4 (n:Nat) (a0:aq) (a1:Int):Option (List Int):=
 bd (bk n a0.book.jQ a1) fun aM =>
 cn ((!aM)) (
 some ([]:List Int)) (
 bd (gF n a0 a1) fun hJ =>
 bd (dy n hJ.1 hJ.2) fun dQ =>
 some dQ)
theorem tY {n a0 a1 r K} [bn K] {cv} (f0:(aj).rep K cv a0) (h:j4 n a0 a1 = some r):pY Tryz.prog 54 [A cv, .int .u32 a1] K (fun J v=>Fz (fun w=>K w∧J w) v (LI .u32) r):=by
 unfold j4 at h
 refine fo Tryz.func54 (by kernel_rfl) rfl Tryz.ntmps54 rfl fun cx _ hro cZ hpre=>?_
 refine SC 2 rf ?_
 refine W1 rf (aV rfl) fun b2=>?_
 obtain ⟨aM,bX,h⟩:=aS h
 refine SL 8 rf ?_
 refine ai rfl (bf rfl (bq.iff.1 ((aR.c0 br).get f0)) (aT _ _)) ?_
 refine ai rfl (ak rfl) ?_
 refine CV (bD bX) rf rf ?_
 refine SL 3 rf ?_
 refine dN h rf (fun hc h=>?_) fun hc h=>?_
 ·
  refine SC 7 rf ?_
  have h:=sj h; subst h
  refine bH (R:=[]) (H':=[]) (ks:=[]) rfl (by decide) ?_
  have Sd:Fz (fun w=>K w∧(Hs [.ext (bN []) (Hs [])]) w) (.slice none 0 0) (LI .u32) ([]:List Int):=(Fz.nil (A:=Hs []) (L:=(LI .u32))).mono kx
  exact dF (.slice none 0 0,bN [],Hs []) rfl (.tmp rfl .nil) Sd rfl (ks:=[0]) rfl (by decide)
 ·
  obtain ⟨hJ,jE,h⟩:=aS h
  obtain ⟨dQ,qe,h⟩:=aS h
  refine SC 4 rf ?_
  refine ai rfl (ae rfl (aL.len _ f0)) ?_
  refine ai rfl (ak rfl) ?_
  refine ef rfl (eK (mC (K:=K) (mo f0) jE) rfl kn) (fun ⟨M6,Mk,Io⟩ f27=>?_)
  replace f27:(aj).rep K Io hJ.2:=f27
  dsimp only [List.cons_append,List.nil_append]
  refine ef rfl (jc (K:=K) (ni:=[.cells M6 32 ((LI .u32).enc hJ.1), .cells Mk 41 Io]) (rest:=[.cells b2 41 cv]) (ks:=[0,1,2]) (jl (K:=K) (mo f27) qe) rfl rfl rfl rfl (by decide)) (fun ⟨Nn,Sy,n5,w7⟩ OR=>?_)
  obtain ⟨RP,rfl,rfl,f33⟩:=OR
  replace f33:Fz (fun w=>K w∧Hs [.ext n5 w7] w) Nn (LI .u32) dQ:=f33
  dsimp only [List.cons_append,List.nil_append]
  refine SL 4 rf ?_
  have h:=sj h; subst h
  refine bH (R:=[.ext n5 w7]) (H':=[]) (ks:=[0]) rfl (by decide) ?_
  have R9:Fz (fun w=>K w∧(Hs [.ext (bN [.ext n5 w7]) (Hs [.ext n5 w7])]) w) Nn (LI .u32) dQ:=f33.mono kx
  exact dF (Nn,bN [.ext n5 w7],Hs [.ext n5 w7]) rfl (.tmp rfl .nil) R9 rfl (ks:=[0]) rfl (by decide)
def k8 (n:Nat) (a0:aq) (a1:Int):Option (aq × (List Int) × Int):=
 bd (j4 n a0 a1) fun aM =>
 cn (((aM.length:Int) == 0)) (
 some (a0,([]:List Int),4)) (
 c9 (fun Ka (dX:Int) (jL:aq) =>
 cn (decide (dX < (aM.length:Int))) (
 gu (dO dX aM.length) <|
 bd (eC n jL (aM.getD (Int.toNat dX) default)) fun By =>
 Ka (wr .i64 (dX + 1)) By.1) (
 some (jL,aM,0))) n 0 a0)
theorem uP {n a0 a1 r K} [bn K] {cv} (f0:(aj).rep K cv a0) (h:k8 n a0 a1 = some r):pY Tryz.prog 24 [A cv, .int .u32 a1] K (fun J v=>∃u0 u1,v = (.tuple #[A u0,u1, .int .i64 r.2.2])∧(aj).rep (fun w=>K w∧J w) u0 (r.1)∧Fz (fun w=>K w∧J w) u1 (LI .u32) (r.2.1)):=by
 unfold k8 at h
 refine fo Tryz.func24 (by kernel_rfl) rfl Tryz.ntmps24 rfl fun cx _ hro cZ hpre=>?_
 refine SC 2 rf ?_
 refine W1 rf (aV rfl) fun b2=>?_
 refine W1 rf (bz (hz:=(⟨by kernel_rfl⟩ : cA Tryz.prog 41 aN))) fun b4=>?_
 obtain ⟨aM,bX,h⟩:=aS h
 refine SL 6 rf ?_
 refine ai rfl (ae rfl (aL.len _ f0)) ?_
 refine ai rfl (ak rfl) ?_
 refine ef rfl (mI (tY (K:=K) (mo f0) bX) rfl) (fun ⟨vI,eN,kq⟩ y7=>?_)
 have f26:Fz (fun w=>K w∧Hs [.ext eN kq] w) vI (LI .u32) aM:=y7
 refine SL 7 rf ?_
 refine ai rfl (dg f26 rfl) ?_
 refine SL 3 rf ?_
 refine dN h rf (fun hc h=>?_) fun hc h=>?_
 ·
  refine SC 2 rf ?_
  refine ai rfl (ae rfl (aL.len _ f0)) ?_
  refine ST (C:=K) a0 (aE.id (L:=aj)) aX (mo f0) rf rf rf rf rf fun Bt f29=>?_
  refine SL 6 rf ?_
  have h:=sj h; subst h
  refine bH (R:=[]) (H':=[.cells b4 41 Bt]) (ks:=[1]) rfl (by decide) ?_
  have Sc:(aj).rep (fun w=>K w∧(Hs [.ext (bN []) (Hs [])]) w) Bt a0:=aL.mono _ kx f29
  have Sb:Fz (fun w=>K w∧(Hs [.ext (bN []) (Hs [])]) w) (.slice none 0 0) (LI .u32) ([]:List Int):=(Fz.nil (A:=Hs []) (L:=(LI .u32))).mono kx
  exact dF (.tuple #[A Bt, .slice none 0 0, .int .i64 4],bN [],Hs []) rfl (.agg rfl inferInstance inferInstance (aL.len _ f29) (.tmp rfl (.tmp rfl .nil))) ⟨_,_,rfl,Sc,Sb⟩ rfl (ks:=[0]) rfl (by decide)
 ·
  refine SC 6 rf ?_
  refine ai rfl (dg f26 rfl) ?_
  refine SL 4 rf ?_
  obtain ⟨GR,CG,h⟩:=kC h
  refine lX ?_
  refine LO (β:=Int × aq × (List Value) × (List Nat) × (World→Prop)) [2,4,7,17,18] [0,1,2,3] (fun (Cd,dX,jL,Im,fY,l5)=>[(19, .int .i64 dX)]) (fun (Cd,dX,jL,Im,fY,l5)=>[.ext fY l5, .ext eN kq, .cells b4 41 aN, .cells b2 41 Im]) (fun (Cd,dX,jL,Im,fY,l5)=>(aj).rep (fun w=>K w∧Hs [.ext fY l5] w) Im jL∧c9 GR Cd dX jL = some r) (n,0,a0,cv,[],(Hs [])) ⟨(mo f0),h⟩ rf rf rf ?_
  rintro Cd ⟨dX,jL,Im,fY,l5⟩ ⟨f44,h⟩
  replace h:=kB CG h; obtain ⟨Cd,rfl,h⟩:=h
  refine SC 6 rf ?_
  refine dN h rf (fun hc h=>?_) fun hc h=>?_
  ·
   obtain ⟨za,h⟩:=cq h
   refine SC 6 rf ?_
   refine ai rfl (cM (m:=(Int.toNat dX)) f26 rfl rfl rfl (az za).1 (az za).2) ?_
   refine ai rfl (cN f26 (aE.idx (L:=(LI .u32)) (m:=(aM.length)) (k:=1) ((Int.toNat dX)) (az za).2 rfl) rfl) ?_
   obtain ⟨By,Hf,h⟩:=aS h
   refine SL 4 rf ?_
   refine ai rfl (ae rfl (aL.len _ f44)) ?_
   refine ai rfl (ak rfl) ?_
   refine CB (qo (K:=(fun w=>K w∧Hs [.ext fY l5] w)) (mo f44) Hf) rf rf ?_
   rintro TM Dd MI ⟨FT,rfl,f54⟩
   replace f54:(aj).rep (fun w=>(fun w=>K w∧Hs [.ext fY l5] w) w∧Hs [.ext Dd MI] w) FT By.1:=f54
   refine SL 3 rf ?_
   refine ST (C:=(fun w=>K w∧Hs [.ext fY l5, .ext Dd MI] w)) By.1 (aE.id (L:=aj)) (mo f44) (mo f54) rf rf rf rf rf fun Af f57=>?_
   refine SL 7 rf ?_
   refine bH (R:=[.ext Dd MI, .ext fY l5]) (H':=[.ext eN kq, .cells b4 41 aN, .cells b2 41 Af]) (ks:=[0,1,2,3,4]) rfl (by decide) ?_
   exact LN [0,1,2,3] (wr .i64 (dX + 1),By.1,Af,(bN [.ext Dd MI, .ext fY l5]),(Hs [.ext Dd MI, .ext fY l5])) ⟨(mo f57),h⟩ rf rf rf
  ·
   refine SC 7 rf ?_
   refine ai rfl (ae rfl (aL.len _ f44)) ?_
   refine ai rfl (ak rfl) ?_
   refine ST (C:=(fun w=>K w∧Hs [.ext fY l5] w)) jL (aE.id (L:=aj)) aX (mo f44) rf rf rf rf rf fun Jb f59=>?_
   refine SL 5 rf ?_
   have h:=sj h; subst h
   refine bH (R:=[.ext fY l5, .ext eN kq]) (H':=[.cells b4 41 Jb]) (ks:=[0,1,2]) rfl (by decide) ?_
   have R3:(aj).rep (fun w=>K w∧(Hs [.ext (bN [.ext fY l5, .ext eN kq]) (Hs [.ext fY l5, .ext eN kq])]) w) Jb jL:=aL.mono _ kx f59
   have R2:Fz (fun w=>K w∧(Hs [.ext (bN [.ext fY l5, .ext eN kq]) (Hs [.ext fY l5, .ext eN kq])]) w) vI (LI .u32) aM:=f26.mono kx
   exact dF (.tuple #[A Jb,vI, .int .i64 0],bN [.ext fY l5, .ext eN kq],Hs [.ext fY l5, .ext eN kq]) rfl (.agg rfl inferInstance inferInstance (aL.len _ f59) (.tmp rfl (.tmp rfl .nil))) ⟨_,_,rfl,R3,R2⟩ rfl (ks:=[0]) rfl (by decide)
def k6 (n:Nat) (a0:aq) (a1:Int):Option Int:=
 bd (gF n a0 a1) fun aM =>
 bd (gi n aM.1 aM.2) fun dB =>
 gn (fun (EM:Int) Es (fa:Int) =>
 lt (EM:Int) fun cT =>
 bd (eI n a0 cT) fun gq =>
 bd (eI n a0 a1) fun eR =>
 lt ((if fa < wr .i64 ((wr .i64 (gq - eR)) + 1) then wr .i64 ((wr .i64 (gq - eR)) + 1) else fa):Int) fun ez =>
 Es ez) (fun (fa:Int) =>
 some fa) dB 0
theorem uN {n a0 a1 r K} [bn K] {cv} (f0:(aj).rep K cv a0) (h:k6 n a0 a1 = some r):pD Tryz.prog 64 [A cv, .int .u32 a1] K (.int .i64 r):=by
 unfold k6 at h
 refine fo Tryz.func64 (by kernel_rfl) rfl Tryz.ntmps64 rfl fun cx _ hro cZ hpre=>?_
 refine SC 2 rf ?_
 refine W1 rf (aV rfl) fun b2=>?_
 refine W1 rf (cC (LI .u32) a1 rfl rfl) fun b3=>?_
 refine SL 5 rf ?_
 refine W1 rf (bu (L:=(LI .i64)) (z:=0) ⟨by kernel_rfl⟩) fun b5=>?_
 refine W0 (bI (M:=(LI .i64)) (aE.id (L:=(LI .i64))) 0 0 rfl rfl rfl rfl rfl) ?_
 obtain ⟨aM,bX,h⟩:=aS h
 refine SL 5 rf ?_
 refine ai rfl (ae rfl (aL.len _ f0)) ?_
 refine ai rfl (bg (aE.id (L:=(LI .u32))) rfl) ?_
 refine ef rfl (eK (mC (K:=K) (mo f0) bX) rfl kn) (fun ⟨Tg,Ml,Jf⟩ f25=>?_)
 replace f25:(aj).rep K Jf aM.2:=f25
 dsimp only [List.cons_append,List.nil_append]
 refine SL 3 rf ?_
 obtain ⟨dB,lF,h⟩:=aS h
 obtain ⟨G3,Lc,HX,Ll,h⟩:=tF h
 refine nK (K:=K) (α:=Int) (β:=Unit) hro rfl (j1 (K:=K) (mo f25) lF) (fun _=>rfl) rfl (fun Eo=>fun fa=>gn G3 HX (dB.drop Eo) fa = some r) (fun Eo=>fun fa=>[.cells b5 3 ((LI .i64).enc fa), .cells b3 32 ((LI .u32).enc a1), .cells b2 41 cv]) (fun _ _=>False) (fun _=>[]) 0 h (ks:=[0,1,2,3,4]) rfl (by decide) ?_ ?_ ?_
 ·
  rintro Eo fa lo dd rec c' hk h sg we qh hsi hT
  replace h:gn G3 HX (dB.drop Eo) fa = some r:=h
  replace h:=tD Lc hk h
  haveI:=oP (K:=K) hsi
  dsimp only [sC]
  obtain ⟨cT,qd,h⟩:=cj h
  rw [← qd]
  refine SC 3 rf ?_
  refine lp sg qh ?_
  refine ug ?_
  obtain ⟨gq,mj,h⟩:=aS h
  obtain ⟨eR,qc,h⟩:=aS h
  obtain ⟨ez,uH,h⟩:=cj h
  refine cK mixed (.gm [] [(0,[5]),(1,[2]),(2,[6]),(3,[12,13]),(4,[2]),(5,[3]),(6,[15,16]),(7,[14,17]),(8,[18]),(9,[11,19])] (.alt 10 [5,20] (.fin [] []) .no)) (by kernel_rfl) ?_
  refine T0 ?_
  refine NV rf rf (bg (aE.id (L:=(LI .i64))) rfl) ?_
  refine NV rf rf (ae rfl (aL.len _ f0)) ?_
  refine NS 1 rf ?_
  refine NC rf rf (j8 (K:=K) (mo f0) mj) rf ?_
  refine NV rf rf (ae rfl (aL.len _ f0)) ?_
  refine NV rf rf (bg (aE.id (L:=(LI .u32))) rfl) ?_
  refine NC rf rf (j8 (K:=K) (mo f0) qc) rf ?_
  refine NS 2 rf ?_
  refine NV rf rf (IB rfl rfl) ?_
  refine aP ?_
  refine X0 rf (bI (M:=(LI .i64)) (aE.id (L:=(LI .i64))) (if fa < wr .i64 ((wr .i64 (gq - eR)) + 1) then wr .i64 ((wr .i64 (gq - eR)) + 1) else fa) ez uH rfl rfl rfl rfl) ?_
  refine oF ?_
  refine yp ?_
  exact kg sg we hT ez h (ks:=[0,1,2,3,4]) rfl (by decide)
 ·
  rintro LY fa h
  replace h:gn G3 HX (dB.drop dB.length) fa = some r:=h
  replace h:=tE Ll rfl h
  dsimp only [List.cons_append,List.nil_append]
  refine SX 4 rf ?_
  refine ai rfl (bg (aE.id (L:=(LI .i64))) rfl) ?_
  refine SL 4 rf ?_
  have h:=sj h; subst h
  exact kU () rfl (.tmp rfl .nil) trivial rfl (ks:=[]) rfl (by decide)
 ·
  intro dd j i hf; exact hf.elim
def j5 (n:Nat) (a0:aq) (a1:Int) (a2:Int):Option (aq × Int):=
 bd (bk n a0.book.jQ a1) fun aM =>
 cl ((!aM) == false) (bk n a0.book.jQ a2) default fun bE =>
 cn (((!aM) || (!bE))) (
 some (a0,4)) (
 bd (fA n a0 a1) fun dB =>
 cl ((dB != a1) == false) (gB n a0 a1 a2) default fun cH =>
 cn (((dB != a1) || cH)) (
 some (a0,12)) (
 bd (eI n a0 a2) fun dj =>
 bd (k6 n a0 a1) fun dV =>
 cn (decide (6 < (wr .i64 (dj + dV)))) (
 some (a0,8)) (
 bd (ei n a0 a1 a2) fun gq =>
 some (gq.1,gq.2))))
theorem tZ {n a0 a1 a2 r K} [bn K] {cv} (f0:(aj).rep K cv a0) (h:j5 n a0 a1 a2 = some r):pY Tryz.prog 29 [A cv, .int .u32 a1, .int .u32 a2] K (fun J v=>∃u0,v = (.tuple #[A u0, .int .i64 r.2])∧(aj).rep (fun w=>K w∧J w) u0 (r.1)):=by
 unfold j5 at h
 refine fo Tryz.func29 (by kernel_rfl) rfl Tryz.ntmps29 rfl fun cx _ hro cZ hpre=>?_
 refine SC 2 rf ?_
 refine W1 rf (aV rfl) fun b3=>?_
 refine W1 rf (bz (hz:=(⟨by kernel_rfl⟩ : cA Tryz.prog 41 aN))) fun b6=>?_
 obtain ⟨aM,bX,h⟩:=aS h
 obtain ⟨bE,fc,_,h⟩:=gQ h
 refine SL 9 rf ?_
 refine ai rfl (bf rfl (bq.iff.1 ((aR.c0 br).get f0)) (aT _ _)) ?_
 refine ai rfl (ak rfl) ?_
 refine CV (bD bX) rf rf ?_
 refine SL 2 rf ?_
 refine GB rf rf rf (fun hb=>aO rfl) ?_
 refine GB rf rf rf (fun hb=>aO (bC rfl hb)) ?_
 refine GB rf rf rf (fun hb=>bf (bC rfl hb) (bq.iff.1 ((aR.c0 br).get f0)) (aT _ _)) ?_
 refine GB rf rf rf (fun hb=>ak rfl) ?_
 refine GB rf rf rf (fun hb=>ck (bD (fc hb)) (aB (bC rfl hb) (aB (bC rfl hb) rfl)) (fun _ _ _=>trivial)) ?_
 refine GB rf rf rf (fun hb=>ja (bC rfl hb)) ?_
 refine ai rfl (eF rfl rfl) ?_
 refine SL 3 rf ?_
 refine dN h rf (fun hc h=>?_) fun hc h=>?_
 ·
  refine SC 2 rf ?_
  refine ai rfl (ae rfl (aL.len _ f0)) ?_
  refine ST (C:=K) a0 (aE.id (L:=aj)) aX (mo f0) rf rf rf rf rf fun C7 f24=>?_
  refine SL 6 rf ?_
  have h:=sj h; subst h
  exact lB [] rf rf (ra rf (aL.len _ f24) (rt rf rn)) ⟨_,rfl,(mo f24)⟩
 ·
  obtain ⟨dB,lF,h⟩:=aS h
  obtain ⟨cH,lE,_,h⟩:=gQ h
  refine SC 2 rf ?_
  refine ai rfl (ae rfl (aL.len _ f0)) ?_
  refine ai rfl (ak rfl) ?_
  refine CV (iH (K:=K) (mo f0) lF) rf rf ?_
  refine SL 3 rf ?_
  refine GB rf rf rf (fun hb=>ae rfl (aL.len _ f0)) ?_
  refine GB rf rf rf (fun hb=>ak rfl) ?_
  refine GB rf rf rf (fun hb=>ak rfl) ?_
  refine GB rf rf rf (fun hb=>ck (m5 (K:=K) (mo f0) (lE hb)) (aB (bC rfl hb) (aB (bC rfl hb) (aB (bC rfl hb) rfl))) kn) ?_
  refine ai rfl (eF rfl rfl) ?_
  refine SL 3 rf ?_
  refine dN h rf (fun hc h=>?_) fun hc h=>?_
  ·
   refine SC 2 rf ?_
   refine ai rfl (ae rfl (aL.len _ f0)) ?_
   refine ST (C:=K) a0 (aE.id (L:=aj)) aX (mo f0) rf rf rf rf rf fun Bt f29=>?_
   refine SL 6 rf ?_
   have h:=sj h; subst h
   exact lB [] rf rf (ra rf (aL.len _ f29) (rt rf rn)) ⟨_,rfl,(mo f29)⟩
  ·
   refine o5 ?_
   obtain ⟨dj,tH,h⟩:=aS h
   obtain ⟨dV,nC,h⟩:=aS h
   refine cK mixed (.gm [] [(0,[3]),(1,[2]),(2,[38,39]),(3,[3]),(4,[1]),(5,[41,42]),(6,[40,43]),(7,[44])] (.alt 8 [45] (.fin [] []) .no)) (by kernel_rfl) ?_
   refine T0 ?_
   refine NV rf rf (ae rfl (aL.len _ f0)) ?_
   refine NS 1 rf ?_
   refine NC rf rf (j8 (K:=K) (mo f0) tH) rf ?_
   refine NV rf rf (ae rfl (aL.len _ f0)) ?_
   refine NS 1 rf ?_
   refine NC rf rf (uN (K:=K) (mo f0) nC) rf ?_
   refine NE 2 rf ?_
   refine XV rf rf (bQ rfl) ?_
   refine oF ?_
   refine kf ?_
   refine dN h rf (fun hc h=>?_) fun hc h=>?_
   ·
    refine SC 2 rf ?_
    refine ai rfl (ae rfl (aL.len _ f0)) ?_
    refine ST (C:=K) a0 (aE.id (L:=aj)) aX (mo f0) rf rf rf rf rf fun C6 f34=>?_
    refine SL 6 rf ?_
    have h:=sj h; subst h
    exact lB [] rf rf (ra rf (aL.len _ f34) (rt rf rn)) ⟨_,rfl,(mo f34)⟩
   ·
    obtain ⟨gq,mj,h⟩:=aS h
    refine SC 5 rf ?_
    refine ai rfl (ae rfl (aL.len _ f0)) ?_
    refine SL 2 rf ?_
    refine CB (lP (K:=K) (mo f0) mj) rf rf ?_
    rintro Rz kL r6 ⟨ur,rfl,f41⟩
    replace f41:(aj).rep (fun w=>K w∧Hs [.ext kL r6] w) ur gq.1:=f41
    refine SL 2 rf ?_
    refine ST (C:=(fun w=>K w∧Hs [.ext kL r6] w)) gq.1 (aE.id (L:=aj)) aX (mo f41) rf rf rf rf rf fun Im f44=>?_
    refine SL 4 rf ?_
    have h:=sj h; subst h
    exact lB [0] rf rf (ra rf (aL.len _ f44) (rt rf rn)) ⟨_,rfl,(mo f44)⟩
def ig (n:Nat) (a0:Int) (a1:Int) (a2:aq):Option Bool:=
 cl ((a0 != a1) == true) (gB n a2 a0 a1) default fun aM =>
 some ((a0 != a1) && aM)
theorem uc {n a0 a1 a2 r K} [bn K] {q1 q2 xg} (f2:(aj).rep K xg a2) (h:ig n a0 a1 a2 = some r):Bw.Fn (α:=Unit) Tryz.prog 59 [.int .u32 a0,Ptr q1 0,Ptr q2 0] (Ar (bN [.cells q1 32 ((LI .u32).enc a1), .cells q2 41 xg]) K) [.cells q1 32 ((LI .u32).enc a1), .cells q2 41 xg] (fun _=>True) (fun _=>(.bool r)) (fun _=>[.cells q1 32 ((LI .u32).enc a1), .cells q2 41 xg]):=by
 unfold ig at h
 refine fI Tryz.func59 (by kernel_rfl) rfl Tryz.ntmps59 rfl (fun cx cZ hpre hro=>?_)
 haveI:=jA cZ hpre
 obtain ⟨aM,bX,_,h⟩:=gQ h
 refine SC 8 rf ?_
 refine ai rfl (bg (aE.id (L:=(LI .u32))) rfl) ?_
 refine SL 2 rf ?_
 refine GB rf rf rf (fun hb=>ae rfl (aL.len _ f2)) ?_
 refine GB rf rf rf (fun hb=>ak rfl) ?_
 refine GB rf rf rf (fun hb=>bg (aE.id (L:=(LI .u32))) rfl) ?_
 refine GB rf rf rf (fun hb=>ck (m5 (K:=K) (mo f2) (bX hb)) (aB (bC rfl hb) (aB (bC rfl hb) (aB (bC rfl hb) rfl))) kn) ?_
 refine ai rfl (bV rfl rfl) ?_
 refine SL 4 rf ?_
 have h:=sj h; subst h
 exact dF () rfl (.tmp rfl .nil) trivial rfl (ks:=[0,1]) rfl (by decide)
def my (n:Nat) (a0:aq) (a1:Int):Option (aq × Int):=
 bd (bk n a0.book.jQ a1) fun aM =>
 cn ((!aM)) (
 some (a0,4)) (
 bd (gF n a0 a1) fun cH =>
 bd (gi n cH.1 cH.2) fun dV =>
 gn (fun (PX:Int) NY (dX:aq) =>
 lt (PX:Int) fun ox =>
 bd (dZ n dX ox) fun p4 =>
 c9 (fun Fx (lY:Int) (pZ:bT) =>
 cn (decide (lY < 8)) (
 gu (dO lY 8) <|
 bd (ig n (p4.1.Cells (Int.toNat lY)) a1 a0) fun Bx =>
 cn (Bx) (
 gu (dO lY 8) <|
 lt ({ pZ with Cells:=(eG pZ.Cells (Int.toNat lY) 0) }:bT) fun sA =>
 Fx (wr .i64 (lY + 1)) sA) (
 Fx (wr .i64 (lY + 1)) pZ)) (
 bd (eA n dX ox pZ) fun yC =>
 NY yC.1)) n 0 p4.1) (fun (dX:aq) =>
 bd (ei n dX a1 0) fun yB =>
 some (yB.1,yB.2)) dV a0)
theorem wL {n a0 a1 r K} [bn K] {cv} (f0:(aj).rep K cv a0) (h:my n a0 a1 = some r):pY Tryz.prog 27 [A cv, .int .u32 a1] K (fun J v=>∃u0,v = (.tuple #[A u0, .int .i64 r.2])∧(aj).rep (fun w=>K w∧J w) u0 (r.1)):=by
 unfold my at h
 refine fo Tryz.func27 (by kernel_rfl) rfl Tryz.ntmps27 rfl fun cx _ hro cZ hpre=>?_
 refine SC 2 rf ?_
 refine W1 rf (aV rfl) fun b2=>?_
 refine W1 rf (cC (LI .u32) a1 rfl rfl) fun b3=>?_
 refine W1 rf (bz (hz:=(⟨by kernel_rfl⟩ : cA Tryz.prog 41 aN))) fun b4=>?_
 obtain ⟨aM,bX,h⟩:=aS h
 refine SL 8 rf ?_
 refine ai rfl (bf rfl (bq.iff.1 ((aR.c0 br).get f0)) (aT _ _)) ?_
 refine ai rfl (bg (aE.id (L:=(LI .u32))) rfl) ?_
 refine CV (bD bX) rf rf ?_
 refine SL 3 rf ?_
 refine dN h rf (fun hc h=>?_) fun hc h=>?_
 ·
  refine SC 2 rf ?_
  refine ai rfl (ae rfl (aL.len _ f0)) ?_
  refine ST (C:=K) a0 (aE.id (L:=aj)) aX (mo f0) rf rf rf rf rf fun Ip f23=>?_
  refine SL 5 rf ?_
  have h:=sj h; subst h
  exact lB [] rf rf (ra rf (aL.len _ f23) (rt rf rn)) ⟨_,rfl,(mo f23)⟩
 ·
  refine SC 5 rf ?_
  refine W1 rf (bz (hz:=(⟨by kernel_rfl⟩ : cA Tryz.prog 135 [.nilFunc]))) fun b6=>?_
  refine W0 (ru (n:=1) (cs':=[.func (.func 59) #[] #[Ptr b3 0,Ptr b2 0]]) rfl rfl rfl rfl (by decide) (w5 rfl) rfl) ?_
  refine SL 4 rf ?_
  refine ai rfl (ae rfl (aL.len _ f0)) ?_
  refine W1 rf (bz (hz:=(⟨by kernel_rfl⟩ : cA Tryz.prog 41 aN))) fun b7=>?_
  refine ST (C:=K) a0 (aE.id (L:=aj)) aX (mo f0) rf rf rf rf rf fun DT f26=>?_
  obtain ⟨cH,lE,h⟩:=aS h
  refine SL 5 rf ?_
  refine ai rfl (ae rfl (aL.len _ f0)) ?_
  refine ai rfl (bg (aE.id (L:=(LI .u32))) rfl) ?_
  refine ef rfl (eK (mC (K:=K) (mo f0) lE) rfl kn) (fun ⟨Te,Uf,Ag⟩ f31=>?_)
  replace f31:(aj).rep K Ag cH.2:=f31
  dsimp only [List.cons_append,List.nil_append]
  refine SL 3 rf ?_
  obtain ⟨dV,nC,h⟩:=aS h
  refine lX ?_
  obtain ⟨G0,K9,HU,Li,h⟩:=tF h
  refine nK (K:=K) (α:=aq × (List Value) × (List Nat) × (World→Prop)) (β:=Unit) hro rfl (j1 (K:=K) (mo f31) nC) (fun _=>rfl) rfl (fun Em=>fun (dX,ur,fY,l5)=>(aj).rep (fun w=>K w∧Hs [.ext fY l5] w) ur dX∧gn G0 HU (dV.drop Em) dX = some r) (fun Em=>fun (dX,ur,fY,l5)=>[.ext fY l5, .cells b7 41 ur, .cells b6 135 [.func (.func 59) #[] #[Ptr b3 0,Ptr b2 0]], .cells b4 41 aN, .cells b3 32 ((LI .u32).enc a1), .cells b2 41 cv]) (fun _ _=>False) (fun _=>[]) ⟨a0,DT,[],(Hs [])⟩ ⟨(mo f26),h⟩ (ks:=[1,2,0,3,4,5,6,7]) rfl (by decide) ?_ ?_ ?_
  ·
   rintro Em ⟨dX,ur,fY,l5⟩ lo dd rec c' hk ⟨f43,h⟩ sg we qh hsi hT
   replace h:gn G0 HU (dV.drop Em) dX = some r:=h
   replace h:=tD K9 hk h
   haveI:=oP (K:=K) hsi
   dsimp only [sC]
   obtain ⟨ox,AR,h⟩:=cj h
   rw [← AR]
   refine SC 3 rf ?_
   refine lp sg qh ?_
   obtain ⟨p4,yX,h⟩:=aS h
   refine SC 3 rf ?_
   refine ai rfl (ae rfl (aL.len _ f43)) ?_
   refine ai rfl (ak rfl) ?_
   refine CB (iK (K:=(fun w=>K w∧Hs [.ext fY l5] w)) (mo f43) yX) rf rf ?_
   rintro TL lf sy ⟨Af,rfl,f55⟩
   replace f55:(aY).rep (fun w=>(fun w=>K w∧Hs [.ext fY l5] w) w∧Hs [.ext lf sy] w) Af p4.1:=f55
   refine SL 3 rf ?_
   refine W1 rf (bz (hz:=(⟨by kernel_rfl⟩ : cA Tryz.prog 38 eP))) fun b9=>?_
   refine ST (C:=(fun w=>K w∧Hs [.ext fY l5, .ext lf sy] w)) p4.1 (aE.id (L:=aY)) eO (mo f55) rf rf rf rf rf fun P8 f58=>?_
   refine SL 7 rf ?_
   refine ai rfl (bf rfl (bq.iff.1 (jd.get f58)) (aT _ _)) ?_
   refine SL 4 rf ?_
   obtain ⟨NL,KZ,h⟩:=kC h
   refine lX ?_
   refine LO (β:=Int × bT × (List Value) × (List Nat) × (World→Prop)) [6,7,8,9,33] [0,1,2,3,4,5,6,7,8,9,10] (fun (JV,lY,pZ,Ae,lH,sN)=>[(34, .int .i64 lY)]) (fun (JV,lY,pZ,Ae,lH,sN)=>[.ext lH sN, .cells b9 38 Ae, .ext lf sy, .obj dd (.deferred (some [])), .obj lo (.loop { rec with state:=.busy }), .ext fY l5, .cells b7 41 ur, .cells b6 135 [.func (.func 59) #[] #[Ptr b3 0,Ptr b2 0]], .cells b4 41 aN, .cells b3 32 ((LI .u32).enc a1), .cells b2 41 cv]) (fun (JV,lY,pZ,Ae,lH,sN)=>(aY).rep (fun w=>K w∧Hs [.ext fY l5, .ext lf sy, .ext lH sN] w) Ae pZ∧c9 NL JV lY pZ = some r) (n,0,p4.1,P8,[],(Hs [])) ⟨(mo f58),h⟩ rf rf rf ?_
   rintro JV ⟨lY,pZ,Ae,lH,sN⟩ ⟨f71,h⟩
   replace h:=kB KZ h; obtain ⟨JV,rfl,h⟩:=h
   refine SC 6 rf ?_
   refine dN h rf (fun hc h=>?_) fun hc h=>?_
   ·
    obtain ⟨Hw,h⟩:=cq h
    refine SC 7 rf ?_
    refine ai rfl (A9 (m:=(Int.toNat lY)) rfl rfl (az Hw).1 (az Hw).2 ((aE.idx (L:=(LI .u32)) (m:=8) (k:=1) (Int.toNat lY) (az Hw).2 rfl).int (rp _ _))) ?_
    obtain ⟨Bx,G8,h⟩:=aS h
    refine SL 6 rf ?_
    refine ai rfl (bL rfl rfl) ?_
    refine ai rfl (ak rfl) ?_
    refine ef rfl (jc (K:=K) (ni:=[.cells b3 32 ((LI .u32).enc a1), .cells b2 41 cv]) (rest:=[.ext lH sN, .cells b9 38 Ae, .ext lf sy, .obj dd (.deferred (some [])), .obj lo (.loop { rec with state:=.busy }), .ext fY l5, .cells b7 41 ur, .cells b6 135 [.func (.func 59) #[] #[Ptr b3 0,Ptr b2 0]], .cells b4 41 aN]) (ks:=[9,10,0,1,2,3,4,5,6,7,8]) (uc (K:=K) (mo f0) G8) rfl rfl rfl rfl (by decide)) (fun _ _=>?_)
    dsimp only [List.cons_append,List.nil_append]
    refine SL 2 rf ?_
    refine dN h rf (fun hc h=>?_) fun hc h=>?_
    ·
     obtain ⟨y8,h⟩:=cq h
     obtain ⟨sA,Cs,h⟩:=cj h
     refine SC 3 rf ?_
     refine ai rfl (cm (m:=(Int.toNat lY)) rfl rfl (az y8).1 (az y8).2) ?_
     refine ST (C:=(fun w=>K w∧Hs [.ext fY l5, .ext lf sy, .ext lH sN] w)) sA (jd.comp (aE.idx (L:=(LI .u32)) (m:=8) (k:=1) ((Int.toNat lY)) (az y8).2 rfl)) (mo f71) fl Cs rf rf rf rf fun L6 f80=>?_
     refine SL 7 rf ?_
     refine bH (R:=[.ext lH sN]) (H':=[.cells b3 32 ((LI .u32).enc a1), .cells b2 41 cv, .cells b9 38 L6, .ext lf sy, .obj dd (.deferred (some [])), .obj lo (.loop { rec with state:=.busy }), .ext fY l5, .cells b7 41 ur, .cells b6 135 [.func (.func 59) #[] #[Ptr b3 0,Ptr b2 0]], .cells b4 41 aN]) (ks:=[2,0,1,3,4,5,6,7,8,9,10]) rfl (by decide) ?_
     exact LN [0,3,4,5,6,7,8,9,10,1,2] (wr .i64 (lY + 1),sA,L6,(bN [.ext lH sN]),(Hs [.ext lH sN])) ⟨(mo f80),h⟩ rf rf rf
    ·
     refine SC 7 rf ?_
     refine bH (R:=[.ext lH sN]) (H':=[.cells b3 32 ((LI .u32).enc a1), .cells b2 41 cv, .cells b9 38 Ae, .ext lf sy, .obj dd (.deferred (some [])), .obj lo (.loop { rec with state:=.busy }), .ext fY l5, .cells b7 41 ur, .cells b6 135 [.func (.func 59) #[] #[Ptr b3 0,Ptr b2 0]], .cells b4 41 aN]) (ks:=[2,0,1,3,4,5,6,7,8,9,10]) rfl (by decide) ?_
     exact LN [0,3,4,5,6,7,8,9,10,1,2] (wr .i64 (lY + 1),pZ,Ae,(bN [.ext lH sN]),(Hs [.ext lH sN])) ⟨(mo f71),h⟩ rf rf rf
   ·
    obtain ⟨yC,G7,h⟩:=aS h
    refine SC 6 rf ?_
    refine ai rfl (ae rfl (aL.len _ f43)) ?_
    refine ai rfl (ak rfl) ?_
    refine ai rfl (ae rfl (aL.len _ f71)) ?_
    refine CB (mV (K:=(fun w=>K w∧Hs [.ext fY l5, .ext lf sy, .ext lH sN] w)) (mo f43) (mo f71) G7) rf rf ?_
    rintro Rw uf DH ⟨Ja,rfl,f86⟩
    replace f86:(aj).rep (fun w=>(fun w=>K w∧Hs [.ext fY l5, .ext lf sy, .ext lH sN] w) w∧Hs [.ext uf DH] w) Ja yC.1:=f86
    refine SL 3 rf ?_
    refine ST (C:=(fun w=>K w∧Hs [.ext fY l5, .ext lf sy, .ext lH sN, .ext uf DH] w)) yC.1 (aE.id (L:=aj)) (mo f43) (mo f86) rf rf rf rf rf fun Ii f89=>?_
    refine SL 2 rf ?_
    refine bH (R:=[.ext uf DH, .ext lH sN, .ext lf sy, .ext fY l5]) (H':=[.cells b9 38 Ae, .obj dd (.deferred (some [])), .obj lo (.loop { rec with state:=.busy }), .cells b7 41 Ii, .cells b6 135 [.func (.func 59) #[] #[Ptr b3 0,Ptr b2 0]], .cells b4 41 aN, .cells b3 32 ((LI .u32).enc a1), .cells b2 41 cv]) (ks:=[0,1,3,6,2,4,5,7,8,9,10,11]) rfl (by decide) ?_
    exact kg sg we hT ⟨yC.1,Ii,(bN [.ext uf DH, .ext lH sN, .ext lf sy, .ext fY l5]),(Hs [.ext uf DH, .ext lH sN, .ext lf sy, .ext fY l5])⟩ ⟨(mo f89),h⟩ (ks:=[2,3,0,4,5,6,7,8]) rfl (by decide)
  ·
   rintro P1 ⟨dX,ur,fY,l5⟩ ⟨f43,h⟩
   replace h:gn G0 HU (dV.drop dV.length) dX = some r:=h
   replace h:=tE Li rfl h
   dsimp only [List.cons_append,List.nil_append]
   obtain ⟨yB,G6,h⟩:=aS h
   refine SX 4 rf ?_
   refine ai rfl (ae rfl (aL.len _ f43)) ?_
   refine ai rfl (bg (aE.id (L:=(LI .u32))) rfl) ?_
   refine CB (lP (K:=(fun w=>K w∧Hs [.ext fY l5] w)) (mo f43) G6) rf rf ?_
   rintro TD zy IS ⟨M4,rfl,f96⟩
   replace f96:(aj).rep (fun w=>(fun w=>K w∧Hs [.ext fY l5] w) w∧Hs [.ext zy IS] w) M4 yB.1:=f96
   refine SL 2 rf ?_
   refine ST (C:=(fun w=>K w∧Hs [.ext fY l5, .ext zy IS] w)) yB.1 (aE.id (L:=aj)) aX (mo f96) rf rf rf rf rf fun P5 f99=>?_
   refine SL 4 rf ?_
   have h:=sj h; subst h
   refine bH (R:=[.ext zy IS, .ext fY l5]) (H':=[.obj P1 (.deferred (some [])), .cells b4 41 P5]) (ks:=[0,4,1,7]) rfl (by decide) ?_
   have Nz:(aj).rep (fun w=>K w∧(Hs [.ext (bN [.ext zy IS, .ext fY l5]) (Hs [.ext zy IS, .ext fY l5])]) w) P5 yB.1:=aL.mono _ kx f99
   exact kU (.tuple #[A P5, .int .i64 yB.2],bN [.ext zy IS, .ext fY l5],Hs [.ext zy IS, .ext fY l5]) rfl (.agg rfl inferInstance inferInstance (aL.len _ f99) (.tmp rfl .nil)) ⟨_,rfl,Nz⟩ rfl (ks:=[0]) rfl (by decide)
  ·
   intro dd j i hf; exact hf.elim
def jB (n:Nat) (a0:ah) (a1:Int):Option Int:=
 gu (!((decide (1 ≤ a1) && decide (a1 ≤ 32)) == true) || dO (wr .u32 (a1 - 1)) 32) <|
 cn (((decide (1 ≤ a1) && decide (a1 ≤ 32)) && ((a0.B.Is (Int.toNat (wr .u32 (a1 - 1)))) == 1))) (
 bd (fg n a0.B (wr .i64 (wr .u32 (a1 - 1)))) fun bE =>
 some bE) (
 some (wr .i64 a1))
theorem nZ {n a0 a1 r K} [bn K] {cv} (f0:(ay).rep K cv a0) (h:jB n a0 a1 = some r):pD Tryz.prog 23 [A cv, .int .u32 a1] K (.int .i64 r):=by
 unfold jB at h
 refine fo Tryz.func23 (by kernel_rfl) rfl Tryz.ntmps23 rfl fun cx _ hro cZ hpre=>?_
 refine SC 2 rf ?_
 refine W1 rf (aV rfl) fun b2=>?_
 obtain ⟨nE,h⟩:=cq h
 refine SL 9 rf ?_
 refine GB rf rf rf (fun hb=>ak rfl) ?_
 refine GB rf rf rf (fun hb=>o6 (bC rfl hb) rfl) ?_
 refine ai rfl (bV rfl rfl) ?_
 refine ai rfl (ak rfl) ?_
 refine GB rf rf rf (fun hb=>ak rfl) ?_
 refine GB rf rf rf (fun hb=>rW (bC rfl hb) rfl rfl) ?_
 refine GB rf rf rf (fun hb=>aO rfl) ?_
 refine GB rf rf rf (fun hb=>aO (bC rfl hb)) ?_
 refine GB rf rf rf (fun hb=>cm (m:=(Int.toNat (wr .u32 (a1 - 1)))) (bC rfl hb) (bC rfl hb) (az (iJ nE hb)).1 (az (iJ nE hb)).2) ?_
 refine GB rf rf rf (fun hb=>bL (bC rfl hb) (((bZ.c0 eZ).comp (aE.idx (L:=(LI .i64)) (m:=32) (k:=1) ((Int.toNat (wr .u32 (a1 - 1)))) (az (iJ nE hb)).2 rfl)).int f0)) ?_
 refine GB rf rf rf (fun hb=>ff (bC rfl hb) rfl) ?_
 refine ai rfl (bV rfl rfl) ?_
 refine SL 2 rf ?_
 refine dN h rf (fun hc h=>?_) fun hc h=>?_
 ·
  obtain ⟨bE,fc,h⟩:=aS h
  refine SC 3 rf ?_
  refine ai rfl (bf rfl (bq.iff.1 (bZ.get f0)) (aT _ _)) ?_
  refine SL 3 rf ?_
  refine CV (iz fc) rf rf ?_
  refine SL 5 rf ?_
  have h:=sj h; subst h
  exact RV rf (rt rf rn) rf
 ·
  refine SC 10 rf ?_
  have h:=sj h; subst h
  exact RV rf (rt rf rn) rf
def nx (n:Nat) (a0:(List Int)) (a1:(List Int)):Option Bool:=
 cn (((a0.length:Int) != (a1.length:Int))) (
 some false) (
 eu (fun v7 (bE:Int) =>
 cn (decide (bE < (a0.length:Int))) (
 gu (dO bE a0.length) <|
 gu (dO bE a1.length) <|
 cn (((wr .i64 (a0.getD (Int.toNat bE) default)) != (a1.getD (Int.toNat bE) default))) (
 some false) (
 v7 (wr .i64 (bE + 1)))) (
 some true)) n 0)
theorem ya {n a0 a1 r K} [bn K] {v0} (f0:Fz K v0 (LI .u32) a0) {v1:Value} (f1:Fz K v1 (LI .i64) a1) (h:nx n a0 a1 = some r):pD Tryz.prog 26 [v0,v1] K (.bool r):=by
 unfold nx at h
 refine fo Tryz.func26 (by kernel_rfl) rfl Tryz.ntmps26 rfl fun cx _ hro cZ hpre=>?_
 refine SC 9 rf ?_
 refine ai rfl (dg f0 rfl) ?_
 refine ai rfl (ak rfl) ?_
 refine ai rfl (dg f1 rfl) ?_
 refine SL 3 rf ?_
 refine dN h rf (fun hc h=>?_) fun hc h=>?_
 ·
  refine SC 7 rf ?_
  have h:=sj h; subst h
  exact RV rf (rt rf rn) rf
 ·
  refine SC 9 rf ?_
  obtain ⟨p9,mq,h⟩:=mT h
  refine LO (β:=Int) [0,1] [] (fun (me,bE)=>[(5, .int .i64 bE)]) (fun (me,bE)=>[]) (fun (me,bE)=>eu p9 me bE = some r) (n,0) h rf rf rf ?_
  rintro me bE h
  replace h:=mS mq h; obtain ⟨me,rfl,h⟩:=h
  refine SC 5 rf ?_
  refine ai rfl (dg f0 rfl) ?_
  refine SL 3 rf ?_
  refine dN h rf (fun hc h=>?_) fun hc h=>?_
  ·
   refine SC 5 rf ?_
   obtain ⟨mN,h⟩:=cq h
   obtain ⟨mw,h⟩:=cq h
   refine cK mixed (.fin [] [(0,[0]),(1,[5]),(2,[17,18]),(3,[19]),(4,[20]),(5,[1]),(6,[5]),(7,[22,23]),(8,[24]),(9,[21,25])]) (by kernel_rfl) ?_
   refine F0 ?_
   refine NS 2 rf ?_
   refine NV rf rf (cM (m:=(Int.toNat bE)) f0 rfl rfl rfl (az mN).1 (az mN).2) ?_
   refine NV rf rf (cN f0 (aE.idx (L:=(LI .u32)) (m:=(a0.length)) (k:=1) ((Int.toNat bE)) (az mN).2 rfl) rfl) ?_
   refine NS 3 rf ?_
   refine NV rf rf (cM (m:=(Int.toNat bE)) f1 rfl rfl rfl (az mw).1 (az mw).2) ?_
   refine NV rf rf (cN f1 (aE.idx (L:=(LI .i64)) (m:=(a1.length)) (k:=1) ((Int.toNat bE)) (az mw).2 rfl) rfl) ?_
   refine NE 1 rf ?_
   refine kf ?_
   refine dN h rf (fun hc h=>?_) fun hc h=>?_
   ·
    refine SC 11 rf ?_
    have h:=sj h; subst h
    exact RV rf (rt rf rn) rf
   ·
    refine SC 8 rf ?_
    exact LN [] (wr .i64 (bE + 1)) h rf rf rf
  ·
   refine SC 11 rf ?_
   have h:=sj h; subst h
   exact RV rf (rt rf rn) rf
structure iF where
 Do:Int
 A:Int
 B:Int
 C:Int
 bP:Int
abbrev bM:aL iF:=aL.via (LP (LI .u8) (LP (LI .u32) (LP (LI .u32) (LP (LI .u32) (LI .i64))))) (fun x=>(x.Do,x.A,x.B,x.C,x.bP))
abbrev yo:iF:=⟨0,0,0,0,0⟩
instance:Inhabited iF:=⟨yo⟩
theorem mK:aE bM (LI .u8) 0 (fun x=>x.Do) (fun x v=>{ x with Do:=v }):=(aE.fst aE.id).via _ _ _ 0 rfl (fun _=>rfl) (fun _ _=>rfl)
theorem pW:aE bM (LI .u32) 1 (fun x=>x.A) (fun x v=>{ x with A:=v }):=(aE.snd (aE.fst aE.id)).via _ _ _ 1 rfl (fun _=>rfl) (fun _ _=>rfl)
theorem ng:aE bM (LI .u32) 2 (fun x=>x.B) (fun x v=>{ x with B:=v }):=(aE.snd (aE.snd (aE.fst aE.id))).via _ _ _ 2 rfl (fun _=>rfl) (fun _ _=>rfl)
theorem uT:aE bM (LI .u32) 3 (fun x=>x.C) (fun x v=>{ x with C:=v }):=(aE.snd (aE.snd (aE.snd (aE.fst aE.id)))).via _ _ _ 3 rfl (fun _=>rfl) (fun _ _=>rfl)
theorem cV:aE bM (LI .i64) 4 (fun x=>x.bP) (fun x v=>{ x with bP:=v }):=(aE.snd (aE.snd (aE.snd (aE.snd aE.id)))).via _ _ _ 4 rfl (fun _=>rfl) (fun _ _=>rfl)
def mh (n:Nat) (a0:aq) (a1:ah) (a2:iF):Option (aq × ah × Bool):=
 bd (jB n a1 a2.A) fun aM =>
 bd (jB n a1 a2.B) fun bE =>
 bd (jB n a1 a2.C) fun hJ =>
 lt (fun (dB:Int) (cH:Int) (dQ:Bool) (fa:ah) (dV:aq) =>
 some (dV,fa,(dQ && (dB == cH)))) fun Eu =>
 cn ((a2.Do == 0)) (
 bd (k8 n a0 (wr .u32 aM)) fun gq =>
 bd (l9 n a1 aM) fun sP =>
 bd (nx n gq.2.1 sP.2.1) fun vH =>
 Eu gq.2.2 sP.2.2 vH sP.1 gq.1) (
 cn ((a2.Do == 1)) (
 bd (my n a0 (wr .u32 aM)) fun rB =>
 bd (nq n a1 aM) fun Gc =>
 Eu rB.2 Gc.2 true Gc.1 rB.1) (
 cn ((a2.Do == 2)) (
 bd (j5 n a0 (wr .u32 aM) (wr .u32 bE)) fun yC =>
 bd (kY n a1 aM bE) fun Ga =>
 Eu yC.2 Ga.2 true Ga.1 yC.1) (
 cn ((a2.Do == 3)) (
 bd (dZ n a0 (wr .u32 aM)) fun DL =>
 gu (dO (Int.tmod a2.B 8) 8) <|
 lt ({ DL.1 with Cells:=(eG DL.1.Cells (Int.toNat (Int.tmod a2.B 8)) (wr .u32 hJ)) }:bT) fun Gh =>
 bd (eV n a1 aM) fun uB =>
 gu (dO (Int.tmod a2.B 8) 8) <|
 lt ({ uB.1 with Cells:=(eG uB.1.Cells (Int.toNat (Int.tmod a2.B 8)) hJ) }:cy) fun Ge =>
 cn (((DL.2 == 0) && (uB.2 == 0))) (
 bd (eA n a0 (wr .u32 aM) Gh) fun yE =>
 bd (eU n a1 aM Ge) fun yD =>
 Eu yE.2 yD.2 (DL.2 == uB.2) yD.1 yE.1) (
 Eu 0 0 (DL.2 == uB.2) a1 a0)) (
 bd (jG n a0 (wr .u32 aM) a2.bP) fun uA =>
 bd (nn n a1 aM a2.bP) fun uz =>
 Eu uA.2.2 uz.2.2 ((wr .i64 uA.2.1) == uz.2.1) uz.1 uA.1))))
theorem wK {n a0 a1 a2 r K} [bn K] {cv} (f0:(aj).rep K cv a0) {fq:List Value} (f1:(ay).rep K fq a1) (h:mh n a0 a1 a2 = some r):pY Tryz.prog 6 [A cv,A fq, .agg (bM.enc a2).toArray] K (fun J v=>∃u0 u1,v = (.tuple #[A u0,A u1, .bool r.2.2])∧(aj).rep (fun w=>K w∧J w) u0 (r.1)∧(ay).rep (fun w=>K w∧J w) u1 (r.2.1)):=by
 unfold mh at h
 refine fo Tryz.func6 (by kernel_rfl) rfl Tryz.ntmps6 rfl fun cx _ hro cZ hpre=>?_
 refine SC 2 rf ?_
 refine W1 rf (aV rfl) fun b3=>?_
 refine W1 rf (aV rfl) fun b4=>?_
 refine W1 rf (cC bM a2 rfl rfl) fun b5=>?_
 refine W1 rf (bz (hz:=(⟨by kernel_rfl⟩ : cA Tryz.prog 41 aN))) fun b6=>?_
 refine W1 rf (bz (hz:=(⟨by kernel_rfl⟩ : cA Tryz.prog 53 aQ))) fun b7=>?_
 refine SL 4 rf ?_
 obtain ⟨aM,bX,h⟩:=aS h
 obtain ⟨bE,fc,h⟩:=aS h
 obtain ⟨hJ,jE,h⟩:=aS h
 refine cK mixed (.gm [] [(0,[4]),(1,[5]),(2,[34]),(3,[33,35]),(4,[4]),(5,[5]),(6,[38]),(7,[37,39]),(8,[4]),(9,[5]),(10,[42]),(11,[41,43])] (.alt 12 [36] (.gm [] [] (.alt 13 [40] (.gm [] [] (.alt 14 [44] (.fin [] []) .no)) .no)) .no)) (by kernel_rfl) ?_
 refine T0 ?_
 refine NV rf rf (ae rfl (aL.len _ f1)) ?_
 refine NS 1 rf ?_
 refine NV rf rf (bg pW rfl) ?_
 refine NC rf rf (nZ (K:=K) (mo f1) bX) rf ?_
 refine NV rf rf (ae rfl (aL.len _ f1)) ?_
 refine NS 1 rf ?_
 refine NV rf rf (bg ng rfl) ?_
 refine NC rf rf (nZ (K:=K) (mo f1) fc) rf ?_
 refine NV rf rf (ae rfl (aL.len _ f1)) ?_
 refine NS 1 rf ?_
 refine NV rf rf (bg uT rfl) ?_
 refine NC rf rf (nZ (K:=K) (mo f1) jE) rf ?_
 refine aP ?_
 refine XV rf rf (bQ rfl) ?_
 refine E8 ?_
 refine XV rf rf (bQ rfl) ?_
 refine E8 ?_
 refine XV rf rf (bQ rfl) ?_
 refine oF ?_
 refine SX 22 rf ?_
 obtain ⟨Eu,O4,h⟩:=cj h
 refine CU (α:=Int × Int × Bool × ah × aq × (List Value) × (List Value) × (List Nat) × (World→Prop)) [3,4,6,7] rf (fun (dB,cH,dQ,fa,dV,Ag,C6,yf,F7)=>[(14, .int .i64 dB),(15, .int .i64 cH),(16, .bool dQ)]) (fun (dB,cH,dQ,fa,dV,Ag,C6,yf,F7)=>[.ext yf F7, .cells b7 53 aQ, .cells b6 41 aN, .cells b5 66 (bM.enc a2), .cells b4 53 Ag, .cells b3 41 C6]) (fun (dB,cH,dQ,fa,dV,Ag,C6,yf,F7)=>(ay).rep (fun w=>K w∧Hs [.ext yf F7] w) Ag fa∧(aj).rep (fun w=>K w∧Hs [.ext yf F7] w) C6 dV∧Eu dB cH dQ fa dV = some r) ?_ ?_
 ·
  refine SC 3 rf ?_
  refine ai rfl (bg mK rfl) ?_
  refine SL 9 rf ?_
  refine dN h rf (fun hc h=>?_) fun hc h=>?_
  ·
   obtain ⟨gq,mj,h⟩:=aS h
   refine SC 2 rf ?_
   refine ai rfl (ae rfl (aL.len _ f0)) ?_
   refine ai rfl (ak rfl) ?_
   refine CB (uP (K:=K) (mo f0) mj) rf rf ?_
   rintro Rz kL r6 ⟨ur,Gm,rfl,f41,f43⟩
   replace f41:(aj).rep (fun w=>K w∧Hs [.ext kL r6] w) ur gq.1:=f41
   replace f43:Fz (fun w=>K w∧Hs [.ext kL r6] w) Gm (LI .u32) gq.2.1:=f43
   refine SL 4 rf ?_
   refine W1 rf (bz (hz:=(⟨by kernel_rfl⟩ : cA Tryz.prog 41 aN))) fun Ti=>?_
   refine ST (C:=(fun w=>K w∧Hs [.ext kL r6] w)) gq.1 (aE.id (L:=aj)) aX (mo f41) rf rf rf rf rf fun S6 f46=>?_
   obtain ⟨sP,Hg,h⟩:=aS h
   refine SL 6 rf ?_
   refine ai rfl (ae rfl (aL.len _ f1)) ?_
   refine ai rfl (ak rfl) ?_
   refine CB (wG (K:=K) (mo f1) Hg) rf rf ?_
   rintro TN yd F5 ⟨S5,RL,rfl,f52,f54⟩
   replace f52:(ay).rep (fun w=>K w∧Hs [.ext yd F5] w) S5 sP.1:=f52
   replace f54:Fz (fun w=>K w∧Hs [.ext yd F5] w) RL (LI .i64) sP.2.1:=f54
   refine SL 4 rf ?_
   refine W1 rf (bz (hz:=(⟨by kernel_rfl⟩ : cA Tryz.prog 53 aQ))) fun Ra=>?_
   refine ST (C:=(fun w=>K w∧Hs [.ext yd F5] w)) sP.1 (aE.id (L:=ay)) bp (mo f52) rf rf rf rf rf fun Af f57=>?_
   refine SL 5 rf ?_
   refine cK mixed (.gm [] [(0,[17]),(1,[20]),(2,[19]),(3,[22])] (.alt 4 [3,93] (.gm [(1,[20]),(2,[19]),(3,[22])] [] (.alt 5 [4,94] (.gm [(2,[19]),(3,[22])] [] (.alt 6 [95] (.gm [(3,[22])] [] (.alt 7 [96] (.fin [] []) .no)) .no)) .no)) .no)) (by kernel_rfl) ?_
   refine T0 ?_
   refine NV rf rf (ae rfl (aL.len _ f46)) ?_
   refine NV rf rf (ae rfl (aL.len _ f57)) ?_
   refine NE 2 rf ?_
   obtain ⟨Jb,Pt,f59⟩:=Bo (C:=(fun w=>K w∧Hs [.ext kL r6] w)) (x':=gq.1) (aE.id (L:=aj)) (mo f0) (mo f46) rf
   refine X0 rf (Bv Pt rf rf rf rf) ?_
   refine di ?_ ?_
   ·
    refine RO rf rf (ae rfl (aL.len _ f57)) rf ?_
    exact RE 2 rf rf
   refine aP ?_
   obtain ⟨uq,Ps,f61⟩:=Bo (C:=(fun w=>K w∧Hs [.ext yd F5] w)) (x':=sP.1) (aE.id (L:=ay)) (mo f1) (mo f57) rf
   refine X0 rf (Bv Ps rf rf rf rf) ?_
   refine di ?_ ?_
   ·
    exact RE 2 rf rf
   refine aP ?_
   refine XV rf rf (bQ rfl) ?_
   refine di ?_ ?_
   ·
    exact RE 1 rf rf
   refine aP ?_
   refine XV rf rf (bQ rfl) ?_
   refine oF ?_
   obtain ⟨vH,He,h⟩:=aS h
   refine SX 4 rf ?_
   refine CV (ya (K:=(fun w=>K w∧Hs [.ext kL r6, .ext yd F5] w)) (f43.mono kx) (f54.mono kx) He) rf rf ?_
   refine SL 3 rf ?_
   refine bH (R:=[.ext yd F5, .ext kL r6]) (H':=[.cells Ra 53 Af, .cells Ti 41 S6, .cells b7 53 aQ, .cells b6 41 aN, .cells b5 66 (bM.enc a2), .cells b4 53 uq, .cells b3 41 Jb]) (ks:=[1,3,0,2,4,5,6,7,8]) rfl (by decide) ?_
   exact CE [0,3,4,5,6,7] (gq.2.2,sP.2.2,vH,sP.1,gq.1,uq,Jb,(bN [.ext yd F5, .ext kL r6]),(Hs [.ext yd F5, .ext kL r6])) ⟨(mo f61),(mo f59),h⟩ rf rf rf
  ·
   refine SC 6 rf ?_
   refine dN h rf (fun hc h=>?_) fun hc h=>?_
   ·
    obtain ⟨rB,G9,h⟩:=aS h
    refine SC 2 rf ?_
    refine ai rfl (ae rfl (aL.len _ f0)) ?_
    refine ai rfl (ak rfl) ?_
    refine CB (wL (K:=K) (mo f0) G9) rf rf ?_
    rintro TK Dc MH ⟨S4,rfl,f68⟩
    replace f68:(aj).rep (fun w=>K w∧Hs [.ext Dc MH] w) S4 rB.1:=f68
    refine SL 3 rf ?_
    refine ST (C:=(fun w=>K w∧Hs [.ext Dc MH] w)) rB.1 (aE.id (L:=aj)) (mo f0) (mo f68) rf rf rf rf rf fun Ae f71=>?_
    obtain ⟨Gc,Og,h⟩:=aS h
    refine SL 4 rf ?_
    refine ai rfl (ae rfl (aL.len _ f1)) ?_
    refine ai rfl (ak rfl) ?_
    refine CB (x9 (K:=K) (mo f1) Og) rf rf ?_
    rintro TH Da MF ⟨QZ,rfl,f77⟩
    replace f77:(ay).rep (fun w=>K w∧Hs [.ext Da MF] w) QZ Gc.1:=f77
    refine SL 3 rf ?_
    refine ST (C:=(fun w=>K w∧Hs [.ext Da MF] w)) Gc.1 (aE.id (L:=ay)) (mo f1) (mo f77) rf rf rf rf rf fun L6 f80=>?_
    refine SL 3 rf ?_
    refine bH (R:=[.ext Da MF, .ext Dc MH]) (H':=[.cells b7 53 aQ, .cells b6 41 aN, .cells b5 66 (bM.enc a2), .cells b4 53 L6, .cells b3 41 Ae]) (ks:=[0,1,2,3,4,5,6]) rfl (by decide) ?_
    exact CE [0,1,2,3,4,5] (rB.2,Gc.2,true,Gc.1,rB.1,L6,Ae,(bN [.ext Da MF, .ext Dc MH]),(Hs [.ext Da MF, .ext Dc MH])) ⟨(mo f80),(mo f71),h⟩ rf rf rf
   ·
    refine SC 6 rf ?_
    refine dN h rf (fun hc h=>?_) fun hc h=>?_
    ·
     obtain ⟨yC,G7,h⟩:=aS h
     refine SC 2 rf ?_
     refine ai rfl (ae rfl (aL.len _ f0)) ?_
     refine SL 2 rf ?_
     refine CB (tZ (K:=K) (mo f0) G7) rf rf ?_
     rintro Rw uf DH ⟨Ja,rfl,f86⟩
     replace f86:(aj).rep (fun w=>K w∧Hs [.ext uf DH] w) Ja yC.1:=f86
     refine SL 3 rf ?_
     refine ST (C:=(fun w=>K w∧Hs [.ext uf DH] w)) yC.1 (aE.id (L:=aj)) (mo f0) (mo f86) rf rf rf rf rf fun Ii f89=>?_
     obtain ⟨Ga,N9,h⟩:=aS h
     refine SL 4 rf ?_
     refine ai rfl (ae rfl (aL.len _ f1)) ?_
     refine SL 2 rf ?_
     refine CB (uM (K:=K) (mo f1) N9) rf rf ?_
     rintro TE C8 MD ⟨L5,rfl,f95⟩
     replace f95:(ay).rep (fun w=>K w∧Hs [.ext C8 MD] w) L5 Ga.1:=f95
     refine SL 3 rf ?_
     refine ST (C:=(fun w=>K w∧Hs [.ext C8 MD] w)) Ga.1 (aE.id (L:=ay)) (mo f1) (mo f95) rf rf rf rf rf fun M4 f98=>?_
     refine SL 3 rf ?_
     refine bH (R:=[.ext C8 MD, .ext uf DH]) (H':=[.cells b7 53 aQ, .cells b6 41 aN, .cells b5 66 (bM.enc a2), .cells b4 53 M4, .cells b3 41 Ii]) (ks:=[0,1,2,3,4,5,6]) rfl (by decide) ?_
     exact CE [0,1,2,3,4,5] (yC.2,Ga.2,true,Ga.1,yC.1,M4,Ii,(bN [.ext C8 MD, .ext uf DH]),(Hs [.ext C8 MD, .ext uf DH])) ⟨(mo f98),(mo f89),h⟩ rf rf rf
    ·
     refine SC 6 rf ?_
     refine dN h rf (fun hc h=>?_) fun hc h=>?_
     ·
      obtain ⟨DL,N5,h⟩:=aS h
      refine SC 2 rf ?_
      refine ai rfl (ae rfl (aL.len _ f0)) ?_
      refine ai rfl (ak rfl) ?_
      refine CB (iK (K:=K) (mo f0) N5) rf rf ?_
      rintro RI pS uW ⟨Qg,rfl,f104⟩
      replace f104:(aY).rep (fun w=>K w∧Hs [.ext pS uW] w) Qg DL.1:=f104
      refine SL 3 rf ?_
      refine W1 rf (bz (hz:=(⟨by kernel_rfl⟩ : cA Tryz.prog 38 eP))) fun Ml=>?_
      refine ST (C:=(fun w=>K w∧Hs [.ext pS uW] w)) DL.1 (aE.id (L:=aY)) eO (mo f104) rf rf rf rf rf fun Td f107=>?_
      obtain ⟨CP,h⟩:=cq h
      obtain ⟨Gh,KF,h⟩:=cj h
      refine SL 6 rf ?_
      refine ai rfl (bg ng rfl) ?_
      refine ai rfl (Dx rfl rfl (by decide) rfl) ?_
      refine SL 3 rf ?_
      refine ai rfl (cm (m:=(Int.toNat (Int.tmod a2.B 8))) rfl rfl (az CP).1 (az CP).2) ?_
      refine ST (C:=(fun w=>K w∧Hs [.ext pS uW] w)) Gh (jd.comp (aE.idx (L:=(LI .u32)) (m:=8) (k:=1) ((Int.toNat (Int.tmod a2.B 8))) (az CP).2 rfl)) (mo f107) fl KF rf rf rf rf fun Mf f111=>?_
      obtain ⟨uB,KE,h⟩:=aS h
      refine SL 4 rf ?_
      refine ai rfl (ae rfl (aL.len _ f1)) ?_
      refine ai rfl (ak rfl) ?_
      refine CB (mY (K:=K) (mo f1) KE) rf rf ?_
      rintro RH pR uV ⟨Qf,rfl,f117⟩
      replace f117:(bh).rep (fun w=>K w∧Hs [.ext pR uV] w) Qf uB.1:=f117
      refine SL 3 rf ?_
      refine W1 rf (bz (hz:=(⟨by kernel_rfl⟩ : cA Tryz.prog 50 iu))) fun Mk=>?_
      refine ST (C:=(fun w=>K w∧Hs [.ext pR uV] w)) uB.1 (aE.id (L:=bh)) iq (mo f117) rf rf rf rf rf fun Tc f120=>?_
      obtain ⟨CO,h⟩:=cq h
      obtain ⟨Ge,KA,h⟩:=cj h
      refine SL 6 rf ?_
      refine ai rfl (bg ng rfl) ?_
      refine ai rfl (Dx rfl rfl (by decide) rfl) ?_
      refine SL 2 rf ?_
      refine ai rfl (cm (m:=(Int.toNat (Int.tmod a2.B 8))) rfl rfl (az CO).1 (az CO).2) ?_
      refine ST (C:=(fun w=>K w∧Hs [.ext pR uV] w)) Ge (je.comp (aE.idx (L:=(LI .i64)) (m:=8) (k:=1) ((Int.toNat (Int.tmod a2.B 8))) (az CO).2 rfl)) (mo f120) fl KA rf rf rf rf fun Me LR=>?_
      refine SL 8 rf ?_
      refine GB rf rf rf (fun hb=>ak rfl) ?_
      refine GB rf rf rf (fun hb=>ff (bC rfl hb) rfl) ?_
      refine ai rfl (bV rfl rfl) ?_
      refine SL 2 rf ?_
      refine dN h rf (fun hc h=>?_) fun hc h=>?_
      ·
       obtain ⟨yE,Kz,h⟩:=aS h
       refine SC 2 rf ?_
       refine ai rfl (ae rfl (aL.len _ f0)) ?_
       refine ai rfl (ak rfl) ?_
       refine ai rfl (ae rfl (aL.len _ f111)) ?_
       refine CB (mV (K:=(fun w=>K w∧Hs [.ext pS uW] w)) (mo f0) (mo f111) Kz) rf rf ?_
       rintro RF yj DJ ⟨Qe,rfl,H8⟩
       replace H8:(aj).rep (fun w=>(fun w=>K w∧Hs [.ext pS uW] w) w∧Hs [.ext yj DJ] w) Qe yE.1:=H8
       refine SL 3 rf ?_
       refine ST (C:=(fun w=>K w∧Hs [.ext pS uW, .ext yj DJ] w)) yE.1 (aE.id (L:=aj)) (mo f0) (mo H8) rf rf rf rf rf fun Md PR=>?_
       obtain ⟨yD,Ky,h⟩:=aS h
       refine SL 4 rf ?_
       refine ai rfl (ae rfl (aL.len _ f1)) ?_
       refine ai rfl (ak rfl) ?_
       refine ai rfl (ae rfl (aL.len _ LR)) ?_
       refine CB (qZ (K:=(fun w=>K w∧Hs [.ext pR uV] w)) (mo f1) (mo LR) Ky) rf rf ?_
       rintro RD yh DI ⟨Qd,rfl,H7⟩
       replace H7:(ay).rep (fun w=>(fun w=>K w∧Hs [.ext pR uV] w) w∧Hs [.ext yh DI] w) Qd yD.1:=H7
       refine SL 3 rf ?_
       refine ST (C:=(fun w=>K w∧Hs [.ext pR uV, .ext yh DI] w)) yD.1 (aE.id (L:=ay)) (mo f1) (mo H7) rf rf rf rf rf fun Mc PO=>?_
       refine SL 10 rf ?_
       refine bH (R:=[.ext yh DI, .ext yj DJ, .ext pR uV, .ext pS uW]) (H':=[.cells Mk 50 Me, .cells Ml 38 Mf, .cells b7 53 aQ, .cells b6 41 aN, .cells b5 66 (bM.enc a2), .cells b4 53 Mc, .cells b3 41 Md]) (ks:=[0,1,3,5,2,4,6,7,8,9,10]) rfl (by decide) ?_
       exact CE [0,3,4,5,6,7] (yE.2,yD.2,(DL.2 == uB.2),yD.1,yE.1,Mc,Md,(bN [.ext yh DI, .ext yj DJ, .ext pR uV, .ext pS uW]),(Hs [.ext yh DI, .ext yj DJ, .ext pR uV, .ext pS uW])) ⟨(mo PO),(mo PR),h⟩ rf rf rf
      ·
       refine SC 9 rf ?_
       refine bH (R:=[]) (H':=[.cells Mk 50 Me, .ext pR uV, .cells Ml 38 Mf, .ext pS uW, .cells b7 53 aQ, .cells b6 41 aN, .cells b5 66 (bM.enc a2), .cells b4 53 fq, .cells b3 41 cv]) (ks:=[0,1,2,3,4,5,6,7,8]) rfl (by decide) ?_
       exact CE [0,5,6,7,8,9] (0,0,(DL.2 == uB.2),a1,a0,fq,cv,(bN []),(Hs [])) ⟨(mo f1),(mo f0),h⟩ rf rf rf
     ·
      obtain ⟨uA,Kx,h⟩:=aS h
      refine SC 2 rf ?_
      refine ai rfl (ae rfl (aL.len _ f0)) ?_
      refine SL 2 rf ?_
      refine ai rfl (bg cV rfl) ?_
      refine CB (n3 (K:=K) (mo f0) Kx) rf rf ?_
      rintro RC vz Bi ⟨Qc,rfl,H6⟩
      replace H6:(aj).rep (fun w=>K w∧Hs [.ext vz Bi] w) Qc uA.1:=H6
      refine SL 4 rf ?_
      refine W1 rf (bz (hz:=(⟨by kernel_rfl⟩ : cA Tryz.prog 41 aN))) fun Q9=>?_
      refine ST (C:=(fun w=>K w∧Hs [.ext vz Bi] w)) uA.1 (aE.id (L:=aj)) aX (mo H6) rf rf rf rf rf fun Qb LQ=>?_
      obtain ⟨uz,Kw,h⟩:=aS h
      refine SL 6 rf ?_
      refine ai rfl (ae rfl (aL.len _ f1)) ?_
      refine SL 2 rf ?_
      refine ai rfl (bg cV rfl) ?_
      refine CB (x8 (K:=K) (mo f1) Kw) rf rf ?_
      rintro RA vy Bh ⟨Qa,rfl,HZ⟩
      replace HZ:(ay).rep (fun w=>K w∧Hs [.ext vy Bh] w) Qa uz.1:=HZ
      refine SL 4 rf ?_
      refine W1 rf (bz (hz:=(⟨by kernel_rfl⟩ : cA Tryz.prog 53 aQ))) fun Q8=>?_
      refine ST (C:=(fun w=>K w∧Hs [.ext vy Bh] w)) uz.1 (aE.id (L:=ay)) bp (mo HZ) rf rf rf rf rf fun P9 HY=>?_
      refine SL 5 rf ?_
      refine cK mixed (.gm [] [(0,[27]),(1,[30]),(2,[29]),(3,[32])] (.alt 4 [3,69] (.gm [(1,[30]),(2,[29]),(3,[32])] [] (.alt 5 [4,70] (.gm [(2,[29]),(3,[32])] [] (.alt 6 [71] (.gm [(3,[32])] [] (.alt 7 [72] (.fin [] []) .no)) .no)) .no)) .no)) (by kernel_rfl) ?_
      refine T0 ?_
      refine NV rf rf (ae rfl (aL.len _ LQ)) ?_
      refine NV rf rf (ae rfl (aL.len _ HY)) ?_
      refine NE 2 rf ?_
      obtain ⟨Mb,Lv,PN⟩:=Bo (C:=(fun w=>K w∧Hs [.ext vz Bi] w)) (x':=uA.1) (aE.id (L:=aj)) (mo f0) (mo LQ) rf
      refine X0 rf (Bv Lv rf rf rf rf) ?_
      refine di ?_ ?_
      ·
       refine RO rf rf (ae rfl (aL.len _ HY)) rf ?_
       exact RE 2 rf rf
      refine aP ?_
      obtain ⟨Ma,Lu,PL⟩:=Bo (C:=(fun w=>K w∧Hs [.ext vy Bh] w)) (x':=uz.1) (aE.id (L:=ay)) (mo f1) (mo HY) rf
      refine X0 rf (Bv Lu rf rf rf rf) ?_
      refine di ?_ ?_
      ·
       exact RE 2 rf rf
      refine aP ?_
      refine XV rf rf (bQ rfl) ?_
      refine di ?_ ?_
      ·
       exact RE 1 rf rf
      refine aP ?_
      refine XV rf rf (bQ rfl) ?_
      refine oF ?_
      refine SX 9 rf ?_
      refine bH (R:=[.ext vy Bh, .ext vz Bi]) (H':=[.cells Q8 53 P9, .cells Q9 41 Qb, .cells b7 53 aQ, .cells b6 41 aN, .cells b5 66 (bM.enc a2), .cells b4 53 Ma, .cells b3 41 Mb]) (ks:=[1,3,0,2,4,5,6,7,8]) rfl (by decide) ?_
      exact CE [0,3,4,5,6,7] (uA.2.2,uz.2.2,((wr .i64 uA.2.1) == uz.2.1),uz.1,uA.1,Ma,Mb,(bN [.ext vy Bh, .ext vz Bi]),(Hs [.ext vy Bh, .ext vz Bi])) ⟨(mo PL),(mo PN),h⟩ rf rf rf
 ·
  rintro ⟨dB,cH,dQ,fa,dV,Ag,C6,yf,F7⟩ ⟨f31,f34,h⟩
  replace h:Eu dB cH dQ fa dV = some r:=h
  replace h:=FB O4 h
  refine o5 ?_
  refine cK mixed (.gm [] [(0,[3]),(1,[4]),(2,[16]),(3,[182]),(4,[14,183]),(5,[15,183]),(6,[183,184,185]),(7,[183,186])] (.alt 8 [6,180] (.gm [(1,[4]),(4,[14,183]),(5,[15,183]),(6,[183,184,185]),(7,[183,186])] [] (.alt 9 [7,181] (.gm [(4,[14,183]),(5,[15,183]),(6,[183,184,185]),(7,[183,186])] [] (.alt 10 [187] (.fin [] []) .no)) .no)) .no)) (by kernel_rfl) ?_
  refine T0 ?_
  refine NV rf rf (ae rfl (aL.len _ f34)) ?_
  refine NV rf rf (ae rfl (aL.len _ f31)) ?_
  refine NS 2 rf ?_
  refine NG rf rf (cY rfl rfl) (fun hb=>ak rfl) ?_
  refine NG rf rf (cY rfl rfl) (fun hb=>ak rfl) ?_
  refine NG rf rf (cY rfl rfl) (fun hb=>ff (bC rfl hb) (bC rfl hb)) ?_
  refine NV rf rf (bV rfl rfl) ?_
  refine aP ?_
  obtain ⟨Ta,Lt,LM⟩:=Bo (C:=(fun w=>K w∧Hs [.ext yf F7] w)) (x':=dV) (aE.id (L:=aj)) aX (mo f34) rf
  refine X0 rf (Bv Lt rf rf rf rf) ?_
  refine di ?_ ?_
  ·
   refine RO rf rf (ae rfl (aL.len _ f31)) rf ?_
   refine dU rfl rfl (n9 (cY rfl rfl) (fun hb=>ak rfl)) ?_
   refine dU rfl rfl (n9 (cY rfl rfl) (fun hb=>ak rfl)) ?_
   refine dU rfl rfl (n9 (cY rfl rfl) (fun hb=>kP (ff (bC rfl hb) (bC rfl hb)) rfl)) ?_
   refine RO rf rf (bV rfl rfl) rf ?_
   exact fD
  refine aP ?_
  obtain ⟨S9,Ls,LL⟩:=Bo (C:=(fun w=>K w∧Hs [.ext yf F7] w)) (x':=fa) (aE.id (L:=ay)) bp (mo f31) rf
  refine X0 rf (Bv Ls rf rf rf rf) ?_
  refine di ?_ ?_
  ·
   refine dU rfl rfl (n9 (cY rfl rfl) (fun hb=>ak rfl)) ?_
   refine dU rfl rfl (n9 (cY rfl rfl) (fun hb=>ak rfl)) ?_
   refine dU rfl rfl (n9 (cY rfl rfl) (fun hb=>kP (ff (bC rfl hb) (bC rfl hb)) rfl)) ?_
   refine RO rf rf (bV rfl rfl) rf ?_
   exact fD
  refine aP ?_
  refine XV rf rf (bQ rfl) ?_
  refine oF ?_
  refine SX 2 rf ?_
  have h:=sj h; subst h
  exact lB [0] rf rf (ra rf (aL.len _ LM) (ra rf (aL.len _ LL) (rt rf rn))) ⟨_,_,rfl,(mo LM),(mo LL)⟩
end Go.Proofs.YtmdpbdhkmfjlhaaGreat
namespace Go.Proofs.YtmdpbdhkmfjlhaaGreat
open Go Go.Bw
def dx (w:ah) (x:Int):Int:=(w.R (cw x)).Up
abbrev Gw (w:ah):List Int:=ct w.B 32
theorem xe {t:aq} {w:ah} (r:fE t w) (tt:hM w):∃ρ,Fo (Gw w) (dx w) ρ:=by
  obtain ⟨q,hq⟩:=tt
  have hm:=cr r.book
  refine ⟨fun x=>tV (fun j=>decide (q j < q (cw x))) 32,⟨tG r.book 32 (by omega),fz _ _,fun x hx=>?_,fun x hx=>?_,fun x hx=>?_,fun x hx hu=>?_⟩⟩
  · have:=iG ((hm x).1 hx); omega
  · exact (r.I2 ((hm x).1 hx)).imp _root_.id (hm _).2
  · have:=qU (p:=fun j=>decide (q j < q (cw x))) (q:=fun _=>true) (fun _ _=>rfl) (c:=cw x) (by simp) rfl 32 (kF _)
    have:=wC (fun _=>true) 32
    omega
  · obtain ⟨l1,l2⟩:=eE ((hm x).1 hx)
    have h2:=hq _ l1 l2 hu
    exact qU (p:=fun j=>decide (q j < q (cw (w.R (cw x)).Up))) (q:=fun j=>decide (q j < q (cw x))) (fun j hj=>by simp at hj ⊢; omega) (c:=cw (w.R (cw x)).Up) (by simp) (by simpa using h2) 32 (kF _)
section
universe u1 u2 u3
theorem rI {α1 ρ:Type} {B:(α1→Option ρ)→α1→Option ρ} (g:α1→ρ) (I:α1→Prop) (μ:α1→Nat) (hB:∀k a,I a→(∀b,I b→μ b < μ a→k b = some (g b))→B k a = some (g a)):∀n a,I a→μ a < n→eu B n a = some (g a):=by
  intro n
  induction n with
  | zero=>intro a _ h; exact absurd h (Nat.not_lt_zero _)
  | succ n ih=>intro a hi hm; exact hB _ a hi fun b hj hl=>ih b hj (by omega)
end
theorem zB {n:Nat} (hn:40 ≤ n) {t:aq} {w:ah} (r:fE t w) (tt:hM w) {h:Int} (hh:bG w.B h):gj n t h = some (U6 (dx w) h):=by
  obtain ⟨ρ,f⟩:=xe r tt
  have hm:=cr r.book
  unfold gj
  refine rI (fun x=>U6 (dx w) x) (fun x=>bG w.B x) ρ (fun k x hx ih=>?_) n h hh (by have:=f.rk h ((hm h).2 hh); omega)
  have hG:=(hm x).2 hx
  rw [ax (sR r hx.1 (fQ hx.2)),if_pos hx.2]
  show cn (((0:Int) != 0 || (dx w x == 0)) == false) (yl (dx w x) (k (dx w x))) (some []) = _
  by_cases hu:dx w x = 0
  · rw [f.u0 hG hu,av (by simp [hu])]
  · rw [f.u1 hG hu,aC (by simp [hu]),ih _ ((hm _).1 (f.BA hG hu)) (f.dn x hG hu)]; rfl
def g7 (w:ah) (a:Int):Int:=if bt w.B a = true then 1 + ((U6 (dx w) a).length:Int) else 0
def cS (w:ah) (a:Int):Int:=if bt w.B a = true then xb (dx w) a else 0
def uD (w:ah) (a b:Int):Bool:=bt w.B a && bt w.B b && ((a == b) || (U6 (dx w) b).contains a)
def v5 (w:ah) (a:Int):List Int:=if bt w.B a = true then gX (Gw w) (dx w) a else []
def lS (w:ah) (a:Int):List Int:=if bt w.B a = true then V6 (Gw w) (dx w) a else []
section
variable {n:Nat} {t:aq} {w:ah}
theorem Ew (l:List Int) (x:Int) (h0:0 ≤ x) (h1:x + (l.length:Int) ≤ 1000000):gn (fun (H9:Int) Er (cI:Int) =>
  lt (H9:Int) fun _ =>
  lt (wr .i64 (cI + 1):Int) fun eR =>
  Er eR) (fun (cI:Int) =>
  some cI) l x = some (x + (l.length:Int)):=by
  induction l generalizing x with
  | nil=>simp [gn]
  | cons a l ih =>
    rw [List.length_cons] at h1
    have e:wr .i64 (x + 1) = x + 1:=cz (by omega) (by omega)
    refine (ih (wr .i64 (x + 1)) (by rw [e]; omega) (by rw [e]; omega)).trans ?_
    rw [e,List.length_cons]; congr 1; omega
theorem wA (hn:40 ≤ n) (r:fE t w) (tt:hM w) {a:Int} (h0:0 ≤ a) (h1:a < 4294967296):eI n t a = some (g7 w a):=by
  unfold eI g7
  rw [ax (lO r.book h0 h1)]
  cases hg:bt w.B a with
  | false=>rfl
  | true =>
    obtain ⟨ρ,f⟩:=xe r tt
    have hG:=(cr r.book a).2 ⟨h0,hg⟩
    rw [av (b:=!true) rfl,if_pos rfl]
    unfold gG
    rw [ax rfl,ax (zB hn r tt ⟨h0,hg⟩)]
    have:=f.BD hG
    exact Ew _ 1 (by omega) (by omega)
theorem Co (l:List Int) (x:Int):gn (fun (H9:Int) Er (_:Int) =>
  lt (H9:Int) fun ia =>
  Er ia) (fun (cI:Int) =>
  some cI) l x = some (l.getLastD x):=by
  induction l generalizing x with
  | nil=>rfl
  | cons a l ih=>exact (ih a).trans (by cases l <;> rfl)
theorem tc (hn:40 ≤ n) (r:fE t w) (tt:hM w) {a:Int} (h0:0 ≤ a) (h1:a < 4294967296):fA n t a = some (cS w a):=by
  unfold fA cS
  rw [ax (lO r.book h0 h1)]
  cases hg:bt w.B a with
  | false=>rfl
  | true =>
    rw [av (b:=!true) rfl,if_pos rfl]
    unfold gG
    rw [ax rfl,ax (zB hn r tt ⟨h0,hg⟩)]
    exact Co _ a
theorem GZ (a1:Int) (l:List Int) (x:Bool):gn (fun (PY:Int) Cn (dV:Bool) =>
  lt (PY:Int) fun eR =>
  lt ((dV || (eR == a1)):Bool) fun jN =>
  Cn jN) (fun (dV:Bool) =>
  some dV) l x = some (x || l.contains a1):=by
  induction l generalizing x with
  | nil=>simp [gn]
  | cons a l ih =>
    refine (ih (x || (a == a1))).trans ?_
    rw [List.contains_cons,Bool.or_assoc,Bool.beq_comm (a:=a)]
theorem zY (hn:40 ≤ n) (r:fE t w) (tt:hM w) {a b:Int} (h0:0 ≤ a) (h1:a < 4294967296) (k0:0 ≤ b) (k1:b < 4294967296):gB n t a b = some (uD w a b):=by
  unfold gB uD
  rw [ax (lO r.book h0 h1),dD (lO r.book k0 k1)]
  cases hg:bt w.B a with
  | false=>rfl
  | true =>
    cases hk:bt w.B b with
    | false=>rfl
    | true =>
      rw [av (by rfl),lt_eq]
      unfold gG
      rw [ax rfl,ax (zB hn r tt ⟨k0,hk⟩)]
      exact GZ a _ _
end
end Go.Proofs.YtmdpbdhkmfjlhaaGreat
namespace Go.Proofs.YtmdpbdhkmfjlhaaGreat
open Go Go.Bw
theorem xF {α:Type} (l:List α):l = []∨∃i x,l = i++[x]:=by
  rcases l with _ | ⟨a,l⟩
  · exact .inl rfl
  · exact .inr ⟨(a::l).dropLast,(a::l).getLast (by simp),(List.dropLast_concat_getLast (by simp)).symm⟩
theorem fj {α:Type} [Inhabited α] {l:List α} {i:Nat} (h:i < l.length):l.getD i default = l[i]:=by rw [List.getD,List.getElem?_eq_getElem h]; rfl
theorem N3 (d:Int→Option Bool) (p:Int→Bool) (l:List Int) (hd:∀x ∈ l,d x = some (p x)) (hl:l.length < 1000) (z:Option Int) {n:Nat} (hn:l.length < n) :
    ∃i:Nat,i ≤ l.length∧(∀x ∈ l.take i,p x = false)∧((i < l.length∧p (l.getD i default) = true∧eu (fun v7 (bE:Int) =>
  cn (decide (bE < (l.length:Int))) (
  gu (dO bE l.length) <|
  bd (d (l.getD (Int.toNat bE) default)) fun cH =>
  cn (cH) (
  some bE) (
  v7 (wr .i64 (bE + 1)))) z) n 0 = some (i:Int))∨(i = l.length∧eu (fun v7 (bE:Int) =>
  cn (decide (bE < (l.length:Int))) (
  gu (dO bE l.length) <|
  bd (d (l.getD (Int.toNat bE) default)) fun cH =>
  cn (cH) (
  some bE) (
  v7 (wr .i64 (bE + 1)))) z) n 0 = z)):=by
  refine iE (fun (x:Int)=>∃k:Nat,x = k∧k ≤ l.length∧∀x ∈ l.take k,p x = false) (fun x=>l.length - x.toNat) (fun o=>∃i:Nat,i ≤ l.length∧(∀x ∈ l.take i,p x = false)∧((i < l.length∧p (l.getD i default) = true∧o = some (i:Int))∨(i = l.length∧o = z))) ?_ n 0 ⟨0,rfl,by omega,by simp⟩ (by omega)
  rintro kk x ⟨k,rfl,hk,hp⟩ ih
  by_cases c:k < l.length
  · have hm:l.getD k default ∈ l:=g6 c
    rw [aC (decide_eq_true (by omega)),aF (cP (by omega) (by omega)),Int.toNat_natCast,ax (hd _ hm)]
    cases hb:p (l.getD k default) with
    | true=>rw [aC rfl]; exact ⟨k,hk,hp, .inl ⟨c,hb,rfl⟩⟩
    | false =>
      rw [av rfl,cz (by omega) (by omega)]
      refine ih _ ⟨k + 1,by omega,by omega,fun y hy=>?_⟩ (by omega)
      rw [List.take_succ_eq_append_getElem c,List.mem_append,List.mem_singleton] at hy
      rcases hy with hy | hy
      · exact hp y hy
      · rw [hy,← fj c]; exact hb
  · rw [av (decide_eq_false (by omega))]
    exact ⟨k,hk,hp, .inr ⟨by omega,rfl⟩⟩
theorem P0 (d:Int→Option Bool) (p:Int→Bool) (l:List Int) (hd:∀x ∈ l,d x = some (p x)) (hl:l.length < 1000) {i:Nat} (hi:i < l.length) (hp:p (l.getD i default) = true) (h0:∀x ∈ l.take i,p x = false) {n:Nat} (hn:l.length < n) :
    nv (fun Kb (dQ:(List Int)) (cI:Int) (dj:Int) =>
  cn (decide (dj < (dQ.length:Int))) (
  gu (dO dj dQ.length) <|
  bd (d (dQ.getD (Int.toNat dj) default)) fun gq =>
  cn ((!gq)) (
  gu (dO cI dQ.length) <|
  lt ((dQ.set (Int.toNat cI) (dQ.getD (Int.toNat dj) default)):List Int) fun ez =>
  Kb ez (wr .i64 (cI + 1)) (wr .i64 (dj + 1))) (
  Kb dQ cI (wr .i64 (dj + 1)))) (
  gu (dO cI (dQ.length + 1)) <|
  lt (dQ.take (Int.toNat cI)++List.replicate (dQ.length - (Int.toNat cI)) 0:List Int) fun dX =>
  gu (dO cI (dX.length + 1)) <|
  lt (dX.take (Int.toNat cI):List Int) fun pE =>
  some pE)) n l (i:Int) (wr .i64 ((i:Int) + 1)) = some (l.filter fun x=>!p x):=by
  rw [cz (by omega) (by omega)]
  have Pf:(l.take i).filter (fun x=>!p x) = l.take i:=List.filter_eq_self.2 fun x hx=>by rw [h0 x hx]; rfl
  have SG:(l.take (i + 1)).filter (fun x=>!p x) = l.take i:=by
    rw [List.take_succ_eq_append_getElem hi,List.filter_append,Pf,← fj hi]
    generalize l.getD i default = y at hp
    simp [hp]
  refine rH (fun (s:List Int) (a b:Int)=>∃u v:Nat,a = u∧b = v∧u < v∧v ≤ l.length∧s.length = l.length∧s.drop v = l.drop v∧s.take u = (l.take v).filter fun x=>!p x) (fun _ _ b=>l.length - b.toNat) (fun o=>o = some (l.filter fun x=>!p x)) ?_ n l i ((i:Int) + 1) ⟨i,i + 1,rfl,by omega,by omega,by omega,rfl,rfl,SG.symm⟩ (by omega)
  rintro kk s a b ⟨u,v,rfl,rfl,huv,hv,hs,h1,h2⟩ ih
  by_cases c:v < l.length
  · have e1:s.getD v default = l.getD v default:=by
      have:=congrArg (fun q:List Int=>q[0]?) h1
      simp only [List.getElem?_drop,Nat.add_zero] at this
      rw [List.getD,List.getD,this]
    have hm:l.getD v default ∈ l:=g6 c
    rw [aC (decide_eq_true (by omega)),aF (cP (by omega) (by omega)),Int.toNat_natCast,e1,ax (hd _ hm),cz (x:=(v:Int) + 1) (by omega) (by omega)]
    have QN:∀q:List Int,q.drop v = l.drop v→q.drop (v + 1) = l.drop (v + 1):=fun q hq=>by
      rw [← List.drop_drop,← List.drop_drop,hq]
    have ht:(l.take (v + 1)).filter (fun x=>!p x) = (l.take v).filter (fun x=>!p x)++(if p (l.getD v default) = true then [] else [l.getD v default]):=by
      rw [List.take_succ_eq_append_getElem c,List.filter_append,← fj c]
      generalize l.getD v default = y
      cases hy:p y <;> simp [hy]
    cases hb:p (l.getD v default) with
    | true =>
      rw [av (b:=!true) rfl]
      exact ih _ _ _ ⟨u,v + 1,rfl,by omega,by omega,by omega,hs,QN _ h1,by rw [ht,hb,h2]; simp⟩ (by omega)
    | false =>
      rw [aC (b:=!false) rfl,aF (cP (by omega) (by omega)),lt_eq,Int.toNat_natCast,cz (x:=(u:Int) + 1) (by omega) (by omega)]
      refine ih _ _ _ ⟨u + 1,v + 1,by omega,by omega,by omega,by omega,by rw [List.length_set]; exact hs,QN _ (by rw [List.drop_set_of_lt huv]; exact h1),?_⟩ (by omega)
      rw [ht,hb,← h2]
      have Sn:u < (s.set u (l.getD v default)).length:=by rw [List.length_set]; omega
      rw [List.take_succ_eq_append_getElem Sn,List.getElem_set_self,List.take_set_of_le (Nat.le_refl u)]
      rfl
  · obtain rfl:v = l.length:=by omega
    have KK:(s.take u).length = u:=by rw [List.length_take]; omega
    rw [av (decide_eq_false (by omega)),aF (cP (by omega) (by omega)),lt_eq,Int.toNat_natCast,aF (cP (by omega) (by simp; omega)),lt_eq]
    rw [List.take_append_of_le_length (by omega),List.take_of_length_le (by omega),h2,List.take_length]
section
variable {n:Nat} {t:aq} {w:ah}
theorem J8 (hn:100 ≤ n) (r:fE t w) {a:Int} (h0:0 ≤ a) (h1:a < 4294967296):k7 n t a = some (v5 w a):=by
  unfold k7 v5
  rw [ax (lO r.book h0 h1)]
  cases hg:bt w.B a with
  | false=>rfl
  | true =>
    have hm:=cr r.book
    have hlen:=fz w.B 32
    rw [av (b:=!true) rfl,if_pos rfl,ax (Ir (by omega) r)]
    have hd:∀x ∈ Gw w,fT n x t a = some (dx w x != a):=fun x hx=>by
      have hx:=(hm x).1 hx
      unfold fT
      rw [ax (sR r hx.1 (fQ hx.2)),if_pos hx.2]; rfl
    have hk:gX (Gw w) (dx w) a = (Gw w).filter fun x=>!(dx w x != a):=by
      unfold gX; congr 1; funext x; simp [bne]
    unfold cX dc
    obtain ⟨i,i1,i2,i3⟩:=N3 (n:=n) (fun x=>fT n x t a) (fun x=>dx w x != a) (Gw w) hd (by show (ct w.B 32).length < 1000; omega) (some (-1)) (by show (ct w.B 32).length < n; omega)
    rcases i3 with ⟨q1,q2,q3⟩ | ⟨q1,q3⟩
    · have:=P0 (n:=n) (fun x=>fT n x t a) (fun x=>dx w x != a) (Gw w) hd (by show (ct w.B 32).length < 1000; omega) q1 q2 i2 (by show (ct w.B 32).length < n; omega)
      rw [ax q3,av (by simp)]
      refine (ax this).trans ?_
      rw [hk]
    · rw [ax q3,aC (by rfl)]
      refine (ax rfl).trans ?_
      rw [hk]
      rw [q1,List.take_length] at i2
      exact congrArg some (List.filter_eq_self.2 fun x hx=>by have:=i2 x hx; simp only [this]; rfl).symm
theorem Nw {l:List Int} (hl:l.length < 1000) (hn:l.length < n):fO n l = some l.reverse:=by
  unfold fO
  rw [cz (by omega) (by omega)]
  refine rH (fun (s:List Int) (a b:Int)=>∃u:Nat,a = u∧b = (l.length:Int) - 1 - u∧s.length = l.length∧u ≤ l.length∧∀k,k < l.length→s.getD k default = if k < u∨l.length ≤ k + u then l.getD (l.length - 1 - k) default else l.getD k default) (fun _ _ b=>(b + 1).toNat) (fun o=>o = some l.reverse) ?_ n l 0 ((l.length:Int) - 1) ⟨0,rfl,by omega,rfl,by omega,fun k hk=>by rw [if_neg (by omega)]⟩ (by omega)
  rintro kk s a b ⟨u,rfl,rfl,hs,hu,hq⟩ ih
  by_cases c:2 * u + 1 < l.length
  · have e2:((l.length:Int) - 1 - u).toNat = l.length - 1 - u:=by omega
    rw [aC (decide_eq_true (by omega)),aF (cP (by omega) (by omega)),aF (cP (by omega) (by omega)),aF (cP (by omega) (by omega)),lt_eq,aF (cP (by omega) (by rw [List.length_set]; omega)),lt_eq,cz (x:=(u:Int) + 1) (by omega) (by omega),cz (x:=(l.length:Int) - 1 - u - 1) (by omega) (by omega),Int.toNat_natCast,e2]
    refine ih _ _ _ ⟨u + 1,by omega,by omega,by rw [List.length_set,List.length_set]; exact hs,by omega,fun k hk=>?_⟩ (by omega)
    have gs:∀(q:List Int) (i:Nat) (x:Int) (k:Nat),q.length = l.length→k < l.length→(q.set i x).getD k default = if i = k then x else q.getD k default:=fun q i x k h1 h2=>by
      rw [List.getD,List.getElem?_set]
      by_cases e:i = k
      · subst e; rw [if_pos rfl,if_pos (by omega),if_pos rfl]; rfl
      · rw [if_neg e,if_neg e,List.getD]
    have a1:=hq u (by omega)
    have a2:=hq (l.length - 1 - u) (by omega)
    rw [if_neg (by omega)] at a1 a2
    rw [gs _ _ _ _ (by rw [List.length_set]; exact hs) hk,gs _ _ _ _ hs hk,a1,a2,hq k hk]
    by_cases k1:l.length - 1 - u = k
    · rw [if_pos k1,if_pos (by omega)]; congr 1; omega
    · rw [if_neg k1]
      by_cases k2:u = k
      · rw [if_pos k2,if_pos (by omega)]; congr 1; omega
      · rw [if_neg k2]
        by_cases k3:k < u∨l.length ≤ k + u
        · rw [if_pos k3,if_pos (by omega)]
        · rw [if_neg k3,if_neg (by omega)]
  · rw [av (decide_eq_false (by omega))]
    congr 1
    refine List.ext_getElem (by simp [hs]) fun k h1 h2=>?_
    have hk:k < l.length:=by omega
    rw [List.getElem_reverse,← fj h1,← fj (by omega),hq k hk]
    split
    · rfl
    · congr 1; omega
theorem s9 (hn:100 ≤ n) (r:fE t w) (tt:hM w) {a:Int} (ha:bG w.B a):gi n a t = some (V6 (Gw w) (dx w) a):=by
  obtain ⟨ρ,f⟩:=xe r tt
  have hm:=cr r.book
  unfold gi
  have hv:=f.uX ((hm a).2 ha)
  refine (rI (fun s:List Int=>s.reverse.flatMap (V6 (Gw w) (dx w))) (fun s=>(∀x ∈ s,x ∈ Gw w)∧(s.reverse.flatMap (V6 (Gw w) (dx w))).length ≤ 32) (fun s=>(s.reverse.flatMap (V6 (Gw w) (dx w))).length) (fun k s hs ih=>?_) n [a] ⟨by simpa using (hm a).2 ha,by simpa using hv⟩ (by simp; omega)).trans (by simp)
  obtain ⟨hs,hlen⟩:=hs
  rcases xF s with rfl | ⟨i,x,rfl⟩
  · rfl
  · have hx:x ∈ Gw w:=hs x (by simp)
    have hxs:=(hm x).1 hx
    have e1:(i++[x]).reverse.flatMap (V6 (Gw w) (dx w)) = V6 (Gw w) (dx w) x++i.reverse.flatMap (V6 (Gw w) (dx w)):=by
      rw [List.reverse_append,List.reverse_singleton,List.singleton_append,List.flatMap_cons]
    have hge:∀q:List Int,(∀x ∈ q,x ∈ Gw w)→q.length ≤ (q.flatMap (V6 (Gw w) (dx w))).length:=fun q=>by
      induction q with
      | nil=>intro _; simp
      | cons b q ih =>
        intro hq
        have h1:=ih fun x hx=>hq x (by simp [hx])
        have h2:=f.vK (hq b (by simp))
        rw [List.flatMap_cons,List.length_append,h2,List.length_cons,List.length_cons]; omega
    have hi:=hge i.reverse fun y hy=>hs y (by simp at hy; simp [hy])
    rw [e1,List.length_append] at hlen
    have tN:i.length ≤ 32:=by rw [List.length_reverse] at hi; omega
    have ex:wr .i64 (((i++[x]).length:Int) - 1) = i.length:=by
      rw [List.length_append,List.length_singleton,cz (by omega) (by omega)]; omega
    have eg:(i++[x]).getD (Int.toNat (i.length:Int)) default = x:=by simp [List.getD]
    have hkn:v5 w x = gX (Gw w) (dx w) x:=by unfold v5; rw [if_pos hxs.2]
    have SA:(gX (Gw w) (dx w) x).length ≤ 32:=Nat.le_trans (List.length_filter_le _ _) f.len
    have hpos:0 < ((i++[x]).length:Int):=by rw [List.length_append,List.length_singleton]; omega
    rw [aC (decide_eq_true hpos),ex,aF (cP (by omega) (by simp; omega)),eg,ax (J8 hn r hxs.1 (fQ hxs.2)),hkn,ax (Nw (by omega) (by omega)),aF (cP (by omega) (by simp; omega)),lt_eq]
    have et:(i++[x]).take (Int.toNat (i.length:Int)) = i:=by simp
    rw [et,aF (iY (by simp; omega) (by simp; omega)),lt_eq,e1,f.vK hx]
    have e2:(i++(gX (Gw w) (dx w) x).reverse).reverse.flatMap (V6 (Gw w) (dx w)) = (gX (Gw w) (dx w) x).flatMap (V6 (Gw w) (dx w))++i.reverse.flatMap (V6 (Gw w) (dx w)):=by
      rw [List.reverse_append,List.reverse_reverse,List.flatMap_append]
    have e3:=congrArg List.length (f.vK hx)
    rw [List.length_cons] at e3
    rw [ih _ ⟨fun y hy=>?_,by rw [e2,List.length_append]; omega⟩ (by rw [e2,e1,List.length_append,List.length_append]; omega),e2]
    · rfl
    · rcases List.mem_append.1 hy with h | h
      · exact hs y (by simp [h])
      · exact (iS.1 (List.mem_reverse.1 h)).1
theorem Ex (l x:List Int) (h:x.length + l.length ≤ 1000):gn (fun (PZ:Int) Et (dB:(List Int)) =>
  lt (PZ:Int) fun jR =>
  gu (j9 dB.length 1 4) <|
  lt (dB++([jR]):List Int) fun gq =>
  Et gq) (fun (dB:(List Int)) =>
  some dB) l x = some (x++l):=by
  induction l generalizing x with
  | nil=>simp [gn]
  | cons a l ih =>
    rw [List.length_cons] at h
    have e:j9 x.length 1 4 = true:=iY (by omega) (by omega)
    have:=ih (x++[a]) (by simp; omega)
    refine Eq.trans ?_ (this.trans (by simp))
    show gu (j9 x.length 1 4) _ = _
    rw [aF e]; rfl
theorem Gs (hn:100 ≤ n) (r:fE t w) (tt:hM w) {a:Int} (h0:0 ≤ a) (h1:a < 4294967296):j4 n t a = some (lS w a):=by
  unfold j4 lS
  rw [ax (lO r.book h0 h1)]
  cases hg:bt w.B a with
  | false=>rfl
  | true =>
    obtain ⟨ρ,f⟩:=xe r tt
    have hv:=f.uX ((cr r.book a).2 ⟨h0,hg⟩)
    rw [av (b:=!true) rfl,if_pos rfl]
    unfold gF dy cF
    rw [ax rfl,ax (s9 hn r tt ⟨h0,hg⟩),ax (Ex _ [] (by simp; omega))]
    rfl
end
end Go.Proofs.YtmdpbdhkmfjlhaaGreat
namespace Go.Proofs.YtmdpbdhkmfjlhaaGreat
open Go Go.Bw
section
variable {n:Nat} {t:aq} {w:ah}
theorem tj (hn:40 ≤ n) (r:fE t w) {x:Int} (hx:bG w.B x):jX n w x = some (dx w x):=by
  unfold jX; rw [ax (tp hn r hx)]; rfl
theorem BX (hn:100 ≤ n) (r:fE t w) {a:Int} (h0:0 ≤ a):l8 n w a = some (v5 w a):=by
  unfold l8
  have hm:=cr r.book
  have hlen:=fz w.B 32
  rw [ax (vS (by omega) r)]
  refine eD (fun (s:List Int) (i:Int)=>∃k:Nat,i = k∧k ≤ (Gw w).length∧s = if bt w.B a = true then ((Gw w).take k).filter (fun y=>dx w y == a) else []) (fun _ i=>(Gw w).length - i.toNat) (fun o=>o = some (v5 w a)) ?_ n [] 0 ⟨0,rfl,by omega,by simp⟩ (by show (Gw w).length - (0:Int).toNat < n; have:(Gw w).length ≤ 32:=hlen; omega)
  rintro kk s i ⟨k,rfl,hk,rfl⟩ ih
  have hl:(Gw w).length ≤ 32:=hlen
  have hl' : (ct w.B 32).length = (Gw w).length:=rfl
  by_cases c:k < (Gw w).length
  · have hx:=(hm _).1 (g6 (l:=Gw w) (i:=k) c)
    have MY:∀q:Bool,(if q = true then ((Gw w).take k).filter (fun y=>dx w y == a) else []).length ≤ 32:=fun q=>by
      split
      · exact Nat.le_trans (List.length_filter_le _ _) (by rw [List.length_take]; omega)
      · simp
    rw [aC (decide_eq_true (by omega)),ax (cg (by omega) r h0),aF (by rw [cP (i:=(k:Int)) (n:=(ct w.B 32).length) (by omega) (by omega)]; simp),Int.toNat_natCast,dD (tj (by omega) r hx),cz (x:=(k:Int) + 1) (by omega) (by omega)]
    have ht:((Gw w).take (k + 1)).filter (fun y=>dx w y == a) = ((Gw w).take k).filter (fun y=>dx w y == a)++(if dx w ((Gw w).getD k default) = a then [(Gw w).getD k default] else []):=by
      rw [List.take_succ_eq_append_getElem c,List.filter_append,← fj c]
      generalize (Gw w).getD k default = y
      by_cases hy:dx w y = a <;> simp [hy]
    have hs:=MY (bt w.B a)
    cases hg:bt w.B a with
    | false =>
      rw [av (by rfl)]
      exact ih _ _ ⟨k + 1,by omega,by omega,by rw [hg,if_neg (by decide),if_neg (by decide)]⟩ (by omega)
    | true =>
      rw [hg] at hs
      by_cases hu:dx w ((Gw w).getD k default) = a
      · rw [aC (show (true && ((bif true == true then dx w ((Gw w).getD k default) else default) == a)) = true by rw [hu]; simp),aF (cP (by omega) (by omega)),aF (iY (by omega) (by omega)),lt_eq]
        exact ih _ _ ⟨k + 1,by omega,by omega,by rw [hg,if_pos rfl,if_pos rfl,ht,if_pos hu]⟩ (by omega)
      · rw [av (show (true && ((bif true == true then dx w ((Gw w).getD k default) else default) == a)) = false by simpa using hu)]
        exact ih _ _ ⟨k + 1,by omega,by omega,by rw [hg,if_pos rfl,if_pos rfl,ht,if_neg hu,List.append_nil]⟩ (by omega)
  · rw [av (decide_eq_false (by omega))]
    unfold v5 gX
    rw [List.take_of_length_le (by omega)]
theorem AA (r:fE t w) (tt:hM w):∀(m:Nat) {ρ:Int→Nat},Fo (Gw w) (dx w) ρ→∀a,a ∈ Gw w→132 - ρ a < m→fS m w a = some (V6 (Gw w) (dx w) a):=by
  have hm:=cr r.book
  intro m
  induction m with
  | zero=>intro ρ f a ha h; omega
  | succ m ih =>
    intro ρ f a ha DO
    have hr:=f.rk a ha
    have hg:=(hm a).1 ha
    unfold fS
    have hkn:v5 w a = gX (Gw w) (dx w) a:=by unfold v5; rw [if_pos hg.2]
    rw [ax (cg (by omega) r hg.1),hg.2,av (b:=!true) rfl,ax (BX (by omega) r hg.1),hkn]
    have hv:=f.vK ha
    have hvl:=f.uX ha
    have SA:(gX (Gw w) (dx w) a).length ≤ 32:=Nat.le_trans (List.length_filter_le _ _) f.len
    refine eD (fun (s:List Int) (i:Int)=>∃k:Nat,i = k∧k ≤ (gX (Gw w) (dx w) a).length∧s = a::((gX (Gw w) (dx w) a).take k).flatMap (V6 (Gw w) (dx w))) (fun _ i=>(gX (Gw w) (dx w) a).length - i.toNat) (fun o=>o = some (V6 (Gw w) (dx w) a)) ?_ m [a] 0 ⟨0,rfl,by omega,rfl⟩ (by omega)
    rintro kk s i ⟨k,rfl,hk,rfl⟩ N2
    by_cases c:k < (gX (Gw w) (dx w) a).length
    · have hx:=iS.1 (g6 (l:=gX (Gw w) (dx w) a) (i:=k) c)
      have T1:=f.GX ha hx.1 hx.2
      have:=f.rk _ hx.1
      have ht:((gX (Gw w) (dx w) a).take (k + 1)).flatMap (V6 (Gw w) (dx w)) = ((gX (Gw w) (dx w) a).take k).flatMap (V6 (Gw w) (dx w))++V6 (Gw w) (dx w) ((gX (Gw w) (dx w) a).getD k default):=by
        rw [List.take_succ_eq_append_getElem c,List.flatMap_append,← fj c]; simp
      have hle:(((gX (Gw w) (dx w) a).take (k + 1)).flatMap (V6 (Gw w) (dx w))).length + 1 ≤ 32:=by
        have e:=congrArg List.length hv
        rw [List.length_cons,← List.take_append_drop (k + 1) (gX (Gw w) (dx w) a),List.flatMap_append,List.length_append] at e
        omega
      rw [ht,List.length_append] at hle
      rw [aC (decide_eq_true (by omega)),aF (cP (by omega) (by omega)),Int.toNat_natCast,ax (ih f _ hx.1 (by omega)),aF (iY (by rw [List.length_cons]; omega) (by rw [List.length_cons]; omega)),lt_eq,cz (by omega) (by omega)]
      exact N2 _ _ ⟨k + 1,by omega,by omega,by rw [ht]; rfl⟩ (by omega)
    · rw [av (decide_eq_false (by omega)),List.take_of_length_le (by omega),hv]
theorem vR (hn:200 ≤ n) (r:fE t w) (tt:hM w) {a:Int} (h0:0 ≤ a):fS n w a = some (lS w a):=by
  unfold lS
  cases hg:bt w.B a with
  | false =>
    obtain ⟨m,rfl⟩ : ∃m,n = m + 1:=⟨n - 1,by omega⟩
    unfold fS; rw [ax (cg (by omega) r h0),hg]; rfl
  | true =>
    obtain ⟨ρ,f⟩:=xe r tt
    have ha:=(cr r.book a).2 ⟨h0,hg⟩
    rw [if_pos rfl]
    exact AA r tt n f a ha (by omega)
theorem Eb (r:fE t w) (tt:hM w):∀(m:Nat) {ρ:Int→Nat},Fo (Gw w) (dx w) ρ→∀a,a ∈ Gw w→ρ a + 100 < m→eT m w a = some (1 + ((U6 (dx w) a).length:Int)):=by
  have hm:=cr r.book
  intro m
  induction m with
  | zero=>intro ρ f a ha h; omega
  | succ m ih =>
    intro ρ f a ha DO
    have hg:=(hm a).1 ha
    have hl:=f.BD ha
    unfold eT
    rw [ax (cg (by omega) r hg.1),hg.2,av (b:=!true) rfl,ax (tj (by omega) r hg)]
    by_cases hu:dx w a = 0
    · have h0:eT m w 0 = some 0:=by
        obtain ⟨m,rfl⟩ : ∃k,m = k + 1:=⟨m - 1,by omega⟩
        unfold eT; rw [ax (cg (by omega) r (by omega)),vq]; rfl
      rw [hu,ax h0,f.u0 ha hu]; rfl
    · rw [ax (ih f _ (f.BA ha hu) (by have:=f.dn a ha hu; omega))]
      rw [f.u1 ha hu,List.length_cons] at hl ⊢
      rw [cz (by omega) (by omega)]; congr 1; omega
theorem va (hn:200 ≤ n) (r:fE t w) (tt:hM w) {a:Int} (h0:0 ≤ a):eT n w a = some (g7 w a):=by
  unfold g7
  cases hg:bt w.B a with
  | false =>
    obtain ⟨m,rfl⟩ : ∃m,n = m + 1:=⟨n - 1,by omega⟩
    unfold eT; rw [ax (cg (by omega) r h0),hg]; rfl
  | true =>
    obtain ⟨ρ,f⟩:=xe r tt
    have ha:=(cr r.book a).2 ⟨h0,hg⟩
    rw [if_pos rfl]
    exact Eb r tt n f a ha (by have:=f.rk a ha; omega)
theorem GD (r:fE t w) (tt:hM w):∀(m:Nat) {ρ:Int→Nat},Fo (Gw w) (dx w) ρ→∀a,a ∈ Gw w→ρ a + 100 < m→gN m w a = some (xb (dx w) a):=by
  have hm:=cr r.book
  intro m
  induction m with
  | zero=>intro ρ f a ha h; omega
  | succ m ih =>
    intro ρ f a ha DO
    have hg:=(hm a).1 ha
    have gg:=cg (n:=m) (by omega) r hg.1
    unfold gN
    rw [ax gg,hg.2,dD (tj (by omega) r hg),f.rt_eq ha]
    by_cases hu:dx w a = 0
    · rw [av (by rw [show (true == true) = true from rfl,cond_true,hu]; rfl),ax gg,hg.2,aC rfl,if_pos hu]
    · rw [aC (by rw [show (true == true) = true from rfl,cond_true]; simpa using hu),ax (tj (by omega) r hg),ax (ih f _ (f.BA ha hu) (by have:=f.dn a ha hu; omega)),if_neg hu]
theorem tn (hn:200 ≤ n) (r:fE t w) (tt:hM w) {a:Int} (h0:0 ≤ a):gN n w a = some (cS w a):=by
  unfold cS
  cases hg:bt w.B a with
  | false =>
    obtain ⟨m,rfl⟩ : ∃m,n = m + 1:=⟨n - 1,by omega⟩
    have gg:=cg (n:=m) (by omega) r h0
    rw [hg] at gg
    unfold gN; rw [ax gg,qV (by rfl),av (by rfl),ax gg]; rfl
  | true =>
    obtain ⟨ρ,f⟩:=xe r tt
    have ha:=(cr r.book a).2 ⟨h0,hg⟩
    rw [if_pos rfl]
    exact GD r tt n f a ha (by have:=f.rk a ha; omega)
theorem vT (hn:40 ≤ n) (r:fE t w) (tt:hM w) (a:Int) {b:Int} (hb:bG w.B b):cu n w a b = some ((U6 (dx w) b).contains a):=by
  obtain ⟨ρ,f⟩:=xe r tt
  have hm:=cr r.book
  unfold cu
  refine (rI (fun x=>if x = 0 then false else (U6 (dx w) x).contains a) (fun x=>x = 0∨bG w.B x) (fun x=>if x = 0 then 0 else ρ x + 1) (fun k x hx ih=>?_) n b (.inr hb) ?_).trans (by rw [if_neg (f.pos b ((hm b).2 hb))])
  · by_cases h0:x = 0
    · subst h0; rw [av (by rfl)]; rfl
    · have hg:=hx.resolve_left h0
      have hG:=(hm x).2 hg
      have OB:=eB x
      rw [aC (by simpa using h0),ax (dY hn r.book hg.1),hg.2,if_pos rfl,aF (ga x),if_neg h0]
      show cn (dx w x == a) (some (a != 0)) (k (dx w x)) = _
      by_cases hu:dx w x = 0
      · rw [hu,f.u0 hG hu]
        by_cases ha:a = 0
        · subst ha; rw [aC (by rfl)]; rfl
        · rw [av (by simpa using Ne.symm ha),ih 0 (.inl rfl) (by rw [if_pos rfl,if_neg h0]; omega)]; rfl
      · rw [f.u1 hG hu]
        by_cases ha:dx w x = a
        · rw [aC (by simpa using ha)]
          have:a ≠ 0:=ha ▸ hu
          rw [List.contains_cons,ha]; simp [this]
        · rw [av (by simpa using ha),ih _ (.inr ((hm _).1 (f.BA hG hu))) (by rw [if_neg hu,if_neg h0]; have:=f.dn x hG hu; omega),if_neg hu,List.contains_cons]
          congr 1
          have:(a == dx w x) = false:=by simpa using Ne.symm ha
          rw [this,Bool.false_or]
  · have hp:=f.pos b ((hm b).2 hb)
    rw [if_neg hp]; have:=f.rk b ((hm b).2 hb); omega
theorem D9 (hn:200 ≤ n) (r:fE t w) (tt:hM w) {a b:Int} (h0:0 ≤ a) (k0:0 ≤ b):iQ n w a b = some (uD w a b):=by
  unfold iQ uD
  rw [ax (cg (by omega) r h0),dD (cg (by omega) r k0)]
  cases hg:bt w.B a with
  | false=>rfl
  | true =>
    cases hk:bt w.B b with
    | false=>rfl
    | true =>
      by_cases e:a = b
      · subst e; rw [qV (by simp)]; simp
      · refine (jk (by simpa using e) (vT (by omega) r tt a ⟨k0,hk⟩)).trans ?_
        rfl
theorem Ev (d:Int→Option Int) (e:Option Int) (v:Int→Int) (c:Int) (hc:0 ≤ c∧c ≤ 1000) (he:e = some c) (l:List Int) (hd:∀x ∈ l,d x = some (v x)∧0 ≤ v x∧v x ≤ 1000) (x:Int) (h0:0 ≤ x∧x ≤ 5000) :
    gn (fun (EM:Int) Es (fa:Int) =>
  lt (EM:Int) fun cT =>
  bd (d cT) fun gq =>
  bd e fun eR =>
  lt ((if fa < wr .i64 ((wr .i64 (gq - eR)) + 1) then wr .i64 ((wr .i64 (gq - eR)) + 1) else fa):Int) fun ez =>
  Es ez) (fun (fa:Int) =>
  some fa) l x = some (l.foldl (fun m y=>max m (v y - c + 1)) x):=by
  subst he
  induction l generalizing x with
  | nil=>rfl
  | cons a l ih =>
    obtain ⟨a1,a2,a3⟩:=hd a (by simp)
    have e1:wr .i64 (v a - c) = v a - c:=cz (by omega) (by omega)
    have e2:wr .i64 (v a - c + 1) = v a - c + 1:=cz (by omega) (by omega)
    have key:=ih (fun y hy=>hd y (by simp [hy])) (max x (v a - c + 1)) (by omega)
    rw [List.foldl_cons,← key]
    show bd (d a) _ = _
    rw [ax a1,ax rfl,e1,e2]
    show gn _ _ l _ = _
    congr 1
    simp only [Int.max_def]
    split <;> split <;> omega
theorem CY (v:Int→Int) (c:Int) (l:List Int) (x k:Int):k < l.foldl (fun m y=>max m (v y - c + 1)) x↔k < x∨∃y ∈ l,k < v y - c + 1:=by
  induction l generalizing x with
  | nil=>simp
  | cons a l ih =>
    rw [List.foldl_cons,ih]
    constructor
    · rintro (h | ⟨y,hy,h⟩)
      · rcases Int.lt_or_le k x with h1 | h1
        · exact .inl h1
        · exact .inr ⟨a,by simp,by omega⟩
      · exact .inr ⟨y,by simp [hy],h⟩
    · rintro (h | ⟨y,hy,h⟩)
      · exact .inl (by omega)
      · rcases List.mem_cons.1 hy with e | hy
        · subst e; exact .inl (by omega)
        · exact .inr ⟨y,hy,h⟩
end
end Go.Proofs.YtmdpbdhkmfjlhaaGreat
namespace Go.Proofs.YtmdpbdhkmfjlhaaGreat
open Go Go.Bw
def qC (w:ah):Prop:=∀g,bG w.B g→(0 ≤ (w.R (cw g)).bP∧(w.R (cw g)).bP ≤ 64)∧∀n,110 ≤ n→dK n (w.R (cw g)).E = some true
def Eh:cy:={ Up:=0,bP:=0,E:=dw,Cells:=(fun _=>0) }
def zl (w:ah) (h:Int):ah:=if bt w.B h = true then ⟨As w.B h,fun j=>if j < 32∧(eG w.R (cw h) Eh j).Up = h then { eG w.R (cw h) Eh j with Up:=0 } else eG w.R (cw h) Eh j⟩ else w
theorem AB {n:Nat} (hn:40 ≤ n) (h:Int) (w:ah):c9 (fun DM (gk:Int) (jK:ah) =>
  cn (decide (gk < 32)) (
  gu (dO gk 32) <|
  cn ((((jK.R (Int.toNat gk)).Up) == h)) (
  gu (dO gk 32) <|
  lt ({ jK with R:=(eG jK.R (Int.toNat gk) ({ (jK.R (Int.toNat gk)) with Up:=0 })) }:ah) fun lA =>
  DM (wr .i64 (gk + 1)) lA) (
  DM (wr .i64 (gk + 1)) jK)) (
  some (jK,(0:Int)))) n 0 w = some (({ B:=w.B,R:=fun j=>if j < 32∧(w.R j).Up = h then { w.R j with Up:=0 } else w.R j }:ah),0):=by
  refine eD (fun (i:Int) (v:ah)=>0 ≤ i∧i ≤ 32∧v.B = w.B∧∀j,v.R j = if j < i.toNat∧(w.R j).Up = h then { w.R j with Up:=0 } else w.R j) (fun i _=>(32 - i).toNat)
    (fun o=>o = some (({ B:=w.B,R:=fun j=>if j < 32∧(w.R j).Up = h then { w.R j with Up:=0 } else w.R j }:ah),0)) ?_ n 0 w ⟨by omega,by omega,rfl,fun j=>by simp⟩ (by omega)
  rintro kk i v ⟨i0,i1,hb,hv⟩ ih
  by_cases c:i < 32
  · have hi:=hv i.toNat
    rw [if_neg (fun hh=>absurd hh.1 (Nat.lt_irrefl _))] at hi
    rw [aC (by simpa using c),aF (cP i0 (by omega)),hi,cz (x:=i + 1) (by omega) (by omega)]
    have e1:(i + 1).toNat = i.toNat + 1:=by omega
    have step:∀j,j ≠ i.toNat→(if j < i.toNat∧(w.R j).Up = h then { w.R j with Up:=0 } else w.R j) = (if j < (i + 1).toNat∧(w.R j).Up = h then { w.R j with Up:=0 } else w.R j):=fun j hj=>by
      by_cases hu:(w.R j).Up = h
      · by_cases hl:j < i.toNat
        · rw [if_pos ⟨hl,hu⟩,if_pos ⟨by omega,hu⟩]
        · rw [if_neg (fun hh=>hl hh.1),if_neg (fun hh=>by omega)]
      · rw [if_neg (fun hh=>hu hh.2),if_neg (fun hh=>hu hh.2)]
    by_cases hu:(w.R i.toNat).Up = h
    · rw [aC (by simpa using hu),aF (cP i0 (by omega)),lt_eq]
      refine ih _ _ ⟨by omega,by omega,hb,fun j=>?_⟩ (by omega)
      show eG v.R i.toNat _ j = _
      rw [cE]
      by_cases ej:j = i.toNat
      · subst ej; rw [if_pos rfl,if_pos ⟨by omega,hu⟩]
      · rw [if_neg ej,hv j,step j ej]
    · rw [av (by simpa using hu)]
      refine ih _ _ ⟨by omega,by omega,hb,fun j=>?_⟩ (by omega)
      rw [hv j]
      by_cases ej:j = i.toNat
      · subst ej; rw [if_neg (fun hh=>hu hh.2),if_neg (fun hh=>hu hh.2)]
      · exact step j ej
  · rw [av (by simpa using c)]
    have e:v = ({ B:=w.B,R:=fun j=>if j < 32∧(w.R j).Up = h then { w.R j with Up:=0 } else w.R j }:ah):=by
      obtain ⟨vb,vr⟩:=v
      congr 1
      funext j
      rw [show vr j = _ from hv j,show i.toNat = 32 by omega]
    rw [e]
section
variable {n:Nat} {t:aq} {w:ah}
theorem xA (hn:40 ≤ n) (r:fE t w) {h:Int} (h0:0 ≤ h):ec n w h = some (zl w h,if bt w.B h = true then 0 else 4):=by
  unfold ec zl
  have hr:=eB h
  rw [ax (dY hn r.book h0)]
  cases hg:bt w.B h with
  | false=>rfl
  | true =>
    rw [if_pos rfl,av (by simp; omega),ax (xy hn r.book h0),lt_eq,lt_eq,aF (ga h),lt_eq,if_pos rfl,if_pos rfl]
    exact AB (n:=n) hn h ⟨As w.B h,eG w.R (cw h) Eh⟩
theorem FP (hn:40 ≤ n) (r:fE t w) (tt:hM w) {h:Int} (h0:0 ≤ h) (h1:h < 4294967296) :
    ∃t',eC n t h = some (t',if bt w.B h = true then 0 else 4)∧fE t' (zl w h)∧hM (zl w h):=by
  obtain ⟨t',w',e,e1,e2,k⟩:=LW hn r tt h0 h1
  obtain ⟨rfl,rfl⟩:=Prod.mk.inj (Option.some.inj (e2.symm.trans (xA hn r h0)))
  exact ⟨t',e1,k.rt,k.tt⟩
theorem tU (r:fE t w) {h:Int} (h0:0 ≤ h) (x:Int):bG (zl w h).B x↔bG w.B x∧x ≠ h:=by
  unfold zl
  cases hg:bt w.B h with
  | false =>
    rw [if_neg (by decide)]
    exact ⟨fun hx=>⟨hx,fun e=>by subst e; have:=hx.2; rw [hg] at this; cases this⟩,fun hx=>hx.1⟩
  | true=>rw [if_pos rfl]; exact vJ r.book h0 x
theorem Ac (r:fE t w) {h:Int} (h0:0 ≤ h) {x:Int} (hx:bG (zl w h).B x):(zl w h).R (cw x) = if dx w x = h then { w.R (cw x) with Up:=0 } else w.R (cw x):=by
  obtain ⟨x1,x2⟩:=(tU r h0 x).1 hx
  unfold zl
  cases hg:bt w.B h with
  | false =>
    rw [if_neg (by decide)]
    split
    · rename_i hu
      have:h = 0∨bG w.B h:=by rw [← hu]; exact r.I2 x1
      rcases this with e | e
      · have:(w.R (cw x)).Up = 0:=hu.trans e
        rw [← this]
      · have:=e.2; rw [hg] at this; cases this
    · rfl
  | true =>
    rw [if_pos rfl]
    have hne:cw x ≠ cw h:=fun e=>x2 (by rw [← fP x1,← fP ⟨h0,hg⟩,e])
    dsimp only
    rw [jT _ _ hne]
    by_cases hu:dx w x = h
    · rw [if_pos hu,if_pos ⟨kF x,hu⟩]
    · rw [if_neg hu,if_neg (fun hh=>hu hh.2)]
theorem Ic (r:fE t w) {h:Int} (h0:0 ≤ h) {x:Int} (hx:bG (zl w h).B x):dx (zl w h) x = if dx w x = h then 0 else dx w x:=by
  unfold dx
  rw [Ac r h0 hx]
  show (if (w.R (cw x)).Up = h then _ else _:cy).Up = _
  split <;> rfl
theorem qC.drop (i:qC w) (r:fE t w) {h:Int} (h0:0 ≤ h):qC (zl w h):=fun g hg=>by
  have:=i g ((tU r h0 g).1 hg).1
  rw [Ac r h0 hg]
  split
  · exact this
  · exact this
def s8 (w:ah) (h a:Int):ah:={ w with R:=eG w.R (cw h) { w.R (cw h) with Up:=a } }
theorem u7 (hn:40 ≤ n) (r:fE t w) (tt:hM w) {h a:Int} (hh:bG w.B h) (ha:a = 0∨bG w.B a) (hno:¬ (a ≠ 0∧(a = h∨h ∈ U6 (dx w) a))):eH n w h a = some (s8 w h a,0):=by
  unfold eH s8
  have a0:0 ≤ a:=by rcases ha with e | e; omega; exact e.1
  have ok:B6 w.B a = true:=by
    unfold B6
    rcases ha with e | e
    · rw [e]; rfl
    · rw [e.2,Bool.or_true]
  have e0:∀v:Bool,(((!true) == false) && v) = v:=fun v=>by cases v <;> rfl
  rw [ax (cg hn r hh.1),dD (cg hn r a0),hh.2,e0,kT,ok,av (by rfl)]
  have key:∀F:Bool→Option (ah × Int),(cl (((a != 0) == true) && ((a == h) == false)) (cu n w h a) default fun dB=>F ((a != 0) && ((a == h) || dB))) = F false:=fun F=>by
    by_cases e:a = 0
    · subst e; rfl
    · have hg:=ha.resolve_left e
      have h1:a ≠ h:=fun q=>hno ⟨e, .inl q⟩
      have h2:(U6 (dx w) a).contains h = false:=by
        rw [← Bool.not_eq_true,List.contains_iff_mem]; exact fun q=>hno ⟨e, .inr q⟩
      have e1:(a == h) = false:=by simpa using h1
      rw [jk (by simp [e,h1]) (vT hn r tt h hg),h2,e1]; simp
  rw [key (fun v=>cn v (some (w,12)) (bd (bY n w.B h) fun cI =>
  gu (dO cI 32) <|
  lt ({ w with R:=(eG w.R (Int.toNat cI) ({ (w.R (Int.toNat cI)) with Up:=a })) }:ah) fun dV =>
  some (dV,0))),av rfl,ax (dY hn r.book hh.1),hh.2,if_pos rfl,aF (ga h)]
  rfl
theorem B1 (hn:40 ≤ n) (r:fE t w) (tt:hM w) {h a:Int} (hh:bG w.B h) (ha:a = 0∨bG w.B a) (hno:¬ (a ≠ 0∧(a = h∨h ∈ U6 (dx w) a))) :
    ∃t',ei n t h a = some (t',0)∧fE t' (s8 w h a)∧hM (s8 w h a):=by
  have a0:0 ≤ a∧a < 4294967296:=by rcases ha with e | e; omega; exact ⟨e.1,fQ e.2⟩
  obtain ⟨t',w',e,e1,e2,k⟩:=GF hn r tt hh.1 (fQ hh.2) a0.1 a0.2
  obtain ⟨rfl,rfl⟩:=Prod.mk.inj (Option.some.inj (e2.symm.trans (u7 hn r tt hh ha hno)))
  exact ⟨t',e1,k.rt,k.tt⟩
theorem Gn {h a x:Int} (hh:bG w.B h) (hx:bG w.B x):dx (s8 w h a) x = if x = h then a else dx w x:=by
  unfold dx s8
  dsimp only
  rw [cE]
  by_cases e:x = h
  · rw [if_pos e,if_pos (by rw [e])]
  · rw [if_neg e,if_neg (fun q=>e (by rw [← fP hx,← fP hh,q]))]
theorem qC.up (i:qC w) (h a:Int):qC (s8 w h a):=fun g hg=>by
  have:=i g hg
  unfold s8
  dsimp only
  rw [cE]
  split
  · rename_i e; rw [e] at this; exact this
  · exact this
def BK (w:ah) (h:Int) (x:cy):ah:={ w with R:=eG w.R (cw h) { x with Up:=(w.R (cw h)).Up } }
theorem zV (hn:40 ≤ n) (r:fE t w) {h:Int} (hh:bG w.B h) {x:cy} (hq:0 ≤ x.bP∧x.bP ≤ 64) (hm:dK n x.E = some true):eU n w h x = some (BK w h x,0):=by
  unfold eU BK
  have OB:=eB h
  rw [ax (dY (by omega) r.book hh.1),hh.2,if_pos rfl,av (by simp; omega),dD hm]
  have e2:(decide (x.bP < 0) || decide (64 < x.bP)) = false:=by rw [Bool.or_eq_false_iff,decide_eq_false_iff_not,decide_eq_false_iff_not]; omega
  rw [e2,av (by rfl),aF (ga h),lt_eq,aF (ga h),lt_eq]
  rfl
theorem JE (hn:110 ≤ n) (r:fE t w) (tt:hM w) {h:Int} (hh:bG w.B h) {p:bT} {x:cy} (hx:wW p x) (hq:0 ≤ x.bP∧x.bP ≤ 64) (hm:dK n x.E = some true) :
    ∃t',eA n t h p = some (t',0)∧fE t' (BK w h x)∧hM (BK w h x):=by
  obtain ⟨t',w',e,e1,e2,k⟩:=Nv hn r tt hh.1 (fQ hh.2) hx
  obtain ⟨rfl,rfl⟩:=Prod.mk.inj (Option.some.inj (e2.symm.trans (zV (by omega) r hh hq hm)))
  exact ⟨t',e1,k.rt,k.tt⟩
theorem qC.set (i:qC w) {h:Int} (hh:bG w.B h) {x:cy} (hq:x.bP = (w.R (cw h)).bP) (he:x.E = (w.R (cw h)).E):qC (BK w h x):=fun g hg=>by
  have h1:=i g hg
  have h2:=i h hh
  unfold BK
  dsimp only
  rw [cE]
  split
  · dsimp only; rw [hq,he]; exact h2
  · exact h1
theorem Ea (hn:40 ≤ n) (r:fE t w) {a q:Int} (ha:a = 0∨bG w.B a) (hq:0 ≤ q∧q ≤ 64) {f:Nat} (hf:rz w.B f) :
    dG n w a q = some (if f < 32 then (⟨jD w.B f,eG w.R f ⟨a,q,dw,fun _=>0⟩⟩,iT f (w.B.js f),0) else (w,0,7)):=by
  have a0:0 ≤ a:=by rcases ha with e | e; omega; exact e.1
  have ok:B6 w.B a = true:=by
    unfold B6
    rcases ha with e | e
    · rw [e]; rfl
    · rw [e.2,Bool.or_true]
  unfold dG
  rw [dD (cg hn r a0),kT,ok,av (b:=!true) rfl,av (by simp; omega),ax (sd hn r.book hf)]
  by_cases hl:f < 32
  · rw [if_pos hl,if_pos hl]
    have hr:=r.book.jO f hl
    obtain ⟨q1,q2,q3,q4,q5⟩:=nS (i:=f) (g:=w.B.js f) (by omega) (by omega) hr.1 hr.2
    obtain ⟨b',i1,i2⟩:=xK (n:=n) hn r.book hf
    rw [if_pos hl] at i2
    have hnew:bG (jD w.B f) (iT f (w.B.js f)):=(jF r.book hf hl _).2 (.inr rfl)
    have hfn:(jf (iT f (w.B.js f))).toNat = f:=by rw [q2]; omega
    rw [av (by simp; omega),lt_eq]
    dsimp only
    rw [ax (dY hn i2 (by omega)),hnew.2,if_pos rfl]
    show gu (dO (jf (iT f (w.B.js f))) 32) _ = _
    rw [aF (ga _),hfn]; rfl
  · rw [if_neg hl,if_neg hl]; rfl
end
end Go.Proofs.YtmdpbdhkmfjlhaaGreat
namespace Go.Proofs.YtmdpbdhkmfjlhaaGreat
open Go Go.Bw
abbrev fB (w:ah) (l:List Int):ah:=l.foldl zl w
section
variable {n:Nat} {t:aq} {w:ah}
theorem zk (l:List Int):∀{t:aq} {w:ah},fE t w→hM w→qC w→(∀x ∈ l,0 ≤ x∧x < 4294967296)→(∃t',fE t' (fB w l))∧hM (fB w l)∧qC (fB w l)∧(∀y,bG (fB w l).B y↔bG w.B y∧y ∉ l)∧(∀y,bG (fB w l).B y→dx (fB w l) y = if dx w y ∈ l then 0 else dx w y):=by
  induction l with
  | nil=>intro t w r tt i _; exact ⟨⟨t,r⟩,tt,i,fun y=>by simp,fun y _=>by simp⟩
  | cons x l ih =>
    intro t w r tt i hl
    have hx:=hl x (by simp)
    obtain ⟨t1,_,r1,MT⟩:=FP (n:=40) (by omega) r tt hx.1 hx.2
    obtain ⟨a1,a2,a3,a4,a5⟩:=ih r1 MT (i.drop r hx.1) fun y hy=>hl y (by simp [hy])
    refine ⟨a1,a2,a3,fun y=>?_,fun y hy=>?_⟩
    · refine (a4 y).trans ?_
      rw [tU r hx.1,List.mem_cons,not_or,and_assoc]
    · refine (a5 y hy).trans ?_
      rw [Ic r hx.1 ((a4 y).1 hy).1]
      by_cases e:dx w y = x
      · rw [if_pos e,if_pos (List.mem_cons.2 (.inl e))]; split <;> rfl
      · rw [if_neg e]
        by_cases e2:dx w y ∈ l
        · rw [if_pos e2,if_pos (List.mem_cons_of_mem _ e2)]
        · rw [if_neg e2,if_neg (fun h=>(List.mem_cons.1 h).elim e e2)]
theorem Ib (hn:100 ≤ n) (r:fE t w) (tt:hM w) {l:List Int} (hl:∀x ∈ l,0 ≤ x∧x < 4294967296) (hlen:l.length ≤ 40):∃t',c9 (fun Ka (dX:Int) (jL:aq) =>
  cn (decide (dX < (l.length:Int))) (
  gu (dO dX l.length) <|
  bd (eC n jL (l.getD (Int.toNat dX) default)) fun By =>
  Ka (wr .i64 (dX + 1)) By.1) (
  some (jL,l,(0:Int)))) n 0 t = some (t',l,0)∧fE t' (fB w l)∧hM (fB w l):=by
  refine eD (fun (i:Int) (t:aq)=>∃k:Nat,i = k∧k ≤ l.length∧fE t (fB w (l.take k))∧hM (fB w (l.take k))) (fun i _=>l.length - i.toNat) (fun o=>∃t',o = some (t',l,0)∧fE t' (fB w l)∧hM (fB w l)) ?_ n 0 t ⟨0,rfl,by omega,r,tt⟩ (by omega)
  rintro kk i t ⟨k,rfl,hk,r,tt⟩ ih
  by_cases c:k < l.length
  · have hx:=hl _ (g6 (l:=l) (i:=k) c)
    obtain ⟨t1,e1,r1,MT⟩:=FP (n:=n) (by omega) r tt hx.1 hx.2
    have et:zl (fB w (l.take k)) (l.getD k default) = fB w (l.take (k + 1)):=by
      rw [List.take_succ_eq_append_getElem c,← fj c,fB,fB,List.foldl_append]; rfl
    rw [et] at r1 MT
    rw [aC (decide_eq_true (by omega)),aF (cP (by omega) (by omega)),Int.toNat_natCast,ax e1,cz (by omega) (by omega)]
    exact ih _ _ ⟨k + 1,by omega,by omega,r1,MT⟩ (by omega)
  · rw [av (decide_eq_false (by omega))]
    rw [List.take_of_length_le (by omega)] at r tt
    exact ⟨t,rfl,r,tt⟩
theorem Ia (hn:100 ≤ n) (r:fE t w) (tt:hM w) (i:qC w) {l:List Int} (hl:∀x ∈ l,0 ≤ x∧x < 4294967296) (hlen:l.length ≤ 40) {ρ:Type} (F:ah→Option ρ):c9 (fun Cm (cT:Int) (ia:ah) =>
  cn (decide (cT < (l.length:Int))) (
  gu (dO cT l.length) <|
  bd (ec n ia (l.getD (Int.toNat cT) default)) fun jL =>
  Cm (wr .i64 (cT + 1)) jL.1) (
  F ia)) n 0 w = F (fB w l):=by
  refine eD (fun (i:Int) (v:ah)=>∃k:Nat,i = k∧k ≤ l.length∧v = fB w (l.take k)) (fun i _=>l.length - i.toNat) (fun o=>o = F (fB w l)) ?_ n 0 w ⟨0,rfl,by omega,rfl⟩ (by omega)
  rintro kk x v ⟨k,rfl,hk,rfl⟩ ih
  by_cases c:k < l.length
  · have hx:=hl _ (g6 (l:=l) (i:=k) c)
    obtain ⟨⟨t1,r1⟩,_⟩:=zk (l.take k) r tt i fun y hy=>hl y (List.mem_of_mem_take hy)
    rw [aC (decide_eq_true (by omega)),aF (cP (by omega) (by omega)),Int.toNat_natCast,ax (xA (by omega) r1 hx.1),cz (by omega) (by omega)]
    exact ih _ _ ⟨k + 1,by omega,by omega,by rw [List.take_succ_eq_append_getElem c,← fj c,fB,fB,List.foldl_append]; rfl⟩ (by omega)
  · rw [av (decide_eq_false (by omega)),List.take_of_length_le (by omega)]
theorem vM (r:fE t w) (tt:hM w) (a:Int):(∀x ∈ lS w a,bG w.B x)∧(lS w a).length ≤ 32:=by
  unfold lS
  cases hg:bt w.B a with
  | false=>exact ⟨fun x hx=>(by rw [if_neg (by decide)] at hx; cases hx),by simp⟩
  | true =>
    rw [if_pos rfl]
    by_cases h0:0 ≤ a
    · obtain ⟨ρ,f⟩:=xe r tt
      have ha:=(cr r.book a).2 ⟨h0,hg⟩
      exact ⟨fun x hx=>(cr r.book x).1 ((f.pM ha x).1 hx).1,f.uX ha⟩
    · exact absurd hg (by
        intro h
        have h3:=(g5.1 h).2.2
        have h4:=r.book.jO (cw a) (kF a)
        unfold cw at h4
        omega)
theorem xm (r:fE t w) (tt:hM w) (a:Int):∀x ∈ lS w a,0 ≤ x∧x < 4294967296:=fun x hx=>by
  have:=(vM r tt a).1 x hx; exact ⟨this.1,fQ this.2⟩
theorem D3 (r:fE t w) (tt:hM w) {a:Int} (h0:0 ≤ a):(lS w a).length = 0↔bt w.B a = false:=by
  unfold lS
  cases hg:bt w.B a with
  | false=>simp
  | true =>
    obtain ⟨ρ,f⟩:=xe r tt
    rw [if_pos rfl,f.vK ((cr r.book a).2 ⟨h0,hg⟩)]; simp
theorem LK (hn:200 ≤ n) (r:fE t w) (tt:hM w) (i:qC w) {a:Int} (h0:0 ≤ a) (h1:a < 4294967296) :
    ∃t',k8 n t a = some (t',lS w a,if bt w.B a = true then 0 else 4)∧l9 n w a = some (fB w (lS w a),lS w a,if bt w.B a = true then 0 else 4)∧fE t' (fB w (lS w a))∧hM (fB w (lS w a)):=by
  have hr:=xm r tt a
  have hl:=(vM r tt a).2
  have hz:=D3 r tt h0
  unfold k8 l9
  rw [ax (Gs (by omega) r tt h0 h1),ax (vR (by omega) r tt h0)]
  have hR:=Ia (n:=n) (by omega) r tt i hr (by omega) fun v=>cn (((lS w a).length:Int) == 0) (some (v,([]:List Int),(4:Int))) (some (v,lS w a,0))
  cases hg:bt w.B a with
  | false =>
    have e:=List.length_eq_zero_iff.1 (hz.2 hg)
    rw [e] at hR ⊢
    exact ⟨t,by rw [aC (by rfl)]; rfl,hR,r,tt⟩
  | true =>
    have e:(((lS w a).length:Int) == 0) = false:=by
      have:(lS w a).length ≠ 0:=fun q=>by have:=hz.1 q; rw [hg] at this; cases this
      simpa using this
    obtain ⟨t',e1,e2,e3⟩:=Ib (n:=n) (by omega) r tt hr (by omega)
    rw [av e]
    refine ⟨t',e1,?_,e2,e3⟩
    rw [hR,av e]; rfl
def EO (L:List Int) (c0 c:Nat→Int):Nat→Int:=fun i=>if i < 8∧L.contains (c0 i) = true then 0 else c i
theorem L1 {α ρ:Type} (get:α→Nat→Int) (put:α→Nat→α) (p:α) (c:Nat→Int) (d:Int→Option Bool) (L:List Int) (hd:∀i,i < 8→d (c i) = some (L.contains (c i))) (fin:(Nat→Int)→α) (h0:fin (get p) = p)
    (hput:∀g i,put (fin g) i = fin (eG g i 0)) (F:α→Option ρ) {m:Nat} (hm:10 ≤ m):c9 (fun Fx (lY:Int) (pZ:α) =>
  cn (decide (lY < 8)) (
  gu (dO lY 8) <|
  bd (d (c (Int.toNat lY))) fun Bx =>
  cn (Bx) (
  gu (dO lY 8) <|
  lt (put pZ (Int.toNat lY)) fun sA =>
  Fx (wr .i64 (lY + 1)) sA) (
  Fx (wr .i64 (lY + 1)) pZ)) (
  F pZ)) m 0 p = F (fin (EO L c (get p))):=by
  refine eD (fun (i:Int) (v:α)=>∃k:Nat,i = k∧k ≤ 8∧v = fin (fun j=>if j < k∧L.contains (c j) = true then 0 else get p j)) (fun i _=>8 - i.toNat) (fun o=>o = F (fin (EO L c (get p)))) ?_ m 0 p ⟨0,rfl,by omega,by simp [h0]⟩ (by omega)
  rintro kk x v ⟨k,rfl,hk,rfl⟩ ih
  by_cases q:k < 8
  · rw [aC (decide_eq_true (by omega)),aF (cP (by omega) (by omega)),Int.toNat_natCast,ax (hd k q),cz (by omega) (by omega)]
    have st:∀j,j ≠ k→(if j < k + 1∧L.contains (c j) = true then (0:Int) else get p j) = if j < k∧L.contains (c j) = true then 0 else get p j:=fun j hj=>by
      by_cases h1:L.contains (c j) = true
      · by_cases h2:j < k
        · rw [if_pos ⟨by omega,h1⟩,if_pos ⟨h2,h1⟩]
        · rw [if_neg (fun h=>by omega),if_neg (fun h=>h2 h.1)]
      · rw [if_neg (fun h=>h1 h.2),if_neg (fun h=>h1 h.2)]
    cases hc:L.contains (c k) with
    | true =>
      rw [aC rfl,aF (cP (by omega) (by omega)),lt_eq,hput]
      refine ih _ _ ⟨k + 1,by omega,by omega,?_⟩ (by omega)
      congr 1; funext j
      rw [cE]
      by_cases e:j = k
      · subst e; rw [if_pos rfl,if_pos ⟨by omega,hc⟩]
      · rw [if_neg e,st j e]
    | false =>
      rw [av rfl]
      refine ih _ _ ⟨k + 1,by omega,by omega,?_⟩ (by omega)
      congr 1; funext j
      by_cases e:j = k
      · subst e; rw [if_neg (fun h=>by rw [hc] at h; exact absurd h.2 (by decide)),if_neg (fun h=>by rw [hc] at h; exact absurd h.2 (by decide))]
      · rw [st j e]
  · rw [av (decide_eq_false (by omega))]
    obtain rfl:k = 8:=by omega
    rfl
def DP (w0:ah) (L:List Int) (v:ah) (x:Int):ah:={ v with R:=eG v.R (cw x) { v.R (cw x) with Cells:=EO L (w0.R (cw x)).Cells (v.R (cw x)).Cells } }
abbrev qT (w:ah) (L l:List Int):ah:=l.foldl (DP w L) w
theorem vt (w0:ah) (L l:List Int):∀v:ah,(l.foldl (DP w0 L) v).B = v.B:=by
  induction l with
  | nil=>intro v; rfl
  | cons x l ih=>intro v; exact ih _
theorem Aa {B:aJ} {x y:Int} (hx:bG B x) (hy:bG B y) (e:cw x = cw y):x = y:=by rw [← fP hx,← fP hy,e]
end
end Go.Proofs.YtmdpbdhkmfjlhaaGreat
namespace Go.Proofs.YtmdpbdhkmfjlhaaGreat
open Go Go.Bw
section
variable {n:Nat} {t:aq} {w:ah}
theorem Ee (r:fE t w) (tt:hM w) {h:Int} (hh:bG w.B h) {c:Int} (c0:0 ≤ c):((c != h) && uD w c h) = (U6 (dx w) h).contains c:=by
  obtain ⟨ρ,f⟩:=xe r tt
  have hG:=(cr r.book h).2 hh
  unfold uD
  by_cases e:c = h
  · subst e
    have:(U6 (dx w) c).contains c = false:=by rw [← Bool.not_eq_true,List.contains_iff_mem]; exact f.Fs hG
    rw [this]; simp
  · have e1:(c != h) = true:=by simpa using e
    have e2:(c == h) = false:=by simpa using e
    rw [e1,e2,hh.2]
    cases hc:(U6 (dx w) h).contains c with
    | false=>simp
    | true =>
      have:=(cr r.book c).1 (f.r8 hG c (List.contains_iff_mem.1 hc)).1
      rw [this.2]; rfl
theorem Ig (hn:100 ≤ n) (r:fE t w) (tt:hM w) {h:Int} (hh:bG w.B h) (s:Int) (hs:0 ≤ s∧s < 32) (v:ah) {ρ:Type} (F:ah→Option ρ) :
    c9 (fun Fy (kX:Int) (lK:ah) =>
  cn (decide (kX < 8)) (
  gu (dO s 32) <|
  gu (dO kX 8) <|
  cl ((((w.R (Int.toNat s)).Cells (Int.toNat kX)) != 0) == true) (cu n w ((w.R (Int.toNat s)).Cells (Int.toNat kX)) h) default fun Fj =>
  cn (((((w.R (Int.toNat s)).Cells (Int.toNat kX)) != 0) && Fj)) (
  gu (dO s 32) <|
  gu (dO kX 8) <|
  lt ({ lK with R:=(eG lK.R (Int.toNat s) ({ (lK.R (Int.toNat s)) with Cells:=(eG ((lK.R (Int.toNat s)).Cells) (Int.toNat kX) 0) })) }:ah) fun Fi =>
  Fy (wr .i64 (kX + 1)) Fi) (
  Fy (wr .i64 (kX + 1)) lK)) (
  F lK)) n 0 v = F { v with R:=eG v.R s.toNat { v.R s.toNat with Cells:=EO (U6 (dx w) h) (w.R s.toNat).Cells (v.R s.toNat).Cells } }:=by
  obtain ⟨ρ',f⟩:=xe r tt
  have hG:=(cr r.book h).2 hh
  have KP:dO s 32 = true:=cP hs.1 (by omega)
  have key:∀(c:Int) (G:Bool→Option ρ),(cl ((c != 0) == true) (cu n w c h) default fun Fj=>G ((c != 0) && Fj)) = G ((U6 (dx w) h).contains c):=fun c G=>by
    by_cases e:c = 0
    · subst e
      have:(U6 (dx w) h).contains 0 = false:=by
        rw [← Bool.not_eq_true,List.contains_iff_mem]; exact fun q=>f.pos 0 (f.r8 hG 0 q).1 rfl
      rw [this]; rfl
    · have e1:(c != 0) = true:=by simpa using e
      rw [jk (by rw [e1]; rfl) (vT (by omega) r tt c hh),e1,Bool.true_and]
  refine eD (fun (i:Int) (x:ah)=>∃k:Nat,i = k∧k ≤ 8∧x = { v with R:=eG v.R s.toNat { v.R s.toNat with Cells:=fun j=>if j < k∧(U6 (dx w) h).contains ((w.R s.toNat).Cells j) = true then 0 else (v.R s.toNat).Cells j } }) (fun i _=>8 - i.toNat)
    (fun o=>o = F { v with R:=eG v.R s.toNat { v.R s.toNat with Cells:=EO (U6 (dx w) h) (w.R s.toNat).Cells (v.R s.toNat).Cells } }) ?_ n 0 v ⟨0,rfl,by omega,?_⟩ (by omega)
  · rintro kk x y ⟨k,rfl,hk,rfl⟩ ih
    by_cases q:k < 8
    · have Bp:dO (k:Int) 8 = true:=cP (by omega) (by omega)
      have st:∀j,j ≠ k→(if j < k + 1∧(U6 (dx w) h).contains ((w.R s.toNat).Cells j) = true then (0:Int) else (v.R s.toNat).Cells j) = if j < k∧(U6 (dx w) h).contains ((w.R s.toNat).Cells j) = true then 0 else (v.R s.toNat).Cells j:=fun j hj=>by
        by_cases h1:(U6 (dx w) h).contains ((w.R s.toNat).Cells j) = true
        · by_cases h2:j < k
          · rw [if_pos ⟨by omega,h1⟩,if_pos ⟨h2,h1⟩]
          · rw [if_neg (fun h=>by omega),if_neg (fun h=>h2 h.1)]
        · rw [if_neg (fun h=>h1 h.2),if_neg (fun h=>h1 h.2)]
      rw [aC (decide_eq_true (by omega)),aF KP,aF Bp,Int.toNat_natCast,cz (x:=(k:Int) + 1) (by omega) (by omega)]
      refine (key _ (fun b=>cn b _ _)).trans ?_
      cases hc:(U6 (dx w) h).contains ((w.R s.toNat).Cells k) with
      | true =>
        rw [aC rfl,aF KP,aF Bp,lt_eq]
        refine ih _ _ ⟨k + 1,by omega,by omega,?_⟩ (by omega)
        dsimp only
        rw [vL,p5]
        congr 2
        congr 1
        funext j
        rw [cE]
        by_cases e:j = k
        · subst e; rw [if_pos rfl,if_pos ⟨by omega,hc⟩]
        · rw [if_neg e,st j e]
      | false =>
        rw [av rfl]
        refine ih _ _ ⟨k + 1,by omega,by omega,?_⟩ (by omega)
        dsimp only
        congr 2
        congr 1
        funext j
        by_cases e:j = k
        · subst e; rw [if_neg (fun h=>by rw [hc] at h; exact absurd h.2 (by decide)),if_neg (fun h=>by rw [hc] at h; exact absurd h.2 (by decide))]
        · rw [st j e]
    · rw [av (decide_eq_false (by omega))]
      obtain rfl:k = 8:=by omega
      rfl
  · have:(fun j=>if j < 0∧(U6 (dx w) h).contains ((w.R s.toNat).Cells j) = true then (0:Int) else (v.R s.toNat).Cells j) = (v.R s.toNat).Cells:=by funext j; simp
    rw [this]
    obtain ⟨vb,vr⟩:=v
    congr 1
    funext j
    rw [cE]
    split
    · rename_i e; rw [e]
    · rfl
theorem L0 (hn:200 ≤ n) {t0:aq} {w0:ah} (r0:fE t0 w0) (Qt:hM w0) (i0:qC w0) {h:Int} (hh:bG w0.B h) (fin:aq→Option (aq × Int)) (l:List Int):∀{t:aq} {w:ah},fE t w→hM w→qC w→w.B = w0.B→(∀x ∈ l,bG w.B x∧w.R (cw x) = w0.R (cw x))→l.Nodup →
    ∃t',gn (fun (PX:Int) NY (dX:aq) =>
  lt (PX:Int) fun ox =>
  bd (dZ n dX ox) fun p4 =>
  c9 (fun Fx (lY:Int) (pZ:bT) =>
  cn (decide (lY < 8)) (
  gu (dO lY 8) <|
  bd (ig n (p4.1.Cells (Int.toNat lY)) h t0) fun Bx =>
  cn (Bx) (
  gu (dO lY 8) <|
  lt ({ pZ with Cells:=(eG pZ.Cells (Int.toNat lY) 0) }:bT) fun sA =>
  Fx (wr .i64 (lY + 1)) sA) (
  Fx (wr .i64 (lY + 1)) pZ)) (
  bd (eA n dX ox pZ) fun yC =>
  NY yC.1)) n 0 p4.1) fin l t = fin t'∧fE t' (l.foldl (DP w0 (U6 (dx w0) h)) w)∧hM (l.foldl (DP w0 (U6 (dx w0) h)) w)∧qC (l.foldl (DP w0 (U6 (dx w0) h)) w):=by
  induction l with
  | nil=>intro t w r tt i _ _ _; exact ⟨t,rfl,r,tt,i⟩
  | cons x l ih =>
    intro t w r tt i hb hl hd
    obtain ⟨hx,hd⟩:=List.nodup_cons.1 hd
    obtain ⟨hg,hr⟩:=hl x (by simp)
    obtain ⟨l1,l2⟩:=eE hg
    have hR:=r.GC _ l1 l2
    have hq:=i x hg
    have hc:∀k,k < 8→ig n ((oH t w x).Cells k) h t0 = some ((U6 (dx w0) h).contains ((oH t w x).Cells k)):=fun k hk=>by
      have e1:(oH t w x).Cells k = (w.R (cw x)).Cells k:=hR.c k hk
      have e2:=hR.c0 k hk
      rw [e1]
      unfold ig
      rw [dD (zY (by omega) r0 Qt e2.1 (by omega) hh.1 (fQ hh.2)),← Ee r0 Qt hh e2.1]
      cases h3:((w.R (cw x)).Cells k != h) <;> rfl
    have hin:=fun F:bT→Option (aq × Int)=>L1 (fun v:bT=>v.Cells) (fun v k=>{ v with Cells:=eG v.Cells k 0 }) (oH t w x) (oH t w x).Cells (fun c=>ig n c h t0) (U6 (dx w0) h) hc (fun g=>{ oH t w x with Cells:=g }) rfl (fun _ _=>rfl) F (m:=n) (by omega)
    have hp:wW { oH t w x with Cells:=EO (U6 (dx w0) h) (oH t w x).Cells (oH t w x).Cells } { w.R (cw x) with Cells:=EO (U6 (dx w0) h) (w0.R (cw x)).Cells (w.R (cw x)).Cells }:=by
      refine ⟨hR.q,hR.e,hR.n,hR.r,fun k hk=>?_,fun k hk=>?_⟩
      · show (if k < 8∧(U6 (dx w0) h).contains ((oH t w x).Cells k) = true then 0 else (oH t w x).Cells k) = if k < 8∧(U6 (dx w0) h).contains ((w0.R (cw x)).Cells k) = true then 0 else (w.R (cw x)).Cells k
        have e1:(oH t w x).Cells k = (w.R (cw x)).Cells k:=hR.c k hk
        rw [e1,← hr]
      · have:=hR.c0 k hk
        show 0 ≤ (if k < 8∧(U6 (dx w0) h).contains ((w0.R (cw x)).Cells k) = true then 0 else (w.R (cw x)).Cells k)∧(if k < 8∧(U6 (dx w0) h).contains ((w0.R (cw x)).Cells k) = true then 0 else (w.R (cw x)).Cells k) ≤ 4294967295
        split
        · decide
        · exact this
    obtain ⟨t1,s1,s2,s3⟩:=JE (n:=n) (by omega) r tt hg hp hq.1 (hq.2 n (by omega))
    have et:BK w x { w.R (cw x) with Cells:=EO (U6 (dx w0) h) (w0.R (cw x)).Cells (w.R (cw x)).Cells } = DP w0 (U6 (dx w0) h) w x:=rfl
    rw [et] at s2 s3
    have si:qC (DP w0 (U6 (dx w0) h) w x):=i.set hg (x:={ w.R (cw x) with Cells:=EO (U6 (dx w0) h) (w0.R (cw x)).Cells (w.R (cw x)).Cells }) rfl rfl
    have so:∀y ∈ l,bG (DP w0 (U6 (dx w0) h) w x).B y∧(DP w0 (U6 (dx w0) h) w x).R (cw y) = w0.R (cw y):=fun y hy=>by
      obtain ⟨y1,y2⟩:=hl y (by simp [hy])
      refine ⟨y1,?_⟩
      rw [← y2]
      unfold DP
      exact jT _ _ (fun q=>hx (by rw [Aa hg y1 q.symm]; exact hy))
    obtain ⟨t',q1,q2,q3,q4⟩:=ih s2 s3 si hb so hd
    refine ⟨t',?_,q2,q3,q4⟩
    refine Eq.trans ?_ q1
    show bd (dZ n t x) _ = _
    rw [ax (sR r hg.1 (fQ hg.2)),if_pos hg.2]
    refine (hin _).trans ?_
    rw [ax s1]
theorem LZ (hn:200 ≤ n) (r:fE t w) (tt:hM w) {h:Int} (hh:bG w.B h) {l:List Int} (hl:∀x ∈ l,bG w.B x) (hlen:l.length ≤ 40) {ρ:Type} (F:ah→Option ρ) :
    c9 (fun NW (gl:Int) (dX:ah) =>
  cn (decide (gl < (l.length:Int))) (
  gu (dO gl l.length) <|
  bd (bY n w.B (l.getD (Int.toNat gl) default)) fun ox =>
  c9 (fun Fy (kX:Int) (lK:ah) =>
  cn (decide (kX < 8)) (
  gu (dO ox 32) <|
  gu (dO kX 8) <|
  cl ((((w.R (Int.toNat ox)).Cells (Int.toNat kX)) != 0) == true) (cu n w ((w.R (Int.toNat ox)).Cells (Int.toNat kX)) h) default fun Fj =>
  cn (((((w.R (Int.toNat ox)).Cells (Int.toNat kX)) != 0) && Fj)) (
  gu (dO ox 32) <|
  gu (dO kX 8) <|
  lt ({ lK with R:=(eG lK.R (Int.toNat ox) ({ (lK.R (Int.toNat ox)) with Cells:=(eG ((lK.R (Int.toNat ox)).Cells) (Int.toNat kX) 0) })) }:ah) fun Fi =>
  Fy (wr .i64 (kX + 1)) Fi) (
  Fy (wr .i64 (kX + 1)) lK)) (
  NW (wr .i64 (gl + 1)) lK)) n 0 dX) (
  F dX)) n 0 w = F (qT w (U6 (dx w) h) l):=by
  refine eD (fun (i:Int) (v:ah)=>∃k:Nat,i = k∧k ≤ l.length∧v = qT w (U6 (dx w) h) (l.take k)) (fun i _=>l.length - i.toNat) (fun o=>o = F (qT w (U6 (dx w) h) l)) ?_ n 0 w ⟨0,rfl,by omega,rfl⟩ (by omega)
  rintro kk x v ⟨k,rfl,hk,rfl⟩ ih
  by_cases c:k < l.length
  · have hx:=hl _ (g6 (l:=l) (i:=k) c)
    rw [aC (decide_eq_true (by omega)),aF (cP (by omega) (by omega)),Int.toNat_natCast,ax (dY (by omega) r.book hx.1),hx.2,if_pos rfl,Ig (by omega) r tt hh _ (by have:=eB (l.getD k default); omega),cz (by omega) (by omega)]
    exact ih _ _ ⟨k + 1,by omega,by omega,by rw [List.take_succ_eq_append_getElem c,← fj c,qT,qT,List.foldl_append]; rfl⟩ (by omega)
  · rw [av (decide_eq_false (by omega)),List.take_of_length_le (by omega)]
def xZ (w:ah) (h:Int):ah:=if bt w.B h = true then s8 (qT w (U6 (dx w) h) (V6 (Gw w) (dx w) h)) h 0 else w
theorem P3 (hn:200 ≤ n) (r:fE t w) (tt:hM w) (i:qC w) {h:Int} (h0:0 ≤ h) (h1:h < 4294967296) :
    ∃t',my n t h = some (t',if bt w.B h = true then 0 else 4)∧nq n w h = some (xZ w h,if bt w.B h = true then 0 else 4)∧fE t' (xZ w h)∧hM (xZ w h)∧qC (xZ w h):=by
  unfold my nq xZ
  rw [ax (lO r.book h0 h1),ax (cg (by omega) r h0)]
  cases hg:bt w.B h with
  | false =>
    simp only [Bool.false_eq_true,if_false]
    exact ⟨t,rfl,rfl,r,tt,i⟩
  | true =>
    rw [if_pos rfl,if_pos rfl]
    have hh:bG w.B h:=⟨h0,hg⟩
    obtain ⟨ρ,f⟩:=xe r tt
    have hm:=cr r.book
    have hG:=(hm h).2 hh
    have hu:lS w h = V6 (Gw w) (dx w) h:=by unfold lS; rw [if_pos hg]
    have hl:∀x ∈ V6 (Gw w) (dx w) h,bG w.B x:=fun x hx=>(hm x).1 ((f.pM hG x).1 hx).1
    rw [av (b:=!true) rfl,av (b:=!true) rfl]
    unfold gF
    rw [ax rfl,ax (s9 (by omega) r tt hh),ax (vR (by omega) r tt h0),hu]
    obtain ⟨t1,a1,a2,a3,a4⟩:=L0 (n:=n) hn r tt i hh (fun dX=>bd (ei n dX h 0) fun yB=>some (yB.1,yB.2)) (V6 (Gw w) (dx w) h) r tt i rfl (fun x hx=>⟨hl x hx,rfl⟩) (f.Jt hG)
    have hb:(qT w (U6 (dx w) h) (V6 (Gw w) (dx w) h)).B = w.B:=vt _ _ _ _
    have SE:bG (qT w (U6 (dx w) h) (V6 (Gw w) (dx w) h)).B h:=by rw [hb]; exact hh
    obtain ⟨t2,b1,b2,b3⟩:=B1 (n:=n) (by omega) a2 a3 SE (a:=0) (.inl rfl) (fun q=>q.1 rfl)
    refine ⟨t2,?_,?_,b2,b3,a4.up h 0⟩
    · refine a1.trans ?_
      rw [ax b1]
    · refine (LZ (n:=n) hn r tt hh hl (by have:=f.uX hG; omega) _).trans ?_
      generalize qT w (U6 (dx w) h) (V6 (Gw w) (dx w) h) = v
      rw [ax (dY (by omega) r.book h0),hg,if_pos rfl,aF (ga h)]
      rfl
end
end Go.Proofs.YtmdpbdhkmfjlhaaGreat
namespace Go.Proofs.YtmdpbdhkmfjlhaaGreat
open Go Go.Bw
section
variable {G:List Int} {up up' : Int→Int} {ρ ρ' : Int→Nat}
theorem Fo.PJ (f:Fo G up ρ) (f' : Fo G up' ρ') {h a:Int} (I8:∀x ∈ G,up' x = if x = h then a else up x) (ha:a ≠ 0) (h0:up h = 0):∀y ∈ G,U6 up' y = if y = h∨h ∈ U6 up y then U6 up y++(a::U6 up' a) else U6 up y:=by
  refine f.yG _ fun y hy ih=>?_
  have hu:=I8 y hy
  by_cases e:y = h
  · subst e
    rw [if_pos rfl] at hu
    rw [if_pos (.inl rfl),f.u0 hy h0,f'.u1 hy (by rw [hu]; exact ha),hu]; rfl
  · rw [if_neg e] at hu
    by_cases e0:up y = 0
    · rw [f'.u0 hy (hu.trans e0),f.u0 hy e0,if_neg (fun q=>q.elim e (by simp))]
    · have hi:=ih e0
      rw [f'.u1 hy (by rw [hu]; exact e0),hu,hi,f.u1 hy e0]
      by_cases q:up y = h∨h ∈ U6 up (up y)
      · rw [if_pos q,if_pos (.inr (List.mem_cons.2 (q.imp Eq.symm _root_.id)))]; rfl
      · rw [if_neg q,if_neg (fun p=>p.elim e fun p=>q ((List.mem_cons.1 p).imp Eq.symm _root_.id))]
theorem Fo.PI (f:Fo G up ρ) (f' : Fo G up' ρ') {h a:Int} (I8:∀x ∈ G,up' x = if x = h then a else up x) (hh:h ∈ G) (h0:up h = 0) (hno:¬ (a = h∨h ∈ U6 up a)):∀x ∈ G,(x = h∨h ∈ U6 up x)→V6 G up' x = V6 G up x:=by
  refine f.Ie _ fun x hx ih hv=>?_
  have hk:gX G up' x = gX G up x:=by
    unfold gX
    refine List.filter_congr fun y hy=>?_
    rw [I8 y hy]
    by_cases e:y = h
    · subst e
      have e1:(a == x) = false:=by
        simp only [beq_eq_false_iff_ne,ne_eq]
        exact fun q=>hno (by rw [q]; exact hv)
      have e2:(up y == x) = false:=by
        rw [h0]; simp only [beq_eq_false_iff_ne,ne_eq]; exact fun q=>f.pos x hx q.symm
      rw [if_pos rfl,e1,e2]
    · rw [if_neg e]
  rw [f.vK hx,f'.vK hx,hk]
  congr 1
  refine qm fun y hy=>?_
  obtain ⟨y1,y2⟩:=iS.1 hy
  refine ih y y1 y2 (.inr ?_)
  rw [f.u1 y1 (by rw [y2]; exact f.pos x hx),y2]
  exact List.mem_cons.2 (hv.imp Eq.symm _root_.id)
end
section
variable {n:Nat} {t:aq} {w:ah}
theorem wB (r:fE t w) (tt:hM w) (x:Int):0 ≤ g7 w x∧g7 w x ≤ 33:=by
  unfold g7
  by_cases hg:bt w.B x = true
  · rw [if_pos hg]
    by_cases h0:0 ≤ x
    · obtain ⟨ρ,f⟩:=xe r tt
      have:=f.BD ((cr r.book x).2 ⟨h0,hg⟩); omega
    · have h3:=(g5.1 hg).2.2
      have h4:=r.book.jO (cw x) (kF x)
      unfold cw at h4; omega
  · rw [if_neg hg]; omega
theorem JB (hn:200 ≤ n) (r:fE t w) (tt:hM w) {h:Int} (hh:bG w.B h):∃m,k6 n t h = some m∧0 ≤ m∧m ≤ 34∧∀k,0 ≤ k→(k < m↔∃y ∈ V6 (Gw w) (dx w) h,k < g7 w y - g7 w h + 1):=by
  obtain ⟨ρ,f⟩:=xe r tt
  have hm:=cr r.book
  have hG:=(hm h).2 hh
  have hd:=fun x=>wB r tt x
  unfold k6 gF
  rw [ax rfl,ax (s9 (by omega) r tt hh)]
  have hl:∀x ∈ V6 (Gw w) (dx w) h,eI n t x = some (g7 w x)∧0 ≤ g7 w x∧g7 w x ≤ 1000:=fun x hx=>by
    have hx:=(hm x).1 ((f.pM hG x).1 hx).1
    have:=hd x
    exact ⟨wA (by omega) r tt hx.1 (fQ hx.2),by omega,by omega⟩
  have key:=Ev (fun x=>eI n t x) (eI n t h) (g7 w) (g7 w h) (by have:=hd h; omega) (wA (by omega) r tt hh.1 (fQ hh.2)) (V6 (Gw w) (dx w) h) hl 0 (by omega)
  have hf:=CY (g7 w) (g7 w h) (V6 (Gw w) (dx w) h) 0
  have T3:1 ≤ g7 w h:=by unfold g7; rw [if_pos hh.2]; omega
  refine ⟨_,key,?_,?_,fun k hk=>(hf k).trans ⟨fun q=>q.resolve_left (by omega), .inr⟩⟩
  · have:=(hf (-1)).2 (.inl (by omega)); omega
  · rcases Int.lt_or_le 34 ((V6 (Gw w) (dx w) h).foldl (fun m y=>max m (g7 w y - g7 w h + 1)) 0) with q | q
    · rcases (hf 34).1 q with q | ⟨y,_,q⟩
      · omega
      · have:=hd y; omega
    · exact q
theorem NK (d:Int→Option Int) (v:Int→Int) (l:List Int) (hd:∀x ∈ l,d x = some (v x)) (hlen:l.length ≤ 40) {ρ:Type} (A B:Option ρ) (hn:100 ≤ n) :
    ((∃y ∈ l,6 < v y)→eu (fun J9 (gk:Int) =>
  cn (decide (gk < (l.length:Int))) (
  gu (dO gk l.length) <|
  bd (d (l.getD (Int.toNat gk) default)) fun p4 =>
  cn (decide (6 < p4)) A (
  J9 (wr .i64 (gk + 1)))) B) n 0 = A)∧((∀y ∈ l,v y ≤ 6)→eu (fun J9 (gk:Int) =>
  cn (decide (gk < (l.length:Int))) (
  gu (dO gk l.length) <|
  bd (d (l.getD (Int.toNat gk) default)) fun p4 =>
  cn (decide (6 < p4)) A (
  J9 (wr .i64 (gk + 1)))) B) n 0 = B):=by
  refine iE (fun (i:Int)=>∃k:Nat,i = k∧k ≤ l.length∧∀y ∈ l.take k,v y ≤ 6) (fun i=>l.length - i.toNat) (fun o=>((∃y ∈ l,6 < v y)→o = A)∧((∀y ∈ l,v y ≤ 6)→o = B)) ?_ n 0 ⟨0,rfl,by omega,by simp⟩ (by omega)
  rintro kk x ⟨k,rfl,hk,hp⟩ ih
  by_cases c:k < l.length
  · have hm:l.getD k default ∈ l:=g6 c
    rw [aC (decide_eq_true (by omega)),aF (cP (by omega) (by omega)),Int.toNat_natCast,ax (hd _ hm)]
    by_cases q:6 < v (l.getD k default)
    · rw [aC (decide_eq_true q)]
      exact ⟨fun _=>rfl,fun h=>by have:=h _ hm; omega⟩
    · rw [av (decide_eq_false q),cz (by omega) (by omega)]
      refine ih _ ⟨k + 1,by omega,by omega,fun y hy=>?_⟩ (by omega)
      rw [List.take_succ_eq_append_getElem c,List.mem_append,List.mem_singleton] at hy
      rcases hy with hy | hy
      · exact hp y hy
      · rw [hy,← fj c]; omega
  · rw [av (decide_eq_false (by omega))]
    rw [List.take_of_length_le (by omega)] at hp
    exact ⟨fun ⟨y,hy,q⟩=>by have:=hp y hy; omega,fun _=>rfl⟩
structure TA (w:ah) (h a:Int) (w' : ah) (e:Int):Prop where
  no:e ≠ 0→w' = w
  is:e = 0→w' = s8 w h a∧bG w.B h∧bG w.B a∧dx w h = 0∧¬ (a = h∨h ∈ U6 (dx w) a)∧∀y ∈ V6 (Gw w) (dx w) h,g7 w' y ≤ 6
theorem HT (hn:200 ≤ n) (r:fE t w) (tt:hM w) (i:qC w) {h a:Int} (h0:0 ≤ h) (h1:h < 4294967296) (a0:0 ≤ a) (a1:a < 4294967296) :
    ∃t' w' e,j5 n t h a = some (t',e)∧kY n w h a = some (w',e)∧fE t' w'∧hM w'∧qC w'∧TA w h a w' e:=by
  unfold j5 kY
  rw [ax (lO r.book h0 h1),ax (cg (by omega) r h0),dD (lO r.book a0 a1),dD (cg (by omega) r a0)]
  cases hg:bt w.B h with
  | false=>exact ⟨t,w,4,rfl,rfl,r,tt,i,⟨fun _=>rfl,fun h=>absurd h (by decide)⟩⟩
  | true =>
  cases hk:bt w.B a with
  | false=>exact ⟨t,w,4,rfl,rfl,r,tt,i,⟨fun _=>rfl,fun h=>absurd h (by decide)⟩⟩
  | true =>
  have hh:bG w.B h:=⟨h0,hg⟩
  have ha:bG w.B a:=⟨a0,hk⟩
  obtain ⟨ρ,f⟩:=xe r tt
  have hm:=cr r.book
  have hG:=(hm h).2 hh
  have aG:=(hm a).2 ha
  have Sq:cS w h = xb (dx w) h:=by unfold cS; rw [if_pos hg]
  have QE:uD w h a = ((h == a) || (U6 (dx w) a).contains h):=by unfold uD; rw [hg,hk]; rfl
  rw [av (by rfl),av (by rfl),ax (tc (by omega) r tt h0 h1),ax (tj (by omega) r hh),dD (zY (by omega) r tt h0 h1 a0 a1),dD (D9 (by omega) r tt h0 a0),Sq]
  by_cases hu:dx w h = 0
  · have e1:(xb (dx w) h != h) = false:=by simpa using (f.yO hG).2 hu
    have e2:(dx w h != 0) = false:=by simpa using hu
    rw [e1,e2]
    by_cases ho:a = h∨h ∈ U6 (dx w) a
    · have e3:uD w h a = true:=by
        rw [QE,Bool.or_eq_true,beq_iff_eq,List.contains_iff_mem]; exact ho.imp Eq.symm _root_.id
      rw [e3]
      exact ⟨t,w,12,rfl,rfl,r,tt,i,⟨fun _=>rfl,fun h=>absurd h (by decide)⟩⟩
    · have e3:uD w h a = false:=by
        rw [QE,Bool.or_eq_false_iff,beq_eq_false_iff_ne,← Bool.not_eq_true,List.contains_iff_mem]
        exact ⟨fun q=>ho (.inl q.symm),fun q=>ho (.inr q)⟩
      have an:a ≠ 0:=f.pos a aG
      obtain ⟨t',b1,b2,b3⟩:=B1 (n:=n) (by omega) r tt hh (.inr ha) (fun q=>ho q.2)
      obtain ⟨ρ',f'⟩:=xe b2 b3
      have I8:∀x ∈ Gw w,dx (s8 w h a) x = if x = h then a else dx w x:=fun x hx=>Gn hh ((hm x).1 hx)
      have f' : Fo (Gw w) (dx (s8 w h a)) ρ':=f'
      have gu:=f.PJ f' I8 an hu
      have gv:=f.PI f' I8 hG hu ho h hG (.inl rfl)
      have ua:U6 (dx (s8 w h a)) a = U6 (dx w) a:=by rw [gu a aG,if_neg ho]
      have Ow:lS (s8 w h a) h = V6 (Gw w) (dx w) h:=by
        unfold lS
        rw [if_pos (show bt (s8 w h a).B h = true from hg)]; exact gv
      have HH:∀y ∈ V6 (Gw w) (dx w) h,g7 (s8 w h a) y = g7 w y + g7 w a:=fun y hy=>by
        obtain ⟨y1,y2⟩:=(f.pM hG y).1 hy
        have yg:bt w.B y = true:=((hm y).1 y1).2
        unfold g7
        rw [if_pos (show bt (s8 w h a).B y = true from yg),if_pos yg,if_pos hk,gu y y1,if_pos y2,List.length_append,List.length_cons,ua]
        omega
      obtain ⟨m,m1,m2,m3,m4⟩:=JB (n:=n) hn r tt hh
      have dh:g7 w h = 1:=by unfold g7; rw [if_pos hg,f.u0 hG hu]; rfl
      have da:=wB r tt a
      have d1:wr .i64 (g7 w a + m) = g7 w a + m:=cz (by omega) (by omega)
      rw [e3,av (by rfl),av (by rfl),ax (wA (by omega) r tt a0 a1),ax m1,d1,ax (u7 (by omega) r tt hh (.inr ha) (fun q=>ho q.2))]
      dsimp only
      rw [ax (vR hn b2 b3 h0),Ow]
      obtain ⟨q1,q2⟩:=NK (n:=n) (fun x=>eT n (s8 w h a) x) (g7 (s8 w h a)) (V6 (Gw w) (dx w) h) (fun x hx=>va hn b2 b3 ((hm x).1 ((f.pM hG x).1 hx).1).1) (by have:=f.uX hG; omega) (some (w,(8:Int))) (some (s8 w h a,(0:Int))) (by omega)
      by_cases hq:∃y ∈ V6 (Gw w) (dx w) h,6 < g7 (s8 w h a) y
      · have:6 < g7 w a + m:=by
          obtain ⟨y,hy,hq⟩:=hq
          rw [HH y hy] at hq
          rcases Int.lt_or_le 6 (g7 w a) with h6 | h6
          · omega
          · have:=(m4 (6 - g7 w a) (by omega)).2 ⟨y,hy,by omega⟩
            omega
        rw [aC (decide_eq_true this)]
        exact ⟨t,w,8,rfl,q1 hq,r,tt,i,⟨fun _=>rfl,fun h=>absurd h (by decide)⟩⟩
      · have nF:∀y ∈ V6 (Gw w) (dx w) h,g7 (s8 w h a) y ≤ 6:=fun y hy=>Int.not_lt.1 fun q=>hq ⟨y,hy,q⟩
        have hV:h ∈ V6 (Gw w) (dx w) h:=(f.pM hG h).2 ⟨hG, .inl rfl⟩
        have:¬ 6 < g7 w a + m:=fun q=>by
          have h6:=nF h hV
          rw [HH h hV] at h6
          obtain ⟨y,hy,hq⟩:=(m4 (6 - g7 w a) (by omega)).1 (by omega)
          have:=nF y hy
          rw [HH y hy] at this
          omega
        rw [av (decide_eq_false this),ax b1]
        exact ⟨t',s8 w h a,0,rfl,q2 nF,b2,b3,i.up h a,⟨fun h=>absurd rfl h,fun _=>⟨rfl,hh,ha,hu,ho,nF⟩⟩⟩
  · have e1:(xb (dx w) h != h) = true:=by simpa using fun q=>hu ((f.yO hG).1 q)
    have e2:(dx w h != 0) = true:=by simpa using hu
    rw [e1,e2]
    exact ⟨t,w,12,rfl,rfl,r,tt,i,⟨fun _=>rfl,fun h=>absurd h (by decide)⟩⟩
structure Tn (w:ah) (a q:Int) (w' : ah) (m e:Int):Prop where
  no:e ≠ 0→w' = w
  is:e = 0→∃f,rz w.B f∧f < 32∧(a = 0∨bG w.B a)∧(0 ≤ q∧q ≤ 64)∧g7 w a ≤ 5∧m = iT f (w.B.js f)∧w' = ⟨jD w.B f,eG w.R f ⟨a,q,dw,fun _=>0⟩⟩
theorem NI {n:Nat} (hn:110 ≤ n):dK n dw = some true:=by
  obtain ⟨b,b1,b2⟩:=u9 (n:=n) hn (x:=dw) (by show (0:Nat) ≤ 80; omega) (fun y hy=>by cases hy)
  rw [b1,b2.2 ⟨ux.nil,by show (0:Int) ≤ 0; decide,by show (0:Int) ≤ 32 * 0; decide⟩]
theorem ND (hn:200 ≤ n) (r:fE t w) (tt:hM w) (i:qC w) {a q:Int} (a0:0 ≤ a) (a1:a < 4294967296) :
    ∃t' w' m e,jG n t a q = some (t',m,e)∧nn n w a q = some (w',m,e)∧0 ≤ m∧m < 4294967296∧fE t' w'∧hM w'∧qC w'∧Tn w a q w' m e:=by
  obtain ⟨t',w',m,e,e1,e2,m0,m1,k⟩:=NF (n:=n) (by omega) r tt (q:=q) a0 a1
  have hd:=wB r tt a
  unfold jG nn
  rw [ax e1,dD (wA (by omega) r tt a0 a1),dD (cg (by omega) r a0),dD (va hn r tt a0),ax e2]
  dsimp only
  by_cases hok:(a = 0∨bG w.B a)∧0 ≤ q∧q ≤ 64
  · obtain ⟨ha,hq⟩:=hok
    obtain ⟨f,hf⟩:=xX w.B
    have hx:=Ea (n:=n) (by omega) r ha hq hf
    rw [e2] at hx
    have c1:((((a == 0) || (bif (a == 0) == false then bt w.B a else default)) && decide (0 ≤ q)) && decide (q ≤ 64)) = true:=by
      have:((a == 0) || (bif (a == 0) == false then bt w.B a else default)) = true:=by
        rcases ha with e | e
        · subst e; rfl
        · rw [e.2]; cases a == 0 <;> rfl
      rw [this,decide_eq_true hq.1,decide_eq_true hq.2]; rfl
    have c2:((e == 0) || (e == 7)) = true:=by
      have:=Option.some.inj hx
      by_cases hl:f < 32
      · rw [if_pos hl] at this; rw [(Prod.mk.inj (Prod.mk.inj this).2).2]; rfl
      · rw [if_neg hl] at this; rw [(Prod.mk.inj (Prod.mk.inj this).2).2]; rfl
    rw [c1,c2]
    by_cases h6:6 ≤ g7 w a
    · have h5:(5:Int) < g7 w a:=by omega
      rw [aC (by simpa using h6),aC (by simpa using h5)]
      exact ⟨t,w,0,8,rfl,rfl,by decide,by decide,r,tt,i,⟨fun _=>rfl,fun h=>absurd h (by decide)⟩⟩
    · have h5:¬ (5:Int) < g7 w a:=by omega
      rw [av (by simpa using h6),av (by simpa using h5)]
      refine ⟨t',w',m,e,rfl,rfl,m0,m1,k.rt,k.tt,?_,?_⟩
      · have:=Option.some.inj hx
        by_cases hl:f < 32
        · rw [if_pos hl] at this
          obtain ⟨rfl,h2⟩:=Prod.mk.inj this
          intro g CN
          dsimp only
          rw [cE]
          split
          · exact ⟨hq,fun n hn=>NI hn⟩
          · rename_i hne
            refine i g (((jF r.book hf hl g).1 CN).resolve_right fun e=>?_)
            have hr:=r.book.jO f hl
            obtain ⟨q1,q2,q3,q4,q5⟩:=nS (i:=f) (g:=w.B.js f) (by omega) (by omega) hr.1 hr.2
            exact hne (by rw [e]; unfold cw; rw [q2]; omega)
        · rw [if_neg hl] at this
          rw [(Prod.mk.inj this).1]; exact i
      · have:=Option.some.inj hx
        by_cases hl:f < 32
        · rw [if_pos hl] at this
          obtain ⟨h1,h2⟩:=Prod.mk.inj this
          obtain ⟨h2,h3⟩:=Prod.mk.inj h2
          exact ⟨fun h=>absurd h3 h,fun _=>⟨f,hf,hl,ha,hq,by omega,h2,h1⟩⟩
        · rw [if_neg hl] at this
          obtain ⟨h1,h2⟩:=Prod.mk.inj this
          obtain ⟨h2,h3⟩:=Prod.mk.inj h2
          exact ⟨fun _=>h1,fun h=>absurd (h3.symm.trans h) (by decide)⟩
  · have hw:w' = w∧e ≠ 0∧e ≠ 7:=by
      unfold dG at e2
      rw [dD (cg (by omega) r a0),kT] at e2
      cases hx:B6 w.B a with
      | false =>
        rw [hx,aC (b:=!false) rfl] at e2
        obtain ⟨h1,h2⟩:=Prod.mk.inj (Option.some.inj e2)
        exact ⟨h1.symm,by rw [← (Prod.mk.inj h2).2]; decide,by rw [← (Prod.mk.inj h2).2]; decide⟩
      | true =>
        have hq:¬ (0 ≤ q∧q ≤ 64):=fun h=>hok ⟨yT a0 hx,h⟩
        rw [hx,av (b:=!true) rfl,aC (by simp; omega)] at e2
        obtain ⟨h1,h2⟩:=Prod.mk.inj (Option.some.inj e2)
        exact ⟨h1.symm,by rw [← (Prod.mk.inj h2).2]; decide,by rw [← (Prod.mk.inj h2).2]; decide⟩
    obtain ⟨rfl,n0,n7⟩:=hw
    have c1:((((a == 0) || (bif (a == 0) == false then bt w'.B a else default)) && decide (0 ≤ q)) && decide (q ≤ 64)) = false:=by
      by_cases hq:0 ≤ q∧q ≤ 64
      · have ha:¬ (a = 0∨bG w'.B a):=fun h=>hok ⟨h,hq⟩
        have e1:(a == 0) = false:=by simpa using fun h=>ha (.inl h)
        have e2:bt w'.B a = false:=by
          cases h:bt w'.B a with
          | false=>rfl
          | true=>exact absurd (.inr ⟨a0,h⟩) ha
        rw [e1,e2]; rfl
      · have:(decide (0 ≤ q) && decide (q ≤ 64)) = false:=by rw [Bool.and_eq_false_iff,decide_eq_false_iff_not,decide_eq_false_iff_not]; omega
        rw [Bool.and_assoc,this,Bool.and_false]
    have c2:((e == 0) || (e == 7)) = false:=by rw [Bool.or_eq_false_iff,beq_eq_false_iff_ne,beq_eq_false_iff_ne]; exact ⟨n0,n7⟩
    rw [c1,c2,av (by rfl),av (by rfl)]
    exact ⟨t',w',m,e,rfl,rfl,m0,m1,k.rt,k.tt,i,⟨fun _=>rfl,fun h=>absurd h n0⟩⟩
end
end Go.Proofs.YtmdpbdhkmfjlhaaGreat
namespace Go.Proofs.YtmdpbdhkmfjlhaaGreat
open Go Go.Bw
section
variable {n:Nat} {t:aq} {w:ah}
theorem qI (r:fE t w) {a:Int} (h0:0 ≤ a) (h1:a < 4294967296):∃v,jB n w a = some v∧0 ≤ v∧v < 4294967296:=by
  unfold jB
  by_cases hc:1 ≤ a∧a ≤ 32
  · have e:(decide (1 ≤ a) && decide (a ≤ 32)) = true:=by simpa using hc
    rw [e,oG (x:=a - 1) (by omega) (by omega),aF (by rw [cP (by omega) (by omega)]; rfl),Bool.true_and]
    have hr:=r.book.jO (a - 1).toNat (by omega)
    by_cases h2:w.B.Is (a - 1).toNat = 1
    · obtain ⟨q1,q2,q3,q4,q5⟩:=nS (i:=a - 1) (g:=w.B.js (a - 1).toNat) (by omega) (by omega) hr.1 hr.2
      rw [aC (by simpa using h2),cz (by omega) (by omega),ax (pg (by omega) (by omega) hr.1 hr.2)]
      exact ⟨_,rfl,by omega,q5⟩
    · rw [av (by simpa using h2),cz (by omega) (by omega)]
      exact ⟨_,rfl,h0,h1⟩
  · have e:(decide (1 ≤ a) && decide (a ≤ 32)) = false:=by rw [Bool.and_eq_false_iff,decide_eq_false_iff_not,decide_eq_false_iff_not]; omega
    rw [e,aF (by rfl),av (by rfl),cz (by omega) (by omega)]
    exact ⟨_,rfl,h0,h1⟩
theorem JJ (hn:100 ≤ n) {l:List Int} (hl:l.length ≤ 40) (hr:∀x ∈ l,0 ≤ x∧x < 4294967296):nx n l l = some true:=by
  unfold nx
  rw [av (by simp)]
  refine iE (fun (i:Int)=>0 ≤ i∧i ≤ l.length) (fun i=>((l.length:Int) - i).toNat) (fun o=>o = some true) ?_ n 0 ⟨by omega,by omega⟩ (by omega)
  rintro kk i ⟨i0,i1⟩ ih
  by_cases c:i < l.length
  · have hx:=hr _ (g6 (l:=l) (i:=i.toNat) (by omega))
    rw [aC (by simpa using c),aF (cP i0 c),aF (cP i0 c),cz (x:=l.getD i.toNat default) (by omega) (by omega),av (by simp),cz (by omega) (by omega)]
    exact ih _ ⟨by omega,by omega⟩ (by omega)
  · rw [av (by simpa using c)]
theorem BZ (hn:40 ≤ n) (r:fE t w) {h:Int} (h0:0 ≤ h) (hg:bt w.B h = false):∃x,eV n w h = some (x,4):=by
  unfold eV
  rw [ax (dY hn r.book h0),hg]
  exact ⟨_,rfl⟩
theorem L4 (hn:200 ≤ n) (r:fE t w) (tt:hM w) (i:qC w) {h z:Int} (hh:bG w.B h) (z0:0 ≤ z) (z1:z < 4294967296) {k:Nat} (hk:k < 8) :
    ∃t',eA n t h { oH t w h with Cells:=eG (oH t w h).Cells k z } = some (t',0)∧eU n w h { w.R (cw h) with Cells:=eG (w.R (cw h)).Cells k z } = some (BK w h { w.R (cw h) with Cells:=eG (w.R (cw h)).Cells k z },0) ∧
      fE t' (BK w h { w.R (cw h) with Cells:=eG (w.R (cw h)).Cells k z })∧hM (BK w h { w.R (cw h) with Cells:=eG (w.R (cw h)).Cells k z })∧qC (BK w h { w.R (cw h) with Cells:=eG (w.R (cw h)).Cells k z }):=by
  obtain ⟨l1,l2⟩:=eE hh
  have hR:=r.GC _ l1 l2
  have hq:=i h hh
  have hp:wW { oH t w h with Cells:=eG (oH t w h).Cells k z } { w.R (cw h) with Cells:=eG (w.R (cw h)).Cells k z }:=by
    refine ⟨hR.q,hR.e,hR.n,hR.r,fun j hj=>?_,fun j hj=>?_⟩
    · dsimp only
      rw [cE,cE]
      split
      · rfl
      · exact hR.c j hj
    · dsimp only
      rw [cE]
      split
      · omega
      · exact hR.c0 j hj
  obtain ⟨t1,s1,s2,s3⟩:=JE (n:=n) (by omega) r tt hh hp hq.1 (hq.2 n (by omega))
  exact ⟨t1,s1,zV (by omega) r hh hq.1 (hq.2 n (by omega)),s2,s3,i.set hh rfl rfl⟩
def IY (a:iF):Prop:=(0 ≤ a.Do∧a.Do ≤ 255)∧(0 ≤ a.A∧a.A ≤ 4294967295)∧(0 ≤ a.B∧a.B ≤ 4294967295)∧(0 ≤ a.C∧a.C ≤ 4294967295)∧(-9223372036854775808 ≤ a.bP∧a.bP ≤ 9223372036854775807)
end
theorem Cp:qC fk:=fun g hg=>by
  have:=(eE hg).2
  exact (xE this).elim
theorem C1 (w:ah) (h:Int):(xZ w h).B = w.B:=by
  unfold xZ
  split
  · generalize V6 (Gw w) (dx w) h = l
    generalize U6 (dx w) h = L
    exact vt w L l w
  · rfl
end Go.Proofs.YtmdpbdhkmfjlhaaGreat
