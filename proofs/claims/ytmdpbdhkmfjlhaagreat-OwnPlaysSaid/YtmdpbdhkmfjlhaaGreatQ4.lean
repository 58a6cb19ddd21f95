/- Part 4 of what a proof leans on; pruned and shortened by a program out of longer texts. -/
import Derived.Test.YtmdpbdhkmfjlhaaGreatQ3
namespace Go.Proofs.YtmdpbdhkmfjlhaaGreat
open Go Go.Bw
structure bW where
 Kind:Int
 Task:Int
 gp:(Nat→Bool)
abbrev aA:aL bW:=aL.via (LP (LI .i64) (LP (LI .i64) (LA LB 8))) (fun x=>(x.Kind,x.Task,x.gp))
abbrev iZ:bW:=⟨0,0,(fun _=>false)⟩
instance:Inhabited bW:=⟨iZ⟩
theorem jo:aE aA (LI .i64) 0 (fun x=>x.Kind) (fun x v=>{ x with Kind:=v }):=(aE.fst aE.id).via _ _ _ 0 rfl (fun _=>rfl) (fun _ _=>rfl)
theorem kR:aE aA (LI .i64) 1 (fun x=>x.Task) (fun x v=>{ x with Task:=v }):=(aE.snd (aE.fst aE.id)).via _ _ _ 1 rfl (fun _=>rfl) (fun _ _=>rfl)
theorem fL:aE aA (LA LB 8) 2 (fun x=>x.gp) (fun x v=>{ x with gp:=v }):=(aE.snd (aE.snd aE.id)).via _ _ _ 2 rfl (fun _=>rfl) (fun _ _=>rfl)
structure aK where
 cO:(List Int)
 Own:(List bW)
abbrev aH:aL aK:=aL.via (LP (pX (LI .i64)) (pX aA)) (fun x=>(x.cO,x.Own))
abbrev gJ:aK:=⟨[],[]⟩
def bx:List Value:=[.slice none 0 0]++([.slice none 0 0])
theorem er {A:World→Prop}:aH.rep A bx gJ:=⟨_,_,rfl,⟨_,rfl,Fz.nil⟩,⟨_,rfl,Fz.nil⟩⟩
theorem iL:aE aH (pX (LI .i64)) 0 (fun x=>x.cO) (fun x v=>{ x with cO:=v }):=(aE.fst aE.id).via _ _ _ 0 rfl (fun _=>rfl) (fun _ _=>rfl)
theorem kQ:aE aH (pX aA) 1 (fun x=>x.Own) (fun x v=>{ x with Own:=v }):=(aE.snd aE.id).via _ _ _ 1 rfl (fun _=>rfl) (fun _ _=>rfl)
def iA (n:Nat) (a0:aK) (a1:Int):Option Int:=
 eu (fun v7 (bE:Int) =>
 cn (decide (bE < (a0.cO.length:Int))) (
 gu (dO bE a0.cO.length) <|
 cn (((a0.cO.getD (Int.toNat bE) default) == a1)) (
 some bE) (
 v7 (wr .i64 (bE + 1)))) (
 some (-1))) n 0
theorem om {n a0 a1 r K} [bn K] {cv} (f0:(aH).rep K cv a0) (h:iA n a0 a1 = some r):pD Tryz.prog 74 [A cv, .int .i64 a1] K (.int .i64 r):=by
 unfold iA at h
 refine fo Tryz.func74 (by kernel_rfl) rfl Tryz.ntmps74 rfl fun cx _ hro cZ hpre=>?_
 refine SC 2 rf ?_
 refine W1 rf (aV rfl) fun b2=>?_
 refine SL 10 rf ?_
 obtain ⟨p9,mq,h⟩:=mT h
 refine LO (β:=Int) [1,2] [0] (fun (me,bE)=>[(5, .int .i64 bE)]) (fun (me,bE)=>[.cells b2 64 cv]) (fun (me,bE)=>eu p9 me bE = some r) (n,0) h rf rf rf ?_
 rintro me bE h
 replace h:=mS mq h; obtain ⟨me,rfl,h⟩:=h
 refine SC 5 rf ?_
 obtain ⟨nN,Ou,f27⟩:=iL.sl f0
 refine ai rfl (bL rfl Ou) ?_
 refine ai rfl (dg f27 rfl) ?_
 refine SL 3 rf ?_
 refine dN h rf (fun hc h=>?_) fun hc h=>?_
 ·
  obtain ⟨nW,h⟩:=cq h
  refine SC 7 rf ?_
  obtain ⟨qD,y4,f29⟩:=iL.sl f0
  refine ai rfl (bL rfl y4) ?_
  refine ai rfl (ak rfl) ?_
  refine ai rfl (cM (m:=(Int.toNat bE)) f29 rfl rfl rfl (az nW).1 (az nW).2) ?_
  refine ai rfl (cN f29 (aE.idx (L:=(LI .i64)) (m:=(a0.cO.length)) (k:=1) ((Int.toNat bE)) (az nW).2 rfl) rfl) ?_
  refine SL 4 rf ?_
  refine dN h rf (fun hc h=>?_) fun hc h=>?_
  ·
   refine SC 12 rf ?_
   have h:=sj h; subst h
   exact RV rf (rt rf rn) rf
  ·
   refine SC 8 rf ?_
   exact LN [0] (wr .i64 (bE + 1)) h rf rf rf
 ·
  refine SC 11 rf ?_
  have h:=sj h; subst h
  exact RV rf (rt rf rn) rf
def gM (n:Nat) (a0:aK) (a1:ah) (a2:Int):Option bW:=
 bd (gN n a1 a2) fun aM =>
 bd (iA n a0 aM) fun bE =>
 cl ((decide (bE < 0)) == false) (bB n a1 a2) default fun hJ =>
 cn ((decide (bE < 0) || (!hJ))) (
 lt ({ Kind:=0,Task:=0,gp:=(fun _=>false) }:bW) fun jS =>
 some jS) (
 gu (dO bE a0.Own.length) <|
 lt ((a0.Own.getD (Int.toNat bE) default):bW) fun dQ =>
 some dQ)
theorem eX {n a0 a1 a2 r K} [bn K] {cv} (f0:(aH).rep K cv a0) {fq:List Value} (f1:(ay).rep K fq a1) (h:gM n a0 a1 a2 = some r):pD Tryz.prog 37 [A cv,A fq, .int .i64 a2] K (.agg (aA.enc r).toArray):=by
 unfold gM at h
 refine fo Tryz.func37 (by kernel_rfl) rfl Tryz.ntmps37 rfl fun cx _ hro cZ hpre=>?_
 refine SC 2 rf ?_
 refine W1 rf (aV rfl) fun b3=>?_
 refine W1 rf (aV rfl) fun b4=>?_
 refine W1 rf (bu (L:=aA) (z:=iZ) ⟨by kernel_rfl⟩) fun b6=>?_
 refine SL 3 rf ?_
 obtain ⟨aM,bX,h⟩:=aS h
 obtain ⟨bE,fc,h⟩:=aS h
 refine cK mixed (.gm [] [(0,[3]),(1,[4]),(2,[2]),(3,[9,10]),(4,[8,11])] (.alt 5 [12] (.fin [] []) .no)) (by kernel_rfl) ?_
 refine T0 ?_
 refine NV rf rf (ae rfl (aL.len _ f0)) ?_
 refine NV rf rf (ae rfl (aL.len _ f1)) ?_
 refine NS 1 rf ?_
 refine NC rf rf (nX (K:=K) (mo f1) bX) rf ?_
 refine NC rf rf (om (K:=K) (mo f0) fc) rf ?_
 refine aP ?_
 refine XV rf rf (bQ rfl) ?_
 refine oF ?_
 obtain ⟨hJ,jE,_,h⟩:=gQ h
 refine SX 7 rf ?_
 refine GB rf rf rf (fun hb=>ae rfl (aL.len _ f1)) ?_
 refine GB rf rf rf (fun hb=>ak rfl) ?_
 refine GB rf rf rf (fun hb=>ck (bJ (K:=K) (mo f1) (jE hb)) (aB (bC rfl hb) (aB (bC rfl hb) rfl)) kn) ?_
 refine GB rf rf rf (fun hb=>ja (bC rfl hb)) ?_
 refine ai rfl (eF rfl rfl) ?_
 refine SL 2 rf ?_
 refine dN h rf (fun hc h=>?_) fun hc h=>?_
 ·
  obtain ⟨jS,qf,h⟩:=cj h
  refine SC 2 rf ?_
  refine ai rfl (dI (cs:=aA.enc jS) rfl (by rw [qf]; rfl)) ?_
  refine W0 (bI (M:=aA) (aE.id (L:=aA)) jS jS rfl rfl rfl rfl rfl) ?_
  refine SL 4 rf ?_
  have h:=sj h; subst h
  exact RV rf (ra rf (aT _ _) rn) rf
 ·
  obtain ⟨mw,h⟩:=cq h
  obtain ⟨dQ,qe,h⟩:=cj h
  refine SC 5 rf ?_
  obtain ⟨Qs,Ov,f26⟩:=kQ.sl f0
  refine ai rfl (bL rfl Ov) ?_
  refine ai rfl (ak rfl) ?_
  refine ai rfl (cM (m:=(Int.toNat bE)) f26 rfl rfl rfl (az mw).1 (az mw).2) ?_
  refine ai rfl (pC (M:=aA) f26 (aE.idx (L:=aA) (m:=(a0.Own.length)) (k:=10) ((Int.toNat bE)) (az mw).2 rfl) rfl rfl (by decide)) ?_
  refine W0 (bI (M:=aA) (aE.id (L:=aA)) (a0.Own.getD (Int.toNat bE) default) dQ qe rfl rfl rfl rfl) ?_
  refine SL 3 rf ?_
  have h:=sj h; subst h
  exact RV rf (ra rf (aT _ _) rn) rf
def fW (n:Nat) (a0:aK) (a1:ah) (a2:Int) (a3:Bool):Option (List Int):=
 bd (fN n a1) fun aM =>
 c9 (fun xd (dj:(List Int)) (cT:Int) =>
 cn (decide (cT < (aM.length:Int))) (
 gu (dO cT aM.length) <|
 bd (gM n a0 a1 (aM.getD (Int.toNat cT) default)) fun jN =>
 gu (!((((jN.Kind == 3) && decide (0 ≤ a2)) && decide (a2 < 8)) == true) || dO (kN .i64 a2 7) 8) <|
 gu (dO cT aM.length) <|
 bd (gN n a1 (aM.getD (Int.toNat cT) default)) fun jL =>
 gu (dO cT aM.length) <|
 cn (((jL == (aM.getD (Int.toNat cT) default)) && (((!a3) && ((jN.Kind == 1) && (jN.Task == a2))) || (a3 && ((((jN.Kind == 3) && decide (0 ≤ a2)) && decide (a2 < 8)) && (jN.gp (Int.toNat (kN .i64 a2 7)))))))) (
 gu (dO cT aM.length) <|
 gu (j9 dj.length 1 8) <|
 lt (dj++([(aM.getD (Int.toNat cT) default)]):List Int) fun jK =>
 xd jK (wr .i64 (cT + 1))) (
 xd dj (wr .i64 (cT + 1)))) (
 some dj)) n ([]) 0
theorem mA {n a0 a1 a2 a3 r K} [bn K] {cv} (f0:(aH).rep K cv a0) {fq:List Value} (f1:(ay).rep K fq a1) (h:fW n a0 a1 a2 a3 = some r):Bw.Fn (α:=Value) Tryz.prog 12 [A cv,A fq, .int .i64 a2, .bool a3] K [] (fun v=>ko v r.length) (fun v=>v) (fun v=>[Row v 3 1 (LI .i64) r]):=by
 unfold fW at h
 refine fo Tryz.func12 (by kernel_rfl) rfl Tryz.ntmps12 rfl fun cx _ hro cZ hpre=>?_
 refine SC 2 rf ?_
 refine W1 rf (aV rfl) fun b4=>?_
 refine W1 rf (aV rfl) fun b5=>?_
 obtain ⟨aM,bX,h⟩:=aS h
 refine SL 10 rf ?_
 refine ai rfl (ae rfl (aL.len _ f1)) ?_
 refine ef rfl (eK (j7 (K:=K) (mo f1) bX) rfl kn) (fun rD fe=>?_)
 dsimp only [List.cons_append,List.nil_append]
 refine SL 10 rf ?_
 refine kW 3 1 (LI .i64) ?_
 obtain ⟨vZ,qM,h⟩:=kC h
 refine LO (β:=(List Int) × Int × Value) [2,3,4,5,10] [0,1,2,3] (fun (qJ,dj,cT,lN)=>[(9,lN),(11, .int .i64 cT)]) (fun (qJ,dj,cT,lN)=>[Row lN 3 1 (LI .i64) dj,Row rD 3 1 (LI .i64) aM, .cells b5 53 fq, .cells b4 64 cv]) (fun (qJ,dj,cT,lN)=>ko lN dj.length∧c9 vZ qJ dj cT = some r) (n,[],0, .slice none 0 0) ⟨⟨_,_,rfl⟩,h⟩ rf rf rf ?_
 rintro qJ ⟨dj,cT,lN⟩ ⟨tK,h⟩
 replace h:=kB qM h; obtain ⟨qJ,rfl,h⟩:=h
 refine SC 5 rf ?_
 refine ai rfl (dg (Fz.row (e:=3) (sz:=1) (L:=(LI .i64)) (xs:=aM) rfl fe) rfl) ?_
 refine SL 3 rf ?_
 refine dN h rf (fun hc h=>?_) fun hc h=>?_
 ·
  refine SC 5 rf ?_
  obtain ⟨oB,h⟩:=cq h
  obtain ⟨jN,sF,h⟩:=aS h
  refine cK mixed (.gm [] [(0,[4]),(1,[5]),(2,[10]),(3,[11]),(4,[25,26]),(5,[27]),(6,[23,24,28])] (.alt 7 [] (.gm [(0,[4]),(1,[5]),(2,[10]),(3,[11]),(4,[25,26]),(5,[27]),(6,[23,24,28])] [] (.alt 8 [12,29] (.fin [] []) .no)) .no)) (by kernel_rfl) ?_
  refine T0 ?_
  refine NV rf rf (ae rfl (aL.len _ f0)) ?_
  refine NV rf rf (ae rfl (aL.len _ f1)) ?_
  refine NS 2 rf ?_
  refine NV rf rf (cM (m:=(Int.toNat cT)) (Fz.row (e:=3) (sz:=1) (L:=(LI .i64)) (xs:=aM) rfl fe) rfl rfl rfl (az oB).1 (az oB).2) ?_
  refine NV rf rf (cN (Fz.row (e:=3) (sz:=1) (L:=(LI .i64)) (xs:=aM) rfl fe) (aE.idx (L:=(LI .i64)) (m:=(aM.length)) (k:=1) ((Int.toNat cT)) (az oB).2 rfl) rfl) ?_
  refine NC rf rf (eX (K:=K) (mo f0) (mo f1) sF) rf ?_
  refine aP ?_
  refine X1 rf rf (bu (L:=aA) (z:=iZ) ⟨by kernel_rfl⟩) fun A7 _=>?_
  refine di ?_ ?_
  ·
   refine RO rf rf (ae rfl (aL.len _ f0)) rf ?_
   refine RO rf rf (ae rfl (aL.len _ f1)) rf ?_
   refine uw 2 rf rf ?_
   refine RO rf rf (cM (m:=(Int.toNat cT)) (Fz.row (e:=3) (sz:=1) (L:=(LI .i64)) (xs:=aM) rfl fe) rfl rfl rfl (az oB).1 (az oB).2) rf ?_
   refine RO rf rf (cN (Fz.row (e:=3) (sz:=1) (L:=(LI .i64)) (xs:=aM) rfl fe) (aE.idx (L:=(LI .i64)) (m:=(aM.length)) (k:=1) ((Int.toNat cT)) (az oB).2 rfl) rfl) rf ?_
   refine RO rf rf (ck (eX (K:=K) (mo f0) (mo f1) sF) rfl kn) rf ?_
   exact fD
  refine aP ?_
  refine X0 rf (bI (M:=aA) (aE.id (L:=aA)) jN jN rfl rfl rfl rfl rfl) ?_
  refine oF ?_
  refine SX 4 rf ?_
  refine ai rfl (bg jo rfl) ?_
  refine SL 2 rf ?_
  refine GB rf rf rf (fun hb=>aO rfl) ?_
  refine GB rf rf rf (fun hb=>bg kR (bC rfl hb)) ?_
  refine GB rf rf rf (fun hb=>ak rfl) ?_
  refine GB rf rf rf (fun hb=>ff (bC rfl hb) (bC rfl hb)) ?_
  refine ai rfl (bV rfl rfl) ?_
  obtain ⟨oV,h⟩:=cq h
  refine SL 6 rf ?_
  refine ai rfl (bg jo rfl) ?_
  refine SL 2 rf ?_
  refine GB rf rf rf (fun hb=>ak rfl) ?_
  refine GB rf rf rf (fun hb=>n8 (bC rfl hb) rfl) ?_
  refine ai rfl (bV rfl rfl) ?_
  refine ai rfl (ak rfl) ?_
  refine GB rf rf rf (fun hb=>ak rfl) ?_
  refine GB rf rf rf (fun hb=>rX (bC rfl hb) rfl) ?_
  refine ai rfl (bV rfl rfl) ?_
  refine ai rfl (ak rfl) ?_
  refine GB rf rf rf (fun hb=>ak rfl) ?_
  refine GB rf rf rf (fun hb=>rm (bC rfl hb) rfl) ?_
  refine GB rf rf rf (fun hb=>aO rfl) ?_
  refine GB rf rf rf (fun hb=>cm (m:=(Int.toNat (kN .i64 a2 7))) (bC rfl hb) (bC rfl hb) (az (iJ oV hb)).1 (az (iJ oV hb)).2) ?_
  refine GB rf rf rf (fun hb=>lI (fL.comp (aE.idx (L:=LB) (m:=8) (k:=1) ((Int.toNat (kN .i64 a2 7))) (az (iJ oV hb)).2 rfl)) (bC rfl hb)) ?_
  refine ai rfl (bV rfl rfl) ?_
  refine SL 4 rf ?_
  obtain ⟨nV,h⟩:=cq h
  obtain ⟨jL,yZ,h⟩:=aS h
  obtain ⟨wj,h⟩:=cq h
  refine cK mixed (.fin [] [(0,[5]),(1,[10]),(2,[11]),(3,[58,59]),(4,[60]),(5,[57,61]),(6,[10]),(7,[11]),(8,[63,64]),(9,[65]),(10,[62,66]),(11,[67]),(12,[3,68]),(13,[68,69]),(14,[68,70]),(15,[13,71]),(16,[68,71,72]),(17,[68,73]),(18,[3,74]),(19,[74,75]),(20,[14,76]),(21,[74,76,77]),(22,[68,74,78]),(23,[68,79])]) (by kernel_rfl) ?_
  refine F0 ?_
  refine NV rf rf (ae rfl (aL.len _ f1)) ?_
  refine NS 2 rf ?_
  refine NV rf rf (cM (m:=(Int.toNat cT)) (Fz.row (e:=3) (sz:=1) (L:=(LI .i64)) (xs:=aM) rfl fe) rfl rfl rfl (az nV).1 (az nV).2) ?_
  refine NV rf rf (cN (Fz.row (e:=3) (sz:=1) (L:=(LI .i64)) (xs:=aM) rfl fe) (aE.idx (L:=(LI .i64)) (m:=(aM.length)) (k:=1) ((Int.toNat cT)) (az nV).2 rfl) rfl) ?_
  refine NC rf rf (nX (K:=K) (mo f1) yZ) rf ?_
  refine NS 2 rf ?_
  refine NV rf rf (cM (m:=(Int.toNat cT)) (Fz.row (e:=3) (sz:=1) (L:=(LI .i64)) (xs:=aM) rfl fe) rfl rfl rfl (az wj).1 (az wj).2) ?_
  refine NV rf rf (cN (Fz.row (e:=3) (sz:=1) (L:=(LI .i64)) (xs:=aM) rfl fe) (aE.idx (L:=(LI .i64)) (m:=(aM.length)) (k:=1) ((Int.toNat cT)) (az wj).2 rfl) rfl) ?_
  refine NS 2 rf ?_
  refine NG rf rf (cY rfl rfl) (fun hb=>ak rfl) ?_
  refine NG rf rf (cY rfl rfl) (fun hb=>ja (bC rfl hb)) ?_
  refine NG rf rf (cY rfl rfl) (fun hb=>ak (bC rfl hb)) ?_
  refine NG rf rf (jx rfl rfl) (fun hb=>ak rfl) ?_
  refine NG rf rf (cY rfl rfl) (fun hb=>bV (bC rfl hb) (uL rfl hb)) ?_
  refine NG rf rf (cY rfl rfl) (fun hb=>ak (bC rfl hb)) ?_
  refine NG rf rf (jx rfl rfl) (fun hb=>ak rfl) ?_
  refine NG rf rf (jx rfl rfl) (fun hb=>ak (bC rfl hb)) ?_
  refine NG rf rf (jx rfl rfl) (fun hb=>ak rfl) ?_
  refine NG rf rf (jx rfl rfl) (fun hb=>bV (bC rfl hb) (uL rfl hb)) ?_
  refine NG rf rf (cY rfl rfl) (fun hb=>eF (bC rfl hb) (uL rfl hb)) ?_
  refine NV rf rf (bV rfl rfl) ?_
  refine aP ?_
  refine kf ?_
  refine dN h rf (fun hc h=>?_) fun hc h=>?_
  ·
   obtain ⟨wh,h⟩:=cq h
   obtain ⟨AZ,h⟩:=cq h
   obtain ⟨jK,AS,h⟩:=cj h
   refine SC 4 rf ?_
   refine ai rfl (cM (m:=(Int.toNat cT)) (Fz.row (e:=3) (sz:=1) (L:=(LI .i64)) (xs:=aM) rfl fe) rfl rfl rfl (az wh).1 (az wh).2) ?_
   refine ai rfl (cN (Fz.row (e:=3) (sz:=1) (L:=(LI .i64)) (xs:=aM) rfl fe) (aE.idx (L:=(LI .i64)) (m:=(aM.length)) (k:=1) ((Int.toNat cT)) (az wh).2 rfl) rfl) ?_
   refine ef rfl (ki (LI .i64) (aM.getD (Int.toNat cT) default) rfl rfl rfl rfl (by decide) (by decide)) (fun Ua _=>?_)
   refine ef rfl (jn (sz:=1) (L:=(LI .i64)) (xs:=dj) (y:=(aM.getD (Int.toNat cT) default)) (bytes:=8) rfl rfl rfl (dA AZ).1 (dA AZ).2) (fun RM KO=>?_)
   rw [← AS] at KO; rw [← AS]
   refine SL 9 rf ?_
   exact LN [2,3,4,5] (jK,wr .i64 (cT + 1),RM) ⟨KO,h⟩ rf rf rf
  ·
   refine SC 8 rf ?_
   exact LN [1,2,3,4] (dj,wr .i64 (cT + 1),lN) ⟨tK,h⟩ rf rf rf
 ·
  refine SC 12 rf ?_
  have h:=sj h; subst h
  exact dF lN rfl (.tmp rfl .nil) tK rfl (ks:=[0]) rfl (by decide)
structure de where
 Kind:Int
 Task:Int
 cG:Int
abbrev aU:aL de:=aL.via (LP (LI .u8) (LP (LI .u8) (LI .u8))) (fun x=>(x.Kind,x.Task,x.cG))
abbrev kO:de:=⟨0,0,0⟩
instance:Inhabited de:=⟨kO⟩
theorem kj:aE aU (LI .u8) 0 (fun x=>x.Kind) (fun x v=>{ x with Kind:=v }):=(aE.fst aE.id).via _ _ _ 0 rfl (fun _=>rfl) (fun _ _=>rfl)
theorem o9:aE aU (LI .u8) 1 (fun x=>x.Task) (fun x v=>{ x with Task:=v }):=(aE.snd (aE.fst aE.id)).via _ _ _ 1 rfl (fun _=>rfl) (fun _ _=>rfl)
theorem eM:aE aU (LI .u8) 2 (fun x=>x.cG) (fun x v=>{ x with cG:=v }):=(aE.snd (aE.snd aE.id)).via _ _ _ 2 rfl (fun _=>rfl) (fun _ _=>rfl)
def cD (x y:de):Bool:=x.Kind == y.Kind && x.Task == y.Task && x.cG == y.cG
theorem pe (x y:de):Value.bool (xY [(0,some .u8),(1,some .u8),(2,some .u8)] (aU.enc x) (aU.enc y)) = .bool (cD x y):=congrArg Value.bool (by show ((x.Kind == y.Kind) && ((x.Task == y.Task) && ((x.cG == y.cG) && true))) = (x.Kind == y.Kind && x.Task == y.Task && x.cG == y.cG); simp [Bool.and_assoc])
structure qH where
 root:Int
 own:de
abbrev ij:aL qH:=aL.via (LP (LI .u32) aU) (fun x=>(x.root,x.own))
abbrev zC:qH:=⟨0,kO⟩
theorem sL:aE ij (LI .u32) 0 (fun x=>x.root) (fun x v=>{ x with root:=v }):=(aE.fst aE.id).via _ _ _ 0 rfl (fun _=>rfl) (fun _ _=>rfl)
theorem uk:aE ij aU 1 (fun x=>x.own) (fun x v=>{ x with own:=v }):=(aE.snd aE.id).via _ _ _ 1 rfl (fun _=>rfl) (fun _ _=>rfl)
structure bO where
 slots:(Nat→qH)
abbrev ag:aL bO:=aL.via (LA ij 32) (fun x=>x.slots)
abbrev cB:bO:=⟨(fun _=>zC)⟩
theorem kS:aE ag (LA ij 32) 0 (fun x=>x.slots) (fun x v=>{ x with slots:=v }):=aE.id.via _ _ _ 0 rfl (fun _=>rfl) (fun _ _=>rfl)
def eW (n:Nat) (a0:bO) (a1:aq) (a2:Int):Option de:=
 bd (fA n a1 a2) fun aM =>
 bd (bR n aM) fun bE =>
 gu (!((!bE.2) == false) || dO bE.1 32) <|
 cn (((!bE.2) || (((a0.slots (Int.toNat bE.1)).root) != aM))) (
 lt ({ Kind:=0,Task:=0,cG:=0 }:de) fun jS =>
 some jS) (
 gu (dO bE.1 32) <|
 lt ((a0.slots (Int.toNat bE.1)).own:de) fun dB =>
 some dB)
theorem ew {n a0 a1 a2 r K} [bn K] {fq} (f1:(aj).rep K fq a1) (h:eW n a0 a1 a2 = some r):pD Tryz.prog 9 [.agg (ag.enc a0).toArray,A fq, .int .u32 a2] K (.agg (aU.enc r).toArray):=by
 unfold eW at h
 refine fo Tryz.func9 (by kernel_rfl) rfl Tryz.ntmps9 rfl fun cx _ hro cZ hpre=>?_
 refine SC 2 rf ?_
 refine W1 rf (cC ag a0 rfl rfl) fun b3=>?_
 refine W1 rf (aV rfl) fun b4=>?_
 refine W1 rf (bu (L:=aU) (z:=kO) ⟨by kernel_rfl⟩) fun b6=>?_
 obtain ⟨aM,bX,h⟩:=aS h
 refine SL 4 rf ?_
 refine ai rfl (ae rfl (aL.len _ f1)) ?_
 refine ai rfl (ak rfl) ?_
 refine CV (iH (K:=K) (mo f1) bX) rf rf ?_
 obtain ⟨bE,fc,h⟩:=aS h
 refine SL 6 rf ?_
 refine CV (cL fc) rf rf ?_
 obtain ⟨tR,h⟩:=cq h
 refine SL 13 rf ?_
 refine GB rf rf rf (fun hb=>ak rfl) ?_
 refine GB rf rf rf (fun hb=>aO rfl) ?_
 refine GB rf rf rf (fun hb=>fK (m:=(Int.toNat bE.1)) (bC rfl hb) (bC rfl hb) (az (iJ tR hb)).1 (az (iJ tR hb)).2) ?_
 refine GB rf rf rf (fun hb=>fC (bC rfl hb)) ?_
 refine GB rf rf rf (fun hb=>bg ((kS.c0 (aE.idx (L:=ij) (m:=32) (k:=4) ((Int.toNat bE.1)) (az (iJ tR hb)).2 rfl)).comp sL) (bC rfl hb)) ?_
 refine GB rf rf rf (fun hb=>ak rfl) ?_
 refine GB rf rf rf (fun hb=>mG (bC rfl hb) (bC rfl hb)) ?_
 refine ai rfl (eF rfl rfl) ?_
 refine SL 2 rf ?_
 refine dN h rf (fun hc h=>?_) fun hc h=>?_
 ·
  obtain ⟨jS,qf,h⟩:=cj h
  refine SC 2 rf ?_
  refine ai rfl (dI (cs:=aU.enc jS) rfl (by rw [qf]; rfl)) ?_
  refine W0 (bI (M:=aU) (aE.id (L:=aU)) jS jS rfl rfl rfl rfl rfl) ?_
  refine SL 4 rf ?_
  have h:=sj h; subst h
  exact RV rf (ra rf (aT _ _) rn) rf
 ·
  obtain ⟨tQ,h⟩:=cq h
  obtain ⟨dB,lF,h⟩:=cj h
  refine SC 6 rf ?_
  refine ai rfl (fK (m:=(Int.toNat bE.1)) rfl rfl (az tQ).1 (az tQ).2) ?_
  refine ai rfl (fC rfl) ?_
  refine ai rfl (bj (M:=aU) ((kS.c0 (aE.idx (L:=ij) (m:=32) (k:=4) ((Int.toNat bE.1)) (az tQ).2 rfl)).comp uk) rfl rfl) ?_
  refine W0 (bI (M:=aU) (aE.id (L:=aU)) ((a0.slots (Int.toNat bE.1)).own) dB lF rfl rfl rfl rfl) ?_
  refine SL 3 rf ?_
  have h:=sj h; subst h
  exact RV rf (ra rf (aT _ _) rn) rf
def mR (n:Nat) (a0:Int):Option Int:=
 gu (decide (0 ≤ (kN .i64 a0 7))) <|
 some (sB .u8 1 (kN .i64 a0 7))
theorem pB {n a0 r}  (h:mR n a0 = some r):yz Tryz.prog 45 [.int .i64 a0] (.int .u8 r):=by
 unfold mR at h
 refine fI Tryz.func45 (by kernel_rfl) rfl Tryz.ntmps45 rfl (fun cx cZ hpre hro=>?_)
 obtain ⟨nE,h⟩:=cq h
 refine SC 8 rf ?_
 refine ai rfl (rm rfl rfl) ?_
 refine ai rfl (wP rfl rfl (FM nE)) ?_
 refine SL 4 rf ?_
 have h:=sj h; subst h
 exact RV rf (rt rf rn) rf
def iy (n:Nat) (a0:de) (a1:Int):Option Bool:=
 cl ((((a0.Kind == 3) && decide (0 ≤ a1)) && decide (a1 < 8)) == true) (mR n a1) default fun aM =>
 some ((((a0.Kind == 3) && decide (0 ≤ a1)) && decide (a1 < 8)) && ((kN .u8 a0.cG aM) != 0))
theorem q9 {n a0 a1 r q1} (h:iy n a0 a1 = some r):Bw.Fn (α:=Unit) Tryz.prog 44 [.agg (aU.enc a0).toArray,Ptr q1 0] (Ar (bN [.cells q1 3 ((LI .i64).enc a1)]) (fun _=>True)) [.cells q1 3 ((LI .i64).enc a1)] (fun _=>True) (fun _=>(.bool r)) (fun _=>[.cells q1 3 ((LI .i64).enc a1)]):=by
 unfold iy at h
 refine fI Tryz.func44 (by kernel_rfl) rfl Tryz.ntmps44 rfl (fun cx cZ hpre hro=>?_)
 refine SC 2 rf ?_
 refine W1 rf (cC aU a0 rfl rfl) fun b2=>?_
 refine SL 4 rf ?_
 obtain ⟨aM,bX,_,h⟩:=gQ h
 refine cK mixed (.gm [] [(0,[2]),(1,[4]),(2,[5]),(3,[6]),(4,[1,7]),(5,[7,8]),(6,[7,9]),(7,[10]),(8,[1,11]),(9,[11,12]),(10,[11,13]),(11,[14]),(12,[2,15]),(13,[15,16]),(14,[1,15]),(15,[15,18]),(16,[15,17,19]),(17,[15,20]),(18,[15,21])] (.alt 19 [22] (.fin [] []) .no)) (by kernel_rfl) ?_
 refine T0 ?_
 refine NS 1 rf ?_
 refine NV rf rf (bg kj rfl) ?_
 refine NS 2 rf ?_
 refine NG rf rf (cY rfl rfl) (fun hb=>bg (aE.id (L:=(LI .i64))) rfl) ?_
 refine NG rf rf (cY rfl rfl) (fun hb=>n8 (bC rfl hb) rfl) ?_
 refine NV rf rf (bV rfl rfl) ?_
 refine NS 1 rf ?_
 refine NG rf rf (cY rfl rfl) (fun hb=>bg (aE.id (L:=(LI .i64))) rfl) ?_
 refine NG rf rf (cY rfl rfl) (fun hb=>rX (bC rfl hb) rfl) ?_
 refine NV rf rf (bV rfl rfl) ?_
 refine NS 1 rf ?_
 refine NG rf rf (cY rfl rfl) (fun hb=>aO rfl) ?_
 refine NG rf rf (cY rfl rfl) (fun hb=>bg eM (bC rfl hb)) ?_
 refine NG rf rf (cY rfl rfl) (fun hb=>bg (aE.id (L:=(LI .i64))) rfl) ?_
 refine NG rf rf (cY rfl rfl) (fun hb=>ck (pB (bX hb)) (aB (bC rfl hb) rfl) (fun _ _ _=>trivial)) ?_
 refine NG rf rf (cY rfl rfl) (fun hb=>rm (bC rfl hb) (bC rfl hb)) ?_
 refine NG rf rf (cY rfl rfl) (fun hb=>mG (bC rfl hb) rfl) ?_
 refine NV rf rf (bV rfl rfl) ?_
 refine aP ?_
 refine XV rf rf (bQ rfl) ?_
 refine oF ?_
 refine SX 2 rf ?_
 have h:=sj h; subst h
 exact dF () rfl (.tmp rfl .nil) trivial rfl (ks:=[1]) rfl (by decide)
def dW (n:Nat) (a0:bO) (a1:aq) (n6:Int):Option (List Int):=
 bd (fZ n a1.book) fun aM =>
 c9 (fun xd (dj:(List Int)) (cT:Int) =>
 cn (decide (cT < (aM.length:Int))) (
 gu (dO cT aM.length) <|
 bd (fA n a1 (aM.getD (Int.toNat cT) default)) fun jN =>
 cl ((jN == (aM.getD (Int.toNat cT) default)) == true) (eW n a0 a1 (aM.getD (Int.toNat cT) default)) default fun gl =>
 cl ((jN == (aM.getD (Int.toNat cT) default)) == true) (iy n gl n6) default fun dX =>
 cn (((jN == (aM.getD (Int.toNat cT) default)) && dX)) (
 gu (j9 dj.length 1 4) <|
 lt (dj++([(aM.getD (Int.toNat cT) default)]):List Int) fun hY =>
 xd hY (wr .i64 (cT + 1))) (
 xd dj (wr .i64 (cT + 1)))) (
 some dj)) n ([]) 0
theorem jP {n a0 a1 n6 r K} [bn K] {fq} (f1:(aj).rep K fq a1) {p7:Nat} (h:dW n a0 a1 n6 = some r):Nf Tryz.prog 41 [.agg (ag.enc a0).toArray,A fq, .func (.func 44) #[] #[Ptr p7 0]] K [.cells p7 3 ((LI .i64).enc n6)] (fun J v ho=>∃u0,v = (u0)∧ho = [.cells p7 3 ((LI .i64).enc n6)]∧Fz (fun w=>K w∧J w) u0 (LI .u32) (r)):=by
 unfold dW at h
 refine fI Tryz.func41 (by kernel_rfl) rfl Tryz.ntmps41 rfl (fun cx cZ hpre hro=>?_)
 haveI:=jA cZ hpre
 refine SC 2 rf ?_
 refine W1 rf (cC ag a0 rfl rfl) fun b3=>?_
 refine W1 rf (aV rfl) fun b4=>?_
 obtain ⟨aM,bX,h⟩:=aS h
 refine SL 12 rf ?_
 refine ai rfl (bf rfl (bq.iff.1 (aR.get f1)) (aT _ _)) ?_
 refine ef rfl (eK (kJ bX) rfl (fun _ _ _=>trivial)) (fun rD fe=>?_)
 dsimp only [List.cons_append,List.nil_append]
 refine ai rfl (dg (Fz.row (e:=32) (sz:=1) (L:=(LI .u32)) (xs:=aM) rfl fe) rfl) ?_
 refine SL 4 rf ?_
 refine kW 32 1 (LI .u32) ?_
 obtain ⟨vZ,qM,h⟩:=kC h
 refine LO (β:=(List Int) × Int × Value) [2,3,4,12,13] [0,1,2,3,4] (fun (qJ,dj,cT,lN)=>[(7,lN),(14, .int .i64 cT)]) (fun (qJ,dj,cT,lN)=>[Row lN 32 1 (LI .u32) dj,Row rD 32 1 (LI .u32) aM, .cells b4 41 fq, .cells b3 60 (ag.enc a0), .cells p7 3 ((LI .i64).enc n6)]) (fun (qJ,dj,cT,lN)=>ko lN dj.length∧c9 vZ qJ dj cT = some r) (n,[],0, .slice none 0 0) ⟨⟨_,_,rfl⟩,h⟩ rf rf rf ?_
 rintro qJ ⟨dj,cT,lN⟩ ⟨tK,h⟩
 replace h:=kB qM h; obtain ⟨qJ,rfl,h⟩:=h
 refine SC 6 rf ?_
 refine dN h rf (fun hc h=>?_) fun hc h=>?_
 ·
  obtain ⟨oB,h⟩:=cq h
  refine SC 6 rf ?_
  refine ai rfl (cM (m:=(Int.toNat cT)) (Fz.row (e:=32) (sz:=1) (L:=(LI .u32)) (xs:=aM) rfl fe) rfl rfl rfl (az oB).1 (az oB).2) ?_
  refine ai rfl (cN (Fz.row (e:=32) (sz:=1) (L:=(LI .u32)) (xs:=aM) rfl fe) (aE.idx (L:=(LI .u32)) (m:=(aM.length)) (k:=1) ((Int.toNat cT)) (az oB).2 rfl) rfl) ?_
  obtain ⟨jN,sF,h⟩:=aS h
  obtain ⟨gl,m7,_,h⟩:=gQ h
  obtain ⟨dX,qL,_,h⟩:=gQ h
  refine SL 5 rf ?_
  refine ai rfl (ae rfl (aL.len _ f1)) ?_
  refine ai rfl (ak rfl) ?_
  refine CV (iH (K:=K) (mo f1) sF) rf rf ?_
  refine SL 3 rf ?_
  refine GB rf rf rf (fun hb=>ak rfl) ?_
  refine GB rf rf rf (fun hb=>bj (M:=ag) (aE.id (L:=ag)) rfl rfl) ?_
  refine GB rf rf rf (fun hb=>ae rfl (aL.len _ f1)) ?_
  refine GB rf rf rf (fun hb=>ak rfl) ?_
  refine GB rf rf rf (fun hb=>ck (ew (K:=K) (mo f1) (m7 hb)) (aB (bC rfl hb) (aB (bC rfl hb) (aB (bC rfl hb) rfl))) kn) ?_
  refine vC (cY rfl rfl) rfl (fun hb=>q9 (qL hb)) (fun hb=>(bC rfl hb)) (fun hb=>(aB (bC rfl hb) rfl)) rfl (ni:=[.cells p7 3 ((LI .i64).enc n6)]) (JH:=[Row lN 32 1 (LI .u32) dj,Row rD 32 1 (LI .u32) aM, .cells b4 41 fq, .cells b3 60 (ag.enc a0)]) (ks:=[4,0,1,2,3]) rfl (by decide) (fun hb=>inferInstance) ?_
  dsimp only [List.cons_append,List.nil_append]
  refine ai rfl (bV rfl rfl) ?_
  refine SL 2 rf ?_
  refine dN h rf (fun hc h=>?_) fun hc h=>?_
  ·
   obtain ⟨qO,h⟩:=cq h
   obtain ⟨hY,qb,h⟩:=cj h
   refine SC 3 rf ?_
   refine ef rfl (ki (LI .u32) (aM.getD (Int.toNat cT) default) rfl rfl rfl rfl (by decide) (by decide)) (fun Q7 _=>?_)
   refine ef rfl (jn (sz:=1) (L:=(LI .u32)) (xs:=dj) (y:=(aM.getD (Int.toNat cT) default)) (bytes:=4) rfl rfl rfl (dA qO).1 (dA qO).2) (fun Gm uJ=>?_)
   rw [← qb] at uJ; rw [← qb]
   refine SL 8 rf ?_
   exact LN [2,3,4,5,1] (hY,wr .i64 (cT + 1),Gm) ⟨uJ,h⟩ rf rf rf
  ·
   refine SC 7 rf ?_
   exact LN [1,2,3,4,0] (dj,wr .i64 (cT + 1),lN) ⟨tK,h⟩ rf rf rf
 ·
  refine SC 12 rf ?_
  have h:=sj h; subst h
  refine bH (R:=[Row lN 32 1 (LI .u32) dj]) (H':=[.cells p7 3 ((LI .i64).enc n6)]) (ks:=[0,4]) rfl (by decide) ?_
  have Ny:Fz (fun w=>K w∧(Hs [.ext (bN [Row lN 32 1 (LI .u32) dj]) (Hs [Row lN 32 1 (LI .u32) dj])]) w) lN (LI .u32) dj:=(Fz.row (e:=32) (sz:=1) (L:=(LI .u32)) (xs:=dj) rfl tK).mono kx
  exact dF (lN,[.cells p7 3 ((LI .i64).enc n6)],bN [Row lN 32 1 (LI .u32) dj],Hs [Row lN 32 1 (LI .u32) dj]) rfl (.tmp rfl .nil) ⟨_,rfl,rfl,Ny⟩ rfl (ks:=[0,1]) rfl (by decide)
def iC (n:Nat) (a0:bO) (a1:aq) (a2:Int):Option (List Int):=
 bd (dW n a0 a1 a2) fun aM =>
 some aM
theorem ot {n a0 a1 a2 r K} [bn K] {fq} (f1:(aj).rep K fq a1) (h:iC n a0 a1 a2 = some r):pY Tryz.prog 13 [.agg (ag.enc a0).toArray,A fq, .int .i64 a2] K (fun J v=>Fz (fun w=>K w∧J w) v (LI .u32) r):=by
 unfold iC at h
 refine fo Tryz.func13 (by kernel_rfl) rfl Tryz.ntmps13 rfl fun cx _ hro cZ hpre=>?_
 refine SC 2 rf ?_
 refine W1 rf (cC ag a0 rfl rfl) fun b3=>?_
 refine W1 rf (aV rfl) fun b4=>?_
 refine W1 rf (cC (LI .i64) a2 rfl rfl) fun b5=>?_
 obtain ⟨aM,bX,h⟩:=aS h
 refine SL 5 rf ?_
 refine ai rfl (bj (M:=ag) (aE.id (L:=ag)) rfl rfl) ?_
 refine ai rfl (ae rfl (aL.len _ f1)) ?_
 refine ai rfl (m6 rfl) ?_
 refine ef rfl (jc (K:=K) (ni:=[.cells b5 3 ((LI .i64).enc a2)]) (rest:=[.cells b4 41 fq, .cells b3 60 (ag.enc a0)]) (ks:=[0,1,2]) (jP (K:=K) (mo f1) bX) rfl rfl rfl rfl (by decide)) (fun ⟨vI,KW,eN,kq⟩ y7=>?_)
 obtain ⟨yw,rfl,rfl,f26⟩:=y7
 replace f26:Fz (fun w=>K w∧Hs [.ext eN kq] w) vI (LI .u32) aM:=f26
 dsimp only [List.cons_append,List.nil_append]
 refine SL 4 rf ?_
 have h:=sj h; subst h
 refine bH (R:=[.ext eN kq]) (H':=[]) (ks:=[0]) rfl (by decide) ?_
 have JS:Fz (fun w=>K w∧(Hs [.ext (bN [.ext eN kq]) (Hs [.ext eN kq])]) w) vI (LI .u32) aM:=f26.mono kx
 exact dF (vI,bN [.ext eN kq],Hs [.ext eN kq]) rfl (.tmp rfl .nil) JS rfl (ks:=[0]) rfl (by decide)
def ji (n:Nat) (a0:de) (a1:Int):Option Bool:=
 some ((a0.Kind == 1) && ((wr .i64 a0.Task) == a1))
theorem qu {n a0 a1 r q1} (h:ji n a0 a1 = some r):Bw.Fn (α:=Unit) Tryz.prog 42 [.agg (aU.enc a0).toArray,Ptr q1 0] (Ar (bN [.cells q1 3 ((LI .i64).enc a1)]) (fun _=>True)) [.cells q1 3 ((LI .i64).enc a1)] (fun _=>True) (fun _=>(.bool r)) (fun _=>[.cells q1 3 ((LI .i64).enc a1)]):=by
 unfold ji at h
 refine fI Tryz.func42 (by kernel_rfl) rfl Tryz.ntmps42 rfl (fun cx cZ hpre hro=>?_)
 refine SC 2 rf ?_
 refine W1 rf (cC aU a0 rfl rfl) fun b2=>?_
 refine SL 6 rf ?_
 refine ai rfl (bg kj rfl) ?_
 refine SL 2 rf ?_
 refine GB rf rf rf (fun hb=>aO rfl) ?_
 refine GB rf rf rf (fun hb=>bg o9 (bC rfl hb)) ?_
 refine GB rf rf rf (fun hb=>wT (bC rfl hb) rfl) ?_
 refine GB rf rf rf (fun hb=>bg (aE.id (L:=(LI .i64))) rfl) ?_
 refine GB rf rf rf (fun hb=>ff (bC rfl hb) (bC rfl hb)) ?_
 refine ai rfl (bV rfl rfl) ?_
 refine SL 4 rf ?_
 have h:=sj h; subst h
 exact dF () rfl (.tmp rfl .nil) trivial rfl (ks:=[1]) rfl (by decide)
def dS (n:Nat) (a0:bO) (a1:aq) (n6:Int):Option (List Int):=
 bd (fZ n a1.book) fun aM =>
 c9 (fun xd (dj:(List Int)) (cT:Int) =>
 cn (decide (cT < (aM.length:Int))) (
 gu (dO cT aM.length) <|
 bd (fA n a1 (aM.getD (Int.toNat cT) default)) fun jN =>
 cl ((jN == (aM.getD (Int.toNat cT) default)) == true) (eW n a0 a1 (aM.getD (Int.toNat cT) default)) default fun gl =>
 cl ((jN == (aM.getD (Int.toNat cT) default)) == true) (ji n gl n6) default fun dX =>
 cn (((jN == (aM.getD (Int.toNat cT) default)) && dX)) (
 gu (j9 dj.length 1 4) <|
 lt (dj++([(aM.getD (Int.toNat cT) default)]):List Int) fun hY =>
 xd hY (wr .i64 (cT + 1))) (
 xd dj (wr .i64 (cT + 1)))) (
 some dj)) n ([]) 0
theorem jI {n a0 a1 n6 r K} [bn K] {fq} (f1:(aj).rep K fq a1) {p7:Nat} (h:dS n a0 a1 n6 = some r):Nf Tryz.prog 41 [.agg (ag.enc a0).toArray,A fq, .func (.func 42) #[] #[Ptr p7 0]] K [.cells p7 3 ((LI .i64).enc n6)] (fun J v ho=>∃u0,v = (u0)∧ho = [.cells p7 3 ((LI .i64).enc n6)]∧Fz (fun w=>K w∧J w) u0 (LI .u32) (r)):=by
 unfold dS at h
 refine fI Tryz.func41 (by kernel_rfl) rfl Tryz.ntmps41 rfl (fun cx cZ hpre hro=>?_)
 haveI:=jA cZ hpre
 refine SC 2 rf ?_
 refine W1 rf (cC ag a0 rfl rfl) fun b3=>?_
 refine W1 rf (aV rfl) fun b4=>?_
 obtain ⟨aM,bX,h⟩:=aS h
 refine SL 12 rf ?_
 refine ai rfl (bf rfl (bq.iff.1 (aR.get f1)) (aT _ _)) ?_
 refine ef rfl (eK (kJ bX) rfl (fun _ _ _=>trivial)) (fun rD fe=>?_)
 dsimp only [List.cons_append,List.nil_append]
 refine ai rfl (dg (Fz.row (e:=32) (sz:=1) (L:=(LI .u32)) (xs:=aM) rfl fe) rfl) ?_
 refine SL 4 rf ?_
 refine kW 32 1 (LI .u32) ?_
 obtain ⟨vZ,qM,h⟩:=kC h
 refine LO (β:=(List Int) × Int × Value) [2,3,4,12,13] [0,1,2,3,4] (fun (qJ,dj,cT,lN)=>[(7,lN),(14, .int .i64 cT)]) (fun (qJ,dj,cT,lN)=>[Row lN 32 1 (LI .u32) dj,Row rD 32 1 (LI .u32) aM, .cells b4 41 fq, .cells b3 60 (ag.enc a0), .cells p7 3 ((LI .i64).enc n6)]) (fun (qJ,dj,cT,lN)=>ko lN dj.length∧c9 vZ qJ dj cT = some r) (n,[],0, .slice none 0 0) ⟨⟨_,_,rfl⟩,h⟩ rf rf rf ?_
 rintro qJ ⟨dj,cT,lN⟩ ⟨tK,h⟩
 replace h:=kB qM h; obtain ⟨qJ,rfl,h⟩:=h
 refine SC 6 rf ?_
 refine dN h rf (fun hc h=>?_) fun hc h=>?_
 ·
  obtain ⟨oB,h⟩:=cq h
  refine SC 6 rf ?_
  refine ai rfl (cM (m:=(Int.toNat cT)) (Fz.row (e:=32) (sz:=1) (L:=(LI .u32)) (xs:=aM) rfl fe) rfl rfl rfl (az oB).1 (az oB).2) ?_
  refine ai rfl (cN (Fz.row (e:=32) (sz:=1) (L:=(LI .u32)) (xs:=aM) rfl fe) (aE.idx (L:=(LI .u32)) (m:=(aM.length)) (k:=1) ((Int.toNat cT)) (az oB).2 rfl) rfl) ?_
  obtain ⟨jN,sF,h⟩:=aS h
  obtain ⟨gl,m7,_,h⟩:=gQ h
  obtain ⟨dX,qL,_,h⟩:=gQ h
  refine SL 5 rf ?_
  refine ai rfl (ae rfl (aL.len _ f1)) ?_
  refine ai rfl (ak rfl) ?_
  refine CV (iH (K:=K) (mo f1) sF) rf rf ?_
  refine SL 3 rf ?_
  refine GB rf rf rf (fun hb=>ak rfl) ?_
  refine GB rf rf rf (fun hb=>bj (M:=ag) (aE.id (L:=ag)) rfl rfl) ?_
  refine GB rf rf rf (fun hb=>ae rfl (aL.len _ f1)) ?_
  refine GB rf rf rf (fun hb=>ak rfl) ?_
  refine GB rf rf rf (fun hb=>ck (ew (K:=K) (mo f1) (m7 hb)) (aB (bC rfl hb) (aB (bC rfl hb) (aB (bC rfl hb) rfl))) kn) ?_
  refine vC (cY rfl rfl) rfl (fun hb=>qu (qL hb)) (fun hb=>(bC rfl hb)) (fun hb=>(aB (bC rfl hb) rfl)) rfl (ni:=[.cells p7 3 ((LI .i64).enc n6)]) (JH:=[Row lN 32 1 (LI .u32) dj,Row rD 32 1 (LI .u32) aM, .cells b4 41 fq, .cells b3 60 (ag.enc a0)]) (ks:=[4,0,1,2,3]) rfl (by decide) (fun hb=>inferInstance) ?_
  dsimp only [List.cons_append,List.nil_append]
  refine ai rfl (bV rfl rfl) ?_
  refine SL 2 rf ?_
  refine dN h rf (fun hc h=>?_) fun hc h=>?_
  ·
   obtain ⟨qO,h⟩:=cq h
   obtain ⟨hY,qb,h⟩:=cj h
   refine SC 3 rf ?_
   refine ef rfl (ki (LI .u32) (aM.getD (Int.toNat cT) default) rfl rfl rfl rfl (by decide) (by decide)) (fun Q7 _=>?_)
   refine ef rfl (jn (sz:=1) (L:=(LI .u32)) (xs:=dj) (y:=(aM.getD (Int.toNat cT) default)) (bytes:=4) rfl rfl rfl (dA qO).1 (dA qO).2) (fun Gm uJ=>?_)
   rw [← qb] at uJ; rw [← qb]
   refine SL 8 rf ?_
   exact LN [2,3,4,5,1] (hY,wr .i64 (cT + 1),Gm) ⟨uJ,h⟩ rf rf rf
  ·
   refine SC 7 rf ?_
   exact LN [1,2,3,4,0] (dj,wr .i64 (cT + 1),lN) ⟨tK,h⟩ rf rf rf
 ·
  refine SC 12 rf ?_
  have h:=sj h; subst h
  refine bH (R:=[Row lN 32 1 (LI .u32) dj]) (H':=[.cells p7 3 ((LI .i64).enc n6)]) (ks:=[0,4]) rfl (by decide) ?_
  have Ny:Fz (fun w=>K w∧(Hs [.ext (bN [Row lN 32 1 (LI .u32) dj]) (Hs [Row lN 32 1 (LI .u32) dj])]) w) lN (LI .u32) dj:=(Fz.row (e:=32) (sz:=1) (L:=(LI .u32)) (xs:=dj) rfl tK).mono kx
  exact dF (lN,[.cells p7 3 ((LI .i64).enc n6)],bN [Row lN 32 1 (LI .u32) dj],Hs [Row lN 32 1 (LI .u32) dj]) rfl (.tmp rfl .nil) ⟨_,rfl,rfl,Ny⟩ rfl (ks:=[0,1]) rfl (by decide)
def gV (n:Nat) (a0:bO) (a1:aq) (a2:Int):Option (List Int):=
 bd (dS n a0 a1 a2) fun aM =>
 some aM
theorem nH {n a0 a1 a2 r K} [bn K] {fq} (f1:(aj).rep K fq a1) (h:gV n a0 a1 a2 = some r):pY Tryz.prog 11 [.agg (ag.enc a0).toArray,A fq, .int .i64 a2] K (fun J v=>Fz (fun w=>K w∧J w) v (LI .u32) r):=by
 unfold gV at h
 refine fo Tryz.func11 (by kernel_rfl) rfl Tryz.ntmps11 rfl fun cx _ hro cZ hpre=>?_
 refine SC 2 rf ?_
 refine W1 rf (cC ag a0 rfl rfl) fun b3=>?_
 refine W1 rf (aV rfl) fun b4=>?_
 refine W1 rf (cC (LI .i64) a2 rfl rfl) fun b5=>?_
 obtain ⟨aM,bX,h⟩:=aS h
 refine SL 5 rf ?_
 refine ai rfl (bj (M:=ag) (aE.id (L:=ag)) rfl rfl) ?_
 refine ai rfl (ae rfl (aL.len _ f1)) ?_
 refine ai rfl (m6 rfl) ?_
 refine ef rfl (jc (K:=K) (ni:=[.cells b5 3 ((LI .i64).enc a2)]) (rest:=[.cells b4 41 fq, .cells b3 60 (ag.enc a0)]) (ks:=[0,1,2]) (jI (K:=K) (mo f1) bX) rfl rfl rfl rfl (by decide)) (fun ⟨vI,KW,eN,kq⟩ y7=>?_)
 obtain ⟨yw,rfl,rfl,f26⟩:=y7
 replace f26:Fz (fun w=>K w∧Hs [.ext eN kq] w) vI (LI .u32) aM:=f26
 dsimp only [List.cons_append,List.nil_append]
 refine SL 4 rf ?_
 have h:=sj h; subst h
 refine bH (R:=[.ext eN kq]) (H':=[]) (ks:=[0]) rfl (by decide) ?_
 have JS:Fz (fun w=>K w∧(Hs [.ext (bN [.ext eN kq]) (Hs [.ext eN kq])]) w) vI (LI .u32) aM:=f26.mono kx
 exact dF (vI,bN [.ext eN kq],Hs [.ext eN kq]) rfl (.tmp rfl .nil) JS rfl (ks:=[0]) rfl (by decide)
def kH (n:Nat) (a0:aq) (a1:ah) (a2:bO) (a3:aK):Option Bool:=
 bd (fN n a1) fun aM =>
 eu (fun Et (dB:Int) =>
 cn (decide (dB < (aM.length:Int))) (
 gu (dO dB aM.length) <|
 bd (eW n a2 a0 (wr .u32 (aM.getD (Int.toNat dB) default))) fun dj =>
 gu (dO dB aM.length) <|
 bd (gM n a3 a1 (aM.getD (Int.toNat dB) default)) fun jR =>
 c9 (fun Cm (gq:Int) (eR:Int) =>
 cn (decide (eR < 8)) (
 gu (dO eR 8) <|
 cn ((jR.gp (Int.toNat eR))) (
 gu (decide (0 ≤ eR)) <|
 Cm (I4 .u8 gq (sB .u8 1 eR)) (wr .i64 (eR + 1))) (
 Cm gq (wr .i64 (eR + 1)))) (
 cn (((((wr .i64 dj.Kind) != jR.Kind) || ((wr .i64 dj.Task) != jR.Task)) || (dj.cG != gq))) (
 some false) (
 Et (wr .i64 (dB + 1))))) n 0 0) (
 some true)) n 0
theorem wJ {n a0 a1 a2 a3 r K} [bn K] {cv} (f0:(aj).rep K cv a0) {fq:List Value} (f1:(ay).rep K fq a1) {FQ:List Value} (f3:(aH).rep K FQ a3) (h:kH n a0 a1 a2 a3 = some r):pD Tryz.prog 7 [A cv,A fq, .agg (ag.enc a2).toArray,A FQ] K (.bool r):=by
 unfold kH at h
 refine fo Tryz.func7 (by kernel_rfl) rfl Tryz.ntmps7 rfl fun cx _ hro cZ hpre=>?_
 refine SC 2 rf ?_
 refine W1 rf (aV rfl) fun b4=>?_
 refine W1 rf (aV rfl) fun b5=>?_
 refine W1 rf (cC ag a2 rfl rfl) fun b6=>?_
 refine W1 rf (aV rfl) fun b7=>?_
 obtain ⟨aM,bX,h⟩:=aS h
 refine SL 5 rf ?_
 refine ai rfl (ae rfl (aL.len _ f1)) ?_
 refine ef rfl (eK (j7 (K:=K) (mo f1) bX) rfl kn) (fun rD fe=>?_)
 dsimp only [List.cons_append,List.nil_append]
 refine SL 10 rf ?_
 obtain ⟨NU,K7,h⟩:=mT h
 refine LO (β:=Int) [4,5,6,7,9] [0,1,2,3,4] (fun (J5,dB)=>[(10, .int .i64 dB)]) (fun (J5,dB)=>[Row rD 3 1 (LI .i64) aM, .cells b7 64 FQ, .cells b6 60 (ag.enc a2), .cells b5 53 fq, .cells b4 41 cv]) (fun (J5,dB)=>eu NU J5 dB = some r) (n,0) h rf rf rf ?_
 rintro J5 dB h
 replace h:=mS K7 h; obtain ⟨J5,rfl,h⟩:=h
 refine SC 5 rf ?_
 refine ai rfl (dg (Fz.row (e:=3) (sz:=1) (L:=(LI .i64)) (xs:=aM) rfl fe) rfl) ?_
 refine SL 3 rf ?_
 refine dN h rf (fun hc h=>?_) fun hc h=>?_
 ·
  refine SC 4 rf ?_
  obtain ⟨nW,h⟩:=cq h
  obtain ⟨dj,tH,h⟩:=aS h
  obtain ⟨mu,h⟩:=cq h
  obtain ⟨jR,oU,h⟩:=aS h
  refine CU (α:=Nat × Nat) [4,5,6,7,9,10] rf (fun (xh,A7)=>[(11,Ptr xh 0),(12,Ptr A7 0)]) (fun (xh,A7)=>[.cells A7 113 (aA.enc jR), .cells xh 55 (aU.enc dj),Row rD 3 1 (LI .i64) aM, .cells b7 64 FQ, .cells b6 60 (ag.enc a2), .cells b5 53 fq, .cells b4 41 cv]) (fun (xh,A7)=>True) ?_ ?_
  ·
   refine cK mixed (.gm [] [(0,[6]),(1,[4]),(2,[9]),(3,[10]),(4,[25,26]),(5,[27]),(6,[28]),(7,[23,24,29]),(8,[7]),(9,[5]),(10,[9]),(11,[10]),(12,[33,34]),(13,[35]),(14,[31,32,36])] (.alt 15 [] (.gm [(0,[6]),(1,[4]),(2,[9]),(3,[10]),(4,[25,26]),(5,[27]),(6,[28]),(7,[23,24,29]),(8,[7]),(9,[5]),(10,[9]),(11,[10]),(12,[33,34]),(13,[35]),(14,[31,32,36])] [] (.alt 16 [] (.gm [(0,[6]),(1,[4]),(2,[9]),(3,[10]),(4,[25,26]),(5,[27]),(6,[28]),(7,[23,24,29]),(8,[7]),(9,[5]),(10,[9]),(11,[10]),(12,[33,34]),(13,[35]),(14,[31,32,36])] [] (.alt 17 [11,30] (.gm [] [] (.alt 18 [12,37] (.fin [] []) .no)) .no)) .no)) (.alt 16 [] (.gm [(0,[6]),(1,[4]),(2,[9]),(3,[10]),(4,[25,26]),(5,[27]),(6,[28]),(7,[23,24,29]),(8,[7]),(9,[5]),(10,[9]),(11,[10]),(12,[33,34]),(13,[35]),(14,[31,32,36])] [] (.alt 15 [] (.gm [(0,[6]),(1,[4]),(2,[9]),(3,[10]),(4,[25,26]),(5,[27]),(6,[28]),(7,[23,24,29]),(8,[7]),(9,[5]),(10,[9]),(11,[10]),(12,[33,34]),(13,[35]),(14,[31,32,36])] [] (.alt 17 [11,30] (.gm [] [] (.alt 18 [12,37] (.fin [] []) .no)) .no)) .no)) .no))) (by kernel_rfl) ?_
   refine T0 ?_
   refine NV rf rf (bj (M:=ag) (aE.id (L:=ag)) rfl rfl) ?_
   refine NV rf rf (ae rfl (aL.len _ f0)) ?_
   refine NS 2 rf ?_
   refine NV rf rf (cM (m:=(Int.toNat dB)) (Fz.row (e:=3) (sz:=1) (L:=(LI .i64)) (xs:=aM) rfl fe) rfl rfl rfl (az nW).1 (az nW).2) ?_
   refine NV rf rf (cN (Fz.row (e:=3) (sz:=1) (L:=(LI .i64)) (xs:=aM) rfl fe) (aE.idx (L:=(LI .i64)) (m:=(aM.length)) (k:=1) ((Int.toNat dB)) (az nW).2 rfl) rfl) ?_
   refine NS 1 rf ?_
   refine NC rf rf (ew (K:=K) (mo f0) tH) rf ?_
   refine NV rf rf (ae rfl (aL.len _ f3)) ?_
   refine NV rf rf (ae rfl (aL.len _ f1)) ?_
   refine NS 2 rf ?_
   refine NV rf rf (cM (m:=(Int.toNat dB)) (Fz.row (e:=3) (sz:=1) (L:=(LI .i64)) (xs:=aM) rfl fe) rfl rfl rfl (az mu).1 (az mu).2) ?_
   refine NV rf rf (cN (Fz.row (e:=3) (sz:=1) (L:=(LI .i64)) (xs:=aM) rfl fe) (aE.idx (L:=(LI .i64)) (m:=(aM.length)) (k:=1) ((Int.toNat dB)) (az mu).2 rfl) rfl) ?_
   refine NC rf rf (eX (K:=K) (mo f3) (mo f1) oU) rf ?_
   refine aP ?_
   refine X2 rf rf (bu (L:=aU) (z:=kO) ⟨by kernel_rfl⟩) (fun xh _=>?_) ?_
   ·
    refine di ?_ ?_
    ·
     refine RO rf rf (bj (M:=ag) (aE.id (L:=ag)) rfl rfl) rf ?_
     refine RO rf rf (ae rfl (aL.len _ f0)) rf ?_
     refine uw 2 rf rf ?_
     refine RO rf rf (cM (m:=(Int.toNat dB)) (Fz.row (e:=3) (sz:=1) (L:=(LI .i64)) (xs:=aM) rfl fe) rfl rfl rfl (az nW).1 (az nW).2) rf ?_
     refine RO rf rf (cN (Fz.row (e:=3) (sz:=1) (L:=(LI .i64)) (xs:=aM) rfl fe) (aE.idx (L:=(LI .i64)) (m:=(aM.length)) (k:=1) ((Int.toNat dB)) (az nW).2 rfl) rfl) rf ?_
     refine uw 1 rf rf ?_
     refine RO rf rf (ck (ew (K:=K) (mo f0) tH) rfl kn) rf ?_
     refine RO rf rf (ae rfl (aL.len _ f3)) rf ?_
     refine RO rf rf (ae rfl (aL.len _ f1)) rf ?_
     refine uw 2 rf rf ?_
     refine RO rf rf (cM (m:=(Int.toNat dB)) (Fz.row (e:=3) (sz:=1) (L:=(LI .i64)) (xs:=aM) rfl fe) rfl rfl rfl (az mu).1 (az mu).2) rf ?_
     refine RO rf rf (cN (Fz.row (e:=3) (sz:=1) (L:=(LI .i64)) (xs:=aM) rfl fe) (aE.idx (L:=(LI .i64)) (m:=(aM.length)) (k:=1) ((Int.toNat dB)) (az mu).2 rfl) rfl) rf ?_
     refine RO rf rf (ck (eX (K:=K) (mo f3) (mo f1) oU) rfl kn) rf ?_
     exact fD
    refine aP ?_
    refine X1 rf rf (bu (L:=aA) (z:=iZ) ⟨by kernel_rfl⟩) fun A7 _=>?_
    refine di ?_ ?_
    ·
     refine RO rf rf (bj (M:=ag) (aE.id (L:=ag)) rfl rfl) rf ?_
     refine RO rf rf (ae rfl (aL.len _ f0)) rf ?_
     refine uw 2 rf rf ?_
     refine RO rf rf (cM (m:=(Int.toNat dB)) (Fz.row (e:=3) (sz:=1) (L:=(LI .i64)) (xs:=aM) rfl fe) rfl rfl rfl (az nW).1 (az nW).2) rf ?_
     refine RO rf rf (cN (Fz.row (e:=3) (sz:=1) (L:=(LI .i64)) (xs:=aM) rfl fe) (aE.idx (L:=(LI .i64)) (m:=(aM.length)) (k:=1) ((Int.toNat dB)) (az nW).2 rfl) rfl) rf ?_
     refine uw 1 rf rf ?_
     refine RO rf rf (ck (ew (K:=K) (mo f0) tH) rfl kn) rf ?_
     refine RO rf rf (ae rfl (aL.len _ f3)) rf ?_
     refine RO rf rf (ae rfl (aL.len _ f1)) rf ?_
     refine uw 2 rf rf ?_
     refine RO rf rf (cM (m:=(Int.toNat dB)) (Fz.row (e:=3) (sz:=1) (L:=(LI .i64)) (xs:=aM) rfl fe) rfl rfl rfl (az mu).1 (az mu).2) rf ?_
     refine RO rf rf (cN (Fz.row (e:=3) (sz:=1) (L:=(LI .i64)) (xs:=aM) rfl fe) (aE.idx (L:=(LI .i64)) (m:=(aM.length)) (k:=1) ((Int.toNat dB)) (az mu).2 rfl) rfl) rf ?_
     refine RO rf rf (ck (eX (K:=K) (mo f3) (mo f1) oU) rfl kn) rf ?_
     exact fD
    refine aP ?_
    refine X0 rf (bI (M:=aU) (aE.id (L:=aU)) dj dj rfl rfl rfl rfl rfl) ?_
    refine E8 ?_
    refine X0 rf (bI (M:=aA) (aE.id (L:=aA)) jR jR rfl rfl rfl rfl rfl) ?_
    refine oF ?_
    exact CE [0,1,2,3,4,5,6] (xh,A7) trivial rf rf rf
   refine X2 rf rf (bu (L:=aA) (z:=iZ) ⟨by kernel_rfl⟩) (fun A7 _=>?_) ?_
   ·
    refine di ?_ ?_
    ·
     refine RO rf rf (bj (M:=ag) (aE.id (L:=ag)) rfl rfl) rf ?_
     refine RO rf rf (ae rfl (aL.len _ f0)) rf ?_
     refine uw 2 rf rf ?_
     refine RO rf rf (cM (m:=(Int.toNat dB)) (Fz.row (e:=3) (sz:=1) (L:=(LI .i64)) (xs:=aM) rfl fe) rfl rfl rfl (az nW).1 (az nW).2) rf ?_
     refine RO rf rf (cN (Fz.row (e:=3) (sz:=1) (L:=(LI .i64)) (xs:=aM) rfl fe) (aE.idx (L:=(LI .i64)) (m:=(aM.length)) (k:=1) ((Int.toNat dB)) (az nW).2 rfl) rfl) rf ?_
     refine uw 1 rf rf ?_
     refine RO rf rf (ck (ew (K:=K) (mo f0) tH) rfl kn) rf ?_
     refine RO rf rf (ae rfl (aL.len _ f3)) rf ?_
     refine RO rf rf (ae rfl (aL.len _ f1)) rf ?_
     refine uw 2 rf rf ?_
     refine RO rf rf (cM (m:=(Int.toNat dB)) (Fz.row (e:=3) (sz:=1) (L:=(LI .i64)) (xs:=aM) rfl fe) rfl rfl rfl (az mu).1 (az mu).2) rf ?_
     refine RO rf rf (cN (Fz.row (e:=3) (sz:=1) (L:=(LI .i64)) (xs:=aM) rfl fe) (aE.idx (L:=(LI .i64)) (m:=(aM.length)) (k:=1) ((Int.toNat dB)) (az mu).2 rfl) rfl) rf ?_
     refine RO rf rf (ck (eX (K:=K) (mo f3) (mo f1) oU) rfl kn) rf ?_
     exact fD
    refine aP ?_
    refine X1 rf rf (bu (L:=aU) (z:=kO) ⟨by kernel_rfl⟩) fun xh _=>?_
    refine di ?_ ?_
    ·
     refine RO rf rf (bj (M:=ag) (aE.id (L:=ag)) rfl rfl) rf ?_
     refine RO rf rf (ae rfl (aL.len _ f0)) rf ?_
     refine uw 2 rf rf ?_
     refine RO rf rf (cM (m:=(Int.toNat dB)) (Fz.row (e:=3) (sz:=1) (L:=(LI .i64)) (xs:=aM) rfl fe) rfl rfl rfl (az nW).1 (az nW).2) rf ?_
     refine RO rf rf (cN (Fz.row (e:=3) (sz:=1) (L:=(LI .i64)) (xs:=aM) rfl fe) (aE.idx (L:=(LI .i64)) (m:=(aM.length)) (k:=1) ((Int.toNat dB)) (az nW).2 rfl) rfl) rf ?_
     refine uw 1 rf rf ?_
     refine RO rf rf (ck (ew (K:=K) (mo f0) tH) rfl kn) rf ?_
     refine RO rf rf (ae rfl (aL.len _ f3)) rf ?_
     refine RO rf rf (ae rfl (aL.len _ f1)) rf ?_
     refine uw 2 rf rf ?_
     refine RO rf rf (cM (m:=(Int.toNat dB)) (Fz.row (e:=3) (sz:=1) (L:=(LI .i64)) (xs:=aM) rfl fe) rfl rfl rfl (az mu).1 (az mu).2) rf ?_
     refine RO rf rf (cN (Fz.row (e:=3) (sz:=1) (L:=(LI .i64)) (xs:=aM) rfl fe) (aE.idx (L:=(LI .i64)) (m:=(aM.length)) (k:=1) ((Int.toNat dB)) (az mu).2 rfl) rfl) rf ?_
     refine RO rf rf (ck (eX (K:=K) (mo f3) (mo f1) oU) rfl kn) rf ?_
     exact fD
    refine aP ?_
    refine X0 rf (bI (M:=aU) (aE.id (L:=aU)) dj dj rfl rfl rfl rfl rfl) ?_
    refine E8 ?_
    refine X0 rf (bI (M:=aA) (aE.id (L:=aA)) jR jR rfl rfl rfl rfl rfl) ?_
    refine oF ?_
    exact CE [1,0,2,3,4,5,6] (xh,A7) trivial rf rf rf
   exact qw
  ·
   rintro ⟨xh,A7⟩ _
   refine SC 12 rf ?_
   obtain ⟨Ck,xO,h⟩:=kC h
   refine LO (β:=Int × Int) [4,5,6,7,9,10,11,12] [0,1,2,3,4,5,6] (fun (xJ,gq,eR)=>[(13, .int .u8 gq),(14, .int .i64 eR)]) (fun (xJ,gq,eR)=>[.cells A7 113 (aA.enc jR), .cells xh 55 (aU.enc dj),Row rD 3 1 (LI .i64) aM, .cells b7 64 FQ, .cells b6 60 (ag.enc a2), .cells b5 53 fq, .cells b4 41 cv]) (fun (xJ,gq,eR)=>c9 Ck xJ gq eR = some r) (n,0,0) h rf rf rf ?_
   rintro xJ ⟨gq,eR⟩ h
   replace h:=kB xO h; obtain ⟨xJ,rfl,h⟩:=h
   refine SC 7 rf ?_
   refine dN h rf (fun hc h=>?_) fun hc h=>?_
   ·
    obtain ⟨nV,h⟩:=cq h
    refine SC 8 rf ?_
    refine ai rfl (cm (m:=(Int.toNat eR)) rfl rfl (az nV).1 (az nV).2) ?_
    refine ai rfl (lI (fL.comp (aE.idx (L:=LB) (m:=8) (k:=1) ((Int.toNat eR)) (az nV).2 rfl)) rfl) ?_
    refine SL 2 rf ?_
    refine dN h rf (fun hc h=>?_) fun hc h=>?_
    ·
     obtain ⟨qO,h⟩:=cq h
     refine SC 3 rf ?_
     refine ai rfl (wP rfl rfl (FM qO)) ?_
     refine ai rfl (Iz rfl rfl) ?_
     refine SL 9 rf ?_
     exact LN [0,1,2,3,4,5,6] (I4 .u8 gq (sB .u8 1 eR),wr .i64 (eR + 1)) h rf rf rf
    ·
     refine SC 8 rf ?_
     exact LN [0,1,2,3,4,5,6] (gq,wr .i64 (eR + 1)) h rf rf rf
   ·
    refine SC 8 rf ?_
    refine ai rfl (bg kj rfl) ?_
    refine SL 2 rf ?_
    refine ai rfl (bg jo rfl) ?_
    refine SL 2 rf ?_
    refine GB rf rf rf (fun hb=>aO rfl) ?_
    refine GB rf rf rf (fun hb=>bg o9 (bC rfl hb)) ?_
    refine GB rf rf rf (fun hb=>wT (bC rfl hb) rfl) ?_
    refine GB rf rf rf (fun hb=>aO rfl) ?_
    refine GB rf rf rf (fun hb=>bg kR (bC rfl hb)) ?_
    refine GB rf rf rf (fun hb=>mG (bC rfl hb) (bC rfl hb)) ?_
    refine ai rfl (eF rfl rfl) ?_
    refine ai rfl (ak rfl) ?_
    refine GB rf rf rf (fun hb=>aO rfl) ?_
    refine GB rf rf rf (fun hb=>bg eM (bC rfl hb)) ?_
    refine GB rf rf rf (fun hb=>ak rfl) ?_
    refine GB rf rf rf (fun hb=>mG (bC rfl hb) (bC rfl hb)) ?_
    refine ai rfl (eF rfl rfl) ?_
    refine SL 2 rf ?_
    refine dN h rf (fun hc h=>?_) fun hc h=>?_
    ·
     refine SC 11 rf ?_
     have h:=sj h; subst h
     exact RV rf (rt rf rn) rf
    ·
     refine SC 8 rf ?_
     exact LN [2,3,4,5,6] (wr .i64 (dB + 1)) h rf rf rf
 ·
  refine SC 11 rf ?_
  have h:=sj h; subst h
  exact RV rf (rt rf rn) rf
def gw (n:Nat) (a0:aK) (a1:Int) (a2:bW):Option aK:=
 gu (j9 ([]:List Int).length a0.cO.length 8) <|
 lt (([]:List Int)++a0.cO:List Int) fun fF =>
 gu (j9 ([]:List bW).length a0.Own.length 24) <|
 lt (([]:List bW)++a0.Own:List bW) fun dV =>
 lt ({ cO:=fF,Own:=dV }:aK) fun ia =>
 bd (iA n a0 a1) fun ez =>
 cn (decide (ez < 0)) (
 gu (j9 fF.length 1 8) <|
 lt (fF++([a1]):List Int) fun gl =>
 lt ({ ({ cO:=fF,Own:=dV }:aK) with cO:=gl }:aK) fun hY =>
 gu (j9 dV.length 1 24) <|
 lt (dV++([a2]):List bW) fun gk =>
 lt ({ ({ ({ cO:=fF,Own:=dV }:aK) with cO:=gl }) with Own:=gk }:aK) fun ox =>
 lt (({ { ({ cO:=fF,Own:=dV }:aK) with cO:=gl } with Own:=gk }):aK) fun By =>
 some By) (
 gu (dO ez dV.length) <|
 lt ((dV.set (Int.toNat ez) a2):List bW) fun lA =>
 lt (({ ({ cO:=fF,Own:=dV }:aK) with Own:=lA }):aK) fun Nl =>
 some Nl)
theorem mW {n a0 a1 a2 r K} [bn K] {cv} (f0:(aH).rep K cv a0) (h:gw n a0 a1 a2 = some r):pY Tryz.prog 53 [A cv, .int .i64 a1, .agg (aA.enc a2).toArray] K (fun J v=>∃u0,v = (A u0)∧(aH).rep (fun w=>K w∧J w) u0 (r)):=by
 unfold gw at h
 refine fo Tryz.func53 (by kernel_rfl) rfl Tryz.ntmps53 rfl fun cx _ hro cZ hpre=>?_
 refine SC 2 rf ?_
 refine W1 rf (aV rfl) fun b3=>?_
 refine W1 rf (cC aA a2 rfl rfl) fun b5=>?_
 refine W1 rf (bz (hz:=(⟨by kernel_rfl⟩ : cA Tryz.prog 64 bx))) fun b6=>?_
 refine SL 2 rf ?_
 obtain ⟨xS,h⟩:=cq h
 obtain ⟨fF,nD,h⟩:=cj h
 obtain ⟨qP,h⟩:=cq h
 obtain ⟨dV,nC,h⟩:=cj h
 obtain ⟨ia,oT,h⟩:=cj h
 refine kW 113 10 aA ?_
 refine kW 3 1 (LI .i64) ?_
 refine CU (α:=Value × Value × Value × Value × (List Value) × Nat) [1,3,5,6] rf (fun (Bn,nN,qD,lR,ud,b7)=>[(7,Ptr b7 0)]) (fun (Bn,nN,qD,lR,ud,b7)=>[.cells b7 64 ([nN]++[lR]),Row lR 113 10 aA dV,Row nN 3 1 (LI .i64) fF, .cells b6 64 bx, .cells b5 113 (aA.enc a2), .cells b3 64 cv]) (fun (Bn,nN,qD,lR,ud,b7)=>Fz K Bn (LI .i64) a0.cO∧ko nN fF.length∧Fz K qD aA a0.Own∧ko lR dV.length∧(aH).rep (Hs [Row nN 3 1 (LI .i64) fF,Row lR 113 10 aA dV]) ud ia) ?_ ?_
 ·
  refine cK mixed (.gm [] [(0,[3]),(1,[9]),(3,[3]),(4,[12])] (.alt 2 [10] (.gm [(3,[3]),(4,[12])] [] (.alt 5 [13] (.gm [] [(6,[11,14])] (.alt 7 [] (.gm [(6,[11,14])] [] (.alt 8 [7,15] (.fin [] []) .no)) .no)) (.alt 7 [] (.gm [(3,[3]),(4,[12])] [] (.alt 5 [13] (.gm [] [(6,[11,14])] (.alt 8 [7,15] (.fin [] []) .no)) .no)) .no))) (.alt 7 [] (.gm [(0,[3]),(1,[9]),(3,[3]),(4,[12])] [] (.alt 2 [10] (.gm [(3,[3]),(4,[12])] [] (.alt 5 [13] (.gm [] [(6,[11,14])] (.alt 8 [7,15] (.fin [] []) .no)) .no)) .no)) .no))) (by kernel_rfl) ?_
  refine T0 ?_
  refine NS 1 rf ?_
  obtain ⟨Bn,uI,f22⟩:=iL.sl f0
  refine NV rf rf (bL rfl uI) ?_
  refine NS 1 rf ?_
  obtain ⟨qD,y4,f29⟩:=kQ.sl f0
  refine NV rf rf (bL rfl y4) ?_
  refine aP ?_
  refine X2 rf rf (oa (sz:=1) (L:=(LI .i64)) (xs:=([]:List Int)) (ys:=a0.cO) (bytes:=8) f22 rfl rfl rfl (dA xS).1 (dA xS).2) (fun nN ku=>?_) ?_
  ·
   rw [← nD] at ku; rw [← nD]
   refine di ?_ ?_
   ·
    refine uw 1 rf rf ?_
    refine RO rf rf (bL rfl y4) rf ?_
    exact fD
   refine aP ?_
   refine X2 rf rf (oa (sz:=10) (L:=aA) (xs:=([]:List bW)) (ys:=a0.Own) (bytes:=24) f29 rfl rfl rfl (dA qP).1 (dA qP).2) (fun lR j3=>?_) ?_
   ·
    rw [← nC] at j3; rw [← nC]
    refine T0 ?_
    obtain ⟨ud,wk,f37⟩ : ∃cc,([nN]++[lR]) = cc∧(aH).rep (Hs [Row nN 3 1 (LI .i64) fF,Row lR 113 10 aA dV]) cc ia:=⟨_,rfl,by rw [oT]; exact ⟨_,_,rfl,⟨_,rfl,(Fz.row (e:=3) (sz:=1) (L:=(LI .i64)) (xs:=fF) rfl ku).mono kx⟩,⟨_,rfl,(Fz.row (e:=113) (sz:=10) (L:=aA) (xs:=dV) rfl j3).mono kx⟩⟩⟩
    refine NV rf rf (dI (cs:=ud) rfl (by rw [← wk]; first | rfl | (simp [oh,cW,show ∀k i,(Value.int k i).cells = #[Value.int k i] from fun _ _=>rfl,show ∀q,(Value.bool q).cells = #[Value.bool q] from fun _=>rfl,show ∀a,(Value.agg a).cells = a from fun _=>rfl,(Fz.row (e:=3) (sz:=1) (L:=(LI .i64)) (xs:=fF) rfl ku).sl.cells,(Fz.row (e:=3) (sz:=1) (L:=(LI .i64)) (xs:=fF) rfl ku).sl.size,(Fz.row (e:=113) (sz:=10) (L:=aA) (xs:=dV) rfl j3).sl.cells,(Fz.row (e:=113) (sz:=10) (L:=aA) (xs:=dV) rfl j3).sl.size]; try rfl))) ?_
    refine aP ?_
    refine X1 rf rf (bz (hz:=(⟨by kernel_rfl⟩ : cA Tryz.prog 64 bx))) fun b7 _=>?_
    refine di ?_ ?_
    ·
     refine RO rf rf (dI (cs:=ud) rfl (by rw [← wk]; first | rfl | (simp [oh,cW,show ∀k i,(Value.int k i).cells = #[Value.int k i] from fun _ _=>rfl,show ∀q,(Value.bool q).cells = #[Value.bool q] from fun _=>rfl,show ∀a,(Value.agg a).cells = a from fun _=>rfl,(Fz.row (e:=3) (sz:=1) (L:=(LI .i64)) (xs:=fF) rfl ku).sl.cells,(Fz.row (e:=3) (sz:=1) (L:=(LI .i64)) (xs:=fF) rfl ku).sl.size,(Fz.row (e:=113) (sz:=10) (L:=aA) (xs:=dV) rfl j3).sl.cells,(Fz.row (e:=113) (sz:=10) (L:=aA) (xs:=dV) rfl j3).sl.size]; try rfl))) rf ?_
     exact fD
    refine aP ?_
    refine X0 rf (nf (cs':=([nN]++[lR])) ([nN]++[lR]) (aE.id (L:=aH)) (v:=({ cO:=fF,Own:=dV }:aK)) (r:=(show (aH).rep (Hs []) bx gJ from er)) (rv:=(show (aH).rep (Hs [Row nN 3 1 (LI .i64) fF,Row lR 113 10 aA dV]) ([nN]++[lR]) ({ cO:=fF,Own:=dV }:aK) from ⟨_,_,rfl,⟨_,rfl,(Fz.row (e:=3) (sz:=1) (L:=(LI .i64)) (xs:=fF) rfl ku).mono kx⟩,⟨_,rfl,(Fz.row (e:=113) (sz:=10) (L:=aA) (xs:=dV) rfl j3).mono kx⟩⟩)) rfl rfl (by rw [← wk]; rfl) rfl rfl) ?_
    refine oF ?_
    exact CE [0,2,1,3,4,5] (Bn,nN,qD,lR,ud,b7) ⟨f22,ku,f29,j3,f37⟩ rf rf rf
   refine X2 rf rf (bz (hz:=(⟨by kernel_rfl⟩ : cA Tryz.prog 64 bx))) (fun b7 _=>?_) ?_
   ·
    refine di ?_ ?_
    ·
     refine uw 1 rf rf ?_
     refine RO rf rf (bL rfl y4) rf ?_
     exact fD
    refine aP ?_
    refine X1 rf rf (oa (sz:=10) (L:=aA) (xs:=([]:List bW)) (ys:=a0.Own) (bytes:=24) f29 rfl rfl rfl (dA qP).1 (dA qP).2) fun lR j3=>?_
    rw [← nC] at j3; rw [← nC]
    refine T0 ?_
    obtain ⟨ud,wk,f37⟩ : ∃cc,([nN]++[lR]) = cc∧(aH).rep (Hs [Row nN 3 1 (LI .i64) fF,Row lR 113 10 aA dV]) cc ia:=⟨_,rfl,by rw [oT]; exact ⟨_,_,rfl,⟨_,rfl,(Fz.row (e:=3) (sz:=1) (L:=(LI .i64)) (xs:=fF) rfl ku).mono kx⟩,⟨_,rfl,(Fz.row (e:=113) (sz:=10) (L:=aA) (xs:=dV) rfl j3).mono kx⟩⟩⟩
    refine NV rf rf (dI (cs:=ud) rfl (by rw [← wk]; first | rfl | (simp [oh,cW,show ∀k i,(Value.int k i).cells = #[Value.int k i] from fun _ _=>rfl,show ∀q,(Value.bool q).cells = #[Value.bool q] from fun _=>rfl,show ∀a,(Value.agg a).cells = a from fun _=>rfl,(Fz.row (e:=3) (sz:=1) (L:=(LI .i64)) (xs:=fF) rfl ku).sl.cells,(Fz.row (e:=3) (sz:=1) (L:=(LI .i64)) (xs:=fF) rfl ku).sl.size,(Fz.row (e:=113) (sz:=10) (L:=aA) (xs:=dV) rfl j3).sl.cells,(Fz.row (e:=113) (sz:=10) (L:=aA) (xs:=dV) rfl j3).sl.size]; try rfl))) ?_
    refine aP ?_
    refine X0 rf (nf (cs':=([nN]++[lR])) ([nN]++[lR]) (aE.id (L:=aH)) (v:=({ cO:=fF,Own:=dV }:aK)) (r:=(show (aH).rep (Hs []) bx gJ from er)) (rv:=(show (aH).rep (Hs [Row nN 3 1 (LI .i64) fF,Row lR 113 10 aA dV]) ([nN]++[lR]) ({ cO:=fF,Own:=dV }:aK) from ⟨_,_,rfl,⟨_,rfl,(Fz.row (e:=3) (sz:=1) (L:=(LI .i64)) (xs:=fF) rfl ku).mono kx⟩,⟨_,rfl,(Fz.row (e:=113) (sz:=10) (L:=aA) (xs:=dV) rfl j3).mono kx⟩⟩)) rfl rfl (by rw [← wk]; rfl) rfl rfl) ?_
    refine oF ?_
    exact CE [0,2,1,3,4,5] (Bn,nN,qD,lR,ud,b7) ⟨f22,ku,f29,j3,f37⟩ rf rf rf
   exact qw
  refine X2 rf rf (bz (hz:=(⟨by kernel_rfl⟩ : cA Tryz.prog 64 bx))) (fun b7 _=>?_) ?_
  ·
   refine di ?_ ?_
   ·
    refine uw 1 rf rf ?_
    refine RO rf rf (bL rfl uI) rf ?_
    refine uw 1 rf rf ?_
    refine RO rf rf (bL rfl y4) rf ?_
    exact fD
   refine aP ?_
   refine X1 rf rf (oa (sz:=1) (L:=(LI .i64)) (xs:=([]:List Int)) (ys:=a0.cO) (bytes:=8) f22 rfl rfl rfl (dA xS).1 (dA xS).2) fun nN ku=>?_
   rw [← nD] at ku; rw [← nD]
   refine di ?_ ?_
   ·
    refine uw 1 rf rf ?_
    refine RO rf rf (bL rfl y4) rf ?_
    exact fD
   refine aP ?_
   refine X1 rf rf (oa (sz:=10) (L:=aA) (xs:=([]:List bW)) (ys:=a0.Own) (bytes:=24) f29 rfl rfl rfl (dA qP).1 (dA qP).2) fun lR j3=>?_
   rw [← nC] at j3; rw [← nC]
   refine T0 ?_
   obtain ⟨ud,wk,f37⟩ : ∃cc,([nN]++[lR]) = cc∧(aH).rep (Hs [Row nN 3 1 (LI .i64) fF,Row lR 113 10 aA dV]) cc ia:=⟨_,rfl,by rw [oT]; exact ⟨_,_,rfl,⟨_,rfl,(Fz.row (e:=3) (sz:=1) (L:=(LI .i64)) (xs:=fF) rfl ku).mono kx⟩,⟨_,rfl,(Fz.row (e:=113) (sz:=10) (L:=aA) (xs:=dV) rfl j3).mono kx⟩⟩⟩
   refine NV rf rf (dI (cs:=ud) rfl (by rw [← wk]; first | rfl | (simp [oh,cW,show ∀k i,(Value.int k i).cells = #[Value.int k i] from fun _ _=>rfl,show ∀q,(Value.bool q).cells = #[Value.bool q] from fun _=>rfl,show ∀a,(Value.agg a).cells = a from fun _=>rfl,(Fz.row (e:=3) (sz:=1) (L:=(LI .i64)) (xs:=fF) rfl ku).sl.cells,(Fz.row (e:=3) (sz:=1) (L:=(LI .i64)) (xs:=fF) rfl ku).sl.size,(Fz.row (e:=113) (sz:=10) (L:=aA) (xs:=dV) rfl j3).sl.cells,(Fz.row (e:=113) (sz:=10) (L:=aA) (xs:=dV) rfl j3).sl.size]; try rfl))) ?_
   refine aP ?_
   refine X0 rf (nf (cs':=([nN]++[lR])) ([nN]++[lR]) (aE.id (L:=aH)) (v:=({ cO:=fF,Own:=dV }:aK)) (r:=(show (aH).rep (Hs []) bx gJ from er)) (rv:=(show (aH).rep (Hs [Row nN 3 1 (LI .i64) fF,Row lR 113 10 aA dV]) ([nN]++[lR]) ({ cO:=fF,Own:=dV }:aK) from ⟨_,_,rfl,⟨_,rfl,(Fz.row (e:=3) (sz:=1) (L:=(LI .i64)) (xs:=fF) rfl ku).mono kx⟩,⟨_,rfl,(Fz.row (e:=113) (sz:=10) (L:=aA) (xs:=dV) rfl j3).mono kx⟩⟩)) rfl rfl (by rw [← wk]; rfl) rfl rfl) ?_
   refine oF ?_
   exact CE [0,2,1,3,4,5] (Bn,nN,qD,lR,ud,b7) ⟨f22,ku,f29,j3,f37⟩ rf rf rf
  exact qw
 ·
  rintro ⟨Bn,nN,qD,lR,ud,b7⟩ ⟨f22,ku,f29,j3,f37⟩
  obtain ⟨ez,uH,h⟩:=aS h
  refine SC 2 rf ?_
  refine ai rfl (ae rfl (aL.len _ f0)) ?_
  refine ai rfl (ak rfl) ?_
  refine CV (om (K:=K) (mo f0) uH) rf rf ?_
  refine SL 10 rf ?_
  refine dN h rf (fun hc h=>?_) fun hc h=>?_
  ·
   obtain ⟨jv,h⟩:=cq h
   obtain ⟨gl,m7,h⟩:=cj h
   obtain ⟨hY,qb,h⟩:=cj h
   refine SC 3 rf ?_
   refine ai rfl (bL rfl rfl) ?_
   refine ai rfl (ak rfl) ?_
   refine ef rfl (ki (LI .i64) a1 rfl rfl rfl rfl (by decide) (by decide)) (fun M6 _=>?_)
   refine ef rfl (jn (sz:=1) (L:=(LI .i64)) (xs:=fF) (y:=a1) (bytes:=8) rfl rfl rfl (dA jv).1 (dA jv).2) (fun Bm wc=>?_)
   rw [← m7] at wc; rw [← m7]
   refine ai rfl (aO rfl) ?_
   refine W0 (nf (cs':=([Bm]++[lR])) ([Bm]) iL (v:=gl) (r:=(show (aH).rep (fun _=>False) ([nN]++[lR]) ({ cO:=fF,Own:=dV }:aK) from ⟨_,_,rfl,⟨_,rfl,⟨ku,fun _ h=>h.elim⟩⟩,⟨_,rfl,(Fz.row (e:=113) (sz:=10) (L:=aA) (xs:=dV) rfl j3).mono (fun _ h=>h.elim)⟩⟩)) (rv:=(⟨_,rfl,(Fz.row (e:=3) (sz:=1) (L:=(LI .i64)) (xs:=gl) rfl wc)⟩ : ((pX (LI .i64))).rep (Hs [Row Bm 3 1 (LI .i64) gl]) ([Bm]) gl)) rfl rfl (Fz.row (e:=3) (sz:=1) (L:=(LI .i64)) (xs:=gl) rfl wc).sl.cells rfl rfl) ?_
   obtain ⟨wh,h⟩:=cq h
   obtain ⟨gk,yY,h⟩:=cj h
   obtain ⟨ox,AR,h⟩:=cj h
   refine SL 5 rf ?_
   refine ai rfl (bL rfl rfl) ?_
   refine ai rfl (bj (M:=aA) (aE.id (L:=aA)) rfl rfl) ?_
   refine ef rfl (ki aA a2 rfl rfl rfl rfl (by decide) (by decide)) (fun Q8 _=>?_)
   refine ef rfl (jn (sz:=10) (L:=aA) (xs:=dV) (y:=a2) (bytes:=24) rfl rfl rfl (dA wh).1 (dA wh).2) (fun Bl xM=>?_)
   rw [← yY] at xM; rw [← yY]
   refine ai rfl (aO rfl) ?_
   refine W0 (nf (cs':=([Bm]++[Bl])) ([Bl]) kQ (v:=gk) (r:=(show (aH).rep (fun _=>False) ([Bm]++[lR]) ({ ({ cO:=fF,Own:=dV }:aK) with cO:=gl }) from ⟨_,_,rfl,⟨_,rfl,(Fz.row (e:=3) (sz:=1) (L:=(LI .i64)) (xs:=gl) rfl wc).mono (fun _ h=>h.elim)⟩,⟨_,rfl,⟨j3,fun _ h=>h.elim⟩⟩⟩)) (rv:=(⟨_,rfl,(Fz.row (e:=113) (sz:=10) (L:=aA) (xs:=gk) rfl xM)⟩ : ((pX aA)).rep (Hs [Row Bl 113 10 aA gk]) ([Bl]) gk)) rfl rfl (Fz.row (e:=113) (sz:=10) (L:=aA) (xs:=gk) rfl xM).sl.cells rfl rfl) ?_
   obtain ⟨By,Hf,h⟩:=cj h
   refine SL 4 rf ?_
   refine ai rfl (ae rfl (aL.len _ (show (aH).rep (Hs [Row Bm 3 1 (LI .i64) gl,Row Bl 113 10 aA gk]) ([Bm]++[Bl]) ({ { ({ cO:=fF,Own:=dV }:aK) with cO:=gl } with Own:=gk }) from ⟨_,_,rfl,⟨_,rfl,(Fz.row (e:=3) (sz:=1) (L:=(LI .i64)) (xs:=gl) rfl wc).mono kx⟩,⟨_,rfl,(Fz.row (e:=113) (sz:=10) (L:=aA) (xs:=gk) rfl xM).mono kx⟩⟩))) ?_
   refine ST (C:=(Hs [Row Bm 3 1 (LI .i64) gl,Row Bl 113 10 aA gk])) By (aE.id (L:=aH)) er (mo (show (aH).rep (Hs [Row Bm 3 1 (LI .i64) gl,Row Bl 113 10 aA gk]) ([Bm]++[Bl]) ({ { ({ cO:=fF,Own:=dV }:aK) with cO:=gl } with Own:=gk }) from ⟨_,_,rfl,⟨_,rfl,(Fz.row (e:=3) (sz:=1) (L:=(LI .i64)) (xs:=gl) rfl wc).mono kx⟩,⟨_,rfl,(Fz.row (e:=113) (sz:=10) (L:=aA) (xs:=gk) rfl xM).mono kx⟩⟩)) Hf rf rf rf rf fun Jc f51=>?_
   refine SL 4 rf ?_
   have h:=sj h; subst h
   exact lB (R:=[Row Bl 113 10 aA gk,Row Bm 3 1 (LI .i64) gl]) [3,4] rf rf (ra rf (aL.len _ f51) rn) ⟨_,rfl,(mo f51)⟩
  ·
   obtain ⟨sG,h⟩:=cq h
   obtain ⟨lA,rL,h⟩:=cj h
   refine SC 5 rf ?_
   refine ai rfl (bL rfl rfl) ?_
   refine ai rfl (ak rfl) ?_
   refine ai rfl (bj (M:=aA) (aE.id (L:=aA)) rfl rfl) ?_
   refine ai rfl (cM (m:=(Int.toNat ez)) (Fz.row (e:=113) (sz:=10) (L:=aA) (xs:=dV) rfl j3) rfl rfl rfl (az sG).1 (az sG).2) ?_
   refine W0 (wX (sz:=10) (M:=aA) (Int.toNat ez) (aE.idx (L:=aA) (m:=(dV.length)) (k:=10) ((Int.toNat ez)) (az sG).2 rfl) a2 lA rL rfl rfl rfl rfl (az sG).2 rfl rfl) ?_
   have Hi:ko lR lA.length:=by rw [rL,List.length_set]; exact j3
   obtain ⟨Nl,Ol,h⟩:=cj h
   refine SL 4 rf ?_
   refine ai rfl (ae rfl (aL.len _ (show (aH).rep (Hs [Row nN 3 1 (LI .i64) fF,Row lR 113 10 aA lA]) ([nN]++[lR]) ({ ({ cO:=fF,Own:=dV }:aK) with Own:=lA }) from ⟨_,_,rfl,⟨_,rfl,(Fz.row (e:=3) (sz:=1) (L:=(LI .i64)) (xs:=fF) rfl ku).mono kx⟩,⟨_,rfl,(Fz.row (e:=113) (sz:=10) (L:=aA) (xs:=lA) rfl Hi).mono kx⟩⟩))) ?_
   refine ST (C:=(Hs [Row nN 3 1 (LI .i64) fF,Row lR 113 10 aA lA])) Nl (aE.id (L:=aH)) er (mo (show (aH).rep (Hs [Row nN 3 1 (LI .i64) fF,Row lR 113 10 aA lA]) ([nN]++[lR]) ({ ({ cO:=fF,Own:=dV }:aK) with Own:=lA }) from ⟨_,_,rfl,⟨_,rfl,(Fz.row (e:=3) (sz:=1) (L:=(LI .i64)) (xs:=fF) rfl ku).mono kx⟩,⟨_,rfl,(Fz.row (e:=113) (sz:=10) (L:=aA) (xs:=lA) rfl Hi).mono kx⟩⟩)) Ol rf rf rf rf fun P8 f58=>?_
   refine SL 3 rf ?_
   have h:=sj h; subst h
   exact lB (R:=[Row lR 113 10 aA lA,Row nN 3 1 (LI .i64) fF]) [1,2] rf rf (ra rf (aL.len _ f58) rn) ⟨_,rfl,(mo f58)⟩
def kG (n:Nat) (a0:ah) (a1:Int):Option Int:=
 bd (bB n a0 a1) fun aM =>
 cn ((!aM)) (
 some 4) (
 bd (gN n a0 a1) fun bE =>
 cn ((bE != a1)) (
 some 12) (
 some 0))
theorem qY {n a0 a1 r K} [bn K] {cv} (f0:(ay).rep K cv a0) (h:kG n a0 a1 = some r):pD Tryz.prog 52 [A cv, .int .i64 a1] K (.int .i64 r):=by
 unfold kG at h
 refine fo Tryz.func52 (by kernel_rfl) rfl Tryz.ntmps52 rfl fun cx _ hro cZ hpre=>?_
 refine SC 2 rf ?_
 refine W1 rf (aV rfl) fun b2=>?_
 obtain ⟨aM,bX,h⟩:=aS h
 refine SL 6 rf ?_
 refine ai rfl (ae rfl (aL.len _ f0)) ?_
 refine ai rfl (ak rfl) ?_
 refine CV (bJ (K:=K) (mo f0) bX) rf rf ?_
 refine SL 3 rf ?_
 refine dN h rf (fun hc h=>?_) fun hc h=>?_
 ·
  refine SC 7 rf ?_
  have h:=sj h; subst h
  exact RV rf (rt rf rn) rf
 ·
  obtain ⟨bE,fc,h⟩:=aS h
  refine SC 5 rf ?_
  refine ai rfl (ae rfl (aL.len _ f0)) ?_
  refine ai rfl (ak rfl) ?_
  refine CV (nX (K:=K) (mo f0) fc) rf rf ?_
  refine SL 4 rf ?_
  refine dN h rf (fun hc h=>?_) fun hc h=>?_
  ·
   refine SC 7 rf ?_
   have h:=sj h; subst h
   exact RV rf (rt rf rn) rf
  ·
   refine SC 8 rf ?_
   have h:=sj h; subst h
   exact RV rf (rt rf rn) rf
def fM (n:Nat) (a0:aK) (a1:ah) (a2:Int) (a3:Int) (a4:Bool):Option (aK × Int × Int):=
 bd (kG n a1 a2) fun aM =>
 bd (gM n a0 a1 a2) fun bE =>
 lt (fun (hJ:Int) =>
 lt (fun (fF:Int) =>
 lt (fun (cH:Int) =>
 cn ((cH != 0)) (
 some (a0,0,cH)) (
 gu (dO a3 8) <|
 lt ({ bE with gp:=(eG bE.gp (Int.toNat a3) a4) }:bW) fun cT =>
 c9 (fun GY (eR:Int) (ez:Int) =>
 cn (decide (ez < 8)) (
 gu (dO ez 8) <|
 cn ((cT.gp (Int.toNat ez))) (
 GY (wr .i64 (eR + 1)) (wr .i64 (ez + 1))) (
 GY eR (wr .i64 (ez + 1)))) (
 bd (gw n a0 a2 cT) fun hY =>
 some (hY,eR,0))) n 0 0)) fun I6 =>
 gu (!((fF == 0) == true) || dO a3 8) <|
 cn (((fF == 0) && ((bE.gp (Int.toNat a3)) == a4))) (
 cn (a4) (
 I6 7) (
 I6 5)) (
 I6 fF)) fun Kj =>
 cn (((hJ == 0) && (decide (a3 < 0) || decide (7 < a3)))) (
 Kj 2) (
 Kj hJ)) fun Kk =>
 cn (((aM == 0) && (bE.Kind != 3))) (
 Kk 12) (
 Kk aM)
theorem mX {n a0 a1 a2 a3 a4 r K} [bn K] {cv} (f0:(aH).rep K cv a0) {fq:List Value} (f1:(ay).rep K fq a1) (h:fM n a0 a1 a2 a3 a4 = some r):pY Tryz.prog 22 [A cv,A fq, .int .i64 a2, .int .i64 a3, .bool a4] K (fun J v=>∃u0,v = (.tuple #[A u0, .int .i64 r.2.1, .int .i64 r.2.2])∧(aH).rep (fun w=>K w∧J w) u0 (r.1)):=by
 unfold fM at h
 refine fo Tryz.func22 (by kernel_rfl) rfl Tryz.ntmps22 rfl fun cx _ hro cZ hpre=>?_
 refine SC 2 rf ?_
 refine W1 rf (aV rfl) fun b5=>?_
 refine W1 rf (aV rfl) fun b6=>?_
 refine W1 rf (bz (hz:=(⟨by kernel_rfl⟩ : cA Tryz.prog 64 bx))) fun qB=>?_
 obtain ⟨aM,bX,h⟩:=aS h
 refine SL 6 rf ?_
 refine ai rfl (ae rfl (aL.len _ f1)) ?_
 refine ai rfl (ak rfl) ?_
 refine CV (qY (K:=K) (mo f1) bX) rf rf ?_
 obtain ⟨bE,fc,h⟩:=aS h
 refine SL 5 rf ?_
 refine ai rfl (ae rfl (aL.len _ f0)) ?_
 refine ai rfl (ae rfl (aL.len _ f1)) ?_
 refine ai rfl (ak rfl) ?_
 refine CV (eX (K:=K) (mo f0) (mo f1) fc) rf rf ?_
 refine W1 rf (bu (L:=aA) (z:=iZ) ⟨by kernel_rfl⟩) fun Mm=>?_
 refine W0 (bI (M:=aA) (aE.id (L:=aA)) bE bE rfl rfl rfl rfl rfl) ?_
 refine SL 2 rf ?_
 obtain ⟨Kk,O8,h⟩:=cj h
 refine CU (α:=Int) [2,3,4,5,10,14] rf (fun hJ=>[(13, .int .i64 hJ)]) (fun hJ=>[.cells Mm 113 (aA.enc bE), .cells qB 64 bx, .cells b6 53 fq, .cells b5 64 cv]) (fun hJ=>Kk hJ = some r) ?_ ?_
 ·
  refine SC 5 rf ?_
  refine GB rf rf rf (fun hb=>aO rfl) ?_
  refine GB rf rf rf (fun hb=>bg jo (bC rfl hb)) ?_
  refine GB rf rf rf (fun hb=>mG (bC rfl hb) rfl) ?_
  refine ai rfl (bV rfl rfl) ?_
  refine SL 2 rf ?_
  refine dN h rf (fun hc h=>?_) fun hc h=>?_
  ·
   refine SC 3 rf ?_
   exact CE [0,1,2,3] (12) h rf rf rf
  ·
   refine kV ?_
   exact CE [0,1,2,3] (aM) h rf rf rf
 ·
  rintro hJ h
  replace h:Kk hJ = some r:=h
  replace h:=vo O8 h
  obtain ⟨Kj,O7,h⟩:=cj h
  refine CU (α:=Int) [2,3,4,5,10,14] rf (fun fF=>[(13, .int .i64 fF)]) (fun fF=>[.cells Mm 113 (aA.enc bE), .cells qB 64 bx, .cells b6 53 fq, .cells b5 64 cv]) (fun fF=>Kj fF = some r) ?_ ?_
  ·
   refine SC 5 rf ?_
   refine GB rf rf rf (fun hb=>ak rfl) ?_
   refine GB rf rf rf (fun hb=>rX (bC rfl hb) rfl) ?_
   refine GB rf rf rf (fun hb=>ak (bC rfl hb)) ?_
   refine kz (jx rfl rfl) rfl (fun hb=>ak rfl) ?_
   refine kz (jx rfl rfl) rfl (fun hb=>nc (bC rfl hb) rfl) ?_
   refine GB rf rf rf (fun hb=>eF (bC rfl hb) (uL rfl hb)) ?_
   refine ai rfl (bV rfl rfl) ?_
   refine SL 2 rf ?_
   refine dN h rf (fun hc h=>?_) fun hc h=>?_
   ·
    refine SC 3 rf ?_
    exact CE [0,1,2,3] (2) h rf rf rf
   ·
    refine kV ?_
    exact CE [0,1,2,3] (hJ) h rf rf rf
  ·
   rintro fF h
   replace h:Kj fF = some r:=h
   replace h:=vo O7 h
   obtain ⟨I6,O6,h⟩:=cj h
   refine CU (α:=Int) [2,3,4,5,10,14] rf (fun cH=>[(13, .int .i64 cH)]) (fun cH=>[.cells Mm 113 (aA.enc bE), .cells qB 64 bx, .cells b6 53 fq, .cells b5 64 cv]) (fun cH=>I6 cH = some r) ?_ ?_
   ·
    obtain ⟨zc,h⟩:=cq h
    refine SC 5 rf ?_
    refine GB rf rf rf (fun hb=>ak rfl) ?_
    refine GB rf rf rf (fun hb=>aO rfl) ?_
    refine GB rf rf rf (fun hb=>cm (m:=(Int.toNat a3)) (bC rfl hb) (bC rfl hb) (az (iJ zc hb)).1 (az (iJ zc hb)).2) ?_
    refine GB rf rf rf (fun hb=>lI (fL.comp (aE.idx (L:=LB) (m:=8) (k:=1) ((Int.toNat a3)) (az (iJ zc hb)).2 rfl)) (bC rfl hb)) ?_
    refine GB rf rf rf (fun hb=>ak rfl) ?_
    refine GB rf rf rf (fun hb=>E6 (bC rfl hb) (bC rfl hb)) ?_
    refine ai rfl (bV rfl rfl) ?_
    refine SL 2 rf ?_
    refine dN h rf (fun hc h=>?_) fun hc h=>?_
    ·
     refine SC 10 rf ?_
     refine dN h rf (fun hc h=>?_) fun hc h=>?_
     ·
      refine SC 3 rf ?_
      exact CE [0,1,2,3] (7) h rf rf rf
     ·
      refine kV ?_
      exact CE [0,1,2,3] (5) h rf rf rf
    ·
     refine kV ?_
     exact CE [0,1,2,3] (fF) h rf rf rf
   ·
    rintro cH h
    replace h:I6 cH = some r:=h
    replace h:=vo O6 h
    refine SC 7 rf ?_
    refine dN h rf (fun hc h=>?_) fun hc h=>?_
    ·
     refine SC 2 rf ?_
     refine ai rfl (ae rfl (aL.len _ f0)) ?_
     refine ai rfl (ak rfl) ?_
     refine ST (C:=K) a0 (aE.id (L:=aH)) er (mo f0) rf rf rf rf rf fun Ag f31=>?_
     refine SL 6 rf ?_
     have h:=sj h; subst h
     exact lB [] rf rf (ra rf (aL.len _ f31) (rt rf (rt rf rn))) ⟨_,rfl,(mo f31)⟩
    ·
     obtain ⟨tO,h⟩:=cq h
     obtain ⟨cT,qd,h⟩:=cj h
     refine SC 7 rf ?_
     refine ai rfl (cm (m:=(Int.toNat a3)) rfl rfl (az tO).1 (az tO).2) ?_
     refine W0 (bI (M:=LB) (fL.comp (aE.idx (L:=LB) (m:=8) (k:=1) ((Int.toNat a3)) (az tO).2 rfl)) a4 cT qd rfl rfl rfl rfl) ?_
     refine SL 14 rf ?_
     obtain ⟨GU,CH,h⟩:=kC h
     refine LO (β:=Int × Int) [2,5,10,14] [0,1,2,3] (fun (Ce,eR,ez)=>[(15, .int .i64 eR),(16, .int .i64 ez)]) (fun (Ce,eR,ez)=>[.cells Mm 113 (aA.enc cT), .cells qB 64 bx, .cells b6 53 fq, .cells b5 64 cv]) (fun (Ce,eR,ez)=>c9 GU Ce eR ez = some r) (n,0,0) h rf rf rf ?_
     rintro Ce ⟨eR,ez⟩ h
     replace h:=kB CH h; obtain ⟨Ce,rfl,h⟩:=h
     refine SC 7 rf ?_
     refine dN h rf (fun hc h=>?_) fun hc h=>?_
     ·
      obtain ⟨qO,h⟩:=cq h
      refine SC 8 rf ?_
      refine ai rfl (cm (m:=(Int.toNat ez)) rfl rfl (az qO).1 (az qO).2) ?_
      refine ai rfl (lI (fL.comp (aE.idx (L:=LB) (m:=8) (k:=1) ((Int.toNat ez)) (az qO).2 rfl)) rfl) ?_
      refine SL 2 rf ?_
      refine dN h rf (fun hc h=>?_) fun hc h=>?_
      ·
       refine SC 12 rf ?_
       exact LN [0,1,2,3] (wr .i64 (eR + 1),wr .i64 (ez + 1)) h rf rf rf
      ·
       refine SC 8 rf ?_
       exact LN [0,1,2,3] (eR,wr .i64 (ez + 1)) h rf rf rf
     ·
      obtain ⟨hY,qb,h⟩:=aS h
      refine SC 7 rf ?_
      refine ai rfl (ae rfl (aL.len _ f0)) ?_
      refine ai rfl (ak rfl) ?_
      refine ai rfl (bj (M:=aA) (aE.id (L:=aA)) rfl rfl) ?_
      refine CB (mW (K:=K) (mo f0) qb) rf rf ?_
      rintro TP Mh Rm ⟨L8,rfl,f48⟩
      replace f48:aH.rep (fun w=>K w∧Hs [.ext Mh Rm] w) L8 hY:=f48
      refine ai rfl (ak rfl) ?_
      refine ST (C:=(fun w=>K w∧Hs [.ext Mh Rm] w)) hY (aE.id (L:=aH)) er (mo f48) rf rf rf rf rf fun Jc f51=>?_
      refine SL 5 rf ?_
      have h:=sj h; subst h
      exact lB [0] rf rf (ra rf (aL.len _ f51) (rt rf (rt rf rn))) ⟨_,rfl,(mo f51)⟩
def fx (n:Nat) (a0:aK) (a1:ah) (a2:Int) (a3:Int) (a4:Int):Option (aK × Int):=
 bd (kG n a1 a2) fun aM =>
 lt (fun (bE:Int) =>
 cn ((bE != 0)) (
 some (a0,bE)) (
 lt ({ Kind:=a4,Task:=0,gp:=(fun _=>false) }:bW) fun cH =>
 lt (fun (dQ:bW) =>
 lt (fun (dj:bW) =>
 bd (gw n a0 a2 dj) fun ia =>
 some (ia,0)) fun z6 =>
 cn ((a4 == 3)) (
 gu (dO a3 8) <|
 lt ({ dQ with gp:=(eG dQ.gp (Int.toNat a3) true) }:bW) fun cT =>
 z6 cT) (
 z6 dQ)) fun Ki =>
 cn ((a4 == 1)) (
 lt ({ cH with Task:=a3 }:bW) fun cI =>
 Ki cI) (
 Ki cH))) fun Kl =>
 cn ((((aM == 0) && (a4 != 2)) && (decide (a3 < 0) || decide (7 < a3)))) (
 Kl 2) (
 Kl aM)
theorem kK {n a0 a1 a2 a3 a4 r K} [bn K] {cv} (f0:(aH).rep K cv a0) {fq:List Value} (f1:(ay).rep K fq a1) (h:fx n a0 a1 a2 a3 a4 = some r):pY Tryz.prog 20 [A cv,A fq, .int .i64 a2, .int .i64 a3, .int .i64 a4] K (fun J v=>∃u0,v = (.tuple #[A u0, .int .i64 r.2])∧(aH).rep (fun w=>K w∧J w) u0 (r.1)):=by
 unfold fx at h
 refine fo Tryz.func20 (by kernel_rfl) rfl Tryz.ntmps20 rfl fun cx _ hro cZ hpre=>?_
 refine SC 2 rf ?_
 refine W1 rf (aV rfl) fun b5=>?_
 refine W1 rf (aV rfl) fun b6=>?_
 refine W1 rf (bz (hz:=(⟨by kernel_rfl⟩ : cA Tryz.prog 64 bx))) fun qB=>?_
 obtain ⟨aM,bX,h⟩:=aS h
 refine SL 5 rf ?_
 refine ai rfl (ae rfl (aL.len _ f1)) ?_
 refine ai rfl (ak rfl) ?_
 refine CV (qY (K:=K) (mo f1) bX) rf rf ?_
 refine SL 3 rf ?_
 obtain ⟨Kl,O9,h⟩:=cj h
 refine CU (α:=Int) [2,3,4,5,10] rf (fun bE=>[(12, .int .i64 bE)]) (fun bE=>[.cells qB 64 bx, .cells b6 53 fq, .cells b5 64 cv]) (fun bE=>Kl bE = some r) ?_ ?_
 ·
  refine SC 5 rf ?_
  refine GB rf rf rf (fun hb=>ak rfl) ?_
  refine GB rf rf rf (fun hb=>mG (bC rfl hb) rfl) ?_
  refine ai rfl (bV rfl rfl) ?_
  refine ai rfl (ak rfl) ?_
  refine GB rf rf rf (fun hb=>ak rfl) ?_
  refine GB rf rf rf (fun hb=>rX (bC rfl hb) rfl) ?_
  refine GB rf rf rf (fun hb=>ak (bC rfl hb)) ?_
  refine kz (jx rfl rfl) rfl (fun hb=>ak rfl) ?_
  refine kz (jx rfl rfl) rfl (fun hb=>nc (bC rfl hb) rfl) ?_
  refine GB rf rf rf (fun hb=>eF (bC rfl hb) (uL rfl hb)) ?_
  refine ai rfl (bV rfl rfl) ?_
  refine SL 2 rf ?_
  refine dN h rf (fun hc h=>?_) fun hc h=>?_
  ·
   refine SC 3 rf ?_
   exact CE [0,1,2] (2) h rf rf rf
  ·
   refine kV ?_
   exact CE [0,1,2] (aM) h rf rf rf
 ·
  rintro bE h
  replace h:Kl bE = some r:=h
  replace h:=vo O9 h
  refine SC 7 rf ?_
  refine dN h rf (fun hc h=>?_) fun hc h=>?_
  ·
   refine SC 2 rf ?_
   refine ai rfl (ae rfl (aL.len _ f0)) ?_
   refine ai rfl (ak rfl) ?_
   refine ST (C:=K) a0 (aE.id (L:=aH)) er (mo f0) rf rf rf rf rf fun Jf f25=>?_
   refine SL 5 rf ?_
   have h:=sj h; subst h
   exact lB [] rf rf (ra rf (aL.len _ f25) (rt rf rn)) ⟨_,rfl,(mo f25)⟩
  ·
   obtain ⟨cH,lE,h⟩:=cj h
   refine SC 5 rf ?_
   refine ai rfl (dI (cs:=aA.enc cH) rfl (by rw [lE]; rfl)) ?_
   refine W1 rf (bu (L:=aA) (z:=iZ) ⟨by kernel_rfl⟩) fun Mn=>?_
   refine W0 (bI (M:=aA) (aE.id (L:=aA)) cH cH rfl rfl rfl rfl rfl) ?_
   refine SL 2 rf ?_
   obtain ⟨Ki,O5,h⟩:=cj h
   refine CU (α:=bW) [2,3,4,5,10,13] rf (fun dQ=>[]) (fun dQ=>[.cells Mn 113 (aA.enc dQ), .cells qB 64 bx, .cells b6 53 fq, .cells b5 64 cv]) (fun dQ=>Ki dQ = some r) ?_ ?_
   ·
    refine SC 6 rf ?_
    refine dN h rf (fun hc h=>?_) fun hc h=>?_
    ·
     obtain ⟨cI,tI,h⟩:=cj h
     refine SC 3 rf ?_
     refine W0 (bI (M:=(LI .i64)) kR a3 cI tI rfl rfl rfl rfl) ?_
     refine rV ?_
     exact CE [0,1,2,3] (cI) h rf rf rf
    ·
     refine kV ?_
     exact CE [0,1,2,3] (cH) h rf rf rf
   ·
    rintro dQ h
    replace h:Ki dQ = some r:=h
    replace h:=vo O5 h
    obtain ⟨z6,Hv,h⟩:=cj h
    refine CU (α:=bW) [2,5,10,13] rf (fun dj=>[]) (fun dj=>[.cells Mn 113 (aA.enc dj), .cells qB 64 bx, .cells b6 53 fq, .cells b5 64 cv]) (fun dj=>z6 dj = some r) ?_ ?_
    ·
     refine SC 6 rf ?_
     refine dN h rf (fun hc h=>?_) fun hc h=>?_
     ·
      obtain ⟨tO,h⟩:=cq h
      obtain ⟨cT,qd,h⟩:=cj h
      refine SC 3 rf ?_
      refine ai rfl (cm (m:=(Int.toNat a3)) rfl rfl (az tO).1 (az tO).2) ?_
      refine W0 (bI (M:=LB) (fL.comp (aE.idx (L:=LB) (m:=8) (k:=1) ((Int.toNat a3)) (az tO).2 rfl)) true cT qd rfl rfl rfl rfl) ?_
      refine rV ?_
      exact CE [0,1,2,3] (cT) h rf rf rf
     ·
      refine kV ?_
      exact CE [0,1,2,3] (dQ) h rf rf rf
    ·
     rintro dj h
     replace h:z6 dj = some r:=h
     replace h:=vo Hv h
     obtain ⟨ia,oT,h⟩:=aS h
     refine SC 2 rf ?_
     refine ai rfl (ae rfl (aL.len _ f0)) ?_
     refine ai rfl (ak rfl) ?_
     refine ai rfl (bj (M:=aA) (aE.id (L:=aA)) rfl rfl) ?_
     refine CB (mW (K:=K) (mo f0) oT) rf rf ?_
     rintro TR Mi Rp ⟨Jd,rfl,f40⟩
     replace f40:aH.rep (fun w=>K w∧Hs [.ext Mi Rp] w) Jd ia:=f40
     refine ST (C:=(fun w=>K w∧Hs [.ext Mi Rp] w)) ia (aE.id (L:=aH)) er (mo f40) rf rf rf rf rf fun ur f43=>?_
     refine SL 4 rf ?_
     have h:=sj h; subst h
     exact lB [0] rf rf (ra rf (aL.len _ f43) (rt rf rn)) ⟨_,rfl,(mo f43)⟩
def fh (n:Nat) (a0:bO) (a1:aq) (a2:Int) (a3:Int) (a4:de):Option (bO × Int):=
 bd (bk n a1.book.jQ a2) fun aM =>
 cn ((!aM)) (
 some (a0,4)) (
 bd (fA n a1 a2) fun bE =>
 cn ((bE != a2)) (
 some (a0,12)) (
 cn ((decide (a3 < 0) || decide (8 ≤ a3))) (
 some (a0,2)) (
 bd (bR n a2) fun hJ =>
 lt ({ root:=a2,own:=a4 }:qH) fun jS =>
 gu (dO hJ.1 32) <|
 lt ({ a0 with slots:=(eG a0.slots (Int.toNat hJ.1) jS) }:bO) fun dB =>
 some (dB,0))))
theorem iX {n a0 a1 a2 a3 a4 r K} [bn K] {fq} (f1:(aj).rep K fq a1) (h:fh n a0 a1 a2 a3 a4 = some r):pD Tryz.prog 48 [.agg (ag.enc a0).toArray,A fq, .int .u32 a2, .int .i64 a3, .agg (aU.enc a4).toArray] K (.tuple #[.agg (ag.enc r.1).toArray, .int .i64 r.2]):=by
 unfold fh at h
 refine fo Tryz.func48 (by kernel_rfl) rfl Tryz.ntmps48 rfl fun cx _ hro cZ hpre=>?_
 refine SC 2 rf ?_
 refine W1 rf (cC ag a0 rfl rfl) fun b5=>?_
 refine W1 rf (aV rfl) fun b6=>?_
 refine W1 rf (cC aU a4 rfl rfl) fun b9=>?_
 refine W1 rf (bu (L:=ag) (z:=cB) ⟨by kernel_rfl⟩) fun qB=>?_
 obtain ⟨aM,bX,h⟩:=aS h
 refine SL 9 rf ?_
 refine ai rfl (bf rfl (bq.iff.1 ((aR.c0 br).get f1)) (aT _ _)) ?_
 refine ai rfl (ak rfl) ?_
 refine CV (bD bX) rf rf ?_
 refine SL 4 rf ?_
 refine dN h rf (fun hc h=>?_) fun hc h=>?_
 ·
  refine SC 2 rf ?_
  refine ai rfl (bj (M:=ag) (aE.id (L:=ag)) rfl rfl) ?_
  refine W0 (bI (M:=ag) (aE.id (L:=ag)) a0 a0 rfl rfl rfl rfl rfl) ?_
  refine SL 6 rf ?_
  have h:=sj h; subst h
  exact RV rf (ra rf (aT _ _) (rt rf rn)) rf
 ·
  obtain ⟨bE,fc,h⟩:=aS h
  refine SC 2 rf ?_
  refine ai rfl (ae rfl (aL.len _ f1)) ?_
  refine ai rfl (ak rfl) ?_
  refine CV (iH (K:=K) (mo f1) fc) rf rf ?_
  refine SL 5 rf ?_
  refine dN h rf (fun hc h=>?_) fun hc h=>?_
  ·
   refine SC 2 rf ?_
   refine ai rfl (bj (M:=ag) (aE.id (L:=ag)) rfl rfl) ?_
   refine W0 (bI (M:=ag) (aE.id (L:=ag)) a0 a0 rfl rfl rfl rfl rfl) ?_
   refine SL 6 rf ?_
   have h:=sj h; subst h
   exact RV rf (ra rf (aT _ _) (rt rf rn)) rf
  ·
   refine SC 5 rf ?_
   refine GB rf rf rf (fun hb=>ak rfl) ?_
   refine GB rf rf rf (fun hb=>n8 (bC rfl hb) rfl) ?_
   refine ai rfl (eF rfl rfl) ?_
   refine SL 3 rf ?_
   refine dN h rf (fun hc h=>?_) fun hc h=>?_
   ·
    refine SC 2 rf ?_
    refine ai rfl (bj (M:=ag) (aE.id (L:=ag)) rfl rfl) ?_
    refine W0 (bI (M:=ag) (aE.id (L:=ag)) a0 a0 rfl rfl rfl rfl rfl) ?_
    refine SL 6 rf ?_
    have h:=sj h; subst h
    exact RV rf (ra rf (aT _ _) (rt rf rn)) rf
   ·
    obtain ⟨hJ,jE,h⟩:=aS h
    refine SC 6 rf ?_
    refine CV (cL jE) rf rf ?_
    obtain ⟨jS,qf,h⟩:=cj h
    obtain ⟨tQ,h⟩:=cq h
    obtain ⟨dB,lF,h⟩:=cj h
    refine SL 11 rf ?_
    refine ai rfl (bj (M:=aU) (aE.id (L:=aU)) rfl rfl) ?_
    refine ai rfl (dI (cs:=ij.enc jS) rfl (by rw [qf]; rfl)) ?_
    refine ai rfl (aO rfl) ?_
    refine ai rfl (fK (m:=(Int.toNat hJ.1)) rfl rfl (az tQ).1 (az tQ).2) ?_
    refine W0 (bI (M:=ij) (kS.c0 (aE.idx (L:=ij) (m:=32) (k:=4) ((Int.toNat hJ.1)) (az tQ).2 rfl)) jS dB lF rfl rfl rfl rfl) ?_
    refine SL 4 rf ?_
    refine ai rfl (bj (M:=ag) (aE.id (L:=ag)) rfl rfl) ?_
    refine W0 (bI (M:=ag) (aE.id (L:=ag)) dB dB rfl rfl rfl rfl rfl) ?_
    refine SL 4 rf ?_
    have h:=sj h; subst h
    exact RV rf (ra rf (aT _ _) (rt rf rn)) rf
def gO (n:Nat) (a0:bO) (a1:aq) (a2:Int) (a3:Int) (a4:Bool):Option (bO × Int × Int):=
 bd (eW n a0 a1 a2) fun aM =>
 bd (fh n a0 a1 a2 a3 aM) fun bE =>
 bd (mR n a3) fun hJ =>
 cl ((bE.2 == 4) == false) (bk n a1.book.jQ a2) default fun jS =>
 cl (((bE.2 == 4) == false) && (jS == true)) (fA n a1 a2) default fun fF =>
 cn (((bE.2 == 4) || (jS && (fF != a2)))) (
 some (a0,0,bE.2)) (
 cn ((aM.Kind != 3)) (
 some (a0,0,12)) (
 cn ((bE.2 != 0)) (
 some (a0,0,bE.2)) (
 cn ((((kN .u8 aM.cG hJ) != 0) && a4)) (
 some (a0,0,7)) (
 cn (((!((kN .u8 aM.cG hJ) != 0)) && (!a4))) (
 some (a0,0,5)) (
 bd (mR n a3) fun dB =>
 lt ({ aM with cG:=s5 .u8 aM.cG dB }:de) fun cH =>
 bd (fh n bE.1 a1 a2 a3 cH) fun dQ =>
 some (dQ.1,cH.cG,dQ.2))))))
theorem oo {n a0 a1 a2 a3 a4 r K} [bn K] {fq} (f1:(aj).rep K fq a1) (h:gO n a0 a1 a2 a3 a4 = some r):pD Tryz.prog 49 [.agg (ag.enc a0).toArray,A fq, .int .u32 a2, .int .i64 a3, .bool a4] K (.tuple #[.agg (ag.enc r.1).toArray, .int .u8 r.2.1, .int .i64 r.2.2]):=by
 unfold gO at h
 refine fo Tryz.func49 (by kernel_rfl) rfl Tryz.ntmps49 rfl fun cx _ hro cZ hpre=>?_
 refine SC 2 rf ?_
 refine W1 rf (cC ag a0 rfl rfl) fun b5=>?_
 refine W1 rf (aV rfl) fun b6=>?_
 refine W1 rf (bu (L:=ag) (z:=cB) ⟨by kernel_rfl⟩) fun qB=>?_
 obtain ⟨aM,bX,h⟩:=aS h
 refine SL 6 rf ?_
 refine ai rfl (bj (M:=ag) (aE.id (L:=ag)) rfl rfl) ?_
 refine ai rfl (ae rfl (aL.len _ f1)) ?_
 refine ai rfl (ak rfl) ?_
 refine CV (ew (K:=K) (mo f1) bX) rf rf ?_
 refine W1 rf (bu (L:=aU) (z:=kO) ⟨by kernel_rfl⟩) fun Mn=>?_
 refine W0 (bI (M:=aU) (aE.id (L:=aU)) aM aM rfl rfl rfl rfl rfl) ?_
 obtain ⟨bE,fc,h⟩:=aS h
 refine SL 4 rf ?_
 refine ai rfl (bj (M:=ag) (aE.id (L:=ag)) rfl rfl) ?_
 refine ai rfl (ae rfl (aL.len _ f1)) ?_
 refine SL 2 rf ?_
 refine ai rfl (bj (M:=aU) (aE.id (L:=aU)) rfl rfl) ?_
 refine CV (iX (K:=K) (mo f1) fc) rf rf ?_
 refine SL 3 rf ?_
 refine W1 rf (bu (L:=ag) (z:=cB) ⟨by kernel_rfl⟩) fun Mm=>?_
 refine W0 (bI (M:=ag) (aE.id (L:=ag)) bE.1 bE.1 rfl rfl rfl rfl rfl) ?_
 refine SL 4 rf ?_
 obtain ⟨hJ,jE,h⟩:=aS h
 refine cK mixed (.gm [] [(0,[13]),(1,[30]),(2,[3]),(3,[32]),(4,[31,33]),(5,[34])] (.alt 6 [35] (.fin [] []) .no)) (by kernel_rfl) ?_
 refine T0 ?_
 refine NS 1 rf ?_
 refine NV rf rf (bg eM rfl) ?_
 refine NS 1 rf ?_
 refine NC rf rf (pB jE) rf ?_
 refine NV rf rf (rm rfl rfl) ?_
 refine NE 1 rf ?_
 refine XV rf rf (bQ rfl) ?_
 refine oF ?_
 obtain ⟨jS,qf,_,h⟩:=gQ h
 obtain ⟨fF,nD,_,h⟩:=gQ h
 refine SX 8 rf ?_
 refine GB rf rf rf (fun hb=>aO rfl) ?_
 refine GB rf rf rf (fun hb=>aO (bC rfl hb)) ?_
 refine GB rf rf rf (fun hb=>bf (bC rfl hb) (bq.iff.1 ((aR.c0 br).get f1)) (aT _ _)) ?_
 refine GB rf rf rf (fun hb=>ak rfl) ?_
 refine GB rf rf rf (fun hb=>ck (bD (qf hb)) (aB (bC rfl hb) (aB (bC rfl hb) rfl)) (fun _ _ _=>trivial)) ?_
 refine GB rf rf rf (fun hb=>ak (bC rfl hb)) ?_
 refine kz (jx rfl rfl) rfl (fun hb=>ae rfl (aL.len _ f1)) ?_
 refine kz (jx rfl rfl) rfl (fun hb=>ak rfl) ?_
 refine kz (jx rfl rfl) rfl (fun hb=>ck (iH (K:=K) (mo f1) (nD hb)) (aB (bC rfl hb) (aB (bC rfl hb) rfl)) kn) ?_
 refine kz (jx rfl rfl) rfl (fun hb=>ak rfl) ?_
 refine kz (jx rfl rfl) rfl (fun hb=>mG (bC rfl hb) (bC rfl hb)) ?_
 refine GB rf rf rf (fun hb=>bV (bC rfl hb) (uL rfl hb)) ?_
 refine ai rfl (eF rfl rfl) ?_
 refine SL 3 rf ?_
 refine dN h rf (fun hc h=>?_) fun hc h=>?_
 ·
  refine SC 2 rf ?_
  refine ai rfl (bj (M:=ag) (aE.id (L:=ag)) rfl rfl) ?_
  refine ai rfl (ak rfl) ?_
  refine W0 (bI (M:=ag) (aE.id (L:=ag)) a0 a0 rfl rfl rfl rfl rfl) ?_
  refine SL 7 rf ?_
  have h:=sj h; subst h
  exact RV rf (ra rf (aT _ _) (rt rf (rt rf rn))) rf
 ·
  refine SC 3 rf ?_
  refine ai rfl (bg kj rfl) ?_
  refine SL 4 rf ?_
  refine dN h rf (fun hc h=>?_) fun hc h=>?_
  ·
   refine SC 2 rf ?_
   refine ai rfl (bj (M:=ag) (aE.id (L:=ag)) rfl rfl) ?_
   refine W0 (bI (M:=ag) (aE.id (L:=ag)) a0 a0 rfl rfl rfl rfl rfl) ?_
   refine SL 7 rf ?_
   have h:=sj h; subst h
   exact RV rf (ra rf (aT _ _) (rt rf (rt rf rn))) rf
  ·
   refine SC 7 rf ?_
   refine dN h rf (fun hc h=>?_) fun hc h=>?_
   ·
    refine SC 2 rf ?_
    refine ai rfl (bj (M:=ag) (aE.id (L:=ag)) rfl rfl) ?_
    refine ai rfl (ak rfl) ?_
    refine W0 (bI (M:=ag) (aE.id (L:=ag)) a0 a0 rfl rfl rfl rfl rfl) ?_
    refine SL 7 rf ?_
    have h:=sj h; subst h
    exact RV rf (ra rf (aT _ _) (rt rf (rt rf rn))) rf
   ·
    refine SC 4 rf ?_
    refine GB rf rf rf (fun hb=>ak rfl) ?_
    refine ai rfl (bV rfl rfl) ?_
    refine SL 3 rf ?_
    refine dN h rf (fun hc h=>?_) fun hc h=>?_
    ·
     refine SC 2 rf ?_
     refine ai rfl (bj (M:=ag) (aE.id (L:=ag)) rfl rfl) ?_
     refine W0 (bI (M:=ag) (aE.id (L:=ag)) a0 a0 rfl rfl rfl rfl rfl) ?_
     refine SL 7 rf ?_
     have h:=sj h; subst h
     exact RV rf (ra rf (aT _ _) (rt rf (rt rf rn))) rf
    ·
     refine SC 5 rf ?_
     refine GB rf rf rf (fun hb=>ak rfl) ?_
     refine GB rf rf rf (fun hb=>ja (bC rfl hb)) ?_
     refine ai rfl (bV rfl rfl) ?_
     refine SL 3 rf ?_
     refine dN h rf (fun hc h=>?_) fun hc h=>?_
     ·
      refine SC 2 rf ?_
      refine ai rfl (bj (M:=ag) (aE.id (L:=ag)) rfl rfl) ?_
      refine W0 (bI (M:=ag) (aE.id (L:=ag)) a0 a0 rfl rfl rfl rfl rfl) ?_
      refine SL 7 rf ?_
      have h:=sj h; subst h
      exact RV rf (ra rf (aT _ _) (rt rf (rt rf rn))) rf
     ·
      refine SC 4 rf ?_
      obtain ⟨dB,lF,h⟩:=aS h
      obtain ⟨cH,lE,h⟩:=cj h
      refine cK mixed (.gm [] [(0,[13]),(1,[79]),(2,[3]),(3,[81]),(4,[80,82]),(5,[13])] (.alt 6 [83,84] (.fin [] []) .no)) (by kernel_rfl) ?_
      refine T0 ?_
      refine NS 1 rf ?_
      refine NV rf rf (bg eM rfl) ?_
      refine NS 1 rf ?_
      refine NC rf rf (pB lF) rf ?_
      refine NV rf rf (E3 rfl rfl) ?_
      refine NE 1 rf ?_
      refine X0 rf (bI (M:=(LI .u8)) eM (s5 .u8 aM.cG dB) cH lE rfl rfl rfl rfl) ?_
      refine oF ?_
      obtain ⟨dQ,qe,h⟩:=aS h
      refine SX 3 rf ?_
      refine ai rfl (bj (M:=ag) (aE.id (L:=ag)) rfl rfl) ?_
      refine ai rfl (ae rfl (aL.len _ f1)) ?_
      refine SL 2 rf ?_
      refine ai rfl (bj (M:=aU) (aE.id (L:=aU)) rfl rfl) ?_
      refine CV (iX (K:=K) (mo f1) qe) rf rf ?_
      refine SL 3 rf ?_
      refine W0 (bI (M:=ag) (aE.id (L:=ag)) dQ.1 dQ.1 rfl rfl rfl rfl rfl) ?_
      refine SL 4 rf ?_
      refine cK mixed (.gm [] [(0,[14]),(1,[13]),(2,[95]),(3,[15])] (.alt 4 [10,94] (.gm [(1,[13]),(2,[95]),(3,[15])] [] (.alt 5 [96] (.gm [(3,[15])] [] (.alt 6 [97] (.fin [] []) .no)) .no)) .no)) (by kernel_rfl) ?_
      refine T0 ?_
      refine NV rf rf (bj (M:=ag) (aE.id (L:=ag)) rfl rfl) ?_
      refine NS 1 rf ?_
      refine NV rf rf (bg eM rfl) ?_
      refine NE 1 rf ?_
      refine X0 rf (bI (M:=ag) (aE.id (L:=ag)) dQ.1 dQ.1 rfl rfl rfl rfl rfl) ?_
      refine di ?_ ?_
      ·
       refine uw 1 rf rf ?_
       refine RO rf rf (bg eM rfl) rf ?_
       exact RE 1 rf rf
      refine aP ?_
      refine XV rf rf (bQ rfl) ?_
      refine di ?_ ?_
      ·
       exact RE 1 rf rf
      refine aP ?_
      refine XV rf rf (bQ rfl) ?_
      refine oF ?_
      refine SX 2 rf ?_
      have h:=sj h; subst h
      exact RV rf (ra rf (aT _ _) (rt rf (rt rf rn))) rf
def fy (n:Nat) (a0:Int):Option Int:=
 gu (dO a0 256) <|
 some (wr .i64 (Lib.pop8 a0))
theorem nY {n a0 r}  (h:fy n a0 = some r):yz Tryz.prog 50 [.int .u8 a0] (.int .i64 r):=by
 unfold fy at h
 refine fI Tryz.func50 (by kernel_rfl) rfl Tryz.ntmps50 rfl (fun cx cZ hpre hro=>?_)
 obtain ⟨nE,h⟩:=cq h
 refine SC 8 rf ?_
 refine ai rfl (E4 (m:=(Int.toNat a0)) rfl rfl (az nE).1 (az nE).2) ?_
 refine SL 5 rf ?_
 have h:=sj h; subst h
 exact RV rf (rt rf rn) rf
def iD (n:Nat) (a0:bO) (a1:aq) (a2:Int) (a3:Int):Option (bO × Int × Int):=
 bd (gO n a0 a1 a2 a3 false) fun aM =>
 bd (fy n aM.2.1) fun bE =>
 some (aM.1,bE,aM.2.2)
theorem ou {n a0 a1 a2 a3 r K} [bn K] {fq} (f1:(aj).rep K fq a1) (h:iD n a0 a1 a2 a3 = some r):pD Tryz.prog 18 [.agg (ag.enc a0).toArray,A fq, .int .u32 a2, .int .i64 a3] K (.tuple #[.agg (ag.enc r.1).toArray, .int .i64 r.2.1, .int .i64 r.2.2]):=by
 unfold iD at h
 refine fo Tryz.func18 (by kernel_rfl) rfl Tryz.ntmps18 rfl fun cx _ hro cZ hpre=>?_
 refine SC 2 rf ?_
 refine W1 rf (cC ag a0 rfl rfl) fun b4=>?_
 refine W1 rf (aV rfl) fun b5=>?_
 refine W1 rf (bu (L:=ag) (z:=cB) ⟨by kernel_rfl⟩) fun b8=>?_
 obtain ⟨aM,bX,h⟩:=aS h
 refine SL 6 rf ?_
 refine ai rfl (bj (M:=ag) (aE.id (L:=ag)) rfl rfl) ?_
 refine ai rfl (ae rfl (aL.len _ f1)) ?_
 refine SL 2 rf ?_
 refine CV (oo (K:=K) (mo f1) bX) rf rf ?_
 refine SL 4 rf ?_
 refine W1 rf (bu (L:=ag) (z:=cB) ⟨by kernel_rfl⟩) fun xh=>?_
 refine W0 (bI (M:=ag) (aE.id (L:=ag)) aM.1 aM.1 rfl rfl rfl rfl rfl) ?_
 refine SL 5 rf ?_
 obtain ⟨bE,fc,h⟩:=aS h
 refine cK mixed (.gm [] [(0,[11]),(1,[12]),(2,[24]),(3,[13])] (.alt 4 [8,23] (.gm [(3,[13])] [] (.alt 5 [25] (.gm [(3,[13])] [] (.alt 6 [26] (.fin [] []) .no)) .no)) .no)) (by kernel_rfl) ?_
 refine T0 ?_
 refine NV rf rf (bj (M:=ag) (aE.id (L:=ag)) rfl rfl) ?_
 refine NS 1 rf ?_
 refine NC rf rf (nY fc) rf ?_
 refine NE 1 rf ?_
 refine X0 rf (bI (M:=ag) (aE.id (L:=ag)) aM.1 aM.1 rfl rfl rfl rfl rfl) ?_
 refine di ?_ ?_
 ·
  exact RE 1 rf rf
 refine aP ?_
 refine XV rf rf (bQ rfl) ?_
 refine di ?_ ?_
 ·
  exact RE 1 rf rf
 refine aP ?_
 refine XV rf rf (bQ rfl) ?_
 refine oF ?_
 refine SX 2 rf ?_
 have h:=sj h; subst h
 exact RV rf (ra rf (aT _ _) (rt rf (rt rf rn))) rf
def jZ (n:Nat) (a0:bO) (a1:aq) (a2:Int):Option (bO × Int):=
 lt ({ Kind:=2,Task:=0,cG:=0 }:de) fun aM =>
 bd (fh n a0 a1 a2 0 aM) fun bE =>
 some (bE.1,bE.2)
theorem tX {n a0 a1 a2 r K} [bn K] {fq} (f1:(aj).rep K fq a1) (h:jZ n a0 a1 a2 = some r):pD Tryz.prog 21 [.agg (ag.enc a0).toArray,A fq, .int .u32 a2] K (.tuple #[.agg (ag.enc r.1).toArray, .int .i64 r.2]):=by
 unfold jZ at h
 refine fo Tryz.func21 (by kernel_rfl) rfl Tryz.ntmps21 rfl fun cx _ hro cZ hpre=>?_
 refine SC 2 rf ?_
 refine W1 rf (cC ag a0 rfl rfl) fun b3=>?_
 refine W1 rf (aV rfl) fun b4=>?_
 refine W1 rf (bu (L:=ag) (z:=cB) ⟨by kernel_rfl⟩) fun b6=>?_
 obtain ⟨aM,bX,h⟩:=cj h
 obtain ⟨bE,fc,h⟩:=aS h
 refine SL 5 rf ?_
 refine ai rfl (bj (M:=ag) (aE.id (L:=ag)) rfl rfl) ?_
 refine ai rfl (ae rfl (aL.len _ f1)) ?_
 refine ai rfl (ak rfl) ?_
 refine ai rfl (dI (cs:=aU.enc aM) rfl (by rw [bX]; rfl)) ?_
 refine CV (iX (K:=K) (mo f1) fc) rf rf ?_
 refine SL 2 rf ?_
 refine W0 (bI (M:=ag) (aE.id (L:=ag)) bE.1 bE.1 rfl rfl rfl rfl rfl) ?_
 refine SL 4 rf ?_
 have h:=sj h; subst h
 exact RV rf (ra rf (aT _ _) (rt rf rn)) rf
def gA (n:Nat) (a0:bO) (a1:aq) (a2:Int) (a3:Int):Option (bO × Int):=
 bd (mR n a3) fun aM =>
 lt ({ Kind:=3,Task:=0,cG:=aM }:de) fun bE =>
 bd (fh n a0 a1 a2 a3 bE) fun hJ =>
 some (hJ.1,hJ.2)
theorem mZ {n a0 a1 a2 a3 r K} [bn K] {fq} (f1:(aj).rep K fq a1) (h:gA n a0 a1 a2 a3 = some r):pD Tryz.prog 16 [.agg (ag.enc a0).toArray,A fq, .int .u32 a2, .int .i64 a3] K (.tuple #[.agg (ag.enc r.1).toArray, .int .i64 r.2]):=by
 unfold gA at h
 refine fo Tryz.func16 (by kernel_rfl) rfl Tryz.ntmps16 rfl fun cx _ hro cZ hpre=>?_
 refine SC 2 rf ?_
 refine W1 rf (cC ag a0 rfl rfl) fun b4=>?_
 refine W1 rf (aV rfl) fun b5=>?_
 refine W1 rf (bu (L:=ag) (z:=cB) ⟨by kernel_rfl⟩) fun b8=>?_
 refine SL 4 rf ?_
 obtain ⟨aM,bX,h⟩:=aS h
 obtain ⟨bE,fc,h⟩:=cj h
 obtain ⟨hJ,jE,h⟩:=aS h
 refine cK mixed (.gm [] [(0,[4]),(1,[5]),(2,[2]),(3,[3]),(4,[3]),(5,[14]),(6,[15]),(7,[10,11,12,13,16]),(8,[17]),(9,[17])] (.alt 10 [8,18] (.gm [] [] (.alt 11 [19] (.fin [] []) .no)) .no)) (by kernel_rfl) ?_
 refine T0 ?_
 refine NV rf rf (bj (M:=ag) (aE.id (L:=ag)) rfl rfl) ?_
 refine NV rf rf (ae rfl (aL.len _ f1)) ?_
 refine NS 3 rf ?_
 refine NC rf rf (pB bX) rf ?_
 refine NV rf rf (dI (cs:=aU.enc bE) rfl (by rw [fc]; rfl)) ?_
 refine NC rf rf (iX (K:=K) (mo f1) jE) rf ?_
 refine NE 2 rf ?_
 refine X0 rf (bI (M:=ag) (aE.id (L:=ag)) hJ.1 hJ.1 rfl rfl rfl rfl rfl) ?_
 refine E8 ?_
 refine XV rf rf (bQ rfl) ?_
 refine oF ?_
 refine SX 2 rf ?_
 have h:=sj h; subst h
 exact RV rf (ra rf (aT _ _) (rt rf rn)) rf
def gP (n:Nat) (a0:bO) (a1:aq) (a2:Int) (a3:Int):Option (bO × Int):=
 lt ({ Kind:=1,Task:=wr .u8 a3,cG:=0 }:de) fun aM =>
 bd (fh n a0 a1 a2 a3 aM) fun bE =>
 some (bE.1,bE.2)
theorem lG {n a0 a1 a2 a3 r K} [bn K] {fq} (f1:(aj).rep K fq a1) (h:gP n a0 a1 a2 a3 = some r):pD Tryz.prog 15 [.agg (ag.enc a0).toArray,A fq, .int .u32 a2, .int .i64 a3] K (.tuple #[.agg (ag.enc r.1).toArray, .int .i64 r.2]):=by
 unfold gP at h
 refine fo Tryz.func15 (by kernel_rfl) rfl Tryz.ntmps15 rfl fun cx _ hro cZ hpre=>?_
 refine SC 2 rf ?_
 refine W1 rf (cC ag a0 rfl rfl) fun b4=>?_
 refine W1 rf (aV rfl) fun b5=>?_
 refine W1 rf (bu (L:=ag) (z:=cB) ⟨by kernel_rfl⟩) fun b8=>?_
 obtain ⟨aM,bX,h⟩:=cj h
 obtain ⟨bE,fc,h⟩:=aS h
 refine SL 5 rf ?_
 refine ai rfl (bj (M:=ag) (aE.id (L:=ag)) rfl rfl) ?_
 refine ai rfl (ae rfl (aL.len _ f1)) ?_
 refine SL 4 rf ?_
 refine ai rfl (dI (cs:=aU.enc aM) rfl (by rw [bX]; rfl)) ?_
 refine CV (iX (K:=K) (mo f1) fc) rf rf ?_
 refine SL 2 rf ?_
 refine W0 (bI (M:=ag) (aE.id (L:=ag)) bE.1 bE.1 rfl rfl rfl rfl rfl) ?_
 refine SL 4 rf ?_
 have h:=sj h; subst h
 exact RV rf (ra rf (aT _ _) (rt rf rn)) rf
def iB (n:Nat) (a0:bO) (a1:aq) (a2:Int) (a3:Int):Option (bO × Int):=
 bd (gO n a0 a1 a2 a3 true) fun aM =>
 some (aM.1,aM.2.2)
theorem oq {n a0 a1 a2 a3 r K} [bn K] {fq} (f1:(aj).rep K fq a1) (h:iB n a0 a1 a2 a3 = some r):pD Tryz.prog 17 [.agg (ag.enc a0).toArray,A fq, .int .u32 a2, .int .i64 a3] K (.tuple #[.agg (ag.enc r.1).toArray, .int .i64 r.2]):=by
 unfold iB at h
 refine fo Tryz.func17 (by kernel_rfl) rfl Tryz.ntmps17 rfl fun cx _ hro cZ hpre=>?_
 refine SC 2 rf ?_
 refine W1 rf (cC ag a0 rfl rfl) fun b4=>?_
 refine W1 rf (aV rfl) fun b5=>?_
 refine W1 rf (bu (L:=ag) (z:=cB) ⟨by kernel_rfl⟩) fun b8=>?_
 obtain ⟨aM,bX,h⟩:=aS h
 refine SL 5 rf ?_
 refine ai rfl (bj (M:=ag) (aE.id (L:=ag)) rfl rfl) ?_
 refine ai rfl (ae rfl (aL.len _ f1)) ?_
 refine SL 2 rf ?_
 refine CV (oo (K:=K) (mo f1) bX) rf rf ?_
 refine SL 4 rf ?_
 refine W1 rf (bu (L:=ag) (z:=cB) ⟨by kernel_rfl⟩) fun qB=>?_
 refine W0 (bI (M:=ag) (aE.id (L:=ag)) aM.1 aM.1 rfl rfl rfl rfl rfl) ?_
 refine SL 6 rf ?_
 refine ai rfl (bj (M:=ag) (aE.id (L:=ag)) rfl rfl) ?_
 refine ai rfl (ak rfl) ?_
 refine W0 (bI (M:=ag) (aE.id (L:=ag)) aM.1 aM.1 rfl rfl rfl rfl rfl) ?_
 refine SL 4 rf ?_
 have h:=sj h; subst h
 exact RV rf (ra rf (aT _ _) (rt rf rn)) rf
def nU (n:Nat) (a0:ah) (a1:Int):Option Int:=
 gu (!((decide (1 ≤ a1) && decide (a1 ≤ 32)) == true) || dO (wr .u32 (a1 - 1)) 32) <|
 cn (((decide (1 ≤ a1) && decide (a1 ≤ 32)) && ((a0.B.Is (Int.toNat (wr .u32 (a1 - 1)))) == 1))) (
 bd (fg n a0.B (wr .i64 (wr .u32 (a1 - 1)))) fun bE =>
 some bE) (
 some (wr .i64 a1))
theorem wH {n a0 a1 r K} [bn K] {cv} (f0:(ay).rep K cv a0) (h:nU n a0 a1 = some r):pD Tryz.prog 19 [A cv, .int .u32 a1] K (.int .i64 r):=by
 unfold nU at h
 refine fo Tryz.func19 (by kernel_rfl) rfl Tryz.ntmps19 rfl fun cx _ hro cZ hpre=>?_
 refine SC 2 rf ?_
 refine W1 rf (aV rfl) fun b2=>?_
 obtain ⟨nE,h⟩:=cq h
 refine SL 9 rf ?_
 refine GB rf rf rf (fun hb=>ak rfl) ?_
 refine GB rf rf rf (fun hb=>o6 (bC rfl hb) rfl) ?_
 refine ai rfl (bV rfl rfl) ?_
 refine ai rfl (ak rfl) ?_
 refine GB rf rf rf (fun hb=>ak rfl) ?_
 refine GB rf rf rf (fun hb=>rW (bC rfl hb) rfl rfl) ?_
 refine GB rf rf rf (fun hb=>aO rfl) ?_
 refine GB rf rf rf (fun hb=>aO (bC rfl hb)) ?_
 refine GB rf rf rf (fun hb=>cm (m:=(Int.toNat (wr .u32 (a1 - 1)))) (bC rfl hb) (bC rfl hb) (az (iJ nE hb)).1 (az (iJ nE hb)).2) ?_
 refine GB rf rf rf (fun hb=>bL (bC rfl hb) (((bZ.c0 eZ).comp (aE.idx (L:=(LI .i64)) (m:=32) (k:=1) ((Int.toNat (wr .u32 (a1 - 1)))) (az (iJ nE hb)).2 rfl)).int f0)) ?_
 refine GB rf rf rf (fun hb=>ff (bC rfl hb) rfl) ?_
 refine ai rfl (bV rfl rfl) ?_
 refine SL 2 rf ?_
 refine dN h rf (fun hc h=>?_) fun hc h=>?_
 ·
  obtain ⟨bE,fc,h⟩:=aS h
  refine SC 3 rf ?_
  refine ai rfl (bf rfl (bq.iff.1 (bZ.get f0)) (aT _ _)) ?_
  refine SL 3 rf ?_
  refine CV (iz fc) rf rf ?_
  refine SL 5 rf ?_
  have h:=sj h; subst h
  exact RV rf (rt rf rn) rf
 ·
  refine SC 10 rf ?_
  have h:=sj h; subst h
  exact RV rf (rt rf rn) rf
def mg (n:Nat) (a0:aq) (a1:ah) (a2:bO) (a3:aK) (a4:iF):Option (bO × aK × Bool):=
 bd (nU n a1 a4.A) fun aM =>
 lt (fun (jS:Int) (fF:Int) (dB:Int) (cH:Int) (dQ:aK) (dj:bO) =>
 some (dj,dQ,((jS == fF) && (dB == cH)))) fun z6 =>
 cn ((a4.Do == 10)) (
 bd (gP n a2 a0 (wr .u32 aM) a4.bP) fun jR =>
 bd (fx n a3 a1 aM a4.bP 1) fun cT =>
 z6 jR.2 cT.2 0 0 cT.1 jR.1) (
 cn ((a4.Do == 11)) (
 bd (jZ n a2 a0 (wr .u32 aM)) fun hY =>
 bd (fx n a3 a1 aM a4.bP 2) fun pE =>
 z6 hY.2 pE.2 0 0 pE.1 hY.1) (
 cn ((a4.Do == 12)) (
 bd (gA n a2 a0 (wr .u32 aM) a4.bP) fun Fm =>
 bd (fx n a3 a1 aM a4.bP 3) fun lA =>
 z6 Fm.2 lA.2 0 0 lA.1 Fm.1) (
 cn ((a4.Do == 13)) (
 bd (iB n a2 a0 (wr .u32 aM) a4.bP) fun rB =>
 bd (fM n a3 a1 aM a4.bP true) fun s6 =>
 z6 rB.2 s6.2.2 0 0 s6.1 rB.1) (
 bd (iD n a2 a0 (wr .u32 aM) a4.bP) fun rA =>
 bd (fM n a3 a1 aM a4.bP false) fun DZ =>
 z6 rA.2.2 DZ.2.2 rA.2.1 DZ.2.1 DZ.1 rA.1))))
theorem wI {n a0 a1 a2 a3 a4 r K} [bn K] {cv} (f0:(aj).rep K cv a0) {fq:List Value} (f1:(ay).rep K fq a1) {FQ:List Value} (f3:(aH).rep K FQ a3) (h:mg n a0 a1 a2 a3 a4 = some r):pY Tryz.prog 5 [A cv,A fq, .agg (ag.enc a2).toArray,A FQ, .agg (bM.enc a4).toArray] K (fun J v=>∃u1,v = (.tuple #[.agg (ag.enc r.1).toArray,A u1, .bool r.2.2])∧(aH).rep (fun w=>K w∧J w) u1 (r.2.1)):=by
 unfold mg at h
 refine fo Tryz.func5 (by kernel_rfl) rfl Tryz.ntmps5 rfl fun cx _ hro cZ hpre=>?_
 refine SC 2 rf ?_
 refine W1 rf (aV rfl) fun b5=>?_
 refine W1 rf (aV rfl) fun b6=>?_
 refine W1 rf (cC ag a2 rfl rfl) fun b7=>?_
 refine W1 rf (aV rfl) fun b8=>?_
 refine W1 rf (cC bM a4 rfl rfl) fun b9=>?_
 refine W1 rf (bu (L:=ag) (z:=cB) ⟨by kernel_rfl⟩) fun qB=>?_
 refine W1 rf (bz (hz:=(⟨by kernel_rfl⟩ : cA Tryz.prog 64 bx))) fun xh=>?_
 obtain ⟨aM,bX,h⟩:=aS h
 refine SL 5 rf ?_
 refine ai rfl (ae rfl (aL.len _ f1)) ?_
 refine ai rfl (aO rfl) ?_
 refine ai rfl (bg pW rfl) ?_
 refine CV (wH (K:=K) (mo f1) bX) rf rf ?_
 refine SL 22 rf ?_
 obtain ⟨z6,Hv,h⟩:=cj h
 refine CU (α:=Int × Int × Int × Int × aK × bO × (List Value) × (List Nat) × (World→Prop)) [7,8,10,11] rf (fun (jS,fF,dB,cH,dQ,dj,FV,A6,Jm)=>[(15, .int .i64 jS),(16, .int .i64 fF),(17, .int .i64 dB),(18, .int .i64 cH)]) (fun (jS,fF,dB,cH,dQ,dj,FV,A6,Jm)=>[.ext A6 Jm, .cells xh 64 bx, .cells qB 60 (ag.enc cB), .cells b9 66 (bM.enc a4), .cells b8 64 FV, .cells b7 60 (ag.enc dj), .cells b6 53 fq, .cells b5 41 cv]) (fun (jS,fF,dB,cH,dQ,dj,FV,A6,Jm)=>(aH).rep (fun w=>K w∧Hs [.ext A6 Jm] w) FV dQ∧z6 jS fF dB cH dQ dj = some r) ?_ ?_
 ·
  refine SC 3 rf ?_
  refine ai rfl (bg mK rfl) ?_
  refine SL 9 rf ?_
  refine dN h rf (fun hc h=>?_) fun hc h=>?_
  ·
   obtain ⟨jR,oU,h⟩:=aS h
   refine SC 2 rf ?_
   refine ai rfl (bj (M:=ag) (aE.id (L:=ag)) rfl rfl) ?_
   refine ai rfl (ae rfl (aL.len _ f0)) ?_
   refine SL 2 rf ?_
   refine ai rfl (bg cV rfl) ?_
   refine CV (lG (K:=K) (mo f0) oU) rf rf ?_
   refine SL 3 rf ?_
   refine W0 (bI (M:=ag) (aE.id (L:=ag)) jR.1 jR.1 rfl rfl rfl rfl rfl) ?_
   obtain ⟨cT,qd,h⟩:=aS h
   refine SL 4 rf ?_
   refine ai rfl (ae rfl (aL.len _ f3)) ?_
   refine ai rfl (ae rfl (aL.len _ f1)) ?_
   refine SL 2 rf ?_
   refine ai rfl (bg cV rfl) ?_
   refine CB (kK (K:=K) (mo f3) (mo f1) qd) rf rf ?_
   rintro TS gR nh ⟨DR,rfl,f39⟩
   replace f39:(aH).rep (fun w=>K w∧Hs [.ext gR nh] w) DR cT.1:=f39
   refine SL 3 rf ?_
   refine ST (C:=(fun w=>K w∧Hs [.ext gR nh] w)) cT.1 (aE.id (L:=aH)) (mo f3) (mo f39) rf rf rf rf rf fun Jd f42=>?_
   refine SL 3 rf ?_
   refine bH (R:=[.ext gR nh]) (H':=[.cells xh 64 bx, .cells qB 60 (ag.enc cB), .cells b9 66 (bM.enc a4), .cells b8 64 Jd, .cells b7 60 (ag.enc jR.1), .cells b6 53 fq, .cells b5 41 cv]) (ks:=[0,1,2,3,4,5,6,7]) rfl (by decide) ?_
   exact CE [0,1,2,3,4,5,6,7] (jR.2,cT.2,0,0,cT.1,jR.1,Jd,(bN [.ext gR nh]),(Hs [.ext gR nh])) ⟨(mo f42),h⟩ rf rf rf
  ·
   refine SC 6 rf ?_
   refine dN h rf (fun hc h=>?_) fun hc h=>?_
   ·
    obtain ⟨hY,qb,h⟩:=aS h
    refine SC 2 rf ?_
    refine ai rfl (bj (M:=ag) (aE.id (L:=ag)) rfl rfl) ?_
    refine ai rfl (ae rfl (aL.len _ f0)) ?_
    refine ai rfl (ak rfl) ?_
    refine CV (tX (K:=K) (mo f0) qb) rf rf ?_
    refine SL 3 rf ?_
    refine W0 (bI (M:=ag) (aE.id (L:=ag)) hY.1 hY.1 rfl rfl rfl rfl rfl) ?_
    obtain ⟨pE,AT,h⟩:=aS h
    refine SL 4 rf ?_
    refine ai rfl (ae rfl (aL.len _ f3)) ?_
    refine ai rfl (ae rfl (aL.len _ f1)) ?_
    refine SL 2 rf ?_
    refine ai rfl (bg cV rfl) ?_
    refine CB (kK (K:=K) (mo f3) (mo f1) AT) rf rf ?_
    rintro TO De MJ ⟨Jc,rfl,f49⟩
    replace f49:(aH).rep (fun w=>K w∧Hs [.ext De MJ] w) Jc pE.1:=f49
    refine SL 3 rf ?_
    refine ST (C:=(fun w=>K w∧Hs [.ext De MJ] w)) pE.1 (aE.id (L:=aH)) (mo f3) (mo f49) rf rf rf rf rf fun Il f52=>?_
    refine SL 3 rf ?_
    refine bH (R:=[.ext De MJ]) (H':=[.cells xh 64 bx, .cells qB 60 (ag.enc cB), .cells b9 66 (bM.enc a4), .cells b8 64 Il, .cells b7 60 (ag.enc hY.1), .cells b6 53 fq, .cells b5 41 cv]) (ks:=[0,1,2,3,4,5,6,7]) rfl (by decide) ?_
    exact CE [0,1,2,3,4,5,6,7] (hY.2,pE.2,0,0,pE.1,hY.1,Il,(bN [.ext De MJ]),(Hs [.ext De MJ])) ⟨(mo f52),h⟩ rf rf rf
   ·
    refine SC 6 rf ?_
    refine dN h rf (fun hc h=>?_) fun hc h=>?_
    ·
     obtain ⟨Fm,On,h⟩:=aS h
     refine SC 2 rf ?_
     refine ai rfl (bj (M:=ag) (aE.id (L:=ag)) rfl rfl) ?_
     refine ai rfl (ae rfl (aL.len _ f0)) ?_
     refine SL 2 rf ?_
     refine ai rfl (bg cV rfl) ?_
     refine CV (mZ (K:=K) (mo f0) On) rf rf ?_
     refine SL 3 rf ?_
     refine W0 (bI (M:=ag) (aE.id (L:=ag)) Fm.1 Fm.1 rfl rfl rfl rfl rfl) ?_
     obtain ⟨lA,rL,h⟩:=aS h
     refine SL 4 rf ?_
     refine ai rfl (ae rfl (aL.len _ f3)) ?_
     refine ai rfl (ae rfl (aL.len _ f1)) ?_
     refine SL 2 rf ?_
     refine ai rfl (bg cV rfl) ?_
     refine CB (kK (K:=K) (mo f3) (mo f1) rL) rf rf ?_
     rintro Qq mE um ⟨uq,rfl,f59⟩
     replace f59:(aH).rep (fun w=>K w∧Hs [.ext mE um] w) uq lA.1:=f59
     refine SL 3 rf ?_
     refine ST (C:=(fun w=>K w∧Hs [.ext mE um] w)) lA.1 (aE.id (L:=aH)) (mo f3) (mo f59) rf rf rf rf rf fun Q2 f62=>?_
     refine SL 3 rf ?_
     refine bH (R:=[.ext mE um]) (H':=[.cells xh 64 bx, .cells qB 60 (ag.enc cB), .cells b9 66 (bM.enc a4), .cells b8 64 Q2, .cells b7 60 (ag.enc Fm.1), .cells b6 53 fq, .cells b5 41 cv]) (ks:=[0,1,2,3,4,5,6,7]) rfl (by decide) ?_
     exact CE [0,1,2,3,4,5,6,7] (Fm.2,lA.2,0,0,lA.1,Fm.1,Q2,(bN [.ext mE um]),(Hs [.ext mE um])) ⟨(mo f62),h⟩ rf rf rf
    ·
     refine SC 6 rf ?_
     refine dN h rf (fun hc h=>?_) fun hc h=>?_
     ·
      obtain ⟨rB,G9,h⟩:=aS h
      refine SC 2 rf ?_
      refine ai rfl (bj (M:=ag) (aE.id (L:=ag)) rfl rfl) ?_
      refine ai rfl (ae rfl (aL.len _ f0)) ?_
      refine SL 2 rf ?_
      refine ai rfl (bg cV rfl) ?_
      refine CV (oq (K:=K) (mo f0) G9) rf rf ?_
      refine SL 3 rf ?_
      refine W0 (bI (M:=ag) (aE.id (L:=ag)) rB.1 rB.1 rfl rfl rfl rfl rfl) ?_
      obtain ⟨s6,Ok,h⟩:=aS h
      refine SL 4 rf ?_
      refine ai rfl (ae rfl (aL.len _ f3)) ?_
      refine ai rfl (ae rfl (aL.len _ f1)) ?_
      refine SL 2 rf ?_
      refine ai rfl (bg cV rfl) ?_
      refine CB (mX (K:=K) (mo f3) (mo f1) Ok) rf rf ?_
      rintro TJ lH sN ⟨Ae,rfl,f69⟩
      replace f69:(aH).rep (fun w=>K w∧Hs [.ext lH sN] w) Ae s6.1:=f69
      refine SL 4 rf ?_
      refine ST (C:=(fun w=>K w∧Hs [.ext lH sN] w)) s6.1 (aE.id (L:=aH)) (mo f3) (mo f69) rf rf rf rf rf fun L7 f72=>?_
      refine SL 3 rf ?_
      refine bH (R:=[.ext lH sN]) (H':=[.cells xh 64 bx, .cells qB 60 (ag.enc cB), .cells b9 66 (bM.enc a4), .cells b8 64 L7, .cells b7 60 (ag.enc rB.1), .cells b6 53 fq, .cells b5 41 cv]) (ks:=[0,1,2,3,4,5,6,7]) rfl (by decide) ?_
      exact CE [0,1,2,3,4,5,6,7] (rB.2,s6.2.2,0,0,s6.1,rB.1,L7,(bN [.ext lH sN]),(Hs [.ext lH sN])) ⟨(mo f72),h⟩ rf rf rf
     ·
      obtain ⟨rA,AQ,h⟩:=aS h
      refine SC 2 rf ?_
      refine ai rfl (bj (M:=ag) (aE.id (L:=ag)) rfl rfl) ?_
      refine ai rfl (ae rfl (aL.len _ f0)) ?_
      refine SL 2 rf ?_
      refine ai rfl (bg cV rfl) ?_
      refine CV (ou (K:=K) (mo f0) AQ) rf rf ?_
      refine SL 4 rf ?_
      refine W0 (bI (M:=ag) (aE.id (L:=ag)) rA.1 rA.1 rfl rfl rfl rfl rfl) ?_
      obtain ⟨DZ,Oe,h⟩:=aS h
      refine SL 5 rf ?_
      refine ai rfl (ae rfl (aL.len _ f3)) ?_
      refine ai rfl (ae rfl (aL.len _ f1)) ?_
      refine SL 2 rf ?_
      refine ai rfl (bg cV rfl) ?_
      refine CB (mX (K:=K) (mo f3) (mo f1) Oe) rf rf ?_
      rintro TG C9 ME ⟨P7,rfl,f79⟩
      replace f79:(aH).rep (fun w=>K w∧Hs [.ext C9 ME] w) P7 DZ.1:=f79
      refine SL 4 rf ?_
      refine ST (C:=(fun w=>K w∧Hs [.ext C9 ME] w)) DZ.1 (aE.id (L:=aH)) (mo f3) (mo f79) rf rf rf rf rf fun QY f82=>?_
      refine SL 4 rf ?_
      refine bH (R:=[.ext C9 ME]) (H':=[.cells xh 64 bx, .cells qB 60 (ag.enc cB), .cells b9 66 (bM.enc a4), .cells b8 64 QY, .cells b7 60 (ag.enc rA.1), .cells b6 53 fq, .cells b5 41 cv]) (ks:=[0,1,2,3,4,5,6,7]) rfl (by decide) ?_
      exact CE [0,1,2,3,4,5,6,7] (rA.2.2,DZ.2.2,rA.2.1,DZ.2.1,DZ.1,rA.1,QY,(bN [.ext C9 ME]),(Hs [.ext C9 ME])) ⟨(mo f82),h⟩ rf rf rf
 ·
  rintro ⟨jS,fF,dB,cH,dQ,dj,FV,A6,Jm⟩ ⟨f30,h⟩
  replace h:z6 jS fF dB cH dQ dj = some r:=h
  replace h:=Ke Hv h
  refine o5 ?_
  refine cK mixed (.gm [] [(0,[7]),(1,[8]),(2,[15]),(3,[16]),(4,[128,129]),(5,[130]),(6,[17,131]),(7,[18,131]),(8,[131,132,133]),(9,[131,134])] (.alt 10 [10,126] (.gm [(1,[8]),(6,[17,131]),(7,[18,131]),(8,[131,132,133]),(9,[131,134])] [] (.alt 11 [11,127] (.gm [(6,[17,131]),(7,[18,131]),(8,[131,132,133]),(9,[131,134])] [] (.alt 12 [135] (.fin [] []) .no)) .no)) .no)) (by kernel_rfl) ?_
  refine T0 ?_
  refine NV rf rf (bj (M:=ag) (aE.id (L:=ag)) rfl rfl) ?_
  refine NV rf rf (ae rfl (aL.len _ f30)) ?_
  refine NS 4 rf ?_
  refine NG rf rf (cY rfl rfl) (fun hb=>ak rfl) ?_
  refine NG rf rf (cY rfl rfl) (fun hb=>ak rfl) ?_
  refine NG rf rf (cY rfl rfl) (fun hb=>ff (bC rfl hb) (bC rfl hb)) ?_
  refine NV rf rf (bV rfl rfl) ?_
  refine aP ?_
  refine X0 rf (bI (M:=ag) (aE.id (L:=ag)) dj dj rfl rfl rfl rfl rfl) ?_
  refine di ?_ ?_
  ·
   refine RO rf rf (ae rfl (aL.len _ f30)) rf ?_
   refine dU rfl rfl (n9 (cY rfl rfl) (fun hb=>ak rfl)) ?_
   refine dU rfl rfl (n9 (cY rfl rfl) (fun hb=>ak rfl)) ?_
   refine dU rfl rfl (n9 (cY rfl rfl) (fun hb=>kP (ff (bC rfl hb) (bC rfl hb)) rfl)) ?_
   refine RO rf rf (bV rfl rfl) rf ?_
   exact fD
  refine aP ?_
  obtain ⟨T7,Pq,f84⟩:=Bo (C:=(fun w=>K w∧Hs [.ext A6 Jm] w)) (x':=dQ) (aE.id (L:=aH)) er (mo f30) rf
  refine X0 rf (Bv Pq rf rf rf rf) ?_
  refine di ?_ ?_
  ·
   refine dU rfl rfl (n9 (cY rfl rfl) (fun hb=>ak rfl)) ?_
   refine dU rfl rfl (n9 (cY rfl rfl) (fun hb=>ak rfl)) ?_
   refine dU rfl rfl (n9 (cY rfl rfl) (fun hb=>kP (ff (bC rfl hb) (bC rfl hb)) rfl)) ?_
   refine RO rf rf (bV rfl rfl) rf ?_
   exact fD
  refine aP ?_
  refine XV rf rf (bQ rfl) ?_
  refine oF ?_
  refine SX 2 rf ?_
  have h:=sj h; subst h
  exact lB [0] rf rf (ra rf (aT _ _) (ra rf (aL.len _ f84) (rt rf rn))) ⟨_,rfl,(mo f84)⟩
def nw (n:Nat) (a0:(List Int)) (a1:(List Int)):Option Bool:=
 cn (((a0.length:Int) != (a1.length:Int))) (
 some false) (
 eu (fun v7 (bE:Int) =>
 cn (decide (bE < (a0.length:Int))) (
 gu (dO bE a0.length) <|
 gu (dO bE a1.length) <|
 cn (((wr .i64 (a0.getD (Int.toNat bE) default)) != (a1.getD (Int.toNat bE) default))) (
 some false) (
 v7 (wr .i64 (bE + 1)))) (
 some true)) n 0)
theorem su {n a0 a1 r K} [bn K] {v0} (f0:Fz K v0 (LI .u32) a0) {v1:Value} (f1:Fz K v1 (LI .i64) a1) (h:nw n a0 a1 = some r):pD Tryz.prog 10 [v0,v1] K (.bool r):=by
 unfold nw at h
 refine fo Tryz.func10 (by kernel_rfl) rfl Tryz.ntmps10 rfl fun cx _ hro cZ hpre=>?_
 refine SC 9 rf ?_
 refine ai rfl (dg f0 rfl) ?_
 refine ai rfl (ak rfl) ?_
 refine ai rfl (dg f1 rfl) ?_
 refine SL 3 rf ?_
 refine dN h rf (fun hc h=>?_) fun hc h=>?_
 ·
  refine SC 7 rf ?_
  have h:=sj h; subst h
  exact RV rf (rt rf rn) rf
 ·
  refine SC 9 rf ?_
  obtain ⟨p9,mq,h⟩:=mT h
  refine LO (β:=Int) [0,1] [] (fun (me,bE)=>[(5, .int .i64 bE)]) (fun (me,bE)=>[]) (fun (me,bE)=>eu p9 me bE = some r) (n,0) h rf rf rf ?_
  rintro me bE h
  replace h:=mS mq h; obtain ⟨me,rfl,h⟩:=h
  refine SC 5 rf ?_
  refine ai rfl (dg f0 rfl) ?_
  refine SL 3 rf ?_
  refine dN h rf (fun hc h=>?_) fun hc h=>?_
  ·
   refine SC 5 rf ?_
   obtain ⟨mN,h⟩:=cq h
   obtain ⟨mw,h⟩:=cq h
   refine cK mixed (.fin [] [(0,[0]),(1,[5]),(2,[17,18]),(3,[19]),(4,[20]),(5,[1]),(6,[5]),(7,[22,23]),(8,[24]),(9,[21,25])]) (by kernel_rfl) ?_
   refine F0 ?_
   refine NS 2 rf ?_
   refine NV rf rf (cM (m:=(Int.toNat bE)) f0 rfl rfl rfl (az mN).1 (az mN).2) ?_
   refine NV rf rf (cN f0 (aE.idx (L:=(LI .u32)) (m:=(a0.length)) (k:=1) ((Int.toNat bE)) (az mN).2 rfl) rfl) ?_
   refine NS 3 rf ?_
   refine NV rf rf (cM (m:=(Int.toNat bE)) f1 rfl rfl rfl (az mw).1 (az mw).2) ?_
   refine NV rf rf (cN f1 (aE.idx (L:=(LI .i64)) (m:=(a1.length)) (k:=1) ((Int.toNat bE)) (az mw).2 rfl) rfl) ?_
   refine NE 1 rf ?_
   refine kf ?_
   refine dN h rf (fun hc h=>?_) fun hc h=>?_
   ·
    refine SC 11 rf ?_
    have h:=sj h; subst h
    exact RV rf (rt rf rn) rf
   ·
    refine SC 8 rf ?_
    exact LN [] (wr .i64 (bE + 1)) h rf rf rf
  ·
   refine SC 11 rf ?_
   have h:=sj h; subst h
   exact RV rf (rt rf rn) rf
def kZ (n:Nat)  : Option Bool:=
 bd (jG n fU 0 1) fun aM =>
 bd (jG n aM.1 1 1) fun cI =>
 bd (gP n cB cI.1 1 3) fun jN =>
 bd (eW n jN.1 cI.1 2) fun gl =>
 bd (gA n jN.1 cI.1 1 3) fun dX =>
 bd (iB n dX.1 cI.1 1 0) fun jL =>
 bd (iD n jL.1 cI.1 1 3) fun hY =>
 bd (gP n jN.1 cI.1 2 1) fun pE =>
 lt ({ Kind:=1,Task:=3,cG:=0 }:de) fun gk =>
 cl (((((((jN.2 == 0) && (cD gl gk)) && (dX.2 == 0)) && (jL.2 == 0)) && (hY.2.2 == 0)) && (hY.2.1 == 1)) == true) (eW n hY.1 cI.1 2) default fun jK =>
 lt ({ Kind:=3,Task:=0,cG:=1 }:de) fun sP =>
 cl (((((((((jN.2 == 0) && (cD gl gk)) && (dX.2 == 0)) && (jL.2 == 0)) && (hY.2.2 == 0)) && (hY.2.1 == 1)) && (cD jK sP)) && (pE.2 == 12)) == true) (gV n jN.1 cI.1 3) default fun ox =>
 cl ((((((((((jN.2 == 0) && (cD gl gk)) && (dX.2 == 0)) && (jL.2 == 0)) && (hY.2.2 == 0)) && (hY.2.1 == 1)) && (cD jK sP)) && (pE.2 == 12)) && ((ox.length:Int) == 1)) == true) (iC n hY.1 cI.1 0) default fun lA =>
 some ((((((((((jN.2 == 0) && (cD gl gk)) && (dX.2 == 0)) && (jL.2 == 0)) && (hY.2.2 == 0)) && (hY.2.1 == 1)) && (cD jK sP)) && (pE.2 == 12)) && ((ox.length:Int) == 1)) && ((lA.length:Int) == 1))
theorem pQ {n}  {r:Bool}  (h:kZ n  = some r):yz Tryz.prog 4 [] (.bool r):=by
 unfold kZ at h
 refine fI Tryz.func4 (by kernel_rfl) rfl Tryz.ntmps4 rfl (fun cx cZ hpre hro=>?_)
 refine SC 7 rf ?_
 refine W1 rf (bz (hz:=(⟨by kernel_rfl⟩ : cA Tryz.prog 41 aN))) fun b1=>?_
 refine SL 4 rf ?_
 refine W1 rf (bu (L:=ag) (z:=cB) ⟨by kernel_rfl⟩) fun b2=>?_
 obtain ⟨aM,bX,h⟩:=aS h
 refine SL 4 rf ?_
 refine ai rfl (ae rfl (aL.len _ (show (aj).rep (Hs []) aN fU from aX))) ?_
 refine CB (n3 (K:=(Hs [])) (mo (show (aj).rep (Hs []) aN fU from aX)) bX) rf rf ?_
 rintro vI eN kq ⟨ES,rfl,f26⟩
 replace f26:(aj).rep (fun w=>(Hs []) w∧Hs [.ext eN kq] w) ES aM.1:=f26
 refine SL 4 rf ?_
 refine ST (C:=(Hs [.ext eN kq])) aM.1 (aE.id (L:=aj)) aX (mo f26) rf rf rf rf rf fun Bt f29=>?_
 obtain ⟨cI,tI,h⟩:=aS h
 refine SL 4 rf ?_
 refine ai rfl (ae rfl (aL.len _ f29)) ?_
 refine CB (n3 (K:=(Hs [.ext eN kq])) (mo f29) tI) rf rf ?_
 rintro TU g8 nL ⟨ud,rfl,f35⟩
 replace f35:(aj).rep (fun w=>(Hs [.ext eN kq]) w∧Hs [.ext g8 nL] w) ud cI.1:=f35
 refine SL 4 rf ?_
 refine ST (C:=(Hs [.ext eN kq, .ext g8 nL])) cI.1 (aE.id (L:=aj)) (mo f29) (mo f35) rf rf rf rf rf fun Je f38=>?_
 obtain ⟨jN,sF,h⟩:=aS h
 refine SL 4 rf ?_
 refine ai rfl (bj (M:=ag) (aE.id (L:=ag)) rfl rfl) ?_
 refine ai rfl (ae rfl (aL.len _ f38)) ?_
 refine CV (lG (K:=(Hs [.ext eN kq, .ext g8 nL])) (mo f38) sF) rf rf ?_
 refine SL 3 rf ?_
 refine W0 (bI (M:=ag) (aE.id (L:=ag)) jN.1 jN.1 rfl rfl rfl rfl rfl) ?_
 obtain ⟨gl,m7,h⟩:=aS h
 refine SL 5 rf ?_
 refine ai rfl (bj (M:=ag) (aE.id (L:=ag)) rfl rfl) ?_
 refine ai rfl (ae rfl (aL.len _ f38)) ?_
 refine CV (ew (K:=(Hs [.ext eN kq, .ext g8 nL])) (mo f38) m7) rf rf ?_
 refine W1 rf (bu (L:=aU) (z:=kO) ⟨by kernel_rfl⟩) fun b4=>?_
 refine W0 (bI (M:=aU) (aE.id (L:=aU)) gl gl rfl rfl rfl rfl rfl) ?_
 obtain ⟨dX,qL,h⟩:=aS h
 refine SL 4 rf ?_
 refine ai rfl (bj (M:=ag) (aE.id (L:=ag)) rfl rfl) ?_
 refine ai rfl (ae rfl (aL.len _ f38)) ?_
 refine CV (mZ (K:=(Hs [.ext eN kq, .ext g8 nL])) (mo f38) qL) rf rf ?_
 refine SL 3 rf ?_
 refine W1 rf (bu (L:=ag) (z:=cB) ⟨by kernel_rfl⟩) fun b5=>?_
 refine W0 (bI (M:=ag) (aE.id (L:=ag)) dX.1 dX.1 rfl rfl rfl rfl rfl) ?_
 obtain ⟨jL,yZ,h⟩:=aS h
 refine SL 5 rf ?_
 refine ai rfl (bj (M:=ag) (aE.id (L:=ag)) rfl rfl) ?_
 refine ai rfl (ae rfl (aL.len _ f38)) ?_
 refine CV (oq (K:=(Hs [.ext eN kq, .ext g8 nL])) (mo f38) yZ) rf rf ?_
 refine SL 3 rf ?_
 refine W0 (bI (M:=ag) (aE.id (L:=ag)) jL.1 jL.1 rfl rfl rfl rfl rfl) ?_
 obtain ⟨hY,qb,h⟩:=aS h
 refine SL 5 rf ?_
 refine ai rfl (bj (M:=ag) (aE.id (L:=ag)) rfl rfl) ?_
 refine ai rfl (ae rfl (aL.len _ f38)) ?_
 refine CV (ou (K:=(Hs [.ext eN kq, .ext g8 nL])) (mo f38) qb) rf rf ?_
 refine SL 4 rf ?_
 refine W0 (bI (M:=ag) (aE.id (L:=ag)) hY.1 hY.1 rfl rfl rfl rfl rfl) ?_
 obtain ⟨pE,AT,h⟩:=aS h
 refine SL 6 rf ?_
 refine ai rfl (bj (M:=ag) (aE.id (L:=ag)) rfl rfl) ?_
 refine ai rfl (ae rfl (aL.len _ f38)) ?_
 refine CV (lG (K:=(Hs [.ext eN kq, .ext g8 nL])) (mo f38) AT) rf rf ?_
 refine SL 3 rf ?_
 refine W1 rf (bu (L:=ag) (z:=cB) ⟨by kernel_rfl⟩) fun qB=>?_
 refine W0 (bI (M:=ag) (aE.id (L:=ag)) pE.1 pE.1 rfl rfl rfl rfl rfl) ?_
 obtain ⟨gk,yY,h⟩:=cj h
 obtain ⟨jK,AS,_,h⟩:=gQ h
 obtain ⟨sP,Hg,h⟩:=cj h
 obtain ⟨ox,AR,_,h⟩:=gQ h
 obtain ⟨lA,rL,_,h⟩:=gQ h
 refine SL 8 rf ?_
 refine GB rf rf rf (fun hb=>bj (M:=aU) (aE.id (L:=aU)) rfl rfl) ?_
 refine GB rf rf rf (fun hb=>dI (cs:=aU.enc gk) (aB rfl (aB rfl rfl)) (by rw [yY]; rfl)) ?_
 refine GB rf rf rf (fun hb=>kP (sY (cs:=aU.enc gl) (ds:=aU.enc gk) (bC rfl hb) (bC rfl hb) rfl rfl) (pe _ _)) ?_
 refine ai rfl (bV rfl rfl) ?_
 refine ai rfl (ak rfl) ?_
 refine GB rf rf rf (fun hb=>ak rfl) ?_
 refine GB rf rf rf (fun hb=>ff (bC rfl hb) rfl) ?_
 refine ai rfl (bV rfl rfl) ?_
 refine ai rfl (ak rfl) ?_
 refine GB rf rf rf (fun hb=>ak rfl) ?_
 refine GB rf rf rf (fun hb=>ff (bC rfl hb) rfl) ?_
 refine ai rfl (bV rfl rfl) ?_
 refine ai rfl (ak rfl) ?_
 refine GB rf rf rf (fun hb=>ak rfl) ?_
 refine GB rf rf rf (fun hb=>ff (bC rfl hb) rfl) ?_
 refine ai rfl (bV rfl rfl) ?_
 refine ai rfl (ak rfl) ?_
 refine GB rf rf rf (fun hb=>ak rfl) ?_
 refine GB rf rf rf (fun hb=>ff (bC rfl hb) rfl) ?_
 refine ai rfl (bV rfl rfl) ?_
 refine ai rfl (ak rfl) ?_
 refine GB rf rf rf (fun hb=>bj (M:=ag) (aE.id (L:=ag)) rfl rfl) ?_
 refine GB rf rf rf (fun hb=>ae rfl (aL.len _ f38)) ?_
 refine GB rf rf rf (fun hb=>ck (ew (K:=(Hs [.ext eN kq, .ext g8 nL])) (mo f38) (AS hb)) (aB (bC rfl hb) (aB (bC rfl hb) (aB rfl rfl))) kn) ?_
 refine GB rf rf rf (fun hb=>dI (cs:=aU.enc sP) (aB rfl (aB rfl rfl)) (by rw [Hg]; rfl)) ?_
 refine GB rf rf rf (fun hb=>kP (sY (cs:=aU.enc jK) (ds:=aU.enc sP) (bC rfl hb) (bC rfl hb) rfl rfl) (pe _ _)) ?_
 refine ai rfl (bV rfl rfl) ?_
 refine ai rfl (ak rfl) ?_
 refine GB rf rf rf (fun hb=>ak rfl) ?_
 refine GB rf rf rf (fun hb=>ff (bC rfl hb) rfl) ?_
 refine ai rfl (bV rfl rfl) ?_
 refine ai rfl (ak rfl) ?_
 refine GB rf rf rf (fun hb=>bj (M:=ag) (aE.id (L:=ag)) rfl rfl) ?_
 refine GB rf rf rf (fun hb=>ae rfl (aL.len _ f38)) ?_
 refine vD (cY rfl rfl) rfl (fun hb=>nH (K:=(Hs [.ext eN kq, .ext g8 nL])) (mo f38) (AR hb)) (fun hb=>(aB (bC rfl hb) (aB (bC rfl hb) (aB rfl rfl)))) (fun hb=>inferInstance) (fun ⟨Rx,Qh,Ts⟩ OP=>?_)
 have f53:(((((((((jN.2 == 0) && (cD gl gk)) && (dX.2 == 0)) && (jL.2 == 0)) && (hY.2.2 == 0)) && (hY.2.1 == 1)) && (cD jK sP)) && (pE.2 == 12)) == true) = true→Fz (fun w=>(Hs [.ext eN kq, .ext g8 nL]) w∧Hs [.ext Qh Ts] w) Rx (LI .u32) ox:=OP
 refine GB rf rf rf (fun hb=>dg (f53 hb) (bC rfl hb)) ?_
 refine GB rf rf rf (fun hb=>ff (bC rfl hb) rfl) ?_
 refine ai rfl (bV rfl rfl) ?_
 refine ai rfl (ak rfl) ?_
 refine GB rf rf rf (fun hb=>bj (M:=ag) (aE.id (L:=ag)) rfl rfl) ?_
 refine GB rf rf rf (fun hb=>ae rfl (aL.len _ f38)) ?_
 refine vD (cY rfl rfl) rfl (fun hb=>ot (K:=(Hs [.ext eN kq, .ext g8 nL])) (mo f38) (rL hb)) (fun hb=>(aB (bC rfl hb) (aB (bC rfl hb) (aB rfl rfl)))) (fun hb=>inferInstance) (fun ⟨Qq,mE,um⟩ OO=>?_)
 have f59:((((((((((jN.2 == 0) && (cD gl gk)) && (dX.2 == 0)) && (jL.2 == 0)) && (hY.2.2 == 0)) && (hY.2.1 == 1)) && (cD jK sP)) && (pE.2 == 12)) && ((ox.length:Int) == 1)) == true) = true→Fz (fun w=>(Hs [.ext eN kq, .ext g8 nL]) w∧Hs [.ext mE um] w) Qq (LI .u32) lA:=OO
 refine GB rf rf rf (fun hb=>dg (f59 hb) (bC rfl hb)) ?_
 refine GB rf rf rf (fun hb=>ff (bC rfl hb) rfl) ?_
 refine ai rfl (bV rfl rfl) ?_
 refine SL 4 rf ?_
 have h:=sj h; subst h
 exact RV rf (rt rf rn) rf
def j0 (n:Nat) (a0:(List iF)) (a1:Int) (a2:Int):Option Bool:=
 cn (decide (100 < (a0.length:Int))) (
 bd (kZ n ) fun aM =>
 some aM) (
 se (fun DM (ez:Int) (jN:aK) (jL:bO) (hY:ah) (jK:aq) =>
 cn (decide (ez < (a0.length:Int))) (
 lt (fun (lA:Bool) (nO:aK) (kX:bO) (lK:ah) (vH:aq) =>
 cl ((!lA) == false) (kH n vH lK kX nO) default fun yB =>
 cn (((!lA) || (!yB))) (
 some false) (
 DM (wr .i64 (ez + 1)) nO kX lK vH)) fun Kh =>
 gu (dO ez a0.length) <|
 cn (decide (9 < ((a0.getD (Int.toNat ez) default).Do))) (
 gu (dO ez a0.length) <|
 bd (mg n jK hY jL jN (a0.getD (Int.toNat ez) default)) fun lY =>
 Kh lY.2.2 lY.2.1 lY.1 hY jK) (
 gu (dO ez a0.length) <|
 bd (mh n jK hY (a0.getD (Int.toNat ez) default)) fun sA =>
 Kh sA.2.2 jN jL sA.2.1 sA.1)) (
 bd (bB n hY (wr .i64 a2)) fun zM =>
 cl (zM == false) (eW n jL jK a2) default fun uo =>
 lt ({ Kind:=0,Task:=0,cG:=0 }:de) fun yA =>
 cl ((zM || (cD uo yA)) == true) (gV n jL jK a1) default fun Nk =>
 cl ((zM || (cD uo yA)) == true) (fW n jN hY a1 false) default fun Gj =>
 cl ((zM || (cD uo yA)) == true) (nw n Nk Gj) default fun xj =>
 cl (((zM || (cD uo yA)) && xj) == true) (iC n jL jK a1) default fun Gi =>
 cl (((zM || (cD uo yA)) && xj) == true) (fW n jN hY a1 true) default fun Gg =>
 cl (((zM || (cD uo yA)) && xj) == true) (nw n Gi Gg) default fun Gf =>
 cl ((((zM || (cD uo yA)) && xj) && Gf) == true) (kZ n ) default fun Js =>
 some ((((zM || (cD uo yA)) && xj) && Gf) && Js))) n 0 gJ cB fk fU)
theorem rS {n a0 a1 a2 r K} [bn K] {v0} (f0:Fz K v0 bM a0) (h:j0 n a0 a1 a2 = some r):pD Tryz.prog 3 [v0, .int .i64 a1, .int .u32 a2] K (.bool r):=by
 unfold j0 at h
 refine fo Tryz.func3 (by kernel_rfl) rfl Tryz.ntmps3 rfl fun cx _ hro cZ hpre=>?_
 refine SC 9 rf ?_
 refine ai rfl (dg f0 rfl) ?_
 refine SL 3 rf ?_
 refine dN h rf (fun hc h=>?_) fun hc h=>?_
 ·
  obtain ⟨aM,bX,h⟩:=aS h
  refine SC 2 rf ?_
  refine CV (pQ bX) rf rf ?_
  refine SL 5 rf ?_
  have h:=sj h; subst h
  exact RV rf (rt rf rn) rf
 ·
  refine SC 4 rf ?_
  refine W1 rf (bz (hz:=(⟨by kernel_rfl⟩ : cA Tryz.prog 41 aN))) fun b7=>?_
  refine SL 4 rf ?_
  refine W1 rf (bz (hz:=(⟨by kernel_rfl⟩ : cA Tryz.prog 53 aQ))) fun b8=>?_
  refine SL 4 rf ?_
  refine W1 rf (bu (L:=ag) (z:=cB) ⟨by kernel_rfl⟩) fun b9=>?_
  refine SL 4 rf ?_
  refine W1 rf (bz (hz:=(⟨by kernel_rfl⟩ : cA Tryz.prog 64 bx))) fun qB=>?_
  refine SL 9 rf ?_
  obtain ⟨GQ,CF,h⟩:=J7 h
  refine lX ?_
  refine LO (β:=Int × aK × bO × ah × aq × (List Value) × (List Value) × (List Value) × (List Nat) × (World→Prop)) [0,1,2,7,8,9,10] [0,1,2,3,4] (fun (Cc,ez,jN,jL,hY,jK,DR,FU,yb,gR,nh)=>[(11, .int .i64 ez)]) (fun (Cc,ez,jN,jL,hY,jK,DR,FU,yb,gR,nh)=>[.ext gR nh, .cells qB 64 DR, .cells b9 60 (ag.enc jL), .cells b8 53 FU, .cells b7 41 yb]) (fun (Cc,ez,jN,jL,hY,jK,DR,FU,yb,gR,nh)=>(aH).rep (Hs [.ext gR nh]) DR jN∧(ay).rep (Hs [.ext gR nh]) FU hY∧(aj).rep (Hs [.ext gR nh]) yb jK∧se GQ Cc ez jN jL hY jK = some r) (n,0,gJ,cB,fk,fU,bx,aQ,aN,[],(Hs [])) ⟨(aL.mono _ kx (show (aH).rep (Hs []) bx gJ from er)),(aL.mono _ kx (show (ay).rep (Hs []) aQ fk from bp)),(aL.mono _ kx (show (aj).rep (Hs []) aN fU from aX)),h⟩ rf rf rf ?_
  rintro Cc ⟨ez,jN,jL,hY,jK,DR,FU,yb,gR,nh⟩ ⟨f41,f45,f48,h⟩
  replace h:=J6 CF h; obtain ⟨Cc,rfl,h⟩:=h
  refine SC 5 rf ?_
  refine ai rfl (dg f0 rfl) ?_
  refine SL 3 rf ?_
  refine dN h rf (fun hc h=>?_) fun hc h=>?_
  ·
   refine SC 9 rf ?_
   obtain ⟨Kh,O3,h⟩:=cj h
   refine CU (α:=Bool × aK × bO × ah × aq × (List Value) × (List Value) × (List Value) × (List Nat) × (World→Prop)) [0,1,2,7,8,9,10,11] rf (fun (lA,nO,kX,lK,vH,Af,uq,Ij,lf,sy)=>[(12, .bool lA)]) (fun (lA,nO,kX,lK,vH,Af,uq,Ij,lf,sy)=>[.ext lf sy, .ext gR nh, .cells qB 64 Af, .cells b9 60 (ag.enc kX), .cells b8 53 uq, .cells b7 41 Ij]) (fun (lA,nO,kX,lK,vH,Af,uq,Ij,lf,sy)=>(aH).rep (Hs [.ext gR nh, .ext lf sy]) Af nO∧(ay).rep (Hs [.ext gR nh, .ext lf sy]) uq lK∧(aj).rep (Hs [.ext gR nh, .ext lf sy]) Ij vH∧Kh lA nO kX lK vH = some r) ?_ ?_
   ·
    obtain ⟨xQ,h⟩:=cq h
    refine SC 4 rf ?_
    refine ai rfl (cM (m:=(Int.toNat ez)) f0 rfl rfl rfl (az xQ).1 (az xQ).2) ?_
    refine ai rfl (E5 f0 rfl (az xQ).2) ?_
    refine ai rfl (cN f0 ((aE.idx (L:=bM) (m:=(a0.length)) (k:=5) ((Int.toNat ez)) (az xQ).2 rfl).comp mK) rfl) ?_
    refine SL 3 rf ?_
    refine dN h rf (fun hc h=>?_) fun hc h=>?_
    ·
     obtain ⟨Hz,h⟩:=cq h
     obtain ⟨lY,Oi,h⟩:=aS h
     refine cK mixed (.gm [] [(0,[7]),(1,[8]),(2,[9]),(3,[10]),(4,[0]),(5,[11]),(6,[34,35]),(7,[36])] (.alt 8 [30,31,32,33,37] (.gm [] [(9,[38]),(10,[29]),(11,[29]),(12,[29])] (.alt 13 [9,39] (.gm [(11,[29]),(12,[29])] [] (.alt 14 [10,40] (.gm [(12,[29])] [] (.alt 15 [41] (.fin [] []) .no)) .no)) .no)) .no)) (by kernel_rfl) ?_
     refine T0 ?_
     refine NV rf rf (ae rfl (aL.len _ f48)) ?_
     refine NV rf rf (ae rfl (aL.len _ f45)) ?_
     refine NV rf rf (bj (M:=ag) (aE.id (L:=ag)) rfl rfl) ?_
     refine NV rf rf (ae rfl (aL.len _ f41)) ?_
     refine NS 2 rf ?_
     refine NV rf rf (cM (m:=(Int.toNat ez)) f0 rfl rfl rfl (az Hz).1 (az Hz).2) ?_
     refine NV rf rf (pC (M:=bM) f0 (aE.idx (L:=bM) (m:=(a0.length)) (k:=5) ((Int.toNat ez)) (az Hz).2 rfl) rfl rfl (by decide)) ?_
     refine aP ?_
     refine X1 rf rf (mI (wI (K:=(Hs [.ext gR nh])) (mo f48) (mo f45) (mo f41) Oi) rfl) fun ⟨TI,Db,MG⟩ ON=>?_
     obtain ⟨S3,rfl,f73⟩:=ON
     replace f73:(aH).rep (fun w=>(Hs [.ext gR nh]) w∧Hs [.ext Db MG] w) S3 lY.2.1:=f73
     refine T0 ?_
     refine NE 4 rf ?_
     refine X0 rf (bI (M:=ag) (aE.id (L:=ag)) lY.1 lY.1 rfl rfl rfl rfl rfl) ?_
     refine di ?_ ?_
     ·
      exact RE 2 rf rf
     refine aP ?_
     obtain ⟨Q1,Pr,f76⟩:=Bo (C:=(Hs [.ext gR nh, .ext Db MG])) (x':=lY.2.1) (aE.id (L:=aH)) (mo f41) (mo f73) rf
     refine X0 rf (Bv Pr rf rf rf rf) ?_
     refine di ?_ ?_
     ·
      exact RE 1 rf rf
     refine aP ?_
     refine XV rf rf (bQ rfl) ?_
     refine oF ?_
     refine bH (R:=[.ext Db MG]) (H':=[.ext gR nh, .cells qB 64 Q1, .cells b9 60 (ag.enc lY.1), .cells b8 53 FU, .cells b7 41 yb]) (ks:=[0,1,2,3,4,5]) rfl (by decide) ?_
     exact CE [0,1,2,3,4,5] (lY.2.2,lY.2.1,lY.1,hY,jK,Q1,FU,yb,(bN [.ext Db MG]),(Hs [.ext Db MG])) ⟨(mo f76),(mo f45),(mo f48),h⟩ rf rf rf
    ·
     obtain ⟨y8,h⟩:=cq h
     obtain ⟨sA,Cs,h⟩:=aS h
     refine cK mixed (.gm [] [(0,[7]),(1,[8]),(2,[0]),(3,[11]),(4,[45,46]),(5,[47])] (.alt 6 [43,44,48] (.gm [] [(7,[49]),(8,[42]),(9,[42]),(10,[42])] (.alt 11 [7,50] (.gm [(9,[42]),(10,[42])] [] (.alt 12 [8,51] (.gm [(10,[42])] [] (.alt 13 [52] (.fin [] []) .no)) .no)) .no)) .no)) (by kernel_rfl) ?_
     refine T0 ?_
     refine NV rf rf (ae rfl (aL.len _ f48)) ?_
     refine NV rf rf (ae rfl (aL.len _ f45)) ?_
     refine NS 2 rf ?_
     refine NV rf rf (cM (m:=(Int.toNat ez)) f0 rfl rfl rfl (az y8).1 (az y8).2) ?_
     refine NV rf rf (pC (M:=bM) f0 (aE.idx (L:=bM) (m:=(a0.length)) (k:=5) ((Int.toNat ez)) (az y8).2 rfl) rfl rfl (by decide)) ?_
     refine aP ?_
     refine X1 rf rf (mI (wK (K:=(Hs [.ext gR nh])) (mo f48) (mo f45) Cs) rfl) fun ⟨TF,zz,IT⟩ OM=>?_
     obtain ⟨S2,S1,rfl,f83,f85⟩:=OM
     replace f83:(aj).rep (fun w=>(Hs [.ext gR nh]) w∧Hs [.ext zz IT] w) S2 sA.1:=f83
     replace f85:(ay).rep (fun w=>(Hs [.ext gR nh]) w∧Hs [.ext zz IT] w) S1 sA.2.1:=f85
     refine T0 ?_
     refine NE 4 rf ?_
     obtain ⟨Ja,Pp,f88⟩:=Bo (C:=(Hs [.ext gR nh, .ext zz IT])) (x':=sA.1) (aE.id (L:=aj)) (mo f48) (mo f83) rf
     refine X0 rf (Bv Pp rf rf rf rf) ?_
     refine di ?_ ?_
     ·
      exact RE 2 rf rf
     refine aP ?_
     obtain ⟨QW,Pn,f90⟩:=Bo (C:=(Hs [.ext gR nh, .ext zz IT])) (x':=sA.2.1) (aE.id (L:=ay)) (mo f45) (mo f85) rf
     refine X0 rf (Bv Pn rf rf rf rf) ?_
     refine di ?_ ?_
     ·
      exact RE 1 rf rf
     refine aP ?_
     refine XV rf rf (bQ rfl) ?_
     refine oF ?_
     refine bH (R:=[.ext zz IT]) (H':=[.ext gR nh, .cells qB 64 DR, .cells b9 60 (ag.enc jL), .cells b8 53 QW, .cells b7 41 Ja]) (ks:=[0,1,2,3,4,5]) rfl (by decide) ?_
     exact CE [0,1,2,3,4,5] (sA.2.2,jN,jL,sA.2.1,sA.1,DR,QW,Ja,(bN [.ext zz IT]),(Hs [.ext zz IT])) ⟨(mo f41),(mo f90),(mo f88),h⟩ rf rf rf
   ·
    rintro ⟨lA,nO,kX,lK,vH,Af,uq,Ij,lf,sy⟩ ⟨f57,f61,f64,h⟩
    replace h:Kh lA nO kX lK vH = some r:=h
    replace h:=FB O3 h
    obtain ⟨yB,G6,_,h⟩:=gQ h
    refine SC 5 rf ?_
    refine GB rf rf rf (fun hb=>ae rfl (aL.len _ f64)) ?_
    refine GB rf rf rf (fun hb=>ae rfl (aL.len _ f61)) ?_
    refine GB rf rf rf (fun hb=>bj (M:=ag) (aE.id (L:=ag)) rfl rfl) ?_
    refine GB rf rf rf (fun hb=>ae rfl (aL.len _ f57)) ?_
    refine GB rf rf rf (fun hb=>ck (wJ (K:=(Hs [.ext gR nh, .ext lf sy])) (mo f64) (mo f61) (mo f57) (G6 hb)) (aB (bC rfl hb) (aB (bC rfl hb) (aB (bC rfl hb) (aB (bC rfl hb) rfl)))) kn) ?_
    refine GB rf rf rf (fun hb=>ja (bC rfl hb)) ?_
    refine ai rfl (eF rfl rfl) ?_
    refine SL 2 rf ?_
    refine dN h rf (fun hc h=>?_) fun hc h=>?_
    ·
     refine SC 11 rf ?_
     have h:=sj h; subst h
     exact RV rf (rt rf rn) rf
    ·
     refine SC 8 rf ?_
     refine bH (R:=[.ext lf sy, .ext gR nh]) (H':=[.cells qB 64 Af, .cells b9 60 (ag.enc kX), .cells b8 53 uq, .cells b7 41 Ij]) (ks:=[0,1,2,3,4,5]) rfl (by decide) ?_
     exact LN [0,1,2,3,4] (wr .i64 (ez + 1),nO,kX,lK,vH,Af,uq,Ij,(bN [.ext lf sy, .ext gR nh]),(Hs [.ext lf sy, .ext gR nh])) ⟨(mo f57),(mo f61),(mo f64),h⟩ rf rf rf
  ·
   refine SC 6 rf ?_
   obtain ⟨zM,N8,h⟩:=aS h
   obtain ⟨uo,G5,_,h⟩:=gQ h
   obtain ⟨yA,N7,h⟩:=cj h
   obtain ⟨Nk,N6,_,h⟩:=gQ h
   obtain ⟨Gj,KI,_,h⟩:=gQ h
   obtain ⟨xj,KH,_,h⟩:=gQ h
   obtain ⟨Gi,KG,_,h⟩:=gQ h
   obtain ⟨Gg,KD,_,h⟩:=gQ h
   obtain ⟨Gf,KC,_,h⟩:=gQ h
   obtain ⟨Js,KB,_,h⟩:=gQ h
   refine cK mixed (.gm [] [(0,[8]),(1,[2]),(2,[64]),(3,[63,65]),(4,[66]),(5,[9,67]),(6,[7,67]),(7,[2,67]),(8,[67,68,69,70]),(9,[67]),(10,[67,71,72]),(11,[67,73]),(12,[74]),(13,[9,75]),(14,[7,75]),(15,[1,75]),(17,[10,75]),(18,[8,75]),(19,[1,75])] (.alt 16 [75,76,77,78] (.gm [(17,[10,75]),(18,[8,75]),(19,[1,75])] [] (.alt 20 [75,80,81,82] (.gm [] [(21,[75,79,83]),(22,[75,84]),(23,[85]),(24,[9,86]),(25,[7,86]),(26,[1,86]),(28,[10,86]),(29,[8,86]),(30,[1,86])] (.alt 27 [86,87,88,89] (.gm [(28,[10,86]),(29,[8,86]),(30,[1,86])] [] (.alt 31 [86,91,92,93] (.gm [] [(32,[86,90,94]),(33,[86,95]),(34,[96]),(35,[97]),(36,[97,98])] (.alt 37 [99] (.fin [] []) .no)) .no)) .no)) .no)) .no)) (by kernel_rfl) ?_
   refine T0 ?_
   refine NV rf rf (ae rfl (aL.len _ f45)) ?_
   refine NS 2 rf ?_
   refine NC rf rf (bJ (K:=(Hs [.ext gR nh])) (mo f45) N8) rf ?_
   refine NS 1 rf ?_
   refine NG rf rf (cY rfl rfl) (fun hb=>bj (M:=ag) (aE.id (L:=ag)) rfl rfl) ?_
   refine NG rf rf (cY rfl rfl) (fun hb=>ae rfl (aL.len _ f48)) ?_
   refine NG rf rf (cY rfl rfl) (fun hb=>ak rfl) ?_
   refine NG rf rf (cY rfl rfl) (fun hb=>ck (ew (K:=(Hs [.ext gR nh])) (mo f48) (G5 hb)) (aB (bC rfl hb) (aB (bC rfl hb) (aB (bC rfl hb) rfl))) kn) ?_
   refine NG rf rf (cY rfl rfl) (fun hb=>dI (cs:=aU.enc yA) rfl (by rw [N7]; rfl)) ?_
   refine NG rf rf (cY rfl rfl) (fun hb=>kP (sY (cs:=aU.enc uo) (ds:=aU.enc yA) (bC rfl hb) (bC rfl hb) rfl rfl) (pe _ _)) ?_
   refine NV rf rf (eF rfl rfl) ?_
   refine NS 1 rf ?_
   refine NG rf rf (cY rfl rfl) (fun hb=>bj (M:=ag) (aE.id (L:=ag)) rfl rfl) ?_
   refine NG rf rf (cY rfl rfl) (fun hb=>ae rfl (aL.len _ f48)) ?_
   refine NG rf rf (cY rfl rfl) (fun hb=>ak rfl) ?_
   refine NG rf rf (cY rfl rfl) (fun hb=>ae rfl (aL.len _ f41)) ?_
   refine NG rf rf (cY rfl rfl) (fun hb=>ae rfl (aL.len _ f45)) ?_
   refine NG rf rf (cY rfl rfl) (fun hb=>ak rfl) ?_
   refine aP ?_
   refine mH rfl rfl (ry (cY rfl rfl) (fun hb=>nH (K:=(Hs [.ext gR nh])) (mo f48) (N6 hb)) (fun hb=>(aB (bC rfl hb) (aB (bC rfl hb) (aB (bC rfl hb) rfl)))) (fun hb=>inferInstance)) (fun ⟨Rv,Mg,Rl⟩ OL=>?_) qw
   have f100:((zM || (cD uo yA)) == true) = true→Fz (fun w=>(Hs [.ext gR nh]) w∧Hs [.ext Mg Rl] w) Rv (LI .u32) Nk:=OL
   refine di ?_ ?_
   ·
    refine dU rfl rfl (n9 (cY rfl rfl) (fun hb=>kP (ae rfl (aL.len _ f41)) rfl)) ?_
    refine dU rfl rfl (n9 (cY rfl rfl) (fun hb=>kP (ae rfl (aL.len _ f45)) rfl)) ?_
    refine dU rfl rfl (n9 (cY rfl rfl) (fun hb=>ak rfl)) ?_
    exact fD
   refine aP ?_
   refine mH rfl rfl (ry (cY rfl rfl) (fun hb=>Fn.Ft (by decide) (mA (K:=(Hs [.ext gR nh])) (mo f41) (mo f45) (KI hb))) (fun hb=>(aB (bC rfl hb) (aB (bC rfl hb) (aB (bC rfl hb) (aB rfl rfl))))) (fun hb=>inferInstance)) (fun ⟨Nq,FY,MM⟩ KU=>?_) qw
   have f106:((zM || (cD uo yA)) == true) = true→Fz (fun w=>(Hs [.ext gR nh]) w∧Hs [.ext FY MM] w) Nq (LI .i64) Gj:=KU
   refine T0 ?_
   refine NG rf rf (cY rfl rfl) (fun hb=>ck (su (K:=(Hs [.ext FY MM, .ext gR nh, .ext Mg Rl])) ((f100 hb).mono kx) ((f106 hb).mono kx) (KH hb)) (aB (bC rfl hb) (aB (bC rfl hb) rfl)) kn) ?_
   refine NV rf rf (bV rfl rfl) ?_
   refine NS 1 rf ?_
   refine NG rf rf (cY rfl rfl) (fun hb=>bj (M:=ag) (aE.id (L:=ag)) rfl rfl) ?_
   refine NG rf rf (cY rfl rfl) (fun hb=>ae rfl (aL.len _ f48)) ?_
   refine NG rf rf (cY rfl rfl) (fun hb=>ak rfl) ?_
   refine NG rf rf (cY rfl rfl) (fun hb=>ae rfl (aL.len _ f41)) ?_
   refine NG rf rf (cY rfl rfl) (fun hb=>ae rfl (aL.len _ f45)) ?_
   refine NG rf rf (cY rfl rfl) (fun hb=>ak rfl) ?_
   refine aP ?_
   refine mH rfl rfl (ry (cY rfl rfl) (fun hb=>ot (K:=(Hs [.ext gR nh])) (mo f48) (KG hb)) (fun hb=>(aB (bC rfl hb) (aB (bC rfl hb) (aB (bC rfl hb) rfl)))) (fun hb=>inferInstance)) (fun ⟨Np,FX,ML⟩ KT=>?_) qw
   have f113:(((zM || (cD uo yA)) && xj) == true) = true→Fz (fun w=>(Hs [.ext gR nh]) w∧Hs [.ext FX ML] w) Np (LI .u32) Gi:=KT
   refine di ?_ ?_
   ·
    refine dU rfl rfl (n9 (cY rfl rfl) (fun hb=>kP (ae rfl (aL.len _ f41)) rfl)) ?_
    refine dU rfl rfl (n9 (cY rfl rfl) (fun hb=>kP (ae rfl (aL.len _ f45)) rfl)) ?_
    refine dU rfl rfl (n9 (cY rfl rfl) (fun hb=>ak rfl)) ?_
    exact fD
   refine aP ?_
   refine mH rfl rfl (ry (cY rfl rfl) (fun hb=>Fn.Ft (by decide) (mA (K:=(Hs [.ext gR nh])) (mo f41) (mo f45) (KD hb))) (fun hb=>(aB (bC rfl hb) (aB (bC rfl hb) (aB (bC rfl hb) (aB rfl rfl))))) (fun hb=>inferInstance)) (fun ⟨No,FW,MK⟩ KS=>?_) qw
   have f119:(((zM || (cD uo yA)) && xj) == true) = true→Fz (fun w=>(Hs [.ext gR nh]) w∧Hs [.ext FW MK] w) No (LI .i64) Gg:=KS
   refine T0 ?_
   refine NG rf rf (cY rfl rfl) (fun hb=>ck (su (K:=(Hs [.ext FX ML, .ext FW MK, .ext gR nh])) ((f113 hb).mono kx) ((f119 hb).mono kx) (KC hb)) (aB (bC rfl hb) (aB (bC rfl hb) rfl)) kn) ?_
   refine NV rf rf (bV rfl rfl) ?_
   refine NS 1 rf ?_
   refine NG rf rf (cY rfl rfl) (fun hb=>ck (pQ (KB hb)) rfl (fun _ _ _=>trivial)) ?_
   refine NV rf rf (bV rfl rfl) ?_
   refine aP ?_
   refine XV rf rf (bQ rfl) ?_
   refine oF ?_
   refine SX 2 rf ?_
   have h:=sj h; subst h
   exact RV rf (rt rf rn) rf
end Go.Proofs.YtmdpbdhkmfjlhaaGreat
namespace Go.Proofs.YtmdpbdhkmfjlhaaGreat
open Go Go.Bw
set_option maxRecDepth 100000 in
theorem zO:kZ 1000 = some true:=by kernel_rfl
structure zK (x:de):Prop where
  k:0 ≤ x.Kind∧x.Kind ≤ 3
  h:x.Kind ≠ 3→x.cG = 0
  t:x.Kind ≠ 1→x.Task = 0
  hr:0 ≤ x.cG∧x.cG ≤ 255
  tr:0 ≤ x.Task∧x.Task ≤ 7
def tv:de:={ Kind:=0,Task:=0,cG:=0 }
theorem zX:zK tv:=⟨by decide,fun _=>rfl,fun _=>rfl,by decide,by decide⟩
structure Mz (w:ah) (o:bO) (S:Int→Prop):Prop where
  g:∀i,i < 32→zK (o.slots i).own
  p:∀i,i < 32→(o.slots i).root = 0∨(mc w.B (o.slots i).root∧S (o.slots i).root)
def nT (w:ah) (o:bO) (h:Int):de:=if bt w.B h = true∧(o.slots (cw (cS w h))).root = cS w h then (o.slots (cw (cS w h))).own else tv
theorem BE (x:Int):0 ≤ wr .u8 x∧wr .u8 x ≤ 255:=by
  have h:wr .u8 x = x % 256:=by simp [wr,IntKind.wrap,IntKind.signed,IntKind.bits]
  rw [h]; omega
theorem Mr (x:Int):0 ≤ kN .i64 x 7∧kN .i64 x 7 ≤ 7:=by
  unfold kN
  have h:((BitVec.ofInt (IntKind.bits .i64) x &&& BitVec.ofInt (IntKind.bits .i64) 7).toNat) ≤ 7:=by
    rw [BitVec.toNat_and]
    exact Nat.le_trans Nat.and_le_right (by decide)
  generalize ((BitVec.ofInt (IntKind.bits .i64) x &&& BitVec.ofInt (IntKind.bits .i64) 7).toNat) = k at h
  have e:IntKind.wrap .i64 (k:Int) = k:=cz (by omega) (by omega)
  rw [e]; omega
theorem yS (l:List Int):∀(w:ah) (x:Int),mc w.B x→mc (fB w l).B x:=by
  induction l with
  | nil=>intro w x h; exact h
  | cons y l ih =>
    intro w x h
    refine ih _ _ ?_
    unfold zl
    split
    · unfold As; exact vg (h:=y) x h
    · exact h
section
variable {n:Nat} {t:aq} {w:ah} {o:bO}
theorem u6 (r:fE t w) (tt:hM w) {h:Int} (hh:bG w.B h):bG w.B (cS w h)∧cS w (cS w h) = cS w h:=by
  obtain ⟨ρ,f⟩:=xe r tt
  have hG:=(cr r.book h).2 hh
  obtain ⟨a,b,c⟩:=f.BS hG
  have e:cS w h = xb (dx w) h:=by unfold cS; rw [if_pos hh.2]
  have g:=(cr r.book _).1 a
  rw [e]
  refine ⟨g,?_⟩
  unfold cS
  rw [if_pos g.2]; exact (f.yO a).2 c
theorem vV (hn:40 ≤ n) (r:fE t w) (tt:hM w) {h:Int} (h0:0 ≤ h) (h1:h < 4294967296):eW n o t h = some (nT w o h):=by
  unfold eW nT
  rw [ax (tc hn r tt h0 h1)]
  cases hg:bt w.B h with
  | false =>
    have e:cS w h = 0:=by unfold cS; rw [hg]; rfl
    rw [e,ax (jU (by omega) (by omega)),if_neg (fun q=>by cases q.1)]
    rfl
  | true =>
    obtain ⟨g,_⟩:=u6 r tt ⟨h0,hg⟩
    have gs:=(pq g.2).1
    rw [ax (jU g.1 (fQ g.2)),gs,aF (by rw [ga]; simp)]
    show cn ((!true) || ((o.slots (cw (cS w h))).root != cS w h)) _ _ = _
    by_cases e:(o.slots (cw (cS w h))).root = cS w h
    · rw [av (by simpa using e),aF (ga _),lt_eq,if_pos ⟨rfl,e⟩]; rfl
    · rw [aC (by simpa using e),lt_eq,if_neg (fun q=>e q.2)]; rfl
theorem oO {S:Int→Prop} (q:Mz w o S) (h:Int):zK (nT w o h):=by
  unfold nT
  split
  · exact q.g _ (kF _)
  · exact zX
def oy (w:ah) (h task:Int):Int:=if bt w.B h = false then 4 else if cS w h ≠ h then 12 else if task < 0∨8 ≤ task then 2 else 0
def qF (o:bO) (h:Int) (x:de):bO:={ o with slots:=eG o.slots (cw h) { root:=h,own:=x } }
theorem yN (hn:40 ≤ n) (r:fE t w) (tt:hM w) {h task:Int} (h0:0 ≤ h) (h1:h < 4294967296) (x:de):fh n o t h task x = some (if oy w h task = 0 then qF o h x else o,oy w h task):=by
  unfold fh
  rw [ax (lO r.book h0 h1)]
  cases hg:bt w.B h with
  | false =>
    have he:oy w h task = 4:=by unfold oy; rw [if_pos hg]
    rw [he,if_neg (by decide)]; rfl
  | true =>
    have hn:¬ bt w.B h = false:=by rw [hg]; decide
    rw [av (b:=!true) rfl,ax (tc (by omega) r tt h0 h1)]
    by_cases hr:cS w h = h
    · rw [av (by simpa using hr)]
      by_cases ht:task < 0∨8 ≤ task
      · have he:oy w h task = 2:=by unfold oy; rw [if_neg hn,if_neg (fun q=>q hr),if_pos ht]
        rw [aC (by simpa using ht),he,if_neg (by decide)]
      · have he:oy w h task = 0:=by unfold oy; rw [if_neg hn,if_neg (fun q=>q hr),if_neg ht]
        rw [av (by rw [Bool.or_eq_false_iff,decide_eq_false_iff_not,decide_eq_false_iff_not]; omega),he,if_pos rfl,ax (jU h0 h1),lt_eq,aF (ga h),lt_eq]
        rfl
    · have he:oy w h task = 12:=by unfold oy; rw [if_neg hn,if_pos hr]
      rw [aC (by simpa using hr),he,if_neg (by decide)]
theorem Gy {h task:Int} (h0:0 ≤ h) (e:oy w h task = 0):bG w.B h∧cS w h = h∧0 ≤ task∧task < 8:=by
  unfold oy at e
  split at e
  · cases e
  · rename_i h1
    split at e
    · cases e
    · rename_i h2
      split at e
      · cases e
      · rename_i h3
        exact ⟨⟨h0,by simpa using h1⟩,Decidable.not_not.1 h2,by omega,by omega⟩
theorem Mz.MV {S:Int→Prop} (q:Mz w o S) {h:Int} (hh:bG w.B h) (hS:S h) {x:de} (hx:zK x):Mz w (qF o h x) S:=by
  refine ⟨fun i hi=>?_,fun i hi=>?_⟩
  · unfold qF; dsimp only; rw [cE]; split
    · exact hx
    · exact q.g i hi
  · unfold qF; dsimp only; rw [cE]; split
    · exact .inr ⟨pz hh,hS⟩
    · exact q.p i hi
theorem GH {v:Int} (h0:0 ≤ v) (h1:v ≤ 255):fy n v = some (wr .i64 (Lib.pop8 v)):=by
  unfold fy
  rw [aF (cP h0 (by omega))]
def xT (k b:Int) (x:de):Bool:=(((x.Kind == 3) && decide (0 ≤ k)) && decide (k < 8)) && ((kN .u8 x.cG (bif (((x.Kind == 3) && decide (0 ≤ k)) && decide (k < 8)) == true then b else default)) != 0)
theorem BH (hn:100 ≤ n) (r:fE t w) (tt:hM w) (d:de→Option Bool) (p:de→Bool) (hd:∀x,d x = some (p x)) :
    c9 (fun xd (dj:(List Int)) (cT:Int) =>
  cn (decide (cT < ((ct w.B 32).length:Int))) (
  gu (dO cT (ct w.B 32).length) <|
  bd (fA n t ((ct w.B 32).getD (Int.toNat cT) default)) fun jN =>
  cl ((jN == ((ct w.B 32).getD (Int.toNat cT) default)) == true) (eW n o t ((ct w.B 32).getD (Int.toNat cT) default)) default fun gl =>
  cl ((jN == ((ct w.B 32).getD (Int.toNat cT) default)) == true) (d gl) default fun dX =>
  cn (((jN == ((ct w.B 32).getD (Int.toNat cT) default)) && dX)) (
  gu (j9 dj.length 1 4) <|
  lt (dj++([((ct w.B 32).getD (Int.toNat cT) default)]):List Int) fun hY =>
  xd hY (wr .i64 (cT + 1))) (
  xd dj (wr .i64 (cT + 1)))) (
  some dj)) n [] 0 = some ((Gw w).filter fun h=>(cS w h == h) && p (nT w o h)):=by
  have hm:=cr r.book
  have hlen:=fz w.B 32
  have PG:Gw w = ct w.B 32:=rfl
  rw [PG]
  generalize ct w.B 32 = G at hm hlen ⊢
  refine eD (fun (s:List Int) (i:Int)=>∃k:Nat,i = k∧k ≤ G.length∧s = (G.take k).filter fun h=>(cS w h == h) && p (nT w o h)) (fun _ i=>G.length - i.toNat) (fun q=>q = some (G.filter fun h=>(cS w h == h) && p (nT w o h))) ?_ n [] 0 ⟨0,rfl,by omega,by simp⟩ (by omega)
  rintro kk s i ⟨k,rfl,hk,rfl⟩ ih
  by_cases c:k < G.length
  · have hx:=(hm _).1 (g6 (l:=G) (i:=k) c)
    have ht:(G.take (k + 1)).filter (fun h=>(cS w h == h) && p (nT w o h)) = (G.take k).filter (fun h=>(cS w h == h) && p (nT w o h))++(if ((cS w (G.getD k default) == G.getD k default) && p (nT w o (G.getD k default))) = true then [G.getD k default] else []):=by
      rw [List.take_succ_eq_append_getElem c,List.filter_append,← fj c]
      generalize G.getD k default = y
      cases hy:((cS w y == y) && p (nT w o y)) <;> simp [hy]
    have MY:((G.take k).filter (fun h=>(cS w h == h) && p (nT w o h))).length ≤ 32:=Nat.le_trans (List.length_filter_le _ _) (by rw [List.length_take]; omega)
    simp only [Int.toNat_natCast]
    generalize G.getD k default = y at hx ht ⊢
    have hl:=fQ hx.2
    rw [aC (decide_eq_true (by omega)),aF (cP (by omega) (by omega)),ax (tc (by omega) r tt hx.1 hl),cz (x:=(k:Int) + 1) (by omega) (by omega)]
    cases hr:(cS w y == y) with
    | false =>
      rw [hr] at ht
      rw [qV (by rfl),qV (by rfl),av (by rfl)]
      exact ih _ _ ⟨k + 1,by omega,by omega,by rw [ht]; simp⟩ (by omega)
    | true =>
      rw [hr] at ht
      refine (jk (by rfl) (vV (by omega) r tt hx.1 hl)).trans ((jk (by rfl) (hd _)).trans ?_)
      cases hp:p (nT w o y) with
      | true =>
        rw [hp] at ht
        rw [aC (by rfl),aF (iY (by omega) (by omega)),lt_eq]
        exact ih _ _ ⟨k + 1,by omega,by omega,by rw [ht]; simp⟩ (by omega)
      | false =>
        rw [hp] at ht
        rw [av (by rfl)]
        exact ih _ _ ⟨k + 1,by omega,by omega,by rw [ht]; simp⟩ (by omega)
  · rw [av (decide_eq_false (by omega)),List.take_of_length_le (by omega)]
theorem BV (hn:100 ≤ n) (r:fE t w) (tt:hM w) (k:Int):gV n o t k = some ((Gw w).filter fun h=>(cS w h == h) && (((nT w o h).Kind == 1) && ((wr .i64 (nT w o h).Task) == k))):=by
  unfold gV dS
  rw [ax (Ir (by omega) r)]
  exact ax (BH (o:=o) hn r tt (fun x=>ji n x k) (fun x=>(x.Kind == 1) && ((wr .i64 x.Task) == k)) (fun x=>rfl))
end
end Go.Proofs.YtmdpbdhkmfjlhaaGreat
namespace Go.Proofs.YtmdpbdhkmfjlhaaGreat
open Go Go.Bw
def vN (v:Int) (k:Nat):Bool:=v.toNat.testBit k
theorem Ah {v:Int} (h:0 ≤ v∧v ≤ 255):∃u:Fin 256,v = (u.val:Int):=⟨⟨v.toNat,by omega⟩,by show v = (v.toNat:Int); omega⟩
theorem zQ {v:Int} (h:0 ≤ v∧v < 8):∃u:Fin 8,v = (u.val:Int):=⟨⟨v.toNat,by omega⟩,by show v = (v.toNat:Int); omega⟩
def Dn (p:Nat→Nat→Nat→Bool):Bool:=(List.range 256).all fun v=>(List.range 8).all fun a=>(List.range 8).all fun b=>p v a b
theorem zA {p:Nat→Nat→Nat→Bool} (h:Dn p = true) (v:Fin 256) (a b:Fin 8):p v.val a.val b.val = true:=by
  unfold Dn at h
  simp only [List.all_eq_true,List.mem_range] at h
  exact h _ v.2 _ a.2 _ b.2
def mO (a:Int):Int:=sB .u8 1 (kN .i64 a 7)
set_option maxRecDepth 100000 in
theorem Dg:Dn (fun v a _=>((kN .u8 (v:Int) (mO a) != 0) == v.testBit a)) = true:=by kernel_rfl
set_option maxRecDepth 100000 in
theorem Dh:Dn (fun v a b=>if v = 0 then (vN (mO a) b == decide (b = a)) else true) = true:=by kernel_rfl
set_option maxRecDepth 100000 in
theorem Df:Dn (fun v a b=>(vN (s5 .u8 (v:Int) (mO a)) b == (if b = a then !v.testBit b else v.testBit b))) = true:=by kernel_rfl
theorem Ly {v a:Int} (hv:0 ≤ v∧v ≤ 255) (ha:0 ≤ a∧a < 8):(kN .u8 v (mO a) != 0) = vN v a.toNat:=by
  obtain ⟨u,rfl⟩:=Ah hv
  obtain ⟨c,rfl⟩:=zQ ha
  have:=zA Dg u c c
  simp only [beq_iff_eq] at this
  rw [this]; rfl
theorem Qi {a:Int} (ha:0 ≤ a∧a < 8) {k:Nat} (hk:k < 8):vN (mO a) k = decide (k = a.toNat):=by
  obtain ⟨c,rfl⟩:=zQ ha
  have:=zA Dh 0 c ⟨k,hk⟩
  simpa using this
theorem Nj {v a:Int} (hv:0 ≤ v∧v ≤ 255) (ha:0 ≤ a∧a < 8) {k:Nat} (hk:k < 8):vN (s5 .u8 v (mO a)) k = if k = a.toNat then !vN v k else vN v k:=by
  obtain ⟨u,rfl⟩:=Ah hv
  obtain ⟨c,rfl⟩:=zQ ha
  have:=zA Df u c ⟨k,hk⟩
  simp only [beq_iff_eq] at this
  exact this
theorem sV {n:Nat} (a:Int):mR n a = some (mO a):=by
  unfold mR
  rw [aF (decide_eq_true (Mr a).1)]; rfl
theorem Di (a:Int):0 ≤ mO a∧mO a ≤ 255:=by unfold mO sB; exact BE _
def m8 (f:Nat→Bool):Nat→Int
  | 0=>0
  | k + 1=>if f k then m8 f k + 1 else m8 f k
theorem C3 (f:Nat→Bool) (k:Nat):0 ≤ m8 f k∧m8 f k ≤ k:=by
  induction k with
  | zero=>exact ⟨Int.le_refl _,Int.le_refl _⟩
  | succ k ih=>unfold m8; split <;> omega
theorem zm {f g:Nat→Bool} (k:Nat) (h:∀j,j < k→f j = g j):m8 f k = m8 g k:=by
  induction k with
  | zero=>rfl
  | succ k ih=>unfold m8; rw [h k (by omega),ih fun j hj=>h j (by omega)]
def AK (f:Nat→Bool):Nat→Int
  | 0=>0
  | k + 1=>if f k then I4 .u8 (AK f k) (sB .u8 1 (k:Int)) else AK f k
theorem AJ {f g:Nat→Bool} (k:Nat) (h:∀j,j < k→f j = g j):AK f k = AK g k:=by
  induction k with
  | zero=>rfl
  | succ k ih=>unfold AK; rw [h k (by omega),ih fun j hj=>h j (by omega)]
set_option maxRecDepth 100000 in
theorem ym:(List.range 256).all (fun v=>(wr .i64 (Lib.pop8 (v:Int)) == m8 (fun k=>vN (v:Int) k) 8) && (AK (fun k=>vN (v:Int) k) 8 == (v:Int))) = true:=by kernel_rfl
theorem Ed {v:Int} (hv:0 ≤ v∧v ≤ 255):wr .i64 (Lib.pop8 v) = m8 (vN v) 8:=by
  obtain ⟨u,rfl⟩:=Ah hv
  have:=List.all_eq_true.1 ym u.val (List.mem_range.2 u.2)
  simp only [Bool.and_eq_true,beq_iff_eq] at this
  exact this.1
theorem GK {v:Int} (hv:0 ≤ v∧v ≤ 255):AK (vN v) 8 = v:=by
  obtain ⟨u,rfl⟩:=Ah hv
  have:=List.all_eq_true.1 ym u.val (List.mem_range.2 u.2)
  simp only [Bool.and_eq_true,beq_iff_eq] at this
  exact this.2
def DX:bW:={ Kind:=0,Task:=0,gp:=fun _=>false }
def kr (v:aK) (h:Int):Nat:=v.cO.findIdx (· == h)
def rE (v:aK) (h:Int):bW:=if kr v h < v.cO.length then v.Own.getD (kr v h) default else DX
def oc (v:aK) (h:Int) (x:bW):aK:=if kr v h < v.cO.length then { v with Own:=v.Own.set (kr v h) x } else { cO:=v.cO++[h],Own:=v.Own++[x] }
theorem v9 {v:aK} {h:Int} (hl:kr v h < v.cO.length):v.cO.getD (kr v h) default = h:=by
  have:=List.findIdx_getElem (w:=hl)
  rw [fj hl]
  exact eq_of_beq this
theorem Cr {v:aK} {h:Int} {k:Nat} (hl:k < kr v h) (hk:k < v.cO.length):v.cO.getD k default ≠ h:=by
  have:=List.not_of_lt_findIdx hl
  rw [fj hk]
  simpa using this
theorem v8 {v:aK} {h:Int}:kr v h < v.cO.length↔h ∈ v.cO:=by
  unfold kr
  rw [List.findIdx_lt_length]
  simp
theorem Rb {n:Nat} (hn:200 ≤ n) {v:aK} (hl:v.cO.length ≤ 110) (h:Int):iA n v h = some (if kr v h < v.cO.length then (kr v h:Int) else -1):=by
  unfold iA
  refine iE (fun (i:Int)=>∃k:Nat,i = k∧k ≤ v.cO.length∧k ≤ kr v h) (fun i=>((v.cO.length:Int) - i).toNat) (fun o=>o = some (if kr v h < v.cO.length then (kr v h:Int) else -1)) ?_ n 0 ⟨0,rfl,by omega,by omega⟩ (by omega)
  rintro kk i ⟨k,rfl,hk,hi⟩ ih
  by_cases c:k < v.cO.length
  · rw [aC (decide_eq_true (by omega)),aF (cP (by omega) (by omega)),Int.toNat_natCast]
    by_cases e:v.cO.getD k default = h
    · have:k = kr v h:=by
        by_cases q:k < kr v h
        · exact absurd e (Cr q c)
        · omega
      rw [aC (by simpa using e),if_pos (by omega),this]
    · rw [av (by simpa using e),cz (x:=(k:Int) + 1) (by omega) (by omega)]
      have:k ≠ kr v h:=fun q=>e (by rw [q]; exact v9 (by omega))
      exact ih _ ⟨k + 1,by omega,by omega,by omega⟩ (by omega)
  · rw [av (decide_eq_false (by omega)),if_neg (by omega)]
theorem vh {v:aK} (hl:v.Own.length = v.cO.length) (h:Int) (x:bW) (g:Int):rE (oc v h x) g = if g = h then x else rE v g:=by
  unfold oc
  by_cases c:kr v h < v.cO.length
  · rw [if_pos c]
    have e:kr { v with Own:=v.Own.set (kr v h) x } g = kr v g:=rfl
    unfold rE
    rw [e]
    dsimp only
    by_cases q:g = h
    · subst q
      rw [if_pos c,if_pos rfl,fj (by rw [List.length_set]; omega),List.getElem_set_self]
    · rw [if_neg q]
      by_cases d:kr v g < v.cO.length
      · have hne:kr v h ≠ kr v g:=fun e2=>q (by rw [← v9 d,← e2,v9 c])
        rw [if_pos d,if_pos d,fj (by rw [List.length_set]; omega),List.getElem_set_ne hne,← fj]
      · rw [if_neg d,if_neg d]
  · rw [if_neg c]
    have hno:h ∉ v.cO:=fun q=>c (v8.2 q)
    unfold rE kr
    dsimp only
    rw [List.findIdx_append]
    have hle:∀g,List.findIdx (fun y=>y == g) v.cO ≤ v.cO.length:=fun g=>List.findIdx_le_length
    by_cases d:List.findIdx (fun y=>y == g) v.cO < v.cO.length
    · have:g ∈ v.cO:=v8.1 d
      have q:g ≠ h:=fun e=>hno (e ▸ this)
      rw [if_pos d,if_neg q,if_pos (by rw [List.length_append]; omega),fj (by rw [List.length_append]; omega),List.getElem_append_left (by omega),if_pos d,← fj]
    · have hg:=hle g
      rw [if_neg d,if_neg d]
      by_cases q:g = h
      · subst q
        rw [if_pos rfl,if_pos (by simp),fj (by simp [hl])]
        simp [hl]
      · have q2:h ≠ g:=fun e=>q e.symm
        rw [if_neg q,if_neg (by simp [q2]; omega)]
theorem rC {v:aK} (hl:v.Own.length = v.cO.length) (h:Int) (x:bW):(oc v h x).Own.length = (oc v h x).cO.length∧(oc v h x).cO.length ≤ v.cO.length + 1∧∀y ∈ (oc v h x).cO,y ∈ v.cO∨y = h:=by
  unfold oc
  split
  · exact ⟨by rw [List.length_set]; exact hl,by dsimp only; omega,fun y hy=>.inl hy⟩
  · exact ⟨by simp [hl],by simp,fun y hy=>by simpa using hy⟩
theorem zN {n:Nat} (hn:200 ≤ n) {v:aK} (hl:v.Own.length = v.cO.length) (hr:v.cO.length ≤ 108) (h:Int) (x:bW):gw n v h x = some (oc v h x):=by
  unfold gw oc
  rw [aF (iY (by simp; omega) (by simp; omega)),lt_eq,aF (iY (by simp; omega) (by simp; omega)),lt_eq,lt_eq,ax (Rb hn (by omega) h)]
  simp only [List.nil_append]
  by_cases c:kr v h < v.cO.length
  · rw [if_pos c,if_pos c,av (decide_eq_false (by omega)),aF (cP (by omega) (by omega)),lt_eq,lt_eq,Int.toNat_natCast]
  · rw [if_neg c,if_neg c,aC (by decide),aF (iY (by omega) (by omega)),lt_eq,lt_eq,aF (iY (by omega) (by omega)),lt_eq,lt_eq,lt_eq]
end Go.Proofs.YtmdpbdhkmfjlhaaGreat
namespace Go.Proofs.YtmdpbdhkmfjlhaaGreat
open Go Go.Bw
structure RO (x:de) (y:bW):Prop where
  k:x.Kind = y.Kind
  t:x.Task = y.Task
  h:∀j,j < 8→y.gp j = vN x.cG j
theorem D5 (j:Nat):vN 0 j = false:=by unfold vN; simp
theorem BW:RO tv DX:=⟨rfl,rfl,fun j _=>(D5 j).symm⟩
def sD (o:bO) (h:Int):de:=if (o.slots (cw h)).root = h then (o.slots (cw h)).own else tv
structure sM (w:ah) (o:bO) (v:aK):Prop where
  q:Mz w o (fun _=>True)
  l:v.Own.length = v.cO.length
  pv:∀x ∈ v.cO,mc w.B x
  rel:∀h,bG w.B h→RO (sD o h) (rE v h)
structure Mv (w w' : ah):Prop where
  p:∀x,mc w.B x→mc w'.B x
  g:∀x,bG w'.B x→bG w.B x∨¬ mc w.B x
def qz (w:ah) (v:aK) (h:Int):bW:=if bt w.B h = true then rE v (cS w h) else DX
theorem sM.mv {w w' : ah} {o:bO} {v:aK} (p:sM w o v) (m:Mv w w'):sM w' o v:=by
  refine ⟨⟨p.q.g,fun i hi=>(p.q.p i hi).imp _root_.id fun h=>⟨m.p _ h.1,trivial⟩⟩,p.l,fun x hx=>m.p _ (p.pv x hx),fun h hh=>?_⟩
  rcases m.g h hh with a | a
  · exact p.rel h a
  · have h1:sD o h = tv:=by
      unfold sD
      rw [if_neg]
      intro e
      rcases p.q.p (cw h) (kF _) with b | b
      · rw [e] at b; have:=iG hh; omega
      · rw [e] at b; exact a b.1
    have h2:rE v h = DX:=by unfold rE; rw [if_neg (fun c=>a (p.pv h (v8.1 c)))]
    rw [h1,h2]; exact BW
theorem sM.MV {w:ah} {o:bO} {v v' : aK} (p:sM w o v) {h:Int} (hh:bG w.B h) {x:de} (hx:zK x) (hl:v'.Own.length = v'.cO.length) (Sw:∀z ∈ v'.cO,z ∈ v.cO∨z = h) (hv:RO x (rE v' h)) (hne:∀g,g ≠ h→rE v' g = rE v g):sM w (qF o h x) v':=by
  refine ⟨p.q.MV hh trivial hx,hl,fun z hz=>(Sw z hz).elim (p.pv z) (fun e=>e ▸ pz hh),fun g hg=>?_⟩
  by_cases e:g = h
  · subst e
    have hs:(qF o g x).slots (cw g) = { root:=g,own:=x }:=p5 _ _ _
    have:sD (qF o g x) g = x:=by unfold sD; simp [hs]
    rw [this]; exact hv
  · have hs:cw g ≠ cw h:=fun q=>e (Aa hg hh q)
    have KP:(qF o h x).slots (cw g) = o.slots (cw g):=by unfold qF; dsimp only; rw [cE,if_neg hs]
    have:sD (qF o h x) g = sD o g:=by unfold sD; simp only [KP]
    rw [this,hne g e]; exact p.rel g hg
theorem sM.with {w:ah} {o:bO} {v:aK} (p:sM w o v) {h:Int} (hh:bG w.B h) {x:de} {y:bW} (hx:zK x) (hv:RO x y):sM w (qF o h x) (oc v h y):=by
  obtain ⟨a,_,c⟩:=rC p.l h y
  exact p.MV hh hx a c (by rw [vh p.l,if_pos rfl]; exact hv) (fun g e=>by rw [vh p.l,if_neg e])
section
variable {n:Nat} {t:aq} {w:ah} {o:bO} {v:aK}
theorem yR (hn:200 ≤ n) (r:fE t w) (tt:hM w) (hl:v.Own.length = v.cO.length) (hr:v.cO.length ≤ 108) {h:Int} (h0:0 ≤ h):gM n v w h = some (qz w v h):=by
  unfold gM qz rE
  rw [ax (tn hn r tt h0),ax (Rb hn (by omega) _),dD (cg (by omega) r h0)]
  by_cases c:kr v (cS w h) < v.cO.length
  · simp only [if_pos c]
    have e:decide (((kr v (cS w h):Nat):Int) < 0) = false:=decide_eq_false (by omega)
    rw [e]
    cases hg:bt w.B h with
    | false=>rw [aC (by rfl),lt_eq,if_neg (by decide)]; rfl
    | true=>rw [av (by rfl),aF (cP (by omega) (by omega)),lt_eq,Int.toNat_natCast,if_pos rfl]
  · simp only [if_neg c]
    rw [aC (by rfl),lt_eq]
    split <;> rfl
theorem tg (r:fE t w) (tt:hM w) (p:sM w o v) {h:Int} (h0:0 ≤ h):RO (nT w o h) (qz w v h):=by
  unfold qz
  by_cases hg:bt w.B h = true
  · obtain ⟨g,_⟩:=u6 r tt ⟨h0,hg⟩
    have:=p.rel _ g
    rw [if_pos hg]
    have e:nT w o h = sD o (cS w h):=by
      unfold nT sD
      by_cases e:(o.slots (cw (cS w h))).root = cS w h
      · rw [if_pos ⟨hg,e⟩,if_pos e]
      · rw [if_neg (fun q=>e q.2),if_neg e]
    rw [e]; exact this
  · rw [if_neg hg]
    unfold nT
    rw [if_neg (fun q=>hg q.1)]; exact BW
def jM (w:ah) (h:Int):Int:=if bt w.B h = false then 4 else if cS w h ≠ h then 12 else 0
theorem zT (h task:Int):oy w h task = if jM w h = 0 then (if task < 0∨8 ≤ task then 2 else 0) else jM w h:=by
  unfold oy jM
  cases bt w.B h with
  | false=>rfl
  | true =>
    by_cases e:cS w h = h
    · simp [e]
    · simp [e]
theorem Fu (hn:200 ≤ n) (r:fE t w) (tt:hM w) {h:Int} (h0:0 ≤ h):kG n w h = some (jM w h):=by
  unfold kG jM
  rw [ax (cg (by omega) r h0)]
  cases bt w.B h with
  | false=>rw [aC (by rfl),if_pos rfl]
  | true =>
    rw [av (by rfl),ax (tn hn r tt h0),if_neg (by decide)]
    by_cases e:cS w h = h
    · rw [av (by simpa using e),if_neg (fun q=>q e)]
    · rw [aC (by simpa using e),if_pos e]
theorem zU {h:Int} (h0:0 ≤ h) (e:jM w h = 0):bG w.B h∧cS w h = h:=by
  unfold jM at e
  split at e
  · cases e
  · rename_i h1
    split at e
    · cases e
    · rename_i h2
      exact ⟨⟨h0,by simpa using h1⟩,Decidable.not_not.1 h2⟩
def yK (kind task:Int):bW:=
  if kind = 1 then { Kind:=1,Task:=task,gp:=fun _=>false } else if kind = 3 then { Kind:=3,Task:=0,gp:=eG (fun _=>false) task.toNat true } else { Kind:=kind,Task:=0,gp:=fun _=>false }
theorem D8 (hn:200 ≤ n) (r:fE t w) (tt:hM w) (hl:v.Own.length = v.cO.length) (hr:v.cO.length ≤ 108) {h task kind tk:Int} (h0:0 ≤ h) (hk:kind = 1∨kind = 2∨kind = 3) (yy:tk = if kind = 2 then 0 else task) :
    fx n v w h task kind = some (if oy w h tk = 0 then oc v h (yK kind task) else v,oy w h tk):=by
  unfold fx
  rw [ax (Fu hn r tt h0),lt_eq,zT]
  by_cases e0:jM w h = 0
  · rw [e0,if_pos rfl]
    by_cases bad:tk < 0∨8 ≤ tk
    · have Bp:kind ≠ 2:=fun q=>by rw [if_pos q] at yy; omega
      rw [if_neg Bp] at yy
      subst yy
      rw [if_pos bad,if_neg (by decide),aC (by simp; exact ⟨Bp,by omega⟩)]
      exact aC (by rfl)
    · rw [if_neg bad,if_pos rfl,av (by
        by_cases Bp:kind = 2
        · rw [Bp]; rfl
        · rw [if_neg Bp] at yy
          subst yy
          have:(decide (tk < 0) || decide (7 < tk)) = false:=by rw [Bool.or_eq_false_iff,decide_eq_false_iff_not,decide_eq_false_iff_not]; omega
          rw [this,Bool.and_false])]
      refine (av (by rfl)).trans ?_
      rw [lt_eq,lt_eq]
      rcases hk with rfl | rfl | rfl
      · refine (aC (by rfl)).trans ?_
        rw [lt_eq]
        dsimp only
        rw [lt_eq]
        refine (av (by rfl)).trans (ax (zN hn hl hr h _))
      · refine (av (by rfl)).trans ?_
        dsimp only
        rw [lt_eq]
        refine (av (by rfl)).trans (ax (zN hn hl hr h _))
      · rw [if_neg (by decide)] at yy
        subst yy
        refine (av (by rfl)).trans ?_
        dsimp only
        rw [lt_eq]
        refine (aC (by rfl)).trans ?_
        rw [aF (cP (by omega) (by omega)),lt_eq]
        exact ax (zN hn hl hr h _)
  · rw [if_neg e0,if_neg e0,av (by simp [e0])]
    exact aC (by simpa using e0)
theorem BQ (hn:200 ≤ n) (r:fE t w) (tt:hM w) (p:sM w o v) (hr:v.cO.length ≤ 108) {h task kind tk:Int} (h0:0 ≤ h) (h1:h < 4294967296) (hk:kind = 1∨kind = 2∨kind = 3) (yy:tk = if kind = 2 then 0 else task) {x:de} (hx:0 ≤ tk∧tk < 8→zK x∧RO x (yK kind task)) :
    ∃o' v' e,fh n o t h tk x = some (o',e)∧fx n v w h task kind = some (v',e)∧sM w o' v'∧v'.cO.length ≤ v.cO.length + 1:=by
  refine ⟨_,_,_,yN (by omega) r tt h0 h1 x,D8 hn r tt p.l hr h0 hk yy,?_⟩
  by_cases e:oy w h tk = 0
  · obtain ⟨s1,s2,s3⟩:=Gy h0 e
    rw [if_pos e,if_pos e]
    exact ⟨p.with s1 (hx s3).1 (hx s3).2,(rC p.l h _).2.1⟩
  · rw [if_neg e,if_neg e]; exact ⟨p,by omega⟩
theorem Ih {ρ:Type} (f:Nat→Bool) (C:Int→Option ρ) (hn:20 ≤ n):c9 (fun GY (eR:Int) (ez:Int) =>
  cn (decide (ez < 8)) (
  gu (dO ez 8) <|
  cn (f (Int.toNat ez)) (
  GY (wr .i64 (eR + 1)) (wr .i64 (ez + 1))) (
  GY eR (wr .i64 (ez + 1)))) (
  C eR)) n 0 0 = C (m8 f 8):=by
  refine eD (fun (c i:Int)=>∃k:Nat,i = k∧k ≤ 8∧c = m8 f k) (fun _ i=>(8 - i).toNat) (fun q=>q = C (m8 f 8)) ?_ n 0 0 ⟨0,rfl,by omega,rfl⟩ (by omega)
  rintro kk c i ⟨k,rfl,hk,rfl⟩ ih
  by_cases q:k < 8
  · have hc:=C3 f k
    have hs:m8 f (k + 1) = if f k then m8 f k + 1 else m8 f k:=rfl
    rw [aC (decide_eq_true (by omega)),aF (cP (by omega) (by omega)),Int.toNat_natCast,cz (x:=(k:Int) + 1) (by omega) (by omega)]
    cases hf:f k with
    | true=>rw [aC rfl]; rw [hf] at hs; exact ih _ _ ⟨k + 1,by omega,by omega,by rw [hs,cz (by omega) (by omega)]; rfl⟩ (by omega)
    | false=>rw [av rfl]; rw [hf] at hs; exact ih _ _ ⟨k + 1,by omega,by omega,by rw [hs]; rfl⟩ (by omega)
  · rw [av (decide_eq_false (by omega))]
    have:k = 8:=by omega
    subst this; rfl
theorem NB {ρ:Type} (f:Nat→Bool) (C:Int→Option ρ) (hn:20 ≤ n):c9 (fun Cm (gq:Int) (eR:Int) =>
  cn (decide (eR < 8)) (
  gu (dO eR 8) <|
  cn (f (Int.toNat eR)) (
  gu (decide (0 ≤ eR)) <|
  Cm (I4 .u8 gq (sB .u8 1 eR)) (wr .i64 (eR + 1))) (
  Cm gq (wr .i64 (eR + 1)))) (
  C gq)) n 0 0 = C (AK f 8):=by
  refine eD (fun (c i:Int)=>∃k:Nat,i = k∧k ≤ 8∧c = AK f k) (fun _ i=>(8 - i).toNat) (fun q=>q = C (AK f 8)) ?_ n 0 0 ⟨0,rfl,by omega,rfl⟩ (by omega)
  rintro kk c i ⟨k,rfl,hk,rfl⟩ ih
  by_cases q:k < 8
  · have hs:AK f (k + 1) = if f k then I4 .u8 (AK f k) (sB .u8 1 (k:Int)) else AK f k:=rfl
    rw [aC (decide_eq_true (by omega)),aF (cP (by omega) (by omega)),Int.toNat_natCast,cz (x:=(k:Int) + 1) (by omega) (by omega)]
    cases hf:f k with
    | true=>rw [aC rfl,aF (decide_eq_true (by omega))]; rw [hf] at hs; exact ih _ _ ⟨k + 1,by omega,by omega,by rw [hs]; rfl⟩ (by omega)
    | false=>rw [av rfl]; rw [hf] at hs; exact ih _ _ ⟨k + 1,by omega,by omega,by rw [hs]; rfl⟩ (by omega)
  · rw [av (decide_eq_false (by omega))]
    have:k = 8:=by omega
    subst this; rfl
end
end Go.Proofs.YtmdpbdhkmfjlhaaGreat
namespace Go.Proofs.YtmdpbdhkmfjlhaaGreat
open Go Go.Bw
theorem P4:m8 (vN 0) 8 = 0:=by simp [m8,D5]
def gY (re:Int) (y:bW) (task:Int) (hold:Bool):Int:=if re ≠ 0 then re else if y.Kind ≠ 3 then 12 else if task < 0∨8 ≤ task then 2 else if y.gp task.toNat = hold then (if hold = true then 7 else 5) else 0
theorem z9 {re:Int} {y:bW} {task:Int} {hold:Bool} (h:gY re y task hold = 0):re = 0∧y.Kind = 3∧(0 ≤ task∧task < 8)∧y.gp task.toNat = !hold:=by
  unfold gY at h
  split at h
  · contradiction
  · rename_i h1
    split at h
    · cases h
    · rename_i h2
      split at h
      · cases h
      · rename_i h3
        split at h
        · split at h <;> cases h
        · rename_i h4
          refine ⟨Decidable.not_not.1 h1,Decidable.not_not.1 h2,by omega,?_⟩
          cases hold <;> simpa using h4
section
variable {n:Nat} {t:aq} {w:ah} {o:bO} {v:aK}
theorem BY (hn:200 ≤ n) (r:fE t w) (tt:hM w) (hl:v.Own.length = v.cO.length) (hr:v.cO.length ≤ 108) {h task:Int} (h0:0 ≤ h) (hold:Bool) :
    fM n v w h task hold = some (if gY (jM w h) (qz w v h) task hold = 0 then (oc v h { qz w v h with gp:=eG (qz w v h).gp task.toNat hold },m8 (eG (qz w v h).gp task.toNat hold) 8,0) else (v,0,gY (jM w h) (qz w v h) task hold)):=by
  unfold fM
  rw [ax (Fu hn r tt h0),ax (yR hn r tt hl hr h0)]
  generalize qz w v h = y
  rw [lt_eq]
  by_cases e0:jM w h = 0
  · rw [e0]
    by_cases k3:y.Kind = 3
    · refine (av (by simp [k3])).trans ?_
      dsimp only
      rw [lt_eq]
      by_cases bad:task < 0∨8 ≤ task
      · have he:gY 0 y task hold = 2:=by simp [gY,k3,bad]
        refine (aC (by simp; omega)).trans ?_
        dsimp only
        rw [lt_eq,he]
        refine (aF (by rfl)).trans ?_
        refine (av (by rfl)).trans ?_
        exact aC (by rfl)
      · refine (av (by simp; omega)).trans ?_
        dsimp only
        rw [lt_eq]
        have hi:dO task 8 = true:=cP (by omega) (by omega)
        refine (aF (by rw [hi]; rfl)).trans ?_
        by_cases hh:y.gp task.toNat = hold
        · have he:gY 0 y task hold = if hold = true then 7 else 5:=by simp [gY,k3,bad,hh]
          refine (aC (by simp [hh])).trans ?_
          rw [he]
          cases hold with
          | true=>exact (aC rfl).trans (aC (by rfl))
          | false=>exact (av rfl).trans (aC (by rfl))
        · have he:gY 0 y task hold = 0:=by simp [gY,k3,bad,hh]
          refine (av (by simp [hh])).trans ?_
          dsimp only
          rw [he,if_pos rfl]
          refine (av (by rfl)).trans ?_
          rw [aF hi,lt_eq]
          refine (Ih (eG y.gp task.toNat hold) _ (by omega)).trans ?_
          exact ax (zN hn hl hr h _)
    · have he:gY 0 y task hold = 12:=by simp [gY,k3]
      refine (aC (by simp [k3])).trans ?_
      dsimp only
      rw [lt_eq,he]
      refine (av (by rfl)).trans ?_
      dsimp only
      rw [lt_eq]
      refine (aF (by rfl)).trans ?_
      refine (av (by rfl)).trans ?_
      exact aC (by rfl)
  · have he:gY (jM w h) y task hold = jM w h:=by simp [gY,e0]
    rw [he,if_neg e0]
    refine (av (by simp [e0])).trans ?_
    dsimp only
    rw [lt_eq]
    refine (av (by simp [e0])).trans ?_
    dsimp only
    rw [lt_eq]
    refine (aF (by simp [e0])).trans ?_
    refine (av (by simp [e0])).trans ?_
    exact aC (by simpa using e0)
theorem B4 (hn:200 ≤ n) (r:fE t w) (tt:hM w) (p:sM w o v) {h task:Int} (h0:0 ≤ h) (h1:h < 4294967296) (hold:Bool) :
    gO n o t h task hold = some (if gY (jM w h) (qz w v h) task hold = 0 then (qF (qF o h (nT w o h)) h { nT w o h with cG:=s5 .u8 (nT w o h).cG (mO task) },s5 .u8 (nT w o h).cG (mO task),0) else (o,0,gY (jM w h) (qz w v h) task hold)):=by
  have hx:=oO p.q h
  have qA:=tg r tt p h0
  unfold gO
  rw [ax (vV (by omega) r tt h0 h1),ax (yN (by omega) r tt h0 h1 _),ax (sV task)]
  dsimp only
  generalize nT w o h = x at hx qA
  generalize qz w v h = y at qA
  rw [dD (lO r.book h0 h1),dD (tc (by omega) r tt h0 h1)]
  have Ez:=zT (w:=w) h task
  by_cases e0:jM w h = 0
  · obtain ⟨s1,s2⟩:=zU h0 e0
    rw [if_pos e0] at Ez
    have h4:(oy w h task == 4) = false:=by rw [Ez]; split <;> rfl
    rw [h4,e0]
    refine (av (by rw [s1.2,s2]; simp)).trans ?_
    by_cases k3:x.Kind = 3
    · have Kc:y.Kind = 3:=qA.k ▸ k3
      rw [av (by simpa using k3)]
      by_cases bad:task < 0∨8 ≤ task
      · have he:gY 0 y task hold = 2:=by simp [gY,Kc,bad]
        rw [if_pos bad] at Ez
        rw [he,Ez]
        exact aC (by rfl)
      · rw [if_neg bad] at Ez
        have ht:0 ≤ task∧task < 8:=by omega
        have hy:=qA.h task.toNat (by omega)
        rw [Ez,av (by rfl),Ly hx.hr ht,← hy,if_pos rfl]
        by_cases hh:y.gp task.toNat = hold
        · have he:gY 0 y task hold = if hold = true then 7 else 5:=by simp [gY,Kc,bad,hh]
          rw [he,hh]
          cases hold with
          | true=>exact aC (by rfl)
          | false=>exact (av (by rfl)).trans (aC (by rfl))
        · have he:gY 0 y task hold = 0:=by simp [gY,Kc,bad,hh]
          have hb:y.gp task.toNat = !hold:=(z9 he).2.2.2
          rw [he,hb,if_pos rfl]
          refine (av (by cases hold <;> rfl)).trans ((av (by cases hold <;> rfl)).trans ?_)
          rw [ax (sV task),lt_eq,ax (yN (by omega) r tt h0 h1 _),Ez,if_pos rfl]
    · have Kc:y.Kind ≠ 3:=qA.k ▸ k3
      have he:gY 0 y task hold = 12:=by simp [gY,Kc]
      rw [aC (by simpa using k3),he]; rfl
  · have he:gY (jM w h) y task hold = jM w h:=by simp [gY,e0]
    rw [if_neg e0] at Ez
    rw [he,if_neg e0,Ez]
    refine aC ?_
    unfold jM at e0 ⊢
    cases hg:bt w.B h with
    | false=>rfl
    | true =>
      rw [hg] at e0
      by_cases e:cS w h = h
      · exact absurd (by simp [e]) e0
      · simp [e]
theorem FK (hn:200 ≤ n) (r:fE t w) (tt:hM w) (p:sM w o v) (hr:v.cO.length ≤ 108) {h task:Int} (h0:0 ≤ h) (h1:h < 4294967296) (hold:Bool) :
    ∃o' m v' e,gO n o t h task hold = some (o',m,e)∧fM n v w h task hold = some (v',m8 (vN m) 8,e)∧(0 ≤ m∧m ≤ 255)∧sM w o' v'∧v'.cO.length ≤ v.cO.length + 1:=by
  have hx:=oO p.q h
  have qA:=tg r tt p h0
  have e1:=B4 hn r tt p h0 h1 (task:=task) hold
  have e2:=BY hn r tt p.l hr h0 (task:=task) hold
  by_cases e:gY (jM w h) (qz w v h) task hold = 0
  · rw [if_pos e] at e1 e2
    obtain ⟨a,b,c,d⟩:=z9 e
    obtain ⟨s1,s2⟩:=zU h0 a
    have hu:0 ≤ s5 .u8 (nT w o h).cG (mO task)∧s5 .u8 (nT w o h).cG (mO task) ≤ 255:=by unfold s5; exact BE _
    have hv:qz w v h = rE v h:=by unfold qz; rw [if_pos s1.2,s2]
    have hb:∀j,j < 8→eG (qz w v h).gp task.toNat hold j = vN (s5 .u8 (nT w o h).cG (mO task)) j:=fun j hj=>by
      rw [Nj hx.hr c hj,cE]
      by_cases q:j = task.toNat
      · rw [if_pos q,if_pos q,← qA.h j hj,q,d,Bool.not_not]
      · rw [if_neg q,if_neg q,← qA.h j hj]
    rw [zm 8 hb] at e2
    refine ⟨_,_,_,_,e1,e2,hu,?_,(rC p.l h _).2.1⟩
    have p1:sM w (qF o h (nT w o h)) v:=p.MV s1 hx p.l (fun z hz=>.inl hz) (hv ▸ qA) (fun g _=>rfl)
    exact p1.with s1 ⟨hx.k,fun q=>absurd (qA.k.trans b) q,hx.t,hu,hx.tr⟩ ⟨qA.k,qA.t,hb⟩
  · rw [if_neg e] at e1 e2
    exact ⟨_,_,_,_,e1,by rw [P4]; exact e2,by decide,p,by omega⟩
end
end Go.Proofs.YtmdpbdhkmfjlhaaGreat
namespace Go.Proofs.YtmdpbdhkmfjlhaaGreat
open Go Go.Bw
theorem Mv.book {w w' : ah} (h:w'.B = w.B):Mv w w':=⟨fun x q=>by rw [h]; exact q,fun x q=>.inl (by rw [h] at q; exact q)⟩
section
variable {n:Nat} {t:aq} {w:ah} {o:bO} {v:aK}
theorem LX (hn:200 ≤ n) (r:fE t w) (tt:hM w) (i:qC w) {a:iF} (ha:IY a):∃t' w',mh n t w a = some (t',w',true)∧fE t' w'∧hM w'∧qC w'∧Mv w w':=by
  obtain ⟨_,hA,hB,hC,_⟩:=ha
  obtain ⟨x,x1,x2,x3⟩:=qI (n:=n) r hA.1 (by omega)
  obtain ⟨y,y1,y2,y3⟩:=qI (n:=n) r hB.1 (by omega)
  obtain ⟨z,z1,z2,z3⟩:=qI (n:=n) r hC.1 (by omega)
  unfold mh
  rw [ax x1,ax y1,ax z1,lt_eq,oG (x:=x) (by omega) (by omega),oG (x:=y) (by omega) (by omega),oG (x:=z) (by omega) (by omega)]
  by_cases d0:a.Do = 0
  · obtain ⟨t',e1,e2,e3,e4⟩:=LK (n:=n) hn r tt i x2 x3
    have hu:=xm r tt x
    rw [aC (by simpa using d0),ax e1,ax e2]
    dsimp only
    rw [ax (JJ (by omega) (by have:=(vM r tt x).2; omega) hu)]
    exact ⟨t',fB w (lS w x),by simp,e3,e4,(zk _ r tt i hu).2.2.1,yS _ w,fun y hy=>.inl (((zk _ r tt i hu).2.2.2.1 y).1 hy).1⟩
  rw [av (by simpa using d0)]
  by_cases d1:a.Do = 1
  · obtain ⟨t',e1,e2,e3,e4,e5⟩:=P3 (n:=n) hn r tt i x2 x3
    rw [aC (by simpa using d1),ax e1,ax e2]
    exact ⟨t',xZ w x,by simp,e3,e4,e5,Mv.book (C1 w x)⟩
  rw [av (by simpa using d1)]
  by_cases d2:a.Do = 2
  · obtain ⟨t',w',e,e1,e2,e3,e4,e5,e6⟩:=HT (n:=n) hn r tt i x2 x3 y2 y3
    have hb:w'.B = w.B:=by
      by_cases e0:e = 0
      · rw [(e6.is e0).1]; rfl
      · rw [e6.no e0]
    rw [aC (by simpa using d2),ax e1,ax e2]
    exact ⟨t',w',by simp,e3,e4,e5,Mv.book hb⟩
  rw [av (by simpa using d2)]
  by_cases d3:a.Do = 3
  · have hb:Int.tmod a.B 8 = a.B % 8:=BG hB.1
    have hk:dO (Int.tmod a.B 8) 8 = true:=by rw [hb]; exact cP (by omega) (by omega)
    rw [aC (by simpa using d3),ax (sR r x2 x3),aF hk,lt_eq]
    cases hg:bt w.B x with
    | false =>
      obtain ⟨v,v1⟩:=BZ (n:=n) (by omega) r x2 hg
      rw [if_neg (by decide),ax v1,aF hk,lt_eq,av (by rfl)]
      exact ⟨t,w,rfl,r,tt,i,Mv.book rfl⟩
    | true =>
      have hx:bG w.B x:=⟨x2,hg⟩
      obtain ⟨t',e1,e2,e3,e4,e5⟩:=L4 (n:=n) hn r tt i hx z2 z3 (k:=(Int.tmod a.B 8).toNat) (by rw [hb]; omega)
      rw [if_pos rfl,ax (tp (by omega) r hx),aF hk,lt_eq,aC (by rfl)]
      dsimp only at e1 ⊢
      rw [ax e1,ax e2]
      exact ⟨t',_,by simp,e3,e4,e5,Mv.book rfl⟩
  rw [av (by simpa using d3)]
  obtain ⟨t',w',m,e,e1,e2,m0,m1,e3,e4,e5,e6⟩:=ND (n:=n) hn r tt i (q:=a.bP) x2 x3
  have hm:wr .i64 m = m:=cz (by omega) (by omega)
  rw [ax e1,ax e2]
  refine ⟨t',w',by simp [hm],e3,e4,e5,?_⟩
  by_cases e0:e = 0
  · obtain ⟨f0,hf,QI,ha,hq,hd,rfl,rfl⟩:=e6.is e0
    refine ⟨fun x h=>p8 x h,fun x h=>?_⟩
    rcases (jF r.book hf QI x).1 h with h | h
    · exact .inl h
    · exact .inr (h ▸ xC r.book hf QI)
  · rw [e6.no e0]; exact Mv.book rfl
theorem yM (hn:200 ≤ n) (r:fE t w) (tt:hM w) (p:sM w o v) (hr:v.cO.length ≤ 108) {a:iF} (ha:IY a) :
    ∃o' v',mg n t w o v a = some (o',v',true)∧sM w o' v'∧v'.cO.length ≤ v.cO.length + 1:=by
  obtain ⟨_,hA,hB,hC,hQ⟩:=ha
  obtain ⟨x,x1,x2,x3⟩:=qI (n:=n) r hA.1 (by omega)
  have Ru:nU n w a.A = some x:=x1
  unfold mg
  rw [ax Ru,lt_eq,oG (x:=x) (by omega) (by omega)]
  by_cases d10:a.Do = 10
  · obtain ⟨o',v',e,q1,q2,q3,q4⟩:=BQ hn r tt p hr (task:=a.bP) (kind:=1) (tk:=a.bP) x2 x3 (.inl rfl) (by rw [if_neg (by decide)]) (x:={ Kind:=1,Task:=wr .u8 a.bP,cG:=0 }) (fun ht=>by
      have wq:wr .u8 a.bP = a.bP:=Nm ht.1 (by omega)
      rw [wq]
      exact ⟨⟨by dsimp only; decide,fun _=>rfl,fun h=>absurd rfl h,by dsimp only; decide,by dsimp only; omega⟩,⟨rfl,rfl,fun j _=>(D5 j).symm⟩⟩)
    have e1:gP n o t x a.bP = some (o',e):=by unfold gP; rw [lt_eq,ax q1]
    rw [aC (by simpa using d10),ax e1,ax q2]
    exact ⟨o',v',by simp,q3,q4⟩
  rw [av (by simpa using d10)]
  by_cases d11:a.Do = 11
  · obtain ⟨o',v',e,q1,q2,q3,q4⟩:=BQ hn r tt p hr (task:=a.bP) (kind:=2) (tk:=0) x2 x3 (.inr (.inl rfl)) (by rw [if_pos rfl]) (x:={ Kind:=2,Task:=0,cG:=0 }) (fun ht =>
      ⟨⟨by dsimp only; decide,fun _=>rfl,fun _=>rfl,by dsimp only; decide,by dsimp only; decide⟩,⟨rfl,rfl,fun j _=>(D5 j).symm⟩⟩)
    have e1:jZ n o t x = some (o',e):=by unfold jZ; rw [lt_eq,ax q1]
    rw [aC (by simpa using d11),ax e1,ax q2]
    exact ⟨o',v',by simp,q3,q4⟩
  rw [av (by simpa using d11)]
  by_cases d12:a.Do = 12
  · obtain ⟨o',v',e,q1,q2,q3,q4⟩:=BQ hn r tt p hr (task:=a.bP) (kind:=3) (tk:=a.bP) x2 x3 (.inr (.inr rfl)) (by rw [if_neg (by decide)]) (x:={ Kind:=3,Task:=0,cG:=mO a.bP }) (fun ht =>
      ⟨⟨by dsimp only; decide,fun h=>absurd rfl h,fun _=>rfl,Di _,by dsimp only; decide⟩,⟨rfl,rfl,fun j hj=>by
        show eG (fun _=>false) a.bP.toNat true j = vN (mO a.bP) j
        rw [Qi ht hj,cE]
        by_cases q:j = a.bP.toNat
        · rw [if_pos q,decide_eq_true q]
        · rw [if_neg q,decide_eq_false q]⟩⟩)
    have e1:gA n o t x a.bP = some (o',e):=by unfold gA; rw [ax (sV _),lt_eq,ax q1]
    rw [aC (by simpa using d12),ax e1,ax q2]
    exact ⟨o',v',by simp,q3,q4⟩
  rw [av (by simpa using d12)]
  by_cases d13:a.Do = 13
  · obtain ⟨o',m,v',e,q1,q2,_,q3,q4⟩:=FK hn r tt p hr (task:=a.bP) x2 x3 true
    have e1:iB n o t x a.bP = some (o',e):=by unfold iB; rw [ax q1]
    rw [aC (by simpa using d13),ax e1,ax q2]
    exact ⟨o',v',by simp,q3,q4⟩
  rw [av (by simpa using d13)]
  obtain ⟨o',m,v',e,q1,q2,hm,q3,q4⟩:=FK hn r tt p hr (task:=a.bP) x2 x3 false
  have e1:iD n o t x a.bP = some (o',m8 (vN m) 8,e):=by unfold iD; rw [ax q1,ax (GH hm.1 hm.2),Ed hm]
  rw [ax e1,ax q2]
  exact ⟨o',v',by simp,q3,q4⟩
theorem JF (hn:200 ≤ n) (r:fE t w) (tt:hM w) (p:sM w o v) (hr:v.cO.length ≤ 108):kH n t w o v = some true:=by
  have hlen:=fz w.B 32
  unfold kH
  rw [ax (vS (by omega) r)]
  refine iE (fun (i:Int)=>0 ≤ i∧i ≤ (ct w.B 32).length) (fun i=>(((ct w.B 32).length:Int) - i).toNat) (fun o=>o = some true) ?_ n 0 ⟨by omega,by omega⟩ (by omega)
  rintro kk i ⟨i0,i1⟩ ih
  by_cases c:i < (ct w.B 32).length
  · have hx:=(cr r.book _).1 (g6 (l:=ct w.B 32) (i:=i.toNat) (by omega))
    have g1:dO i (ct w.B 32).length = true:=cP i0 c
    generalize (ct w.B 32).getD i.toNat default = y at hx
    have hl:=fQ hx.2
    have hx0:0 ≤ y:=hx.1
    have qA:=tg r tt p hx.1
    have hg:=oO p.q y
    rw [aC (decide_eq_true c),aF g1,oG (x:=y) (by omega) (by omega),ax (vV (by omega) r tt hx.1 hl),aF g1,ax (yR hn r tt p.l hr hx.1)]
    refine (NB (qz w v y).gp _ (by omega)).trans ?_
    have hk:=hg.k
    have ht:=hg.tr
    rw [AJ 8 qA.h,GK hg.hr,cz (x:=(nT w o y).Kind) (by omega) (by omega),cz (x:=(nT w o y).Task) (by omega) (by omega),cz (x:=i + 1) (by omega) (by omega),av (by simp [qA.k,qA.t])]
    exact ih _ ⟨by omega,by omega⟩ (by omega)
  · rw [av (decide_eq_false c)]
def pV (task:Int) (holds:Bool) (y:bW):Bool:=((!holds) && ((y.Kind == 1) && (y.Task == task))) || (holds && ((((y.Kind == 3) && decide (0 ≤ task)) && decide (task < 8)) && (y.gp (Int.toNat (kN .i64 task 7)))))
theorem BI (hn:200 ≤ n) (r:fE t w) (tt:hM w) (p:sM w o v) (hr:v.cO.length ≤ 108) (task:Int) (holds:Bool) :
    fW n v w task holds = some ((Gw w).filter fun h=>(cS w h == h) && pV task holds (qz w v h)):=by
  have hm:=cr r.book
  have hlen:=fz w.B 32
  have PG:Gw w = ct w.B 32:=rfl
  unfold fW
  rw [ax (vS (by omega) r),PG]
  generalize ct w.B 32 = G at hm hlen ⊢
  refine eD (fun (s:List Int) (i:Int)=>∃k:Nat,i = k∧k ≤ G.length∧s = (G.take k).filter fun h=>(cS w h == h) && pV task holds (qz w v h)) (fun _ i=>G.length - i.toNat) (fun q=>q = some (G.filter fun h=>(cS w h == h) && pV task holds (qz w v h))) ?_ n [] 0 ⟨0,rfl,by omega,by simp⟩ (by omega)
  rintro kk s i ⟨k,rfl,hk,rfl⟩ ih
  by_cases c:k < G.length
  · have hx:=(hm _).1 (g6 (l:=G) (i:=k) c)
    have ht:(G.take (k + 1)).filter (fun h=>(cS w h == h) && pV task holds (qz w v h)) = (G.take k).filter (fun h=>(cS w h == h) && pV task holds (qz w v h))++(if ((cS w (G.getD k default) == G.getD k default) && pV task holds (qz w v (G.getD k default))) = true then [G.getD k default] else []):=by
      rw [List.take_succ_eq_append_getElem c,List.filter_append,← fj c]
      generalize G.getD k default = y
      cases hy:((cS w y == y) && pV task holds (qz w v y)) <;> simp [hy]
    have MY:((G.take k).filter (fun h=>(cS w h == h) && pV task holds (qz w v h))).length ≤ 32:=Nat.le_trans (List.length_filter_le _ _) (by rw [List.length_take]; omega)
    have g1:dO (k:Int) G.length = true:=cP (by omega) (by omega)
    simp only [Int.toNat_natCast]
    generalize G.getD k default = y at hx ht ⊢
    have a7:=Mr task
    have g2:dO (kN .i64 task 7) 8 = true:=cP a7.1 (by omega)
    rw [aC (decide_eq_true (by omega)),aF g1,ax (yR hn r tt p.l hr hx.1),aF (by rw [g2]; simp),aF g1,ax (tn hn r tt hx.1),aF g1,cz (x:=(k:Int) + 1) (by omega) (by omega)]
    cases hp:((cS w y == y) && pV task holds (qz w v y)) with
    | true =>
      rw [hp] at ht
      refine (aC hp).trans ?_
      rw [aF g1,aF (iY (by omega) (by omega)),lt_eq]
      exact ih _ _ ⟨k + 1,by omega,by omega,by rw [ht]; simp⟩ (by omega)
    | false =>
      rw [hp] at ht
      refine (av hp).trans ?_
      exact ih _ _ ⟨k + 1,by omega,by omega,by rw [ht]; simp⟩ (by omega)
  · rw [av (decide_eq_false (by omega)),List.take_of_length_le (by omega)]
theorem HE (hn:100 ≤ n) (r:fE t w) (tt:hM w) (k:Int):iC n o t k = some ((Gw w).filter fun h=>(cS w h == h) && xT k (mO k) (nT w o h)):=by
  unfold iC dW
  rw [ax (Ir (by omega) r)]
  exact ax (BH (o:=o) hn r tt (fun x=>iy n x k) (xT k (mO k)) (fun x=>by unfold iy xT; rw [dD (sV k)]))
theorem Iq {k:Int} (h:0 ≤ k∧k < 8):kN .i64 k 7 = k:=by
  obtain ⟨c,rfl⟩:=zQ h
  revert c; decide
theorem GA (r:fE t w) (tt:hM w) (p:sM w o v) (k:Int):((Gw w).filter fun h=>(cS w h == h) && pV k false (qz w v h)) = (Gw w).filter fun h=>(cS w h == h) && (((nT w o h).Kind == 1) && ((wr .i64 (nT w o h).Task) == k)):=by
  refine List.filter_congr fun h hh=>?_
  have hx:=(cr r.book _).1 hh
  have qA:=tg r tt p hx.1
  have hg:=(oO p.q h).tr
  unfold pV
  rw [qA.k,qA.t,cz (x:=(qz w v h).Task) (by rw [← qA.t]; omega) (by rw [← qA.t]; omega)]
  simp
theorem HF (r:fE t w) (tt:hM w) (p:sM w o v) (k:Int):((Gw w).filter fun h=>(cS w h == h) && pV k true (qz w v h)) = (Gw w).filter fun h=>(cS w h == h) && xT k (mO k) (nT w o h):=by
  refine List.filter_congr fun h hh=>?_
  have hx:=(cr r.book _).1 hh
  have qA:=tg r tt p hx.1
  have hg:=(oO p.q h).hr
  unfold pV xT
  rw [← qA.k]
  by_cases hc:((((nT w o h).Kind == 3) && decide (0 ≤ k)) && decide (k < 8)) = true
  · have hk:0 ≤ k∧k < 8:=by simp at hc; omega
    rw [hc,show (bif (true == true) then mO k else default) = mO k from rfl,Ly hg hk,Iq hk,qA.h k.toNat (by omega)]
    simp
  · have hc:((((nT w o h).Kind == 3) && decide (0 ≤ k)) && decide (k < 8)) = false:=by simpa using hc
    rw [hc]; simp
theorem JI (hn:100 ≤ n) {l:List Int} (hl:l.length ≤ 40) (hr:∀x ∈ l,0 ≤ x∧x < 4294967296):nw n l l = some true:=JJ hn hl hr
end
theorem B3:sM fk cB gJ:=by
  refine ⟨⟨fun i _=>zX,fun i _=>.inl rfl⟩,rfl,fun x h=>(by cases h),fun h _=>?_⟩
  have:sD cB h = tv:=by unfold sD; split <;> rfl
  rw [this]; exact BW
theorem xB {l:List iF} (hl:∀a ∈ l,IY a) {task:Int} (_:-9223372036854775808 ≤ task∧task ≤ 9223372036854775807) {ask:Int} (Lx:0 ≤ ask∧ask ≤ 4294967295):j0 1000 l task ask = some true:=by
  unfold j0
  by_cases hc:100 < l.length
  · rw [aC (decide_eq_true (by omega)),ax zO]
  rw [av (decide_eq_false (by omega))]
  refine AO (fun (i:Int) (v:aK) (o:bO) (w:ah) (t:aq)=>∃k:Nat,i = k∧k ≤ l.length∧fE t w∧hM w∧qC w∧sM w o v∧v.cO.length ≤ k) (fun i _ _ _ _=>((l.length:Int) - i).toNat) (fun o=>o = some true) ?_ 1000 0 _ _ _ _ ⟨0,rfl,by omega,Fg.1,Fg.2,Cp,B3,Nat.le_refl _⟩ (by omega)
  rintro kk i v o w t ⟨k,rfl,hk,r,tt,iv,p,hr⟩ ih
  by_cases hx:k < l.length
  · have hm:=hl _ (g6 (l:=l) (i:=k) hx)
    have g1:dO (k:Int) l.length = true:=cP (by omega) (by omega)
    rw [aC (decide_eq_true (by omega)),lt_eq,aF g1,Int.toNat_natCast]
    generalize l.getD k default = a at *
    have I5:∀v' o' w' t',fE t' w'→hM w'→qC w'→sM w' o' v'→v'.cO.length ≤ k + 1→(cl ((!true) == false) (kH 1000 t' w' o' v') default fun yB=>cn ((!true) || (!yB)) (some false) (kk (wr .i64 ((k:Int) + 1)) v' o' w' t')) = some true:=fun v' o' w' t' r' MU N1 p' hr'=>by
      refine (jk (by rfl) (JF (by omega) r' MU p' (by omega))).trans ?_
      rw [av (by rfl),cz (by omega) (by omega)]
      exact ih _ _ _ _ _ ⟨k + 1,by omega,by omega,r',MU,N1,p',hr'⟩ (by omega)
    by_cases d9:9 < a.Do
    · obtain ⟨o',v',e,p',hr'⟩:=yM (n:=1000) (by omega) r tt p (by omega) hm
      rw [aC (decide_eq_true d9),aF g1,ax e]
      exact I5 v' o' w t r tt iv p' (by omega)
    · obtain ⟨t',w',e,r',MU,N1,mv⟩:=LX (n:=1000) (by omega) r tt iv hm
      rw [av (decide_eq_false d9),aF g1,ax e]
      exact I5 v o w' t' r' MU N1 (p.mv mv) (by omega)
  · have fl:∀f:Int→Bool,((Gw w).filter f).length ≤ 40:=fun f=>Nat.le_trans (List.length_filter_le _ _) (Nat.le_trans (fz _ _) (by decide))
    have fr:∀f:Int→Bool,∀x ∈ (Gw w).filter f,0 ≤ x∧x < 4294967296:=fun f x hx=>by
      have:=(cr r.book x).1 (List.mem_filter.1 hx).1
      exact ⟨this.1,fQ this.2⟩
    have ha:(bt w.B ask || cD (bif (bt w.B ask == false) then nT w o ask else default) { Kind:=0,Task:=0,cG:=0 }) = true:=by
      cases hg:bt w.B ask with
      | true=>rfl
      | false =>
        have:nT w o ask = tv:=by unfold nT; rw [if_neg (fun q=>by rw [hg] at q; cases q.1)]
        rw [this]; rfl
    rw [av (decide_eq_false (by omega)),cz (x:=ask) (by omega) (by omega),ax (cg (by omega) r Lx.1),dD (vV (by omega) r tt Lx.1 (by omega)),lt_eq,ha]
    refine (jk (by rfl) (BV (by omega) r tt task)).trans ((jk (by rfl) ((BI (by omega) r tt p (by omega) task false).trans (congrArg some (GA r tt p task)))).trans ((jk (by rfl) (JI (by omega) (fl _) (fr _))).trans ?_))
    refine (jk (by rfl) (HE (by omega) r tt task)).trans ((jk (by rfl) ((BI (by omega) r tt p (by omega) task true).trans (congrArg some (HF r tt p task)))).trans ((jk (by rfl) (JI (by omega) (fl _) (fr _))).trans ?_))
    exact (jk (by rfl) zO).trans (by rfl)
end Go.Proofs.YtmdpbdhkmfjlhaaGreat
