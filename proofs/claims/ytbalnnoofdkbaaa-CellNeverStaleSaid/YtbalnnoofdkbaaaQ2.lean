/- Part 2 of what a proof leans on; pruned and shortened by a program out of longer texts. -/
import Derived.Test.YtbalnnoofdkbaaaQ1
namespace Go.Proofs.Ytbalnnoofdkbaaa
open Go Go.Bw
structure fU where
 gen:Int
 gI:Bool
 retired:Bool
abbrev bk:aQ fU:=aQ.via (LP (LI .u32) (LP LB LB)) (fun x=>(x.gen,x.gI,x.retired))
abbrev l8:fU:=⟨0,false,false⟩
theorem eW:bf bk (LI .u32) 0 (fun x=>x.gen) (fun x v=>{ x with gen:=v }):=(bf.fst bf.id).via _ _ _ 0 rfl (fun _=>rfl) (fun _ _=>rfl)
theorem eV:bf bk LB 1 (fun x=>x.gI) (fun x v=>{ x with gI:=v }):=(bf.snd (bf.fst bf.id)).via _ _ _ 1 rfl (fun _=>rfl) (fun _ _=>rfl)
theorem ic:bf bk LB 2 (fun x=>x.retired) (fun x v=>{ x with retired:=v }):=(bf.snd (bf.snd bf.id)).via _ _ _ 2 rfl (fun _=>rfl) (fun _ _=>rfl)
def jJ (x y:fU):Bool:=x.gen == y.gen && x.gI == y.gI && x.retired == y.retired
theorem ou (x y:fU):Value.bool (uF [(0,some .u32),(1,none),(2,none)] (bk.enc x) (bk.enc y)) = .bool (jJ x y):=congrArg Value.bool (by show ((x.gen == y.gen) && ((x.gI == y.gI) && ((x.retired == y.retired) && true))) = (x.gen == y.gen && x.gI == y.gI && x.retired == y.retired); simp [Bool.and_assoc])
structure bg where
 slots:(Nat→fU)
abbrev aA:aQ bg:=aQ.via (LA bk 32) (fun x=>x.slots)
abbrev fG:bg:=⟨(fun _=>l8)⟩
theorem bV:bf aA (LA bk 32) 0 (fun x=>x.slots) (fun x v=>{ x with slots:=v }):=bf.id.via _ _ _ 0 rfl (fun _=>rfl) (fun _ _=>rfl)
def jr (n:Nat) (a0:Int) (a1:Int):Option Int:=
 some (wr .u32 ((wr .u32 ((zn .u32 a1 8) + (wr .u32 a0))) + 1))
theorem n5 {n a0 a1 r}  (h:jr n a0 a1 = some r):yW Try.prog 79 [.int .i64 a0, .int .u32 a1] (.int .u32 r):=by
 unfold jr at h
 refine eF Try.func79 (by kernel_rfl) rfl Try.ntmps79 rfl (fun cx cU hpre hro=>?_)
 refine SC 8 rf ?_
 refine ah rfl (Av rfl rfl (by decide)) ?_
 refine SL 8 rf ?_
 have h:=sj h; subst h
 exact RV rf (rt rf rn) rf
def bB (n:Nat) (a0:Int):Option (Int × Bool):=
 cn (((decide ((wr .i64 ((wr .i64 (tu .u32 a0 255)) - 1)) < 0) || decide (32 ≤ (wr .i64 ((wr .i64 (tu .u32 a0 255)) - 1)))) || decide (8388607 < (tT .u32 a0 8)))) (
 some (0,false)) (
 some (wr .i64 ((wr .i64 (tu .u32 a0 255)) - 1),true))
theorem cv {n a0 r}  (h:bB n a0 = some r):yW Try.prog 57 [.int .u32 a0] (.tuple #[.int .i64 r.1, .bool r.2]):=by
 unfold bB at h
 refine eF Try.func57 (by kernel_rfl) rfl Try.ntmps57 rfl (fun cx cU hpre hro=>?_)
 refine SC 9 rf ?_
 refine ah rfl (AA rfl rfl) ?_
 refine SL 11 rf ?_
 refine GB rf rf rf (fun hb=>ak rfl) ?_
 refine GB rf rf rf (fun hb=>lE (cT rfl hb) rfl) ?_
 refine ah rfl (fC rfl rfl) ?_
 refine ah rfl (ak rfl) ?_
 refine GB rf rf rf (fun hb=>ak rfl) ?_
 refine GB rf rf rf (fun hb=>vz (cT rfl hb) rfl (by decide)) ?_
 refine GB rf rf rf (fun hb=>uT (cT rfl hb) rfl) ?_
 refine ah rfl (fC rfl rfl) ?_
 refine SL 2 rf ?_
 refine jc h rf (fun hc h=>?_) fun hc h=>?_
 ·
  refine SC 8 rf ?_
  have h:=sj h; subst h
  exact RV rf (rt rf (rt rf rn)) rf
 ·
  refine SC 10 rf ?_
  have h:=sj h; subst h
  exact RV rf (rt rf (rt rf rn)) rf
def aO (n:Nat) (a0:bg) (a1:Int):Option Bool:=
 bd (bB n a1) fun bu =>
 gu (!(bu.2 == true) || dB bu.1 32) <|
 lt ({ gen:=tT .u32 a1 8,gI:=true,retired:=false }:fU) fun kq =>
 some (bu.2 && (jJ (a0.slots (Int.toNat bu.1)) kq))
theorem aS {n a0 a1 r}  (h:aO n a0 a1 = some r):yW Try.prog 35 [.agg (aA.enc a0).toArray, .int .u32 a1] (.bool r):=by
 unfold aO at h
 refine eF Try.func35 (by kernel_rfl) rfl Try.ntmps35 rfl (fun cx cU hpre hro=>?_)
 refine SC 2 rf ?_
 refine W1 rf (fz aA a0 rfl rfl) fun b2=>?_
 obtain ⟨bu,cS,h⟩:=bM h
 refine SL 6 rf ?_
 refine CV (cv cS) rf rf ?_
 obtain ⟨po,h⟩:=eX h
 obtain ⟨kq,nq,h⟩:=dj h
 refine SL 11 rf ?_
 refine GB rf rf rf (fun hb=>ak rfl) ?_
 refine GB rf rf rf (fun hb=>aK rfl) ?_
 refine GB rf rf rf (fun hb=>kj (m:=(Int.toNat bu.1)) (cT rfl hb) (cT rfl hb) (aV (mL po hb)).1 (aV (mL po hb)).2) ?_
 refine GB rf rf rf (fun hb=>eC (M:=bk) (bV.c0 (bf.idx (L:=bk) (m:=32) (k:=3) ((Int.toNat bu.1)) (aV (mL po hb)).2 rfl)) (cT rfl hb) rfl) ?_
 refine GB rf rf rf (fun hb=>ak rfl) ?_
 refine GB rf rf rf (fun hb=>vz (cT rfl hb) rfl (by decide)) ?_
 refine GB rf rf rf (fun hb=>iS (cs:=bk.enc kq) (bJ (cT rfl hb) (bJ rfl rfl)) (by rw [nq]; rfl)) ?_
 refine GB rf rf rf (fun hb=>yK (Aw (cs:=bk.enc (a0.slots (Int.toNat bu.1))) (ds:=bk.enc kq) (cT rfl hb) (cT rfl hb) rfl rfl) (ou _ _)) ?_
 refine ah rfl (ec rfl rfl) ?_
 refine SL 4 rf ?_
 have h:=sj h; subst h
 exact RV rf (rt rf rn) rf
def fV (n:Nat) (a0:bg) (a1:Int):Option (Int × Bool):=
 gu (!((decide (a1 < 0) || decide (32 ≤ a1)) == false) || dB a1 32) <|
 cn (((decide (a1 < 0) || decide (32 ≤ a1)) || (!((a0.slots (Int.toNat a1)).gI)))) (
 some (0,false)) (
 gu (dB a1 32) <|
 bd (jr n a1 ((a0.slots (Int.toNat a1)).gen)) fun kq =>
 some (kq,true))
theorem nG {n a0 a1 r}  (h:fV n a0 a1 = some r):yW Try.prog 69 [.agg (aA.enc a0).toArray, .int .i64 a1] (.tuple #[.int .u32 r.1, .bool r.2]):=by
 unfold fV at h
 refine eF Try.func69 (by kernel_rfl) rfl Try.ntmps69 rfl (fun cx cU hpre hro=>?_)
 refine SC 2 rf ?_
 refine W1 rf (fz aA a0 rfl rfl) fun b2=>?_
 obtain ⟨CM,h⟩:=eX h
 refine SL 10 rf ?_
 refine GB rf rf rf (fun hb=>ak rfl) ?_
 refine GB rf rf rf (fun hb=>lE (cT rfl hb) rfl) ?_
 refine ah rfl (fC rfl rfl) ?_
 refine ah rfl (ak rfl) ?_
 refine GB rf rf rf (fun hb=>ak rfl) ?_
 refine GB rf rf rf (fun hb=>aK rfl) ?_
 refine GB rf rf rf (fun hb=>kj (m:=(Int.toNat a1)) (cT rfl hb) (cT rfl hb) (aV (mL CM hb)).1 (aV (mL CM hb)).2) ?_
 refine GB rf rf rf (fun hb=>jH (cT rfl hb)) ?_
 refine GB rf rf rf (fun hb=>mC ((bV.c0 (bf.idx (L:=bk) (m:=32) (k:=3) ((Int.toNat a1)) (aV (mL CM hb)).2 rfl)).comp eV) (cT rfl hb)) ?_
 refine GB rf rf rf (fun hb=>iu (cT rfl hb)) ?_
 refine ah rfl (fC rfl rfl) ?_
 refine SL 2 rf ?_
 refine jc h rf (fun hc h=>?_) fun hc h=>?_
 ·
  refine SC 8 rf ?_
  have h:=sj h; subst h
  exact RV rf (rt rf (rt rf rn)) rf
 ·
  obtain ⟨po,h⟩:=eX h
  obtain ⟨kq,nq,h⟩:=bM h
  refine SC 7 rf ?_
  refine ah rfl (kj (m:=(Int.toNat a1)) rfl rfl (aV po).1 (aV po).2) ?_
  refine ah rfl (jH rfl) ?_
  refine ah rfl (bD ((bV.c0 (bf.idx (L:=bk) (m:=32) (k:=3) ((Int.toNat a1)) (aV po).2 rfl)).comp eW) rfl) ?_
  refine CV (n5 nq) rf rf ?_
  refine SL 5 rf ?_
  have h:=sj h; subst h
  exact RV rf (rt rf (rt rf rn)) rf
def dS (n:Nat) (a0:bg):Option (bg × Int × Bool):=
 dk (fun v5 (cZ:Int) =>
 cn (decide (cZ < 32)) (
 gu (dB cZ 32) <|
 lt ((a0.slots (Int.toNat cZ)):fU) fun de =>
 cn ((de.gI || de.retired)) (
 v5 (wr .i64 (cZ + 1))) (
 gu (dB cZ 32) <|
 lt ({ a0 with slots:=(dI a0.slots (Int.toNat cZ) ({ (a0.slots (Int.toNat cZ)) with gI:=true })) }:bg) fun eo =>
 bd (jr n cZ de.gen) fun bW =>
 some (eo,bW,true))) (
 some (a0,0,false))) n 0
theorem lU {n a0 r}  (h:dS n a0 = some r):yW Try.prog 68 [.agg (aA.enc a0).toArray] (.tuple #[.agg (aA.enc r.1).toArray, .int .u32 r.2.1, .bool r.2.2]):=by
 unfold dS at h
 refine eF Try.func68 (by kernel_rfl) rfl Try.ntmps68 rfl (fun cx cU hpre hro=>?_)
 refine SC 2 rf ?_
 refine W1 rf (fz aA a0 rfl rfl) fun b1=>?_
 refine W1 rf (cL (L:=aA) (z:=fG) ⟨by kernel_rfl⟩) fun b2=>?_
 refine SL 8 rf ?_
 refine ah rfl (eC (M:=(LA bk 32)) bV rfl rfl) ?_
 refine SL 4 rf ?_
 obtain ⟨B3,xU,h⟩:=nW h
 refine LO (β:=Int) [1,2,8] [0,1] (fun (xD,cZ)=>[(9, .int .i64 cZ)]) (fun (xD,cZ)=>[.cells b2 29 (aA.enc fG), .cells b1 29 (aA.enc a0)]) (fun (xD,cZ)=>dk B3 xD cZ = some r) (n,0) h rf rf rf ?_
 rintro xD cZ h
 replace h:=nV xU h; obtain ⟨xD,rfl,h⟩:=h
 refine SC 6 rf ?_
 refine jc h rf (fun hc h=>?_) fun hc h=>?_
 ·
  obtain ⟨wj,h⟩:=eX h
  obtain ⟨de,nn,h⟩:=dj h
  refine SC 7 rf ?_
  refine ah rfl (Dy (L:=bk) (m:=(Int.toNat cZ)) rfl rfl (aV wj).1 (aV wj).2 rfl rfl) ?_
  refine W1 rf (cL (L:=bk) (z:=l8) ⟨by kernel_rfl⟩) fun b6=>?_
  refine ah rfl (aP rfl) ?_
  refine W0 (dx (M:=bk) (bf.id (L:=bk)) (a0.slots (Int.toNat cZ)) de nn rfl rfl rfl rfl) ?_
  refine SL 6 rf ?_
  refine ah rfl (mC eV rfl) ?_
  refine ah rfl (ak rfl) ?_
  refine GB rf rf rf (fun hb=>aK rfl) ?_
  refine GB rf rf rf (fun hb=>mC ic (cT rfl hb)) ?_
  refine ah rfl (fC rfl rfl) ?_
  refine SL 2 rf ?_
  refine jc h rf (fun hc h=>?_) fun hc h=>?_
  ·
   refine SC 8 rf ?_
   exact LN [1,2] (wr .i64 (cZ + 1)) h rf rf rf
  ·
   obtain ⟨uu,h⟩:=eX h
   obtain ⟨eo,uj,h⟩:=dj h
   refine SC 6 rf ?_
   refine ah rfl (kj (m:=(Int.toNat cZ)) rfl rfl (aV uu).1 (aV uu).2) ?_
   refine ah rfl (jH rfl) ?_
   refine W0 (dx (M:=LB) ((bV.c0 (bf.idx (L:=bk) (m:=32) (k:=3) ((Int.toNat cZ)) (aV uu).2 rfl)).comp eV) true eo uj rfl rfl rfl rfl) ?_
   refine SL 3 rf ?_
   obtain ⟨bW,pY,h⟩:=bM h
   refine g8 mixed (.oQ [] [(0,[1]),(1,[5]),(2,[6]),(3,[25]),(4,[24,26])] (.alt 5 [2,23] (.oQ [] [] (.alt 6 [27] (.oQ [] [] (.alt 7 [] (.fin [] []) .no)) .no)) .no)) (by kernel_rfl) ?_
   refine T0 ?_
   refine NV rf rf (eC (M:=aA) (bf.id (L:=aA)) rfl rfl) ?_
   refine NS 2 rf ?_
   refine NV rf rf (bD eW rfl) ?_
   refine NC rf rf (n5 pY) rf ?_
   refine gl ?_
   refine X0 rf (dx (M:=aA) (bf.id (L:=aA)) eo eo rfl rfl rfl rfl rfl) ?_
   refine KR ?_
   refine XV rf rf (aP rfl) ?_
   refine KR ?_
   refine XV rf rf (aP rfl) ?_
   refine AO ?_
   refine SX 7 rf ?_
   have h:=sj h; subst h
   exact RV rf (ra rf (bF _ _) (rt rf (rt rf rn))) rf
 ·
  refine SC 7 rf ?_
  refine ah rfl (eC (M:=aA) (bf.id (L:=aA)) rfl rfl) ?_
  refine W0 (dx (M:=aA) (bf.id (L:=aA)) a0 a0 rfl rfl rfl rfl rfl) ?_
  refine SL 5 rf ?_
  have h:=sj h; subst h
  exact RV rf (ra rf (bF _ _) (rt rf (rt rf rn))) rf
def fg (n:Nat) (a0:bg) (a1:Int):Option (bg × Bool):=
 bd (aO n a0 a1) fun bu =>
 cn ((!bu)) (
 some (a0,false)) (
 bd (bB n a1) fun cZ =>
 gu (dB cZ.1 32) <|
 lt ({ a0 with slots:=(dI a0.slots (Int.toNat cZ.1) ({ (a0.slots (Int.toNat cZ.1)) with gI:=false })) }:bg) fun qk =>
 cn ((((qk.slots (Int.toNat cZ.1)).gen) == 8388607)) (
 lt ({ qk with slots:=(dI qk.slots (Int.toNat cZ.1) ({ (qk.slots (Int.toNat cZ.1)) with retired:=true })) }:bg) fun lK =>
 some (lK,true)) (
 lt ({ qk with slots:=(dI qk.slots (Int.toNat cZ.1) ({ (qk.slots (Int.toNat cZ.1)) with gen:=wr .u32 (((qk.slots (Int.toNat cZ.1)).gen) + 1) })) }:bg) fun fL =>
 some (fL,true)))
theorem mA {n a0 a1 r}  (h:fg n a0 a1 = some r):yW Try.prog 64 [.agg (aA.enc a0).toArray, .int .u32 a1] (.tuple #[.agg (aA.enc r.1).toArray, .bool r.2]):=by
 unfold fg at h
 refine eF Try.func64 (by kernel_rfl) rfl Try.ntmps64 rfl (fun cx cU hpre hro=>?_)
 refine SC 2 rf ?_
 refine W1 rf (fz aA a0 rfl rfl) fun b2=>?_
 refine W1 rf (cL (L:=aA) (z:=fG) ⟨by kernel_rfl⟩) fun b4=>?_
 obtain ⟨bu,cS,h⟩:=bM h
 refine SL 6 rf ?_
 refine ah rfl (eC (M:=aA) (bf.id (L:=aA)) rfl rfl) ?_
 refine ah rfl (ak rfl) ?_
 refine CV (aS cS) rf rf ?_
 refine SL 3 rf ?_
 refine jc h rf (fun hc h=>?_) fun hc h=>?_
 ·
  refine SC 2 rf ?_
  refine ah rfl (eC (M:=aA) (bf.id (L:=aA)) rfl rfl) ?_
  refine W0 (dx (M:=aA) (bf.id (L:=aA)) a0 a0 rfl rfl rfl rfl rfl) ?_
  refine SL 5 rf ?_
  have h:=sj h; subst h
  exact RV rf (ra rf (bF _ _) (rt rf rn)) rf
 ·
  obtain ⟨cZ,kQ,h⟩:=bM h
  refine SC 5 rf ?_
  refine CV (cv kQ) rf rf ?_
  obtain ⟨uv,h⟩:=eX h
  refine SL 11 rf ?_
  refine ah rfl (kj (m:=(Int.toNat cZ.1)) rfl rfl (aV uv).1 (aV uv).2) ?_
  obtain ⟨qk,Cn,h⟩:=dj h
  refine SL 8 rf ?_
  refine W0 (dx (M:=LB) ((bV.c0 (bf.idx (L:=bk) (m:=32) (k:=3) ((Int.toNat cZ.1)) (aV uv).2 rfl)).comp eV) false qk Cn rfl rfl rfl rfl) ?_
  refine SL 8 rf ?_
  refine ah rfl (bD ((bV.c0 (bf.idx (L:=bk) (m:=32) (k:=3) ((Int.toNat cZ.1)) (aV uv).2 rfl)).comp eW) rfl) ?_
  refine SL 3 rf ?_
  refine jc h rf (fun hc h=>?_) fun hc h=>?_
  ·
   obtain ⟨lK,o9,h⟩:=dj h
   refine SC 4 rf ?_
   refine W0 (dx (M:=LB) ((bV.c0 (bf.idx (L:=bk) (m:=32) (k:=3) ((Int.toNat cZ.1)) (aV uv).2 rfl)).comp ic) true lK o9 rfl rfl rfl rfl) ?_
   refine SL 4 rf ?_
   refine ah rfl (eC (M:=aA) (bf.id (L:=aA)) rfl rfl) ?_
   refine W0 (dx (M:=aA) (bf.id (L:=aA)) lK lK rfl rfl rfl rfl rfl) ?_
   refine SL 4 rf ?_
   have h:=sj h; subst h
   exact RV rf (ra rf (bF _ _) (rt rf rn)) rf
  ·
   obtain ⟨fL,um,h⟩:=dj h
   refine SC 4 rf ?_
   refine ah rfl (bD ((bV.c0 (bf.idx (L:=bk) (m:=32) (k:=3) ((Int.toNat cZ.1)) (aV uv).2 rfl)).comp eW) rfl) ?_
   refine SL 3 rf ?_
   refine W0 (dx (M:=(LI .u32)) ((bV.c0 (bf.idx (L:=bk) (m:=32) (k:=3) ((Int.toNat cZ.1)) (aV uv).2 rfl)).comp eW) (wr .u32 (((qk.slots (Int.toNat cZ.1)).gen) + 1)) fL um rfl rfl rfl rfl) ?_
   refine SL 4 rf ?_
   refine ah rfl (eC (M:=aA) (bf.id (L:=aA)) rfl rfl) ?_
   refine W0 (dx (M:=aA) (bf.id (L:=aA)) fL fL rfl rfl rfl rfl rfl) ?_
   refine SL 4 rf ?_
   have h:=sj h; subst h
   exact RV rf (ra rf (bF _ _) (rt rf rn)) rf
def ew (n:Nat) (a0:bg):Option (List Int):=
 dF (fun xF (de:(List Int)) (bW:Int) =>
 cn (decide (bW < 32)) (
 bd (fV n a0 bW) fun jq =>
 cn (jq.2) (
 gu (jY de.length 1 4) <|
 lt (de++([jq.1]):List Int) fun gR =>
 xF gR (wr .i64 (bW + 1))) (
 xF de (wr .i64 (bW + 1)))) (
 some de)) n ([]) 0
theorem lA {n a0 r}  (h:ew n a0 = some r):Bw.Fn (α:=Value) Try.prog 49 [.agg (aA.enc a0).toArray] (fun _=>True) [] (fun v=>jU v r.length) (fun v=>v) (fun v=>[Row v 32 1 (LI .u32) r]):=by
 unfold ew at h
 refine eF Try.func49 (by kernel_rfl) rfl Try.ntmps49 rfl (fun cx cU hpre hro=>?_)
 refine SC 2 rf ?_
 refine W1 rf (fz aA a0 rfl rfl) fun b1=>?_
 refine SL 15 rf ?_
 refine rY 32 1 (LI .u32) ?_
 obtain ⟨B2,xT,h⟩:=qI h
 refine LO (β:=(List Int) × Int × Value) [1] [0,1] (fun (m32,de,bW,yZ)=>[(3,yZ),(7, .int .i64 bW)]) (fun (m32,de,bW,yZ)=>[Row yZ 32 1 (LI .u32) de, .cells b1 29 (aA.enc a0)]) (fun (m32,de,bW,yZ)=>jU yZ de.length∧dF B2 m32 de bW = some r) (n,[],0, .slice none 0 0) ⟨⟨_,_,rfl⟩,h⟩ rf rf rf ?_
 rintro m32 ⟨de,bW,yZ⟩ ⟨nr,h⟩
 replace h:=qH xT h; obtain ⟨m32,rfl,h⟩:=h
 refine SC 6 rf ?_
 refine jc h rf (fun hc h=>?_) fun hc h=>?_
 ·
  obtain ⟨jq,rC,h⟩:=bM h
  refine SC 12 rf ?_
  refine ah rfl (eC (M:=aA) (bf.id (L:=aA)) rfl rfl) ?_
  refine ah rfl (ak rfl) ?_
  refine CV (nG rC) rf rf ?_
  refine SL 12 rf ?_
  refine jc h rf (fun hc h=>?_) fun hc h=>?_
  ·
   obtain ⟨nw,h⟩:=eX h
   obtain ⟨gR,lq,h⟩:=dj h
   refine SC 3 rf ?_
   refine cu rfl (mE (LI .u32) jq.1 rfl rfl rfl rfl (by decide) (by decide)) (fun Np _=>?_)
   refine cu rfl (lQ (sz:=1) (L:=(LI .u32)) (xs:=de) (y:=jq.1) (bytes:=4) rfl rfl rfl (g5 nw).1 (g5 nw).2) (fun BF pZ=>?_)
   rw [← lq] at pZ; rw [← lq]
   refine SL 8 rf ?_
   exact LN [1,2] (gR,wr .i64 (bW + 1),BF) ⟨pZ,h⟩ rf rf rf
  ·
   refine SC 7 rf ?_
   exact LN [0,1] (de,wr .i64 (bW + 1),yZ) ⟨nr,h⟩ rf rf rf
 ·
  refine SC 12 rf ?_
  have h:=sj h; subst h
  exact cg yZ rfl (.tmp rfl .nil) nr rfl (ks:=[0]) rfl (by decide)
end Go.Proofs.Ytbalnnoofdkbaaa
namespace Go.Proofs.Ytbalnnoofdkbaaa
open Go Go.Bw
structure aC where
 gD:(Nat→Int)
 Is:(Nat→Int)
abbrev rW:aC:=⟨(fun _=>0),(fun _=>0)⟩
def gq (n:Nat) (a0:aC) (a1:Int):Option Int:=
 gu (dB a1 32) <|
 some (wr .i64 ((wr .i64 (a1 + (wr .i64 (256 * (a0.gD (Int.toNat a1)))))) + 1))
def bE (n:Nat) (a0:aC) (a1:Int):Option Int:=
 dk (fun v5 (cZ:Int) =>
 cn (decide (cZ < 32)) (
 gu (dB cZ 32) <|
 cl (((a0.Is (Int.toNat cZ)) == 1) == true) (gq n a0 cZ) default fun de =>
 cn ((((a0.Is (Int.toNat cZ)) == 1) && (de == a1))) (
 some cZ) (
 v5 (wr .i64 (cZ + 1)))) (
 some (-1))) n 0
def gF (n:Nat) (a0:aC) (a1:Int):Option (aC × Bool):=
 bd (bE n a0 a1) fun bu =>
 cn (decide (bu < 0)) (
 some (a0,false)) (
 gu (dB bu 32) <|
 lt ({ a0 with Is:=(dI a0.Is (Int.toNat bu) 0) }:aC) fun kq =>
 gu (dB bu 32) <|
 cn (((kq.gD (Int.toNat bu)) == 8388607)) (
 gu (dB bu 32) <|
 lt ({ kq with Is:=(dI kq.Is (Int.toNat bu) 2) }:aC) fun fL =>
 some (fL,true)) (
 gu (dB bu 32) <|
 gu (dB bu 32) <|
 lt ({ kq with gD:=(dI kq.gD (Int.toNat bu) (wr .i64 ((kq.gD (Int.toNat bu)) + 1))) }:aC) fun eo =>
 some (eo,true)))
def gh (n:Nat) (a0:aC):Option (aC × Int):=
 dk (fun v5 (cZ:Int) =>
 cn (decide (cZ < 32)) (
 gu (dB cZ 32) <|
 cn (((a0.Is (Int.toNat cZ)) == 0)) (
 gu (dB cZ 32) <|
 lt ({ a0 with Is:=(dI a0.Is (Int.toNat cZ) 1) }:aC) fun eE =>
 bd (gq n eE cZ) fun eo =>
 some (eE,eo)) (
 v5 (wr .i64 (cZ + 1)))) (
 some (a0,0))) n 0
end Go.Proofs.Ytbalnnoofdkbaaa
namespace Go.Proofs.Ytbalnnoofdkbaaa
open Go Go.Bw
end Go.Proofs.Ytbalnnoofdkbaaa
namespace Go.Proofs.Ytbalnnoofdkbaaa
open Go Go.Bw
end Go.Proofs.Ytbalnnoofdkbaaa
namespace Go.Bw
open Go
theorem cj {x:Int} (h1:-9223372036854775808 ≤ x) (h2:x ≤ 9223372036854775807):wr .i64 x = x:=IntWalk.i64_in x ⟨h1,h2⟩
theorem sy {x:Int} (h1:0 ≤ x) (h2:x ≤ 4294967295):wr .u32 x = x:=IntWalk.u32_in x ⟨h1,h2⟩
theorem tq {k:IntKind} {a:Nat} (h:a < 2 ^ k.bits):(BitVec.ofInt k.bits (a:Int)).toNat = a:=by
  rw [BitVec.toNat_ofInt]
  have:((a:Int) % ((2 ^ k.bits:Nat):Int)) = ((a % 2 ^ k.bits:Nat):Int):=(Int.natCast_emod _ _).symm
  rw [this,Nat.mod_eq_of_lt h]; rfl
theorem BB {k:IntKind} {r:Nat} (h:r < 2 ^ IntKind.up k):wr k (r:Int) = r:=zf h
theorem vw (k:IntKind) {r:Nat} (h:r < 2 ^ IntKind.up k):r < 2 ^ k.bits:=Nat.lt_of_lt_of_le h (Nat.pow_le_pow_right (by decide) (Am k))
theorem yA {k:IntKind} {a b:Nat} (ha:a < 2 ^ IntKind.up k) (hb:b < 2 ^ IntKind.up k):tu k a b = ((a &&& b:Nat):Int):=by
  unfold tu
  rw [BitVec.toNat_and,tq (vw k ha),tq (vw k hb)]
  exact BB (Nat.lt_of_le_of_lt Nat.and_le_left ha)
theorem yB {k:IntKind} {a:Int} (m:Nat) {b:Int} (h0:0 ≤ a) (ha:a < ((2 ^ IntKind.up k:Nat):Int)) (hb:b = ((2 ^ m - 1:Nat):Int)) (hm:2 ^ m - 1 < 2 ^ IntKind.up k):tu k a b = a % ((2 ^ m:Nat):Int):=by
  obtain ⟨x,rfl⟩:=Int.eq_ofNat_of_zero_le h0
  subst hb
  rw [yA (by exact_mod_cast ha) hm,Nat.and_two_pow_sub_one_eq_mod]
  exact Int.natCast_emod _ _
theorem sH {k:IntKind} {a:Int} (m:Nat) {b:Int} (hb:b = (m:Int)) (hm:m ≤ k.bits):tT k a b = a / ((2 ^ m:Nat):Int):=by
  subst hb
  unfold tT
  rw [Int.toNat_natCast,Nat.min_eq_left hm,Int.fdiv_eq_ediv_of_nonneg _ (Int.pow_nonneg (by decide))]
  congr 1
theorem w9 {k:IntKind} {a:Int} (m:Nat) {b:Int} (hb:b = (m:Int)) (hm:m ≤ k.bits):zn k a b = wr k (a * ((2 ^ m:Nat):Int)):=by
  subst hb
  unfold zn wr
  rw [Int.toNat_natCast,Nat.min_eq_left hm]
  congr 2
theorem cD {i:Int} {n:Nat} (h0:0 ≤ i) (h1:i < (n:Int)):dB i n = true:=by simp [dB,h0,h1]
theorem jF {n m b:Nat} (h:(n + m) * b ≤ 140737488355328) (h2:n + m ≤ 9223372036854775807):jY n m b = true:=by simp [jY,h,h2]
theorem kY {α:Type} (f:Nat→α) (i:Nat) (v:α):dI f i v i = v:=by simp [dI]
theorem fI {α:Type} (f:Nat→α) {i j:Nat} (v:α) (h:j ≠ i):dI f i v j = f j:=by simp [dI,h]
theorem bG {α:Type} (f:Nat→α) (i j:Nat) (v:α):dI f i v j = if j = i then v else f j:=rfl
section
variable {α ρ:Type}
theorem ax {m:Option α} {x:α} {f:α→Option ρ} (h:m = some x):bd m f = f x:=by subst h; rfl
theorem lt_eq (a:α) (f:α→Option ρ):lt a f = f a:=rfl
theorem aF {b:Bool} {k:Option ρ} (h:b = true):gu b k = k:=by subst h; rfl
theorem aJ {b:Bool} {x y:Option ρ} (h:b = true):cn b x y = x:=by subst h; rfl
theorem av {b:Bool} {x y:Option ρ} (h:b = false):cn b x y = y:=by subst h; rfl
theorem oB {g:Bool} {m:Option α} {z x:α} {f:α→Option ρ} (h:g = true) (hm:m = some x):cl g m z f = f x:=by subst h; subst hm; rfl
theorem yt {g:Bool} {m:Option α} {z:α} {f:α→Option ρ} (h:g = false):cl g m z f = f z:=by subst h; rfl
theorem cN {g:Bool} {m:Option α} {z x:α} {f:α→Option ρ} (hm:m = some x):cl g m z f = f (bif g then x else z):=by subst hm; cases g <;> rfl
end
end Go.Bw
namespace Go.Proofs.Ytbalnnoofdkbaaa
open Go Go.Bw
def fM (i g:Int):Int:=i + 256 * g + 1
theorem mN {n:Nat} {i g:Int} (h0:0 ≤ i) (h1:i < 32) (g0:0 ≤ g) (g1:g ≤ 8388607):jr n i g = some (fM i g):=by
  unfold jr fM
  rw [w9 (b:=8) 8 rfl (by decide),sy (x:=g * _) (by omega) (by omega),sy (x:=i) (by omega) (by omega),sy (x:=g * _ + i) (by omega) (by omega),sy (by omega) (by omega)]
  congr 1; omega
theorem nf {n:Nat} {w:aC} {i:Int} (h0:0 ≤ i) (h1:i < 32) (g0:0 ≤ w.gD i.toNat) (g1:w.gD i.toNat ≤ 8388607):gq n w i = some (fM i (w.gD i.toNat)):=by
  unfold gq fM
  rw [aF (cD h0 (by omega)),cj (x:=256 * _) (by omega) (by omega),cj (x:=i + _) (by omega) (by omega),cj (by omega) (by omega)]
def sx (h:Int):Bool:=decide (1 ≤ h % 256∧h % 256 ≤ 32∧h / 256 ≤ 8388607)
def fY (h:Int):Int:=if sx h then h % 256 - 1 else 0
theorem cW (h:Int):0 ≤ fY h∧fY h < 32:=by
  unfold fY sx
  split
  · rename_i h1; simp at h1; omega
  · omega
theorem jO {n:Nat} {h:Int} (h0:0 ≤ h) (h1:h < 4294967296):bB n h = some (fY h,sx h):=by
  unfold bB
  have e1:tu .u32 h 255 = h % 256:=yB 8 h0 (by simpa [IntKind.up,IntKind.signed,IntKind.bits] using h1) rfl (by decide)
  have e2:tT .u32 h 8 = h / 256:=sH 8 rfl (by decide)
  rw [e1,e2,cj (x:=h % 256) (by omega) (by omega),cj (x:=h % 256 - 1) (by omega) (by omega)]
  by_cases hb:sx h = true
  · have hb':=hb
    simp only [sx,decide_eq_true_eq] at hb'
    rw [av (by simp; omega)]
    simp [fY,hb]
  · have hb':=hb
    simp only [sx,decide_eq_true_eq] at hb'
    rw [aJ (by simp; omega)]
    simp [fY,hb]
structure RB (b:bg) (w:aC):Prop where
  gen:∀i,i < 32→(b.slots i).gen = w.gD i
  Bb:∀i,i < 32→(b.slots i).gI = (w.Is i == 1)
  ret:∀i,i < 32→(b.slots i).retired = (w.Is i == 2)
  A4:∀i,i < 32→w.Is i = 0∨w.Is i = 1∨w.Is i = 2
  gO:∀i,i < 32→0 ≤ w.gD i∧w.gD i ≤ 8388607
theorem vq {n:Nat} {b:bg} {w:aC} (r:RB b w) {h:Int} (h0:0 ≤ h) (h1:h < 4294967296) :
    aO n b h = some (sx h && (w.Is (fY h).toNat == 1) && (w.gD (fY h).toNat == h / 256)):=by
  unfold aO
  obtain ⟨hs0,Cp⟩:=cW h
  rw [ax (jO h0 h1),aF (by rw [cD hs0 (by simpa using Cp)]; simp)]
  simp only [lt]
  have hi:(fY h).toNat < 32:=by omega
  have e2:tT .u32 h 8 = h / 256:=sH 8 rfl (by decide)
  rw [e2]
  simp only [jJ,r.gen _ hi,r.Bb _ hi,r.ret _ hi]
  have hk:=r.A4 _ hi
  congr 1
  rcases hk with hk | hk | hk <;> simp [hk,Bool.and_comm,Bool.and_left_comm,Bool.and_assoc]
theorem nu {h:Int} (h0:0 ≤ h) (hb:sx h = true):fM (fY h) (h / 256) = h:=by
  have hb':=hb
  simp only [sx,decide_eq_true_eq] at hb'
  simp only [fY,hb,if_true,fM]; omega
theorem kA {i g:Int} (h0:0 ≤ i) (h1:i < 32) (g0:0 ≤ g) (g1:g ≤ 8388607):sx (fM i g) = true∧fY (fM i g) = i∧fM i g / 256 = g∧0 < fM i g∧fM i g < 4294967296:=by
  have e:sx (fM i g) = true:=decide_eq_true (by unfold fM; omega)
  refine ⟨e,?_,?_,?_,?_⟩
  · unfold fY; rw [if_pos e]; unfold fM; omega
  all_goals (unfold fM; omega)
def aR (w:aC) (h:Int):Bool:=sx h && (w.Is (fY h).toNat == 1) && (w.gD (fY h).toNat == h / 256)
theorem cO {n:Nat} (hn:40 ≤ n) {b:bg} {w:aC} (r:RB b w) {h:Int} (h0:0 ≤ h):bE n w h = some (if aR w h then fY h else -1):=by
  unfold bE
  refine gi (fun x=>0 ≤ x∧x ≤ 32∧(aR w h = true→x ≤ fY h)) (fun x=>(32 - x).toNat) (fun o=>o = some (if aR w h then fY h else -1)) ?_ n 0 ⟨by omega,by omega,fun _=>(cW h).1⟩ (by omega)
  rintro k x ⟨x0,x1,hx⟩ ih
  obtain ⟨s0,s1⟩:=cW h
  by_cases hc:x < 32
  · rw [aJ (by simpa using hc),aF (cD x0 (by omega))]
    have hg:=r.gO x.toNat (by omega)
    rw [cN (nf x0 hc hg.1 hg.2)]
    by_cases he:(w.Is x.toNat == 1 && fM x (w.gD x.toNat) == h) = true
    · have he':=he
      simp only [Bool.and_eq_true,beq_iff_eq] at he'
      obtain ⟨e1,e2⟩:=he'
      rw [aJ (by simp [e1,e2])]
      obtain ⟨q1,q2,q3,q4,q5⟩:=kA x0 hc hg.1 hg.2
      rw [e2] at q1 q2 q3
      have:aR w h = true:=by simp [aR,q1,q2,q3,e1]
      simp [this,q2]
    · rw [av (by
        cases h1:(w.Is x.toNat == 1) with
        | false=>simp
        | true=>simpa [h1] using he),cj (by omega) (by omega)]
      refine ih _ ⟨by omega,by omega,fun Bh=>?_⟩ (by omega)
      have h2:=hx Bh
      have:x ≠ fY h:=by
        rintro rfl
        refine he ?_
        simp only [aR,Bool.and_eq_true,beq_iff_eq] at Bh
        simp [Bh.1.2,Bh.2,nu h0 Bh.1.1]
      omega
  · rw [av (by simpa using hc)]
    have:aR w h = false:=by
      cases L7:aR w h with
      | false=>rfl
      | true=>have:=hx L7; omega
    simp [this]
def jd (w:aC) (h:Int):aC:=
  if w.gD (fY h).toNat = 8388607 then { w with Is:=dI w.Is (fY h).toNat 2 } else { gD:=dI w.gD (fY h).toNat (w.gD (fY h).toNat + 1),Is:=dI w.Is (fY h).toNat 0 }
theorem qY {α:Type} (G:Nat→α) (i:Nat) (a b:α):dI (dI G i a) i b = dI G i b:=by
  funext q; unfold dI; split <;> rfl
theorem tV {n:Nat} (hn:40 ≤ n) {b:bg} {w:aC} (r:RB b w) {h:Int} (h0:0 ≤ h):gF n w h = some (if aR w h then jd w h else w,aR w h):=by
  unfold gF
  obtain ⟨s0,s1⟩:=cW h
  rw [ax (cO hn r h0)]
  cases hg:aR w h with
  | false=>rfl
  | true =>
    have hr:=r.gO (fY h).toNat (by omega)
    simp only [if_true]
    rw [av (by simpa using s0),aF (cD s0 (by simpa using s1))]
    simp only [lt,aF (cD s0 (show fY h < ((32:Nat):Int) by simpa using s1))]
    unfold jd
    by_cases hl:w.gD (fY h).toNat = 8388607
    · rw [aJ (by simpa using hl)]; simp [hl,qY]
    · rw [av (by simpa using hl),cj (by omega) (by omega)]; simp [hl]
theorem zg {n:Nat} {b:bg} {w:aC} (r:RB b w) {h:Int} (h0:0 ≤ h) (h1:h < 4294967296) :
    ∃b',fg n b h = some (b',aR w h)∧RB b' (if aR w h then jd w h else w):=by
  unfold fg
  obtain ⟨s0,s1⟩:=cW h
  have hi:(fY h).toNat < 32:=by omega
  rw [ax (vq r h0 h1)]
  show ∃b',cn (!aR w h) _ _ = _∧_
  cases hg:aR w h with
  | false=>exact ⟨b,rfl,r⟩
  | true =>
    rw [av (b:=!true) rfl,ax (jO h0 h1),aF (cD s0 (by simpa using s1))]
    simp only [lt]
    have Je:=r.gen _ hi
    have hr:=r.gO _ hi
    have Jb:w.Is (fY h).toNat = 1:=by simp only [aR,Bool.and_eq_true,beq_iff_eq] at hg; exact hg.1.2
    have LX:(b.slots (fY h).toNat).retired = false:=by rw [r.ret _ hi,Jb]; rfl
    simp only [kY,Je,qY]
    unfold jd
    by_cases hl:w.gD (fY h).toNat = 8388607
    · rw [aJ (by simpa using hl)]
      refine ⟨_,rfl,?_⟩
      simp only [if_true,hl]
      refine ⟨?_,?_,?_,?_,?_⟩ <;> intro i wM <;> by_cases e:i = (fY h).toNat
      all_goals (try subst e)
      all_goals simp [bG, *,r.gen,r.Bb,r.ret,r.A4,r.gO]
      all_goals (first | exact (r.A4 i wM) | exact r.gO i wM)
    · rw [av (by simpa using hl),sy (by omega) (by omega)]
      refine ⟨_,rfl,?_⟩
      simp only [if_true,if_neg hl]
      refine ⟨?_,?_,?_,?_,?_⟩ <;> intro i wM <;> by_cases e:i = (fY h).toNat
      all_goals (try subst e)
      all_goals simp [bG, *,r.gen,r.Bb,r.ret,r.A4,r.gO]
      all_goals (first | exact (r.A4 i wM) | exact r.gO i wM | omega)
def m8 (w:aC) (f:Nat):Prop:=f ≤ 32∧(∀j,j < f→w.Is j ≠ 0)∧(f < 32→w.Is f = 0)
theorem ta (w:aC):∃f,m8 w f:=by
  have key:∀k,k ≤ 32→(∃f,m8 w f)∨(∀j,j < k→w.Is j ≠ 0):=by
    intro k
    induction k with
    | zero=>intro _; exact .inr (fun j hj=>absurd hj (Nat.not_lt_zero _))
    | succ k ih =>
      intro hk
      rcases ih (by omega) with h | h
      · exact .inl h
      · by_cases e:w.Is k = 0
        · exact .inl ⟨k,by omega,h,fun _=>e⟩
        · refine .inr (fun j hj=>?_)
          by_cases e2:j = k
          · subst e2; exact e
          · exact h j (by omega)
  rcases key 32 (Nat.le_refl _) with h | h
  · exact h
  · exact ⟨32,Nat.le_refl _,h,fun h=>absurd h (Nat.lt_irrefl _)⟩
def gn (w:aC) (f:Nat):aC:={ w with Is:=dI w.Is f 1 }
theorem nS {n:Nat} (hn:40 ≤ n) {b:bg} {w:aC} (r:RB b w) {f:Nat} (hf:m8 w f) :
    gh n w = some (if f < 32 then (gn w f,fM f (w.gD f)) else (w,0)):=by
  unfold gh
  obtain ⟨f1,f2,f3⟩:=hf
  refine gi (fun x=>0 ≤ x∧x ≤ (f:Int)) (fun x=>(32 - x).toNat) (fun o=>o = some (if f < 32 then (gn w f,fM f (w.gD f)) else (w,0))) ?_ n 0 ⟨by omega,by omega⟩ (by omega)
  rintro k x ⟨x0,x1⟩ ih
  by_cases hc:x < 32
  · rw [aJ (by simpa using hc),aF (cD x0 (by omega))]
    by_cases he:w.Is x.toNat = 0
    · have e:x = (f:Int):=by
        rcases Int.lt_or_lt_of_ne (a:=x) (b:=f) |> fun h=>(Decidable.em (x = f)) with h | h
        · exact h
        · exact absurd he (f2 x.toNat (by omega))
      subst e
      simp only [Int.toNat_natCast] at he ⊢
      rw [aJ (by simpa using he),aF (cD x0 (by omega)),lt_eq,ax (nf (w:={ w with Is:=dI w.Is f 1 }) x0 hc (r.gO f (by omega)).1 (r.gO f (by omega)).2),if_pos (by omega)]
      rfl
    · rw [av (by simpa using he),cj (by omega) (by omega)]
      refine ih _ ⟨by omega,?_⟩ (by omega)
      rcases Decidable.em (x = f) with h | h
      · subst h; exact absurd (f3 (by omega)) (by simpa using he)
      · omega
  · rw [av (by simpa using hc),if_neg (by omega)]
theorem sS {n:Nat} (hn:40 ≤ n) {b:bg} {w:aC} (r:RB b w) {f:Nat} (hf:m8 w f) :
    ∃b',dS n b = some (b',if f < 32 then fM f (w.gD f) else 0,decide (f < 32))∧RB b' (if f < 32 then gn w f else w):=by
  unfold dS
  obtain ⟨f1,f2,f3⟩:=hf
  refine gi (fun x=>0 ≤ x∧x ≤ (f:Int)) (fun x=>(32 - x).toNat) (fun o=>∃b',o = some (b',if f < 32 then fM f (w.gD f) else 0,decide (f < 32))∧RB b' (if f < 32 then gn w f else w)) ?_ n 0 ⟨by omega,by omega⟩ (by omega)
  rintro k x ⟨x0,x1⟩ ih
  by_cases hc:x < 32
  · have hi:x.toNat < 32:=by omega
    rw [aJ (by simpa using hc),aF (cD x0 (by omega)),lt_eq]
    by_cases he:w.Is x.toNat = 0
    · have e:x = (f:Int):=by
        rcases Decidable.em (x = f) with h | h
        · exact h
        · exact absurd he (f2 x.toNat (by omega))
      subst e
      simp only [Int.toNat_natCast] at he hi ⊢
      rw [av (by simp [r.Bb f hi,r.ret f hi,he]),aF (cD x0 (by omega)),lt_eq,ax (mN x0 hc (by rw [r.gen f hi]; exact (r.gO f hi).1) (by rw [r.gen f hi]; exact (r.gO f hi).2)),if_pos hi,if_pos hi]
      refine ⟨_,by rw [r.gen f hi,decide_eq_true hi],?_⟩
      refine ⟨?_,?_,?_,?_,?_⟩ <;> intro i wM <;> by_cases e:i = f
      all_goals (try subst e)
      all_goals simp [gn,bG, *,r.gen,r.Bb,r.ret,r.A4,r.gO]
      all_goals (first | exact (r.A4 i wM) | exact r.gO i wM | (rw [r.ret _ wM,he]; rfl))
    · rw [aJ (by
        rcases r.A4 _ hi with h | h | h
        · exact absurd h he
        · simp [r.Bb _ hi,h]
        · simp [r.ret _ hi,h]),cj (by omega) (by omega)]
      refine ih _ ⟨by omega,?_⟩ (by omega)
      rcases Decidable.em (x = f) with h | h
      · subst h; exact absurd (f3 (by omega)) (by simpa using he)
      · omega
  · rw [av (by simpa using hc),if_neg (by omega),if_neg (by omega)]
    exact ⟨b,by rw [decide_eq_false (by omega)],r⟩
theorem Gr {n:Nat} {b:bg} {w:aC} (r:RB b w) {i:Int} (h0:0 ≤ i) (h1:i < 32):fV n b i = some (if w.Is i.toNat = 1 then fM i (w.gD i.toNat) else 0,w.Is i.toNat == 1):=by
  have hi:i.toNat < 32:=by omega
  unfold fV
  rw [aF (by rw [cD h0 (by omega)]; simp)]
  by_cases e:w.Is i.toNat = 1
  · rw [av (by simp [r.Bb _ hi,e]; omega),aF (cD h0 (by omega)),ax (mN h0 h1 (by rw [r.gen _ hi]; exact (r.gO _ hi).1) (by rw [r.gen _ hi]; exact (r.gO _ hi).2)),r.gen _ hi]
    simp [e]
  · rw [aJ (by simp [r.Bb _ hi,e])]
    simp [e]
def ct (w:aC):Nat→List Int
  | 0=>[]
  | k + 1=>ct w k++(if w.Is k = 1 then [fM k (w.gD k)] else [])
theorem fk (w:aC) (k:Nat):(ct w k).length ≤ k:=by
  induction k with
  | zero=>simp [ct]
  | succ k ih=>simp only [ct,List.length_append]; split <;> simp <;> omega
theorem v7 {n:Nat} (hn:40 ≤ n) {b:bg} {w:aC} (r:RB b w):ew n b = some (ct w 32):=by
  unfold ew
  refine dR (fun (l:List Int) (x:Int)=>∃k:Nat,x = k∧k ≤ 32∧l = ct w k) (fun _ (x:Int)=>(32 - x).toNat) (fun o=>o = some (ct w 32)) ?_ n [] 0 ⟨0,rfl,by omega,rfl⟩ (by omega)
  rintro kk l x ⟨k,rfl,hk,rfl⟩ ih
  by_cases hc:k < 32
  · rw [aJ (by simp; omega),ax (Gr r (by omega) (by omega))]
    simp only [Int.toNat_natCast]
    by_cases e:w.Is k = 1
    · rw [aJ (by simpa using e),aF (jF (by have:=fk w k; omega) (by have:=fk w k; omega)),lt_eq,cj (by omega) (by omega)]
      exact ih _ _ ⟨k + 1,by omega,by omega,by simp [ct,e]⟩ (by omega)
    · rw [av (by simpa using e),cj (by omega) (by omega)]
      exact ih _ _ ⟨k + 1,by omega,by omega,by simp [ct,e]⟩ (by omega)
  · rw [av (by simp; omega)]
    obtain rfl:k = 32:=by omega
    rfl
end Go.Proofs.Ytbalnnoofdkbaaa
namespace Go.Proofs.Ytbalnnoofdkbaaa
open Go Go.Bw
def aX (w:aC) (h:Int):Prop:=0 ≤ h∧aR w h = true
theorem eG {w:aC} {h:Int}:aR w h = true↔sx h = true∧w.Is (fY h).toNat = 1∧w.gD (fY h).toNat = h / 256:=by
  unfold aR
  rw [Bool.and_eq_true,Bool.and_eq_true,beq_iff_eq,beq_iff_eq,and_assoc]
theorem w8 {h:Int} (hb:sx h = true):h < 4294967296:=by
  unfold sx at hb
  simp only [decide_eq_true_eq] at hb; omega
theorem lp {b:bg} {w:aC} (r:RB b w):∀(k:Nat),k ≤ 32→∀x,x ∈ ct w k↔aX w x∧fY x < k
  | 0,_,x=>⟨fun h=>(by cases h),fun h=>absurd h.2 (by have:=(cW x).1; omega)⟩
  | k + 1,hk,x=>by
    have ih:=lp r k (by omega) x
    have hr:=r.gO k (by omega)
    obtain ⟨q1,q2,q3,q4,q5⟩:=kA (i:=k) (g:=w.gD k) (by omega) (by omega) hr.1 hr.2
    have hx:=cW x
    rw [ct,List.mem_append,ih]
    constructor
    · rintro (h | h)
      · exact ⟨h.1,by omega⟩
      · split at h
        · rename_i hi
          have e:=List.mem_singleton.1 h
          subst e
          exact ⟨⟨by omega,eG.2 ⟨q1,by rw [q2]; exact hi,by rw [q2,q3]; rfl⟩⟩,by omega⟩
        · cases h
    · rintro ⟨h1,h2⟩
      by_cases e:fY x < k
      · exact .inl ⟨h1,e⟩
      · have e1:fY x = k:=by omega
        obtain ⟨g1,g2,g3⟩:=eG.1 h1.2
        have e2:(fY x).toNat = k:=by omega
        rw [e2] at g2 g3
        refine .inr ?_
        rw [if_pos g2,List.mem_singleton,g3,← e1,nu h1.1 g1]
theorem o8 {b:bg} {w:aC} (r:RB b w):∀(k:Nat),k ≤ 32→(ct w k).Nodup
  | 0,_=>List.nodup_nil
  | k + 1,hk=>by
    rw [ct,List.nodup_append]
    refine ⟨o8 r k (by omega),by split <;> simp,fun a ha c hc e=>?_⟩
    split at hc
    · have e1:=List.mem_singleton.1 hc
      have hr:=r.gO k (by omega)
      obtain ⟨q1,q2,q3,q4,q5⟩:=kA (i:=k) (g:=w.gD k) (by omega) (by omega) hr.1 hr.2
      have:=((lp r k (by omega) a).1 ha).2
      rw [e,e1,q2] at this
      omega
    · cases hc
theorem bA {b:bg} {w:aC} (r:RB b w) (x:Int):x ∈ ct w 32↔aX w x:=by
  rw [lp r 32 (Nat.le_refl _)]
  have:=cW x
  exact ⟨fun h=>h.1,fun h=>⟨h,by omega⟩⟩
def nU (w:aC) (h:Int):Prop:=0 ≤ h∧sx h = true∧(h / 256 < w.gD (fY h).toNat∨(h / 256 = w.gD (fY h).toNat∧w.Is (fY h).toNat ≠ 0))
theorem gJ {b:bg} {w:aC} (r:RB b w) {f:Nat} (hf:m8 w f) (hl:f < 32) (x:Int):aX (gn w f) x↔aX w x∨x = fM f (w.gD f):=by
  have hr:=r.gO f hl
  obtain ⟨q1,q2,q3,q4,q5⟩:=kA (i:=f) (g:=w.gD f) (by omega) (by omega) hr.1 hr.2
  have hx:=cW x
  unfold aX
  rw [eG,eG]
  show 0 ≤ x∧sx x = true∧dI w.Is f 1 (fY x).toNat = 1∧w.gD (fY x).toNat = x / 256↔_
  rw [bG]
  by_cases e:(fY x).toNat = f
  · rw [if_pos e,e]
    constructor
    · rintro ⟨h1,h2,_,h4⟩
      refine .inr ?_
      have:=nu h1 h2
      rw [← this,h4]
      congr 1; omega
    · rintro (⟨h1,h2,h3,h4⟩ | h)
      · exact absurd (hf.2.2 hl) (by omega)
      · subst h; exact ⟨by omega,q1,rfl,by rw [q3]⟩
  · rw [if_neg e]
    refine ⟨fun h=>.inl h,fun h=>h.elim _root_.id fun h=>?_⟩
    subst h
    exact absurd (by rw [q2]; rfl) e
theorem oU {w:aC} {f:Nat} (x:Int) (h:nU w x):nU (gn w f) x:=by
  obtain ⟨h1,h2,h3⟩:=h
  refine ⟨h1,h2,?_⟩
  show x / 256 < w.gD (fY x).toNat∨(x / 256 = w.gD (fY x).toNat∧dI w.Is f 1 (fY x).toNat ≠ 0)
  rw [bG]
  split
  · exact h3.imp _root_.id fun h=>⟨h.1,by omega⟩
  · exact h3
theorem xn {b:bg} {w:aC} (r:RB b w) {f:Nat} (hf:m8 w f) (hl:f < 32):¬ nU w (fM f (w.gD f)):=by
  have hr:=r.gO f hl
  obtain ⟨q1,q2,q3,q4,q5⟩:=kA (i:=f) (g:=w.gD f) (by omega) (by omega) hr.1 hr.2
  rintro ⟨_,_,h⟩
  rw [q2,q3] at h
  have:=hf.2.2 hl
  rcases h with h | h
  · exact absurd h (by simp)
  · exact h.2 this
theorem wk {b:bg} {w:aC} (r:RB b w) {h:Int} (h0:0 ≤ h) (x:Int):aX (if aR w h then jd w h else w) x↔aX w x∧x ≠ h:=by
  cases hg:aR w h with
  | false =>
    refine ⟨fun hx=>⟨hx,fun e=>?_⟩,fun hx=>hx.1⟩
    subst e
    have h2:aR w x = true:=hx.2
    rw [h2] at hg; cases hg
  | true =>
    rw [if_pos rfl]
    obtain ⟨g1,g2,g3⟩:=eG.1 hg
    have hr:=r.gO (fY h).toNat (by have:=cW h; omega)
    have hx:=cW x
    have hh:=cW h
    have key:∀w',jd w h = w'→(∀j,j ≠ (fY h).toNat→w'.Is j = w.Is j∧w'.gD j = w.gD j)→w'.Is (fY h).toNat ≠ 1→(aX w' x↔aX w x∧x ≠ h):=by
      intro w' _ k1 k2
      unfold aX
      rw [eG,eG]
      by_cases e:(fY x).toNat = (fY h).toNat
      · constructor
        · rintro ⟨_,_,h3,_⟩; rw [e] at h3; exact absurd h3 k2
        · rintro ⟨⟨h1,h2,h3,h4⟩,h5⟩
          refine absurd ?_ h5
          rw [← nu h1 h2,← nu h0 g1,← h4,← g3,e]
          congr 1; omega
      · rw [(k1 _ e).1,(k1 _ e).2]
        exact ⟨fun hx=>⟨hx,fun e2=>e (by rw [e2])⟩,fun hx=>hx.1⟩
    refine key _ rfl (fun j hj=>?_) ?_
    · unfold jd
      split
      · exact ⟨fI _ _ hj,rfl⟩
      · exact ⟨fI _ _ hj,fI _ _ hj⟩
    · unfold jd
      split
      · show dI w.Is _ 2 _ ≠ 1; rw [kY]; decide
      · show dI w.Is _ 0 _ ≠ 1; rw [kY]; decide
theorem vX {w:aC} {h:Int} (x:Int) (hp:nU w x):nU (if aR w h then jd w h else w) x:=by
  cases hg:aR w h with
  | false=>exact hp
  | true =>
    rw [if_pos rfl]
    obtain ⟨h1,h2,h3⟩:=hp
    refine ⟨h1,h2,?_⟩
    unfold jd
    split
    · show x / 256 < w.gD (fY x).toNat∨(x / 256 = w.gD (fY x).toNat∧dI w.Is (fY h).toNat 2 (fY x).toNat ≠ 0)
      rw [bG]
      split
      · exact h3.imp _root_.id fun h=>⟨h.1,by decide⟩
      · exact h3
    · show x / 256 < dI w.gD (fY h).toNat _ (fY x).toNat∨(x / 256 = dI w.gD (fY h).toNat _ (fY x).toNat∧dI w.Is (fY h).toNat 0 (fY x).toNat ≠ 0)
      rw [bG,bG]
      split
      · rename_i e
        rw [e] at h3
        left; omega
      · exact h3
end Go.Proofs.Ytbalnnoofdkbaaa
namespace Go.Bw
open Go
theorem q8:∀(t u:List Int),t.Nodup→(∀x ∈ t,x ∈ u)→t.length ≤ u.length
  | [],u,_,_=>Nat.zero_le _
  | x::t,u,hn,hs=>by
    rw [List.nodup_cons] at hn
    have hx:=hs x (by simp)
    have:=q8 t (u.erase x) hn.2 fun y hy=>(List.mem_erase_of_ne (fun e=>hn.1 (by rw [← e]; exact hy))).2 (hs y (by simp [hy]))
    rw [List.length_erase_of_mem hx] at this
    have h0:0 < u.length:=List.length_pos_of_mem hx
    rw [List.length_cons]; omega
theorem xd {t u:List Int} (ht:t.Nodup) (hu:u.Nodup) (h:∀x,x ∈ t↔x ∈ u):t.length = u.length:=
  Nat.le_antisymm (q8 t u ht fun x hx=>(h x).1 hx) (q8 u t hu fun x hx=>(h x).2 hx)
section
variable {β:Type}
theorem qE (l:List (Int × β)) (k:Int) (v:β):(pV l k v).map Prod.fst = if k ∈ l.map Prod.fst then l.map Prod.fst else l.map Prod.fst++[k]:=by
  induction l with
  | nil=>simp [pV]
  | cons p r ih =>
    unfold pV
    by_cases h:k = p.1
    · subst h; simp
    · have:(k == p.1) = false:=by simpa using h
      rw [this,cond_false,List.map_cons,ih]
      by_cases h2:k ∈ r.map Prod.fst
      · rw [if_pos h2,if_pos (by simp [h2])]; rfl
      · rw [if_neg h2,if_neg (by rw [List.map_cons,List.mem_cons]; exact fun hh=>hh.elim h h2)]; rfl
theorem zE {l:List (Int × β)} {k:Int} {z:β} (h:k ∉ l.map Prod.fst):xB l k z = z:=by
  have:lZ l k = none:=by
    induction l with
    | nil=>rfl
    | cons p r ih =>
      rw [List.map_cons,List.mem_cons,not_or] at h
      unfold lZ
      have e:(k == p.1) = false:=by simpa using h.1
      rw [e,cond_false,ih h.2]; rfl
  unfold xB; rw [this]; rfl
theorem xA {l:List (Int × β)} {k:Int} {z:β} (h:k ∈ l.map Prod.fst):(k,xB l k z) ∈ l:=by
  unfold xB
  cases hm:lZ l k with
  | some q =>
    have:=qF (j:=q.1) (y:=q.2) hm
    exact List.mem_of_getElem? this
  | none =>
    exfalso
    induction l with
    | nil=>simp at h
    | cons p r ih =>
      unfold lZ at hm
      by_cases e:k = p.1
      · have:(k == p.1) = true:=by simpa using e
        rw [this] at hm; simp at hm
      · have e2:(k == p.1) = false:=by simpa using e
        rw [e2] at hm
        simp only [cond_false,Option.map_eq_none_iff] at hm
        rw [List.map_cons,List.mem_cons] at h
        exact ih (h.elim (fun hh=>absurd hh e) _root_.id) hm
theorem sO {l:List (Int × β)} (k:Int) (v:β) (h:(l.map Prod.fst).Nodup):((pV l k v).map Prod.fst).Nodup:=by
  rw [qE]
  split
  · exact h
  · rename_i hk
    rw [List.nodup_append]
    refine ⟨h,by simp,fun a ha b hb e=>hk ?_⟩
    have:b = k:=by simpa using hb
    rw [← this,← e]; exact ha
theorem rm {l:List (Int × β)} {k:Int} {v:β} {x:Int}:x ∈ (pV l k v).map Prod.fst↔x ∈ l.map Prod.fst∨x = k:=by
  rw [qE]
  split
  · rename_i h
    exact ⟨.inl,fun hh=>hh.elim _root_.id fun e=>e ▸ h⟩
  · simp
end
structure ot (l:List (Int × Bool)) (S:Int→Prop):Prop where
  nd:(l.map Prod.fst).Nodup
  tr:∀p ∈ l,p.2 = true
  mem:∀k,k ∈ l.map Prod.fst↔S k
theorem ot.nil:ot [] (fun _=>False):=⟨by simp,by simp,by simp⟩
theorem ot.get {l:List (Int × Bool)} {S:Int→Prop} (h:ot l S) (k:Int):xB l k false = true↔S k:=by
  rw [← h.mem k]
  by_cases hk:k ∈ l.map Prod.fst
  · exact ⟨fun _=>hk,fun _=>h.tr _ (xA hk)⟩
  · rw [zE hk]; exact ⟨fun hh=>(by cases hh),fun hh=>absurd hh hk⟩
theorem BM {l:List (Int × Bool)} {k:Int} (h:∀p ∈ l,p.2 = true):∀p ∈ pV l k true,p.2 = true:=by
  induction l with
  | nil=>intro p hp; rw [pV,List.mem_singleton] at hp; rw [hp]
  | cons q r ih =>
    intro p hp
    unfold pV at hp
    cases e:k == q.1 with
    | true =>
      rw [e,cond_true,List.mem_cons] at hp
      rcases hp with rfl | hp
      · rfl
      · exact h p (by simp [hp])
    | false =>
      rw [e,cond_false,List.mem_cons] at hp
      rcases hp with rfl | hp
      · exact h p (by simp)
      · exact ih (fun z hz=>h z (by simp [hz])) p hp
theorem ot.set {l:List (Int × Bool)} {S T:Int→Prop} (h:ot l S) {k:Int} (hT:∀x,T x↔S x∨x = k):ot (pV l k true) T:=
  ⟨sO k true h.nd,BM h.tr,fun x=>by rw [rm,h.mem,hT]⟩
theorem ot.congr {l:List (Int × Bool)} {S T:Int→Prop} (h:ot l S) (hT:∀x,T x↔S x):ot l T:=⟨h.nd,h.tr,fun x=>by rw [h.mem,hT]⟩
theorem ot.len {l:List (Int × Bool)} {S:Int→Prop} (h:ot l S) {t:List Int} (ht:t.Nodup) (hm:∀x,x ∈ t↔S x):l.length = t.length:=by
  rw [← xd h.nd ht fun x=>by rw [h.mem,hm],List.length_map]
end Go.Bw
namespace Go.Proofs.Ytbalnnoofdkbaaa
open Go Go.Bw
def bt (h:Int):Nat:=(fY h).toNat
theorem iX (h:Int):bt h < 32:=by have:=cW h; unfold bt; omega
theorem zm (h:Int):(bt h:Int) = fY h:=by have:=cW h; unfold bt; omega
theorem nx {w:aC} {h:Int} (hg:aR w h = true):sx h = true∧w.Is (bt h) = 1∧w.gD (bt h) = h / 256:=eG.1 hg
theorem iH {n:Nat} {b:bg} {w:aC} (r:RB b w) {h:Int} (h0:0 ≤ h) (h1:h < 4294967296):aO n b h = some (aR w h):=vq r h0 h1
end Go.Proofs.Ytbalnnoofdkbaaa
namespace Go.Proofs.Ytbalnnoofdkbaaa
open Go Go.Bw
theorem dX {w:aC} {x:Int} (h:aX w x):fM (bt x) (w.gD (bt x)) = x:=by
  obtain ⟨g1,g2,g3⟩:=nx h.2
  rw [g3,zm,nu h.1 g1]
end Go.Proofs.Ytbalnnoofdkbaaa
namespace Go.Proofs.Ytbalnnoofdkbaaa
open Go Go.Bw
def wK (w:aC) (h:Int):aC:=if aR w h = true then jd w h else w
theorem sA {w:aC} {h:Int} {i:Nat} (hi:i ≠ bt h):(jd w h).Is i = w.Is i∧(jd w h).gD i = w.gD i:=by
  unfold jd
  split
  · exact ⟨fI _ _ hi,rfl⟩
  · exact ⟨fI _ _ hi,fI _ _ hi⟩
theorem oN (w:aC) (h:Int):(jd w h).Is (bt h) ≠ 1:=by
  unfold jd
  split
  · show dI w.Is (bt h) 2 (bt h) ≠ 1; rw [kY]; decide
  · show dI w.Is (bt h) 0 (bt h) ≠ 1; rw [kY]; decide
theorem zh {w:aC} {h:Int} {i:Nat} (hi:(wK w h).Is i = 1):w.Is i = 1∧(wK w h).gD i = w.gD i:=by
  unfold wK at *
  cases hg:aR w h with
  | false=>rw [hg] at hi; exact ⟨hi,by simp⟩
  | true =>
    rw [hg,if_pos rfl] at hi
    rw [if_pos rfl]
    by_cases e:i = bt h
    · subst e; exact absurd hi (oN w h)
    · have:=sA (w:=w) (h:=h) e
      exact ⟨by rw [← this.1]; exact hi,this.2⟩
theorem sK {n:Nat} (hn:40 ≤ n) {b:bg} {w:aC} (r:RB b w) {h:Int} (h0:0 ≤ h):gF n w h = some (wK w h,aR w h):=tV hn r h0
def pC (p:Nat→Bool):Nat→Nat
  | 0=>0
  | k + 1=>pC p k + (if p k = true then 1 else 0)
theorem rP (p:Nat→Bool):∀k,pC p k ≤ k
  | 0=>Nat.le_refl _
  | k + 1=>by have:=rP p k; simp only [pC]; split <;> omega
theorem qO {p q:Nat→Bool} (h:∀i,p i = true→q i = true):∀k,pC p k ≤ pC q k
  | 0=>Nat.le_refl _
  | k + 1=>by
    have:=qO h k
    simp only [pC]
    by_cases e:p k = true
    · rw [if_pos e,if_pos (h k e)]; omega
    · rw [if_neg e]; omega
theorem mR {p q:Nat→Bool} (h:∀i,p i = true→q i = true) {c:Nat} (hp:p c = false) (hq:q c = true):∀k,c < k→pC p k < pC q k
  | 0,hc=>absurd hc (Nat.not_lt_zero _)
  | k + 1,hc=>by
    simp only [pC]
    by_cases e:c = k
    · subst e
      have:=qO h c
      rw [hp,hq]; simp; omega
    · have:=mR h hp hq k (by omega)
      by_cases e2:p k = true
      · rw [if_pos e2,if_pos (h k e2)]; omega
      · rw [if_neg e2]; omega
end Go.Proofs.Ytbalnnoofdkbaaa
namespace Go.Proofs.Ytbalnnoofdkbaaa
open Go Go.Bw
end Go.Proofs.Ytbalnnoofdkbaaa
namespace Go.Proofs.Ytbalnnoofdkbaaa
open Go Go.Bw
def zl (ρ:Nat→Nat):Nat→Nat
  | 0=>0
  | k + 1=>zl ρ k + ρ k
theorem vf (ρ:Nat→Nat) {j:Nat}:∀k,j < k→ρ j ≤ zl ρ k
  | 0,h=>absurd h (Nat.not_lt_zero _)
  | k + 1,h=>by
    simp only [zl]
    by_cases e:j = k
    · subst e; omega
    · have:=vf ρ (j:=j) k (by omega); omega
theorem qM {w:aC} {x:Int} (h:aX w x):nU w x:=by
  obtain ⟨g1,g2,g3⟩:=nx h.2
  exact ⟨h.1,g1, .inr ⟨g3.symm,by show w.Is (bt x) ≠ 0; omega⟩⟩
end Go.Proofs.Ytbalnnoofdkbaaa
namespace Go.Proofs.Ytbalnnoofdkbaaa
open Go Go.Bw
section
end
end Go.Proofs.Ytbalnnoofdkbaaa
namespace Go.Bw
open Go Go.RowKit
structure Bu (P:Program) (gf:Nat) (caps:List Value) (Hc Ho:List aL) (K:World→Prop) (encs:Nat→List Value) (n:Nat):Prop where
  fn:∀(l:Nat) (J:Nat→List Nat→World→Prop) (Jx:List Nat→World→Prop) (bs:List Nat),
    Fn (α:=Bool × List Nat) P gf (.func (.yield l) #[] #[]::caps) (fun w=>yV (bs++bz Hc) K w∧Br P l (bs++bz Hc) w J Jx encs n) (.ext bs (J 0 bs)::Hc)
      (fun _=>True) (fun _=>.tuple #[]) (fun x=>.ext x.2 (bif x.1 then J n x.2 else Jx x.2)::Ho)
theorem nI {P:Program} {N:Nat} {c:Cx} {D:List Deferred} {Q:Exit→Act→World→Prop} {F:cC} {H:List aL} {g:Operand} {ps:List Nat} {assign body:Code}
    {gf n:Nat} {caps:Array Value} {Hc Ho:List aL} {K:World→Prop} {encs:Nat→List Value} {α β:Type}
    (hro:c.ro = none) (hg:ev F g = some (.func (.func gf) #[] caps)) (hit:Bu P gf caps.toList Hc Ho K encs n) (hlen:∀k,(encs k).length = ps.length) (hps:ps.all (Nat.blt · N) = true)
    [JB:vF c [] K]
    (p:Nat→α→Prop) (I:Nat→α→List aL) (px:Code→β→Prop) (X:β→List aL) (i0:α) (zY:p 0 i0) {ks:List Nat} (hk:pick H ks = some (Hc++I 0 i0)) (hn:ks.Nodup)
    (hbody:∀(k:Nat) (i:α) (l dd:Nat) (rec:Loop) (c' : Cx),k < n→p k i→rec.state = .ready→rec.pending = none→c'.ro = some l→(∀w,aY c'.bs c'.w0 w→aY c.bs c.w0 w) →
      (∀b,(b ∈ c'.bs∨c'.w0.heap.size ≤ b)→(b ∈ c.bs∨c.w0.heap.size ≤ b)) →
      WP P N c' [] assign (uV P l body (uU c' (JW c.w0.heap.size c.bs (p (k + 1)) (fun i=>.obj dd (.deferred (some []))::.obj l (.loop rec)::I (k + 1) i))
        (JW c.w0.heap.size c.bs (fun q:Code × β=>px q.1 q.2) (fun q=>.obj dd (.deferred (some []))::.obj l (.loop { rec with state:=.done,pending:=some q.1 })::X q.2))))
        (oa ps (encs k) F) (.obj dd (.deferred (some []))::.obj l (.loop rec)::I k i))
    (hdone:∀dd i,p n i→WQ N c (mark dd::D) Q .normal F (.obj dd (.deferred (some []))::(Ho++I n i)))
    (xV:∀dd j i,px j i→WP P N c (mark dd::D) j Q F (.obj dd (.deferred (some []))::(Ho++X i))) :
    WP P N c D (.rangeFunc g ps.toArray assign body) Q F H:=fun a w hst=>by
  refine wpIn_rangeFunc fun fn _=>?_
  have mj:(FA c.ro).round = none:=hro
  rw [mj]
  obtain ⟨rec,kR⟩ : ∃rec:Loop,rec = { state:=.ready,pending:=none,fn,tmps:=a.tmps,params:=ps.toArray,assign,body,defers:=w.heap.size }:=⟨_,rfl⟩
  obtain ⟨W1,yc⟩ : ∃W1,(w.alloc (.deferred (some []))).alloc (.loop rec) = W1:=⟨_,rfl⟩
  have Cp:aY [] w W1:=by rw [← yc]; exact (aY.alloc w _).ext (aY.alloc _ _)
  have Iu:W1.heap.size = w.heap.size + 2:=by rw [← yc]; simp
  have JA:W1.heap[w.heap.size + 1]? = some (.loop rec):=by
    rw [← yc]; have:=World.alloc_heap_new (w.alloc (.deferred (some []))) (.loop rec); rwa [World.size_alloc] at this
  have JC:W1.heap[w.heap.size]? = some (.deferred (some [])):=by
    rw [← yc]; exact (Below.heap_alloc _ _ _ (by simp)).trans (World.alloc_heap_new w _)
  have Jh:=bp hst.fr hg
  have hfr:=hst.fr
  let J:Nat→List Nat→World→Prop:=fun k=>JW c.w0.heap.size c.bs (p k) (fun i=>.obj w.heap.size (.deferred (some []))::.obj (w.heap.size + 1) (.loop rec)::I k i)
  let Jx:List Nat→World→Prop:=JW c.w0.heap.size c.bs (fun q:Code × β=>px q.1 q.2) (fun q=>.obj w.heap.size (.deferred (some []))::.obj (w.heap.size + 1) (.loop { rec with state:=.done,pending:=some q.1 })::X q.2)
  have xP:=(hst.hp.ext Cp).pick hk hn
  have C9:bN c.bs c.w0.heap.size (.obj w.heap.size (.deferred (some []))::.obj (w.heap.size + 1) (.loop rec)::(Hc++I 0 i0)) W1:=by
    have hlt:∀s ∈ Hc++I 0 i0,∀b ∈ s.fA,b < w.heap.size:=fun s hs b hb=>by
      have hm:s ∈ H:=by
        obtain ⟨jj,hj⟩:=List.mem_iff_getElem?.1 hs
        obtain ⟨kk,_,hh⟩:=j5 hk jj s hj
        exact List.mem_of_getElem? hh
      exact (hst.hp.own s hm b hb).2
    have It:=hst.si.size
    refine bN.cons (bN.cons xP JA ?_ ?_) JC ?_ ?_
    · intro b hb; have e:b = w.heap.size + 1:=by simpa [aL.fA] using hb
      subst e; exact ⟨.inr (by omega),by omega⟩
    · intro s hs b hb cU
      have e:b = w.heap.size + 1:=by simpa [aL.fA] using hb
      have:=hlt s hs b cU; omega
    · intro b hb; have e:b = w.heap.size:=by simpa [aL.fA] using hb
      subst e; exact ⟨.inr (by omega),by omega⟩
    · intro s hs b hb cU
      have e:b = w.heap.size:=by simpa [aL.fA] using hb
      rcases List.mem_cons.1 hs with rfl | hs
      · have e2:b = w.heap.size + 1:=by simpa [aL.fA] using cU
        omega
      · have:=hlt s hs b cU; omega
  let I0:List aL:=.obj w.heap.size (.deferred (some []))::.obj (w.heap.size + 1) (.loop rec)::I 0 i0
  have C8:bN c.bs c.w0.heap.size I0 W1:=C9.sub (by
    refine List.Sublist.cons_cons _ (List.Sublist.cons_cons _ (List.sublist_append_right _ _)))
  have wO:bN c.bs c.w0.heap.size Hc W1:=C9.sub (by
    refine List.Sublist.cons _ (List.Sublist.cons _ (List.sublist_append_left _ _)))
  have hap:∀r ∈ I0,∀s ∈ Hc,r.apart s:=by
    intro r hr s hs
    have xO:=C9.apart
    rw [List.pairwise_cons,List.pairwise_cons,List.pairwise_append] at xO
    obtain ⟨q1,q2,_,_,q3⟩:=xO
    rcases List.mem_cons.1 hr with rfl | hr
    · exact q1 s (by simp [hs])
    · rcases List.mem_cons.1 hr with rfl | hr
      · exact q2 s (by simp [hs])
      · exact aL.iq (q3 s hs r hr)
  have hfn:=hit.fn (w.heap.size + 1) J Jx (bz I0)
  have uy:bz (aL.ext (bz I0) (J 0 (bz I0))::Hc) = bz I0++bz Hc:=by simp [bz,aL.fA]
  refine ⟨w.heap.size + 1,[mark w.heap.size],W1,{ target:=.fn (.func gf) caps,args:=#[.func (.yield (w.heap.size + 1)) #[] #[]] },W1,gf,
    (Value.func (.yield (w.heap.size + 1)) #[] #[]::caps.toList).toArray,W1,?_,?_,fun _ _=>trivial,?_,fun h=>by simp at h,?_⟩
  · rw [← yc,kR]; exact run_enterLoop_outer _ _ _ _ _
  · simp only [resolve,Jh]
    simp [go_sem]
  · have:=hfn.enter (#[.func (.yield (w.heap.size + 1)) #[] #[]]++caps) W1
    simp only [invoke]
    rw [this]
    congr 2
    simp
  · have hin:bN (bz I0++bz Hc) W1.heap.size (aL.ext (bz I0) (J 0 (bz I0))::Hc) W1:=by
      refine ⟨?_,?_,?_⟩
      · intro r hr
        rcases List.mem_cons.1 hr with rfl | hr
        · exact so (I:=fun i=>.obj w.heap.size (.deferred (some []))::.obj (w.heap.size + 1) (.loop rec)::I 0 i) i0 zY C8
        · exact wO.holds r hr
      · intro r hr b hb
        rcases List.mem_cons.1 hr with rfl | hr
        · obtain ⟨s,hs,cU⟩:=cy.1 hb
          exact ⟨.inl (List.mem_append_left _ hb),(C8.own s hs b cU).2⟩
        · exact ⟨.inl (List.mem_append_right _ (cy.2 ⟨r,hr,hb⟩)),(wO.own r hr b hb).2⟩
      · refine List.pairwise_cons.2 ⟨fun s hs b hb cU=>?_,wO.apart⟩
        obtain ⟨r,hr,rF⟩:=cy.1 hb
        exact hap r hr s hs b rF cU
    have nZ:∀b ∈ bz I0++bz Hc,b ∈ c.bs∨c.w0.heap.size ≤ b:=fun b hb=>by
      rcases List.mem_append.1 hb with h | h
      · obtain ⟨r,hr,rF⟩:=cy.1 h; exact (C8.own r hr b rF).1
      · obtain ⟨r,hr,rF⟩:=cy.1 h; exact (wO.own r hr b rF).1
    have sW:aY c.bs c.w0 W1:=hst.si.ext Cp
    have uw:=hfn.calls W1 ⟨fun w' Co=>JB.ok w' (sW.trans Co nZ) (fun r hr=>by cases hr),?_⟩ (by rw [uy]; exact hin)
    · refine ij c.ro ?_
      intro cs
      obtain ⟨e,w2,fr,⟨x,_,he,wc,xY⟩,uq,nY⟩:=uw cs
      refine ⟨e,w2,fr,?_,uq,nY⟩
      subst he
      rw [uy] at wc xY
      obtain ⟨go,bs'⟩:=x
      have xL:aY c.bs c.w0 w2:=sW.trans wc nZ
      have hex:=xY.holds _ (List.mem_cons_self)
      have C6:∀r ∈ Ho,r.holds w2:=fun r hr=>xY.holds r (List.mem_cons_of_mem _ hr)
      have C4:∀s ∈ Ho,∀b ∈ bs',b ∉ s.fA:=fun s hs b hb=>by
        have:=xY.apart
        rw [List.pairwise_cons] at this
        exact this.1 s hs b hb
      have both:∀(IL:List aL) (jump:Option Code) (st:LoopState),st ≠ .busy→bs' = bz (.obj w.heap.size (.deferred (some []))::.obj (w.heap.size + 1) (.loop { rec with state:=st,pending:=jump })::IL) →
          bN c.bs c.w0.heap.size (.obj w.heap.size (.deferred (some []))::.obj (w.heap.size + 1) (.loop { rec with state:=st,pending:=jump })::IL) w2 →
          ∃w4,(Instr.endLoop (w.heap.size + 1)).run P w2 = .ok jump w4∧St N c (mark w.heap.size::D) F (.obj w.heap.size (.deferred (some []))::(Ho++IL)) { a with defers:=mark w.heap.size::a.defers } w4:=by
        intro IL jump st rD cU hI
        have hl:w2.heap[w.heap.size + 1]? = some (.loop { rec with state:=st,pending:=jump }):=hI.holds (.obj (w.heap.size + 1) _) (by simp)
        have j9:bN c.bs c.w0.heap.size (.obj w.heap.size (.deferred (some []))::.obj (w.heap.size + 1) (.loop { rec with state:=st,pending:=jump })::(Ho++IL)) w2:=by
          have hq:=hI.apart
          rw [List.pairwise_cons,List.pairwise_cons] at hq
          refine ⟨?_,?_,?_⟩
          · intro r hr
            rcases List.mem_cons.1 hr with rfl | hr
            · exact hI.holds _ (by simp)
            · rcases List.mem_cons.1 hr with rfl | hr
              · exact hI.holds _ (by simp)
              · rcases List.mem_append.1 hr with h | h
                · exact C6 r h
                · exact hI.holds r (by simp [h])
          · intro r hr b hb
            rcases List.mem_cons.1 hr with rfl | hr
            · exact hI.own _ (by simp) b hb
            · rcases List.mem_cons.1 hr with rfl | hr
              · exact hI.own _ (by simp) b hb
              · rcases List.mem_append.1 hr with h | h
                · obtain ⟨o,lt⟩:=xY.own r (List.mem_cons_of_mem _ h) b hb
                  exact ⟨o.elim (nZ b) (fun o=>.inr (Nat.le_trans sW.size o)),lt⟩
                · exact hI.own r (by simp [h]) b hb
          · have CW:∀r,r ∈ (aL.obj w.heap.size (.deferred (some []))::.obj (w.heap.size + 1) (.loop { rec with state:=st,pending:=jump })::IL)→∀s ∈ Ho,r.apart s:=fun r hr s hs b hb z5 =>
              C4 s hs b (by rw [cU]; exact cy.2 ⟨r,hr,hb⟩) z5
            refine List.pairwise_cons.2 ⟨fun s hs=>?_,List.pairwise_cons.2 ⟨fun s hs=>?_,List.pairwise_append.2 ⟨(List.pairwise_cons.1 xY.apart).2,hq.2.2,fun s hs r hr=>aL.iq (CW r (by simp [hr]) s hs)⟩⟩⟩
            · rcases List.mem_cons.1 hs with rfl | hs
              · exact hq.1 _ (by simp)
              · rcases List.mem_append.1 hs with h | h
                · exact CW _ (by simp) s h
                · exact hq.1 s (by simp [h])
            · rcases List.mem_append.1 hs with h | h
              · exact CW _ (by simp) s h
              · exact hq.2.1 s h
        have xK:St N c (mark w.heap.size::D) F (.obj w.heap.size (.deferred (some []))::.obj (w.heap.size + 1) (.loop { rec with state:=st,pending:=jump })::(Ho++IL)) { a with defers:=mark w.heap.size::a.defers } w2:=
          ⟨hst.tm,hfr,by simp [hst.df],xL,j9⟩
        have Iz:oq (.obj w.heap.size (.deferred (some []))::.obj (w.heap.size + 1) (.loop { rec with state:=st,pending:=jump })::(Ho++IL)) (w.heap.size + 1) (.loop { rec with state:=.exhausted,pending:=jump }) (.obj w.heap.size (.deferred (some []))::.obj (w.heap.size + 1) (.loop { rec with state:=.exhausted,pending:=jump })::(Ho++IL)):=inferInstance
        have ho:nO (.obj w.heap.size (.deferred (some []))::.obj (w.heap.size + 1) (.loop { rec with state:=st,pending:=jump })::(Ho++IL)) (w.heap.size + 1) (.loop { rec with state:=st,pending:=jump }):=inferInstance
        obtain ⟨h3,_⟩:=xK.xb ho Iz
        refine ⟨_,run_endLoop hl rD,⟨h3.tm,h3.fr,h3.df,h3.si,h3.hp.sub ?_⟩⟩
        exact List.Sublist.cons_cons _ (List.Sublist.cons _ (List.Sublist.refl _))
      cases go with
      | true =>
        obtain ⟨i,wg,hI,cU⟩:=ext_get hex
        have Ff:({ rec with state:=LoopState.ready,pending:=none }:Loop) = rec:=by rw [kR]
        obtain ⟨w4,h4,h5⟩:=both (I n i) none .ready (by simp) (by rw [Ff]; exact cU) (by rw [Ff]; exact hI)
        exact ⟨none,w4,h4,hdone _ i wg _ _ h5⟩
      | false =>
        obtain ⟨⟨j,i⟩,wg,hI,cU⟩:=ext_get hex
        obtain ⟨w4,h4,h5⟩:=both (X i) (some j) .done (by simp) cU hI
        exact ⟨some j,w4,h4,xV _ j i wg _ _ h5⟩
    ·
      intro k DX W bs IA Jw CN
      obtain ⟨i,wg,hI,cU⟩:=ext_get CN
      have hl:W.heap[w.heap.size + 1]? = some (.loop rec):=hI.holds (.obj (w.heap.size + 1) _) (by simp)
      have hy:=run_yield (P:=P) (args:=(encs k).toArray) hl (by rw [kR]; simpa using hlen k)
      refine ⟨_,_,_,_,hy,?_⟩
      have xM:aY c.bs c.w0 W:=sW.trans IA nZ
      have hsub:∀b,(b ∈ bz (aL.obj w.heap.size (.deferred (some []))::.obj (w.heap.size + 1) (.loop rec)::I k i)∨W.heap.size ≤ b)→(b ∈ c.bs∨c.w0.heap.size ≤ b):=fun b hb=>by
        rcases hb with hb | hb
        · obtain ⟨r,hr,rF⟩:=cy.1 hb; exact (hI.own r hr b rF).1
        · exact .inr (Nat.le_trans xM.size hb)
      have hb:=hbody k i (w.heap.size + 1) w.heap.size rec ⟨some (w.heap.size + 1),W,bs⟩ DX wg (by rw [kR]) (by rw [kR]) rfl (fun w' Co=>xM.trans Co fun b hb=>hsub b (.inl (by rw [← cU]; exact hb))) (fun b hb=>hsub b (by rw [← cU]; exact hb))
      have ht:=vk (ps:=ps) (vs:=encs k) hfr hst.tm hps
      have Cd:(rec.params.zip (encs k).toArray).foldl (fun tmps (t,a)=>tmps.setIfInBounds t a) rec.tmps = (ps.zip (encs k)).foldl (fun t q=>t.setIfInBounds q.1 q.2) a.tmps:=by
        rw [kR]; simp
      rw [Cd]
      have Fg:rec.assign = assign∧rec.body = body:=by rw [kR]; exact ⟨rfl,rfl⟩
      rw [Fg.1,Fg.2]
      have F0:bN bs W.heap.size (.obj w.heap.size (.deferred (some []))::.obj (w.heap.size + 1) (.loop rec)::I k i) W:=
        ⟨hI.holds,fun r hr b hb=>⟨.inl (by rw [cU]; exact cy.2 ⟨r,hr,hb⟩),(hI.own r hr b hb).2⟩,hI.apart⟩
      have mj:=roundIn_of_wpIn (F:=FA none) (n:=0) (P:=P) (l:=w.heap.size + 1) (f:=rec.fn) (R:=uU ⟨some (w.heap.size + 1),W,bs⟩ (J (k + 1)) Jx) trivial
        (hb { tmps:=(ps.zip (encs k)).foldl (fun t q=>t.setIfInBounds q.1 q.2) a.tmps,defers:=[] } W ⟨ht.2,ht.1,rfl,aY.refl _ _,F0⟩)
      refine mj.mono fun e W' hr=>?_
      rw [uy] at *
      exact hr
end Go.Bw
namespace Go.Bw
open Go Go.RowKit
section rules
variable {P:Program} {N:Nat} {c:Cx} {D:List Deferred} {Q:Exit→Act→World→Prop} {F:cC} {H:List aL} {d:Option Tmp} {ty:TypeId} {ps:String} {af:Array Edge} {g:Option (Nat × Bool)} {α β γ:Type}
theorem VS.wZ {o:Oper} {v:Value} {H' : List aL} (h:VS P N c o F H v) (ht:∀w,bN c.bs c.w0.heap.size H w→bN c.bs c.w0.heap.size H' w):RX (α:=Unit) P N c o F H (fun _=>True) (fun _=>v) (fun _=>H'):=
  fun D a w next Q hst hk=>h D a w next Q hst fun w' hw=>hk () w' trivial (hst.si.ext hw) (ht _ (hst.hp.ext hw))
theorem zW {bs:List Nat} {n0 b e sz:Nat} {w:World} {L:aQ α} [aZ L] {y:α} (hn:L.n = sz) (h:bN bs n0 (.cells b e (L.enc y)::H) w):bN bs n0 (Row (.slice (some ⟨b,0,none⟩) 1 1) e sz L [y]::H) w:=by
  have:=h.wZ (k:=0) (r:=.cells b e (L.enc y)) (r':=Row (.slice (some ⟨b,0,none⟩) 1 1) e sz L [y]) rfl (fun w hw=>by
    have hb:w.heap[b]? = some (.cells (L.enc y).toArray e (0,0)):=hw
    have e1:ep L [y] = L.enc y:=qq L y
    refine ⟨by rw [e1,bF,hn]; simp, .inr ⟨b,1,_,rfl,Nat.zero_le _,hb,Nat.le_refl _,by decide,by simp [bF,hn],?_⟩⟩
    rw [e1]
    exact List.take_of_length_le (by rw [bF,hn]; simp)) (fun x hx=>by simpa [aL.fA,Value.ownBlock] using hx)
  exact this
theorem AG {x:Operand} {t e sz:Nat} (L:aQ α) [aZ L] (y:α) {zs:List Value} {val:Value} [ht:pP P t e sz] [hz:cK P e zs] (hx:ev F x = some val) (hc:val.cells.toList = L.enc y) (hl:L.n = sz) (GU:zs.length = sz) (h0:0 < sz) (hs:sz ≤ 16777216) :
    RX P N c ⟨d, .buildSlice t 1 #[(0,x)],ty,ps,af,g⟩ F H (fun _=>True) (fun b=>.slice (some ⟨b,0,none⟩) 1 1) (fun b=>Row (.slice (some ⟨b,0,none⟩) 1 1) e sz L [y]::H):=
  fun D a w next Q hst hk=>mE L y hx hc hl GU h0 hs D a w next Q hst fun b w' hp hsi hh=>hk b w' hp hsi (zW hl hh)
theorem vP {w:World} {v:Value} {e sz n m:Nat} {xs:List Value} (h:(aL.row v e sz n xs).holds w) (hm:m ≤ n):(aL.row (ig 0 m sz v) e sz m (xs.take (m * sz))).holds w:=by
  obtain ⟨h1,h2⟩:=h
  have hle:m * sz ≤ n * sz:=Nat.mul_le_mul_right _ hm
  refine ⟨by rw [List.length_take,h1,Nat.min_eq_left hle],?_⟩
  rcases h2 with ⟨rfl,rfl⟩ | ⟨gb,cap,cur,rfl,q1,q2,q3,q4,q5,q6⟩
  · obtain rfl:m = 0:=by omega
    exact .inl ⟨by simp [ig],rfl⟩
  · refine .inr ⟨gb,cap,cur,?_,q1,q2,by omega,q4,q5,?_⟩
    · simp [ig,Addr.add_lit]
    · rw [← q6,List.take_take,Nat.min_eq_left hle]
theorem vB {v:Value} {n m sz:Nat} (h:jU v n):jU (ig 0 m sz v) m:=by
  obtain ⟨a,cp,rfl⟩:=h; exact ⟨_,_,rfl⟩
theorem qo (L:aQ α) [aZ L] (xs:List α) {m sz:Nat} (hn:L.n = sz) (hm:m ≤ xs.length):(ep L xs).take (m * sz) = ep L (xs.take m):=by
  have:=sJ L xs 0 m (Nat.zero_le _) hm
  subst hn
  simpa using this
theorem Cr {bs:List Nat} {n0 e sz m:Nat} {w:World} {v:Value} {L:aQ α} [aZ L] {xs:List α} {f:aL→List aL} [hr:lF H v e sz xs.length (ep L xs) f] (hn:L.n = sz) (hm:m ≤ xs.length) (h:bN bs n0 H w):bN bs n0 (f (Row (ig 0 m sz v) e sz L (xs.take m))) w:=by
  obtain ⟨k,k1,k2⟩:=hr.ok
  rw [k2]
  refine h.wZ k1 (fun w hw=>?_) (fun b hb=>?_)
  · have:=vP (m:=m) hw hm
    rw [qo L xs hn hm] at this
    have e1:(xs.take m).length = m:=by rw [List.length_take]; omega
    unfold Row; rw [e1]; exact this
  · simpa [aL.fA,yp] using hb
theorem qU {x hi:Operand} {t e sz m:Nat} {k:IntKind} {i:Int} {v:Value} {L:aQ α} [aZ L] {xs:List α} {f:aL→List aL} [ht:pP P t e sz] (hs:jU v xs.length) (hn:L.n = sz) (hx:ev F x = some v) (hhi:ev F hi = some (.int k i)) (hi' : i = (m:Int)) (hm:m ≤ xs.length) [hr:lF H v e sz xs.length (ep L xs) f] [Kn c H (Hs [Row v e sz L xs])] :
    RX (α:=Unit) P N c ⟨d, .slice t x none (some hi) none,ty,ps,af,g⟩ F H (fun _=>True) (fun _=>ig 0 m sz v) (fun _=>f (Row (ig 0 m sz v) e sz L (xs.take m))):=
  (wD (Fz.row (e:=e) hn.symm hs) hx hhi hi' hm).wZ fun _ hp=>Cr hn hm hp
theorem qp (L:aQ α) [aZ L] (z0:α) {z:Value} (he:L.enc z0 = [z]):∀n:Nat,ep L (List.replicate n z0) = List.replicate n z
  | 0=>rfl
  | n + 1=>by
    have:=qp L z0 he n
    rw [List.replicate_succ,List.replicate_succ]
    show L.enc z0++ep L (List.replicate n z0) = _
    rw [he,this]; rfl
theorem sI {P:Program} {w:World} {t e ty:Nat} (e1:P.underlying t = some (.slice e)) (a:Option Addr) (cp:Nat):(Builtin.clear_ #[t] ty #[.slice a 0 cp]).run P w = .ok (.tuple #[]) w:=by
  cases a <;> simp [Builtin.clear_,run_underlying e1]
theorem wG {L:aQ α} [aZ L] {xs ys:List α} {v:Value} {e t m:Nat} {z0:α} {z:Value} {x:Operand} {f:aL→List aL} (ht:vu P t e 1 = true) (hz:KP P e z) (he:L.enc z0 = [z]) (LM:z.cells = #[z]) (h1:z.oneCell' = true) (hL:L.n = 1) (hm:m ≤ xs.length)
    (hx:ev F x = some (ig m xs.length 1 v)) [hr:lF H v e 1 xs.length (ep L xs) f] (hy:ys = xs.take m++List.replicate (xs.length - m) z0) :
    RX (α:=Unit) P N c ⟨d, .call ⟨.builtin .clear,#[x],#[t]⟩,ty,ps,af,g⟩ F H (fun _=>True) (fun _=>.tuple #[]) (fun _=>f (Row v e 1 L ys)):=fun D a w next Q hst hk=>by
  obtain ⟨inf,e1,e2,e3⟩:=pP.get ht
  obtain ⟨k,k1,k2⟩:=hr.ok
  have zZ:aL.row v e 1 xs.length (ep L xs) ∈ H:=List.mem_of_getElem? k1
  have hown:w.ownsRow 0 e 1 v xs.length (ep L xs):=hst.hp.holds _ zZ
  obtain ⟨hlen,qK⟩:=hown
  have Km:=bp hst.fr hx
  have Bc:ys.length = xs.length:=by rw [hy,List.length_append,List.length_take,List.length_replicate]; omega
  by_cases hem:m = xs.length
  · have Kl:ys = xs:=by rw [hy,hem,List.take_length]; simp
    refine fS (by simp) (v:=.tuple #[]) (w':=w) ?_ (hk () w trivial hst.si ?_)
    · have hv:∃a0 cp,a.eval x = .slice a0 0 cp:=by
        rw [Km,hem]
        rcases qK with ⟨hv,h0⟩ | ⟨gb,cap,cur,hv,_⟩
        · rw [hv]; exact ⟨_,_,by rw [ig,Nat.sub_self]⟩
        · rw [hv]; exact ⟨_,_,by rw [ig,Nat.sub_self]⟩
      obtain ⟨a0,cp,hv⟩:=hv
      have:=sI (P:=P) (w:=w) (ty:=ty) e1 a0 cp
      simp [execOp,resolve,invoke,builtin,hv,this]
    · rw [k2]
      exact hst.hp.wZ k1 (fun w hw=>by rw [Kl]; exact hw) (fun b hb=>by rw [Kl] at hb; exact hb)
  · rcases qK with ⟨_,h0⟩ | ⟨gb,cap,cur,rfl,_,Bg,hnc,G1,hcs,vo⟩
    · omega
    have hone:hO (List.replicate (xs.length - m) z):=fun v hv=>by rw [List.eq_of_mem_replicate hv]; exact h1
    have hsc:=run_storeCells_at P gb m e (List.replicate (xs.length - m) z) 0 cur w Bg (by simp; omega) hone
    simp only [Nat.add_zero] at hsc
    obtain ⟨cs',CS⟩ : ∃cs',(cur.toList.take m++List.replicate (xs.length - m) z++cur.toList.drop (m + (List.replicate (xs.length - m) z).length)).toArray = cs':=⟨_,rfl⟩
    rw [CS] at hsc
    have lT:aY [gb] w (w.setRow gb cs'):=⟨rfl,rfl,rfl,by simp,fun k _ hk=>setRow_other w gb k _ (by simpa using hk)⟩
    refine fS (by simp) (v:=.tuple #[]) (w':=w.setRow gb cs') ?_ (hk () _ trivial (hst.si.store hst.hp zZ (by simp [aL.fA,Value.ownBlock]) lT) ?_)
    · obtain ⟨j,hj⟩ : ∃j,xs.length - m = j + 1:=⟨xs.length - m - 1,by omega⟩
      have Ib:=BQ hz w
      have LJ:=pS LM (j + 1)
      have hne:¬ cap = m:=by omega
      rw [hj] at hsc
      have LR:a.eval x = .slice (some ⟨gb,m,none⟩) (j + 1) (cap - m):=by rw [Km]; simp [ig,hne,Addr.add_lit,hj]
      simp [execOp,resolve,invoke,builtin,LR,Builtin.clear_,run_underlying e1,Ib,LJ,hsc]
    · show bN c.bs c.w0.heap.size (f (Row _ e 1 L ys)) _
      rw [Row,k2]
      have xK:=setRow_heap w gb cur cs' e (0,0) Bg
      have Jk:cur.toList.length = cap:=by simpa using hcs
      refine hst.hp.set k1 lT.size (fun j hj hn=>lT.block j hj (by simpa [aL.fA,Value.ownBlock] using hn)) ?_ hst.si.size (fun b' hb'=>?_)
      · refine ⟨by rw [k7,hL], .inr ⟨gb,cap,cs',by rw [Bc],Nat.zero_le _,xK,by omega,G1,?_,?_⟩⟩
        · rw [← CS]; simp; omega
        · rw [Bc,← CS,Nat.mul_one,hy,k8,qp L z0 he]
          have t1:=qo L xs (m:=m) (sz:=1) hL hm
          rw [Nat.mul_one] at t1
          rw [← t1,← vo,List.take_take,Nat.mul_one,Nat.min_eq_left hm]
          simp only [List.toList_toArray]
          rw [List.take_append_of_le_length (by simp; omega)]
          exact List.take_of_length_le (by simp; omega)
      · have h5:b' = gb:=by simpa [aL.fA,Value.ownBlock] using hb'
        subst h5
        exact ⟨.inl (by simp [aL.fA,Value.ownBlock]),Nat.lt_of_lt_of_le (Array.getElem?_eq_some_iff.1 Bg).1 lT.size⟩
theorem Gu {ops:Array Oper} {rest:List Oper} {op:Op} {dd:Tmp} {gg:Option (Nat × Bool)} {b:Bool} {p:α→Prop} {fv:α→Value} {fH:α→List aL} (hg:Gd ops F gg b) (hb:b = true) (hd:Nat.blt dd N = true) (hv:RX P N c ⟨some dd,op,ty,ps,af,gg⟩ F H p fv fH)
    (h:∀x,p x→WL P N c D ops Q rest ((dd,bif b then fv x else undef)::F) (fH x)):WL P N c D ops Q (⟨some dd,op,ty,ps,af,gg⟩::rest) F H:=by
  subst hb
  exact Gt hg hd (fun _=>hv) (fun _ x hx=>h x hx) nofun
theorem Gv {ops:Array Oper} {rest:List Oper} {op:Op} {dd:Tmp} {gg:Option (Nat × Bool)} {b:Bool} {v:Value} (hg:Gd ops F gg b) (hb:b = false) (hd:Nat.blt dd N = true)
    (h:WL P N c D ops Q rest ((dd,bif b then v else undef)::F) H):WL P N c D ops Q (⟨some dd,op,ty,ps,af,gg⟩::rest) F H:=by
  subst hb
  exact rZ hg hd h
theorem F1 {x y:Bool} (h:(x == false) = false) (hc:(x || y) = false):False:=by cases x <;> simp at h hc
theorem KE {x y b:Bool} (h:(x == false) = true) (hc:(x || y) = b):y = b:=by cases x <;> simp_all
end rules
end Go.Bw
namespace Go.Proofs.Ytbalnnoofdkbaaa
open Go Go.Bw
structure aN where
 At:Int
 N:Int
abbrev aj:aQ aN:=aQ.via (LP (LI .i64) (LI .i64)) (fun x=>(x.At,x.N))
abbrev gL:aN:=⟨0,0⟩
instance:Inhabited aN:=⟨gL⟩
theorem dO:bf aj (LI .i64) 0 (fun x=>x.At) (fun x v=>{ x with At:=v }):=(bf.fst bf.id).via _ _ _ 0 rfl (fun _=>rfl) (fun _ _=>rfl)
theorem dz:bf aj (LI .i64) 1 (fun x=>x.N) (fun x v=>{ x with N:=v }):=(bf.snd bf.id).via _ _ _ 1 rfl (fun _=>rfl) (fun _ _=>rfl)
def cG (n:Nat) (a0:aN):Option Int:=
 some (wr .i64 (a0.At + a0.N))
theorem gY {n a0 r}  (h:cG n a0 = some r):yW Try.prog 82 [.agg (aj.enc a0).toArray] (.int .i64 r):=by
 unfold cG at h
 refine eF Try.func82 (by kernel_rfl) rfl Try.ntmps82 rfl (fun cx cU hpre hro=>?_)
 refine SC 2 rf ?_
 refine W1 rf (fz aj a0 rfl rfl) fun b1=>?_
 refine SL 6 rf ?_
 refine ah rfl (bD dO rfl) ?_
 refine ah rfl (aK rfl) ?_
 refine ah rfl (bD dz rfl) ?_
 refine SL 5 rf ?_
 have h:=sj h; subst h
 exact RV rf (rt rf rn) rf
def jh (n:Nat) (a0:aN):Option Bool:=
 some ((decide (1 ≤ a0.N) && decide (0 ≤ a0.At)) && decide (a0.At ≤ (wr .i64 (64 - a0.N))))
theorem pD {n a0 r}  (h:jh n a0 = some r):yW Try.prog 80 [.agg (aj.enc a0).toArray] (.bool r):=by
 unfold jh at h
 refine eF Try.func80 (by kernel_rfl) rfl Try.ntmps80 rfl (fun cx cU hpre hro=>?_)
 refine SC 2 rf ?_
 refine W1 rf (fz aj a0 rfl rfl) fun b1=>?_
 refine SL 6 rf ?_
 refine ah rfl (bD dz rfl) ?_
 refine SL 2 rf ?_
 refine GB rf rf rf (fun hb=>aK rfl) ?_
 refine GB rf rf rf (fun hb=>bD dO (cT rfl hb)) ?_
 refine GB rf rf rf (fun hb=>lE (cT rfl hb) rfl) ?_
 refine ah rfl (ec rfl rfl) ?_
 refine ah rfl (ak rfl) ?_
 refine GB rf rf rf (fun hb=>aK rfl) ?_
 refine GB rf rf rf (fun hb=>bD dO (cT rfl hb)) ?_
 refine GB rf rf rf (fun hb=>aK rfl) ?_
 refine GB rf rf rf (fun hb=>bD dz (cT rfl hb)) ?_
 refine GB rf rf rf (fun hb=>r5 rfl (cT rfl hb) rfl) ?_
 refine GB rf rf rf (fun hb=>r7 (cT rfl hb) (cT rfl hb)) ?_
 refine ah rfl (ec rfl rfl) ?_
 refine SL 4 rf ?_
 have h:=sj h; subst h
 exact RV rf (rt rf rn) rf
def iW (n:Nat) (a0:(List aN)):Option (List aN):=
 some a0
theorem mT {n a0 r K} [bT K] {v0} (f0:Fz K v0 aj a0) (h:iW n a0 = some r):Bw.Fn (α:=Nat × List Value) Try.prog 85 [v0] K [] (fun (b0,c0)=>((oJ aj)).rep K c0 r) (fun (b0,c0)=>.func (.func 87) #[] #[Ptr b0 0]) (fun (b0,c0)=>[.cells b0 33 c0]):=by
 unfold iW at h
 refine fo Try.func85 (by kernel_rfl) rfl Try.ntmps85 rfl fun cx _ hro cU hpre=>?_
 refine SC 2 rf ?_
 refine W1 rf (vC rfl f0.sl.cells) fun b1=>?_
 refine SL 10 rf ?_
 have h:=sj h; subst h
 exact cg ⟨b1,[v0]⟩ rfl (.tmp rfl .nil) (aQ.mono _ dg ⟨_,rfl,f0⟩) rfl (ks:=[0]) rfl (by decide)
structure cm where
 l:(List aN)
abbrev bU:aQ cm:=aQ.via (oJ aj) (fun x=>x.l)
abbrev iQ:cm:=⟨[]⟩
def eH:List Value:=[.slice none 0 0]
theorem fZ {A:World→Prop}:bU.rep A eH iQ:=⟨_,rfl,Fz.nil⟩
theorem qe:bf bU (oJ aj) 0 (fun x=>x.l) (fun x v=>{ x with l:=v }):=bf.id.via _ _ _ 0 rfl (fun _=>rfl) (fun _ _=>rfl)
def gS (n:Nat) (a0:cm):Option (List aN):=
 bd (iW n a0.l) fun kq =>
 some kq
theorem nE {n a0 r K} [bT K] {dM} (f0:(bU).rep K dM a0) (h:gS n a0 = some r):Bw.Fn (α:=Nat × List Value) Try.prog 81 [A dM] K [] (fun (b0,c0)=>((oJ aj)).rep K c0 r) (fun (b0,c0)=>.func (.func 87) #[] #[Ptr b0 0]) (fun (b0,c0)=>[.cells b0 33 c0]):=by
 unfold gS at h
 refine fo Try.func81 (by kernel_rfl) rfl Try.ntmps81 rfl fun cx _ hro cU hpre=>?_
 refine SC 2 rf ?_
 refine W1 rf (cH rfl) fun b1=>?_
 obtain ⟨kq,nq,h⟩:=bM h
 refine SL 6 rf ?_
 obtain ⟨Hx,uo,f22⟩:=qe.sl f0
 refine ah rfl (cQ rfl uo) ?_
 refine cu rfl (fK (mT (K:=K) (f22.mono dg) nq) rfl kn) (fun ⟨J4,Gn⟩ f26=>?_)
 replace f26:((oJ aj)).rep K Gn kq:=f26
 dsimp only [List.cons_append,List.nil_append]
 refine SL 4 rf ?_
 have h:=sj h; subst h
 exact cg ⟨J4,Gn⟩ rfl (.tmp rfl .nil) (mo f26) rfl (ks:=[0]) rfl (by decide)
def eI (n:Nat) (a1:(List aN)):Option (List (Int × aN)):=
 dk (fun A8 (eo:Int) =>
 cn (decide (eo < (a1.length:Int))) (
 gu (dB eo a1.length) <|
 lt ((a1.getD (Int.toNat eo) default):aN) fun iD =>
 yl (eo,iD) <|
 A8 (wr .i64 (eo + 1))) (
 some [])) n 0
theorem lg {n:Nat} {a1:(List aN)} {l:List (Int × aN)} {K:World→Prop} {q1:Nat} {n4:List Value} (f1:((oJ aj)).rep K n4 a1) (h:eI n a1 = some l):vI Try.prog 87 [Ptr q1 0] [.cells q1 33 n4] K (fun k=>[.int .i64 ((l.getD k default).1), .agg (aj.enc ((l.getD k default).2)).toArray]) l.length:=by
 unfold eI at h
 refine ⟨fun y J Jx bs=>eF Try.func87 (by kernel_rfl) rfl Try.ntmps87 rfl (fun cx cU hpre hro=>?_)⟩
 haveI:=iz (show cx.bs = bs++bz [.cells q1 33 n4] from cU) hpre.1
 have hR:Br Try.prog y cx.bs cx.w0 J Jx (fun k=>[.int .i64 ((l.getD k default).1), .agg (aj.enc ((l.getD k default).2)).toArray]) l.length:=by rw [show cx.bs = bs++bz [.cells q1 33 n4] from cU]; exact hpre.2
 have CR:l.drop 0 = l:=rfl
 have Cz:0 ≤ l.length:=Nat.zero_le _
 refine SC 2 rf ?_
 obtain ⟨Hx,uo,f22⟩:=(bf.id (L:=(oJ aj))).sl f1
 refine ah rfl (cQ rfl uo) ?_
 refine ah rfl (fJ f22 rfl) ?_
 refine SL 4 rf ?_
 obtain ⟨zF,xS,h⟩:=nW h
 refine LO (β:=Int × Nat × (List (Int × aN)) × (List Nat)) [0,5,6] [0,1] (fun (tZ,eo,j7,Ey,rK)=>[(7, .int .i64 eo)]) (fun (tZ,eo,j7,Ey,rK)=>[.ext rK (J j7 rK), .cells q1 33 n4]) (fun (tZ,eo,j7,Ey,rK)=>l.drop j7 = Ey∧j7 ≤ l.length∧dk zF tZ eo = some Ey) (n,0,0,l,bs) ⟨CR,Cz,h⟩ rf rf rf ?_
 rintro tZ ⟨eo,j7,Ey,rK⟩ ⟨FW,I8,h⟩
 replace h:=nV xS h; obtain ⟨tZ,rfl,h⟩:=h
 refine SC 6 rf ?_
 refine jc h rf (fun hc h=>?_) fun hc h=>?_
 ·
  obtain ⟨od,h⟩:=eX h
  obtain ⟨iD,rB,h⟩:=dj h
  refine SC 7 rf ?_
  refine ah rfl (gM (m:=(Int.toNat eo)) f22 rfl rfl rfl (aV od).1 (aV od).2) ?_
  refine ah rfl (oG (M:=aj) f22 (bf.idx (L:=aj) (m:=(a1.length)) (k:=2) ((Int.toNat eo)) (aV od).2 rfl) rfl rfl (by decide)) ?_
  refine W1 rf (cL (L:=aj) (z:=gL) ⟨by kernel_rfl⟩) fun b4=>?_
  refine ah rfl (aP rfl) ?_
  refine W0 (dx (M:=aj) (bf.id (L:=aj)) (a1.getD (Int.toNat eo) default) iD rB rfl rfl rfl rfl) ?_
  refine SL 3 rf ?_
  obtain ⟨Lj,IM,h⟩:=zb h
  obtain ⟨I4,x3,Jj,I2⟩:=drop_cons (FW.trans IM)
  refine SC 3 rf ?_
  refine ah rfl (eC (M:=aj) (bf.id (L:=aj)) rfl rfl) ?_
  refine cu rfl (m7 (bs:=rK) hR I4 hro rfl (show og _ _ = some [.int .i64 ((l.getD j7 default).1), .agg (aj.enc ((l.getD j7 default).2)).toArray] by rw [x3]; rfl)) (fun ⟨F5,Ga⟩ _=>?_)
  refine SL 3 rf ?_
  refine gB rfl (fun hc=>?_) (fun hc=>?_)
  ·
   obtain rfl:F5 = false:=by simpa using hc
   dsimp only [cond_true,cond_false]
   refine SC 5 rf ?_
   exact cg (false,Ga) rfl .nil trivial rfl (ks:=[1,2]) rfl (by decide)
  ·
   obtain rfl:F5 = true:=by simpa using hc
   dsimp only [cond_true,cond_false]
   refine SC 7 rf ?_
   exact LN [1,2] (wr .i64 (eo + 1),j7 + 1,Lj,Ga) ⟨Jj,I2,h⟩ rf rf rf
 ·
  refine SC 4 rf ?_
  have h:=sj h; subst h
  have JL:=drop_nil FW I8
  refine oD (ks:=[0,1]) (H':=[.ext rK (J (j7) rK), .cells q1 33 n4]) rfl (by decide) ?_
  refine oE (J:=J) (n:=l.length) JL ?_
  exact pJ (true,rK) rfl .nil trivial rfl (ks:=[0,1]) rfl (by decide)
def fR (n:Nat) (a0:cm) (a1:Int) (a2:Int):Option (cm × Bool):=
 lt ({ At:=a1,N:=a2 }:aN) fun bu =>
 bd (jh n bu) fun cZ =>
 cn ((!cZ)) (
 some (a0,false)) (
 bd (gS n a0) fun fL =>
 bd (eI n fL) fun bW =>
 ob (fun (Gc:Int × aN) zJ (fO:Bool) (fE:(List aN)) (dA:aN) =>
 lt (Gc.1:Int) fun u6 =>
 lt (Gc.2:aN) fun m9 =>
 bd (cG n m9) fun oM =>
 cn (decide (oM < dA.At)) (
 gu (jY fE.length 1 16) <|
 lt (fE++([m9]):List aN) fun mc =>
 zJ fO mc dA) (
 bd (cG n dA) fun GN =>
 cn (decide (GN < m9.At)) (
 lt (fun (wV:Bool) (tL:(List aN)) =>
 gu (jY tL.length 1 16) <|
 lt (tL++([m9]):List aN) fun u4 =>
 zJ wV u4 dA) fun A9 =>
 cn ((!fO)) (
 gu (jY fE.length 1 16) <|
 lt (fE++([dA]):List aN) fun mb =>
 A9 true mb) (
 A9 fO fE)) (
 bd (cG n m9) fun uZ =>
 cn ((uZ == dA.At)) (
 lt ({ At:=m9.At,N:=wr .i64 (m9.N + dA.N) }:aN) fun AR =>
 zJ fO fE AR) (
 bd (cG n dA) fun vJ =>
 cn ((m9.At == vJ)) (
 lt ({ dA with N:=wr .i64 (dA.N + m9.N) }:aN) fun DP =>
 zJ fO fE DP) (
 some (a0,false)))))) (fun (fO:Bool) (fE:(List aN)) (dA:aN) =>
 cn ((!fO)) (
 gu (jY fE.length 1 16) <|
 lt (fE++([dA]):List aN) fun ow =>
 lt ({ l:=ow }:cm) fun tK =>
 some (tK,true)) (
 lt ({ l:=fE }:cm) fun Bx =>
 some (Bx,true))) bW false ([]:List aN) bu)
theorem nF {n a0 a1 a2 r K} [bT K] {dM} (f0:(bU).rep K dM a0) (h:fR n a0 a1 a2 = some r):tJ Try.prog 73 [A dM, .int .i64 a1, .int .i64 a2] K (fun J v=>∃u0,v = (.tuple #[A u0, .bool r.2])∧(bU).rep (fun w=>K w∧J w) u0 (r.1)):=by
 unfold fR at h
 refine fo Try.func73 (by kernel_rfl) rfl Try.ntmps73 rfl fun cx _ hro cU hpre=>?_
 refine SC 2 rf ?_
 refine W1 rf (cH rfl) fun b3=>?_
 refine W1 rf (bK (hz:=(⟨by kernel_rfl⟩ : cK Try.prog 138 eH))) fun b6=>?_
 refine W1 rf (cL (L:=LB) (z:=false) ⟨by kernel_rfl⟩) fun b7=>?_
 obtain ⟨bu,cS,h⟩:=dj h
 refine SL 6 rf ?_
 refine ah rfl (iS (cs:=aj.enc bu) rfl (by rw [cS]; rfl)) ?_
 refine W1 rf (cL (L:=aj) (z:=gL) ⟨by kernel_rfl⟩) fun b8=>?_
 refine W0 (dx (M:=aj) (bf.id (L:=aj)) bu bu rfl rfl rfl rfl rfl) ?_
 obtain ⟨cZ,kQ,h⟩:=bM h
 refine SL 5 rf ?_
 refine ah rfl (eC (M:=aj) (bf.id (L:=aj)) rfl rfl) ?_
 refine CV (pD kQ) rf rf ?_
 refine SL 3 rf ?_
 refine jc h rf (fun hc h=>?_) fun hc h=>?_
 ·
  refine SC 2 rf ?_
  refine ah rfl (ay rfl (aQ.len _ f0)) ?_
  refine ST (C:=K) a0 (bf.id (L:=bU)) fZ (mo f0) rf rf rf rf rf fun D1 f24=>?_
  refine W0 (dx (M:=LB) (bf.id (L:=LB)) false false rfl rfl rfl rfl rfl) ?_
  refine SL 4 rf ?_
  have h:=sj h; subst h
  exact pQ [] rf rf (ra rf (aQ.len _ f24) (ro rf rfl rn)) ⟨_,rfl,(mo f24)⟩
 ·
  refine SC 4 rf ?_
  refine W1 rf (bK (hz:=(⟨by kernel_rfl⟩ : cK Try.prog 33 [.slice none 0 0]))) fun b9=>?_
  refine SL 4 rf ?_
  refine W1 rf (cL (L:=LB) (z:=false) ⟨by kernel_rfl⟩) fun wR=>?_
  refine W0 (dx (M:=LB) (bf.id (L:=LB)) false false rfl rfl rfl rfl rfl) ?_
  obtain ⟨fL,um,h⟩:=bM h
  refine SL 5 rf ?_
  refine ah rfl (ay rfl (aQ.len _ f0)) ?_
  refine cu rfl (fK (nE (K:=K) (mo f0) um) rfl kn) (fun ⟨No,pO⟩ f29=>?_)
  replace f29:((oJ aj)).rep K pO fL:=f29
  dsimp only [List.cons_append,List.nil_append]
  refine SL 3 rf ?_
  obtain ⟨bW,pY,h⟩:=bM h
  refine rY 124 2 aj ?_
  obtain ⟨Ca,FC,Dc,FM,h⟩:=EY h
  refine ki (K:=K) (α:=Bool × (List aN) × aN × Value) (β:=Bool × (List aN) × aN × cm × Value × (List Value)) hro rfl (lg (K:=K) (mo f29) pY) (fun _=>rfl) rfl (fun zH=>fun (fO,fE,dA,sw)=>jU sw fE.length∧ob Ca Dc (bW.drop zH) fO fE dA = some r) (fun zH=>fun (fO,fE,dA,sw)=>[Row sw 124 2 aj fE, .cells wR 4 (LB.enc fO), .cells b9 33 ([sw]), .cells b8 124 (aj.enc dA), .cells b7 4 (LB.enc false), .cells b6 138 eH, .cells b3 138 dM]) (fun j=>fun (kN,GO,nc,Eh,BE,wP)=>j = Code.ret∧jU BE GO.length∧(bU).rep K wP Eh∧some (Eh,false) = some r) (fun (kN,GO,nc,Eh,BE,wP)=>[Row BE 124 2 aj GO, .cells wR 4 (LB.enc kN), .cells b9 33 ([BE]), .cells b8 124 (aj.enc nc), .cells b7 4 (LB.enc false), .cells b6 138 wP, .cells b3 138 dM]) ⟨false,([]:List aN),bu, .slice none 0 0⟩ ⟨⟨_,_,rfl⟩,h⟩ (ks:=[1,0,2,3,4,5,6,7]) rfl (by decide) ?_ ?_ ?_
  ·
   rintro zH ⟨fO,fE,dA,sw⟩ lo dd rec c' hk ⟨pb,h⟩ nX rE mm hsi hT
   replace h:ob Ca Dc (bW.drop zH) fO fE dA = some r:=h
   replace h:=EW FC hk h
   haveI:=ld (K:=K) hsi
   dsimp only [oa]
   obtain ⟨u6,zQ,h⟩:=dj h
   rw [← zQ]
   obtain ⟨m9,Im,h⟩:=dj h
   rw [← Im]
   refine az ?_
   refine W1 rf (cL (L:=aj) (z:=gL) ⟨by kernel_rfl⟩) fun J5=>?_
   refine W0 (dx (M:=aj) (bf.id (L:=aj)) m9 m9 rfl rfl rfl rfl rfl) ?_
   refine aW ?_
   refine iR nX mm ?_
   refine SC 3 rf ?_
   obtain ⟨oM,sU,h⟩:=bM h
   refine g8 mixed (.oQ [] [(0,[12]),(1,[26]),(2,[8]),(3,[28]),(4,[27,29])] (.alt 5 [30] (.fin [] []) .no)) (by kernel_rfl) ?_
   refine T0 ?_
   refine NV rf rf (eC (M:=aj) (bf.id (L:=aj)) rfl rfl) ?_
   refine NC rf rf (gY sU) rf ?_
   refine NS 1 rf ?_
   refine NV rf rf (bD dO rfl) ?_
   refine NE 1 rf ?_
   refine XV rf rf (aP rfl) ?_
   refine AO ?_
   refine aE ?_
   refine jc h rf (fun hc h=>?_) fun hc h=>?_
   ·
    obtain ⟨FI,h⟩:=eX h
    obtain ⟨mc,E3,h⟩:=dj h
    refine az ?_
    refine ah rfl (cQ rfl rfl) ?_
    refine ah rfl (eC (M:=aj) (bf.id (L:=aj)) rfl rfl) ?_
    refine cu rfl (mE aj m9 rfl rfl rfl rfl (by decide) (by decide)) (fun Nm _=>?_)
    refine cu rfl (lQ (sz:=2) (L:=aj) (xs:=fE) (y:=m9) (bytes:=16) rfl rfl rfl (g5 FI).1 (g5 FI).2) (fun El zV=>?_)
    rw [← E3] at zV; rw [← E3]
    refine W0 (dL (cs':=[El]) [El] (bf.id (L:=(oJ aj))) (v:=mc) ⟨_,rfl,(Fz.row (e:=124) (sz:=2) (L:=aj) (xs:=fE) rfl pb)⟩ (rv:=(⟨_,rfl,(Fz.row (e:=124) (sz:=2) (L:=aj) (xs:=mc) rfl zV)⟩ : ((oJ aj)).rep (Hs [Row El 124 2 aj mc]) [El] mc)) rfl rfl (Fz.row (e:=124) (sz:=2) (L:=aj) (xs:=mc) rfl zV).sl.cells rfl rfl) ?_
    refine SL 3 rf ?_
    exact g7 nX rE hT ⟨fO,mc,dA,El⟩ ⟨zV,h⟩ (ks:=[2,3,4,5,6,7,8,9,10]) rfl (by decide)
   ·
    refine aU ?_
    obtain ⟨GN,Il,h⟩:=bM h
    refine g8 mixed (.oQ [] [(0,[12]),(1,[36]),(2,[8]),(3,[38]),(4,[37,39])] (.alt 5 [40] (.fin [] []) .no)) (by kernel_rfl) ?_
    refine T0 ?_
    refine NS 1 rf ?_
    refine NV rf rf (bD dO rfl) ?_
    refine NV rf rf (eC (M:=aj) (bf.id (L:=aj)) rfl rfl) ?_
    refine NC rf rf (gY Il) rf ?_
    refine NE 1 rf ?_
    refine XV rf rf (aP rfl) ?_
    refine AO ?_
    refine aE ?_
    refine jc h rf (fun hc h=>?_) fun hc h=>?_
    ·
     obtain ⟨A9,I9,h⟩:=dj h
     refine CU (α:=Bool × (List aN) × Value) [9,12] rf (fun (wV,tL,DQ)=>[]) (fun (wV,tL,DQ)=>[.cells J5 124 (aj.enc m9), .obj dd (.deferred (some [])), .obj lo (.loop { rec with state:=.busy }),Row DQ 124 2 aj tL, .cells wR 4 (LB.enc wV), .cells b9 33 ([DQ]), .cells b8 124 (aj.enc dA), .cells b7 4 (LB.enc false), .cells b6 138 eH, .cells b3 138 dM]) (fun (wV,tL,DQ)=>jU DQ tL.length∧A9 wV tL = some r) ?_ ?_
     ·
      refine SC 2 rf ?_
      refine ah rfl (mC (bf.id (L:=LB)) rfl) ?_
      refine SL 3 rf ?_
      refine jc h rf (fun hc h=>?_) fun hc h=>?_
      ·
       obtain ⟨FH,h⟩:=eX h
       obtain ⟨mb,E2,h⟩:=dj h
       refine SC 2 rf ?_
       refine ah rfl (cQ rfl rfl) ?_
       refine ah rfl (eC (M:=aj) (bf.id (L:=aj)) rfl rfl) ?_
       refine cu rfl (mE aj dA rfl rfl rfl rfl (by decide) (by decide)) (fun Nl _=>?_)
       refine cu rfl (lQ (sz:=2) (L:=aj) (xs:=fE) (y:=dA) (bytes:=16) rfl rfl rfl (g5 FH).1 (g5 FH).2) (fun Ek zU=>?_)
       rw [← E2] at zU; rw [← E2]
       refine W0 (dL (cs':=[Ek]) [Ek] (bf.id (L:=(oJ aj))) (v:=mb) ⟨_,rfl,(Fz.row (e:=124) (sz:=2) (L:=aj) (xs:=fE) rfl pb)⟩ (rv:=(⟨_,rfl,(Fz.row (e:=124) (sz:=2) (L:=aj) (xs:=mb) rfl zU)⟩ : ((oJ aj)).rep (Hs [Row Ek 124 2 aj mb]) [Ek] mb)) rfl rfl (Fz.row (e:=124) (sz:=2) (L:=aj) (xs:=mb) rfl zU).sl.cells rfl rfl) ?_
       refine SL 3 rf ?_
       refine W0 (dx (M:=LB) (bf.id (L:=LB)) true true rfl rfl rfl rfl rfl) ?_
       refine aW ?_
       exact CE [1,2,3,4,5,6,7,8,9,10] (true,mb,Ek) ⟨zU,h⟩ rf rf rf
      ·
       refine gG ?_
       exact CE [0,1,2,3,4,5,6,7,8,9] (fO,fE,sw) ⟨pb,h⟩ rf rf rf
     ·
      rintro ⟨wV,tL,DQ⟩ ⟨IB,h⟩
      replace h:A9 wV tL = some r:=h
      replace h:=EU I9 h
      obtain ⟨FG,h⟩:=eX h
      obtain ⟨u4,E1,h⟩:=dj h
      refine az ?_
      refine ah rfl (cQ rfl rfl) ?_
      refine ah rfl (eC (M:=aj) (bf.id (L:=aj)) rfl rfl) ?_
      refine cu rfl (mE aj m9 rfl rfl rfl rfl (by decide) (by decide)) (fun Nk _=>?_)
      refine cu rfl (lQ (sz:=2) (L:=aj) (xs:=tL) (y:=m9) (bytes:=16) rfl rfl rfl (g5 FG).1 (g5 FG).2) (fun Ej zT=>?_)
      rw [← E1] at zT; rw [← E1]
      refine W0 (dL (cs':=[Ej]) [Ej] (bf.id (L:=(oJ aj))) (v:=u4) ⟨_,rfl,(Fz.row (e:=124) (sz:=2) (L:=aj) (xs:=tL) rfl IB)⟩ (rv:=(⟨_,rfl,(Fz.row (e:=124) (sz:=2) (L:=aj) (xs:=u4) rfl zT)⟩ : ((oJ aj)).rep (Hs [Row Ej 124 2 aj u4]) [Ej] u4)) rfl rfl (Fz.row (e:=124) (sz:=2) (L:=aj) (xs:=u4) rfl zT).sl.cells rfl rfl) ?_
      refine SL 3 rf ?_
      exact g7 nX rE hT ⟨wV,u4,dA,Ej⟩ ⟨zT,h⟩ (ks:=[2,3,4,5,6,7,8,9,10]) rfl (by decide)
    ·
     refine aU ?_
     obtain ⟨uZ,xJ,h⟩:=bM h
     refine g8 mixed (.oQ [] [(0,[12]),(1,[52]),(2,[8]),(3,[54]),(4,[53,55])] (.alt 5 [56] (.fin [] []) .no)) (by kernel_rfl) ?_
     refine T0 ?_
     refine NV rf rf (eC (M:=aj) (bf.id (L:=aj)) rfl rfl) ?_
     refine NC rf rf (gY xJ) rf ?_
     refine NS 1 rf ?_
     refine NV rf rf (bD dO rfl) ?_
     refine NE 1 rf ?_
     refine XV rf rf (aP rfl) ?_
     refine AO ?_
     refine aE ?_
     refine jc h rf (fun hc h=>?_) fun hc h=>?_
     ·
      obtain ⟨AR,Ik,h⟩:=dj h
      refine SC 2 rf ?_
      refine ah rfl (bD dO rfl) ?_
      refine ah rfl (aK rfl) ?_
      refine ah rfl (bD dz rfl) ?_
      refine ah rfl (aK rfl) ?_
      refine ah rfl (bD dz rfl) ?_
      refine ah rfl (mD rfl rfl rfl) ?_
      refine ah rfl (iS (cs:=aj.enc AR) rfl (by rw [Ik]; rfl)) ?_
      refine W0 (dx (M:=aj) (bf.id (L:=aj)) AR AR rfl rfl rfl rfl rfl) ?_
      refine SL 3 rf ?_
      exact g7 nX rE hT ⟨fO,fE,AR,sw⟩ ⟨pb,h⟩ (ks:=[1,2,3,4,5,6,7,8,9]) rfl (by decide)
     ·
      refine aU ?_
      obtain ⟨vJ,Cg,h⟩:=bM h
      refine g8 mixed (.oQ [] [(0,[12]),(1,[66]),(2,[8]),(3,[68]),(4,[67,69])] (.alt 5 [70] (.fin [] []) .no)) (by kernel_rfl) ?_
      refine T0 ?_
      refine NS 1 rf ?_
      refine NV rf rf (bD dO rfl) ?_
      refine NV rf rf (eC (M:=aj) (bf.id (L:=aj)) rfl rfl) ?_
      refine NC rf rf (gY Cg) rf ?_
      refine NE 1 rf ?_
      refine XV rf rf (aP rfl) ?_
      refine AO ?_
      refine aE ?_
      refine jc h rf (fun hc h=>?_) fun hc h=>?_
      ·
       obtain ⟨DP,Ij,h⟩:=dj h
       refine SC 2 rf ?_
       refine ah rfl (bD dz rfl) ?_
       refine ah rfl (aK rfl) ?_
       refine ah rfl (bD dz rfl) ?_
       refine SL 2 rf ?_
       refine W0 (dx (M:=(LI .i64)) dz (wr .i64 (dA.N + m9.N)) DP Ij rfl rfl rfl rfl) ?_
       refine SL 3 rf ?_
       exact g7 nX rE hT ⟨fO,fE,DP,sw⟩ ⟨pb,h⟩ (ks:=[1,2,3,4,5,6,7,8,9]) rfl (by decide)
      ·
       refine SC 2 rf ?_
       refine ah rfl (ay rfl (aQ.len _ f0)) ?_
       refine ST (C:=K) a0 (bf.id (L:=bU)) fZ (mo f0) rf rf rf rf rf fun Mu f81=>?_
       refine W0 (dx (M:=LB) (bf.id (L:=LB)) false false rfl rfl rfl rfl rfl) ?_
       refine SL 5 rf ?_
       exact Ap hT (.inl ⟨rfl,rfl⟩) ⟨Code.ret,fO,fE,dA,a0,sw,Mu⟩ ⟨rfl,pb,(mo f81),h⟩ (ks:=[1,2,3,4,5,6,7,8,9]) rfl (by decide)
  ·
   rintro Ae ⟨fO,fE,dA,sw⟩ ⟨pb,h⟩
   replace h:ob Ca Dc (bW.drop bW.length) fO fE dA = some r:=h
   replace h:=EX FM rfl h
   dsimp only [List.cons_append,List.nil_append]
   refine SX 5 rf ?_
   refine ah rfl (mC (bf.id (L:=LB)) rfl) ?_
   refine SL 3 rf ?_
   refine jc h rf (fun hc h=>?_) fun hc h=>?_
   ·
    obtain ⟨FF,h⟩:=eX h
    obtain ⟨ow,zP,h⟩:=dj h
    refine az ?_
    refine ah rfl (cQ rfl rfl) ?_
    refine ah rfl (eC (M:=aj) (bf.id (L:=aj)) rfl rfl) ?_
    refine cu rfl (mE aj dA rfl rfl rfl rfl (by decide) (by decide)) (fun Nj _=>?_)
    refine cu rfl (lQ (sz:=2) (L:=aj) (xs:=fE) (y:=dA) (bytes:=16) rfl rfl rfl (g5 FF).1 (g5 FF).2) (fun wL we=>?_)
    rw [← zP] at we; rw [← zP]
    refine W0 (dL (cs':=[wL]) [wL] (bf.id (L:=(oJ aj))) (v:=ow) ⟨_,rfl,(Fz.row (e:=124) (sz:=2) (L:=aj) (xs:=fE) rfl pb)⟩ (rv:=(⟨_,rfl,(Fz.row (e:=124) (sz:=2) (L:=aj) (xs:=ow) rfl we)⟩ : ((oJ aj)).rep (Hs [Row wL 124 2 aj ow]) [wL] ow)) rfl rfl (Fz.row (e:=124) (sz:=2) (L:=aj) (xs:=ow) rfl we).sl.cells rfl rfl) ?_
    obtain ⟨tK,Ce,h⟩:=dj h
    refine SL 4 rf ?_
    refine ah rfl (cQ rfl rfl) ?_
    obtain ⟨G4,Jl,f89⟩ : ∃cc,[wL] = cc∧(bU).rep (Hs [Row wL 124 2 aj ow]) cc tK:=⟨_,rfl,by rw [Ce]; exact ⟨_,rfl,(Fz.row (e:=124) (sz:=2) (L:=aj) (xs:=ow) rfl we).mono dg⟩⟩
    refine ah rfl (iS (cs:=G4) rfl (by rw [← Jl]; first | rfl | (simp [n3,bw,show ∀k i,(Value.int k i).cells = #[Value.int k i] from fun _ _=>rfl,show ∀q,(Value.bool q).cells = #[Value.bool q] from fun _=>rfl,show ∀a,(Value.agg a).cells = a from fun _=>rfl,(Fz.row (e:=124) (sz:=2) (L:=aj) (xs:=ow) rfl we).sl.cells,(Fz.row (e:=124) (sz:=2) (L:=aj) (xs:=ow) rfl we).sl.size]; try rfl))) ?_
    refine ST (C:=(Hs [Row wL 124 2 aj ow])) tK (bf.id (L:=bU)) fZ (mo f89) rf rf rf rf rf fun JZ f91=>?_
    refine W0 (dx (M:=LB) (bf.id (L:=LB)) true true rfl rfl rfl rfl rfl) ?_
    refine SL 3 rf ?_
    have h:=sj h; subst h
    refine bP (R:=[Row wL 124 2 aj ow]) (H':=[.obj Ae (.deferred (some [])), .cells b7 4 (LB.enc true), .cells b6 138 JZ]) (ks:=[3,1,7,8]) rfl (by decide) ?_
    have Lm:(bU).rep (fun w=>K w∧(Hs [.ext (bz [Row wL 124 2 aj ow]) (Hs [Row wL 124 2 aj ow])]) w) JZ tK:=aQ.mono _ dg f91
    exact iA (.tuple #[A JZ, .bool true],bz [Row wL 124 2 aj ow],Hs [Row wL 124 2 aj ow]) rfl (.agg rfl inferInstance inferInstance (aQ.len _ f91) (.one rfl inferInstance inferInstance rfl .nil)) ⟨_,rfl,Lm⟩ rfl (ks:=[0]) rfl (by decide)
   ·
    obtain ⟨Bx,Ig,h⟩:=dj h
    refine SC 4 rf ?_
    refine ah rfl (cQ rfl rfl) ?_
    obtain ⟨G2,CX,f95⟩ : ∃cc,[sw] = cc∧(bU).rep (Hs [Row sw 124 2 aj fE]) cc Bx:=⟨_,rfl,by rw [Ig]; exact ⟨_,rfl,(Fz.row (e:=124) (sz:=2) (L:=aj) (xs:=fE) rfl pb).mono dg⟩⟩
    refine ah rfl (iS (cs:=G2) rfl (by rw [← CX]; first | rfl | (simp [n3,bw,show ∀k i,(Value.int k i).cells = #[Value.int k i] from fun _ _=>rfl,show ∀q,(Value.bool q).cells = #[Value.bool q] from fun _=>rfl,show ∀a,(Value.agg a).cells = a from fun _=>rfl,(Fz.row (e:=124) (sz:=2) (L:=aj) (xs:=fE) rfl pb).sl.cells,(Fz.row (e:=124) (sz:=2) (L:=aj) (xs:=fE) rfl pb).sl.size]; try rfl))) ?_
    refine ST (C:=(Hs [Row sw 124 2 aj fE])) Bx (bf.id (L:=bU)) fZ (mo f95) rf rf rf rf rf fun JY f97=>?_
    refine W0 (dx (M:=LB) (bf.id (L:=LB)) true true rfl rfl rfl rfl rfl) ?_
    refine SL 3 rf ?_
    have h:=sj h; subst h
    refine bP (R:=[Row sw 124 2 aj fE]) (H':=[.obj Ae (.deferred (some [])), .cells b7 4 (LB.enc true), .cells b6 138 JY]) (ks:=[2,0,6,7]) rfl (by decide) ?_
    have Ll:(bU).rep (fun w=>K w∧(Hs [.ext (bz [Row sw 124 2 aj fE]) (Hs [Row sw 124 2 aj fE])]) w) JY Bx:=aQ.mono _ dg f97
    exact iA (.tuple #[A JY, .bool true],bz [Row sw 124 2 aj fE],Hs [Row sw 124 2 aj fE]) rfl (.agg rfl inferInstance inferInstance (aQ.len _ f97) (.one rfl inferInstance inferInstance rfl .nil)) ⟨_,rfl,Ll⟩ rfl (ks:=[0]) rfl (by decide)
  ·
   rintro Ae j ⟨kN,GO,nc,Eh,BE,wP⟩ ⟨rfl,Fc,f53,h⟩
   dsimp only [List.cons_append,List.nil_append]
   refine SC 3 rf ?_
   have h:=sj h; subst h
   refine bP (R:=[]) (H':=[.obj Ae (.deferred (some [])), .cells b7 4 (LB.enc false), .cells b6 138 wP]) (ks:=[0,6,7]) rfl (by decide) ?_
   have Lk:(bU).rep (fun w=>K w∧(Hs [.ext (bz []) (Hs [])]) w) wP Eh:=aQ.mono _ dg f53
   exact iA (.tuple #[A wP, .bool false],bz [],Hs []) rfl (.agg rfl inferInstance inferInstance (aQ.len _ f53) (.one rfl inferInstance inferInstance rfl .nil)) ⟨_,rfl,Lk⟩ rfl (ks:=[0]) rfl (by decide)
end Go.Proofs.Ytbalnnoofdkbaaa
namespace Go.Proofs.Ytbalnnoofdkbaaa
open Go Go.Bw
structure cB where
 br:(List aN)
 oI:Int
abbrev cA:aQ cB:=aQ.via (LP (oJ aj) (LI .i64)) (fun x=>(x.br,x.oI))
abbrev dG:cB:=⟨[],0⟩
def fa:List Value:=[.slice none 0 0]++([.int .i64 0])
theorem ga {A:World→Prop}:cA.rep A fa dG:=⟨_,_,rfl,⟨_,rfl,Fz.nil⟩,rfl⟩
theorem iV:bf cA (oJ aj) 0 (fun x=>x.br) (fun x v=>{ x with br:=v }):=(bf.fst bf.id).via _ _ _ 0 rfl (fun _=>rfl) (fun _ _=>rfl)
theorem jf:bf cA (LI .i64) 1 (fun x=>x.oI) (fun x v=>{ x with oI:=v }):=(bf.snd bf.id).via _ _ _ 1 rfl (fun _=>rfl) (fun _ _=>rfl)
structure jk where
 br:(List (Nat→Int))
 oI:Int
abbrev cq:jk:=⟨[],0⟩
def eO (n:Nat) (a0:cB):Option cB:=
 some a0
theorem kD {n a0 r K} [bT K] {dM} (f0:(cA).rep K dM a0) (h:eO n a0 = some r):Bw.Fn (α:=Nat × List Value) Try.prog 83 [A dM] K [] (fun (b0,c0)=>(cA).rep K c0 r) (fun (b0,c0)=>.func (.func 86) #[] #[Ptr b0 0]) (fun (b0,c0)=>[.cells b0 35 c0]):=by
 unfold eO at h
 refine fo Try.func83 (by kernel_rfl) rfl Try.ntmps83 rfl fun cx _ hro cU hpre=>?_
 refine SC 2 rf ?_
 refine W1 rf (cH rfl) fun b1=>?_
 refine SL 10 rf ?_
 have h:=sj h; subst h
 exact cg ⟨b1,dM⟩ rfl (.tmp rfl .nil) (mo f0) rfl (ks:=[0]) rfl (by decide)
def dw (n:Nat) (a1:cB):Option (List (Int × aN)):=
 dF (fun H8 (bW:Int) (fF:Int) =>
 cn (decide (fF < (a1.br.length:Int))) (
 gu (dB fF a1.br.length) <|
 lt ((a1.br.getD (Int.toNat fF) default):aN) fun dA =>
 yl (bW,dA) <|
 H8 (wr .i64 (bW + (wr .i64 (dA.N * 32)))) (wr .i64 (fF + 1))) (
 some [])) n 0 0
theorem jM {n:Nat} {a1:cB} {l:List (Int × aN)} {K:World→Prop} {q1:Nat} {n4:List Value} (f1:(cA).rep K n4 a1) (h:dw n a1 = some l):vI Try.prog 86 [Ptr q1 0] [.cells q1 35 n4] K (fun k=>[.int .i64 ((l.getD k default).1), .agg (aj.enc ((l.getD k default).2)).toArray]) l.length:=by
 unfold dw at h
 refine ⟨fun y J Jx bs=>eF Try.func86 (by kernel_rfl) rfl Try.ntmps86 rfl (fun cx cU hpre hro=>?_)⟩
 haveI:=iz (show cx.bs = bs++bz [.cells q1 35 n4] from cU) hpre.1
 have hR:Br Try.prog y cx.bs cx.w0 J Jx (fun k=>[.int .i64 ((l.getD k default).1), .agg (aj.enc ((l.getD k default).2)).toArray]) l.length:=by rw [show cx.bs = bs++bz [.cells q1 35 n4] from cU]; exact hpre.2
 have CR:l.drop 0 = l:=rfl
 have Cz:0 ≤ l.length:=Nat.zero_le _
 refine SC 8 rf ?_
 obtain ⟨Hx,uo,f22⟩:=iV.sl f1
 refine ah rfl (cQ rfl uo) ?_
 refine ah rfl (fJ f22 rfl) ?_
 refine SL 4 rf ?_
 obtain ⟨HW,Fu,h⟩:=qI h
 refine LO (β:=Int × Int × Nat × (List (Int × aN)) × (List Nat)) [0,7,8] [0,1] (fun (EK,bW,fF,j6,Ex,rJ)=>[(3, .int .i64 bW),(9, .int .i64 fF)]) (fun (EK,bW,fF,j6,Ex,rJ)=>[.ext rJ (J j6 rJ), .cells q1 35 n4]) (fun (EK,bW,fF,j6,Ex,rJ)=>l.drop j6 = Ex∧j6 ≤ l.length∧dF HW EK bW fF = some Ex) (n,0,0,0,l,bs) ⟨CR,Cz,h⟩ rf rf rf ?_
 rintro EK ⟨bW,fF,j6,Ex,rJ⟩ ⟨FV,I7,h⟩
 replace h:=qH Fu h; obtain ⟨EK,rfl,h⟩:=h
 refine SC 6 rf ?_
 refine jc h rf (fun hc h=>?_) fun hc h=>?_
 ·
  obtain ⟨nv,h⟩:=eX h
  obtain ⟨dA,sV,h⟩:=dj h
  refine SC 6 rf ?_
  refine ah rfl (gM (m:=(Int.toNat fF)) f22 rfl rfl rfl (aV nv).1 (aV nv).2) ?_
  refine ah rfl (oG (M:=aj) f22 (bf.idx (L:=aj) (m:=(a1.br.length)) (k:=2) ((Int.toNat fF)) (aV nv).2 rfl) rfl rfl (by decide)) ?_
  refine W1 rf (cL (L:=aj) (z:=gL) ⟨by kernel_rfl⟩) fun b5=>?_
  refine W0 (dx (M:=aj) (bf.id (L:=aj)) (a1.br.getD (Int.toNat fF) default) dA sV rfl rfl rfl rfl) ?_
  refine SL 4 rf ?_
  obtain ⟨HE,Cq,h⟩:=zb h
  obtain ⟨Cy,CG,CQ,Cw⟩:=drop_cons (FV.trans Cq)
  refine SC 3 rf ?_
  refine ah rfl (eC (M:=aj) (bf.id (L:=aj)) rfl rfl) ?_
  refine cu rfl (m7 (bs:=rJ) hR Cy hro rfl (show og _ _ = some [.int .i64 ((l.getD j6 default).1), .agg (aj.enc ((l.getD j6 default).2)).toArray] by rw [CG]; rfl)) (fun ⟨yd,uE⟩ _=>?_)
  refine SL 3 rf ?_
  refine gB rfl (fun hc=>?_) (fun hc=>?_)
  ·
   obtain rfl:yd = false:=by simpa using hc
   dsimp only [cond_true,cond_false]
   refine SC 6 rf ?_
   exact cg (false,uE) rfl .nil trivial rfl (ks:=[1,2]) rfl (by decide)
  ·
   obtain rfl:yd = true:=by simpa using hc
   dsimp only [cond_true,cond_false]
   refine SC 5 rf ?_
   refine ah rfl (bD dz rfl) ?_
   refine SL 10 rf ?_
   exact LN [1,2] (wr .i64 (bW + (wr .i64 (dA.N * 32))),wr .i64 (fF + 1),j6 + 1,HE,uE) ⟨CQ,Cw,h⟩ rf rf rf
 ·
  refine SC 4 rf ?_
  have h:=sj h; subst h
  have JK:=drop_nil FV I7
  refine oD (ks:=[0,1]) (H':=[.ext rJ (J (j6) rJ), .cells q1 35 n4]) rfl (by decide) ?_
  refine oE (J:=J) (n:=l.length) JK ?_
  exact pJ (true,rJ) rfl .nil trivial rfl (ks:=[0,1]) rfl (by decide)
def dY (n:Nat) (a0:cB):Option Int:=
 bd (eO n a0) fun bu =>
 bd (dw n bu) fun lK =>
 eD (fun (Ad:Int × aN) B5 (eE:Int) =>
 lt (Ad.1:Int) fun kO =>
 lt (Ad.2:aN) fun jq =>
 lt (wr .i64 (eE + jq.N):Int) fun gR =>
 B5 gR) (fun (eE:Int) =>
 some eE) lK 0
theorem kU {n a0 r K} [bT K] {dM} (f0:(cA).rep K dM a0) (h:dY n a0 = some r):wU Try.prog 74 [A dM] K (.int .i64 r):=by
 unfold dY at h
 refine fo Try.func74 (by kernel_rfl) rfl Try.ntmps74 rfl fun cx _ hro cU hpre=>?_
 refine SC 2 rf ?_
 refine W1 rf (cH rfl) fun b1=>?_
 refine SL 5 rf ?_
 refine W1 rf (cL (L:=(LI .i64)) (z:=0) ⟨by kernel_rfl⟩) fun b3=>?_
 refine W0 (dx (M:=(LI .i64)) (bf.id (L:=(LI .i64))) 0 0 rfl rfl rfl rfl rfl) ?_
 obtain ⟨bu,cS,h⟩:=bM h
 refine SL 5 rf ?_
 refine ah rfl (ay rfl (aQ.len _ f0)) ?_
 refine cu rfl (fK (kD (K:=K) (mo f0) cS) rfl kn) (fun ⟨MC,D1⟩ f24=>?_)
 replace f24:(cA).rep K D1 bu:=f24
 dsimp only [List.cons_append,List.nil_append]
 refine SL 3 rf ?_
 obtain ⟨lK,o9,h⟩:=bM h
 obtain ⟨uf,xX,uD,x7,h⟩:=o7 h
 refine ki (K:=K) (α:=Int) (β:=Unit) hro rfl (jM (K:=K) (mo f24) o9) (fun _=>rfl) rfl (fun j7=>fun eE=>eD uf uD (lK.drop j7) eE = some r) (fun j7=>fun eE=>[.cells b3 3 ((LI .i64).enc eE), .cells b1 35 dM]) (fun _ _=>False) (fun _=>[]) 0 h (ks:=[0,1,2]) rfl (by decide) ?_ ?_ ?_
 ·
  rintro j7 eE lo dd rec c' hk h nX rE mm hsi hT
  replace h:eD uf uD (lK.drop j7) eE = some r:=h
  replace h:=o5 xX hk h
  haveI:=ld (K:=K) hsi
  dsimp only [oa]
  obtain ⟨kO,ug,h⟩:=dj h
  rw [← ug]
  obtain ⟨jq,rC,h⟩:=dj h
  rw [← rC]
  refine az ?_
  refine W1 rf (cL (L:=aj) (z:=gL) ⟨by kernel_rfl⟩) fun b5=>?_
  refine W0 (dx (M:=aj) (bf.id (L:=aj)) jq jq rfl rfl rfl rfl rfl) ?_
  refine aW ?_
  refine iR nX mm ?_
  obtain ⟨gR,lq,h⟩:=dj h
  refine SC 2 rf ?_
  refine ah rfl (bD (bf.id (L:=(LI .i64))) rfl) ?_
  refine ah rfl (aK rfl) ?_
  refine ah rfl (bD dz rfl) ?_
  refine ah rfl (mD rfl rfl rfl) ?_
  refine W0 (dx (M:=(LI .i64)) (bf.id (L:=(LI .i64))) (wr .i64 (eE + jq.N)) gR lq rfl rfl rfl rfl) ?_
  refine SL 2 rf ?_
  exact g7 nX rE hT gR h (ks:=[1,2,3,4]) rfl (by decide)
 ·
  rintro JS eE h
  replace h:eD uf uD (lK.drop lK.length) eE = some r:=h
  replace h:=o6 x7 rfl h
  dsimp only [List.cons_append,List.nil_append]
  refine SX 4 rf ?_
  refine ah rfl (bD (bf.id (L:=(LI .i64))) rfl) ?_
  refine SL 4 rf ?_
  have h:=sj h; subst h
  exact iA () rfl (.tmp rfl .nil) trivial rfl (ks:=[]) rfl (by decide)
 ·
  intro dd j i hf; exact hf.elim
def dU (n:Nat) (a0:cB):Option Bool:=
 dF (fun H9 (eZ:Int) (kO:cm) =>
 cn (decide (eZ < (a0.br.length:Int))) (
 gu (dB eZ a0.br.length) <|
 lt ((a0.br.getD (Int.toNat eZ) default):aN) fun lX =>
 bd (fR n kO lX.At lX.N) fun dA =>
 cn ((!dA.2)) (
 some false) (
 H9 (wr .i64 (eZ + 1)) dA.1)) (
 cl ((decide (0 ≤ a0.oI)) == true) (dY n a0) default fun Ke =>
 some (decide (0 ≤ a0.oI) && decide (a0.oI ≤ (wr .i64 (Ke * 32)))))) n 0 iQ
theorem lV {n a0 r K} [bT K] {dM} (f0:(cA).rep K dM a0) (h:dU n a0 = some r):wU Try.prog 60 [A dM] K (.bool r):=by
 unfold dU at h
 refine fo Try.func60 (by kernel_rfl) rfl Try.ntmps60 rfl fun cx _ hro cU hpre=>?_
 refine SC 2 rf ?_
 refine W1 rf (cH rfl) fun b1=>?_
 refine SL 5 rf ?_
 refine W1 rf (bK (hz:=(⟨by kernel_rfl⟩ : cK Try.prog 138 eH))) fun b3=>?_
 refine SL 6 rf ?_
 obtain ⟨Hx,uo,f22⟩:=iV.sl f0
 refine ah rfl (cQ rfl uo) ?_
 refine ah rfl (fJ f22 rfl) ?_
 refine SL 4 rf ?_
 obtain ⟨HX,Fv,h⟩:=qI h
 refine mZ ?_
 refine LO (β:=Int × cm × (List Value) × (List Nat) × (World→Prop)) [1,3,9,10] [0,1,2] (fun (EL,eZ,kO,Bp,kG,su)=>[(11, .int .i64 eZ)]) (fun (EL,eZ,kO,Bp,kG,su)=>[.ext kG su, .cells b3 138 Bp, .cells b1 35 dM]) (fun (EL,eZ,kO,Bp,kG,su)=>(bU).rep (Hs [.ext kG su]) Bp kO∧dF HX EL eZ kO = some r) (n,0,iQ,eH,[],(Hs [])) ⟨(aQ.mono _ dg (show (bU).rep (Hs []) eH iQ from fZ)),h⟩ rf rf rf ?_
 rintro EL ⟨eZ,kO,Bp,kG,su⟩ ⟨f35,h⟩
 replace h:=qH Fv h; obtain ⟨EL,rfl,h⟩:=h
 refine SC 6 rf ?_
 refine jc h rf (fun hc h=>?_) fun hc h=>?_
 ·
  obtain ⟨sY,h⟩:=eX h
  obtain ⟨lX,zR,h⟩:=dj h
  refine SC 6 rf ?_
  refine ah rfl (gM (m:=(Int.toNat eZ)) f22 rfl rfl rfl (aV sY).1 (aV sY).2) ?_
  refine ah rfl (oG (M:=aj) f22 (bf.idx (L:=aj) (m:=(a0.br.length)) (k:=2) ((Int.toNat eZ)) (aV sY).2 rfl) rfl rfl (by decide)) ?_
  refine W1 rf (cL (L:=aj) (z:=gL) ⟨by kernel_rfl⟩) fun b5=>?_
  refine W0 (dx (M:=aj) (bf.id (L:=aj)) (a0.br.getD (Int.toNat eZ) default) lX zR rfl rfl rfl rfl) ?_
  obtain ⟨dA,sV,h⟩:=bM h
  refine SL 4 rf ?_
  refine ah rfl (ay rfl (aQ.len _ f35)) ?_
  refine ah rfl (aK rfl) ?_
  refine ah rfl (bD dO rfl) ?_
  refine ah rfl (aK rfl) ?_
  refine ah rfl (bD dz rfl) ?_
  refine CB (nF (K:=(Hs [.ext kG su])) (mo f35) sV) rf rf ?_
  rintro M3 wz Ea ⟨Mw,rfl,f46⟩
  replace f46:(bU).rep (fun w=>(Hs [.ext kG su]) w∧Hs [.ext wz Ea] w) Mw dA.1:=f46
  refine SL 3 rf ?_
  refine W1 rf (bK (hz:=(⟨by kernel_rfl⟩ : cK Try.prog 138 eH))) fun b6=>?_
  refine ST (C:=(Hs [.ext kG su, .ext wz Ea])) dA.1 (bf.id (L:=bU)) fZ (mo f46) rf rf rf rf rf fun Bo f49=>?_
  refine SL 10 rf ?_
  refine jc h rf (fun hc h=>?_) fun hc h=>?_
  ·
   refine SC 12 rf ?_
   have h:=sj h; subst h
   exact RV rf (rt rf rn) rf
  ·
   refine SC 3 rf ?_
   refine ah rfl (ay rfl (aQ.len _ f49)) ?_
   refine ST (C:=(Hs [.ext kG su, .ext wz Ea])) dA.1 (bf.id (L:=bU)) (mo f35) (mo f49) rf rf rf rf rf fun KI f51=>?_
   refine SL 7 rf ?_
   refine bP (R:=[.ext wz Ea, .ext kG su]) (H':=[.cells b6 138 Bo, .cells b5 124 (aj.enc lX), .cells b3 138 KI, .cells b1 35 dM]) (ks:=[1,3,0,2,4,5]) rfl (by decide) ?_
   exact LN [0,3,4] (wr .i64 (eZ + 1),dA.1,KI,(bz [.ext wz Ea, .ext kG su]),(Hs [.ext wz Ea, .ext kG su])) ⟨(mo f51),h⟩ rf rf rf
 ·
  refine SC 6 rf ?_
  obtain ⟨Ke,Io,_,h⟩:=oh h
  refine g8 mixed (.oQ [] [(0,[1]),(1,[28]),(2,[29]),(3,[30]),(4,[1,31]),(5,[31,32]),(6,[1,31]),(7,[31,34]),(8,[31,35]),(9,[31,33,36]),(10,[31,37])] (.alt 11 [38] (.fin [] []) .no)) (by kernel_rfl) ?_
  refine T0 ?_
  refine NS 1 rf ?_
  refine NV rf rf (cQ rfl (jf.int f0)) ?_
  refine NS 2 rf ?_
  refine NG rf rf (di rfl rfl) (fun hb=>aK rfl) ?_
  refine NG rf rf (di rfl rfl) (fun hb=>cQ (cT rfl hb) (jf.int f0)) ?_
  refine NG rf rf (di rfl rfl) (fun hb=>ay rfl (aQ.len _ f0)) ?_
  refine NG rf rf (di rfl rfl) (fun hb=>bZ (kU (K:=K) (mo f0) (Io hb)) (bJ (cT rfl hb) rfl) kn) ?_
  refine NG rf rf (di rfl rfl) (fun hb=>yL (cT rfl hb) rfl rfl) ?_
  refine NG rf rf (di rfl rfl) (fun hb=>r7 (cT rfl hb) (cT rfl hb)) ?_
  refine NV rf rf (ec rfl rfl) ?_
  refine gl ?_
  refine XV rf rf (aP rfl) ?_
  refine AO ?_
  refine SX 2 rf ?_
  have h:=sj h; subst h
  exact RV rf (rt rf rn) rf
def dc (n:Nat) (a0:jk):Option Bool:=
 kL (fun zK (fL:Int) (de:Int) (eE:(Nat→Bool)) =>
 cn (decide (de < (a0.br.length:Int))) (
 gu (dB de a0.br.length) <|
 gu (dB de a0.br.length) <|
 cn (((((decide (((a0.br.getD (Int.toNat de) default) 1) < 1) || decide (64 < ((a0.br.getD (Int.toNat de) default) 1))) || decide (((a0.br.getD (Int.toNat de) default) 0) < 0)) || decide (63 < ((a0.br.getD (Int.toNat de) default) 0))) || decide (64 < (wr .i64 (((a0.br.getD (Int.toNat de) default) 0) + ((a0.br.getD (Int.toNat de) default) 1)))))) (
 some false) (
 dF (fun ER (AS:Int) (zc:(Nat→Bool)) =>
 cn (decide (AS < (wr .i64 (((a0.br.getD (Int.toNat de) default) 0) + ((a0.br.getD (Int.toNat de) default) 1))))) (
 gu (dB AS 64) <|
 cn ((zc (Int.toNat AS))) (
 some false) (
 gu (dB AS 64) <|
 lt ((dI zc (Int.toNat AS) true):(Nat→Bool)) fun nc =>
 ER (wr .i64 (AS + 1)) nc)) (
 zK (wr .i64 (fL + ((a0.br.getD (Int.toNat de) default) 1))) (wr .i64 (de + 1)) zc)) n ((a0.br.getD (Int.toNat de) default) 0) eE)) (
 some (decide (0 ≤ a0.oI) && decide (a0.oI ≤ (wr .i64 (32 * fL)))))) n 0 0 (fun _=>false)
end Go.Proofs.Ytbalnnoofdkbaaa
namespace Go.Proofs.Ytbalnnoofdkbaaa
open Go Go.Bw
abbrev Rn:=aN
structure Can (l:List Rn):Prop where
  gO:∀y ∈ l,0 ≤ y.At∧1 ≤ y.N∧y.At + y.N ≤ 64
  pw:l.Pairwise fun y z=>y.At + y.N < z.At
def cR (l:List Rn) (p:Int):Prop:=∃y ∈ l,y.At ≤ p∧p < y.At + y.N
def tH (at_ k:Int):Prop:=1 ≤ k∧0 ≤ at_∧at_ + k ≤ 64
instance (a k:Int):Decidable (tH a k):=by unfold tH; infer_instance
def za (x:Int):Prop:=-9223372036854775808 ≤ x∧x ≤ 9223372036854775807
theorem Can.nil:Can []:=⟨by simp, .nil⟩
theorem tn:∀{l:List Rn} {lo:Int},Can l→(∀y ∈ l,lo ≤ y.At)→lo ≤ 65→(l.length:Int) * 2 ≤ 65 - lo
  | [],lo,_,_,h=>by simp; omega
  | y::r,lo,h,hl,_=>by
    obtain ⟨h1,h2⟩:=List.pairwise_cons.1 h.pw
    have hy:=h.gO y (by simp)
    have hy':=hl y (by simp)
    have:=tn (l:=r) (lo:=y.At + y.N + 1) ⟨fun z hz=>h.gO z (by simp [hz]),h2⟩ (fun z hz=>by have:=h1 z hz; omega) (by omega)
    simp only [List.length_cons]; omega
theorem Can.len {l:List Rn} (h:Can l):l.length ≤ 32:=by
  have:=tn (lo:=0) h (fun y hy=>(h.gO y hy).1) (by omega)
  omega
theorem Can.two {l:List Rn} (h:Can l) {y z:Rn} (hy:y ∈ l) (hz:z ∈ l):y = z∨y.At + y.N < z.At∨z.At + z.N < y.At:=by
  have:=h.pw
  clear h
  induction l with
  | nil=>simp at hy
  | cons x r ih =>
    obtain ⟨h1,h2⟩:=List.pairwise_cons.1 this
    rcases List.mem_cons.1 hy with rfl | hy' <;> rcases List.mem_cons.1 hz with rfl | Kk
    · exact .inl rfl
    · exact .inr (.inl (h1 z Kk))
    · exact .inr (.inr (h1 y hy'))
    · exact ih hy' Kk h2
theorem oX (p:Int):¬ cR [] p:=by simp [cR]
theorem nh {y:Rn} {r:List Rn} {p:Int}:cR (y::r) p↔(y.At ≤ p∧p < y.At + y.N)∨cR r p:=by simp [cR]
theorem fe {l r:List Rn} {p:Int}:cR (l++r) p↔cR l p∨cR r p:=by simp [cR,or_and_right,exists_or]
theorem sQ {l:List Rn} (h:Can l) {p:Int} (hp:cR l p):0 ≤ p∧p < 64:=by
  obtain ⟨y,hy,h1,h2⟩:=hp
  have:=h.gO y hy
  omega
theorem Can.whole {l:List Rn} (h:Can l) {at_ k:Int} (hk:1 ≤ k) (hm:∀p,at_ ≤ p→p < at_ + k→cR l p):∃y ∈ l,y.At ≤ at_∧at_ + k ≤ y.At + y.N:=by
  obtain ⟨y,hy,h1,h2⟩:=hm at_ (by omega) (by omega)
  refine ⟨y,hy,h1,?_⟩
  refine Int.not_lt.1 fun hlt=>?_
  obtain ⟨z,hz,h3,h4⟩:=hm (y.At + y.N) (by omega) (by omega)
  rcases h.two hy hz with rfl | h5 | h5
  · omega
  · omega
  · have:=h.gO z hz; omega
theorem all_eq {n:Nat} {l:List Rn} (hl:l.length ≤ 100) (hn:110 ≤ n):∃xs,eI n l = some xs∧xs.map Prod.snd = l:=by
  unfold eI
  have key:∀(m x:Nat),x ≤ l.length→l.length - x < m→∃xs,dk (fun A8 (eo:Int)=>cn (decide (eo < (l.length:Int))) (gu (dB eo l.length) <| lt ((l.getD (Int.toNat eo) default):aN) fun iD=>yl (eo,iD) <| A8 (wr .i64 (eo + 1))) (some [])) m (x:Int) = some xs∧xs.map Prod.snd = l.drop x:=by
    intro m
    induction m with
    | zero=>intro x _ h; omega
    | succ m ih =>
      intro x hx hm
      simp only [dk]
      by_cases hc:x < l.length
      · rw [aJ (by simpa using hc),aF (cD (by omega) (by omega)),lt_eq,cj (by omega) (by omega)]
        obtain ⟨xs,h1,h2⟩:=ih (x + 1) (by omega) (by omega)
        have e:((x:Int) + 1) = ((x + 1:Nat):Int):=by omega
        rw [e,h1]
        refine ⟨_,rfl,?_⟩
        rw [List.map_cons,h2,List.drop_eq_getElem_cons hc,Int.toNat_natCast,List.getD,List.getElem?_eq_getElem hc]
        rfl
      · rw [av (by simpa using hc)]
        exact ⟨[],rfl,by rw [List.drop_eq_nil_of_le (by omega)]; rfl⟩
  obtain ⟨xs,h1,h2⟩:=key n 0 (by omega) (by omega)
  exact ⟨xs,h1,by simpa using h2⟩
theorem Ab (n:Nat) (r:cm):gS n r = some r.l:=rfl
theorem B1 {n:Nat} {at_ k:Int} (ha:za at_) (hk:za k):∃b,jh n ⟨at_,k⟩ = some b∧(b = true↔tH at_ k):=by
  obtain ⟨a1,a2⟩:=ha
  obtain ⟨k1,k2⟩:=hk
  refine ⟨_,rfl,?_⟩
  show ((decide (1 ≤ k) && decide (0 ≤ at_)) && decide (at_ ≤ wr .i64 (64 - k))) = true↔_
  unfold tH
  by_cases h:1 ≤ k
  · rw [cj (by omega) (by omega)]; simp; omega
  · simp [h]
theorem yj {n:Nat} {y:Rn} (h:0 ≤ y.At∧1 ≤ y.N∧y.At + y.N ≤ 64):cG n y = some (y.At + y.N):=by
  unfold cG; rw [cj (by omega) (by omega)]
theorem Can.cut {l:List Rn} (h:Can l) {i:Nat} (hi:i < l.length) {left:List Rn} {at_ k:Int} (hk:1 ≤ k) (hin:l[i].At ≤ at_∧at_ + k ≤ l[i].At + l[i].N)
    (hl:Can left) (hm:∀p,cR left p↔(l[i].At ≤ p∧p < l[i].At + l[i].N)∧¬ (at_ ≤ p∧p < at_ + k)) (hb:∀y ∈ left,l[i].At ≤ y.At∧y.At + y.N ≤ l[i].At + l[i].N) :
    Can (l.take i++left++l.drop (i + 1))∧∀p,cR (l.take i++left++l.drop (i + 1)) p↔cR l p∧¬ (at_ ≤ p∧p < at_ + k):=by
  have e:l = l.take i++l[i]::l.drop (i + 1):=by rw [← List.drop_eq_getElem_cons hi,List.take_append_drop]
  generalize hy:l[i] = y at *
  have xO:=h.pw
  rw [e] at xO
  obtain ⟨q1,q2,q3⟩:=List.pairwise_append.1 xO
  obtain ⟨q4,q5⟩:=List.pairwise_cons.1 q2
  have Bc:y ∈ l:=by rw [e]; simp
  have EZ:=h.gO y Bc
  refine ⟨⟨?_,?_⟩,fun p=>?_⟩
  · intro z hz
    rcases List.mem_append.1 hz with hz | hz
    · rcases List.mem_append.1 hz with hz | hz
      · exact h.gO z (List.mem_of_mem_take hz)
      · exact hl.gO z hz
    · exact h.gO z (List.mem_of_mem_drop hz)
  · refine List.pairwise_append.2 ⟨List.pairwise_append.2 ⟨q1,hl.pw,fun a ha b hb'=>?_⟩,q5,fun a ha b hb'=>?_⟩
    · have:=q3 a ha y (by simp); have:=hb b hb'; omega
    · rcases List.mem_append.1 ha with ha | ha
      · exact q3 a ha b (by simp [hb'])
      · have:=q4 b hb'; have:=hb a ha; omega
  · have hp:cR l p↔cR (l.take i) p∨(y.At ≤ p∧p < y.At + y.N)∨cR (l.drop (i + 1)) p:=by
      conv=>lhs; rw [e,fe,nh]
    rw [fe,fe,hm p,hp]
    have t1:cR (l.take i) p→p < y.At:=fun ⟨z,hz,h1,h2⟩=>by have:=q3 z hz y (by simp); omega
    have t2:cR (l.drop (i + 1)) p→y.At + y.N < p:=fun ⟨z,hz,h1,h2⟩=>by have:=q4 z hz; omega
    constructor
    · rintro ((c | ⟨c1,c2⟩) | c)
      · have:=t1 c; exact ⟨.inl c,by omega⟩
      · exact ⟨.inr (.inl c1),c2⟩
      · have:=t2 c; exact ⟨.inr (.inr c),by omega⟩
    · rintro ⟨c | c | c,d⟩
      · exact .inl (.inl c)
      · exact .inl (.inr ⟨c,d⟩)
      · exact .inr c
end Go.Proofs.Ytbalnnoofdkbaaa
namespace Go.Proofs.Ytbalnnoofdkbaaa
open Go Go.Bw
structure GI (l:List Rn) (at_ k:Int) (pre rest:List Rn) (put:Bool) (out:List Rn) (x:Rn):Prop where
  e:l = pre++rest
  free:∀p,cR pre p→¬ (at_ ≤ p∧p < at_ + k)
  lo:x.At ≤ at_∧(x.At = at_∨∃z ∈ pre,z.At + z.N = at_)
  hi:at_ + k ≤ x.At + x.N∧(x.At + x.N = at_ + k∨∃z ∈ pre,z.At + z.N = x.At + x.N)
  gO:0 ≤ x.At∧1 ≤ x.N∧x.At + x.N ≤ 64
  off:put = false→Can (out++[x])∧(∀z ∈ out,z ∈ pre)∧∀p,cR (out++[x]) p↔cR pre p∨(at_ ≤ p∧p < at_ + k)
  on:put = true→Can out∧(∀z ∈ out,z ∈ pre∨z = x)∧(∃z ∈ pre,x.At + x.N < z.At)∧∀p,cR out p↔cR pre p∨(at_ ≤ p∧p < at_ + k)
theorem iP {l:List Rn} {y:Rn} (h:Can l) (hy:0 ≤ y.At∧1 ≤ y.N∧y.At + y.N ≤ 64) (ha:∀z ∈ l,z.At + z.N < y.At):Can (l++[y]):=
  ⟨fun z hz=>by
    rcases List.mem_append.1 hz with hz | hz
    · exact h.gO z hz
    · rw [List.mem_singleton.1 hz]; exact hy,
   List.pairwise_append.2 ⟨h.pw,List.pairwise_singleton _ _,fun a Mf b hb=>by rw [List.mem_singleton.1 hb]; exact ha a Mf⟩⟩
theorem Can.init {l:List Rn} {y:Rn} (h:Can (l++[y])):Can l:=⟨fun z hz=>h.gO z (by simp [hz]),(List.pairwise_append.1 h.pw).1⟩
theorem Can.last {l:List Rn} {y:Rn} (h:Can (l++[y])):∀z ∈ l,z.At + z.N < y.At:=fun z hz=>(List.pairwise_append.1 h.pw).2.2 z hz y (by simp)
theorem eK {y:Rn} {p:Int}:cR [y] p↔y.At ≤ p∧p < y.At + y.N:=by rw [nh]; simp [cR]
def F6 (r' : cm) (g:Bool) (l:List Rn) (r:cm) (at_ k:Int):Prop:=
  (g = true↔∀p,at_ ≤ p→p < at_ + k→¬ cR l p)∧(g = false→r' = r)∧(g = true→Can r'.l∧∀p,cR r'.l p↔cR l p∨(at_ ≤ p∧p < at_ + k))
theorem z6 {n:Nat} {r:cm} {l:List Rn} (hl:Can l) {at_ k:Int} (ho:tH at_ k):∀(xs:List (Int × Rn)) (pre:List Rn) (put:Bool) (out:List Rn) (x:Rn),GI l at_ k pre (xs.map Prod.snd) put out x →
    ∃r' g,ob (fun (Gc:Int × aN) zJ (fO:Bool) (fE:(List aN)) (dA:aN) =>
      lt (Gc.1:Int) fun u6 =>
      lt (Gc.2:aN) fun m9 =>
      bd (cG n m9) fun oM =>
      cn (decide (oM < dA.At)) (
      gu (jY fE.length 1 16) <|
      lt (fE++([m9]):List aN) fun mc =>
      zJ fO mc dA) (
      bd (cG n dA) fun GN =>
      cn (decide (GN < m9.At)) (
      lt (fun (wV:Bool) (tL:(List aN)) =>
      gu (jY tL.length 1 16) <|
      lt (tL++([m9]):List aN) fun u4 =>
      zJ wV u4 dA) fun A9 =>
      cn ((!fO)) (
      gu (jY fE.length 1 16) <|
      lt (fE++([dA]):List aN) fun mb =>
      A9 true mb) (
      A9 fO fE)) (
      bd (cG n m9) fun uZ =>
      cn ((uZ == dA.At)) (
      lt ({ At:=m9.At,N:=wr .i64 (m9.N + dA.N) }:aN) fun AR =>
      zJ fO fE AR) (
      bd (cG n dA) fun vJ =>
      cn ((m9.At == vJ)) (
      lt ({ dA with N:=wr .i64 (dA.N + m9.N) }:aN) fun DP =>
      zJ fO fE DP) (
      some (r,false)))))) (fun (fO:Bool) (fE:(List aN)) (dA:aN) =>
      cn ((!fO)) (
      gu (jY fE.length 1 16) <|
      lt (fE++([dA]):List aN) fun ow =>
      lt ({ l:=ow }:cm) fun tK =>
      some (tK,true)) (
      lt ({ l:=fE }:cm) fun Bx =>
      some (Bx,true))) xs put out x = some (r',g)∧F6 r' g l r at_ k:=by
  intro xs
  induction xs with
  | nil =>
    intro pre put out x h
    have e:l = pre:=by have:=h.e; simpa using this
    subst e
    show ∃r' g,cn (!put) (gu (jY out.length 1 16) <| some ((⟨out++[x]⟩ : cm),true)) (some ((⟨out⟩ : cm),true)) = some (r',g)∧_
    have hfree:∀p,at_ ≤ p→p < at_ + k→¬ cR l p:=fun p h1 h2 hm=>h.free p hm ⟨h1,h2⟩
    cases put with
    | false =>
      obtain ⟨c1,c2,c3⟩:=h.off rfl
      have:=c1.init.len
      rw [aJ (b:=!false) rfl,aF (jF (by omega) (by omega))]
      exact ⟨_,true,rfl,⟨fun _=>hfree,fun _=>rfl⟩,fun h=>(by cases h),fun _=>⟨c1,c3⟩⟩
    | true =>
      obtain ⟨c1,c2,c3,c4⟩:=h.on rfl
      rw [av (b:=!true) rfl]
      exact ⟨_,true,rfl,⟨fun _=>hfree,fun _=>rfl⟩,fun h=>(by cases h),fun _=>⟨c1,c4⟩⟩
  | cons q xs ih =>
    obtain ⟨qi,y⟩:=q
    intro pre put out x h
    have he:l = (pre++[y])++xs.map Prod.snd:=by rw [h.e]; simp
    have Bc:y ∈ l:=by rw [h.e]; simp
    have EZ:=hl.gO y Bc
    have hpre:∀z ∈ pre,z.At + z.N < y.At:=fun z hz=>by
      have xO:=hl.pw
      rw [he] at xO
      exact (List.pairwise_append.1 (List.pairwise_append.1 xO).1).2.2 z hz y (by simp)
    have Ib:∀z ∈ pre,0 ≤ z.At∧1 ≤ z.N∧z.At + z.N ≤ 64:=fun z hz=>hl.gO z (by rw [h.e]; simp [hz])
    obtain ⟨o1,o2,o3⟩:=ho
    obtain ⟨GR,HQ⟩:=h.lo
    obtain ⟨Jc,wM⟩:=h.hi
    have E0:=h.gO
    have ey:cG n y = some (y.At + y.N):=yj EZ
    have ex:cG n x = some (x.At + x.N):=yj E0
    have hfree:(∀p,y.At ≤ p→p < y.At + y.N→¬ (at_ ≤ p∧p < at_ + k))→∀p,cR (pre++[y]) p→¬ (at_ ≤ p∧p < at_ + k):=fun hy p hp=>by
      rcases fe.1 hp with hp | hp
      · exact h.free p hp
      · obtain ⟨h1,h2⟩:=eK.1 hp; exact hy p h1 h2
    have pe:∀{z},z ∈ pre→z ∈ pre++[y]:=fun hz=>by simp [hz]
    have hlo:x.At = at_∨∃z ∈ pre++[y],z.At + z.N = at_:=HQ.imp id fun ⟨z,hz,e⟩=>⟨z,pe hz,e⟩
    have hhi:x.At + x.N = at_ + k∨∃z ∈ pre++[y],z.At + z.N = x.At + x.N:=wM.imp id fun ⟨z,hz,e⟩=>⟨z,pe hz,e⟩
    have Fm:∀p,cR (pre++[y]) p↔cR pre p∨(y.At ≤ p∧p < y.At + y.N):=fun p=>by rw [fe,eK]
    have hput:put = true→x.At + x.N < y.At:=fun hp=>by obtain ⟨z,hz,h1⟩:=(h.on hp).2.2.1; have:=hpre z hz; have:=Ib z hz; omega
    simp only [ob]
    dsimp only [lt]
    rw [ax ey]
    by_cases c1:y.At + y.N < x.At
    · have hf:put = false:=by
        cases put with
        | false=>rfl
        | true=>have:=hput rfl; omega
      subst hf
      obtain ⟨d1,d2,d3⟩:=h.off rfl
      have hlen:=d1.init.len
      rw [aJ (by simpa using c1),aF (jF (by omega) (by omega))]
      refine ih (pre++[y]) false (out++[y]) x ⟨he,hfree fun p h1 h2=>by omega,⟨GR,hlo⟩,⟨Jc,hhi⟩,E0,fun _=>⟨?_,?_,fun p=>?_⟩,fun h=>by cases h⟩
      · refine iP (iP d1.init EZ fun z hz=>hpre z (d2 z hz)) E0 fun z hz=>?_
        rcases List.mem_append.1 hz with hz | hz
        · exact d1.last z hz
        · rw [List.mem_singleton.1 hz]; exact c1
      · intro z hz
        rcases List.mem_append.1 hz with hz | hz
        · exact pe (d2 z hz)
        · rw [List.mem_singleton.1 hz]; simp
      · have:=d3 p
        rw [fe,eK] at this ⊢
        rw [fe,eK,Fm]
        constructor
        · rintro ((c | c) | c)
          · rcases this.1 (.inl c) with c | c
            · exact .inl (.inl c)
            · exact .inr c
          · exact .inl (.inr c)
          · rcases this.1 (.inr c) with c | c
            · exact .inl (.inl c)
            · exact .inr c
        · rintro ((c | c) | c)
          · rcases this.2 (.inl c) with c | c
            · exact .inl (.inl c)
            · exact .inr c
          · exact .inl (.inr c)
          · rcases this.2 (.inr c) with c | c
            · exact .inl (.inl c)
            · exact .inr c
    rw [av (by simpa using c1),ax ex]
    by_cases c2:x.At + x.N < y.At
    · rw [aJ (by simpa using c2)]
      have hfr:=hfree fun p h1 h2=>by omega
      cases put with
      | false =>
        obtain ⟨d1,d2,d3⟩:=h.off rfl
        have hlen:=d1.init.len
        have xR:=d1.len
        rw [aJ (b:=!false) rfl,aF (jF (by omega) (by omega)),aF (jF (by omega) (by omega))]
        refine ih (pre++[y]) true (out++[x]++[y]) x ⟨he,hfr,⟨GR,hlo⟩,⟨Jc,hhi⟩,E0,fun h=>(by cases h),fun _=>⟨?_,?_,⟨y,by simp,c2⟩,fun p=>?_⟩⟩
        · refine iP d1 EZ fun z hz=>?_
          rcases List.mem_append.1 hz with hz | hz
          · exact hpre z (d2 z hz)
          · rw [List.mem_singleton.1 hz]; exact c2
        · intro z hz
          simp only [List.mem_append,List.mem_singleton] at hz
          rcases hz with (hz | hz) | hz
          · exact .inl (pe (d2 z hz))
          · exact .inr hz
          · exact .inl (by simp [hz])
        · rw [fe,eK,d3 p,Fm]
          constructor
          · rintro ((c | c) | c)
            · exact .inl (.inl c)
            · exact .inr c
            · exact .inl (.inr c)
          · rintro ((c | c) | c)
            · exact .inl (.inl c)
            · exact .inr c
            · exact .inl (.inr c)
      | true =>
        obtain ⟨d1,d2,d3,d4⟩:=h.on rfl
        have hlen:=d1.len
        rw [av (b:=!true) rfl,aF (jF (by omega) (by omega))]
        refine ih (pre++[y]) true (out++[y]) x ⟨he,hfr,⟨GR,hlo⟩,⟨Jc,hhi⟩,E0,fun h=>(by cases h),fun _=>⟨?_,?_,⟨y,by simp,c2⟩,fun p=>?_⟩⟩
        · refine iP d1 EZ fun z hz=>?_
          rcases d2 z hz with hz | rfl
          · exact hpre z hz
          · exact c2
        · intro z hz
          rcases List.mem_append.1 hz with hz | hz
          · exact (d2 z hz).imp pe id
          · exact .inl (by simp [List.mem_singleton.1 hz])
        · rw [fe,eK,d4 p,Fm]
          constructor
          · rintro ((c | c) | c)
            · exact .inl (.inl c)
            · exact .inr c
            · exact .inl (.inr c)
          · rintro ((c | c) | c)
            · exact .inl (.inl c)
            · exact .inr c
            · exact .inl (.inr c)
    have hf:put = false:=by
      cases put with
      | false=>rfl
      | true=>have:=hput rfl; omega
    subst hf
    obtain ⟨d1,d2,d3⟩:=h.off rfl
    rw [av (by simpa using c2),ax ey]
    by_cases c3:y.At + y.N = x.At
    · rw [aJ (by simpa using c3),cj (by omega) (by omega)]
      have KC:x.At = at_:=by
        rcases HQ with e | ⟨z,hz,e⟩
        · exact e
        · have:=hpre z hz; omega
      refine ih (pre++[y]) false out ⟨y.At,y.N + x.N⟩ ⟨he,hfree fun p h1 h2=>by omega,⟨by dsimp only; omega, .inr ⟨y,by simp,by omega⟩⟩,⟨by dsimp only; omega,?_⟩,by dsimp only; omega,fun _=>⟨?_,fun z hz=>pe (d2 z hz),fun p=>?_⟩,fun h=>by cases h⟩
      · rcases hhi with e | ⟨z,hz,e⟩
        · exact .inl (by dsimp only; omega)
        · exact .inr ⟨z,hz,by dsimp only; omega⟩
      · exact iP d1.init (by dsimp only; omega) fun z hz=>hpre z (d2 z hz)
      · have:=d3 p
        rw [fe,eK] at this ⊢
        rw [Fm]
        dsimp only
        constructor
        · rintro (c | c)
          · rcases this.1 (.inl c) with c | c
            · exact .inl (.inl c)
            · exact .inr c
          · by_cases hp:p < x.At
            · exact .inl (.inr (by omega))
            · rcases this.1 (.inr (by omega)) with c | c
              · exact .inl (.inl c)
              · exact .inr c
        · rintro ((c | c) | c)
          · rcases this.2 (.inl c) with c | c
            · exact .inl c
            · exact .inr (by omega)
          · exact .inr (by omega)
          · exact .inr (by omega)
    rw [av (by simpa using c3),ax ex]
    by_cases c4:y.At = x.At + x.N
    · rw [aJ (by simpa using c4),cj (by omega) (by omega)]
      refine ih (pre++[y]) false out ⟨x.At,x.N + y.N⟩ ⟨he,hfree fun p h1 h2=>by omega,⟨GR,hlo⟩,⟨by dsimp only; omega, .inr ⟨y,by simp,by dsimp only; omega⟩⟩,by dsimp only; omega,fun _=>⟨?_,fun z hz=>pe (d2 z hz),fun p=>?_⟩,fun h=>by cases h⟩
      · exact iP d1.init (by dsimp only; omega) fun z hz=>d1.last z hz
      · have:=d3 p
        rw [fe,eK] at this ⊢
        rw [Fm]
        dsimp only
        constructor
        · rintro (c | c)
          · rcases this.1 (.inl c) with c | c
            · exact .inl (.inl c)
            · exact .inr c
          · by_cases hp:p < x.At + x.N
            · rcases this.1 (.inr (by omega)) with c | c
              · exact .inl (.inl c)
              · exact .inr c
            · exact .inl (.inr (by omega))
        · rintro ((c | c) | c)
          · rcases this.2 (.inl c) with c | c
            · exact .inl c
            · exact .inr (by omega)
          · exact .inr (by omega)
          · exact .inr (by omega)
    rw [av (by simpa using c4)]
    refine ⟨r,false,rfl,⟨fun h=>(by cases h),fun hno=>?_⟩,fun _=>rfl,fun h=>(by cases h)⟩
    have g1:y.At < at_ + k:=by
      rcases wM with e | ⟨z,hz,e⟩
      · omega
      · have:=hpre z hz; omega
    have g2:at_ < y.At + y.N:=by
      rcases HQ with e | ⟨z,hz,e⟩
      · omega
      · have:=hpre z hz; omega
    by_cases g3:at_ ≤ y.At
    · exact absurd ⟨y,Bc,by omega,by omega⟩ (hno y.At g3 g1)
    · exact absurd ⟨y,Bc,by omega,by omega⟩ (hno at_ (by omega) (by omega))
theorem z7 {n:Nat} (hn:110 ≤ n) {r:cm} (hr:Can r.l) {at_ k:Int} (ha:za at_) (hk:za k) :
    ∃r' g,fR n r at_ k = some (r',g)∧(g = true↔tH at_ k∧∀p,at_ ≤ p→p < at_ + k→¬ cR r.l p)∧(g = false→r' = r)∧(g = true→Can r'.l∧∀p,cR r'.l p↔cR r.l p∨(at_ ≤ p∧p < at_ + k)):=by
  unfold fR
  rw [lt_eq]
  obtain ⟨b,hb,hb'⟩:=B1 (n:=n) ha hk
  rw [ax hb]
  cases b with
  | false=>exact ⟨r,false,rfl,⟨fun h=>(by cases h),fun h=>hb'.2 h.1⟩,fun _=>rfl,fun h=>(by cases h)⟩
  | true =>
    have ho:=hb'.1 rfl
    obtain ⟨o1,o2,o3⟩:=ho
    rw [av (b:=!true) rfl,ax (Ab n r)]
    obtain ⟨xs,h1,h2⟩:=all_eq (n:=n) (l:=r.l) (by have:=hr.len; omega) hn
    rw [ax h1]
    obtain ⟨r',g,h3,h4,h5,h6⟩:=z6 (n:=n) (r:=r) hr (at_:=at_) (k:=k) ⟨o1,o2,o3⟩ xs [] false [] ⟨at_,k⟩ ⟨by simpa using h2.symm,fun p hp=>absurd hp (oX p),⟨Int.le_refl _, .inl rfl⟩,⟨Int.le_refl _, .inl rfl⟩,⟨o2,o1,o3⟩,
      fun _=>⟨iP Can.nil ⟨o2,o1,o3⟩ (by simp),by simp,fun p=>by rw [List.nil_append,eK]; simp [oX]⟩,fun h=>by cases h⟩
    exact ⟨r',g,h3,⟨fun hg=>⟨⟨o1,o2,o3⟩,h4.1 hg⟩,fun hg=>h4.2 hg.2⟩,h5,h6⟩
end Go.Proofs.Ytbalnnoofdkbaaa
namespace Go.Proofs.Ytbalnnoofdkbaaa
open Go Go.Bw
def ov (y:Rn) (i:Int):Int:=if i ≤ y.At then 0 else if y.At + y.N ≤ i then y.N else i - y.At
def kI (l:List Rn) (i:Int):Int:=(l.map fun y=>ov y i).sum
theorem kx (y:Rn) (l:List Rn) (i:Int):kI (y::l) i = ov y i + kI l i:=rfl
theorem ju:∀{l:List Rn},Can l→kI l 0 = 0
  | [],_=>rfl
  | y::r,h=>by
    have hy:=h.gO y (by simp)
    rw [kx,ju ⟨fun z hz=>h.gO z (by simp [hz]),(List.pairwise_cons.1 h.pw).2⟩]
    unfold ov; rw [if_pos hy.1]; rfl
theorem jv:∀{l:List Rn},Can l→∀i:Int,(cR l i→kI l (i + 1) = kI l i + 1)∧(¬ cR l i→kI l (i + 1) = kI l i)
  | [],_,i=>⟨fun h=>absurd h (oX i),fun _=>rfl⟩
  | y::r,h,i=>by
    obtain ⟨h1,h2⟩:=List.pairwise_cons.1 h.pw
    have hy:=h.gO y (by simp)
    obtain ⟨i1,i2⟩:=jv (l:=r) ⟨fun z hz=>h.gO z (by simp [hz]),h2⟩ i
    rw [kx,kx,nh]
    by_cases c:y.At ≤ i∧i < y.At + y.N
    · have hn:¬ cR r i:=fun ⟨z,hz,a,b⟩=>by have:=h1 z hz; omega
      rw [i2 hn]
      refine ⟨fun _=>?_,fun hh=>absurd (.inl c) hh⟩
      unfold ov
      rw [if_neg (by omega)]
      split <;> split <;> omega
    · have e:ov y (i + 1) = ov y i:=by
        unfold ov
        (repeat' split) <;> omega
      rw [e]
      refine ⟨fun hh=>?_,fun hh=>?_⟩
      · rw [i1 (hh.resolve_left c)]; omega
      · rw [i2 fun hm=>hh (.inr hm)]
def dH (l:List Rn):Int:=(l.map fun y=>y.N).sum
theorem fb (y:Rn) (l:List Rn):dH (y::l) = y.N + dH l:=rfl
theorem j0:∀{l:List Rn},Can l→kI l 64 = dH l
  | [],_=>rfl
  | y::r,h=>by
    have hy:=h.gO y (by simp)
    rw [kx,fb,j0 ⟨fun z hz=>h.gO z (by simp [hz]),(List.pairwise_cons.1 h.pw).2⟩]
    unfold ov; rw [if_neg (by omega),if_pos hy.2.2]
theorem sE:∀{l:List Rn} {lo:Int},Can l→(∀y ∈ l,lo ≤ y.At)→lo ≤ 65→0 ≤ dH l∧dH l ≤ 65 - lo
  | [],lo,_,_,h=>by simp [dH]; omega
  | y::r,lo,h,hl,_=>by
    obtain ⟨h1,h2⟩:=List.pairwise_cons.1 h.pw
    have hy:=h.gO y (by simp)
    have hy':=hl y (by simp)
    have:=sE (l:=r) (lo:=y.At + y.N + 1) ⟨fun z hz=>h.gO z (by simp [hz]),h2⟩ (fun z hz=>by have:=h1 z hz; omega) (by omega)
    rw [fb]; omega
theorem tg {n:Nat}:∀(xs:List (Int × Rn)) (s:Int),0 ≤ s→s ≤ 1000000 - dH (xs.map Prod.snd)→(∀e ∈ xs,1 ≤ e.2.N) →
    eD (fun (Ad:Int × aN) B5 (eE:Int) =>
      lt (Ad.1:Int) fun kO =>
      lt (Ad.2:aN) fun jq =>
      lt (wr .i64 (eE + jq.N):Int) fun gR =>
      B5 gR) (fun (eE:Int) =>
      some eE) xs s = some (s + dH (xs.map Prod.snd))
  | [],s,_,_,_=>by show some s = _; simp [dH]
  | e::xs,s,h0,h1,h2=>by
    have:=h2 e (by simp)
    have hs:0 ≤ dH (xs.map Prod.snd):=by
      clear h1 h0
      have h3:∀e ∈ xs,1 ≤ e.2.N:=fun e he=>h2 e (by simp [he])
      clear h2 this
      induction xs with
      | nil=>simp [dH]
      | cons a xs ih=>have:=h3 a (by simp); have:=ih fun e he=>h3 e (by simp [he]); rw [List.map_cons,fb]; omega
    rw [List.map_cons,fb] at h1 ⊢
    show eD _ _ xs (wr .i64 (s + e.2.N)) = _
    rw [cj (by omega) (by omega),tg (n:=n) xs (s + e.2.N) (by omega) (by omega) (fun e he=>h2 e (by simp [he]))]
    congr 1; omega
def kZ (a:Nat→Int):Rn:=⟨a 0,a 1⟩
structure RS (r:cm) (w:Nat→Bool):Prop where
  can:Can r.l
  mem:∀p:Nat,p < 64→(w p = true↔cR r.l p)
theorem RS.all {r:cm} {w:Nat→Bool} (h:RS r w) (p:Int):cR r.l p↔0 ≤ p∧p < 64∧w p.toNat = true:=by
  constructor
  · intro hm
    obtain ⟨a,b⟩:=sQ h.can hm
    exact ⟨a,b,(h.mem p.toNat (by omega)).2 (by rw [Int.toNat_of_nonneg a]; exact hm)⟩
  · rintro ⟨a,b,d⟩
    have:=(h.mem p.toNat (by omega)).1 d
    rwa [Int.toNat_of_nonneg a] at this
theorem RS.take {r r' : cm} {w w' : Nat→Bool} {a k:Int} (h:RS r w) (hc:Can r'.l) (hm:∀p,cR r'.l p↔cR r.l p∧¬ (a ≤ p∧p < a + k)) (hw:∀p:Nat,w' p = if a ≤ (p:Int)∧(p:Int) < a + k then false else w p):RS r' w':=
  ⟨hc,fun p hp=>by
    rw [hw p,hm]
    by_cases c:a ≤ (p:Int)∧(p:Int) < a + k
    · rw [if_pos c]; simp [c]
    · rw [if_neg c,h.mem p hp]; exact ⟨fun x=>⟨x,c⟩,fun x=>x.1⟩⟩
end Go.Proofs.Ytbalnnoofdkbaaa
namespace Go.Proofs.Ytbalnnoofdkbaaa
open Go Go.Bw
theorem vM {l m x:List Rn} (hl:Can l) (hm:Can m) (hx:Can x) (h1:∀p,cR l p↔cR m p∨cR x p) (h2:∀p,cR m p→¬ cR x p):dH l = dH m + dH x:=by
  have key:∀i:Nat,kI l i = kI m i + kI x i:=by
    intro i
    induction i with
    | zero=>rw [Int.natCast_zero,ju hl,ju hm,ju hx]; rfl
    | succ i ih =>
      have e:((i + 1:Nat):Int) = (i:Int) + 1:=by omega
      rw [e]
      obtain ⟨a1,a2⟩:=jv hl i
      obtain ⟨b1,b2⟩:=jv hm i
      obtain ⟨c1,c2⟩:=jv hx i
      by_cases c:cR m i
      · rw [a1 ((h1 _).2 (.inl c)),b1 c,c2 (h2 _ c),ih]; omega
      · by_cases d:cR x i
        · rw [a1 ((h1 _).2 (.inr d)),b2 c,c1 d,ih]; omega
        · rw [a2 (fun h=>((h1 _).1 h).elim c d),b2 c,c2 d,ih]
  have:=key 64
  rw [show ((64:Nat):Int) = 64 from rfl,j0 hl,j0 hm,j0 hx] at this
  exact this
theorem Ah {a k:Int} (h:tH a k):Can [(⟨a,k⟩ : Rn)]:=iP (l:=[]) Can.nil (by unfold tH at h; exact ⟨h.2.1,h.1,h.2.2⟩) (by simp)
structure OW (first r:List Rn) (t:List Int):Prop where
  can:Can r
  nd:t.Nodup
  mem:∀p,cR first p↔cR r p∨p ∈ t
  apart:∀p,p ∈ t→¬ cR r p
theorem lM:∀(k:Nat) {t:List Int},t.Nodup→(∀p ∈ t,0 ≤ p∧p < (k:Int))→t.length ≤ k
  | 0,[],_,_=>Nat.le_refl _
  | 0,x::t,_,h=>by have:=h x (by simp); omega
  | k + 1,t,hn,h=>by
    by_cases hk:(k:Int) ∈ t
    · have h1:=lM k (hn.erase (k:Int)) fun x hx=>by
        have h2:=h x (List.mem_of_mem_erase hx)
        have h3:x ≠ k:=fun e=>by subst e; exact (List.Nodup.not_mem_erase hn) hx
        omega
      rw [List.length_erase_of_mem hk] at h1
      omega
    · have h1:=lM k hn fun x hx=>by
        have h2:=h x hx
        have h3:x ≠ k:=fun e=>hk (e ▸ hx)
        omega
      omega
theorem OW.gO {first r:List Rn} {t:List Int} (hf:Can first) (h:OW first r t) {p:Int} (hp:p ∈ t):0 ≤ p∧p < 64:=sQ hf ((h.mem p).2 (.inr hp))
theorem OW.len {first r:List Rn} {t:List Int} (hf:Can first) (h:OW first r t):t.length ≤ 64:=lM 64 h.nd fun p hp=>h.gO hf hp
end Go.Proofs.Ytbalnnoofdkbaaa
namespace Go.Proofs.Ytbalnnoofdkbaaa
open Go Go.Bw
theorem zk {l:List (Nat→Int)} {i:Nat} (h:i < l.length):kZ (l.getD i default) = (l.map kZ)[i]'(by rw [List.length_map]; exact h):=by
  rw [List.getD,List.getElem?_eq_getElem h,List.getElem_map]; rfl
def Bn:Int→List Rn→List (Int × Rn)
  | _,[]=>[]
  | b,y::r=>(b,y)::Bn (b + 32 * y.N) r
def oP (l:List Rn):Prop:=∀y ∈ l,1 ≤ y.N
theorem j1:∀{l:List Rn},oP l→0 ≤ dH l
  | [],_=>by simp [dH]
  | y::r,h=>by
    have:=h y (by simp)
    have:=j1 (l:=r) fun z hz=>h z (by simp [hz])
    rw [fb]; omega
theorem wu {n:Nat} {e:cB} (hn:e.br.length < n) (hl:e.br.length ≤ 1000) (hp:oP e.br) (hs:dH e.br ≤ 1000):dw n e = some (Bn 0 e.br):=by
  unfold dw
  have key:∀(m i:Nat) (b:Int),i ≤ e.br.length→e.br.length - i < m→0 ≤ b→b + 32 * dH (e.br.drop i) ≤ 100000→dF (fun H8 (bW:Int) (fF:Int) =>
      cn (decide (fF < (e.br.length:Int))) (
      gu (dB fF e.br.length) <|
      lt ((e.br.getD (Int.toNat fF) default):aN) fun dA =>
      yl (bW,dA) <|
      H8 (wr .i64 (bW + (wr .i64 (dA.N * 32)))) (wr .i64 (fF + 1))) (
      some [])) m b (i:Int) = some (Bn b (e.br.drop i)):=by
    intro m
    induction m with
    | zero=>intro i b _ h; omega
    | succ m ih =>
      intro i b hi hm hb Iv
      simp only [dF]
      by_cases c:i < e.br.length
      · have hg:e.br.getD (Int.toNat (i:Int)) default = e.br[i]:=by rw [Int.toNat_natCast,List.getD,List.getElem?_eq_getElem c]; rfl
        have hy:=hp _ (List.getElem_mem c)
        have hd:e.br.drop i = e.br[i]::e.br.drop (i + 1):=List.drop_eq_getElem_cons c
        rw [hd,fb] at Iv
        have hr:0 ≤ dH (e.br.drop (i + 1)):=j1 fun z hz=>hp z (List.mem_of_mem_drop hz)
        rw [aJ (by simpa using c),aF (cD (by omega) (by omega)),lt_eq,hg,hd]
        rw [cj (x:=e.br[i].N * 32) (by omega) (by omega),cj (x:=b + e.br[i].N * 32) (by omega) (by omega),cj (x:=(i:Int) + 1) (by omega) (by omega)]
        have e1:((i:Int) + 1) = ((i + 1:Nat):Int):=by omega
        rw [e1,ih (i + 1) (b + e.br[i].N * 32) (by omega) (by omega) (by omega) (by omega)]
        show some ((b,e.br[i])::Bn (b + e.br[i].N * 32) (e.br.drop (i + 1))) = some ((b,e.br[i])::Bn (b + 32 * e.br[i].N) (e.br.drop (i + 1)))
        rw [Int.mul_comm]
      · rw [av (by simpa using c),List.drop_eq_nil_of_le (by omega)]; rfl
  have:=key n 0 0 (by omega) (by omega) (by omega) (by rw [List.drop_zero]; omega)
  simpa using this
theorem oC:∀(l:List Rn) (b:Int),(Bn b l).map Prod.snd = l
  | [],_=>rfl
  | y::r,b=>by rw [Bn,List.map_cons,oC r]
theorem xo {n:Nat} {e:cB} (hn:e.br.length < n) (hl:e.br.length ≤ 1000) (hp:oP e.br) (hs:dH e.br ≤ 1000):dY n e = some (dH e.br):=by
  unfold dY
  rw [ax (show eO n e = some e from rfl),ax (wu hn hl hp hs)]
  have h0:=j1 hp
  refine (tg (n:=n) (Bn 0 e.br) 0 (by omega) (by rw [oC]; omega) fun q hq=>hp q.2 (by rw [← oC e.br 0]; exact List.mem_map_of_mem hq)).trans ?_
  rw [oC]; congr 1; omega
end Go.Proofs.Ytbalnnoofdkbaaa
namespace Go.Proofs.Ytbalnnoofdkbaaa
open Go Go.Bw
structure pR (l:List Rn):Prop where
  gO:∀y ∈ l,tH y.At y.N
  pw:l.Pairwise fun y z=>∀p,y.At ≤ p→p < y.At + y.N→¬ (z.At ≤ p∧p < z.At + z.N)
theorem pR.nil:pR []:=⟨by simp, .nil⟩
theorem lu {l:List Rn} {y:Rn}:pR (l++[y])↔pR l∧tH y.At y.N∧∀p,y.At ≤ p→p < y.At + y.N→¬ cR l p:=by
  constructor
  · rintro ⟨h1,h2⟩
    obtain ⟨p1,p2,p3⟩:=List.pairwise_append.1 h2
    exact ⟨⟨fun z hz=>h1 z (by simp [hz]),p1⟩,h1 y (by simp),fun p q1 q2 ⟨z,hz,q3,q4⟩=>p3 z hz y (by simp) p q3 q4 ⟨q1,q2⟩⟩
  · rintro ⟨⟨h1,h2⟩,h3,h4⟩
    refine ⟨fun z hz=>?_,List.pairwise_append.2 ⟨h2,List.pairwise_singleton _ _,fun a ha b hb p q1 q2 q3=>?_⟩⟩
    · rcases List.mem_append.1 hz with hz | hz
      · exact h1 z hz
      · rw [List.mem_singleton.1 hz]; exact h3
    · rw [List.mem_singleton.1 hb] at q3
      exact h4 p q3.1 q3.2 ⟨a,ha,q1,q2⟩
theorem pR.nat {l:List Rn} (h:pR l):oP l:=fun y hy=>(h.gO y hy).1
theorem mI:∀(l m:List Rn),dH (l++m) = dH l + dH m
  | [],m=>by simp [dH]
  | y::r,m=>by rw [List.cons_append,fb,fb,mI r m]; omega
theorem sD {l:List Rn} (h:Can l):∀i:Nat,kI l i ≤ i
  | 0=>by rw [Int.natCast_zero,ju h]; exact Int.le_refl _
  | i + 1=>by
    have:=sD h i
    obtain ⟨a,b⟩:=jv h i
    have e:((i + 1:Nat):Int) = (i:Int) + 1:=by omega
    rw [e]
    by_cases c:cR l i
    · rw [a c]; omega
    · rw [b c]; omega
theorem xC {n:Nat} (hn:110 ≤ n) {e:cB} (hl:e.br.length ≤ 80) (hr:∀y ∈ e.br,za y.At∧za y.N):∃b,dU n e = some b∧(b = true↔pR e.br∧dH e.br ≤ 64∧0 ≤ e.oI∧e.oI ≤ 32 * dH e.br):=by
  unfold dU
  refine dR (fun (i:Int) (r:cm)=>0 ≤ i∧i ≤ e.br.length∧Can r.l∧pR (e.br.take i.toNat)∧(∀p,cR r.l p↔cR (e.br.take i.toNat) p)∧dH r.l = dH (e.br.take i.toNat)) (fun i _=>((e.br.length:Int) - i).toNat)
    (fun o=>∃b,o = some b∧(b = true↔pR e.br∧dH e.br ≤ 64∧0 ≤ e.oI∧e.oI ≤ 32 * dH e.br)) ?_ n 0 iQ ⟨by omega,by omega,Can.nil,pR.nil,fun p=>Iff.rfl,rfl⟩ (by omega)
  rintro kk i r ⟨i0,i1,hc,hg,hm,hs⟩ ih
  obtain ⟨i,rfl⟩:=Int.eq_ofNat_of_zero_le i0
  rw [Int.toNat_natCast] at hg hm hs
  by_cases c:i < e.br.length
  · have hgd:e.br.getD (Int.toNat (i:Int)) default = e.br[i]:=by rw [Int.toNat_natCast,List.getD,List.getElem?_eq_getElem c]; rfl
    have hy:=hr _ (List.getElem_mem c)
    have ht:e.br.take (i + 1) = e.br.take i++[e.br[i]]:=List.take_succ_eq_append_getElem c
    rw [aJ (by simpa using c),aF (cD (by omega) (by omega)),lt_eq,hgd]
    obtain ⟨r',g,g1,g2,g3,g4⟩:=z7 (n:=n) hn hc (at_:=e.br[i].At) (k:=e.br[i].N) hy.1 hy.2
    rw [ax g1]
    have Fy:g = true↔pR (e.br.take (i + 1)):=by
      rw [g2,ht,lu]
      exact ⟨fun ⟨a,b⟩=>⟨hg,a,fun p q1 q2 q3=>b p q1 q2 ((hm p).2 q3)⟩,fun ⟨_,a,b⟩=>⟨a,fun p q1 q2 q3=>b p q1 q2 ((hm p).1 q3)⟩⟩
    cases g with
    | false =>
      refine ⟨false,rfl,fun h=>(by cases h),fun ⟨h,_⟩=>?_⟩
      rw [← List.take_append_drop (i + 1) e.br] at h
      exact Fy.2 ⟨fun y hy=>h.gO y (List.mem_append_left _ hy),(List.pairwise_append.1 h.pw).1⟩
    | true =>
      obtain ⟨c1,c2⟩:=g4 rfl
      have ho:=(g2.1 rfl).1
      rw [av (b:=!true) rfl,cj (by omega) (by omega)]
      have e1:((i:Int) + 1).toNat = i + 1:=by omega
      refine ih _ _ ⟨by omega,by omega,c1,by rw [e1]; exact Fy.1 rfl,fun p=>?_,?_⟩ (by omega)
      · rw [e1,ht,fe,eK,c2 p,hm p]
      · rw [e1,ht,mI,← hs]
        rw [vM c1 hc (Ah ho) (fun p=>by rw [c2 p,eK]) (fun p hp hq=>(g2.1 rfl).2 p (eK.1 hq).1 (eK.1 hq).2 hp)]
  · rw [av (by simpa using c)]
    obtain rfl:i = e.br.length:=by omega
    rw [List.take_length] at hg hm hs
    have IJ:=sE (lo:=0) hc (fun y hy=>(hc.gO y hy).1) (by omega)
    have Mh:dH r.l ≤ 64:=by rw [← j0 hc]; exact sD hc 64
    rw [cN (xo (n:=n) (by omega) (by omega) hg.nat (by rw [← hs]; omega))]
    refine ⟨_,rfl,?_⟩
    by_cases c0:0 ≤ e.oI
    · have e1:(bif decide (0 ≤ e.oI) == true then dH e.br else default) = dH e.br:=by simp [c0]
      rw [e1,cj (by omega) (by omega)]
      simp only [c0,decide_true,Bool.true_and,decide_eq_true_eq,true_and,← hs]
      exact ⟨fun h=>⟨hg,Mh,by omega⟩,fun h=>by omega⟩
    · simp [c0]
end Go.Proofs.Ytbalnnoofdkbaaa
namespace Go.Proofs.Ytbalnnoofdkbaaa
open Go Go.Bw
structure Gx (l:List Rn):Prop where
  gd:pR l
  sum:dH l ≤ 64
theorem xE:∀{l:List Rn},oP l→(l.length:Int) ≤ dH l
  | [],_=>by simp [dH]
  | y::r,h=>by
    have h1:=h y (by simp)
    have h2:=xE (l:=r) fun z hz=>h z (by simp [hz])
    rw [fb,List.length_cons]; omega
theorem Gx.len {l:List Rn} (h:Gx l):l.length ≤ 64:=by have:=xE h.gd.nat; have:=h.sum; omega
theorem Gx.pos {l:List Rn} (h:Gx l):0 ≤ dH l:=j1 h.gd.nat
theorem BN {l:List (Nat→Int)} {i:Nat}:(l.getD i default) 0 = (kZ (l.getD i default)).At:=rfl
theorem Eo {l:List (Nat→Int)} {i:Nat}:(l.getD i default) 1 = (kZ (l.getD i default)).N:=rfl
theorem qG {l:List Rn} {y:Rn} {p:Int}:cR (l++[y]) p↔cR l p∨(y.At ≤ p∧p < y.At + y.N):=by rw [fe,eK]
theorem qu {n:Nat} (hn:110 ≤ n) {x:jk} (hl:x.br.length ≤ 80) (hr:∀y ∈ x.br.map kZ,za y.At∧za y.N):∃b,dc n x = some b∧(b = true↔pR (x.br.map kZ)∧0 ≤ x.oI∧x.oI ≤ 32 * dH (x.br.map kZ)):=by
  unfold dc
  refine ni (fun (s i:Int) (t:Nat→Bool)=>0 ≤ i∧i ≤ x.br.length∧pR ((x.br.map kZ).take i.toNat)∧s = dH ((x.br.map kZ).take i.toNat)∧∀p:Nat,p < 64→(t p = true↔cR ((x.br.map kZ).take i.toNat) p)) (fun _ i _=>((x.br.length:Int) - i).toNat)
    (fun o=>∃b,o = some b∧(b = true↔pR (x.br.map kZ)∧0 ≤ x.oI∧x.oI ≤ 32 * dH (x.br.map kZ))) ?_ n 0 0 _ ⟨by omega,by omega,pR.nil,rfl,fun p _=>⟨fun h=>by simp at h,fun h=>by simp [cR] at h⟩⟩ (by omega)
  rintro kk s i t ⟨i0,i1,hg,rfl,ht⟩ ih
  obtain ⟨i,rfl⟩:=Int.eq_ofNat_of_zero_le i0
  rw [Int.toNat_natCast] at *
  by_cases c:i < x.br.length
  · have g1:dB (i:Int) x.br.length = true:=cD (by omega) (by omega)
    have hi:i < (x.br.map kZ).length:=by rw [List.length_map]; exact c
    have hy:=hr _ (List.getElem_mem hi)
    have hgt:=zk c
    have DW:(x.br.map kZ).take (i + 1) = (x.br.map kZ).take i++[(x.br.map kZ)[i]]:=List.take_succ_eq_append_getElem hi
    have j9:pR (x.br.map kZ)→pR ((x.br.map kZ).take (i + 1)):=fun h=>by
      rw [← List.take_append_drop (i + 1) (x.br.map kZ)] at h
      exact ⟨fun y hy=>h.gO y (List.mem_append_left _ hy),(List.pairwise_append.1 h.pw).1⟩
    have GV:dH ((x.br.map kZ).take i) ≤ 80 * 64:=by
      have:∀(l:List Rn),(∀y ∈ l,tH y.At y.N)→dH l ≤ l.length * 64:=by
        intro l
        induction l with
        | nil=>intro _; simp [dH]
        | cons y r ih=>intro h; have h1:=h y (by simp); have:=ih fun z hz=>h z (by simp [hz]); unfold tH at h1; rw [fb,List.length_cons]; omega
      have h2:=this _ hg.gO
      have h3:((x.br.map kZ).take i).length ≤ 80:=by rw [List.length_take,List.length_map]; omega
      omega
    have LU:0 ≤ dH ((x.br.map kZ).take i):=j1 hg.nat
    rw [DW] at j9
    generalize (x.br.map kZ)[i] = y at *
    rw [aJ (by simpa using c)]
    simp only [BN,Eo,Int.toNat_natCast,hgt,aF g1]
    obtain ⟨⟨a1,a2⟩,n1,n2⟩:=hy
    by_cases hk:tH y.At y.N
    · obtain ⟨k1,k2,k3⟩:=hk
      rw [cj (x:=y.At + y.N) (by omega) (by omega),av (by simp; omega)]
      refine dR (fun (p:Int) (t:Nat→Bool)=>y.At ≤ p∧p ≤ y.At + y.N∧(∀q,y.At ≤ q→q < p→¬ cR ((x.br.map kZ).take i) q)∧∀q:Nat,q < 64→(t q = true↔cR ((x.br.map kZ).take i) q∨(y.At ≤ (q:Int)∧(q:Int) < p))) (fun p _=>(y.At + y.N - p).toNat)
        (fun o=>∃b,o = some b∧(b = true↔pR (x.br.map kZ)∧0 ≤ x.oI∧x.oI ≤ 32 * dH (x.br.map kZ))) ?_ n _ t ⟨by omega,by omega,fun q _ _=>by omega,fun q hq=>by rw [ht q hq]; exact ⟨.inl,fun h=>h.elim id fun h=>by omega⟩⟩ (by omega)
      rintro k4 p t2 ⟨p0,p1,p2,p3⟩ DU
      obtain ⟨p,rfl⟩:=Int.eq_ofNat_of_zero_le (show 0 ≤ p by omega)
      by_cases d:(p:Int) < y.At + y.N
      · have e1:dB (p:Int) 64 = true:=cD (by omega) (by omega)
        rw [aJ (by simpa using d),aF e1,Int.toNat_natCast]
        have hp:=p3 p (by omega)
        by_cases m:cR ((x.br.map kZ).take i) p
        · rw [aJ (hp.2 (.inl m))]
          exact ⟨false,rfl,fun h=>(by cases h),fun ⟨h,_⟩=>absurd m ((lu.1 (j9 h)).2.2 p p0 d)⟩
        · have:t2 p = false:=by
            cases hh:t2 p with
            | false=>rfl
            | true =>
              rcases hp.1 hh with h | h
              · exact absurd h m
              · omega
          rw [av this,aF e1,lt_eq,cj (by omega) (by omega)]
          refine DU _ _ ⟨by omega,by omega,fun q q1 q2=>?_,fun q hq=>?_⟩ (by omega)
          · by_cases e:q = p
            · subst e; exact m
            · exact p2 q q1 (by omega)
          · rw [bG]
            by_cases e:q = p
            · subst e; simp; exact .inr ⟨p0,by omega⟩
            · rw [if_neg e,p3 q hq]
              exact ⟨fun h=>h.imp id fun h=>⟨h.1,by omega⟩,fun h=>h.imp id fun h=>⟨h.1,by omega⟩⟩
      · rw [av (by simpa using d),cj (by omega) (by omega),cj (by omega) (by omega)]
        have e1:((i:Int) + 1).toNat = i + 1:=by omega
        refine ih _ _ _ ⟨by omega,by omega,?_,?_,fun q hq=>?_⟩ (by omega)
        · rw [e1,DW]
          exact lu.2 ⟨hg,⟨k1,k2,k3⟩,fun q q1 q2=>p2 q q1 (by omega)⟩
        · rw [e1,DW,mI]; simp [dH]
        · rw [e1,DW,qG,p3 q hq]
          exact ⟨fun h=>h.imp id fun h=>⟨h.1,by omega⟩,fun h=>h.imp id fun h=>⟨h.1,by omega⟩⟩
    · have hb:(((((decide (y.N < 1) || decide (64 < y.N)) || decide (y.At < 0)) || decide (63 < y.At)) || decide (64 < (wr .i64 (y.At + y.N)))):Bool) = true:=by
        unfold tH at hk
        by_cases h1:y.N < 1
        · simp [h1]
        by_cases h2:64 < y.N
        · simp [h2]
        by_cases h3:y.At < 0
        · simp [h3]
        by_cases h4:63 < y.At
        · simp [h4]
        rw [cj (x:=y.At + y.N) (by omega) (by omega)]
        have:64 < y.At + y.N:=by omega
        simp [this]
      rw [aJ hb]
      exact ⟨false,rfl,fun h=>(by cases h),fun ⟨h,_⟩=>absurd (lu.1 (j9 h)).2.1 hk⟩
  · rw [av (by simpa using c)]
    have e:(x.br.map kZ).take i = x.br.map kZ:=List.take_of_length_le (by rw [List.length_map]; omega)
    rw [e] at hg ht ⊢
    have h2:dH (x.br.map kZ) ≤ 80 * 64∧0 ≤ dH (x.br.map kZ):=by
      have:∀(l:List Rn),(∀y ∈ l,tH y.At y.N)→dH l ≤ l.length * 64:=by
        intro l
        induction l with
        | nil=>intro _; simp [dH]
        | cons y r ih=>intro h; have h1:=h y (by simp); have:=ih fun z hz=>h z (by simp [hz]); unfold tH at h1; rw [fb,List.length_cons]; omega
      have h2:=this _ hg.gO
      rw [List.length_map] at h2
      exact ⟨by omega,j1 hg.nat⟩
    rw [cj (by omega) (by omega)]
    refine ⟨_,rfl,?_⟩
    rw [Bool.and_eq_true,decide_eq_true_iff,decide_eq_true_iff]
    exact ⟨fun h=>⟨hg,h⟩,fun h=>h.2⟩
def vW (y:Rn):List Int:=(List.range y.N.toNat).map fun (k:Nat)=>y.At + (k:Int)
theorem sP {y:Rn} {p:Int}:p ∈ vW y↔y.At ≤ p∧p < y.At + y.N:=by
  unfold vW
  rw [List.mem_map]
  constructor
  · rintro ⟨k,hk,rfl⟩
    rw [List.mem_range] at hk; omega
  · intro h
    exact ⟨(p - y.At).toNat,by rw [List.mem_range]; omega,by omega⟩
theorem zD (y:Rn):(vW y).Nodup:=by
  unfold vW
  rw [List.Nodup,List.pairwise_map]
  exact List.nodup_range.imp fun h e=>h (by omega)
theorem w7 {α:Type} {P:List α→Prop} (h0:P []) (h1:∀l y,P l→P (l++[y])) (l:List α):P l:=by
  have key:∀(r:List α),P r.reverse:=by
    intro r
    induction r with
    | nil=>exact h0
    | cons y r ih=>rw [List.reverse_cons]; exact h1 _ _ ih
  have:=key l.reverse
  rwa [List.reverse_reverse] at this
theorem zw:∀(l:List Rn),pR l→∃t:List Int,t.Nodup∧(∀p,p ∈ t↔cR l p)∧(t.length:Int) = dH l:=by
  intro l
  induction l using w7 with
  | h0=>intro _; exact ⟨[],List.nodup_nil,by simp [cR],by simp [dH]⟩
  | h1 l y ih =>
    intro h
    obtain ⟨h1,h2,h3⟩:=lu.1 h
    obtain ⟨t,t1,t2,t3⟩:=ih h1
    refine ⟨t++vW y,List.nodup_append.2 ⟨t1,zD y,fun a ha b hb e=>?_⟩,fun p=>?_,?_⟩
    · subst e
      have:=sP.1 hb
      exact h3 _ this.1 this.2 ((t2 _).1 ha)
    · rw [List.mem_append,t2,sP,qG]
    · have:=h2.1
      rw [List.length_append,mI]
      simp only [vW,List.length_map,List.length_range,dH,List.map_cons,List.map_nil,List.sum_cons,List.sum_nil] at *
      omega
theorem z8 {l:List Rn} (h:pR l):dH l ≤ 64:=by
  obtain ⟨t,t1,t2,t3⟩:=zw l h
  have:=lM 64 t1 fun p hp=>by
    obtain ⟨y,hy,h1,h2⟩:=(t2 p).1 hp
    obtain ⟨a,b,c⟩:=h.gO y hy
    exact ⟨by omega,by omega⟩
  omega
end Go.Proofs.Ytbalnnoofdkbaaa
namespace Go.Proofs.Ytbalnnoofdkbaaa
open Go Go.Bw
structure ML (e:cB):Prop where
  gx:Gx e.br
  lo:0 ≤ e.oI
  hi:e.oI ≤ 32 * dH e.br
end Go.Proofs.Ytbalnnoofdkbaaa
namespace Go.Proofs.Ytbalnnoofdkbaaa
open Go Go.Bw
structure bI where
 Up:Int
 bq:Int
 E:jk
 Cells:(Nat→Int)
abbrev pI:bI:=⟨0,0,cq,(fun _=>0)⟩
structure ag where
 B:aC
 R:(Nat→bI)
abbrev gy:ag:=⟨rW,(fun _=>pI)⟩
def ja (n:Nat) (a0:ag):Option (List Int):=
 dF (fun xF (de:(List Int)) (bW:Int) =>
 cn (decide (bW < 32)) (
 gu (dB bW 32) <|
 cn (((a0.B.Is (Int.toNat bW)) == 1)) (
 bd (gq n a0.B bW) fun jK =>
 gu (jY de.length 1 8) <|
 lt (de++([jK]):List Int) fun fO =>
 xF fO (wr .i64 (bW + 1))) (
 xF de (wr .i64 (bW + 1)))) (
 some de)) n ([]) 0
def iZ (n:Nat) (a0:ag) (a1:Int):Option (bI × Int):=
 bd (bE n a0.B a1) fun bu =>
 cn (decide (bu < 0)) (
 lt ({ Up:=0,bq:=0,E:=cq,Cells:=(fun _=>0) }:bI) fun cZ =>
 some (cZ,4)) (
 gu (dB bu 32) <|
 lt ((a0.R (Int.toNat bu)):bI) fun fF =>
 some (fF,0))
structure ku where
 gN:bg
abbrev gm:aQ ku:=aQ.via aA (fun x=>x.gN)
abbrev mW:ku:=⟨fG⟩
theorem aI:bf gm aA 0 (fun x=>x.gN) (fun x v=>{ x with gN:=v }):=bf.id.via _ _ _ 0 rfl (fun _=>rfl) (fun _ _=>rfl)
structure bj where
 Up:Int
 bq:Int
 E:cB
 Cells:(Nat→Int)
abbrev au:aQ bj:=aQ.via (LP (LI .u32) (LP (LI .i64) (LP cA (LA (LI .u32) 8)))) (fun x=>(x.Up,x.bq,x.E,x.Cells))
abbrev cz:bj:=⟨0,0,dG,(fun _=>0)⟩
def aT:List Value:=[.int .u32 0]++([.int .i64 0]++(fa++((((LA (LI .u32) 8)).enc (fun _=>0)))))
theorem bC {A:World→Prop}:au.rep A aT cz:=⟨_,_,rfl,rfl,⟨_,_,rfl,rfl,⟨_,_,rfl,ga,fl⟩⟩⟩
theorem bX:bf au (LI .u32) 0 (fun x=>x.Up) (fun x v=>{ x with Up:=v }):=(bf.fst bf.id).via _ _ _ 0 rfl (fun _=>rfl) (fun _ _=>rfl)
theorem lH:bf au (LI .i64) 1 (fun x=>x.bq) (fun x v=>{ x with bq:=v }):=(bf.snd (bf.fst bf.id)).via _ _ _ 1 rfl (fun _=>rfl) (fun _ _=>rfl)
theorem nN:bf au cA 2 (fun x=>x.E) (fun x v=>{ x with E:=v }):=(bf.snd (bf.snd (bf.fst bf.id))).via _ _ _ 2 rfl (fun _=>rfl) (fun _ _=>rfl)
theorem dQ:bf au (LA (LI .u32) 8) 4 (fun x=>x.Cells) (fun x v=>{ x with Cells:=v }):=(bf.snd (bf.snd (bf.snd bf.id))).via _ _ _ 4 rfl (fun _=>rfl) (fun _ _=>rfl)
structure ai where
 book:ku
 regions:(Nat→bj)
abbrev ae:aQ ai:=aQ.via (LP gm (LA au 32)) (fun x=>(x.book,x.regions))
abbrev aH:ai:=⟨mW,(fun _=>cz)⟩
def aq:List Value:=((gm).enc mW)++((flat (fun _=>aT) 32))
theorem aB {A:World→Prop}:ae.rep A aq aH:=⟨_,_,rfl,fl,⟨_,rfl,fun _ _=>bC⟩⟩
theorem aD:bf ae gm 0 (fun x=>x.book) (fun x v=>{ x with book:=v }):=(bf.fst bf.id).via _ _ _ 0 rfl (fun _=>rfl) (fun _ _=>rfl)
theorem cF:bf ae (LA au 32) 96 (fun x=>x.regions) (fun x v=>{ x with regions:=v }):=(bf.snd bf.id).via _ _ _ 96 rfl (fun _=>rfl) (fun _ _=>rfl)
def dP (n:Nat) (a0:ai) (a1:Int):Option Int:=
 bd (bB n a1) fun bu =>
 gu (dB bu.1 32) <|
 bd (aO n a0.book.gN ((a0.regions (Int.toNat bu.1)).Up)) fun kq =>
 cn (kq) (
 some ((a0.regions (Int.toNat bu.1)).Up)) (
 some 0)
theorem kf {n a0 a1 r K} [bT K] {dM} (f0:(ae).rep K dM a0) (h:dP n a0 a1 = some r):wU Try.prog 58 [A dM, .int .u32 a1] K (.int .u32 r):=by
 unfold dP at h
 refine fo Try.func58 (by kernel_rfl) rfl Try.ntmps58 rfl fun cx _ hro cU hpre=>?_
 refine SC 2 rf ?_
 refine W1 rf (cH rfl) fun b2=>?_
 obtain ⟨bu,cS,h⟩:=bM h
 refine SL 6 rf ?_
 refine CV (cv cS) rf rf ?_
 obtain ⟨po,h⟩:=eX h
 refine SL 12 rf ?_
 refine ah rfl (g9 (m:=(Int.toNat bu.1)) rfl rfl (aV po).1 (aV po).2) ?_
 refine ah rfl (jH rfl) ?_
 refine ah rfl (cQ rfl (((cF.comp (bf.idx (L:=au) (m:=32) (k:=12) ((Int.toNat bu.1)) (aV po).2 rfl)).comp bX).int f0)) ?_
 obtain ⟨kq,nq,h⟩:=bM h
 refine SL 7 rf ?_
 refine ah rfl (bn rfl (aZ.iff.1 ((aD.c0 aI).get f0)) (bF _ _)) ?_
 refine ah rfl (ak rfl) ?_
 refine CV (aS nq) rf rf ?_
 refine SL 2 rf ?_
 refine jc h rf (fun hc h=>?_) fun hc h=>?_
 ·
  refine SC 8 rf ?_
  have h:=sj h; subst h
  exact RV rf (rt rf rn) rf
 ·
  refine SC 8 rf ?_
  have h:=sj h; subst h
  exact RV rf (rt rf rn) rf
def cM (n:Nat) (a0:ai) (a1:Int):Option (bj × Int):=
 bd (aO n a0.book.gN a1) fun bu =>
 cn ((!bu)) (
 lt ({ Up:=0,bq:=0,E:=dG,Cells:=(fun _=>0) }:bj) fun cZ =>
 some (cZ,4)) (
 bd (bB n a1) fun eE =>
 gu (dB eE.1 32) <|
 lt ((a0.regions (Int.toNat eE.1)):bj) fun eZ =>
 bd (dP n a0 a1) fun jK =>
 lt ({ eZ with Up:=jK }:bj) fun gR =>
 some (gR,0))
theorem eP {n a0 a1 r K} [bT K] {dM} (f0:(ae).rep K dM a0) (h:cM n a0 a1 = some r):tJ Try.prog 29 [A dM, .int .u32 a1] K (fun J v=>∃u0,v = (.tuple #[A u0, .int .i64 r.2])∧(au).rep (fun w=>K w∧J w) u0 (r.1)):=by
 unfold cM at h
 refine fo Try.func29 (by kernel_rfl) rfl Try.ntmps29 rfl fun cx _ hro cU hpre=>?_
 refine SC 2 rf ?_
 refine W1 rf (cH rfl) fun b2=>?_
 refine W1 rf (bK (hz:=(⟨by kernel_rfl⟩ : cK Try.prog 38 aT))) fun b4=>?_
 obtain ⟨bu,cS,h⟩:=bM h
 refine SL 8 rf ?_
 refine ah rfl (bn rfl (aZ.iff.1 ((aD.c0 aI).get f0)) (bF _ _)) ?_
 refine ah rfl (ak rfl) ?_
 refine CV (aS cS) rf rf ?_
 refine SL 3 rf ?_
 refine jc h rf (fun hc h=>?_) fun hc h=>?_
 ·
  obtain ⟨cZ,kQ,h⟩:=dj h
  refine SC 2 rf ?_
  obtain ⟨D1,Jv,f24⟩ : ∃cc,(((LI .u32).enc 0)++(((LI .i64).enc 0)++(fa++((LA (LI .u32) 8).enc (fun _=>0))))) = cc∧(au).rep (Hs []) cc cZ:=⟨_,rfl,by rw [kQ]; exact ⟨_,_,rfl,fl,⟨_,_,rfl,fl,⟨_,_,rfl,ga,fl⟩⟩⟩⟩
  refine ah rfl (iS (cs:=D1) rfl (by rw [← Jv]; rfl)) ?_
  refine ST (C:=(Hs [])) cZ (bf.id (L:=au)) bC (mo f24) rf rf rf rf rf fun Gn f26=>?_
  refine SL 5 rf ?_
  have h:=sj h; subst h
  exact pQ [] rf rf (ra rf (aQ.len _ f26) (rt rf rn)) ⟨_,rfl,(mo f26)⟩
 ·
  obtain ⟨eE,uk,h⟩:=bM h
  refine SC 5 rf ?_
  refine CV (cv uk) rf rf ?_
  obtain ⟨CL,h⟩:=eX h
  obtain ⟨eZ,uh,h⟩:=dj h
  refine SL 11 rf ?_
  refine ah rfl (g9 (m:=(Int.toNat eE.1)) rfl rfl (aV CL).1 (aV CL).2) ?_
  obtain ⟨Al,ya,f31⟩:=xj ((cF.comp (bf.idx (L:=au) (m:=32) (k:=12) ((Int.toNat eE.1)) (aV CL).2 rfl)).get f0)
  refine ah rfl (bn rfl ya (aQ.len _ f31)) ?_
  refine W1 rf (bK (hz:=(⟨by kernel_rfl⟩ : cK Try.prog 38 aT))) fun b8=>?_
  refine ST (C:=K) eZ (bf.id (L:=au)) bC (mo f31) uh rf rf rf rf fun tp f34=>?_
  obtain ⟨jK,pX,h⟩:=bM h
  obtain ⟨gR,lq,h⟩:=dj h
  refine SL 4 rf ?_
  refine ah rfl (ay rfl (aQ.len _ f0)) ?_
  refine ah rfl (ak rfl) ?_
  refine CV (kf (K:=K) (mo f0) pX) rf rf ?_
  refine ah rfl (aK rfl) ?_
  refine ST (C:=K) gR bX (mo f34) fl lq rf rf rf rf fun KK f38=>?_
  refine SL 4 rf ?_
  refine ah rfl (ay rfl (aQ.len _ f38)) ?_
  refine ST (C:=K) gR (bf.id (L:=au)) bC (mo f38) rf rf rf rf rf fun Mz f40=>?_
  refine SL 4 rf ?_
  have h:=sj h; subst h
  exact pQ [] rf rf (ra rf (aQ.len _ f40) (rt rf rn)) ⟨_,rfl,(mo f40)⟩
def eu (n:Nat) (a0:ku):Option (List Int):=
 bd (ew n a0.gN) fun bu =>
 some bu
theorem ke {n a0 r}  (h:eu n a0 = some r):Bw.Fn (α:=Value) Try.prog 17 [.agg (gm.enc a0).toArray] (fun _=>True) [] (fun v=>jU v r.length) (fun v=>v) (fun v=>[Row v 32 1 (LI .u32) r]):=by
 unfold eu at h
 refine eF Try.func17 (by kernel_rfl) rfl Try.ntmps17 rfl (fun cx cU hpre hro=>?_)
 refine SC 2 rf ?_
 refine W1 rf (fz gm a0 rfl rfl) fun b1=>?_
 obtain ⟨bu,cS,h⟩:=bM h
 refine SL 6 rf ?_
 refine ah rfl (eC (M:=aA) aI rfl rfl) ?_
 refine cu rfl (fK (lA cS) rfl (fun _ _ _=>trivial)) (fun Ld II=>?_)
 dsimp only [List.cons_append,List.nil_append]
 refine SL 4 rf ?_
 have h:=sj h; subst h
 exact cg Ld rfl (.tmp rfl .nil) II rfl (ks:=[0]) rfl (by decide)
def bH (n:Nat) (a0:ag) (a1:Int):Option Bool:=
 bd (bE n a0.B a1) fun bu =>
 some (decide (0 ≤ bu))
def fQ (n:Nat) (a0:Int):Option Bool:=
 some (decide (0 ≤ a0) && decide (a0 ≤ 64))
theorem l5 {n a0 r}  (h:fQ n a0 = some r):yW Try.prog 59 [.int .i64 a0] (.bool r):=by
 unfold fQ at h
 refine eF Try.func59 (by kernel_rfl) rfl Try.ntmps59 rfl (fun cx cU hpre hro=>?_)
 refine SC 10 rf ?_
 refine GB rf rf rf (fun hb=>ak rfl) ?_
 refine GB rf rf rf (fun hb=>r7 (cT rfl hb) rfl) ?_
 refine ah rfl (ec rfl rfl) ?_
 refine SL 4 rf ?_
 have h:=sj h; subst h
 exact RV rf (rt rf rn) rf
def cV (n:Nat) (a0:ai) (a1:Int) (a2:bj):Option (ai × Int):=
 bd (aO n a0.book.gN a1) fun bu =>
 cn ((!bu)) (
 some (a0,4)) (
 bd (fQ n a2.bq) fun lK =>
 cl ((!lK) == false) (dU n a2.E) default fun eE =>
 cn (((!lK) || (!eE))) (
 some (a0,2)) (
 bd (bB n a1) fun eZ =>
 gu (dB eZ.1 32) <|
 lt ({ a2 with Up:=(a0.regions (Int.toNat eZ.1)).Up }:bj) fun jq =>
 gu (dB eZ.1 32) <|
 lt ({ a0 with regions:=(dI a0.regions (Int.toNat eZ.1) jq) }:ai) fun fE =>
 some (fE,0)))
theorem jS {n a0 a1 a2 r K} [bT K] {dM} (f0:(ae).rep K dM a0) {uI:List Value} (f2:(au).rep K uI a2) (h:cV n a0 a1 a2 = some r):tJ Try.prog 31 [A dM, .int .u32 a1,A uI] K (fun J v=>∃u0,v = (.tuple #[A u0, .int .i64 r.2])∧(ae).rep (fun w=>K w∧J w) u0 (r.1)):=by
 unfold cV at h
 refine fo Try.func31 (by kernel_rfl) rfl Try.ntmps31 rfl fun cx _ hro cU hpre=>?_
 refine SC 2 rf ?_
 refine W1 rf (cH rfl) fun b3=>?_
 refine W1 rf (cH rfl) fun b5=>?_
 refine W1 rf (bK (hz:=(⟨by kernel_rfl⟩ : cK Try.prog 41 aq))) fun b6=>?_
 obtain ⟨bu,cS,h⟩:=bM h
 refine SL 9 rf ?_
 refine ah rfl (bn rfl (aZ.iff.1 ((aD.c0 aI).get f0)) (bF _ _)) ?_
 refine ah rfl (ak rfl) ?_
 refine CV (aS cS) rf rf ?_
 refine SL 4 rf ?_
 refine jc h rf (fun hc h=>?_) fun hc h=>?_
 ·
  refine SC 2 rf ?_
  refine ah rfl (ay rfl (aQ.len _ f0)) ?_
  refine ST (C:=K) a0 (bf.id (L:=ae)) aB (mo f0) rf rf rf rf rf fun J3 f23=>?_
  refine SL 6 rf ?_
  have h:=sj h; subst h
  exact pQ [] rf rf (ra rf (aQ.len _ f23) (rt rf rn)) ⟨_,rfl,(mo f23)⟩
 ·
  obtain ⟨lK,o9,h⟩:=bM h
  obtain ⟨eE,uk,_,h⟩:=oh h
  refine SC 3 rf ?_
  refine ah rfl (cQ rfl (lH.int f2)) ?_
  refine CV (l5 o9) rf rf ?_
  refine SL 2 rf ?_
  refine GB rf rf rf (fun hb=>aK rfl) ?_
  obtain ⟨Dp,Ju,f27⟩:=xj (nN.get f2)
  refine GB rf rf rf (fun hb=>bn (cT rfl hb) Ju (aQ.len _ f27)) ?_
  refine GB rf rf rf (fun hb=>bZ (lV (K:=K) (mo f27) (uk hb)) (bJ (cT rfl hb) rfl) kn) ?_
  refine GB rf rf rf (fun hb=>iu (cT rfl hb)) ?_
  refine ah rfl (fC rfl rfl) ?_
  refine SL 3 rf ?_
  refine jc h rf (fun hc h=>?_) fun hc h=>?_
  ·
   refine SC 2 rf ?_
   refine ah rfl (ay rfl (aQ.len _ f0)) ?_
   refine ST (C:=K) a0 (bf.id (L:=ae)) aB (mo f0) rf rf rf rf rf fun Ni f30=>?_
   refine SL 6 rf ?_
   have h:=sj h; subst h
   exact pQ [] rf rf (ra rf (aQ.len _ f30) (rt rf rn)) ⟨_,rfl,(mo f30)⟩
  ·
   obtain ⟨eZ,uh,h⟩:=bM h
   refine SC 6 rf ?_
   refine CV (cv uh) rf rf ?_
   obtain ⟨CJ,h⟩:=eX h
   obtain ⟨jq,rC,h⟩:=dj h
   refine SL 11 rf ?_
   refine ah rfl (g9 (m:=(Int.toNat eZ.1)) rfl rfl (aV CJ).1 (aV CJ).2) ?_
   refine ah rfl (jH rfl) ?_
   refine ah rfl (cQ rfl (((cF.comp (bf.idx (L:=au) (m:=32) (k:=12) ((Int.toNat eZ.1)) (aV CJ).2 rfl)).comp bX).int f0)) ?_
   refine ah rfl (aK rfl) ?_
   refine ST (C:=K) jq bX (mo f2) fl rC rf rf rf rf fun Nh f36=>?_
   obtain ⟨sZ,h⟩:=eX h
   obtain ⟨fE,v8,h⟩:=dj h
   refine SL 5 rf ?_
   refine ah rfl (ay rfl (aQ.len _ f36)) ?_
   refine ah rfl (aK rfl) ?_
   refine ah rfl (g9 (m:=(Int.toNat eZ.1)) rfl rfl (aV sZ).1 (aV sZ).2) ?_
   refine ST (C:=K) fE (cF.comp (bf.idx (L:=au) (m:=32) (k:=12) ((Int.toNat eZ.1)) (aV sZ).2 rfl)) (mo f0) (mo f36) v8 rf rf rf rf fun Mz f40=>?_
   refine SL 4 rf ?_
   refine ah rfl (ay rfl (aQ.len _ f40)) ?_
   refine ST (C:=K) fE (bf.id (L:=ae)) aB (mo f40) rf rf rf rf rf fun Ng f42=>?_
   refine SL 4 rf ?_
   have h:=sj h; subst h
   exact pQ [] rf rf (ra rf (aQ.len _ f42) (rt rf rn)) ⟨_,rfl,(mo f42)⟩
def fB (n:Nat) (a0:ag) (a1:Int) (a2:bI):Option (ag × Int):=
 bd (bE n a0.B a1) fun bu =>
 cn (decide (bu < 0)) (
 some (a0,4)) (
 cl ((decide (a2.bq < 0) || decide (64 < a2.bq)) == false) (dc n a2.E) default fun de =>
 cn (((decide (a2.bq < 0) || decide (64 < a2.bq)) || (!de))) (
 some (a0,2)) (
 gu (dB bu 32) <|
 lt ({ a2 with Up:=(a0.R (Int.toNat bu)).Up }:bI) fun eZ =>
 gu (dB bu 32) <|
 lt ({ a0 with R:=(dI a0.R (Int.toNat bu) eZ) }:ag) fun gR =>
 some (gR,0)))
def c9 (n:Nat) (a0:ai) (a1:Int):Option (ai × Int):=
 bd (fg n a0.book.gN a1) fun bu =>
 cn ((!bu.2)) (
 some (a0,4)) (
 lt ({ a0 with book:={ a0.book with gN:=bu.1 } }:ai) fun lK =>
 bd (bB n a1) fun eE =>
 lt ({ Up:=0,bq:=0,E:=dG,Cells:=(fun _=>0) }:bj) fun eo =>
 gu (dB eE.1 32) <|
 lt ({ lK with regions:=(dI lK.regions (Int.toNat eE.1) eo) }:ai) fun kO =>
 some (kO,0))
theorem mz {n a0 a1 r K} [bT K] {dM} (f0:(ae).rep K dM a0) (h:c9 n a0 a1 = some r):tJ Try.prog 41 [A dM, .int .u32 a1] K (fun J v=>∃u0,v = (.tuple #[A u0, .int .i64 r.2])∧(ae).rep (fun w=>K w∧J w) u0 (r.1)):=by
 unfold c9 at h
 refine fo Try.func41 (by kernel_rfl) rfl Try.ntmps41 rfl fun cx _ hro cU hpre=>?_
 refine SC 2 rf ?_
 refine W1 rf (cH rfl) fun b2=>?_
 refine W1 rf (bK (hz:=(⟨by kernel_rfl⟩ : cK Try.prog 41 aq))) fun b4=>?_
 obtain ⟨bu,cS,h⟩:=bM h
 refine SL 7 rf ?_
 refine ah rfl (bn rfl (aZ.iff.1 ((aD.c0 aI).get f0)) (bF _ _)) ?_
 refine ah rfl (ak rfl) ?_
 refine CV (mA cS) rf rf ?_
 refine SL 3 rf ?_
 refine W1 rf (cL (L:=aA) (z:=fG) ⟨by kernel_rfl⟩) fun b6=>?_
 refine W0 (dx (M:=aA) (bf.id (L:=aA)) bu.1 bu.1 rfl rfl rfl rfl rfl) ?_
 refine SL 10 rf ?_
 refine jc h rf (fun hc h=>?_) fun hc h=>?_
 ·
  refine SC 2 rf ?_
  refine ah rfl (ay rfl (aQ.len _ f0)) ?_
  refine ST (C:=K) a0 (bf.id (L:=ae)) aB (mo f0) rf rf rf rf rf fun J3 f23=>?_
  refine SL 5 rf ?_
  have h:=sj h; subst h
  exact pQ [] rf rf (ra rf (aQ.len _ f23) (rt rf rn)) ⟨_,rfl,(mo f23)⟩
 ·
  obtain ⟨lK,o9,h⟩:=dj h
  refine SC 4 rf ?_
  refine ah rfl (eC (M:=aA) (bf.id (L:=aA)) rfl rfl) ?_
  refine SL 2 rf ?_
  refine ST (C:=K) lK (aD.c0 aI) (mo f0) fl o9 rf rf rf rf fun Dp f27=>?_
  obtain ⟨eE,uk,h⟩:=bM h
  refine SL 5 rf ?_
  refine CV (cv uk) rf rf ?_
  obtain ⟨eo,uj,h⟩:=dj h
  obtain ⟨CK,h⟩:=eX h
  obtain ⟨kO,ug,h⟩:=dj h
  refine SL 10 rf ?_
  obtain ⟨Al,ya,f31⟩ : ∃cc,(((LI .u32).enc 0)++(((LI .i64).enc 0)++(fa++((LA (LI .u32) 8).enc (fun _=>0))))) = cc∧(au).rep (Hs []) cc eo:=⟨_,rfl,by rw [uj]; exact ⟨_,_,rfl,fl,⟨_,_,rfl,fl,⟨_,_,rfl,ga,fl⟩⟩⟩⟩
  refine ah rfl (iS (cs:=Al) rfl (by rw [← ya]; rfl)) ?_
  refine ah rfl (aK rfl) ?_
  refine ah rfl (g9 (m:=(Int.toNat eE.1)) rfl rfl (aV CK).1 (aV CK).2) ?_
  refine ST (C:=K) kO (cF.comp (bf.idx (L:=au) (m:=32) (k:=12) ((Int.toNat eE.1)) (aV CK).2 rfl)) (mo f27) (mo f31) ug rf rf rf rf fun Bp f35=>?_
  refine SL 4 rf ?_
  refine ah rfl (ay rfl (aQ.len _ f35)) ?_
  refine ST (C:=K) kO (bf.id (L:=ae)) aB (mo f35) rf rf rf rf rf fun Gm f37=>?_
  refine SL 4 rf ?_
  have h:=sj h; subst h
  exact pQ [] rf rf (ra rf (aQ.len _ f37) (rt rf rn)) ⟨_,rfl,(mo f37)⟩
def cP (n:Nat) (a0:ai) (a1:Int) (a2:Int):Option (ai × Int):=
 bd (aO n a0.book.gN a1) fun bu =>
 cl (((!bu) == false) && ((a2 != 0) == true)) (aO n a0.book.gN a2) default fun cZ =>
 cn (((!bu) || ((a2 != 0) && (!cZ)))) (
 some (a0,4)) (
 dk (fun zL (de:Int) =>
 cn ((de != 0)) (
 cn ((de == a1)) (
 some (a0,12)) (
 bd (dP n a0 de) fun jq =>
 zL jq)) (
 bd (bB n a1) fun jK =>
 gu (dB jK.1 32) <|
 lt ({ a0 with regions:=(dI a0.regions (Int.toNat jK.1) ({ (a0.regions (Int.toNat jK.1)) with Up:=a2 })) }:ai) fun fO =>
 some (fO,0))) n a2)
theorem je {n a0 a1 a2 r K} [bT K] {dM} (f0:(ae).rep K dM a0) (h:cP n a0 a1 a2 = some r):tJ Try.prog 44 [A dM, .int .u32 a1, .int .u32 a2] K (fun J v=>∃u0,v = (.tuple #[A u0, .int .i64 r.2])∧(ae).rep (fun w=>K w∧J w) u0 (r.1)):=by
 unfold cP at h
 refine fo Try.func44 (by kernel_rfl) rfl Try.ntmps44 rfl fun cx _ hro cU hpre=>?_
 refine SC 2 rf ?_
 refine W1 rf (cH rfl) fun b3=>?_
 refine W1 rf (bK (hz:=(⟨by kernel_rfl⟩ : cK Try.prog 41 aq))) fun b6=>?_
 obtain ⟨bu,cS,h⟩:=bM h
 obtain ⟨cZ,kQ,_,h⟩:=oh h
 refine SL 8 rf ?_
 refine ah rfl (bn rfl (aZ.iff.1 ((aD.c0 aI).get f0)) (bF _ _)) ?_
 refine ah rfl (ak rfl) ?_
 refine CV (aS cS) rf rf ?_
 refine SL 2 rf ?_
 refine GB rf rf rf (fun hb=>ak rfl) ?_
 refine GB rf rf rf (fun hb=>jG (cT rfl hb) rfl) ?_
 refine GB rf rf rf (fun hb=>ak (cT rfl hb)) ?_
 refine cI (gp rfl rfl) rfl (fun hb=>aK rfl) ?_
 refine cI (gp rfl rfl) rfl (fun hb=>aK (cT rfl hb)) ?_
 refine cI (gp rfl rfl) rfl (fun hb=>bn (cT rfl hb) (aZ.iff.1 ((aD.c0 aI).get f0)) (bF _ _)) ?_
 refine cI (gp rfl rfl) rfl (fun hb=>ak rfl) ?_
 refine cI (gp rfl rfl) rfl (fun hb=>bZ (aS (kQ hb)) (bJ (cT rfl hb) (bJ (cT rfl hb) rfl)) (fun _ _ _=>trivial)) ?_
 refine cI (gp rfl rfl) rfl (fun hb=>iu (cT rfl hb)) ?_
 refine GB rf rf rf (fun hb=>ec (cT rfl hb) (uz rfl hb)) ?_
 refine ah rfl (fC rfl rfl) ?_
 refine SL 2 rf ?_
 refine jc h rf (fun hc h=>?_) fun hc h=>?_
 ·
  refine SC 2 rf ?_
  refine ah rfl (ay rfl (aQ.len _ f0)) ?_
  refine ST (C:=K) a0 (bf.id (L:=ae)) aB (mo f0) rf rf rf rf rf fun D1 f24=>?_
  refine SL 5 rf ?_
  have h:=sj h; subst h
  exact pQ [] rf rf (ra rf (aQ.len _ f24) (rt rf rn)) ⟨_,rfl,(mo f24)⟩
 ·
  refine SC 10 rf ?_
  obtain ⟨HZ,Fx,h⟩:=nW h
  refine LO (β:=Int) [1,2,3,6] [0,1] (fun (EN,de)=>[(8, .int .u32 de)]) (fun (EN,de)=>[.cells b6 41 aq, .cells b3 41 dM]) (fun (EN,de)=>dk HZ EN de = some r) (n,a2) h rf rf rf ?_
  rintro EN de h
  replace h:=nV Fx h; obtain ⟨EN,rfl,h⟩:=h
  refine SC 7 rf ?_
  refine jc h rf (fun hc h=>?_) fun hc h=>?_
  ·
   refine SC 11 rf ?_
   refine jc h rf (fun hc h=>?_) fun hc h=>?_
   ·
    refine SC 2 rf ?_
    refine ah rfl (ay rfl (aQ.len _ f0)) ?_
    refine ST (C:=K) a0 (bf.id (L:=ae)) aB (mo f0) rf rf rf rf rf fun D0 f32=>?_
    refine SL 9 rf ?_
    have h:=sj h; subst h
    exact pQ [] rf rf (ra rf (aQ.len _ f32) (rt rf rn)) ⟨_,rfl,(mo f32)⟩
   ·
    obtain ⟨jq,rC,h⟩:=bM h
    refine SC 4 rf ?_
    refine ah rfl (ay rfl (aQ.len _ f0)) ?_
    refine ah rfl (ak rfl) ?_
    refine CV (kf (K:=K) (mo f0) rC) rf rf ?_
    refine SL 2 rf ?_
    exact LN [0,1] jq h rf rf rf
  ·
   obtain ⟨jK,pX,h⟩:=bM h
   refine SC 8 rf ?_
   refine CV (cv pX) rf rf ?_
   obtain ⟨s6,h⟩:=eX h
   obtain ⟨fO,oc,h⟩:=dj h
   refine SL 12 rf ?_
   refine ah rfl (g9 (m:=(Int.toNat jK.1)) rfl rfl (aV s6).1 (aV s6).2) ?_
   refine ah rfl (jH rfl) ?_
   refine ST (C:=K) fO ((cF.comp (bf.idx (L:=au) (m:=32) (k:=12) ((Int.toNat jK.1)) (aV s6).2 rfl)).comp bX) (mo f0) fl oc rf rf rf rf fun KJ f39=>?_
   refine SL 4 rf ?_
   refine ah rfl (ay rfl (aQ.len _ f39)) ?_
   refine ST (C:=K) fO (bf.id (L:=ae)) aB (mo f39) rf rf rf rf rf fun My f41=>?_
   refine SL 4 rf ?_
   have h:=sj h; subst h
   exact pQ [] rf rf (ra rf (aQ.len _ f41) (rt rf rn)) ⟨_,rfl,(mo f41)⟩
def dD (n:Nat) (a0:ai) (a1:Int) (a2:Int):Option (ai × Int × Int):=
 cl ((a1 != 0) == true) (aO n a0.book.gN a1) default fun bu =>
 cn (((a1 != 0) && (!bu))) (
 some (a0,0,4)) (
 bd (fQ n a2) fun lK =>
 cn ((!lK)) (
 some (a0,0,2)) (
 bd (dS n a0.book.gN) fun eo =>
 cn ((!eo.2.2)) (
 some (a0,0,7)) (
 lt ({ a0 with book:={ a0.book with gN:=eo.1 } }:ai) fun kO =>
 bd (bB n eo.2.1) fun gR =>
 lt ({ Up:=a1,bq:=a2,E:=dG,Cells:=(fun _=>0) }:bj) fun fO =>
 gu (dB gR.1 32) <|
 lt ({ kO with regions:=(dI kO.regions (Int.toNat gR.1) fO) }:ai) fun dA =>
 some (dA,eo.2.1,0))))
theorem mS {n a0 a1 a2 r K} [bT K] {dM} (f0:(ae).rep K dM a0) (h:dD n a0 a1 a2 = some r):tJ Try.prog 48 [A dM, .int .u32 a1, .int .i64 a2] K (fun J v=>∃u0,v = (.tuple #[A u0, .int .u32 r.2.1, .int .i64 r.2.2])∧(ae).rep (fun w=>K w∧J w) u0 (r.1)):=by
 unfold dD at h
 refine fo Try.func48 (by kernel_rfl) rfl Try.ntmps48 rfl fun cx _ hro cU hpre=>?_
 refine SC 2 rf ?_
 refine W1 rf (cH rfl) fun b3=>?_
 refine W1 rf (bK (hz:=(⟨by kernel_rfl⟩ : cK Try.prog 41 aq))) fun b6=>?_
 obtain ⟨bu,cS,_,h⟩:=oh h
 refine SL 11 rf ?_
 refine GB rf rf rf (fun hb=>aK rfl) ?_
 refine GB rf rf rf (fun hb=>aK (cT rfl hb)) ?_
 refine GB rf rf rf (fun hb=>bn (cT rfl hb) (aZ.iff.1 ((aD.c0 aI).get f0)) (bF _ _)) ?_
 refine GB rf rf rf (fun hb=>ak rfl) ?_
 refine GB rf rf rf (fun hb=>bZ (aS (cS hb)) (bJ (cT rfl hb) (bJ (cT rfl hb) rfl)) (fun _ _ _=>trivial)) ?_
 refine GB rf rf rf (fun hb=>iu (cT rfl hb)) ?_
 refine ah rfl (ec rfl rfl) ?_
 refine SL 3 rf ?_
 refine jc h rf (fun hc h=>?_) fun hc h=>?_
 ·
  refine SC 2 rf ?_
  refine ah rfl (ay rfl (aQ.len _ f0)) ?_
  refine ST (C:=K) a0 (bf.id (L:=ae)) aB (mo f0) rf rf rf rf rf fun J3 f23=>?_
  refine SL 7 rf ?_
  have h:=sj h; subst h
  exact pQ [] rf rf (ra rf (aQ.len _ f23) (rt rf (rt rf rn))) ⟨_,rfl,(mo f23)⟩
 ·
  obtain ⟨lK,o9,h⟩:=bM h
  refine SC 3 rf ?_
  refine CV (l5 o9) rf rf ?_
  refine SL 4 rf ?_
  refine jc h rf (fun hc h=>?_) fun hc h=>?_
  ·
   refine SC 2 rf ?_
   refine ah rfl (ay rfl (aQ.len _ f0)) ?_
   refine ST (C:=K) a0 (bf.id (L:=ae)) aB (mo f0) rf rf rf rf rf fun Dp f27=>?_
   refine SL 7 rf ?_
   have h:=sj h; subst h
   exact pQ [] rf rf (ra rf (aQ.len _ f27) (rt rf (rt rf rn))) ⟨_,rfl,(mo f27)⟩
  ·
   obtain ⟨eo,uj,h⟩:=bM h
   refine SC 7 rf ?_
   refine ah rfl (bn rfl (aZ.iff.1 ((aD.c0 aI).get f0)) (bF _ _)) ?_
   refine CV (lU uj) rf rf ?_
   refine SL 4 rf ?_
   refine W1 rf (cL (L:=aA) (z:=fG) ⟨by kernel_rfl⟩) fun b9=>?_
   refine W0 (dx (M:=aA) (bf.id (L:=aA)) eo.1 eo.1 rfl rfl rfl rfl rfl) ?_
   refine SL 11 rf ?_
   refine jc h rf (fun hc h=>?_) fun hc h=>?_
   ·
    refine SC 2 rf ?_
    refine ah rfl (ay rfl (aQ.len _ f0)) ?_
    refine ST (C:=K) a0 (bf.id (L:=ae)) aB (mo f0) rf rf rf rf rf fun Al f31=>?_
    refine SL 6 rf ?_
    have h:=sj h; subst h
    exact pQ [] rf rf (ra rf (aQ.len _ f31) (rt rf (rt rf rn))) ⟨_,rfl,(mo f31)⟩
   ·
    obtain ⟨kO,ug,h⟩:=dj h
    refine SC 4 rf ?_
    refine ah rfl (eC (M:=aA) (bf.id (L:=aA)) rfl rfl) ?_
    refine SL 2 rf ?_
    refine ST (C:=K) kO (aD.c0 aI) (mo f0) fl ug rf rf rf rf fun Bp f35=>?_
    obtain ⟨gR,lq,h⟩:=bM h
    refine SL 5 rf ?_
    refine CV (cv lq) rf rf ?_
    obtain ⟨fO,oc,h⟩:=dj h
    obtain ⟨nv,h⟩:=eX h
    obtain ⟨dA,sV,h⟩:=dj h
    refine SL 12 rf ?_
    obtain ⟨KJ,Jr,f39⟩ : ∃cc,(((LI .u32).enc a1)++(((LI .i64).enc a2)++(fa++((LA (LI .u32) 8).enc (fun _=>0))))) = cc∧(au).rep (Hs []) cc fO:=⟨_,rfl,by rw [oc]; exact ⟨_,_,rfl,fl,⟨_,_,rfl,fl,⟨_,_,rfl,ga,fl⟩⟩⟩⟩
    refine ah rfl (iS (cs:=KJ) rfl (by rw [← Jr]; rfl)) ?_
    refine ah rfl (aK rfl) ?_
    refine ah rfl (g9 (m:=(Int.toNat gR.1)) rfl rfl (aV nv).1 (aV nv).2) ?_
    refine ST (C:=K) dA (cF.comp (bf.idx (L:=au) (m:=32) (k:=12) ((Int.toNat gR.1)) (aV nv).2 rfl)) (mo f35) (mo f39) sV rf rf rf rf fun wQ f43=>?_
    refine SL 4 rf ?_
    refine ah rfl (ay rfl (aQ.len _ f43)) ?_
    refine ah rfl (ak rfl) ?_
    refine ST (C:=K) dA (bf.id (L:=ae)) aB (mo f43) rf rf rf rf rf fun Nf f45=>?_
    refine SL 5 rf ?_
    have h:=sj h; subst h
    exact pQ [] rf rf (ra rf (aQ.len _ f45) (rt rf (rt rf rn))) ⟨_,rfl,(mo f45)⟩
def bS (n:Nat) (a0:ag) (a1:Int) (a2:Int):Option Bool:=
 dk (fun v5 (cZ:Int) =>
 cn ((cZ != 0)) (
 bd (bE n a0.B cZ) fun fL =>
 gu (dB fL 32) <|
 cn ((((a0.R (Int.toNat fL)).Up) == a1)) (
 some (a1 != 0)) (
 v5 ((a0.R (Int.toNat fL)).Up))) (
 some false)) n a2
def dJ (n:Nat) (a0:ag) (a1:Int):Option (ag × Int):=
 bd (bE n a0.B a1) fun bu =>
 cn (decide (bu < 0)) (
 some (a0,4)) (
 bd (gF n a0.B a1) fun lK =>
 lt ({ a0 with B:=lK.1 }:ag) fun fL =>
 lt ({ Up:=0,bq:=0,E:=cq,Cells:=(fun _=>0) }:bI) fun eo =>
 gu (dB bu 32) <|
 lt ({ fL with R:=(dI fL.R (Int.toNat bu) eo) }:ag) fun kO =>
 dF (fun A7 (jW:Int) (kN:ag) =>
 cn (decide (jW < 32)) (
 gu (dB jW 32) <|
 cn ((((kN.R (Int.toNat jW)).Up) == a1)) (
 gu (dB jW 32) <|
 lt ({ kN with R:=(dI kN.R (Int.toNat jW) ({ (kN.R (Int.toNat jW)) with Up:=0 })) }:ag) fun u6 =>
 A7 (wr .i64 (jW + 1)) u6) (
 A7 (wr .i64 (jW + 1)) kN)) (
 some (kN,0))) n 0 kO)
def eJ (n:Nat) (a0:ag) (a1:Int) (a2:Int):Option (ag × Int):=
 bd (bH n a0 a1) fun bu =>
 cl (((!bu) == false) && ((a2 != 0) == true)) (bH n a0 a2) default fun cZ =>
 cn (((!bu) || ((a2 != 0) && (!cZ)))) (
 some (a0,4)) (
 cl (((a2 != 0) == true) && ((a2 == a1) == false)) (bS n a0 a1 a2) default fun fL =>
 cn (((a2 != 0) && ((a2 == a1) || fL))) (
 some (a0,12)) (
 bd (bE n a0.B a1) fun bW =>
 gu (dB bW 32) <|
 lt ({ a0 with R:=(dI a0.R (Int.toNat bW) ({ (a0.R (Int.toNat bW)) with Up:=a2 })) }:ag) fun eZ =>
 some (eZ,0)))
def cX (n:Nat) (a0:ag) (a1:Int) (a2:Int):Option (ag × Int × Int):=
 cl ((a1 != 0) == true) (bH n a0 a1) default fun bu =>
 cn (((a1 != 0) && (!bu))) (
 some (a0,0,4)) (
 cn ((decide (a2 < 0) || decide (64 < a2))) (
 some (a0,0,2)) (
 bd (gh n a0.B) fun eE =>
 cn ((eE.2 == 0)) (
 some (a0,0,7)) (
 lt ({ a0 with B:=eE.1 }:ag) fun eZ =>
 bd (bE n eE.1 eE.2) fun jK =>
 lt ({ Up:=a1,bq:=a2,E:=cq,Cells:=(fun _=>0) }:bI) fun gR =>
 gu (dB jK 32) <|
 lt ({ eZ with R:=(dI eZ.R (Int.toNat jK) gR) }:ag) fun lX =>
 some (lX,eE.2,0))))
end Go.Proofs.Ytbalnnoofdkbaaa
namespace Go.Proofs.Ytbalnnoofdkbaaa
open Go Go.Bw
end Go.Proofs.Ytbalnnoofdkbaaa
namespace Go.Proofs.Ytbalnnoofdkbaaa
open Go Go.Bw
set_option maxRecDepth 100000 in
theorem ez {w:aC} {h:Int} (hg:aR w h = true):h < 4294967296:=w8 (eG.1 hg).1
theorem qL (w:aC):aR w 0 = false:=rfl
theorem gj {w:aC} {h:Int} (hg:aX w h):0 < h:=by
  have:=hg.1
  rcases Int.lt_or_eq_of_le this with h1 | h1
  · exact h1
  · subst h1; have:=hg.2; rw [qL] at this; cases this
structure sd (p:bj) (x:bI):Prop where
  q:p.bq = x.bq
  e:p.E = ⟨x.E.br.map kZ,x.E.oI⟩
  n:x.E.br.length ≤ 80
  r:∀y ∈ x.E.br.map kZ,za y.At∧za y.N
  c:∀i,i < 8→p.Cells i = x.Cells i
  c0:∀i,i < 8→0 ≤ x.Cells i∧x.Cells i ≤ 4294967295
theorem sd.Es {p:bj} {x:bI} (h:sd p x) (u v:Int):sd { p with Up:=u } { x with Up:=v }:=⟨h.q,h.e,h.n,h.r,h.c,h.c0⟩
def ve (B:aC) (h:Int):Int:=if aR B h = true then h else 0
structure dZ (t:ai) (w:ag):Prop where
  book:RB t.book.gN w.B
  AY:∀i,i < 32→w.B.Is i = 1→sd (t.regions i) (w.R i)
  up:∀i,i < 32→w.B.Is i = 1→(w.R i).Up = ve w.B (t.regions i).Up
  old:∀i,i < 32→w.B.Is i = 1→(t.regions i).Up = 0∨nU w.B (t.regions i).Up
def KS (w:ag) (ρ:Nat→Nat):Prop:=∀i,i < 32→w.B.Is i = 1→(w.R i).Up ≠ 0→ρ (bt (w.R i).Up) < ρ i
def fD (w:ag):Prop:=∃ρ:Nat→Nat,KS w ρ
theorem dZ.GQ {t:ai} {w:ag} (r:dZ t w) {i:Nat} (hi:i < 32) (h1:w.B.Is i = 1):(w.R i).Up = 0∨aX w.B (w.R i).Up:=by
  rw [r.up i hi h1]
  unfold ve
  split
  · rename_i h
    rcases r.old i hi h1 with h2 | h2
    · exact .inl h2
    · exact .inr ⟨h2.1,h⟩
  · exact .inl rfl
theorem cJ {w:aC} {x:Int} (h:aX w x):bt x < 32∧w.Is (bt x) = 1:=⟨iX x,(nx h.2).2.1⟩
theorem dZ.DR {t:ai} {w:ag} (r:dZ t w) {x:Int} (hx:aX w.B x):(w.R (bt x)).Up = 0∨aX w.B (w.R (bt x)).Up:=r.GQ (cJ hx).1 (cJ hx).2
theorem fc (h:Int):dB (fY h) 32 = true:=cD (cW h).1 (by have:=cW h; omega)
theorem wX {n:Nat} {t:ai} {w:ag} (r:dZ t w) {x:Int} (hx:aX w.B x):dP n t x = some (w.R (bt x)).Up:=by
  unfold dP
  obtain ⟨l1,l2⟩:=cJ hx
  have ho:=r.old _ l1 l2
  have hu:0 ≤ (t.regions (bt x)).Up∧(t.regions (bt x)).Up < 4294967296:=by
    rcases ho with h | h
    · rw [h]; decide
    · exact ⟨h.1,w8 h.2.1⟩
  rw [ax (jO hx.1 (ez hx.2)),aF (fc x)]
  show bd (aO n t.book.gN (t.regions (bt x)).Up) _ = _
  rw [ax (iH r.book hu.1 hu.2),r.up _ l1 l2]
  unfold ve
  show cn (aR w.B (t.regions (bt x)).Up) (some (t.regions (bt x)).Up) (some 0) = _
  cases hg:aR w.B (t.regions (bt x)).Up with
  | true=>rw [aJ rfl,if_pos rfl]
  | false=>rw [av rfl,if_neg (by decide)]
def kr (t:ai) (w:ag) (h:Int):bj:={ t.regions (bt h) with Up:=(w.R (bt h)).Up }
def B0:bj:={ Up:=0,bq:=0,E:=dG,Cells:=(fun _=>0) }
theorem oz {n:Nat} {t:ai} {w:ag} (r:dZ t w) {h:Int} (h0:0 ≤ h) (h1:h < 4294967296):cM n t h = some (if aR w.B h = true then (kr t w h,0) else (B0,4)):=by
  unfold cM
  rw [ax (iH r.book h0 h1)]
  cases hg:aR w.B h with
  | false=>rfl
  | true =>
    rw [av (b:=!true) rfl,ax (jO h0 h1),aF (fc h),lt_eq,ax (wX r ⟨h0,hg⟩),lt_eq,if_pos rfl]; rfl
theorem tX {n:Nat} (hn:40 ≤ n) {t:ai} {w:ag} (r:dZ t w) {h:Int} (hg:aX w.B h):iZ n w h = some (w.R (bt h),0):=by
  unfold iZ
  have hr:=cW h
  rw [ax (cO hn r.book hg.1),hg.2,if_pos rfl,av (by simp; omega),aF (fc h),lt_eq]
  rfl
theorem bR {n:Nat} (hn:40 ≤ n) {t:ai} {w:ag} (r:dZ t w) {h:Int} (h0:0 ≤ h):bH n w h = some (aR w.B h):=by
  unfold bH
  have hr:=cW h
  rw [ax (cO hn r.book h0)]
  cases aR w.B h with
  | false=>rfl
  | true=>rw [if_pos rfl]; simpa using hr.1
structure DI (t:ai) (w:ag) (t' : ai) (w' : ag) (who e:Int) (dr:Bool):Prop where
  rt:dZ t' w'
  tt:fD w'
  kp:∀g,aX w.B g→¬ (g = who∧e = 0)→aX w'.B g∧(t'.regions (bt g)).bq = (t.regions (bt g)).bq∧(t'.regions (bt g)).E = (t.regions (bt g)).E∧(t'.regions (bt g)).Cells = (t.regions (bt g)).Cells ∧
    ((w'.R (bt g)).Up = (w.R (bt g)).Up∨(dr = true∧e = 0∧(w.R (bt g)).Up = who∧who ≠ 0∧(w'.R (bt g)).Up = 0))
theorem DI.same {t:ai} {w:ag} (r:dZ t w) (tt:fD w) (who e:Int) (dr:Bool):DI t w t w who e dr:=⟨r,tt,fun _ hg _=>⟨hg,rfl,rfl,rfl, .inl rfl⟩⟩
theorem qW {b:bg} {w:aC} (r:RB b w) {h:Int} (h0:0 ≤ h) (x:Int):aX (wK w h) x↔aX w x∧x ≠ h:=wk r h0 x
theorem BG {b:bg} {w:aC} (r:RB b w) {h u:Int} (hg:aX w h) (hu:0 ≤ u):ve (wK w h) u = if ve w u = h then 0 else ve w u:=by
  have hv:=qW r hg.1 u
  have hp:=gj hg
  unfold ve
  cases h1:aR w u with
  | false =>
    have:aR (wK w h) u ≠ true:=fun h2=>by
      have:=(hv.1 ⟨hu,h2⟩).1.2; rw [h1] at this; cases this
    rw [if_neg this]; simp
  | true =>
    rw [if_pos rfl]
    by_cases e:u = h
    · rw [if_pos e,if_neg (fun h2=>(hv.1 ⟨hu,h2⟩).2 e)]
    · rw [if_neg e,if_pos (hv.2 ⟨⟨hu,h1⟩,e⟩).2]
theorem vS {n:Nat} (hn:40 ≤ n) (h:Int) (w:ag):∃w' : ag,dF (fun A7 (jW:Int) (kN:ag) =>
  cn (decide (jW < 32)) (
  gu (dB jW 32) <|
  cn ((((kN.R (Int.toNat jW)).Up) == h)) (
  gu (dB jW 32) <|
  lt ({ kN with R:=(dI kN.R (Int.toNat jW) ({ (kN.R (Int.toNat jW)) with Up:=0 })) }:ag) fun u6 =>
  A7 (wr .i64 (jW + 1)) u6) (
  A7 (wr .i64 (jW + 1)) kN)) (
  some (kN,(0:Int)))) n 0 w = some (w',0)∧w'.B = w.B∧∀i,i < 32→w'.R i = if (w.R i).Up = h then { w.R i with Up:=0 } else w.R i:=by
  refine dR (fun (i:Int) (v:ag)=>0 ≤ i∧i ≤ 32∧v.B = w.B∧∀j,v.R j = if j < i.toNat∧(w.R j).Up = h then { w.R j with Up:=0 } else w.R j) (fun i _=>(32 - i).toNat)
    (fun o=>∃w' : ag,o = some (w',0)∧w'.B = w.B∧∀i,i < 32→w'.R i = if (w.R i).Up = h then { w.R i with Up:=0 } else w.R i) ?_ n 0 w ⟨by omega,by omega,rfl,fun j=>by simp⟩ (by omega)
  rintro kk i v ⟨i0,i1,hb,hv⟩ ih
  by_cases c:i < 32
  · have hi:=hv i.toNat
    rw [if_neg (fun hh=>absurd hh.1 (Nat.lt_irrefl _))] at hi
    rw [aJ (by simpa using c),aF (cD i0 (by omega)),hi,cj (x:=i + 1) (by omega) (by omega)]
    have e1:(i + 1).toNat = i.toNat + 1:=by omega
    by_cases hu:(w.R i.toNat).Up = h
    · rw [aJ (by simpa using hu),aF (cD i0 (by omega)),lt_eq]
      refine ih _ _ ⟨by omega,by omega,hb,fun j=>?_⟩ (by omega)
      show dI v.R i.toNat _ j = _
      rw [bG]
      by_cases ej:j = i.toNat
      · subst ej; rw [if_pos rfl,if_pos ⟨by omega,hu⟩]
      · rw [if_neg ej,hv j]
        by_cases hj:(w.R j).Up = h
        · by_cases hl:j < i.toNat
          · rw [if_pos ⟨hl,hj⟩,if_pos ⟨by omega,hj⟩]
          · rw [if_neg (fun hh=>hl hh.1),if_neg (fun hh=>by omega)]
        · rw [if_neg (fun hh=>hj hh.2),if_neg (fun hh=>hj hh.2)]
    · rw [av (by simpa using hu)]
      refine ih _ _ ⟨by omega,by omega,hb,fun j=>?_⟩ (by omega)
      rw [hv j]
      by_cases ej:j = i.toNat
      · subst ej; rw [if_neg (fun hh=>hu hh.2),if_neg (fun hh=>hu hh.2)]
      · by_cases hj:(w.R j).Up = h
        · by_cases hl:j < i.toNat
          · rw [if_pos ⟨hl,hj⟩,if_pos ⟨by omega,hj⟩]
          · rw [if_neg (fun hh=>hl hh.1),if_neg (fun hh=>by omega)]
        · rw [if_neg (fun hh=>hj hh.2),if_neg (fun hh=>hj hh.2)]
  · rw [av (by simpa using c)]
    refine ⟨v,rfl,hb,fun j hj=>?_⟩
    rw [hv j]
    by_cases hu:(w.R j).Up = h
    · rw [if_pos ⟨by omega,hu⟩,if_pos hu]
    · rw [if_neg (fun hh=>hu hh.2),if_neg hu]
theorem Ge {n:Nat} (hn:40 ≤ n) {t:ai} {w:ag} (r:dZ t w) (tt:fD w) {h:Int} (h0:0 ≤ h) (h1:h < 4294967296) :
    ∃t' w' e,c9 n t h = some (t',e)∧dJ n w h = some (w',e)∧DI t w t' w' h e true:=by
  obtain ⟨b',e1,r'⟩:=zg (n:=n) r.book h0 h1
  cases hg:aR w.B h with
  | false =>
    refine ⟨t,w,4,?_,?_, .same r tt _ _ _⟩
    · unfold c9; rw [ax e1,hg]; rfl
    · unfold dJ; rw [ax (cO hn r.book h0),hg]; rfl
  | true =>
    have wN:aX w.B h:=⟨h0,hg⟩
    obtain ⟨w',c1,c2,c3⟩:=vS (n:=n) hn h { B:=wK w.B h,R:=dI w.R (bt h) { Up:=0,bq:=0,E:=cq,Cells:=(fun _=>0) } }
    have hpos:=gj wN
    refine ⟨{ book:={ t.book with gN:=b' },regions:=dI t.regions (bt h) B0 },w',0,?_,?_,?_⟩
    · unfold c9; rw [ax e1,hg,av (b:=!true) rfl,lt_eq,ax (jO h0 h1),lt_eq,aF (fc h),lt_eq]; rfl
    · unfold dJ
      have hr:=cW h
      rw [ax (cO hn r.book h0),hg,if_pos rfl,av (by simp; omega),ax (sK hn r.book h0),lt_eq,lt_eq,aF (fc h),lt_eq]
      exact c1
    have hb:w'.B = wK w.B h:=c2
    have sX:∀i,i < 32→w'.B.Is i = 1→w.B.Is i = 1∧i ≠ bt h:=fun i hi hs=>by
      rw [hb] at hs
      refine ⟨(zh hs).1,fun e=>?_⟩
      subst e
      unfold wK at hs
      rw [hg,if_pos rfl] at hs
      exact oN w.B h hs
    have hR:∀i,i < 32→i ≠ bt h→w'.R i = if (w.R i).Up = h then { w.R i with Up:=0 } else w.R i:=fun i hi hne=>by
      have q:=c3 i hi
      simp only [fI _ _ hne] at q
      exact q
    have hT:∀i,i ≠ bt h→dI t.regions (bt h) B0 i = t.regions i:=fun i hne=>fI _ _ hne
    have hU:∀i,i < 32→i ≠ bt h→(w'.R i).Up = if (w.R i).Up = h then 0 else (w.R i).Up:=fun i hi hne=>by
      rw [hR i hi hne]; split <;> rfl
    refine ⟨⟨?_,fun i hi hs=>?_,fun i hi hs=>?_,fun i hi hs=>?_⟩,?_,fun g xZ hne=>?_⟩
    · rw [hb]; exact r'
    · obtain ⟨l1,l2⟩:=sX i hi hs
      have:=r.AY i hi l1
      rw [hR i hi l2]
      dsimp only
      rw [hT i l2]
      split
      · exact ⟨this.q,this.e,this.n,this.r,this.c,this.c0⟩
      · exact this
    · obtain ⟨l1,l2⟩:=sX i hi hs
      dsimp only
      rw [hT i l2,hU i hi l2,hb]
      rw [BG r.book wN,r.up i hi l1]
      rcases r.old i hi l1 with h | h
      · rw [h]; decide
      · exact h.1
    · obtain ⟨l1,l2⟩:=sX i hi hs
      dsimp only
      rw [hT i l2,hb]
      exact (r.old i hi l1).imp _root_.id fun hp=>vX (h:=h) _ hp
    · obtain ⟨ρ,hρ⟩:=tt
      refine ⟨ρ,fun i hi hs hu=>?_⟩
      obtain ⟨l1,l2⟩:=sX i hi hs
      rw [hU i hi l2] at hu ⊢
      by_cases e:(w.R i).Up = h
      · rw [if_pos e] at hu; exact absurd rfl hu
      · rw [if_neg e] at hu ⊢; exact hρ i hi l1 hu
    · have xQ:g ≠ h:=fun e=>hne ⟨e,rfl⟩
      have Bh:aX w'.B g:=by rw [hb]; exact (qW r.book h0 g).2 ⟨xZ,xQ⟩
      obtain ⟨l1,l2⟩:=sX (bt g) (iX g) (cJ Bh).2
      refine ⟨Bh,?_,?_,?_,?_⟩
      · dsimp only; rw [hT _ l2]
      · dsimp only; rw [hT _ l2]
      · dsimp only; rw [hT _ l2]
      · rw [hU _ (iX g) l2]
        by_cases e:(w.R (bt g)).Up = h
        · rw [if_pos e]; exact .inr ⟨rfl,rfl,e,by omega,rfl⟩
        · rw [if_neg e]; exact .inl rfl
end Go.Proofs.Ytbalnnoofdkbaaa
namespace Go.Proofs.Ytbalnnoofdkbaaa
open Go Go.Bw
theorem BH {b:bg} {w:aC} (r:RB b w) {f:Nat} (hf:m8 w f) (hl:f < 32) {u:Int} (hu:u = 0∨nU w u):ve (gn w f) u = ve w u:=by
  rcases hu with h | h
  · subst h; rfl
  · have hv:=gJ r hf hl u
    have hne:u ≠ fM f (w.gD f):=fun e=>by rw [e] at h; exact xn r hf hl h
    unfold ve
    by_cases h1:aR w u = true
    · rw [if_pos h1,if_pos (hv.2 (.inl ⟨h.1,h1⟩)).2]
    · rw [if_neg h1,if_neg (fun h2=>(hv.1 ⟨h.1,h2⟩).elim (fun h3=>h1 h3.2) hne)]
def xq (B:aC) (a:Int):Bool:=(a == 0) || aR B a
theorem mP {n:Nat} {t:ai} {w:ag} (r:dZ t w) {a:Int} (h0:0 ≤ a) (h1:a < 4294967296) {ρ:Type} {f:Bool→Option ρ} {g:Bool} :
    cl g (aO n t.book.gN a) default f = f (bif g then aR w.B a else default):=cN (iH r.book h0 h1)
theorem iy (B:aC) (a:Int):((a != 0) && (!(bif ((a != 0) == true) then aR B a else default))) = !xq B a:=by
  unfold xq
  by_cases h0:a = 0
  · subst h0; rfl
  · have h1:(a != 0) = true:=by simpa using h0
    have h2:(a == 0) = false:=by simpa using h0
    rw [h1,h2]; rfl
theorem tY {B:aC} {a:Int} (h0:0 ≤ a) (h:xq B a = true):a = 0∨aX B a:=by
  unfold xq at h
  rw [Bool.or_eq_true,beq_iff_eq] at h
  exact h.imp _root_.id fun hg=>⟨h0,hg⟩
theorem HN {n:Nat} (hn:40 ≤ n) {t:ai} {w:ag} (r:dZ t w) (tt:fD w) {a q:Int} (a0:0 ≤ a) (a1:a < 4294967296) :
    ∃t' w' m e,dD n t a q = some (t',m,e)∧cX n w a q = some (w',m,e)∧0 ≤ m∧m < 4294967296∧DI t w t' w' m e false:=by
  cases ha:xq w.B a with
  | false =>
    refine ⟨t,w,0,4,?_,?_,by decide,by decide, .same r tt _ _ _⟩
    · unfold dD; rw [mP r a0 a1,iy,ha]; rfl
    · unfold cX; rw [cN (bR hn r a0),iy,ha]; rfl
  | true =>
  rcases Decidable.em (¬(0 ≤ q∧q ≤ 64)) with hq | hq
  · refine ⟨t,w,0,2,?_,?_,by decide,by decide, .same r tt _ _ _⟩
    · unfold dD; rw [mP r a0 a1,iy,ha,av (b:=!true) rfl]; unfold fQ; rw [ax rfl,aJ (by simp; omega)]
    · unfold cX; rw [cN (bR hn r a0),iy,ha,av (b:=!true) rfl,aJ (by simp; omega)]
  have hq:=Decidable.not_not.1 hq
  obtain ⟨f,hf⟩:=ta w.B
  obtain ⟨b',i1,i2⟩:=sS (n:=n) hn r.book hf
  have i3:=nS (n:=n) hn r.book hf
  have hP:dD n t a q = (bd (dS n t.book.gN) fun eo =>
  cn ((!eo.2.2)) (
  some (t,0,7)) (
  bd (bB n eo.2.1) fun gR =>
  gu (dB gR.1 32) <|
  some (⟨⟨eo.1⟩,dI t.regions (Int.toNat gR.1) ⟨a,q,dG,fun _=>0⟩⟩,eo.2.1,0))):=by
    unfold dD; rw [mP r a0 a1,iy,ha,av (b:=!true) rfl]; unfold fQ; rw [ax rfl,av (by simpa using hq)]; rfl
  have hR:cX n w a q = (bd (gh n w.B) fun eE =>
  cn ((eE.2 == 0)) (
  some (w,0,7)) (
  bd (bE n eE.1 eE.2) fun jK =>
  gu (dB jK 32) <|
  some (⟨eE.1,dI w.R (Int.toNat jK) ⟨a,q,cq,fun _=>0⟩⟩,eE.2,0))):=by
    unfold cX; rw [cN (bR hn r a0),iy,ha,av (b:=!true) rfl,av (by simp; omega)]; rfl
  rcases Decidable.em (¬ f < 32) with hl | hl
  · refine ⟨t,w,0,7,?_,?_,by decide,by decide, .same r tt _ _ _⟩
    · rw [hP,ax i1,aJ (by simpa using hl)]
    · rw [hR,ax i3,if_neg hl]; rfl
  have hl:=Decidable.not_not.1 hl
  simp only [hl,if_true,decide_true] at i1 i2 i3
  have hr:=r.book.gO f hl
  obtain ⟨q1,q2,q3,q4,q5⟩:=kA (i:=f) (g:=w.B.gD f) (by omega) (by omega) hr.1 hr.2
  have hnew:aX (gn w.B f) (fM f (w.B.gD f)):=(gJ r.book hf hl _).2 (.inr rfl)
  have hfn:(fY (fM f (w.B.gD f))).toNat = f:=by rw [q2]; omega
  have Ky:dB (fY (fM f (w.B.gD f))) 32 = true:=fc _
  refine ⟨⟨⟨b'⟩,dI t.regions f ⟨a,q,dG,fun _=>0⟩⟩,⟨gn w.B f,dI w.R f ⟨a,q,cq,fun _=>0⟩⟩,fM f (w.B.gD f),0,?_,?_,by omega,q5,?_⟩
  · rw [hP,ax i1,av (b:=!true) rfl]
    dsimp only
    rw [ax (jO (by omega) q5),aF Ky,hfn]
  · rw [hR,ax i3,av (by simp; omega),ax (cO hn i2 (by omega)),hnew.2,if_pos rfl,aF Ky,hfn]
  have Bi:=tY a0 ha
  have hfree:=hf.2.2 hl
  have hold:∀i,i ≠ f→(gn w.B f).Is i = 1→w.B.Is i = 1:=fun i hi hs=>by
    have:dI w.B.Is f 1 i = 1:=hs
    rwa [fI _ _ hi] at this
  have hne:∀x,aX w.B x→bt x ≠ f:=fun x hx e=>by
    have:=(cJ hx).2; rw [e,hfree] at this; cases this
  refine ⟨⟨i2,fun i hi hs=>?_,fun i hi hs=>?_,fun i hi hs=>?_⟩,?_,fun g hg _=>?_⟩
  · dsimp only
    rw [bG,bG]
    by_cases e:i = f
    · rw [if_pos e,if_pos e]
      exact ⟨rfl,rfl,(by show (0:Nat) ≤ 80; omega),(fun y hy=>by cases hy),fun _ _=>rfl,fun _ _=>by show (0:Int) ≤ 0∧(0:Int) ≤ 4294967295; decide⟩
    · rw [if_neg e,if_neg e]; exact r.AY i hi (hold i e hs)
  · dsimp only
    simp only [bG]
    by_cases e:i = f
    · rw [if_pos e,if_pos e]
      show a = ve (gn w.B f) a
      rcases Bi with h | h
      · subst h; rfl
      · unfold ve; rw [if_pos ((gJ r.book hf hl a).2 (.inl h)).2]
    · rw [if_neg e,if_neg e]
      have h1:=hold i e hs
      rw [BH r.book hf hl (r.old i hi h1)]; exact r.up i hi h1
  · dsimp only
    simp only [bG]
    by_cases e:i = f
    · rw [if_pos e]
      exact Bi.imp _root_.id fun h=>oU _ (qM h)
    · rw [if_neg e]
      exact (r.old i hi (hold i e hs)).imp _root_.id (oU _)
  · obtain ⟨ρ,hρ⟩:=tt
    refine ⟨dI ρ f (1 + zl ρ 32),fun i hi hs hu=>?_⟩
    dsimp only at hu ⊢
    simp only [bG] at hu ⊢
    by_cases e:i = f
    · rw [if_pos e] at hu
      rw [if_pos e,if_pos e]
      change a ≠ 0 at hu
      show (if bt a = f then _ else ρ (bt a)) < _
      have C5:=Bi.resolve_left hu
      rw [if_neg (hne a C5)]
      have:=vf ρ (j:=bt a) 32 (iX a)
      omega
    · rw [if_neg e] at hu
      rw [if_neg e,if_neg e]
      have h1:=hold i e hs
      rw [if_neg (hne _ ((r.GQ hi h1).resolve_left hu))]
      exact hρ i hi h1 hu
  · have:=hne g hg
    refine ⟨(gJ r.book hf hl g).2 (.inl hg),?_,?_,?_, .inl ?_⟩
    all_goals (dsimp only; rw [fI _ _ this])
theorem HO {n:Nat} (hn:110 ≤ n) {p:bj} {x:bI} (h:sd p x):∃b,dU n p.E = some b∧dc n x.E = some b:=by
  have hl:(x.E.br.map kZ).length ≤ 80:=by rw [List.length_map]; exact h.n
  obtain ⟨b,b1,b2⟩:=xC (n:=n) hn (e:=p.E) (by rw [h.e]; exact hl) (by rw [h.e]; exact h.r)
  obtain ⟨c,c1,c2⟩:=qu (n:=n) hn h.n h.r
  refine ⟨b,b1,?_⟩
  rw [c1]
  rw [h.e] at b2
  dsimp only at b2
  have:b = true↔c = true:=b2.trans ⟨fun ⟨q1,_,q3⟩=>c2.2 ⟨q1,q3⟩,fun h=>by
    obtain ⟨q1,q3⟩:=c2.1 h
    exact ⟨q1,z8 q1,q3⟩⟩
  cases b <;> cases c <;> simp_all
theorem HC {n:Nat} (hn:110 ≤ n) {t:ai} {w:ag} (r:dZ t w) (tt:fD w) {h:Int} (h0:0 ≤ h) (h1:h < 4294967296) {p:bj} {x:bI} (hx:sd p x) :
    ∃t' w' e,cV n t h p = some (t',e)∧fB n w h x = some (w',e)∧DI t w t' w' h e false:=by
  obtain ⟨b,b1,b2⟩:=HO hn hx
  have Iy:=cW h
  unfold cV fB
  rw [ax (iH r.book h0 h1),ax (cO (by omega) r.book h0)]
  cases hg:aR w.B h with
  | false=>exact ⟨t,w,4,rfl,rfl, .same r tt _ _ _⟩
  | true =>
  have wN:aX w.B h:=⟨h0,hg⟩
  obtain ⟨l1,l2⟩:=cJ wN
  unfold fQ
  rw [if_pos rfl,av (b:=!true) rfl,av (by simp; omega),ax rfl,cN b1,cN b2,hx.q]
  rcases Decidable.em (¬((0 ≤ x.bq∧x.bq ≤ 64)∧b = true)) with hq | hq
  · refine ⟨t,w,2,?_,?_, .same r tt _ _ _⟩
    · rw [aJ]
      by_cases h3:0 ≤ x.bq∧x.bq ≤ 64
      · have:b = false:=by cases b with
          | false=>rfl
          | true=>exact absurd ⟨h3,rfl⟩ hq
        rw [this]; simp
      · have:(decide (0 ≤ x.bq) && decide (x.bq ≤ 64)) = false:=by rw [Bool.and_eq_false_iff,decide_eq_false_iff_not,decide_eq_false_iff_not]; omega
        rw [this]; rfl
    · rw [aJ]
      by_cases h3:0 ≤ x.bq∧x.bq ≤ 64
      · have:b = false:=by cases b with
          | false=>rfl
          | true=>exact absurd ⟨h3,rfl⟩ hq
        rw [this]; simp
      · have:(decide (x.bq < 0) || decide (64 < x.bq)) = true:=by rw [Bool.or_eq_true,decide_eq_true_eq,decide_eq_true_eq]; omega
        rw [this]; rfl
  obtain ⟨⟨q1,q2⟩,rfl⟩:=Decidable.not_not.1 hq
  have e1:(decide (0 ≤ x.bq) && decide (x.bq ≤ 64)) = true:=by simp [q1,q2]
  have e2:(decide (x.bq < 0) || decide (64 < x.bq)) = false:=by rw [Bool.or_eq_false_iff,decide_eq_false_iff_not,decide_eq_false_iff_not]; omega
  rw [e1,e2,av (by rfl),av (by rfl),ax (jO h0 h1),aF (fc h),aF (fc h),lt_eq,aF (fc h),lt_eq,lt_eq,aF (fc h),lt_eq]
  refine ⟨_,_,0,rfl,rfl,?_⟩
  show DI t w ⟨t.book,dI t.regions (bt h) { p with Up:=(t.regions (bt h)).Up,bq:=x.bq }⟩ ⟨w.B,dI w.R (bt h) { x with Up:=(w.R (bt h)).Up }⟩ h 0 false
  have hT:∀i,(dI t.regions (bt h) { p with Up:=(t.regions (bt h)).Up,bq:=x.bq } i).Up = (t.regions i).Up:=fun i=>by
    rw [bG]; split
    · rename_i e; rw [e]
    · rfl
  have hW:∀i,(dI w.R (bt h) { x with Up:=(w.R (bt h)).Up } i).Up = (w.R i).Up:=fun i=>by
    rw [bG]; split
    · rename_i e; rw [e]
    · rfl
  refine ⟨⟨r.book,fun i hi hs=>?_,fun i hi hs=>?_,fun i hi hs=>?_⟩,?_,fun g xZ hne=>?_⟩
  · dsimp only
    rw [bG,bG]
    by_cases e:i = bt h
    · rw [if_pos e,if_pos e]; exact ⟨rfl,hx.e,hx.n,hx.r,hx.c,hx.c0⟩
    · rw [if_neg e,if_neg e]; exact r.AY i hi hs
  · dsimp only; rw [hT,hW]; exact r.up i hi hs
  · dsimp only; rw [hT]; exact r.old i hi hs
  · obtain ⟨ρ,hρ⟩:=tt
    refine ⟨ρ,fun i hi hs hu=>?_⟩
    dsimp only at hu ⊢; rw [hW] at hu ⊢; exact hρ i hi hs hu
  · have xQ:bt g ≠ bt h:=fun e=>hne ⟨by rw [← dX xZ,← dX wN,e],rfl⟩
    refine ⟨xZ,?_,?_,?_, .inl ?_⟩
    all_goals (dsimp only; rw [fI _ _ xQ])
end Go.Proofs.Ytbalnnoofdkbaaa
namespace Go.Proofs.Ytbalnnoofdkbaaa
open Go Go.Bw
inductive iT (w:ag) (s:Nat):Nat→Prop
  | self:iT w s s
  | down {i:Nat}:i < 32→w.B.Is i = 1→(w.R i).Up ≠ 0→iT w s (bt (w.R i).Up)→iT w s i
theorem iT.iff {w:ag} {s i:Nat} (hi:i < 32) (h1:w.B.Is i = 1):iT w s i↔i = s∨((w.R i).Up ≠ 0∧iT w s (bt (w.R i).Up)):=by
  constructor
  · intro h
    cases h with
    | self=>exact .inl rfl
    | down _ _ a b=>exact .inr ⟨a,b⟩
  · rintro (h | ⟨a,b⟩)
    · subst h; exact .self
    · exact .down hi h1 a b
def my (w:ag) (ρ:Nat→Nat) (x:Int):Nat:=if x = 0 then 0 else pC (fun j=>decide (ρ j < ρ (bt x))) 32 + 1
theorem qP {t:ai} {w:ag} (r:dZ t w) {ρ:Nat→Nat} (hρ:KS w ρ) {x:Int} (hx:aX w.B x):my w ρ (w.R (bt x)).Up < my w ρ x:=by
  have hp:=gj hx
  obtain ⟨l1,l2⟩:=cJ hx
  unfold my
  rw [if_neg (show ¬ x = 0 by omega)]
  split
  · omega
  · rename_i hu
    have h2:=hρ _ l1 l2 hu
    have:=mR (p:=fun j=>decide (ρ j < ρ (bt (w.R (bt x)).Up))) (q:=fun j=>decide (ρ j < ρ (bt x))) (fun j hj=>by simp at hj ⊢; omega) (c:=bt (w.R (bt x)).Up) (by simp) (by simpa using h2) 32 (iX _)
    omega
theorem qQ (w:ag) (ρ:Nat→Nat) (x:Int):my w ρ x ≤ 32:=by
  unfold my
  split
  · omega
  · have:=mR (p:=fun j=>decide (ρ j < ρ (bt x))) (q:=fun _=>true) (fun _ _=>rfl) (c:=bt x) (by simp) rfl 32 (iX _)
    have:=rP (fun _=>true) 32
    omega
theorem vT {n:Nat} (hn:40 ≤ n) {t:ai} {w:ag} (r:dZ t w) (tt:fD w) {h:Int} (hh:aX w.B h) {x0:Int} (hx0:aX w.B x0) :
    ∃b,bS n w h x0 = some b∧(b = true↔(w.R (bt x0)).Up ≠ 0∧iT w (bt h) (bt (w.R (bt x0)).Up)):=by
  obtain ⟨ρ,hρ⟩:=tt
  unfold bS
  have Jd:=gj hh
  refine gi (fun (x:Int)=>(x = 0∨aX w.B x)∧(((w.R (bt x0)).Up ≠ 0∧iT w (bt h) (bt (w.R (bt x0)).Up))↔(x ≠ 0∧(w.R (bt x)).Up ≠ 0∧iT w (bt h) (bt (w.R (bt x)).Up)))) (fun x=>my w ρ x)
    (fun o=>∃b,o = some b∧(b = true↔(w.R (bt x0)).Up ≠ 0∧iT w (bt h) (bt (w.R (bt x0)).Up))) ?_ n x0 ⟨.inr hx0,?_⟩ (by have:=qQ w ρ x0; omega)
  · rintro kk x ⟨hx,hw⟩ ih
    by_cases h0:x = 0
    · subst h0
      rw [av (by rfl)]
      exact ⟨false,rfl,by rw [hw]; simp⟩
    · have hg:=hx.resolve_left h0
      have Iy:=cW x
      obtain ⟨l1,l2⟩:=cJ hg
      rw [aJ (by simpa using h0),ax (cO hn r.book hg.1),hg.2,if_pos rfl,aF (fc x)]
      show ∃b,cn ((w.R (bt x)).Up == h) (some (h != 0)) (kk (w.R (bt x)).Up) = some b∧_
      by_cases hu:(w.R (bt x)).Up = h
      · rw [aJ (by simpa using hu)]
        refine ⟨_,rfl,?_⟩
        rw [hw,hu]
        exact ⟨fun _=>⟨h0,by omega, .self⟩,fun _=>by simp; omega⟩
      · rw [av (by simpa using hu)]
        refine ih _ ⟨r.DR hg,hw.trans ?_⟩ (qP r hρ hg)
        constructor
        · rintro ⟨_,a,b⟩
          have GY:=(r.DR hg).resolve_left a
          obtain ⟨m1,m2⟩:=cJ GY
          refine ⟨a,?_⟩
          rcases (iT.iff m1 m2).1 b with e | e
          · exact absurd (by rw [← dX GY,← dX hh,e]) hu
          · exact e
        · rintro ⟨a,b,c⟩
          have GY:=(r.DR hg).resolve_left a
          obtain ⟨m1,m2⟩:=cJ GY
          exact ⟨h0,a, .down m1 m2 b c⟩
  · have:=gj hx0
    exact ⟨fun a=>⟨by omega,a⟩,fun a=>a.2⟩
theorem Dq {n:Nat} (hn:40 ≤ n) {t:ai} {w:ag} (r:dZ t w) (tt:fD w) {h:Int} (hh:aX w.B h) {x0:Int} (hx0:x0 = 0∨aX w.B x0) (z:Option (ai × Int)) :
    (x0 ≠ 0∧iT w (bt h) (bt x0)→dk (fun zL (de:Int) =>
  cn ((de != 0)) (
  cn ((de == h)) (
  some (t,12)) (
  bd (dP n t de) fun jq =>
  zL jq)) z) n x0 = some (t,12))∧(¬ (x0 ≠ 0∧iT w (bt h) (bt x0))→dk (fun zL (de:Int) =>
  cn ((de != 0)) (
  cn ((de == h)) (
  some (t,12)) (
  bd (dP n t de) fun jq =>
  zL jq)) z) n x0 = z):=by
  obtain ⟨ρ,hρ⟩:=tt
  have Jd:=gj hh
  refine gi (fun (x:Int)=>(x = 0∨aX w.B x)∧((x0 ≠ 0∧iT w (bt h) (bt x0))↔(x ≠ 0∧iT w (bt h) (bt x)))) (fun x=>my w ρ x)
    (fun o=>(x0 ≠ 0∧iT w (bt h) (bt x0)→o = some (t,12))∧(¬ (x0 ≠ 0∧iT w (bt h) (bt x0))→o = z)) ?_ n x0 ⟨hx0,Iff.rfl⟩ (by have:=qQ w ρ x0; omega)
  rintro kk x ⟨hx,hw⟩ ih
  by_cases h0:x = 0
  · subst h0
    rw [av (by rfl)]
    exact ⟨fun hq=>absurd rfl (hw.1 hq).1,fun _=>rfl⟩
  · have hg:=hx.resolve_left h0
    obtain ⟨l1,l2⟩:=cJ hg
    rw [aJ (by simpa using h0)]
    by_cases hu:x = h
    · rw [aJ (by simpa using hu)]
      exact ⟨fun _=>rfl,fun hq=>absurd (hw.2 ⟨h0,by rw [hu]; exact .self⟩) hq⟩
    · rw [av (by simpa using hu),ax (wX r hg)]
      refine ih _ ⟨r.DR hg,hw.trans ?_⟩ (qP r hρ hg)
      constructor
      · rintro ⟨_,b⟩
        rcases (iT.iff l1 l2).1 b with e | e
        · exact absurd (by rw [← dX hg,← dX hh,e]) hu
        · exact e
      · rintro ⟨a,b⟩
        exact ⟨h0, .down l1 l2 a b⟩
theorem BT {n:Nat} (hn:40 ≤ n) {t:ai} {w:ag} (r:dZ t w) (tt:fD w) {h a:Int} (h0:0 ≤ h) (h1:h < 4294967296) (a0:0 ≤ a) (a1:a < 4294967296) :
    ∃t' w' e,cP n t h a = some (t',e)∧eJ n w h a = some (w',e)∧DI t w t' w' h e false:=by
  unfold cP eJ
  rw [ax (iH r.book h0 h1),ax (bR hn r h0),mP r a0 a1,cN (bR hn r a0)]
  cases hg:aR w.B h with
  | false=>exact ⟨t,w,4,rfl,rfl, .same r tt _ _ _⟩
  | true =>
  have wN:aX w.B h:=⟨h0,hg⟩
  obtain ⟨l1,l2⟩:=cJ wN
  have hpos:=gj wN
  have e0:∀v:Bool,(((!true) == false) && v) = v:=fun v=>by cases v <;> rfl
  rw [e0,iy]
  cases ha:xq w.B a with
  | false=>exact ⟨t,w,4,rfl,rfl, .same r tt _ _ _⟩
  | true =>
  rw [av (by rfl),av (by rfl)]
  have Bi:=tY a0 ha
  obtain ⟨p1,p2⟩:=Dq (n:=n) hn r tt wN Bi (bd (bB n h) fun jK =>
  gu (dB jK.1 32) <|
  lt ({ t with regions:=(dI t.regions (Int.toNat jK.1) ({ (t.regions (Int.toNat jK.1)) with Up:=a })) }:ai) fun fO =>
  some (fO,0))
  have hR:∃b,(b = true↔a ≠ 0∧iT w (bt h) (bt a))∧∀(F:Bool→Option (ag × Int)),(cl (((a != 0) == true) && ((a == h) == false)) (bS n w h a) default fun fL=>F ((a != 0) && ((a == h) || fL))) = F b:=by
    rcases Bi with e | e
    · subst e
      exact ⟨false,by simp,fun F=>rfl⟩
    · have hp:=gj e
      obtain ⟨b,b1,b2⟩:=vT (n:=n) hn r tt wN e
      obtain ⟨m1,m2⟩:=cJ e
      refine ⟨(a == h) || b,?_,fun F=>?_⟩
      · rw [Bool.or_eq_true,beq_iff_eq,b2,iT.iff m1 m2]
        constructor
        · rintro (q | q)
          · exact ⟨by omega, .inl (by rw [q])⟩
          · exact ⟨by omega, .inr q⟩
        · rintro ⟨_,q | q⟩
          · exact .inl (by rw [← dX e,← dX wN,q])
          · exact .inr q
      · have e1:(a != 0) = true:=by simp; omega
        rw [cN b1,e1]
        cases a == h <;> rfl
  obtain ⟨b,b1,b2⟩:=hR
  rw [b2 (fun v=>cn v (some (w,12)) (bd (bE n w.B h) fun bW =>
  gu (dB bW 32) <|
  lt ({ w with R:=(dI w.R (Int.toNat bW) ({ (w.R (Int.toNat bW)) with Up:=a })) }:ag) fun eZ =>
  some (eZ,0)))]
  cases b with
  | true=>exact ⟨t,w,12,p1 (b1.1 rfl),rfl, .same r tt _ _ _⟩
  | false =>
  have Ku:¬ (a ≠ 0∧iT w (bt h) (bt a)):=fun q=>by have:=b1.2 q; cases this
  rw [p2 Ku]
  rw [ax (jO h0 h1),av rfl,ax (cO hn r.book h0),hg,if_pos rfl]
  refine ⟨⟨t.book,dI t.regions (bt h) { t.regions (bt h) with Up:=a }⟩,⟨w.B,dI w.R (bt h) { w.R (bt h) with Up:=a }⟩,0,?_,?_,?_⟩
  · rw [aF (fc h)]; rfl
  · rw [aF (fc h)]; rfl
  refine ⟨⟨r.book,fun i hi hs=>?_,fun i hi hs=>?_,fun i hi hs=>?_⟩,?_,fun g xZ hne=>?_⟩
  · dsimp only
    rw [bG,bG]
    by_cases e:i = bt h
    · rw [if_pos e,if_pos e]; exact (r.AY _ l1 l2).Es _ _
    · rw [if_neg e,if_neg e]; exact r.AY i hi hs
  · dsimp only
    simp only [bG]
    by_cases e:i = bt h
    · rw [if_pos e,if_pos e]
      show a = ve w.B a
      rcases Bi with q | q
      · subst q; rfl
      · unfold ve; rw [if_pos q.2]
    · rw [if_neg e,if_neg e]; exact r.up i hi hs
  · dsimp only
    simp only [bG]
    by_cases e:i = bt h
    · rw [if_pos e]; exact Bi.imp _root_.id qM
    · rw [if_neg e]; exact r.old i hi hs
  · obtain ⟨ρ,hρ⟩:=tt
    obtain ⟨f,f1,f2⟩ : ∃f:Nat→Nat,(∀i,iT w (bt h) i→f i = ρ i + ρ (bt a) + 1)∧∀i,¬ iT w (bt h) i→f i = ρ i:=by
      classical
      exact ⟨fun i=>if iT w (bt h) i then ρ i + ρ (bt a) + 1 else ρ i,fun i q=>if_pos q,fun i q=>if_neg q⟩
    refine ⟨f,fun i hi hs hu=>?_⟩
    have hU:(dI w.R (bt h) { w.R (bt h) with Up:=a } i).Up = if i = bt h then a else (w.R i).Up:=by
      rw [bG]; split <;> rfl
    dsimp only at hu hs ⊢
    rw [hU] at hu ⊢
    by_cases e:i = bt h
    · rw [if_pos e] at hu ⊢
      rw [f2 _ (fun q=>Ku ⟨hu,q⟩),e,f1 _ .self]
      omega
    · rw [if_neg e] at hu ⊢
      have h2:=hρ i hi hs hu
      have h3:=iT.iff (s:=bt h) hi hs
      by_cases q:iT w (bt h) (bt (w.R i).Up)
      · rw [f1 _ q,f1 _ (h3.2 (.inr ⟨hu,q⟩))]; omega
      · rw [f2 _ q,f2 _ (fun c=>(h3.1 c).elim e fun c=>q c.2)]; exact h2
  · have xQ:bt g ≠ bt h:=fun e=>hne ⟨by rw [← dX xZ,← dX wN,e],rfl⟩
    refine ⟨xZ,?_,?_,?_, .inl ?_⟩
    all_goals (dsimp only; rw [fI _ _ xQ])
end Go.Proofs.Ytbalnnoofdkbaaa
namespace Go.Proofs.Ytbalnnoofdkbaaa
open Go Go.Bw
theorem zv {n:Nat} (hn:40 ≤ n) {t:ai} {w:ag} (r:dZ t w):ja n w = some (ct w.B 32):=by
  unfold ja
  refine dR (fun (l:List Int) (x:Int)=>∃k:Nat,x = k∧k ≤ 32∧l = ct w.B k) (fun _ (x:Int)=>(32 - x).toNat) (fun o=>o = some (ct w.B 32)) ?_ n [] 0 ⟨0,rfl,by omega,rfl⟩ (by omega)
  rintro kk l x ⟨k,rfl,hk,rfl⟩ ih
  by_cases hc:k < 32
  · rw [aJ (by simp; omega),aF (cD (by omega) (by omega))]
    have hr:=r.book.gO k hc
    by_cases e:w.B.Is k = 1
    · rw [aJ (by simpa using e),ax (nf (by omega) (by omega) hr.1 hr.2),aF (jF (by have:=fk w.B k; omega) (by have:=fk w.B k; omega)),lt_eq,cj (by omega) (by omega)]
      exact ih _ _ ⟨k + 1,by omega,by omega,by simp [ct,e]⟩ (by omega)
    · rw [av (by simpa using e),cj (by omega) (by omega)]
      exact ih _ _ ⟨k + 1,by omega,by omega,by simp [ct,e]⟩ (by omega)
  · rw [av (by simp; omega)]
    obtain rfl:k = 32:=by omega
    rfl
theorem Gs {n:Nat} (hn:40 ≤ n) {t:ai} {w:ag} (r:dZ t w):eu n t.book = some (ct w.B 32):=by
  unfold eu; rw [ax (v7 hn r.book)]
theorem gw {α:Type} [Inhabited α] {l:List α} {i:Nat} (h:i < l.length):l.getD i default ∈ l:=by
  rw [List.getD,List.getElem?_eq_getElem h]; exact List.getElem_mem _
end Go.Proofs.Ytbalnnoofdkbaaa
namespace Go.Proofs.Ytbalnnoofdkbaaa
open Go Go.Bw
theorem qC {i:Nat} (h:gy.B.Is i = 1):False:=absurd (show (0:Int) = 1 from h) (by decide)
theorem AQ:dZ aH gy∧fD gy:=
  ⟨⟨⟨fun i _=>rfl,fun i _=>rfl,fun i _=>rfl,fun i _=>.inl rfl,fun i _=>⟨Int.le_refl 0,show (0:Int) ≤ 8388607 by decide⟩⟩,fun i _ h=>(qC h).elim,fun i _ h=>(qC h).elim,fun i _ h=>(qC h).elim⟩,fun _=>0,fun i _ h=>(qC h).elim⟩
end Go.Proofs.Ytbalnnoofdkbaaa
namespace Go.Proofs.Ytbalnnoofdkbaaa
open Go Go.Bw
structure Fo (G:List Int) (up:Int→Int) (ρ:Int→Nat):Prop where
  nd:G.Nodup
  len:G.length ≤ 32
  pos:∀x ∈ G,x ≠ 0
  GQ:∀x ∈ G,up x = 0∨up x ∈ G
  rk:∀x ∈ G,ρ x < 32
  dn:∀x ∈ G,up x ≠ 0→ρ (up x) < ρ x
def sB (up:Int→Int):Nat→Int→List Int
  | 0,_=>[]
  | k + 1,x=>if up x = 0 then [] else up x::sB up k (up x)
def ff (G:List Int) (up:Int→Int) (x:Int):List Int:=G.filter fun y=>up y == x
def sC (G:List Int) (up:Int→Int):Nat→Int→List Int
  | 0,_=>[]
  | k + 1,x=>x::(ff G up x).flatMap (sC G up k)
abbrev U6 (up:Int→Int) (x:Int):List Int:=sB up 32 x
abbrev V6 (G:List Int) (up:Int→Int) (x:Int):List Int:=sC G up 32 x
theorem fT {G:List Int} {up:Int→Int} {x y:Int}:y ∈ ff G up x↔y ∈ G∧up y = x:=by simp [ff]
theorem mw {α β:Type} {l:List α} {f g:α→List β} (h:∀x ∈ l,f x = g x):l.flatMap f = l.flatMap g:=by
  induction l with
  | nil=>rfl
  | cons a l ih=>rw [List.flatMap_cons,List.flatMap_cons,h a (by simp),ih fun x hx=>h x (by simp [hx])]
section
variable {G:List Int} {up:Int→Int} {ρ:Int→Nat}
theorem Fo.y3 (f:Fo G up ρ) {x:Int} (hx:x ∈ G) (h:up x ≠ 0):up x ∈ G:=(f.GQ x hx).resolve_left h
theorem Fo.q7 (f:Fo G up ρ) (P:Int→Prop) (h:∀x ∈ G,(up x ≠ 0→P (up x))→P x):∀x ∈ G,P x:=by
  have key:∀k x,x ∈ G→ρ x < k→P x:=by
    intro k
    induction k with
    | zero=>intro x _ h; omega
    | succ k ih=>intro x hx hk; exact h x hx fun hu=>ih _ (f.y3 hx hu) (by have:=f.dn x hx hu; omega)
  exact fun x hx=>key _ x hx (Nat.lt_succ_self _)
theorem Fo.B4 (f:Fo G up ρ) {x y:Int} (hx:x ∈ G) (hy:y ∈ G) (h:up y = x):ρ x < ρ y:=by
  have:=f.dn y hy (by rw [h]; exact f.pos x hx)
  rwa [h] at this
theorem Fo.Dk (f:Fo G up ρ) (P:Int→Prop) (h:∀x ∈ G,(∀y ∈ G,up y = x→P y)→P x):∀x ∈ G,P x:=by
  have key:∀k x,x ∈ G→32 - ρ x < k→P x:=by
    intro k
    induction k with
    | zero=>intro x _ h; omega
    | succ k ih=>intro x hx hk; exact h x hx fun y hy hu=>ih _ hy (by have:=f.B4 hx hy hu; have:=f.rk y hy; omega)
  exact fun x hx=>key _ x hx (Nat.lt_succ_self _)
theorem Fo.Le (f:Fo G up ρ):∀k x,x ∈ G→ρ x < k→sB up (k + 1) x = sB up k x:=by
  intro k
  induction k with
  | zero=>intro x _ h; omega
  | succ k ih =>
    intro x hx hk
    show (if up x = 0 then [] else up x::sB up (k + 1) (up x)) = (if up x = 0 then [] else up x::sB up k (up x))
    split
    · rfl
    · rename_i hu
      rw [ih _ (f.y3 hx hu) (by have:=f.dn x hx hu; omega)]
theorem Fo.Em (f:Fo G up ρ) {x:Int} (hx:x ∈ G):U6 up x = if up x = 0 then [] else up x::U6 up (up x):=by
  show sB up (31 + 1) x = _
  rw [sB]
  split
  · rfl
  · rename_i hu
    have:=f.dn x hx hu
    have:=f.rk x hx
    rw [← f.Le 31 _ (f.y3 hx hu) (by omega)]
theorem Fo.u0 (f:Fo G up ρ) {x:Int} (hx:x ∈ G) (h:up x = 0):U6 up x = []:=by rw [f.Em hx,if_pos h]
theorem Fo.u1 (f:Fo G up ρ) {x:Int} (hx:x ∈ G) (h:up x ≠ 0):U6 up x = up x::U6 up (up x):=by rw [f.Em hx,if_neg h]
theorem Fo.K9 (f:Fo G up ρ):∀k x,x ∈ G→32 - ρ x ≤ k→sC G up (k + 1) x = sC G up k x:=by
  intro k
  induction k with
  | zero=>intro x hx h; have:=f.rk x hx; omega
  | succ k ih =>
    intro x hx hk
    rw [sC,sC]
    congr 1
    refine mw fun y hy=>?_
    obtain ⟨hy,hu⟩:=fT.1 hy
    exact ih y hy (by have:=f.B4 hx hy hu; have:=f.rk y hy; omega)
theorem Fo.qX (f:Fo G up ρ) {x:Int} (hx:x ∈ G):V6 G up x = x::(ff G up x).flatMap (V6 G up):=by
  show sC G up (31 + 1) x = _
  rw [sC]
  congr 1
  refine mw fun y hy=>?_
  obtain ⟨hy,hu⟩:=fT.1 hy
  have:=f.B4 hx hy hu
  exact (f.K9 31 y hy (by have:=f.rk y hy; omega)).symm
theorem Fo.mH (f:Fo G up ρ) {x:Int} (hx:x ∈ G):∀y ∈ U6 up x,y ∈ G∧ρ y < ρ x:=by
  refine f.q7 (fun x=>∀y ∈ U6 up x,y ∈ G∧ρ y < ρ x) (fun x hx ih y hy=>?_) x hx
  by_cases hu:up x = 0
  · rw [f.u0 hx hu] at hy; cases hy
  · rw [f.u1 hx hu] at hy
    have:=f.dn x hx hu
    rcases List.mem_cons.1 hy with h | h
    · rw [h]; exact ⟨f.y3 hx hu,this⟩
    · obtain ⟨h1,h2⟩:=ih hu y h; exact ⟨h1,by omega⟩
theorem Fo.AV (f:Fo G up ρ) {x:Int} (hx:x ∈ G):x ∉ U6 up x:=fun h=>by have:=(f.mH hx x h).2; omega
theorem Fo.Hz (f:Fo G up ρ) {x y z:Int} (hx:x ∈ G) (hy:y ∈ U6 up x) (hz:z ∈ U6 up y):z ∈ U6 up x:=by
  revert hy
  refine f.q7 (fun x=>y ∈ U6 up x→z ∈ U6 up x) (fun x hx ih hy=>?_) x hx
  by_cases hu:up x = 0
  · rw [f.u0 hx hu] at hy; cases hy
  · rw [f.u1 hx hu] at hy ⊢
    rcases List.mem_cons.1 hy with h | h
    · rw [← h]; exact List.mem_cons_of_mem _ hz
    · exact List.mem_cons_of_mem _ (ih hu h)
theorem Fo.Hy (f:Fo G up ρ) {x y:Int} (hx:x ∈ G) (hy:y = x∨y ∈ U6 up x) (hu:up y ≠ 0):up y ∈ U6 up x:=by
  rcases hy with h | h
  · subst h; rw [f.u1 hx hu]; exact List.mem_cons_self
  · exact f.Hz hx h (by rw [f.u1 (f.mH hx y h).1 hu]; exact List.mem_cons_self)
theorem Fo.BK (f:Fo G up ρ) {x y:Int} (hy:y ∈ G) (h:x ∈ U6 up y):∃k ∈ G,up k = x∧(k = y∨k ∈ U6 up y):=by
  revert h
  refine f.q7 (fun y=>x ∈ U6 up y→∃k ∈ G,up k = x∧(k = y∨k ∈ U6 up y)) (fun y hy ih h=>?_) y hy
  by_cases hu:up y = 0
  · rw [f.u0 hy hu] at h; cases h
  · rw [f.u1 hy hu] at h
    rcases List.mem_cons.1 h with h | h
    · exact ⟨y,hy,h.symm, .inl rfl⟩
    · obtain ⟨k,k1,k2,k3⟩:=ih hu h
      refine ⟨k,k1,k2, .inr ?_⟩
      rw [f.u1 hy hu]
      rcases k3 with k3 | k3
      · rw [k3]; exact List.mem_cons_self
      · exact List.mem_cons_of_mem _ k3
theorem Fo.LD (f:Fo G up ρ) {a b y:Int} (hy:y ∈ G) (ha:a = y∨a ∈ U6 up y) (hb:b = y∨b ∈ U6 up y):a = b∨a ∈ U6 up b∨b ∈ U6 up a:=by
  revert ha hb
  refine f.q7 (fun y=>(a = y∨a ∈ U6 up y)→(b = y∨b ∈ U6 up y)→a = b∨a ∈ U6 up b∨b ∈ U6 up a) (fun y hy ih ha hb=>?_) y hy
  by_cases hu:up y = 0
  · rw [f.u0 hy hu] at ha hb
    have e1:a = y:=ha.resolve_right (by simp)
    have e2:b = y:=hb.resolve_right (by simp)
    exact .inl (e1.trans e2.symm)
  · rcases ha with ha | ha
    · rcases hb with hb | hb
      · exact .inl (ha.trans hb.symm)
      · subst ha; exact .inr (.inr hb)
    · rcases hb with hb | hb
      · subst hb; exact .inr (.inl ha)
      · rw [f.u1 hy hu] at ha hb
        exact ih hu (List.mem_cons.1 ha) (List.mem_cons.1 hb)
theorem Fo.jt (f:Fo G up ρ) {x:Int} (hx:x ∈ G):∀y,y ∈ V6 G up x↔y ∈ G∧(y = x∨x ∈ U6 up y):=by
  refine f.Dk (fun x=>∀y,y ∈ V6 G up x↔y ∈ G∧(y = x∨x ∈ U6 up y)) (fun x hx ih y=>?_) x hx
  rw [f.qX hx,List.mem_cons,List.mem_flatMap]
  constructor
  · rintro (h | ⟨k,hk,h⟩)
    · subst h; exact ⟨hx, .inl rfl⟩
    · obtain ⟨k1,k2⟩:=fT.1 hk
      obtain ⟨h1,h2⟩:=(ih k k1 k2 y).1 h
      refine ⟨h1, .inr ?_⟩
      rw [← k2]
      exact f.Hy h1 (h2.imp Eq.symm _root_.id) (by rw [k2]; exact f.pos x hx)
  · rintro ⟨h1,h | h⟩
    · exact .inl h
    · obtain ⟨k,k1,k2,k3⟩:=f.BK h1 h
      exact .inr ⟨k,fT.2 ⟨k1,k2⟩,(ih k k1 k2 y).2 ⟨h1,k3.imp Eq.symm _root_.id⟩⟩
theorem pU {α β:Type} {l:List α} {g:α→List β} (hl:l.Nodup) (h1:∀x ∈ l,(g x).Nodup) (h2:∀x ∈ l,∀y ∈ l,x ≠ y→∀z ∈ g x,z ∉ g y):(l.flatMap g).Nodup:=by
  induction l with
  | nil=>simp
  | cons a l ih =>
    obtain ⟨ha,hl⟩:=List.nodup_cons.1 hl
    rw [List.flatMap_cons]
    refine List.nodup_append.2 ⟨h1 a (by simp),ih hl (fun x hx=>h1 x (by simp [hx])) (fun x hx y hy=>h2 x (by simp [hx]) y (by simp [hy])),fun z hz w hw e=>?_⟩
    subst e
    obtain ⟨b,hb,LK⟩:=List.mem_flatMap.1 hw
    exact h2 a (by simp) b (by simp [hb]) (fun e=>ha (e ▸ hb)) z hz LK
theorem Fo.BD (f:Fo G up ρ) {x:Int} (hx:x ∈ G):(V6 G up x).Nodup:=by
  refine f.Dk (fun x=>(V6 G up x).Nodup) (fun x hx ih=>?_) x hx
  rw [f.qX hx]
  refine List.nodup_cons.2 ⟨fun h=>?_,pU (f.nd.filter _) (fun k hk=>?_) (fun a ha b hb hne z hz LL=>?_)⟩
  · obtain ⟨k,hk,h⟩:=List.mem_flatMap.1 h
    obtain ⟨k1,k2⟩:=fT.1 hk
    have h3:=((f.jt k1 x).1 h).2
    have:=f.B4 hx k1 k2
    rcases h3 with h3 | h3
    · rw [h3] at this; omega
    · have:=(f.mH hx k h3).2; omega
  · obtain ⟨k1,k2⟩:=fT.1 hk; exact ih k k1 k2
  · obtain ⟨a1,a2⟩:=fT.1 ha
    obtain ⟨b1,b2⟩:=fT.1 hb
    obtain ⟨z1,z2⟩:=(f.jt a1 z).1 hz
    obtain ⟨_,z3⟩:=(f.jt b1 z).1 LL
    have ra:=f.B4 hx a1 a2
    have rb:=f.B4 hx b1 b2
    have x0:=f.pos x hx
    have no:∀{p q:Int},p ∈ G→up p = x→ρ x < ρ q→q ∉ U6 up p:=fun hp hu hr hq=>by
      rw [f.u1 hp (by rw [hu]; exact x0),hu] at hq
      rcases List.mem_cons.1 hq with h | h
      · rw [h] at hr; omega
      · have:=(f.mH hx _ h).2; omega
    rcases f.LD z1 (z2.imp Eq.symm _root_.id) (z3.imp Eq.symm _root_.id) with h | h | h
    · exact hne h
    · exact no b1 b2 ra h
    · exact no a1 a2 rb h
theorem vm {l m:List Int} (hl:l.Nodup) (hs:∀x ∈ l,x ∈ m):l.length ≤ m.length:=by
  induction l generalizing m with
  | nil=>simp
  | cons a l ih =>
    obtain ⟨ha,hl⟩:=List.nodup_cons.1 hl
    have hm:=hs a (by simp)
    have:=ih (m:=m.erase a) hl (fun x hx=>(List.mem_erase_of_ne (fun (e:x = a)=>ha (by rw [← e]; exact hx))).2 (hs x (by simp [hx])))
    rw [List.length_erase_of_mem hm] at this
    have h0:0 < m.length:=List.length_pos_of_mem hm
    rw [List.length_cons]; omega
theorem Fo.ql (f:Fo G up ρ) {x:Int} (hx:x ∈ G):(V6 G up x).length ≤ 32:=Nat.le_trans (vm (f.BD hx) fun y hy=>((f.jt hx y).1 hy).1) f.len
theorem Fo.HA (f:Fo G up ρ) {x:Int} (hx:x ∈ G):(U6 up x).Nodup:=by
  refine f.q7 (fun x=>(U6 up x).Nodup) (fun x hx ih=>?_) x hx
  by_cases hu:up x = 0
  · rw [f.u0 hx hu]; exact .nil
  · rw [f.u1 hx hu]; exact List.nodup_cons.2 ⟨f.AV (f.y3 hx hu),ih hu⟩
theorem Fo.wY (f:Fo G up ρ) {x:Int} (hx:x ∈ G):(U6 up x).length ≤ 32:=Nat.le_trans (vm (f.HA hx) fun y hy=>(f.mH hx y hy).1) f.len
def tG (up:Int→Int) (x:Int):Int:=(U6 up x).getLastD x
theorem Fo.rt_eq (f:Fo G up ρ) {x:Int} (hx:x ∈ G):tG up x = if up x = 0 then x else tG up (up x):=by
  unfold tG
  by_cases hu:up x = 0
  · rw [f.u0 hx hu,if_pos hu]; rfl
  · rw [f.u1 hx hu,if_neg hu]
    cases h:U6 up (up x) with
    | nil=>rfl
    | cons a l=>simp [List.getLastD]
theorem Fo.BR (f:Fo G up ρ) {x:Int} (hx:x ∈ G):tG up x ∈ G∧(tG up x = x∨tG up x ∈ U6 up x)∧up (tG up x) = 0:=by
  refine f.q7 (fun x=>tG up x ∈ G∧(tG up x = x∨tG up x ∈ U6 up x)∧up (tG up x) = 0) (fun x hx ih=>?_) x hx
  rw [f.rt_eq hx]
  by_cases hu:up x = 0
  · rw [if_pos hu]; exact ⟨hx, .inl rfl,hu⟩
  · rw [if_neg hu]
    obtain ⟨h1,h2,h3⟩:=ih hu
    refine ⟨h1, .inr ?_,h3⟩
    rw [f.u1 hx hu]
    rcases h2 with h2 | h2
    · rw [h2]; exact List.mem_cons_self
    · exact List.mem_cons_of_mem _ h2
theorem Fo.xe (f:Fo G up ρ) {x:Int} (hx:x ∈ G):tG up x = x↔up x = 0:=by
  rw [f.rt_eq hx]
  by_cases hu:up x = 0
  · rw [if_pos hu]; exact ⟨fun _=>hu,fun _=>rfl⟩
  · rw [if_neg hu]
    refine ⟨fun h=>?_,fun h=>absurd h hu⟩
    have h1:=f.dn x hx hu
    obtain ⟨_,h2,_⟩:=f.BR (f.y3 hx hu)
    rw [h] at h2
    rcases h2 with h2 | h2
    · rw [← h2] at h1; omega
    · have:=(f.mH (f.y3 hx hu) x h2).2; omega
end
end Go.Proofs.Ytbalnnoofdkbaaa
