/- Part 3 of what a proof leans on; pruned and shortened by a program out of longer texts. -/
import Derived.Test.YtbalnnoofdkbaaaQ2
namespace Go.Proofs.Ytbalnnoofdkbaaa
open Go Go.Bw
structure Fo (G:List Int) (up:Int→Int) (ρ:Int→Nat):Prop where
  nd:G.Nodup
  len:G.length ≤ 32
  pos:∀x ∈ G,x ≠ 0
  Kk:∀x ∈ G,up x = 0∨up x ∈ G
  rk:∀x ∈ G,ρ x < 32
  dn:∀x ∈ G,up x ≠ 0→ρ (up x) < ρ x
def uX (up:Int→Int):Nat→Int→List Int
  | 0,_=>[]
  | k + 1,x=>if up x = 0 then [] else up x::uX up k (up x)
def gp (G:List Int) (up:Int→Int) (x:Int):List Int:=G.filter fun y=>up y == x
def uZ (G:List Int) (up:Int→Int):Nat→Int→List Int
  | 0,_=>[]
  | k + 1,x=>x::(gp G up x).flatMap (uZ G up k)
abbrev U6 (up:Int→Int) (x:Int):List Int:=uX up 32 x
abbrev V6 (G:List Int) (up:Int→Int) (x:Int):List Int:=uZ G up 32 x
theorem g9 {G:List Int} {up:Int→Int} {x y:Int}:y ∈ gp G up x↔y ∈ G∧up y = x:=by simp [gp]
theorem oG {α β:Type} {l:List α} {f g:α→List β} (h:∀x ∈ l,f x = g x):l.flatMap f = l.flatMap g:=by
  induction l with
  | nil=>rfl
  | cons a l ih=>rw [List.flatMap_cons,List.flatMap_cons,h a (by simp),ih fun x hx=>h x (by simp [hx])]
section
variable {G:List Int} {up:Int→Int} {ρ:Int→Nat}
theorem Fo.BD (f:Fo G up ρ) {x:Int} (hx:x ∈ G) (h:up x ≠ 0):up x ∈ G:=(f.Kk x hx).resolve_left h
theorem Fo.wz (f:Fo G up ρ) (P:Int→Prop) (h:∀x ∈ G,(up x ≠ 0→P (up x))→P x):∀x ∈ G,P x:=by
  have key:∀k x,x ∈ G→ρ x < k→P x:=by
    intro k
    induction k with
    | zero=>intro x _ h; omega
    | succ k ih=>intro x hx hk; exact h x hx fun hu=>ih _ (f.BD hx hu) (by have:=f.dn x hx hu; omega)
  exact fun x hx=>key _ x hx (Nat.lt_succ_self _)
theorem Fo.Ep (f:Fo G up ρ) {x y:Int} (hx:x ∈ G) (hy:y ∈ G) (h:up y = x):ρ x < ρ y:=by
  have:=f.dn y hy (by rw [h]; exact f.pos x hx)
  rwa [h] at this
theorem Fo.FI (f:Fo G up ρ) (P:Int→Prop) (h:∀x ∈ G,(∀y ∈ G,up y = x→P y)→P x):∀x ∈ G,P x:=by
  have key:∀k x,x ∈ G→32 - ρ x < k→P x:=by
    intro k
    induction k with
    | zero=>intro x _ h; omega
    | succ k ih=>intro x hx hk; exact h x hx fun y hy hu=>ih _ hy (by have:=f.Ep hx hy hu; have:=f.rk y hy; omega)
  exact fun x hx=>key _ x hx (Nat.lt_succ_self _)
theorem Fo.Pn (f:Fo G up ρ):∀k x,x ∈ G→ρ x < k→uX up (k + 1) x = uX up k x:=by
  intro k
  induction k with
  | zero=>intro x _ h; omega
  | succ k ih =>
    intro x hx hk
    show (if up x = 0 then [] else up x::uX up (k + 1) (up x)) = (if up x = 0 then [] else up x::uX up k (up x))
    split
    · rfl
    · rename_i hu
      rw [ih _ (f.BD hx hu) (by have:=f.dn x hx hu; omega)]
theorem Fo.G0 (f:Fo G up ρ) {x:Int} (hx:x ∈ G):U6 up x = if up x = 0 then [] else up x::U6 up (up x):=by
  show uX up (31 + 1) x = _
  rw [uX]
  split
  · rfl
  · rename_i hu
    have:=f.dn x hx hu
    have:=f.rk x hx
    rw [← f.Pn 31 _ (f.BD hx hu) (by omega)]
theorem Fo.u0 (f:Fo G up ρ) {x:Int} (hx:x ∈ G) (h:up x = 0):U6 up x = []:=by rw [f.G0 hx,if_pos h]
theorem Fo.u1 (f:Fo G up ρ) {x:Int} (hx:x ∈ G) (h:up x ≠ 0):U6 up x = up x::U6 up (up x):=by rw [f.G0 hx,if_neg h]
theorem Fo.Pe (f:Fo G up ρ):∀k x,x ∈ G→32 - ρ x ≤ k→uZ G up (k + 1) x = uZ G up k x:=by
  intro k
  induction k with
  | zero=>intro x hx h; have:=f.rk x hx; omega
  | succ k ih =>
    intro x hx hk
    rw [uZ,uZ]
    congr 1
    refine oG fun y hy=>?_
    obtain ⟨hy,hu⟩:=g9.1 hy
    exact ih y hy (by have:=f.Ep hx hy hu; have:=f.rk y hy; omega)
theorem Fo.tH (f:Fo G up ρ) {x:Int} (hx:x ∈ G):V6 G up x = x::(gp G up x).flatMap (V6 G up):=by
  show uZ G up (31 + 1) x = _
  rw [uZ]
  congr 1
  refine oG fun y hy=>?_
  obtain ⟨hy,hu⟩:=g9.1 hy
  have:=f.Ep hx hy hu
  exact (f.Pe 31 y hy (by have:=f.rk y hy; omega)).symm
theorem Fo.qb (f:Fo G up ρ) {x:Int} (hx:x ∈ G):∀y ∈ U6 up x,y ∈ G∧ρ y < ρ x:=by
  refine f.wz (fun x=>∀y ∈ U6 up x,y ∈ G∧ρ y < ρ x) (fun x hx ih y hy=>?_) x hx
  by_cases hu:up x = 0
  · rw [f.u0 hx hu] at hy; cases hy
  · rw [f.u1 hx hu] at hy
    have:=f.dn x hx hu
    rcases List.mem_cons.1 hy with h | h
    · rw [h]; exact ⟨f.BD hx hu,this⟩
    · obtain ⟨h1,h2⟩:=ih hu y h; exact ⟨h1,by omega⟩
theorem Fo.Dl (f:Fo G up ρ) {x:Int} (hx:x ∈ G):x ∉ U6 up x:=fun h=>by have:=(f.qb hx x h).2; omega
theorem Fo.KS (f:Fo G up ρ) {x y z:Int} (hx:x ∈ G) (hy:y ∈ U6 up x) (hz:z ∈ U6 up y):z ∈ U6 up x:=by
  revert hy
  refine f.wz (fun x=>y ∈ U6 up x→z ∈ U6 up x) (fun x hx ih hy=>?_) x hx
  by_cases hu:up x = 0
  · rw [f.u0 hx hu] at hy; cases hy
  · rw [f.u1 hx hu] at hy ⊢
    rcases List.mem_cons.1 hy with h | h
    · rw [← h]; exact List.mem_cons_of_mem _ hz
    · exact List.mem_cons_of_mem _ (ih hu h)
theorem Fo.KR (f:Fo G up ρ) {x y:Int} (hx:x ∈ G) (hy:y = x∨y ∈ U6 up x) (hu:up y ≠ 0):up y ∈ U6 up x:=by
  rcases hy with h | h
  · subst h; rw [f.u1 hx hu]; exact List.mem_cons_self
  · exact f.KS hx h (by rw [f.u1 (f.qb hx y h).1 hu]; exact List.mem_cons_self)
theorem Fo.D9 (f:Fo G up ρ) {x y:Int} (hy:y ∈ G) (h:x ∈ U6 up y):∃k ∈ G,up k = x∧(k = y∨k ∈ U6 up y):=by
  revert h
  refine f.wz (fun y=>x ∈ U6 up y→∃k ∈ G,up k = x∧(k = y∨k ∈ U6 up y)) (fun y hy ih h=>?_) y hy
  by_cases hu:up y = 0
  · rw [f.u0 hy hu] at h; cases h
  · rw [f.u1 hy hu] at h
    rcases List.mem_cons.1 h with h | h
    · exact ⟨y,hy,h.symm, .inl rfl⟩
    · obtain ⟨k,k1,k2,k3⟩:=ih hu h
      refine ⟨k,k1,k2, .inr ?_⟩
      rw [f.u1 hy hu]
      rcases k3 with k3 | k3
      · rw [k3]; exact List.mem_cons_self
      · exact List.mem_cons_of_mem _ k3
theorem Fo.PT (f:Fo G up ρ) {a b y:Int} (hy:y ∈ G) (ha:a = y∨a ∈ U6 up y) (hb:b = y∨b ∈ U6 up y):a = b∨a ∈ U6 up b∨b ∈ U6 up a:=by
  revert ha hb
  refine f.wz (fun y=>(a = y∨a ∈ U6 up y)→(b = y∨b ∈ U6 up y)→a = b∨a ∈ U6 up b∨b ∈ U6 up a) (fun y hy ih ha hb=>?_) y hy
  by_cases hu:up y = 0
  · rw [f.u0 hy hu] at ha hb
    have e1:a = y:=ha.resolve_right (by simp)
    have e2:b = y:=hb.resolve_right (by simp)
    exact .inl (e1.trans e2.symm)
  · rcases ha with ha | ha
    · rcases hb with hb | hb
      · exact .inl (ha.trans hb.symm)
      · subst ha; exact .inr (.inr hb)
    · rcases hb with hb | hb
      · subst hb; exact .inr (.inl ha)
      · rw [f.u1 hy hu] at ha hb
        exact ih hu (List.mem_cons.1 ha) (List.mem_cons.1 hb)
theorem Fo.nX (f:Fo G up ρ) {x:Int} (hx:x ∈ G):∀y,y ∈ V6 G up x↔y ∈ G∧(y = x∨x ∈ U6 up y):=by
  refine f.FI (fun x=>∀y,y ∈ V6 G up x↔y ∈ G∧(y = x∨x ∈ U6 up y)) (fun x hx ih y=>?_) x hx
  rw [f.tH hx,List.mem_cons,List.mem_flatMap]
  constructor
  · rintro (h | ⟨k,hk,h⟩)
    · subst h; exact ⟨hx, .inl rfl⟩
    · obtain ⟨k1,k2⟩:=g9.1 hk
      obtain ⟨h1,h2⟩:=(ih k k1 k2 y).1 h
      refine ⟨h1, .inr ?_⟩
      rw [← k2]
      exact f.KR h1 (h2.imp Eq.symm _root_.id) (by rw [k2]; exact f.pos x hx)
  · rintro ⟨h1,h | h⟩
    · exact .inl h
    · obtain ⟨k,k1,k2,k3⟩:=f.D9 h1 h
      exact .inr ⟨k,g9.2 ⟨k1,k2⟩,(ih k k1 k2 y).2 ⟨h1,k3.imp Eq.symm _root_.id⟩⟩
theorem r9 {α β:Type} {l:List α} {g:α→List β} (hl:l.Nodup) (h1:∀x ∈ l,(g x).Nodup) (h2:∀x ∈ l,∀y ∈ l,x ≠ y→∀z ∈ g x,z ∉ g y):(l.flatMap g).Nodup:=by
  induction l with
  | nil=>simp
  | cons a l ih =>
    obtain ⟨ha,hl⟩:=List.nodup_cons.1 hl
    rw [List.flatMap_cons]
    refine List.nodup_append.2 ⟨h1 a (by simp),ih hl (fun x hx=>h1 x (by simp [hx])) (fun x hx y hy=>h2 x (by simp [hx]) y (by simp [hy])),fun z hz w hw e=>?_⟩
    subst e
    obtain ⟨b,hb,PZ⟩:=List.mem_flatMap.1 hw
    exact h2 a (by simp) b (by simp [hb]) (fun e=>ha (e ▸ hb)) z hz PZ
theorem Fo.GU (f:Fo G up ρ) {x:Int} (hx:x ∈ G):(V6 G up x).Nodup:=by
  refine f.FI (fun x=>(V6 G up x).Nodup) (fun x hx ih=>?_) x hx
  rw [f.tH hx]
  refine List.nodup_cons.2 ⟨fun h=>?_,r9 (f.nd.filter _) (fun k hk=>?_) (fun a ha b hb hne z hz P0=>?_)⟩
  · obtain ⟨k,hk,h⟩:=List.mem_flatMap.1 h
    obtain ⟨k1,k2⟩:=g9.1 hk
    have h3:=((f.nX k1 x).1 h).2
    have:=f.Ep hx k1 k2
    rcases h3 with h3 | h3
    · rw [h3] at this; omega
    · have:=(f.qb hx k h3).2; omega
  · obtain ⟨k1,k2⟩:=g9.1 hk; exact ih k k1 k2
  · obtain ⟨a1,a2⟩:=g9.1 ha
    obtain ⟨b1,b2⟩:=g9.1 hb
    obtain ⟨z1,z2⟩:=(f.nX a1 z).1 hz
    obtain ⟨_,z3⟩:=(f.nX b1 z).1 P0
    have ra:=f.Ep hx a1 a2
    have rb:=f.Ep hx b1 b2
    have x0:=f.pos x hx
    have no:∀{p q:Int},p ∈ G→up p = x→ρ x < ρ q→q ∉ U6 up p:=fun hp hu hr hq=>by
      rw [f.u1 hp (by rw [hu]; exact x0),hu] at hq
      rcases List.mem_cons.1 hq with h | h
      · rw [h] at hr; omega
      · have:=(f.qb hx _ h).2; omega
    rcases f.PT z1 (z2.imp Eq.symm _root_.id) (z3.imp Eq.symm _root_.id) with h | h | h
    · exact hne h
    · exact no b1 b2 ra h
    · exact no a1 a2 rb h
theorem xT {l m:List Int} (hl:l.Nodup) (hs:∀x ∈ l,x ∈ m):l.length ≤ m.length:=by
  induction l generalizing m with
  | nil=>simp
  | cons a l ih =>
    obtain ⟨ha,hl⟩:=List.nodup_cons.1 hl
    have hm:=hs a (by simp)
    have:=ih (m:=m.erase a) hl (fun x hx=>(List.mem_erase_of_ne (fun (e:x = a)=>ha (by rw [← e]; exact hx))).2 (hs x (by simp [hx])))
    rw [List.length_erase_of_mem hm] at this
    have h0:0 < m.length:=List.length_pos_of_mem hm
    rw [List.length_cons]; omega
theorem Fo.sM (f:Fo G up ρ) {x:Int} (hx:x ∈ G):(V6 G up x).length ≤ 32:=Nat.le_trans (xT (f.GU hx) fun y hy=>((f.nX hx y).1 hy).1) f.len
theorem Fo.KT (f:Fo G up ρ) {x:Int} (hx:x ∈ G):(U6 up x).Nodup:=by
  refine f.wz (fun x=>(U6 up x).Nodup) (fun x hx ih=>?_) x hx
  by_cases hu:up x = 0
  · rw [f.u0 hx hu]; exact .nil
  · rw [f.u1 hx hu]; exact List.nodup_cons.2 ⟨f.Dl (f.BD hx hu),ih hu⟩
theorem Fo.zH (f:Fo G up ρ) {x:Int} (hx:x ∈ G):(U6 up x).length ≤ 32:=Nat.le_trans (xT (f.KT hx) fun y hy=>(f.qb hx y hy).1) f.len
def we (up:Int→Int) (x:Int):Int:=(U6 up x).getLastD x
theorem Fo.rt_eq (f:Fo G up ρ) {x:Int} (hx:x ∈ G):we up x = if up x = 0 then x else we up (up x):=by
  unfold we
  by_cases hu:up x = 0
  · rw [f.u0 hx hu,if_pos hu]; rfl
  · rw [f.u1 hx hu,if_neg hu]
    cases h:U6 up (up x) with
    | nil=>rfl
    | cons a l=>simp [List.getLastD]
theorem Fo.Ed (f:Fo G up ρ) {x:Int} (hx:x ∈ G):we up x ∈ G∧(we up x = x∨we up x ∈ U6 up x)∧up (we up x) = 0:=by
  refine f.wz (fun x=>we up x ∈ G∧(we up x = x∨we up x ∈ U6 up x)∧up (we up x) = 0) (fun x hx ih=>?_) x hx
  rw [f.rt_eq hx]
  by_cases hu:up x = 0
  · rw [if_pos hu]; exact ⟨hx, .inl rfl,hu⟩
  · rw [if_neg hu]
    obtain ⟨h1,h2,h3⟩:=ih hu
    refine ⟨h1, .inr ?_,h3⟩
    rw [f.u1 hx hu]
    rcases h2 with h2 | h2
    · rw [h2]; exact List.mem_cons_self
    · exact List.mem_cons_of_mem _ h2
theorem Fo.zR (f:Fo G up ρ) {x:Int} (hx:x ∈ G):we up x = x↔up x = 0:=by
  rw [f.rt_eq hx]
  by_cases hu:up x = 0
  · rw [if_pos hu]; exact ⟨fun _=>hu,fun _=>rfl⟩
  · rw [if_neg hu]
    refine ⟨fun h=>?_,fun h=>absurd h hu⟩
    have h1:=f.dn x hx hu
    obtain ⟨_,h2,_⟩:=f.Ed (f.BD hx hu)
    rw [h] at h2
    rcases h2 with h2 | h2
    · rw [← h2] at h1; omega
    · have:=(f.qb (f.BD hx hu) x h2).2; omega
end
end Go.Proofs.Ytbalnnoofdkbaaa
namespace Go.Proofs.Ytbalnnoofdkbaaa
open Go Go.Bw
def kK (n:Nat) (a0:ai) (a1:Int):Option Int:=
 bd (ep n a0 a1) fun bp =>
 some bp.1.Up
theorem oL {n a0 a1 r K} [bF K] {ct} (f0:(ak).rep K ct a0) (h:kK n a0 a1 = some r):qM Try.prog 54 [A ct, .int .i64 a1] K (.int .i64 r):=by
 unfold kK at h
 refine fo Try.func54 (by kernel_rfl) rfl Try.ntmps54 rfl fun cx _ hro dc hpre=>?_
 refine SC 2 rf ?_
 refine W1 rf (bH rfl) fun b2=>?_
 obtain ⟨bp,cu,h⟩:=bu h
 refine SL 5 rf ?_
 refine ag rfl (aj rfl (aJ.len _ f0)) ?_
 refine ag rfl (ah rfl) ?_
 refine CB (gW (K:=K) (mo f0) cu) rf rf ?_
 rintro wu cY gC ⟨pz,rfl,f26⟩
 replace f26:(aO).rep (fun w=>K w∧Hs [.ext cY gC] w) pz bp.1:=f26
 refine SL 3 rf ?_
 refine W1 rf (bk (hz:=(⟨by kernel_rfl⟩ : bY Try.prog 50 fc))) fun b5=>?_
 refine ST (C:=(fun w=>K w∧Hs [.ext cY gC] w)) bp.1 (aN.id (L:=aO)) fb (mo f26) rf rf rf rf rf fun qx f29=>?_
 refine SL 6 rf ?_
 refine ag rfl (bG rfl (dI.int f29)) ?_
 refine SL 4 rf ?_
 have h:=sj h; subst h
 exact RV rf (rt rf rn) rf
def kL (n:Nat) (a0:ai) (a1:Int):Option (List Int):=
 bd (fK n a0) fun bp =>
 ec (fun Gq (gV:(List Int)) (fY:Int) =>
 cn (decide (fY < (bp.length:Int))) (
 bd (bB n a0 a1) fun fO =>
 gu (!(fO == true) || dU fY bp.length) <|
 cl (fO == true) (kK n a0 (bp.getD (Int.toNat fY) default)) default fun jF =>
 cn ((fO && (jF == a1))) (
 gu (dU fY bp.length) <|
 gu (lE gV.length 1 8) <|
 lt (gV++([(bp.getD (Int.toNat fY) default)]):List Int) fun rY =>
 Gq rY (wr .i64 (fY + 1))) (
 Gq gV (wr .i64 (fY + 1)))) (
 some gV)) n ([]) 0
theorem uw {n a0 a1 r K} [bF K] {ct} (f0:(ak).rep K ct a0) (h:kL n a0 a1 = some r):Bw.Fn (α:=Value) Try.prog 71 [A ct, .int .i64 a1] K [] (fun v=>kf v r.length) (fun v=>v) (fun v=>[Row v 3 1 (LI .i64) r]):=by
 unfold kL at h
 refine fo Try.func71 (by kernel_rfl) rfl Try.ntmps71 rfl fun cx _ hro dc hpre=>?_
 refine SC 2 rf ?_
 refine W1 rf (bH rfl) fun b2=>?_
 obtain ⟨bp,cu,h⟩:=bu h
 refine SL 10 rf ?_
 refine ag rfl (aj rfl (aJ.len _ f0)) ?_
 refine cG rfl (eU (lp (K:=K) (mo f0) cu) rfl kn) (fun r7 kr=>?_)
 dsimp only [List.cons_append,List.nil_append]
 refine SL 10 rf ?_
 refine pD 3 1 (LI .i64) ?_
 obtain ⟨Eo,AH,h⟩:=lT h
 refine LO (β:=(List Int) × Int × Value) [1,2,6] [0,1,2] (fun (Ag,gV,fY,BB)=>[(5,BB),(7, .int .i64 fY)]) (fun (Ag,gV,fY,BB)=>[Row BB 3 1 (LI .i64) gV,Row r7 3 1 (LI .i64) bp, .cells b2 53 ct]) (fun (Ag,gV,fY,BB)=>kf BB gV.length∧ec Eo Ag gV fY = some r) (n,[],0, .slice none 0 0) ⟨⟨_,_,rfl⟩,h⟩ rf rf rf ?_
 rintro Ag ⟨gV,fY,BB⟩ ⟨Il,h⟩
 replace h:=lS AH h; obtain ⟨Ag,rfl,h⟩:=h
 refine SC 5 rf ?_
 refine ag rfl (dH (Fz.row (e:=3) (sz:=1) (L:=(LI .i64)) (xs:=bp) rfl kr) rfl) ?_
 refine SL 3 rf ?_
 refine eS h rf (fun hc h=>?_) fun hc h=>?_
 ·
  refine SC 5 rf ?_
  obtain ⟨fO,vq,h⟩:=bu h
  obtain ⟨jk,h⟩:=cD h
  obtain ⟨jF,qt,_,h⟩:=jd h
  refine dy mixed (.fin [] [(0,[2]),(1,[1]),(2,[16,17]),(3,[18]),(4,[2,19]),(5,[6,19]),(6,[7,19]),(7,[19,21,22]),(8,[19,23]),(9,[19,20,24]),(10,[1,19]),(11,[19,25,26]),(12,[19,27])]) (by kernel_rfl) ?_
  refine F0 ?_
  refine NV rf rf (aj rfl (aJ.len _ f0)) ?_
  refine NS 1 rf ?_
  refine NC rf rf (bO (K:=K) (mo f0) vq) rf ?_
  refine NS 1 rf ?_
  refine NG rf rf (cg rfl rfl) (fun hb=>aj rfl (aJ.len _ f0)) ?_
  refine NG rf rf (cg rfl rfl) (fun hb=>ah rfl) ?_
  refine NG rf rf (cg rfl rfl) (fun hb=>ah rfl) ?_
  refine NG rf rf (cg rfl rfl) (fun hb=>dL (m:=(Int.toNat fY)) (Fz.row (e:=3) (sz:=1) (L:=(LI .i64)) (xs:=bp) rfl kr) rfl (bT rfl hb) (bT rfl hb) (ay (gG jk hb)).1 (ay (gG jk hb)).2) ?_
  refine NG rf rf (cg rfl rfl) (fun hb=>dJ (Fz.row (e:=3) (sz:=1) (L:=(LI .i64)) (xs:=bp) rfl kr) (aN.idx (L:=(LI .i64)) (m:=(bp.length)) (k:=1) ((Int.toNat fY)) (ay (gG jk hb)).2 rfl) (bT rfl hb)) ?_
  refine NG rf rf (cg rfl rfl) (fun hb=>bD (oL (K:=K) (mo f0) (qt hb)) (aU (bT rfl hb) (aU (bT rfl hb) rfl)) kn) ?_
  refine NG rf rf (cg rfl rfl) (fun hb=>ah rfl) ?_
  refine NG rf rf (cg rfl rfl) (fun hb=>dM (bT rfl hb) (bT rfl hb)) ?_
  refine NV rf rf (cM rfl rfl) ?_
  refine bA ?_
  refine aI ?_
  refine eS h rf (fun hc h=>?_) fun hc h=>?_
  ·
   obtain ⟨rC,h⟩:=cD h
   obtain ⟨IV,h⟩:=cD h
   obtain ⟨rY,HY,h⟩:=cQ h
   refine SC 4 rf ?_
   refine ag rfl (dL (m:=(Int.toNat fY)) (Fz.row (e:=3) (sz:=1) (L:=(LI .i64)) (xs:=bp) rfl kr) rfl rfl rfl (ay rC).1 (ay rC).2) ?_
   refine ag rfl (dJ (Fz.row (e:=3) (sz:=1) (L:=(LI .i64)) (xs:=bp) rfl kr) (aN.idx (L:=(LI .i64)) (m:=(bp.length)) (k:=1) ((Int.toNat fY)) (ay rC).2 rfl) rfl) ?_
   refine cG rfl (mJ (LI .i64) (bp.getD (Int.toNat fY) default) rfl rfl rfl rfl (by decide) (by decide)) (fun RW _=>?_)
   refine cG rfl (lu (sz:=1) (L:=(LI .i64)) (xs:=gV) (y:=(bp.getD (Int.toNat fY) default)) (bytes:=8) rfl rfl rfl (gA IV).1 (gA IV).2) (fun KQ Cu=>?_)
   rw [← HY] at Cu; rw [← HY]
   refine SL 9 rf ?_
   exact LN [1,2,3] (rY,wr .i64 (fY + 1),KQ) ⟨Cu,h⟩ rf rf rf
  ·
   refine SC 8 rf ?_
   exact LN [0,1,2] (gV,wr .i64 (fY + 1),BB) ⟨Il,h⟩ rf rf rf
 ·
  refine SC 12 rf ?_
  have h:=sj h; subst h
  exact bW BB rfl (.tmp rfl .nil) Il rfl (ks:=[0]) rfl (by decide)
def fk:Nat→ai→Int→Option (List Int)
 | 0,_,_=>none
 | n + 1,a0,a1 =>
 bd (bB n a0 a1) fun bp =>
 cn ((!bp)) (
 some ([]:List Int)) (
 bd (kL n a0 a1) fun qa =>
 ec (fun Lr (fA:(List Int)) (fZ:Int) =>
 cn (decide (fZ < (qa.length:Int))) (
 gu (dU fZ qa.length) <|
 bd (fk n a0 (qa.getD (Int.toNat fZ) default)) fun jF =>
 gu (lE fA.length jF.length 8) <|
 lt (fA++jF:List Int) fun gD =>
 Lr gD (wr .i64 (fZ + 1))) (
 some fA)) n ([a1]:List Int) 0)
theorem lD {n a0 a1 r K} [bF K] {ct} (f0:(ak).rep K ct a0) (h:fk n a0 a1 = some r):Bw.Fn (α:=Value) Try.prog 52 [A ct, .int .i64 a1] K [] (fun v=>kf v r.length) (fun v=>v) (fun v=>[Row v 3 1 (LI .i64) r]):=by
 induction n generalizing a0 a1 r K ct with
 | zero=>cases h
 | succ n ih =>
 rw [fk] at h
 refine fo Try.func52 (by kernel_rfl) rfl Try.ntmps52 rfl fun cx _ hro dc hpre=>?_
 refine SC 2 rf ?_
 refine W1 rf (bH rfl) fun b2=>?_
 obtain ⟨bp,cu,h⟩:=bu h
 refine SL 6 rf ?_
 refine ag rfl (aj rfl (aJ.len _ f0)) ?_
 refine ag rfl (ah rfl) ?_
 refine CV (bO (K:=K) (mo f0) cu) rf rf ?_
 refine SL 3 rf ?_
 refine eS h rf (fun hc h=>?_) fun hc h=>?_
 ·
  refine SC 7 rf ?_
  refine x9 3 1 (LI .i64) ?_
  have h:=sj h; subst h
  exact bW (.slice none 0 0) rfl (.tmp rfl .nil) ⟨_,_,rfl⟩ rfl (ks:=[0]) rfl (by decide)
 ·
  refine SC 5 rf ?_
  refine cG rfl (yf (LI .i64) a1 rfl rfl rfl rfl (by decide) (by decide)) (fun QY _=>?_)
  obtain ⟨qa,Aq,h⟩:=bu h
  refine SL 5 rf ?_
  refine ag rfl (aj rfl (aJ.len _ f0)) ?_
  refine ag rfl (ah rfl) ?_
  refine cG rfl (eU (uw (K:=K) (mo f0) Aq) rfl kn) (fun Pk EF=>?_)
  dsimp only [List.cons_append,List.nil_append]
  refine SL 10 rf ?_
  obtain ⟨En,AG,h⟩:=lT h
  refine LO (β:=(List Int) × Int × Value) [2,6] [0,1,2] (fun (Af,fA,fZ,D1)=>[(5,D1),(7, .int .i64 fZ)]) (fun (Af,fA,fZ,D1)=>[Row Pk 3 1 (LI .i64) qa,Row D1 3 1 (LI .i64) fA, .cells b2 53 ct]) (fun (Af,fA,fZ,D1)=>kf D1 fA.length∧ec En Af fA fZ = some r) (n,([a1]:List Int),0, .slice (some ⟨QY,0,none⟩) 1 1) ⟨⟨_,_,rfl⟩,h⟩ rf rf rf ?_
  rintro Af ⟨fA,fZ,D1⟩ ⟨Mf,h⟩
  replace h:=lS AG h; obtain ⟨Af,rfl,h⟩:=h
  refine SC 5 rf ?_
  refine ag rfl (dH (Fz.row (e:=3) (sz:=1) (L:=(LI .i64)) (xs:=qa) rfl EF) rfl) ?_
  refine SL 3 rf ?_
  refine eS h rf (fun hc h=>?_) fun hc h=>?_
  ·
   refine SC 4 rf ?_
   obtain ⟨jk,h⟩:=cD h
   obtain ⟨jF,qt,h⟩:=bu h
   obtain ⟨yW,h⟩:=cD h
   obtain ⟨gD,Cp,h⟩:=cQ h
   refine dy mixed (.iH [] [(0,[5]),(1,[2]),(2,[6]),(3,[7]),(4,[25,26]),(5,[27])] (.alt 6 [24,28] (.iH [(0,[5])] [] (.alt 7 [23,29] (.iH [] [] (.alt 8 [30] (.fin [] []) .no)) .no)) .no)) (by kernel_rfl) ?_
   refine T0 ?_
   refine NS 1 rf ?_
   refine NV rf rf (aj rfl (aJ.len _ f0)) ?_
   refine NS 2 rf ?_
   refine NV rf rf (dL (m:=(Int.toNat fZ)) (Fz.row (e:=3) (sz:=1) (L:=(LI .i64)) (xs:=qa) rfl EF) rfl rfl rfl (ay jk).1 (ay jk).2) ?_
   refine NV rf rf (dJ (Fz.row (e:=3) (sz:=1) (L:=(LI .i64)) (xs:=qa) rfl EF) (aN.idx (L:=(LI .i64)) (m:=(qa.length)) (k:=1) ((Int.toNat fZ)) (ay jk).2 rfl) rfl) ?_
   refine bA ?_
   refine X1 rf rf (eU (ih (K:=K) (mo f0) qt) rfl kn) fun Oa Av=>?_
   dsimp only [List.cons_append,List.nil_append]
   refine eA ?_ ?_
   ·
    exact RE 1 rf rf
   refine bA ?_
   refine X1 rf rf (yj (sz:=1) (L:=(LI .i64)) (xs:=fA) (ys:=jF) (bytes:=8) (Fz.row (e:=3) (sz:=1) (L:=(LI .i64)) (xs:=jF) rfl Av) rfl rfl rfl (gA yW).1 (gA yW).2) fun Ph Ij=>?_
   rw [← Cp] at Ij; rw [← Cp]
   refine DJ ?_
   refine XV rf rf (aC rfl) ?_
   refine rT ?_
   refine SX 7 rf ?_
   exact LN [1,2,3] (gD,wr .i64 (fZ + 1),Ph) ⟨Ij,h⟩ rf rf rf
  ·
   refine SC 12 rf ?_
   have h:=sj h; subst h
   exact bW D1 rfl (.tmp rfl .nil) Mf rfl (ks:=[1]) rfl (by decide)
def kM (n:Nat) (a0:ai) (a1:Int):Option (ai × (List Int) × Int):=
 bd (fk n a0 a1) fun bp =>
 ec (fun HI (fY:Int) (fZ:ai) =>
 cn (decide (fY < (bp.length:Int))) (
 gu (dU fY bp.length) <|
 bd (dQ n fZ (bp.getD (Int.toNat fY) default)) fun kE =>
 HI (wr .i64 (fY + 1)) kE.1) (
 cn (((bp.length:Int) == 0)) (
 some (fZ,([]:List Int),4)) (
 some (fZ,bp,0)))) n 0 a0
theorem ux {n a0 a1 r K} [bF K] {ct} (f0:(ak).rep K ct a0) (h:kM n a0 a1 = some r):p9 Try.prog 25 [A ct, .int .i64 a1] K (fun J v=>∃u0 u1,v = (.tuple #[A u0,u1, .int .i64 r.2.2])∧(ak).rep (fun w=>K w∧J w) u0 (r.1)∧Fz (fun w=>K w∧J w) u1 (LI .i64) (r.2.1)):=by
 unfold kM at h
 refine fo Try.func25 (by kernel_rfl) rfl Try.ntmps25 rfl fun cx _ hro dc hpre=>?_
 refine SC 2 rf ?_
 refine W1 rf (bH rfl) fun b2=>?_
 refine W1 rf (bk (hz:=(⟨by kernel_rfl⟩ : bY Try.prog 53 aE))) fun b4=>?_
 obtain ⟨bp,cu,h⟩:=bu h
 refine SL 6 rf ?_
 refine ag rfl (aj rfl (aJ.len _ f0)) ?_
 refine ag rfl (ah rfl) ?_
 refine cG rfl (eU (lD (K:=K) (mo f0) cu) rfl kn) (fun r7 kr=>?_)
 dsimp only [List.cons_append,List.nil_append]
 refine SL 10 rf ?_
 obtain ⟨Em,AF,h⟩:=lT h
 refine kA ?_
 refine LO (β:=Int × ai × (List Value) × (List Nat) × (World→Prop)) [2,4,7] [0,1,2,3] (fun (Ae,fY,fZ,tq,cJ,fM)=>[(8, .int .i64 fY)]) (fun (Ae,fY,fZ,tq,cJ,fM)=>[.ext cJ fM,Row r7 3 1 (LI .i64) bp, .cells b4 53 aE, .cells b2 53 tq]) (fun (Ae,fY,fZ,tq,cJ,fM)=>(ak).rep (fun w=>K w∧Hs [.ext cJ fM] w) tq fZ∧ec Em Ae fY fZ = some r) (n,0,a0,ct,[],(Hs [])) ⟨(mo f0),h⟩ rf rf rf ?_
 rintro Ae ⟨fY,fZ,tq,cJ,fM⟩ ⟨f37,h⟩
 replace h:=lS AF h; obtain ⟨Ae,rfl,h⟩:=h
 refine SC 5 rf ?_
 refine ag rfl (dH (Fz.row (e:=3) (sz:=1) (L:=(LI .i64)) (xs:=bp) rfl kr) rfl) ?_
 refine SL 3 rf ?_
 refine eS h rf (fun hc h=>?_) fun hc h=>?_
 ·
  refine SC 4 rf ?_
  obtain ⟨rC,h⟩:=cD h
  obtain ⟨kE,Ao,h⟩:=bu h
  refine dy mixed (.iH [] [(0,[2]),(1,[7]),(2,[8]),(3,[20,21]),(4,[22])] (.alt 5 [19,23] (.iH [] [(6,[24]),(7,[18]),(8,[18])] (.alt 9 [2,25] (.fin [(8,[18])] []) .no)) .no)) (by kernel_rfl) ?_
  refine T0 ?_
  refine NV rf rf (aj rfl (aJ.len _ f37)) ?_
  refine NS 2 rf ?_
  refine NV rf rf (dL (m:=(Int.toNat fY)) (Fz.row (e:=3) (sz:=1) (L:=(LI .i64)) (xs:=bp) rfl kr) rfl rfl rfl (ay rC).1 (ay rC).2) ?_
  refine NV rf rf (dJ (Fz.row (e:=3) (sz:=1) (L:=(LI .i64)) (xs:=bp) rfl kr) (aN.idx (L:=(LI .i64)) (m:=(bp.length)) (k:=1) ((Int.toNat fY)) (ay rC).2 rfl) rfl) ?_
  refine bA ?_
  refine X1 rf rf (dW (oM (K:=(fun w=>K w∧Hs [.ext cJ fM] w)) (mo f37) Ao) rfl) fun ⟨N8,nn,v9⟩ EK=>?_
  obtain ⟨BI,rfl,f47⟩:=EK
  replace f47:(ak).rep (fun w=>(fun w=>K w∧Hs [.ext cJ fM] w) w∧Hs [.ext nn v9] w) BI kE.1:=f47
  refine T0 ?_
  refine NE 3 rf ?_
  obtain ⟨FN,Fc,f50⟩:=zu (C:=(fun w=>K w∧Hs [.ext cJ fM, .ext nn v9] w)) (x':=kE.1) (aN.id (L:=ak)) (mo f37) (mo f47) rf
  refine X0 rf (zD Fc rf rf rf rf) ?_
  refine uK ?_ ?_
  ·
   exact RE 1 rf rf
  refine bA ?_
  refine SX 7 rf ?_
  refine bC (R:=[.ext nn v9, .ext cJ fM]) (H':=[Row r7 3 1 (LI .i64) bp, .cells b4 53 aE, .cells b2 53 FN]) (ks:=[0,1,2,3,4]) rfl (by decide) ?_
  exact LN [0,1,2,3] (wr .i64 (fY + 1),kE.1,FN,(bI [.ext nn v9, .ext cJ fM]),(Hs [.ext nn v9, .ext cJ fM])) ⟨(mo f50),h⟩ rf rf rf
 ·
  refine SC 9 rf ?_
  refine ag rfl (dH (Fz.row (e:=3) (sz:=1) (L:=(LI .i64)) (xs:=bp) rfl kr) rfl) ?_
  refine SL 3 rf ?_
  refine eS h rf (fun hc h=>?_) fun hc h=>?_
  ·
   refine SC 2 rf ?_
   refine ag rfl (aj rfl (aJ.len _ f37)) ?_
   refine ST (C:=(fun w=>K w∧Hs [.ext cJ fM] w)) fZ (aN.id (L:=ak)) aP (mo f37) rf rf rf rf rf fun KA f52=>?_
   refine SL 6 rf ?_
   have h:=sj h; subst h
   refine bC (R:=[.ext cJ fM]) (H':=[.cells b4 53 KA]) (ks:=[0,2]) rfl (by decide) ?_
   have PA:(ak).rep (fun w=>K w∧(Hs [.ext (bI [.ext cJ fM]) (Hs [.ext cJ fM])]) w) KA fZ:=aJ.mono _ dk f52
   have Pz:Fz (fun w=>K w∧(Hs [.ext (bI [.ext cJ fM]) (Hs [.ext cJ fM])]) w) (.slice none 0 0) (LI .i64) ([]:List Int):=(Fz.nil (A:=Hs []) (L:=(LI .i64))).mono dk
   exact bW (.tuple #[A KA, .slice none 0 0, .int .i64 4],bI [.ext cJ fM],Hs [.ext cJ fM]) rfl (.agg rfl inferInstance inferInstance (aJ.len _ f52) (.tmp rfl (.tmp rfl .nil))) ⟨_,_,rfl,PA,Pz⟩ rfl (ks:=[0]) rfl (by decide)
  ·
   refine SC 4 rf ?_
   refine ag rfl (aj rfl (aJ.len _ f37)) ?_
   refine ag rfl (ah rfl) ?_
   refine ST (C:=(fun w=>K w∧Hs [.ext cJ fM] w)) fZ (aN.id (L:=ak)) aP (mo f37) rf rf rf rf rf fun tp f56=>?_
   refine SL 5 rf ?_
   have h:=sj h; subst h
   refine bC (R:=[.ext cJ fM,Row r7 3 1 (LI .i64) bp]) (H':=[.cells b4 53 tp]) (ks:=[0,1,2]) rfl (by decide) ?_
   have Py:(ak).rep (fun w=>K w∧(Hs [.ext (bI [.ext cJ fM,Row r7 3 1 (LI .i64) bp]) (Hs [.ext cJ fM,Row r7 3 1 (LI .i64) bp])]) w) tp fZ:=aJ.mono _ dk f56
   have Px:Fz (fun w=>K w∧(Hs [.ext (bI [.ext cJ fM,Row r7 3 1 (LI .i64) bp]) (Hs [.ext cJ fM,Row r7 3 1 (LI .i64) bp])]) w) r7 (LI .i64) bp:=(Fz.row (e:=3) (sz:=1) (L:=(LI .i64)) (xs:=bp) rfl kr).mono dk
   exact bW (.tuple #[A tp,r7, .int .i64 0],bI [.ext cJ fM,Row r7 3 1 (LI .i64) bp],Hs [.ext cJ fM,Row r7 3 1 (LI .i64) bp]) rfl (.agg rfl inferInstance inferInstance (aJ.len _ f56) (.tmp rfl (.tmp rfl .nil))) ⟨_,_,rfl,Py,Px⟩ rfl (ks:=[0]) rfl (by decide)
def gl (n:Nat) (a0:ai) (a1:Int) (a2:Int):Option Bool:=
 bd (bB n a0 a1) fun bp =>
 cl (bp == true) (bB n a0 a2) default fun cB =>
 cl (((bp && cB) == true) && ((a1 == a2) == false)) (cm n a0 a1 a2) default fun kg =>
 some ((bp && cB) && ((a1 == a2) || kg))
theorem l7 {n a0 a1 a2 r K} [bF K] {ct} (f0:(ak).rep K ct a0) (h:gl n a0 a1 a2 = some r):qM Try.prog 22 [A ct, .int .i64 a1, .int .i64 a2] K (.bool r):=by
 unfold gl at h
 refine fo Try.func22 (by kernel_rfl) rfl Try.ntmps22 rfl fun cx _ hro dc hpre=>?_
 refine SC 2 rf ?_
 refine W1 rf (bH rfl) fun b3=>?_
 obtain ⟨bp,cu,h⟩:=bu h
 obtain ⟨cB,gE,_,h⟩:=jd h
 obtain ⟨kg,lB,_,h⟩:=jd h
 refine SL 5 rf ?_
 refine ag rfl (aj rfl (aJ.len _ f0)) ?_
 refine ag rfl (ah rfl) ?_
 refine CV (bO (K:=K) (mo f0) cu) rf rf ?_
 refine ag rfl (ah rfl) ?_
 refine GB rf rf rf (fun hb=>aj rfl (aJ.len _ f0)) ?_
 refine GB rf rf rf (fun hb=>ah rfl) ?_
 refine GB rf rf rf (fun hb=>bD (bO (K:=K) (mo f0) (gE hb)) (aU (bT rfl hb) (aU (bT rfl hb) rfl)) kn) ?_
 refine ag rfl (cM rfl rfl) ?_
 refine ag rfl (ah rfl) ?_
 refine GB rf rf rf (fun hb=>ah rfl) ?_
 refine GB rf rf rf (fun hb=>ah rfl) ?_
 refine GB rf rf rf (fun hb=>dM (bT rfl hb) (bT rfl hb)) ?_
 refine GB rf rf rf (fun hb=>ah (bT rfl hb)) ?_
 refine cC (iO rfl rfl) rfl (fun hb=>aj rfl (aJ.len _ f0)) ?_
 refine cC (iO rfl rfl) rfl (fun hb=>ah rfl) ?_
 refine cC (iO rfl rfl) rfl (fun hb=>ah rfl) ?_
 refine cC (iO rfl rfl) rfl (fun hb=>bD (iJ (K:=K) (mo f0) (lB hb)) (aU (bT rfl hb) (aU (bT rfl hb) (aU (bT rfl hb) rfl))) kn) ?_
 refine GB rf rf rf (fun hb=>dV (bT rfl hb) (w5 rfl hb)) ?_
 refine ag rfl (cM rfl rfl) ?_
 refine SL 4 rf ?_
 have h:=sj h; subst h
 exact RV rf (rt rf rn) rf
def eJ:Nat→ai→Int→Option Int
 | 0,_,_=>none
 | n + 1,a0,a1 =>
 bd (bB n a0 a1) fun bp =>
 cn ((!bp)) (
 some 0) (
 bd (kK n a0 a1) fun cB =>
 bd (eJ n a0 cB) fun kg =>
 some (wr .i64 (1 + kg)))
theorem n4 {n a0 a1 r K} [bF K] {ct} (f0:(ak).rep K ct a0) (h:eJ n a0 a1 = some r):qM Try.prog 56 [A ct, .int .i64 a1] K (.int .i64 r):=by
 induction n generalizing a0 a1 r K ct with
 | zero=>cases h
 | succ n ih =>
 rw [eJ] at h
 refine fo Try.func56 (by kernel_rfl) rfl Try.ntmps56 rfl fun cx _ hro dc hpre=>?_
 refine SC 2 rf ?_
 refine W1 rf (bH rfl) fun b2=>?_
 obtain ⟨bp,cu,h⟩:=bu h
 refine SL 6 rf ?_
 refine ag rfl (aj rfl (aJ.len _ f0)) ?_
 refine ag rfl (ah rfl) ?_
 refine CV (bO (K:=K) (mo f0) cu) rf rf ?_
 refine SL 3 rf ?_
 refine eS h rf (fun hc h=>?_) fun hc h=>?_
 ·
  refine SC 7 rf ?_
  have h:=sj h; subst h
  exact RV rf (rt rf rn) rf
 ·
  refine SC 3 rf ?_
  obtain ⟨cB,gE,h⟩:=bu h
  obtain ⟨kg,lB,h⟩:=bu h
  refine dy mixed (.iH [] [(0,[2]),(1,[2]),(2,[1]),(3,[10,11]),(4,[9,12]),(5,[13])] (.alt 6 [14] (.fin [] []) .no)) (by kernel_rfl) ?_
  refine T0 ?_
  refine NV rf rf (aj rfl (aJ.len _ f0)) ?_
  refine NV rf rf (aj rfl (aJ.len _ f0)) ?_
  refine NS 1 rf ?_
  refine NC rf rf (oL (K:=K) (mo f0) gE) rf ?_
  refine NC rf rf (ih (K:=K) (mo f0) lB) rf ?_
  refine NE 1 rf ?_
  refine XV rf rf (aC rfl) ?_
  refine rT ?_
  refine SX 2 rf ?_
  have h:=sj h; subst h
  exact RV rf (rt rf rn) rf
def jL (n:Nat) (a0:ai) (a1:Int) (a2:Int):Option (ai × Int):=
 bd (bB n a0 a1) fun bp =>
 cl ((!bp) == false) (bB n a0 a2) default fun cB =>
 cn (((!bp) || (!cB))) (
 some (a0,4)) (
 bd (kK n a0 a1) fun dS =>
 cl ((dS != 0) == false) (gl n a0 a1 a2) default fun cR =>
 cn (((dS != 0) || cR)) (
 some (a0,12)) (
 bd (eC n a0 a1 a2) fun gV =>
 bd (fk n gV.1 a1) fun jF =>
 ef (fun HG (gD:Int) =>
 cn (decide (gD < (jF.length:Int))) (
 gu (dU gD jF.length) <|
 bd (eJ n gV.1 (jF.getD (Int.toNat gD) default)) fun oo =>
 cn (decide (6 < oo)) (
 some (a0,8)) (
 HG (wr .i64 (gD + 1)))) (
 some (gV.1,gV.2))) n 0))
theorem sx {n a0 a1 a2 r K} [bF K] {ct} (f0:(ak).rep K ct a0) (h:jL n a0 a1 a2 = some r):p9 Try.prog 28 [A ct, .int .i64 a1, .int .i64 a2] K (fun J v=>∃u0,v = (.tuple #[A u0, .int .i64 r.2])∧(ak).rep (fun w=>K w∧J w) u0 (r.1)):=by
 unfold jL at h
 refine fo Try.func28 (by kernel_rfl) rfl Try.ntmps28 rfl fun cx _ hro dc hpre=>?_
 refine SC 2 rf ?_
 refine W1 rf (bH rfl) fun b3=>?_
 refine W1 rf (bk (hz:=(⟨by kernel_rfl⟩ : bY Try.prog 53 aE))) fun b6=>?_
 obtain ⟨bp,cu,h⟩:=bu h
 obtain ⟨cB,gE,_,h⟩:=jd h
 refine SL 6 rf ?_
 refine ag rfl (aj rfl (aJ.len _ f0)) ?_
 refine ag rfl (ah rfl) ?_
 refine CV (bO (K:=K) (mo f0) cu) rf rf ?_
 refine SL 2 rf ?_
 refine GB rf rf rf (fun hb=>aj rfl (aJ.len _ f0)) ?_
 refine GB rf rf rf (fun hb=>ah rfl) ?_
 refine GB rf rf rf (fun hb=>bD (bO (K:=K) (mo f0) (gE hb)) (aU (bT rfl hb) (aU (bT rfl hb) rfl)) kn) ?_
 refine GB rf rf rf (fun hb=>eW (bT rfl hb)) ?_
 refine ag rfl (dV rfl rfl) ?_
 refine SL 2 rf ?_
 refine eS h rf (fun hc h=>?_) fun hc h=>?_
 ·
  refine SC 2 rf ?_
  refine ag rfl (aj rfl (aJ.len _ f0)) ?_
  refine ST (C:=K) a0 (aN.id (L:=ak)) aP (mo f0) rf rf rf rf rf fun xo f24=>?_
  refine SL 5 rf ?_
  have h:=sj h; subst h
  exact k7 [] rf rf (ra rf (aJ.len _ f24) (rt rf rn)) ⟨_,rfl,(mo f24)⟩
 ·
  obtain ⟨dS,mz,h⟩:=bu h
  obtain ⟨cR,lA,_,h⟩:=jd h
  refine SC 5 rf ?_
  refine ag rfl (aj rfl (aJ.len _ f0)) ?_
  refine ag rfl (ah rfl) ?_
  refine CV (oL (K:=K) (mo f0) mz) rf rf ?_
  refine SL 2 rf ?_
  refine GB rf rf rf (fun hb=>aj rfl (aJ.len _ f0)) ?_
  refine GB rf rf rf (fun hb=>ah rfl) ?_
  refine GB rf rf rf (fun hb=>ah rfl) ?_
  refine GB rf rf rf (fun hb=>bD (l7 (K:=K) (mo f0) (lA hb)) (aU (bT rfl hb) (aU (bT rfl hb) (aU (bT rfl hb) rfl))) kn) ?_
  refine ag rfl (dV rfl rfl) ?_
  refine SL 2 rf ?_
  refine eS h rf (fun hc h=>?_) fun hc h=>?_
  ·
   refine SC 2 rf ?_
   refine ag rfl (aj rfl (aJ.len _ f0)) ?_
   refine ST (C:=K) a0 (aN.id (L:=ak)) aP (mo f0) rf rf rf rf rf fun qx f29=>?_
   refine SL 5 rf ?_
   have h:=sj h; subst h
   exact k7 [] rf rf (ra rf (aJ.len _ f29) (rt rf rn)) ⟨_,rfl,(mo f29)⟩
  ·
   obtain ⟨gV,Ap,h⟩:=bu h
   refine SC 4 rf ?_
   refine ag rfl (aj rfl (aJ.len _ f0)) ?_
   refine SL 2 rf ?_
   refine CB (nP (K:=K) (mo f0) Ap) rf rf ?_
   rintro Rw y9 GH ⟨A9,rfl,f36⟩
   replace f36:(ak).rep (fun w=>K w∧Hs [.ext y9 GH] w) A9 gV.1:=f36
   refine SL 3 rf ?_
   refine W1 rf (bk (hz:=(⟨by kernel_rfl⟩ : bY Try.prog 53 aE))) fun b8=>?_
   refine ST (C:=(fun w=>K w∧Hs [.ext y9 GH] w)) gV.1 (aN.id (L:=ak)) aP (mo f36) rf rf rf rf rf fun KB f39=>?_
   obtain ⟨jF,qt,h⟩:=bu h
   refine SL 5 rf ?_
   refine ag rfl (aj rfl (aJ.len _ f39)) ?_
   refine ag rfl (ah rfl) ?_
   refine cG rfl (eU (lD (K:=(fun w=>K w∧Hs [.ext y9 GH] w)) (mo f39) qt) rfl kn) (fun Oa Av=>?_)
   dsimp only [List.cons_append,List.nil_append]
   refine SL 10 rf ?_
   obtain ⟨Lg,Iz,h⟩:=ld h
   refine LO (β:=Int) [3,6,8,9,10] [0,1,2,3,4] (fun (Hw,gD)=>[(11, .int .i64 gD)]) (fun (Hw,gD)=>[Row Oa 3 1 (LI .i64) jF, .cells b8 53 KB, .ext y9 GH, .cells b6 53 aE, .cells b3 53 ct]) (fun (Hw,gD)=>ef Lg Hw gD = some r) (n,0) h rf rf rf ?_
   rintro Hw gD h
   replace h:=k9 Iz h; obtain ⟨Hw,rfl,h⟩:=h
   refine SC 5 rf ?_
   refine ag rfl (dH (Fz.row (e:=3) (sz:=1) (L:=(LI .i64)) (xs:=jF) rfl Av) rfl) ?_
   refine SL 3 rf ?_
   refine eS h rf (fun hc h=>?_) fun hc h=>?_
   ·
    refine SC 5 rf ?_
    obtain ⟨wT,h⟩:=cD h
    obtain ⟨oo,wN,h⟩:=bu h
    refine dy mixed (.fin [] [(0,[8]),(1,[10]),(2,[11]),(3,[51,52]),(4,[53]),(5,[50,54]),(6,[55])]) (by kernel_rfl) ?_
    refine F0 ?_
    refine NV rf rf (aj rfl (aJ.len _ f39)) ?_
    refine NS 2 rf ?_
    refine NV rf rf (dL (m:=(Int.toNat gD)) (Fz.row (e:=3) (sz:=1) (L:=(LI .i64)) (xs:=jF) rfl Av) rfl rfl rfl (ay wT).1 (ay wT).2) ?_
    refine NV rf rf (dJ (Fz.row (e:=3) (sz:=1) (L:=(LI .i64)) (xs:=jF) rfl Av) (aN.idx (L:=(LI .i64)) (m:=(jF.length)) (k:=1) ((Int.toNat gD)) (ay wT).2 rfl) rfl) ?_
    refine NC rf rf (n4 (K:=(fun w=>K w∧Hs [.ext y9 GH] w)) (mo f39) wN) rf ?_
    refine NE 1 rf ?_
    refine aI ?_
    refine eS h rf (fun hc h=>?_) fun hc h=>?_
    ·
     refine SC 2 rf ?_
     refine ag rfl (aj rfl (aJ.len _ f0)) ?_
     refine ST (C:=K) a0 (aN.id (L:=ak)) aP (mo f0) rf rf rf rf rf fun KA f52=>?_
     refine SL 9 rf ?_
     have h:=sj h; subst h
     exact k7 [] rf rf (ra rf (aJ.len _ f52) (rt rf rn)) ⟨_,rfl,(mo f52)⟩
    ·
     refine SC 8 rf ?_
     exact LN [0,1,2,3,4] (wr .i64 (gD + 1)) h rf rf rf
   ·
    refine SC 7 rf ?_
    refine ag rfl (aj rfl (aJ.len _ f39)) ?_
    refine ag rfl (ah rfl) ?_
    refine ST (C:=(fun w=>K w∧Hs [.ext y9 GH] w)) gV.1 (aN.id (L:=ak)) aP (mo f39) rf rf rf rf rf fun JK f55=>?_
    refine SL 4 rf ?_
    have h:=sj h; subst h
    exact k7 [2] rf rf (ra rf (aJ.len _ f55) (rt rf rn)) ⟨_,rfl,(mo f55)⟩
def lO (n:Nat) (a0:ai) (a1:Int):Option (ai × Int):=
 bd (bB n a0 a1) fun bp =>
 cn ((!bp)) (
 some (a0,4)) (
 bd (fk n a0 a1) fun cR =>
 ec (fun Lo (jF:Int) (ez:ai) =>
 cn (decide (jF < (cR.length:Int))) (
 gu (dU jF cR.length) <|
 bd (bM n a0.B (cR.getD (Int.toNat jF) default)) fun j6 =>
 ec (fun Ds (jE:Int) (mj:ai) =>
 cn (decide (jE < 8)) (
 gu (dU j6 32) <|
 gu (dU jE 8) <|
 cl ((((a0.R (Int.toNat j6)).Cells (Int.toNat jE)) != 0) == true) (cm n a0 ((a0.R (Int.toNat j6)).Cells (Int.toNat jE)) a1) default fun rX =>
 cn (((((a0.R (Int.toNat j6)).Cells (Int.toNat jE)) != 0) && rX)) (
 gu (dU j6 32) <|
 gu (dU jE 8) <|
 lt ({ mj with R:=(eO mj.R (Int.toNat j6) ({ (mj.R (Int.toNat j6)) with Cells:=(eO ((mj.R (Int.toNat j6)).Cells) (Int.toNat jE) 0) })) }:ai) fun Di =>
 Ds (wr .i64 (jE + 1)) Di) (
 Ds (wr .i64 (jE + 1)) mj)) (
 Lo (wr .i64 (jF + 1)) mj)) n 0 ez) (
 bd (bM n a0.B a1) fun uU =>
 gu (dU uU 32) <|
 lt ({ ez with R:=(eO ez.R (Int.toNat uU) ({ (ez.R (Int.toNat uU)) with Up:=0 })) }:ai) fun Dh =>
 some (Dh,0))) n 0 a0)
theorem vG {n a0 a1 r K} [bF K] {ct} (f0:(ak).rep K ct a0) (h:lO n a0 a1 = some r):p9 Try.prog 27 [A ct, .int .i64 a1] K (fun J v=>∃u0,v = (.tuple #[A u0, .int .i64 r.2])∧(ak).rep (fun w=>K w∧J w) u0 (r.1)):=by
 unfold lO at h
 refine fo Try.func27 (by kernel_rfl) rfl Try.ntmps27 rfl fun cx _ hro dc hpre=>?_
 refine SC 2 rf ?_
 refine W1 rf (bH rfl) fun b2=>?_
 refine W1 rf (bk (hz:=(⟨by kernel_rfl⟩ : bY Try.prog 53 aE))) fun b4=>?_
 obtain ⟨bp,cu,h⟩:=bu h
 refine SL 6 rf ?_
 refine ag rfl (aj rfl (aJ.len _ f0)) ?_
 refine ag rfl (ah rfl) ?_
 refine CV (bO (K:=K) (mo f0) cu) rf rf ?_
 refine SL 3 rf ?_
 refine eS h rf (fun hc h=>?_) fun hc h=>?_
 ·
  refine SC 2 rf ?_
  refine ag rfl (aj rfl (aJ.len _ f0)) ?_
  refine ST (C:=K) a0 (aN.id (L:=ak)) aP (mo f0) rf rf rf rf rf fun FP f23=>?_
  refine SL 5 rf ?_
  have h:=sj h; subst h
  exact k7 [] rf rf (ra rf (aJ.len _ f23) (rt rf rn)) ⟨_,rfl,(mo f23)⟩
 ·
  refine SC 4 rf ?_
  refine ag rfl (aj rfl (aJ.len _ f0)) ?_
  refine W1 rf (bk (hz:=(⟨by kernel_rfl⟩ : bY Try.prog 53 aE))) fun b6=>?_
  refine ST (C:=K) a0 (aN.id (L:=ak)) aP (mo f0) rf rf rf rf rf fun BK f26=>?_
  obtain ⟨cR,lA,h⟩:=bu h
  refine SL 4 rf ?_
  refine ag rfl (aj rfl (aJ.len _ f0)) ?_
  refine ag rfl (ah rfl) ?_
  refine cG rfl (eU (lD (K:=K) (mo f0) lA) rfl kn) (fun GZ EE=>?_)
  dsimp only [List.cons_append,List.nil_append]
  refine SL 10 rf ?_
  obtain ⟨Lh,IA,h⟩:=lT h
  refine kA ?_
  refine LO (β:=Int × ai × (List Value) × (List Nat) × (World→Prop)) [1,2,4,6,7] [0,1,2,3,4] (fun (Hx,jF,ez,sD,jC,p7)=>[(8, .int .i64 jF)]) (fun (Hx,jF,ez,sD,jC,p7)=>[.ext jC p7,Row GZ 3 1 (LI .i64) cR, .cells b6 53 sD, .cells b4 53 aE, .cells b2 53 ct]) (fun (Hx,jF,ez,sD,jC,p7)=>(ak).rep (fun w=>K w∧Hs [.ext jC p7] w) sD ez∧ec Lh Hx jF ez = some r) (n,0,a0,BK,[],(Hs [])) ⟨(mo f26),h⟩ rf rf rf ?_
  rintro Hx ⟨jF,ez,sD,jC,p7⟩ ⟨f43,h⟩
  replace h:=lS IA h; obtain ⟨Hx,rfl,h⟩:=h
  refine SC 5 rf ?_
  refine ag rfl (dH (Fz.row (e:=3) (sz:=1) (L:=(LI .i64)) (xs:=cR) rfl EE) rfl) ?_
  refine SL 3 rf ?_
  refine eS h rf (fun hc h=>?_) fun hc h=>?_
  ·
   refine SC 5 rf ?_
   obtain ⟨EV,h⟩:=cD h
   obtain ⟨j6,An,h⟩:=bu h
   refine dy mixed (.iH [] [(0,[2]),(1,[27]),(2,[7]),(3,[8]),(4,[29,30]),(5,[31]),(6,[28,32])] (.alt 7 [33] (.fin [] []) .no)) (by kernel_rfl) ?_
   refine T0 ?_
   refine NS 1 rf ?_
   refine NV rf rf (aR rfl (bg.iff.1 (bN.get f0)) (bx _ _)) ?_
   refine NS 2 rf ?_
   refine NV rf rf (dL (m:=(Int.toNat jF)) (Fz.row (e:=3) (sz:=1) (L:=(LI .i64)) (xs:=cR) rfl EE) rfl rfl rfl (ay EV).1 (ay EV).2) ?_
   refine NV rf rf (dJ (Fz.row (e:=3) (sz:=1) (L:=(LI .i64)) (xs:=cR) rfl EE) (aN.idx (L:=(LI .i64)) (m:=(cR.length)) (k:=1) ((Int.toNat jF)) (ay EV).2 rfl) rfl) ?_
   refine NC rf rf (cE An) rf ?_
   refine bA ?_
   refine XV rf rf (aC rfl) ?_
   refine rT ?_
   refine SX 7 rf ?_
   obtain ⟨Le,Iw,h⟩:=lT h
   refine kA ?_
   refine LO (β:=Int × ai × (List Value) × (List Nat) × (World→Prop)) [1,2,4,6,7,8,9] [0,1,2,3,4,5] (fun (Hu,jE,mj,y7,oQ,xD)=>[(10, .int .i64 jE)]) (fun (Hu,jE,mj,y7,oQ,xD)=>[.ext oQ xD, .ext jC p7,Row GZ 3 1 (LI .i64) cR, .cells b6 53 y7, .cells b4 53 aE, .cells b2 53 ct]) (fun (Hu,jE,mj,y7,oQ,xD)=>(ak).rep (fun w=>K w∧Hs [.ext jC p7, .ext oQ xD] w) y7 mj∧ec Le Hu jE mj = some r) (n,0,ez,sD,[],(Hs [])) ⟨(mo f43),h⟩ rf rf rf ?_
   rintro Hu ⟨jE,mj,y7,oQ,xD⟩ ⟨f61,h⟩
   replace h:=lS Iw h; obtain ⟨Hu,rfl,h⟩:=h
   refine SC 7 rf ?_
   refine eS h rf (fun hc h=>?_) fun hc h=>?_
   ·
    obtain ⟨ET,h⟩:=cD h
    obtain ⟨ES,h⟩:=cD h
    refine SC 9 rf ?_
    refine ag rfl (bV (m:=(Int.toNat j6)) rfl rfl (ay ET).1 (ay ET).2) ?_
    refine ag rfl (eX rfl) ?_
    refine ag rfl (bV (m:=(Int.toNat jE)) rfl rfl (ay ES).1 (ay ES).2) ?_
    refine ag rfl (bG rfl ((((cw.comp (aN.idx (L:=aO) (m:=32) (k:=12) ((Int.toNat j6)) (ay ET).2 rfl)).comp dO).comp (aN.idx (L:=(LI .i64)) (m:=8) (k:=1) ((Int.toNat jE)) (ay ES).2 rfl)).int f0)) ?_
    obtain ⟨rX,EB,_,h⟩:=jd h
    refine SL 8 rf ?_
    refine GB rf rf rf (fun hb=>aj rfl (aJ.len _ f0)) ?_
    refine GB rf rf rf (fun hb=>ah rfl) ?_
    refine GB rf rf rf (fun hb=>ah rfl) ?_
    refine GB rf rf rf (fun hb=>bD (iJ (K:=K) (mo f0) (EB hb)) (aU (bT rfl hb) (aU (bT rfl hb) (aU (bT rfl hb) rfl))) kn) ?_
    refine ag rfl (cM rfl rfl) ?_
    refine SL 2 rf ?_
    refine eS h rf (fun hc h=>?_) fun hc h=>?_
    ·
     obtain ⟨sq,h⟩:=cD h
     obtain ⟨wR,h⟩:=cD h
     obtain ⟨Di,LL,h⟩:=cQ h
     refine SC 4 rf ?_
     refine ag rfl (bV (m:=(Int.toNat j6)) rfl rfl (ay sq).1 (ay sq).2) ?_
     refine ag rfl (eX rfl) ?_
     refine ag rfl (bV (m:=(Int.toNat jE)) rfl rfl (ay wR).1 (ay wR).2) ?_
     refine ST (C:=(fun w=>K w∧Hs [.ext jC p7, .ext oQ xD] w)) Di (((cw.comp (aN.idx (L:=aO) (m:=32) (k:=12) ((Int.toNat j6)) (ay sq).2 rfl)).comp dO).comp (aN.idx (L:=(LI .i64)) (m:=8) (k:=1) ((Int.toNat jE)) (ay wR).2 rfl)) (mo f61) fl LL rf rf rf rf fun OI f72=>?_
     refine SL 8 rf ?_
     refine bC (R:=[.ext oQ xD]) (H':=[.ext jC p7,Row GZ 3 1 (LI .i64) cR, .cells b6 53 OI, .cells b4 53 aE, .cells b2 53 ct]) (ks:=[0,1,2,3,4,5]) rfl (by decide) ?_
     exact LN [0,1,2,3,4,5] (wr .i64 (jE + 1),Di,OI,(bI [.ext oQ xD]),(Hs [.ext oQ xD])) ⟨(mo f72),h⟩ rf rf rf
    ·
     refine SC 8 rf ?_
     refine bC (R:=[.ext oQ xD]) (H':=[.ext jC p7,Row GZ 3 1 (LI .i64) cR, .cells b6 53 y7, .cells b4 53 aE, .cells b2 53 ct]) (ks:=[0,1,2,3,4,5]) rfl (by decide) ?_
     exact LN [0,1,2,3,4,5] (wr .i64 (jE + 1),mj,y7,(bI [.ext oQ xD]),(Hs [.ext oQ xD])) ⟨(mo f61),h⟩ rf rf rf
   ·
    refine SC 11 rf ?_
    refine bC (R:=[.ext oQ xD, .ext jC p7]) (H':=[Row GZ 3 1 (LI .i64) cR, .cells b6 53 y7, .cells b4 53 aE, .cells b2 53 ct]) (ks:=[0,1,2,3,4,5]) rfl (by decide) ?_
    exact LN [0,1,2,3,4] (wr .i64 (jF + 1),mj,y7,(bI [.ext oQ xD, .ext jC p7]),(Hs [.ext oQ xD, .ext jC p7])) ⟨(mo f61),h⟩ rf rf rf
  ·
   obtain ⟨uU,Cn,h⟩:=bu h
   obtain ⟨ER,h⟩:=cD h
   obtain ⟨Dh,EA,h⟩:=cQ h
   refine SC 8 rf ?_
   refine ag rfl (aR rfl (bg.iff.1 (bN.get f0)) (bx _ _)) ?_
   refine ag rfl (ah rfl) ?_
   refine CV (cE Cn) rf rf ?_
   refine ag rfl (aH rfl) ?_
   refine ag rfl (bV (m:=(Int.toNat uU)) rfl rfl (ay ER).1 (ay ER).2) ?_
   refine ag rfl (eX rfl) ?_
   refine ST (C:=(fun w=>K w∧Hs [.ext jC p7] w)) Dh ((cw.comp (aN.idx (L:=aO) (m:=32) (k:=12) ((Int.toNat uU)) (ay ER).2 rfl)).comp dI) (mo f43) fl EA rf rf rf rf fun NK f77=>?_
   refine SL 4 rf ?_
   refine ag rfl (aj rfl (aJ.len _ f77)) ?_
   refine ST (C:=(fun w=>K w∧Hs [.ext jC p7] w)) Dh (aN.id (L:=ak)) aP (mo f77) rf rf rf rf rf fun JH f79=>?_
   refine SL 4 rf ?_
   have h:=sj h; subst h
   exact k7 [0] rf rf (ra rf (aJ.len _ f79) (rt rf rn)) ⟨_,rfl,(mo f79)⟩
def lN (n:Nat) (a0:ai) (a1:Int) (a2:Int):Option (ai × Int × Int):=
 cl ((a1 == 0) == false) (bB n a0 a1) default fun bp =>
 cl (((((a1 == 0) || bp) && decide (0 ≤ a2)) && decide (a2 ≤ 64)) == true) (eJ n a0 a1) default fun cB =>
 cn ((((((a1 == 0) || bp) && decide (0 ≤ a2)) && decide (a2 ≤ 64)) && decide (5 < cB))) (
 some (a0,0,8)) (
 bd (dm n a0 a1 a2) fun dS =>
 some (dS.1,dS.2.1,dS.2.2))
theorem vF {n a0 a1 a2 r K} [bF K] {ct} (f0:(ak).rep K ct a0) (h:lN n a0 a1 a2 = some r):p9 Try.prog 33 [A ct, .int .i64 a1, .int .i64 a2] K (fun J v=>∃u0,v = (.tuple #[A u0, .int .i64 r.2.1, .int .i64 r.2.2])∧(ak).rep (fun w=>K w∧J w) u0 (r.1)):=by
 unfold lN at h
 refine fo Try.func33 (by kernel_rfl) rfl Try.ntmps33 rfl fun cx _ hro dc hpre=>?_
 refine SC 2 rf ?_
 refine W1 rf (bH rfl) fun b3=>?_
 refine W1 rf (bk (hz:=(⟨by kernel_rfl⟩ : bY Try.prog 53 aE))) fun b6=>?_
 obtain ⟨bp,cu,_,h⟩:=jd h
 obtain ⟨cB,gE,_,h⟩:=jd h
 refine SL 10 rf ?_
 refine GB rf rf rf (fun hb=>aj rfl (aJ.len _ f0)) ?_
 refine GB rf rf rf (fun hb=>ah rfl) ?_
 refine GB rf rf rf (fun hb=>bD (bO (K:=K) (mo f0) (cu hb)) (aU (bT rfl hb) (aU (bT rfl hb) rfl)) kn) ?_
 refine ag rfl (dV rfl rfl) ?_
 refine ag rfl (ah rfl) ?_
 refine GB rf rf rf (fun hb=>ah rfl) ?_
 refine GB rf rf rf (fun hb=>lF (bT rfl hb) rfl) ?_
 refine ag rfl (cM rfl rfl) ?_
 refine ag rfl (ah rfl) ?_
 refine GB rf rf rf (fun hb=>ah rfl) ?_
 refine GB rf rf rf (fun hb=>nw (bT rfl hb) rfl) ?_
 refine ag rfl (cM rfl rfl) ?_
 refine ag rfl (ah rfl) ?_
 refine GB rf rf rf (fun hb=>aj rfl (aJ.len _ f0)) ?_
 refine GB rf rf rf (fun hb=>ah rfl) ?_
 refine GB rf rf rf (fun hb=>bD (n4 (K:=K) (mo f0) (gE hb)) (aU (bT rfl hb) (aU (bT rfl hb) rfl)) kn) ?_
 refine GB rf rf rf (fun hb=>kW (bT rfl hb) rfl) ?_
 refine ag rfl (cM rfl rfl) ?_
 refine SL 2 rf ?_
 refine eS h rf (fun hc h=>?_) fun hc h=>?_
 ·
  refine SC 2 rf ?_
  refine ag rfl (aj rfl (aJ.len _ f0)) ?_
  refine ST (C:=K) a0 (aN.id (L:=ak)) aP (mo f0) rf rf rf rf rf fun xo f24=>?_
  refine SL 6 rf ?_
  have h:=sj h; subst h
  exact k7 [] rf rf (ra rf (aJ.len _ f24) (rt rf (rt rf rn))) ⟨_,rfl,(mo f24)⟩
 ·
  obtain ⟨dS,mz,h⟩:=bu h
  refine SC 4 rf ?_
  refine ag rfl (aj rfl (aJ.len _ f0)) ?_
  refine SL 2 rf ?_
  refine CB (pg (K:=K) (mo f0) mz) rf rf ?_
  rintro Ry JS O1 ⟨CT,rfl,f31⟩
  replace f31:(ak).rep (fun w=>K w∧Hs [.ext JS O1] w) CT dS.1:=f31
  refine SL 3 rf ?_
  refine ST (C:=(fun w=>K w∧Hs [.ext JS O1] w)) dS.1 (aN.id (L:=ak)) aP (mo f31) rf rf rf rf rf fun xn f34=>?_
  refine SL 5 rf ?_
  have h:=sj h; subst h
  exact k7 [0] rf rf (ra rf (aJ.len _ f34) (rt rf (rt rf rn))) ⟨_,rfl,(mo f34)⟩
def fT (n:Nat) (a0:au) (a1:Int):Option (au × Int):=
 some (a0,a1)
theorem kT {n a0 a1 r K} [bF K] {ct} (f0:(ae).rep K ct a0) (h:fT n a0 a1 = some r):Bw.Fn (α:=Nat × List Value × Nat) Try.prog 50 [A ct, .int .u32 a1] K [] (fun (b0,c0,b1)=>(ae).rep K c0 r.1) (fun (b0,c0,b1)=>.func (.func 70) #[] #[Ptr b0 0,Ptr b1 0]) (fun (b0,c0,b1)=>[.cells b0 41 c0, .cells b1 32 ((LI .u32).enc r.2)]):=by
 unfold fT at h
 refine fo Try.func50 (by kernel_rfl) rfl Try.ntmps50 rfl fun cx _ hro dc hpre=>?_
 refine SC 2 rf ?_
 refine W1 rf (bH rfl) fun b2=>?_
 refine W1 rf (fa (LI .u32) a1 rfl rfl) fun b3=>?_
 refine SL 10 rf ?_
 have h:=sj h; subst h
 exact bW ⟨b2,ct,b3⟩ rfl (.tmp rfl .nil) (mo f0) rfl (ks:=[1,0]) rfl (by decide)
def fD (n:Nat) (a1:au) (a2:Int):Option (List Int):=
 ef (fun PX (j7:Int) =>
 bd (cU n a1 j7) fun kE =>
 cn (((kE.2 != 0) || (kE.1.Up == 0)) == false) (
 yl kE.1.Up <|
 PX kE.1.Up) (
 some [])) n a2
theorem ji {n:Nat} {a1:au} {a2:Int} {l:List Int} {K:World→Prop} [bF K] {q1:Nat} {lH:List Value} (f1:(ae).rep K lH a1) {q2:Nat} (h:fD n a1 a2 = some l):DS Try.prog 70 [Ptr q1 0,Ptr q2 0] [.cells q1 41 lH, .cells q2 32 ((LI .u32).enc a2)] [.cells q1 41 lH] K (fun k=>[.int .u32 (l.getD k default)]) l.length:=by
 unfold fD at h
 refine ⟨fun y J Jx bs=>eR Try.func70 (by kernel_rfl) rfl Try.ntmps70 rfl (fun cx dc hpre hro=>?_)⟩
 haveI:=jI (show cx.bs = bs++bI [.cells q1 41 lH, .cells q2 32 ((LI .u32).enc a2)] from dc) hpre.1
 have hR:DL Try.prog y cx.bs cx.w0 J Jx (fun k=>[.int .u32 (l.getD k default)]) l.length:=by rw [show cx.bs = bs++bI [.cells q1 41 lH, .cells q2 32 ((LI .u32).enc a2)] from dc]; exact hpre.2
 have E4:l.drop 0 = l:=rfl
 have EN:0 ≤ l.length:=Nat.zero_le _
 refine nt ?_
 obtain ⟨Li,IC,h⟩:=ld h
 refine LO (β:=Int × Nat × (List Int) × (List Nat)) [0,1,2] [0,1,2] (fun (Hy,j7,oW,G9,ug)=>[]) (fun (Hy,j7,oW,G9,ug)=>[.ext ug (J oW ug), .cells q1 41 lH, .cells q2 32 ((LI .u32).enc j7)]) (fun (Hy,j7,oW,G9,ug)=>l.drop oW = G9∧oW ≤ l.length∧ef Li Hy j7 = some G9) (n,a2,0,l,bs) ⟨E4,EN,h⟩ rf rf rf ?_
 rintro Hy ⟨j7,oW,G9,ug⟩ ⟨I5,MB,h⟩
 replace h:=k9 IC h; obtain ⟨Hy,rfl,h⟩:=h
 obtain ⟨kE,Ao,h⟩:=bu h
 refine SC 3 rf ?_
 refine ag rfl (aj rfl (aJ.len _ f1)) ?_
 refine ag rfl (bQ (aN.id (L:=(LI .u32))) rfl) ?_
 refine CB (dY (K:=K) (mo f1) Ao) rf rf ?_
 rintro N8 nn v9 ⟨BI,rfl,f47⟩
 replace f47:(ax).rep (fun w=>K w∧Hs [.ext nn v9] w) BI kE.1:=f47
 refine SL 3 rf ?_
 refine W1 rf (bk (hz:=(⟨by kernel_rfl⟩ : bY Try.prog 38 aX))) fun b4=>?_
 refine ST (C:=(fun w=>K w∧Hs [.ext nn v9] w)) kE.1 (aN.id (L:=ax)) bL (mo f47) rf rf rf rf rf fun FN f50=>?_
 refine SL 5 rf ?_
 rcases Bool.eq_false_or_eq_true (((kE.2 != 0) || (kE.1.Up == 0)) == false) with oY | oY
 ·
  replace h:=oH oY h
  obtain ⟨Pq,Mi,h⟩:=BQ h
  obtain ⟨Mz,MM,MP,Mx⟩:=drop_cons (I5.trans Mi)
  refine SC 4 rf ?_
  refine GB rf rf rf (fun hb=>aH rfl) ?_
  refine GB rf rf rf (fun hb=>bG (bT rfl hb) (cF.int f50)) ?_
  refine GB rf rf rf (fun hb=>dM (bT rfl hb) rfl) ?_
  refine ag rfl (dV rfl rfl) ?_
  refine ag rfl (ah rfl) ?_
  refine GB rf rf rf (fun hb=>ah rfl) ?_
  refine GB rf rf rf (fun hb=>aH rfl) ?_
  refine GB rf rf rf (fun hb=>bG (bT rfl hb) (cF.int f50)) ?_
  have hb:=oY; refine J1 (cg rfl rfl) oY rfl (pF (bs:=ug) hR Mz hro (bT rfl hb) (show qw _ _ = some [.int .u32 (l.getD oW default)] by rw [MM]; exact (aU (bT rfl hb) rfl))) (fun ⟨Ji,Js⟩ _=>?_)
  refine GB rf rf rf (fun hb=>eW (bT rfl hb)) ?_
  refine ag rfl (dV rfl rfl) ?_
  refine SL 2 rf ?_
  refine iq rfl (fun hc=>?_) (fun hc=>?_)
  ·
   replace hc:=OE oY hc
   obtain rfl:Ji = false:=by simpa using hc
   dsimp only [cond_true,cond_false]
   refine SC 5 rf ?_
   exact bW (false,Js) rfl .nil trivial rfl (ks:=[2,3]) rfl (by decide)
  ·
   replace hc:=OE oY hc
   obtain rfl:Ji = true:=by simpa using hc
   dsimp only [cond_true,cond_false]
   refine SC 4 rf ?_
   refine ag rfl (bG rfl (cF.int f50)) ?_
   refine W0 (dD (M:=(LI .u32)) (aN.id (L:=(LI .u32))) kE.1.Up kE.1.Up rfl rfl rfl rfl rfl) ?_
   refine SL 2 rf ?_
   exact LN [2,3,4] (kE.1.Up,oW + 1,Pq,Js) ⟨MP,Mx,h⟩ rf rf rf
 ·
  replace h:=oI oY h
  refine SC 4 rf ?_
  refine GB rf rf rf (fun hb=>aH rfl) ?_
  refine GB rf rf rf (fun hb=>bG (bT rfl hb) (cF.int f50)) ?_
  refine GB rf rf rf (fun hb=>dM (bT rfl hb) rfl) ?_
  refine ag rfl (dV rfl rfl) ?_
  refine ag rfl (ah rfl) ?_
  refine GB rf rf rf (fun hb=>ah rfl) ?_
  refine GB rf rf rf (fun hb=>aH rfl) ?_
  refine GB rf rf rf (fun hb=>bG (bT rfl hb) (cF.int f50)) ?_
  refine J2 (v:=.bool true) (cg rfl rfl) oY rfl ?_
  refine GB rf rf rf (fun hb=>eW (bT rfl hb)) ?_
  refine ag rfl (dV rfl rfl) ?_
  refine SL 2 rf ?_
  refine iq rfl (fun _=>?_) (fun hc=>(Jh oY hc).elim)
  refine SC 5 rf ?_
  have h:=sj h; subst h
  have Nu:=drop_nil I5 MB
  refine qF (ks:=[2,3]) (H':=[.ext ug (J (oW) ug), .cells q1 41 lH]) rfl (by decide) ?_
  refine qG (J:=J) (n:=l.length) Nu ?_
  exact bW (true,ug) rfl .nil trivial rfl (ks:=[0,1]) rfl (by decide)
def eD (n:Nat) (a0:au) (a1:Int):Option Int:=
 bd (aY n a0.book.iP a1) fun bp =>
 cn ((!bp)) (
 some 0) (
 bd (fT n a0 a1) fun cB =>
 bd (fD n cB.1 cB.2) fun cR =>
 fG (fun (FE:Int) Cg (bZ:Int) =>
 lt (FE:Int) fun fZ =>
 lt (wr .i64 (bZ + 1):Int) fun gR =>
 Cg gR) (fun (bZ:Int) =>
 some bZ) cR 1)
theorem jr {n a0 a1 r K} [bF K] {ct} (f0:(ae).rep K ct a0) (h:eD n a0 a1 = some r):qM Try.prog 46 [A ct, .int .u32 a1] K (.int .i64 r):=by
 unfold eD at h
 refine fo Try.func46 (by kernel_rfl) rfl Try.ntmps46 rfl fun cx _ hro dc hpre=>?_
 refine SC 2 rf ?_
 refine W1 rf (bH rfl) fun b2=>?_
 obtain ⟨bp,cu,h⟩:=bu h
 refine SL 8 rf ?_
 refine ag rfl (aR rfl (bg.iff.1 ((aQ.c0 aV).get f0)) (bx _ _)) ?_
 refine ag rfl (ah rfl) ?_
 refine CV (bf cu) rf rf ?_
 refine SL 3 rf ?_
 refine eS h rf (fun hc h=>?_) fun hc h=>?_
 ·
  refine SC 7 rf ?_
  have h:=sj h; subst h
  exact RV rf (rt rf rn) rf
 ·
  refine SC 4 rf ?_
  refine W1 rf (cP (L:=(LI .i64)) (z:=0) ⟨by kernel_rfl⟩) fun b5=>?_
  refine W0 (dD (M:=(LI .i64)) (aN.id (L:=(LI .i64))) 1 1 rfl rfl rfl rfl rfl) ?_
  obtain ⟨cB,gE,h⟩:=bu h
  refine SL 5 rf ?_
  refine ag rfl (aj rfl (aJ.len _ f0)) ?_
  refine ag rfl (ah rfl) ?_
  refine cG rfl (eU (kT (K:=K) (mo f0) gE) rfl kn) (fun ⟨JV,JL,QS⟩ f25=>?_)
  replace f25:(ae).rep K JL cB.1:=f25
  dsimp only [List.cons_append,List.nil_append]
  refine SL 3 rf ?_
  obtain ⟨cR,lA,h⟩:=bu h
  obtain ⟨wL,AJ,w8,AQ,h⟩:=rj h
  refine pZ (K:=K) (α:=Int) (β:=Unit) hro rfl (ji (K:=K) (mo f25) lA) (fun _=>rfl) rfl (fun lV=>fun bZ=>fG wL w8 (cR.drop lV) bZ = some r) (fun lV=>fun bZ=>[.cells b5 3 ((LI .i64).enc bZ), .cells b2 41 ct]) (fun _ _=>False) (fun _=>[]) 1 h (ks:=[0,1,2,3]) rfl (by decide) ?_ ?_ ?_
  ·
   rintro lV bZ lo dd rec c' hk h qf tZ oy hsi hT
   replace h:fG wL w8 (cR.drop lV) bZ = some r:=h
   replace h:=rh AJ hk h
   haveI:=m8 (K:=K) hsi
   dsimp only [qp]
   obtain ⟨fZ,oX,h⟩:=cQ h
   rw [← oX]
   refine fV ?_
   refine jW qf oy ?_
   obtain ⟨gR,ng,h⟩:=cQ h
   refine SC 2 rf ?_
   refine ag rfl (bQ (aN.id (L:=(LI .i64))) rfl) ?_
   refine ag rfl (p5 rfl rfl rfl) ?_
   refine W0 (dD (M:=(LI .i64)) (aN.id (L:=(LI .i64))) (wr .i64 (bZ + 1)) gR ng rfl rfl rfl rfl) ?_
   refine SL 2 rf ?_
   exact jt qf tZ hT gR h (ks:=[0,1,2,3]) rfl (by decide)
  ·
   rintro Qz bZ h
   replace h:fG wL w8 (cR.drop cR.length) bZ = some r:=h
   replace h:=ri AQ rfl h
   dsimp only [List.cons_append,List.nil_append]
   refine SX 4 rf ?_
   refine ag rfl (bQ (aN.id (L:=(LI .i64))) rfl) ?_
   refine SL 4 rf ?_
   have h:=sj h; subst h
   exact jJ () rfl (.tmp rfl .nil) trivial rfl (ks:=[]) rfl (by decide)
  ·
   intro dd j i hf; exact hf.elim
def jP (n:Nat) (a0:au) (a1:Int):Option Int:=
 bd (aY n a0.book.iP a1) fun bp =>
 cn ((!bp)) (
 some 0) (
 bd (fT n a0 a1) fun cB =>
 bd (fD n cB.1 cB.2) fun cR =>
 fG (fun (FE:Int) Cg (bZ:Int) =>
 lt (FE:Int) fun fZ =>
 Cg fZ) (fun (bZ:Int) =>
 some bZ) cR a1)
theorem sA {n a0 a1 r K} [bF K] {ct} (f0:(ae).rep K ct a0) (h:jP n a0 a1 = some r):qM Try.prog 45 [A ct, .int .u32 a1] K (.int .u32 r):=by
 unfold jP at h
 refine fo Try.func45 (by kernel_rfl) rfl Try.ntmps45 rfl fun cx _ hro dc hpre=>?_
 refine SC 2 rf ?_
 refine W1 rf (bH rfl) fun b2=>?_
 refine W1 rf (fa (LI .u32) a1 rfl rfl) fun b3=>?_
 obtain ⟨bp,cu,h⟩:=bu h
 refine SL 8 rf ?_
 refine ag rfl (aR rfl (bg.iff.1 ((aQ.c0 aV).get f0)) (bx _ _)) ?_
 refine ag rfl (bQ (aN.id (L:=(LI .u32))) rfl) ?_
 refine CV (bf cu) rf rf ?_
 refine SL 3 rf ?_
 refine eS h rf (fun hc h=>?_) fun hc h=>?_
 ·
  refine SC 7 rf ?_
  have h:=sj h; subst h
  exact RV rf (rt rf rn) rf
 ·
  obtain ⟨cB,gE,h⟩:=bu h
  refine SC 5 rf ?_
  refine ag rfl (aj rfl (aJ.len _ f0)) ?_
  refine ag rfl (bQ (aN.id (L:=(LI .u32))) rfl) ?_
  refine cG rfl (eU (kT (K:=K) (mo f0) gE) rfl kn) (fun ⟨JV,JL,QS⟩ f25=>?_)
  replace f25:(ae).rep K JL cB.1:=f25
  dsimp only [List.cons_append,List.nil_append]
  refine SL 3 rf ?_
  obtain ⟨cR,lA,h⟩:=bu h
  obtain ⟨wL,AJ,w8,AQ,h⟩:=rj h
  refine pZ (K:=K) (α:=Int) (β:=Unit) hro rfl (ji (K:=K) (mo f25) lA) (fun _=>rfl) rfl (fun lV=>fun bZ=>fG wL w8 (cR.drop lV) bZ = some r) (fun lV=>fun bZ=>[.cells b3 32 ((LI .u32).enc bZ), .cells b2 41 ct]) (fun _ _=>False) (fun _=>[]) a1 h (ks:=[0,1,2,3]) rfl (by decide) ?_ ?_ ?_
  ·
   rintro lV bZ lo dd rec c' hk h qf tZ oy hsi hT
   replace h:fG wL w8 (cR.drop lV) bZ = some r:=h
   replace h:=rh AJ hk h
   haveI:=m8 (K:=K) hsi
   dsimp only [qp]
   obtain ⟨fZ,oX,h⟩:=cQ h
   rw [← oX]
   refine SC 3 rf ?_
   refine jW qf oy ?_
   refine SC 3 rf ?_
   refine W0 (dD (M:=(LI .u32)) (aN.id (L:=(LI .u32))) fZ fZ rfl rfl rfl rfl rfl) ?_
   refine SL 2 rf ?_
   exact jt qf tZ hT fZ h (ks:=[0,1,2,3]) rfl (by decide)
  ·
   rintro ND bZ h
   replace h:fG wL w8 (cR.drop cR.length) bZ = some r:=h
   replace h:=ri AQ rfl h
   dsimp only [List.cons_append,List.nil_append]
   refine SX 4 rf ?_
   refine ag rfl (bQ (aN.id (L:=(LI .u32))) rfl) ?_
   refine SL 4 rf ?_
   have h:=sj h; subst h
   exact jJ () rfl (.tmp rfl .nil) trivial rfl (ks:=[]) rfl (by decide)
  ·
   intro dd j i hf; exact hf.elim
def fe (n:Nat) (a0:au) (a1:Int) (a2:Int):Option Bool:=
 bd (aY n a0.book.iP a1) fun bp =>
 cl ((!bp) == false) (aY n a0.book.iP a2) default fun cB =>
 cn (((!bp) || (!cB))) (
 some false) (
 lt ((a1 == a2):Bool) fun kg =>
 bd (fT n a0 a2) fun qa =>
 bd (fD n qa.1 qa.2) fun eH =>
 fG (fun (Ny:Int) yO (fA:Bool) =>
 lt (Ny:Int) fun gR =>
 lt ((fA || (gR == a1)):Bool) fun mh =>
 yO mh) (fun (fA:Bool) =>
 some fA) eH kg)
theorem gX {n a0 a1 a2 r K} [bF K] {ct} (f0:(ae).rep K ct a0) (h:fe n a0 a1 a2 = some r):qM Try.prog 18 [A ct, .int .u32 a1, .int .u32 a2] K (.bool r):=by
 unfold fe at h
 refine fo Try.func18 (by kernel_rfl) rfl Try.ntmps18 rfl fun cx _ hro dc hpre=>?_
 refine SC 2 rf ?_
 refine W1 rf (bH rfl) fun b3=>?_
 refine W1 rf (fa (LI .u32) a1 rfl rfl) fun b4=>?_
 obtain ⟨bp,cu,h⟩:=bu h
 obtain ⟨cB,gE,_,h⟩:=jd h
 refine SL 8 rf ?_
 refine ag rfl (aR rfl (bg.iff.1 ((aQ.c0 aV).get f0)) (bx _ _)) ?_
 refine ag rfl (bQ (aN.id (L:=(LI .u32))) rfl) ?_
 refine CV (bf cu) rf rf ?_
 refine SL 2 rf ?_
 refine GB rf rf rf (fun hb=>aH rfl) ?_
 refine GB rf rf rf (fun hb=>aH (bT rfl hb)) ?_
 refine GB rf rf rf (fun hb=>aR (bT rfl hb) (bg.iff.1 ((aQ.c0 aV).get f0)) (bx _ _)) ?_
 refine GB rf rf rf (fun hb=>ah rfl) ?_
 refine GB rf rf rf (fun hb=>bD (bf (gE hb)) (aU (bT rfl hb) (aU (bT rfl hb) rfl)) (fun _ _ _=>trivial)) ?_
 refine GB rf rf rf (fun hb=>eW (bT rfl hb)) ?_
 refine ag rfl (dV rfl rfl) ?_
 refine SL 2 rf ?_
 refine eS h rf (fun hc h=>?_) fun hc h=>?_
 ·
  refine SC 7 rf ?_
  have h:=sj h; subst h
  exact RV rf (rt rf rn) rf
 ·
  obtain ⟨kg,lB,h⟩:=cQ h
  refine SC 4 rf ?_
  refine ag rfl (bQ (aN.id (L:=(LI .u32))) rfl) ?_
  refine SL 2 rf ?_
  refine W1 rf (cP (L:=LB) (z:=false) ⟨by kernel_rfl⟩) fun b7=>?_
  refine W0 (dD (M:=LB) (aN.id (L:=LB)) (a1 == a2) kg lB rfl rfl rfl rfl) ?_
  obtain ⟨qa,Aq,h⟩:=bu h
  refine SL 5 rf ?_
  refine ag rfl (aj rfl (aJ.len _ f0)) ?_
  refine ag rfl (ah rfl) ?_
  refine cG rfl (eU (kT (K:=K) (mo f0) Aq) rfl kn) (fun ⟨JU,Ba,QO⟩ f27=>?_)
  replace f27:(ae).rep K Ba qa.1:=f27
  dsimp only [List.cons_append,List.nil_append]
  refine SL 3 rf ?_
  obtain ⟨eH,ow,h⟩:=bu h
  obtain ⟨Eu,IN,Fu,IZ,h⟩:=rj h
  refine pZ (K:=K) (α:=Bool) (β:=Unit) hro rfl (ji (K:=K) (mo f27) ow) (fun _=>rfl) rfl (fun oW=>fun fA=>fG Eu Fu (eH.drop oW) fA = some r) (fun oW=>fun fA=>[.cells b7 4 (LB.enc fA), .cells b4 32 ((LI .u32).enc a1), .cells b3 41 ct]) (fun _ _=>False) (fun _=>[]) kg h (ks:=[0,1,2,3,4]) rfl (by decide) ?_ ?_ ?_
  ·
   rintro oW fA lo dd rec c' hk h qf tZ oy hsi hT
   replace h:fG Eu Fu (eH.drop oW) fA = some r:=h
   replace h:=rh IN hk h
   haveI:=m8 (K:=K) hsi
   dsimp only [qp]
   obtain ⟨gR,ng,h⟩:=cQ h
   rw [← ng]
   refine SC 3 rf ?_
   refine jW qf oy ?_
   obtain ⟨mh,sg,h⟩:=cQ h
   refine SC 2 rf ?_
   refine ag rfl (nx (aN.id (L:=LB)) rfl) ?_
   refine ag rfl (ah rfl) ?_
   refine GB rf rf rf (fun hb=>ah rfl) ?_
   refine GB rf rf rf (fun hb=>bQ (aN.id (L:=(LI .u32))) rfl) ?_
   refine GB rf rf rf (fun hb=>dM (bT rfl hb) (bT rfl hb)) ?_
   refine ag rfl (dV rfl rfl) ?_
   refine W0 (dD (M:=LB) (aN.id (L:=LB)) (fA || (gR == a1)) mh sg rfl rfl rfl rfl) ?_
   refine SL 2 rf ?_
   exact jt qf tZ hT mh h (ks:=[0,1,2,3,4]) rfl (by decide)
  ·
   rintro Qy fA h
   replace h:fG Eu Fu (eH.drop eH.length) fA = some r:=h
   replace h:=ri IZ rfl h
   dsimp only [List.cons_append,List.nil_append]
   refine SX 4 rf ?_
   refine ag rfl (nx (aN.id (L:=LB)) rfl) ?_
   refine SL 4 rf ?_
   have h:=sj h; subst h
   exact jJ () rfl (.tmp rfl .nil) trivial rfl (ks:=[]) rfl (by decide)
  ·
   intro dd j i hf; exact hf.elim
def ia (n:Nat) (a0:au) (a1:Int) (a2:Int):Option (au × Int × Int):=
 bd (eI n a0 a1 a2) fun bp =>
 cl (((bp.2.2 == 0) || (bp.2.2 == 7)) == true) (eD n a0 a1) default fun bZ =>
 cn ((((bp.2.2 == 0) || (bp.2.2 == 7)) && decide (6 ≤ bZ))) (
 some (a0,0,8)) (
 some (bp.1,bp.2.1,bp.2.2))
theorem ku {n a0 a1 a2 r K} [bF K] {ct} (f0:(ae).rep K ct a0) (h:ia n a0 a1 a2 = some r):p9 Try.prog 16 [A ct, .int .u32 a1, .int .i64 a2] K (fun J v=>∃u0,v = (.tuple #[A u0, .int .u32 r.2.1, .int .i64 r.2.2])∧(ae).rep (fun w=>K w∧J w) u0 (r.1)):=by
 unfold ia at h
 refine fo Try.func16 (by kernel_rfl) rfl Try.ntmps16 rfl fun cx _ hro dc hpre=>?_
 refine SC 2 rf ?_
 refine W1 rf (bH rfl) fun b3=>?_
 refine W1 rf (bk (hz:=(⟨by kernel_rfl⟩ : bY Try.prog 41 av))) fun b6=>?_
 obtain ⟨bp,cu,h⟩:=bu h
 refine SL 6 rf ?_
 refine ag rfl (aj rfl (aJ.len _ f0)) ?_
 refine SL 2 rf ?_
 refine CB (pb (K:=K) (mo f0) cu) rf rf ?_
 rintro wu cY gC ⟨pz,rfl,f26⟩
 replace f26:(ae).rep (fun w=>K w∧Hs [.ext cY gC] w) pz bp.1:=f26
 refine SL 4 rf ?_
 refine W1 rf (bk (hz:=(⟨by kernel_rfl⟩ : bY Try.prog 41 av))) fun b9=>?_
 refine ST (C:=(fun w=>K w∧Hs [.ext cY gC] w)) bp.1 (aN.id (L:=ae)) aD (mo f26) rf rf rf rf rf fun qx f29=>?_
 obtain ⟨bZ,qu,_,h⟩:=jd h
 refine SL 10 rf ?_
 refine GB rf rf rf (fun hb=>ah rfl) ?_
 refine GB rf rf rf (fun hb=>dM (bT rfl hb) rfl) ?_
 refine ag rfl (dV rfl rfl) ?_
 refine ag rfl (ah rfl) ?_
 refine GB rf rf rf (fun hb=>aj rfl (aJ.len _ f0)) ?_
 refine GB rf rf rf (fun hb=>ah rfl) ?_
 refine GB rf rf rf (fun hb=>bD (jr (K:=K) (mo f0) (qu hb)) (aU (bT rfl hb) (aU (bT rfl hb) rfl)) kn) ?_
 refine GB rf rf rf (fun hb=>lF (bT rfl hb) rfl) ?_
 refine ag rfl (cM rfl rfl) ?_
 refine SL 2 rf ?_
 refine eS h rf (fun hc h=>?_) fun hc h=>?_
 ·
  refine SC 2 rf ?_
  refine ag rfl (aj rfl (aJ.len _ f0)) ?_
  refine ST (C:=K) a0 (aN.id (L:=ae)) aD (mo f0) rf rf rf rf rf fun Gy f32=>?_
  refine SL 6 rf ?_
  have h:=sj h; subst h
  exact k7 [] rf rf (ra rf (aJ.len _ f32) (rt rf (rt rf rn))) ⟨_,rfl,(mo f32)⟩
 ·
  refine SC 4 rf ?_
  refine ag rfl (aj rfl (aJ.len _ f29)) ?_
  refine SL 2 rf ?_
  refine ST (C:=(fun w=>K w∧Hs [.ext cY gC] w)) bp.1 (aN.id (L:=ae)) aD (mo f29) rf rf rf rf rf fun BJ f35=>?_
  refine SL 5 rf ?_
  have h:=sj h; subst h
  exact k7 [1] rf rf (ra rf (aJ.len _ f35) (rt rf (rt rf rn))) ⟨_,rfl,(mo f35)⟩
def fm (n:Nat) (a0:Int) (a1:au) (a2:Int):Option Bool:=
 bd (cU n a1 a0) fun bp =>
 some (bp.1.Up != a2)
theorem mO {n a0 a1 a2 r K} [bF K] {q1 lH} (f1:(ae).rep K lH a1) {q2:Nat} (h:fm n a0 a1 a2 = some r):Bw.Fn (α:=Unit) Try.prog 78 [.int .u32 a0,Ptr q1 0,Ptr q2 0] (Bx (bI [.cells q1 41 lH, .cells q2 32 ((LI .u32).enc a2)]) K) [.cells q1 41 lH, .cells q2 32 ((LI .u32).enc a2)] (fun _=>True) (fun _=>(.bool r)) (fun _=>[.cells q1 41 lH, .cells q2 32 ((LI .u32).enc a2)]):=by
 unfold fm at h
 refine eR Try.func78 (by kernel_rfl) rfl Try.ntmps78 rfl (fun cx dc hpre hro=>?_)
 haveI:=jI dc hpre
 obtain ⟨bp,cu,h⟩:=bu h
 refine SC 7 rf ?_
 refine ag rfl (aj rfl (aJ.len _ f1)) ?_
 refine ag rfl (ah rfl) ?_
 refine CB (dY (K:=K) (mo f1) cu) rf rf ?_
 rintro wu cY gC ⟨pz,rfl,f26⟩
 replace f26:(ax).rep (fun w=>K w∧Hs [.ext cY gC] w) pz bp.1:=f26
 refine SL 3 rf ?_
 refine W1 rf (bk (hz:=(⟨by kernel_rfl⟩ : bY Try.prog 38 aX))) fun b5=>?_
 refine ST (C:=(fun w=>K w∧Hs [.ext cY gC] w)) bp.1 (aN.id (L:=ax)) bL (mo f26) rf rf rf rf rf fun qx f29=>?_
 refine SL 6 rf ?_
 refine ag rfl (bG rfl (cF.int f29)) ?_
 refine ag rfl (bQ (aN.id (L:=(LI .u32))) rfl) ?_
 refine SL 5 rf ?_
 have h:=sj h; subst h
 exact bW () rfl (.tmp rfl .nil) trivial rfl (ks:=[2,3]) rfl (by decide)
def cS (n:Nat) (a0:(List Int)) (mV:au) (kx:Int):Option Int:=
 ef (fun wK (cB:Int) =>
 cn (decide (cB < (a0.length:Int))) (
 gu (dU cB a0.length) <|
 bd (fm n (a0.getD (Int.toNat cB) default) mV kx) fun cR =>
 cn (cR) (
 some cB) (
 wK (wr .i64 (cB + 1)))) (
 some (-1))) n 0
theorem ig {n a0 mV kx r K} [bF K] {v0} (f0:Fz K v0 (LI .u32) a0) {lQ:Nat} {lg:List Value} (CI:(ae).rep K lg mV) {lP:Nat} (h:cS n a0 mV kx = some r):Bw.Fn (α:=Unit) Try.prog 84 [v0, .func (.func 78) #[] #[Ptr lQ 0,Ptr lP 0]] (Bx (bI [.cells lQ 41 lg, .cells lP 32 ((LI .u32).enc kx)]) K) [.cells lQ 41 lg, .cells lP 32 ((LI .u32).enc kx)] (fun _=>True) (fun _=>(.int .i64 r)) (fun _=>[.cells lQ 41 lg, .cells lP 32 ((LI .u32).enc kx)]):=by
 unfold cS at h
 refine eR Try.func84 (by kernel_rfl) rfl Try.ntmps84 rfl (fun cx dc hpre hro=>?_)
 haveI:=jI dc hpre
 refine SC 9 rf ?_
 refine ag rfl (dH f0 rfl) ?_
 refine SL 4 rf ?_
 obtain ⟨q8,ni,h⟩:=ld h
 refine LO (β:=Int) [0,1,7] [0,1] (fun (m7,cB)=>[(8, .int .i64 cB)]) (fun (m7,cB)=>[.cells lQ 41 lg, .cells lP 32 ((LI .u32).enc kx)]) (fun (m7,cB)=>ef q8 m7 cB = some r) (n,0) h rf rf rf ?_
 rintro m7 cB h
 replace h:=k9 ni h; obtain ⟨m7,rfl,h⟩:=h
 refine SC 6 rf ?_
 refine eS h rf (fun hc h=>?_) fun hc h=>?_
 ·
  obtain ⟨mS,h⟩:=cD h
  obtain ⟨cR,lA,h⟩:=bu h
  refine SC 15 rf ?_
  refine ag rfl (dL (m:=(Int.toNat cB)) f0 rfl rfl rfl (ay mS).1 (ay mS).2) ?_
  refine ag rfl (dJ f0 (aN.idx (L:=(LI .u32)) (m:=(a0.length)) (k:=1) ((Int.toNat cB)) (ay mS).2 rfl) rfl) ?_
  refine cG rfl (jY (K:=K) (oh:=[.cells lQ 41 lg, .cells lP 32 ((LI .u32).enc kx)]) (rest:=[]) (ks:=[0,1]) (mO (K:=K) (mo CI) lA) rfl rfl rfl rfl (by decide)) (fun _ _=>?_)
  dsimp only [List.cons_append,List.nil_append]
  refine SL 2 rf ?_
  refine eS h rf (fun hc h=>?_) fun hc h=>?_
  ·
   refine SC 12 rf ?_
   have h:=sj h; subst h
   exact bW () rfl (.tmp rfl .nil) trivial rfl (ks:=[0,1]) rfl (by decide)
  ·
   refine SC 7 rf ?_
   exact LN [0,1] (wr .i64 (cB + 1)) h rf rf rf
 ·
  refine SC 11 rf ?_
  have h:=sj h; subst h
  exact bW () rfl (.tmp rfl .nil) trivial rfl (ks:=[0,1]) rfl (by decide)
def cO (n:Nat) (a0:(List Int)) (mV:au) (kx:Int):Option (List Int):=
 bd (cS n a0 mV kx) fun bp =>
 cn ((bp == (-1))) (
 some a0) (
 j9 (fun HJ (eN:(List Int)) (bZ:Int) (gV:Int) =>
 cn (decide (gV < (eN.length:Int))) (
 gu (dU gV eN.length) <|
 bd (fm n (eN.getD (Int.toNat gV) default) mV kx) fun gi =>
 cn ((!gi)) (
 gu (dU bZ eN.length) <|
 lt ((eN.set (Int.toNat bZ) (eN.getD (Int.toNat gV) default)):List Int) fun fO =>
 HJ fO (wr .i64 (bZ + 1)) (wr .i64 (gV + 1))) (
 HJ eN bZ (wr .i64 (gV + 1)))) (
 gu (dU bZ (eN.length + 1)) <|
 lt (eN.take (Int.toNat bZ)++List.replicate (eN.length - (Int.toNat bZ)) 0:List Int) fun ez =>
 gu (dU bZ (ez.length + 1)) <|
 lt (ez.take (Int.toNat bZ):List Int) fun wc =>
 some wc)) n a0 bp (wr .i64 (bp + 1)))
theorem gZ {n a0 mV kx r K} [bF K] {v0} (f0:kf v0 a0.length) {lQ:Nat} {lg:List Value} (CI:(ae).rep K lg mV) {lP:Nat} (h:cO n a0 mV kx = some r):Bw.Fn (α:=Value) Try.prog 77 [v0, .func (.func 78) #[] #[Ptr lQ 0,Ptr lP 0]] (Bx (bI [Row v0 32 1 (LI .u32) a0, .cells lQ 41 lg, .cells lP 32 ((LI .u32).enc kx)]) K) [Row v0 32 1 (LI .u32) a0, .cells lQ 41 lg, .cells lP 32 ((LI .u32).enc kx)] (fun v=>kf v r.length) (fun v=>v) (fun v=>[Row v 32 1 (LI .u32) r, .cells lQ 41 lg, .cells lP 32 ((LI .u32).enc kx)]):=by
 unfold cO at h
 refine eR Try.func77 (by kernel_rfl) rfl Try.ntmps77 rfl (fun cx dc hpre hro=>?_)
 haveI:=jI dc hpre
 obtain ⟨bp,cu,h⟩:=bu h
 refine SC 9 rf ?_
 refine cG rfl (jY (K:=(fun w=>K w∧Hs [Row v0 32 1 (LI .u32) a0] w)) (oh:=[.cells lQ 41 lg, .cells lP 32 ((LI .u32).enc kx)]) (rest:=[Row v0 32 1 (LI .u32) a0]) (ks:=[1,2,0]) (ig (K:=(fun w=>K w∧Hs [Row v0 32 1 (LI .u32) a0] w)) ((Fz.row (e:=32) (sz:=1) (L:=(LI .u32)) (xs:=a0) rfl f0).mono dk) (mo CI) cu) rfl rfl rfl rfl (by decide)) (fun _ _=>?_)
 dsimp only [List.cons_append,List.nil_append]
 refine SL 10 rf ?_
 refine eS h rf (fun hc h=>?_) fun hc h=>?_
 ·
  refine SC 8 rf ?_
  have h:=sj h; subst h
  exact bW v0 rfl (.tmp rfl .nil) f0 rfl (ks:=[2,0,1]) rfl (by decide)
 ·
  refine SC 11 rf ?_
  obtain ⟨Lk,IE,h⟩:=xV h
  refine LO (β:=(List Int) × Int × Int) [1] [0,1,2] (fun (HA,eN,bZ,gV)=>[(0,v0),(5, .int .i64 bZ),(6, .int .i64 gV)]) (fun (HA,eN,bZ,gV)=>[.cells lQ 41 lg, .cells lP 32 ((LI .u32).enc kx),Row v0 32 1 (LI .u32) eN]) (fun (HA,eN,bZ,gV)=>kf v0 eN.length∧j9 Lk HA eN bZ gV = some r) (n,a0,bp,wr .i64 (bp + 1)) ⟨f0,h⟩ rf rf rf ?_
  rintro HA ⟨eN,bZ,gV⟩ ⟨nO,h⟩
  replace h:=xU IE h; obtain ⟨HA,rfl,h⟩:=h
  refine SC 5 rf ?_
  refine ag rfl (dH (Fz.row (e:=32) (sz:=1) (L:=(LI .u32)) (xs:=eN) rfl nO) rfl) ?_
  refine SL 3 rf ?_
  refine eS h rf (fun hc h=>?_) fun hc h=>?_
  ·
   obtain ⟨jN,h⟩:=cD h
   refine SC 8 rf ?_
   refine ag rfl (dL (m:=(Int.toNat gV)) (Fz.row (e:=32) (sz:=1) (L:=(LI .u32)) (xs:=eN) rfl nO) rfl rfl rfl (ay jN).1 (ay jN).2) ?_
   refine ag rfl (dJ (Fz.row (e:=32) (sz:=1) (L:=(LI .u32)) (xs:=eN) rfl nO) (aN.idx (L:=(LI .u32)) (m:=(eN.length)) (k:=1) ((Int.toNat gV)) (ay jN).2 rfl) rfl) ?_
   obtain ⟨gi,j4,h⟩:=bu h
   refine SL 7 rf ?_
   refine cG rfl (jY (K:=K) (oh:=[.cells lQ 41 lg, .cells lP 32 ((LI .u32).enc kx)]) (rest:=[Row v0 32 1 (LI .u32) eN]) (ks:=[0,1,2]) (mO (K:=K) (mo CI) j4) rfl rfl rfl rfl (by decide)) (fun _ _=>?_)
   dsimp only [List.cons_append,List.nil_append]
   refine SL 3 rf ?_
   refine eS h rf (fun hc h=>?_) fun hc h=>?_
   ·
    obtain ⟨pS,h⟩:=cD h
    obtain ⟨fO,vq,h⟩:=cQ h
    refine SC 5 rf ?_
    refine ag rfl (dL (m:=(Int.toNat bZ)) (Fz.row (e:=32) (sz:=1) (L:=(LI .u32)) (xs:=eN) rfl nO) rfl rfl rfl (ay pS).1 (ay pS).2) ?_
    refine W0 (xB (sz:=1) (M:=(LI .u32)) (Int.toNat bZ) (aN.idx (L:=(LI .u32)) (m:=(eN.length)) (k:=1) ((Int.toNat bZ)) (ay pS).2 rfl) (eN.getD (Int.toNat gV) default) fO vq rfl rfl rfl rfl (ay pS).2 rfl rfl) ?_
    have Cv:kf v0 fO.length:=by rw [vq,List.length_set]; exact nO
    refine SL 14 rf ?_
    exact LN [0,1,2] (fO,wr .i64 (bZ + 1),wr .i64 (gV + 1)) ⟨Cv,h⟩ rf rf rf
   ·
    refine SC 8 rf ?_
    exact LN [0,1,2] (eN,bZ,wr .i64 (gV + 1)) ⟨nO,h⟩ rf rf rf
  ·
   obtain ⟨mR,h⟩:=cD h
   obtain ⟨ez,vp,h⟩:=cQ h
   refine SC 9 rf ?_
   refine ag rfl (zc (l:=(Int.toNat bZ)) (Fz.row (e:=32) (sz:=1) (L:=(LI .u32)) (xs:=eN) rfl nO) rfl rfl (ay mR).1 (Nat.lt_succ_iff.1 (ay mR).2)) ?_
   refine fq (zh (L:=(LI .u32)) (z0:=0) (e:=32) (by kernel_rfl) ⟨by kernel_rfl⟩ rfl rfl rfl rfl (Nat.lt_succ_iff.1 (ay mR).2) rfl vp) (fun _ _=>?_)
   have Ik:kf v0 ez.length:=by rw [vp,List.length_append,List.length_take,List.length_replicate,Nat.min_eq_left (Nat.lt_succ_iff.1 (ay mR).2),Nat.add_sub_cancel' (Nat.lt_succ_iff.1 (ay mR).2)]; exact nO
   obtain ⟨su,h⟩:=cD h
   obtain ⟨wc,HX,h⟩:=cQ h
   refine SL 6 rf ?_
   refine cG rfl (tB (e:=32) (sz:=1) (L:=(LI .u32)) Ik rfl rfl rfl (ay su).1 (Nat.lt_succ_iff.1 (ay su).2)) (fun _ _=>?_)
   have Cu:kf (jA 0 (Int.toNat bZ) 1 v0) wc.length:=by rw [HX,List.length_take,Nat.min_eq_left (Nat.lt_succ_iff.1 (ay su).2)]; exact ye Ik
   rw [← HX]
   refine SL 4 rf ?_
   have h:=sj h; subst h
   exact bW (jA 0 (Int.toNat bZ) 1 v0) rfl (.tmp rfl .nil) Cu rfl (ks:=[2,0,1]) rfl (by decide)
def jQ (n:Nat) (a0:au) (a1:Int):Option (List Int):=
 bd (aY n a0.book.iP a1) fun bp =>
 cn ((!bp)) (
 some ([]:List Int)) (
 bd (gj n a0.book) fun kg =>
 bd (cO n kg a0 a1) fun cR =>
 some cR)
theorem sB {n a0 a1 r K} [bF K] {ct} (f0:(ae).rep K ct a0) (h:jQ n a0 a1 = some r):Bw.Fn (α:=Value) Try.prog 66 [A ct, .int .u32 a1] K [] (fun v=>kf v r.length) (fun v=>v) (fun v=>[Row v 32 1 (LI .u32) r]):=by
 unfold jQ at h
 refine fo Try.func66 (by kernel_rfl) rfl Try.ntmps66 rfl fun cx _ hro dc hpre=>?_
 refine SC 2 rf ?_
 refine W1 rf (bH rfl) fun b2=>?_
 refine W1 rf (fa (LI .u32) a1 rfl rfl) fun b3=>?_
 obtain ⟨bp,cu,h⟩:=bu h
 refine SL 8 rf ?_
 refine ag rfl (aR rfl (bg.iff.1 ((aQ.c0 aV).get f0)) (bx _ _)) ?_
 refine ag rfl (bQ (aN.id (L:=(LI .u32))) rfl) ?_
 refine CV (bf cu) rf rf ?_
 refine SL 3 rf ?_
 refine eS h rf (fun hc h=>?_) fun hc h=>?_
 ·
  refine SC 7 rf ?_
  refine x9 32 1 (LI .u32) ?_
  have h:=sj h; subst h
  exact bW (.slice none 0 0) rfl (.tmp rfl .nil) ⟨_,_,rfl⟩ rfl (ks:=[0]) rfl (by decide)
 ·
  obtain ⟨kg,lB,h⟩:=bu h
  obtain ⟨cR,lA,h⟩:=bu h
  refine SC 5 rf ?_
  refine ag rfl (aR rfl (bg.iff.1 (aQ.get f0)) (bx _ _)) ?_
  refine cG rfl (eU (l5 lB) rfl (fun _ _ _=>trivial)) (fun Pm Mg=>?_)
  dsimp only [List.cons_append,List.nil_append]
  refine ag rfl (qn rfl) ?_
  refine cG rfl (jY (K:=K) (oh:=[Row Pm 32 1 (LI .u32) kg, .cells b2 41 ct, .cells b3 32 ((LI .u32).enc a1)]) (rest:=[]) (ks:=[0,2,1]) (gZ (K:=K) Mg (mo f0) lA) rfl rfl rfl rfl (by decide)) (fun tI nO=>?_)
  dsimp only [List.cons_append,List.nil_append]
  refine SL 4 rf ?_
  have h:=sj h; subst h
  exact bW tI rfl (.tmp rfl .nil) nO rfl (ks:=[0]) rfl (by decide)
def fS (n:Nat) (a0:au) (a1:Int):Option (Int × au):=
 some (a1,a0)
theorem kS {n a0 a1 r K} [bF K] {ct} (f0:(ae).rep K ct a0) (h:fS n a0 a1 = some r):Bw.Fn (α:=Nat × Nat × List Value) Try.prog 43 [A ct, .int .u32 a1] K [] (fun (b0,b1,c1)=>(ae).rep K c1 r.2) (fun (b0,b1,c1)=>.func (.func 65) #[] #[Ptr b0 0,Ptr b1 0]) (fun (b0,b1,c1)=>[.cells b0 32 ((LI .u32).enc r.1), .cells b1 41 c1]):=by
 unfold fS at h
 refine fo Try.func43 (by kernel_rfl) rfl Try.ntmps43 rfl fun cx _ hro dc hpre=>?_
 refine SC 2 rf ?_
 refine W1 rf (bH rfl) fun b2=>?_
 refine W1 rf (fa (LI .u32) a1 rfl rfl) fun b3=>?_
 refine SL 10 rf ?_
 have h:=sj h; subst h
 exact bW ⟨b3,b2,ct⟩ rfl (.tmp rfl .nil) (mo f0) rfl (ks:=[0,1]) rfl (by decide)
def fg (n:Nat) (a0:(List Int)):Option (List Int):=
 j9 (fun yO (cR:(List Int)) (eH:Int) (bZ:Int) =>
 cn (decide (eH < bZ)) (
 gu (dU bZ cR.length) <|
 gu (dU eH cR.length) <|
 gu (dU eH cR.length) <|
 lt ((cR.set (Int.toNat eH) (cR.getD (Int.toNat bZ) default)):List Int) fun gR =>
 gu (dU bZ gR.length) <|
 lt ((gR.set (Int.toNat bZ) (cR.getD (Int.toNat eH) default)):List Int) fun jF =>
 yO jF (wr .i64 (eH + 1)) (wr .i64 (bZ - 1))) (
 some cR)) n a0 0 (wr .i64 ((a0.length:Int) - 1))
theorem mT {n a0 r v0} (f0:kf v0 a0.length) (h:fg n a0 = some r):Bw.Fn (α:=Value) Try.prog 67 [v0] (Bx (bI [Row v0 32 1 (LI .u32) a0]) (fun _=>True)) [Row v0 32 1 (LI .u32) a0] (fun v=>v = v0∧kf v r.length) (fun v=>.tuple #[]) (fun v=>[Row v 32 1 (LI .u32) r]):=by
 unfold fg at h
 refine eR Try.func67 (by kernel_rfl) rfl Try.ntmps67 rfl (fun cx dc hpre hro=>?_)
 refine SC 3 rf ?_
 refine ag rfl (dH (Fz.row (e:=32) (sz:=1) (L:=(LI .u32)) (xs:=a0) rfl f0) rfl) ?_
 refine SL 6 rf ?_
 obtain ⟨wJ,rA,h⟩:=xV h
 refine LO (β:=(List Int) × Int × Int) [] [0] (fun (m32,cR,eH,bZ)=>[(0,v0),(2, .int .i64 eH),(3, .int .i64 bZ)]) (fun (m32,cR,eH,bZ)=>[Row v0 32 1 (LI .u32) cR]) (fun (m32,cR,eH,bZ)=>kf v0 cR.length∧j9 wJ m32 cR eH bZ = some r) (n,a0,0,wr .i64 ((a0.length:Int) - 1)) ⟨f0,h⟩ rf rf rf ?_
 rintro m32 ⟨cR,eH,bZ⟩ ⟨mA,h⟩
 replace h:=xU rA h; obtain ⟨m32,rfl,h⟩:=h
 refine SC 8 rf ?_
 refine eS h rf (fun hc h=>?_) fun hc h=>?_
 ·
  refine SC 4 rf ?_
  obtain ⟨lC,h⟩:=cD h
  obtain ⟨jN,h⟩:=cD h
  obtain ⟨lY,h⟩:=cD h
  obtain ⟨gR,ng,h⟩:=cQ h
  obtain ⟨jk,h⟩:=cD h
  obtain ⟨jF,qt,h⟩:=cQ h
  refine dy mixed (.iH [] [(0,[0]),(1,[2]),(2,[0]),(3,[3]),(4,[0]),(5,[3]),(6,[18,19]),(7,[20]),(8,[0]),(9,[2]),(10,[22,23]),(11,[24]),(12,[14,15])] (.alt 13 [21,26] (.iH [(2,[0]),(3,[3])] [(14,[16,17])] (.alt 15 [25,27] (.fin [] []) .no)) .no)) (by kernel_rfl) ?_
  refine T0 ?_
  refine NS 6 rf ?_
  refine NV rf rf (dL (m:=(Int.toNat bZ)) (Fz.row (e:=32) (sz:=1) (L:=(LI .u32)) (xs:=cR) rfl mA) rfl rfl rfl (ay lC).1 (ay lC).2) ?_
  refine NV rf rf (dJ (Fz.row (e:=32) (sz:=1) (L:=(LI .u32)) (xs:=cR) rfl mA) (aN.idx (L:=(LI .u32)) (m:=(cR.length)) (k:=1) ((Int.toNat bZ)) (ay lC).2 rfl) rfl) ?_
  refine NS 2 rf ?_
  refine NV rf rf (dL (m:=(Int.toNat eH)) (Fz.row (e:=32) (sz:=1) (L:=(LI .u32)) (xs:=cR) rfl mA) rfl rfl rfl (ay jN).1 (ay jN).2) ?_
  refine NV rf rf (dJ (Fz.row (e:=32) (sz:=1) (L:=(LI .u32)) (xs:=cR) rfl mA) (aN.idx (L:=(LI .u32)) (m:=(cR.length)) (k:=1) ((Int.toNat eH)) (ay jN).2 rfl) rfl) ?_
  refine NV rf rf (dL (m:=(Int.toNat eH)) (Fz.row (e:=32) (sz:=1) (L:=(LI .u32)) (xs:=cR) rfl mA) rfl rfl rfl (ay lY).1 (ay lY).2) ?_
  refine bA ?_
  refine X0 rf (xB (sz:=1) (M:=(LI .u32)) (Int.toNat eH) (aN.idx (L:=(LI .u32)) (m:=(cR.length)) (k:=1) ((Int.toNat eH)) (ay lY).2 rfl) (cR.getD (Int.toNat bZ) default) gR ng rfl rfl rfl rfl (ay lY).2 rfl rfl) ?_
  have so:kf v0 gR.length:=by rw [ng,List.length_set]; exact mA
  refine eA ?_ ?_
  ·
   exact RE 2 rf rf
  refine NV rf rf (dL (m:=(Int.toNat bZ)) (Fz.row (e:=32) (sz:=1) (L:=(LI .u32)) (xs:=gR) rfl so) rfl rfl rfl (ay jk).1 (ay jk).2) ?_
  refine bA ?_
  refine X0 rf (xB (sz:=1) (M:=(LI .u32)) (Int.toNat bZ) (aN.idx (L:=(LI .u32)) (m:=(gR.length)) (k:=1) ((Int.toNat bZ)) (ay jk).2 rfl) (cR.getD (Int.toNat eH) default) jF qt rfl rfl rfl rfl (ay jk).2 rfl rfl) ?_
  have Me:kf v0 jF.length:=by rw [qt,List.length_set]; exact so
  refine rT ?_
  refine SX 10 rf ?_
  exact LN [0] (jF,wr .i64 (eH + 1),wr .i64 (bZ - 1)) ⟨Me,h⟩ rf rf rf
 ·
  refine SC 4 rf ?_
  have h:=sj h; subst h
  exact rN v0 rfl .nil ⟨rfl,mA⟩ rfl (ks:=[0]) rfl (by decide)
def fC (n:Nat) (a1:Int) (a2:au):Option (List Int):=
 ef (fun HI (bZ:(List Int)) =>
 cn (decide (0 < (bZ.length:Int))) (
 gu (dU (wr .i64 ((bZ.length:Int) - 1)) bZ.length) <|
 yl (bZ.getD (Int.toNat (wr .i64 ((bZ.length:Int) - 1))) default) <|
 bd (jQ n a2 (bZ.getD (Int.toNat (wr .i64 ((bZ.length:Int) - 1))) default)) fun mW =>
 bd (fg n mW) fun oo =>
 gu (dU (wr .i64 ((bZ.length:Int) - 1)) (bZ.length + 1)) <|
 lt (bZ.take (Int.toNat (wr .i64 ((bZ.length:Int) - 1))):List Int) fun uV =>
 gu (lE uV.length oo.length 4) <|
 lt (uV++oo:List Int) fun tF =>
 HI tF) (
 some [])) n ([a1]:List Int)
theorem jh {n:Nat} {a1:Int} {a2:au} {l:List Int} {K:World→Prop} [bF K] {q1:Nat} {q2:Nat} {uT:List Value} (f2:(ae).rep K uT a2) (h:fC n a1 a2 = some l):yq Try.prog 65 [Ptr q1 0,Ptr q2 0] [.cells q1 32 ((LI .u32).enc a1), .cells q2 41 uT] K (fun k=>[.int .u32 (l.getD k default)]) l.length:=by
 unfold fC at h
 refine ⟨fun y J Jx bs=>eR Try.func65 (by kernel_rfl) rfl Try.ntmps65 rfl (fun cx dc hpre hro=>?_)⟩
 haveI:=jI (show cx.bs = bs++bI [.cells q1 32 ((LI .u32).enc a1), .cells q2 41 uT] from dc) hpre.1
 have hR:DL Try.prog y cx.bs cx.w0 J Jx (fun k=>[.int .u32 (l.getD k default)]) l.length:=by rw [show cx.bs = bs++bI [.cells q1 32 ((LI .u32).enc a1), .cells q2 41 uT] from dc]; exact hpre.2
 have E4:l.drop 0 = l:=rfl
 have EN:0 ≤ l.length:=Nat.zero_le _
 refine SC 2 rf ?_
 refine ag rfl (bQ (aN.id (L:=(LI .u32))) rfl) ?_
 refine cG rfl (yf (LI .u32) a1 rfl rfl rfl rfl (by decide) (by decide)) (fun b8 _=>?_)
 refine SL 4 rf ?_
 obtain ⟨Em,AF,h⟩:=ld h
 refine LO (β:=(List Int) × Value × Nat × (List Int) × (List Nat)) [0,2] [0,1,2,3] (fun (Ae,bZ,Dk,se,He,uh)=>[(4,Dk)]) (fun (Ae,bZ,Dk,se,He,uh)=>[Row Dk 32 1 (LI .u32) bZ, .ext uh (J se uh), .cells q1 32 ((LI .u32).enc a1), .cells q2 41 uT]) (fun (Ae,bZ,Dk,se,He,uh)=>kf Dk bZ.length∧l.drop se = He∧se ≤ l.length∧ef Em Ae bZ = some He) (n,([a1]:List Int), .slice (some ⟨b8,0,none⟩) 1 1,0,l,bs) ⟨⟨_,_,rfl⟩,E4,EN,h⟩ rf rf rf ?_
 rintro Ae ⟨bZ,Dk,se,He,uh⟩ ⟨wP,I6,MC,h⟩
 replace h:=k9 AF h; obtain ⟨Ae,rfl,h⟩:=h
 refine SC 4 rf ?_
 refine ag rfl (dH (Fz.row (e:=32) (sz:=1) (L:=(LI .u32)) (xs:=bZ) rfl wP) rfl) ?_
 refine SL 3 rf ?_
 refine eS h rf (fun hc h=>?_) fun hc h=>?_
 ·
  obtain ⟨rC,h⟩:=cD h
  refine SC 7 rf ?_
  refine ag rfl (dH (Fz.row (e:=32) (sz:=1) (L:=(LI .u32)) (xs:=bZ) rfl wP) rfl) ?_
  refine ag rfl (oR rfl rfl rfl) ?_
  refine ag rfl (dL (m:=(Int.toNat (wr .i64 ((bZ.length:Int) - 1)))) (Fz.row (e:=32) (sz:=1) (L:=(LI .u32)) (xs:=bZ) rfl wP) rfl rfl rfl (ay rC).1 (ay rC).2) ?_
  refine ag rfl (dJ (Fz.row (e:=32) (sz:=1) (L:=(LI .u32)) (xs:=bZ) rfl wP) (aN.idx (L:=(LI .u32)) (m:=(bZ.length)) (k:=1) ((Int.toNat (wr .i64 ((bZ.length:Int) - 1)))) (ay rC).2 rfl) rfl) ?_
  refine SL 5 rf ?_
  obtain ⟨KZ,EH,h⟩:=BQ h
  obtain ⟨EM,EW,E3,EL⟩:=drop_cons (I6.trans EH)
  refine SC 3 rf ?_
  refine cG rfl (pF (bs:=uh) hR EM hro rfl (show qw _ _ = some [.int .u32 (l.getD se default)] by rw [EW]; rfl)) (fun ⟨AZ,xb⟩ _=>?_)
  refine SL 3 rf ?_
  refine iq rfl (fun hc=>?_) (fun hc=>?_)
  ·
   obtain rfl:AZ = false:=by simpa using hc
   dsimp only [cond_true,cond_false]
   refine SC 5 rf ?_
   exact bW (false,xb) rfl .nil trivial rfl (ks:=[1,2,3]) rfl (by decide)
  ·
   obtain rfl:AZ = true:=by simpa using hc
   dsimp only [cond_true,cond_false]
   obtain ⟨mW,LX,h⟩:=bu h
   refine SC 4 rf ?_
   refine ag rfl (aj rfl (aJ.len _ f2)) ?_
   refine ag rfl (ah rfl) ?_
   refine cG rfl (eU (sB (K:=K) (mo f2) LX) rfl kn) (fun D0 Ii=>?_)
   dsimp only [List.cons_append,List.nil_append]
   obtain ⟨oo,wN,h⟩:=bu h
   refine SL 6 rf ?_
   refine cG rfl (jY (K:=(fun _=>True)) (oh:=[Row D0 32 1 (LI .u32) mW]) (rest:=[Row Dk 32 1 (LI .u32) bZ, .ext xb (J (se + 1) xb), .cells q1 32 ((LI .u32).enc a1), .cells q2 41 uT]) (ks:=[0,1,2,3,4]) (mT Ii wN) rfl rfl rfl rfl (by decide)) (fun _ ⟨rfl,Md⟩=>?_)
   dsimp only [List.cons_append,List.nil_append]
   obtain ⟨wS,h⟩:=cD h
   obtain ⟨uV,yR,h⟩:=cQ h
   obtain ⟨IU,h⟩:=cD h
   obtain ⟨tF,vo,h⟩:=cQ h
   refine SL 5 rf ?_
   refine ag rfl (dH (Fz.row (e:=32) (sz:=1) (L:=(LI .u32)) (xs:=bZ) rfl wP) rfl) ?_
   refine ag rfl (oR rfl rfl rfl) ?_
   refine cG rfl (tB (e:=32) (sz:=1) (L:=(LI .u32)) wP rfl rfl rfl (ay wS).1 (Nat.lt_succ_iff.1 (ay wS).2)) (fun _ _=>?_)
   have P8:kf (jA 0 (Int.toNat (wr .i64 ((bZ.length:Int) - 1))) 1 Dk) uV.length:=by rw [yR,List.length_take,Nat.min_eq_left (Nat.lt_succ_iff.1 (ay wS).2)]; exact ye wP
   rw [← yR]
   refine ag rfl (ah rfl) ?_
   refine cG rfl (yj (sz:=1) (L:=(LI .u32)) (xs:=uV) (ys:=oo) (bytes:=4) (Fz.row (e:=32) (sz:=1) (L:=(LI .u32)) (xs:=oo) rfl Md) rfl rfl rfl (gA IU).1 (gA IU).2) (fun Pf Ih=>?_)
   rw [← vo] at Ih; rw [← vo]
   refine SL 3 rf ?_
   exact LN [1,2,3,4] (tF,Pf,se + 1,KZ,xb) ⟨Ih,E3,EL,h⟩ rf rf rf
 ·
  refine SC 4 rf ?_
  have h:=sj h; subst h
  have Nt:=drop_nil I6 MC
  refine qF (ks:=[1,2,3]) (H':=[.ext uh (J (se) uh), .cells q1 32 ((LI .u32).enc a1), .cells q2 41 uT]) rfl (by decide) ?_
  refine qG (J:=J) (n:=l.length) Nt ?_
  exact rN (true,uh) rfl .nil trivial rfl (ks:=[0,1,2]) rfl (by decide)
def cz (n:Nat) (mV:Int) (kx:au):Option (List Int):=
 bd (fC n mV kx) fun bp =>
 fG (fun (Nz:Int) Ci (dS:(List Int)) =>
 lt (Nz:Int) fun j7 =>
 gu (lE dS.length 1 4) <|
 lt (dS++([j7]):List Int) fun gi =>
 Ci gi) (fun (dS:(List Int)) =>
 some dS) bp ([]:List Int)
theorem ga {n mV kx r K} [bF K] {lQ lP vA} (Nk:(ae).rep K vA kx) (h:cz n mV kx = some r):O3 Try.prog 76 [.slice none 0 0, .func (.func 65) #[] #[Ptr lQ 0,Ptr lP 0]] K [.cells lQ 32 ((LI .u32).enc mV), .cells lP 41 vA] (fun J v ho=>∃u0,v = (u0)∧ho = [.cells lQ 32 ((LI .u32).enc mV), .cells lP 41 vA]∧Fz (fun w=>K w∧J w) u0 (LI .u32) (r)):=by
 unfold cz at h
 refine eR Try.func76 (by kernel_rfl) rfl Try.ntmps76 rfl (fun cx dc hpre hro=>?_)
 haveI:=jI dc hpre
 refine SC 2 rf ?_
 refine W1 rf (yh rfl (Fz.nil (A:=Hs []) (L:=(LI .u32))).sl.cells) fun b2=>?_
 refine SL 10 rf ?_
 obtain ⟨bp,cu,h⟩:=bu h
 refine pD 32 1 (LI .u32) ?_
 obtain ⟨wM,AK,w9,AR,h⟩:=rj h
 refine mb (K:=K) (α:=(List Int) × Value) (β:=Unit) hro rfl (jh (K:=K) (mo Nk) cu) (fun _=>rfl) rfl (fun lW=>fun (dS,tJ)=>kf tJ dS.length∧fG wM w9 (bp.drop lW) dS = some r) (fun lW=>fun (dS,tJ)=>[Row tJ 32 1 (LI .u32) dS, .cells b2 70 ([tJ])]) (fun _ _=>False) (fun _=>[]) ⟨([]:List Int), .slice none 0 0⟩ ⟨⟨_,_,rfl⟩,h⟩ (ks:=[2,3,0,1]) rfl (by decide) ?_ ?_ ?_
 ·
  rintro lW ⟨dS,tJ⟩ lo dd rec c' hk ⟨mA,h⟩ qf tZ oy hsi hT
  replace h:fG wM w9 (bp.drop lW) dS = some r:=h
  replace h:=rh AK hk h
  haveI:=m8 (K:=K) hsi
  dsimp only [qp]
  obtain ⟨j7,rq,h⟩:=cQ h
  rw [← rq]
  refine SC 3 rf ?_
  refine jW qf oy ?_
  obtain ⟨jN,h⟩:=cD h
  obtain ⟨gi,j4,h⟩:=cQ h
  refine SC 2 rf ?_
  refine ag rfl (bG rfl rfl) ?_
  refine ag rfl (ah rfl) ?_
  refine cG rfl (mJ (LI .u32) j7 rfl rfl rfl rfl (by decide) (by decide)) (fun nS _=>?_)
  refine cG rfl (lu (sz:=1) (L:=(LI .u32)) (xs:=dS) (y:=j7) (bytes:=4) rfl rfl rfl (gA jN).1 (gA jN).2) (fun Dj so=>?_)
  rw [← j4] at so; rw [← j4]
  refine W0 (ei (cs':=[Dj]) [Dj] (aN.id (L:=(qo (LI .u32)))) (v:=gi) ⟨_,rfl,(Fz.row (e:=32) (sz:=1) (L:=(LI .u32)) (xs:=dS) rfl mA)⟩ (rv:=(⟨_,rfl,(Fz.row (e:=32) (sz:=1) (L:=(LI .u32)) (xs:=gi) rfl so)⟩ : ((qo (LI .u32))).rep (Hs [Row Dj 32 1 (LI .u32) gi]) [Dj] gi)) rfl rfl (Fz.row (e:=32) (sz:=1) (L:=(LI .u32)) (xs:=gi) rfl so).sl.cells rfl rfl) ?_
  refine SL 2 rf ?_
  exact jt qf tZ hT ⟨gi,Dj⟩ ⟨so,h⟩ (ks:=[1,2,3,4]) rfl (by decide)
 ·
  rintro JB ⟨dS,tJ⟩ ⟨mA,h⟩
  replace h:fG wM w9 (bp.drop bp.length) dS = some r:=h
  replace h:=ri AR rfl h
  dsimp only [List.cons_append,List.nil_append]
  refine SX 4 rf ?_
  refine ag rfl (bG rfl rfl) ?_
  refine SL 4 rf ?_
  have h:=sj h; subst h
  refine bC (R:=[Row tJ 32 1 (LI .u32) dS]) (H':=[.obj JB (.deferred (some [])), .cells lQ 32 ((LI .u32).enc mV), .cells lP 41 vA]) (ks:=[3,0,1,2]) rfl (by decide) ?_
  have PD:Fz (fun w=>K w∧(Hs [.ext (bI [Row tJ 32 1 (LI .u32) dS]) (Hs [Row tJ 32 1 (LI .u32) dS])]) w) tJ (LI .u32) dS:=(Fz.row (e:=32) (sz:=1) (L:=(LI .u32)) (xs:=dS) rfl mA).mono dk
  exact jJ (tJ,[.cells lQ 32 ((LI .u32).enc mV), .cells lP 41 vA],bI [Row tJ 32 1 (LI .u32) dS],Hs [Row tJ 32 1 (LI .u32) dS]) rfl (.tmp rfl .nil) ⟨_,rfl,rfl,PD⟩ rfl (ks:=[0,2,3]) rfl (by decide)
 ·
  intro dd j i hf; exact hf.elim
def c9 (n:Nat) (vS:Int) (CX:au):Option (List Int):=
 bd (cz n vS CX) fun bp =>
 some bp
theorem iC {n vS CX r K} [bF K] {yJ yI tf} (Nr:(ae).rep K tf CX) (h:c9 n vS CX = some r):O3 Try.prog 63 [.func (.func 65) #[] #[Ptr yJ 0,Ptr yI 0]] K [.cells yJ 32 ((LI .u32).enc vS), .cells yI 41 tf] (fun J v ho=>∃u0,v = (u0)∧ho = [.cells yJ 32 ((LI .u32).enc vS), .cells yI 41 tf]∧Fz (fun w=>K w∧J w) u0 (LI .u32) (r)):=by
 unfold c9 at h
 refine eR Try.func63 (by kernel_rfl) rfl Try.ntmps63 rfl (fun cx dc hpre hro=>?_)
 haveI:=jI dc hpre
 obtain ⟨bp,cu,h⟩:=bu h
 refine SC 8 rf ?_
 refine cG rfl (jY (K:=K) (oh:=[.cells yJ 32 ((LI .u32).enc vS), .cells yI 41 tf]) (rest:=[]) (ks:=[0,1]) (ga (K:=K) (mo Nr) cu) rfl rfl rfl rfl (by decide)) (fun ⟨wu,Qe,cY,gC⟩ pQ=>?_)
 obtain ⟨tJ,rfl,rfl,f26⟩:=pQ
 replace f26:Fz (fun w=>K w∧Hs [.ext cY gC] w) wu (LI .u32) bp:=f26
 dsimp only [List.cons_append,List.nil_append]
 refine SL 4 rf ?_
 have h:=sj h; subst h
 refine bC (R:=[.ext cY gC]) (H':=[.cells yJ 32 ((LI .u32).enc vS), .cells yI 41 tf]) (ks:=[0,1,2]) rfl (by decide) ?_
 have PK:Fz (fun w=>K w∧(Hs [.ext (bI [.ext cY gC]) (Hs [.ext cY gC])]) w) wu (LI .u32) bp:=f26.mono dk
 exact bW (wu,[.cells yJ 32 ((LI .u32).enc vS), .cells yI 41 tf],bI [.ext cY gC],Hs [.ext cY gC]) rfl (.tmp rfl .nil) ⟨_,rfl,rfl,PK⟩ rfl (ks:=[0,1,2]) rfl (by decide)
def jm (n:Nat) (a0:au) (a1:Int):Option (List Int):=
 bd (aY n a0.book.iP a1) fun bp =>
 cn ((!bp)) (
 some ([]:List Int)) (
 bd (fS n a0 a1) fun kg =>
 bd (c9 n kg.1 kg.2) fun eN =>
 some eN)
theorem rJ {n a0 a1 r K} [bF K] {ct} (f0:(ae).rep K ct a0) (h:jm n a0 a1 = some r):p9 Try.prog 40 [A ct, .int .u32 a1] K (fun J v=>Fz (fun w=>K w∧J w) v (LI .u32) r):=by
 unfold jm at h
 refine fo Try.func40 (by kernel_rfl) rfl Try.ntmps40 rfl fun cx _ hro dc hpre=>?_
 refine SC 2 rf ?_
 refine W1 rf (bH rfl) fun b2=>?_
 obtain ⟨bp,cu,h⟩:=bu h
 refine SL 8 rf ?_
 refine ag rfl (aR rfl (bg.iff.1 ((aQ.c0 aV).get f0)) (bx _ _)) ?_
 refine ag rfl (ah rfl) ?_
 refine CV (bf cu) rf rf ?_
 refine SL 3 rf ?_
 refine eS h rf (fun hc h=>?_) fun hc h=>?_
 ·
  refine SC 7 rf ?_
  have h:=sj h; subst h
  refine bC (R:=[]) (H':=[]) (ks:=[]) rfl (by decide) ?_
  have PR:Fz (fun w=>K w∧(Hs [.ext (bI []) (Hs [])]) w) (.slice none 0 0) (LI .u32) ([]:List Int):=(Fz.nil (A:=Hs []) (L:=(LI .u32))).mono dk
  exact bW (.slice none 0 0,bI [],Hs []) rfl (.tmp rfl .nil) PR rfl (ks:=[0]) rfl (by decide)
 ·
  obtain ⟨kg,lB,h⟩:=bu h
  obtain ⟨eN,ru,h⟩:=bu h
  refine SC 4 rf ?_
  refine ag rfl (aj rfl (aJ.len _ f0)) ?_
  refine ag rfl (ah rfl) ?_
  refine cG rfl (eU (kS (K:=K) (mo f0) lB) rfl kn) (fun ⟨NU,JU,Ba⟩ f27=>?_)
  replace f27:(ae).rep K Ba kg.2:=f27
  dsimp only [List.cons_append,List.nil_append]
  refine cG rfl (jY (K:=K) (oh:=[.cells NU 32 ((LI .u32).enc kg.1), .cells JU 41 Ba]) (rest:=[.cells b2 41 ct]) (ks:=[0,1,2]) (iC (K:=K) (mo f27) ru) rfl rfl rfl rfl (by decide)) (fun ⟨KP,Qd,mH,uQ⟩ Mt=>?_)
  obtain ⟨Pj,rfl,rfl,f33⟩:=Mt
  replace f33:Fz (fun w=>K w∧Hs [.ext mH uQ] w) KP (LI .u32) eN:=f33
  dsimp only [List.cons_append,List.nil_append]
  refine SL 4 rf ?_
  have h:=sj h; subst h
  refine bC (R:=[.ext mH uQ]) (H':=[]) (ks:=[0]) rfl (by decide) ?_
  have PF:Fz (fun w=>K w∧(Hs [.ext (bI [.ext mH uQ]) (Hs [.ext mH uQ])]) w) KP (LI .u32) eN:=f33.mono dk
  exact bW (KP,bI [.ext mH uQ],Hs [.ext mH uQ]) rfl (.tmp rfl .nil) PF rfl (ks:=[0]) rfl (by decide)
def jR (n:Nat) (a0:au) (a1:Int):Option (au × (List Int) × Int):=
 bd (jm n a0 a1) fun bp =>
 cn (((bp.length:Int) == 0)) (
 some (a0,([]:List Int),4)) (
 ec (fun HH (ez:Int) (kE:au) =>
 cn (decide (ez < (bp.length:Int))) (
 gu (dU ez bp.length) <|
 bd (eu n kE (bp.getD (Int.toNat ez) default)) fun nW =>
 HH (wr .i64 (ez + 1)) nW.1) (
 some (kE,bp,0))) n 0 a0)
theorem sC {n a0 a1 r K} [bF K] {ct} (f0:(ae).rep K ct a0) (h:jR n a0 a1 = some r):p9 Try.prog 13 [A ct, .int .u32 a1] K (fun J v=>∃u0 u1,v = (.tuple #[A u0,u1, .int .i64 r.2.2])∧(ae).rep (fun w=>K w∧J w) u0 (r.1)∧Fz (fun w=>K w∧J w) u1 (LI .u32) (r.2.1)):=by
 unfold jR at h
 refine fo Try.func13 (by kernel_rfl) rfl Try.ntmps13 rfl fun cx _ hro dc hpre=>?_
 refine SC 2 rf ?_
 refine W1 rf (bH rfl) fun b2=>?_
 refine W1 rf (bk (hz:=(⟨by kernel_rfl⟩ : bY Try.prog 41 av))) fun b4=>?_
 obtain ⟨bp,cu,h⟩:=bu h
 refine SL 6 rf ?_
 refine ag rfl (aj rfl (aJ.len _ f0)) ?_
 refine ag rfl (ah rfl) ?_
 refine cG rfl (dW (rJ (K:=K) (mo f0) cu) rfl) (fun ⟨wu,cY,gC⟩ pQ=>?_)
 have f26:Fz (fun w=>K w∧Hs [.ext cY gC] w) wu (LI .u32) bp:=pQ
 refine SL 7 rf ?_
 refine ag rfl (dH f26 rfl) ?_
 refine SL 3 rf ?_
 refine eS h rf (fun hc h=>?_) fun hc h=>?_
 ·
  refine SC 2 rf ?_
  refine ag rfl (aj rfl (aJ.len _ f0)) ?_
  refine ST (C:=K) a0 (aN.id (L:=ae)) aD (mo f0) rf rf rf rf rf fun qx f29=>?_
  refine SL 6 rf ?_
  have h:=sj h; subst h
  refine bC (R:=[]) (H':=[.cells b4 41 qx]) (ks:=[1]) rfl (by decide) ?_
  have PJ:(ae).rep (fun w=>K w∧(Hs [.ext (bI []) (Hs [])]) w) qx a0:=aJ.mono _ dk f29
  have PI:Fz (fun w=>K w∧(Hs [.ext (bI []) (Hs [])]) w) (.slice none 0 0) (LI .u32) ([]:List Int):=(Fz.nil (A:=Hs []) (L:=(LI .u32))).mono dk
  exact bW (.tuple #[A qx, .slice none 0 0, .int .i64 4],bI [],Hs []) rfl (.agg rfl inferInstance inferInstance (aJ.len _ f29) (.tmp rfl (.tmp rfl .nil))) ⟨_,_,rfl,PJ,PI⟩ rfl (ks:=[0]) rfl (by decide)
 ·
  refine SC 6 rf ?_
  refine ag rfl (dH f26 rfl) ?_
  refine SL 4 rf ?_
  obtain ⟨El,AE,h⟩:=lT h
  refine kA ?_
  refine LO (β:=Int × au × (List Value) × (List Nat) × (World→Prop)) [2,4,7,17,18] [0,1,2,3] (fun (Ad,ez,kE,FO,fz,kD)=>[(19, .int .i64 ez)]) (fun (Ad,ez,kE,FO,fz,kD)=>[.ext fz kD, .ext cY gC, .cells b4 41 av, .cells b2 41 FO]) (fun (Ad,ez,kE,FO,fz,kD)=>(ae).rep (fun w=>K w∧Hs [.ext fz kD] w) FO kE∧ec El Ad ez kE = some r) (n,0,a0,ct,[],(Hs [])) ⟨(mo f0),h⟩ rf rf rf ?_
  rintro Ad ⟨ez,kE,FO,fz,kD⟩ ⟨f44,h⟩
  replace h:=lS AE h; obtain ⟨Ad,rfl,h⟩:=h
  refine SC 6 rf ?_
  refine eS h rf (fun hc h=>?_) fun hc h=>?_
  ·
   obtain ⟨oZ,h⟩:=cD h
   refine SC 6 rf ?_
   refine ag rfl (dL (m:=(Int.toNat ez)) f26 rfl rfl rfl (ay oZ).1 (ay oZ).2) ?_
   refine ag rfl (dJ f26 (aN.idx (L:=(LI .u32)) (m:=(bp.length)) (k:=1) ((Int.toNat ez)) (ay oZ).2 rfl) rfl) ?_
   obtain ⟨nW,Co,h⟩:=bu h
   refine SL 4 rf ?_
   refine ag rfl (aj rfl (aJ.len _ f44)) ?_
   refine ag rfl (ah rfl) ?_
   refine CB (oK (K:=(fun w=>K w∧Hs [.ext fz kD] w)) (mo f44) Co) rf rf ?_
   rintro N7 kZ rU ⟨tp,rfl,f54⟩
   replace f54:(ae).rep (fun w=>(fun w=>K w∧Hs [.ext fz kD] w) w∧Hs [.ext kZ rU] w) tp nW.1:=f54
   refine SL 3 rf ?_
   refine ST (C:=(fun w=>K w∧Hs [.ext fz kD, .ext kZ rU] w)) nW.1 (aN.id (L:=ae)) (mo f44) (mo f54) rf rf rf rf rf fun vI f57=>?_
   refine SL 7 rf ?_
   refine bC (R:=[.ext kZ rU, .ext fz kD]) (H':=[.ext cY gC, .cells b4 41 av, .cells b2 41 vI]) (ks:=[0,1,2,3,4]) rfl (by decide) ?_
   exact LN [0,1,2,3] (wr .i64 (ez + 1),nW.1,vI,(bI [.ext kZ rU, .ext fz kD]),(Hs [.ext kZ rU, .ext fz kD])) ⟨(mo f57),h⟩ rf rf rf
  ·
   refine SC 7 rf ?_
   refine ag rfl (aj rfl (aJ.len _ f44)) ?_
   refine ag rfl (ah rfl) ?_
   refine ST (C:=(fun w=>K w∧Hs [.ext fz kD] w)) kE (aN.id (L:=ae)) aD (mo f44) rf rf rf rf rf fun FL f59=>?_
   refine SL 5 rf ?_
   have h:=sj h; subst h
   refine bC (R:=[.ext fz kD, .ext cY gC]) (H':=[.cells b4 41 FL]) (ks:=[0,1,2]) rfl (by decide) ?_
   have Pw:(ae).rep (fun w=>K w∧(Hs [.ext (bI [.ext fz kD, .ext cY gC]) (Hs [.ext fz kD, .ext cY gC])]) w) FL kE:=aJ.mono _ dk f59
   have Pv:Fz (fun w=>K w∧(Hs [.ext (bI [.ext fz kD, .ext cY gC]) (Hs [.ext fz kD, .ext cY gC])]) w) wu (LI .u32) bp:=f26.mono dk
   exact bW (.tuple #[A FL,wu, .int .i64 0],bI [.ext fz kD, .ext cY gC],Hs [.ext fz kD, .ext cY gC]) rfl (.agg rfl inferInstance inferInstance (aJ.len _ f59) (.tmp rfl (.tmp rfl .nil))) ⟨_,_,rfl,Pw,Pv⟩ rfl (ks:=[0]) rfl (by decide)
def jO (n:Nat) (a0:au) (a1:Int):Option Int:=
 bd (fS n a0 a1) fun bp =>
 bd (fC n bp.1 bp.2) fun dS =>
 fG (fun (CM:Int) Ch (eH:Int) =>
 lt (CM:Int) fun fY =>
 bd (eD n a0 fY) fun gi =>
 bd (eD n a0 a1) fun gR =>
 lt ((if eH < wr .i64 ((wr .i64 (gi - gR)) + 1) then wr .i64 ((wr .i64 (gi - gR)) + 1) else eH):Int) fun fO =>
 Ch fO) (fun (eH:Int) =>
 some eH) dS 0
theorem sy {n a0 a1 r K} [bF K] {ct} (f0:(ae).rep K ct a0) (h:jO n a0 a1 = some r):qM Try.prog 47 [A ct, .int .u32 a1] K (.int .i64 r):=by
 unfold jO at h
 refine fo Try.func47 (by kernel_rfl) rfl Try.ntmps47 rfl fun cx _ hro dc hpre=>?_
 refine SC 2 rf ?_
 refine W1 rf (bH rfl) fun b2=>?_
 refine W1 rf (fa (LI .u32) a1 rfl rfl) fun b3=>?_
 refine SL 5 rf ?_
 refine W1 rf (cP (L:=(LI .i64)) (z:=0) ⟨by kernel_rfl⟩) fun b5=>?_
 refine W0 (dD (M:=(LI .i64)) (aN.id (L:=(LI .i64))) 0 0 rfl rfl rfl rfl rfl) ?_
 obtain ⟨bp,cu,h⟩:=bu h
 refine SL 5 rf ?_
 refine ag rfl (aj rfl (aJ.len _ f0)) ?_
 refine ag rfl (bQ (aN.id (L:=(LI .u32))) rfl) ?_
 refine cG rfl (eU (kS (K:=K) (mo f0) cu) rfl kn) (fun ⟨QT,JV,JL⟩ f25=>?_)
 replace f25:(ae).rep K JL bp.2:=f25
 dsimp only [List.cons_append,List.nil_append]
 refine SL 3 rf ?_
 obtain ⟨dS,mz,h⟩:=bu h
 obtain ⟨Ev,IP,Fv,I1,h⟩:=rj h
 refine mb (K:=K) (α:=Int) (β:=Unit) hro rfl (jh (K:=K) (mo f25) mz) (fun _=>rfl) rfl (fun Cd=>fun eH=>fG Ev Fv (dS.drop Cd) eH = some r) (fun Cd=>fun eH=>[.cells b5 3 ((LI .i64).enc eH), .cells b3 32 ((LI .u32).enc a1), .cells b2 41 ct]) (fun _ _=>False) (fun _=>[]) 0 h (ks:=[0,1,2,3,4]) rfl (by decide) ?_ ?_ ?_
 ·
  rintro Cd eH lo dd rec c' hk h qf tZ oy hsi hT
  replace h:fG Ev Fv (dS.drop Cd) eH = some r:=h
  replace h:=rh IP hk h
  haveI:=m8 (K:=K) hsi
  dsimp only [qp]
  obtain ⟨fY,tW,h⟩:=cQ h
  rw [← tW]
  refine SC 3 rf ?_
  refine jW qf oy ?_
  refine nt ?_
  obtain ⟨gi,j4,h⟩:=bu h
  obtain ⟨gR,ng,h⟩:=bu h
  obtain ⟨fO,vq,h⟩:=cQ h
  refine dy mixed (.iH [] [(0,[5]),(1,[2]),(2,[6]),(3,[12,13]),(4,[2]),(5,[3]),(6,[15,16]),(7,[14,17]),(8,[18]),(9,[11,19])] (.alt 10 [5,20] (.fin [] []) .no)) (by kernel_rfl) ?_
  refine T0 ?_
  refine NV rf rf (bQ (aN.id (L:=(LI .i64))) rfl) ?_
  refine NV rf rf (aj rfl (aJ.len _ f0)) ?_
  refine NS 1 rf ?_
  refine NC rf rf (jr (K:=K) (mo f0) j4) rf ?_
  refine NV rf rf (aj rfl (aJ.len _ f0)) ?_
  refine NV rf rf (bQ (aN.id (L:=(LI .u32))) rfl) ?_
  refine NC rf rf (jr (K:=K) (mo f0) ng) rf ?_
  refine NS 2 rf ?_
  refine NV rf rf (FZ rfl rfl) ?_
  refine bA ?_
  refine X0 rf (dD (M:=(LI .i64)) (aN.id (L:=(LI .i64))) (if eH < wr .i64 ((wr .i64 (gi - gR)) + 1) then wr .i64 ((wr .i64 (gi - gR)) + 1) else eH) fO vq rfl rfl rfl rfl) ?_
  refine rT ?_
  refine rO ?_
  exact jt qf tZ hT fO h (ks:=[0,1,2,3,4]) rfl (by decide)
 ·
  rintro JB eH h
  replace h:fG Ev Fv (dS.drop dS.length) eH = some r:=h
  replace h:=ri I1 rfl h
  dsimp only [List.cons_append,List.nil_append]
  refine SX 4 rf ?_
  refine ag rfl (bQ (aN.id (L:=(LI .i64))) rfl) ?_
  refine SL 4 rf ?_
  have h:=sj h; subst h
  exact jJ () rfl (.tmp rfl .nil) trivial rfl (ks:=[]) rfl (by decide)
 ·
  intro dd j i hf; exact hf.elim
def jn (n:Nat) (a0:au) (a1:Int) (a2:Int):Option (au × Int):=
 bd (aY n a0.book.iP a1) fun bp =>
 cl ((!bp) == false) (aY n a0.book.iP a2) default fun cB =>
 cn (((!bp) || (!cB))) (
 some (a0,4)) (
 bd (jP n a0 a1) fun dS =>
 cl ((dS != a1) == false) (fe n a0 a1 a2) default fun cR =>
 cn (((dS != a1) || cR)) (
 some (a0,12)) (
 bd (eD n a0 a2) fun gV =>
 bd (jO n a0 a1) fun fA =>
 cn (decide (6 < (wr .i64 (gV + fA)))) (
 some (a0,8)) (
 bd (dX n a0 a1 a2) fun gi =>
 some (gi.1,gi.2))))
theorem rK {n a0 a1 a2 r K} [bF K] {ct} (f0:(ae).rep K ct a0) (h:jn n a0 a1 a2 = some r):p9 Try.prog 15 [A ct, .int .u32 a1, .int .u32 a2] K (fun J v=>∃u0,v = (.tuple #[A u0, .int .i64 r.2])∧(ae).rep (fun w=>K w∧J w) u0 (r.1)):=by
 unfold jn at h
 refine fo Try.func15 (by kernel_rfl) rfl Try.ntmps15 rfl fun cx _ hro dc hpre=>?_
 refine SC 2 rf ?_
 refine W1 rf (bH rfl) fun b3=>?_
 refine W1 rf (bk (hz:=(⟨by kernel_rfl⟩ : bY Try.prog 41 av))) fun b6=>?_
 obtain ⟨bp,cu,h⟩:=bu h
 obtain ⟨cB,gE,_,h⟩:=jd h
 refine SL 9 rf ?_
 refine ag rfl (aR rfl (bg.iff.1 ((aQ.c0 aV).get f0)) (bx _ _)) ?_
 refine ag rfl (ah rfl) ?_
 refine CV (bf cu) rf rf ?_
 refine SL 2 rf ?_
 refine GB rf rf rf (fun hb=>aH rfl) ?_
 refine GB rf rf rf (fun hb=>aH (bT rfl hb)) ?_
 refine GB rf rf rf (fun hb=>aR (bT rfl hb) (bg.iff.1 ((aQ.c0 aV).get f0)) (bx _ _)) ?_
 refine GB rf rf rf (fun hb=>ah rfl) ?_
 refine GB rf rf rf (fun hb=>bD (bf (gE hb)) (aU (bT rfl hb) (aU (bT rfl hb) rfl)) (fun _ _ _=>trivial)) ?_
 refine GB rf rf rf (fun hb=>eW (bT rfl hb)) ?_
 refine ag rfl (dV rfl rfl) ?_
 refine SL 3 rf ?_
 refine eS h rf (fun hc h=>?_) fun hc h=>?_
 ·
  refine SC 2 rf ?_
  refine ag rfl (aj rfl (aJ.len _ f0)) ?_
  refine ST (C:=K) a0 (aN.id (L:=ae)) aD (mo f0) rf rf rf rf rf fun xo f24=>?_
  refine SL 6 rf ?_
  have h:=sj h; subst h
  exact k7 [] rf rf (ra rf (aJ.len _ f24) (rt rf rn)) ⟨_,rfl,(mo f24)⟩
 ·
  obtain ⟨dS,mz,h⟩:=bu h
  obtain ⟨cR,lA,_,h⟩:=jd h
  refine SC 2 rf ?_
  refine ag rfl (aj rfl (aJ.len _ f0)) ?_
  refine ag rfl (ah rfl) ?_
  refine CV (sA (K:=K) (mo f0) mz) rf rf ?_
  refine SL 3 rf ?_
  refine GB rf rf rf (fun hb=>aj rfl (aJ.len _ f0)) ?_
  refine GB rf rf rf (fun hb=>ah rfl) ?_
  refine GB rf rf rf (fun hb=>ah rfl) ?_
  refine GB rf rf rf (fun hb=>bD (gX (K:=K) (mo f0) (lA hb)) (aU (bT rfl hb) (aU (bT rfl hb) (aU (bT rfl hb) rfl))) kn) ?_
  refine ag rfl (dV rfl rfl) ?_
  refine SL 3 rf ?_
  refine eS h rf (fun hc h=>?_) fun hc h=>?_
  ·
   refine SC 2 rf ?_
   refine ag rfl (aj rfl (aJ.len _ f0)) ?_
   refine ST (C:=K) a0 (aN.id (L:=ae)) aD (mo f0) rf rf rf rf rf fun qx f29=>?_
   refine SL 6 rf ?_
   have h:=sj h; subst h
   exact k7 [] rf rf (ra rf (aJ.len _ f29) (rt rf rn)) ⟨_,rfl,(mo f29)⟩
  ·
   refine aS ?_
   obtain ⟨gV,Ap,h⟩:=bu h
   obtain ⟨fA,pP,h⟩:=bu h
   refine dy mixed (.iH [] [(0,[3]),(1,[2]),(2,[38,39]),(3,[3]),(4,[1]),(5,[41,42]),(6,[40,43]),(7,[44])] (.alt 8 [45] (.fin [] []) .no)) (by kernel_rfl) ?_
   refine T0 ?_
   refine NV rf rf (aj rfl (aJ.len _ f0)) ?_
   refine NS 1 rf ?_
   refine NC rf rf (jr (K:=K) (mo f0) Ap) rf ?_
   refine NV rf rf (aj rfl (aJ.len _ f0)) ?_
   refine NS 1 rf ?_
   refine NC rf rf (sy (K:=K) (mo f0) pP) rf ?_
   refine NE 2 rf ?_
   refine XV rf rf (aC rfl) ?_
   refine rT ?_
   refine aI ?_
   refine eS h rf (fun hc h=>?_) fun hc h=>?_
   ·
    refine SC 2 rf ?_
    refine ag rfl (aj rfl (aJ.len _ f0)) ?_
    refine ST (C:=K) a0 (aN.id (L:=ae)) aD (mo f0) rf rf rf rf rf fun xn f34=>?_
    refine SL 6 rf ?_
    have h:=sj h; subst h
    exact k7 [] rf rf (ra rf (aJ.len _ f34) (rt rf rn)) ⟨_,rfl,(mo f34)⟩
   ·
    obtain ⟨gi,j4,h⟩:=bu h
    refine SC 5 rf ?_
    refine ag rfl (aj rfl (aJ.len _ f0)) ?_
    refine SL 2 rf ?_
    refine CB (ke (K:=K) (mo f0) j4) rf rf ?_
    rintro O7 jC p7 ⟨sD,rfl,f41⟩
    replace f41:(ae).rep (fun w=>K w∧Hs [.ext jC p7] w) sD gi.1:=f41
    refine SL 2 rf ?_
    refine ST (C:=(fun w=>K w∧Hs [.ext jC p7] w)) gi.1 (aN.id (L:=ae)) aD (mo f41) rf rf rf rf rf fun FO f44=>?_
    refine SL 4 rf ?_
    have h:=sj h; subst h
    exact k7 [0] rf rf (ra rf (aJ.len _ f44) (rt rf rn)) ⟨_,rfl,(mo f44)⟩
def gM (n:Nat) (a0:Int) (a1:Int) (a2:au):Option Bool:=
 cl ((a0 != a1) == true) (fe n a2 a0 a1) default fun bp =>
 some ((a0 != a1) && bp)
theorem rL {n a0 a1 a2 r K} [bF K] {q1 q2 uT} (f2:(ae).rep K uT a2) (h:gM n a0 a1 a2 = some r):Bw.Fn (α:=Unit) Try.prog 42 [.int .u32 a0,Ptr q1 0,Ptr q2 0] (Bx (bI [.cells q1 32 ((LI .u32).enc a1), .cells q2 41 uT]) K) [.cells q1 32 ((LI .u32).enc a1), .cells q2 41 uT] (fun _=>True) (fun _=>(.bool r)) (fun _=>[.cells q1 32 ((LI .u32).enc a1), .cells q2 41 uT]):=by
 unfold gM at h
 refine eR Try.func42 (by kernel_rfl) rfl Try.ntmps42 rfl (fun cx dc hpre hro=>?_)
 haveI:=jI dc hpre
 obtain ⟨bp,cu,_,h⟩:=jd h
 refine SC 8 rf ?_
 refine ag rfl (bQ (aN.id (L:=(LI .u32))) rfl) ?_
 refine SL 2 rf ?_
 refine GB rf rf rf (fun hb=>aj rfl (aJ.len _ f2)) ?_
 refine GB rf rf rf (fun hb=>ah rfl) ?_
 refine GB rf rf rf (fun hb=>bQ (aN.id (L:=(LI .u32))) rfl) ?_
 refine GB rf rf rf (fun hb=>bD (gX (K:=K) (mo f2) (cu hb)) (aU (bT rfl hb) (aU (bT rfl hb) (aU (bT rfl hb) rfl))) kn) ?_
 refine ag rfl (cM rfl rfl) ?_
 refine SL 4 rf ?_
 have h:=sj h; subst h
 exact bW () rfl (.tmp rfl .nil) trivial rfl (ks:=[0,1]) rfl (by decide)
def kR (n:Nat) (a0:au) (a1:Int):Option (au × Int):=
 bd (aY n a0.book.iP a1) fun bp =>
 cn ((!bp)) (
 some (a0,4)) (
 bd (fS n a0 a1) fun cR =>
 bd (fC n cR.1 cR.2) fun fA =>
 fG (fun (Nx:Int) Lp (ez:au) =>
 lt (Nx:Int) fun j6 =>
 bd (cU n ez j6) fun oo =>
 ec (fun Dr (mX:Int) (om:bE) =>
 cn (decide (mX < 8)) (
 gu (dU mX 8) <|
 bd (gM n (oo.1.Cells (Int.toNat mX)) a1 a0) fun xG =>
 cn (xG) (
 gu (dU mX 8) <|
 lt ({ om with Cells:=(eO om.Cells (Int.toNat mX) 0) }:bE) fun yt =>
 Dr (wr .i64 (mX + 1)) yt) (
 Dr (wr .i64 (mX + 1)) om)) (
 bd (dP n ez j6 om) fun wj =>
 Lp wj.1)) n 0 oo.1) (fun (ez:au) =>
 bd (dX n ez a1 0) fun BA =>
 some (BA.1,BA.2)) fA a0)
theorem uB {n a0 a1 r K} [bF K] {ct} (f0:(ae).rep K ct a0) (h:kR n a0 a1 = some r):p9 Try.prog 14 [A ct, .int .u32 a1] K (fun J v=>∃u0,v = (.tuple #[A u0, .int .i64 r.2])∧(ae).rep (fun w=>K w∧J w) u0 (r.1)):=by
 unfold kR at h
 refine fo Try.func14 (by kernel_rfl) rfl Try.ntmps14 rfl fun cx _ hro dc hpre=>?_
 refine SC 2 rf ?_
 refine W1 rf (bH rfl) fun b2=>?_
 refine W1 rf (fa (LI .u32) a1 rfl rfl) fun b3=>?_
 refine W1 rf (bk (hz:=(⟨by kernel_rfl⟩ : bY Try.prog 41 av))) fun b4=>?_
 obtain ⟨bp,cu,h⟩:=bu h
 refine SL 8 rf ?_
 refine ag rfl (aR rfl (bg.iff.1 ((aQ.c0 aV).get f0)) (bx _ _)) ?_
 refine ag rfl (bQ (aN.id (L:=(LI .u32))) rfl) ?_
 refine CV (bf cu) rf rf ?_
 refine SL 3 rf ?_
 refine eS h rf (fun hc h=>?_) fun hc h=>?_
 ·
  refine SC 2 rf ?_
  refine ag rfl (aj rfl (aJ.len _ f0)) ?_
  refine ST (C:=K) a0 (aN.id (L:=ae)) aD (mo f0) rf rf rf rf rf fun FP f23=>?_
  refine SL 5 rf ?_
  have h:=sj h; subst h
  exact k7 [] rf rf (ra rf (aJ.len _ f23) (rt rf rn)) ⟨_,rfl,(mo f23)⟩
 ·
  refine SC 5 rf ?_
  refine W1 rf (bk (hz:=(⟨by kernel_rfl⟩ : bY Try.prog 98 [.nilFunc]))) fun b6=>?_
  refine W0 (nB (n:=1) (cs':=[.func (.func 42) #[] #[Ptr b3 0,Ptr b2 0]]) rfl rfl rfl rfl (by decide) (qK rfl) rfl) ?_
  refine SL 4 rf ?_
  refine ag rfl (aj rfl (aJ.len _ f0)) ?_
  refine W1 rf (bk (hz:=(⟨by kernel_rfl⟩ : bY Try.prog 41 av))) fun b7=>?_
  refine ST (C:=K) a0 (aN.id (L:=ae)) aD (mo f0) rf rf rf rf rf fun BK f26=>?_
  obtain ⟨cR,lA,h⟩:=bu h
  refine SL 5 rf ?_
  refine ag rfl (aj rfl (aJ.len _ f0)) ?_
  refine ag rfl (bQ (aN.id (L:=(LI .u32))) rfl) ?_
  refine cG rfl (eU (kS (K:=K) (mo f0) lA) rfl kn) (fun ⟨QO,RZ,sE⟩ f31=>?_)
  replace f31:(ae).rep K sE cR.2:=f31
  dsimp only [List.cons_append,List.nil_append]
  refine SL 3 rf ?_
  obtain ⟨fA,pP,h⟩:=bu h
  refine kA ?_
  obtain ⟨Es,IK,Fs,IX,h⟩:=rj h
  refine mb (K:=K) (α:=au × (List Value) × (List Nat) × (World→Prop)) (β:=Unit) hro rfl (jh (K:=K) (mo f31) pP) (fun _=>rfl) rfl (fun Cb=>fun (ez,sD,fz,kD)=>(ae).rep (fun w=>K w∧Hs [.ext fz kD] w) sD ez∧fG Es Fs (fA.drop Cb) ez = some r) (fun Cb=>fun (ez,sD,fz,kD)=>[.ext fz kD, .cells b7 41 sD, .cells b6 98 [.func (.func 42) #[] #[Ptr b3 0,Ptr b2 0]], .cells b4 41 av, .cells b3 32 ((LI .u32).enc a1), .cells b2 41 ct]) (fun _ _=>False) (fun _=>[]) ⟨a0,BK,[],(Hs [])⟩ ⟨(mo f26),h⟩ (ks:=[1,2,0,3,4,5,6,7]) rfl (by decide) ?_ ?_ ?_
  ·
   rintro Cb ⟨ez,sD,fz,kD⟩ lo dd rec c' hk ⟨f43,h⟩ qf tZ oy hsi hT
   replace h:fG Es Fs (fA.drop Cb) ez = some r:=h
   replace h:=rh IK hk h
   haveI:=m8 (K:=K) hsi
   dsimp only [qp]
   obtain ⟨j6,An,h⟩:=cQ h
   rw [← An]
   refine SC 3 rf ?_
   refine jW qf oy ?_
   obtain ⟨oo,wN,h⟩:=bu h
   refine SC 3 rf ?_
   refine ag rfl (aj rfl (aJ.len _ f43)) ?_
   refine ag rfl (ah rfl) ?_
   refine CB (dY (K:=(fun w=>K w∧Hs [.ext fz kD] w)) (mo f43) wN) rf rf ?_
   rintro Rs pA yo ⟨vI,rfl,f55⟩
   replace f55:(ax).rep (fun w=>(fun w=>K w∧Hs [.ext fz kD] w) w∧Hs [.ext pA yo] w) vI oo.1:=f55
   refine SL 3 rf ?_
   refine W1 rf (bk (hz:=(⟨by kernel_rfl⟩ : bY Try.prog 38 aX))) fun b9=>?_
   refine ST (C:=(fun w=>K w∧Hs [.ext fz kD, .ext pA yo] w)) oo.1 (aN.id (L:=ax)) bL (mo f55) rf rf rf rf rf fun OJ f58=>?_
   refine SL 7 rf ?_
   refine ag rfl (aR rfl (bg.iff.1 (dN.get f58)) (bx _ _)) ?_
   refine SL 4 rf ?_
   obtain ⟨Lc,Iu,h⟩:=lT h
   refine kA ?_
   refine LO (β:=Int × bE × (List Value) × (List Nat) × (World→Prop)) [6,7,8,9,33] [0,1,2,3,4,5,6,7,8,9,10] (fun (Hr,mX,om,zA,mG,uP)=>[(34, .int .i64 mX)]) (fun (Hr,mX,om,zA,mG,uP)=>[.ext mG uP, .cells b9 38 zA, .ext pA yo, .obj dd (.deferred (some [])), .obj lo (.loop { rec with state:=.busy }), .ext fz kD, .cells b7 41 sD, .cells b6 98 [.func (.func 42) #[] #[Ptr b3 0,Ptr b2 0]], .cells b4 41 av, .cells b3 32 ((LI .u32).enc a1), .cells b2 41 ct]) (fun (Hr,mX,om,zA,mG,uP)=>(ax).rep (fun w=>K w∧Hs [.ext fz kD, .ext pA yo, .ext mG uP] w) zA om∧ec Lc Hr mX om = some r) (n,0,oo.1,OJ,[],(Hs [])) ⟨(mo f58),h⟩ rf rf rf ?_
   rintro Hr ⟨mX,om,zA,mG,uP⟩ ⟨f71,h⟩
   replace h:=lS Iu h; obtain ⟨Hr,rfl,h⟩:=h
   refine SC 6 rf ?_
   refine eS h rf (fun hc h=>?_) fun hc h=>?_
   ·
    obtain ⟨EP,h⟩:=cD h
    refine SC 7 rf ?_
    refine ag rfl (tA (m:=(Int.toNat mX)) rfl rfl (ay EP).1 (ay EP).2 ((aN.idx (L:=(LI .u32)) (m:=8) (k:=1) (Int.toNat mX) (ay EP).2 rfl).int (rp _ _))) ?_
    obtain ⟨xG,Al,h⟩:=bu h
    refine SL 6 rf ?_
    refine ag rfl (bG rfl rfl) ?_
    refine ag rfl (ah rfl) ?_
    refine cG rfl (jY (K:=K) (oh:=[.cells b3 32 ((LI .u32).enc a1), .cells b2 41 ct]) (rest:=[.ext mG uP, .cells b9 38 zA, .ext pA yo, .obj dd (.deferred (some [])), .obj lo (.loop { rec with state:=.busy }), .ext fz kD, .cells b7 41 sD, .cells b6 98 [.func (.func 42) #[] #[Ptr b3 0,Ptr b2 0]], .cells b4 41 av]) (ks:=[9,10,0,1,2,3,4,5,6,7,8]) (rL (K:=K) (mo f0) Al) rfl rfl rfl rfl (by decide)) (fun _ _=>?_)
    dsimp only [List.cons_append,List.nil_append]
    refine SL 2 rf ?_
    refine eS h rf (fun hc h=>?_) fun hc h=>?_
    ·
     obtain ⟨EO,h⟩:=cD h
     obtain ⟨yt,Ez,h⟩:=cQ h
     refine SC 3 rf ?_
     refine ag rfl (bV (m:=(Int.toNat mX)) rfl rfl (ay EO).1 (ay EO).2) ?_
     refine ST (C:=(fun w=>K w∧Hs [.ext fz kD, .ext pA yo, .ext mG uP] w)) yt (dN.comp (aN.idx (L:=(LI .u32)) (m:=8) (k:=1) ((Int.toNat mX)) (ay EO).2 rfl)) (mo f71) fl Ez rf rf rf rf fun JG f80=>?_
     refine SL 7 rf ?_
     refine bC (R:=[.ext mG uP]) (H':=[.cells b3 32 ((LI .u32).enc a1), .cells b2 41 ct, .cells b9 38 JG, .ext pA yo, .obj dd (.deferred (some [])), .obj lo (.loop { rec with state:=.busy }), .ext fz kD, .cells b7 41 sD, .cells b6 98 [.func (.func 42) #[] #[Ptr b3 0,Ptr b2 0]], .cells b4 41 av]) (ks:=[2,0,1,3,4,5,6,7,8,9,10]) rfl (by decide) ?_
     exact LN [0,3,4,5,6,7,8,9,10,1,2] (wr .i64 (mX + 1),yt,JG,(bI [.ext mG uP]),(Hs [.ext mG uP])) ⟨(mo f80),h⟩ rf rf rf
    ·
     refine SC 7 rf ?_
     refine bC (R:=[.ext mG uP]) (H':=[.cells b3 32 ((LI .u32).enc a1), .cells b2 41 ct, .cells b9 38 zA, .ext pA yo, .obj dd (.deferred (some [])), .obj lo (.loop { rec with state:=.busy }), .ext fz kD, .cells b7 41 sD, .cells b6 98 [.func (.func 42) #[] #[Ptr b3 0,Ptr b2 0]], .cells b4 41 av]) (ks:=[2,0,1,3,4,5,6,7,8,9,10]) rfl (by decide) ?_
     exact LN [0,3,4,5,6,7,8,9,10,1,2] (wr .i64 (mX + 1),om,zA,(bI [.ext mG uP]),(Hs [.ext mG uP])) ⟨(mo f71),h⟩ rf rf rf
   ·
    obtain ⟨wj,Ey,h⟩:=bu h
    refine SC 6 rf ?_
    refine ag rfl (aj rfl (aJ.len _ f43)) ?_
    refine ag rfl (ah rfl) ?_
    refine ag rfl (aj rfl (aJ.len _ f71)) ?_
    refine CB (jo (K:=(fun w=>K w∧Hs [.ext fz kD, .ext pA yo, .ext mG uP] w)) (mo f43) (mo f71) Ey) rf rf ?_
    rintro O6 rM Bt ⟨NJ,rfl,f86⟩
    replace f86:(ae).rep (fun w=>(fun w=>K w∧Hs [.ext fz kD, .ext pA yo, .ext mG uP] w) w∧Hs [.ext rM Bt] w) NJ wj.1:=f86
    refine SL 3 rf ?_
    refine ST (C:=(fun w=>K w∧Hs [.ext fz kD, .ext pA yo, .ext mG uP, .ext rM Bt] w)) wj.1 (aN.id (L:=ae)) (mo f43) (mo f86) rf rf rf rf rf fun zz f89=>?_
    refine SL 2 rf ?_
    refine bC (R:=[.ext rM Bt, .ext mG uP, .ext pA yo, .ext fz kD]) (H':=[.cells b9 38 zA, .obj dd (.deferred (some [])), .obj lo (.loop { rec with state:=.busy }), .cells b7 41 zz, .cells b6 98 [.func (.func 42) #[] #[Ptr b3 0,Ptr b2 0]], .cells b4 41 av, .cells b3 32 ((LI .u32).enc a1), .cells b2 41 ct]) (ks:=[0,1,3,6,2,4,5,7,8,9,10,11]) rfl (by decide) ?_
    exact jt qf tZ hT ⟨wj.1,zz,(bI [.ext rM Bt, .ext mG uP, .ext pA yo, .ext fz kD]),(Hs [.ext rM Bt, .ext mG uP, .ext pA yo, .ext fz kD])⟩ ⟨(mo f89),h⟩ (ks:=[2,3,0,4,5,6,7,8]) rfl (by decide)
  ·
   rintro NB ⟨ez,sD,fz,kD⟩ ⟨f43,h⟩
   replace h:fG Es Fs (fA.drop fA.length) ez = some r:=h
   replace h:=ri IX rfl h
   dsimp only [List.cons_append,List.nil_append]
   obtain ⟨BA,LC,h⟩:=bu h
   refine SX 4 rf ?_
   refine ag rfl (aj rfl (aJ.len _ f43)) ?_
   refine ag rfl (bQ (aN.id (L:=(LI .u32))) rfl) ?_
   refine CB (ke (K:=(fun w=>K w∧Hs [.ext fz kD] w)) (mo f43) LC) rf rf ?_
   rintro Rh xp Gg ⟨Ku,rfl,f96⟩
   replace f96:(ae).rep (fun w=>(fun w=>K w∧Hs [.ext fz kD] w) w∧Hs [.ext xp Gg] w) Ku BA.1:=f96
   refine SL 2 rf ?_
   refine ST (C:=(fun w=>K w∧Hs [.ext fz kD, .ext xp Gg] w)) BA.1 (aN.id (L:=ae)) aD (mo f96) rf rf rf rf rf fun NH f99=>?_
   refine SL 4 rf ?_
   have h:=sj h; subst h
   refine bC (R:=[.ext xp Gg, .ext fz kD]) (H':=[.obj NB (.deferred (some [])), .cells b4 41 NH]) (ks:=[0,4,1,7]) rfl (by decide) ?_
   have K3:(ae).rep (fun w=>K w∧(Hs [.ext (bI [.ext xp Gg, .ext fz kD]) (Hs [.ext xp Gg, .ext fz kD])]) w) NH BA.1:=aJ.mono _ dk f99
   exact jJ (.tuple #[A NH, .int .i64 BA.2],bI [.ext xp Gg, .ext fz kD],Hs [.ext xp Gg, .ext fz kD]) rfl (.agg rfl inferInstance inferInstance (aJ.len _ f99) (.tmp rfl .nil)) ⟨_,rfl,K3⟩ rfl (ks:=[0]) rfl (by decide)
  ·
   intro dd j i hf; exact hf.elim
def g8 (n:Nat) (a0:ai) (a1:Int):Option Int:=
 gu (!((decide (1 ≤ a1) && decide (a1 ≤ 32)) == true) || dU (wr .u32 (a1 - 1)) 32) <|
 cn (((decide (1 ≤ a1) && decide (a1 ≤ 32)) && ((a0.B.Is (Int.toNat (wr .u32 (a1 - 1)))) == 1))) (
 bd (eT n a0.B (wr .i64 (wr .u32 (a1 - 1)))) fun cB =>
 some cB) (
 some (wr .i64 a1))
theorem mC {n a0 a1 r K} [bF K] {ct} (f0:(ak).rep K ct a0) (h:g8 n a0 a1 = some r):qM Try.prog 24 [A ct, .int .u32 a1] K (.int .i64 r):=by
 unfold g8 at h
 refine fo Try.func24 (by kernel_rfl) rfl Try.ntmps24 rfl fun cx _ hro dc hpre=>?_
 refine SC 2 rf ?_
 refine W1 rf (bH rfl) fun b2=>?_
 obtain ⟨oD,h⟩:=cD h
 refine SL 9 rf ?_
 refine GB rf rf rf (fun hb=>ah rfl) ?_
 refine GB rf rf rf (fun hb=>nw (bT rfl hb) rfl) ?_
 refine ag rfl (cM rfl rfl) ?_
 refine ag rfl (ah rfl) ?_
 refine GB rf rf rf (fun hb=>ah rfl) ?_
 refine GB rf rf rf (fun hb=>oR (bT rfl hb) rfl rfl) ?_
 refine GB rf rf rf (fun hb=>aH rfl) ?_
 refine GB rf rf rf (fun hb=>aH (bT rfl hb)) ?_
 refine GB rf rf rf (fun hb=>bV (m:=(Int.toNat (wr .u32 (a1 - 1)))) (bT rfl hb) (bT rfl hb) (ay (gG oD hb)).1 (ay (gG oD hb)).2) ?_
 refine GB rf rf rf (fun hb=>bG (bT rfl hb) (((bN.c0 eM).comp (aN.idx (L:=(LI .i64)) (m:=32) (k:=1) ((Int.toNat (wr .u32 (a1 - 1)))) (ay (gG oD hb)).2 rfl)).int f0)) ?_
 refine GB rf rf rf (fun hb=>dM (bT rfl hb) rfl) ?_
 refine ag rfl (cM rfl rfl) ?_
 refine SL 2 rf ?_
 refine eS h rf (fun hc h=>?_) fun hc h=>?_
 ·
  obtain ⟨cB,gE,h⟩:=bu h
  refine SC 3 rf ?_
  refine ag rfl (aR rfl (bg.iff.1 (bN.get f0)) (bx _ _)) ?_
  refine SL 3 rf ?_
  refine CV (gP gE) rf rf ?_
  refine SL 5 rf ?_
  have h:=sj h; subst h
  exact RV rf (rt rf rn) rf
 ·
  refine SC 10 rf ?_
  have h:=sj h; subst h
  exact RV rf (rt rf rn) rf
def lU (n:Nat) (a0:(List Int)) (a1:(List Int)):Option Bool:=
 cn (((a0.length:Int) != (a1.length:Int))) (
 some false) (
 ef (fun wK (cB:Int) =>
 cn (decide (cB < (a0.length:Int))) (
 gu (dU cB a0.length) <|
 gu (dU cB a1.length) <|
 cn (((wr .i64 (a0.getD (Int.toNat cB) default)) != (a1.getD (Int.toNat cB) default))) (
 some false) (
 wK (wr .i64 (cB + 1)))) (
 some true)) n 0)
theorem vH {n a0 a1 r K} [bF K] {v0} (f0:Fz K v0 (LI .u32) a0) {v1:Value} (f1:Fz K v1 (LI .i64) a1) (h:lU n a0 a1 = some r):qM Try.prog 26 [v0,v1] K (.bool r):=by
 unfold lU at h
 refine fo Try.func26 (by kernel_rfl) rfl Try.ntmps26 rfl fun cx _ hro dc hpre=>?_
 refine SC 9 rf ?_
 refine ag rfl (dH f0 rfl) ?_
 refine ag rfl (ah rfl) ?_
 refine ag rfl (dH f1 rfl) ?_
 refine SL 3 rf ?_
 refine eS h rf (fun hc h=>?_) fun hc h=>?_
 ·
  refine SC 7 rf ?_
  have h:=sj h; subst h
  exact RV rf (rt rf rn) rf
 ·
  refine SC 9 rf ?_
  obtain ⟨q8,ni,h⟩:=ld h
  refine LO (β:=Int) [0,1] [] (fun (m7,cB)=>[(5, .int .i64 cB)]) (fun (m7,cB)=>[]) (fun (m7,cB)=>ef q8 m7 cB = some r) (n,0) h rf rf rf ?_
  rintro m7 cB h
  replace h:=k9 ni h; obtain ⟨m7,rfl,h⟩:=h
  refine SC 5 rf ?_
  refine ag rfl (dH f0 rfl) ?_
  refine SL 3 rf ?_
  refine eS h rf (fun hc h=>?_) fun hc h=>?_
  ·
   refine SC 5 rf ?_
   obtain ⟨mS,h⟩:=cD h
   obtain ⟨oB,h⟩:=cD h
   refine dy mixed (.fin [] [(0,[0]),(1,[5]),(2,[17,18]),(3,[19]),(4,[20]),(5,[1]),(6,[5]),(7,[22,23]),(8,[24]),(9,[21,25])]) (by kernel_rfl) ?_
   refine F0 ?_
   refine NS 2 rf ?_
   refine NV rf rf (dL (m:=(Int.toNat cB)) f0 rfl rfl rfl (ay mS).1 (ay mS).2) ?_
   refine NV rf rf (dJ f0 (aN.idx (L:=(LI .u32)) (m:=(a0.length)) (k:=1) ((Int.toNat cB)) (ay mS).2 rfl) rfl) ?_
   refine NS 3 rf ?_
   refine NV rf rf (dL (m:=(Int.toNat cB)) f1 rfl rfl rfl (ay oB).1 (ay oB).2) ?_
   refine NV rf rf (dJ f1 (aN.idx (L:=(LI .i64)) (m:=(a1.length)) (k:=1) ((Int.toNat cB)) (ay oB).2 rfl) rfl) ?_
   refine NE 1 rf ?_
   refine aI ?_
   refine eS h rf (fun hc h=>?_) fun hc h=>?_
   ·
    refine SC 11 rf ?_
    have h:=sj h; subst h
    exact RV rf (rt rf rn) rf
   ·
    refine SC 8 rf ?_
    exact LN [] (wr .i64 (cB + 1)) h rf rf rf
  ·
   refine SC 11 rf ?_
   have h:=sj h; subst h
   exact RV rf (rt rf rn) rf
structure gS where
 Do:Int
 A:Int
 B:Int
 C:Int
 cq:Int
abbrev bS:aJ gS:=aJ.via (LP (LI .u8) (LP (LI .u32) (LP (LI .u32) (LP (LI .u32) (LI .i64))))) (fun x=>(x.Do,x.A,x.B,x.C,x.cq))
abbrev ql:gS:=⟨0,0,0,0,0⟩
instance:Inhabited gS:=⟨ql⟩
theorem nC:aN bS (LI .u8) 0 (fun x=>x.Do) (fun x v=>{ x with Do:=v }):=(aN.fst aN.id).via _ _ _ 0 rfl (fun _=>rfl) (fun _ _=>rfl)
theorem oe:aN bS (LI .u32) 1 (fun x=>x.A) (fun x v=>{ x with A:=v }):=(aN.snd (aN.fst aN.id)).via _ _ _ 1 rfl (fun _=>rfl) (fun _ _=>rfl)
theorem iM:aN bS (LI .u32) 2 (fun x=>x.B) (fun x v=>{ x with B:=v }):=(aN.snd (aN.snd (aN.fst aN.id))).via _ _ _ 2 rfl (fun _=>rfl) (fun _ _=>rfl)
theorem od:aN bS (LI .u32) 3 (fun x=>x.C) (fun x v=>{ x with C:=v }):=(aN.snd (aN.snd (aN.snd (aN.fst aN.id)))).via _ _ _ 3 rfl (fun _=>rfl) (fun _ _=>rfl)
theorem gY:aN bS (LI .i64) 4 (fun x=>x.cq) (fun x v=>{ x with cq:=v }):=(aN.snd (aN.snd (aN.snd (aN.snd aN.id)))).via _ _ _ 4 rfl (fun _=>rfl) (fun _ _=>rfl)
def kO (n:Nat) (a0:au) (a1:ai) (a2:gS):Option (au × ai × Bool):=
 bd (g8 n a1 a2.A) fun bp =>
 bd (g8 n a1 a2.B) fun cB =>
 bd (g8 n a1 a2.C) fun kg =>
 lt (fun (dS:Int) (cR:Int) (eN:Bool) (eH:ai) (fA:au) =>
 some (fA,eH,(eN && (dS == cR)))) fun Cj =>
 cn ((a2.Do == 0)) (
 bd (jR n a0 (wr .u32 bp)) fun gi =>
 bd (kM n a1 bp) fun wm =>
 bd (lU n gi.2.1 wm.2.1) fun zE =>
 Cj gi.2.2 wm.2.2 zE wm.1 gi.1) (
 cn ((a2.Do == 1)) (
 bd (kR n a0 (wr .u32 bp)) fun tE =>
 bd (lO n a1 bp) fun DW =>
 Cj tE.2 DW.2 true DW.1 tE.1) (
 cn ((a2.Do == 2)) (
 bd (jn n a0 (wr .u32 bp) (wr .u32 cB)) fun wj =>
 bd (jL n a1 bp cB) fun DU =>
 Cj wj.2 DU.2 true DU.1 wj.1) (
 cn ((a2.Do == 3)) (
 bd (cU n a0 (wr .u32 bp)) fun Bz =>
 gu (dU (Int.tmod a2.B 8) 8) <|
 lt ({ Bz.1 with Cells:=(eO Bz.1.Cells (Int.toNat (Int.tmod a2.B 8)) (wr .u32 kg)) }:bE) fun DY =>
 bd (ep n a1 bp) fun r6 =>
 gu (dU (Int.tmod a2.B 8) 8) <|
 lt ({ r6.1 with Cells:=(eO r6.1.Cells (Int.toNat (Int.tmod a2.B 8)) kg) }:cr) fun DX =>
 cn (((Bz.2 == 0) && (r6.2 == 0))) (
 bd (dP n a0 (wr .u32 bp) DY) fun wq =>
 bd (eK n a1 bp DX) fun wo =>
 Cj wq.2 wo.2 (Bz.2 == r6.2) wo.1 wq.1) (
 Cj 0 0 (Bz.2 == r6.2) a1 a0)) (
 bd (ia n a0 (wr .u32 bp) a2.cq) fun r5 =>
 bd (lN n a1 bp a2.cq) fun rZ =>
 Cj r5.2.2 rZ.2.2 ((wr .i64 r5.2.1) == rZ.2.1) rZ.1 r5.1))))
theorem uy {n a0 a1 a2 r K} [bF K] {ct} (f0:(ae).rep K ct a0) {lH:List Value} (f1:(ak).rep K lH a1) (h:kO n a0 a1 a2 = some r):p9 Try.prog 9 [A ct,A lH, .agg (bS.enc a2).toArray] K (fun J v=>∃u0 u1,v = (.tuple #[A u0,A u1, .bool r.2.2])∧(ae).rep (fun w=>K w∧J w) u0 (r.1)∧(ak).rep (fun w=>K w∧J w) u1 (r.2.1)):=by
 unfold kO at h
 refine fo Try.func9 (by kernel_rfl) rfl Try.ntmps9 rfl fun cx _ hro dc hpre=>?_
 refine SC 2 rf ?_
 refine W1 rf (bH rfl) fun b3=>?_
 refine W1 rf (bH rfl) fun b4=>?_
 refine W1 rf (fa bS a2 rfl rfl) fun b5=>?_
 refine W1 rf (bk (hz:=(⟨by kernel_rfl⟩ : bY Try.prog 41 av))) fun b6=>?_
 refine W1 rf (bk (hz:=(⟨by kernel_rfl⟩ : bY Try.prog 53 aE))) fun b7=>?_
 refine SL 4 rf ?_
 obtain ⟨bp,cu,h⟩:=bu h
 obtain ⟨cB,gE,h⟩:=bu h
 obtain ⟨kg,lB,h⟩:=bu h
 refine dy mixed (.iH [] [(0,[4]),(1,[5]),(2,[34]),(3,[33,35]),(4,[4]),(5,[5]),(6,[38]),(7,[37,39]),(8,[4]),(9,[5]),(10,[42]),(11,[41,43])] (.alt 12 [36] (.iH [] [] (.alt 13 [40] (.iH [] [] (.alt 14 [44] (.fin [] []) .no)) .no)) .no)) (by kernel_rfl) ?_
 refine T0 ?_
 refine NV rf rf (aj rfl (aJ.len _ f1)) ?_
 refine NS 1 rf ?_
 refine NV rf rf (bQ oe rfl) ?_
 refine NC rf rf (mC (K:=K) (mo f1) cu) rf ?_
 refine NV rf rf (aj rfl (aJ.len _ f1)) ?_
 refine NS 1 rf ?_
 refine NV rf rf (bQ iM rfl) ?_
 refine NC rf rf (mC (K:=K) (mo f1) gE) rf ?_
 refine NV rf rf (aj rfl (aJ.len _ f1)) ?_
 refine NS 1 rf ?_
 refine NV rf rf (bQ od rfl) ?_
 refine NC rf rf (mC (K:=K) (mo f1) lB) rf ?_
 refine bA ?_
 refine XV rf rf (aC rfl) ?_
 refine DJ ?_
 refine XV rf rf (aC rfl) ?_
 refine DJ ?_
 refine XV rf rf (aC rfl) ?_
 refine rT ?_
 refine SX 22 rf ?_
 obtain ⟨Cj,MH,h⟩:=cQ h
 refine CU (α:=Int × Int × Bool × ai × au × (List Value) × (List Value) × (List Nat) × (World→Prop)) [3,4,6,7] rf (fun (dS,cR,eN,eH,fA,sE,xn,vO,DR)=>[(14, .int .i64 dS),(15, .int .i64 cR),(16, .bool eN)]) (fun (dS,cR,eN,eH,fA,sE,xn,vO,DR)=>[.ext vO DR, .cells b7 53 aE, .cells b6 41 av, .cells b5 55 (bS.enc a2), .cells b4 53 sE, .cells b3 41 xn]) (fun (dS,cR,eN,eH,fA,sE,xn,vO,DR)=>(ak).rep (fun w=>K w∧Hs [.ext vO DR] w) sE eH∧(ae).rep (fun w=>K w∧Hs [.ext vO DR] w) xn fA∧Cj dS cR eN eH fA = some r) ?_ ?_
 ·
  refine SC 3 rf ?_
  refine ag rfl (bQ nC rfl) ?_
  refine SL 9 rf ?_
  refine eS h rf (fun hc h=>?_) fun hc h=>?_
  ·
   obtain ⟨gi,j4,h⟩:=bu h
   refine SC 2 rf ?_
   refine ag rfl (aj rfl (aJ.len _ f0)) ?_
   refine ag rfl (ah rfl) ?_
   refine CB (sC (K:=K) (mo f0) j4) rf rf ?_
   rintro O7 jC p7 ⟨sD,KQ,rfl,f41,f43⟩
   replace f41:(ae).rep (fun w=>K w∧Hs [.ext jC p7] w) sD gi.1:=f41
   replace f43:Fz (fun w=>K w∧Hs [.ext jC p7] w) KQ (LI .u32) gi.2.1:=f43
   refine SL 4 rf ?_
   refine W1 rf (bk (hz:=(⟨by kernel_rfl⟩ : bY Try.prog 41 av))) fun QU=>?_
   refine ST (C:=(fun w=>K w∧Hs [.ext jC p7] w)) gi.1 (aN.id (L:=ae)) aD (mo f41) rf rf rf rf rf fun vJ f46=>?_
   obtain ⟨wm,LW,h⟩:=bu h
   refine SL 6 rf ?_
   refine ag rfl (aj rfl (aJ.len _ f1)) ?_
   refine ag rfl (ah rfl) ?_
   refine CB (ux (K:=K) (mo f1) LW) rf rf ?_
   rintro Ru vN DQ ⟨CR,Pg,rfl,f52,f54⟩
   replace f52:(ak).rep (fun w=>K w∧Hs [.ext vN DQ] w) CR wm.1:=f52
   replace f54:Fz (fun w=>K w∧Hs [.ext vN DQ] w) Pg (LI .i64) wm.2.1:=f54
   refine SL 4 rf ?_
   refine W1 rf (bk (hz:=(⟨by kernel_rfl⟩ : bY Try.prog 53 aE))) fun OP=>?_
   refine ST (C:=(fun w=>K w∧Hs [.ext vN DQ] w)) wm.1 (aN.id (L:=ak)) aP (mo f52) rf rf rf rf rf fun vI f57=>?_
   refine SL 5 rf ?_
   refine dy mixed (.iH [] [(0,[17]),(1,[20]),(2,[19]),(3,[22])] (.alt 4 [3,93] (.iH [(1,[20]),(2,[19]),(3,[22])] [] (.alt 5 [4,94] (.iH [(2,[19]),(3,[22])] [] (.alt 6 [95] (.iH [(3,[22])] [] (.alt 7 [96] (.fin [] []) .no)) .no)) .no)) .no)) (by kernel_rfl) ?_
   refine T0 ?_
   refine NV rf rf (aj rfl (aJ.len _ f46)) ?_
   refine NV rf rf (aj rfl (aJ.len _ f57)) ?_
   refine NE 2 rf ?_
   obtain ⟨FL,Fa,f59⟩:=zu (C:=(fun w=>K w∧Hs [.ext jC p7] w)) (x':=gi.1) (aN.id (L:=ae)) (mo f0) (mo f46) rf
   refine X0 rf (zD Fa rf rf rf rf) ?_
   refine eA ?_ ?_
   ·
    refine RO rf rf (aj rfl (aJ.len _ f57)) rf ?_
    exact RE 2 rf rf
   refine bA ?_
   obtain ⟨y7,E9,f61⟩:=zu (C:=(fun w=>K w∧Hs [.ext vN DQ] w)) (x':=wm.1) (aN.id (L:=ak)) (mo f1) (mo f57) rf
   refine X0 rf (zD E9 rf rf rf rf) ?_
   refine eA ?_ ?_
   ·
    exact RE 2 rf rf
   refine bA ?_
   refine XV rf rf (aC rfl) ?_
   refine eA ?_ ?_
   ·
    exact RE 1 rf rf
   refine bA ?_
   refine XV rf rf (aC rfl) ?_
   refine rT ?_
   obtain ⟨zE,Am,h⟩:=bu h
   refine SX 4 rf ?_
   refine CV (vH (K:=(fun w=>K w∧Hs [.ext jC p7, .ext vN DQ] w)) (f43.mono dk) (f54.mono dk) Am) rf rf ?_
   refine SL 3 rf ?_
   refine bC (R:=[.ext vN DQ, .ext jC p7]) (H':=[.cells OP 53 vI, .cells QU 41 vJ, .cells b7 53 aE, .cells b6 41 av, .cells b5 55 (bS.enc a2), .cells b4 53 y7, .cells b3 41 FL]) (ks:=[1,3,0,2,4,5,6,7,8]) rfl (by decide) ?_
   exact CE [0,3,4,5,6,7] (gi.2.2,wm.2.2,zE,wm.1,gi.1,y7,FL,(bI [.ext vN DQ, .ext jC p7]),(Hs [.ext vN DQ, .ext jC p7])) ⟨(mo f61),(mo f59),h⟩ rf rf rf
  ·
   refine SC 6 rf ?_
   refine eS h rf (fun hc h=>?_) fun hc h=>?_
   ·
    obtain ⟨tE,LQ,h⟩:=bu h
    refine SC 2 rf ?_
    refine ag rfl (aj rfl (aJ.len _ f0)) ?_
    refine ag rfl (ah rfl) ?_
    refine CB (uB (K:=K) (mo f0) LQ) rf rf ?_
    rintro Rp Be Kb ⟨QE,rfl,f68⟩
    replace f68:(ae).rep (fun w=>K w∧Hs [.ext Be Kb] w) QE tE.1:=f68
    refine SL 3 rf ?_
    refine ST (C:=(fun w=>K w∧Hs [.ext Be Kb] w)) tE.1 (aN.id (L:=ae)) (mo f0) (mo f68) rf rf rf rf rf fun zA f71=>?_
    obtain ⟨DW,LK,h⟩:=bu h
    refine SL 4 rf ?_
    refine ag rfl (aj rfl (aJ.len _ f1)) ?_
    refine ag rfl (ah rfl) ?_
    refine CB (vG (K:=K) (mo f1) LK) rf rf ?_
    rintro Rk Bd Ka ⟨JH,rfl,f77⟩
    replace f77:(ak).rep (fun w=>K w∧Hs [.ext Bd Ka] w) JH DW.1:=f77
    refine SL 3 rf ?_
    refine ST (C:=(fun w=>K w∧Hs [.ext Bd Ka] w)) DW.1 (aN.id (L:=ak)) (mo f1) (mo f77) rf rf rf rf rf fun JG f80=>?_
    refine SL 3 rf ?_
    refine bC (R:=[.ext Bd Ka, .ext Be Kb]) (H':=[.cells b7 53 aE, .cells b6 41 av, .cells b5 55 (bS.enc a2), .cells b4 53 JG, .cells b3 41 zA]) (ks:=[0,1,2,3,4,5,6]) rfl (by decide) ?_
    exact CE [0,1,2,3,4,5] (tE.2,DW.2,true,DW.1,tE.1,JG,zA,(bI [.ext Bd Ka, .ext Be Kb]),(Hs [.ext Bd Ka, .ext Be Kb])) ⟨(mo f80),(mo f71),h⟩ rf rf rf
   ·
    refine SC 6 rf ?_
    refine eS h rf (fun hc h=>?_) fun hc h=>?_
    ·
     obtain ⟨wj,Ey,h⟩:=bu h
     refine SC 2 rf ?_
     refine ag rfl (aj rfl (aJ.len _ f0)) ?_
     refine SL 2 rf ?_
     refine CB (rK (K:=K) (mo f0) Ey) rf rf ?_
     rintro O6 rM Bt ⟨NJ,rfl,f86⟩
     replace f86:(ae).rep (fun w=>K w∧Hs [.ext rM Bt] w) NJ wj.1:=f86
     refine SL 3 rf ?_
     refine ST (C:=(fun w=>K w∧Hs [.ext rM Bt] w)) wj.1 (aN.id (L:=ae)) (mo f0) (mo f86) rf rf rf rf rf fun zz f89=>?_
     obtain ⟨DU,LD,h⟩:=bu h
     refine SL 4 rf ?_
     refine ag rfl (aj rfl (aJ.len _ f1)) ?_
     refine SL 2 rf ?_
     refine CB (sx (K:=K) (mo f1) LD) rf rf ?_
     rintro Ri Bc J9 ⟨JF,rfl,f95⟩
     replace f95:(ak).rep (fun w=>K w∧Hs [.ext Bc J9] w) JF DU.1:=f95
     refine SL 3 rf ?_
     refine ST (C:=(fun w=>K w∧Hs [.ext Bc J9] w)) DU.1 (aN.id (L:=ak)) (mo f1) (mo f95) rf rf rf rf rf fun Ku f98=>?_
     refine SL 3 rf ?_
     refine bC (R:=[.ext Bc J9, .ext rM Bt]) (H':=[.cells b7 53 aE, .cells b6 41 av, .cells b5 55 (bS.enc a2), .cells b4 53 Ku, .cells b3 41 zz]) (ks:=[0,1,2,3,4,5,6]) rfl (by decide) ?_
     exact CE [0,1,2,3,4,5] (wj.2,DU.2,true,DU.1,wj.1,Ku,zz,(bI [.ext Bc J9, .ext rM Bt]),(Hs [.ext Bc J9, .ext rM Bt])) ⟨(mo f98),(mo f89),h⟩ rf rf rf
    ·
     refine SC 6 rf ?_
     refine eS h rf (fun hc h=>?_) fun hc h=>?_
     ·
      obtain ⟨Bz,Lv,h⟩:=bu h
      refine SC 2 rf ?_
      refine ag rfl (aj rfl (aJ.len _ f0)) ?_
      refine ag rfl (ah rfl) ?_
      refine CB (dY (K:=K) (mo f0) Lv) rf rf ?_
      rintro Pd n9 sL ⟨NT,rfl,f104⟩
      replace f104:(ax).rep (fun w=>K w∧Hs [.ext n9 sL] w) NT Bz.1:=f104
      refine SL 3 rf ?_
      refine W1 rf (bk (hz:=(⟨by kernel_rfl⟩ : bY Try.prog 38 aX))) fun JV=>?_
      refine ST (C:=(fun w=>K w∧Hs [.ext n9 sL] w)) Bz.1 (aN.id (L:=ax)) bL (mo f104) rf rf rf rf rf fun QM Nq=>?_
      obtain ⟨AP,h⟩:=cD h
      obtain ⟨DY,Ib,h⟩:=cQ h
      refine SL 6 rf ?_
      refine ag rfl (bQ iM rfl) ?_
      refine ag rfl (Bo rfl rfl (by decide) rfl) ?_
      refine SL 3 rf ?_
      refine ag rfl (bV (m:=(Int.toNat (Int.tmod a2.B 8))) rfl rfl (ay AP).1 (ay AP).2) ?_
      refine ST (C:=(fun w=>K w∧Hs [.ext n9 sL] w)) DY (dN.comp (aN.idx (L:=(LI .u32)) (m:=8) (k:=1) ((Int.toNat (Int.tmod a2.B 8))) (ay AP).2 rfl)) (mo Nq) fl Ib rf rf rf rf fun JR Jq=>?_
      obtain ⟨r6,Ia,h⟩:=bu h
      refine SL 4 rf ?_
      refine ag rfl (aj rfl (aJ.len _ f1)) ?_
      refine ag rfl (ah rfl) ?_
      refine CB (gW (K:=K) (mo f1) Ia) rf rf ?_
      rintro Pc n8 sK ⟨NR,rfl,FD⟩
      replace FD:(aO).rep (fun w=>K w∧Hs [.ext n8 sK] w) NR r6.1:=FD
      refine SL 3 rf ?_
      refine W1 rf (bk (hz:=(⟨by kernel_rfl⟩ : bY Try.prog 50 fc))) fun JU=>?_
      refine ST (C:=(fun w=>K w∧Hs [.ext n8 sK] w)) r6.1 (aN.id (L:=aO)) fb (mo FD) rf rf rf rf rf fun QL Np=>?_
      obtain ⟨AO,h⟩:=cD h
      obtain ⟨DX,H9,h⟩:=cQ h
      refine SL 6 rf ?_
      refine ag rfl (bQ iM rfl) ?_
      refine ag rfl (Bo rfl rfl (by decide) rfl) ?_
      refine SL 2 rf ?_
      refine ag rfl (bV (m:=(Int.toNat (Int.tmod a2.B 8))) rfl rfl (ay AO).1 (ay AO).2) ?_
      refine ST (C:=(fun w=>K w∧Hs [.ext n8 sK] w)) DX (dO.comp (aN.idx (L:=(LI .i64)) (m:=8) (k:=1) ((Int.toNat (Int.tmod a2.B 8))) (ay AO).2 rfl)) (mo Np) fl H9 rf rf rf rf fun JQ Jp=>?_
      refine SL 8 rf ?_
      refine GB rf rf rf (fun hb=>ah rfl) ?_
      refine GB rf rf rf (fun hb=>dM (bT rfl hb) rfl) ?_
      refine ag rfl (cM rfl rfl) ?_
      refine SL 2 rf ?_
      refine eS h rf (fun hc h=>?_) fun hc h=>?_
      ·
       obtain ⟨wq,H8,h⟩:=bu h
       refine SC 2 rf ?_
       refine ag rfl (aj rfl (aJ.len _ f0)) ?_
       refine ag rfl (ah rfl) ?_
       refine ag rfl (aj rfl (aJ.len _ Jq)) ?_
       refine CB (jo (K:=(fun w=>K w∧Hs [.ext n9 sL] w)) (mo f0) (mo Jq) H8) rf rf ?_
       rintro Pb vQ Bv ⟨NQ,rfl,FC⟩
       replace FC:(ae).rep (fun w=>(fun w=>K w∧Hs [.ext n9 sL] w) w∧Hs [.ext vQ Bv] w) NQ wq.1:=FC
       refine SL 3 rf ?_
       refine ST (C:=(fun w=>K w∧Hs [.ext n9 sL, .ext vQ Bv] w)) wq.1 (aN.id (L:=ae)) (mo f0) (mo FC) rf rf rf rf rf fun JP No=>?_
       obtain ⟨wo,H7,h⟩:=bu h
       refine SL 4 rf ?_
       refine ag rfl (aj rfl (aJ.len _ f1)) ?_
       refine ag rfl (ah rfl) ?_
       refine ag rfl (aj rfl (aJ.len _ Jp)) ?_
       refine CB (pe (K:=(fun w=>K w∧Hs [.ext n8 sK] w)) (mo f1) (mo Jp) H7) rf rf ?_
       rintro Pa vP Bu ⟨NP,rfl,FB⟩
       replace FB:(ak).rep (fun w=>(fun w=>K w∧Hs [.ext n8 sK] w) w∧Hs [.ext vP Bu] w) NP wo.1:=FB
       refine SL 3 rf ?_
       refine ST (C:=(fun w=>K w∧Hs [.ext n8 sK, .ext vP Bu] w)) wo.1 (aN.id (L:=ak)) (mo f1) (mo FB) rf rf rf rf rf fun JO Nn=>?_
       refine SL 10 rf ?_
       refine bC (R:=[.ext vP Bu, .ext vQ Bv, .ext n8 sK, .ext n9 sL]) (H':=[.cells JU 50 JQ, .cells JV 38 JR, .cells b7 53 aE, .cells b6 41 av, .cells b5 55 (bS.enc a2), .cells b4 53 JO, .cells b3 41 JP]) (ks:=[0,1,3,5,2,4,6,7,8,9,10]) rfl (by decide) ?_
       exact CE [0,3,4,5,6,7] (wq.2,wo.2,(Bz.2 == r6.2),wo.1,wq.1,JO,JP,(bI [.ext vP Bu, .ext vQ Bv, .ext n8 sK, .ext n9 sL]),(Hs [.ext vP Bu, .ext vQ Bv, .ext n8 sK, .ext n9 sL])) ⟨(mo Nn),(mo No),h⟩ rf rf rf
      ·
       refine SC 9 rf ?_
       refine bC (R:=[]) (H':=[.cells JU 50 JQ, .ext n8 sK, .cells JV 38 JR, .ext n9 sL, .cells b7 53 aE, .cells b6 41 av, .cells b5 55 (bS.enc a2), .cells b4 53 lH, .cells b3 41 ct]) (ks:=[0,1,2,3,4,5,6,7,8]) rfl (by decide) ?_
       exact CE [0,5,6,7,8,9] (0,0,(Bz.2 == r6.2),a1,a0,lH,ct,(bI []),(Hs [])) ⟨(mo f1),(mo f0),h⟩ rf rf rf
     ·
      obtain ⟨r5,H6,h⟩:=bu h
      refine SC 2 rf ?_
      refine ag rfl (aj rfl (aJ.len _ f0)) ?_
      refine SL 2 rf ?_
      refine ag rfl (bQ gY rfl) ?_
      refine CB (ku (K:=K) (mo f0) H6) rf rf ?_
      rintro O9 tv zl ⟨NO,rfl,Fy⟩
      replace Fy:(ae).rep (fun w=>K w∧Hs [.ext tv zl] w) NO r5.1:=Fy
      refine SL 4 rf ?_
      refine W1 rf (bk (hz:=(⟨by kernel_rfl⟩ : bY Try.prog 41 av))) fun OO=>?_
      refine ST (C:=(fun w=>K w∧Hs [.ext tv zl] w)) r5.1 (aN.id (L:=ae)) aD (mo Fy) rf rf rf rf rf fun NN Jo=>?_
      obtain ⟨rZ,HZ,h⟩:=bu h
      refine SL 6 rf ?_
      refine ag rfl (aj rfl (aJ.len _ f1)) ?_
      refine SL 2 rf ?_
      refine ag rfl (bQ gY rfl) ?_
      refine CB (vF (K:=K) (mo f1) HZ) rf rf ?_
      rintro O8 tu zk ⟨NM,rfl,Fx⟩
      replace Fx:(ak).rep (fun w=>K w∧Hs [.ext tu zk] w) NM rZ.1:=Fx
      refine SL 4 rf ?_
      refine W1 rf (bk (hz:=(⟨by kernel_rfl⟩ : bY Try.prog 53 aE))) fun QN=>?_
      refine ST (C:=(fun w=>K w∧Hs [.ext tu zk] w)) rZ.1 (aN.id (L:=ak)) aP (mo Fx) rf rf rf rf rf fun NL Fw=>?_
      refine SL 5 rf ?_
      refine dy mixed (.iH [] [(0,[27]),(1,[30]),(2,[29]),(3,[32])] (.alt 4 [3,69] (.iH [(1,[30]),(2,[29]),(3,[32])] [] (.alt 5 [4,70] (.iH [(2,[29]),(3,[32])] [] (.alt 6 [71] (.iH [(3,[32])] [] (.alt 7 [72] (.fin [] []) .no)) .no)) .no)) .no)) (by kernel_rfl) ?_
      refine T0 ?_
      refine NV rf rf (aj rfl (aJ.len _ Jo)) ?_
      refine NV rf rf (aj rfl (aJ.len _ Fw)) ?_
      refine NE 2 rf ?_
      obtain ⟨JN,Jd,Nm⟩:=zu (C:=(fun w=>K w∧Hs [.ext tv zl] w)) (x':=r5.1) (aN.id (L:=ae)) (mo f0) (mo Jo) rf
      refine X0 rf (zD Jd rf rf rf rf) ?_
      refine eA ?_ ?_
      ·
       refine RO rf rf (aj rfl (aJ.len _ Fw)) rf ?_
       exact RE 2 rf rf
      refine bA ?_
      obtain ⟨JM,Jc,Nl⟩:=zu (C:=(fun w=>K w∧Hs [.ext tu zk] w)) (x':=rZ.1) (aN.id (L:=ak)) (mo f1) (mo Fw) rf
      refine X0 rf (zD Jc rf rf rf rf) ?_
      refine eA ?_ ?_
      ·
       exact RE 2 rf rf
      refine bA ?_
      refine XV rf rf (aC rfl) ?_
      refine eA ?_ ?_
      ·
       exact RE 1 rf rf
      refine bA ?_
      refine XV rf rf (aC rfl) ?_
      refine rT ?_
      refine SX 9 rf ?_
      refine bC (R:=[.ext tu zk, .ext tv zl]) (H':=[.cells QN 53 NL, .cells OO 41 NN, .cells b7 53 aE, .cells b6 41 av, .cells b5 55 (bS.enc a2), .cells b4 53 JM, .cells b3 41 JN]) (ks:=[1,3,0,2,4,5,6,7,8]) rfl (by decide) ?_
      exact CE [0,3,4,5,6,7] (r5.2.2,rZ.2.2,((wr .i64 r5.2.1) == rZ.2.1),rZ.1,r5.1,JM,JN,(bI [.ext tu zk, .ext tv zl]),(Hs [.ext tu zk, .ext tv zl])) ⟨(mo Nl),(mo Nm),h⟩ rf rf rf
 ·
  rintro ⟨dS,cR,eN,eH,fA,sE,xn,vO,DR⟩ ⟨f31,f34,h⟩
  replace h:Cj dS cR eN eH fA = some r:=h
  replace h:=HK MH h
  refine aS ?_
  refine dy mixed (.iH [] [(0,[3]),(1,[4]),(2,[16]),(3,[182]),(4,[14,183]),(5,[15,183]),(6,[183,184,185]),(7,[183,186])] (.alt 8 [6,180] (.iH [(1,[4]),(4,[14,183]),(5,[15,183]),(6,[183,184,185]),(7,[183,186])] [] (.alt 9 [7,181] (.iH [(4,[14,183]),(5,[15,183]),(6,[183,184,185]),(7,[183,186])] [] (.alt 10 [187] (.fin [] []) .no)) .no)) .no)) (by kernel_rfl) ?_
  refine T0 ?_
  refine NV rf rf (aj rfl (aJ.len _ f34)) ?_
  refine NV rf rf (aj rfl (aJ.len _ f31)) ?_
  refine NS 2 rf ?_
  refine NG rf rf (cg rfl rfl) (fun hb=>ah rfl) ?_
  refine NG rf rf (cg rfl rfl) (fun hb=>ah rfl) ?_
  refine NG rf rf (cg rfl rfl) (fun hb=>dM (bT rfl hb) (bT rfl hb)) ?_
  refine NV rf rf (cM rfl rfl) ?_
  refine bA ?_
  obtain ⟨QK,Jb,Jn⟩:=zu (C:=(fun w=>K w∧Hs [.ext vO DR] w)) (x':=fA) (aN.id (L:=ae)) aD (mo f34) rf
  refine X0 rf (zD Jb rf rf rf rf) ?_
  refine eA ?_ ?_
  ·
   refine RO rf rf (aj rfl (aJ.len _ f31)) rf ?_
   refine iE rfl rfl (xx (cg rfl rfl) (fun hb=>ah rfl)) ?_
   refine iE rfl rfl (xx (cg rfl rfl) (fun hb=>ah rfl)) ?_
   refine iE rfl rfl (xx (cg rfl rfl) (fun hb=>rP (dM (bT rfl hb) (bT rfl hb)) rfl)) ?_
   refine RO rf rf (cM rfl rfl) rf ?_
   exact gQ
  refine bA ?_
  obtain ⟨QJ,Ja,Jm⟩:=zu (C:=(fun w=>K w∧Hs [.ext vO DR] w)) (x':=eH) (aN.id (L:=ak)) aP (mo f31) rf
  refine X0 rf (zD Ja rf rf rf rf) ?_
  refine eA ?_ ?_
  ·
   refine iE rfl rfl (xx (cg rfl rfl) (fun hb=>ah rfl)) ?_
   refine iE rfl rfl (xx (cg rfl rfl) (fun hb=>ah rfl)) ?_
   refine iE rfl rfl (xx (cg rfl rfl) (fun hb=>rP (dM (bT rfl hb) (bT rfl hb)) rfl)) ?_
   refine RO rf rf (cM rfl rfl) rf ?_
   exact gQ
  refine bA ?_
  refine XV rf rf (aC rfl) ?_
  refine rT ?_
  refine SX 2 rf ?_
  have h:=sj h; subst h
  exact k7 [0] rf rf (ra rf (aJ.len _ Jn) (ra rf (aJ.len _ Jm) (rt rf rn))) ⟨_,_,rfl,(mo Jn),(mo Jm)⟩
end Go.Proofs.Ytbalnnoofdkbaaa
namespace Go.Proofs.Ytbalnnoofdkbaaa
open Go Go.Bw
def dg (w:ai) (x:Int):Int:=(w.R (ck x)).Up
abbrev Gw (w:ai):List Int:=cT w.B 32
theorem wh {t:au} {w:ai} (r:fF t w) (tt:iL w):∃ρ,Fo (Gw w) (dg w) ρ:=by
  obtain ⟨q,hq⟩:=tt
  have hm:=cX r.book
  refine ⟨fun x=>rH (fun j=>decide (q j < q (ck x))) 32,⟨rm r.book 32 (by omega),gF _ _,fun x hx=>?_,fun x hx=>?_,fun x hx=>?_,fun x hx hu=>?_⟩⟩
  · have:=iB ((hm x).1 hx); omega
  · exact (r.D2 ((hm x).1 hx)).imp _root_.id (hm _).2
  · have:=o8 (p:=fun j=>decide (q j < q (ck x))) (q:=fun _=>true) (fun _ _=>rfl) (c:=ck x) (by simp) rfl 32 (kI _)
    have:=uq (fun _=>true) 32
    omega
  · obtain ⟨l1,l2⟩:=dA ((hm x).1 hx)
    have h2:=hq _ l1 l2 hu
    exact o8 (p:=fun j=>decide (q j < q (ck (w.R (ck x)).Up))) (q:=fun j=>decide (q j < q (ck x))) (fun j hj=>by simp at hj ⊢; omega) (c:=ck (w.R (ck x)).Up) (by simp) (by simpa using h2) 32 (kI _)
section
universe u1 u2 u3
theorem pM {α1 ρ:Type} {B:(α1→Option ρ)→α1→Option ρ} (g:α1→ρ) (I:α1→Prop) (μ:α1→Nat) (hB:∀k a,I a→(∀b,I b→μ b < μ a→k b = some (g b))→B k a = some (g a)):∀n a,I a→μ a < n→ef B n a = some (g a):=by
  intro n
  induction n with
  | zero=>intro a _ h; exact absurd h (Nat.not_lt_zero _)
  | succ n ih=>intro a hi hm; exact hB _ a hi fun b hj hl=>ih b hj (by omega)
end
theorem xq {n:Nat} (hn:40 ≤ n) {t:au} {w:ai} (r:fF t w) (tt:iL w) {h:Int} (hh:bR w.B h):fD n t h = some (U6 (dg w) h):=by
  obtain ⟨ρ,f⟩:=wh r tt
  have hm:=cX r.book
  unfold fD
  refine pM (fun x=>U6 (dg w) x) (fun x=>bR w.B x) ρ (fun k x hx ih=>?_) n h hh (by have:=f.rk h ((hm h).2 hh); omega)
  have hG:=(hm x).2 hx
  rw [az (nJ r hx.1 (fR hx.2)),if_pos hx.2]
  show cn (((0:Int) != 0 || (dg w x == 0)) == false) (yl (dg w x) (k (dg w x))) (some []) = _
  by_cases hu:dg w x = 0
  · rw [f.u0 hG hu,aA (by simp [hu])]
  · rw [f.u1 hG hu,aT (by simp [hu]),ih _ ((hm _).1 (f.BD hG hu)) (f.dn x hG hu)]; rfl
def gy (w:ai) (a:Int):Int:=if bn w.B a = true then 1 + ((U6 (dg w) a).length:Int) else 0
def xM (w:ai) (a:Int):Int:=if bn w.B a = true then we (dg w) a else 0
def lz (w:ai) (a b:Int):Bool:=bn w.B a && bn w.B b && ((a == b) || (U6 (dg w) b).contains a)
def tV (w:ai) (a:Int):List Int:=if bn w.B a = true then gp (Gw w) (dg w) a else []
def ki (w:ai) (a:Int):List Int:=if bn w.B a = true then V6 (Gw w) (dg w) a else []
section
variable {n:Nat} {t:au} {w:ai}
theorem Cl (l:List Int) (x:Int) (h0:0 ≤ x) (h1:x + (l.length:Int) ≤ 1000000):fG (fun (FE:Int) Cg (bZ:Int) =>
  lt (FE:Int) fun _ =>
  lt (wr .i64 (bZ + 1):Int) fun gR =>
  Cg gR) (fun (bZ:Int) =>
  some bZ) l x = some (x + (l.length:Int)):=by
  induction l generalizing x with
  | nil=>simp [fG]
  | cons a l ih =>
    rw [List.length_cons] at h1
    have e:wr .i64 (x + 1) = x + 1:=cA (by omega) (by omega)
    refine (ih (wr .i64 (x + 1)) (by rw [e]; omega) (by rw [e]; omega)).trans ?_
    rw [e,List.length_cons]; congr 1; omega
theorem um (hn:40 ≤ n) (r:fF t w) (tt:iL w) {a:Int} (h0:0 ≤ a) (h1:a < 4294967296):eD n t a = some (gy w a):=by
  unfold eD gy
  rw [az (jv r.book h0 h1)]
  cases hg:bn w.B a with
  | false=>rfl
  | true =>
    obtain ⟨ρ,f⟩:=wh r tt
    have hG:=(cX r.book a).2 ⟨h0,hg⟩
    rw [aA (b:=!true) rfl,if_pos rfl]
    unfold fT
    rw [az rfl,az (xq hn r tt ⟨h0,hg⟩)]
    have:=f.zH hG
    exact Cl _ 1 (by omega) (by omega)
theorem Ai (l:List Int) (x:Int):fG (fun (FE:Int) Cg (_:Int) =>
  lt (FE:Int) fun fZ =>
  Cg fZ) (fun (bZ:Int) =>
  some bZ) l x = some (l.getLastD x):=by
  induction l generalizing x with
  | nil=>rfl
  | cons a l ih=>exact (ih a).trans (by cases l <;> rfl)
theorem Ee (hn:40 ≤ n) (r:fF t w) (tt:iL w) {a:Int} (h0:0 ≤ a) (h1:a < 4294967296):jP n t a = some (xM w a):=by
  unfold jP xM
  rw [az (jv r.book h0 h1)]
  cases hg:bn w.B a with
  | false=>rfl
  | true =>
    rw [aA (b:=!true) rfl,if_pos rfl]
    unfold fT
    rw [az rfl,az (xq hn r tt ⟨h0,hg⟩)]
    exact Ai _ a
theorem Er (a1:Int) (l:List Int) (x:Bool):fG (fun (Ny:Int) yO (fA:Bool) =>
  lt (Ny:Int) fun gR =>
  lt ((fA || (gR == a1)):Bool) fun mh =>
  yO mh) (fun (fA:Bool) =>
  some fA) l x = some (x || l.contains a1):=by
  induction l generalizing x with
  | nil=>simp [fG]
  | cons a l ih =>
    refine (ih (x || (a == a1))).trans ?_
    rw [List.contains_cons,Bool.or_assoc,Bool.beq_comm (a:=a)]
theorem tR (hn:40 ≤ n) (r:fF t w) (tt:iL w) {a b:Int} (h0:0 ≤ a) (h1:a < 4294967296) (k0:0 ≤ b) (k1:b < 4294967296):fe n t a b = some (lz w a b):=by
  unfold fe lz
  rw [az (jv r.book h0 h1),dj (jv r.book k0 k1)]
  cases hg:bn w.B a with
  | false=>rfl
  | true =>
    cases hk:bn w.B b with
    | false=>rfl
    | true =>
      rw [aA (by rfl),lt_eq]
      unfold fT
      rw [az rfl,az (xq hn r tt ⟨k0,hk⟩)]
      exact Er a _ _
end
end Go.Proofs.Ytbalnnoofdkbaaa
namespace Go.Proofs.Ytbalnnoofdkbaaa
open Go Go.Bw
theorem vj {α:Type} (l:List α):l = []∨∃i x,l = i++[x]:=by
  rcases l with _ | ⟨a,l⟩
  · exact .inl rfl
  · exact .inr ⟨(a::l).dropLast,(a::l).getLast (by simp),(List.dropLast_concat_getLast (by simp)).symm⟩
theorem jl {α:Type} [Inhabited α] {l:List α} {i:Nat} (h:i < l.length):l.getD i default = l[i]:=by rw [List.getD,List.getElem?_eq_getElem h]; rfl
theorem Lt (d:Int→Option Bool) (p:Int→Bool) (l:List Int) (hd:∀x ∈ l,d x = some (p x)) (hl:l.length < 1000) (z:Option Int) {n:Nat} (hn:l.length < n) :
    ∃i:Nat,i ≤ l.length∧(∀x ∈ l.take i,p x = false)∧((i < l.length∧p (l.getD i default) = true∧ef (fun wK (cB:Int) =>
  cn (decide (cB < (l.length:Int))) (
  gu (dU cB l.length) <|
  bd (d (l.getD (Int.toNat cB) default)) fun cR =>
  cn (cR) (
  some cB) (
  wK (wr .i64 (cB + 1)))) z) n 0 = some (i:Int))∨(i = l.length∧ef (fun wK (cB:Int) =>
  cn (decide (cB < (l.length:Int))) (
  gu (dU cB l.length) <|
  bd (d (l.getD (Int.toNat cB) default)) fun cR =>
  cn (cR) (
  some cB) (
  wK (wr .i64 (cB + 1)))) z) n 0 = z)):=by
  refine gn (fun (x:Int)=>∃k:Nat,x = k∧k ≤ l.length∧∀x ∈ l.take k,p x = false) (fun x=>l.length - x.toNat) (fun o=>∃i:Nat,i ≤ l.length∧(∀x ∈ l.take i,p x = false)∧((i < l.length∧p (l.getD i default) = true∧o = some (i:Int))∨(i = l.length∧o = z))) ?_ n 0 ⟨0,rfl,by omega,by simp⟩ (by omega)
  rintro kk x ⟨k,rfl,hk,hp⟩ ih
  by_cases c:k < l.length
  · have hm:l.getD k default ∈ l:=hY c
    rw [aT (decide_eq_true (by omega)),aM (cL (by omega) (by omega)),Int.toNat_natCast,az (hd _ hm)]
    cases hb:p (l.getD k default) with
    | true=>rw [aT rfl]; exact ⟨k,hk,hp, .inl ⟨c,hb,rfl⟩⟩
    | false =>
      rw [aA rfl,cA (by omega) (by omega)]
      refine ih _ ⟨k + 1,by omega,by omega,fun y hy=>?_⟩ (by omega)
      rw [List.take_succ_eq_append_getElem c,List.mem_append,List.mem_singleton] at hy
      rcases hy with hy | hy
      · exact hp y hy
      · rw [hy,← jl c]; exact hb
  · rw [aA (decide_eq_false (by omega))]
    exact ⟨k,hk,hp, .inr ⟨by omega,rfl⟩⟩
theorem NA (d:Int→Option Bool) (p:Int→Bool) (l:List Int) (hd:∀x ∈ l,d x = some (p x)) (hl:l.length < 1000) {i:Nat} (hi:i < l.length) (hp:p (l.getD i default) = true) (h0:∀x ∈ l.take i,p x = false) {n:Nat} (hn:l.length < n) :
    j9 (fun HJ (eN:(List Int)) (bZ:Int) (gV:Int) =>
  cn (decide (gV < (eN.length:Int))) (
  gu (dU gV eN.length) <|
  bd (d (eN.getD (Int.toNat gV) default)) fun gi =>
  cn ((!gi)) (
  gu (dU bZ eN.length) <|
  lt ((eN.set (Int.toNat bZ) (eN.getD (Int.toNat gV) default)):List Int) fun fO =>
  HJ fO (wr .i64 (bZ + 1)) (wr .i64 (gV + 1))) (
  HJ eN bZ (wr .i64 (gV + 1)))) (
  gu (dU bZ (eN.length + 1)) <|
  lt (eN.take (Int.toNat bZ)++List.replicate (eN.length - (Int.toNat bZ)) 0:List Int) fun ez =>
  gu (dU bZ (ez.length + 1)) <|
  lt (ez.take (Int.toNat bZ):List Int) fun wc =>
  some wc)) n l (i:Int) (wr .i64 ((i:Int) + 1)) = some (l.filter fun x=>!p x):=by
  rw [cA (by omega) (by omega)]
  have MN:(l.take i).filter (fun x=>!p x) = l.take i:=List.filter_eq_self.2 fun x hx=>by rw [h0 x hx]; rfl
  have Ql:(l.take (i + 1)).filter (fun x=>!p x) = l.take i:=by
    rw [List.take_succ_eq_append_getElem hi,List.filter_append,MN,← jl hi]
    generalize l.getD i default = y at hp
    simp [hp]
  refine nI (fun (s:List Int) (a b:Int)=>∃u v:Nat,a = u∧b = v∧u < v∧v ≤ l.length∧s.length = l.length∧s.drop v = l.drop v∧s.take u = (l.take v).filter fun x=>!p x) (fun _ _ b=>l.length - b.toNat) (fun o=>o = some (l.filter fun x=>!p x)) ?_ n l i ((i:Int) + 1) ⟨i,i + 1,rfl,by omega,by omega,by omega,rfl,rfl,Ql.symm⟩ (by omega)
  rintro kk s a b ⟨u,v,rfl,rfl,huv,hv,hs,h1,h2⟩ ih
  by_cases c:v < l.length
  · have e1:s.getD v default = l.getD v default:=by
      have:=congrArg (fun q:List Int=>q[0]?) h1
      simp only [List.getElem?_drop,Nat.add_zero] at this
      rw [List.getD,List.getD,this]
    have hm:l.getD v default ∈ l:=hY c
    rw [aT (decide_eq_true (by omega)),aM (cL (by omega) (by omega)),Int.toNat_natCast,e1,az (hd _ hm),cA (x:=(v:Int) + 1) (by omega) (by omega)]
    have OA:∀q:List Int,q.drop v = l.drop v→q.drop (v + 1) = l.drop (v + 1):=fun q hq=>by
      rw [← List.drop_drop,← List.drop_drop,hq]
    have ht:(l.take (v + 1)).filter (fun x=>!p x) = (l.take v).filter (fun x=>!p x)++(if p (l.getD v default) = true then [] else [l.getD v default]):=by
      rw [List.take_succ_eq_append_getElem c,List.filter_append,← jl c]
      generalize l.getD v default = y
      cases hy:p y <;> simp [hy]
    cases hb:p (l.getD v default) with
    | true =>
      rw [aA (b:=!true) rfl]
      exact ih _ _ _ ⟨u,v + 1,rfl,by omega,by omega,by omega,hs,OA _ h1,by rw [ht,hb,h2]; simp⟩ (by omega)
    | false =>
      rw [aT (b:=!false) rfl,aM (cL (by omega) (by omega)),lt_eq,Int.toNat_natCast,cA (x:=(u:Int) + 1) (by omega) (by omega)]
      refine ih _ _ _ ⟨u + 1,v + 1,by omega,by omega,by omega,by omega,by rw [List.length_set]; exact hs,OA _ (by rw [List.drop_set_of_lt huv]; exact h1),?_⟩ (by omega)
      rw [ht,hb,← h2]
      have P6:u < (s.set u (l.getD v default)).length:=by rw [List.length_set]; omega
      rw [List.take_succ_eq_append_getElem P6,List.getElem_set_self,List.take_set_of_le (Nat.le_refl u)]
      rfl
  · obtain rfl:v = l.length:=by omega
    have Ie:(s.take u).length = u:=by rw [List.length_take]; omega
    rw [aA (decide_eq_false (by omega)),aM (cL (by omega) (by omega)),lt_eq,Int.toNat_natCast,aM (cL (by omega) (by simp; omega)),lt_eq]
    rw [List.take_append_of_le_length (by omega),List.take_of_length_le (by omega),h2,List.take_length]
section
variable {n:Nat} {t:au} {w:ai}
theorem HF (hn:100 ≤ n) (r:fF t w) {a:Int} (h0:0 ≤ a) (h1:a < 4294967296):jQ n t a = some (tV w a):=by
  unfold jQ tV
  rw [az (jv r.book h0 h1)]
  cases hg:bn w.B a with
  | false=>rfl
  | true =>
    have hm:=cX r.book
    have hlen:=gF w.B 32
    rw [aA (b:=!true) rfl,if_pos rfl,az (JZ (by omega) r)]
    have hd:∀x ∈ Gw w,fm n x t a = some (dg w x != a):=fun x hx=>by
      have hx:=(hm x).1 hx
      unfold fm
      rw [az (nJ r hx.1 (fR hx.2)),if_pos hx.2]; rfl
    have hk:gp (Gw w) (dg w) a = (Gw w).filter fun x=>!(dg w x != a):=by
      unfold gp; congr 1; funext x; simp [bne]
    unfold cO cS
    obtain ⟨i,i1,i2,i3⟩:=Lt (n:=n) (fun x=>fm n x t a) (fun x=>dg w x != a) (Gw w) hd (by show (cT w.B 32).length < 1000; omega) (some (-1)) (by show (cT w.B 32).length < n; omega)
    rcases i3 with ⟨q1,q2,q3⟩ | ⟨q1,q3⟩
    · have:=NA (n:=n) (fun x=>fm n x t a) (fun x=>dg w x != a) (Gw w) hd (by show (cT w.B 32).length < 1000; omega) q1 q2 i2 (by show (cT w.B 32).length < n; omega)
      rw [az q3,aA (by simp)]
      refine (az this).trans ?_
      rw [hk]
    · rw [az q3,aT (by rfl)]
      refine (az rfl).trans ?_
      rw [hk]
      rw [q1,List.take_length] at i2
      exact congrArg some (List.filter_eq_self.2 fun x hx=>by have:=i2 x hx; simp only [this]; rfl).symm
theorem KY {l:List Int} (hl:l.length < 1000) (hn:l.length < n):fg n l = some l.reverse:=by
  unfold fg
  rw [cA (by omega) (by omega)]
  refine nI (fun (s:List Int) (a b:Int)=>∃u:Nat,a = u∧b = (l.length:Int) - 1 - u∧s.length = l.length∧u ≤ l.length∧∀k,k < l.length→s.getD k default = if k < u∨l.length ≤ k + u then l.getD (l.length - 1 - k) default else l.getD k default) (fun _ _ b=>(b + 1).toNat) (fun o=>o = some l.reverse) ?_ n l 0 ((l.length:Int) - 1) ⟨0,rfl,by omega,rfl,by omega,fun k hk=>by rw [if_neg (by omega)]⟩ (by omega)
  rintro kk s a b ⟨u,rfl,rfl,hs,hu,hq⟩ ih
  by_cases c:2 * u + 1 < l.length
  · have e2:((l.length:Int) - 1 - u).toNat = l.length - 1 - u:=by omega
    rw [aT (decide_eq_true (by omega)),aM (cL (by omega) (by omega)),aM (cL (by omega) (by omega)),aM (cL (by omega) (by omega)),lt_eq,aM (cL (by omega) (by rw [List.length_set]; omega)),lt_eq,cA (x:=(u:Int) + 1) (by omega) (by omega),cA (x:=(l.length:Int) - 1 - u - 1) (by omega) (by omega),Int.toNat_natCast,e2]
    refine ih _ _ _ ⟨u + 1,by omega,by omega,by rw [List.length_set,List.length_set]; exact hs,by omega,fun k hk=>?_⟩ (by omega)
    have gs:∀(q:List Int) (i:Nat) (x:Int) (k:Nat),q.length = l.length→k < l.length→(q.set i x).getD k default = if i = k then x else q.getD k default:=fun q i x k h1 h2=>by
      rw [List.getD,List.getElem?_set]
      by_cases e:i = k
      · subst e; rw [if_pos rfl,if_pos (by omega),if_pos rfl]; rfl
      · rw [if_neg e,if_neg e,List.getD]
    have a1:=hq u (by omega)
    have a2:=hq (l.length - 1 - u) (by omega)
    rw [if_neg (by omega)] at a1 a2
    rw [gs _ _ _ _ (by rw [List.length_set]; exact hs) hk,gs _ _ _ _ hs hk,a1,a2,hq k hk]
    by_cases k1:l.length - 1 - u = k
    · rw [if_pos k1,if_pos (by omega)]; congr 1; omega
    · rw [if_neg k1]
      by_cases k2:u = k
      · rw [if_pos k2,if_pos (by omega)]; congr 1; omega
      · rw [if_neg k2]
        by_cases k3:k < u∨l.length ≤ k + u
        · rw [if_pos k3,if_pos (by omega)]
        · rw [if_neg k3,if_neg (by omega)]
  · rw [aA (decide_eq_false (by omega))]
    congr 1
    refine List.ext_getElem (by simp [hs]) fun k h1 h2=>?_
    have hk:k < l.length:=by omega
    rw [List.getElem_reverse,← jl h1,← jl (by omega),hq k hk]
    split
    · rfl
    · congr 1; omega
theorem qQ (hn:100 ≤ n) (r:fF t w) (tt:iL w) {a:Int} (ha:bR w.B a):fC n a t = some (V6 (Gw w) (dg w) a):=by
  obtain ⟨ρ,f⟩:=wh r tt
  have hm:=cX r.book
  unfold fC
  have hv:=f.sM ((hm a).2 ha)
  refine (pM (fun s:List Int=>s.reverse.flatMap (V6 (Gw w) (dg w))) (fun s=>(∀x ∈ s,x ∈ Gw w)∧(s.reverse.flatMap (V6 (Gw w) (dg w))).length ≤ 32) (fun s=>(s.reverse.flatMap (V6 (Gw w) (dg w))).length) (fun k s hs ih=>?_) n [a] ⟨by simpa using (hm a).2 ha,by simpa using hv⟩ (by simp; omega)).trans (by simp)
  obtain ⟨hs,hlen⟩:=hs
  rcases vj s with rfl | ⟨i,x,rfl⟩
  · rfl
  · have hx:x ∈ Gw w:=hs x (by simp)
    have hxs:=(hm x).1 hx
    have e1:(i++[x]).reverse.flatMap (V6 (Gw w) (dg w)) = V6 (Gw w) (dg w) x++i.reverse.flatMap (V6 (Gw w) (dg w)):=by
      rw [List.reverse_append,List.reverse_singleton,List.singleton_append,List.flatMap_cons]
    have hge:∀q:List Int,(∀x ∈ q,x ∈ Gw w)→q.length ≤ (q.flatMap (V6 (Gw w) (dg w))).length:=fun q=>by
      induction q with
      | nil=>intro _; simp
      | cons b q ih =>
        intro hq
        have h1:=ih fun x hx=>hq x (by simp [hx])
        have h2:=f.tH (hq b (by simp))
        rw [List.flatMap_cons,List.length_append,h2,List.length_cons,List.length_cons]; omega
    have hi:=hge i.reverse fun y hy=>hs y (by simp at hy; simp [hy])
    rw [e1,List.length_append] at hlen
    have rB:i.length ≤ 32:=by rw [List.length_reverse] at hi; omega
    have ex:wr .i64 (((i++[x]).length:Int) - 1) = i.length:=by
      rw [List.length_append,List.length_singleton,cA (by omega) (by omega)]; omega
    have eg:(i++[x]).getD (Int.toNat (i.length:Int)) default = x:=by simp [List.getD]
    have hkn:tV w x = gp (Gw w) (dg w) x:=by unfold tV; rw [if_pos hxs.2]
    have Qg:(gp (Gw w) (dg w) x).length ≤ 32:=Nat.le_trans (List.length_filter_le _ _) f.len
    have hpos:0 < ((i++[x]).length:Int):=by rw [List.length_append,List.length_singleton]; omega
    rw [aT (decide_eq_true hpos),ex,aM (cL (by omega) (by simp; omega)),eg,az (HF hn r hxs.1 (fR hxs.2)),hkn,az (KY (by omega) (by omega)),aM (cL (by omega) (by simp; omega)),lt_eq]
    have et:(i++[x]).take (Int.toNat (i.length:Int)) = i:=by simp
    rw [et,aM (kV (by simp; omega) (by simp; omega)),lt_eq,e1,f.tH hx]
    have e2:(i++(gp (Gw w) (dg w) x).reverse).reverse.flatMap (V6 (Gw w) (dg w)) = (gp (Gw w) (dg w) x).flatMap (V6 (Gw w) (dg w))++i.reverse.flatMap (V6 (Gw w) (dg w)):=by
      rw [List.reverse_append,List.reverse_reverse,List.flatMap_append]
    have e3:=congrArg List.length (f.tH hx)
    rw [List.length_cons] at e3
    rw [ih _ ⟨fun y hy=>?_,by rw [e2,List.length_append]; omega⟩ (by rw [e2,e1,List.length_append,List.length_append]; omega),e2]
    · rfl
    · rcases List.mem_append.1 hy with h | h
      · exact hs y (by simp [h])
      · exact (g9.1 (List.mem_reverse.1 h)).1
theorem Cm (l x:List Int) (h:x.length + l.length ≤ 1000):fG (fun (Nz:Int) Ci (dS:(List Int)) =>
  lt (Nz:Int) fun j7 =>
  gu (lE dS.length 1 4) <|
  lt (dS++([j7]):List Int) fun gi =>
  Ci gi) (fun (dS:(List Int)) =>
  some dS) l x = some (x++l):=by
  induction l generalizing x with
  | nil=>simp [fG]
  | cons a l ih =>
    rw [List.length_cons] at h
    have e:lE x.length 1 4 = true:=kV (by omega) (by omega)
    have:=ih (x++[a]) (by simp; omega)
    refine Eq.trans ?_ (this.trans (by simp))
    show gu (lE x.length 1 4) _ = _
    rw [aM e]; rfl
theorem D8 (hn:100 ≤ n) (r:fF t w) (tt:iL w) {a:Int} (h0:0 ≤ a) (h1:a < 4294967296):jm n t a = some (ki w a):=by
  unfold jm ki
  rw [az (jv r.book h0 h1)]
  cases hg:bn w.B a with
  | false=>rfl
  | true =>
    obtain ⟨ρ,f⟩:=wh r tt
    have hv:=f.sM ((cX r.book a).2 ⟨h0,hg⟩)
    rw [aA (b:=!true) rfl,if_pos rfl]
    unfold fS c9 cz
    rw [az rfl,az (qQ hn r tt ⟨h0,hg⟩),az (Cm _ [] (by simp; omega))]
    rfl
end
end Go.Proofs.Ytbalnnoofdkbaaa
namespace Go.Proofs.Ytbalnnoofdkbaaa
open Go Go.Bw
section
variable {n:Nat} {t:au} {w:ai}
theorem wG (hn:40 ≤ n) (r:fF t w) {x:Int} (hx:bR w.B x):kK n w x = some (dg w x):=by
  unfold kK; rw [az (ot hn r hx)]; rfl
theorem zV (hn:100 ≤ n) (r:fF t w) {a:Int} (h0:0 ≤ a):kL n w a = some (tV w a):=by
  unfold kL
  have hm:=cX r.book
  have hlen:=gF w.B 32
  rw [az (xQ (by omega) r)]
  refine fy (fun (s:List Int) (i:Int)=>∃k:Nat,i = k∧k ≤ (Gw w).length∧s = if bn w.B a = true then ((Gw w).take k).filter (fun y=>dg w y == a) else []) (fun _ i=>(Gw w).length - i.toNat) (fun o=>o = some (tV w a)) ?_ n [] 0 ⟨0,rfl,by omega,by simp⟩ (by show (Gw w).length - (0:Int).toNat < n; have:(Gw w).length ≤ 32:=hlen; omega)
  rintro kk s i ⟨k,rfl,hk,rfl⟩ ih
  have hl:(Gw w).length ≤ 32:=hlen
  have hl' : (cT w.B 32).length = (Gw w).length:=rfl
  by_cases c:k < (Gw w).length
  · have hx:=(hm _).1 (hY (l:=Gw w) (i:=k) c)
    have On:∀q:Bool,(if q = true then ((Gw w).take k).filter (fun y=>dg w y == a) else []).length ≤ 32:=fun q=>by
      split
      · exact Nat.le_trans (List.length_filter_le _ _) (by rw [List.length_take]; omega)
      · simp
    rw [aT (decide_eq_true (by omega)),az (bX (by omega) r h0),aM (by rw [cL (i:=(k:Int)) (n:=(cT w.B 32).length) (by omega) (by omega)]; simp),Int.toNat_natCast,dj (wG (by omega) r hx),cA (x:=(k:Int) + 1) (by omega) (by omega)]
    have ht:((Gw w).take (k + 1)).filter (fun y=>dg w y == a) = ((Gw w).take k).filter (fun y=>dg w y == a)++(if dg w ((Gw w).getD k default) = a then [(Gw w).getD k default] else []):=by
      rw [List.take_succ_eq_append_getElem c,List.filter_append,← jl c]
      generalize (Gw w).getD k default = y
      by_cases hy:dg w y = a <;> simp [hy]
    have hs:=On (bn w.B a)
    cases hg:bn w.B a with
    | false =>
      rw [aA (by rfl)]
      exact ih _ _ ⟨k + 1,by omega,by omega,by rw [hg,if_neg (by decide),if_neg (by decide)]⟩ (by omega)
    | true =>
      rw [hg] at hs
      by_cases hu:dg w ((Gw w).getD k default) = a
      · rw [aT (show (true && ((bif true == true then dg w ((Gw w).getD k default) else default) == a)) = true by rw [hu]; simp),aM (cL (by omega) (by omega)),aM (kV (by omega) (by omega)),lt_eq]
        exact ih _ _ ⟨k + 1,by omega,by omega,by rw [hg,if_pos rfl,if_pos rfl,ht,if_pos hu]⟩ (by omega)
      · rw [aA (show (true && ((bif true == true then dg w ((Gw w).getD k default) else default) == a)) = false by simpa using hu)]
        exact ih _ _ ⟨k + 1,by omega,by omega,by rw [hg,if_pos rfl,if_pos rfl,ht,if_neg hu,List.append_nil]⟩ (by omega)
  · rw [aA (decide_eq_false (by omega))]
    unfold tV gp
    rw [List.take_of_length_le (by omega)]
theorem yD (r:fF t w) (tt:iL w):∀(m:Nat) {ρ:Int→Nat},Fo (Gw w) (dg w) ρ→∀a,a ∈ Gw w→132 - ρ a < m→fk m w a = some (V6 (Gw w) (dg w) a):=by
  have hm:=cX r.book
  intro m
  induction m with
  | zero=>intro ρ f a ha h; omega
  | succ m ih =>
    intro ρ f a ha CA
    have hr:=f.rk a ha
    have hg:=(hm a).1 ha
    unfold fk
    have hkn:tV w a = gp (Gw w) (dg w) a:=by unfold tV; rw [if_pos hg.2]
    rw [az (bX (by omega) r hg.1),hg.2,aA (b:=!true) rfl,az (zV (by omega) r hg.1),hkn]
    have hv:=f.tH ha
    have hvl:=f.sM ha
    have Qg:(gp (Gw w) (dg w) a).length ≤ 32:=Nat.le_trans (List.length_filter_le _ _) f.len
    refine fy (fun (s:List Int) (i:Int)=>∃k:Nat,i = k∧k ≤ (gp (Gw w) (dg w) a).length∧s = a::((gp (Gw w) (dg w) a).take k).flatMap (V6 (Gw w) (dg w))) (fun _ i=>(gp (Gw w) (dg w) a).length - i.toNat) (fun o=>o = some (V6 (Gw w) (dg w) a)) ?_ m [a] 0 ⟨0,rfl,by omega,rfl⟩ (by omega)
    rintro kk s i ⟨k,rfl,hk,rfl⟩ HR
    by_cases c:k < (gp (Gw w) (dg w) a).length
    · have hx:=g9.1 (hY (l:=gp (Gw w) (dg w) a) (i:=k) c)
      have RI:=f.Ep ha hx.1 hx.2
      have:=f.rk _ hx.1
      have ht:((gp (Gw w) (dg w) a).take (k + 1)).flatMap (V6 (Gw w) (dg w)) = ((gp (Gw w) (dg w) a).take k).flatMap (V6 (Gw w) (dg w))++V6 (Gw w) (dg w) ((gp (Gw w) (dg w) a).getD k default):=by
        rw [List.take_succ_eq_append_getElem c,List.flatMap_append,← jl c]; simp
      have hle:(((gp (Gw w) (dg w) a).take (k + 1)).flatMap (V6 (Gw w) (dg w))).length + 1 ≤ 32:=by
        have e:=congrArg List.length hv
        rw [List.length_cons,← List.take_append_drop (k + 1) (gp (Gw w) (dg w) a),List.flatMap_append,List.length_append] at e
        omega
      rw [ht,List.length_append] at hle
      rw [aT (decide_eq_true (by omega)),aM (cL (by omega) (by omega)),Int.toNat_natCast,az (ih f _ hx.1 (by omega)),aM (kV (by rw [List.length_cons]; omega) (by rw [List.length_cons]; omega)),lt_eq,cA (by omega) (by omega)]
      exact HR _ _ ⟨k + 1,by omega,by omega,by rw [ht]; rfl⟩ (by omega)
    · rw [aA (decide_eq_false (by omega)),List.take_of_length_le (by omega),hv]
theorem tO (hn:200 ≤ n) (r:fF t w) (tt:iL w) {a:Int} (h0:0 ≤ a):fk n w a = some (ki w a):=by
  unfold ki
  cases hg:bn w.B a with
  | false =>
    obtain ⟨m,rfl⟩ : ∃m,n = m + 1:=⟨n - 1,by omega⟩
    unfold fk; rw [az (bX (by omega) r h0),hg]; rfl
  | true =>
    obtain ⟨ρ,f⟩:=wh r tt
    have ha:=(cX r.book a).2 ⟨h0,hg⟩
    rw [if_pos rfl]
    exact yD r tt n f a ha (by omega)
theorem B0 (r:fF t w) (tt:iL w):∀(m:Nat) {ρ:Int→Nat},Fo (Gw w) (dg w) ρ→∀a,a ∈ Gw w→ρ a + 100 < m→eJ m w a = some (1 + ((U6 (dg w) a).length:Int)):=by
  have hm:=cX r.book
  intro m
  induction m with
  | zero=>intro ρ f a ha h; omega
  | succ m ih =>
    intro ρ f a ha CA
    have hg:=(hm a).1 ha
    have hl:=f.zH ha
    unfold eJ
    rw [az (bX (by omega) r hg.1),hg.2,aA (b:=!true) rfl,az (wG (by omega) r hg)]
    by_cases hu:dg w a = 0
    · have h0:eJ m w 0 = some 0:=by
        obtain ⟨m,rfl⟩ : ∃k,m = k + 1:=⟨m - 1,by omega⟩
        unfold eJ; rw [az (bX (by omega) r (by omega)),ta]; rfl
      rw [hu,az h0,f.u0 ha hu]; rfl
    · rw [az (ih f _ (f.BD ha hu) (by have:=f.dn a ha hu; omega))]
      rw [f.u1 ha hu,List.length_cons] at hl ⊢
      rw [cA (by omega) (by omega)]; congr 1; omega
theorem sU (hn:200 ≤ n) (r:fF t w) (tt:iL w) {a:Int} (h0:0 ≤ a):eJ n w a = some (gy w a):=by
  unfold gy
  cases hg:bn w.B a with
  | false =>
    obtain ⟨m,rfl⟩ : ∃m,n = m + 1:=⟨n - 1,by omega⟩
    unfold eJ; rw [az (bX (by omega) r h0),hg]; rfl
  | true =>
    obtain ⟨ρ,f⟩:=wh r tt
    have ha:=(cX r.book a).2 ⟨h0,hg⟩
    rw [if_pos rfl]
    exact B0 r tt n f a ha (by have:=f.rk a ha; omega)
theorem tP (hn:40 ≤ n) (r:fF t w) (tt:iL w) (a:Int) {b:Int} (hb:bR w.B b):cm n w a b = some ((U6 (dg w) b).contains a):=by
  obtain ⟨ρ,f⟩:=wh r tt
  have hm:=cX r.book
  unfold cm
  refine (pM (fun x=>if x = 0 then false else (U6 (dg w) x).contains a) (fun x=>x = 0∨bR w.B x) (fun x=>if x = 0 then 0 else ρ x + 1) (fun k x hx ih=>?_) n b (.inr hb) ?_).trans (by rw [if_neg (f.pos b ((hm b).2 hb))])
  · by_cases h0:x = 0
    · subst h0; rw [aA (by rfl)]; rfl
    · have hg:=hx.resolve_left h0
      have hG:=(hm x).2 hg
      have L9:=eo x
      rw [aT (by simpa using h0),az (di hn r.book hg.1),hg.2,if_pos rfl,aM (fI x),if_neg h0]
      show cn (dg w x == a) (some (a != 0)) (k (dg w x)) = _
      by_cases hu:dg w x = 0
      · rw [hu,f.u0 hG hu]
        by_cases ha:a = 0
        · subst ha; rw [aT (by rfl)]; rfl
        · rw [aA (by simpa using Ne.symm ha),ih 0 (.inl rfl) (by rw [if_pos rfl,if_neg h0]; omega)]; rfl
      · rw [f.u1 hG hu]
        by_cases ha:dg w x = a
        · rw [aT (by simpa using ha)]
          have:a ≠ 0:=ha ▸ hu
          rw [List.contains_cons,ha]; simp [this]
        · rw [aA (by simpa using ha),ih _ (.inr ((hm _).1 (f.BD hG hu))) (by rw [if_neg hu,if_neg h0]; have:=f.dn x hG hu; omega),if_neg hu,List.contains_cons]
          congr 1
          have:(a == dg w x) = false:=by simpa using Ne.symm ha
          rw [this,Bool.false_or]
  · have hp:=f.pos b ((hm b).2 hb)
    rw [if_neg hp]; have:=f.rk b ((hm b).2 hb); omega
theorem xP (hn:200 ≤ n) (r:fF t w) (tt:iL w) {a b:Int} (h0:0 ≤ a) (k0:0 ≤ b):gl n w a b = some (lz w a b):=by
  unfold gl lz
  rw [az (bX (by omega) r h0),dj (bX (by omega) r k0)]
  cases hg:bn w.B a with
  | false=>rfl
  | true =>
    cases hk:bn w.B b with
    | false=>rfl
    | true =>
      by_cases e:a = b
      · subst e; rw [A6 (by simp)]; simp
      · refine (o9 (by simpa using e) (tP (by omega) r tt a ⟨k0,hk⟩)).trans ?_
        rfl
theorem Ck (d:Int→Option Int) (e:Option Int) (v:Int→Int) (c:Int) (hc:0 ≤ c∧c ≤ 1000) (he:e = some c) (l:List Int) (hd:∀x ∈ l,d x = some (v x)∧0 ≤ v x∧v x ≤ 1000) (x:Int) (h0:0 ≤ x∧x ≤ 5000) :
    fG (fun (CM:Int) Ch (eH:Int) =>
  lt (CM:Int) fun fY =>
  bd (d fY) fun gi =>
  bd e fun gR =>
  lt ((if eH < wr .i64 ((wr .i64 (gi - gR)) + 1) then wr .i64 ((wr .i64 (gi - gR)) + 1) else eH):Int) fun fO =>
  Ch fO) (fun (eH:Int) =>
  some eH) l x = some (l.foldl (fun m y=>max m (v y - c + 1)) x):=by
  subst he
  induction l generalizing x with
  | nil=>rfl
  | cons a l ih =>
    obtain ⟨a1,a2,a3⟩:=hd a (by simp)
    have e1:wr .i64 (v a - c) = v a - c:=cA (by omega) (by omega)
    have e2:wr .i64 (v a - c + 1) = v a - c + 1:=cA (by omega) (by omega)
    have key:=ih (fun y hy=>hd y (by simp [hy])) (max x (v a - c + 1)) (by omega)
    rw [List.foldl_cons,← key]
    show bd (d a) _ = _
    rw [az a1,az rfl,e1,e2]
    show fG _ _ l _ = _
    congr 1
    simp only [Int.max_def]
    split <;> split <;> omega
theorem A0 (v:Int→Int) (c:Int) (l:List Int) (x k:Int):k < l.foldl (fun m y=>max m (v y - c + 1)) x↔k < x∨∃y ∈ l,k < v y - c + 1:=by
  induction l generalizing x with
  | nil=>simp
  | cons a l ih =>
    rw [List.foldl_cons,ih]
    constructor
    · rintro (h | ⟨y,hy,h⟩)
      · rcases Int.lt_or_le k x with h1 | h1
        · exact .inl h1
        · exact .inr ⟨a,by simp,by omega⟩
      · exact .inr ⟨y,by simp [hy],h⟩
    · rintro (h | ⟨y,hy,h⟩)
      · exact .inl (by omega)
      · rcases List.mem_cons.1 hy with e | hy
        · subst e; exact .inl (by omega)
        · exact .inr ⟨y,hy,h⟩
end
end Go.Proofs.Ytbalnnoofdkbaaa
namespace Go.Proofs.Ytbalnnoofdkbaaa
open Go Go.Bw
def nV (w:ai):Prop:=∀g,bR w.B g→(0 ≤ (w.R (ck g)).cq∧(w.R (ck g)).cq ≤ 64)∧∀n,110 ≤ n→dz n (w.R (ck g)).E = some true
def B7:cr:={ Up:=0,cq:=0,E:=cZ,Cells:=(fun _=>0) }
def x5 (w:ai) (h:Int):ai:=if bn w.B h = true then ⟨zo w.B h,fun j=>if j < 32∧(eO w.R (ck h) B7 j).Up = h then { eO w.R (ck h) B7 j with Up:=0 } else eO w.R (ck h) B7 j⟩ else w
theorem yF {n:Nat} (hn:40 ≤ n) (h:Int) (w:ai):ec (fun Dt (gD:Int) (mW:ai) =>
  cn (decide (gD < 32)) (
  gu (dU gD 32) <|
  cn ((((mW.R (Int.toNat gD)).Up) == h)) (
  gu (dU gD 32) <|
  lt ({ mW with R:=(eO mW.R (Int.toNat gD) ({ (mW.R (Int.toNat gD)) with Up:=0 })) }:ai) fun uV =>
  Dt (wr .i64 (gD + 1)) uV) (
  Dt (wr .i64 (gD + 1)) mW)) (
  some (mW,(0:Int)))) n 0 w = some (({ B:=w.B,R:=fun j=>if j < 32∧(w.R j).Up = h then { w.R j with Up:=0 } else w.R j }:ai),0):=by
  refine fy (fun (i:Int) (v:ai)=>0 ≤ i∧i ≤ 32∧v.B = w.B∧∀j,v.R j = if j < i.toNat∧(w.R j).Up = h then { w.R j with Up:=0 } else w.R j) (fun i _=>(32 - i).toNat)
    (fun o=>o = some (({ B:=w.B,R:=fun j=>if j < 32∧(w.R j).Up = h then { w.R j with Up:=0 } else w.R j }:ai),0)) ?_ n 0 w ⟨by omega,by omega,rfl,fun j=>by simp⟩ (by omega)
  rintro kk i v ⟨i0,i1,hb,hv⟩ ih
  by_cases c:i < 32
  · have hi:=hv i.toNat
    rw [if_neg (fun hh=>absurd hh.1 (Nat.lt_irrefl _))] at hi
    rw [aT (by simpa using c),aM (cL i0 (by omega)),hi,cA (x:=i + 1) (by omega) (by omega)]
    have e1:(i + 1).toNat = i.toNat + 1:=by omega
    have step:∀j,j ≠ i.toNat→(if j < i.toNat∧(w.R j).Up = h then { w.R j with Up:=0 } else w.R j) = (if j < (i + 1).toNat∧(w.R j).Up = h then { w.R j with Up:=0 } else w.R j):=fun j hj=>by
      by_cases hu:(w.R j).Up = h
      · by_cases hl:j < i.toNat
        · rw [if_pos ⟨hl,hu⟩,if_pos ⟨by omega,hu⟩]
        · rw [if_neg (fun hh=>hl hh.1),if_neg (fun hh=>by omega)]
      · rw [if_neg (fun hh=>hu hh.2),if_neg (fun hh=>hu hh.2)]
    by_cases hu:(w.R i.toNat).Up = h
    · rw [aT (by simpa using hu),aM (cL i0 (by omega)),lt_eq]
      refine ih _ _ ⟨by omega,by omega,hb,fun j=>?_⟩ (by omega)
      show eO v.R i.toNat _ j = _
      rw [cK]
      by_cases ej:j = i.toNat
      · subst ej; rw [if_pos rfl,if_pos ⟨by omega,hu⟩]
      · rw [if_neg ej,hv j,step j ej]
    · rw [aA (by simpa using hu)]
      refine ih _ _ ⟨by omega,by omega,hb,fun j=>?_⟩ (by omega)
      rw [hv j]
      by_cases ej:j = i.toNat
      · subst ej; rw [if_neg (fun hh=>hu hh.2),if_neg (fun hh=>hu hh.2)]
      · exact step j ej
  · rw [aA (by simpa using c)]
    have e:v = ({ B:=w.B,R:=fun j=>if j < 32∧(w.R j).Up = h then { w.R j with Up:=0 } else w.R j }:ai):=by
      obtain ⟨vb,vr⟩:=v
      congr 1
      funext j
      rw [show vr j = _ from hv j,show i.toNat = 32 by omega]
    rw [e]
section
variable {n:Nat} {t:au} {w:ai}
theorem vf (hn:40 ≤ n) (r:fF t w) {h:Int} (h0:0 ≤ h):dQ n w h = some (x5 w h,if bn w.B h = true then 0 else 4):=by
  unfold dQ x5
  have hr:=eo h
  rw [az (di hn r.book h0)]
  cases hg:bn w.B h with
  | false=>rfl
  | true =>
    rw [if_pos rfl,aA (by simp; omega),az (ve hn r.book h0),lt_eq,lt_eq,aM (fI h),lt_eq,if_pos rfl,if_pos rfl]
    exact yF (n:=n) hn h ⟨zo w.B h,eO w.R (ck h) B7⟩
theorem DF (hn:40 ≤ n) (r:fF t w) (tt:iL w) {h:Int} (h0:0 ≤ h) (h1:h < 4294967296) :
    ∃t',eu n t h = some (t',if bn w.B h = true then 0 else 4)∧fF t' (x5 w h)∧iL (x5 w h):=by
  obtain ⟨t',w',e,e1,e2,k⟩:=Jz hn r tt h0 h1
  obtain ⟨rfl,rfl⟩:=Prod.mk.inj (Option.some.inj (e2.symm.trans (vf hn r h0)))
  exact ⟨t',e1,k.rt,k.tt⟩
theorem rF (r:fF t w) {h:Int} (h0:0 ≤ h) (x:Int):bR (x5 w h).B x↔bR w.B x∧x ≠ h:=by
  unfold x5
  cases hg:bn w.B h with
  | false =>
    rw [if_neg (by decide)]
    exact ⟨fun hx=>⟨hx,fun e=>by subst e; have:=hx.2; rw [hg] at this; cases this⟩,fun hx=>hx.1⟩
  | true=>rw [if_pos rfl]; exact tG r.book h0 x
theorem x4 (r:fF t w) {h:Int} (h0:0 ≤ h) {x:Int} (hx:bR (x5 w h).B x):(x5 w h).R (ck x) = if dg w x = h then { w.R (ck x) with Up:=0 } else w.R (ck x):=by
  obtain ⟨x1,x2⟩:=(rF r h0 x).1 hx
  unfold x5
  cases hg:bn w.B h with
  | false =>
    rw [if_neg (by decide)]
    split
    · rename_i hu
      have:h = 0∨bR w.B h:=by rw [← hu]; exact r.D2 x1
      rcases this with e | e
      · have:(w.R (ck x)).Up = 0:=hu.trans e
        rw [← this]
      · have:=e.2; rw [hg] at this; cases this
    · rfl
  | true =>
    rw [if_pos rfl]
    have hne:ck x ≠ ck h:=fun e=>x2 (by rw [← fh x1,← fh ⟨h0,hg⟩,e])
    dsimp only
    rw [je _ _ hne]
    by_cases hu:dg w x = h
    · rw [if_pos hu,if_pos ⟨kI x,hu⟩]
    · rw [if_neg hu,if_neg (fun hh=>hu hh.2)]
theorem FH (r:fF t w) {h:Int} (h0:0 ≤ h) {x:Int} (hx:bR (x5 w h).B x):dg (x5 w h) x = if dg w x = h then 0 else dg w x:=by
  unfold dg
  rw [x4 r h0 hx]
  show (if (w.R (ck x)).Up = h then _ else _:cr).Up = _
  split <;> rfl
theorem nV.drop (i:nV w) (r:fF t w) {h:Int} (h0:0 ≤ h):nV (x5 w h):=fun g hg=>by
  have:=i g ((rF r h0 g).1 hg).1
  rw [x4 r h0 hg]
  split
  · exact this
  · exact this
def qP (w:ai) (h a:Int):ai:={ w with R:=eO w.R (ck h) { w.R (ck h) with Up:=a } }
theorem sR (hn:40 ≤ n) (r:fF t w) (tt:iL w) {h a:Int} (hh:bR w.B h) (ha:a = 0∨bR w.B a) (hno:¬ (a ≠ 0∧(a = h∨h ∈ U6 (dg w) a))):eC n w h a = some (qP w h a,0):=by
  unfold eC qP
  have a0:0 ≤ a:=by rcases ha with e | e; omega; exact e.1
  have ok:z7 w.B a = true:=by
    unfold z7
    rcases ha with e | e
    · rw [e]; rfl
    · rw [e.2,Bool.or_true]
  have e0:∀v:Bool,(((!true) == false) && v) = v:=fun v=>by cases v <;> rfl
  rw [az (bX hn r hh.1),dj (bX hn r a0),hh.2,e0,jG,ok,aA (by rfl)]
  have key:∀F:Bool→Option (ai × Int),(cl (((a != 0) == true) && ((a == h) == false)) (cm n w h a) default fun dS=>F ((a != 0) && ((a == h) || dS))) = F false:=fun F=>by
    by_cases e:a = 0
    · subst e; rfl
    · have hg:=ha.resolve_left e
      have h1:a ≠ h:=fun q=>hno ⟨e, .inl q⟩
      have h2:(U6 (dg w) a).contains h = false:=by
        rw [← Bool.not_eq_true,List.contains_iff_mem]; exact fun q=>hno ⟨e, .inr q⟩
      have e1:(a == h) = false:=by simpa using h1
      rw [o9 (by simp [e,h1]) (tP hn r tt h hg),h2,e1]; simp
  rw [key (fun v=>cn v (some (w,12)) (bd (bM n w.B h) fun bZ =>
  gu (dU bZ 32) <|
  lt ({ w with R:=(eO w.R (Int.toNat bZ) ({ (w.R (Int.toNat bZ)) with Up:=a })) }:ai) fun fA =>
  some (fA,0))),aA rfl,az (di hn r.book hh.1),hh.2,if_pos rfl,aM (fI h)]
  rfl
theorem zY (hn:40 ≤ n) (r:fF t w) (tt:iL w) {h a:Int} (hh:bR w.B h) (ha:a = 0∨bR w.B a) (hno:¬ (a ≠ 0∧(a = h∨h ∈ U6 (dg w) a))) :
    ∃t',dX n t h a = some (t',0)∧fF t' (qP w h a)∧iL (qP w h a):=by
  have a0:0 ≤ a∧a < 4294967296:=by rcases ha with e | e; omega; exact ⟨e.1,fR e.2⟩
  obtain ⟨t',w',e,e1,e2,k⟩:=Ef hn r tt hh.1 (fR hh.2) a0.1 a0.2
  obtain ⟨rfl,rfl⟩:=Prod.mk.inj (Option.some.inj (e2.symm.trans (sR hn r tt hh ha hno)))
  exact ⟨t',e1,k.rt,k.tt⟩
theorem D3 {h a x:Int} (hh:bR w.B h) (hx:bR w.B x):dg (qP w h a) x = if x = h then a else dg w x:=by
  unfold dg qP
  dsimp only
  rw [cK]
  by_cases e:x = h
  · rw [if_pos e,if_pos (by rw [e])]
  · rw [if_neg e,if_neg (fun q=>e (by rw [← fh hx,← fh hh,q]))]
theorem nV.up (i:nV w) (h a:Int):nV (qP w h a):=fun g hg=>by
  have:=i g hg
  unfold qP
  dsimp only
  rw [cK]
  split
  · rename_i e; rw [e] at this; exact this
  · exact this
def zv (w:ai) (h:Int) (x:cr):ai:={ w with R:=eO w.R (ck h) { x with Up:=(w.R (ck h)).Up } }
theorem xO (hn:40 ≤ n) (r:fF t w) {h:Int} (hh:bR w.B h) {x:cr} (hq:0 ≤ x.cq∧x.cq ≤ 64) (hm:dz n x.E = some true):eK n w h x = some (zv w h x,0):=by
  unfold eK zv
  have L9:=eo h
  rw [az (di (by omega) r.book hh.1),hh.2,if_pos rfl,aA (by simp; omega),dj hm]
  have e2:(decide (x.cq < 0) || decide (64 < x.cq)) = false:=by rw [Bool.or_eq_false_iff,decide_eq_false_iff_not,decide_eq_false_iff_not]; omega
  rw [e2,aA (by rfl),aM (fI h),lt_eq,aM (fI h),lt_eq]
  rfl
theorem G6 (hn:110 ≤ n) (r:fF t w) (tt:iL w) {h:Int} (hh:bR w.B h) {p:bE} {x:cr} (hx:uL p x) (hq:0 ≤ x.cq∧x.cq ≤ 64) (hm:dz n x.E = some true) :
    ∃t',dP n t h p = some (t',0)∧fF t' (zv w h x)∧iL (zv w h x):=by
  obtain ⟨t',w',e,e1,e2,k⟩:=KW hn r tt hh.1 (fR hh.2) hx
  obtain ⟨rfl,rfl⟩:=Prod.mk.inj (Option.some.inj (e2.symm.trans (xO (by omega) r hh hq hm)))
  exact ⟨t',e1,k.rt,k.tt⟩
theorem nV.set (i:nV w) {h:Int} (hh:bR w.B h) {x:cr} (hq:x.cq = (w.R (ck h)).cq) (he:x.E = (w.R (ck h)).E):nV (zv w h x):=fun g hg=>by
  have h1:=i g hg
  have h2:=i h hh
  unfold zv
  dsimp only
  rw [cK]
  split
  · dsimp only; rw [hq,he]; exact h2
  · exact h1
theorem BZ (hn:40 ≤ n) (r:fF t w) {a q:Int} (ha:a = 0∨bR w.B a) (hq:0 ≤ q∧q ≤ 64) {f:Nat} (hf:pG w.B f) :
    dm n w a q = some (if f < 32 then (⟨iW w.B f,eO w.R f ⟨a,q,cZ,fun _=>0⟩⟩,hJ f (w.B.iI f),0) else (w,0,7)):=by
  have a0:0 ≤ a:=by rcases ha with e | e; omega; exact e.1
  have ok:z7 w.B a = true:=by
    unfold z7
    rcases ha with e | e
    · rw [e]; rfl
    · rw [e.2,Bool.or_true]
  unfold dm
  rw [dj (bX hn r a0),jG,ok,aA (b:=!true) rfl,aA (by simp; omega),az (qd hn r.book hf)]
  by_cases hl:f < 32
  · rw [if_pos hl,if_pos hl]
    have hr:=r.book.jc f hl
    obtain ⟨q1,q2,q3,q4,q5⟩:=my (i:=f) (g:=w.B.iI f) (by omega) (by omega) hr.1 hr.2
    obtain ⟨b',i1,i2⟩:=vn (n:=n) hn r.book hf
    rw [if_pos hl] at i2
    have hnew:bR (iW w.B f) (hJ f (w.B.iI f)):=(jz r.book hf hl _).2 (.inr rfl)
    have hfn:(iy (hJ f (w.B.iI f))).toNat = f:=by rw [q2]; omega
    rw [aA (by simp; omega),lt_eq]
    dsimp only
    rw [az (di hn i2 (by omega)),hnew.2,if_pos rfl]
    show gu (dU (iy (hJ f (w.B.iI f))) 32) _ = _
    rw [aM (fI _),hfn]; rfl
  · rw [if_neg hl,if_neg hl]; rfl
end
end Go.Proofs.Ytbalnnoofdkbaaa
namespace Go.Proofs.Ytbalnnoofdkbaaa
open Go Go.Bw
abbrev ff (w:ai) (l:List Int):ai:=l.foldl x5 w
section
variable {n:Nat} {t:au} {w:ai}
theorem A4 (l:List Int):∀{t:au} {w:ai},fF t w→iL w→nV w→(∀x ∈ l,0 ≤ x∧x < 4294967296)→(∃t',fF t' (ff w l))∧iL (ff w l)∧nV (ff w l)∧(∀y,bR (ff w l).B y↔bR w.B y∧y ∉ l)∧(∀y,bR (ff w l).B y→dg (ff w l) y = if dg w y ∈ l then 0 else dg w y):=by
  induction l with
  | nil=>intro t w r tt i _; exact ⟨⟨t,r⟩,tt,i,fun y=>by simp,fun y _=>by simp⟩
  | cons x l ih =>
    intro t w r tt i hl
    have hx:=hl x (by simp)
    obtain ⟨t1,_,r1,Kl⟩:=DF (n:=40) (by omega) r tt hx.1 hx.2
    obtain ⟨a1,a2,a3,a4,a5⟩:=ih r1 Kl (i.drop r hx.1) fun y hy=>hl y (by simp [hy])
    refine ⟨a1,a2,a3,fun y=>?_,fun y hy=>?_⟩
    · refine (a4 y).trans ?_
      rw [rF r hx.1,List.mem_cons,not_or,and_assoc]
    · refine (a5 y hy).trans ?_
      rw [FH r hx.1 ((a4 y).1 hy).1]
      by_cases e:dg w y = x
      · rw [if_pos e,if_pos (List.mem_cons.2 (.inl e))]; split <;> rfl
      · rw [if_neg e]
        by_cases e2:dg w y ∈ l
        · rw [if_pos e2,if_pos (List.mem_cons_of_mem _ e2)]
        · rw [if_neg e2,if_neg (fun h=>(List.mem_cons.1 h).elim e e2)]
theorem FG (hn:100 ≤ n) (r:fF t w) (tt:iL w) {l:List Int} (hl:∀x ∈ l,0 ≤ x∧x < 4294967296) (hlen:l.length ≤ 40):∃t',ec (fun HH (ez:Int) (kE:au) =>
  cn (decide (ez < (l.length:Int))) (
  gu (dU ez l.length) <|
  bd (eu n kE (l.getD (Int.toNat ez) default)) fun nW =>
  HH (wr .i64 (ez + 1)) nW.1) (
  some (kE,l,(0:Int)))) n 0 t = some (t',l,0)∧fF t' (ff w l)∧iL (ff w l):=by
  refine fy (fun (i:Int) (t:au)=>∃k:Nat,i = k∧k ≤ l.length∧fF t (ff w (l.take k))∧iL (ff w (l.take k))) (fun i _=>l.length - i.toNat) (fun o=>∃t',o = some (t',l,0)∧fF t' (ff w l)∧iL (ff w l)) ?_ n 0 t ⟨0,rfl,by omega,r,tt⟩ (by omega)
  rintro kk i t ⟨k,rfl,hk,r,tt⟩ ih
  by_cases c:k < l.length
  · have hx:=hl _ (hY (l:=l) (i:=k) c)
    obtain ⟨t1,e1,r1,Kl⟩:=DF (n:=n) (by omega) r tt hx.1 hx.2
    have et:x5 (ff w (l.take k)) (l.getD k default) = ff w (l.take (k + 1)):=by
      rw [List.take_succ_eq_append_getElem c,← jl c,ff,ff,List.foldl_append]; rfl
    rw [et] at r1 Kl
    rw [aT (decide_eq_true (by omega)),aM (cL (by omega) (by omega)),Int.toNat_natCast,az e1,cA (by omega) (by omega)]
    exact ih _ _ ⟨k + 1,by omega,by omega,r1,Kl⟩ (by omega)
  · rw [aA (decide_eq_false (by omega))]
    rw [List.take_of_length_le (by omega)] at r tt
    exact ⟨t,rfl,r,tt⟩
theorem FF (hn:100 ≤ n) (r:fF t w) (tt:iL w) (i:nV w) {l:List Int} (hl:∀x ∈ l,0 ≤ x∧x < 4294967296) (hlen:l.length ≤ 40) {ρ:Type} (F:ai→Option ρ):ec (fun HI (fY:Int) (fZ:ai) =>
  cn (decide (fY < (l.length:Int))) (
  gu (dU fY l.length) <|
  bd (dQ n fZ (l.getD (Int.toNat fY) default)) fun kE =>
  HI (wr .i64 (fY + 1)) kE.1) (
  F fZ)) n 0 w = F (ff w l):=by
  refine fy (fun (i:Int) (v:ai)=>∃k:Nat,i = k∧k ≤ l.length∧v = ff w (l.take k)) (fun i _=>l.length - i.toNat) (fun o=>o = F (ff w l)) ?_ n 0 w ⟨0,rfl,by omega,rfl⟩ (by omega)
  rintro kk x v ⟨k,rfl,hk,rfl⟩ ih
  by_cases c:k < l.length
  · have hx:=hl _ (hY (l:=l) (i:=k) c)
    obtain ⟨⟨t1,r1⟩,_⟩:=A4 (l.take k) r tt i fun y hy=>hl y (List.mem_of_mem_take hy)
    rw [aT (decide_eq_true (by omega)),aM (cL (by omega) (by omega)),Int.toNat_natCast,az (vf (by omega) r1 hx.1),cA (by omega) (by omega)]
    exact ih _ _ ⟨k + 1,by omega,by omega,by rw [List.take_succ_eq_append_getElem c,← jl c,ff,ff,List.foldl_append]; rfl⟩ (by omega)
  · rw [aA (decide_eq_false (by omega)),List.take_of_length_le (by omega)]
theorem tL (r:fF t w) (tt:iL w) (a:Int):(∀x ∈ ki w a,bR w.B x)∧(ki w a).length ≤ 32:=by
  unfold ki
  cases hg:bn w.B a with
  | false=>exact ⟨fun x hx=>(by rw [if_neg (by decide)] at hx; cases hx),by simp⟩
  | true =>
    rw [if_pos rfl]
    by_cases h0:0 ≤ a
    · obtain ⟨ρ,f⟩:=wh r tt
      have ha:=(cX r.book a).2 ⟨h0,hg⟩
      exact ⟨fun x hx=>(cX r.book x).1 ((f.nX ha x).1 hx).1,f.sM ha⟩
    · exact absurd hg (by
        intro h
        have h3:=(gw.1 h).2.2
        have h4:=r.book.jc (ck a) (kI a)
        unfold ck at h4
        omega)
theorem uY (r:fF t w) (tt:iL w) (a:Int):∀x ∈ ki w a,0 ≤ x∧x < 4294967296:=fun x hx=>by
  have:=(tL r tt a).1 x hx; exact ⟨this.1,fR this.2⟩
theorem BU (r:fF t w) (tt:iL w) {a:Int} (h0:0 ≤ a):(ki w a).length = 0↔bn w.B a = false:=by
  unfold ki
  cases hg:bn w.B a with
  | false=>simp
  | true =>
    obtain ⟨ρ,f⟩:=wh r tt
    rw [if_pos rfl,f.tH ((cX r.book a).2 ⟨h0,hg⟩)]; simp
theorem Jl (hn:200 ≤ n) (r:fF t w) (tt:iL w) (i:nV w) {a:Int} (h0:0 ≤ a) (h1:a < 4294967296) :
    ∃t',jR n t a = some (t',ki w a,if bn w.B a = true then 0 else 4)∧kM n w a = some (ff w (ki w a),ki w a,if bn w.B a = true then 0 else 4)∧fF t' (ff w (ki w a))∧iL (ff w (ki w a)):=by
  have hr:=uY r tt a
  have hl:=(tL r tt a).2
  have hz:=BU r tt h0
  unfold jR kM
  rw [az (D8 (by omega) r tt h0 h1),az (tO (by omega) r tt h0)]
  have hR:=FF (n:=n) (by omega) r tt i hr (by omega) fun v=>cn (((ki w a).length:Int) == 0) (some (v,([]:List Int),(4:Int))) (some (v,ki w a,0))
  cases hg:bn w.B a with
  | false =>
    have e:=List.length_eq_zero_iff.1 (hz.2 hg)
    rw [e] at hR ⊢
    exact ⟨t,by rw [aT (by rfl)]; rfl,hR,r,tt⟩
  | true =>
    have e:(((ki w a).length:Int) == 0) = false:=by
      have:(ki w a).length ≠ 0:=fun q=>by have:=hz.1 q; rw [hg] at this; cases this
      simpa using this
    obtain ⟨t',e1,e2,e3⟩:=FG (n:=n) (by omega) r tt hr (by omega)
    rw [aA e]
    refine ⟨t',e1,?_,e2,e3⟩
    rw [hR,aA e]; rfl
def CO (L:List Int) (c0 c:Nat→Int):Nat→Int:=fun i=>if i < 8∧L.contains (c0 i) = true then 0 else c i
theorem JE {α ρ:Type} (get:α→Nat→Int) (put:α→Nat→α) (p:α) (c:Nat→Int) (d:Int→Option Bool) (L:List Int) (hd:∀i,i < 8→d (c i) = some (L.contains (c i))) (fin:(Nat→Int)→α) (h0:fin (get p) = p)
    (hput:∀g i,put (fin g) i = fin (eO g i 0)) (F:α→Option ρ) {m:Nat} (hm:10 ≤ m):ec (fun Dr (mX:Int) (om:α) =>
  cn (decide (mX < 8)) (
  gu (dU mX 8) <|
  bd (d (c (Int.toNat mX))) fun xG =>
  cn (xG) (
  gu (dU mX 8) <|
  lt (put om (Int.toNat mX)) fun yt =>
  Dr (wr .i64 (mX + 1)) yt) (
  Dr (wr .i64 (mX + 1)) om)) (
  F om)) m 0 p = F (fin (CO L c (get p))):=by
  refine fy (fun (i:Int) (v:α)=>∃k:Nat,i = k∧k ≤ 8∧v = fin (fun j=>if j < k∧L.contains (c j) = true then 0 else get p j)) (fun i _=>8 - i.toNat) (fun o=>o = F (fin (CO L c (get p)))) ?_ m 0 p ⟨0,rfl,by omega,by simp [h0]⟩ (by omega)
  rintro kk x v ⟨k,rfl,hk,rfl⟩ ih
  by_cases q:k < 8
  · rw [aT (decide_eq_true (by omega)),aM (cL (by omega) (by omega)),Int.toNat_natCast,az (hd k q),cA (by omega) (by omega)]
    have st:∀j,j ≠ k→(if j < k + 1∧L.contains (c j) = true then (0:Int) else get p j) = if j < k∧L.contains (c j) = true then 0 else get p j:=fun j hj=>by
      by_cases h1:L.contains (c j) = true
      · by_cases h2:j < k
        · rw [if_pos ⟨by omega,h1⟩,if_pos ⟨h2,h1⟩]
        · rw [if_neg (fun h=>by omega),if_neg (fun h=>h2 h.1)]
      · rw [if_neg (fun h=>h1 h.2),if_neg (fun h=>h1 h.2)]
    cases hc:L.contains (c k) with
    | true =>
      rw [aT rfl,aM (cL (by omega) (by omega)),lt_eq,hput]
      refine ih _ _ ⟨k + 1,by omega,by omega,?_⟩ (by omega)
      congr 1; funext j
      rw [cK]
      by_cases e:j = k
      · subst e; rw [if_pos rfl,if_pos ⟨by omega,hc⟩]
      · rw [if_neg e,st j e]
    | false =>
      rw [aA rfl]
      refine ih _ _ ⟨k + 1,by omega,by omega,?_⟩ (by omega)
      congr 1; funext j
      by_cases e:j = k
      · subst e; rw [if_neg (fun h=>by rw [hc] at h; exact absurd h.2 (by decide)),if_neg (fun h=>by rw [hc] at h; exact absurd h.2 (by decide))]
      · rw [st j e]
  · rw [aA (decide_eq_false (by omega))]
    obtain rfl:k = 8:=by omega
    rfl
def BF (w0:ai) (L:List Int) (v:ai) (x:Int):ai:={ v with R:=eO v.R (ck x) { v.R (ck x) with Cells:=CO L (w0.R (ck x)).Cells (v.R (ck x)).Cells } }
abbrev o7 (w:ai) (L l:List Int):ai:=l.foldl (BF w L) w
theorem y4 (w0:ai) (L l:List Int):∀v:ai,(l.foldl (BF w0 L) v).B = v.B:=by
  induction l with
  | nil=>intro v; rfl
  | cons x l ih=>intro v; exact ih _
theorem CD {B:aL} {x y:Int} (hx:bR B x) (hy:bR B y) (e:ck x = ck y):x = y:=by rw [← fh hx,← fh hy,e]
end
end Go.Proofs.Ytbalnnoofdkbaaa
namespace Go.Proofs.Ytbalnnoofdkbaaa
open Go Go.Bw
section
variable {n:Nat} {t:au} {w:ai}
theorem B3 (r:fF t w) (tt:iL w) {h:Int} (hh:bR w.B h) {c:Int} (c0:0 ≤ c):((c != h) && lz w c h) = (U6 (dg w) h).contains c:=by
  obtain ⟨ρ,f⟩:=wh r tt
  have hG:=(cX r.book h).2 hh
  unfold lz
  by_cases e:c = h
  · subst e
    have:(U6 (dg w) c).contains c = false:=by rw [← Bool.not_eq_true,List.contains_iff_mem]; exact f.Dl hG
    rw [this]; simp
  · have e1:(c != h) = true:=by simpa using e
    have e2:(c == h) = false:=by simpa using e
    rw [e1,e2,hh.2]
    cases hc:(U6 (dg w) h).contains c with
    | false=>simp
    | true =>
      have:=(cX r.book c).1 (f.qb hG c (List.contains_iff_mem.1 hc)).1
      rw [this.2]; rfl
theorem FK (hn:100 ≤ n) (r:fF t w) (tt:iL w) {h:Int} (hh:bR w.B h) (s:Int) (hs:0 ≤ s∧s < 32) (v:ai) {ρ:Type} (F:ai→Option ρ) :
    ec (fun Ds (jE:Int) (mj:ai) =>
  cn (decide (jE < 8)) (
  gu (dU s 32) <|
  gu (dU jE 8) <|
  cl ((((w.R (Int.toNat s)).Cells (Int.toNat jE)) != 0) == true) (cm n w ((w.R (Int.toNat s)).Cells (Int.toNat jE)) h) default fun rX =>
  cn (((((w.R (Int.toNat s)).Cells (Int.toNat jE)) != 0) && rX)) (
  gu (dU s 32) <|
  gu (dU jE 8) <|
  lt ({ mj with R:=(eO mj.R (Int.toNat s) ({ (mj.R (Int.toNat s)) with Cells:=(eO ((mj.R (Int.toNat s)).Cells) (Int.toNat jE) 0) })) }:ai) fun Di =>
  Ds (wr .i64 (jE + 1)) Di) (
  Ds (wr .i64 (jE + 1)) mj)) (
  F mj)) n 0 v = F { v with R:=eO v.R s.toNat { v.R s.toNat with Cells:=CO (U6 (dg w) h) (w.R s.toNat).Cells (v.R s.toNat).Cells } }:=by
  obtain ⟨ρ',f⟩:=wh r tt
  have hG:=(cX r.book h).2 hh
  have Mh:dU s 32 = true:=cL hs.1 (by omega)
  have key:∀(c:Int) (G:Bool→Option ρ),(cl ((c != 0) == true) (cm n w c h) default fun rX=>G ((c != 0) && rX)) = G ((U6 (dg w) h).contains c):=fun c G=>by
    by_cases e:c = 0
    · subst e
      have:(U6 (dg w) h).contains 0 = false:=by
        rw [← Bool.not_eq_true,List.contains_iff_mem]; exact fun q=>f.pos 0 (f.qb hG 0 q).1 rfl
      rw [this]; rfl
    · have e1:(c != 0) = true:=by simpa using e
      rw [o9 (by rw [e1]; rfl) (tP (by omega) r tt c hh),e1,Bool.true_and]
  refine fy (fun (i:Int) (x:ai)=>∃k:Nat,i = k∧k ≤ 8∧x = { v with R:=eO v.R s.toNat { v.R s.toNat with Cells:=fun j=>if j < k∧(U6 (dg w) h).contains ((w.R s.toNat).Cells j) = true then 0 else (v.R s.toNat).Cells j } }) (fun i _=>8 - i.toNat)
    (fun o=>o = F { v with R:=eO v.R s.toNat { v.R s.toNat with Cells:=CO (U6 (dg w) h) (w.R s.toNat).Cells (v.R s.toNat).Cells } }) ?_ n 0 v ⟨0,rfl,by omega,?_⟩ (by omega)
  · rintro kk x y ⟨k,rfl,hk,rfl⟩ ih
    by_cases q:k < 8
    · have Gu:dU (k:Int) 8 = true:=cL (by omega) (by omega)
      have st:∀j,j ≠ k→(if j < k + 1∧(U6 (dg w) h).contains ((w.R s.toNat).Cells j) = true then (0:Int) else (v.R s.toNat).Cells j) = if j < k∧(U6 (dg w) h).contains ((w.R s.toNat).Cells j) = true then 0 else (v.R s.toNat).Cells j:=fun j hj=>by
        by_cases h1:(U6 (dg w) h).contains ((w.R s.toNat).Cells j) = true
        · by_cases h2:j < k
          · rw [if_pos ⟨by omega,h1⟩,if_pos ⟨h2,h1⟩]
          · rw [if_neg (fun h=>by omega),if_neg (fun h=>h2 h.1)]
        · rw [if_neg (fun h=>h1 h.2),if_neg (fun h=>h1 h.2)]
      rw [aT (decide_eq_true (by omega)),aM Mh,aM Gu,Int.toNat_natCast,cA (x:=(k:Int) + 1) (by omega) (by omega)]
      refine (key _ (fun b=>cn b _ _)).trans ?_
      cases hc:(U6 (dg w) h).contains ((w.R s.toNat).Cells k) with
      | true =>
        rw [aT rfl,aM Mh,aM Gu,lt_eq]
        refine ih _ _ ⟨k + 1,by omega,by omega,?_⟩ (by omega)
        dsimp only
        rw [tK,pI]
        congr 2
        congr 1
        funext j
        rw [cK]
        by_cases e:j = k
        · subst e; rw [if_pos rfl,if_pos ⟨by omega,hc⟩]
        · rw [if_neg e,st j e]
      | false =>
        rw [aA rfl]
        refine ih _ _ ⟨k + 1,by omega,by omega,?_⟩ (by omega)
        dsimp only
        congr 2
        congr 1
        funext j
        by_cases e:j = k
        · subst e; rw [if_neg (fun h=>by rw [hc] at h; exact absurd h.2 (by decide)),if_neg (fun h=>by rw [hc] at h; exact absurd h.2 (by decide))]
        · rw [st j e]
    · rw [aA (decide_eq_false (by omega))]
      obtain rfl:k = 8:=by omega
      rfl
  · have:(fun j=>if j < 0∧(U6 (dg w) h).contains ((w.R s.toNat).Cells j) = true then (0:Int) else (v.R s.toNat).Cells j) = (v.R s.toNat).Cells:=by funext j; simp
    rw [this]
    obtain ⟨vb,vr⟩:=v
    congr 1
    funext j
    rw [cK]
    split
    · rename_i e; rw [e]
    · rfl
theorem JD (hn:200 ≤ n) {t0:au} {w0:ai} (r0:fF t0 w0) (Oc:iL w0) (i0:nV w0) {h:Int} (hh:bR w0.B h) (fin:au→Option (au × Int)) (l:List Int):∀{t:au} {w:ai},fF t w→iL w→nV w→w.B = w0.B→(∀x ∈ l,bR w.B x∧w.R (ck x) = w0.R (ck x))→l.Nodup →
    ∃t',fG (fun (Nx:Int) Lp (ez:au) =>
  lt (Nx:Int) fun j6 =>
  bd (cU n ez j6) fun oo =>
  ec (fun Dr (mX:Int) (om:bE) =>
  cn (decide (mX < 8)) (
  gu (dU mX 8) <|
  bd (gM n (oo.1.Cells (Int.toNat mX)) h t0) fun xG =>
  cn (xG) (
  gu (dU mX 8) <|
  lt ({ om with Cells:=(eO om.Cells (Int.toNat mX) 0) }:bE) fun yt =>
  Dr (wr .i64 (mX + 1)) yt) (
  Dr (wr .i64 (mX + 1)) om)) (
  bd (dP n ez j6 om) fun wj =>
  Lp wj.1)) n 0 oo.1) fin l t = fin t'∧fF t' (l.foldl (BF w0 (U6 (dg w0) h)) w)∧iL (l.foldl (BF w0 (U6 (dg w0) h)) w)∧nV (l.foldl (BF w0 (U6 (dg w0) h)) w):=by
  induction l with
  | nil=>intro t w r tt i _ _ _; exact ⟨t,rfl,r,tt,i⟩
  | cons x l ih =>
    intro t w r tt i hb hl hd
    obtain ⟨hx,hd⟩:=List.nodup_cons.1 hd
    obtain ⟨hg,hr⟩:=hl x (by simp)
    obtain ⟨l1,l2⟩:=dA hg
    have hR:=r.zU _ l1 l2
    have hq:=i x hg
    have hc:∀k,k < 8→gM n ((kF t w x).Cells k) h t0 = some ((U6 (dg w0) h).contains ((kF t w x).Cells k)):=fun k hk=>by
      have e1:(kF t w x).Cells k = (w.R (ck x)).Cells k:=hR.c k hk
      have e2:=hR.c0 k hk
      rw [e1]
      unfold gM
      rw [dj (tR (by omega) r0 Oc e2.1 (by omega) hh.1 (fR hh.2)),← B3 r0 Oc hh e2.1]
      cases h3:((w.R (ck x)).Cells k != h) <;> rfl
    have hin:=fun F:bE→Option (au × Int)=>JE (fun v:bE=>v.Cells) (fun v k=>{ v with Cells:=eO v.Cells k 0 }) (kF t w x) (kF t w x).Cells (fun c=>gM n c h t0) (U6 (dg w0) h) hc (fun g=>{ kF t w x with Cells:=g }) rfl (fun _ _=>rfl) F (m:=n) (by omega)
    have hp:uL { kF t w x with Cells:=CO (U6 (dg w0) h) (kF t w x).Cells (kF t w x).Cells } { w.R (ck x) with Cells:=CO (U6 (dg w0) h) (w0.R (ck x)).Cells (w.R (ck x)).Cells }:=by
      refine ⟨hR.q,hR.e,hR.n,hR.r,fun k hk=>?_,fun k hk=>?_⟩
      · show (if k < 8∧(U6 (dg w0) h).contains ((kF t w x).Cells k) = true then 0 else (kF t w x).Cells k) = if k < 8∧(U6 (dg w0) h).contains ((w0.R (ck x)).Cells k) = true then 0 else (w.R (ck x)).Cells k
        have e1:(kF t w x).Cells k = (w.R (ck x)).Cells k:=hR.c k hk
        rw [e1,← hr]
      · have:=hR.c0 k hk
        show 0 ≤ (if k < 8∧(U6 (dg w0) h).contains ((w0.R (ck x)).Cells k) = true then 0 else (w.R (ck x)).Cells k)∧(if k < 8∧(U6 (dg w0) h).contains ((w0.R (ck x)).Cells k) = true then 0 else (w.R (ck x)).Cells k) ≤ 4294967295
        split
        · decide
        · exact this
    obtain ⟨t1,s1,s2,s3⟩:=G6 (n:=n) (by omega) r tt hg hp hq.1 (hq.2 n (by omega))
    have et:zv w x { w.R (ck x) with Cells:=CO (U6 (dg w0) h) (w0.R (ck x)).Cells (w.R (ck x)).Cells } = BF w0 (U6 (dg w0) h) w x:=rfl
    rw [et] at s2 s3
    have si:nV (BF w0 (U6 (dg w0) h) w x):=i.set hg (x:={ w.R (ck x) with Cells:=CO (U6 (dg w0) h) (w0.R (ck x)).Cells (w.R (ck x)).Cells }) rfl rfl
    have qg:∀y ∈ l,bR (BF w0 (U6 (dg w0) h) w x).B y∧(BF w0 (U6 (dg w0) h) w x).R (ck y) = w0.R (ck y):=fun y hy=>by
      obtain ⟨y1,y2⟩:=hl y (by simp [hy])
      refine ⟨y1,?_⟩
      rw [← y2]
      unfold BF
      exact je _ _ (fun q=>hx (by rw [CD hg y1 q.symm]; exact hy))
    obtain ⟨t',q1,q2,q3,q4⟩:=ih s2 s3 si hb qg hd
    refine ⟨t',?_,q2,q3,q4⟩
    refine Eq.trans ?_ q1
    show bd (cU n t x) _ = _
    rw [az (nJ r hg.1 (fR hg.2)),if_pos hg.2]
    refine (hin _).trans ?_
    rw [az s1]
theorem JC (hn:200 ≤ n) (r:fF t w) (tt:iL w) {h:Int} (hh:bR w.B h) {l:List Int} (hl:∀x ∈ l,bR w.B x) (hlen:l.length ≤ 40) {ρ:Type} (F:ai→Option ρ) :
    ec (fun Lo (jF:Int) (ez:ai) =>
  cn (decide (jF < (l.length:Int))) (
  gu (dU jF l.length) <|
  bd (bM n w.B (l.getD (Int.toNat jF) default)) fun j6 =>
  ec (fun Ds (jE:Int) (mj:ai) =>
  cn (decide (jE < 8)) (
  gu (dU j6 32) <|
  gu (dU jE 8) <|
  cl ((((w.R (Int.toNat j6)).Cells (Int.toNat jE)) != 0) == true) (cm n w ((w.R (Int.toNat j6)).Cells (Int.toNat jE)) h) default fun rX =>
  cn (((((w.R (Int.toNat j6)).Cells (Int.toNat jE)) != 0) && rX)) (
  gu (dU j6 32) <|
  gu (dU jE 8) <|
  lt ({ mj with R:=(eO mj.R (Int.toNat j6) ({ (mj.R (Int.toNat j6)) with Cells:=(eO ((mj.R (Int.toNat j6)).Cells) (Int.toNat jE) 0) })) }:ai) fun Di =>
  Ds (wr .i64 (jE + 1)) Di) (
  Ds (wr .i64 (jE + 1)) mj)) (
  Lo (wr .i64 (jF + 1)) mj)) n 0 ez) (
  F ez)) n 0 w = F (o7 w (U6 (dg w) h) l):=by
  refine fy (fun (i:Int) (v:ai)=>∃k:Nat,i = k∧k ≤ l.length∧v = o7 w (U6 (dg w) h) (l.take k)) (fun i _=>l.length - i.toNat) (fun o=>o = F (o7 w (U6 (dg w) h) l)) ?_ n 0 w ⟨0,rfl,by omega,rfl⟩ (by omega)
  rintro kk x v ⟨k,rfl,hk,rfl⟩ ih
  by_cases c:k < l.length
  · have hx:=hl _ (hY (l:=l) (i:=k) c)
    rw [aT (decide_eq_true (by omega)),aM (cL (by omega) (by omega)),Int.toNat_natCast,az (di (by omega) r.book hx.1),hx.2,if_pos rfl,FK (by omega) r tt hh _ (by have:=eo (l.getD k default); omega),cA (by omega) (by omega)]
    exact ih _ _ ⟨k + 1,by omega,by omega,by rw [List.take_succ_eq_append_getElem c,← jl c,o7,o7,List.foldl_append]; rfl⟩ (by omega)
  · rw [aA (decide_eq_false (by omega)),List.take_of_length_le (by omega)]
def y5 (w:ai) (h:Int):ai:=if bn w.B h = true then qP (o7 w (U6 (dg w) h) (V6 (Gw w) (dg w) h)) h 0 else w
theorem NF (hn:200 ≤ n) (r:fF t w) (tt:iL w) (i:nV w) {h:Int} (h0:0 ≤ h) (h1:h < 4294967296) :
    ∃t',kR n t h = some (t',if bn w.B h = true then 0 else 4)∧lO n w h = some (y5 w h,if bn w.B h = true then 0 else 4)∧fF t' (y5 w h)∧iL (y5 w h)∧nV (y5 w h):=by
  unfold kR lO y5
  rw [az (jv r.book h0 h1),az (bX (by omega) r h0)]
  cases hg:bn w.B h with
  | false =>
    simp only [Bool.false_eq_true,if_false]
    exact ⟨t,rfl,rfl,r,tt,i⟩
  | true =>
    rw [if_pos rfl,if_pos rfl]
    have hh:bR w.B h:=⟨h0,hg⟩
    obtain ⟨ρ,f⟩:=wh r tt
    have hm:=cX r.book
    have hG:=(hm h).2 hh
    have hu:ki w h = V6 (Gw w) (dg w) h:=by unfold ki; rw [if_pos hg]
    have hl:∀x ∈ V6 (Gw w) (dg w) h,bR w.B x:=fun x hx=>(hm x).1 ((f.nX hG x).1 hx).1
    rw [aA (b:=!true) rfl,aA (b:=!true) rfl]
    unfold fS
    rw [az rfl,az (qQ (by omega) r tt hh),az (tO (by omega) r tt h0),hu]
    obtain ⟨t1,a1,a2,a3,a4⟩:=JD (n:=n) hn r tt i hh (fun ez=>bd (dX n ez h 0) fun BA=>some (BA.1,BA.2)) (V6 (Gw w) (dg w) h) r tt i rfl (fun x hx=>⟨hl x hx,rfl⟩) (f.GU hG)
    have hb:(o7 w (U6 (dg w) h) (V6 (Gw w) (dg w) h)).B = w.B:=y4 _ _ _ _
    have Qj:bR (o7 w (U6 (dg w) h) (V6 (Gw w) (dg w) h)).B h:=by rw [hb]; exact hh
    obtain ⟨t2,b1,b2,b3⟩:=zY (n:=n) (by omega) a2 a3 Qj (a:=0) (.inl rfl) (fun q=>q.1 rfl)
    refine ⟨t2,?_,?_,b2,b3,a4.up h 0⟩
    · refine a1.trans ?_
      rw [az b1]
    · refine (JC (n:=n) hn r tt hh hl (by have:=f.sM hG; omega) _).trans ?_
      generalize o7 w (U6 (dg w) h) (V6 (Gw w) (dg w) h) = v
      rw [az (di (by omega) r.book h0),hg,if_pos rfl,aM (fI h)]
      rfl
end
end Go.Proofs.Ytbalnnoofdkbaaa
namespace Go.Proofs.Ytbalnnoofdkbaaa
open Go Go.Bw
section
variable {G:List Int} {up up' : Int→Int} {ρ ρ' : Int→Nat}
theorem Fo.Nj (f:Fo G up ρ) (f' : Fo G up' ρ') {h a:Int} (Gs:∀x ∈ G,up' x = if x = h then a else up x) (ha:a ≠ 0) (h0:up h = 0):∀y ∈ G,U6 up' y = if y = h∨h ∈ U6 up y then U6 up y++(a::U6 up' a) else U6 up y:=by
  refine f.wz _ fun y hy ih=>?_
  have hu:=Gs y hy
  by_cases e:y = h
  · subst e
    rw [if_pos rfl] at hu
    rw [if_pos (.inl rfl),f.u0 hy h0,f'.u1 hy (by rw [hu]; exact ha),hu]; rfl
  · rw [if_neg e] at hu
    by_cases e0:up y = 0
    · rw [f'.u0 hy (hu.trans e0),f.u0 hy e0,if_neg (fun q=>q.elim e (by simp))]
    · have hi:=ih e0
      rw [f'.u1 hy (by rw [hu]; exact e0),hu,hi,f.u1 hy e0]
      by_cases q:up y = h∨h ∈ U6 up (up y)
      · rw [if_pos q,if_pos (.inr (List.mem_cons.2 (q.imp Eq.symm _root_.id)))]; rfl
      · rw [if_neg q,if_neg (fun p=>p.elim e fun p=>q ((List.mem_cons.1 p).imp Eq.symm _root_.id))]
theorem Fo.Ni (f:Fo G up ρ) (f' : Fo G up' ρ') {h a:Int} (Gs:∀x ∈ G,up' x = if x = h then a else up x) (hh:h ∈ G) (h0:up h = 0) (hno:¬ (a = h∨h ∈ U6 up a)):∀x ∈ G,(x = h∨h ∈ U6 up x)→V6 G up' x = V6 G up x:=by
  refine f.FI _ fun x hx ih hv=>?_
  have hk:gp G up' x = gp G up x:=by
    unfold gp
    refine List.filter_congr fun y hy=>?_
    rw [Gs y hy]
    by_cases e:y = h
    · subst e
      have e1:(a == x) = false:=by
        simp only [beq_eq_false_iff_ne,ne_eq]
        exact fun q=>hno (by rw [q]; exact hv)
      have e2:(up y == x) = false:=by
        rw [h0]; simp only [beq_eq_false_iff_ne,ne_eq]; exact fun q=>f.pos x hx q.symm
      rw [if_pos rfl,e1,e2]
    · rw [if_neg e]
  rw [f.tH hx,f'.tH hx,hk]
  congr 1
  refine oG fun y hy=>?_
  obtain ⟨y1,y2⟩:=g9.1 hy
  refine ih y y1 y2 (.inr ?_)
  rw [f.u1 y1 (by rw [y2]; exact f.pos x hx),y2]
  exact List.mem_cons.2 (hv.imp Eq.symm _root_.id)
end
section
variable {n:Nat} {t:au} {w:ai}
theorem uo (r:fF t w) (tt:iL w) (x:Int):0 ≤ gy w x∧gy w x ≤ 33:=by
  unfold gy
  by_cases hg:bn w.B x = true
  · rw [if_pos hg]
    by_cases h0:0 ≤ x
    · obtain ⟨ρ,f⟩:=wh r tt
      have:=f.zH ((cX r.book x).2 ⟨h0,hg⟩); omega
    · have h3:=(gw.1 hg).2.2
      have h4:=r.book.jc (ck x) (kI x)
      unfold ck at h4; omega
  · rw [if_neg hg]; omega
theorem G3 (hn:200 ≤ n) (r:fF t w) (tt:iL w) {h:Int} (hh:bR w.B h):∃m,jO n t h = some m∧0 ≤ m∧m ≤ 34∧∀k,0 ≤ k→(k < m↔∃y ∈ V6 (Gw w) (dg w) h,k < gy w y - gy w h + 1):=by
  obtain ⟨ρ,f⟩:=wh r tt
  have hm:=cX r.book
  have hG:=(hm h).2 hh
  have hd:=fun x=>uo r tt x
  unfold jO fS
  rw [az rfl,az (qQ (by omega) r tt hh)]
  have hl:∀x ∈ V6 (Gw w) (dg w) h,eD n t x = some (gy w x)∧0 ≤ gy w x∧gy w x ≤ 1000:=fun x hx=>by
    have hx:=(hm x).1 ((f.nX hG x).1 hx).1
    have:=hd x
    exact ⟨um (by omega) r tt hx.1 (fR hx.2),by omega,by omega⟩
  have key:=Ck (fun x=>eD n t x) (eD n t h) (gy w) (gy w h) (by have:=hd h; omega) (um (by omega) r tt hh.1 (fR hh.2)) (V6 (Gw w) (dg w) h) hl 0 (by omega)
  have hf:=A0 (gy w) (gy w h) (V6 (Gw w) (dg w) h) 0
  have RK:1 ≤ gy w h:=by unfold gy; rw [if_pos hh.2]; omega
  refine ⟨_,key,?_,?_,fun k hk=>(hf k).trans ⟨fun q=>q.resolve_left (by omega), .inr⟩⟩
  · have:=(hf (-1)).2 (.inl (by omega)); omega
  · rcases Int.lt_or_le 34 ((V6 (Gw w) (dg w) h).foldl (fun m y=>max m (gy w y - gy w h + 1)) 0) with q | q
    · rcases (hf 34).1 q with q | ⟨y,_,q⟩
      · omega
      · have:=hd y; omega
    · exact q
theorem Lb (d:Int→Option Int) (v:Int→Int) (l:List Int) (hd:∀x ∈ l,d x = some (v x)) (hlen:l.length ≤ 40) {ρ:Type} (A B:Option ρ) (hn:100 ≤ n) :
    ((∃y ∈ l,6 < v y)→ef (fun HG (gD:Int) =>
  cn (decide (gD < (l.length:Int))) (
  gu (dU gD l.length) <|
  bd (d (l.getD (Int.toNat gD) default)) fun oo =>
  cn (decide (6 < oo)) A (
  HG (wr .i64 (gD + 1)))) B) n 0 = A)∧((∀y ∈ l,v y ≤ 6)→ef (fun HG (gD:Int) =>
  cn (decide (gD < (l.length:Int))) (
  gu (dU gD l.length) <|
  bd (d (l.getD (Int.toNat gD) default)) fun oo =>
  cn (decide (6 < oo)) A (
  HG (wr .i64 (gD + 1)))) B) n 0 = B):=by
  refine gn (fun (i:Int)=>∃k:Nat,i = k∧k ≤ l.length∧∀y ∈ l.take k,v y ≤ 6) (fun i=>l.length - i.toNat) (fun o=>((∃y ∈ l,6 < v y)→o = A)∧((∀y ∈ l,v y ≤ 6)→o = B)) ?_ n 0 ⟨0,rfl,by omega,by simp⟩ (by omega)
  rintro kk x ⟨k,rfl,hk,hp⟩ ih
  by_cases c:k < l.length
  · have hm:l.getD k default ∈ l:=hY c
    rw [aT (decide_eq_true (by omega)),aM (cL (by omega) (by omega)),Int.toNat_natCast,az (hd _ hm)]
    by_cases q:6 < v (l.getD k default)
    · rw [aT (decide_eq_true q)]
      exact ⟨fun _=>rfl,fun h=>by have:=h _ hm; omega⟩
    · rw [aA (decide_eq_false q),cA (by omega) (by omega)]
      refine ih _ ⟨k + 1,by omega,by omega,fun y hy=>?_⟩ (by omega)
      rw [List.take_succ_eq_append_getElem c,List.mem_append,List.mem_singleton] at hy
      rcases hy with hy | hy
      · exact hp y hy
      · rw [hy,← jl c]; omega
  · rw [aA (decide_eq_false (by omega))]
    rw [List.take_of_length_le (by omega)] at hp
    exact ⟨fun ⟨y,hy,q⟩=>by have:=hp y hy; omega,fun _=>rfl⟩
structure Rf (w:ai) (h a:Int) (w' : ai) (e:Int):Prop where
  no:e ≠ 0→w' = w
  is:e = 0→w' = qP w h a∧bR w.B h∧bR w.B a∧dg w h = 0∧¬ (a = h∨h ∈ U6 (dg w) a)∧∀y ∈ V6 (Gw w) (dg w) h,gy w' y ≤ 6
theorem Fq (hn:200 ≤ n) (r:fF t w) (tt:iL w) (i:nV w) {h a:Int} (h0:0 ≤ h) (h1:h < 4294967296) (a0:0 ≤ a) (a1:a < 4294967296) :
    ∃t' w' e,jn n t h a = some (t',e)∧jL n w h a = some (w',e)∧fF t' w'∧iL w'∧nV w'∧Rf w h a w' e:=by
  unfold jn jL
  rw [az (jv r.book h0 h1),az (bX (by omega) r h0),dj (jv r.book a0 a1),dj (bX (by omega) r a0)]
  cases hg:bn w.B h with
  | false=>exact ⟨t,w,4,rfl,rfl,r,tt,i,⟨fun _=>rfl,fun h=>absurd h (by decide)⟩⟩
  | true =>
  cases hk:bn w.B a with
  | false=>exact ⟨t,w,4,rfl,rfl,r,tt,i,⟨fun _=>rfl,fun h=>absurd h (by decide)⟩⟩
  | true =>
  have hh:bR w.B h:=⟨h0,hg⟩
  have ha:bR w.B a:=⟨a0,hk⟩
  obtain ⟨ρ,f⟩:=wh r tt
  have hm:=cX r.book
  have hG:=(hm h).2 hh
  have aG:=(hm a).2 ha
  have P9:xM w h = we (dg w) h:=by unfold xM; rw [if_pos hg]
  have Ot:lz w h a = ((h == a) || (U6 (dg w) a).contains h):=by unfold lz; rw [hg,hk]; rfl
  rw [aA (by rfl),aA (by rfl),az (Ee (by omega) r tt h0 h1),az (wG (by omega) r hh),dj (tR (by omega) r tt h0 h1 a0 a1),dj (xP (by omega) r tt h0 a0),P9]
  by_cases hu:dg w h = 0
  · have e1:(we (dg w) h != h) = false:=by simpa using (f.zR hG).2 hu
    have e2:(dg w h != 0) = false:=by simpa using hu
    rw [e1,e2]
    by_cases ho:a = h∨h ∈ U6 (dg w) a
    · have e3:lz w h a = true:=by
        rw [Ot,Bool.or_eq_true,beq_iff_eq,List.contains_iff_mem]; exact ho.imp Eq.symm _root_.id
      rw [e3]
      exact ⟨t,w,12,rfl,rfl,r,tt,i,⟨fun _=>rfl,fun h=>absurd h (by decide)⟩⟩
    · have e3:lz w h a = false:=by
        rw [Ot,Bool.or_eq_false_iff,beq_eq_false_iff_ne,← Bool.not_eq_true,List.contains_iff_mem]
        exact ⟨fun q=>ho (.inl q.symm),fun q=>ho (.inr q)⟩
      have an:a ≠ 0:=f.pos a aG
      obtain ⟨t',b1,b2,b3⟩:=zY (n:=n) (by omega) r tt hh (.inr ha) (fun q=>ho q.2)
      obtain ⟨ρ',f'⟩:=wh b2 b3
      have Gs:∀x ∈ Gw w,dg (qP w h a) x = if x = h then a else dg w x:=fun x hx=>D3 hh ((hm x).1 hx)
      have f' : Fo (Gw w) (dg (qP w h a)) ρ':=f'
      have gu:=f.Nj f' Gs an hu
      have gv:=f.Ni f' Gs hG hu ho h hG (.inl rfl)
      have ua:U6 (dg (qP w h a)) a = U6 (dg w) a:=by rw [gu a aG,if_neg ho]
      have L4:ki (qP w h a) h = V6 (Gw w) (dg w) h:=by
        unfold ki
        rw [if_pos (show bn (qP w h a).B h = true from hg)]; exact gv
      have E2:∀y ∈ V6 (Gw w) (dg w) h,gy (qP w h a) y = gy w y + gy w a:=fun y hy=>by
        obtain ⟨y1,y2⟩:=(f.nX hG y).1 hy
        have yg:bn w.B y = true:=((hm y).1 y1).2
        unfold gy
        rw [if_pos (show bn (qP w h a).B y = true from yg),if_pos yg,if_pos hk,gu y y1,if_pos y2,List.length_append,List.length_cons,ua]
        omega
      obtain ⟨m,m1,m2,m3,m4⟩:=G3 (n:=n) hn r tt hh
      have dh:gy w h = 1:=by unfold gy; rw [if_pos hg,f.u0 hG hu]; rfl
      have da:=uo r tt a
      have d1:wr .i64 (gy w a + m) = gy w a + m:=cA (by omega) (by omega)
      rw [e3,aA (by rfl),aA (by rfl),az (um (by omega) r tt a0 a1),az m1,d1,az (sR (by omega) r tt hh (.inr ha) (fun q=>ho q.2))]
      dsimp only
      rw [az (tO hn b2 b3 h0),L4]
      obtain ⟨q1,q2⟩:=Lb (n:=n) (fun x=>eJ n (qP w h a) x) (gy (qP w h a)) (V6 (Gw w) (dg w) h) (fun x hx=>sU hn b2 b3 ((hm x).1 ((f.nX hG x).1 hx).1).1) (by have:=f.sM hG; omega) (some (w,(8:Int))) (some (qP w h a,(0:Int))) (by omega)
      by_cases hq:∃y ∈ V6 (Gw w) (dg w) h,6 < gy (qP w h a) y
      · have:6 < gy w a + m:=by
          obtain ⟨y,hy,hq⟩:=hq
          rw [E2 y hy] at hq
          rcases Int.lt_or_le 6 (gy w a) with h6 | h6
          · omega
          · have:=(m4 (6 - gy w a) (by omega)).2 ⟨y,hy,by omega⟩
            omega
        rw [aT (decide_eq_true this)]
        exact ⟨t,w,8,rfl,q1 hq,r,tt,i,⟨fun _=>rfl,fun h=>absurd h (by decide)⟩⟩
      · have lZ:∀y ∈ V6 (Gw w) (dg w) h,gy (qP w h a) y ≤ 6:=fun y hy=>Int.not_lt.1 fun q=>hq ⟨y,hy,q⟩
        have hV:h ∈ V6 (Gw w) (dg w) h:=(f.nX hG h).2 ⟨hG, .inl rfl⟩
        have:¬ 6 < gy w a + m:=fun q=>by
          have h6:=lZ h hV
          rw [E2 h hV] at h6
          obtain ⟨y,hy,hq⟩:=(m4 (6 - gy w a) (by omega)).1 (by omega)
          have:=lZ y hy
          rw [E2 y hy] at this
          omega
        rw [aA (decide_eq_false this),az b1]
        exact ⟨t',qP w h a,0,rfl,q2 lZ,b2,b3,i.up h a,⟨fun h=>absurd rfl h,fun _=>⟨rfl,hh,ha,hu,ho,lZ⟩⟩⟩
  · have e1:(we (dg w) h != h) = true:=by simpa using fun q=>hu ((f.zR hG).1 q)
    have e2:(dg w h != 0) = true:=by simpa using hu
    rw [e1,e2]
    exact ⟨t,w,12,rfl,rfl,r,tt,i,⟨fun _=>rfl,fun h=>absurd h (by decide)⟩⟩
structure Q5 (w:ai) (a q:Int) (w' : ai) (m e:Int):Prop where
  no:e ≠ 0→w' = w
  is:e = 0→∃f,pG w.B f∧f < 32∧(a = 0∨bR w.B a)∧(0 ≤ q∧q ≤ 64)∧gy w a ≤ 5∧m = hJ f (w.B.iI f)∧w' = ⟨iW w.B f,eO w.R f ⟨a,q,cZ,fun _=>0⟩⟩
theorem K9 {n:Nat} (hn:110 ≤ n):dz n cZ = some true:=by
  obtain ⟨b,b1,b2⟩:=sS (n:=n) hn (x:=cZ) (by show (0:Nat) ≤ 80; omega) (fun y hy=>by cases hy)
  rw [b1,b2.2 ⟨rV.nil,by show (0:Int) ≤ 0; decide,by show (0:Int) ≤ 32 * 0; decide⟩]
theorem K6 (hn:200 ≤ n) (r:fF t w) (tt:iL w) (i:nV w) {a q:Int} (a0:0 ≤ a) (a1:a < 4294967296) :
    ∃t' w' m e,ia n t a q = some (t',m,e)∧lN n w a q = some (w',m,e)∧0 ≤ m∧m < 4294967296∧fF t' w'∧iL w'∧nV w'∧Q5 w a q w' m e:=by
  obtain ⟨t',w',m,e,e1,e2,m0,m1,k⟩:=K7 (n:=n) (by omega) r tt (q:=q) a0 a1
  have hd:=uo r tt a
  unfold ia lN
  rw [az e1,dj (um (by omega) r tt a0 a1),dj (bX (by omega) r a0),dj (sU hn r tt a0),az e2]
  dsimp only
  by_cases hok:(a = 0∨bR w.B a)∧0 ≤ q∧q ≤ 64
  · obtain ⟨ha,hq⟩:=hok
    obtain ⟨f,hf⟩:=vz w.B
    have hx:=BZ (n:=n) (by omega) r ha hq hf
    rw [e2] at hx
    have c1:((((a == 0) || (bif (a == 0) == false then bn w.B a else default)) && decide (0 ≤ q)) && decide (q ≤ 64)) = true:=by
      have:((a == 0) || (bif (a == 0) == false then bn w.B a else default)) = true:=by
        rcases ha with e | e
        · subst e; rfl
        · rw [e.2]; cases a == 0 <;> rfl
      rw [this,decide_eq_true hq.1,decide_eq_true hq.2]; rfl
    have c2:((e == 0) || (e == 7)) = true:=by
      have:=Option.some.inj hx
      by_cases hl:f < 32
      · rw [if_pos hl] at this; rw [(Prod.mk.inj (Prod.mk.inj this).2).2]; rfl
      · rw [if_neg hl] at this; rw [(Prod.mk.inj (Prod.mk.inj this).2).2]; rfl
    rw [c1,c2]
    by_cases h6:6 ≤ gy w a
    · have h5:(5:Int) < gy w a:=by omega
      rw [aT (by simpa using h6),aT (by simpa using h5)]
      exact ⟨t,w,0,8,rfl,rfl,by decide,by decide,r,tt,i,⟨fun _=>rfl,fun h=>absurd h (by decide)⟩⟩
    · have h5:¬ (5:Int) < gy w a:=by omega
      rw [aA (by simpa using h6),aA (by simpa using h5)]
      refine ⟨t',w',m,e,rfl,rfl,m0,m1,k.rt,k.tt,?_,?_⟩
      · have:=Option.some.inj hx
        by_cases hl:f < 32
        · rw [if_pos hl] at this
          obtain ⟨rfl,h2⟩:=Prod.mk.inj this
          intro g AN
          dsimp only
          rw [cK]
          split
          · exact ⟨hq,fun n hn=>K9 hn⟩
          · rename_i hne
            refine i g (((jz r.book hf hl g).1 AN).resolve_right fun e=>?_)
            have hr:=r.book.jc f hl
            obtain ⟨q1,q2,q3,q4,q5⟩:=my (i:=f) (g:=w.B.iI f) (by omega) (by omega) hr.1 hr.2
            exact hne (by rw [e]; unfold ck; rw [q2]; omega)
        · rw [if_neg hl] at this
          rw [(Prod.mk.inj this).1]; exact i
      · have:=Option.some.inj hx
        by_cases hl:f < 32
        · rw [if_pos hl] at this
          obtain ⟨h1,h2⟩:=Prod.mk.inj this
          obtain ⟨h2,h3⟩:=Prod.mk.inj h2
          exact ⟨fun h=>absurd h3 h,fun _=>⟨f,hf,hl,ha,hq,by omega,h2,h1⟩⟩
        · rw [if_neg hl] at this
          obtain ⟨h1,h2⟩:=Prod.mk.inj this
          obtain ⟨h2,h3⟩:=Prod.mk.inj h2
          exact ⟨fun _=>h1,fun h=>absurd (h3.symm.trans h) (by decide)⟩
  · have hw:w' = w∧e ≠ 0∧e ≠ 7:=by
      unfold dm at e2
      rw [dj (bX (by omega) r a0),jG] at e2
      cases hx:z7 w.B a with
      | false =>
        rw [hx,aT (b:=!false) rfl] at e2
        obtain ⟨h1,h2⟩:=Prod.mk.inj (Option.some.inj e2)
        exact ⟨h1.symm,by rw [← (Prod.mk.inj h2).2]; decide,by rw [← (Prod.mk.inj h2).2]; decide⟩
      | true =>
        have hq:¬ (0 ≤ q∧q ≤ 64):=fun h=>hok ⟨wH a0 hx,h⟩
        rw [hx,aA (b:=!true) rfl,aT (by simp; omega)] at e2
        obtain ⟨h1,h2⟩:=Prod.mk.inj (Option.some.inj e2)
        exact ⟨h1.symm,by rw [← (Prod.mk.inj h2).2]; decide,by rw [← (Prod.mk.inj h2).2]; decide⟩
    obtain ⟨rfl,n0,n7⟩:=hw
    have c1:((((a == 0) || (bif (a == 0) == false then bn w'.B a else default)) && decide (0 ≤ q)) && decide (q ≤ 64)) = false:=by
      by_cases hq:0 ≤ q∧q ≤ 64
      · have ha:¬ (a = 0∨bR w'.B a):=fun h=>hok ⟨h,hq⟩
        have e1:(a == 0) = false:=by simpa using fun h=>ha (.inl h)
        have e2:bn w'.B a = false:=by
          cases h:bn w'.B a with
          | false=>rfl
          | true=>exact absurd (.inr ⟨a0,h⟩) ha
        rw [e1,e2]; rfl
      · have:(decide (0 ≤ q) && decide (q ≤ 64)) = false:=by rw [Bool.and_eq_false_iff,decide_eq_false_iff_not,decide_eq_false_iff_not]; omega
        rw [Bool.and_assoc,this,Bool.and_false]
    have c2:((e == 0) || (e == 7)) = false:=by rw [Bool.or_eq_false_iff,beq_eq_false_iff_ne,beq_eq_false_iff_ne]; exact ⟨n0,n7⟩
    rw [c1,c2,aA (by rfl),aA (by rfl)]
    exact ⟨t',w',m,e,rfl,rfl,m0,m1,k.rt,k.tt,i,⟨fun _=>rfl,fun h=>absurd h n0⟩⟩
end
end Go.Proofs.Ytbalnnoofdkbaaa
namespace Go.Proofs.Ytbalnnoofdkbaaa
open Go Go.Bw
section
variable {n:Nat} {t:au} {w:ai}
theorem oV (r:fF t w) {a:Int} (h0:0 ≤ a) (h1:a < 4294967296):∃v,g8 n w a = some v∧0 ≤ v∧v < 4294967296:=by
  unfold g8
  by_cases hc:1 ≤ a∧a ≤ 32
  · have e:(decide (1 ≤ a) && decide (a ≤ 32)) = true:=by simpa using hc
    rw [e,mK (x:=a - 1) (by omega) (by omega),aM (by rw [cL (by omega) (by omega)]; rfl),Bool.true_and]
    have hr:=r.book.jc (a - 1).toNat (by omega)
    by_cases h2:w.B.Is (a - 1).toNat = 1
    · obtain ⟨q1,q2,q3,q4,q5⟩:=my (i:=a - 1) (g:=w.B.iI (a - 1).toNat) (by omega) (by omega) hr.1 hr.2
      rw [aT (by simpa using h2),cA (by omega) (by omega),az (nG (by omega) (by omega) hr.1 hr.2)]
      exact ⟨_,rfl,by omega,q5⟩
    · rw [aA (by simpa using h2),cA (by omega) (by omega)]
      exact ⟨_,rfl,h0,h1⟩
  · have e:(decide (1 ≤ a) && decide (a ≤ 32)) = false:=by rw [Bool.and_eq_false_iff,decide_eq_false_iff_not,decide_eq_false_iff_not]; omega
    rw [e,aM (by rfl),aA (by rfl),cA (by omega) (by omega)]
    exact ⟨_,rfl,h0,h1⟩
theorem KX (hn:100 ≤ n) {l:List Int} (hl:l.length ≤ 40) (hr:∀x ∈ l,0 ≤ x∧x < 4294967296):lU n l l = some true:=by
  unfold lU
  rw [aA (by simp)]
  refine gn (fun (i:Int)=>0 ≤ i∧i ≤ l.length) (fun i=>((l.length:Int) - i).toNat) (fun o=>o = some true) ?_ n 0 ⟨by omega,by omega⟩ (by omega)
  rintro kk i ⟨i0,i1⟩ ih
  by_cases c:i < l.length
  · have hx:=hr _ (hY (l:=l) (i:=i.toNat) (by omega))
    rw [aT (by simpa using c),aM (cL i0 c),aM (cL i0 c),cA (x:=l.getD i.toNat default) (by omega) (by omega),aA (by simp),cA (by omega) (by omega)]
    exact ih _ ⟨by omega,by omega⟩ (by omega)
  · rw [aA (by simpa using c)]
theorem zW (hn:40 ≤ n) (r:fF t w) {h:Int} (h0:0 ≤ h) (hg:bn w.B h = false):∃x,ep n w h = some (x,4):=by
  unfold ep
  rw [az (di hn r.book h0),hg]
  exact ⟨_,rfl⟩
theorem DI (hn:200 ≤ n) (r:fF t w) (tt:iL w) (i:nV w) {h z:Int} (hh:bR w.B h) (z0:0 ≤ z) (z1:z < 4294967296) {k:Nat} (hk:k < 8) :
    ∃t',dP n t h { kF t w h with Cells:=eO (kF t w h).Cells k z } = some (t',0)∧eK n w h { w.R (ck h) with Cells:=eO (w.R (ck h)).Cells k z } = some (zv w h { w.R (ck h) with Cells:=eO (w.R (ck h)).Cells k z },0) ∧
      fF t' (zv w h { w.R (ck h) with Cells:=eO (w.R (ck h)).Cells k z })∧iL (zv w h { w.R (ck h) with Cells:=eO (w.R (ck h)).Cells k z })∧nV (zv w h { w.R (ck h) with Cells:=eO (w.R (ck h)).Cells k z }):=by
  obtain ⟨l1,l2⟩:=dA hh
  have hR:=r.zU _ l1 l2
  have hq:=i h hh
  have hp:uL { kF t w h with Cells:=eO (kF t w h).Cells k z } { w.R (ck h) with Cells:=eO (w.R (ck h)).Cells k z }:=by
    refine ⟨hR.q,hR.e,hR.n,hR.r,fun j hj=>?_,fun j hj=>?_⟩
    · dsimp only
      rw [cK,cK]
      split
      · rfl
      · exact hR.c j hj
    · dsimp only
      rw [cK]
      split
      · omega
      · exact hR.c0 j hj
  obtain ⟨t1,s1,s2,s3⟩:=G6 (n:=n) (by omega) r tt hh hp hq.1 (hq.2 n (by omega))
  exact ⟨t1,s1,xO (by omega) r hh hq.1 (hq.2 n (by omega)),s2,s3,i.set hh rfl rfl⟩
def Kh (a:gS):Prop:=(0 ≤ a.Do∧a.Do ≤ 255)∧(0 ≤ a.A∧a.A ≤ 4294967295)∧(0 ≤ a.B∧a.B ≤ 4294967295)∧(0 ≤ a.C∧a.C ≤ 4294967295)∧(-9223372036854775808 ≤ a.cq∧a.cq ≤ 9223372036854775807)
theorem JA (hn:200 ≤ n) (r:fF t w) (tt:iL w) (i:nV w) {a:gS} (ha:Kh a):∃t' w',kO n t w a = some (t',w',true)∧fF t' w'∧iL w'∧nV w':=by
  obtain ⟨_,hA,hB,hC,_⟩:=ha
  obtain ⟨x,x1,x2,x3⟩:=oV (n:=n) r hA.1 (by omega)
  obtain ⟨y,y1,y2,y3⟩:=oV (n:=n) r hB.1 (by omega)
  obtain ⟨z,z1,z2,z3⟩:=oV (n:=n) r hC.1 (by omega)
  unfold kO
  rw [az x1,az y1,az z1,lt_eq,mK (x:=x) (by omega) (by omega),mK (x:=y) (by omega) (by omega),mK (x:=z) (by omega) (by omega)]
  by_cases d0:a.Do = 0
  · obtain ⟨t',e1,e2,e3,e4⟩:=Jl (n:=n) hn r tt i x2 x3
    have hu:=uY r tt x
    rw [aT (by simpa using d0),az e1,az e2]
    dsimp only
    rw [az (KX (by omega) (by have:=(tL r tt x).2; omega) hu)]
    exact ⟨t',ff w (ki w x),by simp,e3,e4,(A4 _ r tt i hu).2.2.1⟩
  rw [aA (by simpa using d0)]
  by_cases d1:a.Do = 1
  · obtain ⟨t',e1,e2,e3,e4,e5⟩:=NF (n:=n) hn r tt i x2 x3
    rw [aT (by simpa using d1),az e1,az e2]
    exact ⟨t',y5 w x,by simp,e3,e4,e5⟩
  rw [aA (by simpa using d1)]
  by_cases d2:a.Do = 2
  · obtain ⟨t',w',e,e1,e2,e3,e4,e5,_⟩:=Fq (n:=n) hn r tt i x2 x3 y2 y3
    rw [aT (by simpa using d2),az e1,az e2]
    exact ⟨t',w',by simp,e3,e4,e5⟩
  rw [aA (by simpa using d2)]
  by_cases d3:a.Do = 3
  · have hb:Int.tmod a.B 8 = a.B % 8:=zK hB.1
    have hk:dU (Int.tmod a.B 8) 8 = true:=by rw [hb]; exact cL (by omega) (by omega)
    rw [aT (by simpa using d3),az (nJ r x2 x3),aM hk,lt_eq]
    cases hg:bn w.B x with
    | false =>
      obtain ⟨v,v1⟩:=zW (n:=n) (by omega) r x2 hg
      rw [if_neg (by decide),az v1,aM hk,lt_eq,aA (by rfl)]
      exact ⟨t,w,rfl,r,tt,i⟩
    | true =>
      have hx:bR w.B x:=⟨x2,hg⟩
      obtain ⟨t',e1,e2,e3,e4,e5⟩:=DI (n:=n) hn r tt i hx z2 z3 (k:=(Int.tmod a.B 8).toNat) (by rw [hb]; omega)
      rw [if_pos rfl,az (ot (by omega) r hx),aM hk,lt_eq,aT (by rfl)]
      dsimp only at e1 ⊢
      rw [az e1,az e2]
      exact ⟨t',_,by simp,e3,e4,e5⟩
  rw [aA (by simpa using d3)]
  obtain ⟨t',w',m,e,e1,e2,m0,m1,e3,e4,e5,_⟩:=K6 (n:=n) hn r tt i (q:=a.cq) x2 x3
  have hm:wr .i64 m = m:=cA (by omega) (by omega)
  rw [az e1,az e2]
  exact ⟨t',w',by simp [hm],e3,e4,e5⟩
end
theorem Aj:nV cv:=fun g hg=>by
  have:=(dA hg).2
  exact (vi this).elim
end Go.Proofs.Ytbalnnoofdkbaaa
namespace Go.Bw
open Go Go.RowKit
abbrev B2 (T:Nat) (e:Int):List PanicEntry:=[{ v:=.iface T (.int .i64 e),recovered:=false }]
structure GN (P:Program) (f:Nat) (args:List Value) (pre:World→Prop) (T:Nat) (e:Int):Prop where
  enter:∀args w,(callFunc f args).run P w = .ok (.enter f args) w
  calls:∀w,pre w→Calls P f args.toArray w fun en w'=>en = .panicked (B2 T e)∧bw [] w w'
def DN (P:Program) (c:Cx) (fn:Func) (T:Nat) (e:Int):Exit→Act→World→Prop:=
  bodyPostM (FA none) 0 P fn fun en w'=>en = .panicked (B2 T e)∧bw c.bs c.w0 w'
section
variable {α:Type} {P:Program} {N:Nat} {c:Cx} {F:dB} {H:List aZ} {D:List Deferred} {fn:Func} {p:α→Prop} {fv:α→Value} {fH:α→List aZ} {ops:Array Oper} {d:Option Tmp} {ty:TypeId} {ps:String} {af:Array Edge}
theorem A1 {f:Nat} {fn:Func} {code:Code} {args:List Value} {pre:World→Prop} {T:Nat} {e:Int}
    (hf:P.funcs[f]? = some fn) (hname:(fn.name == "runtime.NumGoroutine") = false) (hb:fn.body = some code) (hN:fn.ntmps = N) (ha:Nat.ble args.length N = true)
    (h:∀c:Cx,c.bs = bI []→pre c.w0→c.ro = none→WP P N c [] code (DN P c fn T e) (w6 0 args) []):GN P f args pre T e:=by
  refine ⟨fun args w=>?_,fun w hw=>?_⟩
  · have h1:fn.name ≠ "runtime.NumGoroutine":=by simpa using hname
    simp [callFunc,hf,h1,hb,Go.mark]
  · refine (callsIn_wide (n:=0)).1 (callsIn_of_wp_marks (F:=Fence.wide) hf hb trivial ?_)
    refine h ⟨none,w,bI []⟩ rfl hw rfl _ w ⟨?_,?_,rfl,bw.refl _ _,cy.nil _ _ _⟩
    · have:=Nat.le_of_ble_eq_true ha
      simp; omega
    · intro d v hd
      obtain ⟨_,h2⟩:=xW args 0 d v hd
      simp only [Nat.sub_zero] at h2
      have hlt:=(List.getElem?_eq_some_iff.1 h2).1
      rw [Array.getElem?_append_left (by simpa using hlt)]
      simpa using h2
theorem uE {T:Nat} {e:Int}:WQ N c [] (DN P c fn T e) (.panic (B2 T e)) F H:=fun a w hst=>by
  show LeavesInM (FA none) 0 P fn a.tmps _ a.defers (.panicking _) w
  rw [hst.df]
  exact ⟨rfl,hst.si⟩
theorem St.Ns {a:Act} {w w' : World} (h:St N c D F H a w) (hs:bw [] w w'):St N c D F H a w':=⟨h.tm,h.fr,h.df,h.si.ext hs,h.hp.ext hs⟩
theorem nu {Q:Exit→Act→World→Prop} {l:List Oper} {args:List Operand} {ats:Array TypeId} {f:Nat} {vs:List Value} {pre:World→Prop} {T:Nat} {e:Int} (hc:GN P f vs pre T e) (ha:qw F args = some vs)
    (hpre:∀w,bw c.bs c.w0 w→cy c.bs c.w0.heap.size H w→pre w) (h:WQ N c D Q (.panic (B2 T e)) F H):WL P N c D ops Q (⟨d, .call ⟨.value (.func f),args.toArray,ats⟩,ty,ps,af,none⟩::l) F H:=fun a w hst=>by
  refine wpListIn_step fun K hK=>?_
  rw [if_pos (by simp [Region.wanted])]
  refine ⟨fun _ _=>trivial,?_⟩
  have hs:Oper.semAt (FA c.ro).round a.eval (⟨d, .call ⟨.value (.func f),args.toArray,ats⟩,ty,ps,af,none⟩ : Oper) = execOp a.eval ⟨d, .call ⟨.value (.func f),args.toArray,ats⟩,ty,ps,af,none⟩:=Oper.semAt_eq _ _ _ (by simp)
  have hr:(execOp a.eval ⟨d, .call ⟨.value (.func f),args.toArray,ats⟩,ty,ps,af,none⟩).run P w = .ok (.enter f vs.toArray) w:=by
    have e1:a.eval (.func f) = .func (.func f) #[] #[]:=rfl
    have e2:=pU hst.fr ha
    have e3:#[]++(args.toArray.map a.eval)++#[] = vs.toArray:=by rw [← e2]; simp
    simp only [execOp,resolve,e1,Deferred.ofValue,Sem.run_bind,Sem.run_pure,Result.andThen_ok,invoke,e3]
    exact hc.enter _ _
  rw [hs,hr]
  refine ⟨fun h=>by simp at h,jB c.ro ?_⟩
  intro cs
  obtain ⟨en,w',fr,⟨rfl,hsi⟩,rest⟩:=hc.calls w (hpre w hst.si hst.hp) cs
  exact ⟨_,w',fr,h a w' (hst.Ns hsi),rest⟩
theorem Bn {Q:Exit→Act→World→Prop} {l:List Oper} {x:Operand} {T:Nat} {e:Int} (hx:ev F x = some (.iface T (.int .i64 e))) (h:WQ N c D Q (.panic (B2 T e)) F H):WL P N c D ops Q (⟨d, .panic x,ty,ps,af,none⟩::l) F H:=fun a w hst=>by
  refine wpListIn_step fun K hK=>?_
  rw [if_pos (by simp [Region.wanted])]
  refine ⟨fun _ _=>trivial,?_⟩
  rw [Oper.semAt_eq _ _ _ (by simp)]
  have:(execOp a.eval ⟨d, .panic x,ty,ps,af,none⟩).run P w = .halt (.panic (.iface T (.int .i64 e))) w:=by
    simp [execOp,bK hst.fr hx,Instr.panic]
  rw [this]
  exact h a w hst
theorem FY {x:Operand} {T:Nat} {v:Value} {k:IntKind} {g:Option (Nat × Bool)} [ht:v7 P T k] (hx:ev F x = some v):VS P N c ⟨d, .makeInterface T x,ty,ps,af,g⟩ F H (.iface T v):=
  br (by simp) fun a w hf _ _=>by simp [execOp,bK hf hx,Instr.makeInterface,run_underlying ht.ok]
theorem gJ {K:Act→World→Prop} {Q:Exit→Act→World→Prop} {ch:List PanicEntry} (h:WQ N c D Q (.panic ch) F H):WQ N c D (Exit.then K Q) (.panic ch) F H:=h
structure xF (P:Program) (f T:Nat):Prop where
  enter:∀args w,(callFunc f args).run P w = .ok (.enter f args) w
  ret:∀b w,CallsDIn (FA none) 0 P f #[Ptr b 0] .returning w fun en u' w'=>(∃v,en = .returned v)∧u' = .returning∧bw [] w w'
  B2:∀b Tb x e w,w.heap[b]? = some (.cells #[x] Tb (0,0))→CallsDIn (FA none) 0 P f #[Ptr b 0] (.panicking (B2 T e)) w fun en u' w' =>
    (∃v,en = .returned v)∧settle u' = .returning∧bw [b] w w'∧w'.heap[b]? = some (.cells #[.int .i64 e] Tb (0,0))
def rG (f b:Nat):Deferred:={ target:=.fn (.func f) #[],args:=#[Ptr b 0] }
theorem vY {Q:Exit→Act→World→Prop} {l:List Oper} {x:Operand} {ats:Array TypeId} {f b:Nat} (hx:ev F x = some (Ptr b 0)) (hro:c.ro = none) (h:WL P N c (rG f b::D) ops Q l F H):WL P N c D ops Q (⟨none, .defer ⟨.value (.func f),#[x],ats⟩,ty,ps,af,none⟩::l) F H:=fun a w hst=>by
  refine wpListIn_step fun K hK=>?_
  rw [if_pos (by simp [Region.wanted])]
  refine ⟨fun _ _=>trivial,?_⟩
  have e0:(FA c.ro).round = none:=by rw [hro]
  rw [e0,Oper.semAt_none]
  have e1:a.eval (.func f) = .func (.func f) #[] #[]:=rfl
  have:(execOp a.eval ⟨none, .defer ⟨.value (.func f),#[x],ats⟩,ty,ps,af,none⟩).run P w = .ok (.defer (rG f b)) w:=by
    simp [execOp,resolve,e1,Deferred.ofValue,bK hst.fr hx,rG]
  rw [this]
  exact hK _ _ (h _ w ⟨hst.tm,hst.fr,by show _::a.defers = _; rw [hst.df],hst.si,hst.hp⟩)
theorem vW {f b T:Nat} (hE:xF P f T) (h:WQ N c [] (Post P c fn p fv fH) .ret F H):WQ N c [rG f b] (Post P c fn p fv fH) .ret F H:=fun a w hst=>by
  show LeavesInM (FA none) 0 P fn a.tmps _ a.defers .returning w
  rw [hst.df]
  refine ⟨by simp, .inr ⟨by simp,_,_,f,#[Ptr b 0],rfl,?_,fun _ _=>trivial,?_⟩⟩
  · simp only [rG,invoke]; exact hE.enter _ _
  · refine (hE.ret b w).mono fun en u' w'=>?_
    rintro ⟨⟨v,rfl⟩,rfl,hs⟩
    have tY:St N c [] F H { a with defers:=[] } w':=⟨hst.tm,hst.fr,rfl,hst.si.ext hs,hst.hp.ext hs⟩
    exact h _ _ tY
theorem l9 {f b T Tb:Nat} {e:Int} {x:Value} {H' : List aZ} (hE:xF P f T) [hc:lG H b Tb [x]] [hs:sH H b [.int .i64 e] H'] (h:WQ N c [] (Post P c fn p fv fH) .ret F H'):WQ N c [rG f b] (Post P c fn p fv fH) (.panic (B2 T e)) F H:=fun a w hst=>by
  show LeavesInM (FA none) 0 P fn a.tmps _ a.defers (.panicking _) w
  rw [hst.df]
  refine ⟨by simp, .inr ⟨by simp,_,_,f,#[Ptr b 0],rfl,?_,fun _ _=>trivial,?_⟩⟩
  · simp only [rG,invoke]; exact hE.enter _ _
  · have hb:w.heap[b]? = some (.cells #[x] Tb (0,0)):=hst.hp.holds _ hc.mem
    refine (hE.B2 b Tb x e w hb).mono fun en u' w'=>?_
    rintro ⟨⟨v,rfl⟩,hu,hsi,hb'⟩
    obtain ⟨k,T',cs,hk,rfl⟩:=hs.ok
    have hm:aZ.cells b T' cs ∈ H:=List.mem_of_getElem? hk
    have hT:T' = Tb:=by
      have:=hst.hp.holds _ hm
      have h2:w.heap[b]? = some (.cells cs.toArray T' (0,0)):=this
      rw [hb] at h2
      simp only [Option.some.injEq,Obj.cells.injEq] at h2
      exact h2.2.1.symm
    subst hT
    have Mv:cy c.bs c.w0.heap.size (H.set k (.cells b T' [.int .i64 e])) w':=by
      refine hst.hp.set hk hsi.size (fun j hj hn=>hsi.block j hj (by simpa [aZ.gN] using hn)) hb' hst.si.size (fun b' CC=>?_)
      have e2:b' = b:=by simpa [aZ.gN] using CC
      subst e2
      exact ⟨.inl (by simp [aZ.gN]),Nat.lt_of_lt_of_le (Array.getElem?_eq_some_iff.1 hb).1 hsi.size⟩
    have tY:St N c [] F (H.set k (.cells b T' [.int .i64 e])) { a with defers:=[] } w':=⟨hst.tm,hst.fr,rfl,hst.si.store hst.hp hm (by simp [aZ.gN]) hsi,Mv⟩
    show LeavesInM (FA none) 0 P fn a.tmps _ [] (settle u') w'
    rw [hu]
    exact h _ _ tY
end
def DG (P:Program) (T j o n:Nat):Bool:=match P.underlying T with
  | some (.struct fs)=>match fs[j]? with
    | some fl=>Nat.beq fl.offset o && uv P fl.type n
    | none=>false
  | _=>false
theorem zb {α β:Type} {P:Program} {N:Nat} {c:Cx} {F:dB} {H:List aZ} {d:Option Tmp} {ty:TypeId} {ps:String} {af:Array Edge} {g:Option (Nat × Bool)} {T j fo:Nat} {x:Operand} {L:aJ α} {M:aJ β} [bg M] {A:World→Prop} {cs:List Value} {y:α} {gg:α→β} {s:α→β→α} (p:aN L M fo gg s) (r:L.rep A cs y) (hx:ev F x = some (.agg cs.toArray)) (ht:DG P T j fo M.n = true) :
    VS P N c ⟨d, .field T x j,ty,ps,af,g⟩ F H (.agg (M.enc (gg y)).toArray):=
  br (by simp) fun a w hfr _ _=>by
    have hg:(cs.drop fo).take M.n = M.enc (gg y):=bg.iff.1 (p.get r)
    unfold DG at ht
    split at ht
    · rename_i fs e1
      split at ht
      · rename_i fl e2
        rw [Bool.and_eq_true] at ht
        have ho:=Nat.eq_of_beq_eq_true ht.1
        haveI:ja P fl.type M.n:=⟨ht.2⟩
        have Fj:(isAgg fl.type).run P w = .ok true w:=kJ w
        have hs:(sizeOf fl.type).run P w = .ok M.n w:=Bw.run_sizeOf w
        have hp:(part fl.type cs.toArray fl.offset).run P w = .ok (.agg (M.enc (gg y)).toArray) w:=by
          have:(cs.toArray.extract fo (fo + M.n)) = (M.enc (gg y)).toArray:=by
            apply Array.ext'
            rw [← hg]
            simp [List.extract_eq_take_drop]
          simp only [part,Sem.run_bind,Fj,Result.andThen_ok,if_true,hs,ho,Sem.run_pure,this]
        have ha:(asAgg (.agg cs.toArray)).run P w = .ok cs.toArray w:=rfl
        simp [execOp,bK hfr hx,Instr.field,run_underlying e1,e2,ha,hp]
      · cases ht
    · cases ht
def tc {α:Type} (b:Bool) (f:α) (k:Option α):Option α:=bif b then k else some f
theorem yx {α:Type} {b:Bool} {f r:α} {k:Option α} (h:tc b f k = some r):(b = false∧some f = some r)∨(b = true∧k = some r):=by cases b <;> simp_all [tc]
theorem Dn {α:Type} {b:Bool} {e:Int} {r:α} {k:Option (Except Int α)} (h:tc b (.error e) k = some (.ok r)):b = true∧k = some (.ok r):=by cases b <;> simp_all [tc]
def tr {α β:Type} (x:Option (Except Int α)) (f:Int→β) (k:α→Option β):Option β:=match x with
  | some (.ok a)=>k a
  | some (.error e)=>some (f e)
  | none=>none
theorem G1 {α β:Type} {x:Option (Except Int α)} {f:Int→β} {k:α→Option β} {r:β} (h:tr x f k = some r):(∃e,x = some (.error e)∧some (f e) = some r)∨∃a,x = some (.ok a)∧k a = some r:=by
  match x,h with
  | some (.ok a),h=>exact .inr ⟨a,rfl,h⟩
  | some (.error e),h=>exact .inl ⟨e,rfl,h⟩
end Go.Bw
