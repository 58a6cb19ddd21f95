/- Part 3 of what a proof leans on; pruned and shortened by a program out of longer texts. -/
import Derived.Test.YtmdpbdhkmfjlhaaQ2
namespace Go.Proofs.Ytmdpbdhkmfjlhaa
open Go Go.Bw
structure Fo (G:List Int) (up:Int→Int) (ρ:Int→Nat):Prop where
  nd:G.Nodup
  len:G.length ≤ 32
  pos:∀x ∈ G,x ≠ 0
  IT:∀x ∈ G,up x = 0∨up x ∈ G
  rk:∀x ∈ G,ρ x < 32
  dn:∀x ∈ G,up x ≠ 0→ρ (up x) < ρ x
def tR (up:Int→Int):Nat→Int→List Int
  | 0,_=>[]
  | k + 1,x=>if up x = 0 then [] else up x::tR up k (up x)
def fS (G:List Int) (up:Int→Int) (x:Int):List Int:=G.filter fun y=>up y == x
def tS (G:List Int) (up:Int→Int):Nat→Int→List Int
  | 0,_=>[]
  | k + 1,x=>x::(fS G up x).flatMap (tS G up k)
abbrev U6 (up:Int→Int) (x:Int):List Int:=tR up 32 x
abbrev V6 (G:List Int) (up:Int→Int) (x:Int):List Int:=tS G up 32 x
theorem gw {G:List Int} {up:Int→Int} {x y:Int}:y ∈ fS G up x↔y ∈ G∧up y = x:=by simp [fS]
theorem nR {α β:Type} {l:List α} {f g:α→List β} (h:∀x ∈ l,f x = g x):l.flatMap f = l.flatMap g:=by
  induction l with
  | nil=>rfl
  | cons a l ih=>rw [List.flatMap_cons,List.flatMap_cons,h a (by simp),ih fun x hx=>h x (by simp [hx])]
section
variable {G:List Int} {up:Int→Int} {ρ:Int→Nat}
theorem Fo.yx (f:Fo G up ρ) {x:Int} (hx:x ∈ G) (h:up x ≠ 0):up x ∈ G:=(f.IT x hx).resolve_left h
theorem Fo.vl (f:Fo G up ρ) (P:Int→Prop) (h:∀x ∈ G,(up x ≠ 0→P (up x))→P x):∀x ∈ G,P x:=by
  have key:∀k x,x ∈ G→ρ x < k→P x:=by
    intro k
    induction k with
    | zero=>intro x _ h; omega
    | succ k ih=>intro x hx hk; exact h x hx fun hu=>ih _ (f.yx hx hu) (by have:=f.dn x hx hu; omega)
  exact fun x hx=>key _ x hx (Nat.lt_succ_self _)
theorem Fo.Dl (f:Fo G up ρ) {x y:Int} (hx:x ∈ G) (hy:y ∈ G) (h:up y = x):ρ x < ρ y:=by
  have:=f.dn y hy (by rw [h]; exact f.pos x hx)
  rwa [h] at this
theorem Fo.Er (f:Fo G up ρ) (P:Int→Prop) (h:∀x ∈ G,(∀y ∈ G,up y = x→P y)→P x):∀x ∈ G,P x:=by
  have key:∀k x,x ∈ G→32 - ρ x < k→P x:=by
    intro k
    induction k with
    | zero=>intro x _ h; omega
    | succ k ih=>intro x hx hk; exact h x hx fun y hy hu=>ih _ hy (by have:=f.Dl hx hy hu; have:=f.rk y hy; omega)
  exact fun x hx=>key _ x hx (Nat.lt_succ_self _)
theorem Fo.Ny (f:Fo G up ρ):∀k x,x ∈ G→ρ x < k→tR up (k + 1) x = tR up k x:=by
  intro k
  induction k with
  | zero=>intro x _ h; omega
  | succ k ih =>
    intro x hx hk
    show (if up x = 0 then [] else up x::tR up (k + 1) (up x)) = (if up x = 0 then [] else up x::tR up k (up x))
    split
    · rfl
    · rename_i hu
      rw [ih _ (f.yx hx hu) (by have:=f.dn x hx hu; omega)]
theorem Fo.FB (f:Fo G up ρ) {x:Int} (hx:x ∈ G):U6 up x = if up x = 0 then [] else up x::U6 up (up x):=by
  show tR up (31 + 1) x = _
  rw [tR]
  split
  · rfl
  · rename_i hu
    have:=f.dn x hx hu
    have:=f.rk x hx
    rw [← f.Ny 31 _ (f.yx hx hu) (by omega)]
theorem Fo.u0 (f:Fo G up ρ) {x:Int} (hx:x ∈ G) (h:up x = 0):U6 up x = []:=by rw [f.FB hx,if_pos h]
theorem Fo.u1 (f:Fo G up ρ) {x:Int} (hx:x ∈ G) (h:up x ≠ 0):U6 up x = up x::U6 up (up x):=by rw [f.FB hx,if_neg h]
theorem Fo.Np (f:Fo G up ρ):∀k x,x ∈ G→32 - ρ x ≤ k→tS G up (k + 1) x = tS G up k x:=by
  intro k
  induction k with
  | zero=>intro x hx h; have:=f.rk x hx; omega
  | succ k ih =>
    intro x hx hk
    rw [tS,tS]
    congr 1
    refine nR fun y hy=>?_
    obtain ⟨hy,hu⟩:=gw.1 hy
    exact ih y hy (by have:=f.Dl hx hy hu; have:=f.rk y hy; omega)
theorem Fo.sD (f:Fo G up ρ) {x:Int} (hx:x ∈ G):V6 G up x = x::(fS G up x).flatMap (V6 G up):=by
  show tS G up (31 + 1) x = _
  rw [tS]
  congr 1
  refine nR fun y hy=>?_
  obtain ⟨hy,hu⟩:=gw.1 hy
  have:=f.Dl hx hy hu
  exact (f.Np 31 y hy (by have:=f.rk y hy; omega)).symm
theorem Fo.pc (f:Fo G up ρ) {x:Int} (hx:x ∈ G):∀y ∈ U6 up x,y ∈ G∧ρ y < ρ x:=by
  refine f.vl (fun x=>∀y ∈ U6 up x,y ∈ G∧ρ y < ρ x) (fun x hx ih y hy=>?_) x hx
  by_cases hu:up x = 0
  · rw [f.u0 hx hu] at hy; cases hy
  · rw [f.u1 hx hu] at hy
    have:=f.dn x hx hu
    rcases List.mem_cons.1 hy with h | h
    · rw [h]; exact ⟨f.yx hx hu,this⟩
    · obtain ⟨h1,h2⟩:=ih hu y h; exact ⟨h1,by omega⟩
theorem Fo.Ch (f:Fo G up ρ) {x:Int} (hx:x ∈ G):x ∉ U6 up x:=fun h=>by have:=(f.pc hx x h).2; omega
theorem Fo.Jk (f:Fo G up ρ) {x y z:Int} (hx:x ∈ G) (hy:y ∈ U6 up x) (hz:z ∈ U6 up y):z ∈ U6 up x:=by
  revert hy
  refine f.vl (fun x=>y ∈ U6 up x→z ∈ U6 up x) (fun x hx ih hy=>?_) x hx
  by_cases hu:up x = 0
  · rw [f.u0 hx hu] at hy; cases hy
  · rw [f.u1 hx hu] at hy ⊢
    rcases List.mem_cons.1 hy with h | h
    · rw [← h]; exact List.mem_cons_of_mem _ hz
    · exact List.mem_cons_of_mem _ (ih hu h)
theorem Fo.Jj (f:Fo G up ρ) {x y:Int} (hx:x ∈ G) (hy:y = x∨y ∈ U6 up x) (hu:up y ≠ 0):up y ∈ U6 up x:=by
  rcases hy with h | h
  · subst h; rw [f.u1 hx hu]; exact List.mem_cons_self
  · exact f.Jk hx h (by rw [f.u1 (f.pc hx y h).1 hu]; exact List.mem_cons_self)
theorem Fo.C6 (f:Fo G up ρ) {x y:Int} (hy:y ∈ G) (h:x ∈ U6 up y):∃k ∈ G,up k = x∧(k = y∨k ∈ U6 up y):=by
  revert h
  refine f.vl (fun y=>x ∈ U6 up y→∃k ∈ G,up k = x∧(k = y∨k ∈ U6 up y)) (fun y hy ih h=>?_) y hy
  by_cases hu:up y = 0
  · rw [f.u0 hy hu] at h; cases h
  · rw [f.u1 hy hu] at h
    rcases List.mem_cons.1 h with h | h
    · exact ⟨y,hy,h.symm, .inl rfl⟩
    · obtain ⟨k,k1,k2,k3⟩:=ih hu h
      refine ⟨k,k1,k2, .inr ?_⟩
      rw [f.u1 hy hu]
      rcases k3 with k3 | k3
      · rw [k3]; exact List.mem_cons_self
      · exact List.mem_cons_of_mem _ k3
theorem Fo.N0 (f:Fo G up ρ) {a b y:Int} (hy:y ∈ G) (ha:a = y∨a ∈ U6 up y) (hb:b = y∨b ∈ U6 up y):a = b∨a ∈ U6 up b∨b ∈ U6 up a:=by
  revert ha hb
  refine f.vl (fun y=>(a = y∨a ∈ U6 up y)→(b = y∨b ∈ U6 up y)→a = b∨a ∈ U6 up b∨b ∈ U6 up a) (fun y hy ih ha hb=>?_) y hy
  by_cases hu:up y = 0
  · rw [f.u0 hy hu] at ha hb
    have e1:a = y:=ha.resolve_right (by simp)
    have e2:b = y:=hb.resolve_right (by simp)
    exact .inl (e1.trans e2.symm)
  · rcases ha with ha | ha
    · rcases hb with hb | hb
      · exact .inl (ha.trans hb.symm)
      · subst ha; exact .inr (.inr hb)
    · rcases hb with hb | hb
      · subst hb; exact .inr (.inl ha)
      · rw [f.u1 hy hu] at ha hb
        exact ih hu (List.mem_cons.1 ha) (List.mem_cons.1 hb)
theorem Fo.nu (f:Fo G up ρ) {x:Int} (hx:x ∈ G):∀y,y ∈ V6 G up x↔y ∈ G∧(y = x∨x ∈ U6 up y):=by
  refine f.Er (fun x=>∀y,y ∈ V6 G up x↔y ∈ G∧(y = x∨x ∈ U6 up y)) (fun x hx ih y=>?_) x hx
  rw [f.sD hx,List.mem_cons,List.mem_flatMap]
  constructor
  · rintro (h | ⟨k,hk,h⟩)
    · subst h; exact ⟨hx, .inl rfl⟩
    · obtain ⟨k1,k2⟩:=gw.1 hk
      obtain ⟨h1,h2⟩:=(ih k k1 k2 y).1 h
      refine ⟨h1, .inr ?_⟩
      rw [← k2]
      exact f.Jj h1 (h2.imp Eq.symm _root_.id) (by rw [k2]; exact f.pos x hx)
  · rintro ⟨h1,h | h⟩
    · exact .inl h
    · obtain ⟨k,k1,k2,k3⟩:=f.C6 h1 h
      exact .inr ⟨k,gw.2 ⟨k1,k2⟩,(ih k k1 k2 y).2 ⟨h1,k3.imp Eq.symm _root_.id⟩⟩
theorem rh {α β:Type} {l:List α} {g:α→List β} (hl:l.Nodup) (h1:∀x ∈ l,(g x).Nodup) (h2:∀x ∈ l,∀y ∈ l,x ≠ y→∀z ∈ g x,z ∉ g y):(l.flatMap g).Nodup:=by
  induction l with
  | nil=>simp
  | cons a l ih =>
    obtain ⟨ha,hl⟩:=List.nodup_cons.1 hl
    rw [List.flatMap_cons]
    refine List.nodup_append.2 ⟨h1 a (by simp),ih hl (fun x hx=>h1 x (by simp [hx])) (fun x hx y hy=>h2 x (by simp [hx]) y (by simp [hy])),fun z hz w hw e=>?_⟩
    subst e
    obtain ⟨b,hb,N6⟩:=List.mem_flatMap.1 hw
    exact h2 a (by simp) b (by simp [hb]) (fun e=>ha (e ▸ hb)) z hz N6
theorem Fo.Fu (f:Fo G up ρ) {x:Int} (hx:x ∈ G):(V6 G up x).Nodup:=by
  refine f.Er (fun x=>(V6 G up x).Nodup) (fun x hx ih=>?_) x hx
  rw [f.sD hx]
  refine List.nodup_cons.2 ⟨fun h=>?_,rh (f.nd.filter _) (fun k hk=>?_) (fun a ha b hb hne z hz N7=>?_)⟩
  · obtain ⟨k,hk,h⟩:=List.mem_flatMap.1 h
    obtain ⟨k1,k2⟩:=gw.1 hk
    have h3:=((f.nu k1 x).1 h).2
    have:=f.Dl hx k1 k2
    rcases h3 with h3 | h3
    · rw [h3] at this; omega
    · have:=(f.pc hx k h3).2; omega
  · obtain ⟨k1,k2⟩:=gw.1 hk; exact ih k k1 k2
  · obtain ⟨a1,a2⟩:=gw.1 ha
    obtain ⟨b1,b2⟩:=gw.1 hb
    obtain ⟨z1,z2⟩:=(f.nu a1 z).1 hz
    obtain ⟨_,z3⟩:=(f.nu b1 z).1 N7
    have ra:=f.Dl hx a1 a2
    have rb:=f.Dl hx b1 b2
    have x0:=f.pos x hx
    have no:∀{p q:Int},p ∈ G→up p = x→ρ x < ρ q→q ∉ U6 up p:=fun hp hu hr hq=>by
      rw [f.u1 hp (by rw [hu]; exact x0),hu] at hq
      rcases List.mem_cons.1 hq with h | h
      · rw [h] at hr; omega
      · have:=(f.pc hx _ h).2; omega
    rcases f.N0 z1 (z2.imp Eq.symm _root_.id) (z3.imp Eq.symm _root_.id) with h | h | h
    · exact hne h
    · exact no b1 b2 ra h
    · exact no a1 a2 rb h
theorem wE {l m:List Int} (hl:l.Nodup) (hs:∀x ∈ l,x ∈ m):l.length ≤ m.length:=by
  induction l generalizing m with
  | nil=>simp
  | cons a l ih =>
    obtain ⟨ha,hl⟩:=List.nodup_cons.1 hl
    have hm:=hs a (by simp)
    have:=ih (m:=m.erase a) hl (fun x hx=>(List.mem_erase_of_ne (fun (e:x = a)=>ha (by rw [← e]; exact hx))).2 (hs x (by simp [hx])))
    rw [List.length_erase_of_mem hm] at this
    have h0:0 < m.length:=List.length_pos_of_mem hm
    rw [List.length_cons]; omega
theorem Fo.rL (f:Fo G up ρ) {x:Int} (hx:x ∈ G):(V6 G up x).length ≤ 32:=Nat.le_trans (wE (f.Fu hx) fun y hy=>((f.nu hx y).1 hy).1) f.len
theorem Fo.Jl (f:Fo G up ρ) {x:Int} (hx:x ∈ G):(U6 up x).Nodup:=by
  refine f.vl (fun x=>(U6 up x).Nodup) (fun x hx ih=>?_) x hx
  by_cases hu:up x = 0
  · rw [f.u0 hx hu]; exact .nil
  · rw [f.u1 hx hu]; exact List.nodup_cons.2 ⟨f.Ch (f.yx hx hu),ih hu⟩
theorem Fo.yA (f:Fo G up ρ) {x:Int} (hx:x ∈ G):(U6 up x).length ≤ 32:=Nat.le_trans (wE (f.Jl hx) fun y hy=>(f.pc hx y hy).1) f.len
def tY (up:Int→Int) (x:Int):Int:=(U6 up x).getLastD x
theorem Fo.rt_eq (f:Fo G up ρ) {x:Int} (hx:x ∈ G):tY up x = if up x = 0 then x else tY up (up x):=by
  unfold tY
  by_cases hu:up x = 0
  · rw [f.u0 hx hu,if_pos hu]; rfl
  · rw [f.u1 hx hu,if_neg hu]
    cases h:U6 up (up x) with
    | nil=>rfl
    | cons a l=>simp [List.getLastD]
theorem Fo.yK (f:Fo G up ρ) {x:Int} (hx:x ∈ G):tY up x ∈ G∧(tY up x = x∨tY up x ∈ U6 up x)∧up (tY up x) = 0:=by
  refine f.vl (fun x=>tY up x ∈ G∧(tY up x = x∨tY up x ∈ U6 up x)∧up (tY up x) = 0) (fun x hx ih=>?_) x hx
  rw [f.rt_eq hx]
  by_cases hu:up x = 0
  · rw [if_pos hu]; exact ⟨hx, .inl rfl,hu⟩
  · rw [if_neg hu]
    obtain ⟨h1,h2,h3⟩:=ih hu
    refine ⟨h1, .inr ?_,h3⟩
    rw [f.u1 hx hu]
    rcases h2 with h2 | h2
    · rw [h2]; exact List.mem_cons_self
    · exact List.mem_cons_of_mem _ h2
theorem Fo.yL (f:Fo G up ρ) {x:Int} (hx:x ∈ G):tY up x = x↔up x = 0:=by
  rw [f.rt_eq hx]
  by_cases hu:up x = 0
  · rw [if_pos hu]; exact ⟨fun _=>hu,fun _=>rfl⟩
  · rw [if_neg hu]
    refine ⟨fun h=>?_,fun h=>absurd h hu⟩
    have h1:=f.dn x hx hu
    obtain ⟨_,h2,_⟩:=f.yK (f.yx hx hu)
    rw [h] at h2
    rcases h2 with h2 | h2
    · rw [← h2] at h1; omega
    · have:=(f.pc (f.yx hx hu) x h2).2; omega
end
end Go.Proofs.Ytmdpbdhkmfjlhaa
namespace Go.Proofs.Ytmdpbdhkmfjlhaa
open Go Go.Bw
instance:Iu Try.prog 52 3 5 .i64:=⟨⟨by kernel_rfl,by kernel_rfl⟩⟩
instance:Iu Try.prog 209 69 4 .u32:=⟨⟨by kernel_rfl,by kernel_rfl⟩⟩
instance:I5 Try.prog 4 (Value.bool false):=⟨by kernel_rfl⟩
instance:I5 Try.prog 5 (Value.int .u8 0):=⟨by kernel_rfl⟩
def iP (n:Nat) (a0:ag) (a1:Int):Option Int:=
 bd (dK n a0 a1) fun bf =>
 some bf.1.Up
theorem ke {n a0 a1 r K} [bu K] {cq} (f0:(ak).rep K cq a0) (h:iP n a0 a1 = some r):qU Try.prog 125 [A cq, .int .i64 a1] K (.int .i64 r):=by
 unfold iP at h
 refine fo Try.func125 (by kernel_rfl) rfl Try.ntmps125 rfl fun cx _ hro cZ hpre=>?_
 refine SC 2 rf ?_
 refine W1 rf (bA rfl) fun b2=>?_
 obtain ⟨bf,bZ,h⟩:=bg h
 refine SL 5 rf ?_
 refine aj rfl (ae rfl (aN.len _ f0)) ?_
 refine aj rfl (au rfl) ?_
 refine CB (gJ (K:=K) (mo f0) bZ) rf rf ?_
 rintro yu ew jr ⟨BL,rfl,f26⟩
 replace f26:(aH).rep (fun w=>K w∧Hs [.ext ew jr] w) BL bf.1:=f26
 refine SL 3 rf ?_
 refine W1 rf (bh (hz:=(⟨by kernel_rfl⟩ : bQ Try.prog 83 eH))) fun b5=>?_
 refine ST (C:=(fun w=>K w∧Hs [.ext ew jr] w)) bf.1 (aI.id (L:=aH)) eG (mo f26) rf rf rf rf rf fun yn f29=>?_
 refine SL 6 rf ?_
 refine aj rfl (bq rfl (cX.int f29)) ?_
 refine SL 4 rf ?_
 have h:=sj h; subst h
 exact RV rf (rt rf rn) rf
def jd (n:Nat) (a0:ag) (a1:Int):Option (List Int):=
 bd (fj n a0) fun bf =>
 dD (fun E6 (gF:(List Int)) (fI:Int) =>
 cn (decide (fI < (bf.length:Int))) (
 bd (bx n a0 a1) fun fh =>
 gu (!(fh == true) || dH fI bf.length) <|
 cl (fh == true) (iP n a0 (bf.getD (Int.toNat fI) default)) default fun jk =>
 cn ((fh && (jk == a1))) (
 gu (dH fI bf.length) <|
 gu (kV gF.length 1 8) <|
 lt (gF++([(bf.getD (Int.toNat fI) default)]):List Int) fun qX =>
 E6 qX (wr .i64 (fI + 1))) (
 E6 gF (wr .i64 (fI + 1)))) (
 some gF)) n ([]) 0
theorem ou {n a0 a1 r K} [bu K] {cq} (f0:(ak).rep K cq a0) (h:jd n a0 a1 = some r):Bw.Fn (α:=Value) Try.prog 51 [A cq, .int .i64 a1] K [] (fun v=>jI v r.length) (fun v=>v) (fun v=>[Row v 3 1 (LI .i64) r]):=by
 unfold jd at h
 refine fo Try.func51 (by kernel_rfl) rfl Try.ntmps51 rfl fun cx _ hro cZ hpre=>?_
 refine SC 2 rf ?_
 refine W1 rf (bA rfl) fun b2=>?_
 obtain ⟨bf,bZ,h⟩:=bg h
 refine SL 10 rf ?_
 refine aj rfl (ae rfl (aN.len _ f0)) ?_
 refine ez rfl (dV (kM (K:=K) (mo f0) bZ) rfl kn) (fun q8 jP=>?_)
 dsimp only [List.cons_append,List.nil_append]
 refine SL 10 rf ?_
 refine oD 3 1 (LI .i64) ?_
 obtain ⟨Dk,zA,h⟩:=lq h
 refine LO (β:=(List Int) × Int × Value) [1,2,6] [0,1,2] (fun (y9,gF,fI,AB)=>[(5,AB),(7, .int .i64 fI)]) (fun (y9,gF,fI,AB)=>[Row AB 3 1 (LI .i64) gF,Row q8 3 1 (LI .i64) bf, .cells b2 105 cq]) (fun (y9,gF,fI,AB)=>jI AB gF.length∧dD Dk y9 gF fI = some r) (n,[],0, .slice none 0 0) ⟨⟨_,_,rfl⟩,h⟩ rf rf rf ?_
 rintro y9 ⟨gF,fI,AB⟩ ⟨GH,h⟩
 replace h:=lp zA h; obtain ⟨y9,rfl,h⟩:=h
 refine SC 5 rf ?_
 refine aj rfl (cS (Fz.row (e:=3) (sz:=1) (L:=(LI .i64)) (xs:=bf) rfl jP) rfl) ?_
 refine SL 3 rf ?_
 refine ei h rf (fun hc h=>?_) fun hc h=>?_
 ·
  refine SC 5 rf ?_
  obtain ⟨fh,uw,h⟩:=bg h
  obtain ⟨iS,h⟩:=cm h
  obtain ⟨jk,pK,_,h⟩:=fV h
  refine cJ mixed (.fin [] [(0,[2]),(1,[1]),(2,[16,17]),(3,[18]),(4,[2,19]),(5,[6,19]),(6,[7,19]),(7,[19,21,22]),(8,[19,23]),(9,[19,20,24]),(10,[1,19]),(11,[19,25,26]),(12,[19,27])]) (by kernel_rfl) ?_
  refine F0 ?_
  refine NV rf rf (ae rfl (aN.len _ f0)) ?_
  refine NS 1 rf ?_
  refine NC rf rf (bG (K:=K) (mo f0) uw) rf ?_
  refine NS 1 rf ?_
  refine NG rf rf (cF rfl rfl) (fun hb=>ae rfl (aN.len _ f0)) ?_
  refine NG rf rf (cF rfl rfl) (fun hb=>au rfl) ?_
  refine NG rf rf (cF rfl rfl) (fun hb=>au rfl) ?_
  refine NG rf rf (cF rfl rfl) (fun hb=>dg (m:=(Int.toNat fI)) (Fz.row (e:=3) (sz:=1) (L:=(LI .i64)) (xs:=bf) rfl jP) rfl (bD rfl hb) (bD rfl hb) (ay (gQ iS hb)).1 (ay (gQ iS hb)).2) ?_
  refine NG rf rf (cF rfl rfl) (fun hb=>dc (Fz.row (e:=3) (sz:=1) (L:=(LI .i64)) (xs:=bf) rfl jP) (aI.idx (L:=(LI .i64)) (m:=(bf.length)) (k:=1) ((Int.toNat fI)) (ay (gQ iS hb)).2 rfl) (bD rfl hb)) ?_
  refine NG rf rf (cF rfl rfl) (fun hb=>bS (ke (K:=K) (mo f0) (pK hb)) (aA (bD rfl hb) (aA (bD rfl hb) rfl)) kn) ?_
  refine NG rf rf (cF rfl rfl) (fun hb=>au rfl) ?_
  refine NG rf rf (cF rfl rfl) (fun hb=>fg (bD rfl hb) (bD rfl hb)) ?_
  refine NV rf rf (cM rfl rfl) ?_
  refine aW ?_
  refine iA ?_
  refine ei h rf (fun hc h=>?_) fun hc h=>?_
  ·
   obtain ⟨qx,h⟩:=cm h
   obtain ⟨Hj,h⟩:=cm h
   obtain ⟨qX,Gm,h⟩:=cL h
   refine SC 4 rf ?_
   refine aj rfl (dg (m:=(Int.toNat fI)) (Fz.row (e:=3) (sz:=1) (L:=(LI .i64)) (xs:=bf) rfl jP) rfl rfl rfl (ay qx).1 (ay qx).2) ?_
   refine aj rfl (dc (Fz.row (e:=3) (sz:=1) (L:=(LI .i64)) (xs:=bf) rfl jP) (aI.idx (L:=(LI .i64)) (m:=(bf.length)) (k:=1) ((Int.toNat fI)) (ay qx).2 rfl) rfl) ?_
   refine ez rfl (l5 (LI .i64) (bf.getD (Int.toNat fI) default) rfl rfl rfl rfl (by decide) (by decide)) (fun PZ _=>?_)
   refine ez rfl (kO (sz:=1) (L:=(LI .i64)) (xs:=gF) (y:=(bf.getD (Int.toNat fI) default)) (bytes:=8) rfl rfl rfl (fX Hj).1 (fX Hj).2) (fun Ji Bs=>?_)
   rw [← Gm] at Bs; rw [← Gm]
   refine SL 9 rf ?_
   exact LN [1,2,3] (qX,wr .i64 (fI + 1),Ji) ⟨Bs,h⟩ rf rf rf
  ·
   refine SC 8 rf ?_
   exact LN [0,1,2] (gF,wr .i64 (fI + 1),AB) ⟨GH,h⟩ rf rf rf
 ·
  refine SC 12 rf ?_
  have h:=sj h; subst h
  exact dG AB rfl (.tmp rfl .nil) GH rfl (ks:=[0]) rfl (by decide)
def eB:Nat→ag→Int→Option (List Int)
 | 0,_,_=>none
 | n + 1,a0,a1 =>
 bd (bx n a0 a1) fun bf =>
 cn ((!bf)) (
 some ([]:List Int)) (
 bd (jd n a0 a1) fun n5 =>
 dD (fun JQ (eX:(List Int)) (fL:Int) =>
 cn (decide (fL < (n5.length:Int))) (
 gu (dH fL n5.length) <|
 bd (eB n a0 (n5.getD (Int.toNat fL) default)) fun jk =>
 gu (kV eX.length jk.length 8) <|
 lt (eX++jk:List Int) fun ga =>
 JQ ga (wr .i64 (fL + 1))) (
 some eX)) n ([a1]:List Int) 0)
theorem jn {n a0 a1 r K} [bu K] {cq} (f0:(ak).rep K cq a0) (h:eB n a0 a1 = some r):Bw.Fn (α:=Value) Try.prog 53 [A cq, .int .i64 a1] K [] (fun v=>jI v r.length) (fun v=>v) (fun v=>[Row v 3 1 (LI .i64) r]):=by
 induction n generalizing a0 a1 r K cq with
 | zero=>cases h
 | succ n ih =>
 rw [eB] at h
 refine fo Try.func53 (by kernel_rfl) rfl Try.ntmps53 rfl fun cx _ hro cZ hpre=>?_
 refine SC 2 rf ?_
 refine W1 rf (bA rfl) fun b2=>?_
 obtain ⟨bf,bZ,h⟩:=bg h
 refine SL 6 rf ?_
 refine aj rfl (ae rfl (aN.len _ f0)) ?_
 refine aj rfl (au rfl) ?_
 refine CV (bG (K:=K) (mo f0) bZ) rf rf ?_
 refine SL 3 rf ?_
 refine ei h rf (fun hc h=>?_) fun hc h=>?_
 ·
  refine SC 7 rf ?_
  refine wS 3 1 (LI .i64) ?_
  have h:=sj h; subst h
  exact dG (.slice none 0 0) rfl (.tmp rfl .nil) ⟨_,_,rfl⟩ rfl (ks:=[0]) rfl (by decide)
 ·
  refine SC 5 rf ?_
  refine ez rfl (wX (LI .i64) a1 rfl rfl rfl rfl (by decide) (by decide)) (fun O5 _=>?_)
  obtain ⟨n5,vB,h⟩:=bg h
  refine SL 5 rf ?_
  refine aj rfl (ae rfl (aN.len _ f0)) ?_
  refine aj rfl (au rfl) ?_
  refine ez rfl (dV (ou (K:=K) (mo f0) vB) rfl kn) (fun Nw DE=>?_)
  dsimp only [List.cons_append,List.nil_append]
  refine SL 10 rf ?_
  obtain ⟨Dj,zz,h⟩:=lq h
  refine LO (β:=(List Int) × Int × Value) [2,6] [0,1,2] (fun (y8,eX,fL,C0)=>[(5,C0),(7, .int .i64 fL)]) (fun (y8,eX,fL,C0)=>[Row Nw 3 1 (LI .i64) n5,Row C0 3 1 (LI .i64) eX, .cells b2 105 cq]) (fun (y8,eX,fL,C0)=>jI C0 eX.length∧dD Dj y8 eX fL = some r) (n,([a1]:List Int),0, .slice (some ⟨O5,0,none⟩) 1 1) ⟨⟨_,_,rfl⟩,h⟩ rf rf rf ?_
  rintro y8 ⟨eX,fL,C0⟩ ⟨KF,h⟩
  replace h:=lp zz h; obtain ⟨y8,rfl,h⟩:=h
  refine SC 5 rf ?_
  refine aj rfl (cS (Fz.row (e:=3) (sz:=1) (L:=(LI .i64)) (xs:=n5) rfl DE) rfl) ?_
  refine SL 3 rf ?_
  refine ei h rf (fun hc h=>?_) fun hc h=>?_
  ·
   refine SC 4 rf ?_
   obtain ⟨iS,h⟩:=cm h
   obtain ⟨jk,pK,h⟩:=bg h
   obtain ⟨xK,h⟩:=cm h
   obtain ⟨ga,Bn,h⟩:=cL h
   refine cJ mixed (.gB [] [(0,[5]),(1,[2]),(2,[6]),(3,[7]),(4,[25,26]),(5,[27])] (.alt 6 [24,28] (.gB [(0,[5])] [] (.alt 7 [23,29] (.gB [] [] (.alt 8 [30] (.fin [] []) .no)) .no)) .no)) (by kernel_rfl) ?_
   refine T0 ?_
   refine NS 1 rf ?_
   refine NV rf rf (ae rfl (aN.len _ f0)) ?_
   refine NS 2 rf ?_
   refine NV rf rf (dg (m:=(Int.toNat fL)) (Fz.row (e:=3) (sz:=1) (L:=(LI .i64)) (xs:=n5) rfl DE) rfl rfl rfl (ay iS).1 (ay iS).2) ?_
   refine NV rf rf (dc (Fz.row (e:=3) (sz:=1) (L:=(LI .i64)) (xs:=n5) rfl DE) (aI.idx (L:=(LI .i64)) (m:=(n5.length)) (k:=1) ((Int.toNat fL)) (ay iS).2 rfl) rfl) ?_
   refine aW ?_
   refine X1 rf rf (dV (ih (K:=K) (mo f0) pK) rfl kn) fun Me zo=>?_
   dsimp only [List.cons_append,List.nil_append]
   refine dQ ?_ ?_
   ·
    exact RE 1 rf rf
   refine aW ?_
   refine X1 rf rf (wZ (sz:=1) (L:=(LI .i64)) (xs:=eX) (ys:=jk) (bytes:=8) (Fz.row (e:=3) (sz:=1) (L:=(LI .i64)) (xs:=jk) rfl zo) rfl rfl rfl (fX xK).1 (fX xK).2) fun Nu GD=>?_
   rw [← Bn] at GD; rw [← Bn]
   refine B4 ?_
   refine XV rf rf (bB rfl) ?_
   refine pb ?_
   refine SX 7 rf ?_
   exact LN [1,2,3] (ga,wr .i64 (fL + 1),Nu) ⟨GD,h⟩ rf rf rf
  ·
   refine SC 12 rf ?_
   have h:=sj h; subst h
   exact dG C0 rfl (.tmp rfl .nil) KF rfl (ks:=[1]) rfl (by decide)
def jX (n:Nat) (a0:ag) (a1:Int):Option (ag × (List Int) × Int):=
 bd (eB n a0 a1) fun bf =>
 dD (fun Ga (fI:Int) (fL:ag) =>
 cn (decide (fI < (bf.length:Int))) (
 gu (dH fI bf.length) <|
 bd (dm n fL (bf.getD (Int.toNat fI) default)) fun m7 =>
 Ga (wr .i64 (fI + 1)) m7.1) (
 cn (((bf.length:Int) == 0)) (
 some (fL,([]:List Int),4)) (
 some (fL,bf,0)))) n 0 a0
theorem ta {n a0 a1 r K} [bu K] {cq} (f0:(ak).rep K cq a0) (h:jX n a0 a1 = some r):pG Try.prog 118 [A cq, .int .i64 a1] K (fun J v=>∃u0 u1,v = (.tuple #[A u0,u1, .int .i64 r.2.2])∧(ak).rep (fun w=>K w∧J w) u0 (r.1)∧Fz (fun w=>K w∧J w) u1 (LI .i64) (r.2.1)):=by
 unfold jX at h
 refine fo Try.func118 (by kernel_rfl) rfl Try.ntmps118 rfl fun cx _ hro cZ hpre=>?_
 refine SC 2 rf ?_
 refine W1 rf (bA rfl) fun b2=>?_
 refine W1 rf (bh (hz:=(⟨by kernel_rfl⟩ : bQ Try.prog 105 aJ))) fun b4=>?_
 obtain ⟨bf,bZ,h⟩:=bg h
 refine SL 6 rf ?_
 refine aj rfl (ae rfl (aN.len _ f0)) ?_
 refine aj rfl (au rfl) ?_
 refine ez rfl (dV (jn (K:=K) (mo f0) bZ) rfl kn) (fun q8 jP=>?_)
 dsimp only [List.cons_append,List.nil_append]
 refine SL 10 rf ?_
 obtain ⟨Di,zy,h⟩:=lq h
 refine jR ?_
 refine LO (β:=Int × ag × (List Value) × (List Nat) × (World→Prop)) [2,4,7] [0,1,2,3] (fun (y7,fI,fL,wP,cG,fZ)=>[(8, .int .i64 fI)]) (fun (y7,fI,fL,wP,cG,fZ)=>[.ext cG fZ,Row q8 3 1 (LI .i64) bf, .cells b4 105 aJ, .cells b2 105 wP]) (fun (y7,fI,fL,wP,cG,fZ)=>(ak).rep (fun w=>K w∧Hs [.ext cG fZ] w) wP fL∧dD Di y7 fI fL = some r) (n,0,a0,cq,[],(Hs [])) ⟨(mo f0),h⟩ rf rf rf ?_
 rintro y7 ⟨fI,fL,wP,cG,fZ⟩ ⟨f37,h⟩
 replace h:=lp zy h; obtain ⟨y7,rfl,h⟩:=h
 refine SC 5 rf ?_
 refine aj rfl (cS (Fz.row (e:=3) (sz:=1) (L:=(LI .i64)) (xs:=bf) rfl jP) rfl) ?_
 refine SL 3 rf ?_
 refine ei h rf (fun hc h=>?_) fun hc h=>?_
 ·
  refine SC 4 rf ?_
  obtain ⟨qx,h⟩:=cm h
  obtain ⟨m7,DA,h⟩:=bg h
  refine cJ mixed (.gB [] [(0,[2]),(1,[7]),(2,[8]),(3,[20,21]),(4,[22])] (.alt 5 [19,23] (.gB [] [(6,[24]),(7,[18]),(8,[18])] (.alt 9 [2,25] (.fin [(8,[18])] []) .no)) .no)) (by kernel_rfl) ?_
  refine T0 ?_
  refine NV rf rf (ae rfl (aN.len _ f37)) ?_
  refine NS 2 rf ?_
  refine NV rf rf (dg (m:=(Int.toNat fI)) (Fz.row (e:=3) (sz:=1) (L:=(LI .i64)) (xs:=bf) rfl jP) rfl rfl rfl (ay qx).1 (ay qx).2) ?_
  refine NV rf rf (dc (Fz.row (e:=3) (sz:=1) (L:=(LI .i64)) (xs:=bf) rfl jP) (aI.idx (L:=(LI .i64)) (m:=(bf.length)) (k:=1) ((Int.toNat fI)) (ay qx).2 rfl) rfl) ?_
  refine aW ?_
  refine X1 rf rf (gY (nU (K:=(fun w=>K w∧Hs [.ext cG fZ] w)) (mo f37) DA) rfl) fun ⟨Nh,uO,CN⟩ KP=>?_
  obtain ⟨H7,rfl,f47⟩:=KP
  replace f47:(ak).rep (fun w=>(fun w=>K w∧Hs [.ext cG fZ] w) w∧Hs [.ext uO CN] w) H7 m7.1:=f47
  refine T0 ?_
  refine NE 3 rf ?_
  obtain ⟨LS,Lf,f50⟩:=wu (C:=(fun w=>K w∧Hs [.ext cG fZ, .ext uO CN] w)) (x':=m7.1) (aI.id (L:=ak)) (mo f37) (mo f47) rf
  refine X0 rf (wW Lf rf rf rf rf) ?_
  refine B5 ?_ ?_
  ·
   exact RE 1 rf rf
  refine aW ?_
  refine SX 7 rf ?_
  refine bM (R:=[.ext uO CN, .ext cG fZ]) (H':=[Row q8 3 1 (LI .i64) bf, .cells b4 105 aJ, .cells b2 105 LS]) (ks:=[0,1,2,3,4]) rfl (by decide) ?_
  exact LN [0,1,2,3] (wr .i64 (fI + 1),m7.1,LS,(bE [.ext uO CN, .ext cG fZ]),(Hs [.ext uO CN, .ext cG fZ])) ⟨(mo f50),h⟩ rf rf rf
 ·
  refine SC 9 rf ?_
  refine aj rfl (cS (Fz.row (e:=3) (sz:=1) (L:=(LI .i64)) (xs:=bf) rfl jP) rfl) ?_
  refine SL 3 rf ?_
  refine ei h rf (fun hc h=>?_) fun hc h=>?_
  ·
   refine SC 2 rf ?_
   refine aj rfl (ae rfl (aN.len _ f37)) ?_
   refine ST (C:=(fun w=>K w∧Hs [.ext cG fZ] w)) fL (aI.id (L:=ak)) aT (mo f37) rf rf rf rf rf fun Fc f52=>?_
   refine SL 6 rf ?_
   have h:=sj h; subst h
   refine bM (R:=[.ext cG fZ]) (H':=[.cells b4 105 Fc]) (ks:=[0,2]) rfl (by decide) ?_
   have NP:(ak).rep (fun w=>K w∧(Hs [.ext (bE [.ext cG fZ]) (Hs [.ext cG fZ])]) w) Fc fL:=aN.mono _ nh f52
   have NO:Fz (fun w=>K w∧(Hs [.ext (bE [.ext cG fZ]) (Hs [.ext cG fZ])]) w) (.slice none 0 0) (LI .i64) ([]:List Int):=(Fz.nil (A:=Hs []) (L:=(LI .i64))).mono nh
   exact dG (.tuple #[A Fc, .slice none 0 0, .int .i64 4],bE [.ext cG fZ],Hs [.ext cG fZ]) rfl (.agg rfl inferInstance inferInstance (aN.len _ f52) (.tmp rfl (.tmp rfl .nil))) ⟨_,_,rfl,NP,NO⟩ rfl (ks:=[0]) rfl (by decide)
  ·
   refine SC 4 rf ?_
   refine aj rfl (ae rfl (aN.len _ f37)) ?_
   refine aj rfl (au rfl) ?_
   refine ST (C:=(fun w=>K w∧Hs [.ext cG fZ] w)) fL (aI.id (L:=ak)) aT (mo f37) rf rf rf rf rf fun so f56=>?_
   refine SL 5 rf ?_
   have h:=sj h; subst h
   refine bM (R:=[.ext cG fZ,Row q8 3 1 (LI .i64) bf]) (H':=[.cells b4 105 so]) (ks:=[0,1,2]) rfl (by decide) ?_
   have NN:(ak).rep (fun w=>K w∧(Hs [.ext (bE [.ext cG fZ,Row q8 3 1 (LI .i64) bf]) (Hs [.ext cG fZ,Row q8 3 1 (LI .i64) bf])]) w) so fL:=aN.mono _ nh f56
   have NM:Fz (fun w=>K w∧(Hs [.ext (bE [.ext cG fZ,Row q8 3 1 (LI .i64) bf]) (Hs [.ext cG fZ,Row q8 3 1 (LI .i64) bf])]) w) q8 (LI .i64) bf:=(Fz.row (e:=3) (sz:=1) (L:=(LI .i64)) (xs:=bf) rfl jP).mono nh
   exact dG (.tuple #[A so,q8, .int .i64 0],bE [.ext cG fZ,Row q8 3 1 (LI .i64) bf],Hs [.ext cG fZ,Row q8 3 1 (LI .i64) bf]) rfl (.agg rfl inferInstance inferInstance (aN.len _ f56) (.tmp rfl (.tmp rfl .nil))) ⟨_,_,rfl,NN,NM⟩ rfl (ks:=[0]) rfl (by decide)
def fP (n:Nat) (a0:ag) (a1:Int) (a2:Int):Option Bool:=
 bd (bx n a0 a1) fun bf =>
 cl (bf == true) (bx n a0 a2) default fun ck =>
 cl (((bf && ck) == true) && ((a1 == a2) == false)) (bK n a0 a1 a2) default fun jE =>
 some ((bf && ck) && ((a1 == a2) || jE))
theorem lF {n a0 a1 a2 r K} [bu K] {cq} (f0:(ak).rep K cq a0) (h:fP n a0 a1 a2 = some r):qU Try.prog 59 [A cq, .int .i64 a1, .int .i64 a2] K (.bool r):=by
 unfold fP at h
 refine fo Try.func59 (by kernel_rfl) rfl Try.ntmps59 rfl fun cx _ hro cZ hpre=>?_
 refine SC 2 rf ?_
 refine W1 rf (bA rfl) fun b3=>?_
 obtain ⟨bf,bZ,h⟩:=bg h
 obtain ⟨ck,ic,_,h⟩:=fV h
 obtain ⟨jE,j6,_,h⟩:=fV h
 refine SL 5 rf ?_
 refine aj rfl (ae rfl (aN.len _ f0)) ?_
 refine aj rfl (au rfl) ?_
 refine CV (bG (K:=K) (mo f0) bZ) rf rf ?_
 refine aj rfl (au rfl) ?_
 refine GB rf rf rf (fun hb=>ae rfl (aN.len _ f0)) ?_
 refine GB rf rf rf (fun hb=>au rfl) ?_
 refine GB rf rf rf (fun hb=>bS (bG (K:=K) (mo f0) (ic hb)) (aA (bD rfl hb) (aA (bD rfl hb) rfl)) kn) ?_
 refine aj rfl (cM rfl rfl) ?_
 refine aj rfl (au rfl) ?_
 refine GB rf rf rf (fun hb=>au rfl) ?_
 refine GB rf rf rf (fun hb=>au rfl) ?_
 refine GB rf rf rf (fun hb=>fg (bD rfl hb) (bD rfl hb)) ?_
 refine GB rf rf rf (fun hb=>au (bD rfl hb)) ?_
 refine lZ (mw rfl rfl) rfl (fun hb=>ae rfl (aN.len _ f0)) ?_
 refine lZ (mw rfl rfl) rfl (fun hb=>au rfl) ?_
 refine lZ (mw rfl rfl) rfl (fun hb=>au rfl) ?_
 refine lZ (mw rfl rfl) rfl (fun hb=>bS (ig (K:=K) (mo f0) (j6 hb)) (aA (bD rfl hb) (aA (bD rfl hb) (aA (bD rfl hb) rfl))) kn) ?_
 refine GB rf rf rf (fun hb=>eu (bD rfl hb) (BA rfl hb)) ?_
 refine aj rfl (cM rfl rfl) ?_
 refine SL 4 rf ?_
 have h:=sj h; subst h
 exact RV rf (rt rf rn) rf
def dN:Nat→ag→Int→Option Int
 | 0,_,_=>none
 | n + 1,a0,a1 =>
 bd (bx n a0 a1) fun bf =>
 cn ((!bf)) (
 some 0) (
 bd (iP n a0 a1) fun ck =>
 bd (dN n a0 ck) fun jE =>
 some (wr .i64 (1 + jE)))
theorem kT {n a0 a1 r K} [bu K] {cq} (f0:(ak).rep K cq a0) (h:dN n a0 a1 = some r):qU Try.prog 55 [A cq, .int .i64 a1] K (.int .i64 r):=by
 induction n generalizing a0 a1 r K cq with
 | zero=>cases h
 | succ n ih =>
 rw [dN] at h
 refine fo Try.func55 (by kernel_rfl) rfl Try.ntmps55 rfl fun cx _ hro cZ hpre=>?_
 refine SC 2 rf ?_
 refine W1 rf (bA rfl) fun b2=>?_
 obtain ⟨bf,bZ,h⟩:=bg h
 refine SL 6 rf ?_
 refine aj rfl (ae rfl (aN.len _ f0)) ?_
 refine aj rfl (au rfl) ?_
 refine CV (bG (K:=K) (mo f0) bZ) rf rf ?_
 refine SL 3 rf ?_
 refine ei h rf (fun hc h=>?_) fun hc h=>?_
 ·
  refine SC 7 rf ?_
  have h:=sj h; subst h
  exact RV rf (rt rf rn) rf
 ·
  refine SC 3 rf ?_
  obtain ⟨ck,ic,h⟩:=bg h
  obtain ⟨jE,j6,h⟩:=bg h
  refine cJ mixed (.gB [] [(0,[2]),(1,[2]),(2,[1]),(3,[10,11]),(4,[9,12]),(5,[13])] (.alt 6 [14] (.fin [] []) .no)) (by kernel_rfl) ?_
  refine T0 ?_
  refine NV rf rf (ae rfl (aN.len _ f0)) ?_
  refine NV rf rf (ae rfl (aN.len _ f0)) ?_
  refine NS 1 rf ?_
  refine NC rf rf (ke (K:=K) (mo f0) ic) rf ?_
  refine NC rf rf (ih (K:=K) (mo f0) j6) rf ?_
  refine NE 1 rf ?_
  refine XV rf rf (bB rfl) ?_
  refine pb ?_
  refine SX 2 rf ?_
  have h:=sj h; subst h
  exact RV rf (rt rf rn) rf
def jt (n:Nat) (a0:ag) (a1:Int) (a2:Int):Option (ag × Int):=
 bd (bx n a0 a1) fun bf =>
 cl ((!bf) == false) (bx n a0 a2) default fun ck =>
 cn (((!bf) || (!ck))) (
 some (a0,4)) (
 bd (iP n a0 a1) fun dx =>
 cl ((dx != 0) == false) (fP n a0 a1 a2) default fun cw =>
 cn (((dx != 0) || cw)) (
 some (a0,12)) (
 bd (dS n a0 a1 a2) fun gF =>
 bd (eB n gF.1 a1) fun jk =>
 dF (fun F8 (ga:Int) =>
 cn (decide (ga < (jk.length:Int))) (
 gu (dH ga jk.length) <|
 bd (dN n gF.1 (jk.getD (Int.toNat ga) default)) fun nF =>
 cn (decide (6 < nF)) (
 some (a0,8)) (
 F8 (wr .i64 (ga + 1)))) (
 some (gF.1,gF.2))) n 0))
theorem rz {n a0 a1 a2 r K} [bu K] {cq} (f0:(ak).rep K cq a0) (h:jt n a0 a1 a2 = some r):pG Try.prog 120 [A cq, .int .i64 a1, .int .i64 a2] K (fun J v=>∃u0,v = (.tuple #[A u0, .int .i64 r.2])∧(ak).rep (fun w=>K w∧J w) u0 (r.1)):=by
 unfold jt at h
 refine fo Try.func120 (by kernel_rfl) rfl Try.ntmps120 rfl fun cx _ hro cZ hpre=>?_
 refine SC 2 rf ?_
 refine W1 rf (bA rfl) fun b3=>?_
 refine W1 rf (bh (hz:=(⟨by kernel_rfl⟩ : bQ Try.prog 105 aJ))) fun b6=>?_
 obtain ⟨bf,bZ,h⟩:=bg h
 obtain ⟨ck,ic,_,h⟩:=fV h
 refine SL 6 rf ?_
 refine aj rfl (ae rfl (aN.len _ f0)) ?_
 refine aj rfl (au rfl) ?_
 refine CV (bG (K:=K) (mo f0) bZ) rf rf ?_
 refine SL 2 rf ?_
 refine GB rf rf rf (fun hb=>ae rfl (aN.len _ f0)) ?_
 refine GB rf rf rf (fun hb=>au rfl) ?_
 refine GB rf rf rf (fun hb=>bS (bG (K:=K) (mo f0) (ic hb)) (aA (bD rfl hb) (aA (bD rfl hb) rfl)) kn) ?_
 refine GB rf rf rf (fun hb=>ij (bD rfl hb)) ?_
 refine aj rfl (eu rfl rfl) ?_
 refine SL 2 rf ?_
 refine ei h rf (fun hc h=>?_) fun hc h=>?_
 ·
  refine SC 2 rf ?_
  refine aj rfl (ae rfl (aN.len _ f0)) ?_
  refine ST (C:=K) a0 (aI.id (L:=ak)) aT (mo f0) rf rf rf rf rf fun zX f24=>?_
  refine SL 5 rf ?_
  have h:=sj h; subst h
  exact kE [] rf rf (ra rf (aN.len _ f24) (rt rf rn)) ⟨_,rfl,(mo f24)⟩
 ·
  obtain ⟨dx,lV,h⟩:=bg h
  obtain ⟨cw,kR,_,h⟩:=fV h
  refine SC 5 rf ?_
  refine aj rfl (ae rfl (aN.len _ f0)) ?_
  refine aj rfl (au rfl) ?_
  refine CV (ke (K:=K) (mo f0) lV) rf rf ?_
  refine SL 2 rf ?_
  refine GB rf rf rf (fun hb=>ae rfl (aN.len _ f0)) ?_
  refine GB rf rf rf (fun hb=>au rfl) ?_
  refine GB rf rf rf (fun hb=>au rfl) ?_
  refine GB rf rf rf (fun hb=>bS (lF (K:=K) (mo f0) (kR hb)) (aA (bD rfl hb) (aA (bD rfl hb) (aA (bD rfl hb) rfl))) kn) ?_
  refine aj rfl (eu rfl rfl) ?_
  refine SL 2 rf ?_
  refine ei h rf (fun hc h=>?_) fun hc h=>?_
  ·
   refine SC 2 rf ?_
   refine aj rfl (ae rfl (aN.len _ f0)) ?_
   refine ST (C:=K) a0 (aI.id (L:=ak)) aT (mo f0) rf rf rf rf rf fun yn f29=>?_
   refine SL 5 rf ?_
   have h:=sj h; subst h
   exact kE [] rf rf (ra rf (aN.len _ f29) (rt rf rn)) ⟨_,rfl,(mo f29)⟩
  ·
   obtain ⟨gF,zj,h⟩:=bg h
   refine SC 4 rf ?_
   refine aj rfl (ae rfl (aN.len _ f0)) ?_
   refine SL 2 rf ?_
   refine CB (nm (K:=K) (mo f0) zj) rf rf ?_
   rintro PB xU Fk ⟨Fe,rfl,f36⟩
   replace f36:(ak).rep (fun w=>K w∧Hs [.ext xU Fk] w) Fe gF.1:=f36
   refine SL 3 rf ?_
   refine W1 rf (bh (hz:=(⟨by kernel_rfl⟩ : bQ Try.prog 105 aJ))) fun b8=>?_
   refine ST (C:=(fun w=>K w∧Hs [.ext xU Fk] w)) gF.1 (aI.id (L:=ak)) aT (mo f36) rf rf rf rf rf fun I3 f39=>?_
   obtain ⟨jk,pK,h⟩:=bg h
   refine SL 5 rf ?_
   refine aj rfl (ae rfl (aN.len _ f39)) ?_
   refine aj rfl (au rfl) ?_
   refine ez rfl (dV (jn (K:=(fun w=>K w∧Hs [.ext xU Fk] w)) (mo f39) pK) rfl kn) (fun Me zo=>?_)
   dsimp only [List.cons_append,List.nil_append]
   refine SL 10 rf ?_
   obtain ⟨JE,GX,h⟩:=kJ h
   refine LO (β:=Int) [3,6,8,9,10] [0,1,2,3,4] (fun (FX,ga)=>[(11, .int .i64 ga)]) (fun (FX,ga)=>[Row Me 3 1 (LI .i64) jk, .cells b8 105 I3, .ext xU Fk, .cells b6 105 aJ, .cells b3 105 cq]) (fun (FX,ga)=>dF JE FX ga = some r) (n,0) h rf rf rf ?_
   rintro FX ga h
   replace h:=kI GX h; obtain ⟨FX,rfl,h⟩:=h
   refine SC 5 rf ?_
   refine aj rfl (cS (Fz.row (e:=3) (sz:=1) (L:=(LI .i64)) (xs:=jk) rfl zo) rfl) ?_
   refine SL 3 rf ?_
   refine ei h rf (fun hc h=>?_) fun hc h=>?_
   ·
    refine SC 5 rf ?_
    obtain ⟨vG,h⟩:=cm h
    obtain ⟨nF,vA,h⟩:=bg h
    refine cJ mixed (.fin [] [(0,[8]),(1,[10]),(2,[11]),(3,[51,52]),(4,[53]),(5,[50,54]),(6,[55])]) (by kernel_rfl) ?_
    refine F0 ?_
    refine NV rf rf (ae rfl (aN.len _ f39)) ?_
    refine NS 2 rf ?_
    refine NV rf rf (dg (m:=(Int.toNat ga)) (Fz.row (e:=3) (sz:=1) (L:=(LI .i64)) (xs:=jk) rfl zo) rfl rfl rfl (ay vG).1 (ay vG).2) ?_
    refine NV rf rf (dc (Fz.row (e:=3) (sz:=1) (L:=(LI .i64)) (xs:=jk) rfl zo) (aI.idx (L:=(LI .i64)) (m:=(jk.length)) (k:=1) ((Int.toNat ga)) (ay vG).2 rfl) rfl) ?_
    refine NC rf rf (kT (K:=(fun w=>K w∧Hs [.ext xU Fk] w)) (mo f39) vA) rf ?_
    refine NE 1 rf ?_
    refine iA ?_
    refine ei h rf (fun hc h=>?_) fun hc h=>?_
    ·
     refine SC 2 rf ?_
     refine aj rfl (ae rfl (aN.len _ f0)) ?_
     refine ST (C:=K) a0 (aI.id (L:=ak)) aT (mo f0) rf rf rf rf rf fun Fc f52=>?_
     refine SL 9 rf ?_
     have h:=sj h; subst h
     exact kE [] rf rf (ra rf (aN.len _ f52) (rt rf rn)) ⟨_,rfl,(mo f52)⟩
    ·
     refine SC 8 rf ?_
     exact LN [0,1,2,3,4] (wr .i64 (ga + 1)) h rf rf rf
   ·
    refine SC 7 rf ?_
    refine aj rfl (ae rfl (aN.len _ f39)) ?_
    refine aj rfl (au rfl) ?_
    refine ST (C:=(fun w=>K w∧Hs [.ext xU Fk] w)) gF.1 (aI.id (L:=ak)) aT (mo f39) rf rf rf rf rf fun H6 f55=>?_
    refine SL 4 rf ?_
    have h:=sj h; subst h
    exact kE [2] rf rf (ra rf (aN.len _ f55) (rt rf rn)) ⟨_,rfl,(mo f55)⟩
def k9 (n:Nat) (a0:ag) (a1:Int):Option (ag × Int):=
 bd (bx n a0 a1) fun bf =>
 cn ((!bf)) (
 some (a0,4)) (
 bd (eB n a0 a1) fun cw =>
 dD (fun JN (jk:Int) (dP:ag) =>
 cn (decide (jk < (cw.length:Int))) (
 gu (dH jk cw.length) <|
 bd (bC n a0.B (cw.getD (Int.toNat jk) default)) fun lP =>
 dD (fun Co (kF:Int) (jF:ag) =>
 cn (decide (kF < 8)) (
 gu (dH lP 32) <|
 gu (dH kF 8) <|
 cl ((((a0.R (Int.toNat lP)).Cells (Int.toNat kF)) != 0) == true) (bK n a0 ((a0.R (Int.toNat lP)).Cells (Int.toNat kF)) a1) default fun Cd =>
 cn (((((a0.R (Int.toNat lP)).Cells (Int.toNat kF)) != 0) && Cd)) (
 gu (dH lP 32) <|
 gu (dH kF 8) <|
 lt ({ jF with R:=(er jF.R (Int.toNat lP) ({ (jF.R (Int.toNat lP)) with Cells:=(er ((jF.R (Int.toNat lP)).Cells) (Int.toNat kF) 0) })) }:ag) fun yb =>
 Co (wr .i64 (kF + 1)) yb) (
 Co (wr .i64 (kF + 1)) jF)) (
 JN (wr .i64 (jk + 1)) jF)) n 0 dP) (
 bd (bC n a0.B a1) fun oJ =>
 gu (dH oJ 32) <|
 lt ({ dP with R:=(er dP.R (Int.toNat oJ) ({ (dP.R (Int.toNat oJ)) with Up:=0 })) }:ag) fun IN =>
 some (IN,0))) n 0 a0)
theorem uK {n a0 a1 r K} [bu K] {cq} (f0:(ak).rep K cq a0) (h:k9 n a0 a1 = some r):pG Try.prog 119 [A cq, .int .i64 a1] K (fun J v=>∃u0,v = (.tuple #[A u0, .int .i64 r.2])∧(ak).rep (fun w=>K w∧J w) u0 (r.1)):=by
 unfold k9 at h
 refine fo Try.func119 (by kernel_rfl) rfl Try.ntmps119 rfl fun cx _ hro cZ hpre=>?_
 refine SC 2 rf ?_
 refine W1 rf (bA rfl) fun b2=>?_
 refine W1 rf (bh (hz:=(⟨by kernel_rfl⟩ : bQ Try.prog 105 aJ))) fun b4=>?_
 obtain ⟨bf,bZ,h⟩:=bg h
 refine SL 6 rf ?_
 refine aj rfl (ae rfl (aN.len _ f0)) ?_
 refine aj rfl (au rfl) ?_
 refine CV (bG (K:=K) (mo f0) bZ) rf rf ?_
 refine SL 3 rf ?_
 refine ei h rf (fun hc h=>?_) fun hc h=>?_
 ·
  refine SC 2 rf ?_
  refine aj rfl (ae rfl (aN.len _ f0)) ?_
  refine ST (C:=K) a0 (aI.id (L:=ak)) aT (mo f0) rf rf rf rf rf fun Ez f23=>?_
  refine SL 5 rf ?_
  have h:=sj h; subst h
  exact kE [] rf rf (ra rf (aN.len _ f23) (rt rf rn)) ⟨_,rfl,(mo f23)⟩
 ·
  refine SC 4 rf ?_
  refine aj rfl (ae rfl (aN.len _ f0)) ?_
  refine W1 rf (bh (hz:=(⟨by kernel_rfl⟩ : bQ Try.prog 105 aJ))) fun b6=>?_
  refine ST (C:=K) a0 (aI.id (L:=ak)) aT (mo f0) rf rf rf rf rf fun AJ f26=>?_
  obtain ⟨cw,kR,h⟩:=bg h
  refine SL 4 rf ?_
  refine aj rfl (ae rfl (aN.len _ f0)) ?_
  refine aj rfl (au rfl) ?_
  refine ez rfl (dV (jn (K:=K) (mo f0) kR) rfl kn) (fun Fy DD=>?_)
  dsimp only [List.cons_append,List.nil_append]
  refine SL 10 rf ?_
  obtain ⟨JF,GY,h⟩:=lq h
  refine jR ?_
  refine LO (β:=Int × ag × (List Value) × (List Nat) × (World→Prop)) [1,2,4,6,7] [0,1,2,3,4] (fun (FY,jk,dP,rC,jh,o8)=>[(8, .int .i64 jk)]) (fun (FY,jk,dP,rC,jh,o8)=>[.ext jh o8,Row Fy 3 1 (LI .i64) cw, .cells b6 105 rC, .cells b4 105 aJ, .cells b2 105 cq]) (fun (FY,jk,dP,rC,jh,o8)=>(ak).rep (fun w=>K w∧Hs [.ext jh o8] w) rC dP∧dD JF FY jk dP = some r) (n,0,a0,AJ,[],(Hs [])) ⟨(mo f26),h⟩ rf rf rf ?_
  rintro FY ⟨jk,dP,rC,jh,o8⟩ ⟨f43,h⟩
  replace h:=lp GY h; obtain ⟨FY,rfl,h⟩:=h
  refine SC 5 rf ?_
  refine aj rfl (cS (Fz.row (e:=3) (sz:=1) (L:=(LI .i64)) (xs:=cw) rfl DD) rfl) ?_
  refine SL 3 rf ?_
  refine ei h rf (fun hc h=>?_) fun hc h=>?_
  ·
   refine SC 5 rf ?_
   obtain ⟨DU,h⟩:=cm h
   obtain ⟨lP,zi,h⟩:=bg h
   refine cJ mixed (.gB [] [(0,[2]),(1,[27]),(2,[7]),(3,[8]),(4,[29,30]),(5,[31]),(6,[28,32])] (.alt 7 [33] (.fin [] []) .no)) (by kernel_rfl) ?_
   refine T0 ?_
   refine NS 1 rf ?_
   refine NV rf rf (aQ rfl (aV.iff.1 (bL.get f0)) (br _ _)) ?_
   refine NS 2 rf ?_
   refine NV rf rf (dg (m:=(Int.toNat jk)) (Fz.row (e:=3) (sz:=1) (L:=(LI .i64)) (xs:=cw) rfl DD) rfl rfl rfl (ay DU).1 (ay DU).2) ?_
   refine NV rf rf (dc (Fz.row (e:=3) (sz:=1) (L:=(LI .i64)) (xs:=cw) rfl DD) (aI.idx (L:=(LI .i64)) (m:=(cw.length)) (k:=1) ((Int.toNat jk)) (ay DU).2 rfl) rfl) ?_
   refine NC rf rf (cI zi) rf ?_
   refine aW ?_
   refine XV rf rf (bB rfl) ?_
   refine pb ?_
   refine SX 7 rf ?_
   obtain ⟨JC,GU,h⟩:=lq h
   refine jR ?_
   refine LO (β:=Int × ag × (List Value) × (List Nat) × (World→Prop)) [1,2,4,6,7,8,9] [0,1,2,3,4,5] (fun (FV,kF,jF,xS,nY,wj)=>[(10, .int .i64 kF)]) (fun (FV,kF,jF,xS,nY,wj)=>[.ext nY wj, .ext jh o8,Row Fy 3 1 (LI .i64) cw, .cells b6 105 xS, .cells b4 105 aJ, .cells b2 105 cq]) (fun (FV,kF,jF,xS,nY,wj)=>(ak).rep (fun w=>K w∧Hs [.ext jh o8, .ext nY wj] w) xS jF∧dD JC FV kF jF = some r) (n,0,dP,rC,[],(Hs [])) ⟨(mo f43),h⟩ rf rf rf ?_
   rintro FV ⟨kF,jF,xS,nY,wj⟩ ⟨f61,h⟩
   replace h:=lp GU h; obtain ⟨FV,rfl,h⟩:=h
   refine SC 7 rf ?_
   refine ei h rf (fun hc h=>?_) fun hc h=>?_
   ·
    obtain ⟨DS,h⟩:=cm h
    obtain ⟨DR,h⟩:=cm h
    refine SC 9 rf ?_
    refine aj rfl (bU (m:=(Int.toNat lP)) rfl rfl (ay DS).1 (ay DS).2) ?_
    refine aj rfl (fc rfl) ?_
    refine aj rfl (bU (m:=(Int.toNat kF)) rfl rfl (ay DR).1 (ay DR).2) ?_
    refine aj rfl (bq rfl ((((cA.comp (aI.idx (L:=aH) (m:=32) (k:=12) ((Int.toNat lP)) (ay DS).2 rfl)).comp fC).comp (aI.idx (L:=(LI .i64)) (m:=8) (k:=1) ((Int.toNat kF)) (ay DR).2 rfl)).int f0)) ?_
    obtain ⟨Cd,J7,_,h⟩:=fV h
    refine SL 8 rf ?_
    refine GB rf rf rf (fun hb=>ae rfl (aN.len _ f0)) ?_
    refine GB rf rf rf (fun hb=>au rfl) ?_
    refine GB rf rf rf (fun hb=>au rfl) ?_
    refine GB rf rf rf (fun hb=>bS (ig (K:=K) (mo f0) (J7 hb)) (aA (bD rfl hb) (aA (bD rfl hb) (aA (bD rfl hb) rfl))) kn) ?_
    refine aj rfl (cM rfl rfl) ?_
    refine SL 2 rf ?_
    refine ei h rf (fun hc h=>?_) fun hc h=>?_
    ·
     obtain ⟨rq,h⟩:=cm h
     obtain ⟨vE,h⟩:=cm h
     obtain ⟨yb,Dz,h⟩:=cL h
     refine SC 4 rf ?_
     refine aj rfl (bU (m:=(Int.toNat lP)) rfl rfl (ay rq).1 (ay rq).2) ?_
     refine aj rfl (fc rfl) ?_
     refine aj rfl (bU (m:=(Int.toNat kF)) rfl rfl (ay vE).1 (ay vE).2) ?_
     refine ST (C:=(fun w=>K w∧Hs [.ext jh o8, .ext nY wj] w)) yb (((cA.comp (aI.idx (L:=aH) (m:=32) (k:=12) ((Int.toNat lP)) (ay rq).2 rfl)).comp fC).comp (aI.idx (L:=(LI .i64)) (m:=8) (k:=1) ((Int.toNat kF)) (ay vE).2 rfl)) (mo f61) fl Dz rf rf rf rf fun LQ f72=>?_
     refine SL 8 rf ?_
     refine bM (R:=[.ext nY wj]) (H':=[.ext jh o8,Row Fy 3 1 (LI .i64) cw, .cells b6 105 LQ, .cells b4 105 aJ, .cells b2 105 cq]) (ks:=[0,1,2,3,4,5]) rfl (by decide) ?_
     exact LN [0,1,2,3,4,5] (wr .i64 (kF + 1),yb,LQ,(bE [.ext nY wj]),(Hs [.ext nY wj])) ⟨(mo f72),h⟩ rf rf rf
    ·
     refine SC 8 rf ?_
     refine bM (R:=[.ext nY wj]) (H':=[.ext jh o8,Row Fy 3 1 (LI .i64) cw, .cells b6 105 xS, .cells b4 105 aJ, .cells b2 105 cq]) (ks:=[0,1,2,3,4,5]) rfl (by decide) ?_
     exact LN [0,1,2,3,4,5] (wr .i64 (kF + 1),jF,xS,(bE [.ext nY wj]),(Hs [.ext nY wj])) ⟨(mo f61),h⟩ rf rf rf
   ·
    refine SC 11 rf ?_
    refine bM (R:=[.ext nY wj, .ext jh o8]) (H':=[Row Fy 3 1 (LI .i64) cw, .cells b6 105 xS, .cells b4 105 aJ, .cells b2 105 cq]) (ks:=[0,1,2,3,4,5]) rfl (by decide) ?_
    exact LN [0,1,2,3,4] (wr .i64 (jk + 1),jF,xS,(bE [.ext nY wj, .ext jh o8]),(Hs [.ext nY wj, .ext jh o8])) ⟨(mo f61),h⟩ rf rf rf
  ·
   obtain ⟨oJ,xD,h⟩:=bg h
   obtain ⟨DQ,h⟩:=cm h
   obtain ⟨IN,J5,h⟩:=cL h
   refine SC 8 rf ?_
   refine aj rfl (aQ rfl (aV.iff.1 (bL.get f0)) (br _ _)) ?_
   refine aj rfl (au rfl) ?_
   refine CV (cI xD) rf rf ?_
   refine aj rfl (aM rfl) ?_
   refine aj rfl (bU (m:=(Int.toNat oJ)) rfl rfl (ay DQ).1 (ay DQ).2) ?_
   refine aj rfl (fc rfl) ?_
   refine ST (C:=(fun w=>K w∧Hs [.ext jh o8] w)) IN ((cA.comp (aI.idx (L:=aH) (m:=32) (k:=12) ((Int.toNat oJ)) (ay DQ).2 rfl)).comp cX) (mo f43) fl J5 rf rf rf rf fun PT f77=>?_
   refine SL 4 rf ?_
   refine aj rfl (ae rfl (aN.len _ f77)) ?_
   refine ST (C:=(fun w=>K w∧Hs [.ext jh o8] w)) IN (aI.id (L:=ak)) aT (mo f77) rf rf rf rf rf fun MK f79=>?_
   refine SL 4 rf ?_
   have h:=sj h; subst h
   exact kE [0] rf rf (ra rf (aN.len _ f79) (rt rf rn)) ⟨_,rfl,(mo f79)⟩
def k8 (n:Nat) (a0:ag) (a1:Int) (a2:Int):Option (ag × Int × Int):=
 cl ((a1 == 0) == false) (bx n a0 a1) default fun bf =>
 cl (((((a1 == 0) || bf) && decide (0 ≤ a2)) && decide (a2 ≤ 64)) == true) (dN n a0 a1) default fun ck =>
 cn ((((((a1 == 0) || bf) && decide (0 ≤ a2)) && decide (a2 ≤ 64)) && decide (5 < ck))) (
 some (a0,0,8)) (
 bd (cQ n a0 a1 a2) fun dx =>
 some (dx.1,dx.2.1,dx.2.2))
theorem uJ {n a0 a1 a2 r K} [bu K] {cq} (f0:(ak).rep K cq a0) (h:k8 n a0 a1 a2 = some r):pG Try.prog 121 [A cq, .int .i64 a1, .int .i64 a2] K (fun J v=>∃u0,v = (.tuple #[A u0, .int .i64 r.2.1, .int .i64 r.2.2])∧(ak).rep (fun w=>K w∧J w) u0 (r.1)):=by
 unfold k8 at h
 refine fo Try.func121 (by kernel_rfl) rfl Try.ntmps121 rfl fun cx _ hro cZ hpre=>?_
 refine SC 2 rf ?_
 refine W1 rf (bA rfl) fun b3=>?_
 refine W1 rf (bh (hz:=(⟨by kernel_rfl⟩ : bQ Try.prog 105 aJ))) fun b6=>?_
 obtain ⟨bf,bZ,_,h⟩:=fV h
 obtain ⟨ck,ic,_,h⟩:=fV h
 refine SL 10 rf ?_
 refine GB rf rf rf (fun hb=>ae rfl (aN.len _ f0)) ?_
 refine GB rf rf rf (fun hb=>au rfl) ?_
 refine GB rf rf rf (fun hb=>bS (bG (K:=K) (mo f0) (bZ hb)) (aA (bD rfl hb) (aA (bD rfl hb) rfl)) kn) ?_
 refine aj rfl (eu rfl rfl) ?_
 refine aj rfl (au rfl) ?_
 refine GB rf rf rf (fun hb=>au rfl) ?_
 refine GB rf rf rf (fun hb=>o7 (bD rfl hb) rfl) ?_
 refine aj rfl (cM rfl rfl) ?_
 refine aj rfl (au rfl) ?_
 refine GB rf rf rf (fun hb=>au rfl) ?_
 refine GB rf rf rf (fun hb=>n3 (bD rfl hb) rfl) ?_
 refine aj rfl (cM rfl rfl) ?_
 refine aj rfl (au rfl) ?_
 refine GB rf rf rf (fun hb=>ae rfl (aN.len _ f0)) ?_
 refine GB rf rf rf (fun hb=>au rfl) ?_
 refine GB rf rf rf (fun hb=>bS (kT (K:=K) (mo f0) (ic hb)) (aA (bD rfl hb) (aA (bD rfl hb) rfl)) kn) ?_
 refine GB rf rf rf (fun hb=>mW (bD rfl hb) rfl) ?_
 refine aj rfl (cM rfl rfl) ?_
 refine SL 2 rf ?_
 refine ei h rf (fun hc h=>?_) fun hc h=>?_
 ·
  refine SC 2 rf ?_
  refine aj rfl (ae rfl (aN.len _ f0)) ?_
  refine ST (C:=K) a0 (aI.id (L:=ak)) aT (mo f0) rf rf rf rf rf fun zX f24=>?_
  refine SL 6 rf ?_
  have h:=sj h; subst h
  exact kE [] rf rf (ra rf (aN.len _ f24) (rt rf (rt rf rn))) ⟨_,rfl,(mo f24)⟩
 ·
  obtain ⟨dx,lV,h⟩:=bg h
  refine SC 4 rf ?_
  refine aj rfl (ae rfl (aN.len _ f0)) ?_
  refine SL 2 rf ?_
  refine CB (ox (K:=K) (mo f0) lV) rf rf ?_
  rintro PD Ik M6 ⟨MN,rfl,f31⟩
  replace f31:(ak).rep (fun w=>K w∧Hs [.ext Ik M6] w) MN dx.1:=f31
  refine SL 3 rf ?_
  refine ST (C:=(fun w=>K w∧Hs [.ext Ik M6] w)) dx.1 (aI.id (L:=ak)) aT (mo f31) rf rf rf rf rf fun zW f34=>?_
  refine SL 5 rf ?_
  have h:=sj h; subst h
  exact kE [0] rf rf (ra rf (aN.len _ f34) (rt rf (rt rf rn))) ⟨_,rfl,(mo f34)⟩
def gP:Nat→ag→Int→Option Int
 | 0,_,_=>none
 | n + 1,a0,a1 =>
 bd (bx n a0 a1) fun bf =>
 cl (bf == true) (iP n a0 a1) default fun ck =>
 cn ((bf && (ck != 0))) (
 bd (iP n a0 a1) fun jE =>
 bd (gP n a0 jE) fun n5 =>
 some n5) (
 bd (bx n a0 a1) fun js =>
 cn (js) (
 some a1) (
 some 0))
theorem s9 {n a0 a1 r K} [bu K] {cq} (f0:(ak).rep K cq a0) (h:gP n a0 a1 = some r):qU Try.prog 57 [A cq, .int .i64 a1] K (.int .i64 r):=by
 induction n generalizing a0 a1 r K cq with
 | zero=>cases h
 | succ n ih =>
 rw [gP] at h
 refine fo Try.func57 (by kernel_rfl) rfl Try.ntmps57 rfl fun cx _ hro cZ hpre=>?_
 refine SC 2 rf ?_
 refine W1 rf (bA rfl) fun b2=>?_
 obtain ⟨bf,bZ,h⟩:=bg h
 obtain ⟨ck,ic,_,h⟩:=fV h
 refine SL 6 rf ?_
 refine aj rfl (ae rfl (aN.len _ f0)) ?_
 refine aj rfl (au rfl) ?_
 refine CV (bG (K:=K) (mo f0) bZ) rf rf ?_
 refine aj rfl (au rfl) ?_
 refine GB rf rf rf (fun hb=>ae rfl (aN.len _ f0)) ?_
 refine GB rf rf rf (fun hb=>au rfl) ?_
 refine GB rf rf rf (fun hb=>bS (ke (K:=K) (mo f0) (ic hb)) (aA (bD rfl hb) (aA (bD rfl hb) rfl)) kn) ?_
 refine GB rf rf rf (fun hb=>mU (bD rfl hb) rfl) ?_
 refine aj rfl (cM rfl rfl) ?_
 refine SL 2 rf ?_
 refine ei h rf (fun hc h=>?_) fun hc h=>?_
 ·
  refine nZ ?_
  obtain ⟨jE,j6,h⟩:=bg h
  obtain ⟨n5,vB,h⟩:=bg h
  refine cJ mixed (.gB [] [(0,[2]),(1,[2]),(2,[1]),(3,[15,16]),(4,[14,17])] (.alt 5 [18] (.fin [] []) .no)) (by kernel_rfl) ?_
  refine T0 ?_
  refine NV rf rf (ae rfl (aN.len _ f0)) ?_
  refine NV rf rf (ae rfl (aN.len _ f0)) ?_
  refine NS 1 rf ?_
  refine NC rf rf (ke (K:=K) (mo f0) j6) rf ?_
  refine NC rf rf (ih (K:=K) (mo f0) vB) rf ?_
  refine aW ?_
  refine XV rf rf (bB rfl) ?_
  refine pb ?_
  refine SX 3 rf ?_
  have h:=sj h; subst h
  exact RV rf (rt rf rn) rf
 ·
  obtain ⟨js,nJ,h⟩:=bg h
  refine SC 5 rf ?_
  refine aj rfl (ae rfl (aN.len _ f0)) ?_
  refine aj rfl (au rfl) ?_
  refine CV (bG (K:=K) (mo f0) nJ) rf rf ?_
  refine SL 2 rf ?_
  refine ei h rf (fun hc h=>?_) fun hc h=>?_
  ·
   refine SC 8 rf ?_
   have h:=sj h; subst h
   exact RV rf (rt rf rn) rf
  ·
   refine SC 8 rf ?_
   have h:=sj h; subst h
   exact RV rf (rt rf rn) rf
def fz (n:Nat) (a0:aq) (a1:Int):Option (aq × Int):=
 some (a0,a1)
theorem kg {n a0 a1 r K} [bu K] {cq} (f0:(ah).rep K cq a0) (h:fz n a0 a1 = some r):Bw.Fn (α:=Nat × List Value × Nat) Try.prog 128 [A cq, .int .u32 a1] K [] (fun (b0,c0,b1)=>(ah).rep K c0 r.1) (fun (b0,c0,b1)=>.func (.func 160) #[] #[Ptr b0 0,Ptr b1 0]) (fun (b0,c0,b1)=>[.cells b0 77 c0, .cells b1 69 ((LI .u32).enc r.2)]):=by
 unfold fz at h
 refine fo Try.func128 (by kernel_rfl) rfl Try.ntmps128 rfl fun cx _ hro cZ hpre=>?_
 refine SC 2 rf ?_
 refine W1 rf (bA rfl) fun b2=>?_
 refine W1 rf (eF (LI .u32) a1 rfl rfl) fun b3=>?_
 refine SL 10 rf ?_
 have h:=sj h; subst h
 exact dG ⟨b2,cq,b3⟩ rfl (.tmp rfl .nil) (mo f0) rfl (ks:=[1,0]) rfl (by decide)
def fa (n:Nat) (a1:aq) (a2:Int):Option (List Int):=
 dF (fun N4 (lO:Int) =>
 bd (cP n a1 lO) fun m7 =>
 cn (((m7.2 != 0) || (m7.1.Up == 0)) == false) (
 yl m7.1.Up <|
 N4 m7.1.Up) (
 some [])) n a2
theorem iR {n:Nat} {a1:aq} {a2:Int} {l:List Int} {K:World→Prop} [bu K] {q1:Nat} {kX:List Value} (f1:(ah).rep K kX a1) {q2:Nat} (h:fa n a1 a2 = some l):CP Try.prog 160 [Ptr q1 0,Ptr q2 0] [.cells q1 77 kX, .cells q2 69 ((LI .u32).enc a2)] [.cells q1 77 kX] K (fun k=>[.int .u32 (l.getD k default)]) l.length:=by
 unfold fa at h
 refine ⟨fun y J Jx bs=>fG Try.func160 (by kernel_rfl) rfl Try.ntmps160 rfl (fun cx cZ hpre hro=>?_)⟩
 haveI:=jm (show cx.bs = bs++bE [.cells q1 77 kX, .cells q2 69 ((LI .u32).enc a2)] from cZ) hpre.1
 have hR:CJ Try.prog y cx.bs cx.w0 J Jx (fun k=>[.int .u32 (l.getD k default)]) l.length:=by rw [show cx.bs = bs++bE [.cells q1 77 kX, .cells q2 69 ((LI .u32).enc a2)] from cZ]; exact hpre.2
 have D4:l.drop 0 = l:=rfl
 have DN:0 ≤ l.length:=Nat.zero_le _
 refine qJ ?_
 obtain ⟨JH,G0,h⟩:=kJ h
 refine LO (β:=Int × Nat × (List Int) × (List Nat)) [0,1,2] [0,1,2] (fun (F1,lO,n9,FJ,sX)=>[]) (fun (F1,lO,n9,FJ,sX)=>[.ext sX (J n9 sX), .cells q1 77 kX, .cells q2 69 ((LI .u32).enc lO)]) (fun (F1,lO,n9,FJ,sX)=>l.drop n9 = FJ∧n9 ≤ l.length∧dF JH F1 lO = some FJ) (n,a2,0,l,bs) ⟨D4,DN,h⟩ rf rf rf ?_
 rintro F1 ⟨lO,n9,FJ,sX⟩ ⟨Hv,KW,h⟩
 replace h:=kI G0 h; obtain ⟨F1,rfl,h⟩:=h
 obtain ⟨m7,DA,h⟩:=bg h
 refine SC 3 rf ?_
 refine aj rfl (ae rfl (aN.len _ f1)) ?_
 refine aj rfl (bH (aI.id (L:=(LI .u32))) rfl) ?_
 refine CB (eE (K:=K) (mo f1) DA) rf rf ?_
 rintro Nh uO CN ⟨H7,rfl,f47⟩
 replace f47:(aF).rep (fun w=>K w∧Hs [.ext uO CN] w) H7 m7.1:=f47
 refine SL 3 rf ?_
 refine W1 rf (bh (hz:=(⟨by kernel_rfl⟩ : bQ Try.prog 74 dk))) fun b4=>?_
 refine ST (C:=(fun w=>K w∧Hs [.ext uO CN] w)) m7.1 (aI.id (L:=aF)) dj (mo f47) rf rf rf rf rf fun LS f50=>?_
 refine SL 5 rf ?_
 rcases Bool.eq_false_or_eq_true (((m7.2 != 0) || (m7.1.Up == 0)) == false) with oa | oa
 ·
  replace h:=HW oa h
  obtain ⟨ND,KI,h⟩:=AO h
  obtain ⟨KU,K6,K9,KS⟩:=drop_cons (Hv.trans KI)
  refine SC 4 rf ?_
  refine GB rf rf rf (fun hb=>aM rfl) ?_
  refine GB rf rf rf (fun hb=>bq (bD rfl hb) (bX.int f50)) ?_
  refine GB rf rf rf (fun hb=>fg (bD rfl hb) rfl) ?_
  refine aj rfl (eu rfl rfl) ?_
  refine aj rfl (au rfl) ?_
  refine GB rf rf rf (fun hb=>au rfl) ?_
  refine GB rf rf rf (fun hb=>aM rfl) ?_
  refine GB rf rf rf (fun hb=>bq (bD rfl hb) (bX.int f50)) ?_
  have hb:=oa; refine Ir (cF rfl rfl) oa rfl (oE (bs:=sX) hR KU hro (bD rfl hb) (show oY _ _ = some [.int .u32 (l.getD n9 default)] by rw [K6]; exact (aA (bD rfl hb) rfl))) (fun ⟨HJ,HN⟩ _=>?_)
  refine GB rf rf rf (fun hb=>ij (bD rfl hb)) ?_
  refine aj rfl (eu rfl rfl) ?_
  refine SL 2 rf ?_
  refine sx rfl (fun hc=>?_) (fun hc=>?_)
  ·
   replace hc:=MG oa hc
   obtain rfl:HJ = false:=by simpa using hc
   dsimp only [cond_true,cond_false]
   refine SC 5 rf ?_
   exact dG (false,HN) rfl .nil trivial rfl (ks:=[2,3]) rfl (by decide)
  ·
   replace hc:=MG oa hc
   obtain rfl:HJ = true:=by simpa using hc
   dsimp only [cond_true,cond_false]
   refine SC 4 rf ?_
   refine aj rfl (bq rfl (bX.int f50)) ?_
   refine W0 (di (M:=(LI .u32)) (aI.id (L:=(LI .u32))) m7.1.Up m7.1.Up rfl rfl rfl rfl rfl) ?_
   refine SL 2 rf ?_
   exact LN [2,3,4] (m7.1.Up,n9 + 1,ND,HN) ⟨K9,KS,h⟩ rf rf rf
 ·
  replace h:=HX oa h
  refine SC 4 rf ?_
  refine GB rf rf rf (fun hb=>aM rfl) ?_
  refine GB rf rf rf (fun hb=>bq (bD rfl hb) (bX.int f50)) ?_
  refine GB rf rf rf (fun hb=>fg (bD rfl hb) rfl) ?_
  refine aj rfl (eu rfl rfl) ?_
  refine aj rfl (au rfl) ?_
  refine GB rf rf rf (fun hb=>au rfl) ?_
  refine GB rf rf rf (fun hb=>aM rfl) ?_
  refine GB rf rf rf (fun hb=>bq (bD rfl hb) (bX.int f50)) ?_
  refine It (v:=.bool true) (cF rfl rfl) oa rfl ?_
  refine GB rf rf rf (fun hb=>ij (bD rfl hb)) ?_
  refine aj rfl (eu rfl rfl) ?_
  refine SL 2 rf ?_
  refine sx rfl (fun _=>?_) (fun hc=>(HI oa hc).elim)
  refine SC 5 rf ?_
  have h:=sj h; subst h
  have Lw:=drop_nil Hv KW
  refine pU (ks:=[2,3]) (H':=[.ext sX (J (n9) sX), .cells q1 77 kX]) rfl (by decide) ?_
  refine pV (J:=J) (n:=l.length) Lw ?_
  exact dG (true,sX) rfl .nil trivial rfl (ks:=[0,1]) rfl (by decide)
def dw (n:Nat) (a0:aq) (a1:Int):Option Int:=
 bd (aS n a0.book.iZ a1) fun bf =>
 cn ((!bf)) (
 some 0) (
 bd (fz n a0 a1) fun ck =>
 bd (fa n ck.1 ck.2) fun cw =>
 ff (fun (Em:Int) Bd (bJ:Int) =>
 lt (Em:Int) fun fL =>
 lt (wr .i64 (bJ + 1):Int) fun gA =>
 Bd gA) (fun (bJ:Int) =>
 some bJ) cw 1)
theorem fW {n a0 a1 r K} [bu K] {cq} (f0:(ah).rep K cq a0) (h:dw n a0 a1 = some r):qU Try.prog 54 [A cq, .int .u32 a1] K (.int .i64 r):=by
 unfold dw at h
 refine fo Try.func54 (by kernel_rfl) rfl Try.ntmps54 rfl fun cx _ hro cZ hpre=>?_
 refine SC 2 rf ?_
 refine W1 rf (bA rfl) fun b2=>?_
 obtain ⟨bf,bZ,h⟩:=bg h
 refine SL 8 rf ?_
 refine aj rfl (aQ rfl (aV.iff.1 ((aR.c0 aX).get f0)) (br _ _)) ?_
 refine aj rfl (au rfl) ?_
 refine CV (bn bZ) rf rf ?_
 refine SL 3 rf ?_
 refine ei h rf (fun hc h=>?_) fun hc h=>?_
 ·
  refine SC 7 rf ?_
  have h:=sj h; subst h
  exact RV rf (rt rf rn) rf
 ·
  refine SC 4 rf ?_
  refine W1 rf (cU (L:=(LI .i64)) (z:=0) ⟨by kernel_rfl⟩) fun b5=>?_
  refine W0 (di (M:=(LI .i64)) (aI.id (L:=(LI .i64))) 1 1 rfl rfl rfl rfl rfl) ?_
  obtain ⟨ck,ic,h⟩:=bg h
  refine SL 5 rf ?_
  refine aj rfl (ae rfl (aN.len _ f0)) ?_
  refine aj rfl (au rfl) ?_
  refine ez rfl (dV (kg (K:=K) (mo f0) ic) rfl kn) (fun ⟨Im,H8,O2⟩ f25=>?_)
  replace f25:(ah).rep K H8 ck.1:=f25
  dsimp only [List.cons_append,List.nil_append]
  refine SL 3 rf ?_
  obtain ⟨cw,kR,h⟩:=bg h
  obtain ⟨vy,zC,vN,zI,h⟩:=qn h
  refine o6 (K:=K) (α:=Int) (β:=Unit) hro rfl (iR (K:=K) (mo f25) kR) (fun _=>rfl) rfl (fun lu=>fun bJ=>ff vy vN (cw.drop lu) bJ = some r) (fun lu=>fun bJ=>[.cells b5 3 ((LI .i64).enc bJ), .cells b2 77 cq]) (fun _ _=>False) (fun _=>[]) 1 h (ks:=[0,1,2,3]) rfl (by decide) ?_ ?_ ?_
  ·
   rintro lu bJ lo dd rec c' hk h pq sU nL hsi hT
   replace h:ff vy vN (cw.drop lu) bJ = some r:=h
   replace h:=ql zC hk h
   haveI:=mI (K:=K) hsi
   dsimp only [pH]
   obtain ⟨fL,qp,h⟩:=cL h
   rw [← qp]
   refine tp ?_
   refine jA pq nL ?_
   obtain ⟨gA,mM,h⟩:=cL h
   refine SC 2 rf ?_
   refine aj rfl (bH (aI.id (L:=(LI .i64))) rfl) ?_
   refine aj rfl (qN rfl rfl rfl) ?_
   refine W0 (di (M:=(LI .i64)) (aI.id (L:=(LI .i64))) (wr .i64 (bJ + 1)) gA mM rfl rfl rfl rfl) ?_
   refine SL 2 rf ?_
   exact iY pq sU hT gA h (ks:=[0,1,2,3]) rfl (by decide)
  ·
   rintro ON bJ h
   replace h:ff vy vN (cw.drop cw.length) bJ = some r:=h
   replace h:=qm zI rfl h
   dsimp only [List.cons_append,List.nil_append]
   refine SX 4 rf ?_
   refine aj rfl (bH (aI.id (L:=(LI .i64))) rfl) ?_
   refine SL 4 rf ?_
   have h:=sj h; subst h
   exact jq () rfl (.tmp rfl .nil) trivial rfl (ks:=[]) rfl (by decide)
  ·
   intro dd j i hf; exact hf.elim
def gh (n:Nat) (a0:aq) (a1:Int):Option Int:=
 bd (aS n a0.book.iZ a1) fun bf =>
 cn ((!bf)) (
 some 0) (
 bd (fz n a0 a1) fun ck =>
 bd (fa n ck.1 ck.2) fun cw =>
 ff (fun (Em:Int) Bd (bJ:Int) =>
 lt (Em:Int) fun fL =>
 Bd fL) (fun (bJ:Int) =>
 some bJ) cw a1)
theorem jo {n a0 a1 r K} [bu K] {cq} (f0:(ah).rep K cq a0) (h:gh n a0 a1 = some r):qU Try.prog 56 [A cq, .int .u32 a1] K (.int .u32 r):=by
 unfold gh at h
 refine fo Try.func56 (by kernel_rfl) rfl Try.ntmps56 rfl fun cx _ hro cZ hpre=>?_
 refine SC 2 rf ?_
 refine W1 rf (bA rfl) fun b2=>?_
 refine W1 rf (eF (LI .u32) a1 rfl rfl) fun b3=>?_
 obtain ⟨bf,bZ,h⟩:=bg h
 refine SL 8 rf ?_
 refine aj rfl (aQ rfl (aV.iff.1 ((aR.c0 aX).get f0)) (br _ _)) ?_
 refine aj rfl (bH (aI.id (L:=(LI .u32))) rfl) ?_
 refine CV (bn bZ) rf rf ?_
 refine SL 3 rf ?_
 refine ei h rf (fun hc h=>?_) fun hc h=>?_
 ·
  refine SC 7 rf ?_
  have h:=sj h; subst h
  exact RV rf (rt rf rn) rf
 ·
  obtain ⟨ck,ic,h⟩:=bg h
  refine SC 5 rf ?_
  refine aj rfl (ae rfl (aN.len _ f0)) ?_
  refine aj rfl (bH (aI.id (L:=(LI .u32))) rfl) ?_
  refine ez rfl (dV (kg (K:=K) (mo f0) ic) rfl kn) (fun ⟨Im,H8,O2⟩ f25=>?_)
  replace f25:(ah).rep K H8 ck.1:=f25
  dsimp only [List.cons_append,List.nil_append]
  refine SL 3 rf ?_
  obtain ⟨cw,kR,h⟩:=bg h
  obtain ⟨vy,zC,vN,zI,h⟩:=qn h
  refine o6 (K:=K) (α:=Int) (β:=Unit) hro rfl (iR (K:=K) (mo f25) kR) (fun _=>rfl) rfl (fun lu=>fun bJ=>ff vy vN (cw.drop lu) bJ = some r) (fun lu=>fun bJ=>[.cells b3 69 ((LI .u32).enc bJ), .cells b2 77 cq]) (fun _ _=>False) (fun _=>[]) a1 h (ks:=[0,1,2,3]) rfl (by decide) ?_ ?_ ?_
  ·
   rintro lu bJ lo dd rec c' hk h pq sU nL hsi hT
   replace h:ff vy vN (cw.drop lu) bJ = some r:=h
   replace h:=ql zC hk h
   haveI:=mI (K:=K) hsi
   dsimp only [pH]
   obtain ⟨fL,qp,h⟩:=cL h
   rw [← qp]
   refine SC 3 rf ?_
   refine jA pq nL ?_
   refine SC 3 rf ?_
   refine W0 (di (M:=(LI .u32)) (aI.id (L:=(LI .u32))) fL fL rfl rfl rfl rfl rfl) ?_
   refine SL 2 rf ?_
   exact iY pq sU hT fL h (ks:=[0,1,2,3]) rfl (by decide)
  ·
   rintro LH bJ h
   replace h:ff vy vN (cw.drop cw.length) bJ = some r:=h
   replace h:=qm zI rfl h
   dsimp only [List.cons_append,List.nil_append]
   refine SX 4 rf ?_
   refine aj rfl (bH (aI.id (L:=(LI .u32))) rfl) ?_
   refine SL 4 rf ?_
   have h:=sj h; subst h
   exact jq () rfl (.tmp rfl .nil) trivial rfl (ks:=[]) rfl (by decide)
  ·
   intro dd j i hf; exact hf.elim
def dZ (n:Nat) (a0:aq) (a1:Int) (a2:Int):Option Bool:=
 bd (aS n a0.book.iZ a1) fun bf =>
 cl ((!bf) == false) (aS n a0.book.iZ a2) default fun ck =>
 cn (((!bf) || (!ck))) (
 some false) (
 lt ((a1 == a2):Bool) fun jE =>
 bd (fz n a0 a2) fun n5 =>
 bd (fa n n5.1 n5.2) fun eo =>
 ff (fun (LC:Int) xA (eX:Bool) =>
 lt (LC:Int) fun gA =>
 lt ((eX || (gA == a1)):Bool) fun m8 =>
 xA m8) (fun (eX:Bool) =>
 some eX) eo jE)
theorem gK {n a0 a1 a2 r K} [bu K] {cq} (f0:(ah).rep K cq a0) (h:dZ n a0 a1 a2 = some r):qU Try.prog 58 [A cq, .int .u32 a1, .int .u32 a2] K (.bool r):=by
 unfold dZ at h
 refine fo Try.func58 (by kernel_rfl) rfl Try.ntmps58 rfl fun cx _ hro cZ hpre=>?_
 refine SC 2 rf ?_
 refine W1 rf (bA rfl) fun b3=>?_
 refine W1 rf (eF (LI .u32) a1 rfl rfl) fun b4=>?_
 obtain ⟨bf,bZ,h⟩:=bg h
 obtain ⟨ck,ic,_,h⟩:=fV h
 refine SL 8 rf ?_
 refine aj rfl (aQ rfl (aV.iff.1 ((aR.c0 aX).get f0)) (br _ _)) ?_
 refine aj rfl (bH (aI.id (L:=(LI .u32))) rfl) ?_
 refine CV (bn bZ) rf rf ?_
 refine SL 2 rf ?_
 refine GB rf rf rf (fun hb=>aM rfl) ?_
 refine GB rf rf rf (fun hb=>aM (bD rfl hb)) ?_
 refine GB rf rf rf (fun hb=>aQ (bD rfl hb) (aV.iff.1 ((aR.c0 aX).get f0)) (br _ _)) ?_
 refine GB rf rf rf (fun hb=>au rfl) ?_
 refine GB rf rf rf (fun hb=>bS (bn (ic hb)) (aA (bD rfl hb) (aA (bD rfl hb) rfl)) (fun _ _ _=>trivial)) ?_
 refine GB rf rf rf (fun hb=>ij (bD rfl hb)) ?_
 refine aj rfl (eu rfl rfl) ?_
 refine SL 2 rf ?_
 refine ei h rf (fun hc h=>?_) fun hc h=>?_
 ·
  refine SC 7 rf ?_
  have h:=sj h; subst h
  exact RV rf (rt rf rn) rf
 ·
  obtain ⟨jE,j6,h⟩:=cL h
  refine SC 4 rf ?_
  refine aj rfl (bH (aI.id (L:=(LI .u32))) rfl) ?_
  refine SL 2 rf ?_
  refine W1 rf (cU (L:=LB) (z:=false) ⟨by kernel_rfl⟩) fun b7=>?_
  refine W0 (di (M:=LB) (aI.id (L:=LB)) (a1 == a2) jE j6 rfl rfl rfl rfl) ?_
  obtain ⟨n5,vB,h⟩:=bg h
  refine SL 5 rf ?_
  refine aj rfl (ae rfl (aN.len _ f0)) ?_
  refine aj rfl (au rfl) ?_
  refine ez rfl (dV (kg (K:=K) (mo f0) vB) rfl kn) (fun ⟨Il,Ey,O1⟩ f27=>?_)
  replace f27:(ah).rep K Ey n5.1:=f27
  dsimp only [List.cons_append,List.nil_append]
  refine SL 3 rf ?_
  obtain ⟨eo,oU,h⟩:=bg h
  obtain ⟨Dq,G9,Ek,Hr,h⟩:=qn h
  refine o6 (K:=K) (α:=Bool) (β:=Unit) hro rfl (iR (K:=K) (mo f27) oU) (fun _=>rfl) rfl (fun n9=>fun eX=>ff Dq Ek (eo.drop n9) eX = some r) (fun n9=>fun eX=>[.cells b7 4 (LB.enc eX), .cells b4 69 ((LI .u32).enc a1), .cells b3 77 cq]) (fun _ _=>False) (fun _=>[]) jE h (ks:=[0,1,2,3,4]) rfl (by decide) ?_ ?_ ?_
  ·
   rintro n9 eX lo dd rec c' hk h pq sU nL hsi hT
   replace h:ff Dq Ek (eo.drop n9) eX = some r:=h
   replace h:=ql G9 hk h
   haveI:=mI (K:=K) hsi
   dsimp only [pH]
   obtain ⟨gA,mM,h⟩:=cL h
   rw [← mM]
   refine SC 3 rf ?_
   refine jA pq nL ?_
   obtain ⟨m8,uv,h⟩:=cL h
   refine SC 2 rf ?_
   refine aj rfl (mV (aI.id (L:=LB)) rfl) ?_
   refine aj rfl (au rfl) ?_
   refine GB rf rf rf (fun hb=>au rfl) ?_
   refine GB rf rf rf (fun hb=>bH (aI.id (L:=(LI .u32))) rfl) ?_
   refine GB rf rf rf (fun hb=>fg (bD rfl hb) (bD rfl hb)) ?_
   refine aj rfl (eu rfl rfl) ?_
   refine W0 (di (M:=LB) (aI.id (L:=LB)) (eX || (gA == a1)) m8 uv rfl rfl rfl rfl) ?_
   refine SL 2 rf ?_
   exact iY pq sU hT m8 h (ks:=[0,1,2,3,4]) rfl (by decide)
  ·
   rintro OM eX h
   replace h:ff Dq Ek (eo.drop eo.length) eX = some r:=h
   replace h:=qm Hr rfl h
   dsimp only [List.cons_append,List.nil_append]
   refine SX 4 rf ?_
   refine aj rfl (mV (aI.id (L:=LB)) rfl) ?_
   refine SL 4 rf ?_
   have h:=sj h; subst h
   exact jq () rfl (.tmp rfl .nil) trivial rfl (ks:=[]) rfl (by decide)
  ·
   intro dd j i hf; exact hf.elim
def gn (n:Nat) (a0:aq) (a1:Int) (a2:Int):Option (aq × Int × Int):=
 bd (dX n a0 a1 a2) fun bf =>
 cl (((bf.2.2 == 0) || (bf.2.2 == 7)) == true) (dw n a0 a1) default fun bJ =>
 cn ((((bf.2.2 == 0) || (bf.2.2 == 7)) && decide (6 ≤ bJ))) (
 some (a0,0,8)) (
 some (bf.1,bf.2.1,bf.2.2))
theorem iW {n a0 a1 a2 r K} [bu K] {cq} (f0:(ah).rep K cq a0) (h:gn n a0 a1 a2 = some r):pG Try.prog 63 [A cq, .int .u32 a1, .int .i64 a2] K (fun J v=>∃u0,v = (.tuple #[A u0, .int .u32 r.2.1, .int .i64 r.2.2])∧(ah).rep (fun w=>K w∧J w) u0 (r.1)):=by
 unfold gn at h
 refine fo Try.func63 (by kernel_rfl) rfl Try.ntmps63 rfl fun cx _ hro cZ hpre=>?_
 refine SC 2 rf ?_
 refine W1 rf (bA rfl) fun b3=>?_
 refine W1 rf (bh (hz:=(⟨by kernel_rfl⟩ : bQ Try.prog 77 aE))) fun b6=>?_
 obtain ⟨bf,bZ,h⟩:=bg h
 refine SL 6 rf ?_
 refine aj rfl (ae rfl (aN.len _ f0)) ?_
 refine SL 2 rf ?_
 refine CB (oq (K:=K) (mo f0) bZ) rf rf ?_
 rintro yu ew jr ⟨BL,rfl,f26⟩
 replace f26:(ah).rep (fun w=>K w∧Hs [.ext ew jr] w) BL bf.1:=f26
 refine SL 4 rf ?_
 refine W1 rf (bh (hz:=(⟨by kernel_rfl⟩ : bQ Try.prog 77 aE))) fun b9=>?_
 refine ST (C:=(fun w=>K w∧Hs [.ext ew jr] w)) bf.1 (aI.id (L:=ah)) aL (mo f26) rf rf rf rf rf fun yn f29=>?_
 obtain ⟨bJ,sR,_,h⟩:=fV h
 refine SL 10 rf ?_
 refine GB rf rf rf (fun hb=>au rfl) ?_
 refine GB rf rf rf (fun hb=>fg (bD rfl hb) rfl) ?_
 refine aj rfl (eu rfl rfl) ?_
 refine aj rfl (au rfl) ?_
 refine GB rf rf rf (fun hb=>ae rfl (aN.len _ f0)) ?_
 refine GB rf rf rf (fun hb=>au rfl) ?_
 refine GB rf rf rf (fun hb=>bS (fW (K:=K) (mo f0) (sR hb)) (aA (bD rfl hb) (aA (bD rfl hb) rfl)) kn) ?_
 refine GB rf rf rf (fun hb=>o7 (bD rfl hb) rfl) ?_
 refine aj rfl (cM rfl rfl) ?_
 refine SL 2 rf ?_
 refine ei h rf (fun hc h=>?_) fun hc h=>?_
 ·
  refine SC 2 rf ?_
  refine aj rfl (ae rfl (aN.len _ f0)) ?_
  refine ST (C:=K) a0 (aI.id (L:=ah)) aL (mo f0) rf rf rf rf rf fun OU f32=>?_
  refine SL 6 rf ?_
  have h:=sj h; subst h
  exact kE [] rf rf (ra rf (aN.len _ f32) (rt rf (rt rf rn))) ⟨_,rfl,(mo f32)⟩
 ·
  refine SC 4 rf ?_
  refine aj rfl (ae rfl (aN.len _ f29)) ?_
  refine SL 2 rf ?_
  refine ST (C:=(fun w=>K w∧Hs [.ext ew jr] w)) bf.1 (aI.id (L:=ah)) aL (mo f29) rf rf rf rf rf fun AI f35=>?_
  refine SL 5 rf ?_
  have h:=sj h; subst h
  exact kE [1] rf rf (ra rf (aN.len _ f35) (rt rf (rt rf rn))) ⟨_,rfl,(mo f35)⟩
def eR (n:Nat) (a0:Int) (a1:aq) (a2:Int):Option Bool:=
 bd (cP n a1 a0) fun bf =>
 some (bf.1.Up != a2)
theorem mb {n a0 a1 a2 r K} [bu K] {q1 kX} (f1:(ah).rep K kX a1) {q2:Nat} (h:eR n a0 a1 a2 = some r):Bw.Fn (α:=Unit) Try.prog 124 [.int .u32 a0,Ptr q1 0,Ptr q2 0] (Av (bE [.cells q1 77 kX, .cells q2 69 ((LI .u32).enc a2)]) K) [.cells q1 77 kX, .cells q2 69 ((LI .u32).enc a2)] (fun _=>True) (fun _=>(.bool r)) (fun _=>[.cells q1 77 kX, .cells q2 69 ((LI .u32).enc a2)]):=by
 unfold eR at h
 refine fG Try.func124 (by kernel_rfl) rfl Try.ntmps124 rfl (fun cx cZ hpre hro=>?_)
 haveI:=jm cZ hpre
 obtain ⟨bf,bZ,h⟩:=bg h
 refine SC 7 rf ?_
 refine aj rfl (ae rfl (aN.len _ f1)) ?_
 refine aj rfl (au rfl) ?_
 refine CB (eE (K:=K) (mo f1) bZ) rf rf ?_
 rintro yu ew jr ⟨BL,rfl,f26⟩
 replace f26:(aF).rep (fun w=>K w∧Hs [.ext ew jr] w) BL bf.1:=f26
 refine SL 3 rf ?_
 refine W1 rf (bh (hz:=(⟨by kernel_rfl⟩ : bQ Try.prog 74 dk))) fun b5=>?_
 refine ST (C:=(fun w=>K w∧Hs [.ext ew jr] w)) bf.1 (aI.id (L:=aF)) dj (mo f26) rf rf rf rf rf fun yn f29=>?_
 refine SL 6 rf ?_
 refine aj rfl (bq rfl (bX.int f29)) ?_
 refine aj rfl (bH (aI.id (L:=(LI .u32))) rfl) ?_
 refine SL 5 rf ?_
 have h:=sj h; subst h
 exact dG () rfl (.tmp rfl .nil) trivial rfl (ks:=[2,3]) rfl (by decide)
def cy (n:Nat) (a0:(List Int)) (mu:aq) (jQ:Int):Option Int:=
 dF (fun vx (ck:Int) =>
 cn (decide (ck < (a0.length:Int))) (
 gu (dH ck a0.length) <|
 bd (eR n (a0.getD (Int.toNat ck) default) mu jQ) fun cw =>
 cn (cw) (
 some ck) (
 vx (wr .i64 (ck + 1)))) (
 some (-1))) n 0
theorem gW {n a0 mu jQ r K} [bu K] {v0} (f0:Fz K v0 (LI .u32) a0) {lf:Nat} {kK:List Value} (BD:(ah).rep K kK mu) {ld:Nat} (h:cy n a0 mu jQ = some r):Bw.Fn (α:=Unit) Try.prog 156 [v0, .func (.func 124) #[] #[Ptr lf 0,Ptr ld 0]] (Av (bE [.cells lf 77 kK, .cells ld 69 ((LI .u32).enc jQ)]) K) [.cells lf 77 kK, .cells ld 69 ((LI .u32).enc jQ)] (fun _=>True) (fun _=>(.int .i64 r)) (fun _=>[.cells lf 77 kK, .cells ld 69 ((LI .u32).enc jQ)]):=by
 unfold cy at h
 refine fG Try.func156 (by kernel_rfl) rfl Try.ntmps156 rfl (fun cx cZ hpre hro=>?_)
 haveI:=jm cZ hpre
 refine SC 9 rf ?_
 refine aj rfl (cS f0 rfl) ?_
 refine SL 4 rf ?_
 obtain ⟨qj,mN,h⟩:=kJ h
 refine LO (β:=Int) [0,1,7] [0,1] (fun (mH,ck)=>[(8, .int .i64 ck)]) (fun (mH,ck)=>[.cells lf 77 kK, .cells ld 69 ((LI .u32).enc jQ)]) (fun (mH,ck)=>dF qj mH ck = some r) (n,0) h rf rf rf ?_
 rintro mH ck h
 replace h:=kI mN h; obtain ⟨mH,rfl,h⟩:=h
 refine SC 6 rf ?_
 refine ei h rf (fun hc h=>?_) fun hc h=>?_
 ·
  obtain ⟨mj,h⟩:=cm h
  obtain ⟨cw,kR,h⟩:=bg h
  refine SC 15 rf ?_
  refine aj rfl (dg (m:=(Int.toNat ck)) f0 rfl rfl rfl (ay mj).1 (ay mj).2) ?_
  refine aj rfl (dc f0 (aI.idx (L:=(LI .u32)) (m:=(a0.length)) (k:=1) ((Int.toNat ck)) (ay mj).2 rfl) rfl) ?_
  refine ez rfl (jC (K:=K) (nE:=[.cells lf 77 kK, .cells ld 69 ((LI .u32).enc jQ)]) (rest:=[]) (ks:=[0,1]) (mb (K:=K) (mo BD) kR) rfl rfl rfl rfl (by decide)) (fun _ _=>?_)
  dsimp only [List.cons_append,List.nil_append]
  refine SL 2 rf ?_
  refine ei h rf (fun hc h=>?_) fun hc h=>?_
  ·
   refine SC 12 rf ?_
   have h:=sj h; subst h
   exact dG () rfl (.tmp rfl .nil) trivial rfl (ks:=[0,1]) rfl (by decide)
  ·
   refine SC 7 rf ?_
   exact LN [0,1] (wr .i64 (ck + 1)) h rf rf rf
 ·
  refine SC 11 rf ?_
  have h:=sj h; subst h
  exact dG () rfl (.tmp rfl .nil) trivial rfl (ks:=[0,1]) rfl (by decide)
def cv (n:Nat) (a0:(List Int)) (mu:aq) (jQ:Int):Option (List Int):=
 bd (cy n a0 mu jQ) fun bf =>
 cn ((bf == (-1))) (
 some a0) (
 jZ (fun Gb (ef:(List Int)) (bJ:Int) (gF:Int) =>
 cn (decide (gF < (ef.length:Int))) (
 gu (dH gF ef.length) <|
 bd (eR n (ef.getD (Int.toNat gF) default) mu jQ) fun gE =>
 cn ((!gE)) (
 gu (dH bJ ef.length) <|
 lt ((ef.set (Int.toNat bJ) (ef.getD (Int.toNat gF) default)):List Int) fun fh =>
 Gb fh (wr .i64 (bJ + 1)) (wr .i64 (gF + 1))) (
 Gb ef bJ (wr .i64 (gF + 1)))) (
 gu (dH bJ (ef.length + 1)) <|
 lt (ef.take (Int.toNat bJ)++List.replicate (ef.length - (Int.toNat bJ)) 0:List Int) fun dP =>
 gu (dH bJ (dP.length + 1)) <|
 lt (dP.take (Int.toNat bJ):List Int) fun u7 =>
 some u7)) n a0 bf (wr .i64 (bf + 1)))
theorem gL {n a0 mu jQ r K} [bu K] {v0} (f0:jI v0 a0.length) {lf:Nat} {kK:List Value} (BD:(ah).rep K kK mu) {ld:Nat} (h:cv n a0 mu jQ = some r):Bw.Fn (α:=Value) Try.prog 123 [v0, .func (.func 124) #[] #[Ptr lf 0,Ptr ld 0]] (Av (bE [Row v0 69 1 (LI .u32) a0, .cells lf 77 kK, .cells ld 69 ((LI .u32).enc jQ)]) K) [Row v0 69 1 (LI .u32) a0, .cells lf 77 kK, .cells ld 69 ((LI .u32).enc jQ)] (fun v=>jI v r.length) (fun v=>v) (fun v=>[Row v 69 1 (LI .u32) r, .cells lf 77 kK, .cells ld 69 ((LI .u32).enc jQ)]):=by
 unfold cv at h
 refine fG Try.func123 (by kernel_rfl) rfl Try.ntmps123 rfl (fun cx cZ hpre hro=>?_)
 haveI:=jm cZ hpre
 obtain ⟨bf,bZ,h⟩:=bg h
 refine SC 9 rf ?_
 refine ez rfl (jC (K:=(fun w=>K w∧Hs [Row v0 69 1 (LI .u32) a0] w)) (nE:=[.cells lf 77 kK, .cells ld 69 ((LI .u32).enc jQ)]) (rest:=[Row v0 69 1 (LI .u32) a0]) (ks:=[1,2,0]) (gW (K:=(fun w=>K w∧Hs [Row v0 69 1 (LI .u32) a0] w)) ((Fz.row (e:=69) (sz:=1) (L:=(LI .u32)) (xs:=a0) rfl f0).mono nh) (mo BD) bZ) rfl rfl rfl rfl (by decide)) (fun _ _=>?_)
 dsimp only [List.cons_append,List.nil_append]
 refine SL 10 rf ?_
 refine ei h rf (fun hc h=>?_) fun hc h=>?_
 ·
  refine SC 8 rf ?_
  have h:=sj h; subst h
  exact dG v0 rfl (.tmp rfl .nil) f0 rfl (ks:=[2,0,1]) rfl (by decide)
 ·
  refine SC 11 rf ?_
  obtain ⟨JJ,G2,h⟩:=wG h
  refine LO (β:=(List Int) × Int × Int) [1] [0,1,2] (fun (F4,ef,bJ,gF)=>[(0,v0),(5, .int .i64 bJ),(6, .int .i64 gF)]) (fun (F4,ef,bJ,gF)=>[.cells lf 77 kK, .cells ld 69 ((LI .u32).enc jQ),Row v0 69 1 (LI .u32) ef]) (fun (F4,ef,bJ,gF)=>jI v0 ef.length∧jZ JJ F4 ef bJ gF = some r) (n,a0,bf,wr .i64 (bf + 1)) ⟨f0,h⟩ rf rf rf ?_
  rintro F4 ⟨ef,bJ,gF⟩ ⟨nj,h⟩
  replace h:=wF G2 h; obtain ⟨F4,rfl,h⟩:=h
  refine SC 5 rf ?_
  refine aj rfl (cS (Fz.row (e:=69) (sz:=1) (L:=(LI .u32)) (xs:=ef) rfl nj) rfl) ?_
  refine SL 3 rf ?_
  refine ei h rf (fun hc h=>?_) fun hc h=>?_
  ·
   obtain ⟨kS,h⟩:=cm h
   refine SC 8 rf ?_
   refine aj rfl (dg (m:=(Int.toNat gF)) (Fz.row (e:=69) (sz:=1) (L:=(LI .u32)) (xs:=ef) rfl nj) rfl rfl rfl (ay kS).1 (ay kS).2) ?_
   refine aj rfl (dc (Fz.row (e:=69) (sz:=1) (L:=(LI .u32)) (xs:=ef) rfl nj) (aI.idx (L:=(LI .u32)) (m:=(ef.length)) (k:=1) ((Int.toNat gF)) (ay kS).2 rfl) rfl) ?_
   obtain ⟨gE,j5,h⟩:=bg h
   refine SL 7 rf ?_
   refine ez rfl (jC (K:=K) (nE:=[.cells lf 77 kK, .cells ld 69 ((LI .u32).enc jQ)]) (rest:=[Row v0 69 1 (LI .u32) ef]) (ks:=[0,1,2]) (mb (K:=K) (mo BD) j5) rfl rfl rfl rfl (by decide)) (fun _ _=>?_)
   dsimp only [List.cons_append,List.nil_append]
   refine SL 3 rf ?_
   refine ei h rf (fun hc h=>?_) fun hc h=>?_
   ·
    obtain ⟨oW,h⟩:=cm h
    obtain ⟨fh,uw,h⟩:=cL h
    refine SC 5 rf ?_
    refine aj rfl (dg (m:=(Int.toNat bJ)) (Fz.row (e:=69) (sz:=1) (L:=(LI .u32)) (xs:=ef) rfl nj) rfl rfl rfl (ay oW).1 (ay oW).2) ?_
    refine W0 (wg (sz:=1) (M:=(LI .u32)) (Int.toNat bJ) (aI.idx (L:=(LI .u32)) (m:=(ef.length)) (k:=1) ((Int.toNat bJ)) (ay oW).2 rfl) (ef.getD (Int.toNat gF) default) fh uw rfl rfl rfl rfl (ay oW).2 rfl rfl) ?_
    have Bt:jI v0 fh.length:=by rw [uw,List.length_set]; exact nj
    refine SL 14 rf ?_
    exact LN [0,1,2] (fh,wr .i64 (bJ + 1),wr .i64 (gF + 1)) ⟨Bt,h⟩ rf rf rf
   ·
    refine SC 8 rf ?_
    exact LN [0,1,2] (ef,bJ,wr .i64 (gF + 1)) ⟨nj,h⟩ rf rf rf
  ·
   obtain ⟨mh,h⟩:=cm h
   obtain ⟨dP,uu,h⟩:=cL h
   refine SC 9 rf ?_
   refine aj rfl (xY (l:=(Int.toNat bJ)) (Fz.row (e:=69) (sz:=1) (L:=(LI .u32)) (xs:=ef) rfl nj) rfl rfl (ay mh).1 (Nat.lt_succ_iff.1 (ay mh).2)) ?_
   refine Ah (x6 (L:=(LI .u32)) (z0:=0) (e:=69) (by kernel_rfl) ⟨by kernel_rfl⟩ rfl rfl rfl rfl (Nat.lt_succ_iff.1 (ay mh).2) rfl uu) (fun _ _=>?_)
   have GF:jI v0 dP.length:=by rw [uu,List.length_append,List.length_take,List.length_replicate,Nat.min_eq_left (Nat.lt_succ_iff.1 (ay mh).2),Nat.add_sub_cancel' (Nat.lt_succ_iff.1 (ay mh).2)]; exact nj
   obtain ⟨ru,h⟩:=cm h
   obtain ⟨u7,Gl,h⟩:=cL h
   refine SL 6 rf ?_
   refine ez rfl (sy (e:=69) (sz:=1) (L:=(LI .u32)) GF rfl rfl rfl (ay ru).1 (Nat.lt_succ_iff.1 (ay ru).2)) (fun _ _=>?_)
   have Bs:jI (jg 0 (Int.toNat bJ) 1 v0) u7.length:=by rw [Gl,List.length_take,Nat.min_eq_left (Nat.lt_succ_iff.1 (ay ru).2)]; exact wV GF
   rw [← Gl]
   refine SL 4 rf ?_
   have h:=sj h; subst h
   exact dG (jg 0 (Int.toNat bJ) 1 v0) rfl (.tmp rfl .nil) Bs rfl (ks:=[2,0,1]) rfl (by decide)
def gV (n:Nat) (a0:aq) (a1:Int):Option (List Int):=
 bd (aS n a0.book.iZ a1) fun bf =>
 cn ((!bf)) (
 some ([]:List Int)) (
 bd (fM n a0.book) fun jE =>
 bd (cv n jE a0 a1) fun cw =>
 some cw)
theorem kU {n a0 a1 r K} [bu K] {cq} (f0:(ah).rep K cq a0) (h:gV n a0 a1 = some r):Bw.Fn (α:=Value) Try.prog 50 [A cq, .int .u32 a1] K [] (fun v=>jI v r.length) (fun v=>v) (fun v=>[Row v 69 1 (LI .u32) r]):=by
 unfold gV at h
 refine fo Try.func50 (by kernel_rfl) rfl Try.ntmps50 rfl fun cx _ hro cZ hpre=>?_
 refine SC 2 rf ?_
 refine W1 rf (bA rfl) fun b2=>?_
 refine W1 rf (eF (LI .u32) a1 rfl rfl) fun b3=>?_
 obtain ⟨bf,bZ,h⟩:=bg h
 refine SL 8 rf ?_
 refine aj rfl (aQ rfl (aV.iff.1 ((aR.c0 aX).get f0)) (br _ _)) ?_
 refine aj rfl (bH (aI.id (L:=(LI .u32))) rfl) ?_
 refine CV (bn bZ) rf rf ?_
 refine SL 3 rf ?_
 refine ei h rf (fun hc h=>?_) fun hc h=>?_
 ·
  refine SC 7 rf ?_
  refine wS 69 1 (LI .u32) ?_
  have h:=sj h; subst h
  exact dG (.slice none 0 0) rfl (.tmp rfl .nil) ⟨_,_,rfl⟩ rfl (ks:=[0]) rfl (by decide)
 ·
  obtain ⟨jE,j6,h⟩:=bg h
  obtain ⟨cw,kR,h⟩:=bg h
  refine SC 5 rf ?_
  refine aj rfl (aQ rfl (aV.iff.1 (aR.get f0)) (br _ _)) ?_
  refine ez rfl (dV (lD j6) rfl (fun _ _ _=>trivial)) (fun Nx KG=>?_)
  dsimp only [List.cons_append,List.nil_append]
  refine aj rfl (pD rfl) ?_
  refine ez rfl (jC (K:=K) (nE:=[Row Nx 69 1 (LI .u32) jE, .cells b2 77 cq, .cells b3 69 ((LI .u32).enc a1)]) (rest:=[]) (ks:=[0,2,1]) (gL (K:=K) KG (mo f0) kR) rfl rfl rfl rfl (by decide)) (fun sE nj=>?_)
  dsimp only [List.cons_append,List.nil_append]
  refine SL 4 rf ?_
  have h:=sj h; subst h
  exact dG sE rfl (.tmp rfl .nil) nj rfl (ks:=[0]) rfl (by decide)
def fy (n:Nat) (a0:aq) (a1:Int):Option (Int × aq):=
 some (a1,a0)
theorem kf {n a0 a1 r K} [bu K] {cq} (f0:(ah).rep K cq a0) (h:fy n a0 a1 = some r):Bw.Fn (α:=Nat × Nat × List Value) Try.prog 127 [A cq, .int .u32 a1] K [] (fun (b0,b1,c1)=>(ah).rep K c1 r.2) (fun (b0,b1,c1)=>.func (.func 158) #[] #[Ptr b0 0,Ptr b1 0]) (fun (b0,b1,c1)=>[.cells b0 69 ((LI .u32).enc r.1), .cells b1 77 c1]):=by
 unfold fy at h
 refine fo Try.func127 (by kernel_rfl) rfl Try.ntmps127 rfl fun cx _ hro cZ hpre=>?_
 refine SC 2 rf ?_
 refine W1 rf (bA rfl) fun b2=>?_
 refine W1 rf (eF (LI .u32) a1 rfl rfl) fun b3=>?_
 refine SL 10 rf ?_
 have h:=sj h; subst h
 exact dG ⟨b3,b2,cq⟩ rfl (.tmp rfl .nil) (mo f0) rfl (ks:=[0,1]) rfl (by decide)
def eK (n:Nat) (a0:(List Int)):Option (List Int):=
 jZ (fun xA (cw:(List Int)) (eo:Int) (bJ:Int) =>
 cn (decide (eo < bJ)) (
 gu (dH bJ cw.length) <|
 gu (dH eo cw.length) <|
 gu (dH eo cw.length) <|
 lt ((cw.set (Int.toNat eo) (cw.getD (Int.toNat bJ) default)):List Int) fun gA =>
 gu (dH bJ gA.length) <|
 lt ((gA.set (Int.toNat bJ) (cw.getD (Int.toNat eo) default)):List Int) fun jk =>
 xA jk (wr .i64 (eo + 1)) (wr .i64 (bJ - 1))) (
 some cw)) n a0 0 (wr .i64 ((a0.length:Int) - 1))
theorem mm {n a0 r v0} (f0:jI v0 a0.length) (h:eK n a0 = some r):Bw.Fn (α:=Value) Try.prog 159 [v0] (Av (bE [Row v0 69 1 (LI .u32) a0]) (fun _=>True)) [Row v0 69 1 (LI .u32) a0] (fun v=>v = v0∧jI v r.length) (fun v=>.tuple #[]) (fun v=>[Row v 69 1 (LI .u32) r]):=by
 unfold eK at h
 refine fG Try.func159 (by kernel_rfl) rfl Try.ntmps159 rfl (fun cx cZ hpre hro=>?_)
 refine SC 3 rf ?_
 refine aj rfl (cS (Fz.row (e:=69) (sz:=1) (L:=(LI .u32)) (xs:=a0) rfl f0) rfl) ?_
 refine SL 6 rf ?_
 obtain ⟨vw,qv,h⟩:=wG h
 refine LO (β:=(List Int) × Int × Int) [] [0] (fun (m32,cw,eo,bJ)=>[(0,v0),(2, .int .i64 eo),(3, .int .i64 bJ)]) (fun (m32,cw,eo,bJ)=>[Row v0 69 1 (LI .u32) cw]) (fun (m32,cw,eo,bJ)=>jI v0 cw.length∧jZ vw m32 cw eo bJ = some r) (n,a0,0,wr .i64 ((a0.length:Int) - 1)) ⟨f0,h⟩ rf rf rf ?_
 rintro m32 ⟨cw,eo,bJ⟩ ⟨lW,h⟩
 replace h:=wF qv h; obtain ⟨m32,rfl,h⟩:=h
 refine SC 8 rf ?_
 refine ei h rf (fun hc h=>?_) fun hc h=>?_
 ·
  refine SC 4 rf ?_
  obtain ⟨nk,h⟩:=cm h
  obtain ⟨kS,h⟩:=cm h
  obtain ⟨lB,h⟩:=cm h
  obtain ⟨gA,mM,h⟩:=cL h
  obtain ⟨iS,h⟩:=cm h
  obtain ⟨jk,pK,h⟩:=cL h
  refine cJ mixed (.gB [] [(0,[0]),(1,[2]),(2,[0]),(3,[3]),(4,[0]),(5,[3]),(6,[18,19]),(7,[20]),(8,[0]),(9,[2]),(10,[22,23]),(11,[24]),(12,[14,15])] (.alt 13 [21,26] (.gB [(2,[0]),(3,[3])] [(14,[16,17])] (.alt 15 [25,27] (.fin [] []) .no)) .no)) (by kernel_rfl) ?_
  refine T0 ?_
  refine NS 6 rf ?_
  refine NV rf rf (dg (m:=(Int.toNat bJ)) (Fz.row (e:=69) (sz:=1) (L:=(LI .u32)) (xs:=cw) rfl lW) rfl rfl rfl (ay nk).1 (ay nk).2) ?_
  refine NV rf rf (dc (Fz.row (e:=69) (sz:=1) (L:=(LI .u32)) (xs:=cw) rfl lW) (aI.idx (L:=(LI .u32)) (m:=(cw.length)) (k:=1) ((Int.toNat bJ)) (ay nk).2 rfl) rfl) ?_
  refine NS 2 rf ?_
  refine NV rf rf (dg (m:=(Int.toNat eo)) (Fz.row (e:=69) (sz:=1) (L:=(LI .u32)) (xs:=cw) rfl lW) rfl rfl rfl (ay kS).1 (ay kS).2) ?_
  refine NV rf rf (dc (Fz.row (e:=69) (sz:=1) (L:=(LI .u32)) (xs:=cw) rfl lW) (aI.idx (L:=(LI .u32)) (m:=(cw.length)) (k:=1) ((Int.toNat eo)) (ay kS).2 rfl) rfl) ?_
  refine NV rf rf (dg (m:=(Int.toNat eo)) (Fz.row (e:=69) (sz:=1) (L:=(LI .u32)) (xs:=cw) rfl lW) rfl rfl rfl (ay lB).1 (ay lB).2) ?_
  refine aW ?_
  refine X0 rf (wg (sz:=1) (M:=(LI .u32)) (Int.toNat eo) (aI.idx (L:=(LI .u32)) (m:=(cw.length)) (k:=1) ((Int.toNat eo)) (ay lB).2 rfl) (cw.getD (Int.toNat bJ) default) gA mM rfl rfl rfl rfl (ay lB).2 rfl rfl) ?_
  have rm:jI v0 gA.length:=by rw [mM,List.length_set]; exact lW
  refine dQ ?_ ?_
  ·
   exact RE 2 rf rf
  refine NV rf rf (dg (m:=(Int.toNat bJ)) (Fz.row (e:=69) (sz:=1) (L:=(LI .u32)) (xs:=gA) rfl rm) rfl rfl rfl (ay iS).1 (ay iS).2) ?_
  refine aW ?_
  refine X0 rf (wg (sz:=1) (M:=(LI .u32)) (Int.toNat bJ) (aI.idx (L:=(LI .u32)) (m:=(gA.length)) (k:=1) ((Int.toNat bJ)) (ay iS).2 rfl) (cw.getD (Int.toNat eo) default) jk pK rfl rfl rfl rfl (ay iS).2 rfl rfl) ?_
  have KE:jI v0 jk.length:=by rw [pK,List.length_set]; exact rm
  refine pb ?_
  refine SX 10 rf ?_
  exact LN [0] (jk,wr .i64 (eo + 1),wr .i64 (bJ - 1)) ⟨KE,h⟩ rf rf rf
 ·
  refine SC 4 rf ?_
  have h:=sj h; subst h
  exact tj v0 rfl .nil ⟨rfl,lW⟩ rfl (ks:=[0]) rfl (by decide)
def eZ (n:Nat) (a1:Int) (a2:aq):Option (List Int):=
 dF (fun Ga (bJ:(List Int)) =>
 cn (decide (0 < (bJ.length:Int))) (
 gu (dH (wr .i64 ((bJ.length:Int) - 1)) bJ.length) <|
 yl (bJ.getD (Int.toNat (wr .i64 ((bJ.length:Int) - 1))) default) <|
 bd (gV n a2 (bJ.getD (Int.toNat (wr .i64 ((bJ.length:Int) - 1))) default)) fun my =>
 bd (eK n my) fun nF =>
 gu (dH (wr .i64 ((bJ.length:Int) - 1)) (bJ.length + 1)) <|
 lt (bJ.take (Int.toNat (wr .i64 ((bJ.length:Int) - 1))):List Int) fun tP =>
 gu (kV tP.length nF.length 4) <|
 lt (tP++nF:List Int) fun yc =>
 Ga yc) (
 some [])) n ([a1]:List Int)
theorem iQ {n:Nat} {a1:Int} {a2:aq} {l:List Int} {K:World→Prop} [bu K] {q1:Nat} {q2:Nat} {tO:List Value} (f2:(ah).rep K tO a2) (h:eZ n a1 a2 = some l):w8 Try.prog 158 [Ptr q1 0,Ptr q2 0] [.cells q1 69 ((LI .u32).enc a1), .cells q2 77 tO] K (fun k=>[.int .u32 (l.getD k default)]) l.length:=by
 unfold eZ at h
 refine ⟨fun y J Jx bs=>fG Try.func158 (by kernel_rfl) rfl Try.ntmps158 rfl (fun cx cZ hpre hro=>?_)⟩
 haveI:=jm (show cx.bs = bs++bE [.cells q1 69 ((LI .u32).enc a1), .cells q2 77 tO] from cZ) hpre.1
 have hR:CJ Try.prog y cx.bs cx.w0 J Jx (fun k=>[.int .u32 (l.getD k default)]) l.length:=by rw [show cx.bs = bs++bE [.cells q1 69 ((LI .u32).enc a1), .cells q2 77 tO] from cZ]; exact hpre.2
 have D4:l.drop 0 = l:=rfl
 have DN:0 ≤ l.length:=Nat.zero_le _
 refine SC 2 rf ?_
 refine aj rfl (bH (aI.id (L:=(LI .u32))) rfl) ?_
 refine ez rfl (wX (LI .u32) a1 rfl rfl rfl rfl (by decide) (by decide)) (fun b8 _=>?_)
 refine SL 4 rf ?_
 obtain ⟨Di,zy,h⟩:=kJ h
 refine LO (β:=(List Int) × Value × Nat × (List Int) × (List Nat)) [0,2] [0,1,2,3] (fun (y7,bJ,Cg,rj,FK,sY)=>[(4,Cg)]) (fun (y7,bJ,Cg,rj,FK,sY)=>[Row Cg 69 1 (LI .u32) bJ, .ext sY (J rj sY), .cells q1 69 ((LI .u32).enc a1), .cells q2 77 tO]) (fun (y7,bJ,Cg,rj,FK,sY)=>jI Cg bJ.length∧l.drop rj = FK∧rj ≤ l.length∧dF Di y7 bJ = some FK) (n,([a1]:List Int), .slice (some ⟨b8,0,none⟩) 1 1,0,l,bs) ⟨⟨_,_,rfl⟩,D4,DN,h⟩ rf rf rf ?_
 rintro y7 ⟨bJ,Cg,rj,FK,sY⟩ ⟨vD,Hw,KX,h⟩
 replace h:=kI zy h; obtain ⟨y7,rfl,h⟩:=h
 refine SC 4 rf ?_
 refine aj rfl (cS (Fz.row (e:=69) (sz:=1) (L:=(LI .u32)) (xs:=bJ) rfl vD) rfl) ?_
 refine SL 3 rf ?_
 refine ei h rf (fun hc h=>?_) fun hc h=>?_
 ·
  obtain ⟨qx,h⟩:=cm h
  refine SC 7 rf ?_
  refine aj rfl (cS (Fz.row (e:=69) (sz:=1) (L:=(LI .u32)) (xs:=bJ) rfl vD) rfl) ?_
  refine aj rfl (qL rfl rfl rfl) ?_
  refine aj rfl (dg (m:=(Int.toNat (wr .i64 ((bJ.length:Int) - 1)))) (Fz.row (e:=69) (sz:=1) (L:=(LI .u32)) (xs:=bJ) rfl vD) rfl rfl rfl (ay qx).1 (ay qx).2) ?_
  refine aj rfl (dc (Fz.row (e:=69) (sz:=1) (L:=(LI .u32)) (xs:=bJ) rfl vD) (aI.idx (L:=(LI .u32)) (m:=(bJ.length)) (k:=1) ((Int.toNat (wr .i64 ((bJ.length:Int) - 1)))) (ay qx).2 rfl) rfl) ?_
  refine SL 5 rf ?_
  obtain ⟨Jp,DG,h⟩:=AO h
  obtain ⟨DM,DV,D3,DL⟩:=drop_cons (Hw.trans DG)
  refine SC 3 rf ?_
  refine ez rfl (oE (bs:=sY) hR DM hro rfl (show oY _ _ = some [.int .u32 (l.getD rj default)] by rw [DV]; rfl)) (fun ⟨zO,vP⟩ _=>?_)
  refine SL 3 rf ?_
  refine sx rfl (fun hc=>?_) (fun hc=>?_)
  ·
   obtain rfl:zO = false:=by simpa using hc
   dsimp only [cond_true,cond_false]
   refine SC 5 rf ?_
   exact dG (false,vP) rfl .nil trivial rfl (ks:=[1,2,3]) rfl (by decide)
  ·
   obtain rfl:zO = true:=by simpa using hc
   dsimp only [cond_true,cond_false]
   obtain ⟨my,Kj,h⟩:=bg h
   refine SC 4 rf ?_
   refine aj rfl (ae rfl (aN.len _ f2)) ?_
   refine aj rfl (au rfl) ?_
   refine ez rfl (dV (kU (K:=K) (mo f2) Kj) rfl kn) (fun CZ GC=>?_)
   dsimp only [List.cons_append,List.nil_append]
   obtain ⟨nF,vA,h⟩:=bg h
   refine SL 6 rf ?_
   refine ez rfl (jC (K:=(fun _=>True)) (nE:=[Row CZ 69 1 (LI .u32) my]) (rest:=[Row Cg 69 1 (LI .u32) bJ, .ext vP (J (rj + 1) vP), .cells q1 69 ((LI .u32).enc a1), .cells q2 77 tO]) (ks:=[0,1,2,3,4]) (mm GC vA) rfl rfl rfl rfl (by decide)) (fun _ ⟨rfl,KD⟩=>?_)
   dsimp only [List.cons_append,List.nil_append]
   obtain ⟨vF,h⟩:=cm h
   obtain ⟨tP,xF,h⟩:=cL h
   obtain ⟨Hi,h⟩:=cm h
   obtain ⟨yc,xE,h⟩:=cL h
   refine SL 5 rf ?_
   refine aj rfl (cS (Fz.row (e:=69) (sz:=1) (L:=(LI .u32)) (xs:=bJ) rfl vD) rfl) ?_
   refine aj rfl (qL rfl rfl rfl) ?_
   refine ez rfl (sy (e:=69) (sz:=1) (L:=(LI .u32)) vD rfl rfl rfl (ay vF).1 (Nat.lt_succ_iff.1 (ay vF).2)) (fun _ _=>?_)
   have Og:jI (jg 0 (Int.toNat (wr .i64 ((bJ.length:Int) - 1))) 1 Cg) tP.length:=by rw [xF,List.length_take,Nat.min_eq_left (Nat.lt_succ_iff.1 (ay vF).2)]; exact wV vD
   rw [← xF]
   refine aj rfl (au rfl) ?_
   refine ez rfl (wZ (sz:=1) (L:=(LI .u32)) (xs:=tP) (ys:=nF) (bytes:=4) (Fz.row (e:=69) (sz:=1) (L:=(LI .u32)) (xs:=nF) rfl KD) rfl rfl rfl (fX Hi).1 (fX Hi).2) (fun Ns GA=>?_)
   rw [← xE] at GA; rw [← xE]
   refine SL 3 rf ?_
   exact LN [1,2,3,4] (yc,Ns,rj + 1,Jp,vP) ⟨GA,D3,DL,h⟩ rf rf rf
 ·
  refine SC 4 rf ?_
  have h:=sj h; subst h
  have Lv:=drop_nil Hw KX
  refine pU (ks:=[1,2,3]) (H':=[.ext sY (J (rj) sY), .cells q1 69 ((LI .u32).enc a1), .cells q2 77 tO]) rfl (by decide) ?_
  refine pV (J:=J) (n:=l.length) Lv ?_
  exact tj (true,sY) rfl .nil trivial rfl (ks:=[0,1,2]) rfl (by decide)
def bR (n:Nat) (mu:Int) (jQ:aq):Option (List Int):=
 bd (eZ n mu jQ) fun bf =>
 ff (fun (LD:Int) Bf (dx:(List Int)) =>
 lt (LD:Int) fun lO =>
 gu (kV dx.length 1 4) <|
 lt (dx++([lO]):List Int) fun gE =>
 Bf gE) (fun (dx:(List Int)) =>
 some dx) bf ([]:List Int)
theorem fJ {n mu jQ r K} [bu K] {lf ld uE} (Lt:(ah).rep K uE jQ) (h:bR n mu jQ = some r):M8 Try.prog 157 [.slice none 0 0, .func (.func 158) #[] #[Ptr lf 0,Ptr ld 0]] K [.cells lf 69 ((LI .u32).enc mu), .cells ld 77 uE] (fun J v ho=>∃u0,v = (u0)∧ho = [.cells lf 69 ((LI .u32).enc mu), .cells ld 77 uE]∧Fz (fun w=>K w∧J w) u0 (LI .u32) (r)):=by
 unfold bR at h
 refine fG Try.func157 (by kernel_rfl) rfl Try.ntmps157 rfl (fun cx cZ hpre hro=>?_)
 haveI:=jm cZ hpre
 refine SC 2 rf ?_
 refine W1 rf (wY rfl (Fz.nil (A:=Hs []) (L:=(LI .u32))).sl.cells) fun b2=>?_
 refine SL 10 rf ?_
 obtain ⟨bf,bZ,h⟩:=bg h
 refine oD 69 1 (LI .u32) ?_
 obtain ⟨vz,zD,vO,zJ,h⟩:=qn h
 refine lI (K:=K) (α:=(List Int) × Value) (β:=Unit) hro rfl (iQ (K:=K) (mo Lt) bZ) (fun _=>rfl) rfl (fun lz=>fun (dx,sF)=>jI sF dx.length∧ff vz vO (bf.drop lz) dx = some r) (fun lz=>fun (dx,sF)=>[Row sF 69 1 (LI .u32) dx, .cells b2 93 ([sF])]) (fun _ _=>False) (fun _=>[]) ⟨([]:List Int), .slice none 0 0⟩ ⟨⟨_,_,rfl⟩,h⟩ (ks:=[2,3,0,1]) rfl (by decide) ?_ ?_ ?_
 ·
  rintro lz ⟨dx,sF⟩ lo dd rec c' hk ⟨lW,h⟩ pq sU nL hsi hT
  replace h:ff vz vO (bf.drop lz) dx = some r:=h
  replace h:=ql zD hk h
  haveI:=mI (K:=K) hsi
  dsimp only [pH]
  obtain ⟨lO,sQ,h⟩:=cL h
  rw [← sQ]
  refine SC 3 rf ?_
  refine jA pq nL ?_
  obtain ⟨kS,h⟩:=cm h
  obtain ⟨gE,j5,h⟩:=cL h
  refine SC 2 rf ?_
  refine aj rfl (bq rfl rfl) ?_
  refine aj rfl (au rfl) ?_
  refine ez rfl (l5 (LI .u32) lO rfl rfl rfl rfl (by decide) (by decide)) (fun vZ _=>?_)
  refine ez rfl (kO (sz:=1) (L:=(LI .u32)) (xs:=dx) (y:=lO) (bytes:=4) rfl rfl rfl (fX kS).1 (fX kS).2) (fun Ce rm=>?_)
  rw [← j5] at rm; rw [← j5]
  refine W0 (qO (cs':=[Ce]) [Ce] (aI.id (L:=(pF (LI .u32)))) (v:=gE) ⟨_,rfl,(Fz.row (e:=69) (sz:=1) (L:=(LI .u32)) (xs:=dx) rfl lW)⟩ (rv:=(⟨_,rfl,(Fz.row (e:=69) (sz:=1) (L:=(LI .u32)) (xs:=gE) rfl rm)⟩ : ((pF (LI .u32))).rep (Hs [Row Ce 69 1 (LI .u32) gE]) [Ce] gE)) rfl rfl (Fz.row (e:=69) (sz:=1) (L:=(LI .u32)) (xs:=gE) rfl rm).sl.cells rfl rfl) ?_
  refine SL 2 rf ?_
  exact iY pq sU hT ⟨gE,Ce⟩ ⟨rm,h⟩ (ks:=[1,2,3,4]) rfl (by decide)
 ·
  rintro HS ⟨dx,sF⟩ ⟨lW,h⟩
  replace h:ff vz vO (bf.drop bf.length) dx = some r:=h
  replace h:=qm zJ rfl h
  dsimp only [List.cons_append,List.nil_append]
  refine SX 4 rf ?_
  refine aj rfl (bq rfl rfl) ?_
  refine SL 4 rf ?_
  have h:=sj h; subst h
  refine bM (R:=[Row sF 69 1 (LI .u32) dx]) (H':=[.obj HS (.deferred (some [])), .cells lf 69 ((LI .u32).enc mu), .cells ld 77 uE]) (ks:=[3,0,1,2]) rfl (by decide) ?_
  have NQ:Fz (fun w=>K w∧(Hs [.ext (bE [Row sF 69 1 (LI .u32) dx]) (Hs [Row sF 69 1 (LI .u32) dx])]) w) sF (LI .u32) dx:=(Fz.row (e:=69) (sz:=1) (L:=(LI .u32)) (xs:=dx) rfl lW).mono nh
  exact jq (sF,[.cells lf 69 ((LI .u32).enc mu), .cells ld 77 uE],bE [Row sF 69 1 (LI .u32) dx],Hs [Row sF 69 1 (LI .u32) dx]) rfl (.tmp rfl .nil) ⟨_,rfl,rfl,NQ⟩ rfl (ks:=[0,2,3]) rfl (by decide)
 ·
  intro dd j i hf; exact hf.elim
def cH (n:Nat) (uT:Int) (BN:aq):Option (List Int):=
 bd (bR n uT BN) fun bf =>
 some bf
theorem hJ {n uT BN r K} [bu K] {xq xp r8} (Lu:(ah).rep K r8 BN) (h:cH n uT BN = some r):M8 Try.prog 126 [.func (.func 158) #[] #[Ptr xq 0,Ptr xp 0]] K [.cells xq 69 ((LI .u32).enc uT), .cells xp 77 r8] (fun J v ho=>∃u0,v = (u0)∧ho = [.cells xq 69 ((LI .u32).enc uT), .cells xp 77 r8]∧Fz (fun w=>K w∧J w) u0 (LI .u32) (r)):=by
 unfold cH at h
 refine fG Try.func126 (by kernel_rfl) rfl Try.ntmps126 rfl (fun cx cZ hpre hro=>?_)
 haveI:=jm cZ hpre
 obtain ⟨bf,bZ,h⟩:=bg h
 refine SC 8 rf ?_
 refine ez rfl (jC (K:=K) (nE:=[.cells xq 69 ((LI .u32).enc uT), .cells xp 77 r8]) (rest:=[]) (ks:=[0,1]) (fJ (K:=K) (mo Lu) bZ) rfl rfl rfl rfl (by decide)) (fun ⟨yu,On,ew,jr⟩ DK=>?_)
 obtain ⟨sF,rfl,rfl,f26⟩:=DK
 replace f26:Fz (fun w=>K w∧Hs [.ext ew jr] w) yu (LI .u32) bf:=f26
 dsimp only [List.cons_append,List.nil_append]
 refine SL 4 rf ?_
 have h:=sj h; subst h
 refine bM (R:=[.ext ew jr]) (H':=[.cells xq 69 ((LI .u32).enc uT), .cells xp 77 r8]) (ks:=[0,1,2]) rfl (by decide) ?_
 have NW:Fz (fun w=>K w∧(Hs [.ext (bE [.ext ew jr]) (Hs [.ext ew jr])]) w) yu (LI .u32) bf:=f26.mono nh
 exact dG (yu,[.cells xq 69 ((LI .u32).enc uT), .cells xp 77 r8],bE [.ext ew jr],Hs [.ext ew jr]) rfl (.tmp rfl .nil) ⟨_,rfl,rfl,NW⟩ rfl (ks:=[0,1,2]) rfl (by decide)
def gm (n:Nat) (a0:aq) (a1:Int):Option (List Int):=
 bd (aS n a0.book.iZ a1) fun bf =>
 cn ((!bf)) (
 some ([]:List Int)) (
 bd (fy n a0 a1) fun jE =>
 bd (cH n jE.1 jE.2) fun ef =>
 some ef)
theorem ki {n a0 a1 r K} [bu K] {cq} (f0:(ah).rep K cq a0) (h:gm n a0 a1 = some r):pG Try.prog 52 [A cq, .int .u32 a1] K (fun J v=>Fz (fun w=>K w∧J w) v (LI .u32) r):=by
 unfold gm at h
 refine fo Try.func52 (by kernel_rfl) rfl Try.ntmps52 rfl fun cx _ hro cZ hpre=>?_
 refine SC 2 rf ?_
 refine W1 rf (bA rfl) fun b2=>?_
 obtain ⟨bf,bZ,h⟩:=bg h
 refine SL 8 rf ?_
 refine aj rfl (aQ rfl (aV.iff.1 ((aR.c0 aX).get f0)) (br _ _)) ?_
 refine aj rfl (au rfl) ?_
 refine CV (bn bZ) rf rf ?_
 refine SL 3 rf ?_
 refine ei h rf (fun hc h=>?_) fun hc h=>?_
 ·
  refine SC 7 rf ?_
  have h:=sj h; subst h
  refine bM (R:=[]) (H':=[]) (ks:=[]) rfl (by decide) ?_
  have NY:Fz (fun w=>K w∧(Hs [.ext (bE []) (Hs [])]) w) (.slice none 0 0) (LI .u32) ([]:List Int):=(Fz.nil (A:=Hs []) (L:=(LI .u32))).mono nh
  exact dG (.slice none 0 0,bE [],Hs []) rfl (.tmp rfl .nil) NY rfl (ks:=[0]) rfl (by decide)
 ·
  obtain ⟨jE,j6,h⟩:=bg h
  obtain ⟨ef,qq,h⟩:=bg h
  refine SC 4 rf ?_
  refine aj rfl (ae rfl (aN.len _ f0)) ?_
  refine aj rfl (au rfl) ?_
  refine ez rfl (dV (kf (K:=K) (mo f0) j6) rfl kn) (fun ⟨L3,Il,Ey⟩ f27=>?_)
  replace f27:(ah).rep K Ey jE.2:=f27
  dsimp only [List.cons_append,List.nil_append]
  refine ez rfl (jC (K:=K) (nE:=[.cells L3 69 ((LI .u32).enc jE.1), .cells Il 77 Ey]) (rest:=[.cells b2 77 cq]) (ks:=[0,1,2]) (hJ (K:=K) (mo f27) qq) rfl rfl rfl rfl (by decide)) (fun ⟨Jh,Om,lY,tJ⟩ KQ=>?_)
  obtain ⟨Nv,rfl,rfl,f33⟩:=KQ
  replace f33:Fz (fun w=>K w∧Hs [.ext lY tJ] w) Jh (LI .u32) ef:=f33
  dsimp only [List.cons_append,List.nil_append]
  refine SL 4 rf ?_
  have h:=sj h; subst h
  refine bM (R:=[.ext lY tJ]) (H':=[]) (ks:=[0]) rfl (by decide) ?_
  have NR:Fz (fun w=>K w∧(Hs [.ext (bE [.ext lY tJ]) (Hs [.ext lY tJ])]) w) Jh (LI .u32) ef:=f33.mono nh
  exact dG (Jh,bE [.ext lY tJ],Hs [.ext lY tJ]) rfl (.tmp rfl .nil) NR rfl (ks:=[0]) rfl (by decide)
def jw (n:Nat) (a0:aq) (a1:Int):Option (aq × (List Int) × Int):=
 bd (gm n a0 a1) fun bf =>
 cn (((bf.length:Int) == 0)) (
 some (a0,([]:List Int),4)) (
 dD (fun F9 (dP:Int) (m7:aq) =>
 cn (decide (dP < (bf.length:Int))) (
 gu (dH dP bf.length) <|
 bd (dM n m7 (bf.getD (Int.toNat dP) default)) fun qW =>
 F9 (wr .i64 (dP + 1)) qW.1) (
 some (m7,bf,0))) n 0 a0)
theorem rB {n a0 a1 r K} [bu K] {cq} (f0:(ah).rep K cq a0) (h:jw n a0 a1 = some r):pG Try.prog 60 [A cq, .int .u32 a1] K (fun J v=>∃u0 u1,v = (.tuple #[A u0,u1, .int .i64 r.2.2])∧(ah).rep (fun w=>K w∧J w) u0 (r.1)∧Fz (fun w=>K w∧J w) u1 (LI .u32) (r.2.1)):=by
 unfold jw at h
 refine fo Try.func60 (by kernel_rfl) rfl Try.ntmps60 rfl fun cx _ hro cZ hpre=>?_
 refine SC 2 rf ?_
 refine W1 rf (bA rfl) fun b2=>?_
 refine W1 rf (bh (hz:=(⟨by kernel_rfl⟩ : bQ Try.prog 77 aE))) fun b4=>?_
 obtain ⟨bf,bZ,h⟩:=bg h
 refine SL 6 rf ?_
 refine aj rfl (ae rfl (aN.len _ f0)) ?_
 refine aj rfl (au rfl) ?_
 refine ez rfl (gY (ki (K:=K) (mo f0) bZ) rfl) (fun ⟨yu,ew,jr⟩ DK=>?_)
 have f26:Fz (fun w=>K w∧Hs [.ext ew jr] w) yu (LI .u32) bf:=DK
 refine SL 7 rf ?_
 refine aj rfl (cS f26 rfl) ?_
 refine SL 3 rf ?_
 refine ei h rf (fun hc h=>?_) fun hc h=>?_
 ·
  refine SC 2 rf ?_
  refine aj rfl (ae rfl (aN.len _ f0)) ?_
  refine ST (C:=K) a0 (aI.id (L:=ah)) aL (mo f0) rf rf rf rf rf fun yn f29=>?_
  refine SL 6 rf ?_
  have h:=sj h; subst h
  refine bM (R:=[]) (H':=[.cells b4 77 yn]) (ks:=[1]) rfl (by decide) ?_
  have NU:(ah).rep (fun w=>K w∧(Hs [.ext (bE []) (Hs [])]) w) yn a0:=aN.mono _ nh f29
  have NT:Fz (fun w=>K w∧(Hs [.ext (bE []) (Hs [])]) w) (.slice none 0 0) (LI .u32) ([]:List Int):=(Fz.nil (A:=Hs []) (L:=(LI .u32))).mono nh
  exact dG (.tuple #[A yn, .slice none 0 0, .int .i64 4],bE [],Hs []) rfl (.agg rfl inferInstance inferInstance (aN.len _ f29) (.tmp rfl (.tmp rfl .nil))) ⟨_,_,rfl,NU,NT⟩ rfl (ks:=[0]) rfl (by decide)
 ·
  refine SC 6 rf ?_
  refine aj rfl (cS f26 rfl) ?_
  refine SL 4 rf ?_
  obtain ⟨Dh,zx,h⟩:=lq h
  refine jR ?_
  refine LO (β:=Int × aq × (List Value) × (List Nat) × (World→Prop)) [2,4,7,17,18] [0,1,2,3] (fun (y6,dP,m7,Ex,eW,jT)=>[(19, .int .i64 dP)]) (fun (y6,dP,m7,Ex,eW,jT)=>[.ext eW jT, .ext ew jr, .cells b4 77 aE, .cells b2 77 Ex]) (fun (y6,dP,m7,Ex,eW,jT)=>(ah).rep (fun w=>K w∧Hs [.ext eW jT] w) Ex m7∧dD Dh y6 dP m7 = some r) (n,0,a0,cq,[],(Hs [])) ⟨(mo f0),h⟩ rf rf rf ?_
  rintro y6 ⟨dP,m7,Ex,eW,jT⟩ ⟨f44,h⟩
  replace h:=lp zx h; obtain ⟨y6,rfl,h⟩:=h
  refine SC 6 rf ?_
  refine ei h rf (fun hc h=>?_) fun hc h=>?_
  ·
   obtain ⟨ob,h⟩:=cm h
   refine SC 6 rf ?_
   refine aj rfl (dg (m:=(Int.toNat dP)) f26 rfl rfl rfl (ay ob).1 (ay ob).2) ?_
   refine aj rfl (dc f26 (aI.idx (L:=(LI .u32)) (m:=(bf.length)) (k:=1) ((Int.toNat dP)) (ay ob).2 rfl) rfl) ?_
   obtain ⟨qW,Bm,h⟩:=bg h
   refine SL 4 rf ?_
   refine aj rfl (ae rfl (aN.len _ f44)) ?_
   refine aj rfl (au rfl) ?_
   refine CB (nT (K:=(fun w=>K w∧Hs [.ext eW jT] w)) (mo f44) Bm) rf rf ?_
   rintro Mc kC qS ⟨so,rfl,f54⟩
   replace f54:(ah).rep (fun w=>(fun w=>K w∧Hs [.ext eW jT] w) w∧Hs [.ext kC qS] w) so qW.1:=f54
   refine SL 3 rf ?_
   refine ST (C:=(fun w=>K w∧Hs [.ext eW jT, .ext kC qS] w)) qW.1 (aI.id (L:=ah)) (mo f44) (mo f54) rf rf rf rf rf fun sg f57=>?_
   refine SL 7 rf ?_
   refine bM (R:=[.ext kC qS, .ext eW jT]) (H':=[.ext ew jr, .cells b4 77 aE, .cells b2 77 sg]) (ks:=[0,1,2,3,4]) rfl (by decide) ?_
   exact LN [0,1,2,3] (wr .i64 (dP + 1),qW.1,sg,(bE [.ext kC qS, .ext eW jT]),(Hs [.ext kC qS, .ext eW jT])) ⟨(mo f57),h⟩ rf rf rf
  ·
   refine SC 7 rf ?_
   refine aj rfl (ae rfl (aN.len _ f44)) ?_
   refine aj rfl (au rfl) ?_
   refine ST (C:=(fun w=>K w∧Hs [.ext eW jT] w)) m7 (aI.id (L:=ah)) aL (mo f44) rf rf rf rf rf fun Ev f59=>?_
   refine SL 5 rf ?_
   have h:=sj h; subst h
   refine bM (R:=[.ext eW jT, .ext ew jr]) (H':=[.cells b4 77 Ev]) (ks:=[0,1,2]) rfl (by decide) ?_
   have NL:(ah).rep (fun w=>K w∧(Hs [.ext (bE [.ext eW jT, .ext ew jr]) (Hs [.ext eW jT, .ext ew jr])]) w) Ev m7:=aN.mono _ nh f59
   have NK:Fz (fun w=>K w∧(Hs [.ext (bE [.ext eW jT, .ext ew jr]) (Hs [.ext eW jT, .ext ew jr])]) w) yu (LI .u32) bf:=f26.mono nh
   exact dG (.tuple #[A Ev,yu, .int .i64 0],bE [.ext eW jT, .ext ew jr],Hs [.ext eW jT, .ext ew jr]) rfl (.agg rfl inferInstance inferInstance (aN.len _ f59) (.tmp rfl (.tmp rfl .nil))) ⟨_,_,rfl,NL,NK⟩ rfl (ks:=[0]) rfl (by decide)
def jv (n:Nat) (a0:aq) (a1:Int):Option Int:=
 bd (fy n a0 a1) fun bf =>
 bd (eZ n bf.1 bf.2) fun dx =>
 ff (fun (BF:Int) Be (eo:Int) =>
 lt (BF:Int) fun fI =>
 bd (dw n a0 fI) fun gE =>
 bd (dw n a0 a1) fun gA =>
 lt ((if eo < wr .i64 ((wr .i64 (gE - gA)) + 1) then wr .i64 ((wr .i64 (gE - gA)) + 1) else eo):Int) fun fh =>
 Be fh) (fun (eo:Int) =>
 some eo) dx 0
theorem rA {n a0 a1 r K} [bu K] {cq} (f0:(ah).rep K cq a0) (h:jv n a0 a1 = some r):qU Try.prog 131 [A cq, .int .u32 a1] K (.int .i64 r):=by
 unfold jv at h
 refine fo Try.func131 (by kernel_rfl) rfl Try.ntmps131 rfl fun cx _ hro cZ hpre=>?_
 refine SC 2 rf ?_
 refine W1 rf (bA rfl) fun b2=>?_
 refine W1 rf (eF (LI .u32) a1 rfl rfl) fun b3=>?_
 refine SL 5 rf ?_
 refine W1 rf (cU (L:=(LI .i64)) (z:=0) ⟨by kernel_rfl⟩) fun b5=>?_
 refine W0 (di (M:=(LI .i64)) (aI.id (L:=(LI .i64))) 0 0 rfl rfl rfl rfl rfl) ?_
 obtain ⟨bf,bZ,h⟩:=bg h
 refine SL 5 rf ?_
 refine aj rfl (ae rfl (aN.len _ f0)) ?_
 refine aj rfl (bH (aI.id (L:=(LI .u32))) rfl) ?_
 refine ez rfl (dV (kf (K:=K) (mo f0) bZ) rfl kn) (fun ⟨O3,Im,H8⟩ f25=>?_)
 replace f25:(ah).rep K H8 bf.2:=f25
 dsimp only [List.cons_append,List.nil_append]
 refine SL 3 rf ?_
 obtain ⟨dx,lV,h⟩:=bg h
 obtain ⟨Dr,He,El,Ht,h⟩:=qn h
 refine lI (K:=K) (α:=Int) (β:=Unit) hro rfl (iQ (K:=K) (mo f25) lV) (fun _=>rfl) rfl (fun Bb=>fun eo=>ff Dr El (dx.drop Bb) eo = some r) (fun Bb=>fun eo=>[.cells b5 3 ((LI .i64).enc eo), .cells b3 69 ((LI .u32).enc a1), .cells b2 77 cq]) (fun _ _=>False) (fun _=>[]) 0 h (ks:=[0,1,2,3,4]) rfl (by decide) ?_ ?_ ?_
 ·
  rintro Bb eo lo dd rec c' hk h pq sU nL hsi hT
  replace h:ff Dr El (dx.drop Bb) eo = some r:=h
  replace h:=ql He hk h
  haveI:=mI (K:=K) hsi
  dsimp only [pH]
  obtain ⟨fI,sP,h⟩:=cL h
  rw [← sP]
  refine SC 3 rf ?_
  refine jA pq nL ?_
  refine qJ ?_
  obtain ⟨gE,j5,h⟩:=bg h
  obtain ⟨gA,mM,h⟩:=bg h
  obtain ⟨fh,uw,h⟩:=cL h
  refine cJ mixed (.gB [] [(0,[5]),(1,[2]),(2,[6]),(3,[12,13]),(4,[2]),(5,[3]),(6,[15,16]),(7,[14,17]),(8,[18]),(9,[11,19])] (.alt 10 [5,20] (.fin [] []) .no)) (by kernel_rfl) ?_
  refine T0 ?_
  refine NV rf rf (bH (aI.id (L:=(LI .i64))) rfl) ?_
  refine NV rf rf (ae rfl (aN.len _ f0)) ?_
  refine NS 1 rf ?_
  refine NC rf rf (fW (K:=K) (mo f0) j5) rf ?_
  refine NV rf rf (ae rfl (aN.len _ f0)) ?_
  refine NV rf rf (bH (aI.id (L:=(LI .u32))) rfl) ?_
  refine NC rf rf (fW (K:=K) (mo f0) mM) rf ?_
  refine NS 2 rf ?_
  refine NV rf rf (EH rfl rfl) ?_
  refine aW ?_
  refine X0 rf (di (M:=(LI .i64)) (aI.id (L:=(LI .i64))) (if eo < wr .i64 ((wr .i64 (gE - gA)) + 1) then wr .i64 ((wr .i64 (gE - gA)) + 1) else eo) fh uw rfl rfl rfl rfl) ?_
  refine pb ?_
  refine uX ?_
  exact iY pq sU hT fh h (ks:=[0,1,2,3,4]) rfl (by decide)
 ·
  rintro HS eo h
  replace h:ff Dr El (dx.drop dx.length) eo = some r:=h
  replace h:=qm Ht rfl h
  dsimp only [List.cons_append,List.nil_append]
  refine SX 4 rf ?_
  refine aj rfl (bH (aI.id (L:=(LI .i64))) rfl) ?_
  refine SL 4 rf ?_
  have h:=sj h; subst h
  exact jq () rfl (.tmp rfl .nil) trivial rfl (ks:=[]) rfl (by decide)
 ·
  intro dd j i hf; exact hf.elim
def g9 (n:Nat) (a0:aq) (a1:Int) (a2:Int):Option (aq × Int):=
 bd (aS n a0.book.iZ a1) fun bf =>
 cl ((!bf) == false) (aS n a0.book.iZ a2) default fun ck =>
 cn (((!bf) || (!ck))) (
 some (a0,4)) (
 bd (gh n a0 a1) fun dx =>
 cl ((dx != a1) == false) (dZ n a0 a1 a2) default fun cw =>
 cn (((dx != a1) || cw)) (
 some (a0,12)) (
 bd (dw n a0 a2) fun gF =>
 bd (jv n a0 a1) fun eX =>
 cn (decide (6 < (wr .i64 (gF + eX)))) (
 some (a0,8)) (
 bd (dz n a0 a1 a2) fun gE =>
 some (gE.1,gE.2))))
theorem mQ {n a0 a1 a2 r K} [bu K] {cq} (f0:(ah).rep K cq a0) (h:g9 n a0 a1 a2 = some r):pG Try.prog 62 [A cq, .int .u32 a1, .int .u32 a2] K (fun J v=>∃u0,v = (.tuple #[A u0, .int .i64 r.2])∧(ah).rep (fun w=>K w∧J w) u0 (r.1)):=by
 unfold g9 at h
 refine fo Try.func62 (by kernel_rfl) rfl Try.ntmps62 rfl fun cx _ hro cZ hpre=>?_
 refine SC 2 rf ?_
 refine W1 rf (bA rfl) fun b3=>?_
 refine W1 rf (bh (hz:=(⟨by kernel_rfl⟩ : bQ Try.prog 77 aE))) fun b6=>?_
 obtain ⟨bf,bZ,h⟩:=bg h
 obtain ⟨ck,ic,_,h⟩:=fV h
 refine SL 9 rf ?_
 refine aj rfl (aQ rfl (aV.iff.1 ((aR.c0 aX).get f0)) (br _ _)) ?_
 refine aj rfl (au rfl) ?_
 refine CV (bn bZ) rf rf ?_
 refine SL 2 rf ?_
 refine GB rf rf rf (fun hb=>aM rfl) ?_
 refine GB rf rf rf (fun hb=>aM (bD rfl hb)) ?_
 refine GB rf rf rf (fun hb=>aQ (bD rfl hb) (aV.iff.1 ((aR.c0 aX).get f0)) (br _ _)) ?_
 refine GB rf rf rf (fun hb=>au rfl) ?_
 refine GB rf rf rf (fun hb=>bS (bn (ic hb)) (aA (bD rfl hb) (aA (bD rfl hb) rfl)) (fun _ _ _=>trivial)) ?_
 refine GB rf rf rf (fun hb=>ij (bD rfl hb)) ?_
 refine aj rfl (eu rfl rfl) ?_
 refine SL 3 rf ?_
 refine ei h rf (fun hc h=>?_) fun hc h=>?_
 ·
  refine SC 2 rf ?_
  refine aj rfl (ae rfl (aN.len _ f0)) ?_
  refine ST (C:=K) a0 (aI.id (L:=ah)) aL (mo f0) rf rf rf rf rf fun zX f24=>?_
  refine SL 6 rf ?_
  have h:=sj h; subst h
  exact kE [] rf rf (ra rf (aN.len _ f24) (rt rf rn)) ⟨_,rfl,(mo f24)⟩
 ·
  obtain ⟨dx,lV,h⟩:=bg h
  obtain ⟨cw,kR,_,h⟩:=fV h
  refine SC 2 rf ?_
  refine aj rfl (ae rfl (aN.len _ f0)) ?_
  refine aj rfl (au rfl) ?_
  refine CV (jo (K:=K) (mo f0) lV) rf rf ?_
  refine SL 3 rf ?_
  refine GB rf rf rf (fun hb=>ae rfl (aN.len _ f0)) ?_
  refine GB rf rf rf (fun hb=>au rfl) ?_
  refine GB rf rf rf (fun hb=>au rfl) ?_
  refine GB rf rf rf (fun hb=>bS (gK (K:=K) (mo f0) (kR hb)) (aA (bD rfl hb) (aA (bD rfl hb) (aA (bD rfl hb) rfl))) kn) ?_
  refine aj rfl (eu rfl rfl) ?_
  refine SL 3 rf ?_
  refine ei h rf (fun hc h=>?_) fun hc h=>?_
  ·
   refine SC 2 rf ?_
   refine aj rfl (ae rfl (aN.len _ f0)) ?_
   refine ST (C:=K) a0 (aI.id (L:=ah)) aL (mo f0) rf rf rf rf rf fun yn f29=>?_
   refine SL 6 rf ?_
   have h:=sj h; subst h
   exact kE [] rf rf (ra rf (aN.len _ f29) (rt rf rn)) ⟨_,rfl,(mo f29)⟩
  ·
   refine nZ ?_
   obtain ⟨gF,zj,h⟩:=bg h
   obtain ⟨eX,oT,h⟩:=bg h
   refine cJ mixed (.gB [] [(0,[3]),(1,[2]),(2,[38,39]),(3,[3]),(4,[1]),(5,[41,42]),(6,[40,43]),(7,[44])] (.alt 8 [45] (.fin [] []) .no)) (by kernel_rfl) ?_
   refine T0 ?_
   refine NV rf rf (ae rfl (aN.len _ f0)) ?_
   refine NS 1 rf ?_
   refine NC rf rf (fW (K:=K) (mo f0) zj) rf ?_
   refine NV rf rf (ae rfl (aN.len _ f0)) ?_
   refine NS 1 rf ?_
   refine NC rf rf (rA (K:=K) (mo f0) oT) rf ?_
   refine NE 2 rf ?_
   refine XV rf rf (bB rfl) ?_
   refine pb ?_
   refine iA ?_
   refine ei h rf (fun hc h=>?_) fun hc h=>?_
   ·
    refine SC 2 rf ?_
    refine aj rfl (ae rfl (aN.len _ f0)) ?_
    refine ST (C:=K) a0 (aI.id (L:=ah)) aL (mo f0) rf rf rf rf rf fun zW f34=>?_
    refine SL 6 rf ?_
    have h:=sj h; subst h
    exact kE [] rf rf (ra rf (aN.len _ f34) (rt rf rn)) ⟨_,rfl,(mo f34)⟩
   ·
    obtain ⟨gE,j5,h⟩:=bg h
    refine SC 5 rf ?_
    refine aj rfl (ae rfl (aN.len _ f0)) ?_
    refine SL 2 rf ?_
    refine CB (jK (K:=K) (mo f0) j5) rf rf ?_
    rintro Ni jh o8 ⟨rC,rfl,f41⟩
    replace f41:(ah).rep (fun w=>K w∧Hs [.ext jh o8] w) rC gE.1:=f41
    refine SL 2 rf ?_
    refine ST (C:=(fun w=>K w∧Hs [.ext jh o8] w)) gE.1 (aI.id (L:=ah)) aL (mo f41) rf rf rf rf rf fun Ex f44=>?_
    refine SL 4 rf ?_
    have h:=sj h; subst h
    exact kE [0] rf rf (ra rf (aN.len _ f44) (rt rf rn)) ⟨_,rfl,(mo f44)⟩
def gp (n:Nat) (a0:Int) (a1:Int) (a2:aq):Option Bool:=
 cl ((a0 != a1) == true) (dZ n a2 a0 a1) default fun bf =>
 some ((a0 != a1) && bf)
theorem qH {n a0 a1 a2 r K} [bu K] {q1 q2 tO} (f2:(ah).rep K tO a2) (h:gp n a0 a1 a2 = some r):Bw.Fn (α:=Unit) Try.prog 130 [.int .u32 a0,Ptr q1 0,Ptr q2 0] (Av (bE [.cells q1 69 ((LI .u32).enc a1), .cells q2 77 tO]) K) [.cells q1 69 ((LI .u32).enc a1), .cells q2 77 tO] (fun _=>True) (fun _=>(.bool r)) (fun _=>[.cells q1 69 ((LI .u32).enc a1), .cells q2 77 tO]):=by
 unfold gp at h
 refine fG Try.func130 (by kernel_rfl) rfl Try.ntmps130 rfl (fun cx cZ hpre hro=>?_)
 haveI:=jm cZ hpre
 obtain ⟨bf,bZ,_,h⟩:=fV h
 refine SC 8 rf ?_
 refine aj rfl (bH (aI.id (L:=(LI .u32))) rfl) ?_
 refine SL 2 rf ?_
 refine GB rf rf rf (fun hb=>ae rfl (aN.len _ f2)) ?_
 refine GB rf rf rf (fun hb=>au rfl) ?_
 refine GB rf rf rf (fun hb=>bH (aI.id (L:=(LI .u32))) rfl) ?_
 refine GB rf rf rf (fun hb=>bS (gK (K:=K) (mo f2) (bZ hb)) (aA (bD rfl hb) (aA (bD rfl hb) (aA (bD rfl hb) rfl))) kn) ?_
 refine aj rfl (cM rfl rfl) ?_
 refine SL 4 rf ?_
 have h:=sj h; subst h
 exact dG () rfl (.tmp rfl .nil) trivial rfl (ks:=[0,1]) rfl (by decide)
def jf (n:Nat) (a0:aq) (a1:Int):Option (aq × Int):=
 bd (aS n a0.book.iZ a1) fun bf =>
 cn ((!bf)) (
 some (a0,4)) (
 bd (fy n a0 a1) fun cw =>
 bd (eZ n cw.1 cw.2) fun eX =>
 ff (fun (Lz:Int) JO (dP:aq) =>
 lt (Lz:Int) fun lP =>
 bd (cP n dP lP) fun nF =>
 dD (fun Cn (mz:Int) (kz:bt) =>
 cn (decide (mz < 8)) (
 gu (dH mz 8) <|
 bd (gp n (nF.1.Cells (Int.toNat mz)) a1 a0) fun vg =>
 cn (vg) (
 gu (dH mz 8) <|
 lt ({ kz with Cells:=(er kz.Cells (Int.toNat mz) 0) }:bt) fun xb =>
 Cn (wr .i64 (mz + 1)) xb) (
 Cn (wr .i64 (mz + 1)) kz)) (
 bd (dI n dP lP kz) fun vf =>
 JO vf.1)) n 0 nF.1) (fun (dP:aq) =>
 bd (dz n dP a1 0) fun Az =>
 some (Az.1,Az.2)) eX a0)
theorem oz {n a0 a1 r K} [bu K] {cq} (f0:(ah).rep K cq a0) (h:jf n a0 a1 = some r):pG Try.prog 61 [A cq, .int .u32 a1] K (fun J v=>∃u0,v = (.tuple #[A u0, .int .i64 r.2])∧(ah).rep (fun w=>K w∧J w) u0 (r.1)):=by
 unfold jf at h
 refine fo Try.func61 (by kernel_rfl) rfl Try.ntmps61 rfl fun cx _ hro cZ hpre=>?_
 refine SC 2 rf ?_
 refine W1 rf (bA rfl) fun b2=>?_
 refine W1 rf (eF (LI .u32) a1 rfl rfl) fun b3=>?_
 refine W1 rf (bh (hz:=(⟨by kernel_rfl⟩ : bQ Try.prog 77 aE))) fun b4=>?_
 obtain ⟨bf,bZ,h⟩:=bg h
 refine SL 8 rf ?_
 refine aj rfl (aQ rfl (aV.iff.1 ((aR.c0 aX).get f0)) (br _ _)) ?_
 refine aj rfl (bH (aI.id (L:=(LI .u32))) rfl) ?_
 refine CV (bn bZ) rf rf ?_
 refine SL 3 rf ?_
 refine ei h rf (fun hc h=>?_) fun hc h=>?_
 ·
  refine SC 2 rf ?_
  refine aj rfl (ae rfl (aN.len _ f0)) ?_
  refine ST (C:=K) a0 (aI.id (L:=ah)) aL (mo f0) rf rf rf rf rf fun Ez f23=>?_
  refine SL 5 rf ?_
  have h:=sj h; subst h
  exact kE [] rf rf (ra rf (aN.len _ f23) (rt rf rn)) ⟨_,rfl,(mo f23)⟩
 ·
  refine SC 5 rf ?_
  refine W1 rf (bh (hz:=(⟨by kernel_rfl⟩ : bQ Try.prog 109 [.nilFunc]))) fun b6=>?_
  refine W0 (oF (n:=1) (cs':=[.func (.func 130) #[] #[Ptr b3 0,Ptr b2 0]]) rfl rfl rfl rfl (by decide) (tH rfl) rfl) ?_
  refine SL 4 rf ?_
  refine aj rfl (ae rfl (aN.len _ f0)) ?_
  refine W1 rf (bh (hz:=(⟨by kernel_rfl⟩ : bQ Try.prog 77 aE))) fun b7=>?_
  refine ST (C:=K) a0 (aI.id (L:=ah)) aL (mo f0) rf rf rf rf rf fun AJ f26=>?_
  obtain ⟨cw,kR,h⟩:=bg h
  refine SL 5 rf ?_
  refine aj rfl (ae rfl (aN.len _ f0)) ?_
  refine aj rfl (bH (aI.id (L:=(LI .u32))) rfl) ?_
  refine ez rfl (dV (kf (K:=K) (mo f0) kR) rfl kn) (fun ⟨O1,P1,xT⟩ f31=>?_)
  replace f31:(ah).rep K xT cw.2:=f31
  dsimp only [List.cons_append,List.nil_append]
  refine SL 3 rf ?_
  obtain ⟨eX,oT,h⟩:=bg h
  refine jR ?_
  obtain ⟨Dn,G7,Ei,Hp,h⟩:=qn h
  refine lI (K:=K) (α:=aq × (List Value) × (List Nat) × (World→Prop)) (β:=Unit) hro rfl (iQ (K:=K) (mo f31) oT) (fun _=>rfl) rfl (fun A9=>fun (dP,rC,eW,jT)=>(ah).rep (fun w=>K w∧Hs [.ext eW jT] w) rC dP∧ff Dn Ei (eX.drop A9) dP = some r) (fun A9=>fun (dP,rC,eW,jT)=>[.ext eW jT, .cells b7 77 rC, .cells b6 109 [.func (.func 130) #[] #[Ptr b3 0,Ptr b2 0]], .cells b4 77 aE, .cells b3 69 ((LI .u32).enc a1), .cells b2 77 cq]) (fun _ _=>False) (fun _=>[]) ⟨a0,AJ,[],(Hs [])⟩ ⟨(mo f26),h⟩ (ks:=[1,2,0,3,4,5,6,7]) rfl (by decide) ?_ ?_ ?_
  ·
   rintro A9 ⟨dP,rC,eW,jT⟩ lo dd rec c' hk ⟨f43,h⟩ pq sU nL hsi hT
   replace h:ff Dn Ei (eX.drop A9) dP = some r:=h
   replace h:=ql G7 hk h
   haveI:=mI (K:=K) hsi
   dsimp only [pH]
   obtain ⟨lP,zi,h⟩:=cL h
   rw [← zi]
   refine SC 3 rf ?_
   refine jA pq nL ?_
   obtain ⟨nF,vA,h⟩:=bg h
   refine SC 3 rf ?_
   refine aj rfl (ae rfl (aN.len _ f43)) ?_
   refine aj rfl (au rfl) ?_
   refine CB (eE (K:=(fun w=>K w∧Hs [.ext eW jT] w)) (mo f43) vA) rf rf ?_
   rintro Pw oA w7 ⟨sg,rfl,f55⟩
   replace f55:(aF).rep (fun w=>(fun w=>K w∧Hs [.ext eW jT] w) w∧Hs [.ext oA w7] w) sg nF.1:=f55
   refine SL 3 rf ?_
   refine W1 rf (bh (hz:=(⟨by kernel_rfl⟩ : bQ Try.prog 74 dk))) fun b9=>?_
   refine ST (C:=(fun w=>K w∧Hs [.ext eW jT, .ext oA w7] w)) nF.1 (aI.id (L:=aF)) dj (mo f55) rf rf rf rf rf fun ML f58=>?_
   refine SL 7 rf ?_
   refine aj rfl (aQ rfl (aV.iff.1 (fB.get f58)) (br _ _)) ?_
   refine SL 4 rf ?_
   obtain ⟨JA,GQ,h⟩:=lq h
   refine jR ?_
   refine LO (β:=Int × bt × (List Value) × (List Nat) × (World→Prop)) [6,7,8,9,33] [0,1,2,3,4,5,6,7,8,9,10] (fun (FT,mz,kz,wN,kB,qR)=>[(34, .int .i64 mz)]) (fun (FT,mz,kz,wN,kB,qR)=>[.ext kB qR, .cells b9 74 wN, .ext oA w7, .obj dd (.deferred (some [])), .obj lo (.loop { rec with state:=.busy }), .ext eW jT, .cells b7 77 rC, .cells b6 109 [.func (.func 130) #[] #[Ptr b3 0,Ptr b2 0]], .cells b4 77 aE, .cells b3 69 ((LI .u32).enc a1), .cells b2 77 cq]) (fun (FT,mz,kz,wN,kB,qR)=>(aF).rep (fun w=>K w∧Hs [.ext eW jT, .ext oA w7, .ext kB qR] w) wN kz∧dD JA FT mz kz = some r) (n,0,nF.1,ML,[],(Hs [])) ⟨(mo f58),h⟩ rf rf rf ?_
   rintro FT ⟨mz,kz,wN,kB,qR⟩ ⟨f71,h⟩
   replace h:=lp GQ h; obtain ⟨FT,rfl,h⟩:=h
   refine SC 6 rf ?_
   refine ei h rf (fun hc h=>?_) fun hc h=>?_
   ·
    obtain ⟨DP,h⟩:=cm h
    refine SC 7 rf ?_
    refine aj rfl (xX (m:=(Int.toNat mz)) rfl rfl (ay DP).1 (ay DP).2 ((aI.idx (L:=(LI .u32)) (m:=8) (k:=1) (Int.toNat mz) (ay DP).2 rfl).int (rp _ _))) ?_
    obtain ⟨vg,zg,h⟩:=bg h
    refine SL 6 rf ?_
    refine aj rfl (bq rfl rfl) ?_
    refine aj rfl (au rfl) ?_
    refine ez rfl (jC (K:=K) (nE:=[.cells b3 69 ((LI .u32).enc a1), .cells b2 77 cq]) (rest:=[.ext kB qR, .cells b9 74 wN, .ext oA w7, .obj dd (.deferred (some [])), .obj lo (.loop { rec with state:=.busy }), .ext eW jT, .cells b7 77 rC, .cells b6 109 [.func (.func 130) #[] #[Ptr b3 0,Ptr b2 0]], .cells b4 77 aE]) (ks:=[9,10,0,1,2,3,4,5,6,7,8]) (qH (K:=K) (mo f0) zg) rfl rfl rfl rfl (by decide)) (fun _ _=>?_)
    dsimp only [List.cons_append,List.nil_append]
    refine SL 2 rf ?_
    refine ei h rf (fun hc h=>?_) fun hc h=>?_
    ·
     obtain ⟨DO,h⟩:=cm h
     obtain ⟨xb,Dy,h⟩:=cL h
     refine SC 3 rf ?_
     refine aj rfl (bU (m:=(Int.toNat mz)) rfl rfl (ay DO).1 (ay DO).2) ?_
     refine ST (C:=(fun w=>K w∧Hs [.ext eW jT, .ext oA w7, .ext kB qR] w)) xb (fB.comp (aI.idx (L:=(LI .u32)) (m:=8) (k:=1) ((Int.toNat mz)) (ay DO).2 rfl)) (mo f71) fl Dy rf rf rf rf fun Eu f80=>?_
     refine SL 7 rf ?_
     refine bM (R:=[.ext kB qR]) (H':=[.cells b3 69 ((LI .u32).enc a1), .cells b2 77 cq, .cells b9 74 Eu, .ext oA w7, .obj dd (.deferred (some [])), .obj lo (.loop { rec with state:=.busy }), .ext eW jT, .cells b7 77 rC, .cells b6 109 [.func (.func 130) #[] #[Ptr b3 0,Ptr b2 0]], .cells b4 77 aE]) (ks:=[2,0,1,3,4,5,6,7,8,9,10]) rfl (by decide) ?_
     exact LN [0,3,4,5,6,7,8,9,10,1,2] (wr .i64 (mz + 1),xb,Eu,(bE [.ext kB qR]),(Hs [.ext kB qR])) ⟨(mo f80),h⟩ rf rf rf
    ·
     refine SC 7 rf ?_
     refine bM (R:=[.ext kB qR]) (H':=[.cells b3 69 ((LI .u32).enc a1), .cells b2 77 cq, .cells b9 74 wN, .ext oA w7, .obj dd (.deferred (some [])), .obj lo (.loop { rec with state:=.busy }), .ext eW jT, .cells b7 77 rC, .cells b6 109 [.func (.func 130) #[] #[Ptr b3 0,Ptr b2 0]], .cells b4 77 aE]) (ks:=[2,0,1,3,4,5,6,7,8,9,10]) rfl (by decide) ?_
     exact LN [0,3,4,5,6,7,8,9,10,1,2] (wr .i64 (mz + 1),kz,wN,(bE [.ext kB qR]),(Hs [.ext kB qR])) ⟨(mo f71),h⟩ rf rf rf
   ·
    obtain ⟨vf,Dx,h⟩:=bg h
    refine SC 6 rf ?_
    refine aj rfl (ae rfl (aN.len _ f43)) ?_
    refine aj rfl (au rfl) ?_
    refine aj rfl (ae rfl (aN.len _ f71)) ?_
    refine CB (kL (K:=(fun w=>K w∧Hs [.ext eW jT, .ext oA w7, .ext kB qR] w)) (mo f43) (mo f71) Dx) rf rf ?_
    rintro Nc qI Ar ⟨LM,rfl,f86⟩
    replace f86:(ah).rep (fun w=>(fun w=>K w∧Hs [.ext eW jT, .ext oA w7, .ext kB qR] w) w∧Hs [.ext qI Ar] w) LM vf.1:=f86
    refine SL 3 rf ?_
    refine ST (C:=(fun w=>K w∧Hs [.ext eW jT, .ext oA w7, .ext kB qR, .ext qI Ar] w)) vf.1 (aI.id (L:=ah)) (mo f43) (mo f86) rf rf rf rf rf fun Et f89=>?_
    refine SL 2 rf ?_
    refine bM (R:=[.ext qI Ar, .ext kB qR, .ext oA w7, .ext eW jT]) (H':=[.cells b9 74 wN, .obj dd (.deferred (some [])), .obj lo (.loop { rec with state:=.busy }), .cells b7 77 Et, .cells b6 109 [.func (.func 130) #[] #[Ptr b3 0,Ptr b2 0]], .cells b4 77 aE, .cells b3 69 ((LI .u32).enc a1), .cells b2 77 cq]) (ks:=[0,1,3,6,2,4,5,7,8,9,10,11]) rfl (by decide) ?_
    exact iY pq sU hT ⟨vf.1,Et,(bE [.ext qI Ar, .ext kB qR, .ext oA w7, .ext eW jT]),(Hs [.ext qI Ar, .ext kB qR, .ext oA w7, .ext eW jT])⟩ ⟨(mo f89),h⟩ (ks:=[2,3,0,4,5,6,7,8]) rfl (by decide)
  ·
   rintro LG ⟨dP,rC,eW,jT⟩ ⟨f43,h⟩
   replace h:ff Dn Ei (eX.drop eX.length) dP = some r:=h
   replace h:=qm Hp rfl h
   dsimp only [List.cons_append,List.nil_append]
   obtain ⟨Az,JZ,h⟩:=bg h
   refine SX 4 rf ?_
   refine aj rfl (ae rfl (aN.len _ f43)) ?_
   refine aj rfl (bH (aI.id (L:=(LI .u32))) rfl) ?_
   refine CB (jK (K:=(fun w=>K w∧Hs [.ext eW jT] w)) (mo f43) JZ) rf rf ?_
   rintro Pq vY EX ⟨I2,rfl,f96⟩
   replace f96:(ah).rep (fun w=>(fun w=>K w∧Hs [.ext eW jT] w) w∧Hs [.ext vY EX] w) I2 Az.1:=f96
   refine SL 2 rf ?_
   refine ST (C:=(fun w=>K w∧Hs [.ext eW jT, .ext vY EX] w)) Az.1 (aI.id (L:=ah)) aL (mo f96) rf rf rf rf rf fun LK f99=>?_
   refine SL 4 rf ?_
   have h:=sj h; subst h
   refine bM (R:=[.ext vY EX, .ext eW jT]) (H':=[.obj LG (.deferred (some [])), .cells b4 77 LK]) (ks:=[0,4,1,7]) rfl (by decide) ?_
   have Jq:(ah).rep (fun w=>K w∧(Hs [.ext (bE [.ext vY EX, .ext eW jT]) (Hs [.ext vY EX, .ext eW jT])]) w) LK Az.1:=aN.mono _ nh f99
   exact jq (.tuple #[A LK, .int .i64 Az.2],bE [.ext vY EX, .ext eW jT],Hs [.ext vY EX, .ext eW jT]) rfl (.agg rfl inferInstance inferInstance (aN.len _ f99) (.tmp rfl .nil)) ⟨_,rfl,Jq⟩ rfl (ks:=[0]) rfl (by decide)
  ·
   intro dd j i hf; exact hf.elim
def iH (n:Nat) (a0:(List Int)) (a1:(List Int)):Option Bool:=
 cn (((a0.length:Int) != (a1.length:Int))) (
 some false) (
 dF (fun vx (ck:Int) =>
 cn (decide (ck < (a0.length:Int))) (
 gu (dH ck a0.length) <|
 gu (dH ck a1.length) <|
 cn (((wr .i64 (a0.getD (Int.toNat ck) default)) != (a1.getD (Int.toNat ck) default))) (
 some false) (
 vx (wr .i64 (ck + 1)))) (
 some true)) n 0)
theorem kN {n a0 a1 r K} [bu K] {v0} (f0:Fz K v0 (LI .u32) a0) {v1:Value} (f1:Fz K v1 (LI .i64) a1) (h:iH n a0 a1 = some r):qU Try.prog 49 [v0,v1] K (.bool r):=by
 unfold iH at h
 refine fo Try.func49 (by kernel_rfl) rfl Try.ntmps49 rfl fun cx _ hro cZ hpre=>?_
 refine SC 9 rf ?_
 refine aj rfl (cS f0 rfl) ?_
 refine aj rfl (au rfl) ?_
 refine aj rfl (cS f1 rfl) ?_
 refine SL 3 rf ?_
 refine ei h rf (fun hc h=>?_) fun hc h=>?_
 ·
  refine SC 7 rf ?_
  have h:=sj h; subst h
  exact RV rf (rt rf rn) rf
 ·
  refine SC 9 rf ?_
  obtain ⟨qj,mN,h⟩:=kJ h
  refine LO (β:=Int) [0,1] [] (fun (mH,ck)=>[(5, .int .i64 ck)]) (fun (mH,ck)=>[]) (fun (mH,ck)=>dF qj mH ck = some r) (n,0) h rf rf rf ?_
  rintro mH ck h
  replace h:=kI mN h; obtain ⟨mH,rfl,h⟩:=h
  refine SC 5 rf ?_
  refine aj rfl (cS f0 rfl) ?_
  refine SL 3 rf ?_
  refine ei h rf (fun hc h=>?_) fun hc h=>?_
  ·
   refine SC 5 rf ?_
   obtain ⟨mj,h⟩:=cm h
   obtain ⟨nM,h⟩:=cm h
   refine cJ mixed (.fin [] [(0,[0]),(1,[5]),(2,[17,18]),(3,[19]),(4,[20]),(5,[1]),(6,[5]),(7,[22,23]),(8,[24]),(9,[21,25])]) (by kernel_rfl) ?_
   refine F0 ?_
   refine NS 2 rf ?_
   refine NV rf rf (dg (m:=(Int.toNat ck)) f0 rfl rfl rfl (ay mj).1 (ay mj).2) ?_
   refine NV rf rf (dc f0 (aI.idx (L:=(LI .u32)) (m:=(a0.length)) (k:=1) ((Int.toNat ck)) (ay mj).2 rfl) rfl) ?_
   refine NS 3 rf ?_
   refine NV rf rf (dg (m:=(Int.toNat ck)) f1 rfl rfl rfl (ay nM).1 (ay nM).2) ?_
   refine NV rf rf (dc f1 (aI.idx (L:=(LI .i64)) (m:=(a1.length)) (k:=1) ((Int.toNat ck)) (ay nM).2 rfl) rfl) ?_
   refine NE 1 rf ?_
   refine iA ?_
   refine ei h rf (fun hc h=>?_) fun hc h=>?_
   ·
    refine SC 11 rf ?_
    have h:=sj h; subst h
    exact RV rf (rt rf rn) rf
   ·
    refine SC 8 rf ?_
    exact LN [] (wr .i64 (ck + 1)) h rf rf rf
  ·
   refine SC 11 rf ?_
   have h:=sj h; subst h
   exact RV rf (rt rf rn) rf
def ju (n:Nat)  : Option Bool:=
 bd (gn n eS 0 1) fun bf =>
 bd (gn n bf.1 1 1) fun bJ =>
 bd (gn n bJ.1 2 1) fun m8 =>
 bd (gn n m8.1 1 1) fun lP =>
 bd (gm n lP.1 1) fun yc =>
 bd (g9 n lP.1 1 3) fun kY =>
 bd (jf n lP.1 2) fun oJ =>
 bd (iH n yc ([1,2,3,4]:List Int)) fun tK =>
 cl (tK == true) (dw n lP.1 3) default fun ve =>
 cl ((tK && (ve == 3)) == true) (gh n lP.1 3) default fun m6 =>
 cl (((tK && (ve == 3)) && (m6 == 1)) == true) (dZ n lP.1 1 3) default fun yq =>
 cl ((((((tK && (ve == 3)) && (m6 == 1)) && yq) && (kY.2 == 12)) && (oJ.2 == 0)) == true) (gh n oJ.1 3) default fun AA =>
 cl (((((((tK && (ve == 3)) && (m6 == 1)) && yq) && (kY.2 == 12)) && (oJ.2 == 0)) && (AA == 2)) == true) (gV n oJ.1 1) default fun va =>
 some (((((((tK && (ve == 3)) && (m6 == 1)) && yq) && (kY.2 == 12)) && (oJ.2 == 0)) && (AA == 2)) && ((va.length:Int) == 1))
theorem nx {n}  {r:Bool}  (h:ju n  = some r):w9 Try.prog 46 [] (.bool r):=by
 unfold ju at h
 refine fG Try.func46 (by kernel_rfl) rfl Try.ntmps46 rfl (fun cx cZ hpre hro=>?_)
 refine SC 7 rf ?_
 refine W1 rf (bh (hz:=(⟨by kernel_rfl⟩ : bQ Try.prog 77 aE))) fun b1=>?_
 obtain ⟨bf,bZ,h⟩:=bg h
 refine SL 4 rf ?_
 refine aj rfl (ae rfl (aN.len _ (show (ah).rep (Hs []) aE eS from aL))) ?_
 refine CB (iW (K:=(Hs [])) (mo (show (ah).rep (Hs []) aE eS from aL)) bZ) rf rf ?_
 rintro yu ew jr ⟨BL,rfl,f26⟩
 replace f26:(ah).rep (fun w=>(Hs []) w∧Hs [.ext ew jr] w) BL bf.1:=f26
 refine SL 4 rf ?_
 refine ST (C:=(Hs [.ext ew jr])) bf.1 (aI.id (L:=ah)) aL (mo f26) rf rf rf rf rf fun yn f29=>?_
 obtain ⟨bJ,sR,h⟩:=bg h
 refine SL 4 rf ?_
 refine aj rfl (ae rfl (aN.len _ f29)) ?_
 refine CB (iW (K:=(Hs [.ext ew jr])) (mo f29) sR) rf rf ?_
 rintro PC cG fZ ⟨wP,rfl,f35⟩
 replace f35:(ah).rep (fun w=>(Hs [.ext ew jr]) w∧Hs [.ext cG fZ] w) wP bJ.1:=f35
 refine SL 4 rf ?_
 refine ST (C:=(Hs [.ext ew jr, .ext cG fZ])) bJ.1 (aI.id (L:=ah)) (mo f29) (mo f35) rf rf rf rf rf fun Fe f38=>?_
 obtain ⟨m8,uv,h⟩:=bg h
 refine SL 4 rf ?_
 refine aj rfl (ae rfl (aN.len _ f38)) ?_
 refine CB (iW (K:=(Hs [.ext ew jr, .ext cG fZ])) (mo f38) uv) rf rf ?_
 rintro Md gy mc ⟨wO,rfl,f44⟩
 replace f44:(ah).rep (fun w=>(Hs [.ext ew jr, .ext cG fZ]) w∧Hs [.ext gy mc] w) wO m8.1:=f44
 refine SL 4 rf ?_
 refine ST (C:=(Hs [.ext ew jr, .ext cG fZ, .ext gy mc])) m8.1 (aI.id (L:=ah)) (mo f38) (mo f44) rf rf rf rf rf fun ym f47=>?_
 obtain ⟨lP,zi,h⟩:=bg h
 refine SL 4 rf ?_
 refine aj rfl (ae rfl (aN.len _ f47)) ?_
 refine CB (iW (K:=(Hs [.ext ew jr, .ext cG fZ, .ext gy mc])) (mo f47) zi) rf rf ?_
 rintro Px mR u6 ⟨H6,rfl,f53⟩
 replace f53:(ah).rep (fun w=>(Hs [.ext ew jr, .ext cG fZ, .ext gy mc]) w∧Hs [.ext mR u6] w) H6 lP.1:=f53
 refine SL 4 rf ?_
 refine ST (C:=(Hs [.ext ew jr, .ext cG fZ, .ext gy mc, .ext mR u6])) lP.1 (aI.id (L:=ah)) (mo f47) (mo f53) rf rf rf rf rf fun so f56=>?_
 obtain ⟨yc,xE,h⟩:=bg h
 refine SL 4 rf ?_
 refine aj rfl (ae rfl (aN.len _ f56)) ?_
 refine ez rfl (gY (ki (K:=(Hs [.ext ew jr, .ext cG fZ, .ext gy mc, .ext mR u6])) (mo f56) xE) rfl) (fun ⟨Ng,Ij,M5⟩ KN=>?_)
 have f62:Fz (fun w=>(Hs [.ext ew jr, .ext cG fZ, .ext gy mc, .ext mR u6]) w∧Hs [.ext Ij M5] w) Ng (LI .u32) yc:=KN
 obtain ⟨kY,J9,h⟩:=bg h
 refine SL 5 rf ?_
 refine aj rfl (ae rfl (aN.len _ f56)) ?_
 refine CB (mQ (K:=(Hs [.ext ew jr, .ext cG fZ, .ext gy mc, .ext mR u6])) (mo f56) J9) rf rf ?_
 rintro Pu kB qR ⟨wN,rfl,f69⟩
 replace f69:(ah).rep (fun w=>(Hs [.ext ew jr, .ext cG fZ, .ext gy mc, .ext mR u6]) w∧Hs [.ext kB qR] w) wN kY.1:=f69
 refine SL 3 rf ?_
 refine W1 rf (bh (hz:=(⟨by kernel_rfl⟩ : bQ Try.prog 77 aE))) fun b3=>?_
 refine ST (C:=(Hs [.ext ew jr, .ext cG fZ, .ext gy mc, .ext mR u6, .ext kB qR])) kY.1 (aI.id (L:=ah)) aL (mo f69) rf rf rf rf rf fun LQ f72=>?_
 obtain ⟨oJ,xD,h⟩:=bg h
 refine SL 5 rf ?_
 refine aj rfl (ae rfl (aN.len _ f56)) ?_
 refine CB (oz (K:=(Hs [.ext ew jr, .ext cG fZ, .ext gy mc, .ext mR u6])) (mo f56) xD) rf rf ?_
 rintro Ps zZ ID ⟨Eu,rfl,f78⟩
 replace f78:(ah).rep (fun w=>(Hs [.ext ew jr, .ext cG fZ, .ext gy mc, .ext mR u6]) w∧Hs [.ext zZ ID] w) Eu oJ.1:=f78
 refine SL 3 rf ?_
 refine W1 rf (bh (hz:=(⟨by kernel_rfl⟩ : bQ Try.prog 77 aE))) fun b5=>?_
 refine ST (C:=(Hs [.ext ew jr, .ext cG fZ, .ext gy mc, .ext mR u6, .ext zZ ID])) oJ.1 (aI.id (L:=ah)) aL (mo f78) rf rf rf rf rf fun MJ f81=>?_
 obtain ⟨tK,Dw,h⟩:=bg h
 obtain ⟨ve,Dv,_,h⟩:=fV h
 obtain ⟨m6,xC,_,h⟩:=fV h
 obtain ⟨yq,Du,_,h⟩:=fV h
 obtain ⟨AA,Dt,_,h⟩:=fV h
 obtain ⟨va,zf,_,h⟩:=fV h
 refine SL 6 rf ?_
 refine ez rfl (ER (cs:=eL (LI .i64) ([1,2,3,4]:List Int)) rfl rfl (by decide) (by decide) (by decide)) (fun MR _=>?_)
 refine CV (kN (K:=(Hs [.cells MR 3 (eL (LI .i64) ([1,2,3,4]:List Int)), .ext ew jr, .ext cG fZ, .ext gy mc, .ext mR u6, .ext Ij M5])) (f62.mono nh) ((Fz.cells (b:=MR) (T:=3) (m:=4) (L:=(LI .i64)) (xs:=([1,2,3,4]:List Int)) rfl).mono nh) Dw) rf rf ?_
 refine aj rfl (au rfl) ?_
 refine GB rf rf rf (fun hb=>ae rfl (aN.len _ f56)) ?_
 refine GB rf rf rf (fun hb=>bS (fW (K:=(Hs [.ext ew jr, .ext cG fZ, .ext gy mc, .ext mR u6])) (mo f56) (Dv hb)) (aA (bD rfl hb) (aA rfl rfl)) kn) ?_
 refine GB rf rf rf (fun hb=>fg (bD rfl hb) rfl) ?_
 refine aj rfl (cM rfl rfl) ?_
 refine aj rfl (au rfl) ?_
 refine GB rf rf rf (fun hb=>ae rfl (aN.len _ f56)) ?_
 refine GB rf rf rf (fun hb=>bS (jo (K:=(Hs [.ext ew jr, .ext cG fZ, .ext gy mc, .ext mR u6])) (mo f56) (xC hb)) (aA (bD rfl hb) (aA rfl rfl)) kn) ?_
 refine GB rf rf rf (fun hb=>fg (bD rfl hb) rfl) ?_
 refine aj rfl (cM rfl rfl) ?_
 refine aj rfl (au rfl) ?_
 refine GB rf rf rf (fun hb=>ae rfl (aN.len _ f56)) ?_
 refine GB rf rf rf (fun hb=>bS (gK (K:=(Hs [.ext ew jr, .ext cG fZ, .ext gy mc, .ext mR u6])) (mo f56) (Du hb)) (aA (bD rfl hb) (aA rfl (aA rfl rfl))) kn) ?_
 refine aj rfl (cM rfl rfl) ?_
 refine aj rfl (au rfl) ?_
 refine GB rf rf rf (fun hb=>au rfl) ?_
 refine GB rf rf rf (fun hb=>fg (bD rfl hb) rfl) ?_
 refine aj rfl (cM rfl rfl) ?_
 refine aj rfl (au rfl) ?_
 refine GB rf rf rf (fun hb=>au rfl) ?_
 refine GB rf rf rf (fun hb=>fg (bD rfl hb) rfl) ?_
 refine aj rfl (cM rfl rfl) ?_
 refine aj rfl (au rfl) ?_
 refine GB rf rf rf (fun hb=>ae rfl (aN.len _ f81)) ?_
 refine GB rf rf rf (fun hb=>bS (jo (K:=(Hs [.ext ew jr, .ext cG fZ, .ext gy mc, .ext mR u6, .ext zZ ID])) (mo f81) (Dt hb)) (aA (bD rfl hb) (aA rfl rfl)) kn) ?_
 refine GB rf rf rf (fun hb=>fg (bD rfl hb) rfl) ?_
 refine aj rfl (cM rfl rfl) ?_
 refine aj rfl (au rfl) ?_
 refine GB rf rf rf (fun hb=>ae rfl (aN.len _ f81)) ?_
 refine xV (cF rfl rfl) rfl (fun hb=>Fn.Ci (by decide) (kU (K:=(Hs [.ext ew jr, .ext cG fZ, .ext gy mc, .ext mR u6, .ext zZ ID])) (mo f81) (zf hb))) (fun hb=>(aA (bD rfl hb) (aA rfl rfl))) (fun hb=>inferInstance) (fun ⟨Nb,L2,Pe⟩ KK=>?_)
 have f92:(((((((tK && (ve == 3)) && (m6 == 1)) && yq) && (kY.2 == 12)) && (oJ.2 == 0)) && (AA == 2)) == true) = true→Fz (fun w=>(Hs [.ext ew jr, .ext cG fZ, .ext gy mc, .ext mR u6, .ext zZ ID]) w∧Hs [.ext L2 Pe] w) Nb (LI .u32) va:=KK
 refine GB rf rf rf (fun hb=>cS (f92 hb) (bD rfl hb)) ?_
 refine GB rf rf rf (fun hb=>fg (bD rfl hb) rfl) ?_
 refine aj rfl (cM rfl rfl) ?_
 refine SL 4 rf ?_
 have h:=sj h; subst h
 exact RV rf (rt rf rn) rf
def gl (n:Nat) (a0:ag) (a1:Int):Option Int:=
 gu (!((decide (1 ≤ a1) && decide (a1 ≤ 32)) == true) || dH (wr .u32 (a1 - 1)) 32) <|
 cn (((decide (1 ≤ a1) && decide (a1 ≤ 32)) && ((a0.B.Is (Int.toNat (wr .u32 (a1 - 1)))) == 1))) (
 bd (eP n a0.B (wr .i64 (wr .u32 (a1 - 1)))) fun ck =>
 some ck) (
 some (wr .i64 a1))
theorem iV {n a0 a1 r K} [bu K] {cq} (f0:(ak).rep K cq a0) (h:gl n a0 a1 = some r):qU Try.prog 48 [A cq, .int .u32 a1] K (.int .i64 r):=by
 unfold gl at h
 refine fo Try.func48 (by kernel_rfl) rfl Try.ntmps48 rfl fun cx _ hro cZ hpre=>?_
 refine SC 2 rf ?_
 refine W1 rf (bA rfl) fun b2=>?_
 obtain ⟨qA,h⟩:=cm h
 refine SL 9 rf ?_
 refine GB rf rf rf (fun hb=>au rfl) ?_
 refine GB rf rf rf (fun hb=>n3 (bD rfl hb) rfl) ?_
 refine aj rfl (cM rfl rfl) ?_
 refine aj rfl (au rfl) ?_
 refine GB rf rf rf (fun hb=>au rfl) ?_
 refine GB rf rf rf (fun hb=>qL (bD rfl hb) rfl rfl) ?_
 refine GB rf rf rf (fun hb=>aM rfl) ?_
 refine GB rf rf rf (fun hb=>aM (bD rfl hb)) ?_
 refine GB rf rf rf (fun hb=>bU (m:=(Int.toNat (wr .u32 (a1 - 1)))) (bD rfl hb) (bD rfl hb) (ay (gQ qA hb)).1 (ay (gQ qA hb)).2) ?_
 refine GB rf rf rf (fun hb=>bq (bD rfl hb) (((bL.c0 eJ).comp (aI.idx (L:=(LI .i64)) (m:=32) (k:=1) ((Int.toNat (wr .u32 (a1 - 1)))) (ay (gQ qA hb)).2 rfl)).int f0)) ?_
 refine GB rf rf rf (fun hb=>fg (bD rfl hb) rfl) ?_
 refine aj rfl (cM rfl rfl) ?_
 refine SL 2 rf ?_
 refine ei h rf (fun hc h=>?_) fun hc h=>?_
 ·
  obtain ⟨ck,ic,h⟩:=bg h
  refine SC 3 rf ?_
  refine aj rfl (aQ rfl (aV.iff.1 (bL.get f0)) (br _ _)) ?_
  refine SL 3 rf ?_
  refine CV (iz ic) rf rf ?_
  refine SL 5 rf ?_
  have h:=sj h; subst h
  exact RV rf (rt rf rn) rf
 ·
  refine SC 10 rf ?_
  have h:=sj h; subst h
  exact RV rf (rt rf rn) rf
structure iI where
 Do:Int
 A:Int
 B:Int
 C:Int
 bP:Int
abbrev ct:aN iI:=aN.via (LP (LI .u8) (LP (LI .u32) (LP (LI .u32) (LP (LI .u32) (LI .i64))))) (fun x=>(x.Do,x.A,x.B,x.C,x.bP))
abbrev uU:iI:=⟨0,0,0,0,0⟩
instance:Inhabited iI:=⟨uU⟩
theorem qQ:aI ct (LI .u8) 0 (fun x=>x.Do) (fun x v=>{ x with Do:=v }):=(aI.fst aI.id).via _ _ _ 0 rfl (fun _=>rfl) (fun _ _=>rfl)
theorem rH:aI ct (LI .u32) 1 (fun x=>x.A) (fun x v=>{ x with A:=v }):=(aI.snd (aI.fst aI.id)).via _ _ _ 1 rfl (fun _=>rfl) (fun _ _=>rfl)
theorem kW:aI ct (LI .u32) 2 (fun x=>x.B) (fun x v=>{ x with B:=v }):=(aI.snd (aI.snd (aI.fst aI.id))).via _ _ _ 2 rfl (fun _=>rfl) (fun _ _=>rfl)
theorem rG:aI ct (LI .u32) 3 (fun x=>x.C) (fun x v=>{ x with C:=v }):=(aI.snd (aI.snd (aI.snd (aI.fst aI.id)))).via _ _ _ 3 rfl (fun _=>rfl) (fun _ _=>rfl)
theorem kP:aI ct (LI .i64) 4 (fun x=>x.bP) (fun x v=>{ x with bP:=v }):=(aI.snd (aI.snd (aI.snd (aI.snd aI.id)))).via _ _ _ 4 rfl (fun _=>rfl) (fun _ _=>rfl)
def j2 (n:Nat) (a0:aq) (a1:ag) (a2:iI):Option (aq × ag × Bool):=
 bd (gl n a1 a2.A) fun bf =>
 bd (gl n a1 a2.B) fun ck =>
 bd (gl n a1 a2.C) fun jE =>
 lt (fun (dx:Int) (cw:Int) (ef:Bool) (eo:ag) (eX:aq) =>
 some (eX,eo,(ef && (dx == cw)))) fun Bg =>
 cn ((a2.Do == 0)) (
 bd (jw n a0 (wr .u32 bf)) fun gE =>
 bd (jX n a1 bf) fun vh =>
 bd (iH n gE.2.1 vh.2.1) fun yt =>
 Bg gE.2.2 vh.2.2 yt vh.1 gE.1) (
 cn ((a2.Do == 1)) (
 bd (jf n a0 (wr .u32 bf)) fun sB =>
 bd (k9 n a1 bf) fun CT =>
 Bg sB.2 CT.2 true CT.1 sB.1) (
 cn ((a2.Do == 2)) (
 bd (g9 n a0 (wr .u32 bf) (wr .u32 ck)) fun vf =>
 bd (jt n a1 bf ck) fun CS =>
 Bg vf.2 CS.2 true CS.1 vf.1) (
 cn ((a2.Do == 3)) (
 bd (cP n a0 (wr .u32 bf)) fun Ay =>
 gu (dH (Int.tmod a2.B 8) 8) <|
 lt ({ Ay.1 with Cells:=(er Ay.1.Cells (Int.toNat (Int.tmod a2.B 8)) (wr .u32 jE)) }:bt) fun CX =>
 bd (dK n a1 bf) fun q7 =>
 gu (dH (Int.tmod a2.B 8) 8) <|
 lt ({ q7.1 with Cells:=(er q7.1.Cells (Int.toNat (Int.tmod a2.B 8)) jE) }:bI) fun CW =>
 cn (((Ay.2 == 0) && (q7.2 == 0))) (
 bd (dI n a0 (wr .u32 bf) CX) fun vj =>
 bd (dY n a1 bf CW) fun vi =>
 Bg vj.2 vi.2 (Ay.2 == q7.2) vi.1 vj.1) (
 Bg 0 0 (Ay.2 == q7.2) a1 a0)) (
 bd (gn n a0 (wr .u32 bf) a2.bP) fun qZ =>
 bd (k8 n a1 bf a2.bP) fun qY =>
 Bg qZ.2.2 qY.2.2 ((wr .i64 qZ.2.1) == qY.2.1) qY.1 qZ.1))))
theorem tc {n a0 a1 a2 r K} [bu K] {cq} (f0:(ah).rep K cq a0) {kX:List Value} (f1:(ak).rep K kX a1) (h:j2 n a0 a1 a2 = some r):pG Try.prog 47 [A cq,A kX, .agg (ct.enc a2).toArray] K (fun J v=>∃u0 u1,v = (.tuple #[A u0,A u1, .bool r.2.2])∧(ah).rep (fun w=>K w∧J w) u0 (r.1)∧(ak).rep (fun w=>K w∧J w) u1 (r.2.1)):=by
 unfold j2 at h
 refine fo Try.func47 (by kernel_rfl) rfl Try.ntmps47 rfl fun cx _ hro cZ hpre=>?_
 refine SC 2 rf ?_
 refine W1 rf (bA rfl) fun b3=>?_
 refine W1 rf (bA rfl) fun b4=>?_
 refine W1 rf (eF ct a2 rfl rfl) fun b5=>?_
 refine W1 rf (bh (hz:=(⟨by kernel_rfl⟩ : bQ Try.prog 77 aE))) fun b6=>?_
 refine W1 rf (bh (hz:=(⟨by kernel_rfl⟩ : bQ Try.prog 105 aJ))) fun b7=>?_
 refine SL 4 rf ?_
 obtain ⟨bf,bZ,h⟩:=bg h
 obtain ⟨ck,ic,h⟩:=bg h
 obtain ⟨jE,j6,h⟩:=bg h
 refine cJ mixed (.gB [] [(0,[4]),(1,[5]),(2,[34]),(3,[33,35]),(4,[4]),(5,[5]),(6,[38]),(7,[37,39]),(8,[4]),(9,[5]),(10,[42]),(11,[41,43])] (.alt 12 [36] (.gB [] [] (.alt 13 [40] (.gB [] [] (.alt 14 [44] (.fin [] []) .no)) .no)) .no)) (by kernel_rfl) ?_
 refine T0 ?_
 refine NV rf rf (ae rfl (aN.len _ f1)) ?_
 refine NS 1 rf ?_
 refine NV rf rf (bH rH rfl) ?_
 refine NC rf rf (iV (K:=K) (mo f1) bZ) rf ?_
 refine NV rf rf (ae rfl (aN.len _ f1)) ?_
 refine NS 1 rf ?_
 refine NV rf rf (bH kW rfl) ?_
 refine NC rf rf (iV (K:=K) (mo f1) ic) rf ?_
 refine NV rf rf (ae rfl (aN.len _ f1)) ?_
 refine NS 1 rf ?_
 refine NV rf rf (bH rG rfl) ?_
 refine NC rf rf (iV (K:=K) (mo f1) j6) rf ?_
 refine aW ?_
 refine XV rf rf (bB rfl) ?_
 refine B4 ?_
 refine XV rf rf (bB rfl) ?_
 refine B4 ?_
 refine XV rf rf (bB rfl) ?_
 refine pb ?_
 refine SX 22 rf ?_
 obtain ⟨Bg,K1,h⟩:=cL h
 refine CU (α:=Int × Int × Bool × ag × aq × (List Value) × (List Value) × (List Nat) × (World→Prop)) [3,4,6,7] rf (fun (dx,cw,ef,eo,eX,xT,zW,uP,CO)=>[(14, .int .i64 dx),(15, .int .i64 cw),(16, .bool ef)]) (fun (dx,cw,ef,eo,eX,xT,zW,uP,CO)=>[.ext uP CO, .cells b7 105 aJ, .cells b6 77 aE, .cells b5 114 (ct.enc a2), .cells b4 105 xT, .cells b3 77 zW]) (fun (dx,cw,ef,eo,eX,xT,zW,uP,CO)=>(ak).rep (fun w=>K w∧Hs [.ext uP CO] w) xT eo∧(ah).rep (fun w=>K w∧Hs [.ext uP CO] w) zW eX∧Bg dx cw ef eo eX = some r) ?_ ?_
 ·
  refine SC 3 rf ?_
  refine aj rfl (bH qQ rfl) ?_
  refine SL 9 rf ?_
  refine ei h rf (fun hc h=>?_) fun hc h=>?_
  ·
   obtain ⟨gE,j5,h⟩:=bg h
   refine SC 2 rf ?_
   refine aj rfl (ae rfl (aN.len _ f0)) ?_
   refine aj rfl (au rfl) ?_
   refine CB (rB (K:=K) (mo f0) j5) rf rf ?_
   rintro Ni jh o8 ⟨rC,Ji,rfl,f41,f43⟩
   replace f41:(ah).rep (fun w=>K w∧Hs [.ext jh o8] w) rC gE.1:=f41
   replace f43:Fz (fun w=>K w∧Hs [.ext jh o8] w) Ji (LI .u32) gE.2.1:=f43
   refine SL 4 rf ?_
   refine W1 rf (bh (hz:=(⟨by kernel_rfl⟩ : bQ Try.prog 77 aE))) fun O4=>?_
   refine ST (C:=(fun w=>K w∧Hs [.ext jh o8] w)) gE.1 (aI.id (L:=ah)) aL (mo f41) rf rf rf rf rf fun wO f46=>?_
   obtain ⟨vh,Ki,h⟩:=bg h
   refine SL 6 rf ?_
   refine aj rfl (ae rfl (aN.len _ f1)) ?_
   refine aj rfl (au rfl) ?_
   refine CB (ta (K:=K) (mo f1) Ki) rf rf ?_
   rintro Py uM CL ⟨LR,Nt,rfl,f52,f54⟩
   replace f52:(ak).rep (fun w=>K w∧Hs [.ext uM CL] w) LR vh.1:=f52
   replace f54:Fz (fun w=>K w∧Hs [.ext uM CL] w) Nt (LI .i64) vh.2.1:=f54
   refine SL 4 rf ?_
   refine W1 rf (bh (hz:=(⟨by kernel_rfl⟩ : bQ Try.prog 105 aJ))) fun MT=>?_
   refine ST (C:=(fun w=>K w∧Hs [.ext uM CL] w)) vh.1 (aI.id (L:=ak)) aT (mo f52) rf rf rf rf rf fun sg f57=>?_
   refine SL 5 rf ?_
   refine cJ mixed (.gB [] [(0,[17]),(1,[20]),(2,[19]),(3,[22])] (.alt 4 [3,93] (.gB [(1,[20]),(2,[19]),(3,[22])] [] (.alt 5 [4,94] (.gB [(2,[19]),(3,[22])] [] (.alt 6 [95] (.gB [(3,[22])] [] (.alt 7 [96] (.fin [] []) .no)) .no)) .no)) .no)) (by kernel_rfl) ?_
   refine T0 ?_
   refine NV rf rf (ae rfl (aN.len _ f46)) ?_
   refine NV rf rf (ae rfl (aN.len _ f57)) ?_
   refine NE 2 rf ?_
   obtain ⟨Ev,D9,f59⟩:=wu (C:=(fun w=>K w∧Hs [.ext jh o8] w)) (x':=gE.1) (aI.id (L:=ah)) (mo f0) (mo f46) rf
   refine X0 rf (wW D9 rf rf rf rf) ?_
   refine dQ ?_ ?_
   ·
    refine RO rf rf (ae rfl (aN.len _ f57)) rf ?_
    exact RE 2 rf rf
   refine aW ?_
   obtain ⟨xS,D8,f61⟩:=wu (C:=(fun w=>K w∧Hs [.ext uM CL] w)) (x':=vh.1) (aI.id (L:=ak)) (mo f1) (mo f57) rf
   refine X0 rf (wW D8 rf rf rf rf) ?_
   refine dQ ?_ ?_
   ·
    exact RE 2 rf rf
   refine aW ?_
   refine XV rf rf (bB rfl) ?_
   refine dQ ?_ ?_
   ·
    exact RE 1 rf rf
   refine aW ?_
   refine XV rf rf (bB rfl) ?_
   refine pb ?_
   obtain ⟨yt,zh,h⟩:=bg h
   refine SX 4 rf ?_
   refine CV (kN (K:=(fun w=>K w∧Hs [.ext jh o8, .ext uM CL] w)) (f43.mono nh) (f54.mono nh) zh) rf rf ?_
   refine SL 3 rf ?_
   refine bM (R:=[.ext uM CL, .ext jh o8]) (H':=[.cells MT 105 sg, .cells O4 77 wO, .cells b7 105 aJ, .cells b6 77 aE, .cells b5 114 (ct.enc a2), .cells b4 105 xS, .cells b3 77 Ev]) (ks:=[1,3,0,2,4,5,6,7,8]) rfl (by decide) ?_
   exact CE [0,3,4,5,6,7] (gE.2.2,vh.2.2,yt,vh.1,gE.1,xS,Ev,(bE [.ext uM CL, .ext jh o8]),(Hs [.ext uM CL, .ext jh o8])) ⟨(mo f61),(mo f59),h⟩ rf rf rf
  ·
   refine SC 6 rf ?_
   refine ei h rf (fun hc h=>?_) fun hc h=>?_
   ·
    obtain ⟨sB,Ka,h⟩:=bg h
    refine SC 2 rf ?_
    refine aj rfl (ae rfl (aN.len _ f0)) ?_
    refine aj rfl (au rfl) ?_
    refine CB (oz (K:=K) (mo f0) Ka) rf rf ?_
    rintro Pv z6 IF ⟨OR,rfl,f68⟩
    replace f68:(ah).rep (fun w=>K w∧Hs [.ext z6 IF] w) OR sB.1:=f68
    refine SL 3 rf ?_
    refine ST (C:=(fun w=>K w∧Hs [.ext z6 IF] w)) sB.1 (aI.id (L:=ah)) (mo f0) (mo f68) rf rf rf rf rf fun wN f71=>?_
    obtain ⟨CT,J6,h⟩:=bg h
    refine SL 4 rf ?_
    refine aj rfl (ae rfl (aN.len _ f1)) ?_
    refine aj rfl (au rfl) ?_
    refine CB (uK (K:=K) (mo f1) J6) rf rf ?_
    rintro Pt z5 IE ⟨MK,rfl,f77⟩
    replace f77:(ak).rep (fun w=>K w∧Hs [.ext z5 IE] w) MK CT.1:=f77
    refine SL 3 rf ?_
    refine ST (C:=(fun w=>K w∧Hs [.ext z5 IE] w)) CT.1 (aI.id (L:=ak)) (mo f1) (mo f77) rf rf rf rf rf fun Eu f80=>?_
    refine SL 3 rf ?_
    refine bM (R:=[.ext z5 IE, .ext z6 IF]) (H':=[.cells b7 105 aJ, .cells b6 77 aE, .cells b5 114 (ct.enc a2), .cells b4 105 Eu, .cells b3 77 wN]) (ks:=[0,1,2,3,4,5,6]) rfl (by decide) ?_
    exact CE [0,1,2,3,4,5] (sB.2,CT.2,true,CT.1,sB.1,Eu,wN,(bE [.ext z5 IE, .ext z6 IF]),(Hs [.ext z5 IE, .ext z6 IF])) ⟨(mo f80),(mo f71),h⟩ rf rf rf
   ·
    refine SC 6 rf ?_
    refine ei h rf (fun hc h=>?_) fun hc h=>?_
    ·
     obtain ⟨vf,Dx,h⟩:=bg h
     refine SC 2 rf ?_
     refine aj rfl (ae rfl (aN.len _ f0)) ?_
     refine SL 2 rf ?_
     refine CB (mQ (K:=K) (mo f0) Dx) rf rf ?_
     rintro Nc qI Ar ⟨LM,rfl,f86⟩
     replace f86:(ah).rep (fun w=>K w∧Hs [.ext qI Ar] w) LM vf.1:=f86
     refine SL 3 rf ?_
     refine ST (C:=(fun w=>K w∧Hs [.ext qI Ar] w)) vf.1 (aI.id (L:=ah)) (mo f0) (mo f86) rf rf rf rf rf fun Et f89=>?_
     obtain ⟨CS,J0,h⟩:=bg h
     refine SL 4 rf ?_
     refine aj rfl (ae rfl (aN.len _ f1)) ?_
     refine SL 2 rf ?_
     refine CB (rz (K:=K) (mo f1) J0) rf rf ?_
     rintro Pr zY IC ⟨HZ,rfl,f95⟩
     replace f95:(ak).rep (fun w=>K w∧Hs [.ext zY IC] w) HZ CS.1:=f95
     refine SL 3 rf ?_
     refine ST (C:=(fun w=>K w∧Hs [.ext zY IC] w)) CS.1 (aI.id (L:=ak)) (mo f1) (mo f95) rf rf rf rf rf fun I2 f98=>?_
     refine SL 3 rf ?_
     refine bM (R:=[.ext zY IC, .ext qI Ar]) (H':=[.cells b7 105 aJ, .cells b6 77 aE, .cells b5 114 (ct.enc a2), .cells b4 105 I2, .cells b3 77 Et]) (ks:=[0,1,2,3,4,5,6]) rfl (by decide) ?_
     exact CE [0,1,2,3,4,5] (vf.2,CS.2,true,CS.1,vf.1,I2,Et,(bE [.ext zY IC, .ext qI Ar]),(Hs [.ext zY IC, .ext qI Ar])) ⟨(mo f98),(mo f89),h⟩ rf rf rf
    ·
     refine SC 6 rf ?_
     refine ei h rf (fun hc h=>?_) fun hc h=>?_
     ·
      obtain ⟨Ay,JV,h⟩:=bg h
      refine SC 2 rf ?_
      refine aj rfl (ae rfl (aN.len _ f0)) ?_
      refine aj rfl (au rfl) ?_
      refine CB (eE (K:=K) (mo f0) JV) rf rf ?_
      rintro No nA rK ⟨L1,rfl,f104⟩
      replace f104:(aF).rep (fun w=>K w∧Hs [.ext nA rK] w) L1 Ay.1:=f104
      refine SL 3 rf ?_
      refine W1 rf (bh (hz:=(⟨by kernel_rfl⟩ : bQ Try.prog 74 dk))) fun Im=>?_
      refine ST (C:=(fun w=>K w∧Hs [.ext nA rK] w)) Ay.1 (aI.id (L:=aF)) dj (mo f104) rf rf rf rf rf fun OZ f107=>?_
      obtain ⟨zH,h⟩:=cm h
      obtain ⟨CX,Gu,h⟩:=cL h
      refine SL 6 rf ?_
      refine aj rfl (bH kW rfl) ?_
      refine aj rfl (Ai rfl rfl (by decide) rfl) ?_
      refine SL 3 rf ?_
      refine aj rfl (bU (m:=(Int.toNat (Int.tmod a2.B 8))) rfl rfl (ay zH).1 (ay zH).2) ?_
      refine ST (C:=(fun w=>K w∧Hs [.ext nA rK] w)) CX (fB.comp (aI.idx (L:=(LI .u32)) (m:=8) (k:=1) ((Int.toNat (Int.tmod a2.B 8))) (ay zH).2 rfl)) (mo f107) fl Gu rf rf rf rf fun Ig f111=>?_
      obtain ⟨q7,Gt,h⟩:=bg h
      refine SL 4 rf ?_
      refine aj rfl (ae rfl (aN.len _ f1)) ?_
      refine aj rfl (au rfl) ?_
      refine CB (gJ (K:=K) (mo f1) Gt) rf rf ?_
      rintro Nn ny rJ ⟨L0,rfl,f117⟩
      replace f117:(aH).rep (fun w=>K w∧Hs [.ext ny rJ] w) L0 q7.1:=f117
      refine SL 3 rf ?_
      refine W1 rf (bh (hz:=(⟨by kernel_rfl⟩ : bQ Try.prog 83 eH))) fun Il=>?_
      refine ST (C:=(fun w=>K w∧Hs [.ext ny rJ] w)) q7.1 (aI.id (L:=aH)) eG (mo f117) rf rf rf rf rf fun OY f120=>?_
      obtain ⟨zG,h⟩:=cm h
      obtain ⟨CW,Gs,h⟩:=cL h
      refine SL 6 rf ?_
      refine aj rfl (bH kW rfl) ?_
      refine aj rfl (Ai rfl rfl (by decide) rfl) ?_
      refine SL 2 rf ?_
      refine aj rfl (bU (m:=(Int.toNat (Int.tmod a2.B 8))) rfl rfl (ay zG).1 (ay zG).2) ?_
      refine ST (C:=(fun w=>K w∧Hs [.ext ny rJ] w)) CW (fC.comp (aI.idx (L:=(LI .i64)) (m:=8) (k:=1) ((Int.toNat (Int.tmod a2.B 8))) (ay zG).2 rfl)) (mo f120) fl Gs rf rf rf rf fun Ie f124=>?_
      refine SL 8 rf ?_
      refine GB rf rf rf (fun hb=>au rfl) ?_
      refine GB rf rf rf (fun hb=>fg (bD rfl hb) rfl) ?_
      refine aj rfl (cM rfl rfl) ?_
      refine SL 2 rf ?_
      refine ei h rf (fun hc h=>?_) fun hc h=>?_
      ·
       obtain ⟨vj,Gr,h⟩:=bg h
       refine SC 2 rf ?_
       refine aj rfl (ae rfl (aN.len _ f0)) ?_
       refine aj rfl (au rfl) ?_
       refine aj rfl (ae rfl (aN.len _ f111)) ?_
       refine CB (kL (K:=(fun w=>K w∧Hs [.ext nA rK] w)) (mo f0) (mo f111) Gr) rf rf ?_
       rintro Nm uR Au ⟨LZ,rfl,f130⟩
       replace f130:(ah).rep (fun w=>(fun w=>K w∧Hs [.ext nA rK] w) w∧Hs [.ext uR Au] w) LZ vj.1:=f130
       refine SL 3 rf ?_
       refine ST (C:=(fun w=>K w∧Hs [.ext nA rK, .ext uR Au] w)) vj.1 (aI.id (L:=ah)) (mo f0) (mo f130) rf rf rf rf rf fun Ic f133=>?_
       obtain ⟨vi,Gq,h⟩:=bg h
       refine SL 4 rf ?_
       refine aj rfl (ae rfl (aN.len _ f1)) ?_
       refine aj rfl (au rfl) ?_
       refine aj rfl (ae rfl (aN.len _ f124)) ?_
       refine CB (ow (K:=(fun w=>K w∧Hs [.ext ny rJ] w)) (mo f1) (mo f124) Gq) rf rf ?_
       rintro Nl uQ As ⟨LY,rfl,f139⟩
       replace f139:(ak).rep (fun w=>(fun w=>K w∧Hs [.ext ny rJ] w) w∧Hs [.ext uQ As] w) LY vi.1:=f139
       refine SL 3 rf ?_
       refine ST (C:=(fun w=>K w∧Hs [.ext ny rJ, .ext uQ As] w)) vi.1 (aI.id (L:=ak)) (mo f1) (mo f139) rf rf rf rf rf fun Ib f142=>?_
       refine SL 10 rf ?_
       refine bM (R:=[.ext uQ As, .ext uR Au, .ext ny rJ, .ext nA rK]) (H':=[.cells Il 83 Ie, .cells Im 74 Ig, .cells b7 105 aJ, .cells b6 77 aE, .cells b5 114 (ct.enc a2), .cells b4 105 Ib, .cells b3 77 Ic]) (ks:=[0,1,3,5,2,4,6,7,8,9,10]) rfl (by decide) ?_
       exact CE [0,3,4,5,6,7] (vj.2,vi.2,(Ay.2 == q7.2),vi.1,vj.1,Ib,Ic,(bE [.ext uQ As, .ext uR Au, .ext ny rJ, .ext nA rK]),(Hs [.ext uQ As, .ext uR Au, .ext ny rJ, .ext nA rK])) ⟨(mo f142),(mo f133),h⟩ rf rf rf
      ·
       refine SC 9 rf ?_
       refine bM (R:=[]) (H':=[.cells Il 83 Ie, .ext ny rJ, .cells Im 74 Ig, .ext nA rK, .cells b7 105 aJ, .cells b6 77 aE, .cells b5 114 (ct.enc a2), .cells b4 105 kX, .cells b3 77 cq]) (ks:=[0,1,2,3,4,5,6,7,8]) rfl (by decide) ?_
       exact CE [0,5,6,7,8,9] (0,0,(Ay.2 == q7.2),a1,a0,kX,cq,(bE []),(Hs [])) ⟨(mo f1),(mo f0),h⟩ rf rf rf
     ·
      obtain ⟨qZ,Gp,h⟩:=bg h
      refine SC 2 rf ?_
      refine aj rfl (ae rfl (aN.len _ f0)) ?_
      refine SL 2 rf ?_
      refine aj rfl (bH kP rfl) ?_
      refine CB (iW (K:=K) (mo f0) Gp) rf rf ?_
      rintro Nk su x9 ⟨LX,rfl,f148⟩
      replace f148:(ah).rep (fun w=>K w∧Hs [.ext su x9] w) LX qZ.1:=f148
      refine SL 4 rf ?_
      refine W1 rf (bh (hz:=(⟨by kernel_rfl⟩ : bQ Try.prog 77 aE))) fun MS=>?_
      refine ST (C:=(fun w=>K w∧Hs [.ext su x9] w)) qZ.1 (aI.id (L:=ah)) aL (mo f148) rf rf rf rf rf fun LW f151=>?_
      obtain ⟨qY,Gn,h⟩:=bg h
      refine SL 6 rf ?_
      refine aj rfl (ae rfl (aN.len _ f1)) ?_
      refine SL 2 rf ?_
      refine aj rfl (bH kP rfl) ?_
      refine CB (uJ (K:=K) (mo f1) Gn) rf rf ?_
      rintro Nj sq x8 ⟨LV,rfl,f157⟩
      replace f157:(ak).rep (fun w=>K w∧Hs [.ext sq x8] w) LV qY.1:=f157
      refine SL 4 rf ?_
      refine W1 rf (bh (hz:=(⟨by kernel_rfl⟩ : bQ Try.prog 105 aJ))) fun O0=>?_
      refine ST (C:=(fun w=>K w∧Hs [.ext sq x8] w)) qY.1 (aI.id (L:=ak)) aT (mo f157) rf rf rf rf rf fun LU f160=>?_
      refine SL 5 rf ?_
      refine cJ mixed (.gB [] [(0,[27]),(1,[30]),(2,[29]),(3,[32])] (.alt 4 [3,69] (.gB [(1,[30]),(2,[29]),(3,[32])] [] (.alt 5 [4,70] (.gB [(2,[29]),(3,[32])] [] (.alt 6 [71] (.gB [(3,[32])] [] (.alt 7 [72] (.fin [] []) .no)) .no)) .no)) .no)) (by kernel_rfl) ?_
      refine T0 ?_
      refine NV rf rf (ae rfl (aN.len _ f151)) ?_
      refine NV rf rf (ae rfl (aN.len _ f160)) ?_
      refine NE 2 rf ?_
      obtain ⟨Ia,HD,f162⟩:=wu (C:=(fun w=>K w∧Hs [.ext su x9] w)) (x':=qZ.1) (aI.id (L:=ah)) (mo f0) (mo f151) rf
      refine X0 rf (wW HD rf rf rf rf) ?_
      refine dQ ?_ ?_
      ·
       refine RO rf rf (ae rfl (aN.len _ f160)) rf ?_
       exact RE 2 rf rf
      refine aW ?_
      obtain ⟨H9,HC,f164⟩:=wu (C:=(fun w=>K w∧Hs [.ext sq x8] w)) (x':=qY.1) (aI.id (L:=ak)) (mo f1) (mo f160) rf
      refine X0 rf (wW HC rf rf rf rf) ?_
      refine dQ ?_ ?_
      ·
       exact RE 2 rf rf
      refine aW ?_
      refine XV rf rf (bB rfl) ?_
      refine dQ ?_ ?_
      ·
       exact RE 1 rf rf
      refine aW ?_
      refine XV rf rf (bB rfl) ?_
      refine pb ?_
      refine SX 9 rf ?_
      refine bM (R:=[.ext sq x8, .ext su x9]) (H':=[.cells O0 105 LU, .cells MS 77 LW, .cells b7 105 aJ, .cells b6 77 aE, .cells b5 114 (ct.enc a2), .cells b4 105 H9, .cells b3 77 Ia]) (ks:=[1,3,0,2,4,5,6,7,8]) rfl (by decide) ?_
      exact CE [0,3,4,5,6,7] (qZ.2.2,qY.2.2,((wr .i64 qZ.2.1) == qY.2.1),qY.1,qZ.1,H9,Ia,(bE [.ext sq x8, .ext su x9]),(Hs [.ext sq x8, .ext su x9])) ⟨(mo f164),(mo f162),h⟩ rf rf rf
 ·
  rintro ⟨dx,cw,ef,eo,eX,xT,zW,uP,CO⟩ ⟨f31,f34,h⟩
  replace h:Bg dx cw ef eo eX = some r:=h
  replace h:=Gc K1 h
  refine nZ ?_
  refine cJ mixed (.gB [] [(0,[3]),(1,[4]),(2,[16]),(3,[182]),(4,[14,183]),(5,[15,183]),(6,[183,184,185]),(7,[183,186])] (.alt 8 [6,180] (.gB [(1,[4]),(4,[14,183]),(5,[15,183]),(6,[183,184,185]),(7,[183,186])] [] (.alt 9 [7,181] (.gB [(4,[14,183]),(5,[15,183]),(6,[183,184,185]),(7,[183,186])] [] (.alt 10 [187] (.fin [] []) .no)) .no)) .no)) (by kernel_rfl) ?_
  refine T0 ?_
  refine NV rf rf (ae rfl (aN.len _ f34)) ?_
  refine NV rf rf (ae rfl (aN.len _ f31)) ?_
  refine NS 2 rf ?_
  refine NG rf rf (cF rfl rfl) (fun hb=>au rfl) ?_
  refine NG rf rf (cF rfl rfl) (fun hb=>au rfl) ?_
  refine NG rf rf (cF rfl rfl) (fun hb=>fg (bD rfl hb) (bD rfl hb)) ?_
  refine NV rf rf (cM rfl rfl) ?_
  refine aW ?_
  obtain ⟨OX,HB,f166⟩:=wu (C:=(fun w=>K w∧Hs [.ext uP CO] w)) (x':=eX) (aI.id (L:=ah)) aL (mo f34) rf
  refine X0 rf (wW HB rf rf rf rf) ?_
  refine dQ ?_ ?_
  ·
   refine RO rf rf (ae rfl (aN.len _ f31)) rf ?_
   refine gD rfl rfl (tB (cF rfl rfl) (fun hb=>au rfl)) ?_
   refine gD rfl rfl (tB (cF rfl rfl) (fun hb=>au rfl)) ?_
   refine gD rfl rfl (tB (cF rfl rfl) (fun hb=>qK (fg (bD rfl hb) (bD rfl hb)) rfl)) ?_
   refine RO rf rf (cM rfl rfl) rf ?_
   exact ku
  refine aW ?_
  obtain ⟨OV,HA,f168⟩:=wu (C:=(fun w=>K w∧Hs [.ext uP CO] w)) (x':=eo) (aI.id (L:=ak)) aT (mo f31) rf
  refine X0 rf (wW HA rf rf rf rf) ?_
  refine dQ ?_ ?_
  ·
   refine gD rfl rfl (tB (cF rfl rfl) (fun hb=>au rfl)) ?_
   refine gD rfl rfl (tB (cF rfl rfl) (fun hb=>au rfl)) ?_
   refine gD rfl rfl (tB (cF rfl rfl) (fun hb=>qK (fg (bD rfl hb) (bD rfl hb)) rfl)) ?_
   refine RO rf rf (cM rfl rfl) rf ?_
   exact ku
  refine aW ?_
  refine XV rf rf (bB rfl) ?_
  refine pb ?_
  refine SX 2 rf ?_
  have h:=sj h; subst h
  exact kE [0] rf rf (ra rf (aN.len _ f166) (ra rf (aN.len _ f168) (rt rf rn))) ⟨_,_,rfl,(mo f166),(mo f168)⟩
def gG (n:Nat) (a0:(List iI)) (a1:Int) (a2:Int):Option Bool:=
 cn (decide (100 < (a0.length:Int))) (
 bd (ju n ) fun bf =>
 some bf) (
 jZ (fun N3 (fI:Int) (fL:ag) (fh:aq) =>
 cn (decide (fI < (a0.length:Int))) (
 gu (dH fI a0.length) <|
 bd (j2 n fh fL (a0.getD (Int.toNat fI) default)) fun ga =>
 cl ((!ga.2.2) == false) (j3 n ga.1 ga.2.1) default fun kF =>
 cn (((!ga.2.2) || (!kF))) (
 some false) (
 N3 (wr .i64 (fI + 1)) ga.2.1 ga.1)) (
 bd (gl n fL a1) fun jF =>
 bd (gl n fL a2) fun Jg =>
 bd (gV n fh (wr .u32 jF)) fun IQ =>
 bd (jd n fL jF) fun IP =>
 bd (iH n IQ IP) fun kz =>
 cl (kz == true) (gm n fh (wr .u32 jF)) default fun yb =>
 cl (kz == true) (eB n fL jF) default fun vg =>
 cl (kz == true) (iH n yb vg) default fun tK =>
 cl ((kz && tK) == true) (dw n fh (wr .u32 jF)) default fun ve =>
 cl ((kz && tK) == true) (dN n fL jF) default fun m6 =>
 cl (((kz && tK) && (ve == m6)) == true) (gh n fh (wr .u32 jF)) default fun yq =>
 cl (((kz && tK) && (ve == m6)) == true) (gP n fL jF) default fun AA =>
 cl ((((kz && tK) && (ve == m6)) && ((wr .i64 yq) == AA)) == true) (dZ n fh (wr .u32 jF) (wr .u32 Jg)) default fun va =>
 cl ((((kz && tK) && (ve == m6)) && ((wr .i64 yq) == AA)) == true) (fP n fL jF Jg) default fun Jf =>
 cl (((((kz && tK) && (ve == m6)) && ((wr .i64 yq) == AA)) && (va == Jf)) == true) (ju n ) default fun Ma =>
 some (((((kz && tK) && (ve == m6)) && ((wr .i64 yq) == AA)) && (va == Jf)) && Ma))) n 0 eT eS)
theorem nn {n a0 a1 a2 r K} [bu K] {v0} (f0:Fz K v0 ct a0) (h:gG n a0 a1 a2 = some r):qU Try.prog 8 [v0, .int .u32 a1, .int .u32 a2] K (.bool r):=by
 unfold gG at h
 refine fo Try.func8 (by kernel_rfl) rfl Try.ntmps8 rfl fun cx _ hro cZ hpre=>?_
 refine SC 9 rf ?_
 refine aj rfl (cS f0 rfl) ?_
 refine SL 3 rf ?_
 refine ei h rf (fun hc h=>?_) fun hc h=>?_
 ·
  obtain ⟨bf,bZ,h⟩:=bg h
  refine SC 2 rf ?_
  refine CV (nx bZ) rf rf ?_
  refine SL 5 rf ?_
  have h:=sj h; subst h
  exact RV rf (rt rf rn) rf
 ·
  refine SC 4 rf ?_
  refine W1 rf (bh (hz:=(⟨by kernel_rfl⟩ : bQ Try.prog 77 aE))) fun b7=>?_
  refine SL 4 rf ?_
  refine W1 rf (bh (hz:=(⟨by kernel_rfl⟩ : bQ Try.prog 105 aJ))) fun b8=>?_
  refine SL 9 rf ?_
  obtain ⟨JG,GZ,h⟩:=wG h
  refine jR ?_
  refine LO (β:=Int × ag × aq × (List Value) × (List Value) × (List Nat) × (World→Prop)) [0,1,2,7,8] [0,1,2] (fun (FZ,fI,fL,fh,wP,CG,cG,fZ)=>[(9, .int .i64 fI)]) (fun (FZ,fI,fL,fh,wP,CG,cG,fZ)=>[.ext cG fZ, .cells b8 105 wP, .cells b7 77 CG]) (fun (FZ,fI,fL,fh,wP,CG,cG,fZ)=>(ak).rep (Hs [.ext cG fZ]) wP fL∧(ah).rep (Hs [.ext cG fZ]) CG fh∧jZ JG FZ fI fL fh = some r) (n,0,eT,eS,aJ,aE,[],(Hs [])) ⟨(aN.mono _ nh (show (ak).rep (Hs []) aJ eT from aT)),(aN.mono _ nh (show (ah).rep (Hs []) aE eS from aL)),h⟩ rf rf rf ?_
  rintro FZ ⟨fI,fL,fh,wP,CG,cG,fZ⟩ ⟨f37,f40,h⟩
  replace h:=wF GZ h; obtain ⟨FZ,rfl,h⟩:=h
  refine SC 5 rf ?_
  refine aj rfl (cS f0 rfl) ?_
  refine SL 3 rf ?_
  refine ei h rf (fun hc h=>?_) fun hc h=>?_
  ·
   refine SC 10 rf ?_
   obtain ⟨xK,h⟩:=cm h
   obtain ⟨ga,Bn,h⟩:=bg h
   refine cJ mixed (.gB [] [(0,[7]),(1,[8]),(2,[0]),(3,[9]),(4,[28,29]),(5,[30])] (.alt 6 [26,27,31] (.gB [] [(7,[32]),(8,[25]),(9,[25]),(10,[25])] (.alt 11 [7,33] (.gB [(9,[25]),(10,[25])] [] (.alt 12 [8,34] (.gB [(10,[25])] [] (.alt 13 [35] (.fin [] []) .no)) .no)) .no)) .no)) (by kernel_rfl) ?_
   refine T0 ?_
   refine NV rf rf (ae rfl (aN.len _ f40)) ?_
   refine NV rf rf (ae rfl (aN.len _ f37)) ?_
   refine NS 2 rf ?_
   refine NV rf rf (dg (m:=(Int.toNat fI)) f0 rfl rfl rfl (ay xK).1 (ay xK).2) ?_
   refine NV rf rf (pX (M:=ct) f0 (aI.idx (L:=ct) (m:=(a0.length)) (k:=5) ((Int.toNat fI)) (ay xK).2 rfl) rfl rfl (by decide)) ?_
   refine aW ?_
   refine X1 rf rf (gY (tc (K:=(Hs [.ext cG fZ])) (mo f40) (mo f37) Bn) rfl) fun ⟨Pz,uN,CM⟩ KO=>?_
   obtain ⟨Fc,LR,rfl,f50,f52⟩:=KO
   replace f50:(ah).rep (fun w=>(Hs [.ext cG fZ]) w∧Hs [.ext uN CM] w) Fc ga.1:=f50
   replace f52:(ak).rep (fun w=>(Hs [.ext cG fZ]) w∧Hs [.ext uN CM] w) LR ga.2.1:=f52
   refine T0 ?_
   refine NE 4 rf ?_
   obtain ⟨H6,Le,f55⟩:=wu (C:=(Hs [.ext cG fZ, .ext uN CM])) (x':=ga.1) (aI.id (L:=ah)) (mo f40) (mo f50) rf
   refine X0 rf (wW Le rf rf rf rf) ?_
   refine dQ ?_ ?_
   ·
    exact RE 2 rf rf
   refine aW ?_
   obtain ⟨sg,zL,f57⟩:=wu (C:=(Hs [.ext cG fZ, .ext uN CM])) (x':=ga.2.1) (aI.id (L:=ak)) (mo f37) (mo f52) rf
   refine X0 rf (wW zL rf rf rf rf) ?_
   refine dQ ?_ ?_
   ·
    exact RE 1 rf rf
   refine aW ?_
   refine XV rf rf (bB rfl) ?_
   refine pb ?_
   obtain ⟨kF,Ke,_,h⟩:=fV h
   refine SX 6 rf ?_
   refine GB rf rf rf (fun hb=>ae rfl (aN.len _ f55)) ?_
   refine GB rf rf rf (fun hb=>ae rfl (aN.len _ f57)) ?_
   refine GB rf rf rf (fun hb=>bS (td (K:=(Hs [.ext cG fZ, .ext uN CM])) (mo f55) (mo f57) (Ke hb)) (aA (bD rfl hb) (aA (bD rfl hb) rfl)) kn) ?_
   refine GB rf rf rf (fun hb=>ij (bD rfl hb)) ?_
   refine aj rfl (eu rfl rfl) ?_
   refine SL 2 rf ?_
   refine ei h rf (fun hc h=>?_) fun hc h=>?_
   ·
    refine SC 11 rf ?_
    have h:=sj h; subst h
    exact RV rf (rt rf rn) rf
   ·
    refine SC 8 rf ?_
    refine bM (R:=[.ext uN CM, .ext cG fZ]) (H':=[.cells b8 105 sg, .cells b7 77 H6]) (ks:=[0,1,2,3]) rfl (by decide) ?_
    exact LN [0,1,2] (wr .i64 (fI + 1),ga.2.1,ga.1,sg,H6,(bE [.ext uN CM, .ext cG fZ]),(Hs [.ext uN CM, .ext cG fZ])) ⟨(mo f57),(mo f55),h⟩ rf rf rf
  ·
   refine SC 6 rf ?_
   obtain ⟨jF,Bl,h⟩:=bg h
   obtain ⟨Jg,Kc,h⟩:=bg h
   refine cJ mixed (.gB [] [(0,[8]),(1,[1]),(2,[44,45]),(3,[8]),(4,[2]),(5,[47,48])] (.alt 6 [46] (.gB [] [] (.alt 7 [49] (.fin [] []) .no)) .no)) (by kernel_rfl) ?_
   refine T0 ?_
   refine NV rf rf (ae rfl (aN.len _ f37)) ?_
   refine NS 1 rf ?_
   refine NC rf rf (iV (K:=(Hs [.ext cG fZ])) (mo f37) Bl) rf ?_
   refine NV rf rf (ae rfl (aN.len _ f37)) ?_
   refine NS 1 rf ?_
   refine NC rf rf (iV (K:=(Hs [.ext cG fZ])) (mo f37) Kc) rf ?_
   refine aW ?_
   refine XV rf rf (bB rfl) ?_
   refine B4 ?_
   refine XV rf rf (bB rfl) ?_
   refine pb ?_
   refine SX 12 rf ?_
   obtain ⟨IQ,Kb,h⟩:=bg h
   obtain ⟨IP,J8,h⟩:=bg h
   obtain ⟨kz,Bk,h⟩:=bg h
   obtain ⟨yb,Dz,_,h⟩:=fV h
   obtain ⟨vg,zg,_,h⟩:=fV h
   obtain ⟨tK,Dw,_,h⟩:=fV h
   obtain ⟨ve,Dv,_,h⟩:=fV h
   obtain ⟨m6,xC,_,h⟩:=fV h
   obtain ⟨yq,Du,_,h⟩:=fV h
   obtain ⟨AA,Dt,_,h⟩:=fV h
   obtain ⟨va,zf,_,h⟩:=fV h
   obtain ⟨Jf,J2,_,h⟩:=fV h
   obtain ⟨Ma,J1,_,h⟩:=fV h
   refine cJ mixed (.gB [] [(0,[7]),(1,[13]),(3,[8]),(4,[11])] (.alt 2 [54,55] (.gB [(3,[8]),(4,[11])] [] (.alt 5 [57,58] (.gB [] [(6,[56,59]),(7,[60]),(8,[7,61]),(9,[13,61]),(11,[8,61]),(12,[11,61])] (.alt 10 [61,62,63] (.gB [(11,[8,61]),(12,[11,61])] [] (.alt 13 [61,65,66] (.gB [] [(14,[61,64,67]),(15,[61,68]),(16,[69]),(17,[7,70]),(18,[13,70]),(19,[70,71,72]),(20,[8,70]),(21,[11,70]),(22,[70,74,75]),(23,[70,73,76]),(24,[70,77]),(25,[78]),(26,[7,79]),(27,[13,79]),(28,[79,80,81]),(29,[79,82]),(30,[8,79]),(31,[11,79]),(32,[79,84,85]),(33,[79,83,86]),(34,[79,87]),(35,[88]),(36,[7,89]),(37,[13,89]),(38,[14,89]),(39,[89,90,91,92]),(40,[8,89]),(41,[11,89]),(42,[12,89]),(43,[89,94,95,96]),(44,[89,93,97]),(45,[89,98]),(46,[99]),(47,[100]),(48,[100,101])] (.alt 49 [102] (.fin [] []) .no)) .no)) .no)) .no)) .no)) (by kernel_rfl) ?_
   refine T0 ?_
   refine NV rf rf (ae rfl (aN.len _ f40)) ?_
   refine NS 1 rf ?_
   refine NV rf rf (ae rfl (aN.len _ f37)) ?_
   refine NE 1 rf ?_
   refine X1 rf rf (dV (kU (K:=(Hs [.ext cG fZ])) (mo f40) Kb) rfl kn) fun Nr KC=>?_
   dsimp only [List.cons_append,List.nil_append]
   refine dQ ?_ ?_
   ·
    refine RO rf rf (ae rfl (aN.len _ f37)) rf ?_
    exact RE 1 rf rf
   refine aW ?_
   refine X1 rf rf (dV (ou (K:=(Hs [.ext cG fZ])) (mo f37) J8) rfl kn) fun Nq KA=>?_
   dsimp only [List.cons_append,List.nil_append]
   refine T0 ?_
   refine NC rf rf (kN (K:=(Hs [Row Nr 69 1 (LI .u32) IQ,Row Nq 3 1 (LI .i64) IP])) ((Fz.row (e:=69) (sz:=1) (L:=(LI .u32)) (xs:=IQ) rfl KC).mono nh) ((Fz.row (e:=3) (sz:=1) (L:=(LI .i64)) (xs:=IP) rfl KA).mono nh) Bk) rf ?_
   refine NS 1 rf ?_
   refine NG rf rf (cF rfl rfl) (fun hb=>ae rfl (aN.len _ f40)) ?_
   refine NG rf rf (cF rfl rfl) (fun hb=>au rfl) ?_
   refine NG rf rf (cF rfl rfl) (fun hb=>ae rfl (aN.len _ f37)) ?_
   refine NG rf rf (cF rfl rfl) (fun hb=>au rfl) ?_
   refine aW ?_
   refine mX rfl rfl (u5 (cF rfl rfl) (fun hb=>ki (K:=(Hs [.ext cG fZ])) (mo f40) (Dz hb)) (fun hb=>(aA (bD rfl hb) (aA (bD rfl hb) rfl))) (fun hb=>inferInstance)) (fun ⟨Nf,Ii,M4⟩ KM=>?_) tC
   have f75:(kz == true) = true→Fz (fun w=>(Hs [.ext cG fZ]) w∧Hs [.ext Ii M4] w) Nf (LI .u32) yb:=KM
   refine dQ ?_ ?_
   ·
    refine gD rfl rfl (tB (cF rfl rfl) (fun hb=>qK (ae rfl (aN.len _ f37)) rfl)) ?_
    refine gD rfl rfl (tB (cF rfl rfl) (fun hb=>au rfl)) ?_
    exact ku
   refine aW ?_
   refine mX rfl rfl (u5 (cF rfl rfl) (fun hb=>Fn.Ci (by decide) (jn (K:=(Hs [.ext cG fZ])) (mo f37) (zg hb))) (fun hb=>(aA (bD rfl hb) (aA (bD rfl hb) rfl))) (fun hb=>inferInstance)) (fun ⟨Nd,Ih,M3⟩ KL=>?_) tC
   have f81:(kz == true) = true→Fz (fun w=>(Hs [.ext cG fZ]) w∧Hs [.ext Ih M3] w) Nd (LI .i64) vg:=KL
   refine T0 ?_
   refine NG rf rf (cF rfl rfl) (fun hb=>bS (kN (K:=(Hs [.ext cG fZ, .ext Ii M4, .ext Ih M3])) ((f75 hb).mono nh) ((f81 hb).mono nh) (Dw hb)) (aA (bD rfl hb) (aA (bD rfl hb) rfl)) kn) ?_
   refine NV rf rf (cM rfl rfl) ?_
   refine NS 1 rf ?_
   refine NG rf rf (cF rfl rfl) (fun hb=>ae rfl (aN.len _ f40)) ?_
   refine NG rf rf (cF rfl rfl) (fun hb=>au rfl) ?_
   refine NG rf rf (cF rfl rfl) (fun hb=>bS (fW (K:=(Hs [.ext cG fZ])) (mo f40) (Dv hb)) (aA (bD rfl hb) (aA (bD rfl hb) rfl)) kn) ?_
   refine NG rf rf (cF rfl rfl) (fun hb=>ae rfl (aN.len _ f37)) ?_
   refine NG rf rf (cF rfl rfl) (fun hb=>au rfl) ?_
   refine NG rf rf (cF rfl rfl) (fun hb=>bS (kT (K:=(Hs [.ext cG fZ])) (mo f37) (xC hb)) (aA (bD rfl hb) (aA (bD rfl hb) rfl)) kn) ?_
   refine NG rf rf (cF rfl rfl) (fun hb=>fg (bD rfl hb) (bD rfl hb)) ?_
   refine NV rf rf (cM rfl rfl) ?_
   refine NS 1 rf ?_
   refine NG rf rf (cF rfl rfl) (fun hb=>ae rfl (aN.len _ f40)) ?_
   refine NG rf rf (cF rfl rfl) (fun hb=>au rfl) ?_
   refine NG rf rf (cF rfl rfl) (fun hb=>bS (jo (K:=(Hs [.ext cG fZ])) (mo f40) (Du hb)) (aA (bD rfl hb) (aA (bD rfl hb) rfl)) kn) ?_
   refine NG rf rf (cF rfl rfl) (fun hb=>tA (bD rfl hb) rfl) ?_
   refine NG rf rf (cF rfl rfl) (fun hb=>ae rfl (aN.len _ f37)) ?_
   refine NG rf rf (cF rfl rfl) (fun hb=>au rfl) ?_
   refine NG rf rf (cF rfl rfl) (fun hb=>bS (s9 (K:=(Hs [.ext cG fZ])) (mo f37) (Dt hb)) (aA (bD rfl hb) (aA (bD rfl hb) rfl)) kn) ?_
   refine NG rf rf (cF rfl rfl) (fun hb=>fg (bD rfl hb) (bD rfl hb)) ?_
   refine NV rf rf (cM rfl rfl) ?_
   refine NS 1 rf ?_
   refine NG rf rf (cF rfl rfl) (fun hb=>ae rfl (aN.len _ f40)) ?_
   refine NG rf rf (cF rfl rfl) (fun hb=>au rfl) ?_
   refine NG rf rf (cF rfl rfl) (fun hb=>au rfl) ?_
   refine NG rf rf (cF rfl rfl) (fun hb=>bS (gK (K:=(Hs [.ext cG fZ])) (mo f40) (zf hb)) (aA (bD rfl hb) (aA (bD rfl hb) (aA (bD rfl hb) rfl))) kn) ?_
   refine NG rf rf (cF rfl rfl) (fun hb=>ae rfl (aN.len _ f37)) ?_
   refine NG rf rf (cF rfl rfl) (fun hb=>au rfl) ?_
   refine NG rf rf (cF rfl rfl) (fun hb=>au rfl) ?_
   refine NG rf rf (cF rfl rfl) (fun hb=>bS (lF (K:=(Hs [.ext cG fZ])) (mo f37) (J2 hb)) (aA (bD rfl hb) (aA (bD rfl hb) (aA (bD rfl hb) rfl))) kn) ?_
   refine NG rf rf (cF rfl rfl) (fun hb=>BZ (bD rfl hb) (bD rfl hb)) ?_
   refine NV rf rf (cM rfl rfl) ?_
   refine NS 1 rf ?_
   refine NG rf rf (cF rfl rfl) (fun hb=>bS (nx (J1 hb)) rfl (fun _ _ _=>trivial)) ?_
   refine NV rf rf (cM rfl rfl) ?_
   refine aW ?_
   refine XV rf rf (bB rfl) ?_
   refine pb ?_
   refine SX 2 rf ?_
   have h:=sj h; subst h
   exact RV rf (rt rf rn) rf
end Go.Proofs.Ytmdpbdhkmfjlhaa
namespace Go.Proofs.Ytmdpbdhkmfjlhaa
open Go Go.Bw
def cK (w:ag) (x:Int):Int:=(w.R (bN x)).Up
abbrev Gw (w:ag):List Int:=cz w.B 32
theorem tN {t:aq} {w:ag} (r:fF t w) (tt:iJ w):∃ρ,Fo (Gw w) (cK w) ρ:=by
  obtain ⟨q,hq⟩:=tt
  have hm:=bV r.book
  refine ⟨fun x=>qF (fun j=>decide (q j < q (bN x))) 32,⟨qo r.book 32 (by omega),fx _ _,fun x hx=>?_,fun x hx=>?_,fun x hx=>?_,fun x hx hu=>?_⟩⟩
  · have:=g8 ((hm x).1 hx); omega
  · exact (r.C1 ((hm x).1 hx)).imp _root_.id (hm _).2
  · have:=oo (p:=fun j=>decide (q j < q (bN x))) (q:=fun _=>true) (fun _ _=>rfl) (c:=bN x) (by simp) rfl 32 (jW _)
    have:=s6 (fun _=>true) 32
    omega
  · obtain ⟨l1,l2⟩:=dB ((hm x).1 hx)
    have h2:=hq _ l1 l2 hu
    exact oo (p:=fun j=>decide (q j < q (bN (w.R (bN x)).Up))) (q:=fun j=>decide (q j < q (bN x))) (fun j hj=>by simp at hj ⊢; omega) (c:=bN (w.R (bN x)).Up) (by simp) (by simpa using h2) 32 (jW _)
section
universe u1 u2 u3
theorem oP {α1 ρ:Type} {B:(α1→Option ρ)→α1→Option ρ} (g:α1→ρ) (I:α1→Prop) (μ:α1→Nat) (hB:∀k a,I a→(∀b,I b→μ b < μ a→k b = some (g b))→B k a = some (g a)):∀n a,I a→μ a < n→dF B n a = some (g a):=by
  intro n
  induction n with
  | zero=>intro a _ h; exact absurd h (Nat.not_lt_zero _)
  | succ n ih=>intro a hi hm; exact hB _ a hi fun b hj hl=>ih b hj (by omega)
end
theorem v5 {n:Nat} (hn:40 ≤ n) {t:aq} {w:ag} (r:fF t w) (tt:iJ w) {h:Int} (hh:bz w.B h):fa n t h = some (U6 (cK w) h):=by
  obtain ⟨ρ,f⟩:=tN r tt
  have hm:=bV r.book
  unfold fa
  refine oP (fun x=>U6 (cK w) x) (fun x=>bz w.B x) ρ (fun k x hx ih=>?_) n h hh (by have:=f.rk h ((hm h).2 hh); omega)
  have hG:=(hm x).2 hx
  rw [av (oe r hx.1 (eN hx.2)),if_pos hx.2]
  show cn (((0:Int) != 0 || (cK w x == 0)) == false) (yl (cK w x) (k (cK w x))) (some []) = _
  by_cases hu:cK w x = 0
  · rw [f.u0 hG hu,ax (by simp [hu])]
  · rw [f.u1 hG hu,aK (by simp [hu]),ih _ ((hm _).1 (f.yx hG hu)) (f.dn x hG hu)]; rfl
def fb (w:ag) (a:Int):Int:=if bk w.B a = true then 1 + ((U6 (cK w) a).length:Int) else 0
def kH (w:ag) (a:Int):Int:=if bk w.B a = true then tY (cK w) a else 0
def pI (w:ag) (a b:Int):Bool:=bk w.B a && bk w.B b && ((a == b) || (U6 (cK w) b).contains a)
def oR (w:ag) (a:Int):List Int:=if bk w.B a = true then fS (Gw w) (cK w) a else []
def jL (w:ag) (a:Int):List Int:=if bk w.B a = true then V6 (Gw w) (cK w) a else []
section
variable {n:Nat} {t:aq} {w:ag}
theorem Bi (l:List Int) (x:Int) (h0:0 ≤ x) (h1:x + (l.length:Int) ≤ 1000000):ff (fun (Em:Int) Bd (bJ:Int) =>
  lt (Em:Int) fun _ =>
  lt (wr .i64 (bJ + 1):Int) fun gA =>
  Bd gA) (fun (bJ:Int) =>
  some bJ) l x = some (x + (l.length:Int)):=by
  induction l generalizing x with
  | nil=>simp [ff]
  | cons a l ih =>
    rw [List.length_cons] at h1
    have e:wr .i64 (x + 1) = x + 1:=bT (by omega) (by omega)
    refine (ih (wr .i64 (x + 1)) (by rw [e]; omega) (by rw [e]; omega)).trans ?_
    rw [e,List.length_cons]; congr 1; omega
theorem qE (hn:40 ≤ n) (r:fF t w) (tt:iJ w) {a:Int} (h0:0 ≤ a) (h1:a < 4294967296):dw n t a = some (fb w a):=by
  unfold dw fb
  rw [av (j8 r.book h0 h1)]
  cases hg:bk w.B a with
  | false=>rfl
  | true =>
    obtain ⟨ρ,f⟩:=tN r tt
    have hG:=(bV r.book a).2 ⟨h0,hg⟩
    rw [ax (b:=!true) rfl,if_pos rfl]
    unfold fz
    rw [av rfl,av (v5 hn r tt ⟨h0,hg⟩)]
    have:=f.yA hG
    exact Bi _ 1 (by omega) (by omega)
theorem zb (l:List Int) (x:Int):ff (fun (Em:Int) Bd (_:Int) =>
  lt (Em:Int) fun fL =>
  Bd fL) (fun (bJ:Int) =>
  some bJ) l x = some (l.getLastD x):=by
  induction l generalizing x with
  | nil=>rfl
  | cons a l ih=>exact (ih a).trans (by cases l <;> rfl)
theorem yO (hn:40 ≤ n) (r:fF t w) (tt:iJ w) {a:Int} (h0:0 ≤ a) (h1:a < 4294967296):gh n t a = some (kH w a):=by
  unfold gh kH
  rw [av (j8 r.book h0 h1)]
  cases hg:bk w.B a with
  | false=>rfl
  | true =>
    rw [ax (b:=!true) rfl,if_pos rfl]
    unfold fz
    rw [av rfl,av (v5 hn r tt ⟨h0,hg⟩)]
    exact zb _ a
theorem Dm (a1:Int) (l:List Int) (x:Bool):ff (fun (LC:Int) xA (eX:Bool) =>
  lt (LC:Int) fun gA =>
  lt ((eX || (gA == a1)):Bool) fun m8 =>
  xA m8) (fun (eX:Bool) =>
  some eX) l x = some (x || l.contains a1):=by
  induction l generalizing x with
  | nil=>simp [ff]
  | cons a l ih =>
    refine (ih (x || (a == a1))).trans ?_
    rw [List.contains_cons,Bool.or_assoc,Bool.beq_comm (a:=a)]
theorem sL (hn:40 ≤ n) (r:fF t w) (tt:iJ w) {a b:Int} (h0:0 ≤ a) (h1:a < 4294967296) (k0:0 ≤ b) (k1:b < 4294967296):dZ n t a b = some (pI w a b):=by
  unfold dZ pI
  rw [av (j8 r.book h0 h1),c9 (j8 r.book k0 k1)]
  cases hg:bk w.B a with
  | false=>rfl
  | true =>
    cases hk:bk w.B b with
    | false=>rfl
    | true =>
      rw [ax (by rfl),lt_eq]
      unfold fz
      rw [av rfl,av (v5 hn r tt ⟨k0,hk⟩)]
      exact Dm a _ _
end
end Go.Proofs.Ytmdpbdhkmfjlhaa
namespace Go.Proofs.Ytmdpbdhkmfjlhaa
open Go Go.Bw
theorem uk {α:Type} (l:List α):l = []∨∃i x,l = i++[x]:=by
  rcases l with _ | ⟨a,l⟩
  · exact .inl rfl
  · exact .inr ⟨(a::l).dropLast,(a::l).getLast (by simp),(List.dropLast_concat_getLast (by simp)).symm⟩
theorem iT {α:Type} [Inhabited α] {l:List α} {i:Nat} (h:i < l.length):l.getD i default = l[i]:=by rw [List.getD,List.getElem?_eq_getElem h]; rfl
theorem JR (d:Int→Option Bool) (p:Int→Bool) (l:List Int) (hd:∀x ∈ l,d x = some (p x)) (hl:l.length < 1000) (z:Option Int) {n:Nat} (hn:l.length < n) :
    ∃i:Nat,i ≤ l.length∧(∀x ∈ l.take i,p x = false)∧((i < l.length∧p (l.getD i default) = true∧dF (fun vx (ck:Int) =>
  cn (decide (ck < (l.length:Int))) (
  gu (dH ck l.length) <|
  bd (d (l.getD (Int.toNat ck) default)) fun cw =>
  cn (cw) (
  some ck) (
  vx (wr .i64 (ck + 1)))) z) n 0 = some (i:Int))∨(i = l.length∧dF (fun vx (ck:Int) =>
  cn (decide (ck < (l.length:Int))) (
  gu (dH ck l.length) <|
  bd (d (l.getD (Int.toNat ck) default)) fun cw =>
  cn (cw) (
  some ck) (
  vx (wr .i64 (ck + 1)))) z) n 0 = z)):=by
  refine fR (fun (x:Int)=>∃k:Nat,x = k∧k ≤ l.length∧∀x ∈ l.take k,p x = false) (fun x=>l.length - x.toNat) (fun o=>∃i:Nat,i ≤ l.length∧(∀x ∈ l.take i,p x = false)∧((i < l.length∧p (l.getD i default) = true∧o = some (i:Int))∨(i = l.length∧o = z))) ?_ n 0 ⟨0,rfl,by omega,by simp⟩ (by omega)
  rintro kk x ⟨k,rfl,hk,hp⟩ ih
  by_cases c:k < l.length
  · have hm:l.getD k default ∈ l:=gU c
    rw [aK (decide_eq_true (by omega)),aD (cD (by omega) (by omega)),Int.toNat_natCast,av (hd _ hm)]
    cases hb:p (l.getD k default) with
    | true=>rw [aK rfl]; exact ⟨k,hk,hp, .inl ⟨c,hb,rfl⟩⟩
    | false =>
      rw [ax rfl,bT (by omega) (by omega)]
      refine ih _ ⟨k + 1,by omega,by omega,fun y hy=>?_⟩ (by omega)
      rw [List.take_succ_eq_append_getElem c,List.mem_append,List.mem_singleton] at hy
      rcases hy with hy | hy
      · exact hp y hy
      · rw [hy,← iT c]; exact hb
  · rw [ax (decide_eq_false (by omega))]
    exact ⟨k,hk,hp, .inr ⟨by omega,rfl⟩⟩
theorem LF (d:Int→Option Bool) (p:Int→Bool) (l:List Int) (hd:∀x ∈ l,d x = some (p x)) (hl:l.length < 1000) {i:Nat} (hi:i < l.length) (hp:p (l.getD i default) = true) (h0:∀x ∈ l.take i,p x = false) {n:Nat} (hn:l.length < n) :
    jZ (fun Gb (ef:(List Int)) (bJ:Int) (gF:Int) =>
  cn (decide (gF < (ef.length:Int))) (
  gu (dH gF ef.length) <|
  bd (d (ef.getD (Int.toNat gF) default)) fun gE =>
  cn ((!gE)) (
  gu (dH bJ ef.length) <|
  lt ((ef.set (Int.toNat bJ) (ef.getD (Int.toNat gF) default)):List Int) fun fh =>
  Gb fh (wr .i64 (bJ + 1)) (wr .i64 (gF + 1))) (
  Gb ef bJ (wr .i64 (gF + 1)))) (
  gu (dH bJ (ef.length + 1)) <|
  lt (ef.take (Int.toNat bJ)++List.replicate (ef.length - (Int.toNat bJ)) 0:List Int) fun dP =>
  gu (dH bJ (dP.length + 1)) <|
  lt (dP.take (Int.toNat bJ):List Int) fun u7 =>
  some u7)) n l (i:Int) (wr .i64 ((i:Int) + 1)) = some (l.filter fun x=>!p x):=by
  rw [bT (by omega) (by omega)]
  have K7:(l.take i).filter (fun x=>!p x) = l.take i:=List.filter_eq_self.2 fun x hx=>by rw [h0 x hx]; rfl
  have Ox:(l.take (i + 1)).filter (fun x=>!p x) = l.take i:=by
    rw [List.take_succ_eq_append_getElem hi,List.filter_append,K7,← iT hi]
    generalize l.getD i default = y at hp
    simp [hp]
  refine nf (fun (s:List Int) (a b:Int)=>∃u v:Nat,a = u∧b = v∧u < v∧v ≤ l.length∧s.length = l.length∧s.drop v = l.drop v∧s.take u = (l.take v).filter fun x=>!p x) (fun _ _ b=>l.length - b.toNat) (fun o=>o = some (l.filter fun x=>!p x)) ?_ n l i ((i:Int) + 1) ⟨i,i + 1,rfl,by omega,by omega,by omega,rfl,rfl,Ox.symm⟩ (by omega)
  rintro kk s a b ⟨u,v,rfl,rfl,huv,hv,hs,h1,h2⟩ ih
  by_cases c:v < l.length
  · have e1:s.getD v default = l.getD v default:=by
      have:=congrArg (fun q:List Int=>q[0]?) h1
      simp only [List.getElem?_drop,Nat.add_zero] at this
      rw [List.getD,List.getD,this]
    have hm:l.getD v default ∈ l:=gU c
    rw [aK (decide_eq_true (by omega)),aD (cD (by omega) (by omega)),Int.toNat_natCast,e1,av (hd _ hm),bT (x:=(v:Int) + 1) (by omega) (by omega)]
    have MC:∀q:List Int,q.drop v = l.drop v→q.drop (v + 1) = l.drop (v + 1):=fun q hq=>by
      rw [← List.drop_drop,← List.drop_drop,hq]
    have ht:(l.take (v + 1)).filter (fun x=>!p x) = (l.take v).filter (fun x=>!p x)++(if p (l.getD v default) = true then [] else [l.getD v default]):=by
      rw [List.take_succ_eq_append_getElem c,List.filter_append,← iT c]
      generalize l.getD v default = y
      cases hy:p y <;> simp [hy]
    cases hb:p (l.getD v default) with
    | true =>
      rw [ax (b:=!true) rfl]
      exact ih _ _ _ ⟨u,v + 1,rfl,by omega,by omega,by omega,hs,MC _ h1,by rw [ht,hb,h2]; simp⟩ (by omega)
    | false =>
      rw [aK (b:=!false) rfl,aD (cD (by omega) (by omega)),lt_eq,Int.toNat_natCast,bT (x:=(u:Int) + 1) (by omega) (by omega)]
      refine ih _ _ _ ⟨u + 1,v + 1,by omega,by omega,by omega,by omega,by rw [List.length_set]; exact hs,MC _ (by rw [List.drop_set_of_lt huv]; exact h1),?_⟩ (by omega)
      rw [ht,hb,← h2]
      have Od:u < (s.set u (l.getD v default)).length:=by rw [List.length_set]; omega
      rw [List.take_succ_eq_append_getElem Od,List.getElem_set_self,List.take_set_of_le (Nat.le_refl u)]
      rfl
  · obtain rfl:v = l.length:=by omega
    have Gy:(s.take u).length = u:=by rw [List.length_take]; omega
    rw [ax (decide_eq_false (by omega)),aD (cD (by omega) (by omega)),lt_eq,Int.toNat_natCast,aD (cD (by omega) (by simp; omega)),lt_eq]
    rw [List.take_append_of_le_length (by omega),List.take_of_length_le (by omega),h2,List.take_length]
section
variable {n:Nat} {t:aq} {w:ag}
theorem Cm (hn:100 ≤ n) (r:fF t w) {a:Int} (h0:0 ≤ a) (h1:a < 4294967296):gV n t a = some (oR w a):=by
  unfold gV oR
  rw [av (j8 r.book h0 h1)]
  cases hg:bk w.B a with
  | false=>rfl
  | true =>
    have hm:=bV r.book
    have hlen:=fx w.B 32
    rw [ax (b:=!true) rfl,if_pos rfl,av (Ip (by omega) r)]
    have hd:∀x ∈ Gw w,eR n x t a = some (cK w x != a):=fun x hx=>by
      have hx:=(hm x).1 hx
      unfold eR
      rw [av (oe r hx.1 (eN hx.2)),if_pos hx.2]; rfl
    have hk:fS (Gw w) (cK w) a = (Gw w).filter fun x=>!(cK w x != a):=by
      unfold fS; congr 1; funext x; simp [bne]
    unfold cv cy
    obtain ⟨i,i1,i2,i3⟩:=JR (n:=n) (fun x=>eR n x t a) (fun x=>cK w x != a) (Gw w) hd (by show (cz w.B 32).length < 1000; omega) (some (-1)) (by show (cz w.B 32).length < n; omega)
    rcases i3 with ⟨q1,q2,q3⟩ | ⟨q1,q3⟩
    · have:=LF (n:=n) (fun x=>eR n x t a) (fun x=>cK w x != a) (Gw w) hd (by show (cz w.B 32).length < 1000; omega) q1 q2 i2 (by show (cz w.B 32).length < n; omega)
      rw [av q3,ax (by simp)]
      refine (av this).trans ?_
      rw [hk]
    · rw [av q3,aK (by rfl)]
      refine (av rfl).trans ?_
      rw [hk]
      rw [q1,List.take_length] at i2
      exact congrArg some (List.filter_eq_self.2 fun x hx=>by have:=i2 x hx; simp only [this]; rfl).symm
theorem Jo {l:List Int} (hl:l.length < 1000) (hn:l.length < n):eK n l = some l.reverse:=by
  unfold eK
  rw [bT (by omega) (by omega)]
  refine nf (fun (s:List Int) (a b:Int)=>∃u:Nat,a = u∧b = (l.length:Int) - 1 - u∧s.length = l.length∧u ≤ l.length∧∀k,k < l.length→s.getD k default = if k < u∨l.length ≤ k + u then l.getD (l.length - 1 - k) default else l.getD k default) (fun _ _ b=>(b + 1).toNat) (fun o=>o = some l.reverse) ?_ n l 0 ((l.length:Int) - 1) ⟨0,rfl,by omega,rfl,by omega,fun k hk=>by rw [if_neg (by omega)]⟩ (by omega)
  rintro kk s a b ⟨u,rfl,rfl,hs,hu,hq⟩ ih
  by_cases c:2 * u + 1 < l.length
  · have e2:((l.length:Int) - 1 - u).toNat = l.length - 1 - u:=by omega
    rw [aK (decide_eq_true (by omega)),aD (cD (by omega) (by omega)),aD (cD (by omega) (by omega)),aD (cD (by omega) (by omega)),lt_eq,aD (cD (by omega) (by rw [List.length_set]; omega)),lt_eq,bT (x:=(u:Int) + 1) (by omega) (by omega),bT (x:=(l.length:Int) - 1 - u - 1) (by omega) (by omega),Int.toNat_natCast,e2]
    refine ih _ _ _ ⟨u + 1,by omega,by omega,by rw [List.length_set,List.length_set]; exact hs,by omega,fun k hk=>?_⟩ (by omega)
    have gs:∀(q:List Int) (i:Nat) (x:Int) (k:Nat),q.length = l.length→k < l.length→(q.set i x).getD k default = if i = k then x else q.getD k default:=fun q i x k h1 h2=>by
      rw [List.getD,List.getElem?_set]
      by_cases e:i = k
      · subst e; rw [if_pos rfl,if_pos (by omega),if_pos rfl]; rfl
      · rw [if_neg e,if_neg e,List.getD]
    have a1:=hq u (by omega)
    have a2:=hq (l.length - 1 - u) (by omega)
    rw [if_neg (by omega)] at a1 a2
    rw [gs _ _ _ _ (by rw [List.length_set]; exact hs) hk,gs _ _ _ _ hs hk,a1,a2,hq k hk]
    by_cases k1:l.length - 1 - u = k
    · rw [if_pos k1,if_pos (by omega)]; congr 1; omega
    · rw [if_neg k1]
      by_cases k2:u = k
      · rw [if_pos k2,if_pos (by omega)]; congr 1; omega
      · rw [if_neg k2]
        by_cases k3:k < u∨l.length ≤ k + u
        · rw [if_pos k3,if_pos (by omega)]
        · rw [if_neg k3,if_neg (by omega)]
  · rw [ax (decide_eq_false (by omega))]
    congr 1
    refine List.ext_getElem (by simp [hs]) fun k h1 h2=>?_
    have hk:k < l.length:=by omega
    rw [List.getElem_reverse,← iT h1,← iT (by omega),hq k hk]
    split
    · rfl
    · congr 1; omega
theorem p6 (hn:100 ≤ n) (r:fF t w) (tt:iJ w) {a:Int} (ha:bz w.B a):eZ n a t = some (V6 (Gw w) (cK w) a):=by
  obtain ⟨ρ,f⟩:=tN r tt
  have hm:=bV r.book
  unfold eZ
  have hv:=f.rL ((hm a).2 ha)
  refine (oP (fun s:List Int=>s.reverse.flatMap (V6 (Gw w) (cK w))) (fun s=>(∀x ∈ s,x ∈ Gw w)∧(s.reverse.flatMap (V6 (Gw w) (cK w))).length ≤ 32) (fun s=>(s.reverse.flatMap (V6 (Gw w) (cK w))).length) (fun k s hs ih=>?_) n [a] ⟨by simpa using (hm a).2 ha,by simpa using hv⟩ (by simp; omega)).trans (by simp)
  obtain ⟨hs,hlen⟩:=hs
  rcases uk s with rfl | ⟨i,x,rfl⟩
  · rfl
  · have hx:x ∈ Gw w:=hs x (by simp)
    have hxs:=(hm x).1 hx
    have e1:(i++[x]).reverse.flatMap (V6 (Gw w) (cK w)) = V6 (Gw w) (cK w) x++i.reverse.flatMap (V6 (Gw w) (cK w)):=by
      rw [List.reverse_append,List.reverse_singleton,List.singleton_append,List.flatMap_cons]
    have hge:∀q:List Int,(∀x ∈ q,x ∈ Gw w)→q.length ≤ (q.flatMap (V6 (Gw w) (cK w))).length:=fun q=>by
      induction q with
      | nil=>intro _; simp
      | cons b q ih =>
        intro hq
        have h1:=ih fun x hx=>hq x (by simp [hx])
        have h2:=f.sD (hq b (by simp))
        rw [List.flatMap_cons,List.length_append,h2,List.length_cons,List.length_cons]; omega
    have hi:=hge i.reverse fun y hy=>hs y (by simp at hy; simp [hy])
    rw [e1,List.length_append] at hlen
    have qw:i.length ≤ 32:=by rw [List.length_reverse] at hi; omega
    have ex:wr .i64 (((i++[x]).length:Int) - 1) = i.length:=by
      rw [List.length_append,List.length_singleton,bT (by omega) (by omega)]; omega
    have eg:(i++[x]).getD (Int.toNat (i.length:Int)) default = x:=by simp [List.getD]
    have hkn:oR w x = fS (Gw w) (cK w) x:=by unfold oR; rw [if_pos hxs.2]
    have Oq:(fS (Gw w) (cK w) x).length ≤ 32:=Nat.le_trans (List.length_filter_le _ _) f.len
    have hpos:0 < ((i++[x]).length:Int):=by rw [List.length_append,List.length_singleton]; omega
    rw [aK (decide_eq_true hpos),ex,aD (cD (by omega) (by simp; omega)),eg,av (Cm hn r hxs.1 (eN hxs.2)),hkn,av (Jo (by omega) (by omega)),aD (cD (by omega) (by simp; omega)),lt_eq]
    have et:(i++[x]).take (Int.toNat (i.length:Int)) = i:=by simp
    rw [et,aD (ko (by simp; omega) (by simp; omega)),lt_eq,e1,f.sD hx]
    have e2:(i++(fS (Gw w) (cK w) x).reverse).reverse.flatMap (V6 (Gw w) (cK w)) = (fS (Gw w) (cK w) x).flatMap (V6 (Gw w) (cK w))++i.reverse.flatMap (V6 (Gw w) (cK w)):=by
      rw [List.reverse_append,List.reverse_reverse,List.flatMap_append]
    have e3:=congrArg List.length (f.sD hx)
    rw [List.length_cons] at e3
    rw [ih _ ⟨fun y hy=>?_,by rw [e2,List.length_append]; omega⟩ (by rw [e2,e1,List.length_append,List.length_append]; omega),e2]
    · rfl
    · rcases List.mem_append.1 hy with h | h
      · exact hs y (by simp [h])
      · exact (gw.1 (List.mem_reverse.1 h)).1
theorem Bj (l x:List Int) (h:x.length + l.length ≤ 1000):ff (fun (LD:Int) Bf (dx:(List Int)) =>
  lt (LD:Int) fun lO =>
  gu (kV dx.length 1 4) <|
  lt (dx++([lO]):List Int) fun gE =>
  Bf gE) (fun (dx:(List Int)) =>
  some dx) l x = some (x++l):=by
  induction l generalizing x with
  | nil=>simp [ff]
  | cons a l ih =>
    rw [List.length_cons] at h
    have e:kV x.length 1 4 = true:=ko (by omega) (by omega)
    have:=ih (x++[a]) (by simp; omega)
    refine Eq.trans ?_ (this.trans (by simp))
    show gu (kV x.length 1 4) _ = _
    rw [aD e]; rfl
theorem yz (hn:100 ≤ n) (r:fF t w) (tt:iJ w) {a:Int} (h0:0 ≤ a) (h1:a < 4294967296):gm n t a = some (jL w a):=by
  unfold gm jL
  rw [av (j8 r.book h0 h1)]
  cases hg:bk w.B a with
  | false=>rfl
  | true =>
    obtain ⟨ρ,f⟩:=tN r tt
    have hv:=f.rL ((bV r.book a).2 ⟨h0,hg⟩)
    rw [ax (b:=!true) rfl,if_pos rfl]
    unfold fy cH bR
    rw [av rfl,av (p6 hn r tt ⟨h0,hg⟩),av (Bj _ [] (by simp; omega))]
    rfl
end
end Go.Proofs.Ytmdpbdhkmfjlhaa
namespace Go.Proofs.Ytmdpbdhkmfjlhaa
open Go Go.Bw
section
variable {n:Nat} {t:aq} {w:ag}
theorem qb (hn:40 ≤ n) (r:fF t w) {x:Int} (hx:bz w.B x):iP n w x = some (cK w x):=by
  unfold iP; rw [av (nH hn r hx)]; rfl
theorem ud (hn:100 ≤ n) (r:fF t w) {a:Int} (h0:0 ≤ a):jd n w a = some (oR w a):=by
  unfold jd
  have hm:=bV r.book
  have hlen:=fx w.B 32
  rw [av (wB (by omega) r)]
  refine eV (fun (s:List Int) (i:Int)=>∃k:Nat,i = k∧k ≤ (Gw w).length∧s = if bk w.B a = true then ((Gw w).take k).filter (fun y=>cK w y == a) else []) (fun _ i=>(Gw w).length - i.toNat) (fun o=>o = some (oR w a)) ?_ n [] 0 ⟨0,rfl,by omega,by simp⟩ (by show (Gw w).length - (0:Int).toNat < n; have:(Gw w).length ≤ 32:=hlen; omega)
  rintro kk s i ⟨k,rfl,hk,rfl⟩ ih
  have hl:(Gw w).length ≤ 32:=hlen
  have hl' : (cz w.B 32).length = (Gw w).length:=rfl
  by_cases c:k < (Gw w).length
  · have hx:=(hm _).1 (gU (l:=Gw w) (i:=k) c)
    have Ms:∀q:Bool,(if q = true then ((Gw w).take k).filter (fun y=>cK w y == a) else []).length ≤ 32:=fun q=>by
      split
      · exact Nat.le_trans (List.length_filter_le _ _) (by rw [List.length_take]; omega)
      · simp
    rw [aK (decide_eq_true (by omega)),av (bO (by omega) r h0),aD (by rw [cD (i:=(k:Int)) (n:=(cz w.B 32).length) (by omega) (by omega)]; simp),Int.toNat_natCast,c9 (qb (by omega) r hx),bT (x:=(k:Int) + 1) (by omega) (by omega)]
    have ht:((Gw w).take (k + 1)).filter (fun y=>cK w y == a) = ((Gw w).take k).filter (fun y=>cK w y == a)++(if cK w ((Gw w).getD k default) = a then [(Gw w).getD k default] else []):=by
      rw [List.take_succ_eq_append_getElem c,List.filter_append,← iT c]
      generalize (Gw w).getD k default = y
      by_cases hy:cK w y = a <;> simp [hy]
    have hs:=Ms (bk w.B a)
    cases hg:bk w.B a with
    | false =>
      rw [ax (by rfl)]
      exact ih _ _ ⟨k + 1,by omega,by omega,by rw [hg,if_neg (by decide),if_neg (by decide)]⟩ (by omega)
    | true =>
      rw [hg] at hs
      by_cases hu:cK w ((Gw w).getD k default) = a
      · rw [aK (show (true && ((bif true == true then cK w ((Gw w).getD k default) else default) == a)) = true by rw [hu]; simp),aD (cD (by omega) (by omega)),aD (ko (by omega) (by omega)),lt_eq]
        exact ih _ _ ⟨k + 1,by omega,by omega,by rw [hg,if_pos rfl,if_pos rfl,ht,if_pos hu]⟩ (by omega)
      · rw [ax (show (true && ((bif true == true then cK w ((Gw w).getD k default) else default) == a)) = false by simpa using hu)]
        exact ih _ _ ⟨k + 1,by omega,by omega,by rw [hg,if_pos rfl,if_pos rfl,ht,if_neg hu,List.append_nil]⟩ (by omega)
  · rw [ax (decide_eq_false (by omega))]
    unfold oR fS
    rw [List.take_of_length_le (by omega)]
theorem xl (r:fF t w) (tt:iJ w):∀(m:Nat) {ρ:Int→Nat},Fo (Gw w) (cK w) ρ→∀a,a ∈ Gw w→132 - ρ a < m→eB m w a = some (V6 (Gw w) (cK w) a):=by
  have hm:=bV r.book
  intro m
  induction m with
  | zero=>intro ρ f a ha h; omega
  | succ m ih =>
    intro ρ f a ha AF
    have hr:=f.rk a ha
    have hg:=(hm a).1 ha
    unfold eB
    have hkn:oR w a = fS (Gw w) (cK w) a:=by unfold oR; rw [if_pos hg.2]
    rw [av (bO (by omega) r hg.1),hg.2,ax (b:=!true) rfl,av (ud (by omega) r hg.1),hkn]
    have hv:=f.sD ha
    have hvl:=f.rL ha
    have Oq:(fS (Gw w) (cK w) a).length ≤ 32:=Nat.le_trans (List.length_filter_le _ _) f.len
    refine eV (fun (s:List Int) (i:Int)=>∃k:Nat,i = k∧k ≤ (fS (Gw w) (cK w) a).length∧s = a::((fS (Gw w) (cK w) a).take k).flatMap (V6 (Gw w) (cK w))) (fun _ i=>(fS (Gw w) (cK w) a).length - i.toNat) (fun o=>o = some (V6 (Gw w) (cK w) a)) ?_ m [a] 0 ⟨0,rfl,by omega,rfl⟩ (by omega)
    rintro kk s i ⟨k,rfl,hk,rfl⟩ Gi
    by_cases c:k < (fS (Gw w) (cK w) a).length
    · have hx:=gw.1 (gU (l:=fS (Gw w) (cK w) a) (i:=k) c)
      have PK:=f.Dl ha hx.1 hx.2
      have:=f.rk _ hx.1
      have ht:((fS (Gw w) (cK w) a).take (k + 1)).flatMap (V6 (Gw w) (cK w)) = ((fS (Gw w) (cK w) a).take k).flatMap (V6 (Gw w) (cK w))++V6 (Gw w) (cK w) ((fS (Gw w) (cK w) a).getD k default):=by
        rw [List.take_succ_eq_append_getElem c,List.flatMap_append,← iT c]; simp
      have hle:(((fS (Gw w) (cK w) a).take (k + 1)).flatMap (V6 (Gw w) (cK w))).length + 1 ≤ 32:=by
        have e:=congrArg List.length hv
        rw [List.length_cons,← List.take_append_drop (k + 1) (fS (Gw w) (cK w) a),List.flatMap_append,List.length_append] at e
        omega
      rw [ht,List.length_append] at hle
      rw [aK (decide_eq_true (by omega)),aD (cD (by omega) (by omega)),Int.toNat_natCast,av (ih f _ hx.1 (by omega)),aD (ko (by rw [List.length_cons]; omega) (by rw [List.length_cons]; omega)),lt_eq,bT (by omega) (by omega)]
      exact Gi _ _ ⟨k + 1,by omega,by omega,by rw [ht]; rfl⟩ (by omega)
    · rw [ax (decide_eq_false (by omega)),List.take_of_length_le (by omega),hv]
theorem pR (hn:200 ≤ n) (r:fF t w) (tt:iJ w) {a:Int} (h0:0 ≤ a):eB n w a = some (jL w a):=by
  unfold jL
  cases hg:bk w.B a with
  | false =>
    obtain ⟨m,rfl⟩ : ∃m,n = m + 1:=⟨n - 1,by omega⟩
    unfold eB; rw [av (bO (by omega) r h0),hg]; rfl
  | true =>
    obtain ⟨ρ,f⟩:=tN r tt
    have ha:=(bV r.book a).2 ⟨h0,hg⟩
    rw [if_pos rfl]
    exact xl r tt n f a ha (by omega)
theorem AX (r:fF t w) (tt:iJ w):∀(m:Nat) {ρ:Int→Nat},Fo (Gw w) (cK w) ρ→∀a,a ∈ Gw w→ρ a + 100 < m→dN m w a = some (1 + ((U6 (cK w) a).length:Int)):=by
  have hm:=bV r.book
  intro m
  induction m with
  | zero=>intro ρ f a ha h; omega
  | succ m ih =>
    intro ρ f a ha AF
    have hg:=(hm a).1 ha
    have hl:=f.yA ha
    unfold dN
    rw [av (bO (by omega) r hg.1),hg.2,ax (b:=!true) rfl,av (qb (by omega) r hg)]
    by_cases hu:cK w a = 0
    · have h0:dN m w 0 = some 0:=by
        obtain ⟨m,rfl⟩ : ∃k,m = k + 1:=⟨m - 1,by omega⟩
        unfold dN; rw [av (bO (by omega) r (by omega)),r6]; rfl
      rw [hu,av h0,f.u0 ha hu]; rfl
    · rw [av (ih f _ (f.yx ha hu) (by have:=f.dn a ha hu; omega))]
      rw [f.u1 ha hu,List.length_cons] at hl ⊢
      rw [bT (by omega) (by omega)]; congr 1; omega
theorem oM (hn:200 ≤ n) (r:fF t w) (tt:iJ w) {a:Int} (h0:0 ≤ a):dN n w a = some (fb w a):=by
  unfold fb
  cases hg:bk w.B a with
  | false =>
    obtain ⟨m,rfl⟩ : ∃m,n = m + 1:=⟨n - 1,by omega⟩
    unfold dN; rw [av (bO (by omega) r h0),hg]; rfl
  | true =>
    obtain ⟨ρ,f⟩:=tN r tt
    have ha:=(bV r.book a).2 ⟨h0,hg⟩
    rw [if_pos rfl]
    exact AX r tt n f a ha (by have:=f.rk a ha; omega)
theorem Db (r:fF t w) (tt:iJ w):∀(m:Nat) {ρ:Int→Nat},Fo (Gw w) (cK w) ρ→∀a,a ∈ Gw w→ρ a + 100 < m→gP m w a = some (tY (cK w) a):=by
  have hm:=bV r.book
  intro m
  induction m with
  | zero=>intro ρ f a ha h; omega
  | succ m ih =>
    intro ρ f a ha AF
    have hg:=(hm a).1 ha
    have gg:=bO (n:=m) (by omega) r hg.1
    unfold gP
    rw [av gg,hg.2,c9 (qb (by omega) r hg),f.rt_eq ha]
    by_cases hu:cK w a = 0
    · rw [ax (by rw [show (true == true) = true from rfl,cond_true,hu]; rfl),av gg,hg.2,aK rfl,if_pos hu]
    · rw [aK (by rw [show (true == true) = true from rfl,cond_true]; simpa using hu),av (qb (by omega) r hg),av (ih f _ (f.yx ha hu) (by have:=f.dn a ha hu; omega)),if_neg hu]
theorem yP (hn:200 ≤ n) (r:fF t w) (tt:iJ w) {a:Int} (h0:0 ≤ a):gP n w a = some (kH w a):=by
  unfold kH
  cases hg:bk w.B a with
  | false =>
    obtain ⟨m,rfl⟩ : ∃m,n = m + 1:=⟨n - 1,by omega⟩
    have gg:=bO (n:=m) (by omega) r h0
    rw [hg] at gg
    unfold gP; rw [av gg,uG (by rfl),ax (by rfl),av gg]; rfl
  | true =>
    obtain ⟨ρ,f⟩:=tN r tt
    have ha:=(bV r.book a).2 ⟨h0,hg⟩
    rw [if_pos rfl]
    exact Db r tt n f a ha (by have:=f.rk a ha; omega)
theorem sJ (hn:40 ≤ n) (r:fF t w) (tt:iJ w) (a:Int) {b:Int} (hb:bz w.B b):bK n w a b = some ((U6 (cK w) b).contains a):=by
  obtain ⟨ρ,f⟩:=tN r tt
  have hm:=bV r.book
  unfold bK
  refine (oP (fun x=>if x = 0 then false else (U6 (cK w) x).contains a) (fun x=>x = 0∨bz w.B x) (fun x=>if x = 0 then 0 else ρ x + 1) (fun k x hx ih=>?_) n b (.inr hb) ?_).trans (by rw [if_neg (f.pos b ((hm b).2 hb))])
  · by_cases h0:x = 0
    · subst h0; rw [ax (by rfl)]; rfl
    · have hg:=hx.resolve_left h0
      have hG:=(hm x).2 hg
      have Kx:=dJ x
      rw [aK (by simpa using h0),av (de hn r.book hg.1),hg.2,if_pos rfl,aD (fO x),if_neg h0]
      show cn (cK w x == a) (some (a != 0)) (k (cK w x)) = _
      by_cases hu:cK w x = 0
      · rw [hu,f.u0 hG hu]
        by_cases ha:a = 0
        · subst ha; rw [aK (by rfl)]; rfl
        · rw [ax (by simpa using Ne.symm ha),ih 0 (.inl rfl) (by rw [if_pos rfl,if_neg h0]; omega)]; rfl
      · rw [f.u1 hG hu]
        by_cases ha:cK w x = a
        · rw [aK (by simpa using ha)]
          have:a ≠ 0:=ha ▸ hu
          rw [List.contains_cons,ha]; simp [this]
        · rw [ax (by simpa using ha),ih _ (.inr ((hm _).1 (f.yx hG hu))) (by rw [if_neg hu,if_neg h0]; have:=f.dn x hG hu; omega),if_neg hu,List.contains_cons]
          congr 1
          have:(a == cK w x) = false:=by simpa using Ne.symm ha
          rw [this,Bool.false_or]
  · have hp:=f.pos b ((hm b).2 hb)
    rw [if_neg hp]; have:=f.rk b ((hm b).2 hb); omega
theorem wA (hn:200 ≤ n) (r:fF t w) (tt:iJ w) {a b:Int} (h0:0 ≤ a) (k0:0 ≤ b):fP n w a b = some (pI w a b):=by
  unfold fP pI
  rw [av (bO (by omega) r h0),c9 (bO (by omega) r k0)]
  cases hg:bk w.B a with
  | false=>rfl
  | true =>
    cases hk:bk w.B b with
    | false=>rfl
    | true =>
      by_cases e:a = b
      · subst e; rw [uG (by simp)]; simp
      · refine (gI (by simpa using e) (sJ (by omega) r tt a ⟨k0,hk⟩)).trans ?_
        rfl
theorem Bh (d:Int→Option Int) (e:Option Int) (v:Int→Int) (c:Int) (hc:0 ≤ c∧c ≤ 1000) (he:e = some c) (l:List Int) (hd:∀x ∈ l,d x = some (v x)∧0 ≤ v x∧v x ≤ 1000) (x:Int) (h0:0 ≤ x∧x ≤ 5000) :
    ff (fun (BF:Int) Be (eo:Int) =>
  lt (BF:Int) fun fI =>
  bd (d fI) fun gE =>
  bd e fun gA =>
  lt ((if eo < wr .i64 ((wr .i64 (gE - gA)) + 1) then wr .i64 ((wr .i64 (gE - gA)) + 1) else eo):Int) fun fh =>
  Be fh) (fun (eo:Int) =>
  some eo) l x = some (l.foldl (fun m y=>max m (v y - c + 1)) x):=by
  subst he
  induction l generalizing x with
  | nil=>rfl
  | cons a l ih =>
    obtain ⟨a1,a2,a3⟩:=hd a (by simp)
    have e1:wr .i64 (v a - c) = v a - c:=bT (by omega) (by omega)
    have e2:wr .i64 (v a - c + 1) = v a - c + 1:=bT (by omega) (by omega)
    have key:=ih (fun y hy=>hd y (by simp [hy])) (max x (v a - c + 1)) (by omega)
    rw [List.foldl_cons,← key]
    show bd (d a) _ = _
    rw [av a1,av rfl,e1,e2]
    show ff _ _ l _ = _
    congr 1
    simp only [Int.max_def]
    split <;> split <;> omega
theorem zP (v:Int→Int) (c:Int) (l:List Int) (x k:Int):k < l.foldl (fun m y=>max m (v y - c + 1)) x↔k < x∨∃y ∈ l,k < v y - c + 1:=by
  induction l generalizing x with
  | nil=>simp
  | cons a l ih =>
    rw [List.foldl_cons,ih]
    constructor
    · rintro (h | ⟨y,hy,h⟩)
      · rcases Int.lt_or_le k x with h1 | h1
        · exact .inl h1
        · exact .inr ⟨a,by simp,by omega⟩
      · exact .inr ⟨y,by simp [hy],h⟩
    · rintro (h | ⟨y,hy,h⟩)
      · exact .inl (by omega)
      · rcases List.mem_cons.1 hy with e | hy
        · subst e; exact .inl (by omega)
        · exact .inr ⟨y,hy,h⟩
end
end Go.Proofs.Ytmdpbdhkmfjlhaa
namespace Go.Proofs.Ytmdpbdhkmfjlhaa
open Go Go.Bw
def oG (w:ag):Prop:=∀g,bz w.B g→(0 ≤ (w.R (bN g)).bP∧(w.R (bN g)).bP ≤ 64)∧∀n,110 ≤ n→cT n (w.R (bN g)).E = some true
def A3:bI:={ Up:=0,bP:=0,E:=cE,Cells:=(fun _=>0) }
def wL (w:ag) (h:Int):ag:=if bk w.B h = true then ⟨yd w.B h,fun j=>if j < 32∧(er w.R (bN h) A3 j).Up = h then { er w.R (bN h) A3 j with Up:=0 } else er w.R (bN h) A3 j⟩ else w
theorem xm {n:Nat} (hn:40 ≤ n) (h:Int) (w:ag):dD (fun Cp (ga:Int) (my:ag) =>
  cn (decide (ga < 32)) (
  gu (dH ga 32) <|
  cn ((((my.R (Int.toNat ga)).Up) == h)) (
  gu (dH ga 32) <|
  lt ({ my with R:=(er my.R (Int.toNat ga) ({ (my.R (Int.toNat ga)) with Up:=0 })) }:ag) fun tP =>
  Cp (wr .i64 (ga + 1)) tP) (
  Cp (wr .i64 (ga + 1)) my)) (
  some (my,(0:Int)))) n 0 w = some (({ B:=w.B,R:=fun j=>if j < 32∧(w.R j).Up = h then { w.R j with Up:=0 } else w.R j }:ag),0):=by
  refine eV (fun (i:Int) (v:ag)=>0 ≤ i∧i ≤ 32∧v.B = w.B∧∀j,v.R j = if j < i.toNat∧(w.R j).Up = h then { w.R j with Up:=0 } else w.R j) (fun i _=>(32 - i).toNat)
    (fun o=>o = some (({ B:=w.B,R:=fun j=>if j < 32∧(w.R j).Up = h then { w.R j with Up:=0 } else w.R j }:ag),0)) ?_ n 0 w ⟨by omega,by omega,rfl,fun j=>by simp⟩ (by omega)
  rintro kk i v ⟨i0,i1,hb,hv⟩ ih
  by_cases c:i < 32
  · have hi:=hv i.toNat
    rw [if_neg (fun hh=>absurd hh.1 (Nat.lt_irrefl _))] at hi
    rw [aK (by simpa using c),aD (cD i0 (by omega)),hi,bT (x:=i + 1) (by omega) (by omega)]
    have e1:(i + 1).toNat = i.toNat + 1:=by omega
    have step:∀j,j ≠ i.toNat→(if j < i.toNat∧(w.R j).Up = h then { w.R j with Up:=0 } else w.R j) = (if j < (i + 1).toNat∧(w.R j).Up = h then { w.R j with Up:=0 } else w.R j):=fun j hj=>by
      by_cases hu:(w.R j).Up = h
      · by_cases hl:j < i.toNat
        · rw [if_pos ⟨hl,hu⟩,if_pos ⟨by omega,hu⟩]
        · rw [if_neg (fun hh=>hl hh.1),if_neg (fun hh=>by omega)]
      · rw [if_neg (fun hh=>hu hh.2),if_neg (fun hh=>hu hh.2)]
    by_cases hu:(w.R i.toNat).Up = h
    · rw [aK (by simpa using hu),aD (cD i0 (by omega)),lt_eq]
      refine ih _ _ ⟨by omega,by omega,hb,fun j=>?_⟩ (by omega)
      show er v.R i.toNat _ j = _
      rw [cr]
      by_cases ej:j = i.toNat
      · subst ej; rw [if_pos rfl,if_pos ⟨by omega,hu⟩]
      · rw [if_neg ej,hv j,step j ej]
    · rw [ax (by simpa using hu)]
      refine ih _ _ ⟨by omega,by omega,hb,fun j=>?_⟩ (by omega)
      rw [hv j]
      by_cases ej:j = i.toNat
      · subst ej; rw [if_neg (fun hh=>hu hh.2),if_neg (fun hh=>hu hh.2)]
      · exact step j ej
  · rw [ax (by simpa using c)]
    have e:v = ({ B:=w.B,R:=fun j=>if j < 32∧(w.R j).Up = h then { w.R j with Up:=0 } else w.R j }:ag):=by
      obtain ⟨vb,vr⟩:=v
      congr 1
      funext j
      rw [show vr j = _ from hv j,show i.toNat = 32 by omega]
    rw [e]
section
variable {n:Nat} {t:aq} {w:ag}
theorem uf (hn:40 ≤ n) (r:fF t w) {h:Int} (h0:0 ≤ h):dm n w h = some (wL w h,if bk w.B h = true then 0 else 4):=by
  unfold dm wL
  have hr:=dJ h
  rw [av (de hn r.book h0)]
  cases hg:bk w.B h with
  | false=>rfl
  | true =>
    rw [if_pos rfl,ax (by simp; omega),av (uc hn r.book h0),lt_eq,lt_eq,aD (fO h),lt_eq,if_pos rfl,if_pos rfl]
    exact xm (n:=n) hn h ⟨yd w.B h,er w.R (bN h) A3⟩
theorem CD (hn:40 ≤ n) (r:fF t w) (tt:iJ w) {h:Int} (h0:0 ≤ h) (h1:h < 4294967296) :
    ∃t',dM n t h = some (t',if bk w.B h = true then 0 else 4)∧fF t' (wL w h)∧iJ (wL w h):=by
  obtain ⟨t',w',e,e1,e2,k⟩:=HQ hn r tt h0 h1
  obtain ⟨rfl,rfl⟩:=Prod.mk.inj (Option.some.inj (e2.symm.trans (uf hn r h0)))
  exact ⟨t',e1,k.rt,k.tt⟩
theorem qD (r:fF t w) {h:Int} (h0:0 ≤ h) (x:Int):bz (wL w h).B x↔bz w.B x∧x ≠ h:=by
  unfold wL
  cases hg:bk w.B h with
  | false =>
    rw [if_neg (by decide)]
    exact ⟨fun hx=>⟨hx,fun e=>by subst e; have:=hx.2; rw [hg] at this; cases this⟩,fun hx=>hx.1⟩
  | true=>rw [if_pos rfl]; exact sC r.book h0 x
theorem wK (r:fF t w) {h:Int} (h0:0 ≤ h) {x:Int} (hx:bz (wL w h).B x):(wL w h).R (bN x) = if cK w x = h then { w.R (bN x) with Up:=0 } else w.R (bN x):=by
  obtain ⟨x1,x2⟩:=(qD r h0 x).1 hx
  unfold wL
  cases hg:bk w.B h with
  | false =>
    rw [if_neg (by decide)]
    split
    · rename_i hu
      have:h = 0∨bz w.B h:=by rw [← hu]; exact r.C1 x1
      rcases this with e | e
      · have:(w.R (bN x)).Up = 0:=hu.trans e
        rw [← this]
      · have:=e.2; rw [hg] at this; cases this
    · rfl
  | true =>
    rw [if_pos rfl]
    have hne:bN x ≠ bN h:=fun e=>x2 (by rw [← eM x1,← eM ⟨h0,hg⟩,e])
    dsimp only
    rw [iM _ _ hne]
    by_cases hu:cK w x = h
    · rw [if_pos hu,if_pos ⟨jW x,hu⟩]
    · rw [if_neg hu,if_neg (fun hh=>hu hh.2)]
theorem Ep (r:fF t w) {h:Int} (h0:0 ≤ h) {x:Int} (hx:bz (wL w h).B x):cK (wL w h) x = if cK w x = h then 0 else cK w x:=by
  unfold cK
  rw [wK r h0 hx]
  show (if (w.R (bN x)).Up = h then _ else _:bI).Up = _
  split <;> rfl
theorem oG.drop (i:oG w) (r:fF t w) {h:Int} (h0:0 ≤ h):oG (wL w h):=fun g hg=>by
  have:=i g ((qD r h0 g).1 hg).1
  rw [wK r h0 hg]
  split
  · exact this
  · exact this
def p5 (w:ag) (h a:Int):ag:={ w with R:=er w.R (bN h) { w.R (bN h) with Up:=a } }
theorem rQ (hn:40 ≤ n) (r:fF t w) (tt:iJ w) {h a:Int} (hh:bz w.B h) (ha:a = 0∨bz w.B a) (hno:¬ (a ≠ 0∧(a = h∨h ∈ U6 (cK w) a))):dS n w h a = some (p5 w h a,0):=by
  unfold dS p5
  have a0:0 ≤ a:=by rcases ha with e | e; omega; exact e.1
  have ok:yW w.B a = true:=by
    unfold yW
    rcases ha with e | e
    · rw [e]; rfl
    · rw [e.2,Bool.or_true]
  have e0:∀v:Bool,(((!true) == false) && v) = v:=fun v=>by cases v <;> rfl
  rw [av (bO hn r hh.1),c9 (bO hn r a0),hh.2,e0,jl,ok,ax (by rfl)]
  have key:∀F:Bool→Option (ag × Int),(cl (((a != 0) == true) && ((a == h) == false)) (bK n w h a) default fun dx=>F ((a != 0) && ((a == h) || dx))) = F false:=fun F=>by
    by_cases e:a = 0
    · subst e; rfl
    · have hg:=ha.resolve_left e
      have h1:a ≠ h:=fun q=>hno ⟨e, .inl q⟩
      have h2:(U6 (cK w) a).contains h = false:=by
        rw [← Bool.not_eq_true,List.contains_iff_mem]; exact fun q=>hno ⟨e, .inr q⟩
      have e1:(a == h) = false:=by simpa using h1
      rw [gI (by simp [e,h1]) (sJ hn r tt h hg),h2,e1]; simp
  rw [key (fun v=>cn v (some (w,12)) (bd (bC n w.B h) fun bJ =>
  gu (dH bJ 32) <|
  lt ({ w with R:=(er w.R (Int.toNat bJ) ({ (w.R (Int.toNat bJ)) with Up:=a })) }:ag) fun eX =>
  some (eX,0))),ax rfl,av (de hn r.book hh.1),hh.2,if_pos rfl,aD (fO h)]
  rfl
theorem yS (hn:40 ≤ n) (r:fF t w) (tt:iJ w) {h a:Int} (hh:bz w.B h) (ha:a = 0∨bz w.B a) (hno:¬ (a ≠ 0∧(a = h∨h ∈ U6 (cK w) a))) :
    ∃t',dz n t h a = some (t',0)∧fF t' (p5 w h a)∧iJ (p5 w h a):=by
  have a0:0 ≤ a∧a < 4294967296:=by rcases ha with e | e; omega; exact ⟨e.1,eN e.2⟩
  obtain ⟨t',w',e,e1,e2,k⟩:=Dc hn r tt hh.1 (eN hh.2) a0.1 a0.2
  obtain ⟨rfl,rfl⟩:=Prod.mk.inj (Option.some.inj (e2.symm.trans (rQ hn r tt hh ha hno)))
  exact ⟨t',e1,k.rt,k.tt⟩
theorem C2 {h a x:Int} (hh:bz w.B h) (hx:bz w.B x):cK (p5 w h a) x = if x = h then a else cK w x:=by
  unfold cK p5
  dsimp only
  rw [cr]
  by_cases e:x = h
  · rw [if_pos e,if_pos (by rw [e])]
  · rw [if_neg e,if_neg (fun q=>e (by rw [← eM hx,← eM hh,q]))]
theorem oG.up (i:oG w) (h a:Int):oG (p5 w h a):=fun g hg=>by
  have:=i g hg
  unfold p5
  dsimp only
  rw [cr]
  split
  · rename_i e; rw [e] at this; exact this
  · exact this
def yE (w:ag) (h:Int) (x:bI):ag:={ w with R:=er w.R (bN h) { x with Up:=(w.R (bN h)).Up } }
theorem wz (hn:40 ≤ n) (r:fF t w) {h:Int} (hh:bz w.B h) {x:bI} (hq:0 ≤ x.bP∧x.bP ≤ 64) (hm:cT n x.E = some true):dY n w h x = some (yE w h x,0):=by
  unfold dY yE
  have Kx:=dJ h
  rw [av (de (by omega) r.book hh.1),hh.2,if_pos rfl,ax (by simp; omega),c9 hm]
  have e2:(decide (x.bP < 0) || decide (64 < x.bP)) = false:=by rw [Bool.or_eq_false_iff,decide_eq_false_iff_not,decide_eq_false_iff_not]; omega
  rw [e2,ax (by rfl),aD (fO h),lt_eq,aD (fO h),lt_eq]
  rfl
theorem FG (hn:110 ≤ n) (r:fF t w) (tt:iJ w) {h:Int} (hh:bz w.B h) {p:bt} {x:bI} (hx:tE p x) (hq:0 ≤ x.bP∧x.bP ≤ 64) (hm:cT n x.E = some true) :
    ∃t',dI n t h p = some (t',0)∧fF t' (yE w h x)∧iJ (yE w h x):=by
  obtain ⟨t',w',e,e1,e2,k⟩:=Jn hn r tt hh.1 (eN hh.2) hx
  obtain ⟨rfl,rfl⟩:=Prod.mk.inj (Option.some.inj (e2.symm.trans (wz (by omega) r hh hq hm)))
  exact ⟨t',e1,k.rt,k.tt⟩
theorem oG.set (i:oG w) {h:Int} (hh:bz w.B h) {x:bI} (hq:x.bP = (w.R (bN h)).bP) (he:x.E = (w.R (bN h)).E):oG (yE w h x):=fun g hg=>by
  have h1:=i g hg
  have h2:=i h hh
  unfold yE
  dsimp only
  rw [cr]
  split
  · dsimp only; rw [hq,he]; exact h2
  · exact h1
theorem AW (hn:40 ≤ n) (r:fF t w) {a q:Int} (ha:a = 0∨bz w.B a) (hq:0 ≤ q∧q ≤ 64) {f:Nat} (hf:oH w.B f) :
    cQ n w a q = some (if f < 32 then (⟨iC w.B f,er w.R f ⟨a,q,cE,fun _=>0⟩⟩,gR f (w.B.ia f),0) else (w,0,7)):=by
  have a0:0 ≤ a:=by rcases ha with e | e; omega; exact e.1
  have ok:yW w.B a = true:=by
    unfold yW
    rcases ha with e | e
    · rw [e]; rfl
    · rw [e.2,Bool.or_true]
  unfold cQ
  rw [c9 (bO hn r a0),jl,ok,ax (b:=!true) rfl,ax (by simp; omega),av (pg hn r.book hf)]
  by_cases hl:f < 32
  · rw [if_pos hl,if_pos hl]
    have hr:=r.book.iK f hl
    obtain ⟨q1,q2,q3,q4,q5⟩:=lU (i:=f) (g:=w.B.ia f) (by omega) (by omega) hr.1 hr.2
    obtain ⟨b',i1,i2⟩:=ur (n:=n) hn r.book hf
    rw [if_pos hl] at i2
    have hnew:bz (iC w.B f) (gR f (w.B.ia f)):=(je r.book hf hl _).2 (.inr rfl)
    have hfn:(g5 (gR f (w.B.ia f))).toNat = f:=by rw [q2]; omega
    rw [ax (by simp; omega),lt_eq]
    dsimp only
    rw [av (de hn i2 (by omega)),hnew.2,if_pos rfl]
    show gu (dH (g5 (gR f (w.B.ia f))) 32) _ = _
    rw [aD (fO _),hfn]; rfl
  · rw [if_neg hl,if_neg hl]; rfl
end
end Go.Proofs.Ytmdpbdhkmfjlhaa
namespace Go.Proofs.Ytmdpbdhkmfjlhaa
open Go Go.Bw
abbrev eI (w:ag) (l:List Int):ag:=l.foldl wL w
section
variable {n:Nat} {t:aq} {w:ag}
theorem zS (l:List Int):∀{t:aq} {w:ag},fF t w→iJ w→oG w→(∀x ∈ l,0 ≤ x∧x < 4294967296)→(∃t',fF t' (eI w l))∧iJ (eI w l)∧oG (eI w l)∧(∀y,bz (eI w l).B y↔bz w.B y∧y ∉ l)∧(∀y,bz (eI w l).B y→cK (eI w l) y = if cK w y ∈ l then 0 else cK w y):=by
  induction l with
  | nil=>intro t w r tt i _; exact ⟨⟨t,r⟩,tt,i,fun y=>by simp,fun y _=>by simp⟩
  | cons x l ih =>
    intro t w r tt i hl
    have hx:=hl x (by simp)
    obtain ⟨t1,_,r1,IU⟩:=CD (n:=40) (by omega) r tt hx.1 hx.2
    obtain ⟨a1,a2,a3,a4,a5⟩:=ih r1 IU (i.drop r hx.1) fun y hy=>hl y (by simp [hy])
    refine ⟨a1,a2,a3,fun y=>?_,fun y hy=>?_⟩
    · refine (a4 y).trans ?_
      rw [qD r hx.1,List.mem_cons,not_or,and_assoc]
    · refine (a5 y hy).trans ?_
      rw [Ep r hx.1 ((a4 y).1 hy).1]
      by_cases e:cK w y = x
      · rw [if_pos e,if_pos (List.mem_cons.2 (.inl e))]; split <;> rfl
      · rw [if_neg e]
        by_cases e2:cK w y ∈ l
        · rw [if_pos e2,if_pos (List.mem_cons_of_mem _ e2)]
        · rw [if_neg e2,if_neg (fun h=>(List.mem_cons.1 h).elim e e2)]
theorem Eo (hn:100 ≤ n) (r:fF t w) (tt:iJ w) {l:List Int} (hl:∀x ∈ l,0 ≤ x∧x < 4294967296) (hlen:l.length ≤ 40):∃t',dD (fun F9 (dP:Int) (m7:aq) =>
  cn (decide (dP < (l.length:Int))) (
  gu (dH dP l.length) <|
  bd (dM n m7 (l.getD (Int.toNat dP) default)) fun qW =>
  F9 (wr .i64 (dP + 1)) qW.1) (
  some (m7,l,(0:Int)))) n 0 t = some (t',l,0)∧fF t' (eI w l)∧iJ (eI w l):=by
  refine eV (fun (i:Int) (t:aq)=>∃k:Nat,i = k∧k ≤ l.length∧fF t (eI w (l.take k))∧iJ (eI w (l.take k))) (fun i _=>l.length - i.toNat) (fun o=>∃t',o = some (t',l,0)∧fF t' (eI w l)∧iJ (eI w l)) ?_ n 0 t ⟨0,rfl,by omega,r,tt⟩ (by omega)
  rintro kk i t ⟨k,rfl,hk,r,tt⟩ ih
  by_cases c:k < l.length
  · have hx:=hl _ (gU (l:=l) (i:=k) c)
    obtain ⟨t1,e1,r1,IU⟩:=CD (n:=n) (by omega) r tt hx.1 hx.2
    have et:wL (eI w (l.take k)) (l.getD k default) = eI w (l.take (k + 1)):=by
      rw [List.take_succ_eq_append_getElem c,← iT c,eI,eI,List.foldl_append]; rfl
    rw [et] at r1 IU
    rw [aK (decide_eq_true (by omega)),aD (cD (by omega) (by omega)),Int.toNat_natCast,av e1,bT (by omega) (by omega)]
    exact ih _ _ ⟨k + 1,by omega,by omega,r1,IU⟩ (by omega)
  · rw [ax (decide_eq_false (by omega))]
    rw [List.take_of_length_le (by omega)] at r tt
    exact ⟨t,rfl,r,tt⟩
theorem En (hn:100 ≤ n) (r:fF t w) (tt:iJ w) (i:oG w) {l:List Int} (hl:∀x ∈ l,0 ≤ x∧x < 4294967296) (hlen:l.length ≤ 40) {ρ:Type} (F:ag→Option ρ):dD (fun Ga (fI:Int) (fL:ag) =>
  cn (decide (fI < (l.length:Int))) (
  gu (dH fI l.length) <|
  bd (dm n fL (l.getD (Int.toNat fI) default)) fun m7 =>
  Ga (wr .i64 (fI + 1)) m7.1) (
  F fL)) n 0 w = F (eI w l):=by
  refine eV (fun (i:Int) (v:ag)=>∃k:Nat,i = k∧k ≤ l.length∧v = eI w (l.take k)) (fun i _=>l.length - i.toNat) (fun o=>o = F (eI w l)) ?_ n 0 w ⟨0,rfl,by omega,rfl⟩ (by omega)
  rintro kk x v ⟨k,rfl,hk,rfl⟩ ih
  by_cases c:k < l.length
  · have hx:=hl _ (gU (l:=l) (i:=k) c)
    obtain ⟨⟨t1,r1⟩,_⟩:=zS (l.take k) r tt i fun y hy=>hl y (List.mem_of_mem_take hy)
    rw [aK (decide_eq_true (by omega)),aD (cD (by omega) (by omega)),Int.toNat_natCast,av (uf (by omega) r1 hx.1),bT (by omega) (by omega)]
    exact ih _ _ ⟨k + 1,by omega,by omega,by rw [List.take_succ_eq_append_getElem c,← iT c,eI,eI,List.foldl_append]; rfl⟩ (by omega)
  · rw [ax (decide_eq_false (by omega)),List.take_of_length_le (by omega)]
theorem pP (r:fF t w) (tt:iJ w) (a:Int):(∀x ∈ jL w a,bz w.B x)∧(jL w a).length ≤ 32:=by
  unfold jL
  cases hg:bk w.B a with
  | false=>exact ⟨fun x hx=>(by rw [if_neg (by decide)] at hx; cases hx),by simp⟩
  | true =>
    rw [if_pos rfl]
    by_cases h0:0 ≤ a
    · obtain ⟨ρ,f⟩:=tN r tt
      have ha:=(bV r.book a).2 ⟨h0,hg⟩
      exact ⟨fun x hx=>(bV r.book x).1 ((f.nu ha x).1 hx).1,f.rL ha⟩
    · exact absurd hg (by
        intro h
        have h3:=(fU.1 h).2.2
        have h4:=r.book.iK (bN a) (jW a)
        unfold bN at h4
        omega)
theorem p7 (r:fF t w) (tt:iJ w) (a:Int):∀x ∈ jL w a,0 ≤ x∧x < 4294967296:=fun x hx=>by
  have:=(pP r tt a).1 x hx; exact ⟨this.1,eN this.2⟩
theorem AS (r:fF t w) (tt:iJ w) {a:Int} (h0:0 ≤ a):(jL w a).length = 0↔bk w.B a = false:=by
  unfold jL
  cases hg:bk w.B a with
  | false=>simp
  | true =>
    obtain ⟨ρ,f⟩:=tN r tt
    rw [if_pos rfl,f.sD ((bV r.book a).2 ⟨h0,hg⟩)]; simp
theorem HM (hn:200 ≤ n) (r:fF t w) (tt:iJ w) (i:oG w) {a:Int} (h0:0 ≤ a) (h1:a < 4294967296) :
    ∃t',jw n t a = some (t',jL w a,if bk w.B a = true then 0 else 4)∧jX n w a = some (eI w (jL w a),jL w a,if bk w.B a = true then 0 else 4)∧fF t' (eI w (jL w a))∧iJ (eI w (jL w a)):=by
  have hr:=p7 r tt a
  have hl:=(pP r tt a).2
  have hz:=AS r tt h0
  unfold jw jX
  rw [av (yz (by omega) r tt h0 h1),av (pR (by omega) r tt h0)]
  have hR:=En (n:=n) (by omega) r tt i hr (by omega) fun v=>cn (((jL w a).length:Int) == 0) (some (v,([]:List Int),(4:Int))) (some (v,jL w a,0))
  cases hg:bk w.B a with
  | false =>
    have e:=List.length_eq_zero_iff.1 (hz.2 hg)
    rw [e] at hR ⊢
    exact ⟨t,by rw [aK (by rfl)]; rfl,hR,r,tt⟩
  | true =>
    have e:(((jL w a).length:Int) == 0) = false:=by
      have:(jL w a).length ≠ 0:=fun q=>by have:=hz.1 q; rw [hg] at this; cases this
      simpa using this
    obtain ⟨t',e1,e2,e3⟩:=Eo (n:=n) (by omega) r tt hr (by omega)
    rw [ax e]
    refine ⟨t',e1,?_,e2,e3⟩
    rw [hR,ax e]; rfl
def BH (L:List Int) (c0 c:Nat→Int):Nat→Int:=fun i=>if i < 8∧L.contains (c0 i) = true then 0 else c i
theorem HV {α ρ:Type} (get:α→Nat→Int) (put:α→Nat→α) (p:α) (c:Nat→Int) (d:Int→Option Bool) (L:List Int) (hd:∀i,i < 8→d (c i) = some (L.contains (c i))) (fin:(Nat→Int)→α) (h0:fin (get p) = p)
    (hput:∀g i,put (fin g) i = fin (er g i 0)) (F:α→Option ρ) {m:Nat} (hm:10 ≤ m):dD (fun Cn (mz:Int) (kz:α) =>
  cn (decide (mz < 8)) (
  gu (dH mz 8) <|
  bd (d (c (Int.toNat mz))) fun vg =>
  cn (vg) (
  gu (dH mz 8) <|
  lt (put kz (Int.toNat mz)) fun xb =>
  Cn (wr .i64 (mz + 1)) xb) (
  Cn (wr .i64 (mz + 1)) kz)) (
  F kz)) m 0 p = F (fin (BH L c (get p))):=by
  refine eV (fun (i:Int) (v:α)=>∃k:Nat,i = k∧k ≤ 8∧v = fin (fun j=>if j < k∧L.contains (c j) = true then 0 else get p j)) (fun i _=>8 - i.toNat) (fun o=>o = F (fin (BH L c (get p)))) ?_ m 0 p ⟨0,rfl,by omega,by simp [h0]⟩ (by omega)
  rintro kk x v ⟨k,rfl,hk,rfl⟩ ih
  by_cases q:k < 8
  · rw [aK (decide_eq_true (by omega)),aD (cD (by omega) (by omega)),Int.toNat_natCast,av (hd k q),bT (by omega) (by omega)]
    have st:∀j,j ≠ k→(if j < k + 1∧L.contains (c j) = true then (0:Int) else get p j) = if j < k∧L.contains (c j) = true then 0 else get p j:=fun j hj=>by
      by_cases h1:L.contains (c j) = true
      · by_cases h2:j < k
        · rw [if_pos ⟨by omega,h1⟩,if_pos ⟨h2,h1⟩]
        · rw [if_neg (fun h=>by omega),if_neg (fun h=>h2 h.1)]
      · rw [if_neg (fun h=>h1 h.2),if_neg (fun h=>h1 h.2)]
    cases hc:L.contains (c k) with
    | true =>
      rw [aK rfl,aD (cD (by omega) (by omega)),lt_eq,hput]
      refine ih _ _ ⟨k + 1,by omega,by omega,?_⟩ (by omega)
      congr 1; funext j
      rw [cr]
      by_cases e:j = k
      · subst e; rw [if_pos rfl,if_pos ⟨by omega,hc⟩]
      · rw [if_neg e,st j e]
    | false =>
      rw [ax rfl]
      refine ih _ _ ⟨k + 1,by omega,by omega,?_⟩ (by omega)
      congr 1; funext j
      by_cases e:j = k
      · subst e; rw [if_neg (fun h=>by rw [hc] at h; exact absurd h.2 (by decide)),if_neg (fun h=>by rw [hc] at h; exact absurd h.2 (by decide))]
      · rw [st j e]
  · rw [ax (decide_eq_false (by omega))]
    obtain rfl:k = 8:=by omega
    rfl
def AG (w0:ag) (L:List Int) (v:ag) (x:Int):ag:={ v with R:=er v.R (bN x) { v.R (bN x) with Cells:=BH L (w0.R (bN x)).Cells (v.R (bN x)).Cells } }
abbrev om (w:ag) (L l:List Int):ag:=l.foldl (AG w L) w
theorem xP (w0:ag) (L l:List Int):∀v:ag,(l.foldl (AG w0 L) v).B = v.B:=by
  induction l with
  | nil=>intro v; rfl
  | cons x l ih=>intro v; exact ih _
theorem Bx {B:aC} {x y:Int} (hx:bz B x) (hy:bz B y) (e:bN x = bN y):x = y:=by rw [← eM hx,← eM hy,e]
end
end Go.Proofs.Ytmdpbdhkmfjlhaa
namespace Go.Proofs.Ytmdpbdhkmfjlhaa
open Go Go.Bw
section
variable {n:Nat} {t:aq} {w:ag}
theorem AZ (r:fF t w) (tt:iJ w) {h:Int} (hh:bz w.B h) {c:Int} (c0:0 ≤ c):((c != h) && pI w c h) = (U6 (cK w) h).contains c:=by
  obtain ⟨ρ,f⟩:=tN r tt
  have hG:=(bV r.book h).2 hh
  unfold pI
  by_cases e:c = h
  · subst e
    have:(U6 (cK w) c).contains c = false:=by rw [← Bool.not_eq_true,List.contains_iff_mem]; exact f.Ch hG
    rw [this]; simp
  · have e1:(c != h) = true:=by simpa using e
    have e2:(c == h) = false:=by simpa using e
    rw [e1,e2,hh.2]
    cases hc:(U6 (cK w) h).contains c with
    | false=>simp
    | true =>
      have:=(bV r.book c).1 (f.pc hG c (List.contains_iff_mem.1 hc)).1
      rw [this.2]; rfl
theorem Es (hn:100 ≤ n) (r:fF t w) (tt:iJ w) {h:Int} (hh:bz w.B h) (s:Int) (hs:0 ≤ s∧s < 32) (v:ag) {ρ:Type} (F:ag→Option ρ) :
    dD (fun Co (kF:Int) (jF:ag) =>
  cn (decide (kF < 8)) (
  gu (dH s 32) <|
  gu (dH kF 8) <|
  cl ((((w.R (Int.toNat s)).Cells (Int.toNat kF)) != 0) == true) (bK n w ((w.R (Int.toNat s)).Cells (Int.toNat kF)) h) default fun Cd =>
  cn (((((w.R (Int.toNat s)).Cells (Int.toNat kF)) != 0) && Cd)) (
  gu (dH s 32) <|
  gu (dH kF 8) <|
  lt ({ jF with R:=(er jF.R (Int.toNat s) ({ (jF.R (Int.toNat s)) with Cells:=(er ((jF.R (Int.toNat s)).Cells) (Int.toNat kF) 0) })) }:ag) fun yb =>
  Co (wr .i64 (kF + 1)) yb) (
  Co (wr .i64 (kF + 1)) jF)) (
  F jF)) n 0 v = F { v with R:=er v.R s.toNat { v.R s.toNat with Cells:=BH (U6 (cK w) h) (w.R s.toNat).Cells (v.R s.toNat).Cells } }:=by
  obtain ⟨ρ',f⟩:=tN r tt
  have hG:=(bV r.book h).2 hh
  have KH:dH s 32 = true:=cD hs.1 (by omega)
  have key:∀(c:Int) (G:Bool→Option ρ),(cl ((c != 0) == true) (bK n w c h) default fun Cd=>G ((c != 0) && Cd)) = G ((U6 (cK w) h).contains c):=fun c G=>by
    by_cases e:c = 0
    · subst e
      have:(U6 (cK w) h).contains 0 = false:=by
        rw [← Bool.not_eq_true,List.contains_iff_mem]; exact fun q=>f.pos 0 (f.pc hG 0 q).1 rfl
      rw [this]; rfl
    · have e1:(c != 0) = true:=by simpa using e
      rw [gI (by rw [e1]; rfl) (sJ (by omega) r tt c hh),e1,Bool.true_and]
  refine eV (fun (i:Int) (x:ag)=>∃k:Nat,i = k∧k ≤ 8∧x = { v with R:=er v.R s.toNat { v.R s.toNat with Cells:=fun j=>if j < k∧(U6 (cK w) h).contains ((w.R s.toNat).Cells j) = true then 0 else (v.R s.toNat).Cells j } }) (fun i _=>8 - i.toNat)
    (fun o=>o = F { v with R:=er v.R s.toNat { v.R s.toNat with Cells:=BH (U6 (cK w) h) (w.R s.toNat).Cells (v.R s.toNat).Cells } }) ?_ n 0 v ⟨0,rfl,by omega,?_⟩ (by omega)
  · rintro kk x y ⟨k,rfl,hk,rfl⟩ ih
    by_cases q:k < 8
    · have Fa:dH (k:Int) 8 = true:=cD (by omega) (by omega)
      have st:∀j,j ≠ k→(if j < k + 1∧(U6 (cK w) h).contains ((w.R s.toNat).Cells j) = true then (0:Int) else (v.R s.toNat).Cells j) = if j < k∧(U6 (cK w) h).contains ((w.R s.toNat).Cells j) = true then 0 else (v.R s.toNat).Cells j:=fun j hj=>by
        by_cases h1:(U6 (cK w) h).contains ((w.R s.toNat).Cells j) = true
        · by_cases h2:j < k
          · rw [if_pos ⟨by omega,h1⟩,if_pos ⟨h2,h1⟩]
          · rw [if_neg (fun h=>by omega),if_neg (fun h=>h2 h.1)]
        · rw [if_neg (fun h=>h1 h.2),if_neg (fun h=>h1 h.2)]
      rw [aK (decide_eq_true (by omega)),aD KH,aD Fa,Int.toNat_natCast,bT (x:=(k:Int) + 1) (by omega) (by omega)]
      refine (key _ (fun b=>cn b _ _)).trans ?_
      cases hc:(U6 (cK w) h).contains ((w.R s.toNat).Cells k) with
      | true =>
        rw [aK rfl,aD KH,aD Fa,lt_eq]
        refine ih _ _ ⟨k + 1,by omega,by omega,?_⟩ (by omega)
        dsimp only
        rw [sG,oK]
        congr 2
        congr 1
        funext j
        rw [cr]
        by_cases e:j = k
        · subst e; rw [if_pos rfl,if_pos ⟨by omega,hc⟩]
        · rw [if_neg e,st j e]
      | false =>
        rw [ax rfl]
        refine ih _ _ ⟨k + 1,by omega,by omega,?_⟩ (by omega)
        dsimp only
        congr 2
        congr 1
        funext j
        by_cases e:j = k
        · subst e; rw [if_neg (fun h=>by rw [hc] at h; exact absurd h.2 (by decide)),if_neg (fun h=>by rw [hc] at h; exact absurd h.2 (by decide))]
        · rw [st j e]
    · rw [ax (decide_eq_false (by omega))]
      obtain rfl:k = 8:=by omega
      rfl
  · have:(fun j=>if j < 0∧(U6 (cK w) h).contains ((w.R s.toNat).Cells j) = true then (0:Int) else (v.R s.toNat).Cells j) = (v.R s.toNat).Cells:=by funext j; simp
    rw [this]
    obtain ⟨vb,vr⟩:=v
    congr 1
    funext j
    rw [cr]
    split
    · rename_i e; rw [e]
    · rfl
theorem HU (hn:200 ≤ n) {t0:aq} {w0:ag} (r0:fF t0 w0) (Mg:iJ w0) (i0:oG w0) {h:Int} (hh:bz w0.B h) (fin:aq→Option (aq × Int)) (l:List Int):∀{t:aq} {w:ag},fF t w→iJ w→oG w→w.B = w0.B→(∀x ∈ l,bz w.B x∧w.R (bN x) = w0.R (bN x))→l.Nodup →
    ∃t',ff (fun (Lz:Int) JO (dP:aq) =>
  lt (Lz:Int) fun lP =>
  bd (cP n dP lP) fun nF =>
  dD (fun Cn (mz:Int) (kz:bt) =>
  cn (decide (mz < 8)) (
  gu (dH mz 8) <|
  bd (gp n (nF.1.Cells (Int.toNat mz)) h t0) fun vg =>
  cn (vg) (
  gu (dH mz 8) <|
  lt ({ kz with Cells:=(er kz.Cells (Int.toNat mz) 0) }:bt) fun xb =>
  Cn (wr .i64 (mz + 1)) xb) (
  Cn (wr .i64 (mz + 1)) kz)) (
  bd (dI n dP lP kz) fun vf =>
  JO vf.1)) n 0 nF.1) fin l t = fin t'∧fF t' (l.foldl (AG w0 (U6 (cK w0) h)) w)∧iJ (l.foldl (AG w0 (U6 (cK w0) h)) w)∧oG (l.foldl (AG w0 (U6 (cK w0) h)) w):=by
  induction l with
  | nil=>intro t w r tt i _ _ _; exact ⟨t,rfl,r,tt,i⟩
  | cons x l ih =>
    intro t w r tt i hb hl hd
    obtain ⟨hx,hd⟩:=List.nodup_cons.1 hd
    obtain ⟨hg,hr⟩:=hl x (by simp)
    obtain ⟨l1,l2⟩:=dB hg
    have hR:=r.Cj _ l1 l2
    have hq:=i x hg
    have hc:∀k,k < 8→gp n ((kQ t w x).Cells k) h t0 = some ((U6 (cK w0) h).contains ((kQ t w x).Cells k)):=fun k hk=>by
      have e1:(kQ t w x).Cells k = (w.R (bN x)).Cells k:=hR.c k hk
      have e2:=hR.c0 k hk
      rw [e1]
      unfold gp
      rw [c9 (sL (by omega) r0 Mg e2.1 (by omega) hh.1 (eN hh.2)),← AZ r0 Mg hh e2.1]
      cases h3:((w.R (bN x)).Cells k != h) <;> rfl
    have hin:=fun F:bt→Option (aq × Int)=>HV (fun v:bt=>v.Cells) (fun v k=>{ v with Cells:=er v.Cells k 0 }) (kQ t w x) (kQ t w x).Cells (fun c=>gp n c h t0) (U6 (cK w0) h) hc (fun g=>{ kQ t w x with Cells:=g }) rfl (fun _ _=>rfl) F (m:=n) (by omega)
    have hp:tE { kQ t w x with Cells:=BH (U6 (cK w0) h) (kQ t w x).Cells (kQ t w x).Cells } { w.R (bN x) with Cells:=BH (U6 (cK w0) h) (w0.R (bN x)).Cells (w.R (bN x)).Cells }:=by
      refine ⟨hR.q,hR.e,hR.n,hR.r,fun k hk=>?_,fun k hk=>?_⟩
      · show (if k < 8∧(U6 (cK w0) h).contains ((kQ t w x).Cells k) = true then 0 else (kQ t w x).Cells k) = if k < 8∧(U6 (cK w0) h).contains ((w0.R (bN x)).Cells k) = true then 0 else (w.R (bN x)).Cells k
        have e1:(kQ t w x).Cells k = (w.R (bN x)).Cells k:=hR.c k hk
        rw [e1,← hr]
      · have:=hR.c0 k hk
        show 0 ≤ (if k < 8∧(U6 (cK w0) h).contains ((w0.R (bN x)).Cells k) = true then 0 else (w.R (bN x)).Cells k)∧(if k < 8∧(U6 (cK w0) h).contains ((w0.R (bN x)).Cells k) = true then 0 else (w.R (bN x)).Cells k) ≤ 4294967295
        split
        · decide
        · exact this
    obtain ⟨t1,s1,s2,s3⟩:=FG (n:=n) (by omega) r tt hg hp hq.1 (hq.2 n (by omega))
    have et:yE w x { w.R (bN x) with Cells:=BH (U6 (cK w0) h) (w0.R (bN x)).Cells (w.R (bN x)).Cells } = AG w0 (U6 (cK w0) h) w x:=rfl
    rw [et] at s2 s3
    have si:oG (AG w0 (U6 (cK w0) h) w x):=i.set hg (x:={ w.R (bN x) with Cells:=BH (U6 (cK w0) h) (w0.R (bN x)).Cells (w.R (bN x)).Cells }) rfl rfl
    have pz:∀y ∈ l,bz (AG w0 (U6 (cK w0) h) w x).B y∧(AG w0 (U6 (cK w0) h) w x).R (bN y) = w0.R (bN y):=fun y hy=>by
      obtain ⟨y1,y2⟩:=hl y (by simp [hy])
      refine ⟨y1,?_⟩
      rw [← y2]
      unfold AG
      exact iM _ _ (fun q=>hx (by rw [Bx hg y1 q.symm]; exact hy))
    obtain ⟨t',q1,q2,q3,q4⟩:=ih s2 s3 si hb pz hd
    refine ⟨t',?_,q2,q3,q4⟩
    refine Eq.trans ?_ q1
    show bd (cP n t x) _ = _
    rw [av (oe r hg.1 (eN hg.2)),if_pos hg.2]
    refine (hin _).trans ?_
    rw [av s1]
theorem HT (hn:200 ≤ n) (r:fF t w) (tt:iJ w) {h:Int} (hh:bz w.B h) {l:List Int} (hl:∀x ∈ l,bz w.B x) (hlen:l.length ≤ 40) {ρ:Type} (F:ag→Option ρ) :
    dD (fun JN (jk:Int) (dP:ag) =>
  cn (decide (jk < (l.length:Int))) (
  gu (dH jk l.length) <|
  bd (bC n w.B (l.getD (Int.toNat jk) default)) fun lP =>
  dD (fun Co (kF:Int) (jF:ag) =>
  cn (decide (kF < 8)) (
  gu (dH lP 32) <|
  gu (dH kF 8) <|
  cl ((((w.R (Int.toNat lP)).Cells (Int.toNat kF)) != 0) == true) (bK n w ((w.R (Int.toNat lP)).Cells (Int.toNat kF)) h) default fun Cd =>
  cn (((((w.R (Int.toNat lP)).Cells (Int.toNat kF)) != 0) && Cd)) (
  gu (dH lP 32) <|
  gu (dH kF 8) <|
  lt ({ jF with R:=(er jF.R (Int.toNat lP) ({ (jF.R (Int.toNat lP)) with Cells:=(er ((jF.R (Int.toNat lP)).Cells) (Int.toNat kF) 0) })) }:ag) fun yb =>
  Co (wr .i64 (kF + 1)) yb) (
  Co (wr .i64 (kF + 1)) jF)) (
  JN (wr .i64 (jk + 1)) jF)) n 0 dP) (
  F dP)) n 0 w = F (om w (U6 (cK w) h) l):=by
  refine eV (fun (i:Int) (v:ag)=>∃k:Nat,i = k∧k ≤ l.length∧v = om w (U6 (cK w) h) (l.take k)) (fun i _=>l.length - i.toNat) (fun o=>o = F (om w (U6 (cK w) h) l)) ?_ n 0 w ⟨0,rfl,by omega,rfl⟩ (by omega)
  rintro kk x v ⟨k,rfl,hk,rfl⟩ ih
  by_cases c:k < l.length
  · have hx:=hl _ (gU (l:=l) (i:=k) c)
    rw [aK (decide_eq_true (by omega)),aD (cD (by omega) (by omega)),Int.toNat_natCast,av (de (by omega) r.book hx.1),hx.2,if_pos rfl,Es (by omega) r tt hh _ (by have:=dJ (l.getD k default); omega),bT (by omega) (by omega)]
    exact ih _ _ ⟨k + 1,by omega,by omega,by rw [List.take_succ_eq_append_getElem c,← iT c,om,om,List.foldl_append]; rfl⟩ (by omega)
  · rw [ax (decide_eq_false (by omega)),List.take_of_length_le (by omega)]
def xQ (w:ag) (h:Int):ag:=if bk w.B h = true then p5 (om w (U6 (cK w) h) (V6 (Gw w) (cK w) h)) h 0 else w
theorem LJ (hn:200 ≤ n) (r:fF t w) (tt:iJ w) (i:oG w) {h:Int} (h0:0 ≤ h) (h1:h < 4294967296) :
    ∃t',jf n t h = some (t',if bk w.B h = true then 0 else 4)∧k9 n w h = some (xQ w h,if bk w.B h = true then 0 else 4)∧fF t' (xQ w h)∧iJ (xQ w h)∧oG (xQ w h):=by
  unfold jf k9 xQ
  rw [av (j8 r.book h0 h1),av (bO (by omega) r h0)]
  cases hg:bk w.B h with
  | false =>
    simp only [Bool.false_eq_true,if_false]
    exact ⟨t,rfl,rfl,r,tt,i⟩
  | true =>
    rw [if_pos rfl,if_pos rfl]
    have hh:bz w.B h:=⟨h0,hg⟩
    obtain ⟨ρ,f⟩:=tN r tt
    have hm:=bV r.book
    have hG:=(hm h).2 hh
    have hu:jL w h = V6 (Gw w) (cK w) h:=by unfold jL; rw [if_pos hg]
    have hl:∀x ∈ V6 (Gw w) (cK w) h,bz w.B x:=fun x hx=>(hm x).1 ((f.nu hG x).1 hx).1
    rw [ax (b:=!true) rfl,ax (b:=!true) rfl]
    unfold fy
    rw [av rfl,av (p6 (by omega) r tt hh),av (pR (by omega) r tt h0),hu]
    obtain ⟨t1,a1,a2,a3,a4⟩:=HU (n:=n) hn r tt i hh (fun dP=>bd (dz n dP h 0) fun Az=>some (Az.1,Az.2)) (V6 (Gw w) (cK w) h) r tt i rfl (fun x hx=>⟨hl x hx,rfl⟩) (f.Fu hG)
    have hb:(om w (U6 (cK w) h) (V6 (Gw w) (cK w) h)).B = w.B:=xP _ _ _ _
    have Ov:bz (om w (U6 (cK w) h) (V6 (Gw w) (cK w) h)).B h:=by rw [hb]; exact hh
    obtain ⟨t2,b1,b2,b3⟩:=yS (n:=n) (by omega) a2 a3 Ov (a:=0) (.inl rfl) (fun q=>q.1 rfl)
    refine ⟨t2,?_,?_,b2,b3,a4.up h 0⟩
    · refine a1.trans ?_
      rw [av b1]
    · refine (HT (n:=n) hn r tt hh hl (by have:=f.rL hG; omega) _).trans ?_
      generalize om w (U6 (cK w) h) (V6 (Gw w) (cK w) h) = v
      rw [av (de (by omega) r.book h0),hg,if_pos rfl,aD (fO h)]
      rfl
end
end Go.Proofs.Ytmdpbdhkmfjlhaa
namespace Go.Proofs.Ytmdpbdhkmfjlhaa
open Go Go.Bw
section
variable {G:List Int} {up up' : Int→Int} {ρ ρ' : Int→Nat}
theorem Fo.Ls (f:Fo G up ρ) (f' : Fo G up' ρ') {h a:Int} (E8:∀x ∈ G,up' x = if x = h then a else up x) (ha:a ≠ 0) (h0:up h = 0):∀y ∈ G,U6 up' y = if y = h∨h ∈ U6 up y then U6 up y++(a::U6 up' a) else U6 up y:=by
  refine f.vl _ fun y hy ih=>?_
  have hu:=E8 y hy
  by_cases e:y = h
  · subst e
    rw [if_pos rfl] at hu
    rw [if_pos (.inl rfl),f.u0 hy h0,f'.u1 hy (by rw [hu]; exact ha),hu]; rfl
  · rw [if_neg e] at hu
    by_cases e0:up y = 0
    · rw [f'.u0 hy (hu.trans e0),f.u0 hy e0,if_neg (fun q=>q.elim e (by simp))]
    · have hi:=ih e0
      rw [f'.u1 hy (by rw [hu]; exact e0),hu,hi,f.u1 hy e0]
      by_cases q:up y = h∨h ∈ U6 up (up y)
      · rw [if_pos q,if_pos (.inr (List.mem_cons.2 (q.imp Eq.symm _root_.id)))]; rfl
      · rw [if_neg q,if_neg (fun p=>p.elim e fun p=>q ((List.mem_cons.1 p).imp Eq.symm _root_.id))]
theorem Fo.Lr (f:Fo G up ρ) (f' : Fo G up' ρ') {h a:Int} (E8:∀x ∈ G,up' x = if x = h then a else up x) (hh:h ∈ G) (h0:up h = 0) (hno:¬ (a = h∨h ∈ U6 up a)):∀x ∈ G,(x = h∨h ∈ U6 up x)→V6 G up' x = V6 G up x:=by
  refine f.Er _ fun x hx ih hv=>?_
  have hk:fS G up' x = fS G up x:=by
    unfold fS
    refine List.filter_congr fun y hy=>?_
    rw [E8 y hy]
    by_cases e:y = h
    · subst e
      have e1:(a == x) = false:=by
        simp only [beq_eq_false_iff_ne,ne_eq]
        exact fun q=>hno (by rw [q]; exact hv)
      have e2:(up y == x) = false:=by
        rw [h0]; simp only [beq_eq_false_iff_ne,ne_eq]; exact fun q=>f.pos x hx q.symm
      rw [if_pos rfl,e1,e2]
    · rw [if_neg e]
  rw [f.sD hx,f'.sD hx,hk]
  congr 1
  refine nR fun y hy=>?_
  obtain ⟨y1,y2⟩:=gw.1 hy
  refine ih y y1 y2 (.inr ?_)
  rw [f.u1 y1 (by rw [y2]; exact f.pos x hx),y2]
  exact List.mem_cons.2 (hv.imp Eq.symm _root_.id)
end
section
variable {n:Nat} {t:aq} {w:ag}
theorem s5 (r:fF t w) (tt:iJ w) (x:Int):0 ≤ fb w x∧fb w x ≤ 33:=by
  unfold fb
  by_cases hg:bk w.B x = true
  · rw [if_pos hg]
    by_cases h0:0 ≤ x
    · obtain ⟨ρ,f⟩:=tN r tt
      have:=f.yA ((bV r.book x).2 ⟨h0,hg⟩); omega
    · have h3:=(fU.1 hg).2.2
      have h4:=r.book.iK (bN x) (jW x)
      unfold bN at h4; omega
  · rw [if_neg hg]; omega
theorem FD (hn:200 ≤ n) (r:fF t w) (tt:iJ w) {h:Int} (hh:bz w.B h):∃m,jv n t h = some m∧0 ≤ m∧m ≤ 34∧∀k,0 ≤ k→(k < m↔∃y ∈ V6 (Gw w) (cK w) h,k < fb w y - fb w h + 1):=by
  obtain ⟨ρ,f⟩:=tN r tt
  have hm:=bV r.book
  have hG:=(hm h).2 hh
  have hd:=fun x=>s5 r tt x
  unfold jv fy
  rw [av rfl,av (p6 (by omega) r tt hh)]
  have hl:∀x ∈ V6 (Gw w) (cK w) h,dw n t x = some (fb w x)∧0 ≤ fb w x∧fb w x ≤ 1000:=fun x hx=>by
    have hx:=(hm x).1 ((f.nu hG x).1 hx).1
    have:=hd x
    exact ⟨qE (by omega) r tt hx.1 (eN hx.2),by omega,by omega⟩
  have key:=Bh (fun x=>dw n t x) (dw n t h) (fb w) (fb w h) (by have:=hd h; omega) (qE (by omega) r tt hh.1 (eN hh.2)) (V6 (Gw w) (cK w) h) hl 0 (by omega)
  have hf:=zP (fb w) (fb w h) (V6 (Gw w) (cK w) h) 0
  have PN:1 ≤ fb w h:=by unfold fb; rw [if_pos hh.2]; omega
  refine ⟨_,key,?_,?_,fun k hk=>(hf k).trans ⟨fun q=>q.resolve_left (by omega), .inr⟩⟩
  · have:=(hf (-1)).2 (.inl (by omega)); omega
  · rcases Int.lt_or_le 34 ((V6 (Gw w) (cK w) h).foldl (fun m y=>max m (fb w y - fb w h + 1)) 0) with q | q
    · rcases (hf 34).1 q with q | ⟨y,_,q⟩
      · omega
      · have:=hd y; omega
    · exact q
theorem Jz (d:Int→Option Int) (v:Int→Int) (l:List Int) (hd:∀x ∈ l,d x = some (v x)) (hlen:l.length ≤ 40) {ρ:Type} (A B:Option ρ) (hn:100 ≤ n) :
    ((∃y ∈ l,6 < v y)→dF (fun F8 (ga:Int) =>
  cn (decide (ga < (l.length:Int))) (
  gu (dH ga l.length) <|
  bd (d (l.getD (Int.toNat ga) default)) fun nF =>
  cn (decide (6 < nF)) A (
  F8 (wr .i64 (ga + 1)))) B) n 0 = A)∧((∀y ∈ l,v y ≤ 6)→dF (fun F8 (ga:Int) =>
  cn (decide (ga < (l.length:Int))) (
  gu (dH ga l.length) <|
  bd (d (l.getD (Int.toNat ga) default)) fun nF =>
  cn (decide (6 < nF)) A (
  F8 (wr .i64 (ga + 1)))) B) n 0 = B):=by
  refine fR (fun (i:Int)=>∃k:Nat,i = k∧k ≤ l.length∧∀y ∈ l.take k,v y ≤ 6) (fun i=>l.length - i.toNat) (fun o=>((∃y ∈ l,6 < v y)→o = A)∧((∀y ∈ l,v y ≤ 6)→o = B)) ?_ n 0 ⟨0,rfl,by omega,by simp⟩ (by omega)
  rintro kk x ⟨k,rfl,hk,hp⟩ ih
  by_cases c:k < l.length
  · have hm:l.getD k default ∈ l:=gU c
    rw [aK (decide_eq_true (by omega)),aD (cD (by omega) (by omega)),Int.toNat_natCast,av (hd _ hm)]
    by_cases q:6 < v (l.getD k default)
    · rw [aK (decide_eq_true q)]
      exact ⟨fun _=>rfl,fun h=>by have:=h _ hm; omega⟩
    · rw [ax (decide_eq_false q),bT (by omega) (by omega)]
      refine ih _ ⟨k + 1,by omega,by omega,fun y hy=>?_⟩ (by omega)
      rw [List.take_succ_eq_append_getElem c,List.mem_append,List.mem_singleton] at hy
      rcases hy with hy | hy
      · exact hp y hy
      · rw [hy,← iT c]; omega
  · rw [ax (decide_eq_false (by omega))]
    rw [List.take_of_length_le (by omega)] at hp
    exact ⟨fun ⟨y,hy,q⟩=>by have:=hp y hy; omega,fun _=>rfl⟩
structure Pn (w:ag) (h a:Int) (w' : ag) (e:Int):Prop where
  no:e ≠ 0→w' = w
  is:e = 0→w' = p5 w h a∧bz w.B h∧bz w.B a∧cK w h = 0∧¬ (a = h∨h ∈ U6 (cK w) a)∧∀y ∈ V6 (Gw w) (cK w) h,fb w' y ≤ 6
theorem Eh (hn:200 ≤ n) (r:fF t w) (tt:iJ w) (i:oG w) {h a:Int} (h0:0 ≤ h) (h1:h < 4294967296) (a0:0 ≤ a) (a1:a < 4294967296) :
    ∃t' w' e,g9 n t h a = some (t',e)∧jt n w h a = some (w',e)∧fF t' w'∧iJ w'∧oG w'∧Pn w h a w' e:=by
  unfold g9 jt
  rw [av (j8 r.book h0 h1),av (bO (by omega) r h0),c9 (j8 r.book a0 a1),c9 (bO (by omega) r a0)]
  cases hg:bk w.B h with
  | false=>exact ⟨t,w,4,rfl,rfl,r,tt,i,⟨fun _=>rfl,fun h=>absurd h (by decide)⟩⟩
  | true =>
  cases hk:bk w.B a with
  | false=>exact ⟨t,w,4,rfl,rfl,r,tt,i,⟨fun _=>rfl,fun h=>absurd h (by decide)⟩⟩
  | true =>
  have hh:bz w.B h:=⟨h0,hg⟩
  have ha:bz w.B a:=⟨a0,hk⟩
  obtain ⟨ρ,f⟩:=tN r tt
  have hm:=bV r.book
  have hG:=(hm h).2 hh
  have aG:=(hm a).2 ha
  have Oh:kH w h = tY (cK w) h:=by unfold kH; rw [if_pos hg]
  have Mv:pI w h a = ((h == a) || (U6 (cK w) a).contains h):=by unfold pI; rw [hg,hk]; rfl
  rw [ax (by rfl),ax (by rfl),av (yO (by omega) r tt h0 h1),av (qb (by omega) r hh),c9 (sL (by omega) r tt h0 h1 a0 a1),c9 (wA (by omega) r tt h0 a0),Oh]
  by_cases hu:cK w h = 0
  · have e1:(tY (cK w) h != h) = false:=by simpa using (f.yL hG).2 hu
    have e2:(cK w h != 0) = false:=by simpa using hu
    rw [e1,e2]
    by_cases ho:a = h∨h ∈ U6 (cK w) a
    · have e3:pI w h a = true:=by
        rw [Mv,Bool.or_eq_true,beq_iff_eq,List.contains_iff_mem]; exact ho.imp Eq.symm _root_.id
      rw [e3]
      exact ⟨t,w,12,rfl,rfl,r,tt,i,⟨fun _=>rfl,fun h=>absurd h (by decide)⟩⟩
    · have e3:pI w h a = false:=by
        rw [Mv,Bool.or_eq_false_iff,beq_eq_false_iff_ne,← Bool.not_eq_true,List.contains_iff_mem]
        exact ⟨fun q=>ho (.inl q.symm),fun q=>ho (.inr q)⟩
      have an:a ≠ 0:=f.pos a aG
      obtain ⟨t',b1,b2,b3⟩:=yS (n:=n) (by omega) r tt hh (.inr ha) (fun q=>ho q.2)
      obtain ⟨ρ',f'⟩:=tN b2 b3
      have E8:∀x ∈ Gw w,cK (p5 w h a) x = if x = h then a else cK w x:=fun x hx=>C2 hh ((hm x).1 hx)
      have f' : Fo (Gw w) (cK (p5 w h a)) ρ':=f'
      have gu:=f.Ls f' E8 an hu
      have gv:=f.Lr f' E8 hG hu ho h hG (.inl rfl)
      have ua:U6 (cK (p5 w h a)) a = U6 (cK w) a:=by rw [gu a aG,if_neg ho]
      have Ks:jL (p5 w h a) h = V6 (Gw w) (cK w) h:=by
        unfold jL
        rw [if_pos (show bk (p5 w h a).B h = true from hg)]; exact gv
      have D2:∀y ∈ V6 (Gw w) (cK w) h,fb (p5 w h a) y = fb w y + fb w a:=fun y hy=>by
        obtain ⟨y1,y2⟩:=(f.nu hG y).1 hy
        have yg:bk w.B y = true:=((hm y).1 y1).2
        unfold fb
        rw [if_pos (show bk (p5 w h a).B y = true from yg),if_pos yg,if_pos hk,gu y y1,if_pos y2,List.length_append,List.length_cons,ua]
        omega
      obtain ⟨m,m1,m2,m3,m4⟩:=FD (n:=n) hn r tt hh
      have dh:fb w h = 1:=by unfold fb; rw [if_pos hg,f.u0 hG hu]; rfl
      have da:=s5 r tt a
      have d1:wr .i64 (fb w a + m) = fb w a + m:=bT (by omega) (by omega)
      rw [e3,ax (by rfl),ax (by rfl),av (qE (by omega) r tt a0 a1),av m1,d1,av (rQ (by omega) r tt hh (.inr ha) (fun q=>ho q.2))]
      dsimp only
      rw [av (pR hn b2 b3 h0),Ks]
      obtain ⟨q1,q2⟩:=Jz (n:=n) (fun x=>dN n (p5 w h a) x) (fb (p5 w h a)) (V6 (Gw w) (cK w) h) (fun x hx=>oM hn b2 b3 ((hm x).1 ((f.nu hG x).1 hx).1).1) (by have:=f.rL hG; omega) (some (w,(8:Int))) (some (p5 w h a,(0:Int))) (by omega)
      by_cases hq:∃y ∈ V6 (Gw w) (cK w) h,6 < fb (p5 w h a) y
      · have:6 < fb w a + m:=by
          obtain ⟨y,hy,hq⟩:=hq
          rw [D2 y hy] at hq
          rcases Int.lt_or_le 6 (fb w a) with h6 | h6
          · omega
          · have:=(m4 (6 - fb w a) (by omega)).2 ⟨y,hy,by omega⟩
            omega
        rw [aK (decide_eq_true this)]
        exact ⟨t,w,8,rfl,q1 hq,r,tt,i,⟨fun _=>rfl,fun h=>absurd h (by decide)⟩⟩
      · have lC:∀y ∈ V6 (Gw w) (cK w) h,fb (p5 w h a) y ≤ 6:=fun y hy=>Int.not_lt.1 fun q=>hq ⟨y,hy,q⟩
        have hV:h ∈ V6 (Gw w) (cK w) h:=(f.nu hG h).2 ⟨hG, .inl rfl⟩
        have:¬ 6 < fb w a + m:=fun q=>by
          have h6:=lC h hV
          rw [D2 h hV] at h6
          obtain ⟨y,hy,hq⟩:=(m4 (6 - fb w a) (by omega)).1 (by omega)
          have:=lC y hy
          rw [D2 y hy] at this
          omega
        rw [ax (decide_eq_false this),av b1]
        exact ⟨t',p5 w h a,0,rfl,q2 lC,b2,b3,i.up h a,⟨fun h=>absurd rfl h,fun _=>⟨rfl,hh,ha,hu,ho,lC⟩⟩⟩
  · have e1:(tY (cK w) h != h) = true:=by simpa using fun q=>hu ((f.yL hG).1 q)
    have e2:(cK w h != 0) = true:=by simpa using hu
    rw [e1,e2]
    exact ⟨t,w,12,rfl,rfl,r,tt,i,⟨fun _=>rfl,fun h=>absurd h (by decide)⟩⟩
structure Pa (w:ag) (a q:Int) (w' : ag) (m e:Int):Prop where
  no:e ≠ 0→w' = w
  is:e = 0→∃f,oH w.B f∧f < 32∧(a = 0∨bz w.B a)∧(0 ≤ q∧q ≤ 64)∧fb w a ≤ 5∧m = gR f (w.B.ia f)∧w' = ⟨iC w.B f,er w.R f ⟨a,q,cE,fun _=>0⟩⟩
theorem Jw {n:Nat} (hn:110 ≤ n):cT n cE = some true:=by
  obtain ⟨b,b1,b2⟩:=rR (n:=n) hn (x:=cE) (by show (0:Nat) ≤ 80; omega) (fun y hy=>by cases hy)
  rw [b1,b2.2 ⟨qT.nil,by show (0:Int) ≤ 0; decide,by show (0:Int) ≤ 32 * 0; decide⟩]
theorem Jt (hn:200 ≤ n) (r:fF t w) (tt:iJ w) (i:oG w) {a q:Int} (a0:0 ≤ a) (a1:a < 4294967296) :
    ∃t' w' m e,gn n t a q = some (t',m,e)∧k8 n w a q = some (w',m,e)∧0 ≤ m∧m < 4294967296∧fF t' w'∧iJ w'∧oG w'∧Pa w a q w' m e:=by
  obtain ⟨t',w',m,e,e1,e2,m0,m1,k⟩:=Ju (n:=n) (by omega) r tt (q:=q) a0 a1
  have hd:=s5 r tt a
  unfold gn k8
  rw [av e1,c9 (qE (by omega) r tt a0 a1),c9 (bO (by omega) r a0),c9 (oM hn r tt a0),av e2]
  dsimp only
  by_cases hok:(a = 0∨bz w.B a)∧0 ≤ q∧q ≤ 64
  · obtain ⟨ha,hq⟩:=hok
    obtain ⟨f,hf⟩:=uD w.B
    have hx:=AW (n:=n) (by omega) r ha hq hf
    rw [e2] at hx
    have c1:((((a == 0) || (bif (a == 0) == false then bk w.B a else default)) && decide (0 ≤ q)) && decide (q ≤ 64)) = true:=by
      have:((a == 0) || (bif (a == 0) == false then bk w.B a else default)) = true:=by
        rcases ha with e | e
        · subst e; rfl
        · rw [e.2]; cases a == 0 <;> rfl
      rw [this,decide_eq_true hq.1,decide_eq_true hq.2]; rfl
    have c2:((e == 0) || (e == 7)) = true:=by
      have:=Option.some.inj hx
      by_cases hl:f < 32
      · rw [if_pos hl] at this; rw [(Prod.mk.inj (Prod.mk.inj this).2).2]; rfl
      · rw [if_neg hl] at this; rw [(Prod.mk.inj (Prod.mk.inj this).2).2]; rfl
    rw [c1,c2]
    by_cases h6:6 ≤ fb w a
    · have h5:(5:Int) < fb w a:=by omega
      rw [aK (by simpa using h6),aK (by simpa using h5)]
      exact ⟨t,w,0,8,rfl,rfl,by decide,by decide,r,tt,i,⟨fun _=>rfl,fun h=>absurd h (by decide)⟩⟩
    · have h5:¬ (5:Int) < fb w a:=by omega
      rw [ax (by simpa using h6),ax (by simpa using h5)]
      refine ⟨t',w',m,e,rfl,rfl,m0,m1,k.rt,k.tt,?_,?_⟩
      · have:=Option.some.inj hx
        by_cases hl:f < 32
        · rw [if_pos hl] at this
          obtain ⟨rfl,h2⟩:=Prod.mk.inj this
          intro g zF
          dsimp only
          rw [cr]
          split
          · exact ⟨hq,fun n hn=>Jw hn⟩
          · rename_i hne
            refine i g (((je r.book hf hl g).1 zF).resolve_right fun e=>?_)
            have hr:=r.book.iK f hl
            obtain ⟨q1,q2,q3,q4,q5⟩:=lU (i:=f) (g:=w.B.ia f) (by omega) (by omega) hr.1 hr.2
            exact hne (by rw [e]; unfold bN; rw [q2]; omega)
        · rw [if_neg hl] at this
          rw [(Prod.mk.inj this).1]; exact i
      · have:=Option.some.inj hx
        by_cases hl:f < 32
        · rw [if_pos hl] at this
          obtain ⟨h1,h2⟩:=Prod.mk.inj this
          obtain ⟨h2,h3⟩:=Prod.mk.inj h2
          exact ⟨fun h=>absurd h3 h,fun _=>⟨f,hf,hl,ha,hq,by omega,h2,h1⟩⟩
        · rw [if_neg hl] at this
          obtain ⟨h1,h2⟩:=Prod.mk.inj this
          obtain ⟨h2,h3⟩:=Prod.mk.inj h2
          exact ⟨fun _=>h1,fun h=>absurd (h3.symm.trans h) (by decide)⟩
  · have hw:w' = w∧e ≠ 0∧e ≠ 7:=by
      unfold cQ at e2
      rw [c9 (bO (by omega) r a0),jl] at e2
      cases hx:yW w.B a with
      | false =>
        rw [hx,aK (b:=!false) rfl] at e2
        obtain ⟨h1,h2⟩:=Prod.mk.inj (Option.some.inj e2)
        exact ⟨h1.symm,by rw [← (Prod.mk.inj h2).2]; decide,by rw [← (Prod.mk.inj h2).2]; decide⟩
      | true =>
        have hq:¬ (0 ≤ q∧q ≤ 64):=fun h=>hok ⟨vu a0 hx,h⟩
        rw [hx,ax (b:=!true) rfl,aK (by simp; omega)] at e2
        obtain ⟨h1,h2⟩:=Prod.mk.inj (Option.some.inj e2)
        exact ⟨h1.symm,by rw [← (Prod.mk.inj h2).2]; decide,by rw [← (Prod.mk.inj h2).2]; decide⟩
    obtain ⟨rfl,n0,n7⟩:=hw
    have c1:((((a == 0) || (bif (a == 0) == false then bk w'.B a else default)) && decide (0 ≤ q)) && decide (q ≤ 64)) = false:=by
      by_cases hq:0 ≤ q∧q ≤ 64
      · have ha:¬ (a = 0∨bz w'.B a):=fun h=>hok ⟨h,hq⟩
        have e1:(a == 0) = false:=by simpa using fun h=>ha (.inl h)
        have e2:bk w'.B a = false:=by
          cases h:bk w'.B a with
          | false=>rfl
          | true=>exact absurd (.inr ⟨a0,h⟩) ha
        rw [e1,e2]; rfl
      · have:(decide (0 ≤ q) && decide (q ≤ 64)) = false:=by rw [Bool.and_eq_false_iff,decide_eq_false_iff_not,decide_eq_false_iff_not]; omega
        rw [Bool.and_assoc,this,Bool.and_false]
    have c2:((e == 0) || (e == 7)) = false:=by rw [Bool.or_eq_false_iff,beq_eq_false_iff_ne,beq_eq_false_iff_ne]; exact ⟨n0,n7⟩
    rw [c1,c2,ax (by rfl),ax (by rfl)]
    exact ⟨t',w',m,e,rfl,rfl,m0,m1,k.rt,k.tt,i,⟨fun _=>rfl,fun h=>absurd h n0⟩⟩
end
end Go.Proofs.Ytmdpbdhkmfjlhaa
namespace Go.Proofs.Ytmdpbdhkmfjlhaa
open Go Go.Bw
set_option maxRecDepth 100000 in
theorem wk:ju 1000 = some true:=by kernel_rfl
section
variable {n:Nat} {t:aq} {w:ag}
theorem mG (r:fF t w) {a:Int} (h0:0 ≤ a) (h1:a < 4294967296):∃v,gl n w a = some v∧0 ≤ v∧v < 4294967296:=by
  unfold gl
  by_cases hc:1 ≤ a∧a ≤ 32
  · have e:(decide (1 ≤ a) && decide (a ≤ 32)) = true:=by simpa using hc
    rw [e,mA (x:=a - 1) (by omega) (by omega),aD (by rw [cD (by omega) (by omega)]; rfl),Bool.true_and]
    have hr:=r.book.iK (a - 1).toNat (by omega)
    by_cases h2:w.B.Is (a - 1).toNat = 1
    · obtain ⟨q1,q2,q3,q4,q5⟩:=lU (i:=a - 1) (g:=w.B.ia (a - 1).toNat) (by omega) (by omega) hr.1 hr.2
      rw [aK (by simpa using h2),bT (by omega) (by omega),av (m9 (by omega) (by omega) hr.1 hr.2)]
      exact ⟨_,rfl,by omega,q5⟩
    · rw [ax (by simpa using h2),bT (by omega) (by omega)]
      exact ⟨_,rfl,h0,h1⟩
  · have e:(decide (1 ≤ a) && decide (a ≤ 32)) = false:=by rw [Bool.and_eq_false_iff,decide_eq_false_iff_not,decide_eq_false_iff_not]; omega
    rw [e,aD (by rfl),ax (by rfl),bT (by omega) (by omega)]
    exact ⟨_,rfl,h0,h1⟩
theorem Da (hn:100 ≤ n) {l:List Int} (hl:l.length ≤ 40) (hr:∀x ∈ l,0 ≤ x∧x < 4294967296):iH n l l = some true:=by
  unfold iH
  rw [ax (by simp)]
  refine fR (fun (i:Int)=>0 ≤ i∧i ≤ l.length) (fun i=>((l.length:Int) - i).toNat) (fun o=>o = some true) ?_ n 0 ⟨by omega,by omega⟩ (by omega)
  rintro kk i ⟨i0,i1⟩ ih
  by_cases c:i < l.length
  · have hx:=hr _ (gU (l:=l) (i:=i.toNat) (by omega))
    rw [aK (by simpa using c),aD (cD i0 c),aD (cD i0 c),bT (x:=l.getD i.toNat default) (by omega) (by omega),ax (by simp),bT (by omega) (by omega)]
    exact ih _ ⟨by omega,by omega⟩ (by omega)
  · rw [ax (by simpa using c)]
theorem yQ (hn:40 ≤ n) (r:fF t w) {h:Int} (h0:0 ≤ h) (hg:bk w.B h = false):∃x,dK n w h = some (x,4):=by
  unfold dK
  rw [av (de hn r.book h0),hg]
  exact ⟨_,rfl⟩
theorem HY (hn:200 ≤ n) (r:fF t w) (tt:iJ w) (i:oG w) {h z:Int} (hh:bz w.B h) (z0:0 ≤ z) (z1:z < 4294967296) {k:Nat} (hk:k < 8) :
    ∃t',dI n t h { kQ t w h with Cells:=er (kQ t w h).Cells k z } = some (t',0)∧dY n w h { w.R (bN h) with Cells:=er (w.R (bN h)).Cells k z } = some (yE w h { w.R (bN h) with Cells:=er (w.R (bN h)).Cells k z },0) ∧
      fF t' (yE w h { w.R (bN h) with Cells:=er (w.R (bN h)).Cells k z })∧iJ (yE w h { w.R (bN h) with Cells:=er (w.R (bN h)).Cells k z })∧oG (yE w h { w.R (bN h) with Cells:=er (w.R (bN h)).Cells k z }):=by
  obtain ⟨l1,l2⟩:=dB hh
  have hR:=r.Cj _ l1 l2
  have hq:=i h hh
  have hp:tE { kQ t w h with Cells:=er (kQ t w h).Cells k z } { w.R (bN h) with Cells:=er (w.R (bN h)).Cells k z }:=by
    refine ⟨hR.q,hR.e,hR.n,hR.r,fun j hj=>?_,fun j hj=>?_⟩
    · dsimp only
      rw [cr,cr]
      split
      · rfl
      · exact hR.c j hj
    · dsimp only
      rw [cr]
      split
      · omega
      · exact hR.c0 j hj
  obtain ⟨t1,s1,s2,s3⟩:=FG (n:=n) (by omega) r tt hh hp hq.1 (hq.2 n (by omega))
  exact ⟨t1,s1,wz (by omega) r hh hq.1 (hq.2 n (by omega)),s2,s3,i.set hh rfl rfl⟩
def IK (a:iI):Prop:=(0 ≤ a.Do∧a.Do ≤ 255)∧(0 ≤ a.A∧a.A ≤ 4294967295)∧(0 ≤ a.B∧a.B ≤ 4294967295)∧(0 ≤ a.C∧a.C ≤ 4294967295)∧(-9223372036854775808 ≤ a.bP∧a.bP ≤ 9223372036854775807)
theorem HR (hn:200 ≤ n) (r:fF t w) (tt:iJ w) (i:oG w) {a:iI} (ha:IK a):∃t' w',j2 n t w a = some (t',w',true)∧fF t' w'∧iJ w'∧oG w':=by
  obtain ⟨_,hA,hB,hC,_⟩:=ha
  obtain ⟨x,x1,x2,x3⟩:=mG (n:=n) r hA.1 (by omega)
  obtain ⟨y,y1,y2,y3⟩:=mG (n:=n) r hB.1 (by omega)
  obtain ⟨z,z1,z2,z3⟩:=mG (n:=n) r hC.1 (by omega)
  unfold j2
  rw [av x1,av y1,av z1,lt_eq,mA (x:=x) (by omega) (by omega),mA (x:=y) (by omega) (by omega),mA (x:=z) (by omega) (by omega)]
  by_cases d0:a.Do = 0
  · obtain ⟨t',e1,e2,e3,e4⟩:=HM (n:=n) hn r tt i x2 x3
    have hu:=p7 r tt x
    rw [aK (by simpa using d0),av e1,av e2]
    dsimp only
    rw [av (Da (by omega) (by have:=(pP r tt x).2; omega) hu)]
    exact ⟨t',eI w (jL w x),by simp,e3,e4,(zS _ r tt i hu).2.2.1⟩
  rw [ax (by simpa using d0)]
  by_cases d1:a.Do = 1
  · obtain ⟨t',e1,e2,e3,e4,e5⟩:=LJ (n:=n) hn r tt i x2 x3
    rw [aK (by simpa using d1),av e1,av e2]
    exact ⟨t',xQ w x,by simp,e3,e4,e5⟩
  rw [ax (by simpa using d1)]
  by_cases d2:a.Do = 2
  · obtain ⟨t',w',e,e1,e2,e3,e4,e5,_⟩:=Eh (n:=n) hn r tt i x2 x3 y2 y3
    rw [aK (by simpa using d2),av e1,av e2]
    exact ⟨t',w',by simp,e3,e4,e5⟩
  rw [ax (by simpa using d2)]
  by_cases d3:a.Do = 3
  · have hb:Int.tmod a.B 8 = a.B % 8:=yC hB.1
    have hk:dH (Int.tmod a.B 8) 8 = true:=by rw [hb]; exact cD (by omega) (by omega)
    rw [aK (by simpa using d3),av (oe r x2 x3),aD hk,lt_eq]
    cases hg:bk w.B x with
    | false =>
      obtain ⟨v,v1⟩:=yQ (n:=n) (by omega) r x2 hg
      rw [if_neg (by decide),av v1,aD hk,lt_eq,ax (by rfl)]
      exact ⟨t,w,rfl,r,tt,i⟩
    | true =>
      have hx:bz w.B x:=⟨x2,hg⟩
      obtain ⟨t',e1,e2,e3,e4,e5⟩:=HY (n:=n) hn r tt i hx z2 z3 (k:=(Int.tmod a.B 8).toNat) (by rw [hb]; omega)
      rw [if_pos rfl,av (nH (by omega) r hx),aD hk,lt_eq,aK (by rfl)]
      dsimp only at e1 ⊢
      rw [av e1,av e2]
      exact ⟨t',_,by simp,e3,e4,e5⟩
  rw [ax (by simpa using d3)]
  obtain ⟨t',w',m,e,e1,e2,m0,m1,e3,e4,e5,_⟩:=Jt (n:=n) hn r tt i (q:=a.bP) x2 x3
  have hm:wr .i64 m = m:=bT (by omega) (by omega)
  rw [av e1,av e2]
  exact ⟨t',w',by simp [hm],e3,e4,e5⟩
end
theorem zc:oG eT:=fun g hg=>by
  have:=(dB hg).2
  exact (uj this).elim
theorem ug {l:List iI} (hl:∀a ∈ l,IK a) {a b:Int} (ha:0 ≤ a∧a ≤ 4294967295) (hb:0 ≤ b∧b ≤ 4294967295):gG 1000 l a b = some true:=by
  unfold gG
  by_cases hc:100 < l.length
  · rw [aK (decide_eq_true (by omega)),av wk]
  rw [ax (decide_eq_false (by omega))]
  refine nf (fun (i:Int) (w:ag) (t:aq)=>0 ≤ i∧i ≤ l.length∧fF t w∧iJ w∧oG w) (fun i _ _=>((l.length:Int) - i).toNat) (fun o=>o = some true) ?_ 1000 0 _ _ ⟨by omega,by omega,Cb.1,Cb.2,zc⟩ (by omega)
  rintro kk i w t ⟨i0,i1,r,tt,iv⟩ ih
  by_cases hx:i < l.length
  · obtain ⟨t',w',e,r',Nz,N5⟩:=HR (n:=1000) (by omega) r tt iv (hl _ (gU (l:=l) (i:=i.toNat) (by omega)))
    rw [aK (by simpa using hx),aD (cD i0 (by omega)),av e]
    refine (gI (by rfl) (FH (by omega) r')).trans ?_
    rw [ax (by rfl),bT (by omega) (by omega)]
    exact ih _ _ _ ⟨by omega,by omega,r',Nz,N5⟩ (by omega)
  · obtain ⟨x,x1,x2,x3⟩:=mG (n:=1000) r ha.1 (by omega)
    obtain ⟨y,y1,y2,y3⟩:=mG (n:=1000) r hb.1 (by omega)
    have kr:∀q ∈ oR w x,0 ≤ q∧q < 4294967296:=fun q hq=>by
      unfold oR at hq
      split at hq
      · have:=(bV r.book q).1 (gw.1 hq).1; exact ⟨this.1,eN this.2⟩
      · cases hq
    have kl:(oR w x).length ≤ 32:=by
      unfold oR
      split
      · exact Nat.le_trans (List.length_filter_le _ _) (fx _ _)
      · simp
    have rr:0 ≤ kH w x∧kH w x < 4294967296:=by
      unfold kH
      split
      · rename_i hg
        obtain ⟨ρ,f⟩:=tN r tt
        have:=(bV r.book _).1 (f.yK ((bV r.book x).2 ⟨x2,hg⟩)).1
        exact ⟨this.1,eN this.2⟩
      · decide
    rw [ax (by simpa using hx),av x1,av y1,mA (x:=x) (by omega) (by omega),mA (x:=y) (by omega) (by omega),av (Cm (by omega) r x2 x3),av (ud (by omega) r x2),av (Da (by omega) (by omega) kr)]
    refine (gI (by rfl) (yz (by omega) r tt x2 x3)).trans ((gI (by rfl) (pR (by omega) r tt x2)).trans ((gI (by rfl) (Da (by omega) (by have:=(pP r tt x).2; omega) (p7 r tt x))).trans ?_))
    refine (gI (by rfl) (qE (by omega) r tt x2 x3)).trans ((gI (by rfl) (oM (by omega) r tt x2)).trans ?_)
    have e1:(((true && true) && (fb w x == fb w x)) == true) = true:=by simp
    refine (gI e1 (yO (by omega) r tt x2 x3)).trans ((gI e1 (yP (by omega) r tt x2)).trans ?_)
    rw [bT (x:=kH w x) (by omega) (by omega)]
    have e2:((((true && true) && (fb w x == fb w x)) && (kH w x == kH w x)) == true) = true:=by simp
    refine (gI e2 (sL (by omega) r tt x2 x3 y2 y3)).trans ((gI e2 (wA (by omega) r tt x2 y2)).trans ?_)
    have e3:(((((true && true) && (fb w x == fb w x)) && (kH w x == kH w x)) && (pI w x y == pI w x y)) == true) = true:=by simp
    refine (gI e3 wk).trans ?_
    simp
end Go.Proofs.Ytmdpbdhkmfjlhaa
