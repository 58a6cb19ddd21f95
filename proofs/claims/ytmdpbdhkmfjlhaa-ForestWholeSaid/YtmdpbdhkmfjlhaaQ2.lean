/- Part 2 of what a proof leans on; pruned and shortened by a program out of longer texts. -/
import Derived.Test.YtmdpbdhkmfjlhaaQ1
namespace Go.Bw
open Go
universe u
theorem rf {α:Sort u} {a:α}:a = a:=rfl
abbrev A (c:List Value):Value:=.agg c.toArray
abbrev Vs:=List Value
def look {α:Type}:List (Nat × α)→Nat→Option α
  | [],_=>none
  | (k,v)::r,d=>bif Nat.beq k d then some v else look r d
def KA:IntKind→Nat
  | .i8=>0 | .i16=>1 | .i32=>2 | .i64=>3 | .u8=>4 | .u16=>5 | .u32=>6 | .u64=>7
def DN (k l:IntKind):Bool:=Nat.beq (KA k) (KA l)
theorem xK {k l:IntKind} (h:DN k l = true):k = l:=by cases k <;> cases l <;> first | rfl | (exact absurd h (by decide))
structure Tb where
  fl:List (Nat × List (Nat × Nat))
  ik:List (Nat × IntKind)
def yt (P:Program) (T:Tb):Bool:=
  (T.fl.all fun p=>p.2.all fun q=>rC P p.1 q.1 q.2) && T.ik.all fun p=>match P.underlying p.1 with | some (.int k)=>DN k p.2 | _=>false
class tj (P:Program) (T:outParam Tb):Prop where
  ok:yt P T = true
theorem oM {α:Type}:∀{l:List (Nat × α)} {d:Nat} {v:α},look l d = some v→(d,v) ∈ l:=by
  intro l
  induction l with
  | nil=>intro d v h; cases h
  | cons p r ih =>
    intro d v h
    obtain ⟨k,u⟩:=p
    simp only [look] at h
    by_cases e:k = d
    · subst e; rw [Nat.beq_refl] at h; simp at h; subst h; simp
    · rw [jq e] at h; simp at h; exact List.mem_cons_of_mem _ (ih h)
def Tb.off (T:Tb) (s f:Nat):Option Nat:=match look T.fl s with
  | some l=>look l f
  | none=>none
def Tb.int (T:Tb) (t:Nat):Option IntKind:=look T.ik t
theorem tj.MN {P:Program} {T:Tb} (h:tj P T) {s f o:Nat} (e:T.off s f = some o):jJ P s f o:=by
  have h:=h.ok
  unfold yt at h
  rw [Bool.and_eq_true] at h
  unfold Tb.off at e
  split at e
  · rename_i l h1
    exact ⟨List.all_eq_true.1 (List.all_eq_true.1 h.1 _ (oM h1)) _ (oM e)⟩
  · cases e
theorem tj.ty {P:Program} {T:Tb} (h:tj P T) {t:Nat} {k:IntKind} (e:T.int t = some k):Dm P t k:=by
  have h:=h.ok
  unfold yt at h
  rw [Bool.and_eq_true] at h
  have h2:=List.all_eq_true.1 h.2 _ (oM e)
  dsimp only at h2
  split at h2
  · rename_i k' e2
    rw [xK h2] at e2; exact ⟨e2⟩
  · cases h2
def sint (o:BinOp) (k:IntKind) (a b:Int):Option Value:=match o with
  | .add=>some (.int k (k.wrap (a + b)))
  | .sub=>some (.int k (k.wrap (a - b)))
  | .mul=>some (.int k (k.wrap (a * b)))
  | .eql=>some (.bool (a == b))
  | .neq=>some (.bool (a != b))
  | .lss=>some (.bool (decide (a < b)))
  | .leq=>some (.bool (decide (a ≤ b)))
  | .gtr=>some (.bool (decide (b < a)))
  | .geq=>some (.bool (decide (b ≤ a)))
  | _=>none
def sv (T:Tb) (F:cv):Op→Option Value
  | .move x=>ev F x
  | .assign x=>ev F x
  | .nilCheck x=>match ev F x with
    | some (.pointer (some a))=>some (.pointer (some a))
    | _=>none
  | .unOp .not _ x=>match ev F x with
    | some (.bool b)=>some (.bool (!b))
    | _=>none
  | .unOp .neg _ x=>match ev F x with
    | some (.int k a)=>some (.int k (k.wrap (0 - a)))
    | _=>none
  | .binOp o _ x y _=>match ev F x with
    | some (.int k a)=>match ev F y with
      | some (.int l b)=>bif DN k l then sint o k a b else none
      | _=>none
    | _=>none
  | .convert S t x=>match ev F x with
    | some (.int k a)=>match T.int S with
      | some l=>bif DN l k then (match T.int t with
        | some k'=>some (.int k' (k'.wrap a))
        | none=>none) else none
      | none=>none
    | _=>none
  | .extract x i=>match ev F x with
    | some (.tuple vs)=>vs.toList[i]?
    | _=>none
  | .fieldAddr s x f=>match ev F x with
    | some (.pointer (some ⟨b,off,none⟩))=>match T.off s f with
      | some fo=>some (Ptr b (off + fo))
      | none=>none
    | _=>none
  | .makeFunc fn first cap=>match first.toList with
    | []=>match nx F cap.toList with
      | some vs=>some (.func fn #[] vs.toArray)
      | none=>none
    | _=>none
  | _=>none
theorem w8 {P:Program} {T:Tb} [hT:tj P T] {N:Nat} {c:Cx} {F:cv} {H:List aF} {op:Op} {v:Value} {d:Option Tmp} {ty:TypeId} {ps:String} {af:Array Edge} {g:Option (Nat × Bool)}
    (h:sv T F op = some v):VS P N c ⟨d,op,ty,ps,af,g⟩ F H v:=by
  unfold sv at h
  split at h
  · exact ay h
  · exact ei h
  · split at h
    · rename_i a e; obtain rfl:=Option.some.inj h; exact td e
    · cases h
  · split at h
    · rename_i b e; obtain rfl:=Option.some.inj h; exact jI e
    · cases h
  · split at h
    · rename_i e; obtain rfl:=Option.some.inj h; exact Dh e rfl
    · cases h
  · split at h
    · rename_i o _ x y _ k a e
      split at h
      · rename_i l b e2
        cases hb:DN k l with
        | false=>rw [hb] at h; cases h
        | true =>
          rw [hb] at h
          obtain rfl:=xK hb
          simp only [cond_true] at h
          unfold sint at h
          split at h
          · obtain rfl:=Option.some.inj h; exact rP e e2 rfl
          · obtain rfl:=Option.some.inj h; exact po e e2 rfl
          · obtain rfl:=Option.some.inj h; exact yJ e e2 rfl
          · obtain rfl:=Option.some.inj h; exact jt e e2
          · obtain rfl:=Option.some.inj h; exact l9 e e2
          · obtain rfl:=Option.some.inj h; exact yK e e2
          · obtain rfl:=Option.some.inj h; exact rN e e2
          · obtain rfl:=Option.some.inj h; exact yL e e2
          · obtain rfl:=Option.some.inj h; exact pq e e2
          · cases h
      · cases h
    · cases h
  · split at h
    · rename_i S t x k a e
      split at h
      · rename_i l e1
        cases hb:DN l k with
        | false=>rw [hb] at h; cases h
        | true =>
          rw [hb] at h
          obtain rfl:=xK hb
          simp only [cond_true] at h
          split at h
          · rename_i k' e2
            obtain rfl:=Option.some.inj h
            haveI:=hT.ty e1
            haveI:=hT.ty e2
            exact Az e rfl
          · cases h
      · cases h
    · cases h
  · split at h
    · rename_i vs e
      exact uK (vs:=vs.toList) e h
    · cases h
  · split at h
    · rename_i e
      split at h
      · rename_i fo e1
        obtain rfl:=Option.some.inj h
        haveI:=hT.MN e1
        exact js e
      · cases h
    · cases h
  · rename_i fn first cap
    split at h
    · rename_i e
      split at h
      · rename_i e1
        obtain rfl:=Option.some.inj h
        obtain ⟨l⟩:=first
        obtain rfl:l = []:=e
        exact nY (cap:=cap.toList) e1
      · cases h
    · cases h
  · cases h
inductive Kf where
  | th (y:Code)
  | tk (K:Act→World→Prop)
  | bl (id:Nat)
def dq (P:Program) (ro:Option Nat) (Q:Exit→Act→World→Prop):List Kf→Exit→Act→World→Prop
  | []=>Q
  | .th y::ks=>Exit.then (y.wpIn (FA ro) 0 P (dq P ro Q ks)) (dq P ro Q ks)
  | .tk K::ks=>Exit.then K (dq P ro Q ks)
  | .bl id::ks=>Exit.inBlock id (dq P ro Q ks)
inductive Cf where
  | C (x:Code)
  | L (ops:Array Oper) (l:List Oper)
  | X (e:Exit)
def GG (P:Program) (N:Nat) (c:Cx) (D:List Deferred) (Q:Exit→Act→World→Prop) (ks:List Kf) (F:cv) (H:List aF):Cf→Prop
  | .C x=>WP P N c D x (dq P c.ro Q ks) F H
  | .L ops l=>WL P N c D ops (dq P c.ro Q ks) l F H
  | .X e=>WQ N c D (dq P c.ro Q ks) e F H
def s1 (T:Tb) (N:Nat):Cf→List Kf→cv→Option (Cf × List Kf × cv)
  | .C x,ks,F=>match x with
    | .seq x y=>some (.C x, .th y::ks,F)
    | .block id x=>some (.C x, .bl id::ks,F)
    | .region _ ops false=>some (.L ops ops.toList,ks,F)
    | .skip=>some (.X .normal,ks,F)
    | .label _=>some (.X .normal,ks,F)
    | .ret=>some (.X .ret,ks,F)
    | .exit id=>some (.X (.exit id),ks,F)
    | _=>none
  | .L ops l,ks,F=>match l with
    | []=>some (.X .normal,ks,F)
    | ⟨some d,op,_,_,_,none⟩::r=>match sv T F op with
      | some v=>bif Nat.blt d N then some (.L ops r,ks,(d,v)::F) else none
      | none=>none
    | _=>none
  | .X e,ks,F=>match e,ks with
    | .normal, .th y::ks=>some (.C y,ks,F)
    | .normal, .bl _::ks=>some (.X .normal,ks,F)
    | .ret, .th _::ks=>some (.X .ret,ks,F)
    | .ret, .tk _::ks=>some (.X .ret,ks,F)
    | .ret, .bl _::ks=>some (.X .ret,ks,F)
    | .exit i, .th _::ks=>some (.X (.exit i),ks,F)
    | .exit i, .tk _::ks=>some (.X (.exit i),ks,F)
    | .exit i, .bl k::ks=>bif Nat.beq i k then some (.X .normal,ks,F) else some (.X (.exit i),ks,F)
    | _,_=>none
def sp (T:Tb) (N:Nat):Nat→Cf→List Kf→cv→Option (Cf × List Kf × cv)
  | 0,cf,ks,F=>some (cf,ks,F)
  | n + 1,cf,ks,F=>match s1 T N cf ks F with
    | some (cf,ks,F)=>sp T N n cf ks F
    | none=>none
section
variable {P:Program} {T:Tb} [hT:tj P T] {N:Nat} {c:Cx} {D:List Deferred} {Q:Exit→Act→World→Prop} {ks ks' : List Kf} {F F' : cv} {H:List aF} {cf y4:Cf}
theorem El (h:s1 T N cf ks F = some (y4,ks',F')) (g:GG P N c D Q ks' F' H y4):GG P N c D Q ks F H cf:=by
  unfold s1 at h
  split at h
  · split at h
    all_goals first
      | (cases h; done)
      | skip
    · cases h; exact pe g
    · cases h; exact pg g
    · cases h; exact fun a w hst=>wpIn_region_lit (l:=Array.toList _) (g a w hst)
    · cases h; exact rJ g
    · cases h; exact yH g
    · cases h; exact Db g
    · cases h; exact Ar g
  · split at h
    · cases h; exact rL g
    · split at h
      · rename_i d op _ _ _ _ _ v hv
        cases hd:Nat.blt d N with
        | false=>rw [hd] at h; cases h
        | true =>
          rw [hd] at h
          cases h
          exact au hd (w8 hv) g
      · cases h
    · cases h
  · split at h
    · cases h; exact gA g
    · cases h; exact tc g
    · cases h; exact nX g
    · cases h; exact nX g
    · cases h; exact rI g
    · cases h; exact mQ g
    · cases h; exact mQ g
    · rename_i i k ks
      cases hb:Nat.beq i k with
      | true =>
        rw [hb] at h; cases h
        obtain rfl:=Nat.eq_of_beq_eq_true hb
        exact pX g
      | false=>rw [hb] at h; cases h; exact pW hb g
    · cases h
theorem uZ:∀{n:Nat} {cf:Cf} {ks:List Kf} {F:cv},sp T N n cf ks F = some (y4,ks',F')→GG P N c D Q ks' F' H y4→GG P N c D Q ks F H cf
  | 0,_,_,_,h,g=>by cases h; exact g
  | n + 1,_,_,_,h,g=>by
    simp only [sp] at h
    split at h
    · rename_i e; exact El e (uZ h g)
    · cases h
class QF (P:Program) (ro:Option Nat) (Q:Exit→Act→World→Prop) (ks:outParam (List Kf)) (Q0:outParam (Exit→Act→World→Prop)):Prop where
  ok:Q = dq P ro Q0 ks
instance (priority:=100) Le (P ro Q ks):QF P ro (dq P ro Q ks) ks Q:=⟨rfl⟩
instance (priority:=60) Lf (P ro id Q ks Q0) [h:QF P ro Q ks Q0]:QF P ro (Exit.inBlock id Q) (.bl id::ks) Q0:=⟨by rw [h.ok]; rfl⟩
instance (priority:=50) Ld (P ro K Q ks Q0) [h:QF P ro Q ks Q0]:QF P ro (Exit.then K Q) (.tk K::ks) Q0:=⟨by rw [h.ok]; rfl⟩
instance (priority:=10) Kk (P ro Q):QF P ro Q [] Q:=⟨rfl⟩
theorem SC {x:Code} {Q0:Exit→Act→World→Prop} [q:QF P c.ro Q ks Q0] (n:Nat) (h:sp T N n (.C x) ks F = some (y4,ks',F')) (g:GG P N c D Q0 ks' F' H y4):WP P N c D x Q F H:=by
  have:=uZ (H:=H) (D:=D) h g
  rw [q.ok]; exact this
theorem SL {ops:Array Oper} {l:List Oper} {Q0:Exit→Act→World→Prop} [q:QF P c.ro Q ks Q0] (n:Nat) (h:sp T N n (.L ops l) ks F = some (y4,ks',F')) (g:GG P N c D Q0 ks' F' H y4):WL P N c D ops Q l F H:=by
  have:=uZ (H:=H) (D:=D) h g
  rw [q.ok]; exact this
class QX (Q:Exit→Act→World→Prop) (ro:Option Nat) (P:outParam Program) (ks:outParam (List Kf)) (Q0:outParam (Exit→Act→World→Prop)):Prop where
  ok:Q = dq P ro Q0 ks
instance (priority:=100) Lc (P ro Q ks):QX (dq P ro Q ks) ro P ks Q:=⟨rfl⟩
theorem SX {e:Exit} {Q0:Exit→Act→World→Prop} [q:QX Q c.ro P ks Q0] (n:Nat) (h:sp T N n (.X e) ks F = some (y4,ks',F')) (g:GG P N c D Q0 ks' F' H y4):WQ N c D Q e F H:=by
  have:=uZ (P:=P) (H:=H) (D:=D) h g
  rw [q.ok]; exact this
end
theorem sj {α:Type} {a b:α} (h:some a = some b):a = b:=Option.some.inj h
theorem mo {α:Type} {L:aY α} {A B:World→Prop} {cs:Vs} {x:α} [wF B A] (h:L.rep A cs x):L.rep B cs x:=aY.mono _ od h
theorem fl {α:Type} {L:aY α} [aP L] {J:World→Prop} {x:α}:L.rep J (L.enc x) x:=aP.iff.2 rfl
def oK:List Nat→Bool
  | []=>true
  | k::r=>!(r.any (Nat.beq k)) && oK r
theorem qm:∀{l:List Nat},oK l = true→l.Nodup
  | [],_=>.nil
  | k::r,h=>by
    simp only [oK,Bool.and_eq_true,Bool.not_eq_true'] at h
    refine List.nodup_cons.2 ⟨fun hm=>?_,qm h.2⟩
    have:=List.any_eq_false.1 h.1 k hm
    rw [Nat.beq_refl] at this; exact this rfl
def qk (H:List aF) (ks:List Nat):Option (List aF):=bif oK ks then pick H ks else none
theorem jf {H R:List aF} {ks:List Nat} (h:qk H ks = some R):pick H ks = some R∧ks.Nodup:=by
  unfold qk at h
  cases hb:oK ks with
  | true=>rw [hb] at h; exact ⟨h,qm hb⟩
  | false=>rw [hb] at h; cases h
def vB (F:cv):cv→Option cv
  | []=>some []
  | (k,_)::r=>match lk F k with
    | some v=>match vB F r with
      | some l=>some ((k,v)::l)
      | none=>none
    | none=>none
theorem ob {F:cv}:∀{I:cv},vB F I = some I→Sub I F
  | [],_=>trivial
  | (k,u)::r,h=>by
    simp only [vB] at h
    split at h
    · rename_i v hv
      split at h
      · rename_i l hl
        simp only [Option.some.injEq,List.cons.injEq,Prod.mk.injEq,true_and] at h
        obtain ⟨h1,h2⟩:=h
        subst h1; subst h2
        exact ⟨hv,ob hl⟩
      · cases h
    · cases h
def oO (F:cv):List Nat→Option cv
  | []=>some []
  | k::r=>match lk F k with
    | some v=>match oO F r with
      | some l=>some ((k,v)::l)
      | none=>none
    | none=>none
theorem kQ {F:cv}:∀{sl:List Nat} {K:cv},oO F sl = some K→p6 F sl K
  | [],K,h=>by obtain rfl:=Option.some.inj h; exact .nil
  | k::r,K,h=>by
    simp only [oO] at h
    split at h
    · rename_i v hv
      split at h
      · rename_i l hl
        obtain rfl:=Option.some.inj h
        exact .cons hv (kQ hl)
      · cases h
    · cases h
section
variable {P:Program} {N:Nat} {c:Cx} {D:List Deferred} {Q:Exit→Act→World→Prop} {F:cv} {H:List aF} {d:Tmp} {op:Op} {ty:TypeId} {ps:String} {af:Array Edge} {g:Option (Nat × Bool)} {ops:Array Oper} {rest:List Oper} {α β:Type}
theorem W0 {H' : List aF} (h:RX (α:=Unit) P N c ⟨none,op,ty,ps,af,none⟩ F H (fun _=>True) (fun _=>undef) (fun _=>H')) (k:WL P N c D ops Q rest F H'):WL P N c D ops Q (⟨none,op,ty,ps,af,none⟩::rest) F H:=vk h fun _ _=>k
theorem W1 {fv:α→Value} {fH:α→List aF} (hd:Nat.blt d N = true) (h:RX P N c ⟨some d,op,ty,ps,af,none⟩ F H (fun _=>True) fv fH) (k:∀x,WL P N c D ops Q rest ((d,fv x)::F) (fH x)):WL P N c D ops Q (⟨some d,op,ty,ps,af,none⟩::rest) F H:=ef hd h fun x _=>k x
theorem CV {args:List Operand} {ats:Array TypeId} {f:Nat} {vs:List Value} {v:Value} {pre:World→Prop} (hc:wE P f vs pre v) (hd:Nat.blt d N = true) (ha:nx F args = some vs) [q:Kn c H pre] (k:WL P N c D ops Q rest ((d,v)::F) H) :
    WL P N c D ops Q (⟨some d, .call ⟨.value (.func f),args.toArray,ats⟩,ty,ps,af,none⟩::rest) F H:=au hd (c9 hc ha q.ok) k
theorem CB {args:List Operand} {ats:Array TypeId} {f:Nat} {vs:List Value} {K:World→Prop} {p:(World→Prop)→Value→Prop} (hc:tv P f vs K p) (hd:Nat.blt d N = true) (ha:nx F args = some vs) [q:Kn c H K]
    (k:∀v bs J,p (Hs [.ext bs J]) v→WL P N c D ops Q rest ((d,v)::F) (.ext bs J::H)) :
    WL P N c D ops Q (⟨some d, .call ⟨.value (.func f),args.toArray,ats⟩,ty,ps,af,none⟩::rest) F H:=ef hd (gU hc ha) fun x hp=>k x.1 x.2.1 x.2.2 hp
theorem fL {ρ:Type} {m1 m2:Option ρ} {r:ρ} {x:Operand} {y z:Code} {t:Bool} (h:cn t m1 m2 = some r) (hc:ev F x = some (.bool t)) (h1:t = true→m1 = some r→WP P N c D y Q F H) (h0:t = false→m2 = some r→WP P N c D z Q F H):WP P N c D (.cond x y z) Q F H:=
  qF hc (fun e=>h1 e (Gq e h)) (fun e=>h0 e (Gr e h))
structure GQ (n o:Nat) (cs vs cc:Vs):Prop where
  eq:bW cs o vs = cc
  lv:vs.length = n
  le:o + n ≤ cs.length
  one:gW vs
theorem HK {L:aY α} {M:aY β} {o:Nat} {gg:α→β} {s:α→β→α} {cs vs:Vs} {x x' : α} {v:β} {C:World→Prop} (p:aS L M o gg s) (r:L.rep C cs x) (rv:M.rep C vs v) (e:x' = s x v):∃cc,GQ M.n o cs vs cc∧L.rep C cc x':=by
  subst e; exact ⟨_,⟨rfl,M.len rv,by rw [L.len r]; exact p.le,M.one rv⟩,p.set r rv⟩
theorem Kj {o n m b t T:Nat} {y z:Operand} {val:Value} {cs cs' vs:Vs} {H' : List aF} {d:Option Tmp} (q:GQ n o cs vs cs') (hx:ev F y = some (Ptr b o)) (hz:ev F z = some val) (hv:val.cells.toList = vs) [j2 H b T cs] [y7 P t m] (hn:n = m) [rQ H b cs' H'] :
    RX (α:=Unit) P N c ⟨d, .store t y z,ty,ps,af,g⟩ F H (fun _=>True) (fun _=>undef) (fun _=>H'):=by subst hn; exact mU hx hz hv q.lv q.le q.one q.eq
theorem ST {L:aY α} {M:aY β} {o m b t T:Nat} {gg:α→β} {s:α→β→α} {cs vs:Vs} {x:α} (x' : α) {v:β} {C:World→Prop} {y z:Operand} {val:Value} {H' : Vs→List aF} (p:aS L M o gg s) (r:L.rep C cs x) (rv:M.rep C vs v) (e:x' = s x v)
    (hx:ev F y = some (Ptr b o)) (hz:ev F z = some val) (hv:val.cells.toList = vs) [j2 H b T cs] [y7 P t m] (hn:M.n = m) [S:∀cc,rQ H b cc (H' cc)] (k:∀cc,L.rep C cc x'→WL P N c D ops Q rest F (H' cc)) :
    WL P N c D ops Q (⟨none, .store t y z,ty,ps,af,none⟩::rest) F H:=by
  obtain ⟨cc,q,f⟩:=HK p r rv e
  exact vk (Kj q hx hz hv hn) fun _ _=>k cc f
theorem rn:jB P F H [] []:=.nil
theorem rt {t:Nat} {v:Value} {rs:List ResultVar} {vs:Vs} (hv:lk F t = some v) (h:jB P F H rs vs):jB P F H (.tmp t::rs) (v::vs):=.tmp hv h
theorem ra {t ty b T n:Nat} {cs:Vs} {rs:List ResultVar} {vs:Vs} (hv:lk F t = some (Ptr b 0)) [hr:j2 H b T cs] [ht:iB P ty n] (hl:cs.length = n) (h:jB P F H rs vs):jB P F H (.cell t ty::rs) (.agg cs.toArray::vs):=.agg hv hr ht hl h
theorem ro {t ty b T:Nat} {v:Value} {cs:Vs} {rs:List ResultVar} {vs:Vs} (hv:lk F t = some (Ptr b 0)) [hr:j2 H b T cs] [ht:jA P ty] (hl:cs = [v]) (h:jB P F H rs vs):jB P F H (.cell t ty::rs) (v::vs):=.one hv hr ht hl h
theorem RV {fn:Func} {rs:List ResultVar} {vs:Vs} {v:Value} (hf:fn.results.toList = rs) (hr:jB P F H rs vs) (hv:oF vs = v):WQ N c [] (Post P c fn (fun _:Unit=>True) (fun _=>v) (fun _=>[])) .ret F H:=dL () hf hr trivial hv (ks:=[]) rfl .nil
theorem pG {fn:Func} {rs:List ResultVar} {vs:Vs} {R:List aF} {p:Value × List Nat × (World→Prop)→Prop} (ks:List Nat) (hk:qk H ks = some R) (hf:fn.results.toList = rs) (hr:jB P F H rs vs) (hp:p (oF vs,br R,Hs R)) :
    WQ N c [] (Post P c fn p (fun x=>x.1) (fun x=>[.ext x.2.1 x.2.2])) .ret F H:=fun a w hst=>by
  show LeavesInM (FA none) 0 P fn a.tmps _ a.defers .returning w
  rw [hst.df]
  obtain ⟨h1,h2⟩:=jf hk
  exact ⟨_,nK hf hst.fr hst.hp hr,(oF vs,br R,Hs R),hp,rfl,hst.si,rD (H':=[]) (by rw [List.append_nil]; exact hst.hp.pick h1 h2)⟩
theorem LO {x:Code} (sl ks:List Nat) (I:Nat × β→cv) (J:Nat × β→List aF) (p:Nat × β→Prop) (i0:Nat × β) (zY:p i0) {K:cv} (hK:oO F sl = some K) (hs:vB F (I i0) = some (I i0)) (hk:qk H ks = some (J i0))
    (hb:∀m y,p (m,y)→WP P N c D x (vq N c D Q sl K I J p (fun z=>z.1) (m,y)) (I (m,y)++K) (J (m,y))):WP P N c D (.loop x) Q F H:=
  yE sl (kQ hK) I J p (fun z=>z.1) i0 zY (ob hs) (jf hk).1 (jf hk).2 fun i hi=>hb i.1 i.2 hi
theorem LN {K:cv} {sl:List Nat} {I:Nat × β→cv} {J:Nat × β→List aF} {p:Nat × β→Prop} {m:Nat} {y0:β} (ks:List Nat) (y:β) (hp:p (m,y)) (hs:vB F (I (m,y)) = some (I (m,y))) (hl:oO F sl = some K) (hk:qk H ks = some (J (m,y))) :
    WQ N c D (vq N c D Q sl K I J p (fun z=>z.1) (m + 1,y0)) .normal F H:=yC (m,y) (Nat.lt_succ_self _) hp (ob hs) (kQ hl) (jf hk).1 (jf hk).2
theorem CU {x y:Code} (sl:List Nat) {K:cv} (hK:oO F sl = some K) (I:α→cv) (J:α→List aF) (p:α→Prop) (h1:WP P N c D x (AP N c D Q sl K I J p) F H) (h2:∀i,p i→WP P N c D y Q (I i++K) (J i)):WP P N c D (.seq x y) Q F H:=As sl (kQ hK) I J p h1 h2
theorem CE {K:cv} {sl:List Nat} {I:α→cv} {J:α→List aF} {p:α→Prop} (ks:List Nat) (i:α) (hp:p i) (hs:vB F (I i) = some (I i)) (hl:oO F sl = some K) (hk:qk H ks = some (J i)):WQ N c D (AP N c D Q sl K I J p) .normal F H:=Ao i hp (ob hs) (kQ hl) (jf hk).1 (jf hk).2
end
def sn (T:Tb) (N:Nat) (ops:Array Oper):Nat→List Fl→cv→Option (List Fl × cv)
  | 0,l,F=>some (l,F)
  | n + 1,l,F=>match l with
    | (i,ks)::r=>match ops[i]? with
      | some ⟨some d,op,_,_,_,none⟩=>match sv T (gK F ks) op with
        | some v=>bif Nat.blt d N then sn T N ops n r ((d,v)::F) else none
        | none=>none
      | _=>none
    | []=>none
def sr (T:Tb) (ops:Array Oper) (F:cv):Nat→List Fl→Option (List Value × List Fl)
  | 0,l=>some ([],l)
  | n + 1,l=>match l with
    | (i,ks)::r=>match ops[i]? with
      | some ⟨some _,op,_,_,_,none⟩=>match sv T (gK F ks) op with
        | some v=>match sr T ops F n r with
          | some (vs,l')=>some (v::vs,l')
          | none=>none
        | none=>none
      | _=>none
    | []=>none
def sk (ops:Array Oper) (F:cv):Nat→List Fl→Option (List Value)
  | 0,_=>some []
  | n + 1,l=>match l with
    | (i,_)::r=>match ops[i]? with
      | some ⟨some d,_,_,_,_,none⟩=>match lk F d with
        | some v=>match sk ops F n r with
          | some vs=>some (v::vs)
          | none=>none
        | none=>none
      | _=>none
    | []=>none
section
variable {P:Program} {T:Tb} [hT:tj P T] {N:Nat} {c:Cx} {D:List Deferred} {ops:Array Oper} {Q:Exit→Act→World→Prop} {F F' : cv} {H:List aF} {l l' : List Fl}
theorem NS {K:cv→Prop} (n:Nat) (h:sn T N ops n l F = some (l',F')) (k:gq P N c ops H l' F' K):gq P N c ops H l F K:=by
  induction n generalizing l F with
  | zero=>cases h; exact k
  | succ n ih =>
    simp only [sn] at h
    split at h
    · rename_i i ks r
      split at h
      · rename_i d op _ _ _ ho
        split at h
        · rename_i v hv
          cases hd:Nat.blt d N with
          | false=>rw [hd] at h; cases h
          | true =>
            rw [hd] at h
            exact ki ho hd (yM rfl (w8 hv)) (ih h)
        · cases h
      · cases h
    · cases h
theorem NE {K:cv→Prop} (n:Nat) (h:sn T N ops n l F = some ([],F')) (k:K F'):gq P N c ops H l F K:=NS n h k
theorem Lb {vs:List Value} (n:Nat) (h:sr T ops F n l = some (vs,l')) (h2:sk ops F n l = some vs) (k:me P N c ops F H l'):me P N c ops F H l:=by
  induction n generalizing l vs with
  | zero=>simp only [sr,Option.some.injEq,Prod.mk.injEq] at h; rw [h.2]; exact k
  | succ n ih =>
    simp only [sr] at h
    simp only [sk] at h2
    split at h
    · rename_i i ks r
      split at h
      · rename_i d op _ _ _ ho
        dsimp only at h2
        rw [ho] at h2
        dsimp only at h2
        split at h
        · rename_i v hv
          split at h
          · rename_i us l2 h3
            simp only [Option.some.injEq,Prod.mk.injEq] at h
            obtain ⟨rfl,rfl⟩:=h
            split at h2
            · rename_i u hu
              split at h2
              · rename_i ws h4
                simp only [Option.some.injEq,List.cons.injEq] at h2
                obtain ⟨rfl,rfl⟩:=h2
                exact gj ho hu (yM rfl (w8 hv)) (ih h3 h4)
              · cases h2
            · cases h2
          · cases h
        · cases h
      · cases h
    · cases h
theorem RE {vs:List Value} (n:Nat) (h:sr T ops F n l = some (vs,[])) (h2:sk ops F n l = some vs):me P N c ops F H l:=Lb n h h2 trivial
end
section
variable {P:Program} {N:Nat} {c:Cx} {D:List Deferred} {ops:Array Oper} {Q:Exit→Act→World→Prop} {F:cv} {H:List aF} {i:Nat} {ks:List Nat} {q:List Fl} {d:Nat} {v v' : Value} {op:Op} {ty:TypeId} {ps:String} {af:Array Edge} {g:Option (Nat × Bool)} {α:Type}
theorem NV {K:cv→Prop} (ho:ops[i]? = some ⟨some d,op,ty,ps,af,none⟩) (hN:Nat.blt d N = true) (hv:VS P N c ⟨some d,op,ty,ps,af,none⟩ (gK F ks) H v) (hr:gq P N c ops H q ((d,v)::F) K):gq P N c ops H ((i,ks)::q) F K:=ki ho hN (yM rfl hv) hr
theorem NC {K:cv→Prop} {args:List Operand} {ats:Array TypeId} {f:Nat} {vs:List Value} {pre:World→Prop} (ho:ops[i]? = some ⟨some d, .call ⟨.value (.func f),args.toArray,ats⟩,ty,ps,af,none⟩) (hN:Nat.blt d N = true) (hc:wE P f vs pre v) (ha:nx (gK F ks) args = some vs) [k:Kn c H pre] (hr:gq P N c ops H q ((d,v)::F) K):gq P N c ops H ((i,ks)::q) F K:=ki ho hN (yM rfl (c9 hc ha k.ok)) hr
theorem NG {K:cv→Prop} {b:Bool} (ho:ops[i]? = some ⟨some d,op,ty,ps,af,g⟩) (hN:Nat.blt d N = true) (hg:Gd ops (gK F ks) g b) (hv:b = true→VS P N c ⟨some d,op,ty,ps,af,g⟩ (gK F ks) H v) (hr:gq P N c ops H q ((d,bif b then v else undef)::F) K):gq P N c ops H ((i,ks)::q) F K:=ki ho hN (tg hg hv) hr
theorem RO (ho:ops[i]? = some ⟨some d,op,ty,ps,af,none⟩) (hl:lk F d = some v) (hv:VS P N c ⟨some d,op,ty,ps,af,none⟩ (gK F ks) H v') (e:v' = v) (hr:me P N c ops F H q):me P N c ops F H ((i,ks)::q):=gj ho hl (yM rfl (nE hv e)) hr
theorem T0 {new:List Fl} {t:Tr} (h:gq P N c ops H new F fun F'=>lE P N c D ops Q t F' H):lE P N c D ops Q (.mm [] new t) F H:=⟨trivial,h⟩
theorem K9 {t:Tr} (h:lE P N c D ops Q t F H):lE P N c D ops Q (.mm [] [] t) F H:=⟨trivial,h⟩
theorem F0 {new:List Fl} (h:gq P N c ops H new F fun F'=>WQ N c D Q .normal F' H):lE P N c D ops Q (.fin [] new) F H:=⟨trivial,h⟩
theorem yV (h:WQ N c D Q .normal F H):lE P N c D ops Q (.fin [] []) F H:=⟨trivial,h⟩
theorem X1 {s:Nat} {here:Tr} {p:α→Prop} {fv:α→Value} {fH:α→List aF} (ho:ops[s]? = some ⟨some d,op,ty,ps,af,none⟩) (hN:Nat.blt d N = true) (hv:RX P N c ⟨some d,op,ty,ps,af,none⟩ (gK F ks) H p fv fH) (h:∀x,p x→lE P N c D ops Q here ((d,fv x)::F) (fH x)):lE P N c D ops Q (.alt s ks here .no) F H:=kY ho hN (AK rfl hv) h trivial
theorem X2 {s:Nat} {here more:Tr} {p:α→Prop} {fv:α→Value} {fH:α→List aF} (ho:ops[s]? = some ⟨some d,op,ty,ps,af,none⟩) (hN:Nat.blt d N = true) (hv:RX P N c ⟨some d,op,ty,ps,af,none⟩ (gK F ks) H p fv fH) (h:∀x,p x→lE P N c D ops Q here ((d,fv x)::F) (fH x)) (hm:lE P N c D ops Q more F H):lE P N c D ops Q (.alt s ks here more) F H:=kY ho hN (AK rfl hv) h hm
theorem X0 {s:Nat} {here:Tr} {fH:List aF} (ho:ops[s]? = some ⟨none,op,ty,ps,af,none⟩) (hv:RX (α:=Unit) P N c ⟨none,op,ty,ps,af,none⟩ (gK F ks) H (fun _=>True) (fun _=>undef) (fun _=>fH)) (h:lE P N c D ops Q here F fH):lE P N c D ops Q (.alt s ks here .no) F H:=yO ho (AK rfl hv) (fun _ _=>h) trivial
theorem XV {s:Nat} {here:Tr} (ho:ops[s]? = some ⟨some d,op,ty,ps,af,none⟩) (hN:Nat.blt d N = true) (hv:VS P N c ⟨some d,op,ty,ps,af,none⟩ (gK F ks) H v) (h:lE P N c D ops Q here ((d,v)::F) H):lE P N c D ops Q (.alt s ks here .no) F H:=kY ho hN (AK rfl hv.rx) (fun _ _=>h) trivial
theorem GB {rest:List Oper} {j k:Nat} {want b:Bool} (hd:(ops[j]?).bind (·.dst) = some k) (hl:lk F k = some (.bool b)) (hN:Nat.blt d N = true) (hv:(b == want) = true→VS P N c ⟨some d,op,ty,ps,af,some (j,want)⟩ F H v)
    (h:WL P N c D ops Q rest ((d,bif (b == want) then v else undef)::F) H):WL P N c D ops Q (⟨some d,op,ty,ps,af,some (j,want)⟩::rest) F H:=uJ (cF hd hl) hN hv h
end
theorem fo {α:Type} {P:Program} {f:Nat} {fn:Func} {code:Code} {N:Nat} {args:Vs} {K:World→Prop} [S:bL K] {p:α→Prop} {fv:α→Value} {fH:α→List aF} (hf:P.funcs[f]? = some fn) (hname:(fn.name == "runtime.NumGoroutine") = false) (hb:fn.body = some code) (hN:fn.ntmps = N) (ha:Nat.ble args.length N = true)
    (h:∀c:Cx,(∀R,vt c R K)→c.ro = none→c.bs = []→K c.w0→WP P N c [] code (Post P c fn p fv fH) (v7 0 args) []):Fn P f args K [] p fv fH:=
  fF hf hname hb hN ha fun c cX hpre hro=>h c (zG cX hpre) hro cX hpre
end Go.Bw
namespace Go.Proofs.Ytmdpbdhkmfjlhaa
open Go Go.Bw
def tb:Tb:=⟨[(7,[(0,0),(1,1),(2,2),(3,3)]),(8,[(0,0),(1,1),(2,2),(3,3)]),(13,[(0,0),(1,1)]),(14,[(0,0),(1,1)]),(18,[(0,0)]),(19,[(0,0)]),(30,[(0,0),(1,1),(2,2)]),(31,[(0,0),(1,1),(2,2)]),(40,[(0,0),(1,1),(2,65)]),(41,[(0,0),(1,1),(2,65)]),(45,[(0,0)]),(46,[(0,0)]),(56,[(0,0),(1,1)]),(57,[(0,0),(1,1)]),(62,[(0,0),(1,1),(2,2)]),(63,[(0,0),(1,1),(2,2)]),(65,[(0,0)]),(66,[(0,0)]),(67,[(0,0)]),(68,[(0,0)]),(70,[(0,0),(1,1)]),(71,[(0,0),(1,1)]),(73,[(0,0),(1,1),(2,2),(3,4)]),(74,[(0,0),(1,1),(2,2),(3,4)]),(76,[(0,0),(1,96)]),(77,[(0,0),(1,96)]),(79,[(0,0),(1,1)]),(80,[(0,0),(1,1)]),(82,[(0,0),(1,1),(2,2),(3,4)]),(83,[(0,0),(1,1),(2,2),(3,4)]),(84,[(0,0),(1,1),(2,2),(3,3)]),(85,[(0,0),(1,1),(2,2),(3,3)]),(100,[(0,0),(1,32)]),(101,[(0,0),(1,32)]),(104,[(0,0),(1,64)]),(105,[(0,0),(1,64)]),(113,[(0,0),(1,1),(2,2),(3,3),(4,4)]),(114,[(0,0),(1,1),(2,2),(3,3),(4,4)]),(140,[(0,0),(1,1),(2,2)]),(141,[(0,0),(1,1),(2,2)]),(142,[(0,0),(1,1)]),(143,[(0,0),(1,1)]),(145,[(0,0)]),(146,[(0,0)]),(158,[(0,0),(1,1),(2,2)]),(159,[(0,0),(1,1),(2,2)]),(244,[(0,0),(1,1),(2,2),(3,3)]),(245,[(0,0),(1,1),(2,2),(3,3)]),(254,[(0,0),(1,1),(2,2),(3,3),(4,4),(5,5),(6,6),(7,7),(8,8),(9,9),(10,10)]),(255,[(0,0),(1,1),(2,2),(3,3),(4,4),(5,5),(6,6),(7,7),(8,8),(9,9),(10,10)])],[(2, .i64),(3, .i64),(5, .u8),(6, .u8),(12, .u64),(21, .i32),(25, .i64),(43, .u64),(61, .u32),(69, .u32),(197, .u64),(249, .u8),(250, .u8),(252, .i32),(253, .i32)]⟩
instance:tj Try.prog tb:=⟨by kernel_rfl⟩
end Go.Proofs.Ytmdpbdhkmfjlhaa
namespace Go.Proofs.Ytmdpbdhkmfjlhaa
open Go Go.Bw
structure fR where
 gen:Int
 gB:Bool
 retired:Bool
abbrev aU:aY fR:=aY.via (LP (LI .u32) (LP LB LB)) (fun x=>(x.gen,x.gB,x.retired))
abbrev lJ:fR:=⟨0,false,false⟩
theorem eS:aS aU (LI .u32) 0 (fun x=>x.gen) (fun x v=>{ x with gen:=v }):=(aS.fst aS.id).via _ _ _ 0 rfl (fun _=>rfl) (fun _ _=>rfl)
theorem eR:aS aU LB 1 (fun x=>x.gB) (fun x v=>{ x with gB:=v }):=(aS.snd (aS.fst aS.id)).via _ _ _ 1 rfl (fun _=>rfl) (fun _ _=>rfl)
theorem gZ:aS aU LB 2 (fun x=>x.retired) (fun x v=>{ x with retired:=v }):=(aS.snd (aS.snd aS.id)).via _ _ _ 2 rfl (fun _=>rfl) (fun _ _=>rfl)
def jv (x y:fR):Bool:=x.gen == y.gen && x.gB == y.gB && x.retired == y.retired
theorem oa (x y:fR):Value.bool (uu [(0,some .u32),(1,none),(2,none)] (aU.enc x) (aU.enc y)) = .bool (jv x y):=congrArg Value.bool (by show ((x.gen == y.gen) && ((x.gB == y.gB) && ((x.retired == y.retired) && true))) = (x.gen == y.gen && x.gB == y.gB && x.retired == y.retired); simp [Bool.and_assoc])
structure aM where
 slots:(Nat→fR)
abbrev av:aY aM:=aY.via (LA aU 32) (fun x=>x.slots)
abbrev fu:aM:=⟨(fun _=>lJ)⟩
theorem bI:aS av (LA aU 32) 0 (fun x=>x.slots) (fun x v=>{ x with slots:=v }):=aS.id.via _ _ _ 0 rfl (fun _=>rfl) (fun _ _=>rfl)
def iX (n:Nat) (a0:Int) (a1:Int):Option Int:=
 some (wr .u32 ((wr .u32 ((zm .u32 a1 8) + (wr .u32 a0))) + 1))
theorem nV {n a0 a1 r}  (h:iX n a0 a1 = some r):za Try.prog 151 [.int .i64 a0, .int .u32 a1] (.int .u32 r):=by
 unfold iX at h
 refine fF Try.func151 (by kernel_rfl) rfl Try.ntmps151 rfl (fun cx cX hpre hro=>?_)
 refine SC 8 rf ?_
 refine au rfl (Au rfl rfl (by decide)) ?_
 refine SL 8 rf ?_
 have h:=sj h; subst h
 exact RV rf (rt rf rn) rf
def bh (n:Nat) (a0:Int):Option (Int × Bool):=
 cn (((decide ((wr .i64 ((wr .i64 (s7 .u32 a0 255)) - 1)) < 0) || decide (32 ≤ (wr .i64 ((wr .i64 (s7 .u32 a0 255)) - 1)))) || decide (8388607 < (tI .u32 a0 8)))) (
 some (0,false)) (
 some (wr .i64 ((wr .i64 (s7 .u32 a0 255)) - 1),true))
theorem bU {n a0 r}  (h:bh n a0 = some r):za Try.prog 101 [.int .u32 a0] (.tuple #[.int .i64 r.1, .bool r.2]):=by
 unfold bh at h
 refine fF Try.func101 (by kernel_rfl) rfl Try.ntmps101 rfl (fun cx cX hpre hro=>?_)
 refine SC 9 rf ?_
 refine au rfl (AB rfl rfl) ?_
 refine SL 11 rf ?_
 refine GB rf rf rf (fun hb=>ay rfl) ?_
 refine GB rf rf rf (fun hb=>pq (cC rfl hb) rfl) ?_
 refine au rfl (gl rfl rfl) ?_
 refine au rfl (ay rfl) ?_
 refine GB rf rf rf (fun hb=>ay rfl) ?_
 refine GB rf rf rf (fun hb=>vm (cC rfl hb) rfl (by decide)) ?_
 refine GB rf rf rf (fun hb=>yL (cC rfl hb) rfl) ?_
 refine au rfl (gl rfl rfl) ?_
 refine SL 2 rf ?_
 refine fL h rf (fun hc h=>?_) fun hc h=>?_
 ·
  refine SC 8 rf ?_
  have h:=sj h; subst h
  exact RV rf (rt rf (rt rf rn)) rf
 ·
  refine SC 10 rf ?_
  have h:=sj h; subst h
  exact RV rf (rt rf (rt rf rn)) rf
def aJ (n:Nat) (a0:aM) (a1:Int):Option Bool:=
 bd (bh n a1) fun bn =>
 gu (!(bn.2 == true) || cV bn.1 32) <|
 lt ({ gen:=tI .u32 a1 8,gB:=true,retired:=false }:fR) fun j4 =>
 some (bn.2 && (jv (a0.slots (Int.toNat bn.1)) j4))
theorem aT {n a0 a1 r}  (h:aJ n a0 a1 = some r):za Try.prog 44 [.agg (av.enc a0).toArray, .int .u32 a1] (.bool r):=by
 unfold aJ at h
 refine fF Try.func44 (by kernel_rfl) rfl Try.ntmps44 rfl (fun cx cX hpre hro=>?_)
 refine SC 2 rf ?_
 refine W1 rf (fk av a0 rfl rfl) fun b2=>?_
 obtain ⟨bn,dm,h⟩:=bz h
 refine SL 6 rf ?_
 refine CV (bU dm) rf rf ?_
 obtain ⟨oX,h⟩:=dZ h
 obtain ⟨j4,nq,h⟩:=cW h
 refine SL 11 rf ?_
 refine GB rf rf rf (fun hb=>ay rfl) ?_
 refine GB rf rf rf (fun hb=>aW rfl) ?_
 refine GB rf rf rf (fun hb=>jZ (m:=(Int.toNat bn.1)) (cC rfl hb) (cC rfl hb) (aE (kz oX hb)).1 (aE (kz oX hb)).2) ?_
 refine GB rf rf rf (fun hb=>eA (M:=aU) (bI.c0 (aS.idx (L:=aU) (m:=32) (k:=3) ((Int.toNat bn.1)) (aE (kz oX hb)).2 rfl)) (cC rfl hb) rfl) ?_
 refine GB rf rf rf (fun hb=>ay rfl) ?_
 refine GB rf rf rf (fun hb=>vm (cC rfl hb) rfl (by decide)) ?_
 refine GB rf rf rf (fun hb=>iA (cs:=aU.enc j4) (aL (cC rfl hb) (aL rfl rfl)) (by rw [nq]; rfl)) ?_
 refine GB rf rf rf (fun hb=>nE (Ay (cs:=aU.enc (a0.slots (Int.toNat bn.1))) (ds:=aU.enc j4) (cC rfl hb) (cC rfl hb) rfl rfl) (oa _ _)) ?_
 refine au rfl (fz rfl rfl) ?_
 refine SL 4 rf ?_
 have h:=sj h; subst h
 exact RV rf (rt rf rn) rf
def fS (n:Nat) (a0:aM) (a1:Int):Option (Int × Bool):=
 gu (!((decide (a1 < 0) || decide (32 ≤ a1)) == false) || cV a1 32) <|
 cn (((decide (a1 < 0) || decide (32 ≤ a1)) || (!((a0.slots (Int.toNat a1)).gB)))) (
 some (0,false)) (
 gu (cV a1 32) <|
 bd (iX n a1 ((a0.slots (Int.toNat a1)).gen)) fun j4 =>
 some (j4,true))
theorem nC {n a0 a1 r}  (h:fS n a0 a1 = some r):za Try.prog 152 [.agg (av.enc a0).toArray, .int .i64 a1] (.tuple #[.int .u32 r.1, .bool r.2]):=by
 unfold fS at h
 refine fF Try.func152 (by kernel_rfl) rfl Try.ntmps152 rfl (fun cx cX hpre hro=>?_)
 refine SC 2 rf ?_
 refine W1 rf (fk av a0 rfl rfl) fun b2=>?_
 obtain ⟨CA,h⟩:=dZ h
 refine SL 10 rf ?_
 refine GB rf rf rf (fun hb=>ay rfl) ?_
 refine GB rf rf rf (fun hb=>pq (cC rfl hb) rfl) ?_
 refine au rfl (gl rfl rfl) ?_
 refine au rfl (ay rfl) ?_
 refine GB rf rf rf (fun hb=>ay rfl) ?_
 refine GB rf rf rf (fun hb=>aW rfl) ?_
 refine GB rf rf rf (fun hb=>jZ (m:=(Int.toNat a1)) (cC rfl hb) (cC rfl hb) (aE (kz CA hb)).1 (aE (kz CA hb)).2) ?_
 refine GB rf rf rf (fun hb=>js (cC rfl hb)) ?_
 refine GB rf rf rf (fun hb=>mb ((bI.c0 (aS.idx (L:=aU) (m:=32) (k:=3) ((Int.toNat a1)) (aE (kz CA hb)).2 rfl)).comp eR) (cC rfl hb)) ?_
 refine GB rf rf rf (fun hb=>jI (cC rfl hb)) ?_
 refine au rfl (gl rfl rfl) ?_
 refine SL 2 rf ?_
 refine fL h rf (fun hc h=>?_) fun hc h=>?_
 ·
  refine SC 8 rf ?_
  have h:=sj h; subst h
  exact RV rf (rt rf (rt rf rn)) rf
 ·
  obtain ⟨oX,h⟩:=dZ h
  obtain ⟨j4,nq,h⟩:=bz h
  refine SC 7 rf ?_
  refine au rfl (jZ (m:=(Int.toNat a1)) rfl rfl (aE oX).1 (aE oX).2) ?_
  refine au rfl (js rfl) ?_
  refine au rfl (bt ((bI.c0 (aS.idx (L:=aU) (m:=32) (k:=3) ((Int.toNat a1)) (aE oX).2 rfl)).comp eS) rfl) ?_
  refine CV (nV nq) rf rf ?_
  refine SL 5 rf ?_
  have h:=sj h; subst h
  exact RV rf (rt rf (rt rf rn)) rf
def dM (n:Nat) (a0:aM):Option (aM × Int × Bool):=
 dz (fun tP (cD:Int) =>
 cn (decide (cD < 32)) (
 gu (cV cD 32) <|
 lt ((a0.slots (Int.toNat cD)):fR) fun cU =>
 cn ((cU.gB || cU.retired)) (
 tP (wr .i64 (cD + 1))) (
 gu (cV cD 32) <|
 lt ({ a0 with slots:=(dx a0.slots (Int.toNat cD) ({ (a0.slots (Int.toNat cD)) with gB:=true })) }:aM) fun dF =>
 bd (iX n cD cU.gen) fun bN =>
 some (dF,bN,true))) (
 some (a0,0,false))) n 0
theorem lC {n a0 r}  (h:dM n a0 = some r):za Try.prog 106 [.agg (av.enc a0).toArray] (.tuple #[.agg (av.enc r.1).toArray, .int .u32 r.2.1, .bool r.2.2]):=by
 unfold dM at h
 refine fF Try.func106 (by kernel_rfl) rfl Try.ntmps106 rfl (fun cx cX hpre hro=>?_)
 refine SC 2 rf ?_
 refine W1 rf (fk av a0 rfl rfl) fun b1=>?_
 refine W1 rf (cJ (L:=av) (z:=fu) ⟨by kernel_rfl⟩) fun b2=>?_
 refine SL 8 rf ?_
 refine au rfl (eA (M:=(LA aU 32)) bI rfl rfl) ?_
 refine SL 4 rf ?_
 obtain ⟨xG,sK,h⟩:=mB h
 refine LO (β:=Int) [1,2,8] [0,1] (fun (sE,cD)=>[(9, .int .i64 cD)]) (fun (sE,cD)=>[.cells b2 66 (av.enc fu), .cells b1 66 (av.enc a0)]) (fun (sE,cD)=>dz xG sE cD = some r) (n,0) h rf rf rf ?_
 rintro sE cD h
 replace h:=mA sK h; obtain ⟨sE,rfl,h⟩:=h
 refine SC 6 rf ?_
 refine fL h rf (fun hc h=>?_) fun hc h=>?_
 ·
  obtain ⟨pQ,h⟩:=dZ h
  obtain ⟨cU,nn,h⟩:=cW h
  refine SC 7 rf ?_
  refine au rfl (Dk (L:=aU) (m:=(Int.toNat cD)) rfl rfl (aE pQ).1 (aE pQ).2 rfl rfl) ?_
  refine W1 rf (cJ (L:=aU) (z:=lJ) ⟨by kernel_rfl⟩) fun b6=>?_
  refine au rfl (ei rfl) ?_
  refine W0 (dA (M:=aU) (aS.id (L:=aU)) (a0.slots (Int.toNat cD)) cU nn rfl rfl rfl rfl) ?_
  refine SL 6 rf ?_
  refine au rfl (mb eR rfl) ?_
  refine au rfl (ay rfl) ?_
  refine GB rf rf rf (fun hb=>aW rfl) ?_
  refine GB rf rf rf (fun hb=>mb gZ (cC rfl hb)) ?_
  refine au rfl (gl rfl rfl) ?_
  refine SL 2 rf ?_
  refine fL h rf (fun hc h=>?_) fun hc h=>?_
  ·
   refine SC 8 rf ?_
   exact LN [1,2] (wr .i64 (cD + 1)) h rf rf rf
  ·
   obtain ⟨Cy,h⟩:=dZ h
   obtain ⟨dF,tV,h⟩:=cW h
   refine SC 6 rf ?_
   refine au rfl (jZ (m:=(Int.toNat cD)) rfl rfl (aE Cy).1 (aE Cy).2) ?_
   refine au rfl (js rfl) ?_
   refine W0 (dA (M:=LB) ((bI.c0 (aS.idx (L:=aU) (m:=32) (k:=3) ((Int.toNat cD)) (aE Cy).2 rfl)).comp eR) true dF tV rfl rfl rfl rfl) ?_
   refine SL 3 rf ?_
   obtain ⟨bN,tU,h⟩:=bz h
   refine eV mixed (.mm [] [(0,[1]),(1,[5]),(2,[6]),(3,[25]),(4,[24,26])] (.alt 5 [2,23] (.mm [] [] (.alt 6 [27] (.mm [] [] (.alt 7 [] (.fin [] []) .no)) .no)) .no)) (by kernel_rfl) ?_
   refine T0 ?_
   refine NV rf rf (eA (M:=av) (aS.id (L:=av)) rfl rfl) ?_
   refine NS 2 rf ?_
   refine NV rf rf (bt eS rfl) ?_
   refine NC rf rf (nV tU) rf ?_
   refine cT ?_
   refine X0 rf (dA (M:=av) (aS.id (L:=av)) dF dF rfl rfl rfl rfl rfl) ?_
   refine K9 ?_
   refine XV rf rf (ei rfl) ?_
   refine K9 ?_
   refine XV rf rf (ei rfl) ?_
   refine yV ?_
   refine SX 7 rf ?_
   have h:=sj h; subst h
   exact RV rf (ra rf (bw _ _) (rt rf (rt rf rn))) rf
 ·
  refine SC 7 rf ?_
  refine au rfl (eA (M:=av) (aS.id (L:=av)) rfl rfl) ?_
  refine W0 (dA (M:=av) (aS.id (L:=av)) a0 a0 rfl rfl rfl rfl rfl) ?_
  refine SL 5 rf ?_
  have h:=sj h; subst h
  exact RV rf (ra rf (bw _ _) (rt rf (rt rf rn))) rf
def fb (n:Nat) (a0:aM) (a1:Int):Option (aM × Bool):=
 bd (aJ n a0 a1) fun bn =>
 cn ((!bn)) (
 some (a0,false)) (
 bd (bh n a1) fun cD =>
 gu (cV cD.1 32) <|
 lt ({ a0 with slots:=(dx a0.slots (Int.toNat cD.1) ({ (a0.slots (Int.toNat cD.1)) with gB:=false })) }:aM) fun p8 =>
 cn ((((p8.slots (Int.toNat cD.1)).gen) == 8388607)) (
 lt ({ p8 with slots:=(dx p8.slots (Int.toNat cD.1) ({ (p8.slots (Int.toNat cD.1)) with retired:=true })) }:aM) fun nJ =>
 some (nJ,true)) (
 lt ({ p8 with slots:=(dx p8.slots (Int.toNat cD.1) ({ (p8.slots (Int.toNat cD.1)) with gen:=wr .u32 (((p8.slots (Int.toNat cD.1)).gen) + 1) })) }:aM) fun fJ =>
 some (fJ,true)))
theorem l7 {n a0 a1 r}  (h:fb n a0 a1 = some r):za Try.prog 100 [.agg (av.enc a0).toArray, .int .u32 a1] (.tuple #[.agg (av.enc r.1).toArray, .bool r.2]):=by
 unfold fb at h
 refine fF Try.func100 (by kernel_rfl) rfl Try.ntmps100 rfl (fun cx cX hpre hro=>?_)
 refine SC 2 rf ?_
 refine W1 rf (fk av a0 rfl rfl) fun b2=>?_
 refine W1 rf (cJ (L:=av) (z:=fu) ⟨by kernel_rfl⟩) fun b4=>?_
 obtain ⟨bn,dm,h⟩:=bz h
 refine SL 6 rf ?_
 refine au rfl (eA (M:=av) (aS.id (L:=av)) rfl rfl) ?_
 refine au rfl (ay rfl) ?_
 refine CV (aT dm) rf rf ?_
 refine SL 3 rf ?_
 refine fL h rf (fun hc h=>?_) fun hc h=>?_
 ·
  refine SC 2 rf ?_
  refine au rfl (eA (M:=av) (aS.id (L:=av)) rfl rfl) ?_
  refine W0 (dA (M:=av) (aS.id (L:=av)) a0 a0 rfl rfl rfl rfl rfl) ?_
  refine SL 5 rf ?_
  have h:=sj h; subst h
  exact RV rf (ra rf (bw _ _) (rt rf rn)) rf
 ·
  obtain ⟨cD,lT,h⟩:=bz h
  refine SC 5 rf ?_
  refine CV (bU lT) rf rf ?_
  obtain ⟨uh,h⟩:=dZ h
  refine SL 11 rf ?_
  refine au rfl (jZ (m:=(Int.toNat cD.1)) rfl rfl (aE uh).1 (aE uh).2) ?_
  obtain ⟨p8,Ca,h⟩:=cW h
  refine SL 8 rf ?_
  refine W0 (dA (M:=LB) ((bI.c0 (aS.idx (L:=aU) (m:=32) (k:=3) ((Int.toNat cD.1)) (aE uh).2 rfl)).comp eR) false p8 Ca rfl rfl rfl rfl) ?_
  refine SL 8 rf ?_
  refine au rfl (bt ((bI.c0 (aS.idx (L:=aU) (m:=32) (k:=3) ((Int.toNat cD.1)) (aE uh).2 rfl)).comp eS) rfl) ?_
  refine SL 3 rf ?_
  refine fL h rf (fun hc h=>?_) fun hc h=>?_
  ·
   obtain ⟨nJ,qY,h⟩:=cW h
   refine SC 4 rf ?_
   refine W0 (dA (M:=LB) ((bI.c0 (aS.idx (L:=aU) (m:=32) (k:=3) ((Int.toNat cD.1)) (aE uh).2 rfl)).comp gZ) true nJ qY rfl rfl rfl rfl) ?_
   refine SL 4 rf ?_
   refine au rfl (eA (M:=av) (aS.id (L:=av)) rfl rfl) ?_
   refine W0 (dA (M:=av) (aS.id (L:=av)) nJ nJ rfl rfl rfl rfl rfl) ?_
   refine SL 4 rf ?_
   have h:=sj h; subst h
   exact RV rf (ra rf (bw _ _) (rt rf rn)) rf
  ·
   obtain ⟨fJ,tX,h⟩:=cW h
   refine SC 4 rf ?_
   refine au rfl (bt ((bI.c0 (aS.idx (L:=aU) (m:=32) (k:=3) ((Int.toNat cD.1)) (aE uh).2 rfl)).comp eS) rfl) ?_
   refine SL 3 rf ?_
   refine W0 (dA (M:=(LI .u32)) ((bI.c0 (aS.idx (L:=aU) (m:=32) (k:=3) ((Int.toNat cD.1)) (aE uh).2 rfl)).comp eS) (wr .u32 (((p8.slots (Int.toNat cD.1)).gen) + 1)) fJ tX rfl rfl rfl rfl) ?_
   refine SL 4 rf ?_
   refine au rfl (eA (M:=av) (aS.id (L:=av)) rfl rfl) ?_
   refine W0 (dA (M:=av) (aS.id (L:=av)) fJ fJ rfl rfl rfl rfl rfl) ?_
   refine SL 4 rf ?_
   have h:=sj h; subst h
   exact RV rf (ra rf (bw _ _) (rt rf rn)) rf
def er (n:Nat) (a0:aM):Option (List Int):=
 cP (fun xH (cU:(List Int)) (bN:Int) =>
 cn (decide (bN < 32)) (
 bd (fS n a0 bN) fun hJ =>
 cn (hJ.2) (
 gu (jH cU.length 1 4) <|
 lt (cU++([hJ.1]):List Int) fun gF =>
 xH gF (wr .i64 (bN + 1))) (
 xH cU (wr .i64 (bN + 1)))) (
 some cU)) n ([]) 0
theorem kU {n a0 r}  (h:er n a0 = some r):Bw.Fn (α:=Value) Try.prog 107 [.agg (av.enc a0).toArray] (fun _=>True) [] (fun v=>jw v r.length) (fun v=>v) (fun v=>[Row v 69 1 (LI .u32) r]):=by
 unfold er at h
 refine fF Try.func107 (by kernel_rfl) rfl Try.ntmps107 rfl (fun cx cX hpre hro=>?_)
 refine SC 2 rf ?_
 refine W1 rf (fk av a0 rfl rfl) fun b1=>?_
 refine SL 15 rf ?_
 refine rK 69 1 (LI .u32) ?_
 obtain ⟨BT,xV,h⟩:=nQ h
 refine LO (β:=(List Int) × Int × Value) [1] [0,1] (fun (m32,cU,bN,yY)=>[(3,yY),(7, .int .i64 bN)]) (fun (m32,cU,bN,yY)=>[Row yY 69 1 (LI .u32) cU, .cells b1 66 (av.enc a0)]) (fun (m32,cU,bN,yY)=>jw yY cU.length∧cP BT m32 cU bN = some r) (n,[],0, .slice none 0 0) ⟨⟨_,_,rfl⟩,h⟩ rf rf rf ?_
 rintro m32 ⟨cU,bN,yY⟩ ⟨nr,h⟩
 replace h:=nP xV h; obtain ⟨m32,rfl,h⟩:=h
 refine SC 6 rf ?_
 refine fL h rf (fun hc h=>?_) fun hc h=>?_
 ·
  obtain ⟨hJ,oS,h⟩:=bz h
  refine SC 12 rf ?_
  refine au rfl (eA (M:=av) (aS.id (L:=av)) rfl rfl) ?_
  refine au rfl (ay rfl) ?_
  refine CV (nC oS) rf rf ?_
  refine SL 12 rf ?_
  refine fL h rf (fun hc h=>?_) fun hc h=>?_
  ·
   obtain ⟨nv,h⟩:=dZ h
   obtain ⟨gF,ke,h⟩:=cW h
   refine SC 3 rf ?_
   refine ef rfl (mg (LI .u32) hJ.1 rfl rfl rfl rfl (by decide) (by decide)) (fun Kh _=>?_)
   refine ef rfl (lq (sz:=1) (L:=(LI .u32)) (xs:=cU) (y:=hJ.1) (bytes:=4) rfl rfl rfl (gR nv).1 (gR nv).2) (fun BB pP=>?_)
   rw [← ke] at pP; rw [← ke]
   refine SL 8 rf ?_
   exact LN [1,2] (gF,wr .i64 (bN + 1),BB) ⟨pP,h⟩ rf rf rf
  ·
   refine SC 7 rf ?_
   exact LN [0,1] (cU,wr .i64 (bN + 1),yY) ⟨nr,h⟩ rf rf rf
 ·
  refine SC 12 rf ?_
  have h:=sj h; subst h
  exact dL yY rfl (.tmp rfl .nil) nr rfl (ks:=[0]) rfl (by decide)
end Go.Proofs.Ytmdpbdhkmfjlhaa
namespace Go.Proofs.Ytmdpbdhkmfjlhaa
open Go Go.Bw
structure ax where
 gm:(Nat→Int)
 Is:(Nat→Int)
abbrev rG:ax:=⟨(fun _=>0),(fun _=>0)⟩
def gn (n:Nat) (a0:ax) (a1:Int):Option Int:=
 gu (cV a1 32) <|
 some (wr .i64 ((wr .i64 (a1 + (wr .i64 (256 * (a0.gm (Int.toNat a1)))))) + 1))
def bp (n:Nat) (a0:ax) (a1:Int):Option Int:=
 dz (fun tP (cD:Int) =>
 cn (decide (cD < 32)) (
 gu (cV cD 32) <|
 cl (((a0.Is (Int.toNat cD)) == 1) == true) (gn n a0 cD) default fun cU =>
 cn ((((a0.Is (Int.toNat cD)) == 1) && (cU == a1))) (
 some cD) (
 tP (wr .i64 (cD + 1)))) (
 some (-1))) n 0
def gy (n:Nat) (a0:ax) (a1:Int):Option (ax × Bool):=
 bd (bp n a0 a1) fun bn =>
 cn (decide (bn < 0)) (
 some (a0,false)) (
 gu (cV bn 32) <|
 lt ({ a0 with Is:=(dx a0.Is (Int.toNat bn) 0) }:ax) fun j4 =>
 gu (cV bn 32) <|
 cn (((j4.gm (Int.toNat bn)) == 8388607)) (
 gu (cV bn 32) <|
 lt ({ j4 with Is:=(dx j4.Is (Int.toNat bn) 2) }:ax) fun fJ =>
 some (fJ,true)) (
 gu (cV bn 32) <|
 gu (cV bn 32) <|
 lt ({ j4 with gm:=(dx j4.gm (Int.toNat bn) (wr .i64 ((j4.gm (Int.toNat bn)) + 1))) }:ax) fun dF =>
 some (dF,true)))
def fX (n:Nat) (a0:ax):Option (ax × Int):=
 dz (fun tP (cD:Int) =>
 cn (decide (cD < 32)) (
 gu (cV cD 32) <|
 cn (((a0.Is (Int.toNat cD)) == 0)) (
 gu (cV cD 32) <|
 lt ({ a0 with Is:=(dx a0.Is (Int.toNat cD) 1) }:ax) fun dk =>
 bd (gn n dk cD) fun dF =>
 some (dk,dF)) (
 tP (wr .i64 (cD + 1)))) (
 some (a0,0))) n 0
end Go.Proofs.Ytmdpbdhkmfjlhaa
namespace Go.Proofs.Ytmdpbdhkmfjlhaa
open Go Go.Bw
end Go.Proofs.Ytmdpbdhkmfjlhaa
namespace Go.Proofs.Ytmdpbdhkmfjlhaa
open Go Go.Bw
instance:tn Try.prog 209 69 4 .u32:=⟨⟨by kernel_rfl,by kernel_rfl⟩⟩
instance:Dl Try.prog 4 (Value.bool false):=⟨by kernel_rfl⟩
end Go.Proofs.Ytmdpbdhkmfjlhaa
namespace Go.Bw
open Go
theorem bK {x:Int} (h1:-9223372036854775808 ≤ x) (h2:x ≤ 9223372036854775807):wr .i64 x = x:=IntWalk.i64_in x ⟨h1,h2⟩
theorem r5 {x:Int} (h1:0 ≤ x) (h2:x ≤ 4294967295):wr .u32 x = x:=IntWalk.u32_in x ⟨h1,h2⟩
theorem sZ {k:IntKind} {a:Nat} (h:a < 2 ^ k.bits):(BitVec.ofInt k.bits (a:Int)).toNat = a:=by
  rw [BitVec.toNat_ofInt]
  have:((a:Int) % ((2 ^ k.bits:Nat):Int)) = ((a % 2 ^ k.bits:Nat):Int):=(Int.natCast_emod _ _).symm
  rw [this,Nat.mod_eq_of_lt h]; rfl
theorem By {k:IntKind} {r:Nat} (h:r < 2 ^ IntKind.up k):wr k (r:Int) = r:=zf h
theorem vi (k:IntKind) {r:Nat} (h:r < 2 ^ IntKind.up k):r < 2 ^ k.bits:=Nat.lt_of_lt_of_le h (Nat.pow_le_pow_right (by decide) (Ah k))
theorem yy {k:IntKind} {a b:Nat} (ha:a < 2 ^ IntKind.up k) (hb:b < 2 ^ IntKind.up k):s7 k a b = ((a &&& b:Nat):Int):=by
  unfold s7
  rw [BitVec.toNat_and,sZ (vi k ha),sZ (vi k hb)]
  exact By (Nat.lt_of_le_of_lt Nat.and_le_left ha)
theorem yz {k:IntKind} {a:Int} (m:Nat) {b:Int} (h0:0 ≤ a) (ha:a < ((2 ^ IntKind.up k:Nat):Int)) (hb:b = ((2 ^ m - 1:Nat):Int)) (hm:2 ^ m - 1 < 2 ^ IntKind.up k):s7 k a b = a % ((2 ^ m:Nat):Int):=by
  obtain ⟨x,rfl⟩:=Int.eq_ofNat_of_zero_le h0
  subst hb
  rw [yy (by exact_mod_cast ha) hm,Nat.and_two_pow_sub_one_eq_mod]
  exact Int.natCast_emod _ _
theorem sg {k:IntKind} {a:Int} (m:Nat) {b:Int} (hb:b = (m:Int)) (hm:m ≤ k.bits):tI k a b = a / ((2 ^ m:Nat):Int):=by
  subst hb
  unfold tI
  rw [Int.toNat_natCast,Nat.min_eq_left hm,Int.fdiv_eq_ediv_of_nonneg _ (Int.pow_nonneg (by decide))]
  congr 1
theorem xd {k:IntKind} {a:Int} (m:Nat) {b:Int} (hb:b = (m:Int)) (hm:m ≤ k.bits):zm k a b = wr k (a * ((2 ^ m:Nat):Int)):=by
  subst hb
  unfold zm wr
  rw [Int.toNat_natCast,Nat.min_eq_left hm]
  congr 2
theorem w7 {a b:Int} (h:0 ≤ a):Int.tmod a b = a % b:=Int.tmod_eq_emod_of_nonneg h
theorem bT {i:Int} {n:Nat} (h0:0 ≤ i) (h1:i < (n:Int)):cV i n = true:=by simp [cV,h0,h1]
theorem jr {n m b:Nat} (h:(n + m) * b ≤ 140737488355328) (h2:n + m ≤ 9223372036854775807):jH n m b = true:=by simp [jH,h,h2]
theorem kI {α:Type} (f:Nat→α) (i:Nat) (v:α):dx f i v i = v:=by simp [dx]
theorem fN {α:Type} (f:Nat→α) {i j:Nat} (v:α) (h:j ≠ i):dx f i v j = f j:=by simp [dx,h]
theorem bD {α:Type} (f:Nat→α) (i j:Nat) (v:α):dx f i v j = if j = i then v else f j:=rfl
section
variable {α ρ:Type}
theorem aq {m:Option α} {x:α} {f:α→Option ρ} (h:m = some x):bd m f = f x:=by subst h; rfl
theorem lt_eq (a:α) (f:α→Option ρ):lt a f = f a:=rfl
theorem aA {b:Bool} {k:Option ρ} (h:b = true):gu b k = k:=by subst h; rfl
theorem aC {b:Bool} {x y:Option ρ} (h:b = true):cn b x y = x:=by subst h; rfl
theorem aj {b:Bool} {x y:Option ρ} (h:b = false):cn b x y = y:=by subst h; rfl
theorem hY {g:Bool} {m:Option α} {z x:α} {f:α→Option ρ} (h:g = true) (hm:m = some x):cl g m z f = f x:=by subst h; subst hm; rfl
theorem yq {g:Bool} {m:Option α} {z:α} {f:α→Option ρ} (h:g = false):cl g m z f = f z:=by subst h; rfl
theorem cz {g:Bool} {m:Option α} {z x:α} {f:α→Option ρ} (hm:m = some x):cl g m z f = f (bif g then x else z):=by subst hm; cases g <;> rfl
end
end Go.Bw
namespace Go.Proofs.Ytmdpbdhkmfjlhaa
open Go Go.Bw
def fy (i g:Int):Int:=i + 256 * g + 1
theorem mF {n:Nat} {i g:Int} (h0:0 ≤ i) (h1:i < 32) (g0:0 ≤ g) (g1:g ≤ 8388607):iX n i g = some (fy i g):=by
  unfold iX fy
  rw [xd (b:=8) 8 rfl (by decide),r5 (x:=g * _) (by omega) (by omega),r5 (x:=i) (by omega) (by omega),r5 (x:=g * _ + i) (by omega) (by omega),r5 (by omega) (by omega)]
  congr 1; omega
theorem m7 {n:Nat} {w:ax} {i:Int} (h0:0 ≤ i) (h1:i < 32) (g0:0 ≤ w.gm i.toNat) (g1:w.gm i.toNat ≤ 8388607):gn n w i = some (fy i (w.gm i.toNat)):=by
  unfold gn fy
  rw [aA (bT h0 (by omega)),bK (x:=256 * _) (by omega) (by omega),bK (x:=i + _) (by omega) (by omega),bK (by omega) (by omega)]
def rZ (h:Int):Bool:=decide (1 ≤ h % 256∧h % 256 ≤ 32∧h / 256 ≤ 8388607)
def fU (h:Int):Int:=if rZ h then h % 256 - 1 else 0
theorem cL (h:Int):0 ≤ fU h∧fU h < 32:=by
  unfold fU rZ
  split
  · rename_i h1; simp at h1; omega
  · omega
theorem jC {n:Nat} {h:Int} (h0:0 ≤ h) (h1:h < 4294967296):bh n h = some (fU h,rZ h):=by
  unfold bh
  have e1:s7 .u32 h 255 = h % 256:=yz 8 h0 (by simpa [IntKind.up,IntKind.signed,IntKind.bits] using h1) rfl (by decide)
  have e2:tI .u32 h 8 = h / 256:=sg 8 rfl (by decide)
  rw [e1,e2,bK (x:=h % 256) (by omega) (by omega),bK (x:=h % 256 - 1) (by omega) (by omega)]
  by_cases hb:rZ h = true
  · have hb':=hb
    simp only [rZ,decide_eq_true_eq] at hb'
    rw [aj (by simp; omega)]
    simp [fU,hb]
  · have hb':=hb
    simp only [rZ,decide_eq_true_eq] at hb'
    rw [aC (by simp; omega)]
    simp [fU,hb]
structure RB (b:aM) (w:ax):Prop where
  gen:∀i,i < 32→(b.slots i).gen = w.gm i
  A8:∀i,i < 32→(b.slots i).gB = (w.Is i == 1)
  ret:∀i,i < 32→(b.slots i).retired = (w.Is i == 2)
  A2:∀i,i < 32→w.Is i = 0∨w.Is i = 1∨w.Is i = 2
  gG:∀i,i < 32→0 ≤ w.gm i∧w.gm i ≤ 8388607
theorem ve {n:Nat} {b:aM} {w:ax} (r:RB b w) {h:Int} (h0:0 ≤ h) (h1:h < 4294967296) :
    aJ n b h = some (rZ h && (w.Is (fU h).toNat == 1) && (w.gm (fU h).toNat == h / 256)):=by
  unfold aJ
  obtain ⟨hs0,Cd⟩:=cL h
  rw [aq (jC h0 h1),aA (by rw [bT hs0 (by simpa using Cd)]; simp)]
  simp only [lt]
  have hi:(fU h).toNat < 32:=by omega
  have e2:tI .u32 h 8 = h / 256:=sg 8 rfl (by decide)
  rw [e2]
  simp only [jv,r.gen _ hi,r.A8 _ hi,r.ret _ hi]
  have hk:=r.A2 _ hi
  congr 1
  rcases hk with hk | hk | hk <;> simp [hk,Bool.and_comm,Bool.and_left_comm,Bool.and_assoc]
theorem nt {h:Int} (h0:0 ≤ h) (hb:rZ h = true):fy (fU h) (h / 256) = h:=by
  have hb':=hb
  simp only [rZ,decide_eq_true_eq] at hb'
  simp only [fU,hb,if_true,fy]; omega
theorem j8 {i g:Int} (h0:0 ≤ i) (h1:i < 32) (g0:0 ≤ g) (g1:g ≤ 8388607):rZ (fy i g) = true∧fU (fy i g) = i∧fy i g / 256 = g∧0 < fy i g∧fy i g < 4294967296:=by
  have e:rZ (fy i g) = true:=decide_eq_true (by unfold fy; omega)
  refine ⟨e,?_,?_,?_,?_⟩
  · unfold fU; rw [if_pos e]; unfold fy; omega
  all_goals (unfold fy; omega)
def aQ (w:ax) (h:Int):Bool:=rZ h && (w.Is (fU h).toNat == 1) && (w.gm (fU h).toNat == h / 256)
theorem cG {n:Nat} (hn:40 ≤ n) {b:aM} {w:ax} (r:RB b w) {h:Int} (h0:0 ≤ h):bp n w h = some (if aQ w h then fU h else -1):=by
  unfold bp
  refine fY (fun x=>0 ≤ x∧x ≤ 32∧(aQ w h = true→x ≤ fU h)) (fun x=>(32 - x).toNat) (fun o=>o = some (if aQ w h then fU h else -1)) ?_ n 0 ⟨by omega,by omega,fun _=>(cL h).1⟩ (by omega)
  rintro k x ⟨x0,x1,hx⟩ ih
  obtain ⟨s0,s1⟩:=cL h
  by_cases hc:x < 32
  · rw [aC (by simpa using hc),aA (bT x0 (by omega))]
    have hg:=r.gG x.toNat (by omega)
    rw [cz (m7 x0 hc hg.1 hg.2)]
    by_cases he:(w.Is x.toNat == 1 && fy x (w.gm x.toNat) == h) = true
    · have he':=he
      simp only [Bool.and_eq_true,beq_iff_eq] at he'
      obtain ⟨e1,e2⟩:=he'
      rw [aC (by simp [e1,e2])]
      obtain ⟨q1,q2,q3,q4,q5⟩:=j8 x0 hc hg.1 hg.2
      rw [e2] at q1 q2 q3
      have:aQ w h = true:=by simp [aQ,q1,q2,q3,e1]
      simp [this,q2]
    · rw [aj (by
        cases h1:(w.Is x.toNat == 1) with
        | false=>simp
        | true=>simpa [h1] using he),bK (by omega) (by omega)]
      refine ih _ ⟨by omega,by omega,fun Bf=>?_⟩ (by omega)
      have h2:=hx Bf
      have:x ≠ fU h:=by
        rintro rfl
        refine he ?_
        simp only [aQ,Bool.and_eq_true,beq_iff_eq] at Bf
        simp [Bf.1.2,Bf.2,nt h0 Bf.1.1]
      omega
  · rw [aj (by simpa using hc)]
    have:aQ w h = false:=by
      cases Mz:aQ w h with
      | false=>rfl
      | true=>have:=hx Mz; omega
    simp [this]
def iL (w:ax) (h:Int):ax:=
  if w.gm (fU h).toNat = 8388607 then { w with Is:=dx w.Is (fU h).toNat 2 } else { gm:=dx w.gm (fU h).toNat (w.gm (fU h).toNat + 1),Is:=dx w.Is (fU h).toNat 0 }
theorem qJ {α:Type} (G:Nat→α) (i:Nat) (a b:α):dx (dx G i a) i b = dx G i b:=by
  funext q; unfold dx; split <;> rfl
theorem tK {n:Nat} (hn:40 ≤ n) {b:aM} {w:ax} (r:RB b w) {h:Int} (h0:0 ≤ h):gy n w h = some (if aQ w h then iL w h else w,aQ w h):=by
  unfold gy
  obtain ⟨s0,s1⟩:=cL h
  rw [aq (cG hn r h0)]
  cases hg:aQ w h with
  | false=>rfl
  | true =>
    have hr:=r.gG (fU h).toNat (by omega)
    simp only [if_true]
    rw [aj (by simpa using s0),aA (bT s0 (by simpa using s1))]
    simp only [lt,aA (bT s0 (show fU h < ((32:Nat):Int) by simpa using s1))]
    unfold iL
    by_cases hl:w.gm (fU h).toNat = 8388607
    · rw [aC (by simpa using hl)]; simp [hl,qJ]
    · rw [aj (by simpa using hl),bK (by omega) (by omega)]; simp [hl]
theorem zg {n:Nat} {b:aM} {w:ax} (r:RB b w) {h:Int} (h0:0 ≤ h) (h1:h < 4294967296) :
    ∃b',fb n b h = some (b',aQ w h)∧RB b' (if aQ w h then iL w h else w):=by
  unfold fb
  obtain ⟨s0,s1⟩:=cL h
  have hi:(fU h).toNat < 32:=by omega
  rw [aq (ve r h0 h1)]
  show ∃b',cn (!aQ w h) _ _ = _∧_
  cases hg:aQ w h with
  | false=>exact ⟨b,rfl,r⟩
  | true =>
    rw [aj (b:=!true) rfl,aq (jC h0 h1),aA (bT s0 (by simpa using s1))]
    simp only [lt]
    have Jr:=r.gen _ hi
    have hr:=r.gG _ hi
    have Jo:w.Is (fU h).toNat = 1:=by simp only [aQ,Bool.and_eq_true,beq_iff_eq] at hg; exact hg.1.2
    have Mm:(b.slots (fU h).toNat).retired = false:=by rw [r.ret _ hi,Jo]; rfl
    simp only [kI,Jr,qJ]
    unfold iL
    by_cases hl:w.gm (fU h).toNat = 8388607
    · rw [aC (by simpa using hl)]
      refine ⟨_,rfl,?_⟩
      simp only [if_true,hl]
      refine ⟨?_,?_,?_,?_,?_⟩ <;> intro i wK <;> by_cases e:i = (fU h).toNat
      all_goals (try subst e)
      all_goals simp [bD, *,r.gen,r.A8,r.ret,r.A2,r.gG]
      all_goals (first | exact (r.A2 i wK) | exact r.gG i wK)
    · rw [aj (by simpa using hl),r5 (by omega) (by omega)]
      refine ⟨_,rfl,?_⟩
      simp only [if_true,if_neg hl]
      refine ⟨?_,?_,?_,?_,?_⟩ <;> intro i wK <;> by_cases e:i = (fU h).toNat
      all_goals (try subst e)
      all_goals simp [bD, *,r.gen,r.A8,r.ret,r.A2,r.gG]
      all_goals (first | exact (r.A2 i wK) | exact r.gG i wK | omega)
def mW (w:ax) (f:Nat):Prop:=f ≤ 32∧(∀j,j < f→w.Is j ≠ 0)∧(f < 32→w.Is f = 0)
theorem sR (w:ax):∃f,mW w f:=by
  have key:∀k,k ≤ 32→(∃f,mW w f)∨(∀j,j < k→w.Is j ≠ 0):=by
    intro k
    induction k with
    | zero=>intro _; exact .inr (fun j hj=>absurd hj (Nat.not_lt_zero _))
    | succ k ih =>
      intro hk
      rcases ih (by omega) with h | h
      · exact .inl h
      · by_cases e:w.Is k = 0
        · exact .inl ⟨k,by omega,h,fun _=>e⟩
        · refine .inr (fun j hj=>?_)
          by_cases e2:j = k
          · subst e2; exact e
          · exact h j (by omega)
  rcases key 32 (Nat.le_refl _) with h | h
  · exact h
  · exact ⟨32,Nat.le_refl _,h,fun h=>absurd h (Nat.lt_irrefl _)⟩
def fx (w:ax) (f:Nat):ax:={ w with Is:=dx w.Is f 1 }
theorem nM {n:Nat} (hn:40 ≤ n) {b:aM} {w:ax} (r:RB b w) {f:Nat} (hf:mW w f) :
    fX n w = some (if f < 32 then (fx w f,fy f (w.gm f)) else (w,0)):=by
  unfold fX
  obtain ⟨f1,f2,f3⟩:=hf
  refine fY (fun x=>0 ≤ x∧x ≤ (f:Int)) (fun x=>(32 - x).toNat) (fun o=>o = some (if f < 32 then (fx w f,fy f (w.gm f)) else (w,0))) ?_ n 0 ⟨by omega,by omega⟩ (by omega)
  rintro k x ⟨x0,x1⟩ ih
  by_cases hc:x < 32
  · rw [aC (by simpa using hc),aA (bT x0 (by omega))]
    by_cases he:w.Is x.toNat = 0
    · have e:x = (f:Int):=by
        rcases Int.lt_or_lt_of_ne (a:=x) (b:=f) |> fun h=>(Decidable.em (x = f)) with h | h
        · exact h
        · exact absurd he (f2 x.toNat (by omega))
      subst e
      simp only [Int.toNat_natCast] at he ⊢
      rw [aC (by simpa using he),aA (bT x0 (by omega)),lt_eq,aq (m7 (w:={ w with Is:=dx w.Is f 1 }) x0 hc (r.gG f (by omega)).1 (r.gG f (by omega)).2),if_pos (by omega)]
      rfl
    · rw [aj (by simpa using he),bK (by omega) (by omega)]
      refine ih _ ⟨by omega,?_⟩ (by omega)
      rcases Decidable.em (x = f) with h | h
      · subst h; exact absurd (f3 (by omega)) (by simpa using he)
      · omega
  · rw [aj (by simpa using hc),if_neg (by omega)]
theorem sF {n:Nat} (hn:40 ≤ n) {b:aM} {w:ax} (r:RB b w) {f:Nat} (hf:mW w f) :
    ∃b',dM n b = some (b',if f < 32 then fy f (w.gm f) else 0,decide (f < 32))∧RB b' (if f < 32 then fx w f else w):=by
  unfold dM
  obtain ⟨f1,f2,f3⟩:=hf
  refine fY (fun x=>0 ≤ x∧x ≤ (f:Int)) (fun x=>(32 - x).toNat) (fun o=>∃b',o = some (b',if f < 32 then fy f (w.gm f) else 0,decide (f < 32))∧RB b' (if f < 32 then fx w f else w)) ?_ n 0 ⟨by omega,by omega⟩ (by omega)
  rintro k x ⟨x0,x1⟩ ih
  by_cases hc:x < 32
  · have hi:x.toNat < 32:=by omega
    rw [aC (by simpa using hc),aA (bT x0 (by omega)),lt_eq]
    by_cases he:w.Is x.toNat = 0
    · have e:x = (f:Int):=by
        rcases Decidable.em (x = f) with h | h
        · exact h
        · exact absurd he (f2 x.toNat (by omega))
      subst e
      simp only [Int.toNat_natCast] at he hi ⊢
      rw [aj (by simp [r.A8 f hi,r.ret f hi,he]),aA (bT x0 (by omega)),lt_eq,aq (mF x0 hc (by rw [r.gen f hi]; exact (r.gG f hi).1) (by rw [r.gen f hi]; exact (r.gG f hi).2)),if_pos hi,if_pos hi]
      refine ⟨_,by rw [r.gen f hi,decide_eq_true hi],?_⟩
      refine ⟨?_,?_,?_,?_,?_⟩ <;> intro i wK <;> by_cases e:i = f
      all_goals (try subst e)
      all_goals simp [fx,bD, *,r.gen,r.A8,r.ret,r.A2,r.gG]
      all_goals (first | exact (r.A2 i wK) | exact r.gG i wK | (rw [r.ret _ wK,he]; rfl))
    · rw [aC (by
        rcases r.A2 _ hi with h | h | h
        · exact absurd h he
        · simp [r.A8 _ hi,h]
        · simp [r.ret _ hi,h]),bK (by omega) (by omega)]
      refine ih _ ⟨by omega,?_⟩ (by omega)
      rcases Decidable.em (x = f) with h | h
      · subst h; exact absurd (f3 (by omega)) (by simpa using he)
      · omega
  · rw [aj (by simpa using hc),if_neg (by omega),if_neg (by omega)]
    exact ⟨b,by rw [decide_eq_false (by omega)],r⟩
theorem GL {n:Nat} {b:aM} {w:ax} (r:RB b w) {i:Int} (h0:0 ≤ i) (h1:i < 32):fS n b i = some (if w.Is i.toNat = 1 then fy i (w.gm i.toNat) else 0,w.Is i.toNat == 1):=by
  have hi:i.toNat < 32:=by omega
  unfold fS
  rw [aA (by rw [bT h0 (by omega)]; simp)]
  by_cases e:w.Is i.toNat = 1
  · rw [aj (by simp [r.A8 _ hi,e]; omega),aA (bT h0 (by omega)),aq (mF h0 h1 (by rw [r.gen _ hi]; exact (r.gG _ hi).1) (by rw [r.gen _ hi]; exact (r.gG _ hi).2)),r.gen _ hi]
    simp [e]
  · rw [aC (by simp [r.A8 _ hi,e])]
    simp [e]
def bQ (w:ax):Nat→List Int
  | 0=>[]
  | k + 1=>bQ w k++(if w.Is k = 1 then [fy k (w.gm k)] else [])
theorem eJ (w:ax) (k:Nat):(bQ w k).length ≤ k:=by
  induction k with
  | zero=>simp [bQ]
  | succ k ih=>simp only [bQ,List.length_append]; split <;> simp <;> omega
theorem vP {n:Nat} (hn:40 ≤ n) {b:aM} {w:ax} (r:RB b w):er n b = some (bQ w 32):=by
  unfold er
  refine de (fun (l:List Int) (x:Int)=>∃k:Nat,x = k∧k ≤ 32∧l = bQ w k) (fun _ (x:Int)=>(32 - x).toNat) (fun o=>o = some (bQ w 32)) ?_ n [] 0 ⟨0,rfl,by omega,rfl⟩ (by omega)
  rintro kk l x ⟨k,rfl,hk,rfl⟩ ih
  by_cases hc:k < 32
  · rw [aC (by simp; omega),aq (GL r (by omega) (by omega))]
    simp only [Int.toNat_natCast]
    by_cases e:w.Is k = 1
    · rw [aC (by simpa using e),aA (jr (by have:=eJ w k; omega) (by have:=eJ w k; omega)),lt_eq,bK (by omega) (by omega)]
      exact ih _ _ ⟨k + 1,by omega,by omega,by simp [bQ,e]⟩ (by omega)
    · rw [aj (by simpa using e),bK (by omega) (by omega)]
      exact ih _ _ ⟨k + 1,by omega,by omega,by simp [bQ,e]⟩ (by omega)
  · rw [aj (by simp; omega)]
    obtain rfl:k = 32:=by omega
    rfl
end Go.Proofs.Ytmdpbdhkmfjlhaa
namespace Go.Proofs.Ytmdpbdhkmfjlhaa
open Go Go.Bw
def aO (w:ax) (h:Int):Prop:=0 ≤ h∧aQ w h = true
theorem eE {w:ax} {h:Int}:aQ w h = true↔rZ h = true∧w.Is (fU h).toNat = 1∧w.gm (fU h).toNat = h / 256:=by
  unfold aQ
  rw [Bool.and_eq_true,Bool.and_eq_true,beq_iff_eq,beq_iff_eq,and_assoc]
theorem xb {h:Int} (hb:rZ h = true):h < 4294967296:=by
  unfold rZ at hb
  simp only [decide_eq_true_eq] at hb; omega
theorem kS {b:aM} {w:ax} (r:RB b w):∀(k:Nat),k ≤ 32→∀x,x ∈ bQ w k↔aO w x∧fU x < k
  | 0,_,x=>⟨fun h=>(by cases h),fun h=>absurd h.2 (by have:=(cL x).1; omega)⟩
  | k + 1,hk,x=>by
    have ih:=kS r k (by omega) x
    have hr:=r.gG k (by omega)
    obtain ⟨q1,q2,q3,q4,q5⟩:=j8 (i:=k) (g:=w.gm k) (by omega) (by omega) hr.1 hr.2
    have hx:=cL x
    rw [bQ,List.mem_append,ih]
    constructor
    · rintro (h | h)
      · exact ⟨h.1,by omega⟩
      · split at h
        · rename_i hi
          have e:=List.mem_singleton.1 h
          subst e
          exact ⟨⟨by omega,eE.2 ⟨q1,by rw [q2]; exact hi,by rw [q2,q3]; rfl⟩⟩,by omega⟩
        · cases h
    · rintro ⟨h1,h2⟩
      by_cases e:fU x < k
      · exact .inl ⟨h1,e⟩
      · have e1:fU x = k:=by omega
        obtain ⟨g1,g2,g3⟩:=eE.1 h1.2
        have e2:(fU x).toNat = k:=by omega
        rw [e2] at g2 g3
        refine .inr ?_
        rw [if_pos g2,List.mem_singleton,g3,← e1,nt h1.1 g1]
theorem j9 {b:aM} {w:ax} (r:RB b w):∀(k:Nat),k ≤ 32→(bQ w k).Nodup
  | 0,_=>List.nodup_nil
  | k + 1,hk=>by
    rw [bQ,List.nodup_append]
    refine ⟨j9 r k (by omega),by split <;> simp,fun a ha c hc e=>?_⟩
    split at hc
    · have e1:=List.mem_singleton.1 hc
      have hr:=r.gG k (by omega)
      obtain ⟨q1,q2,q3,q4,q5⟩:=j8 (i:=k) (g:=w.gm k) (by omega) (by omega) hr.1 hr.2
      have:=((kS r k (by omega) a).1 ha).2
      rw [e,e1,q2] at this
      omega
    · cases hc
theorem aZ {b:aM} {w:ax} (r:RB b w) (x:Int):x ∈ bQ w 32↔aO w x:=by
  rw [kS r 32 (Nat.le_refl _)]
  have:=cL x
  exact ⟨fun h=>h.1,fun h=>⟨h,by omega⟩⟩
def nO (w:ax) (h:Int):Prop:=0 ≤ h∧rZ h = true∧(h / 256 < w.gm (fU h).toNat∨(h / 256 = w.gm (fU h).toNat∧w.Is (fU h).toNat ≠ 0))
theorem gC {b:aM} {w:ax} (r:RB b w) {f:Nat} (hf:mW w f) (hl:f < 32) (x:Int):aO (fx w f) x↔aO w x∨x = fy f (w.gm f):=by
  have hr:=r.gG f hl
  obtain ⟨q1,q2,q3,q4,q5⟩:=j8 (i:=f) (g:=w.gm f) (by omega) (by omega) hr.1 hr.2
  have hx:=cL x
  unfold aO
  rw [eE,eE]
  show 0 ≤ x∧rZ x = true∧dx w.Is f 1 (fU x).toNat = 1∧w.gm (fU x).toNat = x / 256↔_
  rw [bD]
  by_cases e:(fU x).toNat = f
  · rw [if_pos e,e]
    constructor
    · rintro ⟨h1,h2,_,h4⟩
      refine .inr ?_
      have:=nt h1 h2
      rw [← this,h4]
      congr 1; omega
    · rintro (⟨h1,h2,h3,h4⟩ | h)
      · exact absurd (hf.2.2 hl) (by omega)
      · subst h; exact ⟨by omega,q1,rfl,by rw [q3]⟩
  · rw [if_neg e]
    refine ⟨fun h=>.inl h,fun h=>h.elim _root_.id fun h=>?_⟩
    subst h
    exact absurd (by rw [q2]; rfl) e
theorem oI {w:ax} {f:Nat} (x:Int) (h:nO w x):nO (fx w f) x:=by
  obtain ⟨h1,h2,h3⟩:=h
  refine ⟨h1,h2,?_⟩
  show x / 256 < w.gm (fU x).toNat∨(x / 256 = w.gm (fU x).toNat∧dx w.Is f 1 (fU x).toNat ≠ 0)
  rw [bD]
  split
  · exact h3.imp _root_.id fun h=>⟨h.1,by omega⟩
  · exact h3
theorem xp {b:aM} {w:ax} (r:RB b w) {f:Nat} (hf:mW w f) (hl:f < 32):¬ nO w (fy f (w.gm f)):=by
  have hr:=r.gG f hl
  obtain ⟨q1,q2,q3,q4,q5⟩:=j8 (i:=f) (g:=w.gm f) (by omega) (by omega) hr.1 hr.2
  rintro ⟨_,_,h⟩
  rw [q2,q3] at h
  have:=hf.2.2 hl
  rcases h with h | h
  · exact absurd h (by simp)
  · exact h.2 this
theorem v5 {b:aM} {w:ax} (r:RB b w) {h:Int} (h0:0 ≤ h) (x:Int):aO (if aQ w h then iL w h else w) x↔aO w x∧x ≠ h:=by
  cases hg:aQ w h with
  | false =>
    refine ⟨fun hx=>⟨hx,fun e=>?_⟩,fun hx=>hx.1⟩
    subst e
    have h2:aQ w x = true:=hx.2
    rw [h2] at hg; cases hg
  | true =>
    rw [if_pos rfl]
    obtain ⟨g1,g2,g3⟩:=eE.1 hg
    have hr:=r.gG (fU h).toNat (by have:=cL h; omega)
    have hx:=cL x
    have hh:=cL h
    have key:∀w',iL w h = w'→(∀j,j ≠ (fU h).toNat→w'.Is j = w.Is j∧w'.gm j = w.gm j)→w'.Is (fU h).toNat ≠ 1→(aO w' x↔aO w x∧x ≠ h):=by
      intro w' _ k1 k2
      unfold aO
      rw [eE,eE]
      by_cases e:(fU x).toNat = (fU h).toNat
      · constructor
        · rintro ⟨_,_,h3,_⟩; rw [e] at h3; exact absurd h3 k2
        · rintro ⟨⟨h1,h2,h3,h4⟩,h5⟩
          refine absurd ?_ h5
          rw [← nt h1 h2,← nt h0 g1,← h4,← g3,e]
          congr 1; omega
      · rw [(k1 _ e).1,(k1 _ e).2]
        exact ⟨fun hx=>⟨hx,fun e2=>e (by rw [e2])⟩,fun hx=>hx.1⟩
    refine key _ rfl (fun j hj=>?_) ?_
    · unfold iL
      split
      · exact ⟨fN _ _ hj,rfl⟩
      · exact ⟨fN _ _ hj,fN _ _ hj⟩
    · unfold iL
      split
      · show dx w.Is _ 2 _ ≠ 1; rw [kI]; decide
      · show dx w.Is _ 0 _ ≠ 1; rw [kI]; decide
theorem vM {w:ax} {h:Int} (x:Int) (hp:nO w x):nO (if aQ w h then iL w h else w) x:=by
  cases hg:aQ w h with
  | false=>exact hp
  | true =>
    rw [if_pos rfl]
    obtain ⟨h1,h2,h3⟩:=hp
    refine ⟨h1,h2,?_⟩
    unfold iL
    split
    · show x / 256 < w.gm (fU x).toNat∨(x / 256 = w.gm (fU x).toNat∧dx w.Is (fU h).toNat 2 (fU x).toNat ≠ 0)
      rw [bD]
      split
      · exact h3.imp _root_.id fun h=>⟨h.1,by decide⟩
      · exact h3
    · show x / 256 < dx w.gm (fU h).toNat _ (fU x).toNat∨(x / 256 = dx w.gm (fU h).toNat _ (fU x).toNat∧dx w.Is (fU h).toNat 0 (fU x).toNat ≠ 0)
      rw [bD,bD]
      split
      · rename_i e
        rw [e] at h3
        left; omega
      · exact h3
end Go.Proofs.Ytmdpbdhkmfjlhaa
namespace Go.Bw
open Go
theorem qL:∀(t u:List Int),t.Nodup→(∀x ∈ t,x ∈ u)→t.length ≤ u.length
  | [],u,_,_=>Nat.zero_le _
  | x::t,u,hn,hs=>by
    rw [List.nodup_cons] at hn
    have hx:=hs x (by simp)
    have:=qL t (u.erase x) hn.2 fun y hy=>(List.mem_erase_of_ne (fun e=>hn.1 (by rw [← e]; exact hy))).2 (hs y (by simp [hy]))
    rw [List.length_erase_of_mem hx] at this
    have h0:0 < u.length:=List.length_pos_of_mem hx
    rw [List.length_cons]; omega
theorem so {t u:List Int} (ht:t.Nodup) (hu:u.Nodup) (h:∀x,x ∈ t↔x ∈ u):t.length = u.length:=
  Nat.le_antisymm (qL t u ht fun x hx=>(h x).1 hx) (qL u t hu fun x hx=>(h x).2 hx)
section
variable {β:Type}
theorem qp (l:List (Int × β)) (k:Int) (v:β):(lz l k v).map Prod.fst = if k ∈ l.map Prod.fst then l.map Prod.fst else l.map Prod.fst++[k]:=by
  induction l with
  | nil=>simp [lz]
  | cons p r ih =>
    unfold lz
    by_cases h:k = p.1
    · subst h; simp
    · have:(k == p.1) = false:=by simpa using h
      rw [this,cond_false,List.map_cons,ih]
      by_cases h2:k ∈ r.map Prod.fst
      · rw [if_pos h2,if_pos (by simp [h2])]; rfl
      · rw [if_neg h2,if_neg (by rw [List.map_cons,List.mem_cons]; exact fun hh=>hh.elim h h2)]; rfl
theorem zD {l:List (Int × β)} {k:Int} {z:β} (h:k ∉ l.map Prod.fst):nc l k z = z:=by
  have:fD l k = none:=by
    induction l with
    | nil=>rfl
    | cons p r ih =>
      rw [List.map_cons,List.mem_cons,not_or] at h
      unfold fD
      have e:(k == p.1) = false:=by simpa using h.1
      rw [e,cond_false,ih h.2]; rfl
  unfold nc; rw [this]; rfl
theorem xB {l:List (Int × β)} {k:Int} {z:β} (h:k ∈ l.map Prod.fst):(k,nc l k z) ∈ l:=by
  unfold nc
  cases hm:fD l k with
  | some q =>
    have:=nf (j:=q.1) (y:=q.2) hm
    exact List.mem_of_getElem? this
  | none =>
    exfalso
    induction l with
    | nil=>simp at h
    | cons p r ih =>
      unfold fD at hm
      by_cases e:k = p.1
      · have:(k == p.1) = true:=by simpa using e
        rw [this] at hm; simp at hm
      · have e2:(k == p.1) = false:=by simpa using e
        rw [e2] at hm
        simp only [cond_false,Option.map_eq_none_iff] at hm
        rw [List.map_cons,List.mem_cons] at h
        exact ih (h.elim (fun hh=>absurd hh e) _root_.id) hm
theorem sB {l:List (Int × β)} (k:Int) (v:β) (h:(l.map Prod.fst).Nodup):((lz l k v).map Prod.fst).Nodup:=by
  rw [qp]
  split
  · exact h
  · rename_i hk
    rw [List.nodup_append]
    refine ⟨h,by simp,fun a ha b hb e=>hk ?_⟩
    have:b = k:=by simpa using hb
    rw [← this,← e]; exact ha
theorem qS {l:List (Int × β)} {k:Int} {v:β} {x:Int}:x ∈ (lz l k v).map Prod.fst↔x ∈ l.map Prod.fst∨x = k:=by
  rw [qp]
  split
  · rename_i h
    exact ⟨.inl,fun hh=>hh.elim _root_.id fun e=>e ▸ h⟩
  · simp
end
structure mc (l:List (Int × Bool)) (S:Int→Prop):Prop where
  nd:(l.map Prod.fst).Nodup
  tr:∀p ∈ l,p.2 = true
  mem:∀k,k ∈ l.map Prod.fst↔S k
theorem mc.nil:mc [] (fun _=>False):=⟨by simp,by simp,by simp⟩
theorem mc.get {l:List (Int × Bool)} {S:Int→Prop} (h:mc l S) (k:Int):nc l k false = true↔S k:=by
  rw [← h.mem k]
  by_cases hk:k ∈ l.map Prod.fst
  · exact ⟨fun _=>hk,fun _=>h.tr _ (xB hk)⟩
  · rw [zD hk]; exact ⟨fun hh=>(by cases hh),fun hh=>absurd hh hk⟩
theorem BI {l:List (Int × Bool)} {k:Int} (h:∀p ∈ l,p.2 = true):∀p ∈ lz l k true,p.2 = true:=by
  induction l with
  | nil=>intro p hp; rw [lz,List.mem_singleton] at hp; rw [hp]
  | cons q r ih =>
    intro p hp
    unfold lz at hp
    cases e:k == q.1 with
    | true =>
      rw [e,cond_true,List.mem_cons] at hp
      rcases hp with rfl | hp
      · rfl
      · exact h p (by simp [hp])
    | false =>
      rw [e,cond_false,List.mem_cons] at hp
      rcases hp with rfl | hp
      · exact h p (by simp)
      · exact ih (fun z hz=>h z (by simp [hz])) p hp
theorem mc.set {l:List (Int × Bool)} {S T:Int→Prop} (h:mc l S) {k:Int} (hT:∀x,T x↔S x∨x = k):mc (lz l k true) T:=
  ⟨sB k true h.nd,BI h.tr,fun x=>by rw [qS,h.mem,hT]⟩
theorem mc.congr {l:List (Int × Bool)} {S T:Int→Prop} (h:mc l S) (hT:∀x,T x↔S x):mc l T:=⟨h.nd,h.tr,fun x=>by rw [h.mem,hT]⟩
theorem mc.len {l:List (Int × Bool)} {S:Int→Prop} (h:mc l S) {t:List Int} (ht:t.Nodup) (hm:∀x,x ∈ t↔S x):l.length = t.length:=by
  rw [← so h.nd ht fun x=>by rw [h.mem,hm],List.length_map]
end Go.Bw
namespace Go.Proofs.Ytmdpbdhkmfjlhaa
open Go Go.Bw
def bj (h:Int):Nat:=(fU h).toNat
theorem iG (h:Int):bj h < 32:=by have:=cL h; unfold bj; omega
theorem zl (h:Int):(bj h:Int) = fU h:=by have:=cL h; unfold bj; omega
theorem nw {w:ax} {h:Int} (hg:aQ w h = true):rZ h = true∧w.Is (bj h) = 1∧w.gm (bj h) = h / 256:=eE.1 hg
theorem jh {n:Nat} {b:aM} {w:ax} (r:RB b w) {h:Int} (h0:0 ≤ h) (h1:h < 4294967296):aJ n b h = some (aQ w h):=ve r h0 h1
end Go.Proofs.Ytmdpbdhkmfjlhaa
namespace Go.Proofs.Ytmdpbdhkmfjlhaa
open Go Go.Bw
theorem dS {w:ax} {x:Int} (h:aO w x):fy (bj x) (w.gm (bj x)) = x:=by
  obtain ⟨g1,g2,g3⟩:=nw h.2
  rw [g3,zl,nt h.1 g1]
end Go.Proofs.Ytmdpbdhkmfjlhaa
namespace Go.Proofs.Ytmdpbdhkmfjlhaa
open Go Go.Bw
def wI (w:ax) (h:Int):ax:=if aQ w h = true then iL w h else w
theorem r6 {w:ax} {h:Int} {i:Nat} (hi:i ≠ bj h):(iL w h).Is i = w.Is i∧(iL w h).gm i = w.gm i:=by
  unfold iL
  split
  · exact ⟨fN _ _ hi,rfl⟩
  · exact ⟨fN _ _ hi,fN _ _ hi⟩
theorem oz (w:ax) (h:Int):(iL w h).Is (bj h) ≠ 1:=by
  unfold iL
  split
  · show dx w.Is (bj h) 2 (bj h) ≠ 1; rw [kI]; decide
  · show dx w.Is (bj h) 0 (bj h) ≠ 1; rw [kI]; decide
theorem zh {w:ax} {h:Int} {i:Nat} (hi:(wI w h).Is i = 1):w.Is i = 1∧(wI w h).gm i = w.gm i:=by
  unfold wI at *
  cases hg:aQ w h with
  | false=>rw [hg] at hi; exact ⟨hi,by simp⟩
  | true =>
    rw [hg,if_pos rfl] at hi
    rw [if_pos rfl]
    by_cases e:i = bj h
    · subst e; exact absurd hi (oz w h)
    · have:=r6 (w:=w) (h:=h) e
      exact ⟨by rw [← this.1]; exact hi,this.2⟩
theorem sw {n:Nat} (hn:40 ≤ n) {b:aM} {w:ax} (r:RB b w) {h:Int} (h0:0 ≤ h):gy n w h = some (wI w h,aQ w h):=tK hn r h0
def o7 (p:Nat→Bool):Nat→Nat
  | 0=>0
  | k + 1=>o7 p k + (if p k = true then 1 else 0)
theorem rA (p:Nat→Bool):∀k,o7 p k ≤ k
  | 0=>Nat.le_refl _
  | k + 1=>by have:=rA p k; simp only [o7]; split <;> omega
theorem qB {p q:Nat→Bool} (h:∀i,p i = true→q i = true):∀k,o7 p k ≤ o7 q k
  | 0=>Nat.le_refl _
  | k + 1=>by
    have:=qB h k
    simp only [o7]
    by_cases e:p k = true
    · rw [if_pos e,if_pos (h k e)]; omega
    · rw [if_neg e]; omega
theorem mK {p q:Nat→Bool} (h:∀i,p i = true→q i = true) {c:Nat} (hp:p c = false) (hq:q c = true):∀k,c < k→o7 p k < o7 q k
  | 0,hc=>absurd hc (Nat.not_lt_zero _)
  | k + 1,hc=>by
    simp only [o7]
    by_cases e:c = k
    · subst e
      have:=qB h c
      rw [hp,hq]; simp; omega
    · have:=mK h hp hq k (by omega)
      by_cases e2:p k = true
      · rw [if_pos e2,if_pos (h k e2)]; omega
      · rw [if_neg e2]; omega
end Go.Proofs.Ytmdpbdhkmfjlhaa
namespace Go.Proofs.Ytmdpbdhkmfjlhaa
open Go Go.Bw
end Go.Proofs.Ytmdpbdhkmfjlhaa
namespace Go.Proofs.Ytmdpbdhkmfjlhaa
open Go Go.Bw
def zk (ρ:Nat→Nat):Nat→Nat
  | 0=>0
  | k + 1=>zk ρ k + ρ k
theorem uY (ρ:Nat→Nat) {j:Nat}:∀k,j < k→ρ j ≤ zk ρ k
  | 0,h=>absurd h (Nat.not_lt_zero _)
  | k + 1,h=>by
    simp only [zk]
    by_cases e:j = k
    · subst e; omega
    · have:=uY ρ (j:=j) k (by omega); omega
theorem qx {w:ax} {x:Int} (h:aO w x):nO w x:=by
  obtain ⟨g1,g2,g3⟩:=nw h.2
  exact ⟨h.1,g1, .inr ⟨g3.symm,by show w.Is (bj x) ≠ 0; omega⟩⟩
end Go.Proofs.Ytmdpbdhkmfjlhaa
namespace Go.Proofs.Ytmdpbdhkmfjlhaa
open Go Go.Bw
section
end
end Go.Proofs.Ytmdpbdhkmfjlhaa
namespace Go.Bw
open Go Go.RowKit
structure Bs (P:Program) (gf:Nat) (caps:List Value) (Hc Ho:List aF) (K:World→Prop) (encs:Nat→List Value) (n:Nat):Prop where
  fn:∀(l:Nat) (J:Nat→List Nat→World→Prop) (Jx:List Nat→World→Prop) (bs:List Nat),
    Fn (α:=Bool × List Nat) P gf (.func (.yield l) #[] #[]::caps) (fun w=>yU (bs++br Hc) K w∧Bp P l (bs++br Hc) w J Jx encs n) (.ext bs (J 0 bs)::Hc)
      (fun _=>True) (fun _=>.tuple #[]) (fun x=>.ext x.2 (bif x.1 then J n x.2 else Jx x.2)::Ho)
theorem nD {P:Program} {N:Nat} {c:Cx} {D:List Deferred} {Q:Exit→Act→World→Prop} {F:cv} {H:List aF} {g:Operand} {ps:List Nat} {assign body:Code}
    {gf n:Nat} {caps:Array Value} {Hc Ho:List aF} {K:World→Prop} {encs:Nat→List Value} {α β:Type}
    (hro:c.ro = none) (hg:ev F g = some (.func (.func gf) #[] caps)) (hit:Bs P gf caps.toList Hc Ho K encs n) (hlen:∀k,(encs k).length = ps.length) (hps:ps.all (Nat.blt · N) = true)
    [JH:vt c [] K]
    (p:Nat→α→Prop) (I:Nat→α→List aF) (px:Code→β→Prop) (X:β→List aF) (i0:α) (zY:p 0 i0) {ks:List Nat} (hk:pick H ks = some (Hc++I 0 i0)) (hn:ks.Nodup)
    (hbody:∀(k:Nat) (i:α) (l dd:Nat) (rec:Loop) (c' : Cx),k < n→p k i→rec.state = .ready→rec.pending = none→c'.ro = some l→(∀w,aR c'.bs c'.w0 w→aR c.bs c.w0 w) →
      (∀b,(b ∈ c'.bs∨c'.w0.heap.size ≤ b)→(b ∈ c.bs∨c.w0.heap.size ≤ b)) →
      WP P N c' [] assign (uN P l body (uM c' (JW c.w0.heap.size c.bs (p (k + 1)) (fun i=>.obj dd (.deferred (some []))::.obj l (.loop rec)::I (k + 1) i))
        (JW c.w0.heap.size c.bs (fun q:Code × β=>px q.1 q.2) (fun q=>.obj dd (.deferred (some []))::.obj l (.loop { rec with state:=.done,pending:=some q.1 })::X q.2))))
        (n3 ps (encs k) F) (.obj dd (.deferred (some []))::.obj l (.loop rec)::I k i))
    (hdone:∀dd i,p n i→WQ N c (mark dd::D) Q .normal F (.obj dd (.deferred (some []))::(Ho++I n i)))
    (xW:∀dd j i,px j i→WP P N c (mark dd::D) j Q F (.obj dd (.deferred (some []))::(Ho++X i))) :
    WP P N c D (.rangeFunc g ps.toArray assign body) Q F H:=fun a w hst=>by
  refine wpIn_rangeFunc fun fn _=>?_
  have lU:(FA c.ro).round = none:=hro
  rw [lU]
  obtain ⟨rec,kD⟩ : ∃rec:Loop,rec = { state:=.ready,pending:=none,fn,tmps:=a.tmps,params:=ps.toArray,assign,body,defers:=w.heap.size }:=⟨_,rfl⟩
  obtain ⟨W1,yc⟩ : ∃W1,(w.alloc (.deferred (some []))).alloc (.loop rec) = W1:=⟨_,rfl⟩
  have Cd:aR [] w W1:=by rw [← yc]; exact (aR.alloc w _).ext (aR.alloc _ _)
  have IP:W1.heap.size = w.heap.size + 2:=by rw [← yc]; simp
  have JG:W1.heap[w.heap.size + 1]? = some (.loop rec):=by
    rw [← yc]; have:=World.alloc_heap_new (w.alloc (.deferred (some []))) (.loop rec); rwa [World.size_alloc] at this
  have JI:W1.heap[w.heap.size]? = some (.deferred (some [])):=by
    rw [← yc]; exact (Below.heap_alloc _ _ _ (by simp)).trans (World.alloc_heap_new w _)
  have Jt:=aV hst.fr hg
  have hfr:=hst.fr
  let J:Nat→List Nat→World→Prop:=fun k=>JW c.w0.heap.size c.bs (p k) (fun i=>.obj w.heap.size (.deferred (some []))::.obj (w.heap.size + 1) (.loop rec)::I k i)
  let Jx:List Nat→World→Prop:=JW c.w0.heap.size c.bs (fun q:Code × β=>px q.1 q.2) (fun q=>.obj w.heap.size (.deferred (some []))::.obj (w.heap.size + 1) (.loop { rec with state:=.done,pending:=some q.1 })::X q.2)
  have xQ:=(hst.hp.ext Cd).pick hk hn
  have CQ:bB c.bs c.w0.heap.size (.obj w.heap.size (.deferred (some []))::.obj (w.heap.size + 1) (.loop rec)::(Hc++I 0 i0)) W1:=by
    have hlt:∀s ∈ Hc++I 0 i0,∀b ∈ s.fG,b < w.heap.size:=fun s hs b hb=>by
      have hm:s ∈ H:=by
        obtain ⟨jj,hj⟩:=List.mem_iff_getElem?.1 hs
        obtain ⟨kk,_,hh⟩:=jQ hk jj s hj
        exact List.mem_of_getElem? hh
      exact (hst.hp.own s hm b hb).2
    have IN:=hst.si.size
    refine bB.cons (bB.cons xQ JG ?_ ?_) JI ?_ ?_
    · intro b hb; have e:b = w.heap.size + 1:=by simpa [aF.fG] using hb
      subst e; exact ⟨.inr (by omega),by omega⟩
    · intro s hs b hb cX
      have e:b = w.heap.size + 1:=by simpa [aF.fG] using hb
      have:=hlt s hs b cX; omega
    · intro b hb; have e:b = w.heap.size:=by simpa [aF.fG] using hb
      subst e; exact ⟨.inr (by omega),by omega⟩
    · intro s hs b hb cX
      have e:b = w.heap.size:=by simpa [aF.fG] using hb
      rcases List.mem_cons.1 hs with rfl | hs
      · have e2:b = w.heap.size + 1:=by simpa [aF.fG] using cX
        omega
      · have:=hlt s hs b cX; omega
  let I0:List aF:=.obj w.heap.size (.deferred (some []))::.obj (w.heap.size + 1) (.loop rec)::I 0 i0
  have CP:bB c.bs c.w0.heap.size I0 W1:=CQ.sub (by
    refine List.Sublist.cons_cons _ (List.Sublist.cons_cons _ (List.sublist_append_right _ _)))
  have wM:bB c.bs c.w0.heap.size Hc W1:=CQ.sub (by
    refine List.Sublist.cons _ (List.Sublist.cons _ (List.sublist_append_left _ _)))
  have hap:∀r ∈ I0,∀s ∈ Hc,r.apart s:=by
    intro r hr s hs
    have xP:=CQ.apart
    rw [List.pairwise_cons,List.pairwise_cons,List.pairwise_append] at xP
    obtain ⟨q1,q2,_,_,q3⟩:=xP
    rcases List.mem_cons.1 hr with rfl | hr
    · exact q1 s (by simp [hs])
    · rcases List.mem_cons.1 hr with rfl | hr
      · exact q2 s (by simp [hs])
      · exact aF.g8 (q3 s hs r hr)
  have hfn:=hit.fn (w.heap.size + 1) J Jx (br I0)
  have uk:br (aF.ext (br I0) (J 0 (br I0))::Hc) = br I0++br Hc:=by simp [br,aF.fG]
  refine ⟨w.heap.size + 1,[mark w.heap.size],W1,{ target:=.fn (.func gf) caps,args:=#[.func (.yield (w.heap.size + 1)) #[] #[]] },W1,gf,
    (Value.func (.yield (w.heap.size + 1)) #[] #[]::caps.toList).toArray,W1,?_,?_,fun _ _=>trivial,?_,fun h=>by simp at h,?_⟩
  · rw [← yc,kD]; exact run_enterLoop_outer _ _ _ _ _
  · simp only [resolve,Jt]
    simp [go_sem]
  · have:=hfn.enter (#[.func (.yield (w.heap.size + 1)) #[] #[]]++caps) W1
    simp only [invoke]
    rw [this]
    congr 2
    simp
  · have hin:bB (br I0++br Hc) W1.heap.size (aF.ext (br I0) (J 0 (br I0))::Hc) W1:=by
      refine ⟨?_,?_,?_⟩
      · intro r hr
        rcases List.mem_cons.1 hr with rfl | hr
        · exact rW (I:=fun i=>.obj w.heap.size (.deferred (some []))::.obj (w.heap.size + 1) (.loop rec)::I 0 i) i0 zY CP
        · exact wM.holds r hr
      · intro r hr b hb
        rcases List.mem_cons.1 hr with rfl | hr
        · obtain ⟨s,hs,cX⟩:=bY.1 hb
          exact ⟨.inl (List.mem_append_left _ hb),(CP.own s hs b cX).2⟩
        · exact ⟨.inl (List.mem_append_right _ (bY.2 ⟨r,hr,hb⟩)),(wM.own r hr b hb).2⟩
      · refine List.pairwise_cons.2 ⟨fun s hs b hb cX=>?_,wM.apart⟩
        obtain ⟨r,hr,q9⟩:=bY.1 hb
        exact hap r hr s hs b q9 cX
    have nT:∀b ∈ br I0++br Hc,b ∈ c.bs∨c.w0.heap.size ≤ b:=fun b hb=>by
      rcases List.mem_append.1 hb with h | h
      · obtain ⟨r,hr,q9⟩:=bY.1 h; exact (CP.own r hr b q9).1
      · obtain ⟨r,hr,q9⟩:=bY.1 h; exact (wM.own r hr b q9).1
    have sI:aR c.bs c.w0 W1:=hst.si.ext Cd
    have uj:=hfn.calls W1 ⟨fun w' Cb=>JH.ok w' (sI.trans Cb nT) (fun r hr=>by cases hr),?_⟩ (by rw [uk]; exact hin)
    · refine ji c.ro ?_
      intro cs
      obtain ⟨e,w2,fr,⟨x,_,he,vU,xZ⟩,tZ,nS⟩:=uj cs
      refine ⟨e,w2,fr,?_,tZ,nS⟩
      subst he
      rw [uk] at vU xZ
      obtain ⟨go,bs'⟩:=x
      have xN:aR c.bs c.w0 w2:=sI.trans vU nT
      have hex:=xZ.holds _ (List.mem_cons_self)
      have CO:∀r ∈ Ho,r.holds w2:=fun r hr=>xZ.holds r (List.mem_cons_of_mem _ hr)
      have CN:∀s ∈ Ho,∀b ∈ bs',b ∉ s.fG:=fun s hs b hb=>by
        have:=xZ.apart
        rw [List.pairwise_cons] at this
        exact this.1 s hs b hb
      have both:∀(IL:List aF) (jump:Option Code) (st:LoopState),st ≠ .busy→bs' = br (.obj w.heap.size (.deferred (some []))::.obj (w.heap.size + 1) (.loop { rec with state:=st,pending:=jump })::IL) →
          bB c.bs c.w0.heap.size (.obj w.heap.size (.deferred (some []))::.obj (w.heap.size + 1) (.loop { rec with state:=st,pending:=jump })::IL) w2 →
          ∃w4,(Instr.endLoop (w.heap.size + 1)).run P w2 = .ok jump w4∧St N c (mark w.heap.size::D) F (.obj w.heap.size (.deferred (some []))::(Ho++IL)) { a with defers:=mark w.heap.size::a.defers } w4:=by
        intro IL jump st xM cX hI
        have hl:w2.heap[w.heap.size + 1]? = some (.loop { rec with state:=st,pending:=jump }):=hI.holds (.obj (w.heap.size + 1) _) (by simp)
        have jV:bB c.bs c.w0.heap.size (.obj w.heap.size (.deferred (some []))::.obj (w.heap.size + 1) (.loop { rec with state:=st,pending:=jump })::(Ho++IL)) w2:=by
          have hq:=hI.apart
          rw [List.pairwise_cons,List.pairwise_cons] at hq
          refine ⟨?_,?_,?_⟩
          · intro r hr
            rcases List.mem_cons.1 hr with rfl | hr
            · exact hI.holds _ (by simp)
            · rcases List.mem_cons.1 hr with rfl | hr
              · exact hI.holds _ (by simp)
              · rcases List.mem_append.1 hr with h | h
                · exact CO r h
                · exact hI.holds r (by simp [h])
          · intro r hr b hb
            rcases List.mem_cons.1 hr with rfl | hr
            · exact hI.own _ (by simp) b hb
            · rcases List.mem_cons.1 hr with rfl | hr
              · exact hI.own _ (by simp) b hb
              · rcases List.mem_append.1 hr with h | h
                · obtain ⟨o,lt⟩:=xZ.own r (List.mem_cons_of_mem _ h) b hb
                  exact ⟨o.elim (nT b) (fun o=>.inr (Nat.le_trans sI.size o)),lt⟩
                · exact hI.own r (by simp [h]) b hb
          · have CK:∀r,r ∈ (aF.obj w.heap.size (.deferred (some []))::.obj (w.heap.size + 1) (.loop { rec with state:=st,pending:=jump })::IL)→∀s ∈ Ho,r.apart s:=fun r hr s hs b hb CM =>
              CN s hs b (by rw [cX]; exact bY.2 ⟨r,hr,hb⟩) CM
            refine List.pairwise_cons.2 ⟨fun s hs=>?_,List.pairwise_cons.2 ⟨fun s hs=>?_,List.pairwise_append.2 ⟨(List.pairwise_cons.1 xZ.apart).2,hq.2.2,fun s hs r hr=>aF.g8 (CK r (by simp [hr]) s hs)⟩⟩⟩
            · rcases List.mem_cons.1 hs with rfl | hs
              · exact hq.1 _ (by simp)
              · rcases List.mem_append.1 hs with h | h
                · exact CK _ (by simp) s h
                · exact hq.1 s (by simp [h])
            · rcases List.mem_append.1 hs with h | h
              · exact CK _ (by simp) s h
              · exact hq.2.1 s h
        have xL:St N c (mark w.heap.size::D) F (.obj w.heap.size (.deferred (some []))::.obj (w.heap.size + 1) (.loop { rec with state:=st,pending:=jump })::(Ho++IL)) { a with defers:=mark w.heap.size::a.defers } w2:=
          ⟨hst.tm,hfr,by simp [hst.df],xN,jV⟩
        have IU:n9 (.obj w.heap.size (.deferred (some []))::.obj (w.heap.size + 1) (.loop { rec with state:=st,pending:=jump })::(Ho++IL)) (w.heap.size + 1) (.loop { rec with state:=.exhausted,pending:=jump }) (.obj w.heap.size (.deferred (some []))::.obj (w.heap.size + 1) (.loop { rec with state:=.exhausted,pending:=jump })::(Ho++IL)):=inferInstance
        have ho:nH (.obj w.heap.size (.deferred (some []))::.obj (w.heap.size + 1) (.loop { rec with state:=st,pending:=jump })::(Ho++IL)) (w.heap.size + 1) (.loop { rec with state:=st,pending:=jump }):=inferInstance
        obtain ⟨h3,_⟩:=xL.xe ho IU
        refine ⟨_,run_endLoop hl xM,⟨h3.tm,h3.fr,h3.df,h3.si,h3.hp.sub ?_⟩⟩
        exact List.Sublist.cons_cons _ (List.Sublist.cons _ (List.Sublist.refl _))
      cases go with
      | true =>
        obtain ⟨i,vX,hI,cX⟩:=ext_get hex
        have Fj:({ rec with state:=LoopState.ready,pending:=none }:Loop) = rec:=by rw [kD]
        obtain ⟨w4,h4,h5⟩:=both (I n i) none .ready (by simp) (by rw [Fj]; exact cX) (by rw [Fj]; exact hI)
        exact ⟨none,w4,h4,hdone _ i vX _ _ h5⟩
      | false =>
        obtain ⟨⟨j,i⟩,vX,hI,cX⟩:=ext_get hex
        obtain ⟨w4,h4,h5⟩:=both (X i) (some j) .done (by simp) cX hI
        exact ⟨some j,w4,h4,xW _ j i vX _ _ h5⟩
    ·
      intro k DO W bs IV JD CC
      obtain ⟨i,vX,hI,cX⟩:=ext_get CC
      have hl:W.heap[w.heap.size + 1]? = some (.loop rec):=hI.holds (.obj (w.heap.size + 1) _) (by simp)
      have hy:=run_yield (P:=P) (args:=(encs k).toArray) hl (by rw [kD]; simpa using hlen k)
      refine ⟨_,_,_,_,hy,?_⟩
      have xO:aR c.bs c.w0 W:=sI.trans IV nT
      have hsub:∀b,(b ∈ br (aF.obj w.heap.size (.deferred (some []))::.obj (w.heap.size + 1) (.loop rec)::I k i)∨W.heap.size ≤ b)→(b ∈ c.bs∨c.w0.heap.size ≤ b):=fun b hb=>by
        rcases hb with hb | hb
        · obtain ⟨r,hr,q9⟩:=bY.1 hb; exact (hI.own r hr b q9).1
        · exact .inr (Nat.le_trans xO.size hb)
      have hb:=hbody k i (w.heap.size + 1) w.heap.size rec ⟨some (w.heap.size + 1),W,bs⟩ DO vX (by rw [kD]) (by rw [kD]) rfl (fun w' Cb=>xO.trans Cb fun b hb=>hsub b (.inl (by rw [← cX]; exact hb))) (fun b hb=>hsub b (by rw [← cX]; exact hb))
      have ht:=u5 (ps:=ps) (vs:=encs k) hfr hst.tm hps
      have B2:(rec.params.zip (encs k).toArray).foldl (fun tmps (t,a)=>tmps.setIfInBounds t a) rec.tmps = (ps.zip (encs k)).foldl (fun t q=>t.setIfInBounds q.1 q.2) a.tmps:=by
        rw [kD]; simp
      rw [B2]
      have Fk:rec.assign = assign∧rec.body = body:=by rw [kD]; exact ⟨rfl,rfl⟩
      rw [Fk.1,Fk.2]
      have F8:bB bs W.heap.size (.obj w.heap.size (.deferred (some []))::.obj (w.heap.size + 1) (.loop rec)::I k i) W:=
        ⟨hI.holds,fun r hr b hb=>⟨.inl (by rw [cX]; exact bY.2 ⟨r,hr,hb⟩),(hI.own r hr b hb).2⟩,hI.apart⟩
      have lU:=roundIn_of_wpIn (F:=FA none) (n:=0) (P:=P) (l:=w.heap.size + 1) (f:=rec.fn) (R:=uM ⟨some (w.heap.size + 1),W,bs⟩ (J (k + 1)) Jx) trivial
        (hb { tmps:=(ps.zip (encs k)).foldl (fun t q=>t.setIfInBounds q.1 q.2) a.tmps,defers:=[] } W ⟨ht.2,ht.1,rfl,aR.refl _ _,F8⟩)
      refine lU.mono fun e W' hr=>?_
      rw [uk] at *
      exact hr
end Go.Bw
namespace Go.Bw
open Go Go.RowKit
section rules
variable {P:Program} {N:Nat} {c:Cx} {D:List Deferred} {Q:Exit→Act→World→Prop} {F:cv} {H:List aF} {d:Option Tmp} {ty:TypeId} {ps:String} {af:Array Edge} {g:Option (Nat × Bool)} {α β γ:Type}
theorem VS.w6 {o:Oper} {v:Value} {H' : List aF} (h:VS P N c o F H v) (ht:∀w,bB c.bs c.w0.heap.size H w→bB c.bs c.w0.heap.size H' w):RX (α:=Unit) P N c o F H (fun _=>True) (fun _=>v) (fun _=>H'):=
  fun D a w next Q hst hk=>h D a w next Q hst fun w' hw=>hk () w' trivial (hst.si.ext hw) (ht _ (hst.hp.ext hw))
theorem zX {bs:List Nat} {n0 b e sz:Nat} {w:World} {L:aY α} [aP L] {y:α} (hn:L.n = sz) (h:bB bs n0 (.cells b e (L.enc y)::H) w):bB bs n0 (Row (.slice (some ⟨b,0,none⟩) 1 1) e sz L [y]::H) w:=by
  have:=h.w6 (k:=0) (r:=.cells b e (L.enc y)) (r':=Row (.slice (some ⟨b,0,none⟩) 1 1) e sz L [y]) rfl (fun w hw=>by
    have hb:w.heap[b]? = some (.cells (L.enc y).toArray e (0,0)):=hw
    have e1:dR L [y] = L.enc y:=qc L y
    refine ⟨by rw [e1,bw,hn]; simp, .inr ⟨b,1,_,rfl,Nat.zero_le _,hb,Nat.le_refl _,by decide,by simp [bw,hn],?_⟩⟩
    rw [e1]
    exact List.take_of_length_le (by rw [bw,hn]; simp)) (fun x hx=>by simpa [aF.fG,Value.ownBlock] using hx)
  exact this
theorem AI {x:Operand} {t e sz:Nat} (L:aY α) [aP L] (y:α) {zs:List Value} {val:Value} [ht:n8 P t e sz] [hz:cy P e zs] (hx:ev F x = some val) (hc:val.cells.toList = L.enc y) (hl:L.n = sz) (He:zs.length = sz) (h0:0 < sz) (hs:sz ≤ 16777216) :
    RX P N c ⟨d, .buildSlice t 1 #[(0,x)],ty,ps,af,g⟩ F H (fun _=>True) (fun b=>.slice (some ⟨b,0,none⟩) 1 1) (fun b=>Row (.slice (some ⟨b,0,none⟩) 1 1) e sz L [y]::H):=
  fun D a w next Q hst hk=>mg L y hx hc hl He h0 hs D a w next Q hst fun b w' hp hsi hh=>hk b w' hp hsi (zX hl hh)
theorem vE {w:World} {v:Value} {e sz n m:Nat} {xs:List Value} (h:(aF.row v e sz n xs).holds w) (hm:m ≤ n):(aF.row (g7 0 m sz v) e sz m (xs.take (m * sz))).holds w:=by
  obtain ⟨h1,h2⟩:=h
  have hle:m * sz ≤ n * sz:=Nat.mul_le_mul_right _ hm
  refine ⟨by rw [List.length_take,h1,Nat.min_eq_left hle],?_⟩
  rcases h2 with ⟨rfl,rfl⟩ | ⟨gb,cap,cur,rfl,q1,q2,q3,q4,q5,q6⟩
  · obtain rfl:m = 0:=by omega
    exact .inl ⟨by simp [g7],rfl⟩
  · refine .inr ⟨gb,cap,cur,?_,q1,q2,by omega,q4,q5,?_⟩
    · simp [g7,Addr.add_lit]
    · rw [← q6,List.take_take,Nat.min_eq_left hle]
theorem vo {v:Value} {n m sz:Nat} (h:jw v n):jw (g7 0 m sz v) m:=by
  obtain ⟨a,cp,rfl⟩:=h; exact ⟨_,_,rfl⟩
theorem qa (L:aY α) [aP L] (xs:List α) {m sz:Nat} (hn:L.n = sz) (hm:m ≤ xs.length):(dR L xs).take (m * sz) = dR L (xs.take m):=by
  have:=su L xs 0 m (Nat.zero_le _) hm
  subst hn
  simpa using this
theorem Cg {bs:List Nat} {n0 e sz m:Nat} {w:World} {v:Value} {L:aY α} [aP L] {xs:List α} {f:aF→List aF} [hr:kZ H v e sz xs.length (dR L xs) f] (hn:L.n = sz) (hm:m ≤ xs.length) (h:bB bs n0 H w):bB bs n0 (f (Row (g7 0 m sz v) e sz L (xs.take m))) w:=by
  obtain ⟨k,k1,k2⟩:=hr.ok
  rw [k2]
  refine h.w6 k1 (fun w hw=>?_) (fun b hb=>?_)
  · have:=vE (m:=m) hw hm
    rw [qa L xs hn hm] at this
    have e1:(xs.take m).length = m:=by rw [List.length_take]; omega
    unfold Row; rw [e1]; exact this
  · simpa [aF.fG,yp] using hb
theorem qG {x hi:Operand} {t e sz m:Nat} {k:IntKind} {i:Int} {v:Value} {L:aY α} [aP L] {xs:List α} {f:aF→List aF} [ht:n8 P t e sz] (hs:jw v xs.length) (hn:L.n = sz) (hx:ev F x = some v) (hhi:ev F hi = some (.int k i)) (hi' : i = (m:Int)) (hm:m ≤ xs.length) [hr:kZ H v e sz xs.length (dR L xs) f] [Kn c H (Hs [Row v e sz L xs])] :
    RX (α:=Unit) P N c ⟨d, .slice t x none (some hi) none,ty,ps,af,g⟩ F H (fun _=>True) (fun _=>g7 0 m sz v) (fun _=>f (Row (g7 0 m sz v) e sz L (xs.take m))):=
  (wv (Fz.row (e:=e) hn.symm hs) hx hhi hi' hm).w6 fun _ hp=>Cg hn hm hp
theorem qb (L:aY α) [aP L] (z0:α) {z:Value} (he:L.enc z0 = [z]):∀n:Nat,dR L (List.replicate n z0) = List.replicate n z
  | 0=>rfl
  | n + 1=>by
    have:=qb L z0 he n
    rw [List.replicate_succ,List.replicate_succ]
    show L.enc z0++dR L (List.replicate n z0) = _
    rw [he,this]; rfl
theorem sq {P:Program} {w:World} {t e ty:Nat} (e1:P.underlying t = some (.slice e)) (a:Option Addr) (cp:Nat):(Builtin.clear_ #[t] ty #[.slice a 0 cp]).run P w = .ok (.tuple #[]) w:=by
  cases a <;> simp [Builtin.clear_,run_underlying e1]
theorem wB {L:aY α} [aP L] {xs ys:List α} {v:Value} {e t m:Nat} {z0:α} {z:Value} {x:Operand} {f:aF→List aF} (ht:vh P t e 1 = true) (hz:Dl P e z) (he:L.enc z0 = [z]) (Mg:z.cells = #[z]) (h1:z.oneCell' = true) (hL:L.n = 1) (hm:m ≤ xs.length)
    (hx:ev F x = some (g7 m xs.length 1 v)) [hr:kZ H v e 1 xs.length (dR L xs) f] (hy:ys = xs.take m++List.replicate (xs.length - m) z0) :
    RX (α:=Unit) P N c ⟨d, .call ⟨.builtin .clear,#[x],#[t]⟩,ty,ps,af,g⟩ F H (fun _=>True) (fun _=>.tuple #[]) (fun _=>f (Row v e 1 L ys)):=fun D a w next Q hst hk=>by
  obtain ⟨inf,e1,e2,e3⟩:=n8.get ht
  obtain ⟨k,k1,k2⟩:=hr.ok
  have zZ:aF.row v e 1 xs.length (dR L xs) ∈ H:=List.mem_of_getElem? k1
  have hown:w.ownsRow 0 e 1 v xs.length (dR L xs):=hst.hp.holds _ zZ
  obtain ⟨hlen,qv⟩:=hown
  have KG:=aV hst.fr hx
  have A9:ys.length = xs.length:=by rw [hy,List.length_append,List.length_take,List.length_replicate]; omega
  by_cases hem:m = xs.length
  · have KC:ys = xs:=by rw [hy,hem,List.take_length]; simp
    refine eT (by simp) (v:=.tuple #[]) (w':=w) ?_ (hk () w trivial hst.si ?_)
    · have hv:∃a0 cp,a.eval x = .slice a0 0 cp:=by
        rw [KG,hem]
        rcases qv with ⟨hv,h0⟩ | ⟨gb,cap,cur,hv,_⟩
        · rw [hv]; exact ⟨_,_,by rw [g7,Nat.sub_self]⟩
        · rw [hv]; exact ⟨_,_,by rw [g7,Nat.sub_self]⟩
      obtain ⟨a0,cp,hv⟩:=hv
      have:=sq (P:=P) (w:=w) (ty:=ty) e1 a0 cp
      simp [execOp,resolve,invoke,builtin,hv,this]
    · rw [k2]
      exact hst.hp.w6 k1 (fun w hw=>by rw [KC]; exact hw) (fun b hb=>by rw [KC] at hb; exact hb)
  · rcases qv with ⟨_,h0⟩ | ⟨gb,cap,cur,rfl,_,Be,hnc,Hl,hcs,u9⟩
    · omega
    have hone:gW (List.replicate (xs.length - m) z):=fun v hv=>by rw [List.eq_of_mem_replicate hv]; exact h1
    have hsc:=run_storeCells_at P gb m e (List.replicate (xs.length - m) z) 0 cur w Be (by simp; omega) hone
    simp only [Nat.add_zero] at hsc
    obtain ⟨cs',CI⟩ : ∃cs',(cur.toList.take m++List.replicate (xs.length - m) z++cur.toList.drop (m + (List.replicate (xs.length - m) z).length)).toArray = cs':=⟨_,rfl⟩
    rw [CI] at hsc
    have lA:aR [gb] w (w.setRow gb cs'):=⟨rfl,rfl,rfl,by simp,fun k _ hk=>setRow_other w gb k _ (by simpa using hk)⟩
    refine eT (by simp) (v:=.tuple #[]) (w':=w.setRow gb cs') ?_ (hk () _ trivial (hst.si.store hst.hp zZ (by simp [aF.fG,Value.ownBlock]) lA) ?_)
    · obtain ⟨j,hj⟩ : ∃j,xs.length - m = j + 1:=⟨xs.length - m - 1,by omega⟩
      have Io:=xg hz w
      have Ip:=pJ Mg (j + 1)
      have hne:¬ cap = m:=by omega
      rw [hj] at hsc
      have Mh:a.eval x = .slice (some ⟨gb,m,none⟩) (j + 1) (cap - m):=by rw [KG]; simp [g7,hne,Addr.add_lit,hj]
      simp [execOp,resolve,invoke,builtin,Mh,Builtin.clear_,run_underlying e1,Io,Ip,hsc]
    · show bB c.bs c.w0.heap.size (f (Row _ e 1 L ys)) _
      rw [Row,k2]
      have xL:=setRow_heap w gb cur cs' e (0,0) Be
      have Jw:cur.toList.length = cap:=by simpa using hcs
      refine hst.hp.set k1 lA.size (fun j hj hn=>lA.block j hj (by simpa [aF.fG,Value.ownBlock] using hn)) ?_ hst.si.size (fun b' hb'=>?_)
      · refine ⟨by rw [kM,hL], .inr ⟨gb,cap,cs',by rw [A9],Nat.zero_le _,xL,by omega,Hl,?_,?_⟩⟩
        · rw [← CI]; simp; omega
        · rw [A9,← CI,Nat.mul_one,hy,kN,qb L z0 he]
          have t1:=qa L xs (m:=m) (sz:=1) hL hm
          rw [Nat.mul_one] at t1
          rw [← t1,← u9,List.take_take,Nat.mul_one,Nat.min_eq_left hm]
          simp only [List.toList_toArray]
          rw [List.take_append_of_le_length (by simp; omega)]
          exact List.take_of_length_le (by simp; omega)
      · have h5:b' = gb:=by simpa [aF.fG,Value.ownBlock] using hb'
        subst h5
        exact ⟨.inl (by simp [aF.fG,Value.ownBlock]),Nat.lt_of_lt_of_le (Array.getElem?_eq_some_iff.1 Be).1 lA.size⟩
theorem GN {ops:Array Oper} {rest:List Oper} {op:Op} {dd:Tmp} {gg:Option (Nat × Bool)} {b:Bool} {p:α→Prop} {fv:α→Value} {fH:α→List aF} (hg:Gd ops F gg b) (hb:b = true) (hd:Nat.blt dd N = true) (hv:RX P N c ⟨some dd,op,ty,ps,af,gg⟩ F H p fv fH)
    (h:∀x,p x→WL P N c D ops Q rest ((dd,bif b then fv x else undef)::F) (fH x)):WL P N c D ops Q (⟨some dd,op,ty,ps,af,gg⟩::rest) F H:=by
  subst hb
  exact GM hg hd (fun _=>hv) (fun _ x hx=>h x hx) nofun
theorem GO {ops:Array Oper} {rest:List Oper} {op:Op} {dd:Tmp} {gg:Option (Nat × Bool)} {b:Bool} {v:Value} (hg:Gd ops F gg b) (hb:b = false) (hd:Nat.blt dd N = true)
    (h:WL P N c D ops Q rest ((dd,bif b then v else undef)::F) H):WL P N c D ops Q (⟨some dd,op,ty,ps,af,gg⟩::rest) F H:=by
  subst hb
  exact oo hg hd h
theorem F9 {x y:Bool} (h:(x == false) = false) (hc:(x || y) = false):False:=by cases x <;> simp at h hc
theorem KW {x y b:Bool} (h:(x == false) = true) (hc:(x || y) = b):y = b:=by cases x <;> simp_all
theorem Fn.En {P:Program} {f:Nat} {args:List Value} {K:World→Prop} {e sz:Nat} {L:aY α} [aP L] {xs:List α} (hn:sz = L.n) (h:Fn (α:=Value) P f args K [] (fun v=>jw v xs.length) (fun v=>v) (fun v=>[Row v e sz L xs])):tv P f args K (fun J v=>Fz J v L xs):=by
  refine ⟨h.enter,fun w hw hp cs=>?_⟩
  obtain ⟨en,w',fr,⟨v,px,he,hs,hh⟩,more⟩:=h.calls w hw hp cs
  refine ⟨en,w',fr,⟨(v,br [Row v e sz L xs],Hs [Row v e sz L xs]),?_,he,hs,rD (R:=[Row v e sz L xs]) (H':=[]) hh⟩,more⟩
  exact (Fz.row (e:=e) hn px).mono od
theorem Fn.Em {P:Program} {f:Nat} {args:List Value} {K:World→Prop} {e sz:Nat} {L:aY α} [aP L] {xs:List α} (hn:sz = L.n) (h:Fn (α:=Value) P f args K [] (fun v=>jw v xs.length) (fun v=>v) (fun v=>[Row v e sz L xs])):tv P f args K (fun J v=>Fz (fun w=>K w∧J w) v L xs):=by
  refine ⟨h.enter,fun w hw hp cs=>?_⟩
  obtain ⟨en,w',fr,⟨v,px,he,hs,hh⟩,more⟩:=h.calls w hw hp cs
  refine ⟨en,w',fr,⟨(v,br [Row v e sz L xs],Hs [Row v e sz L xs]),?_,he,hs,rD (R:=[Row v e sz L xs]) (H':=[]) hh⟩,more⟩
  exact (Fz.row (e:=e) hn px).mono od
end rules
end Go.Bw
namespace Go.Proofs.Ytmdpbdhkmfjlhaa
open Go Go.Bw
structure aI where
 At:Int
 N:Int
abbrev ah:aY aI:=aY.via (LP (LI .i64) (LI .i64)) (fun x=>(x.At,x.N))
abbrev gE:aI:=⟨0,0⟩
instance:Inhabited aI:=⟨gE⟩
theorem dH:aS ah (LI .i64) 0 (fun x=>x.At) (fun x v=>{ x with At:=v }):=(aS.fst aS.id).via _ _ _ 0 rfl (fun _=>rfl) (fun _ _=>rfl)
theorem dc:aS ah (LI .i64) 1 (fun x=>x.N) (fun x v=>{ x with N:=v }):=(aS.snd aS.id).via _ _ _ 1 rfl (fun _=>rfl) (fun _ _=>rfl)
def iF (n:Nat) (a0:(List aI)):Option (List aI):=
 some a0
theorem mM {n a0 r K} [bL K] {v0} (f0:Fz K v0 ah a0) (h:iF n a0 = some r):Bw.Fn (α:=Nat × List Value) Try.prog 149 [v0] K [] (fun (b0,c0)=>((ou ah)).rep K c0 r) (fun (b0,c0)=>.func (.func 165) #[] #[Ptr b0 0]) (fun (b0,c0)=>[.cells b0 44 c0]):=by
 unfold iF at h
 refine fo Try.func149 (by kernel_rfl) rfl Try.ntmps149 rfl fun cx _ hro cX hpre=>?_
 refine SC 2 rf ?_
 refine W1 rf (vp rfl f0.sl.cells) fun b1=>?_
 refine SL 10 rf ?_
 have h:=sj h; subst h
 exact dL ⟨b1,[v0]⟩ rfl (.tmp rfl .nil) (aY.mono _ od ⟨_,rfl,f0⟩) rfl (ks:=[0]) rfl (by decide)
structure bR where
 l:(List aI)
abbrev bH:aY bR:=aY.via (ou ah) (fun x=>x.l)
abbrev iy:bR:=⟨[]⟩
def eF:List Value:=[.slice none 0 0]
theorem fV {A:World→Prop}:bH.rep A eF iy:=⟨_,rfl,Fz.nil⟩
theorem pY:aS bH (ou ah) 0 (fun x=>x.l) (fun x v=>{ x with l:=v }):=aS.id.via _ _ _ 0 rfl (fun _=>rfl) (fun _ _=>rfl)
def gL (n:Nat) (a0:bR):Option (List aI):=
 bd (iF n a0.l) fun j4 =>
 some j4
theorem nA {n a0 r K} [bL K] {ep} (f0:(bH).rep K ep a0) (h:gL n a0 = some r):Bw.Fn (α:=Nat × List Value) Try.prog 94 [A ep] K [] (fun (b0,c0)=>((ou ah)).rep K c0 r) (fun (b0,c0)=>.func (.func 165) #[] #[Ptr b0 0]) (fun (b0,c0)=>[.cells b0 44 c0]):=by
 unfold gL at h
 refine fo Try.func94 (by kernel_rfl) rfl Try.ntmps94 rfl fun cx _ hro cX hpre=>?_
 refine SC 2 rf ?_
 refine W1 rf (cO rfl) fun b1=>?_
 obtain ⟨j4,nq,h⟩:=bz h
 refine SL 6 rf ?_
 obtain ⟨HF,tY,f22⟩:=pY.sl f0
 refine au rfl (cE rfl tY) ?_
 refine ef rfl (fI (mM (K:=K) (f22.mono od) nq) rfl kn) (fun ⟨Kg,Gv⟩ f26=>?_)
 replace f26:((ou ah)).rep K Gv j4:=f26
 dsimp only [List.cons_append,List.nil_append]
 refine SL 4 rf ?_
 have h:=sj h; subst h
 exact dL ⟨Kg,Gv⟩ rfl (.tmp rfl .nil) (mo f26) rfl (ks:=[0]) rfl (by decide)
def eG (n:Nat) (a1:(List aI)):Option (List (Int × aI)):=
 dz (fun A6 (dF:Int) =>
 cn (decide (dF < (a1.length:Int))) (
 gu (cV dF a1.length) <|
 lt ((a1.getD (Int.toNat dF) default):aI) fun fM =>
 yl (dF,fM) <|
 A6 (wr .i64 (dF + 1))) (
 some [])) n 0
theorem kR {n:Nat} {a1:(List aI)} {l:List (Int × aI)} {K:World→Prop} {q1:Nat} {nU:List Value} (f1:((ou ah)).rep K nU a1) (h:eG n a1 = some l):vv Try.prog 165 [Ptr q1 0] [.cells q1 44 nU] K (fun k=>[.int .i64 ((l.getD k default).1), .agg (ah.enc ((l.getD k default).2)).toArray]) l.length:=by
 unfold eG at h
 refine ⟨fun y J Jx bs=>fF Try.func165 (by kernel_rfl) rfl Try.ntmps165 rfl (fun cx cX hpre hro=>?_)⟩
 haveI:=hO (show cx.bs = bs++br [.cells q1 44 nU] from cX) hpre.1
 have hR:Bp Try.prog y cx.bs cx.w0 J Jx (fun k=>[.int .i64 ((l.getD k default).1), .agg (ah.enc ((l.getD k default).2)).toArray]) l.length:=by rw [show cx.bs = bs++br [.cells q1 44 nU] from cX]; exact hpre.2
 have CH:l.drop 0 = l:=rfl
 have Cl:0 ≤ l.length:=Nat.zero_le _
 refine SC 2 rf ?_
 obtain ⟨HF,tY,f22⟩:=(aS.id (L:=(ou ah))).sl f1
 refine au rfl (cE rfl tY) ?_
 refine au rfl (cu f22 rfl) ?_
 refine SL 4 rf ?_
 obtain ⟨BS,xU,h⟩:=mB h
 refine LO (β:=Int × Nat × (List (Int × aI)) × (List Nat)) [0,5,6] [0,1] (fun (xD,dF,jT,Es,ru)=>[(7, .int .i64 dF)]) (fun (xD,dF,jT,Es,ru)=>[.ext ru (J jT ru), .cells q1 44 nU]) (fun (xD,dF,jT,Es,ru)=>l.drop jT = Es∧jT ≤ l.length∧dz BS xD dF = some Es) (n,0,0,l,bs) ⟨CH,Cl,h⟩ rf rf rf ?_
 rintro xD ⟨dF,jT,Es,ru⟩ ⟨F3,Jl,h⟩
 replace h:=mA xU h; obtain ⟨xD,rfl,h⟩:=h
 refine SC 6 rf ?_
 refine fL h rf (fun hc h=>?_) fun hc h=>?_
 ·
  obtain ⟨ud,h⟩:=dZ h
  obtain ⟨fM,qW,h⟩:=cW h
  refine SC 7 rf ?_
  refine au rfl (eD (m:=(Int.toNat dF)) f22 rfl rfl rfl (aE ud).1 (aE ud).2) ?_
  refine au rfl (oq (M:=ah) f22 (aS.idx (L:=ah) (m:=(a1.length)) (k:=2) ((Int.toNat dF)) (aE ud).2 rfl) rfl rfl (by decide)) ?_
  refine W1 rf (cJ (L:=ah) (z:=gE) ⟨by kernel_rfl⟩) fun b4=>?_
  refine au rfl (ei rfl) ?_
  refine W0 (dA (M:=ah) (aS.id (L:=ah)) (a1.getD (Int.toNat dF) default) fM qW rfl rfl rfl rfl) ?_
  refine SL 3 rf ?_
  obtain ⟨LV,I5,h⟩:=zb h
  obtain ⟨Jh,x5,Jv,Jf⟩:=drop_cons (F3.trans I5)
  refine SC 3 rf ?_
  refine au rfl (eA (M:=ah) (aS.id (L:=ah)) rfl rfl) ?_
  refine ef rfl (mT (bs:=ru) hR Jh hro rfl (show nx _ _ = some [.int .i64 ((l.getD jT default).1), .agg (ah.enc ((l.getD jT default).2)).toArray] by rw [x5]; rfl)) (fun ⟨Gc,Gh⟩ _=>?_)
  refine SL 3 rf ?_
  refine qF rfl (fun hc=>?_) (fun hc=>?_)
  ·
   obtain rfl:Gc = false:=by simpa using hc
   dsimp only [cond_true,cond_false]
   refine SC 5 rf ?_
   exact dL (false,Gh) rfl .nil trivial rfl (ks:=[1,2]) rfl (by decide)
  ·
   obtain rfl:Gc = true:=by simpa using hc
   dsimp only [cond_true,cond_false]
   refine SC 7 rf ?_
   exact LN [1,2] (wr .i64 (dF + 1),jT + 1,LV,Gh) ⟨Jv,Jf,h⟩ rf rf rf
 ·
  refine SC 4 rf ?_
  have h:=sj h; subst h
  have JQ:=drop_nil F3 Jl
  refine oh (ks:=[0,1]) (H':=[.ext ru (J (jT) ru), .cells q1 44 nU]) rfl (by decide) ?_
  refine om (J:=J) (n:=l.length) JQ ?_
  exact rH (true,ru) rfl .nil trivial rfl (ks:=[0,1]) rfl (by decide)
def iR (n:Nat) (a0:aI):Option Bool:=
 some ((decide (1 ≤ a0.N) && decide (0 ≤ a0.At)) && decide (a0.At ≤ (wr .i64 (64 - a0.N))))
theorem o8 {n a0 r}  (h:iR n a0 = some r):za Try.prog 95 [.agg (ah.enc a0).toArray] (.bool r):=by
 unfold iR at h
 refine fF Try.func95 (by kernel_rfl) rfl Try.ntmps95 rfl (fun cx cX hpre hro=>?_)
 refine SC 2 rf ?_
 refine W1 rf (fk ah a0 rfl rfl) fun b1=>?_
 refine SL 6 rf ?_
 refine au rfl (bt dc rfl) ?_
 refine SL 2 rf ?_
 refine GB rf rf rf (fun hb=>aW rfl) ?_
 refine GB rf rf rf (fun hb=>bt dH (cC rfl hb)) ?_
 refine GB rf rf rf (fun hb=>pq (cC rfl hb) rfl) ?_
 refine au rfl (fz rfl rfl) ?_
 refine au rfl (ay rfl) ?_
 refine GB rf rf rf (fun hb=>aW rfl) ?_
 refine GB rf rf rf (fun hb=>bt dH (cC rfl hb)) ?_
 refine GB rf rf rf (fun hb=>aW rfl) ?_
 refine GB rf rf rf (fun hb=>bt dc (cC rfl hb)) ?_
 refine GB rf rf rf (fun hb=>po rfl (cC rfl hb) rfl) ?_
 refine GB rf rf rf (fun hb=>rN (cC rfl hb) (cC rfl hb)) ?_
 refine au rfl (fz rfl rfl) ?_
 refine SL 4 rf ?_
 have h:=sj h; subst h
 exact RV rf (rt rf rn) rf
def cm (n:Nat) (a0:aI):Option Int:=
 some (wr .i64 (a0.At + a0.N))
theorem gO {n a0 r}  (h:cm n a0 = some r):za Try.prog 145 [.agg (ah.enc a0).toArray] (.int .i64 r):=by
 unfold cm at h
 refine fF Try.func145 (by kernel_rfl) rfl Try.ntmps145 rfl (fun cx cX hpre hro=>?_)
 refine SC 2 rf ?_
 refine W1 rf (fk ah a0 rfl rfl) fun b1=>?_
 refine SL 6 rf ?_
 refine au rfl (bt dH rfl) ?_
 refine au rfl (aW rfl) ?_
 refine au rfl (bt dc rfl) ?_
 refine SL 5 rf ?_
 have h:=sj h; subst h
 exact RV rf (rt rf rn) rf
def fP (n:Nat) (a0:bR) (a1:Int) (a2:Int):Option (bR × Bool):=
 lt ({ At:=a1,N:=a2 }:aI) fun bn =>
 bd (iR n bn) fun cD =>
 cn ((!cD)) (
 some (a0,false)) (
 bd (gL n a0) fun fJ =>
 bd (eG n fJ) fun bN =>
 n4 (fun (Gi:Int × aI) zK (fB:Bool) (fe:(List aI)) (dg:aI) =>
 lt (Gi.1:Int) fun uU =>
 lt (Gi.2:aI) fun iZ =>
 bd (cm n iZ) fun wH =>
 cn (decide (wH < dg.At)) (
 gu (jH fe.length 1 16) <|
 lt (fe++([iZ]):List aI) fun lN =>
 zK fB lN dg) (
 bd (cm n dg) fun G4 =>
 cn (decide (G4 < iZ.At)) (
 lt (fun (wU:Bool) (oy:(List aI)) =>
 gu (jH oy.length 1 16) <|
 lt (oy++([iZ]):List aI) fun mX =>
 zK wU mX dg) fun A7 =>
 cn ((!fB)) (
 gu (jH fe.length 1 16) <|
 lt (fe++([dg]):List aI) fun lM =>
 A7 true lM) (
 A7 fB fe)) (
 bd (cm n iZ) fun wS =>
 cn ((wS == dg.At)) (
 lt ({ At:=iZ.At,N:=wr .i64 (iZ.N + dg.N) }:aI) fun AS =>
 zK fB fe AS) (
 bd (cm n dg) fun vw =>
 cn ((iZ.At == vw)) (
 lt ({ dg with N:=wr .i64 (dg.N + iZ.N) }:aI) fun DH =>
 zK fB fe DH) (
 some (a0,false)))))) (fun (fB:Bool) (fe:(List aI)) (dg:aI) =>
 cn ((!fB)) (
 gu (jH fe.length 1 16) <|
 lt (fe++([dg]):List aI) fun nI =>
 lt ({ l:=nI }:bR) fun wR =>
 some (wR,true)) (
 lt ({ l:=fe }:bR) fun Bu =>
 some (Bu,true))) bN false ([]:List aI) bn)
theorem nB {n a0 a1 a2 r K} [bL K] {ep} (f0:(bH).rep K ep a0) (h:fP n a0 a1 a2 = some r):tv Try.prog 90 [A ep, .int .i64 a1, .int .i64 a2] K (fun J v=>∃u0,v = (.tuple #[A u0, .bool r.2])∧(bH).rep (fun w=>K w∧J w) u0 (r.1)):=by
 unfold fP at h
 refine fo Try.func90 (by kernel_rfl) rfl Try.ntmps90 rfl fun cx _ hro cX hpre=>?_
 refine SC 2 rf ?_
 refine W1 rf (cO rfl) fun b3=>?_
 refine W1 rf (bG (hz:=(⟨by kernel_rfl⟩ : cy Try.prog 46 eF))) fun b6=>?_
 refine W1 rf (cJ (L:=LB) (z:=false) ⟨by kernel_rfl⟩) fun b7=>?_
 obtain ⟨bn,dm,h⟩:=cW h
 refine SL 6 rf ?_
 refine au rfl (iA (cs:=ah.enc bn) rfl (by rw [dm]; rfl)) ?_
 refine W1 rf (cJ (L:=ah) (z:=gE) ⟨by kernel_rfl⟩) fun b8=>?_
 refine W0 (dA (M:=ah) (aS.id (L:=ah)) bn bn rfl rfl rfl rfl rfl) ?_
 obtain ⟨cD,lT,h⟩:=bz h
 refine SL 5 rf ?_
 refine au rfl (eA (M:=ah) (aS.id (L:=ah)) rfl rfl) ?_
 refine CV (o8 lT) rf rf ?_
 refine SL 3 rf ?_
 refine fL h rf (fun hc h=>?_) fun hc h=>?_
 ·
  refine SC 2 rf ?_
  refine au rfl (ak rfl (aY.len _ f0)) ?_
  refine ST (C:=K) a0 (aS.id (L:=bH)) fV (mo f0) rf rf rf rf rf fun DS f24=>?_
  refine W0 (dA (M:=LB) (aS.id (L:=LB)) false false rfl rfl rfl rfl rfl) ?_
  refine SL 4 rf ?_
  have h:=sj h; subst h
  exact pG [] rf rf (ra rf (aY.len _ f24) (ro rf rfl rn)) ⟨_,rfl,(mo f24)⟩
 ·
  refine SC 4 rf ?_
  refine W1 rf (bG (hz:=(⟨by kernel_rfl⟩ : cy Try.prog 44 [.slice none 0 0]))) fun b9=>?_
  refine SL 4 rf ?_
  refine W1 rf (cJ (L:=LB) (z:=false) ⟨by kernel_rfl⟩) fun Ht=>?_
  refine W0 (dA (M:=LB) (aS.id (L:=LB)) false false rfl rfl rfl rfl rfl) ?_
  obtain ⟨fJ,tX,h⟩:=bz h
  refine SL 5 rf ?_
  refine au rfl (ak rfl (aY.len _ f0)) ?_
  refine ef rfl (fI (nA (K:=K) (mo f0) tX) rfl kn) (fun ⟨NY,Ag⟩ f29=>?_)
  replace f29:((ou ah)).rep K Ag fJ:=f29
  dsimp only [List.cons_append,List.nil_append]
  refine SL 3 rf ?_
  obtain ⟨bN,tU,h⟩:=bz h
  refine rK 57 2 ah ?_
  obtain ⟨BZ,FJ,CW,FU,h⟩:=EV h
  refine jY (K:=K) (α:=Bool × (List aI) × aI × Value) (β:=Bool × (List aI) × aI × bR × Value × (List Value)) hro rfl (kR (K:=K) (mo f29) tU) (fun _=>rfl) rfl (fun zI=>fun (fB,fe,dg,rY)=>jw rY fe.length∧n4 BZ CW (bN.drop zI) fB fe dg = some r) (fun zI=>fun (fB,fe,dg,rY)=>[Row rY 57 2 ah fe, .cells Ht 4 (LB.enc fB), .cells b9 44 ([rY]), .cells b8 57 (ah.enc dg), .cells b7 4 (LB.enc false), .cells b6 46 eF, .cells b3 46 ep]) (fun j=>fun (mY,G5,j3,tw,BA,uE)=>j = Code.ret∧jw BA G5.length∧(bH).rep K uE tw∧some (tw,false) = some r) (fun (mY,G5,j3,tw,BA,uE)=>[Row BA 57 2 ah G5, .cells Ht 4 (LB.enc mY), .cells b9 44 ([BA]), .cells b8 57 (ah.enc j3), .cells b7 4 (LB.enc false), .cells b6 46 uE, .cells b3 46 ep]) ⟨false,([]:List aI),bn, .slice none 0 0⟩ ⟨⟨_,_,rfl⟩,h⟩ (ks:=[1,0,2,3,4,5,6,7]) rfl (by decide) ?_ ?_ ?_
  ·
   rintro zI ⟨fB,fe,dg,rY⟩ lo dd rec c' hk ⟨oT,h⟩ nR qZ lV hsi hT
   replace h:n4 BZ CW (bN.drop zI) fB fe dg = some r:=h
   replace h:=ET FJ hk h
   haveI:=kP (K:=K) hsi
   dsimp only [n3]
   obtain ⟨uU,zS,h⟩:=cW h
   rw [← zS]
   obtain ⟨iZ,B7,h⟩:=cW h
   rw [← B7]
   refine g9 ?_
   refine W1 rf (cJ (L:=ah) (z:=gE) ⟨by kernel_rfl⟩) fun Hr=>?_
   refine W0 (dA (M:=ah) (aS.id (L:=ah)) iZ iZ rfl rfl rfl rfl rfl) ?_
   refine rL ?_
   refine iz nR lV ?_
   refine SC 3 rf ?_
   obtain ⟨wH,vR,h⟩:=bz h
   refine eV mixed (.mm [] [(0,[12]),(1,[26]),(2,[8]),(3,[28]),(4,[27,29])] (.alt 5 [30] (.fin [] []) .no)) (by kernel_rfl) ?_
   refine T0 ?_
   refine NV rf rf (eA (M:=ah) (aS.id (L:=ah)) rfl rfl) ?_
   refine NC rf rf (gO vR) rf ?_
   refine NS 1 rf ?_
   refine NV rf rf (bt dH rfl) ?_
   refine NE 1 rf ?_
   refine XV rf rf (ei rfl) ?_
   refine yV ?_
   refine gA ?_
   refine fL h rf (fun hc h=>?_) fun hc h=>?_
   ·
    obtain ⟨FP,h⟩:=dZ h
    obtain ⟨lN,E0,h⟩:=cW h
    refine g9 ?_
    refine au rfl (cE rfl rfl) ?_
    refine au rfl (eA (M:=ah) (aS.id (L:=ah)) rfl rfl) ?_
    refine ef rfl (mg ah iZ rfl rfl rfl rfl (by decide) (by decide)) (fun NU _=>?_)
    refine ef rfl (lq (sz:=2) (L:=ah) (xs:=fe) (y:=iZ) (bytes:=16) rfl rfl rfl (gR FP).1 (gR FP).2) (fun Ee zW=>?_)
    rw [← E0] at zW; rw [← E0]
    refine W0 (pA (cs':=[Ee]) [Ee] (aS.id (L:=(ou ah))) (v:=lN) ⟨_,rfl,(Fz.row (e:=57) (sz:=2) (L:=ah) (xs:=fe) rfl oT)⟩ (rv:=(⟨_,rfl,(Fz.row (e:=57) (sz:=2) (L:=ah) (xs:=lN) rfl zW)⟩ : ((ou ah)).rep (Hs [Row Ee 57 2 ah lN]) [Ee] lN)) rfl rfl (Fz.row (e:=57) (sz:=2) (L:=ah) (xs:=lN) rfl zW).sl.cells rfl rfl) ?_
    refine SL 3 rf ?_
    exact gT nR qZ hT ⟨fB,lN,dg,Ee⟩ ⟨zW,h⟩ (ks:=[2,3,4,5,6,7,8,9,10]) rfl (by decide)
   ·
    refine pe ?_
    obtain ⟨G4,ID,h⟩:=bz h
    refine eV mixed (.mm [] [(0,[12]),(1,[36]),(2,[8]),(3,[38]),(4,[37,39])] (.alt 5 [40] (.fin [] []) .no)) (by kernel_rfl) ?_
    refine T0 ?_
    refine NS 1 rf ?_
    refine NV rf rf (bt dH rfl) ?_
    refine NV rf rf (eA (M:=ah) (aS.id (L:=ah)) rfl rfl) ?_
    refine NC rf rf (gO ID) rf ?_
    refine NE 1 rf ?_
    refine XV rf rf (ei rfl) ?_
    refine yV ?_
    refine gA ?_
    refine fL h rf (fun hc h=>?_) fun hc h=>?_
    ·
     obtain ⟨A7,Jm,h⟩:=cW h
     refine CU (α:=Bool × (List aI) × Value) [9,12] rf (fun (wU,oy,DJ)=>[]) (fun (wU,oy,DJ)=>[.cells Hr 57 (ah.enc iZ), .obj dd (.deferred (some [])), .obj lo (.loop { rec with state:=.busy }),Row DJ 57 2 ah oy, .cells Ht 4 (LB.enc wU), .cells b9 44 ([DJ]), .cells b8 57 (ah.enc dg), .cells b7 4 (LB.enc false), .cells b6 46 eF, .cells b3 46 ep]) (fun (wU,oy,DJ)=>jw DJ oy.length∧A7 wU oy = some r) ?_ ?_
     ·
      refine SC 2 rf ?_
      refine au rfl (mb (aS.id (L:=LB)) rfl) ?_
      refine SL 3 rf ?_
      refine fL h rf (fun hc h=>?_) fun hc h=>?_
      ·
       obtain ⟨FO,h⟩:=dZ h
       obtain ⟨lM,EZ,h⟩:=cW h
       refine SC 2 rf ?_
       refine au rfl (cE rfl rfl) ?_
       refine au rfl (eA (M:=ah) (aS.id (L:=ah)) rfl rfl) ?_
       refine ef rfl (mg ah dg rfl rfl rfl rfl (by decide) (by decide)) (fun NT _=>?_)
       refine ef rfl (lq (sz:=2) (L:=ah) (xs:=fe) (y:=dg) (bytes:=16) rfl rfl rfl (gR FO).1 (gR FO).2) (fun Ed zV=>?_)
       rw [← EZ] at zV; rw [← EZ]
       refine W0 (pA (cs':=[Ed]) [Ed] (aS.id (L:=(ou ah))) (v:=lM) ⟨_,rfl,(Fz.row (e:=57) (sz:=2) (L:=ah) (xs:=fe) rfl oT)⟩ (rv:=(⟨_,rfl,(Fz.row (e:=57) (sz:=2) (L:=ah) (xs:=lM) rfl zV)⟩ : ((ou ah)).rep (Hs [Row Ed 57 2 ah lM]) [Ed] lM)) rfl rfl (Fz.row (e:=57) (sz:=2) (L:=ah) (xs:=lM) rfl zV).sl.cells rfl rfl) ?_
       refine SL 3 rf ?_
       refine W0 (dA (M:=LB) (aS.id (L:=LB)) true true rfl rfl rfl rfl rfl) ?_
       refine rL ?_
       exact CE [1,2,3,4,5,6,7,8,9,10] (true,lM,Ed) ⟨zV,h⟩ rf rf rf
      ·
       refine rJ ?_
       exact CE [0,1,2,3,4,5,6,7,8,9] (fB,fe,rY) ⟨oT,h⟩ rf rf rf
     ·
      rintro ⟨wU,oy,DJ⟩ ⟨IW,h⟩
      replace h:A7 wU oy = some r:=h
      replace h:=ER Jm h
      obtain ⟨FN,h⟩:=dZ h
      obtain ⟨mX,vQ,h⟩:=cW h
      refine g9 ?_
      refine au rfl (cE rfl rfl) ?_
      refine au rfl (eA (M:=ah) (aS.id (L:=ah)) rfl rfl) ?_
      refine ef rfl (mg ah iZ rfl rfl rfl rfl (by decide) (by decide)) (fun NR _=>?_)
      refine ef rfl (lq (sz:=2) (L:=ah) (xs:=oy) (y:=iZ) (bytes:=16) rfl rfl rfl (gR FN).1 (gR FN).2) (fun Ec zU=>?_)
      rw [← vQ] at zU; rw [← vQ]
      refine W0 (pA (cs':=[Ec]) [Ec] (aS.id (L:=(ou ah))) (v:=mX) ⟨_,rfl,(Fz.row (e:=57) (sz:=2) (L:=ah) (xs:=oy) rfl IW)⟩ (rv:=(⟨_,rfl,(Fz.row (e:=57) (sz:=2) (L:=ah) (xs:=mX) rfl zU)⟩ : ((ou ah)).rep (Hs [Row Ec 57 2 ah mX]) [Ec] mX)) rfl rfl (Fz.row (e:=57) (sz:=2) (L:=ah) (xs:=mX) rfl zU).sl.cells rfl rfl) ?_
      refine SL 3 rf ?_
      exact gT nR qZ hT ⟨wU,mX,dg,Ec⟩ ⟨zU,h⟩ (ks:=[2,3,4,5,6,7,8,9,10]) rfl (by decide)
    ·
     refine pe ?_
     obtain ⟨wS,B6,h⟩:=bz h
     refine eV mixed (.mm [] [(0,[12]),(1,[52]),(2,[8]),(3,[54]),(4,[53,55])] (.alt 5 [56] (.fin [] []) .no)) (by kernel_rfl) ?_
     refine T0 ?_
     refine NV rf rf (eA (M:=ah) (aS.id (L:=ah)) rfl rfl) ?_
     refine NC rf rf (gO B6) rf ?_
     refine NS 1 rf ?_
     refine NV rf rf (bt dH rfl) ?_
     refine NE 1 rf ?_
     refine XV rf rf (ei rfl) ?_
     refine yV ?_
     refine gA ?_
     refine fL h rf (fun hc h=>?_) fun hc h=>?_
     ·
      obtain ⟨AS,Iz,h⟩:=cW h
      refine SC 2 rf ?_
      refine au rfl (bt dH rfl) ?_
      refine au rfl (aW rfl) ?_
      refine au rfl (bt dc rfl) ?_
      refine au rfl (aW rfl) ?_
      refine au rfl (bt dc rfl) ?_
      refine au rfl (rP rfl rfl rfl) ?_
      refine au rfl (iA (cs:=ah.enc AS) rfl (by rw [Iz]; rfl)) ?_
      refine W0 (dA (M:=ah) (aS.id (L:=ah)) AS AS rfl rfl rfl rfl rfl) ?_
      refine SL 3 rf ?_
      exact gT nR qZ hT ⟨fB,fe,AS,rY⟩ ⟨oT,h⟩ (ks:=[1,2,3,4,5,6,7,8,9]) rfl (by decide)
     ·
      refine pe ?_
      obtain ⟨vw,B5,h⟩:=bz h
      refine eV mixed (.mm [] [(0,[12]),(1,[66]),(2,[8]),(3,[68]),(4,[67,69])] (.alt 5 [70] (.fin [] []) .no)) (by kernel_rfl) ?_
      refine T0 ?_
      refine NS 1 rf ?_
      refine NV rf rf (bt dH rfl) ?_
      refine NV rf rf (eA (M:=ah) (aS.id (L:=ah)) rfl rfl) ?_
      refine NC rf rf (gO B5) rf ?_
      refine NE 1 rf ?_
      refine XV rf rf (ei rfl) ?_
      refine yV ?_
      refine gA ?_
      refine fL h rf (fun hc h=>?_) fun hc h=>?_
      ·
       obtain ⟨DH,Iy,h⟩:=cW h
       refine SC 2 rf ?_
       refine au rfl (bt dc rfl) ?_
       refine au rfl (aW rfl) ?_
       refine au rfl (bt dc rfl) ?_
       refine SL 2 rf ?_
       refine W0 (dA (M:=(LI .i64)) dc (wr .i64 (dg.N + iZ.N)) DH Iy rfl rfl rfl rfl) ?_
       refine SL 3 rf ?_
       exact gT nR qZ hT ⟨fB,fe,DH,rY⟩ ⟨oT,h⟩ (ks:=[1,2,3,4,5,6,7,8,9]) rfl (by decide)
      ·
       refine SC 2 rf ?_
       refine au rfl (ak rfl (aY.len _ f0)) ?_
       refine ST (C:=K) a0 (aS.id (L:=bH)) fV (mo f0) rf rf rf rf rf fun KZ f81=>?_
       refine W0 (dA (M:=LB) (aS.id (L:=LB)) false false rfl rfl rfl rfl rfl) ?_
       refine SL 5 rf ?_
       exact Al hT (.inl ⟨rfl,rfl⟩) ⟨Code.ret,fB,fe,dg,a0,rY,KZ⟩ ⟨rfl,oT,(mo f81),h⟩ (ks:=[1,2,3,4,5,6,7,8,9]) rfl (by decide)
  ·
   rintro Ab ⟨fB,fe,dg,rY⟩ ⟨oT,h⟩
   replace h:n4 BZ CW (bN.drop bN.length) fB fe dg = some r:=h
   replace h:=EU FU rfl h
   dsimp only [List.cons_append,List.nil_append]
   refine SX 5 rf ?_
   refine au rfl (mb (aS.id (L:=LB)) rfl) ?_
   refine SL 3 rf ?_
   refine fL h rf (fun hc h=>?_) fun hc h=>?_
   ·
    obtain ⟨FM,h⟩:=dZ h
    obtain ⟨nI,zR,h⟩:=cW h
    refine g9 ?_
    refine au rfl (cE rfl rfl) ?_
    refine au rfl (eA (M:=ah) (aS.id (L:=ah)) rfl rfl) ?_
    refine ef rfl (mg ah dg rfl rfl rfl rfl (by decide) (by decide)) (fun NQ _=>?_)
    refine ef rfl (lq (sz:=2) (L:=ah) (xs:=fe) (y:=dg) (bytes:=16) rfl rfl rfl (gR FM).1 (gR FM).2) (fun wJ vV=>?_)
    rw [← zR] at vV; rw [← zR]
    refine W0 (pA (cs':=[wJ]) [wJ] (aS.id (L:=(ou ah))) (v:=nI) ⟨_,rfl,(Fz.row (e:=57) (sz:=2) (L:=ah) (xs:=fe) rfl oT)⟩ (rv:=(⟨_,rfl,(Fz.row (e:=57) (sz:=2) (L:=ah) (xs:=nI) rfl vV)⟩ : ((ou ah)).rep (Hs [Row wJ 57 2 ah nI]) [wJ] nI)) rfl rfl (Fz.row (e:=57) (sz:=2) (L:=ah) (xs:=nI) rfl vV).sl.cells rfl rfl) ?_
    obtain ⟨wR,B3,h⟩:=cW h
    refine SL 4 rf ?_
    refine au rfl (cE rfl rfl) ?_
    obtain ⟨y5,Jz,f89⟩ : ∃cc,[wJ] = cc∧(bH).rep (Hs [Row wJ 57 2 ah nI]) cc wR:=⟨_,rfl,by rw [B3]; exact ⟨_,rfl,(Fz.row (e:=57) (sz:=2) (L:=ah) (xs:=nI) rfl vV).mono od⟩⟩
    refine au rfl (iA (cs:=y5) rfl (by rw [← Jz]; first | rfl | (simp [mI,bW,show ∀k i,(Value.int k i).cells = #[Value.int k i] from fun _ _=>rfl,show ∀q,(Value.bool q).cells = #[Value.bool q] from fun _=>rfl,show ∀a,(Value.agg a).cells = a from fun _=>rfl,(Fz.row (e:=57) (sz:=2) (L:=ah) (xs:=nI) rfl vV).sl.cells,(Fz.row (e:=57) (sz:=2) (L:=ah) (xs:=nI) rfl vV).sl.size]; try rfl))) ?_
    refine ST (C:=(Hs [Row wJ 57 2 ah nI])) wR (aS.id (L:=bH)) fV (mo f89) rf rf rf rf rf fun J3 f91=>?_
    refine W0 (dA (M:=LB) (aS.id (L:=LB)) true true rfl rfl rfl rfl rfl) ?_
    refine SL 3 rf ?_
    have h:=sj h; subst h
    refine bV (R:=[Row wJ 57 2 ah nI]) (H':=[.obj Ab (.deferred (some [])), .cells b7 4 (LB.enc true), .cells b6 46 J3]) (ks:=[3,1,7,8]) rfl (by decide) ?_
    have LY:(bH).rep (fun w=>K w∧(Hs [.ext (br [Row wJ 57 2 ah nI]) (Hs [Row wJ 57 2 ah nI])]) w) J3 wR:=aY.mono _ od f91
    exact ic (.tuple #[A J3, .bool true],br [Row wJ 57 2 ah nI],Hs [Row wJ 57 2 ah nI]) rfl (.agg rfl inferInstance inferInstance (aY.len _ f91) (.one rfl inferInstance inferInstance rfl .nil)) ⟨_,rfl,LY⟩ rfl (ks:=[0]) rfl (by decide)
   ·
    obtain ⟨Bu,Iq,h⟩:=cW h
    refine SC 4 rf ?_
    refine au rfl (cE rfl rfl) ?_
    obtain ⟨MU,Jy,f95⟩ : ∃cc,[rY] = cc∧(bH).rep (Hs [Row rY 57 2 ah fe]) cc Bu:=⟨_,rfl,by rw [Iq]; exact ⟨_,rfl,(Fz.row (e:=57) (sz:=2) (L:=ah) (xs:=fe) rfl oT).mono od⟩⟩
    refine au rfl (iA (cs:=MU) rfl (by rw [← Jy]; first | rfl | (simp [mI,bW,show ∀k i,(Value.int k i).cells = #[Value.int k i] from fun _ _=>rfl,show ∀q,(Value.bool q).cells = #[Value.bool q] from fun _=>rfl,show ∀a,(Value.agg a).cells = a from fun _=>rfl,(Fz.row (e:=57) (sz:=2) (L:=ah) (xs:=fe) rfl oT).sl.cells,(Fz.row (e:=57) (sz:=2) (L:=ah) (xs:=fe) rfl oT).sl.size]; try rfl))) ?_
    refine ST (C:=(Hs [Row rY 57 2 ah fe])) Bu (aS.id (L:=bH)) fV (mo f95) rf rf rf rf rf fun J2 f97=>?_
    refine W0 (dA (M:=LB) (aS.id (L:=LB)) true true rfl rfl rfl rfl rfl) ?_
    refine SL 3 rf ?_
    have h:=sj h; subst h
    refine bV (R:=[Row rY 57 2 ah fe]) (H':=[.obj Ab (.deferred (some [])), .cells b7 4 (LB.enc true), .cells b6 46 J2]) (ks:=[2,0,6,7]) rfl (by decide) ?_
    have LX:(bH).rep (fun w=>K w∧(Hs [.ext (br [Row rY 57 2 ah fe]) (Hs [Row rY 57 2 ah fe])]) w) J2 Bu:=aY.mono _ od f97
    exact ic (.tuple #[A J2, .bool true],br [Row rY 57 2 ah fe],Hs [Row rY 57 2 ah fe]) rfl (.agg rfl inferInstance inferInstance (aY.len _ f97) (.one rfl inferInstance inferInstance rfl .nil)) ⟨_,rfl,LX⟩ rfl (ks:=[0]) rfl (by decide)
  ·
   rintro Ab j ⟨mY,G5,j3,tw,BA,uE⟩ ⟨rfl,Fh,f53,h⟩
   dsimp only [List.cons_append,List.nil_append]
   refine SC 3 rf ?_
   have h:=sj h; subst h
   refine bV (R:=[]) (H':=[.obj Ab (.deferred (some [])), .cells b7 4 (LB.enc false), .cells b6 46 uE]) (ks:=[0,6,7]) rfl (by decide) ?_
   have LW:(bH).rep (fun w=>K w∧(Hs [.ext (br []) (Hs [])]) w) uE tw:=aY.mono _ od f53
   exact ic (.tuple #[A uE, .bool false],br [],Hs []) rfl (.agg rfl inferInstance inferInstance (aY.len _ f53) (.one rfl inferInstance inferInstance rfl .nil)) ⟨_,rfl,LW⟩ rfl (ks:=[0]) rfl (by decide)
end Go.Proofs.Ytmdpbdhkmfjlhaa
namespace Go.Proofs.Ytmdpbdhkmfjlhaa
open Go Go.Bw
structure cg where
 bf:(List aI)
 ot:Int
abbrev bZ:aY cg:=aY.via (LP (ou ah) (LI .i64)) (fun x=>(x.bf,x.ot))
abbrev dj:cg:=⟨[],0⟩
def eW:List Value:=[.slice none 0 0]++([.int .i64 0])
theorem fW {A:World→Prop}:bZ.rep A eW dj:=⟨_,_,rfl,⟨_,rfl,Fz.nil⟩,rfl⟩
theorem iE:aS bZ (ou ah) 0 (fun x=>x.bf) (fun x v=>{ x with bf:=v }):=(aS.fst aS.id).via _ _ _ 0 rfl (fun _=>rfl) (fun _ _=>rfl)
theorem iO:aS bZ (LI .i64) 1 (fun x=>x.ot) (fun x v=>{ x with ot:=v }):=(aS.snd aS.id).via _ _ _ 1 rfl (fun _=>rfl) (fun _ _=>rfl)
def eN (n:Nat) (a0:cg):Option cg:=
 some a0
theorem kf {n a0 r K} [bL K] {ep} (f0:(bZ).rep K ep a0) (h:eN n a0 = some r):Bw.Fn (α:=Nat × List Value) Try.prog 166 [A ep] K [] (fun (b0,c0)=>(bZ).rep K c0 r) (fun (b0,c0)=>.func (.func 167) #[] #[Ptr b0 0]) (fun (b0,c0)=>[.cells b0 71 c0]):=by
 unfold eN at h
 refine fo Try.func166 (by kernel_rfl) rfl Try.ntmps166 rfl fun cx _ hro cX hpre=>?_
 refine SC 2 rf ?_
 refine W1 rf (cO rfl) fun b1=>?_
 refine SL 10 rf ?_
 have h:=sj h; subst h
 exact dL ⟨b1,ep⟩ rfl (.tmp rfl .nil) (mo f0) rfl (ks:=[0]) rfl (by decide)
def cY (n:Nat) (a1:cg):Option (List (Int × aI)):=
 cP (fun Ii (bN:Int) (fC:Int) =>
 cn (decide (fC < (a1.bf.length:Int))) (
 gu (cV fC a1.bf.length) <|
 lt ((a1.bf.getD (Int.toNat fC) default):aI) fun dg =>
 yl (bN,dg) <|
 Ii (wr .i64 (bN + (wr .i64 (dg.N * 32)))) (wr .i64 (fC + 1))) (
 some [])) n 0 0
theorem jx {n:Nat} {a1:cg} {l:List (Int × aI)} {K:World→Prop} {q1:Nat} {nU:List Value} (f1:(bZ).rep K nU a1) (h:cY n a1 = some l):vv Try.prog 167 [Ptr q1 0] [.cells q1 71 nU] K (fun k=>[.int .i64 ((l.getD k default).1), .agg (ah.enc ((l.getD k default).2)).toArray]) l.length:=by
 unfold cY at h
 refine ⟨fun y J Jx bs=>fF Try.func167 (by kernel_rfl) rfl Try.ntmps167 rfl (fun cx cX hpre hro=>?_)⟩
 haveI:=hO (show cx.bs = bs++br [.cells q1 71 nU] from cX) hpre.1
 have hR:Bp Try.prog y cx.bs cx.w0 J Jx (fun k=>[.int .i64 ((l.getD k default).1), .agg (ah.enc ((l.getD k default).2)).toArray]) l.length:=by rw [show cx.bs = bs++br [.cells q1 71 nU] from cX]; exact hpre.2
 have CH:l.drop 0 = l:=rfl
 have Cl:0 ≤ l.length:=Nat.zero_le _
 refine SC 8 rf ?_
 obtain ⟨HF,tY,f22⟩:=iE.sl f1
 refine au rfl (cE rfl tY) ?_
 refine au rfl (cu f22 rfl) ?_
 refine SL 4 rf ?_
 obtain ⟨H9,FC,h⟩:=nQ h
 refine LO (β:=Int × Int × Nat × (List (Int × aI)) × (List Nat)) [0,7,8] [0,1] (fun (EF,bN,fC,jS,Er,rq)=>[(3, .int .i64 bN),(9, .int .i64 fC)]) (fun (EF,bN,fC,jS,Er,rq)=>[.ext rq (J jS rq), .cells q1 71 nU]) (fun (EF,bN,fC,jS,Er,rq)=>l.drop jS = Er∧jS ≤ l.length∧cP H9 EF bN fC = some Er) (n,0,0,0,l,bs) ⟨CH,Cl,h⟩ rf rf rf ?_
 rintro EF ⟨bN,fC,jS,Er,rq⟩ ⟨F1,Jk,h⟩
 replace h:=nP FC h; obtain ⟨EF,rfl,h⟩:=h
 refine SC 6 rf ?_
 refine fL h rf (fun hc h=>?_) fun hc h=>?_
 ·
  obtain ⟨nu,h⟩:=dZ h
  obtain ⟨dg,sG,h⟩:=cW h
  refine SC 6 rf ?_
  refine au rfl (eD (m:=(Int.toNat fC)) f22 rfl rfl rfl (aE nu).1 (aE nu).2) ?_
  refine au rfl (oq (M:=ah) f22 (aS.idx (L:=ah) (m:=(a1.bf.length)) (k:=2) ((Int.toNat fC)) (aE nu).2 rfl) rfl rfl (by decide)) ?_
  refine W1 rf (cJ (L:=ah) (z:=gE) ⟨by kernel_rfl⟩) fun b5=>?_
  refine W0 (dA (M:=ah) (aS.id (L:=ah)) (a1.bf.getD (Int.toNat fC) default) dg sG rfl rfl rfl rfl) ?_
  refine SL 4 rf ?_
  obtain ⟨HO,Ce,h⟩:=zb h
  obtain ⟨Ck,Cs,CG,Cj⟩:=drop_cons (F1.trans Ce)
  refine SC 3 rf ?_
  refine au rfl (eA (M:=ah) (aS.id (L:=ah)) rfl rfl) ?_
  refine ef rfl (mT (bs:=rq) hR Ck hro rfl (show nx _ _ = some [.int .i64 ((l.getD jS default).1), .agg (ah.enc ((l.getD jS default).2)).toArray] by rw [Cs]; rfl)) (fun ⟨yd,ur⟩ _=>?_)
  refine SL 3 rf ?_
  refine qF rfl (fun hc=>?_) (fun hc=>?_)
  ·
   obtain rfl:yd = false:=by simpa using hc
   dsimp only [cond_true,cond_false]
   refine SC 6 rf ?_
   exact dL (false,ur) rfl .nil trivial rfl (ks:=[1,2]) rfl (by decide)
  ·
   obtain rfl:yd = true:=by simpa using hc
   dsimp only [cond_true,cond_false]
   refine SC 5 rf ?_
   refine au rfl (bt dc rfl) ?_
   refine SL 10 rf ?_
   exact LN [1,2] (wr .i64 (bN + (wr .i64 (dg.N * 32))),wr .i64 (fC + 1),jS + 1,HO,ur) ⟨CG,Cj,h⟩ rf rf rf
 ·
  refine SC 4 rf ?_
  have h:=sj h; subst h
  have JP:=drop_nil F1 Jk
  refine oh (ks:=[0,1]) (H':=[.ext rq (J (jS) rq), .cells q1 71 nU]) rfl (by decide) ?_
  refine om (J:=J) (n:=l.length) JP ?_
  exact rH (true,rq) rfl .nil trivial rfl (ks:=[0,1]) rfl (by decide)
def dV (n:Nat) (a0:cg):Option Int:=
 bd (eN n a0) fun bn =>
 bd (cY n bn) fun nJ =>
 eB (fun (Aa:Int × aI) BV (dk:Int) =>
 lt (Aa.1:Int) fun kB =>
 lt (Aa.2:aI) fun hJ =>
 lt (wr .i64 (dk + hJ.N):Int) fun gF =>
 BV gF) (fun (dk:Int) =>
 some dk) nJ 0
theorem kF {n a0 r K} [bL K] {ep} (f0:(bZ).rep K ep a0) (h:dV n a0 = some r):wE Try.prog 150 [A ep] K (.int .i64 r):=by
 unfold dV at h
 refine fo Try.func150 (by kernel_rfl) rfl Try.ntmps150 rfl fun cx _ hro cX hpre=>?_
 refine SC 2 rf ?_
 refine W1 rf (cO rfl) fun b1=>?_
 refine SL 5 rf ?_
 refine W1 rf (cJ (L:=(LI .i64)) (z:=0) ⟨by kernel_rfl⟩) fun b3=>?_
 refine W0 (dA (M:=(LI .i64)) (aS.id (L:=(LI .i64))) 0 0 rfl rfl rfl rfl rfl) ?_
 obtain ⟨bn,dm,h⟩:=bz h
 refine SL 5 rf ?_
 refine au rfl (ak rfl (aY.len _ f0)) ?_
 refine ef rfl (fI (kf (K:=K) (mo f0) dm) rfl kn) (fun ⟨M7,DS⟩ f24=>?_)
 replace f24:(bZ).rep K DS bn:=f24
 dsimp only [List.cons_append,List.nil_append]
 refine SL 3 rf ?_
 obtain ⟨nJ,qY,h⟩:=bz h
 obtain ⟨tR,xY,uq,ya,h⟩:=oR h
 refine jY (K:=K) (α:=Int) (β:=Unit) hro rfl (jx (K:=K) (mo f24) qY) (fun _=>rfl) rfl (fun jT=>fun dk=>eB tR uq (nJ.drop jT) dk = some r) (fun jT=>fun dk=>[.cells b3 3 ((LI .i64).enc dk), .cells b1 71 ep]) (fun _ _=>False) (fun _=>[]) 0 h (ks:=[0,1,2]) rfl (by decide) ?_ ?_ ?_
 ·
  rintro jT dk lo dd rec c' hk h nR qZ lV hsi hT
  replace h:eB tR uq (nJ.drop jT) dk = some r:=h
  replace h:=oP xY hk h
  haveI:=kP (K:=K) hsi
  dsimp only [n3]
  obtain ⟨kB,tS,h⟩:=cW h
  rw [← tS]
  obtain ⟨hJ,oS,h⟩:=cW h
  rw [← oS]
  refine g9 ?_
  refine W1 rf (cJ (L:=ah) (z:=gE) ⟨by kernel_rfl⟩) fun b5=>?_
  refine W0 (dA (M:=ah) (aS.id (L:=ah)) hJ hJ rfl rfl rfl rfl rfl) ?_
  refine rL ?_
  refine iz nR lV ?_
  obtain ⟨gF,ke,h⟩:=cW h
  refine SC 2 rf ?_
  refine au rfl (bt (aS.id (L:=(LI .i64))) rfl) ?_
  refine au rfl (aW rfl) ?_
  refine au rfl (bt dc rfl) ?_
  refine au rfl (rP rfl rfl rfl) ?_
  refine W0 (dA (M:=(LI .i64)) (aS.id (L:=(LI .i64))) (wr .i64 (dk + hJ.N)) gF ke rfl rfl rfl rfl) ?_
  refine SL 2 rf ?_
  exact gT nR qZ hT gF h (ks:=[1,2,3,4]) rfl (by decide)
 ·
  rintro JZ dk h
  replace h:eB tR uq (nJ.drop nJ.length) dk = some r:=h
  replace h:=oQ ya rfl h
  dsimp only [List.cons_append,List.nil_append]
  refine SX 4 rf ?_
  refine au rfl (bt (aS.id (L:=(LI .i64))) rfl) ?_
  refine SL 4 rf ?_
  have h:=sj h; subst h
  exact ic () rfl (.tmp rfl .nil) trivial rfl (ks:=[]) rfl (by decide)
 ·
  intro dd j i hf; exact hf.elim
def dN (n:Nat) (a0:cg):Option Bool:=
 cP (fun Ij (eC:Int) (kB:bR) =>
 cn (decide (eC < (a0.bf.length:Int))) (
 gu (cV eC a0.bf.length) <|
 lt ((a0.bf.getD (Int.toNat eC) default):aI) fun iP =>
 bd (fP n kB iP.At iP.N) fun dg =>
 cn ((!dg.2)) (
 some false) (
 Ij (wr .i64 (eC + 1)) dg.1)) (
 cl ((decide (0 ≤ a0.ot)) == true) (dV n a0) default fun Kt =>
 some (decide (0 ≤ a0.ot) && decide (a0.ot ≤ (wr .i64 (Kt * 32)))))) n 0 iy
theorem lD {n a0 r K} [bL K] {ep} (f0:(bZ).rep K ep a0) (h:dN n a0 = some r):wE Try.prog 103 [A ep] K (.bool r):=by
 unfold dN at h
 refine fo Try.func103 (by kernel_rfl) rfl Try.ntmps103 rfl fun cx _ hro cX hpre=>?_
 refine SC 2 rf ?_
 refine W1 rf (cO rfl) fun b1=>?_
 refine SL 5 rf ?_
 refine W1 rf (bG (hz:=(⟨by kernel_rfl⟩ : cy Try.prog 46 eF))) fun b3=>?_
 refine SL 6 rf ?_
 obtain ⟨HF,tY,f22⟩:=iE.sl f0
 refine au rfl (cE rfl tY) ?_
 refine au rfl (cu f22 rfl) ?_
 refine SL 4 rf ?_
 obtain ⟨Ia,FD,h⟩:=nQ h
 refine mR ?_
 refine LO (β:=Int × bR × (List Value) × (List Nat) × (World→Prop)) [1,3,9,10] [0,1,2] (fun (EG,eC,kB,Bm,kg,rX)=>[(11, .int .i64 eC)]) (fun (EG,eC,kB,Bm,kg,rX)=>[.ext kg rX, .cells b3 46 Bm, .cells b1 71 ep]) (fun (EG,eC,kB,Bm,kg,rX)=>(bH).rep (Hs [.ext kg rX]) Bm kB∧cP Ia EG eC kB = some r) (n,0,iy,eF,[],(Hs [])) ⟨(aY.mono _ od (show (bH).rep (Hs []) eF iy from fV)),h⟩ rf rf rf ?_
 rintro EG ⟨eC,kB,Bm,kg,rX⟩ ⟨f35,h⟩
 replace h:=nP FD h; obtain ⟨EG,rfl,h⟩:=h
 refine SC 6 rf ?_
 refine fL h rf (fun hc h=>?_) fun hc h=>?_
 ·
  obtain ⟨sL,h⟩:=dZ h
  obtain ⟨iP,vS,h⟩:=cW h
  refine SC 6 rf ?_
  refine au rfl (eD (m:=(Int.toNat eC)) f22 rfl rfl rfl (aE sL).1 (aE sL).2) ?_
  refine au rfl (oq (M:=ah) f22 (aS.idx (L:=ah) (m:=(a0.bf.length)) (k:=2) ((Int.toNat eC)) (aE sL).2 rfl) rfl rfl (by decide)) ?_
  refine W1 rf (cJ (L:=ah) (z:=gE) ⟨by kernel_rfl⟩) fun b5=>?_
  refine W0 (dA (M:=ah) (aS.id (L:=ah)) (a0.bf.getD (Int.toNat eC) default) iP vS rfl rfl rfl rfl) ?_
  obtain ⟨dg,sG,h⟩:=bz h
  refine SL 4 rf ?_
  refine au rfl (ak rfl (aY.len _ f35)) ?_
  refine au rfl (aW rfl) ?_
  refine au rfl (bt dH rfl) ?_
  refine au rfl (aW rfl) ?_
  refine au rfl (bt dc rfl) ?_
  refine CB (nB (K:=(Hs [.ext kg rX])) (mo f35) sG) rf rf ?_
  rintro Nw wj D0 ⟨wh,rfl,f46⟩
  replace f46:(bH).rep (fun w=>(Hs [.ext kg rX]) w∧Hs [.ext wj D0] w) wh dg.1:=f46
  refine SL 3 rf ?_
  refine W1 rf (bG (hz:=(⟨by kernel_rfl⟩ : cy Try.prog 46 eF))) fun b6=>?_
  refine ST (C:=(Hs [.ext kg rX, .ext wj D0])) dg.1 (aS.id (L:=bH)) fV (mo f46) rf rf rf rf rf fun J6 f49=>?_
  refine SL 10 rf ?_
  refine fL h rf (fun hc h=>?_) fun hc h=>?_
  ·
   refine SC 12 rf ?_
   have h:=sj h; subst h
   exact RV rf (rt rf rn) rf
  ·
   refine SC 3 rf ?_
   refine au rfl (ak rfl (aY.len _ f49)) ?_
   refine ST (C:=(Hs [.ext kg rX, .ext wj D0])) dg.1 (aS.id (L:=bH)) (mo f35) (mo f49) rf rf rf rf rf fun K1 f51=>?_
   refine SL 7 rf ?_
   refine bV (R:=[.ext wj D0, .ext kg rX]) (H':=[.cells b6 46 J6, .cells b5 57 (ah.enc iP), .cells b3 46 K1, .cells b1 71 ep]) (ks:=[1,3,0,2,4,5]) rfl (by decide) ?_
   exact LN [0,3,4] (wr .i64 (eC + 1),dg.1,K1,(br [.ext wj D0, .ext kg rX]),(Hs [.ext wj D0, .ext kg rX])) ⟨(mo f51),h⟩ rf rf rf
 ·
  refine SC 6 rf ?_
  obtain ⟨Kt,IG,_,h⟩:=iU h
  refine eV mixed (.mm [] [(0,[1]),(1,[28]),(2,[29]),(3,[30]),(4,[1,31]),(5,[31,32]),(6,[1,31]),(7,[31,34]),(8,[31,35]),(9,[31,33,36]),(10,[31,37])] (.alt 11 [38] (.fin [] []) .no)) (by kernel_rfl) ?_
  refine T0 ?_
  refine NS 1 rf ?_
  refine NV rf rf (cE rfl (iO.int f0)) ?_
  refine NS 2 rf ?_
  refine NG rf rf (cF rfl rfl) (fun hb=>aW rfl) ?_
  refine NG rf rf (cF rfl rfl) (fun hb=>cE (cC rfl hb) (iO.int f0)) ?_
  refine NG rf rf (cF rfl rfl) (fun hb=>ak rfl (aY.len _ f0)) ?_
  refine NG rf rf (cF rfl rfl) (fun hb=>c9 (kF (K:=K) (mo f0) (IG hb)) (aL (cC rfl hb) rfl) kn) ?_
  refine NG rf rf (cF rfl rfl) (fun hb=>yJ (cC rfl hb) rfl rfl) ?_
  refine NG rf rf (cF rfl rfl) (fun hb=>rN (cC rfl hb) (cC rfl hb)) ?_
  refine NV rf rf (fz rfl rfl) ?_
  refine cT ?_
  refine XV rf rf (ei rfl) ?_
  refine yV ?_
  refine SX 2 rf ?_
  have h:=sj h; subst h
  exact RV rf (rt rf rn) rf
structure iT where
 bf:(List (Nat→Int))
 ot:Int
abbrev bF:iT:=⟨[],0⟩
def cR (n:Nat) (a0:iT):Option Bool:=
 ku (fun zL (fJ:Int) (cU:Int) (dk:(Nat→Bool)) =>
 cn (decide (cU < (a0.bf.length:Int))) (
 gu (cV cU a0.bf.length) <|
 gu (cV cU a0.bf.length) <|
 cn (((((decide (((a0.bf.getD (Int.toNat cU) default) 1) < 1) || decide (64 < ((a0.bf.getD (Int.toNat cU) default) 1))) || decide (((a0.bf.getD (Int.toNat cU) default) 0) < 0)) || decide (63 < ((a0.bf.getD (Int.toNat cU) default) 0))) || decide (64 < (wr .i64 (((a0.bf.getD (Int.toNat cU) default) 0) + ((a0.bf.getD (Int.toNat cU) default) 1)))))) (
 some false) (
 cP (fun EN (AT:Int) (zc:(Nat→Bool)) =>
 cn (decide (AT < (wr .i64 (((a0.bf.getD (Int.toNat cU) default) 0) + ((a0.bf.getD (Int.toNat cU) default) 1))))) (
 gu (cV AT 64) <|
 cn ((zc (Int.toNat AT))) (
 some false) (
 gu (cV AT 64) <|
 lt ((dx zc (Int.toNat AT) true):(Nat→Bool)) fun j3 =>
 EN (wr .i64 (AT + 1)) j3)) (
 zL (wr .i64 (fJ + ((a0.bf.getD (Int.toNat cU) default) 1))) (wr .i64 (cU + 1)) zc)) n ((a0.bf.getD (Int.toNat cU) default) 0) dk)) (
 some (decide (0 ≤ a0.ot) && decide (a0.ot ≤ (wr .i64 (32 * fJ)))))) n 0 0 (fun _=>false)
end Go.Proofs.Ytmdpbdhkmfjlhaa
namespace Go.Proofs.Ytmdpbdhkmfjlhaa
open Go Go.Bw
abbrev Rn:=aI
structure Can (l:List Rn):Prop where
  gG:∀y ∈ l,0 ≤ y.At∧1 ≤ y.N∧y.At + y.N ≤ 64
  pw:l.Pairwise fun y z=>y.At + y.N < z.At
def cI (l:List Rn) (p:Int):Prop:=∃y ∈ l,y.At ≤ p∧p < y.At + y.N
def tA (at_ k:Int):Prop:=1 ≤ k∧0 ≤ at_∧at_ + k ≤ 64
instance (a k:Int):Decidable (tA a k):=by unfold tA; infer_instance
def y9 (x:Int):Prop:=-9223372036854775808 ≤ x∧x ≤ 9223372036854775807
theorem Can.nil:Can []:=⟨by simp, .nil⟩
theorem sX:∀{l:List Rn} {lo:Int},Can l→(∀y ∈ l,lo ≤ y.At)→lo ≤ 65→(l.length:Int) * 2 ≤ 65 - lo
  | [],lo,_,_,h=>by simp; omega
  | y::r,lo,h,hl,_=>by
    obtain ⟨h1,h2⟩:=List.pairwise_cons.1 h.pw
    have hy:=h.gG y (by simp)
    have hy':=hl y (by simp)
    have:=sX (l:=r) (lo:=y.At + y.N + 1) ⟨fun z hz=>h.gG z (by simp [hz]),h2⟩ (fun z hz=>by have:=h1 z hz; omega) (by omega)
    simp only [List.length_cons]; omega
theorem Can.len {l:List Rn} (h:Can l):l.length ≤ 32:=by
  have:=sX (lo:=0) h (fun y hy=>(h.gG y hy).1) (by omega)
  omega
theorem Can.two {l:List Rn} (h:Can l) {y z:Rn} (hy:y ∈ l) (hz:z ∈ l):y = z∨y.At + y.N < z.At∨z.At + z.N < y.At:=by
  have:=h.pw
  clear h
  induction l with
  | nil=>simp at hy
  | cons x r ih =>
    obtain ⟨h1,h2⟩:=List.pairwise_cons.1 this
    rcases List.mem_cons.1 hy with rfl | hy' <;> rcases List.mem_cons.1 hz with rfl | KB
    · exact .inl rfl
    · exact .inr (.inl (h1 z KB))
    · exact .inr (.inr (h1 y hy'))
    · exact ih hy' KB h2
theorem oL (p:Int):¬ cI [] p:=by simp [cI]
theorem ng {y:Rn} {r:List Rn} {p:Int}:cI (y::r) p↔(y.At ≤ p∧p < y.At + y.N)∨cI r p:=by simp [cI]
theorem eZ {l r:List Rn} {p:Int}:cI (l++r) p↔cI l p∨cI r p:=by simp [cI,or_and_right,exists_or]
theorem sD {l:List Rn} (h:Can l) {p:Int} (hp:cI l p):0 ≤ p∧p < 64:=by
  obtain ⟨y,hy,h1,h2⟩:=hp
  have:=h.gG y hy
  omega
theorem Can.whole {l:List Rn} (h:Can l) {at_ k:Int} (hk:1 ≤ k) (hm:∀p,at_ ≤ p→p < at_ + k→cI l p):∃y ∈ l,y.At ≤ at_∧at_ + k ≤ y.At + y.N:=by
  obtain ⟨y,hy,h1,h2⟩:=hm at_ (by omega) (by omega)
  refine ⟨y,hy,h1,?_⟩
  refine Int.not_lt.1 fun hlt=>?_
  obtain ⟨z,hz,h3,h4⟩:=hm (y.At + y.N) (by omega) (by omega)
  rcases h.two hy hz with rfl | h5 | h5
  · omega
  · omega
  · have:=h.gG z hz; omega
theorem all_eq {n:Nat} {l:List Rn} (hl:l.length ≤ 100) (hn:110 ≤ n):∃xs,eG n l = some xs∧xs.map Prod.snd = l:=by
  unfold eG
  have key:∀(m x:Nat),x ≤ l.length→l.length - x < m→∃xs,dz (fun A6 (dF:Int)=>cn (decide (dF < (l.length:Int))) (gu (cV dF l.length) <| lt ((l.getD (Int.toNat dF) default):aI) fun fM=>yl (dF,fM) <| A6 (wr .i64 (dF + 1))) (some [])) m (x:Int) = some xs∧xs.map Prod.snd = l.drop x:=by
    intro m
    induction m with
    | zero=>intro x _ h; omega
    | succ m ih =>
      intro x hx hm
      simp only [dz]
      by_cases hc:x < l.length
      · rw [aC (by simpa using hc),aA (bT (by omega) (by omega)),lt_eq,bK (by omega) (by omega)]
        obtain ⟨xs,h1,h2⟩:=ih (x + 1) (by omega) (by omega)
        have e:((x:Int) + 1) = ((x + 1:Nat):Int):=by omega
        rw [e,h1]
        refine ⟨_,rfl,?_⟩
        rw [List.map_cons,h2,List.drop_eq_getElem_cons hc,Int.toNat_natCast,List.getD,List.getElem?_eq_getElem hc]
        rfl
      · rw [aj (by simpa using hc)]
        exact ⟨[],rfl,by rw [List.drop_eq_nil_of_le (by omega)]; rfl⟩
  obtain ⟨xs,h1,h2⟩:=key n 0 (by omega) (by omega)
  exact ⟨xs,h1,by simpa using h2⟩
theorem z9 (n:Nat) (r:bR):gL n r = some r.l:=rfl
theorem BR {n:Nat} {at_ k:Int} (ha:y9 at_) (hk:y9 k):∃b,iR n ⟨at_,k⟩ = some b∧(b = true↔tA at_ k):=by
  obtain ⟨a1,a2⟩:=ha
  obtain ⟨k1,k2⟩:=hk
  refine ⟨_,rfl,?_⟩
  show ((decide (1 ≤ k) && decide (0 ≤ at_)) && decide (at_ ≤ wr .i64 (64 - k))) = true↔_
  unfold tA
  by_cases h:1 ≤ k
  · rw [bK (by omega) (by omega)]; simp; omega
  · simp [h]
theorem yh {n:Nat} {y:Rn} (h:0 ≤ y.At∧1 ≤ y.N∧y.At + y.N ≤ 64):cm n y = some (y.At + y.N):=by
  unfold cm; rw [bK (by omega) (by omega)]
theorem Can.cut {l:List Rn} (h:Can l) {i:Nat} (hi:i < l.length) {left:List Rn} {at_ k:Int} (hk:1 ≤ k) (hin:l[i].At ≤ at_∧at_ + k ≤ l[i].At + l[i].N)
    (hl:Can left) (hm:∀p,cI left p↔(l[i].At ≤ p∧p < l[i].At + l[i].N)∧¬ (at_ ≤ p∧p < at_ + k)) (hb:∀y ∈ left,l[i].At ≤ y.At∧y.At + y.N ≤ l[i].At + l[i].N) :
    Can (l.take i++left++l.drop (i + 1))∧∀p,cI (l.take i++left++l.drop (i + 1)) p↔cI l p∧¬ (at_ ≤ p∧p < at_ + k):=by
  have e:l = l.take i++l[i]::l.drop (i + 1):=by rw [← List.drop_eq_getElem_cons hi,List.take_append_drop]
  generalize hy:l[i] = y at *
  have xP:=h.pw
  rw [e] at xP
  obtain ⟨q1,q2,q3⟩:=List.pairwise_append.1 xP
  obtain ⟨q4,q5⟩:=List.pairwise_cons.1 q2
  have A9:y ∈ l:=by rw [e]; simp
  have EW:=h.gG y A9
  refine ⟨⟨?_,?_⟩,fun p=>?_⟩
  · intro z hz
    rcases List.mem_append.1 hz with hz | hz
    · rcases List.mem_append.1 hz with hz | hz
      · exact h.gG z (List.mem_of_mem_take hz)
      · exact hl.gG z hz
    · exact h.gG z (List.mem_of_mem_drop hz)
  · refine List.pairwise_append.2 ⟨List.pairwise_append.2 ⟨q1,hl.pw,fun a ha b hb'=>?_⟩,q5,fun a ha b hb'=>?_⟩
    · have:=q3 a ha y (by simp); have:=hb b hb'; omega
    · rcases List.mem_append.1 ha with ha | ha
      · exact q3 a ha b (by simp [hb'])
      · have:=q4 b hb'; have:=hb a ha; omega
  · have hp:cI l p↔cI (l.take i) p∨(y.At ≤ p∧p < y.At + y.N)∨cI (l.drop (i + 1)) p:=by
      conv=>lhs; rw [e,eZ,ng]
    rw [eZ,eZ,hm p,hp]
    have t1:cI (l.take i) p→p < y.At:=fun ⟨z,hz,h1,h2⟩=>by have:=q3 z hz y (by simp); omega
    have t2:cI (l.drop (i + 1)) p→y.At + y.N < p:=fun ⟨z,hz,h1,h2⟩=>by have:=q4 z hz; omega
    constructor
    · rintro ((c | ⟨c1,c2⟩) | c)
      · have:=t1 c; exact ⟨.inl c,by omega⟩
      · exact ⟨.inr (.inl c1),c2⟩
      · have:=t2 c; exact ⟨.inr (.inr c),by omega⟩
    · rintro ⟨c | c | c,d⟩
      · exact .inl (.inl c)
      · exact .inl (.inr ⟨c,d⟩)
      · exact .inr c
end Go.Proofs.Ytmdpbdhkmfjlhaa
namespace Go.Proofs.Ytmdpbdhkmfjlhaa
open Go Go.Bw
structure GI (l:List Rn) (at_ k:Int) (pre rest:List Rn) (put:Bool) (out:List Rn) (x:Rn):Prop where
  e:l = pre++rest
  free:∀p,cI pre p→¬ (at_ ≤ p∧p < at_ + k)
  lo:x.At ≤ at_∧(x.At = at_∨∃z ∈ pre,z.At + z.N = at_)
  hi:at_ + k ≤ x.At + x.N∧(x.At + x.N = at_ + k∨∃z ∈ pre,z.At + z.N = x.At + x.N)
  gG:0 ≤ x.At∧1 ≤ x.N∧x.At + x.N ≤ 64
  off:put = false→Can (out++[x])∧(∀z ∈ out,z ∈ pre)∧∀p,cI (out++[x]) p↔cI pre p∨(at_ ≤ p∧p < at_ + k)
  on:put = true→Can out∧(∀z ∈ out,z ∈ pre∨z = x)∧(∃z ∈ pre,x.At + x.N < z.At)∧∀p,cI out p↔cI pre p∨(at_ ≤ p∧p < at_ + k)
theorem iw {l:List Rn} {y:Rn} (h:Can l) (hy:0 ≤ y.At∧1 ≤ y.N∧y.At + y.N ≤ 64) (ha:∀z ∈ l,z.At + z.N < y.At):Can (l++[y]):=
  ⟨fun z hz=>by
    rcases List.mem_append.1 hz with hz | hz
    · exact h.gG z hz
    · rw [List.mem_singleton.1 hz]; exact hy,
   List.pairwise_append.2 ⟨h.pw,List.pairwise_singleton _ _,fun a MG b hb=>by rw [List.mem_singleton.1 hb]; exact ha a MG⟩⟩
theorem Can.init {l:List Rn} {y:Rn} (h:Can (l++[y])):Can l:=⟨fun z hz=>h.gG z (by simp [hz]),(List.pairwise_append.1 h.pw).1⟩
theorem Can.last {l:List Rn} {y:Rn} (h:Can (l++[y])):∀z ∈ l,z.At + z.N < y.At:=fun z hz=>(List.pairwise_append.1 h.pw).2.2 z hz y (by simp)
theorem eI {y:Rn} {p:Int}:cI [y] p↔y.At ≤ p∧p < y.At + y.N:=by rw [ng]; simp [cI]
def Ge (r' : bR) (g:Bool) (l:List Rn) (r:bR) (at_ k:Int):Prop:=
  (g = true↔∀p,at_ ≤ p→p < at_ + k→¬ cI l p)∧(g = false→r' = r)∧(g = true→Can r'.l∧∀p,cI r'.l p↔cI l p∨(at_ ≤ p∧p < at_ + k))
theorem z5 {n:Nat} {r:bR} {l:List Rn} (hl:Can l) {at_ k:Int} (ho:tA at_ k):∀(xs:List (Int × Rn)) (pre:List Rn) (put:Bool) (out:List Rn) (x:Rn),GI l at_ k pre (xs.map Prod.snd) put out x →
    ∃r' g,n4 (fun (Gi:Int × aI) zK (fB:Bool) (fe:(List aI)) (dg:aI) =>
      lt (Gi.1:Int) fun uU =>
      lt (Gi.2:aI) fun iZ =>
      bd (cm n iZ) fun wH =>
      cn (decide (wH < dg.At)) (
      gu (jH fe.length 1 16) <|
      lt (fe++([iZ]):List aI) fun lN =>
      zK fB lN dg) (
      bd (cm n dg) fun G4 =>
      cn (decide (G4 < iZ.At)) (
      lt (fun (wU:Bool) (oy:(List aI)) =>
      gu (jH oy.length 1 16) <|
      lt (oy++([iZ]):List aI) fun mX =>
      zK wU mX dg) fun A7 =>
      cn ((!fB)) (
      gu (jH fe.length 1 16) <|
      lt (fe++([dg]):List aI) fun lM =>
      A7 true lM) (
      A7 fB fe)) (
      bd (cm n iZ) fun wS =>
      cn ((wS == dg.At)) (
      lt ({ At:=iZ.At,N:=wr .i64 (iZ.N + dg.N) }:aI) fun AS =>
      zK fB fe AS) (
      bd (cm n dg) fun vw =>
      cn ((iZ.At == vw)) (
      lt ({ dg with N:=wr .i64 (dg.N + iZ.N) }:aI) fun DH =>
      zK fB fe DH) (
      some (r,false)))))) (fun (fB:Bool) (fe:(List aI)) (dg:aI) =>
      cn ((!fB)) (
      gu (jH fe.length 1 16) <|
      lt (fe++([dg]):List aI) fun nI =>
      lt ({ l:=nI }:bR) fun wR =>
      some (wR,true)) (
      lt ({ l:=fe }:bR) fun Bu =>
      some (Bu,true))) xs put out x = some (r',g)∧Ge r' g l r at_ k:=by
  intro xs
  induction xs with
  | nil =>
    intro pre put out x h
    have e:l = pre:=by have:=h.e; simpa using this
    subst e
    show ∃r' g,cn (!put) (gu (jH out.length 1 16) <| some ((⟨out++[x]⟩ : bR),true)) (some ((⟨out⟩ : bR),true)) = some (r',g)∧_
    have hfree:∀p,at_ ≤ p→p < at_ + k→¬ cI l p:=fun p h1 h2 hm=>h.free p hm ⟨h1,h2⟩
    cases put with
    | false =>
      obtain ⟨c1,c2,c3⟩:=h.off rfl
      have:=c1.init.len
      rw [aC (b:=!false) rfl,aA (jr (by omega) (by omega))]
      exact ⟨_,true,rfl,⟨fun _=>hfree,fun _=>rfl⟩,fun h=>(by cases h),fun _=>⟨c1,c3⟩⟩
    | true =>
      obtain ⟨c1,c2,c3,c4⟩:=h.on rfl
      rw [aj (b:=!true) rfl]
      exact ⟨_,true,rfl,⟨fun _=>hfree,fun _=>rfl⟩,fun h=>(by cases h),fun _=>⟨c1,c4⟩⟩
  | cons q xs ih =>
    obtain ⟨qi,y⟩:=q
    intro pre put out x h
    have he:l = (pre++[y])++xs.map Prod.snd:=by rw [h.e]; simp
    have A9:y ∈ l:=by rw [h.e]; simp
    have EW:=hl.gG y A9
    have hpre:∀z ∈ pre,z.At + z.N < y.At:=fun z hz=>by
      have xP:=hl.pw
      rw [he] at xP
      exact (List.pairwise_append.1 (List.pairwise_append.1 xP).1).2.2 z hz y (by simp)
    have Io:∀z ∈ pre,0 ≤ z.At∧1 ≤ z.N∧z.At + z.N ≤ 64:=fun z hz=>hl.gG z (by rw [h.e]; simp [hz])
    obtain ⟨o1,o2,o3⟩:=ho
    obtain ⟨G9,HV⟩:=h.lo
    obtain ⟨Jp,wK⟩:=h.hi
    have EX:=h.gG
    have ey:cm n y = some (y.At + y.N):=yh EW
    have ex:cm n x = some (x.At + x.N):=yh EX
    have hfree:(∀p,y.At ≤ p→p < y.At + y.N→¬ (at_ ≤ p∧p < at_ + k))→∀p,cI (pre++[y]) p→¬ (at_ ≤ p∧p < at_ + k):=fun hy p hp=>by
      rcases eZ.1 hp with hp | hp
      · exact h.free p hp
      · obtain ⟨h1,h2⟩:=eI.1 hp; exact hy p h1 h2
    have oV:∀{z},z ∈ pre→z ∈ pre++[y]:=fun hz=>by simp [hz]
    have hlo:x.At = at_∨∃z ∈ pre++[y],z.At + z.N = at_:=HV.imp id fun ⟨z,hz,e⟩=>⟨z,oV hz,e⟩
    have hhi:x.At + x.N = at_ + k∨∃z ∈ pre++[y],z.At + z.N = x.At + x.N:=wK.imp id fun ⟨z,hz,e⟩=>⟨z,oV hz,e⟩
    have Fs:∀p,cI (pre++[y]) p↔cI pre p∨(y.At ≤ p∧p < y.At + y.N):=fun p=>by rw [eZ,eI]
    have hput:put = true→x.At + x.N < y.At:=fun hp=>by obtain ⟨z,hz,h1⟩:=(h.on hp).2.2.1; have:=hpre z hz; have:=Io z hz; omega
    simp only [n4]
    dsimp only [lt]
    rw [aq ey]
    by_cases c1:y.At + y.N < x.At
    · have hf:put = false:=by
        cases put with
        | false=>rfl
        | true=>have:=hput rfl; omega
      subst hf
      obtain ⟨d1,d2,d3⟩:=h.off rfl
      have hlen:=d1.init.len
      rw [aC (by simpa using c1),aA (jr (by omega) (by omega))]
      refine ih (pre++[y]) false (out++[y]) x ⟨he,hfree fun p h1 h2=>by omega,⟨G9,hlo⟩,⟨Jp,hhi⟩,EX,fun _=>⟨?_,?_,fun p=>?_⟩,fun h=>by cases h⟩
      · refine iw (iw d1.init EW fun z hz=>hpre z (d2 z hz)) EX fun z hz=>?_
        rcases List.mem_append.1 hz with hz | hz
        · exact d1.last z hz
        · rw [List.mem_singleton.1 hz]; exact c1
      · intro z hz
        rcases List.mem_append.1 hz with hz | hz
        · exact oV (d2 z hz)
        · rw [List.mem_singleton.1 hz]; simp
      · have:=d3 p
        rw [eZ,eI] at this ⊢
        rw [eZ,eI,Fs]
        constructor
        · rintro ((c | c) | c)
          · rcases this.1 (.inl c) with c | c
            · exact .inl (.inl c)
            · exact .inr c
          · exact .inl (.inr c)
          · rcases this.1 (.inr c) with c | c
            · exact .inl (.inl c)
            · exact .inr c
        · rintro ((c | c) | c)
          · rcases this.2 (.inl c) with c | c
            · exact .inl (.inl c)
            · exact .inr c
          · exact .inl (.inr c)
          · rcases this.2 (.inr c) with c | c
            · exact .inl (.inl c)
            · exact .inr c
    rw [aj (by simpa using c1),aq ex]
    by_cases c2:x.At + x.N < y.At
    · rw [aC (by simpa using c2)]
      have hfr:=hfree fun p h1 h2=>by omega
      cases put with
      | false =>
        obtain ⟨d1,d2,d3⟩:=h.off rfl
        have hlen:=d1.init.len
        have xT:=d1.len
        rw [aC (b:=!false) rfl,aA (jr (by omega) (by omega)),aA (jr (by omega) (by omega))]
        refine ih (pre++[y]) true (out++[x]++[y]) x ⟨he,hfr,⟨G9,hlo⟩,⟨Jp,hhi⟩,EX,fun h=>(by cases h),fun _=>⟨?_,?_,⟨y,by simp,c2⟩,fun p=>?_⟩⟩
        · refine iw d1 EW fun z hz=>?_
          rcases List.mem_append.1 hz with hz | hz
          · exact hpre z (d2 z hz)
          · rw [List.mem_singleton.1 hz]; exact c2
        · intro z hz
          simp only [List.mem_append,List.mem_singleton] at hz
          rcases hz with (hz | hz) | hz
          · exact .inl (oV (d2 z hz))
          · exact .inr hz
          · exact .inl (by simp [hz])
        · rw [eZ,eI,d3 p,Fs]
          constructor
          · rintro ((c | c) | c)
            · exact .inl (.inl c)
            · exact .inr c
            · exact .inl (.inr c)
          · rintro ((c | c) | c)
            · exact .inl (.inl c)
            · exact .inr c
            · exact .inl (.inr c)
      | true =>
        obtain ⟨d1,d2,d3,d4⟩:=h.on rfl
        have hlen:=d1.len
        rw [aj (b:=!true) rfl,aA (jr (by omega) (by omega))]
        refine ih (pre++[y]) true (out++[y]) x ⟨he,hfr,⟨G9,hlo⟩,⟨Jp,hhi⟩,EX,fun h=>(by cases h),fun _=>⟨?_,?_,⟨y,by simp,c2⟩,fun p=>?_⟩⟩
        · refine iw d1 EW fun z hz=>?_
          rcases d2 z hz with hz | rfl
          · exact hpre z hz
          · exact c2
        · intro z hz
          rcases List.mem_append.1 hz with hz | hz
          · exact (d2 z hz).imp oV id
          · exact .inl (by simp [List.mem_singleton.1 hz])
        · rw [eZ,eI,d4 p,Fs]
          constructor
          · rintro ((c | c) | c)
            · exact .inl (.inl c)
            · exact .inr c
            · exact .inl (.inr c)
          · rintro ((c | c) | c)
            · exact .inl (.inl c)
            · exact .inr c
            · exact .inl (.inr c)
    have hf:put = false:=by
      cases put with
      | false=>rfl
      | true=>have:=hput rfl; omega
    subst hf
    obtain ⟨d1,d2,d3⟩:=h.off rfl
    rw [aj (by simpa using c2),aq ey]
    by_cases c3:y.At + y.N = x.At
    · rw [aC (by simpa using c3),bK (by omega) (by omega)]
      have KU:x.At = at_:=by
        rcases HV with e | ⟨z,hz,e⟩
        · exact e
        · have:=hpre z hz; omega
      refine ih (pre++[y]) false out ⟨y.At,y.N + x.N⟩ ⟨he,hfree fun p h1 h2=>by omega,⟨by dsimp only; omega, .inr ⟨y,by simp,by omega⟩⟩,⟨by dsimp only; omega,?_⟩,by dsimp only; omega,fun _=>⟨?_,fun z hz=>oV (d2 z hz),fun p=>?_⟩,fun h=>by cases h⟩
      · rcases hhi with e | ⟨z,hz,e⟩
        · exact .inl (by dsimp only; omega)
        · exact .inr ⟨z,hz,by dsimp only; omega⟩
      · exact iw d1.init (by dsimp only; omega) fun z hz=>hpre z (d2 z hz)
      · have:=d3 p
        rw [eZ,eI] at this ⊢
        rw [Fs]
        dsimp only
        constructor
        · rintro (c | c)
          · rcases this.1 (.inl c) with c | c
            · exact .inl (.inl c)
            · exact .inr c
          · by_cases hp:p < x.At
            · exact .inl (.inr (by omega))
            · rcases this.1 (.inr (by omega)) with c | c
              · exact .inl (.inl c)
              · exact .inr c
        · rintro ((c | c) | c)
          · rcases this.2 (.inl c) with c | c
            · exact .inl c
            · exact .inr (by omega)
          · exact .inr (by omega)
          · exact .inr (by omega)
    rw [aj (by simpa using c3),aq ex]
    by_cases c4:y.At = x.At + x.N
    · rw [aC (by simpa using c4),bK (by omega) (by omega)]
      refine ih (pre++[y]) false out ⟨x.At,x.N + y.N⟩ ⟨he,hfree fun p h1 h2=>by omega,⟨G9,hlo⟩,⟨by dsimp only; omega, .inr ⟨y,by simp,by dsimp only; omega⟩⟩,by dsimp only; omega,fun _=>⟨?_,fun z hz=>oV (d2 z hz),fun p=>?_⟩,fun h=>by cases h⟩
      · exact iw d1.init (by dsimp only; omega) fun z hz=>d1.last z hz
      · have:=d3 p
        rw [eZ,eI] at this ⊢
        rw [Fs]
        dsimp only
        constructor
        · rintro (c | c)
          · rcases this.1 (.inl c) with c | c
            · exact .inl (.inl c)
            · exact .inr c
          · by_cases hp:p < x.At + x.N
            · rcases this.1 (.inr (by omega)) with c | c
              · exact .inl (.inl c)
              · exact .inr c
            · exact .inl (.inr (by omega))
        · rintro ((c | c) | c)
          · rcases this.2 (.inl c) with c | c
            · exact .inl c
            · exact .inr (by omega)
          · exact .inr (by omega)
          · exact .inr (by omega)
    rw [aj (by simpa using c4)]
    refine ⟨r,false,rfl,⟨fun h=>(by cases h),fun hno=>?_⟩,fun _=>rfl,fun h=>(by cases h)⟩
    have g1:y.At < at_ + k:=by
      rcases wK with e | ⟨z,hz,e⟩
      · omega
      · have:=hpre z hz; omega
    have g2:at_ < y.At + y.N:=by
      rcases HV with e | ⟨z,hz,e⟩
      · omega
      · have:=hpre z hz; omega
    by_cases g3:at_ ≤ y.At
    · exact absurd ⟨y,A9,by omega,by omega⟩ (hno y.At g3 g1)
    · exact absurd ⟨y,A9,by omega,by omega⟩ (hno at_ (by omega) (by omega))
theorem z6 {n:Nat} (hn:110 ≤ n) {r:bR} (hr:Can r.l) {at_ k:Int} (ha:y9 at_) (hk:y9 k) :
    ∃r' g,fP n r at_ k = some (r',g)∧(g = true↔tA at_ k∧∀p,at_ ≤ p→p < at_ + k→¬ cI r.l p)∧(g = false→r' = r)∧(g = true→Can r'.l∧∀p,cI r'.l p↔cI r.l p∨(at_ ≤ p∧p < at_ + k)):=by
  unfold fP
  rw [lt_eq]
  obtain ⟨b,hb,hb'⟩:=BR (n:=n) ha hk
  rw [aq hb]
  cases b with
  | false=>exact ⟨r,false,rfl,⟨fun h=>(by cases h),fun h=>hb'.2 h.1⟩,fun _=>rfl,fun h=>(by cases h)⟩
  | true =>
    have ho:=hb'.1 rfl
    obtain ⟨o1,o2,o3⟩:=ho
    rw [aj (b:=!true) rfl,aq (z9 n r)]
    obtain ⟨xs,h1,h2⟩:=all_eq (n:=n) (l:=r.l) (by have:=hr.len; omega) hn
    rw [aq h1]
    obtain ⟨r',g,h3,h4,h5,h6⟩:=z5 (n:=n) (r:=r) hr (at_:=at_) (k:=k) ⟨o1,o2,o3⟩ xs [] false [] ⟨at_,k⟩ ⟨by simpa using h2.symm,fun p hp=>absurd hp (oL p),⟨Int.le_refl _, .inl rfl⟩,⟨Int.le_refl _, .inl rfl⟩,⟨o2,o1,o3⟩,
      fun _=>⟨iw Can.nil ⟨o2,o1,o3⟩ (by simp),by simp,fun p=>by rw [List.nil_append,eI]; simp [oL]⟩,fun h=>by cases h⟩
    exact ⟨r',g,h3,⟨fun hg=>⟨⟨o1,o2,o3⟩,h4.1 hg⟩,fun hg=>h4.2 hg.2⟩,h5,h6⟩
end Go.Proofs.Ytmdpbdhkmfjlhaa
namespace Go.Proofs.Ytmdpbdhkmfjlhaa
open Go Go.Bw
def ov (y:Rn) (i:Int):Int:=if i ≤ y.At then 0 else if y.At + y.N ≤ i then y.N else i - y.At
def kj (l:List Rn) (i:Int):Int:=(l.map fun y=>ov y i).sum
theorem j6 (y:Rn) (l:List Rn) (i:Int):kj (y::l) i = ov y i + kj l i:=rfl
theorem ja:∀{l:List Rn},Can l→kj l 0 = 0
  | [],_=>rfl
  | y::r,h=>by
    have hy:=h.gG y (by simp)
    rw [j6,ja ⟨fun z hz=>h.gG z (by simp [hz]),(List.pairwise_cons.1 h.pw).2⟩]
    unfold ov; rw [if_pos hy.1]; rfl
theorem jb:∀{l:List Rn},Can l→∀i:Int,(cI l i→kj l (i + 1) = kj l i + 1)∧(¬ cI l i→kj l (i + 1) = kj l i)
  | [],_,i=>⟨fun h=>absurd h (oL i),fun _=>rfl⟩
  | y::r,h,i=>by
    obtain ⟨h1,h2⟩:=List.pairwise_cons.1 h.pw
    have hy:=h.gG y (by simp)
    obtain ⟨i1,i2⟩:=jb (l:=r) ⟨fun z hz=>h.gG z (by simp [hz]),h2⟩ i
    rw [j6,j6,ng]
    by_cases c:y.At ≤ i∧i < y.At + y.N
    · have hn:¬ cI r i:=fun ⟨z,hz,a,b⟩=>by have:=h1 z hz; omega
      rw [i2 hn]
      refine ⟨fun _=>?_,fun hh=>absurd (.inl c) hh⟩
      unfold ov
      rw [if_neg (by omega)]
      split <;> split <;> omega
    · have e:ov y (i + 1) = ov y i:=by
        unfold ov
        (repeat' split) <;> omega
      rw [e]
      refine ⟨fun hh=>?_,fun hh=>?_⟩
      · rw [i1 (hh.resolve_left c)]; omega
      · rw [i2 fun hm=>hh (.inr hm)]
def dy (l:List Rn):Int:=(l.map fun y=>y.N).sum
theorem eX (y:Rn) (l:List Rn):dy (y::l) = y.N + dy l:=rfl
theorem jL:∀{l:List Rn},Can l→kj l 64 = dy l
  | [],_=>rfl
  | y::r,h=>by
    have hy:=h.gG y (by simp)
    rw [j6,eX,jL ⟨fun z hz=>h.gG z (by simp [hz]),(List.pairwise_cons.1 h.pw).2⟩]
    unfold ov; rw [if_neg (by omega),if_pos hy.2.2]
theorem sd:∀{l:List Rn} {lo:Int},Can l→(∀y ∈ l,lo ≤ y.At)→lo ≤ 65→0 ≤ dy l∧dy l ≤ 65 - lo
  | [],lo,_,_,h=>by simp [dy]; omega
  | y::r,lo,h,hl,_=>by
    obtain ⟨h1,h2⟩:=List.pairwise_cons.1 h.pw
    have hy:=h.gG y (by simp)
    have hy':=hl y (by simp)
    have:=sd (l:=r) (lo:=y.At + y.N + 1) ⟨fun z hz=>h.gG z (by simp [hz]),h2⟩ (fun z hz=>by have:=h1 z hz; omega) (by omega)
    rw [eX]; omega
theorem sV {n:Nat}:∀(xs:List (Int × Rn)) (s:Int),0 ≤ s→s ≤ 1000000 - dy (xs.map Prod.snd)→(∀e ∈ xs,1 ≤ e.2.N) →
    eB (fun (Aa:Int × aI) BV (dk:Int) =>
      lt (Aa.1:Int) fun kB =>
      lt (Aa.2:aI) fun hJ =>
      lt (wr .i64 (dk + hJ.N):Int) fun gF =>
      BV gF) (fun (dk:Int) =>
      some dk) xs s = some (s + dy (xs.map Prod.snd))
  | [],s,_,_,_=>by show some s = _; simp [dy]
  | e::xs,s,h0,h1,h2=>by
    have:=h2 e (by simp)
    have hs:0 ≤ dy (xs.map Prod.snd):=by
      clear h1 h0
      have h3:∀e ∈ xs,1 ≤ e.2.N:=fun e he=>h2 e (by simp [he])
      clear h2 this
      induction xs with
      | nil=>simp [dy]
      | cons a xs ih=>have:=h3 a (by simp); have:=ih fun e he=>h3 e (by simp [he]); rw [List.map_cons,eX]; omega
    rw [List.map_cons,eX] at h1 ⊢
    show eB _ _ xs (wr .i64 (s + e.2.N)) = _
    rw [bK (by omega) (by omega),sV (n:=n) xs (s + e.2.N) (by omega) (by omega) (fun e he=>h2 e (by simp [he]))]
    congr 1; omega
def kJ (a:Nat→Int):Rn:=⟨a 0,a 1⟩
structure RS (r:bR) (w:Nat→Bool):Prop where
  can:Can r.l
  mem:∀p:Nat,p < 64→(w p = true↔cI r.l p)
theorem RS.all {r:bR} {w:Nat→Bool} (h:RS r w) (p:Int):cI r.l p↔0 ≤ p∧p < 64∧w p.toNat = true:=by
  constructor
  · intro hm
    obtain ⟨a,b⟩:=sD h.can hm
    exact ⟨a,b,(h.mem p.toNat (by omega)).2 (by rw [Int.toNat_of_nonneg a]; exact hm)⟩
  · rintro ⟨a,b,d⟩
    have:=(h.mem p.toNat (by omega)).1 d
    rwa [Int.toNat_of_nonneg a] at this
theorem RS.take {r r' : bR} {w w' : Nat→Bool} {a k:Int} (h:RS r w) (hc:Can r'.l) (hm:∀p,cI r'.l p↔cI r.l p∧¬ (a ≤ p∧p < a + k)) (hw:∀p:Nat,w' p = if a ≤ (p:Int)∧(p:Int) < a + k then false else w p):RS r' w':=
  ⟨hc,fun p hp=>by
    rw [hw p,hm]
    by_cases c:a ≤ (p:Int)∧(p:Int) < a + k
    · rw [if_pos c]; simp [c]
    · rw [if_neg c,h.mem p hp]; exact ⟨fun x=>⟨x,c⟩,fun x=>x.1⟩⟩
end Go.Proofs.Ytmdpbdhkmfjlhaa
namespace Go.Proofs.Ytmdpbdhkmfjlhaa
open Go Go.Bw
theorem vA {l m x:List Rn} (hl:Can l) (hm:Can m) (hx:Can x) (h1:∀p,cI l p↔cI m p∨cI x p) (h2:∀p,cI m p→¬ cI x p):dy l = dy m + dy x:=by
  have key:∀i:Nat,kj l i = kj m i + kj x i:=by
    intro i
    induction i with
    | zero=>rw [Int.natCast_zero,ja hl,ja hm,ja hx]; rfl
    | succ i ih =>
      have e:((i + 1:Nat):Int) = (i:Int) + 1:=by omega
      rw [e]
      obtain ⟨a1,a2⟩:=jb hl i
      obtain ⟨b1,b2⟩:=jb hm i
      obtain ⟨c1,c2⟩:=jb hx i
      by_cases c:cI m i
      · rw [a1 ((h1 _).2 (.inl c)),b1 c,c2 (h2 _ c),ih]; omega
      · by_cases d:cI x i
        · rw [a1 ((h1 _).2 (.inr d)),b2 c,c1 d,ih]; omega
        · rw [a2 (fun h=>((h1 _).1 h).elim c d),b2 c,c2 d,ih]
  have:=key 64
  rw [show ((64:Nat):Int) = 64 from rfl,jL hl,jL hm,jL hx] at this
  exact this
theorem Ae {a k:Int} (h:tA a k):Can [(⟨a,k⟩ : Rn)]:=iw (l:=[]) Can.nil (by unfold tA at h; exact ⟨h.2.1,h.1,h.2.2⟩) (by simp)
structure OW (first r:List Rn) (t:List Int):Prop where
  can:Can r
  nd:t.Nodup
  mem:∀p,cI first p↔cI r p∨p ∈ t
  apart:∀p,p ∈ t→¬ cI r p
theorem lf:∀(k:Nat) {t:List Int},t.Nodup→(∀p ∈ t,0 ≤ p∧p < (k:Int))→t.length ≤ k
  | 0,[],_,_=>Nat.le_refl _
  | 0,x::t,_,h=>by have:=h x (by simp); omega
  | k + 1,t,hn,h=>by
    by_cases hk:(k:Int) ∈ t
    · have h1:=lf k (hn.erase (k:Int)) fun x hx=>by
        have h2:=h x (List.mem_of_mem_erase hx)
        have h3:x ≠ k:=fun e=>by subst e; exact (List.Nodup.not_mem_erase hn) hx
        omega
      rw [List.length_erase_of_mem hk] at h1
      omega
    · have h1:=lf k hn fun x hx=>by
        have h2:=h x hx
        have h3:x ≠ k:=fun e=>hk (e ▸ hx)
        omega
      omega
theorem OW.gG {first r:List Rn} {t:List Int} (hf:Can first) (h:OW first r t) {p:Int} (hp:p ∈ t):0 ≤ p∧p < 64:=sD hf ((h.mem p).2 (.inr hp))
theorem OW.len {first r:List Rn} {t:List Int} (hf:Can first) (h:OW first r t):t.length ≤ 64:=lf 64 h.nd fun p hp=>h.gG hf hp
end Go.Proofs.Ytmdpbdhkmfjlhaa
namespace Go.Proofs.Ytmdpbdhkmfjlhaa
open Go Go.Bw
theorem zj {l:List (Nat→Int)} {i:Nat} (h:i < l.length):kJ (l.getD i default) = (l.map kJ)[i]'(by rw [List.length_map]; exact h):=by
  rw [List.getD,List.getElem?_eq_getElem h,List.getElem_map]; rfl
def Bl:Int→List Rn→List (Int × Rn)
  | _,[]=>[]
  | b,y::r=>(b,y)::Bl (b + 32 * y.N) r
def oC (l:List Rn):Prop:=∀y ∈ l,1 ≤ y.N
theorem jM:∀{l:List Rn},oC l→0 ≤ dy l
  | [],_=>by simp [dy]
  | y::r,h=>by
    have:=h y (by simp)
    have:=jM (l:=r) fun z hz=>h z (by simp [hz])
    rw [eX]; omega
theorem wg {n:Nat} {e:cg} (hn:e.bf.length < n) (hl:e.bf.length ≤ 1000) (hp:oC e.bf) (hs:dy e.bf ≤ 1000):cY n e = some (Bl 0 e.bf):=by
  unfold cY
  have key:∀(m i:Nat) (b:Int),i ≤ e.bf.length→e.bf.length - i < m→0 ≤ b→b + 32 * dy (e.bf.drop i) ≤ 100000→cP (fun Ii (bN:Int) (fC:Int) =>
      cn (decide (fC < (e.bf.length:Int))) (
      gu (cV fC e.bf.length) <|
      lt ((e.bf.getD (Int.toNat fC) default):aI) fun dg =>
      yl (bN,dg) <|
      Ii (wr .i64 (bN + (wr .i64 (dg.N * 32)))) (wr .i64 (fC + 1))) (
      some [])) m b (i:Int) = some (Bl b (e.bf.drop i)):=by
    intro m
    induction m with
    | zero=>intro i b _ h; omega
    | succ m ih =>
      intro i b hi hm hb IQ
      simp only [cP]
      by_cases c:i < e.bf.length
      · have hg:e.bf.getD (Int.toNat (i:Int)) default = e.bf[i]:=by rw [Int.toNat_natCast,List.getD,List.getElem?_eq_getElem c]; rfl
        have hy:=hp _ (List.getElem_mem c)
        have hd:e.bf.drop i = e.bf[i]::e.bf.drop (i + 1):=List.drop_eq_getElem_cons c
        rw [hd,eX] at IQ
        have hr:0 ≤ dy (e.bf.drop (i + 1)):=jM fun z hz=>hp z (List.mem_of_mem_drop hz)
        rw [aC (by simpa using c),aA (bT (by omega) (by omega)),lt_eq,hg,hd]
        rw [bK (x:=e.bf[i].N * 32) (by omega) (by omega),bK (x:=b + e.bf[i].N * 32) (by omega) (by omega),bK (x:=(i:Int) + 1) (by omega) (by omega)]
        have e1:((i:Int) + 1) = ((i + 1:Nat):Int):=by omega
        rw [e1,ih (i + 1) (b + e.bf[i].N * 32) (by omega) (by omega) (by omega) (by omega)]
        show some ((b,e.bf[i])::Bl (b + e.bf[i].N * 32) (e.bf.drop (i + 1))) = some ((b,e.bf[i])::Bl (b + 32 * e.bf[i].N) (e.bf.drop (i + 1)))
        rw [Int.mul_comm]
      · rw [aj (by simpa using c),List.drop_eq_nil_of_le (by omega)]; rfl
  have:=key n 0 0 (by omega) (by omega) (by omega) (by rw [List.drop_zero]; omega)
  simpa using this
theorem og:∀(l:List Rn) (b:Int),(Bl b l).map Prod.snd = l
  | [],_=>rfl
  | y::r,b=>by rw [Bl,List.map_cons,og r]
theorem xq {n:Nat} {e:cg} (hn:e.bf.length < n) (hl:e.bf.length ≤ 1000) (hp:oC e.bf) (hs:dy e.bf ≤ 1000):dV n e = some (dy e.bf):=by
  unfold dV
  rw [aq (show eN n e = some e from rfl),aq (wg hn hl hp hs)]
  have h0:=jM hp
  refine (sV (n:=n) (Bl 0 e.bf) 0 (by omega) (by rw [og]; omega) fun q hq=>hp q.2 (by rw [← og e.bf 0]; exact List.mem_map_of_mem hq)).trans ?_
  rw [og]; congr 1; omega
end Go.Proofs.Ytmdpbdhkmfjlhaa
namespace Go.Proofs.Ytmdpbdhkmfjlhaa
open Go Go.Bw
structure pI (l:List Rn):Prop where
  gG:∀y ∈ l,tA y.At y.N
  pw:l.Pairwise fun y z=>∀p,y.At ≤ p→p < y.At + y.N→¬ (z.At ≤ p∧p < z.At + z.N)
theorem pI.nil:pI []:=⟨by simp, .nil⟩
theorem kT {l:List Rn} {y:Rn}:pI (l++[y])↔pI l∧tA y.At y.N∧∀p,y.At ≤ p→p < y.At + y.N→¬ cI l p:=by
  constructor
  · rintro ⟨h1,h2⟩
    obtain ⟨p1,p2,p3⟩:=List.pairwise_append.1 h2
    exact ⟨⟨fun z hz=>h1 z (by simp [hz]),p1⟩,h1 y (by simp),fun p q1 q2 ⟨z,hz,q3,q4⟩=>p3 z hz y (by simp) p q3 q4 ⟨q1,q2⟩⟩
  · rintro ⟨⟨h1,h2⟩,h3,h4⟩
    refine ⟨fun z hz=>?_,List.pairwise_append.2 ⟨h2,List.pairwise_singleton _ _,fun a ha b hb p q1 q2 q3=>?_⟩⟩
    · rcases List.mem_append.1 hz with hz | hz
      · exact h1 z hz
      · rw [List.mem_singleton.1 hz]; exact h3
    · rw [List.mem_singleton.1 hb] at q3
      exact h4 p q3.1 q3.2 ⟨a,ha,q1,q2⟩
theorem pI.nat {l:List Rn} (h:pI l):oC l:=fun y hy=>(h.gG y hy).1
theorem my:∀(l m:List Rn),dy (l++m) = dy l + dy m
  | [],m=>by simp [dy]
  | y::r,m=>by rw [List.cons_append,eX,eX,my r m]; omega
theorem r9 {l:List Rn} (h:Can l):∀i:Nat,kj l i ≤ i
  | 0=>by rw [Int.natCast_zero,ja h]; exact Int.le_refl _
  | i + 1=>by
    have:=r9 h i
    obtain ⟨a,b⟩:=jb h i
    have e:((i + 1:Nat):Int) = (i:Int) + 1:=by omega
    rw [e]
    by_cases c:cI l i
    · rw [a c]; omega
    · rw [b c]; omega
theorem xC {n:Nat} (hn:110 ≤ n) {e:cg} (hl:e.bf.length ≤ 80) (hr:∀y ∈ e.bf,y9 y.At∧y9 y.N):∃b,dN n e = some b∧(b = true↔pI e.bf∧dy e.bf ≤ 64∧0 ≤ e.ot∧e.ot ≤ 32 * dy e.bf):=by
  unfold dN
  refine de (fun (i:Int) (r:bR)=>0 ≤ i∧i ≤ e.bf.length∧Can r.l∧pI (e.bf.take i.toNat)∧(∀p,cI r.l p↔cI (e.bf.take i.toNat) p)∧dy r.l = dy (e.bf.take i.toNat)) (fun i _=>((e.bf.length:Int) - i).toNat)
    (fun o=>∃b,o = some b∧(b = true↔pI e.bf∧dy e.bf ≤ 64∧0 ≤ e.ot∧e.ot ≤ 32 * dy e.bf)) ?_ n 0 iy ⟨by omega,by omega,Can.nil,pI.nil,fun p=>Iff.rfl,rfl⟩ (by omega)
  rintro kk i r ⟨i0,i1,hc,hg,hm,hs⟩ ih
  obtain ⟨i,rfl⟩:=Int.eq_ofNat_of_zero_le i0
  rw [Int.toNat_natCast] at hg hm hs
  by_cases c:i < e.bf.length
  · have hgd:e.bf.getD (Int.toNat (i:Int)) default = e.bf[i]:=by rw [Int.toNat_natCast,List.getD,List.getElem?_eq_getElem c]; rfl
    have hy:=hr _ (List.getElem_mem c)
    have ht:e.bf.take (i + 1) = e.bf.take i++[e.bf[i]]:=List.take_succ_eq_append_getElem c
    rw [aC (by simpa using c),aA (bT (by omega) (by omega)),lt_eq,hgd]
    obtain ⟨r',g,g1,g2,g3,g4⟩:=z6 (n:=n) hn hc (at_:=e.bf[i].At) (k:=e.bf[i].N) hy.1 hy.2
    rw [aq g1]
    have FH:g = true↔pI (e.bf.take (i + 1)):=by
      rw [g2,ht,kT]
      exact ⟨fun ⟨a,b⟩=>⟨hg,a,fun p q1 q2 q3=>b p q1 q2 ((hm p).2 q3)⟩,fun ⟨_,a,b⟩=>⟨a,fun p q1 q2 q3=>b p q1 q2 ((hm p).1 q3)⟩⟩
    cases g with
    | false =>
      refine ⟨false,rfl,fun h=>(by cases h),fun ⟨h,_⟩=>?_⟩
      rw [← List.take_append_drop (i + 1) e.bf] at h
      exact FH.2 ⟨fun y hy=>h.gG y (List.mem_append_left _ hy),(List.pairwise_append.1 h.pw).1⟩
    | true =>
      obtain ⟨c1,c2⟩:=g4 rfl
      have ho:=(g2.1 rfl).1
      rw [aj (b:=!true) rfl,bK (by omega) (by omega)]
      have e1:((i:Int) + 1).toNat = i + 1:=by omega
      refine ih _ _ ⟨by omega,by omega,c1,by rw [e1]; exact FH.1 rfl,fun p=>?_,?_⟩ (by omega)
      · rw [e1,ht,eZ,eI,c2 p,hm p]
      · rw [e1,ht,my,← hs]
        rw [vA c1 hc (Ae ho) (fun p=>by rw [c2 p,eI]) (fun p hp hq=>(g2.1 rfl).2 p (eI.1 hq).1 (eI.1 hq).2 hp)]
  · rw [aj (by simpa using c)]
    obtain rfl:i = e.bf.length:=by omega
    rw [List.take_length] at hg hm hs
    have I3:=sd (lo:=0) hc (fun y hy=>(hc.gG y hy).1) (by omega)
    have MJ:dy r.l ≤ 64:=by rw [← jL hc]; exact r9 hc 64
    rw [cz (xq (n:=n) (by omega) (by omega) hg.nat (by rw [← hs]; omega))]
    refine ⟨_,rfl,?_⟩
    by_cases c0:0 ≤ e.ot
    · have e1:(bif decide (0 ≤ e.ot) == true then dy e.bf else default) = dy e.bf:=by simp [c0]
      rw [e1,bK (by omega) (by omega)]
      simp only [c0,decide_true,Bool.true_and,decide_eq_true_eq,true_and,← hs]
      exact ⟨fun h=>⟨hg,MJ,by omega⟩,fun h=>by omega⟩
    · simp [c0]
end Go.Proofs.Ytmdpbdhkmfjlhaa
namespace Go.Proofs.Ytmdpbdhkmfjlhaa
open Go Go.Bw
structure Gx (l:List Rn):Prop where
  gd:pI l
  sum:dy l ≤ 64
theorem xF:∀{l:List Rn},oC l→(l.length:Int) ≤ dy l
  | [],_=>by simp [dy]
  | y::r,h=>by
    have h1:=h y (by simp)
    have h2:=xF (l:=r) fun z hz=>h z (by simp [hz])
    rw [eX,List.length_cons]; omega
theorem Gx.len {l:List Rn} (h:Gx l):l.length ≤ 64:=by have:=xF h.gd.nat; have:=h.sum; omega
theorem Gx.pos {l:List Rn} (h:Gx l):0 ≤ dy l:=jM h.gd.nat
theorem BJ {l:List (Nat→Int)} {i:Nat}:(l.getD i default) 0 = (kJ (l.getD i default)).At:=rfl
theorem Eg {l:List (Nat→Int)} {i:Nat}:(l.getD i default) 1 = (kJ (l.getD i default)).N:=rfl
theorem qq {l:List Rn} {y:Rn} {p:Int}:cI (l++[y]) p↔cI l p∨(y.At ≤ p∧p < y.At + y.N):=by rw [eZ,eI]
theorem qe {n:Nat} (hn:110 ≤ n) {x:iT} (hl:x.bf.length ≤ 80) (hr:∀y ∈ x.bf.map kJ,y9 y.At∧y9 y.N):∃b,cR n x = some b∧(b = true↔pI (x.bf.map kJ)∧0 ≤ x.ot∧x.ot ≤ 32 * dy (x.bf.map kJ)):=by
  unfold cR
  refine nh (fun (s i:Int) (t:Nat→Bool)=>0 ≤ i∧i ≤ x.bf.length∧pI ((x.bf.map kJ).take i.toNat)∧s = dy ((x.bf.map kJ).take i.toNat)∧∀p:Nat,p < 64→(t p = true↔cI ((x.bf.map kJ).take i.toNat) p)) (fun _ i _=>((x.bf.length:Int) - i).toNat)
    (fun o=>∃b,o = some b∧(b = true↔pI (x.bf.map kJ)∧0 ≤ x.ot∧x.ot ≤ 32 * dy (x.bf.map kJ))) ?_ n 0 0 _ ⟨by omega,by omega,pI.nil,rfl,fun p _=>⟨fun h=>by simp at h,fun h=>by simp [cI] at h⟩⟩ (by omega)
  rintro kk s i t ⟨i0,i1,hg,rfl,ht⟩ ih
  obtain ⟨i,rfl⟩:=Int.eq_ofNat_of_zero_le i0
  rw [Int.toNat_natCast] at *
  by_cases c:i < x.bf.length
  · have g1:cV (i:Int) x.bf.length = true:=bT (by omega) (by omega)
    have hi:i < (x.bf.map kJ).length:=by rw [List.length_map]; exact c
    have hy:=hr _ (List.getElem_mem hi)
    have hgt:=zj c
    have y3:(x.bf.map kJ).take (i + 1) = (x.bf.map kJ).take i++[(x.bf.map kJ)[i]]:=List.take_succ_eq_append_getElem hi
    have jV:pI (x.bf.map kJ)→pI ((x.bf.map kJ).take (i + 1)):=fun h=>by
      rw [← List.take_append_drop (i + 1) (x.bf.map kJ)] at h
      exact ⟨fun y hy=>h.gG y (List.mem_append_left _ hy),(List.pairwise_append.1 h.pw).1⟩
    have Hf:dy ((x.bf.map kJ).take i) ≤ 80 * 64:=by
      have:∀(l:List Rn),(∀y ∈ l,tA y.At y.N)→dy l ≤ l.length * 64:=by
        intro l
        induction l with
        | nil=>intro _; simp [dy]
        | cons y r ih=>intro h; have h1:=h y (by simp); have:=ih fun z hz=>h z (by simp [hz]); unfold tA at h1; rw [eX,List.length_cons]; omega
      have h2:=this _ hg.gG
      have h3:((x.bf.map kJ).take i).length ≤ 80:=by rw [List.length_take,List.length_map]; omega
      omega
    have Mj:0 ≤ dy ((x.bf.map kJ).take i):=jM hg.nat
    rw [y3] at jV
    generalize (x.bf.map kJ)[i] = y at *
    rw [aC (by simpa using c)]
    simp only [BJ,Eg,Int.toNat_natCast,hgt,aA g1]
    obtain ⟨⟨a1,a2⟩,n1,n2⟩:=hy
    by_cases hk:tA y.At y.N
    · obtain ⟨k1,k2,k3⟩:=hk
      rw [bK (x:=y.At + y.N) (by omega) (by omega),aj (by simp; omega)]
      refine de (fun (p:Int) (t:Nat→Bool)=>y.At ≤ p∧p ≤ y.At + y.N∧(∀q,y.At ≤ q→q < p→¬ cI ((x.bf.map kJ).take i) q)∧∀q:Nat,q < 64→(t q = true↔cI ((x.bf.map kJ).take i) q∨(y.At ≤ (q:Int)∧(q:Int) < p))) (fun p _=>(y.At + y.N - p).toNat)
        (fun o=>∃b,o = some b∧(b = true↔pI (x.bf.map kJ)∧0 ≤ x.ot∧x.ot ≤ 32 * dy (x.bf.map kJ))) ?_ n _ t ⟨by omega,by omega,fun q _ _=>by omega,fun q hq=>by rw [ht q hq]; exact ⟨.inl,fun h=>h.elim id fun h=>by omega⟩⟩ (by omega)
      rintro k4 p t2 ⟨p0,p1,p2,p3⟩ BX
      obtain ⟨p,rfl⟩:=Int.eq_ofNat_of_zero_le (show 0 ≤ p by omega)
      by_cases d:(p:Int) < y.At + y.N
      · have e1:cV (p:Int) 64 = true:=bT (by omega) (by omega)
        rw [aC (by simpa using d),aA e1,Int.toNat_natCast]
        have hp:=p3 p (by omega)
        by_cases m:cI ((x.bf.map kJ).take i) p
        · rw [aC (hp.2 (.inl m))]
          exact ⟨false,rfl,fun h=>(by cases h),fun ⟨h,_⟩=>absurd m ((kT.1 (jV h)).2.2 p p0 d)⟩
        · have:t2 p = false:=by
            cases hh:t2 p with
            | false=>rfl
            | true =>
              rcases hp.1 hh with h | h
              · exact absurd h m
              · omega
          rw [aj this,aA e1,lt_eq,bK (by omega) (by omega)]
          refine BX _ _ ⟨by omega,by omega,fun q q1 q2=>?_,fun q hq=>?_⟩ (by omega)
          · by_cases e:q = p
            · subst e; exact m
            · exact p2 q q1 (by omega)
          · rw [bD]
            by_cases e:q = p
            · subst e; simp; exact .inr ⟨p0,by omega⟩
            · rw [if_neg e,p3 q hq]
              exact ⟨fun h=>h.imp id fun h=>⟨h.1,by omega⟩,fun h=>h.imp id fun h=>⟨h.1,by omega⟩⟩
      · rw [aj (by simpa using d),bK (by omega) (by omega),bK (by omega) (by omega)]
        have e1:((i:Int) + 1).toNat = i + 1:=by omega
        refine ih _ _ _ ⟨by omega,by omega,?_,?_,fun q hq=>?_⟩ (by omega)
        · rw [e1,y3]
          exact kT.2 ⟨hg,⟨k1,k2,k3⟩,fun q q1 q2=>p2 q q1 (by omega)⟩
        · rw [e1,y3,my]; simp [dy]
        · rw [e1,y3,qq,p3 q hq]
          exact ⟨fun h=>h.imp id fun h=>⟨h.1,by omega⟩,fun h=>h.imp id fun h=>⟨h.1,by omega⟩⟩
    · have hb:(((((decide (y.N < 1) || decide (64 < y.N)) || decide (y.At < 0)) || decide (63 < y.At)) || decide (64 < (wr .i64 (y.At + y.N)))):Bool) = true:=by
        unfold tA at hk
        by_cases h1:y.N < 1
        · simp [h1]
        by_cases h2:64 < y.N
        · simp [h2]
        by_cases h3:y.At < 0
        · simp [h3]
        by_cases h4:63 < y.At
        · simp [h4]
        rw [bK (x:=y.At + y.N) (by omega) (by omega)]
        have:64 < y.At + y.N:=by omega
        simp [this]
      rw [aC hb]
      exact ⟨false,rfl,fun h=>(by cases h),fun ⟨h,_⟩=>absurd (kT.1 (jV h)).2.1 hk⟩
  · rw [aj (by simpa using c)]
    have e:(x.bf.map kJ).take i = x.bf.map kJ:=List.take_of_length_le (by rw [List.length_map]; omega)
    rw [e] at hg ht ⊢
    have h2:dy (x.bf.map kJ) ≤ 80 * 64∧0 ≤ dy (x.bf.map kJ):=by
      have:∀(l:List Rn),(∀y ∈ l,tA y.At y.N)→dy l ≤ l.length * 64:=by
        intro l
        induction l with
        | nil=>intro _; simp [dy]
        | cons y r ih=>intro h; have h1:=h y (by simp); have:=ih fun z hz=>h z (by simp [hz]); unfold tA at h1; rw [eX,List.length_cons]; omega
      have h2:=this _ hg.gG
      rw [List.length_map] at h2
      exact ⟨by omega,jM hg.nat⟩
    rw [bK (by omega) (by omega)]
    refine ⟨_,rfl,?_⟩
    rw [Bool.and_eq_true,decide_eq_true_iff,decide_eq_true_iff]
    exact ⟨fun h=>⟨hg,h⟩,fun h=>h.2⟩
def vL (y:Rn):List Int:=(List.range y.N.toNat).map fun (k:Nat)=>y.At + (k:Int)
theorem sC {y:Rn} {p:Int}:p ∈ vL y↔y.At ≤ p∧p < y.At + y.N:=by
  unfold vL
  rw [List.mem_map]
  constructor
  · rintro ⟨k,hk,rfl⟩
    rw [List.mem_range] at hk; omega
  · intro h
    exact ⟨(p - y.At).toNat,by rw [List.mem_range]; omega,by omega⟩
theorem zC (y:Rn):(vL y).Nodup:=by
  unfold vL
  rw [List.Nodup,List.pairwise_map]
  exact List.nodup_range.imp fun h e=>h (by omega)
theorem w9 {α:Type} {P:List α→Prop} (h0:P []) (h1:∀l y,P l→P (l++[y])) (l:List α):P l:=by
  have key:∀(r:List α),P r.reverse:=by
    intro r
    induction r with
    | nil=>exact h0
    | cons y r ih=>rw [List.reverse_cons]; exact h1 _ _ ih
  have:=key l.reverse
  rwa [List.reverse_reverse] at this
theorem zw:∀(l:List Rn),pI l→∃t:List Int,t.Nodup∧(∀p,p ∈ t↔cI l p)∧(t.length:Int) = dy l:=by
  intro l
  induction l using w9 with
  | h0=>intro _; exact ⟨[],List.nodup_nil,by simp [cI],by simp [dy]⟩
  | h1 l y ih =>
    intro h
    obtain ⟨h1,h2,h3⟩:=kT.1 h
    obtain ⟨t,t1,t2,t3⟩:=ih h1
    refine ⟨t++vL y,List.nodup_append.2 ⟨t1,zC y,fun a ha b hb e=>?_⟩,fun p=>?_,?_⟩
    · subst e
      have:=sC.1 hb
      exact h3 _ this.1 this.2 ((t2 _).1 ha)
    · rw [List.mem_append,t2,sC,qq]
    · have:=h2.1
      rw [List.length_append,my]
      simp only [vL,List.length_map,List.length_range,dy,List.map_cons,List.map_nil,List.sum_cons,List.sum_nil] at *
      omega
theorem z7 {l:List Rn} (h:pI l):dy l ≤ 64:=by
  obtain ⟨t,t1,t2,t3⟩:=zw l h
  have:=lf 64 t1 fun p hp=>by
    obtain ⟨y,hy,h1,h2⟩:=(t2 p).1 hp
    obtain ⟨a,b,c⟩:=h.gG y hy
    exact ⟨by omega,by omega⟩
  omega
end Go.Proofs.Ytmdpbdhkmfjlhaa
namespace Go.Proofs.Ytmdpbdhkmfjlhaa
open Go Go.Bw
structure Nd (e:cg):Prop where
  gx:Gx e.bf
  lo:0 ≤ e.ot
  hi:e.ot ≤ 32 * dy e.bf
end Go.Proofs.Ytmdpbdhkmfjlhaa
namespace Go.Proofs.Ytmdpbdhkmfjlhaa
open Go Go.Bw
structure bq where
 Up:Int
 bJ:Int
 E:iT
 Cells:(Nat→Int)
abbrev pc:bq:=⟨0,0,bF,(fun _=>0)⟩
structure ae where
 B:ax
 R:(Nat→bq)
abbrev ia:ae:=⟨rG,(fun _=>pc)⟩
def bu (n:Nat) (a0:ae) (a1:Int):Option Bool:=
 bd (bp n a0.B a1) fun bn =>
 some (decide (0 ≤ bn))
structure j5 where
 gV:aM
abbrev gk:aY j5:=aY.via av (fun x=>x.gV)
abbrev mP:j5:=⟨fu⟩
theorem aK:aS gk av 0 (fun x=>x.gV) (fun x v=>{ x with gV:=v }):=aS.id.via _ _ _ 0 rfl (fun _=>rfl) (fun _ _=>rfl)
structure aX where
 Up:Int
 bJ:Int
 E:cg
 Cells:(Nat→Int)
abbrev az:aY aX:=aY.via (LP (LI .u32) (LP (LI .i64) (LP bZ (LA (LI .u32) 8)))) (fun x=>(x.Up,x.bJ,x.E,x.Cells))
abbrev kX:aX:=⟨0,0,dj,(fun _=>0)⟩
def cB:List Value:=[.int .u32 0]++([.int .i64 0]++(eW++((((LA (LI .u32) 8)).enc (fun _=>0)))))
theorem cA {A:World→Prop}:az.rep A cB kX:=⟨_,_,rfl,rfl,⟨_,_,rfl,rfl,⟨_,_,rfl,fW,fl⟩⟩⟩
theorem bM:aS az (LI .u32) 0 (fun x=>x.Up) (fun x v=>{ x with Up:=v }):=(aS.fst aS.id).via _ _ _ 0 rfl (fun _=>rfl) (fun _ _=>rfl)
theorem k6:aS az (LI .i64) 1 (fun x=>x.bJ) (fun x v=>{ x with bJ:=v }):=(aS.snd (aS.fst aS.id)).via _ _ _ 1 rfl (fun _=>rfl) (fun _ _=>rfl)
theorem nG:aS az bZ 2 (fun x=>x.E) (fun x v=>{ x with E:=v }):=(aS.snd (aS.snd (aS.fst aS.id))).via _ _ _ 2 rfl (fun _=>rfl) (fun _ _=>rfl)
theorem eP:aS az (LA (LI .u32) 8) 4 (fun x=>x.Cells) (fun x v=>{ x with Cells:=v }):=(aS.snd (aS.snd (aS.snd aS.id))).via _ _ _ 4 rfl (fun _=>rfl) (fun _ _=>rfl)
structure ai where
 book:j5
 regions:(Nat→aX)
abbrev ag:aY ai:=aY.via (LP gk (LA az 32)) (fun x=>(x.book,x.regions))
abbrev dY:ai:=⟨mP,(fun _=>kX)⟩
def aH:List Value:=((gk).enc mP)++((flat (fun _=>cB) 32))
theorem aD {A:World→Prop}:ag.rep A aH dY:=⟨_,_,rfl,fl,⟨_,rfl,fun _ _=>cA⟩⟩
theorem aB:aS ag gk 0 (fun x=>x.book) (fun x v=>{ x with book:=v }):=(aS.fst aS.id).via _ _ _ 0 rfl (fun _=>rfl) (fun _ _=>rfl)
theorem ck:aS ag (LA az 32) 96 (fun x=>x.regions) (fun x v=>{ x with regions:=v }):=(aS.snd aS.id).via _ _ _ 96 rfl (fun _=>rfl) (fun _ _=>rfl)
def dJ (n:Nat) (a0:ai) (a1:Int):Option Int:=
 bd (bh n a1) fun bn =>
 gu (cV bn.1 32) <|
 bd (aJ n a0.book.gV ((a0.regions (Int.toNat bn.1)).Up)) fun j4 =>
 cn (j4) (
 some ((a0.regions (Int.toNat bn.1)).Up)) (
 some 0)
theorem jX {n a0 a1 r K} [bL K] {ep} (f0:(ag).rep K ep a0) (h:dJ n a0 a1 = some r):wE Try.prog 105 [A ep, .int .u32 a1] K (.int .u32 r):=by
 unfold dJ at h
 refine fo Try.func105 (by kernel_rfl) rfl Try.ntmps105 rfl fun cx _ hro cX hpre=>?_
 refine SC 2 rf ?_
 refine W1 rf (cO rfl) fun b2=>?_
 obtain ⟨bn,dm,h⟩:=bz h
 refine SL 6 rf ?_
 refine CV (bU dm) rf rf ?_
 obtain ⟨oX,h⟩:=dZ h
 refine SL 12 rf ?_
 refine au rfl (gp (m:=(Int.toNat bn.1)) rfl rfl (aE oX).1 (aE oX).2) ?_
 refine au rfl (js rfl) ?_
 refine au rfl (cE rfl (((ck.comp (aS.idx (L:=az) (m:=32) (k:=12) ((Int.toNat bn.1)) (aE oX).2 rfl)).comp bM).int f0)) ?_
 obtain ⟨j4,nq,h⟩:=bz h
 refine SL 7 rf ?_
 refine au rfl (bg rfl (aP.iff.1 ((aB.c0 aK).get f0)) (bw _ _)) ?_
 refine au rfl (ay rfl) ?_
 refine CV (aT nq) rf rf ?_
 refine SL 2 rf ?_
 refine fL h rf (fun hc h=>?_) fun hc h=>?_
 ·
  refine SC 8 rf ?_
  have h:=sj h; subst h
  exact RV rf (rt rf rn) rf
 ·
  refine SC 8 rf ?_
  have h:=sj h; subst h
  exact RV rf (rt rf rn) rf
def bX (n:Nat) (a0:ai) (a1:Int):Option (aX × Int):=
 bd (aJ n a0.book.gV a1) fun bn =>
 cn ((!bn)) (
 lt ({ Up:=0,bJ:=0,E:=dj,Cells:=(fun _=>0) }:aX) fun cD =>
 some (cD,4)) (
 bd (bh n a1) fun dk =>
 gu (cV dk.1 32) <|
 lt ((a0.regions (Int.toNat dk.1)):aX) fun eC =>
 bd (dJ n a0 a1) fun iW =>
 lt ({ eC with Up:=iW }:aX) fun gF =>
 some (gF,0))
theorem dO {n a0 a1 r K} [bL K] {ep} (f0:(ag).rep K ep a0) (h:bX n a0 a1 = some r):tv Try.prog 39 [A ep, .int .u32 a1] K (fun J v=>∃u0,v = (.tuple #[A u0, .int .i64 r.2])∧(az).rep (fun w=>K w∧J w) u0 (r.1)):=by
 unfold bX at h
 refine fo Try.func39 (by kernel_rfl) rfl Try.ntmps39 rfl fun cx _ hro cX hpre=>?_
 refine SC 2 rf ?_
 refine W1 rf (cO rfl) fun b2=>?_
 refine W1 rf (bG (hz:=(⟨by kernel_rfl⟩ : cy Try.prog 74 cB))) fun b4=>?_
 obtain ⟨bn,dm,h⟩:=bz h
 refine SL 8 rf ?_
 refine au rfl (bg rfl (aP.iff.1 ((aB.c0 aK).get f0)) (bw _ _)) ?_
 refine au rfl (ay rfl) ?_
 refine CV (aT dm) rf rf ?_
 refine SL 3 rf ?_
 refine fL h rf (fun hc h=>?_) fun hc h=>?_
 ·
  obtain ⟨cD,lT,h⟩:=cW h
  refine SC 2 rf ?_
  obtain ⟨DS,JC,f24⟩ : ∃cc,(((LI .u32).enc 0)++(((LI .i64).enc 0)++(eW++((LA (LI .u32) 8).enc (fun _=>0))))) = cc∧(az).rep (Hs []) cc cD:=⟨_,rfl,by rw [lT]; exact ⟨_,_,rfl,fl,⟨_,_,rfl,fl,⟨_,_,rfl,fW,fl⟩⟩⟩⟩
  refine au rfl (iA (cs:=DS) rfl (by rw [← JC]; rfl)) ?_
  refine ST (C:=(Hs [])) cD (aS.id (L:=az)) cA (mo f24) rf rf rf rf rf fun Gv f26=>?_
  refine SL 5 rf ?_
  have h:=sj h; subst h
  exact pG [] rf rf (ra rf (aY.len _ f26) (rt rf rn)) ⟨_,rfl,(mo f26)⟩
 ·
  obtain ⟨dk,tW,h⟩:=bz h
  refine SC 5 rf ?_
  refine CV (bU tW) rf rf ?_
  obtain ⟨Cw,h⟩:=dZ h
  obtain ⟨eC,tT,h⟩:=cW h
  refine SL 11 rf ?_
  refine au rfl (gp (m:=(Int.toNat dk.1)) rfl rfl (aE Cw).1 (aE Cw).2) ?_
  obtain ⟨Gt,CL,f31⟩:=xl ((ck.comp (aS.idx (L:=az) (m:=32) (k:=12) ((Int.toNat dk.1)) (aE Cw).2 rfl)).get f0)
  refine au rfl (bg rfl CL (aY.len _ f31)) ?_
  refine W1 rf (bG (hz:=(⟨by kernel_rfl⟩ : cy Try.prog 74 cB))) fun b8=>?_
  refine ST (C:=K) eC (aS.id (L:=az)) cA (mo f31) tT rf rf rf rf fun Af f34=>?_
  obtain ⟨iW,qX,h⟩:=bz h
  obtain ⟨gF,ke,h⟩:=cW h
  refine SL 4 rf ?_
  refine au rfl (ak rfl (aY.len _ f0)) ?_
  refine au rfl (ay rfl) ?_
  refine CV (jX (K:=K) (mo f0) qX) rf rf ?_
  refine au rfl (aW rfl) ?_
  refine ST (C:=K) gF bM (mo f34) fl ke rf rf rf rf fun M1 f38=>?_
  refine SL 4 rf ?_
  refine au rfl (ak rfl (aY.len _ f38)) ?_
  refine ST (C:=K) gF (aS.id (L:=az)) cA (mo f38) rf rf rf rf rf fun M0 f40=>?_
  refine SL 4 rf ?_
  have h:=sj h; subst h
  exact pG [] rf rf (ra rf (aY.len _ f40) (rt rf rn)) ⟨_,rfl,(mo f40)⟩
def dD (n:Nat) (a0:ae) (a1:Int):Option (ae × Int):=
 bd (bp n a0.B a1) fun bn =>
 cn (decide (bn < 0)) (
 some (a0,4)) (
 bd (gy n a0.B a1) fun nJ =>
 lt ({ a0 with B:=nJ.1 }:ae) fun fJ =>
 lt ({ Up:=0,bJ:=0,E:=bF,Cells:=(fun _=>0) }:bq) fun dF =>
 gu (cV bn 32) <|
 lt ({ fJ with R:=(dx fJ.R (Int.toNat bn) dF) }:ae) fun kB =>
 cP (fun A5 (jF:Int) (mY:ae) =>
 cn (decide (jF < 32)) (
 gu (cV jF 32) <|
 cn ((((mY.R (Int.toNat jF)).Up) == a1)) (
 gu (cV jF 32) <|
 lt ({ mY with R:=(dx mY.R (Int.toNat jF) ({ (mY.R (Int.toNat jF)) with Up:=0 })) }:ae) fun uU =>
 A5 (wr .i64 (jF + 1)) uU) (
 A5 (wr .i64 (jF + 1)) mY)) (
 some (mY,0))) n 0 kB)
def cM (n:Nat) (a0:ae) (a1:Int) (a2:Int):Option (ae × Int × Int):=
 cl ((a1 != 0) == true) (bu n a0 a1) default fun bn =>
 cn (((a1 != 0) && (!bn))) (
 some (a0,0,4)) (
 cn ((decide (a2 < 0) || decide (64 < a2))) (
 some (a0,0,2)) (
 bd (fX n a0.B) fun dk =>
 cn ((dk.2 == 0)) (
 some (a0,0,7)) (
 lt ({ a0 with B:=dk.1 }:ae) fun eC =>
 bd (bp n dk.1 dk.2) fun iW =>
 lt ({ Up:=a1,bJ:=a2,E:=bF,Cells:=(fun _=>0) }:bq) fun gF =>
 gu (cV iW 32) <|
 lt ({ eC with R:=(dx eC.R (Int.toNat iW) gF) }:ae) fun iP =>
 some (iP,dk.2,0))))
def bE (n:Nat) (a0:ae) (a1:Int) (a2:Int):Option Bool:=
 dz (fun tP (cD:Int) =>
 cn ((cD != 0)) (
 bd (bp n a0.B cD) fun fJ =>
 gu (cV fJ 32) <|
 cn ((((a0.R (Int.toNat fJ)).Up) == a1)) (
 some (a1 != 0)) (
 tP ((a0.R (Int.toNat fJ)).Up))) (
 some false)) n a2
def eH (n:Nat) (a0:ae) (a1:Int) (a2:Int):Option (ae × Int):=
 bd (bu n a0 a1) fun bn =>
 cl (((!bn) == false) && ((a2 != 0) == true)) (bu n a0 a2) default fun cD =>
 cn (((!bn) || ((a2 != 0) && (!cD)))) (
 some (a0,4)) (
 cl (((a2 != 0) == true) && ((a2 == a1) == false)) (bE n a0 a1 a2) default fun fJ =>
 cn (((a2 != 0) && ((a2 == a1) || fJ))) (
 some (a0,12)) (
 bd (bp n a0.B a1) fun bN =>
 gu (cV bN 32) <|
 lt ({ a0 with R:=(dx a0.R (Int.toNat bN) ({ (a0.R (Int.toNat bN)) with Up:=a2 })) }:ae) fun eC =>
 some (eC,0)))
def fm (n:Nat) (a0:ae) (a1:Int) (a2:bq):Option (ae × Int):=
 bd (bp n a0.B a1) fun bn =>
 cn (decide (bn < 0)) (
 some (a0,4)) (
 cl ((decide (a2.bJ < 0) || decide (64 < a2.bJ)) == false) (cR n a2.E) default fun cU =>
 cn (((decide (a2.bJ < 0) || decide (64 < a2.bJ)) || (!cU))) (
 some (a0,2)) (
 gu (cV bn 32) <|
 lt ({ a2 with Up:=(a0.R (Int.toNat bn)).Up }:bq) fun eC =>
 gu (cV bn 32) <|
 lt ({ a0 with R:=(dx a0.R (Int.toNat bn) eC) }:ae) fun gF =>
 some (gF,0)))
def cQ (n:Nat) (a0:ai) (a1:Int):Option (ai × Int):=
 bd (fb n a0.book.gV a1) fun bn =>
 cn ((!bn.2)) (
 some (a0,4)) (
 lt ({ a0 with book:={ a0.book with gV:=bn.1 } }:ai) fun nJ =>
 bd (bh n a1) fun dk =>
 lt ({ Up:=0,bJ:=0,E:=dj,Cells:=(fun _=>0) }:aX) fun dF =>
 gu (cV dk.1 32) <|
 lt ({ nJ with regions:=(dx nJ.regions (Int.toNat dk.1) dF) }:ai) fun kB =>
 some (kB,0))
theorem l6 {n a0 a1 r K} [bL K] {ep} (f0:(ag).rep K ep a0) (h:cQ n a0 a1 = some r):tv Try.prog 33 [A ep, .int .u32 a1] K (fun J v=>∃u0,v = (.tuple #[A u0, .int .i64 r.2])∧(ag).rep (fun w=>K w∧J w) u0 (r.1)):=by
 unfold cQ at h
 refine fo Try.func33 (by kernel_rfl) rfl Try.ntmps33 rfl fun cx _ hro cX hpre=>?_
 refine SC 2 rf ?_
 refine W1 rf (cO rfl) fun b2=>?_
 refine W1 rf (bG (hz:=(⟨by kernel_rfl⟩ : cy Try.prog 77 aH))) fun b4=>?_
 obtain ⟨bn,dm,h⟩:=bz h
 refine SL 7 rf ?_
 refine au rfl (bg rfl (aP.iff.1 ((aB.c0 aK).get f0)) (bw _ _)) ?_
 refine au rfl (ay rfl) ?_
 refine CV (l7 dm) rf rf ?_
 refine SL 3 rf ?_
 refine W1 rf (cJ (L:=av) (z:=fu) ⟨by kernel_rfl⟩) fun b6=>?_
 refine W0 (dA (M:=av) (aS.id (L:=av)) bn.1 bn.1 rfl rfl rfl rfl rfl) ?_
 refine SL 10 rf ?_
 refine fL h rf (fun hc h=>?_) fun hc h=>?_
 ·
  refine SC 2 rf ?_
  refine au rfl (ak rfl (aY.len _ f0)) ?_
  refine ST (C:=K) a0 (aS.id (L:=ag)) aD (mo f0) rf rf rf rf rf fun J7 f23=>?_
  refine SL 5 rf ?_
  have h:=sj h; subst h
  exact pG [] rf rf (ra rf (aY.len _ f23) (rt rf rn)) ⟨_,rfl,(mo f23)⟩
 ·
  obtain ⟨nJ,qY,h⟩:=cW h
  refine SC 4 rf ?_
  refine au rfl (eA (M:=av) (aS.id (L:=av)) rfl rfl) ?_
  refine SL 2 rf ?_
  refine ST (C:=K) nJ (aB.c0 aK) (mo f0) fl qY rf rf rf rf fun C9 f27=>?_
  obtain ⟨dk,tW,h⟩:=bz h
  refine SL 5 rf ?_
  refine CV (bU tW) rf rf ?_
  obtain ⟨dF,tV,h⟩:=cW h
  obtain ⟨Cv,h⟩:=dZ h
  obtain ⟨kB,tS,h⟩:=cW h
  refine SL 10 rf ?_
  obtain ⟨Gt,CL,f31⟩ : ∃cc,(((LI .u32).enc 0)++(((LI .i64).enc 0)++(eW++((LA (LI .u32) 8).enc (fun _=>0))))) = cc∧(az).rep (Hs []) cc dF:=⟨_,rfl,by rw [tV]; exact ⟨_,_,rfl,fl,⟨_,_,rfl,fl,⟨_,_,rfl,fW,fl⟩⟩⟩⟩
  refine au rfl (iA (cs:=Gt) rfl (by rw [← CL]; rfl)) ?_
  refine au rfl (aW rfl) ?_
  refine au rfl (gp (m:=(Int.toNat dk.1)) rfl rfl (aE Cv).1 (aE Cv).2) ?_
  refine ST (C:=K) kB (ck.comp (aS.idx (L:=az) (m:=32) (k:=12) ((Int.toNat dk.1)) (aE Cv).2 rfl)) (mo f27) (mo f31) tS rf rf rf rf fun Bm f35=>?_
  refine SL 4 rf ?_
  refine au rfl (ak rfl (aY.len _ f35)) ?_
  refine ST (C:=K) kB (aS.id (L:=ag)) aD (mo f35) rf rf rf rf rf fun K3 f37=>?_
  refine SL 4 rf ?_
  have h:=sj h; subst h
  exact pG [] rf rf (ra rf (aY.len _ f37) (rt rf rn)) ⟨_,rfl,(mo f37)⟩
def fO (n:Nat) (a0:Int):Option Bool:=
 some (decide (0 ≤ a0) && decide (a0 ≤ 64))
theorem lF {n a0 r}  (h:fO n a0 = some r):za Try.prog 102 [.int .i64 a0] (.bool r):=by
 unfold fO at h
 refine fF Try.func102 (by kernel_rfl) rfl Try.ntmps102 rfl (fun cx cX hpre hro=>?_)
 refine SC 10 rf ?_
 refine GB rf rf rf (fun hb=>ay rfl) ?_
 refine GB rf rf rf (fun hb=>rN (cC rfl hb) rfl) ?_
 refine au rfl (fz rfl rfl) ?_
 refine SL 4 rf ?_
 have h:=sj h; subst h
 exact RV rf (rt rf rn) rf
def di (n:Nat) (a0:ai) (a1:Int) (a2:Int):Option (ai × Int × Int):=
 cl ((a1 != 0) == true) (aJ n a0.book.gV a1) default fun bn =>
 cn (((a1 != 0) && (!bn))) (
 some (a0,0,4)) (
 bd (fO n a2) fun nJ =>
 cn ((!nJ)) (
 some (a0,0,2)) (
 bd (dM n a0.book.gV) fun dF =>
 cn ((!dF.2.2)) (
 some (a0,0,7)) (
 lt ({ a0 with book:={ a0.book with gV:=dF.1 } }:ai) fun kB =>
 bd (bh n dF.2.1) fun gF =>
 lt ({ Up:=a1,bJ:=a2,E:=dj,Cells:=(fun _=>0) }:aX) fun fB =>
 gu (cV gF.1 32) <|
 lt ({ kB with regions:=(dx kB.regions (Int.toNat gF.1) fB) }:ai) fun dg =>
 some (dg,dF.2.1,0))))
theorem mL {n a0 a1 a2 r K} [bL K] {ep} (f0:(ag).rep K ep a0) (h:di n a0 a1 a2 = some r):tv Try.prog 37 [A ep, .int .u32 a1, .int .i64 a2] K (fun J v=>∃u0,v = (.tuple #[A u0, .int .u32 r.2.1, .int .i64 r.2.2])∧(ag).rep (fun w=>K w∧J w) u0 (r.1)):=by
 unfold di at h
 refine fo Try.func37 (by kernel_rfl) rfl Try.ntmps37 rfl fun cx _ hro cX hpre=>?_
 refine SC 2 rf ?_
 refine W1 rf (cO rfl) fun b3=>?_
 refine W1 rf (bG (hz:=(⟨by kernel_rfl⟩ : cy Try.prog 77 aH))) fun b6=>?_
 obtain ⟨bn,dm,_,h⟩:=iU h
 refine SL 11 rf ?_
 refine GB rf rf rf (fun hb=>aW rfl) ?_
 refine GB rf rf rf (fun hb=>aW (cC rfl hb)) ?_
 refine GB rf rf rf (fun hb=>bg (cC rfl hb) (aP.iff.1 ((aB.c0 aK).get f0)) (bw _ _)) ?_
 refine GB rf rf rf (fun hb=>ay rfl) ?_
 refine GB rf rf rf (fun hb=>c9 (aT (dm hb)) (aL (cC rfl hb) (aL (cC rfl hb) rfl)) (fun _ _ _=>trivial)) ?_
 refine GB rf rf rf (fun hb=>jI (cC rfl hb)) ?_
 refine au rfl (fz rfl rfl) ?_
 refine SL 3 rf ?_
 refine fL h rf (fun hc h=>?_) fun hc h=>?_
 ·
  refine SC 2 rf ?_
  refine au rfl (ak rfl (aY.len _ f0)) ?_
  refine ST (C:=K) a0 (aS.id (L:=ag)) aD (mo f0) rf rf rf rf rf fun J7 f23=>?_
  refine SL 7 rf ?_
  have h:=sj h; subst h
  exact pG [] rf rf (ra rf (aY.len _ f23) (rt rf (rt rf rn))) ⟨_,rfl,(mo f23)⟩
 ·
  obtain ⟨nJ,qY,h⟩:=bz h
  refine SC 3 rf ?_
  refine CV (lF qY) rf rf ?_
  refine SL 4 rf ?_
  refine fL h rf (fun hc h=>?_) fun hc h=>?_
  ·
   refine SC 2 rf ?_
   refine au rfl (ak rfl (aY.len _ f0)) ?_
   refine ST (C:=K) a0 (aS.id (L:=ag)) aD (mo f0) rf rf rf rf rf fun C9 f27=>?_
   refine SL 7 rf ?_
   have h:=sj h; subst h
   exact pG [] rf rf (ra rf (aY.len _ f27) (rt rf (rt rf rn))) ⟨_,rfl,(mo f27)⟩
  ·
   obtain ⟨dF,tV,h⟩:=bz h
   refine SC 7 rf ?_
   refine au rfl (bg rfl (aP.iff.1 ((aB.c0 aK).get f0)) (bw _ _)) ?_
   refine CV (lC tV) rf rf ?_
   refine SL 4 rf ?_
   refine W1 rf (cJ (L:=av) (z:=fu) ⟨by kernel_rfl⟩) fun b9=>?_
   refine W0 (dA (M:=av) (aS.id (L:=av)) dF.1 dF.1 rfl rfl rfl rfl rfl) ?_
   refine SL 11 rf ?_
   refine fL h rf (fun hc h=>?_) fun hc h=>?_
   ·
    refine SC 2 rf ?_
    refine au rfl (ak rfl (aY.len _ f0)) ?_
    refine ST (C:=K) a0 (aS.id (L:=ag)) aD (mo f0) rf rf rf rf rf fun Gt f31=>?_
    refine SL 6 rf ?_
    have h:=sj h; subst h
    exact pG [] rf rf (ra rf (aY.len _ f31) (rt rf (rt rf rn))) ⟨_,rfl,(mo f31)⟩
   ·
    obtain ⟨kB,tS,h⟩:=cW h
    refine SC 4 rf ?_
    refine au rfl (eA (M:=av) (aS.id (L:=av)) rfl rfl) ?_
    refine SL 2 rf ?_
    refine ST (C:=K) kB (aB.c0 aK) (mo f0) fl tS rf rf rf rf fun Bm f35=>?_
    obtain ⟨gF,ke,h⟩:=bz h
    refine SL 5 rf ?_
    refine CV (bU ke) rf rf ?_
    obtain ⟨fB,mD,h⟩:=cW h
    obtain ⟨nu,h⟩:=dZ h
    obtain ⟨dg,sG,h⟩:=cW h
    refine SL 12 rf ?_
    obtain ⟨K2,JA,f39⟩ : ∃cc,(((LI .u32).enc a1)++(((LI .i64).enc a2)++(eW++((LA (LI .u32) 8).enc (fun _=>0))))) = cc∧(az).rep (Hs []) cc fB:=⟨_,rfl,by rw [mD]; exact ⟨_,_,rfl,fl,⟨_,_,rfl,fl,⟨_,_,rfl,fW,fl⟩⟩⟩⟩
    refine au rfl (iA (cs:=K2) rfl (by rw [← JA]; rfl)) ?_
    refine au rfl (aW rfl) ?_
    refine au rfl (gp (m:=(Int.toNat gF.1)) rfl rfl (aE nu).1 (aE nu).2) ?_
    refine ST (C:=K) dg (ck.comp (aS.idx (L:=az) (m:=32) (k:=12) ((Int.toNat gF.1)) (aE nu).2 rfl)) (mo f35) (mo f39) sG rf rf rf rf fun wO f43=>?_
    refine SL 4 rf ?_
    refine au rfl (ak rfl (aY.len _ f43)) ?_
    refine au rfl (ay rfl) ?_
    refine ST (C:=K) dg (aS.id (L:=ag)) aD (mo f43) rf rf rf rf rf fun NL f45=>?_
    refine SL 5 rf ?_
    have h:=sj h; subst h
    exact pG [] rf rf (ra rf (aY.len _ f45) (rt rf (rt rf rn))) ⟨_,rfl,(mo f45)⟩
def cH (n:Nat) (a0:ai) (a1:Int) (a2:Int):Option (ai × Int):=
 bd (aJ n a0.book.gV a1) fun bn =>
 cl (((!bn) == false) && ((a2 != 0) == true)) (aJ n a0.book.gV a2) default fun cD =>
 cn (((!bn) || ((a2 != 0) && (!cD)))) (
 some (a0,4)) (
 dz (fun zM (cU:Int) =>
 cn ((cU != 0)) (
 cn ((cU == a1)) (
 some (a0,12)) (
 bd (dJ n a0 cU) fun hJ =>
 zM hJ)) (
 bd (bh n a1) fun iW =>
 gu (cV iW.1 32) <|
 lt ({ a0 with regions:=(dx a0.regions (Int.toNat iW.1) ({ (a0.regions (Int.toNat iW.1)) with Up:=a2 })) }:ai) fun fB =>
 some (fB,0))) n a2)
theorem iN {n a0 a1 a2 r K} [bL K] {ep} (f0:(ag).rep K ep a0) (h:cH n a0 a1 a2 = some r):tv Try.prog 36 [A ep, .int .u32 a1, .int .u32 a2] K (fun J v=>∃u0,v = (.tuple #[A u0, .int .i64 r.2])∧(ag).rep (fun w=>K w∧J w) u0 (r.1)):=by
 unfold cH at h
 refine fo Try.func36 (by kernel_rfl) rfl Try.ntmps36 rfl fun cx _ hro cX hpre=>?_
 refine SC 2 rf ?_
 refine W1 rf (cO rfl) fun b3=>?_
 refine W1 rf (bG (hz:=(⟨by kernel_rfl⟩ : cy Try.prog 77 aH))) fun b6=>?_
 obtain ⟨bn,dm,h⟩:=bz h
 obtain ⟨cD,lT,_,h⟩:=iU h
 refine SL 8 rf ?_
 refine au rfl (bg rfl (aP.iff.1 ((aB.c0 aK).get f0)) (bw _ _)) ?_
 refine au rfl (ay rfl) ?_
 refine CV (aT dm) rf rf ?_
 refine SL 2 rf ?_
 refine GB rf rf rf (fun hb=>ay rfl) ?_
 refine GB rf rf rf (fun hb=>l9 (cC rfl hb) rfl) ?_
 refine GB rf rf rf (fun hb=>ay (cC rfl hb)) ?_
 refine uJ (wD rfl rfl) rfl (fun hb=>aW rfl) ?_
 refine uJ (wD rfl rfl) rfl (fun hb=>aW (cC rfl hb)) ?_
 refine uJ (wD rfl rfl) rfl (fun hb=>bg (cC rfl hb) (aP.iff.1 ((aB.c0 aK).get f0)) (bw _ _)) ?_
 refine uJ (wD rfl rfl) rfl (fun hb=>ay rfl) ?_
 refine uJ (wD rfl rfl) rfl (fun hb=>c9 (aT (lT hb)) (aL (cC rfl hb) (aL (cC rfl hb) rfl)) (fun _ _ _=>trivial)) ?_
 refine uJ (wD rfl rfl) rfl (fun hb=>jI (cC rfl hb)) ?_
 refine GB rf rf rf (fun hb=>fz (cC rfl hb) (JK rfl hb)) ?_
 refine au rfl (gl rfl rfl) ?_
 refine SL 2 rf ?_
 refine fL h rf (fun hc h=>?_) fun hc h=>?_
 ·
  refine SC 2 rf ?_
  refine au rfl (ak rfl (aY.len _ f0)) ?_
  refine ST (C:=K) a0 (aS.id (L:=ag)) aD (mo f0) rf rf rf rf rf fun DS f24=>?_
  refine SL 5 rf ?_
  have h:=sj h; subst h
  exact pG [] rf rf (ra rf (aY.len _ f24) (rt rf rn)) ⟨_,rfl,(mo f24)⟩
 ·
  refine SC 10 rf ?_
  obtain ⟨Ie,FG,h⟩:=mB h
  refine LO (β:=Int) [1,2,3,6] [0,1] (fun (EJ,cU)=>[(8, .int .u32 cU)]) (fun (EJ,cU)=>[.cells b6 77 aH, .cells b3 77 ep]) (fun (EJ,cU)=>dz Ie EJ cU = some r) (n,a2) h rf rf rf ?_
  rintro EJ cU h
  replace h:=mA FG h; obtain ⟨EJ,rfl,h⟩:=h
  refine SC 7 rf ?_
  refine fL h rf (fun hc h=>?_) fun hc h=>?_
  ·
   refine SC 11 rf ?_
   refine fL h rf (fun hc h=>?_) fun hc h=>?_
   ·
    refine SC 2 rf ?_
    refine au rfl (ak rfl (aY.len _ f0)) ?_
    refine ST (C:=K) a0 (aS.id (L:=ag)) aD (mo f0) rf rf rf rf rf fun M3 f32=>?_
    refine SL 9 rf ?_
    have h:=sj h; subst h
    exact pG [] rf rf (ra rf (aY.len _ f32) (rt rf rn)) ⟨_,rfl,(mo f32)⟩
   ·
    obtain ⟨hJ,oS,h⟩:=bz h
    refine SC 4 rf ?_
    refine au rfl (ak rfl (aY.len _ f0)) ?_
    refine au rfl (ay rfl) ?_
    refine CV (jX (K:=K) (mo f0) oS) rf rf ?_
    refine SL 2 rf ?_
    exact LN [0,1] hJ h rf rf rf
  ·
   obtain ⟨iW,qX,h⟩:=bz h
   refine SC 8 rf ?_
   refine CV (bU qX) rf rf ?_
   obtain ⟨sN,h⟩:=dZ h
   obtain ⟨fB,mD,h⟩:=cW h
   refine SL 12 rf ?_
   refine au rfl (gp (m:=(Int.toNat iW.1)) rfl rfl (aE sN).1 (aE sN).2) ?_
   refine au rfl (js rfl) ?_
   refine ST (C:=K) fB ((ck.comp (aS.idx (L:=az) (m:=32) (k:=12) ((Int.toNat iW.1)) (aE sN).2 rfl)).comp bM) (mo f0) fl mD rf rf rf rf fun K2 f39=>?_
   refine SL 4 rf ?_
   refine au rfl (ak rfl (aY.len _ f39)) ?_
   refine ST (C:=K) fB (aS.id (L:=ag)) aD (mo f39) rf rf rf rf rf fun NN f41=>?_
   refine SL 4 rf ?_
   have h:=sj h; subst h
   exact pG [] rf rf (ra rf (aY.len _ f41) (rt rf rn)) ⟨_,rfl,(mo f41)⟩
def cK (n:Nat) (a0:ai) (a1:Int) (a2:aX):Option (ai × Int):=
 bd (aJ n a0.book.gV a1) fun bn =>
 cn ((!bn)) (
 some (a0,4)) (
 bd (fO n a2.bJ) fun nJ =>
 cl ((!nJ) == false) (dN n a2.E) default fun dk =>
 cn (((!nJ) || (!dk))) (
 some (a0,2)) (
 bd (bh n a1) fun eC =>
 gu (cV eC.1 32) <|
 lt ({ a2 with Up:=(a0.regions (Int.toNat eC.1)).Up }:aX) fun hJ =>
 gu (cV eC.1 32) <|
 lt ({ a0 with regions:=(dx a0.regions (Int.toNat eC.1) hJ) }:ai) fun fe =>
 some (fe,0)))
theorem jE {n a0 a1 a2 r K} [bL K] {ep} (f0:(ag).rep K ep a0) {ux:List Value} (f2:(az).rep K ux a2) (h:cK n a0 a1 a2 = some r):tv Try.prog 34 [A ep, .int .u32 a1,A ux] K (fun J v=>∃u0,v = (.tuple #[A u0, .int .i64 r.2])∧(ag).rep (fun w=>K w∧J w) u0 (r.1)):=by
 unfold cK at h
 refine fo Try.func34 (by kernel_rfl) rfl Try.ntmps34 rfl fun cx _ hro cX hpre=>?_
 refine SC 2 rf ?_
 refine W1 rf (cO rfl) fun b3=>?_
 refine W1 rf (cO rfl) fun b5=>?_
 refine W1 rf (bG (hz:=(⟨by kernel_rfl⟩ : cy Try.prog 77 aH))) fun b6=>?_
 obtain ⟨bn,dm,h⟩:=bz h
 refine SL 9 rf ?_
 refine au rfl (bg rfl (aP.iff.1 ((aB.c0 aK).get f0)) (bw _ _)) ?_
 refine au rfl (ay rfl) ?_
 refine CV (aT dm) rf rf ?_
 refine SL 4 rf ?_
 refine fL h rf (fun hc h=>?_) fun hc h=>?_
 ·
  refine SC 2 rf ?_
  refine au rfl (ak rfl (aY.len _ f0)) ?_
  refine ST (C:=K) a0 (aS.id (L:=ag)) aD (mo f0) rf rf rf rf rf fun J7 f23=>?_
  refine SL 6 rf ?_
  have h:=sj h; subst h
  exact pG [] rf rf (ra rf (aY.len _ f23) (rt rf rn)) ⟨_,rfl,(mo f23)⟩
 ·
  obtain ⟨nJ,qY,h⟩:=bz h
  obtain ⟨dk,tW,_,h⟩:=iU h
  refine SC 3 rf ?_
  refine au rfl (cE rfl (k6.int f2)) ?_
  refine CV (lF qY) rf rf ?_
  refine SL 2 rf ?_
  refine GB rf rf rf (fun hb=>aW rfl) ?_
  obtain ⟨C9,JB,f27⟩:=xl (nG.get f2)
  refine GB rf rf rf (fun hb=>bg (cC rfl hb) JB (aY.len _ f27)) ?_
  refine GB rf rf rf (fun hb=>c9 (lD (K:=K) (mo f27) (tW hb)) (aL (cC rfl hb) rfl) kn) ?_
  refine GB rf rf rf (fun hb=>jI (cC rfl hb)) ?_
  refine au rfl (gl rfl rfl) ?_
  refine SL 3 rf ?_
  refine fL h rf (fun hc h=>?_) fun hc h=>?_
  ·
   refine SC 2 rf ?_
   refine au rfl (ak rfl (aY.len _ f0)) ?_
   refine ST (C:=K) a0 (aS.id (L:=ag)) aD (mo f0) rf rf rf rf rf fun NP f30=>?_
   refine SL 6 rf ?_
   have h:=sj h; subst h
   exact pG [] rf rf (ra rf (aY.len _ f30) (rt rf rn)) ⟨_,rfl,(mo f30)⟩
  ·
   obtain ⟨eC,tT,h⟩:=bz h
   refine SC 6 rf ?_
   refine CV (bU tT) rf rf ?_
   obtain ⟨uf,h⟩:=dZ h
   obtain ⟨hJ,oS,h⟩:=cW h
   refine SL 11 rf ?_
   refine au rfl (gp (m:=(Int.toNat eC.1)) rfl rfl (aE uf).1 (aE uf).2) ?_
   refine au rfl (js rfl) ?_
   refine au rfl (cE rfl (((ck.comp (aS.idx (L:=az) (m:=32) (k:=12) ((Int.toNat eC.1)) (aE uf).2 rfl)).comp bM).int f0)) ?_
   refine au rfl (aW rfl) ?_
   refine ST (C:=K) hJ bM (mo f2) fl oS rf rf rf rf fun NO f36=>?_
   obtain ⟨sM,h⟩:=dZ h
   obtain ⟨fe,sH,h⟩:=cW h
   refine SL 5 rf ?_
   refine au rfl (ak rfl (aY.len _ f36)) ?_
   refine au rfl (aW rfl) ?_
   refine au rfl (gp (m:=(Int.toNat eC.1)) rfl rfl (aE sM).1 (aE sM).2) ?_
   refine ST (C:=K) fe (ck.comp (aS.idx (L:=az) (m:=32) (k:=12) ((Int.toNat eC.1)) (aE sM).2 rfl)) (mo f0) (mo f36) sH rf rf rf rf fun M0 f40=>?_
   refine SL 4 rf ?_
   refine au rfl (ak rfl (aY.len _ f40)) ?_
   refine ST (C:=K) fe (aS.id (L:=ag)) aD (mo f40) rf rf rf rf rf fun NM f42=>?_
   refine SL 4 rf ?_
   have h:=sj h; subst h
   exact pG [] rf rf (ra rf (aY.len _ f42) (rt rf rn)) ⟨_,rfl,(mo f42)⟩
structure DM where
 Do:Int
 A:Int
 B:Int
 R:bq
def iJ (n:Nat) (a0:ae):Option (List Int):=
 cP (fun xH (cU:(List Int)) (bN:Int) =>
 cn (decide (bN < 32)) (
 gu (cV bN 32) <|
 cn (((a0.B.Is (Int.toNat bN)) == 1)) (
 bd (gn n a0.B bN) fun iW =>
 gu (jH cU.length 1 8) <|
 lt (cU++([iW]):List Int) fun fB =>
 xH fB (wr .i64 (bN + 1))) (
 xH cU (wr .i64 (bN + 1)))) (
 some cU)) n ([]) 0
def iI (n:Nat) (a0:ae) (a1:Int):Option (bq × Int):=
 bd (bp n a0.B a1) fun bn =>
 cn (decide (bn < 0)) (
 lt ({ Up:=0,bJ:=0,E:=bF,Cells:=(fun _=>0) }:bq) fun cD =>
 some (cD,4)) (
 gu (cV bn 32) <|
 lt ((a0.R (Int.toNat bn)):bq) fun fC =>
 some (fC,0))
def dI (n:Nat) (a0:j5):Option (List Int):=
 bd (er n a0.gV) fun bn =>
 some bn
theorem gh {n a0 r}  (h:dI n a0 = some r):Bw.Fn (α:=Value) Try.prog 38 [.agg (gk.enc a0).toArray] (fun _=>True) [] (fun v=>jw v r.length) (fun v=>v) (fun v=>[Row v 69 1 (LI .u32) r]):=by
 unfold dI at h
 refine fF Try.func38 (by kernel_rfl) rfl Try.ntmps38 rfl (fun cx cX hpre hro=>?_)
 refine SC 2 rf ?_
 refine W1 rf (fk gk a0 rfl rfl) fun b1=>?_
 obtain ⟨bn,dm,h⟩:=bz h
 refine SL 6 rf ?_
 refine au rfl (eA (M:=av) aK rfl rfl) ?_
 refine ef rfl (fI (kU dm) rfl (fun _ _ _=>trivial)) (fun G6 vW=>?_)
 dsimp only [List.cons_append,List.nil_append]
 refine SL 4 rf ?_
 have h:=sj h; subst h
 exact dL G6 rfl (.tmp rfl .nil) vW rfl (ks:=[0]) rfl (by decide)
end Go.Proofs.Ytmdpbdhkmfjlhaa
namespace Go.Proofs.Ytmdpbdhkmfjlhaa
open Go Go.Bw
end Go.Proofs.Ytmdpbdhkmfjlhaa
namespace Go.Proofs.Ytmdpbdhkmfjlhaa
open Go Go.Bw
theorem dU {w:ax} {h:Int} (hg:aQ w h = true):h < 4294967296:=xb (eE.1 hg).1
theorem qw (w:ax):aQ w 0 = false:=rfl
theorem fZ {w:ax} {h:Int} (hg:aO w h):0 < h:=by
  have:=hg.1
  rcases Int.lt_or_eq_of_le this with h1 | h1
  · exact h1
  · subst h1; have:=hg.2; rw [qw] at this; cases this
structure rR (p:aX) (x:bq):Prop where
  q:p.bJ = x.bJ
  e:p.E = ⟨x.E.bf.map kJ,x.E.ot⟩
  n:x.E.bf.length ≤ 80
  r:∀y ∈ x.E.bf.map kJ,y9 y.At∧y9 y.N
  c:∀i,i < 8→p.Cells i = x.Cells i
  c0:∀i,i < 8→0 ≤ x.Cells i∧x.Cells i ≤ 4294967295
theorem rR.Ej {p:aX} {x:bq} (h:rR p x) (u v:Int):rR { p with Up:=u } { x with Up:=v }:=⟨h.q,h.e,h.n,h.r,h.c,h.c0⟩
def uX (B:ax) (h:Int):Int:=if aQ B h = true then h else 0
structure eo (t:ai) (w:ae):Prop where
  book:RB t.book.gV w.B
  zn:∀i,i < 32→w.B.Is i = 1→rR (t.regions i) (w.R i)
  up:∀i,i < 32→w.B.Is i = 1→(w.R i).Up = uX w.B (t.regions i).Up
  old:∀i,i < 32→w.B.Is i = 1→(t.regions i).Up = 0∨nO w.B (t.regions i).Up
def La (w:ae) (ρ:Nat→Nat):Prop:=∀i,i < 32→w.B.Is i = 1→(w.R i).Up ≠ 0→ρ (bj (w.R i).Up) < ρ i
def fA (w:ae):Prop:=∃ρ:Nat→Nat,La w ρ
theorem eo.G7 {t:ai} {w:ae} (r:eo t w) {i:Nat} (hi:i < 32) (h1:w.B.Is i = 1):(w.R i).Up = 0∨aO w.B (w.R i).Up:=by
  rw [r.up i hi h1]
  unfold uX
  split
  · rename_i h
    rcases r.old i hi h1 with h2 | h2
    · exact .inl h2
    · exact .inr ⟨h2.1,h⟩
  · exact .inl rfl
theorem cw {w:ax} {x:Int} (h:aO w x):bj x < 32∧w.Is (bj x) = 1:=⟨iG x,(nw h.2).2.1⟩
theorem eo.DK {t:ai} {w:ae} (r:eo t w) {x:Int} (hx:aO w.B x):(w.R (bj x)).Up = 0∨aO w.B (w.R (bj x)).Up:=r.G7 (cw hx).1 (cw hx).2
theorem eY (h:Int):cV (fU h) 32 = true:=bT (cL h).1 (by have:=cL h; omega)
theorem wZ {n:Nat} {t:ai} {w:ae} (r:eo t w) {x:Int} (hx:aO w.B x):dJ n t x = some (w.R (bj x)).Up:=by
  unfold dJ
  obtain ⟨l1,l2⟩:=cw hx
  have ho:=r.old _ l1 l2
  have hu:0 ≤ (t.regions (bj x)).Up∧(t.regions (bj x)).Up < 4294967296:=by
    rcases ho with h | h
    · rw [h]; decide
    · exact ⟨h.1,xb h.2.1⟩
  rw [aq (jC hx.1 (dU hx.2)),aA (eY x)]
  show bd (aJ n t.book.gV (t.regions (bj x)).Up) _ = _
  rw [aq (jh r.book hu.1 hu.2),r.up _ l1 l2]
  unfold uX
  show cn (aQ w.B (t.regions (bj x)).Up) (some (t.regions (bj x)).Up) (some 0) = _
  cases hg:aQ w.B (t.regions (bj x)).Up with
  | true=>rw [aC rfl,if_pos rfl]
  | false=>rw [aj rfl,if_neg (by decide)]
def jG (t:ai) (w:ae) (h:Int):aX:={ t.regions (bj h) with Up:=(w.R (bj h)).Up }
def BQ:aX:={ Up:=0,bJ:=0,E:=dj,Cells:=(fun _=>0) }
theorem mH {n:Nat} {t:ai} {w:ae} (r:eo t w) {h:Int} (h0:0 ≤ h) (h1:h < 4294967296):bX n t h = some (if aQ w.B h = true then (jG t w h,0) else (BQ,4)):=by
  unfold bX
  rw [aq (jh r.book h0 h1)]
  cases hg:aQ w.B h with
  | false=>rfl
  | true =>
    rw [aj (b:=!true) rfl,aq (jC h0 h1),aA (eY h),lt_eq,aq (wZ r ⟨h0,hg⟩),lt_eq,if_pos rfl]; rfl
theorem tM {n:Nat} (hn:40 ≤ n) {t:ai} {w:ae} (r:eo t w) {h:Int} (hg:aO w.B h):iI n w h = some (w.R (bj h),0):=by
  unfold iI
  have hr:=cL h
  rw [aq (cG hn r.book hg.1),hg.2,if_pos rfl,aj (by simp; omega),aA (eY h),lt_eq]
  rfl
theorem bC {n:Nat} (hn:40 ≤ n) {t:ai} {w:ae} (r:eo t w) {h:Int} (h0:0 ≤ h):bu n w h = some (aQ w.B h):=by
  unfold bu
  have hr:=cL h
  rw [aq (cG hn r.book h0)]
  cases aQ w.B h with
  | false=>rfl
  | true=>rw [if_pos rfl]; simpa using hr.1
structure DA (t:ai) (w:ae) (t' : ai) (w' : ae) (who e:Int) (dr:Bool):Prop where
  rt:eo t' w'
  tt:fA w'
  kp:∀g,aO w.B g→¬ (g = who∧e = 0)→aO w'.B g∧(t'.regions (bj g)).bJ = (t.regions (bj g)).bJ∧(t'.regions (bj g)).E = (t.regions (bj g)).E∧(t'.regions (bj g)).Cells = (t.regions (bj g)).Cells ∧
    ((w'.R (bj g)).Up = (w.R (bj g)).Up∨(dr = true∧e = 0∧(w.R (bj g)).Up = who∧who ≠ 0∧(w'.R (bj g)).Up = 0))
theorem DA.same {t:ai} {w:ae} (r:eo t w) (tt:fA w) (who e:Int) (dr:Bool):DA t w t w who e dr:=⟨r,tt,fun _ hg _=>⟨hg,rfl,rfl,rfl, .inl rfl⟩⟩
theorem qH {b:aM} {w:ax} (r:RB b w) {h:Int} (h0:0 ≤ h) (x:Int):aO (wI w h) x↔aO w x∧x ≠ h:=v5 r h0 x
theorem BD {b:aM} {w:ax} (r:RB b w) {h u:Int} (hg:aO w h) (hu:0 ≤ u):uX (wI w h) u = if uX w u = h then 0 else uX w u:=by
  have hv:=qH r hg.1 u
  have hp:=fZ hg
  unfold uX
  cases h1:aQ w u with
  | false =>
    have:aQ (wI w h) u ≠ true:=fun h2=>by
      have:=(hv.1 ⟨hu,h2⟩).1.2; rw [h1] at this; cases this
    rw [if_neg this]; simp
  | true =>
    rw [if_pos rfl]
    by_cases e:u = h
    · rw [if_pos e,if_neg (fun h2=>(hv.1 ⟨hu,h2⟩).2 e)]
    · rw [if_neg e,if_pos (hv.2 ⟨⟨hu,h1⟩,e⟩).2]
theorem vH {n:Nat} (hn:40 ≤ n) (h:Int) (w:ae):∃w' : ae,cP (fun A5 (jF:Int) (mY:ae) =>
  cn (decide (jF < 32)) (
  gu (cV jF 32) <|
  cn ((((mY.R (Int.toNat jF)).Up) == h)) (
  gu (cV jF 32) <|
  lt ({ mY with R:=(dx mY.R (Int.toNat jF) ({ (mY.R (Int.toNat jF)) with Up:=0 })) }:ae) fun uU =>
  A5 (wr .i64 (jF + 1)) uU) (
  A5 (wr .i64 (jF + 1)) mY)) (
  some (mY,(0:Int)))) n 0 w = some (w',0)∧w'.B = w.B∧∀i,i < 32→w'.R i = if (w.R i).Up = h then { w.R i with Up:=0 } else w.R i:=by
  refine de (fun (i:Int) (v:ae)=>0 ≤ i∧i ≤ 32∧v.B = w.B∧∀j,v.R j = if j < i.toNat∧(w.R j).Up = h then { w.R j with Up:=0 } else w.R j) (fun i _=>(32 - i).toNat)
    (fun o=>∃w' : ae,o = some (w',0)∧w'.B = w.B∧∀i,i < 32→w'.R i = if (w.R i).Up = h then { w.R i with Up:=0 } else w.R i) ?_ n 0 w ⟨by omega,by omega,rfl,fun j=>by simp⟩ (by omega)
  rintro kk i v ⟨i0,i1,hb,hv⟩ ih
  by_cases c:i < 32
  · have hi:=hv i.toNat
    rw [if_neg (fun hh=>absurd hh.1 (Nat.lt_irrefl _))] at hi
    rw [aC (by simpa using c),aA (bT i0 (by omega)),hi,bK (x:=i + 1) (by omega) (by omega)]
    have e1:(i + 1).toNat = i.toNat + 1:=by omega
    by_cases hu:(w.R i.toNat).Up = h
    · rw [aC (by simpa using hu),aA (bT i0 (by omega)),lt_eq]
      refine ih _ _ ⟨by omega,by omega,hb,fun j=>?_⟩ (by omega)
      show dx v.R i.toNat _ j = _
      rw [bD]
      by_cases ej:j = i.toNat
      · subst ej; rw [if_pos rfl,if_pos ⟨by omega,hu⟩]
      · rw [if_neg ej,hv j]
        by_cases hj:(w.R j).Up = h
        · by_cases hl:j < i.toNat
          · rw [if_pos ⟨hl,hj⟩,if_pos ⟨by omega,hj⟩]
          · rw [if_neg (fun hh=>hl hh.1),if_neg (fun hh=>by omega)]
        · rw [if_neg (fun hh=>hj hh.2),if_neg (fun hh=>hj hh.2)]
    · rw [aj (by simpa using hu)]
      refine ih _ _ ⟨by omega,by omega,hb,fun j=>?_⟩ (by omega)
      rw [hv j]
      by_cases ej:j = i.toNat
      · subst ej; rw [if_neg (fun hh=>hu hh.2),if_neg (fun hh=>hu hh.2)]
      · by_cases hj:(w.R j).Up = h
        · by_cases hl:j < i.toNat
          · rw [if_pos ⟨hl,hj⟩,if_pos ⟨by omega,hj⟩]
          · rw [if_neg (fun hh=>hl hh.1),if_neg (fun hh=>by omega)]
        · rw [if_neg (fun hh=>hj hh.2),if_neg (fun hh=>hj hh.2)]
  · rw [aj (by simpa using c)]
    refine ⟨v,rfl,hb,fun j hj=>?_⟩
    rw [hv j]
    by_cases hu:(w.R j).Up = h
    · rw [if_pos ⟨by omega,hu⟩,if_pos hu]
    · rw [if_neg (fun hh=>hu hh.2),if_neg hu]
theorem Gj {n:Nat} (hn:40 ≤ n) {t:ai} {w:ae} (r:eo t w) (tt:fA w) {h:Int} (h0:0 ≤ h) (h1:h < 4294967296) :
    ∃t' w' e,cQ n t h = some (t',e)∧dD n w h = some (w',e)∧DA t w t' w' h e true:=by
  obtain ⟨b',e1,r'⟩:=zg (n:=n) r.book h0 h1
  cases hg:aQ w.B h with
  | false =>
    refine ⟨t,w,4,?_,?_, .same r tt _ _ _⟩
    · unfold cQ; rw [aq e1,hg]; rfl
    · unfold dD; rw [aq (cG hn r.book h0),hg]; rfl
  | true =>
    have wL:aO w.B h:=⟨h0,hg⟩
    obtain ⟨w',c1,c2,c3⟩:=vH (n:=n) hn h { B:=wI w.B h,R:=dx w.R (bj h) { Up:=0,bJ:=0,E:=bF,Cells:=(fun _=>0) } }
    have hpos:=fZ wL
    refine ⟨{ book:={ t.book with gV:=b' },regions:=dx t.regions (bj h) BQ },w',0,?_,?_,?_⟩
    · unfold cQ; rw [aq e1,hg,aj (b:=!true) rfl,lt_eq,aq (jC h0 h1),lt_eq,aA (eY h),lt_eq]; rfl
    · unfold dD
      have hr:=cL h
      rw [aq (cG hn r.book h0),hg,if_pos rfl,aj (by simp; omega),aq (sw hn r.book h0),lt_eq,lt_eq,aA (eY h),lt_eq]
      exact c1
    have hb:w'.B = wI w.B h:=c2
    have sJ:∀i,i < 32→w'.B.Is i = 1→w.B.Is i = 1∧i ≠ bj h:=fun i hi hs=>by
      rw [hb] at hs
      refine ⟨(zh hs).1,fun e=>?_⟩
      subst e
      unfold wI at hs
      rw [hg,if_pos rfl] at hs
      exact oz w.B h hs
    have hR:∀i,i < 32→i ≠ bj h→w'.R i = if (w.R i).Up = h then { w.R i with Up:=0 } else w.R i:=fun i hi hne=>by
      have q:=c3 i hi
      simp only [fN _ _ hne] at q
      exact q
    have hT:∀i,i ≠ bj h→dx t.regions (bj h) BQ i = t.regions i:=fun i hne=>fN _ _ hne
    have hU:∀i,i < 32→i ≠ bj h→(w'.R i).Up = if (w.R i).Up = h then 0 else (w.R i).Up:=fun i hi hne=>by
      rw [hR i hi hne]; split <;> rfl
    refine ⟨⟨?_,fun i hi hs=>?_,fun i hi hs=>?_,fun i hi hs=>?_⟩,?_,fun g x3 hne=>?_⟩
    · rw [hb]; exact r'
    · obtain ⟨l1,l2⟩:=sJ i hi hs
      have:=r.zn i hi l1
      rw [hR i hi l2]
      dsimp only
      rw [hT i l2]
      split
      · exact ⟨this.q,this.e,this.n,this.r,this.c,this.c0⟩
      · exact this
    · obtain ⟨l1,l2⟩:=sJ i hi hs
      dsimp only
      rw [hT i l2,hU i hi l2,hb]
      rw [BD r.book wL,r.up i hi l1]
      rcases r.old i hi l1 with h | h
      · rw [h]; decide
      · exact h.1
    · obtain ⟨l1,l2⟩:=sJ i hi hs
      dsimp only
      rw [hT i l2,hb]
      exact (r.old i hi l1).imp _root_.id fun hp=>vM (h:=h) _ hp
    · obtain ⟨ρ,hρ⟩:=tt
      refine ⟨ρ,fun i hi hs hu=>?_⟩
      obtain ⟨l1,l2⟩:=sJ i hi hs
      rw [hU i hi l2] at hu ⊢
      by_cases e:(w.R i).Up = h
      · rw [if_pos e] at hu; exact absurd rfl hu
      · rw [if_neg e] at hu ⊢; exact hρ i hi l1 hu
    · have xS:g ≠ h:=fun e=>hne ⟨e,rfl⟩
      have Bf:aO w'.B g:=by rw [hb]; exact (qH r.book h0 g).2 ⟨x3,xS⟩
      obtain ⟨l1,l2⟩:=sJ (bj g) (iG g) (cw Bf).2
      refine ⟨Bf,?_,?_,?_,?_⟩
      · dsimp only; rw [hT _ l2]
      · dsimp only; rw [hT _ l2]
      · dsimp only; rw [hT _ l2]
      · rw [hU _ (iG g) l2]
        by_cases e:(w.R (bj g)).Up = h
        · rw [if_pos e]; exact .inr ⟨rfl,rfl,e,by omega,rfl⟩
        · rw [if_neg e]; exact .inl rfl
end Go.Proofs.Ytmdpbdhkmfjlhaa
namespace Go.Proofs.Ytmdpbdhkmfjlhaa
open Go Go.Bw
theorem BE {b:aM} {w:ax} (r:RB b w) {f:Nat} (hf:mW w f) (hl:f < 32) {u:Int} (hu:u = 0∨nO w u):uX (fx w f) u = uX w u:=by
  rcases hu with h | h
  · subst h; rfl
  · have hv:=gC r hf hl u
    have hne:u ≠ fy f (w.gm f):=fun e=>by rw [e] at h; exact xp r hf hl h
    unfold uX
    by_cases h1:aQ w u = true
    · rw [if_pos h1,if_pos (hv.2 (.inl ⟨h.1,h1⟩)).2]
    · rw [if_neg h1,if_neg (fun h2=>(hv.1 ⟨h.1,h2⟩).elim (fun h3=>h1 h3.2) hne)]
def xw (B:ax) (a:Int):Bool:=(a == 0) || aQ B a
theorem mG {n:Nat} {t:ai} {w:ae} (r:eo t w) {a:Int} (h0:0 ≤ a) (h1:a < 4294967296) {ρ:Type} {f:Bool→Option ρ} {g:Bool} :
    cl g (aJ n t.book.gV a) default f = f (bif g then aQ w.B a else default):=cz (jh r.book h0 h1)
theorem hM (B:ax) (a:Int):((a != 0) && (!(bif ((a != 0) == true) then aQ B a else default))) = !xw B a:=by
  unfold xw
  by_cases h0:a = 0
  · subst h0; rfl
  · have h1:(a != 0) = true:=by simpa using h0
    have h2:(a == 0) = false:=by simpa using h0
    rw [h1,h2]; rfl
theorem tN {B:ax} {a:Int} (h0:0 ≤ a) (h:xw B a = true):a = 0∨aO B a:=by
  unfold xw at h
  rw [Bool.or_eq_true,beq_iff_eq] at h
  exact h.imp _root_.id fun hg=>⟨h0,hg⟩
theorem HS {n:Nat} (hn:40 ≤ n) {t:ai} {w:ae} (r:eo t w) (tt:fA w) {a q:Int} (a0:0 ≤ a) (a1:a < 4294967296) :
    ∃t' w' m e,di n t a q = some (t',m,e)∧cM n w a q = some (w',m,e)∧0 ≤ m∧m < 4294967296∧DA t w t' w' m e false:=by
  cases ha:xw w.B a with
  | false =>
    refine ⟨t,w,0,4,?_,?_,by decide,by decide, .same r tt _ _ _⟩
    · unfold di; rw [mG r a0 a1,hM,ha]; rfl
    · unfold cM; rw [cz (bC hn r a0),hM,ha]; rfl
  | true =>
  rcases Decidable.em (¬(0 ≤ q∧q ≤ 64)) with hq | hq
  · refine ⟨t,w,0,2,?_,?_,by decide,by decide, .same r tt _ _ _⟩
    · unfold di; rw [mG r a0 a1,hM,ha,aj (b:=!true) rfl]; unfold fO; rw [aq rfl,aC (by simp; omega)]
    · unfold cM; rw [cz (bC hn r a0),hM,ha,aj (b:=!true) rfl,aC (by simp; omega)]
  have hq:=Decidable.not_not.1 hq
  obtain ⟨f,hf⟩:=sR w.B
  obtain ⟨b',i1,i2⟩:=sF (n:=n) hn r.book hf
  have i3:=nM (n:=n) hn r.book hf
  have hP:di n t a q = (bd (dM n t.book.gV) fun dF =>
  cn ((!dF.2.2)) (
  some (t,0,7)) (
  bd (bh n dF.2.1) fun gF =>
  gu (cV gF.1 32) <|
  some (⟨⟨dF.1⟩,dx t.regions (Int.toNat gF.1) ⟨a,q,dj,fun _=>0⟩⟩,dF.2.1,0))):=by
    unfold di; rw [mG r a0 a1,hM,ha,aj (b:=!true) rfl]; unfold fO; rw [aq rfl,aj (by simpa using hq)]; rfl
  have hR:cM n w a q = (bd (fX n w.B) fun dk =>
  cn ((dk.2 == 0)) (
  some (w,0,7)) (
  bd (bp n dk.1 dk.2) fun iW =>
  gu (cV iW 32) <|
  some (⟨dk.1,dx w.R (Int.toNat iW) ⟨a,q,bF,fun _=>0⟩⟩,dk.2,0))):=by
    unfold cM; rw [cz (bC hn r a0),hM,ha,aj (b:=!true) rfl,aj (by simp; omega)]; rfl
  rcases Decidable.em (¬ f < 32) with hl | hl
  · refine ⟨t,w,0,7,?_,?_,by decide,by decide, .same r tt _ _ _⟩
    · rw [hP,aq i1,aC (by simpa using hl)]
    · rw [hR,aq i3,if_neg hl]; rfl
  have hl:=Decidable.not_not.1 hl
  simp only [hl,if_true,decide_true] at i1 i2 i3
  have hr:=r.book.gG f hl
  obtain ⟨q1,q2,q3,q4,q5⟩:=j8 (i:=f) (g:=w.B.gm f) (by omega) (by omega) hr.1 hr.2
  have hnew:aO (fx w.B f) (fy f (w.B.gm f)):=(gC r.book hf hl _).2 (.inr rfl)
  have hfn:(fU (fy f (w.B.gm f))).toNat = f:=by rw [q2]; omega
  have KQ:cV (fU (fy f (w.B.gm f))) 32 = true:=eY _
  refine ⟨⟨⟨b'⟩,dx t.regions f ⟨a,q,dj,fun _=>0⟩⟩,⟨fx w.B f,dx w.R f ⟨a,q,bF,fun _=>0⟩⟩,fy f (w.B.gm f),0,?_,?_,by omega,q5,?_⟩
  · rw [hP,aq i1,aj (b:=!true) rfl]
    dsimp only
    rw [aq (jC (by omega) q5),aA KQ,hfn]
  · rw [hR,aq i3,aj (by simp; omega),aq (cG hn i2 (by omega)),hnew.2,if_pos rfl,aA KQ,hfn]
  have Bg:=tN a0 ha
  have hfree:=hf.2.2 hl
  have hold:∀i,i ≠ f→(fx w.B f).Is i = 1→w.B.Is i = 1:=fun i hi hs=>by
    have:dx w.B.Is f 1 i = 1:=hs
    rwa [fN _ _ hi] at this
  have hne:∀x,aO w.B x→bj x ≠ f:=fun x hx e=>by
    have:=(cw hx).2; rw [e,hfree] at this; cases this
  refine ⟨⟨i2,fun i hi hs=>?_,fun i hi hs=>?_,fun i hi hs=>?_⟩,?_,fun g hg _=>?_⟩
  · dsimp only
    rw [bD,bD]
    by_cases e:i = f
    · rw [if_pos e,if_pos e]
      exact ⟨rfl,rfl,(by show (0:Nat) ≤ 80; omega),(fun y hy=>by cases hy),fun _ _=>rfl,fun _ _=>by show (0:Int) ≤ 0∧(0:Int) ≤ 4294967295; decide⟩
    · rw [if_neg e,if_neg e]; exact r.zn i hi (hold i e hs)
  · dsimp only
    simp only [bD]
    by_cases e:i = f
    · rw [if_pos e,if_pos e]
      show a = uX (fx w.B f) a
      rcases Bg with h | h
      · subst h; rfl
      · unfold uX; rw [if_pos ((gC r.book hf hl a).2 (.inl h)).2]
    · rw [if_neg e,if_neg e]
      have h1:=hold i e hs
      rw [BE r.book hf hl (r.old i hi h1)]; exact r.up i hi h1
  · dsimp only
    simp only [bD]
    by_cases e:i = f
    · rw [if_pos e]
      exact Bg.imp _root_.id fun h=>oI _ (qx h)
    · rw [if_neg e]
      exact (r.old i hi (hold i e hs)).imp _root_.id (oI _)
  · obtain ⟨ρ,hρ⟩:=tt
    refine ⟨dx ρ f (1 + zk ρ 32),fun i hi hs hu=>?_⟩
    dsimp only at hu ⊢
    simp only [bD] at hu ⊢
    by_cases e:i = f
    · rw [if_pos e] at hu
      rw [if_pos e,if_pos e]
      change a ≠ 0 at hu
      show (if bj a = f then _ else ρ (bj a)) < _
      have F7:=Bg.resolve_left hu
      rw [if_neg (hne a F7)]
      have:=uY ρ (j:=bj a) 32 (iG a)
      omega
    · rw [if_neg e] at hu
      rw [if_neg e,if_neg e]
      have h1:=hold i e hs
      rw [if_neg (hne _ ((r.G7 hi h1).resolve_left hu))]
      exact hρ i hi h1 hu
  · have:=hne g hg
    refine ⟨(gC r.book hf hl g).2 (.inl hg),?_,?_,?_, .inl ?_⟩
    all_goals (dsimp only; rw [fN _ _ this])
theorem HT {n:Nat} (hn:110 ≤ n) {p:aX} {x:bq} (h:rR p x):∃b,dN n p.E = some b∧cR n x.E = some b:=by
  have hl:(x.E.bf.map kJ).length ≤ 80:=by rw [List.length_map]; exact h.n
  obtain ⟨b,b1,b2⟩:=xC (n:=n) hn (e:=p.E) (by rw [h.e]; exact hl) (by rw [h.e]; exact h.r)
  obtain ⟨c,c1,c2⟩:=qe (n:=n) hn h.n h.r
  refine ⟨b,b1,?_⟩
  rw [c1]
  rw [h.e] at b2
  dsimp only at b2
  have:b = true↔c = true:=b2.trans ⟨fun ⟨q1,_,q3⟩=>c2.2 ⟨q1,q3⟩,fun h=>by
    obtain ⟨q1,q3⟩:=c2.1 h
    exact ⟨q1,z7 q1,q3⟩⟩
  cases b <;> cases c <;> simp_all
theorem HM {n:Nat} (hn:110 ≤ n) {t:ai} {w:ae} (r:eo t w) (tt:fA w) {h:Int} (h0:0 ≤ h) (h1:h < 4294967296) {p:aX} {x:bq} (hx:rR p x) :
    ∃t' w' e,cK n t h p = some (t',e)∧fm n w h x = some (w',e)∧DA t w t' w' h e false:=by
  obtain ⟨b,b1,b2⟩:=HT hn hx
  have IT:=cL h
  unfold cK fm
  rw [aq (jh r.book h0 h1),aq (cG (by omega) r.book h0)]
  cases hg:aQ w.B h with
  | false=>exact ⟨t,w,4,rfl,rfl, .same r tt _ _ _⟩
  | true =>
  have wL:aO w.B h:=⟨h0,hg⟩
  obtain ⟨l1,l2⟩:=cw wL
  unfold fO
  rw [if_pos rfl,aj (b:=!true) rfl,aj (by simp; omega),aq rfl,cz b1,cz b2,hx.q]
  rcases Decidable.em (¬((0 ≤ x.bJ∧x.bJ ≤ 64)∧b = true)) with hq | hq
  · refine ⟨t,w,2,?_,?_, .same r tt _ _ _⟩
    · rw [aC]
      by_cases h3:0 ≤ x.bJ∧x.bJ ≤ 64
      · have:b = false:=by cases b with
          | false=>rfl
          | true=>exact absurd ⟨h3,rfl⟩ hq
        rw [this]; simp
      · have:(decide (0 ≤ x.bJ) && decide (x.bJ ≤ 64)) = false:=by rw [Bool.and_eq_false_iff,decide_eq_false_iff_not,decide_eq_false_iff_not]; omega
        rw [this]; rfl
    · rw [aC]
      by_cases h3:0 ≤ x.bJ∧x.bJ ≤ 64
      · have:b = false:=by cases b with
          | false=>rfl
          | true=>exact absurd ⟨h3,rfl⟩ hq
        rw [this]; simp
      · have:(decide (x.bJ < 0) || decide (64 < x.bJ)) = true:=by rw [Bool.or_eq_true,decide_eq_true_eq,decide_eq_true_eq]; omega
        rw [this]; rfl
  obtain ⟨⟨q1,q2⟩,rfl⟩:=Decidable.not_not.1 hq
  have e1:(decide (0 ≤ x.bJ) && decide (x.bJ ≤ 64)) = true:=by simp [q1,q2]
  have e2:(decide (x.bJ < 0) || decide (64 < x.bJ)) = false:=by rw [Bool.or_eq_false_iff,decide_eq_false_iff_not,decide_eq_false_iff_not]; omega
  rw [e1,e2,aj (by rfl),aj (by rfl),aq (jC h0 h1),aA (eY h),aA (eY h),lt_eq,aA (eY h),lt_eq,lt_eq,aA (eY h),lt_eq]
  refine ⟨_,_,0,rfl,rfl,?_⟩
  show DA t w ⟨t.book,dx t.regions (bj h) { p with Up:=(t.regions (bj h)).Up,bJ:=x.bJ }⟩ ⟨w.B,dx w.R (bj h) { x with Up:=(w.R (bj h)).Up }⟩ h 0 false
  have hT:∀i,(dx t.regions (bj h) { p with Up:=(t.regions (bj h)).Up,bJ:=x.bJ } i).Up = (t.regions i).Up:=fun i=>by
    rw [bD]; split
    · rename_i e; rw [e]
    · rfl
  have hW:∀i,(dx w.R (bj h) { x with Up:=(w.R (bj h)).Up } i).Up = (w.R i).Up:=fun i=>by
    rw [bD]; split
    · rename_i e; rw [e]
    · rfl
  refine ⟨⟨r.book,fun i hi hs=>?_,fun i hi hs=>?_,fun i hi hs=>?_⟩,?_,fun g x3 hne=>?_⟩
  · dsimp only
    rw [bD,bD]
    by_cases e:i = bj h
    · rw [if_pos e,if_pos e]; exact ⟨rfl,hx.e,hx.n,hx.r,hx.c,hx.c0⟩
    · rw [if_neg e,if_neg e]; exact r.zn i hi hs
  · dsimp only; rw [hT,hW]; exact r.up i hi hs
  · dsimp only; rw [hT]; exact r.old i hi hs
  · obtain ⟨ρ,hρ⟩:=tt
    refine ⟨ρ,fun i hi hs hu=>?_⟩
    dsimp only at hu ⊢; rw [hW] at hu ⊢; exact hρ i hi hs hu
  · have xS:bj g ≠ bj h:=fun e=>hne ⟨by rw [← dS x3,← dS wL,e],rfl⟩
    refine ⟨x3,?_,?_,?_, .inl ?_⟩
    all_goals (dsimp only; rw [fN _ _ xS])
end Go.Proofs.Ytmdpbdhkmfjlhaa
namespace Go.Proofs.Ytmdpbdhkmfjlhaa
open Go Go.Bw
inductive iC (w:ae) (s:Nat):Nat→Prop
  | self:iC w s s
  | down {i:Nat}:i < 32→w.B.Is i = 1→(w.R i).Up ≠ 0→iC w s (bj (w.R i).Up)→iC w s i
theorem iC.iff {w:ae} {s i:Nat} (hi:i < 32) (h1:w.B.Is i = 1):iC w s i↔i = s∨((w.R i).Up ≠ 0∧iC w s (bj (w.R i).Up)):=by
  constructor
  · intro h
    cases h with
    | self=>exact .inl rfl
    | down _ _ a b=>exact .inr ⟨a,b⟩
  · rintro (h | ⟨a,b⟩)
    · subst h; exact .self
    · exact .down hi h1 a b
def l5 (w:ae) (ρ:Nat→Nat) (x:Int):Nat:=if x = 0 then 0 else o7 (fun j=>decide (ρ j < ρ (bj x))) 32 + 1
theorem qC {t:ai} {w:ae} (r:eo t w) {ρ:Nat→Nat} (hρ:La w ρ) {x:Int} (hx:aO w.B x):l5 w ρ (w.R (bj x)).Up < l5 w ρ x:=by
  have hp:=fZ hx
  obtain ⟨l1,l2⟩:=cw hx
  unfold l5
  rw [if_neg (show ¬ x = 0 by omega)]
  split
  · omega
  · rename_i hu
    have h2:=hρ _ l1 l2 hu
    have:=mK (p:=fun j=>decide (ρ j < ρ (bj (w.R (bj x)).Up))) (q:=fun j=>decide (ρ j < ρ (bj x))) (fun j hj=>by simp at hj ⊢; omega) (c:=bj (w.R (bj x)).Up) (by simp) (by simpa using h2) 32 (iG _)
    omega
theorem qD (w:ae) (ρ:Nat→Nat) (x:Int):l5 w ρ x ≤ 32:=by
  unfold l5
  split
  · omega
  · have:=mK (p:=fun j=>decide (ρ j < ρ (bj x))) (q:=fun _=>true) (fun _ _=>rfl) (c:=bj x) (by simp) rfl 32 (iG _)
    have:=rA (fun _=>true) 32
    omega
theorem vI {n:Nat} (hn:40 ≤ n) {t:ai} {w:ae} (r:eo t w) (tt:fA w) {h:Int} (hh:aO w.B h) {x0:Int} (hx0:aO w.B x0) :
    ∃b,bE n w h x0 = some b∧(b = true↔(w.R (bj x0)).Up ≠ 0∧iC w (bj h) (bj (w.R (bj x0)).Up)):=by
  obtain ⟨ρ,hρ⟩:=tt
  unfold bE
  have Jq:=fZ hh
  refine fY (fun (x:Int)=>(x = 0∨aO w.B x)∧(((w.R (bj x0)).Up ≠ 0∧iC w (bj h) (bj (w.R (bj x0)).Up))↔(x ≠ 0∧(w.R (bj x)).Up ≠ 0∧iC w (bj h) (bj (w.R (bj x)).Up)))) (fun x=>l5 w ρ x)
    (fun o=>∃b,o = some b∧(b = true↔(w.R (bj x0)).Up ≠ 0∧iC w (bj h) (bj (w.R (bj x0)).Up))) ?_ n x0 ⟨.inr hx0,?_⟩ (by have:=qD w ρ x0; omega)
  · rintro kk x ⟨hx,hw⟩ ih
    by_cases h0:x = 0
    · subst h0
      rw [aj (by rfl)]
      exact ⟨false,rfl,by rw [hw]; simp⟩
    · have hg:=hx.resolve_left h0
      have IT:=cL x
      obtain ⟨l1,l2⟩:=cw hg
      rw [aC (by simpa using h0),aq (cG hn r.book hg.1),hg.2,if_pos rfl,aA (eY x)]
      show ∃b,cn ((w.R (bj x)).Up == h) (some (h != 0)) (kk (w.R (bj x)).Up) = some b∧_
      by_cases hu:(w.R (bj x)).Up = h
      · rw [aC (by simpa using hu)]
        refine ⟨_,rfl,?_⟩
        rw [hw,hu]
        exact ⟨fun _=>⟨h0,by omega, .self⟩,fun _=>by simp; omega⟩
      · rw [aj (by simpa using hu)]
        refine ih _ ⟨r.DK hg,hw.trans ?_⟩ (qC r hρ hg)
        constructor
        · rintro ⟨_,a,b⟩
          have Hh:=(r.DK hg).resolve_left a
          obtain ⟨m1,m2⟩:=cw Hh
          refine ⟨a,?_⟩
          rcases (iC.iff m1 m2).1 b with e | e
          · exact absurd (by rw [← dS Hh,← dS hh,e]) hu
          · exact e
        · rintro ⟨a,b,c⟩
          have Hh:=(r.DK hg).resolve_left a
          obtain ⟨m1,m2⟩:=cw Hh
          exact ⟨h0,a, .down m1 m2 b c⟩
  · have:=fZ hx0
    exact ⟨fun a=>⟨by omega,a⟩,fun a=>a.2⟩
theorem Da {n:Nat} (hn:40 ≤ n) {t:ai} {w:ae} (r:eo t w) (tt:fA w) {h:Int} (hh:aO w.B h) {x0:Int} (hx0:x0 = 0∨aO w.B x0) (z:Option (ai × Int)) :
    (x0 ≠ 0∧iC w (bj h) (bj x0)→dz (fun zM (cU:Int) =>
  cn ((cU != 0)) (
  cn ((cU == h)) (
  some (t,12)) (
  bd (dJ n t cU) fun hJ =>
  zM hJ)) z) n x0 = some (t,12))∧(¬ (x0 ≠ 0∧iC w (bj h) (bj x0))→dz (fun zM (cU:Int) =>
  cn ((cU != 0)) (
  cn ((cU == h)) (
  some (t,12)) (
  bd (dJ n t cU) fun hJ =>
  zM hJ)) z) n x0 = z):=by
  obtain ⟨ρ,hρ⟩:=tt
  have Jq:=fZ hh
  refine fY (fun (x:Int)=>(x = 0∨aO w.B x)∧((x0 ≠ 0∧iC w (bj h) (bj x0))↔(x ≠ 0∧iC w (bj h) (bj x)))) (fun x=>l5 w ρ x)
    (fun o=>(x0 ≠ 0∧iC w (bj h) (bj x0)→o = some (t,12))∧(¬ (x0 ≠ 0∧iC w (bj h) (bj x0))→o = z)) ?_ n x0 ⟨hx0,Iff.rfl⟩ (by have:=qD w ρ x0; omega)
  rintro kk x ⟨hx,hw⟩ ih
  by_cases h0:x = 0
  · subst h0
    rw [aj (by rfl)]
    exact ⟨fun hq=>absurd rfl (hw.1 hq).1,fun _=>rfl⟩
  · have hg:=hx.resolve_left h0
    obtain ⟨l1,l2⟩:=cw hg
    rw [aC (by simpa using h0)]
    by_cases hu:x = h
    · rw [aC (by simpa using hu)]
      exact ⟨fun _=>rfl,fun hq=>absurd (hw.2 ⟨h0,by rw [hu]; exact .self⟩) hq⟩
    · rw [aj (by simpa using hu),aq (wZ r hg)]
      refine ih _ ⟨r.DK hg,hw.trans ?_⟩ (qC r hρ hg)
      constructor
      · rintro ⟨_,b⟩
        rcases (iC.iff l1 l2).1 b with e | e
        · exact absurd (by rw [← dS hg,← dS hh,e]) hu
        · exact e
      · rintro ⟨a,b⟩
        exact ⟨h0, .down l1 l2 a b⟩
theorem BM {n:Nat} (hn:40 ≤ n) {t:ai} {w:ae} (r:eo t w) (tt:fA w) {h a:Int} (h0:0 ≤ h) (h1:h < 4294967296) (a0:0 ≤ a) (a1:a < 4294967296) :
    ∃t' w' e,cH n t h a = some (t',e)∧eH n w h a = some (w',e)∧DA t w t' w' h e false:=by
  unfold cH eH
  rw [aq (jh r.book h0 h1),aq (bC hn r h0),mG r a0 a1,cz (bC hn r a0)]
  cases hg:aQ w.B h with
  | false=>exact ⟨t,w,4,rfl,rfl, .same r tt _ _ _⟩
  | true =>
  have wL:aO w.B h:=⟨h0,hg⟩
  obtain ⟨l1,l2⟩:=cw wL
  have hpos:=fZ wL
  have e0:∀v:Bool,(((!true) == false) && v) = v:=fun v=>by cases v <;> rfl
  rw [e0,hM]
  cases ha:xw w.B a with
  | false=>exact ⟨t,w,4,rfl,rfl, .same r tt _ _ _⟩
  | true =>
  rw [aj (by rfl),aj (by rfl)]
  have Bg:=tN a0 ha
  obtain ⟨p1,p2⟩:=Da (n:=n) hn r tt wL Bg (bd (bh n h) fun iW =>
  gu (cV iW.1 32) <|
  lt ({ t with regions:=(dx t.regions (Int.toNat iW.1) ({ (t.regions (Int.toNat iW.1)) with Up:=a })) }:ai) fun fB =>
  some (fB,0))
  have hR:∃b,(b = true↔a ≠ 0∧iC w (bj h) (bj a))∧∀(F:Bool→Option (ae × Int)),(cl (((a != 0) == true) && ((a == h) == false)) (bE n w h a) default fun fJ=>F ((a != 0) && ((a == h) || fJ))) = F b:=by
    rcases Bg with e | e
    · subst e
      exact ⟨false,by simp,fun F=>rfl⟩
    · have hp:=fZ e
      obtain ⟨b,b1,b2⟩:=vI (n:=n) hn r tt wL e
      obtain ⟨m1,m2⟩:=cw e
      refine ⟨(a == h) || b,?_,fun F=>?_⟩
      · rw [Bool.or_eq_true,beq_iff_eq,b2,iC.iff m1 m2]
        constructor
        · rintro (q | q)
          · exact ⟨by omega, .inl (by rw [q])⟩
          · exact ⟨by omega, .inr q⟩
        · rintro ⟨_,q | q⟩
          · exact .inl (by rw [← dS e,← dS wL,q])
          · exact .inr q
      · have e1:(a != 0) = true:=by simp; omega
        rw [cz b1,e1]
        cases a == h <;> rfl
  obtain ⟨b,b1,b2⟩:=hR
  rw [b2 (fun v=>cn v (some (w,12)) (bd (bp n w.B h) fun bN =>
  gu (cV bN 32) <|
  lt ({ w with R:=(dx w.R (Int.toNat bN) ({ (w.R (Int.toNat bN)) with Up:=a })) }:ae) fun eC =>
  some (eC,0)))]
  cases b with
  | true=>exact ⟨t,w,12,p1 (b1.1 rfl),rfl, .same r tt _ _ _⟩
  | false =>
  have KM:¬ (a ≠ 0∧iC w (bj h) (bj a)):=fun q=>by have:=b1.2 q; cases this
  rw [p2 KM]
  rw [aq (jC h0 h1),aj rfl,aq (cG hn r.book h0),hg,if_pos rfl]
  refine ⟨⟨t.book,dx t.regions (bj h) { t.regions (bj h) with Up:=a }⟩,⟨w.B,dx w.R (bj h) { w.R (bj h) with Up:=a }⟩,0,?_,?_,?_⟩
  · rw [aA (eY h)]; rfl
  · rw [aA (eY h)]; rfl
  refine ⟨⟨r.book,fun i hi hs=>?_,fun i hi hs=>?_,fun i hi hs=>?_⟩,?_,fun g x3 hne=>?_⟩
  · dsimp only
    rw [bD,bD]
    by_cases e:i = bj h
    · rw [if_pos e,if_pos e]; exact (r.zn _ l1 l2).Ej _ _
    · rw [if_neg e,if_neg e]; exact r.zn i hi hs
  · dsimp only
    simp only [bD]
    by_cases e:i = bj h
    · rw [if_pos e,if_pos e]
      show a = uX w.B a
      rcases Bg with q | q
      · subst q; rfl
      · unfold uX; rw [if_pos q.2]
    · rw [if_neg e,if_neg e]; exact r.up i hi hs
  · dsimp only
    simp only [bD]
    by_cases e:i = bj h
    · rw [if_pos e]; exact Bg.imp _root_.id qx
    · rw [if_neg e]; exact r.old i hi hs
  · obtain ⟨ρ,hρ⟩:=tt
    obtain ⟨f,f1,f2⟩ : ∃f:Nat→Nat,(∀i,iC w (bj h) i→f i = ρ i + ρ (bj a) + 1)∧∀i,¬ iC w (bj h) i→f i = ρ i:=by
      classical
      exact ⟨fun i=>if iC w (bj h) i then ρ i + ρ (bj a) + 1 else ρ i,fun i q=>if_pos q,fun i q=>if_neg q⟩
    refine ⟨f,fun i hi hs hu=>?_⟩
    have hU:(dx w.R (bj h) { w.R (bj h) with Up:=a } i).Up = if i = bj h then a else (w.R i).Up:=by
      rw [bD]; split <;> rfl
    dsimp only at hu hs ⊢
    rw [hU] at hu ⊢
    by_cases e:i = bj h
    · rw [if_pos e] at hu ⊢
      rw [f2 _ (fun q=>KM ⟨hu,q⟩),e,f1 _ .self]
      omega
    · rw [if_neg e] at hu ⊢
      have h2:=hρ i hi hs hu
      have h3:=iC.iff (s:=bj h) hi hs
      by_cases q:iC w (bj h) (bj (w.R i).Up)
      · rw [f1 _ q,f1 _ (h3.2 (.inr ⟨hu,q⟩))]; omega
      · rw [f2 _ q,f2 _ (fun c=>(h3.1 c).elim e fun c=>q c.2)]; exact h2
  · have xS:bj g ≠ bj h:=fun e=>hne ⟨by rw [← dS x3,← dS wL,e],rfl⟩
    refine ⟨x3,?_,?_,?_, .inl ?_⟩
    all_goals (dsimp only; rw [fN _ _ xS])
end Go.Proofs.Ytmdpbdhkmfjlhaa
namespace Go.Proofs.Ytmdpbdhkmfjlhaa
open Go Go.Bw
theorem zv {n:Nat} (hn:40 ≤ n) {t:ai} {w:ae} (r:eo t w):iJ n w = some (bQ w.B 32):=by
  unfold iJ
  refine de (fun (l:List Int) (x:Int)=>∃k:Nat,x = k∧k ≤ 32∧l = bQ w.B k) (fun _ (x:Int)=>(32 - x).toNat) (fun o=>o = some (bQ w.B 32)) ?_ n [] 0 ⟨0,rfl,by omega,rfl⟩ (by omega)
  rintro kk l x ⟨k,rfl,hk,rfl⟩ ih
  by_cases hc:k < 32
  · rw [aC (by simp; omega),aA (bT (by omega) (by omega))]
    have hr:=r.book.gG k hc
    by_cases e:w.B.Is k = 1
    · rw [aC (by simpa using e),aq (m7 (by omega) (by omega) hr.1 hr.2),aA (jr (by have:=eJ w.B k; omega) (by have:=eJ w.B k; omega)),lt_eq,bK (by omega) (by omega)]
      exact ih _ _ ⟨k + 1,by omega,by omega,by simp [bQ,e]⟩ (by omega)
    · rw [aj (by simpa using e),bK (by omega) (by omega)]
      exact ih _ _ ⟨k + 1,by omega,by omega,by simp [bQ,e]⟩ (by omega)
  · rw [aj (by simp; omega)]
    obtain rfl:k = 32:=by omega
    rfl
theorem Ai {n:Nat} (hn:40 ≤ n) {t:ai} {w:ae} (r:eo t w):dI n t.book = some (bQ w.B 32):=by
  unfold dI; rw [aq (vP hn r.book)]
theorem fq {α:Type} [Inhabited α] {l:List α} {i:Nat} (h:i < l.length):l.getD i default ∈ l:=by
  rw [List.getD,List.getElem?_eq_getElem h]; exact List.getElem_mem _
end Go.Proofs.Ytmdpbdhkmfjlhaa
namespace Go.Proofs.Ytmdpbdhkmfjlhaa
open Go Go.Bw
theorem ql {i:Nat} (h:ia.B.Is i = 1):False:=absurd (show (0:Int) = 1 from h) (by decide)
theorem AQ:eo dY ia∧fA ia:=
  ⟨⟨⟨fun i _=>rfl,fun i _=>rfl,fun i _=>rfl,fun i _=>.inl rfl,fun i _=>⟨Int.le_refl 0,show (0:Int) ≤ 8388607 by decide⟩⟩,fun i _ h=>(ql h).elim,fun i _ h=>(ql h).elim,fun i _ h=>(ql h).elim⟩,fun _=>0,fun i _ h=>(ql h).elim⟩
end Go.Proofs.Ytmdpbdhkmfjlhaa
namespace Go.Proofs.Ytmdpbdhkmfjlhaa
open Go Go.Bw
structure Fo (G:List Int) (up:Int→Int) (ρ:Int→Nat):Prop where
  nd:G.Nodup
  len:G.length ≤ 32
  pos:∀x ∈ G,x ≠ 0
  G7:∀x ∈ G,up x = 0∨up x ∈ G
  rk:∀x ∈ G,ρ x < 32
  dn:∀x ∈ G,up x ≠ 0→ρ (up x) < ρ x
def r7 (up:Int→Int):Nat→Int→List Int
  | 0,_=>[]
  | k + 1,x=>if up x = 0 then [] else up x::r7 up k (up x)
def fa (G:List Int) (up:Int→Int) (x:Int):List Int:=G.filter fun y=>up y == x
def r8 (G:List Int) (up:Int→Int):Nat→Int→List Int
  | 0,_=>[]
  | k + 1,x=>x::(fa G up x).flatMap (r8 G up k)
abbrev U6 (up:Int→Int) (x:Int):List Int:=r7 up 32 x
abbrev V6 (G:List Int) (up:Int→Int) (x:Int):List Int:=r8 G up 32 x
theorem fQ {G:List Int} {up:Int→Int} {x y:Int}:y ∈ fa G up x↔y ∈ G∧up y = x:=by simp [fa]
theorem lZ {α β:Type} {l:List α} {f g:α→List β} (h:∀x ∈ l,f x = g x):l.flatMap f = l.flatMap g:=by
  induction l with
  | nil=>rfl
  | cons a l ih=>rw [List.flatMap_cons,List.flatMap_cons,h a (by simp),ih fun x hx=>h x (by simp [hx])]
section
variable {G:List Int} {up:Int→Int} {ρ:Int→Nat}
theorem Fo.yZ (f:Fo G up ρ) {x:Int} (hx:x ∈ G) (h:up x ≠ 0):up x ∈ G:=(f.G7 x hx).resolve_left h
theorem Fo.pL (f:Fo G up ρ) (P:Int→Prop) (h:∀x ∈ G,(up x ≠ 0→P (up x))→P x):∀x ∈ G,P x:=by
  have key:∀k x,x ∈ G→ρ x < k→P x:=by
    intro k
    induction k with
    | zero=>intro x _ h; omega
    | succ k ih=>intro x hx hk; exact h x hx fun hu=>ih _ (f.yZ hx hu) (by have:=f.dn x hx hu; omega)
  exact fun x hx=>key _ x hx (Nat.lt_succ_self _)
theorem Fo.BU (f:Fo G up ρ) {x y:Int} (hx:x ∈ G) (hy:y ∈ G) (h:up y = x):ρ x < ρ y:=by
  have:=f.dn y hy (by rw [h]; exact f.pos x hx)
  rwa [h] at this
theorem Fo.C5 (f:Fo G up ρ) (P:Int→Prop) (h:∀x ∈ G,(∀y ∈ G,up y = x→P y)→P x):∀x ∈ G,P x:=by
  have key:∀k x,x ∈ G→32 - ρ x < k→P x:=by
    intro k
    induction k with
    | zero=>intro x _ h; omega
    | succ k ih=>intro x hx hk; exact h x hx fun y hy hu=>ih _ hy (by have:=f.BU hx hy hu; have:=f.rk y hy; omega)
  exact fun x hx=>key _ x hx (Nat.lt_succ_self _)
theorem Fo.LM (f:Fo G up ρ):∀k x,x ∈ G→ρ x < k→r7 up (k + 1) x = r7 up k x:=by
  intro k
  induction k with
  | zero=>intro x _ h; omega
  | succ k ih =>
    intro x hx hk
    show (if up x = 0 then [] else up x::r7 up (k + 1) (up x)) = (if up x = 0 then [] else up x::r7 up k (up x))
    split
    · rfl
    · rename_i hu
      rw [ih _ (f.yZ hx hu) (by have:=f.dn x hx hu; omega)]
theorem Fo.Ef (f:Fo G up ρ) {x:Int} (hx:x ∈ G):U6 up x = if up x = 0 then [] else up x::U6 up (up x):=by
  show r7 up (31 + 1) x = _
  rw [r7]
  split
  · rfl
  · rename_i hu
    have:=f.dn x hx hu
    have:=f.rk x hx
    rw [← f.LM 31 _ (f.yZ hx hu) (by omega)]
theorem Fo.u0 (f:Fo G up ρ) {x:Int} (hx:x ∈ G) (h:up x = 0):U6 up x = []:=by rw [f.Ef hx,if_pos h]
theorem Fo.u1 (f:Fo G up ρ) {x:Int} (hx:x ∈ G) (h:up x ≠ 0):U6 up x = up x::U6 up (up x):=by rw [f.Ef hx,if_neg h]
theorem Fo.LH (f:Fo G up ρ):∀k x,x ∈ G→32 - ρ x ≤ k→r8 G up (k + 1) x = r8 G up k x:=by
  intro k
  induction k with
  | zero=>intro x hx h; have:=f.rk x hx; omega
  | succ k ih =>
    intro x hx hk
    rw [r8,r8]
    congr 1
    refine lZ fun y hy=>?_
    obtain ⟨hy,hu⟩:=fQ.1 hy
    exact ih y hy (by have:=f.BU hx hy hu; have:=f.rk y hy; omega)
theorem Fo.qI (f:Fo G up ρ) {x:Int} (hx:x ∈ G):V6 G up x = x::(fa G up x).flatMap (V6 G up):=by
  show r8 G up (31 + 1) x = _
  rw [r8]
  congr 1
  refine lZ fun y hy=>?_
  obtain ⟨hy,hu⟩:=fQ.1 hy
  have:=f.BU hx hy hu
  exact (f.LH 31 y hy (by have:=f.rk y hy; omega)).symm
theorem Fo.mw (f:Fo G up ρ) {x:Int} (hx:x ∈ G):∀y ∈ U6 up x,y ∈ G∧ρ y < ρ x:=by
  refine f.pL (fun x=>∀y ∈ U6 up x,y ∈ G∧ρ y < ρ x) (fun x hx ih y hy=>?_) x hx
  by_cases hu:up x = 0
  · rw [f.u0 hx hu] at hy; cases hy
  · rw [f.u1 hx hu] at hy
    have:=f.dn x hx hu
    rcases List.mem_cons.1 hy with h | h
    · rw [h]; exact ⟨f.yZ hx hu,this⟩
    · obtain ⟨h1,h2⟩:=ih hu y h; exact ⟨h1,by omega⟩
theorem Fo.AW (f:Fo G up ρ) {x:Int} (hx:x ∈ G):x ∉ U6 up x:=fun h=>by have:=(f.mw hx x h).2; omega
theorem Fo.HI (f:Fo G up ρ) {x y z:Int} (hx:x ∈ G) (hy:y ∈ U6 up x) (hz:z ∈ U6 up y):z ∈ U6 up x:=by
  revert hy
  refine f.pL (fun x=>y ∈ U6 up x→z ∈ U6 up x) (fun x hx ih hy=>?_) x hx
  by_cases hu:up x = 0
  · rw [f.u0 hx hu] at hy; cases hy
  · rw [f.u1 hx hu] at hy ⊢
    rcases List.mem_cons.1 hy with h | h
    · rw [← h]; exact List.mem_cons_of_mem _ hz
    · exact List.mem_cons_of_mem _ (ih hu h)
theorem Fo.HH (f:Fo G up ρ) {x y:Int} (hx:x ∈ G) (hy:y = x∨y ∈ U6 up x) (hu:up y ≠ 0):up y ∈ U6 up x:=by
  rcases hy with h | h
  · subst h; rw [f.u1 hx hu]; exact List.mem_cons_self
  · exact f.HI hx h (by rw [f.u1 (f.mw hx y h).1 hu]; exact List.mem_cons_self)
theorem Fo.BH (f:Fo G up ρ) {x y:Int} (hy:y ∈ G) (h:x ∈ U6 up y):∃k ∈ G,up k = x∧(k = y∨k ∈ U6 up y):=by
  revert h
  refine f.pL (fun y=>x ∈ U6 up y→∃k ∈ G,up k = x∧(k = y∨k ∈ U6 up y)) (fun y hy ih h=>?_) y hy
  by_cases hu:up y = 0
  · rw [f.u0 hy hu] at h; cases h
  · rw [f.u1 hy hu] at h
    rcases List.mem_cons.1 h with h | h
    · exact ⟨y,hy,h.symm, .inl rfl⟩
    · obtain ⟨k,k1,k2,k3⟩:=ih hu h
      refine ⟨k,k1,k2, .inr ?_⟩
      rw [f.u1 hy hu]
      rcases k3 with k3 | k3
      · rw [k3]; exact List.mem_cons_self
      · exact List.mem_cons_of_mem _ k3
theorem Fo.L8 (f:Fo G up ρ) {a b y:Int} (hy:y ∈ G) (ha:a = y∨a ∈ U6 up y) (hb:b = y∨b ∈ U6 up y):a = b∨a ∈ U6 up b∨b ∈ U6 up a:=by
  revert ha hb
  refine f.pL (fun y=>(a = y∨a ∈ U6 up y)→(b = y∨b ∈ U6 up y)→a = b∨a ∈ U6 up b∨b ∈ U6 up a) (fun y hy ih ha hb=>?_) y hy
  by_cases hu:up y = 0
  · rw [f.u0 hy hu] at ha hb
    have e1:a = y:=ha.resolve_right (by simp)
    have e2:b = y:=hb.resolve_right (by simp)
    exact .inl (e1.trans e2.symm)
  · rcases ha with ha | ha
    · rcases hb with hb | hb
      · exact .inl (ha.trans hb.symm)
      · subst ha; exact .inr (.inr hb)
    · rcases hb with hb | hb
      · subst hb; exact .inr (.inl ha)
      · rw [f.u1 hy hu] at ha hb
        exact ih hu (List.mem_cons.1 ha) (List.mem_cons.1 hb)
theorem Fo.iM (f:Fo G up ρ) {x:Int} (hx:x ∈ G):∀y,y ∈ V6 G up x↔y ∈ G∧(y = x∨x ∈ U6 up y):=by
  refine f.C5 (fun x=>∀y,y ∈ V6 G up x↔y ∈ G∧(y = x∨x ∈ U6 up y)) (fun x hx ih y=>?_) x hx
  rw [f.qI hx,List.mem_cons,List.mem_flatMap]
  constructor
  · rintro (h | ⟨k,hk,h⟩)
    · subst h; exact ⟨hx, .inl rfl⟩
    · obtain ⟨k1,k2⟩:=fQ.1 hk
      obtain ⟨h1,h2⟩:=(ih k k1 k2 y).1 h
      refine ⟨h1, .inr ?_⟩
      rw [← k2]
      exact f.HH h1 (h2.imp Eq.symm _root_.id) (by rw [k2]; exact f.pos x hx)
  · rintro ⟨h1,h | h⟩
    · exact .inl h
    · obtain ⟨k,k1,k2,k3⟩:=f.BH h1 h
      exact .inr ⟨k,fQ.2 ⟨k1,k2⟩,(ih k k1 k2 y).2 ⟨h1,k3.imp Eq.symm _root_.id⟩⟩
theorem pN {α β:Type} {l:List α} {g:α→List β} (hl:l.Nodup) (h1:∀x ∈ l,(g x).Nodup) (h2:∀x ∈ l,∀y ∈ l,x ≠ y→∀z ∈ g x,z ∉ g y):(l.flatMap g).Nodup:=by
  induction l with
  | nil=>simp
  | cons a l ih =>
    obtain ⟨ha,hl⟩:=List.nodup_cons.1 hl
    rw [List.flatMap_cons]
    refine List.nodup_append.2 ⟨h1 a (by simp),ih hl (fun x hx=>h1 x (by simp [hx])) (fun x hx y hy=>h2 x (by simp [hx]) y (by simp [hy])),fun z hz w hw e=>?_⟩
    subst e
    obtain ⟨b,hb,Me⟩:=List.mem_flatMap.1 hw
    exact h2 a (by simp) b (by simp [hb]) (fun e=>ha (e ▸ hb)) z hz Me
theorem Fo.wX (f:Fo G up ρ) {x:Int} (hx:x ∈ G):(V6 G up x).Nodup:=by
  refine f.C5 (fun x=>(V6 G up x).Nodup) (fun x hx ih=>?_) x hx
  rw [f.qI hx]
  refine List.nodup_cons.2 ⟨fun h=>?_,pN (f.nd.filter _) (fun k hk=>?_) (fun a ha b hb hne z hz Mf=>?_)⟩
  · obtain ⟨k,hk,h⟩:=List.mem_flatMap.1 h
    obtain ⟨k1,k2⟩:=fQ.1 hk
    have h3:=((f.iM k1 x).1 h).2
    have:=f.BU hx k1 k2
    rcases h3 with h3 | h3
    · rw [h3] at this; omega
    · have:=(f.mw hx k h3).2; omega
  · obtain ⟨k1,k2⟩:=fQ.1 hk; exact ih k k1 k2
  · obtain ⟨a1,a2⟩:=fQ.1 ha
    obtain ⟨b1,b2⟩:=fQ.1 hb
    obtain ⟨z1,z2⟩:=(f.iM a1 z).1 hz
    obtain ⟨_,z3⟩:=(f.iM b1 z).1 Mf
    have ra:=f.BU hx a1 a2
    have rb:=f.BU hx b1 b2
    have x0:=f.pos x hx
    have no:∀{p q:Int},p ∈ G→up p = x→ρ x < ρ q→q ∉ U6 up p:=fun hp hu hr hq=>by
      rw [f.u1 hp (by rw [hu]; exact x0),hu] at hq
      rcases List.mem_cons.1 hq with h | h
      · rw [h] at hr; omega
      · have:=(f.mw hx _ h).2; omega
    rcases f.L8 z1 (z2.imp Eq.symm _root_.id) (z3.imp Eq.symm _root_.id) with h | h | h
    · exact hne h
    · exact no b1 b2 ra h
    · exact no a1 a2 rb h
theorem u7 {l m:List Int} (hl:l.Nodup) (hs:∀x ∈ l,x ∈ m):l.length ≤ m.length:=by
  induction l generalizing m with
  | nil=>simp
  | cons a l ih =>
    obtain ⟨ha,hl⟩:=List.nodup_cons.1 hl
    have hm:=hs a (by simp)
    have:=ih (m:=m.erase a) hl (fun x hx=>(List.mem_erase_of_ne (fun (e:x = a)=>ha (by rw [← e]; exact hx))).2 (hs x (by simp [hx])))
    rw [List.length_erase_of_mem hm] at this
    have h0:0 < m.length:=List.length_pos_of_mem hm
    rw [List.length_cons]; omega
theorem Fo.oA (f:Fo G up ρ) {x:Int} (hx:x ∈ G):(V6 G up x).length ≤ 32:=Nat.le_trans (u7 (f.wX hx) fun y hy=>((f.iM hx y).1 hy).1) f.len
theorem Fo.HJ (f:Fo G up ρ) {x:Int} (hx:x ∈ G):(U6 up x).Nodup:=by
  refine f.pL (fun x=>(U6 up x).Nodup) (fun x hx ih=>?_) x hx
  by_cases hu:up x = 0
  · rw [f.u0 hx hu]; exact .nil
  · rw [f.u1 hx hu]; exact List.nodup_cons.2 ⟨f.AW (f.yZ hx hu),ih hu⟩
theorem Fo.w5 (f:Fo G up ρ) {x:Int} (hx:x ∈ G):(U6 up x).length ≤ 32:=Nat.le_trans (u7 (f.HJ hx) fun y hy=>(f.mw hx y hy).1) f.len
def nZ (up:Int→Int) (x:Int):Int:=(U6 up x).getLastD x
theorem Fo.rt_eq (f:Fo G up ρ) {x:Int} (hx:x ∈ G):nZ up x = if up x = 0 then x else nZ up (up x):=by
  unfold nZ
  by_cases hu:up x = 0
  · rw [f.u0 hx hu,if_pos hu]; rfl
  · rw [f.u1 hx hu,if_neg hu]
    cases h:U6 up (up x) with
    | nil=>rfl
    | cons a l=>simp [List.getLastD]
theorem Fo.oE (f:Fo G up ρ) {x:Int} (hx:x ∈ G):nZ up x ∈ G∧(nZ up x = x∨nZ up x ∈ U6 up x)∧up (nZ up x) = 0:=by
  refine f.pL (fun x=>nZ up x ∈ G∧(nZ up x = x∨nZ up x ∈ U6 up x)∧up (nZ up x) = 0) (fun x hx ih=>?_) x hx
  rw [f.rt_eq hx]
  by_cases hu:up x = 0
  · rw [if_pos hu]; exact ⟨hx, .inl rfl,hu⟩
  · rw [if_neg hu]
    obtain ⟨h1,h2,h3⟩:=ih hu
    refine ⟨h1, .inr ?_,h3⟩
    rw [f.u1 hx hu]
    rcases h2 with h2 | h2
    · rw [h2]; exact List.mem_cons_self
    · exact List.mem_cons_of_mem _ h2
theorem Fo.qN (f:Fo G up ρ) {x:Int} (hx:x ∈ G):nZ up x = x↔up x = 0:=by
  rw [f.rt_eq hx]
  by_cases hu:up x = 0
  · rw [if_pos hu]; exact ⟨fun _=>hu,fun _=>rfl⟩
  · rw [if_neg hu]
    refine ⟨fun h=>?_,fun h=>absurd h hu⟩
    have h1:=f.dn x hx hu
    obtain ⟨_,h2,_⟩:=f.oE (f.yZ hx hu)
    rw [h] at h2
    rcases h2 with h2 | h2
    · rw [← h2] at h1; omega
    · have:=(f.mw (f.yZ hx hu) x h2).2; omega
theorem Fo.xh (f:Fo G up ρ) {x z:Int} (hx:x ∈ G) (hz:z = x∨z ∈ U6 up x) (h0:up z = 0):nZ up x = z:=by
  revert hz
  refine f.pL (fun x=>(z = x∨z ∈ U6 up x)→nZ up x = z) (fun x hx ih hz=>?_) x hx
  rw [f.rt_eq hx]
  by_cases hu:up x = 0
  · rw [if_pos hu]
    rw [f.u0 hx hu] at hz
    exact (hz.resolve_right (by simp)).symm
  · rw [if_neg hu]
    rcases hz with h | h
    · subst h; exact absurd h0 hu
    · rw [f.u1 hx hu] at h
      exact ih hu (List.mem_cons.1 h)
end
end Go.Proofs.Ytmdpbdhkmfjlhaa
