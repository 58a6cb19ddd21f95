/- Part 7 of what a proof leans on; pruned and shortened by a program out of longer texts. -/
import Derived.Test.YtioeklchieeebaaGreatDoorQ6
namespace Go.Rw
open Go Go.Bw Go.RowKit
variable {G:Sg} {P:Program} {tt:TT P G} {J:World->Prop} {ρ:aX} {a:Act} {w:World} {d:Option Tmp} {ty:TypeId} {ps:String} {af:Array Edge} {g:Option (Nat×Bool)}
 {N:Nat} {c:Cx} {H HK X:List aF} {D:List Deferred} {C:CC G} {S:AS G}
def kj:AV G->AV G->AV G
 | .cons v r,b=> .cons v (kj r b)
 |_,b=>b
def lR:AV G->Bool
 | .cons _ r=>lR r
 | .nil=>true
 |_ =>false
theorem kF{J:World->Prop}{ρ:aX}:∀{a b:AV G} {l m:List Value},lR a=true->rl J ρ a l->rl J ρ b m->rl J ρ (kj a b) (l++m):=by
 intro a
 induction a with
 |nil=>intro b l m _ h1 h2;have:l=[]:=h1;subst this;exact h2
 |cons v r _ ih=>intro b l m hl h1 h2;obtain⟨u,r',rfl,k1,k2⟩:=h1;exact⟨u,r'++m,rfl,k1,ih hl k2 h2⟩
 |_ =>intro b l m hl;cases hl
theorem I5{T:Nat}(q:IntKind):SK P ⟨d, .makeMap T none,ty,ps,af,g⟩ C S {S with O:=(S.nx, .fm q [] .nil)::S.O,nx:=S.nx+1} (.mp S.nx):=by
 intro c N ρ J HK X a w next Q h hk
 obtain⟨HS,h1,hst,_⟩:=h.st;refine cJ (by simp) (w':=w.alloc (.map #[] 0)) (v:= .map (some w.heap.size)) ?_ ?_
 ·simp[execOp,Instr.makeMap,newObj,Sem.run,Result.andThen]
 ·have wW:bq c.bs c.w0.heap.size (.obj w.heap.size (.map #[] 0)::(HS++(HK++X))) (w.alloc (.map #[] 0)):=hst.hp.fresh (aO.alloc _ _) (by show(w.heap.push _)[w.heap.size]? =_;simp) hst.si.size (λb hb=>by
   have e:b=w.heap.size:=by simpa[aF.bT]using hb
   subst e;exact⟨Nat.le_refl _,by simp⟩)
  exact hk (ρ.set S.nx (.map (some w.heap.size))) J [] _ _ (aX.g6 _ _ _) (λ_ h=>h) ⟨_,aX.eP _ _ _,rfl,rfl,rfl⟩ (h.new h1 (hst.si.ext (aO.alloc _ _)) wW ⟨_,_,_,[],aX.eP _ _ _,rfl,⟨rfl,by simp,by simp⟩,rfl,rfl⟩)
def Fp(k:Int):List Int->Bool
 |[]=>true
 |a::r=> !(k==a)&&Fp k r
theorem HC{k:Int}:∀{ks:List Int} {us:List Value},Fp k ks=true->dW (ks.zip us) k=none:=by
 intro ks
 induction ks with
 |nil=>intro us _;rfl
 |cons a r ih=>
  intro us h;simp only[Fp,aiC,Bool.not_eq_true']at h;cases us with
  |nil=>rfl
  |cons u us=>simp only[List.zip_cons_cons,dW,h.1,cond_false,ih h.2,Option.map_none]
def Ie(P:Program)(T:Nat)(q:IntKind):Bool:=match P.underlying T with
 |some (.map k _)=>(match P.underlying k with
  |some (.int q')=>Nat.beq (Ty.bF.ik q) (Ty.bF.ik q')
  |_ =>false)
 |_ =>false
theorem Ta{T:Nat}{q:IntKind}(h:Ie P T q=true):∃k e,P.underlying T=some (.map k e)/\P.underlying k=some (.int q):=by
 unfold Ie at h;split at h
 ·rename_i k e h1
  split at h
  ·rename_i q' h2
   obtain rfl:=DK h;exact⟨k,e,h1,h2⟩
  ·cases h
 ·cases h
theorem OZ{r b:Nat}{u:Value}(h:rv (G:=G) J ρ (.mp r) u)(m:ρ r=some (.map (some b))):u= .map (some b):=by obtain⟨u',u1,u2,_⟩:=h;rw[m]at u1;cases u1;exact(List.cons.inj u2).1
theorem L8{T r:Nat}{x y z:Operand}{q ky:IntKind}{k:Int}{ql:Bool}{ks:List Int}{vs v:AV G}(hx:ei C S [] x=some (.mp r))(hy:jl (ei C S [] y)=some (ky,k,ql))(hz:ei C S [] z=some v)(ho:bY S.O r=some (.fm q ks vs))(hq:EB ky q=true)(hT:Ie P T q=true)(hn:Fp k ks=true)(hl:lR vs=true):
  SK P ⟨d, .insert T x y z,ty,ps,af,g⟩ C S {S with O:=m0 S.O r (.fm q (ks++[k]) (kj vs (.cons v .nil)))} .Ko:=by
 intro c N ρ J HK X a w next Q h hk
 obtain⟨HS,h1,hs0,hm⟩:=h.st;have hE:=bX h (ch:=[]) (by simp);obtain⟨kk,x0,k1,⟨b,es,ck,us,m1,rfl,m3,m4,m5⟩,k3⟩:=h1.set ho;obtain rfl:=xE hq;obtain⟨kt,e,t1,t2⟩:=Ta hT;have qG:=hE.ev _ _ hx;rw[OZ (hE.ok _ _ hx) m1]at qG;have SA:=gN hE hy;have hz2:=hE.ev _ _ hz;have EC:=nL (m:=HK++X) k1;have hd:w.heap[b]? =some (.map es ck):=hs0.hp.holds _ (List.mem_of_getElem? EC);have hf:=kA (k:=k) w t2 m3;rw[HC hn]at hf;have hc:∀em,(Instr.checkKey em 10000 kt (.int ky k)).run P w= .ok () w:=λem=>MapKept.run_checkKey (k:= .int ky k) t2 (show ky=ky from rfl) em 9999;haveI:MS (HS++(HK++X)) b (.map es ck):=⟨List.mem_of_getElem? EC⟩;haveI:MP (HS++(HK++X)) b (.map (es.push ⟨.int ky k,a.eval z,ck⟩) (ck+1)) (HS.set kk (.obj b (.map (es.push ⟨.int ky k,a.eval z,ck⟩) (ck+1)))++(HK++X)):=⟨kk,_,EC,by rw[qV k1]⟩;obtain⟨p1,_⟩:=hs0.m0 (b:=b) (o:= .map es ck) (o':= .map (es.push ⟨.int ky k,a.eval z,ck⟩) (ck+1)) inferInstance inferInstance;refine lB (by simp) (w':=w.putObj b (.map (es.push ⟨.int ky k,a.eval z,ck⟩) (ck+1))) ?_ ?_
 ·simp[execOp,aH hs0.fr qG,aH hs0.fr SA,Instr.mapUpdate,run_underlying t1,MapKept.run_getObj_map hd,hc,hf,MapKept.run_setObj_map _ hd,Result.andThen,World.putObj]
 ·refine hk ρ J [] _ undef (aX.cL _ _) (λ_ h=>h) ⟨_,rfl⟩ (h.zk (k3 _ _ ⟨b,_,_,us++[a.eval z],m1,rfl,?_,kF hl m4 ⟨_,[],rfl,hE.ok _ _ hz,rfl⟩,by simp[m5]⟩) p1.si p1.hp)
  rw[List.zip_append (by rw[m5])];exact m3.push k (a.eval z)
def lkF{Z:Type}(k:Int):List Int->AV G->(AV G->Option Z)->Option Z
 |a::r, .cons v b,c=>cn (k==a) (c (.gS (.cons v (.cons (.kb true) .nil)))) (lkF k r b c)
 |[], .nil,c=>c (.gS (.cons .jX (.cons (.kb false) .nil)))
 |_,_,_ =>none
theorem aa5{Z:Type}{k:Int}{c:AV G->Option Z}{z:Z}:∀{ks:List Int} {vs:AV G},lkF k ks vs c=some z->∃t,c t=some z/\∀(J:World->Prop) (ρ:aX) (us:List Value),rl J ρ vs us->rv J ρ t (.tuple #[kU (ks.zip us) k .nilFunc, .bool (m9 (ks.zip us) k)]):=by
 intro ks
 induction ks with
 |nil=>
  intro vs h;cases vs<;>simp only[lkF]at h<;>first|cases h|skip
  exact⟨_,h,λJ ρ us _ =>⟨[.nilFunc, .bool false],rfl,_,_,rfl,rfl,_,_,rfl,rfl,rfl⟩⟩
 |cons a r ih=>
  intro vs h;cases vs<;>simp only[lkF]at h<;>first|cases h|skip
  rename_i v b;cases hb:(k==a)with
  |true=>
   rw[hb]at h;refine⟨_,h,λJ ρ us hu=>?_⟩;obtain⟨u,us',rfl,h1,h2⟩:=hu;have e1:kU ((a::r).zip (u::us')) k .nilFunc=u:=by simp[kU,dW,hb]
   have e2:m9 ((a::r).zip (u::us')) k=true:=by simp[m9,dW,hb]
   rw[e1,e2];exact⟨[u, .bool true],rfl,_,_,rfl,h1,_,_,rfl,rfl,rfl⟩
  |false=>
   rw[hb]at h;obtain⟨t,t1,t2⟩:=ih h;refine⟨t,t1,λJ ρ us hu=>?_⟩;obtain⟨u,us',rfl,h1,h2⟩:=hu;have e1:kU ((a::r).zip (u::us')) k .nilFunc=kU (r.zip us') k .nilFunc:=by simp only[List.zip_cons_cons,kU,dW,hb,cond_false,Option.map_map];rfl
   have e2:m9 ((a::r).zip (u::us')) k=m9 (r.zip us') k:=by simp only[List.zip_cons_cons,m9,dW,hb,cond_false,Option.isSome_map]
   rw[e1,e2];exact t2 J ρ us' h2
theorem Oh{T r:Nat}{x y:Operand}{q ky:IntKind}{k:Int}{ql:Bool}{ks:List Int}{vs t:AV G}(hx:ei C S [] x=some (.mp r))(hy:jl (ei C S [] y)=some (ky,k,ql))(ho:OU C S r=some (.fm q ks vs))(hq:EB ky q=true)(hT:BX P T q=true)
  (ht:∀(J:World->Prop) (ρ:aX) (us:List Value),rl J ρ vs us->rv J ρ t (.tuple #[kU (ks.zip us) k .nilFunc, .bool (m9 (ks.zip us) k)])):SK P ⟨d, .lookup T x y true,ty,ps,af,g⟩ C S S t:=by
 intro c N ρ J HK X a w next Q h hk
 obtain⟨HS,h1,hs0,hm⟩:=h.st;have hE:=bX h (ch:=[]) (by simp);obtain⟨x0,hx0,⟨b,es,ck,us,m1,rfl,m3,m4,m5⟩⟩:=hm.ob r _ ho;obtain rfl:=xE hq;have qG:=hE.ev _ _ hx;rw[OZ (hE.ok _ _ hx) m1]at qG;have SA:=gN hE hy;unfold BX at hT;split at hT
 ·rename_i kt e hu
  simp only[aiC]at hT;obtain⟨Ps,Q7⟩:=hT;split at Ps
  ·rename_i q' hk'
   obtain rfl:=DK Ps;split at Q7
   ·rename_i hz
    have tm:Cm P T kt e ky:=⟨hu,hk'⟩;have tz:Ka P e ((λv:Value=>v) .nilFunc):=⟨hz⟩;refine(aG (P:=P) (F:=jS a) (H:=HS++(HK++X)) (by simp) λa' w' Q5 _ hp=>?_ :VS P N c _ _ _ (.tuple #[kU (ks.zip us) k .nilFunc, .bool (m9 (ks.zip us) k)])) a.defers a w next Q hs0 λw' hs=>?_
    ·have hd:w'.heap[b]? =some (.map es ck):=hp.holds _ hx0
     simp[execOp,aH Q5 qG,aH Q5 SA,mq (E:=λv:Value=>v) w' tm tz ⟨es,ck,hd,m3⟩,Result.andThen]
    ·exact hk ρ J [] w' _ (aX.cL _ _) (λ_ h=>h) (ht J ρ us m4) (by
      obtain⟨XM,p1,p3⟩:=h.hp;exact⟨h.tm,h.df,h.si.ext hs,h.fs,h.fc,h.kc,⟨XM,p1,p3.ext hs⟩,h.kn,h.fr⟩)
   ·cases Q7
  ·cases Ps
 ·cases hT
def fnL(E:Operand->Option (AV G)):Nat->List (Nat×Operand)->Option (AV G)
 |_,[]=>some .nil
 |k,(i,x)::r=>bif Nat.beq i k then(match E x with
  |some v=>bif v.one then(match fnL E (k+1) r with
   |some l=>some (.part 1 v l)
   |none=>none)else none
  |none=>none)else none
theorem Wy{E:Operand->Option (AV G)}(hE:wA J ρ a E):∀{l:List (Nat×Operand)} {k:Nat} {vs:AV G},fnL E k l=some vs->∃us:List Value,Ah (jS a) (l.map (·.2))=some us/\l.map (·.1)=List.range' k us.length/\us.length=l.length/\rl J ρ vs us/\∀u∈us,u.cells= #[u]/\u.oneCell'=true:=by
 intro l
 induction l with
 |nil=>intro k vs h;cases h;exact⟨[],rfl,rfl,rfl,rfl,nofun⟩
 |cons p r ih=>
  obtain⟨i,x⟩:=p;intro k vs h;unfold fnL at h;cases hb:Nat.beq i k with
  |false=>rw[hb]at h;cases h
  |true=>
   rw[hb]at h;simp only[cond_true]at h;split at h
   ·rename_i v hx
    cases h1:v.one with
    |false=>rw[h1]at h;cases h
    |true=>
     rw[h1]at h;simp only[cond_true]at h;split at h
     ·rename_i l' hl
      cases h;obtain⟨us,m1,m2,m3,m4,m5⟩:=ih hl;have hv:=hE.ok _ _ hx;obtain⟨c1,c2⟩:=A2 h1 hv;refine⟨a.eval x::us,by simp only[List.map_cons,Ah,hE.ev _ _ hx,m1],?_,by simp[m3],⟨[a.eval x],us,a.eval x,rfl,rfl,hv,by rw[c1],m4⟩,λu hu=>?_⟩
      ·simp only[List.map_cons,List.length_cons,List.range'_succ,aiB hb,m2]
      ·rcases List.mem_cons.1 hu with rfl|hu
       ·exact⟨c1,c2⟩
       ·exact m5 u hu
     ·cases h
   ·cases h
theorem Vg{zt:ZT P G}{T n e bt:Nat}{parts:Array (Nat×Operand)}{z vs:AV G}(hT:tt.te.find T=some (.sl e 1 bt))(hz:zt.z.find e=some z)(hxs:fnL (ei C S []) 0 parts.toList=some vs)(hn:parts.size=n)(h0:0<n)(hcap:n<=16777216):
  SK P ⟨d, .buildSlice T n parts,ty,ps,af,g⟩ C S {S with O:=(S.nx, .bT e (.st vs))::S.O,nx:=S.nx+1} (.A0 S.nx [] n 1 false (n:Int)):=by
 intro c N ρ J HK X a w next Q h hk
 obtain⟨HS,h1,hs0,hm⟩:=h.st;have hE:=bX h (ch:=[]) (by simp);obtain⟨us,m1,m2,m3,m4,m5⟩:=Wy hE hxs;obtain⟨u,z1,z2⟩:=zt.ok e z hz J ρ;haveI:gj P e u.cells.toList:=⟨z1⟩;haveI:=(tt.sl hT).1;have hlen:us.length=n:=by rw[m3, ← hn];simp
 have hb0:((List.range (n*1)).map λj=>u.cells.toList[j%u.cells.toList.length]!).length=n*1:=by simp
 have zL:=HZ (n:=n) (sz:=1) (vs:=us) (k:=0) (λv hv=>by rw[(m5 v hv).1];rfl) (by omega) hb0;rw[hlen, ← hlen, ← m2,hlen]at zL;have hfm:us.flatMap (λv=>v.cells.toList)=us:=by
  have:∀l:List Value,(∀v∈l,v.cells= #[v])->l.flatMap (λv=>v.cells.toList)=l:=by
   intro l
   induction l with
   |nil=>intro _;rfl
   |cons v r ih=>intro hv;rw[List.flatMap_cons,ih λx hx=>hv x (aiL _ hx),hv v List.mem_cons_self];rfl
  exact this us λv hv=>(m5 v hv).1
 have hcs:(((List.range (n*1)).map λj=>u.cells.toList[j%u.cells.toList.length]!).take (0*1)++us.flatMap (λv=>v.cells.toList)++((List.range (n*1)).map λj=>u.cells.toList[j%u.cells.toList.length]!).drop ((0+n)*1))=us:=by rw[List.drop_eq_nil_of_le (by rw[hb0,Nat.zero_add];exact Nat.le_refl _),hfm];simp
 rw[hcs]at zL;have hi:((parts.toList.map (·.1)).all λi=>decide (i<n))=true:=by rw[m2,List.all_eq_true];intro i hi;rw[List.mem_range'_1]at hi;simp;omega
 have:=QT (P:=P) (N:=N) (c:=c) (d:=d) (ty:=ty) (ps:=ps) (af:=af) (g:=g) (F:=jS a) (H:=HS++(HK++X)) (t:=T) (n:=n) m1 zL hi (by omega) (by omega) a.defers a w next Q hs0 λb w' _ hs hp=>by
  refine hk (ρ.set S.nx (cE b 0)) J [] w' _ (aX.g6 _ _ _) (λ_ h=>h) ?_ (h.new h1 hs hp ?_)
  ·refine⟨⟨b,0, .inl (aX.eP _ _ _),?_⟩,by simp,by simp⟩
   simp[Mf,dz]
  ·exact⟨b, .agg us.toArray,aX.eP _ _ _,rfl,⟨us,rfl,m4.ext ((aX.g6 ρ S.nx _).le h.fr),λv hv=>(m5 v hv).2⟩⟩
 simpa using this
def Qa(P:Program)(tt:TT P G)(T:Nat):Option (Nat×Nat×Nat):=match tt.te.find T with
 |some (.jo n e sz _)=>some (n,e,sz)
 |_ =>match P.underlying T with
  |some (.pointer a)=>(match tt.te.find a with
   |some (.jo n e sz _)=>some (n,e,sz)
   |_ =>none)
  |_ =>none
theorem CH{T n e sz:Nat}(h:Qa P tt T=some (n,e,sz)):pD P T n e sz\/D5 P T n e sz=true:=by
 unfold Qa at h;split at h
 ·rename_i h1;cases h;exact .inl (tt.jo h1)
 ·split at h
  ·rename_i a h1
   split at h
   ·rename_i h2
    cases h;refine .inr ?_;unfold D5;rw[h1];exact(tt.jo h2).ok
   ·cases h
  ·cases h
def Oz(P:Program)(tt:TT P G)(E:Operand->Option (AV G))(T:Nat)(x:Operand)(lo hi mx:Option Operand):PV G:=match E x,Qa P tt T with
 |some (.ptr r p),some (n,_,sz)=>(match lo,hi,mx with
  |none,none,none=>some ([], .A0 r p n sz false (n:Int))
  |some l,none,none=>(match jl (E l)with
   |some (_,i,_)=>some ([cF i (n+1)], .A0 r p n sz true i)
   |none=>none)
  |none,some h,none=>(match jl (E h)with
   |some (_,i,_)=>some ([cF i (n+1)], .A0 r p n sz false i)
   |none=>none)
  |_,_,_ =>none)
 |_,_ =>none
theorem Oy{ob:Nat->Option (Ob G)}{E:Operand->Option (AV G)}(hm:Ke (G:=G) J ρ N c D H ob a w)(hE:wA J ρ a E){T:Nat}{x:Operand}{lo hi mx:Option Operand}{v:AV G}{gs:List Bool}(h:Oz P tt E T x lo hi mx=some (gs,v))(hg:∀b∈gs,b=true):yz P c J ρ ⟨d, .slice T x lo hi mx,ty,ps,af,g⟩ a w v:=by
 unfold Oz at h;split at h
 ·rename_i r p n e sz hx ht
  obtain⟨b,o,e1,e2,e3⟩:=my (hE.ok _ _ hx);have fx:=hE.ev _ _ hx;rw[e2]at fx;split at h
  ·cases h
   refine⟨_,⟨⟨b,o,e1,rfl⟩,e3,by simp⟩,?_⟩;rw[zo,aiE];rcases CH ht with h1|h1
   ·exact(MJ fx).vk hm.st
   ·exact(MI h1 fx).vk hm.st
  ·split at h
   ·rename_i k i q hl
    cases h;obtain⟨h1,h2⟩:=bI (hg (cF i (n+1)) (by simp));have h2:=Nat.lt_succ_iff.1 h2;refine⟨_,⟨⟨b,o,e1,rfl⟩,e3,h2⟩,?_⟩;rw[Ga];rcases CH ht with h3|h3
    ·exact(Qs fx (gN hE hl) h1 h2).vk hm.st
    ·exact(Qr h3 fx (gN hE hl) h1 h2).vk hm.st
   ·cases h
  ·split at h
   ·rename_i k i q hl
    cases h;obtain⟨h1,h2⟩:=bI (hg (cF i (n+1)) (by simp));have h2:=Nat.lt_succ_iff.1 h2;refine⟨_,⟨⟨b,o,e1,rfl⟩,e3,h2⟩,?_⟩;rw[zo];rcases CH ht with h3|h3
    ·exact(Ip fx (gN hE hl) h1 h2).vk hm.st
    ·exact(Io h3 fx (gN hE hl) h1 h2).vk hm.st
   ·cases h
  ·cases h
 ·cases h
theorem Rl.agi{r T':Nat}{cc:AV G}(h:Rl c N ρ J HK X C S a w)(ho:bY S.O r=some (.bT T' cc)):∃(b:Nat) (u:Value) (J':World->Prop) (Y:List aF),ρ r=some (cE b 0)/\rv J ρ cc u/\(∀w,J' w->J w)/\(∀w,J' w->(aF.cells b T' u.cells.toList).holds w/\b<w.heap.size)/\Rl c N ρ J' HK (Y++X) C {S with O:=tg S.O r} a w:=by
 obtain⟨HS,q1,q3⟩:=h.hp;obtain⟨k,x,k1,⟨b,u,m1,rfl,m3⟩,k3⟩:=q1.S6 ho;let x:aF:= .cells b T' u.cells.toList;let J':World->Prop:=λw=>J w/\Hs [x] w;have mJ:∀w,J' w->J w:=λw h=>h.1;have hle:=aX.le_refl ρ;have hxm:x∈HS:=List.mem_of_getElem? k1;have VX:x∈HS++(HK++X):=aiG _ hxm;obtain⟨q,hq1,Pj,hq3⟩:=h.kn.one (q3.holds x VX) λb hb=>(q3.own x VX b hb).2;refine⟨b,u,J',[q],m1,m3,mJ,λw hw=>⟨(hw.2 x (by simp)).1,(hw.2 x (by simp)).2 b (by simp[x,aF.bT])⟩,h.tm,h.df.up mJ hle,h.si,h.fs.up mJ hle,h.fc.up mJ hle,h.IE mJ hle,⟨HS.eraseIdx k,k3.up mJ hle,?_⟩,hq3,h.fr⟩;have q4:=(q3.gK (mz k1 _)).set (k:=0) (r':=q) rfl (Nat.le_refl _) (λ_ _ _ =>rfl) hq1 h.si.s.size (λb hb=>by
  rw[Pj]at hb;exact⟨.inl hb,(q3.own x VX b hb).2⟩)
 refine bq.gK q4 ?_;have e1:HK++([q]++X)=HK++(q::X):=rfl;rw[e1];refine List.Perm.trans ?_ (List.Perm.append_left _ (List.perm_middle (a:=q) (l₁:=HK) (l₂:=X)).symm);exact(List.perm_middle (a:=q) (l₁:=HS.eraseIdx k) (l₂:=HK++X)).symm
theorem Mw{f:Nat->List Value}{z:Nat}:∀{n m:Nat},(∀i,i<n->(f i).length=z)->m<=n->(flat f n).take (m*z)=flat f m:=by
 intro n
 induction n with
 |zero=>
  intro m _ h;have:m=0:=by omega
  subst this;simp[flat]
 |succ n ih=>
  intro m h hm;rcases Nat.lt_or_ge n m with q|q
  ·have:m=n+1:=by omega
   subst this;exact List.take_of_length_le (by rw[eW h];exact Nat.le_refl _)
  ·show(flat f n++f n).take (m*z)=_
   have hl:(flat f n).length=n*z:=eW λi hi=>h i (by omega);have hle:m*z<=n*z:=Nat.mul_le_mul_right _ q;rw[List.take_append_of_le_length (by omega)];exact ih (λi hi=>h i (by omega)) q
theorem Og{T r n e0 sz T':Nat}{x hi:Operand}{p:List pE}{cc:AV G}{e:Ty}{f:Nat->e.T G}{k:IntKind}{i:Int}{q:Bool}(hT:Qa P tt T=some (n,e0,sz))(hx:ei C S [] x=some (.ptr r p))(hh:jl (ei C S [] hi)=some (k,i,q))(ho:bY S.O r=some (.bT T' cc))(hl:Fx tt.F cc p=some (.dat (.jo n e) f))(hg:cF i (n+1)=true):
  SK P ⟨d, .slice T x none (some hi) none,ty,ps,af,g⟩ C S {S with O:=tg S.O r} (.dat (.sl e) ((List.range i.toNat).map f)):=by
 intro c N ρ J HK X a w next Q h hk
 have hE:=bX h (ch:=[]) (by simp);obtain⟨b,o,e1,e2,e3⟩:=my (hE.ok _ _ hx);obtain⟨b',u,J',Y,m1,m2,mJ,m3,h'⟩:=h.agi ho;have eb:b=b'/\o=0:=by rcases e1 with h1|⟨n,cap,_,_,_,_,h1,_⟩<;>rw[h1]at m1<;>simp[cE]at m1;exact m1
 obtain⟨rfl,rfl⟩:=eb;obtain⟨g1,g2⟩:=bI hg;have g2:=Nat.lt_succ_iff.1 g2;obtain⟨u',n1,n2,n3⟩:=DG hl m2 e3;obtain⟨u2,e4,⟨IM,r1,r2⟩,_⟩:=n1;cases e4;have hlen:∀i,i<n->(IM i).length=(e.L G).n:=λi hi=>(e.L G).len (r2 i hi);have hsz:u'.cells.size=n*(e.L G).n:=by rw[← Array.length_toList,r1,eW hlen]
 have hm:((List.range i.toNat).map f).length=i.toNat:=by simp
 have hxl:=hE.ev _ _ hx;rw[e2,Nat.zero_add]at hxl;have fl:=gN hE hh;have hfz:yH J' (.slice (some ⟨b,dz p,none⟩) i.toNat n) (e.L G) (flat IM i.toNat) ((List.range i.toNat).map f):=by
  refine⟨⟨_,_,by rw[hm]⟩,?_,λw hw=>?_⟩
  ·rw[hm]
   refine⟨IM,rfl,λj hj=>?_⟩;have e5:((List.range i.toNat).map f).getD j default=f j:=by simp[List.getD_eq_getElem?_getD,hj]
   show(e.L G).ef J' (IM j) (((List.range i.toNat).map f).getD j default);rw[e5];exact(e.L G).mono mJ (r2 j (by omega))
  ·obtain⟨k1,k2⟩:=m3 w hw
   refine⟨by rw[hm,eW λj hj=>hlen j (by omega)], .inr ⟨b,dz p,n,by rw[hm],k2,by rw[hm];exact g2,λj v hj=>?_⟩⟩;rw[nN k1];have hj1:j<i.toNat*(e.L G).n:=by have:=(List.getElem?_eq_some_iff.1 hj).1;rwa[eW λj hj=>hlen j (by omega)]at this
   have hj2:i.toNat*(e.L G).n<=n*(e.L G).n:=Nat.mul_le_mul_right _ g2;rw[← Mw hlen g2, ← r1, ← n2,List.getElem?_take,aiz hj1,List.getElem?_take,aiz (by omega),List.getElem?_drop]at hj;exact hj
 obtain⟨M5,_,hs0,hm'⟩:=h'.st;have hv:rv J' ρ (.dat (.sl e) ((List.range i.toNat).map f)) (.slice (some ⟨b,dz p,none⟩) i.toNat n):=⟨_,rfl,CA hfz⟩;have fin:∀w',aO [] w w'->next (a.put d (.slice (some ⟨b,dz p,none⟩) i.toNat n)) w':=λw' hs=>by refine hk ρ J' Y w' _ (aX.cL _ _) mJ hv ?_;obtain⟨XM,p1,p3⟩:=h'.hp;exact⟨h'.tm,h'.df,h'.si.ext hs,h'.fs,h'.fc,h'.kc,⟨XM,p1,p3.ext hs⟩,h'.kn,h'.fr⟩
 rcases CH hT with h3|h3
 ·exact(Ip (P:=P) (N:=N) (c:=c) hxl fl g1 g2) a.defers a w next Q hs0 fin
 ·exact(Io (P:=P) (N:=N) (c:=c) h3 hxl fl g1 g2) a.defers a w next Q hs0 fin
theorem QM{F:dc}{x y:Operand}{t e b off n i j T:Nat}{cs cs':List Value}{H':List aF}(ht:BV P t e 1=true)(hx:Bw.ev F x=some (Q3 b off i n 1))(hy:Bw.ev F y=some (Q3 b off j n 1))(hi:i<=n)(hj:j<=n)(hle:off+n<=cs.length)(h1:lQ ((cs.drop (off+j)).take (min (n-j) (n-i))))
  (hc':bA cs (if n=i then off else off+i*1) ((cs.drop (off+j)).take (min (n-j) (n-i)))=cs')[hc:oG H b T cs][hs:Co H b cs' H']:
  RX (α:=Unit) P N c ⟨d, .call ⟨.builtin .copy, #[x,y], #[t,t]⟩,ty,ps,af,g⟩ F H (λ_ =>True) (λ_ => .int .i64 (min (n-j) (n-i):Nat)) (λ_ =>H'):=λD a w next Q hst hk=>by
 obtain⟨inf,e1,e2,e3⟩:=pC.get ht;have hb:w.heap[b]? =some (.cells cs.toArray T (0,0)):=hst.hp.holds _ hc.mem;let m:=min (n-j) (n-i);let o:=if n=i then off else off+i*1
 let src:=(cs.drop (off+j)).take m;have qH:src.length=m:=by simp only[src,List.length_take,List.length_drop];omega
 have Ye:m≠0->o=off+i:=λhm=>by simp only[o];split<;>omega
 have Ut:∀l:Nat,(if n=l then(⟨b,off,none⟩:Addr)else⟨b,off+l*1,none⟩)=⟨b,if n=l then off else off+l*1,none⟩:=λl=>by split<;>rfl
 have hsrc:∀(q:Nat) (v:Value),src[q]? =some v->w.cell? ((⟨b,if n=j then off else off+j*1,none⟩:Addr).add q)=some v:=λq v hq=>by
  have Pj:q<m:=by have:=(List.getElem?_eq_some_iff.1 hq).1;omega
  have hnj:¬n=j:=by omega
  rw[aiA hnj,Addr.add_lit,nN (hst.hp.holds _ hc.mem)];simp only[src,List.getElem?_take,aiz Pj,List.getElem?_drop]at hq;rw[← hq,Nat.mul_one]
 have h1:lQ src:=h1;have hrun:=run_copy_row (P:=P) w t t ty e b o (n-i) (n-i) ⟨b,if n=j then off else off+j*1,none⟩ (n-j) (n-j) cs.toArray T src e1 (by simp[e2,e3]) hb qH hsrc (by
  rw[qH,List.size_toArray];by_cases hm:m=0
  ·rw[hm];simp only[o];split<;>omega
  ·rw[Ye hm];omega) h1
 have hnew:cs.take o++src++cs.drop (o+src.length)=cs':=hc';have fN:aO [b] w (w.setRow b cs'.toArray):=⟨rfl,rfl,rfl,by simp,λk _ hk=>setRow_other w b k _ (by simpa using hk)⟩;refine cJ (by simp) (v:= .int .i64 (m:Nat)) (w':=w.setRow b cs'.toArray) ?_ (hk () _ trivial (hst.si.store hst.hp hc.mem (by simp[aF.bT]) fN) (hst.hp.Vj hs fN hst.si.size ?_))
 ·have e5:(cs.toArray.toList.take o++src++cs.toArray.toList.drop (o+src.length)).toArray=cs'.toArray:=by rw[← hnew]
  rw[e5,qH]at hrun;have qG:a.eval x= .slice (some ⟨b,o,none⟩) (n-i) (n-i):=by rw[aH hst.fr hx,Q3,Ut i]
  have SA:a.eval y= .slice (some ⟨b,if n=j then off else off+j*1,none⟩) (n-j) (n-j):=by rw[aH hst.fr hy,Q3,Ut j]
  simp only[Nat.mul_one]at hrun SA;simp[execOp,resolve,invoke,builtin,qG,SA,hrun];rfl
 ·intro T' WU hT
  have:=BY (hst.hp.holds _ hc.mem) hT;obtain⟨rfl,rfl⟩:=this;have:=setRow_heap w b cs.toArray cs'.toArray T (0,0) hb;simpa[aF.holds]using this
def Fe:List pE->List pE->Bool
 |[],[]=>true
 | .Ag j o::r, .Ag k q::s=>Nat.beq j k&&(Nat.beq o q&&Fe r s)
 |_,_ =>false
theorem RK:∀{p q:List pE},Fe p q=true->p=q:=by
 intro p
 induction p with
 |nil=>intro q h;cases q with
  |nil=>rfl
  |cons _ _ =>cases h
 |cons s r ih=>
  intro q h;cases s with
  |Ag j o=>
   cases q with
   |nil=>cases h
   |cons t q=>
    cases t with
    |Ag k l=>simp only[Fe,aiC]at h;rw[aiB h.1,aiB h.2.1,ih h.2.2]
    |idx _ _ _ =>cases h
  |idx _ _ _ =>cases q<;>cases h
theorem HP{k:IntKind}{n:Nat}{f:Nat->Int}{cs:List Value}(h:(LA (LI k) n).ef J cs f):cs=flat (λq=>[Value.int k (f q)]) n:=by obtain⟨g,rfl,h1⟩:=h;exact ta λi hi=>h1 i hi
theorem Pc{k:IntKind}{n:Nat}{f:Nat->Int}:rv (G:=G) J ρ (.dat (.jo n (.int k)) f) (.agg (flat (λq=>[Value.int k (f q)]) n).toArray):=
 ⟨_,rfl,⟨λq=>[Value.int k (f q)],rfl,λ_ _ =>rfl⟩,λ_ =>⟨_,rfl⟩,nofun⟩
theorem JR{k:IntKind}{f:Nat->Int}{cs:List Value}{off i j n:Nat}(hi:i<=n)(hj:j<=n)(hle:off+n<=cs.length)(hsub:(cs.drop off).take n=flat (λq=>[Value.int k (f q)]) n):
  bA cs (if n=i then off else off+i*1) ((cs.drop (off+j)).take (min (n-j) (n-i)))=bA cs off (flat (λq=>[Value.int k (UB i j n f q)]) n):=by
 let m:=min (n-j) (n-i);let o:=if n=i then off else off+i*1
 let src:=(cs.drop (off+j)).take m;show bA cs o src=_;have qH:src.length=m:=by simp only[src,List.length_take,List.length_drop];omega
 have Ye:m≠0->o=off+i:=λhm=>by simp only[o];split<;>omega
 have hfl:(flat (λq=>[Value.int k (UB i j n f q)]) n).length=n:=by rw[eW (k:=1) (λq _ =>rfl)];omega
 have hcell:∀q,q<n->cs[off+q]? =some (Value.int k (f q)):=λq hq=>by
  have h5:((cs.drop off).take n)[q]? =(flat (λq=>[Value.int k (f q)]) n)[q]? :=by rw[hsub]
  rw[List.getElem?_take,aiz hq,List.getElem?_drop,PS (λi=>rfl),aiz hq]at h5;exact h5
 refine sw λq=>?_;rw[fB (off:=o) (vs:=src) (by
  rw[qH];by_cases hm:m=0
  ·rw[hm];simp only[o];split<;>omega
  ·rw[Ye hm];omega),fB (off:=off) (by omega),hfl,qH]
 by_cases hin:off<=q/\q<off+n
 ·rw[aiz hin,PS (λi=>rfl),aiz (show q-off<n by omega)]
  by_cases hm:i<=q-off/\q-off<i+m
  ·have ho:=Ye (by omega)
   rw[aiz (by omega)];simp only[UB];rw[aiz hm];simp only[src,List.getElem?_take,List.getElem?_drop];rw[aiz (by omega),show off+j+(q-o)=off+(q-off-i+j)by omega];exact hcell _ (by omega)
  ·have hno:¬(o<=q/\q<o+m):=λhq=>by
    have ho:=Ye (by omega);omega
   rw[aiA hno];simp only[UB];rw[aiA hm];have:=hcell (q-off) (by omega);rw[show off+(q-off)=q by omega]at this;exact this
 ·rw[aiA hin]
  have hno:¬(o<=q/\q<o+m):=λhq=>by have ho:=Ye (by omega);omega
  rw[aiA hno]
theorem Dy{r:Nat}{p:List pE}{n sz:Nat}{up:Bool}{i:Int}{u:Value}(h:rv (G:=G) J ρ (.A0 r p n sz up i) u){b:Nat}(m1:ρ r=some (cE b 0)):u=Mf b (dz p) n sz up i.toNat/\(∀s∈p,s.ok)/\i.toNat<=n:=by
 obtain⟨⟨b',o,e1,e2⟩,e3,e4⟩:=h;have eb:b'=b/\o=0:=by rcases e1 with h1|⟨n,cap,_,_,_,_,h1,_⟩<;>rw[h1]at m1<;>simp[cE]at m1;exact m1
 obtain⟨rfl,rfl⟩:=eb;rw[Nat.zero_add]at e2;exact⟨(List.cons.inj e2).1,e3,e4⟩
theorem Ve{T e bt r T' n:Nat}{x y:Operand}{p p':List pE}{cc IM:AV G}{k:IntKind}{f:Nat->Int}{i j:Int}(hT:tt.te.find T=some (.sl e 1 bt))(hx:ei C S [] x=some (.A0 r p n 1 true i))(hy:ei C S [] y=some (.A0 r p' n 1 true j))(hp:Fe p p'=true)(ho:bY S.O r=some (.bT T' cc))(hl:Fx tt.F cc p=some (.dat (.jo n (.int k)) f))
  (hst:I3 tt.F cc p (.dat (.jo n (.int k)) (UB i.toNat j.toNat n f))=some IM):
  SK P ⟨d, .call ⟨.builtin .copy, #[x,y], #[T,T]⟩,ty,ps,af,g⟩ C S {S with O:=m0 S.O r (.bT T' IM)} (.int .i64 ((min (n-j.toNat) (n-i.toNat):Nat):Int)):=by
 intro c N ρ J HK X a w next Q h hk
 obtain⟨HS,h1,hs0,hm⟩:=h.st;have hE:=bX h (ch:=[]) (by simp);obtain⟨kk,q,k1,⟨b,u,m1,rfl,m3⟩,k3⟩:=h1.set ho;obtain rfl:=RK hp;obtain⟨x1,e3,x3⟩:=Dy (hE.ok _ _ hx) m1;obtain⟨y1,_,y3⟩:=Dy (hE.ok _ _ hy) m1;have qG:=hE.ev _ _ hx;have SA:=hE.ev _ _ hy;rw[x1,Ga]at qG;rw[y1,Ga]at SA;obtain⟨u',n1,n2,n3⟩:=DG hl m3 e3;obtain⟨u2,e4,hr,_⟩:=n1;cases e4;have hfl:=HP hr;have hsz:u'.cells.size=n:=by rw[← Array.length_toList,hfl,eW (k:=1) (λ_ _ =>rfl),Nat.mul_one]
 rw[hsz,hfl]at n2;rw[hsz]at n3;obtain⟨u3,q1,q2,q3,q4⟩:=F3 (Pc (J:=J) (ρ:=ρ) (k:=k) (n:=n) (f:=UB i.toNat j.toNat n f)) hst m3 e3;have hone:lQ ((u.cells.toList.drop (dz p+j.toNat)).take (min (n-j.toNat) (n-i.toNat))):=λv hv=>by
  obtain⟨q,hq⟩:=List.mem_iff_getElem?.1 hv;have hq1:q<min (n-j.toNat) (n-i.toNat):=by have:=(List.getElem?_eq_some_iff.1 hq).1;simp only[List.length_take]at this;omega
  rw[List.getElem?_take,aiz hq1,List.getElem?_drop]at hq;have h5:((u.cells.toList.drop (dz p)).take n)[j.toNat+q]? =(flat (λq=>[Value.int k (f q)]) n)[j.toNat+q]? :=by rw[n2]
  rw[List.getElem?_take,aiz (by omega),List.getElem?_drop, ← Nat.add_assoc,hq,PS (λi=>rfl),aiz (by omega)]at h5;cases h5;rfl
 have EC:=nL (m:=HK++X) k1;haveI:oG (HS++(HK++X)) b T' u.cells.toList:=⟨List.mem_of_getElem? EC⟩;haveI:Co (HS++(HK++X)) b u3.cells.toList (HS.set kk (.cells b T' u3.cells.toList)++(HK++X)):=⟨kk,T',_,EC,by rw[qV k1]⟩;refine QM (cs:=u.cells.toList) (cs':=u3.cells.toList) (tt.sl hT).1.ok qG SA x3 y3 (by simpa using n3) hone ?_ a.defers a w next Q hs0 λ_ w' _ hs hp=>?_
 ·rw[q2]
  exact JR x3 y3 (by simpa using n3) n2
 ·exact hk ρ J [] w' _ (aX.cL _ _) (λ_ h=>h) rfl (h.zk (k3 (.bT T' IM) _ ⟨b,u3,m1,rfl,q1⟩) hs hp)
theorem S9{e:Nat}{k:IntKind}(h:zU P e k=true):(P.info? e).bind (·.zero)=some (.int k 0):=by
 unfold zU at h;split at h
 ·rename_i k' n h1
  simp only[aiC,beq_iff_eq]at h;obtain rfl:=DK h.1;rw[h1,h.2]
 ·cases h
theorem Vf{T e bt r T' n:Nat}{x:Operand}{p:List pE}{cc IM:AV G}{k:IntKind}{f:Nat->Int}{i:Int}(hT:tt.te.find T=some (.sl e 1 bt))(hx:ei C S [] x=some (.A0 r p n 1 false i))(hi:Nat.beq i.toNat n=true)(hn:Nat.blt 0 n=true)(ho:bY S.O r=some (.bT T' cc))(hl:Fx tt.F cc p=some (.dat (.jo n (.int k)) f))(hz:zU P e k=true)
  (hst:I3 tt.F cc p (.dat (.jo n (.int k)) (λ_ =>(0:Int)))=some IM):
  SK P ⟨d, .call ⟨.builtin .clear, #[x], #[T]⟩,ty,ps,af,g⟩ C S {S with O:=m0 S.O r (.bT T' IM)} (.gS .nil):=by
 intro c N ρ J HK X a w next Q h hk
 obtain⟨HS,h1,hs0,hm⟩:=h.st;have hE:=bX h (ch:=[]) (by simp);obtain⟨kk,q,k1,⟨b,u,m1,rfl,m3⟩,k3⟩:=h1.set ho;obtain⟨x1,e3,x3⟩:=Dy (hE.ok _ _ hx) m1;have qG:=hE.ev _ _ hx;rw[x1,zo,aiB hi]at qG;obtain⟨u',n1,n2,n3⟩:=DG hl m3 e3;obtain⟨u2,e4,hr,_⟩:=n1;cases e4;have hfl:=HP hr;have hsz:u'.cells.size=n:=by rw[← Array.length_toList,hfl,eW (k:=1) (λ_ _ =>rfl),Nat.mul_one]
 rw[hsz]at n3;obtain⟨u3,q1,q2,q3,q4⟩:=F3 (Pc (J:=J) (ρ:=ρ) (k:=k) (n:=n) (f:=λ_ =>(0:Int))) hst m3 e3;have EC:=nL (m:=HK++X) k1;haveI:oG (HS++(HK++X)) b T' u.cells.toList:=⟨List.mem_of_getElem? EC⟩;haveI:Co (HS++(HK++X)) b u3.cells.toList (HS.set kk (.cells b T' u3.cells.toList)++(HK++X)):=⟨kk,T',_,EC,by rw[qV k1]⟩;have tz:Ka P e (.int k 0):=⟨S9 hz⟩;refine QO (cs:=u.cells.toList) (cs':=u3.cells.toList) (z:= .int k 0) (tt.sl hT).1.ok tz rfl rfl qG (by simpa[Nat.blt_eq]using hn) (by simpa using n3) ?_ a.defers a w next Q hs0 λ_ w' _ hs hp=>?_
 ·rw[q2, ← vq]
  rfl
 ·exact hk ρ J [] w' _ (aX.cL _ _) (λ_ h=>h) ⟨[],rfl,rfl⟩ (h.zk (k3 (.bT T' IM) _ ⟨b,u3,m1,rfl,q1⟩) hs hp)
end Go.Rw
namespace Go.Bw
open Go Go.RowKit
def TQ(H:List aF)(w w':World):Prop:=w.heap.size<=w'.heap.size/\∀b,b<w.heap.size->b∉bn H->w'.heap[b]? =w.heap[b]?
theorem MH{P:Program}{N:Nat}{c:Cx}{D:List Deferred}{Q:Exit->Act->World->Prop}{H:List aF}{g:Operand}{ps:List Nat}{assign body:Code}
  {gf n:Nat}{caps:Array Value}{Hc Ho:List aF}{qK:Nat->List Value}{α β:Type}
  {a:Act}{w:World}(hst:St N c D [] H a w)(hro:c.ro=none)(hg:a.eval g= .func (.func gf) #[] caps)(Yf:∀args w,(callFunc gf args).run P w= .ok (.enter gf args) w)
  (hit:∀(ly:Nat) (J:Nat->List Nat->World->Prop) (Jx:List Nat->World->Prop) (bs:List Nat) (W1:World),TQ H w W1->(∀b∈bs,b∈bn H\/w.heap.size<=b)->bq (bs++bn Hc) W1.heap.size (.ext bs (J 0 bs)::Hc) W1->Rnd P ly (bs++bn Hc) W1 J Jx qK n->
   Calls P gf (.func (.yield ly) #[] #[]::caps.toList).toArray W1 λe w'=>∃x:Bool×List Nat,e= .returned (.tuple #[])/\aO (bs++bn Hc) W1 w'/\bq (bs++bn Hc) W1.heap.size (.ext x.2 (bif x.1 then J n x.2 else Jx x.2)::Ho) w')(hlen:∀k,(qK k).length=ps.length)(hps:ps.all (Nat.blt · N)=true)
  (p:Nat->α->Prop)(I:Nat->α->List aF)(px:Code->β->Prop)(X:β->List aF)(i0:α)(Mm:p 0 i0)(hH:H=Hc++I 0 i0)
  (hbody:∀(k:Nat) (i:α) (rec:Loop) (bs:List Nat) (W:World),k<n->p k i->rec.state= .ready->rec.pending=none->c.w0.heap.size<=W.heap.size->
   (∀b,(b∈bs\/W.heap.size<=b)->(b∈c.bs\/c.w0.heap.size<=b))->TQ H w W->bq bs W.heap.size (.obj w.heap.size (.deferred (some [])):: .obj (w.heap.size+1) (.loop rec)::I k i) W->
   assign.wpIn (FA (some (w.heap.size+1))) 0 P (XA P (w.heap.size+1) body (QH ⟨some (w.heap.size+1),W,bs⟩ (JW c.w0.heap.size c.bs (p (k+1)) (λi=> .obj w.heap.size (.deferred (some [])):: .obj (w.heap.size+1) (.loop rec)::I (k+1) i))
    (JW c.w0.heap.size c.bs (λq:Code×β=>px q.1 q.2) (λq=> .obj w.heap.size (.deferred (some [])):: .obj (w.heap.size+1) (.loop {rec with state:= .done,pending:=some q.1})::X q.2))))
    {tmps:=(ps.zip (qK k)).foldl (λt q=>t.setIfInBounds q.1 q.2) a.tmps,defers:=[]} W)
  (hdone:∀i w2,p n i->TQ H w w2->St N c (mark w.heap.size::D) [] (.obj w.heap.size (.deferred (some []))::(Ho++I n i)) {a with defers:=mark w.heap.size::a.defers} w2->Q .normal {a with defers:=mark w.heap.size::a.defers} w2)
  (abC:∀j i w2,px j i->TQ H w w2->St N c (mark w.heap.size::D) [] (.obj w.heap.size (.deferred (some []))::(Ho++X i)) {a with defers:=mark w.heap.size::a.defers} w2->j.wpIn (FA c.ro) 0 P Q {a with defers:=mark w.heap.size::a.defers} w2):
  (Code.rangeFunc g ps.toArray assign body).wpIn (FA c.ro) 0 P Q a w:=by
 refine wpIn_rangeFunc λfn _ =>?_;have rJ:(FA c.ro).round=none:=hro;rw[rJ];obtain⟨rec,br⟩:∃rec:Loop,rec={state:= .ready,pending:=none,fn,tmps:=a.tmps,params:=ps.toArray,assign,body,defers:=w.heap.size}:=⟨_,rfl⟩;obtain⟨W1,SM⟩:∃W1,(w.alloc (.deferred (some []))).alloc (.loop rec)=W1:=⟨_,rfl⟩;have hs1:aO [] w W1:=by rw[← SM];exact(aO.alloc w _).ext (aO.alloc _ _)
 have aiq:W1.heap.size=w.heap.size+2:=by rw[← SM];simp
 have hL1:W1.heap[w.heap.size+1]? =some (.loop rec):=by rw[← SM];have:=World.alloc_heap_new (w.alloc (.deferred (some []))) (.loop rec);rwa[World.size_alloc]at this
 have hK1:W1.heap[w.heap.size]? =some (.deferred (some [])):=by rw[← SM];exact(Below.heap_alloc _ _ _ (by simp)).trans (World.alloc_heap_new w _)
 have hev:=hg;have hfr:=hst.fr;let J:Nat->List Nat->World->Prop:=λk=>JW c.w0.heap.size c.bs (p k) (λi=> .obj w.heap.size (.deferred (some [])):: .obj (w.heap.size+1) (.loop rec)::I k i);let Jx:List Nat->World->Prop:=JW c.w0.heap.size c.bs (λq:Code×β=>px q.1 q.2) (λq=> .obj w.heap.size (.deferred (some [])):: .obj (w.heap.size+1) (.loop {rec with state:= .done,pending:=some q.1})::X q.2);have abw:bq c.bs c.w0.heap.size (Hc++I 0 i0) W1:=by rw[← hH];exact hst.hp.ext hs1
 have hH1:bq c.bs c.w0.heap.size (.obj w.heap.size (.deferred (some [])):: .obj (w.heap.size+1) (.loop rec)::(Hc++I 0 i0)) W1:=by
  have hlt:∀s∈Hc++I 0 i0,∀b∈s.bT,b<w.heap.size:=λs hs b hb=>by
   have hm:s∈H:=by rw[hH];exact hs
   exact(hst.hp.own s hm b hb).2
  have aip:=hst.si.size;refine bq.cons (bq.cons abw hL1 ?_ ?_) hK1 ?_ ?_
  ·intro b hb;have e:b=w.heap.size+1:=by simpa[aF.bT]using hb
   subst e;exact⟨.inr (by omega),by omega⟩
  ·intro s hs b hb jZ
   have e:b=w.heap.size+1:=by simpa[aF.bT]using hb
   have:=hlt s hs b jZ;omega
  ·intro b hb;have e:b=w.heap.size:=by simpa[aF.bT]using hb
   subst e;exact⟨.inr (by omega),by omega⟩
  ·intro s hs b hb jZ
   have e:b=w.heap.size:=by simpa[aF.bT]using hb
   rcases List.mem_cons.1 hs with rfl|hs
   ·have e2:b=w.heap.size+1:=by simpa[aF.bT]using jZ
    omega
   ·have:=hlt s hs b jZ;omega
 let I0:List aF:= .obj w.heap.size (.deferred (some [])):: .obj (w.heap.size+1) (.loop rec)::I 0 i0;have hHI:bq c.bs c.w0.heap.size I0 W1:=hH1.sub (by
  refine List.Sublist.cons_cons _ (List.Sublist.cons_cons _ (List.sublist_append_right _ _)))
 have hHc:bq c.bs c.w0.heap.size Hc W1:=hH1.sub (by
  refine List.Sublist.cons _ (List.Sublist.cons _ (List.sublist_append_left _ _)))
 have hap:∀r∈I0,∀s∈Hc,r.apart s:=by
  intro r hr s hs;have hpw:=hH1.apart;rw[List.pairwise_cons,List.pairwise_cons,List.pairwise_append]at hpw;obtain⟨q1,q2,_,_,q3⟩:=hpw;rcases List.mem_cons.1 hr with rfl|hr
  ·exact q1 s (by simp[hs])
  ·rcases List.mem_cons.1 hr with rfl|hr
   ·exact q2 s (by simp[hs])
   ·exact aF.qA (q3 s hs r hr)
 refine⟨w.heap.size+1,[mark w.heap.size],W1,{target:= .fn (.func gf) caps,args:= #[.func (.yield (w.heap.size+1)) #[] #[]]},W1,gf,
  (Value.func (.yield (w.heap.size+1)) #[] #[]::caps.toList).toArray,W1,?_,?_,λ_ _ =>trivial,?_,λh=>by simp at h,?_⟩
 ·rw[← SM,br];exact run_enterLoop_outer _ _ _ _ _
 ·simp only[resolve,hev]
  simp[go_sem]
 ·have:=Yf (#[.func (.yield (w.heap.size+1)) #[] #[]]++caps) W1
  simp only[invoke];rw[this];congr 2;simp
 ·have hin:bq (bn I0++bn Hc) W1.heap.size (aF.ext (bn I0) (J 0 (bn I0))::Hc) W1:=by
   refine⟨?_,?_,?_⟩
   ·intro r hr
    rcases List.mem_cons.1 hr with rfl|hr
    ·exact Ki (I:=λi=> .obj w.heap.size (.deferred (some [])):: .obj (w.heap.size+1) (.loop rec)::I 0 i) i0 Mm hHI
    ·exact hHc.holds r hr
   ·intro r hr b hb
    rcases List.mem_cons.1 hr with rfl|hr
    ·obtain⟨s,hs,jZ⟩:=aV.1 hb
     exact⟨.inl (aiG _ hb),(hHI.own s hs b jZ).2⟩
    ·exact⟨.inl (aiF _ (aV.2 ⟨r,hr,hb⟩)),(hHc.own r hr b hb).2⟩
   ·refine List.pairwise_cons.2 ⟨λs hs b hb jZ=>?_,hHc.apart⟩
    obtain⟨r,hr,EV⟩:=aV.1 hb;exact hap r hr s hs b EV jZ
  have Pk:∀b∈bn I0++bn Hc,b∈c.bs\/c.w0.heap.size<=b:=λb hb=>by
   rcases List.mem_append.1 hb with h|h
   ·obtain⟨r,hr,EV⟩:=aV.1 h;exact(hHI.own r hr b EV).1
   ·obtain⟨r,hr,EV⟩:=aV.1 h;exact(hHc.own r hr b EV).1
  have V2:aO c.bs c.w0 W1:=hst.si.ext hs1;have Wp:∀w',aO (bn I0++bn Hc) W1 w'->TQ H w w':=λw' hs=>⟨by have:=hs.size;omega,λb hb hnb=>by
   have h1:b∉bn I0++bn Hc:=λhm=>hnb (by
    rw[hH];rcases List.mem_append.1 hm with hm|hm
    ·obtain⟨r,hr,EV⟩:=aV.1 hm
     rcases List.mem_cons.1 hr with rfl|hr
     ·have e:b=w.heap.size:=by simpa[aF.bT]using EV
      omega
     ·rcases List.mem_cons.1 hr with rfl|hr
      ·have e:b=w.heap.size+1:=by simpa[aF.bT]using EV
       omega
      ·exact aV.2 ⟨r,aiF _ hr,EV⟩
    ·obtain⟨r,hr,EV⟩:=aV.1 hm
     exact aV.2 ⟨r,aiG _ hr,EV⟩)
   rw[hs.block b (by omega) h1];exact hs1.block b hb (by simp)⟩
  have hbI:∀b∈bn I0,b∈bn H\/w.heap.size<=b:=λb hm=>by
   obtain⟨r,hr,EV⟩:=aV.1 hm;rcases List.mem_cons.1 hr with rfl|hr
   ·have e:b=w.heap.size:=by simpa[aF.bT]using EV
    exact .inr (by omega)
   ·rcases List.mem_cons.1 hr with rfl|hr
    ·have e:b=w.heap.size+1:=by simpa[aF.bT]using EV
     exact .inr (by omega)
    ·exact .inl (by rw[hH];exact aV.2 ⟨r,aiF _ hr,EV⟩)
  have Wo:=hit (w.heap.size+1) J Jx (bn I0) W1 (Wp W1 (aO.refl _ _)) hbI hin ?_
  ·refine gy c.ro ?_
   intro cs;obtain⟨e,w2,fr,⟨x,he,abp,Wd⟩,Jz,DM⟩:=Wo cs;refine⟨e,w2,fr,?_,Jz,DM⟩;subst he;obtain⟨go,bs'⟩:=x;have abo:aO c.bs c.w0 w2:=V2.trans abp Pk;have hex:=Wd.holds _ (List.mem_cons_self);have agd:∀r∈Ho,r.holds w2:=λr hr=>Wd.holds r (aiL _ hr);have agc:∀s∈Ho,∀b∈bs',b∉s.bT:=λs hs b hb=>by have:=Wd.apart;rw[List.pairwise_cons]at this;exact this.1 s hs b hb
   have both:∀(IL:List aF) (jump:Option Code) (st:LoopState),st≠ .busy->bs'=bn (.obj w.heap.size (.deferred (some [])):: .obj (w.heap.size+1) (.loop {rec with state:=st,pending:=jump})::IL)->
     bq c.bs c.w0.heap.size (.obj w.heap.size (.deferred (some [])):: .obj (w.heap.size+1) (.loop {rec with state:=st,pending:=jump})::IL) w2->
     ∃w4,(Instr.endLoop (w.heap.size+1)).run P w2= .ok jump w4/\TQ H w w4/\St N c (mark w.heap.size::D) [] (.obj w.heap.size (.deferred (some []))::(Ho++IL)) {a with defers:=mark w.heap.size::a.defers} w4:=by
    intro IL jump st V1 jZ hI;have hl:w2.heap[w.heap.size+1]? =some (.loop {rec with state:=st,pending:=jump}):=hI.holds (.obj (w.heap.size+1) _) (by simp);have zM:bq c.bs c.w0.heap.size (.obj w.heap.size (.deferred (some [])):: .obj (w.heap.size+1) (.loop {rec with state:=st,pending:=jump})::(Ho++IL)) w2:=by
     have hq:=hI.apart;rw[List.pairwise_cons,List.pairwise_cons]at hq;refine⟨?_,?_,?_⟩
     ·intro r hr
      rcases List.mem_cons.1 hr with rfl|hr
      ·exact hI.holds _ (by simp)
      ·rcases List.mem_cons.1 hr with rfl|hr
       ·exact hI.holds _ (by simp)
       ·rcases List.mem_append.1 hr with h|h
        ·exact agd r h
        ·exact hI.holds r (by simp[h])
     ·intro r hr b hb
      rcases List.mem_cons.1 hr with rfl|hr
      ·exact hI.own _ (by simp) b hb
      ·rcases List.mem_cons.1 hr with rfl|hr
       ·exact hI.own _ (by simp) b hb
       ·rcases List.mem_append.1 hr with h|h
        ·obtain⟨o,lt⟩:=Wd.own r (aiL _ h) b hb
         exact⟨o.elim (Pk b) (λo=> .inr (Nat.le_trans V2.size o)),lt⟩
        ·exact hI.own r (by simp[h]) b hb
     ·have hcI:∀r,r∈(aF.obj w.heap.size (.deferred (some [])):: .obj (w.heap.size+1) (.loop {rec with state:=st,pending:=jump})::IL)->∀s∈Ho,r.apart s:=λr hr s hs b hb FB=>agc s hs b (by rw[jZ];exact aV.2 ⟨r,hr,hb⟩) FB
      refine List.pairwise_cons.2 ⟨λs hs=>?_,List.pairwise_cons.2 ⟨λs hs=>?_,List.pairwise_append.2 ⟨(List.pairwise_cons.1 Wd.apart).2,hq.2.2,λs hs r hr=>aF.qA (hcI r (by simp[hr]) s hs)⟩⟩⟩
      ·rcases List.mem_cons.1 hs with rfl|hs
       ·exact hq.1 _ (by simp)
       ·rcases List.mem_append.1 hs with h|h
        ·exact hcI _ (by simp) s h
        ·exact hq.1 s (by simp[h])
      ·rcases List.mem_append.1 hs with h|h
       ·exact hcI _ (by simp) s h
       ·exact hq.2.1 s h
    have Gu:St N c (mark w.heap.size::D) [] (.obj w.heap.size (.deferred (some [])):: .obj (w.heap.size+1) (.loop {rec with state:=st,pending:=jump})::(Ho++IL)) {a with defers:=mark w.heap.size::a.defers} w2:=
     ⟨hst.tm,hfr,by simp[hst.df],abo,zM⟩
    have hso:MP (.obj w.heap.size (.deferred (some [])):: .obj (w.heap.size+1) (.loop {rec with state:=st,pending:=jump})::(Ho++IL)) (w.heap.size+1) (.loop {rec with state:= .exhausted,pending:=jump}) (.obj w.heap.size (.deferred (some [])):: .obj (w.heap.size+1) (.loop {rec with state:= .exhausted,pending:=jump})::(Ho++IL)):=inferInstance;have ho:MS (.obj w.heap.size (.deferred (some [])):: .obj (w.heap.size+1) (.loop {rec with state:=st,pending:=jump})::(Ho++IL)) (w.heap.size+1) (.loop {rec with state:=st,pending:=jump}):=inferInstance;obtain⟨h3,_⟩:=Gu.m0 ho hso;have hap:=Wp w2 abp;refine⟨_,run_endLoop hl V1,⟨by have:=hap.1;simpa[World.putObj]using this,λb hb hnb=>(World.putObj_heap_other (by omega)).trans (hap.2 b hb hnb)⟩,⟨h3.tm,h3.fr,h3.df,h3.si,h3.hp.sub ?_⟩⟩;exact List.Sublist.cons_cons _ (List.Sublist.cons _ (List.Sublist.refl _))
   cases go with
   |true=>
    obtain⟨i,SD,hI,jZ⟩:=zQ hex;have hrr:({rec with state:=LoopState.ready,pending:=none}:Loop)=rec:=by rw[br]
    obtain⟨w4,h4,h4a,h5⟩:=both (I n i) none .ready (by simp) (by rw[hrr];exact jZ) (by rw[hrr];exact hI);exact⟨none,w4,h4,hdone i _ SD h4a h5⟩
   |false=>obtain⟨⟨j,i⟩,SD,hI,jZ⟩:=zQ hex;obtain⟨w4,h4,h4a,h5⟩:=both (X i) (some j) .done (by simp) jZ hI;exact⟨some j,w4,h4,abC j i _ SD h4a h5⟩
  ·
   intro k hk2 W bs hsW aiv af7;obtain⟨i,SD,hI,jZ⟩:=zQ af7;have hl:W.heap[w.heap.size+1]? =some (.loop rec):=hI.holds (.obj (w.heap.size+1) _) (by simp);have hy:=run_yield (P:=P) (args:=(qK k).toArray) hl (by rw[br];simpa using hlen k);refine⟨_,_,_,_,hy,?_⟩;have abq:aO c.bs c.w0 W:=V2.trans hsW Pk;have hsub:∀b,(b∈bn (aF.obj w.heap.size (.deferred (some [])):: .obj (w.heap.size+1) (.loop rec)::I k i)\/W.heap.size<=b)->(b∈c.bs\/c.w0.heap.size<=b):=λb hb=>by
    rcases hb with hb|hb
    ·obtain⟨r,hr,EV⟩:=aV.1 hb;exact(hI.own r hr b EV).1
    ·exact .inr (Nat.le_trans abq.size hb)
   have hb:=hbody k i rec bs W hk2 SD (by rw[br]) (by rw[br]) abq.size (λb hb=>hsub b (by rw[← jZ];exact hb)) (Wp W hsW);have ht:=R4 (ps:=ps) (vs:=qK k) hfr hst.tm hps;have afR:(rec.params.zip (qK k).toArray).foldl (λtmps (t,a)=>tmps.setIfInBounds t a) rec.tmps=(ps.zip (qK k)).foldl (λt q=>t.setIfInBounds q.1 q.2) a.tmps:=by rw[br];simp
   rw[afR];have hrf:rec.assign=assign/\rec.body=body:=by rw[br];exact⟨rfl,rfl⟩
   rw[hrf.1,hrf.2];have hI':bq bs W.heap.size (.obj w.heap.size (.deferred (some [])):: .obj (w.heap.size+1) (.loop rec)::I k i) W:=
    ⟨hI.holds,λr hr b hb=>⟨.inl (by rw[jZ];exact aV.2 ⟨r,hr,hb⟩),(hI.own r hr b hb).2⟩,hI.apart⟩
   have rJ:=roundIn_of_wpIn (F:=FA none) (n:=0) (P:=P) (l:=w.heap.size+1) (f:=rec.fn) (R:=QH ⟨some (w.heap.size+1),W,bs⟩ (J (k+1)) Jx) trivial
    (hb hI')
   refine rJ.mono λe W' hr=>?_;exact hr
section rounds
variable {P:Program} {N:Nat} {c:Cx} {H:List aF} {l dd:Nat} {α β:Type} {n0:Nat} {cb:List Nat} {p:α->Prop} {I:α->List aF} {px:β->Prop} {X:β->List aF}
theorem RP{rec:Loop}{a:Act}{w:World}(hr:rec.state= .ready)(hrp:rec.pending=none)(hT:∀b,(b∈c.bs\/c.w0.heap.size<=b)->(b∈cb\/n0<=b)){JX:List Nat->World->Prop}
  (hst:St N c [] [] (.obj dd (.deferred (some [])):: .obj l (.loop {rec with state:= .busy})::H) a w)(i:α)(hp:p i)(hI:I i= .obj dd (.deferred (some [])):: .obj l (.loop rec)::H):roundPost P l (QH c (JW n0 cb p I) JX) .normal a w:=by
 obtain⟨h1,h2⟩:=hst.m0 (b:=l) (o':= .loop rec) inferInstance inferInstance;have e:({{rec with state:=LoopState.busy}with state:=if(none:Option Code).isNone then LoopState.ready else .done,pending:=none}:Loop)=rec:=by cases rec;simp_all
 have hrun:=run_endRound (P:=P) none h2;rw[e]at hrun;have hh:=h1.hp;rw[← hI]at hh;refine⟨_,_,hrun,bn (I i),?_,h1.si, .inl ⟨rfl,?_⟩⟩
 ·intro b hb;exact aO.T7 hh hb
 ·exact Ki i hp ⟨hh.holds,λr hr b hb=>⟨hT b (hh.own r hr b hb).1,(hh.own r hr b hb).2⟩,hh.apart⟩
theorem RN{rec:Loop}{a:Act}{w:World}(hT:∀b,(b∈c.bs\/c.w0.heap.size<=b)->(b∈cb\/n0<=b)){JT:List Nat->World->Prop}{e:Exit}{j:Code}(hj:(e= .ret/\j= .ret)\/(∃id,e= .exit id/\j= .exit id))
  (hst:St N c [] [] (.obj dd (.deferred (some [])):: .obj l (.loop {rec with state:= .busy})::H) a w)(i:β)(hp:px i)(hI:X i= .obj dd (.deferred (some [])):: .obj l (.loop {rec with state:= .done,pending:=some j})::H):roundPost P l (QH c JT (JW n0 cb px X)) e a w:=by
 obtain⟨h1,h2⟩:=hst.m0 (b:=l) (o':= .loop {rec with state:= .done,pending:=some j}) inferInstance inferInstance;have hrun:=run_endRound (P:=P) (some j) h2;have hh:=h1.hp;rw[← hI]at hh;have fin:∃v w',(Instr.endRound l (some j)).run P w= .ok v w'/\QH c JT (JW n0 cb px X) (.returned v) w':=by
  refine⟨_,_,hrun,bn (X i),?_,h1.si, .inr ⟨rfl,?_⟩⟩
  ·intro b hb;exact aO.T7 hh hb
  ·exact Ki i hp ⟨hh.holds,λr hr b hb=>⟨hT b (hh.own r hr b hb).1,(hh.own r hr b hb).2⟩,hh.apart⟩
 rcases hj with⟨rfl,rfl⟩|⟨id,rfl,rfl⟩
 ·exact fin
 ·exact fin
end rounds
end Go.Bw
namespace Go.Rw
open Go Go.Bw Go.RowKit
variable {G:Sg} {P:Program}
inductive Ex(G:Sg) where
 |gq
 |exit (i:Nat)
 |ret
 |sH (v:AV G)
inductive Cf where
 |code (c:Code)
 |ops (all:Array Oper) (l:List Oper)
 |lp (x:Code)
structure FI where
 code:Code
 N:Nat
 xw:List ResultVar
def Ch(P:Program)(k:Nat):Option FI:=match P.funcs[k]? with
 |some fn=>match fn.body with
  |some code=>bif fn.name== "runtime.NumGoroutine" then none else some ⟨code,fn.ntmps,fn.results.toList⟩
  |none=>none
 |none=>none
inductive MT where
 |slot (d:Nat)
 |via (d:Nat)
 |cap (d i:Nat)
 |frm (d i:Nat)
inductive Hn where
 |loop (l:List (MT×Sh))
 |join (l:List (MT×Sh)) (ex:List Nat)
 |Ds
def R8:Nat->List (Option Nat)->List (Option Nat)
 |0,l=>l
 |n+1,l=>none::R8 n l
def abT(C:CC G)(S:AS G)(d i:Nat):Option Nat:=match ei C S [] (.tmp d)with
 |some (.fn _ _ cap)=>match Mj cap i with
  |some (.ptr q [])=>some q
  |_ =>none
 |_ =>none
def Pb:Ob G->Bool
 | .lp _ _ _ _ _ _ =>true
 |_ =>false
def Gi:Os G->Bool
 |[]=>true
 |(_,o)::q=> !Pb o&&Gi q
def Wt:List Nat->AV G->Fr G
 |k::ks, .cons v r=>(k,v)::Wt ks r
 |_,_ =>[]
def abN(C:CC G)(S:AS G)(d i:Nat):Option Nat:=match ei C S [] (.tmp d)with
 |some (.yl q)=>match bY (iV C) q with
  |some (.lp _ ks vs _ _ _)=>match bY (Wt ks vs) i with
   |some (.ptr q [])=>some q
   |_ =>none
  |_ =>none
 |_ =>none
def Jo(O:Os G):Sh->AV G->List (Option Nat)
 | .box _ s, .ptr r []=>some r::(match bY O r with
  |some (.bT _ c)=>Jo O s c
  |_ =>R8 (zT s) [])
 | .fn _ a c, .fn _ x y=>Jo O a x++Jo O c y
 | .gS a, .gS x=>Jo O a x
 | .st a, .st x=>Jo O a x
 | .gP _ a, .gP _ x=>Jo O a x
 | .cons a c, .cons x y=>Jo O a x++Jo O c y
 | .part _ a c, .part _ x y=>Jo O a x++Jo O c y
 |s,_ =>R8 (zT s) []
def T4(C:CC G)(S:AS G):List (MT×Sh)->Option IA
 |[]=>some ⟨[],[]⟩
 |(.slot d,s)::r=>match T4 C S r with
  |some g=>some ⟨(.slot d,s)::g.l,R8 (zT s) g.nm⟩
  |none=>none
 |(.via d,s)::r=>match ei C S [] (.tmp d),T4 C S r with
  |some (.ptr q []),some g=>some ⟨(.obj q,s)::g.l,Jo S.O s (.ptr q [])++g.nm⟩
  |some (.row q),some g=>some ⟨(.obj q,s)::g.l,some q::g.nm⟩
  |_,_ =>none
 |(.cap d i,s)::r=>match abT C S d i,T4 C S r with
  |some q,some g=>some ⟨(.obj q,s)::g.l,Jo S.O s (.ptr q [])++g.nm⟩
  |_,_ =>none
 |(.frm d i,s)::r=>match abN C S d i,T4 C S r with
  |some q,some g=>some ⟨(.obj q,s)::g.l,Jo S.O s (.ptr q [])++g.nm⟩
  |_,_ =>none
def Hz(C:CC G)(S:AS G):List Nat->List Nat
 |[]=>[]
 |d::r=>match ei C S [] (.tmp d)with
  |some (.ptr q [])=>q::Hz C S r
  |some (.row q)=>q::Hz C S r
  |_ =>Hz C S r
def vl(O:Os G):Sh->AV G->List Nat
 | .row _ _ _, .row r=>[r]
 | .v _, .row r=>[r]
 | .box _ s, .ptr r []=>r::(match bY O r with
  |some (.bT _ c)=>vl O s c
  |_ =>[])
 | .fn _ a c, .fn _ x y=>vl O a x++vl O c y
 | .gS a, .gS x=>vl O a x
 | .st a, .st x=>vl O a x
 | .gP _ a, .gP _ x=>vl O a x
 | .cons a c, .cons x y=>vl O a x++vl O c y
 | .part _ a c, .part _ x y=>vl O a x++vl O c y
 |_,_ =>[]
def L3(C:CC G)(S:AS G):List (MT×Sh)->List Nat
 |[]=>[]
 |(.slot d,s)::r=>(match ei C S [] (.tmp d)with
  |some v=>vl S.O s v
  |none=>[])++L3 C S r
 |(.via d,s)::r=>(match ei C S [] (.tmp d)with
  |some v=>vl S.O s v
  |none=>[])++L3 C S r
 |(.cap d i,s)::r=>(match abT C S d i with
  |some q=>vl S.O s (.ptr q [])
  |none=>[])++L3 C S r
 |(.frm d i,s)::r=>(match abN C S d i with
  |some q=>vl S.O s (.ptr q [])
  |none=>[])++L3 C S r
structure Vw(G:Sg)(L:List Ty) where
 lp:{Z:Type}->((HL G L->Option Z)->HL G L->Option Z)->Nat->HL G L->Option Z
 e0:∀{Z:Type} (B:(HL G L->Option Z)->HL G L->Option Z) (e:HL G L),lp B 0 e=none
 e1:∀{Z:Type} (B:(HL G L->Option Z)->HL G L->Option Z) (n:Nat) (e:HL G L),lp B (n+1) e=B (λe=>lp B n e) e
def Uf{Z:Type}{L:List Ty}:Option (Vw G L)->((HL G L->Option Z)->HL G L->Option Z)->Nat->HL G L->Option Z
 |some v=>v.lp
 |none=>lpE L
theorem KG{Z:Type}{L:List Ty}{o:Option (Vw G L)}{B:(HL G L->Option Z)->HL G L->Option Z}{n:Nat}{e:HL G L}{z:Z}(h:Uf o B n e=some z):∃m,n=m+1/\B (Uf o B m) e=some z:=by
 cases o with
 |none=>exact aaU h
 |some v=>
  cases n with
  |zero=>rw[show Uf (some v) B 0 e=none from v.e0 B e]at h;cases h
  |succ n=>exact⟨n,rfl,by rw[show Uf (some v) B (n+1) e=B (λe=>v.lp B n e) e from v.e1 B n e]at h;exact h⟩
def acg(P:Program)(k:Nat)(rI:Sh)(n:Nat)(ys:Sh){B:Type}(en:B->HL G (aK ys))(f:HL G (aK rI)->Option (List B)):Prop:=∀(ρ:aX) (J:World->Prop) (HB X:List aF) (vs:List Value) (x:HL G (aK rI)) (l:List B),f x=some l->rl J ρ (dP (λm=>m) rI x 0).1 vs->RO J ρ (dP (λm=>m) rI x 0).2.1 HB->M4 G X J->ρ.fr (dP (λm=>m) rI x 0).2.2-> ∃qK:Nat->List Value,(∀(σ:aX) i y,l[i]? =some y->rl J σ (dP (λm=>m) ys (en y) 0).1 (qK i))/\(∀i,(qK i).length=n)/\ ∀(ly:Nat) (Jy:Nat->List Nat->World->Prop) (Jx:List Nat->World->Prop) (bs:List Nat) (w:World),bq (bs++(bn HB++bn X)) w.heap.size (.ext bs (Jy 0 bs)::(HB++X)) w->Rnd P ly (bs++bn HB) w Jy Jx qK l.length-> Calls P k (Value.func (.yield ly) #[] #[]::vs).toArray w λen w'=>∃x:Bool×List Nat,en= .returned (.tuple #[])/\aO (bs++bn HB) w w'/\bq (bs++bn HB) w.heap.size (.ext x.2 (bif x.1 then Jy l.length x.2 else Jx x.2)::[]) w'
structure It(P:Program)(G:Sg) where
 k:Nat
 rI:Sh
 n:Nat
 ys:Sh
 B:Type
 en:B->HL G (aK ys)
 f:HL G (aK rI)->Option (List B)
 fn:∃fn,P.funcs[k]? =some fn/\fn.body.isSome=true/\(fn.name== "runtime.NumGoroutine")=false
 ok:acg P k rI n ys en f
structure XQ(P:Program)(f T n:Nat)(out:Int->List Value):Prop where
 enter:∀args w,(callFunc f args).run P w= .ok (.enter f args) w
 ret:∀b w,CallsDIn (FA none) 0 P f #[cE b 0] .returning w λen u' w'=>(∃v,en= .returned v)/\u'= .returning/\aO [] w w'
 sH:∀(b Tb:Nat) (xs:List Value) (e:Int) (w:World),xs.length=n->w.heap[b]? =some (.cells xs.toArray Tb (0,0))->CallsDIn (FA none) 0 P f #[cE b 0] (.panicking [{v:= .iface T (.int .i64 e),recovered:=false}]) w λen u' w'=>(∃v,en= .returned v)/\settle u'= .returning/\aO [b] w w'/\w'.heap[b]? =some (.cells (out e).toArray Tb (0,0))
structure Ek(P:Program)(G:Sg) where
 k:Nat
 T:Nat
 n:Nat
 out:Int->List Value
 v:Int->AV G
 hv:∀(J:World->Prop) (ρ:aX) (e:Int),∃u,rv J ρ (v e) u/\u.cells.toList=out e
 ok:XQ P k T n out
structure uo(P:Program)(G:Sg) where
 tt:TT P G
 zt:ZT P G
 hint:List Nat->Nat->Option Hn
 calls:Nat->List (Ct P G)
 fu:Nat
 vw:Nat->(L:List Ty)->Option (Vw G L)
 Sw:Nat->List (It P G)
 ek:Nat->List (Ek P G)
 jw:Bool
def Mc:Code->Option Nat
 | .region i _ _ =>some i
 | .seq a b=>match Mc a with
  |some i=>some i
  |none=>Mc b
 | .cond _ a b=>match Mc a with
  |some i=>some i
  |none=>Mc b
 | .block _ x=>Mc x
 | .loop x=>Mc x
 | .scope x=>Mc x
 |_ =>none
def wrO:List Oper->List Nat
 |[]=>[]
 |o::r=>match o.dst with
  |some d=>d::wrO r
  |none=>wrO r
def E8:Code->List Nat
 | .region _ ops _ =>wrO ops.toList
 | .seq a b=>E8 a++E8 b
 | .cond _ a b=>E8 a++E8 b
 | .block _ x=>E8 x
 | .loop x=>E8 x
 | .scope x=>E8 x
 | .rangeFunc _ ps a b=>ps.toList++E8 a++E8 b
 |_ =>[]
def guW{Z:Type}:List Bool->Option Z->Option Z
 |[],k=>k
 |b::r,k=>gu b (guW r k)
def guG{Z:Type}(g:Bool):List Bool->Option Z->Option Z
 |[],k=>k
 |b::r,k=>gu (!g||b) (guG g r k)
def F9(C:CC G)(S:AS G)(ch:List (Nat×Bool))(j:Nat)(b:Bool)(y z:Operand):Option (AV G):=match z,y with
 | .const (.bool false),y=>match H8 C S y,ei C S ch y with
  |some (.gd k true x),none=>match Tj x with
   |some u=>bif Nat.beq k j then some (.bool (b&&u))else none
   |none=>none
  |_,some x=>match Tj x with
   |some u=>some (.bool (b&&u))
   |none=>none
  |_,_ =>none
 |z, .const (.bool true)=>match H8 C S z,ei C S ch z with
  |some (.gd k false x),none=>match Tj x with
   |some u=>bif Nat.beq k j then some (.bool (b||u))else none
   |none=>none
  |_,some x=>match Tj x with
   |some u=>some (.bool (b||u))
   |none=>none
  |_,_ =>none
 |_,_ =>none
def Jk(C:CC G)(S:AS G)(ch:List (Nat×Bool))(x y z:Operand):Option (AV G):=match ei C S ch x,x with
 |some (.kb b),_ =>ei C S ch (bif b then y else z)
 |some (.bool b), .tmp j=>F9 C S ch j b y z
 |_,_ =>none
def XY(tt:TT P G)(zt:ZT P G)(C:CC G)(S:AS G)(ch:List (Nat×Bool)):Op->PV G
 | .pick x y z=>match Jk C S ch x y z with
  |some v=>some ([],v)
  |none=>none
 | .build T parts=>OJ tt zt (ei C S ch) T parts.toList
 | .slice T x lo hi mx=>match Vr tt (ei C S ch) T x lo hi mx with
  |some r=>some r
  |none=>Oz P tt (ei C S ch) T x lo hi mx
 | .index T x y=>match OD P (ei C S ch) T x y with
  |some r=>some r
  |none=>pv tt (OU C S) (ei C S ch) (.index T x y)
 | .binOp o T x y U=>match pv tt (OU C S) (ei C S ch) (.binOp o T x y U)with
  |some r=>some r
  |none=>match ei C S ch x,ei C S ch y with
   |some a,some b=>OH tt o T a b
   |_,_ =>none
 |op=>pv tt (OU C S) (ei C S ch) op
def sy:Nat->AV G->Fr G
 |i, .cons v r=>(i,v)::sy (i+1) r
 |_,_ =>[]
def vH:AV G->Nat
 | .cons _ r=>vH r+1
 |_ =>0
def RR(tt:TT P G)(C:CC G)(S:AS G):ResultVar->Option (AV G)
 | .tmp t=>ei C S [] (.tmp t)
 | .cell t ty=>match ei C S [] (.tmp t)with
  |some (.ptr r [])=>match OU C S r with
   |some (.bT _ c)=>bif sA tt ty c then some c else none
   |_ =>none
  |_ =>none
def RT(tt:TT P G)(C:CC G)(S:AS G):List ResultVar->Option (AV G)
 |[]=>some .nil
 |r::q=>match RR tt C S r,RT tt C S q with
  |some v,some l=>some (.cons v l)
  |_,_ =>none
def AZ(tt:TT P G)(C:CC G)(S:AS G):List ResultVar->Option (AV G)
 |[r]=>RR tt C S r
 |l=>match RT tt C S l with
  |some v=>some (.gS v)
  |none=>none
def ltA{Z:Type}:AV G->(AV G->Option Z)->Option Z
 | .dat t x,k=>lt x λx=>k (.dat t x)
 | .int q n,k=>lt n λn=>k (.int q n)
 | .bool b,k=>lt b λb=>k (.bool b)
 |v,k=>k v
def Q2{Z:Type}(F:Kj G):AV G->List pE->AV G->(AV G->Option Z)->Option Z
 |c,[],v,k=>match XW c v with
  |some c'=>ltA c' k
  |none=>none
 | .dat t x,p,v,k=>match path F p t with
  |some q=>match xW q.m v with
   |some y=>lt (q.set x y) λx'=>k (.dat t x')
   |none=>none
  |none=>none
 | .st a, .Ag _ o::r,v,k=>match partAt a o with
  |some (_,c)=>Q2 F c r v λc'=>match zm a o c' with
   |some a'=>k (.st a')
   |none=>none
  |none=>none
 |_,_,_,_ =>none
theorem aaS{Z:Type}{v:AV G}{k:AV G->Option Z}{z:Z}(h:ltA v k=some z):k v=some z:=by cases v<;>exact h
theorem Oa{Z:Type}{F:Kj G}:∀{p:List pE} {c v:AV G} {k:AV G->Option Z} {z:Z},Q2 F c p v k=some z->∃c',I3 F c p v=some c'/\k c'=some z:=by
 intro p
 induction p with
 |nil=>
  intro c v k z h;have h:(match XW c v with
   |some c'=>ltA c' k
   |none=>none)=some z:=by unfold Q2 at h;exact h
  split at h
  ·rename_i c' hc;exact⟨c',by unfold I3;exact hc,aaS h⟩
  ·cases h
 |cons s r ih=>
  intro c v k z h;cases c with
  |dat t x=>
   simp only[Q2]at h;split at h
   ·rename_i q hq
    split at h
    ·rename_i y hy;exact⟨_,by simp only[I3,hq,hy],h⟩
    ·cases h
   ·cases h
  |st a=>
   cases s with
   |Ag j o=>
    simp only[Q2]at h;split at h
    ·rename_i w c1 hp
     obtain⟨c2,h1,h2⟩:=ih h;split at h2
     ·rename_i a' ha;exact⟨_,by simp only[I3,hp,h1,ha],h2⟩
     ·cases h2
    ·cases h
   |idx _ _ _ =>simp[Q2]at h
  |_ =>simp[Q2]at h
def so:AV G->Bool
 | .gd _ _ _ =>false
 |_ =>true
def PZ:List (AV G)->Os G->Option (Os G)
 |[],O=>some O
 | .ptr r []::D,O=>match bY O r with
  |some (.aux true)=>PZ D (tg O r)
  |_ =>none
 |_ ::_,_ =>none
def aaK:AV G->Option (Nat×Int)
 | .gP T (.int .i64 x)=>some (T,x)
 | .gP T (.lit .i64 x)=>some (T,x)
 |_ =>none
def isN:Option Nat->Nat->Bool
 |some m,n=>Nat.beq m n
 |none,_ =>false
def exE:Ex G->Bool
 | .gq=>true
 | .ret=>true
 |_ =>false
def kX(ek:Nat->List (Ek P G)):Ex G->List (AV G)->Os G->Option (Ex G×Os G)
 |e,[],O=>some (e,O)
 |e, .ptr r []::D,O=>match bY O r,exE e with
  |some (.aux true),true=>kX ek e D (tg O r)
  |_,_ =>none
 |e, .cons (.fn (.func k) .nil c) l::D,O=>match ek k,kj l c with
  |q::_, .cons (.ptr r []) .nil=>match bY O r with
   |some (.bT T' c0)=>bif Nat.beq q.k k&&(lR l&&lR c)then(match e with
    | .gq=>kX ek .gq D O
    | .ret=>kX ek .ret D O
    | .sH v=>(match aaK v with
     |some (T,x)=>bif Nat.beq q.T T&&isN c0.VF q.n then kX ek .ret D (m0 O r (.bT T' (q.v x)))else none
     |none=>none)
    |_ =>none)else none
   |_ =>none
  |_,_ =>none
 |_,_ ::_,_ =>none
def WK(S:AS G):Option (AS G):=match PZ S.D S.O with
 |some O=>some ⟨S.F,O,S.nx,[]⟩
 |none=>none
def Ec{Z:Type}(N:Nat)(C:CC G):List Nat->AV G->AS G->(AS G->Option Z)->Option Z
 |[], .nil,S,k=>k S
 |p::ps, .cons v r,S,k=>match rE N C (some p) v S with
  |some S'=>bif so v then Ec N C ps r S' k else none
  |none=>none
 |_,_,_,_ =>none
def flF:CC G->Fr G
 |[]=>[]
 |y::r=>y.F++flF r
def RC(g:IA)(base:Nat)(x:HL G (aK (o7 g.l))):AS G:=⟨[],(EP g base x).O,(EP g base x).nx,[]⟩
def Mg(m:Nat)(S1:AS G)(O:Os G)(S:AS G):AS G:=⟨S1.F,(m, .aux true)::(S.O++O),S.nx, .ptr m []::S1.D⟩
def XZ(N:Nat):List Nat->Bool
 |[]=>true
 |p::r=>Nat.blt p N&&XZ N r
def OY:List (AV G)->Bool
 |[]=>true
 |_ =>false
abbrev WT(G:Sg)(Z:Type):=(N:Nat)->(cp:List Nat)->CC G->Cf->AS G->(Ex G->AS G->Option Z)->Option Z
def ew{Z:Type}(rec:WT G Z)(N:Nat)(cp:List Nat)(C:CC G)(all:Array Oper)(r:List Oper)(d:Option Tmp)(v:AV G)(S:AS G)(K:Ex G->AS G->Option Z):Option Z:=match rE N C d v S with
 |some S'=>bif so v then rec N cp C (.ops all r) S' K else none
 |none=>none
def wCt{Z:Type}(C:CC G)(O:Os G)(nx:Nat)(aiy:AV G)(fit:(ct:Ct P G)->HI G ct.s->GS G->Option Z)(frz:List Nat->List (Nat×Sh)->Option Z)(no:Option Z):List (Ct P G)->Option Z
 |[]=>no
 |ct::r=>match Ba C O nx ct.s aiy with
  |some (x,g')=>fit ct x g'
  |none=>match abY C O ct.s aiy,aaO C O ct.s aiy with
   |[],[]=>wCt C O nx aiy fit frz no r
   |b,l=>frz b l
def ctK{Z:Type}(rec:WT G Z)(N:Nat)(cp:List Nat)(C:CC G)(all:Array Oper)(r:List Oper)(d:Option Tmp)(S:AS G)(K:Ex G->AS G->Option Z)(ct:Ct P G)(x:HI G ct.s)(g':GS G):Option Z:=
 ct.cp x (λy=>match Q6 (dP (Jn g'.th g'.nx ct.s.nm) ct.s.bV y 0).1 with
  |some v=>ew rec N cp C all r d v (S7 g' ct.s.bV ct.s.nm y S) K
  |none=>none) (λy=>match Q6 (dP (Jn g'.th g'.nx ct.s.OP) ct.s.fb y 0).1 with
  |some v=>K (.sH v) (S7 g' ct.s.fb ct.s.OP y S)
  |none=>none)
def ctG{Z:Type}(rec:WT G Z)(N:Nat)(cp:List Nat)(C:CC G)(all:Array Oper)(r:List Oper)(d:Option Tmp)(S:AS G)(K:Ex G->AS G->Option Z)(j:Nat)(w g:Bool)(ct:Ct P G)(x:HI G ct.s)(no:Option Z):Option Z:=match ct.s.nm with
 |[]=>bif CB true ct.s.rI&&CB false ct.s.bV then ct.cg g x (λy=>match Q6 (dP (λm=>m) ct.s.bV y 0).1 with
  |some v=>(match rE N C d (.gd j w v) S with
   |some S'=>rec N cp C (.ops all r) S' K
   |none=>none)
  |none=>none)else no
 |_ =>no
def Ik(C:CC G)(S:AS G)(ch:List (Nat×Bool)):Op->Option (Nat×AV G)
 | .call ⟨.value f,args,_⟩=>match ei C S ch f,IJ (ei C S ch) args.toList with
  |some (.fn (.func k) fst cap),some l=>bif (lR fst&&lR l)&&lR cap then some (k,kj fst (kj l cap))else none
  |_,_ =>none
 |_ =>none
def ctT{Z:Type}(tb:uo P G)(rec:WT G Z)(N:Nat)(cp:List Nat)(C:CC G)(all:Array Oper)(r:List Oper)(o:Oper)(S:AS G)(K:Ex G->AS G->Option Z)(j:Nat)(w:Bool)(no:Option Z):Option Bool->Option (Nat×AV G)->Option Z
 |some g,some (k,aiy)=>wCt C S.O S.nx aiy (λct x _ =>bif Nat.beq ct.s.k k then ctG rec N cp C all r o.dst S K j w g ct x no else none) (λb l=>rec N cp C (.ops all (o::r)) (zn l (vK b S)) K) no (tb.calls k)
 |_,_ =>no
def Ks(C:CC G)(S:AS G):List Operand->List Nat
 |[]=>[]
 |x::r=>match H8 C S x with
  |some (.row q)=>(match bY S.O q with
   |some _ =>q::Ks C S r
   |none=>Ks C S r)
  |_ =>Ks C S r
def UA:AV G->List pE->Bool
 | .dat _ _,_ ::_ =>true
 | .st a, .Ag _ o::r=>match partAt a o with
  |some (_,c)=>UA c r
  |none=>false
 |_,_ =>false
def afr(C:CC G)(S:AS G)(x y:Operand):Option Nat:=match ei C S [] x,ei C S [] y with
 |some (.ptr r p),some (.row q)=>match bY S.O q,bY S.O r with
  |some (.row _ _ _ _),some (.bT _ c)=>bif UA c p then some q else none
  |_,_ =>none
 |_,_ =>none
def lkK{Z:Type}:List (Int×Nat)->Int->(Option Nat->Option Z)->Option Z
 |[],_,c=>c none
 |(a,f)::r,k,c=>cn (k==a) (c (some f)) (lkK r k c)
theorem aa4{Z:Type}{k:Int}{c:Option Nat->Option Z}{z:Z}:∀{l:List (Int×Nat)},lkK l k c=some z->c (F1 l k)=some z:=by
 intro l
 induction l with
 |nil=>exactλh=>h
 |cons p r ih=>
  obtain⟨a,f⟩:=p;intro h;simp only[lkK,F1]at h ⊢;cases hb:(k==a)with
  |true=>rw[hb]at h;exact h
  |false=>rw[hb]at h;exact ih h
def TX{Z:Type}(tb:uo P G)(rec:WT G Z)(N:Nat)(cp:List Nat)(C:CC G)(all:Array Oper)(r:List Oper)(o:Oper)(S:AS G)(K:Ex G->AS G->Option Z):Option Z:=match XY tb.tt tb.zt C S [] o.op with
 |some (gs,v)=>guW gs (ew rec N cp C all r o.dst v S K)
 |none=>match Ks C S o.op.operands.toList with
  |[]=>none
  |b=>rec N cp C (.ops all (o::r)) (vK b S) K
def Ui(tb:uo P G)(cp:List Nat)(d:Option Tmp):Bool:=match d with
 |some d=>match tb.hint cp (1000000+d)with
  |some _ =>true
  |none=>false
 |none=>false
def WW(o:Oper)(T:Nat):List Oper->Option (Nat×List Oper)
 |⟨none, .call ⟨.builtin .clear,a,t⟩,_,_,_,none⟩::r=>match o.dst,o.guard,a.toList,t.toList with
  |some d1,none,[.tmp d2],[T2]=>bif Nat.beq d1 d2&&Nat.beq T T2 then some (d1,r)else none
  |_,_,_,_ =>none
 |_ =>none
def tyB(tb:uo P G)(e:Nat):AV G->Option Ty
 | .iC=>match tb.tt.te.find e with
  |some (.sl e2 _ _)=>(match tb.zt.z.find e2 with
   |some z2=>(match tyA z2 with
    |some t=>some (.sl t)
    |none=>none)
   |none=>none)
  |_ =>none
 |z=>tyA z
def zK:Os G->Os G
 |[]=>[]
 |(r, .lp _ _ _ _ _ _)::q=>(r, .aux false)::zK q
 |p::q=>p::zK q
def Vl:List TypeId->TypeId->Bool
 |[a,b],T=>Nat.beq a T&&Nat.beq b T
 |_,_ =>false
def afA(P:Program)(T:Nat):Option IntKind:=match P.underlying T with
 |some (.map k _)=>(match P.underlying k with
  |some (.int q)=>some q
  |_ =>none)
 |_ =>none
def wOp{Z:Type}(tb:uo P G)(rec:WT G Z)(N:Nat)(cp:List Nat)(C:CC G)(all:Array Oper)(r:List Oper)(o:Oper)(S:AS G)(K:Ex G->AS G->Option Z):Option Z:=match o.op with
 | .box T x=>match ei C S [] x with
  |some v=>ew rec N cp C all r o.dst (.ptr S.nx []) {S with O:=(S.nx, .bT T v)::S.O,nx:=S.nx+1} K
  |none=>none
 | .alloc T=>match tb.zt.z.find T with
  |some v=>ew rec N cp C all r o.dst (.ptr S.nx []) {S with O:=(S.nx, .bT T v)::S.O,nx:=S.nx+1} K
  |none=>none
 | .store T x y=>match afr C S x y with
  |some q=>rec N cp C (.ops all (o::r)) (vK [q] S) K
  |none=>match ei C S [] x,ei C S [] y with
  |some (.ptr q p),some v=>match bY S.O q with
   |some (.bT T' c)=>bif sA tb.tt T v then Q2 tb.tt.F c p v λc'=>ew rec N cp C all r o.dst .Ko {S with O:=m0 S.O q (.bT T' c')} K else none
   |some (.row e sz t xs)=>bif Pr p sz&&sA tb.tt T v then(match DA tb.tt.F t p with
    |some pl=>(match xW pl.m v with
     |some y=>lt (xs.set pl.i.toNat (pl.set (xs.getD pl.i.toNat default) y)) λzs=>ew rec N cp C all r o.dst .Ko {S with O:=m0 S.O q (.row e sz t zs)} K
     |none=>none)
    |none=>none)else none
   |_ =>none
  |_,_ =>none
 | .buildSlice T n parts=>match tb.tt.te.find T with
  |some (.sl e sz _)=>match tb.zt.z.find e with
   |some z=>match tyB tb e z with
    |some t=>match elA t (ei C S []) 0 parts.toList with
     |some xs=>bif (Nat.beq xs.length n&&Nat.beq (t.L G).n sz)&&(Nat.blt 0 (n*sz)&&Nat.ble (n*sz) 16777216)then ew rec N cp C all r o.dst (.row S.nx) {S with O:=(S.nx, .row e sz t xs)::S.O,nx:=S.nx+1} K else none
     |none=>TX tb rec N cp C all r o S K
    |none=>match fnL (ei C S []) 0 parts.toList with
     |some vs=>bif (Nat.beq parts.size n&&Nat.beq sz 1)&&(Nat.blt 0 n&&Nat.ble n 16777216)then ew rec N cp C all r o.dst (.A0 S.nx [] n 1 false (n:Int)) {S with O:=(S.nx, .bT e (.st vs))::S.O,nx:=S.nx+1} K else none
     |none=>none
   |none=>none
  |_ =>none
 | .makeSlice T (.tmp s) (.tmp s')=>bif Nat.beq s s' then(match jl (ei C S [] (.tmp s)),tb.tt.te.find T with
  |some (_,i,_),some (.sl e sz bt)=>(match tb.zt.z.find e with
   |some (.int k z0)=>bif Nat.beq sz 1&&Nat.blt 0 bt then gu (decide (0<=i)) (gu (gR 0 i.toNat bt) (lt (List.replicate i.toNat z0) λzs=>ew rec N cp C all r o.dst (.row S.nx) {S with O:=(S.nx, .row e 1 (.int k) zs)::S.O,nx:=S.nx+1} K))else none
   |_ =>none)
  |_,_ =>none)else none
 | .panic x=>match ei C S [] x with
  |some (.gP t v)=>K (.sH (.gP t v)) S
  |_ =>none
 | .defer ⟨.value f,args,_⟩=>match ei C S [] f,IJ (ei C S []) args.toList,o.dst with
  |some (.fn (.func k) a c),some l,none=>bif (lR a&&lR l)&&(lR c&&uD (iV C))then rec N cp C (.ops all r) {S with D:= .cons (.fn (.func k) a c) l::S.D} K else none
  |_,_,_ =>none
 | .call ⟨.builtin .append,args,EA⟩=>match args.toList,EA.toList with
  |[x,y],[T,T']=>bif Nat.beq T T' then(match ei C S [] x,ei C S [] y,tb.tt.te.find T with
   |some (.row q),some vy,some (.sl e sz bt)=>(match bY S.O q,Ue C S vy with
    |some (.row e' sz' t xs),some l=>bif Nat.beq e' e&&Nat.beq sz' sz then(match Ea (t:=t) l.xs with
     |some ys=>gu (gR xs.length ys.length bt) (lt (xs++ys) λzs=>ew rec N cp C all r o.dst (.row S.nx) {S with O:=(S.nx, .row e sz t zs)::tg S.O q,nx:=S.nx+1} K)
     |none=>none)else none
    |_,_ =>none)
   |some .iC,some vy,some (.sl e sz bt)=>(match Ue C S vy with
    |some l=>bif Nat.beq (l.t.L G).n sz then gu (gR 0 l.xs.length bt) (lt l.xs λzs=>ew rec N cp C all r o.dst (.row S.nx) {S with O:=(S.nx, .row e sz l.t zs)::S.O,nx:=S.nx+1} K)else none
    |none=>none)
   |_,_,_ =>none)else none
  |_,_ =>none
 | .call ⟨.builtin .copy,args,EA⟩=>match args.toList,EA.toList with
  |[x,y],[T,_]=>(match ei C S [] x,ei C S [] y,tb.tt.te.find T with
   |some (.row q),some vy,some (.sl e sz _)=>(match bY S.O q,Ue C S vy with
    |some (.row e' sz' (.int k) xs),some l=>bif (Nat.beq e' e&&Nat.beq sz 1)&&Nat.beq sz' 1 then(match Ea (t:= .int k) l.xs with
     |some ys=>lt (ys.take xs.length++xs.drop ys.length) λzs=>ew rec N cp C all r o.dst (.int .i64 ((min ys.length xs.length:Nat):Int)) {S with O:=m0 S.O q (.row e 1 (.int k) zs)} K
     |none=>none)else none
    |_,_ =>none)
   |some (.A0 q p n 1 true i),some (.A0 q' p' n' 1 true j),some (.sl _ sz _)=>(match bY S.O q with
    |some (.bT T2 c)=>(match Fx tb.tt.F c p with
     |some (.dat (.jo m (.int k)) f)=>bif (Nat.beq q q'&&Nat.beq n n')&&((Nat.beq m n&&Nat.beq sz 1)&&(Fe p p'&&Vl EA.toList T))then Q2 tb.tt.F c p (.dat (.jo n (.int k)) (UB i.toNat j.toNat n f)) λc'=>ew rec N cp C all r o.dst (.int .i64 ((min (n-j.toNat) (n-i.toNat):Nat):Int)) {S with O:=m0 S.O q (.bT T2 c')} K else none
     |_ =>none)
    |_ =>none)
   |_,_,_ =>none)
  |_,_ =>none
 | .call ⟨.builtin .clear,args,EA⟩=>match args.toList,EA.toList with
  |[x],[T]=>(match ei C S [] x,tb.tt.te.find T with
   |some (.A0 q p n 1 false i),some (.sl e sz _)=>(match bY S.O q with
    |some (.bT T2 c)=>(match Fx tb.tt.F c p with
     |some (.dat (.jo m (.int k)) _)=>bif (Nat.beq i.toNat n&&Nat.blt 0 n)&&((Nat.beq m n&&Nat.beq sz 1)&&zU P e k)then Q2 tb.tt.F c p (.dat (.jo n (.int k)) (λ_ =>(0:Int))) λc'=>ew rec N cp C all r o.dst (.gS .nil) {S with O:=m0 S.O q (.bT T2 c')} K else none
     |_ =>none)
    |_ =>none)
   |_,_ =>none)
  |_,_ =>none
 | .makeMap T none=>match afA P T with
  |some q=>ew rec N cp C all r o.dst (.mp S.nx) {S with O:=(S.nx, .fm q [] .nil)::S.O,nx:=S.nx+1} K
  |none=>none
 | .insert T x y z=>match ei C S [] x,jl (ei C S [] y),ei C S [] z with
  |some (.mp q),some (ky,k,_),some v=>(match bY S.O q with
   |some (.fm ik ks vs)=>bif (EB ky ik&&Ie P T ik)&&(Fp k ks&&lR vs)then ew rec N cp C all r o.dst .Ko {S with O:=m0 S.O q (.fm ik (ks++[k]) (kj vs (.cons v .nil)))} K else none
   |_ =>none)
  |_,_,_ =>none
 | .call ⟨.value f,args,_⟩=>match ei C S [] f,IJ (ei C S []) args.toList with
  |some (.fn (.func k) fst cap),some l=>wCt C S.O S.nx (kj fst (kj l cap)) (λct x g'=>bif (lR fst&&lR l)&&(lR cap&&Nat.beq ct.s.k k)then ctK rec N cp C all r o.dst S K ct x g' else none) (λb l=>rec N cp C (.ops all (o::r)) (zn l (vK b S)) K) (match Ch P k with
   |some fi=>bif (lR fst&&lR l)&&(lR cap&&Nat.ble (vH (kj fst (kj l cap))) fi.N)then
     rec fi.N ((match o.dst with
      |some d=>d
      |none=>0)::cp) [⟨[],iV C,[]⟩] (.code fi.code) ⟨sy 0 (kj fst (kj l cap)),S.O,S.nx,[]⟩ λe S1=>match kX tb.ek e S1.D S1.O with
      |some (.sH v,O2)=>K (.sH v) {S with O:=O2,nx:=S1.nx}
      |some (.gq,O2)=>(match AZ tb.tt [⟨[],iV C,[]⟩] ⟨S1.F,O2,S1.nx,[]⟩ fi.xw with
       |some v=>ew rec N cp C all r o.dst v {S with O:=O2,nx:=S1.nx} K
       |none=>none)
      |some (.ret,O2)=>(match AZ tb.tt [⟨[],iV C,[]⟩] ⟨S1.F,O2,S1.nx,[]⟩ fi.xw with
       |some v=>ew rec N cp C all r o.dst v {S with O:=O2,nx:=S1.nx} K
       |none=>none)
      |_ =>none
    else none
   |none=>none) (tb.calls k)
  |some (.yl q),some l=>match bY (iV C) q with
   |some (.lp N2 ks vs ps a b)=>bif uD (iV C)then Ec N2 [⟨[],zK (iV C),[]⟩] ps l ⟨Wt ks vs,S.O,S.nx,[]⟩ λS2=>rec N2 ((match o.dst with
     |some d=>d
     |none=>0)::cp) [⟨[],zK (iV C),[]⟩] (.code a) S2 λe1 S3=>match e1 with
     | .gq=>rec N2 ((match o.dst with
      |some d=>d
      |none=>0)::cp) [⟨[],zK (iV C),[]⟩] (.code b) S3 λe2 S4=>match e2,S4.D with
      | .gq,[]=>ew rec N cp C all r o.dst (.kb true) {S with O:=S4.O,nx:=S4.nx} K
      |_,_ =>none
     |_ =>none
    else none
   |_ =>none
  |_,_ =>none
 | .load T (.global g)=>match G.gt,g,o.guard with
  |some _,0,none=>bif oE P T then ew rec N cp C all r o.dst (.mp S.nx) {S with O:=(S.nx, .gm)::S.O,nx:=S.nx+1} K else none
  |_,_,_ =>none
 | .lookup T x y true=>match ei C S [] x,jl (ei C S [] y),o.guard with
  |some (.mp q),some (ik,k,_),none=>(match OU C S q with
   |some .gm=>(match G.gt with
    |some g0=>bif Nat.beq (Ty.bF.ik ik) (Ty.bF.ik g0.1)&&BX P T g0.1 then lkK g0.2 k λf=>ew rec N cp C all r o.dst (Va f) S K else none
    |none=>none)
   |some (.fm qk ks vs)=>bif EB ik qk&&BX P T qk then lkF k ks vs λt=>ew rec N cp C all r o.dst t S K else none
   |_ =>none)
  |_,_,_ =>none
 | .slice T x none (some h) none=>match ei C S [] x,jl (ei C S [] h),tb.tt.te.find T,Ui tb cp o.dst with
  |some (.row q),some (_,i,_),some (.sl e sz _),true=>match bY S.O q with
   |some (.row e' sz' t xs)=>bif Nat.beq e' e&&Nat.beq sz' sz then gu (cF i (xs.length+1)) (ew rec N cp C all r o.dst (.row S.nx) {S with O:=(S.nx, .row e' sz' t (xs.take i.toNat))::tg S.O q,nx:=S.nx+1} K)else none
   |_ =>none
  |some (.ptr q p),some (_,i,_),_,true=>(match bY S.O q,Qa P tb.tt T with
   |some (.bT _ c),some (n,_,_)=>(match Fx tb.tt.F c p with
    |some (.dat (.jo m e) f)=>bif Nat.beq m n then gu (cF i (n+1)) (ew rec N cp C all r o.dst (.dat (.sl e) ((List.range i.toNat).map f)) {S with O:=tg S.O q} K)else none
    |_ =>none)
   |_,_ =>none)
  |_,_,_,_ =>TX tb rec N cp C all r o S K
 | .slice T x (some lo) none none=>match WW o T r,ei C S [] x,jl (ei C S [] lo),tb.tt.te.find T with
  |none,some (.row q),some (_,i,_),some (.sl e sz _)=>(match bY S.O q,Ui tb cp o.dst with
   |some (.row e' sz' t xs),true=>bif Nat.beq e' e&&Nat.beq sz' sz then gu (cF i (xs.length+1)) (ew rec N cp C all r o.dst (.row S.nx) {S with O:=(S.nx, .row e' sz' t (xs.drop i.toNat))::tg S.O q,nx:=S.nx+1} K)else none
   |_,_ =>TX tb rec N cp C all r o S K)
  |some (d1,r2),some (.row q),some (_,i,_),some (.sl e sz _)=>(match bY S.O q,rE N C (some d1) .Ko S with
   |some (.row e' sz' (.int k) xs),some S1=>bif (Nat.beq e' e&&Nat.beq sz 1)&&(Nat.beq sz' 1&&zU P e k)then gu (cF i (xs.length+1)) (lt (xs.take i.toNat++(List.replicate (xs.length-i.toNat) (0:Int):List (Ty.T G (.int k)))) λzs=>rec N cp C (.ops all r2) {S1 with O:=m0 S1.O q (.row e 1 (.int k) zs)} K)else none
   |_,_ =>TX tb rec N cp C all r o S K)
  |_,_,_,_ =>TX tb rec N cp C all r o S K
 |_ =>TX tb rec N cp C all r o S K
def jg(C:CC G)(S:AS G)(l:List (Src×Sh)):AS G:=match AU C S l with
 |some v=>vK (tn S.O (o7 l) v) S
 |none=>S
def D4(all:Array Oper)(j:Nat):Option Nat:=(all[j]?).bind (·.dst)
def J4(A:List Nat):List Nat->Nat
 |[]=>0
 |j::r=>(2^j|||A.getD j 0)|||J4 A r
def Cj(ops:Array Oper):Nat->List Nat
 |0=>[]
 |k+1=>match Cj ops k with
  |A=>A++[J4 A (w5 ops k)]
def vP:Nat->List Oper->List (Nat×Nat)
 |_,[]=>[]
 |i,o::r=>match o.dst with
  |some d=>(i,d)::vP (i+1) r
  |none=>vP (i+1) r
def kg(A:List Nat)(i j:Nat):Bool:=Nat.testBit (A.getD i 0) j
def R5(A:List Nat)(q d:Nat):List (Nat×Nat)->Bool
 |[]=>true
 |(i,e)::r=>(!(Nat.beq e d&&Nat.blt i q)||kg A q i)&&R5 A q d r
def Mh(A:List Nat)(ws:List (Nat×Nat)):List (Nat×Nat)->Bool
 |[]=>true
 |(q,d)::r=>R5 A q d ws&&Mh A ws r
def xU(A:List Nat)(i d:Nat):List (Nat×Nat)->Bool
 |[]=>true
 |(q,e)::r=>(!Nat.beq e d||(Nat.beq q i||(bif Nat.blt q i then kg A i q else kg A q i)))&&xU A i d r
def MF(A:List Nat)(i d:Nat):List (Nat×Nat)->Bool
 |[]=>true
 |(q,e)::r=>(!Nat.beq e d||kg A i q)&&MF A i d r
def Rm(d:Nat):List (Nat×Nat)->Bool
 |[]=>false
 |(_,e)::r=>Nat.beq e d||Rm d r
def gdD(ws:List (Nat×Nat)):AV G->Bool
 | .gd j _ _ =>Rm j ws
 |_ =>false
def Mt(ws:List (Nat×Nat))(F:Fr G)(d:Nat):Bool:=match bY F d with
 |some v=>gdD ws v
 |none=>false
structure Lg where
 i:Nat
 r:List Nat
 a:List Nat
 o:List Nat
structure DS(G:Sg) where
 F:Fr G
 M:Os G
 nx:Nat
 lg:List Lg
def JQ:List Nat->List Nat->Bool
 |[],_ =>true
 |a::r,l=> !cv l a&&JQ r l
def R6(A:List Nat)(i:Nat)(rd ac nw:List Nat):List Lg->Bool
 |[]=>true
 |y::r=>(kg A i y.i||(JQ (y.a++y.o) (rd++ac)&&JQ (ac++nw) (y.r++y.a)))&&R6 A i rd ac nw r
def X3(A:List Nat)(i:Nat):List Lg->Bool
 |[]=>true
 |y::r=>(kg A i y.i||(match y.a with
  |[]=>true
  |_ =>false))&&X3 A i r
def U8(A:List Nat)(i:Nat):List Lg->List Nat
 |[]=>[]
 |y::r=>bif kg A i y.i then U8 A i r else y.o++U8 A i r
def KB:AV G->List Nat
 | .ptr r _ =>[r]
 | .row r=>[r]
 | .A0 r _ _ _ _ _ =>[r]
 | .mp r=>[r]
 | .gd _ _ v=>KB v
 |_ =>[]
def qX:AV G->List Nat
 | .ptr r _ =>[r]
 | .row r=>[r]
 | .A0 r _ _ _ _ _ =>[r]
 | .mp r=>[r]
 | .gd _ _ v=>qX v
 | .fn _ a c=>qX a++qX c
 | .st a=>qX a
 | .gS a=>qX a
 | .gP _ v=>qX v
 | .cons a b=>qX a++qX b
 | .part _ a b=>qX a++qX b
 |_ =>[]
def obN(M:Os G):List Nat->List Nat
 |[]=>[]
 |r::q=>match bY M r with
  |some (.bT _ c)=>qX c++obN M q
  |_ =>obN M q
def Kx(M:Os G):Nat->List Nat->List Nat
 |0,l=>l
 |n+1,l=>l++Kx M n (obN M l)
def ES(f:AV G->List Nat)(C:CC G)(S:AS G):List Operand->List Nat
 |[]=>[]
 |x::r=>match H8 C S x with
  |some v=>f v++ES f C S r
  |none=>ES f C S r
def fP:Os G->List Nat
 |[]=>[]
 |(k,_)::r=>k::fP r
def isQ:Op->Bool
 | .store _ _ _ =>false
 | .call ⟨.builtin .len,_,_⟩=>true
 | .call ⟨.builtin .min,_,_⟩=>true
 | .call ⟨.builtin .max,_,_⟩=>true
 | .call _ =>false
 | .box _ _ =>false
 | .alloc _ =>false
 | .panic _ =>false
 | .buildSlice _ _ _ =>false
 | .makeSlice _ _ _ =>false
 | .makeMap _ _ =>false
 | .insert _ _ _ _ =>false
 |_ =>true
def HA:AV G->List Nat
 | .row r=>[r]
 | .A0 r _ _ _ _ _ =>[r]
 | .gd _ _ v=>HA v
 |_ =>[]
def rdF:Op->AV G->List Nat
 | .load _ _ =>KB
 | .lookup _ _ _ _ =>KB
 | .move _ =>λ_ =>[]
 |_ =>HA
def Qb(C:CC G)(S:AS G):List Operand->Bool
 |[]=>false
 |x::r=>(match H8 C S x with
  |some (.row _)=>true
  |_ =>false)||Qb C S r
def afQ(C:CC G)(S:AS G)(op:Op):Bool:=isQ op&&(match op with
 | .build _ _ => !Qb C S op.operands.toList
 |_ =>true)
def abK(A:List Nat)(ws:List (Nat×Nat))(i:Nat):AV G->Bool
 | .gd j _ _ =>MF A i j ws
 |_ =>true
def Vx(A:List Nat)(ws:List (Nat×Nat))(i nx:Nat)(d:Option Tmp)(F S:Fr G):Option (Fr G):=match d with
 |none=>some F
 |some d=>match bY S d with
  |some v=>bif v.lt nx&&abK A ws i v then some ((d,v)::F)else none
  |none=>none
def rdN(O:Os G):List (Nat×Sh)->AV G->List Nat×List Nat
 |(_,s)::l, .cons (.ptr q []) p=>match rdN O l p,bY O q with
  |(rd,ac),some (.bT _ c)=>match tn O s c,Pv s c with
   |[],false=>(q::(vl O s c++rd),ac)
   |b,_ =>(vl O s c++rd,q::(b++ac))
  |(rd,ac),_ =>(rd,ac)
 |_,_ =>([],[])
def UF(C:CC G)(O:Os G)(nx:Nat)(aiy:AV G):List (Ct P G)->Option (List Nat×List Nat)
 |[]=>none
 |ct::r=>match Ba C O nx ct.s aiy,abY C O ct.s aiy,aaO C O ct.s aiy with
  |none,[],[]=>UF C O nx aiy r
  |_,_,_ =>match JL (O++iV C) ct.s.Hr 0 ct.s.rI aiy with
   |some pv=>match rdN O ct.s.Hr pv with
    |(rd,ac)=>some (rd,vl O ct.s.rI aiy++ac)
   |none=>none
def ab2(tb:uo P G)(C:CC G)(S:AS G)(all:Array Oper)(o:Oper):List Nat×List Nat:=bif afQ C S o.op then(ES (rdF o.op) C S o.op.operands.toList,[])else match o.op with
 | .store _ x y=>([],ES KB C S [x]++ES HA C S [y])
 | .alloc _ =>([],[])
 | .box _ _ =>([],[])
 | .panic _ =>([],[])
 | .buildSlice _ _ _ =>([],ES HA C S o.op.operands.toList)
 | .call ⟨.builtin _,_,_⟩=>([],ES HA C S o.op.operands.toList)
 | .call ⟨.value f,x,t⟩=>match Ik C S (match o.guard with
   |some (j,w)=>(match D4 all j with
    |some dj=>chain C S 8 dj w
    |none=>[])
   |none=>[]) (.call ⟨.value f,x,t⟩)with
  |some (k,aiy)=>(match UF C S.O S.nx aiy (tb.calls k)with
   |some p=>p
   |none=>([],Kx S.O 3 (ES qX C S o.op.operands.toList)))
  |none=>match H8 C S f with
   |some (.yl _)=>([],fP S.O)
   |_ =>([],Kx S.O 3 (ES qX C S o.op.operands.toList))
 |_ =>([],Kx S.O 3 (ES qX C S o.op.operands.toList))
def drS{Z:Type}(tb:uo P G)(rec:WT G Z)(N:Nat)(cp:List Nat)(C:CC G)(ops:Array Oper)(A:List Nat)(ws:List (Nat×Nat))(F0:Fr G)(D0:List (AV G))(o:Oper)(i:Nat)(T:DS G)(kn:DS G->List Nat->List Nat->Option Z)(kp:AV G->AS G->List Nat->List Nat->Option Z):Option Z:=
 match gw (λd=>xU A i d ws) T.F with
 |Fi=>match ab2 tb (⟨F0,[],[]⟩::C) ⟨Fi,T.M,T.nx,[]⟩ ops o with
  |(rd,ac)=>match(⟨F0,bS (λq=>cv rd q&& !cv ac q) T.M,D0⟩:Ly G)with
   |ly=>bif uN T.nx (ly::C)&&(O5 T.nx Fi&&qJ T.nx (bS (cv ac) T.M))then rec N cp (ly::C) (.ops ops [o]) ⟨Fi,bS (cv ac) T.M,T.nx,[]⟩ λe S1=>match e,S1.D with
     | .gq,[]=>bif Nat.ble T.nx S1.nx&&(qJ S1.nx S1.O&&R6 A i rd ac (fP S1.O) T.lg)then(match Vx A ws i S1.nx o.dst T.F S1.F with
      |some F'=>kn ⟨F',S1.O++bS (λq=> !cv ac q) T.M,S1.nx,⟨i,rd,ac,fP S1.O⟩::T.lg⟩ ac (fP S1.O)
      |none=>none)else none
     | .sH v,[]=>bif Nat.ble T.nx S1.nx&&(R6 A i rd ac [] T.lg&&(X3 A i T.lg&&qJ T.nx T.M))then kp v ⟨F0,S1.O++bS (λq=> !cv ac q) (bS (λq=> !cv (U8 A i T.lg) q) T.M),S1.nx,D0⟩ rd ac else none
     |_,_ =>none
    else none
def aaN:List Nat->Bool
 |[]=>true
 |_ =>false
def drP{Z:Type}(tb:uo P G)(rec:WT G Z)(N:Nat)(cp:List Nat)(C:CC G)(ops:Array Oper)(A:List Nat)(ws:List (Nat×Nat))(F0:Fr G)(D0:List (AV G))(j:Nat)(zj:List Nat)(k:Option Z):List Oper->Nat->DS G->Option Z
 |[],_,_ =>k
 |o::r,i,T=>bif kg A i j then drP tb rec N cp C ops A ws F0 D0 j zj k r (i+1) T else drS tb rec N cp C ops A ws F0 D0 o i T (λT' ac nw=>bif aaN ac&&JQ nw zj then drP tb rec N cp C ops A ws F0 D0 j zj k r (i+1) T' else none) (λ_ _ _ _ =>none)
def drW{Z:Type}(tb:uo P G)(rec:WT G Z)(N:Nat)(cp:List Nat)(C:CC G)(ops:Array Oper)(A:List Nat)(ws:List (Nat×Nat))(F0:Fr G)(D0:List (AV G))(K:Ex G->AS G->Option Z):List Oper->Nat->DS G->Option Z
 |[],_,T=>K .gq ⟨T.F++F0,T.M,T.nx,D0⟩
 |o::r,i,T=>drS tb rec N cp C ops A ws F0 D0 o i T (λT' _ _ =>drW tb rec N cp C ops A ws F0 D0 K r (i+1) T') (λv S' rd ac=>drP tb rec N cp C ops A ws F0 D0 i (rd++ac) (K (.sH v) S') r (i+1) T)
def drR{Z:Type}(tb:uo P G)(rec:WT G Z):WT G Z:=λN cp C cf S K=>match cf with
 | .ops ops l=>match Cj ops ops.size,vP 0 ops.toList with
  |A,ws=>bif Mh A ws ws&&(MW ops []&&P.follows .mixedOrders)then
   (match gw (λd=> !(Rm d ws)&& !Mt ws S.F d) S.F with
   |F0=>drW tb rec N cp C ops A ws F0 S.D K l 0 ⟨gw (λd=>Rm d ws&& !Mt ws S.F d) S.F,S.O,S.nx,[]⟩)else none
 |_ =>none
def O3(ps:List Nat)(a b:Code)(C:CC G)(S1:AS G)(O:Os G):CC G:=[⟨gw (λd=> !cv (ps++(E8 a++E8 b)) d) (S1.F++flF C),(S1.nx+1, .aux false)::(O++iV C),[]⟩]
def rgW{Z:Type}(rec:WT G Z)(N:Nat)(cp:List Nat)(C:CC G)(ps:List Nat)(a b:Code)(S1:AS G)(K:Ex G->AS G->Option Z)(g:IA)(it:It P G)(l:List it.B)(O:Os G)(x0:HL G (aK (o7 g.l))):Option Z:=
 itE (aK (o7 g.l)) (λy go e=>Ec N (O3 ps a b C S1 O) ps (dP (λm=>m) it.ys (it.en y) 0).1 (RC g (S1.nx+2) e) λS2=>rec N cp (O3 ps a b C S1 O) (.code a) S2 λe1 S3=>match e1 with
  | .gq=>rec N cp (O3 ps a b C S1 O) (.code b) S3 λe2 S4=>match e2 with
   | .gq=>match DP (O3 ps a b C S1 O) (jg (O3 ps a b C S1 O) S4 g.l) g (S1.nx+2)with
    |some e=>go e
    |none=>none
   | .ret=>bif OY S4.D then K .ret (Mg S1.nx S1 O S4)else none
   | .exit i=>bif OY S4.D then K (.exit i) (Mg S1.nx S1 O S4)else none
   | .sH _ =>none
  |_ =>none) (λe=>K .gq (Mg S1.nx S1 O (RC g (S1.nx+2) e))) l x0
def rgK{Z:Type}(rec:WT G Z)(N:Nat)(cp:List Nat)(C:CC G)(ps:List Nat)(a b:Code)(k:Nat)(cap:AV G)(gl:List (MT×Sh))(S:AS G)(K:Ex G->AS G->Option Z):List (It P G)->Option Z
 |[]=>none
 |it::q=>match j0 it.rI cap ⟨[],S.O,S.nx⟩with
  |none=>rgK rec N cp C ps a b k cap gl S K q
  |some (x,g1)=>match T4 C ⟨S.F,g1.O,g1.nx,S.D⟩ gl with
   |some g=>match jg C ⟨S.F,g1.O,g1.nx,S.D⟩ g.l with
    |S1=>match AU C ⟨S1.F,S1.O,S1.nx+2,S1.D⟩ g.l with
     |some v=>match j0 (o7 g.l) v ⟨[],S1.O,S1.nx+2⟩with
      |some (x0,g2)=>bif (Nat.beq it.k k&&Nat.beq it.n ps.length&&uD (iV C))&&(s0 g.nm g2.th&&s5 (S1.nx+2) g.nm&&uN (S1.nx+2) (O3 ps a b C S1 g2.O))&&((qJ (S1.nx+2) g2.O&&XZ N ps)&&(uN (S1.nx+2) C&&Gi (g2.O++iV C)))then bd (it.f x) λl=>rgW rec N cp C ps a b S1 K g it l g2.O x0 else none
      |none=>none
     |none=>none
   |none=>none
def Wv(seen:List Nat):Fr G->List Nat×AV G
 |[]=>([], .nil)
 |(d,v)::r=>bif cv seen d|| !so v then Wv (d::seen) r else match Wv (d::seen) r with
  |(ks,vs)=>(d::ks, .cons v vs)
def rgI{Z:Type}(tb:uo P G)(rec:WT G Z)(N:Nat)(cp:List Nat)(C:CC G)(ps:List Nat)(a b:Code)(k:Nat)(cap:AV G)(S:AS G)(K:Ex G->AS G->Option Z):Option Z:=match Ch P k,Wv [] (S.F++flF C)with
 |some fi,(ks,vs)=>match fi.xw with
  |[]=>bif (lR cap&&Nat.ble (vH cap+1) fi.N)&&uD (iV C)then rec fi.N (998::cp) [⟨[],(S.nx+1, .lp N ks vs ps a b)::iV C,[]⟩] (.code fi.code) ⟨sy 0 (.cons (.yl (S.nx+1)) cap),(S.nx, .aux true)::S.O,S.nx+2,[]⟩ λe S1=>match kX tb.ek e S1.D S1.O with
    |some (.gq,O2)=>K .gq ⟨S.F,O2,S1.nx, .ptr S.nx []::S.D⟩
    |some (.ret,O2)=>K .gq ⟨S.F,O2,S1.nx, .ptr S.nx []::S.D⟩
    |_ =>none
   else none
  |_ =>none
 |_,_ =>none
noncomputable def step{Z:Type}(tb:uo P G)(rec:WT G Z):WT G Z:=λN cp C cf S K=>match cf with
 | .ops _ []=>K .gq S
 | .ops all (o::r)=>match o.guard with
  |none=>wOp tb rec N cp C all r o S K
  |some (j,w)=>match D4 all j with
   |some dj=>match Q9 C S 8 dj w with
    |some true=>wOp tb rec N cp C all r o S K
    |some false=>(match rE N C o.dst .Ko S with
     |some S'=>rec N cp C (.ops all r) S' K
     |none=>none)
    |none=>match JJ C S 8 dj w,XY tb.tt tb.zt C S (chain C S 8 dj w) o.op with
     |some g,some (gs,v)=>guG g gs (match rE N C o.dst (.gd dj w v) S with
      |some S'=>rec N cp C (.ops all r) S' K
      |none=>none)
     |g,_ =>ctT tb rec N cp C all r o S K dj w (match FD C S 8 dj with
      |some (k,b)=>cn b (rec N cp C (.ops all (o::r)) {S with F:=(k, .kb true)::S.F} K) (rec N cp C (.ops all (o::r)) {S with F:=(k, .kb false)::S.F} K)
      |none=>none) g (Ik C S (chain C S 8 dj w) o.op)
   |none=>none
 | .code c=>match c with
  | .skip=>K .gq S
  | .label _ =>K .gq S
  | .ret=>K .ret S
  | .exit i=>K (.exit i) S
  | .region _ ops false=>rec N cp C (.ops ops ops.toList) S K
  | .region _ ops true=>drR tb rec N cp C (.ops ops ops.toList) S K
  | .block i x=>rec N cp C (.code x) S λe S'=>match e with
   | .exit j=>bif Nat.beq i j then K .gq S' else K (.exit j) S'
   |e=>K e S'
  | .scope x=>rec N cp C (.code x) S K
  | .cond x a b=>match ei C S [] x with
   |some (.bool t)=>cn t (rec N cp C (.code a) S K) (rec N cp C (.code b) S K)
   |some (.kb t)=>rec N cp C (.code (bif t then a else b)) S K
   |_ =>none
  | .seq x y=>match(match Mc y with
    |some i=>tb.hint cp (i+i)
    |none=>none)with
   |some (.join gl ex)=>match T4 C S gl,L3 C S gl++Hz C S ex with
    |some g,thr=>(match(⟨gw (λd=> !(cv (E8 x) d||vJ g.l d)) S.F,bS (λq=> !cv thr q) S.O,S.D⟩:Ly G),(⟨gw (λd=>cv (E8 x) d||vJ g.l d) S.F,bS (cv thr) S.O,S.nx,[]⟩:AS G)with
    |ly,S0=>bif uN S.nx (ly::C)then jnE tb.jw (aK (o7 g.l)) (λe=>rec N cp C (.code y) (G8 ly (EP g S.nx e)) K) λj=>rec N cp (ly::C) (.code x) S0 λe S1=>match e with
       | .gq=>match DP (ly::C) (jg (ly::C) S1 g.l) g S.nx with
        |some e=>j e
        |none=>none
       |e=>K e (G8 ly S1)
     else none)
    |none,_ =>none
   |_ =>rec N cp C (.code x) S λe S'=>match e with
    | .gq=>rec N cp C (.code y) S' K
    |e=>K e S'
  | .loop x=>match(match Mc x with
    |some i=>tb.hint cp (i+i+1)
    |none=>none)with
   |some (.loop gl)=>(match T4 C S gl with
    |none=>none
    |some g=>match jg C S g.l with
    |S=>match AU C S g.l with
    |some v=>match j0 (o7 g.l) v ⟨[],S.O,S.nx⟩with
     |some (x0,g')=>bif s0 g.nm g'.th&&s5 S.nx g.nm then
       (match(⟨gw (λd=> !(cv (E8 x) d||vJ g.l d)) S.F,g'.O,S.D⟩:Ly G)with
       |ly=>bif uN S.nx (ly::C)then Uf (tb.vw (match Mc x with
        |some i=>i
        |none=>0) (aK (o7 g.l))) (λgo e=>rec N cp (ly::C) (.code x) (EP g S.nx e) λe1 S1=>match e1 with
         | .gq=>match DP (ly::C) (jg (ly::C) S1 g.l) g S.nx with
          |some e=>go e
          |none=>none
         |e1=>K e1 (G8 ly S1)) tb.fu x0
        else none)
      else none
     |none=>none
    |none=>none)
   |some .Ds=>rec N cp C (.lp x) S K
   |_ =>none
  | .rangeFunc g ps a b=>match ei C S [] g,(match Mc (.seq a b)with
    |some i=>tb.hint cp (i+i+1)
    |none=>none)with
   |some (.fn (.func k) .nil cap),some (.loop gl)=>rgK rec N cp C ps.toList a b k cap gl S K (tb.Sw k)
   |some (.fn (.func k) .nil cap),none=>rgI tb rec N cp C ps.toList a b k cap S K
   |_,_ =>none
  |_ =>none
 | .lp x=>rec N cp C (.code x) S λe S'=>match e with
  | .gq=>rec N cp C (.lp x) S' K
  |e=>K e S'
noncomputable def W{Z:Type}(tb:uo P G):Nat->WT G Z
 |0=>λ_ _ _ _ _ _ =>none
 |n+1=>step tb (W tb n)
end Go.Rw
