/- Part 7 of what a proof leans on; pruned and shortened by a program out of longer texts. -/
import Derived.Test.YtimljlkgaopafaaGreatDoorQ6
namespace Go.Rw
open Go Go.Bw Go.RowKit
variable {G:Sg} {P:Program} {tt:TT P G} {J:World->Prop} {ρ:bh} {a:Act} {w:World} {d:Option Tmp} {ty:TypeId} {ps:String} {af:Array Edge} {g:Option (Nat×Bool)}
 {N:Nat} {c:Cx} {H HK X:List aE} {D:List Deferred} {C:CC G} {S:AS G}
def n7:AV G->AV G->AV G
 | .cons v r,b=> .cons v (n7 r b)
 |_,b=>b
def pb:AV G->Bool
 | .cons _ r=>pb r
 | .nil=>true
 |_ =>false
theorem ot{J:World->Prop}{ρ:bh}:∀{a b:AV G} {l m:List Value},pb a=true->rl J ρ a l->rl J ρ b m->rl J ρ (n7 a b) (l++m):=by
 intro a
 induction a with
 |nil=>intro b l m _ h1 h2;have:l=[]:=h1;subst this;exact h2
 |cons v r _ ih=>intro b l m hl h1 h2;obtain⟨u,r',rfl,k1,k2⟩:=h1;exact⟨u,r'++m,rfl,k1,ih hl k2 h2⟩
 |_ =>intro b l m hl;cases hl
theorem OT{T:Nat}(q:IntKind):SK P ⟨d, .makeMap T none,ty,ps,af,g⟩ C S {S with O:=(S.nx, .fm q [] .nil)::S.O,nx:=S.nx+1} (.mp S.nx):=by
 intro c N ρ J HK X a w next Q h hk
 obtain⟨HS,h1,hst,_⟩:=h.st;refine ew (by simp) (w':=w.alloc (.map #[] 0)) (v:= .map (some w.heap.size)) ?_ ?_
 ·simp[execOp,Instr.makeMap,newObj,Sem.run,Result.andThen]
 ·have AY:bH c.bs c.w0.heap.size (.obj w.heap.size (.map #[] 0)::(HS++(HK++X))) (w.alloc (.map #[] 0)):=hst.hp.fresh (aQ.alloc _ _) (by show(w.heap.push _)[w.heap.size]? =_;simp) hst.si.size (λb hb=>by
   have e:b=w.heap.size:=by simpa[aE.cI]using hb
   subst e;exact⟨Nat.le_refl _,by simp⟩)
  exact hk (ρ.set S.nx (.map (some w.heap.size))) J [] _ _ (bh.kL _ _ _) (λ_ h=>h) ⟨_,bh.iN _ _ _,rfl,rfl,rfl⟩ (h.new h1 (hst.si.ext (aQ.alloc _ _)) AY ⟨_,_,_,[],bh.iN _ _ _,rfl,⟨rfl,by simp,by simp⟩,rfl,rfl⟩)
def KC(k:Int):List Int->Bool
 |[]=>true
 |a::r=> !(k==a)&&KC k r
theorem Np{k:Int}:∀{ks:List Int} {us:List Value},KC k ks=true->fX (ks.zip us) k=none:=by
 intro ks
 induction ks with
 |nil=>intro us _;rfl
 |cons a r ih=>
  intro us h;simp only[KC,akg,Bool.not_eq_true']at h;cases us with
  |nil=>rfl
  |cons u us=>simp only[List.zip_cons_cons,fX,h.1,cond_false,ih h.2,Option.map_none]
def NZ(P:Program)(T:Nat)(q:IntKind):Bool:=match P.underlying T with
 |some (.map k _)=>(match P.underlying k with
  |some (.int q')=>Nat.beq (Ty.bS.ik q) (Ty.bS.ik q')
  |_ =>false)
 |_ =>false
theorem aaP{T:Nat}{q:IntKind}(h:NZ P T q=true):∃k e,P.underlying T=some (.map k e)/\P.underlying k=some (.int q):=by
 unfold NZ at h;split at h
 ·rename_i k e h1
  split at h
  ·rename_i q' h2
   obtain rfl:=Io h;exact⟨k,e,h1,h2⟩
  ·cases h
 ·cases h
theorem Wa{r b:Nat}{u:Value}(h:rv (G:=G) J ρ (.mp r) u)(m:ρ r=some (.map (some b))):u= .map (some b):=by obtain⟨u',u1,u2,_⟩:=h;rw[m]at u1;cases u1;exact(List.cons.inj u2).1
theorem SB{T r:Nat}{x y z:Operand}{q ky:IntKind}{k:Int}{ql:Bool}{ks:List Int}{vs v:AV G}(hx:gv C S [] x=some (.mp r))(hy:mU (gv C S [] y)=some (ky,k,ql))(hz:gv C S [] z=some v)(ho:dm S.O r=some (.fm q ks vs))(hq:G5 ky q=true)(hT:NZ P T q=true)(hn:KC k ks=true)(hl:pb vs=true):
  SK P ⟨d, .insert T x y z,ty,ps,af,g⟩ C S {S with O:=qm S.O r (.fm q (ks++[k]) (n7 vs (.cons v .nil)))} .QA:=by
 intro c N ρ J HK X a w next Q h hk
 obtain⟨HS,h1,hs0,hm⟩:=h.st;have hE:=dk h (ch:=[]) (by simp);obtain⟨kk,x0,k1,⟨b,es,ck,us,m1,rfl,m3,m4,m5⟩,k3⟩:=h1.set ho;obtain rfl:=zH hq;obtain⟨kt,e,t1,t2⟩:=aaP hT;have tD:=hE.ev _ _ hx;rw[Wa (hE.ok _ _ hx) m1]at tD;have hy2:=ku hE hy;have hz2:=hE.ev _ _ hz;have Jw:=qX (m:=HK++X) k1;have hd:w.heap[b]? =some (.map es ck):=hs0.hp.holds _ (List.mem_of_getElem? Jw);have hf:=od (k:=k) w t2 m3;rw[Np hn]at hf;have hc:∀em,(Instr.checkKey em 10000 kt (.int ky k)).run P w= .ok () w:=λem=>MapKept.run_checkKey (k:= .int ky k) t2 (show ky=ky from rfl) em 9999;haveI:TY (HS++(HK++X)) b (.map es ck):=⟨List.mem_of_getElem? Jw⟩;haveI:TV (HS++(HK++X)) b (.map (es.push ⟨.int ky k,a.eval z,ck⟩) (ck+1)) (HS.set kk (.obj b (.map (es.push ⟨.int ky k,a.eval z,ck⟩) (ck+1)))++(HK++X)):=⟨kk,_,Jw,by rw[vo k1]⟩;obtain⟨p1,_⟩:=hs0.qm (b:=b) (o:= .map es ck) (o':= .map (es.push ⟨.int ky k,a.eval z,ck⟩) (ck+1)) inferInstance inferInstance;refine oU (by simp) (w':=w.putObj b (.map (es.push ⟨.int ky k,a.eval z,ck⟩) (ck+1))) ?_ ?_
 ·simp[execOp,aI hs0.fr tD,aI hs0.fr hy2,Instr.mapUpdate,run_underlying t1,MapKept.run_getObj_map hd,hc,hf,MapKept.run_setObj_map _ hd,Result.andThen,World.putObj]
 ·refine hk ρ J [] _ undef (bh.ef _ _) (λ_ h=>h) ⟨_,rfl⟩ (h.C0 (k3 _ _ ⟨b,_,_,us++[a.eval z],m1,rfl,?_,ot hl m4 ⟨_,[],rfl,hE.ok _ _ hz,rfl⟩,by simp[m5]⟩) p1.si p1.hp)
  rw[List.zip_append (by rw[m5])];exact m3.push k (a.eval z)
def lkF{Z:Type}(k:Int):List Int->AV G->(AV G->Option Z)->Option Z
 |a::r, .cons v b,c=>cn (k==a) (c (.jc (.cons v (.cons (.kb true) .nil)))) (lkF k r b c)
 |[], .nil,c=>c (.jc (.cons .nn (.cons (.kb false) .nil)))
 |_,_,_ =>none
theorem agI{Z:Type}{k:Int}{c:AV G->Option Z}{z:Z}:∀{ks:List Int} {vs:AV G},lkF k ks vs c=some z->∃t,c t=some z/\∀(J:World->Prop) (ρ:bh) (us:List Value),rl J ρ vs us->rv J ρ t (.tuple #[oH (ks.zip us) k .nilFunc, .bool (qn (ks.zip us) k)]):=by
 intro ks
 induction ks with
 |nil=>
  intro vs h;cases vs<;>simp only[lkF]at h<;>first|cases h|skip
  exact⟨_,h,λJ ρ us _ =>⟨[.nilFunc, .bool false],rfl,_,_,rfl,rfl,_,_,rfl,rfl,rfl⟩⟩
 |cons a r ih=>
  intro vs h;cases vs<;>simp only[lkF]at h<;>first|cases h|skip
  rename_i v b;cases hb:(k==a)with
  |true=>
   rw[hb]at h;refine⟨_,h,λJ ρ us hu=>?_⟩;obtain⟨u,us',rfl,h1,h2⟩:=hu;have e1:oH ((a::r).zip (u::us')) k .nilFunc=u:=by simp[oH,fX,hb]
   have e2:qn ((a::r).zip (u::us')) k=true:=by simp[qn,fX,hb]
   rw[e1,e2];exact⟨[u, .bool true],rfl,_,_,rfl,h1,_,_,rfl,rfl,rfl⟩
  |false=>
   rw[hb]at h;obtain⟨t,t1,t2⟩:=ih h;refine⟨t,t1,λJ ρ us hu=>?_⟩;obtain⟨u,us',rfl,h1,h2⟩:=hu;have e1:oH ((a::r).zip (u::us')) k .nilFunc=oH (r.zip us') k .nilFunc:=by simp only[List.zip_cons_cons,oH,fX,hb,cond_false,Option.map_map];rfl
   have e2:qn ((a::r).zip (u::us')) k=qn (r.zip us') k:=by simp only[List.zip_cons_cons,qn,fX,hb,cond_false,Option.isSome_map]
   rw[e1,e2];exact t2 J ρ us' h2
theorem U4{T r:Nat}{x y:Operand}{q ky:IntKind}{k:Int}{ql:Bool}{ks:List Int}{vs t:AV G}(hx:gv C S [] x=some (.mp r))(hy:mU (gv C S [] y)=some (ky,k,ql))(ho:V3 C S r=some (.fm q ks vs))(hq:G5 ky q=true)(hT:FV P T q=true)
  (ht:∀(J:World->Prop) (ρ:bh) (us:List Value),rl J ρ vs us->rv J ρ t (.tuple #[oH (ks.zip us) k .nilFunc, .bool (qn (ks.zip us) k)])):SK P ⟨d, .lookup T x y true,ty,ps,af,g⟩ C S S t:=by
 intro c N ρ J HK X a w next Q h hk
 obtain⟨HS,h1,hs0,hm⟩:=h.st;have hE:=dk h (ch:=[]) (by simp);obtain⟨x0,hx0,⟨b,es,ck,us,m1,rfl,m3,m4,m5⟩⟩:=hm.ob r _ ho;obtain rfl:=zH hq;have tD:=hE.ev _ _ hx;rw[Wa (hE.ok _ _ hx) m1]at tD;have hy2:=ku hE hy;unfold FV at hT;split at hT
 ·rename_i kt e hu
  simp only[akg]at hT;obtain⟨Tf,YQ⟩:=hT;split at Tf
  ·rename_i q' hk'
   obtain rfl:=Io Tf;split at YQ
   ·rename_i hz
    have tm:Gw P T kt e ky:=⟨hu,hk'⟩;have tz:Qn P e ((λv:Value=>v) .nilFunc):=⟨hz⟩;refine(aG (P:=P) (F:=nN a) (H:=HS++(HK++X)) (by simp) λa' w' WU _ hp=>?_ :VS P N c _ _ _ (.tuple #[oH (ks.zip us) k .nilFunc, .bool (qn (ks.zip us) k)])) a.defers a w next Q hs0 λw' hs=>?_
    ·have hd:w'.heap[b]? =some (.map es ck):=hp.holds _ hx0
     simp[execOp,aI WU tD,aI WU hy2,pL (E:=λv:Value=>v) w' tm tz ⟨es,ck,hd,m3⟩,Result.andThen]
    ·exact hk ρ J [] w' _ (bh.ef _ _) (λ_ h=>h) (ht J ρ us m4) (by
      obtain⟨HS2,p1,p3⟩:=h.hp;exact⟨h.tm,h.df,h.si.ext hs,h.fs,h.fc,h.kc,⟨HS2,p1,p3.ext hs⟩,h.kn,h.fr⟩)
   ·cases YQ
  ·cases Tf
 ·cases hT
def fnL(E:Operand->Option (AV G)):Nat->List (Nat×Operand)->Option (AV G)
 |_,[]=>some .nil
 |k,(i,x)::r=>bif Nat.beq i k then(match E x with
  |some v=>bif v.one then(match fnL E (k+1) r with
   |some l=>some (.part 1 v l)
   |none=>none)else none
  |none=>none)else none
theorem ad3{E:Operand->Option (AV G)}(hE:Ap J ρ a E):∀{l:List (Nat×Operand)} {k:Nat} {vs:AV G},fnL E k l=some vs->∃us:List Value,D3 (nN a) (l.map (·.2))=some us/\l.map (·.1)=List.range' k us.length/\us.length=l.length/\rl J ρ vs us/\∀u∈us,u.cells= #[u]/\u.oneCell'=true:=by
 intro l
 induction l with
 |nil=>intro k vs h;cases h;exact⟨[],rfl,rfl,rfl,rfl,nofun⟩
 |cons p r ih=>
  obtain⟨i,x⟩:=p;intro k vs h;unfold fnL at h;cases hb:Nat.beq i k with
  |false=>rw[hb]at h;cases h
  |true=>
   rw[hb]at h;simp only[cond_true]at h;split at h
   ·rename_i v hx
    cases h1:v.one with
    |false=>rw[h1]at h;cases h
    |true=>
     rw[h1]at h;simp only[cond_true]at h;split at h
     ·rename_i l' hl
      cases h;obtain⟨us,m1,m2,m3,m4,m5⟩:=ih hl;have hv:=hE.ok _ _ hx;obtain⟨c1,c2⟩:=EI h1 hv;refine⟨a.eval x::us,by simp only[List.map_cons,D3,hE.ev _ _ hx,m1],?_,by simp[m3],⟨[a.eval x],us,a.eval x,rfl,rfl,hv,by rw[c1],m4⟩,λu hu=>?_⟩
      ·simp only[List.map_cons,List.length_cons,List.range'_succ,akf hb,m2]
      ·rcases List.mem_cons.1 hu with rfl|hu
       ·exact⟨c1,c2⟩
       ·exact m5 u hu
     ·cases h
   ·cases h
theorem acG{zt:ZT P G}{T n e bt:Nat}{parts:Array (Nat×Operand)}{z vs:AV G}(hT:tt.te.find T=some (.sl e 1 bt))(hz:zt.z.find e=some z)(hxs:fnL (gv C S []) 0 parts.toList=some vs)(hn:parts.size=n)(h0:0<n)(hcap:n<=16777216):
  SK P ⟨d, .buildSlice T n parts,ty,ps,af,g⟩ C S {S with O:=(S.nx, .cI e (.st vs))::S.O,nx:=S.nx+1} (.EE S.nx [] n 1 false (n:Int)):=by
 intro c N ρ J HK X a w next Q h hk
 obtain⟨HS,h1,hs0,hm⟩:=h.st;have hE:=dk h (ch:=[]) (by simp);obtain⟨us,m1,m2,m3,m4,m5⟩:=ad3 hE hxs;obtain⟨u,z1,z2⟩:=zt.ok e z hz J ρ;haveI:jH P e u.cells.toList:=⟨z1⟩;haveI:=(tt.sl hT).1;have hlen:us.length=n:=by rw[m3, ← hn];simp
 have hb0:((List.range (n*1)).map λj=>u.cells.toList[j%u.cells.toList.length]!).length=n*1:=by simp
 have Dv:=NK (n:=n) (sz:=1) (vs:=us) (k:=0) (λv hv=>by rw[(m5 v hv).1];rfl) (by omega) hb0;rw[hlen, ← hlen, ← m2,hlen]at Dv;have hfm:us.flatMap (λv=>v.cells.toList)=us:=by
  have:∀l:List Value,(∀v∈l,v.cells= #[v])->l.flatMap (λv=>v.cells.toList)=l:=by
   intro l
   induction l with
   |nil=>intro _;rfl
   |cons v r ih=>intro hv;rw[List.flatMap_cons,ih λx hx=>hv x (akp _ hx),hv v List.mem_cons_self];rfl
  exact this us λv hv=>(m5 v hv).1
 have hcs:(((List.range (n*1)).map λj=>u.cells.toList[j%u.cells.toList.length]!).take (0*1)++us.flatMap (λv=>v.cells.toList)++((List.range (n*1)).map λj=>u.cells.toList[j%u.cells.toList.length]!).drop ((0+n)*1))=us:=by rw[List.drop_eq_nil_of_le (by rw[hb0,Nat.zero_add];exact Nat.le_refl _),hfm];simp
 rw[hcs]at Dv;have hi:((parts.toList.map (·.1)).all λi=>decide (i<n))=true:=by rw[m2,List.all_eq_true];intro i hi;rw[List.mem_range'_1]at hi;simp;omega
 have:=YA (P:=P) (N:=N) (c:=c) (d:=d) (ty:=ty) (ps:=ps) (af:=af) (g:=g) (F:=nN a) (H:=HS++(HK++X)) (t:=T) (n:=n) m1 Dv hi (by omega) (by omega) a.defers a w next Q hs0 λb w' _ hs hp=>by
  refine hk (ρ.set S.nx (dO b 0)) J [] w' _ (bh.kL _ _ _) (λ_ h=>h) ?_ (h.new h1 hs hp ?_)
  ·refine⟨⟨b,0, .inl (bh.iN _ _ _),?_⟩,by simp,by simp⟩
   simp[SP,fj]
  ·exact⟨b, .agg us.toArray,bh.iN _ _ _,rfl,⟨us,rfl,m4.ext ((bh.kL ρ S.nx _).le h.fr),λv hv=>(m5 v hv).2⟩⟩
 simpa using this
def XL(P:Program)(tt:TT P G)(T:Nat):Option (Nat×Nat×Nat):=match tt.te.find T with
 |some (.mV n e sz _)=>some (n,e,sz)
 |_ =>match P.underlying T with
  |some (.pointer a)=>(match tt.te.find a with
   |some (.mV n e sz _)=>some (n,e,sz)
   |_ =>none)
  |_ =>none
theorem Hj{T n e sz:Nat}(h:XL P tt T=some (n,e,sz)):tu P T n e sz\/IS P T n e sz=true:=by
 unfold XL at h;split at h
 ·rename_i h1;cases h;exact .inl (tt.mV h1)
 ·split at h
  ·rename_i a h1
   split at h
   ·rename_i h2
    cases h;refine .inr ?_;unfold IS;rw[h1];exact(tt.mV h2).ok
   ·cases h
  ·cases h
def VB(P:Program)(tt:TT P G)(E:Operand->Option (AV G))(T:Nat)(x:Operand)(lo hi mx:Option Operand):PV G:=match E x,XL P tt T with
 |some (.ptr r p),some (n,_,sz)=>(match lo,hi,mx with
  |none,none,none=>some ([], .EE r p n sz false (n:Int))
  |some l,none,none=>(match mU (E l)with
   |some (_,i,_)=>some ([dH i (n+1)], .EE r p n sz true i)
   |none=>none)
  |none,some h,none=>(match mU (E h)with
   |some (_,i,_)=>some ([dH i (n+1)], .EE r p n sz false i)
   |none=>none)
  |_,_,_ =>none)
 |_,_ =>none
theorem VA{ob:Nat->Option (Ob G)}{E:Operand->Option (AV G)}(hm:Qq (G:=G) J ρ N c D H ob a w)(hE:Ap J ρ a E){T:Nat}{x:Operand}{lo hi mx:Option Operand}{v:AV G}{gs:List Bool}(h:VB P tt E T x lo hi mx=some (gs,v))(hg:∀b∈gs,b=true):Ch P c J ρ ⟨d, .slice T x lo hi mx,ty,ps,af,g⟩ a w v:=by
 unfold VB at h;split at h
 ·rename_i r p n e sz hx ht
  obtain⟨b,o,e1,e2,e3⟩:=pO (hE.ok _ _ hx);have fx:=hE.ev _ _ hx;rw[e2]at fx;split at h
  ·cases h
   refine⟨_,⟨⟨b,o,e1,rfl⟩,e3,by simp⟩,?_⟩;rw[Da,aki];rcases Hj ht with h1|h1
   ·exact(TQ fx).vk hm.st
   ·exact(TP h1 fx).vk hm.st
  ·split at h
   ·rename_i k i q hl
    cases h;obtain⟨h1,h2⟩:=cq (hg (dH i (n+1)) (by simp));have h2:=Nat.lt_succ_iff.1 h2;refine⟨_,⟨⟨b,o,e1,rfl⟩,e3,h2⟩,?_⟩;rw[LF];rcases Hj ht with h3|h3
    ·exact(Ye fx (ku hE hl) h1 h2).vk hm.st
    ·exact(Yd h3 fx (ku hE hl) h1 h2).vk hm.st
   ·cases h
  ·split at h
   ·rename_i k i q hl
    cases h;obtain⟨h1,h2⟩:=cq (hg (dH i (n+1)) (by simp));have h2:=Nat.lt_succ_iff.1 h2;refine⟨_,⟨⟨b,o,e1,rfl⟩,e3,h2⟩,?_⟩;rw[Da];rcases Hj ht with h3|h3
    ·exact(Od fx (ku hE hl) h1 h2).vk hm.st
    ·exact(Oc h3 fx (ku hE hl) h1 h2).vk hm.st
   ·cases h
  ·cases h
 ·cases h
theorem Rl.ajz{r T':Nat}{cc:AV G}(h:Rl c N ρ J HK X C S a w)(ho:dm S.O r=some (.cI T' cc)):∃(b:Nat) (u:Value) (J':World->Prop) (Y:List aE),ρ r=some (dO b 0)/\rv J ρ cc u/\(∀w,J' w->J w)/\(∀w,J' w->(aE.cells b T' u.cells.toList).holds w/\b<w.heap.size)/\Rl c N ρ J' HK (Y++X) C {S with O:=xH S.O r} a w:=by
 obtain⟨HS,q1,q3⟩:=h.hp;obtain⟨k,x,k1,⟨b,u,m1,rfl,m3⟩,k3⟩:=q1.del ho;let x:aE:= .cells b T' u.cells.toList;let J':World->Prop:=λw=>J w/\Hs [x] w;have mJ:∀w,J' w->J w:=λw h=>h.1;have hle:=bh.le_refl ρ;have hxm:x∈HS:=List.mem_of_getElem? k1;have hxH:x∈HS++(HK++X):=akk _ hxm;obtain⟨q,hq1,L8,hq3⟩:=h.kn.one (q3.holds x hxH) λb hb=>(q3.own x hxH b hb).2;refine⟨b,u,J',[q],m1,m3,mJ,λw hw=>⟨(hw.2 x (by simp)).1,(hw.2 x (by simp)).2 b (by simp[x,aE.cI])⟩,h.tm,h.df.up mJ hle,h.si,h.fs.up mJ hle,h.fc.up mJ hle,h.Oo mJ hle,⟨HS.eraseIdx k,k3.up mJ hle,?_⟩,hq3,h.fr⟩;have q4:=(q3.j9 (pP k1 _)).set (k:=0) (r':=q) rfl (Nat.le_refl _) (λ_ _ _ =>rfl) hq1 h.si.s.size (λb hb=>by
  rw[L8]at hb;exact⟨.inl hb,(q3.own x hxH b hb).2⟩)
 refine bH.j9 q4 ?_;have e1:HK++([q]++X)=HK++(q::X):=rfl;rw[e1];refine List.Perm.trans ?_ (List.Perm.append_left _ (List.perm_middle (a:=q) (l₁:=HK) (l₂:=X)).symm);exact(List.perm_middle (a:=q) (l₁:=HS.eraseIdx k) (l₂:=HK++X)).symm
theorem Tm{f:Nat->List Value}{z:Nat}:∀{n m:Nat},(∀i,i<n->(f i).length=z)->m<=n->(flat f n).take (m*z)=flat f m:=by
 intro n
 induction n with
 |zero=>
  intro m _ h;have:m=0:=by omega
  subst this;simp[flat]
 |succ n ih=>
  intro m h hm;rcases Nat.lt_or_ge n m with q|q
  ·have:m=n+1:=by omega
   subst this;exact List.take_of_length_le (by rw[ga h];exact Nat.le_refl _)
  ·show(flat f n++f n).take (m*z)=_
   have hl:(flat f n).length=n*z:=ga λi hi=>h i (by omega);have hle:m*z<=n*z:=Nat.mul_le_mul_right _ q;rw[List.take_append_of_le_length (by omega)];exact ih (λi hi=>h i (by omega)) q
theorem U3{T r n e0 sz T':Nat}{x hi:Operand}{p:List tv}{cc:AV G}{e:Ty}{f:Nat->e.T G}{k:IntKind}{i:Int}{q:Bool}(hT:XL P tt T=some (n,e0,sz))(hx:gv C S [] x=some (.ptr r p))(hh:mU (gv C S [] hi)=some (k,i,q))(ho:dm S.O r=some (.cI T' cc))(hl:KR tt.F cc p=some (.dat (.mV n e) f))(hg:dH i (n+1)=true):
  SK P ⟨d, .slice T x none (some hi) none,ty,ps,af,g⟩ C S {S with O:=xH S.O r} (.dat (.sl e) ((List.range i.toNat).map f)):=by
 intro c N ρ J HK X a w next Q h hk
 have hE:=dk h (ch:=[]) (by simp);obtain⟨b,o,e1,e2,e3⟩:=pO (hE.ok _ _ hx);obtain⟨b',u,J',Y,m1,m2,mJ,m3,h'⟩:=h.ajz ho;have eb:b=b'/\o=0:=by rcases e1 with h1|⟨n,cap,_,_,_,_,h1,_⟩<;>rw[h1]at m1<;>simp[dO]at m1;exact m1
 obtain⟨rfl,rfl⟩:=eb;obtain⟨g1,g2⟩:=cq hg;have g2:=Nat.lt_succ_iff.1 g2;obtain⟨u',n1,n2,n3⟩:=Ij hl m2 e3;obtain⟨u2,e4,⟨Ow,r1,r2⟩,_⟩:=n1;cases e4;have hlen:∀i,i<n->(Ow i).length=(e.L G).n:=λi hi=>(e.L G).len (r2 i hi);have hsz:u'.cells.size=n*(e.L G).n:=by rw[← Array.length_toList,r1,ga hlen]
 have hm:((List.range i.toNat).map f).length=i.toNat:=by simp
 have hxl:=hE.ev _ _ hx;rw[e2,Nat.zero_add]at hxl;have fl:=ku hE hh;have hfz:Cq J' (.slice (some ⟨b,fj p,none⟩) i.toNat n) (e.L G) (flat Ow i.toNat) ((List.range i.toNat).map f):=by
  refine⟨⟨_,_,by rw[hm]⟩,?_,λw hw=>?_⟩
  ·rw[hm]
   refine⟨Ow,rfl,λj hj=>?_⟩;have e5:((List.range i.toNat).map f).getD j default=f j:=by simp[List.getD_eq_getElem?_getD,hj]
   show(e.L G).fg J' (Ow j) (((List.range i.toNat).map f).getD j default);rw[e5];exact(e.L G).mono mJ (r2 j (by omega))
  ·obtain⟨k1,k2⟩:=m3 w hw
   refine⟨by rw[hm,ga λj hj=>hlen j (by omega)], .inr ⟨b,fj p,n,by rw[hm],k2,by rw[hm];exact g2,λj v hj=>?_⟩⟩;rw[q7 k1];have hj1:j<i.toNat*(e.L G).n:=by have:=(List.getElem?_eq_some_iff.1 hj).1;rwa[ga λj hj=>hlen j (by omega)]at this
   have hj2:i.toNat*(e.L G).n<=n*(e.L G).n:=Nat.mul_le_mul_right _ g2;rw[← Tm hlen g2, ← r1, ← n2,List.getElem?_take,akd hj1,List.getElem?_take,akd (by omega),List.getElem?_drop]at hj;exact hj
 obtain⟨Uj,_,hs0,hm'⟩:=h'.st;have hv:rv J' ρ (.dat (.sl e) ((List.range i.toNat).map f)) (.slice (some ⟨b,fj p,none⟩) i.toNat n):=⟨_,rfl,GY hfz⟩;have fin:∀w',aQ [] w w'->next (a.put d (.slice (some ⟨b,fj p,none⟩) i.toNat n)) w':=λw' hs=>by refine hk ρ J' Y w' _ (bh.ef _ _) mJ hv ?_;obtain⟨HS2,p1,p3⟩:=h'.hp;exact⟨h'.tm,h'.df,h'.si.ext hs,h'.fs,h'.fc,h'.kc,⟨HS2,p1,p3.ext hs⟩,h'.kn,h'.fr⟩
 rcases Hj hT with h3|h3
 ·exact(Od (P:=P) (N:=N) (c:=c) hxl fl g1 g2) a.defers a w next Q hs0 fin
 ·exact(Oc (P:=P) (N:=N) (c:=c) h3 hxl fl g1 g2) a.defers a w next Q hs0 fin
theorem Yw{F:eH}{x y:Operand}{t e b off n i j T:Nat}{cs cs':List Value}{H':List aE}(ht:FT P t e 1=true)(hx:Bw.ev F x=some (YM b off i n 1))(hy:Bw.ev F y=some (YM b off j n 1))(hi:i<=n)(hj:j<=n)(hle:off+n<=cs.length)(h1:o9 ((cs.drop (off+j)).take (min (n-j) (n-i))))
  (hc':bX cs (if n=i then off else off+i*1) ((cs.drop (off+j)).take (min (n-j) (n-i)))=cs')[hc:sE H b T cs][hs:Gz H b cs' H']:
  RX (α:=Unit) P N c ⟨d, .call ⟨.builtin .copy, #[x,y], #[t,t]⟩,ty,ps,af,g⟩ F H (λ_ =>True) (λ_ => .int .i64 (min (n-j) (n-i):Nat)) (λ_ =>H'):=λD a w next Q hst hk=>by
 obtain⟨inf,e1,e2,e3⟩:=vD.get ht;have hb:w.heap[b]? =some (.cells cs.toArray T (0,0)):=hst.hp.holds _ hc.mem;let m:=min (n-j) (n-i);let o:=if n=i then off else off+i*1
 let src:=(cs.drop (off+j)).take m;have rX:src.length=m:=by simp only[src,List.length_take,List.length_drop];omega
 have hoi:m≠0->o=off+i:=λhm=>by simp only[o];split<;>omega
 have abW:∀l:Nat,(if n=l then(⟨b,off,none⟩:Addr)else⟨b,off+l*1,none⟩)=⟨b,if n=l then off else off+l*1,none⟩:=λl=>by split<;>rfl
 have hsrc:∀(q:Nat) (v:Value),src[q]? =some v->w.cell? ((⟨b,if n=j then off else off+j*1,none⟩:Addr).add q)=some v:=λq v hq=>by
  have L8:q<m:=by have:=(List.getElem?_eq_some_iff.1 hq).1;omega
  have hnj:¬n=j:=by omega
  rw[ake hnj,Addr.add_lit,q7 (hst.hp.holds _ hc.mem)];simp only[src,List.getElem?_take,akd L8,List.getElem?_drop]at hq;rw[← hq,Nat.mul_one]
 have h1:o9 src:=h1;have hrun:=run_copy_row (P:=P) w t t ty e b o (n-i) (n-i) ⟨b,if n=j then off else off+j*1,none⟩ (n-j) (n-j) cs.toArray T src e1 (by simp[e2,e3]) hb rX hsrc (by
  rw[rX,List.size_toArray];by_cases hm:m=0
  ·rw[hm];simp only[o];split<;>omega
  ·rw[hoi hm];omega) h1
 have hnew:cs.take o++src++cs.drop (o+src.length)=cs':=hc';have jb:aQ [b] w (w.setRow b cs'.toArray):=⟨rfl,rfl,rfl,by simp,λk _ hk=>setRow_other w b k _ (by simpa using hk)⟩;refine ew (by simp) (v:= .int .i64 (m:Nat)) (w':=w.setRow b cs'.toArray) ?_ (hk () _ trivial (hst.si.store hst.hp hc.mem (by simp[aE.cI]) jb) (hst.hp.acK hs jb hst.si.size ?_))
 ·have e5:(cs.toArray.toList.take o++src++cs.toArray.toList.drop (o+src.length)).toArray=cs'.toArray:=by rw[← hnew]
  rw[e5,rX]at hrun;have tD:a.eval x= .slice (some ⟨b,o,none⟩) (n-i) (n-i):=by rw[aI hst.fr hx,YM,abW i]
  have hy2:a.eval y= .slice (some ⟨b,if n=j then off else off+j*1,none⟩) (n-j) (n-j):=by rw[aI hst.fr hy,YM,abW j]
  simp only[Nat.mul_one]at hrun hy2;simp[execOp,resolve,invoke,builtin,tD,hy2,hrun];rfl
 ·intro T' aem hT
  have:=FW (hst.hp.holds _ hc.mem) hT;obtain⟨rfl,rfl⟩:=this;have:=setRow_heap w b cs.toArray cs'.toArray T (0,0) hb;simpa[aE.holds]using this
def Ko:List tv->List tv->Bool
 |[],[]=>true
 | .D2 j o::r, .D2 k q::s=>Nat.beq j k&&(Nat.beq o q&&Ko r s)
 |_,_ =>false
theorem Zt:∀{p q:List tv},Ko p q=true->p=q:=by
 intro p
 induction p with
 |nil=>intro q h;cases q with
  |nil=>rfl
  |cons _ _ =>cases h
 |cons s r ih=>
  intro q h;cases s with
  |D2 j o=>
   cases q with
   |nil=>cases h
   |cons t q=>
    cases t with
    |D2 k l=>simp only[Ko,akg]at h;rw[akf h.1,akf h.2.1,ih h.2.2]
    |idx _ _ _ =>cases h
  |idx _ _ _ =>cases q<;>cases h
theorem Nx{k:IntKind}{n:Nat}{f:Nat->Int}{cs:List Value}(h:(LA (LI k) n).fg J cs f):cs=flat (λq=>[Value.int k (f q)]) n:=by obtain⟨g,rfl,h1⟩:=h;exact uI λi hi=>h1 i hi
theorem Wx{k:IntKind}{n:Nat}{f:Nat->Int}:rv (G:=G) J ρ (.dat (.mV n (.int k)) f) (.agg (flat (λq=>[Value.int k (f q)]) n).toArray):=
 ⟨_,rfl,⟨λq=>[Value.int k (f q)],rfl,λ_ _ =>rfl⟩,λ_ =>⟨_,rfl⟩,nofun⟩
theorem P7{k:IntKind}{f:Nat->Int}{cs:List Value}{off i j n:Nat}(hi:i<=n)(hj:j<=n)(hle:off+n<=cs.length)(hsub:(cs.drop off).take n=flat (λq=>[Value.int k (f q)]) n):
  bX cs (if n=i then off else off+i*1) ((cs.drop (off+j)).take (min (n-j) (n-i)))=bX cs off (flat (λq=>[Value.int k (cpA i j n f q)]) n):=by
 let m:=min (n-j) (n-i);let o:=if n=i then off else off+i*1
 let src:=(cs.drop (off+j)).take m;show bX cs o src=_;have rX:src.length=m:=by simp only[src,List.length_take,List.length_drop];omega
 have hoi:m≠0->o=off+i:=λhm=>by simp only[o];split<;>omega
 have hfl:(flat (λq=>[Value.int k (cpA i j n f q)]) n).length=n:=by rw[ga (k:=1) (λq _ =>rfl)];omega
 have hcell:∀q,q<n->cs[off+q]? =some (Value.int k (f q)):=λq hq=>by
  have h5:((cs.drop off).take n)[q]? =(flat (λq=>[Value.int k (f q)]) n)[q]? :=by rw[hsub]
  rw[List.getElem?_take,akd hq,List.getElem?_drop,Xk (λi=>rfl),akd hq]at h5;exact h5
 refine wM λq=>?_;rw[iM (off:=o) (vs:=src) (by
  rw[rX];by_cases hm:m=0
  ·rw[hm];simp only[o];split<;>omega
  ·rw[hoi hm];omega),iM (off:=off) (by omega),hfl,rX]
 by_cases hin:off<=q/\q<off+n
 ·rw[akd hin,Xk (λi=>rfl),akd (show q-off<n by omega)]
  by_cases hm:i<=q-off/\q-off<i+m
  ·have ho:=hoi (by omega)
   rw[akd (by omega)];simp only[cpA];rw[akd hm];simp only[src,List.getElem?_take,List.getElem?_drop];rw[akd (by omega),show off+j+(q-o)=off+(q-off-i+j)by omega];exact hcell _ (by omega)
  ·have hno:¬(o<=q/\q<o+m):=λhq=>by
    have ho:=hoi (by omega);omega
   rw[ake hno];simp only[cpA];rw[ake hm];have:=hcell (q-off) (by omega);rw[show off+(q-off)=q by omega]at this;exact this
 ·rw[ake hin]
  have hno:¬(o<=q/\q<o+m):=λhq=>by have ho:=hoi (by omega);omega
  rw[ake hno]
theorem HY{r:Nat}{p:List tv}{n sz:Nat}{up:Bool}{i:Int}{u:Value}(h:rv (G:=G) J ρ (.EE r p n sz up i) u){b:Nat}(m1:ρ r=some (dO b 0)):u=SP b (fj p) n sz up i.toNat/\(∀s∈p,s.ok)/\i.toNat<=n:=by
 obtain⟨⟨b',o,e1,e2⟩,e3,e4⟩:=h;have eb:b'=b/\o=0:=by rcases e1 with h1|⟨n,cap,_,_,_,_,h1,_⟩<;>rw[h1]at m1<;>simp[dO]at m1;exact m1
 obtain⟨rfl,rfl⟩:=eb;rw[Nat.zero_add]at e2;exact⟨(List.cons.inj e2).1,e3,e4⟩
theorem acE{T e bt r T' n:Nat}{x y:Operand}{p p':List tv}{cc Ow:AV G}{k:IntKind}{f:Nat->Int}{i j:Int}(hT:tt.te.find T=some (.sl e 1 bt))(hx:gv C S [] x=some (.EE r p n 1 true i))(hy:gv C S [] y=some (.EE r p' n 1 true j))(hp:Ko p p'=true)(ho:dm S.O r=some (.cI T' cc))(hl:KR tt.F cc p=some (.dat (.mV n (.int k)) f))
  (hst:OR tt.F cc p (.dat (.mV n (.int k)) (cpA i.toNat j.toNat n f))=some Ow):
  SK P ⟨d, .call ⟨.builtin .copy, #[x,y], #[T,T]⟩,ty,ps,af,g⟩ C S {S with O:=qm S.O r (.cI T' Ow)} (.int .i64 ((min (n-j.toNat) (n-i.toNat):Nat):Int)):=by
 intro c N ρ J HK X a w next Q h hk
 obtain⟨HS,h1,hs0,hm⟩:=h.st;have hE:=dk h (ch:=[]) (by simp);obtain⟨kk,q,k1,⟨b,u,m1,rfl,m3⟩,k3⟩:=h1.set ho;obtain rfl:=Zt hp;obtain⟨x1,e3,x3⟩:=HY (hE.ok _ _ hx) m1;obtain⟨y1,_,y3⟩:=HY (hE.ok _ _ hy) m1;have tD:=hE.ev _ _ hx;have hy2:=hE.ev _ _ hy;rw[x1,LF]at tD;rw[y1,LF]at hy2;obtain⟨u',n1,n2,n3⟩:=Ij hl m3 e3;obtain⟨u2,e4,hr,_⟩:=n1;cases e4;have hfl:=Nx hr;have hsz:u'.cells.size=n:=by rw[← Array.length_toList,hfl,ga (k:=1) (λ_ _ =>rfl),Nat.mul_one]
 rw[hsz,hfl]at n2;rw[hsz]at n3;obtain⟨u3,q1,q2,q3,q4⟩:=Ls (Wx (J:=J) (ρ:=ρ) (k:=k) (n:=n) (f:=cpA i.toNat j.toNat n f)) hst m3 e3;have hone:o9 ((u.cells.toList.drop (fj p+j.toNat)).take (min (n-j.toNat) (n-i.toNat))):=λv hv=>by
  obtain⟨q,hq⟩:=List.mem_iff_getElem?.1 hv;have hq1:q<min (n-j.toNat) (n-i.toNat):=by have:=(List.getElem?_eq_some_iff.1 hq).1;simp only[List.length_take]at this;omega
  rw[List.getElem?_take,akd hq1,List.getElem?_drop]at hq;have h5:((u.cells.toList.drop (fj p)).take n)[j.toNat+q]? =(flat (λq=>[Value.int k (f q)]) n)[j.toNat+q]? :=by rw[n2]
  rw[List.getElem?_take,akd (by omega),List.getElem?_drop, ← Nat.add_assoc,hq,Xk (λi=>rfl),akd (by omega)]at h5;cases h5;rfl
 have Jw:=qX (m:=HK++X) k1;haveI:sE (HS++(HK++X)) b T' u.cells.toList:=⟨List.mem_of_getElem? Jw⟩;haveI:Gz (HS++(HK++X)) b u3.cells.toList (HS.set kk (.cells b T' u3.cells.toList)++(HK++X)):=⟨kk,T',_,Jw,by rw[vo k1]⟩;refine Yw (cs:=u.cells.toList) (cs':=u3.cells.toList) (tt.sl hT).1.ok tD hy2 x3 y3 (by simpa using n3) hone ?_ a.defers a w next Q hs0 λ_ w' _ hs hp=>?_
 ·rw[q2]
  exact P7 x3 y3 (by simpa using n3) n2
 ·exact hk ρ J [] w' _ (bh.ef _ _) (λ_ h=>h) rfl (h.C0 (k3 (.cI T' Ow) _ ⟨b,u3,m1,rfl,q1⟩) hs hp)
theorem aaO{e:Nat}{k:IntKind}(h:DF P e k=true):(P.info? e).bind (·.zero)=some (.int k 0):=by
 unfold DF at h;split at h
 ·rename_i k' n h1
  simp only[akg,beq_iff_eq]at h;obtain rfl:=Io h.1;rw[h1,h.2]
 ·cases h
theorem acF{T e bt r T' n:Nat}{x:Operand}{p:List tv}{cc Ow:AV G}{k:IntKind}{f:Nat->Int}{i:Int}(hT:tt.te.find T=some (.sl e 1 bt))(hx:gv C S [] x=some (.EE r p n 1 false i))(hi:Nat.beq i.toNat n=true)(hn:Nat.blt 0 n=true)(ho:dm S.O r=some (.cI T' cc))(hl:KR tt.F cc p=some (.dat (.mV n (.int k)) f))(hz:DF P e k=true)
  (hst:OR tt.F cc p (.dat (.mV n (.int k)) (λ_ =>(0:Int)))=some Ow):
  SK P ⟨d, .call ⟨.builtin .clear, #[x], #[T]⟩,ty,ps,af,g⟩ C S {S with O:=qm S.O r (.cI T' Ow)} (.jc .nil):=by
 intro c N ρ J HK X a w next Q h hk
 obtain⟨HS,h1,hs0,hm⟩:=h.st;have hE:=dk h (ch:=[]) (by simp);obtain⟨kk,q,k1,⟨b,u,m1,rfl,m3⟩,k3⟩:=h1.set ho;obtain⟨x1,e3,x3⟩:=HY (hE.ok _ _ hx) m1;have tD:=hE.ev _ _ hx;rw[x1,Da,akf hi]at tD;obtain⟨u',n1,n2,n3⟩:=Ij hl m3 e3;obtain⟨u2,e4,hr,_⟩:=n1;cases e4;have hfl:=Nx hr;have hsz:u'.cells.size=n:=by rw[← Array.length_toList,hfl,ga (k:=1) (λ_ _ =>rfl),Nat.mul_one]
 rw[hsz]at n3;obtain⟨u3,q1,q2,q3,q4⟩:=Ls (Wx (J:=J) (ρ:=ρ) (k:=k) (n:=n) (f:=λ_ =>(0:Int))) hst m3 e3;have Jw:=qX (m:=HK++X) k1;haveI:sE (HS++(HK++X)) b T' u.cells.toList:=⟨List.mem_of_getElem? Jw⟩;haveI:Gz (HS++(HK++X)) b u3.cells.toList (HS.set kk (.cells b T' u3.cells.toList)++(HK++X)):=⟨kk,T',_,Jw,by rw[vo k1]⟩;have tz:Qn P e (.int k 0):=⟨aaO hz⟩;refine Yy (cs:=u.cells.toList) (cs':=u3.cells.toList) (z:= .int k 0) (tt.sl hT).1.ok tz rfl rfl tD (by simpa[Nat.blt_eq]using hn) (by simpa using n3) ?_ a.defers a w next Q hs0 λ_ w' _ hs hp=>?_
 ·rw[q2, ← zu]
  rfl
 ·exact hk ρ J [] w' _ (bh.ef _ _) (λ_ h=>h) ⟨[],rfl,rfl⟩ (h.C0 (k3 (.cI T' Ow) _ ⟨b,u3,m1,rfl,q1⟩) hs hp)
end Go.Rw
namespace Go.Bw
open Go Go.RowKit
def Apt(H:List aE)(w w':World):Prop:=w.heap.size<=w'.heap.size/\∀b,b<w.heap.size->b∉bF H->w'.heap[b]? =w.heap[b]?
theorem TO{P:Program}{N:Nat}{c:Cx}{D:List Deferred}{Q:Exit->Act->World->Prop}{H:List aE}{g:Operand}{ps:List Nat}{assign body:Code}
  {gf n:Nat}{caps:Array Value}{Hc Ho:List aE}{u6:Nat->List Value}{α β:Type}
  {a:Act}{w:World}(hst:St N c D [] H a w)(hro:c.ro=none)(hg:a.eval g= .func (.func gf) #[] caps)(hen:∀args w,(callFunc gf args).run P w= .ok (.enter gf args) w)
  (hit:∀(ly:Nat) (J:Nat->List Nat->World->Prop) (Jx:List Nat->World->Prop) (bs:List Nat) (W1:World),Apt H w W1->(∀b∈bs,b∈bF H\/w.heap.size<=b)->bH (bs++bF Hc) W1.heap.size (.ext bs (J 0 bs)::Hc) W1->Rnd P ly (bs++bF Hc) W1 J Jx u6 n->
   Calls P gf (.func (.yield ly) #[] #[]::caps.toList).toArray W1 λe w'=>∃x:Bool×List Nat,e= .returned (.tuple #[])/\aQ (bs++bF Hc) W1 w'/\bH (bs++bF Hc) W1.heap.size (.ext x.2 (bif x.1 then J n x.2 else Jx x.2)::Ho) w')(hlen:∀k,(u6 k).length=ps.length)(hps:ps.all (Nat.blt · N)=true)
  (p:Nat->α->Prop)(I:Nat->α->List aE)(px:Code->β->Prop)(X:β->List aE)(i0:α)(Px:p 0 i0)(hH:H=Hc++I 0 i0)
  (hbody:∀(k:Nat) (i:α) (rec:Loop) (bs:List Nat) (W:World),k<n->p k i->rec.state= .ready->rec.pending=none->c.w0.heap.size<=W.heap.size->
   (∀b,(b∈bs\/W.heap.size<=b)->(b∈c.bs\/c.w0.heap.size<=b))->Apt H w W->bH bs W.heap.size (.obj w.heap.size (.deferred (some [])):: .obj (w.heap.size+1) (.loop rec)::I k i) W->
   assign.wpIn (FA (some (w.heap.size+1))) 0 P (aeZ P (w.heap.size+1) body (Yr ⟨some (w.heap.size+1),W,bs⟩ (JW c.w0.heap.size c.bs (p (k+1)) (λi=> .obj w.heap.size (.deferred (some [])):: .obj (w.heap.size+1) (.loop rec)::I (k+1) i))
    (JW c.w0.heap.size c.bs (λq:Code×β=>px q.1 q.2) (λq=> .obj w.heap.size (.deferred (some [])):: .obj (w.heap.size+1) (.loop {rec with state:= .done,pending:=some q.1})::X q.2))))
    {tmps:=(ps.zip (u6 k)).foldl (λt q=>t.setIfInBounds q.1 q.2) a.tmps,defers:=[]} W)
  (hdone:∀i w2,p n i->Apt H w w2->St N c (mark w.heap.size::D) [] (.obj w.heap.size (.deferred (some []))::(Ho++I n i)) {a with defers:=mark w.heap.size::a.defers} w2->Q .normal {a with defers:=mark w.heap.size::a.defers} w2)
  (ahh:∀j i w2,px j i->Apt H w w2->St N c (mark w.heap.size::D) [] (.obj w.heap.size (.deferred (some []))::(Ho++X i)) {a with defers:=mark w.heap.size::a.defers} w2->j.wpIn (FA c.ro) 0 P Q {a with defers:=mark w.heap.size::a.defers} w2):
  (Code.rangeFunc g ps.toArray assign body).wpIn (FA c.ro) 0 P Q a w:=by
 refine wpIn_rangeFunc λfn _ =>?_;have vU:(FA c.ro).round=none:=hro;rw[vU];obtain⟨rec,bJ⟩:∃rec:Loop,rec={state:= .ready,pending:=none,fn,tmps:=a.tmps,params:=ps.toArray,assign,body,defers:=w.heap.size}:=⟨_,rfl⟩;obtain⟨W1,hW1⟩:∃W1,(w.alloc (.deferred (some []))).alloc (.loop rec)=W1:=⟨_,rfl⟩;have hs1:aQ [] w W1:=by rw[← hW1];exact(aQ.alloc w _).ext (aQ.alloc _ _)
 have aj3:W1.heap.size=w.heap.size+2:=by rw[← hW1];simp
 have hL1:W1.heap[w.heap.size+1]? =some (.loop rec):=by rw[← hW1];have:=World.alloc_heap_new (w.alloc (.deferred (some []))) (.loop rec);rwa[World.size_alloc]at this
 have hK1:W1.heap[w.heap.size]? =some (.deferred (some [])):=by rw[← hW1];exact(Below.heap_alloc _ _ _ (by simp)).trans (World.alloc_heap_new w _)
 have hev:=hg;have hfr:=hst.fr;let J:Nat->List Nat->World->Prop:=λk=>JW c.w0.heap.size c.bs (p k) (λi=> .obj w.heap.size (.deferred (some [])):: .obj (w.heap.size+1) (.loop rec)::I k i);let Jx:List Nat->World->Prop:=JW c.w0.heap.size c.bs (λq:Code×β=>px q.1 q.2) (λq=> .obj w.heap.size (.deferred (some [])):: .obj (w.heap.size+1) (.loop {rec with state:= .done,pending:=some q.1})::X q.2);have aha:bH c.bs c.w0.heap.size (Hc++I 0 i0) W1:=by rw[← hH];exact hst.hp.ext hs1
 have hH1:bH c.bs c.w0.heap.size (.obj w.heap.size (.deferred (some [])):: .obj (w.heap.size+1) (.loop rec)::(Hc++I 0 i0)) W1:=by
  have hlt:∀s∈Hc++I 0 i0,∀b∈s.cI,b<w.heap.size:=λs hs b hb=>by
   have hm:s∈H:=by rw[hH];exact hs
   exact(hst.hp.own s hm b hb).2
  have aj2:=hst.si.size;refine bH.cons (bH.cons aha hL1 ?_ ?_) hK1 ?_ ?_
  ·intro b hb;have e:b=w.heap.size+1:=by simpa[aE.cI]using hb
   subst e;exact⟨.inr (by omega),by omega⟩
  ·intro s hs b hb oo
   have e:b=w.heap.size+1:=by simpa[aE.cI]using hb
   have:=hlt s hs b oo;omega
  ·intro b hb;have e:b=w.heap.size:=by simpa[aE.cI]using hb
   subst e;exact⟨.inr (by omega),by omega⟩
  ·intro s hs b hb oo
   have e:b=w.heap.size:=by simpa[aE.cI]using hb
   rcases List.mem_cons.1 hs with rfl|hs
   ·have e2:b=w.heap.size+1:=by simpa[aE.cI]using oo
    omega
   ·have:=hlt s hs b oo;omega
 let I0:List aE:= .obj w.heap.size (.deferred (some [])):: .obj (w.heap.size+1) (.loop rec)::I 0 i0;have hHI:bH c.bs c.w0.heap.size I0 W1:=hH1.sub (by
  refine List.Sublist.cons_cons _ (List.Sublist.cons_cons _ (List.sublist_append_right _ _)))
 have hHc:bH c.bs c.w0.heap.size Hc W1:=hH1.sub (by
  refine List.Sublist.cons _ (List.Sublist.cons _ (List.sublist_append_left _ _)))
 have hap:∀r∈I0,∀s∈Hc,r.apart s:=by
  intro r hr s hs;have s9:=hH1.apart;rw[List.pairwise_cons,List.pairwise_cons,List.pairwise_append]at s9;obtain⟨q1,q2,_,_,q3⟩:=s9;rcases List.mem_cons.1 hr with rfl|hr
  ·exact q1 s (by simp[hs])
  ·rcases List.mem_cons.1 hr with rfl|hr
   ·exact q2 s (by simp[hs])
   ·exact aE.uQ (q3 s hs r hr)
 refine⟨w.heap.size+1,[mark w.heap.size],W1,{target:= .fn (.func gf) caps,args:= #[.func (.yield (w.heap.size+1)) #[] #[]]},W1,gf,
  (Value.func (.yield (w.heap.size+1)) #[] #[]::caps.toList).toArray,W1,?_,?_,λ_ _ =>trivial,?_,λh=>by simp at h,?_⟩
 ·rw[← hW1,bJ];exact run_enterLoop_outer _ _ _ _ _
 ·simp only[resolve,hev]
  simp[go_sem]
 ·have:=hen (#[.func (.yield (w.heap.size+1)) #[] #[]]++caps) W1
  simp only[invoke];rw[this];congr 2;simp
 ·have hin:bH (bF I0++bF Hc) W1.heap.size (aE.ext (bF I0) (J 0 (bF I0))::Hc) W1:=by
   refine⟨?_,?_,?_⟩
   ·intro r hr
    rcases List.mem_cons.1 hr with rfl|hr
    ·exact Qs (I:=λi=> .obj w.heap.size (.deferred (some [])):: .obj (w.heap.size+1) (.loop rec)::I 0 i) i0 Px hHI
    ·exact hHc.holds r hr
   ·intro r hr b hb
    rcases List.mem_cons.1 hr with rfl|hr
    ·obtain⟨s,hs,oo⟩:=bg.1 hb
     exact⟨.inl (akk _ hb),(hHI.own s hs b oo).2⟩
    ·exact⟨.inl (akj _ (bg.2 ⟨r,hr,hb⟩)),(hHc.own r hr b hb).2⟩
   ·refine List.pairwise_cons.2 ⟨λs hs b hb oo=>?_,hHc.apart⟩
    obtain⟨r,hr,JV⟩:=bg.1 hb;exact hap r hr s hs b JV oo
  have WH:∀b∈bF I0++bF Hc,b∈c.bs\/c.w0.heap.size<=b:=λb hb=>by
   rcases List.mem_append.1 hb with h|h
   ·obtain⟨r,hr,JV⟩:=bg.1 h;exact(hHI.own r hr b JV).1
   ·obtain⟨r,hr,JV⟩:=bg.1 h;exact(hHc.own r hr b JV).1
  have adx:aQ c.bs c.w0 W1:=hst.si.ext hs1;have adS:∀w',aQ (bF I0++bF Hc) W1 w'->Apt H w w':=λw' hs=>⟨by have:=hs.size;omega,λb hb hnb=>by
   have h1:b∉bF I0++bF Hc:=λhm=>hnb (by
    rw[hH];rcases List.mem_append.1 hm with hm|hm
    ·obtain⟨r,hr,JV⟩:=bg.1 hm
     rcases List.mem_cons.1 hr with rfl|hr
     ·have e:b=w.heap.size:=by simpa[aE.cI]using JV
      omega
     ·rcases List.mem_cons.1 hr with rfl|hr
      ·have e:b=w.heap.size+1:=by simpa[aE.cI]using JV
       omega
      ·exact bg.2 ⟨r,akj _ hr,JV⟩
    ·obtain⟨r,hr,JV⟩:=bg.1 hm
     exact bg.2 ⟨r,akk _ hr,JV⟩)
   rw[hs.block b (by omega) h1];exact hs1.block b hb (by simp)⟩
  have hbI:∀b∈bF I0,b∈bF H\/w.heap.size<=b:=λb hm=>by
   obtain⟨r,hr,JV⟩:=bg.1 hm;rcases List.mem_cons.1 hr with rfl|hr
   ·have e:b=w.heap.size:=by simpa[aE.cI]using JV
    exact .inr (by omega)
   ·rcases List.mem_cons.1 hr with rfl|hr
    ·have e:b=w.heap.size+1:=by simpa[aE.cI]using JV
     exact .inr (by omega)
    ·exact .inl (by rw[hH];exact bg.2 ⟨r,akj _ hr,JV⟩)
  have adP:=hit (w.heap.size+1) J Jx (bF I0) W1 (adS W1 (aQ.refl _ _)) hbI hin ?_
  ·refine jN c.ro ?_
   intro cs;obtain⟨e,w2,fr,⟨x,he,ag2,hh2⟩,Pv,zI⟩:=adP cs;refine⟨e,w2,fr,?_,Pv,zI⟩;subst he;obtain⟨go,bs'⟩:=x;have ag1:aQ c.bs c.w0 w2:=adx.trans ag2 WH;have hex:=hh2.holds _ (List.mem_cons_self);have aju:∀r∈Ho,r.holds w2:=λr hr=>hh2.holds r (akp _ hr);have ajt:∀s∈Ho,∀b∈bs',b∉s.cI:=λs hs b hb=>by have:=hh2.apart;rw[List.pairwise_cons]at this;exact this.1 s hs b hb
   have both:∀(IL:List aE) (jump:Option Code) (st:LoopState),st≠ .busy->bs'=bF (.obj w.heap.size (.deferred (some [])):: .obj (w.heap.size+1) (.loop {rec with state:=st,pending:=jump})::IL)->
     bH c.bs c.w0.heap.size (.obj w.heap.size (.deferred (some [])):: .obj (w.heap.size+1) (.loop {rec with state:=st,pending:=jump})::IL) w2->
     ∃w4,(Instr.endLoop (w.heap.size+1)).run P w2= .ok jump w4/\Apt H w w4/\St N c (mark w.heap.size::D) [] (.obj w.heap.size (.deferred (some []))::(Ho++IL)) {a with defers:=mark w.heap.size::a.defers} w4:=by
    intro IL jump st adw oo hI;have hl:w2.heap[w.heap.size+1]? =some (.loop {rec with state:=st,pending:=jump}):=hI.holds (.obj (w.heap.size+1) _) (by simp);have BZ:bH c.bs c.w0.heap.size (.obj w.heap.size (.deferred (some [])):: .obj (w.heap.size+1) (.loop {rec with state:=st,pending:=jump})::(Ho++IL)) w2:=by
     have hq:=hI.apart;rw[List.pairwise_cons,List.pairwise_cons]at hq;refine⟨?_,?_,?_⟩
     ·intro r hr
      rcases List.mem_cons.1 hr with rfl|hr
      ·exact hI.holds _ (by simp)
      ·rcases List.mem_cons.1 hr with rfl|hr
       ·exact hI.holds _ (by simp)
       ·rcases List.mem_append.1 hr with h|h
        ·exact aju r h
        ·exact hI.holds r (by simp[h])
     ·intro r hr b hb
      rcases List.mem_cons.1 hr with rfl|hr
      ·exact hI.own _ (by simp) b hb
      ·rcases List.mem_cons.1 hr with rfl|hr
       ·exact hI.own _ (by simp) b hb
       ·rcases List.mem_append.1 hr with h|h
        ·obtain⟨o,lt⟩:=hh2.own r (akp _ h) b hb
         exact⟨o.elim (WH b) (λo=> .inr (Nat.le_trans adx.size o)),lt⟩
        ·exact hI.own r (by simp[h]) b hb
     ·have hcI:∀r,r∈(aE.obj w.heap.size (.deferred (some [])):: .obj (w.heap.size+1) (.loop {rec with state:=st,pending:=jump})::IL)->∀s∈Ho,r.apart s:=λr hr s hs b hb KV=>ajt s hs b (by rw[oo];exact bg.2 ⟨r,hr,hb⟩) KV
      refine List.pairwise_cons.2 ⟨λs hs=>?_,List.pairwise_cons.2 ⟨λs hs=>?_,List.pairwise_append.2 ⟨(List.pairwise_cons.1 hh2.apart).2,hq.2.2,λs hs r hr=>aE.uQ (hcI r (by simp[hr]) s hs)⟩⟩⟩
      ·rcases List.mem_cons.1 hs with rfl|hs
       ·exact hq.1 _ (by simp)
       ·rcases List.mem_append.1 hs with h|h
        ·exact hcI _ (by simp) s h
        ·exact hq.1 s (by simp[h])
      ·rcases List.mem_append.1 hs with h|h
       ·exact hcI _ (by simp) s h
       ·exact hq.2.1 s h
    have L7:St N c (mark w.heap.size::D) [] (.obj w.heap.size (.deferred (some [])):: .obj (w.heap.size+1) (.loop {rec with state:=st,pending:=jump})::(Ho++IL)) {a with defers:=mark w.heap.size::a.defers} w2:=
     ⟨hst.tm,hfr,by simp[hst.df],ag1,BZ⟩
    have hso:TV (.obj w.heap.size (.deferred (some [])):: .obj (w.heap.size+1) (.loop {rec with state:=st,pending:=jump})::(Ho++IL)) (w.heap.size+1) (.loop {rec with state:= .exhausted,pending:=jump}) (.obj w.heap.size (.deferred (some [])):: .obj (w.heap.size+1) (.loop {rec with state:= .exhausted,pending:=jump})::(Ho++IL)):=inferInstance;have ho:TY (.obj w.heap.size (.deferred (some [])):: .obj (w.heap.size+1) (.loop {rec with state:=st,pending:=jump})::(Ho++IL)) (w.heap.size+1) (.loop {rec with state:=st,pending:=jump}):=inferInstance;obtain⟨h3,_⟩:=L7.qm ho hso;have hap:=adS w2 ag2;refine⟨_,run_endLoop hl adw,⟨by have:=hap.1;simpa[World.putObj]using this,λb hb hnb=>(World.putObj_heap_other (by omega)).trans (hap.2 b hb hnb)⟩,⟨h3.tm,h3.fr,h3.df,h3.si,h3.hp.sub ?_⟩⟩;exact List.Sublist.cons_cons _ (List.Sublist.cons _ (List.Sublist.refl _))
   cases go with
   |true=>
    obtain⟨i,hpi,hI,oo⟩:=Dz hex;have hrr:({rec with state:=LoopState.ready,pending:=none}:Loop)=rec:=by rw[bJ]
    obtain⟨w4,h4,h4a,h5⟩:=both (I n i) none .ready (by simp) (by rw[hrr];exact oo) (by rw[hrr];exact hI);exact⟨none,w4,h4,hdone i _ hpi h4a h5⟩
   |false=>obtain⟨⟨j,i⟩,hpi,hI,oo⟩:=Dz hex;obtain⟨w4,h4,h4a,h5⟩:=both (X i) (some j) .done (by simp) oo hI;exact⟨some j,w4,h4,ahh j i _ hpi h4a h5⟩
  ·
   intro k hk2 W bs hsW aj8 ajo;obtain⟨i,hpi,hI,oo⟩:=Dz ajo;have hl:W.heap[w.heap.size+1]? =some (.loop rec):=hI.holds (.obj (w.heap.size+1) _) (by simp);have hy:=run_yield (P:=P) (args:=(u6 k).toArray) hl (by rw[bJ];simpa using hlen k);refine⟨_,_,_,_,hy,?_⟩;have ag3:aQ c.bs c.w0 W:=adx.trans hsW WH;have hsub:∀b,(b∈bF (aE.obj w.heap.size (.deferred (some [])):: .obj (w.heap.size+1) (.loop rec)::I k i)\/W.heap.size<=b)->(b∈c.bs\/c.w0.heap.size<=b):=λb hb=>by
    rcases hb with hb|hb
    ·obtain⟨r,hr,JV⟩:=bg.1 hb;exact(hI.own r hr b JV).1
    ·exact .inr (Nat.le_trans ag3.size hb)
   have hb:=hbody k i rec bs W hk2 hpi (by rw[bJ]) (by rw[bJ]) ag3.size (λb hb=>hsub b (by rw[← oo];exact hb)) (adS W hsW);have ht:=ZL (ps:=ps) (vs:=u6 k) hfr hst.tm hps;have ai6:(rec.params.zip (u6 k).toArray).foldl (λtmps (t,a)=>tmps.setIfInBounds t a) rec.tmps=(ps.zip (u6 k)).foldl (λt q=>t.setIfInBounds q.1 q.2) a.tmps:=by rw[bJ];simp
   rw[ai6];have hrf:rec.assign=assign/\rec.body=body:=by rw[bJ];exact⟨rfl,rfl⟩
   rw[hrf.1,hrf.2];have hI':bH bs W.heap.size (.obj w.heap.size (.deferred (some [])):: .obj (w.heap.size+1) (.loop rec)::I k i) W:=
    ⟨hI.holds,λr hr b hb=>⟨.inl (by rw[oo];exact bg.2 ⟨r,hr,hb⟩),(hI.own r hr b hb).2⟩,hI.apart⟩
   have vU:=roundIn_of_wpIn (F:=FA none) (n:=0) (P:=P) (l:=w.heap.size+1) (f:=rec.fn) (R:=Yr ⟨some (w.heap.size+1),W,bs⟩ (J (k+1)) Jx) trivial
    (hb hI')
   refine vU.mono λe W' hr=>?_;exact hr
section rounds
variable {P:Program} {N:Nat} {c:Cx} {H:List aE} {l dd:Nat} {α β:Type} {n0:Nat} {cb:List Nat} {p:α->Prop} {I:α->List aE} {px:β->Prop} {X:β->List aE}
theorem Zy{rec:Loop}{a:Act}{w:World}(hr:rec.state= .ready)(hrp:rec.pending=none)(hT:∀b,(b∈c.bs\/c.w0.heap.size<=b)->(b∈cb\/n0<=b)){JX:List Nat->World->Prop}
  (hst:St N c [] [] (.obj dd (.deferred (some [])):: .obj l (.loop {rec with state:= .busy})::H) a w)(i:α)(hp:p i)(hI:I i= .obj dd (.deferred (some [])):: .obj l (.loop rec)::H):roundPost P l (Yr c (JW n0 cb p I) JX) .normal a w:=by
 obtain⟨h1,h2⟩:=hst.qm (b:=l) (o':= .loop rec) inferInstance inferInstance;have e:({{rec with state:=LoopState.busy}with state:=if(none:Option Code).isNone then LoopState.ready else .done,pending:=none}:Loop)=rec:=by cases rec;simp_all
 have hrun:=run_endRound (P:=P) none h2;rw[e]at hrun;have hh:=h1.hp;rw[← hI]at hh;refine⟨_,_,hrun,bF (I i),?_,h1.si, .inl ⟨rfl,?_⟩⟩
 ·intro b hb;exact aQ.abG hh hb
 ·exact Qs i hp ⟨hh.holds,λr hr b hb=>⟨hT b (hh.own r hr b hb).1,(hh.own r hr b hb).2⟩,hh.apart⟩
theorem Zx{rec:Loop}{a:Act}{w:World}(hT:∀b,(b∈c.bs\/c.w0.heap.size<=b)->(b∈cb\/n0<=b)){JT:List Nat->World->Prop}{e:Exit}{j:Code}(hj:(e= .ret/\j= .ret)\/(∃id,e= .exit id/\j= .exit id))
  (hst:St N c [] [] (.obj dd (.deferred (some [])):: .obj l (.loop {rec with state:= .busy})::H) a w)(i:β)(hp:px i)(hI:X i= .obj dd (.deferred (some [])):: .obj l (.loop {rec with state:= .done,pending:=some j})::H):roundPost P l (Yr c JT (JW n0 cb px X)) e a w:=by
 obtain⟨h1,h2⟩:=hst.qm (b:=l) (o':= .loop {rec with state:= .done,pending:=some j}) inferInstance inferInstance;have hrun:=run_endRound (P:=P) (some j) h2;have hh:=h1.hp;rw[← hI]at hh;have fin:∃v w',(Instr.endRound l (some j)).run P w= .ok v w'/\Yr c JT (JW n0 cb px X) (.returned v) w':=by
  refine⟨_,_,hrun,bF (X i),?_,h1.si, .inr ⟨rfl,?_⟩⟩
  ·intro b hb;exact aQ.abG hh hb
  ·exact Qs i hp ⟨hh.holds,λr hr b hb=>⟨hT b (hh.own r hr b hb).1,(hh.own r hr b hb).2⟩,hh.apart⟩
 rcases hj with⟨rfl,rfl⟩|⟨id,rfl,rfl⟩
 ·exact fin
 ·exact fin
end rounds
end Go.Bw
namespace Go.Rw
open Go Go.Bw Go.RowKit
variable {G:Sg} {P:Program}
inductive Ex(G:Sg) where
 |jK
 |exit (i:Nat)
 |ret
 |wY (v:AV G)
inductive Cf where
 |code (c:Code)
 |ops (all:Array Oper) (l:List Oper)
 |lp (x:Code)
structure FI where
 code:Code
 N:Nat
 Bq:List ResultVar
def D1(P:Program)(k:Nat):Option FI:=match P.funcs[k]? with
 |some fn=>match fn.body with
  |some code=>bif fn.name== "runtime.NumGoroutine" then none else some ⟨code,fn.ntmps,fn.results.toList⟩
  |none=>none
 |none=>none
inductive T3 where
 |dS (d:Nat)
 |via (d:Nat)
 |cap (d i:Nat)
 |frm (d i:Nat)
inductive Hn where
 |loop (l:List (T3×Sh))
 |join (l:List (T3×Sh)) (ex:List Nat)
 |HH
def ZS:Nat->List (Option Nat)->List (Option Nat)
 |0,l=>l
 |n+1,l=>none::ZS n l
def ahG(C:CC G)(S:AS G)(d i:Nat):Option Nat:=match gv C S [] (.tmp d)with
 |some (.fn _ _ cap)=>match SU cap i with
  |some (.ptr q [])=>some q
  |_ =>none
 |_ =>none
def Ww:Ob G->Bool
 | .lp _ _ _ _ _ _ =>true
 |_ =>false
def LQ:Os G->Bool
 |[]=>true
 |(_,o)::q=> !Ww o&&LQ q
def frZ:List Nat->AV G->Fr G
 |k::ks, .cons v r=>(k,v)::frZ ks r
 |_,_ =>[]
def ahw(C:CC G)(S:AS G)(d i:Nat):Option Nat:=match gv C S [] (.tmp d)with
 |some (.yl q)=>match dm (my C) q with
  |some (.lp _ ks vs _ _ _)=>match dm (frZ ks vs) i with
   |some (.ptr q [])=>some q
   |_ =>none
  |_ =>none
 |_ =>none
def Pf(O:Os G):Sh->AV G->List (Option Nat)
 | .box _ s, .ptr r []=>some r::(match dm O r with
  |some (.cI _ c)=>Pf O s c
  |_ =>ZS (DE s) [])
 | .fn _ a c, .fn _ x y=>Pf O a x++Pf O c y
 | .jc a, .jc x=>Pf O a x
 | .st a, .st x=>Pf O a x
 | .iQ _ a, .iQ _ x=>Pf O a x
 | .cons a c, .cons x y=>Pf O a x++Pf O c y
 | .part _ a c, .part _ x y=>Pf O a x++Pf O c y
 |s,_ =>ZS (DE s) []
def rsv(C:CC G)(S:AS G):List (T3×Sh)->Option Om
 |[]=>some ⟨[],[]⟩
 |(.dS d,s)::r=>match rsv C S r with
  |some g=>some ⟨(.dS d,s)::g.l,ZS (DE s) g.nm⟩
  |none=>none
 |(.via d,s)::r=>match gv C S [] (.tmp d),rsv C S r with
  |some (.ptr q []),some g=>some ⟨(.obj q,s)::g.l,Pf S.O s (.ptr q [])++g.nm⟩
  |some (.row q),some g=>some ⟨(.obj q,s)::g.l,some q::g.nm⟩
  |_,_ =>none
 |(.cap d i,s)::r=>match ahG C S d i,rsv C S r with
  |some q,some g=>some ⟨(.obj q,s)::g.l,Pf S.O s (.ptr q [])++g.nm⟩
  |_,_ =>none
 |(.frm d i,s)::r=>match ahw C S d i,rsv C S r with
  |some q,some g=>some ⟨(.obj q,s)::g.l,Pf S.O s (.ptr q [])++g.nm⟩
  |_,_ =>none
def Nm(C:CC G)(S:AS G):List Nat->List Nat
 |[]=>[]
 |d::r=>match gv C S [] (.tmp d)with
  |some (.ptr q [])=>q::Nm C S r
  |some (.row q)=>q::Nm C S r
  |_ =>Nm C S r
def zm(O:Os G):Sh->AV G->List Nat
 | .row _ _ _, .row r=>[r]
 | .v _, .row r=>[r]
 | .box _ s, .ptr r []=>r::(match dm O r with
  |some (.cI _ c)=>zm O s c
  |_ =>[])
 | .fn _ a c, .fn _ x y=>zm O a x++zm O c y
 | .jc a, .jc x=>zm O a x
 | .st a, .st x=>zm O a x
 | .iQ _ a, .iQ _ x=>zm O a x
 | .cons a c, .cons x y=>zm O a x++zm O c y
 | .part _ a c, .part _ x y=>zm O a x++zm O c y
 |_,_ =>[]
def Sr(C:CC G)(S:AS G):List (T3×Sh)->List Nat
 |[]=>[]
 |(.dS d,s)::r=>(match gv C S [] (.tmp d)with
  |some v=>zm S.O s v
  |none=>[])++Sr C S r
 |(.via d,s)::r=>(match gv C S [] (.tmp d)with
  |some v=>zm S.O s v
  |none=>[])++Sr C S r
 |(.cap d i,s)::r=>(match ahG C S d i with
  |some q=>zm S.O s (.ptr q [])
  |none=>[])++Sr C S r
 |(.frm d i,s)::r=>(match ahw C S d i with
  |some q=>zm S.O s (.ptr q [])
  |none=>[])++Sr C S r
structure Vw(G:Sg)(L:List Ty) where
 lp:{Z:Type}->((HL G L->Option Z)->HL G L->Option Z)->Nat->HL G L->Option Z
 e0:∀{Z:Type} (B:(HL G L->Option Z)->HL G L->Option Z) (e:HL G L),lp B 0 e=none
 e1:∀{Z:Type} (B:(HL G L->Option Z)->HL G L->Option Z) (n:Nat) (e:HL G L),lp B (n+1) e=B (λe=>lp B n e) e
def lpV{Z:Type}{L:List Ty}:Option (Vw G L)->((HL G L->Option Z)->HL G L->Option Z)->Nat->HL G L->Option Z
 |some v=>v.lp
 |none=>lpE L
theorem QY{Z:Type}{L:List Ty}{o:Option (Vw G L)}{B:(HL G L->Option Z)->HL G L->Option Z}{n:Nat}{e:HL G L}{z:Z}(h:lpV o B n e=some z):∃m,n=m+1/\B (lpV o B m) e=some z:=by
 cases o with
 |none=>exact agy h
 |some v=>
  cases n with
  |zero=>rw[show lpV (some v) B 0 e=none from v.e0 B e]at h;cases h
  |succ n=>exact⟨n,rfl,by rw[show lpV (some v) B (n+1) e=B (λe=>v.lp B n e) e from v.e1 B n e]at h;exact h⟩
def ah1(P:Program)(k:Nat)(vS:Sh)(n:Nat)(ys:Sh){B:Type}(en:B->HL G (aL ys))(f:HL G (aL vS)->Option (List B)):Prop:=∀(ρ:bh) (J:World->Prop) (HB X:List aE) (vs:List Value) (x:HL G (aL vS)) (l:List B),f x=some l->rl J ρ (fQ (λm=>m) vS x 0).1 vs->RO J ρ (fQ (λm=>m) vS x 0).2.1 HB->Uh G X J->ρ.fr (fQ (λm=>m) vS x 0).2.2-> ∃u6:Nat->List Value,(∀(σ:bh) i y,l[i]? =some y->rl J σ (fQ (λm=>m) ys (en y) 0).1 (u6 i))/\(∀i,(u6 i).length=n)/\ ∀(ly:Nat) (Jy:Nat->List Nat->World->Prop) (Jx:List Nat->World->Prop) (bs:List Nat) (w:World),bH (bs++(bF HB++bF X)) w.heap.size (.ext bs (Jy 0 bs)::(HB++X)) w->Rnd P ly (bs++bF HB) w Jy Jx u6 l.length-> Calls P k (Value.func (.yield ly) #[] #[]::vs).toArray w λen w'=>∃x:Bool×List Nat,en= .returned (.tuple #[])/\aQ (bs++bF HB) w w'/\bH (bs++bF HB) w.heap.size (.ext x.2 (bif x.1 then Jy l.length x.2 else Jx x.2)::[]) w'
structure It(P:Program)(G:Sg) where
 k:Nat
 vS:Sh
 n:Nat
 ys:Sh
 B:Type
 en:B->HL G (aL ys)
 f:HL G (aL vS)->Option (List B)
 fn:∃fn,P.funcs[k]? =some fn/\fn.body.isSome=true/\(fn.name== "runtime.NumGoroutine")=false
 ok:ah1 P k vS n ys en f
structure abr(P:Program)(f T n:Nat)(out:Int->List Value):Prop where
 enter:∀args w,(callFunc f args).run P w= .ok (.enter f args) w
 ret:∀b w,CallsDIn (FA none) 0 P f #[dO b 0] .returning w λen u' w'=>(∃v,en= .returned v)/\u'= .returning/\aQ [] w w'
 wY:∀(b Tb:Nat) (xs:List Value) (e:Int) (w:World),xs.length=n->w.heap[b]? =some (.cells xs.toArray Tb (0,0))->CallsDIn (FA none) 0 P f #[dO b 0] (.panicking [{v:= .iface T (.int .i64 e),recovered:=false}]) w λen u' w'=>(∃v,en= .returned v)/\settle u'= .returning/\aQ [b] w w'/\w'.heap[b]? =some (.cells (out e).toArray Tb (0,0))
structure Ek(P:Program)(G:Sg) where
 k:Nat
 T:Nat
 n:Nat
 out:Int->List Value
 v:Int->AV G
 hv:∀(J:World->Prop) (ρ:bh) (e:Int),∃u,rv J ρ (v e) u/\u.cells.toList=out e
 ok:abr P k T n out
structure wS(P:Program)(G:Sg) where
 tt:TT P G
 zt:ZT P G
 hint:List Nat->Nat->Option Hn
 calls:Nat->List (Ct P G)
 fu:Nat
 vw:Nat->(L:List Ty)->Option (Vw G L)
 its:Nat->List (It P G)
 ek:Nat->List (Ek P G)
 jw:Bool
def SH:Code->Option Nat
 | .region i _ _ =>some i
 | .seq a b=>match SH a with
  |some i=>some i
  |none=>SH b
 | .cond _ a b=>match SH a with
  |some i=>some i
  |none=>SH b
 | .block _ x=>SH x
 | .loop x=>SH x
 | .scope x=>SH x
 |_ =>none
def wrO:List Oper->List Nat
 |[]=>[]
 |o::r=>match o.dst with
  |some d=>d::wrO r
  |none=>wrO r
def Kh:Code->List Nat
 | .region _ ops _ =>wrO ops.toList
 | .seq a b=>Kh a++Kh b
 | .cond _ a b=>Kh a++Kh b
 | .block _ x=>Kh x
 | .loop x=>Kh x
 | .scope x=>Kh x
 | .rangeFunc _ ps a b=>ps.toList++Kh a++Kh b
 |_ =>[]
def guW{Z:Type}:List Bool->Option Z->Option Z
 |[],k=>k
 |b::r,k=>gu b (guW r k)
def guG{Z:Type}(g:Bool):List Bool->Option Z->Option Z
 |[],k=>k
 |b::r,k=>gu (!g||b) (guG g r k)
def LD(C:CC G)(S:AS G)(ch:List (Nat×Bool))(j:Nat)(b:Bool)(y z:Operand):Option (AV G):=match z,y with
 | .const (.bool false),y=>match NO C S y,gv C S ch y with
  |some (.gd k true x),none=>match asB x with
   |some u=>bif Nat.beq k j then some (.bool (b&&u))else none
   |none=>none
  |_,some x=>match asB x with
   |some u=>some (.bool (b&&u))
   |none=>none
  |_,_ =>none
 |z, .const (.bool true)=>match NO C S z,gv C S ch z with
  |some (.gd k false x),none=>match asB x with
   |some u=>bif Nat.beq k j then some (.bool (b||u))else none
   |none=>none
  |_,some x=>match asB x with
   |some u=>some (.bool (b||u))
   |none=>none
  |_,_ =>none
 |_,_ =>none
def O9(C:CC G)(S:AS G)(ch:List (Nat×Bool))(x y z:Operand):Option (AV G):=match gv C S ch x,x with
 |some (.kb b),_ =>gv C S ch (bif b then y else z)
 |some (.bool b), .tmp j=>LD C S ch j b y z
 |_,_ =>none
def pvA(tt:TT P G)(zt:ZT P G)(C:CC G)(S:AS G)(ch:List (Nat×Bool)):Op->PV G
 | .pick x y z=>match O9 C S ch x y z with
  |some v=>some ([],v)
  |none=>none
 | .build T parts=>VN tt zt (gv C S ch) T parts.toList
 | .slice T x lo hi mx=>match acV tt (gv C S ch) T x lo hi mx with
  |some r=>some r
  |none=>VB P tt (gv C S ch) T x lo hi mx
 | .index T x y=>match VF P (gv C S ch) T x y with
  |some r=>some r
  |none=>pv tt (V3 C S) (gv C S ch) (.index T x y)
 | .binOp o T x y U=>match pv tt (V3 C S) (gv C S ch) (.binOp o T x y U)with
  |some r=>some r
  |none=>match gv C S ch x,gv C S ch y with
   |some a,some b=>VL tt o T a b
   |_,_ =>none
 |op=>pv tt (V3 C S) (gv C S ch) op
def wO:Nat->AV G->Fr G
 |i, .cons v r=>(i,v)::wO (i+1) r
 |_,_ =>[]
def zD:AV G->Nat
 | .cons _ r=>zD r+1
 |_ =>0
def Zz(tt:TT P G)(C:CC G)(S:AS G):ResultVar->Option (AV G)
 | .tmp t=>gv C S [] (.tmp t)
 | .cell t ty=>match gv C S [] (.tmp t)with
  |some (.ptr r [])=>match V3 C S r with
   |some (.cI _ c)=>bif wP tt ty c then some c else none
   |_ =>none
  |_ =>none
def ZB(tt:TT P G)(C:CC G)(S:AS G):List ResultVar->Option (AV G)
 |[]=>some .nil
 |r::q=>match Zz tt C S r,ZB tt C S q with
  |some v,some l=>some (.cons v l)
  |_,_ =>none
def ED(tt:TT P G)(C:CC G)(S:AS G):List ResultVar->Option (AV G)
 |[r]=>Zz tt C S r
 |l=>match ZB tt C S l with
  |some v=>some (.jc v)
  |none=>none
def ltA{Z:Type}:AV G->(AV G->Option Z)->Option Z
 | .dat t x,k=>lt x λx=>k (.dat t x)
 | .int q n,k=>lt n λn=>k (.int q n)
 | .bool b,k=>lt b λb=>k (.bool b)
 |v,k=>k v
def YL{Z:Type}(F:Qt G):AV G->List tv->AV G->(AV G->Option Z)->Option Z
 |c,[],v,k=>match stW c v with
  |some c'=>ltA c' k
  |none=>none
 | .dat t x,p,v,k=>match path F p t with
  |some q=>match BQ q.m v with
   |some y=>lt (q.set x y) λx'=>k (.dat t x')
   |none=>none
  |none=>none
 | .st a, .D2 _ o::r,v,k=>match partAt a o with
  |some (_,c)=>YL F c r v λc'=>match C5 a o c' with
   |some a'=>k (.st a')
   |none=>none
  |none=>none
 |_,_,_,_ =>none
theorem agw{Z:Type}{v:AV G}{k:AV G->Option Z}{z:Z}(h:ltA v k=some z):k v=some z:=by cases v<;>exact h
theorem UY{Z:Type}{F:Qt G}:∀{p:List tv} {c v:AV G} {k:AV G->Option Z} {z:Z},YL F c p v k=some z->∃c',OR F c p v=some c'/\k c'=some z:=by
 intro p
 induction p with
 |nil=>
  intro c v k z h;have h:(match stW c v with
   |some c'=>ltA c' k
   |none=>none)=some z:=by unfold YL at h;exact h
  split at h
  ·rename_i c' hc;exact⟨c',by unfold OR;exact hc,agw h⟩
  ·cases h
 |cons s r ih=>
  intro c v k z h;cases c with
  |dat t x=>
   simp only[YL]at h;split at h
   ·rename_i q hq
    split at h
    ·rename_i y hy;exact⟨_,by simp only[OR,hq,hy],h⟩
    ·cases h
   ·cases h
  |st a=>
   cases s with
   |D2 j o=>
    simp only[YL]at h;split at h
    ·rename_i w c1 hp
     obtain⟨c2,h1,h2⟩:=ih h;split at h2
     ·rename_i a' ha;exact⟨_,by simp only[OR,hp,h1,ha],h2⟩
     ·cases h2
    ·cases h
   |idx _ _ _ =>simp[YL]at h
  |_ =>simp[YL]at h
def wF:AV G->Bool
 | .gd _ _ _ =>false
 |_ =>true
def Xu:List (AV G)->Os G->Option (Os G)
 |[],O=>some O
 | .ptr r []::D,O=>match dm O r with
  |some (.aux true)=>Xu D (xH O r)
  |_ =>none
 |_ ::_,_ =>none
def agk:AV G->Option (Nat×Int)
 | .iQ T (.int .i64 x)=>some (T,x)
 | .iQ T (.lit .i64 x)=>some (T,x)
 |_ =>none
def isN:Option Nat->Nat->Bool
 |some m,n=>Nat.beq m n
 |none,_ =>false
def exE:Ex G->Bool
 | .jK=>true
 | .ret=>true
 |_ =>false
def oK(ek:Nat->List (Ek P G)):Ex G->List (AV G)->Os G->Option (Ex G×Os G)
 |e,[],O=>some (e,O)
 |e, .ptr r []::D,O=>match dm O r,exE e with
  |some (.aux true),true=>oK ek e D (xH O r)
  |_,_ =>none
 |e, .cons (.fn (.func k) .nil c) l::D,O=>match ek k,n7 l c with
  |q::_, .cons (.ptr r []) .nil=>match dm O r with
   |some (.cI T' c0)=>bif Nat.beq q.k k&&(pb l&&pb c)then(match e with
    | .jK=>oK ek .jK D O
    | .ret=>oK ek .ret D O
    | .wY v=>(match agk v with
     |some (T,x)=>bif Nat.beq q.T T&&isN c0.ncl q.n then oK ek .ret D (qm O r (.cI T' (q.v x)))else none
     |none=>none)
    |_ =>none)else none
   |_ =>none
  |_,_ =>none
 |_,_ ::_,_ =>none
def aed(S:AS G):Option (AS G):=match Xu S.D S.O with
 |some O=>some ⟨S.F,O,S.nx,[]⟩
 |none=>none
def I3{Z:Type}(N:Nat)(C:CC G):List Nat->AV G->AS G->(AS G->Option Z)->Option Z
 |[], .nil,S,k=>k S
 |p::ps, .cons v r,S,k=>match vO N C (some p) v S with
  |some S'=>bif wF v then I3 N C ps r S' k else none
  |none=>none
 |_,_,_,_ =>none
def flF:CC G->Fr G
 |[]=>[]
 |y::r=>y.F++flF r
def Zn(g:Om)(base:Nat)(x:HL G (aL (sY g.l))):AS G:=⟨[],(JP g base x).O,(JP g base x).nx,[]⟩
def SQ(m:Nat)(S1:AS G)(O:Os G)(S:AS G):AS G:=⟨S1.F,(m, .aux true)::(S.O++O),S.nx, .ptr m []::S1.D⟩
def psN(N:Nat):List Nat->Bool
 |[]=>true
 |p::r=>Nat.blt p N&&psN N r
def V7:List (AV G)->Bool
 |[]=>true
 |_ =>false
abbrev WT(G:Sg)(Z:Type):=(N:Nat)->(cp:List Nat)->CC G->Cf->AS G->(Ex G->AS G->Option Z)->Option Z
def gF{Z:Type}(rec:WT G Z)(N:Nat)(cp:List Nat)(C:CC G)(all:Array Oper)(r:List Oper)(d:Option Tmp)(v:AV G)(S:AS G)(K:Ex G->AS G->Option Z):Option Z:=match vO N C d v S with
 |some S'=>bif wF v then rec N cp C (.ops all r) S' K else none
 |none=>none
def wCt{Z:Type}(C:CC G)(O:Os G)(nx:Nat)(akc:AV G)(fit:(ct:Ct P G)->HI G ct.s->GS G->Option Z)(frz:List Nat->List (Nat×Sh)->Option Z)(no:Option Z):List (Ct P G)->Option Z
 |[]=>no
 |ct::r=>match ET C O nx ct.s akc with
  |some (x,g')=>fit ct x g'
  |none=>match ahL C O ct.s akc,agr C O ct.s akc with
   |[],[]=>wCt C O nx akc fit frz no r
   |b,l=>frz b l
def ctK{Z:Type}(rec:WT G Z)(N:Nat)(cp:List Nat)(C:CC G)(all:Array Oper)(r:List Oper)(d:Option Tmp)(S:AS G)(K:Ex G->AS G->Option Z)(ct:Ct P G)(x:HI G ct.s)(g':GS G):Option Z:=
 ct.cp x (λy=>match YP (fQ (Pe g'.th g'.nx ct.s.nm) ct.s.cP y 0).1 with
  |some v=>gF rec N cp C all r d v (ctS g' ct.s.cP ct.s.nm y S) K
  |none=>none) (λy=>match YP (fQ (Pe g'.th g'.nx ct.s.VU) ct.s.gR y 0).1 with
  |some v=>K (.wY v) (ctS g' ct.s.gR ct.s.VU y S)
  |none=>none)
def ctG{Z:Type}(rec:WT G Z)(N:Nat)(cp:List Nat)(C:CC G)(all:Array Oper)(r:List Oper)(d:Option Tmp)(S:AS G)(K:Ex G->AS G->Option Z)(j:Nat)(w g:Bool)(ct:Ct P G)(x:HI G ct.s)(no:Option Z):Option Z:=match ct.s.nm with
 |[]=>bif GZ true ct.s.vS&&GZ false ct.s.cP then ct.cg g x (λy=>match YP (fQ (λm=>m) ct.s.cP y 0).1 with
  |some v=>(match vO N C d (.gd j w v) S with
   |some S'=>rec N cp C (.ops all r) S' K
   |none=>none)
  |none=>none)else no
 |_ =>no
def N7(C:CC G)(S:AS G)(ch:List (Nat×Bool)):Op->Option (Nat×AV G)
 | .call ⟨.value f,args,_⟩=>match gv C S ch f,Ou (gv C S ch) args.toList with
  |some (.fn (.func k) fst cap),some l=>bif (pb fst&&pb l)&&pb cap then some (k,n7 fst (n7 l cap))else none
  |_,_ =>none
 |_ =>none
def ctT{Z:Type}(tb:wS P G)(rec:WT G Z)(N:Nat)(cp:List Nat)(C:CC G)(all:Array Oper)(r:List Oper)(o:Oper)(S:AS G)(K:Ex G->AS G->Option Z)(j:Nat)(w:Bool)(no:Option Z):Option Bool->Option (Nat×AV G)->Option Z
 |some g,some (k,akc)=>wCt C S.O S.nx akc (λct x _ =>bif Nat.beq ct.s.k k then ctG rec N cp C all r o.dst S K j w g ct x no else none) (λb l=>rec N cp C (.ops all (o::r)) (C7 l (zK b S)) K) no (tb.calls k)
 |_,_ =>no
def QE(C:CC G)(S:AS G):List Operand->List Nat
 |[]=>[]
 |x::r=>match NO C S x with
  |some (.row q)=>(match dm S.O q with
   |some _ =>q::QE C S r
   |none=>QE C S r)
  |_ =>QE C S r
def ab2:AV G->List tv->Bool
 | .dat _ _,_ ::_ =>true
 | .st a, .D2 _ o::r=>match partAt a o with
  |some (_,c)=>ab2 c r
  |none=>false
 |_,_ =>false
def aiF(C:CC G)(S:AS G)(x y:Operand):Option Nat:=match gv C S [] x,gv C S [] y with
 |some (.ptr r p),some (.row q)=>match dm S.O q,dm S.O r with
  |some (.row _ _ _ _),some (.cI _ c)=>bif ab2 c p then some q else none
  |_,_ =>none
 |_,_ =>none
def lkK{Z:Type}:List (Int×Nat)->Int->(Option Nat->Option Z)->Option Z
 |[],_,c=>c none
 |(a,f)::r,k,c=>cn (k==a) (c (some f)) (lkK r k c)
theorem agH{Z:Type}{k:Int}{c:Option Nat->Option Z}{z:Z}:∀{l:List (Int×Nat)},lkK l k c=some z->c (Lr l k)=some z:=by
 intro l
 induction l with
 |nil=>exactλh=>h
 |cons p r ih=>
  obtain⟨a,f⟩:=p;intro h;simp only[lkK,Lr]at h ⊢;cases hb:(k==a)with
  |true=>rw[hb]at h;exact h
  |false=>rw[hb]at h;exact ih h
def wPv{Z:Type}(tb:wS P G)(rec:WT G Z)(N:Nat)(cp:List Nat)(C:CC G)(all:Array Oper)(r:List Oper)(o:Oper)(S:AS G)(K:Ex G->AS G->Option Z):Option Z:=match pvA tb.tt tb.zt C S [] o.op with
 |some (gs,v)=>guW gs (gF rec N cp C all r o.dst v S K)
 |none=>match QE C S o.op.operands.toList with
  |[]=>none
  |b=>rec N cp C (.ops all (o::r)) (zK b S) K
def abQ(tb:wS P G)(cp:List Nat)(d:Option Tmp):Bool:=match d with
 |some d=>match tb.hint cp (1000000+d)with
  |some _ =>true
  |none=>false
 |none=>false
def aeo(o:Oper)(T:Nat):List Oper->Option (Nat×List Oper)
 |⟨none, .call ⟨.builtin .clear,a,t⟩,_,_,_,none⟩::r=>match o.dst,o.guard,a.toList,t.toList with
  |some d1,none,[.tmp d2],[T2]=>bif Nat.beq d1 d2&&Nat.beq T T2 then some (d1,r)else none
  |_,_,_,_ =>none
 |_ =>none
def tyB(tb:wS P G)(e:Nat):AV G->Option Ty
 | .kz=>match tb.tt.te.find e with
  |some (.sl e2 _ _)=>(match tb.zt.z.find e2 with
   |some z2=>(match tyA z2 with
    |some t=>some (.sl t)
    |none=>none)
   |none=>none)
  |_ =>none
 |z=>tyA z
def Du:Os G->Os G
 |[]=>[]
 |(r, .lp _ _ _ _ _ _)::q=>(r, .aux false)::Du q
 |p::q=>p::Du q
def acM:List TypeId->TypeId->Bool
 |[a,b],T=>Nat.beq a T&&Nat.beq b T
 |_,_ =>false
def aiS(P:Program)(T:Nat):Option IntKind:=match P.underlying T with
 |some (.map k _)=>(match P.underlying k with
  |some (.int q)=>some q
  |_ =>none)
 |_ =>none
def wOp{Z:Type}(tb:wS P G)(rec:WT G Z)(N:Nat)(cp:List Nat)(C:CC G)(all:Array Oper)(r:List Oper)(o:Oper)(S:AS G)(K:Ex G->AS G->Option Z):Option Z:=match o.op with
 | .box T x=>match gv C S [] x with
  |some v=>gF rec N cp C all r o.dst (.ptr S.nx []) {S with O:=(S.nx, .cI T v)::S.O,nx:=S.nx+1} K
  |none=>none
 | .alloc T=>match tb.zt.z.find T with
  |some v=>gF rec N cp C all r o.dst (.ptr S.nx []) {S with O:=(S.nx, .cI T v)::S.O,nx:=S.nx+1} K
  |none=>none
 | .store T x y=>match aiF C S x y with
  |some q=>rec N cp C (.ops all (o::r)) (zK [q] S) K
  |none=>match gv C S [] x,gv C S [] y with
  |some (.ptr q p),some v=>match dm S.O q with
   |some (.cI T' c)=>bif wP tb.tt T v then YL tb.tt.F c p v λc'=>gF rec N cp C all r o.dst .QA {S with O:=qm S.O q (.cI T' c')} K else none
   |some (.row e sz t xs)=>bif WV p sz&&wP tb.tt T v then(match H6 tb.tt.F t p with
    |some pl=>(match BQ pl.m v with
     |some y=>lt (xs.set pl.i.toNat (pl.set (xs.getD pl.i.toNat default) y)) λzs=>gF rec N cp C all r o.dst .QA {S with O:=qm S.O q (.row e sz t zs)} K
     |none=>none)
    |none=>none)else none
   |_ =>none
  |_,_ =>none
 | .buildSlice T n parts=>match tb.tt.te.find T with
  |some (.sl e sz _)=>match tb.zt.z.find e with
   |some z=>match tyB tb e z with
    |some t=>match elA t (gv C S []) 0 parts.toList with
     |some xs=>bif (Nat.beq xs.length n&&Nat.beq (t.L G).n sz)&&(Nat.blt 0 (n*sz)&&Nat.ble (n*sz) 16777216)then gF rec N cp C all r o.dst (.row S.nx) {S with O:=(S.nx, .row e sz t xs)::S.O,nx:=S.nx+1} K else none
     |none=>wPv tb rec N cp C all r o S K
    |none=>match fnL (gv C S []) 0 parts.toList with
     |some vs=>bif (Nat.beq parts.size n&&Nat.beq sz 1)&&(Nat.blt 0 n&&Nat.ble n 16777216)then gF rec N cp C all r o.dst (.EE S.nx [] n 1 false (n:Int)) {S with O:=(S.nx, .cI e (.st vs))::S.O,nx:=S.nx+1} K else none
     |none=>none
   |none=>none
  |_ =>none
 | .makeSlice T (.tmp s) (.tmp s')=>bif Nat.beq s s' then(match mU (gv C S [] (.tmp s)),tb.tt.te.find T with
  |some (_,i,_),some (.sl e sz bt)=>(match tb.zt.z.find e with
   |some (.int k z0)=>bif Nat.beq sz 1&&Nat.blt 0 bt then gu (decide (0<=i)) (gu (ig 0 i.toNat bt) (lt (List.replicate i.toNat z0) λzs=>gF rec N cp C all r o.dst (.row S.nx) {S with O:=(S.nx, .row e 1 (.int k) zs)::S.O,nx:=S.nx+1} K))else none
   |_ =>none)
  |_,_ =>none)else none
 | .panic x=>match gv C S [] x with
  |some (.iQ t v)=>K (.wY (.iQ t v)) S
  |_ =>none
 | .defer ⟨.value f,args,_⟩=>match gv C S [] f,Ou (gv C S []) args.toList,o.dst with
  |some (.fn (.func k) a c),some l,none=>bif (pb a&&pb l)&&(pb c&&yC (my C))then rec N cp C (.ops all r) {S with D:= .cons (.fn (.func k) a c) l::S.D} K else none
  |_,_,_ =>none
 | .call ⟨.builtin .append,args,Ju⟩=>match args.toList,Ju.toList with
  |[x,y],[T,T']=>bif Nat.beq T T' then(match gv C S [] x,gv C S [] y,tb.tt.te.find T with
   |some (.row q),some vy,some (.sl e sz bt)=>(match dm S.O q,lsA C S vy with
    |some (.row e' sz' t xs),some l=>bif Nat.beq e' e&&Nat.beq sz' sz then(match IX (t:=t) l.xs with
     |some ys=>gu (ig xs.length ys.length bt) (lt (xs++ys) λzs=>gF rec N cp C all r o.dst (.row S.nx) {S with O:=(S.nx, .row e sz t zs)::xH S.O q,nx:=S.nx+1} K)
     |none=>none)else none
    |_,_ =>none)
   |some .kz,some vy,some (.sl e sz bt)=>(match lsA C S vy with
    |some l=>bif Nat.beq (l.t.L G).n sz then gu (ig 0 l.xs.length bt) (lt l.xs λzs=>gF rec N cp C all r o.dst (.row S.nx) {S with O:=(S.nx, .row e sz l.t zs)::S.O,nx:=S.nx+1} K)else none
    |none=>none)
   |_,_,_ =>none)else none
  |_,_ =>none
 | .call ⟨.builtin .copy,args,Ju⟩=>match args.toList,Ju.toList with
  |[x,y],[T,_]=>(match gv C S [] x,gv C S [] y,tb.tt.te.find T with
   |some (.row q),some vy,some (.sl e sz _)=>(match dm S.O q,lsA C S vy with
    |some (.row e' sz' (.int k) xs),some l=>bif (Nat.beq e' e&&Nat.beq sz 1)&&Nat.beq sz' 1 then(match IX (t:= .int k) l.xs with
     |some ys=>lt (ys.take xs.length++xs.drop ys.length) λzs=>gF rec N cp C all r o.dst (.int .i64 ((min ys.length xs.length:Nat):Int)) {S with O:=qm S.O q (.row e 1 (.int k) zs)} K
     |none=>none)else none
    |_,_ =>none)
   |some (.EE q p n 1 true i),some (.EE q' p' n' 1 true j),some (.sl _ sz _)=>(match dm S.O q with
    |some (.cI T2 c)=>(match KR tb.tt.F c p with
     |some (.dat (.mV m (.int k)) f)=>bif (Nat.beq q q'&&Nat.beq n n')&&((Nat.beq m n&&Nat.beq sz 1)&&(Ko p p'&&acM Ju.toList T))then YL tb.tt.F c p (.dat (.mV n (.int k)) (cpA i.toNat j.toNat n f)) λc'=>gF rec N cp C all r o.dst (.int .i64 ((min (n-j.toNat) (n-i.toNat):Nat):Int)) {S with O:=qm S.O q (.cI T2 c')} K else none
     |_ =>none)
    |_ =>none)
   |_,_,_ =>none)
  |_,_ =>none
 | .call ⟨.builtin .clear,args,Ju⟩=>match args.toList,Ju.toList with
  |[x],[T]=>(match gv C S [] x,tb.tt.te.find T with
   |some (.EE q p n 1 false i),some (.sl e sz _)=>(match dm S.O q with
    |some (.cI T2 c)=>(match KR tb.tt.F c p with
     |some (.dat (.mV m (.int k)) _)=>bif (Nat.beq i.toNat n&&Nat.blt 0 n)&&((Nat.beq m n&&Nat.beq sz 1)&&DF P e k)then YL tb.tt.F c p (.dat (.mV n (.int k)) (λ_ =>(0:Int))) λc'=>gF rec N cp C all r o.dst (.jc .nil) {S with O:=qm S.O q (.cI T2 c')} K else none
     |_ =>none)
    |_ =>none)
   |_,_ =>none)
  |_,_ =>none
 | .makeMap T none=>match aiS P T with
  |some q=>gF rec N cp C all r o.dst (.mp S.nx) {S with O:=(S.nx, .fm q [] .nil)::S.O,nx:=S.nx+1} K
  |none=>none
 | .insert T x y z=>match gv C S [] x,mU (gv C S [] y),gv C S [] z with
  |some (.mp q),some (ky,k,_),some v=>(match dm S.O q with
   |some (.fm ik ks vs)=>bif (G5 ky ik&&NZ P T ik)&&(KC k ks&&pb vs)then gF rec N cp C all r o.dst .QA {S with O:=qm S.O q (.fm ik (ks++[k]) (n7 vs (.cons v .nil)))} K else none
   |_ =>none)
  |_,_,_ =>none
 | .call ⟨.value f,args,_⟩=>match gv C S [] f,Ou (gv C S []) args.toList with
  |some (.fn (.func k) fst cap),some l=>wCt C S.O S.nx (n7 fst (n7 l cap)) (λct x g'=>bif (pb fst&&pb l)&&(pb cap&&Nat.beq ct.s.k k)then ctK rec N cp C all r o.dst S K ct x g' else none) (λb l=>rec N cp C (.ops all (o::r)) (C7 l (zK b S)) K) (match D1 P k with
   |some fi=>bif (pb fst&&pb l)&&(pb cap&&Nat.ble (zD (n7 fst (n7 l cap))) fi.N)then
     rec fi.N ((match o.dst with
      |some d=>d
      |none=>0)::cp) [⟨[],my C,[]⟩] (.code fi.code) ⟨wO 0 (n7 fst (n7 l cap)),S.O,S.nx,[]⟩ λe S1=>match oK tb.ek e S1.D S1.O with
      |some (.wY v,O2)=>K (.wY v) {S with O:=O2,nx:=S1.nx}
      |some (.jK,O2)=>(match ED tb.tt [⟨[],my C,[]⟩] ⟨S1.F,O2,S1.nx,[]⟩ fi.Bq with
       |some v=>gF rec N cp C all r o.dst v {S with O:=O2,nx:=S1.nx} K
       |none=>none)
      |some (.ret,O2)=>(match ED tb.tt [⟨[],my C,[]⟩] ⟨S1.F,O2,S1.nx,[]⟩ fi.Bq with
       |some v=>gF rec N cp C all r o.dst v {S with O:=O2,nx:=S1.nx} K
       |none=>none)
      |_ =>none
    else none
   |none=>none) (tb.calls k)
  |some (.yl q),some l=>match dm (my C) q with
   |some (.lp N2 ks vs ps a b)=>bif yC (my C)then I3 N2 [⟨[],Du (my C),[]⟩] ps l ⟨frZ ks vs,S.O,S.nx,[]⟩ λS2=>rec N2 ((match o.dst with
     |some d=>d
     |none=>0)::cp) [⟨[],Du (my C),[]⟩] (.code a) S2 λe1 S3=>match e1 with
     | .jK=>rec N2 ((match o.dst with
      |some d=>d
      |none=>0)::cp) [⟨[],Du (my C),[]⟩] (.code b) S3 λe2 S4=>match e2,S4.D with
      | .jK,[]=>gF rec N cp C all r o.dst (.kb true) {S with O:=S4.O,nx:=S4.nx} K
      |_,_ =>none
     |_ =>none
    else none
   |_ =>none
  |_,_ =>none
 | .load T (.global g)=>match G.gt,g,o.guard with
  |some _,0,none=>bif sC P T then gF rec N cp C all r o.dst (.mp S.nx) {S with O:=(S.nx, .gm)::S.O,nx:=S.nx+1} K else none
  |_,_,_ =>none
 | .lookup T x y true=>match gv C S [] x,mU (gv C S [] y),o.guard with
  |some (.mp q),some (ik,k,_),none=>(match V3 C S q with
   |some .gm=>(match G.gt with
    |some g0=>bif Nat.beq (Ty.bS.ik ik) (Ty.bS.ik g0.1)&&FV P T g0.1 then lkK g0.2 k λf=>gF rec N cp C all r o.dst (acy f) S K else none
    |none=>none)
   |some (.fm qk ks vs)=>bif G5 ik qk&&FV P T qk then lkF k ks vs λt=>gF rec N cp C all r o.dst t S K else none
   |_ =>none)
  |_,_,_ =>none
 | .slice T x none (some h) none=>match gv C S [] x,mU (gv C S [] h),tb.tt.te.find T,abQ tb cp o.dst with
  |some (.row q),some (_,i,_),some (.sl e sz _),true=>match dm S.O q with
   |some (.row e' sz' t xs)=>bif Nat.beq e' e&&Nat.beq sz' sz then gu (dH i (xs.length+1)) (gF rec N cp C all r o.dst (.row S.nx) {S with O:=(S.nx, .row e' sz' t (xs.take i.toNat))::xH S.O q,nx:=S.nx+1} K)else none
   |_ =>none
  |some (.ptr q p),some (_,i,_),_,true=>(match dm S.O q,XL P tb.tt T with
   |some (.cI _ c),some (n,_,_)=>(match KR tb.tt.F c p with
    |some (.dat (.mV m e) f)=>bif Nat.beq m n then gu (dH i (n+1)) (gF rec N cp C all r o.dst (.dat (.sl e) ((List.range i.toNat).map f)) {S with O:=xH S.O q} K)else none
    |_ =>none)
   |_,_ =>none)
  |_,_,_,_ =>wPv tb rec N cp C all r o S K
 | .slice T x (some lo) none none=>match aeo o T r,gv C S [] x,mU (gv C S [] lo),tb.tt.te.find T with
  |none,some (.row q),some (_,i,_),some (.sl e sz _)=>(match dm S.O q,abQ tb cp o.dst with
   |some (.row e' sz' t xs),true=>bif Nat.beq e' e&&Nat.beq sz' sz then gu (dH i (xs.length+1)) (gF rec N cp C all r o.dst (.row S.nx) {S with O:=(S.nx, .row e' sz' t (xs.drop i.toNat))::xH S.O q,nx:=S.nx+1} K)else none
   |_,_ =>wPv tb rec N cp C all r o S K)
  |some (d1,r2),some (.row q),some (_,i,_),some (.sl e sz _)=>(match dm S.O q,vO N C (some d1) .QA S with
   |some (.row e' sz' (.int k) xs),some S1=>bif (Nat.beq e' e&&Nat.beq sz 1)&&(Nat.beq sz' 1&&DF P e k)then gu (dH i (xs.length+1)) (lt (xs.take i.toNat++(List.replicate (xs.length-i.toNat) (0:Int):List (Ty.T G (.int k)))) λzs=>rec N cp C (.ops all r2) {S1 with O:=qm S1.O q (.row e 1 (.int k) zs)} K)else none
   |_,_ =>wPv tb rec N cp C all r o S K)
  |_,_,_,_ =>wPv tb rec N cp C all r o S K
 |_ =>wPv tb rec N cp C all r o S K
def mL(C:CC G)(S:AS G)(l:List (Src×Sh)):AS G:=match Et C S l with
 |some v=>zK (xK S.O (sY l) v) S
 |none=>S
def IP(all:Array Oper)(j:Nat):Option Nat:=(all[j]?).bind (·.dst)
def Qh(A:List Nat):List Nat->Nat
 |[]=>0
 |j::r=>(2^j|||A.getD j 0)|||Qh A r
def Gs(ops:Array Oper):Nat->List Nat
 |0=>[]
 |k+1=>match Gs ops k with
  |A=>A++[Qh A (A3 ops k)]
def zR:Nat->List Oper->List (Nat×Nat)
 |_,[]=>[]
 |i,o::r=>match o.dst with
  |some d=>(i,d)::zR (i+1) r
  |none=>zR (i+1) r
def n6(A:List Nat)(i j:Nat):Bool:=Nat.testBit (A.getD i 0) j
def ZP(A:List Nat)(q d:Nat):List (Nat×Nat)->Bool
 |[]=>true
 |(i,e)::r=>(!(Nat.beq e d&&Nat.blt i q)||n6 A q i)&&ZP A q d r
def SR(A:List Nat)(ws:List (Nat×Nat)):List (Nat×Nat)->Bool
 |[]=>true
 |(q,d)::r=>ZP A q d ws&&SR A ws r
def BO(A:List Nat)(i d:Nat):List (Nat×Nat)->Bool
 |[]=>true
 |(q,e)::r=>(!Nat.beq e d||(Nat.beq q i||(bif Nat.blt q i then n6 A i q else n6 A q i)))&&BO A i d r
def TL(A:List Nat)(i d:Nat):List (Nat×Nat)->Bool
 |[]=>true
 |(q,e)::r=>(!Nat.beq e d||n6 A i q)&&TL A i d r
def Y9(d:Nat):List (Nat×Nat)->Bool
 |[]=>false
 |(_,e)::r=>Nat.beq e d||Y9 d r
def gdD(ws:List (Nat×Nat)):AV G->Bool
 | .gd j _ _ =>Y9 j ws
 |_ =>false
def Ti(ws:List (Nat×Nat))(F:Fr G)(d:Nat):Bool:=match dm F d with
 |some v=>gdD ws v
 |none=>false
structure Lg where
 i:Nat
 r:List Nat
 a:List Nat
 o:List Nat
structure DS(G:Sg) where
 F:Fr G
 M:Os G
 nx:Nat
 lg:List Lg
def PX:List Nat->List Nat->Bool
 |[],_ =>true
 |a::r,l=> !cv l a&&PX r l
def ZQ(A:List Nat)(i:Nat)(rd ac nw:List Nat):List Lg->Bool
 |[]=>true
 |y::r=>(n6 A i y.i||(PX (y.a++y.o) (rd++ac)&&PX (ac++nw) (y.r++y.a)))&&ZQ A i rd ac nw r
def okU(A:List Nat)(i:Nat):List Lg->Bool
 |[]=>true
 |y::r=>(n6 A i y.i||(match y.a with
  |[]=>true
  |_ =>false))&&okU A i r
def unN(A:List Nat)(i:Nat):List Lg->List Nat
 |[]=>[]
 |y::r=>bif n6 A i y.i then unN A i r else y.o++unN A i r
def QT:AV G->List Nat
 | .ptr r _ =>[r]
 | .row r=>[r]
 | .EE r _ _ _ _ _ =>[r]
 | .mp r=>[r]
 | .gd _ _ v=>QT v
 |_ =>[]
def rD:AV G->List Nat
 | .ptr r _ =>[r]
 | .row r=>[r]
 | .EE r _ _ _ _ _ =>[r]
 | .mp r=>[r]
 | .gd _ _ v=>rD v
 | .fn _ a c=>rD a++rD c
 | .st a=>rD a
 | .jc a=>rD a
 | .iQ _ v=>rD v
 | .cons a b=>rD a++rD b
 | .part _ a b=>rD a++rD b
 |_ =>[]
def obN(M:Os G):List Nat->List Nat
 |[]=>[]
 |r::q=>match dm M r with
  |some (.cI _ c)=>rD c++obN M q
  |_ =>obN M q
def Na(M:Os G):Nat->List Nat->List Nat
 |0,l=>l
 |n+1,l=>l++Na M n (obN M l)
def EH(f:AV G->List Nat)(C:CC G)(S:AS G):List Operand->List Nat
 |[]=>[]
 |x::r=>match NO C S x with
  |some v=>f v++EH f C S r
  |none=>EH f C S r
def jd:Os G->List Nat
 |[]=>[]
 |(k,_)::r=>k::jd r
def isQ:Op->Bool
 | .store _ _ _ =>false
 | .call ⟨.builtin .len,_,_⟩=>true
 | .call ⟨.builtin .min,_,_⟩=>true
 | .call ⟨.builtin .max,_,_⟩=>true
 | .call _ =>false
 | .box _ _ =>false
 | .alloc _ =>false
 | .panic _ =>false
 | .buildSlice _ _ _ =>false
 | .makeSlice _ _ _ =>false
 | .makeMap _ _ =>false
 | .insert _ _ _ _ =>false
 |_ =>true
def Nn:AV G->List Nat
 | .row r=>[r]
 | .EE r _ _ _ _ _ =>[r]
 | .gd _ _ v=>Nn v
 |_ =>[]
def rdF:Op->AV G->List Nat
 | .load _ _ =>QT
 | .lookup _ _ _ _ =>QT
 | .move _ =>λ_ =>[]
 |_ =>Nn
def XM(C:CC G)(S:AS G):List Operand->Bool
 |[]=>false
 |x::r=>(match NO C S x with
  |some (.row _)=>true
  |_ =>false)||XM C S r
def ai4(C:CC G)(S:AS G)(op:Op):Bool:=isQ op&&(match op with
 | .build _ _ => !XM C S op.operands.toList
 |_ =>true)
def aht(A:List Nat)(ws:List (Nat×Nat))(i:Nat):AV G->Bool
 | .gd j _ _ =>TL A i j ws
 |_ =>true
def acZ(A:List Nat)(ws:List (Nat×Nat))(i nx:Nat)(d:Option Tmp)(F S:Fr G):Option (Fr G):=match d with
 |none=>some F
 |some d=>match dm S d with
  |some v=>bif v.lt nx&&aht A ws i v then some ((d,v)::F)else none
  |none=>none
def rdN(O:Os G):List (Nat×Sh)->AV G->List Nat×List Nat
 |(_,s)::l, .cons (.ptr q []) p=>match rdN O l p,dm O q with
  |(rd,ac),some (.cI _ c)=>match xK O s c,W2 s c with
   |[],false=>(q::(zm O s c++rd),ac)
   |b,_ =>(zm O s c++rd,q::(b++ac))
  |(rd,ac),_ =>(rd,ac)
 |_,_ =>([],[])
def ab5(C:CC G)(O:Os G)(nx:Nat)(akc:AV G):List (Ct P G)->Option (List Nat×List Nat)
 |[]=>none
 |ct::r=>match ET C O nx ct.s akc,ahL C O ct.s akc,agr C O ct.s akc with
  |none,[],[]=>ab5 C O nx akc r
  |_,_,_ =>match PJ (O++my C) ct.s.Nb 0 ct.s.vS akc with
   |some pv=>match rdN O ct.s.Nb pv with
    |(rd,ac)=>some (rd,zm O ct.s.vS akc++ac)
   |none=>none
def HP(s:List Nat):List Nat->List Nat
 |[]=>[]
 |q::r=>bif cv s q then HP s r else q::HP s r
def ahQ(tb:wS P G)(C:CC G)(S:AS G)(all:Array Oper)(o:Oper):List Nat×List Nat:=bif ai4 C S o.op then(EH (rdF o.op) C S o.op.operands.toList,[])else match o.op with
 | .store _ x y=>([],EH QT C S [x]++EH Nn C S [y])
 | .alloc _ =>([],[])
 | .box _ _ =>([],[])
 | .panic _ =>([],[])
 | .buildSlice _ _ _ =>([],EH Nn C S o.op.operands.toList)
 | .call ⟨.builtin _,_,_⟩=>([],EH Nn C S o.op.operands.toList)
 | .call ⟨.value f,x,t⟩=>match N7 C S (match o.guard with
   |some (j,w)=>(match IP all j with
    |some dj=>chain C S 8 dj w
    |none=>[])
   |none=>[]) (.call ⟨.value f,x,t⟩)with
  |some (k,akc)=>(match ab5 C S.O S.nx akc (tb.calls k)with
   |some p=>p
   |none=>match tb.hint [] (2000000+k)with
    |some _ =>(EH rD C S o.op.operands.toList,HP (EH rD C S o.op.operands.toList) (Na S.O 3 (EH rD C S o.op.operands.toList)))
    |none=>([],Na S.O 3 (EH rD C S o.op.operands.toList)))
  |none=>match NO C S f with
   |some (.yl _)=>([],jd S.O)
   |_ =>([],Na S.O 3 (EH rD C S o.op.operands.toList))
 |_ =>([],Na S.O 3 (EH rD C S o.op.operands.toList))
def Rz:AV G->AV G->Bool
 | .ptr r [], .ptr q []=>Nat.beq r q
 | .fn (.func f) a c, .fn (.func g) b d=>Nat.beq f g&&(Rz a b&&Rz c d)
 | .nil, .nil=>true
 | .cons a b, .cons c d=>Rz a c&&Rz b d
 |_,_ =>false
def abB(M O:Os G)(q:Nat):Bool:=match dm M q,dm O q with
 |some (.cI T c),some (.cI U d)=>Nat.beq T U&&Rz c d
 |_,_ =>false
def smN(M O:Os G):List Nat->List Nat
 |[]=>[]
 |q::r=>bif abB M O q then q::smN M O r else smN M O r
def Zw(q T:Nat)(c:AV G):Os G->Option (Os G)
 |[]=>none
 |(k, .cI U d)::r=>bif Nat.beq q k&&(Nat.beq T U&&Rz c d)then some r else(match Zw q T c r with
  |some l=>some ((k, .cI U d)::l)
  |none=>none)
 |x::r=>match Zw q T c r with
  |some l=>some (x::l)
  |none=>none
def Nf:Os G->Os G->Bool
 |[],[]=>true
 |(q, .cI T c)::r,l=>match Zw q T c l with
  |some m=>Nf r m
  |none=>false
 |_,_ =>false
def drS{Z:Type}(tb:wS P G)(rec:WT G Z)(N:Nat)(cp:List Nat)(C:CC G)(ops:Array Oper)(A:List Nat)(ws:List (Nat×Nat))(F0:Fr G)(D0:List (AV G))(o:Oper)(i:Nat)(T:DS G)(kn:DS G->List Nat->List Nat->Option Z)(kp:AV G->AS G->List Nat->List Nat->Option Z):Option Z:=
 match jM (λd=>BO A i d ws) T.F with
 |Fi=>match ahQ tb (⟨F0,[],[]⟩::C) ⟨Fi,T.M,T.nx,[]⟩ ops o with
  |(rd,ac)=>match(⟨F0,bK (λq=>cv rd q&& !cv ac q) T.M,D0⟩:Ly G)with
   |ly=>bif yP T.nx (ly::C)&&(Wk T.nx Fi&&uY T.nx (bK (cv ac) T.M))then rec N cp (ly::C) (.ops ops [o]) ⟨Fi,bK (cv ac) T.M,T.nx,[]⟩ λe S1=>match e,S1.D with
     | .jK,[]=>match smN T.M S1.O ac with
      |sm=>match HP sm ac,bK (λq=> !cv sm q) S1.O with
       |ac2,on=>bif Nat.ble T.nx S1.nx&&(uY S1.nx S1.O&&(Nf (bK (cv sm) T.M) (bK (cv sm) S1.O)&&ZQ A i (rd++sm) ac2 (jd on) T.lg))then(match acZ A ws i S1.nx o.dst T.F S1.F with
        |some F'=>kn ⟨F',on++bK (λq=> !cv ac2 q) T.M,S1.nx,⟨i,rd++sm,ac2,jd on⟩::T.lg⟩ ac2 (jd on)
        |none=>none)else none
     | .wY v,[]=>bif Nat.ble T.nx S1.nx&&(ZQ A i rd ac [] T.lg&&(okU A i T.lg&&uY T.nx T.M))then kp v ⟨F0,S1.O++bK (λq=> !cv ac q) (bK (λq=> !cv (unN A i T.lg) q) T.M),S1.nx,D0⟩ rd ac else none
     |_,_ =>none
    else none
def agq:List Nat->Bool
 |[]=>true
 |_ =>false
def drP{Z:Type}(tb:wS P G)(rec:WT G Z)(N:Nat)(cp:List Nat)(C:CC G)(ops:Array Oper)(A:List Nat)(ws:List (Nat×Nat))(F0:Fr G)(D0:List (AV G))(j:Nat)(zj:List Nat)(k:Option Z):List Oper->Nat->DS G->Option Z
 |[],_,_ =>k
 |o::r,i,T=>bif n6 A i j then drP tb rec N cp C ops A ws F0 D0 j zj k r (i+1) T else drS tb rec N cp C ops A ws F0 D0 o i T (λT' ac nw=>bif agq ac&&PX nw zj then drP tb rec N cp C ops A ws F0 D0 j zj k r (i+1) T' else none) (λ_ _ _ _ =>none)
def drW{Z:Type}(tb:wS P G)(rec:WT G Z)(N:Nat)(cp:List Nat)(C:CC G)(ops:Array Oper)(A:List Nat)(ws:List (Nat×Nat))(F0:Fr G)(D0:List (AV G))(K:Ex G->AS G->Option Z):List Oper->Nat->DS G->Option Z
 |[],_,T=>K .jK ⟨T.F++F0,T.M,T.nx,D0⟩
 |o::r,i,T=>drS tb rec N cp C ops A ws F0 D0 o i T (λT' _ _ =>drW tb rec N cp C ops A ws F0 D0 K r (i+1) T') (λv S' rd ac=>drP tb rec N cp C ops A ws F0 D0 i (rd++ac) (K (.wY v) S') r (i+1) T)
def drR{Z:Type}(tb:wS P G)(rec:WT G Z):WT G Z:=λN cp C cf S K=>match cf with
 | .ops ops l=>match Gs ops ops.size,zR 0 ops.toList with
  |A,ws=>bif SR A ws ws&&(T6 ops []&&P.follows .mixedOrders)then
   (match jM (λd=> !(Y9 d ws)&& !Ti ws S.F d) S.F with
   |F0=>drW tb rec N cp C ops A ws F0 S.D K l 0 ⟨jM (λd=>Y9 d ws&& !Ti ws S.F d) S.F,S.O,S.nx,[]⟩)else none
 |_ =>none
def Wi(ps:List Nat)(a b:Code)(C:CC G)(S1:AS G)(O:Os G):CC G:=[⟨jM (λd=> !cv (ps++(Kh a++Kh b)) d) (S1.F++flF C),(S1.nx+1, .aux false)::(O++my C),[]⟩]
def rgW{Z:Type}(rec:WT G Z)(N:Nat)(cp:List Nat)(C:CC G)(ps:List Nat)(a b:Code)(S1:AS G)(K:Ex G->AS G->Option Z)(g:Om)(it:It P G)(l:List it.B)(O:Os G)(x0:HL G (aL (sY g.l))):Option Z:=
 itE (aL (sY g.l)) (λy go e=>I3 N (Wi ps a b C S1 O) ps (fQ (λm=>m) it.ys (it.en y) 0).1 (Zn g (S1.nx+2) e) λS2=>rec N cp (Wi ps a b C S1 O) (.code a) S2 λe1 S3=>match e1 with
  | .jK=>rec N cp (Wi ps a b C S1 O) (.code b) S3 λe2 S4=>match e2 with
   | .jK=>match Iu (Wi ps a b C S1 O) (mL (Wi ps a b C S1 O) S4 g.l) g (S1.nx+2)with
    |some e=>go e
    |none=>none
   | .ret=>bif V7 S4.D then K .ret (SQ S1.nx S1 O S4)else none
   | .exit i=>bif V7 S4.D then K (.exit i) (SQ S1.nx S1 O S4)else none
   | .wY _ =>none
  |_ =>none) (λe=>K .jK (SQ S1.nx S1 O (Zn g (S1.nx+2) e))) l x0
def rgK{Z:Type}(rec:WT G Z)(N:Nat)(cp:List Nat)(C:CC G)(ps:List Nat)(a b:Code)(k:Nat)(cap:AV G)(gl:List (T3×Sh))(S:AS G)(K:Ex G->AS G->Option Z):List (It P G)->Option Z
 |[]=>none
 |it::q=>match nW it.vS cap ⟨[],S.O,S.nx⟩with
  |none=>rgK rec N cp C ps a b k cap gl S K q
  |some (x,g1)=>match rsv C ⟨S.F,g1.O,g1.nx,S.D⟩ gl with
   |some g=>match mL C ⟨S.F,g1.O,g1.nx,S.D⟩ g.l with
    |S1=>match Et C ⟨S1.F,S1.O,S1.nx+2,S1.D⟩ g.l with
     |some v=>match nW (sY g.l) v ⟨[],S1.O,S1.nx+2⟩with
      |some (x0,g2)=>bif (Nat.beq it.k k&&Nat.beq it.n ps.length&&yC (my C))&&(xp g.nm g2.th&&xq (S1.nx+2) g.nm&&yP (S1.nx+2) (Wi ps a b C S1 g2.O))&&((uY (S1.nx+2) g2.O&&psN N ps)&&(yP (S1.nx+2) C&&LQ (g2.O++my C)))then bd (it.f x) λl=>rgW rec N cp C ps a b S1 K g it l g2.O x0 else none
      |none=>none
     |none=>none
   |none=>none
def frU(seen:List Nat):Fr G->List Nat×AV G
 |[]=>([], .nil)
 |(d,v)::r=>bif cv seen d|| !wF v then frU (d::seen) r else match frU (d::seen) r with
  |(ks,vs)=>(d::ks, .cons v vs)
def rgI{Z:Type}(tb:wS P G)(rec:WT G Z)(N:Nat)(cp:List Nat)(C:CC G)(ps:List Nat)(a b:Code)(k:Nat)(cap:AV G)(S:AS G)(K:Ex G->AS G->Option Z):Option Z:=match D1 P k,frU [] (S.F++flF C)with
 |some fi,(ks,vs)=>match fi.Bq with
  |[]=>bif (pb cap&&Nat.ble (zD cap+1) fi.N)&&yC (my C)then rec fi.N (998::cp) [⟨[],(S.nx+1, .lp N ks vs ps a b)::my C,[]⟩] (.code fi.code) ⟨wO 0 (.cons (.yl (S.nx+1)) cap),(S.nx, .aux true)::S.O,S.nx+2,[]⟩ λe S1=>match oK tb.ek e S1.D S1.O with
    |some (.jK,O2)=>K .jK ⟨S.F,O2,S1.nx, .ptr S.nx []::S.D⟩
    |some (.ret,O2)=>K .jK ⟨S.F,O2,S1.nx, .ptr S.nx []::S.D⟩
    |_ =>none
   else none
  |_ =>none
 |_,_ =>none
noncomputable def step{Z:Type}(tb:wS P G)(rec:WT G Z):WT G Z:=λN cp C cf S K=>match cf with
 | .ops _ []=>K .jK S
 | .ops all (o::r)=>match o.guard with
  |none=>wOp tb rec N cp C all r o S K
  |some (j,w)=>match IP all j with
   |some dj=>match YR C S 8 dj w with
    |some true=>wOp tb rec N cp C all r o S K
    |some false=>(match vO N C o.dst (.gd dj w .QA) S with
     |some S'=>rec N cp C (.ops all r) S' K
     |none=>none)
    |none=>match PE C S 8 dj w,pvA tb.tt tb.zt C S (chain C S 8 dj w) o.op with
     |some g,some (gs,v)=>guG g gs (match vO N C o.dst (.gd dj w v) S with
      |some S'=>rec N cp C (.ops all r) S' K
      |none=>none)
     |g,_ =>ctT tb rec N cp C all r o S K dj w (match KW C S 8 dj with
      |some (k,b)=>cn b (rec N cp C (.ops all (o::r)) {S with F:=(k, .kb true)::S.F} K) (rec N cp C (.ops all (o::r)) {S with F:=(k, .kb false)::S.F} K)
      |none=>none) g (N7 C S (chain C S 8 dj w) o.op)
   |none=>none
 | .code c=>match c with
  | .skip=>K .jK S
  | .label _ =>K .jK S
  | .ret=>K .ret S
  | .exit i=>K (.exit i) S
  | .region _ ops false=>rec N cp C (.ops ops ops.toList) S K
  | .region _ ops true=>drR tb rec N cp C (.ops ops ops.toList) S K
  | .block i x=>rec N cp C (.code x) S λe S'=>match e with
   | .exit j=>bif Nat.beq i j then K .jK S' else K (.exit j) S'
   |e=>K e S'
  | .scope x=>rec N cp C (.code x) S K
  | .cond x a b=>match gv C S [] x with
   |some (.bool t)=>cn t (rec N cp C (.code a) S K) (rec N cp C (.code b) S K)
   |some (.kb t)=>rec N cp C (.code (bif t then a else b)) S K
   |_ =>none
  | .seq x y=>match(match SH y with
    |some i=>tb.hint cp (i+i)
    |none=>none)with
   |some (.join gl ex)=>match rsv C S gl,Sr C S gl++Nm C S ex with
    |some g,thr=>(match(⟨jM (λd=> !(cv (Kh x) d||zG g.l d)) S.F,bK (λq=> !cv thr q) S.O,S.D⟩:Ly G),(⟨jM (λd=>cv (Kh x) d||zG g.l d) S.F,bK (cv thr) S.O,S.nx,[]⟩:AS G)with
    |ly,S0=>bif yP S.nx (ly::C)then jnE tb.jw (aL (sY g.l)) (λe=>rec N cp C (.code y) (MO ly (JP g S.nx e)) K) λj=>rec N cp (ly::C) (.code x) S0 λe S1=>match e with
       | .jK=>match Iu (ly::C) (mL (ly::C) S1 g.l) g S.nx with
        |some e=>j e
        |none=>none
       |e=>K e (MO ly S1)
     else none)
    |none,_ =>none
   |_ =>rec N cp C (.code x) S λe S'=>match e with
    | .jK=>rec N cp C (.code y) S' K
    |e=>K e S'
  | .loop x=>match(match SH x with
    |some i=>tb.hint cp (i+i+1)
    |none=>none)with
   |some (.loop gl)=>(match rsv C S gl with
    |none=>none
    |some g=>match mL C S g.l with
    |S=>match Et C S g.l with
    |some v=>match nW (sY g.l) v ⟨[],S.O,S.nx⟩with
     |some (x0,g')=>bif xp g.nm g'.th&&xq S.nx g.nm then
       (match(⟨jM (λd=> !(cv (Kh x) d||zG g.l d)) S.F,g'.O,S.D⟩:Ly G)with
       |ly=>bif yP S.nx (ly::C)then lpV (tb.vw (match SH x with
        |some i=>i
        |none=>0) (aL (sY g.l))) (λgo e=>rec N cp (ly::C) (.code x) (JP g S.nx e) λe1 S1=>match e1 with
         | .jK=>match Iu (ly::C) (mL (ly::C) S1 g.l) g S.nx with
          |some e=>go e
          |none=>none
         |e1=>K e1 (MO ly S1)) tb.fu x0
        else none)
      else none
     |none=>none
    |none=>none)
   |some .HH=>rec N cp C (.lp x) S K
   |_ =>none
  | .rangeFunc g ps a b=>match gv C S [] g,(match SH (.seq a b)with
    |some i=>tb.hint cp (i+i+1)
    |none=>none)with
   |some (.fn (.func k) .nil cap),some (.loop gl)=>rgK rec N cp C ps.toList a b k cap gl S K (tb.its k)
   |some (.fn (.func k) .nil cap),none=>rgI tb rec N cp C ps.toList a b k cap S K
   |_,_ =>none
  |_ =>none
 | .lp x=>rec N cp C (.code x) S λe S'=>match e with
  | .jK=>rec N cp C (.lp x) S' K
  |e=>K e S'
noncomputable def W{Z:Type}(tb:wS P G):Nat->WT G Z
 |0=>λ_ _ _ _ _ _ =>none
 |n+1=>step tb (W tb n)
end Go.Rw
