/- Part 7 of what a proof leans on; pruned and shortened by a program out of longer texts. -/
import Derived.Test.YtgdmofhmmhcmjaaGreatDoorQ6
namespace Go.Rw
open Go Go.Bw Go.RowKit
variable {G:Sg} {P:Program} {tt:TT P G} {J:World->Prop} {ρ:aY} {a:Act} {w:World} {d:Option Tmp} {ty:TypeId} {ps:String} {af:Array Edge} {g:Option (Nat×Bool)}
 {N:Nat} {c:Cx} {H HK X:List aE} {D:List Deferred} {C:CC G} {S:AS G}
def nB:AV G->AV G->AV G
 | .cons v r,b=> .cons v (nB r b)
 |_,b=>b
def oz:AV G->Bool
 | .cons _ r=>oz r
 | .nil=>true
 |_ =>false
theorem nJ{J:World->Prop}{ρ:aY}:∀{a b:AV G} {l m:List Value},oz a=true->rl J ρ a l->rl J ρ b m->rl J ρ (nB a b) (l++m):=by
 intro a
 induction a with
 |nil=>intro b l m _ h1 h2;have:l=[]:=h1;subst this;exact h2
 |cons v r _ ih=>intro b l m hl h1 h2;obtain⟨u,r',rfl,k1,k2⟩:=h1;exact⟨u,r'++m,rfl,k1,ih hl k2 h2⟩
 |_ =>intro b l m hl;cases hl
theorem Ns{T:Nat}(q:IntKind):SK P ⟨d, .makeMap T none,ty,ps,af,g⟩ C S {S with O:=(S.nx, .fm q [] .nil)::S.O,nx:=S.nx+1} (.mp S.nx):=by
 intro c N ρ J HK X a w next Q h hk
 obtain⟨HS,h1,hst,_⟩:=h.st;refine dJ (by simp) (w':=w.alloc (.map #[] 0)) (v:= .map (some w.heap.size)) ?_ ?_
 ·simp[execOp,Instr.makeMap,newObj,Sem.run,Result.andThen]
 ·have xw:bC c.bs c.w0.heap.size (.obj w.heap.size (.map #[] 0)::(HS++(HK++X))) (w.alloc (.map #[] 0)):=hst.hp.fresh (aO.alloc _ _) (by show(w.heap.push _)[w.heap.size]? =_;simp) hst.si.size (λb hb=>by
   have e:b=w.heap.size:=by simpa[aE.cH]using hb
   subst e;exact⟨Nat.le_refl _,by simp⟩)
  exact hk (ρ.set S.nx (.map (some w.heap.size))) J [] _ _ (aY.kg _ _ _) (λ_ h=>h) ⟨_,aY.gO _ _ _,rfl,rfl,rfl⟩ (h.new h1 (hst.si.ext (aO.alloc _ _)) xw ⟨_,_,_,[],aY.gO _ _ _,rfl,⟨rfl,by simp,by simp⟩,rfl,rfl⟩)
def Ji(k:Int):List Int->Bool
 |[]=>true
 |a::r=> !(k==a)&&Ji k r
theorem L5{k:Int}:∀{ks:List Int} {us:List Value},Ji k ks=true->fK (ks.zip us) k=none:=by
 intro ks
 induction ks with
 |nil=>intro us _;rfl
 |cons a r ih=>
  intro us h;simp only[Ji,aiP,Bool.not_eq_true']at h;cases us with
  |nil=>rfl
  |cons u us=>simp only[List.zip_cons_cons,fK,h.1,cond_false,ih h.2,Option.map_none]
def MF(P:Program)(T:Nat)(q:IntKind):Bool:=match P.underlying T with
 |some (.map k _)=>(match P.underlying k with
  |some (.int q')=>Nat.beq (Ty.bU.ik q) (Ty.bU.ik q')
  |_ =>false)
 |_ =>false
theorem ZB{T:Nat}{q:IntKind}(h:MF P T q=true):∃k e,P.underlying T=some (.map k e)/\P.underlying k=some (.int q):=by
 unfold MF at h;split at h
 ·rename_i k e h1
  split at h
  ·rename_i q' h2
   obtain rfl:=GM h;exact⟨k,e,h1,h2⟩
  ·cases h
 ·cases h
theorem Un{r b:Nat}{u:Value}(h:rv (G:=G) J ρ (.mp r) u)(m:ρ r=some (.map (some b))):u= .map (some b):=by obtain⟨u',u1,u2,_⟩:=h;rw[m]at u1;cases u1;exact(List.cons.inj u2).1
theorem QL{T r:Nat}{x y z:Operand}{q ky:IntKind}{k:Int}{ql:Bool}{ks:List Int}{vs v:AV G}(hx:fT C S [] x=some (.mp r))(hy:mz (fT C S [] y)=some (ky,k,ql))(hz:fT C S [] z=some v)(ho:cU S.O r=some (.fm q ks vs))(hq:FF ky q=true)(hT:MF P T q=true)(hn:Ji k ks=true)(hl:oz vs=true):
  SK P ⟨d, .insert T x y z,ty,ps,af,g⟩ C S {S with O:=pF S.O r (.fm q (ks++[k]) (nB vs (.cons v .nil)))} .OX:=by
 intro c N ρ J HK X a w next Q h hk
 obtain⟨HS,h1,hs0,hm⟩:=h.st;have hE:=cQ h (ch:=[]) (by simp);obtain⟨kk,x0,k1,⟨b,es,ck,us,m1,rfl,m3,m4,m5⟩,k3⟩:=h1.set ho;obtain rfl:=yS hq;obtain⟨kt,e,t1,t2⟩:=ZB hT;have sB:=hE.ev _ _ hx;rw[Un (hE.ok _ _ hx) m1]at sB;have YQ:=jR hE hy;have hz2:=hE.ev _ _ hz;have Ib:=qe (m:=HK++X) k1;have hd:w.heap[b]? =some (.map es ck):=hs0.hp.holds _ (List.mem_of_getElem? Ib);have hf:=nF (k:=k) w t2 m3;rw[L5 hn]at hf;have hc:∀em,(Instr.checkKey em 10000 kt (.int ky k)).run P w= .ok () w:=λem=>MapKept.run_checkKey (k:= .int ky k) t2 (show ky=ky from rfl) em 9999;haveI:RZ (HS++(HK++X)) b (.map es ck):=⟨List.mem_of_getElem? Ib⟩;haveI:RU (HS++(HK++X)) b (.map (es.push ⟨.int ky k,a.eval z,ck⟩) (ck+1)) (HS.set kk (.obj b (.map (es.push ⟨.int ky k,a.eval z,ck⟩) (ck+1)))++(HK++X)):=⟨kk,_,Ib,by rw[uk k1]⟩;obtain⟨p1,_⟩:=hs0.pF (b:=b) (o:= .map es ck) (o':= .map (es.push ⟨.int ky k,a.eval z,ck⟩) (ck+1)) inferInstance inferInstance;refine oe (by simp) (w':=w.putObj b (.map (es.push ⟨.int ky k,a.eval z,ck⟩) (ck+1))) ?_ ?_
 ·simp[execOp,aI hs0.fr sB,aI hs0.fr YQ,Instr.mapUpdate,run_underlying t1,MapKept.run_getObj_map hd,hc,hf,MapKept.run_setObj_map _ hd,Result.andThen,World.putObj]
 ·refine hk ρ J [] _ undef (aY.dM _ _) (λ_ h=>h) ⟨_,rfl⟩ (h.Ad (k3 _ _ ⟨b,_,_,us++[a.eval z],m1,rfl,?_,nJ hl m4 ⟨_,[],rfl,hE.ok _ _ hz,rfl⟩,by simp[m5]⟩) p1.si p1.hp)
  rw[List.zip_append (by rw[m5])];exact m3.push k (a.eval z)
def lkF{Z:Type}(k:Int):List Int->AV G->(AV G->Option Z)->Option Z
 |a::r, .cons v b,c=>cn (k==a) (c (.jy (.cons v (.cons (.kb true) .nil)))) (lkF k r b c)
 |[], .nil,c=>c (.jy (.cons .ow (.cons (.kb false) .nil)))
 |_,_,_ =>none
theorem afi{Z:Type}{k:Int}{c:AV G->Option Z}{z:Z}:∀{ks:List Int} {vs:AV G},lkF k ks vs c=some z->∃t,c t=some z/\∀(J:World->Prop) (ρ:aY) (us:List Value),rl J ρ vs us->rv J ρ t (.tuple #[nV (ks.zip us) k .nilFunc, .bool (pG (ks.zip us) k)]):=by
 intro ks
 induction ks with
 |nil=>
  intro vs h;cases vs<;>simp only[lkF]at h<;>first|cases h|skip
  exact⟨_,h,λJ ρ us _ =>⟨[.nilFunc, .bool false],rfl,_,_,rfl,rfl,_,_,rfl,rfl,rfl⟩⟩
 |cons a r ih=>
  intro vs h;cases vs<;>simp only[lkF]at h<;>first|cases h|skip
  rename_i v b;cases hb:(k==a)with
  |true=>
   rw[hb]at h;refine⟨_,h,λJ ρ us hu=>?_⟩;obtain⟨u,us',rfl,h1,h2⟩:=hu;have e1:nV ((a::r).zip (u::us')) k .nilFunc=u:=by simp[nV,fK,hb]
   have e2:pG ((a::r).zip (u::us')) k=true:=by simp[pG,fK,hb]
   rw[e1,e2];exact⟨[u, .bool true],rfl,_,_,rfl,h1,_,_,rfl,rfl,rfl⟩
  |false=>
   rw[hb]at h;obtain⟨t,t1,t2⟩:=ih h;refine⟨t,t1,λJ ρ us hu=>?_⟩;obtain⟨u,us',rfl,h1,h2⟩:=hu;have e1:nV ((a::r).zip (u::us')) k .nilFunc=nV (r.zip us') k .nilFunc:=by simp only[List.zip_cons_cons,nV,fK,hb,cond_false,Option.map_map];rfl
   have e2:pG ((a::r).zip (u::us')) k=pG (r.zip us') k:=by simp only[List.zip_cons_cons,pG,fK,hb,cond_false,Option.isSome_map]
   rw[e1,e2];exact t2 J ρ us' h2
theorem Tn{T r:Nat}{x y:Operand}{q ky:IntKind}{k:Int}{ql:Bool}{ks:List Int}{vs t:AV G}(hx:fT C S [] x=some (.mp r))(hy:mz (fT C S [] y)=some (ky,k,ql))(ho:Ug C S r=some (.fm q ks vs))(hq:FF ky q=true)(hT:EE P T q=true)
  (ht:∀(J:World->Prop) (ρ:aY) (us:List Value),rl J ρ vs us->rv J ρ t (.tuple #[nV (ks.zip us) k .nilFunc, .bool (pG (ks.zip us) k)])):SK P ⟨d, .lookup T x y true,ty,ps,af,g⟩ C S S t:=by
 intro c N ρ J HK X a w next Q h hk
 obtain⟨HS,h1,hs0,hm⟩:=h.st;have hE:=cQ h (ch:=[]) (by simp);obtain⟨x0,hx0,⟨b,es,ck,us,m1,rfl,m3,m4,m5⟩⟩:=hm.ob r _ ho;obtain rfl:=yS hq;have sB:=hE.ev _ _ hx;rw[Un (hE.ok _ _ hx) m1]at sB;have YQ:=jR hE hy;unfold EE at hT;split at hT
 ·rename_i kt e hu
  simp only[aiP]at hT;obtain⟨Rf,Xh⟩:=hT;split at Rf
  ·rename_i q' hk'
   obtain rfl:=GM Rf;split at Xh
   ·rename_i hz
    have tm:Fe P T kt e ky:=⟨hu,hk'⟩;have tz:OI P e ((λv:Value=>v) .nilFunc):=⟨hz⟩;refine(aG (P:=P) (F:=ng a) (H:=HS++(HK++X)) (by simp) λa' w' UX _ hp=>?_ :VS P N c _ _ _ (.tuple #[nV (ks.zip us) k .nilFunc, .bool (pG (ks.zip us) k)])) a.defers a w next Q hs0 λw' hs=>?_
    ·have hd:w'.heap[b]? =some (.map es ck):=hp.holds _ hx0
     simp[execOp,aI UX sB,aI UX YQ,oP (E:=λv:Value=>v) w' tm tz ⟨es,ck,hd,m3⟩,Result.andThen]
    ·exact hk ρ J [] w' _ (aY.dM _ _) (λ_ h=>h) (ht J ρ us m4) (by
      obtain⟨HS2,p1,p3⟩:=h.hp;exact⟨h.tm,h.df,h.si.ext hs,h.fs,h.fc,h.kc,⟨HS2,p1,p3.ext hs⟩,h.kn,h.fr⟩)
   ·cases Xh
  ·cases Rf
 ·cases hT
def fnL(E:Operand->Option (AV G)):Nat->List (Nat×Operand)->Option (AV G)
 |_,[]=>some .nil
 |k,(i,x)::r=>bif Nat.beq i k then(match E x with
  |some v=>bif v.one then(match fnL E (k+1) r with
   |some l=>some (.part 1 v l)
   |none=>none)else none
  |none=>none)else none
theorem acI{E:Operand->Option (AV G)}(hE:zD J ρ a E):∀{l:List (Nat×Operand)} {k:Nat} {vs:AV G},fnL E k l=some vs->∃us:List Value,C7 (ng a) (l.map (·.2))=some us/\l.map (·.1)=List.range' k us.length/\us.length=l.length/\rl J ρ vs us/\∀u∈us,u.cells= #[u]/\u.oneCell'=true:=by
 intro l
 induction l with
 |nil=>intro k vs h;cases h;exact⟨[],rfl,rfl,rfl,rfl,nofun⟩
 |cons p r ih=>
  obtain⟨i,x⟩:=p;intro k vs h;unfold fnL at h;cases hb:Nat.beq i k with
  |false=>rw[hb]at h;cases h
  |true=>
   rw[hb]at h;simp only[cond_true]at h;split at h
   ·rename_i v hx
    cases h1:v.one with
    |false=>rw[h1]at h;cases h
    |true=>
     rw[h1]at h;simp only[cond_true]at h;split at h
     ·rename_i l' hl
      cases h;obtain⟨us,m1,m2,m3,m4,m5⟩:=ih hl;have hv:=hE.ok _ _ hx;obtain⟨c1,c2⟩:=DC h1 hv;refine⟨a.eval x::us,by simp only[List.map_cons,C7,hE.ev _ _ hx,m1],?_,by simp[m3],⟨[a.eval x],us,a.eval x,rfl,rfl,hv,by rw[c1],m4⟩,λu hu=>?_⟩
      ·simp only[List.map_cons,List.length_cons,List.range'_succ,aiO hb,m2]
      ·rcases List.mem_cons.1 hu with rfl|hu
       ·exact⟨c1,c2⟩
       ·exact m5 u hu
     ·cases h
   ·cases h
theorem abn{zt:ZT P G}{T n e bt:Nat}{parts:Array (Nat×Operand)}{z vs:AV G}(hT:tt.te.find T=some (.sl e 1 bt))(hz:zt.z.find e=some z)(hxs:fnL (fT C S []) 0 parts.toList=some vs)(hn:parts.size=n)(h0:0<n)(hcap:n<=16777216):
  SK P ⟨d, .buildSlice T n parts,ty,ps,af,g⟩ C S {S with O:=(S.nx, .cH e (.st vs))::S.O,nx:=S.nx+1} (.Dz S.nx [] n 1 false (n:Int)):=by
 intro c N ρ J HK X a w next Q h hk
 obtain⟨HS,h1,hs0,hm⟩:=h.st;have hE:=cQ h (ch:=[]) (by simp);obtain⟨us,m1,m2,m3,m4,m5⟩:=acI hE hxs;obtain⟨u,z1,z2⟩:=zt.ok e z hz J ρ;haveI:jh P e u.cells.toList:=⟨z1⟩;haveI:=(tt.sl hT).1;have hlen:us.length=n:=by rw[m3, ← hn];simp
 have hb0:((List.range (n*1)).map λj=>u.cells.toList[j%u.cells.toList.length]!).length=n*1:=by simp
 have Cv:=Mu (n:=n) (sz:=1) (vs:=us) (k:=0) (λv hv=>by rw[(m5 v hv).1];rfl) (by omega) hb0;rw[hlen, ← hlen, ← m2,hlen]at Cv;have YY:us.flatMap (λv=>v.cells.toList)=us:=by
  have:∀l:List Value,(∀v∈l,v.cells= #[v])->l.flatMap (λv=>v.cells.toList)=l:=by
   intro l
   induction l with
   |nil=>intro _;rfl
   |cons v r ih=>intro hv;rw[List.flatMap_cons,ih λx hx=>hv x (aiY _ hx),hv v List.mem_cons_self];rfl
  exact this us λv hv=>(m5 v hv).1
 have hcs:(((List.range (n*1)).map λj=>u.cells.toList[j%u.cells.toList.length]!).take (0*1)++us.flatMap (λv=>v.cells.toList)++((List.range (n*1)).map λj=>u.cells.toList[j%u.cells.toList.length]!).drop ((0+n)*1))=us:=by rw[List.drop_eq_nil_of_le (by rw[hb0,Nat.zero_add];exact Nat.le_refl _),YY];simp
 rw[hcs]at Cv;have hi:((parts.toList.map (·.1)).all λi=>decide (i<n))=true:=by rw[m2,List.all_eq_true];intro i hi;rw[List.mem_range'_1]at hi;simp;omega
 have:=WM (P:=P) (N:=N) (c:=c) (d:=d) (ty:=ty) (ps:=ps) (af:=af) (g:=g) (F:=ng a) (H:=HS++(HK++X)) (t:=T) (n:=n) m1 Cv hi (by omega) (by omega) a.defers a w next Q hs0 λb w' _ hs hp=>by
  refine hk (ρ.set S.nx (dB b 0)) J [] w' _ (aY.kg _ _ _) (λ_ h=>h) ?_ (h.new h1 hs hp ?_)
  ·refine⟨⟨b,0, .inl (aY.gO _ _ _),?_⟩,by simp,by simp⟩
   simp[QY,eJ]
  ·exact⟨b, .agg us.toArray,aY.gO _ _ _,rfl,⟨us,rfl,m4.ext ((aY.kg ρ S.nx _).le h.fr),λv hv=>(m5 v hv).2⟩⟩
 simpa using this
def VO(P:Program)(tt:TT P G)(T:Nat):Option (Nat×Nat×Nat):=match tt.te.find T with
 |some (.lK n e sz _)=>some (n,e,sz)
 |_ =>match P.underlying T with
  |some (.pointer a)=>(match tt.te.find a with
   |some (.lK n e sz _)=>some (n,e,sz)
   |_ =>none)
  |_ =>none
theorem FP{T n e sz:Nat}(h:VO P tt T=some (n,e,sz)):so P T n e sz\/Hp P T n e sz=true:=by
 unfold VO at h;split at h
 ·rename_i h1;cases h;exact .inl (tt.lK h1)
 ·split at h
  ·rename_i a h1
   split at h
   ·rename_i h2
    cases h;refine .inr ?_;unfold Hp;rw[h1];exact(tt.lK h2).ok
   ·cases h
  ·cases h
def TM(P:Program)(tt:TT P G)(E:Operand->Option (AV G))(T:Nat)(x:Operand)(lo hi mx:Option Operand):PV G:=match E x,VO P tt T with
 |some (.ptr r p),some (n,_,sz)=>(match lo,hi,mx with
  |none,none,none=>some ([], .Dz r p n sz false (n:Int))
  |some l,none,none=>(match mz (E l)with
   |some (_,i,_)=>some ([dg i (n+1)], .Dz r p n sz true i)
   |none=>none)
  |none,some h,none=>(match mz (E h)with
   |some (_,i,_)=>some ([dg i (n+1)], .Dz r p n sz false i)
   |none=>none)
  |_,_,_ =>none)
 |_,_ =>none
theorem TL{ob:Nat->Option (Ob G)}{E:Operand->Option (AV G)}(hm:OM (G:=G) J ρ N c D H ob a w)(hE:zD J ρ a E){T:Nat}{x:Operand}{lo hi mx:Option Operand}{v:AV G}{gs:List Bool}(h:TM P tt E T x lo hi mx=some (gs,v))(hg:∀b∈gs,b=true):Bv P c J ρ ⟨d, .slice T x lo hi mx,ty,ps,af,g⟩ a w v:=by
 unfold TM at h;split at h
 ·rename_i r p n e sz hx ht
  obtain⟨b,o,e1,e2,e3⟩:=oS (hE.ok _ _ hx);have fx:=hE.ev _ _ hx;rw[e2]at fx;split at h
  ·cases h
   refine⟨_,⟨⟨b,o,e1,rfl⟩,e3,by simp⟩,?_⟩;rw[Ca,aiR];rcases FP ht with h1|h1
   ·exact(RN fx).vk hm.st
   ·exact(RM h1 fx).vk hm.st
  ·split at h
   ·rename_i k i q hl
    cases h;obtain⟨h1,h2⟩:=bW (hg (dg i (n+1)) (by simp));have h2:=Nat.lt_succ_iff.1 h2;refine⟨_,⟨⟨b,o,e1,rfl⟩,e3,h2⟩,?_⟩;rw[Km];rcases FP ht with h3|h3
    ·exact(Wl fx (jR hE hl) h1 h2).vk hm.st
    ·exact(Wk h3 fx (jR hE hl) h1 h2).vk hm.st
   ·cases h
  ·split at h
   ·rename_i k i q hl
    cases h;obtain⟨h1,h2⟩:=bW (hg (dg i (n+1)) (by simp));have h2:=Nat.lt_succ_iff.1 h2;refine⟨_,⟨⟨b,o,e1,rfl⟩,e3,h2⟩,?_⟩;rw[Ca];rcases FP ht with h3|h3
    ·exact(MS fx (jR hE hl) h1 h2).vk hm.st
    ·exact(MR h3 fx (jR hE hl) h1 h2).vk hm.st
   ·cases h
  ·cases h
 ·cases h
theorem Rl.ah7{r T':Nat}{cc:AV G}(h:Rl c N ρ J HK X C S a w)(ho:cU S.O r=some (.cH T' cc)):∃(b:Nat) (u:Value) (J':World->Prop) (Y:List aE),ρ r=some (dB b 0)/\rv J ρ cc u/\(∀w,J' w->J w)/\(∀w,J' w->(aE.cells b T' u.cells.toList).holds w/\b<w.heap.size)/\Rl c N ρ J' HK (Y++X) C {S with O:=wM S.O r} a w:=by
 obtain⟨HS,q1,q3⟩:=h.hp;obtain⟨k,x,k1,⟨b,u,m1,rfl,m3⟩,k3⟩:=q1.Zt ho;let x:aE:= .cells b T' u.cells.toList;let J':World->Prop:=λw=>J w/\Hs [x] w;have mJ:∀w,J' w->J w:=λw h=>h.1;have hle:=aY.le_refl ρ;have hxm:x∈HS:=List.mem_of_getElem? k1;have hxH:x∈HS++(HK++X):=aiT _ hxm;obtain⟨q,hq1,Mj,hq3⟩:=h.kn.one (q3.holds x hxH) λb hb=>(q3.own x hxH b hb).2;refine⟨b,u,J',[q],m1,m3,mJ,λw hw=>⟨(hw.2 x (by simp)).1,(hw.2 x (by simp)).2 b (by simp[x,aE.cH])⟩,h.tm,h.df.up mJ hle,h.si,h.fs.up mJ hle,h.fc.up mJ hle,h.M1 mJ hle,⟨HS.eraseIdx k,k3.up mJ hle,?_⟩,hq3,h.fr⟩;have q4:=(q3.jL (oT k1 _)).set (k:=0) (r':=q) rfl (Nat.le_refl _) (λ_ _ _ =>rfl) hq1 h.si.s.size (λb hb=>by
  rw[Mj]at hb;exact⟨.inl hb,(q3.own x hxH b hb).2⟩)
 refine bC.jL q4 ?_;have e1:HK++([q]++X)=HK++(q::X):=rfl;rw[e1];refine List.Perm.trans ?_ (List.Perm.append_left _ (List.perm_middle (a:=q) (l₁:=HK) (l₂:=X)).symm);exact(List.perm_middle (a:=q) (l₁:=HS.eraseIdx k) (l₂:=HK++X)).symm
theorem Rq{f:Nat->List Value}{z:Nat}:∀{n m:Nat},(∀i,i<n->(f i).length=z)->m<=n->(flat f n).take (m*z)=flat f m:=by
 intro n
 induction n with
 |zero=>
  intro m _ h;have:m=0:=by omega
  subst this;simp[flat]
 |succ n ih=>
  intro m h hm;rcases Nat.lt_or_ge n m with q|q
  ·have:m=n+1:=by omega
   subst this;exact List.take_of_length_le (by rw[fM h];exact Nat.le_refl _)
  ·show(flat f n++f n).take (m*z)=_
   have hl:(flat f n).length=n*z:=fM λi hi=>h i (by omega);have hle:m*z<=n*z:=Nat.mul_le_mul_right _ q;rw[List.take_append_of_le_length (by omega)];exact ih (λi hi=>h i (by omega)) q
theorem Tm{T r n e0 sz T':Nat}{x hi:Operand}{p:List sq}{cc:AV G}{e:Ty}{f:Nat->e.T G}{k:IntKind}{i:Int}{q:Bool}(hT:VO P tt T=some (n,e0,sz))(hx:fT C S [] x=some (.ptr r p))(hh:mz (fT C S [] hi)=some (k,i,q))(ho:cU S.O r=some (.cH T' cc))(hl:Jr tt.F cc p=some (.dat (.lK n e) f))(hg:dg i (n+1)=true):
  SK P ⟨d, .slice T x none (some hi) none,ty,ps,af,g⟩ C S {S with O:=wM S.O r} (.dat (.sl e) ((List.range i.toNat).map f)):=by
 intro c N ρ J HK X a w next Q h hk
 have hE:=cQ h (ch:=[]) (by simp);obtain⟨b,o,e1,e2,e3⟩:=oS (hE.ok _ _ hx);obtain⟨b',u,J',Y,m1,m2,mJ,m3,h'⟩:=h.ah7 ho;have eb:b=b'/\o=0:=by rcases e1 with h1|⟨n,cap,_,_,_,_,h1,_⟩<;>rw[h1]at m1<;>simp[dB]at m1;exact m1
 obtain⟨rfl,rfl⟩:=eb;obtain⟨g1,g2⟩:=bW hg;have g2:=Nat.lt_succ_iff.1 g2;obtain⟨u',n1,n2,n3⟩:=GF hl m2 e3;obtain⟨u2,e4,⟨M7,r1,r2⟩,_⟩:=n1;cases e4;have hlen:∀i,i<n->(M7 i).length=(e.L G).n:=λi hi=>(e.L G).len (r2 i hi);have hsz:u'.cells.size=n*(e.L G).n:=by rw[← Array.length_toList,r1,fM hlen]
 have hm:((List.range i.toNat).map f).length=i.toNat:=by simp
 have hxl:=hE.ev _ _ hx;rw[e2,Nat.zero_add]at hxl;have fl:=jR hE hh;have hfz:BF J' (.slice (some ⟨b,eJ p,none⟩) i.toNat n) (e.L G) (flat M7 i.toNat) ((List.range i.toNat).map f):=by
  refine⟨⟨_,_,by rw[hm]⟩,?_,λw hw=>?_⟩
  ·rw[hm]
   refine⟨M7,rfl,λj hj=>?_⟩;have e5:((List.range i.toNat).map f).getD j default=f j:=by simp[List.getD_eq_getElem?_getD,hj]
   show(e.L G).eI J' (M7 j) (((List.range i.toNat).map f).getD j default);rw[e5];exact(e.L G).mono mJ (r2 j (by omega))
  ·obtain⟨k1,k2⟩:=m3 w hw
   refine⟨by rw[hm,fM λj hj=>hlen j (by omega)], .inr ⟨b,eJ p,n,by rw[hm],k2,by rw[hm];exact g2,λj v hj=>?_⟩⟩;rw[qf k1];have hj1:j<i.toNat*(e.L G).n:=by have:=(List.getElem?_eq_some_iff.1 hj).1;rwa[fM λj hj=>hlen j (by omega)]at this
   have hj2:i.toNat*(e.L G).n<=n*(e.L G).n:=Nat.mul_le_mul_right _ g2;rw[← Rq hlen g2, ← r1, ← n2,List.getElem?_take,aiM hj1,List.getElem?_take,aiM (by omega),List.getElem?_drop]at hj;exact hj
 obtain⟨Sj,_,hs0,hm'⟩:=h'.st;have hv:rv J' ρ (.dat (.sl e) ((List.range i.toNat).map f)) (.slice (some ⟨b,eJ p,none⟩) i.toNat n):=⟨_,rfl,FB hfz⟩;have fin:∀w',aO [] w w'->next (a.put d (.slice (some ⟨b,eJ p,none⟩) i.toNat n)) w':=λw' hs=>by refine hk ρ J' Y w' _ (aY.dM _ _) mJ hv ?_;obtain⟨HS2,p1,p3⟩:=h'.hp;exact⟨h'.tm,h'.df,h'.si.ext hs,h'.fs,h'.fc,h'.kc,⟨HS2,p1,p3.ext hs⟩,h'.kn,h'.fr⟩
 rcases FP hT with h3|h3
 ·exact(MS (P:=P) (N:=N) (c:=c) hxl fl g1 g2) a.defers a w next Q hs0 fin
 ·exact(MR (P:=P) (N:=N) (c:=c) h3 hxl fl g1 g2) a.defers a w next Q hs0 fin
theorem WH{F:eu}{x y:Operand}{t e b off n i j T:Nat}{cs cs':List Value}{H':List aE}(ht:EC P t e 1=true)(hx:Bw.ev F x=some (Xa b off i n 1))(hy:Bw.ev F y=some (Xa b off j n 1))(hi:i<=n)(hj:j<=n)(hle:off+n<=cs.length)(h1:oy ((cs.drop (off+j)).take (min (n-j) (n-i))))
  (hc':bN cs (if n=i then off else off+i*1) ((cs.drop (off+j)).take (min (n-j) (n-i)))=cs')[hc:rm H b T cs][hs:Fg H b cs' H']:
  RX (α:=Unit) P N c ⟨d, .call ⟨.builtin .copy, #[x,y], #[t,t]⟩,ty,ps,af,g⟩ F H (λ_ =>True) (λ_ => .int .i64 (min (n-j) (n-i):Nat)) (λ_ =>H'):=λD a w next Q hst hk=>by
 obtain⟨inf,e1,e2,e3⟩:=se.get ht;have hb:w.heap[b]? =some (.cells cs.toArray T (0,0)):=hst.hp.holds _ hc.mem;let m:=min (n-j) (n-i);let o:=if n=i then off else off+i*1
 let src:=(cs.drop (off+j)).take m;have qQ:src.length=m:=by simp only[src,List.length_take,List.length_drop];omega
 have hoi:m≠0->o=off+i:=λhm=>by simp only[o];split<;>omega
 have aaL:∀l:Nat,(if n=l then(⟨b,off,none⟩:Addr)else⟨b,off+l*1,none⟩)=⟨b,if n=l then off else off+l*1,none⟩:=λl=>by split<;>rfl
 have hsrc:∀(q:Nat) (v:Value),src[q]? =some v->w.cell? ((⟨b,if n=j then off else off+j*1,none⟩:Addr).add q)=some v:=λq v hq=>by
  have Mj:q<m:=by have:=(List.getElem?_eq_some_iff.1 hq).1;omega
  have hnj:¬n=j:=by omega
  rw[aiN hnj,Addr.add_lit,qf (hst.hp.holds _ hc.mem)];simp only[src,List.getElem?_take,aiM Mj,List.getElem?_drop]at hq;rw[← hq,Nat.mul_one]
 have h1:oy src:=h1;have hrun:=run_copy_row (P:=P) w t t ty e b o (n-i) (n-i) ⟨b,if n=j then off else off+j*1,none⟩ (n-j) (n-j) cs.toArray T src e1 (by simp[e2,e3]) hb qQ hsrc (by
  rw[qQ,List.size_toArray];by_cases hm:m=0
  ·rw[hm];simp only[o];split<;>omega
  ·rw[hoi hm];omega) h1
 have hnew:cs.take o++src++cs.drop (o+src.length)=cs':=hc';have iG:aO [b] w (w.setRow b cs'.toArray):=⟨rfl,rfl,rfl,by simp,λk _ hk=>setRow_other w b k _ (by simpa using hk)⟩;refine dJ (by simp) (v:= .int .i64 (m:Nat)) (w':=w.setRow b cs'.toArray) ?_ (hk () _ trivial (hst.si.store hst.hp hc.mem (by simp[aE.cH]) iG) (hst.hp.abt hs iG hst.si.size ?_))
 ·have e5:(cs.toArray.toList.take o++src++cs.toArray.toList.drop (o+src.length)).toArray=cs'.toArray:=by rw[← hnew]
  rw[e5,qQ]at hrun;have sB:a.eval x= .slice (some ⟨b,o,none⟩) (n-i) (n-i):=by rw[aI hst.fr hx,Xa,aaL i]
  have YQ:a.eval y= .slice (some ⟨b,if n=j then off else off+j*1,none⟩) (n-j) (n-j):=by rw[aI hst.fr hy,Xa,aaL j]
  simp only[Nat.mul_one]at hrun YQ;simp[execOp,resolve,invoke,builtin,sB,YQ,hrun];rfl
 ·intro T' acY hT
  have:=EF (hst.hp.holds _ hc.mem) hT;obtain⟨rfl,rfl⟩:=this;have:=setRow_heap w b cs.toArray cs'.toArray T (0,0) hb;simpa[aE.holds]using this
def I2:List sq->List sq->Bool
 |[],[]=>true
 | .C6 j o::r, .C6 k q::s=>Nat.beq j k&&(Nat.beq o q&&I2 r s)
 |_,_ =>false
theorem XT:∀{p q:List sq},I2 p q=true->p=q:=by
 intro p
 induction p with
 |nil=>intro q h;cases q with
  |nil=>rfl
  |cons _ _ =>cases h
 |cons s r ih=>
  intro q h;cases s with
  |C6 j o=>
   cases q with
   |nil=>cases h
   |cons t q=>
    cases t with
    |C6 k l=>simp only[I2,aiP]at h;rw[aiO h.1,aiO h.2.1,ih h.2.2]
    |idx _ _ _ =>cases h
  |idx _ _ _ =>cases q<;>cases h
theorem Mf{k:IntKind}{n:Nat}{f:Nat->Int}{cs:List Value}(h:(LA (LI k) n).eI J cs f):cs=flat (λq=>[Value.int k (f q)]) n:=by obtain⟨g,rfl,h1⟩:=h;exact tG λi hi=>h1 i hi
theorem UG{k:IntKind}{n:Nat}{f:Nat->Int}:rv (G:=G) J ρ (.dat (.lK n (.int k)) f) (.agg (flat (λq=>[Value.int k (f q)]) n).toArray):=
 ⟨_,rfl,⟨λq=>[Value.int k (f q)],rfl,λ_ _ =>rfl⟩,λ_ =>⟨_,rfl⟩,nofun⟩
theorem Oq{k:IntKind}{f:Nat->Int}{cs:List Value}{off i j n:Nat}(hi:i<=n)(hj:j<=n)(hle:off+n<=cs.length)(hsub:(cs.drop off).take n=flat (λq=>[Value.int k (f q)]) n):
  bN cs (if n=i then off else off+i*1) ((cs.drop (off+j)).take (min (n-j) (n-i)))=bN cs off (flat (λq=>[Value.int k (cpA i j n f q)]) n):=by
 let m:=min (n-j) (n-i);let o:=if n=i then off else off+i*1
 let src:=(cs.drop (off+j)).take m;show bN cs o src=_;have qQ:src.length=m:=by simp only[src,List.length_take,List.length_drop];omega
 have hoi:m≠0->o=off+i:=λhm=>by simp only[o];split<;>omega
 have hfl:(flat (λq=>[Value.int k (cpA i j n f q)]) n).length=n:=by rw[fM (k:=1) (λq _ =>rfl)];omega
 have hcell:∀q,q<n->cs[off+q]? =some (Value.int k (f q)):=λq hq=>by
  have h5:((cs.drop off).take n)[q]? =(flat (λq=>[Value.int k (f q)]) n)[q]? :=by rw[hsub]
  rw[List.getElem?_take,aiM hq,List.getElem?_drop,Vk (λi=>rfl),aiM hq]at h5;exact h5
 refine vL λq=>?_;rw[iq (off:=o) (vs:=src) (by
  rw[qQ];by_cases hm:m=0
  ·rw[hm];simp only[o];split<;>omega
  ·rw[hoi hm];omega),iq (off:=off) (by omega),hfl,qQ]
 by_cases hin:off<=q/\q<off+n
 ·rw[aiM hin,Vk (λi=>rfl),aiM (show q-off<n by omega)]
  by_cases hm:i<=q-off/\q-off<i+m
  ·have ho:=hoi (by omega)
   rw[aiM (by omega)];simp only[cpA];rw[aiM hm];simp only[src,List.getElem?_take,List.getElem?_drop];rw[aiM (by omega),show off+j+(q-o)=off+(q-off-i+j)by omega];exact hcell _ (by omega)
  ·have hno:¬(o<=q/\q<o+m):=λhq=>by
    have ho:=hoi (by omega);omega
   rw[aiN hno];simp only[cpA];rw[aiN hm];have:=hcell (q-off) (by omega);rw[show off+(q-off)=q by omega]at this;exact this
 ·rw[aiN hin]
  have hno:¬(o<=q/\q<o+m):=λhq=>by have ho:=hoi (by omega);omega
  rw[aiN hno]
theorem Gp{r:Nat}{p:List sq}{n sz:Nat}{up:Bool}{i:Int}{u:Value}(h:rv (G:=G) J ρ (.Dz r p n sz up i) u){b:Nat}(m1:ρ r=some (dB b 0)):u=QY b (eJ p) n sz up i.toNat/\(∀s∈p,s.ok)/\i.toNat<=n:=by
 obtain⟨⟨b',o,e1,e2⟩,e3,e4⟩:=h;have eb:b'=b/\o=0:=by rcases e1 with h1|⟨n,cap,_,_,_,_,h1,_⟩<;>rw[h1]at m1<;>simp[dB]at m1;exact m1
 obtain⟨rfl,rfl⟩:=eb;rw[Nat.zero_add]at e2;exact⟨(List.cons.inj e2).1,e3,e4⟩
theorem abl{T e bt r T' n:Nat}{x y:Operand}{p p':List sq}{cc M7:AV G}{k:IntKind}{f:Nat->Int}{i j:Int}(hT:tt.te.find T=some (.sl e 1 bt))(hx:fT C S [] x=some (.Dz r p n 1 true i))(hy:fT C S [] y=some (.Dz r p' n 1 true j))(hp:I2 p p'=true)(ho:cU S.O r=some (.cH T' cc))(hl:Jr tt.F cc p=some (.dat (.lK n (.int k)) f))
  (hst:Nq tt.F cc p (.dat (.lK n (.int k)) (cpA i.toNat j.toNat n f))=some M7):
  SK P ⟨d, .call ⟨.builtin .copy, #[x,y], #[T,T]⟩,ty,ps,af,g⟩ C S {S with O:=pF S.O r (.cH T' M7)} (.int .i64 ((min (n-j.toNat) (n-i.toNat):Nat):Int)):=by
 intro c N ρ J HK X a w next Q h hk
 obtain⟨HS,h1,hs0,hm⟩:=h.st;have hE:=cQ h (ch:=[]) (by simp);obtain⟨kk,q,k1,⟨b,u,m1,rfl,m3⟩,k3⟩:=h1.set ho;obtain rfl:=XT hp;obtain⟨x1,e3,x3⟩:=Gp (hE.ok _ _ hx) m1;obtain⟨y1,_,y3⟩:=Gp (hE.ok _ _ hy) m1;have sB:=hE.ev _ _ hx;have YQ:=hE.ev _ _ hy;rw[x1,Km]at sB;rw[y1,Km]at YQ;obtain⟨u',n1,n2,n3⟩:=GF hl m3 e3;obtain⟨u2,e4,hr,_⟩:=n1;cases e4;have hfl:=Mf hr;have hsz:u'.cells.size=n:=by rw[← Array.length_toList,hfl,fM (k:=1) (λ_ _ =>rfl),Nat.mul_one]
 rw[hsz,hfl]at n2;rw[hsz]at n3;obtain⟨u3,q1,q2,q3,q4⟩:=Kc (UG (J:=J) (ρ:=ρ) (k:=k) (n:=n) (f:=cpA i.toNat j.toNat n f)) hst m3 e3;have hone:oy ((u.cells.toList.drop (eJ p+j.toNat)).take (min (n-j.toNat) (n-i.toNat))):=λv hv=>by
  obtain⟨q,hq⟩:=List.mem_iff_getElem?.1 hv;have hq1:q<min (n-j.toNat) (n-i.toNat):=by have:=(List.getElem?_eq_some_iff.1 hq).1;simp only[List.length_take]at this;omega
  rw[List.getElem?_take,aiM hq1,List.getElem?_drop]at hq;have h5:((u.cells.toList.drop (eJ p)).take n)[j.toNat+q]? =(flat (λq=>[Value.int k (f q)]) n)[j.toNat+q]? :=by rw[n2]
  rw[List.getElem?_take,aiM (by omega),List.getElem?_drop, ← Nat.add_assoc,hq,Vk (λi=>rfl),aiM (by omega)]at h5;cases h5;rfl
 have Ib:=qe (m:=HK++X) k1;haveI:rm (HS++(HK++X)) b T' u.cells.toList:=⟨List.mem_of_getElem? Ib⟩;haveI:Fg (HS++(HK++X)) b u3.cells.toList (HS.set kk (.cells b T' u3.cells.toList)++(HK++X)):=⟨kk,T',_,Ib,by rw[uk k1]⟩;refine WH (cs:=u.cells.toList) (cs':=u3.cells.toList) (tt.sl hT).1.ok sB YQ x3 y3 (by simpa using n3) hone ?_ a.defers a w next Q hs0 λ_ w' _ hs hp=>?_
 ·rw[q2]
  exact Oq x3 y3 (by simpa using n3) n2
 ·exact hk ρ J [] w' _ (aY.dM _ _) (λ_ h=>h) rfl (h.Ad (k3 (.cH T' M7) _ ⟨b,u3,m1,rfl,q1⟩) hs hp)
theorem ZA{e:Nat}{k:IntKind}(h:CH P e k=true):(P.info? e).bind (·.zero)=some (.int k 0):=by
 unfold CH at h;split at h
 ·rename_i k' n h1
  simp only[aiP,beq_iff_eq]at h;obtain rfl:=GM h.1;rw[h1,h.2]
 ·cases h
theorem abm{T e bt r T' n:Nat}{x:Operand}{p:List sq}{cc M7:AV G}{k:IntKind}{f:Nat->Int}{i:Int}(hT:tt.te.find T=some (.sl e 1 bt))(hx:fT C S [] x=some (.Dz r p n 1 false i))(hi:Nat.beq i.toNat n=true)(hn:Nat.blt 0 n=true)(ho:cU S.O r=some (.cH T' cc))(hl:Jr tt.F cc p=some (.dat (.lK n (.int k)) f))(hz:CH P e k=true)
  (hst:Nq tt.F cc p (.dat (.lK n (.int k)) (λ_ =>(0:Int)))=some M7):
  SK P ⟨d, .call ⟨.builtin .clear, #[x], #[T]⟩,ty,ps,af,g⟩ C S {S with O:=pF S.O r (.cH T' M7)} (.jy .nil):=by
 intro c N ρ J HK X a w next Q h hk
 obtain⟨HS,h1,hs0,hm⟩:=h.st;have hE:=cQ h (ch:=[]) (by simp);obtain⟨kk,q,k1,⟨b,u,m1,rfl,m3⟩,k3⟩:=h1.set ho;obtain⟨x1,e3,x3⟩:=Gp (hE.ok _ _ hx) m1;have sB:=hE.ev _ _ hx;rw[x1,Ca,aiO hi]at sB;obtain⟨u',n1,n2,n3⟩:=GF hl m3 e3;obtain⟨u2,e4,hr,_⟩:=n1;cases e4;have hfl:=Mf hr;have hsz:u'.cells.size=n:=by rw[← Array.length_toList,hfl,fM (k:=1) (λ_ _ =>rfl),Nat.mul_one]
 rw[hsz]at n3;obtain⟨u3,q1,q2,q3,q4⟩:=Kc (UG (J:=J) (ρ:=ρ) (k:=k) (n:=n) (f:=λ_ =>(0:Int))) hst m3 e3;have Ib:=qe (m:=HK++X) k1;haveI:rm (HS++(HK++X)) b T' u.cells.toList:=⟨List.mem_of_getElem? Ib⟩;haveI:Fg (HS++(HK++X)) b u3.cells.toList (HS.set kk (.cells b T' u3.cells.toList)++(HK++X)):=⟨kk,T',_,Ib,by rw[uk k1]⟩;have tz:OI P e (.int k 0):=⟨ZA hz⟩;refine WJ (cs:=u.cells.toList) (cs':=u3.cells.toList) (z:= .int k 0) (tt.sl hT).1.ok tz rfl rfl sB (by simpa[Nat.blt_eq]using hn) (by simpa using n3) ?_ a.defers a w next Q hs0 λ_ w' _ hs hp=>?_
 ·rw[q2, ← yF]
  rfl
 ·exact hk ρ J [] w' _ (aY.dM _ _) (λ_ h=>h) ⟨[],rfl,rfl⟩ (h.Ad (k3 (.cH T' M7) _ ⟨b,u3,m1,rfl,q1⟩) hs hp)
end Go.Rw
namespace Go.Bw
open Go Go.RowKit
def Apt(H:List aE)(w w':World):Prop:=w.heap.size<=w'.heap.size/\∀b,b<w.heap.size->b∉bz H->w'.heap[b]? =w.heap[b]?
theorem RL{P:Program}{N:Nat}{c:Cx}{D:List Deferred}{Q:Exit->Act->World->Prop}{H:List aE}{g:Operand}{ps:List Nat}{assign body:Code}
  {gf n:Nat}{caps:Array Value}{Hc Ho:List aE}{tT:Nat->List Value}{α β:Type}
  {a:Act}{w:World}(hst:St N c D [] H a w)(hro:c.ro=none)(hg:a.eval g= .func (.func gf) #[] caps)(hen:∀args w,(callFunc gf args).run P w= .ok (.enter gf args) w)
  (hit:∀(ly:Nat) (J:Nat->List Nat->World->Prop) (Jx:List Nat->World->Prop) (bs:List Nat) (W1:World),Apt H w W1->(∀b∈bs,b∈bz H\/w.heap.size<=b)->bC (bs++bz Hc) W1.heap.size (.ext bs (J 0 bs)::Hc) W1->Rnd P ly (bs++bz Hc) W1 J Jx tT n->
   Calls P gf (.func (.yield ly) #[] #[]::caps.toList).toArray W1 λe w'=>∃x:Bool×List Nat,e= .returned (.tuple #[])/\aO (bs++bz Hc) W1 w'/\bC (bs++bz Hc) W1.heap.size (.ext x.2 (bif x.1 then J n x.2 else Jx x.2)::Ho) w')(hlen:∀k,(tT k).length=ps.length)(hps:ps.all (Nat.blt · N)=true)
  (p:Nat->α->Prop)(I:Nat->α->List aE)(px:Code->β->Prop)(X:β->List aE)(i0:α)(N5:p 0 i0)(hH:H=Hc++I 0 i0)
  (hbody:∀(k:Nat) (i:α) (rec:Loop) (bs:List Nat) (W:World),k<n->p k i->rec.state= .ready->rec.pending=none->c.w0.heap.size<=W.heap.size->
   (∀b,(b∈bs\/W.heap.size<=b)->(b∈c.bs\/c.w0.heap.size<=b))->Apt H w W->bC bs W.heap.size (.obj w.heap.size (.deferred (some [])):: .obj (w.heap.size+1) (.loop rec)::I k i) W->
   assign.wpIn (FA (some (w.heap.size+1))) 0 P (adE P (w.heap.size+1) body (WA ⟨some (w.heap.size+1),W,bs⟩ (JW c.w0.heap.size c.bs (p (k+1)) (λi=> .obj w.heap.size (.deferred (some [])):: .obj (w.heap.size+1) (.loop rec)::I (k+1) i))
    (JW c.w0.heap.size c.bs (λq:Code×β=>px q.1 q.2) (λq=> .obj w.heap.size (.deferred (some [])):: .obj (w.heap.size+1) (.loop {rec with state:= .done,pending:=some q.1})::X q.2))))
    {tmps:=(ps.zip (tT k)).foldl (λt q=>t.setIfInBounds q.1 q.2) a.tmps,defers:=[]} W)
  (hdone:∀i w2,p n i->Apt H w w2->St N c (mark w.heap.size::D) [] (.obj w.heap.size (.deferred (some []))::(Ho++I n i)) {a with defers:=mark w.heap.size::a.defers} w2->Q .normal {a with defers:=mark w.heap.size::a.defers} w2)
  (afS:∀j i w2,px j i->Apt H w w2->St N c (mark w.heap.size::D) [] (.obj w.heap.size (.deferred (some []))::(Ho++X i)) {a with defers:=mark w.heap.size::a.defers} w2->j.wpIn (FA c.ro) 0 P Q {a with defers:=mark w.heap.size::a.defers} w2):
  (Code.rangeFunc g ps.toArray assign body).wpIn (FA c.ro) 0 P Q a w:=by
 refine wpIn_rangeFunc λfn _ =>?_;have uV:(FA c.ro).round=none:=hro;rw[uV];obtain⟨rec,bD⟩:∃rec:Loop,rec={state:= .ready,pending:=none,fn,tmps:=a.tmps,params:=ps.toArray,assign,body,defers:=w.heap.size}:=⟨_,rfl⟩;obtain⟨W1,Y6⟩:∃W1,(w.alloc (.deferred (some []))).alloc (.loop rec)=W1:=⟨_,rfl⟩;have hs1:aO [] w W1:=by rw[← Y6];exact(aO.alloc w _).ext (aO.alloc _ _)
 have aiC:W1.heap.size=w.heap.size+2:=by rw[← Y6];simp
 have hL1:W1.heap[w.heap.size+1]? =some (.loop rec):=by rw[← Y6];have:=World.alloc_heap_new (w.alloc (.deferred (some []))) (.loop rec);rwa[World.size_alloc]at this
 have hK1:W1.heap[w.heap.size]? =some (.deferred (some [])):=by rw[← Y6];exact(Below.heap_alloc _ _ _ (by simp)).trans (World.alloc_heap_new w _)
 have hev:=hg;have hfr:=hst.fr;let J:Nat->List Nat->World->Prop:=λk=>JW c.w0.heap.size c.bs (p k) (λi=> .obj w.heap.size (.deferred (some [])):: .obj (w.heap.size+1) (.loop rec)::I k i);let Jx:List Nat->World->Prop:=JW c.w0.heap.size c.bs (λq:Code×β=>px q.1 q.2) (λq=> .obj w.heap.size (.deferred (some [])):: .obj (w.heap.size+1) (.loop {rec with state:= .done,pending:=some q.1})::X q.2);have afJ:bC c.bs c.w0.heap.size (Hc++I 0 i0) W1:=by rw[← hH];exact hst.hp.ext hs1
 have hH1:bC c.bs c.w0.heap.size (.obj w.heap.size (.deferred (some [])):: .obj (w.heap.size+1) (.loop rec)::(Hc++I 0 i0)) W1:=by
  have hlt:∀s∈Hc++I 0 i0,∀b∈s.cH,b<w.heap.size:=λs hs b hb=>by
   have hm:s∈H:=by rw[hH];exact hs
   exact(hst.hp.own s hm b hb).2
  have aiB:=hst.si.size;refine bC.cons (bC.cons afJ hL1 ?_ ?_) hK1 ?_ ?_
  ·intro b hb;have e:b=w.heap.size+1:=by simpa[aE.cH]using hb
   subst e;exact⟨.inr (by omega),by omega⟩
  ·intro s hs b hb nr
   have e:b=w.heap.size+1:=by simpa[aE.cH]using hb
   have:=hlt s hs b nr;omega
  ·intro b hb;have e:b=w.heap.size:=by simpa[aE.cH]using hb
   subst e;exact⟨.inr (by omega),by omega⟩
  ·intro s hs b hb nr
   have e:b=w.heap.size:=by simpa[aE.cH]using hb
   rcases List.mem_cons.1 hs with rfl|hs
   ·have e2:b=w.heap.size+1:=by simpa[aE.cH]using nr
    omega
   ·have:=hlt s hs b nr;omega
 let I0:List aE:= .obj w.heap.size (.deferred (some [])):: .obj (w.heap.size+1) (.loop rec)::I 0 i0;have hHI:bC c.bs c.w0.heap.size I0 W1:=hH1.sub (by
  refine List.Sublist.cons_cons _ (List.Sublist.cons_cons _ (List.sublist_append_right _ _)))
 have hHc:bC c.bs c.w0.heap.size Hc W1:=hH1.sub (by
  refine List.Sublist.cons _ (List.Sublist.cons _ (List.sublist_append_left _ _)))
 have hap:∀r∈I0,∀s∈Hc,r.apart s:=by
  intro r hr s hs;have M5:=hH1.apart;rw[List.pairwise_cons,List.pairwise_cons,List.pairwise_append]at M5;obtain⟨q1,q2,_,_,q3⟩:=M5;rcases List.mem_cons.1 hr with rfl|hr
  ·exact q1 s (by simp[hs])
  ·rcases List.mem_cons.1 hr with rfl|hr
   ·exact q2 s (by simp[hs])
   ·exact aE.tN (q3 s hs r hr)
 refine⟨w.heap.size+1,[mark w.heap.size],W1,{target:= .fn (.func gf) caps,args:= #[.func (.yield (w.heap.size+1)) #[] #[]]},W1,gf,
  (Value.func (.yield (w.heap.size+1)) #[] #[]::caps.toList).toArray,W1,?_,?_,λ_ _ =>trivial,?_,λh=>by simp at h,?_⟩
 ·rw[← Y6,bD];exact run_enterLoop_outer _ _ _ _ _
 ·simp only[resolve,hev]
  simp[go_sem]
 ·have:=hen (#[.func (.yield (w.heap.size+1)) #[] #[]]++caps) W1
  simp only[invoke];rw[this];congr 2;simp
 ·have hin:bC (bz I0++bz Hc) W1.heap.size (aE.ext (bz I0) (J 0 (bz I0))::Hc) W1:=by
   refine⟨?_,?_,?_⟩
   ·intro r hr
    rcases List.mem_cons.1 hr with rfl|hr
    ·exact OO (I:=λi=> .obj w.heap.size (.deferred (some [])):: .obj (w.heap.size+1) (.loop rec)::I 0 i) i0 N5 hHI
    ·exact hHc.holds r hr
   ·intro r hr b hb
    rcases List.mem_cons.1 hr with rfl|hr
    ·obtain⟨s,hs,nr⟩:=aZ.1 hb
     exact⟨.inl (aiT _ hb),(hHI.own s hs b nr).2⟩
    ·exact⟨.inl (aiS _ (aZ.2 ⟨r,hr,hb⟩)),(hHc.own r hr b hb).2⟩
   ·refine List.pairwise_cons.2 ⟨λs hs b hb nr=>?_,hHc.apart⟩
    obtain⟨r,hr,IB⟩:=aZ.1 hb;exact hap r hr s hs b IB nr
  have UM:∀b∈bz I0++bz Hc,b∈c.bs\/c.w0.heap.size<=b:=λb hb=>by
   rcases List.mem_append.1 hb with h|h
   ·obtain⟨r,hr,IB⟩:=aZ.1 h;exact(hHI.own r hr b IB).1
   ·obtain⟨r,hr,IB⟩:=aZ.1 h;exact(hHc.own r hr b IB).1
  have ace:aO c.bs c.w0 W1:=hst.si.ext hs1;have acA:∀w',aO (bz I0++bz Hc) W1 w'->Apt H w w':=λw' hs=>⟨by have:=hs.size;omega,λb hb hnb=>by
   have h1:b∉bz I0++bz Hc:=λhm=>hnb (by
    rw[hH];rcases List.mem_append.1 hm with hm|hm
    ·obtain⟨r,hr,IB⟩:=aZ.1 hm
     rcases List.mem_cons.1 hr with rfl|hr
     ·have e:b=w.heap.size:=by simpa[aE.cH]using IB
      omega
     ·rcases List.mem_cons.1 hr with rfl|hr
      ·have e:b=w.heap.size+1:=by simpa[aE.cH]using IB
       omega
      ·exact aZ.2 ⟨r,aiS _ hr,IB⟩
    ·obtain⟨r,hr,IB⟩:=aZ.1 hm
     exact aZ.2 ⟨r,aiT _ hr,IB⟩)
   rw[hs.block b (by omega) h1];exact hs1.block b hb (by simp)⟩
  have hbI:∀b∈bz I0,b∈bz H\/w.heap.size<=b:=λb hm=>by
   obtain⟨r,hr,IB⟩:=aZ.1 hm;rcases List.mem_cons.1 hr with rfl|hr
   ·have e:b=w.heap.size:=by simpa[aE.cH]using IB
    exact .inr (by omega)
   ·rcases List.mem_cons.1 hr with rfl|hr
    ·have e:b=w.heap.size+1:=by simpa[aE.cH]using IB
     exact .inr (by omega)
    ·exact .inl (by rw[hH];exact aZ.2 ⟨r,aiS _ hr,IB⟩)
  have acy:=hit (w.heap.size+1) J Jx (bz I0) W1 (acA W1 (aO.refl _ _)) hbI hin ?_
  ·refine ju c.ro ?_
   intro cs;obtain⟨e,w2,fr,⟨x,he,afB,hh2⟩,N1,GO⟩:=acy cs;refine⟨e,w2,fr,?_,N1,GO⟩;subst he;obtain⟨go,bs'⟩:=x;have afA:aO c.bs c.w0 w2:=ace.trans afB UM;have hex:=hh2.holds _ (List.mem_cons_self);have ah2:∀r∈Ho,r.holds w2:=λr hr=>hh2.holds r (aiY _ hr);have ah1:∀s∈Ho,∀b∈bs',b∉s.cH:=λs hs b hb=>by have:=hh2.apart;rw[List.pairwise_cons]at this;exact this.1 s hs b hb
   have both:∀(IL:List aE) (jump:Option Code) (st:LoopState),st≠ .busy->bs'=bz (.obj w.heap.size (.deferred (some [])):: .obj (w.heap.size+1) (.loop {rec with state:=st,pending:=jump})::IL)->
     bC c.bs c.w0.heap.size (.obj w.heap.size (.deferred (some [])):: .obj (w.heap.size+1) (.loop {rec with state:=st,pending:=jump})::IL) w2->
     ∃w4,(Instr.endLoop (w.heap.size+1)).run P w2= .ok jump w4/\Apt H w w4/\St N c (mark w.heap.size::D) [] (.obj w.heap.size (.deferred (some []))::(Ho++IL)) {a with defers:=mark w.heap.size::a.defers} w4:=by
    intro IL jump st acd nr hI;have hl:w2.heap[w.heap.size+1]? =some (.loop {rec with state:=st,pending:=jump}):=hI.holds (.obj (w.heap.size+1) _) (by simp);have Cy:bC c.bs c.w0.heap.size (.obj w.heap.size (.deferred (some [])):: .obj (w.heap.size+1) (.loop {rec with state:=st,pending:=jump})::(Ho++IL)) w2:=by
     have hq:=hI.apart;rw[List.pairwise_cons,List.pairwise_cons]at hq;refine⟨?_,?_,?_⟩
     ·intro r hr
      rcases List.mem_cons.1 hr with rfl|hr
      ·exact hI.holds _ (by simp)
      ·rcases List.mem_cons.1 hr with rfl|hr
       ·exact hI.holds _ (by simp)
       ·rcases List.mem_append.1 hr with h|h
        ·exact ah2 r h
        ·exact hI.holds r (by simp[h])
     ·intro r hr b hb
      rcases List.mem_cons.1 hr with rfl|hr
      ·exact hI.own _ (by simp) b hb
      ·rcases List.mem_cons.1 hr with rfl|hr
       ·exact hI.own _ (by simp) b hb
       ·rcases List.mem_append.1 hr with h|h
        ·obtain⟨o,lt⟩:=hh2.own r (aiY _ h) b hb
         exact⟨o.elim (UM b) (λo=> .inr (Nat.le_trans ace.size o)),lt⟩
        ·exact hI.own r (by simp[h]) b hb
     ·have hcI:∀r,r∈(aE.obj w.heap.size (.deferred (some [])):: .obj (w.heap.size+1) (.loop {rec with state:=st,pending:=jump})::IL)->∀s∈Ho,r.apart s:=λr hr s hs b hb Ic=>ah1 s hs b (by rw[nr];exact aZ.2 ⟨r,hr,hb⟩) Ic
      refine List.pairwise_cons.2 ⟨λs hs=>?_,List.pairwise_cons.2 ⟨λs hs=>?_,List.pairwise_append.2 ⟨(List.pairwise_cons.1 hh2.apart).2,hq.2.2,λs hs r hr=>aE.tN (hcI r (by simp[hr]) s hs)⟩⟩⟩
      ·rcases List.mem_cons.1 hs with rfl|hs
       ·exact hq.1 _ (by simp)
       ·rcases List.mem_append.1 hs with h|h
        ·exact hcI _ (by simp) s h
        ·exact hq.1 s (by simp[h])
      ·rcases List.mem_append.1 hs with h|h
       ·exact hcI _ (by simp) s h
       ·exact hq.2.1 s h
    have KI:St N c (mark w.heap.size::D) [] (.obj w.heap.size (.deferred (some [])):: .obj (w.heap.size+1) (.loop {rec with state:=st,pending:=jump})::(Ho++IL)) {a with defers:=mark w.heap.size::a.defers} w2:=
     ⟨hst.tm,hfr,by simp[hst.df],afA,Cy⟩
    have hso:RU (.obj w.heap.size (.deferred (some [])):: .obj (w.heap.size+1) (.loop {rec with state:=st,pending:=jump})::(Ho++IL)) (w.heap.size+1) (.loop {rec with state:= .exhausted,pending:=jump}) (.obj w.heap.size (.deferred (some [])):: .obj (w.heap.size+1) (.loop {rec with state:= .exhausted,pending:=jump})::(Ho++IL)):=inferInstance;have ho:RZ (.obj w.heap.size (.deferred (some [])):: .obj (w.heap.size+1) (.loop {rec with state:=st,pending:=jump})::(Ho++IL)) (w.heap.size+1) (.loop {rec with state:=st,pending:=jump}):=inferInstance;obtain⟨h3,_⟩:=KI.pF ho hso;have hap:=acA w2 afB;refine⟨_,run_endLoop hl acd,⟨by have:=hap.1;simpa[World.putObj]using this,λb hb hnb=>(World.putObj_heap_other (by omega)).trans (hap.2 b hb hnb)⟩,⟨h3.tm,h3.fr,h3.df,h3.si,h3.hp.sub ?_⟩⟩;exact List.Sublist.cons_cons _ (List.Sublist.cons _ (List.Sublist.refl _))
   cases go with
   |true=>
    obtain⟨i,YS,hI,nr⟩:=CB hex;have hrr:({rec with state:=LoopState.ready,pending:=none}:Loop)=rec:=by rw[bD]
    obtain⟨w4,h4,h4a,h5⟩:=both (I n i) none .ready (by simp) (by rw[hrr];exact nr) (by rw[hrr];exact hI);exact⟨none,w4,h4,hdone i _ YS h4a h5⟩
   |false=>obtain⟨⟨j,i⟩,YS,hI,nr⟩:=CB hex;obtain⟨w4,h4,h4a,h5⟩:=both (X i) (some j) .done (by simp) nr hI;exact⟨some j,w4,h4,afS j i _ YS h4a h5⟩
  ·
   intro k hk2 W bs hsW aiG ahW;obtain⟨i,YS,hI,nr⟩:=CB ahW;have hl:W.heap[w.heap.size+1]? =some (.loop rec):=hI.holds (.obj (w.heap.size+1) _) (by simp);have hy:=run_yield (P:=P) (args:=(tT k).toArray) hl (by rw[bD];simpa using hlen k);refine⟨_,_,_,_,hy,?_⟩;have afD:aO c.bs c.w0 W:=ace.trans hsW UM;have hsub:∀b,(b∈bz (aE.obj w.heap.size (.deferred (some [])):: .obj (w.heap.size+1) (.loop rec)::I k i)\/W.heap.size<=b)->(b∈c.bs\/c.w0.heap.size<=b):=λb hb=>by
    rcases hb with hb|hb
    ·obtain⟨r,hr,IB⟩:=aZ.1 hb;exact(hI.own r hr b IB).1
    ·exact .inr (Nat.le_trans afD.size hb)
   have hb:=hbody k i rec bs W hk2 YS (by rw[bD]) (by rw[bD]) afD.size (λb hb=>hsub b (by rw[← nr];exact hb)) (acA W hsW);have ht:=Yh (ps:=ps) (vs:=tT k) hfr hst.tm hps;have ahF:(rec.params.zip (tT k).toArray).foldl (λtmps (t,a)=>tmps.setIfInBounds t a) rec.tmps=(ps.zip (tT k)).foldl (λt q=>t.setIfInBounds q.1 q.2) a.tmps:=by rw[bD];simp
   rw[ahF];have hrf:rec.assign=assign/\rec.body=body:=by rw[bD];exact⟨rfl,rfl⟩
   rw[hrf.1,hrf.2];have hI':bC bs W.heap.size (.obj w.heap.size (.deferred (some [])):: .obj (w.heap.size+1) (.loop rec)::I k i) W:=
    ⟨hI.holds,λr hr b hb=>⟨.inl (by rw[nr];exact aZ.2 ⟨r,hr,hb⟩),(hI.own r hr b hb).2⟩,hI.apart⟩
   have uV:=roundIn_of_wpIn (F:=FA none) (n:=0) (P:=P) (l:=w.heap.size+1) (f:=rec.fn) (R:=WA ⟨some (w.heap.size+1),W,bs⟩ (J (k+1)) Jx) trivial
    (hb hI')
   refine uV.mono λe W' hr=>?_;exact hr
section rounds
variable {P:Program} {N:Nat} {c:Cx} {H:List aE} {l dd:Nat} {α β:Type} {n0:Nat} {cb:List Nat} {p:α->Prop} {I:α->List aE} {px:β->Prop} {X:β->List aE}
theorem XY{rec:Loop}{a:Act}{w:World}(hr:rec.state= .ready)(hrp:rec.pending=none)(hT:∀b,(b∈c.bs\/c.w0.heap.size<=b)->(b∈cb\/n0<=b)){JX:List Nat->World->Prop}
  (hst:St N c [] [] (.obj dd (.deferred (some [])):: .obj l (.loop {rec with state:= .busy})::H) a w)(i:α)(hp:p i)(hI:I i= .obj dd (.deferred (some [])):: .obj l (.loop rec)::H):roundPost P l (WA c (JW n0 cb p I) JX) .normal a w:=by
 obtain⟨h1,h2⟩:=hst.pF (b:=l) (o':= .loop rec) inferInstance inferInstance;have e:({{rec with state:=LoopState.busy}with state:=if(none:Option Code).isNone then LoopState.ready else .done,pending:=none}:Loop)=rec:=by cases rec;simp_all
 have hrun:=run_endRound (P:=P) none h2;rw[e]at hrun;have hh:=h1.hp;rw[← hI]at hh;refine⟨_,_,hrun,bz (I i),?_,h1.si, .inl ⟨rfl,?_⟩⟩
 ·intro b hb;exact aO.aau hh hb
 ·exact OO i hp ⟨hh.holds,λr hr b hb=>⟨hT b (hh.own r hr b hb).1,(hh.own r hr b hb).2⟩,hh.apart⟩
theorem XX{rec:Loop}{a:Act}{w:World}(hT:∀b,(b∈c.bs\/c.w0.heap.size<=b)->(b∈cb\/n0<=b)){JT:List Nat->World->Prop}{e:Exit}{j:Code}(hj:(e= .ret/\j= .ret)\/(∃id,e= .exit id/\j= .exit id))
  (hst:St N c [] [] (.obj dd (.deferred (some [])):: .obj l (.loop {rec with state:= .busy})::H) a w)(i:β)(hp:px i)(hI:X i= .obj dd (.deferred (some [])):: .obj l (.loop {rec with state:= .done,pending:=some j})::H):roundPost P l (WA c JT (JW n0 cb px X)) e a w:=by
 obtain⟨h1,h2⟩:=hst.pF (b:=l) (o':= .loop {rec with state:= .done,pending:=some j}) inferInstance inferInstance;have hrun:=run_endRound (P:=P) (some j) h2;have hh:=h1.hp;rw[← hI]at hh;have fin:∃v w',(Instr.endRound l (some j)).run P w= .ok v w'/\WA c JT (JW n0 cb px X) (.returned v) w':=by
  refine⟨_,_,hrun,bz (X i),?_,h1.si, .inr ⟨rfl,?_⟩⟩
  ·intro b hb;exact aO.aau hh hb
  ·exact OO i hp ⟨hh.holds,λr hr b hb=>⟨hT b (hh.own r hr b hb).1,(hh.own r hr b hb).2⟩,hh.apart⟩
 rcases hj with⟨rfl,rfl⟩|⟨id,rfl,rfl⟩
 ·exact fin
 ·exact fin
end rounds
end Go.Bw
namespace Go.Rw
open Go Go.Bw Go.RowKit
variable {G:Sg} {P:Program}
inductive Ex(G:Sg) where
 |jl
 |exit (i:Nat)
 |ret
 |vW (v:AV G)
inductive Cf where
 |code (c:Code)
 |ops (all:Array Oper) (l:List Oper)
 |lp (x:Code)
structure FI where
 code:Code
 N:Nat
 AH:List ResultVar
def E8(P:Program)(k:Nat):Option FI:=match P.funcs[k]? with
 |some fn=>match fn.body with
  |some code=>bif fn.name== "runtime.NumGoroutine" then none else some ⟨code,fn.ntmps,fn.results.toList⟩
  |none=>none
 |none=>none
inductive R2 where
 |cY (d:Nat)
 |via (d:Nat)
 |cap (d i:Nat)
 |frm (d i:Nat)
inductive Hn where
 |loop (l:List (R2×Sh))
 |join (l:List (R2×Sh)) (ex:List Nat)
 |J7
def Yp:Nat->List (Option Nat)->List (Option Nat)
 |0,l=>l
 |n+1,l=>none::Yp n l
def agd(C:CC G)(S:AS G)(d i:Nat):Option Nat:=match fT C S [] (.tmp d)with
 |some (.fn _ _ cap)=>match Q4 cap i with
  |some (.ptr q [])=>some q
  |_ =>none
 |_ =>none
def UF:Ob G->Bool
 | .lp _ _ _ _ _ _ =>true
 |_ =>false
def Kv:Os G->Bool
 |[]=>true
 |(_,o)::q=> !UF o&&Kv q
def frZ:List Nat->AV G->Fr G
 |k::ks, .cons v r=>(k,v)::frZ ks r
 |_,_ =>[]
def af6(C:CC G)(S:AS G)(d i:Nat):Option Nat:=match fT C S [] (.tmp d)with
 |some (.yl q)=>match cU (lH C) q with
  |some (.lp _ ks vs _ _ _)=>match cU (frZ ks vs) i with
   |some (.ptr q [])=>some q
   |_ =>none
  |_ =>none
 |_ =>none
def NM(O:Os G):Sh->AV G->List (Option Nat)
 | .box _ s, .ptr r []=>some r::(match cU O r with
  |some (.cH _ c)=>NM O s c
  |_ =>Yp (CG s) [])
 | .fn _ a c, .fn _ x y=>NM O a x++NM O c y
 | .jy a, .jy x=>NM O a x
 | .st a, .st x=>NM O a x
 | .jS _ a, .jS _ x=>NM O a x
 | .cons a c, .cons x y=>NM O a x++NM O c y
 | .part _ a c, .part _ x y=>NM O a x++NM O c y
 |s,_ =>Yp (CG s) []
def rsv(C:CC G)(S:AS G):List (R2×Sh)->Option M0
 |[]=>some ⟨[],[]⟩
 |(.cY d,s)::r=>match rsv C S r with
  |some g=>some ⟨(.cY d,s)::g.l,Yp (CG s) g.nm⟩
  |none=>none
 |(.via d,s)::r=>match fT C S [] (.tmp d),rsv C S r with
  |some (.ptr q []),some g=>some ⟨(.obj q,s)::g.l,NM S.O s (.ptr q [])++g.nm⟩
  |some (.row q),some g=>some ⟨(.obj q,s)::g.l,some q::g.nm⟩
  |_,_ =>none
 |(.cap d i,s)::r=>match agd C S d i,rsv C S r with
  |some q,some g=>some ⟨(.obj q,s)::g.l,NM S.O s (.ptr q [])++g.nm⟩
  |_,_ =>none
 |(.frm d i,s)::r=>match af6 C S d i,rsv C S r with
  |some q,some g=>some ⟨(.obj q,s)::g.l,NM S.O s (.ptr q [])++g.nm⟩
  |_,_ =>none
def L2(C:CC G)(S:AS G):List Nat->List Nat
 |[]=>[]
 |d::r=>match fT C S [] (.tmp d)with
  |some (.ptr q [])=>q::L2 C S r
  |some (.row q)=>q::L2 C S r
  |_ =>L2 C S r
def yC(O:Os G):Sh->AV G->List Nat
 | .row _ _ _, .row r=>[r]
 | .v _, .row r=>[r]
 | .box _ s, .ptr r []=>r::(match cU O r with
  |some (.cH _ c)=>yC O s c
  |_ =>[])
 | .fn _ a c, .fn _ x y=>yC O a x++yC O c y
 | .jy a, .jy x=>yC O a x
 | .st a, .st x=>yC O a x
 | .jS _ a, .jS _ x=>yC O a x
 | .cons a c, .cons x y=>yC O a x++yC O c y
 | .part _ a c, .part _ x y=>yC O a x++yC O c y
 |_,_ =>[]
def QE(C:CC G)(S:AS G):List (R2×Sh)->List Nat
 |[]=>[]
 |(.cY d,s)::r=>(match fT C S [] (.tmp d)with
  |some v=>yC S.O s v
  |none=>[])++QE C S r
 |(.via d,s)::r=>(match fT C S [] (.tmp d)with
  |some v=>yC S.O s v
  |none=>[])++QE C S r
 |(.cap d i,s)::r=>(match agd C S d i with
  |some q=>yC S.O s (.ptr q [])
  |none=>[])++QE C S r
 |(.frm d i,s)::r=>(match af6 C S d i with
  |some q=>yC S.O s (.ptr q [])
  |none=>[])++QE C S r
structure Vw(G:Sg)(L:List Ty) where
 lp:{Z:Type}->((HL G L->Option Z)->HL G L->Option Z)->Nat->HL G L->Option Z
 e0:∀{Z:Type} (B:(HL G L->Option Z)->HL G L->Option Z) (e:HL G L),lp B 0 e=none
 e1:∀{Z:Type} (B:(HL G L->Option Z)->HL G L->Option Z) (n:Nat) (e:HL G L),lp B (n+1) e=B (λe=>lp B n e) e
def lpV{Z:Type}{L:List Ty}:Option (Vw G L)->((HL G L->Option Z)->HL G L->Option Z)->Nat->HL G L->Option Z
 |some v=>v.lp
 |none=>lpE L
theorem Pk{Z:Type}{L:List Ty}{o:Option (Vw G L)}{B:(HL G L->Option Z)->HL G L->Option Z}{n:Nat}{e:HL G L}{z:Z}(h:lpV o B n e=some z):∃m,n=m+1/\B (lpV o B m) e=some z:=by
 cases o with
 |none=>exact ae7 h
 |some v=>
  cases n with
  |zero=>rw[show lpV (some v) B 0 e=none from v.e0 B e]at h;cases h
  |succ n=>exact⟨n,rfl,by rw[show lpV (some v) B (n+1) e=B (λe=>v.lp B n e) e from v.e1 B n e]at h;exact h⟩
def agz(P:Program)(k:Nat)(uU:Sh)(n:Nat)(ys:Sh){B:Type}(en:B->HL G (aM ys))(f:HL G (aM uU)->Option (List B)):Prop:=∀(ρ:aY) (J:World->Prop) (HB X:List aE) (vs:List Value) (x:HL G (aM uU)) (l:List B),f x=some l->rl J ρ (fA (λm=>m) uU x 0).1 vs->RO J ρ (fA (λm=>m) uU x 0).2.1 HB->Se G X J->ρ.fr (fA (λm=>m) uU x 0).2.2-> ∃tT:Nat->List Value,(∀(σ:aY) i y,l[i]? =some y->rl J σ (fA (λm=>m) ys (en y) 0).1 (tT i))/\(∀i,(tT i).length=n)/\ ∀(ly:Nat) (Jy:Nat->List Nat->World->Prop) (Jx:List Nat->World->Prop) (bs:List Nat) (w:World),bC (bs++(bz HB++bz X)) w.heap.size (.ext bs (Jy 0 bs)::(HB++X)) w->Rnd P ly (bs++bz HB) w Jy Jx tT l.length-> Calls P k (Value.func (.yield ly) #[] #[]::vs).toArray w λen w'=>∃x:Bool×List Nat,en= .returned (.tuple #[])/\aO (bs++bz HB) w w'/\bC (bs++bz HB) w.heap.size (.ext x.2 (bif x.1 then Jy l.length x.2 else Jx x.2)::[]) w'
structure It(P:Program)(G:Sg) where
 k:Nat
 uU:Sh
 n:Nat
 ys:Sh
 B:Type
 en:B->HL G (aM ys)
 f:HL G (aM uU)->Option (List B)
 fn:∃fn,P.funcs[k]? =some fn/\fn.body.isSome=true/\(fn.name== "runtime.NumGoroutine")=false
 ok:agz P k uU n ys en f
structure adU(P:Program)(f T n:Nat)(out:Int->List Value):Prop where
 enter:∀args w,(callFunc f args).run P w= .ok (.enter f args) w
 ret:∀b w,CallsDIn (FA none) 0 P f #[dB b 0] .returning w λen u' w'=>(∃v,en= .returned v)/\u'= .returning/\aO [] w w'
 vW:∀(b Tb:Nat) (xs:List Value) (e:Int) (w:World),xs.length=n->w.heap[b]? =some (.cells xs.toArray Tb (0,0))->CallsDIn (FA none) 0 P f #[dB b 0] (.panicking [{v:= .iface T (.int .i64 e),recovered:=false}]) w λen u' w'=>(∃v,en= .returned v)/\settle u'= .returning/\aO [b] w w'/\w'.heap[b]? =some (.cells (out e).toArray Tb (0,0))
structure Ek(P:Program)(G:Sg) where
 k:Nat
 T:Nat
 n:Nat
 out:Int->List Value
 v:Int->AV G
 hv:∀(J:World->Prop) (ρ:aY) (e:Int),∃u,rv J ρ (v e) u/\u.cells.toList=out e
 ok:adU P k T n out
structure xB(P:Program)(G:Sg) where
 tt:TT P G
 zt:ZT P G
 hint:List Nat->Nat->Option Hn
 calls:Nat->List (Ct P G)
 fu:Nat
 vw:Nat->(L:List Ty)->Option (Vw G L)
 YN:Nat->List (It P G)
 ek:Nat->List (Ek P G)
 jw:Bool
def QT:Code->Option Nat
 | .region i _ _ =>some i
 | .seq a b=>match QT a with
  |some i=>some i
  |none=>QT b
 | .cond _ a b=>match QT a with
  |some i=>some i
  |none=>QT b
 | .block _ x=>QT x
 | .loop x=>QT x
 | .scope x=>QT x
 |_ =>none
def wrO:List Oper->List Nat
 |[]=>[]
 |o::r=>match o.dst with
  |some d=>d::wrO r
  |none=>wrO r
def IT:Code->List Nat
 | .region _ ops _ =>wrO ops.toList
 | .seq a b=>IT a++IT b
 | .cond _ a b=>IT a++IT b
 | .block _ x=>IT x
 | .loop x=>IT x
 | .scope x=>IT x
 | .rangeFunc _ ps a b=>ps.toList++IT a++IT b
 |_ =>[]
def guW{Z:Type}:List Bool->Option Z->Option Z
 |[],k=>k
 |b::r,k=>gu b (guW r k)
def guG{Z:Type}(g:Bool):List Bool->Option Z->Option Z
 |[],k=>k
 |b::r,k=>gu (!g||b) (guG g r k)
def Kl(C:CC G)(S:AS G)(ch:List (Nat×Bool))(j:Nat)(b:Bool)(y z:Operand):Option (AV G):=match z,y with
 | .const (.bool false),y=>match Mx C S y,fT C S ch y with
  |some (.gd k true x),none=>match ZN x with
   |some u=>bif Nat.beq k j then some (.bool (b&&u))else none
   |none=>none
  |_,some x=>match ZN x with
   |some u=>some (.bool (b&&u))
   |none=>none
  |_,_ =>none
 |z, .const (.bool true)=>match Mx C S z,fT C S ch z with
  |some (.gd k false x),none=>match ZN x with
   |some u=>bif Nat.beq k j then some (.bool (b||u))else none
   |none=>none
  |_,some x=>match ZN x with
   |some u=>some (.bool (b||u))
   |none=>none
  |_,_ =>none
 |_,_ =>none
def NH(C:CC G)(S:AS G)(ch:List (Nat×Bool))(x y z:Operand):Option (AV G):=match fT C S ch x,x with
 |some (.kb b),_ =>fT C S ch (bif b then y else z)
 |some (.bool b), .tmp j=>Kl C S ch j b y z
 |_,_ =>none
def pvA(tt:TT P G)(zt:ZT P G)(C:CC G)(S:AS G)(ch:List (Nat×Bool)):Op->PV G
 | .pick x y z=>match NH C S ch x y z with
  |some v=>some ([],v)
  |none=>none
 | .build T parts=>TX tt zt (fT C S ch) T parts.toList
 | .slice T x lo hi mx=>match abE tt (fT C S ch) T x lo hi mx with
  |some r=>some r
  |none=>TM P tt (fT C S ch) T x lo hi mx
 | .index T x y=>match TQ P (fT C S ch) T x y with
  |some r=>some r
  |none=>pv tt (Ug C S) (fT C S ch) (.index T x y)
 | .binOp o T x y U=>match pv tt (Ug C S) (fT C S ch) (.binOp o T x y U)with
  |some r=>some r
  |none=>match fT C S ch x,fT C S ch y with
   |some a,some b=>TV tt o T a b
   |_,_ =>none
 |op=>pv tt (Ug C S) (fT C S ch) op
def vN:Nat->AV G->Fr G
 |i, .cons v r=>(i,v)::vN (i+1) r
 |_,_ =>[]
def yP:AV G->Nat
 | .cons _ r=>yP r+1
 |_ =>0
def XZ(tt:TT P G)(C:CC G)(S:AS G):ResultVar->Option (AV G)
 | .tmp t=>fT C S [] (.tmp t)
 | .cell t ty=>match fT C S [] (.tmp t)with
  |some (.ptr r [])=>match Ug C S r with
   |some (.cH _ c)=>bif vO tt ty c then some c else none
   |_ =>none
  |_ =>none
def X3(tt:TT P G)(C:CC G)(S:AS G):List ResultVar->Option (AV G)
 |[]=>some .nil
 |r::q=>match XZ tt C S r,X3 tt C S q with
  |some v,some l=>some (.cons v l)
  |_,_ =>none
def Dy(tt:TT P G)(C:CC G)(S:AS G):List ResultVar->Option (AV G)
 |[r]=>XZ tt C S r
 |l=>match X3 tt C S l with
  |some v=>some (.jy v)
  |none=>none
def ltA{Z:Type}:AV G->(AV G->Option Z)->Option Z
 | .dat t x,k=>lt x λx=>k (.dat t x)
 | .int q n,k=>lt n λn=>k (.int q n)
 | .bool b,k=>lt b λb=>k (.bool b)
 |v,k=>k v
def W9{Z:Type}(F:OP G):AV G->List sq->AV G->(AV G->Option Z)->Option Z
 |c,[],v,k=>match stW c v with
  |some c'=>ltA c' k
  |none=>none
 | .dat t x,p,v,k=>match path F p t with
  |some q=>match A7 q.m v with
   |some y=>lt (q.set x y) λx'=>k (.dat t x')
   |none=>none
  |none=>none
 | .st a, .C6 _ o::r,v,k=>match partAt a o with
  |some (_,c)=>W9 F c r v λc'=>match B7 a o c' with
   |some a'=>k (.st a')
   |none=>none
  |none=>none
 |_,_,_,_ =>none
theorem ae5{Z:Type}{v:AV G}{k:AV G->Option Z}{z:Z}(h:ltA v k=some z):k v=some z:=by cases v<;>exact h
theorem Tg{Z:Type}{F:OP G}:∀{p:List sq} {c v:AV G} {k:AV G->Option Z} {z:Z},W9 F c p v k=some z->∃c',Nq F c p v=some c'/\k c'=some z:=by
 intro p
 induction p with
 |nil=>
  intro c v k z h;have h:(match stW c v with
   |some c'=>ltA c' k
   |none=>none)=some z:=by unfold W9 at h;exact h
  split at h
  ·rename_i c' hc;exact⟨c',by unfold Nq;exact hc,ae5 h⟩
  ·cases h
 |cons s r ih=>
  intro c v k z h;cases c with
  |dat t x=>
   simp only[W9]at h;split at h
   ·rename_i q hq
    split at h
    ·rename_i y hy;exact⟨_,by simp only[Nq,hq,hy],h⟩
    ·cases h
   ·cases h
  |st a=>
   cases s with
   |C6 j o=>
    simp only[W9]at h;split at h
    ·rename_i w c1 hp
     obtain⟨c2,h1,h2⟩:=ih h;split at h2
     ·rename_i a' ha;exact⟨_,by simp only[Nq,hp,h1,ha],h2⟩
     ·cases h2
    ·cases h
   |idx _ _ _ =>simp[W9]at h
  |_ =>simp[W9]at h
def vG:AV G->Bool
 | .gd _ _ _ =>false
 |_ =>true
def Vv:List (AV G)->Os G->Option (Os G)
 |[],O=>some O
 | .ptr r []::D,O=>match cU O r with
  |some (.aux true)=>Vv D (wM O r)
  |_ =>none
 |_ ::_,_ =>none
def aeU:AV G->Option (Nat×Int)
 | .jS T (.int .i64 x)=>some (T,x)
 | .jS T (.lit .i64 x)=>some (T,x)
 |_ =>none
def isN:Option Nat->Nat->Bool
 |some m,n=>Nat.beq m n
 |none,_ =>false
def exE:Ex G->Bool
 | .jl=>true
 | .ret=>true
 |_ =>false
def nY(ek:Nat->List (Ek P G)):Ex G->List (AV G)->Os G->Option (Ex G×Os G)
 |e,[],O=>some (e,O)
 |e, .ptr r []::D,O=>match cU O r,exE e with
  |some (.aux true),true=>nY ek e D (wM O r)
  |_,_ =>none
 |e, .cons (.fn (.func k) .nil c) l::D,O=>match ek k,nB l c with
  |q::_, .cons (.ptr r []) .nil=>match cU O r with
   |some (.cH T' c0)=>bif Nat.beq q.k k&&(oz l&&oz c)then(match e with
    | .jl=>nY ek .jl D O
    | .ret=>nY ek .ret D O
    | .vW v=>(match aeU v with
     |some (T,x)=>bif Nat.beq q.T T&&isN c0.ncl q.n then nY ek .ret D (pF O r (.cH T' (q.v x)))else none
     |none=>none)
    |_ =>none)else none
   |_ =>none
  |_,_ =>none
 |_,_ ::_,_ =>none
def acS(S:AS G):Option (AS G):=match Vv S.D S.O with
 |some O=>some ⟨S.F,O,S.nx,[]⟩
 |none=>none
def HA{Z:Type}(N:Nat)(C:CC G):List Nat->AV G->AS G->(AS G->Option Z)->Option Z
 |[], .nil,S,k=>k S
 |p::ps, .cons v r,S,k=>match uQ N C (some p) v S with
  |some S'=>bif vG v then HA N C ps r S' k else none
  |none=>none
 |_,_,_,_ =>none
def flF:CC G->Fr G
 |[]=>[]
 |y::r=>y.F++flF r
def XL(g:M0)(base:Nat)(x:HL G (aM (rP g.l))):AS G:=⟨[],(Is g base x).O,(Is g base x).nx,[]⟩
def QZ(m:Nat)(S1:AS G)(O:Os G)(S:AS G):AS G:=⟨S1.F,(m, .aux true)::(S.O++O),S.nx, .ptr m []::S1.D⟩
def psN(N:Nat):List Nat->Bool
 |[]=>true
 |p::r=>Nat.blt p N&&psN N r
def Uk:List (AV G)->Bool
 |[]=>true
 |_ =>false
abbrev WT(G:Sg)(Z:Type):=(N:Nat)->(cp:List Nat)->CC G->Cf->AS G->(Ex G->AS G->Option Z)->Option Z
def fZ{Z:Type}(rec:WT G Z)(N:Nat)(cp:List Nat)(C:CC G)(all:Array Oper)(r:List Oper)(d:Option Tmp)(v:AV G)(S:AS G)(K:Ex G->AS G->Option Z):Option Z:=match uQ N C d v S with
 |some S'=>bif vG v then rec N cp C (.ops all r) S' K else none
 |none=>none
def wCt{Z:Type}(C:CC G)(O:Os G)(nx:Nat)(aiL:AV G)(fit:(ct:Ct P G)->HI G ct.s->GS G->Option Z)(frz:List Nat->List (Nat×Sh)->Option Z)(no:Option Z):List (Ct P G)->Option Z
 |[]=>no
 |ct::r=>match DM C O nx ct.s aiL with
  |some (x,g')=>fit ct x g'
  |none=>match agj C O ct.s aiL,ae0 C O ct.s aiL with
   |[],[]=>wCt C O nx aiL fit frz no r
   |b,l=>frz b l
def ctK{Z:Type}(rec:WT G Z)(N:Nat)(cp:List Nat)(C:CC G)(all:Array Oper)(r:List Oper)(d:Option Tmp)(S:AS G)(K:Ex G->AS G->Option Z)(ct:Ct P G)(x:HI G ct.s)(g':GS G):Option Z:=
 ct.cp x (λy=>match Xg (fA (NL g'.th g'.nx ct.s.nm) ct.s.cN y 0).1 with
  |some v=>fZ rec N cp C all r d v (Zu g' ct.s.cN ct.s.nm y S) K
  |none=>none) (λy=>match Xg (fA (NL g'.th g'.nx ct.s.T7) ct.s.g9 y 0).1 with
  |some v=>K (.vW v) (Zu g' ct.s.g9 ct.s.T7 y S)
  |none=>none)
def ctG{Z:Type}(rec:WT G Z)(N:Nat)(cp:List Nat)(C:CC G)(all:Array Oper)(r:List Oper)(d:Option Tmp)(S:AS G)(K:Ex G->AS G->Option Z)(j:Nat)(w g:Bool)(ct:Ct P G)(x:HI G ct.s)(no:Option Z):Option Z:=match ct.s.nm with
 |[]=>bif FD true ct.s.uU&&FD false ct.s.cN then ct.cg g x (λy=>match Xg (fA (λm=>m) ct.s.cN y 0).1 with
  |some v=>(match uQ N C d (.gd j w v) S with
   |some S'=>rec N cp C (.ops all r) S' K
   |none=>none)
  |none=>none)else no
 |_ =>no
def MN(C:CC G)(S:AS G)(ch:List (Nat×Bool)):Op->Option (Nat×AV G)
 | .call ⟨.value f,args,_⟩=>match fT C S ch f,M6 (fT C S ch) args.toList with
  |some (.fn (.func k) fst cap),some l=>bif (oz fst&&oz l)&&oz cap then some (k,nB fst (nB l cap))else none
  |_,_ =>none
 |_ =>none
def ctT{Z:Type}(tb:xB P G)(rec:WT G Z)(N:Nat)(cp:List Nat)(C:CC G)(all:Array Oper)(r:List Oper)(o:Oper)(S:AS G)(K:Ex G->AS G->Option Z)(j:Nat)(w:Bool)(no:Option Z):Option Bool->Option (Nat×AV G)->Option Z
 |some g,some (k,aiL)=>wCt C S.O S.nx aiL (λct x _ =>bif Nat.beq ct.s.k k then ctG rec N cp C all r o.dst S K j w g ct x no else none) (λb l=>rec N cp C (.ops all (o::r)) (B9 l (yU b S)) K) no (tb.calls k)
 |_,_ =>no
def O4(C:CC G)(S:AS G):List Operand->List Nat
 |[]=>[]
 |x::r=>match Mx C S x with
  |some (.row q)=>(match cU S.O q with
   |some _ =>q::O4 C S r
   |none=>O4 C S r)
  |_ =>O4 C S r
def aaS:AV G->List sq->Bool
 | .dat _ _,_ ::_ =>true
 | .st a, .C6 _ o::r=>match partAt a o with
  |some (_,c)=>aaS c r
  |none=>false
 |_,_ =>false
def ahf(C:CC G)(S:AS G)(x y:Operand):Option Nat:=match fT C S [] x,fT C S [] y with
 |some (.ptr r p),some (.row q)=>match cU S.O q,cU S.O r with
  |some (.row _ _ _ _),some (.cH _ c)=>bif aaS c p then some q else none
  |_,_ =>none
 |_,_ =>none
def lkK{Z:Type}:List (Int×Nat)->Int->(Option Nat->Option Z)->Option Z
 |[],_,c=>c none
 |(a,f)::r,k,c=>cn (k==a) (c (some f)) (lkK r k c)
theorem afh{Z:Type}{k:Int}{c:Option Nat->Option Z}{z:Z}:∀{l:List (Int×Nat)},lkK l k c=some z->c (Kb l k)=some z:=by
 intro l
 induction l with
 |nil=>exactλh=>h
 |cons p r ih=>
  obtain⟨a,f⟩:=p;intro h;simp only[lkK,Kb]at h ⊢;cases hb:(k==a)with
  |true=>rw[hb]at h;exact h
  |false=>rw[hb]at h;exact ih h
def wPv{Z:Type}(tb:xB P G)(rec:WT G Z)(N:Nat)(cp:List Nat)(C:CC G)(all:Array Oper)(r:List Oper)(o:Oper)(S:AS G)(K:Ex G->AS G->Option Z):Option Z:=match pvA tb.tt tb.zt C S [] o.op with
 |some (gs,v)=>guW gs (fZ rec N cp C all r o.dst v S K)
 |none=>match O4 C S o.op.operands.toList with
  |[]=>none
  |b=>rec N cp C (.ops all (o::r)) (yU b S) K
def aaE(tb:xB P G)(cp:List Nat)(d:Option Tmp):Bool:=match d with
 |some d=>match tb.hint cp (1000000+d)with
  |some _ =>true
  |none=>false
 |none=>false
def ac0(o:Oper)(T:Nat):List Oper->Option (Nat×List Oper)
 |⟨none, .call ⟨.builtin .clear,a,t⟩,_,_,_,none⟩::r=>match o.dst,o.guard,a.toList,t.toList with
  |some d1,none,[.tmp d2],[T2]=>bif Nat.beq d1 d2&&Nat.beq T T2 then some (d1,r)else none
  |_,_,_,_ =>none
 |_ =>none
def tyB(tb:xB P G)(e:Nat):AV G->Option Ty
 | .jD=>match tb.tt.te.find e with
  |some (.sl e2 _ _)=>(match tb.zt.z.find e2 with
   |some z2=>(match tyA z2 with
    |some t=>some (.sl t)
    |none=>none)
   |none=>none)
  |_ =>none
 |z=>tyA z
def Cu:Os G->Os G
 |[]=>[]
 |(r, .lp _ _ _ _ _ _)::q=>(r, .aux false)::Cu q
 |p::q=>p::Cu q
def abv:List TypeId->TypeId->Bool
 |[a,b],T=>Nat.beq a T&&Nat.beq b T
 |_,_ =>false
def aht(P:Program)(T:Nat):Option IntKind:=match P.underlying T with
 |some (.map k _)=>(match P.underlying k with
  |some (.int q)=>some q
  |_ =>none)
 |_ =>none
def wOp{Z:Type}(tb:xB P G)(rec:WT G Z)(N:Nat)(cp:List Nat)(C:CC G)(all:Array Oper)(r:List Oper)(o:Oper)(S:AS G)(K:Ex G->AS G->Option Z):Option Z:=match o.op with
 | .box T x=>match fT C S [] x with
  |some v=>fZ rec N cp C all r o.dst (.ptr S.nx []) {S with O:=(S.nx, .cH T v)::S.O,nx:=S.nx+1} K
  |none=>none
 | .alloc T=>match tb.zt.z.find T with
  |some v=>fZ rec N cp C all r o.dst (.ptr S.nx []) {S with O:=(S.nx, .cH T v)::S.O,nx:=S.nx+1} K
  |none=>none
 | .store T x y=>match ahf C S x y with
  |some q=>rec N cp C (.ops all (o::r)) (yU [q] S) K
  |none=>match fT C S [] x,fT C S [] y with
  |some (.ptr q p),some v=>match cU S.O q with
   |some (.cH T' c)=>bif vO tb.tt T v then W9 tb.tt.F c p v λc'=>fZ rec N cp C all r o.dst .OX {S with O:=pF S.O q (.cH T' c')} K else none
   |some (.row e sz t xs)=>bif UY p sz&&vO tb.tt T v then(match Gr tb.tt.F t p with
    |some pl=>(match A7 pl.m v with
     |some y=>lt (xs.set pl.i.toNat (pl.set (xs.getD pl.i.toNat default) y)) λzs=>fZ rec N cp C all r o.dst .OX {S with O:=pF S.O q (.row e sz t zs)} K
     |none=>none)
    |none=>none)else none
   |_ =>none
  |_,_ =>none
 | .buildSlice T n parts=>match tb.tt.te.find T with
  |some (.sl e sz _)=>match tb.zt.z.find e with
   |some z=>match tyB tb e z with
    |some t=>match elA t (fT C S []) 0 parts.toList with
     |some xs=>bif (Nat.beq xs.length n&&Nat.beq (t.L G).n sz)&&(Nat.blt 0 (n*sz)&&Nat.ble (n*sz) 16777216)then fZ rec N cp C all r o.dst (.row S.nx) {S with O:=(S.nx, .row e sz t xs)::S.O,nx:=S.nx+1} K else none
     |none=>wPv tb rec N cp C all r o S K
    |none=>match fnL (fT C S []) 0 parts.toList with
     |some vs=>bif (Nat.beq parts.size n&&Nat.beq sz 1)&&(Nat.blt 0 n&&Nat.ble n 16777216)then fZ rec N cp C all r o.dst (.Dz S.nx [] n 1 false (n:Int)) {S with O:=(S.nx, .cH e (.st vs))::S.O,nx:=S.nx+1} K else none
     |none=>none
   |none=>none
  |_ =>none
 | .makeSlice T (.tmp s) (.tmp s')=>bif Nat.beq s s' then(match mz (fT C S [] (.tmp s)),tb.tt.te.find T with
  |some (_,i,_),some (.sl e sz bt)=>(match tb.zt.z.find e with
   |some (.int k z0)=>bif Nat.beq sz 1&&Nat.blt 0 bt then gu (decide (0<=i)) (gu (gC 0 i.toNat bt) (lt (List.replicate i.toNat z0) λzs=>fZ rec N cp C all r o.dst (.row S.nx) {S with O:=(S.nx, .row e 1 (.int k) zs)::S.O,nx:=S.nx+1} K))else none
   |_ =>none)
  |_,_ =>none)else none
 | .panic x=>match fT C S [] x with
  |some (.jS t v)=>K (.vW (.jS t v)) S
  |_ =>none
 | .defer ⟨.value f,args,_⟩=>match fT C S [] f,M6 (fT C S []) args.toList,o.dst with
  |some (.fn (.func k) a c),some l,none=>bif (oz a&&oz l)&&(oz c&&xI (lH C))then rec N cp C (.ops all r) {S with D:= .cons (.fn (.func k) a c) l::S.D} K else none
  |_,_,_ =>none
 | .call ⟨.builtin .append,args,H9⟩=>match args.toList,H9.toList with
  |[x,y],[T,T']=>bif Nat.beq T T' then(match fT C S [] x,fT C S [] y,tb.tt.te.find T with
   |some (.row q),some vy,some (.sl e sz bt)=>(match cU S.O q,lsA C S vy with
    |some (.row e' sz' t xs),some l=>bif Nat.beq e' e&&Nat.beq sz' sz then(match Hv (t:=t) l.xs with
     |some ys=>gu (gC xs.length ys.length bt) (lt (xs++ys) λzs=>fZ rec N cp C all r o.dst (.row S.nx) {S with O:=(S.nx, .row e sz t zs)::wM S.O q,nx:=S.nx+1} K)
     |none=>none)else none
    |_,_ =>none)
   |some .jD,some vy,some (.sl e sz bt)=>(match lsA C S vy with
    |some l=>bif Nat.beq (l.t.L G).n sz then gu (gC 0 l.xs.length bt) (lt l.xs λzs=>fZ rec N cp C all r o.dst (.row S.nx) {S with O:=(S.nx, .row e sz l.t zs)::S.O,nx:=S.nx+1} K)else none
    |none=>none)
   |_,_,_ =>none)else none
  |_,_ =>none
 | .call ⟨.builtin .copy,args,H9⟩=>match args.toList,H9.toList with
  |[x,y],[T,_]=>(match fT C S [] x,fT C S [] y,tb.tt.te.find T with
   |some (.row q),some vy,some (.sl e sz _)=>(match cU S.O q,lsA C S vy with
    |some (.row e' sz' (.int k) xs),some l=>bif (Nat.beq e' e&&Nat.beq sz 1)&&Nat.beq sz' 1 then(match Hv (t:= .int k) l.xs with
     |some ys=>lt (ys.take xs.length++xs.drop ys.length) λzs=>fZ rec N cp C all r o.dst (.int .i64 ((min ys.length xs.length:Nat):Int)) {S with O:=pF S.O q (.row e 1 (.int k) zs)} K
     |none=>none)else none
    |_,_ =>none)
   |some (.Dz q p n 1 true i),some (.Dz q' p' n' 1 true j),some (.sl _ sz _)=>(match cU S.O q with
    |some (.cH T2 c)=>(match Jr tb.tt.F c p with
     |some (.dat (.lK m (.int k)) f)=>bif (Nat.beq q q'&&Nat.beq n n')&&((Nat.beq m n&&Nat.beq sz 1)&&(I2 p p'&&abv H9.toList T))then W9 tb.tt.F c p (.dat (.lK n (.int k)) (cpA i.toNat j.toNat n f)) λc'=>fZ rec N cp C all r o.dst (.int .i64 ((min (n-j.toNat) (n-i.toNat):Nat):Int)) {S with O:=pF S.O q (.cH T2 c')} K else none
     |_ =>none)
    |_ =>none)
   |_,_,_ =>none)
  |_,_ =>none
 | .call ⟨.builtin .clear,args,H9⟩=>match args.toList,H9.toList with
  |[x],[T]=>(match fT C S [] x,tb.tt.te.find T with
   |some (.Dz q p n 1 false i),some (.sl e sz _)=>(match cU S.O q with
    |some (.cH T2 c)=>(match Jr tb.tt.F c p with
     |some (.dat (.lK m (.int k)) _)=>bif (Nat.beq i.toNat n&&Nat.blt 0 n)&&((Nat.beq m n&&Nat.beq sz 1)&&CH P e k)then W9 tb.tt.F c p (.dat (.lK n (.int k)) (λ_ =>(0:Int))) λc'=>fZ rec N cp C all r o.dst (.jy .nil) {S with O:=pF S.O q (.cH T2 c')} K else none
     |_ =>none)
    |_ =>none)
   |_,_ =>none)
  |_,_ =>none
 | .makeMap T none=>match aht P T with
  |some q=>fZ rec N cp C all r o.dst (.mp S.nx) {S with O:=(S.nx, .fm q [] .nil)::S.O,nx:=S.nx+1} K
  |none=>none
 | .insert T x y z=>match fT C S [] x,mz (fT C S [] y),fT C S [] z with
  |some (.mp q),some (ky,k,_),some v=>(match cU S.O q with
   |some (.fm ik ks vs)=>bif (FF ky ik&&MF P T ik)&&(Ji k ks&&oz vs)then fZ rec N cp C all r o.dst .OX {S with O:=pF S.O q (.fm ik (ks++[k]) (nB vs (.cons v .nil)))} K else none
   |_ =>none)
  |_,_,_ =>none
 | .call ⟨.value f,args,_⟩=>match fT C S [] f,M6 (fT C S []) args.toList with
  |some (.fn (.func k) fst cap),some l=>wCt C S.O S.nx (nB fst (nB l cap)) (λct x g'=>bif (oz fst&&oz l)&&(oz cap&&Nat.beq ct.s.k k)then ctK rec N cp C all r o.dst S K ct x g' else none) (λb l=>rec N cp C (.ops all (o::r)) (B9 l (yU b S)) K) (match E8 P k with
   |some fi=>bif (oz fst&&oz l)&&(oz cap&&Nat.ble (yP (nB fst (nB l cap))) fi.N)then
     rec fi.N ((match o.dst with
      |some d=>d
      |none=>0)::cp) [⟨[],lH C,[]⟩] (.code fi.code) ⟨vN 0 (nB fst (nB l cap)),S.O,S.nx,[]⟩ λe S1=>match nY tb.ek e S1.D S1.O with
      |some (.vW v,O2)=>K (.vW v) {S with O:=O2,nx:=S1.nx}
      |some (.jl,O2)=>(match Dy tb.tt [⟨[],lH C,[]⟩] ⟨S1.F,O2,S1.nx,[]⟩ fi.AH with
       |some v=>fZ rec N cp C all r o.dst v {S with O:=O2,nx:=S1.nx} K
       |none=>none)
      |some (.ret,O2)=>(match Dy tb.tt [⟨[],lH C,[]⟩] ⟨S1.F,O2,S1.nx,[]⟩ fi.AH with
       |some v=>fZ rec N cp C all r o.dst v {S with O:=O2,nx:=S1.nx} K
       |none=>none)
      |_ =>none
    else none
   |none=>none) (tb.calls k)
  |some (.yl q),some l=>match cU (lH C) q with
   |some (.lp N2 ks vs ps a b)=>bif xI (lH C)then HA N2 [⟨[],Cu (lH C),[]⟩] ps l ⟨frZ ks vs,S.O,S.nx,[]⟩ λS2=>rec N2 ((match o.dst with
     |some d=>d
     |none=>0)::cp) [⟨[],Cu (lH C),[]⟩] (.code a) S2 λe1 S3=>match e1 with
     | .jl=>rec N2 ((match o.dst with
      |some d=>d
      |none=>0)::cp) [⟨[],Cu (lH C),[]⟩] (.code b) S3 λe2 S4=>match e2,S4.D with
      | .jl,[]=>fZ rec N cp C all r o.dst (.kb true) {S with O:=S4.O,nx:=S4.nx} K
      |_,_ =>none
     |_ =>none
    else none
   |_ =>none
  |_,_ =>none
 | .load T (.global g)=>match G.gt,g,o.guard with
  |some _,0,none=>bif ri P T then fZ rec N cp C all r o.dst (.mp S.nx) {S with O:=(S.nx, .gm)::S.O,nx:=S.nx+1} K else none
  |_,_,_ =>none
 | .lookup T x y true=>match fT C S [] x,mz (fT C S [] y),o.guard with
  |some (.mp q),some (ik,k,_),none=>(match Ug C S q with
   |some .gm=>(match G.gt with
    |some g0=>bif Nat.beq (Ty.bU.ik ik) (Ty.bU.ik g0.1)&&EE P T g0.1 then lkK g0.2 k λf=>fZ rec N cp C all r o.dst (abg f) S K else none
    |none=>none)
   |some (.fm qk ks vs)=>bif FF ik qk&&EE P T qk then lkF k ks vs λt=>fZ rec N cp C all r o.dst t S K else none
   |_ =>none)
  |_,_,_ =>none
 | .slice T x none (some h) none=>match fT C S [] x,mz (fT C S [] h),tb.tt.te.find T,aaE tb cp o.dst with
  |some (.row q),some (_,i,_),some (.sl e sz _),true=>match cU S.O q with
   |some (.row e' sz' t xs)=>bif Nat.beq e' e&&Nat.beq sz' sz then gu (dg i (xs.length+1)) (fZ rec N cp C all r o.dst (.row S.nx) {S with O:=(S.nx, .row e' sz' t (xs.take i.toNat))::wM S.O q,nx:=S.nx+1} K)else none
   |_ =>none
  |some (.ptr q p),some (_,i,_),_,true=>(match cU S.O q,VO P tb.tt T with
   |some (.cH _ c),some (n,_,_)=>(match Jr tb.tt.F c p with
    |some (.dat (.lK m e) f)=>bif Nat.beq m n then gu (dg i (n+1)) (fZ rec N cp C all r o.dst (.dat (.sl e) ((List.range i.toNat).map f)) {S with O:=wM S.O q} K)else none
    |_ =>none)
   |_,_ =>none)
  |_,_,_,_ =>wPv tb rec N cp C all r o S K
 | .slice T x (some lo) none none=>match ac0 o T r,fT C S [] x,mz (fT C S [] lo),tb.tt.te.find T with
  |none,some (.row q),some (_,i,_),some (.sl e sz _)=>(match cU S.O q,aaE tb cp o.dst with
   |some (.row e' sz' t xs),true=>bif Nat.beq e' e&&Nat.beq sz' sz then gu (dg i (xs.length+1)) (fZ rec N cp C all r o.dst (.row S.nx) {S with O:=(S.nx, .row e' sz' t (xs.drop i.toNat))::wM S.O q,nx:=S.nx+1} K)else none
   |_,_ =>wPv tb rec N cp C all r o S K)
  |some (d1,r2),some (.row q),some (_,i,_),some (.sl e sz _)=>(match cU S.O q,uQ N C (some d1) .OX S with
   |some (.row e' sz' (.int k) xs),some S1=>bif (Nat.beq e' e&&Nat.beq sz 1)&&(Nat.beq sz' 1&&CH P e k)then gu (dg i (xs.length+1)) (lt (xs.take i.toNat++(List.replicate (xs.length-i.toNat) (0:Int):List (Ty.T G (.int k)))) λzs=>rec N cp C (.ops all r2) {S1 with O:=pF S1.O q (.row e 1 (.int k) zs)} K)else none
   |_,_ =>wPv tb rec N cp C all r o S K)
  |_,_,_,_ =>wPv tb rec N cp C all r o S K
 |_ =>wPv tb rec N cp C all r o S K
def lY(C:CC G)(S:AS G)(l:List (Src×Sh)):AS G:=match Dt C S l with
 |some v=>yU (wP S.O (rP l) v) S
 |none=>S
def Hj(all:Array Oper)(j:Nat):Option Nat:=(all[j]?).bind (·.dst)
def OC(A:List Nat):List Nat->Nat
 |[]=>0
 |j::r=>(2^j|||A.getD j 0)|||OC A r
def Fa(ops:Array Oper):Nat->List Nat
 |0=>[]
 |k+1=>match Fa ops k with
  |A=>A++[OC A (Ak ops k)]
def y5:Nat->List Oper->List (Nat×Nat)
 |_,[]=>[]
 |i,o::r=>match o.dst with
  |some d=>(i,d)::y5 (i+1) r
  |none=>y5 (i+1) r
def nA(A:List Nat)(i j:Nat):Bool:=Nat.testBit (A.getD i 0) j
def Yl(A:List Nat)(q d:Nat):List (Nat×Nat)->Bool
 |[]=>true
 |(i,e)::r=>(!(Nat.beq e d&&Nat.blt i q)||nA A q i)&&Yl A q d r
def Q2(A:List Nat)(ws:List (Nat×Nat)):List (Nat×Nat)->Bool
 |[]=>true
 |(q,d)::r=>Yl A q d ws&&Q2 A ws r
def A5(A:List Nat)(i d:Nat):List (Nat×Nat)->Bool
 |[]=>true
 |(q,e)::r=>(!Nat.beq e d||(Nat.beq q i||(bif Nat.blt q i then nA A i q else nA A q i)))&&A5 A i d r
def RI(A:List Nat)(i d:Nat):List (Nat×Nat)->Bool
 |[]=>true
 |(q,e)::r=>(!Nat.beq e d||nA A i q)&&RI A i d r
def Xy(d:Nat):List (Nat×Nat)->Bool
 |[]=>false
 |(_,e)::r=>Nat.beq e d||Xy d r
def gdD(ws:List (Nat×Nat)):AV G->Bool
 | .gd j _ _ =>Xy j ws
 |_ =>false
def Ri(ws:List (Nat×Nat))(F:Fr G)(d:Nat):Bool:=match cU F d with
 |some v=>gdD ws v
 |none=>false
structure Lg where
 i:Nat
 r:List Nat
 a:List Nat
 o:List Nat
structure DS(G:Sg) where
 F:Fr G
 M:Os G
 nx:Nat
 lg:List Lg
def Oo:List Nat->List Nat->Bool
 |[],_ =>true
 |a::r,l=> !dm l a&&Oo r l
def Yn(A:List Nat)(i:Nat)(rd ac nw:List Nat):List Lg->Bool
 |[]=>true
 |y::r=>(nA A i y.i||(Oo (y.a++y.o) (rd++ac)&&Oo (ac++nw) (y.r++y.a)))&&Yn A i rd ac nw r
def okU(A:List Nat)(i:Nat):List Lg->Bool
 |[]=>true
 |y::r=>(nA A i y.i||(match y.a with
  |[]=>true
  |_ =>false))&&okU A i r
def unN(A:List Nat)(i:Nat):List Lg->List Nat
 |[]=>[]
 |y::r=>bif nA A i y.i then unN A i r else y.o++unN A i r
def Pf:AV G->List Nat
 | .ptr r _ =>[r]
 | .row r=>[r]
 | .Dz r _ _ _ _ _ =>[r]
 | .mp r=>[r]
 | .gd _ _ v=>Pf v
 |_ =>[]
def ur:AV G->List Nat
 | .ptr r _ =>[r]
 | .row r=>[r]
 | .Dz r _ _ _ _ _ =>[r]
 | .mp r=>[r]
 | .gd _ _ v=>ur v
 | .fn _ a c=>ur a++ur c
 | .st a=>ur a
 | .jy a=>ur a
 | .jS _ v=>ur v
 | .cons a b=>ur a++ur b
 | .part _ a b=>ur a++ur b
 |_ =>[]
def obN(M:Os G):List Nat->List Nat
 |[]=>[]
 |r::q=>match cU M r with
  |some (.cH _ c)=>ur c++obN M q
  |_ =>obN M q
def O9(M:Os G):Nat->List Nat->List Nat
 |0,l=>l
 |n+1,l=>l++O9 M n (obN M l)
def Iw(f:AV G->List Nat)(C:CC G)(S:AS G):List Operand->List Nat
 |[]=>[]
 |x::r=>match Mx C S x with
  |some v=>f v++Iw f C S r
  |none=>Iw f C S r
def iH:Os G->List Nat
 |[]=>[]
 |(k,_)::r=>k::iH r
def isQ:Op->Bool
 | .store _ _ _ =>false
 | .call ⟨.builtin .len,_,_⟩=>true
 | .call ⟨.builtin .min,_,_⟩=>true
 | .call ⟨.builtin .max,_,_⟩=>true
 | .call _ =>false
 | .box _ _ =>false
 | .alloc _ =>false
 | .panic _ =>false
 | .buildSlice _ _ _ =>false
 | .makeSlice _ _ _ =>false
 | .makeMap _ _ =>false
 | .insert _ _ _ _ =>false
 |_ =>true
def L3:AV G->List Nat
 | .row r=>[r]
 | .Dz r _ _ _ _ _ =>[r]
 | .gd _ _ v=>L3 v
 |_ =>[]
def rdF:Op->AV G->List Nat
 | .load _ _ =>Pf
 | .lookup _ _ _ _ =>Pf
 | .move _ =>λ_ =>[]
 |_ =>L3
def VP(C:CC G)(S:AS G):List Operand->Bool
 |[]=>false
 |x::r=>(match Mx C S x with
  |some (.row _)=>true
  |_ =>false)||VP C S r
def ahE(C:CC G)(S:AS G)(op:Op):Bool:=isQ op&&(match op with
 | .build _ _ => !VP C S op.operands.toList
 |_ =>true)
def af2(A:List Nat)(ws:List (Nat×Nat))(i:Nat):AV G->Bool
 | .gd j _ _ =>RI A i j ws
 |_ =>true
def abI(A:List Nat)(ws:List (Nat×Nat))(i nx:Nat)(d:Option Tmp)(F S:Fr G):Option (Fr G):=match d with
 |none=>some F
 |some d=>match cU S d with
  |some v=>bif v.lt nx&&af2 A ws i v then some ((d,v)::F)else none
  |none=>none
def rdN(O:Os G):List (Nat×Sh)->AV G->List Nat×List Nat
 |(_,s)::l, .cons (.ptr q []) p=>match rdN O l p,cU O q with
  |(rd,ac),some (.cH _ c)=>match wP O s c,U2 s c with
   |[],false=>(q::(yC O s c++rd),ac)
   |b,_ =>(yC O s c++rd,q::(b++ac))
  |(rd,ac),_ =>(rd,ac)
 |_,_ =>([],[])
def aaW(C:CC G)(O:Os G)(nx:Nat)(aiL:AV G):List (Ct P G)->Option (List Nat×List Nat)
 |[]=>none
 |ct::r=>match DM C O nx ct.s aiL,agj C O ct.s aiL,ae0 C O ct.s aiL with
  |none,[],[]=>aaW C O nx aiL r
  |_,_,_ =>match Oh (O++lH C) ct.s.LQ 0 ct.s.uU aiL with
   |some pv=>match rdN O ct.s.LQ pv with
    |(rd,ac)=>some (rd,yC O ct.s.uU aiL++ac)
   |none=>none
def agn(tb:xB P G)(C:CC G)(S:AS G)(all:Array Oper)(o:Oper):List Nat×List Nat:=bif ahE C S o.op then(Iw (rdF o.op) C S o.op.operands.toList,[])else match o.op with
 | .store _ x y=>([],Iw Pf C S [x]++Iw L3 C S [y])
 | .alloc _ =>([],[])
 | .box _ _ =>([],[])
 | .panic _ =>([],[])
 | .buildSlice _ _ _ =>([],Iw L3 C S o.op.operands.toList)
 | .call ⟨.builtin _,_,_⟩=>([],Iw L3 C S o.op.operands.toList)
 | .call ⟨.value f,x,t⟩=>match MN C S (match o.guard with
   |some (j,w)=>(match Hj all j with
    |some dj=>chain C S 8 dj w
    |none=>[])
   |none=>[]) (.call ⟨.value f,x,t⟩)with
  |some (k,aiL)=>(match aaW C S.O S.nx aiL (tb.calls k)with
   |some p=>p
   |none=>([],O9 S.O 3 (Iw ur C S o.op.operands.toList)))
  |none=>match Mx C S f with
   |some (.yl _)=>([],iH S.O)
   |_ =>([],O9 S.O 3 (Iw ur C S o.op.operands.toList))
 |_ =>([],O9 S.O 3 (Iw ur C S o.op.operands.toList))
def drS{Z:Type}(tb:xB P G)(rec:WT G Z)(N:Nat)(cp:List Nat)(C:CC G)(ops:Array Oper)(A:List Nat)(ws:List (Nat×Nat))(F0:Fr G)(D0:List (AV G))(o:Oper)(i:Nat)(T:DS G)(kn:DS G->List Nat->List Nat->Option Z)(kp:AV G->AS G->List Nat->List Nat->Option Z):Option Z:=
 match jt (λd=>A5 A i d ws) T.F with
 |Fi=>match agn tb (⟨F0,[],[]⟩::C) ⟨Fi,T.M,T.nx,[]⟩ ops o with
  |(rd,ac)=>match(⟨F0,cG (λq=>dm rd q&& !dm ac q) T.M,D0⟩:Ly G)with
   |ly=>bif xW T.nx (ly::C)&&(Uu T.nx Fi&&tS T.nx (cG (dm ac) T.M))then rec N cp (ly::C) (.ops ops [o]) ⟨Fi,cG (dm ac) T.M,T.nx,[]⟩ λe S1=>match e,S1.D with
     | .jl,[]=>bif Nat.ble T.nx S1.nx&&(tS S1.nx S1.O&&Yn A i rd ac (iH S1.O) T.lg)then(match abI A ws i S1.nx o.dst T.F S1.F with
      |some F'=>kn ⟨F',S1.O++cG (λq=> !dm ac q) T.M,S1.nx,⟨i,rd,ac,iH S1.O⟩::T.lg⟩ ac (iH S1.O)
      |none=>none)else none
     | .vW v,[]=>bif Nat.ble T.nx S1.nx&&(Yn A i rd ac [] T.lg&&(okU A i T.lg&&tS T.nx T.M))then kp v ⟨F0,S1.O++cG (λq=> !dm ac q) (cG (λq=> !dm (unN A i T.lg) q) T.M),S1.nx,D0⟩ rd ac else none
     |_,_ =>none
    else none
def aeZ:List Nat->Bool
 |[]=>true
 |_ =>false
def drP{Z:Type}(tb:xB P G)(rec:WT G Z)(N:Nat)(cp:List Nat)(C:CC G)(ops:Array Oper)(A:List Nat)(ws:List (Nat×Nat))(F0:Fr G)(D0:List (AV G))(j:Nat)(zj:List Nat)(k:Option Z):List Oper->Nat->DS G->Option Z
 |[],_,_ =>k
 |o::r,i,T=>bif nA A i j then drP tb rec N cp C ops A ws F0 D0 j zj k r (i+1) T else drS tb rec N cp C ops A ws F0 D0 o i T (λT' ac nw=>bif aeZ ac&&Oo nw zj then drP tb rec N cp C ops A ws F0 D0 j zj k r (i+1) T' else none) (λ_ _ _ _ =>none)
def drW{Z:Type}(tb:xB P G)(rec:WT G Z)(N:Nat)(cp:List Nat)(C:CC G)(ops:Array Oper)(A:List Nat)(ws:List (Nat×Nat))(F0:Fr G)(D0:List (AV G))(K:Ex G->AS G->Option Z):List Oper->Nat->DS G->Option Z
 |[],_,T=>K .jl ⟨T.F++F0,T.M,T.nx,D0⟩
 |o::r,i,T=>drS tb rec N cp C ops A ws F0 D0 o i T (λT' _ _ =>drW tb rec N cp C ops A ws F0 D0 K r (i+1) T') (λv S' rd ac=>drP tb rec N cp C ops A ws F0 D0 i (rd++ac) (K (.vW v) S') r (i+1) T)
def drR{Z:Type}(tb:xB P G)(rec:WT G Z):WT G Z:=λN cp C cf S K=>match cf with
 | .ops ops l=>match Fa ops ops.size,y5 0 ops.toList with
  |A,ws=>bif Q2 A ws ws&&(R5 ops []&&P.follows .mixedOrders)then
   (match jt (λd=> !(Xy d ws)&& !Ri ws S.F d) S.F with
   |F0=>drW tb rec N cp C ops A ws F0 S.D K l 0 ⟨jt (λd=>Xy d ws&& !Ri ws S.F d) S.F,S.O,S.nx,[]⟩)else none
 |_ =>none
def Us(ps:List Nat)(a b:Code)(C:CC G)(S1:AS G)(O:Os G):CC G:=[⟨jt (λd=> !dm (ps++(IT a++IT b)) d) (S1.F++flF C),(S1.nx+1, .aux false)::(O++lH C),[]⟩]
def rgW{Z:Type}(rec:WT G Z)(N:Nat)(cp:List Nat)(C:CC G)(ps:List Nat)(a b:Code)(S1:AS G)(K:Ex G->AS G->Option Z)(g:M0)(it:It P G)(l:List it.B)(O:Os G)(x0:HL G (aM (rP g.l))):Option Z:=
 itE (aM (rP g.l)) (λy go e=>HA N (Us ps a b C S1 O) ps (fA (λm=>m) it.ys (it.en y) 0).1 (XL g (S1.nx+2) e) λS2=>rec N cp (Us ps a b C S1 O) (.code a) S2 λe1 S3=>match e1 with
  | .jl=>rec N cp (Us ps a b C S1 O) (.code b) S3 λe2 S4=>match e2 with
   | .jl=>match GX (Us ps a b C S1 O) (lY (Us ps a b C S1 O) S4 g.l) g (S1.nx+2)with
    |some e=>go e
    |none=>none
   | .ret=>bif Uk S4.D then K .ret (QZ S1.nx S1 O S4)else none
   | .exit i=>bif Uk S4.D then K (.exit i) (QZ S1.nx S1 O S4)else none
   | .vW _ =>none
  |_ =>none) (λe=>K .jl (QZ S1.nx S1 O (XL g (S1.nx+2) e))) l x0
def rgK{Z:Type}(rec:WT G Z)(N:Nat)(cp:List Nat)(C:CC G)(ps:List Nat)(a b:Code)(k:Nat)(cap:AV G)(gl:List (R2×Sh))(S:AS G)(K:Ex G->AS G->Option Z):List (It P G)->Option Z
 |[]=>none
 |it::q=>match nt it.uU cap ⟨[],S.O,S.nx⟩with
  |none=>rgK rec N cp C ps a b k cap gl S K q
  |some (x,g1)=>match rsv C ⟨S.F,g1.O,g1.nx,S.D⟩ gl with
   |some g=>match lY C ⟨S.F,g1.O,g1.nx,S.D⟩ g.l with
    |S1=>match Dt C ⟨S1.F,S1.O,S1.nx+2,S1.D⟩ g.l with
     |some v=>match nt (rP g.l) v ⟨[],S1.O,S1.nx+2⟩with
      |some (x0,g2)=>bif (Nat.beq it.k k&&Nat.beq it.n ps.length&&xI (lH C))&&(wC g.nm g2.th&&wD (S1.nx+2) g.nm&&xW (S1.nx+2) (Us ps a b C S1 g2.O))&&((tS (S1.nx+2) g2.O&&psN N ps)&&(xW (S1.nx+2) C&&Kv (g2.O++lH C)))then bd (it.f x) λl=>rgW rec N cp C ps a b S1 K g it l g2.O x0 else none
      |none=>none
     |none=>none
   |none=>none
def frU(seen:List Nat):Fr G->List Nat×AV G
 |[]=>([], .nil)
 |(d,v)::r=>bif dm seen d|| !vG v then frU (d::seen) r else match frU (d::seen) r with
  |(ks,vs)=>(d::ks, .cons v vs)
def rgI{Z:Type}(tb:xB P G)(rec:WT G Z)(N:Nat)(cp:List Nat)(C:CC G)(ps:List Nat)(a b:Code)(k:Nat)(cap:AV G)(S:AS G)(K:Ex G->AS G->Option Z):Option Z:=match E8 P k,frU [] (S.F++flF C)with
 |some fi,(ks,vs)=>match fi.AH with
  |[]=>bif (oz cap&&Nat.ble (yP cap+1) fi.N)&&xI (lH C)then rec fi.N (998::cp) [⟨[],(S.nx+1, .lp N ks vs ps a b)::lH C,[]⟩] (.code fi.code) ⟨vN 0 (.cons (.yl (S.nx+1)) cap),(S.nx, .aux true)::S.O,S.nx+2,[]⟩ λe S1=>match nY tb.ek e S1.D S1.O with
    |some (.jl,O2)=>K .jl ⟨S.F,O2,S1.nx, .ptr S.nx []::S.D⟩
    |some (.ret,O2)=>K .jl ⟨S.F,O2,S1.nx, .ptr S.nx []::S.D⟩
    |_ =>none
   else none
  |_ =>none
 |_,_ =>none
noncomputable def step{Z:Type}(tb:xB P G)(rec:WT G Z):WT G Z:=λN cp C cf S K=>match cf with
 | .ops _ []=>K .jl S
 | .ops all (o::r)=>match o.guard with
  |none=>wOp tb rec N cp C all r o S K
  |some (j,w)=>match Hj all j with
   |some dj=>match Xi C S 8 dj w with
    |some true=>wOp tb rec N cp C all r o S K
    |some false=>(match uQ N C o.dst (.gd dj w .OX) S with
     |some S'=>rec N cp C (.ops all r) S' K
     |none=>none)
    |none=>match Oe C S 8 dj w,pvA tb.tt tb.zt C S (chain C S 8 dj w) o.op with
     |some g,some (gs,v)=>guG g gs (match uQ N C o.dst (.gd dj w v) S with
      |some S'=>rec N cp C (.ops all r) S' K
      |none=>none)
     |g,_ =>ctT tb rec N cp C all r o S K dj w (match Ju C S 8 dj with
      |some (k,b)=>cn b (rec N cp C (.ops all (o::r)) {S with F:=(k, .kb true)::S.F} K) (rec N cp C (.ops all (o::r)) {S with F:=(k, .kb false)::S.F} K)
      |none=>none) g (MN C S (chain C S 8 dj w) o.op)
   |none=>none
 | .code c=>match c with
  | .skip=>K .jl S
  | .label _ =>K .jl S
  | .ret=>K .ret S
  | .exit i=>K (.exit i) S
  | .region _ ops false=>rec N cp C (.ops ops ops.toList) S K
  | .region _ ops true=>drR tb rec N cp C (.ops ops ops.toList) S K
  | .block i x=>rec N cp C (.code x) S λe S'=>match e with
   | .exit j=>bif Nat.beq i j then K .jl S' else K (.exit j) S'
   |e=>K e S'
  | .scope x=>rec N cp C (.code x) S K
  | .cond x a b=>match fT C S [] x with
   |some (.bool t)=>cn t (rec N cp C (.code a) S K) (rec N cp C (.code b) S K)
   |some (.kb t)=>rec N cp C (.code (bif t then a else b)) S K
   |_ =>none
  | .seq x y=>match(match QT y with
    |some i=>tb.hint cp (i+i)
    |none=>none)with
   |some (.join gl ex)=>match rsv C S gl,QE C S gl++L2 C S ex with
    |some g,thr=>(match(⟨jt (λd=> !(dm (IT x) d||yR g.l d)) S.F,cG (λq=> !dm thr q) S.O,S.D⟩:Ly G),(⟨jt (λd=>dm (IT x) d||yR g.l d) S.F,cG (dm thr) S.O,S.nx,[]⟩:AS G)with
    |ly,S0=>bif xW S.nx (ly::C)then jnE tb.jw (aM (rP g.l)) (λe=>rec N cp C (.code y) (Jf ly (Is g S.nx e)) K) λj=>rec N cp (ly::C) (.code x) S0 λe S1=>match e with
       | .jl=>match GX (ly::C) (lY (ly::C) S1 g.l) g S.nx with
        |some e=>j e
        |none=>none
       |e=>K e (Jf ly S1)
     else none)
    |none,_ =>none
   |_ =>rec N cp C (.code x) S λe S'=>match e with
    | .jl=>rec N cp C (.code y) S' K
    |e=>K e S'
  | .loop x=>match(match QT x with
    |some i=>tb.hint cp (i+i+1)
    |none=>none)with
   |some (.loop gl)=>(match rsv C S gl with
    |none=>none
    |some g=>match lY C S g.l with
    |S=>match Dt C S g.l with
    |some v=>match nt (rP g.l) v ⟨[],S.O,S.nx⟩with
     |some (x0,g')=>bif wC g.nm g'.th&&wD S.nx g.nm then
       (match(⟨jt (λd=> !(dm (IT x) d||yR g.l d)) S.F,g'.O,S.D⟩:Ly G)with
       |ly=>bif xW S.nx (ly::C)then lpV (tb.vw (match QT x with
        |some i=>i
        |none=>0) (aM (rP g.l))) (λgo e=>rec N cp (ly::C) (.code x) (Is g S.nx e) λe1 S1=>match e1 with
         | .jl=>match GX (ly::C) (lY (ly::C) S1 g.l) g S.nx with
          |some e=>go e
          |none=>none
         |e1=>K e1 (Jf ly S1)) tb.fu x0
        else none)
      else none
     |none=>none
    |none=>none)
   |some .J7=>rec N cp C (.lp x) S K
   |_ =>none
  | .rangeFunc g ps a b=>match fT C S [] g,(match QT (.seq a b)with
    |some i=>tb.hint cp (i+i+1)
    |none=>none)with
   |some (.fn (.func k) .nil cap),some (.loop gl)=>rgK rec N cp C ps.toList a b k cap gl S K (tb.YN k)
   |some (.fn (.func k) .nil cap),none=>rgI tb rec N cp C ps.toList a b k cap S K
   |_,_ =>none
  |_ =>none
 | .lp x=>rec N cp C (.code x) S λe S'=>match e with
  | .jl=>rec N cp C (.lp x) S' K
  |e=>K e S'
noncomputable def W{Z:Type}(tb:xB P G):Nat->WT G Z
 |0=>λ_ _ _ _ _ _ =>none
 |n+1=>step tb (W tb n)
end Go.Rw
