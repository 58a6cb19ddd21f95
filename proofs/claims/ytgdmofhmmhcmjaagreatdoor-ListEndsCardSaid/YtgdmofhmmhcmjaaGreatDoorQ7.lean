/- Part 7 of what a proof leans on; pruned and shortened by a program out of longer texts. -/
import Derived.Test.YtgdmofhmmhcmjaaGreatDoorQ6
namespace Go.Rw
open Go Go.Bw Go.RowKit
variable {G:Sg} {P:Program} {tt:TT P G} {J:World->Prop} {ρ:aW} {a:Act} {w:World} {d:Option Tmp} {ty:TypeId} {ps:String} {af:Array Edge} {g:Option (Nat×Bool)}
 {N:Nat} {c:Cx} {H HK X:List aE} {D:List Deferred} {C:CC G} {S:AS G}
def ni:AV G->AV G->AV G
 | .cons v r,b=> .cons v (ni r b)
 |_,b=>b
def om:AV G->Bool
 | .cons _ r=>om r
 | .nil=>true
 |_ =>false
theorem ny{J:World->Prop}{ρ:aW}:∀{a b:AV G} {l m:List Value},om a=true->rl J ρ a l->rl J ρ b m->rl J ρ (ni a b) (l++m):=by
 intro a
 induction a with
 |nil=>intro b l m _ h1 h2;have:l=[]:=h1;subst this;exact h2
 |cons v r _ ih=>intro b l m hl h1 h2;obtain⟨u,r',rfl,k1,k2⟩:=h1;exact⟨u,r'++m,rfl,k1,ih hl k2 h2⟩
 |_ =>intro b l m hl;cases hl
theorem MR{T:Nat}(q:IntKind):SK P ⟨d, .makeMap T none,ty,ps,af,g⟩ C S {S with O:=(S.nx, .fm q [] .nil)::S.O,nx:=S.nx+1} (.mp S.nx):=by
 intro c N ρ J HK X a w next Q h hk
 obtain⟨HS,h1,hst,_⟩:=h.st;refine dM (by simp) (w':=w.alloc (.map #[] 0)) (v:= .map (some w.heap.size)) ?_ ?_
 ·simp[execOp,Instr.makeMap,newObj,Sem.run,Result.andThen]
 ·have xy:bA c.bs c.w0.heap.size (.obj w.heap.size (.map #[] 0)::(HS++(HK++X))) (w.alloc (.map #[] 0)):=hst.hp.fresh (aO.alloc _ _) (by show(w.heap.push _)[w.heap.size]? =_;simp) hst.si.size (λb hb=>by
   have e:b=w.heap.size:=by simpa[aE.cG]using hb
   subst e;exact⟨Nat.le_refl _,by simp⟩)
  exact hk (ρ.set S.nx (.map (some w.heap.size))) J [] _ _ (aW.j8 _ _ _) (λ_ h=>h) ⟨_,aW.ic _ _ _,rfl,rfl,rfl⟩ (h.new h1 (hst.si.ext (aO.alloc _ _)) xy ⟨_,_,_,[],aW.ic _ _ _,rfl,⟨rfl,by simp,by simp⟩,rfl,rfl⟩)
def IJ(k:Int):List Int->Bool
 |[]=>true
 |a::r=> !(k==a)&&IJ k r
theorem Le{k:Int}:∀{ks:List Int} {us:List Value},IJ k ks=true->fG (ks.zip us) k=none:=by
 intro ks
 induction ks with
 |nil=>intro us _;rfl
 |cons a r ih=>
  intro us h;simp only[IJ,aid,Bool.not_eq_true']at h;cases us with
  |nil=>rfl
  |cons u us=>simp only[List.zip_cons_cons,fG,h.1,cond_false,ih h.2,Option.map_none]
def LX(P:Program)(T:Nat)(q:IntKind):Bool:=match P.underlying T with
 |some (.map k _)=>(match P.underlying k with
  |some (.int q')=>Nat.beq (Ty.bU.ik q) (Ty.bU.ik q')
  |_ =>false)
 |_ =>false
theorem YJ{T:Nat}{q:IntKind}(h:LX P T q=true):∃k e,P.underlying T=some (.map k e)/\P.underlying k=some (.int q):=by
 unfold LX at h;split at h
 ·rename_i k e h1
  split at h
  ·rename_i q' h2
   obtain rfl:=Gf h;exact⟨k,e,h1,h2⟩
  ·cases h
 ·cases h
theorem TD{r b:Nat}{u:Value}(h:rv (G:=G) J ρ (.mp r) u)(m:ρ r=some (.map (some b))):u= .map (some b):=by obtain⟨u',u1,u2,_⟩:=h;rw[m]at u1;cases u1;exact(List.cons.inj u2).1
theorem P9{T r:Nat}{x y z:Operand}{q ky:IntKind}{k:Int}{ql:Bool}{ks:List Int}{vs v:AV G}(hx:fQ C S [] x=some (.mp r))(hy:l7 (fQ C S [] y)=some (ky,k,ql))(hz:fQ C S [] z=some v)(ho:cQ S.O r=some (.fm q ks vs))(hq:Fb ky q=true)(hT:LX P T q=true)(hn:IJ k ks=true)(hl:om vs=true):
  SK P ⟨d, .insert T x y z,ty,ps,af,g⟩ C S {S with O:=pc S.O r (.fm q (ks++[k]) (ni vs (.cons v .nil)))} .Ok:=by
 intro c N ρ J HK X a w next Q h hk
 obtain⟨HS,h1,hs0,hm⟩:=h.st;have hE:=cL h (ch:=[]) (by simp);obtain⟨kk,x0,k1,⟨b,es,ck,us,m1,rfl,m3,m4,m5⟩,k3⟩:=h1.set ho;obtain rfl:=yo hq;obtain⟨kt,e,t1,t2⟩:=YJ hT;have rW:=hE.ev _ _ hx;rw[TD (hE.ok _ _ hx) m1]at rW;have XX:=jO hE hy;have hz2:=hE.ev _ _ hz;have HA:=pX (m:=HK++X) k1;have hd:w.heap[b]? =some (.map es ck):=hs0.hp.holds _ (List.mem_of_getElem? HA);have hf:=nq (k:=k) w t2 m3;rw[Le hn]at hf;have hc:∀em,(Instr.checkKey em 10000 kt (.int ky k)).run P w= .ok () w:=λem=>MapKept.run_checkKey (k:= .int ky k) t2 (show ky=ky from rfl) em 9999;haveI:Rd (HS++(HK++X)) b (.map es ck):=⟨List.mem_of_getElem? HA⟩;haveI:Ra (HS++(HK++X)) b (.map (es.push ⟨.int ky k,a.eval z,ck⟩) (ck+1)) (HS.set kk (.obj b (.map (es.push ⟨.int ky k,a.eval z,ck⟩) (ck+1)))++(HK++X)):=⟨kk,_,HA,by rw[tN k1]⟩;obtain⟨p1,_⟩:=hs0.pc (b:=b) (o:= .map es ck) (o':= .map (es.push ⟨.int ky k,a.eval z,ck⟩) (ck+1)) inferInstance inferInstance;refine nY (by simp) (w':=w.putObj b (.map (es.push ⟨.int ky k,a.eval z,ck⟩) (ck+1))) ?_ ?_
 ·simp[execOp,aI hs0.fr rW,aI hs0.fr XX,Instr.mapUpdate,run_underlying t1,MapKept.run_getObj_map hd,hc,hf,MapKept.run_setObj_map _ hd,Result.andThen,World.putObj]
 ·refine hk ρ J [] _ undef (aW.dG _ _) (λ_ h=>h) ⟨_,rfl⟩ (h.BE (k3 _ _ ⟨b,_,_,us++[a.eval z],m1,rfl,?_,ny hl m4 ⟨_,[],rfl,hE.ok _ _ hz,rfl⟩,by simp[m5]⟩) p1.si p1.hp)
  rw[List.zip_append (by rw[m5])];exact m3.push k (a.eval z)
def lkF{Z:Type}(k:Int):List Int->AV G->(AV G->Option Z)->Option Z
 |a::r, .cons v b,c=>cn (k==a) (c (.jP (.cons v (.cons (.kb true) .nil)))) (lkF k r b c)
 |[], .nil,c=>c (.jP (.cons .od (.cons (.kb false) .nil)))
 |_,_,_ =>none
theorem aeG{Z:Type}{k:Int}{c:AV G->Option Z}{z:Z}:∀{ks:List Int} {vs:AV G},lkF k ks vs c=some z->∃t,c t=some z/\∀(J:World->Prop) (ρ:aW) (us:List Value),rl J ρ vs us->rv J ρ t (.tuple #[nL (ks.zip us) k .nilFunc, .bool (po (ks.zip us) k)]):=by
 intro ks
 induction ks with
 |nil=>
  intro vs h;cases vs<;>simp only[lkF]at h<;>first|cases h|skip
  exact⟨_,h,λJ ρ us _ =>⟨[.nilFunc, .bool false],rfl,_,_,rfl,rfl,_,_,rfl,rfl,rfl⟩⟩
 |cons a r ih=>
  intro vs h;cases vs<;>simp only[lkF]at h<;>first|cases h|skip
  rename_i v b;cases hb:(k==a)with
  |true=>
   rw[hb]at h;refine⟨_,h,λJ ρ us hu=>?_⟩;obtain⟨u,us',rfl,h1,h2⟩:=hu;have e1:nL ((a::r).zip (u::us')) k .nilFunc=u:=by simp[nL,fG,hb]
   have e2:po ((a::r).zip (u::us')) k=true:=by simp[po,fG,hb]
   rw[e1,e2];exact⟨[u, .bool true],rfl,_,_,rfl,h1,_,_,rfl,rfl,rfl⟩
  |false=>
   rw[hb]at h;obtain⟨t,t1,t2⟩:=ih h;refine⟨t,t1,λJ ρ us hu=>?_⟩;obtain⟨u,us',rfl,h1,h2⟩:=hu;have e1:nL ((a::r).zip (u::us')) k .nilFunc=nL (r.zip us') k .nilFunc:=by simp only[List.zip_cons_cons,nL,fG,hb,cond_false,Option.map_map];rfl
   have e2:po ((a::r).zip (u::us')) k=po (r.zip us') k:=by simp only[List.zip_cons_cons,po,fG,hb,cond_false,Option.isSome_map]
   rw[e1,e2];exact t2 J ρ us' h2
theorem Sr{T r:Nat}{x y:Operand}{q ky:IntKind}{k:Int}{ql:Bool}{ks:List Int}{vs t:AV G}(hx:fQ C S [] x=some (.mp r))(hy:l7 (fQ C S [] y)=some (ky,k,ql))(ho:Tt C S r=some (.fm q ks vs))(hq:Fb ky q=true)(hT:Ef P T q=true)
  (ht:∀(J:World->Prop) (ρ:aW) (us:List Value),rl J ρ vs us->rv J ρ t (.tuple #[nL (ks.zip us) k .nilFunc, .bool (po (ks.zip us) k)])):SK P ⟨d, .lookup T x y true,ty,ps,af,g⟩ C S S t:=by
 intro c N ρ J HK X a w next Q h hk
 obtain⟨HS,h1,hs0,hm⟩:=h.st;have hE:=cL h (ch:=[]) (by simp);obtain⟨x0,hx0,⟨b,es,ck,us,m1,rfl,m3,m4,m5⟩⟩:=hm.ob r _ ho;obtain rfl:=yo hq;have rW:=hE.ev _ _ hx;rw[TD (hE.ok _ _ hx) m1]at rW;have XX:=jO hE hy;unfold Ef at hT;split at hT
 ·rename_i kt e hu
  simp only[aid]at hT;obtain⟨Qy,Wg⟩:=hT;split at Qy
  ·rename_i q' hk'
   obtain rfl:=Gf Qy;split at Wg
   ·rename_i hz
    have tm:EK P T kt e ky:=⟨hu,hk'⟩;have tz:N1 P e ((λv:Value=>v) .nilFunc):=⟨hz⟩;refine(aH (P:=P) (F:=mT a) (H:=HS++(HK++X)) (by simp) λa' w' Uf _ hp=>?_ :VS P N c _ _ _ (.tuple #[nL (ks.zip us) k .nilFunc, .bool (po (ks.zip us) k)])) a.defers a w next Q hs0 λw' hs=>?_
    ·have hd:w'.heap[b]? =some (.map es ck):=hp.holds _ hx0
     simp[execOp,aI Uf rW,aI Uf XX,oH (E:=λv:Value=>v) w' tm tz ⟨es,ck,hd,m3⟩,Result.andThen]
    ·exact hk ρ J [] w' _ (aW.dG _ _) (λ_ h=>h) (ht J ρ us m4) (by
      obtain⟨HS2,p1,p3⟩:=h.hp;exact⟨h.tm,h.df,h.si.ext hs,h.fs,h.fc,h.kc,⟨HS2,p1,p3.ext hs⟩,h.kn,h.fr⟩)
   ·cases Wg
  ·cases Qy
 ·cases hT
def fnL(E:Operand->Option (AV G)):Nat->List (Nat×Operand)->Option (AV G)
 |_,[]=>some .nil
 |k,(i,x)::r=>bif Nat.beq i k then(match E x with
  |some v=>bif v.one then(match fnL E (k+1) r with
   |some l=>some (.part 1 v l)
   |none=>none)else none
  |none=>none)else none
theorem ab1{E:Operand->Option (AV G)}(hE:y5 J ρ a E):∀{l:List (Nat×Operand)} {k:Nat} {vs:AV G},fnL E k l=some vs->∃us:List Value,CD (mT a) (l.map (·.2))=some us/\l.map (·.1)=List.range' k us.length/\us.length=l.length/\rl J ρ vs us/\∀u∈us,u.cells= #[u]/\u.oneCell'=true:=by
 intro l
 induction l with
 |nil=>intro k vs h;cases h;exact⟨[],rfl,rfl,rfl,rfl,nofun⟩
 |cons p r ih=>
  obtain⟨i,x⟩:=p;intro k vs h;unfold fnL at h;cases hb:Nat.beq i k with
  |false=>rw[hb]at h;cases h
  |true=>
   rw[hb]at h;simp only[cond_true]at h;split at h
   ·rename_i v hx
    cases h1:v.one with
    |false=>rw[h1]at h;cases h
    |true=>
     rw[h1]at h;simp only[cond_true]at h;split at h
     ·rename_i l' hl
      cases h;obtain⟨us,m1,m2,m3,m4,m5⟩:=ih hl;have hv:=hE.ok _ _ hx;obtain⟨c1,c2⟩:=Dc h1 hv;refine⟨a.eval x::us,by simp only[List.map_cons,CD,hE.ev _ _ hx,m1],?_,by simp[m3],⟨[a.eval x],us,a.eval x,rfl,rfl,hv,by rw[c1],m4⟩,λu hu=>?_⟩
      ·simp only[List.map_cons,List.length_cons,List.range'_succ,aic hb,m2]
      ·rcases List.mem_cons.1 hu with rfl|hu
       ·exact⟨c1,c2⟩
       ·exact m5 u hu
     ·cases h
   ·cases h
theorem aaN{zt:ZT P G}{T n e bt:Nat}{parts:Array (Nat×Operand)}{z vs:AV G}(hT:tt.te.find T=some (.sl e 1 bt))(hz:zt.z.find e=some z)(hxs:fnL (fQ C S []) 0 parts.toList=some vs)(hn:parts.size=n)(h0:0<n)(hcap:n<=16777216):
  SK P ⟨d, .buildSlice T n parts,ty,ps,af,g⟩ C S {S with O:=(S.nx, .cG e (.st vs))::S.O,nx:=S.nx+1} (.Da S.nx [] n 1 false (n:Int)):=by
 intro c N ρ J HK X a w next Q h hk
 obtain⟨HS,h1,hs0,hm⟩:=h.st;have hE:=cL h (ch:=[]) (by simp);obtain⟨us,m1,m2,m3,m4,m5⟩:=ab1 hE hxs;obtain⟨u,z1,z2⟩:=zt.ok e z hz J ρ;haveI:ji P e u.cells.toList:=⟨z1⟩;haveI:=(tt.sl hT).1;have hlen:us.length=n:=by rw[m3, ← hn];simp
 have hb0:((List.range (n*1)).map λj=>u.cells.toList[j%u.cells.toList.length]!).length=n*1:=by simp
 have B6:=LG (n:=n) (sz:=1) (vs:=us) (k:=0) (λv hv=>by rw[(m5 v hv).1];rfl) (by omega) hb0;rw[hlen, ← hlen, ← m2,hlen]at B6;have X8:us.flatMap (λv=>v.cells.toList)=us:=by
  have:∀l:List Value,(∀v∈l,v.cells= #[v])->l.flatMap (λv=>v.cells.toList)=l:=by
   intro l
   induction l with
   |nil=>intro _;rfl
   |cons v r ih=>intro hv;rw[List.flatMap_cons,ih λx hx=>hv x (ain _ hx),hv v List.mem_cons_self];rfl
  exact this us λv hv=>(m5 v hv).1
 have hcs:(((List.range (n*1)).map λj=>u.cells.toList[j%u.cells.toList.length]!).take (0*1)++us.flatMap (λv=>v.cells.toList)++((List.range (n*1)).map λj=>u.cells.toList[j%u.cells.toList.length]!).drop ((0+n)*1))=us:=by rw[List.drop_eq_nil_of_le (by rw[hb0,Nat.zero_add];exact Nat.le_refl _),X8];simp
 rw[hcs]at B6;have hi:((parts.toList.map (·.1)).all λi=>decide (i<n))=true:=by rw[m2,List.all_eq_true];intro i hi;rw[List.mem_range'_1]at hi;simp;omega
 have:=VO (P:=P) (N:=N) (c:=c) (d:=d) (ty:=ty) (ps:=ps) (af:=af) (g:=g) (F:=mT a) (H:=HS++(HK++X)) (t:=T) (n:=n) m1 B6 hi (by omega) (by omega) a.defers a w next Q hs0 λb w' _ hs hp=>by
  refine hk (ρ.set S.nx (dk b 0)) J [] w' _ (aW.j8 _ _ _) (λ_ h=>h) ?_ (h.new h1 hs hp ?_)
  ·refine⟨⟨b,0, .inl (aW.ic _ _ _),?_⟩,by simp,by simp⟩
   simp[Qi,eD]
  ·exact⟨b, .agg us.toArray,aW.ic _ _ _,rfl,⟨us,rfl,m4.ext ((aW.j8 ρ S.nx _).le h.fr),λv hv=>(m5 v hv).2⟩⟩
 simpa using this
def U3(P:Program)(tt:TT P G)(T:Nat):Option (Nat×Nat×Nat):=match tt.te.find T with
 |some (.lD n e sz _)=>some (n,e,sz)
 |_ =>match P.underlying T with
  |some (.pointer a)=>(match tt.te.find a with
   |some (.lD n e sz _)=>some (n,e,sz)
   |_ =>none)
  |_ =>none
theorem Fm{T n e sz:Nat}(h:U3 P tt T=some (n,e,sz)):rQ P T n e sz\/GJ P T n e sz=true:=by
 unfold U3 at h;split at h
 ·rename_i h1;cases h;exact .inl (tt.lD h1)
 ·split at h
  ·rename_i a h1
   split at h
   ·rename_i h2
    cases h;refine .inr ?_;unfold GJ;rw[h1];exact(tt.lD h2).ok
   ·cases h
  ·cases h
def SS(P:Program)(tt:TT P G)(E:Operand->Option (AV G))(T:Nat)(x:Operand)(lo hi mx:Option Operand):PV G:=match E x,U3 P tt T with
 |some (.ptr r p),some (n,_,sz)=>(match lo,hi,mx with
  |none,none,none=>some ([], .Da r p n sz false (n:Int))
  |some l,none,none=>(match l7 (E l)with
   |some (_,i,_)=>some ([dm i (n+1)], .Da r p n sz true i)
   |none=>none)
  |none,some h,none=>(match l7 (E h)with
   |some (_,i,_)=>some ([dm i (n+1)], .Da r p n sz false i)
   |none=>none)
  |_,_,_ =>none)
 |_,_ =>none
theorem SR{ob:Nat->Option (Ob G)}{E:Operand->Option (AV G)}(hm:N5 (G:=G) J ρ N c D H ob a w)(hE:y5 J ρ a E){T:Nat}{x:Operand}{lo hi mx:Option Operand}{v:AV G}{gs:List Bool}(h:SS P tt E T x lo hi mx=some (gs,v))(hg:∀b∈gs,b=true):A5 P c J ρ ⟨d, .slice T x lo hi mx,ty,ps,af,g⟩ a w v:=by
 unfold SS at h;split at h
 ·rename_i r p n e sz hx ht
  obtain⟨b,o,e1,e2,e3⟩:=oK (hE.ok _ _ hx);have fx:=hE.ev _ _ hx;rw[e2]at fx;split at h
  ·cases h
   refine⟨_,⟨⟨b,o,e1,rfl⟩,e3,by simp⟩,?_⟩;rw[BK,aif];rcases Fm ht with h1|h1
   ·exact(Q5 fx).vk hm.st
   ·exact(Q4 h1 fx).vk hm.st
  ·split at h
   ·rename_i k i q hl
    cases h;obtain⟨h1,h2⟩:=bW (hg (dm i (n+1)) (by simp));have h2:=Nat.lt_succ_iff.1 h2;refine⟨_,⟨⟨b,o,e1,rfl⟩,e3,h2⟩,?_⟩;rw[JE];rcases Fm ht with h3|h3
    ·exact(Vo fx (jO hE hl) h1 h2).vk hm.st
    ·exact(Vn h3 fx (jO hE hl) h1 h2).vk hm.st
   ·cases h
  ·split at h
   ·rename_i k i q hl
    cases h;obtain⟨h1,h2⟩:=bW (hg (dm i (n+1)) (by simp));have h2:=Nat.lt_succ_iff.1 h2;refine⟨_,⟨⟨b,o,e1,rfl⟩,e3,h2⟩,?_⟩;rw[BK];rcases Fm ht with h3|h3
    ·exact(Mb fx (jO hE hl) h1 h2).vk hm.st
    ·exact(Ma h3 fx (jO hE hl) h1 h2).vk hm.st
   ·cases h
  ·cases h
 ·cases h
theorem Rl.ahw{r T':Nat}{cc:AV G}(h:Rl c N ρ J HK X C S a w)(ho:cQ S.O r=some (.cG T' cc)):∃(b:Nat) (u:Value) (J':World->Prop) (Y:List aE),ρ r=some (dk b 0)/\rv J ρ cc u/\(∀w,J' w->J w)/\(∀w,J' w->(aE.cells b T' u.cells.toList).holds w/\b<w.heap.size)/\Rl c N ρ J' HK (Y++X) C {S with O:=we S.O r} a w:=by
 obtain⟨HS,q1,q3⟩:=h.hp;obtain⟨k,x,k1,⟨b,u,m1,rfl,m3⟩,k3⟩:=q1.YB ho;let x:aE:= .cells b T' u.cells.toList;let J':World->Prop:=λw=>J w/\Hs [x] w;have mJ:∀w,J' w->J w:=λw h=>h.1;have hle:=aW.le_refl ρ;have hxm:x∈HS:=List.mem_of_getElem? k1;have hxH:x∈HS++(HK++X):=aii _ hxm;obtain⟨q,hq1,Lu,hq3⟩:=h.kn.one (q3.holds x hxH) λb hb=>(q3.own x hxH b hb).2;refine⟨b,u,J',[q],m1,m3,mJ,λw hw=>⟨(hw.2 x (by simp)).1,(hw.2 x (by simp)).2 b (by simp[x,aE.cG])⟩,h.tm,h.df.up mJ hle,h.si,h.fs.up mJ hle,h.fc.up mJ hle,h.Mn mJ hle,⟨HS.eraseIdx k,k3.up mJ hle,?_⟩,hq3,h.fr⟩;have q4:=(q3.jJ (oL k1 _)).set (k:=0) (r':=q) rfl (Nat.le_refl _) (λ_ _ _ =>rfl) hq1 h.si.s.size (λb hb=>by
  rw[Lu]at hb;exact⟨.inl hb,(q3.own x hxH b hb).2⟩)
 refine bA.jJ q4 ?_;have e1:HK++([q]++X)=HK++(q::X):=rfl;rw[e1];refine List.Perm.trans ?_ (List.Perm.append_left _ (List.perm_middle (a:=q) (l₁:=HK) (l₂:=X)).symm);exact(List.perm_middle (a:=q) (l₁:=HS.eraseIdx k) (l₂:=HK++X)).symm
theorem QE{f:Nat->List Value}{z:Nat}:∀{n m:Nat},(∀i,i<n->(f i).length=z)->m<=n->(flat f n).take (m*z)=flat f m:=by
 intro n
 induction n with
 |zero=>
  intro m _ h;have:m=0:=by omega
  subst this;simp[flat]
 |succ n ih=>
  intro m h hm;rcases Nat.lt_or_ge n m with q|q
  ·have:m=n+1:=by omega
   subst this;exact List.take_of_length_le (by rw[fM h];exact Nat.le_refl _)
  ·show(flat f n++f n).take (m*z)=_
   have hl:(flat f n).length=n*z:=fM λi hi=>h i (by omega);have hle:m*z<=n*z:=Nat.mul_le_mul_right _ q;rw[List.take_append_of_le_length (by omega)];exact ih (λi hi=>h i (by omega)) q
theorem Sq{T r n e0 sz T':Nat}{x hi:Operand}{p:List rR}{cc:AV G}{e:Ty}{f:Nat->e.T G}{k:IntKind}{i:Int}{q:Bool}(hT:U3 P tt T=some (n,e0,sz))(hx:fQ C S [] x=some (.ptr r p))(hh:l7 (fQ C S [] hi)=some (k,i,q))(ho:cQ S.O r=some (.cG T' cc))(hl:IV tt.F cc p=some (.dat (.lD n e) f))(hg:dm i (n+1)=true):
  SK P ⟨d, .slice T x none (some hi) none,ty,ps,af,g⟩ C S {S with O:=we S.O r} (.dat (.sl e) ((List.range i.toNat).map f)):=by
 intro c N ρ J HK X a w next Q h hk
 have hE:=cL h (ch:=[]) (by simp);obtain⟨b,o,e1,e2,e3⟩:=oK (hE.ok _ _ hx);obtain⟨b',u,J',Y,m1,m2,mJ,m3,h'⟩:=h.ahw ho;have eb:b=b'/\o=0:=by rcases e1 with h1|⟨n,cap,_,_,_,_,h1,_⟩<;>rw[h1]at m1<;>simp[dk]at m1;exact m1
 obtain⟨rfl,rfl⟩:=eb;obtain⟨g1,g2⟩:=bW hg;have g2:=Nat.lt_succ_iff.1 g2;obtain⟨u',n1,n2,n3⟩:=F9 hl m2 e3;obtain⟨u2,e4,⟨Mt,r1,r2⟩,_⟩:=n1;cases e4;have hlen:∀i,i<n->(Mt i).length=(e.L G).n:=λi hi=>(e.L G).len (r2 i hi);have hsz:u'.cells.size=n*(e.L G).n:=by rw[← Array.length_toList,r1,fM hlen]
 have hm:((List.range i.toNat).map f).length=i.toNat:=by simp
 have hxl:=hE.ev _ _ hx;rw[e2,Nat.zero_add]at hxl;have fl:=jO hE hh;have hfz:Bd J' (.slice (some ⟨b,eD p,none⟩) i.toNat n) (e.L G) (flat Mt i.toNat) ((List.range i.toNat).map f):=by
  refine⟨⟨_,_,by rw[hm]⟩,?_,λw hw=>?_⟩
  ·rw[hm]
   refine⟨Mt,rfl,λj hj=>?_⟩;have e5:((List.range i.toNat).map f).getD j default=f j:=by simp[List.getD_eq_getElem?_getD,hj]
   show(e.L G).fk J' (Mt j) (((List.range i.toNat).map f).getD j default);rw[e5];exact(e.L G).mono mJ (r2 j (by omega))
  ·obtain⟨k1,k2⟩:=m3 w hw
   refine⟨by rw[hm,fM λj hj=>hlen j (by omega)], .inr ⟨b,eD p,n,by rw[hm],k2,by rw[hm];exact g2,λj v hj=>?_⟩⟩;rw[pY k1];have hj1:j<i.toNat*(e.L G).n:=by have:=(List.getElem?_eq_some_iff.1 hj).1;rwa[fM λj hj=>hlen j (by omega)]at this
   have hj2:i.toNat*(e.L G).n<=n*(e.L G).n:=Nat.mul_le_mul_right _ g2;rw[← QE hlen g2, ← r1, ← n2,List.getElem?_take,aia hj1,List.getElem?_take,aia (by omega),List.getElem?_drop]at hj;exact hj
 obtain⟨Rt,_,hs0,hm'⟩:=h'.st;have hv:rv J' ρ (.dat (.sl e) ((List.range i.toNat).map f)) (.slice (some ⟨b,eD p,none⟩) i.toNat n):=⟨_,rfl,E8 hfz⟩;have fin:∀w',aO [] w w'->next (a.put d (.slice (some ⟨b,eD p,none⟩) i.toNat n)) w':=λw' hs=>by refine hk ρ J' Y w' _ (aW.dG _ _) mJ hv ?_;obtain⟨HS2,p1,p3⟩:=h'.hp;exact⟨h'.tm,h'.df,h'.si.ext hs,h'.fs,h'.fc,h'.kc,⟨HS2,p1,p3.ext hs⟩,h'.kn,h'.fr⟩
 rcases Fm hT with h3|h3
 ·exact(Mb (P:=P) (N:=N) (c:=c) hxl fl g1 g2) a.defers a w next Q hs0 fin
 ·exact(Ma (P:=P) (N:=N) (c:=c) h3 hxl fl g1 g2) a.defers a w next Q hs0 fin
theorem VJ{F:dY}{x y:Operand}{t e b off n i j T:Nat}{cs cs':List Value}{H':List aE}(ht:Ed P t e 1=true)(hx:Bw.ev F x=some (V0 b off i n 1))(hy:Bw.ev F y=some (V0 b off j n 1))(hi:i<=n)(hj:j<=n)(hle:off+n<=cs.length)(h1:oh ((cs.drop (off+j)).take (min (n-j) (n-i))))
  (hc':bL cs (if n=i then off else off+i*1) ((cs.drop (off+j)).take (min (n-j) (n-i)))=cs')[hc:qU H b T cs][hs:EM H b cs' H']:
  RX (α:=Unit) P N c ⟨d, .call ⟨.builtin .copy, #[x,y], #[t,t]⟩,ty,ps,af,g⟩ F H (λ_ =>True) (λ_ => .int .i64 (min (n-j) (n-i):Nat)) (λ_ =>H'):=λD a w next Q hst hk=>by
 obtain⟨inf,e1,e2,e3⟩:=uc.get ht;have hb:w.heap[b]? =some (.cells cs.toArray T (0,0)):=hst.hp.holds _ hc.mem;let m:=min (n-j) (n-i);let o:=if n=i then off else off+i*1
 let src:=(cs.drop (off+j)).take m;have qH:src.length=m:=by simp only[src,List.length_take,List.length_drop];omega
 have hoi:m≠0->o=off+i:=λhm=>by simp only[o];split<;>omega
 have aad:∀l:Nat,(if n=l then(⟨b,off,none⟩:Addr)else⟨b,off+l*1,none⟩)=⟨b,if n=l then off else off+l*1,none⟩:=λl=>by split<;>rfl
 have hsrc:∀(q:Nat) (v:Value),src[q]? =some v->w.cell? ((⟨b,if n=j then off else off+j*1,none⟩:Addr).add q)=some v:=λq v hq=>by
  have Lu:q<m:=by have:=(List.getElem?_eq_some_iff.1 hq).1;omega
  have hnj:¬n=j:=by omega
  rw[aib hnj,Addr.add_lit,pY (hst.hp.holds _ hc.mem)];simp only[src,List.getElem?_take,aia Lu,List.getElem?_drop]at hq;rw[← hq,Nat.mul_one]
 have h1:oh src:=h1;have hrun:=run_copy_row (P:=P) w t t ty e b o (n-i) (n-i) ⟨b,if n=j then off else off+j*1,none⟩ (n-j) (n-j) cs.toArray T src e1 (by simp[e2,e3]) hb qH hsrc (by
  rw[qH,List.size_toArray];by_cases hm:m=0
  ·rw[hm];simp only[o];split<;>omega
  ·rw[hoi hm];omega) h1
 have hnew:cs.take o++src++cs.drop (o+src.length)=cs':=hc';have iF:aO [b] w (w.setRow b cs'.toArray):=⟨rfl,rfl,rfl,by simp,λk _ hk=>setRow_other w b k _ (by simpa using hk)⟩;refine dM (by simp) (v:= .int .i64 (m:Nat)) (w':=w.setRow b cs'.toArray) ?_ (hk () _ trivial (hst.si.store hst.hp hc.mem (by simp[aE.cG]) iF) (hst.hp.aaR hs iF hst.si.size ?_))
 ·have e5:(cs.toArray.toList.take o++src++cs.toArray.toList.drop (o+src.length)).toArray=cs'.toArray:=by rw[← hnew]
  rw[e5,qH]at hrun;have rW:a.eval x= .slice (some ⟨b,o,none⟩) (n-i) (n-i):=by rw[aI hst.fr hx,V0,aad i]
  have XX:a.eval y= .slice (some ⟨b,if n=j then off else off+j*1,none⟩) (n-j) (n-j):=by rw[aI hst.fr hy,V0,aad j]
  simp only[Nat.mul_one]at hrun XX;simp[execOp,resolve,invoke,builtin,rW,XX,hrun];rfl
 ·intro T' acn hT
  have:=Eg (hst.hp.holds _ hc.mem) hT;obtain⟨rfl,rfl⟩:=this;have:=setRow_heap w b cs.toArray cs'.toArray T (0,0) hb;simpa[aE.holds]using this
def Iu:List rR->List rR->Bool
 |[],[]=>true
 | .CB j o::r, .CB k q::s=>Nat.beq j k&&(Nat.beq o q&&Iu r s)
 |_,_ =>false
theorem W9:∀{p q:List rR},Iu p q=true->p=q:=by
 intro p
 induction p with
 |nil=>intro q h;cases q with
  |nil=>rfl
  |cons _ _ =>cases h
 |cons s r ih=>
  intro q h;cases s with
  |CB j o=>
   cases q with
   |nil=>cases h
   |cons t q=>
    cases t with
    |CB k l=>simp only[Iu,aid]at h;rw[aic h.1,aic h.2.1,ih h.2.2]
    |idx _ _ _ =>cases h
  |idx _ _ _ =>cases q<;>cases h
theorem Lp{k:IntKind}{n:Nat}{f:Nat->Int}{cs:List Value}(h:(LA (LI k) n).fk J cs f):cs=flat (λq=>[Value.int k (f q)]) n:=by obtain⟨g,rfl,h1⟩:=h;exact s6 λi hi=>h1 i hi
theorem TV{k:IntKind}{n:Nat}{f:Nat->Int}:rv (G:=G) J ρ (.dat (.lD n (.int k)) f) (.agg (flat (λq=>[Value.int k (f q)]) n).toArray):=
 ⟨_,rfl,⟨λq=>[Value.int k (f q)],rfl,λ_ _ =>rfl⟩,λ_ =>⟨_,rfl⟩,nofun⟩
theorem NJ{k:IntKind}{f:Nat->Int}{cs:List Value}{off i j n:Nat}(hi:i<=n)(hj:j<=n)(hle:off+n<=cs.length)(hsub:(cs.drop off).take n=flat (λq=>[Value.int k (f q)]) n):
  bL cs (if n=i then off else off+i*1) ((cs.drop (off+j)).take (min (n-j) (n-i)))=bL cs off (flat (λq=>[Value.int k (cpA i j n f q)]) n):=by
 let m:=min (n-j) (n-i);let o:=if n=i then off else off+i*1
 let src:=(cs.drop (off+j)).take m;show bL cs o src=_;have qH:src.length=m:=by simp only[src,List.length_take,List.length_drop];omega
 have hoi:m≠0->o=off+i:=λhm=>by simp only[o];split<;>omega
 have hfl:(flat (λq=>[Value.int k (cpA i j n f q)]) n).length=n:=by rw[fM (k:=1) (λq _ =>rfl)];omega
 have hcell:∀q,q<n->cs[off+q]? =some (Value.int k (f q)):=λq hq=>by
  have h5:((cs.drop off).take n)[q]? =(flat (λq=>[Value.int k (f q)]) n)[q]? :=by rw[hsub]
  rw[List.getElem?_take,aia hq,List.getElem?_drop,UC (λi=>rfl),aia hq]at h5;exact h5
 refine vq λq=>?_;rw[ia (off:=o) (vs:=src) (by
  rw[qH];by_cases hm:m=0
  ·rw[hm];simp only[o];split<;>omega
  ·rw[hoi hm];omega),ia (off:=off) (by omega),hfl,qH]
 by_cases hin:off<=q/\q<off+n
 ·rw[aia hin,UC (λi=>rfl),aia (show q-off<n by omega)]
  by_cases hm:i<=q-off/\q-off<i+m
  ·have ho:=hoi (by omega)
   rw[aia (by omega)];simp only[cpA];rw[aia hm];simp only[src,List.getElem?_take,List.getElem?_drop];rw[aia (by omega),show off+j+(q-o)=off+(q-off-i+j)by omega];exact hcell _ (by omega)
  ·have hno:¬(o<=q/\q<o+m):=λhq=>by
    have ho:=hoi (by omega);omega
   rw[aib hno];simp only[cpA];rw[aib hm];have:=hcell (q-off) (by omega);rw[show off+(q-off)=q by omega]at this;exact this
 ·rw[aib hin]
  have hno:¬(o<=q/\q<o+m):=λhq=>by have ho:=hoi (by omega);omega
  rw[aib hno]
theorem FX{r:Nat}{p:List rR}{n sz:Nat}{up:Bool}{i:Int}{u:Value}(h:rv (G:=G) J ρ (.Da r p n sz up i) u){b:Nat}(m1:ρ r=some (dk b 0)):u=Qi b (eD p) n sz up i.toNat/\(∀s∈p,s.ok)/\i.toNat<=n:=by
 obtain⟨⟨b',o,e1,e2⟩,e3,e4⟩:=h;have eb:b'=b/\o=0:=by rcases e1 with h1|⟨n,cap,_,_,_,_,h1,_⟩<;>rw[h1]at m1<;>simp[dk]at m1;exact m1
 obtain⟨rfl,rfl⟩:=eb;rw[Nat.zero_add]at e2;exact⟨(List.cons.inj e2).1,e3,e4⟩
theorem aaL{T e bt r T' n:Nat}{x y:Operand}{p p':List rR}{cc Mt:AV G}{k:IntKind}{f:Nat->Int}{i j:Int}(hT:tt.te.find T=some (.sl e 1 bt))(hx:fQ C S [] x=some (.Da r p n 1 true i))(hy:fQ C S [] y=some (.Da r p' n 1 true j))(hp:Iu p p'=true)(ho:cQ S.O r=some (.cG T' cc))(hl:IV tt.F cc p=some (.dat (.lD n (.int k)) f))
  (hst:MP tt.F cc p (.dat (.lD n (.int k)) (cpA i.toNat j.toNat n f))=some Mt):
  SK P ⟨d, .call ⟨.builtin .copy, #[x,y], #[T,T]⟩,ty,ps,af,g⟩ C S {S with O:=pc S.O r (.cG T' Mt)} (.int .i64 ((min (n-j.toNat) (n-i.toNat):Nat):Int)):=by
 intro c N ρ J HK X a w next Q h hk
 obtain⟨HS,h1,hs0,hm⟩:=h.st;have hE:=cL h (ch:=[]) (by simp);obtain⟨kk,q,k1,⟨b,u,m1,rfl,m3⟩,k3⟩:=h1.set ho;obtain rfl:=W9 hp;obtain⟨x1,e3,x3⟩:=FX (hE.ok _ _ hx) m1;obtain⟨y1,_,y3⟩:=FX (hE.ok _ _ hy) m1;have rW:=hE.ev _ _ hx;have XX:=hE.ev _ _ hy;rw[x1,JE]at rW;rw[y1,JE]at XX;obtain⟨u',n1,n2,n3⟩:=F9 hl m3 e3;obtain⟨u2,e4,hr,_⟩:=n1;cases e4;have hfl:=Lp hr;have hsz:u'.cells.size=n:=by rw[← Array.length_toList,hfl,fM (k:=1) (λ_ _ =>rfl),Nat.mul_one]
 rw[hsz,hfl]at n2;rw[hsz]at n3;obtain⟨u3,q1,q2,q3,q4⟩:=Ju (TV (J:=J) (ρ:=ρ) (k:=k) (n:=n) (f:=cpA i.toNat j.toNat n f)) hst m3 e3;have hone:oh ((u.cells.toList.drop (eD p+j.toNat)).take (min (n-j.toNat) (n-i.toNat))):=λv hv=>by
  obtain⟨q,hq⟩:=List.mem_iff_getElem?.1 hv;have hq1:q<min (n-j.toNat) (n-i.toNat):=by have:=(List.getElem?_eq_some_iff.1 hq).1;simp only[List.length_take]at this;omega
  rw[List.getElem?_take,aia hq1,List.getElem?_drop]at hq;have h5:((u.cells.toList.drop (eD p)).take n)[j.toNat+q]? =(flat (λq=>[Value.int k (f q)]) n)[j.toNat+q]? :=by rw[n2]
  rw[List.getElem?_take,aia (by omega),List.getElem?_drop, ← Nat.add_assoc,hq,UC (λi=>rfl),aia (by omega)]at h5;cases h5;rfl
 have HA:=pX (m:=HK++X) k1;haveI:qU (HS++(HK++X)) b T' u.cells.toList:=⟨List.mem_of_getElem? HA⟩;haveI:EM (HS++(HK++X)) b u3.cells.toList (HS.set kk (.cells b T' u3.cells.toList)++(HK++X)):=⟨kk,T',_,HA,by rw[tN k1]⟩;refine VJ (cs:=u.cells.toList) (cs':=u3.cells.toList) (tt.sl hT).1.ok rW XX x3 y3 (by simpa using n3) hone ?_ a.defers a w next Q hs0 λ_ w' _ hs hp=>?_
 ·rw[q2]
  exact NJ x3 y3 (by simpa using n3) n2
 ·exact hk ρ J [] w' _ (aW.dG _ _) (λ_ h=>h) rfl (h.BE (k3 (.cG T' Mt) _ ⟨b,u3,m1,rfl,q1⟩) hs hp)
theorem YI{e:Nat}{k:IntKind}(h:Ce P e k=true):(P.info? e).bind (·.zero)=some (.int k 0):=by
 unfold Ce at h;split at h
 ·rename_i k' n h1
  simp only[aid,beq_iff_eq]at h;obtain rfl:=Gf h.1;rw[h1,h.2]
 ·cases h
theorem aaM{T e bt r T' n:Nat}{x:Operand}{p:List rR}{cc Mt:AV G}{k:IntKind}{f:Nat->Int}{i:Int}(hT:tt.te.find T=some (.sl e 1 bt))(hx:fQ C S [] x=some (.Da r p n 1 false i))(hi:Nat.beq i.toNat n=true)(hn:Nat.blt 0 n=true)(ho:cQ S.O r=some (.cG T' cc))(hl:IV tt.F cc p=some (.dat (.lD n (.int k)) f))(hz:Ce P e k=true)
  (hst:MP tt.F cc p (.dat (.lD n (.int k)) (λ_ =>(0:Int)))=some Mt):
  SK P ⟨d, .call ⟨.builtin .clear, #[x], #[T]⟩,ty,ps,af,g⟩ C S {S with O:=pc S.O r (.cG T' Mt)} (.jP .nil):=by
 intro c N ρ J HK X a w next Q h hk
 obtain⟨HS,h1,hs0,hm⟩:=h.st;have hE:=cL h (ch:=[]) (by simp);obtain⟨kk,q,k1,⟨b,u,m1,rfl,m3⟩,k3⟩:=h1.set ho;obtain⟨x1,e3,x3⟩:=FX (hE.ok _ _ hx) m1;have rW:=hE.ev _ _ hx;rw[x1,BK,aic hi]at rW;obtain⟨u',n1,n2,n3⟩:=F9 hl m3 e3;obtain⟨u2,e4,hr,_⟩:=n1;cases e4;have hfl:=Lp hr;have hsz:u'.cells.size=n:=by rw[← Array.length_toList,hfl,fM (k:=1) (λ_ _ =>rfl),Nat.mul_one]
 rw[hsz]at n3;obtain⟨u3,q1,q2,q3,q4⟩:=Ju (TV (J:=J) (ρ:=ρ) (k:=k) (n:=n) (f:=λ_ =>(0:Int))) hst m3 e3;have HA:=pX (m:=HK++X) k1;haveI:qU (HS++(HK++X)) b T' u.cells.toList:=⟨List.mem_of_getElem? HA⟩;haveI:EM (HS++(HK++X)) b u3.cells.toList (HS.set kk (.cells b T' u3.cells.toList)++(HK++X)):=⟨kk,T',_,HA,by rw[tN k1]⟩;have tz:N1 P e (.int k 0):=⟨YI hz⟩;refine VM (cs:=u.cells.toList) (cs':=u3.cells.toList) (z:= .int k 0) (tt.sl hT).1.ok tz rfl rfl rW (by simpa[Nat.blt_eq]using hn) (by simpa using n3) ?_ a.defers a w next Q hs0 λ_ w' _ hs hp=>?_
 ·rw[q2, ← xX]
  rfl
 ·exact hk ρ J [] w' _ (aW.dG _ _) (λ_ h=>h) ⟨[],rfl,rfl⟩ (h.BE (k3 (.cG T' Mt) _ ⟨b,u3,m1,rfl,q1⟩) hs hp)
end Go.Rw
namespace Go.Bw
open Go Go.RowKit
def Zt(H:List aE)(w w':World):Prop:=w.heap.size<=w'.heap.size/\∀b,b<w.heap.size->b∉br H->w'.heap[b]? =w.heap[b]?
theorem Q3{P:Program}{N:Nat}{c:Cx}{D:List Deferred}{Q:Exit->Act->World->Prop}{H:List aE}{g:Operand}{ps:List Nat}{assign body:Code}
  {gf n:Nat}{caps:Array Value}{Hc Ho:List aE}{tA:Nat->List Value}{α β:Type}
  {a:Act}{w:World}(hst:St N c D [] H a w)(hro:c.ro=none)(hg:a.eval g= .func (.func gf) #[] caps)(hen:∀args w,(callFunc gf args).run P w= .ok (.enter gf args) w)
  (hit:∀(ly:Nat) (J:Nat->List Nat->World->Prop) (Jx:List Nat->World->Prop) (bs:List Nat) (W1:World),Zt H w W1->(∀b∈bs,b∈br H\/w.heap.size<=b)->bA (bs++br Hc) W1.heap.size (.ext bs (J 0 bs)::Hc) W1->Rnd P ly (bs++br Hc) W1 J Jx tA n->
   Calls P gf (.func (.yield ly) #[] #[]::caps.toList).toArray W1 λe w'=>∃x:Bool×List Nat,e= .returned (.tuple #[])/\aO (bs++br Hc) W1 w'/\bA (bs++br Hc) W1.heap.size (.ext x.2 (bif x.1 then J n x.2 else Jx x.2)::Ho) w')(hlen:∀k,(tA k).length=ps.length)(hps:ps.all (Nat.blt · N)=true)
  (p:Nat->α->Prop)(I:Nat->α->List aE)(px:Code->β->Prop)(X:β->List aE)(i0:α)(Nr:p 0 i0)(hH:H=Hc++I 0 i0)
  (hbody:∀(k:Nat) (i:α) (rec:Loop) (bs:List Nat) (W:World),k<n->p k i->rec.state= .ready->rec.pending=none->c.w0.heap.size<=W.heap.size->
   (∀b,(b∈bs\/W.heap.size<=b)->(b∈c.bs\/c.w0.heap.size<=b))->Zt H w W->bA bs W.heap.size (.obj w.heap.size (.deferred (some [])):: .obj (w.heap.size+1) (.loop rec)::I k i) W->
   assign.wpIn (FA (some (w.heap.size+1))) 0 P (ac2 P (w.heap.size+1) body (VD ⟨some (w.heap.size+1),W,bs⟩ (JW c.w0.heap.size c.bs (p (k+1)) (λi=> .obj w.heap.size (.deferred (some [])):: .obj (w.heap.size+1) (.loop rec)::I (k+1) i))
    (JW c.w0.heap.size c.bs (λq:Code×β=>px q.1 q.2) (λq=> .obj w.heap.size (.deferred (some [])):: .obj (w.heap.size+1) (.loop {rec with state:= .done,pending:=some q.1})::X q.2))))
    {tmps:=(ps.zip (tA k)).foldl (λt q=>t.setIfInBounds q.1 q.2) a.tmps,defers:=[]} W)
  (hdone:∀i w2,p n i->Zt H w w2->St N c (mark w.heap.size::D) [] (.obj w.heap.size (.deferred (some []))::(Ho++I n i)) {a with defers:=mark w.heap.size::a.defers} w2->Q .normal {a with defers:=mark w.heap.size::a.defers} w2)
  (afe:∀j i w2,px j i->Zt H w w2->St N c (mark w.heap.size::D) [] (.obj w.heap.size (.deferred (some []))::(Ho++X i)) {a with defers:=mark w.heap.size::a.defers} w2->j.wpIn (FA c.ro) 0 P Q {a with defers:=mark w.heap.size::a.defers} w2):
  (Code.rangeFunc g ps.toArray assign body).wpIn (FA c.ro) 0 P Q a w:=by
 refine wpIn_rangeFunc λfn _ =>?_;have uD:(FA c.ro).round=none:=hro;rw[uD];obtain⟨rec,bB⟩:∃rec:Loop,rec={state:= .ready,pending:=none,fn,tmps:=a.tmps,params:=ps.toArray,assign,body,defers:=w.heap.size}:=⟨_,rfl⟩;obtain⟨W1,Yf⟩:∃W1,(w.alloc (.deferred (some []))).alloc (.loop rec)=W1:=⟨_,rfl⟩;have hs1:aO [] w W1:=by rw[← Yf];exact(aO.alloc w _).ext (aO.alloc _ _)
 have ah0:W1.heap.size=w.heap.size+2:=by rw[← Yf];simp
 have hL1:W1.heap[w.heap.size+1]? =some (.loop rec):=by rw[← Yf];have:=World.alloc_heap_new (w.alloc (.deferred (some []))) (.loop rec);rwa[World.size_alloc]at this
 have hK1:W1.heap[w.heap.size]? =some (.deferred (some [])):=by rw[← Yf];exact(Below.heap_alloc _ _ _ (by simp)).trans (World.alloc_heap_new w _)
 have hev:=hg;have hfr:=hst.fr;let J:Nat->List Nat->World->Prop:=λk=>JW c.w0.heap.size c.bs (p k) (λi=> .obj w.heap.size (.deferred (some [])):: .obj (w.heap.size+1) (.loop rec)::I k i);let Jx:List Nat->World->Prop:=JW c.w0.heap.size c.bs (λq:Code×β=>px q.1 q.2) (λq=> .obj w.heap.size (.deferred (some [])):: .obj (w.heap.size+1) (.loop {rec with state:= .done,pending:=some q.1})::X q.2);have ae6:bA c.bs c.w0.heap.size (Hc++I 0 i0) W1:=by rw[← hH];exact hst.hp.ext hs1
 have hH1:bA c.bs c.w0.heap.size (.obj w.heap.size (.deferred (some [])):: .obj (w.heap.size+1) (.loop rec)::(Hc++I 0 i0)) W1:=by
  have hlt:∀s∈Hc++I 0 i0,∀b∈s.cG,b<w.heap.size:=λs hs b hb=>by
   have hm:s∈H:=by rw[hH];exact hs
   exact(hst.hp.own s hm b hb).2
  have ahZ:=hst.si.size;refine bA.cons (bA.cons ae6 hL1 ?_ ?_) hK1 ?_ ?_
  ·intro b hb;have e:b=w.heap.size+1:=by simpa[aE.cG]using hb
   subst e;exact⟨.inr (by omega),by omega⟩
  ·intro s hs b hb nu
   have e:b=w.heap.size+1:=by simpa[aE.cG]using hb
   have:=hlt s hs b nu;omega
  ·intro b hb;have e:b=w.heap.size:=by simpa[aE.cG]using hb
   subst e;exact⟨.inr (by omega),by omega⟩
  ·intro s hs b hb nu
   have e:b=w.heap.size:=by simpa[aE.cG]using hb
   rcases List.mem_cons.1 hs with rfl|hs
   ·have e2:b=w.heap.size+1:=by simpa[aE.cG]using nu
    omega
   ·have:=hlt s hs b nu;omega
 let I0:List aE:= .obj w.heap.size (.deferred (some [])):: .obj (w.heap.size+1) (.loop rec)::I 0 i0;have hHI:bA c.bs c.w0.heap.size I0 W1:=hH1.sub (by
  refine List.Sublist.cons_cons _ (List.Sublist.cons_cons _ (List.sublist_append_right _ _)))
 have hHc:bA c.bs c.w0.heap.size Hc W1:=hH1.sub (by
  refine List.Sublist.cons _ (List.Sublist.cons _ (List.sublist_append_left _ _)))
 have hap:∀r∈I0,∀s∈Hc,r.apart s:=by
  intro r hr s hs;have Qt:=hH1.apart;rw[List.pairwise_cons,List.pairwise_cons,List.pairwise_append]at Qt;obtain⟨q1,q2,_,_,q3⟩:=Qt;rcases List.mem_cons.1 hr with rfl|hr
  ·exact q1 s (by simp[hs])
  ·rcases List.mem_cons.1 hr with rfl|hr
   ·exact q2 s (by simp[hs])
   ·exact aE.tg (q3 s hs r hr)
 refine⟨w.heap.size+1,[mark w.heap.size],W1,{target:= .fn (.func gf) caps,args:= #[.func (.yield (w.heap.size+1)) #[] #[]]},W1,gf,
  (Value.func (.yield (w.heap.size+1)) #[] #[]::caps.toList).toArray,W1,?_,?_,λ_ _ =>trivial,?_,λh=>by simp at h,?_⟩
 ·rw[← Yf,bB];exact run_enterLoop_outer _ _ _ _ _
 ·simp only[resolve,hev]
  simp[go_sem]
 ·have:=hen (#[.func (.yield (w.heap.size+1)) #[] #[]]++caps) W1
  simp only[invoke];rw[this];congr 2;simp
 ·have hin:bA (br I0++br Hc) W1.heap.size (aE.ext (br I0) (J 0 (br I0))::Hc) W1:=by
   refine⟨?_,?_,?_⟩
   ·intro r hr
    rcases List.mem_cons.1 hr with rfl|hr
    ·exact N7 (I:=λi=> .obj w.heap.size (.deferred (some [])):: .obj (w.heap.size+1) (.loop rec)::I 0 i) i0 Nr hHI
    ·exact hHc.holds r hr
   ·intro r hr b hb
    rcases List.mem_cons.1 hr with rfl|hr
    ·obtain⟨s,hs,nu⟩:=aV.1 hb
     exact⟨.inl (aii _ hb),(hHI.own s hs b nu).2⟩
    ·exact⟨.inl (aih _ (aV.2 ⟨r,hr,hb⟩)),(hHc.own r hr b hb).2⟩
   ·refine List.pairwise_cons.2 ⟨λs hs b hb nu=>?_,hHc.apart⟩
    obtain⟨r,hr,HZ⟩:=aV.1 hb;exact hap r hr s hs b HZ nu
  have T5:∀b∈br I0++br Hc,b∈c.bs\/c.w0.heap.size<=b:=λb hb=>by
   rcases List.mem_append.1 hb with h|h
   ·obtain⟨r,hr,HZ⟩:=aV.1 h;exact(hHI.own r hr b HZ).1
   ·obtain⟨r,hr,HZ⟩:=aV.1 h;exact(hHc.own r hr b HZ).1
  have abz:aO c.bs c.w0 W1:=hst.si.ext hs1;have abT:∀w',aO (br I0++br Hc) W1 w'->Zt H w w':=λw' hs=>⟨by have:=hs.size;omega,λb hb hnb=>by
   have h1:b∉br I0++br Hc:=λhm=>hnb (by
    rw[hH];rcases List.mem_append.1 hm with hm|hm
    ·obtain⟨r,hr,HZ⟩:=aV.1 hm
     rcases List.mem_cons.1 hr with rfl|hr
     ·have e:b=w.heap.size:=by simpa[aE.cG]using HZ
      omega
     ·rcases List.mem_cons.1 hr with rfl|hr
      ·have e:b=w.heap.size+1:=by simpa[aE.cG]using HZ
       omega
      ·exact aV.2 ⟨r,aih _ hr,HZ⟩
    ·obtain⟨r,hr,HZ⟩:=aV.1 hm
     exact aV.2 ⟨r,aii _ hr,HZ⟩)
   rw[hs.block b (by omega) h1];exact hs1.block b hb (by simp)⟩
  have hbI:∀b∈br I0,b∈br H\/w.heap.size<=b:=λb hm=>by
   obtain⟨r,hr,HZ⟩:=aV.1 hm;rcases List.mem_cons.1 hr with rfl|hr
   ·have e:b=w.heap.size:=by simpa[aE.cG]using HZ
    exact .inr (by omega)
   ·rcases List.mem_cons.1 hr with rfl|hr
    ·have e:b=w.heap.size+1:=by simpa[aE.cG]using HZ
     exact .inr (by omega)
    ·exact .inl (by rw[hH];exact aV.2 ⟨r,aih _ hr,HZ⟩)
  have abR:=hit (w.heap.size+1) J Jx (br I0) W1 (abT W1 (aO.refl _ _)) hbI hin ?_
  ·refine jt c.ro ?_
   intro cs;obtain⟨e,w2,fr,⟨x,he,aeY,hh2⟩,Np,Gj⟩:=abR cs;refine⟨e,w2,fr,?_,Np,Gj⟩;subst he;obtain⟨go,bs'⟩:=x;have aeX:aO c.bs c.w0 w2:=abz.trans aeY T5;have hex:=hh2.holds _ (List.mem_cons_self);have ahr:∀r∈Ho,r.holds w2:=λr hr=>hh2.holds r (ain _ hr);have ahq:∀s∈Ho,∀b∈bs',b∉s.cG:=λs hs b hb=>by have:=hh2.apart;rw[List.pairwise_cons]at this;exact this.1 s hs b hb
   have both:∀(IL:List aE) (jump:Option Code) (st:LoopState),st≠ .busy->bs'=br (.obj w.heap.size (.deferred (some [])):: .obj (w.heap.size+1) (.loop {rec with state:=st,pending:=jump})::IL)->
     bA c.bs c.w0.heap.size (.obj w.heap.size (.deferred (some [])):: .obj (w.heap.size+1) (.loop {rec with state:=st,pending:=jump})::IL) w2->
     ∃w4,(Instr.endLoop (w.heap.size+1)).run P w2= .ok jump w4/\Zt H w w4/\St N c (mark w.heap.size::D) [] (.obj w.heap.size (.deferred (some []))::(Ho++IL)) {a with defers:=mark w.heap.size::a.defers} w4:=by
    intro IL jump st aby nu hI;have hl:w2.heap[w.heap.size+1]? =some (.loop {rec with state:=st,pending:=jump}):=hI.holds (.obj (w.heap.size+1) _) (by simp);have B7:bA c.bs c.w0.heap.size (.obj w.heap.size (.deferred (some [])):: .obj (w.heap.size+1) (.loop {rec with state:=st,pending:=jump})::(Ho++IL)) w2:=by
     have hq:=hI.apart;rw[List.pairwise_cons,List.pairwise_cons]at hq;refine⟨?_,?_,?_⟩
     ·intro r hr
      rcases List.mem_cons.1 hr with rfl|hr
      ·exact hI.holds _ (by simp)
      ·rcases List.mem_cons.1 hr with rfl|hr
       ·exact hI.holds _ (by simp)
       ·rcases List.mem_append.1 hr with h|h
        ·exact ahr r h
        ·exact hI.holds r (by simp[h])
     ·intro r hr b hb
      rcases List.mem_cons.1 hr with rfl|hr
      ·exact hI.own _ (by simp) b hb
      ·rcases List.mem_cons.1 hr with rfl|hr
       ·exact hI.own _ (by simp) b hb
       ·rcases List.mem_append.1 hr with h|h
        ·obtain⟨o,lt⟩:=hh2.own r (ain _ h) b hb
         exact⟨o.elim (T5 b) (λo=> .inr (Nat.le_trans abz.size o)),lt⟩
        ·exact hI.own r (by simp[h]) b hb
     ·have hcI:∀r,r∈(aE.obj w.heap.size (.deferred (some [])):: .obj (w.heap.size+1) (.loop {rec with state:=st,pending:=jump})::IL)->∀s∈Ho,r.apart s:=λr hr s hs b hb HC=>ahq s hs b (by rw[nu];exact aV.2 ⟨r,hr,hb⟩) HC
      refine List.pairwise_cons.2 ⟨λs hs=>?_,List.pairwise_cons.2 ⟨λs hs=>?_,List.pairwise_append.2 ⟨(List.pairwise_cons.1 hh2.apart).2,hq.2.2,λs hs r hr=>aE.tg (hcI r (by simp[hr]) s hs)⟩⟩⟩
      ·rcases List.mem_cons.1 hs with rfl|hs
       ·exact hq.1 _ (by simp)
       ·rcases List.mem_append.1 hs with h|h
        ·exact hcI _ (by simp) s h
        ·exact hq.1 s (by simp[h])
      ·rcases List.mem_append.1 hs with h|h
       ·exact hcI _ (by simp) s h
       ·exact hq.2.1 s h
    have JY:St N c (mark w.heap.size::D) [] (.obj w.heap.size (.deferred (some [])):: .obj (w.heap.size+1) (.loop {rec with state:=st,pending:=jump})::(Ho++IL)) {a with defers:=mark w.heap.size::a.defers} w2:=
     ⟨hst.tm,hfr,by simp[hst.df],aeX,B7⟩
    have hso:Ra (.obj w.heap.size (.deferred (some [])):: .obj (w.heap.size+1) (.loop {rec with state:=st,pending:=jump})::(Ho++IL)) (w.heap.size+1) (.loop {rec with state:= .exhausted,pending:=jump}) (.obj w.heap.size (.deferred (some [])):: .obj (w.heap.size+1) (.loop {rec with state:= .exhausted,pending:=jump})::(Ho++IL)):=inferInstance;have ho:Rd (.obj w.heap.size (.deferred (some [])):: .obj (w.heap.size+1) (.loop {rec with state:=st,pending:=jump})::(Ho++IL)) (w.heap.size+1) (.loop {rec with state:=st,pending:=jump}):=inferInstance;obtain⟨h3,_⟩:=JY.pc ho hso;have hap:=abT w2 aeY;refine⟨_,run_endLoop hl aby,⟨by have:=hap.1;simpa[World.putObj]using this,λb hb hnb=>(World.putObj_heap_other (by omega)).trans (hap.2 b hb hnb)⟩,⟨h3.tm,h3.fr,h3.df,h3.si,h3.hp.sub ?_⟩⟩;exact List.Sublist.cons_cons _ (List.Sublist.cons _ (List.Sublist.refl _))
   cases go with
   |true=>
    obtain⟨i,X2,hI,nu⟩:=Ca hex;have hrr:({rec with state:=LoopState.ready,pending:=none}:Loop)=rec:=by rw[bB]
    obtain⟨w4,h4,h4a,h5⟩:=both (I n i) none .ready (by simp) (by rw[hrr];exact nu) (by rw[hrr];exact hI);exact⟨none,w4,h4,hdone i _ X2 h4a h5⟩
   |false=>obtain⟨⟨j,i⟩,X2,hI,nu⟩:=Ca hex;obtain⟨w4,h4,h4a,h5⟩:=both (X i) (some j) .done (by simp) nu hI;exact⟨some j,w4,h4,afe j i _ X2 h4a h5⟩
  ·
   intro k hk2 W bs hsW ah4 ahl;obtain⟨i,X2,hI,nu⟩:=Ca ahl;have hl:W.heap[w.heap.size+1]? =some (.loop rec):=hI.holds (.obj (w.heap.size+1) _) (by simp);have hy:=run_yield (P:=P) (args:=(tA k).toArray) hl (by rw[bB];simpa using hlen k);refine⟨_,_,_,_,hy,?_⟩;have ae0:aO c.bs c.w0 W:=abz.trans hsW T5;have hsub:∀b,(b∈br (aE.obj w.heap.size (.deferred (some [])):: .obj (w.heap.size+1) (.loop rec)::I k i)\/W.heap.size<=b)->(b∈c.bs\/c.w0.heap.size<=b):=λb hb=>by
    rcases hb with hb|hb
    ·obtain⟨r,hr,HZ⟩:=aV.1 hb;exact(hI.own r hr b HZ).1
    ·exact .inr (Nat.le_trans ae0.size hb)
   have hb:=hbody k i rec bs W hk2 X2 (by rw[bB]) (by rw[bB]) ae0.size (λb hb=>hsub b (by rw[← nu];exact hb)) (abT W hsW);have ht:=Xq (ps:=ps) (vs:=tA k) hfr hst.tm hps;have ag5:(rec.params.zip (tA k).toArray).foldl (λtmps (t,a)=>tmps.setIfInBounds t a) rec.tmps=(ps.zip (tA k)).foldl (λt q=>t.setIfInBounds q.1 q.2) a.tmps:=by rw[bB];simp
   rw[ag5];have hrf:rec.assign=assign/\rec.body=body:=by rw[bB];exact⟨rfl,rfl⟩
   rw[hrf.1,hrf.2];have hI':bA bs W.heap.size (.obj w.heap.size (.deferred (some [])):: .obj (w.heap.size+1) (.loop rec)::I k i) W:=
    ⟨hI.holds,λr hr b hb=>⟨.inl (by rw[nu];exact aV.2 ⟨r,hr,hb⟩),(hI.own r hr b hb).2⟩,hI.apart⟩
   have uD:=roundIn_of_wpIn (F:=FA none) (n:=0) (P:=P) (l:=w.heap.size+1) (f:=rec.fn) (R:=VD ⟨some (w.heap.size+1),W,bs⟩ (J (k+1)) Jx) trivial
    (hb hI')
   refine uD.mono λe W' hr=>?_;exact hr
section rounds
variable {P:Program} {N:Nat} {c:Cx} {H:List aE} {l dd:Nat} {α β:Type} {n0:Nat} {cb:List Nat} {p:α->Prop} {I:α->List aE} {px:β->Prop} {X:β->List aE}
theorem Xd{rec:Loop}{a:Act}{w:World}(hr:rec.state= .ready)(hrp:rec.pending=none)(hT:∀b,(b∈c.bs\/c.w0.heap.size<=b)->(b∈cb\/n0<=b)){JX:List Nat->World->Prop}
  (hst:St N c [] [] (.obj dd (.deferred (some [])):: .obj l (.loop {rec with state:= .busy})::H) a w)(i:α)(hp:p i)(hI:I i= .obj dd (.deferred (some [])):: .obj l (.loop rec)::H):roundPost P l (VD c (JW n0 cb p I) JX) .normal a w:=by
 obtain⟨h1,h2⟩:=hst.pc (b:=l) (o':= .loop rec) inferInstance inferInstance;have e:({{rec with state:=LoopState.busy}with state:=if(none:Option Code).isNone then LoopState.ready else .done,pending:=none}:Loop)=rec:=by cases rec;simp_all
 have hrun:=run_endRound (P:=P) none h2;rw[e]at hrun;have hh:=h1.hp;rw[← hI]at hh;refine⟨_,_,hrun,br (I i),?_,h1.si, .inl ⟨rfl,?_⟩⟩
 ·intro b hb;exact aO.ZK hh hb
 ·exact N7 i hp ⟨hh.holds,λr hr b hb=>⟨hT b (hh.own r hr b hb).1,(hh.own r hr b hb).2⟩,hh.apart⟩
theorem Xc{rec:Loop}{a:Act}{w:World}(hT:∀b,(b∈c.bs\/c.w0.heap.size<=b)->(b∈cb\/n0<=b)){JT:List Nat->World->Prop}{e:Exit}{j:Code}(hj:(e= .ret/\j= .ret)\/(∃id,e= .exit id/\j= .exit id))
  (hst:St N c [] [] (.obj dd (.deferred (some [])):: .obj l (.loop {rec with state:= .busy})::H) a w)(i:β)(hp:px i)(hI:X i= .obj dd (.deferred (some [])):: .obj l (.loop {rec with state:= .done,pending:=some j})::H):roundPost P l (VD c JT (JW n0 cb px X)) e a w:=by
 obtain⟨h1,h2⟩:=hst.pc (b:=l) (o':= .loop {rec with state:= .done,pending:=some j}) inferInstance inferInstance;have hrun:=run_endRound (P:=P) (some j) h2;have hh:=h1.hp;rw[← hI]at hh;have fin:∃v w',(Instr.endRound l (some j)).run P w= .ok v w'/\VD c JT (JW n0 cb px X) (.returned v) w':=by
  refine⟨_,_,hrun,br (X i),?_,h1.si, .inr ⟨rfl,?_⟩⟩
  ·intro b hb;exact aO.ZK hh hb
  ·exact N7 i hp ⟨hh.holds,λr hr b hb=>⟨hT b (hh.own r hr b hb).1,(hh.own r hr b hb).2⟩,hh.apart⟩
 rcases hj with⟨rfl,rfl⟩|⟨id,rfl,rfl⟩
 ·exact fin
 ·exact fin
end rounds
end Go.Bw
namespace Go.Rw
open Go Go.Bw Go.RowKit
variable {G:Sg} {P:Program}
inductive Ex(G:Sg) where
 |jl
 |exit (i:Nat)
 |ret
 |vE (v:AV G)
inductive Cf where
 |code (c:Code)
 |ops (all:Array Oper) (l:List Oper)
 |lp (x:Code)
structure FI where
 code:Code
 N:Nat
 Ae:List ResultVar
def EF(P:Program)(k:Nat):Option FI:=match P.funcs[k]? with
 |some fn=>match fn.body with
  |some code=>bif fn.name== "runtime.NumGoroutine" then none else some ⟨code,fn.ntmps,fn.results.toList⟩
  |none=>none
 |none=>none
inductive Re where
 |dz (d:Nat)
 |via (d:Nat)
 |cap (d i:Nat)
 |frm (d i:Nat)
inductive Hn where
 |loop (l:List (Re×Sh))
 |join (l:List (Re×Sh)) (ex:List Nat)
 |Jr
def Xx:Nat->List (Option Nat)->List (Option Nat)
 |0,l=>l
 |n+1,l=>none::Xx n l
def afz(C:CC G)(S:AS G)(d i:Nat):Option Nat:=match fQ C S [] (.tmp d)with
 |some (.fn _ _ cap)=>match Qm cap i with
  |some (.ptr q [])=>some q
  |_ =>none
 |_ =>none
def TU:Ob G->Bool
 | .lp _ _ _ _ _ _ =>true
 |_ =>false
def JL:Os G->Bool
 |[]=>true
 |(_,o)::q=> !TU o&&JL q
def frZ:List Nat->AV G->Fr G
 |k::ks, .cons v r=>(k,v)::frZ ks r
 |_,_ =>[]
def afr(C:CC G)(S:AS G)(d i:Nat):Option Nat:=match fQ C S [] (.tmp d)with
 |some (.yl q)=>match cQ (lA C) q with
  |some (.lp _ ks vs _ _ _)=>match cQ (frZ ks vs) i with
   |some (.ptr q [])=>some q
   |_ =>none
  |_ =>none
 |_ =>none
def Nc(O:Os G):Sh->AV G->List (Option Nat)
 | .box _ s, .ptr r []=>some r::(match cQ O r with
  |some (.cG _ c)=>Nc O s c
  |_ =>Xx (Cd s) [])
 | .fn _ a c, .fn _ x y=>Nc O a x++Nc O c y
 | .jP a, .jP x=>Nc O a x
 | .st a, .st x=>Nc O a x
 | .jQ _ a, .jQ _ x=>Nc O a x
 | .cons a c, .cons x y=>Nc O a x++Nc O c y
 | .part _ a c, .part _ x y=>Nc O a x++Nc O c y
 |s,_ =>Xx (Cd s) []
def ZG(C:CC G)(S:AS G):List (Re×Sh)->Option Ml
 |[]=>some ⟨[],[]⟩
 |(.dz d,s)::r=>match ZG C S r with
  |some g=>some ⟨(.dz d,s)::g.l,Xx (Cd s) g.nm⟩
  |none=>none
 |(.via d,s)::r=>match fQ C S [] (.tmp d),ZG C S r with
  |some (.ptr q []),some g=>some ⟨(.obj q,s)::g.l,Nc S.O s (.ptr q [])++g.nm⟩
  |some (.row q),some g=>some ⟨(.obj q,s)::g.l,some q::g.nm⟩
  |_,_ =>none
 |(.cap d i,s)::r=>match afz C S d i,ZG C S r with
  |some q,some g=>some ⟨(.obj q,s)::g.l,Nc S.O s (.ptr q [])++g.nm⟩
  |_,_ =>none
 |(.frm d i,s)::r=>match afr C S d i,ZG C S r with
  |some q,some g=>some ⟨(.obj q,s)::g.l,Nc S.O s (.ptr q [])++g.nm⟩
  |_,_ =>none
def Lb(C:CC G)(S:AS G):List Nat->List Nat
 |[]=>[]
 |d::r=>match fQ C S [] (.tmp d)with
  |some (.ptr q [])=>q::Lb C S r
  |some (.row q)=>q::Lb C S r
  |_ =>Lb C S r
def xU(O:Os G):Sh->AV G->List Nat
 | .row _ _ _, .row r=>[r]
 | .v _, .row r=>[r]
 | .box _ s, .ptr r []=>r::(match cQ O r with
  |some (.cG _ c)=>xU O s c
  |_ =>[])
 | .fn _ a c, .fn _ x y=>xU O a x++xU O c y
 | .jP a, .jP x=>xU O a x
 | .st a, .st x=>xU O a x
 | .jQ _ a, .jQ _ x=>xU O a x
 | .cons a c, .cons x y=>xU O a x++xU O c y
 | .part _ a c, .part _ x y=>xU O a x++xU O c y
 |_,_ =>[]
def PW(C:CC G)(S:AS G):List (Re×Sh)->List Nat
 |[]=>[]
 |(.dz d,s)::r=>(match fQ C S [] (.tmp d)with
  |some v=>xU S.O s v
  |none=>[])++PW C S r
 |(.via d,s)::r=>(match fQ C S [] (.tmp d)with
  |some v=>xU S.O s v
  |none=>[])++PW C S r
 |(.cap d i,s)::r=>(match afz C S d i with
  |some q=>xU S.O s (.ptr q [])
  |none=>[])++PW C S r
 |(.frm d i,s)::r=>(match afr C S d i with
  |some q=>xU S.O s (.ptr q [])
  |none=>[])++PW C S r
structure Vw(G:Sg)(L:List Ty) where
 lp:{Z:Type}->((HL G L->Option Z)->HL G L->Option Z)->Nat->HL G L->Option Z
 e0:∀{Z:Type} (B:(HL G L->Option Z)->HL G L->Option Z) (e:HL G L),lp B 0 e=none
 e1:∀{Z:Type} (B:(HL G L->Option Z)->HL G L->Option Z) (n:Nat) (e:HL G L),lp B (n+1) e=B (λe=>lp B n e) e
def ZV{Z:Type}{L:List Ty}:Option (Vw G L)->((HL G L->Option Z)->HL G L->Option Z)->Nat->HL G L->Option Z
 |some v=>v.lp
 |none=>lpE L
theorem OI{Z:Type}{L:List Ty}{o:Option (Vw G L)}{B:(HL G L->Option Z)->HL G L->Option Z}{n:Nat}{e:HL G L}{z:Z}(h:ZV o B n e=some z):∃m,n=m+1/\B (ZV o B m) e=some z:=by
 cases o with
 |none=>exact aew h
 |some v=>
  cases n with
  |zero=>rw[show ZV (some v) B 0 e=none from v.e0 B e]at h;cases h
  |succ n=>exact⟨n,rfl,by rw[show ZV (some v) B (n+1) e=B (λe=>v.lp B n e) e from v.e1 B n e]at h;exact h⟩
def afW(P:Program)(k:Nat)(uC:Sh)(n:Nat)(ys:Sh){B:Type}(en:B->HL G (aL ys))(f:HL G (aL uC)->Option (List B)):Prop:=∀(ρ:aW) (J:World->Prop) (HB X:List aE) (vs:List Value) (x:HL G (aL uC)) (l:List B),f x=some l->rl J ρ (fj (λm=>m) uC x 0).1 vs->RO J ρ (fj (λm=>m) uC x 0).2.1 HB->Rr G X J->ρ.fr (fj (λm=>m) uC x 0).2.2-> ∃tA:Nat->List Value,(∀(σ:aW) i y,l[i]? =some y->rl J σ (fj (λm=>m) ys (en y) 0).1 (tA i))/\(∀i,(tA i).length=n)/\ ∀(ly:Nat) (Jy:Nat->List Nat->World->Prop) (Jx:List Nat->World->Prop) (bs:List Nat) (w:World),bA (bs++(br HB++br X)) w.heap.size (.ext bs (Jy 0 bs)::(HB++X)) w->Rnd P ly (bs++br HB) w Jy Jx tA l.length-> Calls P k (Value.func (.yield ly) #[] #[]::vs).toArray w λen w'=>∃x:Bool×List Nat,en= .returned (.tuple #[])/\aO (bs++br HB) w w'/\bA (bs++br HB) w.heap.size (.ext x.2 (bif x.1 then Jy l.length x.2 else Jx x.2)::[]) w'
structure It(P:Program)(G:Sg) where
 k:Nat
 uC:Sh
 n:Nat
 ys:Sh
 B:Type
 en:B->HL G (aL ys)
 f:HL G (aL uC)->Option (List B)
 fn:∃fn,P.funcs[k]? =some fn/\fn.body.isSome=true/\(fn.name== "runtime.NumGoroutine")=false
 ok:afW P k uC n ys en f
structure adh(P:Program)(f T n:Nat)(out:Int->List Value):Prop where
 enter:∀args w,(callFunc f args).run P w= .ok (.enter f args) w
 ret:∀b w,CallsDIn (FA none) 0 P f #[dk b 0] .returning w λen u' w'=>(∃v,en= .returned v)/\u'= .returning/\aO [] w w'
 vE:∀(b Tb:Nat) (xs:List Value) (e:Int) (w:World),xs.length=n->w.heap[b]? =some (.cells xs.toArray Tb (0,0))->CallsDIn (FA none) 0 P f #[dk b 0] (.panicking [{v:= .iface T (.int .i64 e),recovered:=false}]) w λen u' w'=>(∃v,en= .returned v)/\settle u'= .returning/\aO [b] w w'/\w'.heap[b]? =some (.cells (out e).toArray Tb (0,0))
structure Ek(P:Program)(G:Sg) where
 k:Nat
 T:Nat
 n:Nat
 out:Int->List Value
 v:Int->AV G
 hv:∀(J:World->Prop) (ρ:aW) (e:Int),∃u,rv J ρ (v e) u/\u.cells.toList=out e
 ok:adh P k T n out
structure wZ(P:Program)(G:Sg) where
 tt:TT P G
 zt:ZT P G
 hint:List Nat->Nat->Option Hn
 calls:Nat->List (Ct P G)
 fu:Nat
 vw:Nat->(L:List Ty)->Option (Vw G L)
 XU:Nat->List (It P G)
 ek:Nat->List (Ek P G)
 jw:Bool
def Qe:Code->Option Nat
 | .region i _ _ =>some i
 | .seq a b=>match Qe a with
  |some i=>some i
  |none=>Qe b
 | .cond _ a b=>match Qe a with
  |some i=>some i
  |none=>Qe b
 | .block _ x=>Qe x
 | .loop x=>Qe x
 | .scope x=>Qe x
 |_ =>none
def wrO:List Oper->List Nat
 |[]=>[]
 |o::r=>match o.dst with
  |some d=>d::wrO r
  |none=>wrO r
def Ik:Code->List Nat
 | .region _ ops _ =>wrO ops.toList
 | .seq a b=>Ik a++Ik b
 | .cond _ a b=>Ik a++Ik b
 | .block _ x=>Ik x
 | .loop x=>Ik x
 | .scope x=>Ik x
 | .rangeFunc _ ps a b=>ps.toList++Ik a++Ik b
 |_ =>[]
def guW{Z:Type}:List Bool->Option Z->Option Z
 |[],k=>k
 |b::r,k=>gu b (guW r k)
def guG{Z:Type}(g:Bool):List Bool->Option Z->Option Z
 |[],k=>k
 |b::r,k=>gu (!g||b) (guG g r k)
def JD(C:CC G)(S:AS G)(ch:List (Nat×Bool))(j:Nat)(b:Bool)(y z:Operand):Option (AV G):=match z,y with
 | .const (.bool false),y=>match LK C S y,fQ C S ch y with
  |some (.gd k true x),none=>match YV x with
   |some u=>bif Nat.beq k j then some (.bool (b&&u))else none
   |none=>none
  |_,some x=>match YV x with
   |some u=>some (.bool (b&&u))
   |none=>none
  |_,_ =>none
 |z, .const (.bool true)=>match LK C S z,fQ C S ch z with
  |some (.gd k false x),none=>match YV x with
   |some u=>bif Nat.beq k j then some (.bool (b||u))else none
   |none=>none
  |_,some x=>match YV x with
   |some u=>some (.bool (b||u))
   |none=>none
  |_,_ =>none
 |_,_ =>none
def M6(C:CC G)(S:AS G)(ch:List (Nat×Bool))(x y z:Operand):Option (AV G):=match fQ C S ch x,x with
 |some (.kb b),_ =>fQ C S ch (bif b then y else z)
 |some (.bool b), .tmp j=>JD C S ch j b y z
 |_,_ =>none
def pvA(tt:TT P G)(zt:ZT P G)(C:CC G)(S:AS G)(ch:List (Nat×Bool)):Op->PV G
 | .pick x y z=>match M6 C S ch x y z with
  |some v=>some ([],v)
  |none=>none
 | .build T parts=>S9 tt zt (fQ C S ch) T parts.toList
 | .slice T x lo hi mx=>match aa2 tt (fQ C S ch) T x lo hi mx with
  |some r=>some r
  |none=>SS P tt (fQ C S ch) T x lo hi mx
 | .index T x y=>match SY P (fQ C S ch) T x y with
  |some r=>some r
  |none=>pv tt (Tt C S) (fQ C S ch) (.index T x y)
 | .binOp o T x y U=>match pv tt (Tt C S) (fQ C S ch) (.binOp o T x y U)with
  |some r=>some r
  |none=>match fQ C S ch x,fQ C S ch y with
   |some a,some b=>S7 tt o T a b
   |_,_ =>none
 |op=>pv tt (Tt C S) (fQ C S ch) op
def vu:Nat->AV G->Fr G
 |i, .cons v r=>(i,v)::vu (i+1) r
 |_,_ =>[]
def yh:AV G->Nat
 | .cons _ r=>yh r+1
 |_ =>0
def Xe(tt:TT P G)(C:CC G)(S:AS G):ResultVar->Option (AV G)
 | .tmp t=>fQ C S [] (.tmp t)
 | .cell t ty=>match fQ C S [] (.tmp t)with
  |some (.ptr r [])=>match Tt C S r with
   |some (.cG _ c)=>bif vx tt ty c then some c else none
   |_ =>none
  |_ =>none
def Xg(tt:TT P G)(C:CC G)(S:AS G):List ResultVar->Option (AV G)
 |[]=>some .nil
 |r::q=>match Xe tt C S r,Xg tt C S q with
  |some v,some l=>some (.cons v l)
  |_,_ =>none
def C9(tt:TT P G)(C:CC G)(S:AS G):List ResultVar->Option (AV G)
 |[r]=>Xe tt C S r
 |l=>match Xg tt C S l with
  |some v=>some (.jP v)
  |none=>none
def ltA{Z:Type}:AV G->(AV G->Option Z)->Option Z
 | .dat t x,k=>lt x λx=>k (.dat t x)
 | .int q n,k=>lt n λn=>k (.int q n)
 | .bool b,k=>lt b λb=>k (.bool b)
 |v,k=>k v
def VZ{Z:Type}(F:N8 G):AV G->List rR->AV G->(AV G->Option Z)->Option Z
 |c,[],v,k=>match stW c v with
  |some c'=>ltA c' k
  |none=>none
 | .dat t x,p,v,k=>match path F p t with
  |some q=>match AE q.m v with
   |some y=>lt (q.set x y) λx'=>k (.dat t x')
   |none=>none
  |none=>none
 | .st a, .CB _ o::r,v,k=>match partAt a o with
  |some (_,c)=>VZ F c r v λc'=>match BH a o c' with
   |some a'=>k (.st a')
   |none=>none
  |none=>none
 |_,_,_,_ =>none
theorem aeu{Z:Type}{v:AV G}{k:AV G->Option Z}{z:Z}(h:ltA v k=some z):k v=some z:=by cases v<;>exact h
theorem Si{Z:Type}{F:N8 G}:∀{p:List rR} {c v:AV G} {k:AV G->Option Z} {z:Z},VZ F c p v k=some z->∃c',MP F c p v=some c'/\k c'=some z:=by
 intro p
 induction p with
 |nil=>
  intro c v k z h;have h:(match stW c v with
   |some c'=>ltA c' k
   |none=>none)=some z:=by unfold VZ at h;exact h
  split at h
  ·rename_i c' hc;exact⟨c',by unfold MP;exact hc,aeu h⟩
  ·cases h
 |cons s r ih=>
  intro c v k z h;cases c with
  |dat t x=>
   simp only[VZ]at h;split at h
   ·rename_i q hq
    split at h
    ·rename_i y hy;exact⟨_,by simp only[MP,hq,hy],h⟩
    ·cases h
   ·cases h
  |st a=>
   cases s with
   |CB j o=>
    simp only[VZ]at h;split at h
    ·rename_i w c1 hp
     obtain⟨c2,h1,h2⟩:=ih h;split at h2
     ·rename_i a' ha;exact⟨_,by simp only[MP,hp,h1,ha],h2⟩
     ·cases h2
    ·cases h
   |idx _ _ _ =>simp[VZ]at h
  |_ =>simp[VZ]at h
def vj:AV G->Bool
 | .gd _ _ _ =>false
 |_ =>true
def UM:List (AV G)->Os G->Option (Os G)
 |[],O=>some O
 | .ptr r []::D,O=>match cQ O r with
  |some (.aux true)=>UM D (we O r)
  |_ =>none
 |_ ::_,_ =>none
def aej:AV G->Option (Nat×Int)
 | .jQ T (.int .i64 x)=>some (T,x)
 | .jQ T (.lit .i64 x)=>some (T,x)
 |_ =>none
def isN:Option Nat->Nat->Bool
 |some m,n=>Nat.beq m n
 |none,_ =>false
def exE:Ex G->Bool
 | .jl=>true
 | .ret=>true
 |_ =>false
def nO(ek:Nat->List (Ek P G)):Ex G->List (AV G)->Os G->Option (Ex G×Os G)
 |e,[],O=>some (e,O)
 |e, .ptr r []::D,O=>match cQ O r,exE e with
  |some (.aux true),true=>nO ek e D (we O r)
  |_,_ =>none
 |e, .cons (.fn (.func k) .nil c) l::D,O=>match ek k,ni l c with
  |q::_, .cons (.ptr r []) .nil=>match cQ O r with
   |some (.cG T' c0)=>bif Nat.beq q.k k&&(om l&&om c)then(match e with
    | .jl=>nO ek .jl D O
    | .ret=>nO ek .ret D O
    | .vE v=>(match aej v with
     |some (T,x)=>bif Nat.beq q.T T&&isN c0.ncl q.n then nO ek .ret D (pc O r (.cG T' (q.v x)))else none
     |none=>none)
    |_ =>none)else none
   |_ =>none
  |_,_ =>none
 |_,_ ::_,_ =>none
def acf(S:AS G):Option (AS G):=match UM S.D S.O with
 |some O=>some ⟨S.F,O,S.nx,[]⟩
 |none=>none
def GX{Z:Type}(N:Nat)(C:CC G):List Nat->AV G->AS G->(AS G->Option Z)->Option Z
 |[], .nil,S,k=>k S
 |p::ps, .cons v r,S,k=>match ux N C (some p) v S with
  |some S'=>bif vj v then GX N C ps r S' k else none
  |none=>none
 |_,_,_,_ =>none
def flF:CC G->Fr G
 |[]=>[]
 |y::r=>y.F++flF r
def WR(g:Ml)(base:Nat)(x:HL G (aL (rC g.l))):AS G:=⟨[],(HT g base x).O,(HT g base x).nx,[]⟩
def Qj(m:Nat)(S1:AS G)(O:Os G)(S:AS G):AS G:=⟨S1.F,(m, .aux true)::(S.O++O),S.nx, .ptr m []::S1.D⟩
def psN(N:Nat):List Nat->Bool
 |[]=>true
 |p::r=>Nat.blt p N&&psN N r
def TA:List (AV G)->Bool
 |[]=>true
 |_ =>false
abbrev WT(G:Sg)(Z:Type):=(N:Nat)->(cp:List Nat)->CC G->Cf->AS G->(Ex G->AS G->Option Z)->Option Z
def fY{Z:Type}(rec:WT G Z)(N:Nat)(cp:List Nat)(C:CC G)(all:Array Oper)(r:List Oper)(d:Option Tmp)(v:AV G)(S:AS G)(K:Ex G->AS G->Option Z):Option Z:=match ux N C d v S with
 |some S'=>bif vj v then rec N cp C (.ops all r) S' K else none
 |none=>none
def wCt{Z:Type}(C:CC G)(O:Os G)(nx:Nat)(ah9:AV G)(fit:(ct:Ct P G)->HI G ct.s->GS G->Option Z)(frz:List Nat->List (Nat×Sh)->Option Z)(no:Option Z):List (Ct P G)->Option Z
 |[]=>no
 |ct::r=>match Dq C O nx ct.s ah9 with
  |some (x,g')=>fit ct x g'
  |none=>match afE C O ct.s ah9,aep C O ct.s ah9 with
   |[],[]=>wCt C O nx ah9 fit frz no r
   |b,l=>frz b l
def ctK{Z:Type}(rec:WT G Z)(N:Nat)(cp:List Nat)(C:CC G)(all:Array Oper)(r:List Oper)(d:Option Tmp)(S:AS G)(K:Ex G->AS G->Option Z)(ct:Ct P G)(x:HI G ct.s)(g':GS G):Option Z:=
 ct.cp x (λy=>match Wc (fj (Nb g'.th g'.nx ct.s.nm) ct.s.cJ y 0).1 with
  |some v=>fY rec N cp C all r d v (YD g' ct.s.cJ ct.s.nm y S) K
  |none=>none) (λy=>match Wc (fj (Nb g'.th g'.nx ct.s.Ti) ct.s.gR y 0).1 with
  |some v=>K (.vE v) (YD g' ct.s.gR ct.s.Ti y S)
  |none=>none)
def ctG{Z:Type}(rec:WT G Z)(N:Nat)(cp:List Nat)(C:CC G)(all:Array Oper)(r:List Oper)(d:Option Tmp)(S:AS G)(K:Ex G->AS G->Option Z)(j:Nat)(w g:Bool)(ct:Ct P G)(x:HI G ct.s)(no:Option Z):Option Z:=match ct.s.nm with
 |[]=>bif E9 true ct.s.uC&&E9 false ct.s.cJ then ct.cg g x (λy=>match Wc (fj (λm=>m) ct.s.cJ y 0).1 with
  |some v=>(match ux N C d (.gd j w v) S with
   |some S'=>rec N cp C (.ops all r) S' K
   |none=>none)
  |none=>none)else no
 |_ =>no
def L5(C:CC G)(S:AS G)(ch:List (Nat×Bool)):Op->Option (Nat×AV G)
 | .call ⟨.value f,args,_⟩=>match fQ C S ch f,Ms (fQ C S ch) args.toList with
  |some (.fn (.func k) fst cap),some l=>bif (om fst&&om l)&&om cap then some (k,ni fst (ni l cap))else none
  |_,_ =>none
 |_ =>none
def ctT{Z:Type}(tb:wZ P G)(rec:WT G Z)(N:Nat)(cp:List Nat)(C:CC G)(all:Array Oper)(r:List Oper)(o:Oper)(S:AS G)(K:Ex G->AS G->Option Z)(j:Nat)(w:Bool)(no:Option Z):Option Bool->Option (Nat×AV G)->Option Z
 |some g,some (k,ah9)=>wCt C S.O S.nx ah9 (λct x _ =>bif Nat.beq ct.s.k k then ctG rec N cp C all r o.dst S K j w g ct x no else none) (λb l=>rec N cp C (.ops all (o::r)) (BJ l (yu b S)) K) no (tb.calls k)
 |_,_ =>no
def Oo(C:CC G)(S:AS G):List Operand->List Nat
 |[]=>[]
 |x::r=>match LK C S x with
  |some (.row q)=>(match cQ S.O q with
   |some _ =>q::Oo C S r
   |none=>Oo C S r)
  |_ =>Oo C S r
def aak:AV G->List rR->Bool
 | .dat _ _,_ ::_ =>true
 | .st a, .CB _ o::r=>match partAt a o with
  |some (_,c)=>aak c r
  |none=>false
 |_,_ =>false
def agD(C:CC G)(S:AS G)(x y:Operand):Option Nat:=match fQ C S [] x,fQ C S [] y with
 |some (.ptr r p),some (.row q)=>match cQ S.O q,cQ S.O r with
  |some (.row _ _ _ _),some (.cG _ c)=>bif aak c p then some q else none
  |_,_ =>none
 |_,_ =>none
def lkK{Z:Type}:List (Int×Nat)->Int->(Option Nat->Option Z)->Option Z
 |[],_,c=>c none
 |(a,f)::r,k,c=>cn (k==a) (c (some f)) (lkK r k c)
theorem aeF{Z:Type}{k:Int}{c:Option Nat->Option Z}{z:Z}:∀{l:List (Int×Nat)},lkK l k c=some z->c (Jt l k)=some z:=by
 intro l
 induction l with
 |nil=>exactλh=>h
 |cons p r ih=>
  obtain⟨a,f⟩:=p;intro h;simp only[lkK,Jt]at h ⊢;cases hb:(k==a)with
  |true=>rw[hb]at h;exact h
  |false=>rw[hb]at h;exact ih h
def Zy{Z:Type}(tb:wZ P G)(rec:WT G Z)(N:Nat)(cp:List Nat)(C:CC G)(all:Array Oper)(r:List Oper)(o:Oper)(S:AS G)(K:Ex G->AS G->Option Z):Option Z:=match pvA tb.tt tb.zt C S [] o.op with
 |some (gs,v)=>guW gs (fY rec N cp C all r o.dst v S K)
 |none=>match Oo C S o.op.operands.toList with
  |[]=>none
  |b=>rec N cp C (.ops all (o::r)) (yu b S) K
def ZY(tb:wZ P G)(cp:List Nat)(d:Option Tmp):Bool:=match d with
 |some d=>match tb.hint cp (1000000+d)with
  |some _ =>true
  |none=>false
 |none=>false
def acp(o:Oper)(T:Nat):List Oper->Option (Nat×List Oper)
 |⟨none, .call ⟨.builtin .clear,a,t⟩,_,_,_,none⟩::r=>match o.dst,o.guard,a.toList,t.toList with
  |some d1,none,[.tmp d2],[T2]=>bif Nat.beq d1 d2&&Nat.beq T T2 then some (d1,r)else none
  |_,_,_,_ =>none
 |_ =>none
def tyB(tb:wZ P G)(e:Nat):AV G->Option Ty
 | .jB=>match tb.tt.te.find e with
  |some (.sl e2 _ _)=>(match tb.zt.z.find e2 with
   |some z2=>(match tyA z2 with
    |some t=>some (.sl t)
    |none=>none)
   |none=>none)
  |_ =>none
 |z=>tyA z
def B5:Os G->Os G
 |[]=>[]
 |(r, .lp _ _ _ _ _ _)::q=>(r, .aux false)::B5 q
 |p::q=>p::B5 q
def aaT:List TypeId->TypeId->Bool
 |[a,b],T=>Nat.beq a T&&Nat.beq b T
 |_,_ =>false
def agS(P:Program)(T:Nat):Option IntKind:=match P.underlying T with
 |some (.map k _)=>(match P.underlying k with
  |some (.int q)=>some q
  |_ =>none)
 |_ =>none
def wOp{Z:Type}(tb:wZ P G)(rec:WT G Z)(N:Nat)(cp:List Nat)(C:CC G)(all:Array Oper)(r:List Oper)(o:Oper)(S:AS G)(K:Ex G->AS G->Option Z):Option Z:=match o.op with
 | .box T x=>match fQ C S [] x with
  |some v=>fY rec N cp C all r o.dst (.ptr S.nx []) {S with O:=(S.nx, .cG T v)::S.O,nx:=S.nx+1} K
  |none=>none
 | .alloc T=>match tb.zt.z.find T with
  |some v=>fY rec N cp C all r o.dst (.ptr S.nx []) {S with O:=(S.nx, .cG T v)::S.O,nx:=S.nx+1} K
  |none=>none
 | .store T x y=>match agD C S x y with
  |some q=>rec N cp C (.ops all (o::r)) (yu [q] S) K
  |none=>match fQ C S [] x,fQ C S [] y with
  |some (.ptr q p),some v=>match cQ S.O q with
   |some (.cG T' c)=>bif vx tb.tt T v then VZ tb.tt.F c p v λc'=>fY rec N cp C all r o.dst .Ok {S with O:=pc S.O q (.cG T' c')} K else none
   |some (.row e sz t xs)=>bif Ug p sz&&vx tb.tt T v then(match FZ tb.tt.F t p with
    |some pl=>(match AE pl.m v with
     |some y=>lt (xs.set pl.i.toNat (pl.set (xs.getD pl.i.toNat default) y)) λzs=>fY rec N cp C all r o.dst .Ok {S with O:=pc S.O q (.row e sz t zs)} K
     |none=>none)
    |none=>none)else none
   |_ =>none
  |_,_ =>none
 | .buildSlice T n parts=>match tb.tt.te.find T with
  |some (.sl e sz _)=>match tb.zt.z.find e with
   |some z=>match tyB tb e z with
    |some t=>match elA t (fQ C S []) 0 parts.toList with
     |some xs=>bif (Nat.beq xs.length n&&Nat.beq (t.L G).n sz)&&(Nat.blt 0 (n*sz)&&Nat.ble (n*sz) 16777216)then fY rec N cp C all r o.dst (.row S.nx) {S with O:=(S.nx, .row e sz t xs)::S.O,nx:=S.nx+1} K else none
     |none=>Zy tb rec N cp C all r o S K
    |none=>match fnL (fQ C S []) 0 parts.toList with
     |some vs=>bif (Nat.beq parts.size n&&Nat.beq sz 1)&&(Nat.blt 0 n&&Nat.ble n 16777216)then fY rec N cp C all r o.dst (.Da S.nx [] n 1 false (n:Int)) {S with O:=(S.nx, .cG e (.st vs))::S.O,nx:=S.nx+1} K else none
     |none=>none
   |none=>none
  |_ =>none
 | .makeSlice T (.tmp s) (.tmp s')=>bif Nat.beq s s' then(match l7 (fQ C S [] (.tmp s)),tb.tt.te.find T with
  |some (_,i,_),some (.sl e sz bt)=>(match tb.zt.z.find e with
   |some (.int k z0)=>bif Nat.beq sz 1&&Nat.blt 0 bt then gu (decide (0<=i)) (gu (gZ 0 i.toNat bt) (lt (List.replicate i.toNat z0) λzs=>fY rec N cp C all r o.dst (.row S.nx) {S with O:=(S.nx, .row e 1 (.int k) zs)::S.O,nx:=S.nx+1} K))else none
   |_ =>none)
  |_,_ =>none)else none
 | .panic x=>match fQ C S [] x with
  |some (.jQ t v)=>K (.vE (.jQ t v)) S
  |_ =>none
 | .defer ⟨.value f,args,_⟩=>match fQ C S [] f,Ms (fQ C S []) args.toList,o.dst with
  |some (.fn (.func k) a c),some l,none=>bif (om a&&om l)&&(om c&&xg (lA C))then rec N cp C (.ops all r) {S with D:= .cons (.fn (.func k) a c) l::S.D} K else none
  |_,_,_ =>none
 | .call ⟨.builtin .append,args,Hx⟩=>match args.toList,Hx.toList with
  |[x,y],[T,T']=>bif Nat.beq T T' then(match fQ C S [] x,fQ C S [] y,tb.tt.te.find T with
   |some (.row q),some vy,some (.sl e sz bt)=>(match cQ S.O q,ZU C S vy with
    |some (.row e' sz' t xs),some l=>bif Nat.beq e' e&&Nat.beq sz' sz then(match GO (t:=t) l.xs with
     |some ys=>gu (gZ xs.length ys.length bt) (lt (xs++ys) λzs=>fY rec N cp C all r o.dst (.row S.nx) {S with O:=(S.nx, .row e sz t zs)::we S.O q,nx:=S.nx+1} K)
     |none=>none)else none
    |_,_ =>none)
   |some .jB,some vy,some (.sl e sz bt)=>(match ZU C S vy with
    |some l=>bif Nat.beq (l.t.L G).n sz then gu (gZ 0 l.xs.length bt) (lt l.xs λzs=>fY rec N cp C all r o.dst (.row S.nx) {S with O:=(S.nx, .row e sz l.t zs)::S.O,nx:=S.nx+1} K)else none
    |none=>none)
   |_,_,_ =>none)else none
  |_,_ =>none
 | .call ⟨.builtin .copy,args,Hx⟩=>match args.toList,Hx.toList with
  |[x,y],[T,_]=>(match fQ C S [] x,fQ C S [] y,tb.tt.te.find T with
   |some (.row q),some vy,some (.sl e sz _)=>(match cQ S.O q,ZU C S vy with
    |some (.row e' sz' (.int k) xs),some l=>bif (Nat.beq e' e&&Nat.beq sz 1)&&Nat.beq sz' 1 then(match GO (t:= .int k) l.xs with
     |some ys=>lt (ys.take xs.length++xs.drop ys.length) λzs=>fY rec N cp C all r o.dst (.int .i64 ((min ys.length xs.length:Nat):Int)) {S with O:=pc S.O q (.row e 1 (.int k) zs)} K
     |none=>none)else none
    |_,_ =>none)
   |some (.Da q p n 1 true i),some (.Da q' p' n' 1 true j),some (.sl _ sz _)=>(match cQ S.O q with
    |some (.cG T2 c)=>(match IV tb.tt.F c p with
     |some (.dat (.lD m (.int k)) f)=>bif (Nat.beq q q'&&Nat.beq n n')&&((Nat.beq m n&&Nat.beq sz 1)&&(Iu p p'&&aaT Hx.toList T))then VZ tb.tt.F c p (.dat (.lD n (.int k)) (cpA i.toNat j.toNat n f)) λc'=>fY rec N cp C all r o.dst (.int .i64 ((min (n-j.toNat) (n-i.toNat):Nat):Int)) {S with O:=pc S.O q (.cG T2 c')} K else none
     |_ =>none)
    |_ =>none)
   |_,_,_ =>none)
  |_,_ =>none
 | .call ⟨.builtin .clear,args,Hx⟩=>match args.toList,Hx.toList with
  |[x],[T]=>(match fQ C S [] x,tb.tt.te.find T with
   |some (.Da q p n 1 false i),some (.sl e sz _)=>(match cQ S.O q with
    |some (.cG T2 c)=>(match IV tb.tt.F c p with
     |some (.dat (.lD m (.int k)) _)=>bif (Nat.beq i.toNat n&&Nat.blt 0 n)&&((Nat.beq m n&&Nat.beq sz 1)&&Ce P e k)then VZ tb.tt.F c p (.dat (.lD n (.int k)) (λ_ =>(0:Int))) λc'=>fY rec N cp C all r o.dst (.jP .nil) {S with O:=pc S.O q (.cG T2 c')} K else none
     |_ =>none)
    |_ =>none)
   |_,_ =>none)
  |_,_ =>none
 | .makeMap T none=>match agS P T with
  |some q=>fY rec N cp C all r o.dst (.mp S.nx) {S with O:=(S.nx, .fm q [] .nil)::S.O,nx:=S.nx+1} K
  |none=>none
 | .insert T x y z=>match fQ C S [] x,l7 (fQ C S [] y),fQ C S [] z with
  |some (.mp q),some (ky,k,_),some v=>(match cQ S.O q with
   |some (.fm ik ks vs)=>bif (Fb ky ik&&LX P T ik)&&(IJ k ks&&om vs)then fY rec N cp C all r o.dst .Ok {S with O:=pc S.O q (.fm ik (ks++[k]) (ni vs (.cons v .nil)))} K else none
   |_ =>none)
  |_,_,_ =>none
 | .call ⟨.value f,args,_⟩=>match fQ C S [] f,Ms (fQ C S []) args.toList with
  |some (.fn (.func k) fst cap),some l=>wCt C S.O S.nx (ni fst (ni l cap)) (λct x g'=>bif (om fst&&om l)&&(om cap&&Nat.beq ct.s.k k)then ctK rec N cp C all r o.dst S K ct x g' else none) (λb l=>rec N cp C (.ops all (o::r)) (BJ l (yu b S)) K) (match EF P k with
   |some fi=>bif (om fst&&om l)&&(om cap&&Nat.ble (yh (ni fst (ni l cap))) fi.N)then
     rec fi.N ((match o.dst with
      |some d=>d
      |none=>0)::cp) [⟨[],lA C,[]⟩] (.code fi.code) ⟨vu 0 (ni fst (ni l cap)),S.O,S.nx,[]⟩ λe S1=>match nO tb.ek e S1.D S1.O with
      |some (.vE v,O2)=>K (.vE v) {S with O:=O2,nx:=S1.nx}
      |some (.jl,O2)=>(match C9 tb.tt [⟨[],lA C,[]⟩] ⟨S1.F,O2,S1.nx,[]⟩ fi.Ae with
       |some v=>fY rec N cp C all r o.dst v {S with O:=O2,nx:=S1.nx} K
       |none=>none)
      |some (.ret,O2)=>(match C9 tb.tt [⟨[],lA C,[]⟩] ⟨S1.F,O2,S1.nx,[]⟩ fi.Ae with
       |some v=>fY rec N cp C all r o.dst v {S with O:=O2,nx:=S1.nx} K
       |none=>none)
      |_ =>none
    else none
   |none=>none) (tb.calls k)
  |some (.yl q),some l=>match cQ (lA C) q with
   |some (.lp N2 ks vs ps a b)=>bif xg (lA C)then GX N2 [⟨[],B5 (lA C),[]⟩] ps l ⟨frZ ks vs,S.O,S.nx,[]⟩ λS2=>rec N2 ((match o.dst with
     |some d=>d
     |none=>0)::cp) [⟨[],B5 (lA C),[]⟩] (.code a) S2 λe1 S3=>match e1 with
     | .jl=>rec N2 ((match o.dst with
      |some d=>d
      |none=>0)::cp) [⟨[],B5 (lA C),[]⟩] (.code b) S3 λe2 S4=>match e2,S4.D with
      | .jl,[]=>fY rec N cp C all r o.dst (.kb true) {S with O:=S4.O,nx:=S4.nx} K
      |_,_ =>none
     |_ =>none
    else none
   |_ =>none
  |_,_ =>none
 | .load T (.global g)=>match G.gt,g,o.guard with
  |some _,0,none=>bif qS P T then fY rec N cp C all r o.dst (.mp S.nx) {S with O:=(S.nx, .gm)::S.O,nx:=S.nx+1} K else none
  |_,_,_ =>none
 | .lookup T x y true=>match fQ C S [] x,l7 (fQ C S [] y),o.guard with
  |some (.mp q),some (ik,k,_),none=>(match Tt C S q with
   |some .gm=>(match G.gt with
    |some g0=>bif Nat.beq (Ty.bU.ik ik) (Ty.bU.ik g0.1)&&Ef P T g0.1 then lkK g0.2 k λf=>fY rec N cp C all r o.dst (aaG f) S K else none
    |none=>none)
   |some (.fm qk ks vs)=>bif Fb ik qk&&Ef P T qk then lkF k ks vs λt=>fY rec N cp C all r o.dst t S K else none
   |_ =>none)
  |_,_,_ =>none
 | .slice T x none (some h) none=>match fQ C S [] x,l7 (fQ C S [] h),tb.tt.te.find T,ZY tb cp o.dst with
  |some (.row q),some (_,i,_),some (.sl e sz _),true=>match cQ S.O q with
   |some (.row e' sz' t xs)=>bif Nat.beq e' e&&Nat.beq sz' sz then gu (dm i (xs.length+1)) (fY rec N cp C all r o.dst (.row S.nx) {S with O:=(S.nx, .row e' sz' t (xs.take i.toNat))::we S.O q,nx:=S.nx+1} K)else none
   |_ =>none
  |some (.ptr q p),some (_,i,_),_,true=>(match cQ S.O q,U3 P tb.tt T with
   |some (.cG _ c),some (n,_,_)=>(match IV tb.tt.F c p with
    |some (.dat (.lD m e) f)=>bif Nat.beq m n then gu (dm i (n+1)) (fY rec N cp C all r o.dst (.dat (.sl e) ((List.range i.toNat).map f)) {S with O:=we S.O q} K)else none
    |_ =>none)
   |_,_ =>none)
  |_,_,_,_ =>Zy tb rec N cp C all r o S K
 | .slice T x (some lo) none none=>match acp o T r,fQ C S [] x,l7 (fQ C S [] lo),tb.tt.te.find T with
  |none,some (.row q),some (_,i,_),some (.sl e sz _)=>(match cQ S.O q,ZY tb cp o.dst with
   |some (.row e' sz' t xs),true=>bif Nat.beq e' e&&Nat.beq sz' sz then gu (dm i (xs.length+1)) (fY rec N cp C all r o.dst (.row S.nx) {S with O:=(S.nx, .row e' sz' t (xs.drop i.toNat))::we S.O q,nx:=S.nx+1} K)else none
   |_,_ =>Zy tb rec N cp C all r o S K)
  |some (d1,r2),some (.row q),some (_,i,_),some (.sl e sz _)=>(match cQ S.O q,ux N C (some d1) .Ok S with
   |some (.row e' sz' (.int k) xs),some S1=>bif (Nat.beq e' e&&Nat.beq sz 1)&&(Nat.beq sz' 1&&Ce P e k)then gu (dm i (xs.length+1)) (lt (xs.take i.toNat++(List.replicate (xs.length-i.toNat) (0:Int):List (Ty.T G (.int k)))) λzs=>rec N cp C (.ops all r2) {S1 with O:=pc S1.O q (.row e 1 (.int k) zs)} K)else none
   |_,_ =>Zy tb rec N cp C all r o S K)
  |_,_,_,_ =>Zy tb rec N cp C all r o S K
 |_ =>Zy tb rec N cp C all r o S K
def lR(C:CC G)(S:AS G)(l:List (Src×Sh)):AS G:=match C3 C S l with
 |some v=>yu (wj S.O (rC l) v) S
 |none=>S
def GF(all:Array Oper)(j:Nat):Option Nat:=(all[j]?).bind (·.dst)
def NT(A:List Nat):List Nat->Nat
 |[]=>0
 |j::r=>(2^j|||A.getD j 0)|||NT A r
def EH(ops:Array Oper):Nat->List Nat
 |0=>[]
 |k+1=>match EH ops k with
  |A=>A++[NT A (zK ops k)]
def yB:Nat->List Oper->List (Nat×Nat)
 |_,[]=>[]
 |i,o::r=>match o.dst with
  |some d=>(i,d)::yB (i+1) r
  |none=>yB (i+1) r
def nh(A:List Nat)(i j:Nat):Bool:=Nat.testBit (A.getD i 0) j
def Xu(A:List Nat)(q d:Nat):List (Nat×Nat)->Bool
 |[]=>true
 |(i,e)::r=>(!(Nat.beq e d&&Nat.blt i q)||nh A q i)&&Xu A q d r
def Qk(A:List Nat)(ws:List (Nat×Nat)):List (Nat×Nat)->Bool
 |[]=>true
 |(q,d)::r=>Xu A q d ws&&Qk A ws r
def AA(A:List Nat)(i d:Nat):List (Nat×Nat)->Bool
 |[]=>true
 |(q,e)::r=>(!Nat.beq e d||(Nat.beq q i||(bif Nat.blt q i then nh A i q else nh A q i)))&&AA A i d r
def QY(A:List Nat)(i d:Nat):List (Nat×Nat)->Bool
 |[]=>true
 |(q,e)::r=>(!Nat.beq e d||nh A i q)&&QY A i d r
def Wy(d:Nat):List (Nat×Nat)->Bool
 |[]=>false
 |(_,e)::r=>Nat.beq e d||Wy d r
def gdD(ws:List (Nat×Nat)):AV G->Bool
 | .gd j _ _ =>Wy j ws
 |_ =>false
def QB(ws:List (Nat×Nat))(F:Fr G)(d:Nat):Bool:=match cQ F d with
 |some v=>gdD ws v
 |none=>false
structure Lg where
 i:Nat
 r:List Nat
 a:List Nat
 o:List Nat
structure DS(G:Sg) where
 F:Fr G
 M:Os G
 nx:Nat
 lg:List Lg
def NI:List Nat->List Nat->Bool
 |[],_ =>true
 |a::r,l=> !cZ l a&&NI r l
def Xv(A:List Nat)(i:Nat)(rd ac nw:List Nat):List Lg->Bool
 |[]=>true
 |y::r=>(nh A i y.i||(NI (y.a++y.o) (rd++ac)&&NI (ac++nw) (y.r++y.a)))&&Xv A i rd ac nw r
def okU(A:List Nat)(i:Nat):List Lg->Bool
 |[]=>true
 |y::r=>(nh A i y.i||(match y.a with
  |[]=>true
  |_ =>false))&&okU A i r
def unN(A:List Nat)(i:Nat):List Lg->List Nat
 |[]=>[]
 |y::r=>bif nh A i y.i then unN A i r else y.o++unN A i r
def OE:AV G->List Nat
 | .ptr r _ =>[r]
 | .row r=>[r]
 | .Da r _ _ _ _ _ =>[r]
 | .mp r=>[r]
 | .gd _ _ v=>OE v
 |_ =>[]
def tP:AV G->List Nat
 | .ptr r _ =>[r]
 | .row r=>[r]
 | .Da r _ _ _ _ _ =>[r]
 | .mp r=>[r]
 | .gd _ _ v=>tP v
 | .fn _ a c=>tP a++tP c
 | .st a=>tP a
 | .jP a=>tP a
 | .jQ _ v=>tP v
 | .cons a b=>tP a++tP b
 | .part _ a b=>tP a++tP b
 |_ =>[]
def obN(M:Os G):List Nat->List Nat
 |[]=>[]
 |r::q=>match cQ M r with
  |some (.cG _ c)=>tP c++obN M q
  |_ =>obN M q
def Ow(M:Os G):Nat->List Nat->List Nat
 |0,l=>l
 |n+1,l=>l++Ow M n (obN M l)
def HV(f:AV G->List Nat)(C:CC G)(S:AS G):List Operand->List Nat
 |[]=>[]
 |x::r=>match LK C S x with
  |some v=>f v++HV f C S r
  |none=>HV f C S r
def iG:Os G->List Nat
 |[]=>[]
 |(k,_)::r=>k::iG r
def isQ:Op->Bool
 | .store _ _ _ =>false
 | .call ⟨.builtin .len,_,_⟩=>true
 | .call ⟨.builtin .min,_,_⟩=>true
 | .call ⟨.builtin .max,_,_⟩=>true
 | .call _ =>false
 | .box _ _ =>false
 | .alloc _ =>false
 | .panic _ =>false
 | .buildSlice _ _ _ =>false
 | .makeSlice _ _ _ =>false
 | .makeMap _ _ =>false
 | .insert _ _ _ _ =>false
 |_ =>true
def Lc:AV G->List Nat
 | .row r=>[r]
 | .Da r _ _ _ _ _ =>[r]
 | .gd _ _ v=>Lc v
 |_ =>[]
def rdF:Op->AV G->List Nat
 | .load _ _ =>OE
 | .lookup _ _ _ _ =>OE
 | .move _ =>λ_ =>[]
 |_ =>Lc
def U4(C:CC G)(S:AS G):List Operand->Bool
 |[]=>false
 |x::r=>(match LK C S x with
  |some (.row _)=>true
  |_ =>false)||U4 C S r
def ag4(C:CC G)(S:AS G)(op:Op):Bool:=isQ op&&(match op with
 | .build _ _ => !U4 C S op.operands.toList
 |_ =>true)
def afo(A:List Nat)(ws:List (Nat×Nat))(i:Nat):AV G->Bool
 | .gd j _ _ =>QY A i j ws
 |_ =>true
def aa6(A:List Nat)(ws:List (Nat×Nat))(i nx:Nat)(d:Option Tmp)(F S:Fr G):Option (Fr G):=match d with
 |none=>some F
 |some d=>match cQ S d with
  |some v=>bif v.lt nx&&afo A ws i v then some ((d,v)::F)else none
  |none=>none
def rdN(O:Os G):List (Nat×Sh)->AV G->List Nat×List Nat
 |(_,s)::l, .cons (.ptr q []) p=>match rdN O l p,cQ O q with
  |(rd,ac),some (.cG _ c)=>match wj O s c,Uk s c with
   |[],false=>(q::(xU O s c++rd),ac)
   |b,_ =>(xU O s c++rd,q::(b++ac))
  |(rd,ac),_ =>(rd,ac)
 |_,_ =>([],[])
def aan(C:CC G)(O:Os G)(nx:Nat)(ah9:AV G):List (Ct P G)->Option (List Nat×List Nat)
 |[]=>none
 |ct::r=>match Dq C O nx ct.s ah9,afE C O ct.s ah9,aep C O ct.s ah9 with
  |none,[],[]=>aan C O nx ah9 r
  |_,_,_ =>match Nz (O++lA C) ct.s.K3 0 ct.s.uC ah9 with
   |some pv=>match rdN O ct.s.K3 pv with
    |(rd,ac)=>some (rd,xU O ct.s.uC ah9++ac)
   |none=>none
def afJ(tb:wZ P G)(C:CC G)(S:AS G)(all:Array Oper)(o:Oper):List Nat×List Nat:=bif ag4 C S o.op then(HV (rdF o.op) C S o.op.operands.toList,[])else match o.op with
 | .store _ x y=>([],HV OE C S [x]++HV Lc C S [y])
 | .alloc _ =>([],[])
 | .box _ _ =>([],[])
 | .panic _ =>([],[])
 | .buildSlice _ _ _ =>([],HV Lc C S o.op.operands.toList)
 | .call ⟨.builtin _,_,_⟩=>([],HV Lc C S o.op.operands.toList)
 | .call ⟨.value f,x,t⟩=>match L5 C S (match o.guard with
   |some (j,w)=>(match GF all j with
    |some dj=>chain C S 8 dj w
    |none=>[])
   |none=>[]) (.call ⟨.value f,x,t⟩)with
  |some (k,ah9)=>(match aan C S.O S.nx ah9 (tb.calls k)with
   |some p=>p
   |none=>([],Ow S.O 3 (HV tP C S o.op.operands.toList)))
  |none=>match LK C S f with
   |some (.yl _)=>([],iG S.O)
   |_ =>([],Ow S.O 3 (HV tP C S o.op.operands.toList))
 |_ =>([],Ow S.O 3 (HV tP C S o.op.operands.toList))
def drS{Z:Type}(tb:wZ P G)(rec:WT G Z)(N:Nat)(cp:List Nat)(C:CC G)(ops:Array Oper)(A:List Nat)(ws:List (Nat×Nat))(F0:Fr G)(D0:List (AV G))(o:Oper)(i:Nat)(T:DS G)(kn:DS G->List Nat->List Nat->Option Z)(kp:AV G->AS G->List Nat->List Nat->Option Z):Option Z:=
 match jr (λd=>AA A i d ws) T.F with
 |Fi=>match afJ tb (⟨F0,[],[]⟩::C) ⟨Fi,T.M,T.nx,[]⟩ ops o with
  |(rd,ac)=>match(⟨F0,cF (λq=>cZ rd q&& !cZ ac q) T.M,D0⟩:Ly G)with
   |ly=>bif xx T.nx (ly::C)&&(TK T.nx Fi&&tw T.nx (cF (cZ ac) T.M))then rec N cp (ly::C) (.ops ops [o]) ⟨Fi,cF (cZ ac) T.M,T.nx,[]⟩ λe S1=>match e,S1.D with
     | .jl,[]=>bif Nat.ble T.nx S1.nx&&(tw S1.nx S1.O&&Xv A i rd ac (iG S1.O) T.lg)then(match aa6 A ws i S1.nx o.dst T.F S1.F with
      |some F'=>kn ⟨F',S1.O++cF (λq=> !cZ ac q) T.M,S1.nx,⟨i,rd,ac,iG S1.O⟩::T.lg⟩ ac (iG S1.O)
      |none=>none)else none
     | .vE v,[]=>bif Nat.ble T.nx S1.nx&&(Xv A i rd ac [] T.lg&&(okU A i T.lg&&tw T.nx T.M))then kp v ⟨F0,S1.O++cF (λq=> !cZ ac q) (cF (λq=> !cZ (unN A i T.lg) q) T.M),S1.nx,D0⟩ rd ac else none
     |_,_ =>none
    else none
def aeo:List Nat->Bool
 |[]=>true
 |_ =>false
def drP{Z:Type}(tb:wZ P G)(rec:WT G Z)(N:Nat)(cp:List Nat)(C:CC G)(ops:Array Oper)(A:List Nat)(ws:List (Nat×Nat))(F0:Fr G)(D0:List (AV G))(j:Nat)(zj:List Nat)(k:Option Z):List Oper->Nat->DS G->Option Z
 |[],_,_ =>k
 |o::r,i,T=>bif nh A i j then drP tb rec N cp C ops A ws F0 D0 j zj k r (i+1) T else drS tb rec N cp C ops A ws F0 D0 o i T (λT' ac nw=>bif aeo ac&&NI nw zj then drP tb rec N cp C ops A ws F0 D0 j zj k r (i+1) T' else none) (λ_ _ _ _ =>none)
def drW{Z:Type}(tb:wZ P G)(rec:WT G Z)(N:Nat)(cp:List Nat)(C:CC G)(ops:Array Oper)(A:List Nat)(ws:List (Nat×Nat))(F0:Fr G)(D0:List (AV G))(K:Ex G->AS G->Option Z):List Oper->Nat->DS G->Option Z
 |[],_,T=>K .jl ⟨T.F++F0,T.M,T.nx,D0⟩
 |o::r,i,T=>drS tb rec N cp C ops A ws F0 D0 o i T (λT' _ _ =>drW tb rec N cp C ops A ws F0 D0 K r (i+1) T') (λv S' rd ac=>drP tb rec N cp C ops A ws F0 D0 i (rd++ac) (K (.vE v) S') r (i+1) T)
def drR{Z:Type}(tb:wZ P G)(rec:WT G Z):WT G Z:=λN cp C cf S K=>match cf with
 | .ops ops l=>match EH ops ops.size,yB 0 ops.toList with
  |A,ws=>bif Qk A ws ws&&(Rg ops []&&P.follows .mixedOrders)then
   (match jr (λd=> !(Wy d ws)&& !QB ws S.F d) S.F with
   |F0=>drW tb rec N cp C ops A ws F0 S.D K l 0 ⟨jr (λd=>Wy d ws&& !QB ws S.F d) S.F,S.O,S.nx,[]⟩)else none
 |_ =>none
def TI(ps:List Nat)(a b:Code)(C:CC G)(S1:AS G)(O:Os G):CC G:=[⟨jr (λd=> !cZ (ps++(Ik a++Ik b)) d) (S1.F++flF C),(S1.nx+1, .aux false)::(O++lA C),[]⟩]
def rgW{Z:Type}(rec:WT G Z)(N:Nat)(cp:List Nat)(C:CC G)(ps:List Nat)(a b:Code)(S1:AS G)(K:Ex G->AS G->Option Z)(g:Ml)(it:It P G)(l:List it.B)(O:Os G)(x0:HL G (aL (rC g.l))):Option Z:=
 itE (aL (rC g.l)) (λy go e=>GX N (TI ps a b C S1 O) ps (fj (λm=>m) it.ys (it.en y) 0).1 (WR g (S1.nx+2) e) λS2=>rec N cp (TI ps a b C S1 O) (.code a) S2 λe1 S3=>match e1 with
  | .jl=>rec N cp (TI ps a b C S1 O) (.code b) S3 λe2 S4=>match e2 with
   | .jl=>match Gn (TI ps a b C S1 O) (lR (TI ps a b C S1 O) S4 g.l) g (S1.nx+2)with
    |some e=>go e
    |none=>none
   | .ret=>bif TA S4.D then K .ret (Qj S1.nx S1 O S4)else none
   | .exit i=>bif TA S4.D then K (.exit i) (Qj S1.nx S1 O S4)else none
   | .vE _ =>none
  |_ =>none) (λe=>K .jl (Qj S1.nx S1 O (WR g (S1.nx+2) e))) l x0
def rgK{Z:Type}(rec:WT G Z)(N:Nat)(cp:List Nat)(C:CC G)(ps:List Nat)(a b:Code)(k:Nat)(cap:AV G)(gl:List (Re×Sh))(S:AS G)(K:Ex G->AS G->Option Z):List (It P G)->Option Z
 |[]=>none
 |it::q=>match m9 it.uC cap ⟨[],S.O,S.nx⟩with
  |none=>rgK rec N cp C ps a b k cap gl S K q
  |some (x,g1)=>match ZG C ⟨S.F,g1.O,g1.nx,S.D⟩ gl with
   |some g=>match lR C ⟨S.F,g1.O,g1.nx,S.D⟩ g.l with
    |S1=>match C3 C ⟨S1.F,S1.O,S1.nx+2,S1.D⟩ g.l with
     |some v=>match m9 (rC g.l) v ⟨[],S1.O,S1.nx+2⟩with
      |some (x0,g2)=>bif (Nat.beq it.k k&&Nat.beq it.n ps.length&&xg (lA C))&&(vW g.nm g2.th&&vX (S1.nx+2) g.nm&&xx (S1.nx+2) (TI ps a b C S1 g2.O))&&((tw (S1.nx+2) g2.O&&psN N ps)&&(xx (S1.nx+2) C&&JL (g2.O++lA C)))then bd (it.f x) λl=>rgW rec N cp C ps a b S1 K g it l g2.O x0 else none
      |none=>none
     |none=>none
   |none=>none
def frU(seen:List Nat):Fr G->List Nat×AV G
 |[]=>([], .nil)
 |(d,v)::r=>bif cZ seen d|| !vj v then frU (d::seen) r else match frU (d::seen) r with
  |(ks,vs)=>(d::ks, .cons v vs)
def rgI{Z:Type}(tb:wZ P G)(rec:WT G Z)(N:Nat)(cp:List Nat)(C:CC G)(ps:List Nat)(a b:Code)(k:Nat)(cap:AV G)(S:AS G)(K:Ex G->AS G->Option Z):Option Z:=match EF P k,frU [] (S.F++flF C)with
 |some fi,(ks,vs)=>match fi.Ae with
  |[]=>bif (om cap&&Nat.ble (yh cap+1) fi.N)&&xg (lA C)then rec fi.N (998::cp) [⟨[],(S.nx+1, .lp N ks vs ps a b)::lA C,[]⟩] (.code fi.code) ⟨vu 0 (.cons (.yl (S.nx+1)) cap),(S.nx, .aux true)::S.O,S.nx+2,[]⟩ λe S1=>match nO tb.ek e S1.D S1.O with
    |some (.jl,O2)=>K .jl ⟨S.F,O2,S1.nx, .ptr S.nx []::S.D⟩
    |some (.ret,O2)=>K .jl ⟨S.F,O2,S1.nx, .ptr S.nx []::S.D⟩
    |_ =>none
   else none
  |_ =>none
 |_,_ =>none
noncomputable def step{Z:Type}(tb:wZ P G)(rec:WT G Z):WT G Z:=λN cp C cf S K=>match cf with
 | .ops _ []=>K .jl S
 | .ops all (o::r)=>match o.guard with
  |none=>wOp tb rec N cp C all r o S K
  |some (j,w)=>match GF all j with
   |some dj=>match Wh C S 8 dj w with
    |some true=>wOp tb rec N cp C all r o S K
    |some false=>(match ux N C o.dst (.gd dj w .Ok) S with
     |some S'=>rec N cp C (.ops all r) S' K
     |none=>none)
    |none=>match Nx C S 8 dj w,pvA tb.tt tb.zt C S (chain C S 8 dj w) o.op with
     |some g,some (gs,v)=>guG g gs (match ux N C o.dst (.gd dj w v) S with
      |some S'=>rec N cp C (.ops all r) S' K
      |none=>none)
     |g,_ =>ctT tb rec N cp C all r o S K dj w (match IY C S 8 dj with
      |some (k,b)=>cn b (rec N cp C (.ops all (o::r)) {S with F:=(k, .kb true)::S.F} K) (rec N cp C (.ops all (o::r)) {S with F:=(k, .kb false)::S.F} K)
      |none=>none) g (L5 C S (chain C S 8 dj w) o.op)
   |none=>none
 | .code c=>match c with
  | .skip=>K .jl S
  | .label _ =>K .jl S
  | .ret=>K .ret S
  | .exit i=>K (.exit i) S
  | .region _ ops false=>rec N cp C (.ops ops ops.toList) S K
  | .region _ ops true=>drR tb rec N cp C (.ops ops ops.toList) S K
  | .block i x=>rec N cp C (.code x) S λe S'=>match e with
   | .exit j=>bif Nat.beq i j then K .jl S' else K (.exit j) S'
   |e=>K e S'
  | .scope x=>rec N cp C (.code x) S K
  | .cond x a b=>match fQ C S [] x with
   |some (.bool t)=>cn t (rec N cp C (.code a) S K) (rec N cp C (.code b) S K)
   |some (.kb t)=>rec N cp C (.code (bif t then a else b)) S K
   |_ =>none
  | .seq x y=>match(match Qe y with
    |some i=>tb.hint cp (i+i)
    |none=>none)with
   |some (.join gl ex)=>match ZG C S gl,PW C S gl++Lb C S ex with
    |some g,thr=>(match(⟨jr (λd=> !(cZ (Ik x) d||ym g.l d)) S.F,cF (λq=> !cZ thr q) S.O,S.D⟩:Ly G),(⟨jr (λd=>cZ (Ik x) d||ym g.l d) S.F,cF (cZ thr) S.O,S.nx,[]⟩:AS G)with
    |ly,S0=>bif xx S.nx (ly::C)then jnE tb.jw (aL (rC g.l)) (λe=>rec N cp C (.code y) (KG ly (HT g S.nx e)) K) λj=>rec N cp (ly::C) (.code x) S0 λe S1=>match e with
       | .jl=>match Gn (ly::C) (lR (ly::C) S1 g.l) g S.nx with
        |some e=>j e
        |none=>none
       |e=>K e (KG ly S1)
     else none)
    |none,_ =>none
   |_ =>rec N cp C (.code x) S λe S'=>match e with
    | .jl=>rec N cp C (.code y) S' K
    |e=>K e S'
  | .loop x=>match(match Qe x with
    |some i=>tb.hint cp (i+i+1)
    |none=>none)with
   |some (.loop gl)=>(match ZG C S gl with
    |none=>none
    |some g=>match lR C S g.l with
    |S=>match C3 C S g.l with
    |some v=>match m9 (rC g.l) v ⟨[],S.O,S.nx⟩with
     |some (x0,g')=>bif vW g.nm g'.th&&vX S.nx g.nm then
       (match(⟨jr (λd=> !(cZ (Ik x) d||ym g.l d)) S.F,g'.O,S.D⟩:Ly G)with
       |ly=>bif xx S.nx (ly::C)then ZV (tb.vw (match Qe x with
        |some i=>i
        |none=>0) (aL (rC g.l))) (λgo e=>rec N cp (ly::C) (.code x) (HT g S.nx e) λe1 S1=>match e1 with
         | .jl=>match Gn (ly::C) (lR (ly::C) S1 g.l) g S.nx with
          |some e=>go e
          |none=>none
         |e1=>K e1 (KG ly S1)) tb.fu x0
        else none)
      else none
     |none=>none
    |none=>none)
   |some .Jr=>rec N cp C (.lp x) S K
   |_ =>none
  | .rangeFunc g ps a b=>match fQ C S [] g,(match Qe (.seq a b)with
    |some i=>tb.hint cp (i+i+1)
    |none=>none)with
   |some (.fn (.func k) .nil cap),some (.loop gl)=>rgK rec N cp C ps.toList a b k cap gl S K (tb.XU k)
   |some (.fn (.func k) .nil cap),none=>rgI tb rec N cp C ps.toList a b k cap S K
   |_,_ =>none
  |_ =>none
 | .lp x=>rec N cp C (.code x) S λe S'=>match e with
  | .jl=>rec N cp C (.lp x) S' K
  |e=>K e S'
noncomputable def W{Z:Type}(tb:wZ P G):Nat->WT G Z
 |0=>λ_ _ _ _ _ _ =>none
 |n+1=>step tb (W tb n)
end Go.Rw
