/- Part 7 of what a proof leans on; pruned and shortened by a program out of longer texts. -/
import Derived.Test.YtjabpidfkmhbbaaGreatDoorQ6
namespace Go.Rw
open Go Go.Bw Go.RowKit
variable {G:Sg} {P:Program} {tt:TT P G} {J:World->Prop} {ρ:aP} {a:Act} {w:World} {d:Option Tmp} {ty:TypeId} {ps:String} {af:Array Edge} {g:Option (Nat×Bool)}
 {N:Nat} {c:Cx} {H HK X:List av} {D:List Deferred} {C:CC G} {S:AS G}
def jC:AV G->AV G->AV G
 | .cons v r,b=> .cons v (jC r b)
 |_,b=>b
def mB:AV G->Bool
 | .cons _ r=>mB r
 | .nil=>true
 |_ =>false
theorem jN{J:World->Prop}{ρ:aP}:∀{a b:AV G} {l m:List Value},mB a=true->rl J ρ a l->rl J ρ b m->rl J ρ (jC a b) (l++m):=by
 intro a
 induction a with
 |nil=>intro b l m _ h1 h2;have:l=[]:=h1;subst this;exact h2
 |cons v r _ ih=>intro b l m hl h1 h2;obtain⟨u,r',rfl,k1,k2⟩:=h1;exact⟨u,r'++m,rfl,k1,ih hl k2 h2⟩
 |_ =>intro b l m hl;cases hl
theorem Gj{T:Nat}(q:IntKind):SK P ⟨d, .makeMap T none,ty,ps,af,g⟩ C S {S with O:=(S.nx, .fm q [] .nil)::S.O,nx:=S.nx+1} (.mp S.nx):=by
 intro c N ρ J HK X a w next Q h hk
 obtain⟨HS,h1,hst,_⟩:=h.st;refine cq (by simp) (w':=w.alloc (.map #[] 0)) (v:= .map (some w.heap.size)) ?_ ?_
 ·simp[execOp,Instr.makeMap,newObj,Sem.run,Result.andThen]
 ·have yp:aX c.bs c.w0.heap.size (.obj w.heap.size (.map #[] 0)::(HS++(HK++X))) (w.alloc (.map #[] 0)):=hst.hp.fresh (aJ.alloc _ _) (by show(w.heap.push _)[w.heap.size]? =_;simp) hst.si.size (λb hb=>by
   have e:b=w.heap.size:=by simpa[av.bK]using hb
   subst e;exact⟨Nat.le_refl _,by simp⟩)
  exact hk (ρ.set S.nx (.map (some w.heap.size))) J [] _ _ (aP.jT _ _ _) (λ_ h=>h) ⟨_,aP.fJ _ _ _,rfl,rfl,rfl⟩ (h.new h1 (hst.si.ext (aJ.alloc _ _)) yp ⟨_,_,_,[],aP.fJ _ _ _,rfl,⟨rfl,by simp,by simp⟩,rfl,rfl⟩)
def De(k:Int):List Int->Bool
 |[]=>true
 |a::r=> !(k==a)&&De k r
theorem E1{k:Int}:∀{ks:List Int} {us:List Value},De k ks=true->dm (ks.zip us) k=none:=by
 intro ks
 induction ks with
 |nil=>intro us _;rfl
 |cons a r ih=>
  intro us h;simp only[De,aa8,Bool.not_eq_true']at h;cases us with
  |nil=>rfl
  |cons u us=>simp only[List.zip_cons_cons,dm,h.1,cond_false,ih h.2,Option.map_none]
def Fw(P:Program)(T:Nat)(q:IntKind):Bool:=match P.underlying T with
 |some (.map k _)=>(match P.underlying k with
  |some (.int q')=>Nat.beq (Ty.bp.ik q) (Ty.bp.ik q')
  |_ =>false)
 |_ =>false
theorem Pg{T:Nat}{q:IntKind}(h:Fw P T q=true):∃k e,P.underlying T=some (.map k e)/\P.underlying k=some (.int q):=by
 unfold Fw at h;split at h
 ·rename_i k e h1
  split at h
  ·rename_i q' h2
   obtain rfl:=BF h;exact⟨k,e,h1,h2⟩
  ·cases h
 ·cases h
theorem Lr{r b:Nat}{u:Value}(h:rv (G:=G) J ρ (.mp r) u)(m:ρ r=some (.map (some b))):u= .map (some b):=by obtain⟨u',u1,u2,_⟩:=h;rw[m]at u1;cases u1;exact(List.cons.inj u2).1
theorem I2{T r:Nat}{x y z:Operand}{q ky:IntKind}{k:Int}{ql:Bool}{ks:List Int}{vs v:AV G}(hx:dV C S [] x=some (.mp r))(hy:iZ (dV C S [] y)=some (ky,k,ql))(hz:dV C S [] z=some v)(ho:cu S.O r=some (.fm q ks vs))(hq:Cw ky q=true)(hT:Fw P T q=true)(hn:De k ks=true)(hl:mB vs=true):
  SK P ⟨d, .insert T x y z,ty,ps,af,g⟩ C S {S with O:=mh S.O r (.fm q (ks++[k]) (jC vs (.cons v .nil)))} .IW:=by
 intro c N ρ J HK X a w next Q h hk
 obtain⟨HS,h1,hs0,hm⟩:=h.st;have hE:=bU h (ch:=[]) (by simp);obtain⟨kk,x0,k1,⟨b,es,ck,us,m1,rfl,m3,m4,m5⟩,k3⟩:=h1.set ho;obtain rfl:=wD hq;obtain⟨kt,e,t1,t2⟩:=Pg hT;have qI:=hE.ev _ _ hx;rw[Lr (hE.ok _ _ hx) m1]at qI;have OP:=gG hE hy;have hz2:=hE.ev _ _ hz;have Cy:=mY (m:=HK++X) k1;have hd:w.heap[b]? =some (.map es ck):=hs0.hp.holds _ (List.mem_of_getElem? Cy);have hf:=jI (k:=k) w t2 m3;rw[E1 hn]at hf;have hc:∀em,(Instr.checkKey em 10000 kt (.int ky k)).run P w= .ok () w:=λem=>MapKept.run_checkKey (k:= .int ky k) t2 (show ky=ky from rfl) em 9999;haveI:JM (HS++(HK++X)) b (.map es ck):=⟨List.mem_of_getElem? Cy⟩;haveI:JJ (HS++(HK++X)) b (.map (es.push ⟨.int ky k,a.eval z,ck⟩) (ck+1)) (HS.set kk (.obj b (.map (es.push ⟨.int ky k,a.eval z,ck⟩) (ck+1)))++(HK++X)):=⟨kk,_,Cy,by rw[qf k1]⟩;obtain⟨p1,_⟩:=hs0.mh (b:=b) (o:= .map es ck) (o':= .map (es.push ⟨.int ky k,a.eval z,ck⟩) (ck+1)) inferInstance inferInstance;refine kF (by simp) (w':=w.putObj b (.map (es.push ⟨.int ky k,a.eval z,ck⟩) (ck+1))) ?_ ?_
 ·simp[execOp,ay hs0.fr qI,ay hs0.fr OP,Instr.mapUpdate,run_underlying t1,MapKept.run_getObj_map hd,hc,hf,MapKept.run_setObj_map _ hd,Result.andThen,World.putObj]
 ·refine hk ρ J [] _ undef (aP.b5 _ _) (λ_ h=>h) ⟨_,rfl⟩ (h.za (k3 _ _ ⟨b,_,_,us++[a.eval z],m1,rfl,?_,jN hl m4 ⟨_,[],rfl,hE.ok _ _ hz,rfl⟩,by simp[m5]⟩) p1.si p1.hp)
  rw[List.zip_append (by rw[m5])];exact m3.push k (a.eval z)
def VY{Z:Type}(k:Int):List Int->AV G->(AV G->Option Z)->Option Z
 |a::r, .cons v b,c=>cn (k==a) (c (.iy (.cons v (.cons (.kb true) .nil)))) (VY k r b c)
 |[], .nil,c=>c (.iy (.cons .kL (.cons (.kb false) .nil)))
 |_,_,_ =>none
theorem VX{Z:Type}{k:Int}{c:AV G->Option Z}{z:Z}:∀{ks:List Int} {vs:AV G},VY k ks vs c=some z->∃t,c t=some z/\∀(J:World->Prop) (ρ:aP) (us:List Value),rl J ρ vs us->rv J ρ t (.tuple #[ke (ks.zip us) k .nilFunc, .bool (mj (ks.zip us) k)]):=by
 intro ks
 induction ks with
 |nil=>
  intro vs h;cases vs<;>simp only[VY]at h<;>first|cases h|skip
  exact⟨_,h,λJ ρ us _ =>⟨[.nilFunc, .bool false],rfl,_,_,rfl,rfl,_,_,rfl,rfl,rfl⟩⟩
 |cons a r ih=>
  intro vs h;cases vs<;>simp only[VY]at h<;>first|cases h|skip
  rename_i v b;cases hb:(k==a)with
  |true=>
   rw[hb]at h;refine⟨_,h,λJ ρ us hu=>?_⟩;obtain⟨u,us',rfl,h1,h2⟩:=hu;have e1:ke ((a::r).zip (u::us')) k .nilFunc=u:=by simp[ke,dm,hb]
   have e2:mj ((a::r).zip (u::us')) k=true:=by simp[mj,dm,hb]
   rw[e1,e2];exact⟨[u, .bool true],rfl,_,_,rfl,h1,_,_,rfl,rfl,rfl⟩
  |false=>
   rw[hb]at h;obtain⟨t,t1,t2⟩:=ih h;refine⟨t,t1,λJ ρ us hu=>?_⟩;obtain⟨u,us',rfl,h1,h2⟩:=hu;have e1:ke ((a::r).zip (u::us')) k .nilFunc=ke (r.zip us') k .nilFunc:=by simp only[List.zip_cons_cons,ke,dm,hb,cond_false,Option.map_map];rfl
   have e2:mj ((a::r).zip (u::us')) k=mj (r.zip us') k:=by simp only[List.zip_cons_cons,mj,dm,hb,cond_false,Option.isSome_map]
   rw[e1,e2];exact t2 J ρ us' h2
theorem KD{T r:Nat}{x y:Operand}{q ky:IntKind}{k:Int}{ql:Bool}{ks:List Int}{vs t:AV G}(hx:dV C S [] x=some (.mp r))(hy:iZ (dV C S [] y)=some (ky,k,ql))(ho:Lm C S r=some (.fm q ks vs))(hq:Cw ky q=true)(hT:Al P T q=true)
  (ht:∀(J:World->Prop) (ρ:aP) (us:List Value),rl J ρ vs us->rv J ρ t (.tuple #[ke (ks.zip us) k .nilFunc, .bool (mj (ks.zip us) k)])):SK P ⟨d, .lookup T x y true,ty,ps,af,g⟩ C S S t:=by
 intro c N ρ J HK X a w next Q h hk
 obtain⟨HS,h1,hs0,hm⟩:=h.st;have hE:=bU h (ch:=[]) (by simp);obtain⟨x0,hx0,⟨b,es,ck,us,m1,rfl,m3,m4,m5⟩⟩:=hm.ob r _ ho;obtain rfl:=wD hq;have qI:=hE.ev _ _ hx;rw[Lr (hE.ok _ _ hx) m1]at qI;have OP:=gG hE hy;unfold Al at hT;split at hT
 ·rename_i kt e hu
  simp only[aa8]at hT;obtain⟨LZ,Nx⟩:=hT;split at LZ
  ·rename_i q' hk'
   obtain rfl:=BF LZ;split at Nx
   ·rename_i hz
    have tm:AL P T kt e ky:=⟨hu,hk'⟩;have tz:Hp P e ((λv:Value=>v) .nilFunc):=⟨hz⟩;refine(ax (P:=P) (F:=kN a) (H:=HS++(HK++X)) (by simp) λa' w' Sm _ hp=>?_ :VS P N c _ _ _ (.tuple #[ke (ks.zip us) k .nilFunc, .bool (mj (ks.zip us) k)])) a.defers a w next Q hs0 λw' hs=>?_
    ·have hd:w'.heap[b]? =some (.map es ck):=hp.holds _ hx0
     simp[execOp,ay Sm qI,ay Sm OP,lA (E:=λv:Value=>v) w' tm tz ⟨es,ck,hd,m3⟩,Result.andThen]
    ·exact hk ρ J [] w' _ (aP.b5 _ _) (λ_ h=>h) (ht J ρ us m4) (by
      obtain⟨UH,p1,p3⟩:=h.hp;exact⟨h.tm,h.df,h.si.ext hs,h.fs,h.fc,h.kc,⟨UH,p1,p3.ext hs⟩,h.kn,h.fr⟩)
   ·cases Nx
  ·cases LZ
 ·cases hT
def MD(P:Program)(tt:TT P G)(T:Nat):Option (Nat×Nat×Nat):=match tt.te.find T with
 |some (.iK n e sz _)=>some (n,e,sz)
 |_ =>match P.underlying T with
  |some (.pointer a)=>(match tt.te.find a with
   |some (.iK n e sz _)=>some (n,e,sz)
   |_ =>none)
  |_ =>none
theorem A5{T n e sz:Nat}(h:MD P tt T=some (n,e,sz)):oI P T n e sz\/BY P T n e sz=true:=by
 unfold MD at h;split at h
 ·rename_i h1;cases h;exact .inl (tt.iK h1)
 ·split at h
  ·rename_i a h1
   split at h
   ·rename_i h2
    cases h;refine .inr ?_;unfold BY;rw[h1];exact(tt.iK h2).ok
   ·cases h
  ·cases h
def KX(P:Program)(tt:TT P G)(E:Operand->Option (AV G))(T:Nat)(x:Operand)(lo hi mx:Option Operand):PV G:=match E x,MD P tt T with
 |some (.ptr r p),some (n,_,sz)=>(match lo,hi,mx with
  |none,none,none=>some ([], .Bp r p n sz false (n:Int))
  |some l,none,none=>(match iZ (E l)with
   |some (_,i,_)=>some ([cB i (n+1)], .Bp r p n sz true i)
   |none=>none)
  |none,some h,none=>(match iZ (E h)with
   |some (_,i,_)=>some ([cB i (n+1)], .Bp r p n sz false i)
   |none=>none)
  |_,_,_ =>none)
 |_,_ =>none
theorem KW{ob:Nat->Option (Ob G)}{E:Operand->Option (AV G)}(hm:Ht (G:=G) J ρ N c D H ob a w)(hE:v9 J ρ a E){T:Nat}{x:Operand}{lo hi mx:Option Operand}{v:AV G}{gs:List Bool}(h:KX P tt E T x lo hi mx=some (gs,v))(hg:∀b∈gs,b=true):xn P c J ρ ⟨d, .slice T x lo hi mx,ty,ps,af,g⟩ a w v:=by
 unfold KX at h;split at h
 ·rename_i r p n e sz hx ht
  obtain⟨b,o,e1,e2,e3⟩:=lD (hE.ok _ _ hx);have fx:=hE.ev _ _ hx;rw[e2]at fx;split at h
  ·cases h
   refine⟨_,⟨⟨b,o,e1,rfl⟩,e3,by simp⟩,?_⟩;rw[DV,abb];rcases A5 ht with h1|h1
   ·exact(JF fx).vk hm.st
   ·exact(JE h1 fx).vk hm.st
  ·split at h
   ·rename_i k i q hl
    cases h;obtain⟨h1,h2⟩:=bz (hg (cB i (n+1)) (by simp));have h2:=Nat.lt_succ_iff.1 h2;refine⟨_,⟨⟨b,o,e1,rfl⟩,e3,h2⟩,?_⟩;rw[DU];rcases A5 ht with h3|h3
    ·exact(MW fx (gG hE hl) h1 h2).vk hm.st
    ·exact(MV h3 fx (gG hE hl) h1 h2).vk hm.st
   ·cases h
  ·split at h
   ·rename_i k i q hl
    cases h;obtain⟨h1,h2⟩:=bz (hg (cB i (n+1)) (by simp));have h2:=Nat.lt_succ_iff.1 h2;refine⟨_,⟨⟨b,o,e1,rfl⟩,e3,h2⟩,?_⟩;rw[DV];rcases A5 ht with h3|h3
    ·exact(FK fx (gG hE hl) h1 h2).vk hm.st
    ·exact(FJ h3 fx (gG hE hl) h1 h2).vk hm.st
   ·cases h
  ·cases h
 ·cases h
theorem Rl.aax{r T':Nat}{cc:AV G}(h:Rl c N ρ J HK X C S a w)(ho:cu S.O r=some (.bK T' cc)):∃(b:Nat) (u:Value) (J':World->Prop) (Y:List av),ρ r=some (cj b 0)/\rv J ρ cc u/\(∀w,J' w->J w)/\(∀w,J' w->(av.cells b T' u.cells.toList).holds w/\b<w.heap.size)/\Rl c N ρ J' HK (Y++X) C {S with O:=uR S.O r} a w:=by
 obtain⟨HS,q1,q3⟩:=h.hp;obtain⟨k,x,k1,⟨b,u,m1,rfl,m3⟩,k3⟩:=q1.QA ho;let x:av:= .cells b T' u.cells.toList;let J':World->Prop:=λw=>J w/\Hs [x] w;have mJ:∀w,J' w->J w:=λw h=>h.1;have hle:=aP.le_refl ρ;have Z4:x∈HS:=List.mem_of_getElem? k1;have RY:x∈HS++(HK++X):=abe _ Z4;obtain⟨q,WG,LL,hq3⟩:=h.kn.one (q3.holds x RY) λb hb=>(q3.own x RY b hb).2;refine⟨b,u,J',[q],m1,m3,mJ,λw hw=>⟨(hw.2 x (by simp)).1,(hw.2 x (by simp)).2 b (by simp[x,av.bK])⟩,h.tm,h.df.up mJ hle,h.si,h.fs.up mJ hle,h.fc.up mJ hle,h.Jh mJ hle,⟨HS.eraseIdx k,k3.up mJ hle,?_⟩,hq3,h.fr⟩;have q4:=(q3.iu (nv k1 _)).set (k:=0) (r':=q) rfl (Nat.le_refl _) (λ_ _ _ =>rfl) WG h.si.s.size (λb hb=>by
  rw[LL]at hb;exact⟨.inl hb,(q3.own x RY b hb).2⟩)
 refine aX.iu q4 ?_;have e1:HK++([q]++X)=HK++(q::X):=rfl;rw[e1];refine List.Perm.trans ?_ (List.Perm.append_left _ (List.perm_middle (a:=q) (l₁:=HK) (l₂:=X)).symm);exact(List.perm_middle (a:=q) (l₁:=HS.eraseIdx k) (l₂:=HK++X)).symm
theorem Jr{f:Nat->List Value}{z:Nat}:∀{n m:Nat},(∀i,i<n->(f i).length=z)->m<=n->(flat f n).take (m*z)=flat f m:=by
 intro n
 induction n with
 |zero=>
  intro m _ h;have:m=0:=by omega
  subst this;simp[flat]
 |succ n ih=>
  intro m h hm;rcases Nat.lt_or_ge n m with q|q
  ·have:m=n+1:=by omega
   subst this;exact List.take_of_length_le (by rw[er h];exact Nat.le_refl _)
  ·show(flat f n++f n).take (m*z)=_
   have hl:(flat f n).length=n*z:=er λi hi=>h i (by omega);have hle:m*z<=n*z:=Nat.mul_le_mul_right _ q;rw[List.take_append_of_le_length (by omega)];exact ih (λi hi=>h i (by omega)) q
theorem KC{T r n e0 sz T':Nat}{x hi:Operand}{p:List oJ}{cc:AV G}{e:Ty}{f:Nat->e.T G}{k:IntKind}{i:Int}{q:Bool}(hT:MD P tt T=some (n,e0,sz))(hx:dV C S [] x=some (.ptr r p))(hh:iZ (dV C S [] hi)=some (k,i,q))(ho:cu S.O r=some (.bK T' cc))(hl:Dl tt.F cc p=some (.dat (.iK n e) f))(hg:cB i (n+1)=true):
  SK P ⟨d, .slice T x none (some hi) none,ty,ps,af,g⟩ C S {S with O:=uR S.O r} (.dat (.sl e) ((List.range i.toNat).map f)):=by
 intro c N ρ J HK X a w next Q h hk
 have hE:=bU h (ch:=[]) (by simp);obtain⟨b,o,e1,e2,e3⟩:=lD (hE.ok _ _ hx);obtain⟨b',u,J',Y,m1,m2,mJ,m3,h'⟩:=h.aax ho;have eb:b=b'/\o=0:=by rcases e1 with h1|⟨n,cap,_,_,_,_,h1,_⟩<;>rw[h1]at m1<;>simp[cj]at m1;exact m1
 obtain⟨rfl,rfl⟩:=eb;obtain⟨g1,g2⟩:=bz hg;have g2:=Nat.lt_succ_iff.1 g2;obtain⟨u',n1,n2,n3⟩:=BB hl m2 e3;obtain⟨u2,e4,⟨FZ,r1,r2⟩,_⟩:=n1;cases e4;have hlen:∀i,i<n->(FZ i).length=(e.L G).n:=λi hi=>(e.L G).len (r2 i hi);have hsz:u'.cells.size=n*(e.L G).n:=by rw[← Array.length_toList,r1,er hlen]
 have hm:((List.range i.toNat).map f).length=i.toNat:=by simp
 have Z5:=hE.ev _ _ hx;rw[e2,Nat.zero_add]at Z5;have fl:=gG hE hh;have hfz:yP J' (.slice (some ⟨b,cQ p,none⟩) i.toNat n) (e.L G) (flat FZ i.toNat) ((List.range i.toNat).map f):=by
  refine⟨⟨_,_,by rw[hm]⟩,?_,λw hw=>?_⟩
  ·rw[hm]
   refine⟨FZ,rfl,λj hj=>?_⟩;have e5:((List.range i.toNat).map f).getD j default=f j:=by simp[List.getD_eq_getElem?_getD,hj]
   show(e.L G).dJ J' (FZ j) (((List.range i.toNat).map f).getD j default);rw[e5];exact(e.L G).mono mJ (r2 j (by omega))
  ·obtain⟨k1,k2⟩:=m3 w hw
   refine⟨by rw[hm,er λj hj=>hlen j (by omega)], .inr ⟨b,cQ p,n,by rw[hm],k2,by rw[hm];exact g2,λj v hj=>?_⟩⟩;rw[m0 k1];have hj1:j<i.toNat*(e.L G).n:=by have:=(List.getElem?_eq_some_iff.1 hj).1;rwa[er λj hj=>hlen j (by omega)]at this
   have hj2:i.toNat*(e.L G).n<=n*(e.L G).n:=Nat.mul_le_mul_right _ g2;rw[← Jr hlen g2, ← r1, ← n2,List.getElem?_take,aa5 hj1,List.getElem?_take,aa5 (by omega),List.getElem?_drop]at hj;exact hj
 obtain⟨JZ,_,hs0,hm'⟩:=h'.st;have hv:rv J' ρ (.dat (.sl e) ((List.range i.toNat).map f)) (.slice (some ⟨b,cQ p,none⟩) i.toNat n):=⟨_,rfl,A0 hfz⟩;have fin:∀w',aJ [] w w'->next (a.put d (.slice (some ⟨b,cQ p,none⟩) i.toNat n)) w':=λw' hs=>by refine hk ρ J' Y w' _ (aP.b5 _ _) mJ hv ?_;obtain⟨UH,p1,p3⟩:=h'.hp;exact⟨h'.tm,h'.df,h'.si.ext hs,h'.fs,h'.fc,h'.kc,⟨UH,p1,p3.ext hs⟩,h'.kn,h'.fr⟩
 rcases A5 hT with h3|h3
 ·exact(FK (P:=P) (N:=N) (c:=c) Z5 fl g1 g2) a.defers a w next Q hs0 fin
 ·exact(FJ (P:=P) (N:=N) (c:=c) h3 Z5 fl g1 g2) a.defers a w next Q hs0 fin
theorem Ng{F:cE}{x y:Operand}{t e b off n i j T:Nat}{cs cs':List Value}{H':List av}(ht:Aj P t e 1=true)(hx:Bw.ev F x=some (Nt b off i n 1))(hy:Bw.ev F y=some (Nt b off j n 1))(hi:i<=n)(hj:j<=n)(hle:off+n<=cs.length)(h1:kP ((cs.drop (off+j)).take (min (n-j) (n-i))))
  (hc':bn cs (if n=i then off else off+i*1) ((cs.drop (off+j)).take (min (n-j) (n-i)))=cs')[hc:nZ H b T cs][hs:AO H b cs' H']:
  RX (α:=Unit) P N c ⟨d, .call ⟨.builtin .copy, #[x,y], #[t,t]⟩,ty,ps,af,g⟩ F H (λ_ =>True) (λ_ => .int .i64 (min (n-j) (n-i):Nat)) (λ_ =>H'):=λD a w next Q hst hk=>by
 obtain⟨inf,e1,e2,e3⟩:=rF.get ht;have hb:w.heap[b]? =some (.cells cs.toArray T (0,0)):=hst.hp.holds _ hc.mem;let m:=min (n-j) (n-i);let o:=if n=i then off else off+i*1
 let src:=(cs.drop (off+j)).take m;have pG:src.length=m:=by simp only[src,List.length_take,List.length_drop];omega
 have Un:m≠0->o=off+i:=λhm=>by simp only[o];split<;>omega
 have Qu:∀l:Nat,(if n=l then(⟨b,off,none⟩:Addr)else⟨b,off+l*1,none⟩)=⟨b,if n=l then off else off+l*1,none⟩:=λl=>by split<;>rfl
 have hsrc:∀(q:Nat) (v:Value),src[q]? =some v->w.cell? ((⟨b,if n=j then off else off+j*1,none⟩:Addr).add q)=some v:=λq v hq=>by
  have LL:q<m:=by have:=(List.getElem?_eq_some_iff.1 hq).1;omega
  have hnj:¬n=j:=by omega
  rw[aa6 hnj,Addr.add_lit,m0 (hst.hp.holds _ hc.mem)];simp only[src,List.getElem?_take,aa5 LL,List.getElem?_drop]at hq;rw[← hq,Nat.mul_one]
 have h1:kP src:=h1;have hrun:=run_copy_row (P:=P) w t t ty e b o (n-i) (n-i) ⟨b,if n=j then off else off+j*1,none⟩ (n-j) (n-j) cs.toArray T src e1 (by simp[e2,e3]) hb pG hsrc (by
  rw[pG,List.size_toArray];by_cases hm:m=0
  ·rw[hm];simp only[o];split<;>omega
  ·rw[Un hm];omega) h1
 have hnew:cs.take o++src++cs.drop (o+src.length)=cs':=hc';have gN:aJ [b] w (w.setRow b cs'.toArray):=⟨rfl,rfl,rfl,by simp,λk _ hk=>setRow_other w b k _ (by simpa using hk)⟩;refine cq (by simp) (v:= .int .i64 (m:Nat)) (w':=w.setRow b cs'.toArray) ?_ (hk () _ trivial (hst.si.store hst.hp hc.mem (by simp[av.bK]) gN) (hst.hp.Rf hs gN hst.si.size ?_))
 ·have e5:(cs.toArray.toList.take o++src++cs.toArray.toList.drop (o+src.length)).toArray=cs'.toArray:=by rw[← hnew]
  rw[e5,pG]at hrun;have qI:a.eval x= .slice (some ⟨b,o,none⟩) (n-i) (n-i):=by rw[ay hst.fr hx,Nt,Qu i]
  have OP:a.eval y= .slice (some ⟨b,if n=j then off else off+j*1,none⟩) (n-j) (n-j):=by rw[ay hst.fr hy,Nt,Qu j]
  simp only[Nat.mul_one]at hrun OP;simp[execOp,resolve,invoke,builtin,qI,OP,hrun];rfl
 ·intro T' SV hT
  have:=Am (hst.hp.holds _ hc.mem) hT;obtain⟨rfl,rfl⟩:=this;have:=setRow_heap w b cs.toArray cs'.toArray T (0,0) hb;simpa[av.holds]using this
def C6:List oJ->List oJ->Bool
 |[],[]=>true
 | .Ag j o::r, .Ag k q::s=>Nat.beq j k&&(Nat.beq o q&&C6 r s)
 |_,_ =>false
theorem N8:∀{p q:List oJ},C6 p q=true->p=q:=by
 intro p
 induction p with
 |nil=>intro q h;cases q with
  |nil=>rfl
  |cons _ _ =>cases h
 |cons s r ih=>
  intro q h;cases s with
  |Ag j o=>
   cases q with
   |nil=>cases h
   |cons t q=>
    cases t with
    |Ag k l=>simp only[C6,aa8]at h;rw[aa7 h.1,aa7 h.2.1,ih h.2.2]
    |idx _ _ _ =>cases h
  |idx _ _ _ =>cases q<;>cases h
theorem Fc{k:IntKind}{n:Nat}{f:Nat->Int}{cs:List Value}(h:(LA (LI k) n).dJ J cs f):cs=flat (λq=>[Value.int k (f q)]) n:=by obtain⟨g,rfl,h1⟩:=h;exact r8 λi hi=>h1 i hi
theorem LF{k:IntKind}{n:Nat}{f:Nat->Int}:rv (G:=G) J ρ (.dat (.iK n (.int k)) f) (.agg (flat (λq=>[Value.int k (f q)]) n).toArray):=
 ⟨_,rfl,⟨λq=>[Value.int k (f q)],rfl,λ_ _ =>rfl⟩,λ_ =>⟨_,rfl⟩,nofun⟩
theorem G5{k:IntKind}{f:Nat->Int}{cs:List Value}{off i j n:Nat}(hi:i<=n)(hj:j<=n)(hle:off+n<=cs.length)(hsub:(cs.drop off).take n=flat (λq=>[Value.int k (f q)]) n):
  bn cs (if n=i then off else off+i*1) ((cs.drop (off+j)).take (min (n-j) (n-i)))=bn cs off (flat (λq=>[Value.int k (QC i j n f q)]) n):=by
 let m:=min (n-j) (n-i);let o:=if n=i then off else off+i*1
 let src:=(cs.drop (off+j)).take m;show bn cs o src=_;have pG:src.length=m:=by simp only[src,List.length_take,List.length_drop];omega
 have Un:m≠0->o=off+i:=λhm=>by simp only[o];split<;>omega
 have hfl:(flat (λq=>[Value.int k (QC i j n f q)]) n).length=n:=by rw[er (k:=1) (λq _ =>rfl)];omega
 have hcell:∀q,q<n->cs[off+q]? =some (Value.int k (f q)):=λq hq=>by
  have h5:((cs.drop off).take n)[q]? =(flat (λq=>[Value.int k (f q)]) n)[q]? :=by rw[hsub]
  rw[List.getElem?_take,aa5 hq,List.getElem?_drop,Mj (λi=>rfl),aa5 hq]at h5;exact h5
 refine rm λq=>?_;rw[gq (off:=o) (vs:=src) (by
  rw[pG];by_cases hm:m=0
  ·rw[hm];simp only[o];split<;>omega
  ·rw[Un hm];omega),gq (off:=off) (by omega),hfl,pG]
 by_cases hin:off<=q/\q<off+n
 ·rw[aa5 hin,Mj (λi=>rfl),aa5 (show q-off<n by omega)]
  by_cases hm:i<=q-off/\q-off<i+m
  ·have ho:=Un (by omega)
   rw[aa5 (by omega)];simp only[QC];rw[aa5 hm];simp only[src,List.getElem?_take,List.getElem?_drop];rw[aa5 (by omega),show off+j+(q-o)=off+(q-off-i+j)by omega];exact hcell _ (by omega)
  ·have hno:¬(o<=q/\q<o+m):=λhq=>by
    have ho:=Un (by omega);omega
   rw[aa6 hno];simp only[QC];rw[aa6 hm];have:=hcell (q-off) (by omega);rw[show off+(q-off)=q by omega]at this;exact this
 ·rw[aa6 hin]
  have hno:¬(o<=q/\q<o+m):=λhq=>by have ho:=Un (by omega);omega
  rw[aa6 hno]
theorem Bo{r:Nat}{p:List oJ}{n sz:Nat}{up:Bool}{i:Int}{u:Value}(h:rv (G:=G) J ρ (.Bp r p n sz up i) u){b:Nat}(m1:ρ r=some (cj b 0)):u=Le b (cQ p) n sz up i.toNat/\(∀s∈p,s.ok)/\i.toNat<=n:=by
 obtain⟨⟨b',o,e1,e2⟩,e3,e4⟩:=h;have eb:b'=b/\o=0:=by rcases e1 with h1|⟨n,cap,_,_,_,_,h1,_⟩<;>rw[h1]at m1<;>simp[cj]at m1;exact m1
 obtain⟨rfl,rfl⟩:=eb;rw[Nat.zero_add]at e2;exact⟨(List.cons.inj e2).1,e3,e4⟩
theorem Rb{T e bt r T' n:Nat}{x y:Operand}{p p':List oJ}{cc FZ:AV G}{k:IntKind}{f:Nat->Int}{i j:Int}(hT:tt.te.find T=some (.sl e 1 bt))(hx:dV C S [] x=some (.Bp r p n 1 true i))(hy:dV C S [] y=some (.Bp r p' n 1 true j))(hp:C6 p p'=true)(ho:cu S.O r=some (.bK T' cc))(hl:Dl tt.F cc p=some (.dat (.iK n (.int k)) f))
  (hst:Gg tt.F cc p (.dat (.iK n (.int k)) (QC i.toNat j.toNat n f))=some FZ):
  SK P ⟨d, .call ⟨.builtin .copy, #[x,y], #[T,T]⟩,ty,ps,af,g⟩ C S {S with O:=mh S.O r (.bK T' FZ)} (.int .i64 ((min (n-j.toNat) (n-i.toNat):Nat):Int)):=by
 intro c N ρ J HK X a w next Q h hk
 obtain⟨HS,h1,hs0,hm⟩:=h.st;have hE:=bU h (ch:=[]) (by simp);obtain⟨kk,q,k1,⟨b,u,m1,rfl,m3⟩,k3⟩:=h1.set ho;obtain rfl:=N8 hp;obtain⟨x1,e3,x3⟩:=Bo (hE.ok _ _ hx) m1;obtain⟨y1,_,y3⟩:=Bo (hE.ok _ _ hy) m1;have qI:=hE.ev _ _ hx;have OP:=hE.ev _ _ hy;rw[x1,DU]at qI;rw[y1,DU]at OP;obtain⟨u',n1,n2,n3⟩:=BB hl m3 e3;obtain⟨u2,e4,hr,_⟩:=n1;cases e4;have hfl:=Fc hr;have hsz:u'.cells.size=n:=by rw[← Array.length_toList,hfl,er (k:=1) (λ_ _ =>rfl),Nat.mul_one]
 rw[hsz,hfl]at n2;rw[hsz]at n3;obtain⟨u3,q1,q2,q3,q4⟩:=DK (LF (J:=J) (ρ:=ρ) (k:=k) (n:=n) (f:=QC i.toNat j.toNat n f)) hst m3 e3;have hone:kP ((u.cells.toList.drop (cQ p+j.toNat)).take (min (n-j.toNat) (n-i.toNat))):=λv hv=>by
  obtain⟨q,hq⟩:=List.mem_iff_getElem?.1 hv;have WG:q<min (n-j.toNat) (n-i.toNat):=by have:=(List.getElem?_eq_some_iff.1 hq).1;simp only[List.length_take]at this;omega
  rw[List.getElem?_take,aa5 WG,List.getElem?_drop]at hq;have h5:((u.cells.toList.drop (cQ p)).take n)[j.toNat+q]? =(flat (λq=>[Value.int k (f q)]) n)[j.toNat+q]? :=by rw[n2]
  rw[List.getElem?_take,aa5 (by omega),List.getElem?_drop, ← Nat.add_assoc,hq,Mj (λi=>rfl),aa5 (by omega)]at h5;cases h5;rfl
 have Cy:=mY (m:=HK++X) k1;haveI:nZ (HS++(HK++X)) b T' u.cells.toList:=⟨List.mem_of_getElem? Cy⟩;haveI:AO (HS++(HK++X)) b u3.cells.toList (HS.set kk (.cells b T' u3.cells.toList)++(HK++X)):=⟨kk,T',_,Cy,by rw[qf k1]⟩;refine Ng (cs:=u.cells.toList) (cs':=u3.cells.toList) (tt.sl hT).1.ok qI OP x3 y3 (by simpa using n3) hone ?_ a.defers a w next Q hs0 λ_ w' _ hs hp=>?_
 ·rw[q2]
  exact G5 x3 y3 (by simpa using n3) n2
 ·exact hk ρ J [] w' _ (aP.b5 _ _) (λ_ h=>h) rfl (h.za (k3 (.bK T' FZ) _ ⟨b,u3,m1,rfl,q1⟩) hs hp)
theorem Pf{e:Nat}{k:IntKind}(h:yC P e k=true):(P.info? e).bind (·.zero)=some (.int k 0):=by
 unfold yC at h;split at h
 ·rename_i k' n h1
  simp only[aa8,beq_iff_eq]at h;obtain rfl:=BF h.1;rw[h1,h.2]
 ·cases h
theorem Rc{T e bt r T' n:Nat}{x:Operand}{p:List oJ}{cc FZ:AV G}{k:IntKind}{f:Nat->Int}{i:Int}(hT:tt.te.find T=some (.sl e 1 bt))(hx:dV C S [] x=some (.Bp r p n 1 false i))(hi:Nat.beq i.toNat n=true)(hn:Nat.blt 0 n=true)(ho:cu S.O r=some (.bK T' cc))(hl:Dl tt.F cc p=some (.dat (.iK n (.int k)) f))(hz:yC P e k=true)
  (hst:Gg tt.F cc p (.dat (.iK n (.int k)) (λ_ =>(0:Int)))=some FZ):
  SK P ⟨d, .call ⟨.builtin .clear, #[x], #[T]⟩,ty,ps,af,g⟩ C S {S with O:=mh S.O r (.bK T' FZ)} (.iy .nil):=by
 intro c N ρ J HK X a w next Q h hk
 obtain⟨HS,h1,hs0,hm⟩:=h.st;have hE:=bU h (ch:=[]) (by simp);obtain⟨kk,q,k1,⟨b,u,m1,rfl,m3⟩,k3⟩:=h1.set ho;obtain⟨x1,e3,x3⟩:=Bo (hE.ok _ _ hx) m1;have qI:=hE.ev _ _ hx;rw[x1,DV,aa7 hi]at qI;obtain⟨u',n1,n2,n3⟩:=BB hl m3 e3;obtain⟨u2,e4,hr,_⟩:=n1;cases e4;have hfl:=Fc hr;have hsz:u'.cells.size=n:=by rw[← Array.length_toList,hfl,er (k:=1) (λ_ _ =>rfl),Nat.mul_one]
 rw[hsz]at n3;obtain⟨u3,q1,q2,q3,q4⟩:=DK (LF (J:=J) (ρ:=ρ) (k:=k) (n:=n) (f:=λ_ =>(0:Int))) hst m3 e3;have Cy:=mY (m:=HK++X) k1;haveI:nZ (HS++(HK++X)) b T' u.cells.toList:=⟨List.mem_of_getElem? Cy⟩;haveI:AO (HS++(HK++X)) b u3.cells.toList (HS.set kk (.cells b T' u3.cells.toList)++(HK++X)):=⟨kk,T',_,Cy,by rw[qf k1]⟩;have tz:Hp P e (.int k 0):=⟨Pf hz⟩;refine Ni (cs:=u.cells.toList) (cs':=u3.cells.toList) (z:= .int k 0) (tt.sl hT).1.ok tz rfl rfl qI (by simpa[Nat.blt_eq]using hn) (by simpa using n3) ?_ a.defers a w next Q hs0 λ_ w' _ hs hp=>?_
 ·rw[q2, ← uo]
  rfl
 ·exact hk ρ J [] w' _ (aP.b5 _ _) (λ_ h=>h) ⟨[],rfl,rfl⟩ (h.za (k3 (.bK T' FZ) _ ⟨b,u3,m1,rfl,q1⟩) hs hp)
end Go.Rw
namespace Go.Bw
open Go Go.RowKit
def PZ(H:List av)(w w':World):Prop:=w.heap.size<=w'.heap.size/\∀b,b<w.heap.size->b∉aU H->w'.heap[b]? =w.heap[b]?
theorem JD{P:Program}{N:Nat}{c:Cx}{D:List Deferred}{Q:Exit->Act->World->Prop}{H:List av}{g:Operand}{ps:List Nat}{assign body:Code}
  {gf n:Nat}{caps:Array Value}{Hc Ho:List av}{pY:Nat->List Value}{α β:Type}
  {a:Act}{w:World}(hst:St N c D [] H a w)(hro:c.ro=none)(hg:a.eval g= .func (.func gf) #[] caps)(Uo:∀args w,(callFunc gf args).run P w= .ok (.enter gf args) w)
  (hit:∀(ly:Nat) (J:Nat->List Nat->World->Prop) (Jx:List Nat->World->Prop) (bs:List Nat) (W1:World),PZ H w W1->(∀b∈bs,b∈aU H\/w.heap.size<=b)->aX (bs++aU Hc) W1.heap.size (.ext bs (J 0 bs)::Hc) W1->Rnd P ly (bs++aU Hc) W1 J Jx pY n->
   Calls P gf (.func (.yield ly) #[] #[]::caps.toList).toArray W1 λe w'=>∃x:Bool×List Nat,e= .returned (.tuple #[])/\aJ (bs++aU Hc) W1 w'/\aX (bs++aU Hc) W1.heap.size (.ext x.2 (bif x.1 then J n x.2 else Jx x.2)::Ho) w')(hlen:∀k,(pY k).length=ps.length)(hps:ps.all (Nat.blt · N)=true)
  (p:Nat->α->Prop)(I:Nat->α->List av)(px:Code->β->Prop)(X:β->List av)(i0:α)(Jj:p 0 i0)(hH:H=Hc++I 0 i0)
  (hbody:∀(k:Nat) (i:α) (rec:Loop) (bs:List Nat) (W:World),k<n->p k i->rec.state= .ready->rec.pending=none->c.w0.heap.size<=W.heap.size->
   (∀b,(b∈bs\/W.heap.size<=b)->(b∈c.bs\/c.w0.heap.size<=b))->PZ H w W->aX bs W.heap.size (.obj w.heap.size (.deferred (some [])):: .obj (w.heap.size+1) (.loop rec)::I k i) W->
   assign.wpIn (FA (some (w.heap.size+1))) 0 P (TM P (w.heap.size+1) body (Na ⟨some (w.heap.size+1),W,bs⟩ (JW c.w0.heap.size c.bs (p (k+1)) (λi=> .obj w.heap.size (.deferred (some [])):: .obj (w.heap.size+1) (.loop rec)::I (k+1) i))
    (JW c.w0.heap.size c.bs (λq:Code×β=>px q.1 q.2) (λq=> .obj w.heap.size (.deferred (some [])):: .obj (w.heap.size+1) (.loop {rec with state:= .done,pending:=some q.1})::X q.2))))
    {tmps:=(ps.zip (pY k)).foldl (λt q=>t.setIfInBounds q.1 q.2) a.tmps,defers:=[]} W)
  (hdone:∀i w2,p n i->PZ H w w2->St N c (mark w.heap.size::D) [] (.obj w.heap.size (.deferred (some []))::(Ho++I n i)) {a with defers:=mark w.heap.size::a.defers} w2->Q .normal {a with defers:=mark w.heap.size::a.defers} w2)
  (WU:∀j i w2,px j i->PZ H w w2->St N c (mark w.heap.size::D) [] (.obj w.heap.size (.deferred (some []))::(Ho++X i)) {a with defers:=mark w.heap.size::a.defers} w2->j.wpIn (FA c.ro) 0 P Q {a with defers:=mark w.heap.size::a.defers} w2):
  (Code.rangeFunc g ps.toArray assign body).wpIn (FA c.ro) 0 P Q a w:=by
 refine wpIn_rangeFunc λfn _ =>?_;have zu:(FA c.ro).round=none:=hro;rw[zu];obtain⟨rec,bq⟩:∃rec:Loop,rec={state:= .ready,pending:=none,fn,tmps:=a.tmps,params:=ps.toArray,assign,body,defers:=w.heap.size}:=⟨_,rfl⟩;obtain⟨W1,W9⟩:∃W1,(w.alloc (.deferred (some []))).alloc (.loop rec)=W1:=⟨_,rfl⟩;have hs1:aJ [] w W1:=by rw[← W9];exact(aJ.alloc w _).ext (aJ.alloc _ _)
 have aaW:W1.heap.size=w.heap.size+2:=by rw[← W9];simp
 have hL1:W1.heap[w.heap.size+1]? =some (.loop rec):=by rw[← W9];have:=World.alloc_heap_new (w.alloc (.deferred (some []))) (.loop rec);rwa[World.size_alloc]at this
 have hK1:W1.heap[w.heap.size]? =some (.deferred (some [])):=by rw[← W9];exact(Below.heap_alloc _ _ _ (by simp)).trans (World.alloc_heap_new w _)
 have hev:=hg;have hfr:=hst.fr;let J:Nat->List Nat->World->Prop:=λk=>JW c.w0.heap.size c.bs (p k) (λi=> .obj w.heap.size (.deferred (some [])):: .obj (w.heap.size+1) (.loop rec)::I k i);let Jx:List Nat->World->Prop:=JW c.w0.heap.size c.bs (λq:Code×β=>px q.1 q.2) (λq=> .obj w.heap.size (.deferred (some [])):: .obj (w.heap.size+1) (.loop {rec with state:= .done,pending:=some q.1})::X q.2);have WI:aX c.bs c.w0.heap.size (Hc++I 0 i0) W1:=by rw[← hH];exact hst.hp.ext hs1
 have hH1:aX c.bs c.w0.heap.size (.obj w.heap.size (.deferred (some [])):: .obj (w.heap.size+1) (.loop rec)::(Hc++I 0 i0)) W1:=by
  have hlt:∀s∈Hc++I 0 i0,∀b∈s.bK,b<w.heap.size:=λs hs b hb=>by
   have hm:s∈H:=by rw[hH];exact hs
   exact(hst.hp.own s hm b hb).2
  have aaV:=hst.si.size;refine aX.cons (aX.cons WI hL1 ?_ ?_) hK1 ?_ ?_
  ·intro b hb;have e:b=w.heap.size+1:=by simpa[av.bK]using hb
   subst e;exact⟨.inr (by omega),by omega⟩
  ·intro s hs b hb jK
   have e:b=w.heap.size+1:=by simpa[av.bK]using hb
   have:=hlt s hs b jK;omega
  ·intro b hb;have e:b=w.heap.size:=by simpa[av.bK]using hb
   subst e;exact⟨.inr (by omega),by omega⟩
  ·intro s hs b hb jK
   have e:b=w.heap.size:=by simpa[av.bK]using hb
   rcases List.mem_cons.1 hs with rfl|hs
   ·have e2:b=w.heap.size+1:=by simpa[av.bK]using jK
    omega
   ·have:=hlt s hs b jK;omega
 let I0:List av:= .obj w.heap.size (.deferred (some [])):: .obj (w.heap.size+1) (.loop rec)::I 0 i0;have hHI:aX c.bs c.w0.heap.size I0 W1:=hH1.sub (by
  refine List.Sublist.cons_cons _ (List.Sublist.cons_cons _ (List.sublist_append_right _ _)))
 have Yq:aX c.bs c.w0.heap.size Hc W1:=hH1.sub (by
  refine List.Sublist.cons _ (List.Sublist.cons _ (List.sublist_append_left _ _)))
 have hap:∀r∈I0,∀s∈Hc,r.apart s:=by
  intro r hr s hs;have hpw:=hH1.apart;rw[List.pairwise_cons,List.pairwise_cons,List.pairwise_append]at hpw;obtain⟨q1,q2,_,_,q3⟩:=hpw;rcases List.mem_cons.1 hr with rfl|hr
  ·exact q1 s (by simp[hs])
  ·rcases List.mem_cons.1 hr with rfl|hr
   ·exact q2 s (by simp[hs])
   ·exact av.pR (q3 s hs r hr)
 refine⟨w.heap.size+1,[mark w.heap.size],W1,{target:= .fn (.func gf) caps,args:= #[.func (.yield (w.heap.size+1)) #[] #[]]},W1,gf,
  (Value.func (.yield (w.heap.size+1)) #[] #[]::caps.toList).toArray,W1,?_,?_,λ_ _ =>trivial,?_,λh=>by simp at h,?_⟩
 ·rw[← W9,bq];exact run_enterLoop_outer _ _ _ _ _
 ·simp only[resolve,hev]
  simp[go_sem]
 ·have:=Uo (#[.func (.yield (w.heap.size+1)) #[] #[]]++caps) W1
  simp only[invoke];rw[this];congr 2;simp
 ·have hin:aX (aU I0++aU Hc) W1.heap.size (av.ext (aU I0) (J 0 (aU I0))::Hc) W1:=by
   refine⟨?_,?_,?_⟩
   ·intro r hr
    rcases List.mem_cons.1 hr with rfl|hr
    ·exact Hu (I:=λi=> .obj w.heap.size (.deferred (some [])):: .obj (w.heap.size+1) (.loop rec)::I 0 i) i0 Jj hHI
    ·exact Yq.holds r hr
   ·intro r hr b hb
    rcases List.mem_cons.1 hr with rfl|hr
    ·obtain⟨s,hs,jK⟩:=aN.1 hb
     exact⟨.inl (abe _ hb),(hHI.own s hs b jK).2⟩
    ·exact⟨.inl (abd _ (aN.2 ⟨r,hr,hb⟩)),(Yq.own r hr b hb).2⟩
   ·refine List.pairwise_cons.2 ⟨λs hs b hb jK=>?_,Yq.apart⟩
    obtain⟨r,hr,CN⟩:=aN.1 hb;exact hap r hr s hs b CN jK
  have LM:∀b∈aU I0++aU Hc,b∈c.bs\/c.w0.heap.size<=b:=λb hb=>by
   rcases List.mem_append.1 hb with h|h
   ·obtain⟨r,hr,CN⟩:=aN.1 h;exact(hHI.own r hr b CN).1
   ·obtain⟨r,hr,CN⟩:=aN.1 h;exact(Yq.own r hr b CN).1
  have R5:aJ c.bs c.w0 W1:=hst.si.ext hs1;have Sv:∀w',aJ (aU I0++aU Hc) W1 w'->PZ H w w':=λw' hs=>⟨by have:=hs.size;omega,λb hb hnb=>by
   have h1:b∉aU I0++aU Hc:=λhm=>hnb (by
    rw[hH];rcases List.mem_append.1 hm with hm|hm
    ·obtain⟨r,hr,CN⟩:=aN.1 hm
     rcases List.mem_cons.1 hr with rfl|hr
     ·have e:b=w.heap.size:=by simpa[av.bK]using CN
      omega
     ·rcases List.mem_cons.1 hr with rfl|hr
      ·have e:b=w.heap.size+1:=by simpa[av.bK]using CN
       omega
      ·exact aN.2 ⟨r,abd _ hr,CN⟩
    ·obtain⟨r,hr,CN⟩:=aN.1 hm
     exact aN.2 ⟨r,abe _ hr,CN⟩)
   rw[hs.block b (by omega) h1];exact hs1.block b hb (by simp)⟩
  have hbI:∀b∈aU I0,b∈aU H\/w.heap.size<=b:=λb hm=>by
   obtain⟨r,hr,CN⟩:=aN.1 hm;rcases List.mem_cons.1 hr with rfl|hr
   ·have e:b=w.heap.size:=by simpa[av.bK]using CN
    exact .inr (by omega)
   ·rcases List.mem_cons.1 hr with rfl|hr
    ·have e:b=w.heap.size+1:=by simpa[av.bK]using CN
     exact .inr (by omega)
    ·exact .inl (by rw[hH];exact aN.2 ⟨r,abd _ hr,CN⟩)
  have Ss:=hit (w.heap.size+1) J Jx (aU I0) W1 (Sv W1 (aJ.refl _ _)) hbI hin ?_
  ·refine gF c.ro ?_
   intro cs;obtain⟨e,w2,fr,⟨x,he,Wu,WV⟩,R3,BH⟩:=Ss cs;refine⟨e,w2,fr,?_,R3,BH⟩;subst he;obtain⟨go,bs'⟩:=x;have Wt:aJ c.bs c.w0 w2:=R5.trans Wu LM;have hex:=WV.holds _ (List.mem_cons_self);have aat:∀r∈Ho,r.holds w2:=λr hr=>WV.holds r (abj _ hr);have aas:∀s∈Ho,∀b∈bs',b∉s.bK:=λs hs b hb=>by have:=WV.apart;rw[List.pairwise_cons]at this;exact this.1 s hs b hb
   have both:∀(IL:List av) (jump:Option Code) (st:LoopState),st≠ .busy->bs'=aU (.obj w.heap.size (.deferred (some [])):: .obj (w.heap.size+1) (.loop {rec with state:=st,pending:=jump})::IL)->
     aX c.bs c.w0.heap.size (.obj w.heap.size (.deferred (some [])):: .obj (w.heap.size+1) (.loop {rec with state:=st,pending:=jump})::IL) w2->
     ∃w4,(Instr.endLoop (w.heap.size+1)).run P w2= .ok jump w4/\PZ H w w4/\St N c (mark w.heap.size::D) [] (.obj w.heap.size (.deferred (some []))::(Ho++IL)) {a with defers:=mark w.heap.size::a.defers} w4:=by
    intro IL jump st R4 jK hI;have hl:w2.heap[w.heap.size+1]? =some (.loop {rec with state:=st,pending:=jump}):=hI.holds (.obj (w.heap.size+1) _) (by simp);have yq:aX c.bs c.w0.heap.size (.obj w.heap.size (.deferred (some [])):: .obj (w.heap.size+1) (.loop {rec with state:=st,pending:=jump})::(Ho++IL)) w2:=by
     have hq:=hI.apart;rw[List.pairwise_cons,List.pairwise_cons]at hq;refine⟨?_,?_,?_⟩
     ·intro r hr
      rcases List.mem_cons.1 hr with rfl|hr
      ·exact hI.holds _ (by simp)
      ·rcases List.mem_cons.1 hr with rfl|hr
       ·exact hI.holds _ (by simp)
       ·rcases List.mem_append.1 hr with h|h
        ·exact aat r h
        ·exact hI.holds r (by simp[h])
     ·intro r hr b hb
      rcases List.mem_cons.1 hr with rfl|hr
      ·exact hI.own _ (by simp) b hb
      ·rcases List.mem_cons.1 hr with rfl|hr
       ·exact hI.own _ (by simp) b hb
       ·rcases List.mem_append.1 hr with h|h
        ·obtain⟨o,lt⟩:=WV.own r (abj _ h) b hb
         exact⟨o.elim (LM b) (λo=> .inr (Nat.le_trans R5.size o)),lt⟩
        ·exact hI.own r (by simp[h]) b hb
     ·have hcI:∀r,r∈(av.obj w.heap.size (.deferred (some [])):: .obj (w.heap.size+1) (.loop {rec with state:=st,pending:=jump})::IL)->∀s∈Ho,r.apart s:=λr hr s hs b hb Dp=>aas s hs b (by rw[jK];exact aN.2 ⟨r,hr,hb⟩) Dp
      refine List.pairwise_cons.2 ⟨λs hs=>?_,List.pairwise_cons.2 ⟨λs hs=>?_,List.pairwise_append.2 ⟨(List.pairwise_cons.1 WV.apart).2,hq.2.2,λs hs r hr=>av.pR (hcI r (by simp[hr]) s hs)⟩⟩⟩
      ·rcases List.mem_cons.1 hs with rfl|hs
       ·exact hq.1 _ (by simp)
       ·rcases List.mem_append.1 hs with h|h
        ·exact hcI _ (by simp) s h
        ·exact hq.1 s (by simp[h])
      ·rcases List.mem_append.1 hs with h|h
       ·exact hcI _ (by simp) s h
       ·exact hq.2.1 s h
    have Ea:St N c (mark w.heap.size::D) [] (.obj w.heap.size (.deferred (some [])):: .obj (w.heap.size+1) (.loop {rec with state:=st,pending:=jump})::(Ho++IL)) {a with defers:=mark w.heap.size::a.defers} w2:=
     ⟨hst.tm,hfr,by simp[hst.df],Wt,yq⟩
    have hso:JJ (.obj w.heap.size (.deferred (some [])):: .obj (w.heap.size+1) (.loop {rec with state:=st,pending:=jump})::(Ho++IL)) (w.heap.size+1) (.loop {rec with state:= .exhausted,pending:=jump}) (.obj w.heap.size (.deferred (some [])):: .obj (w.heap.size+1) (.loop {rec with state:= .exhausted,pending:=jump})::(Ho++IL)):=inferInstance;have ho:JM (.obj w.heap.size (.deferred (some [])):: .obj (w.heap.size+1) (.loop {rec with state:=st,pending:=jump})::(Ho++IL)) (w.heap.size+1) (.loop {rec with state:=st,pending:=jump}):=inferInstance;obtain⟨h3,_⟩:=Ea.mh ho hso;have hap:=Sv w2 Wu;refine⟨_,run_endLoop hl R4,⟨by have:=hap.1;simpa[World.putObj]using this,λb hb hnb=>(World.putObj_heap_other (by omega)).trans (hap.2 b hb hnb)⟩,⟨h3.tm,h3.fr,h3.df,h3.si,h3.hp.sub ?_⟩⟩;exact List.Sublist.cons_cons _ (List.Sublist.cons _ (List.Sublist.refl _))
   cases go with
   |true=>
    obtain⟨i,OT,hI,jK⟩:=yx hex;have hrr:({rec with state:=LoopState.ready,pending:=none}:Loop)=rec:=by rw[bq]
    obtain⟨w4,h4,h4a,h5⟩:=both (I n i) none .ready (by simp) (by rw[hrr];exact jK) (by rw[hrr];exact hI);exact⟨none,w4,h4,hdone i _ OT h4a h5⟩
   |false=>obtain⟨⟨j,i⟩,OT,hI,jK⟩:=yx hex;obtain⟨w4,h4,h4a,h5⟩:=both (X i) (some j) .done (by simp) jK hI;exact⟨some j,w4,h4,WU j i _ OT h4a h5⟩
  ·
   intro k hk2 W bs hsW aa1 aan;obtain⟨i,OT,hI,jK⟩:=yx aan;have hl:W.heap[w.heap.size+1]? =some (.loop rec):=hI.holds (.obj (w.heap.size+1) _) (by simp);have hy:=run_yield (P:=P) (args:=(pY k).toArray) hl (by rw[bq];simpa using hlen k);refine⟨_,_,_,_,hy,?_⟩;have Wv:aJ c.bs c.w0 W:=R5.trans hsW LM;have hsub:∀b,(b∈aU (av.obj w.heap.size (.deferred (some [])):: .obj (w.heap.size+1) (.loop rec)::I k i)\/W.heap.size<=b)->(b∈c.bs\/c.w0.heap.size<=b):=λb hb=>by
    rcases hb with hb|hb
    ·obtain⟨r,hr,CN⟩:=aN.1 hb;exact(hI.own r hr b CN).1
    ·exact .inr (Nat.le_trans Wv.size hb)
   have hb:=hbody k i rec bs W hk2 OT (by rw[bq]) (by rw[bq]) Wv.size (λb hb=>hsub b (by rw[← jK];exact hb)) (Sv W hsW);have ht:=Oq (ps:=ps) (vs:=pY k) hfr hst.tm hps;have Z1:(rec.params.zip (pY k).toArray).foldl (λtmps (t,a)=>tmps.setIfInBounds t a) rec.tmps=(ps.zip (pY k)).foldl (λt q=>t.setIfInBounds q.1 q.2) a.tmps:=by rw[bq];simp
   rw[Z1];have Yj:rec.assign=assign/\rec.body=body:=by rw[bq];exact⟨rfl,rfl⟩
   rw[Yj.1,Yj.2];have hI':aX bs W.heap.size (.obj w.heap.size (.deferred (some [])):: .obj (w.heap.size+1) (.loop rec)::I k i) W:=
    ⟨hI.holds,λr hr b hb=>⟨.inl (by rw[jK];exact aN.2 ⟨r,hr,hb⟩),(hI.own r hr b hb).2⟩,hI.apart⟩
   have zu:=roundIn_of_wpIn (F:=FA none) (n:=0) (P:=P) (l:=w.heap.size+1) (f:=rec.fn) (R:=Na ⟨some (w.heap.size+1),W,bs⟩ (J (k+1)) Jx) trivial
    (hb hI')
   refine zu.mono λe W' hr=>?_;exact hr
section rounds
variable {P:Program} {N:Nat} {c:Cx} {H:List av} {l dd:Nat} {α β:Type} {n0:Nat} {cb:List Nat} {p:α->Prop} {I:α->List av} {px:β->Prop} {X:β->List av}
theorem Od{rec:Loop}{a:Act}{w:World}(hr:rec.state= .ready)(hrp:rec.pending=none)(hT:∀b,(b∈c.bs\/c.w0.heap.size<=b)->(b∈cb\/n0<=b)){JX:List Nat->World->Prop}
  (hst:St N c [] [] (.obj dd (.deferred (some [])):: .obj l (.loop {rec with state:= .busy})::H) a w)(i:α)(hp:p i)(hI:I i= .obj dd (.deferred (some [])):: .obj l (.loop rec)::H):roundPost P l (Na c (JW n0 cb p I) JX) .normal a w:=by
 obtain⟨h1,h2⟩:=hst.mh (b:=l) (o':= .loop rec) inferInstance inferInstance;have e:({{rec with state:=LoopState.busy}with state:=if(none:Option Code).isNone then LoopState.ready else .done,pending:=none}:Loop)=rec:=by cases rec;simp_all
 have hrun:=run_endRound (P:=P) none h2;rw[e]at hrun;have hh:=h1.hp;rw[← hI]at hh;refine⟨_,_,hrun,aU (I i),?_,h1.si, .inl ⟨rfl,?_⟩⟩
 ·intro b hb;exact aJ.Qb hh hb
 ·exact Hu i hp ⟨hh.holds,λr hr b hb=>⟨hT b (hh.own r hr b hb).1,(hh.own r hr b hb).2⟩,hh.apart⟩
theorem Oc{rec:Loop}{a:Act}{w:World}(hT:∀b,(b∈c.bs\/c.w0.heap.size<=b)->(b∈cb\/n0<=b)){JT:List Nat->World->Prop}{e:Exit}{j:Code}(hj:(e= .ret/\j= .ret)\/(∃id,e= .exit id/\j= .exit id))
  (hst:St N c [] [] (.obj dd (.deferred (some [])):: .obj l (.loop {rec with state:= .busy})::H) a w)(i:β)(hp:px i)(hI:X i= .obj dd (.deferred (some [])):: .obj l (.loop {rec with state:= .done,pending:=some j})::H):roundPost P l (Na c JT (JW n0 cb px X)) e a w:=by
 obtain⟨h1,h2⟩:=hst.mh (b:=l) (o':= .loop {rec with state:= .done,pending:=some j}) inferInstance inferInstance;have hrun:=run_endRound (P:=P) (some j) h2;have hh:=h1.hp;rw[← hI]at hh;have fin:∃v w',(Instr.endRound l (some j)).run P w= .ok v w'/\Na c JT (JW n0 cb px X) (.returned v) w':=by
  refine⟨_,_,hrun,aU (X i),?_,h1.si, .inr ⟨rfl,?_⟩⟩
  ·intro b hb;exact aJ.Qb hh hb
  ·exact Hu i hp ⟨hh.holds,λr hr b hb=>⟨hT b (hh.own r hr b hb).1,(hh.own r hr b hb).2⟩,hh.apart⟩
 rcases hj with⟨rfl,rfl⟩|⟨id,rfl,rfl⟩
 ·exact fin
 ·exact fin
end rounds
end Go.Bw
namespace Go.Rw
open Go Go.Bw Go.RowKit
variable {G:Sg} {P:Program}
inductive Ex(G:Sg) where
 |gM
 |exit (i:Nat)
 |ret
 |rE (v:AV G)
inductive Cf where
 |code (c:Code)
 |ops (all:Array Oper) (l:List Oper)
 |lp (x:Code)
structure FI where
 code:Code
 N:Nat
 zf:List ResultVar
def BN(P:Program)(k:Nat):Option FI:=match P.funcs[k]? with
 |some fn=>match fn.body with
  |some code=>bif fn.name== "runtime.NumGoroutine" then none else some ⟨code,fn.ntmps,fn.results.toList⟩
  |none=>none
 |none=>none
inductive JN where
 |slot (d:Nat)
 |via (d:Nat)
 |cap (d i:Nat)
inductive Hn where
 |loop (l:List (JN×Sh))
 |join (l:List (JN×Sh)) (ex:List Nat)
 |Ge
def Ow:Nat->List (Option Nat)->List (Option Nat)
 |0,l=>l
 |n+1,l=>none::Ow n l
def Xr(C:CC G)(S:AS G)(d i:Nat):Option Nat:=match dV C S [] (.tmp d)with
 |some (.fn _ _ cap)=>match Je cap i with
  |some (.ptr q [])=>some q
  |_ =>none
 |_ =>none
def HT(O:Os G):Sh->AV G->List (Option Nat)
 | .box _ s, .ptr r []=>some r::(match cu O r with
  |some (.bK _ c)=>HT O s c
  |_ =>Ow (yA s) [])
 | .fn _ a c, .fn _ x y=>HT O a x++HT O c y
 | .iy a, .iy x=>HT O a x
 | .st a, .st x=>HT O a x
 | .fW _ a, .fW _ x=>HT O a x
 | .cons a c, .cons x y=>HT O a x++HT O c y
 | .part _ a c, .part _ x y=>HT O a x++HT O c y
 |s,_ =>Ow (yA s) []
def Rj(C:CC G)(S:AS G):List (JN×Sh)->Option FU
 |[]=>some ⟨[],[]⟩
 |(.slot d,s)::r=>match Rj C S r with
  |some g=>some ⟨(.slot d,s)::g.l,Ow (yA s) g.nm⟩
  |none=>none
 |(.via d,s)::r=>match dV C S [] (.tmp d),Rj C S r with
  |some (.ptr q []),some g=>some ⟨(.obj q,s)::g.l,HT S.O s (.ptr q [])++g.nm⟩
  |_,_ =>none
 |(.cap d i,s)::r=>match Xr C S d i,Rj C S r with
  |some q,some g=>some ⟨(.obj q,s)::g.l,HT S.O s (.ptr q [])++g.nm⟩
  |_,_ =>none
def EZ(C:CC G)(S:AS G):List Nat->List Nat
 |[]=>[]
 |d::r=>match dV C S [] (.tmp d)with
  |some (.ptr q [])=>q::EZ C S r
  |some (.row q)=>q::EZ C S r
  |_ =>EZ C S r
def vO(O:Os G):Sh->AV G->List Nat
 | .row _ _ _, .row r=>[r]
 | .v _, .row r=>[r]
 | .box _ s, .ptr r []=>r::(match cu O r with
  |some (.bK _ c)=>vO O s c
  |_ =>[])
 | .fn _ a c, .fn _ x y=>vO O a x++vO O c y
 | .iy a, .iy x=>vO O a x
 | .st a, .st x=>vO O a x
 | .fW _ a, .fW _ x=>vO O a x
 | .cons a c, .cons x y=>vO O a x++vO O c y
 | .part _ a c, .part _ x y=>vO O a x++vO O c y
 |_,_ =>[]
def Ku(C:CC G)(S:AS G):List (JN×Sh)->List Nat
 |[]=>[]
 |(.slot d,s)::r=>(match dV C S [] (.tmp d)with
  |some v=>vO S.O s v
  |none=>[])++Ku C S r
 |(.via d,s)::r=>(match dV C S [] (.tmp d)with
  |some v=>vO S.O s v
  |none=>[])++Ku C S r
 |(.cap d i,s)::r=>(match Xr C S d i with
  |some q=>vO S.O s (.ptr q [])
  |none=>[])++Ku C S r
structure Vw(G:Sg)(L:List Ty) where
 lp:{Z:Type}->((HL G L->Option Z)->HL G L->Option Z)->Nat->HL G L->Option Z
 e0:∀{Z:Type} (B:(HL G L->Option Z)->HL G L->Option Z) (e:HL G L),lp B 0 e=none
 e1:∀{Z:Type} (B:(HL G L->Option Z)->HL G L->Option Z) (n:Nat) (e:HL G L),lp B (n+1) e=B (λe=>lp B n e) e
def Qj{Z:Type}{L:List Ty}:Option (Vw G L)->((HL G L->Option Z)->HL G L->Option Z)->Nat->HL G L->Option Z
 |some v=>v.lp
 |none=>ZA L
theorem HX{Z:Type}{L:List Ty}{o:Option (Vw G L)}{B:(HL G L->Option Z)->HL G L->Option Z}{n:Nat}{e:HL G L}{z:Z}(h:Qj o B n e=some z):∃m,n=m+1/\B (Qj o B m) e=some z:=by
 cases o with
 |none=>exact VM h
 |some v=>
  cases n with
  |zero=>rw[show Qj (some v) B 0 e=none from v.e0 B e]at h;cases h
  |succ n=>exact⟨n,rfl,by rw[show Qj (some v) B (n+1) e=B (λe=>v.lp B n e) e from v.e1 B n e]at h;exact h⟩
def XQ(P:Program)(k:Nat)(qH:Sh)(n:Nat)(ys:Sh){B:Type}(en:B->HL G (aD ys))(f:HL G (aD qH)->Option (List B)):Prop:=∀(ρ:aP) (J:World->Prop) (HB X:List av) (vs:List Value) (x:HL G (aD qH)) (l:List B),f x=some l->rl J ρ (cZ (λm=>m) qH x 0).1 vs->RO J ρ (cZ (λm=>m) qH x 0).2.1 HB->JY G X J->ρ.fr (cZ (λm=>m) qH x 0).2.2-> ∃pY:Nat->List Value,(∀(σ:aP) i y,l[i]? =some y->rl J σ (cZ (λm=>m) ys (en y) 0).1 (pY i))/\(∀i,(pY i).length=n)/\ ∀(ly:Nat) (Jy:Nat->List Nat->World->Prop) (Jx:List Nat->World->Prop) (bs:List Nat) (w:World),aX (bs++(aU HB++aU X)) w.heap.size (.ext bs (Jy 0 bs)::(HB++X)) w->Rnd P ly (bs++aU HB) w Jy Jx pY l.length-> Calls P k (Value.func (.yield ly) #[] #[]::vs).toArray w λen w'=>∃x:Bool×List Nat,en= .returned (.tuple #[])/\aJ (bs++aU HB) w w'/\aX (bs++aU HB) w.heap.size (.ext x.2 (bif x.1 then Jy l.length x.2 else Jx x.2)::[]) w'
structure It(P:Program)(G:Sg) where
 k:Nat
 qH:Sh
 n:Nat
 ys:Sh
 B:Type
 en:B->HL G (aD ys)
 f:HL G (aD qH)->Option (List B)
 fn:∃fn,P.funcs[k]? =some fn/\fn.body.isSome=true/\(fn.name== "runtime.NumGoroutine")=false
 ok:XQ P k qH n ys en f
structure T6(P:Program)(f T n:Nat)(out:Int->List Value):Prop where
 enter:∀args w,(callFunc f args).run P w= .ok (.enter f args) w
 ret:∀b w,CallsDIn (FA none) 0 P f #[cj b 0] .returning w λen u' w'=>(∃v,en= .returned v)/\u'= .returning/\aJ [] w w'
 rE:∀(b Tb:Nat) (xs:List Value) (e:Int) (w:World),xs.length=n->w.heap[b]? =some (.cells xs.toArray Tb (0,0))->CallsDIn (FA none) 0 P f #[cj b 0] (.panicking [{v:= .iface T (.int .i64 e),recovered:=false}]) w λen u' w'=>(∃v,en= .returned v)/\settle u'= .returning/\aJ [b] w w'/\w'.heap[b]? =some (.cells (out e).toArray Tb (0,0))
structure Ek(P:Program)(G:Sg) where
 k:Nat
 T:Nat
 n:Nat
 out:Int->List Value
 v:Int->AV G
 hv:∀(J:World->Prop) (ρ:aP) (e:Int),∃u,rv J ρ (v e) u/\u.cells.toList=out e
 ok:T6 P k T n out
structure tD(P:Program)(G:Sg) where
 tt:TT P G
 zt:ZT P G
 hint:List Nat->Nat->Option Hn
 calls:Nat->List (Ct P G)
 fu:Nat
 vw:Nat->(L:List Ty)->Option (Vw G L)
 ON:Nat->List (It P G)
 ek:Nat->List (Ek P G)
 jw:Bool
def I5:Code->Option Nat
 | .region i _ _ =>some i
 | .seq a b=>match I5 a with
  |some i=>some i
  |none=>I5 b
 | .cond _ a b=>match I5 a with
  |some i=>some i
  |none=>I5 b
 | .block _ x=>I5 x
 | .loop x=>I5 x
 | .scope x=>I5 x
 |_ =>none
def Zi:List Oper->List Nat
 |[]=>[]
 |o::r=>match o.dst with
  |some d=>d::Zi r
  |none=>Zi r
def C2:Code->List Nat
 | .region _ ops _ =>Zi ops.toList
 | .seq a b=>C2 a++C2 b
 | .cond _ a b=>C2 a++C2 b
 | .block _ x=>C2 x
 | .loop x=>C2 x
 | .scope x=>C2 x
 | .rangeFunc _ ps a b=>ps.toList++C2 a++C2 b
 |_ =>[]
def guW{Z:Type}:List Bool->Option Z->Option Z
 |[],k=>k
 |b::r,k=>gu b (guW r k)
def guG{Z:Type}(g:Bool):List Bool->Option Z->Option Z
 |[],k=>k
 |b::r,k=>gu (!g||b) (guG g r k)
def DT(C:CC G)(S:AS G)(ch:List (Nat×Bool))(j:Nat)(b:Bool)(y z:Operand):Option (AV G):=match z,y with
 | .const (.bool false),y=>match FX C S y,dV C S ch y with
  |some (.gd k true x),none=>match Pp x with
   |some u=>bif Nat.beq k j then some (.bool (b&&u))else none
   |none=>none
  |_,some x=>match Pp x with
   |some u=>some (.bool (b&&u))
   |none=>none
  |_,_ =>none
 |z, .const (.bool true)=>match FX C S z,dV C S ch z with
  |some (.gd k false x),none=>match Pp x with
   |some u=>bif Nat.beq k j then some (.bool (b||u))else none
   |none=>none
  |_,some x=>match Pp x with
   |some u=>some (.bool (b||u))
   |none=>none
  |_,_ =>none
 |_,_ =>none
def Gv(C:CC G)(S:AS G)(ch:List (Nat×Bool))(x y z:Operand):Option (AV G):=match dV C S ch x,x with
 |some (.kb b),_ =>dV C S ch (bif b then y else z)
 |some (.bool b), .tmp j=>DT C S ch j b y z
 |_,_ =>none
def Ue(tt:TT P G)(zt:ZT P G)(C:CC G)(S:AS G)(ch:List (Nat×Bool)):Op->PV G
 | .pick x y z=>match Gv C S ch x y z with
  |some v=>some ([],v)
  |none=>none
 | .build T parts=>K9 tt zt (dV C S ch) T parts.toList
 | .slice T x lo hi mx=>match Rr tt (dV C S ch) T x lo hi mx with
  |some r=>some r
  |none=>KX P tt (dV C S ch) T x lo hi mx
 | .index T x y=>match K3 P (dV C S ch) T x y with
  |some r=>some r
  |none=>pv tt (Lm C S) (dV C S ch) (.index T x y)
 | .binOp o T x y U=>match pv tt (Lm C S) (dV C S ch) (.binOp o T x y U)with
  |some r=>some r
  |none=>match dV C S ch x,dV C S ch y with
   |some a,some b=>K7 tt o T a b
   |_,_ =>none
 |op=>pv tt (Lm C S) (dV C S ch) op
def uL:Nat->AV G->Fr G
 |i, .cons v r=>(i,v)::uL (i+1) r
 |_,_ =>[]
def zo:AV G->Nat
 | .cons _ r=>zo r+1
 |_ =>0
def Oe(tt:TT P G)(C:CC G)(S:AS G):ResultVar->Option (AV G)
 | .tmp t=>dV C S [] (.tmp t)
 | .cell t ty=>match dV C S [] (.tmp t)with
  |some (.ptr r [])=>match Lm C S r with
   |some (.bK _ c)=>bif ry tt ty c then some c else none
   |_ =>none
  |_ =>none
def Oh(tt:TT P G)(C:CC G)(S:AS G):List ResultVar->Option (AV G)
 |[]=>some .nil
 |r::q=>match Oe tt C S r,Oh tt C S q with
  |some v,some l=>some (.cons v l)
  |_,_ =>none
def AB(tt:TT P G)(C:CC G)(S:AS G):List ResultVar->Option (AV G)
 |[r]=>Oe tt C S r
 |l=>match Oh tt C S l with
  |some v=>some (.iy v)
  |none=>none
def Zz{Z:Type}:AV G->(AV G->Option Z)->Option Z
 | .dat t x,k=>lt x λx=>k (.dat t x)
 | .int q n,k=>lt n λn=>k (.int q n)
 | .bool b,k=>lt b λb=>k (.bool b)
 |v,k=>k v
def Ns{Z:Type}(F:Hv G):AV G->List oJ->AV G->(AV G->Option Z)->Option Z
 |c,[],v,k=>match Uc c v with
  |some c'=>Zz c' k
  |none=>none
 | .dat t x,p,v,k=>match path F p t with
  |some q=>match wT q.m v with
   |some y=>lt (q.set x y) λx'=>k (.dat t x')
   |none=>none
  |none=>none
 | .st a, .Ag _ o::r,v,k=>match partAt a o with
  |some (_,c)=>Ns F c r v λc'=>match xS a o c' with
   |some a'=>k (.st a')
   |none=>none
  |none=>none
 |_,_,_,_ =>none
theorem VJ{Z:Type}{v:AV G}{k:AV G->Option Z}{z:Z}(h:Zz v k=some z):k v=some z:=by cases v<;>exact h
theorem Ky{Z:Type}{F:Hv G}:∀{p:List oJ} {c v:AV G} {k:AV G->Option Z} {z:Z},Ns F c p v k=some z->∃c',Gg F c p v=some c'/\k c'=some z:=by
 intro p
 induction p with
 |nil=>
  intro c v k z h;have h:(match Uc c v with
   |some c'=>Zz c' k
   |none=>none)=some z:=by unfold Ns at h;exact h
  split at h
  ·rename_i c' hc;exact⟨c',by unfold Gg;exact hc,VJ h⟩
  ·cases h
 |cons s r ih=>
  intro c v k z h;cases c with
  |dat t x=>
   simp only[Ns]at h;split at h
   ·rename_i q hq
    split at h
    ·rename_i y hy;exact⟨_,by simp only[Gg,hq,hy],h⟩
    ·cases h
   ·cases h
  |st a=>
   cases s with
   |Ag j o=>
    simp only[Ns]at h;split at h
    ·rename_i w c1 hp
     obtain⟨c2,h1,h2⟩:=ih h;split at h2
     ·rename_i a' ha;exact⟨_,by simp only[Gg,hp,h1,ha],h2⟩
     ·cases h2
    ·cases h
   |idx _ _ _ =>simp[Ns]at h
  |_ =>simp[Ns]at h
def wA:AV G->Bool
 | .gd _ _ _ =>false
 |_ =>true
def Mr:List (AV G)->Os G->Option (Os G)
 |[],O=>some O
 | .ptr r []::D,O=>match cu O r with
  |some (.aux true)=>Mr D (uR O r)
  |_ =>none
 |_ ::_,_ =>none
def Vt:AV G->Option (Nat×Int)
 | .fW T (.int .i64 x)=>some (T,x)
 | .fW T (.lit .i64 x)=>some (T,x)
 |_ =>none
def isN:Option Nat->Nat->Bool
 |some m,n=>Nat.beq m n
 |none,_ =>false
def exE:Ex G->Bool
 | .gM=>true
 | .ret=>true
 |_ =>false
def l6(ek:Nat->List (Ek P G)):Ex G->List (AV G)->Os G->Option (Ex G×Os G)
 |e,[],O=>some (e,O)
 |e, .ptr r []::D,O=>match cu O r,exE e with
  |some (.aux true),true=>l6 ek e D (uR O r)
  |_,_ =>none
 |e, .cons (.fn (.func k) .nil c) l::D,O=>match ek k,jC l c with
  |q::_, .cons (.ptr r []) .nil=>match cu O r with
   |some (.bK T' c0)=>bif Nat.beq q.k k&&(mB l&&mB c)then(match e with
    | .gM=>l6 ek .gM D O
    | .ret=>l6 ek .ret D O
    | .rE v=>(match Vt v with
     |some (T,x)=>bif Nat.beq q.T T&&isN c0.RD q.n then l6 ek .ret D (mh O r (.bK T' (q.v x)))else none
     |none=>none)
    |_ =>none)else none
   |_ =>none
  |_,_ =>none
 |_,_ ::_,_ =>none
def SP(S:AS G):Option (AS G):=match Mr S.D S.O with
 |some O=>some ⟨S.F,O,S.nx,[]⟩
 |none=>none
def Dv{Z:Type}(N:Nat)(C:CC G):List Nat->AV G->AS G->(AS G->Option Z)->Option Z
 |[], .nil,S,k=>k S
 |p::ps, .cons v r,S,k=>match qD N C (some p) v S with
  |some S'=>bif wA v then Dv N C ps r S' k else none
  |none=>none
 |_,_,_,_ =>none
def flF:CC G->Fr G
 |[]=>[]
 |y::r=>y.F++flF r
def N2(g:FU)(base:Nat)(x:HL G (aD (oA g.l))):AS G:=⟨[],(CK g base x).O,(CK g base x).nx,[]⟩
def I8(m:Nat)(S1:AS G)(O:Os G)(S:AS G):AS G:=⟨S1.F,(m, .aux true)::(S.O++O),S.nx, .ptr m []::S1.D⟩
def Uf(N:Nat):List Nat->Bool
 |[]=>true
 |p::r=>Nat.blt p N&&Uf N r
def Lq:List (AV G)->Bool
 |[]=>true
 |_ =>false
abbrev WT(G:Sg)(Z:Type):=(N:Nat)->(cp:List Nat)->CC G->Cf->AS G->(Ex G->AS G->Option Z)->Option Z
def eu{Z:Type}(rec:WT G Z)(N:Nat)(cp:List Nat)(C:CC G)(all:Array Oper)(r:List Oper)(d:Option Tmp)(v:AV G)(S:AS G)(K:Ex G->AS G->Option Z):Option Z:=match qD N C d v S with
 |some S'=>bif wA v then rec N cp C (.ops all r) S' K else none
 |none=>none
def U5{Z:Type}(C:CC G)(O:Os G)(nx:Nat)(aa4:AV G)(fit:(ct:Ct P G)->HI G ct.s->GS G->Option Z)(Xg:List Nat->List (Nat×Sh)->Option Z)(no:Option Z):List (Ct P G)->Option Z
 |[]=>no
 |ct::r=>match zv C O nx ct.s aa4 with
  |some (x,g')=>fit ct x g'
  |none=>match Xw C O ct.s aa4,Vz C O ct.s aa4 with
   |[],[]=>U5 C O nx aa4 fit Xg no r
   |b,l=>Xg b l
def ctK{Z:Type}(rec:WT G Z)(N:Nat)(cp:List Nat)(C:CC G)(all:Array Oper)(r:List Oper)(d:Option Tmp)(S:AS G)(K:Ex G->AS G->Option Z)(ct:Ct P G)(x:HI G ct.s)(g':GS G):Option Z:=
 ct.cp x (λy=>match Nw (cZ (Gy g'.th g'.nx ct.s.nm) ct.s.bI y 0).1 with
  |some v=>eu rec N cp C all r d v (Pd g' ct.s.bI ct.s.nm y S) K
  |none=>none) (λy=>match Nw (cZ (Gy g'.th g'.nx ct.s.Lf) ct.s.eX y 0).1 with
  |some v=>K (.rE v) (Pd g' ct.s.eX ct.s.Lf y S)
  |none=>none)
def ctG{Z:Type}(rec:WT G Z)(N:Nat)(cp:List Nat)(C:CC G)(all:Array Oper)(r:List Oper)(d:Option Tmp)(S:AS G)(K:Ex G->AS G->Option Z)(j:Nat)(w g:Bool)(ct:Ct P G)(x:HI G ct.s)(no:Option Z):Option Z:=match ct.s.nm with
 |[]=>bif A1 true ct.s.qH&&A1 false ct.s.bI then ct.cg g x (λy=>match Nw (cZ (λm=>m) ct.s.bI y 0).1 with
  |some v=>(match qD N C d (.gd j w v) S with
   |some S'=>rec N cp C (.ops all r) S' K
   |none=>none)
  |none=>none)else no
 |_ =>no
def FE(C:CC G)(S:AS G)(ch:List (Nat×Bool)):Op->Option (Nat×AV G)
 | .call ⟨.value f,args,_⟩=>match dV C S ch f,G1 (dV C S ch) args.toList with
  |some (.fn (.func k) fst cap),some l=>bif (mB fst&&mB l)&&mB cap then some (k,jC fst (jC l cap))else none
  |_,_ =>none
 |_ =>none
def ctT{Z:Type}(tb:tD P G)(rec:WT G Z)(N:Nat)(cp:List Nat)(C:CC G)(all:Array Oper)(r:List Oper)(o:Oper)(S:AS G)(K:Ex G->AS G->Option Z)(j:Nat)(w:Bool)(no:Option Z):Option Bool->Option (Nat×AV G)->Option Z
 |some g,some (k,aa4)=>U5 C S.O S.nx aa4 (λct x _ =>bif Nat.beq ct.s.k k then ctG rec N cp C all r o.dst S K j w g ct x no else none) (λb l=>rec N cp C (.ops all (o::r)) (xU l (uK b S)) K) no (tb.calls k)
 |_,_ =>no
def HE(C:CC G)(S:AS G):List Operand->List Nat
 |[]=>[]
 |x::r=>match FX C S x with
  |some (.row q)=>(match cu S.O q with
   |some _ =>q::HE C S r
   |none=>HE C S r)
  |_ =>HE C S r
def QB:AV G->List oJ->Bool
 | .dat _ _,_ ::_ =>true
 | .st a, .Ag _ o::r=>match partAt a o with
  |some (_,c)=>QB c r
  |none=>false
 |_,_ =>false
def Zl(C:CC G)(S:AS G)(x y:Operand):Option Nat:=match dV C S [] x,dV C S [] y with
 |some (.ptr r p),some (.row q)=>match cu S.O q,cu S.O r with
  |some (.row _ _ _ _),some (.bK _ c)=>bif QB c p then some q else none
  |_,_ =>none
 |_,_ =>none
def X5{Z:Type}:List (Int×Nat)->Int->(Option Nat->Option Z)->Option Z
 |[],_,c=>c none
 |(a,f)::r,k,c=>cn (k==a) (c (some f)) (X5 r k c)
theorem VW{Z:Type}{k:Int}{c:Option Nat->Option Z}{z:Z}:∀{l:List (Int×Nat)},X5 l k c=some z->c (DJ l k)=some z:=by
 intro l
 induction l with
 |nil=>exactλh=>h
 |cons p r ih=>
  obtain⟨a,f⟩:=p;intro h;simp only[X5,DJ]at h ⊢;cases hb:(k==a)with
  |true=>rw[hb]at h;exact h
  |false=>rw[hb]at h;exact ih h
def QY{Z:Type}(tb:tD P G)(rec:WT G Z)(N:Nat)(cp:List Nat)(C:CC G)(all:Array Oper)(r:List Oper)(o:Oper)(S:AS G)(K:Ex G->AS G->Option Z):Option Z:=match Ue tb.tt tb.zt C S [] o.op with
 |some (gs,v)=>guW gs (eu rec N cp C all r o.dst v S K)
 |none=>match HE C S o.op.operands.toList with
  |[]=>none
  |b=>rec N cp C (.ops all (o::r)) (uK b S) K
def VZ(tb:tD P G)(cp:List Nat)(d:Option Tmp):Bool:=match d with
 |some d=>match tb.hint cp (1000000+d)with
  |some _ =>true
  |none=>false
 |none=>false
def SY(o:Oper)(T:Nat):List Oper->Option (Nat×List Oper)
 |⟨none, .call ⟨.builtin .clear,a,t⟩,_,_,_,none⟩::r=>match o.dst,o.guard,a.toList,t.toList with
  |some d1,none,[.tmp d2],[T2]=>bif Nat.beq d1 d2&&Nat.beq T T2 then some (d1,r)else none
  |_,_,_,_ =>none
 |_ =>none
def tyB(tb:tD P G)(e:Nat):AV G->Option Ty
 | .gW=>match tb.tt.te.find e with
  |some (.sl e2 _ _)=>(match tb.zt.z.find e2 with
   |some z2=>(match tyA z2 with
    |some t=>some (.sl t)
    |none=>none)
   |none=>none)
  |_ =>none
 |z=>tyA z
def Rh:List TypeId->TypeId->Bool
 |[a,b],T=>Nat.beq a T&&Nat.beq b T
 |_,_ =>false
def Zy(P:Program)(T:Nat):Option IntKind:=match P.underlying T with
 |some (.map k _)=>(match P.underlying k with
  |some (.int q)=>some q
  |_ =>none)
 |_ =>none
def XZ{Z:Type}(tb:tD P G)(rec:WT G Z)(N:Nat)(cp:List Nat)(C:CC G)(all:Array Oper)(r:List Oper)(o:Oper)(S:AS G)(K:Ex G->AS G->Option Z):Option Z:=match o.op with
 | .box T x=>match dV C S [] x with
  |some v=>eu rec N cp C all r o.dst (.ptr S.nx []) {S with O:=(S.nx, .bK T v)::S.O,nx:=S.nx+1} K
  |none=>none
 | .alloc T=>match tb.zt.z.find T with
  |some v=>eu rec N cp C all r o.dst (.ptr S.nx []) {S with O:=(S.nx, .bK T v)::S.O,nx:=S.nx+1} K
  |none=>none
 | .store T x y=>match Zl C S x y with
  |some q=>rec N cp C (.ops all (o::r)) (uK [q] S) K
  |none=>match dV C S [] x,dV C S [] y with
  |some (.ptr q p),some v=>match cu S.O q with
   |some (.bK T' c)=>bif ry tb.tt T v then Ns tb.tt.F c p v λc'=>eu rec N cp C all r o.dst .IW {S with O:=mh S.O q (.bK T' c')} K else none
   |some (.row e sz t xs)=>bif LY p sz&&ry tb.tt T v then(match Bs tb.tt.F t p with
    |some pl=>(match wT pl.m v with
     |some y=>lt (xs.set pl.i.toNat (pl.set (xs.getD pl.i.toNat default) y)) λzs=>eu rec N cp C all r o.dst .IW {S with O:=mh S.O q (.row e sz t zs)} K
     |none=>none)
    |none=>none)else none
   |_ =>none
  |_,_ =>none
 | .buildSlice T n parts=>match tb.tt.te.find T with
  |some (.sl e sz _)=>match tb.zt.z.find e with
   |some z=>match tyB tb e z with
    |some t=>match Xl t (dV C S []) 0 parts.toList with
     |some xs=>bif (Nat.beq xs.length n&&Nat.beq (t.L G).n sz)&&(Nat.blt 0 (n*sz)&&Nat.ble (n*sz) 16777216)then eu rec N cp C all r o.dst (.row S.nx) {S with O:=(S.nx, .row e sz t xs)::S.O,nx:=S.nx+1} K else none
     |none=>QY tb rec N cp C all r o S K
    |none=>none
   |none=>none
  |_ =>none
 | .makeSlice T (.tmp s) (.tmp s')=>bif Nat.beq s s' then(match iZ (dV C S [] (.tmp s)),tb.tt.te.find T with
  |some (_,i,_),some (.sl e sz bt)=>(match tb.zt.z.find e with
   |some (.int k z0)=>bif Nat.beq sz 1&&Nat.blt 0 bt then gu (decide (0<=i)) (gu (g5 0 i.toNat bt) (lt (List.replicate i.toNat z0) λzs=>eu rec N cp C all r o.dst (.row S.nx) {S with O:=(S.nx, .row e 1 (.int k) zs)::S.O,nx:=S.nx+1} K))else none
   |_ =>none)
  |_,_ =>none)else none
 | .panic x=>match dV C S [] x with
  |some (.fW t v)=>K (.rE (.fW t v)) S
  |_ =>none
 | .defer ⟨.value f,args,_⟩=>match dV C S [] f,G1 (dV C S []) args.toList,o.dst with
  |some (.fn (.func k) a c),some l,none=>bif (mB a&&mB l)&&(mB c&&Bx (rh C))then rec N cp C (.ops all r) {S with D:= .cons (.fn (.func k) a c) l::S.D} K else none
  |_,_,_ =>none
 | .call ⟨.builtin .append,args,Cv⟩=>match args.toList,Cv.toList with
  |[x,y],[T,T']=>bif Nat.beq T T' then(match dV C S [] x,dV C S [] y,tb.tt.te.find T with
   |some (.row q),some vy,some (.sl e sz bt)=>(match cu S.O q,Qi C S vy with
    |some (.row e' sz' t xs),some l=>bif Nat.beq e' e&&Nat.beq sz' sz then(match B5 (t:=t) l.xs with
     |some ys=>gu (g5 xs.length ys.length bt) (lt (xs++ys) λzs=>eu rec N cp C all r o.dst (.row S.nx) {S with O:=(S.nx, .row e sz t zs)::uR S.O q,nx:=S.nx+1} K)
     |none=>none)else none
    |_,_ =>none)
   |some .gW,some vy,some (.sl e sz bt)=>(match Qi C S vy with
    |some l=>bif Nat.beq (l.t.L G).n sz then gu (g5 0 l.xs.length bt) (lt l.xs λzs=>eu rec N cp C all r o.dst (.row S.nx) {S with O:=(S.nx, .row e sz l.t zs)::S.O,nx:=S.nx+1} K)else none
    |none=>none)
   |_,_,_ =>none)else none
  |_,_ =>none
 | .call ⟨.builtin .copy,args,Cv⟩=>match args.toList,Cv.toList with
  |[x,y],[T,_]=>(match dV C S [] x,dV C S [] y,tb.tt.te.find T with
   |some (.row q),some vy,some (.sl e sz _)=>(match cu S.O q,Qi C S vy with
    |some (.row e' sz' (.int k) xs),some l=>bif (Nat.beq e' e&&Nat.beq sz 1)&&Nat.beq sz' 1 then(match B5 (t:= .int k) l.xs with
     |some ys=>lt (ys.take xs.length++xs.drop ys.length) λzs=>eu rec N cp C all r o.dst (.int .i64 ((min ys.length xs.length:Nat):Int)) {S with O:=mh S.O q (.row e 1 (.int k) zs)} K
     |none=>none)else none
    |_,_ =>none)
   |some (.Bp q p n 1 true i),some (.Bp q' p' n' 1 true j),some (.sl _ sz _)=>(match cu S.O q with
    |some (.bK T2 c)=>(match Dl tb.tt.F c p with
     |some (.dat (.iK m (.int k)) f)=>bif (Nat.beq q q'&&Nat.beq n n')&&((Nat.beq m n&&Nat.beq sz 1)&&(C6 p p'&&Rh Cv.toList T))then Ns tb.tt.F c p (.dat (.iK n (.int k)) (QC i.toNat j.toNat n f)) λc'=>eu rec N cp C all r o.dst (.int .i64 ((min (n-j.toNat) (n-i.toNat):Nat):Int)) {S with O:=mh S.O q (.bK T2 c')} K else none
     |_ =>none)
    |_ =>none)
   |_,_,_ =>none)
  |_,_ =>none
 | .call ⟨.builtin .clear,args,Cv⟩=>match args.toList,Cv.toList with
  |[x],[T]=>(match dV C S [] x,tb.tt.te.find T with
   |some (.Bp q p n 1 false i),some (.sl e sz _)=>(match cu S.O q with
    |some (.bK T2 c)=>(match Dl tb.tt.F c p with
     |some (.dat (.iK m (.int k)) _)=>bif (Nat.beq i.toNat n&&Nat.blt 0 n)&&((Nat.beq m n&&Nat.beq sz 1)&&yC P e k)then Ns tb.tt.F c p (.dat (.iK n (.int k)) (λ_ =>(0:Int))) λc'=>eu rec N cp C all r o.dst (.iy .nil) {S with O:=mh S.O q (.bK T2 c')} K else none
     |_ =>none)
    |_ =>none)
   |_,_ =>none)
  |_,_ =>none
 | .makeMap T none=>match Zy P T with
  |some q=>eu rec N cp C all r o.dst (.mp S.nx) {S with O:=(S.nx, .fm q [] .nil)::S.O,nx:=S.nx+1} K
  |none=>none
 | .insert T x y z=>match dV C S [] x,iZ (dV C S [] y),dV C S [] z with
  |some (.mp q),some (ky,k,_),some v=>(match cu S.O q with
   |some (.fm ik ks vs)=>bif (Cw ky ik&&Fw P T ik)&&(De k ks&&mB vs)then eu rec N cp C all r o.dst .IW {S with O:=mh S.O q (.fm ik (ks++[k]) (jC vs (.cons v .nil)))} K else none
   |_ =>none)
  |_,_,_ =>none
 | .call ⟨.value f,args,_⟩=>match dV C S [] f,G1 (dV C S []) args.toList with
  |some (.fn (.func k) fst cap),some l=>U5 C S.O S.nx (jC fst (jC l cap)) (λct x g'=>bif (mB fst&&mB l)&&(mB cap&&Nat.beq ct.s.k k)then ctK rec N cp C all r o.dst S K ct x g' else none) (λb l=>rec N cp C (.ops all (o::r)) (xU l (uK b S)) K) (match BN P k with
   |some fi=>bif (mB fst&&mB l)&&(mB cap&&Nat.ble (zo (jC fst (jC l cap))) fi.N)then
     rec fi.N ((match o.dst with
      |some d=>d
      |none=>0)::cp) [⟨[],rh C,[]⟩] (.code fi.code) ⟨uL 0 (jC fst (jC l cap)),S.O,S.nx,[]⟩ λe S1=>match l6 tb.ek e S1.D S1.O with
      |some (.rE v,O2)=>K (.rE v) {S with O:=O2,nx:=S1.nx}
      |some (.gM,O2)=>(match AB tb.tt [⟨[],rh C,[]⟩] ⟨S1.F,O2,S1.nx,[]⟩ fi.zf with
       |some v=>eu rec N cp C all r o.dst v {S with O:=O2,nx:=S1.nx} K
       |none=>none)
      |some (.ret,O2)=>(match AB tb.tt [⟨[],rh C,[]⟩] ⟨S1.F,O2,S1.nx,[]⟩ fi.zf with
       |some v=>eu rec N cp C all r o.dst v {S with O:=O2,nx:=S1.nx} K
       |none=>none)
      |_ =>none
    else none
   |none=>none) (tb.calls k)
  |_,_ =>none
 | .load T (.global g)=>match G.gt,g,o.guard with
  |some _,0,none=>bif nX P T then eu rec N cp C all r o.dst (.mp S.nx) {S with O:=(S.nx, .gm)::S.O,nx:=S.nx+1} K else none
  |_,_,_ =>none
 | .lookup T x y true=>match dV C S [] x,iZ (dV C S [] y),o.guard with
  |some (.mp q),some (ik,k,_),none=>(match Lm C S q with
   |some .gm=>(match G.gt with
    |some g0=>bif Nat.beq (Ty.bp.ik ik) (Ty.bp.ik g0.1)&&Al P T g0.1 then X5 g0.2 k λf=>eu rec N cp C all r o.dst (Q7 f) S K else none
    |none=>none)
   |some (.fm qk ks vs)=>bif Cw ik qk&&Al P T qk then VY k ks vs λt=>eu rec N cp C all r o.dst t S K else none
   |_ =>none)
  |_,_,_ =>none
 | .slice T x none (some h) none=>match dV C S [] x,iZ (dV C S [] h),tb.tt.te.find T,VZ tb cp o.dst with
  |some (.row q),some (_,i,_),some (.sl e sz _),true=>match cu S.O q with
   |some (.row e' sz' t xs)=>bif Nat.beq e' e&&Nat.beq sz' sz then gu (cB i (xs.length+1)) (eu rec N cp C all r o.dst (.row S.nx) {S with O:=(S.nx, .row e' sz' t (xs.take i.toNat))::uR S.O q,nx:=S.nx+1} K)else none
   |_ =>none
  |some (.ptr q p),some (_,i,_),_,true=>(match cu S.O q,MD P tb.tt T with
   |some (.bK _ c),some (n,_,_)=>(match Dl tb.tt.F c p with
    |some (.dat (.iK m e) f)=>bif Nat.beq m n then gu (cB i (n+1)) (eu rec N cp C all r o.dst (.dat (.sl e) ((List.range i.toNat).map f)) {S with O:=uR S.O q} K)else none
    |_ =>none)
   |_,_ =>none)
  |_,_,_,_ =>QY tb rec N cp C all r o S K
 | .slice T x (some lo) none none=>match SY o T r,dV C S [] x,iZ (dV C S [] lo),tb.tt.te.find T with
  |some (d1,r2),some (.row q),some (_,i,_),some (.sl e sz _)=>(match cu S.O q,qD N C (some d1) .IW S with
   |some (.row e' sz' (.int k) xs),some S1=>bif (Nat.beq e' e&&Nat.beq sz 1)&&(Nat.beq sz' 1&&yC P e k)then gu (cB i (xs.length+1)) (lt (xs.take i.toNat++(List.replicate (xs.length-i.toNat) (0:Int):List (Ty.T G (.int k)))) λzs=>rec N cp C (.ops all r2) {S1 with O:=mh S1.O q (.row e 1 (.int k) zs)} K)else none
   |_,_ =>QY tb rec N cp C all r o S K)
  |_,_,_,_ =>QY tb rec N cp C all r o S K
 |_ =>QY tb rec N cp C all r o S K
def iE(C:CC G)(S:AS G)(l:List (Src×Sh)):AS G:=match y9 C S l with
 |some v=>uK (su S.O (oA l) v) S
 |none=>S
def BW(all:Array Oper)(j:Nat):Option Nat:=(all[j]?).bind (·.dst)
def Hf(A:List Nat):List Nat->Nat
 |[]=>0
 |j::r=>(2^j|||A.getD j 0)|||Hf A r
def AJ(ops:Array Oper):Nat->List Nat
 |0=>[]
 |k+1=>match AJ ops k with
  |A=>A++[Hf A (vT ops k)]
def uQ:Nat->List Oper->List (Nat×Nat)
 |_,[]=>[]
 |i,o::r=>match o.dst with
  |some d=>(i,d)::uQ (i+1) r
  |none=>uQ (i+1) r
def jB(A:List Nat)(i j:Nat):Bool:=Nat.testBit (A.getD i 0) j
def Ot(A:List Nat)(q d:Nat):List (Nat×Nat)->Bool
 |[]=>true
 |(i,e)::r=>(!(Nat.beq e d&&Nat.blt i q)||jB A q i)&&Ot A q d r
def I9(A:List Nat)(ws:List (Nat×Nat)):List (Nat×Nat)->Bool
 |[]=>true
 |(q,d)::r=>Ot A q d ws&&I9 A ws r
def wR(A:List Nat)(i d:Nat):List (Nat×Nat)->Bool
 |[]=>true
 |(q,e)::r=>(!Nat.beq e d||(Nat.beq q i||(bif Nat.blt q i then jB A i q else jB A q i)))&&wR A i d r
def JB(A:List Nat)(i d:Nat):List (Nat×Nat)->Bool
 |[]=>true
 |(q,e)::r=>(!Nat.beq e d||jB A i q)&&JB A i d r
def NN(d:Nat):List (Nat×Nat)->Bool
 |[]=>false
 |(_,e)::r=>Nat.beq e d||NN d r
def gdD(ws:List (Nat×Nat)):AV G->Bool
 | .gd j _ _ =>NN j ws
 |_ =>false
def Jo(ws:List (Nat×Nat))(F:Fr G)(d:Nat):Bool:=match cu F d with
 |some v=>gdD ws v
 |none=>false
structure Lg where
 i:Nat
 r:List Nat
 a:List Nat
 o:List Nat
structure DS(G:Sg) where
 F:Fr G
 M:Os G
 nx:Nat
 lg:List Lg
def G4:List Nat->List Nat->Bool
 |[],_ =>true
 |a::r,l=> !bZ l a&&G4 r l
def Ou(A:List Nat)(i:Nat)(rd ac nw:List Nat):List Lg->Bool
 |[]=>true
 |y::r=>(jB A i y.i||(G4 (y.a++y.o) (rd++ac)&&G4 (ac++nw) (y.r++y.a)))&&Ou A i rd ac nw r
def Uh(A:List Nat)(i:Nat):List Lg->Bool
 |[]=>true
 |y::r=>(jB A i y.i||(match y.a with
  |[]=>true
  |_ =>false))&&Uh A i r
def Q5(A:List Nat)(i:Nat):List Lg->List Nat
 |[]=>[]
 |y::r=>bif jB A i y.i then Q5 A i r else y.o++Q5 A i r
def HR:AV G->List Nat
 | .ptr r _ =>[r]
 | .row r=>[r]
 | .Bp r _ _ _ _ _ =>[r]
 | .mp r=>[r]
 | .gd _ _ v=>HR v
 |_ =>[]
def qi:AV G->List Nat
 | .ptr r _ =>[r]
 | .row r=>[r]
 | .Bp r _ _ _ _ _ =>[r]
 | .mp r=>[r]
 | .gd _ _ v=>qi v
 | .fn _ a c=>qi a++qi c
 | .st a=>qi a
 | .iy a=>qi a
 | .fW _ v=>qi v
 | .cons a b=>qi a++qi b
 | .part _ a b=>qi a++qi b
 |_ =>[]
def Zw(M:Os G):List Nat->List Nat
 |[]=>[]
 |r::q=>match cu M r with
  |some (.bK _ c)=>qi c++Zw M q
  |_ =>Zw M q
def HO(M:Os G):Nat->List Nat->List Nat
 |0,l=>l
 |n+1,l=>l++HO M n (Zw M l)
def CM(f:AV G->List Nat)(C:CC G)(S:AS G):List Operand->List Nat
 |[]=>[]
 |x::r=>match FX C S x with
  |some v=>f v++CM f C S r
  |none=>CM f C S r
def fC:Os G->List Nat
 |[]=>[]
 |(k,_)::r=>k::fC r
def isQ:Op->Bool
 | .store _ _ _ =>false
 | .call ⟨.builtin .len,_,_⟩=>true
 | .call ⟨.builtin .min,_,_⟩=>true
 | .call ⟨.builtin .max,_,_⟩=>true
 | .call _ =>false
 | .box _ _ =>false
 | .alloc _ =>false
 | .panic _ =>false
 | .buildSlice _ _ _ =>false
 | .makeSlice _ _ _ =>false
 | .makeMap _ _ =>false
 | .insert _ _ _ _ =>false
 |_ =>true
def E0:AV G->List Nat
 | .row r=>[r]
 | .Bp r _ _ _ _ _ =>[r]
 | .gd _ _ v=>E0 v
 |_ =>[]
def rdF:Op->AV G->List Nat
 | .load _ _ =>HR
 | .lookup _ _ _ _ =>HR
 |_ =>E0
def ME(C:CC G)(S:AS G):List Operand->Bool
 |[]=>false
 |x::r=>(match FX C S x with
  |some (.row _)=>true
  |_ =>false)||ME C S r
def ZW(C:CC G)(S:AS G)(op:Op):Bool:=isQ op&&(match op with
 | .build _ _ => !ME C S op.operands.toList
 |_ =>true)
def Xc(A:List Nat)(ws:List (Nat×Nat))(i:Nat):AV G->Bool
 | .gd j _ _ =>JB A i j ws
 |_ =>true
def Rv(A:List Nat)(ws:List (Nat×Nat))(i nx:Nat)(d:Option Tmp)(F S:Fr G):Option (Fr G):=match d with
 |none=>some F
 |some d=>match cu S d with
  |some v=>bif v.lt nx&&Xc A ws i v then some ((d,v)::F)else none
  |none=>none
def rdN(O:Os G):List (Nat×Sh)->AV G->List Nat×List Nat
 |(_,s)::l, .cons (.ptr q []) p=>match rdN O l p,cu O q with
  |(rd,ac),some (.bK _ c)=>match su O s c,L4 s c with
   |[],false=>(q::(vO O s c++rd),ac)
   |b,_ =>(vO O s c++rd,q::(b++ac))
  |(rd,ac),_ =>(rd,ac)
 |_,_ =>([],[])
def QH(C:CC G)(O:Os G)(nx:Nat)(aa4:AV G):List (Ct P G)->Option (List Nat×List Nat)
 |[]=>none
 |ct::r=>match zv C O nx ct.s aa4,Xw C O ct.s aa4,Vz C O ct.s aa4 with
  |none,[],[]=>QH C O nx aa4 r
  |_,_,_ =>match GX (O++rh C) ct.s.ES 0 ct.s.qH aa4 with
   |some pv=>match rdN O ct.s.ES pv with
    |(rd,ac)=>some (rd,vO O ct.s.qH aa4++ac)
   |none=>none
def XD(tb:tD P G)(C:CC G)(S:AS G)(all:Array Oper)(o:Oper):List Nat×List Nat:=bif ZW C S o.op then(CM (rdF o.op) C S o.op.operands.toList,[])else match o.op with
 | .store _ x y=>([],CM HR C S [x]++CM E0 C S [y])
 | .alloc _ =>([],[])
 | .box _ _ =>([],[])
 | .panic _ =>([],[])
 | .buildSlice _ _ _ =>([],CM E0 C S o.op.operands.toList)
 | .call ⟨.builtin _,_,_⟩=>([],CM E0 C S o.op.operands.toList)
 | .call ⟨.value f,x,t⟩=>match FE C S (match o.guard with
   |some (j,w)=>(match BW all j with
    |some dj=>chain C S 8 dj w
    |none=>[])
   |none=>[]) (.call ⟨.value f,x,t⟩)with
  |some (k,aa4)=>(match QH C S.O S.nx aa4 (tb.calls k)with
   |some p=>p
   |none=>([],HO S.O 3 (CM qi C S o.op.operands.toList)))
  |none=>([],HO S.O 3 (CM qi C S o.op.operands.toList))
 |_ =>([],HO S.O 3 (CM qi C S o.op.operands.toList))
def Yw{Z:Type}(tb:tD P G)(rec:WT G Z)(N:Nat)(cp:List Nat)(C:CC G)(ops:Array Oper)(A:List Nat)(ws:List (Nat×Nat))(F0:Fr G)(D0:List (AV G))(o:Oper)(i:Nat)(T:DS G)(kn:DS G->List Nat->List Nat->Option Z)(kp:AV G->AS G->List Nat->List Nat->Option Z):Option Z:=
 match fK (λd=>wR A i d ws) T.F with
 |Fi=>match XD tb (⟨F0,[],[]⟩::C) ⟨Fi,T.M,T.nx,[]⟩ ops o with
  |(rd,ac)=>match(⟨F0,bH (λq=>bZ rd q&& !bZ ac q) T.M,D0⟩:Ly G)with
   |ly=>bif tJ T.nx (ly::C)&&(Lv T.nx Fi&&qO T.nx (bH (bZ ac) T.M))then rec N cp (ly::C) (.ops ops [o]) ⟨Fi,bH (bZ ac) T.M,T.nx,[]⟩ λe S1=>match e,S1.D with
     | .gM,[]=>bif Nat.ble T.nx S1.nx&&(qO S1.nx S1.O&&Ou A i rd ac (fC S1.O) T.lg)then(match Rv A ws i S1.nx o.dst T.F S1.F with
      |some F'=>kn ⟨F',S1.O++bH (λq=> !bZ ac q) T.M,S1.nx,⟨i,rd,ac,fC S1.O⟩::T.lg⟩ ac (fC S1.O)
      |none=>none)else none
     | .rE v,[]=>bif Nat.ble T.nx S1.nx&&(Ou A i rd ac [] T.lg&&(Uh A i T.lg&&qO T.nx T.M))then kp v ⟨F0,S1.O++bH (λq=> !bZ ac q) (bH (λq=> !bZ (Q5 A i T.lg) q) T.M),S1.nx,D0⟩ rd ac else none
     |_,_ =>none
    else none
def Vy:List Nat->Bool
 |[]=>true
 |_ =>false
def Xp{Z:Type}(tb:tD P G)(rec:WT G Z)(N:Nat)(cp:List Nat)(C:CC G)(ops:Array Oper)(A:List Nat)(ws:List (Nat×Nat))(F0:Fr G)(D0:List (AV G))(j:Nat)(zj:List Nat)(k:Option Z):List Oper->Nat->DS G->Option Z
 |[],_,_ =>k
 |o::r,i,T=>bif jB A i j then Xp tb rec N cp C ops A ws F0 D0 j zj k r (i+1) T else Yw tb rec N cp C ops A ws F0 D0 o i T (λT' ac nw=>bif Vy ac&&G4 nw zj then Xp tb rec N cp C ops A ws F0 D0 j zj k r (i+1) T' else none) (λ_ _ _ _ =>none)
def Yv{Z:Type}(tb:tD P G)(rec:WT G Z)(N:Nat)(cp:List Nat)(C:CC G)(ops:Array Oper)(A:List Nat)(ws:List (Nat×Nat))(F0:Fr G)(D0:List (AV G))(K:Ex G->AS G->Option Z):List Oper->Nat->DS G->Option Z
 |[],_,T=>K .gM ⟨T.F++F0,T.M,T.nx,D0⟩
 |o::r,i,T=>Yw tb rec N cp C ops A ws F0 D0 o i T (λT' _ _ =>Yv tb rec N cp C ops A ws F0 D0 K r (i+1) T') (λv S' rd ac=>Xp tb rec N cp C ops A ws F0 D0 i (rd++ac) (K (.rE v) S') r (i+1) T)
def drR{Z:Type}(tb:tD P G)(rec:WT G Z):WT G Z:=λN cp C cf S K=>match cf with
 | .ops ops l=>match AJ ops ops.size,uQ 0 ops.toList with
  |A,ws=>bif I9 A ws ws&&(JP ops []&&P.follows .mixedOrders)then
   (match fK (λd=> !(NN d ws)&& !Jo ws S.F d) S.F with
   |F0=>Yv tb rec N cp C ops A ws F0 S.D K l 0 ⟨fK (λd=>NN d ws&& !Jo ws S.F d) S.F,S.O,S.nx,[]⟩)else none
 |_ =>none
def Lt(ps:List Nat)(a b:Code)(C:CC G)(S1:AS G)(O:Os G):CC G:=[⟨fK (λd=> !bZ (ps++(C2 a++C2 b)) d) (S1.F++flF C),(S1.nx+1, .aux false)::(O++rh C),[]⟩]
def rgW{Z:Type}(rec:WT G Z)(N:Nat)(cp:List Nat)(C:CC G)(ps:List Nat)(a b:Code)(S1:AS G)(K:Ex G->AS G->Option Z)(g:FU)(it:It P G)(l:List it.B)(O:Os G)(x0:HL G (aD (oA g.l))):Option Z:=
 Yd (aD (oA g.l)) (λy go e=>Dv N (Lt ps a b C S1 O) ps (cZ (λm=>m) it.ys (it.en y) 0).1 (N2 g (S1.nx+2) e) λS2=>rec N cp (Lt ps a b C S1 O) (.code a) S2 λe1 S3=>match e1 with
  | .gM=>rec N cp (Lt ps a b C S1 O) (.code b) S3 λe2 S4=>match e2 with
   | .gM=>match BK (Lt ps a b C S1 O) (iE (Lt ps a b C S1 O) S4 g.l) g (S1.nx+2)with
    |some e=>go e
    |none=>none
   | .ret=>bif Lq S4.D then K .ret (I8 S1.nx S1 O S4)else none
   | .exit i=>bif Lq S4.D then K (.exit i) (I8 S1.nx S1 O S4)else none
   | .rE _ =>none
  |_ =>none) (λe=>K .gM (I8 S1.nx S1 O (N2 g (S1.nx+2) e))) l x0
def X2{Z:Type}(rec:WT G Z)(N:Nat)(cp:List Nat)(C:CC G)(ps:List Nat)(a b:Code)(k:Nat)(cap:AV G)(gl:List (JN×Sh))(S:AS G)(K:Ex G->AS G->Option Z):List (It P G)->Option Z
 |[]=>none
 |it::q=>match jx it.qH cap ⟨[],S.O,S.nx⟩with
  |none=>X2 rec N cp C ps a b k cap gl S K q
  |some (x,g1)=>match Rj C ⟨S.F,g1.O,g1.nx,S.D⟩ gl with
   |some g=>match iE C ⟨S.F,g1.O,g1.nx,S.D⟩ g.l with
    |S1=>match y9 C ⟨S1.F,S1.O,S1.nx+2,S1.D⟩ g.l with
     |some v=>match jx (oA g.l) v ⟨[],S1.O,S1.nx+2⟩with
      |some (x0,g2)=>bif (Nat.beq it.k k&&Nat.beq it.n ps.length&&Bx (rh C))&&(rV g.nm g2.th&&rW (S1.nx+2) g.nm&&tJ (S1.nx+2) (Lt ps a b C S1 g2.O))&&((qO (S1.nx+2) g2.O&&Uf N ps)&&tJ (S1.nx+2) C)then bd (it.f x) λl=>rgW rec N cp C ps a b S1 K g it l g2.O x0 else none
      |none=>none
     |none=>none
   |none=>none
noncomputable def step{Z:Type}(tb:tD P G)(rec:WT G Z):WT G Z:=λN cp C cf S K=>match cf with
 | .ops _ []=>K .gM S
 | .ops all (o::r)=>match o.guard with
  |none=>XZ tb rec N cp C all r o S K
  |some (j,w)=>match BW all j with
   |some dj=>match Nz C S 8 dj w with
    |some true=>XZ tb rec N cp C all r o S K
    |some false=>(match qD N C o.dst .IW S with
     |some S'=>rec N cp C (.ops all r) S' K
     |none=>none)
    |none=>match GU C S 8 dj w,Ue tb.tt tb.zt C S (chain C S 8 dj w) o.op with
     |some g,some (gs,v)=>guG g gs (match qD N C o.dst (.gd dj w v) S with
      |some S'=>rec N cp C (.ops all r) S' K
      |none=>none)
     |g,_ =>ctT tb rec N cp C all r o S K dj w (match Dq C S 8 dj with
      |some (k,b)=>cn b (rec N cp C (.ops all (o::r)) {S with F:=(k, .kb true)::S.F} K) (rec N cp C (.ops all (o::r)) {S with F:=(k, .kb false)::S.F} K)
      |none=>none) g (FE C S (chain C S 8 dj w) o.op)
   |none=>none
 | .code c=>match c with
  | .skip=>K .gM S
  | .label _ =>K .gM S
  | .ret=>K .ret S
  | .exit i=>K (.exit i) S
  | .region _ ops false=>rec N cp C (.ops ops ops.toList) S K
  | .region _ ops true=>drR tb rec N cp C (.ops ops ops.toList) S K
  | .block i x=>rec N cp C (.code x) S λe S'=>match e with
   | .exit j=>bif Nat.beq i j then K .gM S' else K (.exit j) S'
   |e=>K e S'
  | .cond x a b=>match dV C S [] x with
   |some (.bool t)=>cn t (rec N cp C (.code a) S K) (rec N cp C (.code b) S K)
   |some (.kb t)=>rec N cp C (.code (bif t then a else b)) S K
   |_ =>none
  | .seq x y=>match(match I5 y with
    |some i=>tb.hint cp (i+i)
    |none=>none)with
   |some (.join gl ex)=>match Rj C S gl,Ku C S gl++EZ C S ex with
    |some g,thr=>(match(⟨fK (λd=> !(bZ (C2 x) d||uI g.l d)) S.F,bH (λq=> !bZ thr q) S.O,S.D⟩:Ly G),(⟨fK (λd=>bZ (C2 x) d||uI g.l d) S.F,bH (bZ thr) S.O,S.nx,[]⟩:AS G)with
    |ly,S0=>bif tJ S.nx (ly::C)then jnE tb.jw (aD (oA g.l)) (λe=>rec N cp C (.code y) (EH ly (CK g S.nx e)) K) λj=>rec N cp (ly::C) (.code x) S0 λe S1=>match e with
       | .gM=>match BK (ly::C) (iE (ly::C) S1 g.l) g S.nx with
        |some e=>j e
        |none=>none
       |e=>K e (EH ly S1)
     else none)
    |none,_ =>none
   |_ =>rec N cp C (.code x) S λe S'=>match e with
    | .gM=>rec N cp C (.code y) S' K
    |e=>K e S'
  | .loop x=>match(match I5 x with
    |some i=>tb.hint cp (i+i+1)
    |none=>none)with
   |some (.loop gl)=>(match Rj C S gl with
    |none=>none
    |some g=>match iE C S g.l with
    |S=>match y9 C S g.l with
    |some v=>match jx (oA g.l) v ⟨[],S.O,S.nx⟩with
     |some (x0,g')=>bif rV g.nm g'.th&&rW S.nx g.nm then
       (match(⟨fK (λd=> !(bZ (C2 x) d||uI g.l d)) S.F,g'.O,S.D⟩:Ly G)with
       |ly=>bif tJ S.nx (ly::C)then Qj (tb.vw (match I5 x with
        |some i=>i
        |none=>0) (aD (oA g.l))) (λgo e=>rec N cp (ly::C) (.code x) (CK g S.nx e) λe1 S1=>match e1 with
         | .gM=>match BK (ly::C) (iE (ly::C) S1 g.l) g S.nx with
          |some e=>go e
          |none=>none
         |e1=>K e1 (EH ly S1)) tb.fu x0
        else none)
      else none
     |none=>none
    |none=>none)
   |some .Ge=>rec N cp C (.lp x) S K
   |_ =>none
  | .rangeFunc g ps a b=>match dV C S [] g,(match I5 (.seq a b)with
    |some i=>tb.hint cp (i+i+1)
    |none=>none)with
   |some (.fn (.func k) .nil cap),some (.loop gl)=>X2 rec N cp C ps.toList a b k cap gl S K (tb.ON k)
   |_,_ =>none
  |_ =>none
 | .lp x=>rec N cp C (.code x) S λe S'=>match e with
  | .gM=>rec N cp C (.lp x) S' K
  |e=>K e S'
noncomputable def W{Z:Type}(tb:tD P G):Nat->WT G Z
 |0=>λ_ _ _ _ _ _ =>none
 |n+1=>step tb (W tb n)
end Go.Rw
