/- Part 7 of what a proof leans on; pruned and shortened by a program out of longer texts. -/
import Derived.Test.YtjabpidfkmhbbabGreatDoorQ6
namespace Go.Rw
open Go Go.Bw Go.RowKit
variable {G:Sg} {P:Program} {tt:TT P G} {J:World->Prop} {ρ:aP} {a:Act} {w:World} {d:Option Tmp} {ty:TypeId} {ps:String} {af:Array Edge} {g:Option (Nat×Bool)}
 {N:Nat} {c:Cx} {H HK X:List ay} {D:List Deferred} {C:CC G} {S:AS G}
def j0:AV G->AV G->AV G
 | .cons v r,b=> .cons v (j0 r b)
 |_,b=>b
def lK:AV G->Bool
 | .cons _ r=>lK r
 | .nil=>true
 |_ =>false
theorem kA{J:World->Prop}{ρ:aP}:∀{a b:AV G} {l m:List Value},lK a=true->rl J ρ a l->rl J ρ b m->rl J ρ (j0 a b) (l++m):=by
 intro a
 induction a with
 |nil=>intro b l m _ h1 h2;have:l=[]:=h1;subst this;exact h2
 |cons v r _ ih=>intro b l m hl h1 h2;obtain⟨u,r',rfl,k1,k2⟩:=h1;exact⟨u,r'++m,rfl,k1,ih hl k2 h2⟩
 |_ =>intro b l m hl;cases hl
theorem HX{T:Nat}(q:IntKind):SK P ⟨d, .makeMap T none,ty,ps,af,g⟩ C S {S with O:=(S.nx, .fm q [] .nil)::S.O,nx:=S.nx+1} (.mp S.nx):=by
 intro c N ρ J HK X a w next Q h hk
 obtain⟨HS,h1,hst,_⟩:=h.st;refine cE (by simp) (w':=w.alloc (.map #[] 0)) (v:= .map (some w.heap.size)) ?_ ?_
 ·simp[execOp,Instr.makeMap,newObj,Sem.run,Result.andThen]
 ·have xW:aX c.bs c.w0.heap.size (.obj w.heap.size (.map #[] 0)::(HS++(HK++X))) (w.alloc (.map #[] 0)):=hst.hp.fresh (aG.alloc _ _) (by show(w.heap.push _)[w.heap.size]? =_;simp) hst.si.size (λb hb=>by
   have e:b=w.heap.size:=by simpa[ay.bK]using hb
   subst e;exact⟨Nat.le_refl _,by simp⟩)
  exact hk (ρ.set S.nx (.map (some w.heap.size))) J [] _ _ (aP.jg _ _ _) (λ_ h=>h) ⟨_,aP.gh _ _ _,rfl,rfl,rfl⟩ (h.new h1 (hst.si.ext (aG.alloc _ _)) xW ⟨_,_,_,[],aP.gh _ _ _,rfl,⟨rfl,by simp,by simp⟩,rfl,rfl⟩)
def Ev(k:Int):List Int->Bool
 |[]=>true
 |a::r=> !(k==a)&&Ev k r
theorem Gt{k:Int}:∀{ks:List Int} {us:List Value},Ev k ks=true->dH (ks.zip us) k=none:=by
 intro ks
 induction ks with
 |nil=>intro us _;rfl
 |cons a r ih=>
  intro us h;simp only[Ev,ab7,Bool.not_eq_true']at h;cases us with
  |nil=>rfl
  |cons u us=>simp only[List.zip_cons_cons,dH,h.1,cond_false,ih h.2,Option.map_none]
def G3(P:Program)(T:Nat)(q:IntKind):Bool:=match P.underlying T with
 |some (.map k _)=>(match P.underlying k with
  |some (.int q')=>Nat.beq (Ty.bz.ik q) (Ty.bz.ik q')
  |_ =>false)
 |_ =>false
theorem QS{T:Nat}{q:IntKind}(h:G3 P T q=true):∃k e,P.underlying T=some (.map k e)/\P.underlying k=some (.int q):=by
 unfold G3 at h;split at h
 ·rename_i k e h1
  split at h
  ·rename_i q' h2
   obtain rfl:=CS h;exact⟨k,e,h1,h2⟩
  ·cases h
 ·cases h
theorem MY{r b:Nat}{u:Value}(h:rv (G:=G) J ρ (.mp r) u)(m:ρ r=some (.map (some b))):u= .map (some b):=by obtain⟨u',u1,u2,_⟩:=h;rw[m]at u1;cases u1;exact(List.cons.inj u2).1
theorem Kx{T r:Nat}{x y z:Operand}{q ky:IntKind}{k:Int}{ql:Bool}{ks:List Int}{vs v:AV G}(hx:dX C S [] x=some (.mp r))(hy:jq (dX C S [] y)=some (ky,k,ql))(hz:dX C S [] z=some v)(ho:bP S.O r=some (.fm q ks vs))(hq:DL ky q=true)(hT:G3 P T q=true)(hn:Ev k ks=true)(hl:lK vs=true):
  SK P ⟨d, .insert T x y z,ty,ps,af,g⟩ C S {S with O:=mX S.O r (.fm q (ks++[k]) (j0 vs (.cons v .nil)))} .Jj:=by
 intro c N ρ J HK X a w next Q h hk
 obtain⟨HS,h1,hs0,hm⟩:=h.st;have hE:=bQ h (ch:=[]) (by simp);obtain⟨kk,x0,k1,⟨b,es,ck,us,m1,rfl,m3,m4,m5⟩,k3⟩:=h1.set ho;obtain rfl:=xA hq;obtain⟨kt,e,t1,t2⟩:=QS hT;have qz:=hE.ev _ _ hx;rw[MY (hE.ok _ _ hx) m1]at qz;have Qn:=gK hE hy;have hz2:=hE.ev _ _ hz;have DM:=nG (m:=HK++X) k1;have hd:w.heap[b]? =some (.map es ck):=hs0.hp.holds _ (List.mem_of_getElem? DM);have hf:=kj (k:=k) w t2 m3;rw[Gt hn]at hf;have hc:∀em,(Instr.checkKey em 10000 kt (.int ky k)).run P w= .ok () w:=λem=>MapKept.run_checkKey (k:= .int ky k) t2 (show ky=ky from rfl) em 9999;haveI:Ln (HS++(HK++X)) b (.map es ck):=⟨List.mem_of_getElem? DM⟩;haveI:Lj (HS++(HK++X)) b (.map (es.push ⟨.int ky k,a.eval z,ck⟩) (ck+1)) (HS.set kk (.obj b (.map (es.push ⟨.int ky k,a.eval z,ck⟩) (ck+1)))++(HK++X)):=⟨kk,_,DM,by rw[qO k1]⟩;obtain⟨p1,_⟩:=hs0.mX (b:=b) (o:= .map es ck) (o':= .map (es.push ⟨.int ky k,a.eval z,ck⟩) (ck+1)) inferInstance inferInstance;refine lf (by simp) (w':=w.putObj b (.map (es.push ⟨.int ky k,a.eval z,ck⟩) (ck+1))) ?_ ?_
 ·simp[execOp,aA hs0.fr qz,aA hs0.fr Qn,Instr.mapUpdate,run_underlying t1,MapKept.run_getObj_map hd,hc,hf,MapKept.run_setObj_map _ hd,Result.andThen,World.putObj]
 ·refine hk ρ J [] _ undef (aP.cB _ _) (λ_ h=>h) ⟨_,rfl⟩ (h.yY (k3 _ _ ⟨b,_,_,us++[a.eval z],m1,rfl,?_,kA hl m4 ⟨_,[],rfl,hE.ok _ _ hz,rfl⟩,by simp[m5]⟩) p1.si p1.hp)
  rw[List.zip_append (by rw[m5])];exact m3.push k (a.eval z)
def XH{Z:Type}(k:Int):List Int->AV G->(AV G->Option Z)->Option Z
 |a::r, .cons v b,c=>cn (k==a) (c (.gO (.cons v (.cons (.kb true) .nil)))) (XH k r b c)
 |[], .nil,c=>c (.gO (.cons .lE (.cons (.kb false) .nil)))
 |_,_,_ =>none
theorem XG{Z:Type}{k:Int}{c:AV G->Option Z}{z:Z}:∀{ks:List Int} {vs:AV G},XH k ks vs c=some z->∃t,c t=some z/\∀(J:World->Prop) (ρ:aP) (us:List Value),rl J ρ vs us->rv J ρ t (.tuple #[kP (ks.zip us) k .nilFunc, .bool (mY (ks.zip us) k)]):=by
 intro ks
 induction ks with
 |nil=>
  intro vs h;cases vs<;>simp only[XH]at h<;>first|cases h|skip
  exact⟨_,h,λJ ρ us _ =>⟨[.nilFunc, .bool false],rfl,_,_,rfl,rfl,_,_,rfl,rfl,rfl⟩⟩
 |cons a r ih=>
  intro vs h;cases vs<;>simp only[XH]at h<;>first|cases h|skip
  rename_i v b;cases hb:(k==a)with
  |true=>
   rw[hb]at h;refine⟨_,h,λJ ρ us hu=>?_⟩;obtain⟨u,us',rfl,h1,h2⟩:=hu;have e1:kP ((a::r).zip (u::us')) k .nilFunc=u:=by simp[kP,dH,hb]
   have e2:mY ((a::r).zip (u::us')) k=true:=by simp[mY,dH,hb]
   rw[e1,e2];exact⟨[u, .bool true],rfl,_,_,rfl,h1,_,_,rfl,rfl,rfl⟩
  |false=>
   rw[hb]at h;obtain⟨t,t1,t2⟩:=ih h;refine⟨t,t1,λJ ρ us hu=>?_⟩;obtain⟨u,us',rfl,h1,h2⟩:=hu;have e1:kP ((a::r).zip (u::us')) k .nilFunc=kP (r.zip us') k .nilFunc:=by simp only[List.zip_cons_cons,kP,dH,hb,cond_false,Option.map_map];rfl
   have e2:mY ((a::r).zip (u::us')) k=mY (r.zip us') k:=by simp only[List.zip_cons_cons,mY,dH,hb,cond_false,Option.isSome_map]
   rw[e1,e2];exact t2 J ρ us' h2
theorem Mf{T r:Nat}{x y:Operand}{q ky:IntKind}{k:Int}{ql:Bool}{ks:List Int}{vs t:AV G}(hx:dX C S [] x=some (.mp r))(hy:jq (dX C S [] y)=some (ky,k,ql))(ho:MT C S r=some (.fm q ks vs))(hq:DL ky q=true)(hT:Bo P T q=true)
  (ht:∀(J:World->Prop) (ρ:aP) (us:List Value),rl J ρ vs us->rv J ρ t (.tuple #[kP (ks.zip us) k .nilFunc, .bool (mY (ks.zip us) k)])):SK P ⟨d, .lookup T x y true,ty,ps,af,g⟩ C S S t:=by
 intro c N ρ J HK X a w next Q h hk
 obtain⟨HS,h1,hs0,hm⟩:=h.st;have hE:=bQ h (ch:=[]) (by simp);obtain⟨x0,hx0,⟨b,es,ck,us,m1,rfl,m3,m4,m5⟩⟩:=hm.ob r _ ho;obtain rfl:=xA hq;have qz:=hE.ev _ _ hx;rw[MY (hE.ok _ _ hx) m1]at qz;have Qn:=gK hE hy;unfold Bo at hT;split at hT
 ·rename_i kt e hu
  simp only[ab7]at hT;obtain⟨Nq,O5⟩:=hT;split at Nq
  ·rename_i q' hk'
   obtain rfl:=CS Nq;split at O5
   ·rename_i hz
    have tm:BQ P T kt e ky:=⟨hu,hk'⟩;have tz:I4 P e ((λv:Value=>v) .nilFunc):=⟨hz⟩;refine(az (P:=P) (F:=kQ a) (H:=HS++(HK++X)) (by simp) λa' w' O3 _ hp=>?_ :VS P N c _ _ _ (.tuple #[kP (ks.zip us) k .nilFunc, .bool (mY (ks.zip us) k)])) a.defers a w next Q hs0 λw' hs=>?_
    ·have hd:w'.heap[b]? =some (.map es ck):=hp.holds _ hx0
     simp[execOp,aA O3 qz,aA O3 Qn,mh (E:=λv:Value=>v) w' tm tz ⟨es,ck,hd,m3⟩,Result.andThen]
    ·exact hk ρ J [] w' _ (aP.cB _ _) (λ_ h=>h) (ht J ρ us m4) (by
      obtain⟨Vz,p1,p3⟩:=h.hp;exact⟨h.tm,h.df,h.si.ext hs,h.fs,h.fc,h.kc,⟨Vz,p1,p3.ext hs⟩,h.kn,h.fr⟩)
   ·cases O5
  ·cases Nq
 ·cases hT
def N6(P:Program)(tt:TT P G)(T:Nat):Option (Nat×Nat×Nat):=match tt.te.find T with
 |some (.jr n e sz _)=>some (n,e,sz)
 |_ =>match P.underlying T with
  |some (.pointer a)=>(match tt.te.find a with
   |some (.jr n e sz _)=>some (n,e,sz)
   |_ =>none)
  |_ =>none
theorem Cc{T n e sz:Nat}(h:N6 P tt T=some (n,e,sz)):pe P T n e sz\/De P T n e sz=true:=by
 unfold N6 at h;split at h
 ·rename_i h1;cases h;exact .inl (tt.jr h1)
 ·split at h
  ·rename_i a h1
   split at h
   ·rename_i h2
    cases h;refine .inr ?_;unfold De;rw[h1];exact(tt.jr h2).ok
   ·cases h
  ·cases h
def Mx(P:Program)(tt:TT P G)(E:Operand->Option (AV G))(T:Nat)(x:Operand)(lo hi mx:Option Operand):PV G:=match E x,N6 P tt T with
 |some (.ptr r p),some (n,_,sz)=>(match lo,hi,mx with
  |none,none,none=>some ([], .CG r p n sz false (n:Int))
  |some l,none,none=>(match jq (E l)with
   |some (_,i,_)=>some ([cG i (n+1)], .CG r p n sz true i)
   |none=>none)
  |none,some h,none=>(match jq (E h)with
   |some (_,i,_)=>some ([cG i (n+1)], .CG r p n sz false i)
   |none=>none)
  |_,_,_ =>none)
 |_,_ =>none
theorem Mw{ob:Nat->Option (Ob G)}{E:Operand->Option (AV G)}(hm:I7 (G:=G) J ρ N c D H ob a w)(hE:w8 J ρ a E){T:Nat}{x:Operand}{lo hi mx:Option Operand}{v:AV G}{gs:List Bool}(h:Mx P tt E T x lo hi mx=some (gs,v))(hg:∀b∈gs,b=true):yq P c J ρ ⟨d, .slice T x lo hi mx,ty,ps,af,g⟩ a w v:=by
 unfold Mx at h;split at h
 ·rename_i r p n e sz hx ht
  obtain⟨b,o,e1,e2,e3⟩:=mq (hE.ok _ _ hx);have fx:=hE.ev _ _ hx;rw[e2]at fx;split at h
  ·cases h
   refine⟨_,⟨⟨b,o,e1,rfl⟩,e3,by simp⟩,?_⟩;rw[E9,ab9];rcases Cc ht with h1|h1
   ·exact(Le fx).vk hm.st
   ·exact(Ld h1 fx).vk hm.st
  ·split at h
   ·rename_i k i q hl
    cases h;obtain⟨h1,h2⟩:=bB (hg (cG i (n+1)) (by simp));have h2:=Nat.lt_succ_iff.1 h2;refine⟨_,⟨⟨b,o,e1,rfl⟩,e3,h2⟩,?_⟩;rw[E8];rcases Cc ht with h3|h3
    ·exact(Ot fx (gK hE hl) h1 h2).vk hm.st
    ·exact(Oq h3 fx (gK hE hl) h1 h2).vk hm.st
   ·cases h
  ·split at h
   ·rename_i k i q hl
    cases h;obtain⟨h1,h2⟩:=bB (hg (cG i (n+1)) (by simp));have h2:=Nat.lt_succ_iff.1 h2;refine⟨_,⟨⟨b,o,e1,rfl⟩,e3,h2⟩,?_⟩;rw[E9];rcases Cc ht with h3|h3
    ·exact(Hh fx (gK hE hl) h1 h2).vk hm.st
    ·exact(Hg h3 fx (gK hE hl) h1 h2).vk hm.st
   ·cases h
  ·cases h
 ·cases h
theorem Rl.abv{r T':Nat}{cc:AV G}(h:Rl c N ρ J HK X C S a w)(ho:bP S.O r=some (.bK T' cc)):∃(b:Nat) (u:Value) (J':World->Prop) (Y:List ay),ρ r=some (cy b 0)/\rv J ρ cc u/\(∀w,J' w->J w)/\(∀w,J' w->(ay.cells b T' u.cells.toList).holds w/\b<w.heap.size)/\Rl c N ρ J' HK (Y++X) C {S with O:=s7 S.O r} a w:=by
 obtain⟨HS,q1,q3⟩:=h.hp;obtain⟨k,x,k1,⟨b,u,m1,rfl,m3⟩,k3⟩:=q1.QL ho;let x:ay:= .cells b T' u.cells.toList;let J':World->Prop:=λw=>J w/\Hs [x] w;have mJ:∀w,J' w->J w:=λw h=>h.1;have hle:=aP.le_refl ρ;have hxm:x∈HS:=List.mem_of_getElem? k1;have TQ:x∈HS++(HK++X):=ace _ hxm;obtain⟨q,Yt,Nh,hq3⟩:=h.kn.one (q3.holds x TQ) λb hb=>(q3.own x TQ b hb).2;refine⟨b,u,J',[q],m1,m3,mJ,λw hw=>⟨(hw.2 x (by simp)).1,(hw.2 x (by simp)).2 b (by simp[x,ay.bK])⟩,h.tm,h.df.up mJ hle,h.si,h.fs.up mJ hle,h.fc.up mJ hle,h.Hw mJ hle,⟨HS.eraseIdx k,k3.up mJ hle,?_⟩,hq3,h.fr⟩;have q4:=(q3.gH (mw k1 _)).set (k:=0) (r':=q) rfl (Nat.le_refl _) (λ_ _ _ =>rfl) Yt h.si.s.size (λb hb=>by
  rw[Nh]at hb;exact⟨.inl hb,(q3.own x TQ b hb).2⟩)
 refine aX.gH q4 ?_;have e1:HK++([q]++X)=HK++(q::X):=rfl;rw[e1];refine List.Perm.trans ?_ (List.Perm.append_left _ (List.perm_middle (a:=q) (l₁:=HK) (l₂:=X)).symm);exact(List.perm_middle (a:=q) (l₁:=HS.eraseIdx k) (l₂:=HK++X)).symm
theorem KZ{f:Nat->List Value}{z:Nat}:∀{n m:Nat},(∀i,i<n->(f i).length=z)->m<=n->(flat f n).take (m*z)=flat f m:=by
 intro n
 induction n with
 |zero=>
  intro m _ h;have:m=0:=by omega
  subst this;simp[flat]
 |succ n ih=>
  intro m h hm;rcases Nat.lt_or_ge n m with q|q
  ·have:m=n+1:=by omega
   subst this;exact List.take_of_length_le (by rw[eM h];exact Nat.le_refl _)
  ·show(flat f n++f n).take (m*z)=_
   have hl:(flat f n).length=n*z:=eM λi hi=>h i (by omega);have hle:m*z<=n*z:=Nat.mul_le_mul_right _ q;rw[List.take_append_of_le_length (by omega)];exact ih (λi hi=>h i (by omega)) q
theorem Me{T r n e0 sz T':Nat}{x hi:Operand}{p:List pg}{cc:AV G}{e:Ty}{f:Nat->e.T G}{k:IntKind}{i:Int}{q:Bool}(hT:N6 P tt T=some (n,e0,sz))(hx:dX C S [] x=some (.ptr r p))(hh:jq (dX C S [] hi)=some (k,i,q))(ho:bP S.O r=some (.bK T' cc))(hl:EB tt.F cc p=some (.dat (.jr n e) f))(hg:cG i (n+1)=true):
  SK P ⟨d, .slice T x none (some hi) none,ty,ps,af,g⟩ C S {S with O:=s7 S.O r} (.dat (.sl e) ((List.range i.toNat).map f)):=by
 intro c N ρ J HK X a w next Q h hk
 have hE:=bQ h (ch:=[]) (by simp);obtain⟨b,o,e1,e2,e3⟩:=mq (hE.ok _ _ hx);obtain⟨b',u,J',Y,m1,m2,mJ,m3,h'⟩:=h.abv ho;have eb:b=b'/\o=0:=by rcases e1 with h1|⟨n,cap,_,_,_,_,h1,_⟩<;>rw[h1]at m1<;>simp[cy]at m1;exact m1
 obtain⟨rfl,rfl⟩:=eb;obtain⟨g1,g2⟩:=bB hg;have g2:=Nat.lt_succ_iff.1 g2;obtain⟨u',n1,n2,n3⟩:=CO hl m2 e3;obtain⟨u2,e4,⟨HD,r1,r2⟩,_⟩:=n1;cases e4;have hlen:∀i,i<n->(HD i).length=(e.L G).n:=λi hi=>(e.L G).len (r2 i hi);have hsz:u'.cells.size=n*(e.L G).n:=by rw[← Array.length_toList,r1,eM hlen]
 have hm:((List.range i.toNat).map f).length=i.toNat:=by simp
 have hxl:=hE.ev _ _ hx;rw[e2,Nat.zero_add]at hxl;have fl:=gK hE hh;have hfz:yB J' (.slice (some ⟨b,dh p,none⟩) i.toNat n) (e.L G) (flat HD i.toNat) ((List.range i.toNat).map f):=by
  refine⟨⟨_,_,by rw[hm]⟩,?_,λw hw=>?_⟩
  ·rw[hm]
   refine⟨HD,rfl,λj hj=>?_⟩;have e5:((List.range i.toNat).map f).getD j default=f j:=by simp[List.getD_eq_getElem?_getD,hj]
   show(e.L G).dS J' (HD j) (((List.range i.toNat).map f).getD j default);rw[e5];exact(e.L G).mono mJ (r2 j (by omega))
  ·obtain⟨k1,k2⟩:=m3 w hw
   refine⟨by rw[hm,eM λj hj=>hlen j (by omega)], .inr ⟨b,dh p,n,by rw[hm],k2,by rw[hm];exact g2,λj v hj=>?_⟩⟩;rw[nI k1];have hj1:j<i.toNat*(e.L G).n:=by have:=(List.getElem?_eq_some_iff.1 hj).1;rwa[eM λj hj=>hlen j (by omega)]at this
   have hj2:i.toNat*(e.L G).n<=n*(e.L G).n:=Nat.mul_le_mul_right _ g2;rw[← KZ hlen g2, ← r1, ← n2,List.getElem?_take,ab4 hj1,List.getElem?_take,ab4 (by omega),List.getElem?_drop]at hj;exact hj
 obtain⟨LD,_,hs0,hm'⟩:=h'.st;have hv:rv J' ρ (.dat (.sl e) ((List.range i.toNat).map f)) (.slice (some ⟨b,dh p,none⟩) i.toNat n):=⟨_,rfl,B7 hfz⟩;have fin:∀w',aG [] w w'->next (a.put d (.slice (some ⟨b,dh p,none⟩) i.toNat n)) w':=λw' hs=>by refine hk ρ J' Y w' _ (aP.cB _ _) mJ hv ?_;obtain⟨Vz,p1,p3⟩:=h'.hp;exact⟨h'.tm,h'.df,h'.si.ext hs,h'.fs,h'.fc,h'.kc,⟨Vz,p1,p3.ext hs⟩,h'.kn,h'.fr⟩
 rcases Cc hT with h3|h3
 ·exact(Hh (P:=P) (N:=N) (c:=c) hxl fl g1 g2) a.defers a w next Q hs0 fin
 ·exact(Hg (P:=P) (N:=N) (c:=c) h3 hxl fl g1 g2) a.defers a w next Q hs0 fin
theorem OM{F:cO}{x y:Operand}{t e b off n i j T:Nat}{cs cs':List Value}{H':List ay}(ht:Bm P t e 1=true)(hx:Bw.ev F x=some (OY b off i n 1))(hy:Bw.ev F y=some (OY b off j n 1))(hi:i<=n)(hj:j<=n)(hle:off+n<=cs.length)(h1:lI ((cs.drop (off+j)).take (min (n-j) (n-i))))
  (hc':bh cs (if n=i then off else off+i*1) ((cs.drop (off+j)).take (min (n-j) (n-i)))=cs')[hc:oA H b T cs][hs:BS H b cs' H']:
  RX (α:=Unit) P N c ⟨d, .call ⟨.builtin .copy, #[x,y], #[t,t]⟩,ty,ps,af,g⟩ F H (λ_ =>True) (λ_ => .int .i64 (min (n-j) (n-i):Nat)) (λ_ =>H'):=λD a w next Q hst hk=>by
 obtain⟨inf,e1,e2,e3⟩:=sD.get ht;have hb:w.heap[b]? =some (.cells cs.toArray T (0,0)):=hst.hp.holds _ hc.mem;let m:=min (n-j) (n-i);let o:=if n=i then off else off+i*1
 let src:=(cs.drop (off+j)).take m;have qA:src.length=m:=by simp only[src,List.length_take,List.length_drop];omega
 have VU:m≠0->o=off+i:=λhm=>by simp only[o];split<;>omega
 have Si:∀l:Nat,(if n=l then(⟨b,off,none⟩:Addr)else⟨b,off+l*1,none⟩)=⟨b,if n=l then off else off+l*1,none⟩:=λl=>by split<;>rfl
 have hsrc:∀(q:Nat) (v:Value),src[q]? =some v->w.cell? ((⟨b,if n=j then off else off+j*1,none⟩:Addr).add q)=some v:=λq v hq=>by
  have Nh:q<m:=by have:=(List.getElem?_eq_some_iff.1 hq).1;omega
  have hnj:¬n=j:=by omega
  rw[ab5 hnj,Addr.add_lit,nI (hst.hp.holds _ hc.mem)];simp only[src,List.getElem?_take,ab4 Nh,List.getElem?_drop]at hq;rw[← hq,Nat.mul_one]
 have h1:lI src:=h1;have hrun:=run_copy_row (P:=P) w t t ty e b o (n-i) (n-i) ⟨b,if n=j then off else off+j*1,none⟩ (n-j) (n-j) cs.toArray T src e1 (by simp[e2,e3]) hb qA hsrc (by
  rw[qA,List.size_toArray];by_cases hm:m=0
  ·rw[hm];simp only[o];split<;>omega
  ·rw[VU hm];omega) h1
 have hnew:cs.take o++src++cs.drop (o+src.length)=cs':=hc';have fF:aG [b] w (w.setRow b cs'.toArray):=⟨rfl,rfl,rfl,by simp,λk _ hk=>setRow_other w b k _ (by simpa using hk)⟩;refine cE (by simp) (v:= .int .i64 (m:Nat)) (w':=w.setRow b cs'.toArray) ?_ (hk () _ trivial (hst.si.store hst.hp hc.mem (by simp[ay.bK]) fF) (hst.hp.Td hs fF hst.si.size ?_))
 ·have e5:(cs.toArray.toList.take o++src++cs.toArray.toList.drop (o+src.length)).toArray=cs'.toArray:=by rw[← hnew]
  rw[e5,qA]at hrun;have qz:a.eval x= .slice (some ⟨b,o,none⟩) (n-i) (n-i):=by rw[aA hst.fr hx,OY,Si i]
  have Qn:a.eval y= .slice (some ⟨b,if n=j then off else off+j*1,none⟩) (n-j) (n-j):=by rw[aA hst.fr hy,OY,Si j]
  simp only[Nat.mul_one]at hrun Qn;simp[execOp,resolve,invoke,builtin,qz,Qn,hrun];rfl
 ·intro T' UH hT
  have:=Bp (hst.hp.holds _ hc.mem) hT;obtain⟨rfl,rfl⟩:=this;have:=setRow_heap w b cs.toArray cs'.toArray T (0,0) hb;simpa[ay.holds]using this
def Em:List pg->List pg->Bool
 |[],[]=>true
 | .Bj j o::r, .Bj k q::s=>Nat.beq j k&&(Nat.beq o q&&Em r s)
 |_,_ =>false
theorem PE:∀{p q:List pg},Em p q=true->p=q:=by
 intro p
 induction p with
 |nil=>intro q h;cases q with
  |nil=>rfl
  |cons _ _ =>cases h
 |cons s r ih=>
  intro q h;cases s with
  |Bj j o=>
   cases q with
   |nil=>cases h
   |cons t q=>
    cases t with
    |Bj k l=>simp only[Em,ab7]at h;rw[ab6 h.1,ab6 h.2.1,ih h.2.2]
    |idx _ _ _ =>cases h
  |idx _ _ _ =>cases q<;>cases h
theorem GH{k:IntKind}{n:Nat}{f:Nat->Int}{cs:List Value}(h:(LA (LI k) n).dS J cs f):cs=flat (λq=>[Value.int k (f q)]) n:=by obtain⟨g,rfl,h1⟩:=h;exact s0 λi hi=>h1 i hi
theorem Na{k:IntKind}{n:Nat}{f:Nat->Int}:rv (G:=G) J ρ (.dat (.jr n (.int k)) f) (.agg (flat (λq=>[Value.int k (f q)]) n).toArray):=
 ⟨_,rfl,⟨λq=>[Value.int k (f q)],rfl,λ_ _ =>rfl⟩,λ_ =>⟨_,rfl⟩,nofun⟩
theorem IQ{k:IntKind}{f:Nat->Int}{cs:List Value}{off i j n:Nat}(hi:i<=n)(hj:j<=n)(hle:off+n<=cs.length)(hsub:(cs.drop off).take n=flat (λq=>[Value.int k (f q)]) n):
  bh cs (if n=i then off else off+i*1) ((cs.drop (off+j)).take (min (n-j) (n-i)))=bh cs off (flat (λq=>[Value.int k (Ss i j n f q)]) n):=by
 let m:=min (n-j) (n-i);let o:=if n=i then off else off+i*1
 let src:=(cs.drop (off+j)).take m;show bh cs o src=_;have qA:src.length=m:=by simp only[src,List.length_take,List.length_drop];omega
 have VU:m≠0->o=off+i:=λhm=>by simp only[o];split<;>omega
 have hfl:(flat (λq=>[Value.int k (Ss i j n f q)]) n).length=n:=by rw[eM (k:=1) (λq _ =>rfl)];omega
 have hcell:∀q,q<n->cs[off+q]? =some (Value.int k (f q)):=λq hq=>by
  have h5:((cs.drop off).take n)[q]? =(flat (λq=>[Value.int k (f q)]) n)[q]? :=by rw[hsub]
  rw[List.getElem?_take,ab4 hq,List.getElem?_drop,NK (λi=>rfl),ab4 hq]at h5;exact h5
 refine r9 λq=>?_;rw[fe (off:=o) (vs:=src) (by
  rw[qA];by_cases hm:m=0
  ·rw[hm];simp only[o];split<;>omega
  ·rw[VU hm];omega),fe (off:=off) (by omega),hfl,qA]
 by_cases hin:off<=q/\q<off+n
 ·rw[ab4 hin,NK (λi=>rfl),ab4 (show q-off<n by omega)]
  by_cases hm:i<=q-off/\q-off<i+m
  ·have ho:=VU (by omega)
   rw[ab4 (by omega)];simp only[Ss];rw[ab4 hm];simp only[src,List.getElem?_take,List.getElem?_drop];rw[ab4 (by omega),show off+j+(q-o)=off+(q-off-i+j)by omega];exact hcell _ (by omega)
  ·have hno:¬(o<=q/\q<o+m):=λhq=>by
    have ho:=VU (by omega);omega
   rw[ab5 hno];simp only[Ss];rw[ab5 hm];have:=hcell (q-off) (by omega);rw[show off+(q-off)=q by omega]at this;exact this
 ·rw[ab5 hin]
  have hno:¬(o<=q/\q<o+m):=λhq=>by have ho:=VU (by omega);omega
  rw[ab5 hno]
theorem CF{r:Nat}{p:List pg}{n sz:Nat}{up:Bool}{i:Int}{u:Value}(h:rv (G:=G) J ρ (.CG r p n sz up i) u){b:Nat}(m1:ρ r=some (cy b 0)):u=MN b (dh p) n sz up i.toNat/\(∀s∈p,s.ok)/\i.toNat<=n:=by
 obtain⟨⟨b',o,e1,e2⟩,e3,e4⟩:=h;have eb:b'=b/\o=0:=by rcases e1 with h1|⟨n,cap,_,_,_,_,h1,_⟩<;>rw[h1]at m1<;>simp[cy]at m1;exact m1
 obtain⟨rfl,rfl⟩:=eb;rw[Nat.zero_add]at e2;exact⟨(List.cons.inj e2).1,e3,e4⟩
theorem S7{T e bt r T' n:Nat}{x y:Operand}{p p':List pg}{cc HD:AV G}{k:IntKind}{f:Nat->Int}{i j:Int}(hT:tt.te.find T=some (.sl e 1 bt))(hx:dX C S [] x=some (.CG r p n 1 true i))(hy:dX C S [] y=some (.CG r p' n 1 true j))(hp:Em p p'=true)(ho:bP S.O r=some (.bK T' cc))(hl:EB tt.F cc p=some (.dat (.jr n (.int k)) f))
  (hst:HV tt.F cc p (.dat (.jr n (.int k)) (Ss i.toNat j.toNat n f))=some HD):
  SK P ⟨d, .call ⟨.builtin .copy, #[x,y], #[T,T]⟩,ty,ps,af,g⟩ C S {S with O:=mX S.O r (.bK T' HD)} (.int .i64 ((min (n-j.toNat) (n-i.toNat):Nat):Int)):=by
 intro c N ρ J HK X a w next Q h hk
 obtain⟨HS,h1,hs0,hm⟩:=h.st;have hE:=bQ h (ch:=[]) (by simp);obtain⟨kk,q,k1,⟨b,u,m1,rfl,m3⟩,k3⟩:=h1.set ho;obtain rfl:=PE hp;obtain⟨x1,e3,x3⟩:=CF (hE.ok _ _ hx) m1;obtain⟨y1,_,y3⟩:=CF (hE.ok _ _ hy) m1;have qz:=hE.ev _ _ hx;have Qn:=hE.ev _ _ hy;rw[x1,E8]at qz;rw[y1,E8]at Qn;obtain⟨u',n1,n2,n3⟩:=CO hl m3 e3;obtain⟨u2,e4,hr,_⟩:=n1;cases e4;have hfl:=GH hr;have hsz:u'.cells.size=n:=by rw[← Array.length_toList,hfl,eM (k:=1) (λ_ _ =>rfl),Nat.mul_one]
 rw[hsz,hfl]at n2;rw[hsz]at n3;obtain⟨u3,q1,q2,q3,q4⟩:=E1 (Na (J:=J) (ρ:=ρ) (k:=k) (n:=n) (f:=Ss i.toNat j.toNat n f)) hst m3 e3;have hone:lI ((u.cells.toList.drop (dh p+j.toNat)).take (min (n-j.toNat) (n-i.toNat))):=λv hv=>by
  obtain⟨q,hq⟩:=List.mem_iff_getElem?.1 hv;have Yt:q<min (n-j.toNat) (n-i.toNat):=by have:=(List.getElem?_eq_some_iff.1 hq).1;simp only[List.length_take]at this;omega
  rw[List.getElem?_take,ab4 Yt,List.getElem?_drop]at hq;have h5:((u.cells.toList.drop (dh p)).take n)[j.toNat+q]? =(flat (λq=>[Value.int k (f q)]) n)[j.toNat+q]? :=by rw[n2]
  rw[List.getElem?_take,ab4 (by omega),List.getElem?_drop, ← Nat.add_assoc,hq,NK (λi=>rfl),ab4 (by omega)]at h5;cases h5;rfl
 have DM:=nG (m:=HK++X) k1;haveI:oA (HS++(HK++X)) b T' u.cells.toList:=⟨List.mem_of_getElem? DM⟩;haveI:BS (HS++(HK++X)) b u3.cells.toList (HS.set kk (.cells b T' u3.cells.toList)++(HK++X)):=⟨kk,T',_,DM,by rw[qO k1]⟩;refine OM (cs:=u.cells.toList) (cs':=u3.cells.toList) (tt.sl hT).1.ok qz Qn x3 y3 (by simpa using n3) hone ?_ a.defers a w next Q hs0 λ_ w' _ hs hp=>?_
 ·rw[q2]
  exact IQ x3 y3 (by simpa using n3) n2
 ·exact hk ρ J [] w' _ (aP.cB _ _) (λ_ h=>h) rfl (h.yY (k3 (.bK T' HD) _ ⟨b,u3,m1,rfl,q1⟩) hs hp)
theorem QO{e:Nat}{k:IntKind}(h:zE P e k=true):(P.info? e).bind (·.zero)=some (.int k 0):=by
 unfold zE at h;split at h
 ·rename_i k' n h1
  simp only[ab7,beq_iff_eq]at h;obtain rfl:=CS h.1;rw[h1,h.2]
 ·cases h
theorem S8{T e bt r T' n:Nat}{x:Operand}{p:List pg}{cc HD:AV G}{k:IntKind}{f:Nat->Int}{i:Int}(hT:tt.te.find T=some (.sl e 1 bt))(hx:dX C S [] x=some (.CG r p n 1 false i))(hi:Nat.beq i.toNat n=true)(hn:Nat.blt 0 n=true)(ho:bP S.O r=some (.bK T' cc))(hl:EB tt.F cc p=some (.dat (.jr n (.int k)) f))(hz:zE P e k=true)
  (hst:HV tt.F cc p (.dat (.jr n (.int k)) (λ_ =>(0:Int)))=some HD):
  SK P ⟨d, .call ⟨.builtin .clear, #[x], #[T]⟩,ty,ps,af,g⟩ C S {S with O:=mX S.O r (.bK T' HD)} (.gO .nil):=by
 intro c N ρ J HK X a w next Q h hk
 obtain⟨HS,h1,hs0,hm⟩:=h.st;have hE:=bQ h (ch:=[]) (by simp);obtain⟨kk,q,k1,⟨b,u,m1,rfl,m3⟩,k3⟩:=h1.set ho;obtain⟨x1,e3,x3⟩:=CF (hE.ok _ _ hx) m1;have qz:=hE.ev _ _ hx;rw[x1,E9,ab6 hi]at qz;obtain⟨u',n1,n2,n3⟩:=CO hl m3 e3;obtain⟨u2,e4,hr,_⟩:=n1;cases e4;have hfl:=GH hr;have hsz:u'.cells.size=n:=by rw[← Array.length_toList,hfl,eM (k:=1) (λ_ _ =>rfl),Nat.mul_one]
 rw[hsz]at n3;obtain⟨u3,q1,q2,q3,q4⟩:=E1 (Na (J:=J) (ρ:=ρ) (k:=k) (n:=n) (f:=λ_ =>(0:Int))) hst m3 e3;have DM:=nG (m:=HK++X) k1;haveI:oA (HS++(HK++X)) b T' u.cells.toList:=⟨List.mem_of_getElem? DM⟩;haveI:BS (HS++(HK++X)) b u3.cells.toList (HS.set kk (.cells b T' u3.cells.toList)++(HK++X)):=⟨kk,T',_,DM,by rw[qO k1]⟩;have tz:I4 P e (.int k 0):=⟨QO hz⟩;refine OO (cs:=u.cells.toList) (cs':=u3.cells.toList) (z:= .int k 0) (tt.sl hT).1.ok tz rfl rfl qz (by simpa[Nat.blt_eq]using hn) (by simpa using n3) ?_ a.defers a w next Q hs0 λ_ w' _ hs hp=>?_
 ·rw[q2, ← vj]
  rfl
 ·exact hk ρ J [] w' _ (aP.cB _ _) (λ_ h=>h) ⟨[],rfl,rfl⟩ (h.yY (k3 (.bK T' HD) _ ⟨b,u3,m1,rfl,q1⟩) hs hp)
end Go.Rw
namespace Go.Bw
open Go Go.RowKit
def Rx(H:List ay)(w w':World):Prop:=w.heap.size<=w'.heap.size/\∀b,b<w.heap.size->b∉aV H->w'.heap[b]? =w.heap[b]?
theorem Lc{P:Program}{N:Nat}{c:Cx}{D:List Deferred}{Q:Exit->Act->World->Prop}{H:List ay}{g:Operand}{ps:List Nat}{assign body:Code}
  {gf n:Nat}{caps:Array Value}{Hc Ho:List ay}{qC:Nat->List Value}{α β:Type}
  {a:Act}{w:World}(hst:St N c D [] H a w)(hro:c.ro=none)(hg:a.eval g= .func (.func gf) #[] caps)(VV:∀args w,(callFunc gf args).run P w= .ok (.enter gf args) w)
  (hit:∀(ly:Nat) (J:Nat->List Nat->World->Prop) (Jx:List Nat->World->Prop) (bs:List Nat) (W1:World),Rx H w W1->(∀b∈bs,b∈aV H\/w.heap.size<=b)->aX (bs++aV Hc) W1.heap.size (.ext bs (J 0 bs)::Hc) W1->Rnd P ly (bs++aV Hc) W1 J Jx qC n->
   Calls P gf (.func (.yield ly) #[] #[]::caps.toList).toArray W1 λe w'=>∃x:Bool×List Nat,e= .returned (.tuple #[])/\aG (bs++aV Hc) W1 w'/\aX (bs++aV Hc) W1.heap.size (.ext x.2 (bif x.1 then J n x.2 else Jx x.2)::Ho) w')(hlen:∀k,(qC k).length=ps.length)(hps:ps.all (Nat.blt · N)=true)
  (p:Nat->α->Prop)(I:Nat->α->List ay)(px:Code->β->Prop)(X:β->List ay)(i0:α)(KR:p 0 i0)(hH:H=Hc++I 0 i0)
  (hbody:∀(k:Nat) (i:α) (rec:Loop) (bs:List Nat) (W:World),k<n->p k i->rec.state= .ready->rec.pending=none->c.w0.heap.size<=W.heap.size->
   (∀b,(b∈bs\/W.heap.size<=b)->(b∈c.bs\/c.w0.heap.size<=b))->Rx H w W->aX bs W.heap.size (.obj w.heap.size (.deferred (some [])):: .obj (w.heap.size+1) (.loop rec)::I k i) W->
   assign.wpIn (FA (some (w.heap.size+1))) 0 P (Vl P (w.heap.size+1) body (OG ⟨some (w.heap.size+1),W,bs⟩ (JW c.w0.heap.size c.bs (p (k+1)) (λi=> .obj w.heap.size (.deferred (some [])):: .obj (w.heap.size+1) (.loop rec)::I (k+1) i))
    (JW c.w0.heap.size c.bs (λq:Code×β=>px q.1 q.2) (λq=> .obj w.heap.size (.deferred (some [])):: .obj (w.heap.size+1) (.loop {rec with state:= .done,pending:=some q.1})::X q.2))))
    {tmps:=(ps.zip (qC k)).foldl (λt q=>t.setIfInBounds q.1 q.2) a.tmps,defers:=[]} W)
  (hdone:∀i w2,p n i->Rx H w w2->St N c (mark w.heap.size::D) [] (.obj w.heap.size (.deferred (some []))::(Ho++I n i)) {a with defers:=mark w.heap.size::a.defers} w2->Q .normal {a with defers:=mark w.heap.size::a.defers} w2)
  (YG:∀j i w2,px j i->Rx H w w2->St N c (mark w.heap.size::D) [] (.obj w.heap.size (.deferred (some []))::(Ho++X i)) {a with defers:=mark w.heap.size::a.defers} w2->j.wpIn (FA c.ro) 0 P Q {a with defers:=mark w.heap.size::a.defers} w2):
  (Code.rangeFunc g ps.toArray assign body).wpIn (FA c.ro) 0 P Q a w:=by
 refine wpIn_rangeFunc λfn _ =>?_;have rB:(FA c.ro).round=none:=hro;rw[rB];obtain⟨rec,aY⟩:∃rec:Loop,rec={state:= .ready,pending:=none,fn,tmps:=a.tmps,params:=ps.toArray,assign,body,defers:=w.heap.size}:=⟨_,rfl⟩;obtain⟨W1,Qx⟩:∃W1,(w.alloc (.deferred (some []))).alloc (.loop rec)=W1:=⟨_,rfl⟩;have Yp:aG [] w W1:=by rw[← Qx];exact(aG.alloc w _).ext (aG.alloc _ _)
 have abV:W1.heap.size=w.heap.size+2:=by rw[← Qx];simp
 have hL1:W1.heap[w.heap.size+1]? =some (.loop rec):=by rw[← Qx];have:=World.alloc_heap_new (w.alloc (.deferred (some []))) (.loop rec);rwa[World.size_alloc]at this
 have hK1:W1.heap[w.heap.size]? =some (.deferred (some [])):=by rw[← Qx];exact(Below.heap_alloc _ _ _ (by simp)).trans (World.alloc_heap_new w _)
 have hev:=hg;have hfr:=hst.fr;let J:Nat->List Nat->World->Prop:=λk=>JW c.w0.heap.size c.bs (p k) (λi=> .obj w.heap.size (.deferred (some [])):: .obj (w.heap.size+1) (.loop rec)::I k i);let Jx:List Nat->World->Prop:=JW c.w0.heap.size c.bs (λq:Code×β=>px q.1 q.2) (λq=> .obj w.heap.size (.deferred (some [])):: .obj (w.heap.size+1) (.loop {rec with state:= .done,pending:=some q.1})::X q.2);have Yv:aX c.bs c.w0.heap.size (Hc++I 0 i0) W1:=by rw[← hH];exact hst.hp.ext Yp
 have hH1:aX c.bs c.w0.heap.size (.obj w.heap.size (.deferred (some [])):: .obj (w.heap.size+1) (.loop rec)::(Hc++I 0 i0)) W1:=by
  have hlt:∀s∈Hc++I 0 i0,∀b∈s.bK,b<w.heap.size:=λs hs b hb=>by
   have hm:s∈H:=by rw[hH];exact hs
   exact(hst.hp.own s hm b hb).2
  have abU:=hst.si.size;refine aX.cons (aX.cons Yv hL1 ?_ ?_) hK1 ?_ ?_
  ·intro b hb;have e:b=w.heap.size+1:=by simpa[ay.bK]using hb
   subst e;exact⟨.inr (by omega),by omega⟩
  ·intro s hs b hb ku
   have e:b=w.heap.size+1:=by simpa[ay.bK]using hb
   have:=hlt s hs b ku;omega
  ·intro b hb;have e:b=w.heap.size:=by simpa[ay.bK]using hb
   subst e;exact⟨.inr (by omega),by omega⟩
  ·intro s hs b hb ku
   have e:b=w.heap.size:=by simpa[ay.bK]using hb
   rcases List.mem_cons.1 hs with rfl|hs
   ·have e2:b=w.heap.size+1:=by simpa[ay.bK]using ku
    omega
   ·have:=hlt s hs b ku;omega
 let I0:List ay:= .obj w.heap.size (.deferred (some [])):: .obj (w.heap.size+1) (.loop rec)::I 0 i0;have hHI:aX c.bs c.w0.heap.size I0 W1:=hH1.sub (by
  refine List.Sublist.cons_cons _ (List.Sublist.cons_cons _ (List.sublist_append_right _ _)))
 have hHc:aX c.bs c.w0.heap.size Hc W1:=hH1.sub (by
  refine List.Sublist.cons _ (List.Sublist.cons _ (List.sublist_append_left _ _)))
 have hap:∀r∈I0,∀s∈Hc,r.apart s:=by
  intro r hr s hs;have hpw:=hH1.apart;rw[List.pairwise_cons,List.pairwise_cons,List.pairwise_append]at hpw;obtain⟨q1,q2,_,_,q3⟩:=hpw;rcases List.mem_cons.1 hr with rfl|hr
  ·exact q1 s (by simp[hs])
  ·rcases List.mem_cons.1 hr with rfl|hr
   ·exact q2 s (by simp[hs])
   ·exact ay.qu (q3 s hs r hr)
 refine⟨w.heap.size+1,[mark w.heap.size],W1,{target:= .fn (.func gf) caps,args:= #[.func (.yield (w.heap.size+1)) #[] #[]]},W1,gf,
  (Value.func (.yield (w.heap.size+1)) #[] #[]::caps.toList).toArray,W1,?_,?_,λ_ _ =>trivial,?_,λh=>by simp at h,?_⟩
 ·rw[← Qx,aY];exact run_enterLoop_outer _ _ _ _ _
 ·simp only[resolve,hev]
  simp[go_sem]
 ·have:=VV (#[.func (.yield (w.heap.size+1)) #[] #[]]++caps) W1
  simp only[invoke];rw[this];congr 2;simp
 ·have hin:aX (aV I0++aV Hc) W1.heap.size (ay.ext (aV I0) (J 0 (aV I0))::Hc) W1:=by
   refine⟨?_,?_,?_⟩
   ·intro r hr
    rcases List.mem_cons.1 hr with rfl|hr
    ·exact I9 (I:=λi=> .obj w.heap.size (.deferred (some [])):: .obj (w.heap.size+1) (.loop rec)::I 0 i) i0 KR hHI
    ·exact hHc.holds r hr
   ·intro r hr b hb
    rcases List.mem_cons.1 hr with rfl|hr
    ·obtain⟨s,hs,ku⟩:=aN.1 hb
     exact⟨.inl (ace _ hb),(hHI.own s hs b ku).2⟩
    ·exact⟨.inl (acd _ (aN.2 ⟨r,hr,hb⟩)),(hHc.own r hr b hb).2⟩
   ·refine List.pairwise_cons.2 ⟨λs hs b hb ku=>?_,hHc.apart⟩
    obtain⟨r,hr,D2⟩:=aN.1 hb;exact hap r hr s hs b D2 ku
  have Ni:∀b∈aV I0++aV Hc,b∈c.bs\/c.w0.heap.size<=b:=λb hb=>by
   rcases List.mem_append.1 hb with h|h
   ·obtain⟨r,hr,D2⟩:=aN.1 h;exact(hHI.own r hr b D2).1
   ·obtain⟨r,hr,D2⟩:=aN.1 h;exact(hHc.own r hr b D2).1
  have TW:aG c.bs c.w0 W1:=hst.si.ext Yp;have Uk:∀w',aG (aV I0++aV Hc) W1 w'->Rx H w w':=λw' hs=>⟨by have:=hs.size;omega,λb hb hnb=>by
   have h1:b∉aV I0++aV Hc:=λhm=>hnb (by
    rw[hH];rcases List.mem_append.1 hm with hm|hm
    ·obtain⟨r,hr,D2⟩:=aN.1 hm
     rcases List.mem_cons.1 hr with rfl|hr
     ·have e:b=w.heap.size:=by simpa[ay.bK]using D2
      omega
     ·rcases List.mem_cons.1 hr with rfl|hr
      ·have e:b=w.heap.size+1:=by simpa[ay.bK]using D2
       omega
      ·exact aN.2 ⟨r,acd _ hr,D2⟩
    ·obtain⟨r,hr,D2⟩:=aN.1 hm
     exact aN.2 ⟨r,ace _ hr,D2⟩)
   rw[hs.block b (by omega) h1];exact Yp.block b hb (by simp)⟩
  have hbI:∀b∈aV I0,b∈aV H\/w.heap.size<=b:=λb hm=>by
   obtain⟨r,hr,D2⟩:=aN.1 hm;rcases List.mem_cons.1 hr with rfl|hr
   ·have e:b=w.heap.size:=by simpa[ay.bK]using D2
    exact .inr (by omega)
   ·rcases List.mem_cons.1 hr with rfl|hr
    ·have e:b=w.heap.size+1:=by simpa[ay.bK]using D2
     exact .inr (by omega)
    ·exact .inl (by rw[hH];exact aN.2 ⟨r,acd _ hr,D2⟩)
  have Uj:=hit (w.heap.size+1) J Jx (aV I0) W1 (Uk W1 (aG.refl _ _)) hbI hin ?_
  ·refine gk c.ro ?_
   intro cs;obtain⟨e,w2,fr,⟨x,he,Yj,Ub⟩,Iw,CX⟩:=Uj cs;refine⟨e,w2,fr,?_,Iw,CX⟩;subst he;obtain⟨go,bs'⟩:=x;have Yi:aG c.bs c.w0 w2:=TW.trans Yj Ni;have hex:=Ub.holds _ (List.mem_cons_self);have abq:∀r∈Ho,r.holds w2:=λr hr=>Ub.holds r (ack _ hr);have abp:∀s∈Ho,∀b∈bs',b∉s.bK:=λs hs b hb=>by have:=Ub.apart;rw[List.pairwise_cons]at this;exact this.1 s hs b hb
   have both:∀(IL:List ay) (jump:Option Code) (st:LoopState),st≠ .busy->bs'=aV (.obj w.heap.size (.deferred (some [])):: .obj (w.heap.size+1) (.loop {rec with state:=st,pending:=jump})::IL)->
     aX c.bs c.w0.heap.size (.obj w.heap.size (.deferred (some [])):: .obj (w.heap.size+1) (.loop {rec with state:=st,pending:=jump})::IL) w2->
     ∃w4,(Instr.endLoop (w.heap.size+1)).run P w2= .ok jump w4/\Rx H w w4/\St N c (mark w.heap.size::D) [] (.obj w.heap.size (.deferred (some []))::(Ho++IL)) {a with defers:=mark w.heap.size::a.defers} w4:=by
    intro IL jump st TV ku hI;have hl:w2.heap[w.heap.size+1]? =some (.loop {rec with state:=st,pending:=jump}):=hI.holds (.obj (w.heap.size+1) _) (by simp);have zv:aX c.bs c.w0.heap.size (.obj w.heap.size (.deferred (some [])):: .obj (w.heap.size+1) (.loop {rec with state:=st,pending:=jump})::(Ho++IL)) w2:=by
     have hq:=hI.apart;rw[List.pairwise_cons,List.pairwise_cons]at hq;refine⟨?_,?_,?_⟩
     ·intro r hr
      rcases List.mem_cons.1 hr with rfl|hr
      ·exact hI.holds _ (by simp)
      ·rcases List.mem_cons.1 hr with rfl|hr
       ·exact hI.holds _ (by simp)
       ·rcases List.mem_append.1 hr with h|h
        ·exact abq r h
        ·exact hI.holds r (by simp[h])
     ·intro r hr b hb
      rcases List.mem_cons.1 hr with rfl|hr
      ·exact hI.own _ (by simp) b hb
      ·rcases List.mem_cons.1 hr with rfl|hr
       ·exact hI.own _ (by simp) b hb
       ·rcases List.mem_append.1 hr with h|h
        ·obtain⟨o,lt⟩:=Ub.own r (ack _ h) b hb
         exact⟨o.elim (Ni b) (λo=> .inr (Nat.le_trans TW.size o)),lt⟩
        ·exact hI.own r (by simp[h]) b hb
     ·have hcI:∀r,r∈(ay.obj w.heap.size (.deferred (some [])):: .obj (w.heap.size+1) (.loop {rec with state:=st,pending:=jump})::IL)->∀s∈Ho,r.apart s:=λr hr s hs b hb ED=>abp s hs b (by rw[ku];exact aN.2 ⟨r,hr,hb⟩) ED
      refine List.pairwise_cons.2 ⟨λs hs=>?_,List.pairwise_cons.2 ⟨λs hs=>?_,List.pairwise_append.2 ⟨(List.pairwise_cons.1 Ub.apart).2,hq.2.2,λs hs r hr=>ay.qu (hcI r (by simp[hr]) s hs)⟩⟩⟩
      ·rcases List.mem_cons.1 hs with rfl|hs
       ·exact hq.1 _ (by simp)
       ·rcases List.mem_append.1 hs with h|h
        ·exact hcI _ (by simp) s h
        ·exact hq.1 s (by simp[h])
      ·rcases List.mem_append.1 hs with h|h
       ·exact hcI _ (by simp) s h
       ·exact hq.2.1 s h
    have Ft:St N c (mark w.heap.size::D) [] (.obj w.heap.size (.deferred (some [])):: .obj (w.heap.size+1) (.loop {rec with state:=st,pending:=jump})::(Ho++IL)) {a with defers:=mark w.heap.size::a.defers} w2:=
     ⟨hst.tm,hfr,by simp[hst.df],Yi,zv⟩
    have hso:Lj (.obj w.heap.size (.deferred (some [])):: .obj (w.heap.size+1) (.loop {rec with state:=st,pending:=jump})::(Ho++IL)) (w.heap.size+1) (.loop {rec with state:= .exhausted,pending:=jump}) (.obj w.heap.size (.deferred (some [])):: .obj (w.heap.size+1) (.loop {rec with state:= .exhausted,pending:=jump})::(Ho++IL)):=inferInstance;have ho:Ln (.obj w.heap.size (.deferred (some [])):: .obj (w.heap.size+1) (.loop {rec with state:=st,pending:=jump})::(Ho++IL)) (w.heap.size+1) (.loop {rec with state:=st,pending:=jump}):=inferInstance;obtain⟨h3,_⟩:=Ft.mX ho hso;have hap:=Uk w2 Yj;refine⟨_,run_endLoop hl TV,⟨by have:=hap.1;simpa[World.putObj]using this,λb hb hnb=>(World.putObj_heap_other (by omega)).trans (hap.2 b hb hnb)⟩,⟨h3.tm,h3.fr,h3.df,h3.si,h3.hp.sub ?_⟩⟩;exact List.Sublist.cons_cons _ (List.Sublist.cons _ (List.Sublist.refl _))
   cases go with
   |true=>
    obtain⟨i,Qq,hI,ku⟩:=zA hex;have hrr:({rec with state:=LoopState.ready,pending:=none}:Loop)=rec:=by rw[aY]
    obtain⟨w4,h4,h4a,h5⟩:=both (I n i) none .ready (by simp) (by rw[hrr];exact ku) (by rw[hrr];exact hI);exact⟨none,w4,h4,hdone i _ Qq h4a h5⟩
   |false=>obtain⟨⟨j,i⟩,Qq,hI,ku⟩:=zA hex;obtain⟨w4,h4,h4a,h5⟩:=both (X i) (some j) .done (by simp) ku hI;exact⟨some j,w4,h4,YG j i _ Qq h4a h5⟩
  ·
   intro k hk2 W bs hsW ab0 abk;obtain⟨i,Qq,hI,ku⟩:=zA abk;have hl:W.heap[w.heap.size+1]? =some (.loop rec):=hI.holds (.obj (w.heap.size+1) _) (by simp);have hy:=run_yield (P:=P) (args:=(qC k).toArray) hl (by rw[aY];simpa using hlen k);refine⟨_,_,_,_,hy,?_⟩;have Yk:aG c.bs c.w0 W:=TW.trans hsW Ni;have hsub:∀b,(b∈aV (ay.obj w.heap.size (.deferred (some [])):: .obj (w.heap.size+1) (.loop rec)::I k i)\/W.heap.size<=b)->(b∈c.bs\/c.w0.heap.size<=b):=λb hb=>by
    rcases hb with hb|hb
    ·obtain⟨r,hr,D2⟩:=aN.1 hb;exact(hI.own r hr b D2).1
    ·exact .inr (Nat.le_trans Yk.size hb)
   have hb:=hbody k i rec bs W hk2 Qq (by rw[aY]) (by rw[aY]) Yk.size (λb hb=>hsub b (by rw[← ku];exact hb)) (Uk W hsW);have ht:=P0 (ps:=ps) (vs:=qC k) hfr hst.tm hps;have aa2:(rec.params.zip (qC k).toArray).foldl (λtmps (t,a)=>tmps.setIfInBounds t a) rec.tmps=(ps.zip (qC k)).foldl (λt q=>t.setIfInBounds q.1 q.2) a.tmps:=by rw[aY];simp
   rw[aa2];have Z2:rec.assign=assign/\rec.body=body:=by rw[aY];exact⟨rfl,rfl⟩
   rw[Z2.1,Z2.2];have hI':aX bs W.heap.size (.obj w.heap.size (.deferred (some [])):: .obj (w.heap.size+1) (.loop rec)::I k i) W:=
    ⟨hI.holds,λr hr b hb=>⟨.inl (by rw[ku];exact aN.2 ⟨r,hr,hb⟩),(hI.own r hr b hb).2⟩,hI.apart⟩
   have rB:=roundIn_of_wpIn (F:=FA none) (n:=0) (P:=P) (l:=w.heap.size+1) (f:=rec.fn) (R:=OG ⟨some (w.heap.size+1),W,bs⟩ (J (k+1)) Jx) trivial
    (hb hI')
   refine rB.mono λe W' hr=>?_;exact hr
section rounds
variable {P:Program} {N:Nat} {c:Cx} {H:List ay} {l dd:Nat} {α β:Type} {n0:Nat} {cb:List Nat} {p:α->Prop} {I:α->List ay} {px:β->Prop} {X:β->List ay}
theorem PJ{rec:Loop}{a:Act}{w:World}(hr:rec.state= .ready)(hrp:rec.pending=none)(hT:∀b,(b∈c.bs\/c.w0.heap.size<=b)->(b∈cb\/n0<=b)){JX:List Nat->World->Prop}
  (hst:St N c [] [] (.obj dd (.deferred (some [])):: .obj l (.loop {rec with state:= .busy})::H) a w)(i:α)(hp:p i)(hI:I i= .obj dd (.deferred (some [])):: .obj l (.loop rec)::H):roundPost P l (OG c (JW n0 cb p I) JX) .normal a w:=by
 obtain⟨h1,h2⟩:=hst.mX (b:=l) (o':= .loop rec) inferInstance inferInstance;have e:({{rec with state:=LoopState.busy}with state:=if(none:Option Code).isNone then LoopState.ready else .done,pending:=none}:Loop)=rec:=by cases rec;simp_all
 have hrun:=run_endRound (P:=P) none h2;rw[e]at hrun;have hh:=h1.hp;rw[← hI]at hh;refine⟨_,_,hrun,aV (I i),?_,h1.si, .inl ⟨rfl,?_⟩⟩
 ·intro b hb;exact aG.RP hh hb
 ·exact I9 i hp ⟨hh.holds,λr hr b hb=>⟨hT b (hh.own r hr b hb).1,(hh.own r hr b hb).2⟩,hh.apart⟩
theorem PI{rec:Loop}{a:Act}{w:World}(hT:∀b,(b∈c.bs\/c.w0.heap.size<=b)->(b∈cb\/n0<=b)){JT:List Nat->World->Prop}{e:Exit}{j:Code}(hj:(e= .ret/\j= .ret)\/(∃id,e= .exit id/\j= .exit id))
  (hst:St N c [] [] (.obj dd (.deferred (some [])):: .obj l (.loop {rec with state:= .busy})::H) a w)(i:β)(hp:px i)(hI:X i= .obj dd (.deferred (some [])):: .obj l (.loop {rec with state:= .done,pending:=some j})::H):roundPost P l (OG c JT (JW n0 cb px X)) e a w:=by
 obtain⟨h1,h2⟩:=hst.mX (b:=l) (o':= .loop {rec with state:= .done,pending:=some j}) inferInstance inferInstance;have hrun:=run_endRound (P:=P) (some j) h2;have hh:=h1.hp;rw[← hI]at hh;have fin:∃v w',(Instr.endRound l (some j)).run P w= .ok v w'/\OG c JT (JW n0 cb px X) (.returned v) w':=by
  refine⟨_,_,hrun,aV (X i),?_,h1.si, .inr ⟨rfl,?_⟩⟩
  ·intro b hb;exact aG.RP hh hb
  ·exact I9 i hp ⟨hh.holds,λr hr b hb=>⟨hT b (hh.own r hr b hb).1,(hh.own r hr b hb).2⟩,hh.apart⟩
 rcases hj with⟨rfl,rfl⟩|⟨id,rfl,rfl⟩
 ·exact fin
 ·exact fin
end rounds
end Go.Bw
namespace Go.Rw
open Go Go.Bw Go.RowKit
variable {G:Sg} {P:Program}
inductive Ex(G:Sg) where
 |fZ
 |exit (i:Nat)
 |ret
 |sC (v:AV G)
inductive Cf where
 |code (c:Code)
 |ops (all:Array Oper) (l:List Oper)
 |lp (x:Code)
structure FI where
 code:Code
 N:Nat
 xn:List ResultVar
def BM(P:Program)(k:Nat):Option FI:=match P.funcs[k]? with
 |some fn=>match fn.body with
  |some code=>bif fn.name== "runtime.NumGoroutine" then none else some ⟨code,fn.ntmps,fn.results.toList⟩
  |none=>none
 |none=>none
inductive Lo where
 |slot (d:Nat)
 |via (d:Nat)
 |cap (d i:Nat)
 |frm (d i:Nat)
inductive Hn where
 |loop (l:List (Lo×Sh))
 |join (l:List (Lo×Sh)) (ex:List Nat)
 |EZ
def P4:Nat->List (Option Nat)->List (Option Nat)
 |0,l=>l
 |n+1,l=>none::P4 n l
def Zg(C:CC G)(S:AS G)(d i:Nat):Option Nat:=match dX C S [] (.tmp d)with
 |some (.fn _ _ cap)=>match KJ cap i with
  |some (.ptr q [])=>some q
  |_ =>none
 |_ =>none
def M9:Ob G->Bool
 | .lp _ _ _ _ _ _ =>true
 |_ =>false
def Fg:Os G->Bool
 |[]=>true
 |(_,o)::q=> !M9 o&&Fg q
def Uo:List Nat->AV G->Fr G
 |k::ks, .cons v r=>(k,v)::Uo ks r
 |_,_ =>[]
def Y4(C:CC G)(S:AS G)(d i:Nat):Option Nat:=match dX C S [] (.tmp d)with
 |some (.yl q)=>match bP (iZ C) q with
  |some (.lp _ ks vs _ _ _)=>match bP (Uo ks vs) i with
   |some (.ptr q [])=>some q
   |_ =>none
  |_ =>none
 |_ =>none
def Il(O:Os G):Sh->AV G->List (Option Nat)
 | .box _ s, .ptr r []=>some r::(match bP O r with
  |some (.bK _ c)=>Il O s c
  |_ =>P4 (zD s) [])
 | .fn _ a c, .fn _ x y=>Il O a x++Il O c y
 | .gO a, .gO x=>Il O a x
 | .st a, .st x=>Il O a x
 | .gM _ a, .gM _ x=>Il O a x
 | .cons a c, .cons x y=>Il O a x++Il O c y
 | .part _ a c, .part _ x y=>Il O a x++Il O c y
 |s,_ =>P4 (zD s) []
def RL(C:CC G)(S:AS G):List (Lo×Sh)->Option Hv
 |[]=>some ⟨[],[]⟩
 |(.slot d,s)::r=>match RL C S r with
  |some g=>some ⟨(.slot d,s)::g.l,P4 (zD s) g.nm⟩
  |none=>none
 |(.via d,s)::r=>match dX C S [] (.tmp d),RL C S r with
  |some (.ptr q []),some g=>some ⟨(.obj q,s)::g.l,Il S.O s (.ptr q [])++g.nm⟩
  |_,_ =>none
 |(.cap d i,s)::r=>match Zg C S d i,RL C S r with
  |some q,some g=>some ⟨(.obj q,s)::g.l,Il S.O s (.ptr q [])++g.nm⟩
  |_,_ =>none
 |(.frm d i,s)::r=>match Y4 C S d i,RL C S r with
  |some q,some g=>some ⟨(.obj q,s)::g.l,Il S.O s (.ptr q [])++g.nm⟩
  |_,_ =>none
def Gr(C:CC G)(S:AS G):List Nat->List Nat
 |[]=>[]
 |d::r=>match dX C S [] (.tmp d)with
  |some (.ptr q [])=>q::Gr C S r
  |some (.row q)=>q::Gr C S r
  |_ =>Gr C S r
def u9(O:Os G):Sh->AV G->List Nat
 | .row _ _ _, .row r=>[r]
 | .v _, .row r=>[r]
 | .box _ s, .ptr r []=>r::(match bP O r with
  |some (.bK _ c)=>u9 O s c
  |_ =>[])
 | .fn _ a c, .fn _ x y=>u9 O a x++u9 O c y
 | .gO a, .gO x=>u9 O a x
 | .st a, .st x=>u9 O a x
 | .gM _ a, .gM _ x=>u9 O a x
 | .cons a c, .cons x y=>u9 O a x++u9 O c y
 | .part _ a c, .part _ x y=>u9 O a x++u9 O c y
 |_,_ =>[]
def Ks(C:CC G)(S:AS G):List (Lo×Sh)->List Nat
 |[]=>[]
 |(.slot d,s)::r=>(match dX C S [] (.tmp d)with
  |some v=>u9 S.O s v
  |none=>[])++Ks C S r
 |(.via d,s)::r=>(match dX C S [] (.tmp d)with
  |some v=>u9 S.O s v
  |none=>[])++Ks C S r
 |(.cap d i,s)::r=>(match Zg C S d i with
  |some q=>u9 S.O s (.ptr q [])
  |none=>[])++Ks C S r
 |(.frm d i,s)::r=>(match Y4 C S d i with
  |some q=>u9 S.O s (.ptr q [])
  |none=>[])++Ks C S r
structure Vw(G:Sg)(L:List Ty) where
 lp:{Z:Type}->((HL G L->Option Z)->HL G L->Option Z)->Nat->HL G L->Option Z
 e0:∀{Z:Type} (B:(HL G L->Option Z)->HL G L->Option Z) (e:HL G L),lp B 0 e=none
 e1:∀{Z:Type} (B:(HL G L->Option Z)->HL G L->Option Z) (n:Nat) (e:HL G L),lp B (n+1) e=B (λe=>lp B n e) e
def R1{Z:Type}{L:List Ty}:Option (Vw G L)->((HL G L->Option Z)->HL G L->Option Z)->Nat->HL G L->Option Z
 |some v=>v.lp
 |none=>lpE L
theorem JA{Z:Type}{L:List Ty}{o:Option (Vw G L)}{B:(HL G L->Option Z)->HL G L->Option Z}{n:Nat}{e:HL G L}{z:Z}(h:R1 o B n e=some z):∃m,n=m+1/\B (R1 o B m) e=some z:=by
 cases o with
 |none=>exact Xw h
 |some v=>
  cases n with
  |zero=>rw[show R1 (some v) B 0 e=none from v.e0 B e]at h;cases h
  |succ n=>exact⟨n,rfl,by rw[show R1 (some v) B (n+1) e=B (λe=>v.lp B n e) e from v.e1 B n e]at h;exact h⟩
def ZF(P:Program)(k:Nat)(rA:Sh)(n:Nat)(ys:Sh){B:Type}(en:B->HL G (aD ys))(f:HL G (aD rA)->Option (List B)):Prop:=∀(ρ:aP) (J:World->Prop) (HB X:List ay) (vs:List Value) (x:HL G (aD rA)) (l:List B),f x=some l->rl J ρ (dy (λm=>m) rA x 0).1 vs->RO J ρ (dy (λm=>m) rA x 0).2.1 HB->LC G X J->ρ.fr (dy (λm=>m) rA x 0).2.2-> ∃qC:Nat->List Value,(∀(σ:aP) i y,l[i]? =some y->rl J σ (dy (λm=>m) ys (en y) 0).1 (qC i))/\(∀i,(qC i).length=n)/\ ∀(ly:Nat) (Jy:Nat->List Nat->World->Prop) (Jx:List Nat->World->Prop) (bs:List Nat) (w:World),aX (bs++(aV HB++aV X)) w.heap.size (.ext bs (Jy 0 bs)::(HB++X)) w->Rnd P ly (bs++aV HB) w Jy Jx qC l.length-> Calls P k (Value.func (.yield ly) #[] #[]::vs).toArray w λen w'=>∃x:Bool×List Nat,en= .returned (.tuple #[])/\aG (bs++aV HB) w w'/\aX (bs++aV HB) w.heap.size (.ext x.2 (bif x.1 then Jy l.length x.2 else Jx x.2)::[]) w'
structure It(P:Program)(G:Sg) where
 k:Nat
 rA:Sh
 n:Nat
 ys:Sh
 B:Type
 en:B->HL G (aD ys)
 f:HL G (aD rA)->Option (List B)
 fn:∃fn,P.funcs[k]? =some fn/\fn.body.isSome=true/\(fn.name== "runtime.NumGoroutine")=false
 ok:ZF P k rA n ys en f
structure VD(P:Program)(f T n:Nat)(out:Int->List Value):Prop where
 enter:∀args w,(callFunc f args).run P w= .ok (.enter f args) w
 ret:∀b w,CallsDIn (FA none) 0 P f #[cy b 0] .returning w λen u' w'=>(∃v,en= .returned v)/\u'= .returning/\aG [] w w'
 sC:∀(b Tb:Nat) (xs:List Value) (e:Int) (w:World),xs.length=n->w.heap[b]? =some (.cells xs.toArray Tb (0,0))->CallsDIn (FA none) 0 P f #[cy b 0] (.panicking [{v:= .iface T (.int .i64 e),recovered:=false}]) w λen u' w'=>(∃v,en= .returned v)/\settle u'= .returning/\aG [b] w w'/\w'.heap[b]? =some (.cells (out e).toArray Tb (0,0))
structure Ek(P:Program)(G:Sg) where
 k:Nat
 T:Nat
 n:Nat
 out:Int->List Value
 v:Int->AV G
 hv:∀(J:World->Prop) (ρ:aP) (e:Int),∃u,rv J ρ (v e) u/\u.cells.toList=out e
 ok:VD P k T n out
structure uf(P:Program)(G:Sg) where
 tt:TT P G
 zt:ZT P G
 hint:List Nat->Nat->Option Hn
 calls:Nat->List (Ct P G)
 fu:Nat
 vw:Nat->(L:List Ty)->Option (Vw G L)
 Qk:Nat->List (It P G)
 ek:Nat->List (Ek P G)
 jw:Bool
def KC:Code->Option Nat
 | .region i _ _ =>some i
 | .seq a b=>match KC a with
  |some i=>some i
  |none=>KC b
 | .cond _ a b=>match KC a with
  |some i=>some i
  |none=>KC b
 | .block _ x=>KC x
 | .loop x=>KC x
 | .scope x=>KC x
 |_ =>none
def wrO:List Oper->List Nat
 |[]=>[]
 |o::r=>match o.dst with
  |some d=>d::wrO r
  |none=>wrO r
def Eg:Code->List Nat
 | .region _ ops _ =>wrO ops.toList
 | .seq a b=>Eg a++Eg b
 | .cond _ a b=>Eg a++Eg b
 | .block _ x=>Eg x
 | .loop x=>Eg x
 | .scope x=>Eg x
 | .rangeFunc _ ps a b=>ps.toList++Eg a++Eg b
 |_ =>[]
def guW{Z:Type}:List Bool->Option Z->Option Z
 |[],k=>k
 |b::r,k=>gu b (guW r k)
def guG{Z:Type}(g:Bool):List Bool->Option Z->Option Z
 |[],k=>k
 |b::r,k=>gu (!g||b) (guG g r k)
def E7(C:CC G)(S:AS G)(ch:List (Nat×Bool))(j:Nat)(b:Bool)(y z:Operand):Option (AV G):=match z,y with
 | .const (.bool false),y=>match GX C S y,dX C S ch y with
  |some (.gd k true x),none=>match QZ x with
   |some u=>bif Nat.beq k j then some (.bool (b&&u))else none
   |none=>none
  |_,some x=>match QZ x with
   |some u=>some (.bool (b&&u))
   |none=>none
  |_,_ =>none
 |z, .const (.bool true)=>match GX C S z,dX C S ch z with
  |some (.gd k false x),none=>match QZ x with
   |some u=>bif Nat.beq k j then some (.bool (b||u))else none
   |none=>none
  |_,some x=>match QZ x with
   |some u=>some (.bool (b||u))
   |none=>none
  |_,_ =>none
 |_,_ =>none
def Ih(C:CC G)(S:AS G)(ch:List (Nat×Bool))(x y z:Operand):Option (AV G):=match dX C S ch x,x with
 |some (.kb b),_ =>dX C S ch (bif b then y else z)
 |some (.bool b), .tmp j=>E7 C S ch j b y z
 |_,_ =>none
def VL(tt:TT P G)(zt:ZT P G)(C:CC G)(S:AS G)(ch:List (Nat×Bool)):Op->PV G
 | .pick x y z=>match Ih C S ch x y z with
  |some v=>some ([],v)
  |none=>none
 | .build T parts=>MH tt zt (dX C S ch) T parts.toList
 | .slice T x lo hi mx=>match Tm tt (dX C S ch) T x lo hi mx with
  |some r=>some r
  |none=>Mx P tt (dX C S ch) T x lo hi mx
 | .index T x y=>match MB P (dX C S ch) T x y with
  |some r=>some r
  |none=>pv tt (MT C S) (dX C S ch) (.index T x y)
 | .binOp o T x y U=>match pv tt (MT C S) (dX C S ch) (.binOp o T x y U)with
  |some r=>some r
  |none=>match dX C S ch x,dX C S ch y with
   |some a,some b=>MF tt o T a b
   |_,_ =>none
 |op=>pv tt (MT C S) (dX C S ch) op
def sq:Nat->AV G->Fr G
 |i, .cons v r=>(i,v)::sq (i+1) r
 |_,_ =>[]
def vB:AV G->Nat
 | .cons _ r=>vB r+1
 |_ =>0
def PK(tt:TT P G)(C:CC G)(S:AS G):ResultVar->Option (AV G)
 | .tmp t=>dX C S [] (.tmp t)
 | .cell t ty=>match dX C S [] (.tmp t)with
  |some (.ptr r [])=>match MT C S r with
   |some (.bK _ c)=>bif su tt ty c then some c else none
   |_ =>none
  |_ =>none
def PO(tt:TT P G)(C:CC G)(S:AS G):List ResultVar->Option (AV G)
 |[]=>some .nil
 |r::q=>match PK tt C S r,PO tt C S q with
  |some v,some l=>some (.cons v l)
  |_,_ =>none
def Ak(tt:TT P G)(C:CC G)(S:AS G):List ResultVar->Option (AV G)
 |[r]=>PK tt C S r
 |l=>match PO tt C S l with
  |some v=>some (.gO v)
  |none=>none
def ltA{Z:Type}:AV G->(AV G->Option Z)->Option Z
 | .dat t x,k=>lt x λx=>k (.dat t x)
 | .int q n,k=>lt n λn=>k (.int q n)
 | .bool b,k=>lt b λb=>k (.bool b)
 |v,k=>k v
def OX{Z:Type}(F:Jd G):AV G->List pg->AV G->(AV G->Option Z)->Option Z
 |c,[],v,k=>match VI c v with
  |some c'=>ltA c' k
  |none=>none
 | .dat t x,p,v,k=>match path F p t with
  |some q=>match xQ q.m v with
   |some y=>lt (q.set x y) λx'=>k (.dat t x')
   |none=>none
  |none=>none
 | .st a, .Bj _ o::r,v,k=>match partAt a o with
  |some (_,c)=>OX F c r v λc'=>match y4 a o c' with
   |some a'=>k (.st a')
   |none=>none
  |none=>none
 |_,_,_,_ =>none
theorem Xu{Z:Type}{v:AV G}{k:AV G->Option Z}{z:Z}(h:ltA v k=some z):k v=some z:=by cases v<;>exact h
theorem Ma{Z:Type}{F:Jd G}:∀{p:List pg} {c v:AV G} {k:AV G->Option Z} {z:Z},OX F c p v k=some z->∃c',HV F c p v=some c'/\k c'=some z:=by
 intro p
 induction p with
 |nil=>
  intro c v k z h;have h:(match VI c v with
   |some c'=>ltA c' k
   |none=>none)=some z:=by unfold OX at h;exact h
  split at h
  ·rename_i c' hc;exact⟨c',by unfold HV;exact hc,Xu h⟩
  ·cases h
 |cons s r ih=>
  intro c v k z h;cases c with
  |dat t x=>
   simp only[OX]at h;split at h
   ·rename_i q hq
    split at h
    ·rename_i y hy;exact⟨_,by simp only[HV,hq,hy],h⟩
    ·cases h
   ·cases h
  |st a=>
   cases s with
   |Bj j o=>
    simp only[OX]at h;split at h
    ·rename_i w c1 hp
     obtain⟨c2,h1,h2⟩:=ih h;split at h2
     ·rename_i a' ha;exact⟨_,by simp only[HV,hp,h1,ha],h2⟩
     ·cases h2
    ·cases h
   |idx _ _ _ =>simp[OX]at h
  |_ =>simp[OX]at h
def rZ:AV G->Bool
 | .gd _ _ _ =>false
 |_ =>true
def NR:List (AV G)->Os G->Option (Os G)
 |[],O=>some O
 | .ptr r []::D,O=>match bP O r with
  |some (.aux true)=>NR D (s7 O r)
  |_ =>none
 |_ ::_,_ =>none
def Xg:AV G->Option (Nat×Int)
 | .gM T (.int .i64 x)=>some (T,x)
 | .gM T (.lit .i64 x)=>some (T,x)
 |_ =>none
def isN:Option Nat->Nat->Bool
 |some m,n=>Nat.beq m n
 |none,_ =>false
def exE:Ex G->Bool
 | .fZ=>true
 | .ret=>true
 |_ =>false
def kT(ek:Nat->List (Ek P G)):Ex G->List (AV G)->Os G->Option (Ex G×Os G)
 |e,[],O=>some (e,O)
 |e, .ptr r []::D,O=>match bP O r,exE e with
  |some (.aux true),true=>kT ek e D (s7 O r)
  |_,_ =>none
 |e, .cons (.fn (.func k) .nil c) l::D,O=>match ek k,j0 l c with
  |q::_, .cons (.ptr r []) .nil=>match bP O r with
   |some (.bK T' c0)=>bif Nat.beq q.k k&&(lK l&&lK c)then(match e with
    | .fZ=>kT ek .fZ D O
    | .ret=>kT ek .ret D O
    | .sC v=>(match Xg v with
     |some (T,x)=>bif Nat.beq q.T T&&isN c0.TC q.n then kT ek .ret D (mX O r (.bK T' (q.v x)))else none
     |none=>none)
    |_ =>none)else none
   |_ =>none
  |_,_ =>none
 |_,_ ::_,_ =>none
def UD(S:AS G):Option (AS G):=match NR S.D S.O with
 |some O=>some ⟨S.F,O,S.nx,[]⟩
 |none=>none
def Dn{Z:Type}(N:Nat)(C:CC G):List Nat->AV G->AS G->(AS G->Option Z)->Option Z
 |[], .nil,S,k=>k S
 |p::ps, .cons v r,S,k=>match rq N C (some p) v S with
  |some S'=>bif rZ v then Dn N C ps r S' k else none
  |none=>none
 |_,_,_,_ =>none
def Y5:CC G->Fr G
 |[]=>[]
 |y::r=>y.F++Y5 r
def Px(g:Hv)(base:Nat)(x:HL G (aD (oW g.l))):AS G:=⟨[],(DX g base x).O,(DX g base x).nx,[]⟩
def KG(m:Nat)(S1:AS G)(O:Os G)(S:AS G):AS G:=⟨S1.F,(m, .aux true)::(S.O++O),S.nx, .ptr m []::S1.D⟩
def VM(N:Nat):List Nat->Bool
 |[]=>true
 |p::r=>Nat.blt p N&&VM N r
def MX:List (AV G)->Bool
 |[]=>true
 |_ =>false
abbrev WT(G:Sg)(Z:Type):=(N:Nat)->(cp:List Nat)->CC G->Cf->AS G->(Ex G->AS G->Option Z)->Option Z
def ew{Z:Type}(rec:WT G Z)(N:Nat)(cp:List Nat)(C:CC G)(all:Array Oper)(r:List Oper)(d:Option Tmp)(v:AV G)(S:AS G)(K:Ex G->AS G->Option Z):Option Z:=match rq N C d v S with
 |some S'=>bif rZ v then rec N cp C (.ops all r) S' K else none
 |none=>none
def WM{Z:Type}(C:CC G)(O:Os G)(nx:Nat)(ab3:AV G)(fit:(ct:Ct P G)->HI G ct.s->GS G->Option Z)(YZ:List Nat->List (Nat×Sh)->Option Z)(no:Option Z):List (Ct P G)->Option Z
 |[]=>no
 |ct::r=>match Aw C O nx ct.s ab3 with
  |some (x,g')=>fit ct x g'
  |none=>match Zl C O ct.s ab3,Xl C O ct.s ab3 with
   |[],[]=>WM C O nx ab3 fit YZ no r
   |b,l=>YZ b l
def ctK{Z:Type}(rec:WT G Z)(N:Nat)(cp:List Nat)(C:CC G)(all:Array Oper)(r:List Oper)(d:Option Tmp)(S:AS G)(K:Ex G->AS G->Option Z)(ct:Ct P G)(x:HI G ct.s)(g':GS G):Option Z:=
 ct.cp x (λy=>match O4 (dy (Ik g'.th g'.nx ct.s.nm) ct.s.bL y 0).1 with
  |some v=>ew rec N cp C all r d v (QM g' ct.s.bL ct.s.nm y S) K
  |none=>none) (λy=>match O4 (dy (Ik g'.th g'.nx ct.s.MO) ct.s.fG y 0).1 with
  |some v=>K (.sC v) (QM g' ct.s.fG ct.s.MO y S)
  |none=>none)
def ctG{Z:Type}(rec:WT G Z)(N:Nat)(cp:List Nat)(C:CC G)(all:Array Oper)(r:List Oper)(d:Option Tmp)(S:AS G)(K:Ex G->AS G->Option Z)(j:Nat)(w g:Bool)(ct:Ct P G)(x:HI G ct.s)(no:Option Z):Option Z:=match ct.s.nm with
 |[]=>bif B8 true ct.s.rA&&B8 false ct.s.bL then ct.cg g x (λy=>match O4 (dy (λm=>m) ct.s.bL y 0).1 with
  |some v=>(match rq N C d (.gd j w v) S with
   |some S'=>rec N cp C (.ops all r) S' K
   |none=>none)
  |none=>none)else no
 |_ =>no
def G8(C:CC G)(S:AS G)(ch:List (Nat×Bool)):Op->Option (Nat×AV G)
 | .call ⟨.value f,args,_⟩=>match dX C S ch f,HA (dX C S ch) args.toList with
  |some (.fn (.func k) fst cap),some l=>bif (lK fst&&lK l)&&lK cap then some (k,j0 fst (j0 l cap))else none
  |_,_ =>none
 |_ =>none
def ctT{Z:Type}(tb:uf P G)(rec:WT G Z)(N:Nat)(cp:List Nat)(C:CC G)(all:Array Oper)(r:List Oper)(o:Oper)(S:AS G)(K:Ex G->AS G->Option Z)(j:Nat)(w:Bool)(no:Option Z):Option Bool->Option (Nat×AV G)->Option Z
 |some g,some (k,ab3)=>WM C S.O S.nx ab3 (λct x _ =>bif Nat.beq ct.s.k k then ctG rec N cp C all r o.dst S K j w g ct x no else none) (λb l=>rec N cp C (.ops all (o::r)) (y5 l (vF b S)) K) no (tb.calls k)
 |_,_ =>no
def Jm(C:CC G)(S:AS G):List Operand->List Nat
 |[]=>[]
 |x::r=>match GX C S x with
  |some (.row q)=>(match bP S.O q with
   |some _ =>q::Jm C S r
   |none=>Jm C S r)
  |_ =>Jm C S r
def Sr:AV G->List pg->Bool
 | .dat _ _,_ ::_ =>true
 | .st a, .Bj _ o::r=>match partAt a o with
  |some (_,c)=>Sr c r
  |none=>false
 |_,_ =>false
def aaH(C:CC G)(S:AS G)(x y:Operand):Option Nat:=match dX C S [] x,dX C S [] y with
 |some (.ptr r p),some (.row q)=>match bP S.O q,bP S.O r with
  |some (.row _ _ _ _),some (.bK _ c)=>bif Sr c p then some q else none
  |_,_ =>none
 |_,_ =>none
def ZS{Z:Type}:List (Int×Nat)->Int->(Option Nat->Option Z)->Option Z
 |[],_,c=>c none
 |(a,f)::r,k,c=>cn (k==a) (c (some f)) (ZS r k c)
theorem XF{Z:Type}{k:Int}{c:Option Nat->Option Z}{z:Z}:∀{l:List (Int×Nat)},ZS l k c=some z->c (E0 l k)=some z:=by
 intro l
 induction l with
 |nil=>exactλh=>h
 |cons p r ih=>
  obtain⟨a,f⟩:=p;intro h;simp only[ZS,E0]at h ⊢;cases hb:(k==a)with
  |true=>rw[hb]at h;exact h
  |false=>rw[hb]at h;exact ih h
def RI{Z:Type}(tb:uf P G)(rec:WT G Z)(N:Nat)(cp:List Nat)(C:CC G)(all:Array Oper)(r:List Oper)(o:Oper)(S:AS G)(K:Ex G->AS G->Option Z):Option Z:=match VL tb.tt tb.zt C S [] o.op with
 |some (gs,v)=>guW gs (ew rec N cp C all r o.dst v S K)
 |none=>match Jm C S o.op.operands.toList with
  |[]=>none
  |b=>rec N cp C (.ops all (o::r)) (vF b S) K
def R4(tb:uf P G)(cp:List Nat)(d:Option Tmp):Bool:=match d with
 |some d=>match tb.hint cp (1000000+d)with
  |some _ =>true
  |none=>false
 |none=>false
def UJ(o:Oper)(T:Nat):List Oper->Option (Nat×List Oper)
 |⟨none, .call ⟨.builtin .clear,a,t⟩,_,_,_,none⟩::r=>match o.dst,o.guard,a.toList,t.toList with
  |some d1,none,[.tmp d2],[T2]=>bif Nat.beq d1 d2&&Nat.beq T T2 then some (d1,r)else none
  |_,_,_,_ =>none
 |_ =>none
def tyB(tb:uf P G)(e:Nat):AV G->Option Ty
 | .gA=>match tb.tt.te.find e with
  |some (.sl e2 _ _)=>(match tb.zt.z.find e2 with
   |some z2=>(match tyA z2 with
    |some t=>some (.sl t)
    |none=>none)
   |none=>none)
  |_ =>none
 |z=>tyA z
def zu:Os G->Os G
 |[]=>[]
 |(r, .lp _ _ _ _ _ _)::q=>(r, .aux false)::zu q
 |p::q=>p::zu q
def Tf:List TypeId->TypeId->Bool
 |[a,b],T=>Nat.beq a T&&Nat.beq b T
 |_,_ =>false
def aaP(P:Program)(T:Nat):Option IntKind:=match P.underlying T with
 |some (.map k _)=>(match P.underlying k with
  |some (.int q)=>some q
  |_ =>none)
 |_ =>none
def ZO{Z:Type}(tb:uf P G)(rec:WT G Z)(N:Nat)(cp:List Nat)(C:CC G)(all:Array Oper)(r:List Oper)(o:Oper)(S:AS G)(K:Ex G->AS G->Option Z):Option Z:=match o.op with
 | .box T x=>match dX C S [] x with
  |some v=>ew rec N cp C all r o.dst (.ptr S.nx []) {S with O:=(S.nx, .bK T v)::S.O,nx:=S.nx+1} K
  |none=>none
 | .alloc T=>match tb.zt.z.find T with
  |some v=>ew rec N cp C all r o.dst (.ptr S.nx []) {S with O:=(S.nx, .bK T v)::S.O,nx:=S.nx+1} K
  |none=>none
 | .store T x y=>match aaH C S x y with
  |some q=>rec N cp C (.ops all (o::r)) (vF [q] S) K
  |none=>match dX C S [] x,dX C S [] y with
  |some (.ptr q p),some v=>match bP S.O q with
   |some (.bK T' c)=>bif su tb.tt T v then OX tb.tt.F c p v λc'=>ew rec N cp C all r o.dst .Jj {S with O:=mX S.O q (.bK T' c')} K else none
   |some (.row e sz t xs)=>bif Np p sz&&su tb.tt T v then(match CI tb.tt.F t p with
    |some pl=>(match xQ pl.m v with
     |some y=>lt (xs.set pl.i.toNat (pl.set (xs.getD pl.i.toNat default) y)) λzs=>ew rec N cp C all r o.dst .Jj {S with O:=mX S.O q (.row e sz t zs)} K
     |none=>none)
    |none=>none)else none
   |_ =>none
  |_,_ =>none
 | .buildSlice T n parts=>match tb.tt.te.find T with
  |some (.sl e sz _)=>match tb.zt.z.find e with
   |some z=>match tyB tb e z with
    |some t=>match Za t (dX C S []) 0 parts.toList with
     |some xs=>bif (Nat.beq xs.length n&&Nat.beq (t.L G).n sz)&&(Nat.blt 0 (n*sz)&&Nat.ble (n*sz) 16777216)then ew rec N cp C all r o.dst (.row S.nx) {S with O:=(S.nx, .row e sz t xs)::S.O,nx:=S.nx+1} K else none
     |none=>RI tb rec N cp C all r o S K
    |none=>none
   |none=>none
  |_ =>none
 | .makeSlice T (.tmp s) (.tmp s')=>bif Nat.beq s s' then(match jq (dX C S [] (.tmp s)),tb.tt.te.find T with
  |some (_,i,_),some (.sl e sz bt)=>(match tb.zt.z.find e with
   |some (.int k z0)=>bif Nat.beq sz 1&&Nat.blt 0 bt then gu (decide (0<=i)) (gu (ij 0 i.toNat bt) (lt (List.replicate i.toNat z0) λzs=>ew rec N cp C all r o.dst (.row S.nx) {S with O:=(S.nx, .row e 1 (.int k) zs)::S.O,nx:=S.nx+1} K))else none
   |_ =>none)
  |_,_ =>none)else none
 | .panic x=>match dX C S [] x with
  |some (.gM t v)=>K (.sC (.gM t v)) S
  |_ =>none
 | .defer ⟨.value f,args,_⟩=>match dX C S [] f,HA (dX C S []) args.toList,o.dst with
  |some (.fn (.func k) a c),some l,none=>bif (lK a&&lK l)&&(lK c&&uy (iZ C))then rec N cp C (.ops all r) {S with D:= .cons (.fn (.func k) a c) l::S.D} K else none
  |_,_,_ =>none
 | .call ⟨.builtin .append,args,DK⟩=>match args.toList,DK.toList with
  |[x,y],[T,T']=>bif Nat.beq T T' then(match dX C S [] x,dX C S [] y,tb.tt.te.find T with
   |some (.row q),some vy,some (.sl e sz bt)=>(match bP S.O q,RZ C S vy with
    |some (.row e' sz' t xs),some l=>bif Nat.beq e' e&&Nat.beq sz' sz then(match Dk (t:=t) l.xs with
     |some ys=>gu (ij xs.length ys.length bt) (lt (xs++ys) λzs=>ew rec N cp C all r o.dst (.row S.nx) {S with O:=(S.nx, .row e sz t zs)::s7 S.O q,nx:=S.nx+1} K)
     |none=>none)else none
    |_,_ =>none)
   |some .gA,some vy,some (.sl e sz bt)=>(match RZ C S vy with
    |some l=>bif Nat.beq (l.t.L G).n sz then gu (ij 0 l.xs.length bt) (lt l.xs λzs=>ew rec N cp C all r o.dst (.row S.nx) {S with O:=(S.nx, .row e sz l.t zs)::S.O,nx:=S.nx+1} K)else none
    |none=>none)
   |_,_,_ =>none)else none
  |_,_ =>none
 | .call ⟨.builtin .copy,args,DK⟩=>match args.toList,DK.toList with
  |[x,y],[T,_]=>(match dX C S [] x,dX C S [] y,tb.tt.te.find T with
   |some (.row q),some vy,some (.sl e sz _)=>(match bP S.O q,RZ C S vy with
    |some (.row e' sz' (.int k) xs),some l=>bif (Nat.beq e' e&&Nat.beq sz 1)&&Nat.beq sz' 1 then(match Dk (t:= .int k) l.xs with
     |some ys=>lt (ys.take xs.length++xs.drop ys.length) λzs=>ew rec N cp C all r o.dst (.int .i64 ((min ys.length xs.length:Nat):Int)) {S with O:=mX S.O q (.row e 1 (.int k) zs)} K
     |none=>none)else none
    |_,_ =>none)
   |some (.CG q p n 1 true i),some (.CG q' p' n' 1 true j),some (.sl _ sz _)=>(match bP S.O q with
    |some (.bK T2 c)=>(match EB tb.tt.F c p with
     |some (.dat (.jr m (.int k)) f)=>bif (Nat.beq q q'&&Nat.beq n n')&&((Nat.beq m n&&Nat.beq sz 1)&&(Em p p'&&Tf DK.toList T))then OX tb.tt.F c p (.dat (.jr n (.int k)) (Ss i.toNat j.toNat n f)) λc'=>ew rec N cp C all r o.dst (.int .i64 ((min (n-j.toNat) (n-i.toNat):Nat):Int)) {S with O:=mX S.O q (.bK T2 c')} K else none
     |_ =>none)
    |_ =>none)
   |_,_,_ =>none)
  |_,_ =>none
 | .call ⟨.builtin .clear,args,DK⟩=>match args.toList,DK.toList with
  |[x],[T]=>(match dX C S [] x,tb.tt.te.find T with
   |some (.CG q p n 1 false i),some (.sl e sz _)=>(match bP S.O q with
    |some (.bK T2 c)=>(match EB tb.tt.F c p with
     |some (.dat (.jr m (.int k)) _)=>bif (Nat.beq i.toNat n&&Nat.blt 0 n)&&((Nat.beq m n&&Nat.beq sz 1)&&zE P e k)then OX tb.tt.F c p (.dat (.jr n (.int k)) (λ_ =>(0:Int))) λc'=>ew rec N cp C all r o.dst (.gO .nil) {S with O:=mX S.O q (.bK T2 c')} K else none
     |_ =>none)
    |_ =>none)
   |_,_ =>none)
  |_,_ =>none
 | .makeMap T none=>match aaP P T with
  |some q=>ew rec N cp C all r o.dst (.mp S.nx) {S with O:=(S.nx, .fm q [] .nil)::S.O,nx:=S.nx+1} K
  |none=>none
 | .insert T x y z=>match dX C S [] x,jq (dX C S [] y),dX C S [] z with
  |some (.mp q),some (ky,k,_),some v=>(match bP S.O q with
   |some (.fm ik ks vs)=>bif (DL ky ik&&G3 P T ik)&&(Ev k ks&&lK vs)then ew rec N cp C all r o.dst .Jj {S with O:=mX S.O q (.fm ik (ks++[k]) (j0 vs (.cons v .nil)))} K else none
   |_ =>none)
  |_,_,_ =>none
 | .call ⟨.value f,args,_⟩=>match dX C S [] f,HA (dX C S []) args.toList with
  |some (.fn (.func k) fst cap),some l=>WM C S.O S.nx (j0 fst (j0 l cap)) (λct x g'=>bif (lK fst&&lK l)&&(lK cap&&Nat.beq ct.s.k k)then ctK rec N cp C all r o.dst S K ct x g' else none) (λb l=>rec N cp C (.ops all (o::r)) (y5 l (vF b S)) K) (match BM P k with
   |some fi=>bif (lK fst&&lK l)&&(lK cap&&Nat.ble (vB (j0 fst (j0 l cap))) fi.N)then
     rec fi.N ((match o.dst with
      |some d=>d
      |none=>0)::cp) [⟨[],iZ C,[]⟩] (.code fi.code) ⟨sq 0 (j0 fst (j0 l cap)),S.O,S.nx,[]⟩ λe S1=>match kT tb.ek e S1.D S1.O with
      |some (.sC v,O2)=>K (.sC v) {S with O:=O2,nx:=S1.nx}
      |some (.fZ,O2)=>(match Ak tb.tt [⟨[],iZ C,[]⟩] ⟨S1.F,O2,S1.nx,[]⟩ fi.xn with
       |some v=>ew rec N cp C all r o.dst v {S with O:=O2,nx:=S1.nx} K
       |none=>none)
      |some (.ret,O2)=>(match Ak tb.tt [⟨[],iZ C,[]⟩] ⟨S1.F,O2,S1.nx,[]⟩ fi.xn with
       |some v=>ew rec N cp C all r o.dst v {S with O:=O2,nx:=S1.nx} K
       |none=>none)
      |_ =>none
    else none
   |none=>none) (tb.calls k)
  |some (.yl q),some l=>match bP (iZ C) q with
   |some (.lp N2 ks vs ps a b)=>bif uy (iZ C)then Dn N2 [⟨[],zu (iZ C),[]⟩] ps l ⟨Uo ks vs,S.O,S.nx,[]⟩ λS2=>rec N2 ((match o.dst with
     |some d=>d
     |none=>0)::cp) [⟨[],zu (iZ C),[]⟩] (.code a) S2 λe1 S3=>match e1 with
     | .fZ=>rec N2 ((match o.dst with
      |some d=>d
      |none=>0)::cp) [⟨[],zu (iZ C),[]⟩] (.code b) S3 λe2 S4=>match e2,S4.D with
      | .fZ,[]=>ew rec N cp C all r o.dst (.kb true) {S with O:=S4.O,nx:=S4.nx} K
      |_,_ =>none
     |_ =>none
    else none
   |_ =>none
  |_,_ =>none
 | .load T (.global g)=>match G.gt,g,o.guard with
  |some _,0,none=>bif oy P T then ew rec N cp C all r o.dst (.mp S.nx) {S with O:=(S.nx, .gm)::S.O,nx:=S.nx+1} K else none
  |_,_,_ =>none
 | .lookup T x y true=>match dX C S [] x,jq (dX C S [] y),o.guard with
  |some (.mp q),some (ik,k,_),none=>(match MT C S q with
   |some .gm=>(match G.gt with
    |some g0=>bif Nat.beq (Ty.bz.ik ik) (Ty.bz.ik g0.1)&&Bo P T g0.1 then ZS g0.2 k λf=>ew rec N cp C all r o.dst (SY f) S K else none
    |none=>none)
   |some (.fm qk ks vs)=>bif DL ik qk&&Bo P T qk then XH k ks vs λt=>ew rec N cp C all r o.dst t S K else none
   |_ =>none)
  |_,_,_ =>none
 | .slice T x none (some h) none=>match dX C S [] x,jq (dX C S [] h),tb.tt.te.find T,R4 tb cp o.dst with
  |some (.row q),some (_,i,_),some (.sl e sz _),true=>match bP S.O q with
   |some (.row e' sz' t xs)=>bif Nat.beq e' e&&Nat.beq sz' sz then gu (cG i (xs.length+1)) (ew rec N cp C all r o.dst (.row S.nx) {S with O:=(S.nx, .row e' sz' t (xs.take i.toNat))::s7 S.O q,nx:=S.nx+1} K)else none
   |_ =>none
  |some (.ptr q p),some (_,i,_),_,true=>(match bP S.O q,N6 P tb.tt T with
   |some (.bK _ c),some (n,_,_)=>(match EB tb.tt.F c p with
    |some (.dat (.jr m e) f)=>bif Nat.beq m n then gu (cG i (n+1)) (ew rec N cp C all r o.dst (.dat (.sl e) ((List.range i.toNat).map f)) {S with O:=s7 S.O q} K)else none
    |_ =>none)
   |_,_ =>none)
  |_,_,_,_ =>RI tb rec N cp C all r o S K
 | .slice T x (some lo) none none=>match UJ o T r,dX C S [] x,jq (dX C S [] lo),tb.tt.te.find T with
  |none,some (.row q),some (_,i,_),some (.sl e sz _)=>(match bP S.O q,R4 tb cp o.dst with
   |some (.row e' sz' t xs),true=>bif Nat.beq e' e&&Nat.beq sz' sz then gu (cG i (xs.length+1)) (ew rec N cp C all r o.dst (.row S.nx) {S with O:=(S.nx, .row e' sz' t (xs.drop i.toNat))::s7 S.O q,nx:=S.nx+1} K)else none
   |_,_ =>RI tb rec N cp C all r o S K)
  |some (d1,r2),some (.row q),some (_,i,_),some (.sl e sz _)=>(match bP S.O q,rq N C (some d1) .Jj S with
   |some (.row e' sz' (.int k) xs),some S1=>bif (Nat.beq e' e&&Nat.beq sz 1)&&(Nat.beq sz' 1&&zE P e k)then gu (cG i (xs.length+1)) (lt (xs.take i.toNat++(List.replicate (xs.length-i.toNat) (0:Int):List (Ty.T G (.int k)))) λzs=>rec N cp C (.ops all r2) {S1 with O:=mX S1.O q (.row e 1 (.int k) zs)} K)else none
   |_,_ =>RI tb rec N cp C all r o S K)
  |_,_,_,_ =>RI tb rec N cp C all r o S K
 |_ =>RI tb rec N cp C all r o S K
def ji(C:CC G)(S:AS G)(l:List (Src×Sh)):AS G:=match Ag C S l with
 |some v=>vF (s9 S.O (oW l) v) S
 |none=>S
def Dd(all:Array Oper)(j:Nat):Option Nat:=(all[j]?).bind (·.dst)
def IX(A:List Nat):List Nat->Nat
 |[]=>0
 |j::r=>(2^j|||A.getD j 0)|||IX A r
def BO(ops:Array Oper):Nat->List Nat
 |0=>[]
 |k+1=>match BO ops k with
  |A=>A++[IX A (wT ops k)]
def vL:Nat->List Oper->List (Nat×Nat)
 |_,[]=>[]
 |i,o::r=>match o.dst with
  |some d=>(i,d)::vL (i+1) r
  |none=>vL (i+1) r
def jZ(A:List Nat)(i j:Nat):Bool:=Nat.testBit (A.getD i 0) j
def P1(A:List Nat)(q d:Nat):List (Nat×Nat)->Bool
 |[]=>true
 |(i,e)::r=>(!(Nat.beq e d&&Nat.blt i q)||jZ A q i)&&P1 A q d r
def KH(A:List Nat)(ws:List (Nat×Nat)):List (Nat×Nat)->Bool
 |[]=>true
 |(q,d)::r=>P1 A q d ws&&KH A ws r
def xO(A:List Nat)(i d:Nat):List (Nat×Nat)->Bool
 |[]=>true
 |(q,e)::r=>(!Nat.beq e d||(Nat.beq q i||(bif Nat.blt q i then jZ A i q else jZ A q i)))&&xO A i d r
def La(A:List Nat)(i d:Nat):List (Nat×Nat)->Bool
 |[]=>true
 |(q,e)::r=>(!Nat.beq e d||jZ A i q)&&La A i d r
def Pk(d:Nat):List (Nat×Nat)->Bool
 |[]=>false
 |(_,e)::r=>Nat.beq e d||Pk d r
def gdD(ws:List (Nat×Nat)):AV G->Bool
 | .gd j _ _ =>Pk j ws
 |_ =>false
def KW(ws:List (Nat×Nat))(F:Fr G)(d:Nat):Bool:=match bP F d with
 |some v=>gdD ws v
 |none=>false
structure Lg where
 i:Nat
 r:List Nat
 a:List Nat
 o:List Nat
structure DS(G:Sg) where
 F:Fr G
 M:Os G
 nx:Nat
 lg:List Lg
def IP:List Nat->List Nat->Bool
 |[],_ =>true
 |a::r,l=> !bY l a&&IP r l
def P2(A:List Nat)(i:Nat)(rd ac nw:List Nat):List Lg->Bool
 |[]=>true
 |y::r=>(jZ A i y.i||(IP (y.a++y.o) (rd++ac)&&IP (ac++nw) (y.r++y.a)))&&P2 A i rd ac nw r
def VO(A:List Nat)(i:Nat):List Lg->Bool
 |[]=>true
 |y::r=>(jZ A i y.i||(match y.a with
  |[]=>true
  |_ =>false))&&VO A i r
def SV(A:List Nat)(i:Nat):List Lg->List Nat
 |[]=>[]
 |y::r=>bif jZ A i y.i then SV A i r else y.o++SV A i r
def Ju:AV G->List Nat
 | .ptr r _ =>[r]
 | .row r=>[r]
 | .CG r _ _ _ _ _ =>[r]
 | .mp r=>[r]
 | .gd _ _ v=>Ju v
 |_ =>[]
def qQ:AV G->List Nat
 | .ptr r _ =>[r]
 | .row r=>[r]
 | .CG r _ _ _ _ _ =>[r]
 | .mp r=>[r]
 | .gd _ _ v=>qQ v
 | .fn _ a c=>qQ a++qQ c
 | .st a=>qQ a
 | .gO a=>qQ a
 | .gM _ v=>qQ v
 | .cons a b=>qQ a++qQ b
 | .part _ a b=>qQ a++qQ b
 |_ =>[]
def obN(M:Os G):List Nat->List Nat
 |[]=>[]
 |r::q=>match bP M r with
  |some (.bK _ c)=>qQ c++obN M q
  |_ =>obN M q
def Jr(M:Os G):Nat->List Nat->List Nat
 |0,l=>l
 |n+1,l=>l++Jr M n (obN M l)
def DZ(f:AV G->List Nat)(C:CC G)(S:AS G):List Operand->List Nat
 |[]=>[]
 |x::r=>match GX C S x with
  |some v=>f v++DZ f C S r
  |none=>DZ f C S r
def fI:Os G->List Nat
 |[]=>[]
 |(k,_)::r=>k::fI r
def isQ:Op->Bool
 | .store _ _ _ =>false
 | .call ⟨.builtin .len,_,_⟩=>true
 | .call ⟨.builtin .min,_,_⟩=>true
 | .call ⟨.builtin .max,_,_⟩=>true
 | .call _ =>false
 | .box _ _ =>false
 | .alloc _ =>false
 | .panic _ =>false
 | .buildSlice _ _ _ =>false
 | .makeSlice _ _ _ =>false
 | .makeMap _ _ =>false
 | .insert _ _ _ _ =>false
 |_ =>true
def Gs:AV G->List Nat
 | .row r=>[r]
 | .CG r _ _ _ _ _ =>[r]
 | .gd _ _ v=>Gs v
 |_ =>[]
def rdF:Op->AV G->List Nat
 | .load _ _ =>Ju
 | .lookup _ _ _ _ =>Ju
 |_ =>Gs
def N7(C:CC G)(S:AS G):List Operand->Bool
 |[]=>false
 |x::r=>(match GX C S x with
  |some (.row _)=>true
  |_ =>false)||N7 C S r
def aa1(C:CC G)(S:AS G)(op:Op):Bool:=isQ op&&(match op with
 | .build _ _ => !N7 C S op.operands.toList
 |_ =>true)
def YV(A:List Nat)(ws:List (Nat×Nat))(i:Nat):AV G->Bool
 | .gd j _ _ =>La A i j ws
 |_ =>true
def Ts(A:List Nat)(ws:List (Nat×Nat))(i nx:Nat)(d:Option Tmp)(F S:Fr G):Option (Fr G):=match d with
 |none=>some F
 |some d=>match bP S d with
  |some v=>bif v.lt nx&&YV A ws i v then some ((d,v)::F)else none
  |none=>none
def rdN(O:Os G):List (Nat×Sh)->AV G->List Nat×List Nat
 |(_,s)::l, .cons (.ptr q []) p=>match rdN O l p,bP O q with
  |(rd,ac),some (.bK _ c)=>match s9 O s c,Nt s c with
   |[],false=>(q::(u9 O s c++rd),ac)
   |b,_ =>(u9 O s c++rd,q::(b++ac))
  |(rd,ac),_ =>(rd,ac)
 |_,_ =>([],[])
def Sz(C:CC G)(O:Os G)(nx:Nat)(ab3:AV G):List (Ct P G)->Option (List Nat×List Nat)
 |[]=>none
 |ct::r=>match Aw C O nx ct.s ab3,Zl C O ct.s ab3,Xl C O ct.s ab3 with
  |none,[],[]=>Sz C O nx ab3 r
  |_,_,_ =>match II (O++iZ C) ct.s.Gj 0 ct.s.rA ab3 with
   |some pv=>match rdN O ct.s.Gj pv with
    |(rd,ac)=>some (rd,u9 O ct.s.rA ab3++ac)
   |none=>none
def Zs(tb:uf P G)(C:CC G)(S:AS G)(all:Array Oper)(o:Oper):List Nat×List Nat:=bif aa1 C S o.op then(DZ (rdF o.op) C S o.op.operands.toList,[])else match o.op with
 | .store _ x y=>([],DZ Ju C S [x]++DZ Gs C S [y])
 | .alloc _ =>([],[])
 | .box _ _ =>([],[])
 | .panic _ =>([],[])
 | .buildSlice _ _ _ =>([],DZ Gs C S o.op.operands.toList)
 | .call ⟨.builtin _,_,_⟩=>([],DZ Gs C S o.op.operands.toList)
 | .call ⟨.value f,x,t⟩=>match G8 C S (match o.guard with
   |some (j,w)=>(match Dd all j with
    |some dj=>chain C S 8 dj w
    |none=>[])
   |none=>[]) (.call ⟨.value f,x,t⟩)with
  |some (k,ab3)=>(match Sz C S.O S.nx ab3 (tb.calls k)with
   |some p=>p
   |none=>([],Jr S.O 3 (DZ qQ C S o.op.operands.toList)))
  |none=>match GX C S f with
   |some (.yl _)=>([],fI S.O)
   |_ =>([],Jr S.O 3 (DZ qQ C S o.op.operands.toList))
 |_ =>([],Jr S.O 3 (DZ qQ C S o.op.operands.toList))
def drS{Z:Type}(tb:uf P G)(rec:WT G Z)(N:Nat)(cp:List Nat)(C:CC G)(ops:Array Oper)(A:List Nat)(ws:List (Nat×Nat))(F0:Fr G)(D0:List (AV G))(o:Oper)(i:Nat)(T:DS G)(kn:DS G->List Nat->List Nat->Option Z)(kp:AV G->AS G->List Nat->List Nat->Option Z):Option Z:=
 match gj (λd=>xO A i d ws) T.F with
 |Fi=>match Zs tb (⟨F0,[],[]⟩::C) ⟨Fi,T.M,T.nx,[]⟩ ops o with
  |(rd,ac)=>match(⟨F0,bJ (λq=>bY rd q&& !bY ac q) T.M,D0⟩:Ly G)with
   |ly=>bif uI T.nx (ly::C)&&(M3 T.nx Fi&&qB T.nx (bJ (bY ac) T.M))then rec N cp (ly::C) (.ops ops [o]) ⟨Fi,bJ (bY ac) T.M,T.nx,[]⟩ λe S1=>match e,S1.D with
     | .fZ,[]=>bif Nat.ble T.nx S1.nx&&(qB S1.nx S1.O&&P2 A i rd ac (fI S1.O) T.lg)then(match Ts A ws i S1.nx o.dst T.F S1.F with
      |some F'=>kn ⟨F',S1.O++bJ (λq=> !bY ac q) T.M,S1.nx,⟨i,rd,ac,fI S1.O⟩::T.lg⟩ ac (fI S1.O)
      |none=>none)else none
     | .sC v,[]=>bif Nat.ble T.nx S1.nx&&(P2 A i rd ac [] T.lg&&(VO A i T.lg&&qB T.nx T.M))then kp v ⟨F0,S1.O++bJ (λq=> !bY ac q) (bJ (λq=> !bY (SV A i T.lg) q) T.M),S1.nx,D0⟩ rd ac else none
     |_,_ =>none
    else none
def Xk:List Nat->Bool
 |[]=>true
 |_ =>false
def Ze{Z:Type}(tb:uf P G)(rec:WT G Z)(N:Nat)(cp:List Nat)(C:CC G)(ops:Array Oper)(A:List Nat)(ws:List (Nat×Nat))(F0:Fr G)(D0:List (AV G))(j:Nat)(zj:List Nat)(k:Option Z):List Oper->Nat->DS G->Option Z
 |[],_,_ =>k
 |o::r,i,T=>bif jZ A i j then Ze tb rec N cp C ops A ws F0 D0 j zj k r (i+1) T else drS tb rec N cp C ops A ws F0 D0 o i T (λT' ac nw=>bif Xk ac&&IP nw zj then Ze tb rec N cp C ops A ws F0 D0 j zj k r (i+1) T' else none) (λ_ _ _ _ =>none)
def drW{Z:Type}(tb:uf P G)(rec:WT G Z)(N:Nat)(cp:List Nat)(C:CC G)(ops:Array Oper)(A:List Nat)(ws:List (Nat×Nat))(F0:Fr G)(D0:List (AV G))(K:Ex G->AS G->Option Z):List Oper->Nat->DS G->Option Z
 |[],_,T=>K .fZ ⟨T.F++F0,T.M,T.nx,D0⟩
 |o::r,i,T=>drS tb rec N cp C ops A ws F0 D0 o i T (λT' _ _ =>drW tb rec N cp C ops A ws F0 D0 K r (i+1) T') (λv S' rd ac=>Ze tb rec N cp C ops A ws F0 D0 i (rd++ac) (K (.sC v) S') r (i+1) T)
def drR{Z:Type}(tb:uf P G)(rec:WT G Z):WT G Z:=λN cp C cf S K=>match cf with
 | .ops ops l=>match BO ops ops.size,vL 0 ops.toList with
  |A,ws=>bif KH A ws ws&&(Lt ops []&&P.follows .mixedOrders)then
   (match gj (λd=> !(Pk d ws)&& !KW ws S.F d) S.F with
   |F0=>drW tb rec N cp C ops A ws F0 S.D K l 0 ⟨gj (λd=>Pk d ws&& !KW ws S.F d) S.F,S.O,S.nx,[]⟩)else none
 |_ =>none
def M0(ps:List Nat)(a b:Code)(C:CC G)(S1:AS G)(O:Os G):CC G:=[⟨gj (λd=> !bY (ps++(Eg a++Eg b)) d) (S1.F++Y5 C),(S1.nx+1, .aux false)::(O++iZ C),[]⟩]
def rgW{Z:Type}(rec:WT G Z)(N:Nat)(cp:List Nat)(C:CC G)(ps:List Nat)(a b:Code)(S1:AS G)(K:Ex G->AS G->Option Z)(g:Hv)(it:It P G)(l:List it.B)(O:Os G)(x0:HL G (aD (oW g.l))):Option Z:=
 ZY (aD (oW g.l)) (λy go e=>Dn N (M0 ps a b C S1 O) ps (dy (λm=>m) it.ys (it.en y) 0).1 (Px g (S1.nx+2) e) λS2=>rec N cp (M0 ps a b C S1 O) (.code a) S2 λe1 S3=>match e1 with
  | .fZ=>rec N cp (M0 ps a b C S1 O) (.code b) S3 λe2 S4=>match e2 with
   | .fZ=>match C0 (M0 ps a b C S1 O) (ji (M0 ps a b C S1 O) S4 g.l) g (S1.nx+2)with
    |some e=>go e
    |none=>none
   | .ret=>bif MX S4.D then K .ret (KG S1.nx S1 O S4)else none
   | .exit i=>bif MX S4.D then K (.exit i) (KG S1.nx S1 O S4)else none
   | .sC _ =>none
  |_ =>none) (λe=>K .fZ (KG S1.nx S1 O (Px g (S1.nx+2) e))) l x0
def ZP{Z:Type}(rec:WT G Z)(N:Nat)(cp:List Nat)(C:CC G)(ps:List Nat)(a b:Code)(k:Nat)(cap:AV G)(gl:List (Lo×Sh))(S:AS G)(K:Ex G->AS G->Option Z):List (It P G)->Option Z
 |[]=>none
 |it::q=>match jV it.rA cap ⟨[],S.O,S.nx⟩with
  |none=>ZP rec N cp C ps a b k cap gl S K q
  |some (x,g1)=>match RL C ⟨S.F,g1.O,g1.nx,S.D⟩ gl with
   |some g=>match ji C ⟨S.F,g1.O,g1.nx,S.D⟩ g.l with
    |S1=>match Ag C ⟨S1.F,S1.O,S1.nx+2,S1.D⟩ g.l with
     |some v=>match jV (oW g.l) v ⟨[],S1.O,S1.nx+2⟩with
      |some (x0,g2)=>bif (Nat.beq it.k k&&Nat.beq it.n ps.length&&uy (iZ C))&&(sU g.nm g2.th&&sV (S1.nx+2) g.nm&&uI (S1.nx+2) (M0 ps a b C S1 g2.O))&&((qB (S1.nx+2) g2.O&&VM N ps)&&(uI (S1.nx+2) C&&Fg (g2.O++iZ C)))then bd (it.f x) λl=>rgW rec N cp C ps a b S1 K g it l g2.O x0 else none
      |none=>none
     |none=>none
   |none=>none
def Ur(seen:List Nat):Fr G->List Nat×AV G
 |[]=>([], .nil)
 |(d,v)::r=>bif bY seen d|| !rZ v then Ur (d::seen) r else match Ur (d::seen) r with
  |(ks,vs)=>(d::ks, .cons v vs)
def rgI{Z:Type}(tb:uf P G)(rec:WT G Z)(N:Nat)(cp:List Nat)(C:CC G)(ps:List Nat)(a b:Code)(k:Nat)(cap:AV G)(S:AS G)(K:Ex G->AS G->Option Z):Option Z:=match BM P k,Ur [] (S.F++Y5 C)with
 |some fi,(ks,vs)=>match fi.xn with
  |[]=>bif (lK cap&&Nat.ble (vB cap+1) fi.N)&&uy (iZ C)then rec fi.N (998::cp) [⟨[],(S.nx+1, .lp N ks vs ps a b)::iZ C,[]⟩] (.code fi.code) ⟨sq 0 (.cons (.yl (S.nx+1)) cap),(S.nx, .aux true)::S.O,S.nx+2,[]⟩ λe S1=>match kT tb.ek e S1.D S1.O with
    |some (.fZ,O2)=>K .fZ ⟨S.F,O2,S1.nx, .ptr S.nx []::S.D⟩
    |some (.ret,O2)=>K .fZ ⟨S.F,O2,S1.nx, .ptr S.nx []::S.D⟩
    |_ =>none
   else none
  |_ =>none
 |_,_ =>none
noncomputable def step{Z:Type}(tb:uf P G)(rec:WT G Z):WT G Z:=λN cp C cf S K=>match cf with
 | .ops _ []=>K .fZ S
 | .ops all (o::r)=>match o.guard with
  |none=>ZO tb rec N cp C all r o S K
  |some (j,w)=>match Dd all j with
   |some dj=>match O7 C S 8 dj w with
    |some true=>ZO tb rec N cp C all r o S K
    |some false=>(match rq N C o.dst .Jj S with
     |some S'=>rec N cp C (.ops all r) S' K
     |none=>none)
    |none=>match IF C S 8 dj w,VL tb.tt tb.zt C S (chain C S 8 dj w) o.op with
     |some g,some (gs,v)=>guG g gs (match rq N C o.dst (.gd dj w v) S with
      |some S'=>rec N cp C (.ops all r) S' K
      |none=>none)
     |g,_ =>ctT tb rec N cp C all r o S K dj w (match EE C S 8 dj with
      |some (k,b)=>cn b (rec N cp C (.ops all (o::r)) {S with F:=(k, .kb true)::S.F} K) (rec N cp C (.ops all (o::r)) {S with F:=(k, .kb false)::S.F} K)
      |none=>none) g (G8 C S (chain C S 8 dj w) o.op)
   |none=>none
 | .code c=>match c with
  | .skip=>K .fZ S
  | .label _ =>K .fZ S
  | .ret=>K .ret S
  | .exit i=>K (.exit i) S
  | .region _ ops false=>rec N cp C (.ops ops ops.toList) S K
  | .region _ ops true=>drR tb rec N cp C (.ops ops ops.toList) S K
  | .block i x=>rec N cp C (.code x) S λe S'=>match e with
   | .exit j=>bif Nat.beq i j then K .fZ S' else K (.exit j) S'
   |e=>K e S'
  | .cond x a b=>match dX C S [] x with
   |some (.bool t)=>cn t (rec N cp C (.code a) S K) (rec N cp C (.code b) S K)
   |some (.kb t)=>rec N cp C (.code (bif t then a else b)) S K
   |_ =>none
  | .seq x y=>match(match KC y with
    |some i=>tb.hint cp (i+i)
    |none=>none)with
   |some (.join gl ex)=>match RL C S gl,Ks C S gl++Gr C S ex with
    |some g,thr=>(match(⟨gj (λd=> !(bY (Eg x) d||vD g.l d)) S.F,bJ (λq=> !bY thr q) S.O,S.D⟩:Ly G),(⟨gj (λd=>bY (Eg x) d||vD g.l d) S.F,bJ (bY thr) S.O,S.nx,[]⟩:AS G)with
    |ly,S0=>bif uI S.nx (ly::C)then jnE tb.jw (aD (oW g.l)) (λe=>rec N cp C (.code y) (F4 ly (DX g S.nx e)) K) λj=>rec N cp (ly::C) (.code x) S0 λe S1=>match e with
       | .fZ=>match C0 (ly::C) (ji (ly::C) S1 g.l) g S.nx with
        |some e=>j e
        |none=>none
       |e=>K e (F4 ly S1)
     else none)
    |none,_ =>none
   |_ =>rec N cp C (.code x) S λe S'=>match e with
    | .fZ=>rec N cp C (.code y) S' K
    |e=>K e S'
  | .loop x=>match(match KC x with
    |some i=>tb.hint cp (i+i+1)
    |none=>none)with
   |some (.loop gl)=>(match RL C S gl with
    |none=>none
    |some g=>match ji C S g.l with
    |S=>match Ag C S g.l with
    |some v=>match jV (oW g.l) v ⟨[],S.O,S.nx⟩with
     |some (x0,g')=>bif sU g.nm g'.th&&sV S.nx g.nm then
       (match(⟨gj (λd=> !(bY (Eg x) d||vD g.l d)) S.F,g'.O,S.D⟩:Ly G)with
       |ly=>bif uI S.nx (ly::C)then R1 (tb.vw (match KC x with
        |some i=>i
        |none=>0) (aD (oW g.l))) (λgo e=>rec N cp (ly::C) (.code x) (DX g S.nx e) λe1 S1=>match e1 with
         | .fZ=>match C0 (ly::C) (ji (ly::C) S1 g.l) g S.nx with
          |some e=>go e
          |none=>none
         |e1=>K e1 (F4 ly S1)) tb.fu x0
        else none)
      else none
     |none=>none
    |none=>none)
   |some .EZ=>rec N cp C (.lp x) S K
   |_ =>none
  | .rangeFunc g ps a b=>match dX C S [] g,(match KC (.seq a b)with
    |some i=>tb.hint cp (i+i+1)
    |none=>none)with
   |some (.fn (.func k) .nil cap),some (.loop gl)=>ZP rec N cp C ps.toList a b k cap gl S K (tb.Qk k)
   |some (.fn (.func k) .nil cap),none=>rgI tb rec N cp C ps.toList a b k cap S K
   |_,_ =>none
  |_ =>none
 | .lp x=>rec N cp C (.code x) S λe S'=>match e with
  | .fZ=>rec N cp C (.lp x) S' K
  |e=>K e S'
noncomputable def W{Z:Type}(tb:uf P G):Nat->WT G Z
 |0=>λ_ _ _ _ _ _ =>none
 |n+1=>step tb (W tb n)
end Go.Rw
