/- Part 6 of what a proof leans on; pruned and shortened by a program out of longer texts. -/
import Derived.Test.YtgdmofhmmhcmjaaGreatDoorQ5
namespace Go.Rw
open Go Go.Bw Go.RowKit
variable {G:Sg} {P:Program} {tt:TT P G} {zt:ZT P G} {J:World->Prop} {ρ:aY} {a:Act} {w:World} {d:Option Tmp} {ty:TypeId} {ps:String} {af:Array Edge} {g:Option (Nat×Bool)}
 {N:Nat} {c:Cx} {H:List aE} {D:List Deferred} {ob:Nat->Option (Ob G)} {E:Operand->Option (AV G)}
def Np(c:AV G)(i o:Nat):sq:=match c with
 | .dat (.lK n e) _ => .idx n (e.L G).n i
 |_ => .C6 i o
def aan:sq->Bool
 | .idx n _ i=>dg i n
 |_ =>true
def ZI(F:OP G)(pl:List (Nat×Nat))(E:Operand->Option (AV G)):AV G->List (Nat×Operand)->Option (AV G)
 |c,[]=>some c
 |c,(i,x)::r=>match pl[i]?,E x with
  |some (o,n),some v=>bif (Mt (some n) v||(Nat.beq n 1&&Mt none v))&&(Nat.beq (Np c i o).off o&&aan (Np c i o))then(match Nq F c [Np c i o] v with
   |some c'=>ZI F pl E c' r
   |none=>none)else none
  |_,_ =>none
def ac9:AV G->Bool
 | .dat t _ =>t.ag
 | .st _ =>true
 |_ =>false
def plT(tt:TT P G)(T:Nat)(parts:List (Nat×Operand)):Option (List (Nat×Nat)):=match tt.te.find T with
 |some (.lK n _ sz _)=>bif (parts.map (·.1)).all λi=>decide (i<n)then some (R7 n sz)else none
 |_ =>Gq P T
def TX(tt:TT P G)(zt:ZT P G)(E:Operand->Option (AV G))(T:Nat)(parts:List (Nat×Operand)):PV G:=match plT tt T parts,zt.z.find T with
 |some pl,some c0=>match ZI tt.F pl E c0 parts with
  |some v=>bif ac9 v then some ([],v)else none
  |none=>none
 |_,_ =>none
theorem ZP{v:AV G}{u:Value}(h:ac9 v=true)(hv:rv J ρ v u):u= .agg u.cells:=by
 cases v with
 |dat t x=>obtain⟨u',e,h1⟩:=hv;cases e;obtain⟨cs,e⟩:=h1.2.1 h;rw[e];simp[Value.cells]
 |st a=>obtain⟨cs,e,_⟩:=hv;cases e;simp[Value.cells]
 |_ =>cases h
theorem ZH{F:OP G}{pl:List (Nat×Nat)}(hE:zD J ρ a E):∀{parts:List (Nat×Operand)} {c0 v:AV G} {u0:Value},ZI F pl E c0 parts=some v->rv J ρ c0 u0->
  ∃u vs,rv J ρ v u/\C7 (ng a) (parts.map (·.2))=some vs/\uE pl u0.cells.toList ((parts.map (·.1)).zip vs)=some u.cells.toList:=by
 intro parts
 induction parts with
 |nil=>intro c0 v u0 h h0;cases h;exact⟨u0,[],h0,rfl,rfl⟩
 |cons q r ih=>
  obtain⟨i,x⟩:=q;intro c0 v u0 h h0;simp only[ZI]at h;split at h
  ·rename_i o n v1 hp hx
   cases hb:((Mt (some n) v1||(Nat.beq n 1&&Mt none v1))&&(Nat.beq (Np c0 i o).off o&&aan (Np c0 i o)))with
   |false=>rw[hb]at h;cases h
   |true=>
    rw[hb]at h;simp only[cond_true]at h;rw[aiP,aiP]at hb;obtain⟨hb,hbo,hbk⟩:=hb;have hbo:=aiO hbo;split at h
    ·rename_i c' hc
     have hv1:=hE.ok _ _ hx;have hsz:(a.eval x).cells.size=n:=by
      simp only[Bool.or_eq_true,aiP]at hb;rcases hb with hb|⟨Rg,Ic⟩
      ·exact((acK hb hv1).2 n rfl).1
      ·rw[(acK Ic hv1).1 rfl,aiO Rg];rfl
     obtain⟨u',k1,k2,k3,_⟩:=Kc hv1 hc h0 (by
      intro s hs;rw[List.mem_singleton.1 hs];revert hbk;generalize Np c0 i o=s;intro hbk;cases s with
      |C6 _ _ =>trivial
      |idx _ _ _ =>exact hbk)
     obtain⟨u,vs,m1,m2,m3⟩:=ih h k1;refine⟨u,a.eval x::vs,m1,?_,?_⟩
     ·simp only[List.map_cons,C7,hE.ev _ _ hx,m2]
     ·have ho:eJ [Np c0 i o]=o:=by simp[eJ,hbo]
      rw[ho]at k2 k3;simp only[List.map_cons,List.zip_cons_cons,uE,hp];rw[aiN, ← k2]
      ·exact m3
      ·simp only[ne_eq,hsz,not_true_eq_false,decide_false,Bool.false_or,decide_eq_true_eq,Array.length_toList]
       omega
    ·cases h
  ·cases h
theorem TW(hm:OM (G:=G) J ρ N c D H ob a w)(hE:zD J ρ a E){T:Nat}{parts:Array (Nat×Operand)}{v:AV G}{gs:List Bool}(h:TX tt zt E T parts.toList=some (gs,v)):Bv P c J ρ ⟨d, .build T parts,ty,ps,af,g⟩ a w v:=by
 unfold TX at h;split at h
 ·rename_i pl c0 h1 h2
  split at h
  ·rename_i v' hb
   cases hag:ac9 v' with
   |false=>rw[hag]at h;cases h
   |true=>
    rw[hag]at h;cases h;obtain⟨u0,z1,z2⟩:=zt.ok T c0 h2 J ρ;obtain⟨u,vs,m1,m2,m3⟩:=ZH hE hb z2;haveI:jh P T u0.cells.toList:=⟨z1⟩;have:VS P N c ⟨d, .build T parts.toList.toArray,ty,ps,af,g⟩ (ng a) H (.agg u.cells.toList.toArray):=by
     unfold plT at h1;split at h1
     ·rename_i n e sz Lx ht
      haveI:=tt.lK ht;cases hi:(parts.toList.map (·.1)).all λi=>decide (i<n)with
      |false=>rw[hi]at h1;cases h1
      |true=>rw[hi]at h1;cases h1;exact RS m2 m3 hi
     ·haveI:TPl P T pl:=⟨h1⟩
      exact zk (P:=P) (N:=N) (c:=c) (H:=H) (d:=d) (ty:=ty) (p:=ps) (af:=af) (g:=g) (F:=ng a) (t:=T) m2 m3
    refine⟨u,m1,?_⟩;have e:=ZP hag m1;rw[e];have:=this.vk hm.st;simpa using this
  ·cases h
 ·cases h
def eq1{i:Nat}(x y:G.S i)(f:Fd G i):Option Bool:=match f with
 |⟨.int _,_,get,_,_⟩=>some (@BEq.beq Int inferInstance (get x) (get y))
 |⟨.bool,_,get,_,_⟩=>some (@BEq.beq Bool inferInstance (get x) (get y))
 |_ =>none
def eqF{i:Nat}(x y:G.S i):List (Fd G i)->Bool->Option Bool
 |[],b=>some b
 |f::r,b=>match eq1 x y f with
  |some c=>eqF x y r (b&&c)
  |none=>none
def eqS{i:Nat}(x y:G.S i):List (Fd G i)->Option Bool
 |[]=>none
 |f::r=>match eq1 x y f with
  |some c=>eqF x y r c
  |none=>none
def Af{i:Nat}:List (Fd G i)->List (Nat×Option IntKind)
 |[]=>[]
 |f::r=>(f.off,match f.ty with
  | .int k=>some k
  |_ =>none)::Af r
theorem Vu{i:Nat}{x y:G.S i}{f:Fd G i}{b:Bool}{cs ds:List Value}(h:eq1 x y f=some b)(hc:(G.L i).eI J cs x)(hd:(G.L i).eI J ds y):Hu cs[f.off]? ds[f.off]? =b/\nW (match f.ty with
  | .int k=>some k
  |_ =>none) cs[f.off]? =true/\nW (match f.ty with
  | .int k=>some k
  |_ =>none) ds[f.off]? =true:=by
 obtain⟨t,o,get,set,ok⟩:=f;cases t<;>simp only[eq1]at h<;>try (cases h;done)
 ·rename_i k
  cases h;have e1:=aX.int (k:=k) ok hc;have e2:=aX.int (k:=k) ok hd;rw[e1,e2];exact⟨rfl,by simp[nW],by simp[nW]⟩
 ·cases h
  have e1:=aX.bool ok hc;have e2:=aX.bool ok hd;rw[e1,e2];exact⟨rfl,rfl,rfl⟩
theorem acQ{i:Nat}{x y:G.S i}{cs ds:List Value}(hc:(G.L i).eI J cs x)(hd:(G.L i).eI J ds y):∀{l:List (Fd G i)} {b e:Bool},eqF x y l b=some e->(b&&xM (Af l) cs ds)=e/\rT (Af l) cs=true/\rT (Af l) ds=true:=by
 intro l
 induction l with
 |nil=>intro b e h;cases h;exact⟨by simp[Af,xM],rfl,rfl⟩
 |cons f r ih=>
  intro b e h;simp only[eqF]at h;split at h
  ·rename_i c1 h1
   obtain⟨k1,k2,k3⟩:=Vu h1 hc hd;obtain⟨m1,m2,m3⟩:=ih h;refine⟨?_,?_,?_⟩
   ·simp only[Af,xM,k1];rw[← m1,Bool.and_assoc]
   ·simp only[Af,rT,k2,m2,Bool.and_self]
   ·simp only[Af,rT,k3,m3,Bool.and_self]
  ·cases h
def fdI{i:Nat}(x:G.S i):Fd G i->Option (IntKind×Int)
 |⟨.int k,_,get,_,_⟩=>some (k,get x)
 |_ =>none
def fdB{i:Nat}(x:G.S i):Fd G i->Option Bool
 |⟨.bool,_,get,_,_⟩=>some (get x)
 |_ =>none
def eq2{i j:Nat}(x:G.S i)(y:G.S j)(f:Fd G i)(g:Fd G j):Option Bool:=bif Nat.beq f.off g.off then(match fdI x f,fdI y g with
 |some (k,a),some (l,b)=>bif FF k l then some (a==b)else none
 |_,_ =>match fdB x f,fdB y g with
  |some a,some b=>some (a==b)
  |_,_ =>none)else none
def Zs{i j:Nat}(x:G.S i)(y:G.S j):List (Fd G i)->List (Fd G j)->Bool->Option Bool
 |[],[],b=>some b
 |f::r,g::q,b=>match eq2 x y f g with
  |some c=>Zs x y r q (b&&c)
  |none=>none
 |_,_,_ =>none
def Zq{i j:Nat}(x:G.S i)(y:G.S j):List (Fd G i)->List (Fd G j)->Option Bool
 |f::r,g::q=>match eq2 x y f g with
  |some c=>Zs x y r q c
  |none=>none
 |_,_ =>none
theorem Vp{i:Nat}{x:G.S i}{f:Fd G i}{k:IntKind}{a:Int}{cs:List Value}(h:fdI x f=some (k,a))(hc:(G.L i).eI J cs x):f.ty= .int k/\cs[f.off]? =some (.int k a):=by
 obtain⟨t,o,get,set,ok⟩:=f;cases t<;>simp only[fdI]at h<;>try (cases h;done)
 cases h;exact⟨rfl,aX.int ok hc⟩
theorem Vq{i:Nat}{x:G.S i}{f:Fd G i}{a:Bool}{cs:List Value}(h:fdB x f=some a)(hc:(G.L i).eI J cs x):f.ty= .bool/\cs[f.off]? =some (.bool a):=by
 obtain⟨t,o,get,set,ok⟩:=f;cases t<;>simp only[fdB]at h<;>try (cases h;done)
 cases h;exact⟨rfl,aX.bool ok hc⟩
theorem Vt{i j:Nat}{x:G.S i}{y:G.S j}{f:Fd G i}{g:Fd G j}{b:Bool}{cs ds:List Value}(h:eq2 x y f g=some b)(hc:(G.L i).eI J cs x)(hd:(G.L j).eI J ds y):Hu cs[f.off]? ds[f.off]? =b/\nW (match f.ty with
  | .int k=>some k
  |_ =>none) cs[f.off]? =true/\nW (match f.ty with
  | .int k=>some k
  |_ =>none) ds[f.off]? =true:=by
 unfold eq2 at h;cases hb:Nat.beq f.off g.off with
 |false=>rw[hb]at h;cases h
 |true=>
  rw[hb]at h;have ho:=aiO hb;simp only[cond_true]at h;split at h
  ·rename_i k a l b' h1 h2
   obtain⟨t1,e1⟩:=Vp h1 hc;obtain⟨t2,e2⟩:=Vp h2 hd;cases hk:FF k l with
   |false=>rw[hk]at h;cases h
   |true=>rw[hk]at h;cases h;obtain rfl:=yS hk;rw[← ho]at e2;rw[t1,e1,e2];exact⟨rfl,by simp[nW],by simp[nW]⟩
  ·split at h
   ·rename_i a b' h1 h2
    obtain⟨t1,e1⟩:=Vq h1 hc;obtain⟨t2,e2⟩:=Vq h2 hd;cases h;rw[← ho]at e2;rw[t1,e1,e2];exact⟨rfl,rfl,rfl⟩
   ·cases h
theorem Zr{i j:Nat}{x:G.S i}{y:G.S j}{cs ds:List Value}(hc:(G.L i).eI J cs x)(hd:(G.L j).eI J ds y):∀{l:List (Fd G i)} {m:List (Fd G j)} {b e:Bool},Zs x y l m b=some e->(b&&xM (Af l) cs ds)=e/\rT (Af l) cs=true/\rT (Af l) ds=true:=by
 intro l
 induction l with
 |nil=>
  intro m b e h;cases m with
  |nil=>cases h;exact⟨by simp[Af,xM],rfl,rfl⟩
  |cons _ _ =>cases h
 |cons f r ih=>
  intro m b e h;cases m with
  |nil=>cases h
  |cons g q=>
   simp only[Zs]at h;split at h
   ·rename_i c1 h1
    obtain⟨k1,k2,k3⟩:=Vt h1 hc hd;obtain⟨m1,m2,m3⟩:=ih h;refine⟨?_,?_,?_⟩
    ·simp only[Af,xM,k1];rw[← m1,Bool.and_assoc]
    ·simp only[Af,rT,k2,m2,Bool.and_self]
    ·simp only[Af,rT,k3,m3,Bool.and_self]
   ·cases h
def TV(tt:TT P G)(o:BinOp)(T:Nat):AV G->AV G->PV G
 | .dat (.st i) x, .dat (.st j) y=>if h:j=i then(bif Bm P T (Af (tt.F i))then(match eqS x (h▸y) (tt.F i),o with
  |some b, .eql=>some ([], .bool b)
  |some b, .neq=>some ([], .bool (!b))
  |_,_ =>none)else none)else(bif Bm P T (Af (tt.F i))then(match Zq x y (tt.F i) (tt.F j),o with
  |some b, .eql=>some ([], .bool b)
  |some b, .neq=>some ([], .bool (!b))
  |_,_ =>none)else none)
 |_,_ =>none
theorem TU(hm:OM (G:=G) J ρ N c D H ob a w)(hE:zD J ρ a E){o:BinOp}{T U:Nat}{x y:Operand}{va vb v:AV G}{gs:List Bool}(h:TV tt o T va vb=some (gs,v))(hx:E x=some va)(hy:E y=some vb):Bv P c J ρ ⟨d, .binOp o T x y U,ty,ps,af,g⟩ a w v:=by
 unfold TV at h;split at h
 ·rename_i i x' j y'
  by_cases e:j=i
  ·subst e
   rw[dif_pos rfl]at h;cases hk:Bm P T (Af (tt.F j))with
   |false=>rw[hk]at h;cases h
   |true=>
    rw[hk]at h;simp only[cond_true]at h;obtain⟨u,e1,r1⟩:=hE.ok _ _ hx;obtain⟨u2,e2,r2⟩:=hE.ok _ _ hy;cases e1;cases e2;obtain⟨cs,ec⟩:=r1.2.1 rfl;obtain⟨ds,ed⟩:=r2.2.1 rfl;have hc:(G.L j).eI J cs x':=by have:=r1.1;rw[ec]at this;simp only[Value.cells]at this;exact this
    have hd:(G.L j).eI J ds y':=by have:=r2.1;rw[ed]at this;simp only[Value.cells]at this;exact this
    have fx:=hE.ev _ _ hx;have fy:=hE.ev _ _ hy;rw[ec]at fx;rw[ed]at fy;haveI:MW P T (Af (tt.F j)):=⟨hk⟩;have main:∀b,eqS x' y' (tt.F j)=some b->xM (Af (tt.F j)) cs ds=b/\rT (Af (tt.F j)) cs=true/\rT (Af (tt.F j)) ds=true:=by
     intro b hb;cases hl:tt.F j with
     |nil=>rw[hl]at hb;cases hb
     |cons f r=>
      rw[hl]at hb;simp only[eqS]at hb;split at hb
      ·rename_i c1 h1
       obtain⟨k1,k2,k3⟩:=Vu h1 hc hd;obtain⟨m1,m2,m3⟩:=acQ hc hd hb;exact⟨by simp only[Af,xM,k1];exact m1,by simp only[Af,rT,k2,m2,Bool.and_self],by simp only[Af,rT,k3,m3,Bool.and_self]⟩
      ·cases hb
    split at h
    ·rename_i b hb
     cases h;obtain⟨m1,m2,m3⟩:=main b hb;have:=(Le (P:=P) (N:=N) (c:=c) (H:=H) (d:=d) (ty:=ty) (p:=ps) (af:=af) (g:=g) (T:=T) (U:=U) fx fy m2 m3).vk hm.st;rw[m1]at this;exact⟨_,rfl,this⟩
    ·rename_i b hb
     cases h;obtain⟨m1,m2,m3⟩:=main b hb;have:=(Qp (P:=P) (N:=N) (c:=c) (H:=H) (d:=d) (ty:=ty) (p:=ps) (af:=af) (g:=g) (T:=T) (U:=U) fx fy m2 m3).vk hm.st;rw[m1]at this;exact⟨_,rfl,this⟩
    ·cases h
  ·rw[dif_neg e]at h
   cases hk:Bm P T (Af (tt.F i))with
   |false=>rw[hk]at h;cases h
   |true=>
    rw[hk]at h;simp only[cond_true]at h;obtain⟨u,e1,r1⟩:=hE.ok _ _ hx;obtain⟨u2,e2,r2⟩:=hE.ok _ _ hy;cases e1;cases e2;obtain⟨cs,ec⟩:=r1.2.1 rfl;obtain⟨ds,ed⟩:=r2.2.1 rfl;have hc:(G.L i).eI J cs x':=by have:=r1.1;rw[ec]at this;simp only[Value.cells]at this;exact this
    have hd:(G.L j).eI J ds y':=by have:=r2.1;rw[ed]at this;simp only[Value.cells]at this;exact this
    have fx:=hE.ev _ _ hx;have fy:=hE.ev _ _ hy;rw[ec]at fx;rw[ed]at fy;haveI:MW P T (Af (tt.F i)):=⟨hk⟩;have main:∀b,Zq x' y' (tt.F i) (tt.F j)=some b->xM (Af (tt.F i)) cs ds=b/\rT (Af (tt.F i)) cs=true/\rT (Af (tt.F i)) ds=true:=by
     intro b hb;cases hl:tt.F i with
     |nil=>rw[hl]at hb;simp only[Zq]at hb;cases hb
     |cons f r=>
      cases hm':tt.F j with
      |nil=>rw[hl,hm']at hb;cases hb
      |cons g' q=>
       rw[hl,hm']at hb;simp only[Zq]at hb;split at hb
       ·rename_i c1 h1
        obtain⟨k1,k2,k3⟩:=Vt h1 hc hd;obtain⟨m1,m2,m3⟩:=Zr hc hd hb;exact⟨by simp only[Af,xM,k1];exact m1,by simp only[Af,rT,k2,m2,Bool.and_self],by simp only[Af,rT,k3,m3,Bool.and_self]⟩
       ·cases hb
    split at h
    ·rename_i b hb
     cases h;obtain⟨m1,m2,m3⟩:=main b hb;have:=(Le (P:=P) (N:=N) (c:=c) (H:=H) (d:=d) (ty:=ty) (p:=ps) (af:=af) (g:=g) (T:=T) (U:=U) fx fy m2 m3).vk hm.st;rw[m1]at this;exact⟨_,rfl,this⟩
    ·rename_i b hb
     cases h;obtain⟨m1,m2,m3⟩:=main b hb;have:=(Qp (P:=P) (N:=N) (c:=c) (H:=H) (d:=d) (ty:=ty) (p:=ps) (af:=af) (g:=g) (T:=T) (U:=U) fx fy m2 m3).vk hm.st;rw[m1]at this;exact⟨_,rfl,this⟩
    ·cases h
 ·cases h
end Go.Rw
namespace Go.Bw
open Go Go.RowKit
end Go.Bw
namespace Go.Bw
open Go Go.RowKit
section rules
variable {P:Program} {N:Nat} {c:Cx} {D:List Deferred} {Q:Exit->Act->World->Prop} {F:eu} {H:List aE} {d:Option Tmp} {ty:TypeId} {ps:String} {af:Array Edge} {g:Option (Nat×Bool)} {α β γ:Type}
theorem QS{w:World}{v:Value}{e sz n m:Nat}{xs:List Value}(h:(aE.row v e sz n xs).holds w)(hm:m<=n):(aE.row (nh 0 m sz v) e sz m (xs.take (m*sz))).holds w:=by
 obtain⟨h1,h2⟩:=h;have hle:m*sz<=n*sz:=Nat.mul_le_mul_right _ hm;refine⟨by rw[List.length_take,h1,Nat.min_eq_left hle],?_⟩;rcases h2 with⟨rfl,rfl⟩|⟨gb,o,cap,cur,rfl,q2,q3,q4,q5,q6⟩
 ·obtain rfl:m=0:=by omega
  exact .inl ⟨by simp[nh],rfl⟩
 ·refine .inr ⟨gb,o,cap,cur,?_,q2,by omega,q4,q5,?_⟩
  ·simp[nh,Addr.add_lit]
  ·rw[← q6,List.take_take,Nat.min_eq_left hle]
theorem QO{w:World}{v:Value}{e sz n l:Nat}{xs:List Value}(h:(aE.row v e sz n xs).holds w)(hl:l<=n):(aE.row (nh l n sz v) e sz (n-l) (xs.drop (l*sz))).holds w:=by
 obtain⟨h1,h2⟩:=h;refine⟨by rw[List.length_drop,h1,Nat.sub_mul],?_⟩;rcases h2 with⟨rfl,rfl⟩|⟨gb,o,cap,cur,rfl,q2,q3,q4,q5,q6⟩
 ·obtain rfl:l=0:=by omega
  exact .inl ⟨by simp[nh],rfl⟩
 ·have hlc:l*sz<=cap*sz:=Nat.mul_le_mul_right _ (by omega)
  by_cases hc:cap=l
  ·refine .inr ⟨gb,o,cap-l,cur,by simp[nh,hc],q2,by omega,by omega,by rw[Nat.sub_mul];omega,?_⟩
   have:n-l=0:=by omega
   rw[this,Nat.zero_mul,List.take_zero];have hle:n*sz<=l*sz:=Nat.mul_le_mul_right _ (by omega);exact(List.drop_of_length_le (by omega)).symm
  ·refine .inr ⟨gb,o+l*sz,cap-l,cur,by simp[nh,hc,Addr.add_lit],q2,by omega,by omega,by rw[Nat.sub_mul];omega,?_⟩
   rw[← q6, ← List.drop_drop,List.drop_take,Nat.sub_mul]
theorem aac{v:Value}{n m sz:Nat}(h:su v n):su (nh 0 m sz v) m:=by obtain⟨a,cp,rfl⟩:=h;exact⟨_,_,rfl⟩
theorem I6(L:cP α)[bg L](xs:List α){m sz:Nat}(hn:L.n=sz)(hm:m<=xs.length):(dU L xs).take (m*sz)=dU L (xs.take m):=by have:=TC L xs 0 m (Nat.zero_le _) hm;subst hn;simpa using this
theorem Dx(L:cP α)[bg L](z0:α){z:Value}(he:L.enc z0=[z]):∀n:Nat,dU L (List.replicate n z0)=List.replicate n z
 |0=>rfl
 |n+1=>by have:=Dx L z0 he n;rw[List.replicate_succ,List.replicate_succ];show L.enc z0++dU L (List.replicate n z0)=_;rw[he,this];rfl
theorem LK{P:Program}{w:World}{t e ty:Nat}(e1:P.underlying t=some (.slice e))(a:Option Addr)(cp:Nat):(Builtin.clear_ #[t] ty #[.slice a 0 cp]).run P w= .ok (.tuple #[]) w:=by cases a<;>simp[Builtin.clear_,run_underlying e1]
theorem RW{L:cP α}[bg L]{xs ys:List α}{v:Value}{e t m:Nat}{z0:α}{z:Value}{x:Operand}{f:aE->List aE}(ht:EC P t e 1=true)(hz:OI P e z)(he:L.enc z0=[z])(hz1:z.cells= #[z])(h1:z.oneCell'=true)(hL:L.n=1)(hm:m<=xs.length)
  (hx:ev F x=some (nh m xs.length 1 v))[hr:tO H v e 1 xs.length (dU L xs) f](hy:ys=xs.take m++List.replicate (xs.length-m) z0):
  RX (α:=Unit) P N c ⟨d, .call ⟨.builtin .clear, #[x], #[t]⟩,ty,ps,af,g⟩ F H (λ_ =>True) (λ_ => .tuple #[]) (λ_ =>f (pE v e 1 L ys)):=λD a w next Q hst hk=>by
 obtain⟨inf,e1,e2,e3⟩:=se.get ht;obtain⟨k,k1,k2⟩:=hr.ok;have KL:aE.row v e 1 xs.length (dU L xs)∈H:=List.mem_of_getElem? k1;have hown:kH w e 1 v xs.length (dU L xs):=hst.hp.holds _ KL;obtain⟨hlen,Eu⟩:=hown;have sB:=aI hst.fr hx;have hyl:ys.length=xs.length:=by rw[hy,List.length_append,List.length_take,List.length_replicate];omega
 by_cases hem:m=xs.length
 ·have hyx:ys=xs:=by rw[hy,hem,List.take_length];simp
  refine dJ (by simp) (v:= .tuple #[]) (w':=w) ?_ (hk () w trivial hst.si ?_)
  ·have hv:∃a0 cp,a.eval x= .slice a0 0 cp:=by
    rw[sB,hem];rcases Eu with⟨hv,h0⟩|⟨gb,o,cap,cur,hv,_⟩
    ·rw[hv];exact⟨_,_,by rw[nh,Nat.sub_self]⟩
    ·rw[hv];exact⟨_,_,by rw[nh,Nat.sub_self]⟩
   obtain⟨a0,cp,hv⟩:=hv;have:=LK (P:=P) (w:=w) (ty:=ty) e1 a0 cp;simp[execOp,resolve,invoke,builtin,hv,this]
  ·rw[k2]
   exact hst.hp.Ad k1 (λw hw=>by rw[hyx];exact hw) (λb hb=>by rw[hyx]at hb;exact hb)
 ·rcases Eu with⟨_,h0⟩|⟨gb,o,cap,cur,rfl,Px,hnc,Od,hcs,Er⟩
  ·omega
  have hone:oy (List.replicate (xs.length-m) z):=λv hv=>by rw[List.eq_of_mem_replicate hv];exact h1
  have hsc:=run_storeCells_at P gb (o+m) e (List.replicate (xs.length-m) z) 0 cur w Px (by simp;omega) hone;simp only[Nat.add_zero]at hsc;obtain⟨cs',acw⟩:∃cs',(cur.toList.take (o+m)++List.replicate (xs.length-m) z++cur.toList.drop (o+m+(List.replicate (xs.length-m) z).length)).toArray=cs':=⟨_,rfl⟩;rw[acw]at hsc;have iG:aO [gb] w (w.setRow gb cs'):=⟨rfl,rfl,rfl,by simp,λk _ hk=>setRow_other w gb k _ (by simpa using hk)⟩;refine dJ (by simp) (v:= .tuple #[]) (w':=w.setRow gb cs') ?_ (hk () _ trivial (hst.si.store hst.hp KL (by simp[aE.cH,Value.ownBlock]) iG) ?_)
  ·obtain⟨j,hj⟩:∃j,xs.length-m=j+1:=⟨xs.length-m-1,by omega⟩
   have hzr:=Nu hz w;have hzc:=Av hz1 (j+1);have hne:¬cap=m:=by omega
   rw[hj]at hsc;have hx3:a.eval x= .slice (some ⟨gb,o+m,none⟩) (j+1) (cap-m):=by rw[sB];simp[nh,hne,Addr.add_lit,hj]
   simp[execOp,resolve,invoke,builtin,hx3,Builtin.clear_,run_underlying e1,hzr,hzc,hsc]
  ·show bC c.bs c.w0.heap.size (f (pE _ e 1 L ys)) _
   rw[pE,k2];have KI:=setRow_heap w gb cur cs' e (0,0) Px;refine hst.hp.set k1 iG.size (λj hj hn=>iG.block j hj (by simpa[aE.cH,Value.ownBlock]using hn)) ?_ hst.si.size (λb' hb'=>?_)
   ·refine⟨by rw[lX,hL], .inr ⟨gb,o,cap,cs',by rw[hyl],KI,by omega,Od,?_,?_⟩⟩
    ·rw[← acw];simp;omega
    ·have e7:=uF (cs:=cur.toList) (vs:=List.replicate (xs.length-m) z) (o:=o) (off:=m) (k:=xs.length*1) (by simp;omega) (by have h8:cur.toList.length=cur.size:=Array.length_toList;omega)
     rw[Er]at e7;rw[hyl, ← acw];refine e7.trans ?_;rw[hy,qz,Dx L z0 he];have t1:=I6 L xs (m:=m) (sz:=1) hL hm;rw[Nat.mul_one]at t1;unfold bN;rw[t1,List.drop_of_length_le (by simp[lX,hL];omega),List.append_nil]
   ·have h5:b'=gb:=by simpa[aE.cH,Value.ownBlock]using hb'
    subst h5;exact⟨.inl (by simp[aE.cH,Value.ownBlock]),Nat.lt_of_lt_of_le (aiU.1 Px).1 iG.size⟩
theorem ags{ops:Array Oper}{rest:List Oper}{op:Op}{dd:Tmp}{gg:Option (Nat×Bool)}{b:Bool}{v:Value}(hg:Gd ops F gg b)(hb:b=false)(hd:Nat.blt dd N=true)
  (h:WL P N c D ops Q rest ((dd,bif b then v else undef)::F) H):WL P N c D ops Q (⟨some dd,op,ty,ps,af,gg⟩::rest) F H:=by
 subst hb;exact La hg hd h
end rules
end Go.Bw
namespace Go.Rw
open Go Go.Bw Go.RowKit
variable {G:Sg} {P:Program} {tt:TT P G} {zt:ZT P G} {J:World->Prop} {ρ:aY} {a:Act} {w:World} {d:Option Tmp} {ty:TypeId} {ps:String} {af:Array Edge} {g:Option (Nat×Bool)}
 {N:Nat} {c:Cx} {H HK X:List aE} {C:CC G} {S:AS G} {D:List Deferred} {E:Operand->Option (AV G)}
def tyA:AV G->Option Ty
 | .int k _ =>some (.int k)
 | .bool _ =>some .bool
 | .dat t _ =>some t
 |_ =>none
def elA(t:Ty)(E:Operand->Option (AV G)):Nat->List (Nat×Operand)->Option (List (t.T G))
 |_,[]=>some []
 |k,(i,x)::r=>bif Nat.beq i k then(match E x with
  |some v=>match A7 t v,elA t E (k+1) r with
   |some y,some l=>some (y::l)
   |_,_ =>none
  |none=>none)else none
theorem Mu{n sz:Nat}:∀{vs:List Value} {k:Nat} {uY:List Value},(∀v∈vs,v.cells.size=sz)->k+vs.length<=n->uY.length=n*sz->
  uE (R7 n sz) uY ((List.range' k vs.length).zip vs)=some (uY.take (k*sz)++vs.flatMap (λv=>v.cells.toList)++uY.drop ((k+vs.length)*sz)):=by
 intro vs
 induction vs with
 |nil=>intro k uY _ _ _;simp[uE]
 |cons v r ih=>
  intro k uY hv hk hl;have h0:=hv v (by simp);have hlt:k<n:=by simp at hk;omega
  have hle:k*sz+sz<=n*sz:=by rw[← Nat.succ_mul];exact Nat.mul_le_mul_right _ hlt
  simp only[List.length_cons,List.range'_succ,List.zip_cons_cons,uE,Kz hlt];rw[aiN (by simp[h0];omega)];have hsl:(bN uY (k*sz) v.cells.toList).length=n*sz:=by rw[s9 (by rw[Array.length_toList];omega)];exact hl
  rw[ih (λx hx=>hv x (by simp[hx])) (by simp at hk;omega) hsl];have hvl:v.cells.toList.length=sz:=by rw[Array.length_toList];exact h0
  have t1:(bN uY (k*sz) v.cells.toList).take ((k+1)*sz)=uY.take (k*sz)++v.cells.toList:=by unfold bN;rw[Nat.succ_mul,List.take_append_of_le_length (by simp[hvl];omega),List.take_of_length_le (by simp[hvl];omega)]
  have t2:(bN uY (k*sz) v.cells.toList).drop ((k+1+r.length)*sz)=uY.drop ((k+(r.length+1))*sz):=by
   have e1:(k+1+r.length)*sz=k*sz+sz+r.length*sz:=by rw[Nat.add_mul,Nat.succ_mul]
   have e2:(k+(r.length+1))*sz=k*sz+sz+r.length*sz:=by rw[← e1];congr 1;omega
   unfold bN;rw[e1,e2,List.drop_append,hvl];have hz:(uY.take (k*sz)++v.cells.toList).length=k*sz+sz:=by simp[hvl];omega
   rw[List.drop_eq_nil_of_le (by rw[hz];omega),List.nil_append,hz,List.drop_drop];congr 1;omega
  rw[t1,t2];simp
theorem acT{t:Ty}(hE:zD J ρ a E):∀{parts:List (Nat×Operand)} {k:Nat} {xs:List (t.T G)},elA t E k parts=some xs->∃vs,C7 (ng a) (parts.map (·.2))=some vs/\parts.map (·.1)=List.range' k xs.length/\vs.length=xs.length/\
  (∀v∈vs,v.cells.size=(t.L G).n)/\(LA (t.L G) xs.length).eI J (vs.flatMap λv=>v.cells.toList) (λi=>xs.getD i default):=by
 intro parts
 induction parts with
 |nil=>intro k xs h;cases h;exact⟨[],rfl,rfl,rfl,by simp,adP⟩
 |cons q r ih=>
  obtain⟨i,x⟩:=q;intro k xs h;simp only[elA]at h;cases hb:Nat.beq i k with
  |false=>rw[hb]at h;cases h
  |true=>
   rw[hb]at h;obtain rfl:=aiO hb;simp only[cond_true]at h;split at h
   ·rename_i v hx
    split at h
    ·rename_i y l hy hl
     cases h;obtain⟨vs,m1,m2,m3,m4,m5⟩:=ih hl;have hr:=zH hy (hE.ok _ _ hx);have hlen:=(t.L G).len hr.1;rw[Array.length_toList]at hlen;refine⟨a.eval x::vs,?_,?_,by simp[m3],λv hv=>?_,?_⟩
     ·simp only[List.map_cons,C7,hE.ev _ _ hx,m1]
     ·simp only[List.map_cons,m2,List.length_cons,List.range'_succ]
     ·rcases List.mem_cons.1 hv with rfl|hv
      ·exact hlen
      ·exact m4 v hv
     ·have:=WV (adO hr.1) m5
      simpa using this
    ·cases h
   ·cases h
theorem YT{bs:List Nat}{n0 b e sz n:Nat}{cs:List Value}{w:World}(hl:cs.length=n*sz)(hn:n<=9223372036854775807)(h:bC bs n0 (.cells b e cs::H) w):bC bs n0 (.row (.slice (some ⟨b,0,none⟩) n n) e sz n cs::H) w:=by
 have:=h.Ad (k:=0) (r:= .cells b e cs) (r':= .row (.slice (some ⟨b,0,none⟩) n n) e sz n cs) rfl (λw hw=>by
  have hb:w.heap[b]? =some (.cells cs.toArray e (0,0)):=hw;exact zL (base:=0) ⟨hl, .inr ⟨b,n,_,rfl,Nat.zero_le _,hb,Nat.le_refl _,hn,by simp[hl],List.take_of_length_le (by simp[hl])⟩⟩) (λx hx=>by simpa[aE.cH,Value.ownBlock]using hx)
 exact this
theorem aeE{T n e sz bt:Nat}{parts:Array (Nat×Operand)}{z:AV G}{t:Ty}{xs:List (t.T G)}(hT:tt.te.find T=some (.sl e sz bt))(hz:zt.z.find e=some z)(hxs:elA t (fT C S []) 0 parts.toList=some xs)(hn:xs.length=n)(hsz:(t.L G).n=sz)(h0:0<n*sz)(hcap:n*sz<=16777216):
  SK P ⟨d, .buildSlice T n parts,ty,ps,af,g⟩ C S {S with O:=(S.nx, .row e sz t xs)::S.O,nx:=S.nx+1} (.row S.nx):=by
 intro c N ρ J HK X a w next Q h hk
 obtain⟨HS,h1,hs0,hm⟩:=h.st;have hE:=cQ h (ch:=[]) (by simp);obtain⟨vs,m1,m2,m3,m4,m5⟩:=acT hE hxs;obtain⟨u,z1,z2⟩:=zt.ok e z hz J ρ;haveI:jh P e u.cells.toList:=⟨z1⟩;haveI:=(tt.sl hT).1;subst hn;subst hsz;have hb0:((List.range (xs.length*(t.L G).n)).map λj=>u.cells.toList[j%u.cells.toList.length]!).length=xs.length*(t.L G).n:=by simp
 have Cv:=Mu (n:=xs.length) (sz:=(t.L G).n) (vs:=vs) (k:=0) m4 (by omega) hb0;rw[m3, ← m2]at Cv;have hcs:(((List.range (xs.length*(t.L G).n)).map λj=>u.cells.toList[j%u.cells.toList.length]!).take (0*(t.L G).n)++vs.flatMap (λv=>v.cells.toList)++((List.range (xs.length*(t.L G).n)).map λj=>u.cells.toList[j%u.cells.toList.length]!).drop ((0+xs.length)*(t.L G).n))=vs.flatMap (λv=>v.cells.toList):=by rw[List.drop_eq_nil_of_le (by rw[hb0,Nat.zero_add];exact Nat.le_refl _)];simp
 rw[hcs]at Cv;have hlen:(vs.flatMap (λv=>v.cells.toList)).length=xs.length*(t.L G).n:=(LA (t.L G) xs.length).len m5;have hi:((parts.toList.map (·.1)).all λi=>decide (i<xs.length))=true:=by rw[m2,List.all_eq_true];intro i hi;rw[List.mem_range'_1]at hi;simp;omega
 have hx1:xs.length<=9223372036854775807:=by
  have hpos:0<(t.L G).n:=by
   rcases Nat.eq_zero_or_pos (t.L G).n with q|q
   ·rw[q]at h0;omega
   ·exact q
  have:xs.length<=xs.length*(t.L G).n:=Nat.le_mul_of_pos_right _ hpos;omega
 have:=WM (P:=P) (N:=N) (c:=c) (d:=d) (ty:=ty) (ps:=ps) (af:=af) (g:=g) (F:=ng a) (H:=HS++(HK++X)) (t:=T) (n:=xs.length) m1 Cv hi h0 hcap a.defers a w next Q hs0 λb w' _ hs hp=>by have xw:=YT (n:=xs.length) hlen hx1 hp;obtain⟨ρ',q1,q2,q3⟩:=zK (t:=t) (zs:=xs) h h1 hs xw ⟨_,_,rfl⟩ m5 rfl;exact hk ρ' J [] w' _ q1 (λ_ h=>h) q2 q3
 simpa using this
end Go.Rw
namespace Go.Rw
open Go Go.Bw Go.RowKit
variable {G:Sg} {P:Program} {tt:TT P G} {J:World->Prop} {ρ:aY} {a:Act} {w:World} {d:Option Tmp} {ty:TypeId} {ps:String} {af:Array Edge} {g:Option (Nat×Bool)}
 {N:Nat} {c:Cx} {H:List aE} {D:List Deferred} {ob:Nat->Option (Ob G)} {E:Operand->Option (AV G)}
def TO(E:Operand->Option (AV G))(e:Ty)(xs:List (e.T G)):Option Operand->Option Operand->Option Operand->PV G
 |none,none,none=>some ([], .dat (.sl e) xs)
 |some l,none,none=>match mz (E l)with
  |some (_,i,_)=>some ([dg i (xs.length+1)], .dat (.sl e) (xs.drop i.toNat))
  |none=>none
 |none,some h,none=>match mz (E h)with
  |some (_,i,_)=>some ([dg i (xs.length+1)], .dat (.sl e) (xs.take i.toNat))
  |none=>none
 |some l,some h,none=>match mz (E l),mz (E h)with
  |some (_,i,_),some (_,j,_)=>some ([dg j (xs.length+1),dg i (j.toNat+1)], .dat (.sl e) ((xs.drop i.toNat).take (j.toNat-i.toNat)))
  |_,_ =>none
 |none,some h,some m=>match mz (E h),mz (E m)with
  |some (_,i,_),some (_,j,_)=>some ([i==(xs.length:Int),j==(xs.length:Int)], .dat (.sl e) xs)
  |_,_ =>none
 |_,_,_ =>none
def abE(tt:TT P G)(E:Operand->Option (AV G))(T:Nat)(x:Operand)(lo hi mx:Option Operand):PV G:=match E x,tt.te.find T with
 |some (.dat (.sl e) xs),some (.sl _ sz _)=>bif Nat.beq sz (e.L G).n then TO E e xs lo hi mx else none
 |some .jD,some (.sl _ _ _)=>match lo,hi,mx with
  |none,some h,none=>match mz (E h)with
   |some (_,i,q)=>some (VN q (i==0), .jD)
   |none=>none
  |_,_,_ =>none
 |_,_ =>none
theorem XW{w:World}{v:Value}{sz n:Nat}{xs:List Value}(h:Ro w v sz n xs):Ro w (xy v) sz n xs:=by
 obtain⟨h1,h2⟩:=h;refine⟨h1,?_⟩;rcases h2 with⟨⟨a,cp,rfl⟩,e⟩|⟨gb,off,cap,rfl,q1,q2,q3⟩
 ·exact .inl ⟨⟨a,0,by simp[xy,e]⟩,e⟩
 ·exact .inr ⟨gb,off,n,rfl,q1,Nat.le_refl _,q3⟩
theorem FB{e:Ty}{v:Value}{ws:List Value}{xs:List (e.T G)}(h:BF J v (e.L G) ws xs):wz (G:=G) J (.sl e) xs v:=by have hc:v.cells.toList=[v]:=h.sl.cells;exact⟨⟨v,ws,hc,h⟩,nofun,λ_ =>by rw[← hc]⟩
theorem jR{E:Operand->Option (AV G)}(hE:zD J ρ a E){x:Operand}{k:IntKind}{i:Int}{q:Bool}(h:mz (E x)=some (k,i,q)):Bw.ev (ng a) x=some (.int k i):=(u9 hE h).2
theorem TN(hm:OM (G:=G) J ρ N c D H ob a w)(hE:zD J ρ a E){T x0 sz b:Nat}{x:Operand}{lo hi mx:Option Operand}{e:Ty}{xs:List (e.T G)}{v:AV G}{gs:List Bool}{v0:Value}{ws:List Value}(ht:tt.te.find T=some (.sl x0 sz b))(hs:sz=(e.L G).n)(hf:BF J v0 (e.L G) ws xs)(fx:Bw.ev (ng a) x=some v0)
  (h:TO E e xs lo hi mx=some (gs,v))(hg:∀b∈gs,b=true):Bv P c J ρ ⟨d, .slice T x lo hi mx,ty,ps,af,g⟩ a w v:=by
 haveI:=(tt.sl ht).1;haveI:=hm.kn;haveI:=hf.at (c:=c) (H:=H);have cut:∀{l m:Nat} {ys:List (e.T G)},l<=m->m<=xs.length->ys=(xs.drop l).take (m-l)->wz (G:=G) J (.sl e) ys (nh l m sz v0):=λ{l m ys} h1 h2 h3=>by rw[h3];exact FB (BF.cut hf hs h1 h2)
 unfold TO at h;split at h
 ·cases h
  refine⟨v0,⟨v0,rfl,FB hf⟩,?_⟩;refine(aG (P:=P) (F:=ng a) (H:=H) (by simp) λa' w' UX hs' hp=>?_ :VS P N c _ _ _ _).vk hm.st;obtain⟨i,h1,h2,h3⟩:=se.get (tt.sl ht).1.ok;obtain⟨a0,cp,rfl⟩:=hf.sl;simp[execOp,aI UX fx,Instr.sliceAt,run_underlying h1,Instr.slice,Instr.sliceBounds,sizeOf,typeInfo,h2,h3,Addr.add]
 ·split at h
  ·rename_i k i q hl
   cases h;obtain⟨h1,h2⟩:=bW (hg (dg i (xs.length+1)) (by simp));have h2:=Nat.lt_succ_iff.1 h2;have fl:=jR hE hl;rw[h1]at fl;refine⟨_,⟨_,rfl,cut h2 (Nat.le_refl _) ?_⟩,(D5 i.toNat fx fl h2).vk hm.st⟩;rw[List.take_of_length_le (by simp)]
  ·cases h
 ·split at h
  ·rename_i k i q hl
   cases h;obtain⟨h1,h2⟩:=bW (hg (dg i (xs.length+1)) (by simp));have h2:=Nat.lt_succ_iff.1 h2;have fl:=jR hE hl;rw[h1]at fl;refine⟨_,⟨_,rfl,cut (Nat.zero_le _) h2 ?_⟩,(JI i.toNat fx fl h2).vk hm.st⟩;rw[List.drop_zero,Nat.sub_zero]
  ·cases h
 ·split at h
  ·rename_i k i q k' j q' hl hh
   cases h;obtain⟨h1,h2⟩:=bW (hg (dg j (xs.length+1)) (by simp));obtain⟨h3,h4⟩:=bW (hg (dg i (j.toNat+1)) (by simp));have h2:=Nat.lt_succ_iff.1 h2;have h4:=Nat.lt_succ_iff.1 h4;have fl:=jR hE hl;have fh:=jR hE hh;rw[h3]at fl;rw[h1]at fh;exact⟨_,⟨_,rfl,cut h4 h2 rfl⟩,(ady i.toNat j.toNat fx fl fh h4 h2).vk hm.st⟩
  ·cases h
 ·split at h
  ·rename_i k i q k' j q' hl hh
   cases h;have h1:i=(xs.length:Int):=by simpa using hg (i==(xs.length:Int)) (by simp)
   have h2:j=(xs.length:Int):=by simpa using hg (j==(xs.length:Int)) (by simp)
   have fl:=jR hE hl;have fh:=jR hE hh;rw[h1]at fl;rw[h2]at fh;refine⟨xy v0,⟨_,rfl,FB (ws:=ws) ⟨hf.sl.ain,hf.eI,λw hw=>XW (hf.ro w hw)⟩⟩,(Qs fx fl fh).vk hm.st⟩
  ·cases h
 ·cases h
theorem X5(hm:OM (G:=G) J ρ N c D H ob a w)(hE:zD J ρ a E){T:Nat}{x:Operand}{lo hi mx:Option Operand}{v:AV G}{gs:List Bool}(h:abE tt E T x lo hi mx=some (gs,v))(hg:∀b∈gs,b=true):Bv P c J ρ ⟨d, .slice T x lo hi mx,ty,ps,af,g⟩ a w v:=by
 unfold abE at h;split at h
 ·rename_i e xs x0 sz b hx ht
  cases hb:Nat.beq sz (e.L G).n with
  |false=>rw[hb]at h;cases h
  |true=>rw[hb]at h;obtain⟨u',e1,hr,_,hc⟩:=hE.ok _ _ hx;have fx:=hE.ev _ _ hx;cases e1;obtain⟨v',ws,e2,hf⟩:=hr;rw[hc rfl]at e2;cases e2;exact TN hm hE ht (aiO hb) hf fx h hg
 ·rename_i x0 sz b hx ht
  split at h
  ·split at h
   ·rename_i k i q hl
    cases h;have h1:i=0:=by simpa using CM hg
    have fl:=jR hE hl;have fx:=hE.ev _ _ hx;have e0:[a.eval x]=[.slice none 0 0]:=hE.ok _ _ hx;rw[(List.cons.inj e0).1]at fx;rw[h1]at fl;haveI:=(tt.sl ht).1;exact⟨_,rfl,(JH fx fl).vk hm.st⟩
   ·cases h
  ·cases h
 ·cases h
theorem abk{C:CC G}{S:AS G}{T r e sz bt:Nat}{x hi:Operand}{t:Ty}{xs:List (t.T G)}{k:IntKind}{i:Int}{q:Bool}(hT:tt.te.find T=some (.sl e sz bt))(hx:fT C S [] x=some (.row r))(ho:cU S.O r=some (.row e sz t xs))(hh:mz (fT C S [] hi)=some (k,i,q))(hg:dg i (xs.length+1)=true):
  SK P ⟨d, .slice T x none (some hi) none,ty,ps,af,g⟩ C S {S with O:=(S.nx, .row e sz t (xs.take i.toNat))::wM S.O r,nx:=S.nx+1} (.row S.nx):=by
 intro c N ρ J HK X a w next Q h hk
 obtain⟨HS,h1,hs0,hm⟩:=h.st;have hE:=cQ h (ch:=[]) (by simp);obtain⟨kk,x0,k1,⟨vv,ws,m1,rfl,m3,m4,m5⟩,k3⟩:=h1.Zt ho;have UJ:=rS (hE.ok _ _ hx) m1;have sB:=hE.ev _ _ hx;rw[UJ]at sB;obtain⟨g1,g2⟩:=bW hg;have g2:=Nat.lt_succ_iff.1 g2;have fl:=jR hE hh;rw[g1]at fl;haveI:=(tt.sl hT).1;have KL:aE.row vv e sz xs.length ws∈HS++(HK++X):=aiT _ (List.mem_of_getElem? k1);haveI:pA c (HS++(HK++X)) vv sz xs.length ws:=⟨λw' _ hp'=>Ro.uT (hp'.holds _ KL)⟩;refine(JI (P:=P) (c:=c) (F:=ng a) (H:=HS++(HK++X)) i.toNat sB fl g2) a.defers a w next Q hs0 λw' hs=>?_
 obtain⟨HS2,q1,q3⟩:=h.hp;have hlen:(xs.take i.toNat).length=i.toNat:=by rw[List.length_take];omega
 have xw:bC c.bs c.w0.heap.size (.row (nh 0 i.toNat sz vv) e sz (xs.take i.toNat).length (ws.take (i.toNat*sz))::(HS.eraseIdx kk++(HK++X))) w':=by
  have p1:=(hs0.hp.ext hs).jL (oT k1 _);have:=p1.Ad (k:=0) (r':= .row (nh 0 i.toNat sz vv) e sz (xs.take i.toNat).length (ws.take (i.toNat*sz))) rfl (λw hw=>by
   rw[hlen];exact QS hw g2) (λb hb=>by simpa[aE.cH,MB]using hb)
  exact this
 have ach:(LA (t.L G) (xs.take i.toNat).length).eI J (ws.take (i.toNat*sz)) (λj=>(xs.take i.toNat).getD j default):=by have hc:=ON (Nat.zero_le i.toNat) g2 m4;subst m5;simp only[List.drop_zero,Nat.sub_zero,Nat.zero_mul]at hc;exact hc
 obtain⟨ρ',q1,q2,q3⟩:=zK h k3 (h.si.s.ext hs) xw (by rw[hlen];exact aac m3) ach m5;exact hk ρ' J [] w' _ q1 (λ_ h=>h) q2 q3
theorem Tq{C:CC G}{S:AS G}{T r e sz bt:Nat}{x lo:Operand}{t:Ty}{xs:List (t.T G)}{k:IntKind}{i:Int}{q:Bool}(hT:tt.te.find T=some (.sl e sz bt))(hx:fT C S [] x=some (.row r))(ho:cU S.O r=some (.row e sz t xs))(hh:mz (fT C S [] lo)=some (k,i,q))(hg:dg i (xs.length+1)=true):
  SK P ⟨d, .slice T x (some lo) none none,ty,ps,af,g⟩ C S {S with O:=(S.nx, .row e sz t (xs.drop i.toNat))::wM S.O r,nx:=S.nx+1} (.row S.nx):=by
 intro c N ρ J HK X a w next Q h hk
 obtain⟨HS,h1,hs0,hm⟩:=h.st;have hE:=cQ h (ch:=[]) (by simp);obtain⟨kk,x0,k1,⟨vv,ws,m1,rfl,m3,m4,m5⟩,k3⟩:=h1.Zt ho;have UJ:=rS (hE.ok _ _ hx) m1;have sB:=hE.ev _ _ hx;rw[UJ]at sB;obtain⟨g1,g2⟩:=bW hg;have g2:=Nat.lt_succ_iff.1 g2;have fl:=jR hE hh;rw[g1]at fl;haveI:=(tt.sl hT).1;have KL:aE.row vv e sz xs.length ws∈HS++(HK++X):=aiT _ (List.mem_of_getElem? k1);haveI:pA c (HS++(HK++X)) vv sz xs.length ws:=⟨λw' _ hp'=>Ro.uT (hp'.holds _ KL)⟩;refine(D5 (P:=P) (c:=c) (F:=ng a) (H:=HS++(HK++X)) i.toNat sB fl g2) a.defers a w next Q hs0 λw' hs=>?_
 obtain⟨HS2,q1,q3⟩:=h.hp;have hlen:(xs.drop i.toNat).length=xs.length-i.toNat:=by rw[List.length_drop]
 have xw:bC c.bs c.w0.heap.size (.row (nh i.toNat xs.length sz vv) e sz (xs.drop i.toNat).length (ws.drop (i.toNat*sz))::(HS.eraseIdx kk++(HK++X))) w':=by
  have p1:=(hs0.hp.ext hs).jL (oT k1 _);have:=p1.Ad (k:=0) (r':= .row (nh i.toNat xs.length sz vv) e sz (xs.drop i.toNat).length (ws.drop (i.toNat*sz))) rfl (λw hw=>by
   rw[hlen];exact QO hw g2) (λb hb=>by simpa[aE.cH,MB]using hb)
  exact this
 have ach:(LA (t.L G) (xs.drop i.toNat).length).eI J (ws.drop (i.toNat*sz)) (λj=>(xs.drop i.toNat).getD j default):=by have hc:=ON g2 (Nat.le_refl _) m4;subst m5;have hw:ws.length=xs.length*(t.L G).n:=(LA (t.L G) xs.length).len m4;rw[List.take_of_length_le (by simp),List.take_of_length_le (by rw[List.length_drop,hw,Nat.sub_mul];exact Nat.le_refl _)]at hc;exact hc
 have hsl:su (nh i.toNat xs.length sz vv) (xs.drop i.toNat).length:=by rw[hlen];obtain⟨a0,cp,rfl⟩:=m3;exact⟨_,_,rfl⟩
 obtain⟨ρ',q1,q2,q3⟩:=zK h k3 (h.si.s.ext hs) xw hsl ach m5;exact hk ρ' J [] w' _ q1 (λ_ h=>h) q2 q3
end Go.Rw
namespace Go.Bw
open Go
universe u
theorem rf{α:Sort u}{a:α}:a=a:=rfl
abbrev A(c:List Value):Value:= .agg c.toArray
abbrev Vs:=List Value
class agt(P:Program)(t:TypeId):Prop where
 ok:P.underlying t=some .string
def look{α:Type}:List (Nat×α)->Nat->Option α
 |[],_ =>none
 |(k,v)::r,d=>bif Nat.beq k d then some v else look r d
def ikn:IntKind->Nat
 | .i8=>0| .i16=>1| .i32=>2| .i64=>3| .u8=>4| .u16=>5| .u32=>6| .u64=>7
def FF(k l:IntKind):Bool:=Nat.beq (ikn k) (ikn l)
theorem yS{k l:IntKind}(h:FF k l=true):k=l:=by cases k<;>cases l<;>first|rfl|(exact absurd h (by decide))
structure Tb where
 fl:List (Nat×List (Nat×Nat))
 ik:List (Nat×IntKind)
def VD(P:Program)(T:Tb):Bool:=
 (T.fl.all λp=>p.2.all λq=>Hq P p.1 q.1 q.2)&&T.ik.all λp=>match P.underlying p.1 with|some (.int k)=>FF k p.2|_ =>false
class MV(P:Program)(T:outParam Tb):Prop where
 ok:VD P T=true
theorem GD{α:Type}:∀{l:List (Nat×α)} {d:Nat} {v:α},look l d=some v->(d,v)∈l:=by
 intro l
 induction l with
 |nil=>intro d v h;cases h
 |cons p r ih=>
  intro d v h;obtain⟨k,u⟩:=p;simp only[look]at h;by_cases e:k=d
  ·subst e;rw[Nat.beq_refl]at h;simp at h;subst h;simp
  ·rw[tM e]at h;simp at h;exact aiY _ (ih h)
def Tb.off(T:Tb)(s f:Nat):Option Nat:=match look T.fl s with
 |some l=>look l f
 |none=>none
def Tb.int(T:Tb)(t:Nat):Option IntKind:=look T.ik t
theorem MV.C6{P:Program}{T:Tb}(h:MV P T){s f o:Nat}(e:T.off s f=some o):Ff P s f o:=by
 have h:=h.ok;unfold VD at h;rw[aiP]at h;unfold Tb.off at e;split at e
 ·rename_i l h1
  exact⟨List.all_eq_true.1 (List.all_eq_true.1 h.1 _ (GD h1)) _ (GD e)⟩
 ·cases e
theorem MV.ty{P:Program}{T:Tb}(h:MV P T){t:Nat}{k:IntKind}(e:T.int t=some k):Ww P t k:=by
 have h:=h.ok;unfold VD at h;rw[aiP]at h;have h2:=List.all_eq_true.1 h.2 _ (GD e);dsimp only at h2;split at h2
 ·rename_i k' e2
  rw[yS h2]at e2;exact⟨e2⟩
 ·cases h2
def aeF(o:BinOp)(k:IntKind)(a b:Int):Option Value:=match o with
 | .add=>some (.int k (k.wrap (a+b)))
 | .sub=>some (.int k (k.wrap (a-b)))
 | .mul=>some (.int k (k.wrap (a*b)))
 | .eql=>some (.bool (a==b))
 | .neq=>some (.bool (a !=b))
 | .lss=>some (.bool (decide (a<b)))
 | .leq=>some (.bool (decide (a<=b)))
 | .gtr=>some (.bool (decide (b<a)))
 | .geq=>some (.bool (decide (b<=a)))
 |_ =>none
def sv(T:Tb)(F:eu):Op->Option Value
 | .move x=>ev F x
 | .assign x=>ev F x
 | .nilCheck x=>match ev F x with
  |some (.pointer (some a))=>some (.pointer (some a))
  |_ =>none
 | .unOp .not _ x=>match ev F x with
  |some (.bool b)=>some (.bool (!b))
  |_ =>none
 | .unOp .neg _ x=>match ev F x with
  |some (.int k a)=>some (.int k (k.wrap (0-a)))
  |_ =>none
 | .binOp o _ x y _ =>match ev F x with
  |some (.int k a)=>match ev F y with
   |some (.int l b)=>bif FF k l then aeF o k a b else none
   |_ =>none
  |_ =>none
 | .convert S t x=>match ev F x with
  |some (.int k a)=>match T.int S with
   |some l=>bif FF l k then(match T.int t with
    |some k'=>some (.int k' (k'.wrap a))
    |none=>none)else none
   |none=>none
  |_ =>none
 | .extract x i=>match ev F x with
  |some (.tuple vs)=>vs.toList[i]?
  |_ =>none
 | .fieldAddr s x f=>match ev F x with
  |some (.pointer (some ⟨b,off,none⟩))=>match T.off s f with
   |some fo=>some (dB b (off+fo))
   |none=>none
  |_ =>none
 | .makeFunc fn first cap=>match first.toList with
  |[]=>match C7 F cap.toList with
   |some vs=>some (.func fn #[] vs.toArray)
   |none=>none
  |_ =>none
 |_ =>none
theorem S8{P:Program}{T:Tb}[hT:MV P T]{N:Nat}{c:Cx}{F:eu}{H:List aE}{op:Op}{v:Value}{d:Option Tmp}{ty:TypeId}{ps:String}{af:Array Edge}{g:Option (Nat×Bool)}
  (h:sv T F op=some v):VS P N c ⟨d,op,ty,ps,af,g⟩ F H v:=by
 unfold sv at h;split at h
 ·exact cy h
 ·exact sE h
 ·split at h
  ·rename_i a e;obtain rfl:=Option.some.inj h;exact zh e
  ·cases h
 ·split at h
  ·rename_i b e;obtain rfl:=Option.some.inj h;exact D3 e
  ·cases h
 ·split at h
  ·rename_i e;obtain rfl:=Option.some.inj h;exact Wo e rfl
  ·cases h
 ·split at h
  ·rename_i o _ x y _ k a e
   split at h
   ·rename_i l b e2
    cases hb:FF k l with
    |false=>rw[hb]at h;cases h
    |true=>
     rw[hb]at h;obtain rfl:=yS hb;simp only[cond_true]at h;unfold aeF at h;split at h
     ·obtain rfl:=Option.some.inj h;exact adz e e2 rfl
     ·obtain rfl:=Option.some.inj h;exact Wj e e2 rfl
     ·obtain rfl:=Option.some.inj h;exact adp e e2 rfl
     ·obtain rfl:=Option.some.inj h;exact adx e e2
     ·obtain rfl:=Option.some.inj h;exact ado e e2
     ·obtain rfl:=Option.some.inj h;exact adt e e2
     ·obtain rfl:=Option.some.inj h;exact adu e e2
     ·obtain rfl:=Option.some.inj h;exact Wq e e2
     ·obtain rfl:=Option.some.inj h;exact OH e e2
     ·cases h
   ·cases h
  ·cases h
 ·split at h
  ·rename_i S t x k a e
   split at h
   ·rename_i l e1
    cases hb:FF l k with
    |false=>rw[hb]at h;cases h
    |true=>
     rw[hb]at h;obtain rfl:=yS hb;simp only[cond_true]at h;split at h
     ·rename_i k' e2
      obtain rfl:=Option.some.inj h;haveI:=hT.ty e1;haveI:=hT.ty e2;exact Qr e rfl
     ·cases h
   ·cases h
  ·cases h
 ·split at h
  ·rename_i vs e
   exact p7 (vs:=vs.toList) e h
  ·cases h
 ·split at h
  ·rename_i e
   split at h
   ·rename_i fo e1
    obtain rfl:=Option.some.inj h;haveI:=hT.C6 e1;exact CO e
   ·cases h
  ·cases h
 ·rename_i fn first cap
  split at h
  ·rename_i e
   split at h
   ·rename_i e1
    obtain rfl:=Option.some.inj h;obtain⟨l⟩:=first
    obtain rfl:l=[]:=e;exact qJ (cap:=cap.toList) e1
   ·cases h
  ·cases h
 ·cases h
inductive Kf where
 |th (y:Code)
 |tk (K:Act->World->Prop)
 |bl (id:Nat)
def dq(P:Program)(ro:Option Nat)(Q:Exit->Act->World->Prop):List Kf->Exit->Act->World->Prop
 |[]=>Q
 | .th y::ks=>Exit.then (y.wpIn (FA ro) 0 P (dq P ro Q ks)) (dq P ro Q ks)
 | .tk K::ks=>Exit.then K (dq P ro Q ks)
 | .bl id::ks=>Exit.inBlock id (dq P ro Q ks)
inductive Cf where
 |C (x:Code)
 |L (ops:Array Oper) (l:List Oper)
 |X (e:Exit)
def GG(P:Program)(N:Nat)(c:Cx)(D:List Deferred)(Q:Exit->Act->World->Prop)(ks:List Kf)(F:eu)(H:List aE):Cf->Prop
 | .C x=>WP P N c D x (dq P c.ro Q ks) F H
 | .L ops l=>WL P N c D ops (dq P c.ro Q ks) l F H
 | .X e=>WQ N c D (dq P c.ro Q ks) e F H
def s1(T:Tb)(N:Nat):Cf->List Kf->eu->Option (Cf×List Kf×eu)
 | .C x,ks,F=>match x with
  | .seq x y=>some (.C x, .th y::ks,F)
  | .block id x=>some (.C x, .bl id::ks,F)
  | .region _ ops false=>some (.L ops ops.toList,ks,F)
  | .skip=>some (.X .normal,ks,F)
  | .label _ =>some (.X .normal,ks,F)
  | .ret=>some (.X .ret,ks,F)
  | .exit id=>some (.X (.exit id),ks,F)
  |_ =>none
 | .L ops l,ks,F=>match l with
  |[]=>some (.X .normal,ks,F)
  |⟨some d,op,_,_,_,none⟩::r=>match sv T F op with
   |some v=>bif Nat.blt d N then some (.L ops r,ks,(d,v)::F)else none
   |none=>none
  |_ =>none
 | .X e,ks,F=>match e,ks with
  | .normal, .th y::ks=>some (.C y,ks,F)
  | .normal, .bl _ ::ks=>some (.X .normal,ks,F)
  | .ret, .th _ ::ks=>some (.X .ret,ks,F)
  | .ret, .tk _ ::ks=>some (.X .ret,ks,F)
  | .ret, .bl _ ::ks=>some (.X .ret,ks,F)
  | .exit i, .th _ ::ks=>some (.X (.exit i),ks,F)
  | .exit i, .tk _ ::ks=>some (.X (.exit i),ks,F)
  | .exit i, .bl k::ks=>bif Nat.beq i k then some (.X .normal,ks,F)else some (.X (.exit i),ks,F)
  |_,_ =>none
def sp(T:Tb)(N:Nat):Nat->Cf->List Kf->eu->Option (Cf×List Kf×eu)
 |0,cf,ks,F=>some (cf,ks,F)
 |n+1,cf,ks,F=>match s1 T N cf ks F with
  |some (cf,ks,F)=>sp T N n cf ks F
  |none=>none
section
variable {P:Program} {T:Tb} [hT:MV P T] {N:Nat} {c:Cx} {D:List Deferred} {Q:Exit->Act->World->Prop} {ks ks':List Kf} {F F':eu} {H:List aE} {cf Xm:Cf}
theorem aeL(h:s1 T N cf ks F=some (Xm,ks',F'))(g:GG P N c D Q ks' F' H Xm):GG P N c D Q ks F H cf:=by
 unfold s1 at h;split at h
 ·split at h
  all_goals first
   |(cases h;done)
   |skip
  ·cases h;exact wS g
  ·cases h;exact Wi g
  ·cases h;exactλa w hst=>wpIn_region_lit (l:=Array.toList _) (g a w hst)
  ·cases h;exact FR g
  ·cases h;exact Wg g
  ·cases h;exact adh g
  ·cases h;exact ZW g
 ·split at h
  ·cases h;exact wT g
  ·split at h
   ·rename_i d op _ _ _ _ _ v hv
    cases hd:Nat.blt d N with
    |false=>rw[hd]at h;cases h
    |true=>rw[hd]at h;cases h;exact bT hd (S8 hv) g
   ·cases h
  ·cases h
 ·split at h
  ·cases h;exact r7 g
  ·cases h;exact Wa g
  ·cases h;exact EH g
  ·cases h;exact EH g
  ·cases h;exact K8 g
  ·cases h;exact CN g
  ·cases h;exact CN g
  ·rename_i i k ks
   cases hb:Nat.beq i k with
   |true=>rw[hb]at h;cases h;obtain rfl:=aiO hb;exact IF g
   |false=>rw[hb]at h;cases h;exact IE hb g
  ·cases h
theorem OZ:∀{n:Nat} {cf:Cf} {ks:List Kf} {F:eu},sp T N n cf ks F=some (Xm,ks',F')->GG P N c D Q ks' F' H Xm->GG P N c D Q ks F H cf
 |0,_,_,_,h,g=>by cases h;exact g
 |n+1,_,_,_,h,g=>by
  simp only[sp]at h;split at h
  ·rename_i e;exact aeL e (OZ h g)
  ·cases h
class QF(P:Program)(ro:Option Nat)(Q:Exit->Act->World->Prop)(ks:outParam (List Kf))(Q0:outParam (Exit->Act->World->Prop)):Prop where
 ok:Q=dq P ro Q0 ks
instance(priority:=100) aiw(P ro Q ks):QF P ro (dq P ro Q ks) ks Q:=⟨rfl⟩
instance(priority:=50) aiv(P ro K Q ks Q0)[h:QF P ro Q ks Q0]:QF P ro (Exit.then K Q) (.tk K::ks) Q0:=⟨by rw[h.ok];rfl⟩
instance(priority:=10) aiq(P ro Q):QF P ro Q [] Q:=⟨rfl⟩
theorem SC{x:Code}{Q0:Exit->Act->World->Prop}[q:QF P c.ro Q ks Q0](n:Nat)(h:sp T N n (.C x) ks F=some (Xm,ks',F'))(g:GG P N c D Q0 ks' F' H Xm):WP P N c D x Q F H:=by have:=OZ (H:=H) (D:=D) h g;rw[q.ok];exact this
theorem SL{ops:Array Oper}{l:List Oper}{Q0:Exit->Act->World->Prop}[q:QF P c.ro Q ks Q0](n:Nat)(h:sp T N n (.L ops l) ks F=some (Xm,ks',F'))(g:GG P N c D Q0 ks' F' H Xm):WL P N c D ops Q l F H:=by have:=OZ (H:=H) (D:=D) h g;rw[q.ok];exact this
class QX(Q:Exit->Act->World->Prop)(ro:Option Nat)(P:outParam Program)(ks:outParam (List Kf))(Q0:outParam (Exit->Act->World->Prop)):Prop where
 ok:Q=dq P ro Q0 ks
instance(priority:=100) aiu(P ro Q ks):QX (dq P ro Q ks) ro P ks Q:=⟨rfl⟩
theorem SX{e:Exit}{Q0:Exit->Act->World->Prop}[q:QX Q c.ro P ks Q0](n:Nat)(h:sp T N n (.X e) ks F=some (Xm,ks',F'))(g:GG P N c D Q0 ks' F' H Xm):WQ N c D Q e F H:=by have:=OZ (P:=P) (H:=H) (D:=D) h g;rw[q.ok];exact this
end
theorem ZY{P:Program}{N:Nat}{c:Cx}{F:eu}{H:List aE}{d:Option Tmp}{ty:TypeId}{ps:String}{af:Array Edge}{g:Option (Nat×Bool)}{T:TypeId}{y:Operand}{s:ByteArray}{k:IntKind}{i:Int}{m:Nat}(hs:s=Lib.pop8tab)(hy:ev F y=some (.int k i))(hi:i=(m:Int))(hm:m<256)[hT:agt P T]:
  VS P N c ⟨d, .index T (.const (.string s)) y,ty,ps,af,g⟩ F H (.int .u8 (Lib.pop8 i)):=
 aG (by simp) λa w hf _ _ =>by subst hs;have e1:a.eval (.const (.string Lib.pop8tab))= .string Lib.pop8tab:=rfl;have:=Lib.run_index_pop8tab (P:=P) w T k i hT.ok (by omega) (by omega);simp only[execOp,e1,aI hf hy];simp[this]
theorem sj{α:Type}{a b:α}(h:some a=some b):a=b:=Option.some.inj h
theorem mo{α:Type}{L:cP α}{A B:World->Prop}{cs:Vs}{x:α}[Ent B A](h:L.eI A cs x):L.eI B cs x:=cP.mono _ ent h
theorem fl{α:Type}{L:cP α}[bg L]{J:World->Prop}{x:α}:L.eI J (L.enc x) x:=bg.iff.2 rfl
def Gu:List Nat->Bool
 |[]=>true
 |k::r=> !(r.any (Nat.beq k))&&Gu r
theorem Jj:∀{l:List Nat},Gu l=true->l.Nodup
 |[],_ => .nil
 |k::r,h=>by simp only[Gu,aiP,Bool.not_eq_true']at h;refine List.nodup_cons.2 ⟨λhm=>?_,Jj h.2⟩;have:=List.any_eq_false.1 h.1 k hm;rw[Nat.beq_refl]at this;exact this rfl
def Jg(H:List aE)(ks:List Nat):Option (List aE):=bif Gu ks then pick H ks else none
theorem tq{H R:List aE}{ks:List Nat}(h:Jg H ks=some R):pick H ks=some R/\ks.Nodup:=by
 unfold Jg at h;cases hb:Gu ks with
 |true=>rw[hb]at h;exact⟨h,Jj hb⟩
 |false=>rw[hb]at h;cases h
def QG(F:eu):eu->Option eu
 |[]=>some []
 |(k,_)::r=>match lk F k with
  |some v=>match QG F r with
   |some l=>some ((k,v)::l)
   |none=>none
  |none=>none
theorem Fx{F:eu}:∀{I:eu},QG F I=some I->Sub I F
 |[],_ =>trivial
 |(k,u)::r,h=>by
  simp only[QG]at h;split at h
  ·rename_i v hv
   split at h
   ·rename_i l hl
    simp only[Option.some.injEq,List.cons.injEq,Prod.mk.injEq,true_and]at h;obtain⟨h1,h2⟩:=h;subst h1;subst h2;exact⟨hv,Fx hl⟩
   ·cases h
  ·cases h
def GK(F:eu):List Nat->Option eu
 |[]=>some []
 |k::r=>match lk F k with
  |some v=>match GK F r with
   |some l=>some ((k,v)::l)
   |none=>none
  |none=>none
theorem yQ{F:eu}:∀{sl:List Nat} {K:eu},GK F sl=some K->IQ F sl K
 |[],K,h=>by obtain rfl:=Option.some.inj h;exact .nil
 |k::r,K,h=>by
  simp only[GK]at h;split at h
  ·rename_i v hv
   split at h
   ·rename_i l hl
    obtain rfl:=Option.some.inj h;exact .cons hv (yQ hl)
   ·cases h
  ·cases h
section
variable {P:Program} {N:Nat} {c:Cx} {D:List Deferred} {Q:Exit->Act->World->Prop} {F:eu} {H:List aE} {d:Tmp} {op:Op} {ty:TypeId} {ps:String} {af:Array Edge} {g:Option (Nat×Bool)} {ops:Array Oper} {rest:List Oper} {α β:Type}
theorem W0{H':List aE}(h:RX (α:=Unit) P N c ⟨none,op,ty,ps,af,none⟩ F H (λ_ =>True) (λ_ =>undef) (λ_ =>H'))(k:WL P N c D ops Q rest F H'):WL P N c D ops Q (⟨none,op,ty,ps,af,none⟩::rest) F H:=HG h λ_ _ =>k
theorem W1{fv:α->Value}{fH:α->List aE}(hd:Nat.blt d N=true)(h:RX P N c ⟨some d,op,ty,ps,af,none⟩ F H (λ_ =>True) fv fH)(k:∀x,WL P N c D ops Q rest ((d,fv x)::F) (fH x)):WL P N c D ops Q (⟨some d,op,ty,ps,af,none⟩::rest) F H:=xQ hd h λx _ =>k x
theorem CV{args:List Operand}{ats:Array TypeId}{f:Nat}{vs:List Value}{v:Value}{pre:World->Prop}(hc:FnW P f vs pre v)(hd:Nat.blt d N=true)(ha:C7 F args=some vs)[q:Kn c H pre](k:WL P N c D ops Q rest ((d,v)::F) H):
  WL P N c D ops Q (⟨some d, .call ⟨.value (.func f),args.toArray,ats⟩,ty,ps,af,none⟩::rest) F H:=bT hd (Lf hc ha q.ok) k
theorem MZ{ρ:Type}{m1 m2:Option ρ}{r:ρ}{x:Operand}{y z:Code}{t:Bool}(h:cn t m1 m2=some r)(hc:ev F x=some (.bool t))(h1:t=true->m1=some r->WP P N c D y Q F H)(h0:t=false->m2=some r->WP P N c D z Q F H):WP P N c D (.cond x y z) Q F H:=
 JD hc (λe=>h1 e (Ot e h)) (λe=>h0 e (Ou e h))
structure agu(n o:Nat)(cs vs cc:Vs):Prop where
 eq:bN cs o vs=cc
 lv:vs.length=n
 le:o+n<=cs.length
 one:oy vs
theorem sto{L:cP α}{M:cP β}{o:Nat}{gg:α->β}{s:α->β->α}{cs vs:Vs}{x x':α}{v:β}{C:World->Prop}(p:aX L M o gg s)(r:L.eI C cs x)(rv:M.eI C vs v)(e:x'=s x v):∃cc,agu M.n o cs vs cc/\L.eI C cc x':=by subst e;exact⟨_,⟨rfl,M.len rv,by rw[L.len r];exact p.le,M.one rv⟩,p.set r rv⟩
theorem RXs{o n m b t T:Nat}{y z:Operand}{val:Value}{cs cs' vs:Vs}{H':List aE}{d:Option Tmp}(q:agu n o cs vs cs')(hx:ev F y=some (dB b o))(hz:ev F z=some val)(hv:val.cells.toList=vs)[rm H b T cs][RT P t m](hn:n=m)[Fg H b cs' H']:
  RX (α:=Unit) P N c ⟨d, .store t y z,ty,ps,af,g⟩ F H (λ_ =>True) (λ_ =>undef) (λ_ =>H'):=by subst hn;exact tP hx hz hv q.lv q.le q.one q.eq
theorem rn:vg P F H [] []:= .nil
theorem rt{t:Nat}{v:Value}{rs:List ResultVar}{vs:Vs}(hv:lk F t=some v)(h:vg P F H rs vs):vg P F H (.tmp t::rs) (v::vs):= .tmp hv h
theorem ra{t ty b T n:Nat}{cs:Vs}{rs:List ResultVar}{vs:Vs}(hv:lk F t=some (dB b 0))[hr:rm H b T cs][ht:tY P ty n](hl:cs.length=n)(h:vg P F H rs vs):vg P F H (.cell t ty::rs) (.agg cs.toArray::vs):= .agg hv hr ht hl h
theorem ro{t ty b T:Nat}{v:Value}{cs:Vs}{rs:List ResultVar}{vs:Vs}(hv:lk F t=some (dB b 0))[hr:rm H b T cs][ht:p8 P ty](hl:cs=[v])(h:vg P F H rs vs):vg P F H (.cell t ty::rs) (v::vs):= .one hv hr ht hl h
theorem RV{fn:Func}{rs:List ResultVar}{vs:Vs}{v:Value}(hf:fn.results.toList=rs)(hr:vg P F H rs vs)(hv:Ba vs=v):WQ N c [] (Post P c fn (λ_ :Unit=>True) (λ_ =>v) (λ_ =>[])) .ret F H:=ve () hf hr trivial hv (ks:=[]) rfl .nil
theorem RBu{fn:Func}{rs:List ResultVar}{vs:Vs}{R:List aE}{p:Value×List Nat×(World->Prop)->Prop}(ks:List Nat)(hk:Jg H ks=some R)(hf:fn.results.toList=rs)(hr:vg P F H rs vs)(hp:p (Ba vs,bz R,Hs R)):
  WQ N c [] (Post P c fn p (λx=>x.1) (λx=>[.ext x.2.1 x.2.2])) .ret F H:=λa w hst=>by
 show LeavesInM (FA none) 0 P fn a.tmps _ a.defers .returning w;rw[hst.df];obtain⟨h1,h2⟩:=tq hk;exact⟨_,En hf hst.fr hst.hp hr,(Ba vs,bz R,Hs R),hp,rfl,hst.si,VI (H':=[]) (by rw[List.append_nil];exact hst.hp.pick h1 h2)⟩
theorem LO{x:Code}(sl ks:List Nat)(I:Nat×β->eu)(J:Nat×β->List aE)(p:Nat×β->Prop)(i0:Nat×β)(N5:p i0){K:eu}(hK:GK F sl=some K)(hs:QG F (I i0)=some (I i0))(hk:Jg H ks=some (J i0))
  (hb:∀m y,p (m,y)->WP P N c D x (Qw N c D Q sl K I J p (λz=>z.1) (m,y)) (I (m,y)++K) (J (m,y))):WP P N c D (.loop x) Q F H:=
 Wb sl (yQ hK) I J p (λz=>z.1) i0 N5 (Fx hs) (tq hk).1 (tq hk).2 λi hi=>hb i.1 i.2 hi
theorem LN{K:eu}{sl:List Nat}{I:Nat×β->eu}{J:Nat×β->List aE}{p:Nat×β->Prop}{m:Nat}{y0:β}(ks:List Nat)(y:β)(hp:p (m,y))(hs:QG F (I (m,y))=some (I (m,y)))(hl:GK F sl=some K)(hk:Jg H ks=some (J (m,y))):
  WQ N c D (Qw N c D Q sl K I J p (λz=>z.1) (m+1,y0)) .normal F H:=V8 (m,y) (Nat.lt_succ_self _) hp (Fx hs) (yQ hl) (tq hk).1 (tq hk).2
theorem CU{x y:Code}(sl:List Nat){K:eu}(hK:GK F sl=some K)(I:α->eu)(J:α->List aE)(p:α->Prop)(h1:WP P N c D x (aai N c D Q sl K I J p) F H)(h2:∀i,p i->WP P N c D y Q (I i++K) (J i)):WP P N c D (.seq x y) Q F H:=ZX sl (yQ hK) I J p h1 h2
theorem CE{K:eu}{sl:List Nat}{I:α->eu}{J:α->List aE}{p:α->Prop}(ks:List Nat)(i:α)(hp:p i)(hs:QG F (I i)=some (I i))(hl:GK F sl=some K)(hk:Jg H ks=some (J i)):WQ N c D (aai N c D Q sl K I J p) .normal F H:=ZS i hp (Fx hs) (yQ hl) (tq hk).1 (tq hk).2
end
def sn(T:Tb)(N:Nat)(ops:Array Oper):Nat->List Fl->eu->Option (List Fl×eu)
 |0,l,F=>some (l,F)
 |n+1,l,F=>match l with
  |(i,ks)::r=>match ops[i]? with
   |some ⟨some d,op,_,_,_,none⟩=>match sv T (qX F ks) op with
    |some v=>bif Nat.blt d N then sn T N ops n r ((d,v)::F)else none
    |none=>none
   |_ =>none
  |[]=>none
def sr(T:Tb)(ops:Array Oper)(F:eu):Nat->List Fl->Option (List Value×List Fl)
 |0,l=>some ([],l)
 |n+1,l=>match l with
  |(i,ks)::r=>match ops[i]? with
   |some ⟨some _,op,_,_,_,none⟩=>match sv T (qX F ks) op with
    |some v=>match sr T ops F n r with
     |some (vs,l')=>some (v::vs,l')
     |none=>none
    |none=>none
   |_ =>none
  |[]=>none
def sk(ops:Array Oper)(F:eu):Nat->List Fl->Option (List Value)
 |0,_ =>some []
 |n+1,l=>match l with
  |(i,_)::r=>match ops[i]? with
   |some ⟨some d,_,_,_,_,none⟩=>match lk F d with
    |some v=>match sk ops F n r with
     |some vs=>some (v::vs)
     |none=>none
    |none=>none
   |_ =>none
  |[]=>none
section
variable {P:Program} {T:Tb} [hT:MV P T] {N:Nat} {c:Cx} {D:List Deferred} {ops:Array Oper} {Q:Exit->Act->World->Prop} {F F':eu} {H:List aE} {l l':List Fl}
theorem NS{K:eu->Prop}(n:Nat)(h:sn T N ops n l F=some (l',F'))(k:qL P N c ops H l' F' K):qL P N c ops H l F K:=by
 induction n generalizing l F with
 |zero=>cases h;exact k
 |succ n ih=>
  simp only[sn]at h;split at h
  ·rename_i i ks r
   split at h
   ·rename_i d op _ _ _ ho
    split at h
    ·rename_i v hv
     cases hd:Nat.blt d N with
     |false=>rw[hd]at h;cases h
     |true=>rw[hd]at h;exact BD ho hd (Wv rfl (S8 hv)) (ih h)
    ·cases h
   ·cases h
  ·cases h
theorem RSn{vs:List Value}(n:Nat)(h:sr T ops F n l=some (vs,l'))(h2:sk ops F n l=some vs)(k:CP P N c ops F H l'):CP P N c ops F H l:=by
 induction n generalizing l vs with
 |zero=>simp only[sr,Option.some.injEq,Prod.mk.injEq]at h;rw[h.2];exact k
 |succ n ih=>
  simp only[sr]at h;simp only[sk]at h2;split at h
  ·rename_i i ks r
   split at h
   ·rename_i d op _ _ _ ho
    dsimp only at h2;rw[ho]at h2;dsimp only at h2;split at h
    ·rename_i v hv
     split at h
     ·rename_i us l2 h3
      simp only[Option.some.injEq,Prod.mk.injEq]at h;obtain⟨rfl,rfl⟩:=h;split at h2
      ·rename_i u hu
       split at h2
       ·rename_i ws h4
        simp only[Option.some.injEq,List.cons.injEq]at h2;obtain⟨rfl,rfl⟩:=h2;exact JK ho hu (Wv rfl (S8 hv)) (ih h3 h4)
       ·cases h2
      ·cases h2
     ·cases h
    ·cases h
   ·cases h
  ·cases h
theorem RE{vs:List Value}(n:Nat)(h:sr T ops F n l=some (vs,[]))(h2:sk ops F n l=some vs):CP P N c ops F H l:=RSn n h h2 trivial
end
section
variable {P:Program} {N:Nat} {c:Cx} {D:List Deferred} {ops:Array Oper} {Q:Exit->Act->World->Prop} {F:eu} {H:List aE} {i:Nat} {ks:List Nat} {q:List Fl} {d:Nat} {v v':Value} {op:Op} {ty:TypeId} {ps:String} {af:Array Edge} {g:Option (Nat×Bool)} {α:Type}
theorem NV{K:eu->Prop}(ho:ops[i]? =some ⟨some d,op,ty,ps,af,none⟩)(hN:Nat.blt d N=true)(hv:VS P N c ⟨some d,op,ty,ps,af,none⟩ (qX F ks) H v)(hr:qL P N c ops H q ((d,v)::F) K):qL P N c ops H ((i,ks)::q) F K:=BD ho hN (Wv rfl hv) hr
theorem NC{K:eu->Prop}{args:List Operand}{ats:Array TypeId}{f:Nat}{vs:List Value}{pre:World->Prop}(ho:ops[i]? =some ⟨some d, .call ⟨.value (.func f),args.toArray,ats⟩,ty,ps,af,none⟩)(hN:Nat.blt d N=true)(hc:FnW P f vs pre v)(ha:C7 (qX F ks) args=some vs)[k:Kn c H pre](hr:qL P N c ops H q ((d,v)::F) K):qL P N c ops H ((i,ks)::q) F K:=BD ho hN (Wv rfl (Lf hc ha k.ok)) hr
theorem RO(ho:ops[i]? =some ⟨some d,op,ty,ps,af,none⟩)(hl:lk F d=some v)(hv:VS P N c ⟨some d,op,ty,ps,af,none⟩ (qX F ks) H v')(e:v'=v)(hr:CP P N c ops F H q):CP P N c ops F H ((i,ks)::q):=JK ho hl (Wv rfl (OD hv e)) hr
theorem T0{new:List Fl}{t:Tr}(h:qL P N c ops H new F λF'=>FU P N c D ops Q t F' H):FU P N c D ops Q (.QJ [] new t) F H:=⟨trivial,h⟩
theorem F0{new:List Fl}(h:qL P N c ops H new F λF'=>WQ N c D Q .normal F' H):FU P N c D ops Q (.fin [] new) F H:=⟨trivial,h⟩
theorem F00(h:WQ N c D Q .normal F H):FU P N c D ops Q (.fin [] []) F H:=⟨trivial,h⟩
theorem X1{s:Nat}{here:Tr}{p:α->Prop}{fv:α->Value}{fH:α->List aE}(ho:ops[s]? =some ⟨some d,op,ty,ps,af,none⟩)(hN:Nat.blt d N=true)(hv:RX P N c ⟨some d,op,ty,ps,af,none⟩ (qX F ks) H p fv fH)(h:∀x,p x->FU P N c D ops Q here ((d,fv x)::F) (fH x)):FU P N c D ops Q (.alt s ks here .no) F H:=Wy ho hN (agv rfl hv) h trivial
theorem X0{s:Nat}{here:Tr}{fH:List aE}(ho:ops[s]? =some ⟨none,op,ty,ps,af,none⟩)(hv:RX (α:=Unit) P N c ⟨none,op,ty,ps,af,none⟩ (qX F ks) H (λ_ =>True) (λ_ =>undef) (λ_ =>fH))(h:FU P N c D ops Q here F fH):FU P N c D ops Q (.alt s ks here .no) F H:=Wz ho (agv rfl hv) (λ_ _ =>h) trivial
theorem GB{rest:List Oper}{j k:Nat}{want b:Bool}(hd:(ops[j]?).bind (·.dst)=some k)(hl:lk F k=some (.bool b))(hN:Nat.blt d N=true)(hv:(b==want)=true->VS P N c ⟨some d,op,ty,ps,af,some (j,want)⟩ F H v)
  (h:WL P N c D ops Q rest ((d,bif (b==want)then v else undef)::F) H):WL P N c D ops Q (⟨some d,op,ty,ps,af,some (j,want)⟩::rest) F H:=aip (WW hd hl) hN hv h
end
theorem fo{α:Type}{P:Program}{f:Nat}{fn:Func}{code:Code}{N:Nat}{args:Vs}{K:World->Prop}[S:zl K]{p:α->Prop}{fv:α->Value}{fH:α->List aE}(hf:P.funcs[f]? =some fn)(hname:(fn.name== "runtime.NumGoroutine")=false)(hb:fn.body=some code)(hN:fn.ntmps=N)(ha:Nat.ble args.length N=true)
  (h:∀c:Cx,(∀R,KnF c R K)->c.ro=none->c.bs=[]->K c.w0->WP P N c [] code (Post P c fn p fv fH) (vN 0 args) []):Fn P f args K [] p fv fH:=
 tF hf hname hb hN ha λc nr hpre hro=>h c (YJ nr hpre) hro nr hpre
end Go.Bw
namespace Go.Bw
open Go Go.RowKit
abbrev vW(T:Nat)(e:Int):List PanicEntry:=[{v:= .iface T (.int .i64 e),recovered:=false}]
def tc{α:Type}(b:Bool)(f:α)(k:Option α):Option α:=bif b then k else some f
def tr{α β:Type}(x:Option (Except Int α))(f:Int->β)(k:α->Option β):Option β:=match x with
 |some (.ok a)=>k a
 |some (.error e)=>some (f e)
 |none=>none
end Go.Bw
namespace Go.Bw
open Go Go.RowKit
section
variable {α:Type} {P:Program} {N:Nat} {c:Cx} {F:eu} {H:List aE} {D:List Deferred} {fn:Func} {p:α->Prop} {fv:α->Value} {fH:α->List aE} {ops:Array Oper} {d:Option Tmp} {ty:TypeId} {ps:String} {af:Array Edge}
theorem Wp{A:World->Prop}{x:Operand}{t b off:Nat}{v:Value}(hA:∀w,A w->w.cell? ⟨b,off,none⟩=some v)(hx:ev F x=some (dB b off))[p8 P t][hk:Kn c H A]:VS P N c ⟨d, .load t x,ty,ps,af,none⟩ F H v:=
 aG (by simp) λa w hf hs hp=>by have:=kJ (P:=P) (t:=t) (a:=⟨b,off,none⟩) (hA w (hk.ok w hs hp));simp[execOp,aI hf hx,Instr.loadAt,Instr.sureAddr,this]
theorem OE{A:World->Prop}{q:IntKind}{b:Nat}{x y:Operand}{t kt e:TypeId}{k:Int}(z v:Value)(bb:Bool)(hA:∀w,A w->∃l,MpJ b q (λv:Value=>v) l w/\nV l k z=v/\pG l k=bb)[ht:Fe P t kt e q][hz:OI P e z](hx:ev F x=some (.map (some b)))(hy:ev F y=some (.int q k))[hk:Kn c H A]:
  VS P N c ⟨d, .lookup t x y true,ty,ps,af,none⟩ F H (.tuple #[v, .bool bb]):=by
 haveI hz':OI P e ((λv:Value=>v) z):=hz;refine aG (by simp) λa w hf hs hp=>?_;obtain⟨l,h0,h1,h2⟩:=hA w (hk.ok w hs hp);subst h1 h2;simp[execOp,aI hf hx,aI hf hy,oP w ht hz' h0,Result.andThen]
end
end Go.Bw
namespace Go.Rw
open Go Go.Bw Go.RowKit
variable {G:Sg} {P:Program} {tt:TT P G} {J:World->Prop} {ρ:aY} {a:Act} {w:World} {d:Option Tmp} {ty:TypeId} {ps:String} {af:Array Edge}
 {N:Nat} {c:Cx} {H:List aE} {D:List Deferred} {C:CC G} {S:AS G}
theorem Tp{T:Nat}{g0:IntKind×List (Int×Nat)}(hgt:G.gt=some g0)(h1:ri P T=true):SK P ⟨d, .load T (.global 0),ty,ps,af,none⟩ C S {S with O:=(S.nx, .gm)::S.O,nx:=S.nx+1} (.mp S.nx):=by
 intro c N ρ J HK X a w next Q h hk
 obtain⟨HS,r1,hs0,hm⟩:=h.st;obtain⟨mb,hmb⟩:=h.kn.gl g0 hgt;haveI:p8 P T:=⟨h1⟩;haveI:Kn c (HS++(HK++X)) J:=⟨λw' _ hp=>h.kn.to w' λr hr=>⟨hp.holds r (by simp[hr]),λb hb=>(hp.own r (by simp[hr]) b hb).2⟩⟩;refine(Wp (P:=P) (N:=N) (c:=c) (F:=ng a) (H:=HS++(HK++X)) (A:=J) (v:= .map (some mb)) (b:=0) (off:=0) (λw hw=>(hmb w hw).1) rfl) a.defers a w next Q hs0 λw' hs=>?_
 have xw:bC c.bs c.w0.heap.size (.row (.slice none 0 0) 0 1 0 []::(HS++(HK++X))) w':=zO (hs0.hp.ext hs);refine hk (ρ.set S.nx (.map (some mb))) J [] w' _ (aY.kg _ _ _) (λ_ h=>h) ⟨_,aY.gO _ _ _,rfl,rfl,rfl⟩ (h.new r1 (h.si.s.ext hs) xw ⟨⟨mb,g0,aY.gO _ _ _,hgt,hmb⟩,rfl⟩)
def EE(P:Program)(T:Nat)(q:IntKind):Bool:=match P.underlying T with
 |some (.map k e)=>(match P.underlying k with
  |some (.int q')=>Nat.beq (Ty.bU.ik q) (Ty.bU.ik q')
  |_ =>false)&&(match(P.info? e).bind (·.zero)with
  |some .nilFunc=>true
  |_ =>false)
 |_ =>false
def Kb:List (Int×Nat)->Int->Option Nat
 |[],_ =>none
 |(a,f)::r,k=>bif k==a then some f else Kb r k
theorem XJ{k:Int}:∀{l:List (Int×Nat)},(∀f,Kb l k=some f->nV (l.map EB) k .nilFunc= .func (.func f) #[] #[]/\pG (l.map EB) k=true)/\(Kb l k=none->nV (l.map EB) k .nilFunc= .nilFunc/\pG (l.map EB) k=false):=by
 intro l
 induction l with
 |nil=>exact⟨λf h=>by(cases h),λ_ =>⟨rfl,rfl⟩⟩
 |cons p r ih=>
  obtain⟨a,f0⟩:=p;simp only[Kb,List.map_cons];cases hb:(k==a)with
  |true=>
   have e:fK (EB (a,f0)::r.map EB) k=some (0, .func (.func f0) #[] #[]):=by show(bif k==a then _ else _)=_;rw[hb];rfl
   refine⟨λf h=>?_,λh=>by cases h⟩;cases h;simp only[nV,pG,e];exact⟨rfl,rfl⟩
  |false=>
   have e:fK (EB (a,f0)::r.map EB) k=(fK (r.map EB) k).map λq=>(q.1+1,q.2):=by show(bif k==a then _ else _)=_;rw[hb];rfl
   have e1:nV (EB (a,f0)::r.map EB) k .nilFunc=nV (r.map EB) k .nilFunc:=by unfold nV;rw[e];cases fK (r.map EB) k<;>rfl
   have e2:pG (EB (a,f0)::r.map EB) k=pG (r.map EB) k:=by unfold pG;rw[e];cases fK (r.map EB) k<;>rfl
   rw[e1,e2];exact ih
def abg:Option Nat->AV G
 |some f=> .jy (.cons (.fn (.func f) .nil .nil) (.cons (.kb true) .nil))
 |none=> .jy (.cons .ow (.cons (.kb false) .nil))
theorem QK{T r:Nat}{x y:Operand}{q:IntKind}{k:Int}{b:Bool}{g0:IntKind×List (Int×Nat)}(hgt:G.gt=some g0)(hx:fT C S [] x=some (.mp r))(ho:Ug C S r=some .gm)(hy:mz (fT C S [] y)=some (q,k,b))(hq:Nat.beq (Ty.bU.ik q) (Ty.bU.ik g0.1)=true)(hc:EE P T g0.1=true):
  SK P ⟨d, .lookup T x y true,ty,ps,af,none⟩ C S S (abg (Kb g0.2 k)):=by
 intro c N ρ J HK X a w next Q h hk
 obtain⟨HS,r1,hs0,hm⟩:=h.st;have hE:=cQ h (ch:=[]) (by simp);obtain⟨AH,hres,⟨mb,g1,m1,m2,m3⟩,_⟩:=hm.ob r _ ho;rw[hgt]at m2;cases m2;obtain rfl:=GM hq;have hxv:a.eval x= .map (some mb):=by obtain⟨u,u1,u2,_⟩:=hE.ok _ _ hx;rw[m1]at u1;cases u1;exact(List.cons.inj u2).1
 have sB:=hE.ev _ _ hx;rw[hxv]at sB;have fl:=jR hE hy;haveI:Kn c (HS++(HK++X)) J:=⟨λw' _ hp=>h.kn.to w' λr hr=>⟨hp.holds r (by simp[hr]),λb hb=>(hp.own r (by simp[hr]) b hb).2⟩⟩;unfold EE at hc;split at hc
 ·rename_i kt e hu
  simp only[aiP]at hc;obtain⟨Rf,Xh⟩:=hc;split at Rf
  ·rename_i q' hk'
   obtain rfl:=GM Rf;split at Xh
   ·rename_i hz
    haveI:Fe P T kt e g0.1:=⟨hu,hk'⟩;haveI:OI P e .nilFunc:=⟨hz⟩;obtain⟨t1,t2⟩:=XJ (k:=k) (l:=g0.2);have hv:rv J ρ (abg (G:=G) (Kb g0.2 k)) (.tuple #[nV (g0.2.map EB) k .nilFunc, .bool (pG (g0.2.map EB) k)]):=by
     cases hf:Kb g0.2 k with
     |some f=>obtain⟨e1,e2⟩:=t1 f hf;rw[e1,e2];exact⟨[.func (.func f) #[] #[], .bool true],rfl,_,_,rfl,⟨[],[],rfl,rfl,rfl⟩,_,_,rfl,rfl,rfl⟩
     |none=>obtain⟨e1,e2⟩:=t2 hf;rw[e1,e2];exact⟨[.nilFunc, .bool false],rfl,_,_,rfl,rfl,_,_,rfl,rfl,rfl⟩
    refine(OE (P:=P) (N:=N) (c:=c) (F:=ng a) (H:=HS++(HK++X)) (A:=J) (q:=g0.1) (b:=mb) .nilFunc _ _ (λw hw=>by
     obtain⟨l,l1,l2⟩:=(m3 w hw).2;exact⟨l,l1,(l2 k).1,(l2 k).2⟩) sB fl) a.defers a w next Q hs0 λw' hs=>?_
    exact hk ρ J [] w' _ (aY.dM _ _) (λ_ h=>h) hv (by
     obtain⟨HS2,p1,p3⟩:=h.hp;exact⟨h.tm,h.df,h.si.ext hs,h.fs,h.fc,h.kc,⟨HS2,p1,p3.ext hs⟩,h.kn,h.fr⟩)
   ·cases Xh
  ·cases Rf
 ·cases hc
def Ow(P:Program)(T:Nat):Bool:=match P.underlying T with
 |some .string=>true
 |_ =>false
def TQ(P:Program)(E:Operand->Option (AV G))(T:Nat)(x y:Operand):PV G:=match x with
 | .const (.string s)=>match mz (E y)with
  |some (_,i,_)=>bif decide (s=Lib.pop8tab)&&Ow P T then some ([dg i 256], .int .u8 (Lib.pop8 i))else none
  |none=>none
 |_ =>none
theorem TP{ob:Nat->Option (Ob G)}{E:Operand->Option (AV G)}{g:Option (Nat×Bool)}(hm:OM (G:=G) J ρ N c D H ob a w)(hE:zD J ρ a E){T:Nat}{x y:Operand}{v:AV G}{gs:List Bool}(h:TQ P E T x y=some (gs,v))(hg:∀b∈gs,b=true):Bv P c J ρ ⟨d, .index T x y,ty,ps,af,g⟩ a w v:=by
 unfold TQ at h;split at h
 ·rename_i s
  split at h
  ·rename_i k i q hl
   cases hb:(decide (s=Lib.pop8tab)&&Ow P T)with
   |false=>rw[hb]at h;cases h
   |true=>
    rw[hb]at h;cases h;simp only[aiP,decide_eq_true_eq]at hb;obtain⟨h1,h2⟩:=bW (hg (dg i 256) (by simp));have fl:=jR hE hl;have ht:P.underlying T=some .string:=by
     have:=hb.2;unfold Ow at this;split at this
     ·assumption
     ·cases this
    haveI:agt P T:=⟨ht⟩;exact⟨_,rfl,(ZY hb.1 fl h1 h2).vk hm.st⟩
  ·cases h
 ·cases h
end Go.Rw
namespace Go.Bw
open Go
theorem br{x:Int}(h1: -9223372036854775808<=x)(h2:x<=9223372036854775807):wr .i64 x=x:=IntWalk.i64_in x ⟨h1,h2⟩
theorem ahd{x:Int}(h1:0<=x)(h2:x<=255):wr .u8 x=x:=IntWalk.u8_in x ⟨h1,h2⟩
theorem aal{x:Int}(h1:0<=x)(h2:x<=4294967295):wr .u32 x=x:=IntWalk.u32_in x ⟨h1,h2⟩
theorem sK{x:Int}(h1:0<=x)(h2:x<=18446744073709551615):wr .u64 x=x:=IntWalk.u64_in x ⟨h1,h2⟩
theorem vQ{k:IntKind}{a:Nat}(h:a<2^k.bits):(BitVec.ofInt k.bits (a:Int)).toNat=a:=by rw[BitVec.toNat_ofInt];have:((a:Int)%((2^k.bits:Nat):Int))=((a%2^k.bits:Nat):Int):=(Int.natCast_emod _ _).symm;rw[this,Nat.mod_eq_of_lt h];rfl
theorem Sz{k:IntKind}{r:Nat}(h:r<2^IntKind.up k):wr k (r:Int)=r:=Xx h
theorem FO(k:IntKind){r:Nat}(h:r<2^IntKind.up k):r<2^k.bits:=Nat.lt_of_lt_of_le h (Nat.pow_le_pow_right (by decide) (ZJ k))
theorem VQ{k:IntKind}{a b:Nat}(ha:a<2^IntKind.up k)(hb:b<2^IntKind.up k):rZ k a b=((a&&& b:Nat):Int):=by unfold rZ;rw[BitVec.toNat_and,vQ (FO k ha),vQ (FO k hb)];exact Sz (Nat.lt_of_le_of_lt Nat.and_le_left ha)
theorem VR{k:IntKind}{a:Int}(m:Nat){b:Int}(h0:0<=a)(ha:a<((2^IntKind.up k:Nat):Int))(hb:b=((2^m-1:Nat):Int))(hm:2^m-1<2^IntKind.up k):rZ k a b=a%((2^m:Nat):Int):=by obtain⟨x,rfl⟩:=Int.eq_ofNat_of_zero_le h0;subst hb;rw[VQ (by exact_mod_cast ha) hm,Nat.and_two_pow_sub_one_eq_mod];exact Int.natCast_emod _ _
theorem Tt{k:IntKind}{a:Int}(m:Nat){b:Int}(hb:b=(m:Int))(hm:m<=k.bits):Ae k a b=a/((2^m:Nat):Int):=by subst hb;unfold Ae;rw[aiR,Nat.min_eq_left hm,Int.fdiv_eq_ediv_of_nonneg _ (Int.pow_nonneg (by decide))];congr 1
theorem Tv{k:IntKind}{a:Int}(m:Nat){b:Int}(hb:b=(m:Int))(hm:m<=k.bits):Ke k a b=wr k (a*((2^m:Nat):Int)):=by subst hb;unfold Ke wr;rw[aiR,Nat.min_eq_left hm];congr 2
theorem Lz{a b:Int}(h:0<=a):Int.tmod a b=a%b:=Int.tmod_eq_emod_of_nonneg h
theorem Gi{a b:Int}(h:0<=a):Int.tdiv a b=a/b:=Int.tdiv_eq_ediv_of_nonneg h
theorem gU{i:Int}{n:Nat}(h0:0<=i)(h1:i<(n:Int)):dg i n=true:=by simp[dg,h0,h1]
theorem ni{n m b:Nat}(h:(n+m)*b<=140737488355328)(h2:n+m<=9223372036854775807):gC n m b=true:=by simp[gC,h,h2]
theorem Nm{α:Type}(f:Nat->α)(i:Nat)(v:α):iD f i v i=v:=by simp[iD]
theorem SV{α:Type}(f:Nat->α){i j:Nat}(v:α)(h:j≠i):iD f i v j=f j:=by simp[iD,h]
section
variable {α ρ:Type}
theorem ak{m:Option α}{x:α}{f:α->Option ρ}(h:m=some x):bd m f=f x:=by subst h;rfl
theorem aP(a:α)(f:α->Option ρ):lt a f=f a:=rfl
theorem bH{b:Bool}{k:Option ρ}(h:b=true):gu b k=k:=by subst h;rfl
theorem aU{b:Bool}{x y:Option ρ}(h:b=true):cn b x y=x:=by subst h;rfl
theorem au{b:Bool}{x y:Option ρ}(h:b=false):cn b x y=y:=by subst h;rfl
theorem rX{g:Bool}{m:Option α}{z x:α}{f:α->Option ρ}(h:g=true)(hm:m=some x):cl g m z f=f x:=by subst h;subst hm;rfl
theorem tH{g:Bool}{m:Option α}{z:α}{f:α->Option ρ}(h:g=false):cl g m z f=f z:=by subst h;rfl
theorem zQ{g:Bool}{m:Option α}{z x:α}{f:α->Option ρ}(hm:m=some x):cl g m z f=f (bif g then x else z):=by subst hm;cases g<;>rfl
end
end Go.Bw
namespace Go.Bw
open Go Go.RowKit
section
variable {α:Type} {P:Program} {N:Nat} {c:Cx} {F:eu} {H:List aE} {d:Option Tmp} {ty:TypeId} {ps:String} {af:Array Edge} {g:Option (Nat×Bool)}
theorem TB(L:cP α)[bg L](z0:α){z:Value}(he:L.enc z0=[z])(m:Nat):dU L (List.replicate m z0)=List.replicate m z:=Dx L z0 he m
theorem adF{x y:Operand}{t e m:Nat}{k k':IntKind}{z:Value}{L:cP α}[bg L](z0:α)[ht:se P t e 1][hz:jh P e [z]](he:L.enc z0=[z])(hx:ev F x=some (.int k (m:Int)))(hy:ev F y=some (.int k' (m:Int)))(bytes:Nat)(hb:(P.info? e).map (·.bytes)=some bytes)(hm:m*bytes<=140737488355328)(hm2:m<=140737488355328):
  RX P N c ⟨d, .makeSlice t x y,ty,ps,af,g⟩ F H (λ_ =>True) (λb=> .slice (some ⟨b,0,none⟩) m m) (λb=>pE (.slice (some ⟨b,0,none⟩) m m) e 1 L (List.replicate m z0)::H):=λD a w next Q hst hk=>by
 obtain⟨i,h1,h2,h3⟩:=se.get ht.ok;obtain⟨i',zz,h4,h5,h6⟩:=jh.get hz.ok;rw[h2]at h4;cases h4;have hby:i.bytes=bytes:=by simpa[h2]using hb
 have hzz:zz.cells= #[z]:=by apply Array.ext';rw[h6]
 refine dJ (by simp) (v:= .slice (some ⟨w.heap.size,0,none⟩) m m) (w':=w.alloc (.cells (List.replicate m z).toArray e)) ?_ (hk w.heap.size _ trivial (hst.si.ext (aO.alloc _ _)) ?_)
 ·have w1:IntKind.i64.wrap (m:Int)=m:=br (by omega) (by omega)
  have hcells:(Array.range (m*1)).map (λq=>(#[z]:Array Value)[q%(#[z]:Array Value).size]!)=(List.replicate m z).toArray:=by
   apply Array.ext
   ·simp
   ·intro j h1 h2;simp[Nat.mod_one]
  have c1:¬((m:Int)<0):=by omega
  have c2:¬(((bytes:Int)*m)>2^48):=by
   have:(bytes:Int)*m=((m*bytes:Nat):Int):=by push_cast;rw[Int.mul_comm]
   rw[this];omega
  have c3:¬(m*bytes>roomBytes):=by
   have:roomBytes=140737488355328:=by rfl
   omega
  have a1:∀(k:IntKind) (w:World),(asInt (.int k (m:Int))).run P w= .ok (m:Int) w:=λk w=>by simp[asInt,asIntOf,Sem.run]
  simp only[execOp,Instr.makeSlice,Sem.run_bind,run_underlying h1,Result.andThen_ok,aI hst.fr hx,aI hst.fr hy,a1,Sem.run_pure,typeInfo,sizeOf,w1];have c4:¬(281474976710656<(bytes:Int)*m):=by simpa using c2
  have Y4:Array.map (λx=>([z]:List Value)[x%1]?.getD default) (Array.range m)=Array.replicate m z:=by
   apply Array.ext
   ·simp
   ·intro j h1 h2;simp[Nat.mod_one]
  by_cases hm0:m=0
  ·subst hm0
   simp[h2,h3,hby,w1,askRoom,c3,newRow,newObj,Sem.run];congr 2;apply Array.ext
   ·simp
   ·intro j h1 h2;simp at h2
  ·simp[h2,h3,hby,w1,askRoom,c3,hm0,zeroValue,typeInfo,h5,hzz,newRow,newObj,Sem.run]
   rw[aiN (by rintro((h|h)|h);exact c1 h;exact c4 h;exact c1 h),Y4]
 ·have:=hst.hp.box e (List.replicate m z) hst.si.size
  refine this.Ad (k:=0) (r:= .cells w.heap.size e (List.replicate m z)) rfl (λw' hw=>?_) (λb hb=>by simpa[aE.cH,Value.ownBlock]using hb);have hb:w'.heap[w.heap.size]? =some (.cells (List.replicate m z).toArray e (0,0)):=hw;have e1:=TB L z0 he m;refine⟨by rw[e1];simp, .inr ⟨w.heap.size,0,m,_,by simp,hb,by simp,by unfold maxLen;omega,by simp,?_⟩⟩;rw[e1];simp
theorem Nx(L:cP α)[bg L](hn:L.n=1)(xs:List α)(m:Nat):dU L (xs.take m)=(dU L xs).take m:=by
 by_cases h:m<=xs.length
 ·have:=I6 L xs (m:=m) hn h
  rw[Nat.mul_one]at this;exact this.symm
 ·rw[List.take_of_length_le (by omega),List.take_of_length_le (by rw[lX,hn];omega)]
theorem Nz(L:cP α)[bg L](hn:L.n=1)(xs:List α)(m:Nat):dU L (xs.drop m)=(dU L xs).drop m:=by
 have e:dU L xs=dU L (xs.take m)++dU L (xs.drop m):=by rw[← qz,List.take_append_drop]
 by_cases h:m<=xs.length
 ·have hl:(dU L (xs.take m)).length=m:=by rw[lX,hn,List.length_take];omega
  have e2:=congrArg (List.drop m) e;rw[List.drop_left' hl]at e2;exact e2.symm
 ·rw[List.drop_of_length_le (by omega),List.drop_of_length_le (by rw[lX,hn];omega)];rfl
theorem WI{x y:Operand}{t t' e:TypeId}{v u:Value}{L:cP α}[bg L]{xs ys:List α}{A:World->Prop}{f:aE->List aE}(hf:Fz A u L ys)(hn:L.n=1)(ht:EC P t e 1=true)(hv:∃b o cap,v= .slice (some ⟨b,o,none⟩) xs.length cap)(hx:ev F x=some v)(hy:ev F y=some u)[hr:tO H v e 1 xs.length (dU L xs) f][hk:Kn c H A]:
  RX (α:=Unit) P N c ⟨d, .call ⟨.builtin .copy, #[x,y], #[t,t']⟩,ty,ps,af,g⟩ F H (λ_ =>True) (λ_ => .int .i64 (min ys.length xs.length:Nat)) (λ_ =>f (pE v e 1 L (ys.take xs.length++xs.drop ys.length))):=λD a w next Q hst hk2=>by
 obtain⟨inf,e1,e2,e3⟩:=se.get ht;obtain⟨k,k1,k2⟩:=hr.ok;obtain⟨b,o,cap,rfl⟩:=hv;have hm:aE.row (.slice (some ⟨b,o,none⟩) xs.length cap) e 1 xs.length (dU L xs)∈H:=List.mem_of_getElem? k1;obtain⟨r1,r2⟩:=hst.hp.holds _ hm;rcases r2 with⟨h,_⟩|⟨b',o',cap',cur,h,hb,hle,Ml,hsz,htk⟩
 ·cases h
 cases h;have hro:=hf.ro w (hk.ok w hst.si hst.hp);rw[hn]at hro;have hX:(dU L xs).length=xs.length:=by rw[lX,hn,Nat.mul_one]
 have hY:(dU L ys).length=ys.length:=by rw[lX,hn,Nat.mul_one]
 let cs:=(dU L ys).take xs.length;have qQ:cs.length=min ys.length xs.length:=by simp only[cs,List.length_take,hY];omega
 have h1:∀v∈cs,v.oneCell'=true:=λv hv=>LM L ys v (List.take_subset _ _ hv);have hcs:o+cap<=cur.size:=by omega
 let Z:=(cur.toList.take o++cs++cur.toList.drop (o+cs.length)).toArray;have hrun:(Builtin.copy_ #[t,t'] ty #[.slice (some ⟨b,o,none⟩) xs.length cap,u]).run P w= .ok (goInt cs.length) (w.setRow b Z):=by
  rcases hro.2 with⟨⟨a0,cp,rfl⟩,h0⟩|⟨gb,off,cp,rfl,_,_,hrd⟩
  ·have hy0:ys=[]:=List.length_eq_zero_iff.1 h0
   have hc0:cs=[]:=List.length_eq_zero_iff.1 (by rw[qQ,h0];simp);cases a0 with
   |some a0=>exact run_copy_row (P:=P) w t t' ty e b o xs.length cap a0 0 cp cur e cs e1 (by simp[e2,e3]) hb (by rw[qQ,h0]) (λj v hj=>by rw[hc0]at hj;cases hj) (by rw[hc0];simp;omega) h1
   |none=>have KI:=run_storeCells_at P b o e cs 0 cur w hb (by rw[hc0];simp;omega) h1;have hi:inf.size=1:=e3;simp only[Z];rw[hc0]at KI ⊢;simp[Builtin.copy_,run_underlying e1,Builtin.lenOf,Builtin.firstCells,sizeOf,typeInfo,e2,hi]at KI ⊢;simp[KI]
  ·exact run_copy_row (P:=P) w t t' ty e b o xs.length cap ⟨gb,off,none⟩ ys.length cp cur e cs e1 (by simp[e2,e3]) hb (by rw[qQ]) (λj v hj=>by
    simp only[cs,List.getElem?_take]at hj;split at hj
    ·rw[Addr.add_lit];exact hrd j v hj
    ·cases hj) (by rw[qQ];omega) h1
 have iG:aO [b] w (w.setRow b Z):=⟨rfl,rfl,rfl,by simp,λk _ hk=>setRow_other w b k _ (by simpa using hk)⟩;have hh:=setRow_heap w b cur Z e (0,0) hb;refine dJ (by simp) (v:= .int .i64 (min ys.length xs.length:Nat)) (w':=w.setRow b Z) ?_ (hk2 () _ trivial (hst.si.store hst.hp hm (by simp[aE.cH,Value.ownBlock]) iG) ?_)
 ·rw[qQ]at hrun
  simp[execOp,resolve,invoke,builtin,aI hst.fr hx,aI hst.fr hy,hrun];rfl
 ·rw[k2]
  have e4:dU L (ys.take xs.length++xs.drop ys.length)=cs++(dU L xs).drop ys.length:=by rw[qz,Nx L hn,Nz L hn]
  have e5:(ys.take xs.length++xs.drop ys.length).length=xs.length:=by simp only[List.length_append,List.length_take,List.length_drop];omega
  refine hst.hp.set k1 iG.size (λj hj hne=>iG.block j hj (by simpa[aE.cH,Value.ownBlock]using hne)) ?_ hst.si.size (λb' hb'=>?_)
  ·show kH _ e 1 _ _ _
   rw[e4,e5];refine⟨by simp only[List.length_append,List.length_drop,qQ,hX];omega, .inr ⟨b,o,cap,Z,rfl,hh,hle,Ml,?_,?_⟩⟩
   ·simp only[Z,List.size_toArray,List.length_append,List.length_take,List.length_drop,Array.length_toList,qQ];omega
   ·have e7:=uF (cs:=cur.toList) (vs:=cs) (o:=o) (off:=0) (k:=xs.length*1) (by rw[qQ];omega) (by have h8:cur.toList.length=cur.size:=Array.length_toList;omega)
    rw[Nat.add_zero,htk]at e7;refine e7.trans ?_;simp only[bN,List.take_zero,List.nil_append,Nat.zero_add,qQ];congr 1;by_cases hq:ys.length<=xs.length
    ·rw[Nat.min_eq_left hq]
    ·rw[Nat.min_eq_right (by omega),List.drop_of_length_le (by omega),List.drop_of_length_le (by omega)]
  ·have e6:b'=b:=by simpa[aE.cH,Value.ownBlock]using hb'
   subst e6;exact⟨.inl (by simp[aE.cH,Value.ownBlock]),Nat.lt_of_lt_of_le (aiU.1 hb).1 iG.size⟩
end
end Go.Bw
namespace Go.Rw
open Go Go.Bw Go.RowKit
variable {G:Sg} {P:Program} {tt:TT P G} {zt:ZT P G} {J:World->Prop} {ρ:aY} {a:Act} {w:World} {d:Option Tmp} {ty:TypeId} {ps:String} {af:Array Edge} {g:Option (Nat×Bool)}
 {N:Nat} {c:Cx} {H HK X:List aE} {C:CC G} {S:AS G} {D:List Deferred} {E:Operand->Option (AV G)}
def CH(P:Program)(e:Nat)(k:IntKind):Bool:=match(P.info? e).bind (·.zero)with
 |some (.int k' n)=>Nat.beq (Ty.bU.ik k') (Ty.bU.ik k)&&n==0
 |_ =>false
theorem abj{T e bt s:Nat}{k ki:IntKind}{i z0:Int}{q:Bool}(hT:tt.te.find T=some (.sl e 1 bt))(hz:zt.z.find e=some (.int k z0))(hx:mz (fT C S [] (.tmp s))=some (ki,i,q))(hg:decide (0<=i)=true)(ha:gC 0 i.toNat bt=true)(hbt:0<bt):
  SK P ⟨d, .makeSlice T (.tmp s) (.tmp s),ty,ps,af,g⟩ C S {S with O:=(S.nx, .row e 1 (.int k) (List.replicate i.toNat z0))::S.O,nx:=S.nx+1} (.row S.nx):=by
 intro c N ρ J HK X a w next Q h hk
 obtain⟨HS,h1,hs0,hm⟩:=h.st;have hE:=cQ h (ch:=[]) (by simp);have fx:=jR hE hx;obtain⟨u,z1,z2⟩:=zt.ok e _ hz J ρ;have z2:[u]=[Value.int k z0]:=z2;cases z2;haveI:jh P e [Value.int k z0]:=⟨z1⟩;haveI:=(tt.sl hT).1;obtain⟨m,rfl⟩:∃m:Nat,i=m:=⟨i.toNat,by have:=of_decide_eq_true hg;omega⟩;obtain⟨g1,g2⟩:=pX ha;have hb:(P.info? e).map (·.bytes)=some bt:=by obtain⟨i,z,e1,e2,e3,e4,e5,e6,e7⟩:=Lp.get (tt.sl hT).2.ok;rw[e2];simp[e5]
 simp only[aiR,Nat.zero_add]at g1 g2 ⊢;refine adF (P:=P) (N:=N) (c:=c) (F:=ng a) (H:=HS++(HK++X)) (m:=m) (L:=LI k) z0 rfl fx fx bt hb g1 (by have:=Nat.le_mul_of_pos_right m hbt;omega) a.defers a w next Q hs0 λb w' _ hs hp=>?_
 obtain⟨ρ',q1,q2,q3⟩:=zK (t:= .int k) (zs:=List.replicate m z0) h h1 hs hp ⟨some ⟨b,0,none⟩,m,congrArg (λn=>Value.slice (some ⟨b,0,none⟩) n m) (List.length_replicate (n:=m) (a:=z0)).symm⟩ (show(LA (LI k) _).eI J _ _ from bg.iff.2 (fP (LI k) (List.replicate m z0))) rfl;exact hk ρ' J [] w' _ q1 (λ_ h=>h) q2 q3
theorem ZD{t:Ty}{l:LS G}{ys:List (t.T G)}(h:Hv l.xs=some ys):l=⟨t,ys⟩:=by obtain⟨t',l'⟩:=l;obtain⟨rfl,rfl⟩:=Qe h;rfl
theorem Kh{w:World}{t t' ty e:Nat}{inf:TypeInfo}{u:Value}{n:Nat}(e1:P.underlying t=some (.slice e))(e2:P.info? e=some inf)(hu:su u n):(Builtin.copy_ #[t,t'] ty #[.slice none 0 0,u]).run P w= .ok (.int .i64 0) w:=by
 obtain⟨a,cp,rfl⟩:=hu;cases a<;>simp[Builtin.copy_,run_underlying e1,Builtin.lenOf,Builtin.firstCells,sizeOf,typeInfo,e2,loadCells,Sem.run]
 all_goals rfl
theorem XN{T T' e bt r:Nat}{x y:Operand}{vy:AV G}{k:IntKind}{xs ys:List (Ty.T G (.int k))}{l:LS G}(hT:tt.te.find T=some (.sl e 1 bt))(hx:fT C S [] x=some (.row r))(hy:fT C S [] y=some vy)(ho:cU S.O r=some (.row e 1 (.int k) xs))(hl:lsA C S vy=some l)(hc:Hv (t:= .int k) l.xs=some ys):
  SK P ⟨d, .call ⟨.builtin .copy, #[x,y], #[T,T']⟩,ty,ps,af,g⟩ C S {S with O:=pF S.O r (.row e 1 (.int k) (ys.take xs.length++xs.drop ys.length))} (.int .i64 ((min ys.length xs.length:Nat):Int)):=by
 intro c N ρ J HK X a w next Q h hk
 obtain⟨HS,h1,hs0,hm⟩:=h.st;have hE:=cQ h (ch:=[]) (by simp);obtain⟨kk,x0,k1,⟨vv,ws,m1,rfl,m3,m4,m5⟩,k3⟩:=h1.set ho;obtain rfl:=ZD hc;obtain⟨news,n1,n2,n3⟩:=NU hm hl (hE.ok _ _ hy);have UJ:=rS (hE.ok _ _ hx) m1;have sB:=hE.ev _ _ hx;rw[UJ]at sB;have hws:ws=dU (LI k) xs:=(bg.iff.1 (show(LA (LI k) xs.length).eI J ws _ from m4)).trans (fP (LI k) xs).symm;have hnews:news=dU (LI k) ys:=(bg.iff.1 (show(LA (LI k) ys.length).eI J news _ from n2)).trans (fP (LI k) (ys:List Int)).symm;subst hws;subst hnews;have Ib:=qe (m:=HK++X) k1;have hown:kH w e 1 vv xs.length (dU (LI k) xs):=hs0.hp.holds _ (List.mem_of_getElem? Ib);have done:∀w',aO c.bs c.w0 w'->bC c.bs c.w0.heap.size ((HS++(HK++X)).set kk (.row vv e 1 (ys.take xs.length++xs.drop ys.length).length (dU (LI k) (ys.take xs.length++xs.drop ys.length)))) w'->next (a.put d (.int .i64 ((min ys.length xs.length:Nat):Int))) w':=λw' hs hp=>by
  rw[uk k1]at hp;refine hk ρ J [] w' _ (aY.dM _ _) (λ_ h=>h) rfl (h.Ad (k3 _ _ ?_) hs hp);refine⟨vv,_,m1,rfl,?_,show(LA (LI k) _).eI J _ _ from bg.iff.2 (fP (LI k) _),rfl⟩;have:(ys.take xs.length++xs.drop ys.length).length=xs.length:=by simp only[List.length_append,List.length_take,List.length_drop];omega
  rw[this];exact m3
 haveI:tO (HS++(HK++X)) vv e 1 xs.length (dU (LI k) xs) ((HS++(HK++X)).set kk):=⟨kk,Ib,λ_ =>rfl⟩;rcases hown.2 with⟨hv,h0⟩|⟨b,o,cap,cur,hv,_⟩
 ·subst hv
  have hx0:xs=[]:=List.length_eq_zero_iff.1 h0;subst hx0;obtain⟨inf,e1,e2,e3⟩:=se.get (tt.sl hT).1.ok;refine dJ (by simp) (v:= .int .i64 ((min ys.length 0:Nat):Int)) (w':=w) ?_ (done w hs0.si ?_)
  ·have:=Kh (P:=P) (w:=w) (t':=T') (ty:=ty) e1 e2 n3
   simp[execOp,resolve,invoke,builtin,aI hs0.fr sB,this]
  ·refine hs0.hp.Ad Ib (λw hw=>?_) (λb hb=>?_)
   ·simpa using hw
   ·simpa using hb
 ·have hF:Fz (λw=>Ro w (a.eval y) 1 ys.length (dU (LI k) ys)) (a.eval y) (LI k) ys:=⟨n3,λ_ h=>h⟩
  haveI:Kn c (HS++(HK++X)) (λw=>Ro w (a.eval y) 1 ys.length (dU (LI k) ys)):=⟨λw' h1 h2=>n1.ro w' h1 h2⟩;exact WI (t':=T') (ty:=ty) (ps:=ps) (af:=af) (g:=g) (d:=d) hF rfl (tt.sl hT).1.ok ⟨b,o,cap,hv⟩ sB (hE.ev _ _ hy) a.defers a w next Q hs0 λ_ w' _ hs hp=>done w' hs hp
end Go.Rw
namespace Go.Bw
open Go Go.RowKit
section
variable {P:Program} {N:Nat} {c:Cx} {F:eu} {H:List aE} {d:Option Tmp} {ty:TypeId} {ps:String} {af:Array Edge} {g:Option (Nat×Bool)} {β:Type} {b:Nat} {q:IntKind} {E:β->Value} {l:List (Int×β)} {f:aE->List aE}
theorem D6{x y z:Operand}{t kt e:TypeId}{k:Int}{v:Value}(u:β)[ht:Fe P t kt e q](hx:ev F x=some (.map (some b)))(hy:ev F y=some (.int q k))(hz:ev F z=some v)[hm:Fp H b β q E l f](hv:v=E u):
  RX (α:=Unit) P N c ⟨d, .insert t x y z,ty,ps,af,g⟩ F H (λ_ =>True) (λ_ =>undef) (λ_ =>f (Mp b q E (tw l k u))):=λD a w next Q hst hk=>by
 subst hv;obtain⟨es,clock,h1,h2⟩:=hm.Zb hst.hp;obtain⟨t1,t2⟩:=ht.ok;have hf:=nF (k:=k) w t2 h2;have hc:∀em,(Instr.checkKey em 10000 kt (.int q k)).run P w= .ok () w:=λem=>MapKept.run_checkKey (k:= .int q k) t2 (show q=q from rfl) em 9999;cases UP:fK l k with
 |none=>obtain⟨p1,p2⟩:=hm.put hst h1 (h2.push k u);refine oe (by simp) (w':=w.putObj b (.map (es.push ⟨.int q k,E u,clock⟩) (clock+1))) ?_ (hk () _ trivial p1 (by rw[DH UP];exact p2));rw[UP]at hf;simp[execOp,aI hst.fr hx,aI hst.fr hy,aI hst.fr hz,Instr.mapUpdate,run_underlying t1,MapKept.run_getObj_map h1,hc,hf,MapKept.run_setObj_map _ h1,Result.andThen,World.putObj]
 |some p=>
  have hg:=DI (j:=p.1) (y:=p.2) UP;obtain⟨p1,p2⟩:=hm.put hst h1 (h2.modify p.1 k u);refine oe (by simp) (w':=w.putObj b (.map (es.modify p.1 λe=>{e with key:= .int q k,val:=E u}) clock)) ?_ (hk () _ trivial p1 (by rw[DG (j:=p.1) (y:=p.2) UP];exact p2));rw[UP]at hf;have hkey:((es[p.1]?).map (·.key))=some (.int q k):=by
   have:(es.toList.map λe=>(e.key,e.val))[p.1]? =some (Value.int q k,E p.2):=by rw[h2.kv,List.getElem?_map,hg];rfl
   rw[List.getElem?_map,Array.getElem?_toList]at this;cases he:es[p.1]? with
   |none=>simp[he]at this
   |some e0=>simp[he]at this;simp[this.1]
  simp[execOp,aI hst.fr hx,aI hst.fr hy,aI hst.fr hz,Instr.mapUpdate,run_underlying t1,MapKept.run_getObj_map h1,hc,hf,hkey,MapKept.run_keyThatStays (show MapKept.IsKey (.int q) (.int q k)from rfl),MapKept.run_setObj_map _ h1,Result.andThen,World.putObj]
theorem wU{l:List (Int×Value)}{x y:Operand}{t kt e:TypeId}{k:Int}(z v:Value)(bb:Bool)[ht:Fe P t kt e q][hz:OI P e z](hx:ev F x=some (.map (some b)))(hy:ev F y=some (.int q k))[hm:Fp H b Value q (λv=>v) l f](h1:nV l k z=v)(h2:pG l k=bb):
  VS P N c ⟨d, .lookup t x y true,ty,ps,af,g⟩ F H (.tuple #[v, .bool bb]):=by
 subst h1 h2;haveI:OI P e ((λv:Value=>v) z):=hz;exact OF (E:=λv:Value=>v) z hx hy
theorem Ph{u0 u1 u2 z:Value}{k:Int}(h0:¬k=0)(h1:¬k=1)(h2:¬k=2):nV (tw (tw (tw [] 0 u0) 1 u1) 2 u2) k z=z/\pG (tw (tw (tw [] 0 u0) 1 u1) 2 u2) k=false:=by
 show nV [(0,u0),(1,u1),(2,u2)] k z=z/\pG [(0,u0),(1,u1),(2,u2)] k=false;have e0:(k==0)=false:=by simpa using h0
 have e1:(k==1)=false:=by simpa using h1
 have e2:(k==2)=false:=by simpa using h2
 simp[nV,pG,fK,e0,e1,e2]
end
end Go.Bw
