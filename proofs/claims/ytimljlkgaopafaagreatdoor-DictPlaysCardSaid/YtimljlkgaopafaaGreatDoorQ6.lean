/- Part 6 of what a proof leans on; pruned and shortened by a program out of longer texts. -/
import Derived.Test.YtimljlkgaopafaaGreatDoorQ5
namespace Go.Rw
open Go Go.Bw Go.RowKit
variable {G:Sg} {P:Program} {tt:TT P G} {zt:ZT P G} {J:World->Prop} {ρ:bh} {a:Act} {w:World} {d:Option Tmp} {ty:TypeId} {ps:String} {af:Array Edge} {g:Option (Nat×Bool)}
 {N:Nat} {c:Cx} {H:List aE} {D:List Deferred} {ob:Nat->Option (Ob G)} {E:Operand->Option (AV G)}
def OQ(c:AV G)(i o:Nat):tv:=match c with
 | .dat (.mV n e) _ => .idx n (e.L G).n i
 |_ => .D2 i o
def abx:tv->Bool
 | .idx n _ i=>dH i n
 |_ =>true
def aaX(F:Qt G)(pl:List (Nat×Nat))(E:Operand->Option (AV G)):AV G->List (Nat×Operand)->Option (AV G)
 |c,[]=>some c
 |c,(i,x)::r=>match pl[i]?,E x with
  |some (o,n),some v=>bif (NJ (some n) v||(Nat.beq n 1&&NJ none v))&&(Nat.beq (OQ c i o).off o&&abx (OQ c i o))then(match OR F c [OQ c i o] v with
   |some c'=>aaX F pl E c' r
   |none=>none)else none
  |_,_ =>none
def aez:AV G->Bool
 | .dat t _ =>t.ag
 | .st _ =>true
 |_ =>false
def plT(tt:TT P G)(T:Nat)(parts:List (Nat×Operand)):Option (List (Nat×Nat)):=match tt.te.find T with
 |some (.mV n _ sz _)=>bif (parts.map (·.1)).all λi=>decide (i<n)then some (T8 n sz)else none
 |_ =>HZ P T
def VN(tt:TT P G)(zt:ZT P G)(E:Operand->Option (AV G))(T:Nat)(parts:List (Nat×Operand)):PV G:=match plT tt T parts,zt.z.find T with
 |some pl,some c0=>match aaX tt.F pl E c0 parts with
  |some v=>bif aez v then some ([],v)else none
  |none=>none
 |_,_ =>none
theorem aa1{v:AV G}{u:Value}(h:aez v=true)(hv:rv J ρ v u):u= .agg u.cells:=by
 cases v with
 |dat t x=>obtain⟨u',e,h1⟩:=hv;cases e;obtain⟨cs,e⟩:=h1.2.1 h;rw[e];simp[Value.cells]
 |st a=>obtain⟨cs,e,_⟩:=hv;cases e;simp[Value.cells]
 |_ =>cases h
theorem aaW{F:Qt G}{pl:List (Nat×Nat)}(hE:Ap J ρ a E):∀{parts:List (Nat×Operand)} {c0 v:AV G} {u0:Value},aaX F pl E c0 parts=some v->rv J ρ c0 u0->
  ∃u vs,rv J ρ v u/\D3 (nN a) (parts.map (·.2))=some vs/\vx pl u0.cells.toList ((parts.map (·.1)).zip vs)=some u.cells.toList:=by
 intro parts
 induction parts with
 |nil=>intro c0 v u0 h h0;cases h;exact⟨u0,[],h0,rfl,rfl⟩
 |cons q r ih=>
  obtain⟨i,x⟩:=q;intro c0 v u0 h h0;simp only[aaX]at h;split at h
  ·rename_i o n v1 hp hx
   cases hb:((NJ (some n) v1||(Nat.beq n 1&&NJ none v1))&&(Nat.beq (OQ c0 i o).off o&&abx (OQ c0 i o)))with
   |false=>rw[hb]at h;cases h
   |true=>
    rw[hb]at h;simp only[cond_true]at h;rw[akg,akg]at hb;obtain⟨hb,hbo,hbk⟩:=hb;have hbo:=akf hbo;split at h
    ·rename_i c' hc
     have hv1:=hE.ok _ _ hx;have hsz:(a.eval x).cells.size=n:=by
      simp only[Bool.or_eq_true,akg]at hb;rcases hb with hb|⟨Tg,KV⟩
      ·exact((ad5 hb hv1).2 n rfl).1
      ·rw[(ad5 KV hv1).1 rfl,akf Tg];rfl
     obtain⟨u',k1,k2,k3,_⟩:=Ls hv1 hc h0 (by
      intro s hs;rw[List.mem_singleton.1 hs];revert hbk;generalize OQ c0 i o=s;intro hbk;cases s with
      |D2 _ _ =>trivial
      |idx _ _ _ =>exact hbk)
     obtain⟨u,vs,m1,m2,m3⟩:=ih h k1;refine⟨u,a.eval x::vs,m1,?_,?_⟩
     ·simp only[List.map_cons,D3,hE.ev _ _ hx,m2]
     ·have ho:fj [OQ c0 i o]=o:=by simp[fj,hbo]
      rw[ho]at k2 k3;simp only[List.map_cons,List.zip_cons_cons,vx,hp];rw[ake, ← k2]
      ·exact m3
      ·simp only[ne_eq,hsz,not_true_eq_false,decide_false,Bool.false_or,decide_eq_true_eq,Array.length_toList]
       omega
    ·cases h
  ·cases h
theorem VM(hm:Qq (G:=G) J ρ N c D H ob a w)(hE:Ap J ρ a E){T:Nat}{parts:Array (Nat×Operand)}{v:AV G}{gs:List Bool}(h:VN tt zt E T parts.toList=some (gs,v)):Ch P c J ρ ⟨d, .build T parts,ty,ps,af,g⟩ a w v:=by
 unfold VN at h;split at h
 ·rename_i pl c0 h1 h2
  split at h
  ·rename_i v' hb
   cases hag:aez v' with
   |false=>rw[hag]at h;cases h
   |true=>
    rw[hag]at h;cases h;obtain⟨u0,z1,z2⟩:=zt.ok T c0 h2 J ρ;obtain⟨u,vs,m1,m2,m3⟩:=aaW hE hb z2;haveI:jH P T u0.cells.toList:=⟨z1⟩;have:VS P N c ⟨d, .build T parts.toList.toArray,ty,ps,af,g⟩ (nN a) H (.agg u.cells.toList.toArray):=by
     unfold plT at h1;split at h1
     ·rename_i n e sz MZ ht
      haveI:=tt.mV ht;cases hi:(parts.toList.map (·.1)).all λi=>decide (i<n)with
      |false=>rw[hi]at h1;cases h1
      |true=>rw[hi]at h1;cases h1;exact TU m2 m3 hi
     ·haveI:TPl P T pl:=⟨h1⟩
      exact Ac (P:=P) (N:=N) (c:=c) (H:=H) (d:=d) (ty:=ty) (p:=ps) (af:=af) (g:=g) (F:=nN a) (t:=T) m2 m3
    refine⟨u,m1,?_⟩;have e:=aa1 hag m1;rw[e];have:=this.vk hm.st;simpa using this
  ·cases h
 ·cases h
def eq1{i:Nat}(x y:G.S i)(f:Fd G i):Option Bool:=match f with
 |⟨.int _,_,get,_,_⟩=>some (@BEq.beq Int inferInstance (get x) (get y))
 |⟨.bool,_,get,_,_⟩=>some (@BEq.beq Bool inferInstance (get x) (get y))
 |_ =>none
def eqF{i:Nat}(x y:G.S i):List (Fd G i)->Bool->Option Bool
 |[],b=>some b
 |f::r,b=>match eq1 x y f with
  |some c=>eqF x y r (b&&c)
  |none=>none
def eqS{i:Nat}(x y:G.S i):List (Fd G i)->Option Bool
 |[]=>none
 |f::r=>match eq1 x y f with
  |some c=>eqF x y r c
  |none=>none
def AW{i:Nat}:List (Fd G i)->List (Nat×Option IntKind)
 |[]=>[]
 |f::r=>(f.off,match f.ty with
  | .int k=>some k
  |_ =>none)::AW r
theorem Xt{i:Nat}{x y:G.S i}{f:Fd G i}{b:Bool}{cs ds:List Value}(h:eq1 x y f=some b)(hc:(G.L i).fg J cs x)(hd:(G.L i).fg J ds y):IW cs[f.off]? ds[f.off]? =b/\oI (match f.ty with
  | .int k=>some k
  |_ =>none) cs[f.off]? =true/\oI (match f.ty with
  | .int k=>some k
  |_ =>none) ds[f.off]? =true:=by
 obtain⟨t,o,get,set,ok⟩:=f;cases t<;>simp only[eq1]at h<;>try (cases h;done)
 ·rename_i k
  cases h;have e1:=aV.int (k:=k) ok hc;have e2:=aV.int (k:=k) ok hd;rw[e1,e2];exact⟨rfl,by simp[oI],by simp[oI]⟩
 ·cases h
  have e1:=aV.bool ok hc;have e2:=aV.bool ok hd;rw[e1,e2];exact⟨rfl,rfl,rfl⟩
theorem aeb{i:Nat}{x y:G.S i}{cs ds:List Value}(hc:(G.L i).fg J cs x)(hd:(G.L i).fg J ds y):∀{l:List (Fd G i)} {b e:Bool},eqF x y l b=some e->(b&&yF (AW l) cs ds)=e/\s7 (AW l) cs=true/\s7 (AW l) ds=true:=by
 intro l
 induction l with
 |nil=>intro b e h;cases h;exact⟨by simp[AW,yF],rfl,rfl⟩
 |cons f r ih=>
  intro b e h;simp only[eqF]at h;split at h
  ·rename_i c1 h1
   obtain⟨k1,k2,k3⟩:=Xt h1 hc hd;obtain⟨m1,m2,m3⟩:=ih h;refine⟨?_,?_,?_⟩
   ·simp only[AW,yF,k1];rw[← m1,Bool.and_assoc]
   ·simp only[AW,s7,k2,m2,Bool.and_self]
   ·simp only[AW,s7,k3,m3,Bool.and_self]
  ·cases h
def fdI{i:Nat}(x:G.S i):Fd G i->Option (IntKind×Int)
 |⟨.int k,_,get,_,_⟩=>some (k,get x)
 |_ =>none
def fdB{i:Nat}(x:G.S i):Fd G i->Option Bool
 |⟨.bool,_,get,_,_⟩=>some (get x)
 |_ =>none
def eq2{i j:Nat}(x:G.S i)(y:G.S j)(f:Fd G i)(g:Fd G j):Option Bool:=bif Nat.beq f.off g.off then(match fdI x f,fdI y g with
 |some (k,a),some (l,b)=>bif G5 k l then some (a==b)else none
 |_,_ =>match fdB x f,fdB y g with
  |some a,some b=>some (a==b)
  |_,_ =>none)else none
def aaK{i j:Nat}(x:G.S i)(y:G.S j):List (Fd G i)->List (Fd G j)->Bool->Option Bool
 |[],[],b=>some b
 |f::r,g::q,b=>match eq2 x y f g with
  |some c=>aaK x y r q (b&&c)
  |none=>none
 |_,_,_ =>none
def aaI{i j:Nat}(x:G.S i)(y:G.S j):List (Fd G i)->List (Fd G j)->Option Bool
 |f::r,g::q=>match eq2 x y f g with
  |some c=>aaK x y r q c
  |none=>none
 |_,_ =>none
theorem Xp{i:Nat}{x:G.S i}{f:Fd G i}{k:IntKind}{a:Int}{cs:List Value}(h:fdI x f=some (k,a))(hc:(G.L i).fg J cs x):f.ty= .int k/\cs[f.off]? =some (.int k a):=by
 obtain⟨t,o,get,set,ok⟩:=f;cases t<;>simp only[fdI]at h<;>try (cases h;done)
 cases h;exact⟨rfl,aV.int ok hc⟩
theorem Xq{i:Nat}{x:G.S i}{f:Fd G i}{a:Bool}{cs:List Value}(h:fdB x f=some a)(hc:(G.L i).fg J cs x):f.ty= .bool/\cs[f.off]? =some (.bool a):=by
 obtain⟨t,o,get,set,ok⟩:=f;cases t<;>simp only[fdB]at h<;>try (cases h;done)
 cases h;exact⟨rfl,aV.bool ok hc⟩
theorem Xs{i j:Nat}{x:G.S i}{y:G.S j}{f:Fd G i}{g:Fd G j}{b:Bool}{cs ds:List Value}(h:eq2 x y f g=some b)(hc:(G.L i).fg J cs x)(hd:(G.L j).fg J ds y):IW cs[f.off]? ds[f.off]? =b/\oI (match f.ty with
  | .int k=>some k
  |_ =>none) cs[f.off]? =true/\oI (match f.ty with
  | .int k=>some k
  |_ =>none) ds[f.off]? =true:=by
 unfold eq2 at h;cases hb:Nat.beq f.off g.off with
 |false=>rw[hb]at h;cases h
 |true=>
  rw[hb]at h;have ho:=akf hb;simp only[cond_true]at h;split at h
  ·rename_i k a l b' h1 h2
   obtain⟨t1,e1⟩:=Xp h1 hc;obtain⟨t2,e2⟩:=Xp h2 hd;cases hk:G5 k l with
   |false=>rw[hk]at h;cases h
   |true=>rw[hk]at h;cases h;obtain rfl:=zH hk;rw[← ho]at e2;rw[t1,e1,e2];exact⟨rfl,by simp[oI],by simp[oI]⟩
  ·split at h
   ·rename_i a b' h1 h2
    obtain⟨t1,e1⟩:=Xq h1 hc;obtain⟨t2,e2⟩:=Xq h2 hd;cases h;rw[← ho]at e2;rw[t1,e1,e2];exact⟨rfl,rfl,rfl⟩
   ·cases h
theorem aaJ{i j:Nat}{x:G.S i}{y:G.S j}{cs ds:List Value}(hc:(G.L i).fg J cs x)(hd:(G.L j).fg J ds y):∀{l:List (Fd G i)} {m:List (Fd G j)} {b e:Bool},aaK x y l m b=some e->(b&&yF (AW l) cs ds)=e/\s7 (AW l) cs=true/\s7 (AW l) ds=true:=by
 intro l
 induction l with
 |nil=>
  intro m b e h;cases m with
  |nil=>cases h;exact⟨by simp[AW,yF],rfl,rfl⟩
  |cons _ _ =>cases h
 |cons f r ih=>
  intro m b e h;cases m with
  |nil=>cases h
  |cons g q=>
   simp only[aaK]at h;split at h
   ·rename_i c1 h1
    obtain⟨k1,k2,k3⟩:=Xs h1 hc hd;obtain⟨m1,m2,m3⟩:=ih h;refine⟨?_,?_,?_⟩
    ·simp only[AW,yF,k1];rw[← m1,Bool.and_assoc]
    ·simp only[AW,s7,k2,m2,Bool.and_self]
    ·simp only[AW,s7,k3,m3,Bool.and_self]
   ·cases h
def VL(tt:TT P G)(o:BinOp)(T:Nat):AV G->AV G->PV G
 | .dat (.st i) x, .dat (.st j) y=>if h:j=i then(bif B7 P T (AW (tt.F i))then(match eqS x (h▸y) (tt.F i),o with
  |some b, .eql=>some ([], .bool b)
  |some b, .neq=>some ([], .bool (!b))
  |_,_ =>none)else none)else(bif B7 P T (AW (tt.F i))then(match aaI x y (tt.F i) (tt.F j),o with
  |some b, .eql=>some ([], .bool b)
  |some b, .neq=>some ([], .bool (!b))
  |_,_ =>none)else none)
 |_,_ =>none
theorem VJ(hm:Qq (G:=G) J ρ N c D H ob a w)(hE:Ap J ρ a E){o:BinOp}{T U:Nat}{x y:Operand}{va vb v:AV G}{gs:List Bool}(h:VL tt o T va vb=some (gs,v))(hx:E x=some va)(hy:E y=some vb):Ch P c J ρ ⟨d, .binOp o T x y U,ty,ps,af,g⟩ a w v:=by
 unfold VL at h;split at h
 ·rename_i i x' j y'
  by_cases e:j=i
  ·subst e
   rw[dif_pos rfl]at h;cases hk:B7 P T (AW (tt.F j))with
   |false=>rw[hk]at h;cases h
   |true=>
    rw[hk]at h;simp only[cond_true]at h;obtain⟨u,e1,r1⟩:=hE.ok _ _ hx;obtain⟨u2,e2,r2⟩:=hE.ok _ _ hy;cases e1;cases e2;obtain⟨cs,ec⟩:=r1.2.1 rfl;obtain⟨ds,ed⟩:=r2.2.1 rfl;have hc:(G.L j).fg J cs x':=by have:=r1.1;rw[ec]at this;simp only[Value.cells]at this;exact this
    have hd:(G.L j).fg J ds y':=by have:=r2.1;rw[ed]at this;simp only[Value.cells]at this;exact this
    have fx:=hE.ev _ _ hx;have fy:=hE.ev _ _ hy;rw[ec]at fx;rw[ed]at fy;haveI:Oi P T (AW (tt.F j)):=⟨hk⟩;have main:∀b,eqS x' y' (tt.F j)=some b->yF (AW (tt.F j)) cs ds=b/\s7 (AW (tt.F j)) cs=true/\s7 (AW (tt.F j)) ds=true:=by
     intro b hb;cases hl:tt.F j with
     |nil=>rw[hl]at hb;cases hb
     |cons f r=>
      rw[hl]at hb;simp only[eqS]at hb;split at hb
      ·rename_i c1 h1
       obtain⟨k1,k2,k3⟩:=Xt h1 hc hd;obtain⟨m1,m2,m3⟩:=aeb hc hd hb;exact⟨by simp only[AW,yF,k1];exact m1,by simp only[AW,s7,k2,m2,Bool.and_self],by simp only[AW,s7,k3,m3,Bool.and_self]⟩
      ·cases hb
    split at h
    ·rename_i b hb
     cases h;obtain⟨m1,m2,m3⟩:=main b hb;have:=(MD (P:=P) (N:=N) (c:=c) (H:=H) (d:=d) (ty:=ty) (p:=ps) (af:=af) (g:=g) (T:=T) (U:=U) fx fy m2 m3).vk hm.st;rw[m1]at this;exact⟨_,rfl,this⟩
    ·rename_i b hb
     cases h;obtain⟨m1,m2,m3⟩:=main b hb;have:=(R4 (P:=P) (N:=N) (c:=c) (H:=H) (d:=d) (ty:=ty) (p:=ps) (af:=af) (g:=g) (T:=T) (U:=U) fx fy m2 m3).vk hm.st;rw[m1]at this;exact⟨_,rfl,this⟩
    ·cases h
  ·rw[dif_neg e]at h
   cases hk:B7 P T (AW (tt.F i))with
   |false=>rw[hk]at h;cases h
   |true=>
    rw[hk]at h;simp only[cond_true]at h;obtain⟨u,e1,r1⟩:=hE.ok _ _ hx;obtain⟨u2,e2,r2⟩:=hE.ok _ _ hy;cases e1;cases e2;obtain⟨cs,ec⟩:=r1.2.1 rfl;obtain⟨ds,ed⟩:=r2.2.1 rfl;have hc:(G.L i).fg J cs x':=by have:=r1.1;rw[ec]at this;simp only[Value.cells]at this;exact this
    have hd:(G.L j).fg J ds y':=by have:=r2.1;rw[ed]at this;simp only[Value.cells]at this;exact this
    have fx:=hE.ev _ _ hx;have fy:=hE.ev _ _ hy;rw[ec]at fx;rw[ed]at fy;haveI:Oi P T (AW (tt.F i)):=⟨hk⟩;have main:∀b,aaI x' y' (tt.F i) (tt.F j)=some b->yF (AW (tt.F i)) cs ds=b/\s7 (AW (tt.F i)) cs=true/\s7 (AW (tt.F i)) ds=true:=by
     intro b hb;cases hl:tt.F i with
     |nil=>rw[hl]at hb;simp only[aaI]at hb;cases hb
     |cons f r=>
      cases hm':tt.F j with
      |nil=>rw[hl,hm']at hb;cases hb
      |cons g' q=>
       rw[hl,hm']at hb;simp only[aaI]at hb;split at hb
       ·rename_i c1 h1
        obtain⟨k1,k2,k3⟩:=Xs h1 hc hd;obtain⟨m1,m2,m3⟩:=aaJ hc hd hb;exact⟨by simp only[AW,yF,k1];exact m1,by simp only[AW,s7,k2,m2,Bool.and_self],by simp only[AW,s7,k3,m3,Bool.and_self]⟩
       ·cases hb
    split at h
    ·rename_i b hb
     cases h;obtain⟨m1,m2,m3⟩:=main b hb;have:=(MD (P:=P) (N:=N) (c:=c) (H:=H) (d:=d) (ty:=ty) (p:=ps) (af:=af) (g:=g) (T:=T) (U:=U) fx fy m2 m3).vk hm.st;rw[m1]at this;exact⟨_,rfl,this⟩
    ·rename_i b hb
     cases h;obtain⟨m1,m2,m3⟩:=main b hb;have:=(R4 (P:=P) (N:=N) (c:=c) (H:=H) (d:=d) (ty:=ty) (p:=ps) (af:=af) (g:=g) (T:=T) (U:=U) fx fy m2 m3).vk hm.st;rw[m1]at this;exact⟨_,rfl,this⟩
    ·cases h
 ·cases h
end Go.Rw
namespace Go.Bw
open Go Go.RowKit
end Go.Bw
namespace Go.Bw
open Go Go.RowKit
section rules
variable {P:Program} {N:Nat} {c:Cx} {D:List Deferred} {Q:Exit->Act->World->Prop} {F:eH} {H:List aE} {d:Option Tmp} {ty:TypeId} {ps:String} {af:Array Edge} {g:Option (Nat×Bool)} {α β γ:Type}
theorem SG{w:World}{v:Value}{e sz n m:Nat}{xs:List Value}(h:(aE.row v e sz n xs).holds w)(hm:m<=n):(aE.row (nO 0 m sz v) e sz m (xs.take (m*sz))).holds w:=by
 obtain⟨h1,h2⟩:=h;have hle:m*sz<=n*sz:=Nat.mul_le_mul_right _ hm;refine⟨by rw[List.length_take,h1,Nat.min_eq_left hle],?_⟩;rcases h2 with⟨rfl,rfl⟩|⟨gb,o,cap,cur,rfl,q2,q3,q4,q5,q6⟩
 ·obtain rfl:m=0:=by omega
  exact .inl ⟨by simp[nO],rfl⟩
 ·refine .inr ⟨gb,o,cap,cur,?_,q2,by omega,q4,q5,?_⟩
  ·simp[nO,Addr.add_lit]
  ·rw[← q6,List.take_take,Nat.min_eq_left hle]
theorem SF{w:World}{v:Value}{e sz n l:Nat}{xs:List Value}(h:(aE.row v e sz n xs).holds w)(hl:l<=n):(aE.row (nO l n sz v) e sz (n-l) (xs.drop (l*sz))).holds w:=by
 obtain⟨h1,h2⟩:=h;refine⟨by rw[List.length_drop,h1,Nat.sub_mul],?_⟩;rcases h2 with⟨rfl,rfl⟩|⟨gb,o,cap,cur,rfl,q2,q3,q4,q5,q6⟩
 ·obtain rfl:l=0:=by omega
  exact .inl ⟨by simp[nO],rfl⟩
 ·have hlc:l*sz<=cap*sz:=Nat.mul_le_mul_right _ (by omega)
  by_cases hc:cap=l
  ·refine .inr ⟨gb,o,cap-l,cur,by simp[nO,hc],q2,by omega,by omega,by rw[Nat.sub_mul];omega,?_⟩
   have:n-l=0:=by omega
   rw[this,Nat.zero_mul,List.take_zero];have hle:n*sz<=l*sz:=Nat.mul_le_mul_right _ (by omega);exact(List.drop_of_length_le (by omega)).symm
  ·refine .inr ⟨gb,o+l*sz,cap-l,cur,by simp[nO,hc,Addr.add_lit],q2,by omega,by omega,by rw[Nat.sub_mul];omega,?_⟩
   rw[← q6, ← List.drop_drop,List.drop_take,Nat.sub_mul]
theorem abo{v:Value}{n m sz:Nat}(h:uV v n):uV (nO 0 m sz v) m:=by obtain⟨a,cp,rfl⟩:=h;exact⟨_,_,rfl⟩
theorem Kt(L:cZ α)[bq L](xs:List α){m sz:Nat}(hn:L.n=sz)(hm:m<=xs.length):(eI L xs).take (m*sz)=eI L (xs.take m):=by have:=Vj L xs 0 m (Nat.zero_le _) hm;subst hn;simpa using this
theorem EC(L:cZ α)[bq L](z0:α){z:Value}(he:L.enc z0=[z]):∀n:Nat,eI L (List.replicate n z0)=List.replicate n z
 |0=>rfl
 |n+1=>by have:=EC L z0 he n;rw[List.replicate_succ,List.replicate_succ];show L.enc z0++eI L (List.replicate n z0)=_;rw[he,this];rfl
theorem M8{P:Program}{w:World}{t e ty:Nat}(e1:P.underlying t=some (.slice e))(a:Option Addr)(cp:Nat):(Builtin.clear_ #[t] ty #[.slice a 0 cp]).run P w= .ok (.tuple #[]) w:=by cases a<;>simp[Builtin.clear_,run_underlying e1]
theorem TW{L:cZ α}[bq L]{xs ys:List α}{v:Value}{e t m:Nat}{z0:α}{z:Value}{x:Operand}{f:aE->List aE}(ht:FT P t e 1=true)(hz:Qn P e z)(he:L.enc z0=[z])(hz1:z.cells= #[z])(h1:z.oneCell'=true)(hL:L.n=1)(hm:m<=xs.length)
  (hx:ev F x=some (nO m xs.length 1 v))[hr:vE H v e 1 xs.length (eI L xs) f](hy:ys=xs.take m++List.replicate (xs.length-m) z0):
  RX (α:=Unit) P N c ⟨d, .call ⟨.builtin .clear, #[x], #[t]⟩,ty,ps,af,g⟩ F H (λ_ =>True) (λ_ => .tuple #[]) (λ_ =>f (rY v e 1 L ys)):=λD a w next Q hst hk=>by
 obtain⟨inf,e1,e2,e3⟩:=vD.get ht;obtain⟨k,k1,k2⟩:=hr.ok;have Mb:aE.row v e 1 xs.length (eI L xs)∈H:=List.mem_of_getElem? k1;have hown:kZ w e 1 v xs.length (eI L xs):=hst.hp.holds _ Mb;obtain⟨hlen,FH⟩:=hown;have tD:=aI hst.fr hx;have hyl:ys.length=xs.length:=by rw[hy,List.length_append,List.length_take,List.length_replicate];omega
 by_cases hem:m=xs.length
 ·have hyx:ys=xs:=by rw[hy,hem,List.take_length];simp
  refine ew (by simp) (v:= .tuple #[]) (w':=w) ?_ (hk () w trivial hst.si ?_)
  ·have hv:∃a0 cp,a.eval x= .slice a0 0 cp:=by
    rw[tD,hem];rcases FH with⟨hv,h0⟩|⟨gb,o,cap,cur,hv,_⟩
    ·rw[hv];exact⟨_,_,by rw[nO,Nat.sub_self]⟩
    ·rw[hv];exact⟨_,_,by rw[nO,Nat.sub_self]⟩
   obtain⟨a0,cp,hv⟩:=hv;have:=M8 (P:=P) (w:=w) (ty:=ty) e1 a0 cp;simp[execOp,resolve,invoke,builtin,hv,this]
  ·rw[k2]
   exact hst.hp.C0 k1 (λw hw=>by rw[hyx];exact hw) (λb hb=>by rw[hyx]at hb;exact hb)
 ·rcases FH with⟨_,h0⟩|⟨gb,o,cap,cur,rfl,Rb,hnc,PD,hcs,FF⟩
  ·omega
  have hone:o9 (List.replicate (xs.length-m) z):=λv hv=>by rw[List.eq_of_mem_replicate hv];exact h1
  have hsc:=run_storeCells_at P gb (o+m) e (List.replicate (xs.length-m) z) 0 cur w Rb (by simp;omega) hone;simp only[Nat.add_zero]at hsc;obtain⟨cs',adN⟩:∃cs',(cur.toList.take (o+m)++List.replicate (xs.length-m) z++cur.toList.drop (o+m+(List.replicate (xs.length-m) z).length)).toArray=cs':=⟨_,rfl⟩;rw[adN]at hsc;have jb:aQ [gb] w (w.setRow gb cs'):=⟨rfl,rfl,rfl,by simp,λk _ hk=>setRow_other w gb k _ (by simpa using hk)⟩;refine ew (by simp) (v:= .tuple #[]) (w':=w.setRow gb cs') ?_ (hk () _ trivial (hst.si.store hst.hp Mb (by simp[aE.cI,Value.ownBlock]) jb) ?_)
  ·obtain⟨j,hj⟩:∃j,xs.length-m=j+1:=⟨xs.length-m-1,by omega⟩
   have hzr:=OW hz w;have hzc:=Be hz1 (j+1);have hne:¬cap=m:=by omega
   rw[hj]at hsc;have hx3:a.eval x= .slice (some ⟨gb,o+m,none⟩) (j+1) (cap-m):=by rw[tD];simp[nO,hne,Addr.add_lit,hj]
   simp[execOp,resolve,invoke,builtin,hx3,Builtin.clear_,run_underlying e1,hzr,hzc,hsc]
  ·show bH c.bs c.w0.heap.size (f (rY _ e 1 L ys)) _
   rw[rY,k2];have L7:=setRow_heap w gb cur cs' e (0,0) Rb;refine hst.hp.set k1 jb.size (λj hj hn=>jb.block j hj (by simpa[aE.cI,Value.ownBlock]using hn)) ?_ hst.si.size (λb' hb'=>?_)
   ·refine⟨by rw[mK,hL], .inr ⟨gb,o,cap,cs',by rw[hyl],L7,by omega,PD,?_,?_⟩⟩
    ·rw[← adN];simp;omega
    ·have e7:=vz (cs:=cur.toList) (vs:=List.replicate (xs.length-m) z) (o:=o) (off:=m) (k:=xs.length*1) (by simp;omega) (by have h8:cur.toList.length=cur.size:=Array.length_toList;omega)
     rw[FF]at e7;rw[hyl, ← adN];refine e7.trans ?_;rw[hy,ur,EC L z0 he];have t1:=Kt L xs (m:=m) (sz:=1) hL hm;rw[Nat.mul_one]at t1;unfold bX;rw[t1,List.drop_of_length_le (by simp[mK,hL];omega),List.append_nil]
   ·have h5:b'=gb:=by simpa[aE.cI,Value.ownBlock]using hb'
    subst h5;exact⟨.inl (by simp[aE.cI,Value.ownBlock]),Nat.lt_of_lt_of_le (akl.1 Rb).1 jb.size⟩
theorem ahU{ops:Array Oper}{rest:List Oper}{op:Op}{dd:Tmp}{gg:Option (Nat×Bool)}{b:Bool}{v:Value}(hg:Gd ops F gg b)(hb:b=false)(hd:Nat.blt dd N=true)
  (h:WL P N c D ops Q rest ((dd,bif b then v else undef)::F) H):WL P N c D ops Q (⟨some dd,op,ty,ps,af,gg⟩::rest) F H:=by
 subst hb;exact Mz hg hd h
end rules
end Go.Bw
namespace Go.Rw
open Go Go.Bw Go.RowKit
variable {G:Sg} {P:Program} {tt:TT P G} {zt:ZT P G} {J:World->Prop} {ρ:bh} {a:Act} {w:World} {d:Option Tmp} {ty:TypeId} {ps:String} {af:Array Edge} {g:Option (Nat×Bool)}
 {N:Nat} {c:Cx} {H HK X:List aE} {C:CC G} {S:AS G} {D:List Deferred} {E:Operand->Option (AV G)}
def tyA:AV G->Option Ty
 | .int k _ =>some (.int k)
 | .bool _ =>some .bool
 | .dat t _ =>some t
 |_ =>none
def elA(t:Ty)(E:Operand->Option (AV G)):Nat->List (Nat×Operand)->Option (List (t.T G))
 |_,[]=>some []
 |k,(i,x)::r=>bif Nat.beq i k then(match E x with
  |some v=>match BQ t v,elA t E (k+1) r with
   |some y,some l=>some (y::l)
   |_,_ =>none
  |none=>none)else none
theorem NK{n sz:Nat}:∀{vs:List Value} {k:Nat} {vX:List Value},(∀v∈vs,v.cells.size=sz)->k+vs.length<=n->vX.length=n*sz->
  vx (T8 n sz) vX ((List.range' k vs.length).zip vs)=some (vX.take (k*sz)++vs.flatMap (λv=>v.cells.toList)++vX.drop ((k+vs.length)*sz)):=by
 intro vs
 induction vs with
 |nil=>intro k vX _ _ _;simp[vx]
 |cons v r ih=>
  intro k vX hv hk hl;have h0:=hv v (by simp);have hlt:k<n:=by simp at hk;omega
  have hle:k*sz+sz<=n*sz:=by rw[← Nat.succ_mul];exact Nat.mul_le_mul_right _ hlt
  simp only[List.length_cons,List.range'_succ,List.zip_cons_cons,vx,LX hlt];rw[ake (by simp[h0];omega)];have hsl:(bX vX (k*sz) v.cells.toList).length=n*sz:=by rw[uk (by rw[Array.length_toList];omega)];exact hl
  rw[ih (λx hx=>hv x (by simp[hx])) (by simp at hk;omega) hsl];have hvl:v.cells.toList.length=sz:=by rw[Array.length_toList];exact h0
  have t1:(bX vX (k*sz) v.cells.toList).take ((k+1)*sz)=vX.take (k*sz)++v.cells.toList:=by unfold bX;rw[Nat.succ_mul,List.take_append_of_le_length (by simp[hvl];omega),List.take_of_length_le (by simp[hvl];omega)]
  have t2:(bX vX (k*sz) v.cells.toList).drop ((k+1+r.length)*sz)=vX.drop ((k+(r.length+1))*sz):=by
   have e1:(k+1+r.length)*sz=k*sz+sz+r.length*sz:=by rw[Nat.add_mul,Nat.succ_mul]
   have e2:(k+(r.length+1))*sz=k*sz+sz+r.length*sz:=by rw[← e1];congr 1;omega
   unfold bX;rw[e1,e2,List.drop_append,hvl];have hz:(vX.take (k*sz)++v.cells.toList).length=k*sz+sz:=by simp[hvl];omega
   rw[List.drop_eq_nil_of_le (by rw[hz];omega),List.nil_append,hz,List.drop_drop];congr 1;omega
  rw[t1,t2];simp
theorem aee{t:Ty}(hE:Ap J ρ a E):∀{parts:List (Nat×Operand)} {k:Nat} {xs:List (t.T G)},elA t E k parts=some xs->∃vs,D3 (nN a) (parts.map (·.2))=some vs/\parts.map (·.1)=List.range' k xs.length/\vs.length=xs.length/\
  (∀v∈vs,v.cells.size=(t.L G).n)/\(LA (t.L G) xs.length).fg J (vs.flatMap λv=>v.cells.toList) (λi=>xs.getD i default):=by
 intro parts
 induction parts with
 |nil=>intro k xs h;cases h;exact⟨[],rfl,rfl,rfl,by simp,ae9⟩
 |cons q r ih=>
  obtain⟨i,x⟩:=q;intro k xs h;simp only[elA]at h;cases hb:Nat.beq i k with
  |false=>rw[hb]at h;cases h
  |true=>
   rw[hb]at h;obtain rfl:=akf hb;simp only[cond_true]at h;split at h
   ·rename_i v hx
    split at h
    ·rename_i y l hy hl
     cases h;obtain⟨vs,m1,m2,m3,m4,m5⟩:=ih hl;have hr:=Ar hy (hE.ok _ _ hx);have hlen:=(t.L G).len hr.1;rw[Array.length_toList]at hlen;refine⟨a.eval x::vs,?_,?_,by simp[m3],λv hv=>?_,?_⟩
     ·simp only[List.map_cons,D3,hE.ev _ _ hx,m1]
     ·simp only[List.map_cons,m2,List.length_cons,List.range'_succ]
     ·rcases List.mem_cons.1 hv with rfl|hv
      ·exact hlen
      ·exact m4 v hv
     ·have:=YH (ae8 hr.1) m5
      simpa using this
    ·cases h
   ·cases h
theorem aai{bs:List Nat}{n0 b e sz n:Nat}{cs:List Value}{w:World}(hl:cs.length=n*sz)(hn:n<=9223372036854775807)(h:bH bs n0 (.cells b e cs::H) w):bH bs n0 (.row (.slice (some ⟨b,0,none⟩) n n) e sz n cs::H) w:=by
 have:=h.C0 (k:=0) (r:= .cells b e cs) (r':= .row (.slice (some ⟨b,0,none⟩) n n) e sz n cs) rfl (λw hw=>by
  have hb:w.heap[b]? =some (.cells cs.toArray e (0,0)):=hw;exact Dh (base:=0) ⟨hl, .inr ⟨b,n,_,rfl,Nat.zero_le _,hb,Nat.le_refl _,hn,by simp[hl],List.take_of_length_le (by simp[hl])⟩⟩) (λx hx=>by simpa[aE.cI,Value.ownBlock]using hx)
 exact this
theorem af3{T n e sz bt:Nat}{parts:Array (Nat×Operand)}{z:AV G}{t:Ty}{xs:List (t.T G)}(hT:tt.te.find T=some (.sl e sz bt))(hz:zt.z.find e=some z)(hxs:elA t (gv C S []) 0 parts.toList=some xs)(hn:xs.length=n)(hsz:(t.L G).n=sz)(h0:0<n*sz)(hcap:n*sz<=16777216):
  SK P ⟨d, .buildSlice T n parts,ty,ps,af,g⟩ C S {S with O:=(S.nx, .row e sz t xs)::S.O,nx:=S.nx+1} (.row S.nx):=by
 intro c N ρ J HK X a w next Q h hk
 obtain⟨HS,h1,hs0,hm⟩:=h.st;have hE:=dk h (ch:=[]) (by simp);obtain⟨vs,m1,m2,m3,m4,m5⟩:=aee hE hxs;obtain⟨u,z1,z2⟩:=zt.ok e z hz J ρ;haveI:jH P e u.cells.toList:=⟨z1⟩;haveI:=(tt.sl hT).1;subst hn;subst hsz;have hb0:((List.range (xs.length*(t.L G).n)).map λj=>u.cells.toList[j%u.cells.toList.length]!).length=xs.length*(t.L G).n:=by simp
 have Dv:=NK (n:=xs.length) (sz:=(t.L G).n) (vs:=vs) (k:=0) m4 (by omega) hb0;rw[m3, ← m2]at Dv;have hcs:(((List.range (xs.length*(t.L G).n)).map λj=>u.cells.toList[j%u.cells.toList.length]!).take (0*(t.L G).n)++vs.flatMap (λv=>v.cells.toList)++((List.range (xs.length*(t.L G).n)).map λj=>u.cells.toList[j%u.cells.toList.length]!).drop ((0+xs.length)*(t.L G).n))=vs.flatMap (λv=>v.cells.toList):=by rw[List.drop_eq_nil_of_le (by rw[hb0,Nat.zero_add];exact Nat.le_refl _)];simp
 rw[hcs]at Dv;have hlen:(vs.flatMap (λv=>v.cells.toList)).length=xs.length*(t.L G).n:=(LA (t.L G) xs.length).len m5;have hi:((parts.toList.map (·.1)).all λi=>decide (i<xs.length))=true:=by rw[m2,List.all_eq_true];intro i hi;rw[List.mem_range'_1]at hi;simp;omega
 have Ub:xs.length<=9223372036854775807:=by
  have hpos:0<(t.L G).n:=by
   rcases Nat.eq_zero_or_pos (t.L G).n with q|q
   ·rw[q]at h0;omega
   ·exact q
  have:xs.length<=xs.length*(t.L G).n:=Nat.le_mul_of_pos_right _ hpos;omega
 have:=YA (P:=P) (N:=N) (c:=c) (d:=d) (ty:=ty) (ps:=ps) (af:=af) (g:=g) (F:=nN a) (H:=HS++(HK++X)) (t:=T) (n:=xs.length) m1 Dv hi h0 hcap a.defers a w next Q hs0 λb w' _ hs hp=>by have AY:=aai (n:=xs.length) hlen Ub hp;obtain⟨ρ',q1,q2,q3⟩:=Au (t:=t) (zs:=xs) h h1 hs AY ⟨_,_,rfl⟩ m5 rfl;exact hk ρ' J [] w' _ q1 (λ_ h=>h) q2 q3
 simpa using this
end Go.Rw
namespace Go.Rw
open Go Go.Bw Go.RowKit
variable {G:Sg} {P:Program} {tt:TT P G} {J:World->Prop} {ρ:bh} {a:Act} {w:World} {d:Option Tmp} {ty:TypeId} {ps:String} {af:Array Edge} {g:Option (Nat×Bool)}
 {N:Nat} {c:Cx} {H:List aE} {D:List Deferred} {ob:Nat->Option (Ob G)} {E:Operand->Option (AV G)}
def VD(E:Operand->Option (AV G))(e:Ty)(xs:List (e.T G)):Option Operand->Option Operand->Option Operand->PV G
 |none,none,none=>some ([], .dat (.sl e) xs)
 |some l,none,none=>match mU (E l)with
  |some (_,i,_)=>some ([dH i (xs.length+1)], .dat (.sl e) (xs.drop i.toNat))
  |none=>none
 |none,some h,none=>match mU (E h)with
  |some (_,i,_)=>some ([dH i (xs.length+1)], .dat (.sl e) (xs.take i.toNat))
  |none=>none
 |some l,some h,none=>match mU (E l),mU (E h)with
  |some (_,i,_),some (_,j,_)=>some ([dH j (xs.length+1),dH i (j.toNat+1)], .dat (.sl e) ((xs.drop i.toNat).take (j.toNat-i.toNat)))
  |_,_ =>none
 |none,some h,some m=>match mU (E h),mU (E m)with
  |some (_,i,_),some (_,j,_)=>some ([i==(xs.length:Int),j==(xs.length:Int)], .dat (.sl e) xs)
  |_,_ =>none
 |_,_,_ =>none
def acV(tt:TT P G)(E:Operand->Option (AV G))(T:Nat)(x:Operand)(lo hi mx:Option Operand):PV G:=match E x,tt.te.find T with
 |some (.dat (.sl e) xs),some (.sl _ sz _)=>bif Nat.beq sz (e.L G).n then VD E e xs lo hi mx else none
 |some .kz,some (.sl _ _ _)=>match lo,hi,mx with
  |none,some h,none=>match mU (E h)with
   |some (_,i,q)=>some (XK q (i==0), .kz)
   |none=>none
  |_,_,_ =>none
 |_,_ =>none
theorem Zv{w:World}{v:Value}{sz n:Nat}{xs:List Value}(h:Ro w v sz n xs):Ro w (yp v) sz n xs:=by
 obtain⟨h1,h2⟩:=h;refine⟨h1,?_⟩;rcases h2 with⟨⟨a,cp,rfl⟩,e⟩|⟨gb,off,cap,rfl,q1,q2,q3⟩
 ·exact .inl ⟨⟨a,0,by simp[yp,e]⟩,e⟩
 ·exact .inr ⟨gb,off,n,rfl,q1,Nat.le_refl _,q3⟩
theorem GY{e:Ty}{v:Value}{ws:List Value}{xs:List (e.T G)}(h:Cq J v (e.L G) ws xs):xm (G:=G) J (.sl e) xs v:=by have hc:v.cells.toList=[v]:=h.sl.cells;exact⟨⟨v,ws,hc,h⟩,nofun,λ_ =>by rw[← hc]⟩
theorem ku{E:Operand->Option (AV G)}(hE:Ap J ρ a E){x:Operand}{k:IntKind}{i:Int}{q:Bool}(h:mU (E x)=some (k,i,q)):Bw.ev (nN a) x=some (.int k i):=(v7 hE h).2
theorem VC(hm:Qq (G:=G) J ρ N c D H ob a w)(hE:Ap J ρ a E){T x0 sz b:Nat}{x:Operand}{lo hi mx:Option Operand}{e:Ty}{xs:List (e.T G)}{v:AV G}{gs:List Bool}{v0:Value}{ws:List Value}(ht:tt.te.find T=some (.sl x0 sz b))(hs:sz=(e.L G).n)(hf:Cq J v0 (e.L G) ws xs)(fx:Bw.ev (nN a) x=some v0)
  (h:VD E e xs lo hi mx=some (gs,v))(hg:∀b∈gs,b=true):Ch P c J ρ ⟨d, .slice T x lo hi mx,ty,ps,af,g⟩ a w v:=by
 haveI:=(tt.sl ht).1;haveI:=hm.kn;haveI:=hf.at (c:=c) (H:=H);have cut:∀{l m:Nat} {ys:List (e.T G)},l<=m->m<=xs.length->ys=(xs.drop l).take (m-l)->xm (G:=G) J (.sl e) ys (nO l m sz v0):=λ{l m ys} h1 h2 h3=>by rw[h3];exact GY (Cq.cut hf hs h1 h2)
 unfold VD at h;split at h
 ·cases h
  refine⟨v0,⟨v0,rfl,GY hf⟩,?_⟩;refine(aG (P:=P) (F:=nN a) (H:=H) (by simp) λa' w' WU hs' hp=>?_ :VS P N c _ _ _ _).vk hm.st;obtain⟨i,h1,h2,h3⟩:=vD.get (tt.sl ht).1.ok;obtain⟨a0,cp,rfl⟩:=hf.sl;simp[execOp,aI WU fx,Instr.sliceAt,run_underlying h1,Instr.slice,Instr.sliceBounds,sizeOf,typeInfo,h2,h3,Addr.add]
 ·split at h
  ·rename_i k i q hl
   cases h;obtain⟨h1,h2⟩:=cq (hg (dH i (xs.length+1)) (by simp));have h2:=Nat.lt_succ_iff.1 h2;have fl:=ku hE hl;rw[h1]at fl;refine⟨_,⟨_,rfl,cut h2 (Nat.le_refl _) ?_⟩,(Fa i.toNat fx fl h2).vk hm.st⟩;rw[List.take_of_length_le (by simp)]
  ·cases h
 ·split at h
  ·rename_i k i q hl
   cases h;obtain⟨h1,h2⟩:=cq (hg (dH i (xs.length+1)) (by simp));have h2:=Nat.lt_succ_iff.1 h2;have fl:=ku hE hl;rw[h1]at fl;refine⟨_,⟨_,rfl,cut (Nat.zero_le _) h2 ?_⟩,(K9 i.toNat fx fl h2).vk hm.st⟩;rw[List.drop_zero,Nat.sub_zero]
  ·cases h
 ·split at h
  ·rename_i k i q k' j q' hl hh
   cases h;obtain⟨h1,h2⟩:=cq (hg (dH j (xs.length+1)) (by simp));obtain⟨h3,h4⟩:=cq (hg (dH i (j.toNat+1)) (by simp));have h2:=Nat.lt_succ_iff.1 h2;have h4:=Nat.lt_succ_iff.1 h4;have fl:=ku hE hl;have fh:=ku hE hh;rw[h3]at fl;rw[h1]at fh;exact⟨_,⟨_,rfl,cut h4 h2 rfl⟩,(aeT i.toNat j.toNat fx fl fh h4 h2).vk hm.st⟩
  ·cases h
 ·split at h
  ·rename_i k i q k' j q' hl hh
   cases h;have h1:i=(xs.length:Int):=by simpa using hg (i==(xs.length:Int)) (by simp)
   have h2:j=(xs.length:Int):=by simpa using hg (j==(xs.length:Int)) (by simp)
   have fl:=ku hE hl;have fh:=ku hE hh;rw[h1]at fl;rw[h2]at fh;refine⟨yp v0,⟨_,rfl,GY (ws:=ws) ⟨hf.sl.ajO,hf.fg,λw hw=>Zv (hf.ro w hw)⟩⟩,(R7 fx fl fh).vk hm.st⟩
  ·cases h
 ·cases h
theorem ZD(hm:Qq (G:=G) J ρ N c D H ob a w)(hE:Ap J ρ a E){T:Nat}{x:Operand}{lo hi mx:Option Operand}{v:AV G}{gs:List Bool}(h:acV tt E T x lo hi mx=some (gs,v))(hg:∀b∈gs,b=true):Ch P c J ρ ⟨d, .slice T x lo hi mx,ty,ps,af,g⟩ a w v:=by
 unfold acV at h;split at h
 ·rename_i e xs x0 sz b hx ht
  cases hb:Nat.beq sz (e.L G).n with
  |false=>rw[hb]at h;cases h
  |true=>rw[hb]at h;obtain⟨u',e1,hr,_,hc⟩:=hE.ok _ _ hx;have fx:=hE.ev _ _ hx;cases e1;obtain⟨v',ws,e2,hf⟩:=hr;rw[hc rfl]at e2;cases e2;exact VC hm hE ht (akf hb) hf fx h hg
 ·rename_i x0 sz b hx ht
  split at h
  ·split at h
   ·rename_i k i q hl
    cases h;have h1:i=0:=by simpa using DJ hg
    have fl:=ku hE hl;have fx:=hE.ev _ _ hx;have e0:[a.eval x]=[.slice none 0 0]:=hE.ok _ _ hx;rw[(List.cons.inj e0).1]at fx;rw[h1]at fl;haveI:=(tt.sl ht).1;exact⟨_,rfl,(K8 fx fl).vk hm.st⟩
   ·cases h
  ·cases h
 ·cases h
theorem acD{C:CC G}{S:AS G}{T r e sz bt:Nat}{x hi:Operand}{t:Ty}{xs:List (t.T G)}{k:IntKind}{i:Int}{q:Bool}(hT:tt.te.find T=some (.sl e sz bt))(hx:gv C S [] x=some (.row r))(ho:dm S.O r=some (.row e sz t xs))(hh:mU (gv C S [] hi)=some (k,i,q))(hg:dH i (xs.length+1)=true):
  SK P ⟨d, .slice T x none (some hi) none,ty,ps,af,g⟩ C S {S with O:=(S.nx, .row e sz t (xs.take i.toNat))::xH S.O r,nx:=S.nx+1} (.row S.nx):=by
 intro c N ρ J HK X a w next Q h hk
 obtain⟨HS,h1,hs0,hm⟩:=h.st;have hE:=dk h (ch:=[]) (by simp);obtain⟨kk,x0,k1,⟨vv,ws,m1,rfl,m3,m4,m5⟩,k3⟩:=h1.del ho;have WA:=s5 (hE.ok _ _ hx) m1;have tD:=hE.ev _ _ hx;rw[WA]at tD;obtain⟨g1,g2⟩:=cq hg;have g2:=Nat.lt_succ_iff.1 g2;have fl:=ku hE hh;rw[g1]at fl;haveI:=(tt.sl hT).1;have Mb:aE.row vv e sz xs.length ws∈HS++(HK++X):=akk _ (List.mem_of_getElem? k1);haveI:qf c (HS++(HK++X)) vv sz xs.length ws:=⟨λw' _ hp'=>Ro.vR (hp'.holds _ Mb)⟩;refine(K9 (P:=P) (c:=c) (F:=nN a) (H:=HS++(HK++X)) i.toNat tD fl g2) a.defers a w next Q hs0 λw' hs=>?_
 obtain⟨HS2,q1,q3⟩:=h.hp;have hlen:(xs.take i.toNat).length=i.toNat:=by rw[List.length_take];omega
 have AY:bH c.bs c.w0.heap.size (.row (nO 0 i.toNat sz vv) e sz (xs.take i.toNat).length (ws.take (i.toNat*sz))::(HS.eraseIdx kk++(HK++X))) w':=by
  have p1:=(hs0.hp.ext hs).j9 (pP k1 _);have:=p1.C0 (k:=0) (r':= .row (nO 0 i.toNat sz vv) e sz (xs.take i.toNat).length (ws.take (i.toNat*sz))) rfl (λw hw=>by
   rw[hlen];exact SG hw g2) (λb hb=>by simpa[aE.cI,NU]using hb)
  exact this
 have adB:(LA (t.L G) (xs.take i.toNat).length).fg J (ws.take (i.toNat*sz)) (λj=>(xs.take i.toNat).getD j default):=by have hc:=Qr (Nat.zero_le i.toNat) g2 m4;subst m5;simp only[List.drop_zero,Nat.sub_zero,Nat.zero_mul]at hc;exact hc
 obtain⟨ρ',q1,q2,q3⟩:=Au h k3 (h.si.s.ext hs) AY (by rw[hlen];exact abo m3) adB m5;exact hk ρ' J [] w' _ q1 (λ_ h=>h) q2 q3
theorem U6{C:CC G}{S:AS G}{T r e sz bt:Nat}{x lo:Operand}{t:Ty}{xs:List (t.T G)}{k:IntKind}{i:Int}{q:Bool}(hT:tt.te.find T=some (.sl e sz bt))(hx:gv C S [] x=some (.row r))(ho:dm S.O r=some (.row e sz t xs))(hh:mU (gv C S [] lo)=some (k,i,q))(hg:dH i (xs.length+1)=true):
  SK P ⟨d, .slice T x (some lo) none none,ty,ps,af,g⟩ C S {S with O:=(S.nx, .row e sz t (xs.drop i.toNat))::xH S.O r,nx:=S.nx+1} (.row S.nx):=by
 intro c N ρ J HK X a w next Q h hk
 obtain⟨HS,h1,hs0,hm⟩:=h.st;have hE:=dk h (ch:=[]) (by simp);obtain⟨kk,x0,k1,⟨vv,ws,m1,rfl,m3,m4,m5⟩,k3⟩:=h1.del ho;have WA:=s5 (hE.ok _ _ hx) m1;have tD:=hE.ev _ _ hx;rw[WA]at tD;obtain⟨g1,g2⟩:=cq hg;have g2:=Nat.lt_succ_iff.1 g2;have fl:=ku hE hh;rw[g1]at fl;haveI:=(tt.sl hT).1;have Mb:aE.row vv e sz xs.length ws∈HS++(HK++X):=akk _ (List.mem_of_getElem? k1);haveI:qf c (HS++(HK++X)) vv sz xs.length ws:=⟨λw' _ hp'=>Ro.vR (hp'.holds _ Mb)⟩;refine(Fa (P:=P) (c:=c) (F:=nN a) (H:=HS++(HK++X)) i.toNat tD fl g2) a.defers a w next Q hs0 λw' hs=>?_
 obtain⟨HS2,q1,q3⟩:=h.hp;have hlen:(xs.drop i.toNat).length=xs.length-i.toNat:=by rw[List.length_drop]
 have AY:bH c.bs c.w0.heap.size (.row (nO i.toNat xs.length sz vv) e sz (xs.drop i.toNat).length (ws.drop (i.toNat*sz))::(HS.eraseIdx kk++(HK++X))) w':=by
  have p1:=(hs0.hp.ext hs).j9 (pP k1 _);have:=p1.C0 (k:=0) (r':= .row (nO i.toNat xs.length sz vv) e sz (xs.drop i.toNat).length (ws.drop (i.toNat*sz))) rfl (λw hw=>by
   rw[hlen];exact SF hw g2) (λb hb=>by simpa[aE.cI,NU]using hb)
  exact this
 have adB:(LA (t.L G) (xs.drop i.toNat).length).fg J (ws.drop (i.toNat*sz)) (λj=>(xs.drop i.toNat).getD j default):=by have hc:=Qr g2 (Nat.le_refl _) m4;subst m5;have hw:ws.length=xs.length*(t.L G).n:=(LA (t.L G) xs.length).len m4;rw[List.take_of_length_le (by simp),List.take_of_length_le (by rw[List.length_drop,hw,Nat.sub_mul];exact Nat.le_refl _)]at hc;exact hc
 have hsl:uV (nO i.toNat xs.length sz vv) (xs.drop i.toNat).length:=by rw[hlen];obtain⟨a0,cp,rfl⟩:=m3;exact⟨_,_,rfl⟩
 obtain⟨ρ',q1,q2,q3⟩:=Au h k3 (h.si.s.ext hs) AY hsl adB m5;exact hk ρ' J [] w' _ q1 (λ_ h=>h) q2 q3
end Go.Rw
namespace Go.Bw
open Go
universe u
theorem rf{α:Sort u}{a:α}:a=a:=rfl
abbrev A(c:List Value):Value:= .agg c.toArray
abbrev Vs:=List Value
class ahV(P:Program)(t:TypeId):Prop where
 ok:P.underlying t=some .string
def look{α:Type}:List (Nat×α)->Nat->Option α
 |[],_ =>none
 |(k,v)::r,d=>bif Nat.beq k d then some v else look r d
def ikn:IntKind->Nat
 | .i8=>0| .i16=>1| .i32=>2| .i64=>3| .u8=>4| .u16=>5| .u32=>6| .u64=>7
def G5(k l:IntKind):Bool:=Nat.beq (ikn k) (ikn l)
theorem zH{k l:IntKind}(h:G5 k l=true):k=l:=by cases k<;>cases l<;>first|rfl|(exact absurd h (by decide))
structure Tb where
 fl:List (Nat×List (Nat×Nat))
 ik:List (Nat×IntKind)
def XD(P:Program)(T:Tb):Bool:=
 (T.fl.all λp=>p.2.all λq=>IT P p.1 q.1 q.2)&&T.ik.all λp=>match P.underlying p.1 with|some (.int k)=>G5 k p.2|_ =>false
class Oh(P:Program)(T:outParam Tb):Prop where
 ok:XD P T=true
theorem Ii{α:Type}:∀{l:List (Nat×α)} {d:Nat} {v:α},look l d=some v->(d,v)∈l:=by
 intro l
 induction l with
 |nil=>intro d v h;cases h
 |cons p r ih=>
  intro d v h;obtain⟨k,u⟩:=p;simp only[look]at h;by_cases e:k=d
  ·subst e;rw[Nat.beq_refl]at h;simp at h;subst h;simp
  ·rw[uO e]at h;simp at h;exact akp _ (ih h)
def Tb.off(T:Tb)(s f:Nat):Option Nat:=match look T.fl s with
 |some l=>look l f
 |none=>none
def Tb.int(T:Tb)(t:Nat):Option IntKind:=look T.ik t
theorem Oh.D2{P:Program}{T:Tb}(h:Oh P T){s f o:Nat}(e:T.off s f=some o):Gy P s f o:=by
 have h:=h.ok;unfold XD at h;rw[akg]at h;unfold Tb.off at e;split at e
 ·rename_i l h1
  exact⟨List.all_eq_true.1 (List.all_eq_true.1 h.1 _ (Ii h1)) _ (Ii e)⟩
 ·cases e
theorem Oh.ty{P:Program}{T:Tb}(h:Oh P T){t:Nat}{k:IntKind}(e:T.int t=some k):Yn P t k:=by
 have h:=h.ok;unfold XD at h;rw[akg]at h;have h2:=List.all_eq_true.1 h.2 _ (Ii e);dsimp only at h2;split at h2
 ·rename_i k' e2
  rw[zH h2]at e2;exact⟨e2⟩
 ·cases h2
def af4(o:BinOp)(k:IntKind)(a b:Int):Option Value:=match o with
 | .add=>some (.int k (k.wrap (a+b)))
 | .sub=>some (.int k (k.wrap (a-b)))
 | .mul=>some (.int k (k.wrap (a*b)))
 | .eql=>some (.bool (a==b))
 | .neq=>some (.bool (a !=b))
 | .lss=>some (.bool (decide (a<b)))
 | .leq=>some (.bool (decide (a<=b)))
 | .gtr=>some (.bool (decide (b<a)))
 | .geq=>some (.bool (decide (b<=a)))
 |_ =>none
def sv(T:Tb)(F:eH):Op->Option Value
 | .move x=>ev F x
 | .assign x=>ev F x
 | .nilCheck x=>match ev F x with
  |some (.pointer (some a))=>some (.pointer (some a))
  |_ =>none
 | .unOp .not _ x=>match ev F x with
  |some (.bool b)=>some (.bool (!b))
  |_ =>none
 | .unOp .neg _ x=>match ev F x with
  |some (.int k a)=>some (.int k (k.wrap (0-a)))
  |_ =>none
 | .binOp o _ x y _ =>match ev F x with
  |some (.int k a)=>match ev F y with
   |some (.int l b)=>bif G5 k l then af4 o k a b else none
   |_ =>none
  |_ =>none
 | .convert S t x=>match ev F x with
  |some (.int k a)=>match T.int S with
   |some l=>bif G5 l k then(match T.int t with
    |some k'=>some (.int k' (k'.wrap a))
    |none=>none)else none
   |none=>none
  |_ =>none
 | .extract x i=>match ev F x with
  |some (.tuple vs)=>vs.toList[i]?
  |_ =>none
 | .fieldAddr s x f=>match ev F x with
  |some (.pointer (some ⟨b,off,none⟩))=>match T.off s f with
   |some fo=>some (dO b (off+fo))
   |none=>none
  |_ =>none
 | .makeFunc fn first cap=>match first.toList with
  |[]=>match D3 F cap.toList with
   |some vs=>some (.func fn #[] vs.toArray)
   |none=>none
  |_ =>none
 |_ =>none
theorem UQ{P:Program}{T:Tb}[hT:Oh P T]{N:Nat}{c:Cx}{F:eH}{H:List aE}{op:Op}{v:Value}{d:Option Tmp}{ty:TypeId}{ps:String}{af:Array Edge}{g:Option (Nat×Bool)}
  (h:sv T F op=some v):VS P N c ⟨d,op,ty,ps,af,g⟩ F H v:=by
 unfold sv at h;split at h
 ·exact cz h
 ·exact oZ h
 ·split at h
  ·rename_i a e;obtain rfl:=Option.some.inj h;exact vC e
  ·cases h
 ·split at h
  ·rename_i b e;obtain rfl:=Option.some.inj h;exact Cd e
  ·cases h
 ·split at h
  ·rename_i e;obtain rfl:=Option.some.inj h;exact Yg e rfl
  ·cases h
 ·split at h
  ·rename_i o _ x y _ k a e
   split at h
   ·rename_i l b e2
    cases hb:G5 k l with
    |false=>rw[hb]at h;cases h
    |true=>
     rw[hb]at h;obtain rfl:=zH hb;simp only[cond_true]at h;unfold af4 at h;split at h
     ·obtain rfl:=Option.some.inj h;exact aeU e e2 rfl
     ·obtain rfl:=Option.some.inj h;exact X9 e e2 rfl
     ·obtain rfl:=Option.some.inj h;exact aeL e e2 rfl
     ·obtain rfl:=Option.some.inj h;exact aeS e e2
     ·obtain rfl:=Option.some.inj h;exact aeK e e2
     ·obtain rfl:=Option.some.inj h;exact aeO e e2
     ·obtain rfl:=Option.some.inj h;exact aeP e e2
     ·obtain rfl:=Option.some.inj h;exact Yi e e2
     ·obtain rfl:=Option.some.inj h;exact Qm e e2
     ·cases h
   ·cases h
  ·cases h
 ·split at h
  ·rename_i S t x k a e
   split at h
   ·rename_i l e1
    cases hb:G5 l k with
    |false=>rw[hb]at h;cases h
    |true=>
     rw[hb]at h;obtain rfl:=zH hb;simp only[cond_true]at h;split at h
     ·rename_i k' e2
      obtain rfl:=Option.some.inj h;haveI:=hT.ty e1;haveI:=hT.ty e2;exact R6 e rfl
     ·cases h
   ·cases h
  ·cases h
 ·split at h
  ·rename_i vs e
   exact mW (vs:=vs.toList) e h
  ·cases h
 ·split at h
  ·rename_i e
   split at h
   ·rename_i fo e1
    obtain rfl:=Option.some.inj h;haveI:=hT.D2 e1;exact DM e
   ·cases h
  ·cases h
 ·rename_i fn first cap
  split at h
  ·rename_i e
   split at h
   ·rename_i e1
    obtain rfl:=Option.some.inj h;obtain⟨l⟩:=first
    obtain rfl:l=[]:=e;exact rO (cap:=cap.toList) e1
   ·cases h
  ·cases h
 ·cases h
inductive Kf where
 |th (y:Code)
 |tk (K:Act->World->Prop)
 |bl (id:Nat)
def dq(P:Program)(ro:Option Nat)(Q:Exit->Act->World->Prop):List Kf->Exit->Act->World->Prop
 |[]=>Q
 | .th y::ks=>Exit.then (y.wpIn (FA ro) 0 P (dq P ro Q ks)) (dq P ro Q ks)
 | .tk K::ks=>Exit.then K (dq P ro Q ks)
 | .bl id::ks=>Exit.inBlock id (dq P ro Q ks)
inductive Cf where
 |C (x:Code)
 |L (ops:Array Oper) (l:List Oper)
 |X (e:Exit)
def GG(P:Program)(N:Nat)(c:Cx)(D:List Deferred)(Q:Exit->Act->World->Prop)(ks:List Kf)(F:eH)(H:List aE):Cf->Prop
 | .C x=>WP P N c D x (dq P c.ro Q ks) F H
 | .L ops l=>WL P N c D ops (dq P c.ro Q ks) l F H
 | .X e=>WQ N c D (dq P c.ro Q ks) e F H
def s1(T:Tb)(N:Nat):Cf->List Kf->eH->Option (Cf×List Kf×eH)
 | .C x,ks,F=>match x with
  | .seq x y=>some (.C x, .th y::ks,F)
  | .block id x=>some (.C x, .bl id::ks,F)
  | .region _ ops false=>some (.L ops ops.toList,ks,F)
  | .skip=>some (.X .normal,ks,F)
  | .label _ =>some (.X .normal,ks,F)
  | .ret=>some (.X .ret,ks,F)
  | .exit id=>some (.X (.exit id),ks,F)
  |_ =>none
 | .L ops l,ks,F=>match l with
  |[]=>some (.X .normal,ks,F)
  |⟨some d,op,_,_,_,none⟩::r=>match sv T F op with
   |some v=>bif Nat.blt d N then some (.L ops r,ks,(d,v)::F)else none
   |none=>none
  |_ =>none
 | .X e,ks,F=>match e,ks with
  | .normal, .th y::ks=>some (.C y,ks,F)
  | .normal, .bl _ ::ks=>some (.X .normal,ks,F)
  | .ret, .th _ ::ks=>some (.X .ret,ks,F)
  | .ret, .tk _ ::ks=>some (.X .ret,ks,F)
  | .ret, .bl _ ::ks=>some (.X .ret,ks,F)
  | .exit i, .th _ ::ks=>some (.X (.exit i),ks,F)
  | .exit i, .tk _ ::ks=>some (.X (.exit i),ks,F)
  | .exit i, .bl k::ks=>bif Nat.beq i k then some (.X .normal,ks,F)else some (.X (.exit i),ks,F)
  |_,_ =>none
def sp(T:Tb)(N:Nat):Nat->Cf->List Kf->eH->Option (Cf×List Kf×eH)
 |0,cf,ks,F=>some (cf,ks,F)
 |n+1,cf,ks,F=>match s1 T N cf ks F with
  |some (cf,ks,F)=>sp T N n cf ks F
  |none=>none
section
variable {P:Program} {T:Tb} [hT:Oh P T] {N:Nat} {c:Cx} {D:List Deferred} {Q:Exit->Act->World->Prop} {ks ks':List Kf} {F F':eH} {H:List aE} {cf YV:Cf}
theorem aga(h:s1 T N cf ks F=some (YV,ks',F'))(g:GG P N c D Q ks' F' H YV):GG P N c D Q ks F H cf:=by
 unfold s1 at h;split at h
 ·split at h
  all_goals first
   |(cases h;done)
   |skip
  ·cases h;exact qQ g
  ·cases h;exact X8 g
  ·cases h;exactλa w hst=>wpIn_region_lit (l:=Array.toList _) (g a w hst)
  ·cases h;exact DL g
  ·cases h;exact X6 g
  ·cases h;exact aeE g
  ·cases h;exact aa8 g
 ·split at h
  ·cases h;exact qR g
  ·split at h
   ·rename_i d op _ _ _ _ _ v hv
    cases hd:Nat.blt d N with
    |false=>rw[hd]at h;cases h
    |true=>rw[hd]at h;cases h;exact bQ hd (UQ hv) g
   ·cases h
  ·cases h
 ·split at h
  ·cases h;exact ny g
  ·cases h;exact X3 g
  ·cases h;exact FZ g
  ·cases h;exact FZ g
  ·cases h;exact Mx g
  ·cases h;exact DK g
  ·cases h;exact DK g
  ·rename_i i k ks
   cases hb:Nat.beq i k with
   |true=>rw[hb]at h;cases h;obtain rfl:=akf hb;exact J5 g
   |false=>rw[hb]at h;cases h;exact J4 hb g
  ·cases h
theorem QB:∀{n:Nat} {cf:Cf} {ks:List Kf} {F:eH},sp T N n cf ks F=some (YV,ks',F')->GG P N c D Q ks' F' H YV->GG P N c D Q ks F H cf
 |0,_,_,_,h,g=>by cases h;exact g
 |n+1,_,_,_,h,g=>by
  simp only[sp]at h;split at h
  ·rename_i e;exact aga e (QB h g)
  ·cases h
class QF(P:Program)(ro:Option Nat)(Q:Exit->Act->World->Prop)(ks:outParam (List Kf))(Q0:outParam (Exit->Act->World->Prop)):Prop where
 ok:Q=dq P ro Q0 ks
instance(priority:=100) ajX(P ro Q ks):QF P ro (dq P ro Q ks) ks Q:=⟨rfl⟩
instance(priority:=50) ajW(P ro K Q ks Q0)[h:QF P ro Q ks Q0]:QF P ro (Exit.then K Q) (.tk K::ks) Q0:=⟨by rw[h.ok];rfl⟩
instance(priority:=10) ajR(P ro Q):QF P ro Q [] Q:=⟨rfl⟩
theorem SC{x:Code}{Q0:Exit->Act->World->Prop}[q:QF P c.ro Q ks Q0](n:Nat)(h:sp T N n (.C x) ks F=some (YV,ks',F'))(g:GG P N c D Q0 ks' F' H YV):WP P N c D x Q F H:=by have:=QB (H:=H) (D:=D) h g;rw[q.ok];exact this
theorem SL{ops:Array Oper}{l:List Oper}{Q0:Exit->Act->World->Prop}[q:QF P c.ro Q ks Q0](n:Nat)(h:sp T N n (.L ops l) ks F=some (YV,ks',F'))(g:GG P N c D Q0 ks' F' H YV):WL P N c D ops Q l F H:=by have:=QB (H:=H) (D:=D) h g;rw[q.ok];exact this
class QX(Q:Exit->Act->World->Prop)(ro:Option Nat)(P:outParam Program)(ks:outParam (List Kf))(Q0:outParam (Exit->Act->World->Prop)):Prop where
 ok:Q=dq P ro Q0 ks
instance(priority:=100) ajV(P ro Q ks):QX (dq P ro Q ks) ro P ks Q:=⟨rfl⟩
theorem SX{e:Exit}{Q0:Exit->Act->World->Prop}[q:QX Q c.ro P ks Q0](n:Nat)(h:sp T N n (.X e) ks F=some (YV,ks',F'))(g:GG P N c D Q0 ks' F' H YV):WQ N c D Q e F H:=by have:=QB (P:=P) (H:=H) (D:=D) h g;rw[q.ok];exact this
end
theorem abb{P:Program}{N:Nat}{c:Cx}{F:eH}{H:List aE}{d:Option Tmp}{ty:TypeId}{ps:String}{af:Array Edge}{g:Option (Nat×Bool)}{T:TypeId}{y:Operand}{s:ByteArray}{k:IntKind}{i:Int}{m:Nat}(hs:s=Lib.pop8tab)(hy:ev F y=some (.int k i))(hi:i=(m:Int))(hm:m<256)[hT:ahV P T]:
  VS P N c ⟨d, .index T (.const (.string s)) y,ty,ps,af,g⟩ F H (.int .u8 (Lib.pop8 i)):=
 aG (by simp) λa w hf _ _ =>by subst hs;have e1:a.eval (.const (.string Lib.pop8tab))= .string Lib.pop8tab:=rfl;have:=Lib.run_index_pop8tab (P:=P) w T k i hT.ok (by omega) (by omega);simp only[execOp,e1,aI hf hy];simp[this]
theorem sj{α:Type}{a b:α}(h:some a=some b):a=b:=Option.some.inj h
theorem mo{α:Type}{L:cZ α}{A B:World->Prop}{cs:Vs}{x:α}[Ent B A](h:L.fg A cs x):L.fg B cs x:=cZ.mono _ ent h
theorem fl{α:Type}{L:cZ α}[bq L]{J:World->Prop}{x:α}:L.fg J (L.enc x) x:=bq.iff.2 rfl
def H9:List Nat->Bool
 |[]=>true
 |k::r=> !(r.any (Nat.beq k))&&H9 r
theorem KD:∀{l:List Nat},H9 l=true->l.Nodup
 |[],_ => .nil
 |k::r,h=>by simp only[H9,akg,Bool.not_eq_true']at h;refine List.nodup_cons.2 ⟨λhm=>?_,KD h.2⟩;have:=List.any_eq_false.1 h.1 k hm;rw[Nat.beq_refl]at this;exact this rfl
def Kz(H:List aE)(ks:List Nat):Option (List aE):=bif H9 ks then pick H ks else none
theorem uz{H R:List aE}{ks:List Nat}(h:Kz H ks=some R):pick H ks=some R/\ks.Nodup:=by
 unfold Kz at h;cases hb:H9 ks with
 |true=>rw[hb]at h;exact⟨h,KD hb⟩
 |false=>rw[hb]at h;cases h
def Ss(F:eH):eH->Option eH
 |[]=>some []
 |(k,_)::r=>match lk F k with
  |some v=>match Ss F r with
   |some l=>some ((k,v)::l)
   |none=>none
  |none=>none
theorem GV{F:eH}:∀{I:eH},Ss F I=some I->Sub I F
 |[],_ =>trivial
 |(k,u)::r,h=>by
  simp only[Ss]at h;split at h
  ·rename_i v hv
   split at h
   ·rename_i l hl
    simp only[Option.some.injEq,List.cons.injEq,Prod.mk.injEq,true_and]at h;obtain⟨h1,h2⟩:=h;subst h1;subst h2;exact⟨hv,GV hl⟩
   ·cases h
  ·cases h
def Il(F:eH):List Nat->Option eH
 |[]=>some []
 |k::r=>match lk F k with
  |some v=>match Il F r with
   |some l=>some ((k,v)::l)
   |none=>none
  |none=>none
theorem zF{F:eH}:∀{sl:List Nat} {K:eH},Il F sl=some K->Kb F sl K
 |[],K,h=>by obtain rfl:=Option.some.inj h;exact .nil
 |k::r,K,h=>by
  simp only[Il]at h;split at h
  ·rename_i v hv
   split at h
   ·rename_i l hl
    obtain rfl:=Option.some.inj h;exact .cons hv (zF hl)
   ·cases h
  ·cases h
section
variable {P:Program} {N:Nat} {c:Cx} {D:List Deferred} {Q:Exit->Act->World->Prop} {F:eH} {H:List aE} {d:Tmp} {op:Op} {ty:TypeId} {ps:String} {af:Array Edge} {g:Option (Nat×Bool)} {ops:Array Oper} {rest:List Oper} {α β:Type}
theorem W0{H':List aE}(h:RX (α:=Unit) P N c ⟨none,op,ty,ps,af,none⟩ F H (λ_ =>True) (λ_ =>undef) (λ_ =>H'))(k:WL P N c D ops Q rest F H'):WL P N c D ops Q (⟨none,op,ty,ps,af,none⟩::rest) F H:=F1 h λ_ _ =>k
theorem W1{fv:α->Value}{fH:α->List aE}(hd:Nat.blt d N=true)(h:RX P N c ⟨some d,op,ty,ps,af,none⟩ F H (λ_ =>True) fv fH)(k:∀x,WL P N c D ops Q rest ((d,fv x)::F) (fH x)):WL P N c D ops Q (⟨some d,op,ty,ps,af,none⟩::rest) F H:=A4 hd h λx _ =>k x
theorem CV{args:List Operand}{ats:Array TypeId}{f:Nat}{vs:List Value}{v:Value}{pre:World->Prop}(hc:FnW P f vs pre v)(hd:Nat.blt d N=true)(ha:D3 F args=some vs)[q:Kn c H pre](k:WL P N c D ops Q rest ((d,v)::F) H):
  WL P N c D ops Q (⟨some d, .call ⟨.value (.func f),args.toArray,ats⟩,ty,ps,af,none⟩::rest) F H:=bQ hd (MF hc ha q.ok) k
theorem Ol{ρ:Type}{m1 m2:Option ρ}{r:ρ}{x:Operand}{y z:Code}{t:Bool}(h:cn t m1 m2=some r)(hc:ev F x=some (.bool t))(h1:t=true->m1=some r->WP P N c D y Q F H)(h0:t=false->m2=some r->WP P N c D z Q F H):WP P N c D (.cond x y z) Q F H:=
 I9 hc (λe=>h1 e (P8 e h)) (λe=>h0 e (P9 e h))
structure ahW(n o:Nat)(cs vs cc:Vs):Prop where
 eq:bX cs o vs=cc
 lv:vs.length=n
 le:o+n<=cs.length
 one:o9 vs
theorem sto{L:cZ α}{M:cZ β}{o:Nat}{gg:α->β}{s:α->β->α}{cs vs:Vs}{x x':α}{v:β}{C:World->Prop}(p:aV L M o gg s)(r:L.fg C cs x)(rv:M.fg C vs v)(e:x'=s x v):∃cc,ahW M.n o cs vs cc/\L.fg C cc x':=by subst e;exact⟨_,⟨rfl,M.len rv,by rw[L.len r];exact p.le,M.one rv⟩,p.set r rv⟩
theorem RXs{o n m b t T:Nat}{y z:Operand}{val:Value}{cs cs' vs:Vs}{H':List aE}{d:Option Tmp}(q:ahW n o cs vs cs')(hx:ev F y=some (dO b o))(hz:ev F z=some val)(hv:val.cells.toList=vs)[sE H b T cs][R9 P t m](hn:n=m)[Gz H b cs' H']:
  RX (α:=Unit) P N c ⟨d, .store t y z,ty,ps,af,g⟩ F H (λ_ =>True) (λ_ =>undef) (λ_ =>H'):=by subst hn;exact rP hx hz hv q.lv q.le q.one q.eq
theorem rn:v8 P F H [] []:= .nil
theorem rt{t:Nat}{v:Value}{rs:List ResultVar}{vs:Vs}(hv:lk F t=some v)(h:v8 P F H rs vs):v8 P F H (.tmp t::rs) (v::vs):= .tmp hv h
theorem ra{t ty b T n:Nat}{cs:Vs}{rs:List ResultVar}{vs:Vs}(hv:lk F t=some (dO b 0))[hr:sE H b T cs][ht:ve P ty n](hl:cs.length=n)(h:v8 P F H rs vs):v8 P F H (.cell t ty::rs) (.agg cs.toArray::vs):= .agg hv hr ht hl h
theorem ro{t ty b T:Nat}{v:Value}{cs:Vs}{rs:List ResultVar}{vs:Vs}(hv:lk F t=some (dO b 0))[hr:sE H b T cs][ht:qS P ty](hl:cs=[v])(h:v8 P F H rs vs):v8 P F H (.cell t ty::rs) (v::vs):= .one hv hr ht hl h
theorem RV{fn:Func}{rs:List ResultVar}{vs:Vs}{v:Value}(hf:fn.results.toList=rs)(hr:v8 P F H rs vs)(hv:BT vs=v):WQ N c [] (Post P c fn (λ_ :Unit=>True) (λ_ =>v) (λ_ =>[])) .ret F H:=Aa () hf hr trivial hv (ks:=[]) rfl .nil
theorem RBu{fn:Func}{rs:List ResultVar}{vs:Vs}{R:List aE}{p:Value×List Nat×(World->Prop)->Prop}(ks:List Nat)(hk:Kz H ks=some R)(hf:fn.results.toList=rs)(hr:v8 P F H rs vs)(hp:p (BT vs,bF R,Hs R)):
  WQ N c [] (Post P c fn p (λx=>x.1) (λx=>[.ext x.2.1 x.2.2])) .ret F H:=λa w hst=>by
 show LeavesInM (FA none) 0 P fn a.tmps _ a.defers .returning w;rw[hst.df];obtain⟨h1,h2⟩:=uz hk;exact⟨_,FB hf hst.fr hst.hp hr,(BT vs,bF R,Hs R),hp,rfl,hst.si,XH (H':=[]) (by rw[List.append_nil];exact hst.hp.pick h1 h2)⟩
theorem LO{x:Code}(sl ks:List Nat)(I:Nat×β->eH)(J:Nat×β->List aE)(p:Nat×β->Prop)(i0:Nat×β)(Px:p i0){K:eH}(hK:Il F sl=some K)(hs:Ss F (I i0)=some (I i0))(hk:Kz H ks=some (J i0))
  (hb:∀m y,p (m,y)->WP P N c D x (Se N c D Q sl K I J p (λz=>z.1) (m,y)) (I (m,y)++K) (J (m,y))):WP P N c D (.loop x) Q F H:=
 X4 sl (zF hK) I J p (λz=>z.1) i0 Px (GV hs) (uz hk).1 (uz hk).2 λi hi=>hb i.1 i.2 hi
theorem LN{K:eH}{sl:List Nat}{I:Nat×β->eH}{J:Nat×β->List aE}{p:Nat×β->Prop}{m:Nat}{y0:β}(ks:List Nat)(y:β)(hp:p (m,y))(hs:Ss F (I (m,y))=some (I (m,y)))(hl:Il F sl=some K)(hk:Kz H ks=some (J (m,y))):
  WQ N c D (Se N c D Q sl K I J p (λz=>z.1) (m+1,y0)) .normal F H:=XZ (m,y) (Nat.lt_succ_self _) hp (GV hs) (zF hl) (uz hk).1 (uz hk).2
theorem CU{x y:Code}(sl:List Nat){K:eH}(hK:Il F sl=some K)(I:α->eH)(J:α->List aE)(p:α->Prop)(h1:WP P N c D x (abt N c D Q sl K I J p) F H)(h2:∀i,p i->WP P N c D y Q (I i++K) (J i)):WP P N c D (.seq x y) Q F H:=aa9 sl (zF hK) I J p h1 h2
theorem CE{K:eH}{sl:List Nat}{I:α->eH}{J:α->List aE}{p:α->Prop}(ks:List Nat)(i:α)(hp:p i)(hs:Ss F (I i)=some (I i))(hl:Il F sl=some K)(hk:Kz H ks=some (J i)):WQ N c D (abt N c D Q sl K I J p) .normal F H:=aa5 i hp (GV hs) (zF hl) (uz hk).1 (uz hk).2
end
def sn(T:Tb)(N:Nat)(ops:Array Oper):Nat->List Fl->eH->Option (List Fl×eH)
 |0,l,F=>some (l,F)
 |n+1,l,F=>match l with
  |(i,ks)::r=>match ops[i]? with
   |some ⟨some d,op,_,_,_,none⟩=>match sv T (su F ks) op with
    |some v=>bif Nat.blt d N then sn T N ops n r ((d,v)::F)else none
    |none=>none
   |_ =>none
  |[]=>none
def sr(T:Tb)(ops:Array Oper)(F:eH):Nat->List Fl->Option (List Value×List Fl)
 |0,l=>some ([],l)
 |n+1,l=>match l with
  |(i,ks)::r=>match ops[i]? with
   |some ⟨some _,op,_,_,_,none⟩=>match sv T (su F ks) op with
    |some v=>match sr T ops F n r with
     |some (vs,l')=>some (v::vs,l')
     |none=>none
    |none=>none
   |_ =>none
  |[]=>none
def sk(ops:Array Oper)(F:eH):Nat->List Fl->Option (List Value)
 |0,_ =>some []
 |n+1,l=>match l with
  |(i,_)::r=>match ops[i]? with
   |some ⟨some d,_,_,_,_,none⟩=>match lk F d with
    |some v=>match sk ops F n r with
     |some vs=>some (v::vs)
     |none=>none
    |none=>none
   |_ =>none
  |[]=>none
section
variable {P:Program} {T:Tb} [hT:Oh P T] {N:Nat} {c:Cx} {D:List Deferred} {ops:Array Oper} {Q:Exit->Act->World->Prop} {F F':eH} {H:List aE} {l l':List Fl}
theorem NS{K:eH->Prop}(n:Nat)(h:sn T N ops n l F=some (l',F'))(k:rR P N c ops H l' F' K):rR P N c ops H l F K:=by
 induction n generalizing l F with
 |zero=>cases h;exact k
 |succ n ih=>
  simp only[sn]at h;split at h
  ·rename_i i ks r
   split at h
   ·rename_i d op _ _ _ ho
    split at h
    ·rename_i v hv
     cases hd:Nat.blt d N with
     |false=>rw[hd]at h;cases h
     |true=>rw[hd]at h;exact Cn ho hd (Ym rfl (UQ hv)) (ih h)
    ·cases h
   ·cases h
  ·cases h
theorem RSn{vs:List Value}(n:Nat)(h:sr T ops F n l=some (vs,l'))(h2:sk ops F n l=some vs)(k:DN P N c ops F H l'):DN P N c ops F H l:=by
 induction n generalizing l vs with
 |zero=>simp only[sr,Option.some.injEq,Prod.mk.injEq]at h;rw[h.2];exact k
 |succ n ih=>
  simp only[sr]at h;simp only[sk]at h2;split at h
  ·rename_i i ks r
   split at h
   ·rename_i d op _ _ _ ho
    dsimp only at h2;rw[ho]at h2;dsimp only at h2;split at h
    ·rename_i v hv
     split at h
     ·rename_i us l2 h3
      simp only[Option.some.injEq,Prod.mk.injEq]at h;obtain⟨rfl,rfl⟩:=h;split at h2
      ·rename_i u hu
       split at h2
       ·rename_i ws h4
        simp only[Option.some.injEq,List.cons.injEq]at h2;obtain⟨rfl,rfl⟩:=h2;exact Ld ho hu (Ym rfl (UQ hv)) (ih h3 h4)
       ·cases h2
      ·cases h2
     ·cases h
    ·cases h
   ·cases h
  ·cases h
theorem RE{vs:List Value}(n:Nat)(h:sr T ops F n l=some (vs,[]))(h2:sk ops F n l=some vs):DN P N c ops F H l:=RSn n h h2 trivial
end
section
variable {P:Program} {N:Nat} {c:Cx} {D:List Deferred} {ops:Array Oper} {Q:Exit->Act->World->Prop} {F:eH} {H:List aE} {i:Nat} {ks:List Nat} {q:List Fl} {d:Nat} {v v':Value} {op:Op} {ty:TypeId} {ps:String} {af:Array Edge} {g:Option (Nat×Bool)} {α:Type}
theorem NV{K:eH->Prop}(ho:ops[i]? =some ⟨some d,op,ty,ps,af,none⟩)(hN:Nat.blt d N=true)(hv:VS P N c ⟨some d,op,ty,ps,af,none⟩ (su F ks) H v)(hr:rR P N c ops H q ((d,v)::F) K):rR P N c ops H ((i,ks)::q) F K:=Cn ho hN (Ym rfl hv) hr
theorem NC{K:eH->Prop}{args:List Operand}{ats:Array TypeId}{f:Nat}{vs:List Value}{pre:World->Prop}(ho:ops[i]? =some ⟨some d, .call ⟨.value (.func f),args.toArray,ats⟩,ty,ps,af,none⟩)(hN:Nat.blt d N=true)(hc:FnW P f vs pre v)(ha:D3 (su F ks) args=some vs)[k:Kn c H pre](hr:rR P N c ops H q ((d,v)::F) K):rR P N c ops H ((i,ks)::q) F K:=Cn ho hN (Ym rfl (MF hc ha k.ok)) hr
theorem RO(ho:ops[i]? =some ⟨some d,op,ty,ps,af,none⟩)(hl:lk F d=some v)(hv:VS P N c ⟨some d,op,ty,ps,af,none⟩ (su F ks) H v')(e:v'=v)(hr:DN P N c ops F H q):DN P N c ops F H ((i,ks)::q):=Ld ho hl (Ym rfl (Qi hv e)) hr
theorem T0{new:List Fl}{t:Tr}(h:rR P N c ops H new F λF'=>Hq P N c D ops Q t F' H):Hq P N c D ops Q (.Sy [] new t) F H:=⟨trivial,h⟩
theorem F0{new:List Fl}(h:rR P N c ops H new F λF'=>WQ N c D Q .normal F' H):Hq P N c D ops Q (.fin [] new) F H:=⟨trivial,h⟩
theorem F00(h:WQ N c D Q .normal F H):Hq P N c D ops Q (.fin [] []) F H:=⟨trivial,h⟩
theorem X1{s:Nat}{here:Tr}{p:α->Prop}{fv:α->Value}{fH:α->List aE}(ho:ops[s]? =some ⟨some d,op,ty,ps,af,none⟩)(hN:Nat.blt d N=true)(hv:RX P N c ⟨some d,op,ty,ps,af,none⟩ (su F ks) H p fv fH)(h:∀x,p x->Hq P N c D ops Q here ((d,fv x)::F) (fH x)):Hq P N c D ops Q (.alt s ks here .no) F H:=Yp ho hN (ahX rfl hv) h trivial
theorem X0{s:Nat}{here:Tr}{fH:List aE}(ho:ops[s]? =some ⟨none,op,ty,ps,af,none⟩)(hv:RX (α:=Unit) P N c ⟨none,op,ty,ps,af,none⟩ (su F ks) H (λ_ =>True) (λ_ =>undef) (λ_ =>fH))(h:Hq P N c D ops Q here F fH):Hq P N c D ops Q (.alt s ks here .no) F H:=Yq ho (ahX rfl hv) (λ_ _ =>h) trivial
theorem GB{rest:List Oper}{j k:Nat}{want b:Bool}(hd:(ops[j]?).bind (·.dst)=some k)(hl:lk F k=some (.bool b))(hN:Nat.blt d N=true)(hv:(b==want)=true->VS P N c ⟨some d,op,ty,ps,af,some (j,want)⟩ F H v)
  (h:WL P N c D ops Q rest ((d,bif (b==want)then v else undef)::F) H):WL P N c D ops Q (⟨some d,op,ty,ps,af,some (j,want)⟩::rest) F H:=ajQ (YI hd hl) hN hv h
end
theorem fo{α:Type}{P:Program}{f:Nat}{fn:Func}{code:Code}{N:Nat}{args:Vs}{K:World->Prop}[S:Cg K]{p:α->Prop}{fv:α->Value}{fH:α->List aE}(hf:P.funcs[f]? =some fn)(hname:(fn.name== "runtime.NumGoroutine")=false)(hb:fn.body=some code)(hN:fn.ntmps=N)(ha:Nat.ble args.length N=true)
  (h:∀c:Cx,(∀R,KnF c R K)->c.ro=none->c.bs=[]->K c.w0->WP P N c [] code (Post P c fn p fv fH) (wO 0 args) []):Fn P f args K [] p fv fH:=
 uH hf hname hb hN ha λc oo hpre hro=>h c (aae oo hpre) hro oo hpre
end Go.Bw
namespace Go.Bw
open Go Go.RowKit
abbrev wY(T:Nat)(e:Int):List PanicEntry:=[{v:= .iface T (.int .i64 e),recovered:=false}]
def tc{α:Type}(b:Bool)(f:α)(k:Option α):Option α:=bif b then k else some f
def tr{α β:Type}(x:Option (Except Int α))(f:Int->β)(k:α->Option β):Option β:=match x with
 |some (.ok a)=>k a
 |some (.error e)=>some (f e)
 |none=>none
end Go.Bw
namespace Go.Bw
open Go Go.RowKit
section
variable {α:Type} {P:Program} {N:Nat} {c:Cx} {F:eH} {H:List aE} {D:List Deferred} {fn:Func} {p:α->Prop} {fv:α->Value} {fH:α->List aE} {ops:Array Oper} {d:Option Tmp} {ty:TypeId} {ps:String} {af:Array Edge}
theorem Yh{A:World->Prop}{x:Operand}{t b off:Nat}{v:Value}(hA:∀w,A w->w.cell? ⟨b,off,none⟩=some v)(hx:ev F x=some (dO b off))[qS P t][hk:Kn c H A]:VS P N c ⟨d, .load t x,ty,ps,af,none⟩ F H v:=
 aG (by simp) λa w hf hs hp=>by have:=lq (P:=P) (t:=t) (a:=⟨b,off,none⟩) (hA w (hk.ok w hs hp));simp[execOp,aI hf hx,Instr.loadAt,Instr.sureAddr,this]
theorem Qj{A:World->Prop}{q:IntKind}{b:Nat}{x y:Operand}{t kt e:TypeId}{k:Int}(z v:Value)(bb:Bool)(hA:∀w,A w->∃l,MpJ b q (λv:Value=>v) l w/\oH l k z=v/\qn l k=bb)[ht:Gw P t kt e q][hz:Qn P e z](hx:ev F x=some (.map (some b)))(hy:ev F y=some (.int q k))[hk:Kn c H A]:
  VS P N c ⟨d, .lookup t x y true,ty,ps,af,none⟩ F H (.tuple #[v, .bool bb]):=by
 haveI T9:Qn P e ((λv:Value=>v) z):=hz;refine aG (by simp) λa w hf hs hp=>?_;obtain⟨l,h0,h1,h2⟩:=hA w (hk.ok w hs hp);subst h1 h2;simp[execOp,aI hf hx,aI hf hy,pL w ht T9 h0,Result.andThen]
end
end Go.Bw
namespace Go.Rw
open Go Go.Bw Go.RowKit
variable {G:Sg} {P:Program} {tt:TT P G} {J:World->Prop} {ρ:bh} {a:Act} {w:World} {d:Option Tmp} {ty:TypeId} {ps:String} {af:Array Edge}
 {N:Nat} {c:Cx} {H:List aE} {D:List Deferred} {C:CC G} {S:AS G}
theorem U5{T:Nat}{g0:IntKind×List (Int×Nat)}(hgt:G.gt=some g0)(h1:sC P T=true):SK P ⟨d, .load T (.global 0),ty,ps,af,none⟩ C S {S with O:=(S.nx, .gm)::S.O,nx:=S.nx+1} (.mp S.nx):=by
 intro c N ρ J HK X a w next Q h hk
 obtain⟨HS,r1,hs0,hm⟩:=h.st;obtain⟨mb,hmb⟩:=h.kn.gl g0 hgt;haveI:qS P T:=⟨h1⟩;haveI:Kn c (HS++(HK++X)) J:=⟨λw' _ hp=>h.kn.to w' λr hr=>⟨hp.holds r (by simp[hr]),λb hb=>(hp.own r (by simp[hr]) b hb).2⟩⟩;refine(Yh (P:=P) (N:=N) (c:=c) (F:=nN a) (H:=HS++(HK++X)) (A:=J) (v:= .map (some mb)) (b:=0) (off:=0) (λw hw=>(hmb w hw).1) rfl) a.defers a w next Q hs0 λw' hs=>?_
 have AY:bH c.bs c.w0.heap.size (.row (.slice none 0 0) 0 1 0 []::(HS++(HK++X))) w':=Aw (hs0.hp.ext hs);refine hk (ρ.set S.nx (.map (some mb))) J [] w' _ (bh.kL _ _ _) (λ_ h=>h) ⟨_,bh.iN _ _ _,rfl,rfl,rfl⟩ (h.new r1 (h.si.s.ext hs) AY ⟨⟨mb,g0,bh.iN _ _ _,hgt,hmb⟩,rfl⟩)
def FV(P:Program)(T:Nat)(q:IntKind):Bool:=match P.underlying T with
 |some (.map k e)=>(match P.underlying k with
  |some (.int q')=>Nat.beq (Ty.bS.ik q) (Ty.bS.ik q')
  |_ =>false)&&(match(P.info? e).bind (·.zero)with
  |some .nilFunc=>true
  |_ =>false)
 |_ =>false
def Lr:List (Int×Nat)->Int->Option Nat
 |[],_ =>none
 |(a,f)::r,k=>bif k==a then some f else Lr r k
theorem Zl{k:Int}:∀{l:List (Int×Nat)},(∀f,Lr l k=some f->oH (l.map FO) k .nilFunc= .func (.func f) #[] #[]/\qn (l.map FO) k=true)/\(Lr l k=none->oH (l.map FO) k .nilFunc= .nilFunc/\qn (l.map FO) k=false):=by
 intro l
 induction l with
 |nil=>exact⟨λf h=>by(cases h),λ_ =>⟨rfl,rfl⟩⟩
 |cons p r ih=>
  obtain⟨a,f0⟩:=p;simp only[Lr,List.map_cons];cases hb:(k==a)with
  |true=>
   have e:fX (FO (a,f0)::r.map FO) k=some (0, .func (.func f0) #[] #[]):=by show(bif k==a then _ else _)=_;rw[hb];rfl
   refine⟨λf h=>?_,λh=>by cases h⟩;cases h;simp only[oH,qn,e];exact⟨rfl,rfl⟩
  |false=>
   have e:fX (FO (a,f0)::r.map FO) k=(fX (r.map FO) k).map λq=>(q.1+1,q.2):=by show(bif k==a then _ else _)=_;rw[hb];rfl
   have e1:oH (FO (a,f0)::r.map FO) k .nilFunc=oH (r.map FO) k .nilFunc:=by unfold oH;rw[e];cases fX (r.map FO) k<;>rfl
   have e2:qn (FO (a,f0)::r.map FO) k=qn (r.map FO) k:=by unfold qn;rw[e];cases fX (r.map FO) k<;>rfl
   rw[e1,e2];exact ih
def acy:Option Nat->AV G
 |some f=> .jc (.cons (.fn (.func f) .nil .nil) (.cons (.kb true) .nil))
 |none=> .jc (.cons .nn (.cons (.kb false) .nil))
theorem SA{T r:Nat}{x y:Operand}{q:IntKind}{k:Int}{b:Bool}{g0:IntKind×List (Int×Nat)}(hgt:G.gt=some g0)(hx:gv C S [] x=some (.mp r))(ho:V3 C S r=some .gm)(hy:mU (gv C S [] y)=some (q,k,b))(hq:Nat.beq (Ty.bS.ik q) (Ty.bS.ik g0.1)=true)(hc:FV P T g0.1=true):
  SK P ⟨d, .lookup T x y true,ty,ps,af,none⟩ C S S (acy (Lr g0.2 k)):=by
 intro c N ρ J HK X a w next Q h hk
 obtain⟨HS,r1,hs0,hm⟩:=h.st;have hE:=dk h (ch:=[]) (by simp);obtain⟨Bq,hres,⟨mb,g1,m1,m2,m3⟩,_⟩:=hm.ob r _ ho;rw[hgt]at m2;cases m2;obtain rfl:=Io hq;have hxv:a.eval x= .map (some mb):=by obtain⟨u,u1,u2,_⟩:=hE.ok _ _ hx;rw[m1]at u1;cases u1;exact(List.cons.inj u2).1
 have tD:=hE.ev _ _ hx;rw[hxv]at tD;have fl:=ku hE hy;haveI:Kn c (HS++(HK++X)) J:=⟨λw' _ hp=>h.kn.to w' λr hr=>⟨hp.holds r (by simp[hr]),λb hb=>(hp.own r (by simp[hr]) b hb).2⟩⟩;unfold FV at hc;split at hc
 ·rename_i kt e hu
  simp only[akg]at hc;obtain⟨Tf,YQ⟩:=hc;split at Tf
  ·rename_i q' hk'
   obtain rfl:=Io Tf;split at YQ
   ·rename_i hz
    haveI:Gw P T kt e g0.1:=⟨hu,hk'⟩;haveI:Qn P e .nilFunc:=⟨hz⟩;obtain⟨t1,t2⟩:=Zl (k:=k) (l:=g0.2);have hv:rv J ρ (acy (G:=G) (Lr g0.2 k)) (.tuple #[oH (g0.2.map FO) k .nilFunc, .bool (qn (g0.2.map FO) k)]):=by
     cases hf:Lr g0.2 k with
     |some f=>obtain⟨e1,e2⟩:=t1 f hf;rw[e1,e2];exact⟨[.func (.func f) #[] #[], .bool true],rfl,_,_,rfl,⟨[],[],rfl,rfl,rfl⟩,_,_,rfl,rfl,rfl⟩
     |none=>obtain⟨e1,e2⟩:=t2 hf;rw[e1,e2];exact⟨[.nilFunc, .bool false],rfl,_,_,rfl,rfl,_,_,rfl,rfl,rfl⟩
    refine(Qj (P:=P) (N:=N) (c:=c) (F:=nN a) (H:=HS++(HK++X)) (A:=J) (q:=g0.1) (b:=mb) .nilFunc _ _ (λw hw=>by
     obtain⟨l,l1,l2⟩:=(m3 w hw).2;exact⟨l,l1,(l2 k).1,(l2 k).2⟩) tD fl) a.defers a w next Q hs0 λw' hs=>?_
    exact hk ρ J [] w' _ (bh.ef _ _) (λ_ h=>h) hv (by
     obtain⟨HS2,p1,p3⟩:=h.hp;exact⟨h.tm,h.df,h.si.ext hs,h.fs,h.fc,h.kc,⟨HS2,p1,p3.ext hs⟩,h.kn,h.fr⟩)
   ·cases YQ
  ·cases Tf
 ·cases hc
def Qb(P:Program)(T:Nat):Bool:=match P.underlying T with
 |some .string=>true
 |_ =>false
def VF(P:Program)(E:Operand->Option (AV G))(T:Nat)(x y:Operand):PV G:=match x with
 | .const (.string s)=>match mU (E y)with
  |some (_,i,_)=>bif decide (s=Lib.pop8tab)&&Qb P T then some ([dH i 256], .int .u8 (Lib.pop8 i))else none
  |none=>none
 |_ =>none
theorem VE{ob:Nat->Option (Ob G)}{E:Operand->Option (AV G)}{g:Option (Nat×Bool)}(hm:Qq (G:=G) J ρ N c D H ob a w)(hE:Ap J ρ a E){T:Nat}{x y:Operand}{v:AV G}{gs:List Bool}(h:VF P E T x y=some (gs,v))(hg:∀b∈gs,b=true):Ch P c J ρ ⟨d, .index T x y,ty,ps,af,g⟩ a w v:=by
 unfold VF at h;split at h
 ·rename_i s
  split at h
  ·rename_i k i q hl
   cases hb:(decide (s=Lib.pop8tab)&&Qb P T)with
   |false=>rw[hb]at h;cases h
   |true=>
    rw[hb]at h;cases h;simp only[akg,decide_eq_true_eq]at hb;obtain⟨h1,h2⟩:=cq (hg (dH i 256) (by simp));have fl:=ku hE hl;have ht:P.underlying T=some .string:=by
     have:=hb.2;unfold Qb at this;split at this
     ·assumption
     ·cases this
    haveI:ahV P T:=⟨ht⟩;exact⟨_,rfl,(abb hb.1 fl h1 h2).vk hm.st⟩
  ·cases h
 ·cases h
end Go.Rw
namespace Go.Bw
open Go
theorem bx{x:Int}(h1: -9223372036854775808<=x)(h2:x<=9223372036854775807):wr .i64 x=x:=IntWalk.i64_in x ⟨h1,h2⟩
theorem aiD{x:Int}(h1:0<=x)(h2:x<=255):wr .u8 x=x:=IntWalk.u8_in x ⟨h1,h2⟩
theorem Uy{x:Int}(h1:0<=x)(h2:x<=4294967295):wr .u32 x=x:=IntWalk.u32_in x ⟨h1,h2⟩
theorem Bj{x:Int}(h1:0<=x)(h2:x<=18446744073709551615):wr .u64 x=x:=IntWalk.u64_in x ⟨h1,h2⟩
theorem wR{k:IntKind}{a:Nat}(h:a<2^k.bits):(BitVec.ofInt k.bits (a:Int)).toNat=a:=by rw[BitVec.toNat_ofInt];have:((a:Int)%((2^k.bits:Nat):Int))=((a%2^k.bits:Nat):Int):=(Int.natCast_emod _ _).symm;rw[this,Nat.mod_eq_of_lt h];rfl
theorem Us{k:IntKind}{r:Nat}(h:r<2^IntKind.up k):wr k (r:Int)=r:=Y8 h
theorem Hh(k:IntKind){r:Nat}(h:r<2^IntKind.up k):r<2^k.bits:=Nat.lt_of_lt_of_le h (Nat.pow_le_pow_right (by decide) (aaY k))
theorem XN{k:IntKind}{a b:Nat}(ha:a<2^IntKind.up k)(hb:b<2^IntKind.up k):tj k a b=((a&&& b:Nat):Int):=by unfold tj;rw[BitVec.toNat_and,wR (Hh k ha),wR (Hh k hb)];exact Us (Nat.lt_of_le_of_lt Nat.and_le_left ha)
theorem XO{k:IntKind}{a:Int}(m:Nat){b:Int}(h0:0<=a)(ha:a<((2^IntKind.up k:Nat):Int))(hb:b=((2^m-1:Nat):Int))(hm:2^m-1<2^IntKind.up k):tj k a b=a%((2^m:Nat):Int):=by obtain⟨x,rfl⟩:=Int.eq_ofNat_of_zero_le h0;subst hb;rw[XN (by exact_mod_cast ha) hm,Nat.and_two_pow_sub_one_eq_mod];exact Int.natCast_emod _ _
theorem U8{k:IntKind}{a:Int}(m:Nat){b:Int}(hb:b=(m:Int))(hm:m<=k.bits):vM k a b=a/((2^m:Nat):Int):=by subst hb;unfold vM;rw[aki,Nat.min_eq_left hm,Int.fdiv_eq_ediv_of_nonneg _ (Int.pow_nonneg (by decide))];congr 1
theorem U9{k:IntKind}{a:Int}(m:Nat){b:Int}(hb:b=(m:Int))(hm:m<=k.bits):Lu k a b=wr k (a*((2^m:Nat):Int)):=by subst hb;unfold Lu wr;rw[aki,Nat.min_eq_left hm];congr 2
theorem M0{a b:Int}(h:0<=a):Int.tmod a b=a%b:=Int.tmod_eq_emod_of_nonneg h
theorem HO{a b:Int}(h:0<=a):Int.tdiv a b=a/b:=Int.tdiv_eq_ediv_of_nonneg h
theorem eP{i:Int}{n:Nat}(h0:0<=i)(h1:i<(n:Int)):dH i n=true:=by simp[dH,h0,h1]
theorem jg{n m b:Nat}(h:(n+m)*b<=140737488355328)(h2:n+m<=9223372036854775807):ig n m b=true:=by simp[ig,h,h2]
theorem ON{α:Type}(f:Nat->α)(i:Nat)(v:α):iW f i v i=v:=by simp[iW]
theorem UL{α:Type}(f:Nat->α){i j:Nat}(v:α)(h:j≠i):iW f i v j=f j:=by simp[iW,h]
section
variable {α ρ:Type}
theorem ak{m:Option α}{x:α}{f:α->Option ρ}(h:m=some x):bd m f=f x:=by subst h;rfl
theorem aU(a:α)(f:α->Option ρ):lt a f=f a:=rfl
theorem bf{b:Bool}{k:Option ρ}(h:b=true):gu b k=k:=by subst h;rfl
theorem aR{b:Bool}{x y:Option ρ}(h:b=true):cn b x y=x:=by subst h;rfl
theorem au{b:Bool}{x y:Option ρ}(h:b=false):cn b x y=y:=by subst h;rfl
theorem kW{g:Bool}{m:Option α}{z x:α}{f:α->Option ρ}(h:g=true)(hm:m=some x):cl g m z f=f x:=by subst h;subst hm;rfl
theorem n5{g:Bool}{m:Option α}{z:α}{f:α->Option ρ}(h:g=false):cl g m z f=f z:=by subst h;rfl
theorem AA{g:Bool}{m:Option α}{z x:α}{f:α->Option ρ}(hm:m=some x):cl g m z f=f (bif g then x else z):=by subst hm;cases g<;>rfl
end
end Go.Bw
namespace Go.Bw
open Go Go.RowKit
section
variable {α:Type} {P:Program} {N:Nat} {c:Cx} {F:eH} {H:List aE} {d:Option Tmp} {ty:TypeId} {ps:String} {af:Array Edge} {g:Option (Nat×Bool)}
theorem Vh(L:cZ α)[bq L](z0:α){z:Value}(he:L.enc z0=[z])(m:Nat):eI L (List.replicate m z0)=List.replicate m z:=EC L z0 he m
theorem ae0{x y:Operand}{t e m:Nat}{k k':IntKind}{z:Value}{L:cZ α}[bq L](z0:α)[ht:vD P t e 1][hz:jH P e [z]](he:L.enc z0=[z])(hx:ev F x=some (.int k (m:Int)))(hy:ev F y=some (.int k' (m:Int)))(bytes:Nat)(hb:(P.info? e).map (·.bytes)=some bytes)(hm:m*bytes<=140737488355328)(hm2:m<=140737488355328):
  RX P N c ⟨d, .makeSlice t x y,ty,ps,af,g⟩ F H (λ_ =>True) (λb=> .slice (some ⟨b,0,none⟩) m m) (λb=>rY (.slice (some ⟨b,0,none⟩) m m) e 1 L (List.replicate m z0)::H):=λD a w next Q hst hk=>by
 obtain⟨i,h1,h2,h3⟩:=vD.get ht.ok;obtain⟨i',zz,h4,h5,h6⟩:=jH.get hz.ok;rw[h2]at h4;cases h4;have hby:i.bytes=bytes:=by simpa[h2]using hb
 have hzz:zz.cells= #[z]:=by apply Array.ext';rw[h6]
 refine ew (by simp) (v:= .slice (some ⟨w.heap.size,0,none⟩) m m) (w':=w.alloc (.cells (List.replicate m z).toArray e)) ?_ (hk w.heap.size _ trivial (hst.si.ext (aQ.alloc _ _)) ?_)
 ·have w1:IntKind.i64.wrap (m:Int)=m:=bx (by omega) (by omega)
  have hcells:(Array.range (m*1)).map (λq=>(#[z]:Array Value)[q%(#[z]:Array Value).size]!)=(List.replicate m z).toArray:=by
   apply Array.ext
   ·simp
   ·intro j h1 h2;simp[Nat.mod_one]
  have c1:¬((m:Int)<0):=by omega
  have c2:¬(((bytes:Int)*m)>2^48):=by
   have:(bytes:Int)*m=((m*bytes:Nat):Int):=by push_cast;rw[Int.mul_comm]
   rw[this];omega
  have c3:¬(m*bytes>roomBytes):=by
   have:roomBytes=140737488355328:=by rfl
   omega
  have a1:∀(k:IntKind) (w:World),(asInt (.int k (m:Int))).run P w= .ok (m:Int) w:=λk w=>by simp[asInt,asIntOf,Sem.run]
  simp only[execOp,Instr.makeSlice,Sem.run_bind,run_underlying h1,Result.andThen_ok,aI hst.fr hx,aI hst.fr hy,a1,Sem.run_pure,typeInfo,sizeOf,w1];have c4:¬(281474976710656<(bytes:Int)*m):=by simpa using c2
  have aaq:Array.map (λx=>([z]:List Value)[x%1]?.getD default) (Array.range m)=Array.replicate m z:=by
   apply Array.ext
   ·simp
   ·intro j h1 h2;simp[Nat.mod_one]
  by_cases hm0:m=0
  ·subst hm0
   simp[h2,h3,hby,w1,askRoom,c3,newRow,newObj,Sem.run];congr 2;apply Array.ext
   ·simp
   ·intro j h1 h2;simp at h2
  ·simp[h2,h3,hby,w1,askRoom,c3,hm0,zeroValue,typeInfo,h5,hzz,newRow,newObj,Sem.run]
   rw[ake (by rintro((h|h)|h);exact c1 h;exact c4 h;exact c1 h),aaq]
 ·have:=hst.hp.box e (List.replicate m z) hst.si.size
  refine this.C0 (k:=0) (r:= .cells w.heap.size e (List.replicate m z)) rfl (λw' hw=>?_) (λb hb=>by simpa[aE.cI,Value.ownBlock]using hb);have hb:w'.heap[w.heap.size]? =some (.cells (List.replicate m z).toArray e (0,0)):=hw;have e1:=Vh L z0 he m;refine⟨by rw[e1];simp, .inr ⟨w.heap.size,0,m,_,by simp,hb,by simp,by unfold maxLen;omega,by simp,?_⟩⟩;rw[e1];simp
theorem OZ(L:cZ α)[bq L](hn:L.n=1)(xs:List α)(m:Nat):eI L (xs.take m)=(eI L xs).take m:=by
 by_cases h:m<=xs.length
 ·have:=Kt L xs (m:=m) hn h
  rw[Nat.mul_one]at this;exact this.symm
 ·rw[List.take_of_length_le (by omega),List.take_of_length_le (by rw[mK,hn];omega)]
theorem O3(L:cZ α)[bq L](hn:L.n=1)(xs:List α)(m:Nat):eI L (xs.drop m)=(eI L xs).drop m:=by
 have e:eI L xs=eI L (xs.take m)++eI L (xs.drop m):=by rw[← ur,List.take_append_drop]
 by_cases h:m<=xs.length
 ·have hl:(eI L (xs.take m)).length=m:=by rw[mK,hn,List.length_take];omega
  have e2:=congrArg (List.drop m) e;rw[List.drop_left' hl]at e2;exact e2.symm
 ·rw[List.drop_of_length_le (by omega),List.drop_of_length_le (by rw[mK,hn];omega)];rfl
theorem Yx{x y:Operand}{t t' e:TypeId}{v u:Value}{L:cZ α}[bq L]{xs ys:List α}{A:World->Prop}{f:aE->List aE}(hf:Fz A u L ys)(hn:L.n=1)(ht:FT P t e 1=true)(hv:∃b o cap,v= .slice (some ⟨b,o,none⟩) xs.length cap)(hx:ev F x=some v)(hy:ev F y=some u)[hr:vE H v e 1 xs.length (eI L xs) f][hk:Kn c H A]:
  RX (α:=Unit) P N c ⟨d, .call ⟨.builtin .copy, #[x,y], #[t,t']⟩,ty,ps,af,g⟩ F H (λ_ =>True) (λ_ => .int .i64 (min ys.length xs.length:Nat)) (λ_ =>f (rY v e 1 L (ys.take xs.length++xs.drop ys.length))):=λD a w next Q hst hk2=>by
 obtain⟨inf,e1,e2,e3⟩:=vD.get ht;obtain⟨k,k1,k2⟩:=hr.ok;obtain⟨b,o,cap,rfl⟩:=hv;have hm:aE.row (.slice (some ⟨b,o,none⟩) xs.length cap) e 1 xs.length (eI L xs)∈H:=List.mem_of_getElem? k1;obtain⟨r1,r2⟩:=hst.hp.holds _ hm;rcases r2 with⟨h,_⟩|⟨b',o',cap',cur,h,hb,hle,NA,hsz,htk⟩
 ·cases h
 cases h;have hro:=hf.ro w (hk.ok w hst.si hst.hp);rw[hn]at hro;have hX:(eI L xs).length=xs.length:=by rw[mK,hn,Nat.mul_one]
 have hY:(eI L ys).length=ys.length:=by rw[mK,hn,Nat.mul_one]
 let cs:=(eI L ys).take xs.length;have rX:cs.length=min ys.length xs.length:=by simp only[cs,List.length_take,hY];omega
 have h1:∀v∈cs,v.oneCell'=true:=λv hv=>Vi L ys v (List.take_subset _ _ hv);have hcs:o+cap<=cur.size:=by omega
 let Z:=(cur.toList.take o++cs++cur.toList.drop (o+cs.length)).toArray;have hrun:(Builtin.copy_ #[t,t'] ty #[.slice (some ⟨b,o,none⟩) xs.length cap,u]).run P w= .ok (goInt cs.length) (w.setRow b Z):=by
  rcases hro.2 with⟨⟨a0,cp,rfl⟩,h0⟩|⟨gb,off,cp,rfl,_,_,hrd⟩
  ·have hy0:ys=[]:=List.length_eq_zero_iff.1 h0
   have hc0:cs=[]:=List.length_eq_zero_iff.1 (by rw[rX,h0];simp);cases a0 with
   |some a0=>exact run_copy_row (P:=P) w t t' ty e b o xs.length cap a0 0 cp cur e cs e1 (by simp[e2,e3]) hb (by rw[rX,h0]) (λj v hj=>by rw[hc0]at hj;cases hj) (by rw[hc0];simp;omega) h1
   |none=>have L7:=run_storeCells_at P b o e cs 0 cur w hb (by rw[hc0];simp;omega) h1;have hi:inf.size=1:=e3;simp only[Z];rw[hc0]at L7 ⊢;simp[Builtin.copy_,run_underlying e1,Builtin.lenOf,Builtin.firstCells,sizeOf,typeInfo,e2,hi]at L7 ⊢;simp[L7]
  ·exact run_copy_row (P:=P) w t t' ty e b o xs.length cap ⟨gb,off,none⟩ ys.length cp cur e cs e1 (by simp[e2,e3]) hb (by rw[rX]) (λj v hj=>by
    simp only[cs,List.getElem?_take]at hj;split at hj
    ·rw[Addr.add_lit];exact hrd j v hj
    ·cases hj) (by rw[rX];omega) h1
 have jb:aQ [b] w (w.setRow b Z):=⟨rfl,rfl,rfl,by simp,λk _ hk=>setRow_other w b k _ (by simpa using hk)⟩;have hh:=setRow_heap w b cur Z e (0,0) hb;refine ew (by simp) (v:= .int .i64 (min ys.length xs.length:Nat)) (w':=w.setRow b Z) ?_ (hk2 () _ trivial (hst.si.store hst.hp hm (by simp[aE.cI,Value.ownBlock]) jb) ?_)
 ·rw[rX]at hrun
  simp[execOp,resolve,invoke,builtin,aI hst.fr hx,aI hst.fr hy,hrun];rfl
 ·rw[k2]
  have e4:eI L (ys.take xs.length++xs.drop ys.length)=cs++(eI L xs).drop ys.length:=by rw[ur,OZ L hn,O3 L hn]
  have e5:(ys.take xs.length++xs.drop ys.length).length=xs.length:=by simp only[List.length_append,List.length_take,List.length_drop];omega
  refine hst.hp.set k1 jb.size (λj hj hne=>jb.block j hj (by simpa[aE.cI,Value.ownBlock]using hne)) ?_ hst.si.size (λb' hb'=>?_)
  ·show kZ _ e 1 _ _ _
   rw[e4,e5];refine⟨by simp only[List.length_append,List.length_drop,rX,hX];omega, .inr ⟨b,o,cap,Z,rfl,hh,hle,NA,?_,?_⟩⟩
   ·simp only[Z,List.size_toArray,List.length_append,List.length_take,List.length_drop,Array.length_toList,rX];omega
   ·have e7:=vz (cs:=cur.toList) (vs:=cs) (o:=o) (off:=0) (k:=xs.length*1) (by rw[rX];omega) (by have h8:cur.toList.length=cur.size:=Array.length_toList;omega)
    rw[Nat.add_zero,htk]at e7;refine e7.trans ?_;simp only[bX,List.take_zero,List.nil_append,Nat.zero_add,rX];congr 1;by_cases hq:ys.length<=xs.length
    ·rw[Nat.min_eq_left hq]
    ·rw[Nat.min_eq_right (by omega),List.drop_of_length_le (by omega),List.drop_of_length_le (by omega)]
  ·have e6:b'=b:=by simpa[aE.cI,Value.ownBlock]using hb'
   subst e6;exact⟨.inl (by simp[aE.cI,Value.ownBlock]),Nat.lt_of_lt_of_le (akl.1 hb).1 jb.size⟩
end
end Go.Bw
namespace Go.Rw
open Go Go.Bw Go.RowKit
variable {G:Sg} {P:Program} {tt:TT P G} {zt:ZT P G} {J:World->Prop} {ρ:bh} {a:Act} {w:World} {d:Option Tmp} {ty:TypeId} {ps:String} {af:Array Edge} {g:Option (Nat×Bool)}
 {N:Nat} {c:Cx} {H HK X:List aE} {C:CC G} {S:AS G} {D:List Deferred} {E:Operand->Option (AV G)}
def DF(P:Program)(e:Nat)(k:IntKind):Bool:=match(P.info? e).bind (·.zero)with
 |some (.int k' n)=>Nat.beq (Ty.bS.ik k') (Ty.bS.ik k)&&n==0
 |_ =>false
theorem acC{T e bt s:Nat}{k ki:IntKind}{i z0:Int}{q:Bool}(hT:tt.te.find T=some (.sl e 1 bt))(hz:zt.z.find e=some (.int k z0))(hx:mU (gv C S [] (.tmp s))=some (ki,i,q))(hg:decide (0<=i)=true)(ha:ig 0 i.toNat bt=true)(hbt:0<bt):
  SK P ⟨d, .makeSlice T (.tmp s) (.tmp s),ty,ps,af,g⟩ C S {S with O:=(S.nx, .row e 1 (.int k) (List.replicate i.toNat z0))::S.O,nx:=S.nx+1} (.row S.nx):=by
 intro c N ρ J HK X a w next Q h hk
 obtain⟨HS,h1,hs0,hm⟩:=h.st;have hE:=dk h (ch:=[]) (by simp);have fx:=ku hE hx;obtain⟨u,z1,z2⟩:=zt.ok e _ hz J ρ;have z2:[u]=[Value.int k z0]:=z2;cases z2;haveI:jH P e [Value.int k z0]:=⟨z1⟩;haveI:=(tt.sl hT).1;obtain⟨m,rfl⟩:∃m:Nat,i=m:=⟨i.toNat,by have:=of_decide_eq_true hg;omega⟩;obtain⟨g1,g2⟩:=uP ha;have hb:(P.info? e).map (·.bytes)=some bt:=by obtain⟨i,z,e1,e2,e3,e4,e5,e6,e7⟩:=Oz.get (tt.sl hT).2.ok;rw[e2];simp[e5]
 simp only[aki,Nat.zero_add]at g1 g2 ⊢;refine ae0 (P:=P) (N:=N) (c:=c) (F:=nN a) (H:=HS++(HK++X)) (m:=m) (L:=LI k) z0 rfl fx fx bt hb g1 (by have:=Nat.le_mul_of_pos_right m hbt;omega) a.defers a w next Q hs0 λb w' _ hs hp=>?_
 obtain⟨ρ',q1,q2,q3⟩:=Au (t:= .int k) (zs:=List.replicate m z0) h h1 hs hp ⟨some ⟨b,0,none⟩,m,congrArg (λn=>Value.slice (some ⟨b,0,none⟩) n m) (List.length_replicate (n:=m) (a:=z0)).symm⟩ (show(LA (LI k) _).fg J _ _ from bq.iff.2 (gD (LI k) (List.replicate m z0))) rfl;exact hk ρ' J [] w' _ q1 (λ_ h=>h) q2 q3
theorem aaS{t:Ty}{l:LS G}{ys:List (t.T G)}(h:IX l.xs=some ys):l=⟨t,ys⟩:=by obtain⟨t',l'⟩:=l;obtain⟨rfl,rfl⟩:=RP h;rfl
theorem Lw{w:World}{t t' ty e:Nat}{inf:TypeInfo}{u:Value}{n:Nat}(e1:P.underlying t=some (.slice e))(e2:P.info? e=some inf)(hu:uV u n):(Builtin.copy_ #[t,t'] ty #[.slice none 0 0,u]).run P w= .ok (.int .i64 0) w:=by
 obtain⟨a,cp,rfl⟩:=hu;cases a<;>simp[Builtin.copy_,run_underlying e1,Builtin.lenOf,Builtin.firstCells,sizeOf,typeInfo,e2,loadCells,Sem.run]
 all_goals rfl
theorem Zo{T T' e bt r:Nat}{x y:Operand}{vy:AV G}{k:IntKind}{xs ys:List (Ty.T G (.int k))}{l:LS G}(hT:tt.te.find T=some (.sl e 1 bt))(hx:gv C S [] x=some (.row r))(hy:gv C S [] y=some vy)(ho:dm S.O r=some (.row e 1 (.int k) xs))(hl:lsA C S vy=some l)(hc:IX (t:= .int k) l.xs=some ys):
  SK P ⟨d, .call ⟨.builtin .copy, #[x,y], #[T,T']⟩,ty,ps,af,g⟩ C S {S with O:=qm S.O r (.row e 1 (.int k) (ys.take xs.length++xs.drop ys.length))} (.int .i64 ((min ys.length xs.length:Nat):Int)):=by
 intro c N ρ J HK X a w next Q h hk
 obtain⟨HS,h1,hs0,hm⟩:=h.st;have hE:=dk h (ch:=[]) (by simp);obtain⟨kk,x0,k1,⟨vv,ws,m1,rfl,m3,m4,m5⟩,k3⟩:=h1.set ho;obtain rfl:=aaS hc;obtain⟨news,n1,n2,n3⟩:=Pp hm hl (hE.ok _ _ hy);have WA:=s5 (hE.ok _ _ hx) m1;have tD:=hE.ev _ _ hx;rw[WA]at tD;have hws:ws=eI (LI k) xs:=(bq.iff.1 (show(LA (LI k) xs.length).fg J ws _ from m4)).trans (gD (LI k) xs).symm;have hnews:news=eI (LI k) ys:=(bq.iff.1 (show(LA (LI k) ys.length).fg J news _ from n2)).trans (gD (LI k) (ys:List Int)).symm;subst hws;subst hnews;have Jw:=qX (m:=HK++X) k1;have hown:kZ w e 1 vv xs.length (eI (LI k) xs):=hs0.hp.holds _ (List.mem_of_getElem? Jw);have done:∀w',aQ c.bs c.w0 w'->bH c.bs c.w0.heap.size ((HS++(HK++X)).set kk (.row vv e 1 (ys.take xs.length++xs.drop ys.length).length (eI (LI k) (ys.take xs.length++xs.drop ys.length)))) w'->next (a.put d (.int .i64 ((min ys.length xs.length:Nat):Int))) w':=λw' hs hp=>by
  rw[vo k1]at hp;refine hk ρ J [] w' _ (bh.ef _ _) (λ_ h=>h) rfl (h.C0 (k3 _ _ ?_) hs hp);refine⟨vv,_,m1,rfl,?_,show(LA (LI k) _).fg J _ _ from bq.iff.2 (gD (LI k) _),rfl⟩;have:(ys.take xs.length++xs.drop ys.length).length=xs.length:=by simp only[List.length_append,List.length_take,List.length_drop];omega
  rw[this];exact m3
 haveI:vE (HS++(HK++X)) vv e 1 xs.length (eI (LI k) xs) ((HS++(HK++X)).set kk):=⟨kk,Jw,λ_ =>rfl⟩;rcases hown.2 with⟨hv,h0⟩|⟨b,o,cap,cur,hv,_⟩
 ·subst hv
  have hx0:xs=[]:=List.length_eq_zero_iff.1 h0;subst hx0;obtain⟨inf,e1,e2,e3⟩:=vD.get (tt.sl hT).1.ok;refine ew (by simp) (v:= .int .i64 ((min ys.length 0:Nat):Int)) (w':=w) ?_ (done w hs0.si ?_)
  ·have:=Lw (P:=P) (w:=w) (t':=T') (ty:=ty) e1 e2 n3
   simp[execOp,resolve,invoke,builtin,aI hs0.fr tD,this]
  ·refine hs0.hp.C0 Jw (λw hw=>?_) (λb hb=>?_)
   ·simpa using hw
   ·simpa using hb
 ·have hF:Fz (λw=>Ro w (a.eval y) 1 ys.length (eI (LI k) ys)) (a.eval y) (LI k) ys:=⟨n3,λ_ h=>h⟩
  haveI:Kn c (HS++(HK++X)) (λw=>Ro w (a.eval y) 1 ys.length (eI (LI k) ys)):=⟨λw' h1 h2=>n1.ro w' h1 h2⟩;exact Yx (t':=T') (ty:=ty) (ps:=ps) (af:=af) (g:=g) (d:=d) hF rfl (tt.sl hT).1.ok ⟨b,o,cap,hv⟩ tD (hE.ev _ _ hy) a.defers a w next Q hs0 λ_ w' _ hs hp=>done w' hs hp
end Go.Rw
namespace Go.Bw
open Go Go.RowKit
section
variable {P:Program} {N:Nat} {c:Cx} {F:eH} {H:List aE} {d:Option Tmp} {ty:TypeId} {ps:String} {af:Array Edge} {g:Option (Nat×Bool)} {β:Type} {b:Nat} {q:IntKind} {E:β->Value} {l:List (Int×β)} {f:aE->List aE}
theorem Fb{x y z:Operand}{t kt e:TypeId}{k:Int}{v:Value}(u:β)[ht:Gw P t kt e q](hx:ev F x=some (.map (some b)))(hy:ev F y=some (.int q k))(hz:ev F z=some v)[hm:GN H b β q E l f](hv:v=E u):
  RX (α:=Unit) P N c ⟨d, .insert t x y z,ty,ps,af,g⟩ F H (λ_ =>True) (λ_ =>undef) (λ_ =>f (Mp b q E (uC l k u))):=λD a w next Q hst hk=>by
 subst hv;obtain⟨es,clock,h1,h2⟩:=hm.aaw hst.hp;obtain⟨t1,t2⟩:=ht.ok;have hf:=od (k:=k) w t2 h2;have hc:∀em,(Instr.checkKey em 10000 kt (.int q k)).run P w= .ok () w:=λem=>MapKept.run_checkKey (k:= .int q k) t2 (show q=q from rfl) em 9999;cases Ra:fX l k with
 |none=>obtain⟨p1,p2⟩:=hm.put hst h1 (h2.push k u);refine oU (by simp) (w':=w.putObj b (.map (es.push ⟨.int q k,E u,clock⟩) (clock+1))) ?_ (hk () _ trivial p1 (by rw[EN Ra];exact p2));rw[Ra]at hf;simp[execOp,aI hst.fr hx,aI hst.fr hy,aI hst.fr hz,Instr.mapUpdate,run_underlying t1,MapKept.run_getObj_map h1,hc,hf,MapKept.run_setObj_map _ h1,Result.andThen,World.putObj]
 |some p=>
  have hg:=EO (j:=p.1) (y:=p.2) Ra;obtain⟨p1,p2⟩:=hm.put hst h1 (h2.modify p.1 k u);refine oU (by simp) (w':=w.putObj b (.map (es.modify p.1 λe=>{e with key:= .int q k,val:=E u}) clock)) ?_ (hk () _ trivial p1 (by rw[EM (j:=p.1) (y:=p.2) Ra];exact p2));rw[Ra]at hf;have hkey:((es[p.1]?).map (·.key))=some (.int q k):=by
   have:(es.toList.map λe=>(e.key,e.val))[p.1]? =some (Value.int q k,E p.2):=by rw[h2.kv,List.getElem?_map,hg];rfl
   rw[List.getElem?_map,Array.getElem?_toList]at this;cases he:es[p.1]? with
   |none=>simp[he]at this
   |some e0=>simp[he]at this;simp[this.1]
  simp[execOp,aI hst.fr hx,aI hst.fr hy,aI hst.fr hz,Instr.mapUpdate,run_underlying t1,MapKept.run_getObj_map h1,hc,hf,hkey,MapKept.run_keyThatStays (show MapKept.IsKey (.int q) (.int q k)from rfl),MapKept.run_setObj_map _ h1,Result.andThen,World.putObj]
theorem xN{l:List (Int×Value)}{x y:Operand}{t kt e:TypeId}{k:Int}(z v:Value)(bb:Bool)[ht:Gw P t kt e q][hz:Qn P e z](hx:ev F x=some (.map (some b)))(hy:ev F y=some (.int q k))[hm:GN H b Value q (λv=>v) l f](h1:oH l k z=v)(h2:qn l k=bb):
  VS P N c ⟨d, .lookup t x y true,ty,ps,af,g⟩ F H (.tuple #[v, .bool bb]):=by
 subst h1 h2;haveI:Qn P e ((λv:Value=>v) z):=hz;exact Qk (E:=λv:Value=>v) z hx hy
theorem QV{u0 u1 u2 z:Value}{k:Int}(h0:¬k=0)(h1:¬k=1)(h2:¬k=2):oH (uC (uC (uC [] 0 u0) 1 u1) 2 u2) k z=z/\qn (uC (uC (uC [] 0 u0) 1 u1) 2 u2) k=false:=by
 show oH [(0,u0),(1,u1),(2,u2)] k z=z/\qn [(0,u0),(1,u1),(2,u2)] k=false;have e0:(k==0)=false:=by simpa using h0
 have e1:(k==1)=false:=by simpa using h1
 have e2:(k==2)=false:=by simpa using h2
 simp[oH,qn,fX,e0,e1,e2]
end
end Go.Bw
