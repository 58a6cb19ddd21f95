/- Part 6 of what a proof leans on; pruned and shortened by a program out of longer texts. -/
import Derived.Test.YtjabpidfkmhbbabGreatDoorQ5
namespace Go.Rw
open Go Go.Bw Go.RowKit
variable {G:Sg} {P:Program} {tt:TT P G} {zt:ZT P G} {J:World->Prop} {ρ:aP} {a:Act} {w:World} {d:Option Tmp} {ty:TypeId} {ps:String} {af:Array Edge} {g:Option (Nat×Bool)}
 {N:Nat} {c:Cx} {H:List ay} {D:List Deferred} {ob:Nat->Option (Ob G)} {E:Operand->Option (AV G)}
def HU(c:AV G)(i o:Nat):pg:=match c with
 | .dat (.jr n e) _ => .idx n (e.L G).n i
 |_ => .Bj i o
def RK:pg->Bool
 | .idx n _ i=>cG i n
 |_ =>true
def QW(F:Jd G)(pl:List (Nat×Nat))(E:Operand->Option (AV G)):AV G->List (Nat×Operand)->Option (AV G)
 |c,[]=>some c
 |c,(i,x)::r=>match pl[i]?,E x with
  |some (o,n),some v=>bif (GR (some n) v||(Nat.beq n 1&&GR none v))&&(Nat.beq (HU c i o).off o&&RK (HU c i o))then(match HV F c [HU c i o] v with
   |some c'=>QW F pl E c' r
   |none=>none)else none
  |_,_ =>none
def UQ:AV G->Bool
 | .dat t _ =>t.ag
 | .st _ =>true
 |_ =>false
def plT(tt:TT P G)(T:Nat)(parts:List (Nat×Operand)):Option (List (Nat×Nat)):=match tt.te.find T with
 |some (.jr n _ sz _)=>bif (parts.map (·.1)).all λi=>decide (i<n)then some (Lv n sz)else none
 |_ =>CH P T
def MH(tt:TT P G)(zt:ZT P G)(E:Operand->Option (AV G))(T:Nat)(parts:List (Nat×Operand)):PV G:=match plT tt T parts,zt.z.find T with
 |some pl,some c0=>match QW tt.F pl E c0 parts with
  |some v=>bif UQ v then some ([],v)else none
  |none=>none
 |_,_ =>none
theorem Q2{v:AV G}{u:Value}(h:UQ v=true)(hv:rv J ρ v u):u= .agg u.cells:=by
 cases v with
 |dat t x=>obtain⟨u',e,h1⟩:=hv;cases e;obtain⟨cs,e⟩:=h1.2.1 h;rw[e];simp[Value.cells]
 |st a=>obtain⟨cs,e,_⟩:=hv;cases e;simp[Value.cells]
 |_ =>cases h
theorem QV{F:Jd G}{pl:List (Nat×Nat)}(hE:w8 J ρ a E):∀{parts:List (Nat×Operand)} {c0 v:AV G} {u0:Value},QW F pl E c0 parts=some v->rv J ρ c0 u0->
  ∃u vs,rv J ρ v u/\Bl (kQ a) (parts.map (·.2))=some vs/\qV pl u0.cells.toList ((parts.map (·.1)).zip vs)=some u.cells.toList:=by
 intro parts
 induction parts with
 |nil=>intro c0 v u0 h h0;cases h;exact⟨u0,[],h0,rfl,rfl⟩
 |cons q r ih=>
  obtain⟨i,x⟩:=q;intro c0 v u0 h h0;simp only[QW]at h;split at h
  ·rename_i o n v1 hp hx
   cases hb:((GR (some n) v1||(Nat.beq n 1&&GR none v1))&&(Nat.beq (HU c0 i o).off o&&RK (HU c0 i o)))with
   |false=>rw[hb]at h;cases h
   |true=>
    rw[hb]at h;simp only[cond_true]at h;rw[ab7,ab7]at hb;obtain⟨hb,hbo,YQ⟩:=hb;have hbo:=ab6 hbo;split at h
    ·rename_i c' hc
     have Ye:=hE.ok _ _ hx;have hsz:(a.eval x).cells.size=n:=by
      simp only[Bool.or_eq_true,ab7]at hb;rcases hb with hb|⟨KV,ED⟩
      ·exact((Uv hb Ye).2 n rfl).1
      ·rw[(Uv ED Ye).1 rfl,ab6 KV];rfl
     obtain⟨u',k1,k2,k3,_⟩:=E1 Ye hc h0 (by
      intro s hs;rw[List.mem_singleton.1 hs];revert YQ;generalize HU c0 i o=s;intro YQ;cases s with
      |Bj _ _ =>trivial
      |idx _ _ _ =>exact YQ)
     obtain⟨u,vs,m1,m2,m3⟩:=ih h k1;refine⟨u,a.eval x::vs,m1,?_,?_⟩
     ·simp only[List.map_cons,Bl,hE.ev _ _ hx,m2]
     ·have ho:dh [HU c0 i o]=o:=by simp[dh,hbo]
      rw[ho]at k2 k3;simp only[List.map_cons,List.zip_cons_cons,qV,hp];rw[ab5, ← k2]
      ·exact m3
      ·simp only[ne_eq,hsz,not_true_eq_false,decide_false,Bool.false_or,decide_eq_true_eq,Array.length_toList]
       omega
    ·cases h
  ·cases h
theorem MG(hm:I7 (G:=G) J ρ N c D H ob a w)(hE:w8 J ρ a E){T:Nat}{parts:Array (Nat×Operand)}{v:AV G}{gs:List Bool}(h:MH tt zt E T parts.toList=some (gs,v)):yq P c J ρ ⟨d, .build T parts,ty,ps,af,g⟩ a w v:=by
 unfold MH at h;split at h
 ·rename_i pl c0 h1 h2
  split at h
  ·rename_i v' hb
   cases hag:UQ v' with
   |false=>rw[hag]at h;cases h
   |true=>
    rw[hag]at h;cases h;obtain⟨u0,z1,z2⟩:=zt.ok T c0 h2 J ρ;obtain⟨u,vs,m1,m2,m3⟩:=QV hE hb z2;haveI:gq P T u0.cells.toList:=⟨z1⟩;have:VS P N c ⟨d, .build T parts.toList.toArray,ty,ps,af,g⟩ (kQ a) H (.agg u.cells.toList.toArray):=by
     unfold plT at h1;split at h1
     ·rename_i n e sz tot ht
      haveI:=tt.jr ht;cases hi:(parts.toList.map (·.1)).all λi=>decide (i<n)with
      |false=>rw[hi]at h1;cases h1
      |true=>rw[hi]at h1;cases h1;exact Lh m2 m3 hi
     ·haveI:Vf P T pl:=⟨h1⟩
      exact vY (P:=P) (N:=N) (c:=c) (H:=H) (d:=d) (ty:=ty) (p:=ps) (af:=af) (g:=g) (F:=kQ a) (t:=T) m2 m3
    refine⟨u,m1,?_⟩;have e:=Q2 hag m1;rw[e];have:=this.vk hm.st;simpa using this
  ·cases h
 ·cases h
def eq1{i:Nat}(x y:G.S i)(f:Fd G i):Option Bool:=match f with
 |⟨.int _,_,get,_,_⟩=>some (@BEq.beq Int inferInstance (get x) (get y))
 |⟨.bool,_,get,_,_⟩=>some (@BEq.beq Bool inferInstance (get x) (get y))
 |_ =>none
def eqF{i:Nat}(x y:G.S i):List (Fd G i)->Bool->Option Bool
 |[],b=>some b
 |f::r,b=>match eq1 x y f with
  |some c=>eqF x y r (b&&c)
  |none=>none
def eqS{i:Nat}(x y:G.S i):List (Fd G i)->Option Bool
 |[]=>none
 |f::r=>match eq1 x y f with
  |some c=>eqF x y r c
  |none=>none
def GA{i:Nat}:List (Fd G i)->List (Nat×Option IntKind)
 |[]=>[]
 |f::r=>(f.off,match f.ty with
  | .int k=>some k
  |_ =>none)::GA r
theorem NQ{i:Nat}{x y:G.S i}{f:Fd G i}{b:Bool}{cs ds:List Value}(h:eq1 x y f=some b)(hc:(G.L i).dS J cs x)(hd:(G.L i).dS J ds y):FM cs[f.off]? ds[f.off]? =b/\qf (match f.ty with
  | .int k=>some k
  |_ =>none) cs[f.off]? =true/\qf (match f.ty with
  | .int k=>some k
  |_ =>none) ds[f.off]? =true:=by
 obtain⟨t,o,get,set,ok⟩:=f;cases t<;>simp only[eq1]at h<;>try (cases h;done)
 ·rename_i k
  cases h;have e1:=aO.int (k:=k) ok hc;have e2:=aO.int (k:=k) ok hd;rw[e1,e2];exact⟨rfl,by simp[qf],by simp[qf]⟩
 ·cases h
  have e1:=aO.bool ok hc;have e2:=aO.bool ok hd;rw[e1,e2];exact⟨rfl,rfl,rfl⟩
theorem UB{i:Nat}{x y:G.S i}{cs ds:List Value}(hc:(G.L i).dS J cs x)(hd:(G.L i).dS J ds y):∀{l:List (Fd G i)} {b e:Bool},eqF x y l b=some e->(b&&AA (GA l) cs ds)=e/\wP (GA l) cs=true/\wP (GA l) ds=true:=by
 intro l
 induction l with
 |nil=>intro b e h;cases h;exact⟨by simp[GA,AA],rfl,rfl⟩
 |cons f r ih=>
  intro b e h;simp only[eqF]at h;split at h
  ·rename_i c1 h1
   obtain⟨k1,k2,k3⟩:=NQ h1 hc hd;obtain⟨m1,m2,m3⟩:=ih h;refine⟨?_,?_,?_⟩
   ·simp only[GA,AA,k1];rw[← m1,Bool.and_assoc]
   ·simp only[GA,wP,k2,m2,Bool.and_self]
   ·simp only[GA,wP,k3,m3,Bool.and_self]
  ·cases h
def MF(tt:TT P G)(o:BinOp)(T:Nat):AV G->AV G->PV G
 | .dat (.st i) x, .dat (.st j) y=>if h:j=i then(bif Dh P T (GA (tt.F i))then(match eqS x (h▸y) (tt.F i),o with
  |some b, .eql=>some ([], .bool b)
  |some b, .neq=>some ([], .bool (!b))
  |_,_ =>none)else none)else none
 |_,_ =>none
theorem ME(hm:I7 (G:=G) J ρ N c D H ob a w)(hE:w8 J ρ a E){o:BinOp}{T U:Nat}{x y:Operand}{va vb v:AV G}{gs:List Bool}(h:MF tt o T va vb=some (gs,v))(hx:E x=some va)(hy:E y=some vb):yq P c J ρ ⟨d, .binOp o T x y U,ty,ps,af,g⟩ a w v:=by
 unfold MF at h;split at h
 ·rename_i i x' j y'
  by_cases e:j=i
  ·subst e
   rw[dif_pos rfl]at h;cases hk:Dh P T (GA (tt.F j))with
   |false=>rw[hk]at h;cases h
   |true=>
    rw[hk]at h;simp only[cond_true]at h;obtain⟨u,e1,r1⟩:=hE.ok _ _ hx;obtain⟨u2,e2,r2⟩:=hE.ok _ _ hy;cases e1;cases e2;obtain⟨cs,ec⟩:=r1.2.1 rfl;obtain⟨ds,ed⟩:=r2.2.1 rfl;have hc:(G.L j).dS J cs x':=by have:=r1.1;rw[ec]at this;simp only[Value.cells]at this;exact this
    have hd:(G.L j).dS J ds y':=by have:=r2.1;rw[ed]at this;simp only[Value.cells]at this;exact this
    have fx:=hE.ev _ _ hx;have fy:=hE.ev _ _ hy;rw[ec]at fx;rw[ed]at fy;haveI:I5 P T (GA (tt.F j)):=⟨hk⟩;have main:∀b,eqS x' y' (tt.F j)=some b->AA (GA (tt.F j)) cs ds=b/\wP (GA (tt.F j)) cs=true/\wP (GA (tt.F j)) ds=true:=by
     intro b hb;cases hl:tt.F j with
     |nil=>rw[hl]at hb;cases hb
     |cons f r=>
      rw[hl]at hb;simp only[eqS]at hb;split at hb
      ·rename_i c1 h1
       obtain⟨k1,k2,k3⟩:=NQ h1 hc hd;obtain⟨m1,m2,m3⟩:=UB hc hd hb;exact⟨by simp only[GA,AA,k1];exact m1,by simp only[GA,wP,k2,m2,Bool.and_self],by simp only[GA,wP,k3,m3,Bool.and_self]⟩
      ·cases hb
    split at h
    ·rename_i b hb
     cases h;obtain⟨m1,m2,m3⟩:=main b hb;have:=(Ke (P:=P) (N:=N) (c:=c) (H:=H) (d:=d) (ty:=ty) (p:=ps) (af:=af) (g:=g) (T:=T) (U:=U) fx fy m2 m3).vk hm.st;rw[m1]at this;exact⟨_,rfl,this⟩
    ·rename_i b hb
     cases h;obtain⟨m1,m2,m3⟩:=main b hb;have:=(Rd (P:=P) (N:=N) (c:=c) (H:=H) (d:=d) (ty:=ty) (p:=ps) (af:=af) (g:=g) (T:=T) (U:=U) fx fy m2 m3).vk hm.st;rw[m1]at this;exact⟨_,rfl,this⟩
    ·cases h
  ·rw[dif_neg e]at h;cases h
 ·cases h
end Go.Rw
namespace Go.Bw
open Go Go.RowKit
end Go.Bw
namespace Go.Bw
open Go Go.RowKit
section rules
variable {P:Program} {N:Nat} {c:Cx} {D:List Deferred} {Q:Exit->Act->World->Prop} {F:cO} {H:List ay} {d:Option Tmp} {ty:TypeId} {ps:String} {af:Array Edge} {g:Option (Nat×Bool)} {α β γ:Type}
theorem KB{w:World}{v:Value}{e sz n m:Nat}{xs:List Value}(h:(ay.row v e sz n xs).holds w)(hm:m<=n):(ay.row (jQ 0 m sz v) e sz m (xs.take (m*sz))).holds w:=by
 obtain⟨h1,h2⟩:=h;have hle:m*sz<=n*sz:=Nat.mul_le_mul_right _ hm;refine⟨by rw[List.length_take,h1,Nat.min_eq_left hle],?_⟩;rcases h2 with⟨rfl,rfl⟩|⟨gb,o,cap,cur,rfl,q2,q3,q4,q5,q6⟩
 ·obtain rfl:m=0:=by omega
  exact .inl ⟨by simp[jQ],rfl⟩
 ·refine .inr ⟨gb,o,cap,cur,?_,q2,by omega,q4,q5,?_⟩
  ·simp[jQ,Addr.add_lit]
  ·rw[← q6,List.take_take,Nat.min_eq_left hle]
theorem Kz{w:World}{v:Value}{e sz n l:Nat}{xs:List Value}(h:(ay.row v e sz n xs).holds w)(hl:l<=n):(ay.row (jQ l n sz v) e sz (n-l) (xs.drop (l*sz))).holds w:=by
 obtain⟨h1,h2⟩:=h;refine⟨by rw[List.length_drop,h1,Nat.sub_mul],?_⟩;rcases h2 with⟨rfl,rfl⟩|⟨gb,o,cap,cur,rfl,q2,q3,q4,q5,q6⟩
 ·obtain rfl:l=0:=by omega
  exact .inl ⟨by simp[jQ],rfl⟩
 ·have hlc:l*sz<=cap*sz:=Nat.mul_le_mul_right _ (by omega)
  by_cases hc:cap=l
  ·refine .inr ⟨gb,o,cap-l,cur,by simp[jQ,hc],q2,by omega,by omega,by rw[Nat.sub_mul];omega,?_⟩
   have:n-l=0:=by omega
   rw[this,Nat.zero_mul,List.take_zero];have hle:n*sz<=l*sz:=Nat.mul_le_mul_right _ (by omega);exact(List.drop_of_length_le (by omega)).symm
  ·refine .inr ⟨gb,o+l*sz,cap-l,cur,by simp[jQ,hc,Addr.add_lit],q2,by omega,by omega,by rw[Nat.sub_mul];omega,?_⟩
   rw[← q6, ← List.drop_drop,List.drop_take,Nat.sub_mul]
theorem Rs{v:Value}{n m sz:Nat}(h:qF v n):qF (jQ 0 m sz v) m:=by obtain⟨a,cp,rfl⟩:=h;exact⟨_,_,rfl⟩
theorem Er(L:bX α)[aS L](xs:List α){m sz:Nat}(hn:L.n=sz)(hm:m<=xs.length):(cS L xs).take (m*sz)=cS L (xs.take m):=by have:=Mr L xs 0 m (Nat.zero_le _) hm;subst hn;simpa using this
theorem Aj(L:bX α)[aS L](z0:α){z:Value}(he:L.enc z0=[z]):∀n:Nat,cS L (List.replicate n z0)=List.replicate n z
 |0=>rfl
 |n+1=>by have:=Aj L z0 he n;rw[List.replicate_succ,List.replicate_succ];show L.enc z0++cS L (List.replicate n z0)=_;rw[he,this];rfl
theorem Gg{P:Program}{w:World}{t e ty:Nat}(e1:P.underlying t=some (.slice e))(a:Option Addr)(cp:Nat):(Builtin.clear_ #[t] ty #[.slice a 0 cp]).run P w= .ok (.tuple #[]) w:=by cases a<;>simp[Builtin.clear_,run_underlying e1]
theorem Ll{L:bX α}[aS L]{xs ys:List α}{v:Value}{e t m:Nat}{z0:α}{z:Value}{x:Operand}{f:ay->List ay}(ht:Bm P t e 1=true)(hz:I4 P e z)(he:L.enc z0=[z])(hz1:z.cells= #[z])(h1:z.oneCell'=true)(hL:L.n=1)(hm:m<=xs.length)
  (hx:ev F x=some (jQ m xs.length 1 v))[hr:qZ H v e 1 xs.length (cS L xs) f](hy:ys=xs.take m++List.replicate (xs.length-m) z0):
  RX (α:=Unit) P N c ⟨d, .call ⟨.builtin .clear, #[x], #[t]⟩,ty,ps,af,g⟩ F H (λ_ =>True) (λ_ => .tuple #[]) (λ_ =>f (og v e 1 L ys)):=λD a w next Q hst hk=>by
 obtain⟨inf,e1,e2,e3⟩:=sD.get ht;obtain⟨k,k1,k2⟩:=hr.ok;have GK:ay.row v e 1 xs.length (cS L xs)∈H:=List.mem_of_getElem? k1;have hown:iv w e 1 v xs.length (cS L xs):=hst.hp.holds _ GK;obtain⟨hlen,Bf⟩:=hown;have qz:=aA hst.fr hx;have hyl:ys.length=xs.length:=by rw[hy,List.length_append,List.length_take,List.length_replicate];omega
 by_cases hem:m=xs.length
 ·have hyx:ys=xs:=by rw[hy,hem,List.take_length];simp
  refine cE (by simp) (v:= .tuple #[]) (w':=w) ?_ (hk () w trivial hst.si ?_)
  ·have hv:∃a0 cp,a.eval x= .slice a0 0 cp:=by
    rw[qz,hem];rcases Bf with⟨hv,h0⟩|⟨gb,o,cap,cur,hv,_⟩
    ·rw[hv];exact⟨_,_,by rw[jQ,Nat.sub_self]⟩
    ·rw[hv];exact⟨_,_,by rw[jQ,Nat.sub_self]⟩
   obtain⟨a0,cp,hv⟩:=hv;have:=Gg (P:=P) (w:=w) (ty:=ty) e1 a0 cp;simp[execOp,resolve,invoke,builtin,hv,this]
  ·rw[k2]
   exact hst.hp.yY k1 (λw hw=>by rw[hyx];exact hw) (λb hb=>by rw[hyx]at hb;exact hb)
 ·rcases Bf with⟨_,h0⟩|⟨gb,o,cap,cur,rfl,JK,hnc,ID,hcs,Bd⟩
  ·omega
  have hone:lI (List.replicate (xs.length-m) z):=λv hv=>by rw[List.eq_of_mem_replicate hv];exact h1
  have hsc:=run_storeCells_at P gb (o+m) e (List.replicate (xs.length-m) z) 0 cur w JK (by simp;omega) hone;simp only[Nat.add_zero]at hsc;obtain⟨cs',Ui⟩:∃cs',(cur.toList.take (o+m)++List.replicate (xs.length-m) z++cur.toList.drop (o+m+(List.replicate (xs.length-m) z).length)).toArray=cs':=⟨_,rfl⟩;rw[Ui]at hsc;have fF:aG [gb] w (w.setRow gb cs'):=⟨rfl,rfl,rfl,by simp,λk _ hk=>setRow_other w gb k _ (by simpa using hk)⟩;refine cE (by simp) (v:= .tuple #[]) (w':=w.setRow gb cs') ?_ (hk () _ trivial (hst.si.store hst.hp GK (by simp[ay.bK,Value.ownBlock]) fF) ?_)
  ·obtain⟨j,hj⟩:∃j,xs.length-m=j+1:=⟨xs.length-m-1,by omega⟩
   have hzr:=H6 hz w;have X4:=xb hz1 (j+1);have hne:¬cap=m:=by omega
   rw[hj]at hsc;have hx3:a.eval x= .slice (some ⟨gb,o+m,none⟩) (j+1) (cap-m):=by rw[qz];simp[jQ,hne,Addr.add_lit,hj]
   simp[execOp,resolve,invoke,builtin,hx3,Builtin.clear_,run_underlying e1,hzr,X4,hsc]
  ·show aX c.bs c.w0.heap.size (f (og _ e 1 L ys)) _
   rw[og,k2];have Ft:=setRow_heap w gb cur cs' e (0,0) JK;refine hst.hp.set k1 fF.size (λj hj hn=>fF.block j hj (by simpa[ay.bK,Value.ownBlock]using hn)) ?_ hst.si.size (λb' hb'=>?_)
   ·refine⟨by rw[jh,hL], .inr ⟨gb,o,cap,cs',by rw[hyl],Ft,by omega,ID,?_,?_⟩⟩
    ·rw[← Ui];simp;omega
    ·have e7:=qX (cs:=cur.toList) (vs:=List.replicate (xs.length-m) z) (o:=o) (off:=m) (k:=xs.length*1) (by simp;omega) (by have h8:cur.toList.length=cur.size:=Array.length_toList;omega)
     rw[Bd]at e7;rw[hyl, ← Ui];refine e7.trans ?_;rw[hy,p9,Aj L z0 he];have t1:=Er L xs (m:=m) (sz:=1) hL hm;rw[Nat.mul_one]at t1;unfold bh;rw[t1,List.drop_of_length_le (by simp[jh,hL];omega),List.append_nil]
   ·have h5:b'=gb:=by simpa[ay.bK,Value.ownBlock]using hb'
    subst h5;exact⟨.inl (by simp[ay.bK,Value.ownBlock]),Nat.lt_of_lt_of_le (acf.1 JK).1 fF.size⟩
theorem Zv{ops:Array Oper}{rest:List Oper}{op:Op}{dd:Tmp}{gg:Option (Nat×Bool)}{b:Bool}{v:Value}(hg:Gd ops F gg b)(hb:b=false)(hd:Nat.blt dd N=true)
  (h:WL P N c D ops Q rest ((dd,bif b then v else undef)::F) H):WL P N c D ops Q (⟨some dd,op,ty,ps,af,gg⟩::rest) F H:=by
 subst hb;exact FP hg hd h
end rules
end Go.Bw
namespace Go.Rw
open Go Go.Bw Go.RowKit
variable {G:Sg} {P:Program} {tt:TT P G} {zt:ZT P G} {J:World->Prop} {ρ:aP} {a:Act} {w:World} {d:Option Tmp} {ty:TypeId} {ps:String} {af:Array Edge} {g:Option (Nat×Bool)}
 {N:Nat} {c:Cx} {H HK X:List ay} {C:CC G} {S:AS G} {D:List Deferred} {E:Operand->Option (AV G)}
def tyA:AV G->Option Ty
 | .int k _ =>some (.int k)
 | .bool _ =>some .bool
 | .dat t _ =>some t
 |_ =>none
def Za(t:Ty)(E:Operand->Option (AV G)):Nat->List (Nat×Operand)->Option (List (t.T G))
 |_,[]=>some []
 |k,(i,x)::r=>bif Nat.beq i k then(match E x with
  |some v=>match xQ t v,Za t E (k+1) r with
   |some y,some l=>some (y::l)
   |_,_ =>none
  |none=>none)else none
theorem NP{n sz:Nat}:∀{vs:List Value} {k:Nat} {rE:List Value},(∀v∈vs,v.cells.size=sz)->k+vs.length<=n->rE.length=n*sz->
  qV (Lv n sz) rE ((List.range' k vs.length).zip vs)=some (rE.take (k*sz)++vs.flatMap (λv=>v.cells.toList)++rE.drop ((k+vs.length)*sz)):=by
 intro vs
 induction vs with
 |nil=>intro k rE _ _ _;simp[qV]
 |cons v r ih=>
  intro k rE hv hk hl;have h0:=hv v (by simp);have hlt:k<n:=by simp at hk;omega
  have hle:k*sz+sz<=n*sz:=by rw[← Nat.succ_mul];exact Nat.mul_le_mul_right _ hlt
  simp only[List.length_cons,List.range'_succ,List.zip_cons_cons,qV,Fk hlt];rw[ab5 (by simp[h0];omega)];have Yh:(bh rE (k*sz) v.cells.toList).length=n*sz:=by rw[pY (by rw[Array.length_toList];omega)];exact hl
  rw[ih (λx hx=>hv x (by simp[hx])) (by simp at hk;omega) Yh];have hvl:v.cells.toList.length=sz:=by rw[Array.length_toList];exact h0
  have t1:(bh rE (k*sz) v.cells.toList).take ((k+1)*sz)=rE.take (k*sz)++v.cells.toList:=by unfold bh;rw[Nat.succ_mul,List.take_append_of_le_length (by simp[hvl];omega),List.take_of_length_le (by simp[hvl];omega)]
  have t2:(bh rE (k*sz) v.cells.toList).drop ((k+1+r.length)*sz)=rE.drop ((k+(r.length+1))*sz):=by
   have e1:(k+1+r.length)*sz=k*sz+sz+r.length*sz:=by rw[Nat.add_mul,Nat.succ_mul]
   have e2:(k+(r.length+1))*sz=k*sz+sz+r.length*sz:=by rw[← e1];congr 1;omega
   unfold bh;rw[e1,e2,List.drop_append,hvl];have hz:(rE.take (k*sz)++v.cells.toList).length=k*sz+sz:=by simp[hvl];omega
   rw[List.drop_eq_nil_of_le (by rw[hz];omega),List.nil_append,hz,List.drop_drop];congr 1;omega
  rw[t1,t2];simp
theorem UE{t:Ty}(hE:w8 J ρ a E):∀{parts:List (Nat×Operand)} {k:Nat} {xs:List (t.T G)},Za t E k parts=some xs->∃vs,Bl (kQ a) (parts.map (·.2))=some vs/\parts.map (·.1)=List.range' k xs.length/\vs.length=xs.length/\
  (∀v∈vs,v.cells.size=(t.L G).n)/\(LA (t.L G) xs.length).dS J (vs.flatMap λv=>v.cells.toList) (λi=>xs.getD i default):=by
 intro parts
 induction parts with
 |nil=>intro k xs h;cases h;exact⟨[],rfl,rfl,rfl,by simp,Vv⟩
 |cons q r ih=>
  obtain⟨i,x⟩:=q;intro k xs h;simp only[Za]at h;cases hb:Nat.beq i k with
  |false=>rw[hb]at h;cases h
  |true=>
   rw[hb]at h;obtain rfl:=ab6 hb;simp only[cond_true]at h;split at h
   ·rename_i v hx
    split at h
    ·rename_i y l hy hl
     cases h;obtain⟨vs,m1,m2,m3,m4,m5⟩:=ih hl;have hr:=wv hy (hE.ok _ _ hx);have hlen:=(t.L G).len hr.1;rw[Array.length_toList]at hlen;refine⟨a.eval x::vs,?_,?_,by simp[m3],λv hv=>?_,?_⟩
     ·simp only[List.map_cons,Bl,hE.ev _ _ hx,m1]
     ·simp only[List.map_cons,m2,List.length_cons,List.range'_succ]
     ·rcases List.mem_cons.1 hv with rfl|hv
      ·exact hlen
      ·exact m4 v hv
     ·have:=OT (Vu hr.1) m5
      simpa using this
    ·cases h
   ·cases h
theorem Qr{bs:List Nat}{n0 b e sz n:Nat}{cs:List Value}{w:World}(hl:cs.length=n*sz)(hn:n<=9223372036854775807)(h:aX bs n0 (.cells b e cs::H) w):aX bs n0 (.row (.slice (some ⟨b,0,none⟩) n n) e sz n cs::H) w:=by
 have:=h.yY (k:=0) (r:= .cells b e cs) (r':= .row (.slice (some ⟨b,0,none⟩) n n) e sz n cs) rfl (λw hw=>by
  have hb:w.heap[b]? =some (.cells cs.toArray e (0,0)):=hw;exact zc (base:=0) ⟨hl, .inr ⟨b,n,_,rfl,Nat.zero_le _,hb,Nat.le_refl _,hn,by simp[hl],List.take_of_length_le (by simp[hl])⟩⟩) (λx hx=>by simpa[ay.bK,Value.ownBlock]using hx)
 exact this
theorem W3{T n e sz bt:Nat}{parts:Array (Nat×Operand)}{z:AV G}{t:Ty}{xs:List (t.T G)}(hT:tt.te.find T=some (.sl e sz bt))(hz:zt.z.find e=some z)(hxs:Za t (dX C S []) 0 parts.toList=some xs)(hn:xs.length=n)(hsz:(t.L G).n=sz)(h0:0<n*sz)(hcap:n*sz<=16777216):
  SK P ⟨d, .buildSlice T n parts,ty,ps,af,g⟩ C S {S with O:=(S.nx, .row e sz t xs)::S.O,nx:=S.nx+1} (.row S.nx):=by
 intro c N ρ J HK X a w next Q h hk
 obtain⟨HS,h1,hs0,hm⟩:=h.st;have hE:=bQ h (ch:=[]) (by simp);obtain⟨vs,m1,m2,m3,m4,m5⟩:=UE hE hxs;obtain⟨u,z1,z2⟩:=zt.ok e z hz J ρ;haveI:gq P e u.cells.toList:=⟨z1⟩;haveI:=(tt.sl hT).1;subst hn;subst hsz;have hb0:((List.range (xs.length*(t.L G).n)).map λj=>u.cells.toList[j%u.cells.toList.length]!).length=xs.length*(t.L G).n:=by simp
 have GM:=NP (n:=xs.length) (sz:=(t.L G).n) (vs:=vs) (k:=0) m4 (by omega) hb0;rw[m3, ← m2]at GM;have hcs:(((List.range (xs.length*(t.L G).n)).map λj=>u.cells.toList[j%u.cells.toList.length]!).take (0*(t.L G).n)++vs.flatMap (λv=>v.cells.toList)++((List.range (xs.length*(t.L G).n)).map λj=>u.cells.toList[j%u.cells.toList.length]!).drop ((0+xs.length)*(t.L G).n))=vs.flatMap (λv=>v.cells.toList):=by rw[List.drop_eq_nil_of_le (by rw[hb0,Nat.zero_add];exact Nat.le_refl _)];simp
 rw[hcs]at GM;have hlen:(vs.flatMap (λv=>v.cells.toList)).length=xs.length*(t.L G).n:=(LA (t.L G) xs.length).len m5;have hi:((parts.toList.map (·.1)).all λi=>decide (i<xs.length))=true:=by rw[m2,List.all_eq_true];intro i hi;rw[List.mem_range'_1]at hi;simp;omega
 have hx1:xs.length<=9223372036854775807:=by
  have hpos:0<(t.L G).n:=by
   rcases Nat.eq_zero_or_pos (t.L G).n with q|q
   ·rw[q]at h0;omega
   ·exact q
  have:xs.length<=xs.length*(t.L G).n:=Nat.le_mul_of_pos_right _ hpos;omega
 have:=Vn (P:=P) (N:=N) (c:=c) (d:=d) (ty:=ty) (ps:=ps) (af:=af) (g:=g) (F:=kQ a) (H:=HS++(HK++X)) (t:=T) (n:=xs.length) m1 GM hi h0 hcap a.defers a w next Q hs0 λb w' _ hs hp=>by have xW:=Qr (n:=xs.length) hlen hx1 hp;obtain⟨ρ',q1,q2,q3⟩:=wA (t:=t) (zs:=xs) h h1 hs xW ⟨_,_,rfl⟩ m5 rfl;exact hk ρ' J [] w' _ q1 (λ_ h=>h) q2 q3
 simpa using this
end Go.Rw
namespace Go.Rw
open Go Go.Bw Go.RowKit
variable {G:Sg} {P:Program} {tt:TT P G} {J:World->Prop} {ρ:aP} {a:Act} {w:World} {d:Option Tmp} {ty:TypeId} {ps:String} {af:Array Edge} {g:Option (Nat×Bool)}
 {N:Nat} {c:Cx} {H:List ay} {D:List Deferred} {ob:Nat->Option (Ob G)} {E:Operand->Option (AV G)}
def Mz(E:Operand->Option (AV G))(e:Ty)(xs:List (e.T G)):Option Operand->Option Operand->Option Operand->PV G
 |none,none,none=>some ([], .dat (.sl e) xs)
 |some l,none,none=>match jq (E l)with
  |some (_,i,_)=>some ([cG i (xs.length+1)], .dat (.sl e) (xs.drop i.toNat))
  |none=>none
 |none,some h,none=>match jq (E h)with
  |some (_,i,_)=>some ([cG i (xs.length+1)], .dat (.sl e) (xs.take i.toNat))
  |none=>none
 |some l,some h,none=>match jq (E l),jq (E h)with
  |some (_,i,_),some (_,j,_)=>some ([cG j (xs.length+1),cG i (j.toNat+1)], .dat (.sl e) ((xs.drop i.toNat).take (j.toNat-i.toNat)))
  |_,_ =>none
 |none,some h,some m=>match jq (E h),jq (E m)with
  |some (_,i,_),some (_,j,_)=>some ([i==(xs.length:Int),j==(xs.length:Int)], .dat (.sl e) xs)
  |_,_ =>none
 |_,_,_ =>none
def Tm(tt:TT P G)(E:Operand->Option (AV G))(T:Nat)(x:Operand)(lo hi mx:Option Operand):PV G:=match E x,tt.te.find T with
 |some (.dat (.sl e) xs),some (.sl _ sz _)=>bif Nat.beq sz (e.L G).n then Mz E e xs lo hi mx else none
 |some .gA,some (.sl _ _ _)=>match lo,hi,mx with
  |none,some h,none=>match jq (E h)with
   |some (_,i,q)=>some (N5 q (i==0), .gA)
   |none=>none
  |_,_,_ =>none
 |_,_ =>none
theorem PG{w:World}{v:Value}{sz n:Nat}{xs:List Value}(h:Ro w v sz n xs):Ro w (uc v) sz n xs:=by
 obtain⟨h1,h2⟩:=h;refine⟨h1,?_⟩;rcases h2 with⟨⟨a,cp,rfl⟩,e⟩|⟨gb,off,cap,rfl,q1,q2,q3⟩
 ·exact .inl ⟨⟨a,0,by simp[uc,e]⟩,e⟩
 ·exact .inr ⟨gb,off,n,rfl,q1,Nat.le_refl _,q3⟩
theorem B7{e:Ty}{v:Value}{ws:List Value}{xs:List (e.T G)}(h:yB J v (e.L G) ws xs):sQ (G:=G) J (.sl e) xs v:=by have hc:v.cells.toList=[v]:=h.sl.cells;exact⟨⟨v,ws,hc,h⟩,nofun,λ_ =>by rw[← hc]⟩
theorem gK{E:Operand->Option (AV G)}(hE:w8 J ρ a E){x:Operand}{k:IntKind}{i:Int}{q:Bool}(h:jq (E x)=some (k,i,q)):Bw.ev (kQ a) x=some (.int k i):=(rH hE h).2
theorem My(hm:I7 (G:=G) J ρ N c D H ob a w)(hE:w8 J ρ a E){T x0 sz b:Nat}{x:Operand}{lo hi mx:Option Operand}{e:Ty}{xs:List (e.T G)}{v:AV G}{gs:List Bool}{v0:Value}{ws:List Value}(ht:tt.te.find T=some (.sl x0 sz b))(hs:sz=(e.L G).n)(hf:yB J v0 (e.L G) ws xs)(fx:Bw.ev (kQ a) x=some v0)
  (h:Mz E e xs lo hi mx=some (gs,v))(hg:∀b∈gs,b=true):yq P c J ρ ⟨d, .slice T x lo hi mx,ty,ps,af,g⟩ a w v:=by
 haveI:=(tt.sl ht).1;haveI:=hm.kn;haveI:=hf.at (c:=c) (H:=H);have cut:∀{l m:Nat} {ys:List (e.T G)},l<=m->m<=xs.length->ys=(xs.drop l).take (m-l)->sQ (G:=G) J (.sl e) ys (jQ l m sz v0):=λ{l m ys} h1 h2 h3=>by rw[h3];exact B7 (yB.cut hf hs h1 h2)
 unfold Mz at h;split at h
 ·cases h
  refine⟨v0,⟨v0,rfl,B7 hf⟩,?_⟩;refine(az (P:=P) (F:=kQ a) (H:=H) (by simp) λa' w' O3 hs' hp=>?_ :VS P N c _ _ _ _).vk hm.st;obtain⟨i,h1,h2,h3⟩:=sD.get (tt.sl ht).1.ok;obtain⟨a0,cp,rfl⟩:=hf.sl;simp[execOp,aA O3 fx,Instr.sliceAt,run_underlying h1,Instr.slice,Instr.sliceBounds,sizeOf,typeInfo,h2,h3,Addr.add]
 ·split at h
  ·rename_i k i q hl
   cases h;obtain⟨h1,h2⟩:=bB (hg (cG i (xs.length+1)) (by simp));have h2:=Nat.lt_succ_iff.1 h2;have fl:=gK hE hl;rw[h1]at fl;refine⟨_,⟨_,rfl,cut h2 (Nat.le_refl _) ?_⟩,(AP i.toNat fx fl h2).vk hm.st⟩;rw[List.take_of_length_le (by simp)]
  ·cases h
 ·split at h
  ·rename_i k i q hl
   cases h;obtain⟨h1,h2⟩:=bB (hg (cG i (xs.length+1)) (by simp));have h2:=Nat.lt_succ_iff.1 h2;have fl:=gK hE hl;rw[h1]at fl;refine⟨_,⟨_,rfl,cut (Nat.zero_le _) h2 ?_⟩,(EN i.toNat fx fl h2).vk hm.st⟩;rw[List.drop_zero,Nat.sub_zero]
  ·cases h
 ·split at h
  ·rename_i k i q k' j q' hl hh
   cases h;obtain⟨h1,h2⟩:=bB (hg (cG j (xs.length+1)) (by simp));obtain⟨h3,h4⟩:=bB (hg (cG i (j.toNat+1)) (by simp));have h2:=Nat.lt_succ_iff.1 h2;have h4:=Nat.lt_succ_iff.1 h4;have fl:=gK hE hl;have fh:=gK hE hh;rw[h3]at fl;rw[h1]at fh;exact⟨_,⟨_,rfl,cut h4 h2 rfl⟩,(Vd i.toNat j.toNat fx fl fh h4 h2).vk hm.st⟩
  ·cases h
 ·split at h
  ·rename_i k i q k' j q' hl hh
   cases h;have h1:i=(xs.length:Int):=by simpa using hg (i==(xs.length:Int)) (by simp)
   have h2:j=(xs.length:Int):=by simpa using hg (j==(xs.length:Int)) (by simp)
   have fl:=gK hE hl;have fh:=gK hE hh;rw[h1]at fl;rw[h2]at fh;refine⟨uc v0,⟨_,rfl,B7 (ws:=ws) ⟨hf.sl.abK,hf.dS,λw hw=>PG (hf.ro w hw)⟩⟩,(Kh fx fl fh).vk hm.st⟩
  ·cases h
 ·cases h
theorem PT(hm:I7 (G:=G) J ρ N c D H ob a w)(hE:w8 J ρ a E){T:Nat}{x:Operand}{lo hi mx:Option Operand}{v:AV G}{gs:List Bool}(h:Tm tt E T x lo hi mx=some (gs,v))(hg:∀b∈gs,b=true):yq P c J ρ ⟨d, .slice T x lo hi mx,ty,ps,af,g⟩ a w v:=by
 unfold Tm at h;split at h
 ·rename_i e xs x0 sz b hx ht
  cases hb:Nat.beq sz (e.L G).n with
  |false=>rw[hb]at h;cases h
  |true=>rw[hb]at h;obtain⟨u',e1,hr,_,hc⟩:=hE.ok _ _ hx;have fx:=hE.ev _ _ hx;cases e1;obtain⟨v',ws,e2,hf⟩:=hr;rw[hc rfl]at e2;cases e2;exact My hm hE ht (ab6 hb) hf fx h hg
 ·rename_i x0 sz b hx ht
  split at h
  ·split at h
   ·rename_i k i q hl
    cases h;have h1:i=0:=by simpa using zH hg
    have fl:=gK hE hl;have fx:=hE.ev _ _ hx;have e0:[a.eval x]=[.slice none 0 0]:=hE.ok _ _ hx;rw[(List.cons.inj e0).1]at fx;rw[h1]at fl;haveI:=(tt.sl ht).1;exact⟨_,rfl,(EM fx fl).vk hm.st⟩
   ·cases h
  ·cases h
 ·cases h
theorem S6{C:CC G}{S:AS G}{T r e sz bt:Nat}{x hi:Operand}{t:Ty}{xs:List (t.T G)}{k:IntKind}{i:Int}{q:Bool}(hT:tt.te.find T=some (.sl e sz bt))(hx:dX C S [] x=some (.row r))(ho:bP S.O r=some (.row e sz t xs))(hh:jq (dX C S [] hi)=some (k,i,q))(hg:cG i (xs.length+1)=true):
  SK P ⟨d, .slice T x none (some hi) none,ty,ps,af,g⟩ C S {S with O:=(S.nx, .row e sz t (xs.take i.toNat))::s7 S.O r,nx:=S.nx+1} (.row S.nx):=by
 intro c N ρ J HK X a w next Q h hk
 obtain⟨HS,h1,hs0,hm⟩:=h.st;have hE:=bQ h (ch:=[]) (by simp);obtain⟨kk,x0,k1,⟨vv,ws,m1,rfl,m3,m4,m5⟩,k3⟩:=h1.QL ho;have Nd:=oY (hE.ok _ _ hx) m1;have qz:=hE.ev _ _ hx;rw[Nd]at qz;obtain⟨g1,g2⟩:=bB hg;have g2:=Nat.lt_succ_iff.1 g2;have fl:=gK hE hh;rw[g1]at fl;haveI:=(tt.sl hT).1;have GK:ay.row vv e sz xs.length ws∈HS++(HK++X):=ace _ (List.mem_of_getElem? k1);haveI:mT c (HS++(HK++X)) vv sz xs.length ws:=⟨λw' _ hp'=>Ro.rz (hp'.holds _ GK)⟩;refine(EN (P:=P) (c:=c) (F:=kQ a) (H:=HS++(HK++X)) i.toNat qz fl g2) a.defers a w next Q hs0 λw' hs=>?_
 obtain⟨Vz,q1,q3⟩:=h.hp;have hlen:(xs.take i.toNat).length=i.toNat:=by rw[List.length_take];omega
 have xW:aX c.bs c.w0.heap.size (.row (jQ 0 i.toNat sz vv) e sz (xs.take i.toNat).length (ws.take (i.toNat*sz))::(HS.eraseIdx kk++(HK++X))) w':=by
  have p1:=(hs0.hp.ext hs).gH (mw k1 _);have:=p1.yY (k:=0) (r':= .row (jQ 0 i.toNat sz vv) e sz (xs.take i.toNat).length (ws.take (i.toNat*sz))) rfl (λw hw=>by
   rw[hlen];exact KB hw g2) (λb hb=>by simpa[ay.bK,G2]using hb)
  exact this
 have T5:(LA (t.L G) (xs.take i.toNat).length).dS J (ws.take (i.toNat*sz)) (λj=>(xs.take i.toNat).getD j default):=by have hc:=I8 (Nat.zero_le i.toNat) g2 m4;subst m5;simp only[List.drop_zero,Nat.sub_zero,Nat.zero_mul]at hc;exact hc
 obtain⟨ρ',q1,q2,q3⟩:=wA h k3 (h.si.s.ext hs) xW (by rw[hlen];exact Rs m3) T5 m5;exact hk ρ' J [] w' _ q1 (λ_ h=>h) q2 q3
theorem Mh{C:CC G}{S:AS G}{T r e sz bt:Nat}{x lo:Operand}{t:Ty}{xs:List (t.T G)}{k:IntKind}{i:Int}{q:Bool}(hT:tt.te.find T=some (.sl e sz bt))(hx:dX C S [] x=some (.row r))(ho:bP S.O r=some (.row e sz t xs))(hh:jq (dX C S [] lo)=some (k,i,q))(hg:cG i (xs.length+1)=true):
  SK P ⟨d, .slice T x (some lo) none none,ty,ps,af,g⟩ C S {S with O:=(S.nx, .row e sz t (xs.drop i.toNat))::s7 S.O r,nx:=S.nx+1} (.row S.nx):=by
 intro c N ρ J HK X a w next Q h hk
 obtain⟨HS,h1,hs0,hm⟩:=h.st;have hE:=bQ h (ch:=[]) (by simp);obtain⟨kk,x0,k1,⟨vv,ws,m1,rfl,m3,m4,m5⟩,k3⟩:=h1.QL ho;have Nd:=oY (hE.ok _ _ hx) m1;have qz:=hE.ev _ _ hx;rw[Nd]at qz;obtain⟨g1,g2⟩:=bB hg;have g2:=Nat.lt_succ_iff.1 g2;have fl:=gK hE hh;rw[g1]at fl;haveI:=(tt.sl hT).1;have GK:ay.row vv e sz xs.length ws∈HS++(HK++X):=ace _ (List.mem_of_getElem? k1);haveI:mT c (HS++(HK++X)) vv sz xs.length ws:=⟨λw' _ hp'=>Ro.rz (hp'.holds _ GK)⟩;refine(AP (P:=P) (c:=c) (F:=kQ a) (H:=HS++(HK++X)) i.toNat qz fl g2) a.defers a w next Q hs0 λw' hs=>?_
 obtain⟨Vz,q1,q3⟩:=h.hp;have hlen:(xs.drop i.toNat).length=xs.length-i.toNat:=by rw[List.length_drop]
 have xW:aX c.bs c.w0.heap.size (.row (jQ i.toNat xs.length sz vv) e sz (xs.drop i.toNat).length (ws.drop (i.toNat*sz))::(HS.eraseIdx kk++(HK++X))) w':=by
  have p1:=(hs0.hp.ext hs).gH (mw k1 _);have:=p1.yY (k:=0) (r':= .row (jQ i.toNat xs.length sz vv) e sz (xs.drop i.toNat).length (ws.drop (i.toNat*sz))) rfl (λw hw=>by
   rw[hlen];exact Kz hw g2) (λb hb=>by simpa[ay.bK,G2]using hb)
  exact this
 have T5:(LA (t.L G) (xs.drop i.toNat).length).dS J (ws.drop (i.toNat*sz)) (λj=>(xs.drop i.toNat).getD j default):=by have hc:=I8 g2 (Nat.le_refl _) m4;subst m5;have hw:ws.length=xs.length*(t.L G).n:=(LA (t.L G) xs.length).len m4;rw[List.take_of_length_le (by simp),List.take_of_length_le (by rw[List.length_drop,hw,Nat.sub_mul];exact Nat.le_refl _)]at hc;exact hc
 have Yh:qF (jQ i.toNat xs.length sz vv) (xs.drop i.toNat).length:=by rw[hlen];obtain⟨a0,cp,rfl⟩:=m3;exact⟨_,_,rfl⟩
 obtain⟨ρ',q1,q2,q3⟩:=wA h k3 (h.si.s.ext hs) xW Yh T5 m5;exact hk ρ' J [] w' _ q1 (λ_ h=>h) q2 q3
end Go.Rw
namespace Go.Bw
open Go
universe u
theorem rf{α:Sort u}{a:α}:a=a:=rfl
abbrev A(c:List Value):Value:= .agg c.toArray
abbrev Vs:=List Value
class Zx(P:Program)(t:TypeId):Prop where
 ok:P.underlying t=some .string
def look{α:Type}:List (Nat×α)->Nat->Option α
 |[],_ =>none
 |(k,v)::r,d=>bif Nat.beq k d then some v else look r d
def ikn:IntKind->Nat
 | .i8=>0| .i16=>1| .i32=>2| .i64=>3| .u8=>4| .u16=>5| .u32=>6| .u64=>7
def DL(k l:IntKind):Bool:=Nat.beq (ikn k) (ikn l)
theorem xA{k l:IntKind}(h:DL k l=true):k=l:=by cases k<;>cases l<;>first|rfl|(exact absurd h (by decide))
structure Tb where
 fl:List (Nat×List (Nat×Nat))
 ik:List (Nat×IntKind)
def N1(P:Program)(T:Tb):Bool:=
 (T.fl.all λp=>p.2.all λq=>Dg P p.1 q.1 q.2)&&T.ik.all λp=>match P.underlying p.1 with|some (.int k)=>DL k p.2|_ =>false
class Hl(P:Program)(T:outParam Tb):Prop where
 ok:N1 P T=true
theorem CN{α:Type}:∀{l:List (Nat×α)} {d:Nat} {v:α},look l d=some v->(d,v)∈l:=by
 intro l
 induction l with
 |nil=>intro d v h;cases h
 |cons p r ih=>
  intro d v h;obtain⟨k,u⟩:=p;simp only[look]at h;by_cases e:k=d
  ·subst e;rw[Nat.beq_refl]at h;simp at h;subst h;simp
  ·rw[qp e]at h;simp at h;exact ack _ (ih h)
def Tb.off(T:Tb)(s f:Nat):Option Nat:=match look T.fl s with
 |some l=>look l f
 |none=>none
def Tb.int(T:Tb)(t:Nat):Option IntKind:=look T.ik t
theorem Hl.Bj{P:Program}{T:Tb}(h:Hl P T){s f o:Nat}(e:T.off s f=some o):BR P s f o:=by
 have h:=h.ok;unfold N1 at h;rw[ab7]at h;unfold Tb.off at e;split at e
 ·rename_i l h1
  exact⟨List.all_eq_true.1 (List.all_eq_true.1 h.1 _ (CN h1)) _ (CN e)⟩
 ·cases e
theorem Hl.ty{P:Program}{T:Tb}(h:Hl P T){t:Nat}{k:IntKind}(e:T.int t=some k):OC P t k:=by
 have h:=h.ok;unfold N1 at h;rw[ab7]at h;have h2:=List.all_eq_true.1 h.2 _ (CN e);dsimp only at h2;split at h2
 ·rename_i k' e2
  rw[xA h2]at e2;exact⟨e2⟩
 ·cases h2
def W4(o:BinOp)(k:IntKind)(a b:Int):Option Value:=match o with
 | .add=>some (.int k (k.wrap (a+b)))
 | .sub=>some (.int k (k.wrap (a-b)))
 | .mul=>some (.int k (k.wrap (a*b)))
 | .eql=>some (.bool (a==b))
 | .neq=>some (.bool (a !=b))
 | .lss=>some (.bool (decide (a<b)))
 | .leq=>some (.bool (decide (a<=b)))
 | .gtr=>some (.bool (decide (b<a)))
 | .geq=>some (.bool (decide (b<=a)))
 |_ =>none
def sv(T:Tb)(F:cO):Op->Option Value
 | .move x=>ev F x
 | .assign x=>ev F x
 | .nilCheck x=>match ev F x with
  |some (.pointer (some a))=>some (.pointer (some a))
  |_ =>none
 | .unOp .not _ x=>match ev F x with
  |some (.bool b)=>some (.bool (!b))
  |_ =>none
 | .unOp .neg _ x=>match ev F x with
  |some (.int k a)=>some (.int k (k.wrap (0-a)))
  |_ =>none
 | .binOp o _ x y _ =>match ev F x with
  |some (.int k a)=>match ev F y with
   |some (.int l b)=>bif DL k l then W4 o k a b else none
   |_ =>none
  |_ =>none
 | .convert S t x=>match ev F x with
  |some (.int k a)=>match T.int S with
   |some l=>bif DL l k then(match T.int t with
    |some k'=>some (.int k' (k'.wrap a))
    |none=>none)else none
   |none=>none
  |_ =>none
 | .extract x i=>match ev F x with
  |some (.tuple vs)=>vs.toList[i]?
  |_ =>none
 | .fieldAddr s x f=>match ev F x with
  |some (.pointer (some ⟨b,off,none⟩))=>match T.off s f with
   |some fo=>some (cy b (off+fo))
   |none=>none
  |_ =>none
 | .makeFunc fn first cap=>match first.toList with
  |[]=>match Bl F cap.toList with
   |some vs=>some (.func fn #[] vs.toArray)
   |none=>none
  |_ =>none
 |_ =>none
theorem L7{P:Program}{T:Tb}[hT:Hl P T]{N:Nat}{c:Cx}{F:cO}{H:List ay}{op:Op}{v:Value}{d:Option Tmp}{ty:TypeId}{ps:String}{af:Array Edge}{g:Option (Nat×Bool)}
  (h:sv T F op=some v):VS P N c ⟨d,op,ty,ps,af,g⟩ F H v:=by
 unfold sv at h;split at h
 ·exact bH h
 ·exact pB h
 ·split at h
  ·rename_i a e;obtain rfl:=Option.some.inj h;exact vW e
  ·cases h
 ·split at h
  ·rename_i b e;obtain rfl:=Option.some.inj h;exact AN e
  ·cases h
 ·split at h
  ·rename_i e;obtain rfl:=Option.some.inj h;exact Ov e rfl
  ·cases h
 ·split at h
  ·rename_i o _ x y _ k a e
   split at h
   ·rename_i l b e2
    cases hb:DL k l with
    |false=>rw[hb]at h;cases h
    |true=>
     rw[hb]at h;obtain rfl:=xA hb;simp only[cond_true]at h;unfold W4 at h;split at h
     ·obtain rfl:=Option.some.inj h;exact Ve e e2 rfl
     ·obtain rfl:=Option.some.inj h;exact Oo e e2 rfl
     ·obtain rfl:=Option.some.inj h;exact U5 e e2 rfl
     ·obtain rfl:=Option.some.inj h;exact Vc e e2
     ·obtain rfl:=Option.some.inj h;exact U4 e e2
     ·obtain rfl:=Option.some.inj h;exact U8 e e2
     ·obtain rfl:=Option.some.inj h;exact U9 e e2
     ·obtain rfl:=Option.some.inj h;exact Ox e e2
     ·obtain rfl:=Option.some.inj h;exact I3 e e2
     ·cases h
   ·cases h
  ·cases h
 ·split at h
  ·rename_i S t x k a e
   split at h
   ·rename_i l e1
    cases hb:DL l k with
    |false=>rw[hb]at h;cases h
    |true=>
     rw[hb]at h;obtain rfl:=xA hb;simp only[cond_true]at h;split at h
     ·rename_i k' e2
      obtain rfl:=Option.some.inj h;haveI:=hT.ty e1;haveI:=hT.ty e2;exact Kg e rfl
     ·cases h
   ·cases h
  ·cases h
 ·split at h
  ·rename_i vs e
   exact nC (vs:=vs.toList) e h
  ·cases h
 ·split at h
  ·rename_i e
   split at h
   ·rename_i fo e1
    obtain rfl:=Option.some.inj h;haveI:=hT.Bj e1;exact zJ e
   ·cases h
  ·cases h
 ·rename_i fn first cap
  split at h
  ·rename_i e
   split at h
   ·rename_i e1
    obtain rfl:=Option.some.inj h;obtain⟨l⟩:=first
    obtain rfl:l=[]:=e;exact n7 (cap:=cap.toList) e1
   ·cases h
  ·cases h
 ·cases h
inductive Kf where
 |th (y:Code)
 |tk (K:Act->World->Prop)
 |bl (id:Nat)
def dq(P:Program)(ro:Option Nat)(Q:Exit->Act->World->Prop):List Kf->Exit->Act->World->Prop
 |[]=>Q
 | .th y::ks=>Exit.then (y.wpIn (FA ro) 0 P (dq P ro Q ks)) (dq P ro Q ks)
 | .tk K::ks=>Exit.then K (dq P ro Q ks)
 | .bl id::ks=>Exit.inBlock id (dq P ro Q ks)
inductive Cf where
 |C (x:Code)
 |L (ops:Array Oper) (l:List Oper)
 |X (e:Exit)
def GG(P:Program)(N:Nat)(c:Cx)(D:List Deferred)(Q:Exit->Act->World->Prop)(ks:List Kf)(F:cO)(H:List ay):Cf->Prop
 | .C x=>WP P N c D x (dq P c.ro Q ks) F H
 | .L ops l=>WL P N c D ops (dq P c.ro Q ks) l F H
 | .X e=>WQ N c D (dq P c.ro Q ks) e F H
def s1(T:Tb)(N:Nat):Cf->List Kf->cO->Option (Cf×List Kf×cO)
 | .C x,ks,F=>match x with
  | .seq x y=>some (.C x, .th y::ks,F)
  | .block id x=>some (.C x, .bl id::ks,F)
  | .region _ ops false=>some (.L ops ops.toList,ks,F)
  | .skip=>some (.X .normal,ks,F)
  | .label _ =>some (.X .normal,ks,F)
  | .ret=>some (.X .ret,ks,F)
  | .exit id=>some (.X (.exit id),ks,F)
  |_ =>none
 | .L ops l,ks,F=>match l with
  |[]=>some (.X .normal,ks,F)
  |⟨some d,op,_,_,_,none⟩::r=>match sv T F op with
   |some v=>bif Nat.blt d N then some (.L ops r,ks,(d,v)::F)else none
   |none=>none
  |_ =>none
 | .X e,ks,F=>match e,ks with
  | .normal, .th y::ks=>some (.C y,ks,F)
  | .normal, .bl _ ::ks=>some (.X .normal,ks,F)
  | .ret, .th _ ::ks=>some (.X .ret,ks,F)
  | .ret, .tk _ ::ks=>some (.X .ret,ks,F)
  | .ret, .bl _ ::ks=>some (.X .ret,ks,F)
  | .exit i, .th _ ::ks=>some (.X (.exit i),ks,F)
  | .exit i, .tk _ ::ks=>some (.X (.exit i),ks,F)
  | .exit i, .bl k::ks=>bif Nat.beq i k then some (.X .normal,ks,F)else some (.X (.exit i),ks,F)
  |_,_ =>none
def sp(T:Tb)(N:Nat):Nat->Cf->List Kf->cO->Option (Cf×List Kf×cO)
 |0,cf,ks,F=>some (cf,ks,F)
 |n+1,cf,ks,F=>match s1 T N cf ks F with
  |some (cf,ks,F)=>sp T N n cf ks F
  |none=>none
section
variable {P:Program} {T:Tb} [hT:Hl P T] {N:Nat} {c:Cx} {D:List Deferred} {Q:Exit->Act->World->Prop} {ks ks':List Kf} {F F':cO} {H:List ay} {cf Pb:Cf}
theorem Xb(h:s1 T N cf ks F=some (Pb,ks',F'))(g:GG P N c D Q ks' F' H Pb):GG P N c D Q ks F H cf:=by
 unfold s1 at h;split at h
 ·split at h
  all_goals first
   |(cases h;done)
   |skip
  ·cases h;exact tf g
  ·cases h;exact On g
  ·cases h;exactλa w hst=>wpIn_region_lit (l:=Array.toList _) (g a w hst)
  ·cases h;exact Ce g
  ·cases h;exact Ol g
  ·cases h;exact UY g
  ·cases h;exact Ra g
 ·split at h
  ·cases h;exact tg g
  ·split at h
   ·rename_i d op _ _ _ _ _ v hv
    cases hd:Nat.blt d N with
    |false=>rw[hd]at h;cases h
    |true=>rw[hd]at h;cases h;exact bw hd (L7 hv) g
   ·cases h
  ·cases h
 ·split at h
  ·cases h;exact o9 g
  ·cases h;exact Oi g
  ·cases h;exact Br g
  ·cases h;exact Br g
  ·cases h;exact FN g
  ·cases h;exact zI g
  ·cases h;exact zI g
  ·rename_i i k ks
   cases hb:Nat.beq i k with
   |true=>rw[hb]at h;cases h;obtain rfl:=ab6 hb;exact D5 g
   |false=>rw[hb]at h;cases h;exact D4 hb g
  ·cases h
theorem Jk:∀{n:Nat} {cf:Cf} {ks:List Kf} {F:cO},sp T N n cf ks F=some (Pb,ks',F')->GG P N c D Q ks' F' H Pb->GG P N c D Q ks F H cf
 |0,_,_,_,h,g=>by cases h;exact g
 |n+1,_,_,_,h,g=>by
  simp only[sp]at h;split at h
  ·rename_i e;exact Xb e (Jk h g)
  ·cases h
class QF(P:Program)(ro:Option Nat)(Q:Exit->Act->World->Prop)(ks:outParam (List Kf))(Q0:outParam (Exit->Act->World->Prop)):Prop where
 ok:Q=dq P ro Q0 ks
instance(priority:=100) abR(P ro Q ks):QF P ro (dq P ro Q ks) ks Q:=⟨rfl⟩
instance(priority:=50) abQ(P ro K Q ks Q0)[h:QF P ro Q ks Q0]:QF P ro (Exit.then K Q) (.tk K::ks) Q0:=⟨by rw[h.ok];rfl⟩
instance(priority:=10) abM(P ro Q):QF P ro Q [] Q:=⟨rfl⟩
theorem SC{x:Code}{Q0:Exit->Act->World->Prop}[q:QF P c.ro Q ks Q0](n:Nat)(h:sp T N n (.C x) ks F=some (Pb,ks',F'))(g:GG P N c D Q0 ks' F' H Pb):WP P N c D x Q F H:=by have:=Jk (H:=H) (D:=D) h g;rw[q.ok];exact this
theorem SL{ops:Array Oper}{l:List Oper}{Q0:Exit->Act->World->Prop}[q:QF P c.ro Q ks Q0](n:Nat)(h:sp T N n (.L ops l) ks F=some (Pb,ks',F'))(g:GG P N c D Q0 ks' F' H Pb):WL P N c D ops Q l F H:=by have:=Jk (H:=H) (D:=D) h g;rw[q.ok];exact this
class QX(Q:Exit->Act->World->Prop)(ro:Option Nat)(P:outParam Program)(ks:outParam (List Kf))(Q0:outParam (Exit->Act->World->Prop)):Prop where
 ok:Q=dq P ro Q0 ks
instance(priority:=100) abP(P ro Q ks):QX (dq P ro Q ks) ro P ks Q:=⟨rfl⟩
theorem SX{e:Exit}{Q0:Exit->Act->World->Prop}[q:QX Q c.ro P ks Q0](n:Nat)(h:sp T N n (.X e) ks F=some (Pb,ks',F'))(g:GG P N c D Q0 ks' F' H Pb):WQ N c D Q e F H:=by have:=Jk (P:=P) (H:=H) (D:=D) h g;rw[q.ok];exact this
end
theorem Rc{P:Program}{N:Nat}{c:Cx}{F:cO}{H:List ay}{d:Option Tmp}{ty:TypeId}{ps:String}{af:Array Edge}{g:Option (Nat×Bool)}{T:TypeId}{y:Operand}{s:ByteArray}{k:IntKind}{i:Int}{m:Nat}(hs:s=Lib.pop8tab)(hy:ev F y=some (.int k i))(hi:i=(m:Int))(hm:m<256)[hT:Zx P T]:
  VS P N c ⟨d, .index T (.const (.string s)) y,ty,ps,af,g⟩ F H (.int .u8 (Lib.pop8 i)):=
 az (by simp) λa w hf _ _ =>by subst hs;have e1:a.eval (.const (.string Lib.pop8tab))= .string Lib.pop8tab:=rfl;have:=Lib.run_index_pop8tab (P:=P) w T k i hT.ok (by omega) (by omega);simp only[execOp,e1,aA hf hy];simp[this]
theorem sj{α:Type}{a b:α}(h:some a=some b):a=b:=Option.some.inj h
theorem mo{α:Type}{L:bX α}{A B:World->Prop}{cs:Vs}{x:α}[VC B A](h:L.dS A cs x):L.dS B cs x:=bX.mono _ Sm h
theorem fl{α:Type}{L:bX α}[aS L]{J:World->Prop}{x:α}:L.dS J (L.enc x) x:=aS.iff.2 rfl
def CK:List Nat->Bool
 |[]=>true
 |k::r=> !(r.any (Nat.beq k))&&CK r
theorem Ew:∀{l:List Nat},CK l=true->l.Nodup
 |[],_ => .nil
 |k::r,h=>by simp only[CK,ab7,Bool.not_eq_true']at h;refine List.nodup_cons.2 ⟨λhm=>?_,Ew h.2⟩;have:=List.any_eq_false.1 h.1 k hm;rw[Nat.beq_refl]at this;exact this rfl
def Eu(H:List ay)(ks:List Nat):Option (List ay):=bif CK ks then pick H ks else none
theorem qc{H R:List ay}{ks:List Nat}(h:Eu H ks=some R):pick H ks=some R/\ks.Nodup:=by
 unfold Eu at h;cases hb:CK ks with
 |true=>rw[hb]at h;exact⟨h,Ew hb⟩
 |false=>rw[hb]at h;cases h
def Kt(F:cO):cO->Option cO
 |[]=>some []
 |(k,_)::r=>match lk F k with
  |some v=>match Kt F r with
   |some l=>some ((k,v)::l)
   |none=>none
  |none=>none
theorem B4{F:cO}:∀{I:cO},Kt F I=some I->VZ I F
 |[],_ =>trivial
 |(k,u)::r,h=>by
  simp only[Kt]at h;split at h
  ·rename_i v hv
   split at h
   ·rename_i l hl
    simp only[Option.some.injEq,List.cons.injEq,Prod.mk.injEq,true_and]at h;obtain⟨h1,h2⟩:=h;subst h1;subst h2;exact⟨hv,B4 hl⟩
   ·cases h
  ·cases h
def CQ(F:cO):List Nat->Option cO
 |[]=>some []
 |k::r=>match lk F k with
  |some v=>match CQ F r with
   |some l=>some ((k,v)::l)
   |none=>none
  |none=>none
theorem vC{F:cO}:∀{sl:List Nat} {K:cO},CQ F sl=some K->Eb F sl K
 |[],K,h=>by obtain rfl:=Option.some.inj h;exact .nil
 |k::r,K,h=>by
  simp only[CQ]at h;split at h
  ·rename_i v hv
   split at h
   ·rename_i l hl
    obtain rfl:=Option.some.inj h;exact .cons hv (vC hl)
   ·cases h
  ·cases h
section
variable {P:Program} {N:Nat} {c:Cx} {D:List Deferred} {Q:Exit->Act->World->Prop} {F:cO} {H:List ay} {d:Tmp} {op:Op} {ty:TypeId} {ps:String} {af:Array Edge} {g:Option (Nat×Bool)} {ops:Array Oper} {rest:List Oper} {α β:Type}
theorem W0{H':List ay}(h:RX (α:=Unit) P N c ⟨none,op,ty,ps,af,none⟩ F H (λ_ =>True) (λ_ =>undef) (λ_ =>H'))(k:WL P N c D ops Q rest F H'):WL P N c D ops Q (⟨none,op,ty,ps,af,none⟩::rest) F H:=Dt h λ_ _ =>k
theorem W1{fv:α->Value}{fH:α->List ay}(hd:Nat.blt d N=true)(h:RX P N c ⟨some d,op,ty,ps,af,none⟩ F H (λ_ =>True) fv fH)(k:∀x,WL P N c D ops Q rest ((d,fv x)::F) (fH x)):WL P N c D ops Q (⟨some d,op,ty,ps,af,none⟩::rest) F H:=wU hd h λx _ =>k x
theorem CV{args:List Operand}{ats:Array TypeId}{f:Nat}{vs:List Value}{v:Value}{pre:World->Prop}(hc:SH P f vs pre v)(hd:Nat.blt d N=true)(ha:Bl F args=some vs)[q:Kn c H pre](k:WL P N c D ops Q rest ((d,v)::F) H):
  WL P N c D ops Q (⟨some d, .call ⟨.value (.func f),args.toArray,ats⟩,ty,ps,af,none⟩::rest) F H:=bw hd (FU hc ha q.ok) k
theorem Hu{ρ:Type}{m1 m2:Option ρ}{r:ρ}{x:Operand}{y z:Code}{t:Bool}(h:cn t m1 m2=some r)(hc:ev F x=some (.bool t))(h1:t=true->m1=some r->WP P N c D y Q F H)(h0:t=false->m2=some r->WP P N c D z Q F H):WP P N c D (.cond x y z) Q F H:=
 Hf hc (λe=>h1 e (IS e h)) (λe=>h0 e (IT e h))
structure Zz(n o:Nat)(cs vs cc:Vs):Prop where
 eq:bh cs o vs=cc
 lv:vs.length=n
 le:o+n<=cs.length
 one:lI vs
theorem sto{L:bX α}{M:bX β}{o:Nat}{gg:α->β}{s:α->β->α}{cs vs:Vs}{x x':α}{v:β}{C:World->Prop}(p:aO L M o gg s)(r:L.dS C cs x)(rv:M.dS C vs v)(e:x'=s x v):∃cc,Zz M.n o cs vs cc/\L.dS C cc x':=by subst e;exact⟨_,⟨rfl,M.len rv,by rw[L.len r];exact p.le,M.one rv⟩,p.set r rv⟩
theorem RXs{o n m b t T:Nat}{y z:Operand}{val:Value}{cs cs' vs:Vs}{H':List ay}{d:Option Tmp}(q:Zz n o cs vs cs')(hx:ev F y=some (cy b o))(hz:ev F z=some val)(hv:val.cells.toList=vs)[oA H b T cs][Li P t m](hn:n=m)[BS H b cs' H']:
  RX (α:=Unit) P N c ⟨d, .store t y z,ty,ps,af,g⟩ F H (λ_ =>True) (λ_ =>undef) (λ_ =>H'):=by subst hn;exact qw hx hz hv q.lv q.le q.one q.eq
theorem rn:rI P F H [] []:= .nil
theorem rt{t:Nat}{v:Value}{rs:List ResultVar}{vs:Vs}(hv:lk F t=some v)(h:rI P F H rs vs):rI P F H (.tmp t::rs) (v::vs):= .tmp hv h
theorem ra{t ty b T n:Nat}{cs:Vs}{rs:List ResultVar}{vs:Vs}(hv:lk F t=some (cy b 0))[hr:oA H b T cs][ht:qE P ty n](hl:cs.length=n)(h:rI P F H rs vs):rI P F H (.cell t ty::rs) (.agg cs.toArray::vs):= .agg hv hr ht hl h
theorem ro{t ty b T:Nat}{v:Value}{cs:Vs}{rs:List ResultVar}{vs:Vs}(hv:lk F t=some (cy b 0))[hr:oA H b T cs][ht:nD P ty](hl:cs=[v])(h:rI P F H rs vs):rI P F H (.cell t ty::rs) (v::vs):= .one hv hr ht hl h
theorem RV{fn:Func}{rs:List ResultVar}{vs:Vs}{v:Value}(hf:fn.results.toList=rs)(hr:rI P F H rs vs)(hv:xS vs=v):WQ N c [] (Post P c fn (λ_ :Unit=>True) (λ_ =>v) (λ_ =>[])) .ret F H:=vV () hf hr trivial hv (ks:=[]) rfl .nil
theorem RBu{fn:Func}{rs:List ResultVar}{vs:Vs}{R:List ay}{p:Value×List Nat×(World->Prop)->Prop}(ks:List Nat)(hk:Eu H ks=some R)(hf:fn.results.toList=rs)(hr:rI P F H rs vs)(hp:p (xS vs,aV R,Hs R)):
  WQ N c [] (Post P c fn p (λx=>x.1) (λx=>[.ext x.2.1 x.2.2])) .ret F H:=λa w hst=>by
 show LeavesInM (FA none) 0 P fn a.tmps _ a.defers .returning w;rw[hst.df];obtain⟨h1,h2⟩:=qc hk;exact⟨_,A9 hf hst.fr hst.hp hr,(xS vs,aV R,Hs R),hp,rfl,hst.si,N3 (H':=[]) (by rw[List.append_nil];exact hst.hp.pick h1 h2)⟩
theorem LO{x:Code}(sl ks:List Nat)(I:Nat×β->cO)(J:Nat×β->List ay)(p:Nat×β->Prop)(i0:Nat×β)(KR:p i0){K:cO}(hK:CQ F sl=some K)(hs:Kt F (I i0)=some (I i0))(hk:Eu H ks=some (J i0))
  (hb:∀m y,p (m,y)->WP P N c D x (Kl N c D Q sl K I J p (λz=>z.1) (m,y)) (I (m,y)++K) (J (m,y))):WP P N c D (.loop x) Q F H:=
 Oj sl (vC hK) I J p (λz=>z.1) i0 KR (B4 hs) (qc hk).1 (qc hk).2 λi hi=>hb i.1 i.2 hi
theorem LN{K:cO}{sl:List Nat}{I:Nat×β->cO}{J:Nat×β->List ay}{p:Nat×β->Prop}{m:Nat}{y0:β}(ks:List Nat)(y:β)(hp:p (m,y))(hs:Kt F (I (m,y))=some (I (m,y)))(hl:CQ F sl=some K)(hk:Eu H ks=some (J (m,y))):
  WQ N c D (Kl N c D Q sl K I J p (λz=>z.1) (m+1,y0)) .normal F H:=Og (m,y) (Nat.lt_succ_self _) hp (B4 hs) (vC hl) (qc hk).1 (qc hk).2
theorem CU{x y:Code}(sl:List Nat){K:cO}(hK:CQ F sl=some K)(I:α->cO)(J:α->List ay)(p:α->Prop)(h1:WP P N c D x (Rv N c D Q sl K I J p) F H)(h2:∀i,p i->WP P N c D y Q (I i++K) (J i)):WP P N c D (.seq x y) Q F H:=Rb sl (vC hK) I J p h1 h2
theorem CE{K:cO}{sl:List Nat}{I:α->cO}{J:α->List ay}{p:α->Prop}(ks:List Nat)(i:α)(hp:p i)(hs:Kt F (I i)=some (I i))(hl:CQ F sl=some K)(hk:Eu H ks=some (J i)):WQ N c D (Rv N c D Q sl K I J p) .normal F H:=Q7 i hp (B4 hs) (vC hl) (qc hk).1 (qc hk).2
end
def sn(T:Tb)(N:Nat)(ops:Array Oper):Nat->List Fl->cO->Option (List Fl×cO)
 |0,l,F=>some (l,F)
 |n+1,l,F=>match l with
  |(i,ks)::r=>match ops[i]? with
   |some ⟨some d,op,_,_,_,none⟩=>match sv T (ot F ks) op with
    |some v=>bif Nat.blt d N then sn T N ops n r ((d,v)::F)else none
    |none=>none
   |_ =>none
  |[]=>none
def sr(T:Tb)(ops:Array Oper)(F:cO):Nat->List Fl->Option (List Value×List Fl)
 |0,l=>some ([],l)
 |n+1,l=>match l with
  |(i,ks)::r=>match ops[i]? with
   |some ⟨some _,op,_,_,_,none⟩=>match sv T (ot F ks) op with
    |some v=>match sr T ops F n r with
     |some (vs,l')=>some (v::vs,l')
     |none=>none
    |none=>none
   |_ =>none
  |[]=>none
def sk(ops:Array Oper)(F:cO):Nat->List Fl->Option (List Value)
 |0,_ =>some []
 |n+1,l=>match l with
  |(i,_)::r=>match ops[i]? with
   |some ⟨some d,_,_,_,_,none⟩=>match lk F d with
    |some v=>match sk ops F n r with
     |some vs=>some (v::vs)
     |none=>none
    |none=>none
   |_ =>none
  |[]=>none
section
variable {P:Program} {T:Tb} [hT:Hl P T] {N:Nat} {c:Cx} {D:List Deferred} {ops:Array Oper} {Q:Exit->Act->World->Prop} {F F':cO} {H:List ay} {l l':List Fl}
theorem NS{K:cO->Prop}(n:Nat)(h:sn T N ops n l F=some (l',F'))(k:n9 P N c ops H l' F' K):n9 P N c ops H l F K:=by
 induction n generalizing l F with
 |zero=>cases h;exact k
 |succ n ih=>
  simp only[sn]at h;split at h
  ·rename_i i ks r
   split at h
   ·rename_i d op _ _ _ ho
    split at h
    ·rename_i v hv
     cases hd:Nat.blt d N with
     |false=>rw[hd]at h;cases h
     |true=>rw[hd]at h;exact yy ho hd (OB rfl (L7 hv)) (ih h)
    ·cases h
   ·cases h
  ·cases h
theorem RSn{vs:List Value}(n:Nat)(h:sr T ops F n l=some (vs,l'))(h2:sk ops F n l=some vs)(k:zK P N c ops F H l'):zK P N c ops F H l:=by
 induction n generalizing l vs with
 |zero=>simp only[sr,Option.some.injEq,Prod.mk.injEq]at h;rw[h.2];exact k
 |succ n ih=>
  simp only[sr]at h;simp only[sk]at h2;split at h
  ·rename_i i ks r
   split at h
   ·rename_i d op _ _ _ ho
    dsimp only at h2;rw[ho]at h2;dsimp only at h2;split at h
    ·rename_i v hv
     split at h
     ·rename_i us l2 h3
      simp only[Option.some.injEq,Prod.mk.injEq]at h;obtain⟨rfl,rfl⟩:=h;split at h2
      ·rename_i u hu
       split at h2
       ·rename_i ws h4
        simp only[Option.some.injEq,List.cons.injEq]at h2;obtain⟨rfl,rfl⟩:=h2;exact EO ho hu (OB rfl (L7 hv)) (ih h3 h4)
       ·cases h2
      ·cases h2
     ·cases h
    ·cases h
   ·cases h
  ·cases h
theorem RE{vs:List Value}(n:Nat)(h:sr T ops F n l=some (vs,[]))(h2:sk ops F n l=some vs):zK P N c ops F H l:=RSn n h h2 trivial
end
section
variable {P:Program} {N:Nat} {c:Cx} {D:List Deferred} {ops:Array Oper} {Q:Exit->Act->World->Prop} {F:cO} {H:List ay} {i:Nat} {ks:List Nat} {q:List Fl} {d:Nat} {v v':Value} {op:Op} {ty:TypeId} {ps:String} {af:Array Edge} {g:Option (Nat×Bool)} {α:Type}
theorem NV{K:cO->Prop}(ho:ops[i]? =some ⟨some d,op,ty,ps,af,none⟩)(hN:Nat.blt d N=true)(hv:VS P N c ⟨some d,op,ty,ps,af,none⟩ (ot F ks) H v)(hr:n9 P N c ops H q ((d,v)::F) K):n9 P N c ops H ((i,ks)::q) F K:=yy ho hN (OB rfl hv) hr
theorem NC{K:cO->Prop}{args:List Operand}{ats:Array TypeId}{f:Nat}{vs:List Value}{pre:World->Prop}(ho:ops[i]? =some ⟨some d, .call ⟨.value (.func f),args.toArray,ats⟩,ty,ps,af,none⟩)(hN:Nat.blt d N=true)(hc:SH P f vs pre v)(ha:Bl (ot F ks) args=some vs)[k:Kn c H pre](hr:n9 P N c ops H q ((d,v)::F) K):n9 P N c ops H ((i,ks)::q) F K:=yy ho hN (OB rfl (FU hc ha k.ok)) hr
theorem RO(ho:ops[i]? =some ⟨some d,op,ty,ps,af,none⟩)(hl:lk F d=some v)(hv:VS P N c ⟨some d,op,ty,ps,af,none⟩ (ot F ks) H v')(e:v'=v)(hr:zK P N c ops F H q):zK P N c ops F H ((i,ks)::q):=EO ho hl (OB rfl (IY hv e)) hr
theorem T0{new:List Fl}{t:Tr}(h:n9 P N c ops H new F λF'=>Ch P N c D ops Q t F' H):Ch P N c D ops Q (.Kv [] new t) F H:=⟨trivial,h⟩
theorem F0{new:List Fl}(h:n9 P N c ops H new F λF'=>WQ N c D Q .normal F' H):Ch P N c D ops Q (.fin [] new) F H:=⟨trivial,h⟩
theorem F00(h:WQ N c D Q .normal F H):Ch P N c D ops Q (.fin [] []) F H:=⟨trivial,h⟩
theorem X1{s:Nat}{here:Tr}{p:α->Prop}{fv:α->Value}{fH:α->List ay}(ho:ops[s]? =some ⟨some d,op,ty,ps,af,none⟩)(hN:Nat.blt d N=true)(hv:RX P N c ⟨some d,op,ty,ps,af,none⟩ (ot F ks) H p fv fH)(h:∀x,p x->Ch P N c D ops Q here ((d,fv x)::F) (fH x)):Ch P N c D ops Q (.alt s ks here .no) F H:=OE ho hN (ZB rfl hv) h trivial
theorem X0{s:Nat}{here:Tr}{fH:List ay}(ho:ops[s]? =some ⟨none,op,ty,ps,af,none⟩)(hv:RX (α:=Unit) P N c ⟨none,op,ty,ps,af,none⟩ (ot F ks) H (λ_ =>True) (λ_ =>undef) (λ_ =>fH))(h:Ch P N c D ops Q here F fH):Ch P N c D ops Q (.alt s ks here .no) F H:=OF ho (ZB rfl hv) (λ_ _ =>h) trivial
theorem GB{rest:List Oper}{j k:Nat}{want b:Bool}(hd:(ops[j]?).bind (·.dst)=some k)(hl:lk F k=some (.bool b))(hN:Nat.blt d N=true)(hv:(b==want)=true->VS P N c ⟨some d,op,ty,ps,af,some (j,want)⟩ F H v)
  (h:WL P N c D ops Q rest ((d,bif (b==want)then v else undef)::F) H):WL P N c D ops Q (⟨some d,op,ty,ps,af,some (j,want)⟩::rest) F H:=abL (OU hd hl) hN hv h
end
theorem fo{α:Type}{P:Program}{f:Nat}{fn:Func}{code:Code}{N:Nat}{args:Vs}{K:World->Prop}[S:yp K]{p:α->Prop}{fv:α->Value}{fH:α->List ay}(hf:P.funcs[f]? =some fn)(hname:(fn.name== "runtime.NumGoroutine")=false)(hb:fn.body=some code)(hN:fn.ntmps=N)(ha:Nat.ble args.length N=true)
  (h:∀c:Cx,(∀R,V6 c R K)->c.ro=none->c.bs=[]->K c.w0->WP P N c [] code (Post P c fn p fv fH) (sq 0 args) []):Fn P f args K [] p fv fH:=
 qh hf hname hb hN ha λc ku hpre hro=>h c (Qj ku hpre) hro ku hpre
end Go.Bw
namespace Go.Bw
open Go Go.RowKit
abbrev sC(T:Nat)(e:Int):List PanicEntry:=[{v:= .iface T (.int .i64 e),recovered:=false}]
def tc{α:Type}(b:Bool)(f:α)(k:Option α):Option α:=bif b then k else some f
def tr{α β:Type}(x:Option (Except Int α))(f:Int->β)(k:α->Option β):Option β:=match x with
 |some (.ok a)=>k a
 |some (.error e)=>some (f e)
 |none=>none
end Go.Bw
namespace Go.Bw
open Go Go.RowKit
section
variable {α:Type} {P:Program} {N:Nat} {c:Cx} {F:cO} {H:List ay} {D:List Deferred} {fn:Func} {p:α->Prop} {fv:α->Value} {fH:α->List ay} {ops:Array Oper} {d:Option Tmp} {ty:TypeId} {ps:String} {af:Array Edge}
theorem Ow{A:World->Prop}{x:Operand}{t b off:Nat}{v:Value}(hA:∀w,A w->w.cell? ⟨b,off,none⟩=some v)(hx:ev F x=some (cy b off))[nD P t][hk:Kn c H A]:VS P N c ⟨d, .load t x,ty,ps,af,none⟩ F H v:=
 az (by simp) λa w hf hs hp=>by have:=iA (P:=P) (t:=t) (a:=⟨b,off,none⟩) (hA w (hk.ok w hs hp));simp[execOp,aA hf hx,Instr.loadAt,Instr.sureAddr,this]
theorem IZ{A:World->Prop}{q:IntKind}{b:Nat}{x y:Operand}{t kt e:TypeId}{k:Int}(z v:Value)(bb:Bool)(hA:∀w,A w->∃l,SF b q (λv:Value=>v) l w/\kP l k z=v/\mY l k=bb)[ht:BQ P t kt e q][hz:I4 P e z](hx:ev F x=some (.map (some b)))(hy:ev F y=some (.int q k))[hk:Kn c H A]:
  VS P N c ⟨d, .lookup t x y true,ty,ps,af,none⟩ F H (.tuple #[v, .bool bb]):=by
 haveI hz':I4 P e ((λv:Value=>v) z):=hz;refine az (by simp) λa w hf hs hp=>?_;obtain⟨l,h0,h1,h2⟩:=hA w (hk.ok w hs hp);subst h1 h2;simp[execOp,aA hf hx,aA hf hy,mh w ht hz' h0,Result.andThen]
end
end Go.Bw
namespace Go.Rw
open Go Go.Bw Go.RowKit
variable {G:Sg} {P:Program} {tt:TT P G} {J:World->Prop} {ρ:aP} {a:Act} {w:World} {d:Option Tmp} {ty:TypeId} {ps:String} {af:Array Edge}
 {N:Nat} {c:Cx} {H:List ay} {D:List Deferred} {C:CC G} {S:AS G}
theorem Mg{T:Nat}{g0:IntKind×List (Int×Nat)}(hgt:G.gt=some g0)(h1:oy P T=true):SK P ⟨d, .load T (.global 0),ty,ps,af,none⟩ C S {S with O:=(S.nx, .gm)::S.O,nx:=S.nx+1} (.mp S.nx):=by
 intro c N ρ J HK X a w next Q h hk
 obtain⟨HS,r1,hs0,hm⟩:=h.st;obtain⟨mb,hmb⟩:=h.kn.gl g0 hgt;haveI:nD P T:=⟨h1⟩;haveI:Kn c (HS++(HK++X)) J:=⟨λw' _ hp=>h.kn.to w' λr hr=>⟨hp.holds r (by simp[hr]),λb hb=>(hp.own r (by simp[hr]) b hb).2⟩⟩;refine(Ow (P:=P) (N:=N) (c:=c) (F:=kQ a) (H:=HS++(HK++X)) (A:=J) (v:= .map (some mb)) (b:=0) (off:=0) (λw hw=>(hmb w hw).1) rfl) a.defers a w next Q hs0 λw' hs=>?_
 have xW:aX c.bs c.w0.heap.size (.row (.slice none 0 0) 0 1 0 []::(HS++(HK++X))) w':=wB (hs0.hp.ext hs);refine hk (ρ.set S.nx (.map (some mb))) J [] w' _ (aP.jg _ _ _) (λ_ h=>h) ⟨_,aP.gh _ _ _,rfl,rfl,rfl⟩ (h.new r1 (h.si.s.ext hs) xW ⟨⟨mb,g0,aP.gh _ _ _,hgt,hmb⟩,rfl⟩)
def Bo(P:Program)(T:Nat)(q:IntKind):Bool:=match P.underlying T with
 |some (.map k e)=>(match P.underlying k with
  |some (.int q')=>Nat.beq (Ty.bz.ik q) (Ty.bz.ik q')
  |_ =>false)&&(match(P.info? e).bind (·.zero)with
  |some .nilFunc=>true
  |_ =>false)
 |_ =>false
def E0:List (Int×Nat)->Int->Option Nat
 |[],_ =>none
 |(a,f)::r,k=>bif k==a then some f else E0 r k
theorem Pv{k:Int}:∀{l:List (Int×Nat)},(∀f,E0 l k=some f->kP (l.map Bk) k .nilFunc= .func (.func f) #[] #[]/\mY (l.map Bk) k=true)/\(E0 l k=none->kP (l.map Bk) k .nilFunc= .nilFunc/\mY (l.map Bk) k=false):=by
 intro l
 induction l with
 |nil=>exact⟨λf h=>by(cases h),λ_ =>⟨rfl,rfl⟩⟩
 |cons p r ih=>
  obtain⟨a,f0⟩:=p;simp only[E0,List.map_cons];cases hb:(k==a)with
  |true=>
   have e:dH (Bk (a,f0)::r.map Bk) k=some (0, .func (.func f0) #[] #[]):=by show(bif k==a then _ else _)=_;rw[hb];rfl
   refine⟨λf h=>?_,λh=>by cases h⟩;cases h;simp only[kP,mY,e];exact⟨rfl,rfl⟩
  |false=>
   have e:dH (Bk (a,f0)::r.map Bk) k=(dH (r.map Bk) k).map λq=>(q.1+1,q.2):=by show(bif k==a then _ else _)=_;rw[hb];rfl
   have e1:kP (Bk (a,f0)::r.map Bk) k .nilFunc=kP (r.map Bk) k .nilFunc:=by unfold kP;rw[e];cases dH (r.map Bk) k<;>rfl
   have e2:mY (Bk (a,f0)::r.map Bk) k=mY (r.map Bk) k:=by unfold mY;rw[e];cases dH (r.map Bk) k<;>rfl
   rw[e1,e2];exact ih
def SY:Option Nat->AV G
 |some f=> .gO (.cons (.fn (.func f) .nil .nil) (.cons (.kb true) .nil))
 |none=> .gO (.cons .lE (.cons (.kb false) .nil))
theorem Kw{T r:Nat}{x y:Operand}{q:IntKind}{k:Int}{b:Bool}{g0:IntKind×List (Int×Nat)}(hgt:G.gt=some g0)(hx:dX C S [] x=some (.mp r))(ho:MT C S r=some .gm)(hy:jq (dX C S [] y)=some (q,k,b))(hq:Nat.beq (Ty.bz.ik q) (Ty.bz.ik g0.1)=true)(hc:Bo P T g0.1=true):
  SK P ⟨d, .lookup T x y true,ty,ps,af,none⟩ C S S (SY (E0 g0.2 k)):=by
 intro c N ρ J HK X a w next Q h hk
 obtain⟨HS,r1,hs0,hm⟩:=h.st;have hE:=bQ h (ch:=[]) (by simp);obtain⟨xn,hres,⟨mb,g1,m1,m2,m3⟩,_⟩:=hm.ob r _ ho;rw[hgt]at m2;cases m2;obtain rfl:=CS hq;have hxv:a.eval x= .map (some mb):=by obtain⟨u,u1,u2,_⟩:=hE.ok _ _ hx;rw[m1]at u1;cases u1;exact(List.cons.inj u2).1
 have qz:=hE.ev _ _ hx;rw[hxv]at qz;have fl:=gK hE hy;haveI:Kn c (HS++(HK++X)) J:=⟨λw' _ hp=>h.kn.to w' λr hr=>⟨hp.holds r (by simp[hr]),λb hb=>(hp.own r (by simp[hr]) b hb).2⟩⟩;unfold Bo at hc;split at hc
 ·rename_i kt e hu
  simp only[ab7]at hc;obtain⟨Nq,O5⟩:=hc;split at Nq
  ·rename_i q' hk'
   obtain rfl:=CS Nq;split at O5
   ·rename_i hz
    haveI:BQ P T kt e g0.1:=⟨hu,hk'⟩;haveI:I4 P e .nilFunc:=⟨hz⟩;obtain⟨t1,t2⟩:=Pv (k:=k) (l:=g0.2);have hv:rv J ρ (SY (G:=G) (E0 g0.2 k)) (.tuple #[kP (g0.2.map Bk) k .nilFunc, .bool (mY (g0.2.map Bk) k)]):=by
     cases hf:E0 g0.2 k with
     |some f=>obtain⟨e1,e2⟩:=t1 f hf;rw[e1,e2];exact⟨[.func (.func f) #[] #[], .bool true],rfl,_,_,rfl,⟨[],[],rfl,rfl,rfl⟩,_,_,rfl,rfl,rfl⟩
     |none=>obtain⟨e1,e2⟩:=t2 hf;rw[e1,e2];exact⟨[.nilFunc, .bool false],rfl,_,_,rfl,rfl,_,_,rfl,rfl,rfl⟩
    refine(IZ (P:=P) (N:=N) (c:=c) (F:=kQ a) (H:=HS++(HK++X)) (A:=J) (q:=g0.1) (b:=mb) .nilFunc _ _ (λw hw=>by
     obtain⟨l,l1,l2⟩:=(m3 w hw).2;exact⟨l,l1,(l2 k).1,(l2 k).2⟩) qz fl) a.defers a w next Q hs0 λw' hs=>?_
    exact hk ρ J [] w' _ (aP.cB _ _) (λ_ h=>h) hv (by
     obtain⟨Vz,p1,p3⟩:=h.hp;exact⟨h.tm,h.df,h.si.ext hs,h.fs,h.fc,h.kc,⟨Vz,p1,p3.ext hs⟩,h.kn,h.fr⟩)
   ·cases O5
  ·cases Nq
 ·cases hc
def IV(P:Program)(T:Nat):Bool:=match P.underlying T with
 |some .string=>true
 |_ =>false
def MB(P:Program)(E:Operand->Option (AV G))(T:Nat)(x y:Operand):PV G:=match x with
 | .const (.string s)=>match jq (E y)with
  |some (_,i,_)=>bif decide (s=Lib.pop8tab)&&IV P T then some ([cG i 256], .int .u8 (Lib.pop8 i))else none
  |none=>none
 |_ =>none
theorem MA{ob:Nat->Option (Ob G)}{E:Operand->Option (AV G)}{g:Option (Nat×Bool)}(hm:I7 (G:=G) J ρ N c D H ob a w)(hE:w8 J ρ a E){T:Nat}{x y:Operand}{v:AV G}{gs:List Bool}(h:MB P E T x y=some (gs,v))(hg:∀b∈gs,b=true):yq P c J ρ ⟨d, .index T x y,ty,ps,af,g⟩ a w v:=by
 unfold MB at h;split at h
 ·rename_i s
  split at h
  ·rename_i k i q hl
   cases hb:(decide (s=Lib.pop8tab)&&IV P T)with
   |false=>rw[hb]at h;cases h
   |true=>
    rw[hb]at h;cases h;simp only[ab7,decide_eq_true_eq]at hb;obtain⟨h1,h2⟩:=bB (hg (cG i 256) (by simp));have fl:=gK hE hl;have ht:P.underlying T=some .string:=by
     have:=hb.2;unfold IV at this;split at this
     ·assumption
     ·cases this
    haveI:Zx P T:=⟨ht⟩;exact⟨_,rfl,(Rc hb.1 fl h1 h2).vk hm.st⟩
  ·cases h
 ·cases h
end Go.Rw
namespace Go.Bw
open Go
theorem WK{x:Int}(h1: -9223372036854775808<=x)(h2:x<=9223372036854775807):wr .i64 x=x:=IntWalk.i64_in x ⟨h1,h2⟩
end Go.Bw
namespace Go.Bw
open Go Go.RowKit
section
variable {α:Type} {P:Program} {N:Nat} {c:Cx} {F:cO} {H:List ay} {d:Option Tmp} {ty:TypeId} {ps:String} {af:Array Edge} {g:Option (Nat×Bool)}
theorem Mn(L:bX α)[aS L](z0:α){z:Value}(he:L.enc z0=[z])(m:Nat):cS L (List.replicate m z0)=List.replicate m z:=Aj L z0 he m
theorem Vm{x y:Operand}{t e m:Nat}{k k':IntKind}{z:Value}{L:bX α}[aS L](z0:α)[ht:sD P t e 1][hz:gq P e [z]](he:L.enc z0=[z])(hx:ev F x=some (.int k (m:Int)))(hy:ev F y=some (.int k' (m:Int)))(bytes:Nat)(hb:(P.info? e).map (·.bytes)=some bytes)(hm:m*bytes<=140737488355328)(hm2:m<=140737488355328):
  RX P N c ⟨d, .makeSlice t x y,ty,ps,af,g⟩ F H (λ_ =>True) (λb=> .slice (some ⟨b,0,none⟩) m m) (λb=>og (.slice (some ⟨b,0,none⟩) m m) e 1 L (List.replicate m z0)::H):=λD a w next Q hst hk=>by
 obtain⟨i,h1,h2,h3⟩:=sD.get ht.ok;obtain⟨i',zz,h4,h5,h6⟩:=gq.get hz.ok;rw[h2]at h4;cases h4;have hby:i.bytes=bytes:=by simpa[h2]using hb
 have hzz:zz.cells= #[z]:=by apply Array.ext';rw[h6]
 refine cE (by simp) (v:= .slice (some ⟨w.heap.size,0,none⟩) m m) (w':=w.alloc (.cells (List.replicate m z).toArray e)) ?_ (hk w.heap.size _ trivial (hst.si.ext (aG.alloc _ _)) ?_)
 ·have w1:IntKind.i64.wrap (m:Int)=m:=WK (by omega) (by omega)
  have hcells:(Array.range (m*1)).map (λq=>(#[z]:Array Value)[q%(#[z]:Array Value).size]!)=(List.replicate m z).toArray:=by
   apply Array.ext
   ·simp
   ·intro j h1 h2;simp[Nat.mod_one]
  have c1:¬((m:Int)<0):=by omega
  have c2:¬(((bytes:Int)*m)>2^48):=by
   have:(bytes:Int)*m=((m*bytes:Nat):Int):=by push_cast;rw[Int.mul_comm]
   rw[this];omega
  have c3:¬(m*bytes>roomBytes):=by
   have:roomBytes=140737488355328:=by rfl
   omega
  have a1:∀(k:IntKind) (w:World),(asInt (.int k (m:Int))).run P w= .ok (m:Int) w:=λk w=>by simp[asInt,asIntOf,Sem.run]
  simp only[execOp,Instr.makeSlice,Sem.run_bind,run_underlying h1,Result.andThen_ok,aA hst.fr hx,aA hst.fr hy,a1,Sem.run_pure,typeInfo,sizeOf,w1];have c4:¬(281474976710656<(bytes:Int)*m):=by simpa using c2
  have Qw:Array.map (λx=>([z]:List Value)[x%1]?.getD default) (Array.range m)=Array.replicate m z:=by
   apply Array.ext
   ·simp
   ·intro j h1 h2;simp[Nat.mod_one]
  by_cases hm0:m=0
  ·subst hm0
   simp[h2,h3,hby,w1,askRoom,c3,newRow,newObj,Sem.run];congr 2;apply Array.ext
   ·simp
   ·intro j h1 h2;simp at h2
  ·simp[h2,h3,hby,w1,askRoom,c3,hm0,zeroValue,typeInfo,h5,hzz,newRow,newObj,Sem.run]
   rw[ab5 (by rintro((h|h)|h);exact c1 h;exact c4 h;exact c1 h),Qw]
 ·have:=hst.hp.box e (List.replicate m z) hst.si.size
  refine this.yY (k:=0) (r:= .cells w.heap.size e (List.replicate m z)) rfl (λw' hw=>?_) (λb hb=>by simpa[ay.bK,Value.ownBlock]using hb);have hb:w'.heap[w.heap.size]? =some (.cells (List.replicate m z).toArray e (0,0)):=hw;have e1:=Mn L z0 he m;refine⟨by rw[e1];simp, .inr ⟨w.heap.size,0,m,_,by simp,hb,by simp,by unfold maxLen;omega,by simp,?_⟩⟩;rw[e1];simp
theorem H9(L:bX α)[aS L](hn:L.n=1)(xs:List α)(m:Nat):cS L (xs.take m)=(cS L xs).take m:=by
 by_cases h:m<=xs.length
 ·have:=Er L xs (m:=m) hn h
  rw[Nat.mul_one]at this;exact this.symm
 ·rw[List.take_of_length_le (by omega),List.take_of_length_le (by rw[jh,hn];omega)]
theorem Ia(L:bX α)[aS L](hn:L.n=1)(xs:List α)(m:Nat):cS L (xs.drop m)=(cS L xs).drop m:=by
 have e:cS L xs=cS L (xs.take m)++cS L (xs.drop m):=by rw[← p9,List.take_append_drop]
 by_cases h:m<=xs.length
 ·have hl:(cS L (xs.take m)).length=m:=by rw[jh,hn,List.length_take];omega
  have e2:=congrArg (List.drop m) e;rw[List.drop_left' hl]at e2;exact e2.symm
 ·rw[List.drop_of_length_le (by omega),List.drop_of_length_le (by rw[jh,hn];omega)];rfl
theorem ON{x y:Operand}{t t' e:TypeId}{v u:Value}{L:bX α}[aS L]{xs ys:List α}{A:World->Prop}{f:ay->List ay}(hf:Fz A u L ys)(hn:L.n=1)(ht:Bm P t e 1=true)(hv:∃b o cap,v= .slice (some ⟨b,o,none⟩) xs.length cap)(hx:ev F x=some v)(hy:ev F y=some u)[hr:qZ H v e 1 xs.length (cS L xs) f][hk:Kn c H A]:
  RX (α:=Unit) P N c ⟨d, .call ⟨.builtin .copy, #[x,y], #[t,t']⟩,ty,ps,af,g⟩ F H (λ_ =>True) (λ_ => .int .i64 (min ys.length xs.length:Nat)) (λ_ =>f (og v e 1 L (ys.take xs.length++xs.drop ys.length))):=λD a w next Q hst hk2=>by
 obtain⟨inf,e1,e2,e3⟩:=sD.get ht;obtain⟨k,k1,k2⟩:=hr.ok;obtain⟨b,o,cap,rfl⟩:=hv;have hm:ay.row (.slice (some ⟨b,o,none⟩) xs.length cap) e 1 xs.length (cS L xs)∈H:=List.mem_of_getElem? k1;obtain⟨r1,r2⟩:=hst.hp.holds _ hm;rcases r2 with⟨h,_⟩|⟨b',o',cap',cur,h,hb,hle,Hz,hsz,Yg⟩
 ·cases h
 cases h;have hro:=hf.ro w (hk.ok w hst.si hst.hp);rw[hn]at hro;have hX:(cS L xs).length=xs.length:=by rw[jh,hn,Nat.mul_one]
 have hY:(cS L ys).length=ys.length:=by rw[jh,hn,Nat.mul_one]
 let cs:=(cS L ys).take xs.length;have qA:cs.length=min ys.length xs.length:=by simp only[cs,List.length_take,hY];omega
 have h1:∀v∈cs,v.oneCell'=true:=λv hv=>Mq L ys v (List.take_subset _ _ hv);have hcs:o+cap<=cur.size:=by omega
 let Z:=(cur.toList.take o++cs++cur.toList.drop (o+cs.length)).toArray;have hrun:(Builtin.copy_ #[t,t'] ty #[.slice (some ⟨b,o,none⟩) xs.length cap,u]).run P w= .ok (goInt cs.length) (w.setRow b Z):=by
  rcases hro.2 with⟨⟨a0,cp,rfl⟩,h0⟩|⟨gb,off,cp,rfl,_,_,hrd⟩
  ·have hy0:ys=[]:=List.length_eq_zero_iff.1 h0
   have hc0:cs=[]:=List.length_eq_zero_iff.1 (by rw[qA,h0];simp);cases a0 with
   |some a0=>exact run_copy_row (P:=P) w t t' ty e b o xs.length cap a0 0 cp cur e cs e1 (by simp[e2,e3]) hb (by rw[qA,h0]) (λj v hj=>by rw[hc0]at hj;cases hj) (by rw[hc0];simp;omega) h1
   |none=>have Ft:=run_storeCells_at P b o e cs 0 cur w hb (by rw[hc0];simp;omega) h1;have hi:inf.size=1:=e3;simp only[Z];rw[hc0]at Ft ⊢;simp[Builtin.copy_,run_underlying e1,Builtin.lenOf,Builtin.firstCells,sizeOf,typeInfo,e2,hi]at Ft ⊢;simp[Ft]
  ·exact run_copy_row (P:=P) w t t' ty e b o xs.length cap ⟨gb,off,none⟩ ys.length cp cur e cs e1 (by simp[e2,e3]) hb (by rw[qA]) (λj v hj=>by
    simp only[cs,List.getElem?_take]at hj;split at hj
    ·rw[Addr.add_lit];exact hrd j v hj
    ·cases hj) (by rw[qA];omega) h1
 have fF:aG [b] w (w.setRow b Z):=⟨rfl,rfl,rfl,by simp,λk _ hk=>setRow_other w b k _ (by simpa using hk)⟩;have hh:=setRow_heap w b cur Z e (0,0) hb;refine cE (by simp) (v:= .int .i64 (min ys.length xs.length:Nat)) (w':=w.setRow b Z) ?_ (hk2 () _ trivial (hst.si.store hst.hp hm (by simp[ay.bK,Value.ownBlock]) fF) ?_)
 ·rw[qA]at hrun
  simp[execOp,resolve,invoke,builtin,aA hst.fr hx,aA hst.fr hy,hrun];rfl
 ·rw[k2]
  have e4:cS L (ys.take xs.length++xs.drop ys.length)=cs++(cS L xs).drop ys.length:=by rw[p9,H9 L hn,Ia L hn]
  have e5:(ys.take xs.length++xs.drop ys.length).length=xs.length:=by simp only[List.length_append,List.length_take,List.length_drop];omega
  refine hst.hp.set k1 fF.size (λj hj hne=>fF.block j hj (by simpa[ay.bK,Value.ownBlock]using hne)) ?_ hst.si.size (λb' hb'=>?_)
  ·show iv _ e 1 _ _ _
   rw[e4,e5];refine⟨by simp only[List.length_append,List.length_drop,qA,hX];omega, .inr ⟨b,o,cap,Z,rfl,hh,hle,Hz,?_,?_⟩⟩
   ·simp only[Z,List.size_toArray,List.length_append,List.length_take,List.length_drop,Array.length_toList,qA];omega
   ·have e7:=qX (cs:=cur.toList) (vs:=cs) (o:=o) (off:=0) (k:=xs.length*1) (by rw[qA];omega) (by have h8:cur.toList.length=cur.size:=Array.length_toList;omega)
    rw[Nat.add_zero,Yg]at e7;refine e7.trans ?_;simp only[bh,List.take_zero,List.nil_append,Nat.zero_add,qA];congr 1;by_cases hq:ys.length<=xs.length
    ·rw[Nat.min_eq_left hq]
    ·rw[Nat.min_eq_right (by omega),List.drop_of_length_le (by omega),List.drop_of_length_le (by omega)]
  ·have e6:b'=b:=by simpa[ay.bK,Value.ownBlock]using hb'
   subst e6;exact⟨.inl (by simp[ay.bK,Value.ownBlock]),Nat.lt_of_lt_of_le (acf.1 hb).1 fF.size⟩
end
end Go.Bw
namespace Go.Rw
open Go Go.Bw Go.RowKit
variable {G:Sg} {P:Program} {tt:TT P G} {zt:ZT P G} {J:World->Prop} {ρ:aP} {a:Act} {w:World} {d:Option Tmp} {ty:TypeId} {ps:String} {af:Array Edge} {g:Option (Nat×Bool)}
 {N:Nat} {c:Cx} {H HK X:List ay} {C:CC G} {S:AS G} {D:List Deferred} {E:Operand->Option (AV G)}
def zE(P:Program)(e:Nat)(k:IntKind):Bool:=match(P.info? e).bind (·.zero)with
 |some (.int k' n)=>Nat.beq (Ty.bz.ik k') (Ty.bz.ik k)&&n==0
 |_ =>false
theorem S5{T e bt s:Nat}{k ki:IntKind}{i z0:Int}{q:Bool}(hT:tt.te.find T=some (.sl e 1 bt))(hz:zt.z.find e=some (.int k z0))(hx:jq (dX C S [] (.tmp s))=some (ki,i,q))(hg:decide (0<=i)=true)(ha:ij 0 i.toNat bt=true)(hbt:0<bt):
  SK P ⟨d, .makeSlice T (.tmp s) (.tmp s),ty,ps,af,g⟩ C S {S with O:=(S.nx, .row e 1 (.int k) (List.replicate i.toNat z0))::S.O,nx:=S.nx+1} (.row S.nx):=by
 intro c N ρ J HK X a w next Q h hk
 obtain⟨HS,h1,hs0,hm⟩:=h.st;have hE:=bQ h (ch:=[]) (by simp);have fx:=gK hE hx;obtain⟨u,z1,z2⟩:=zt.ok e _ hz J ρ;have z2:[u]=[Value.int k z0]:=z2;cases z2;haveI:gq P e [Value.int k z0]:=⟨z1⟩;haveI:=(tt.sl hT).1;obtain⟨m,rfl⟩:∃m:Nat,i=m:=⟨i.toNat,by have:=of_decide_eq_true hg;omega⟩;obtain⟨g1,g2⟩:=qt ha;have hb:(P.info? e).map (·.bytes)=some bt:=by obtain⟨i,z,e1,e2,e3,e4,e5,e6,e7⟩:=HF.get (tt.sl hT).2.ok;rw[e2];simp[e5]
 simp only[ab9,Nat.zero_add]at g1 g2 ⊢;refine Vm (P:=P) (N:=N) (c:=c) (F:=kQ a) (H:=HS++(HK++X)) (m:=m) (L:=LI k) z0 rfl fx fx bt hb g1 (by have:=Nat.le_mul_of_pos_right m hbt;omega) a.defers a w next Q hs0 λb w' _ hs hp=>?_
 obtain⟨ρ',q1,q2,q3⟩:=wA (t:= .int k) (zs:=List.replicate m z0) h h1 hs hp ⟨some ⟨b,0,none⟩,m,congrArg (λn=>Value.slice (some ⟨b,0,none⟩) n m) (List.length_replicate (n:=m) (a:=z0)).symm⟩ (show(LA (LI k) _).dS J _ _ from aS.iff.2 (eG (LI k) (List.replicate m z0))) rfl;exact hk ρ' J [] w' _ q1 (λ_ h=>h) q2 q3
theorem QT{t:Ty}{l:LS G}{ys:List (t.T G)}(h:Dk l.xs=some ys):l=⟨t,ys⟩:=by obtain⟨t',l'⟩:=l;obtain⟨rfl,rfl⟩:=J4 h;rfl
theorem E3{w:World}{t t' ty e:Nat}{inf:TypeInfo}{u:Value}{n:Nat}(e1:P.underlying t=some (.slice e))(e2:P.info? e=some inf)(hu:qF u n):(Builtin.copy_ #[t,t'] ty #[.slice none 0 0,u]).run P w= .ok (.int .i64 0) w:=by
 obtain⟨a,cp,rfl⟩:=hu;cases a<;>simp[Builtin.copy_,run_underlying e1,Builtin.lenOf,Builtin.firstCells,sizeOf,typeInfo,e2,loadCells,Sem.run]
 all_goals rfl
theorem Py{T T' e bt r:Nat}{x y:Operand}{vy:AV G}{k:IntKind}{xs ys:List (Ty.T G (.int k))}{l:LS G}(hT:tt.te.find T=some (.sl e 1 bt))(hx:dX C S [] x=some (.row r))(hy:dX C S [] y=some vy)(ho:bP S.O r=some (.row e 1 (.int k) xs))(hl:RZ C S vy=some l)(hc:Dk (t:= .int k) l.xs=some ys):
  SK P ⟨d, .call ⟨.builtin .copy, #[x,y], #[T,T']⟩,ty,ps,af,g⟩ C S {S with O:=mX S.O r (.row e 1 (.int k) (ys.take xs.length++xs.drop ys.length))} (.int .i64 ((min ys.length xs.length:Nat):Int)):=by
 intro c N ρ J HK X a w next Q h hk
 obtain⟨HS,h1,hs0,hm⟩:=h.st;have hE:=bQ h (ch:=[]) (by simp);obtain⟨kk,x0,k1,⟨vv,ws,m1,rfl,m3,m4,m5⟩,k3⟩:=h1.set ho;obtain rfl:=QT hc;obtain⟨news,n1,n2,n3⟩:=Iq hm hl (hE.ok _ _ hy);have Nd:=oY (hE.ok _ _ hx) m1;have qz:=hE.ev _ _ hx;rw[Nd]at qz;have TU:ws=cS (LI k) xs:=(aS.iff.1 (show(LA (LI k) xs.length).dS J ws _ from m4)).trans (eG (LI k) xs).symm;have hnews:news=cS (LI k) ys:=(aS.iff.1 (show(LA (LI k) ys.length).dS J news _ from n2)).trans (eG (LI k) (ys:List Int)).symm;subst TU;subst hnews;have DM:=nG (m:=HK++X) k1;have hown:iv w e 1 vv xs.length (cS (LI k) xs):=hs0.hp.holds _ (List.mem_of_getElem? DM);have done:∀w',aG c.bs c.w0 w'->aX c.bs c.w0.heap.size ((HS++(HK++X)).set kk (.row vv e 1 (ys.take xs.length++xs.drop ys.length).length (cS (LI k) (ys.take xs.length++xs.drop ys.length)))) w'->next (a.put d (.int .i64 ((min ys.length xs.length:Nat):Int))) w':=λw' hs hp=>by
  rw[qO k1]at hp;refine hk ρ J [] w' _ (aP.cB _ _) (λ_ h=>h) rfl (h.yY (k3 _ _ ?_) hs hp);refine⟨vv,_,m1,rfl,?_,show(LA (LI k) _).dS J _ _ from aS.iff.2 (eG (LI k) _),rfl⟩;have:(ys.take xs.length++xs.drop ys.length).length=xs.length:=by simp only[List.length_append,List.length_take,List.length_drop];omega
  rw[this];exact m3
 haveI:qZ (HS++(HK++X)) vv e 1 xs.length (cS (LI k) xs) ((HS++(HK++X)).set kk):=⟨kk,DM,λ_ =>rfl⟩;rcases hown.2 with⟨hv,h0⟩|⟨b,o,cap,cur,hv,_⟩
 ·subst hv
  have hx0:xs=[]:=List.length_eq_zero_iff.1 h0;subst hx0;obtain⟨inf,e1,e2,e3⟩:=sD.get (tt.sl hT).1.ok;refine cE (by simp) (v:= .int .i64 ((min ys.length 0:Nat):Int)) (w':=w) ?_ (done w hs0.si ?_)
  ·have:=E3 (P:=P) (w:=w) (t':=T') (ty:=ty) e1 e2 n3
   simp[execOp,resolve,invoke,builtin,aA hs0.fr qz,this]
  ·refine hs0.hp.yY DM (λw hw=>?_) (λb hb=>?_)
   ·simpa using hw
   ·simpa using hb
 ·have hF:Fz (λw=>Ro w (a.eval y) 1 ys.length (cS (LI k) ys)) (a.eval y) (LI k) ys:=⟨n3,λ_ h=>h⟩
  haveI:Kn c (HS++(HK++X)) (λw=>Ro w (a.eval y) 1 ys.length (cS (LI k) ys)):=⟨λw' h1 h2=>n1.ro w' h1 h2⟩;exact ON (t':=T') (ty:=ty) (ps:=ps) (af:=af) (g:=g) (d:=d) hF rfl (tt.sl hT).1.ok ⟨b,o,cap,hv⟩ qz (hE.ev _ _ hy) a.defers a w next Q hs0 λ_ w' _ hs hp=>done w' hs hp
end Go.Rw
namespace Go.Bw
open Go Go.RowKit
section
variable {P:Program} {N:Nat} {c:Cx} {F:cO} {H:List ay} {d:Option Tmp} {ty:TypeId} {ps:String} {af:Array Edge} {g:Option (Nat×Bool)} {β:Type} {b:Nat} {q:IntKind} {E:β->Value} {l:List (Int×β)} {f:ay->List ay}
theorem AQ{x y z:Operand}{t kt e:TypeId}{k:Int}{v:Value}(u:β)[ht:BQ P t kt e q](hx:ev F x=some (.map (some b)))(hy:ev F y=some (.int q k))(hz:ev F z=some v)[hm:BY H b β q E l f](hv:v=E u):
  RX (α:=Unit) P N c ⟨d, .insert t x y z,ty,ps,af,g⟩ F H (λ_ =>True) (λ_ =>undef) (λ_ =>f (Mp b q E (qd l k u))):=λD a w next Q hst hk=>by
 subst hv;obtain⟨es,clock,h1,h2⟩:=hm.Qz hst.hp;obtain⟨t1,t2⟩:=ht.ok;have hf:=kj (k:=k) w t2 h2;have hc:∀em,(Instr.checkKey em 10000 kt (.int q k)).run P w= .ok () w:=λem=>MapKept.run_checkKey (k:= .int q k) t2 (show q=q from rfl) em 9999;cases Nk:dH l k with
 |none=>obtain⟨p1,p2⟩:=hm.put hst h1 (h2.push k u);refine lf (by simp) (w':=w.putObj b (.map (es.push ⟨.int q k,E u,clock⟩) (clock+1))) ?_ (hk () _ trivial p1 (by rw[Aq Nk];exact p2));rw[Nk]at hf;simp[execOp,aA hst.fr hx,aA hst.fr hy,aA hst.fr hz,Instr.mapUpdate,run_underlying t1,MapKept.run_getObj_map h1,hc,hf,MapKept.run_setObj_map _ h1,Result.andThen,World.putObj]
 |some p=>
  have hg:=Ar (j:=p.1) (y:=p.2) Nk;obtain⟨p1,p2⟩:=hm.put hst h1 (h2.modify p.1 k u);refine lf (by simp) (w':=w.putObj b (.map (es.modify p.1 λe=>{e with key:= .int q k,val:=E u}) clock)) ?_ (hk () _ trivial p1 (by rw[Ap (j:=p.1) (y:=p.2) Nk];exact p2));rw[Nk]at hf;have hkey:((es[p.1]?).map (·.key))=some (.int q k):=by
   have:(es.toList.map λe=>(e.key,e.val))[p.1]? =some (Value.int q k,E p.2):=by rw[h2.kv,List.getElem?_map,hg];rfl
   rw[List.getElem?_map,Array.getElem?_toList]at this;cases he:es[p.1]? with
   |none=>simp[he]at this
   |some e0=>simp[he]at this;simp[this.1]
  simp[execOp,aA hst.fr hx,aA hst.fr hy,aA hst.fr hz,Instr.mapUpdate,run_underlying t1,MapKept.run_getObj_map h1,hc,hf,hkey,MapKept.run_keyThatStays (show MapKept.IsKey (.int q) (.int q k)from rfl),MapKept.run_setObj_map _ h1,Result.andThen,World.putObj]
theorem tj{l:List (Int×Value)}{x y:Operand}{t kt e:TypeId}{k:Int}(z v:Value)(bb:Bool)[ht:BQ P t kt e q][hz:I4 P e z](hx:ev F x=some (.map (some b)))(hy:ev F y=some (.int q k))[hm:BY H b Value q (λv=>v) l f](h1:kP l k z=v)(h2:mY l k=bb):
  VS P N c ⟨d, .lookup t x y true,ty,ps,af,g⟩ F H (.tuple #[v, .bool bb]):=by
 subst h1 h2;haveI:I4 P e ((λv:Value=>v) z):=hz;exact I1 (E:=λv:Value=>v) z hx hy
theorem Jw{u0 u1 u2 z:Value}{k:Int}(h0:¬k=0)(h1:¬k=1)(h2:¬k=2):kP (qd (qd (qd [] 0 u0) 1 u1) 2 u2) k z=z/\mY (qd (qd (qd [] 0 u0) 1 u1) 2 u2) k=false:=by
 show kP [(0,u0),(1,u1),(2,u2)] k z=z/\mY [(0,u0),(1,u1),(2,u2)] k=false;have e0:(k==0)=false:=by simpa using h0
 have e1:(k==1)=false:=by simpa using h1
 have e2:(k==2)=false:=by simpa using h2
 simp[kP,mY,dH,e0,e1,e2]
end
end Go.Bw
