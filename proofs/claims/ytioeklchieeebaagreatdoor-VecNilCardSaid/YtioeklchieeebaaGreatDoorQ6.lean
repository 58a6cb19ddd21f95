/- Part 6 of what a proof leans on; pruned and shortened by a program out of longer texts. -/
import Derived.Test.YtioeklchieeebaaGreatDoorQ5
namespace Go.Rw
open Go Go.Bw Go.RowKit
variable {G:Sg} {P:Program} {tt:TT P G} {zt:ZT P G} {J:World->Prop} {ρ:aX} {a:Act} {w:World} {d:Option Tmp} {ty:TypeId} {ps:String} {af:Array Edge} {g:Option (Nat×Bool)}
 {N:Nat} {c:Cx} {H:List aF} {D:List Deferred} {ob:Nat->Option (Ob G)} {E:Operand->Option (AV G)}
def I2(c:AV G)(i o:Nat):pE:=match c with
 | .dat (.jo n e) _ => .idx n (e.L G).n i
 |_ => .Ag i o
def T3:pE->Bool
 | .idx n _ i=>cF i n
 |_ =>true
def Tg(F:Kj G)(pl:List (Nat×Nat))(E:Operand->Option (AV G)):AV G->List (Nat×Operand)->Option (AV G)
 |c,[]=>some c
 |c,(i,x)::r=>match pl[i]?,E x with
  |some (o,n),some v=>bif (HY (some n) v||(Nat.beq n 1&&HY none v))&&(Nat.beq (I2 c i o).off o&&T3 (I2 c i o))then(match I3 F c [I2 c i o] v with
   |some c'=>Tg F pl E c' r
   |none=>none)else none
  |_,_ =>none
def W7:AV G->Bool
 | .dat t _ =>t.ag
 | .st _ =>true
 |_ =>false
def plT(tt:TT P G)(T:Nat)(parts:List (Nat×Operand)):Option (List (Nat×Nat)):=match tt.te.find T with
 |some (.jo n _ sz _)=>bif (parts.map (·.1)).all λi=>decide (i<n)then some (MY n sz)else none
 |_ =>Dz P T
def OJ(tt:TT P G)(zt:ZT P G)(E:Operand->Option (AV G))(T:Nat)(parts:List (Nat×Operand)):PV G:=match plT tt T parts,zt.z.find T with
 |some pl,some c0=>match Tg tt.F pl E c0 parts with
  |some v=>bif W7 v then some ([],v)else none
  |none=>none
 |_,_ =>none
theorem Tk{v:AV G}{u:Value}(h:W7 v=true)(hv:rv J ρ v u):u= .agg u.cells:=by
 cases v with
 |dat t x=>obtain⟨u',e,h1⟩:=hv;cases e;obtain⟨cs,e⟩:=h1.2.1 h;rw[e];simp[Value.cells]
 |st a=>obtain⟨cs,e,_⟩:=hv;cases e;simp[Value.cells]
 |_ =>cases h
theorem Tf{F:Kj G}{pl:List (Nat×Nat)}(hE:wA J ρ a E):∀{parts:List (Nat×Operand)} {c0 v:AV G} {u0:Value},Tg F pl E c0 parts=some v->rv J ρ c0 u0->
  ∃u vs,rv J ρ v u/\Ah (jS a) (parts.map (·.2))=some vs/\q8 pl u0.cells.toList ((parts.map (·.1)).zip vs)=some u.cells.toList:=by
 intro parts
 induction parts with
 |nil=>intro c0 v u0 h h0;cases h;exact⟨u0,[],h0,rfl,rfl⟩
 |cons q r ih=>
  obtain⟨i,x⟩:=q;intro c0 v u0 h h0;simp only[Tg]at h;split at h
  ·rename_i o n v1 hp hx
   cases hb:((HY (some n) v1||(Nat.beq n 1&&HY none v1))&&(Nat.beq (I2 c0 i o).off o&&T3 (I2 c0 i o)))with
   |false=>rw[hb]at h;cases h
   |true=>
    rw[hb]at h;simp only[cond_true]at h;rw[aiC,aiC]at hb;obtain⟨hb,hbo,hbk⟩:=hb;have hbo:=aiB hbo;split at h
    ·rename_i c' hc
     have hv1:=hE.ok _ _ hx;have hsz:(a.eval x).cells.size=n:=by
      simp only[Bool.or_eq_true,aiC]at hb;rcases hb with hb|⟨Ms,FB⟩
      ·exact((WA hb hv1).2 n rfl).1
      ·rw[(WA FB hv1).1 rfl,aiB Ms];rfl
     obtain⟨u',k1,k2,k3,_⟩:=F3 hv1 hc h0 (by
      intro s hs;rw[List.mem_singleton.1 hs];revert hbk;generalize I2 c0 i o=s;intro hbk;cases s with
      |Ag _ _ =>trivial
      |idx _ _ _ =>exact hbk)
     obtain⟨u,vs,m1,m2,m3⟩:=ih h k1;refine⟨u,a.eval x::vs,m1,?_,?_⟩
     ·simp only[List.map_cons,Ah,hE.ev _ _ hx,m2]
     ·have ho:dz [I2 c0 i o]=o:=by simp[dz,hbo]
      rw[ho]at k2 k3;simp only[List.map_cons,List.zip_cons_cons,q8,hp];rw[aiA, ← k2]
      ·exact m3
      ·simp only[ne_eq,hsz,not_true_eq_false,decide_false,Bool.false_or,decide_eq_true_eq,Array.length_toList]
       omega
    ·cases h
  ·cases h
theorem OI(hm:Ke (G:=G) J ρ N c D H ob a w)(hE:wA J ρ a E){T:Nat}{parts:Array (Nat×Operand)}{v:AV G}{gs:List Bool}(h:OJ tt zt E T parts.toList=some (gs,v)):yz P c J ρ ⟨d, .build T parts,ty,ps,af,g⟩ a w v:=by
 unfold OJ at h;split at h
 ·rename_i pl c0 h1 h2
  split at h
  ·rename_i v' hb
   cases hag:W7 v' with
   |false=>rw[hag]at h;cases h
   |true=>
    rw[hag]at h;cases h;obtain⟨u0,z1,z2⟩:=zt.ok T c0 h2 J ρ;obtain⟨u,vs,m1,m2,m3⟩:=Tf hE hb z2;haveI:gj P T u0.cells.toList:=⟨z1⟩;have:VS P N c ⟨d, .build T parts.toList.toArray,ty,ps,af,g⟩ (jS a) H (.agg u.cells.toList.toArray):=by
     unfold plT at h1;split at h1
     ·rename_i n e sz tot ht
      haveI:=tt.jo ht;cases hi:(parts.toList.map (·.1)).all λi=>decide (i<n)with
      |false=>rw[hi]at h1;cases h1
      |true=>rw[hi]at h1;cases h1;exact MN m2 m3 hi
     ·haveI:Xu P T pl:=⟨h1⟩
      exact v7 (P:=P) (N:=N) (c:=c) (H:=H) (d:=d) (ty:=ty) (p:=ps) (af:=af) (g:=g) (F:=jS a) (t:=T) m2 m3
    refine⟨u,m1,?_⟩;have e:=Tk hag m1;rw[e];have:=this.vk hm.st;simpa using this
  ·cases h
 ·cases h
def eq1{i:Nat}(x y:G.S i)(f:Fd G i):Option Bool:=match f with
 |⟨.int _,_,get,_,_⟩=>some (@BEq.beq Int inferInstance (get x) (get y))
 |⟨.bool,_,get,_,_⟩=>some (@BEq.beq Bool inferInstance (get x) (get y))
 |_ =>none
def eqF{i:Nat}(x y:G.S i):List (Fd G i)->Bool->Option Bool
 |[],b=>some b
 |f::r,b=>match eq1 x y f with
  |some c=>eqF x y r (b&&c)
  |none=>none
def eqS{i:Nat}(x y:G.S i):List (Fd G i)->Option Bool
 |[]=>none
 |f::r=>match eq1 x y f with
  |some c=>eqF x y r c
  |none=>none
def HH{i:Nat}:List (Fd G i)->List (Nat×Option IntKind)
 |[]=>[]
 |f::r=>(f.off,match f.ty with
  | .int k=>some k
  |_ =>none)::HH r
theorem PY{i:Nat}{x y:G.S i}{f:Fd G i}{b:Bool}{cs ds:List Value}(h:eq1 x y f=some b)(hc:(G.L i).ef J cs x)(hd:(G.L i).ef J ds y):GL cs[f.off]? ds[f.off]? =b/\qn (match f.ty with
  | .int k=>some k
  |_ =>none) cs[f.off]? =true/\qn (match f.ty with
  | .int k=>some k
  |_ =>none) ds[f.off]? =true:=by
 obtain⟨t,o,get,set,ok⟩:=f;cases t<;>simp only[eq1]at h<;>try (cases h;done)
 ·rename_i k
  cases h;have e1:=aY.int (k:=k) ok hc;have e2:=aY.int (k:=k) ok hd;rw[e1,e2];exact⟨rfl,by simp[qn],by simp[qn]⟩
 ·cases h
  have e1:=aY.bool ok hc;have e2:=aY.bool ok hd;rw[e1,e2];exact⟨rfl,rfl,rfl⟩
theorem WI{i:Nat}{x y:G.S i}{cs ds:List Value}(hc:(G.L i).ef J cs x)(hd:(G.L i).ef J ds y):∀{l:List (Fd G i)} {b e:Bool},eqF x y l b=some e->(b&&Bd (HH l) cs ds)=e/\wV (HH l) cs=true/\wV (HH l) ds=true:=by
 intro l
 induction l with
 |nil=>intro b e h;cases h;exact⟨by simp[HH,Bd],rfl,rfl⟩
 |cons f r ih=>
  intro b e h;simp only[eqF]at h;split at h
  ·rename_i c1 h1
   obtain⟨k1,k2,k3⟩:=PY h1 hc hd;obtain⟨m1,m2,m3⟩:=ih h;refine⟨?_,?_,?_⟩
   ·simp only[HH,Bd,k1];rw[← m1,Bool.and_assoc]
   ·simp only[HH,wV,k2,m2,Bool.and_self]
   ·simp only[HH,wV,k3,m3,Bool.and_self]
  ·cases h
def OH(tt:TT P G)(o:BinOp)(T:Nat):AV G->AV G->PV G
 | .dat (.st i) x, .dat (.st j) y=>if h:j=i then(bif D7 P T (HH (tt.F i))then(match eqS x (h▸y) (tt.F i),o with
  |some b, .eql=>some ([], .bool b)
  |some b, .neq=>some ([], .bool (!b))
  |_,_ =>none)else none)else none
 |_,_ =>none
theorem OG(hm:Ke (G:=G) J ρ N c D H ob a w)(hE:wA J ρ a E){o:BinOp}{T U:Nat}{x y:Operand}{va vb v:AV G}{gs:List Bool}(h:OH tt o T va vb=some (gs,v))(hx:E x=some va)(hy:E y=some vb):yz P c J ρ ⟨d, .binOp o T x y U,ty,ps,af,g⟩ a w v:=by
 unfold OH at h;split at h
 ·rename_i i x' j y'
  by_cases e:j=i
  ·subst e
   rw[dif_pos rfl]at h;cases hk:D7 P T (HH (tt.F j))with
   |false=>rw[hk]at h;cases h
   |true=>
    rw[hk]at h;simp only[cond_true]at h;obtain⟨u,e1,r1⟩:=hE.ok _ _ hx;obtain⟨u2,e2,r2⟩:=hE.ok _ _ hy;cases e1;cases e2;obtain⟨cs,ec⟩:=r1.2.1 rfl;obtain⟨ds,ed⟩:=r2.2.1 rfl;have hc:(G.L j).ef J cs x':=by have:=r1.1;rw[ec]at this;simp only[Value.cells]at this;exact this
    have hd:(G.L j).ef J ds y':=by have:=r2.1;rw[ed]at this;simp only[Value.cells]at this;exact this
    have fx:=hE.ev _ _ hx;have fy:=hE.ev _ _ hy;rw[ec]at fx;rw[ed]at fy;haveI:Kb P T (HH (tt.F j)):=⟨hk⟩;have main:∀b,eqS x' y' (tt.F j)=some b->Bd (HH (tt.F j)) cs ds=b/\wV (HH (tt.F j)) cs=true/\wV (HH (tt.F j)) ds=true:=by
     intro b hb;cases hl:tt.F j with
     |nil=>rw[hl]at hb;cases hb
     |cons f r=>
      rw[hl]at hb;simp only[eqS]at hb;split at hb
      ·rename_i c1 h1
       obtain⟨k1,k2,k3⟩:=PY h1 hc hd;obtain⟨m1,m2,m3⟩:=WI hc hd hb;exact⟨by simp only[HH,Bd,k1];exact m1,by simp only[HH,wV,k2,m2,Bool.and_self],by simp only[HH,wV,k3,m3,Bool.and_self]⟩
      ·cases hb
    split at h
    ·rename_i b hb
     cases h;obtain⟨m1,m2,m3⟩:=main b hb;have:=(Lj (P:=P) (N:=N) (c:=c) (H:=H) (d:=d) (ty:=ty) (p:=ps) (af:=af) (g:=g) (T:=T) (U:=U) fx fy m2 m3).vk hm.st;rw[m1]at this;exact⟨_,rfl,this⟩
    ·rename_i b hb
     cases h;obtain⟨m1,m2,m3⟩:=main b hb;have:=(Tx (P:=P) (N:=N) (c:=c) (H:=H) (d:=d) (ty:=ty) (p:=ps) (af:=af) (g:=g) (T:=T) (U:=U) fx fy m2 m3).vk hm.st;rw[m1]at this;exact⟨_,rfl,this⟩
    ·cases h
  ·rw[dif_neg e]at h;cases h
 ·cases h
end Go.Rw
namespace Go.Bw
open Go Go.RowKit
end Go.Bw
namespace Go.Bw
open Go Go.RowKit
section rules
variable {P:Program} {N:Nat} {c:Cx} {D:List Deferred} {Q:Exit->Act->World->Prop} {F:dc} {H:List aF} {d:Option Tmp} {ty:TypeId} {ps:String} {af:Array Edge} {g:Option (Nat×Bool)} {α β γ:Type}
theorem Mb{w:World}{v:Value}{e sz n m:Nat}{xs:List Value}(h:(aF.row v e sz n xs).holds w)(hm:m<=n):(aF.row (jT 0 m sz v) e sz m (xs.take (m*sz))).holds w:=by
 obtain⟨h1,h2⟩:=h;have hle:m*sz<=n*sz:=Nat.mul_le_mul_right _ hm;refine⟨by rw[List.length_take,h1,Nat.min_eq_left hle],?_⟩;rcases h2 with⟨rfl,rfl⟩|⟨gb,o,cap,cur,rfl,q2,q3,q4,q5,q6⟩
 ·obtain rfl:m=0:=by omega
  exact .inl ⟨by simp[jT],rfl⟩
 ·refine .inr ⟨gb,o,cap,cur,?_,q2,by omega,q4,q5,?_⟩
  ·simp[jT,Addr.add_lit]
  ·rw[← q6,List.take_take,Nat.min_eq_left hle]
theorem Ma{w:World}{v:Value}{e sz n l:Nat}{xs:List Value}(h:(aF.row v e sz n xs).holds w)(hl:l<=n):(aF.row (jT l n sz v) e sz (n-l) (xs.drop (l*sz))).holds w:=by
 obtain⟨h1,h2⟩:=h;refine⟨by rw[List.length_drop,h1,Nat.sub_mul],?_⟩;rcases h2 with⟨rfl,rfl⟩|⟨gb,o,cap,cur,rfl,q2,q3,q4,q5,q6⟩
 ·obtain rfl:l=0:=by omega
  exact .inl ⟨by simp[jT],rfl⟩
 ·have hlc:l*sz<=cap*sz:=Nat.mul_le_mul_right _ (by omega)
  by_cases hc:cap=l
  ·refine .inr ⟨gb,o,cap-l,cur,by simp[jT,hc],q2,by omega,by omega,by rw[Nat.sub_mul];omega,?_⟩
   have:n-l=0:=by omega
   rw[this,Nat.zero_mul,List.take_zero];have hle:n*sz<=l*sz:=Nat.mul_le_mul_right _ (by omega);exact(List.drop_of_length_le (by omega)).symm
  ·refine .inr ⟨gb,o+l*sz,cap-l,cur,by simp[jT,hc,Addr.add_lit],q2,by omega,by omega,by rw[Nat.sub_mul];omega,?_⟩
   rw[← q6, ← List.drop_drop,List.drop_take,Nat.sub_mul]
theorem TL{v:Value}{n m sz:Nat}(h:pJ v n):pJ (jT 0 m sz v) m:=by obtain⟨a,cp,rfl⟩:=h;exact⟨_,_,rfl⟩
theorem Fj(L:cj α)[bf L](xs:List α){m sz:Nat}(hn:L.n=sz)(hm:m<=xs.length):(cR L xs).take (m*sz)=cR L (xs.take m):=by have:=Ot L xs 0 m (Nat.zero_le _) hm;subst hn;simpa using this
theorem AY(L:cj α)[bf L](z0:α){z:Value}(he:L.enc z0=[z]):∀n:Nat,cR L (List.replicate n z0)=List.replicate n z
 |0=>rfl
 |n+1=>by have:=AY L z0 he n;rw[List.replicate_succ,List.replicate_succ];show L.enc z0++cR L (List.replicate n z0)=_;rw[he,this];rfl
theorem Hl{P:Program}{w:World}{t e ty:Nat}(e1:P.underlying t=some (.slice e))(a:Option Addr)(cp:Nat):(Builtin.clear_ #[t] ty #[.slice a 0 cp]).run P w= .ok (.tuple #[]) w:=by cases a<;>simp[Builtin.clear_,run_underlying e1]
theorem MQ{L:cj α}[bf L]{xs ys:List α}{v:Value}{e t m:Nat}{z0:α}{z:Value}{x:Operand}{f:aF->List aF}(ht:BV P t e 1=true)(hz:Ka P e z)(he:L.enc z0=[z])(hz1:z.cells= #[z])(h1:z.oneCell'=true)(hL:L.n=1)(hm:m<=xs.length)
  (hx:ev F x=some (jT m xs.length 1 v))[hr:qC H v e 1 xs.length (cR L xs) f](hy:ys=xs.take m++List.replicate (xs.length-m) z0):
  RX (α:=Unit) P N c ⟨d, .call ⟨.builtin .clear, #[x], #[t]⟩,ty,ps,af,g⟩ F H (λ_ =>True) (λ_ => .tuple #[]) (λ_ =>f (mY v e 1 L ys)):=λD a w next Q hst hk=>by
 obtain⟨inf,e1,e2,e3⟩:=pC.get ht;obtain⟨k,k1,k2⟩:=hr.ok;have HT:aF.row v e 1 xs.length (cR L xs)∈H:=List.mem_of_getElem? k1;have hown:iw w e 1 v xs.length (cR L xs):=hst.hp.holds _ HT;obtain⟨hlen,BQ⟩:=hown;have qG:=aH hst.fr hx;have hyl:ys.length=xs.length:=by rw[hy,List.length_append,List.length_take,List.length_replicate];omega
 by_cases hem:m=xs.length
 ·have hyx:ys=xs:=by rw[hy,hem,List.take_length];simp
  refine cJ (by simp) (v:= .tuple #[]) (w':=w) ?_ (hk () w trivial hst.si ?_)
  ·have hv:∃a0 cp,a.eval x= .slice a0 0 cp:=by
    rw[qG,hem];rcases BQ with⟨hv,h0⟩|⟨gb,o,cap,cur,hv,_⟩
    ·rw[hv];exact⟨_,_,by rw[jT,Nat.sub_self]⟩
    ·rw[hv];exact⟨_,_,by rw[jT,Nat.sub_self]⟩
   obtain⟨a0,cp,hv⟩:=hv;have:=Hl (P:=P) (w:=w) (ty:=ty) e1 a0 cp;simp[execOp,resolve,invoke,builtin,hv,this]
  ·rw[k2]
   exact hst.hp.zk k1 (λw hw=>by rw[hyx];exact hw) (λb hb=>by rw[hyx]at hb;exact hb)
 ·rcases BQ with⟨_,h0⟩|⟨gb,o,cap,cur,rfl,KT,hnc,JH,hcs,BO⟩
  ·omega
  have hone:lQ (List.replicate (xs.length-m) z):=λv hv=>by rw[List.eq_of_mem_replicate hv];exact h1
  have hsc:=run_storeCells_at P gb (o+m) e (List.replicate (xs.length-m) z) 0 cur w KT (by simp;omega) hone;simp only[Nat.add_zero]at hsc;obtain⟨cs',Wm⟩:∃cs',(cur.toList.take (o+m)++List.replicate (xs.length-m) z++cur.toList.drop (o+m+(List.replicate (xs.length-m) z).length)).toArray=cs':=⟨_,rfl⟩;rw[Wm]at hsc;have fN:aO [gb] w (w.setRow gb cs'):=⟨rfl,rfl,rfl,by simp,λk _ hk=>setRow_other w gb k _ (by simpa using hk)⟩;refine cJ (by simp) (v:= .tuple #[]) (w':=w.setRow gb cs') ?_ (hk () _ trivial (hst.si.store hst.hp HT (by simp[aF.bT,Value.ownBlock]) fN) ?_)
  ·obtain⟨j,hj⟩:∃j,xs.length-m=j+1:=⟨xs.length-m-1,by omega⟩
   have hzr:=I8 hz w;have hzc:=xj hz1 (j+1);have hne:¬cap=m:=by omega
   rw[hj]at hsc;have hx3:a.eval x= .slice (some ⟨gb,o+m,none⟩) (j+1) (cap-m):=by rw[qG];simp[jT,hne,Addr.add_lit,hj]
   simp[execOp,resolve,invoke,builtin,hx3,Builtin.clear_,run_underlying e1,hzr,hzc,hsc]
  ·show bq c.bs c.w0.heap.size (f (mY _ e 1 L ys)) _
   rw[mY,k2];have Gu:=setRow_heap w gb cur cs' e (0,0) KT;refine hst.hp.set k1 fN.size (λj hj hn=>fN.block j hj (by simpa[aF.bT,Value.ownBlock]using hn)) ?_ hst.si.size (λb' hb'=>?_)
   ·refine⟨by rw[jf,hL], .inr ⟨gb,o,cap,cs',by rw[hyl],Gu,by omega,JH,?_,?_⟩⟩
    ·rw[← Wm];simp;omega
    ·have e7:=rh (cs:=cur.toList) (vs:=List.replicate (xs.length-m) z) (o:=o) (off:=m) (k:=xs.length*1) (by simp;omega) (by have h8:cur.toList.length=cur.size:=Array.length_toList;omega)
     rw[BO]at e7;rw[hyl, ← Wm];refine e7.trans ?_;rw[hy,n7,AY L z0 he];have t1:=Fj L xs (m:=m) (sz:=1) hL hm;rw[Nat.mul_one]at t1;unfold bA;rw[t1,List.drop_of_length_le (by simp[jf,hL];omega),List.append_nil]
   ·have h5:b'=gb:=by simpa[aF.bT,Value.ownBlock]using hb'
    subst h5;exact⟨.inl (by simp[aF.bT,Value.ownBlock]),Nat.lt_of_lt_of_le (aiH.1 KT).1 fN.size⟩
theorem ab6{ops:Array Oper}{rest:List Oper}{op:Op}{dd:Tmp}{gg:Option (Nat×Bool)}{b:Bool}{v:Value}(hg:Gd ops F gg b)(hb:b=false)(hd:Nat.blt dd N=true)
  (h:WL P N c D ops Q rest ((dd,bif b then v else undef)::F) H):WL P N c D ops Q (⟨some dd,op,ty,ps,af,gg⟩::rest) F H:=by
 subst hb;exact GO hg hd h
end rules
end Go.Bw
namespace Go.Rw
open Go Go.Bw Go.RowKit
variable {G:Sg} {P:Program} {tt:TT P G} {zt:ZT P G} {J:World->Prop} {ρ:aX} {a:Act} {w:World} {d:Option Tmp} {ty:TypeId} {ps:String} {af:Array Edge} {g:Option (Nat×Bool)}
 {N:Nat} {c:Cx} {H HK X:List aF} {C:CC G} {S:AS G} {D:List Deferred} {E:Operand->Option (AV G)}
def tyA:AV G->Option Ty
 | .int k _ =>some (.int k)
 | .bool _ =>some .bool
 | .dat t _ =>some t
 |_ =>none
def elA(t:Ty)(E:Operand->Option (AV G)):Nat->List (Nat×Operand)->Option (List (t.T G))
 |_,[]=>some []
 |k,(i,x)::r=>bif Nat.beq i k then(match E x with
  |some v=>match xW t v,elA t E (k+1) r with
   |some y,some l=>some (y::l)
   |_,_ =>none
  |none=>none)else none
theorem HZ{n sz:Nat}:∀{vs:List Value} {k:Nat} {rM:List Value},(∀v∈vs,v.cells.size=sz)->k+vs.length<=n->rM.length=n*sz->
  q8 (MY n sz) rM ((List.range' k vs.length).zip vs)=some (rM.take (k*sz)++vs.flatMap (λv=>v.cells.toList)++rM.drop ((k+vs.length)*sz)):=by
 intro vs
 induction vs with
 |nil=>intro k rM _ _ _;simp[q8]
 |cons v r ih=>
  intro k rM hv hk hl;have h0:=hv v (by simp);have hlt:k<n:=by simp at hk;omega
  have hle:k*sz+sz<=n*sz:=by rw[← Nat.succ_mul];exact Nat.mul_le_mul_right _ hlt
  simp only[List.length_cons,List.range'_succ,List.zip_cons_cons,q8,Gl hlt];rw[aiA (by simp[h0];omega)];have hsl:(bA rM (k*sz) v.cells.toList).length=n*sz:=by rw[qd (by rw[Array.length_toList];omega)];exact hl
  rw[ih (λx hx=>hv x (by simp[hx])) (by simp at hk;omega) hsl];have hvl:v.cells.toList.length=sz:=by rw[Array.length_toList];exact h0
  have t1:(bA rM (k*sz) v.cells.toList).take ((k+1)*sz)=rM.take (k*sz)++v.cells.toList:=by unfold bA;rw[Nat.succ_mul,List.take_append_of_le_length (by simp[hvl];omega),List.take_of_length_le (by simp[hvl];omega)]
  have t2:(bA rM (k*sz) v.cells.toList).drop ((k+1+r.length)*sz)=rM.drop ((k+(r.length+1))*sz):=by
   have e1:(k+1+r.length)*sz=k*sz+sz+r.length*sz:=by rw[Nat.add_mul,Nat.succ_mul]
   have e2:(k+(r.length+1))*sz=k*sz+sz+r.length*sz:=by rw[← e1];congr 1;omega
   unfold bA;rw[e1,e2,List.drop_append,hvl];have hz:(rM.take (k*sz)++v.cells.toList).length=k*sz+sz:=by simp[hvl];omega
   rw[List.drop_eq_nil_of_le (by rw[hz];omega),List.nil_append,hz,List.drop_drop];congr 1;omega
  rw[t1,t2];simp
theorem WM{t:Ty}(hE:wA J ρ a E):∀{parts:List (Nat×Operand)} {k:Nat} {xs:List (t.T G)},elA t E k parts=some xs->∃vs,Ah (jS a) (parts.map (·.2))=some vs/\parts.map (·.1)=List.range' k xs.length/\vs.length=xs.length/\
  (∀v∈vs,v.cells.size=(t.L G).n)/\(LA (t.L G) xs.length).ef J (vs.flatMap λv=>v.cells.toList) (λi=>xs.getD i default):=by
 intro parts
 induction parts with
 |nil=>intro k xs h;cases h;exact⟨[],rfl,rfl,rfl,by simp,XJ⟩
 |cons q r ih=>
  obtain⟨i,x⟩:=q;intro k xs h;simp only[elA]at h;cases hb:Nat.beq i k with
  |false=>rw[hb]at h;cases h
  |true=>
   rw[hb]at h;obtain rfl:=aiB hb;simp only[cond_true]at h;split at h
   ·rename_i v hx
    split at h
    ·rename_i y l hy hl
     cases h;obtain⟨vs,m1,m2,m3,m4,m5⟩:=ih hl;have hr:=wE hy (hE.ok _ _ hx);have hlen:=(t.L G).len hr.1;rw[Array.length_toList]at hlen;refine⟨a.eval x::vs,?_,?_,by simp[m3],λv hv=>?_,?_⟩
     ·simp only[List.map_cons,Ah,hE.ev _ _ hx,m1]
     ·simp only[List.map_cons,m2,List.length_cons,List.range'_succ]
     ·rcases List.mem_cons.1 hv with rfl|hv
      ·exact hlen
      ·exact m4 v hv
     ·have:=QY (XI hr.1) m5
      simpa using this
    ·cases h
   ·cases h
theorem SE{bs:List Nat}{n0 b e sz n:Nat}{cs:List Value}{w:World}(hl:cs.length=n*sz)(hn:n<=9223372036854775807)(h:bq bs n0 (.cells b e cs::H) w):bq bs n0 (.row (.slice (some ⟨b,0,none⟩) n n) e sz n cs::H) w:=by
 have:=h.zk (k:=0) (r:= .cells b e cs) (r':= .row (.slice (some ⟨b,0,none⟩) n n) e sz n cs) rfl (λw hw=>by
  have hb:w.heap[b]? =some (.cells cs.toArray e (0,0)):=hw;exact wH (base:=0) ⟨hl, .inr ⟨b,n,_,rfl,Nat.zero_le _,hb,Nat.le_refl _,hn,by simp[hl],List.take_of_length_le (by simp[hl])⟩⟩) (λx hx=>by simpa[aF.bT,Value.ownBlock]using hx)
 exact this
theorem aay{T n e sz bt:Nat}{parts:Array (Nat×Operand)}{z:AV G}{t:Ty}{xs:List (t.T G)}(hT:tt.te.find T=some (.sl e sz bt))(hz:zt.z.find e=some z)(hxs:elA t (ei C S []) 0 parts.toList=some xs)(hn:xs.length=n)(hsz:(t.L G).n=sz)(h0:0<n*sz)(hcap:n*sz<=16777216):
  SK P ⟨d, .buildSlice T n parts,ty,ps,af,g⟩ C S {S with O:=(S.nx, .row e sz t xs)::S.O,nx:=S.nx+1} (.row S.nx):=by
 intro c N ρ J HK X a w next Q h hk
 obtain⟨HS,h1,hs0,hm⟩:=h.st;have hE:=bX h (ch:=[]) (by simp);obtain⟨vs,m1,m2,m3,m4,m5⟩:=WM hE hxs;obtain⟨u,z1,z2⟩:=zt.ok e z hz J ρ;haveI:gj P e u.cells.toList:=⟨z1⟩;haveI:=(tt.sl hT).1;subst hn;subst hsz;have hb0:((List.range (xs.length*(t.L G).n)).map λj=>u.cells.toList[j%u.cells.toList.length]!).length=xs.length*(t.L G).n:=by simp
 have zL:=HZ (n:=xs.length) (sz:=(t.L G).n) (vs:=vs) (k:=0) m4 (by omega) hb0;rw[m3, ← m2]at zL;have hcs:(((List.range (xs.length*(t.L G).n)).map λj=>u.cells.toList[j%u.cells.toList.length]!).take (0*(t.L G).n)++vs.flatMap (λv=>v.cells.toList)++((List.range (xs.length*(t.L G).n)).map λj=>u.cells.toList[j%u.cells.toList.length]!).drop ((0+xs.length)*(t.L G).n))=vs.flatMap (λv=>v.cells.toList):=by rw[List.drop_eq_nil_of_le (by rw[hb0,Nat.zero_add];exact Nat.le_refl _)];simp
 rw[hcs]at zL;have hlen:(vs.flatMap (λv=>v.cells.toList)).length=xs.length*(t.L G).n:=(LA (t.L G) xs.length).len m5;have hi:((parts.toList.map (·.1)).all λi=>decide (i<xs.length))=true:=by rw[m2,List.all_eq_true];intro i hi;rw[List.mem_range'_1]at hi;simp;omega
 have hx1:xs.length<=9223372036854775807:=by
  have hpos:0<(t.L G).n:=by
   rcases Nat.eq_zero_or_pos (t.L G).n with q|q
   ·rw[q]at h0;omega
   ·exact q
  have:xs.length<=xs.length*(t.L G).n:=Nat.le_mul_of_pos_right _ hpos;omega
 have:=QT (P:=P) (N:=N) (c:=c) (d:=d) (ty:=ty) (ps:=ps) (af:=af) (g:=g) (F:=jS a) (H:=HS++(HK++X)) (t:=T) (n:=xs.length) m1 zL hi h0 hcap a.defers a w next Q hs0 λb w' _ hs hp=>by have wW:=SE (n:=xs.length) hlen hx1 hp;obtain⟨ρ',q1,q2,q3⟩:=wG (t:=t) (zs:=xs) h h1 hs wW ⟨_,_,rfl⟩ m5 rfl;exact hk ρ' J [] w' _ q1 (λ_ h=>h) q2 q3
 simpa using this
end Go.Rw
namespace Go.Rw
open Go Go.Bw Go.RowKit
variable {G:Sg} {P:Program} {tt:TT P G} {J:World->Prop} {ρ:aX} {a:Act} {w:World} {d:Option Tmp} {ty:TypeId} {ps:String} {af:Array Edge} {g:Option (Nat×Bool)}
 {N:Nat} {c:Cx} {H:List aF} {D:List Deferred} {ob:Nat->Option (Ob G)} {E:Operand->Option (AV G)}
def OB(E:Operand->Option (AV G))(e:Ty)(xs:List (e.T G)):Option Operand->Option Operand->Option Operand->PV G
 |none,none,none=>some ([], .dat (.sl e) xs)
 |some l,none,none=>match jl (E l)with
  |some (_,i,_)=>some ([cF i (xs.length+1)], .dat (.sl e) (xs.drop i.toNat))
  |none=>none
 |none,some h,none=>match jl (E h)with
  |some (_,i,_)=>some ([cF i (xs.length+1)], .dat (.sl e) (xs.take i.toNat))
  |none=>none
 |some l,some h,none=>match jl (E l),jl (E h)with
  |some (_,i,_),some (_,j,_)=>some ([cF j (xs.length+1),cF i (j.toNat+1)], .dat (.sl e) ((xs.drop i.toNat).take (j.toNat-i.toNat)))
  |_,_ =>none
 |none,some h,some m=>match jl (E h),jl (E m)with
  |some (_,i,_),some (_,j,_)=>some ([i==(xs.length:Int),j==(xs.length:Int)], .dat (.sl e) xs)
  |_,_ =>none
 |_,_,_ =>none
def Vr(tt:TT P G)(E:Operand->Option (AV G))(T:Nat)(x:Operand)(lo hi mx:Option Operand):PV G:=match E x,tt.te.find T with
 |some (.dat (.sl e) xs),some (.sl _ sz _)=>bif Nat.beq sz (e.L G).n then OB E e xs lo hi mx else none
 |some .iC,some (.sl _ _ _)=>match lo,hi,mx with
  |none,some h,none=>match jl (E h)with
   |some (_,i,q)=>some (P9 q (i==0), .iC)
   |none=>none
  |_,_,_ =>none
 |_,_ =>none
theorem RM{w:World}{v:Value}{sz n:Nat}{xs:List Value}(h:Ro w v sz n xs):Ro w (uj v) sz n xs:=by
 obtain⟨h1,h2⟩:=h;refine⟨h1,?_⟩;rcases h2 with⟨⟨a,cp,rfl⟩,e⟩|⟨gb,off,cap,rfl,q1,q2,q3⟩
 ·exact .inl ⟨⟨a,0,by simp[uj,e]⟩,e⟩
 ·exact .inr ⟨gb,off,n,rfl,q1,Nat.le_refl _,q3⟩
theorem CA{e:Ty}{v:Value}{ws:List Value}{xs:List (e.T G)}(h:yH J v (e.L G) ws xs):sX (G:=G) J (.sl e) xs v:=by have hc:v.cells.toList=[v]:=h.sl.cells;exact⟨⟨v,ws,hc,h⟩,nofun,λ_ =>by rw[← hc]⟩
theorem gN{E:Operand->Option (AV G)}(hE:wA J ρ a E){x:Operand}{k:IntKind}{i:Int}{q:Bool}(h:jl (E x)=some (k,i,q)):Bw.ev (jS a) x=some (.int k i):=(rP hE h).2
theorem OA(hm:Ke (G:=G) J ρ N c D H ob a w)(hE:wA J ρ a E){T x0 sz b:Nat}{x:Operand}{lo hi mx:Option Operand}{e:Ty}{xs:List (e.T G)}{v:AV G}{gs:List Bool}{v0:Value}{ws:List Value}(ht:tt.te.find T=some (.sl x0 sz b))(hs:sz=(e.L G).n)(hf:yH J v0 (e.L G) ws xs)(fx:Bw.ev (jS a) x=some v0)
  (h:OB E e xs lo hi mx=some (gs,v))(hg:∀b∈gs,b=true):yz P c J ρ ⟨d, .slice T x lo hi mx,ty,ps,af,g⟩ a w v:=by
 haveI:=(tt.sl ht).1;haveI:=hm.kn;haveI:=hf.at (c:=c) (H:=H);have cut:∀{l m:Nat} {ys:List (e.T G)},l<=m->m<=xs.length->ys=(xs.drop l).take (m-l)->sX (G:=G) J (.sl e) ys (jT l m sz v0):=λ{l m ys} h1 h2 h3=>by rw[h3];exact CA (yH.cut hf hs h1 h2)
 unfold OB at h;split at h
 ·cases h
  refine⟨v0,⟨v0,rfl,CA hf⟩,?_⟩;refine(aG (P:=P) (F:=jS a) (H:=H) (by simp) λa' w' Q5 hs' hp=>?_ :VS P N c _ _ _ _).vk hm.st;obtain⟨i,h1,h2,h3⟩:=pC.get (tt.sl ht).1.ok;obtain⟨a0,cp,rfl⟩:=hf.sl;simp[execOp,aH Q5 fx,Instr.sliceAt,run_underlying h1,Instr.slice,Instr.sliceBounds,sizeOf,typeInfo,h2,h3,Addr.add]
 ·split at h
  ·rename_i k i q hl
   cases h;obtain⟨h1,h2⟩:=bI (hg (cF i (xs.length+1)) (by simp));have h2:=Nat.lt_succ_iff.1 h2;have fl:=gN hE hl;rw[h1]at fl;refine⟨_,⟨_,rfl,cut h2 (Nat.le_refl _) ?_⟩,(Bo i.toNat fx fl h2).vk hm.st⟩;rw[List.take_of_length_le (by simp)]
  ·cases h
 ·split at h
  ·rename_i k i q hl
   cases h;obtain⟨h1,h2⟩:=bI (hg (cF i (xs.length+1)) (by simp));have h2:=Nat.lt_succ_iff.1 h2;have fl:=gN hE hl;rw[h1]at fl;refine⟨_,⟨_,rfl,cut (Nat.zero_le _) h2 ?_⟩,(FP i.toNat fx fl h2).vk hm.st⟩;rw[List.drop_zero,Nat.sub_zero]
  ·cases h
 ·split at h
  ·rename_i k i q k' j q' hl hh
   cases h;obtain⟨h1,h2⟩:=bI (hg (cF j (xs.length+1)) (by simp));obtain⟨h3,h4⟩:=bI (hg (cF i (j.toNat+1)) (by simp));have h2:=Nat.lt_succ_iff.1 h2;have h4:=Nat.lt_succ_iff.1 h4;have fl:=gN hE hl;have fh:=gN hE hh;rw[h3]at fl;rw[h1]at fh;exact⟨_,⟨_,rfl,cut h4 h2 rfl⟩,(Xs i.toNat j.toNat fx fl fh h4 h2).vk hm.st⟩
  ·cases h
 ·split at h
  ·rename_i k i q k' j q' hl hh
   cases h;have h1:i=(xs.length:Int):=by simpa using hg (i==(xs.length:Int)) (by simp)
   have h2:j=(xs.length:Int):=by simpa using hg (j==(xs.length:Int)) (by simp)
   have fl:=gN hE hl;have fh:=gN hE hh;rw[h1]at fl;rw[h2]at fh;refine⟨uj v0,⟨_,rfl,CA (ws:=ws) ⟨hf.sl.agx,hf.ef,λw hw=>RM (hf.ro w hw)⟩⟩,(Lm fx fl fh).vk hm.st⟩
  ·cases h
 ·cases h
theorem RW(hm:Ke (G:=G) J ρ N c D H ob a w)(hE:wA J ρ a E){T:Nat}{x:Operand}{lo hi mx:Option Operand}{v:AV G}{gs:List Bool}(h:Vr tt E T x lo hi mx=some (gs,v))(hg:∀b∈gs,b=true):yz P c J ρ ⟨d, .slice T x lo hi mx,ty,ps,af,g⟩ a w v:=by
 unfold Vr at h;split at h
 ·rename_i e xs x0 sz b hx ht
  cases hb:Nat.beq sz (e.L G).n with
  |false=>rw[hb]at h;cases h
  |true=>rw[hb]at h;obtain⟨u',e1,hr,_,hc⟩:=hE.ok _ _ hx;have fx:=hE.ev _ _ hx;cases e1;obtain⟨v',ws,e2,hf⟩:=hr;rw[hc rfl]at e2;cases e2;exact OA hm hE ht (aiB hb) hf fx h hg
 ·rename_i x0 sz b hx ht
  split at h
  ·split at h
   ·rename_i k i q hl
    cases h;have h1:i=0:=by simpa using zY hg
    have fl:=gN hE hl;have fx:=hE.ev _ _ hx;have e0:[a.eval x]=[.slice none 0 0]:=hE.ok _ _ hx;rw[(List.cons.inj e0).1]at fx;rw[h1]at fl;haveI:=(tt.sl ht).1;exact⟨_,rfl,(FO fx fl).vk hm.st⟩
   ·cases h
  ·cases h
 ·cases h
theorem Vd{C:CC G}{S:AS G}{T r e sz bt:Nat}{x hi:Operand}{t:Ty}{xs:List (t.T G)}{k:IntKind}{i:Int}{q:Bool}(hT:tt.te.find T=some (.sl e sz bt))(hx:ei C S [] x=some (.row r))(ho:bY S.O r=some (.row e sz t xs))(hh:jl (ei C S [] hi)=some (k,i,q))(hg:cF i (xs.length+1)=true):
  SK P ⟨d, .slice T x none (some hi) none,ty,ps,af,g⟩ C S {S with O:=(S.nx, .row e sz t (xs.take i.toNat))::tg S.O r,nx:=S.nx+1} (.row S.nx):=by
 intro c N ρ J HK X a w next Q h hk
 obtain⟨HS,h1,hs0,hm⟩:=h.st;have hE:=bX h (ch:=[]) (by simp);obtain⟨kk,x0,k1,⟨vv,ws,m1,rfl,m3,m4,m5⟩,k3⟩:=h1.S6 ho;have Pf:=o9 (hE.ok _ _ hx) m1;have qG:=hE.ev _ _ hx;rw[Pf]at qG;obtain⟨g1,g2⟩:=bI hg;have g2:=Nat.lt_succ_iff.1 g2;have fl:=gN hE hh;rw[g1]at fl;haveI:=(tt.sl hT).1;have HT:aF.row vv e sz xs.length ws∈HS++(HK++X):=aiG _ (List.mem_of_getElem? k1);haveI:mU c (HS++(HK++X)) vv sz xs.length ws:=⟨λw' _ hp'=>Ro.rH (hp'.holds _ HT)⟩;refine(FP (P:=P) (c:=c) (F:=jS a) (H:=HS++(HK++X)) i.toNat qG fl g2) a.defers a w next Q hs0 λw' hs=>?_
 obtain⟨XM,q1,q3⟩:=h.hp;have hlen:(xs.take i.toNat).length=i.toNat:=by rw[List.length_take];omega
 have wW:bq c.bs c.w0.heap.size (.row (jT 0 i.toNat sz vv) e sz (xs.take i.toNat).length (ws.take (i.toNat*sz))::(HS.eraseIdx kk++(HK++X))) w':=by
  have p1:=(hs0.hp.ext hs).gK (mz k1 _);have:=p1.zk (k:=0) (r':= .row (jT 0 i.toNat sz vv) e sz (xs.take i.toNat).length (ws.take (i.toNat*sz))) rfl (λw hw=>by
   rw[hlen];exact Mb hw g2) (λb hb=>by simpa[aF.bT,Ic]using hb)
  exact this
 have V7:(LA (t.L G) (xs.take i.toNat).length).ef J (ws.take (i.toNat*sz)) (λj=>(xs.take i.toNat).getD j default):=by have hc:=Kh (Nat.zero_le i.toNat) g2 m4;subst m5;simp only[List.drop_zero,Nat.sub_zero,Nat.zero_mul]at hc;exact hc
 obtain⟨ρ',q1,q2,q3⟩:=wG h k3 (h.si.s.ext hs) wW (by rw[hlen];exact TL m3) V7 m5;exact hk ρ' J [] w' _ q1 (λ_ h=>h) q2 q3
theorem Oj{C:CC G}{S:AS G}{T r e sz bt:Nat}{x lo:Operand}{t:Ty}{xs:List (t.T G)}{k:IntKind}{i:Int}{q:Bool}(hT:tt.te.find T=some (.sl e sz bt))(hx:ei C S [] x=some (.row r))(ho:bY S.O r=some (.row e sz t xs))(hh:jl (ei C S [] lo)=some (k,i,q))(hg:cF i (xs.length+1)=true):
  SK P ⟨d, .slice T x (some lo) none none,ty,ps,af,g⟩ C S {S with O:=(S.nx, .row e sz t (xs.drop i.toNat))::tg S.O r,nx:=S.nx+1} (.row S.nx):=by
 intro c N ρ J HK X a w next Q h hk
 obtain⟨HS,h1,hs0,hm⟩:=h.st;have hE:=bX h (ch:=[]) (by simp);obtain⟨kk,x0,k1,⟨vv,ws,m1,rfl,m3,m4,m5⟩,k3⟩:=h1.S6 ho;have Pf:=o9 (hE.ok _ _ hx) m1;have qG:=hE.ev _ _ hx;rw[Pf]at qG;obtain⟨g1,g2⟩:=bI hg;have g2:=Nat.lt_succ_iff.1 g2;have fl:=gN hE hh;rw[g1]at fl;haveI:=(tt.sl hT).1;have HT:aF.row vv e sz xs.length ws∈HS++(HK++X):=aiG _ (List.mem_of_getElem? k1);haveI:mU c (HS++(HK++X)) vv sz xs.length ws:=⟨λw' _ hp'=>Ro.rH (hp'.holds _ HT)⟩;refine(Bo (P:=P) (c:=c) (F:=jS a) (H:=HS++(HK++X)) i.toNat qG fl g2) a.defers a w next Q hs0 λw' hs=>?_
 obtain⟨XM,q1,q3⟩:=h.hp;have hlen:(xs.drop i.toNat).length=xs.length-i.toNat:=by rw[List.length_drop]
 have wW:bq c.bs c.w0.heap.size (.row (jT i.toNat xs.length sz vv) e sz (xs.drop i.toNat).length (ws.drop (i.toNat*sz))::(HS.eraseIdx kk++(HK++X))) w':=by
  have p1:=(hs0.hp.ext hs).gK (mz k1 _);have:=p1.zk (k:=0) (r':= .row (jT i.toNat xs.length sz vv) e sz (xs.drop i.toNat).length (ws.drop (i.toNat*sz))) rfl (λw hw=>by
   rw[hlen];exact Ma hw g2) (λb hb=>by simpa[aF.bT,Ic]using hb)
  exact this
 have V7:(LA (t.L G) (xs.drop i.toNat).length).ef J (ws.drop (i.toNat*sz)) (λj=>(xs.drop i.toNat).getD j default):=by have hc:=Kh g2 (Nat.le_refl _) m4;subst m5;have hw:ws.length=xs.length*(t.L G).n:=(LA (t.L G) xs.length).len m4;rw[List.take_of_length_le (by simp),List.take_of_length_le (by rw[List.length_drop,hw,Nat.sub_mul];exact Nat.le_refl _)]at hc;exact hc
 have hsl:pJ (jT i.toNat xs.length sz vv) (xs.drop i.toNat).length:=by rw[hlen];obtain⟨a0,cp,rfl⟩:=m3;exact⟨_,_,rfl⟩
 obtain⟨ρ',q1,q2,q3⟩:=wG h k3 (h.si.s.ext hs) wW hsl V7 m5;exact hk ρ' J [] w' _ q1 (λ_ h=>h) q2 q3
end Go.Rw
namespace Go.Bw
open Go
universe u
theorem rf{α:Sort u}{a:α}:a=a:=rfl
abbrev A(c:List Value):Value:= .agg c.toArray
abbrev Vs:=List Value
class ab7(P:Program)(t:TypeId):Prop where
 ok:P.underlying t=some .string
def look{α:Type}:List (Nat×α)->Nat->Option α
 |[],_ =>none
 |(k,v)::r,d=>bif Nat.beq k d then some v else look r d
def ikn:IntKind->Nat
 | .i8=>0| .i16=>1| .i32=>2| .i64=>3| .u8=>4| .u16=>5| .u32=>6| .u64=>7
def EB(k l:IntKind):Bool:=Nat.beq (ikn k) (ikn l)
theorem xE{k l:IntKind}(h:EB k l=true):k=l:=by cases k<;>cases l<;>first|rfl|(exact absurd h (by decide))
structure Tb where
 fl:List (Nat×List (Nat×Nat))
 ik:List (Nat×IntKind)
def P6(P:Program)(T:Tb):Bool:=
 (T.fl.all λp=>p.2.all λq=>D6 P p.1 q.1 q.2)&&T.ik.all λp=>match P.underlying p.1 with|some (.int k)=>EB k p.2|_ =>false
class Is(P:Program)(T:outParam Tb):Prop where
 ok:P6 P T=true
theorem DF{α:Type}:∀{l:List (Nat×α)} {d:Nat} {v:α},look l d=some v->(d,v)∈l:=by
 intro l
 induction l with
 |nil=>intro d v h;cases h
 |cons p r ih=>
  intro d v h;obtain⟨k,u⟩:=p;simp only[look]at h;by_cases e:k=d
  ·subst e;rw[Nat.beq_refl]at h;simp at h;subst h;simp
  ·rw[qz e]at h;simp at h;exact aiL _ (ih h)
def Tb.off(T:Tb)(s f:Nat):Option Nat:=match look T.fl s with
 |some l=>look l f
 |none=>none
def Tb.int(T:Tb)(t:Nat):Option IntKind:=look T.ik t
theorem Is.Ag{P:Program}{T:Tb}(h:Is P T){s f o:Nat}(e:T.off s f=some o):Cn P s f o:=by
 have h:=h.ok;unfold P6 at h;rw[aiC]at h;unfold Tb.off at e;split at e
 ·rename_i l h1
  exact⟨List.all_eq_true.1 (List.all_eq_true.1 h.1 _ (DF h1)) _ (DF e)⟩
 ·cases e
theorem Is.ty{P:Program}{T:Tb}(h:Is P T){t:Nat}{k:IntKind}(e:T.int t=some k):QC P t k:=by
 have h:=h.ok;unfold P6 at h;rw[aiC]at h;have h2:=List.all_eq_true.1 h.2 _ (DF e);dsimp only at h2;split at h2
 ·rename_i k' e2
  rw[xE h2]at e2;exact⟨e2⟩
 ·cases h2
def aaz(o:BinOp)(k:IntKind)(a b:Int):Option Value:=match o with
 | .add=>some (.int k (k.wrap (a+b)))
 | .sub=>some (.int k (k.wrap (a-b)))
 | .mul=>some (.int k (k.wrap (a*b)))
 | .eql=>some (.bool (a==b))
 | .neq=>some (.bool (a !=b))
 | .lss=>some (.bool (decide (a<b)))
 | .leq=>some (.bool (decide (a<=b)))
 | .gtr=>some (.bool (decide (b<a)))
 | .geq=>some (.bool (decide (b<=a)))
 |_ =>none
def sv(T:Tb)(F:dc):Op->Option Value
 | .move x=>ev F x
 | .assign x=>ev F x
 | .nilCheck x=>match ev F x with
  |some (.pointer (some a))=>some (.pointer (some a))
  |_ =>none
 | .unOp .not _ x=>match ev F x with
  |some (.bool b)=>some (.bool (!b))
  |_ =>none
 | .unOp .neg _ x=>match ev F x with
  |some (.int k a)=>some (.int k (k.wrap (0-a)))
  |_ =>none
 | .binOp o _ x y _ =>match ev F x with
  |some (.int k a)=>match ev F y with
   |some (.int l b)=>bif EB k l then aaz o k a b else none
   |_ =>none
  |_ =>none
 | .convert S t x=>match ev F x with
  |some (.int k a)=>match T.int S with
   |some l=>bif EB l k then(match T.int t with
    |some k'=>some (.int k' (k'.wrap a))
    |none=>none)else none
   |none=>none
  |_ =>none
 | .extract x i=>match ev F x with
  |some (.tuple vs)=>vs.toList[i]?
  |_ =>none
 | .fieldAddr s x f=>match ev F x with
  |some (.pointer (some ⟨b,off,none⟩))=>match T.off s f with
   |some fo=>some (cE b (off+fo))
   |none=>none
  |_ =>none
 | .makeFunc fn first cap=>match first.toList with
  |[]=>match Ah F cap.toList with
   |some vs=>some (.func fn #[] vs.toArray)
   |none=>none
  |_ =>none
 |_ =>none
theorem N7{P:Program}{T:Tb}[hT:Is P T]{N:Nat}{c:Cx}{F:dc}{H:List aF}{op:Op}{v:Value}{d:Option Tmp}{ty:TypeId}{ps:String}{af:Array Edge}{g:Option (Nat×Bool)}
  (h:sv T F op=some v):VS P N c ⟨d,op,ty,ps,af,g⟩ F H v:=by
 unfold sv at h;split at h
 ·exact bQ h
 ·exact pI h
 ·split at h
  ·rename_i a e;obtain rfl:=Option.some.inj h;exact vZ e
  ·cases h
 ·split at h
  ·rename_i b e;obtain rfl:=Option.some.inj h;exact Bm e
  ·cases h
 ·split at h
  ·rename_i e;obtain rfl:=Option.some.inj h;exact Qu e rfl
  ·cases h
 ·split at h
  ·rename_i o _ x y _ k a e
   split at h
   ·rename_i l b e2
    cases hb:EB k l with
    |false=>rw[hb]at h;cases h
    |true=>
     rw[hb]at h;obtain rfl:=xE hb;simp only[cond_true]at h;unfold aaz at h;split at h
     ·obtain rfl:=Option.some.inj h;exact Xt e e2 rfl
     ·obtain rfl:=Option.some.inj h;exact Qq e e2 rfl
     ·obtain rfl:=Option.some.inj h;exact Xk e e2 rfl
     ·obtain rfl:=Option.some.inj h;exact Xr e e2
     ·obtain rfl:=Option.some.inj h;exact Xj e e2
     ·obtain rfl:=Option.some.inj h;exact Xn e e2
     ·obtain rfl:=Option.some.inj h;exact Xo e e2
     ·obtain rfl:=Option.some.inj h;exact Qw e e2
     ·obtain rfl:=Option.some.inj h;exact J9 e e2
     ·cases h
   ·cases h
  ·cases h
 ·split at h
  ·rename_i S t x k a e
   split at h
   ·rename_i l e1
    cases hb:EB l k with
    |false=>rw[hb]at h;cases h
    |true=>
     rw[hb]at h;obtain rfl:=xE hb;simp only[cond_true]at h;split at h
     ·rename_i k' e2
      obtain rfl:=Option.some.inj h;haveI:=hT.ty e1;haveI:=hT.ty e2;exact Ll e rfl
     ·cases h
   ·cases h
  ·cases h
 ·split at h
  ·rename_i vs e
   exact nF (vs:=vs.toList) e h
  ·cases h
 ·split at h
  ·rename_i e
   split at h
   ·rename_i fo e1
    obtain rfl:=Option.some.inj h;haveI:=hT.Ag e1;exact z6 e
   ·cases h
  ·cases h
 ·rename_i fn first cap
  split at h
  ·rename_i e
   split at h
   ·rename_i e1
    obtain rfl:=Option.some.inj h;obtain⟨l⟩:=first
    obtain rfl:l=[]:=e;exact oh (cap:=cap.toList) e1
   ·cases h
  ·cases h
 ·cases h
inductive Kf where
 |th (y:Code)
 |tk (K:Act->World->Prop)
 |bl (id:Nat)
def dq(P:Program)(ro:Option Nat)(Q:Exit->Act->World->Prop):List Kf->Exit->Act->World->Prop
 |[]=>Q
 | .th y::ks=>Exit.then (y.wpIn (FA ro) 0 P (dq P ro Q ks)) (dq P ro Q ks)
 | .tk K::ks=>Exit.then K (dq P ro Q ks)
 | .bl id::ks=>Exit.inBlock id (dq P ro Q ks)
inductive Cf where
 |C (x:Code)
 |L (ops:Array Oper) (l:List Oper)
 |X (e:Exit)
def GG(P:Program)(N:Nat)(c:Cx)(D:List Deferred)(Q:Exit->Act->World->Prop)(ks:List Kf)(F:dc)(H:List aF):Cf->Prop
 | .C x=>WP P N c D x (dq P c.ro Q ks) F H
 | .L ops l=>WL P N c D ops (dq P c.ro Q ks) l F H
 | .X e=>WQ N c D (dq P c.ro Q ks) e F H
def s1(T:Tb)(N:Nat):Cf->List Kf->dc->Option (Cf×List Kf×dc)
 | .C x,ks,F=>match x with
  | .seq x y=>some (.C x, .th y::ks,F)
  | .block id x=>some (.C x, .bl id::ks,F)
  | .region _ ops false=>some (.L ops ops.toList,ks,F)
  | .skip=>some (.X .normal,ks,F)
  | .label _ =>some (.X .normal,ks,F)
  | .ret=>some (.X .ret,ks,F)
  | .exit id=>some (.X (.exit id),ks,F)
  |_ =>none
 | .L ops l,ks,F=>match l with
  |[]=>some (.X .normal,ks,F)
  |⟨some d,op,_,_,_,none⟩::r=>match sv T F op with
   |some v=>bif Nat.blt d N then some (.L ops r,ks,(d,v)::F)else none
   |none=>none
  |_ =>none
 | .X e,ks,F=>match e,ks with
  | .normal, .th y::ks=>some (.C y,ks,F)
  | .normal, .bl _ ::ks=>some (.X .normal,ks,F)
  | .ret, .th _ ::ks=>some (.X .ret,ks,F)
  | .ret, .tk _ ::ks=>some (.X .ret,ks,F)
  | .ret, .bl _ ::ks=>some (.X .ret,ks,F)
  | .exit i, .th _ ::ks=>some (.X (.exit i),ks,F)
  | .exit i, .tk _ ::ks=>some (.X (.exit i),ks,F)
  | .exit i, .bl k::ks=>bif Nat.beq i k then some (.X .normal,ks,F)else some (.X (.exit i),ks,F)
  |_,_ =>none
def sp(T:Tb)(N:Nat):Nat->Cf->List Kf->dc->Option (Cf×List Kf×dc)
 |0,cf,ks,F=>some (cf,ks,F)
 |n+1,cf,ks,F=>match s1 T N cf ks F with
  |some (cf,ks,F)=>sp T N n cf ks F
  |none=>none
section
variable {P:Program} {T:Tb} [hT:Is P T] {N:Nat} {c:Cx} {D:List Deferred} {Q:Exit->Act->World->Prop} {ks ks':List Kf} {F F':dc} {H:List aF} {cf Rd:Cf}
theorem aaF(h:s1 T N cf ks F=some (Rd,ks',F'))(g:GG P N c D Q ks' F' H Rd):GG P N c D Q ks F H cf:=by
 unfold s1 at h;split at h
 ·split at h
  all_goals first
   |(cases h;done)
   |skip
  ·cases h;exact tw g
  ·cases h;exact Qp g
  ·cases h;exactλa w hst=>wpIn_region_lit (l:=Array.toList _) (g a w hst)
  ·cases h;exact CJ g
  ·cases h;exact Qn g
  ·cases h;exact Xd g
  ·cases h;exact Tt g
 ·split at h
  ·cases h;exact tA g
  ·split at h
   ·rename_i d op _ _ _ _ _ v hv
    cases hd:Nat.blt d N with
    |false=>rw[hd]at h;cases h
    |true=>rw[hd]at h;cases h;exact bE hd (N7 hv) g
   ·cases h
  ·cases h
 ·split at h
  ·cases h;exact pz g
  ·cases h;exact Qk g
  ·cases h;exact B0 g
  ·cases h;exact B0 g
  ·cases h;exact GM g
  ·cases h;exact zZ g
  ·cases h;exact zZ g
  ·rename_i i k ks
   cases hb:Nat.beq i k with
   |true=>rw[hb]at h;cases h;obtain rfl:=aiB hb;exact EY g
   |false=>rw[hb]at h;cases h;exact EX hb g
  ·cases h
theorem Kq:∀{n:Nat} {cf:Cf} {ks:List Kf} {F:dc},sp T N n cf ks F=some (Rd,ks',F')->GG P N c D Q ks' F' H Rd->GG P N c D Q ks F H cf
 |0,_,_,_,h,g=>by cases h;exact g
 |n+1,_,_,_,h,g=>by
  simp only[sp]at h;split at h
  ·rename_i e;exact aaF e (Kq h g)
  ·cases h
class QF(P:Program)(ro:Option Nat)(Q:Exit->Act->World->Prop)(ks:outParam (List Kf))(Q0:outParam (Exit->Act->World->Prop)):Prop where
 ok:Q=dq P ro Q0 ks
instance(priority:=100) agE(P ro Q ks):QF P ro (dq P ro Q ks) ks Q:=⟨rfl⟩
instance(priority:=50) agD(P ro K Q ks Q0)[h:QF P ro Q ks Q0]:QF P ro (Exit.then K Q) (.tk K::ks) Q0:=⟨by rw[h.ok];rfl⟩
instance(priority:=10) agz(P ro Q):QF P ro Q [] Q:=⟨rfl⟩
theorem SC{x:Code}{Q0:Exit->Act->World->Prop}[q:QF P c.ro Q ks Q0](n:Nat)(h:sp T N n (.C x) ks F=some (Rd,ks',F'))(g:GG P N c D Q0 ks' F' H Rd):WP P N c D x Q F H:=by have:=Kq (H:=H) (D:=D) h g;rw[q.ok];exact this
theorem SL{ops:Array Oper}{l:List Oper}{Q0:Exit->Act->World->Prop}[q:QF P c.ro Q ks Q0](n:Nat)(h:sp T N n (.L ops l) ks F=some (Rd,ks',F'))(g:GG P N c D Q0 ks' F' H Rd):WL P N c D ops Q l F H:=by have:=Kq (H:=H) (D:=D) h g;rw[q.ok];exact this
class QX(Q:Exit->Act->World->Prop)(ro:Option Nat)(P:outParam Program)(ks:outParam (List Kf))(Q0:outParam (Exit->Act->World->Prop)):Prop where
 ok:Q=dq P ro Q0 ks
instance(priority:=100) agC(P ro Q ks):QX (dq P ro Q ks) ro P ks Q:=⟨rfl⟩
theorem SX{e:Exit}{Q0:Exit->Act->World->Prop}[q:QX Q c.ro P ks Q0](n:Nat)(h:sp T N n (.X e) ks F=some (Rd,ks',F'))(g:GG P N c D Q0 ks' F' H Rd):WQ N c D Q e F H:=by have:=Kq (P:=P) (H:=H) (D:=D) h g;rw[q.ok];exact this
end
theorem Tw{P:Program}{N:Nat}{c:Cx}{F:dc}{H:List aF}{d:Option Tmp}{ty:TypeId}{ps:String}{af:Array Edge}{g:Option (Nat×Bool)}{T:TypeId}{y:Operand}{s:ByteArray}{k:IntKind}{i:Int}{m:Nat}(hs:s=Lib.pop8tab)(hy:ev F y=some (.int k i))(hi:i=(m:Int))(hm:m<256)[hT:ab7 P T]:
  VS P N c ⟨d, .index T (.const (.string s)) y,ty,ps,af,g⟩ F H (.int .u8 (Lib.pop8 i)):=
 aG (by simp) λa w hf _ _ =>by subst hs;have e1:a.eval (.const (.string Lib.pop8tab))= .string Lib.pop8tab:=rfl;have:=Lib.run_index_pop8tab (P:=P) w T k i hT.ok (by omega) (by omega);simp only[execOp,e1,aH hf hy];simp[this]
theorem sj{α:Type}{a b:α}(h:some a=some b):a=b:=Option.some.inj h
theorem mo{α:Type}{L:cj α}{A B:World->Prop}{cs:Vs}{x:α}[XP B A](h:L.ef A cs x):L.ef B cs x:=cj.mono _ Ux h
theorem fl{α:Type}{L:cj α}[bf L]{J:World->Prop}{x:α}:L.ef J (L.enc x) x:=bf.iff.2 rfl
def DB:List Nat->Bool
 |[]=>true
 |k::r=> !(r.any (Nat.beq k))&&DB r
theorem Fq:∀{l:List Nat},DB l=true->l.Nodup
 |[],_ => .nil
 |k::r,h=>by simp only[DB,aiC,Bool.not_eq_true']at h;refine List.nodup_cons.2 ⟨λhm=>?_,Fq h.2⟩;have:=List.any_eq_false.1 h.1 k hm;rw[Nat.beq_refl]at this;exact this rfl
def Fo(H:List aF)(ks:List Nat):Option (List aF):=bif DB ks then pick H ks else none
theorem qj{H R:List aF}{ks:List Nat}(h:Fo H ks=some R):pick H ks=some R/\ks.Nodup:=by
 unfold Fo at h;cases hb:DB ks with
 |true=>rw[hb]at h;exact⟨h,Fq hb⟩
 |false=>rw[hb]at h;cases h
def L4(F:dc):dc->Option dc
 |[]=>some []
 |(k,_)::r=>match lk F k with
  |some v=>match L4 F r with
   |some l=>some ((k,v)::l)
   |none=>none
  |none=>none
theorem Cy{F:dc}:∀{I:dc},L4 F I=some I->Yi I F
 |[],_ =>trivial
 |(k,u)::r,h=>by
  simp only[L4]at h;split at h
  ·rename_i v hv
   split at h
   ·rename_i l hl
    simp only[Option.some.injEq,List.cons.injEq,Prod.mk.injEq,true_and]at h;obtain⟨h1,h2⟩:=h;subst h1;subst h2;exact⟨hv,Cy hl⟩
   ·cases h
  ·cases h
def DI(F:dc):List Nat->Option dc
 |[]=>some []
 |k::r=>match lk F k with
  |some v=>match DI F r with
   |some l=>some ((k,v)::l)
   |none=>none
  |none=>none
theorem vI{F:dc}:∀{sl:List Nat} {K:dc},DI F sl=some K->E5 F sl K
 |[],K,h=>by obtain rfl:=Option.some.inj h;exact .nil
 |k::r,K,h=>by
  simp only[DI]at h;split at h
  ·rename_i v hv
   split at h
   ·rename_i l hl
    obtain rfl:=Option.some.inj h;exact .cons hv (vI hl)
   ·cases h
  ·cases h
section
variable {P:Program} {N:Nat} {c:Cx} {D:List Deferred} {Q:Exit->Act->World->Prop} {F:dc} {H:List aF} {d:Tmp} {op:Op} {ty:TypeId} {ps:String} {af:Array Edge} {g:Option (Nat×Bool)} {ops:Array Oper} {rest:List Oper} {α β:Type}
theorem W0{H':List aF}(h:RX (α:=Unit) P N c ⟨none,op,ty,ps,af,none⟩ F H (λ_ =>True) (λ_ =>undef) (λ_ =>H'))(k:WL P N c D ops Q rest F H'):WL P N c D ops Q (⟨none,op,ty,ps,af,none⟩::rest) F H:=Eh h λ_ _ =>k
theorem W1{fv:α->Value}{fH:α->List aF}(hd:Nat.blt d N=true)(h:RX P N c ⟨some d,op,ty,ps,af,none⟩ F H (λ_ =>True) fv fH)(k:∀x,WL P N c D ops Q rest ((d,fv x)::F) (fH x)):WL P N c D ops Q (⟨some d,op,ty,ps,af,none⟩::rest) F H:=uH hd h λx _ =>k x
theorem CV{args:List Operand}{ats:Array TypeId}{f:Nat}{vs:List Value}{v:Value}{pre:World->Prop}(hc:UM P f vs pre v)(hd:Nat.blt d N=true)(ha:Ah F args=some vs)[q:Kn c H pre](k:WL P N c D ops Q rest ((d,v)::F) H):
  WL P N c D ops Q (⟨some d, .call ⟨.value (.func f),args.toArray,ats⟩,ty,ps,af,none⟩::rest) F H:=bE hd (GV hc ha q.ok) k
theorem Iz{ρ:Type}{m1 m2:Option ρ}{r:ρ}{x:Operand}{y z:Code}{t:Bool}(h:cn t m1 m2=some r)(hc:ev F x=some (.bool t))(h1:t=true->m1=some r->WP P N c D y Q F H)(h0:t=false->m2=some r->WP P N c D z Q F H):WP P N c D (.cond x y z) Q F H:=
 FJ hc (λe=>h1 e (JS e h)) (λe=>h0 e (JU e h))
structure ab8(n o:Nat)(cs vs cc:Vs):Prop where
 eq:bA cs o vs=cc
 lv:vs.length=n
 le:o+n<=cs.length
 one:lQ vs
theorem sto{L:cj α}{M:cj β}{o:Nat}{gg:α->β}{s:α->β->α}{cs vs:Vs}{x x':α}{v:β}{C:World->Prop}(p:aY L M o gg s)(r:L.ef C cs x)(rv:M.ef C vs v)(e:x'=s x v):∃cc,ab8 M.n o cs vs cc/\L.ef C cc x':=by subst e;exact⟨_,⟨rfl,M.len rv,by rw[L.len r];exact p.le,M.one rv⟩,p.set r rv⟩
theorem RXs{o n m b t T:Nat}{y z:Operand}{val:Value}{cs cs' vs:Vs}{H':List aF}{d:Option Tmp}(q:ab8 n o cs vs cs')(hx:ev F y=some (cE b o))(hz:ev F z=some val)(hv:val.cells.toList=vs)[oG H b T cs][MO P t m](hn:n=m)[Co H b cs' H']:
  RX (α:=Unit) P N c ⟨d, .store t y z,ty,ps,af,g⟩ F H (λ_ =>True) (λ_ =>undef) (λ_ =>H'):=by subst hn;exact qD hx hz hv q.lv q.le q.one q.eq
theorem rn:rR P F H [] []:= .nil
theorem rt{t:Nat}{v:Value}{rs:List ResultVar}{vs:Vs}(hv:lk F t=some v)(h:rR P F H rs vs):rR P F H (.tmp t::rs) (v::vs):= .tmp hv h
theorem ra{t ty b T n:Nat}{cs:Vs}{rs:List ResultVar}{vs:Vs}(hv:lk F t=some (cE b 0))[hr:oG H b T cs][ht:qM P ty n](hl:cs.length=n)(h:rR P F H rs vs):rR P F H (.cell t ty::rs) (.agg cs.toArray::vs):= .agg hv hr ht hl h
theorem ro{t ty b T:Nat}{v:Value}{cs:Vs}{rs:List ResultVar}{vs:Vs}(hv:lk F t=some (cE b 0))[hr:oG H b T cs][ht:nG P ty](hl:cs=[v])(h:rR P F H rs vs):rR P F H (.cell t ty::rs) (v::vs):= .one hv hr ht hl h
theorem RV{fn:Func}{rs:List ResultVar}{vs:Vs}{v:Value}(hf:fn.results.toList=rs)(hr:rR P F H rs vs)(hv:xY vs=v):WQ N c [] (Post P c fn (λ_ :Unit=>True) (λ_ =>v) (λ_ =>[])) .ret F H:=rQ () hf hr trivial hv (ks:=[]) rfl .nil
theorem RBu{fn:Func}{rs:List ResultVar}{vs:Vs}{R:List aF}{p:Value×List Nat×(World->Prop)->Prop}(ks:List Nat)(hk:Fo H ks=some R)(hf:fn.results.toList=rs)(hr:rR P F H rs vs)(hp:p (xY vs,bn R,Hs R)):
  WQ N c [] (Post P c fn p (λx=>x.1) (λx=>[.ext x.2.1 x.2.2])) .ret F H:=λa w hst=>by
 show LeavesInM (FA none) 0 P fn a.tmps _ a.defers .returning w;rw[hst.df];obtain⟨h1,h2⟩:=qj hk;exact⟨_,BL hf hst.fr hst.hp hr,(xY vs,bn R,Hs R),hp,rfl,hst.si,P7 (H':=[]) (by rw[List.append_nil];exact hst.hp.pick h1 h2)⟩
theorem LO{x:Code}(sl ks:List Nat)(I:Nat×β->dc)(J:Nat×β->List aF)(p:Nat×β->Prop)(i0:Nat×β)(Mm:p i0){K:dc}(hK:DI F sl=some K)(hs:L4 F (I i0)=some (I i0))(hk:Fo H ks=some (J i0))
  (hb:∀m y,p (m,y)->WP P N c D x (Lq N c D Q sl K I J p (λz=>z.1) (m,y)) (I (m,y)++K) (J (m,y))):WP P N c D (.loop x) Q F H:=
 Ql sl (vI hK) I J p (λz=>z.1) i0 Mm (Cy hs) (qj hk).1 (qj hk).2 λi hi=>hb i.1 i.2 hi
theorem LN{K:dc}{sl:List Nat}{I:Nat×β->dc}{J:Nat×β->List aF}{p:Nat×β->Prop}{m:Nat}{y0:β}(ks:List Nat)(y:β)(hp:p (m,y))(hs:L4 F (I (m,y))=some (I (m,y)))(hl:DI F sl=some K)(hk:Fo H ks=some (J (m,y))):
  WQ N c D (Lq N c D Q sl K I J p (λz=>z.1) (m+1,y0)) .normal F H:=Qi (m,y) (Nat.lt_succ_self _) hp (Cy hs) (vI hl) (qj hk).1 (qj hk).2
theorem CU{x y:Code}(sl:List Nat){K:dc}(hK:DI F sl=some K)(I:α->dc)(J:α->List aF)(p:α->Prop)(h1:WP P N c D x (TP N c D Q sl K I J p) F H)(h2:∀i,p i->WP P N c D y Q (I i++K) (J i)):WP P N c D (.seq x y) Q F H:=Tv sl (vI hK) I J p h1 h2
theorem CE{K:dc}{sl:List Nat}{I:α->dc}{J:α->List aF}{p:α->Prop}(ks:List Nat)(i:α)(hp:p i)(hs:L4 F (I i)=some (I i))(hl:DI F sl=some K)(hk:Fo H ks=some (J i)):WQ N c D (TP N c D Q sl K I J p) .normal F H:=Tp i hp (Cy hs) (vI hl) (qj hk).1 (qj hk).2
end
def sn(T:Tb)(N:Nat)(ops:Array Oper):Nat->List Fl->dc->Option (List Fl×dc)
 |0,l,F=>some (l,F)
 |n+1,l,F=>match l with
  |(i,ks)::r=>match ops[i]? with
   |some ⟨some d,op,_,_,_,none⟩=>match sv T (oz F ks) op with
    |some v=>bif Nat.blt d N then sn T N ops n r ((d,v)::F)else none
    |none=>none
   |_ =>none
  |[]=>none
def sr(T:Tb)(ops:Array Oper)(F:dc):Nat->List Fl->Option (List Value×List Fl)
 |0,l=>some ([],l)
 |n+1,l=>match l with
  |(i,ks)::r=>match ops[i]? with
   |some ⟨some _,op,_,_,_,none⟩=>match sv T (oz F ks) op with
    |some v=>match sr T ops F n r with
     |some (vs,l')=>some (v::vs,l')
     |none=>none
    |none=>none
   |_ =>none
  |[]=>none
def sk(ops:Array Oper)(F:dc):Nat->List Fl->Option (List Value)
 |0,_ =>some []
 |n+1,l=>match l with
  |(i,_)::r=>match ops[i]? with
   |some ⟨some d,_,_,_,_,none⟩=>match lk F d with
    |some v=>match sk ops F n r with
     |some vs=>some (v::vs)
     |none=>none
    |none=>none
   |_ =>none
  |[]=>none
section
variable {P:Program} {T:Tb} [hT:Is P T] {N:Nat} {c:Cx} {D:List Deferred} {ops:Array Oper} {Q:Exit->Act->World->Prop} {F F':dc} {H:List aF} {l l':List Fl}
theorem NS{K:dc->Prop}(n:Nat)(h:sn T N ops n l F=some (l',F'))(k:oo P N c ops H l' F' K):oo P N c ops H l F K:=by
 induction n generalizing l F with
 |zero=>cases h;exact k
 |succ n ih=>
  simp only[sn]at h;split at h
  ·rename_i i ks r
   split at h
   ·rename_i d op _ _ _ ho
    split at h
    ·rename_i v hv
     cases hd:Nat.blt d N with
     |false=>rw[hd]at h;cases h
     |true=>rw[hd]at h;exact yE ho hd (QB rfl (N7 hv)) (ih h)
    ·cases h
   ·cases h
  ·cases h
theorem RSn{vs:List Value}(n:Nat)(h:sr T ops F n l=some (vs,l'))(h2:sk ops F n l=some vs)(k:z7 P N c ops F H l'):z7 P N c ops F H l:=by
 induction n generalizing l vs with
 |zero=>simp only[sr,Option.some.injEq,Prod.mk.injEq]at h;rw[h.2];exact k
 |succ n ih=>
  simp only[sr]at h;simp only[sk]at h2;split at h
  ·rename_i i ks r
   split at h
   ·rename_i d op _ _ _ ho
    dsimp only at h2;rw[ho]at h2;dsimp only at h2;split at h
    ·rename_i v hv
     split at h
     ·rename_i us l2 h3
      simp only[Option.some.injEq,Prod.mk.injEq]at h;obtain⟨rfl,rfl⟩:=h;split at h2
      ·rename_i u hu
       split at h2
       ·rename_i ws h4
        simp only[Option.some.injEq,List.cons.injEq]at h2;obtain⟨rfl,rfl⟩:=h2;exact FQ ho hu (QB rfl (N7 hv)) (ih h3 h4)
       ·cases h2
      ·cases h2
     ·cases h
    ·cases h
   ·cases h
  ·cases h
theorem RE{vs:List Value}(n:Nat)(h:sr T ops F n l=some (vs,[]))(h2:sk ops F n l=some vs):z7 P N c ops F H l:=RSn n h h2 trivial
end
section
variable {P:Program} {N:Nat} {c:Cx} {D:List Deferred} {ops:Array Oper} {Q:Exit->Act->World->Prop} {F:dc} {H:List aF} {i:Nat} {ks:List Nat} {q:List Fl} {d:Nat} {v v':Value} {op:Op} {ty:TypeId} {ps:String} {af:Array Edge} {g:Option (Nat×Bool)} {α:Type}
theorem NV{K:dc->Prop}(ho:ops[i]? =some ⟨some d,op,ty,ps,af,none⟩)(hN:Nat.blt d N=true)(hv:VS P N c ⟨some d,op,ty,ps,af,none⟩ (oz F ks) H v)(hr:oo P N c ops H q ((d,v)::F) K):oo P N c ops H ((i,ks)::q) F K:=yE ho hN (QB rfl hv) hr
theorem NC{K:dc->Prop}{args:List Operand}{ats:Array TypeId}{f:Nat}{vs:List Value}{pre:World->Prop}(ho:ops[i]? =some ⟨some d, .call ⟨.value (.func f),args.toArray,ats⟩,ty,ps,af,none⟩)(hN:Nat.blt d N=true)(hc:UM P f vs pre v)(ha:Ah (oz F ks) args=some vs)[k:Kn c H pre](hr:oo P N c ops H q ((d,v)::F) K):oo P N c ops H ((i,ks)::q) F K:=yE ho hN (QB rfl (GV hc ha k.ok)) hr
theorem RO(ho:ops[i]? =some ⟨some d,op,ty,ps,af,none⟩)(hl:lk F d=some v)(hv:VS P N c ⟨some d,op,ty,ps,af,none⟩ (oz F ks) H v')(e:v'=v)(hr:z7 P N c ops F H q):z7 P N c ops F H ((i,ks)::q):=FQ ho hl (QB rfl (J5 hv e)) hr
theorem T0{new:List Fl}{t:Tr}(h:oo P N c ops H new F λF'=>CL P N c D ops Q t F' H):CL P N c D ops Q (.L6 [] new t) F H:=⟨trivial,h⟩
theorem F0{new:List Fl}(h:oo P N c ops H new F λF'=>WQ N c D Q .normal F' H):CL P N c D ops Q (.fin [] new) F H:=⟨trivial,h⟩
theorem F00(h:WQ N c D Q .normal F H):CL P N c D ops Q (.fin [] []) F H:=⟨trivial,h⟩
theorem X1{s:Nat}{here:Tr}{p:α->Prop}{fv:α->Value}{fH:α->List aF}(ho:ops[s]? =some ⟨some d,op,ty,ps,af,none⟩)(hN:Nat.blt d N=true)(hv:RX P N c ⟨some d,op,ty,ps,af,none⟩ (oz F ks) H p fv fH)(h:∀x,p x->CL P N c D ops Q here ((d,fv x)::F) (fH x)):CL P N c D ops Q (.alt s ks here .no) F H:=QE ho hN (ab9 rfl hv) h trivial
theorem X0{s:Nat}{here:Tr}{fH:List aF}(ho:ops[s]? =some ⟨none,op,ty,ps,af,none⟩)(hv:RX (α:=Unit) P N c ⟨none,op,ty,ps,af,none⟩ (oz F ks) H (λ_ =>True) (λ_ =>undef) (λ_ =>fH))(h:CL P N c D ops Q here F fH):CL P N c D ops Q (.alt s ks here .no) F H:=QG ho (ab9 rfl hv) (λ_ _ =>h) trivial
theorem GB{rest:List Oper}{j k:Nat}{want b:Bool}(hd:(ops[j]?).bind (·.dst)=some k)(hl:lk F k=some (.bool b))(hN:Nat.blt d N=true)(hv:(b==want)=true->VS P N c ⟨some d,op,ty,ps,af,some (j,want)⟩ F H v)
  (h:WL P N c D ops Q rest ((d,bif (b==want)then v else undef)::F) H):WL P N c D ops Q (⟨some d,op,ty,ps,af,some (j,want)⟩::rest) F H:=agy (QZ hd hl) hN hv h
end
theorem fo{α:Type}{P:Program}{f:Nat}{fn:Func}{code:Code}{N:Nat}{args:Vs}{K:World->Prop}[S:v8 K]{p:α->Prop}{fv:α->Value}{fH:α->List aF}(hf:P.funcs[f]? =some fn)(hname:(fn.name== "runtime.NumGoroutine")=false)(hb:fn.body=some code)(hN:fn.ntmps=N)(ha:Nat.ble args.length N=true)
  (h:∀c:Cx,(∀R,Yq c R K)->c.ro=none->c.bs=[]->K c.w0->WP P N c [] code (Post P c fn p fv fH) (sy 0 args) []):Fn P f args K [] p fv fH:=
 qp hf hname hb hN ha λc jZ hpre hro=>h c (Sv jZ hpre) hro jZ hpre
end Go.Bw
namespace Go.Bw
open Go Go.RowKit
abbrev sH(T:Nat)(e:Int):List PanicEntry:=[{v:= .iface T (.int .i64 e),recovered:=false}]
def tc{α:Type}(b:Bool)(f:α)(k:Option α):Option α:=bif b then k else some f
def tr{α β:Type}(x:Option (Except Int α))(f:Int->β)(k:α->Option β):Option β:=match x with
 |some (.ok a)=>k a
 |some (.error e)=>some (f e)
 |none=>none
end Go.Bw
namespace Go.Bw
open Go Go.RowKit
section
variable {α:Type} {P:Program} {N:Nat} {c:Cx} {F:dc} {H:List aF} {D:List Deferred} {fn:Func} {p:α->Prop} {fv:α->Value} {fH:α->List aF} {ops:Array Oper} {d:Option Tmp} {ty:TypeId} {ps:String} {af:Array Edge}
theorem Qv{A:World->Prop}{x:Operand}{t b off:Nat}{v:Value}(hA:∀w,A w->w.cell? ⟨b,off,none⟩=some v)(hx:ev F x=some (cE b off))[nG P t][hk:Kn c H A]:VS P N c ⟨d, .load t x,ty,ps,af,none⟩ F H v:=
 aG (by simp) λa w hf hs hp=>by have:=iz (P:=P) (t:=t) (a:=⟨b,off,none⟩) (hA w (hk.ok w hs hp));simp[execOp,aH hf hx,Instr.loadAt,Instr.sureAddr,this]
theorem J6{A:World->Prop}{q:IntKind}{b:Nat}{x y:Operand}{t kt e:TypeId}{k:Int}(z v:Value)(bb:Bool)(hA:∀w,A w->∃l,UK b q (λv:Value=>v) l w/\kU l k z=v/\m9 l k=bb)[ht:Cm P t kt e q][hz:Ka P e z](hx:ev F x=some (.map (some b)))(hy:ev F y=some (.int q k))[hk:Kn c H A]:
  VS P N c ⟨d, .lookup t x y true,ty,ps,af,none⟩ F H (.tuple #[v, .bool bb]):=by
 haveI hz':Ka P e ((λv:Value=>v) z):=hz;refine aG (by simp) λa w hf hs hp=>?_;obtain⟨l,h0,h1,h2⟩:=hA w (hk.ok w hs hp);subst h1 h2;simp[execOp,aH hf hx,aH hf hy,mq w ht hz' h0,Result.andThen]
end
end Go.Bw
namespace Go.Rw
open Go Go.Bw Go.RowKit
variable {G:Sg} {P:Program} {tt:TT P G} {J:World->Prop} {ρ:aX} {a:Act} {w:World} {d:Option Tmp} {ty:TypeId} {ps:String} {af:Array Edge}
 {N:Nat} {c:Cx} {H:List aF} {D:List Deferred} {C:CC G} {S:AS G}
theorem Oi{T:Nat}{g0:IntKind×List (Int×Nat)}(hgt:G.gt=some g0)(h1:oE P T=true):SK P ⟨d, .load T (.global 0),ty,ps,af,none⟩ C S {S with O:=(S.nx, .gm)::S.O,nx:=S.nx+1} (.mp S.nx):=by
 intro c N ρ J HK X a w next Q h hk
 obtain⟨HS,r1,hs0,hm⟩:=h.st;obtain⟨mb,hmb⟩:=h.kn.gl g0 hgt;haveI:nG P T:=⟨h1⟩;haveI:Kn c (HS++(HK++X)) J:=⟨λw' _ hp=>h.kn.to w' λr hr=>⟨hp.holds r (by simp[hr]),λb hb=>(hp.own r (by simp[hr]) b hb).2⟩⟩;refine(Qv (P:=P) (N:=N) (c:=c) (F:=jS a) (H:=HS++(HK++X)) (A:=J) (v:= .map (some mb)) (b:=0) (off:=0) (λw hw=>(hmb w hw).1) rfl) a.defers a w next Q hs0 λw' hs=>?_
 have wW:bq c.bs c.w0.heap.size (.row (.slice none 0 0) 0 1 0 []::(HS++(HK++X))) w':=wI (hs0.hp.ext hs);refine hk (ρ.set S.nx (.map (some mb))) J [] w' _ (aX.g6 _ _ _) (λ_ h=>h) ⟨_,aX.eP _ _ _,rfl,rfl,rfl⟩ (h.new r1 (h.si.s.ext hs) wW ⟨⟨mb,g0,aX.eP _ _ _,hgt,hmb⟩,rfl⟩)
def BX(P:Program)(T:Nat)(q:IntKind):Bool:=match P.underlying T with
 |some (.map k e)=>(match P.underlying k with
  |some (.int q')=>Nat.beq (Ty.bF.ik q) (Ty.bF.ik q')
  |_ =>false)&&(match(P.info? e).bind (·.zero)with
  |some .nilFunc=>true
  |_ =>false)
 |_ =>false
def F1:List (Int×Nat)->Int->Option Nat
 |[],_ =>none
 |(a,f)::r,k=>bif k==a then some f else F1 r k
theorem RA{k:Int}:∀{l:List (Int×Nat)},(∀f,F1 l k=some f->kU (l.map BU) k .nilFunc= .func (.func f) #[] #[]/\m9 (l.map BU) k=true)/\(F1 l k=none->kU (l.map BU) k .nilFunc= .nilFunc/\m9 (l.map BU) k=false):=by
 intro l
 induction l with
 |nil=>exact⟨λf h=>by(cases h),λ_ =>⟨rfl,rfl⟩⟩
 |cons p r ih=>
  obtain⟨a,f0⟩:=p;simp only[F1,List.map_cons];cases hb:(k==a)with
  |true=>
   have e:dW (BU (a,f0)::r.map BU) k=some (0, .func (.func f0) #[] #[]):=by show(bif k==a then _ else _)=_;rw[hb];rfl
   refine⟨λf h=>?_,λh=>by cases h⟩;cases h;simp only[kU,m9,e];exact⟨rfl,rfl⟩
  |false=>
   have e:dW (BU (a,f0)::r.map BU) k=(dW (r.map BU) k).map λq=>(q.1+1,q.2):=by show(bif k==a then _ else _)=_;rw[hb];rfl
   have e1:kU (BU (a,f0)::r.map BU) k .nilFunc=kU (r.map BU) k .nilFunc:=by unfold kU;rw[e];cases dW (r.map BU) k<;>rfl
   have e2:m9 (BU (a,f0)::r.map BU) k=m9 (r.map BU) k:=by unfold m9;rw[e];cases dW (r.map BU) k<;>rfl
   rw[e1,e2];exact ih
def Va:Option Nat->AV G
 |some f=> .gS (.cons (.fn (.func f) .nil .nil) (.cons (.kb true) .nil))
 |none=> .gS (.cons .jX (.cons (.kb false) .nil))
theorem L7{T r:Nat}{x y:Operand}{q:IntKind}{k:Int}{b:Bool}{g0:IntKind×List (Int×Nat)}(hgt:G.gt=some g0)(hx:ei C S [] x=some (.mp r))(ho:OU C S r=some .gm)(hy:jl (ei C S [] y)=some (q,k,b))(hq:Nat.beq (Ty.bF.ik q) (Ty.bF.ik g0.1)=true)(hc:BX P T g0.1=true):
  SK P ⟨d, .lookup T x y true,ty,ps,af,none⟩ C S S (Va (F1 g0.2 k)):=by
 intro c N ρ J HK X a w next Q h hk
 obtain⟨HS,r1,hs0,hm⟩:=h.st;have hE:=bX h (ch:=[]) (by simp);obtain⟨xw,hres,⟨mb,g1,m1,m2,m3⟩,_⟩:=hm.ob r _ ho;rw[hgt]at m2;cases m2;obtain rfl:=DK hq;have hxv:a.eval x= .map (some mb):=by obtain⟨u,u1,u2,_⟩:=hE.ok _ _ hx;rw[m1]at u1;cases u1;exact(List.cons.inj u2).1
 have qG:=hE.ev _ _ hx;rw[hxv]at qG;have fl:=gN hE hy;haveI:Kn c (HS++(HK++X)) J:=⟨λw' _ hp=>h.kn.to w' λr hr=>⟨hp.holds r (by simp[hr]),λb hb=>(hp.own r (by simp[hr]) b hb).2⟩⟩;unfold BX at hc;split at hc
 ·rename_i kt e hu
  simp only[aiC]at hc;obtain⟨Ps,Q7⟩:=hc;split at Ps
  ·rename_i q' hk'
   obtain rfl:=DK Ps;split at Q7
   ·rename_i hz
    haveI:Cm P T kt e g0.1:=⟨hu,hk'⟩;haveI:Ka P e .nilFunc:=⟨hz⟩;obtain⟨t1,t2⟩:=RA (k:=k) (l:=g0.2);have hv:rv J ρ (Va (G:=G) (F1 g0.2 k)) (.tuple #[kU (g0.2.map BU) k .nilFunc, .bool (m9 (g0.2.map BU) k)]):=by
     cases hf:F1 g0.2 k with
     |some f=>obtain⟨e1,e2⟩:=t1 f hf;rw[e1,e2];exact⟨[.func (.func f) #[] #[], .bool true],rfl,_,_,rfl,⟨[],[],rfl,rfl,rfl⟩,_,_,rfl,rfl,rfl⟩
     |none=>obtain⟨e1,e2⟩:=t2 hf;rw[e1,e2];exact⟨[.nilFunc, .bool false],rfl,_,_,rfl,rfl,_,_,rfl,rfl,rfl⟩
    refine(J6 (P:=P) (N:=N) (c:=c) (F:=jS a) (H:=HS++(HK++X)) (A:=J) (q:=g0.1) (b:=mb) .nilFunc _ _ (λw hw=>by
     obtain⟨l,l1,l2⟩:=(m3 w hw).2;exact⟨l,l1,(l2 k).1,(l2 k).2⟩) qG fl) a.defers a w next Q hs0 λw' hs=>?_
    exact hk ρ J [] w' _ (aX.cL _ _) (λ_ h=>h) hv (by
     obtain⟨XM,p1,p3⟩:=h.hp;exact⟨h.tm,h.df,h.si.ext hs,h.fs,h.fc,h.kc,⟨XM,p1,p3.ext hs⟩,h.kn,h.fr⟩)
   ·cases Q7
  ·cases Ps
 ·cases hc
def JY(P:Program)(T:Nat):Bool:=match P.underlying T with
 |some .string=>true
 |_ =>false
def OD(P:Program)(E:Operand->Option (AV G))(T:Nat)(x y:Operand):PV G:=match x with
 | .const (.string s)=>match jl (E y)with
  |some (_,i,_)=>bif decide (s=Lib.pop8tab)&&JY P T then some ([cF i 256], .int .u8 (Lib.pop8 i))else none
  |none=>none
 |_ =>none
theorem OC{ob:Nat->Option (Ob G)}{E:Operand->Option (AV G)}{g:Option (Nat×Bool)}(hm:Ke (G:=G) J ρ N c D H ob a w)(hE:wA J ρ a E){T:Nat}{x y:Operand}{v:AV G}{gs:List Bool}(h:OD P E T x y=some (gs,v))(hg:∀b∈gs,b=true):yz P c J ρ ⟨d, .index T x y,ty,ps,af,g⟩ a w v:=by
 unfold OD at h;split at h
 ·rename_i s
  split at h
  ·rename_i k i q hl
   cases hb:(decide (s=Lib.pop8tab)&&JY P T)with
   |false=>rw[hb]at h;cases h
   |true=>
    rw[hb]at h;cases h;simp only[aiC,decide_eq_true_eq]at hb;obtain⟨h1,h2⟩:=bI (hg (cF i 256) (by simp));have fl:=gN hE hl;have ht:P.underlying T=some .string:=by
     have:=hb.2;unfold JY at this;split at this
     ·assumption
     ·cases this
    haveI:ab7 P T:=⟨ht⟩;exact⟨_,rfl,(Tw hb.1 fl h1 h2).vk hm.st⟩
  ·cases h
 ·cases h
end Go.Rw
namespace Go.Bw
open Go
theorem aaq{x:Int}(h1: -9223372036854775808<=x)(h2:x<=9223372036854775807):wr .i64 x=x:=IntWalk.i64_in x ⟨h1,h2⟩
end Go.Bw
namespace Go.Bw
open Go Go.RowKit
section
variable {α:Type} {P:Program} {N:Nat} {c:Cx} {F:dc} {H:List aF} {d:Option Tmp} {ty:TypeId} {ps:String} {af:Array Edge} {g:Option (Nat×Bool)}
theorem Oq(L:cj α)[bf L](z0:α){z:Value}(he:L.enc z0=[z])(m:Nat):cR L (List.replicate m z0)=List.replicate m z:=AY L z0 he m
theorem XB{x y:Operand}{t e m:Nat}{k k':IntKind}{z:Value}{L:cj α}[bf L](z0:α)[ht:pC P t e 1][hz:gj P e [z]](he:L.enc z0=[z])(hx:ev F x=some (.int k (m:Int)))(hy:ev F y=some (.int k' (m:Int)))(bytes:Nat)(hb:(P.info? e).map (·.bytes)=some bytes)(hm:m*bytes<=140737488355328)(hm2:m<=140737488355328):
  RX P N c ⟨d, .makeSlice t x y,ty,ps,af,g⟩ F H (λ_ =>True) (λb=> .slice (some ⟨b,0,none⟩) m m) (λb=>mY (.slice (some ⟨b,0,none⟩) m m) e 1 L (List.replicate m z0)::H):=λD a w next Q hst hk=>by
 obtain⟨i,h1,h2,h3⟩:=pC.get ht.ok;obtain⟨i',zz,h4,h5,h6⟩:=gj.get hz.ok;rw[h2]at h4;cases h4;have hby:i.bytes=bytes:=by simpa[h2]using hb
 have hzz:zz.cells= #[z]:=by apply Array.ext';rw[h6]
 refine cJ (by simp) (v:= .slice (some ⟨w.heap.size,0,none⟩) m m) (w':=w.alloc (.cells (List.replicate m z).toArray e)) ?_ (hk w.heap.size _ trivial (hst.si.ext (aO.alloc _ _)) ?_)
 ·have w1:IntKind.i64.wrap (m:Int)=m:=aaq (by omega) (by omega)
  have hcells:(Array.range (m*1)).map (λq=>(#[z]:Array Value)[q%(#[z]:Array Value).size]!)=(List.replicate m z).toArray:=by
   apply Array.ext
   ·simp
   ·intro j h1 h2;simp[Nat.mod_one]
  have c1:¬((m:Int)<0):=by omega
  have c2:¬(((bytes:Int)*m)>2^48):=by
   have:(bytes:Int)*m=((m*bytes:Nat):Int):=by push_cast;rw[Int.mul_comm]
   rw[this];omega
  have c3:¬(m*bytes>roomBytes):=by
   have:roomBytes=140737488355328:=by rfl
   omega
  have a1:∀(k:IntKind) (w:World),(asInt (.int k (m:Int))).run P w= .ok (m:Int) w:=λk w=>by simp[asInt,asIntOf,Sem.run]
  simp only[execOp,Instr.makeSlice,Sem.run_bind,run_underlying h1,Result.andThen_ok,aH hst.fr hx,aH hst.fr hy,a1,Sem.run_pure,typeInfo,sizeOf,w1];have c4:¬(281474976710656<(bytes:Int)*m):=by simpa using c2
  have SJ:Array.map (λx=>([z]:List Value)[x%1]?.getD default) (Array.range m)=Array.replicate m z:=by
   apply Array.ext
   ·simp
   ·intro j h1 h2;simp[Nat.mod_one]
  by_cases hm0:m=0
  ·subst hm0
   simp[h2,h3,hby,w1,askRoom,c3,newRow,newObj,Sem.run];congr 2;apply Array.ext
   ·simp
   ·intro j h1 h2;simp at h2
  ·simp[h2,h3,hby,w1,askRoom,c3,hm0,zeroValue,typeInfo,h5,hzz,newRow,newObj,Sem.run]
   rw[aiA (by rintro((h|h)|h);exact c1 h;exact c4 h;exact c1 h),SJ]
 ·have:=hst.hp.box e (List.replicate m z) hst.si.size
  refine this.zk (k:=0) (r:= .cells w.heap.size e (List.replicate m z)) rfl (λw' hw=>?_) (λb hb=>by simpa[aF.bT,Value.ownBlock]using hb);have hb:w'.heap[w.heap.size]? =some (.cells (List.replicate m z).toArray e (0,0)):=hw;have e1:=Oq L z0 he m;refine⟨by rw[e1];simp, .inr ⟨w.heap.size,0,m,_,by simp,hb,by simp,by unfold maxLen;omega,by simp,?_⟩⟩;rw[e1];simp
theorem Je(L:cj α)[bf L](hn:L.n=1)(xs:List α)(m:Nat):cR L (xs.take m)=(cR L xs).take m:=by
 by_cases h:m<=xs.length
 ·have:=Fj L xs (m:=m) hn h
  rw[Nat.mul_one]at this;exact this.symm
 ·rw[List.take_of_length_le (by omega),List.take_of_length_le (by rw[jf,hn];omega)]
theorem Jf(L:cj α)[bf L](hn:L.n=1)(xs:List α)(m:Nat):cR L (xs.drop m)=(cR L xs).drop m:=by
 have e:cR L xs=cR L (xs.take m)++cR L (xs.drop m):=by rw[← n7,List.take_append_drop]
 by_cases h:m<=xs.length
 ·have hl:(cR L (xs.take m)).length=m:=by rw[jf,hn,List.length_take];omega
  have e2:=congrArg (List.drop m) e;rw[List.drop_left' hl]at e2;exact e2.symm
 ·rw[List.drop_of_length_le (by omega),List.drop_of_length_le (by rw[jf,hn];omega)];rfl
theorem QN{x y:Operand}{t t' e:TypeId}{v u:Value}{L:cj α}[bf L]{xs ys:List α}{A:World->Prop}{f:aF->List aF}(hf:Fz A u L ys)(hn:L.n=1)(ht:BV P t e 1=true)(hv:∃b o cap,v= .slice (some ⟨b,o,none⟩) xs.length cap)(hx:ev F x=some v)(hy:ev F y=some u)[hr:qC H v e 1 xs.length (cR L xs) f][hk:Kn c H A]:
  RX (α:=Unit) P N c ⟨d, .call ⟨.builtin .copy, #[x,y], #[t,t']⟩,ty,ps,af,g⟩ F H (λ_ =>True) (λ_ => .int .i64 (min ys.length xs.length:Nat)) (λ_ =>f (mY v e 1 L (ys.take xs.length++xs.drop ys.length))):=λD a w next Q hst hk2=>by
 obtain⟨inf,e1,e2,e3⟩:=pC.get ht;obtain⟨k,k1,k2⟩:=hr.ok;obtain⟨b,o,cap,rfl⟩:=hv;have hm:aF.row (.slice (some ⟨b,o,none⟩) xs.length cap) e 1 xs.length (cR L xs)∈H:=List.mem_of_getElem? k1;obtain⟨r1,r2⟩:=hst.hp.holds _ hm;rcases r2 with⟨h,_⟩|⟨b',o',cap',cur,h,hb,hle,II,hsz,htk⟩
 ·cases h
 cases h;have hro:=hf.ro w (hk.ok w hst.si hst.hp);rw[hn]at hro;have hX:(cR L xs).length=xs.length:=by rw[jf,hn,Nat.mul_one]
 have hY:(cR L ys).length=ys.length:=by rw[jf,hn,Nat.mul_one]
 let cs:=(cR L ys).take xs.length;have qH:cs.length=min ys.length xs.length:=by simp only[cs,List.length_take,hY];omega
 have h1:∀v∈cs,v.oneCell'=true:=λv hv=>Hq L ys v (List.take_subset _ _ hv);have hcs:o+cap<=cur.size:=by omega
 let Z:=(cur.toList.take o++cs++cur.toList.drop (o+cs.length)).toArray;have hrun:(Builtin.copy_ #[t,t'] ty #[.slice (some ⟨b,o,none⟩) xs.length cap,u]).run P w= .ok (goInt cs.length) (w.setRow b Z):=by
  rcases hro.2 with⟨⟨a0,cp,rfl⟩,h0⟩|⟨gb,off,cp,rfl,_,_,hrd⟩
  ·have hy0:ys=[]:=List.length_eq_zero_iff.1 h0
   have hc0:cs=[]:=List.length_eq_zero_iff.1 (by rw[qH,h0];simp);cases a0 with
   |some a0=>exact run_copy_row (P:=P) w t t' ty e b o xs.length cap a0 0 cp cur e cs e1 (by simp[e2,e3]) hb (by rw[qH,h0]) (λj v hj=>by rw[hc0]at hj;cases hj) (by rw[hc0];simp;omega) h1
   |none=>have Gu:=run_storeCells_at P b o e cs 0 cur w hb (by rw[hc0];simp;omega) h1;have hi:inf.size=1:=e3;simp only[Z];rw[hc0]at Gu ⊢;simp[Builtin.copy_,run_underlying e1,Builtin.lenOf,Builtin.firstCells,sizeOf,typeInfo,e2,hi]at Gu ⊢;simp[Gu]
  ·exact run_copy_row (P:=P) w t t' ty e b o xs.length cap ⟨gb,off,none⟩ ys.length cp cur e cs e1 (by simp[e2,e3]) hb (by rw[qH]) (λj v hj=>by
    simp only[cs,List.getElem?_take]at hj;split at hj
    ·rw[Addr.add_lit];exact hrd j v hj
    ·cases hj) (by rw[qH];omega) h1
 have fN:aO [b] w (w.setRow b Z):=⟨rfl,rfl,rfl,by simp,λk _ hk=>setRow_other w b k _ (by simpa using hk)⟩;have hh:=setRow_heap w b cur Z e (0,0) hb;refine cJ (by simp) (v:= .int .i64 (min ys.length xs.length:Nat)) (w':=w.setRow b Z) ?_ (hk2 () _ trivial (hst.si.store hst.hp hm (by simp[aF.bT,Value.ownBlock]) fN) ?_)
 ·rw[qH]at hrun
  simp[execOp,resolve,invoke,builtin,aH hst.fr hx,aH hst.fr hy,hrun];rfl
 ·rw[k2]
  have e4:cR L (ys.take xs.length++xs.drop ys.length)=cs++(cR L xs).drop ys.length:=by rw[n7,Je L hn,Jf L hn]
  have e5:(ys.take xs.length++xs.drop ys.length).length=xs.length:=by simp only[List.length_append,List.length_take,List.length_drop];omega
  refine hst.hp.set k1 fN.size (λj hj hne=>fN.block j hj (by simpa[aF.bT,Value.ownBlock]using hne)) ?_ hst.si.size (λb' hb'=>?_)
  ·show iw _ e 1 _ _ _
   rw[e4,e5];refine⟨by simp only[List.length_append,List.length_drop,qH,hX];omega, .inr ⟨b,o,cap,Z,rfl,hh,hle,II,?_,?_⟩⟩
   ·simp only[Z,List.size_toArray,List.length_append,List.length_take,List.length_drop,Array.length_toList,qH];omega
   ·have e7:=rh (cs:=cur.toList) (vs:=cs) (o:=o) (off:=0) (k:=xs.length*1) (by rw[qH];omega) (by have h8:cur.toList.length=cur.size:=Array.length_toList;omega)
    rw[Nat.add_zero,htk]at e7;refine e7.trans ?_;simp only[bA,List.take_zero,List.nil_append,Nat.zero_add,qH];congr 1;by_cases hq:ys.length<=xs.length
    ·rw[Nat.min_eq_left hq]
    ·rw[Nat.min_eq_right (by omega),List.drop_of_length_le (by omega),List.drop_of_length_le (by omega)]
  ·have e6:b'=b:=by simpa[aF.bT,Value.ownBlock]using hb'
   subst e6;exact⟨.inl (by simp[aF.bT,Value.ownBlock]),Nat.lt_of_lt_of_le (aiH.1 hb).1 fN.size⟩
end
end Go.Bw
namespace Go.Rw
open Go Go.Bw Go.RowKit
variable {G:Sg} {P:Program} {tt:TT P G} {zt:ZT P G} {J:World->Prop} {ρ:aX} {a:Act} {w:World} {d:Option Tmp} {ty:TypeId} {ps:String} {af:Array Edge} {g:Option (Nat×Bool)}
 {N:Nat} {c:Cx} {H HK X:List aF} {C:CC G} {S:AS G} {D:List Deferred} {E:Operand->Option (AV G)}
def zU(P:Program)(e:Nat)(k:IntKind):Bool:=match(P.info? e).bind (·.zero)with
 |some (.int k' n)=>Nat.beq (Ty.bF.ik k') (Ty.bF.ik k)&&n==0
 |_ =>false
theorem Vc{T e bt s:Nat}{k ki:IntKind}{i z0:Int}{q:Bool}(hT:tt.te.find T=some (.sl e 1 bt))(hz:zt.z.find e=some (.int k z0))(hx:jl (ei C S [] (.tmp s))=some (ki,i,q))(hg:decide (0<=i)=true)(ha:gR 0 i.toNat bt=true)(hbt:0<bt):
  SK P ⟨d, .makeSlice T (.tmp s) (.tmp s),ty,ps,af,g⟩ C S {S with O:=(S.nx, .row e 1 (.int k) (List.replicate i.toNat z0))::S.O,nx:=S.nx+1} (.row S.nx):=by
 intro c N ρ J HK X a w next Q h hk
 obtain⟨HS,h1,hs0,hm⟩:=h.st;have hE:=bX h (ch:=[]) (by simp);have fx:=gN hE hx;obtain⟨u,z1,z2⟩:=zt.ok e _ hz J ρ;have z2:[u]=[Value.int k z0]:=z2;cases z2;haveI:gj P e [Value.int k z0]:=⟨z1⟩;haveI:=(tt.sl hT).1;obtain⟨m,rfl⟩:∃m:Nat,i=m:=⟨i.toNat,by have:=of_decide_eq_true hg;omega⟩;obtain⟨g1,g2⟩:=nC ha;have hb:(P.info? e).map (·.bytes)=some bt:=by obtain⟨i,z,e1,e2,e3,e4,e5,e6,e7⟩:=G9.get (tt.sl hT).2.ok;rw[e2];simp[e5]
 simp only[aiE,Nat.zero_add]at g1 g2 ⊢;refine XB (P:=P) (N:=N) (c:=c) (F:=jS a) (H:=HS++(HK++X)) (m:=m) (L:=LI k) z0 rfl fx fx bt hb g1 (by have:=Nat.le_mul_of_pos_right m hbt;omega) a.defers a w next Q hs0 λb w' _ hs hp=>?_
 obtain⟨ρ',q1,q2,q3⟩:=wG (t:= .int k) (zs:=List.replicate m z0) h h1 hs hp ⟨some ⟨b,0,none⟩,m,congrArg (λn=>Value.slice (some ⟨b,0,none⟩) n m) (List.length_replicate (n:=m) (a:=z0)).symm⟩ (show(LA (LI k) _).ef J _ _ from bf.iff.2 (eu (LI k) (List.replicate m z0))) rfl;exact hk ρ' J [] w' _ q1 (λ_ h=>h) q2 q3
theorem Td{t:Ty}{l:LS G}{ys:List (t.T G)}(h:Ea l.xs=some ys):l=⟨t,ys⟩:=by obtain⟨t',l'⟩:=l;obtain⟨rfl,rfl⟩:=K8 h;rfl
theorem F5{w:World}{t t' ty e:Nat}{inf:TypeInfo}{u:Value}{n:Nat}(e1:P.underlying t=some (.slice e))(e2:P.info? e=some inf)(hu:pJ u n):(Builtin.copy_ #[t,t'] ty #[.slice none 0 0,u]).run P w= .ok (.int .i64 0) w:=by
 obtain⟨a,cp,rfl⟩:=hu;cases a<;>simp[Builtin.copy_,run_underlying e1,Builtin.lenOf,Builtin.firstCells,sizeOf,typeInfo,e2,loadCells,Sem.run]
 all_goals rfl
theorem RD{T T' e bt r:Nat}{x y:Operand}{vy:AV G}{k:IntKind}{xs ys:List (Ty.T G (.int k))}{l:LS G}(hT:tt.te.find T=some (.sl e 1 bt))(hx:ei C S [] x=some (.row r))(hy:ei C S [] y=some vy)(ho:bY S.O r=some (.row e 1 (.int k) xs))(hl:Ue C S vy=some l)(hc:Ea (t:= .int k) l.xs=some ys):
  SK P ⟨d, .call ⟨.builtin .copy, #[x,y], #[T,T']⟩,ty,ps,af,g⟩ C S {S with O:=m0 S.O r (.row e 1 (.int k) (ys.take xs.length++xs.drop ys.length))} (.int .i64 ((min ys.length xs.length:Nat):Int)):=by
 intro c N ρ J HK X a w next Q h hk
 obtain⟨HS,h1,hs0,hm⟩:=h.st;have hE:=bX h (ch:=[]) (by simp);obtain⟨kk,x0,k1,⟨vv,ws,m1,rfl,m3,m4,m5⟩,k3⟩:=h1.set ho;obtain rfl:=Td hc;obtain⟨news,n1,n2,n3⟩:=Js hm hl (hE.ok _ _ hy);have Pf:=o9 (hE.ok _ _ hx) m1;have qG:=hE.ev _ _ hx;rw[Pf]at qG;have V0:ws=cR (LI k) xs:=(bf.iff.1 (show(LA (LI k) xs.length).ef J ws _ from m4)).trans (eu (LI k) xs).symm;have hnews:news=cR (LI k) ys:=(bf.iff.1 (show(LA (LI k) ys.length).ef J news _ from n2)).trans (eu (LI k) (ys:List Int)).symm;subst V0;subst hnews;have EC:=nL (m:=HK++X) k1;have hown:iw w e 1 vv xs.length (cR (LI k) xs):=hs0.hp.holds _ (List.mem_of_getElem? EC);have done:∀w',aO c.bs c.w0 w'->bq c.bs c.w0.heap.size ((HS++(HK++X)).set kk (.row vv e 1 (ys.take xs.length++xs.drop ys.length).length (cR (LI k) (ys.take xs.length++xs.drop ys.length)))) w'->next (a.put d (.int .i64 ((min ys.length xs.length:Nat):Int))) w':=λw' hs hp=>by
  rw[qV k1]at hp;refine hk ρ J [] w' _ (aX.cL _ _) (λ_ h=>h) rfl (h.zk (k3 _ _ ?_) hs hp);refine⟨vv,_,m1,rfl,?_,show(LA (LI k) _).ef J _ _ from bf.iff.2 (eu (LI k) _),rfl⟩;have:(ys.take xs.length++xs.drop ys.length).length=xs.length:=by simp only[List.length_append,List.length_take,List.length_drop];omega
  rw[this];exact m3
 haveI:qC (HS++(HK++X)) vv e 1 xs.length (cR (LI k) xs) ((HS++(HK++X)).set kk):=⟨kk,EC,λ_ =>rfl⟩;rcases hown.2 with⟨hv,h0⟩|⟨b,o,cap,cur,hv,_⟩
 ·subst hv
  have hx0:xs=[]:=List.length_eq_zero_iff.1 h0;subst hx0;obtain⟨inf,e1,e2,e3⟩:=pC.get (tt.sl hT).1.ok;refine cJ (by simp) (v:= .int .i64 ((min ys.length 0:Nat):Int)) (w':=w) ?_ (done w hs0.si ?_)
  ·have:=F5 (P:=P) (w:=w) (t':=T') (ty:=ty) e1 e2 n3
   simp[execOp,resolve,invoke,builtin,aH hs0.fr qG,this]
  ·refine hs0.hp.zk EC (λw hw=>?_) (λb hb=>?_)
   ·simpa using hw
   ·simpa using hb
 ·have hF:Fz (λw=>Ro w (a.eval y) 1 ys.length (cR (LI k) ys)) (a.eval y) (LI k) ys:=⟨n3,λ_ h=>h⟩
  haveI:Kn c (HS++(HK++X)) (λw=>Ro w (a.eval y) 1 ys.length (cR (LI k) ys)):=⟨λw' h1 h2=>n1.ro w' h1 h2⟩;exact QN (t':=T') (ty:=ty) (ps:=ps) (af:=af) (g:=g) (d:=d) hF rfl (tt.sl hT).1.ok ⟨b,o,cap,hv⟩ qG (hE.ev _ _ hy) a.defers a w next Q hs0 λ_ w' _ hs hp=>done w' hs hp
end Go.Rw
namespace Go.Bw
open Go Go.RowKit
section
variable {P:Program} {N:Nat} {c:Cx} {F:dc} {H:List aF} {d:Option Tmp} {ty:TypeId} {ps:String} {af:Array Edge} {g:Option (Nat×Bool)} {β:Type} {b:Nat} {q:IntKind} {E:β->Value} {l:List (Int×β)} {f:aF->List aF}
theorem Bp{x y z:Operand}{t kt e:TypeId}{k:Int}{v:Value}(u:β)[ht:Cm P t kt e q](hx:ev F x=some (.map (some b)))(hy:ev F y=some (.int q k))(hz:ev F z=some v)[hm:Cv H b β q E l f](hv:v=E u):
  RX (α:=Unit) P N c ⟨d, .insert t x y z,ty,ps,af,g⟩ F H (λ_ =>True) (λ_ =>undef) (λ_ =>f (Mp b q E (qm l k u))):=λD a w next Q hst hk=>by
 subst hv;obtain⟨es,clock,h1,h2⟩:=hm.SO hst.hp;obtain⟨t1,t2⟩:=ht.ok;have hf:=kA (k:=k) w t2 h2;have hc:∀em,(Instr.checkKey em 10000 kt (.int q k)).run P w= .ok () w:=λem=>MapKept.run_checkKey (k:= .int q k) t2 (show q=q from rfl) em 9999;cases Pm:dW l k with
 |none=>obtain⟨p1,p2⟩:=hm.put hst h1 (h2.push k u);refine lB (by simp) (w':=w.putObj b (.map (es.push ⟨.int q k,E u,clock⟩) (clock+1))) ?_ (hk () _ trivial p1 (by rw[A7 Pm];exact p2));rw[Pm]at hf;simp[execOp,aH hst.fr hx,aH hst.fr hy,aH hst.fr hz,Instr.mapUpdate,run_underlying t1,MapKept.run_getObj_map h1,hc,hf,MapKept.run_setObj_map _ h1,Result.andThen,World.putObj]
 |some p=>
  have hg:=A8 (j:=p.1) (y:=p.2) Pm;obtain⟨p1,p2⟩:=hm.put hst h1 (h2.modify p.1 k u);refine lB (by simp) (w':=w.putObj b (.map (es.modify p.1 λe=>{e with key:= .int q k,val:=E u}) clock)) ?_ (hk () _ trivial p1 (by rw[A6 (j:=p.1) (y:=p.2) Pm];exact p2));rw[Pm]at hf;have hkey:((es[p.1]?).map (·.key))=some (.int q k):=by
   have:(es.toList.map λe=>(e.key,e.val))[p.1]? =some (Value.int q k,E p.2):=by rw[h2.kv,List.getElem?_map,hg];rfl
   rw[List.getElem?_map,Array.getElem?_toList]at this;cases he:es[p.1]? with
   |none=>simp[he]at this
   |some e0=>simp[he]at this;simp[this.1]
  simp[execOp,aH hst.fr hx,aH hst.fr hy,aH hst.fr hz,Instr.mapUpdate,run_underlying t1,MapKept.run_getObj_map h1,hc,hf,hkey,MapKept.run_keyThatStays (show MapKept.IsKey (.int q) (.int q k)from rfl),MapKept.run_setObj_map _ h1,Result.andThen,World.putObj]
theorem tB{l:List (Int×Value)}{x y:Operand}{t kt e:TypeId}{k:Int}(z v:Value)(bb:Bool)[ht:Cm P t kt e q][hz:Ka P e z](hx:ev F x=some (.map (some b)))(hy:ev F y=some (.int q k))[hm:Cv H b Value q (λv=>v) l f](h1:kU l k z=v)(h2:m9 l k=bb):
  VS P N c ⟨d, .lookup t x y true,ty,ps,af,g⟩ F H (.tuple #[v, .bool bb]):=by
 subst h1 h2;haveI:Ka P e ((λv:Value=>v) z):=hz;exact J7 (E:=λv:Value=>v) z hx hy
theorem KD{u0 u1 u2 z:Value}{k:Int}(h0:¬k=0)(h1:¬k=1)(h2:¬k=2):kU (qm (qm (qm [] 0 u0) 1 u1) 2 u2) k z=z/\m9 (qm (qm (qm [] 0 u0) 1 u1) 2 u2) k=false:=by
 show kU [(0,u0),(1,u1),(2,u2)] k z=z/\m9 [(0,u0),(1,u1),(2,u2)] k=false;have e0:(k==0)=false:=by simpa using h0
 have e1:(k==1)=false:=by simpa using h1
 have e2:(k==2)=false:=by simpa using h2
 simp[kU,m9,dW,e0,e1,e2]
end
end Go.Bw
