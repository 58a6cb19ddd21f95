/- Part 6 of what a proof leans on; pruned and shortened by a program out of longer texts. -/
import Derived.Test.YtjabpidfkmhbbaaGreatDoorQ5
namespace Go.Rw
open Go Go.Bw Go.RowKit
variable {G:Sg} {P:Program} {tt:TT P G} {zt:ZT P G} {J:World->Prop} {ρ:aP} {a:Act} {w:World} {d:Option Tmp} {ty:TypeId} {ps:String} {af:Array Edge} {g:Option (Nat×Bool)}
 {N:Nat} {c:Cx} {H:List av} {D:List Deferred} {ob:Nat->Option (Ob G)} {E:Operand->Option (AV G)}
def Gf(c:AV G)(i o:Nat):oJ:=match c with
 | .dat (.iK n e) _ => .idx n (e.L G).n i
 |_ => .Ag i o
def P8:oJ->Bool
 | .idx n _ i=>cB i n
 |_ =>true
def Pm(F:Hv G)(pl:List (Nat×Nat))(E:Operand->Option (AV G)):AV G->List (Nat×Operand)->Option (AV G)
 |c,[]=>some c
 |c,(i,x)::r=>match pl[i]?,E x with
  |some (o,n),some v=>bif (Fo (some n) v||(Nat.beq n 1&&Fo none v))&&(Nat.beq (Gf c i o).off o&&P8 (Gf c i o))then(match Gg F c [Gf c i o] v with
   |some c'=>Pm F pl E c' r
   |none=>none)else none
  |_,_ =>none
def Td:AV G->Bool
 | .dat t _ =>t.ag
 | .st _ =>true
 |_ =>false
def plT(tt:TT P G)(T:Nat)(parts:List (Nat×Operand)):Option (List (Nat×Nat)):=match tt.te.find T with
 |some (.iK n _ sz _)=>bif (parts.map (·.1)).all λi=>decide (i<n)then some (JR n sz)else none
 |_ =>Br P T
def K9(tt:TT P G)(zt:ZT P G)(E:Operand->Option (AV G))(T:Nat)(parts:List (Nat×Operand)):PV G:=match plT tt T parts,zt.z.find T with
 |some pl,some c0=>match Pm tt.F pl E c0 parts with
  |some v=>bif Td v then some ([],v)else none
  |none=>none
 |_,_ =>none
theorem Pq{v:AV G}{u:Value}(h:Td v=true)(hv:rv J ρ v u):u= .agg u.cells:=by
 cases v with
 |dat t x=>obtain⟨u',e,h1⟩:=hv;cases e;obtain⟨cs,e⟩:=h1.2.1 h;rw[e];simp[Value.cells]
 |st a=>obtain⟨cs,e,_⟩:=hv;cases e;simp[Value.cells]
 |_ =>cases h
theorem Pk{F:Hv G}{pl:List (Nat×Nat)}(hE:v9 J ρ a E):∀{parts:List (Nat×Operand)} {c0 v:AV G} {u0:Value},Pm F pl E c0 parts=some v->rv J ρ c0 u0->
  ∃u vs,rv J ρ v u/\Ai (kN a) (parts.map (·.2))=some vs/\qo pl u0.cells.toList ((parts.map (·.1)).zip vs)=some u.cells.toList:=by
 intro parts
 induction parts with
 |nil=>intro c0 v u0 h h0;cases h;exact⟨u0,[],h0,rfl,rfl⟩
 |cons q r ih=>
  obtain⟨i,x⟩:=q;intro c0 v u0 h h0;simp only[Pm]at h;split at h
  ·rename_i o n v1 hp hx
   cases hb:((Fo (some n) v1||(Nat.beq n 1&&Fo none v1))&&(Nat.beq (Gf c0 i o).off o&&P8 (Gf c0 i o)))with
   |false=>rw[hb]at h;cases h
   |true=>
    rw[hb]at h;simp only[cond_true]at h;rw[aa8,aa8]at hb;obtain⟨hb,hbo,W7⟩:=hb;have hbo:=aa7 hbo;split at h
    ·rename_i c' hc
     have Wr:=hE.ok _ _ hx;have hsz:(a.eval x).cells.size=n:=by
      simp only[Bool.or_eq_true,aa8]at hb;rcases hb with hb|⟨L3,Dp⟩
      ·exact((SF hb Wr).2 n rfl).1
      ·rw[(SF Dp Wr).1 rfl,aa7 L3];rfl
     obtain⟨u',k1,k2,k3,_⟩:=DK Wr hc h0 (by
      intro s hs;rw[List.mem_singleton.1 hs];revert W7;generalize Gf c0 i o=s;intro W7;cases s with
      |Ag _ _ =>trivial
      |idx _ _ _ =>exact W7)
     obtain⟨u,vs,m1,m2,m3⟩:=ih h k1;refine⟨u,a.eval x::vs,m1,?_,?_⟩
     ·simp only[List.map_cons,Ai,hE.ev _ _ hx,m2]
     ·have ho:cQ [Gf c0 i o]=o:=by simp[cQ,hbo]
      rw[ho]at k2 k3;simp only[List.map_cons,List.zip_cons_cons,qo,hp];rw[aa6, ← k2]
      ·exact m3
      ·simp only[ne_eq,hsz,not_true_eq_false,decide_false,Bool.false_or,decide_eq_true_eq,Array.length_toList]
       omega
    ·cases h
  ·cases h
theorem K8(hm:Ht (G:=G) J ρ N c D H ob a w)(hE:v9 J ρ a E){T:Nat}{parts:Array (Nat×Operand)}{v:AV G}{gs:List Bool}(h:K9 tt zt E T parts.toList=some (gs,v)):xn P c J ρ ⟨d, .build T parts,ty,ps,af,g⟩ a w v:=by
 unfold K9 at h;split at h
 ·rename_i pl c0 h1 h2
  split at h
  ·rename_i v' hb
   cases hag:Td v' with
   |false=>rw[hag]at h;cases h
   |true=>
    rw[hag]at h;cases h;obtain⟨u0,z1,z2⟩:=zt.ok T c0 h2 J ρ;obtain⟨u,vs,m1,m2,m3⟩:=Pk hE hb z2;haveI:fM P T u0.cells.toList:=⟨z1⟩;have:VS P N c ⟨d, .build T parts.toList.toArray,ty,ps,af,g⟩ (kN a) H (.agg u.cells.toList.toArray):=by
     unfold plT at h1;split at h1
     ·rename_i n e sz tot ht
      haveI:=tt.iK ht;cases hi:(parts.toList.map (·.1)).all λi=>decide (i<n)with
      |false=>rw[hi]at h1;cases h1
      |true=>rw[hi]at h1;cases h1;exact JH m2 m3 hi
     ·haveI:TG P T pl:=⟨h1⟩
      exact ve (P:=P) (N:=N) (c:=c) (H:=H) (d:=d) (ty:=ty) (p:=ps) (af:=af) (g:=g) (F:=kN a) (t:=T) m2 m3
    refine⟨u,m1,?_⟩;have e:=Pq hag m1;rw[e];have:=this.vk hm.st;simpa using this
  ·cases h
 ·cases h
def Yu{i:Nat}(x y:G.S i)(f:Fd G i):Option Bool:=match f with
 |⟨.int _,_,get,_,_⟩=>some (@BEq.beq Int inferInstance (get x) (get y))
 |⟨.bool,_,get,_,_⟩=>some (@BEq.beq Bool inferInstance (get x) (get y))
 |_ =>none
def Yt{i:Nat}(x y:G.S i):List (Fd G i)->Bool->Option Bool
 |[],b=>some b
 |f::r,b=>match Yu x y f with
  |some c=>Yt x y r (b&&c)
  |none=>none
def eqS{i:Nat}(x y:G.S i):List (Fd G i)->Option Bool
 |[]=>none
 |f::r=>match Yu x y f with
  |some c=>Yt x y r c
  |none=>none
def E8{i:Nat}:List (Fd G i)->List (Nat×Option IntKind)
 |[]=>[]
 |f::r=>(f.off,match f.ty with
  | .int k=>some k
  |_ =>none)::E8 r
theorem Mq{i:Nat}{x y:G.S i}{f:Fd G i}{b:Bool}{cs ds:List Value}(h:Yu x y f=some b)(hc:(G.L i).dJ J cs x)(hd:(G.L i).dJ J ds y):Eo cs[f.off]? ds[f.off]? =b/\pF (match f.ty with
  | .int k=>some k
  |_ =>none) cs[f.off]? =true/\pF (match f.ty with
  | .int k=>some k
  |_ =>none) ds[f.off]? =true:=by
 obtain⟨t,o,get,set,ok⟩:=f;cases t<;>simp only[Yu]at h<;>try (cases h;done)
 ·rename_i k
  cases h;have e1:=aM.int (k:=k) ok hc;have e2:=aM.int (k:=k) ok hd;rw[e1,e2];exact⟨rfl,by simp[pF],by simp[pF]⟩
 ·cases h
  have e1:=aM.bool ok hc;have e2:=aM.bool ok hd;rw[e1,e2];exact⟨rfl,rfl,rfl⟩
theorem SN{i:Nat}{x y:G.S i}{cs ds:List Value}(hc:(G.L i).dJ J cs x)(hd:(G.L i).dJ J ds y):∀{l:List (Fd G i)} {b e:Bool},Yt x y l b=some e->(b&&zA (E8 l) cs ds)=e/\vP (E8 l) cs=true/\vP (E8 l) ds=true:=by
 intro l
 induction l with
 |nil=>intro b e h;cases h;exact⟨by simp[E8,zA],rfl,rfl⟩
 |cons f r ih=>
  intro b e h;simp only[Yt]at h;split at h
  ·rename_i c1 h1
   obtain⟨k1,k2,k3⟩:=Mq h1 hc hd;obtain⟨m1,m2,m3⟩:=ih h;refine⟨?_,?_,?_⟩
   ·simp only[E8,zA,k1];rw[← m1,Bool.and_assoc]
   ·simp only[E8,vP,k2,m2,Bool.and_self]
   ·simp only[E8,vP,k3,m3,Bool.and_self]
  ·cases h
def K7(tt:TT P G)(o:BinOp)(T:Nat):AV G->AV G->PV G
 | .dat (.st i) x, .dat (.st j) y=>if h:j=i then(bif B0 P T (E8 (tt.F i))then(match eqS x (h▸y) (tt.F i),o with
  |some b, .eql=>some ([], .bool b)
  |some b, .neq=>some ([], .bool (!b))
  |_,_ =>none)else none)else none
 |_,_ =>none
theorem K6(hm:Ht (G:=G) J ρ N c D H ob a w)(hE:v9 J ρ a E){o:BinOp}{T U:Nat}{x y:Operand}{va vb v:AV G}{gs:List Bool}(h:K7 tt o T va vb=some (gs,v))(hx:E x=some va)(hy:E y=some vb):xn P c J ρ ⟨d, .binOp o T x y U,ty,ps,af,g⟩ a w v:=by
 unfold K7 at h;split at h
 ·rename_i i x' j y'
  by_cases e:j=i
  ·subst e
   rw[dif_pos rfl]at h;cases hk:B0 P T (E8 (tt.F j))with
   |false=>rw[hk]at h;cases h
   |true=>
    rw[hk]at h;simp only[cond_true]at h;obtain⟨u,e1,r1⟩:=hE.ok _ _ hx;obtain⟨u2,e2,r2⟩:=hE.ok _ _ hy;cases e1;cases e2;obtain⟨cs,ec⟩:=r1.2.1 rfl;obtain⟨ds,ed⟩:=r2.2.1 rfl;have hc:(G.L j).dJ J cs x':=by have:=r1.1;rw[ec]at this;simp only[Value.cells]at this;exact this
    have hd:(G.L j).dJ J ds y':=by have:=r2.1;rw[ed]at this;simp only[Value.cells]at this;exact this
    have fx:=hE.ev _ _ hx;have fy:=hE.ev _ _ hy;rw[ec]at fx;rw[ed]at fy;haveI:Hq P T (E8 (tt.F j)):=⟨hk⟩;have main:∀b,eqS x' y' (tt.F j)=some b->zA (E8 (tt.F j)) cs ds=b/\vP (E8 (tt.F j)) cs=true/\vP (E8 (tt.F j)) ds=true:=by
     intro b hb;cases hl:tt.F j with
     |nil=>rw[hl]at hb;cases hb
     |cons f r=>
      rw[hl]at hb;simp only[eqS]at hb;split at hb
      ·rename_i c1 h1
       obtain⟨k1,k2,k3⟩:=Mq h1 hc hd;obtain⟨m1,m2,m3⟩:=SN hc hd hb;exact⟨by simp only[E8,zA,k1];exact m1,by simp only[E8,vP,k2,m2,Bool.and_self],by simp only[E8,vP,k3,m3,Bool.and_self]⟩
      ·cases hb
    split at h
    ·rename_i b hb
     cases h;obtain⟨m1,m2,m3⟩:=main b hb;have:=(IE (P:=P) (N:=N) (c:=c) (H:=H) (d:=d) (ty:=ty) (p:=ps) (af:=af) (g:=g) (T:=T) (U:=U) fx fy m2 m3).vk hm.st;rw[m1]at this;exact⟨_,rfl,this⟩
    ·rename_i b hb
     cases h;obtain⟨m1,m2,m3⟩:=main b hb;have:=(PC (P:=P) (N:=N) (c:=c) (H:=H) (d:=d) (ty:=ty) (p:=ps) (af:=af) (g:=g) (T:=T) (U:=U) fx fy m2 m3).vk hm.st;rw[m1]at this;exact⟨_,rfl,this⟩
    ·cases h
  ·rw[dif_neg e]at h;cases h
 ·cases h
end Go.Rw
namespace Go.Bw
open Go Go.RowKit
end Go.Bw
namespace Go.Bw
open Go Go.RowKit
section rules
variable {P:Program} {N:Nat} {c:Cx} {D:List Deferred} {Q:Exit->Act->World->Prop} {F:cE} {H:List av} {d:Option Tmp} {ty:TypeId} {ps:String} {af:Array Edge} {g:Option (Nat×Bool)} {α β γ:Type}
theorem I4{w:World}{v:Value}{e sz n m:Nat}{xs:List Value}(h:(av.row v e sz n xs).holds w)(hm:m<=n):(av.row (nC 0 m sz v) e sz m (xs.take (m*sz))).holds w:=by
 obtain⟨h1,h2⟩:=h;have hle:m*sz<=n*sz:=Nat.mul_le_mul_right _ hm;refine⟨by rw[List.length_take,h1,Nat.min_eq_left hle],?_⟩;rcases h2 with⟨rfl,rfl⟩|⟨gb,cap,cur,rfl,q1,q2,q3,q4,q5,q6⟩
 ·obtain rfl:m=0:=by omega
  exact .inl ⟨by simp[nC],rfl⟩
 ·refine .inr ⟨gb,cap,cur,?_,q1,q2,by omega,q4,q5,?_⟩
  ·simp[nC,Addr.add_lit]
  ·rw[← q6,List.take_take,Nat.min_eq_left hle]
theorem PT{v:Value}{n m sz:Nat}(h:qu v n):qu (nC 0 m sz v) m:=by obtain⟨a,cp,rfl⟩:=h;exact⟨_,_,rfl⟩
theorem Da(L:bP α)[aR L](xs:List α){m sz:Nat}(hn:L.n=sz)(hm:m<=xs.length):(cH L xs).take (m*sz)=cH L (xs.take m):=by have:=KR L xs 0 m (Nat.zero_le _) hm;subst hn;simpa using this
theorem ze(L:bP α)[aR L](z0:α){z:Value}(he:L.enc z0=[z]):∀n:Nat,cH L (List.replicate n z0)=List.replicate n z
 |0=>rfl
 |n+1=>by have:=ze L z0 he n;rw[List.replicate_succ,List.replicate_succ];show L.enc z0++cH L (List.replicate n z0)=_;rw[he,this];rfl
theorem EP{P:Program}{w:World}{t e ty:Nat}(e1:P.underlying t=some (.slice e))(a:Option Addr)(cp:Nat):(Builtin.clear_ #[t] ty #[.slice a 0 cp]).run P w= .ok (.tuple #[]) w:=by cases a<;>simp[Builtin.clear_,run_underlying e1]
theorem JK{L:bP α}[aR L]{xs ys:List α}{v:Value}{e t m:Nat}{z0:α}{z:Value}{x:Operand}{f:av->List av}(ht:Aj P t e 1=true)(hz:Hp P e z)(he:L.enc z0=[z])(Z2:z.cells= #[z])(h1:z.oneCell'=true)(hL:L.n=1)(hm:m<=xs.length)
  (hx:ev F x=some (nC m xs.length 1 v))[hr:qv H v e 1 xs.length (cH L xs) f](hy:ys=xs.take m++List.replicate (xs.length-m) z0):
  RX (α:=Unit) P N c ⟨d, .call ⟨.builtin .clear, #[x], #[t]⟩,ty,ps,af,g⟩ F H (λ_ =>True) (λ_ => .tuple #[]) (λ_ =>f (nN v e 1 L ys)):=λD a w next Q hst hk=>by
 obtain⟨inf,e1,e2,e3⟩:=rF.get ht;obtain⟨k,k1,k2⟩:=hr.ok;have GL:av.row v e 1 xs.length (cH L xs)∈H:=List.mem_of_getElem? k1;have hown:w.ownsRow 0 e 1 v xs.length (cH L xs):=hst.hp.holds _ GL;obtain⟨hlen,Ac⟩:=hown;have qI:=ay hst.fr hx;have hyl:ys.length=xs.length:=by rw[hy,List.length_append,List.length_take,List.length_replicate];omega
 by_cases hem:m=xs.length
 ·have hyx:ys=xs:=by rw[hy,hem,List.take_length];simp
  refine cq (by simp) (v:= .tuple #[]) (w':=w) ?_ (hk () w trivial hst.si ?_)
  ·have hv:∃a0 cp,a.eval x= .slice a0 0 cp:=by
    rw[qI,hem];rcases Ac with⟨hv,h0⟩|⟨gb,cap,cur,hv,_⟩
    ·rw[hv];exact⟨_,_,by rw[nC,Nat.sub_self]⟩
    ·rw[hv];exact⟨_,_,by rw[nC,Nat.sub_self]⟩
   obtain⟨a0,cp,hv⟩:=hv;have:=EP (P:=P) (w:=w) (ty:=ty) e1 a0 cp;simp[execOp,resolve,invoke,builtin,hv,this]
  ·rw[k2]
   exact hst.hp.za k1 (λw hw=>by rw[hyx];exact hw) (λb hb=>by rw[hyx]at hb;exact hb)
 ·rcases Ac with⟨_,h0⟩|⟨gb,cap,cur,rfl,_,LX,hnc,Ie,hcs,Dm⟩
  ·omega
  have hone:kP (List.replicate (xs.length-m) z):=λv hv=>by rw[List.eq_of_mem_replicate hv];exact h1
  have hsc:=run_storeCells_at P gb m e (List.replicate (xs.length-m) z) 0 cur w LX (by simp;omega) hone;simp only[Nat.add_zero]at hsc;obtain⟨cs',Sq⟩:∃cs',(cur.toList.take m++List.replicate (xs.length-m) z++cur.toList.drop (m+(List.replicate (xs.length-m) z).length)).toArray=cs':=⟨_,rfl⟩;rw[Sq]at hsc;have gN:aJ [gb] w (w.setRow gb cs'):=⟨rfl,rfl,rfl,by simp,λk _ hk=>setRow_other w gb k _ (by simpa using hk)⟩;refine cq (by simp) (v:= .tuple #[]) (w':=w.setRow gb cs') ?_ (hk () _ trivial (hst.si.store hst.hp GL (by simp[av.bK,Value.ownBlock]) gN) ?_)
  ·obtain⟨j,hj⟩:∃j,xs.length-m=j+1:=⟨xs.length-m-1,by omega⟩
   have Z0:=Gm hz w;have Wj:=we Z2 (j+1);have hne:¬cap=m:=by omega
   rw[hj]at hsc;have hx3:a.eval x= .slice (some ⟨gb,m,none⟩) (j+1) (cap-m):=by rw[qI];simp[nC,hne,Addr.add_lit,hj]
   simp[execOp,resolve,invoke,builtin,hx3,Builtin.clear_,run_underlying e1,Z0,Wj,hsc]
  ·show aX c.bs c.w0.heap.size (f (nN _ e 1 L ys)) _
   rw[nN,k2];have Ea:=setRow_heap w gb cur cs' e (0,0) LX;have pG:cur.toList.length=cap:=by simpa using hcs
   refine hst.hp.set k1 gN.size (λj hj hn=>gN.block j hj (by simpa[av.bK,Value.ownBlock]using hn)) ?_ hst.si.size (λb' hb'=>?_)
   ·refine⟨by rw[ju,hL], .inr ⟨gb,cap,cs',by rw[hyl],Nat.zero_le _,Ea,by omega,Ie,?_,?_⟩⟩
    ·rw[← Sq];simp;omega
    ·rw[hyl, ← Sq,Nat.mul_one,hy,pz,ze L z0 he]
     have t1:=Da L xs (m:=m) (sz:=1) hL hm;rw[Nat.mul_one]at t1;rw[← t1, ← Dm,List.take_take,Nat.mul_one,Nat.min_eq_left hm];simp only[List.toList_toArray];rw[List.take_append_of_le_length (by simp;omega)];exact List.take_of_length_le (by simp;omega)
   ·have h5:b'=gb:=by simpa[av.bK,Value.ownBlock]using hb'
    subst h5;exact⟨.inl (by simp[av.bK,Value.ownBlock]),Nat.lt_of_lt_of_le (abf.1 LX).1 gN.size⟩
theorem XG{ops:Array Oper}{rest:List Oper}{op:Op}{dd:Tmp}{gg:Option (Nat×Bool)}{b:Bool}{v:Value}(hg:Gd ops F gg b)(hb:b=false)(hd:Nat.blt dd N=true)
  (h:WL P N c D ops Q rest ((dd,bif b then v else undef)::F) H):WL P N c D ops Q (⟨some dd,op,ty,ps,af,gg⟩::rest) F H:=by
 subst hb;exact Et hg hd h
end rules
end Go.Bw
namespace Go.Rw
open Go Go.Bw Go.RowKit
variable {G:Sg} {P:Program} {tt:TT P G} {zt:ZT P G} {J:World->Prop} {ρ:aP} {a:Act} {w:World} {d:Option Tmp} {ty:TypeId} {ps:String} {af:Array Edge} {g:Option (Nat×Bool)}
 {N:Nat} {c:Cx} {H HK X:List av} {C:CC G} {S:AS G} {D:List Deferred} {E:Operand->Option (AV G)}
def tyA:AV G->Option Ty
 | .int k _ =>some (.int k)
 | .bool _ =>some .bool
 | .dat t _ =>some t
 |_ =>none
def Xl(t:Ty)(E:Operand->Option (AV G)):Nat->List (Nat×Operand)->Option (List (t.T G))
 |_,[]=>some []
 |k,(i,x)::r=>bif Nat.beq i k then(match E x with
  |some v=>match wT t v,Xl t E (k+1) r with
   |some y,some l=>some (y::l)
   |_,_ =>none
  |none=>none)else none
theorem Mn{n sz:Nat}:∀{vs:List Value} {k:Nat} {qK:List Value},(∀v∈vs,v.cells.size=sz)->k+vs.length<=n->qK.length=n*sz->
  qo (JR n sz) qK ((List.range' k vs.length).zip vs)=some (qK.take (k*sz)++vs.flatMap (λv=>v.cells.toList)++qK.drop ((k+vs.length)*sz)):=by
 intro vs
 induction vs with
 |nil=>intro k qK _ _ _;simp[qo]
 |cons v r ih=>
  intro k qK hv hk hl;have h0:=hv v (by simp);have hlt:k<n:=by simp at hk;omega
  have hle:k*sz+sz<=n*sz:=by rw[← Nat.succ_mul];exact Nat.mul_le_mul_right _ hlt
  simp only[List.length_cons,List.range'_succ,List.zip_cons_cons,qo,D3 hlt];rw[aa6 (by simp[h0];omega)];have hsl:(bn qK (k*sz) v.cells.toList).length=n*sz:=by rw[pe (by rw[Array.length_toList];omega)];exact hl
  rw[ih (λx hx=>hv x (by simp[hx])) (by simp at hk;omega) hsl];have hvl:v.cells.toList.length=sz:=by rw[Array.length_toList];exact h0
  have t1:(bn qK (k*sz) v.cells.toList).take ((k+1)*sz)=qK.take (k*sz)++v.cells.toList:=by unfold bn;rw[Nat.succ_mul,List.take_append_of_le_length (by simp[hvl];omega),List.take_of_length_le (by simp[hvl];omega)]
  have t2:(bn qK (k*sz) v.cells.toList).drop ((k+1+r.length)*sz)=qK.drop ((k+(r.length+1))*sz):=by
   have e1:(k+1+r.length)*sz=k*sz+sz+r.length*sz:=by rw[Nat.add_mul,Nat.succ_mul]
   have e2:(k+(r.length+1))*sz=k*sz+sz+r.length*sz:=by rw[← e1];congr 1;omega
   unfold bn;rw[e1,e2,List.drop_append,hvl];have hz:(qK.take (k*sz)++v.cells.toList).length=k*sz+sz:=by simp[hvl];omega
   rw[List.drop_eq_nil_of_le (by rw[hz];omega),List.nil_append,hz,List.drop_drop];congr 1;omega
  rw[t1,t2];simp
theorem SQ{t:Ty}(hE:v9 J ρ a E):∀{parts:List (Nat×Operand)} {k:Nat} {xs:List (t.T G)},Xl t E k parts=some xs->∃vs,Ai (kN a) (parts.map (·.2))=some vs/\parts.map (·.1)=List.range' k xs.length/\vs.length=xs.length/\
  (∀v∈vs,v.cells.size=(t.L G).n)/\(LA (t.L G) xs.length).dJ J (vs.flatMap λv=>v.cells.toList) (λi=>xs.getD i default):=by
 intro parts
 induction parts with
 |nil=>intro k xs h;cases h;exact⟨[],rfl,rfl,rfl,by simp,TW⟩
 |cons q r ih=>
  obtain⟨i,x⟩:=q;intro k xs h;simp only[Xl]at h;cases hb:Nat.beq i k with
  |false=>rw[hb]at h;cases h
  |true=>
   rw[hb]at h;obtain rfl:=aa7 hb;simp only[cond_true]at h;split at h
   ·rename_i v hx
    split at h
    ·rename_i y l hy hl
     cases h;obtain⟨vs,m1,m2,m3,m4,m5⟩:=ih hl;have hr:=vz hy (hE.ok _ _ hx);have hlen:=(t.L G).len hr.1;rw[Array.length_toList]at hlen;refine⟨a.eval x::vs,?_,?_,by simp[m3],λv hv=>?_,?_⟩
     ·simp only[List.map_cons,Ai,hE.ev _ _ hx,m1]
     ·simp only[List.map_cons,m2,List.length_cons,List.range'_succ]
     ·rcases List.mem_cons.1 hv with rfl|hv
      ·exact hlen
      ·exact m4 v hv
     ·have:=Nn (TV hr.1) m5
      simpa using this
    ·cases h
   ·cases h
theorem OU{bs:List Nat}{n0 b e sz n:Nat}{cs:List Value}{w:World}(hl:cs.length=n*sz)(hn:n<=9223372036854775807)(h:aX bs n0 (.cells b e cs::H) w):aX bs n0 (.row (.slice (some ⟨b,0,none⟩) n n) e sz n cs::H) w:=by
 have:=h.za (k:=0) (r:= .cells b e cs) (r':= .row (.slice (some ⟨b,0,none⟩) n n) e sz n cs) rfl (λw hw=>by
  have hb:w.heap[b]? =some (.cells cs.toArray e (0,0)):=hw;exact⟨hl, .inr ⟨b,n,_,rfl,Nat.zero_le _,hb,Nat.le_refl _,hn,by simp[hl],List.take_of_length_le (by simp[hl])⟩⟩) (λx hx=>by simpa[av.bK,Value.ownBlock]using hx)
 exact this
theorem Vg{T n e sz bt:Nat}{parts:Array (Nat×Operand)}{z:AV G}{t:Ty}{xs:List (t.T G)}(hT:tt.te.find T=some (.sl e sz bt))(hz:zt.z.find e=some z)(hxs:Xl t (dV C S []) 0 parts.toList=some xs)(hn:xs.length=n)(hsz:(t.L G).n=sz)(h0:0<n*sz)(hcap:n*sz<=16777216):
  SK P ⟨d, .buildSlice T n parts,ty,ps,af,g⟩ C S {S with O:=(S.nx, .row e sz t xs)::S.O,nx:=S.nx+1} (.row S.nx):=by
 intro c N ρ J HK X a w next Q h hk
 obtain⟨HS,h1,hs0,hm⟩:=h.st;have hE:=bU h (ch:=[]) (by simp);obtain⟨vs,m1,m2,m3,m4,m5⟩:=SQ hE hxs;obtain⟨u,z1,z2⟩:=zt.ok e z hz J ρ;haveI:fM P e u.cells.toList:=⟨z1⟩;haveI:=(tt.sl hT).1;subst hn;subst hsz;have hb0:((List.range (xs.length*(t.L G).n)).map λj=>u.cells.toList[j%u.cells.toList.length]!).length=xs.length*(t.L G).n:=by simp
 have Fg:=Mn (n:=xs.length) (sz:=(t.L G).n) (vs:=vs) (k:=0) m4 (by omega) hb0;rw[m3, ← m2]at Fg;have hcs:(((List.range (xs.length*(t.L G).n)).map λj=>u.cells.toList[j%u.cells.toList.length]!).take (0*(t.L G).n)++vs.flatMap (λv=>v.cells.toList)++((List.range (xs.length*(t.L G).n)).map λj=>u.cells.toList[j%u.cells.toList.length]!).drop ((0+xs.length)*(t.L G).n))=vs.flatMap (λv=>v.cells.toList):=by rw[List.drop_eq_nil_of_le (by rw[hb0,Nat.zero_add];exact Nat.le_refl _)];simp
 rw[hcs]at Fg;have hlen:(vs.flatMap (λv=>v.cells.toList)).length=xs.length*(t.L G).n:=(LA (t.L G) xs.length).len m5;have hi:((parts.toList.map (·.1)).all λi=>decide (i<xs.length))=true:=by rw[m2,List.all_eq_true];intro i hi;rw[List.mem_range'_1]at hi;simp;omega
 have hx1:xs.length<=9223372036854775807:=by
  have hpos:0<(t.L G).n:=by
   rcases Nat.eq_zero_or_pos (t.L G).n with q|q
   ·rw[q]at h0;omega
   ·exact q
  have:xs.length<=xs.length*(t.L G).n:=Nat.le_mul_of_pos_right _ hpos;omega
 have:=TO (P:=P) (N:=N) (c:=c) (d:=d) (ty:=ty) (ps:=ps) (af:=af) (g:=g) (F:=kN a) (H:=HS++(HK++X)) (t:=T) (n:=xs.length) m1 Fg hi h0 hcap a.defers a w next Q hs0 λb w' _ hs hp=>by have yp:=OU (n:=xs.length) hlen hx1 hp;obtain⟨ρ',q1,q2,q3⟩:=xV (t:=t) (zs:=xs) h h1 hs yp ⟨_,_,rfl⟩ m5 rfl;exact hk ρ' J [] w' _ q1 (λ_ h=>h) q2 q3
 simpa using this
end Go.Rw
namespace Go.Rw
open Go Go.Bw Go.RowKit
variable {G:Sg} {P:Program} {tt:TT P G} {J:World->Prop} {ρ:aP} {a:Act} {w:World} {d:Option Tmp} {ty:TypeId} {ps:String} {af:Array Edge} {g:Option (Nat×Bool)}
 {N:Nat} {c:Cx} {H:List av} {D:List Deferred} {ob:Nat->Option (Ob G)} {E:Operand->Option (AV G)}
def KZ(E:Operand->Option (AV G))(e:Ty)(xs:List (e.T G)):Option Operand->Option Operand->Option Operand->PV G
 |none,none,none=>some ([], .dat (.sl e) xs)
 |some l,none,none=>match iZ (E l)with
  |some (_,i,_)=>some ([cB i (xs.length+1)], .dat (.sl e) (xs.drop i.toNat))
  |none=>none
 |none,some h,none=>match iZ (E h)with
  |some (_,i,_)=>some ([cB i (xs.length+1)], .dat (.sl e) (xs.take i.toNat))
  |none=>none
 |some l,some h,none=>match iZ (E l),iZ (E h)with
  |some (_,i,_),some (_,j,_)=>some ([cB j (xs.length+1),cB i (j.toNat+1)], .dat (.sl e) ((xs.drop i.toNat).take (j.toNat-i.toNat)))
  |_,_ =>none
 |none,some h,some m=>match iZ (E h),iZ (E m)with
  |some (_,i,_),some (_,j,_)=>some ([i==(xs.length:Int),j==(xs.length:Int)], .dat (.sl e) xs)
  |_,_ =>none
 |_,_,_ =>none
def Rr(tt:TT P G)(E:Operand->Option (AV G))(T:Nat)(x:Operand)(lo hi mx:Option Operand):PV G:=match E x,tt.te.find T with
 |some (.dat (.sl e) xs),some (.sl _ sz _)=>bif Nat.beq sz (e.L G).n then KZ E e xs lo hi mx else none
 |some .gW,some (.sl _ _ _)=>match lo,hi,mx with
  |none,some h,none=>match iZ (E h)with
   |some (_,i,q)=>some (MC q (i==0), .gW)
   |none=>none
  |_,_,_ =>none
 |_,_ =>none
theorem Oa{w:World}{v:Value}{sz n:Nat}{xs:List Value}(h:Ro w v sz n xs):Ro w (s9 v) sz n xs:=by
 obtain⟨h1,h2⟩:=h;refine⟨h1,?_⟩;rcases h2 with⟨⟨a,cp,rfl⟩,e⟩|⟨gb,off,cap,rfl,q1,q2,q3⟩
 ·exact .inl ⟨⟨a,0,by simp[s9,e]⟩,e⟩
 ·exact .inr ⟨gb,off,n,rfl,q1,Nat.le_refl _,q3⟩
theorem A0{e:Ty}{v:Value}{ws:List Value}{xs:List (e.T G)}(h:yP J v (e.L G) ws xs):rR (G:=G) J (.sl e) xs v:=by have hc:v.cells.toList=[v]:=h.sl.cells;exact⟨⟨v,ws,hc,h⟩,nofun,λ_ =>by rw[← hc]⟩
theorem gG{E:Operand->Option (AV G)}(hE:v9 J ρ a E){x:Operand}{k:IntKind}{i:Int}{q:Bool}(h:iZ (E x)=some (k,i,q)):Bw.ev (kN a) x=some (.int k i):=(qM hE h).2
theorem KY(hm:Ht (G:=G) J ρ N c D H ob a w)(hE:v9 J ρ a E){T x0 sz b:Nat}{x:Operand}{lo hi mx:Option Operand}{e:Ty}{xs:List (e.T G)}{v:AV G}{gs:List Bool}{v0:Value}{ws:List Value}(ht:tt.te.find T=some (.sl x0 sz b))(hs:sz=(e.L G).n)(hf:yP J v0 (e.L G) ws xs)(fx:Bw.ev (kN a) x=some v0)
  (h:KZ E e xs lo hi mx=some (gs,v))(hg:∀b∈gs,b=true):xn P c J ρ ⟨d, .slice T x lo hi mx,ty,ps,af,g⟩ a w v:=by
 haveI:=(tt.sl ht).1;haveI:=hm.kn;haveI:=hf.at (c:=c) (H:=H);have cut:∀{l m:Nat} {ys:List (e.T G)},l<=m->m<=xs.length->ys=(xs.drop l).take (m-l)->rR (G:=G) J (.sl e) ys (nC l m sz v0):=λ{l m ys} h1 h2 h3=>by rw[h3];exact A0 (yP.cut hf hs h1 h2)
 unfold KZ at h;split at h
 ·cases h
  refine⟨v0,⟨v0,rfl,A0 hf⟩,?_⟩;refine(ax (P:=P) (F:=kN a) (H:=H) (by simp) λa' w' Sm hs' hp=>?_ :VS P N c _ _ _ _).vk hm.st;obtain⟨i,h1,h2,h3⟩:=rF.get (tt.sl ht).1.ok;obtain⟨a0,cp,rfl⟩:=hf.sl;simp[execOp,ay Sm fx,Instr.sliceAt,run_underlying h1,Instr.slice,Instr.sliceBounds,sizeOf,typeInfo,h2,h3,Addr.add]
 ·split at h
  ·rename_i k i q hl
   cases h;obtain⟨h1,h2⟩:=bz (hg (cB i (xs.length+1)) (by simp));have h2:=Nat.lt_succ_iff.1 h2;have fl:=gG hE hl;rw[h1]at fl;refine⟨_,⟨_,rfl,cut h2 (Nat.le_refl _) ?_⟩,(DA i.toNat fx fl h2).vk hm.st⟩;rw[List.take_of_length_le (by simp)]
  ·cases h
 ·split at h
  ·rename_i k i q hl
   cases h;obtain⟨h1,h2⟩:=bz (hg (cB i (xs.length+1)) (by simp));have h2:=Nat.lt_succ_iff.1 h2;have fl:=gG hE hl;rw[h1]at fl;refine⟨_,⟨_,rfl,cut (Nat.zero_le _) h2 ?_⟩,(DB i.toNat fx fl h2).vk hm.st⟩;rw[List.drop_zero,Nat.sub_zero]
  ·cases h
 ·split at h
  ·rename_i k i q k' j q' hl hh
   cases h;obtain⟨h1,h2⟩:=bz (hg (cB j (xs.length+1)) (by simp));obtain⟨h3,h4⟩:=bz (hg (cB i (j.toNat+1)) (by simp));have h2:=Nat.lt_succ_iff.1 h2;have h4:=Nat.lt_succ_iff.1 h4;have fl:=gG hE hl;have fh:=gG hE hh;rw[h3]at fl;rw[h1]at fh;exact⟨_,⟨_,rfl,cut h4 h2 rfl⟩,(TD i.toNat j.toNat fx fl fh h4 h2).vk hm.st⟩
  ·cases h
 ·split at h
  ·rename_i k i q k' j q' hl hh
   cases h;have h1:i=(xs.length:Int):=by simpa using hg (i==(xs.length:Int)) (by simp)
   have h2:j=(xs.length:Int):=by simpa using hg (j==(xs.length:Int)) (by simp)
   have fl:=gG hE hl;have fh:=gG hE hh;rw[h1]at fl;rw[h2]at fh;refine⟨s9 v0,⟨_,rfl,A0 (ws:=ws) ⟨hf.sl.aaM,hf.dJ,λw hw=>Oa (hf.ro w hw)⟩⟩,(IG fx fl fh).vk hm.st⟩
  ·cases h
 ·cases h
theorem Oj(hm:Ht (G:=G) J ρ N c D H ob a w)(hE:v9 J ρ a E){T:Nat}{x:Operand}{lo hi mx:Option Operand}{v:AV G}{gs:List Bool}(h:Rr tt E T x lo hi mx=some (gs,v))(hg:∀b∈gs,b=true):xn P c J ρ ⟨d, .slice T x lo hi mx,ty,ps,af,g⟩ a w v:=by
 unfold Rr at h;split at h
 ·rename_i e xs x0 sz b hx ht
  cases hb:Nat.beq sz (e.L G).n with
  |false=>rw[hb]at h;cases h
  |true=>rw[hb]at h;obtain⟨u',e1,hr,_,hc⟩:=hE.ok _ _ hx;have fx:=hE.ev _ _ hx;cases e1;obtain⟨v',ws,e2,hf⟩:=hr;rw[hc rfl]at e2;cases e2;exact KY hm hE ht (aa7 hb) hf fx h hg
 ·rename_i x0 sz b hx ht
  split at h
  ·split at h
   ·rename_i k i q hl
    cases h;have h1:i=0:=by simpa using yE hg
    have fl:=gG hE hl;have fx:=hE.ev _ _ hx;have e0:[a.eval x]=[.slice none 0 0]:=hE.ok _ _ hx;rw[(List.cons.inj e0).1]at fx;rw[h1]at fl;haveI:=(tt.sl ht).1;exact⟨_,rfl,(Dz fx fl).vk hm.st⟩
   ·cases h
  ·cases h
 ·cases h
theorem Ra{C:CC G}{S:AS G}{T r e sz bt:Nat}{x hi:Operand}{t:Ty}{xs:List (t.T G)}{k:IntKind}{i:Int}{q:Bool}(hT:tt.te.find T=some (.sl e sz bt))(hx:dV C S [] x=some (.row r))(ho:cu S.O r=some (.row e sz t xs))(hh:iZ (dV C S [] hi)=some (k,i,q))(hg:cB i (xs.length+1)=true):
  SK P ⟨d, .slice T x none (some hi) none,ty,ps,af,g⟩ C S {S with O:=(S.nx, .row e sz t (xs.take i.toNat))::uR S.O r,nx:=S.nx+1} (.row S.nx):=by
 intro c N ρ J HK X a w next Q h hk
 obtain⟨HS,h1,hs0,hm⟩:=h.st;have hE:=bU h (ch:=[]) (by simp);obtain⟨kk,x0,k1,⟨vv,ws,m1,rfl,m3,m4,m5⟩,k3⟩:=h1.QA ho;have OR:=qh (hE.ok _ _ hx) m1;have qI:=hE.ev _ _ hx;rw[OR]at qI;obtain⟨g1,g2⟩:=bz hg;have g2:=Nat.lt_succ_iff.1 g2;have fl:=gG hE hh;rw[g1]at fl;haveI:=(tt.sl hT).1;have GL:av.row vv e sz xs.length ws∈HS++(HK++X):=abe _ (List.mem_of_getElem? k1);haveI:mF c (HS++(HK++X)) vv sz xs.length ws:=⟨λw' _ hp'=>Ro.rU (hp'.holds _ GL)⟩;refine(DB (P:=P) (c:=c) (F:=kN a) (H:=HS++(HK++X)) i.toNat qI fl g2) a.defers a w next Q hs0 λw' hs=>?_
 obtain⟨UH,q1,q3⟩:=h.hp;have hlen:(xs.take i.toNat).length=i.toNat:=by rw[List.length_take];omega
 have yp:aX c.bs c.w0.heap.size (.row (nC 0 i.toNat sz vv) e sz (xs.take i.toNat).length (ws.take (i.toNat*sz))::(HS.eraseIdx kk++(HK++X))) w':=by
  have p1:=(hs0.hp.ext hs).iu (nv k1 _);have:=p1.za (k:=0) (r':= .row (nC 0 i.toNat sz vv) e sz (xs.take i.toNat).length (ws.take (i.toNat*sz))) rfl (λw hw=>by
   rw[hlen];exact I4 hw g2) (λb hb=>by simpa[av.bK,Mw]using hb)
  exact this
 have aag:(LA (t.L G) (xs.take i.toNat).length).dJ J (ws.take (i.toNat*sz)) (λj=>(xs.take i.toNat).getD j default):=by have hc:=Nm (Nat.zero_le i.toNat) g2 m4;subst m5;simp only[List.drop_zero,Nat.sub_zero,Nat.zero_mul]at hc;exact hc
 obtain⟨ρ',q1,q2,q3⟩:=xV h k3 (h.si.s.ext hs) yp (by rw[hlen];exact PT m3) aag m5;exact hk ρ' J [] w' _ q1 (λ_ h=>h) q2 q3
end Go.Rw
namespace Go.Bw
open Go
universe u
theorem rf{α:Sort u}{a:α}:a=a:=rfl
abbrev A(c:List Value):Value:= .agg c.toArray
abbrev Vs:=List Value
class XI(P:Program)(t:TypeId):Prop where
 ok:P.underlying t=some .string
def look{α:Type}:List (Nat×α)->Nat->Option α
 |[],_ =>none
 |(k,v)::r,d=>bif Nat.beq k d then some v else look r d
def ikn:IntKind->Nat
 | .i8=>0| .i16=>1| .i32=>2| .i64=>3| .u8=>4| .u16=>5| .u32=>6| .u64=>7
def Cw(k l:IntKind):Bool:=Nat.beq (ikn k) (ikn l)
theorem wD{k l:IntKind}(h:Cw k l=true):k=l:=by cases k<;>cases l<;>first|rfl|(exact absurd h (by decide))
structure Tb where
 fl:List (Nat×List (Nat×Nat))
 ik:List (Nat×IntKind)
def Mz(P:Program)(T:Tb):Bool:=
 (T.fl.all λp=>p.2.all λq=>BZ P p.1 q.1 q.2)&&T.ik.all λp=>match P.underlying p.1 with|some (.int k)=>Cw k p.2|_ =>false
class FO(P:Program)(T:outParam Tb):Prop where
 ok:Mz P T=true
theorem BA{α:Type}:∀{l:List (Nat×α)} {d:Nat} {v:α},look l d=some v->(d,v)∈l:=by
 intro l
 induction l with
 |nil=>intro d v h;cases h
 |cons p r ih=>
  intro d v h;obtain⟨k,u⟩:=p;simp only[look]at h;by_cases e:k=d
  ·subst e;rw[Nat.beq_refl]at h;simp at h;subst h;simp
  ·rw[pP e]at h;simp at h;exact abj _ (ih h)
def Tb.off(T:Tb)(s f:Nat):Option Nat:=match look T.fl s with
 |some l=>look l f
 |none=>none
def Tb.int(T:Tb)(t:Nat):Option IntKind:=look T.ik t
theorem FO.Ag{P:Program}{T:Tb}(h:FO P T){s f o:Nat}(e:T.off s f=some o):AN P s f o:=by
 have h:=h.ok;unfold Mz at h;rw[aa8]at h;unfold Tb.off at e;split at e
 ·rename_i l h1
  exact⟨List.all_eq_true.1 (List.all_eq_true.1 h.1 _ (BA h1)) _ (BA e)⟩
 ·cases e
theorem FO.ty{P:Program}{T:Tb}(h:FO P T){t:Nat}{k:IntKind}(e:T.int t=some k):M6 P t k:=by
 have h:=h.ok;unfold Mz at h;rw[aa8]at h;have h2:=List.all_eq_true.1 h.2 _ (BA e);dsimp only at h2;split at h2
 ·rename_i k' e2
  rw[wD h2]at e2;exact⟨e2⟩
 ·cases h2
def Vh(o:BinOp)(k:IntKind)(a b:Int):Option Value:=match o with
 | .add=>some (.int k (k.wrap (a+b)))
 | .sub=>some (.int k (k.wrap (a-b)))
 | .mul=>some (.int k (k.wrap (a*b)))
 | .eql=>some (.bool (a==b))
 | .neq=>some (.bool (a !=b))
 | .lss=>some (.bool (decide (a<b)))
 | .leq=>some (.bool (decide (a<=b)))
 | .gtr=>some (.bool (decide (b<a)))
 | .geq=>some (.bool (decide (b<=a)))
 |_ =>none
def sv(T:Tb)(F:cE):Op->Option Value
 | .move x=>ev F x
 | .assign x=>ev F x
 | .nilCheck x=>match ev F x with
  |some (.pointer (some a))=>some (.pointer (some a))
  |_ =>none
 | .unOp .not _ x=>match ev F x with
  |some (.bool b)=>some (.bool (!b))
  |_ =>none
 | .unOp .neg _ x=>match ev F x with
  |some (.int k a)=>some (.int k (k.wrap (0-a)))
  |_ =>none
 | .binOp o _ x y _ =>match ev F x with
  |some (.int k a)=>match ev F y with
   |some (.int l b)=>bif Cw k l then Vh o k a b else none
   |_ =>none
  |_ =>none
 | .convert S t x=>match ev F x with
  |some (.int k a)=>match T.int S with
   |some l=>bif Cw l k then(match T.int t with
    |some k'=>some (.int k' (k'.wrap a))
    |none=>none)else none
   |none=>none
  |_ =>none
 | .extract x i=>match ev F x with
  |some (.tuple vs)=>vs.toList[i]?
  |_ =>none
 | .fieldAddr s x f=>match ev F x with
  |some (.pointer (some ⟨b,off,none⟩))=>match T.off s f with
   |some fo=>some (cj b (off+fo))
   |none=>none
  |_ =>none
 | .makeFunc fn first cap=>match first.toList with
  |[]=>match Ai F cap.toList with
   |some vs=>some (.func fn #[] vs.toArray)
   |none=>none
  |_ =>none
 |_ =>none
theorem Kv{P:Program}{T:Tb}[hT:FO P T]{N:Nat}{c:Cx}{F:cE}{H:List av}{op:Op}{v:Value}{d:Option Tmp}{ty:TypeId}{ps:String}{af:Array Edge}{g:Option (Nat×Bool)}
  (h:sv T F op=some v):VS P N c ⟨d,op,ty,ps,af,g⟩ F H v:=by
 unfold sv at h;split at h
 ·exact bG h
 ·exact oN h
 ·split at h
  ·rename_i a e;obtain rfl:=Option.some.inj h;exact u7 e
  ·cases h
 ·split at h
  ·rename_i b e;obtain rfl:=Option.some.inj h;exact zJ e
  ·cases h
 ·split at h
  ·rename_i e;obtain rfl:=Option.some.inj h;exact MY e rfl
  ·cases h
 ·split at h
  ·rename_i o _ x y _ k a e
   split at h
   ·rename_i l b e2
    cases hb:Cw k l with
    |false=>rw[hb]at h;cases h
    |true=>
     rw[hb]at h;obtain rfl:=wD hb;simp only[cond_true]at h;unfold Vh at h;split at h
     ·obtain rfl:=Option.some.inj h;exact TF e e2 rfl
     ·obtain rfl:=Option.some.inj h;exact MU e e2 rfl
     ·obtain rfl:=Option.some.inj h;exact Tt e e2 rfl
     ·obtain rfl:=Option.some.inj h;exact TC e e2
     ·obtain rfl:=Option.some.inj h;exact Ts e e2
     ·obtain rfl:=Option.some.inj h;exact Tx e e2
     ·obtain rfl:=Option.some.inj h;exact Tz e e2
     ·obtain rfl:=Option.some.inj h;exact M0 e e2
     ·obtain rfl:=Option.some.inj h;exact Hl e e2
     ·cases h
   ·cases h
  ·cases h
 ·split at h
  ·rename_i S t x k a e
   split at h
   ·rename_i l e1
    cases hb:Cw l k with
    |false=>rw[hb]at h;cases h
    |true=>
     rw[hb]at h;obtain rfl:=wD hb;simp only[cond_true]at h;split at h
     ·rename_i k' e2
      obtain rfl:=Option.some.inj h;haveI:=hT.ty e1;haveI:=hT.ty e2;exact IF e rfl
     ·cases h
   ·cases h
  ·cases h
 ·split at h
  ·rename_i vs e
   exact mU (vs:=vs.toList) e h
  ·cases h
 ·split at h
  ·rename_i e
   split at h
   ·rename_i fo e1
    obtain rfl:=Option.some.inj h;haveI:=hT.Ag e1;exact yG e
   ·cases h
  ·cases h
 ·rename_i fn first cap
  split at h
  ·rename_i e
   split at h
   ·rename_i e1
    obtain rfl:=Option.some.inj h;obtain⟨l⟩:=first
    obtain rfl:l=[]:=e;exact nH (cap:=cap.toList) e1
   ·cases h
  ·cases h
 ·cases h
inductive Kf where
 |th (y:Code)
 |tk (K:Act->World->Prop)
 |bl (id:Nat)
def dq(P:Program)(ro:Option Nat)(Q:Exit->Act->World->Prop):List Kf->Exit->Act->World->Prop
 |[]=>Q
 | .th y::ks=>Exit.then (y.wpIn (FA ro) 0 P (dq P ro Q ks)) (dq P ro Q ks)
 | .tk K::ks=>Exit.then K (dq P ro Q ks)
 | .bl id::ks=>Exit.inBlock id (dq P ro Q ks)
inductive Cf where
 |C (x:Code)
 |L (ops:Array Oper) (l:List Oper)
 |X (e:Exit)
def GG(P:Program)(N:Nat)(c:Cx)(D:List Deferred)(Q:Exit->Act->World->Prop)(ks:List Kf)(F:cE)(H:List av):Cf->Prop
 | .C x=>WP P N c D x (dq P c.ro Q ks) F H
 | .L ops l=>WL P N c D ops (dq P c.ro Q ks) l F H
 | .X e=>WQ N c D (dq P c.ro Q ks) e F H
def s1(T:Tb)(N:Nat):Cf->List Kf->cE->Option (Cf×List Kf×cE)
 | .C x,ks,F=>match x with
  | .seq x y=>some (.C x, .th y::ks,F)
  | .block id x=>some (.C x, .bl id::ks,F)
  | .region _ ops false=>some (.L ops ops.toList,ks,F)
  | .skip=>some (.X .normal,ks,F)
  | .label _ =>some (.X .normal,ks,F)
  | .ret=>some (.X .ret,ks,F)
  | .exit id=>some (.X (.exit id),ks,F)
  |_ =>none
 | .L ops l,ks,F=>match l with
  |[]=>some (.X .normal,ks,F)
  |⟨some d,op,_,_,_,none⟩::r=>match sv T F op with
   |some v=>bif Nat.blt d N then some (.L ops r,ks,(d,v)::F)else none
   |none=>none
  |_ =>none
 | .X e,ks,F=>match e,ks with
  | .normal, .th y::ks=>some (.C y,ks,F)
  | .normal, .bl _ ::ks=>some (.X .normal,ks,F)
  | .ret, .th _ ::ks=>some (.X .ret,ks,F)
  | .ret, .tk _ ::ks=>some (.X .ret,ks,F)
  | .ret, .bl _ ::ks=>some (.X .ret,ks,F)
  | .exit i, .th _ ::ks=>some (.X (.exit i),ks,F)
  | .exit i, .tk _ ::ks=>some (.X (.exit i),ks,F)
  | .exit i, .bl k::ks=>bif Nat.beq i k then some (.X .normal,ks,F)else some (.X (.exit i),ks,F)
  |_,_ =>none
def sp(T:Tb)(N:Nat):Nat->Cf->List Kf->cE->Option (Cf×List Kf×cE)
 |0,cf,ks,F=>some (cf,ks,F)
 |n+1,cf,ks,F=>match s1 T N cf ks F with
  |some (cf,ks,F)=>sp T N n cf ks F
  |none=>none
section
variable {P:Program} {T:Tb} [hT:FO P T] {N:Nat} {c:Cx} {D:List Deferred} {Q:Exit->Act->World->Prop} {ks ks':List Kf} {F F':cE} {H:List av} {cf NF:Cf}
theorem Vn(h:s1 T N cf ks F=some (NF,ks',F'))(g:GG P N c D Q ks' F' H NF):GG P N c D Q ks F H cf:=by
 unfold s1 at h;split at h
 ·split at h
  all_goals first
   |(cases h;done)
   |skip
  ·cases h;exact sB g
  ·cases h;exact MT g
  ·cases h;exactλa w hst=>wpIn_region_lit (l:=Array.toList _) (g a w hst)
  ·cases h;exact A7 g
  ·cases h;exact MR g
  ·cases h;exact Tk g
  ·cases h;exact Py g
 ·split at h
  ·cases h;exact sC g
  ·split at h
   ·rename_i d op _ _ _ _ _ v hv
    cases hd:Nat.blt d N with
    |false=>rw[hd]at h;cases h
    |true=>rw[hd]at h;cases h;exact br hd (Kv hv) g
   ·cases h
  ·cases h
 ·split at h
  ·cases h;exact oF g
  ·cases h;exact MO g
  ·cases h;exact Ao g
  ·cases h;exact Ao g
  ·cases h;exact Er g
  ·cases h;exact yF g
  ·cases h;exact yF g
  ·rename_i i k ks
   cases hb:Nat.beq i k with
   |true=>rw[hb]at h;cases h;obtain rfl:=aa7 hb;exact CQ g
   |false=>rw[hb]at h;cases h;exact CP hb g
  ·cases h
theorem HA:∀{n:Nat} {cf:Cf} {ks:List Kf} {F:cE},sp T N n cf ks F=some (NF,ks',F')->GG P N c D Q ks' F' H NF->GG P N c D Q ks F H cf
 |0,_,_,_,h,g=>by cases h;exact g
 |n+1,_,_,_,h,g=>by
  simp only[sp]at h;split at h
  ·rename_i e;exact Vn e (HA h g)
  ·cases h
class QF(P:Program)(ro:Option Nat)(Q:Exit->Act->World->Prop)(ks:outParam (List Kf))(Q0:outParam (Exit->Act->World->Prop)):Prop where
 ok:Q=dq P ro Q0 ks
instance(priority:=100) aaS(P ro Q ks):QF P ro (dq P ro Q ks) ks Q:=⟨rfl⟩
instance(priority:=50) aaR(P ro K Q ks Q0)[h:QF P ro Q ks Q0]:QF P ro (Exit.then K Q) (.tk K::ks) Q0:=⟨by rw[h.ok];rfl⟩
instance(priority:=10) aaO(P ro Q):QF P ro Q [] Q:=⟨rfl⟩
theorem SC{x:Code}{Q0:Exit->Act->World->Prop}[q:QF P c.ro Q ks Q0](n:Nat)(h:sp T N n (.C x) ks F=some (NF,ks',F'))(g:GG P N c D Q0 ks' F' H NF):WP P N c D x Q F H:=by have:=HA (H:=H) (D:=D) h g;rw[q.ok];exact this
theorem SL{ops:Array Oper}{l:List Oper}{Q0:Exit->Act->World->Prop}[q:QF P c.ro Q ks Q0](n:Nat)(h:sp T N n (.L ops l) ks F=some (NF,ks',F'))(g:GG P N c D Q0 ks' F' H NF):WL P N c D ops Q l F H:=by have:=HA (H:=H) (D:=D) h g;rw[q.ok];exact this
class QX(Q:Exit->Act->World->Prop)(ro:Option Nat)(P:outParam Program)(ks:outParam (List Kf))(Q0:outParam (Exit->Act->World->Prop)):Prop where
 ok:Q=dq P ro Q0 ks
instance(priority:=100) aaQ(P ro Q ks):QX (dq P ro Q ks) ro P ks Q:=⟨rfl⟩
theorem SX{e:Exit}{Q0:Exit->Act->World->Prop}[q:QX Q c.ro P ks Q0](n:Nat)(h:sp T N n (.X e) ks F=some (NF,ks',F'))(g:GG P N c D Q0 ks' F' H NF):WQ N c D Q e F H:=by have:=HA (P:=P) (H:=H) (D:=D) h g;rw[q.ok];exact this
end
theorem PA{P:Program}{N:Nat}{c:Cx}{F:cE}{H:List av}{d:Option Tmp}{ty:TypeId}{ps:String}{af:Array Edge}{g:Option (Nat×Bool)}{T:TypeId}{y:Operand}{s:ByteArray}{k:IntKind}{i:Int}{m:Nat}(hs:s=Lib.pop8tab)(hy:ev F y=some (.int k i))(hi:i=(m:Int))(hm:m<256)[hT:XI P T]:
  VS P N c ⟨d, .index T (.const (.string s)) y,ty,ps,af,g⟩ F H (.int .u8 (Lib.pop8 i)):=
 ax (by simp) λa w hf _ _ =>by subst hs;have e1:a.eval (.const (.string Lib.pop8tab))= .string Lib.pop8tab:=rfl;have:=Lib.run_index_pop8tab (P:=P) w T k i hT.ok (by omega) (by omega);simp only[execOp,e1,ay hf hy];simp[this]
theorem sj{α:Type}{a b:α}(h:some a=some b):a=b:=Option.some.inj h
theorem mo{α:Type}{L:bP α}{A B:World->Prop}{cs:Vs}{x:α}[T5 B A](h:L.dJ A cs x):L.dJ B cs x:=bP.mono _ Qy h
theorem fl{α:Type}{L:bP α}[aR L]{J:World->Prop}{x:α}:L.dJ J (L.enc x) x:=aR.iff.2 rfl
def Bv:List Nat->Bool
 |[]=>true
 |k::r=> !(r.any (Nat.beq k))&&Bv r
theorem Dg:∀{l:List Nat},Bv l=true->l.Nodup
 |[],_ => .nil
 |k::r,h=>by simp only[Bv,aa8,Bool.not_eq_true']at h;refine List.nodup_cons.2 ⟨λhm=>?_,Dg h.2⟩;have:=List.any_eq_false.1 h.1 k hm;rw[Nat.beq_refl]at this;exact this rfl
def Dd(H:List av)(ks:List Nat):Option (List av):=bif Bv ks then pick H ks else none
theorem pD{H R:List av}{ks:List Nat}(h:Dd H ks=some R):pick H ks=some R/\ks.Nodup:=by
 unfold Dd at h;cases hb:Bv ks with
 |true=>rw[hb]at h;exact⟨h,Dg hb⟩
 |false=>rw[hb]at h;cases h
def IX(F:cE):cE->Option cE
 |[]=>some []
 |(k,_)::r=>match lk F k with
  |some v=>match IX F r with
   |some l=>some ((k,v)::l)
   |none=>none
  |none=>none
theorem AY{F:cE}:∀{I:cE},IX F I=some I->Uv I F
 |[],_ =>trivial
 |(k,u)::r,h=>by
  simp only[IX]at h;split at h
  ·rename_i v hv
   split at h
   ·rename_i l hl
    simp only[Option.some.injEq,List.cons.injEq,Prod.mk.injEq,true_and]at h;obtain⟨h1,h2⟩:=h;subst h1;subst h2;exact⟨hv,AY hl⟩
   ·cases h
  ·cases h
def BD(F:cE):List Nat->Option cE
 |[]=>some []
 |k::r=>match lk F k with
  |some v=>match BD F r with
   |some l=>some ((k,v)::l)
   |none=>none
  |none=>none
theorem uH{F:cE}:∀{sl:List Nat} {K:cE},BD F sl=some K->CZ F sl K
 |[],K,h=>by obtain rfl:=Option.some.inj h;exact .nil
 |k::r,K,h=>by
  simp only[BD]at h;split at h
  ·rename_i v hv
   split at h
   ·rename_i l hl
    obtain rfl:=Option.some.inj h;exact .cons hv (uH hl)
   ·cases h
  ·cases h
section
variable {P:Program} {N:Nat} {c:Cx} {D:List Deferred} {Q:Exit->Act->World->Prop} {F:cE} {H:List av} {d:Tmp} {op:Op} {ty:TypeId} {ps:String} {af:Array Edge} {g:Option (Nat×Bool)} {ops:Array Oper} {rest:List Oper} {α β:Type}
theorem W0{H':List av}(h:RX (α:=Unit) P N c ⟨none,op,ty,ps,af,none⟩ F H (λ_ =>True) (λ_ =>undef) (λ_ =>H'))(k:WL P N c D ops Q rest F H'):WL P N c D ops Q (⟨none,op,ty,ps,af,none⟩::rest) F H:=Cc h λ_ _ =>k
theorem W1{fv:α->Value}{fH:α->List av}(hd:Nat.blt d N=true)(h:RX P N c ⟨some d,op,ty,ps,af,none⟩ F H (λ_ =>True) fv fH)(k:∀x,WL P N c D ops Q rest ((d,fv x)::F) (fH x)):WL P N c D ops Q (⟨some d,op,ty,ps,af,none⟩::rest) F H:=vU hd h λx _ =>k x
theorem CV{args:List Operand}{ats:Array TypeId}{f:Nat}{vs:List Value}{v:Value}{pre:World->Prop}(hc:QO P f vs pre v)(hd:Nat.blt d N=true)(ha:Ai F args=some vs)[q:Kn c H pre](k:WL P N c D ops Q rest ((d,v)::F) H):
  WL P N c D ops Q (⟨some d, .call ⟨.value (.func f),args.toArray,ats⟩,ty,ps,af,none⟩::rest) F H:=br hd (Ey hc ha q.ok) k
theorem FT{ρ:Type}{m1 m2:Option ρ}{r:ρ}{x:Operand}{y z:Code}{t:Bool}(h:cn t m1 m2=some r)(hc:ev F x=some (.bool t))(h1:t=true->m1=some r->WP P N c D y Q F H)(h0:t=false->m2=some r->WP P N c D z Q F H):WP P N c D (.cond x y z) Q F H:=
 FH hc (λe=>h1 e (G6 e h)) (λe=>h0 e (G7 e h))
structure XK(n o:Nat)(cs vs cc:Vs):Prop where
 eq:bn cs o vs=cc
 lv:vs.length=n
 le:o+n<=cs.length
 one:kP vs
theorem sto{L:bP α}{M:bP β}{o:Nat}{gg:α->β}{s:α->β->α}{cs vs:Vs}{x x':α}{v:β}{C:World->Prop}(p:aM L M o gg s)(r:L.dJ C cs x)(rv:M.dJ C vs v)(e:x'=s x v):∃cc,XK M.n o cs vs cc/\L.dJ C cc x':=by subst e;exact⟨_,⟨rfl,M.len rv,by rw[L.len r];exact p.le,M.one rv⟩,p.set r rv⟩
theorem RXs{o n m b t T:Nat}{y z:Operand}{val:Value}{cs cs' vs:Vs}{H':List av}{d:Option Tmp}(q:XK n o cs vs cs')(hx:ev F y=some (cj b o))(hz:ev F z=some val)(hv:val.cells.toList=vs)[nZ H b T cs][JI P t m](hn:n=m)[AO H b cs' H']:
  RX (α:=Unit) P N c ⟨d, .store t y z,ty,ps,af,g⟩ F H (λ_ =>True) (λ_ =>undef) (λ_ =>H'):=by subst hn;exact pT hx hz hv q.lv q.le q.one q.eq
theorem rn:qN P F H [] []:= .nil
theorem rt{t:Nat}{v:Value}{rs:List ResultVar}{vs:Vs}(hv:lk F t=some v)(h:qN P F H rs vs):qN P F H (.tmp t::rs) (v::vs):= .tmp hv h
theorem ra{t ty b T n:Nat}{cs:Vs}{rs:List ResultVar}{vs:Vs}(hv:lk F t=some (cj b 0))[hr:nZ H b T cs][ht:p4 P ty n](hl:cs.length=n)(h:qN P F H rs vs):qN P F H (.cell t ty::rs) (.agg cs.toArray::vs):= .agg hv hr ht hl h
theorem ro{t ty b T:Nat}{v:Value}{cs:Vs}{rs:List ResultVar}{vs:Vs}(hv:lk F t=some (cj b 0))[hr:nZ H b T cs][ht:mV P ty](hl:cs=[v])(h:qN P F H rs vs):qN P F H (.cell t ty::rs) (v::vs):= .one hv hr ht hl h
theorem RV{fn:Func}{rs:List ResultVar}{vs:Vs}{v:Value}(hf:fn.results.toList=rs)(hr:qN P F H rs vs)(hv:wW vs=v):WQ N c [] (Post P c fn (λ_ :Unit=>True) (λ_ =>v) (λ_ =>[])) .ret F H:=u6 () hf hr trivial hv (ks:=[]) rfl .nil
theorem RBu{fn:Func}{rs:List ResultVar}{vs:Vs}{R:List av}{p:Value×List Nat×(World->Prop)->Prop}(ks:List Nat)(hk:Dd H ks=some R)(hf:fn.results.toList=rs)(hr:qN P F H rs vs)(hp:p (wW vs,aU R,Hs R)):
  WQ N c [] (Post P c fn p (λx=>x.1) (λx=>[.ext x.2.1 x.2.2])) .ret F H:=λa w hst=>by
 show LeavesInM (FA none) 0 P fn a.tmps _ a.defers .returning w;rw[hst.df];obtain⟨h1,h2⟩:=pD hk;exact⟨_,z8 hf hst.fr hst.hp hr,(wW vs,aU R,Hs R),hp,rfl,hst.si,MA (H':=[]) (by rw[List.append_nil];exact hst.hp.pick h1 h2)⟩
theorem LO{x:Code}(sl ks:List Nat)(I:Nat×β->cE)(J:Nat×β->List av)(p:Nat×β->Prop)(i0:Nat×β)(Jj:p i0){K:cE}(hK:BD F sl=some K)(hs:IX F (I i0)=some (I i0))(hk:Dd H ks=some (J i0))
  (hb:∀m y,p (m,y)->WP P N c D x (IM N c D Q sl K I J p (λz=>z.1) (m,y)) (I (m,y)++K) (J (m,y))):WP P N c D (.loop x) Q F H:=
 MP sl (uH hK) I J p (λz=>z.1) i0 Jj (AY hs) (pD hk).1 (pD hk).2 λi hi=>hb i.1 i.2 hi
theorem LN{K:cE}{sl:List Nat}{I:Nat×β->cE}{J:Nat×β->List av}{p:Nat×β->Prop}{m:Nat}{y0:β}(ks:List Nat)(y:β)(hp:p (m,y))(hs:IX F (I (m,y))=some (I (m,y)))(hl:BD F sl=some K)(hk:Dd H ks=some (J (m,y))):
  WQ N c D (IM N c D Q sl K I J p (λz=>z.1) (m+1,y0)) .normal F H:=MM (m,y) (Nat.lt_succ_self _) hp (AY hs) (uH hl) (pD hk).1 (pD hk).2
theorem CU{x y:Code}(sl:List Nat){K:cE}(hK:BD F sl=some K)(I:α->cE)(J:α->List av)(p:α->Prop)(h1:WP P N c D x (PY N c D Q sl K I J p) F H)(h2:∀i,p i->WP P N c D y Q (I i++K) (J i)):WP P N c D (.seq x y) Q F H:=Pz sl (uH hK) I J p h1 h2
theorem CE{K:cE}{sl:List Nat}{I:α->cE}{J:α->List av}{p:α->Prop}(ks:List Nat)(i:α)(hp:p i)(hs:IX F (I i)=some (I i))(hl:BD F sl=some K)(hk:Dd H ks=some (J i)):WQ N c D (PY N c D Q sl K I J p) .normal F H:=Pv i hp (AY hs) (uH hl) (pD hk).1 (pD hk).2
end
def sn(T:Tb)(N:Nat)(ops:Array Oper):Nat->List Fl->cE->Option (List Fl×cE)
 |0,l,F=>some (l,F)
 |n+1,l,F=>match l with
  |(i,ks)::r=>match ops[i]? with
   |some ⟨some d,op,_,_,_,none⟩=>match sv T (nR F ks) op with
    |some v=>bif Nat.blt d N then sn T N ops n r ((d,v)::F)else none
    |none=>none
   |_ =>none
  |[]=>none
def sr(T:Tb)(ops:Array Oper)(F:cE):Nat->List Fl->Option (List Value×List Fl)
 |0,l=>some ([],l)
 |n+1,l=>match l with
  |(i,ks)::r=>match ops[i]? with
   |some ⟨some _,op,_,_,_,none⟩=>match sv T (nR F ks) op with
    |some v=>match sr T ops F n r with
     |some (vs,l')=>some (v::vs,l')
     |none=>none
    |none=>none
   |_ =>none
  |[]=>none
def sk(ops:Array Oper)(F:cE):Nat->List Fl->Option (List Value)
 |0,_ =>some []
 |n+1,l=>match l with
  |(i,_)::r=>match ops[i]? with
   |some ⟨some d,_,_,_,_,none⟩=>match lk F d with
    |some v=>match sk ops F n r with
     |some vs=>some (v::vs)
     |none=>none
    |none=>none
   |_ =>none
  |[]=>none
section
variable {P:Program} {T:Tb} [hT:FO P T] {N:Nat} {c:Cx} {D:List Deferred} {ops:Array Oper} {Q:Exit->Act->World->Prop} {F F':cE} {H:List av} {l l':List Fl}
theorem NS{K:cE->Prop}(n:Nat)(h:sn T N ops n l F=some (l',F'))(k:nJ P N c ops H l' F' K):nJ P N c ops H l F K:=by
 induction n generalizing l F with
 |zero=>cases h;exact k
 |succ n ih=>
  simp only[sn]at h;split at h
  ·rename_i i ks r
   split at h
   ·rename_i d op _ _ _ ho
    split at h
    ·rename_i v hv
     cases hd:Nat.blt d N with
     |false=>rw[hd]at h;cases h
     |true=>rw[hd]at h;exact xu ho hd (M5 rfl (Kv hv)) (ih h)
    ·cases h
   ·cases h
  ·cases h
theorem RSn{vs:List Value}(n:Nat)(h:sr T ops F n l=some (vs,l'))(h2:sk ops F n l=some vs)(k:yH P N c ops F H l'):yH P N c ops F H l:=by
 induction n generalizing l vs with
 |zero=>simp only[sr,Option.some.injEq,Prod.mk.injEq]at h;rw[h.2];exact k
 |succ n ih=>
  simp only[sr]at h;simp only[sk]at h2;split at h
  ·rename_i i ks r
   split at h
   ·rename_i d op _ _ _ ho
    dsimp only at h2;rw[ho]at h2;dsimp only at h2;split at h
    ·rename_i v hv
     split at h
     ·rename_i us l2 h3
      simp only[Option.some.injEq,Prod.mk.injEq]at h;obtain⟨rfl,rfl⟩:=h;split at h2
      ·rename_i u hu
       split at h2
       ·rename_i ws h4
        simp only[Option.some.injEq,List.cons.injEq]at h2;obtain⟨rfl,rfl⟩:=h2;exact DC ho hu (M5 rfl (Kv hv)) (ih h3 h4)
       ·cases h2
      ·cases h2
     ·cases h
    ·cases h
   ·cases h
  ·cases h
theorem RE{vs:List Value}(n:Nat)(h:sr T ops F n l=some (vs,[]))(h2:sk ops F n l=some vs):yH P N c ops F H l:=RSn n h h2 trivial
end
section
variable {P:Program} {N:Nat} {c:Cx} {D:List Deferred} {ops:Array Oper} {Q:Exit->Act->World->Prop} {F:cE} {H:List av} {i:Nat} {ks:List Nat} {q:List Fl} {d:Nat} {v v':Value} {op:Op} {ty:TypeId} {ps:String} {af:Array Edge} {g:Option (Nat×Bool)} {α:Type}
theorem NV{K:cE->Prop}(ho:ops[i]? =some ⟨some d,op,ty,ps,af,none⟩)(hN:Nat.blt d N=true)(hv:VS P N c ⟨some d,op,ty,ps,af,none⟩ (nR F ks) H v)(hr:nJ P N c ops H q ((d,v)::F) K):nJ P N c ops H ((i,ks)::q) F K:=xu ho hN (M5 rfl hv) hr
theorem NC{K:cE->Prop}{args:List Operand}{ats:Array TypeId}{f:Nat}{vs:List Value}{pre:World->Prop}(ho:ops[i]? =some ⟨some d, .call ⟨.value (.func f),args.toArray,ats⟩,ty,ps,af,none⟩)(hN:Nat.blt d N=true)(hc:QO P f vs pre v)(ha:Ai (nR F ks) args=some vs)[k:Kn c H pre](hr:nJ P N c ops H q ((d,v)::F) K):nJ P N c ops H ((i,ks)::q) F K:=xu ho hN (M5 rfl (Ey hc ha k.ok)) hr
theorem RO(ho:ops[i]? =some ⟨some d,op,ty,ps,af,none⟩)(hl:lk F d=some v)(hv:VS P N c ⟨some d,op,ty,ps,af,none⟩ (nR F ks) H v')(e:v'=v)(hr:yH P N c ops F H q):yH P N c ops F H ((i,ks)::q):=DC ho hl (M5 rfl (Hg hv e)) hr
theorem T0{new:List Fl}{t:Tr}(h:nJ P N c ops H new F λF'=>A9 P N c D ops Q t F' H):A9 P N c D ops Q (.IZ [] new t) F H:=⟨trivial,h⟩
theorem F0{new:List Fl}(h:nJ P N c ops H new F λF'=>WQ N c D Q .normal F' H):A9 P N c D ops Q (.fin [] new) F H:=⟨trivial,h⟩
theorem F00(h:WQ N c D Q .normal F H):A9 P N c D ops Q (.fin [] []) F H:=⟨trivial,h⟩
theorem X1{s:Nat}{here:Tr}{p:α->Prop}{fv:α->Value}{fH:α->List av}(ho:ops[s]? =some ⟨some d,op,ty,ps,af,none⟩)(hN:Nat.blt d N=true)(hv:RX P N c ⟨some d,op,ty,ps,af,none⟩ (nR F ks) H p fv fH)(h:∀x,p x->A9 P N c D ops Q here ((d,fv x)::F) (fH x)):A9 P N c D ops Q (.alt s ks here .no) F H:=M8 ho hN (XM rfl hv) h trivial
theorem X0{s:Nat}{here:Tr}{fH:List av}(ho:ops[s]? =some ⟨none,op,ty,ps,af,none⟩)(hv:RX (α:=Unit) P N c ⟨none,op,ty,ps,af,none⟩ (nR F ks) H (λ_ =>True) (λ_ =>undef) (λ_ =>fH))(h:A9 P N c D ops Q here F fH):A9 P N c D ops Q (.alt s ks here .no) F H:=M9 ho (XM rfl hv) (λ_ _ =>h) trivial
theorem GB{rest:List Oper}{j k:Nat}{want b:Bool}(hd:(ops[j]?).bind (·.dst)=some k)(hl:lk F k=some (.bool b))(hN:Nat.blt d N=true)(hv:(b==want)=true->VS P N c ⟨some d,op,ty,ps,af,some (j,want)⟩ F H v)
  (h:WL P N c D ops Q rest ((d,bif (b==want)then v else undef)::F) H):WL P N c D ops Q (⟨some d,op,ty,ps,af,some (j,want)⟩::rest) F H:=aaN (No hd hl) hN hv h
end
theorem fo{α:Type}{P:Program}{f:Nat}{fn:Func}{code:Code}{N:Nat}{args:Vs}{K:World->Prop}[S:xm K]{p:α->Prop}{fv:α->Value}{fH:α->List av}(hf:P.funcs[f]? =some fn)(hname:(fn.name== "runtime.NumGoroutine")=false)(hb:fn.body=some code)(hN:fn.ntmps=N)(ha:Nat.ble args.length N=true)
  (h:∀c:Cx,(∀R,UC c R K)->c.ro=none->c.bs=[]->K c.w0->WP P N c [] code (Post P c fn p fv fH) (uL 0 args) []):Fn P f args K [] p fv fH:=
 pH hf hname hb hN ha λc jK hpre hro=>h c (OM jK hpre) hro jK hpre
end Go.Bw
namespace Go.Bw
open Go Go.RowKit
abbrev rE(T:Nat)(e:Int):List PanicEntry:=[{v:= .iface T (.int .i64 e),recovered:=false}]
def tc{α:Type}(b:Bool)(f:α)(k:Option α):Option α:=bif b then k else some f
def tr{α β:Type}(x:Option (Except Int α))(f:Int->β)(k:α->Option β):Option β:=match x with
 |some (.ok a)=>k a
 |some (.error e)=>some (f e)
 |none=>none
end Go.Bw
namespace Go.Bw
open Go Go.RowKit
section
variable {α:Type} {P:Program} {N:Nat} {c:Cx} {F:cE} {H:List av} {D:List Deferred} {fn:Func} {p:α->Prop} {fv:α->Value} {fH:α->List av} {ops:Array Oper} {d:Option Tmp} {ty:TypeId} {ps:String} {af:Array Edge}
theorem MZ{A:World->Prop}{x:Operand}{t b off:Nat}{v:Value}(hA:∀w,A w->w.cell? ⟨b,off,none⟩=some v)(hx:ev F x=some (cj b off))[mV P t][hk:Kn c H A]:VS P N c ⟨d, .load t x,ty,ps,af,none⟩ F H v:=
 ax (by simp) λa w hf hs hp=>by have:=gJ (P:=P) (t:=t) (a:=⟨b,off,none⟩) (hA w (hk.ok w hs hp));simp[execOp,ay hf hx,Instr.loadAt,Instr.sureAddr,this]
theorem Hh{A:World->Prop}{q:IntKind}{b:Nat}{x y:Operand}{t kt e:TypeId}{k:Int}(z v:Value)(bb:Bool)(hA:∀w,A w->∃l,QM b q (λv:Value=>v) l w/\ke l k z=v/\mj l k=bb)[ht:AL P t kt e q][hz:Hp P e z](hx:ev F x=some (.map (some b)))(hy:ev F y=some (.int q k))[hk:Kn c H A]:
  VS P N c ⟨d, .lookup t x y true,ty,ps,af,none⟩ F H (.tuple #[v, .bool bb]):=by
 haveI hz':Hp P e ((λv:Value=>v) z):=hz;refine ax (by simp) λa w hf hs hp=>?_;obtain⟨l,h0,h1,h2⟩:=hA w (hk.ok w hs hp);subst h1 h2;simp[execOp,ay hf hx,ay hf hy,lA w ht hz' h0,Result.andThen]
end
end Go.Bw
namespace Go.Rw
open Go Go.Bw Go.RowKit
variable {G:Sg} {P:Program} {tt:TT P G} {J:World->Prop} {ρ:aP} {a:Act} {w:World} {d:Option Tmp} {ty:TypeId} {ps:String} {af:Array Edge}
 {N:Nat} {c:Cx} {H:List av} {D:List Deferred} {C:CC G} {S:AS G}
theorem KF{T:Nat}{g0:IntKind×List (Int×Nat)}(hgt:G.gt=some g0)(h1:nX P T=true):SK P ⟨d, .load T (.global 0),ty,ps,af,none⟩ C S {S with O:=(S.nx, .gm)::S.O,nx:=S.nx+1} (.mp S.nx):=by
 intro c N ρ J HK X a w next Q h hk
 obtain⟨HS,r1,hs0,hm⟩:=h.st;obtain⟨mb,hmb⟩:=h.kn.gl g0 hgt;haveI:mV P T:=⟨h1⟩;haveI:Kn c (HS++(HK++X)) J:=⟨λw' _ hp=>h.kn.to w' λr hr=>⟨hp.holds r (by simp[hr]),λb hb=>(hp.own r (by simp[hr]) b hb).2⟩⟩;refine(MZ (P:=P) (N:=N) (c:=c) (F:=kN a) (H:=HS++(HK++X)) (A:=J) (v:= .map (some mb)) (b:=0) (off:=0) (λw hw=>(hmb w hw).1) rfl) a.defers a w next Q hs0 λw' hs=>?_
 have yp:aX c.bs c.w0.heap.size (.row (.slice none 0 0) 0 1 0 []::(HS++(HK++X))) w':=vB (hs0.hp.ext hs);refine hk (ρ.set S.nx (.map (some mb))) J [] w' _ (aP.jT _ _ _) (λ_ h=>h) ⟨_,aP.fJ _ _ _,rfl,rfl,rfl⟩ (h.new r1 (h.si.s.ext hs) yp ⟨⟨mb,g0,aP.fJ _ _ _,hgt,hmb⟩,rfl⟩)
def Al(P:Program)(T:Nat)(q:IntKind):Bool:=match P.underlying T with
 |some (.map k e)=>(match P.underlying k with
  |some (.int q')=>Nat.beq (Ty.bp.ik q) (Ty.bp.ik q')
  |_ =>false)&&(match(P.info? e).bind (·.zero)with
  |some .nilFunc=>true
  |_ =>false)
 |_ =>false
def DJ:List (Int×Nat)->Int->Option Nat
 |[],_ =>none
 |(a,f)::r,k=>bif k==a then some f else DJ r k
theorem N0{k:Int}:∀{l:List (Int×Nat)},(∀f,DJ l k=some f->ke (l.map Ah) k .nilFunc= .func (.func f) #[] #[]/\mj (l.map Ah) k=true)/\(DJ l k=none->ke (l.map Ah) k .nilFunc= .nilFunc/\mj (l.map Ah) k=false):=by
 intro l
 induction l with
 |nil=>exact⟨λf h=>by(cases h),λ_ =>⟨rfl,rfl⟩⟩
 |cons p r ih=>
  obtain⟨a,f0⟩:=p;simp only[DJ,List.map_cons];cases hb:(k==a)with
  |true=>
   have e:dm (Ah (a,f0)::r.map Ah) k=some (0, .func (.func f0) #[] #[]):=by show(bif k==a then _ else _)=_;rw[hb];rfl
   refine⟨λf h=>?_,λh=>by cases h⟩;cases h;simp only[ke,mj,e];exact⟨rfl,rfl⟩
  |false=>
   have e:dm (Ah (a,f0)::r.map Ah) k=(dm (r.map Ah) k).map λq=>(q.1+1,q.2):=by show(bif k==a then _ else _)=_;rw[hb];rfl
   have e1:ke (Ah (a,f0)::r.map Ah) k .nilFunc=ke (r.map Ah) k .nilFunc:=by unfold ke;rw[e];cases dm (r.map Ah) k<;>rfl
   have e2:mj (Ah (a,f0)::r.map Ah) k=mj (r.map Ah) k:=by unfold mj;rw[e];cases dm (r.map Ah) k<;>rfl
   rw[e1,e2];exact ih
def Q7:Option Nat->AV G
 |some f=> .iy (.cons (.fn (.func f) .nil .nil) (.cons (.kb true) .nil))
 |none=> .iy (.cons .kL (.cons (.kb false) .nil))
theorem I1{T r:Nat}{x y:Operand}{q:IntKind}{k:Int}{b:Bool}{g0:IntKind×List (Int×Nat)}(hgt:G.gt=some g0)(hx:dV C S [] x=some (.mp r))(ho:Lm C S r=some .gm)(hy:iZ (dV C S [] y)=some (q,k,b))(hq:Nat.beq (Ty.bp.ik q) (Ty.bp.ik g0.1)=true)(hc:Al P T g0.1=true):
  SK P ⟨d, .lookup T x y true,ty,ps,af,none⟩ C S S (Q7 (DJ g0.2 k)):=by
 intro c N ρ J HK X a w next Q h hk
 obtain⟨HS,r1,hs0,hm⟩:=h.st;have hE:=bU h (ch:=[]) (by simp);obtain⟨zf,hres,⟨mb,g1,m1,m2,m3⟩,_⟩:=hm.ob r _ ho;rw[hgt]at m2;cases m2;obtain rfl:=BF hq;have Z3:a.eval x= .map (some mb):=by obtain⟨u,u1,u2,_⟩:=hE.ok _ _ hx;rw[m1]at u1;cases u1;exact(List.cons.inj u2).1
 have qI:=hE.ev _ _ hx;rw[Z3]at qI;have fl:=gG hE hy;haveI:Kn c (HS++(HK++X)) J:=⟨λw' _ hp=>h.kn.to w' λr hr=>⟨hp.holds r (by simp[hr]),λb hb=>(hp.own r (by simp[hr]) b hb).2⟩⟩;unfold Al at hc;split at hc
 ·rename_i kt e hu
  simp only[aa8]at hc;obtain⟨LZ,Nx⟩:=hc;split at LZ
  ·rename_i q' hk'
   obtain rfl:=BF LZ;split at Nx
   ·rename_i hz
    haveI:AL P T kt e g0.1:=⟨hu,hk'⟩;haveI:Hp P e .nilFunc:=⟨hz⟩;obtain⟨t1,t2⟩:=N0 (k:=k) (l:=g0.2);have hv:rv J ρ (Q7 (G:=G) (DJ g0.2 k)) (.tuple #[ke (g0.2.map Ah) k .nilFunc, .bool (mj (g0.2.map Ah) k)]):=by
     cases hf:DJ g0.2 k with
     |some f=>obtain⟨e1,e2⟩:=t1 f hf;rw[e1,e2];exact⟨[.func (.func f) #[] #[], .bool true],rfl,_,_,rfl,⟨[],[],rfl,rfl,rfl⟩,_,_,rfl,rfl,rfl⟩
     |none=>obtain⟨e1,e2⟩:=t2 hf;rw[e1,e2];exact⟨[.nilFunc, .bool false],rfl,_,_,rfl,rfl,_,_,rfl,rfl,rfl⟩
    refine(Hh (P:=P) (N:=N) (c:=c) (F:=kN a) (H:=HS++(HK++X)) (A:=J) (q:=g0.1) (b:=mb) .nilFunc _ _ (λw hw=>by
     obtain⟨l,l1,l2⟩:=(m3 w hw).2;exact⟨l,l1,(l2 k).1,(l2 k).2⟩) qI fl) a.defers a w next Q hs0 λw' hs=>?_
    exact hk ρ J [] w' _ (aP.b5 _ _) (λ_ h=>h) hv (by
     obtain⟨UH,p1,p3⟩:=h.hp;exact⟨h.tm,h.df,h.si.ext hs,h.fs,h.fc,h.kc,⟨UH,p1,p3.ext hs⟩,h.kn,h.fr⟩)
   ·cases Nx
  ·cases LZ
 ·cases hc
def G9(P:Program)(T:Nat):Bool:=match P.underlying T with
 |some .string=>true
 |_ =>false
def K3(P:Program)(E:Operand->Option (AV G))(T:Nat)(x y:Operand):PV G:=match x with
 | .const (.string s)=>match iZ (E y)with
  |some (_,i,_)=>bif decide (s=Lib.pop8tab)&&G9 P T then some ([cB i 256], .int .u8 (Lib.pop8 i))else none
  |none=>none
 |_ =>none
theorem K0{ob:Nat->Option (Ob G)}{E:Operand->Option (AV G)}{g:Option (Nat×Bool)}(hm:Ht (G:=G) J ρ N c D H ob a w)(hE:v9 J ρ a E){T:Nat}{x y:Operand}{v:AV G}{gs:List Bool}(h:K3 P E T x y=some (gs,v))(hg:∀b∈gs,b=true):xn P c J ρ ⟨d, .index T x y,ty,ps,af,g⟩ a w v:=by
 unfold K3 at h;split at h
 ·rename_i s
  split at h
  ·rename_i k i q hl
   cases hb:(decide (s=Lib.pop8tab)&&G9 P T)with
   |false=>rw[hb]at h;cases h
   |true=>
    rw[hb]at h;cases h;simp only[aa8,decide_eq_true_eq]at hb;obtain⟨h1,h2⟩:=bz (hg (cB i 256) (by simp));have fl:=gG hE hl;have ht:P.underlying T=some .string:=by
     have:=hb.2;unfold G9 at this;split at this
     ·assumption
     ·cases this
    haveI:XI P T:=⟨ht⟩;exact⟨_,rfl,(PA hb.1 fl h1 h2).vk hm.st⟩
  ·cases h
 ·cases h
end Go.Rw
namespace Go.Bw
open Go
theorem P6{x:Int}(h1: -9223372036854775808<=x)(h2:x<=9223372036854775807):wr .i64 x=x:=IntWalk.i64_in x ⟨h1,h2⟩
section
variable {α ρ:Type}
theorem Ep{m:Option α}{x:α}{f:α->Option ρ}(h:m=some x):bd m f=f x:=by subst h;rfl
theorem En{b:Bool}{x y:Option ρ}(h:b=true):cn b x y=x:=by subst h;rfl
theorem BX{b:Bool}{x y:Option ρ}(h:b=false):cn b x y=y:=by subst h;rfl
theorem yB{g:Bool}{m:Option α}{z x:α}{f:α->Option ρ}(h:g=true)(hm:m=some x):cl g m z f=f x:=by subst h;subst hm;rfl
end
end Go.Bw
namespace Go.Bw
open Go Go.RowKit
section
variable {α:Type} {P:Program} {N:Nat} {c:Cx} {F:cE} {H:List av} {d:Option Tmp} {ty:TypeId} {ps:String} {af:Array Edge} {g:Option (Nat×Bool)}
theorem KP(L:bP α)[aR L](z0:α){z:Value}(he:L.enc z0=[z])(m:Nat):cH L (List.replicate m z0)=List.replicate m z:=ze L z0 he m
theorem TN{x y:Operand}{t e m:Nat}{k k':IntKind}{z:Value}{L:bP α}[aR L](z0:α)[ht:rF P t e 1][hz:fM P e [z]](he:L.enc z0=[z])(hx:ev F x=some (.int k (m:Int)))(hy:ev F y=some (.int k' (m:Int)))(bytes:Nat)(hb:(P.info? e).map (·.bytes)=some bytes)(hm:m*bytes<=140737488355328)(hm2:m<=140737488355328):
  RX P N c ⟨d, .makeSlice t x y,ty,ps,af,g⟩ F H (λ_ =>True) (λb=> .slice (some ⟨b,0,none⟩) m m) (λb=>nN (.slice (some ⟨b,0,none⟩) m m) e 1 L (List.replicate m z0)::H):=λD a w next Q hst hk=>by
 obtain⟨i,h1,h2,h3⟩:=rF.get ht.ok;obtain⟨i',zz,h4,h5,h6⟩:=fM.get hz.ok;rw[h2]at h4;cases h4;have hby:i.bytes=bytes:=by simpa[h2]using hb
 have ZZ:zz.cells= #[z]:=by apply Array.ext';rw[h6]
 refine cq (by simp) (v:= .slice (some ⟨w.heap.size,0,none⟩) m m) (w':=w.alloc (.cells (List.replicate m z).toArray e)) ?_ (hk w.heap.size _ trivial (hst.si.ext (aJ.alloc _ _)) ?_)
 ·have w1:IntKind.i64.wrap (m:Int)=m:=P6 (by omega) (by omega)
  have hcells:(Array.range (m*1)).map (λq=>(#[z]:Array Value)[q%(#[z]:Array Value).size]!)=(List.replicate m z).toArray:=by
   apply Array.ext
   ·simp
   ·intro j h1 h2;simp[Nat.mod_one]
  have c1:¬((m:Int)<0):=by omega
  have c2:¬(((bytes:Int)*m)>2^48):=by
   have:(bytes:Int)*m=((m*bytes:Nat):Int):=by push_cast;rw[Int.mul_comm]
   rw[this];omega
  have c3:¬(m*bytes>roomBytes):=by
   have:roomBytes=140737488355328:=by rfl
   omega
  have a1:∀(k:IntKind) (w:World),(asInt (.int k (m:Int))).run P w= .ok (m:Int) w:=λk w=>by simp[asInt,asIntOf,Sem.run]
  simp only[execOp,Instr.makeSlice,Sem.run_bind,run_underlying h1,Result.andThen_ok,ay hst.fr hx,ay hst.fr hy,a1,Sem.run_pure,typeInfo,sizeOf,w1];have c4:¬(281474976710656<(bytes:Int)*m):=by simpa using c2
  have OZ:Array.map (λx=>([z]:List Value)[x%1]?.getD default) (Array.range m)=Array.replicate m z:=by
   apply Array.ext
   ·simp
   ·intro j h1 h2;simp[Nat.mod_one]
  by_cases hm0:m=0
  ·subst hm0
   simp[h2,h3,hby,w1,askRoom,c3,newRow,newObj,Sem.run];congr 2;apply Array.ext
   ·simp
   ·intro j h1 h2;simp at h2
  ·simp[h2,h3,hby,w1,askRoom,c3,hm0,zeroValue,typeInfo,h5,ZZ,newRow,newObj,Sem.run]
   rw[aa6 (by rintro((h|h)|h);exact c1 h;exact c4 h;exact c1 h),OZ]
 ·have:=hst.hp.box e (List.replicate m z) hst.si.size
  refine this.za (k:=0) (r:= .cells w.heap.size e (List.replicate m z)) rfl (λw' hw=>?_) (λb hb=>by simpa[av.bK,Value.ownBlock]using hb);have hb:w'.heap[w.heap.size]? =some (.cells (List.replicate m z).toArray e (0,0)):=hw;have e1:=KP L z0 he m;refine⟨by rw[e1];simp, .inr ⟨w.heap.size,m,_,by simp,Nat.zero_le _,hb,by simp,by unfold maxLen;omega,by simp,?_⟩⟩;rw[e1];simp
theorem Gq(L:bP α)[aR L](hn:L.n=1)(xs:List α)(m:Nat):cH L (xs.take m)=(cH L xs).take m:=by
 by_cases h:m<=xs.length
 ·have:=Da L xs (m:=m) hn h
  rw[Nat.mul_one]at this;exact this.symm
 ·rw[List.take_of_length_le (by omega),List.take_of_length_le (by rw[ju,hn];omega)]
theorem Gr(L:bP α)[aR L](hn:L.n=1)(xs:List α)(m:Nat):cH L (xs.drop m)=(cH L xs).drop m:=by
 have e:cH L xs=cH L (xs.take m)++cH L (xs.drop m):=by rw[← pz,List.take_append_drop]
 by_cases h:m<=xs.length
 ·have hl:(cH L (xs.take m)).length=m:=by rw[ju,hn,List.length_take];omega
  have e2:=congrArg (List.drop m) e;rw[List.drop_left' hl]at e2;exact e2.symm
 ·rw[List.drop_of_length_le (by omega),List.drop_of_length_le (by rw[ju,hn];omega)];rfl
theorem Nh{x y:Operand}{t t' e:TypeId}{v u:Value}{L:bP α}[aR L]{xs ys:List α}{A:World->Prop}{f:av->List av}(hf:Fz A u L ys)(hn:L.n=1)(ht:Aj P t e 1=true)(hv:∃b cap,v= .slice (some ⟨b,0,none⟩) xs.length cap)(hx:ev F x=some v)(hy:ev F y=some u)[hr:qv H v e 1 xs.length (cH L xs) f][hk:Kn c H A]:
  RX (α:=Unit) P N c ⟨d, .call ⟨.builtin .copy, #[x,y], #[t,t']⟩,ty,ps,af,g⟩ F H (λ_ =>True) (λ_ => .int .i64 (min ys.length xs.length:Nat)) (λ_ =>f (nN v e 1 L (ys.take xs.length++xs.drop ys.length))):=λD a w next Q hst hk2=>by
 obtain⟨inf,e1,e2,e3⟩:=rF.get ht;obtain⟨k,k1,k2⟩:=hr.ok;obtain⟨b,cap,rfl⟩:=hv;have hm:av.row (.slice (some ⟨b,0,none⟩) xs.length cap) e 1 xs.length (cH L xs)∈H:=List.mem_of_getElem? k1;obtain⟨r1,r2⟩:=hst.hp.holds _ hm;rcases r2 with⟨h,_⟩|⟨b',cap',cur,h,_,hb,hle,Jk,hsz,Um⟩
 ·cases h
 cases h;have hro:=hf.ro w (hk.ok w hst.si hst.hp);rw[hn]at hro;have hX:(cH L xs).length=xs.length:=by rw[ju,hn,Nat.mul_one]
 have hY:(cH L ys).length=ys.length:=by rw[ju,hn,Nat.mul_one]
 let cs:=(cH L ys).take xs.length;have pG:cs.length=min ys.length xs.length:=by simp only[cs,List.length_take,hY];omega
 have h1:∀v∈cs,v.oneCell'=true:=λv hv=>KQ L ys v (List.take_subset _ _ hv);have hcs:cur.size=cap:=by omega
 let Z:=(cur.toList.take 0++cs++cur.toList.drop (0+cs.length)).toArray;have hrun:(Builtin.copy_ #[t,t'] ty #[.slice (some ⟨b,0,none⟩) xs.length cap,u]).run P w= .ok (goInt cs.length) (w.setRow b Z):=by
  rcases hro.2 with⟨⟨a0,cp,rfl⟩,h0⟩|⟨gb,off,cp,rfl,_,_,hrd⟩
  ·have hy0:ys=[]:=List.length_eq_zero_iff.1 h0
   have hc0:cs=[]:=List.length_eq_zero_iff.1 (by rw[pG,h0];simp);cases a0 with
   |some a0=>exact run_copy_row (P:=P) w t t' ty e b 0 xs.length cap a0 0 cp cur e cs e1 (by simp[e2,e3]) hb (by rw[pG,h0]) (λj v hj=>by rw[hc0]at hj;cases hj) (by rw[hc0];simp) h1
   |none=>have Ea:=run_storeCells_at P b 0 e cs 0 cur w hb (by rw[hc0];simp) h1;have hi:inf.size=1:=e3;simp only[Z];rw[hc0]at Ea ⊢;simp[Builtin.copy_,run_underlying e1,Builtin.lenOf,Builtin.firstCells,sizeOf,typeInfo,e2,hi]at Ea ⊢;simp[Ea]
  ·exact run_copy_row (P:=P) w t t' ty e b 0 xs.length cap ⟨gb,off,none⟩ ys.length cp cur e cs e1 (by simp[e2,e3]) hb (by rw[pG]) (λj v hj=>by
    simp only[cs,List.getElem?_take]at hj;split at hj
    ·rw[Addr.add_lit];exact hrd j v hj
    ·cases hj) (by rw[pG];omega) h1
 have gN:aJ [b] w (w.setRow b Z):=⟨rfl,rfl,rfl,by simp,λk _ hk=>setRow_other w b k _ (by simpa using hk)⟩;have hh:=setRow_heap w b cur Z e (0,0) hb;refine cq (by simp) (v:= .int .i64 (min ys.length xs.length:Nat)) (w':=w.setRow b Z) ?_ (hk2 () _ trivial (hst.si.store hst.hp hm (by simp[av.bK,Value.ownBlock]) gN) ?_)
 ·rw[pG]at hrun
  simp[execOp,resolve,invoke,builtin,ay hst.fr hx,ay hst.fr hy,hrun];rfl
 ·rw[k2]
  have e4:cH L (ys.take xs.length++xs.drop ys.length)=cs++(cH L xs).drop ys.length:=by rw[pz,Gq L hn,Gr L hn]
  have e5:(ys.take xs.length++xs.drop ys.length).length=xs.length:=by simp only[List.length_append,List.length_take,List.length_drop];omega
  refine hst.hp.set k1 gN.size (λj hj hne=>gN.block j hj (by simpa[av.bK,Value.ownBlock]using hne)) ?_ hst.si.size (λb' hb'=>?_)
  ·show World.ownsRow _ 0 e 1 _ _ _
   rw[e4,e5];refine⟨by simp only[List.length_append,List.length_drop,pG,hX];omega, .inr ⟨b,cap,Z,rfl,Nat.zero_le _,hh,hle,Jk,?_,?_⟩⟩
   ·simp only[Z,List.size_toArray,List.length_append,List.length_take,List.length_drop,Array.length_toList,pG];omega
   ·simp only[Z,List.take_zero,List.nil_append,Nat.zero_add,Nat.mul_one]
    rw[Nat.mul_one]at Um;rw[← Um,List.take_append,List.take_of_length_le (by rw[pG];omega),pG,List.take_drop];congr 1;by_cases hq:ys.length<=xs.length
    ·rw[Nat.min_eq_left hq,List.drop_take,List.take_drop]
     congr 2;omega
    ·rw[Nat.min_eq_right (by omega),Nat.sub_self,Nat.add_zero,List.drop_of_length_le (by simp;omega),List.drop_of_length_le (by simp;omega)]
  ·have e6:b'=b:=by simpa[av.bK,Value.ownBlock]using hb'
   subst e6;exact⟨.inl (by simp[av.bK,Value.ownBlock]),Nat.lt_of_lt_of_le (abf.1 hb).1 gN.size⟩
end
end Go.Bw
namespace Go.Rw
open Go Go.Bw Go.RowKit
variable {G:Sg} {P:Program} {tt:TT P G} {zt:ZT P G} {J:World->Prop} {ρ:aP} {a:Act} {w:World} {d:Option Tmp} {ty:TypeId} {ps:String} {af:Array Edge} {g:Option (Nat×Bool)}
 {N:Nat} {c:Cx} {H HK X:List av} {C:CC G} {S:AS G} {D:List Deferred} {E:Operand->Option (AV G)}
def yC(P:Program)(e:Nat)(k:IntKind):Bool:=match(P.info? e).bind (·.zero)with
 |some (.int k' n)=>Nat.beq (Ty.bp.ik k') (Ty.bp.ik k)&&n==0
 |_ =>false
theorem Q9{T e bt s:Nat}{k ki:IntKind}{i z0:Int}{q:Bool}(hT:tt.te.find T=some (.sl e 1 bt))(hz:zt.z.find e=some (.int k z0))(hx:iZ (dV C S [] (.tmp s))=some (ki,i,q))(hg:decide (0<=i)=true)(ha:g5 0 i.toNat bt=true)(hbt:0<bt):
  SK P ⟨d, .makeSlice T (.tmp s) (.tmp s),ty,ps,af,g⟩ C S {S with O:=(S.nx, .row e 1 (.int k) (List.replicate i.toNat z0))::S.O,nx:=S.nx+1} (.row S.nx):=by
 intro c N ρ J HK X a w next Q h hk
 obtain⟨HS,h1,hs0,hm⟩:=h.st;have hE:=bU h (ch:=[]) (by simp);have fx:=gG hE hx;obtain⟨u,z1,z2⟩:=zt.ok e _ hz J ρ;have z2:[u]=[Value.int k z0]:=z2;cases z2;haveI:fM P e [Value.int k z0]:=⟨z1⟩;haveI:=(tt.sl hT).1;obtain⟨m,rfl⟩:∃m:Nat,i=m:=⟨i.toNat,by have:=of_decide_eq_true hg;omega⟩;obtain⟨g1,g2⟩:=pQ ha;have hb:(P.info? e).map (·.bytes)=some bt:=by obtain⟨i,z,e1,e2,e3,e4,e5,e6,e7⟩:=F3.get (tt.sl hT).2.ok;rw[e2];simp[e5]
 simp only[abb,Nat.zero_add]at g1 g2 ⊢;refine TN (P:=P) (N:=N) (c:=c) (F:=kN a) (H:=HS++(HK++X)) (m:=m) (L:=LI k) z0 rfl fx fx bt hb g1 (by have:=Nat.le_mul_of_pos_right m hbt;omega) a.defers a w next Q hs0 λb w' _ hs hp=>?_
 obtain⟨ρ',q1,q2,q3⟩:=xV (t:= .int k) (zs:=List.replicate m z0) h h1 hs hp ⟨some ⟨b,0,none⟩,m,congrArg (λn=>Value.slice (some ⟨b,0,none⟩) n m) (List.length_replicate (n:=m) (a:=z0)).symm⟩ (show(LA (LI k) _).dJ J _ _ from aR.iff.2 (dZ (LI k) (List.replicate m z0))) rfl;exact hk ρ' J [] w' _ q1 (λ_ h=>h) q2 q3
theorem Ph{t:Ty}{l:LS G}{ys:List (t.T G)}(h:B5 l.xs=some ys):l=⟨t,ys⟩:=by obtain⟨t',l'⟩:=l;obtain⟨rfl,rfl⟩:=Iu h;rfl
theorem DM{w:World}{t t' ty e:Nat}{inf:TypeInfo}{u:Value}{n:Nat}(e1:P.underlying t=some (.slice e))(e2:P.info? e=some inf)(hu:qu u n):(Builtin.copy_ #[t,t'] ty #[.slice none 0 0,u]).run P w= .ok (.int .i64 0) w:=by
 obtain⟨a,cp,rfl⟩:=hu;cases a<;>simp[Builtin.copy_,run_underlying e1,Builtin.lenOf,Builtin.firstCells,sizeOf,typeInfo,e2,loadCells,Sem.run]
 all_goals rfl
theorem N3{T T' e bt r:Nat}{x y:Operand}{vy:AV G}{k:IntKind}{xs ys:List (Ty.T G (.int k))}{l:LS G}(hT:tt.te.find T=some (.sl e 1 bt))(hx:dV C S [] x=some (.row r))(hy:dV C S [] y=some vy)(ho:cu S.O r=some (.row e 1 (.int k) xs))(hl:Qi C S vy=some l)(hc:B5 (t:= .int k) l.xs=some ys):
  SK P ⟨d, .call ⟨.builtin .copy, #[x,y], #[T,T']⟩,ty,ps,af,g⟩ C S {S with O:=mh S.O r (.row e 1 (.int k) (ys.take xs.length++xs.drop ys.length))} (.int .i64 ((min ys.length xs.length:Nat):Int)):=by
 intro c N ρ J HK X a w next Q h hk
 obtain⟨HS,h1,hs0,hm⟩:=h.st;have hE:=bU h (ch:=[]) (by simp);obtain⟨kk,x0,k1,⟨vv,ws,m1,rfl,m3,m4,m5⟩,k3⟩:=h1.set ho;obtain rfl:=Ph hc;obtain⟨news,n1,n2,n3⟩:=GD hm hl (hE.ok _ _ hy);have OR:=qh (hE.ok _ _ hx) m1;have qI:=hE.ev _ _ hx;rw[OR]at qI;have R2:ws=cH (LI k) xs:=(aR.iff.1 (show(LA (LI k) xs.length).dJ J ws _ from m4)).trans (dZ (LI k) xs).symm;have hnews:news=cH (LI k) ys:=(aR.iff.1 (show(LA (LI k) ys.length).dJ J news _ from n2)).trans (dZ (LI k) (ys:List Int)).symm;subst R2;subst hnews;have Cy:=mY (m:=HK++X) k1;have hown:w.ownsRow 0 e 1 vv xs.length (cH (LI k) xs):=hs0.hp.holds _ (List.mem_of_getElem? Cy);have done:∀w',aJ c.bs c.w0 w'->aX c.bs c.w0.heap.size ((HS++(HK++X)).set kk (.row vv e 1 (ys.take xs.length++xs.drop ys.length).length (cH (LI k) (ys.take xs.length++xs.drop ys.length)))) w'->next (a.put d (.int .i64 ((min ys.length xs.length:Nat):Int))) w':=λw' hs hp=>by
  rw[qf k1]at hp;refine hk ρ J [] w' _ (aP.b5 _ _) (λ_ h=>h) rfl (h.za (k3 _ _ ?_) hs hp);refine⟨vv,_,m1,rfl,?_,show(LA (LI k) _).dJ J _ _ from aR.iff.2 (dZ (LI k) _),rfl⟩;have:(ys.take xs.length++xs.drop ys.length).length=xs.length:=by simp only[List.length_append,List.length_take,List.length_drop];omega
  rw[this];exact m3
 haveI:qv (HS++(HK++X)) vv e 1 xs.length (cH (LI k) xs) ((HS++(HK++X)).set kk):=⟨kk,Cy,λ_ =>rfl⟩;rcases hown.2 with⟨hv,h0⟩|⟨b,cap,cur,hv,_⟩
 ·subst hv
  have hx0:xs=[]:=List.length_eq_zero_iff.1 h0;subst hx0;obtain⟨inf,e1,e2,e3⟩:=rF.get (tt.sl hT).1.ok;refine cq (by simp) (v:= .int .i64 ((min ys.length 0:Nat):Int)) (w':=w) ?_ (done w hs0.si ?_)
  ·have:=DM (P:=P) (w:=w) (t':=T') (ty:=ty) e1 e2 n3
   simp[execOp,resolve,invoke,builtin,ay hs0.fr qI,this]
  ·refine hs0.hp.za Cy (λw hw=>?_) (λb hb=>?_)
   ·simpa using hw
   ·simpa using hb
 ·have hF:Fz (λw=>Ro w (a.eval y) 1 ys.length (cH (LI k) ys)) (a.eval y) (LI k) ys:=⟨n3,λ_ h=>h⟩
  haveI:Kn c (HS++(HK++X)) (λw=>Ro w (a.eval y) 1 ys.length (cH (LI k) ys)):=⟨λw' h1 h2=>n1.ro w' h1 h2⟩;exact Nh (t':=T') (ty:=ty) (ps:=ps) (af:=af) (g:=g) (d:=d) hF rfl (tt.sl hT).1.ok ⟨b,cap,hv⟩ qI (hE.ev _ _ hy) a.defers a w next Q hs0 λ_ w' _ hs hp=>done w' hs hp
end Go.Rw
namespace Go.Bw
open Go Go.RowKit
section
variable {P:Program} {N:Nat} {c:Cx} {F:cE} {H:List av} {d:Option Tmp} {ty:TypeId} {ps:String} {af:Array Edge} {g:Option (Nat×Bool)} {β:Type} {b:Nat} {q:IntKind} {E:β->Value} {l:List (Int×β)} {f:av->List av}
theorem zL{x y z:Operand}{t kt e:TypeId}{k:Int}{v:Value}(u:β)[ht:AL P t kt e q](hx:ev F x=some (.map (some b)))(hy:ev F y=some (.int q k))(hz:ev F z=some v)[hm:AW H b β q E l f](hv:v=E u):
  RX (α:=Unit) P N c ⟨d, .insert t x y z,ty,ps,af,g⟩ F H (λ_ =>True) (λ_ =>undef) (λ_ =>f (Mp b q E (pE l k u))):=λD a w next Q hst hk=>by
 subst hv;obtain⟨es,clock,h1,h2⟩:=hm.O3 hst.hp;obtain⟨t1,t2⟩:=ht.ok;have hf:=jI (k:=k) w t2 h2;have hc:∀em,(Instr.checkKey em 10000 kt (.int q k)).run P w= .ok () w:=λem=>MapKept.run_checkKey (k:= .int q k) t2 (show q=q from rfl) em 9999;cases LR:dm l k with
 |none=>obtain⟨p1,p2⟩:=hm.put hst h1 (h2.push k u);refine kF (by simp) (w':=w.putObj b (.map (es.push ⟨.int q k,E u,clock⟩) (clock+1))) ?_ (hk () _ trivial p1 (by rw[zm LR];exact p2));rw[LR]at hf;simp[execOp,ay hst.fr hx,ay hst.fr hy,ay hst.fr hz,Instr.mapUpdate,run_underlying t1,MapKept.run_getObj_map h1,hc,hf,MapKept.run_setObj_map _ h1,Result.andThen,World.putObj]
 |some p=>
  have hg:=zn (j:=p.1) (y:=p.2) LR;obtain⟨p1,p2⟩:=hm.put hst h1 (h2.modify p.1 k u);refine kF (by simp) (w':=w.putObj b (.map (es.modify p.1 λe=>{e with key:= .int q k,val:=E u}) clock)) ?_ (hk () _ trivial p1 (by rw[zl (j:=p.1) (y:=p.2) LR];exact p2));rw[LR]at hf;have hkey:((es[p.1]?).map (·.key))=some (.int q k):=by
   have:(es.toList.map λe=>(e.key,e.val))[p.1]? =some (Value.int q k,E p.2):=by rw[h2.kv,List.getElem?_map,hg];rfl
   rw[List.getElem?_map,Array.getElem?_toList]at this;cases he:es[p.1]? with
   |none=>simp[he]at this
   |some e0=>simp[he]at this;simp[this.1]
  simp[execOp,ay hst.fr hx,ay hst.fr hy,ay hst.fr hz,Instr.mapUpdate,run_underlying t1,MapKept.run_getObj_map h1,hc,hf,hkey,MapKept.run_keyThatStays (show MapKept.IsKey (.int q) (.int q k)from rfl),MapKept.run_setObj_map _ h1,Result.andThen,World.putObj]
theorem sD{l:List (Int×Value)}{x y:Operand}{t kt e:TypeId}{k:Int}(z v:Value)(bb:Bool)[ht:AL P t kt e q][hz:Hp P e z](hx:ev F x=some (.map (some b)))(hy:ev F y=some (.int q k))[hm:AW H b Value q (λv=>v) l f](h1:ke l k z=v)(h2:mj l k=bb):
  VS P N c ⟨d, .lookup t x y true,ty,ps,af,g⟩ F H (.tuple #[v, .bool bb]):=by
 subst h1 h2;haveI:Hp P e ((λv:Value=>v) z):=hz;exact Hi (E:=λv:Value=>v) z hx hy
theorem HV{u0 u1 u2 z:Value}{k:Int}(h0:¬k=0)(h1:¬k=1)(h2:¬k=2):ke (pE (pE (pE [] 0 u0) 1 u1) 2 u2) k z=z/\mj (pE (pE (pE [] 0 u0) 1 u1) 2 u2) k=false:=by
 show ke [(0,u0),(1,u1),(2,u2)] k z=z/\mj [(0,u0),(1,u1),(2,u2)] k=false;have e0:(k==0)=false:=by simpa using h0
 have e1:(k==1)=false:=by simpa using h1
 have e2:(k==2)=false:=by simpa using h2
 simp[ke,mj,dm,e0,e1,e2]
end
end Go.Bw
