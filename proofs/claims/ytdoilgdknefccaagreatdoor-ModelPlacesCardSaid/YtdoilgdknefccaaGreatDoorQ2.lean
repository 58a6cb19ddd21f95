/- Part 2 of what a proof leans on; pruned and shortened by a program out of longer texts. -/
import Derived.Test.YtdoilgdknefccaaGreatDoorQ1
namespace Go.Rw
open Go Go.Bw Go.RowKit
variable {G:Sg} {P:Program} {tt:TT P G} {J:World->Prop} {ρ:bT} {a:Act} {w:World} {d:Option Tmp} {ty:TypeId} {ps:String} {af:Array Edge} {g:Option (Nat×Bool)}
 {N:Nat} {c:Cx} {D:List Deferred} {H:List aO} {E:Operand->Option (AV G)} {ob:Nat->Option (Ob G)}
structure V7(J:World->Prop)(ρ:bT)(N:Nat)(c:Cx)(D:List Deferred)(H:List aO)(ob:Nat->Option (Ob G))(a:Act)(w:World):Prop where
 st:St N c D (sI a) H a w
 kn:Kn c H J
 ob:∀r o,ob r=some o->∃x∈H,ro J ρ r o x
def Gl(P:Program)(c:Cx)(J:World->Prop)(ρ:bT)(o:Oper)(a:Act)(w:World)(v:AV G):Prop:=∃u,rv J ρ v u/\VK P c o a w u
theorem xk{r:Nat}{p:List zi}{u:Value}(h:rv (G:=G) J ρ (.ptr r p) u):∃b o,PB ρ r p b o/\u=fW b (o+jr p)/\∀s∈p,s.ok:=by obtain⟨⟨b,o,h1,h2⟩,h3⟩:=h;cases h2;exact⟨b,o,h1,rfl,h3⟩
theorem Qw{r:Nat}{p q:List zi}{b o:Nat}(h:PB ρ r p b o)(hp:∀s∈p,s.ok)(hq:∀s∈q,s.ok):rv (G:=G) J ρ (.ptr r (p++q)) (fW b (o+jr p+jr q)):=by
 refine⟨⟨b,o,h.app,by rw[QD,Nat.add_assoc]⟩,λs hs=>?_⟩;rcases List.mem_append.1 hs with h|h
 ·exact hp s h
 ·exact hq s h
theorem T3{v:AV G}{k:IntKind}{n:Int}{q:Bool}{u:Value}(h:asI v=some (k,n,q))(hv:rv J ρ v u):u= .int k n:=by unfold asI at h;split at h<;>cases h<;>(have hv:[u]=_ :=hv;cases hv;rfl)
theorem Al(hE:E1 J ρ a E){x:Operand}{k:IntKind}{n:Int}{q:Bool}(h:s7 (E x)=some (k,n,q)):a.eval x= .int k n/\Bw.ev (sI a) x=some (.int k n):=by
 unfold s7 at h;split at h
 ·rename_i v hx
  have e:=T3 h (hE.ok _ _ hx);exact⟨e,e▸hE.ev _ _ hx⟩
 ·cases h
theorem Zy(hm:V7 (G:=G) J ρ N c D H ob a w)(hE:E1 J ρ a E){o:BinOp}{T U:Nat}{x y:Operand}{va vb v:AV G}{gs:List Bool}(h:ZA tt o T va vb=some (gs,v))(hg:∀b∈gs,b=true)(hx:E x=some va)(hy:E y=some vb):
  Gl P c J ρ ⟨d, .binOp o T x y U,ty,ps,af,g⟩ a w v:=by
 have ex:=hE.ok _ _ hx;have ey:=hE.ok _ _ hy;have fx:=hE.ev _ _ hx;have fy:=hE.ev _ _ hy;unfold ZA at h;split at h
 ·rename_i k m _ l n qq h1 h2
  have ex:=T3 h1 ex;have ey:=T3 h2 ey;rw[ex]at fx;rw[ey]at fy;unfold afe at h;split at h
  ·cases h;exact⟨_,rfl,(VY fx fy (afy (I4 hg))).vk hm.st⟩
  ·cases h;exact⟨_,rfl,(PA fx fy (afy (I4 hg))).vk hm.st⟩
  ·cases hb:R3 k l with
   |false=>rw[hb]at h;cases h
   |true=>rw[hb]at h;obtain rfl:=IV hb;obtain⟨u,h1,h2⟩:=Zs (J:=J) (ρ:=ρ) (w:=w) (P:=P) (d:=d) (ty:=ty) (ps:=ps) (af:=af) (g:=g) (T:=T) (U:=U) h hg ex ey;exact⟨u,h2,VK.run (by simp) h1⟩
 ·unfold Zz at h
  split at h
  ·rename_i h1 h2
   have ex:=ER h1 ex;have ey:=ER h2 ey;rw[ex]at fx;rw[ey]at fy;split at h
   ·rename_i ht;cases h;haveI:=(tt.bool ht).1;exact⟨_,rfl,(aeT fx fy).vk hm.st⟩
   ·rename_i ht;cases h;haveI:=(tt.bool ht).1;exact⟨_,rfl,(aeO fx fy).vk hm.st⟩
   ·cases h
  ·split at h
   ·have ey:a.eval y= .pointer none:=(List.cons.inj (show[a.eval y]=[Value.pointer none]from ey)).1
    rw[ey]at fy;split at h
    ·rename_i b hb ht
     cases h;obtain⟨p1,p2⟩:=QW hb ex;cases b with
     |true=>obtain⟨m,n,e⟩:=p1 rfl;rw[e]at fx;exact⟨_,rfl,(aeU (tt.ptr ht) fx fy).vk hm.st⟩
     |false=>rw[p2 rfl]at fx;exact⟨_,rfl,(ab1 (tt.ptr ht) fx fy).vk hm.st⟩
    ·rename_i b hb ht
     cases h;obtain⟨p1,p2⟩:=QW hb ex;cases b with
     |true=>obtain⟨m,n,e⟩:=p1 rfl;rw[e]at fx;exact⟨_,rfl,(aeP (tt.ptr ht) fx fy).vk hm.st⟩
     |false=>rw[p2 rfl]at fx;exact⟨_,rfl,(abX (tt.ptr ht) fx fy).vk hm.st⟩
    ·cases h
   ·cases h
theorem Lu{e:Ty}{xs:List (e.T G)}{p:List zi}{u:Value}(h:rv J ρ (.elt e xs p) u):∃v ws,DL J v (e.L G) ws xs/\u=jy v (jr p)/\(∀s∈p,s.ok)/\∃i q,p= .idx xs.length (e.L G).n i::q/\i.toNat<xs.length:=by obtain⟨v,ws,h1,h2,h3,n,sz,i,q,rfl,rfl,rfl⟩:=h;cases h2;refine⟨v,ws,h1,rfl,h3,i,q,rfl,?_⟩;exact(dF (h3 _ List.mem_cons_self)).2
theorem Rk{e:Ty}{xs:List (e.T G)}{p:List zi}{v:Value}{ws:List Value}{i:Int}{q:List zi}{s:zi}(h1:DL J v (e.L G) ws xs)(h3:∀s∈p,s.ok)(hp:p= .idx xs.length (e.L G).n i::q)(hs:s.ok):rv J ρ (.elt e xs (p++[s])) (jy v (jr p+s.off)):=by
 refine⟨v,ws,h1,by rw[QD];simp[jr],λs' hs'=>?_,xs.length,(e.L G).n,i,q++[s],by rw[hp];rfl,rfl,rfl⟩;rcases List.mem_append.1 hs' with h|h
 ·exact h3 _ h
 ·simp at h;subst h;exact hs
theorem Oq{r e sz:Nat}{t:Ty}{xs:List (t.T G)}(hm:V7 (G:=G) J ρ N c D H ob a w)(h:ob r=some (.row e sz t xs)):∃v ws,ρ r=some v/\wv v xs.length/\tv c H v sz xs.length ws/\(LA (t.L G) xs.length).eZ J ws (λi=>xs.getD i default)/\(t.L G).n=sz:=by obtain⟨x,hx,v,ws,h1,h2,h3,h4,h5⟩:=hm.ob _ _ h;subst h2;exact⟨v,ws,h1,h3,⟨λw' _ hp=>Ro.zR (hp.holds _ hx)⟩,h4,h5⟩
theorem xY{r:Nat}{u v:Value}(h:rv (G:=G) J ρ (.row r) u)(hv:ρ r=some v):u=v:=by obtain⟨a0,n,cap,h1,h2⟩:=h;cases h2;rw[h1]at hv;exact Option.some.inj hv
theorem adg(hm:V7 (G:=G) J ρ N c D H ob a w)(hE:E1 J ρ a E){T:Nat}{x y:Operand}{va v:AV G}{k:IntKind}{i:Int}{qq:Bool}{gs:List Bool}(h:agC tt ob T va i qq=some (gs,v))(hg:∀b∈gs,b=true)(hx:E x=some va)(hy:s7 (E y)=some (k,i,qq)):
  Gl P c J ρ ⟨d, .indexAddr T x y,ty,ps,af,g⟩ a w v:=by
 have ex:=hE.ok _ _ hx;have fx:=hE.ev _ _ hx;have fy:=(Al hE hy).2;unfold agC at h;split at h
 ·rename_i r p n _ sz _ ht
  cases h;have hi:=I4 hg;obtain⟨b,o,h1,h2,h3⟩:=xk ex;rw[h2]at fx;haveI:=tt.ou ht;refine⟨fW b (o+jr p+i.toNat*sz),?_,(RI (m:=i.toNat) fx fy (dF hi).1 (dF hi).2).vk hm.st⟩;exact Qw h1 h3 (q:=[.idx n sz i]) (λs hs=>by simp at hs;subst hs;exact hi)
 ·rename_i e xs p n _ sz _ ht
  cases h;have hi:=I4 hg;obtain⟨vv,ws,h1,h2,h3,j,q,h4,h5⟩:=Lu ex;rw[h2]at fx;haveI:=tt.ou ht;haveI:=hm.kn;refine⟨jy vv (jr p+i.toNat*sz),Rk h1 h3 h4 (s:= .idx n sz i) hi,(aeQ (m:=i.toNat) h1 fx fy h5 (dF hi).1 (dF hi).2).vk hm.st⟩
 ·rename_i r _ sz _ ht
  split at h
  ·rename_i e' sz' t xs ho
   cases hb:Nat.beq sz sz' with
   |false=>rw[hb]at h;cases h
   |true=>rw[hb]at h;cases h;obtain rfl:=aoW hb;have hi:=hg _ List.mem_cons_self;obtain⟨vv,ws,h1,h2,h3,h4,h5⟩:=Oq hm ho;have e1:=xY ex h1;rw[e1]at fx;haveI:=(tt.sl ht).1;obtain⟨gb,off,cap,e2,_⟩:=((h3.ro w hm.st.si hm.st.hp).at (dF hi).2);subst e2;refine⟨_,?_,(As (m:=i.toNat) fx fy (dF hi).1 (dF hi).2).vk hm.st⟩;obtain⟨a0,cp,e4⟩:=h2;have e5:xs.length=_ :=rfl;refine⟨⟨gb,off, .inr ⟨_,_,_,_,_,_,h1,rfl,(dF hi).2⟩,?_⟩,λs hs=>by simp at hs;subst hs;exact hi⟩;simp[jy,jr,zi.off]
  ·cases h
 ·rename_i e xs _ sz _ ht
  cases hb:Nat.beq sz (e.L G).n with
  |false=>rw[hb]at h;cases h
  |true=>rw[hb]at h;cases h;have hs:=aoW hb;have hi:=hg _ List.mem_cons_self;obtain⟨u',e1,hr,_,hc⟩:=ex;cases e1;have hc:=hc rfl;obtain⟨v',ws,e2,hf⟩:=hr;rw[hc]at e2;cases e2;haveI:=(tt.sl ht).1;haveI:=hm.kn;refine⟨_,?_,(aiO (m:=i.toNat) hf hs.symm fx fy (dF hi).1 (dF hi).2).vk hm.st⟩;refine⟨_,ws,hf,by simp[jr,zi.off],λs hs'=>by simp at hs';subst hs';exact hi,_,_,_,[],rfl,rfl,hs⟩
 ·cases h
theorem Lo{T:Nat}{v:AV G}{u:Value}(h:A6 tt T v=true)(hv:rv J ρ v u):(sR P T/\u.cells= #[u]/\v.one=true)\/∃n,wu P T n/\u.cells.size=n/\n≠0/\u= .agg u.cells:=by
 unfold A6 at h;split at h
 ·rename_i e he
  split at h
  ·rename_i hs;exact .inl ⟨tt.one he hs,(KY h hv).1,h⟩
  ·rename_i n hs
   split at h
   ·rename_i m hc
    simp only[aoX,Bool.not_eq_true']at h;obtain rfl:=aoW h.1;have hn:n≠0:=λe0=>by rw[e0]at h;simp at h
    have hag:=tt.agg he hs;refine .inr ⟨n,hag,?_,hn,?_⟩
    ·unfold AV.cw at hc
     split at hc
     ·rename_i t x
      cases ha:t.ag with
      |false=>rw[ha]at hc;cases hc
      |true=>rw[ha]at hc;cases hc;obtain⟨u',e1,h1,h2,_⟩:=hv;cases e1;rw[← Array.length_toList];exact(t.L G).len h1
     ·obtain⟨cs,e1,h1,_⟩:=hv
      cases e1;exact BX hc h1
     ·cases hc
    ·unfold AV.cw at hc
     split at hc
     ·rename_i t x
      cases ha:t.ag with
      |false=>rw[ha]at hc;cases hc
      |true=>obtain⟨u',e1,h1,h2,_⟩:=hv;cases e1;obtain⟨cs,rfl⟩:=h2 ha;rfl
     ·obtain⟨cs,e1,h1,_⟩:=hv
      cases e1;rfl
     ·cases hc
   ·cases h
 ·cases h
theorem Fu{cs:List Value}{o:Nat}{u:Value}(h:(cs.drop o).take 1=[u]):cs[o]? =some u:=by
 have h2:((cs.drop o).take 1)[0]? =some u:=by rw[h];rfl
 rw[List.getElem?_take,aoU (by decide),List.getElem?_drop]at h2;exact h2
theorem ag3(hm:V7 (G:=G) J ρ N c D H ob a w){T b o T':Nat}{x:Operand}{cs:List Value}{v:AV G}{u:Value}(hfit:A6 tt T v=true)(hv:rv J ρ v u)(hx:Bw.ev (sI a) x=some (fW b o))(hc:aO.cells b T' cs∈H)(h:(cs.drop o).take u.cells.size=u.cells.toList):
  Gl P c J ρ ⟨d, .load T x,ty,ps,af,g⟩ a w v:=by
 haveI:xL H b T' cs:=⟨hc⟩;rcases Lo hfit hv with⟨h1,h2,_⟩|⟨n,h1,h2,_,h3⟩
 ·haveI:=h1
  refine⟨u,hv,(lz hx (Fu ?_)).vk hm.st⟩;rw[h2]at h;exact h
 ·haveI:=h1
  subst h2;have e:u= .agg u.cells.toList.toArray:=by rw[Array.toArray_toList];exact h3
  refine⟨.agg u.cells.toList.toArray,by rw[← e];exact hv,(I9 hx h (by simp)).vk hm.st⟩
theorem aai(hm:V7 (G:=G) J ρ N c D H ob a w){T o sz n:Nat}{x:Operand}{vv:Value}{ws:List Value}{v:AV G}{u:Value}(hfit:A6 tt T v=true)(hv:rv J ρ v u)(hx:Bw.ev (sI a) x=some (jy vv o))(hr:tv c H vv sz n ws)(h:(ws.drop o).take u.cells.size=u.cells.toList):
  Gl P c J ρ ⟨d, .load T x,ty,ps,af,g⟩ a w v:=by
 haveI:=hr;rcases Lo hfit hv with⟨h1,h2,_⟩|⟨n,h1,h2,h0,h3⟩
 ·haveI:=h1
  refine⟨u,hv,(Jd hx (Fu ?_)).vk hm.st⟩;rw[h2]at h;exact h
 ·haveI:=h1
  subst h2;have e:u= .agg u.cells.toList.toArray:=by rw[Array.toArray_toList];exact h3
  refine⟨.agg u.cells.toList.toArray,by rw[← e];exact hv,(PC hx h (by simp) (by omega)).vk hm.st⟩
theorem Qy{e:Ty}{n:Nat}{i:Int}{r:List zi}{q:PL G e}{ws:List Value}{xs:List (e.T G)}{p:List zi}(hp:p= .idx n (e.L G).n i::r)(hn:i.toNat<xs.length)(h:KW tt.F e p=some q)(hs:∀s∈p,s.ok)(hr:(LA (e.L G) xs.length).eZ J ws (λi=>xs.getD i default)):
  ∃u,rv J ρ (mk q.m (q.get (xs.getD q.i.toNat default))) u/\(ws.drop (jr p)).take u.cells.size=u.cells.toList:=by
 subst hp;obtain⟨e1,e3⟩:=Qx h hs rfl hn;have hg:=e3.get hr;obtain⟨u,k1,k2⟩:=JU hg;have hl:=(q.m.L G).len hg;rw[← k1,Array.length_toList]at hl;rw[e1];exact⟨u,M8 k2,by rw[hl,k1]⟩
theorem adf(hm:V7 (G:=G) J ρ N c D H ob a w)(hE:E1 J ρ a E){T:Nat}{x:Operand}{va v:AV G}(h:agB tt ob va=some v)(hf:A6 tt T v=true)(hx:E x=some va):Gl P c J ρ ⟨d, .load T x,ty,ps,af,g⟩ a w v:=by
 have ex:=hE.ok _ _ hx;have fx:=hE.ev _ _ hx;unfold agB at h;split at h
 ·rename_i r p
  obtain⟨b,o,h1,h2,h3⟩:=xk ex;rw[h2]at fx;split at h
  ·rename_i T' cc ho
   obtain⟨y,hy,b',uu,k1,rfl,k3⟩:=hm.ob _ _ ho;have eb:b=b'/\o=0:=by rcases h1 with h1|⟨n,cap,_,_,_,_,h1,_⟩<;>rw[h1]at k1<;>simp[fW]at k1;exact k1
   obtain⟨rfl,rfl⟩:=eb;rw[Nat.zero_add]at fx;obtain⟨u,m1,m2,m3⟩:=aaj h k3 h3;exact ag3 hm hf m1 fx hy m2
  ·rename_i _ sz t xs ho
   cases hz:aaJ p sz with
   |false=>rw[hz]at h;cases h
   |true=>
    rw[hz]at h;simp only[cond_true]at h;split at h
    ·rename_i q hq
     cases h;obtain⟨vv,ws,k1,k2,k3,k4,k5⟩:=Oq hm ho;have hp:∃n cap n' sz i q',ρ r=some (.slice (some ⟨b,o,none⟩) n cap)/\p= .idx n' sz i::q'/\i.toNat<n:=by
      rcases h1 with h1|h1
      ·obtain⟨a0,cp,e⟩:=k2
       rw[h1,e]at k1;cases k1
      ·exact h1
     obtain⟨n,cap,n',sz',i,q',e1,e2,e3⟩:=hp;subst e2;obtain rfl:=aoW (show Nat.beq sz' sz=true from hz);rw[e1]at k1;cases k1;obtain⟨a0,cp,e4⟩:=k2;cases e4;subst k5;obtain⟨u,m1,m2⟩:=Qy rfl e3 hq h3 k4;exact aai (vv:= .slice (some ⟨b,o,none⟩) xs.length cap) (o:=jr (zi.idx n' (Ty.L G t).n i::q')) hm hf m1 fx k3 m2
    ·cases h
  ·cases h
 ·rename_i e xs p
  obtain⟨vv,ws,h1,h2,h3,i,q',h4,h5⟩:=Lu ex;rw[h2]at fx;split at h
  ·rename_i q hq
   cases h;obtain⟨u,m1,m2⟩:=Qy h4 h5 hq h3 h1.eZ;haveI:=hm.kn;exact aai hm hf m1 fx h1.at m2
  ·cases h
 ·cases h
theorem aeS{T j:Nat}{o:Nat×Option Nat}{F:gp}{x:Operand}{u v:Value}(hf:NI P T j o.1 o.2=true)(hx:Bw.ev F x=some u)(hu:∃cs:List Value,u= .agg cs.toArray)(hv:(u.cells.toList.drop o.1).take v.cells.size=v.cells.toList)
  (h1:o.2=none->v.cells= #[v])(h2:∀n,o.2=some n->v.cells.size=n/\v= .agg v.cells):VS P N c ⟨d, .field T x j,ty,ps,af,g⟩ F H v:=
 bp (by simp) λa w hfr _ _ =>by
  obtain⟨cs,rfl⟩:=hu;unfold NI at hf;rw[aoX]at hf;have hf:=hf.2;split at hf
  ·rename_i fs e1
   split at hf
   ·rename_i fl e2
    rw[aoX]at hf;have ho:=aoW hf.1;have hf:=hf.2;have hp:(part fl.type cs.toArray fl.offset).run P w= .ok v w:=by
     cases q:o.2 with
     |none=>rw[q]at hf;haveI:sR P fl.type:=⟨hf⟩;have hag:(isAgg fl.type).run P w= .ok false w:=vo w;have:=h1 q;rw[this]at hv;have hv:(cs.drop o.1).take 1=[v]:=hv;have:=Fu hv;simp[part,hag,ho,this]
     |some n=>
      rw[q]at hf;haveI:wu P fl.type n:=⟨hf⟩;have hag:(isAgg fl.type).run P w= .ok true w:=xe w;have hs:(sizeOf fl.type).run P w= .ok n w:=Bw.Ev w;obtain⟨q1,q2⟩:=h2 n q;rw[q1]at hv;have hv:(cs.drop o.1).take n=v.cells.toList:=hv;have:(cs.toArray.extract o.1 (o.1+n))=v.cells:=by apply Array.ext';rw[← hv];simp[List.extract_eq_take_drop]
      simp only[part,Sem.run_bind,hag,Result.andThen_ok,if_true,hs,ho,Sem.run_pure,this];rw[← q2]
    have ha:(asAgg (.agg cs.toArray)).run P w= .ok cs.toArray w:=rfl;simp[execOp,bz hfr hx,Instr.field,run_underlying e1,e2,ha,hp]
   ·cases hf
  ·cases hf
theorem adQ{J:World->Prop}{ρ:bT}{F:Uj G}{v y:AV G}{s:zi}{u:Value}(h:U9 F v [s]=some y)(hv:rv J ρ v u):∃cs:List Value,u= .agg cs.toArray:=by
 cases v with
 |dat t x=>
  obtain⟨u',e,_,h1,_⟩:=hv;cases e;cases t with
  |st i=>exact h1 rfl
  |ou n e=>exact h1 rfl
  |int k=>simp[U9,path]at h
  |bool=>simp[U9,path]at h
  |sl e=>simp[U9,path]at h
 |st a=>obtain⟨cs,e,_⟩:=hv;cases e;exact⟨cs,rfl⟩
 |_ =>simp[U9]at h
theorem ahT{y:AV G}{o:Option Nat}{u:Value}(h:Rg o y=true)(hv:rv J ρ y u):(o=none->u.cells= #[u])/\∀n,o=some n->u.cells.size=n/\u= .agg u.cells:=by
 cases o with
 |none=>exact⟨λ_ =>(KY h hv).1,nofun⟩
 |some n=>
  refine⟨nofun,λn' e=>?_⟩;cases e;simp only[Rg]at h;split at h
  ·rename_i m hc
   obtain rfl:=aoW h;unfold AV.cw at hc;split at hc
   ·rename_i t x
    cases ha:t.ag with
    |false=>rw[ha]at hc;cases hc
    |true=>rw[ha]at hc;cases hc;obtain⟨u',e1,h1,h2,_⟩:=hv;cases e1;obtain⟨cs,e2⟩:=h2 ha;refine⟨by rw[← Array.length_toList];exact(t.L G).len h1,?_⟩;subst e2;rfl
   ·obtain⟨cs,e1,h1,_⟩:=hv
    cases e1;exact⟨BX hc h1,rfl⟩
   ·cases hc
  ·cases h
theorem Zn(hm:V7 (G:=G) J ρ N c D H ob a w)(hE:E1 J ρ a E){op:Op}{v:AV G}{gs:List Bool}(h:pv tt ob E op=some (gs,v))(hg:∀b∈gs,b=true):Gl P c J ρ ⟨d,op,ty,ps,af,g⟩ a w v:=by
 unfold pv at h;split at h
 ·split at h
  ·rename_i v' hx;cases h;exact⟨_,hE.ok _ _ hx,(dH (hE.ev _ _ hx)).vk hm.st⟩
  ·cases h
 ·split at h
  ·rename_i v' hx;cases h;exact⟨_,hE.ok _ _ hx,(wE (hE.ev _ _ hx)).vk hm.st⟩
  ·cases h
 ·split at h
  ·rename_i va vb hx hy;exact Zy hm hE h hg hx hy
  ·cases h
 ·split at h
  ·rename_i b hx
   cases h;have e:=CQ (hE.ok _ _ hx);have f:=hE.ev _ _ hx;rw[e]at f;exact⟨_,rfl,(H7 f).vk hm.st⟩
  ·rename_i b hx
   cases h;have e:=M9 (hE.ok _ _ hx);have f:=hE.ev _ _ hx;rw[e]at f;exact⟨_,rfl,(H7 f).vk hm.st⟩
  ·cases h
 ·split at h
  ·rename_i k n _ hx
   cases h;exact⟨_,rfl,(abY (Al hE hx).2 rfl).vk hm.st⟩
  ·cases h
 ·split at h
  ·rename_i k n _ l k' hx h1 h2
   cases hb:R3 k l with
   |false=>rw[hb]at h;cases h
   |true=>rw[hb]at h;cases h;obtain rfl:=IV hb;have f:=(Al hE hx).2;haveI:=(tt.int h1).1;haveI:=(tt.int h2).1;exact⟨_,rfl,(V2 f rfl).vk hm.st⟩
  ·cases h
 ·split at h
  ·rename_i r p hx
   cases h;have e:=hE.ok _ _ hx;have f:=hE.ev _ _ hx;obtain⟨b,o,_,e2,_⟩:=xk e;refine⟨_,e,?_⟩;rw[e2]at f ⊢;exact(Cr f).vk hm.st
  ·rename_i ff aa cc hx
   cases h;have e:=hE.ok _ _ hx;refine⟨_,e,VK.run (by simp) ?_⟩;obtain⟨fs,cs,e2,_⟩:=e;have e2:=(List.cons.inj e2).1;simp[execOp,e2]
  ·cases h
 ·split at h
  ·rename_i jr n ht
   split at h
   ·rename_i o ho
    haveI:=tt.Mi ht ho;split at h
    ·rename_i r p hx
     cases h;have f:=hE.ev _ _ hx;obtain⟨b,o',h1,h2,h3⟩:=xk (hE.ok _ _ hx);rw[h2]at f;refine⟨_,Qw h1 h3 (q:=[.Mi _ o.1]) (λs hs=>by simp at hs;subst hs;trivial),?_⟩;exact(Gj f).vk hm.st
    ·rename_i e xs p hx
     cases h;have f:=hE.ev _ _ hx;obtain⟨vv,ws,h1,h2,h3,i,q,h4,h5⟩:=Lu (hE.ok _ _ hx);rw[h2]at f;haveI:=hm.kn;exact⟨_,Rk h1 h3 h4 (s:= .Mi _ o.1) trivial,(aeR h1 f h5).vk hm.st⟩
    ·cases h
   ·cases h
  ·cases h
 ·split at h
  ·rename_i jr n ht
   split at h
   ·rename_i o ho
    split at h
    ·rename_i va hx
     split at h
     ·rename_i y hy
      cases hb:Rg o.2 y with
      |false=>rw[hb]at h;cases h
      |true=>rw[hb]at h;cases h;have e:=hE.ok _ _ hx;obtain⟨u,k1,k2,k3⟩:=aaj hy e (λs hs=>by simp at hs;subst hs;trivial);obtain⟨q1,q2⟩:=ahT hb k1;exact⟨u,k1,(aeS (tt.fs ht ho) (hE.ev _ _ hx) (adQ hy e) k2 q1 q2).vk hm.st⟩
     ·cases h
    ·cases h
   ·cases h
  ·cases h
 ·split at h
  ·rename_i va k i _ hx hy;exact adg hm hE h hg hx hy
  ·cases h
 ·split at h
  ·rename_i n e f k i _ m te sz tot hx hy ht
   cases hb:(Nat.beq n m&&(Nat.beq sz (e.L G).n&&A6 tt te (mk e (f i.toNat))))with
   |false=>rw[hb]at h;cases h
   |true=>
    rw[hb]at h;cases h;simp only[aoX]at hb;obtain rfl:=aoW hb.1;have hs:=aoW hb.2.1;have hi:=I4 hg;have fx:=hE.ev _ _ hx;have fy:=(Al hE hy).2;haveI:=tt.ou ht;have ex:=hE.ok _ _ hx;obtain⟨u',e1,h1,h2,_⟩:=ex;cases e1;obtain⟨cs,e2⟩:=h2 rfl;rw[e2]at fx h1;have hp:=aW.idx (L:=e.L G) (m:=n) i.toNat (dF hi).2 hs;have hgt:=hp.get h1;obtain⟨u,k1,k2⟩:=JU hgt;have hl:=(e.L G).len hgt;have hv:rv J ρ (mk e (f i.toNat)) u:=M8 k2;rcases Lo hb.2.2 hv with⟨m1,m2,_⟩|⟨q,m1,m2,_,m3⟩
    ·haveI:=m1
     rw[m2]at k1;have hn:(e.L G).n=1:=by rw[← hl, ← k1];rfl
     rw[hn]at k1;exact⟨u,hv,(XA (m:=i.toNat) fx fy (dF hi).1 (dF hi).2 (Fu k1.symm)).vk hm.st⟩
    ·haveI:=m1
     have e3:u= .agg u.cells.toList.toArray:=by rw[Array.toArray_toList];exact m3
     refine⟨.agg u.cells.toList.toArray,by rw[← e3];exact hv,(Xz (m:=i.toNat) (q:=q) (us:=u.cells.toList) fx fy (dF hi).1 (dF hi).2 ?_).vk hm.st⟩;rw[hs];rw[hs]at k1;exact k1.symm
  ·cases h
 ·split at h
  ·rename_i va hx
   split at h
   ·rename_i y hy
    cases hb:A6 tt _ y with
    |false=>rw[hb]at h;cases h
    |true=>rw[hb]at h;cases h;exact adf hm hE hy hb hx
   ·cases h
  ·cases h
 ·split at h
  ·rename_i l hx
   split at h
   ·rename_i v' hn
    cases h;obtain⟨vs,e,hl⟩:=hE.ok _ _ hx;have f:=hE.ev _ _ hx;rw[(List.cons.inj e).1]at f;obtain⟨u,h1,h2⟩:=OH hn hl;exact⟨u,h2,(tY f h1).vk hm.st⟩
   ·cases h
  ·cases h
 ·rename_i fn first cap
  split at h
  ·rename_i aa cc h1 h2
   cases h;obtain⟨i1,_⟩:=Af hE h1;obtain⟨j1,_⟩:=Af hE h2;refine⟨.func fn (first.map a.eval) (cap.map a.eval),⟨_,_,?_,i1,j1⟩,VK.run (by simp) (by simp[execOp,Instr.makeFunc])⟩;congr 1;simp[← Array.toList_map]
  ·cases h
 ·split at h
  ·rename_i v' k hx ht
   cases h;haveI:=(tt.int ht).1;exact⟨_,⟨_,rfl,hE.ok _ _ hx⟩,VK.run (by simp) (by simp[execOp,Instr.makeInterface,run_underlying (ab5.ok (k:=k))])⟩
  ·cases h
 ·rename_i args RW
  obtain⟨args⟩:=args;obtain⟨RW⟩:=RW;split at h
  ·rename_i x T ea et
   dsimp only at ea et;subst ea et;split at h
   ·rename_i r e sz b hx ht
    split at h
    ·rename_i e' sz' t xs ho
     cases h;obtain⟨vv,ws,h1,h2,h3,h4,h5⟩:=Oq hm ho;have fx:=hE.ev _ _ hx;rw[xY (hE.ok _ _ hx) h1]at fx;haveI:=(tt.sl ht).1;exact⟨_,rfl,(Uc fx).vk hm.st⟩
    ·cases h
   ·rename_i e xs e' sz b hx ht
    cases h;obtain⟨u',e1,hr,_,hc⟩:=hE.ok _ _ hx;cases e1;obtain⟨v',ws,e2,hf⟩:=hr;rw[hc rfl]at e2;cases e2;haveI:=(tt.sl ht).1;haveI:=hm.kn;exact⟨_,rfl,(V0 hf (hE.ev _ _ hx)).vk hm.st⟩
   ·rename_i e sz b hx ht
    cases h;have f:=hE.ev _ _ hx;have e1:a.eval x= .slice none 0 0:=(List.cons.inj (show[a.eval x]=[Value.slice none 0 0]from hE.ok _ _ hx)).1;rw[e1]at f;haveI:=(tt.sl ht).1;haveI:=hm.kn;exact⟨_,rfl,(V0 (A:=J) (L:=LB) (ws:=[]) (xs:=[]) DL.nil f).vk hm.st⟩
   ·cases h
  ·cases h
 ·rename_i args RW
  obtain⟨args⟩:=args;split at h
  ·rename_i x y ea
   dsimp only at ea;subst ea;split at h
   ·rename_i k m _ l n _ hx hy
    cases hb:R3 k l with
    |false=>rw[hb]at h;cases h
    |true=>rw[hb]at h;cases h;obtain rfl:=IV hb;have fx:=(Al hE hx).2;have fy:=(Al hE hy).2;exact⟨_,rfl,(aiJ fx fy).vk hm.st⟩
   ·cases h
  ·cases h
 ·rename_i args RW
  obtain⟨args⟩:=args;split at h
  ·rename_i x y ea
   dsimp only at ea;subst ea;split at h
   ·rename_i k m _ l n _ hx hy
    cases hb:R3 k l with
    |false=>rw[hb]at h;cases h
    |true=>rw[hb]at h;cases h;obtain rfl:=IV hb;have fx:=(Al hE hx).2;have fy:=(Al hE hy).2;exact⟨_,rfl,(aiK fx fy).vk hm.st⟩
   ·cases h
  ·cases h
 ·cases h
end Go.Rw
namespace Go.Rw
open Go Go.Bw Go.RowKit
variable {G:Sg} {P:Program} {tt:TT P G} {J J':World->Prop} {ρ ρ':bT} {a:Act} {w:World} {d:Option Tmp} {ty:TypeId} {ps:String} {af:Array Edge} {g:Option (Nat×Bool)}
 {N:Nat} {c:Cx} {HK X:List aO} {C:CC G} {S:AS G}
def obS(C:CC G)(S:AS G)(r:Nat):Option (Ob G):=match ga S.O r with
 |some o=>some o
 |none=>ga (y6 C) r
theorem RO.get{O:Os G}{H:List aO}(h:RO J ρ O H){r:Nat}{o:Ob G}(e:ga O r=some o):∃(k:Nat) (x:aO),H[k]? =some x/\ro J ρ r o x:=by
 induction h with
 |nil=>cases e
 |@cons r0 o0 x0 O H h0 _ ih=>
  simp only[ga]at e;cases hb:Nat.beq r0 r with
  |true=>rw[hb]at e;cases e;obtain rfl:=aoW hb;exact⟨0,x0,rfl,h0⟩
  |false=>rw[hb]at e;obtain⟨k,x,k1,k2⟩:=ih e;exact⟨k+1,x,by simpa using k1,k2⟩
def yA:Os G->Nat->Ob G->Os G
 |[],_,_ =>[]
 |(k,v)::r,d,o=>bif Nat.beq k d then(k,o)::r else(k,v)::yA r d o
theorem RO.set{O:Os G}{H:List aO}(h:RO J ρ O H){r:Nat}{o:Ob G}(e:ga O r=some o):∃(k:Nat) (x:aO),H[k]? =some x/\ro J ρ r o x/\∀o' x',ro J ρ r o' x'->RO J ρ (yA O r o') (H.set k x'):=by
 induction h with
 |nil=>cases e
 |@cons r0 o0 x0 O H h0 hr ih=>
  simp only[ga]at e;cases hb:Nat.beq r0 r with
  |true=>rw[hb]at e;cases e;obtain rfl:=aoW hb;refine⟨0,x0,rfl,h0,λo' x' h'=>?_⟩;simp only[yA,hb,cond_true];exact .cons h' hr
  |false=>rw[hb]at e;obtain⟨k,x,k1,k2,k3⟩:=ih e;refine⟨k+1,x,by simpa using k1,k2,λo' x' h'=>?_⟩;simp only[yA,hb,cond_false];exact .cons h0 (k3 o' x' h')
def F5:Os G->Nat->Os G
 |[],_ =>[]
 |(k,v)::r,d=>bif Nat.beq k d then r else(k,v)::F5 r d
theorem RO.del{O:Os G}{H:List aO}(h:RO J ρ O H){r:Nat}{o:Ob G}(e:ga O r=some o):∃(k:Nat) (x:aO),H[k]? =some x/\ro J ρ r o x/\RO J ρ (F5 O r) (H.eraseIdx k):=by
 induction h with
 |nil=>cases e
 |@cons r0 o0 x0 O H h0 hr ih=>
  simp only[ga]at e;cases hb:Nat.beq r0 r with
  |true=>rw[hb]at e;cases e;obtain rfl:=aoW hb;refine⟨0,x0,rfl,h0,?_⟩;simp only[F5,hb,cond_true];exact hr
  |false=>rw[hb]at e;obtain⟨k,x,k1,k2,k3⟩:=ih e;refine⟨k+1,x,by simpa using k1,k2,?_⟩;simp only[F5,hb,cond_false];exact .cons h0 k3
theorem RO.app{O O':Os G}{H H':List aO}(h:RO J ρ O H)(k:RO J ρ O' H'):RO J ρ (O++O') (H++H'):=by
 induction h with
 |nil=>exact k
 |cons h _ ih=>exact .cons h ih
theorem Rl.st(h:Rl c N ρ J HK X C S a w):∃HS,RO J ρ S.O HS/\St N c a.defers (sI a) (HS++(HK++X)) a w/\V7 J ρ N c a.defers (HS++(HK++X)) (obS C S) a w:=by
 obtain⟨HS,h1,h3⟩:=h.hp;have hst:St N c a.defers (sI a) (HS++(HK++X)) a w:=⟨h.tm,J4 a,rfl,h.si.s,h3⟩;refine⟨HS,h1,hst,hst,⟨λw' _ hp=>h.kn.to w' λr hr=>⟨hp.holds r (by simp[hr]),λb hb=>(hp.own r (by simp[hr]) b hb).2⟩⟩,λr o e=>?_⟩;unfold obS at e;split at e
 ·rename_i o' he
  cases e;obtain⟨k,x,k1,k2⟩:=h1.get he;exact⟨x,ao1 _ (List.mem_of_getElem? k1),k2⟩
 ·obtain⟨x,k1,k2⟩:=h.kc r o e
  exact⟨x,ao0 _ (ao1 _ k1),k2⟩
def chain(C:CC G)(S:AS G):Nat->Nat->Bool->List (Nat×Bool)
 |0,j,w=>[(j,w)]
 |n+1,j,w=>(j,w)::match R6 C S (.tmp j)with
  |some (.gd k v _)=>chain C S n k v
  |_ =>[]
def aar:List (Nat×Bool)->Nat->Bool->Bool
 |[],_,_ =>false
 |(k,v)::r,j,w=>(Nat.beq k j&&(v==w))||aar r j w
def gkn(C:CC G)(S:AS G):Nat->Nat->Bool->Option Bool
 |0,_,_ =>none
 |n+1,j,w=>match R6 C S (.tmp j)with
  |some (.kb b)=>some (b==w)
  |some (.gd k v x)=>match gkn C S n k v with
   |some false=>some false
   |some true=>(match x with
    | .kb b=>some (b==w)
    |_ =>none)
   |none=>none
  |_ =>none
def isT:Option Bool->Bool
 |some b=>b
 |none=>false
def mK(C:CC G)(S:AS G)(ch:List (Nat×Bool))(x:Operand):Option (AV G):=match R6 C S x with
 |some (.gd j w v)=>bif aar ch j w||isT (gkn C S 8 j w)then some v else none
 |r=>r
theorem ahi{p:Nat->Bool->Prop}:∀{l:List (Nat×Bool)} {j:Nat} {w:Bool},aar l j w=true->(∀q∈l,p q.1 q.2)->p j w:=by
 intro l
 induction l with
 |nil=>intro j w h;cases h
 |cons q r ih=>
  obtain⟨k,v⟩:=q;intro j w h hp;simp only[aar,Bool.or_eq_true,aoX]at h;rcases h with⟨h1,h2⟩|h
  ·have e1:=aoW h1
   have e2:v=w:=by simpa using h2
   have:=hp _ List.mem_cons_self;rw[e1,e2]at this;exact this
  ·exact ih h λq hq=>hp q (ao6 _ hq)
theorem Hr{w:Bool}:Value.bool w≠undef:=by intro h;cases h
theorem Rt(h:Rl c N ρ J HK X C S a w):∀(n j:Nat) (v:Bool),a.tmps[j]? =some (.bool v)->∀q∈chain C S n j v,a.tmps[q.1]? =some (.bool q.2):=by
 intro n
 induction n with
 |zero=>intro j v e q hq;simp[chain]at hq;subst hq;exact e
 |succ n ih=>
  intro j v e q hq;simp only[chain,List.mem_cons]at hq;rcases hq with rfl|hq
  ·exact e
  ·split at hq
   ·rename_i k u x he
    refine ih k u ?_ q hq;have hr:=h.ev he;have e2:a.eval (.tmp j)= .bool v:=by simp[Act.eval,e]
    rw[e2]at hr;cases Classical.em (a.tmps[k]? =some (.bool u))with
    |inl h=>exact h
    |inr h=>exact absurd (hr.2 h) Hr
   ·cases hq
theorem TM{x:Operand}{v:AV G}(h:Rl c N ρ J HK X C S a w)(e:R6 C S x=some v):Bw.ev (sI a) x=some (a.eval x):=by
 refine Vp (λt ht=>?_) (λg hg=>?_)
 ·subst ht
  simp only[R6]at e;split at e
  ·rename_i v' he
   obtain⟨u,h1,_⟩:=h.fs t _ he;exact(ao2.1 h1).1
  ·obtain⟨u,h1,_⟩:=aaf h.fc e
   exact(ao2.1 h1).1
 ·subst hg;cases e
theorem aj5{t:Array Value}{v:AV G}{u:Value}(h:rf J ρ t v u)(hn:∀j w v',v≠ .gd j w v'):rv J ρ v u:=by
 cases v with
 |gd j w v'=>exact absurd rfl (hn j w v')
 |_ =>exact h
theorem afd{b:Bool}{t:Array Value}{u:Value}(h:rf (G:=G) J ρ t (.kb b) u):u= .bool b:=M9 (G:=G) (J:=J) (ρ:=ρ) h
theorem G9(h:Rl c N ρ J HK X C S a w){j:Nat}{x:AV G}(e:R6 C S (.tmp j)=some x):a.tmps[j]? =some (a.eval (.tmp j)):=J4 a j _ (TM h e)
theorem Pb(h:Rl c N ρ J HK X C S a w):∀(n j:Nat) (v g:Bool),gkn C S n j v=some g->(a.tmps[j]? =some (.bool v)↔g=true):=by
 intro n
 induction n with
 |zero=>intro j v g e;cases e
 |succ n ih=>
  intro j v g e;simp only[gkn]at e;split at e
  ·rename_i b he
   cases e;rw[G9 h he,afd (h.ev he)];cases b<;>cases v<;>simp
  ·rename_i k u x he
   have hr:=h.ev he;split at e
   ·rename_i hg
    cases e;have ihk:=ih k u false hg;have h2:a.tmps[k]? ≠some (.bool u):=λq=>by have:=ihk.1 q;cases this
    rw[G9 h he,hr.2 h2];simp only[Option.some.injEq,Bool.false_eq_true,iff_false]
    exactλq=>Hr q.symm
   ·rename_i hg
    have ihk:=ih k u true hg;split at e
    ·rename_i b
     cases e;rw[G9 h he,M9 (hr.1 (ihk.2 rfl))];cases b<;>cases v<;>simp
    ·cases e
   ·cases e
  ·cases e
theorem akL{o:Option Bool}(h:isT o=true):o=some true:=by cases o with
 |none=>cases h
 |some b=>cases b with
  |true=>rfl
  |false=>cases h
theorem gk(h:Rl c N ρ J HK X C S a w){ch:List (Nat×Bool)}(hc:∀q∈ch,a.tmps[q.1]? =some (.bool q.2)):E1 J ρ a (mK C S ch):=by
 refine⟨λx v e=>?_,λx v e=>?_⟩
 ·unfold mK at e
  split at e
  ·rename_i j u x' he
   cases hb:(aar ch j u||isT (gkn C S 8 j u))with
   |false=>rw[hb]at e;cases e
   |true=>
    rw[hb]at e;cases e;have:=h.ev he;rw[Bool.or_eq_true]at hb;rcases hb with hb|hb
    ·exact this.1 (ahi (p:=λj u=>a.tmps[j]? =some (.bool u)) hb hc)
    ·exact this.1 ((Pb h 8 j u true (akL hb)).2 rfl)
  ·rename_i hn
   exact aj5 (h.ev e) λj w v' q=>hn j w v' (q▸e)
 ·unfold mK at e
  split at e
  ·rename_i j u x' he;exact TM h he
  ·exact TM h e
theorem UC{b:Bool}{t:Array Value}{u:Value}(h:rf (G:=G) J ρ t (.bool b) u):u= .bool b:=CQ (G:=G) (J:=J) (ρ:=ρ) h
def TA(C:CC G)(S:AS G):Nat->Nat->Bool->Option Bool
 |0,_,_ =>none
 |n+1,j,w=>match R6 C S (.tmp j)with
  |some (.bool b)=>some (b==w)
  |some (.kb b)=>some (b==w)
  |some (.gd k v x)=>match asB x with
   |some b=>match TA C S n k v with
    |some g=>some (g&&(b==w))
    |none=>none
   |none=>none
  |_ =>none
theorem Vn(h:Rl c N ρ J HK X C S a w):∀(n j:Nat) (v g:Bool),TA C S n j v=some g->(a.tmps[j]? =some (.bool v)↔g=true):=by
 intro n
 induction n with
 |zero=>intro j v g e;cases e
 |succ n ih=>
  intro j v g e;simp only[TA]at e;have hj:∀x,R6 C S (.tmp j)=some x->a.tmps[j]? =some (a.eval (.tmp j)):=λx he=>G9 h he;split at e
  ·rename_i b he
   cases e;have hr:=UC (h.ev he);rw[hj _ he,hr];cases b<;>cases v<;>simp
  ·rename_i b he
   cases e;rw[hj _ he,afd (h.ev he)];cases b<;>cases v<;>simp
  ·rename_i k u x he
   split at e;rotate_left
   ·cases e
   rename_i b hb;split at e
   ·rename_i g' hg
    cases e;have hr:=h.ev he;have ihk:=ih k u g' hg;rw[hj _ he];cases g' with
    |true=>have h1:=hr.1 (ihk.2 rfl);have:=ER hb h1;rw[this];cases b<;>cases v<;>simp
    |false=>
     have h2:a.tmps[k]? ≠some (.bool u):=λq=>by have:=ihk.1 q;cases this
     rw[hr.2 h2];simp only[Bool.false_and,Option.some.injEq,Bool.false_eq_true,iff_false]
     exactλq=>Hr q.symm
   ·cases e
  ·cases e
def Nw(C:CC G)(S:AS G):Nat->Nat->Option (Nat×Bool)
 |0,_ =>none
 |n+1,j=>match R6 C S (.tmp j)with
  |some (.bool b)=>some (j,b)
  |some (.gd k v x)=>match gkn C S 8 k v with
   |some true=>(match x with
    | .bool b=>some (j,b)
    |_ =>none)
   |some false=>none
   |none=>Nw C S n k
  |_ =>none
theorem Rb(h:Rl c N ρ J HK X C S a w):∀(n j k:Nat) (b:Bool),Nw C S n j=some (k,b)->a.tmps[k]? =some (.bool b):=by
 intro n
 induction n with
 |zero=>intro j k b e;cases e
 |succ n ih=>
  intro j k b e;simp only[Nw]at e;split at e
  ·rename_i b' he
   cases e;rw[G9 h he,UC (h.ev he)]
  ·rename_i k' v x he
   split at e
   ·rename_i hg
    split at e
    ·rename_i b'
     cases e;rw[G9 h he,CQ ((h.ev he).1 ((Pb h 8 k' v true hg).2 rfl))]
    ·cases e
   ·cases e
   ·exact ih k' k b e
  ·cases e
def SK(P:Program)(o:Oper)(C:CC G)(S S':AS G)(v:AV G):Prop:=∀(c:Cx) (N:Nat) (ρ:bT) (J:World->Prop) (HK X:List aO) (a:Act) (w:World) (next:Act->World->Prop) (Q:Exit->Act->World->Prop),Rl c N ρ J HK X C S a w-> (∀(ρ':bT) (J':World->Prop) (Y:List aO) (w':World) (u:Value),ρ.to ρ' S.nx->(∀w,J' w->J w)->rv J' ρ' v u->Rl c N ρ' J' HK (Y++X) C S' a w'->next (a.put o.dst u) w')->o.wpIn (FA c.ro) 0 P a w next Q
theorem Rl.XO(h:Rl c N ρ J HK X C S a w)(mJ:∀w,J' w->J w)(mρ:ρ.le ρ'):∀r o,ga (y6 C) r=some o->∃x∈HK,ro J' ρ' r o x:=λr o e=>by obtain⟨x,h1,h2⟩:=h.kc r o e;exact⟨x,h1,h2.up mJ mρ⟩
theorem Rl.new{HS:List aO}{x:aO}{o:Ob G}{u:Value}{w':World}(h:Rl c N ρ J HK X C S a w)(h1:RO J ρ S.O HS)(hs:bG c.bs c.w0 w')(hp:cC c.bs c.w0.heap.size (x::(HS++(HK++X))) w')(hx:ro J (ρ.set S.nx u) S.nx o x):
  Rl c N (ρ.set S.nx u) J HK X C {S with O:=(S.nx,o)::S.O,nx:=S.nx+1} a w':=by
 have hle:=(bT.sq ρ S.nx u).le h.fr;exact⟨h.tm,h.df.up (λ_ h=>h) hle,⟨hs,h.si.n⟩,h.fs.up (λ_ h=>h) hle,h.fc.up (λ_ h=>h) hle,h.XO (λ_ h=>h) hle,⟨x::HS, .cons hx (h1.up (λ_ h=>h) hle),by simpa using hp⟩,h.kn,bT.Eu h.fr u⟩
theorem agk{T:Nat}{x:Operand}{v:AV G}(hv:mK C S [] x=some v):SK P ⟨d, .box T x,ty,ps,af,g⟩ C S {S with O:=(S.nx, .eL T v)::S.O,nx:=S.nx+1} (.ptr S.nx []):=by
 intro c N ρ J HK X a w next Q h hk
 obtain⟨HS,h1,hst,_⟩:=h.st;have hE:=gk h (ch:=[]) (by simp);refine Uh (hE.ev _ _ hv) rfl a.defers a w next Q hst λb w' _ hs hp=>?_
 refine hk (ρ.set S.nx (fW b 0)) J [] w' (fW b 0) (bT.sq _ _ _) (λ_ h=>h) ?_ (h.new h1 hs hp ?_)
 ·exact⟨⟨b,0, .inl (bT.oe _ _ _),by simp[jr]⟩,by simp⟩
 ·exact⟨b,_,bT.oe _ _ _,rfl,(hE.ok _ _ hv).ext ((bT.sq ρ S.nx _).le h.fr)⟩
structure ZT(P:Program)(G:Sg) where
 z:RJ (AV G)
 ok:∀t v,z.find t=some v->∀(J:World->Prop) (ρ:bT),∃u:Value,cN P t=some u.cells.toList/\rv J ρ v u
def ZOk(P:Program):RJ (AV G)->Prop
 | .gi=>True
 | .gq k v l r=>(∀(J:World->Prop) (ρ:bT),∃u:Value,cN P k=some u.cells.toList/\rv J ρ v u)/\ZOk P l/\ZOk P r
theorem aiz{P:Program}:∀{t:RJ (AV G)},ZOk P t->∀k v,t.find k=some v->∀(J:World->Prop) (ρ:bT),∃u:Value,cN P k=some u.cells.toList/\rv J ρ v u:=by
 intro t
 induction t with
 |gi=>intro _ k v h;cases h
 |gq k0 v0 l r ihl ihr=>
  intro h k v e;simp only[RJ.find]at e;cases h1:Nat.beq k0 k with
  |true=>rw[h1]at e;cases e;rw[← aoW h1];exact h.1
  |false=>
   rw[h1]at e;simp only[cond_false]at e;cases h2:Nat.blt k k0 with
   |true=>rw[h2]at e;exact ihl h.2.1 k v e
   |false=>rw[h2]at e;exact ihr h.2.2 k v e
theorem YU{zt:ZT P G}{T:Nat}{v:AV G}(hv:zt.z.find T=some v):SK P ⟨d, .alloc T,ty,ps,af,g⟩ C S {S with O:=(S.nx, .eL T v)::S.O,nx:=S.nx+1} (.ptr S.nx []):=by
 intro c N ρ J HK X a w next Q h hk
 obtain⟨HS,h1,hst,_⟩:=h.st;obtain⟨u,k1,k2⟩:=zt.ok T v hv J ρ;haveI:ke P T u.cells.toList:=⟨k1⟩;refine sS (cs:=u.cells.toList) a.defers a w next Q hst λb w' _ hs hp=>?_
 refine hk (ρ.set S.nx (fW b 0)) J [] w' (fW b 0) (bT.sq _ _ _) (λ_ h=>h) ?_ (h.new h1 hs hp ?_)
 ·exact⟨⟨b,0, .inl (bT.oe _ _ _),by simp[jr]⟩,by simp⟩
 ·exact⟨b,u,bT.oe _ _ _,rfl,k2.ext ((bT.sq ρ S.nx _).le h.fr)⟩
theorem Rl.MD{HS':List aO}{O':Os G}{w':World}(h:Rl c N ρ J HK X C S a w)(hr:RO J ρ O' HS')(hs:bG c.bs c.w0 w')(hp:cC c.bs c.w0.heap.size (HS'++(HK++X)) w'):
  Rl c N ρ J HK X C {S with O:=O'} a w':=⟨h.tm,h.df,⟨hs,h.si.n⟩,h.fs,h.fc,h.kc,⟨_,hr,hp⟩,h.kn,h.fr⟩
theorem z7{α:Type}{l m:List α}{k:Nat}{x:α}(h:l[k]? =some x):(l++m)[k]? =some x:=by rw[List.getElem?_append_left (List.getElem?_eq_some_iff.1 h).1];exact h
theorem Fx{α:Type}{l m:List α}{k:Nat}{x y:α}(h:l[k]? =some x):(l++m).set k y=l.set k y++m:=by rw[List.set_append_left];exact(List.getElem?_eq_some_iff.1 h).1
theorem aa1{T:Nat}{v:AV G}{u:Value}(h:A6 tt T v=true)(hv:rv J ρ v u):Ue P T u.cells.size:=by
 rcases Lo h hv with⟨h1,h2,_⟩|⟨n,h1,h2,_⟩
 ·haveI:=h1
  rw[h2];exact(inferInstance:Ue P T 1)
 ·haveI:=h1
  subst h2;exact inferInstance
theorem YS{T:Nat}{x y:Operand}{v:AV G}{r T':Nat}{p:List zi}{cc cc':AV G}(hx:mK C S [] x=some (.ptr r p))(hy:mK C S [] y=some v)(ho:ga S.O r=some (.eL T' cc))(hst:Wp tt.F cc p v=some cc')(hf:A6 tt T v=true):
  SK P ⟨d, .store T x y,ty,ps,af,g⟩ C S {S with O:=yA S.O r (.eL T' cc')} .YA:=by
 intro c N ρ J HK X a w next Q h hk
 obtain⟨HS,h1,hs0,hm⟩:=h.st;have hE:=gk h (ch:=[]) (by simp);obtain⟨b,o,e1,e2,e3⟩:=xk (hE.ok _ _ hx);obtain⟨k,q,k1,⟨b',u,m1,rfl,m3⟩,k3⟩:=h1.set ho;have eb:b=b'/\o=0:=by rcases e1 with h1|⟨n,cap,_,_,_,_,h1,_⟩<;>rw[h1]at m1<;>simp[fW]at m1;exact m1
 obtain⟨rfl,rfl⟩:=eb;have hv:=hE.ok _ _ hy;obtain⟨u',n1,n2,n3,n4⟩:=YP hv hst m3 e3;have HD:=hE.ev _ _ hx;rw[e2,Nat.zero_add]at HD;have XQ:=z7 (m:=HK++X) k1;haveI:xL (HS++(HK++X)) b T' u.cells.toList:=⟨List.mem_of_getElem? XQ⟩;haveI:=aa1 hf hv;haveI:MP (HS++(HK++X)) b u'.cells.toList (HS.set k (.cells b T' u'.cells.toList)++(HK++X)):=⟨k,T',_,XQ,by rw[Fx k1]⟩;refine uX (n:=(a.eval y).cells.size) (vs:=(a.eval y).cells.toList) (cs':=u'.cells.toList) HD (hE.ev _ _ hy) rfl (by simp) (by simpa using n3) n4 n2.symm a.defers a w next Q hs0 λ_ w' _ hs hp=>?_
 exact hk ρ J [] w' undef (bT.gL _ _) (λ_ h=>h) ⟨_,rfl⟩ (h.MD (k3 (.eL T' cc') _ ⟨b,u',m1,rfl,n1⟩) hs hp)
end Go.Rw
namespace Go.Rw
open Go Go.Bw Go.RowKit
variable {G:Sg} {P:Program} {J J':World->Prop} {ρ ρ':bT}
inductive Sh where
 |v (t:Ty)
 |unk (n:Nat)
 |row (e sz:Nat) (t:Ty)
 |box (T:Nat) (s:Sh)
 |cQ (i:Nat)
 |FP
 |pI
 |FQ
 |B0
 |Ju
 |fn (f:Fn) (a c:Sh)
 |rZ (a:Sh)
 |st (a:Sh)
 |nY (t:Nat) (a:Sh)
 |nil
 |cons (a b:Sh)
 |part (w:Nat) (a b:Sh)
def br:Sh->List Ty
 | .v t=>[t]
 | .row _ _ t=>[.sl t]
 | .box _ s=>br s
 | .fn _ a c=>br a++br c
 | .rZ a=>br a
 | .st a=>br a
 | .nY _ a=>br a
 | .cons a b=>br a++br b
 | .part _ a b=>br a++br b
 |_ =>[]
def HL(G:Sg):List Ty->Type
 |[]=>Unit
 |t::r=>t.T G×HL G r
def HL.app:{a b:List Ty}->HL G a->HL G b->HL G (a++b)
 |[],_,_,y=>y
 |_ ::_,_,x,y=>(x.1,HL.app x.2 y)
def HL.fst:{a b:List Ty}->HL G (a++b)->HL G a
 |[],_,_ =>()
 |_ ::r,b,x=>(x.1,HL.fst (a:=r) (b:=b) x.2)
def HL.snd:{a b:List Ty}->HL G (a++b)->HL G b
 |[],_,x=>x
 |_ ::r,b,x=>HL.snd (a:=r) (b:=b) x.2
theorem HL.z9:∀{a b:List Ty} (x:HL G a) (y:HL G b),HL.fst (a:=a) (b:=b) (HL.app x y)=x:=by
 intro a
 induction a with
 |nil=>intro b x y;rfl
 |cons t r ih=>intro b x y;exact Prod.ext rfl (ih x.2 y)
theorem HL.zH:∀{a b:List Ty} (x:HL G a) (y:HL G b),HL.snd (a:=a) (b:=b) (HL.app x y)=y:=by
 intro a
 induction a with
 |nil=>intro b x y;rfl
 |cons t r ih=>intro b x y;exact ih x.2 y
def iA(f:Nat->Nat):(s:Sh)->HL G (br s)->Nat->AV G×Os G×Nat
 | .v t,x,m=>(mk t x.1,[],m)
 | .row e sz t,x,m=>(.row (f m),[(f m, .row e sz t x.1)],m+1)
 | .box T s,x,m=>match iA f s x (m+1)with
  |(v,O,m')=>(.ptr (f m) [],(f m, .eL T v)::O,m')
 | .cQ i,_,m=>(.ptr (f i) [],[],m)
 | .unk n,_,m=>(.unk n,[],m)
 | .FP,_,m=>(.FP,[],m)
 | .pI,_,m=>(.pI,[],m)
 | .FQ,_,m=>(.FQ,[],m)
 | .B0,_,m=>(.B0,[],m)
 | .Ju,_,m=>(.Ju,[],m)
 | .fn k a c,x,m=>match iA f a (HL.fst x) m with
  |(v,O,m')=>match iA f c (HL.snd x) m' with
   |(v',O',m'')=>(.fn k v v',O++O',m'')
 | .rZ a,x,m=>match iA f a x m with
  |(v,O,m')=>(.rZ v,O,m')
 | .st a,x,m=>match iA f a x m with
  |(v,O,m')=>(.st v,O,m')
 | .nY t a,x,m=>match iA f a x m with
  |(v,O,m')=>(.nY t v,O,m')
 | .nil,_,m=>(.nil,[],m)
 | .cons a b,x,m=>match iA f a (HL.fst x) m with
  |(v,O,m')=>match iA f b (HL.snd x) m' with
   |(v',O',m'')=>(.cons v v',O++O',m'')
 | .part w a b,x,m=>match iA f a (HL.fst x) m with
  |(v,O,m')=>match iA f b (HL.snd x) m' with
   |(v',O',m'')=>(.part w v v',O++O',m'')
def Cc:Fn->Fn->Bool
 | .func a, .func b=>Nat.beq a b
 |_,_ =>false
theorem Re{f g:Fn}(h:Cc f g=true):f=g:=by
 unfold Cc at h;split at h
 ·rw[aoW h]
 ·cases h
structure GS(G:Sg) where
 th:List Nat
 O:Os G
 nx:Nat
def qK:(s:Sh)->AV G->GS G->Option (HL G (br s)×GS G)
 | .v t,v,g=>match Es t v with
  |some x=>some ((x,()),g)
  |none=>none
 | .row e sz t,v,g=>match v with
  | .row r=>match ga g.O r with
   |some (.row e' sz' t' xs)=>bif Nat.beq e e'&&Nat.beq sz sz' then(if h:t'.cQ t=true then some ((Ty.yB h▸xs,()),⟨g.th++[r],F5 g.O r,g.nx⟩)else none)else none
   |_ =>none
  | .pI=>bif Nat.beq (t.L G).n sz then some (([],()),⟨g.th++[g.nx],g.O,g.nx+1⟩)else none
  |_ =>none
 | .box T s,v,g=>match v with
  | .ptr r []=>match ga g.O r with
   |some (.eL T' c)=>bif Nat.beq T T' then qK s c ⟨g.th++[r],F5 g.O r,g.nx⟩else none
   |_ =>none
  |_ =>none
 | .cQ i,v,g=>match v with
  | .ptr r []=>match g.th[i]? with
   |some r'=>bif Nat.beq r r' then some ((),g)else none
   |none=>none
  |_ =>none
 | .unk n,v,g=>match v with
  | .unk m=>bif Nat.beq n m then some ((),g)else none
  |v=>match v.ncl with
   |some m=>bif Nat.beq n m then some ((),g)else none
   |none=>none
 | .FP,v,g=>match v with
  | .FP=>some ((),g)
  |_ =>none
 | .pI,v,g=>match v with
  | .pI=>some ((),g)
  |_ =>none
 | .FQ,v,g=>match v with
  | .FQ=>some ((),g)
  |_ =>none
 | .B0,v,g=>match v with
  | .B0=>some ((),g)
  |_ =>none
 | .Ju,v,g=>match v with
  | .Ju=>some ((),g)
  |_ =>none
 | .fn f a c,v,g=>match v with
  | .fn f' x y=>bif Cc f f' then(match qK a x g with
   |some (p,g')=>match qK c y g' with
    |some (q,g'')=>some (HL.app p q,g'')
    |none=>none
   |none=>none)else none
  |_ =>none
 | .rZ a,v,g=>match v with
  | .rZ x=>qK a x g
  |_ =>none
 | .st a,v,g=>match v with
  | .st x=>qK a x g
  |_ =>none
 | .nY t a,v,g=>match v with
  | .nY t' x=>bif Nat.beq t t' then qK a x g else none
  |_ =>none
 | .nil,v,g=>match v with
  | .nil=>some ((),g)
  |_ =>none
 | .cons a b,v,g=>match v with
  | .cons x y=>match qK a x g with
   |some (p,g')=>match qK b y g' with
    |some (q,g'')=>some (HL.app p q,g'')
    |none=>none
   |none=>none
  |_ =>none
 | .part w a b,v,g=>match v with
  | .part w' x y=>bif Nat.beq w w' then(match qK a x g with
   |some (p,g')=>match qK b y g' with
    |some (q,g'')=>some (HL.app p q,g'')
    |none=>none
   |none=>none)else none
  |_ =>none
def s8(A B:List aO):Prop:=∀bs n0 w,cC bs n0 A w->cC bs n0 B w
theorem s8.refl(A:List aO):s8 A A:=λ_ _ _ h=>h
theorem s8.trans{A B D:List aO}(h:s8 A B)(k:s8 B D):s8 A D:=λbs n w x=>k bs n w (h bs n w x)
theorem s8.qf{A B:List aO}(h:A.Perm B):s8 A B:=λ_ _ _ x=>x.qf h
def cmp(ρ:bT)(th:List Nat):bT:=λm=>match th[m]? with
 |some r=>ρ r
 |none=>none
theorem TS{th BM:List Nat}(h:ρ.le ρ')(k:∃q,BM=th++q):(cmp ρ th).le (cmp ρ' BM):=λm v e=>by
 obtain⟨q,rfl⟩:=k;unfold cmp at e ⊢;cases ht:th[m]? with
 |none=>rw[ht]at e;cases e
 |some r=>rw[ht]at e;rw[z7 ht];exact h _ _ e
theorem CY{th:List Nat}{r:Nat}:cmp ρ (th++[r]) th.length=ρ r:=by simp[cmp]
structure Gat(J:World->Prop)(ρ:bT)(s:Sh)(l:List Value)(H:List aO)(g g':GS G)(x:HL G (br s))(ρ':bT)(HB H':List aO):Prop where
 to:ρ.to ρ' g.nx
 fr:ρ'.fr g'.nx
 nx:g.nx<=g'.nx
 left:RO J ρ' g'.O H'
 pre:∃q,g'.th=g.th++q
 R7:(iA (λm=>m) s x g.th.length).2.2=g'.th.length
 hp:∀R,s8 (H++R) (HB++(H'++R))
 val:rl J (cmp ρ' g'.th) (iA (λm=>m) s x g.th.length).1 l
 eL:RO J (cmp ρ' g'.th) (iA (λm=>m) s x g.th.length).2.1 HB
theorem Yy{t:Ty}{v:AV G}{x:t.T G}{l:List Value}(h:Es t v=some x)(hv:rl J ρ v l):∃u,l=[u]:=by
 unfold Es at h;split at h
 ·exact⟨_,hv⟩
 ·exact⟨_,hv⟩
 ·exact⟨_,hv⟩
 ·exact⟨_,hv⟩
 ·exact⟨_,hv⟩
 ·obtain⟨u,e,_⟩:=hv;exact⟨u,e⟩
 ·cases h
theorem bT.fr.ZP{n:Nat}{r:Nat}{v:Value}(h:ρ.fr n)(e:ρ r=some v):r<n:=by
 rcases Nat.lt_or_ge r n with h1|h1
 ·exact h1
 ·rw[h r h1]at e;cases e
theorem cO{α β:Type}{a x:α}{b y:β}(h:some (a,b)=some (x,y)):a=x/\b=y:=by have h:=Option.some.inj h;exact⟨congrArg Prod.fst h,congrArg Prod.snd h⟩
theorem adp{α:Type}:∀{H:List α} {k:Nat} {x:α},H[k]? =some x->H.Perm (x::H.eraseIdx k):=by
 intro H
 induction H with
 |nil=>intro k x h;cases h
 |cons y r ih=>
  intro k x h;cases k with
  |zero=>simp at h;subst h;exact .refl _
  |succ k=>exact((ih (by simpa using h)).cons y).trans (.swap x y _)
theorem xm{H:List aO}{k:Nat}{x:aO}(h:H[k]? =some x)(R:List aO):(H++R).Perm (x::(H.eraseIdx k++R)):=by exact List.Perm.append_right R (adp h)
theorem Ph{a b:Sh}{H:List aO}{g g1 g2:GS G}{p:HL G (br a)}{q:HL G (br b)}{l1 l2:List Value}{ρ:bT}(hf:ρ.fr g.nx)
  (h1:∃ρ' HB H',Gat J ρ a l1 H g g1 p ρ' HB H')(h2:∀(ρ1:bT) (H1:List aO),ρ1.fr g1.nx->ρ.to ρ1 g.nx->RO J ρ1 g1.O H1->∃ρ' HB H',Gat J ρ1 b l2 H1 g1 g2 q ρ' HB H'):
  ∃ρ' HB H',ρ.to ρ' g.nx/\ρ'.fr g2.nx/\g.nx<=g2.nx/\RO J ρ' g2.O H'/\(∃r,g2.th=g.th++r)/\(iA (λm=>m) b q (iA (λm=>m) a p g.th.length).2.2).2.2=g2.th.length/\(∀R,s8 (H++R) (HB++(H'++R)))/\
   rl J (cmp ρ' g2.th) (iA (λm=>m) a p g.th.length).1 l1/\rl J (cmp ρ' g2.th) (iA (λm=>m) b q (iA (λm=>m) a p g.th.length).2.2).1 l2/\RO J (cmp ρ' g2.th) ((iA (λm=>m) a p g.th.length).2.1++(iA (λm=>m) b q (iA (λm=>m) a p g.th.length).2.2).2.1) HB:=by
 obtain⟨ρ1,B1,H1,k1⟩:=h1;obtain⟨ρ2,B2,H2,k2⟩:=h2 ρ1 H1 k1.fr k1.to k1.left;have hle:=TS (k2.to.le k1.fr) k2.pre;rw[k1.R7];refine⟨ρ2,B1++B2,H2,k1.to.trans k2.to k1.nx,k2.fr,Nat.le_trans k1.nx k2.nx,k2.left,?_,k2.R7,λR=>?_,k1.val.ext hle,k2.val,(k1.eL.up (λ_ h=>h) hle).app k2.eL⟩
 ·obtain⟨r1,e1⟩:=k1.pre
  obtain⟨r2,e2⟩:=k2.pre;exact⟨r1++r2,by rw[e2,e1,List.append_assoc]⟩
 ·refine(k1.hp R).trans ?_
  have e:(B1++(H1++R)).Perm (H1++(B1++R)):=by rw[← List.append_assoc, ← List.append_assoc];exact List.Perm.append_right R List.perm_append_comm
  refine(s8.qf e).trans ((k2.hp (B1++R)).trans (s8.qf ?_));rw[List.append_assoc B1];have:(B2++(H2++(B1++R))).Perm (B1++(B2++(H2++R))):=by
   have p1:(H2++(B1++R)).Perm (B1++(H2++R)):=by rw[← List.append_assoc, ← List.append_assoc];exact List.Perm.append_right R List.perm_append_comm
   refine(List.Perm.append_left B2 p1).trans ?_;rw[← List.append_assoc, ← List.append_assoc B1];exact List.Perm.append_right _ List.perm_append_comm
  exact this
theorem aaP{t:Ty}{v:AV G}{g g':GS G}{x:HL G (br (.v t))}(h:qK (.v t) v g=some (x,g')):∃y,Es t v=some y/\x=(y,())/\g'=g:=by
 unfold qK at h;cases hy:Es t v with
 |none=>rw[hy]at h;cases h
 |some y=>rw[hy]at h;obtain⟨e1,e2⟩:=cO h;exact⟨y,rfl,e1.symm,e2.symm⟩
theorem Pf{n:Nat}{v:AV G}{g g':GS G}{x:HL G (br (.unk n))}(h:qK (.unk n) v g=some (x,g')):g'=g/\∀{J:World->Prop} {ρ:bT} {l:List Value},rl J ρ v l->∃u:Value,l=[u]/\u.cells.size=n:=by
 unfold qK at h;split at h
 ·rename_i m
  cases hb:Nat.beq n m with
  |false=>rw[hb]at h;cases h
  |true=>rw[hb]at h;obtain rfl:=aoW hb;exact⟨(cO h).2.symm,λhr=>hr⟩
 ·split at h
  ·rename_i m hm
   cases hb:Nat.beq n m with
   |false=>rw[hb]at h;cases h
   |true=>rw[hb]at h;obtain rfl:=aoW hb;exact⟨(cO h).2.symm,λhr=>by obtain⟨u,e1,e2,_⟩:=S9 hm hr;exact⟨u,e1,e2⟩⟩
  ·cases h
theorem Li:∀{s:Sh} {v:AV G} {l:List Value} {H:List aO} {g g':GS G} {x:HL G (br s)} {ρ:bT},qK s v g=some (x,g')->rl J ρ v l->RO J ρ g.O H->ρ.fr g.nx->∃ρ' HB H',Gat J ρ s l H g g' x ρ' HB H':=by
 intro s
 induction s with
 |v t=>
  intro v l H g g' x ρ h hv hO hf;obtain⟨y,hy,rfl,rfl⟩:=aaP h;obtain⟨u,rfl⟩:=Yy hy hv;refine⟨ρ,[],H,⟨bT.gL _ _,hf,Nat.le_refl _,hO,⟨[],by simp⟩,?_,λR=>s8.refl _,?_,?_⟩⟩<;>simp only[iA]
  ·exact M8 ((CP hy hv))
  ·exact .nil
 |row e sz t=>
  intro v l H g g' x ρ h hv hO hf;cases v<;>unfold qK at h<;>(try dsimp only at h)<;>try (cases h;done)
  case row r=>
   split at h
   ·rename_i e' sz' t' xs ho
    cases hb:(Nat.beq e e'&&Nat.beq sz sz')with
    |false=>rw[hb]at h;cases h
    |true=>
     rw[hb]at h;simp only[cond_true]at h;by_cases hs:t'.cQ t=true
     ·rw[dif_pos hs]at h
      obtain⟨e1,rfl⟩:=cO h;simp only[aoX]at hb;obtain rfl:=aoW hb.1;obtain rfl:=aoW hb.2;have:=Ty.yB hs;subst this;subst e1;obtain⟨k,y,k1,k2,k3⟩:=hO.del ho;refine⟨ρ,[y],H.eraseIdx k,bT.gL _ _,hf,Nat.le_refl _,k3,⟨[r],rfl⟩,by simp[iA],λR=>s8.qf (xm k1 R),?_, .cons ?_ .nil⟩
      ·obtain⟨a0,n,cap,e1,e2⟩:=hv
       exact⟨a0,n,cap,CY.trans e1,e2⟩
      ·obtain⟨vv,ws,e1,e2,e3,e4,e5⟩:=k2
       exact⟨vv,ws,CY.trans e1,e2,e3,e4,e5⟩
     ·rw[dif_neg hs]at h;cases h
   ·cases h
  case pI=>
   cases hb:Nat.beq (t.L G).n sz with
   |false=>rw[hb]at h;cases h
   |true=>
    rw[hb]at h;obtain⟨rfl,rfl⟩:=cO h;have hsz:=aoW hb;have hle:=(bT.sq ρ g.nx (.slice none 0 0)).le hf;refine⟨ρ.set g.nx (.slice none 0 0),[.row (.slice none 0 0) e sz 0 []],H,bT.sq _ _ _,bT.Eu hf _,Nat.le_succ _,hO.up (λ_ h=>h) hle,⟨[g.nx],rfl⟩,by simp[iA],λR bs n0 w hp=>CX hp,?_, .cons ?_ .nil⟩
    ·have hv:l=[.slice none 0 0]:=hv
     exact⟨none,0,0,CY.trans (bT.oe _ _ _),hv⟩
    ·exact⟨.slice none 0 0,[],CY.trans (bT.oe _ _ _),rfl,⟨_,_,rfl⟩,⟨λ_ =>[],rfl,λi hi=>absurd hi (Nat.not_lt_zero _)⟩,hsz⟩
 |box T s ih=>
  intro v l H g g' x ρ h hv hO hf;cases v<;>unfold qK at h<;>(try dsimp only at h)<;>try (cases h;done)
  case ptr r p=>
   cases p with
   |cons _ _ =>simp at h
   |nil=>
    simp only at h;split at h
    ·rename_i T' cc ho
     cases hb:Nat.beq T T' with
     |false=>rw[hb]at h;cases h
     |true=>
      rw[hb]at h;obtain rfl:=aoW hb;obtain⟨k,y,k1,⟨b,u,m1,rfl,m3⟩,k3⟩:=hO.del ho;obtain⟨ρ1,B1,H1,i1⟩:=ih h m3 k3 hf;have hr:=hf.ZP m1;have hth:g'.th[g.th.length]? =some r:=by obtain⟨q,e⟩:=i1.pre;rw[e];simp
      have Vh:cmp ρ1 g'.th g.th.length=some (fW b 0):=by unfold cmp;rw[hth];exact(i1.to r hr).trans m1
      have e1:(g.th++[r]).length=g.th.length+1:=by simp
      have i2:=i1.R7;have i3:=i1.val;have i4:=i1.eL;rw[e1]at i2 i3 i4;refine⟨ρ1, .cells b T u.cells.toList::B1,H1,i1.to,i1.fr,i1.nx,i1.left,?_,i2,λR=>?_,?_, .cons ⟨b,u,Vh,rfl,i3⟩ i4⟩
      ·obtain⟨q,e⟩:=i1.pre
       exact⟨r::q,by rw[e];simp⟩
      ·refine(s8.qf (xm k1 R)).trans ?_
       refine(s8.qf (List.perm_middle (a:=aO.cells b T u.cells.toList) (l₁:=H.eraseIdx k) (l₂:=R)).symm).trans ?_;refine(i1.hp (.cells b T u.cells.toList::R)).trans (s8.qf ?_);refine(List.Perm.append_left B1 (List.perm_middle (a:=aO.cells b T u.cells.toList) (l₁:=H1) (l₂:=R))).trans ?_;exact List.perm_middle
      ·obtain⟨⟨b',o',q1,q2⟩,_⟩:=hv
       refine⟨⟨b,0, .inl Vh,?_⟩,by simp⟩;rcases q1 with q1|⟨_,_,_,_,_,_,_,q1,_⟩
       ·rw[q1]at m1
        simp[fW]at m1;rw[q2,m1.1,m1.2]
       ·cases q1
    ·cases h
 |cQ i=>
  intro v l H g g' x ρ h hv hO hf;cases v<;>unfold qK at h<;>(try dsimp only at h)<;>try (cases h;done)
  case ptr r p=>
   cases p with
   |cons _ _ =>simp at h
   |nil=>
    simp only at h;split at h
    ·rename_i r' ht
     cases hb:Nat.beq r r' with
     |false=>rw[hb]at h;cases h
     |true=>
      rw[hb]at h;obtain⟨rfl,rfl⟩:=cO h;obtain rfl:=aoW hb;refine⟨ρ,[],H,bT.gL _ _,hf,Nat.le_refl _,hO,⟨[],by simp⟩,rfl,λR=>s8.refl _,?_, .nil⟩;obtain⟨⟨b',o',q1,q2⟩,q3⟩:=hv;refine⟨⟨b',o',?_,q2⟩,q3⟩;rcases q1 with q1|⟨_,_,_,_,_,_,_,q1,_⟩
      ·refine .inl ?_
       unfold cmp;rw[ht];exact q1
      ·cases q1
    ·cases h
 |unk n=>intro v l H g g' x ρ h hv hO hf;obtain⟨rfl,hu⟩:=Pf h;exact⟨ρ,[],H,bT.gL _ _,hf,Nat.le_refl _,hO,⟨[],by simp⟩,rfl,λR=>s8.refl _,hu hv, .nil⟩
 |FP=>
  intro v l H g g' x ρ h hv hO hf;cases v<;>unfold qK at h<;>(try dsimp only at h)<;>try (cases h;done)
  obtain⟨rfl,rfl⟩:=cO h;exact⟨ρ,[],H,bT.gL _ _,hf,Nat.le_refl _,hO,⟨[],by simp⟩,rfl,λR=>s8.refl _,hv, .nil⟩
 |pI=>
  intro v l H g g' x ρ h hv hO hf;cases v<;>unfold qK at h<;>(try dsimp only at h)<;>try (cases h;done)
  obtain⟨rfl,rfl⟩:=cO h;exact⟨ρ,[],H,bT.gL _ _,hf,Nat.le_refl _,hO,⟨[],by simp⟩,rfl,λR=>s8.refl _,hv, .nil⟩
 |FQ=>
  intro v l H g g' x ρ h hv hO hf;cases v<;>unfold qK at h<;>(try dsimp only at h)<;>try (cases h;done)
  obtain⟨rfl,rfl⟩:=cO h;exact⟨ρ,[],H,bT.gL _ _,hf,Nat.le_refl _,hO,⟨[],by simp⟩,rfl,λR=>s8.refl _,hv, .nil⟩
 |B0=>
  intro v l H g g' x ρ h hv hO hf;cases v<;>unfold qK at h<;>(try dsimp only at h)<;>try (cases h;done)
  obtain⟨rfl,rfl⟩:=cO h;exact⟨ρ,[],H,bT.gL _ _,hf,Nat.le_refl _,hO,⟨[],by simp⟩,rfl,λR=>s8.refl _,hv, .nil⟩
 |Ju=>
  intro v l H g g' x ρ h hv hO hf;cases v<;>unfold qK at h<;>(try dsimp only at h)<;>try (cases h;done)
  obtain⟨rfl,rfl⟩:=cO h;exact⟨ρ,[],H,bT.gL _ _,hf,Nat.le_refl _,hO,⟨[],by simp⟩,rfl,λR=>s8.refl _,hv, .nil⟩
 |nil=>
  intro v l H g g' x ρ h hv hO hf;cases v<;>unfold qK at h<;>(try dsimp only at h)<;>try (cases h;done)
  obtain⟨rfl,rfl⟩:=cO h;exact⟨ρ,[],H,bT.gL _ _,hf,Nat.le_refl _,hO,⟨[],by simp⟩,rfl,λR=>s8.refl _,hv, .nil⟩
 |fn f a c pL FU=>
  intro v l H g g' x ρ h hv hO hf;cases v<;>unfold qK at h<;>(try dsimp only at h)<;>try (cases h;done)
  case fn f' y z=>
   cases hb:Cc f f' with
   |false=>rw[hb]at h;cases h
   |true=>
    rw[hb]at h;simp only[cond_true]at h;obtain rfl:=Re hb;split at h
    ·rename_i p g1 h1
     split at h
     ·rename_i q g2 h2
      obtain⟨rfl,rfl⟩:=cO h;obtain⟨fs,cs,e,r1,r2⟩:=hv;obtain⟨ρ',HB,H',k1,k2,k3,k4,k5,k6,k7,k8,k9,k10⟩:=Ph (b:=c) (q:=q) hf (pL h1 r1 hO hf) λρ1 H1 f1 t1 o1=>FU h2 (r2.ext (t1.le hf)) o1 f1;refine⟨ρ',HB,H',k1,k2,k3,k4,k5,?_,k7,?_,?_⟩<;>simp only[iA,HL.z9,HL.zH]
      ·exact k6
      ·exact⟨fs,cs,e,k8,k9⟩
      ·exact k10
     ·cases h
    ·cases h
 |cons a b pL uO=>
  intro v l H g g' x ρ h hv hO hf;cases v<;>unfold qK at h<;>(try dsimp only at h)<;>try (cases h;done)
  case cons y z=>
   split at h
   ·rename_i p g1 h1
    split at h
    ·rename_i q g2 h2
     obtain⟨rfl,rfl⟩:=cO h;obtain⟨u,r,e,r1,r2⟩:=hv;obtain⟨ρ',HB,H',k1,k2,k3,k4,k5,k6,k7,k8,k9,k10⟩:=Ph (b:=b) (q:=q) hf (pL h1 r1 hO hf) λρ1 H1 f1 t1 o1=>uO h2 (r2.ext (t1.le hf)) o1 f1;refine⟨ρ',HB,H',k1,k2,k3,k4,k5,?_,k7,?_,?_⟩<;>simp only[iA,HL.z9,HL.zH]
     ·exact k6
     ·exact⟨u,r,e,k8,k9⟩
     ·exact k10
    ·cases h
   ·cases h
 |part w a b pL uO=>
  intro v l H g g' x ρ h hv hO hf;cases v<;>unfold qK at h<;>(try dsimp only at h)<;>try (cases h;done)
  case part w' y z=>
   cases hb:Nat.beq w w' with
   |false=>rw[hb]at h;cases h
   |true=>
    rw[hb]at h;simp only[cond_true]at h;obtain rfl:=aoW hb;split at h
    ·rename_i p g1 h1
     split at h
     ·rename_i q g2 h2
      obtain⟨rfl,rfl⟩:=cO h;obtain⟨c1,c2,u,e,r0,r1,r3,r2⟩:=hv;obtain⟨ρ',HB,H',k1,k2,k3,k4,k5,k6,k7,k8,k9,k10⟩:=Ph (b:=b) (q:=q) hf (pL h1 r1 hO hf) λρ1 H1 f1 t1 o1=>uO h2 (r2.ext (t1.le hf)) o1 f1;refine⟨ρ',HB,H',k1,k2,k3,k4,k5,?_,k7,?_,?_⟩<;>simp only[iA,HL.z9,HL.zH]
      ·exact k6
      ·exact⟨c1,c2,u,e,r0,k8,r3,k9⟩
      ·exact k10
     ·cases h
    ·cases h
 |rZ a ih=>
  intro v l H g g' x ρ h hv hO hf;cases v<;>unfold qK at h<;>(try dsimp only at h)<;>try (cases h;done)
  case rZ y=>obtain⟨vs,e,r1⟩:=hv;obtain⟨ρ',HB,H',k⟩:=ih h r1 hO hf;exact⟨ρ',HB,H',k.to,k.fr,k.nx,k.left,k.pre,k.R7,k.hp,⟨vs,e,k.val⟩,k.eL⟩
 |st a ih=>
  intro v l H g g' x ρ h hv hO hf;cases v<;>unfold qK at h<;>(try dsimp only at h)<;>try (cases h;done)
  case st y=>obtain⟨cs,e,r1,r2⟩:=hv;obtain⟨ρ',HB,H',k⟩:=ih h r1 hO hf;exact⟨ρ',HB,H',k.to,k.fr,k.nx,k.left,k.pre,k.R7,k.hp,⟨cs,e,k.val,r2⟩,k.eL⟩
 |nY t a ih=>
  intro v l H g g' x ρ h hv hO hf;cases v<;>unfold qK at h<;>(try dsimp only at h)<;>try (cases h;done)
  case nY t' y=>
   cases hb:Nat.beq t t' with
   |false=>rw[hb]at h;cases h
   |true=>rw[hb]at h;obtain rfl:=aoW hb;obtain⟨u,e,r1⟩:=hv;obtain⟨ρ',HB,H',k⟩:=ih h r1 hO hf;exact⟨ρ',HB,H',k.to,k.fr,k.nx,k.left,k.pre,k.R7,k.hp,⟨u,e,k.val⟩,k.eL⟩
end Go.Rw
namespace Go.Rw
open Go Go.Bw Go.RowKit
variable {G:Sg} {P:Program} {J J':World->Prop} {ρ ρ' σ:bT}
def Wx(f:Nat->Nat):AV G->AV G
 | .ptr r p=> .ptr (f r) p
 | .row r=> .row (f r)
 | .mp r=> .mp (f r)
 | .fn k a c=> .fn k (Wx f a) (Wx f c)
 | .st a=> .st (Wx f a)
 | .rZ a=> .rZ (Wx f a)
 | .nY t v=> .nY t (Wx f v)
 | .gd j w v=> .gd j w (Wx f v)
 | .cons a b=> .cons (Wx f a) (Wx f b)
 | .part w a b=> .part w (Wx f a) (Wx f b)
 |v=>v
def anb(f:Nat->Nat):Ob G->Ob G
 | .eL T c=> .eL T (Wx f c)
 |o=>o
def Zb(f:Nat->Nat)(O:Os G):Os G:=O.map λp=>(f p.1,anb f p.2)
theorem SI{f:Nat->Nat}(m:∀r v,σ r=some v->ρ (f r)=some v):∀{v:AV G} {l:List Value},rl J σ v l->rl J ρ (Wx f v) l:=by
 intro v
 induction v with
 |ptr r p=>
  intro l h;obtain⟨⟨b,o,h1,h2⟩,h3⟩:=h;refine⟨⟨b,o,?_,h2⟩,h3⟩;rcases h1 with h1|⟨n,cap,n',sz,i,q,e1,e2⟩
  ·exact .inl (m _ _ h1)
  ·exact .inr ⟨n,cap,n',sz,i,q,m _ _ e1,e2⟩
 |row r=>intro l h;obtain⟨a,n,cap,h1,h2⟩:=h;exact⟨a,n,cap,m _ _ h1,h2⟩
 |mp r=>intro l h;obtain⟨b,h1,h2⟩:=h;exact⟨b,m _ _ h1,h2⟩
 |fn f a c pL FU=>intro l h;obtain⟨fs,cs,e,h1,h2⟩:=h;exact⟨fs,cs,e,pL h1,FU h2⟩
 |st a ih=>intro l h;obtain⟨cs,e,h1,h2⟩:=h;exact⟨cs,e,ih h1,h2⟩
 |rZ a ih=>intro l h;obtain⟨vs,e,h1⟩:=h;exact⟨vs,e,ih h1⟩
 |nY t v ih=>intro l h;obtain⟨u,e,h1⟩:=h;exact⟨u,e,ih h1⟩
 |cons a b pL uO=>intro l h;obtain⟨u,r,e,h1,h2⟩:=h;exact⟨u,r,e,pL h1,uO h2⟩
 |part w a b pL uO=>intro l h;obtain⟨c1,c2,u,e,h1,h2,h3,h4⟩:=h;exact⟨c1,c2,u,e,h1,pL h2,h3,uO h4⟩
 |_ =>intro l h;exact h
theorem UF{f:Nat->Nat}(m:∀r v,σ r=some v->ρ (f r)=some v){O:Os G}{H:List aO}(h:RO J σ O H):RO J ρ (Zb f O) H:=by
 induction h with
 |nil=>exact .nil
 |@cons r o x O H h _ ih=>
  refine .cons ?_ ih;cases o with
  |eL T c=>obtain⟨b,u,h1,h2,h3⟩:=h;exact⟨b,u,m _ _ h1,h2,SI m h3⟩
  |row e sz t xs=>obtain⟨v,ws,h1,h2⟩:=h;exact⟨v,ws,m _ _ h1,h2⟩
  |aux b=>obtain⟨n,x,h1,h2⟩:=h;exact⟨n,x,m _ _ h1,h2⟩
  |gm=>obtain⟨⟨mb,g,h1,h2⟩,h4⟩:=h;exact⟨⟨mb,g,m _ _ h1,h2⟩,h4⟩
theorem Ge{f:Nat->Nat}:∀{s:Sh} {x:HL G (br s)} {m:Nat},(iA f s x m).1=Wx f (iA (λm=>m) s x m).1/\(iA f s x m).2.1=Zb f (iA (λm=>m) s x m).2.1/\(iA f s x m).2.2=(iA (λm=>m) s x m).2.2:=by
 intro s
 induction s with
 |v t=>intro x m;refine⟨?_,rfl,rfl⟩;cases t<;>rfl
 |row e sz t=>intro x m;exact⟨rfl,rfl,rfl⟩
 |box T s ih=>intro x m;obtain⟨h1,h2,h3⟩:=ih (x:=x) (m:=m+1);simp only[iA];exact⟨rfl,by rw[h1,h2];rfl,h3⟩
 |fn k a c pL FU=>intro x m;obtain⟨h1,h2,h3⟩:=pL (x:=HL.fst x) (m:=m);simp only[iA];rw[h3];obtain⟨k1,k2,k3⟩:=FU (x:=HL.snd x) (m:=(iA (λm=>m) a (HL.fst x) m).2.2);exact⟨by rw[h1,k1];rfl,by rw[h2,k2];simp[Zb],k3⟩
 |cons a c pL FU=>intro x m;obtain⟨h1,h2,h3⟩:=pL (x:=HL.fst x) (m:=m);simp only[iA];rw[h3];obtain⟨k1,k2,k3⟩:=FU (x:=HL.snd x) (m:=(iA (λm=>m) a (HL.fst x) m).2.2);exact⟨by rw[h1,k1];rfl,by rw[h2,k2];simp[Zb],k3⟩
 |part w a c pL FU=>intro x m;obtain⟨h1,h2,h3⟩:=pL (x:=HL.fst x) (m:=m);simp only[iA];rw[h3];obtain⟨k1,k2,k3⟩:=FU (x:=HL.snd x) (m:=(iA (λm=>m) a (HL.fst x) m).2.2);exact⟨by rw[h1,k1];rfl,by rw[h2,k2];simp[Zb],k3⟩
 |rZ a ih=>intro x m;obtain⟨h1,h2,h3⟩:=ih (x:=x) (m:=m);simp only[iA];exact⟨by rw[h1];rfl,h2,h3⟩
 |st a ih=>intro x m;obtain⟨h1,h2,h3⟩:=ih (x:=x) (m:=m);simp only[iA];exact⟨by rw[h1];rfl,h2,h3⟩
 |nY t a ih=>intro x m;obtain⟨h1,h2,h3⟩:=ih (x:=x) (m:=m);simp only[iA];exact⟨by rw[h1];rfl,h2,h3⟩
 |_ =>intro x m;exact⟨rfl,rfl,rfl⟩
def lpE{Z:Type}:(l:List Ty)->((HL G l->Option Z)->HL G l->Option Z)->Nat->HL G l->Option Z
 |[_],B,n,e=>fK (λk x1=>B (λe=>k (e.1)) (x1,())) n (e.1)
 |[_,_],B,n,e=>cH (λk x1 x2=>B (λe=>k (e.1) (e.2.1)) (x1,x2,())) n (e.1) (e.2.1)
 |[_,_,_],B,n,e=>sF (λk x1 x2 x3=>B (λe=>k (e.1) (e.2.1) (e.2.2.1)) (x1,x2,x3,())) n (e.1) (e.2.1) (e.2.2.1)
 |[_,_,_,_],B,n,e=>Nq (λk x1 x2 x3 x4=>B (λe=>k (e.1) (e.2.1) (e.2.2.1) (e.2.2.2.1)) (x1,x2,x3,x4,())) n (e.1) (e.2.1) (e.2.2.1) (e.2.2.2.1)
 |[_,_,_,_,_],B,n,e=>U7 (λk x1 x2 x3 x4 x5=>B (λe=>k (e.1) (e.2.1) (e.2.2.1) (e.2.2.2.1) (e.2.2.2.2.1)) (x1,x2,x3,x4,x5,())) n (e.1) (e.2.1) (e.2.2.1) (e.2.2.2.1) (e.2.2.2.2.1)
 |[_,_,_,_,_,_],B,n,e=>U5 (λk x1 x2 x3 x4 x5 x6=>B (λe=>k (e.1) (e.2.1) (e.2.2.1) (e.2.2.2.1) (e.2.2.2.2.1) (e.2.2.2.2.2.1)) (x1,x2,x3,x4,x5,x6,())) n (e.1) (e.2.1) (e.2.2.1) (e.2.2.2.1) (e.2.2.2.2.1) (e.2.2.2.2.2.1)
 |[_,_,_,_,_,_,_],B,n,e=>U4 (λk x1 x2 x3 x4 x5 x6 x7=>B (λe=>k (e.1) (e.2.1) (e.2.2.1) (e.2.2.2.1) (e.2.2.2.2.1) (e.2.2.2.2.2.1) (e.2.2.2.2.2.2.1)) (x1,x2,x3,x4,x5,x6,x7,())) n (e.1) (e.2.1) (e.2.2.1) (e.2.2.2.1) (e.2.2.2.2.1) (e.2.2.2.2.2.1) (e.2.2.2.2.2.2.1)
 |[_,_,_,_,_,_,_,_],B,n,e=>U3 (λk x1 x2 x3 x4 x5 x6 x7 x8=>B (λe=>k (e.1) (e.2.1) (e.2.2.1) (e.2.2.2.1) (e.2.2.2.2.1) (e.2.2.2.2.2.1) (e.2.2.2.2.2.2.1) (e.2.2.2.2.2.2.2.1)) (x1,x2,x3,x4,x5,x6,x7,x8,())) n (e.1) (e.2.1) (e.2.2.1) (e.2.2.2.1) (e.2.2.2.2.1) (e.2.2.2.2.2.1) (e.2.2.2.2.2.2.1) (e.2.2.2.2.2.2.2.1)
 |[_,_,_,_,_,_,_,_,_],B,n,e=>U2 (λk x1 x2 x3 x4 x5 x6 x7 x8 x9=>B (λe=>k (e.1) (e.2.1) (e.2.2.1) (e.2.2.2.1) (e.2.2.2.2.1) (e.2.2.2.2.2.1) (e.2.2.2.2.2.2.1) (e.2.2.2.2.2.2.2.1) (e.2.2.2.2.2.2.2.2.1)) (x1,x2,x3,x4,x5,x6,x7,x8,x9,())) n (e.1) (e.2.1) (e.2.2.1) (e.2.2.2.1) (e.2.2.2.2.1) (e.2.2.2.2.2.1) (e.2.2.2.2.2.2.1) (e.2.2.2.2.2.2.2.1) (e.2.2.2.2.2.2.2.2.1)
 |[_,_,_,_,_,_,_,_,_,_],B,n,e=>OU (λk x1 x2 x3 x4 x5 x6 x7 x8 x9 P7=>B (λe=>k (e.1) (e.2.1) (e.2.2.1) (e.2.2.2.1) (e.2.2.2.2.1) (e.2.2.2.2.2.1) (e.2.2.2.2.2.2.1) (e.2.2.2.2.2.2.2.1) (e.2.2.2.2.2.2.2.2.1) (e.2.2.2.2.2.2.2.2.2.1)) (x1,x2,x3,x4,x5,x6,x7,x8,x9,P7,())) n (e.1) (e.2.1) (e.2.2.1) (e.2.2.2.1) (e.2.2.2.2.1) (e.2.2.2.2.2.1) (e.2.2.2.2.2.2.1) (e.2.2.2.2.2.2.2.1) (e.2.2.2.2.2.2.2.2.1) (e.2.2.2.2.2.2.2.2.2.1)
 |[_,_,_,_,_,_,_,_,_,_,_],B,n,e=>OT (λk x1 x2 x3 x4 x5 x6 x7 x8 x9 P7 Yh=>B (λe=>k (e.1) (e.2.1) (e.2.2.1) (e.2.2.2.1) (e.2.2.2.2.1) (e.2.2.2.2.2.1) (e.2.2.2.2.2.2.1) (e.2.2.2.2.2.2.2.1) (e.2.2.2.2.2.2.2.2.1) (e.2.2.2.2.2.2.2.2.2.1) (e.2.2.2.2.2.2.2.2.2.2.1)) (x1,x2,x3,x4,x5,x6,x7,x8,x9,P7,Yh,())) n (e.1) (e.2.1) (e.2.2.1) (e.2.2.2.1) (e.2.2.2.2.1) (e.2.2.2.2.2.1) (e.2.2.2.2.2.2.1) (e.2.2.2.2.2.2.2.1) (e.2.2.2.2.2.2.2.2.1) (e.2.2.2.2.2.2.2.2.2.1) (e.2.2.2.2.2.2.2.2.2.2.1)
 |[_,_,_,_,_,_,_,_,_,_,_,_],B,n,e=>OS (λk x1 x2 x3 x4 x5 x6 x7 x8 x9 P7 Yh x12=>B (λe=>k (e.1) (e.2.1) (e.2.2.1) (e.2.2.2.1) (e.2.2.2.2.1) (e.2.2.2.2.2.1) (e.2.2.2.2.2.2.1) (e.2.2.2.2.2.2.2.1) (e.2.2.2.2.2.2.2.2.1) (e.2.2.2.2.2.2.2.2.2.1) (e.2.2.2.2.2.2.2.2.2.2.1) (e.2.2.2.2.2.2.2.2.2.2.2.1)) (x1,x2,x3,x4,x5,x6,x7,x8,x9,P7,Yh,x12,())) n (e.1) (e.2.1) (e.2.2.1) (e.2.2.2.1) (e.2.2.2.2.1) (e.2.2.2.2.2.1) (e.2.2.2.2.2.2.1) (e.2.2.2.2.2.2.2.1) (e.2.2.2.2.2.2.2.2.1) (e.2.2.2.2.2.2.2.2.2.1) (e.2.2.2.2.2.2.2.2.2.2.1) (e.2.2.2.2.2.2.2.2.2.2.2.1)
 |_,_,_,_ =>none
theorem akn{Z:Type}:∀{l:List Ty} {B:(HL G l->Option Z)->HL G l->Option Z} {n:Nat} {e:HL G l} {z:Z},lpE l B n e=some z->∃m,n=m+1/\B (lpE l B m) e=some z:=by
 intro l B n e z h
 match l,B,e,h with
 |[_],B,e,h=>obtain⟨m,h1,h2⟩:=akv rfl h;exact⟨m,h1,h2⟩
 |[_,_],B,e,h=>obtain⟨m,h1,h2⟩:=Np rfl h;exact⟨m,h1,h2⟩
 |[_,_,_],B,e,h=>obtain⟨m,h1,h2⟩:=afn rfl h;exact⟨m,h1,h2⟩
 |[_,_,_,_],B,e,h=>obtain⟨m,h1,h2⟩:=akt rfl h;exact⟨m,h1,h2⟩
 |[_,_,_,_,_],B,e,h=>obtain⟨m,h1,h2⟩:=aks rfl h;exact⟨m,h1,h2⟩
 |[_,_,_,_,_,_],B,e,h=>obtain⟨m,h1,h2⟩:=akr rfl h;exact⟨m,h1,h2⟩
 |[_,_,_,_,_,_,_],B,e,h=>obtain⟨m,h1,h2⟩:=akq rfl h;exact⟨m,h1,h2⟩
 |[_,_,_,_,_,_,_,_],B,e,h=>obtain⟨m,h1,h2⟩:=akp rfl h;exact⟨m,h1,h2⟩
 |[_,_,_,_,_,_,_,_,_],B,e,h=>obtain⟨m,h1,h2⟩:=ako rfl h;exact⟨m,h1,h2⟩
 |[_,_,_,_,_,_,_,_,_,_],B,e,h=>obtain⟨m,h1,h2⟩:=agU rfl h;exact⟨m,h1,h2⟩
 |[_,_,_,_,_,_,_,_,_,_,_],B,e,h=>obtain⟨m,h1,h2⟩:=agT rfl h;exact⟨m,h1,h2⟩
 |[_,_,_,_,_,_,_,_,_,_,_,_],B,e,h=>obtain⟨m,h1,h2⟩:=agS rfl h;exact⟨m,h1,h2⟩
 |[],B,e,h=>cases h
 |_ ::_ ::_ ::_ ::_ ::_ ::_ ::_ ::_ ::_ ::_ ::_ ::_ ::_,B,e,h=>cases h
theorem afp(α ρ:Type):∃g:α->(α->Option ρ)->Option ρ,∀a f,g a f=lt a f:=⟨lt,λ_ _ =>rfl⟩
noncomputable def jn{α ρ:Type}:α->(α->Option ρ)->Option ρ:=Classical.choose (afp α ρ)
theorem akA{α ρ:Type}{a:α}{f:α->Option ρ}:jn a f=lt a f:=Classical.choose_spec (afp α ρ) a f
noncomputable def lj{α ρ:Type}:Bool->α->(α->Option ρ)->Option ρ
 |true=>jn
 |false=>lt
theorem Jw{α ρ:Type}{b:Bool}{a:α}{f:α->Option ρ}:lj b a f=f a:=by cases b;exact rfl;exact akA
noncomputable def jnE{Z:Type}(b:Bool):(l:List Ty)->(HL G l->Option Z)->((HL G l->Option Z)->Option Z)->Option Z
 |[_],B,A=>lj b (λx1=>B (x1,())) λj=>A λe=>j (e.1)
 |[_,_],B,A=>lj b (λx1 x2=>B (x1,x2,())) λj=>A λe=>j (e.1) (e.2.1)
 |[_,_,_],B,A=>lj b (λx1 x2 x3=>B (x1,x2,x3,())) λj=>A λe=>j (e.1) (e.2.1) (e.2.2.1)
 |[_,_,_,_],B,A=>lj b (λx1 x2 x3 x4=>B (x1,x2,x3,x4,())) λj=>A λe=>j (e.1) (e.2.1) (e.2.2.1) (e.2.2.2.1)
 |[_,_,_,_,_],B,A=>lj b (λx1 x2 x3 x4 x5=>B (x1,x2,x3,x4,x5,())) λj=>A λe=>j (e.1) (e.2.1) (e.2.2.1) (e.2.2.2.1) (e.2.2.2.2.1)
 |[_,_,_,_,_,_],B,A=>lj b (λx1 x2 x3 x4 x5 x6=>B (x1,x2,x3,x4,x5,x6,())) λj=>A λe=>j (e.1) (e.2.1) (e.2.2.1) (e.2.2.2.1) (e.2.2.2.2.1) (e.2.2.2.2.2.1)
 |[_,_,_,_,_,_,_],B,A=>lj b (λx1 x2 x3 x4 x5 x6 x7=>B (x1,x2,x3,x4,x5,x6,x7,())) λj=>A λe=>j (e.1) (e.2.1) (e.2.2.1) (e.2.2.2.1) (e.2.2.2.2.1) (e.2.2.2.2.2.1) (e.2.2.2.2.2.2.1)
 |[_,_,_,_,_,_,_,_],B,A=>lj b (λx1 x2 x3 x4 x5 x6 x7 x8=>B (x1,x2,x3,x4,x5,x6,x7,x8,())) λj=>A λe=>j (e.1) (e.2.1) (e.2.2.1) (e.2.2.2.1) (e.2.2.2.2.1) (e.2.2.2.2.2.1) (e.2.2.2.2.2.2.1) (e.2.2.2.2.2.2.2.1)
 |[_,_,_,_,_,_,_,_,_],B,A=>lj b (λx1 x2 x3 x4 x5 x6 x7 x8 x9=>B (x1,x2,x3,x4,x5,x6,x7,x8,x9,())) λj=>A λe=>j (e.1) (e.2.1) (e.2.2.1) (e.2.2.2.1) (e.2.2.2.2.1) (e.2.2.2.2.2.1) (e.2.2.2.2.2.2.1) (e.2.2.2.2.2.2.2.1) (e.2.2.2.2.2.2.2.2.1)
 |[_,_,_,_,_,_,_,_,_,_],B,A=>lj b (λx1 x2 x3 x4 x5 x6 x7 x8 x9 P7=>B (x1,x2,x3,x4,x5,x6,x7,x8,x9,P7,())) λj=>A λe=>j (e.1) (e.2.1) (e.2.2.1) (e.2.2.2.1) (e.2.2.2.2.1) (e.2.2.2.2.2.1) (e.2.2.2.2.2.2.1) (e.2.2.2.2.2.2.2.1) (e.2.2.2.2.2.2.2.2.1) (e.2.2.2.2.2.2.2.2.2.1)
 |[_,_,_,_,_,_,_,_,_,_,_],B,A=>lj b (λx1 x2 x3 x4 x5 x6 x7 x8 x9 P7 Yh=>B (x1,x2,x3,x4,x5,x6,x7,x8,x9,P7,Yh,())) λj=>A λe=>j (e.1) (e.2.1) (e.2.2.1) (e.2.2.2.1) (e.2.2.2.2.1) (e.2.2.2.2.2.1) (e.2.2.2.2.2.2.1) (e.2.2.2.2.2.2.2.1) (e.2.2.2.2.2.2.2.2.1) (e.2.2.2.2.2.2.2.2.2.1) (e.2.2.2.2.2.2.2.2.2.2.1)
 |[_,_,_,_,_,_,_,_,_,_,_,_],B,A=>lj b (λx1 x2 x3 x4 x5 x6 x7 x8 x9 P7 Yh x12=>B (x1,x2,x3,x4,x5,x6,x7,x8,x9,P7,Yh,x12,())) λj=>A λe=>j (e.1) (e.2.1) (e.2.2.1) (e.2.2.2.1) (e.2.2.2.2.1) (e.2.2.2.2.2.1) (e.2.2.2.2.2.2.1) (e.2.2.2.2.2.2.2.1) (e.2.2.2.2.2.2.2.2.1) (e.2.2.2.2.2.2.2.2.2.1) (e.2.2.2.2.2.2.2.2.2.2.1) (e.2.2.2.2.2.2.2.2.2.2.2.1)
 |_,B,A=>A B
theorem akB{Z:Type}{b:Bool}:∀{l:List Ty} {B:HL G l->Option Z} {A:(HL G l->Option Z)->Option Z} {z:Z},jnE b l B A=some z->A B=some z:=by
 intro l B A z h
 match l,B,A,h with
 |[_],B,A,h=>exact(Jw (b:=b) (a:=λx1=>B (x1,())) (f:=λj=>A λe=>j (e.1))).symm.trans h
 |[_,_],B,A,h=>exact(Jw (b:=b) (a:=λx1 x2=>B (x1,x2,())) (f:=λj=>A λe=>j (e.1) (e.2.1))).symm.trans h
 |[_,_,_],B,A,h=>exact(Jw (b:=b) (a:=λx1 x2 x3=>B (x1,x2,x3,())) (f:=λj=>A λe=>j (e.1) (e.2.1) (e.2.2.1))).symm.trans h
 |[_,_,_,_],B,A,h=>exact(Jw (b:=b) (a:=λx1 x2 x3 x4=>B (x1,x2,x3,x4,())) (f:=λj=>A λe=>j (e.1) (e.2.1) (e.2.2.1) (e.2.2.2.1))).symm.trans h
 |[_,_,_,_,_],B,A,h=>exact(Jw (b:=b) (a:=λx1 x2 x3 x4 x5=>B (x1,x2,x3,x4,x5,())) (f:=λj=>A λe=>j (e.1) (e.2.1) (e.2.2.1) (e.2.2.2.1) (e.2.2.2.2.1))).symm.trans h
 |[_,_,_,_,_,_],B,A,h=>exact(Jw (b:=b) (a:=λx1 x2 x3 x4 x5 x6=>B (x1,x2,x3,x4,x5,x6,())) (f:=λj=>A λe=>j (e.1) (e.2.1) (e.2.2.1) (e.2.2.2.1) (e.2.2.2.2.1) (e.2.2.2.2.2.1))).symm.trans h
 |[_,_,_,_,_,_,_],B,A,h=>exact(Jw (b:=b) (a:=λx1 x2 x3 x4 x5 x6 x7=>B (x1,x2,x3,x4,x5,x6,x7,())) (f:=λj=>A λe=>j (e.1) (e.2.1) (e.2.2.1) (e.2.2.2.1) (e.2.2.2.2.1) (e.2.2.2.2.2.1) (e.2.2.2.2.2.2.1))).symm.trans h
 |[_,_,_,_,_,_,_,_],B,A,h=>exact(Jw (b:=b) (a:=λx1 x2 x3 x4 x5 x6 x7 x8=>B (x1,x2,x3,x4,x5,x6,x7,x8,())) (f:=λj=>A λe=>j (e.1) (e.2.1) (e.2.2.1) (e.2.2.2.1) (e.2.2.2.2.1) (e.2.2.2.2.2.1) (e.2.2.2.2.2.2.1) (e.2.2.2.2.2.2.2.1))).symm.trans h
 |[_,_,_,_,_,_,_,_,_],B,A,h=>exact(Jw (b:=b) (a:=λx1 x2 x3 x4 x5 x6 x7 x8 x9=>B (x1,x2,x3,x4,x5,x6,x7,x8,x9,())) (f:=λj=>A λe=>j (e.1) (e.2.1) (e.2.2.1) (e.2.2.2.1) (e.2.2.2.2.1) (e.2.2.2.2.2.1) (e.2.2.2.2.2.2.1) (e.2.2.2.2.2.2.2.1) (e.2.2.2.2.2.2.2.2.1))).symm.trans h
 |[_,_,_,_,_,_,_,_,_,_],B,A,h=>exact(Jw (b:=b) (a:=λx1 x2 x3 x4 x5 x6 x7 x8 x9 P7=>B (x1,x2,x3,x4,x5,x6,x7,x8,x9,P7,())) (f:=λj=>A λe=>j (e.1) (e.2.1) (e.2.2.1) (e.2.2.2.1) (e.2.2.2.2.1) (e.2.2.2.2.2.1) (e.2.2.2.2.2.2.1) (e.2.2.2.2.2.2.2.1) (e.2.2.2.2.2.2.2.2.1) (e.2.2.2.2.2.2.2.2.2.1))).symm.trans h
 |[_,_,_,_,_,_,_,_,_,_,_],B,A,h=>exact(Jw (b:=b) (a:=λx1 x2 x3 x4 x5 x6 x7 x8 x9 P7 Yh=>B (x1,x2,x3,x4,x5,x6,x7,x8,x9,P7,Yh,())) (f:=λj=>A λe=>j (e.1) (e.2.1) (e.2.2.1) (e.2.2.2.1) (e.2.2.2.2.1) (e.2.2.2.2.2.1) (e.2.2.2.2.2.2.1) (e.2.2.2.2.2.2.2.1) (e.2.2.2.2.2.2.2.2.1) (e.2.2.2.2.2.2.2.2.2.1) (e.2.2.2.2.2.2.2.2.2.2.1))).symm.trans h
 |[_,_,_,_,_,_,_,_,_,_,_,_],B,A,h=>exact(Jw (b:=b) (a:=λx1 x2 x3 x4 x5 x6 x7 x8 x9 P7 Yh x12=>B (x1,x2,x3,x4,x5,x6,x7,x8,x9,P7,Yh,x12,())) (f:=λj=>A λe=>j (e.1) (e.2.1) (e.2.2.1) (e.2.2.2.1) (e.2.2.2.2.1) (e.2.2.2.2.2.1) (e.2.2.2.2.2.2.1) (e.2.2.2.2.2.2.2.1) (e.2.2.2.2.2.2.2.2.1) (e.2.2.2.2.2.2.2.2.2.1) (e.2.2.2.2.2.2.2.2.2.2.1) (e.2.2.2.2.2.2.2.2.2.2.2.1))).symm.trans h
 |[],B,A,h=>exact h
 |_ ::_ ::_ ::_ ::_ ::_ ::_ ::_ ::_ ::_ ::_ ::_ ::_ ::_,B,A,h=>exact h
def itE{B Z:Type}:(l:List Ty)->(B->(HL G l->Option Z)->HL G l->Option Z)->(HL G l->Option Z)->List B->HL G l->Option Z
 |[],b,fin,l,_ =>sH (λy k (_ :Unit)=>b y (λ_ =>k ()) ()) (λ_ =>fin ()) l ()
 |[_],b,fin,l,e=>sH (λy k x1=>b y (λe=>k (e.1)) (x1,())) (λx1=>fin (x1,())) l (e.1)
 |[_,_],b,fin,l,e=>akJ (λy k x1 x2=>b y (λe=>k (e.1) (e.2.1)) (x1,x2,())) (λx1 x2=>fin (x1,x2,())) l (e.1) (e.2.1)
 |[_,_,_],b,fin,l,e=>aan (λy k x1 x2 x3=>b y (λe=>k (e.1) (e.2.1) (e.2.2.1)) (x1,x2,x3,())) (λx1 x2 x3=>fin (x1,x2,x3,())) l (e.1) (e.2.1) (e.2.2.1)
 |[_,_,_,_],b,fin,l,e=>akI (λy k x1 x2 x3 x4=>b y (λe=>k (e.1) (e.2.1) (e.2.2.1) (e.2.2.2.1)) (x1,x2,x3,x4,())) (λx1 x2 x3 x4=>fin (x1,x2,x3,x4,())) l (e.1) (e.2.1) (e.2.2.1) (e.2.2.2.1)
 |[_,_,_,_,_],b,fin,l,e=>akH (λy k x1 x2 x3 x4 x5=>b y (λe=>k (e.1) (e.2.1) (e.2.2.1) (e.2.2.2.1) (e.2.2.2.2.1)) (x1,x2,x3,x4,x5,())) (λx1 x2 x3 x4 x5=>fin (x1,x2,x3,x4,x5,())) l (e.1) (e.2.1) (e.2.2.1) (e.2.2.2.1) (e.2.2.2.2.1)
 |[_,_,_,_,_,_],b,fin,l,e=>akG (λy k x1 x2 x3 x4 x5 x6=>b y (λe=>k (e.1) (e.2.1) (e.2.2.1) (e.2.2.2.1) (e.2.2.2.2.1) (e.2.2.2.2.2.1)) (x1,x2,x3,x4,x5,x6,())) (λx1 x2 x3 x4 x5 x6=>fin (x1,x2,x3,x4,x5,x6,())) l (e.1) (e.2.1) (e.2.2.1) (e.2.2.2.1) (e.2.2.2.2.1) (e.2.2.2.2.2.1)
 |[_,_,_,_,_,_,_],b,fin,l,e=>akF (λy k x1 x2 x3 x4 x5 x6 x7=>b y (λe=>k (e.1) (e.2.1) (e.2.2.1) (e.2.2.2.1) (e.2.2.2.2.1) (e.2.2.2.2.2.1) (e.2.2.2.2.2.2.1)) (x1,x2,x3,x4,x5,x6,x7,())) (λx1 x2 x3 x4 x5 x6 x7=>fin (x1,x2,x3,x4,x5,x6,x7,())) l (e.1) (e.2.1) (e.2.2.1) (e.2.2.2.1) (e.2.2.2.2.1) (e.2.2.2.2.2.1) (e.2.2.2.2.2.2.1)
 |[_,_,_,_,_,_,_,_],b,fin,l,e=>akE (λy k x1 x2 x3 x4 x5 x6 x7 x8=>b y (λe=>k (e.1) (e.2.1) (e.2.2.1) (e.2.2.2.1) (e.2.2.2.2.1) (e.2.2.2.2.2.1) (e.2.2.2.2.2.2.1) (e.2.2.2.2.2.2.2.1)) (x1,x2,x3,x4,x5,x6,x7,x8,())) (λx1 x2 x3 x4 x5 x6 x7 x8=>fin (x1,x2,x3,x4,x5,x6,x7,x8,())) l (e.1) (e.2.1) (e.2.2.1) (e.2.2.2.1) (e.2.2.2.2.1) (e.2.2.2.2.2.1) (e.2.2.2.2.2.2.1) (e.2.2.2.2.2.2.2.1)
 |_,_,_,_,_ =>none
theorem adX{B Z:Type}:∀{l:List Ty} {b:B->(HL G l->Option Z)->HL G l->Option Z} {fin:HL G l->Option Z} {e:HL G l} {z:Z},itE l b fin [] e=some z->fin e=some z:=by
 intro l b fin e z h
 match l,b,fin,e,h with
 |[],b,fin,e,h=>exact h
 |[_],b,fin,e,h=>exact h
 |[_,_],b,fin,e,h=>exact h
 |[_,_,_],b,fin,e,h=>exact h
 |[_,_,_,_],b,fin,e,h=>exact h
 |[_,_,_,_,_],b,fin,e,h=>exact h
 |[_,_,_,_,_,_],b,fin,e,h=>exact h
 |[_,_,_,_,_,_,_],b,fin,e,h=>exact h
 |[_,_,_,_,_,_,_,_],b,fin,e,h=>exact h
 |_ ::_ ::_ ::_ ::_ ::_ ::_ ::_ ::_ ::_,b,fin,e,h=>cases h
theorem aao{B Z:Type}:∀{l:List Ty} {b:B->(HL G l->Option Z)->HL G l->Option Z} {fin:HL G l->Option Z} {y:B} {q:List B} {e:HL G l} {z:Z},itE l b fin (y::q) e=some z->b y (itE l b fin q) e=some z:=by
 intro l b fin y q e z h
 match l,b,fin,e,h with
 |[],b,fin,e,h=>exact h
 |[_],b,fin,e,h=>exact h
 |[_,_],b,fin,e,h=>exact h
 |[_,_,_],b,fin,e,h=>exact h
 |[_,_,_,_],b,fin,e,h=>exact h
 |[_,_,_,_,_],b,fin,e,h=>exact h
 |[_,_,_,_,_,_],b,fin,e,h=>exact h
 |[_,_,_,_,_,_,_],b,fin,e,h=>exact h
 |[_,_,_,_,_,_,_,_],b,fin,e,h=>exact h
 |_ ::_ ::_ ::_ ::_ ::_ ::_ ::_ ::_ ::_,b,fin,e,h=>cases h
inductive Src where
 |slot (d:Nat)
 |obj (r:Nat)
structure gA where
 l:List (Src×Sh)
 nm:List (Option Nat)
def v8:List (Src×Sh)->Sh
 |[]=> .nil
 |(_,s)::r=> .cons s (v8 r)
def G7(C:CC G)(S:AS G):List (Src×Sh)->Option (AV G)
 |[]=>some .nil
 |(.slot d,_)::r=>match mK C S [] (.tmp d),G7 C S r with
  |some v,some l=>some (.cons v l)
  |_,_ =>none
 |(.obj b,_)::r=>match ga S.O b,G7 C S r with
  |some (.eL _ _),some l=>some (.cons (.ptr b []) l)
  |_,_ =>none
def zS:List (Option Nat)->List Nat->Bool
 |[],[]=>true
 |some r::q,s::th=>Nat.beq r s&&zS q th
 |none::q,_ ::th=>zS q th
 |_,_ =>false
def S8(base:Nat)(nm:List (Option Nat))(m:Nat):Nat:=match nm[m]? with
 |some (some r)=>r
 |_ =>base+m
def zT(base:Nat):List (Option Nat)->Bool
 |[]=>true
 |some r::q=>Nat.blt r base&&zT base q
 |none::q=>zT base q
def KG:List (Src×Sh)->AV G->Fr G
 |(.slot d,_)::r, .cons v l=>(d,v)::KG r l
 |(.obj _,_)::r, .cons _ l=>KG r l
 |_,_ =>[]
def AV.lt(n:Nat):AV G->Bool
 | .ptr r _ =>Nat.blt r n
 | .row r=>Nat.blt r n
 | .mp r=>Nat.blt r n
 | .fn _ a c=>a.lt n&&c.lt n
 | .st a=>a.lt n
 | .rZ a=>a.lt n
 | .nY _ v=>v.lt n
 | .gd _ _ v=>v.lt n
 | .cons a b=>a.lt n&&b.lt n
 | .part _ a b=>a.lt n&&b.lt n
 |_ =>true
theorem rl.iW{n:Nat}(m:∀r,r<n->ρ' r=ρ r):∀{v:AV G} {l:List Value},v.lt n=true->rl J ρ v l->rl J ρ' v l:=by
 intro v
 induction v with
 |ptr r p=>intro l h1 h;have hr:=m r (by simpa[AV.lt,Nat.blt_eq]using h1);obtain⟨⟨b,o,k1,k2⟩,k3⟩:=h;refine⟨⟨b,o,?_,k2⟩,k3⟩;unfold PB at k1 ⊢;rw[hr];exact k1
 |row r=>intro l h1 h;unfold rl at h ⊢;rw[m r (by simpa[AV.lt,Nat.blt_eq]using h1)];exact h
 |mp r=>intro l h1 h;unfold rl at h ⊢;rw[m r (by simpa[AV.lt,Nat.blt_eq]using h1)];exact h
 |fn f a c pL FU=>intro l h1 h;simp only[AV.lt,aoX]at h1;obtain⟨fs,cs,e,h2,h3⟩:=h;exact⟨fs,cs,e,pL h1.1 h2,FU h1.2 h3⟩
 |st a ih=>intro l h1 h;obtain⟨cs,e,h2,h3⟩:=h;exact⟨cs,e,ih h1 h2,h3⟩
 |rZ a ih=>intro l h1 h;obtain⟨vs,e,h2⟩:=h;exact⟨vs,e,ih h1 h2⟩
 |nY t v ih=>intro l h1 h;obtain⟨u,e,h2⟩:=h;exact⟨u,e,ih h1 h2⟩
 |cons a b pL uO=>intro l h1 h;simp only[AV.lt,aoX]at h1;obtain⟨u,r,e,h2,h3⟩:=h;exact⟨u,r,e,pL h1.1 h2,uO h1.2 h3⟩
 |part w a b pL uO=>intro l h1 h;simp only[AV.lt,aoX]at h1;obtain⟨c1,c2,u,e,h2,h3,h4,h5⟩:=h;exact⟨c1,c2,u,e,h2,pL h1.1 h3,h4,uO h1.2 h5⟩
 |_ =>intro l _ h;exact h
def ltF(n:Nat):Fr G->Bool
 |[]=>true
 |(_,v)::r=>v.lt n&&ltF n r
def zW(n:Nat):Os G->Bool
 |[]=>true
 |(r, .eL _ c)::q=>Nat.blt r n&&(c.lt n&&zW n q)
 |(r, .row _ _ _ _)::q=>Nat.blt r n&&zW n q
 |(r, .aux _)::q=>Nat.blt r n&&zW n q
 |(r, .gm)::q=>Nat.blt r n&&zW n q
def ltD(n:Nat):List (AV G)->Bool
 |[]=>true
 |v::r=>v.lt n&&ltD n r
def Bj(n:Nat):CC G->Bool
 |[]=>true
 |y::r=>ltF n y.F&&(zW n y.O&&(ltD n y.D&&Bj n r))
theorem afm{n:Nat}:∀{F:Fr G} {d:Nat} {v:AV G},ltF n F=true->ga F d=some v->v.lt n=true:=by
 intro F
 induction F with
 |nil=>intro d v _ h;cases h
 |cons p r ih=>
  obtain⟨k,u⟩:=p;intro d v h e;simp only[ltF,aoX]at h;simp only[ga]at e;cases hb:Nat.beq k d with
  |true=>rw[hb]at e;cases e;exact h.1
  |false=>rw[hb]at e;exact ih h.2 e
theorem rf.iW{n:Nat}(m:∀r,r<n->ρ' r=ρ r){t:Array Value}{v:AV G}{u:Value}(h1:v.lt n=true)(h:rf J ρ t v u):rf J ρ' t v u:=by
 cases v with
 |gd j w v=>exact⟨λe=>(h.1 e).iW m h1,h.2⟩
 |_ =>exact rl.iW m h1 h
theorem sW.iW{n:Nat}(m:∀r,r<n->ρ' r=ρ r){F:Fr G}{t:Array Value}(h1:ltF n F=true)(h:sW J ρ F t):sW J ρ' F t:=λd v e=>by obtain⟨u,k1,k2⟩:=h d v e;exact⟨u,k1,k2.iW m (afm h1 e)⟩
def Ob.lt(n:Nat):Ob G->Bool
 | .eL _ c=>c.lt n
 |_ =>true
theorem aad{n:Nat}:∀{O:Os G} {r:Nat} {o:Ob G},zW n O=true->ga O r=some o->(Nat.blt r n&&o.lt n)=true:=by
 intro O
 induction O with
 |nil=>intro r o _ h;cases h
 |cons p q ih=>
  obtain⟨k,u⟩:=p;intro r o h e;have h2:(Nat.blt k n&&u.lt n)=true/\zW n q=true:=by
   cases u with
   |eL T c=>simp only[zW,aoX]at h;exact⟨by simp[Ob.lt,h.1,h.2.1],h.2.2⟩
   |row _ _ _ _ =>simp only[zW,aoX]at h;exact⟨by simp[Ob.lt,h.1],h.2⟩
   |aux _ =>simp only[zW,aoX]at h;exact⟨by simp[Ob.lt,h.1],h.2⟩
   |gm=>simp only[zW,aoX]at h;exact⟨by simp[Ob.lt,h.1],h.2⟩
  simp only[ga]at e;cases hb:Nat.beq k r with
  |true=>rw[hb]at e;cases e;rw[← aoW hb];exact h2.1
  |false=>rw[hb]at e;exact ih h2.2 e
theorem ro.iW{n:Nat}(m:∀r,r<n->ρ' r=ρ r){r:Nat}{o:Ob G}{x:aO}(h:ro J ρ r o x)(hl:(Nat.blt r n&&o.lt n)=true):ro J ρ' r o x:=by
 rw[aoX]at hl;have hr:=m r (by simpa[Nat.blt_eq]using hl.1);cases o with
 |eL T c=>obtain⟨b,u,k1,k2,k3⟩:=h;exact⟨b,u,hr.trans k1,k2,k3.iW m hl.2⟩
 |row e sz t xs=>obtain⟨v,ws,k1,k2⟩:=h;exact⟨v,ws,hr.trans k1,k2⟩
 |aux b=>obtain⟨n,x,k1,k2⟩:=h;exact⟨n,x,hr.trans k1,k2⟩
 |gm=>obtain⟨⟨mb,g,k1,k2⟩,k4⟩:=h;exact⟨⟨mb,g,hr.trans k1,k2⟩,k4⟩
theorem RO.iW{n:Nat}(m:∀r,r<n->ρ' r=ρ r){O:Os G}{H:List aO}(h:RO J ρ O H):zW n O=true->RO J ρ' O H:=by
 induction h with
 |nil=>intro _;exact .nil
 |@cons r o x O H h _ ih=>
  intro hl;cases o with
  |eL T c=>simp only[zW,aoX]at hl;obtain⟨b,u,k1,k2,k3⟩:=h;exact .cons ⟨b,u,(m r (by simpa[Nat.blt_eq]using hl.1)).trans k1,k2,k3.iW m hl.2.1⟩ (ih hl.2.2)
  |row e sz t xs=>simp only[zW,aoX]at hl;obtain⟨v,ws,k1,k2⟩:=h;exact .cons ⟨v,ws,(m r (by simpa[Nat.blt_eq]using hl.1)).trans k1,k2⟩ (ih hl.2)
  |aux b=>simp only[zW,aoX]at hl;obtain⟨v,ws,k1,k2⟩:=h;exact .cons ⟨v,ws,(m r (by simpa[Nat.blt_eq]using hl.1)).trans k1,k2⟩ (ih hl.2)
  |gm=>simp only[zW,aoX]at hl;obtain⟨⟨mb,g,k1,k2⟩,k4⟩:=h;exact .cons ⟨⟨mb,g,(m r (by simpa[Nat.blt_eq]using hl.1)).trans k1,k2⟩,k4⟩ (ih hl.2)
theorem DR.iW{n:Nat}(m:∀r,r<n->ρ' r=ρ r){l:List (AV G)}{D:List Deferred}(h:DR J ρ l D):ltD n l=true->DR J ρ' l D:=by
 induction h with
 |nil=>intro _;exact .nil
 |@cons v d l D h _ ih=>
  intro hl;simp only[ltD,aoX]at hl;refine .cons ?_ (ih hl.2);unfold dr at h;split at h
  ·simp only[AV.lt,aoX]at hl
   obtain⟨fs,cs,ls,k1,k2,k3,k4⟩:=h;exact⟨fs,cs,ls,k1.iW m hl.1.1.1,k2.iW m hl.1.1.2,k3.iW m hl.1.2,k4⟩
  ·obtain⟨rfl,b,k1,k2⟩:=h
   exact⟨rfl,b,(m _ (by simpa[AV.lt,Nat.blt_eq]using hl.1)).trans k1,k2⟩
  ·exact h.elim
theorem aae{n:Nat}:∀{C:CC G},Bj n C=true->∀y∈C,ltF n y.F=true:=by
 intro C
 induction C with
 |nil=>intro _ y h;cases h
 |cons x r ih=>
  intro h y hy;simp only[Bj,aoX]at h;rcases List.mem_cons.1 hy with rfl|hy
  ·exact h.1
  ·exact ih h.2.2.2 y hy
theorem adJ{n:Nat}:∀{A B:Os G},zW n A=true->zW n B=true->zW n (A++B)=true:=by
 intro A
 induction A with
 |nil=>intro B _ h;exact h
 |cons p r ih=>
  obtain⟨k,o⟩:=p;intro B h1 h2;cases o<;>simp only[List.cons_append,zW,aoX]at h1 ⊢
  ·exact⟨h1.1,h1.2.1,ih h1.2.2 h2⟩
  ·exact⟨h1.1,ih h1.2 h2⟩
  ·exact⟨h1.1,ih h1.2 h2⟩
  ·exact⟨h1.1,ih h1.2 h2⟩
theorem OP{n:Nat}:∀{A B:List (AV G)},ltD n A=true->ltD n B=true->ltD n (A++B)=true:=by
 intro A
 induction A with
 |nil=>intro B _ h;exact h
 |cons p r ih=>intro B h1 h2;simp only[List.cons_append,ltD,aoX]at h1 ⊢;exact⟨h1.1,ih h1.2 h2⟩
theorem IT{n:Nat}:∀{C:CC G},Bj n C=true->zW n (y6 C)=true/\ltD n (dfC C)=true:=by
 intro C
 induction C with
 |nil=>intro _;exact⟨rfl,rfl⟩
 |cons x r ih=>intro h;simp only[Bj,aoX]at h;obtain⟨i1,i2⟩:=ih h.2.2.2;exact⟨adJ h.2.1 i1,OP h.2.2.1 i2⟩
theorem acC{c:Cx}{N:Nat}{HK X:List aO}{C:CC G}{S:AS G}{a:Act}{w:World}(h:Rl c N ρ J HK X C S a w):∀{l:List (Src×Sh)} {v:AV G},G7 C S l=some v->∃us,rl J ρ v us/\∀(x:HL G (br (v8 l))) (f:Nat->Nat) (m:Nat) (τ:bT),rl J τ (iA f (v8 l) x m).1 us->sW J τ (KG l (iA f (v8 l) x m).1) a.tmps:=by
 intro l
 induction l with
 |nil=>intro v e;cases e;exact⟨[],rfl,λx f m τ _ d v e=>by cases e⟩
 |cons p r ih=>
  obtain⟨s,sh⟩:=p;intro v e;have key:∀(u0:Value) (us:List Value) (x:HL G (br (v8 ((s,sh)::r)))) (f:Nat->Nat) (m:Nat) (τ:bT),rl J τ (iA f (v8 ((s,sh)::r)) x m).1 (u0::us)->
    rv J τ (iA f sh (HL.fst x) m).1 u0/\rl J τ (iA f (v8 r) (HL.snd x) (iA f sh (HL.fst x) m).2.2).1 us:=λu0 us x f m τ hr=>by
   obtain⟨u,q,e1,h1,h2⟩:=hr;cases e1;exact⟨h1,h2⟩
  cases s with
  |slot d=>
   simp only[G7]at e;split at e
   ·rename_i v1 l1 e1 e2
    cases e;obtain⟨us,i1,i2⟩:=ih e2;have hE:=gk h (ch:=[]) (by simp);have hin:=hE.ev _ _ e1;have hd:a.tmps[d]? =some (a.eval (.tmp d)):=J4 a d _ hin;refine⟨a.eval (.tmp d)::us,⟨_,_,rfl,hE.ok _ _ e1,i1⟩,λx f m τ hr=>?_⟩;obtain⟨k1,k2⟩:=key _ _ _ _ _ _ hr;have:=i2 (HL.snd x) f _ τ k2;intro k v e;have e:ga ((d,(iA f sh (HL.fst x) m).1)::KG r (iA f (v8 r) (HL.snd x) (iA f sh (HL.fst x) m).2.2).1) k=some v:=e;simp only[ga]at e;cases hb:Nat.beq d k with
    |true=>
     rw[hb]at e;cases e;obtain rfl:=aoW hb;refine⟨_,hd,?_⟩;have hng:∀j w v',(iA f sh (HL.fst x) m).1≠ .gd j w v':=λj w v' q=>by rw[q]at k1;exact k1
     revert k1;generalize(iA f sh (HL.fst x) m).1=b at hng;intro k1;cases b with
     |gd j w v'=>exact absurd rfl (hng j w v')
     |_ =>exact k1
    |false=>rw[hb]at e;exact this k v e
   ·cases e
  |obj b=>
   simp only[G7]at e;split at e
   ·rename_i T cc l1 e1 e2
    cases e;obtain⟨us,i1,i2⟩:=ih e2;obtain⟨HS,q1,_⟩:=h.hp;obtain⟨k,y,_,⟨b',u,m1,_,_⟩⟩:=q1.get e1;refine⟨fW b' 0::us,⟨_,_,rfl,⟨⟨b',0, .inl m1,rfl⟩,by simp⟩,i1⟩,λx f m τ hr=>?_⟩;obtain⟨k1,k2⟩:=key _ _ _ _ _ _ hr;exact i2 (HL.snd x) f _ τ k2
   ·cases e
theorem ZV:∀{nm:List (Option Nat)} {th:List Nat},zS nm th=true->nm.length=th.length/\∀(m r:Nat),nm[m]? =some (some r)->th[m]? =some r:=by
 intro nm
 induction nm with
 |nil=>intro th h;cases th with
  |nil=>exact⟨rfl,λm r e=>by simp at e⟩
  |cons _ _ =>cases h
 |cons o q ih=>
  intro th h;cases th with
  |nil=>cases o<;>cases h
  |cons s th=>
   have h1:zS q th=true/\∀r,o=some r->r=s:=by
    cases o with
    |none=>exact⟨h,nofun⟩
    |some r=>simp only[zS,aoX]at h;exact⟨h.2,λr' e=>by cases e;exact aoW h.1⟩
   obtain⟨i1,i2⟩:=ih h1.1;refine⟨by simp[i1],λm r e=>?_⟩;cases m with
   |zero=>simp at e;simp[h1.2 r e]
   |succ m=>simpa using i2 m r (by simpa using e)
theorem ZW{base:Nat}:∀{nm:List (Option Nat)},zT base nm=true->∀(m r:Nat),nm[m]? =some (some r)->r<base:=by
 intro nm
 induction nm with
 |nil=>intro _ m r e;simp at e
 |cons o q ih=>
  intro h m r e;cases m with
  |zero=>simp at e;subst e;simp only[zT,aoX]at h;simpa[Nat.blt_eq]using h.1
  |succ m=>
   refine ih ?_ m r (by simpa using e);cases o with
   |none=>exact h
   |some _ =>simp only[zT,aoX]at h;exact h.2
def ME(g:gA)(base:Nat)(x:HL G (br (v8 g.l))):AS G:=⟨KG g.l (iA (S8 base g.nm) (v8 g.l) x 0).1,(iA (S8 base g.nm) (v8 g.l) x 0).2.1,base+g.nm.length,[]⟩
def Lf(C:CC G)(S:AS G)(g:gA)(base:Nat):Option (HL G (br (v8 g.l))):=match S.D with
 |[]=>match G7 C S g.l with
  |some v=>match qK (v8 g.l) v ⟨[],S.O,S.nx⟩with
   |some (x,g')=>bif zS g.nm g'.th&&(zT base g.nm&&Nat.ble base S.nx)then some x else none
   |none=>none
  |none=>none
 |_ =>none
theorem UZ{c:Cx}{N:Nat}{HK X:List aO}{C:CC G}{S:AS G}{a:Act}{w:World}{g:gA}{base:Nat}{v:AV G}{x:HL G (br (v8 g.l))}{g':GS G}(h:Rl c N ρ J HK X C S a w)(hv:G7 C S g.l=some v)(Ld:qK (v8 g.l) v ⟨[],S.O,S.nx⟩=some (x,g'))
  (b1:zS g.nm g'.th=true)(b2:zT base g.nm=true)(b3:base<=S.nx)(hl:Bj base C=true):
  ∃(ρ' ρ2:bT) (HB H':List aO),ρ.to ρ' base/\ρ.to ρ2 S.nx/\RO J ρ' (ME g base x).O HB/\RO J ρ2 g'.O H'/\(∀r o,ga (y6 C) r=some o->∃x∈HK,ro J ρ' r o x)/\cC c.bs c.w0.heap.size (HB++(H'++(HK++X))) w/\sW J ρ' (ME g base x).F a.tmps/\FC J ρ' C a.tmps/\ρ'.fr (base+g.nm.length):=by
 obtain⟨n1,n2⟩:=ZV b1;have n3:=ZW b2;obtain⟨us,i1,i2⟩:=acC h hv;obtain⟨HS,q1,q3⟩:=h.hp;obtain⟨ρ2,HB,H',k⟩:=Li Ld i1 q1 h.fr;let ρ':bT:=λr=>if r<base then ρ r else cmp ρ2 g'.th (r-base)
 have hto:ρ.to ρ' base:=λr hr=>by show(if r<base then _ else _)=_;rw[aoU hr]
 have hmap:∀m u,cmp ρ2 g'.th m=some u->ρ' (S8 base g.nm m)=some u:=λm u e=>by
  have hm:m<g.nm.length:=by
   unfold cmp at e;rcases Nat.lt_or_ge m g'.th.length with hlt|hge
   ·omega
   ·rw[List.getElem?_eq_none hge]at e;cases e
  unfold S8;obtain⟨o,ho⟩:∃o,g.nm[m]? =some o:=⟨_,ao3 hm⟩;rw[ho];cases o with
  |none=>show(if base+m<base then _ else cmp ρ2 g'.th (base+m-base))=_;rw[aoV (by omega),Nat.add_sub_cancel_left];exact e
  |some r=>have hr:=n3 m r ho;have ht:=n2 m r ho;unfold cmp at e;rw[ht]at e;show(if r<base then ρ r else _)=_;rw[aoU hr, ← k.to r (by show r<S.nx;omega)];exact e
 obtain⟨r1,r2,_⟩:=Ge (G:=G) (f:=S8 base g.nm) (s:=v8 g.l) (x:=x) (m:=0);have hval:rl J ρ' (iA (S8 base g.nm) (v8 g.l) x 0).1 us:=by rw[r1];exact SI hmap k.val
 have Le:RO J ρ' (iA (S8 base g.nm) (v8 g.l) x 0).2.1 HB:=by rw[r2];exact UF hmap k.eL
 have hag:∀r,r<base->ρ' r=ρ r:=hto;obtain⟨l1,l2⟩:=IT hl;refine⟨ρ',ρ2,HB,H',hto,k.to,Le,k.left,λr o e=>?_,k.hp (HK++X) _ _ _ q3,i2 x _ 0 ρ' hval,λz hz=>(h.fc z hz).iW hag (aae hl z hz),λr hr=>?_⟩
 ·obtain⟨y,y1,y2⟩:=h.kc r o e
  exact⟨y,y1,y2.iW hag (aad l1 e)⟩
 show(if r<base then ρ r else cmp ρ2 g'.th (r-base))=none;rw[aoV (by omega)];unfold cmp;rw[List.getElem?_eq_none (by omega)]
theorem adE{c:Cx}{N:Nat}{HK X:List aO}{C:CC G}{S:AS G}{a:Act}{w:World}{g:gA}{base:Nat}{x:HL G (br (v8 g.l))}(h:Rl c N ρ J HK X C S a w)(hg:Lf C S g base=some x)(hl:Bj base C=true):
  ∃ρ',ρ.to ρ' base/\Rl c N ρ' J HK X C (ME g base x) a w:=by
 unfold Lf at hg;split at hg
 ·rename_i hD
  split at hg
  ·rename_i v hv
   split at hg
   ·rename_i y g' Ld
    cases hb:(zS g.nm g'.th&&(zT base g.nm&&Nat.ble base S.nx))with
    |false=>rw[hb]at hg;cases hg
    |true=>rw[hb]at hg;cases hg;simp only[aoX]at hb;obtain⟨b1,b2,b3⟩:=hb;obtain⟨ρ',ρ2,HB,H',hto,_,Le,_,hC,hp,hF,hfc,hfr⟩:=UZ h hv Ld b1 b2 (Nat.le_of_ble_eq_true b3) hl;have hdf:=h.df;rw[hD]at hdf;refine⟨ρ',hto,h.tm,hdf.iW hto (IT hl).2,h.si,hF,hfc,hC,⟨HB,Le,?_⟩,h.kn,hfr⟩;exact hp.sub ((List.Sublist.refl HB).append (List.sublist_append_right H' (HK++X)))
   ·cases hg
  ·cases hg
 ·cases hg
def fe:List Nat->Nat->Bool
 |[],_ =>false
 |k::r,d=>Nat.beq k d||fe r d
def B7:List (Src×Sh)->Nat->Bool
 |[],_ =>false
 |(.slot k,_)::r,d=>Nat.beq k d||B7 r d
 |(.obj _,_)::r,d=>B7 r d
def nv(p:Nat->Bool):Fr G->Fr G
 |[]=>[]
 |(k,v)::r=>bif p k then(k,v)::nv p r else nv p r
theorem ael{p:Nat->Bool}:∀{F:Fr G} {d:Nat} {v:AV G},ga (nv p F) d=some v->ga F d=some v:=by
 intro F
 induction F with
 |nil=>intro d v h;cases h
 |cons q r ih=>
  obtain⟨k,u⟩:=q;intro d v h;have key:∀{G0:Fr G},(∀x,(k,x)∉G0)->True:=λ_ =>trivial;simp only[nv]at h;cases hp:p k with
  |true=>
   rw[hp]at h;simp only[cond_true,ga]at h ⊢;cases hb:Nat.beq k d with
   |true=>rw[hb]at h;exact h
   |false=>rw[hb]at h;exact ih h
  |false=>
   rw[hp]at h;simp only[cond_false]at h;simp only[ga];cases hb:Nat.beq k d with
   |true=>
    obtain rfl:=aoW hb;exact absurd h (by
     have:∀{F:Fr G},ga (nv p F) k=none:=by
      intro F
      induction F with
      |nil=>rfl
      |cons q r ih=>
       obtain⟨k',u'⟩:=q;simp only[nv];cases hp':p k' with
       |true=>
        simp only[cond_true,ga];cases hb':Nat.beq k' k with
        |true=>rw[aoW hb']at hp';rw[hp]at hp';cases hp'
        |false=>exact ih
       |false=>exact ih
     rw[this];simp)
   |false=>exact ih h
theorem sW.fil{p:Nat->Bool}{F:Fr G}{t:Array Value}(h:sW J ρ F t):sW J ρ (nv p F) t:=λd v e=>h d v (ael e)
def dS(p:Nat->Bool):Os G->Os G
 |[]=>[]
 |(k,v)::r=>bif p k then(k,v)::dS p r else dS p r
theorem RO.fil{p:Nat->Bool}{O:Os G}{H:List aO}(h:RO J ρ O H):∃H1 H2,RO J ρ (dS p O) H1/\RO J ρ (dS (λk=> !p k) O) H2/\H.Perm (H1++H2):=by
 induction h with
 |nil=>exact⟨[],[], .nil, .nil, .refl _⟩
 |@cons r o x O H h _ ih=>
  obtain⟨H1,H2,i1,i2,i3⟩:=ih;simp only[dS];cases hp:p r with
  |true=>exact⟨x::H1,H2, .cons h i1,by simpa[hp]using i2,i3.cons x⟩
  |false=>exact⟨H1,x::H2,by simpa[hp]using i1, .cons h i2,(i3.cons x).trans List.perm_middle.symm⟩
def PX(y:Ly G)(S:AS G):AS G:=⟨S.F++y.F,S.O++y.O,S.nx,S.D++y.D⟩
theorem og{α:Type}:∀{A B:List (Nat×α)} {d:Nat},ga (A++B) d=match ga A d with
  |some v=>some v
  |none=>ga B d:=by
 intro A
 induction A with
 |nil=>intro B d;rfl
 |cons q r ih=>
  obtain⟨k,u⟩:=q;intro B d;simp only[List.cons_append,ga];cases hb:Nat.beq k d with
  |true=>rfl
  |false=>exact ih
theorem RO.lk{O:Os G}{H:List aO}(h:RO J ρ O H){r:Nat}{o:Ob G}(e:ga O r=some o):∃x∈H,ro J ρ r o x:=by obtain⟨k,x,h1,h2⟩:=h.get e;exact⟨x,List.mem_of_getElem? h1,h2⟩
theorem Rl.PX{c:Cx}{N:Nat}{H2 HK X:List aO}{y:Ly G}{C:CC G}{S:AS G}{a:Act}{w:World}(h:Rl c N ρ J (H2++HK) X (y::C) S a w)(hy:RO J ρ y.O H2)(hk:∀r o,ga (y6 C) r=some o->∃x∈HK,ro J ρ r o x)(hn:K0 (y6 C)=true->c.ro=none):Rl c N ρ J HK X C (PX y S) a w:=by
 obtain⟨HS,q1,q3⟩:=h.hp;refine⟨h.tm,?_,⟨h.si.s,hn⟩,λd v e=>?_,λz hz=>h.fc z (ao6 _ hz),hk,⟨HS++H2,q1.app hy,by simpa using q3⟩,h.kn,h.fr⟩
 ·have:=h.df
  show DR J ρ ((S.D++y.D)++dfC C) a.defers;rw[List.append_assoc];exact this
 ·have e:ga (S.F++y.F) d=some v:=e
  rw[og]at e;split at e
  ·rename_i v' hv;cases e;exact h.fs d _ hv
  ·exact h.fc y List.mem_cons_self d v e
theorem Rl.push{c:Cx}{N:Nat}{HK X:List aO}{C:CC G}{S:AS G}{a:Act}{w:World}(p q:Nat->Bool)(h:Rl c N ρ J HK X C S a w):∃H2,RO J ρ (dS (λr=> !q r) S.O) H2/\Rl c N ρ J (H2++HK) X (⟨nv (λd=> !p d) S.F,dS (λr=> !q r) S.O,S.D⟩::C) ⟨nv p S.F,dS q S.O,S.nx,[]⟩ a w:=by
 obtain⟨HS,q1,q3⟩:=h.hp;obtain⟨H1,H2,k1,k2,k3⟩:=q1.fil (p:=q);refine⟨H2,k2,h.tm,h.df,⟨h.si.s,λq=>h.si.n (FO q)⟩,h.fs.fil,λz hz=>?_,λr o e=>?_,⟨H1,k1,?_⟩,h.kn,h.fr⟩
 ·rcases List.mem_cons.1 hz with rfl|hz
  ·exact h.fs.fil
  ·exact h.fc z hz
 ·have e:ga (dS (λr=> !q r) S.O++y6 C) r=some o:=e
  rw[og]at e;split at e
  ·rename_i v' hv
   cases e;obtain⟨x,h1,h2⟩:=k2.lk hv;exact⟨x,ao1 _ h1,h2⟩
  ·obtain⟨x,h1,h2⟩:=h.kc r o e
   exact⟨x,ao0 _ h1,h2⟩
 ·refine q3.qf ?_
  have:=List.Perm.append_right (HK++X) k3;simpa using this
end Go.Rw
namespace Go.Rw
open Go Go.Bw Go.RowKit
variable {G:Sg} {P:Program} {J J':World->Prop} {ρ ρ' σ:bT}
def sb(r:Nat)(t:Ty)(xs:List (t.T G)):AV G->AV G
 | .row q=>bif Nat.beq q r then .dat (.sl t) xs else .row q
 | .fn k a c=> .fn k (sb r t xs a) (sb r t xs c)
 | .st a=> .st (sb r t xs a)
 | .rZ a=> .rZ (sb r t xs a)
 | .nY k v=> .nY k (sb r t xs v)
 | .gd j w v=> .gd j w (sb r t xs v)
 | .cons a b=> .cons (sb r t xs a) (sb r t xs b)
 | .part w a b=> .part w (sb r t xs a) (sb r t xs b)
 |v=>v
def sbF(r:Nat)(t:Ty)(xs:List (t.T G)):Fr G->Fr G
 |[]=>[]
 |(k,v)::q=>(k,sb r t xs v)::sbF r t xs q
def sbB(r:Nat)(t:Ty)(xs:List (t.T G)):Ob G->Ob G
 | .eL T c=> .eL T (sb r t xs c)
 |o=>o
def sbO(r:Nat)(t:Ty)(xs:List (t.T G)):Os G->Os G
 |[]=>[]
 |(k,o)::q=>(k,sbB r t xs o)::sbO r t xs q
def sbD(r:Nat)(t:Ty)(xs:List (t.T G)):List (AV G)->List (AV G)
 |[]=>[]
 |v::q=>sb r t xs v::sbD r t xs q
def TD(r:Nat)(S:AS G):AS G:=match ga S.O r with
 |some (.row _ _ t xs)=>⟨sbF r t xs S.F,sbO r t xs (F5 S.O r),S.nx,sbD r t xs S.D⟩
 |_ =>S
def Ca:List Nat->AS G->AS G
 |[],S=>S
 |r::q,S=>Ca q (TD r S)
def Ak(O:Os G):Sh->AV G->List Nat
 | .v _, .row r=>[r]
 | .box _ s, .ptr r []=>match ga O r with
  |some (.eL _ c)=>Ak O s c
  |_ =>[]
 | .fn _ a c, .fn _ x y=>Ak O a x++Ak O c y
 | .rZ a, .rZ x=>Ak O a x
 | .st a, .st x=>Ak O a x
 | .nY _ a, .nY _ x=>Ak O a x
 | .cons a b, .cons x y=>Ak O a x++Ak O b y
 | .part _ a b, .part _ x y=>Ak O a x++Ak O b y
 |_,_ =>[]
section
variable {r:Nat} {t:Ty} {xs:List (t.T G)}
theorem M6(hr:∀u,ρ r=some u->zJ J (.sl t) xs u):∀{v:AV G} {l:List Value},rl J ρ v l->rl J ρ (sb r t xs v) l:=by
 intro v
 induction v with
 |row q=>
  intro l h;unfold sb;cases hb:Nat.beq q r with
  |false=>exact h
  |true=>obtain rfl:=aoW hb;obtain⟨a,n,cap,h1,h2⟩:=h;exact⟨_,h2,hr _ h1⟩
 |fn f a c pL FU=>intro l h;obtain⟨fs,cs,e,h1,h2⟩:=h;exact⟨fs,cs,e,pL h1,FU h2⟩
 |st a ih=>intro l h;obtain⟨cs,e,h1,h2⟩:=h;exact⟨cs,e,ih h1,h2⟩
 |rZ a ih=>intro l h;obtain⟨vs,e,h1⟩:=h;exact⟨vs,e,ih h1⟩
 |nY t v ih=>intro l h;obtain⟨u,e,h1⟩:=h;exact⟨u,e,ih h1⟩
 |cons a b pL uO=>intro l h;obtain⟨u,r,e,h1,h2⟩:=h;exact⟨u,r,e,pL h1,uO h2⟩
 |part w a b pL uO=>intro l h;obtain⟨c1,c2,u,e,h1,h2,h3,h4⟩:=h;exact⟨c1,c2,u,e,h1,pL h2,h3,uO h4⟩
 |_ =>intro l h;exact h
theorem ajZ(hr:∀u,ρ r=some u->zJ J (.sl t) xs u){tm:Array Value}{v:AV G}{u:Value}(h:rf J ρ tm v u):rf J ρ tm (sb r t xs v) u:=by
 have key:∀{v:AV G},rv J ρ v u->rf J ρ tm (sb r t xs v) u:=λ{v} hv=>by
  have h2:=M6 (xs:=xs) hr hv;revert h2;generalize sb r t xs v=y;intro h2;cases y with
  |gd j w v=>exact h2.elim
  |_ =>exact h2
 cases v with
 |gd j w v=>exact⟨λe=>M6 hr (h.1 e),h.2⟩
 |_ =>exact key h
theorem am8(hr:∀u,ρ r=some u->zJ J (.sl t) xs u){tm:Array Value}:∀{F:Fr G},sW J ρ F tm->sW J ρ (sbF r t xs F) tm:=by
 intro F;have key:∀{F:Fr G} {d:Nat} {v:AV G},ga (sbF r t xs F) d=some v->∃v0,ga F d=some v0/\v=sb r t xs v0:=by
  intro F
  induction F with
  |nil=>intro d v e;cases e
  |cons p q ih=>
   obtain⟨k,v0⟩:=p;intro d v e;simp only[sbF,ga]at e ⊢;cases hb:Nat.beq k d with
   |true=>rw[hb]at e;cases e;exact⟨_,rfl,rfl⟩
   |false=>rw[hb]at e;exact ih e
 intro h d v e;obtain⟨v0,h1,rfl⟩:=key e;obtain⟨u,h2,h3⟩:=h d v0 h1;exact⟨u,h2,ajZ hr h3⟩
theorem am7(hr:∀u,ρ r=some u->zJ J (.sl t) xs u){O:Os G}{H:List aO}(h:RO J ρ O H):RO J ρ (sbO r t xs O) H:=by
 induction h with
 |nil=>exact .nil
 |@cons k o x O H h _ ih=>
  refine .cons ?_ ih;cases o with
  |eL T c=>obtain⟨b,u,h1,h2,h3⟩:=h;exact⟨b,u,h1,h2,M6 hr h3⟩
  |row _ _ _ _ =>exact h
  |aux _ =>exact h
  |gm=>exact⟨h.1,h.2⟩
theorem am9(hr:∀u,ρ r=some u->zJ J (.sl t) xs u){l m:List (AV G)}{D:List Deferred}(h:DR J ρ (l++m) D):DR J ρ (sbD r t xs l++m) D:=by
 induction l generalizing D with
 |nil=>exact h
 |cons v q ih=>
  cases h with
  |cons h k=>
   refine .cons ?_ (ih k);unfold dr at h;split at h
   ·obtain⟨fs,cs,ls,k1,k2,k3,k4⟩:=h
    exact⟨fs,cs,ls,M6 hr k1,M6 hr k2,M6 hr k3,k4⟩
   ·exact h
   ·exact h.elim
end
theorem Rl.TD{c:Cx}{N:Nat}{HK X:List aO}{C:CC G}{S:AS G}{a:Act}{w:World}(r:Nat)(h:Rl c N ρ J HK X C S a w):∃(J':World->Prop) (Y:List aO),(∀w,J' w->J w)/\Rl c N ρ J' HK (Y++X) C (TD r S) a w:=by
 unfold Go.Rw.TD;split
 ·rename_i e sz t xs ho
  obtain⟨HS,q1,q3⟩:=h.hp;obtain⟨k,x,k1,⟨v,ws,m1,rfl,m3,m4,m5⟩,k3⟩:=q1.del ho;let x:aO:= .row v e sz xs.length ws;let J':World->Prop:=λw=>J w/\Hs [x] w;have mJ:∀w,J' w->J w:=λw h=>h.1;have hr:∀u,ρ r=some u->zJ J' (.sl t) xs u:=λu hu=>by rw[m1]at hu;cases hu;have hc:v.cells.toList=[v]:=m3.cells;refine⟨⟨v,ws,hc,m3,dB.mono _ mJ m4,λw hw=>?_⟩,nofun,λ_ =>by rw[← hc]⟩;have:=Ro.zR (hw.2 x (by simp)).1;rw[m5];exact this
  have hle:=bT.le_refl ρ;have hxm:x∈HS:=List.mem_of_getElem? k1;have hxH:x∈HS++(HK++X):=ao1 _ hxm;obtain⟨q,hq1,hq2,hq3⟩:=h.kn.one (q3.holds x hxH) λb hb=>(q3.own x hxH b hb).2;refine⟨J',[q],mJ,h.tm,am9 hr (h.df.up mJ hle),h.si,am8 hr (h.fs.up mJ hle),h.fc.up mJ hle,h.XO mJ hle,⟨HS.eraseIdx k,am7 hr (k3.up mJ hle),?_⟩,hq3,h.fr⟩;have q4:=(q3.qf (xm k1 _)).set (k:=0) (r':=q) rfl (Nat.le_refl _) (λ_ _ _ =>rfl) hq1 h.si.s.size (λb hb=>by
   rw[hq2]at hb;exact⟨.inl hb,(q3.own x hxH b hb).2⟩)
  refine cC.qf q4 ?_;have e1:HK++([q]++X)=HK++(q::X):=rfl;rw[e1];refine List.Perm.trans ?_ (List.Perm.append_left _ (List.perm_middle (a:=q) (l₁:=HK) (l₂:=X)).symm);exact(List.perm_middle (a:=q) (l₁:=HS.eraseIdx k) (l₂:=HK++X)).symm
 ·exact⟨J,[],λ_ h=>h,h⟩
theorem Rl.Ca{c:Cx}{N:Nat}{HK:List aO}{C:CC G}{a:Act}{w:World}:∀(l:List Nat) {J:World->Prop} {X:List aO} {S:AS G},Rl c N ρ J HK X C S a w->∃(J':World->Prop) (Y:List aO),(∀w,J' w->J w)/\Rl c N ρ J' HK (Y++X) C (Ca l S) a w:=by
 intro l
 induction l with
 |nil=>intro J X S h;exact⟨J,[],λ_ h=>h,h⟩
 |cons r q ih=>intro J X S h;obtain⟨J1,Y1,m1,h1⟩:=h.TD r;obtain⟨J2,Y2,m2,h2⟩:=ih h1;exact⟨J2,Y2++Y1,λw h=>m1 w (m2 w h),by rw[List.append_assoc];exact h2⟩
theorem Aa:∀(l:List Nat) (S:AS G),(Ca l S).nx=S.nx:=by
 intro l
 induction l with
 |nil=>intro S;rfl
 |cons r q ih=>intro S;show(Ca q (Go.Rw.TD r S)).nx=_;rw[ih];unfold Go.Rw.TD;split<;>rfl
def E2(dW:Sh)(nm:List (Option Nat))(y:HL G (br dW))(ρ:bT)(J:World->Prop)(H HK X:List aO)(w:World)(u:Value)(w':World):Prop:=∃(σ:bT) (J':World->Prop) (Y HS':List aO) (us:List Value),(∀w,J' w->J w)/\rl J' σ (iA (λm=>m) dW y 0).1 (u::us)/\RO J' σ (iA (λm=>m) dW y 0).2.1 HS'/\ cC (cm H) w.heap.size (HS'++(HK++(Y++X))) w'/\bG (cm H) w w'/\XW G (Y++X) J'/\(∀i j:Nat,nm[i]? =some (some j)->σ i=ρ j)/\σ.fr nm.length
structure Fs where
 k:Nat
 Qv:List (Nat×Sh)
 yH:Sh
 dW:Sh
 nm:List (Option Nat)
 mA:Sh
 ZC:List (Option Nat)
 bi:List (List Nat)
def UM:List (Nat×Sh)->Sh
 |[]=> .nil
 |(T,s)::r=> .cons (.box T s) (UM r)
abbrev HI(G:Sg)(s:Fs):=HL G (br (UM s.Qv)++br s.yH)
def Fs.rx(s:Fs)(x:HI G s):HL G (br (UM s.Qv)):=HL.fst x
def Fs.ix(s:Fs)(x:HI G s):HL G (br s.yH):=HL.snd (a:=br (UM s.Qv)) x
def Fs.ro(s:Fs)(x:HI G s):Os G:=(iA (λm=>m) (UM s.Qv) (s.rx x) 0).2.1
def Fs.bl(s:Fs)(x:HI G s):AV G×Os G×Nat:=iA (λm=>m) s.yH (s.ix x) (iA (λm=>m) (UM s.Qv) (s.rx x) 0).2.2
def Uk(P:Program)(s:Fs)(R:HI G s->HL G (br s.dW)->Prop)(Rp:HI G s->HL G (br s.mA)->Prop):Prop:=∀(ρ:bT) (J:World->Prop) (HS HK X:List aO) (w:World) (vs:List Value) (x:HI G s),rl J ρ (s.bl x).1 vs->RO J ρ (s.bl x).2.1 HS->(∀r o,ga (s.ro x) r=some o->∃y∈HK,ro J ρ r o y)-> cC (cm (HS++(HK++X))) w.heap.size (HS++(HK++X)) w->XW G X J->ρ.fr (s.bl x).2.2-> (∀y,R x y->Calls P s.k vs.toArray w λen w'=>∃u,en= .returned u/\E2 s.dW s.nm y ρ J (HS++(HK++X)) HK X w u w')/\ (∀y,Rp x y->Calls P s.k vs.toArray w λen w'=>∃u,en= .panicked [{v:=u,recovered:=false}]/\E2 s.mA s.ZC y ρ J (HS++(HK++X)) HK X w u w')
structure Ct(P:Program)(G:Sg) where
 s:Fs
 R:HI G s->HL G (br s.dW)->Prop
 Rp:HI G s->HL G (br s.mA)->Prop
 cp:{Z:Type}->HI G s->(HL G (br s.dW)->Option Z)->(HL G (br s.mA)->Option Z)->Option Z
 cg:{Z:Type}->Bool->HI G s->(HL G (br s.dW)->Option Z)->Option Z
 cps:∀{Z:Type} (x:HI G s) (ko:HL G (br s.dW)->Option Z) (kp:HL G (br s.mA)->Option Z) (z:Z),cp x ko kp=some z->(∃y,R x y/\ko y=some z)\/(∃y,Rp x y/\kp y=some z)
 cgs:∀{Z:Type} (g:Bool) (x:HI G s) (k:HL G (br s.dW)->Option Z) (z:Z),cg g x k=some z->∃y,(g=true->R x y)/\k y=some z
 fn:∃f,P.funcs[s.k]? =some f/\f.body.isSome=true/\(f.name== "runtime.NumGoroutine")=false
 ok:Uk P s R Rp
def JV(b:Bool):Sh->Bool
 | .row _ _ _ =>false
 | .box _ _ =>false
 | .cQ _ =>b
 | .fn _ a c=>JV b a&&JV b c
 | .rZ a=>JV b a
 | .st a=>JV b a
 | .nY _ a=>JV b a
 | .cons a c=>JV b a&&JV b c
 | .part _ a c=>JV b a&&JV b c
 |_ =>true
theorem aec{bb:Bool}:∀{s:Sh} {v:AV G} {g g':GS G} {x:HL G (br s)},JV bb s=true->qK s v g=some (x,g')->g'=g:=by
 intro s
 induction s with
 |v t=>intro v g g' x _ h;obtain⟨y,_,_,e⟩:=aaP h;exact e
 |unk n=>intro v g g' x _ h;exact(Pf h).1
 |row e sz t=>intro v g g' x hn;cases hn
 |box T s _ =>intro v g g' x hn;cases hn
 |cQ i=>
  intro v g g' x _ h;cases v<;>unfold qK at h<;>(try dsimp only at h)<;>try (cases h;done)
  case ptr r p=>
   cases p with
   |cons _ _ =>simp at h
   |nil=>
    simp only at h;split at h
    ·rename_i r' ht
     cases hb:Nat.beq r r' with
     |false=>rw[hb]at h;cases h
     |true=>rw[hb]at h;exact(cO h).2.symm
    ·cases h
 |fn f a c pL FU=>
  intro v g g' x hn h;simp only[JV,aoX]at hn;cases v<;>unfold qK at h<;>(try dsimp only at h)<;>try (cases h;done)
  case fn f' y z=>
   cases hb:Cc f f' with
   |false=>rw[hb]at h;cases h
   |true=>
    rw[hb]at h;simp only[cond_true]at h;split at h
    ·rename_i p g1 h1
     split at h
     ·rename_i q g2 h2
      obtain⟨_,rfl⟩:=cO h;rw[FU hn.2 h2,pL hn.1 h1]
     ·cases h
    ·cases h
 |cons a b pL uO=>
  intro v g g' x hn h;simp only[JV,aoX]at hn;cases v<;>unfold qK at h<;>(try dsimp only at h)<;>try (cases h;done)
  case cons y z=>
   split at h
   ·rename_i p g1 h1
    split at h
    ·rename_i q g2 h2
     obtain⟨_,rfl⟩:=cO h;rw[uO hn.2 h2,pL hn.1 h1]
    ·cases h
   ·cases h
 |part w a b pL uO=>
  intro v g g' x hn h;simp only[JV,aoX]at hn;cases v<;>unfold qK at h<;>(try dsimp only at h)<;>try (cases h;done)
  case part w' y z=>
   cases hb:Nat.beq w w' with
   |false=>rw[hb]at h;cases h
   |true=>
    rw[hb]at h;simp only[cond_true]at h;split at h
    ·rename_i p g1 h1
     split at h
     ·rename_i q g2 h2
      obtain⟨_,rfl⟩:=cO h;rw[uO hn.2 h2,pL hn.1 h1]
     ·cases h
    ·cases h
 |rZ a ih=>
  intro v g g' x hn h;cases v<;>unfold qK at h<;>(try dsimp only at h)<;>try (cases h;done)
  exact ih hn h
 |st a ih=>
  intro v g g' x hn h;cases v<;>unfold qK at h<;>(try dsimp only at h)<;>try (cases h;done)
  exact ih hn h
 |nY t a ih=>
  intro v g g' x hn h;cases v<;>unfold qK at h<;>(try dsimp only at h)<;>try (cases h;done)
  case nY t' y=>
   cases hb:Nat.beq t t' with
   |false=>rw[hb]at h;cases h
   |true=>rw[hb]at h;exact ih hn h
 |_ =>
  intro v g g' x hn h;cases v<;>unfold qK at h<;>(try dsimp only at h)<;>try (cases h;done)
  exact(cO h).2.symm
theorem aev{f:Nat->Nat}:∀{s:Sh},JV false s=true->∀(x:HL G (br s)) (m:Nat),(iA f s x m).1=(iA (λm=>m) s x m).1/\(iA f s x m).2.1=[]:=by
 intro s
 induction s with
 |v t=>intro _ x m;exact⟨rfl,rfl⟩
 |row e sz t=>intro h;cases h
 |box T s _ =>intro h;cases h
 |cQ i=>intro h;cases h
 |fn k a c pL FU=>intro h x m;simp only[JV,aoX]at h;obtain⟨a1,a2⟩:=pL h.1 (HL.fst x) m;have e3:=(Ge (G:=G) (f:=f) (s:=a) (x:=HL.fst x) (m:=m)).2.2;obtain⟨b1,b2⟩:=FU h.2 (HL.snd x) (iA (λm=>m) a (HL.fst x) m).2.2;simp only[iA,e3,a1,a2,b1,b2,List.append_nil];exact⟨trivial,trivial⟩
 |cons a c pL FU=>intro h x m;simp only[JV,aoX]at h;obtain⟨a1,a2⟩:=pL h.1 (HL.fst x) m;have e3:=(Ge (G:=G) (f:=f) (s:=a) (x:=HL.fst x) (m:=m)).2.2;obtain⟨b1,b2⟩:=FU h.2 (HL.snd x) (iA (λm=>m) a (HL.fst x) m).2.2;simp only[iA,e3,a1,a2,b1,b2,List.append_nil];exact⟨trivial,trivial⟩
 |part w a c pL FU=>intro h x m;simp only[JV,aoX]at h;obtain⟨a1,a2⟩:=pL h.1 (HL.fst x) m;have e3:=(Ge (G:=G) (f:=f) (s:=a) (x:=HL.fst x) (m:=m)).2.2;obtain⟨b1,b2⟩:=FU h.2 (HL.snd x) (iA (λm=>m) a (HL.fst x) m).2.2;simp only[iA,e3,a1,a2,b1,b2,List.append_nil];exact⟨trivial,trivial⟩
 |rZ a ih=>intro h x m;obtain⟨a1,a2⟩:=ih h x m;simp only[iA,a1,a2];exact⟨trivial,trivial⟩
 |st a ih=>intro h x m;obtain⟨a1,a2⟩:=ih h x m;simp only[iA,a1,a2];exact⟨trivial,trivial⟩
 |nY t a ih=>intro h x m;obtain⟨a1,a2⟩:=ih h x m;simp only[iA,a1,a2];exact⟨trivial,trivial⟩
 |_ =>intro _ x m;exact⟨rfl,rfl⟩
def rN(ob:Os G):(s:Sh)->AV G->List Nat->Option (HL G (br s)×List Nat)
 | .v t,v,th=>match Es t v with
  |some x=>some ((x,()),th)
  |none=>none
 | .row e sz t,v,th=>match v with
  | .row r=>match ga ob r with
   |some (.row e' sz' t' xs)=>bif Nat.beq e e'&&Nat.beq sz sz' then(if h:t'.cQ t=true then some ((Ty.yB h▸xs,()),th++[r])else none)else none
   |_ =>none
  |_ =>none
 | .box T s,v,th=>match v with
  | .ptr r []=>match ga ob r with
   |some (.eL T' c)=>bif Nat.beq T T' then rN ob s c (th++[r])else none
   |_ =>none
  |_ =>none
 | .cQ i,v,th=>match v with
  | .ptr r []=>match th[i]? with
   |some r'=>bif Nat.beq r r' then some ((),th)else none
   |none=>none
  |_ =>none
 | .unk _,_,_ =>none
 | .FP,v,th=>match v with
  | .FP=>some ((),th)
  |_ =>none
 | .pI,v,th=>match v with
  | .pI=>some ((),th)
  |_ =>none
 | .FQ,v,th=>match v with
  | .FQ=>some ((),th)
  |_ =>none
 | .B0,v,th=>match v with
  | .B0=>some ((),th)
  |_ =>none
 | .Ju,v,th=>match v with
  | .Ju=>some ((),th)
  |_ =>none
 | .fn f a c,v,th=>match v with
  | .fn f' x y=>bif Cc f f' then(match rN ob a x th with
   |some (p,g')=>match rN ob c y g' with
    |some (q,g'')=>some (HL.app p q,g'')
    |none=>none
   |none=>none)else none
  |_ =>none
 | .rZ a,v,th=>match v with
  | .rZ x=>rN ob a x th
  |_ =>none
 | .st a,v,th=>match v with
  | .st x=>rN ob a x th
  |_ =>none
 | .nY t a,v,th=>match v with
  | .nY t' x=>bif Nat.beq t t' then rN ob a x th else none
  |_ =>none
 | .nil,v,th=>match v with
  | .nil=>some ((),th)
  |_ =>none
 | .cons a b,v,th=>match v with
  | .cons x y=>match rN ob a x th with
   |some (p,g')=>match rN ob b y g' with
    |some (q,g'')=>some (HL.app p q,g'')
    |none=>none
   |none=>none
  |_ =>none
 | .part w a b,v,th=>match v with
  | .part w' x y=>bif Nat.beq w w' then(match rN ob a x th with
   |some (p,g')=>match rN ob b y g' with
    |some (q,g'')=>some (HL.app p q,g'')
    |none=>none
   |none=>none)else none
  |_ =>none
structure ajc(J:World->Prop)(ρ:bT)(H:List aO)(s:Sh)(l:List Value)(th BM:List Nat)(x:HL G (br s)):Prop where
 pre:∃q,BM=th++q
 R7:(iA (λm=>m) s x th.length).2.2=BM.length
 val:rl J (cmp ρ BM) (iA (λm=>m) s x th.length).1 l
 eL:∀r o,ga (iA (λm=>m) s x th.length).2.1 r=some o->∃y∈H,ro J (cmp ρ BM) r o y
theorem Lj{H:List aO}{a b:Sh}{th th1 th2:List Nat}{p:HL G (br a)}{q:HL G (br b)}{l1 l2:List Value}(h1:ajc J ρ H a l1 th th1 p)(h2:ajc J ρ H b l2 th1 th2 q):
  (∃r,th2=th++r)/\(iA (λm=>m) b q (iA (λm=>m) a p th.length).2.2).2.2=th2.length/\rl J (cmp ρ th2) (iA (λm=>m) a p th.length).1 l1/\rl J (cmp ρ th2) (iA (λm=>m) b q (iA (λm=>m) a p th.length).2.2).1 l2/\
   ∀r o,ga ((iA (λm=>m) a p th.length).2.1++(iA (λm=>m) b q (iA (λm=>m) a p th.length).2.2).2.1) r=some o->∃y∈H,ro J (cmp ρ th2) r o y:=by
 have hle:=TS (bT.le_refl ρ) h2.pre;rw[h1.R7];refine⟨?_,h2.R7,h1.val.ext hle,h2.val,λr o e=>?_⟩
 ·obtain⟨r1,e1⟩:=h1.pre
  obtain⟨r2,e2⟩:=h2.pre;exact⟨r1++r2,by rw[e2,e1,List.append_assoc]⟩
 ·rw[og]at e
  split at e
  ·rename_i o' he
   cases e;obtain⟨y,y1,y2⟩:=h1.eL _ _ he;exact⟨y,y1,y2.up (λ_ h=>h) hle⟩
  ·exact h2.eL _ _ e
theorem aed{H:List aO}{ob:Os G}(hO:∀r o,ga ob r=some o->∃y∈H,ro J ρ r o y):∀{s:Sh} {v:AV G} {l:List Value} {th BM:List Nat} {x:HL G (br s)},rN ob s v th=some (x,BM)->rl J ρ v l->ajc J ρ H s l th BM x:=by
 intro s
 induction s with
 |v t=>
  intro v l th BM x h hv;unfold rN at h;cases hy:Es t v with
  |none=>rw[hy]at h;cases h
  |some y=>rw[hy]at h;obtain⟨rfl,rfl⟩:=cO h;obtain⟨u,rfl⟩:=Yy hy hv;refine⟨⟨[],by simp⟩,rfl,?_,λr o e=>by cases e⟩;exact M8 (CP hy hv)
 |row e sz t=>
  intro v l th BM x h hv;cases v<;>unfold rN at h<;>(try dsimp only at h)<;>try (cases h;done)
  case row r=>
   split at h
   ·rename_i e' sz' t' xs ho
    cases hb:(Nat.beq e e'&&Nat.beq sz sz')with
    |false=>rw[hb]at h;cases h
    |true=>
     rw[hb]at h;simp only[cond_true]at h;by_cases hs:t'.cQ t=true
     ·rw[dif_pos hs]at h
      obtain⟨e1,rfl⟩:=cO h;simp only[aoX]at hb;obtain rfl:=aoW hb.1;obtain rfl:=aoW hb.2;have:=Ty.yB hs;subst this;subst e1;obtain⟨y,y1,vv,ws,e1,e2,e3,e4,e5⟩:=hO _ _ ho;refine⟨⟨[r],rfl⟩,by simp[iA],?_,λr' o' he=>?_⟩
      ·obtain⟨a0,n,cap,q1,q2⟩:=hv
       exact⟨a0,n,cap,CY.trans q1,q2⟩
      ·simp only[iA,ga]at he
       cases Mh:Nat.beq th.length r' with
       |false=>rw[Mh]at he;cases he
       |true=>rw[Mh]at he;cases he;obtain rfl:=aoW Mh;exact⟨y,y1,vv,ws,CY.trans e1,e2,e3,e4,e5⟩
     ·rw[dif_neg hs]at h;cases h
   ·cases h
 |box T s ih=>
  intro v l th BM x h hv;cases v<;>unfold rN at h<;>(try dsimp only at h)<;>try (cases h;done)
  case ptr r p=>
   cases p with
   |cons _ _ =>simp at h
   |nil=>
    simp only at h;split at h
    ·rename_i T' cc ho
     cases hb:Nat.beq T T' with
     |false=>rw[hb]at h;cases h
     |true=>
      rw[hb]at h;obtain rfl:=aoW hb;obtain⟨y,y1,b,u,m1,rfl,m3⟩:=hO _ _ ho;have i1:=ih h m3;have hth:BM[th.length]? =some r:=by obtain⟨q,e⟩:=i1.pre;rw[e];simp
      have Vh:cmp ρ BM th.length=some (fW b 0):=by unfold cmp;rw[hth];exact m1
      have e1:(th++[r]).length=th.length+1:=by simp
      have i2:=i1.R7;have i3:=i1.val;have i4:=i1.eL;rw[e1]at i2 i3 i4;refine⟨?_,i2,?_,λr' o' he=>?_⟩
      ·obtain⟨q,e⟩:=i1.pre
       exact⟨r::q,by rw[e];simp⟩
      ·obtain⟨⟨b',o',q1,q2⟩,_⟩:=hv
       refine⟨⟨b,0, .inl Vh,?_⟩,by simp⟩;rcases q1 with q1|⟨_,_,_,_,_,_,_,q1,_⟩
       ·rw[q1]at m1
        simp[fW]at m1;rw[q2,m1.1,m1.2]
       ·cases q1
      ·have he:ga ((th.length,Ob.eL T (iA (λm=>m) s x (th.length+1)).1)::(iA (λm=>m) s x (th.length+1)).2.1) r'=some o':=he
       simp only[ga]at he;cases Mh:Nat.beq th.length r' with
       |false=>rw[Mh]at he;exact i4 _ _ he
       |true=>rw[Mh]at he;cases he;obtain rfl:=aoW Mh;exact⟨_,y1,b,u,Vh,rfl,i3⟩
    ·cases h
 |unk n=>intro v l th BM x h hv;unfold rN at h;cases h
 |cQ i=>
  intro v l th BM x h hv;cases v<;>unfold rN at h<;>(try dsimp only at h)<;>try (cases h;done)
  case ptr r p=>
   cases p with
   |cons _ _ =>simp at h
   |nil=>
    simp only at h;split at h
    ·rename_i r' ht
     cases hb:Nat.beq r r' with
     |false=>rw[hb]at h;cases h
     |true=>
      rw[hb]at h;obtain⟨rfl,rfl⟩:=cO h;obtain rfl:=aoW hb;refine⟨⟨[],by simp⟩,rfl,?_,λr o e=>by cases e⟩;obtain⟨⟨b',o',q1,q2⟩,q3⟩:=hv;refine⟨⟨b',o',?_,q2⟩,q3⟩;rcases q1 with q1|⟨_,_,_,_,_,_,_,q1,_⟩
      ·refine .inl ?_
       unfold cmp;rw[ht];exact q1
      ·cases q1
    ·cases h
 |fn f a c pL FU=>
  intro v l th BM x h hv;cases v<;>unfold rN at h<;>(try dsimp only at h)<;>try (cases h;done)
  case fn f' y z=>
   cases hb:Cc f f' with
   |false=>rw[hb]at h;cases h
   |true=>
    rw[hb]at h;simp only[cond_true]at h;obtain rfl:=Re hb;split at h
    ·rename_i p g1 h1
     split at h
     ·rename_i q g2 h2
      obtain⟨rfl,rfl⟩:=cO h;obtain⟨fs,cs,e,r1,r2⟩:=hv;obtain⟨k1,k2,k3,k4,k5⟩:=Lj (b:=c) (q:=q) (pL h1 r1) (FU h2 r2);refine⟨k1,?_,?_,?_⟩<;>simp only[iA,HL.z9,HL.zH]
      ·exact k2
      ·exact⟨fs,cs,e,k3,k4⟩
      ·exact k5
     ·cases h
    ·cases h
 |cons a b pL uO=>
  intro v l th BM x h hv;cases v<;>unfold rN at h<;>(try dsimp only at h)<;>try (cases h;done)
  case cons y z=>
   split at h
   ·rename_i p g1 h1
    split at h
    ·rename_i q g2 h2
     obtain⟨rfl,rfl⟩:=cO h;obtain⟨u,r,e,r1,r2⟩:=hv;obtain⟨k1,k2,k3,k4,k5⟩:=Lj (b:=b) (q:=q) (pL h1 r1) (uO h2 r2);refine⟨k1,?_,?_,?_⟩<;>simp only[iA,HL.z9,HL.zH]
     ·exact k2
     ·exact⟨u,r,e,k3,k4⟩
     ·exact k5
    ·cases h
   ·cases h
 |part w a b pL uO=>
  intro v l th BM x h hv;cases v<;>unfold rN at h<;>(try dsimp only at h)<;>try (cases h;done)
  case part w' y z=>
   cases hb:Nat.beq w w' with
   |false=>rw[hb]at h;cases h
   |true=>
    rw[hb]at h;simp only[cond_true]at h;obtain rfl:=aoW hb;split at h
    ·rename_i p g1 h1
     split at h
     ·rename_i q g2 h2
      obtain⟨rfl,rfl⟩:=cO h;obtain⟨c1,c2,u,e,r0,r1,r3,r2⟩:=hv;obtain⟨k1,k2,k3,k4,k5⟩:=Lj (b:=b) (q:=q) (pL h1 r1) (uO h2 r2);refine⟨k1,?_,?_,?_⟩<;>simp only[iA,HL.z9,HL.zH]
      ·exact k2
      ·exact⟨c1,c2,u,e,r0,k3,r3,k4⟩
      ·exact k5
     ·cases h
    ·cases h
 |rZ a ih=>
  intro v l th BM x h hv;cases v<;>unfold rN at h<;>(try dsimp only at h)<;>try (cases h;done)
  obtain⟨vs,e,r1⟩:=hv;have k:=ih h r1;exact⟨k.pre,k.R7,⟨vs,e,k.val⟩,k.eL⟩
 |st a ih=>
  intro v l th BM x h hv;cases v<;>unfold rN at h<;>(try dsimp only at h)<;>try (cases h;done)
  obtain⟨cs,e,r1,r2⟩:=hv;have k:=ih h r1;exact⟨k.pre,k.R7,⟨cs,e,k.val,r2⟩,k.eL⟩
 |nY t a ih=>
  intro v l th BM x h hv;cases v<;>unfold rN at h<;>(try dsimp only at h)<;>try (cases h;done)
  case nY t' y=>
   cases hb:Nat.beq t t' with
   |false=>rw[hb]at h;cases h
   |true=>rw[hb]at h;obtain rfl:=aoW hb;obtain⟨u,e,r1⟩:=hv;have k:=ih h r1;exact⟨k.pre,k.R7,⟨u,e,k.val⟩,k.eL⟩
 |_ =>
  intro v l th BM x h hv;cases v<;>unfold rN at h<;>(try dsimp only at h)<;>try (cases h;done)
  obtain⟨rfl,rfl⟩:=cO h;exact⟨⟨[],by simp⟩,rfl,hv,λr o e=>by cases e⟩
def Ln(O:Os G)(i:Nat):Sh->AV G->Option Nat
 | .cQ j, .ptr r []=>bif Nat.beq i j then some r else none
 | .box _ s, .ptr r []=>match ga O r with
  |some (.eL _ c)=>Ln O i s c
  |_ =>none
 | .fn _ a c, .fn _ x y=>match Ln O i a x with
  |some r=>some r
  |none=>Ln O i c y
 | .rZ a, .rZ x=>Ln O i a x
 | .st a, .st x=>Ln O i a x
 | .nY _ a, .nY _ x=>Ln O i a x
 | .cons a c, .cons x y=>match Ln O i a x with
  |some r=>some r
  |none=>Ln O i c y
 | .part _ a c, .part _ x y=>match Ln O i a x with
  |some r=>some r
  |none=>Ln O i c y
 |_,_ =>none
def F7:Sh->Nat
 | .row _ _ _ =>1
 | .box _ s=>F7 s+1
 | .fn _ a c=>F7 a+F7 c
 | .rZ a=>F7 a
 | .st a=>F7 a
 | .nY _ a=>F7 a
 | .cons a b=>F7 a+F7 b
 | .part _ a b=>F7 a+F7 b
 |_ =>0
def TF(O:Os G):List (Nat×Sh)->Nat->Sh->AV G->Option (AV G)
 |[],_,_,_ =>some .nil
 |(T,s)::r,i,sh,v=>match Ln O i sh v with
  |some q=>match TF O r (i+F7 s+1) (.cons (.box T s) sh) (.cons (.ptr q []) v)with
   |some l=>some (.cons (.ptr q []) l)
   |none=>none
  |none=>none
def M7:List Nat->List Nat->Bool
 |[],[]=>true
 |a::r,b::q=>Nat.beq a b&&M7 r q
 |_,_ =>false
theorem acZ:∀{l m:List Nat},M7 l m=true->l=m:=by
 intro l
 induction l with
 |nil=>intro m h;cases m with
  |nil=>rfl
  |cons _ _ =>cases h
 |cons a r ih=>intro m h;cases m with
  |nil=>cases h
  |cons b q=>simp only[M7,aoX]at h;rw[aoW h.1,ih h.2]
def KT:AV G->Bool
 | .cons (.ptr _ []) r=>KT r
 | .nil=>true
 |_ =>false
def HH(C:CC G)(O:Os G)(nx:Nat)(s:Fs)(aoT:AV G):Option (HI G s×GS G):=match TF (O++y6 C) s.Qv 0 s.yH aoT with
 |some pv=>match rN (O++y6 C) (UM s.Qv) pv []with
  |some (_,th)=>match qK s.yH aoT ⟨th,O,nx⟩with
   |some (x,g')=>match rN (g'.O++y6 C) (UM s.Qv) pv []with
    |some (y,BM)=>bif M7 th BM then some (HL.app y x,g')else none
    |none=>none
   |none=>none
  |none=>none
 |none=>none
def alV(C:CC G)(O:Os G)(s:Fs)(aoT:AV G):List Nat:=match TF (O++y6 C) s.Qv 0 s.yH aoT with
 |some pv=>Ak O s.yH aoT++Ak O (UM s.Qv) pv
 |none=>Ak O s.yH aoT
theorem adj{H:List aO}{ob:Os G}(hO:∀r o,ga ob r=some o->∃y∈H,ro J ρ r o y):∀{l:List (Nat×Sh)} {v:AV G} {th BM:List Nat} {x:HL G (br (UM l))},KT v=true->rN ob (UM l) v th=some (x,BM)->∃us,rl J ρ v us:=by
 intro l
 induction l with
 |nil=>
  intro v th BM x hp h;cases v<;>unfold rN at h<;>(try dsimp only[UM]at h)<;>try (cases h;done)
  exact⟨[],rfl⟩
 |cons p r ih=>
  obtain⟨T,s⟩:=p;intro v th BM x hp h;change rN ob (.cons (.box T s) (UM r)) v th=some (x,BM)at h;cases v<;>unfold rN at h<;>(try dsimp only at h)<;>try (cases h;done)
  case cons a b=>
   split at h
   ·rename_i p g1 h1
    split at h
    ·rename_i q g2 h2
     cases a<;>(try (simp[KT]at hp;done))
     case ptr q0 pp=>
      cases pp with
      |cons _ _ =>simp[KT]at hp
      |nil=>
       obtain⟨us,hus⟩:=ih (by simpa[KT]using hp) h2;unfold rN at h1;dsimp only at h1;split at h1
       ·rename_i T' c ho
        obtain⟨y,y1,b0,u,m1,_⟩:=hO _ _ ho;exact⟨fW b0 0::us,_,_,rfl,⟨⟨b0,0, .inl m1,rfl⟩,by simp⟩,hus⟩
       ·cases h1
    ·cases h
   ·cases h
theorem ahP{O:Os G}:∀{l:List (Nat×Sh)} {i:Nat} {sh:Sh} {v pv:AV G},TF O l i sh v=some pv->KT pv=true:=by
 intro l
 induction l with
 |nil=>intro i sh v pv h;cases h;rfl
 |cons p r ih=>
  obtain⟨T,s⟩:=p;intro i sh v pv h;simp only[TF]at h;split at h
  ·split at h
   ·rename_i l hl;cases h;show KT l=true;exact ih hl
   ·cases h
  ·cases h
theorem aee{c:Cx}{N:Nat}{HK X:List aO}{C:CC G}{S:AS G}{a:Act}{w:World}{s:Fs}{aoT:AV G}{vs:List Value}{x:HI G s}{g':GS G}(hr:Rl c N ρ J HK X C S a w)(hv:rl J ρ aoT vs)(h:HH C S.O S.nx s aoT=some (x,g')):
  ∃(th:List Nat) (ρ2:bT) (HS HB H':List aO),th.length=(iA (λm=>m) (UM s.Qv) (s.rx x) 0).2.2/\cC c.bs c.w0.heap.size (HS++(HK++X)) w/\Gat J ρ s.yH vs HS ⟨th,S.O,S.nx⟩ g' (s.ix x) ρ2 HB H'/\qK s.yH aoT ⟨th,S.O,S.nx⟩=some (s.ix x,g')/\∀r o,ga (s.ro x) r=some o->∃y∈H'++HK,ro J (cmp ρ2 g'.th) r o y:=by
 unfold HH at h;split at h
 ·rename_i pv hpv
  split at h
  ·rename_i y0 th hg0
   split at h
   ·rename_i xi g1 hg
    split at h
    ·rename_i y BM hg2
     cases hb:M7 th BM with
     |false=>rw[hb]at h;cases h
     |true=>
      rw[hb]at h;obtain⟨e1,rfl⟩:=cO h;subst e1;obtain rfl:=acZ hb;obtain⟨HS,q1,q3⟩:=hr.hp;obtain⟨ρ2,HB,H',k⟩:=Li hg hv q1 hr.fr;have hle:=k.to.le hr.fr;have hO:∀q o,ga (g1.O++y6 C) q=some o->∃z∈H'++HK,ro J ρ2 q o z:=λq o e=>by
       rw[og]at e;split at e
       ·rename_i o' he
        cases e;obtain⟨z,z1,z2⟩:=k.left.lk he;exact⟨z,ao1 _ z1,z2⟩
       ·obtain⟨z,z1,z2⟩:=hr.kc q o e
        exact⟨z,ao0 _ z1,z2.up (λ_ h=>h) hle⟩
      obtain⟨us,i2⟩:=adj hO (ahP hpv) hg2;have k3:=aed hO hg2 i2;have exi:s.ix (HL.app y xi)=xi:=HL.zH y xi;have exr:s.rx (HL.app y xi)=y:=HL.z9 y xi;have k4:=k3.R7;have k5:=k3.eL;simp only[List.length_nil]at k4 k5;refine⟨th,ρ2,HS,HB,H',by rw[exr,k4],q3,by rw[exi];exact k,by rw[exi];exact hg,λr o e=>?_⟩;unfold Fs.ro at e;rw[exr]at e;obtain⟨z,z1,z2⟩:=k5 r o e;exact⟨z,z1,z2.up (λ_ h=>h) (TS (bT.le_refl _) k.pre)⟩
    ·cases h
   ·cases h
  ·cases h
 ·cases h
def PW:Sh->AV G->Nat->AV G×Os G×Nat
 | .row e sz t, .pI,nx=>bif Nat.beq (t.L G).n sz then(.row nx,[(nx, .row e sz t [])],nx+1)else(.pI,[],nx)
 | .st a, .st x,nx=>match PW a x nx with
  |(x',O,m)=>(.st x',O,m)
 | .part _ a b, .part w x y,nx=>match PW a x nx with
  |(x',O,m)=>match PW b y m with
   |(y',O',m')=>(.part w x' y',O++O',m')
 |_,v,nx=>(v,[],nx)
def aaL:Sh->AV G->Bool
 | .row _ sz t, .pI=>Nat.beq (t.L G).n sz
 | .st a, .st x=>aaL a x
 | .part _ a b, .part _ x y=>aaL a x||aaL b y
 |_,_ =>false
def SD(q:Nat)(s:Sh)(S:AS G):AS G:=match ga S.O q with
 |some (.eL T c)=>match PW s c S.nx with
  |(c',O',m)=>{S with O:=O'++yA S.O q (.eL T c'),nx:=m}
 |_ =>S
def FB:List (Nat×Sh)->AS G->AS G
 |[],S=>S
 |(q,s)::r,S=>FB r (SD q s S)
def adA(O:Os G):List (Nat×Sh)->AV G->List (Nat×Sh)
 |(_,s)::r, .cons (.ptr q []) l=>match ga O q with
  |some (.eL _ c)=>bif aaL s c then(q,s)::adA O r l else adA O r l
  |_ =>adA O r l
 |_,_ =>[]
def akg(C:CC G)(O:Os G)(s:Fs)(aoT:AV G):List (Nat×Sh):=match s.Qv with
 |[]=>[]
 |Qv=>match TF (O++y6 C) Qv 0 s.yH aoT with
  |some pv=>adA O Qv pv
  |none=>[]
theorem acJ{α β γ:Type}{a a':α}{b b':β}{c c':γ}(h:(a,b,c)=(a',b',c')):a=a'/\b=b'/\c=c':=⟨congrArg (·.1) h,congrArg (·.2.1) h,congrArg (·.2.2) h⟩
theorem agp:∀{s:Sh} {v v':AV G} {nx XM:Nat} {O:Os G} {l:List Value} {ρ:bT},PW s v nx=(v',O,XM)->rl J ρ v l->ρ.fr nx->
  ∃(ρ':bT) (HN:List aO),ρ.to ρ' nx/\ρ'.fr XM/\nx<=XM/\rl J ρ' v' l/\RO J ρ' O HN/\∀R,s8 R (HN++R):=by
 have keep:∀{v v':AV G} {nx XM:Nat} {O:Os G} {l:List Value} {ρ:bT},(v,([]:Os G),nx)=(v',O,XM)->rl J ρ v l->ρ.fr nx->∃(ρ':bT) (HN:List aO),ρ.to ρ' nx/\ρ'.fr XM/\nx<=XM/\rl J ρ' v' l/\RO J ρ' O HN/\∀R,s8 R (HN++R):=by intro v v' nx XM O l ρ h hv hf;obtain⟨e1,e2,e3⟩:=acJ h;subst e1 e2 e3;exact⟨ρ,[],bT.gL _ _,hf,Nat.le_refl _,hv, .nil,λR=>s8.refl _⟩
 intro s
 induction s with
 |row e sz t=>
  intro v v' nx XM O l ρ h hv hf;cases v<;>unfold PW at h<;>(try exact keep h hv hf);cases hb:Nat.beq (t.L G).n sz with
  |false=>rw[hb]at h;exact keep h hv hf
  |true=>
   rw[hb]at h;obtain⟨e1,e2,e3⟩:=acJ h;subst e1 e2 e3;have hv:l=[.slice none 0 0]:=hv;exact⟨ρ.set nx (.slice none 0 0),[.row (.slice none 0 0) e sz 0 []],bT.sq _ _ _,bT.Eu hf _,Nat.le_succ _,⟨none,0,0,bT.oe _ _ _,hv⟩,
    .cons ⟨.slice none 0 0,[],bT.oe _ _ _,rfl,⟨_,_,rfl⟩,⟨λ_ =>[],rfl,λi hi=>absurd hi (Nat.not_lt_zero _)⟩,aoW hb⟩ .nil,λR bs n0 w hp=>CX hp⟩
 |st a ih=>
  intro v v' nx XM O l ρ h hv hf;cases v<;>unfold PW at h<;>(try exact keep h hv hf)
  case st x=>obtain⟨cs,e,h1,h2⟩:=hv;revert h;generalize hq:PW a x nx=q;obtain⟨x',O1,m⟩:=q;intro h;obtain⟨e1,e2,e3⟩:=acJ h;subst e1 e2 e3;obtain⟨ρ',HN,k1,k2,k3,k4,k5,k6⟩:=ih hq h1 hf;exact⟨ρ',HN,k1,k2,k3,⟨cs,e,k4,h2⟩,k5,k6⟩
 |part w a b pL uO=>
  intro v v' nx XM O l ρ h hv hf;cases v<;>unfold PW at h<;>(try exact keep h hv hf)
  case part w' x y=>obtain⟨c1,c2,u,e,r0,r1,r3,r2⟩:=hv;revert h;generalize hq:PW a x nx=q;obtain⟨x',O1,m⟩:=q;dsimp only;generalize hq2:PW b y m=q2;obtain⟨y',O2,m2⟩:=q2;intro h;obtain⟨e1,e2,e3⟩:=acJ h;subst e1 e2 e3;obtain⟨ρ1,H1,k1,k2,k3,k4,k5,k6⟩:=pL hq r1 hf;obtain⟨ρ2,H2,m1,m2,m3,m4,m5,m6⟩:=uO hq2 (r2.ext (k1.le hf)) k2;have hle:=m1.le k2;refine⟨ρ2,H1++H2,k1.trans m1 k3,m2,Nat.le_trans k3 m3,⟨c1,c2,u,e,r0,k4.ext hle,r3,m4⟩,(k5.up (λ_ h=>h) hle).app m5,λR=>?_⟩;rw[List.append_assoc];exact(m6 R).trans (k6 (H2++R))
 |_ =>intro v v' nx XM O l ρ h hv hf;cases v<;>unfold PW at h<;>exact keep h hv hf
theorem RO.am6{O:Os G}{H:List aO}(h:RO J ρ O H){r:Nat}{o:Ob G}(e:ga O r=some o):∃(k:Nat) (x:aO),H[k]? =some x/\ro J ρ r o x/\∀(ρ':bT) o' x',ρ.le ρ'->ro J ρ' r o' x'->RO J ρ' (yA O r o') (H.set k x'):=by
 induction h with
 |nil=>cases e
 |@cons r0 o0 x0 O H h0 hr ih=>
  simp only[ga]at e;cases hb:Nat.beq r0 r with
  |true=>rw[hb]at e;cases e;obtain rfl:=aoW hb;refine⟨0,x0,rfl,h0,λρ' o' x' hle h'=>?_⟩;simp only[yA,hb,cond_true];exact .cons h' (hr.up (λ_ h=>h) hle)
  |false=>rw[hb]at e;obtain⟨k,x,k1,k2,k3⟩:=ih e;refine⟨k+1,x,by simpa using k1,k2,λρ' o' x' hle h'=>?_⟩;simp only[yA,hb,cond_false];exact .cons (h0.up (λ_ h=>h) hle) (k3 ρ' o' x' hle h')
theorem Rl.SD{c:Cx}{N:Nat}{HK X:List aO}{C:CC G}{S:AS G}{a:Act}{w:World}(q:Nat)(s:Sh)(h:Rl c N ρ J HK X C S a w):∃ρ',ρ.to ρ' S.nx/\S.nx<=(Go.Rw.SD q s S).nx/\Rl c N ρ' J HK X C (Go.Rw.SD q s S) a w:=by
 unfold Go.Rw.SD;split
 ·rename_i T cc ho
  generalize hq:PW s cc S.nx=z;obtain⟨c',O',m⟩:=z;dsimp only;obtain⟨HS,q1,q3⟩:=h.hp;obtain⟨k,x,k1,⟨b,u,m1,rfl,m3⟩,anq⟩:=q1.am6 ho;obtain⟨ρ',HN,r1,r2,r3,r4,r5,r6⟩:=agp hq m3 h.fr;have hle:=r1.le h.fr;refine⟨ρ',r1,r3,h.tm,h.df.up (λ_ h=>h) hle,h.si,h.fs.up (λ_ h=>h) hle,h.fc.up (λ_ h=>h) hle,h.XO (λ_ h=>h) hle,⟨HN++HS,r5.app ?_,?_⟩,h.kn,r2⟩
  ·have aax:=anq ρ' (.eL T c') _ hle ⟨b,u,hle _ _ m1,rfl,r4⟩
   have:HS.set k (aO.cells b T u.cells.toList)=HS:=by
    refine List.ext_getElem? λi=>?_;rw[List.getElem?_set];split
    ·rename_i hi
     subst hi;rw[k1];split
     ·rfl
     ·rename_i hlt;exact absurd (List.getElem?_eq_some_iff.1 k1).1 hlt
    ·rfl
   rwa[this]at aax
  ·rw[List.append_assoc];exact r6 _ _ _ _ q3
 ·exact⟨ρ,bT.gL _ _,Nat.le_refl _,h⟩
theorem Rl.FB{c:Cx}{N:Nat}{HK X:List aO}{C:CC G}{a:Act}{w:World}:∀(l:List (Nat×Sh)) {ρ:bT} {S:AS G},Rl c N ρ J HK X C S a w->∃ρ',ρ.to ρ' S.nx/\S.nx<=(Go.Rw.FB l S).nx/\Rl c N ρ' J HK X C (Go.Rw.FB l S) a w:=by
 intro l
 induction l with
 |nil=>intro ρ S h;exact⟨ρ,bT.gL _ _,Nat.le_refl _,h⟩
 |cons p r ih=>obtain⟨q,s⟩:=p;intro ρ S h;obtain⟨ρ1,k1,k2,k3⟩:=h.SD q s;obtain⟨ρ2,m1,m2,m3⟩:=ih k3;exact⟨ρ2,k1.trans m1 k2,Nat.le_trans k2 m2,m3⟩
def S7(th:List Nat)(base:Nat)(nm:List (Option Nat))(i:Nat):Nat:=match nm[i]? with
 |some (some j)=>match th[j]? with
  |some r=>r
  |none=>base+i
 |_ =>base+i
def hdA:AV G->Option (AV G)
 | .cons v _ =>some v
 |_ =>none
def ctS(g':GS G)(dW:Sh)(nm:List (Option Nat))(y:HL G (br dW))(S:AS G):AS G:={S with O:=(iA (S7 g'.th g'.nx nm) dW y 0).2.1++g'.O,nx:=g'.nx+nm.length}
theorem Vg{c:Cx}{H H':List aO}{w w':World}(h:cC c.bs c.w0.heap.size H w)(hs:c.w0.heap.size<=w.heap.size)(h':cC (cm H) w.heap.size H' w'):cC c.bs c.w0.heap.size H' w':=
 ⟨h'.holds,λr hr b hb=>by
  obtain⟨o,l⟩:=h'.own r hr b hb;refine⟨?_,l⟩;rcases o with o|o
  ·obtain⟨q,hq,hqb⟩:=bN.1 o
   exact(h.own q hq b hqb).1
  ·exact .inr (Nat.le_trans hs o),h'.apart⟩
theorem VF{c:Cx}{N:Nat}{HK X:List aO}{C:CC G}{S:AS G}{a:Act}{w w':World}{s dW:Sh}{nm:List (Option Nat)}{y:HL G (br dW)}{x:HL G (br s)}{us:List Value}{u:Value}{g':GS G}{HS HB H':List aO}{ρ2:bT}{v:AV G}
  (hr:Rl c N ρ J HK X C S a w)(hp:cC c.bs c.w0.heap.size (HB++(H'++(HK++X))) w){th:List Nat}(k:Gat J ρ s us HS ⟨th,S.O,S.nx⟩ g' x ρ2 HB H')(hv:hdA (iA (S7 g'.th g'.nx nm) dW y 0).1=some v)
  (h:E2 dW nm y (cmp ρ2 g'.th) J (HB++((H'++HK)++X)) (H'++HK) X w u w'):
  ∃(ρ':bT) (J':World->Prop) (Y:List aO),ρ.to ρ' S.nx/\(∀w,J' w->J w)/\rv J' ρ' v u/\Rl c N ρ' J' HK (Y++X) C (ctS g' dW nm y S) a w':=by
 obtain⟨σ,J',Y,HS',us',m1,m2,m3,m4,m5,m6,m7,m8⟩:=h;let ρ3:bT:=λr=>if r<g'.nx then ρ2 r else σ (r-g'.nx)
 have Q7:ρ2.le ρ3:=λr v e=>by have hlt:r<g'.nx:=k.fr.ZP e;show(if r<g'.nx then ρ2 r else _)=_;rw[aoU hlt];exact e
 have hto:ρ.to ρ3 S.nx:=λr hr'=>by have hlt:r<g'.nx:=Nat.lt_of_lt_of_le hr' k.nx;show(if r<g'.nx then ρ2 r else _)=_;rw[aoU hlt];exact k.to r hr'
 have hle:=hto.le hr.fr;have hmap:∀i v,σ i=some v->ρ3 (S7 g'.th g'.nx nm i)=some v:=λi v e=>by
  have hi:i<nm.length:=m8.ZP e;obtain⟨o,ho⟩:∃o,nm[i]? =some o:=⟨_,ao3 hi⟩;have hnew:ρ3 (g'.nx+i)=some v:=by show(if g'.nx+i<g'.nx then _ else σ (g'.nx+i-g'.nx))=_;rw[aoV (by omega),Nat.add_sub_cancel_left];exact e
  unfold S7;rw[ho];cases o with
  |none=>exact hnew
  |some j=>
   dsimp only;have:=m7 i j ho;rw[e]at this;unfold cmp at this;split
   ·rename_i r ht
    rw[ht]at this;exact Q7 _ _ this.symm
   ·exact hnew
 obtain⟨r1,r2,_⟩:=Ge (G:=G) (f:=S7 g'.th g'.nx nm) (s:=dW) (x:=y) (m:=0);have hval:rl J' ρ3 (iA (S7 g'.th g'.nx nm) dW y 0).1 (u::us'):=by rw[r1];exact SI hmap m2
 have Le:RO J' ρ3 (iA (S7 g'.th g'.nx nm) dW y 0).2.1 HS':=by rw[r2];exact UF hmap m3
 refine⟨ρ3,J',Y,hto,m1,?_,hr.tm,hr.df.up m1 hle,⟨hr.si.s.trans m5 λb hb=>?_,hr.si.n⟩,hr.fs.up m1 hle,hr.fc.up m1 hle,hr.XO m1 hle,⟨HS'++H',Le.app (k.left.up m1 Q7),?_⟩,m6,λr hr'=>?_⟩
 ·revert hv hval
  generalize(iA (S7 g'.th g'.nx nm) dW y 0).1=b;intro hv hval;cases b<;>simp only[hdA,Option.some.injEq,reduceCtorEq]at hv;subst hv;obtain⟨u0,r,e,h1,_⟩:=hval;cases e;exact h1
 ·obtain⟨q,hq,hqb⟩:=bN.1 hb
  exact(hp.own q (by simpa using hq) b hqb).1
 ·have HF:cC c.bs c.w0.heap.size (HB++((H'++HK)++X)) w:=by simpa using hp
  have:=Vg HF hr.si.size m4;simpa using this
 ·show(if r<g'.nx then ρ2 r else σ (r-g'.nx))=none
  have hr':g'.nx+nm.length<=r:=hr';rw[aoV (by omega)];exact m8 _ (by omega)
end Go.Rw
namespace Go.Rw
open Go Go.Bw Go.RowKit
variable {G:Sg} {P:Program} {tt:TT P G} {J J':World->Prop} {ρ ρ' σ:bT} {a:Act} {w:World} {d:Option Tmp} {ty:TypeId} {ps:String} {af:Array Edge} {g:Option (Nat×Bool)}
 {N:Nat} {c:Cx} {HK X H:List aO} {C:CC G} {S:AS G} {F:gp}
theorem aa0{f h:Nat->List Value}{n:Nat}:∀m:Nat,flat (λi=>if i<n then f i else h (i-n)) (n+m)=flat f n++flat h m:=by
 intro m
 induction m with
 |zero=>simp only[Nat.add_zero,flat,List.append_nil];exact Ac λi hi=>aoU hi
 |succ m ih=>show flat _ (n+m)++(if n+m<n then f (n+m)else h (n+m-n))=_ ++(flat h m++h m);rw[ih,aoV (by omega),Nat.add_sub_cancel_left,List.append_assoc]
theorem acr{α:Type}[Inhabited α]{L:dB α}{xs ys:List α}{ws news:List Value}(h1:(LA L xs.length).eZ J ws (λi=>xs.getD i default))(h2:(LA L ys.length).eZ J news (λi=>ys.getD i default)):(LA L (xs++ys).length).eZ J (ws++news) (λi=>(xs++ys).getD i default):=by
 obtain⟨f,rfl,k1⟩:=h1;obtain⟨h,rfl,k2⟩:=h2;refine⟨λi=>if i<xs.length then f i else h (i-xs.length),?_,λi hi=>?_⟩
 ·rw[List.length_append,aa0]
 ·rw[List.length_append]at hi
  by_cases q:i<xs.length
  ·simp only[aoU q,List.getD_eq_getElem?_getD,List.getElem?_append_left q]
   have:=k1 i q;simpa[List.getD_eq_getElem?_getD]using this
  ·simp only[aoV q,List.getD_eq_getElem?_getD,List.getElem?_append_right (Nat.le_of_not_lt q)]
   have:=k2 (i-xs.length) (by omega);simpa[List.getD_eq_getElem?_getD]using this
theorem ai7{α:Type}[Inhabited α]{L:dB α}{x:α}{cs:List Value}(h:L.eZ J cs x):(LA L [x].length).eZ J cs (λi=>[x].getD i default):=by
 refine⟨λ_ =>cs,by simp[flat],λi hi=>?_⟩;have:i=0:=by simp at hi;exact hi
 subst this;exact h
theorem ai8{α:Type}[Inhabited α]{L:dB α}:(LA L ([]:List α).length).eZ J [] (λi=>([]:List α).getD i default):=⟨λ_ =>[],rfl,λi hi=>absurd hi (Nat.not_lt_zero _)⟩
theorem acq{α:Type}[Inhabited α]{L:dB α}{xs:List α}{ws:List Value}{l m:Nat}(hl:l<=m)(hm:m<=xs.length)(h:(LA L xs.length).eZ J ws (λi=>xs.getD i default)):(LA L ((xs.drop l).take (m-l)).length).eZ J ((ws.drop (l*L.n)).take ((m-l)*L.n)) (λi=>((xs.drop l).take (m-l)).getD i default):=by
 obtain⟨f,rfl,k⟩:=h;have hk:∀i,i<xs.length->(f i).length=L.n:=λi hi=>L.len (k i hi);have hlen:((xs.drop l).take (m-l)).length=m-l:=by simp;omega
 rw[hlen];refine⟨λi=>f (l+i),?_,λi hi=>?_⟩
 ·refine B4 λq=>?_
  have hfl:=qL (n:=xs.length) hk;have aoM:(flat (λi=>f (l+i)) (m-l)).length=(m-l)*L.n:=qL λi hi=>hk _ (by omega);rw[List.getElem?_take,List.getElem?_drop];by_cases hq:q<(m-l)*L.n
  ·rw[aoU hq]
   have h0:0<L.n:=by
    rcases Nat.eq_zero_or_pos L.n with e|e
    ·rw[e,Nat.mul_zero]at hq;omega
    ·exact e
   have hdm:q=(q/L.n)*L.n+q%L.n:=by rw[Nat.mul_comm];exact(Nat.div_add_mod q L.n).symm
   have hj:q%L.n<L.n:=Nat.mod_lt _ h0;have hi:q/L.n<m-l:=Nat.div_lt_of_lt_mul (by rw[Nat.mul_comm];exact hq);have e1:l*L.n+q=(l+q/L.n)*L.n+q%L.n:=by rw[Nat.add_mul];omega
   rw[e1,xx hk (by omega) hj]
   conv=>rhs;rw[hdm]
   rw[xx (λi hi=>hk _ (by omega)) hi hj]
  ·rw[aoV hq,List.getElem?_eq_none (by omega)]
 ·have e:=k (l+i) (by omega)
  have:((xs.drop l).take (m-l)).getD i default=xs.getD (l+i) default:=by simp only[List.getD_eq_getElem?_getD,List.getElem?_take,List.getElem?_drop,aoU hi]
  show L.eZ J (f (l+i)) (((xs.drop l).take (m-l)).getD i default);rw[this];exact e
theorem DL.cut{α:Type}[Inhabited α]{A:World->Prop}{v:Value}{L:dB α}{ws:List Value}{xs:List α}(h:DL A v L ws xs){l m sz:Nat}(hs:sz=L.n)(hl:l<=m)(hm:m<=xs.length):DL A (uQ l m sz v) L ((ws.drop (l*sz)).take ((m-l)*sz)) ((xs.drop l).take (m-l)):=by
 subst hs;have hlen:((xs.drop l).take (m-l)).length=m-l:=by simp;omega
 refine⟨?_,acq hl hm h.eZ,λw hw=>?_⟩
 ·obtain⟨a,cp,rfl⟩:=h.sl
  rw[hlen];exact⟨_,_,rfl⟩
 ·rw[hlen];exact(h.ro w hw).cut hl hm
theorem acg{v:Value}{ws:List Value}{e sz n off t q:Nat}{x y:Operand}{val:Value}{vs:List Value}{f:aO->List aO}(hx:Bw.ev F x=some (jy v off))(hz:Bw.ev F y=some val)(hv:val.cells.toList=vs)(hl:vs.length=q)(h1:uZ vs)
  (hle:off+q<=n*sz)(hn:0<n)[hr:xH H v e sz n ws f][ht:Ue P t q]:
  RX (α:=Unit) P N c ⟨d, .store t x y,ty,ps,af,g⟩ F H (λ_ =>True) (λ_ =>undef) (λ_ =>f (.row v e sz n (cU ws off vs))):=λD a w next Q hst hk=>by
 subst hl;obtain⟨k,k1,k2⟩:=hr.ok;have Nv:aO.row v e sz n ws∈H:=List.mem_of_getElem? k1;have hown:w.ownsRow 0 e sz v n ws:=hst.hp.holds _ Nv;obtain⟨hlen,IZ⟩:=hown;rcases IZ with⟨_,h0⟩|⟨gb,cap,cur,rfl,_,hgb,hnc,Vh,hcs,Nu⟩
 ·omega
 have hmul:n*sz<=cap*sz:=Nat.mul_le_mul_right _ hnc;obtain⟨cs,rfl⟩:∃cs:List Value,cur=cs.toArray:=⟨cur.toList,by simp⟩;have uP:cs.length=cap*sz:=by simpa using hcs
 have IW:cs.take (n*sz)=ws:=by simpa using Nu
 obtain⟨w',e1,e2,e3⟩:=vn (P:=P) (t:=t) (b:=gb) (T:=e) (off:=off) (cs:=cs) (w:=w) hgb hv rfl (by omega) h1;have hnew:(cU cs off vs).take (n*sz)=cU ws off vs:=by
  rw[← IW];unfold cU;have t1:(cs.take (n*sz)).take off=cs.take off:=by rw[List.take_take,Nat.min_eq_left (by omega)]
  have t2:(cs.take (n*sz)).drop (off+vs.length)=(cs.drop (off+vs.length)).take (n*sz-(off+vs.length)):=by rw[List.drop_take]
  have t3:(cs.take off++vs).length=off+vs.length:=by rw[List.length_append,List.length_take,Nat.min_eq_left (by omega)]
  rw[t1,t2,List.take_append,List.take_of_length_le (by omega),t3]
 refine tK (by simp) (w':=w') ?_ (hk () w' trivial (hst.si.store hst.hp Nv (by simp[aO.eL,Value.ownBlock]) e3) ?_)
 ·simp[execOp,bz hst.fr hx,bz hst.fr hz,jy,Instr.storeAt,Instr.sureAddr,e1]
 ·show cC c.bs c.w0.heap.size (f _) w'
  rw[k2];refine hst.hp.set k1 e3.size (λj hj hn=>e3.block j hj (by simpa[aO.eL,Value.ownBlock]using hn)) ?_ hst.si.size (λb' hb'=>?_)
  ·refine⟨by rw[xb (by omega)];exact hlen, .inr ⟨gb,cap,_,rfl,Nat.zero_le _,e2,hnc,Vh,?_,?_⟩⟩
   ·simp only[List.size_toArray,cU,List.length_append,List.length_take,List.length_drop];omega
   ·simpa using hnew
  ·have h5:b'=gb:=by simpa[aO.eL,Value.ownBlock]using hb'
   subst h5;exact⟨.inl (by simp[aO.eL,Value.ownBlock]),Nat.lt_of_lt_of_le (ao2.1 hgb).1 e3.size⟩
theorem aaO{α:Type}[Inhabited α]{xs:List α}{k:Nat}{z:α}(hk:k<xs.length):(λi=>(xs.set k z).getD i default)=dm (λi=>xs.getD i default) k z:=by
 funext i;unfold dm;by_cases e:i=k
 ·subst e;simp[List.getD_eq_getElem?_getD,hk]
 ·simp[List.getD_eq_getElem?_getD,e,List.getElem?_set,Ne.symm e]
theorem YR{T:Nat}{x y:Operand}{v:AV G}{r e sz:Nat}{p:List zi}{t:Ty}{xs:List (t.T G)}{q:PL G t}{z:q.m.T G}(hx:mK C S [] x=some (.ptr r p))(hy:mK C S [] y=some v)(ho:ga S.O r=some (.row e sz t xs))(hz0:aaJ p sz=true)(hq:KW tt.F t p=some q)(hu:Es q.m v=some z)(hf:A6 tt T v=true):
  SK P ⟨d, .store T x y,ty,ps,af,g⟩ C S {S with O:=yA S.O r (.row e sz t (xs.set q.i.toNat (q.set (xs.getD q.i.toNat default) z)))} .YA:=by
 intro c N ρ J HK X a w next Q h hk
 obtain⟨HS,h1,hs0,hm⟩:=h.st;have hE:=gk h (ch:=[]) (by simp);obtain⟨b,o,e1,e2,e3⟩:=xk (hE.ok _ _ hx);obtain⟨k,x0,k1,⟨vv,ws,m1,rfl,m3,m4,m5⟩,k3⟩:=h1.set ho;have hp:∃n cap n' sz i q',ρ r=some (.slice (some ⟨b,o,none⟩) n cap)/\p= .idx n' sz i::q'/\i.toNat<n:=by
  rcases e1 with h1|h1
  ·obtain⟨a0,cp,e⟩:=m3
   rw[h1,e]at m1;cases m1
  ·exact h1
 obtain⟨n,cap,n',sz',i,q',p1,p2,p3⟩:=hp;subst p2;obtain rfl:=aoW (show Nat.beq sz' sz=true from hz0);rw[p1]at m1;cases m1;obtain⟨a0,cp,e4⟩:=m3;cases e4;subst m5;obtain⟨q1,q3⟩:=Qx hq e3 rfl p3;have hv:=hE.ok _ _ hy;have hrv:=CP hu hv;have aax:=q3.set (v:=z) m4 hrv.1;have hl:=(q.m.L G).len hrv.1;rw[Array.length_toList]at hl;have hle:=q3.le;have HD:=hE.ev _ _ hx;rw[e2]at HD;haveI:=aa1 hf hv;have XQ:=z7 (m:=HK++X) k1;haveI:xH (HS++(HK++X)) (.slice (some ⟨b,o,none⟩) xs.length cap) e (t.L G).n xs.length ws ((HS++(HK++X)).set k):=⟨k,XQ,λ_ =>rfl⟩;refine acg (v:= .slice (some ⟨b,o,none⟩) xs.length cap) (off:=jr (zi.idx n' (Ty.L G t).n i::q')) (vs:=(a.eval y).cells.toList) (n:=xs.length) HD (hE.ev _ _ hy) rfl (by simp) ((q.m.L G).one hrv.1) (by rw[hl];exact hle) (by omega) a.defers a w next Q hs0 λ_ w' _ hs hp=>?_
 rw[Fx k1]at hp;refine hk ρ J [] w' undef (bT.gL _ _) (λ_ h=>h) ⟨_,rfl⟩ (h.MD (k3 _ _ ?_) hs hp);refine⟨_,_,p1,by rw[List.length_set],⟨_,_,by rw[List.length_set]⟩,?_,rfl⟩;rw[List.length_set,q1,aaO p3];exact aax
structure LS(G:Sg) where
 t:Ty
 xs:List (t.T G)
def lsA(C:CC G)(S:AS G):AV G->Option (LS G)
 | .dat (.sl t) xs=>some ⟨t,xs⟩
 | .row r=>match obS C S r with
  |some (.row _ sz t xs)=>bif Nat.beq (t.L G).n sz then some ⟨t,xs⟩else none
  |_ =>none
 |_ =>none
theorem Tf{v:AV G}{l:LS G}{u:Value}{D:List Deferred}(hm:V7 (G:=G) J ρ N c D H (obS C S) a w)(h:lsA C S v=some l)(hv:rv J ρ v u):∃ws,tv c H u (l.t.L G).n l.xs.length ws/\(LA (l.t.L G) l.xs.length).eZ J ws (λi=>l.xs.getD i default)/\wv u l.xs.length:=by
 unfold lsA at h;split at h
 ·rename_i t xs
  cases h;obtain⟨u',e1,hr,_,hc⟩:=hv;cases e1;obtain⟨v',ws,e2,hf⟩:=hr;rw[hc rfl]at e2;cases e2;haveI:=hm.kn;exact⟨ws,hf.at,hf.eZ,hf.sl⟩
 ·rename_i r
  split at h
  ·rename_i e sz t xs ho
   cases hb:Nat.beq (t.L G).n sz with
   |false=>rw[hb]at h;cases h
   |true=>rw[hb]at h;cases h;obtain⟨vv,ws,h1,h2,h3,h4,h5⟩:=Oq hm ho;obtain rfl:=xY hv h1;subst h5;exact⟨ws,h3,h4,h2⟩
  ·cases h
 ·cases h
def LF{t t':Ty}(xs:List (t'.T G)):Option (List (t.T G)):=if h:t'.cQ t=true then some (Ty.yB h▸xs)else none
theorem VM{t t':Ty}{xs:List (t'.T G)}{ys:List (t.T G)}(h:LF xs=some ys):∃e:t'=t,e▸xs=ys:=by
 unfold LF at h;by_cases hs:t'.cQ t=true
 ·rw[dif_pos hs]at h;cases h;exact⟨Ty.yB hs,rfl⟩
 ·rw[dif_neg hs]at h;cases h
theorem FD{H':List aO}{e sz:Nat}{t:Ty}{zs:List (t.T G)}{v':Value}{ws:List Value}{w':World}{O':Os G}(h:Rl c N ρ J HK X C S a w)(hO:RO J ρ O' H')(hs:bG c.bs c.w0 w')(hp:cC c.bs c.w0.heap.size (.row v' e sz zs.length ws::(H'++(HK++X))) w')(hv:wv v' zs.length)(hr:(LA (t.L G) zs.length).eZ J ws (λi=>zs.getD i default))(hz:(t.L G).n=sz):
  ∃ρ',ρ.to ρ' S.nx/\rv J ρ' (.row S.nx:AV G) v'/\Rl c N ρ' J HK X C {S with O:=(S.nx, .row e sz t zs)::O',nx:=S.nx+1} a w':=by
 have hle:=(bT.sq ρ S.nx v').le h.fr;obtain⟨a0,cp,rfl⟩:=hv;refine⟨ρ.set S.nx _,bT.sq _ _ _,⟨_,_,_,bT.oe _ _ _,rfl⟩,h.tm,h.df.up (λ_ h=>h) hle,⟨hs,h.si.n⟩,h.fs.up (λ_ h=>h) hle,h.fc.up (λ_ h=>h) hle,h.XO (λ_ h=>h) hle,⟨_ ::H', .cons ⟨_,ws,bT.oe _ _ _,rfl,⟨_,_,rfl⟩,hr,hz⟩ (hO.up (λ_ h=>h) hle),?_⟩,h.kn,bT.Eu h.fr _⟩;simpa using hp
theorem agl{T r e sz bt:Nat}{x y:Operand}{vy:AV G}{t:Ty}{xs ys:List (t.T G)}{l:LS G}(hT:tt.te.find T=some (.sl e sz bt))(hx:mK C S [] x=some (.row r))(hy:mK C S [] y=some vy)(ho:ga S.O r=some (.row e sz t xs))(hl:lsA C S vy=some l)(hc:LF l.xs=some ys)(hg:gw xs.length ys.length bt=true):
  SK P ⟨d, .call ⟨.builtin .append, #[x,y], #[T,T]⟩,ty,ps,af,g⟩ C S {S with O:=(S.nx, .row e sz t (xs++ys))::F5 S.O r,nx:=S.nx+1} (.row S.nx):=by
 intro c N ρ J HK X a w next Q h hk
 obtain⟨HS,h1,hs0,hm⟩:=h.st;have hE:=gk h (ch:=[]) (by simp);obtain⟨k,x0,k1,⟨vv,ws,m1,rfl,m3,m4,m5⟩,k3⟩:=h1.del ho;obtain⟨t',l'⟩:=l;obtain⟨rfl,rfl⟩:=VM hc;obtain⟨news,n1,n2,n3⟩:=Tf hm hl (hE.ok _ _ hy);have hvx:=xY (hE.ok _ _ hx) m1;have HD:=hE.ev _ _ hx;rw[hvx]at HD;haveI:=(tt.sl hT).2;have XQ:=z7 (m:=HK++X) k1;haveI:xH (HS++(HK++X)) vv e sz xs.length ws ((HS++(HK++X)).set k):=⟨k,XQ,λ_ =>rfl⟩;subst m5;haveI:=n1;obtain⟨g1,g2⟩:=kU hg;refine Au HD (hE.ev _ _ hy) (dB.one _ n2) g1 g2 a.defers a w next Q hs0 λv' w' Q3 hs hp=>?_
 have HF:cC c.bs c.w0.heap.size (.row v' e (t'.L G).n (xs++l').length (ws++news)::(HS.eraseIdx k++(HK++X))) w':=by
  rw[List.length_append];have hp3:cC c.bs c.w0.heap.size ((HS++(HK++X)).set k (.row v' e (t'.L G).n (xs.length+l'.length) (ws++news))) w':=hp;rw[Fx k1]at hp3;refine hp3.qf ?_;have hlt:=(List.getElem?_eq_some_iff.1 k1).1;have e1:(HS.set k (.row v' e (t'.L G).n (xs.length+l'.length) (ws++news)))[k]? =some (.row v' e (t'.L G).n (xs.length+l'.length) (ws++news)):=by simp[hlt]
  have:=xm e1 (HK++X);rwa[List.eraseIdx_set_eq]at this
 obtain⟨ρ',q1,q2,q3⟩:=FD h k3 hs HF (by rw[List.length_append];exact Q3) (acr m4 n2) rfl;exact hk ρ' J [] w' v' q1 (λ_ h=>h) q2 q3
theorem acT{T e sz bt:Nat}{x y:Operand}{vy:AV G}{l:LS G}(hT:tt.te.find T=some (.sl e sz bt))(hx:mK C S [] x=some .pI)(hy:mK C S [] y=some vy)(hl:lsA C S vy=some l)(hsz:(l.t.L G).n=sz)(hg:gw 0 l.xs.length bt=true):
  SK P ⟨d, .call ⟨.builtin .append, #[x,y], #[T,T]⟩,ty,ps,af,g⟩ C S {S with O:=(S.nx, .row e sz l.t l.xs)::S.O,nx:=S.nx+1} (.row S.nx):=by
 intro c N ρ J HK X a w next Q h hk
 obtain⟨HS,h1,hs0,hm⟩:=h.st;have hE:=gk h (ch:=[]) (by simp);obtain⟨news,n1,n2,n3⟩:=Tf hm hl (hE.ok _ _ hy);have HD:=hE.ev _ _ hx;have hvx:a.eval x= .slice none 0 0:=(List.cons.inj (show[a.eval x]=[Value.slice none 0 0]from hE.ok _ _ hx)).1;rw[hvx]at HD;haveI:=(tt.sl hT).2;subst hsz;obtain⟨g1,g2⟩:=kU hg;have O5:St N c a.defers (sI a) (.row (.slice none 0 0) e (l.t.L G).n 0 []::(HS++(HK++X))) a w:=⟨hs0.tm,hs0.fr,hs0.df,hs0.si,CX hs0.hp⟩;haveI:tv c (.row (.slice none 0 0) e (l.t.L G).n 0 []::(HS++(HK++X))) (a.eval y) (l.t.L G).n l.xs.length news:=⟨λw' hs' hp'=>n1.ro w' hs' ⟨λs hs=>hp'.holds s (ao6 _ hs),λs hs=>hp'.own s (ao6 _ hs),(List.pairwise_cons.1 hp'.apart).2⟩⟩;refine Au (n:=0) (xs:=[]) HD (hE.ev _ _ hy) (dB.one _ n2) g1 g2 a.defers a w next Q O5 λv' w' Q3 hs hp=>?_
 obtain⟨ρ',q1,q2,q3⟩:=FD (t:=l.t) (zs:=l.xs) h h1 hs (by simpa using hp) (by simpa using Q3) n2 rfl;exact hk ρ' J [] w' v' q1 (λ_ h=>h) q2 q3
end Go.Rw
namespace Go.Rw
open Go Go.Bw Go.RowKit
variable {G:Sg} {P:Program} {tt:TT P G} {zt:ZT P G} {J:World->Prop} {ρ:bT} {a:Act} {w:World} {d:Option Tmp} {ty:TypeId} {ps:String} {af:Array Edge} {g:Option (Nat×Bool)}
 {N:Nat} {c:Cx} {H:List aO} {D:List Deferred} {ob:Nat->Option (Ob G)} {E:Operand->Option (AV G)}
def Sv(c:AV G)(i o:Nat):zi:=match c with
 | .dat (.ou n e) _ => .idx n (e.L G).n i
 |_ => .Mi i o
def afa:zi->Bool
 | .idx n _ i=>bQ i n
 |_ =>true
def aex(F:Uj G)(pl:List (Nat×Nat))(E:Operand->Option (AV G)):AV G->List (Nat×Operand)->Option (AV G)
 |c,[]=>some c
 |c,(i,x)::r=>match pl[i]?,E x with
  |some (o,n),some v=>bif (Rg (some n) v||(Nat.beq n 1&&Rg none v))&&(Nat.beq (Sv c i o).off o&&afa (Sv c i o))then(match Wp F c [Sv c i o] v with
   |some c'=>aex F pl E c' r
   |none=>none)else none
  |_,_ =>none
def aiu:AV G->Bool
 | .dat t _ =>t.ag
 | .st _ =>true
 |_ =>false
def plT(tt:TT P G)(T:Nat)(parts:List (Nat×Operand)):Option (List (Nat×Nat)):=match tt.te.find T with
 |some (.ou n _ sz _)=>bif (parts.map (·.1)).all λi=>decide (i<n)then some (XN n sz)else none
 |_ =>KV P T
def Zx(tt:TT P G)(zt:ZT P G)(E:Operand->Option (AV G))(T:Nat)(parts:List (Nat×Operand)):PV G:=match plT tt T parts,zt.z.find T with
 |some pl,some c0=>match aex tt.F pl E c0 parts with
  |some v=>bif aiu v then some ([],v)else none
  |none=>none
 |_,_ =>none
theorem aeC{v:AV G}{u:Value}(h:aiu v=true)(hv:rv J ρ v u):u= .agg u.cells:=by
 cases v with
 |dat t x=>obtain⟨u',e,h1⟩:=hv;cases e;obtain⟨cs,e⟩:=h1.2.1 h;rw[e];simp[Value.cells]
 |st a=>obtain⟨cs,e,_⟩:=hv;cases e;simp[Value.cells]
 |_ =>cases h
theorem aew{F:Uj G}{pl:List (Nat×Nat)}(hE:E1 J ρ a E):∀{parts:List (Nat×Operand)} {c0 v:AV G} {u0:Value},aex F pl E c0 parts=some v->rv J ρ c0 u0->
  ∃u vs,rv J ρ v u/\I2 (sI a) (parts.map (·.2))=some vs/\tn pl u0.cells.toList ((parts.map (·.1)).zip vs)=some u.cells.toList:=by
 intro parts
 induction parts with
 |nil=>intro c0 v u0 h h0;cases h;exact⟨u0,[],h0,rfl,rfl⟩
 |cons q r ih=>
  obtain⟨i,x⟩:=q;intro c0 v u0 h h0;simp only[aex]at h;split at h
  ·rename_i o n v1 hp hx
   cases hb:((Rg (some n) v1||(Nat.beq n 1&&Rg none v1))&&(Nat.beq (Sv c0 i o).off o&&afa (Sv c0 i o)))with
   |false=>rw[hb]at h;cases h
   |true=>
    rw[hb]at h;simp only[cond_true]at h;rw[aoX,aoX]at hb;obtain⟨hb,hbo,hbk⟩:=hb;have hbo:=aoW hbo;split at h
    ·rename_i c' hc
     have hv1:=hE.ok _ _ hx;have hsz:(a.eval x).cells.size=n:=by
      simp only[Bool.or_eq_true,aoX]at hb;rcases hb with hb|⟨hb1,Mh⟩
      ·exact((ahT hb hv1).2 n rfl).1
      ·rw[(ahT Mh hv1).1 rfl,aoW hb1];rfl
     obtain⟨u',k1,k2,k3,_⟩:=YP hv1 hc h0 (by
      intro s hs;rw[List.mem_singleton.1 hs];revert hbk;generalize Sv c0 i o=s;intro hbk;cases s with
      |Mi _ _ =>trivial
      |idx _ _ _ =>exact hbk)
     obtain⟨u,vs,m1,m2,m3⟩:=ih h k1;refine⟨u,a.eval x::vs,m1,?_,?_⟩
     ·simp only[List.map_cons,I2,hE.ev _ _ hx,m2]
     ·have ho:jr [Sv c0 i o]=o:=by simp[jr,hbo]
      rw[ho]at k2 k3;simp only[List.map_cons,List.zip_cons_cons,tn,hp];rw[aoV, ← k2]
      ·exact m3
      ·simp only[ne_eq,hsz,not_true_eq_false,decide_false,Bool.false_or,decide_eq_true_eq,Array.length_toList]
       omega
    ·cases h
  ·cases h
theorem Zw(hm:V7 (G:=G) J ρ N c D H ob a w)(hE:E1 J ρ a E){T:Nat}{parts:Array (Nat×Operand)}{v:AV G}{gs:List Bool}(h:Zx tt zt E T parts.toList=some (gs,v)):Gl P c J ρ ⟨d, .build T parts,ty,ps,af,g⟩ a w v:=by
 unfold Zx at h;split at h
 ·rename_i pl c0 h1 h2
  split at h
  ·rename_i v' hb
   cases hag:aiu v' with
   |false=>rw[hag]at h;cases h
   |true=>
    rw[hag]at h;cases h;obtain⟨u0,z1,z2⟩:=zt.ok T c0 h2 J ρ;obtain⟨u,vs,m1,m2,m3⟩:=aew hE hb z2;haveI:ke P T u0.cells.toList:=⟨z1⟩;have:VS P N c ⟨d, .build T parts.toList.toArray,ty,ps,af,g⟩ (sI a) H (.agg u.cells.toList.toArray):=by
     unfold plT at h1;split at h1
     ·rename_i n e sz tot ht
      haveI:=tt.ou ht;cases hi:(parts.toList.map (·.1)).all λi=>decide (i<n)with
      |false=>rw[hi]at h1;cases h1
      |true=>rw[hi]at h1;cases h1;exact XB m2 m3 hi
     ·haveI:TPl P T pl:=⟨h1⟩
      exact sQ (P:=P) (N:=N) (c:=c) (H:=H) (d:=d) (ty:=ty) (p:=ps) (af:=af) (g:=g) (F:=sI a) (t:=T) m2 m3
    refine⟨u,m1,?_⟩;have e:=aeC hag m1;rw[e];have:=this.vk hm.st;simpa using this
  ·cases h
 ·cases h
def eq1{i:Nat}(x y:G.S i)(f:Fd G i):Option Bool:=match f with
 |⟨.int _,_,get,_,_⟩=>some (@BEq.beq Int inferInstance (get x) (get y))
 |⟨.bool,_,get,_,_⟩=>some (@BEq.beq Bool inferInstance (get x) (get y))
 |_ =>none
def eqF{i:Nat}(x y:G.S i):List (Fd G i)->Bool->Option Bool
 |[],b=>some b
 |f::r,b=>match eq1 x y f with
  |some c=>eqF x y r (b&&c)
  |none=>none
def eqS{i:Nat}(x y:G.S i):List (Fd G i)->Option Bool
 |[]=>none
 |f::r=>match eq1 x y f with
  |some c=>eqF x y r c
  |none=>none
def QU{i:Nat}:List (Fd G i)->List (Nat×Option IntKind)
 |[]=>[]
 |f::r=>(f.off,match f.ty with
  | .int k=>some k
  |_ =>none)::QU r
theorem abb{i:Nat}{x y:G.S i}{f:Fd G i}{b:Bool}{cs ds:List Value}(h:eq1 x y f=some b)(hc:(G.L i).eZ J cs x)(hd:(G.L i).eZ J ds y):Pu cs[f.off]? ds[f.off]? =b/\xp (match f.ty with
  | .int k=>some k
  |_ =>none) cs[f.off]? =true/\xp (match f.ty with
  | .int k=>some k
  |_ =>none) ds[f.off]? =true:=by
 obtain⟨t,o,get,set,ok⟩:=f;cases t<;>simp only[eq1]at h<;>try (cases h;done)
 ·rename_i k
  cases h;have e1:=aW.int (k:=k) ok hc;have e2:=aW.int (k:=k) ok hd;rw[e1,e2];exact⟨rfl,by simp[xp],by simp[xp]⟩
 ·cases h
  have e1:=aW.bool ok hc;have e2:=aW.bool ok hd;rw[e1,e2];exact⟨rfl,rfl,rfl⟩
theorem ah2{i:Nat}{x y:G.S i}{cs ds:List Value}(hc:(G.L i).eZ J cs x)(hd:(G.L i).eZ J ds y):∀{l:List (Fd G i)} {b e:Bool},eqF x y l b=some e->(b&&HP (QU l) cs ds)=e/\Ds (QU l) cs=true/\Ds (QU l) ds=true:=by
 intro l
 induction l with
 |nil=>intro b e h;cases h;exact⟨by simp[QU,HP],rfl,rfl⟩
 |cons f r ih=>
  intro b e h;simp only[eqF]at h;split at h
  ·rename_i c1 h1
   obtain⟨k1,k2,k3⟩:=abb h1 hc hd;obtain⟨m1,m2,m3⟩:=ih h;refine⟨?_,?_,?_⟩
   ·simp only[QU,HP,k1];rw[← m1,Bool.and_assoc]
   ·simp only[QU,Ds,k2,m2,Bool.and_self]
   ·simp only[QU,Ds,k3,m3,Bool.and_self]
  ·cases h
def Zv(tt:TT P G)(o:BinOp)(T:Nat):AV G->AV G->PV G
 | .dat (.st i) x, .dat (.st j) y=>if h:j=i then(bif LC P T (QU (tt.F i))then(match eqS x (h▸y) (tt.F i),o with
  |some b, .eql=>some ([], .bool b)
  |some b, .neq=>some ([], .bool (!b))
  |_,_ =>none)else none)else none
 |_,_ =>none
theorem Zu(hm:V7 (G:=G) J ρ N c D H ob a w)(hE:E1 J ρ a E){o:BinOp}{T U:Nat}{x y:Operand}{va vb v:AV G}{gs:List Bool}(h:Zv tt o T va vb=some (gs,v))(hx:E x=some va)(hy:E y=some vb):Gl P c J ρ ⟨d, .binOp o T x y U,ty,ps,af,g⟩ a w v:=by
 unfold Zv at h;split at h
 ·rename_i i x' j y'
  by_cases e:j=i
  ·subst e
   rw[dif_pos rfl]at h;cases hk:LC P T (QU (tt.F j))with
   |false=>rw[hk]at h;cases h
   |true=>
    rw[hk]at h;simp only[cond_true]at h;obtain⟨u,e1,r1⟩:=hE.ok _ _ hx;obtain⟨u2,e2,r2⟩:=hE.ok _ _ hy;cases e1;cases e2;obtain⟨cs,ec⟩:=r1.2.1 rfl;obtain⟨ds,ed⟩:=r2.2.1 rfl;have hc:(G.L j).eZ J cs x':=by have:=r1.1;rw[ec]at this;simp only[Value.cells]at this;exact this
    have hd:(G.L j).eZ J ds y':=by have:=r2.1;rw[ed]at this;simp only[Value.cells]at this;exact this
    have fx:=hE.ev _ _ hx;have fy:=hE.ev _ _ hy;rw[ec]at fx;rw[ed]at fy;haveI:Uf P T (QU (tt.F j)):=⟨hk⟩;have main:∀b,eqS x' y' (tt.F j)=some b->HP (QU (tt.F j)) cs ds=b/\Ds (QU (tt.F j)) cs=true/\Ds (QU (tt.F j)) ds=true:=by
     intro b hb;cases hl:tt.F j with
     |nil=>rw[hl]at hb;cases hb
     |cons f r=>
      rw[hl]at hb;simp only[eqS]at hb;split at hb
      ·rename_i c1 h1
       obtain⟨k1,k2,k3⟩:=abb h1 hc hd;obtain⟨m1,m2,m3⟩:=ah2 hc hd hb;exact⟨by simp only[QU,HP,k1];exact m1,by simp only[QU,Ds,k2,m2,Bool.and_self],by simp only[QU,Ds,k3,m3,Bool.and_self]⟩
      ·cases hb
    split at h
    ·rename_i b hb
     cases h;obtain⟨m1,m2,m3⟩:=main b hb;have:=(V1 (P:=P) (N:=N) (c:=c) (H:=H) (d:=d) (ty:=ty) (p:=ps) (af:=af) (g:=g) (T:=T) (U:=U) fx fy m2 m3).vk hm.st;rw[m1]at this;exact⟨_,rfl,this⟩
    ·rename_i b hb
     cases h;obtain⟨m1,m2,m3⟩:=main b hb;have:=(aeN (P:=P) (N:=N) (c:=c) (H:=H) (d:=d) (ty:=ty) (p:=ps) (af:=af) (g:=g) (T:=T) (U:=U) fx fy m2 m3).vk hm.st;rw[m1]at this;exact⟨_,rfl,this⟩
    ·cases h
  ·rw[dif_neg e]at h;cases h
 ·cases h
end Go.Rw
namespace Go.Bw
open Go Go.RowKit
end Go.Bw
namespace Go.Bw
open Go Go.RowKit
section rules
variable {P:Program} {N:Nat} {c:Cx} {D:List Deferred} {Q:Exit->Act->World->Prop} {F:gp} {H:List aO} {d:Option Tmp} {ty:TypeId} {ps:String} {af:Array Edge} {g:Option (Nat×Bool)} {α β γ:Type}
theorem Wu{w:World}{v:Value}{e sz n m:Nat}{xs:List Value}(h:(aO.row v e sz n xs).holds w)(hm:m<=n):(aO.row (uQ 0 m sz v) e sz m (xs.take (m*sz))).holds w:=by
 obtain⟨h1,h2⟩:=h;have hle:m*sz<=n*sz:=Nat.mul_le_mul_right _ hm;refine⟨by rw[List.length_take,h1,Nat.min_eq_left hle],?_⟩;rcases h2 with⟨rfl,rfl⟩|⟨gb,cap,cur,rfl,q1,q2,q3,q4,q5,q6⟩
 ·obtain rfl:m=0:=by omega
  exact .inl ⟨by simp[uQ],rfl⟩
 ·refine .inr ⟨gb,cap,cur,?_,q1,q2,by omega,q4,q5,?_⟩
  ·simp[uQ,Addr.add_lit]
  ·rw[← q6,List.take_take,Nat.min_eq_left hle]
theorem aeY{v:Value}{n m sz:Nat}(h:wv v n):wv (uQ 0 m sz v) m:=by obtain⟨a,cp,rfl⟩:=h;exact⟨_,_,rfl⟩
theorem Nb(L:dB α)[bR L](xs:List α){m sz:Nat}(hn:L.n=sz)(hm:m<=xs.length):(fQ L xs).take (m*sz)=fQ L (xs.take m):=by have:=Y6 L xs 0 m (Nat.zero_le _) hm;subst hn;simpa using this
theorem Hg(L:dB α)[bR L](z0:α){z:Value}(he:L.enc z0=[z]):∀n:Nat,fQ L (List.replicate n z0)=List.replicate n z
 |0=>rfl
 |n+1=>by have:=Hg L z0 he n;rw[List.replicate_succ,List.replicate_succ];show L.enc z0++fQ L (List.replicate n z0)=_;rw[he,this];rfl
theorem Qn{P:Program}{w:World}{t e ty:Nat}(e1:P.underlying t=some (.slice e))(a:Option Addr)(cp:Nat):(Builtin.clear_ #[t] ty #[.slice a 0 cp]).run P w= .ok (.tuple #[]) w:=by cases a<;>simp[Builtin.clear_,run_underlying e1]
theorem XC{L:dB α}[bR L]{xs ys:List α}{v:Value}{e t m:Nat}{z0:α}{z:Value}{x:Operand}{f:aO->List aO}(ht:NH P t e 1=true)(hz:XU P e z)(he:L.enc z0=[z])(hz1:z.cells= #[z])(h1:z.oneCell'=true)(hL:L.n=1)(hm:m<=xs.length)
  (hx:ev F x=some (uQ m xs.length 1 v))[hr:xH H v e 1 xs.length (fQ L xs) f](hy:ys=xs.take m++List.replicate (xs.length-m) z0):
  RX (α:=Unit) P N c ⟨d, .call ⟨.builtin .clear, #[x], #[t]⟩,ty,ps,af,g⟩ F H (λ_ =>True) (λ_ => .tuple #[]) (λ_ =>f (nr v e 1 L ys)):=λD a w next Q hst hk=>by
 obtain⟨inf,e1,e2,e3⟩:=zo.get ht;obtain⟨k,k1,k2⟩:=hr.ok;have Nv:aO.row v e 1 xs.length (fQ L xs)∈H:=List.mem_of_getElem? k1;have hown:w.ownsRow 0 e 1 v xs.length (fQ L xs):=hst.hp.holds _ Nv;obtain⟨hlen,IZ⟩:=hown;have HD:=bz hst.fr hx;have hyl:ys.length=xs.length:=by rw[hy,List.length_append,List.length_take,List.length_replicate];omega
 by_cases hem:m=xs.length
 ·have hyx:ys=xs:=by rw[hy,hem,List.take_length];simp
  refine gS (by simp) (v:= .tuple #[]) (w':=w) ?_ (hk () w trivial hst.si ?_)
  ·have hv:∃a0 cp,a.eval x= .slice a0 0 cp:=by
    rw[HD,hem];rcases IZ with⟨hv,h0⟩|⟨gb,cap,cur,hv,_⟩
    ·rw[hv];exact⟨_,_,by rw[uQ,Nat.sub_self]⟩
    ·rw[hv];exact⟨_,_,by rw[uQ,Nat.sub_self]⟩
   obtain⟨a0,cp,hv⟩:=hv;have:=Qn (P:=P) (w:=w) (ty:=ty) e1 a0 cp;simp[execOp,resolve,invoke,builtin,hv,this]
  ·rw[k2]
   exact hst.hp.MD k1 (λw hw=>by rw[hyx];exact hw) (λb hb=>by rw[hyx]at hb;exact hb)
 ·rcases IZ with⟨_,h0⟩|⟨gb,cap,cur,rfl,_,hgb,hnc,Vh,hcs,Nu⟩
  ·omega
  have hone:uZ (List.replicate (xs.length-m) z):=λv hv=>by rw[List.eq_of_mem_replicate hv];exact h1
  have hsc:=run_storeCells_at P gb m e (List.replicate (xs.length-m) z) 0 cur w hgb (by simp;omega) hone;simp only[Nat.add_zero]at hsc;obtain⟨cs',ahB⟩:∃cs',(cur.toList.take m++List.replicate (xs.length-m) z++cur.toList.drop (m+(List.replicate (xs.length-m) z).length)).toArray=cs':=⟨_,rfl⟩;rw[ahB]at hsc;have qI:bG [gb] w (w.setRow gb cs'):=⟨rfl,rfl,rfl,by simp,λk _ hk=>setRow_other w gb k _ (by simpa using hk)⟩;refine gS (by simp) (v:= .tuple #[]) (w':=w.setRow gb cs') ?_ (hk () _ trivial (hst.si.store hst.hp Nv (by simp[aO.eL,Value.ownBlock]) qI) ?_)
  ·obtain⟨j,hj⟩:∃j,xs.length-m=j+1:=⟨xs.length-m-1,by omega⟩
   have hzr:=YZ hz w;have hzc:=Mq hz1 (j+1);have hne:¬cap=m:=by omega
   rw[hj]at hsc;have hx3:a.eval x= .slice (some ⟨gb,m,none⟩) (j+1) (cap-m):=by rw[HD];simp[uQ,hne,Addr.add_lit,hj]
   simp[execOp,resolve,invoke,builtin,hx3,Builtin.clear_,run_underlying e1,hzr,hzc,hsc]
  ·show cC c.bs c.w0.heap.size (f (nr _ e 1 L ys)) _
   rw[nr,k2];have O5:=setRow_heap w gb cur cs' e (0,0) hgb;have uP:cur.toList.length=cap:=by simpa using hcs
   refine hst.hp.set k1 qI.size (λj hj hn=>qI.block j hj (by simpa[aO.eL,Value.ownBlock]using hn)) ?_ hst.si.size (λb' hb'=>?_)
   ·refine⟨by rw[qB,hL], .inr ⟨gb,cap,cs',by rw[hyl],Nat.zero_le _,O5,by omega,Vh,?_,?_⟩⟩
    ·rw[← ahB];simp;omega
    ·rw[hyl, ← ahB,Nat.mul_one,hy,uJ,Hg L z0 he]
     have t1:=Nb L xs (m:=m) (sz:=1) hL hm;rw[Nat.mul_one]at t1;rw[← t1, ← Nu,List.take_take,Nat.mul_one,Nat.min_eq_left hm];simp only[List.toList_toArray];rw[List.take_append_of_le_length (by simp;omega)];exact List.take_of_length_le (by simp;omega)
   ·have h5:b'=gb:=by simpa[aO.eL,Value.ownBlock]using hb'
    subst h5;exact⟨.inl (by simp[aO.eL,Value.ownBlock]),Nat.lt_of_lt_of_le (ao2.1 hgb).1 qI.size⟩
theorem al5{ops:Array Oper}{rest:List Oper}{op:Op}{dd:Tmp}{gg:Option (Nat×Bool)}{b:Bool}{v:Value}(hg:Gd ops F gg b)(hb:b=false)(hd:Nat.blt dd N=true)
  (h:WL P N c D ops Q rest ((dd,bif b then v else undef)::F) H):WL P N c D ops Q (⟨some dd,op,ty,ps,af,gg⟩::rest) F H:=by
 subst hb;exact Pz hg hd h
end rules
end Go.Bw
namespace Go.Rw
open Go Go.Bw Go.RowKit
variable {G:Sg} {P:Program} {tt:TT P G} {zt:ZT P G} {J:World->Prop} {ρ:bT} {a:Act} {w:World} {d:Option Tmp} {ty:TypeId} {ps:String} {af:Array Edge} {g:Option (Nat×Bool)}
 {N:Nat} {c:Cx} {H HK X:List aO} {C:CC G} {S:AS G} {D:List Deferred} {E:Operand->Option (AV G)}
def tyA:AV G->Option Ty
 | .int k _ =>some (.int k)
 | .bool _ =>some .bool
 | .dat t _ =>some t
 |_ =>none
def elA(t:Ty)(E:Operand->Option (AV G)):Nat->List (Nat×Operand)->Option (List (t.T G))
 |_,[]=>some []
 |k,(i,x)::r=>bif Nat.beq i k then(match E x with
  |some v=>match Es t v,elA t E (k+1) r with
   |some y,some l=>some (y::l)
   |_,_ =>none
  |none=>none)else none
theorem aa5{n sz:Nat}:∀{vs:List Value} {k:Nat} {vX:List Value},(∀v∈vs,v.cells.size=sz)->k+vs.length<=n->vX.length=n*sz->
  tn (XN n sz) vX ((List.range' k vs.length).zip vs)=some (vX.take (k*sz)++vs.flatMap (λv=>v.cells.toList)++vX.drop ((k+vs.length)*sz)):=by
 intro vs
 induction vs with
 |nil=>intro k vX _ _ _;simp[tn]
 |cons v r ih=>
  intro k vX hv hk hl;have h0:=hv v (by simp);have hlt:k<n:=by simp at hk;omega
  have hle:k*sz+sz<=n*sz:=by rw[← Nat.succ_mul];exact Nat.mul_le_mul_right _ hlt
  simp only[List.length_cons,List.range'_succ,List.zip_cons_cons,tn,OO hlt];rw[aoV (by simp[h0];omega)];have PZ:(cU vX (k*sz) v.cells.toList).length=n*sz:=by rw[xb (by rw[Array.length_toList];omega)];exact hl
  rw[ih (λx hx=>hv x (by simp[hx])) (by simp at hk;omega) PZ];have hvl:v.cells.toList.length=sz:=by rw[Array.length_toList];exact h0
  have t1:(cU vX (k*sz) v.cells.toList).take ((k+1)*sz)=vX.take (k*sz)++v.cells.toList:=by unfold cU;rw[Nat.succ_mul,List.take_append_of_le_length (by simp[hvl];omega),List.take_of_length_le (by simp[hvl];omega)]
  have t2:(cU vX (k*sz) v.cells.toList).drop ((k+1+r.length)*sz)=vX.drop ((k+(r.length+1))*sz):=by
   have e1:(k+1+r.length)*sz=k*sz+sz+r.length*sz:=by rw[Nat.add_mul,Nat.succ_mul]
   have e2:(k+(r.length+1))*sz=k*sz+sz+r.length*sz:=by rw[← e1];congr 1;omega
   unfold cU;rw[e1,e2,List.drop_append,hvl];have hz:(vX.take (k*sz)++v.cells.toList).length=k*sz+sz:=by simp[hvl];omega
   rw[List.drop_eq_nil_of_le (by rw[hz];omega),List.nil_append,hz,List.drop_drop];congr 1;omega
  rw[t1,t2];simp
theorem ah5{t:Ty}(hE:E1 J ρ a E):∀{parts:List (Nat×Operand)} {k:Nat} {xs:List (t.T G)},elA t E k parts=some xs->∃vs,I2 (sI a) (parts.map (·.2))=some vs/\parts.map (·.1)=List.range' k xs.length/\vs.length=xs.length/\
  (∀v∈vs,v.cells.size=(t.L G).n)/\(LA (t.L G) xs.length).eZ J (vs.flatMap λv=>v.cells.toList) (λi=>xs.getD i default):=by
 intro parts
 induction parts with
 |nil=>intro k xs h;cases h;exact⟨[],rfl,rfl,rfl,by simp,ai8⟩
 |cons q r ih=>
  obtain⟨i,x⟩:=q;intro k xs h;simp only[elA]at h;cases hb:Nat.beq i k with
  |false=>rw[hb]at h;cases h
  |true=>
   rw[hb]at h;obtain rfl:=aoW hb;simp only[cond_true]at h;split at h
   ·rename_i v hx
    split at h
    ·rename_i y l hy hl
     cases h;obtain⟨vs,m1,m2,m3,m4,m5⟩:=ih hl;have hr:=CP hy (hE.ok _ _ hx);have hlen:=(t.L G).len hr.1;rw[Array.length_toList]at hlen;refine⟨a.eval x::vs,?_,?_,by simp[m3],λv hv=>?_,?_⟩
     ·simp only[List.map_cons,I2,hE.ev _ _ hx,m1]
     ·simp only[List.map_cons,m2,List.length_cons,List.range'_succ]
     ·rcases List.mem_cons.1 hv with rfl|hv
      ·exact hlen
      ·exact m4 v hv
     ·have:=acr (ai7 hr.1) m5
      simpa using this
    ·cases h
   ·cases h
theorem ad0{bs:List Nat}{n0 b e sz n:Nat}{cs:List Value}{w:World}(hl:cs.length=n*sz)(hn:n<=9223372036854775807)(h:cC bs n0 (.cells b e cs::H) w):cC bs n0 (.row (.slice (some ⟨b,0,none⟩) n n) e sz n cs::H) w:=by
 have:=h.MD (k:=0) (r:= .cells b e cs) (r':= .row (.slice (some ⟨b,0,none⟩) n n) e sz n cs) rfl (λw hw=>by
  have hb:w.heap[b]? =some (.cells cs.toArray e (0,0)):=hw;exact⟨hl, .inr ⟨b,n,_,rfl,Nat.zero_le _,hb,Nat.le_refl _,hn,by simp[hl],List.take_of_length_le (by simp[hl])⟩⟩) (λx hx=>by simpa[aO.eL,Value.ownBlock]using hx)
 exact this
theorem ajT{T n e sz bt:Nat}{parts:Array (Nat×Operand)}{z:AV G}{t:Ty}{xs:List (t.T G)}(hT:tt.te.find T=some (.sl e sz bt))(hz:zt.z.find e=some z)(hxs:elA t (mK C S []) 0 parts.toList=some xs)(hn:xs.length=n)(hsz:(t.L G).n=sz)(h0:0<n*sz)(hcap:n*sz<=16777216):
  SK P ⟨d, .buildSlice T n parts,ty,ps,af,g⟩ C S {S with O:=(S.nx, .row e sz t xs)::S.O,nx:=S.nx+1} (.row S.nx):=by
 intro c N ρ J HK X a w next Q h hk
 obtain⟨HS,h1,hs0,hm⟩:=h.st;have hE:=gk h (ch:=[]) (by simp);obtain⟨vs,m1,m2,m3,m4,m5⟩:=ah5 hE hxs;obtain⟨u,z1,z2⟩:=zt.ok e z hz J ρ;haveI:ke P e u.cells.toList:=⟨z1⟩;haveI:=(tt.sl hT).1;subst hn;subst hsz;have hb0:((List.range (xs.length*(t.L G).n)).map λj=>u.cells.toList[j%u.cells.toList.length]!).length=xs.length*(t.L G).n:=by simp
 have Q9:=aa5 (n:=xs.length) (sz:=(t.L G).n) (vs:=vs) (k:=0) m4 (by omega) hb0;rw[m3, ← m2]at Q9;have hcs:(((List.range (xs.length*(t.L G).n)).map λj=>u.cells.toList[j%u.cells.toList.length]!).take (0*(t.L G).n)++vs.flatMap (λv=>v.cells.toList)++((List.range (xs.length*(t.L G).n)).map λj=>u.cells.toList[j%u.cells.toList.length]!).drop ((0+xs.length)*(t.L G).n))=vs.flatMap (λv=>v.cells.toList):=by rw[List.drop_eq_nil_of_le (by rw[hb0,Nat.zero_add];exact Nat.le_refl _)];simp
 rw[hcs]at Q9;have hlen:(vs.flatMap (λv=>v.cells.toList)).length=xs.length*(t.L G).n:=(LA (t.L G) xs.length).len m5;have hi:((parts.toList.map (·.1)).all λi=>decide (i<xs.length))=true:=by rw[m2,List.all_eq_true];intro i hi;rw[List.mem_range'_1]at hi;simp;omega
 have hx1:xs.length<=9223372036854775807:=by
  have hpos:0<(t.L G).n:=by
   rcases Nat.eq_zero_or_pos (t.L G).n with q|q
   ·rw[q]at h0;omega
   ·exact q
  have:xs.length<=xs.length*(t.L G).n:=Nat.le_mul_of_pos_right _ hpos;omega
 have:=aiZ (P:=P) (N:=N) (c:=c) (d:=d) (ty:=ty) (ps:=ps) (af:=af) (g:=g) (F:=sI a) (H:=HS++(HK++X)) (t:=T) (n:=xs.length) m1 Q9 hi h0 hcap a.defers a w next Q hs0 λb w' _ hs hp=>by have HF:=ad0 (n:=xs.length) hlen hx1 hp;obtain⟨ρ',q1,q2,q3⟩:=FD (t:=t) (zs:=xs) h h1 hs HF ⟨_,_,rfl⟩ m5 rfl;exact hk ρ' J [] w' _ q1 (λ_ h=>h) q2 q3
 simpa using this
end Go.Rw
namespace Go.Rw
open Go Go.Bw Go.RowKit
variable {G:Sg} {P:Program} {tt:TT P G} {J:World->Prop} {ρ:bT} {a:Act} {w:World} {d:Option Tmp} {ty:TypeId} {ps:String} {af:Array Edge} {g:Option (Nat×Bool)}
 {N:Nat} {c:Cx} {H:List aO} {D:List Deferred} {ob:Nat->Option (Ob G)} {E:Operand->Option (AV G)}
def Zp(E:Operand->Option (AV G))(e:Ty)(xs:List (e.T G)):Option Operand->Option Operand->Option Operand->PV G
 |none,none,none=>some ([], .dat (.sl e) xs)
 |some l,none,none=>match s7 (E l)with
  |some (_,i,_)=>some ([bQ i (xs.length+1)], .dat (.sl e) (xs.drop i.toNat))
  |none=>none
 |none,some h,none=>match s7 (E h)with
  |some (_,i,_)=>some ([bQ i (xs.length+1)], .dat (.sl e) (xs.take i.toNat))
  |none=>none
 |some l,some h,none=>match s7 (E l),s7 (E h)with
  |some (_,i,_),some (_,j,_)=>some ([bQ j (xs.length+1),bQ i (j.toNat+1)], .dat (.sl e) ((xs.drop i.toNat).take (j.toNat-i.toNat)))
  |_,_ =>none
 |none,some h,some m=>match s7 (E h),s7 (E m)with
  |some (_,i,_),some (_,j,_)=>some ([i==(xs.length:Int),j==(xs.length:Int)], .dat (.sl e) xs)
  |_,_ =>none
 |_,_,_ =>none
def agA(tt:TT P G)(E:Operand->Option (AV G))(T:Nat)(x:Operand)(lo hi mx:Option Operand):PV G:=match E x,tt.te.find T with
 |some (.dat (.sl e) xs),some (.sl _ sz _)=>bif Nat.beq sz (e.L G).n then Zp E e xs lo hi mx else none
 |some .pI,some (.sl _ _ _)=>match lo,hi,mx with
  |none,some h,none=>match s7 (E h)with
   |some (_,i,q)=>some (ask q (i==0), .pI)
   |none=>none
  |_,_,_ =>none
 |_,_ =>none
theorem ac1{w:World}{v:Value}{sz n:Nat}{xs:List Value}(h:Ro w v sz n xs):Ro w (AZ v) sz n xs:=by
 obtain⟨h1,h2⟩:=h;refine⟨h1,?_⟩;rcases h2 with⟨⟨a,cp,rfl⟩,e⟩|⟨gb,off,cap,rfl,q1,q2,q3⟩
 ·exact .inl ⟨⟨a,0,by simp[AZ,e]⟩,e⟩
 ·exact .inr ⟨gb,off,n,rfl,q1,Nat.le_refl _,q3⟩
theorem Ow{e:Ty}{v:Value}{ws:List Value}{xs:List (e.T G)}(h:DL J v (e.L G) ws xs):zJ (G:=G) J (.sl e) xs v:=by have hc:v.cells.toList=[v]:=h.sl.cells;exact⟨⟨v,ws,hc,h⟩,nofun,λ_ =>by rw[← hc]⟩
theorem vz{E:Operand->Option (AV G)}(hE:E1 J ρ a E){x:Operand}{k:IntKind}{i:Int}{q:Bool}(h:s7 (E x)=some (k,i,q)):Bw.ev (sI a) x=some (.int k i):=(Al hE h).2
theorem Zo(hm:V7 (G:=G) J ρ N c D H ob a w)(hE:E1 J ρ a E){T x0 sz b:Nat}{x:Operand}{lo hi mx:Option Operand}{e:Ty}{xs:List (e.T G)}{v:AV G}{gs:List Bool}{v0:Value}{ws:List Value}(ht:tt.te.find T=some (.sl x0 sz b))(hs:sz=(e.L G).n)(hf:DL J v0 (e.L G) ws xs)(fx:Bw.ev (sI a) x=some v0)
  (h:Zp E e xs lo hi mx=some (gs,v))(hg:∀b∈gs,b=true):Gl P c J ρ ⟨d, .slice T x lo hi mx,ty,ps,af,g⟩ a w v:=by
 haveI:=(tt.sl ht).1;haveI:=hm.kn;haveI:=hf.at (c:=c) (H:=H);have cut:∀{l m:Nat} {ys:List (e.T G)},l<=m->m<=xs.length->ys=(xs.drop l).take (m-l)->zJ (G:=G) J (.sl e) ys (uQ l m sz v0):=λ{l m ys} h1 h2 h3=>by rw[h3];exact Ow (DL.cut hf hs h1 h2)
 unfold Zp at h;split at h
 ·cases h
  refine⟨v0,⟨v0,rfl,Ow hf⟩,?_⟩;refine(bp (P:=P) (F:=sI a) (H:=H) (by simp) λa' w' hf' hs' hp=>?_ :VS P N c _ _ _ _).vk hm.st;obtain⟨i,h1,h2,h3⟩:=zo.get (tt.sl ht).1.ok;obtain⟨a0,cp,rfl⟩:=hf.sl;simp[execOp,bz hf' fx,Instr.sliceAt,run_underlying h1,Instr.slice,Instr.sliceBounds,sizeOf,typeInfo,h2,h3,Addr.add]
 ·split at h
  ·rename_i k i q hl
   cases h;obtain⟨h1,h2⟩:=dF (hg (bQ i (xs.length+1)) (by simp));have h2:=Nat.lt_succ_iff.1 h2;have fl:=vz hE hl;rw[h1]at fl;refine⟨_,⟨_,rfl,cut h2 (Nat.le_refl _) ?_⟩,(NO i.toNat fx fl h2).vk hm.st⟩;rw[List.take_of_length_le (by simp)]
  ·cases h
 ·split at h
  ·rename_i k i q hl
   cases h;obtain⟨h1,h2⟩:=dF (hg (bQ i (xs.length+1)) (by simp));have h2:=Nat.lt_succ_iff.1 h2;have fl:=vz hE hl;rw[h1]at fl;refine⟨_,⟨_,rfl,cut (Nat.zero_le _) h2 ?_⟩,(NP i.toNat fx fl h2).vk hm.st⟩;rw[List.drop_zero,Nat.sub_zero]
  ·cases h
 ·split at h
  ·rename_i k i q k' j q' hl hh
   cases h;obtain⟨h1,h2⟩:=dF (hg (bQ j (xs.length+1)) (by simp));obtain⟨h3,h4⟩:=dF (hg (bQ i (j.toNat+1)) (by simp));have h2:=Nat.lt_succ_iff.1 h2;have h4:=Nat.lt_succ_iff.1 h4;have fl:=vz hE hl;have fh:=vz hE hh;rw[h3]at fl;rw[h1]at fh;exact⟨_,⟨_,rfl,cut h4 h2 rfl⟩,(aiQ i.toNat j.toNat fx fl fh h4 h2).vk hm.st⟩
  ·cases h
 ·split at h
  ·rename_i k i q k' j q' hl hh
   cases h;have h1:i=(xs.length:Int):=by simpa using hg (i==(xs.length:Int)) (by simp)
   have h2:j=(xs.length:Int):=by simpa using hg (j==(xs.length:Int)) (by simp)
   have fl:=vz hE hl;have fh:=vz hE hh;rw[h1]at fl;rw[h2]at fh;refine⟨AZ v0,⟨_,rfl,Ow (ws:=ws) ⟨hf.sl.aon,hf.eZ,λw hw=>ac1 (hf.ro w hw)⟩⟩,(V3 fx fl fh).vk hm.st⟩
  ·cases h
 ·cases h
theorem ade(hm:V7 (G:=G) J ρ N c D H ob a w)(hE:E1 J ρ a E){T:Nat}{x:Operand}{lo hi mx:Option Operand}{v:AV G}{gs:List Bool}(h:agA tt E T x lo hi mx=some (gs,v))(hg:∀b∈gs,b=true):Gl P c J ρ ⟨d, .slice T x lo hi mx,ty,ps,af,g⟩ a w v:=by
 unfold agA at h;split at h
 ·rename_i e xs x0 sz b hx ht
  cases hb:Nat.beq sz (e.L G).n with
  |false=>rw[hb]at h;cases h
  |true=>rw[hb]at h;obtain⟨u',e1,hr,_,hc⟩:=hE.ok _ _ hx;have fx:=hE.ev _ _ hx;cases e1;obtain⟨v',ws,e2,hf⟩:=hr;rw[hc rfl]at e2;cases e2;exact Zo hm hE ht (aoW hb) hf fx h hg
 ·rename_i x0 sz b hx ht
  split at h
  ·split at h
   ·rename_i k i q hl
    cases h;have h1:i=0:=by simpa using I4 hg
    have fl:=vz hE hl;have fx:=hE.ev _ _ hx;have e0:[a.eval x]=[.slice none 0 0]:=hE.ok _ _ hx;rw[(List.cons.inj e0).1]at fx;rw[h1]at fl;haveI:=(tt.sl ht).1;exact⟨_,rfl,(NN fx fl).vk hm.st⟩
   ·cases h
  ·cases h
 ·cases h
theorem agj{C:CC G}{S:AS G}{T r e sz bt:Nat}{x hi:Operand}{t:Ty}{xs:List (t.T G)}{k:IntKind}{i:Int}{q:Bool}(hT:tt.te.find T=some (.sl e sz bt))(hx:mK C S [] x=some (.row r))(ho:ga S.O r=some (.row e sz t xs))(hh:s7 (mK C S [] hi)=some (k,i,q))(hg:bQ i (xs.length+1)=true):
  SK P ⟨d, .slice T x none (some hi) none,ty,ps,af,g⟩ C S {S with O:=(S.nx, .row e sz t (xs.take i.toNat))::F5 S.O r,nx:=S.nx+1} (.row S.nx):=by
 intro c N ρ J HK X a w next Q h hk
 obtain⟨HS,h1,hs0,hm⟩:=h.st;have hE:=gk h (ch:=[]) (by simp);obtain⟨kk,x0,k1,⟨vv,ws,m1,rfl,m3,m4,m5⟩,k3⟩:=h1.del ho;have hvx:=xY (hE.ok _ _ hx) m1;have HD:=hE.ev _ _ hx;rw[hvx]at HD;obtain⟨g1,g2⟩:=dF hg;have g2:=Nat.lt_succ_iff.1 g2;have fl:=vz hE hh;rw[g1]at fl;haveI:=(tt.sl hT).1;have Nv:aO.row vv e sz xs.length ws∈HS++(HK++X):=ao1 _ (List.mem_of_getElem? k1);haveI:tv c (HS++(HK++X)) vv sz xs.length ws:=⟨λw' _ hp'=>Ro.zR (hp'.holds _ Nv)⟩;refine(NP (P:=P) (c:=c) (F:=sI a) (H:=HS++(HK++X)) i.toNat HD fl g2) a.defers a w next Q hs0 λw' hs=>?_
 obtain⟨HS2,q1,q3⟩:=h.hp;have hlen:(xs.take i.toNat).length=i.toNat:=by rw[List.length_take];omega
 have HF:cC c.bs c.w0.heap.size (.row (uQ 0 i.toNat sz vv) e sz (xs.take i.toNat).length (ws.take (i.toNat*sz))::(HS.eraseIdx kk++(HK++X))) w':=by
  have p1:=(hs0.hp.ext hs).qf (xm k1 _);have:=p1.MD (k:=0) (r':= .row (uQ 0 i.toNat sz vv) e sz (xs.take i.toNat).length (ws.take (i.toNat*sz))) rfl (λw hw=>by
   rw[hlen];exact Wu hw g2) (λb hb=>by simpa[aO.eL,abl]using hb)
  exact this
 have anL:(LA (t.L G) (xs.take i.toNat).length).eZ J (ws.take (i.toNat*sz)) (λj=>(xs.take i.toNat).getD j default):=by have hc:=acq (Nat.zero_le i.toNat) g2 m4;subst m5;simp only[List.drop_zero,Nat.sub_zero,Nat.zero_mul]at hc;exact hc
 obtain⟨ρ',q1,q2,q3⟩:=FD h k3 (h.si.s.ext hs) HF (by rw[hlen];exact aeY m3) anL m5;exact hk ρ' J [] w' _ q1 (λ_ h=>h) q2 q3
end Go.Rw
namespace Go.Bw
open Go
universe u
theorem rf{α:Sort u}{a:α}:a=a:=rfl
abbrev A(c:List Value):Value:= .agg c.toArray
abbrev Vs:=List Value
class al6(P:Program)(t:TypeId):Prop where
 ok:P.underlying t=some .string
def look{α:Type}:List (Nat×α)->Nat->Option α
 |[],_ =>none
 |(k,v)::r,d=>bif Nat.beq k d then some v else look r d
def ikn:IntKind->Nat
 | .i8=>0| .i16=>1| .i32=>2| .i64=>3| .u8=>4| .u16=>5| .u32=>6| .u64=>7
def R3(k l:IntKind):Bool:=Nat.beq (ikn k) (ikn l)
theorem IV{k l:IntKind}(h:R3 k l=true):k=l:=by cases k<;>cases l<;>first|rfl|(exact absurd h (by decide))
structure Tb where
 fl:List (Nat×List (Nat×Nat))
 ik:List (Nat×IntKind)
def abr(P:Program)(T:Tb):Bool:=
 (T.fl.all λp=>p.2.all λq=>Lz P p.1 q.1 q.2)&&T.ik.all λp=>match P.underlying p.1 with|some (.int k)=>R3 k p.2|_ =>false
class RL(P:Program)(T:outParam Tb):Prop where
 ok:abr P T=true
theorem K5{α:Type}:∀{l:List (Nat×α)} {d:Nat} {v:α},look l d=some v->(d,v)∈l:=by
 intro l
 induction l with
 |nil=>intro d v h;cases h
 |cons p r ih=>
  intro d v h;obtain⟨k,u⟩:=p;simp only[look]at h;by_cases e:k=d
  ·subst e;rw[Nat.beq_refl]at h;simp at h;subst h;simp
  ·rw[xD e]at h;simp at h;exact ao6 _ (ih h)
def Tb.off(T:Tb)(s f:Nat):Option Nat:=match look T.fl s with
 |some l=>look l f
 |none=>none
def Tb.int(T:Tb)(t:Nat):Option IntKind:=look T.ik t
theorem RL.Mi{P:Program}{T:Tb}(h:RL P T){s f o:Nat}(e:T.off s f=some o):Gk P s f o:=by
 have h:=h.ok;unfold abr at h;rw[aoX]at h;unfold Tb.off at e;split at e
 ·rename_i l h1
  exact⟨List.all_eq_true.1 (List.all_eq_true.1 h.1 _ (K5 h1)) _ (K5 e)⟩
 ·cases e
theorem RL.ty{P:Program}{T:Tb}(h:RL P T){t:Nat}{k:IntKind}(e:T.int t=some k):ab5 P t k:=by
 have h:=h.ok;unfold abr at h;rw[aoX]at h;have h2:=List.all_eq_true.1 h.2 _ (K5 e);dsimp only at h2;split at h2
 ·rename_i k' e2
  rw[IV h2]at e2;exact⟨e2⟩
 ·cases h2
def ajU(o:BinOp)(k:IntKind)(a b:Int):Option Value:=match o with
 | .add=>some (.int k (k.wrap (a+b)))
 | .sub=>some (.int k (k.wrap (a-b)))
 | .mul=>some (.int k (k.wrap (a*b)))
 | .eql=>some (.bool (a==b))
 | .neq=>some (.bool (a !=b))
 | .lss=>some (.bool (decide (a<b)))
 | .leq=>some (.bool (decide (a<=b)))
 | .gtr=>some (.bool (decide (b<a)))
 | .geq=>some (.bool (decide (b<=a)))
 |_ =>none
def sv(T:Tb)(F:gp):Op->Option Value
 | .move x=>ev F x
 | .assign x=>ev F x
 | .nilCheck x=>match ev F x with
  |some (.pointer (some a))=>some (.pointer (some a))
  |_ =>none
 | .unOp .not _ x=>match ev F x with
  |some (.bool b)=>some (.bool (!b))
  |_ =>none
 | .unOp .neg _ x=>match ev F x with
  |some (.int k a)=>some (.int k (k.wrap (0-a)))
  |_ =>none
 | .binOp o _ x y _ =>match ev F x with
  |some (.int k a)=>match ev F y with
   |some (.int l b)=>bif R3 k l then ajU o k a b else none
   |_ =>none
  |_ =>none
 | .convert S t x=>match ev F x with
  |some (.int k a)=>match T.int S with
   |some l=>bif R3 l k then(match T.int t with
    |some k'=>some (.int k' (k'.wrap a))
    |none=>none)else none
   |none=>none
  |_ =>none
 | .extract x i=>match ev F x with
  |some (.tuple vs)=>vs.toList[i]?
  |_ =>none
 | .fieldAddr s x f=>match ev F x with
  |some (.pointer (some ⟨b,off,none⟩))=>match T.off s f with
   |some fo=>some (fW b (off+fo))
   |none=>none
  |_ =>none
 | .makeFunc fn first cap=>match first.toList with
  |[]=>match I2 F cap.toList with
   |some vs=>some (.func fn #[] vs.toArray)
   |none=>none
  |_ =>none
 |_ =>none
theorem YL{P:Program}{T:Tb}[hT:RL P T]{N:Nat}{c:Cx}{F:gp}{H:List aO}{op:Op}{v:Value}{d:Option Tmp}{ty:TypeId}{ps:String}{af:Array Edge}{g:Option (Nat×Bool)}
  (h:sv T F op=some v):VS P N c ⟨d,op,ty,ps,af,g⟩ F H v:=by
 unfold sv at h;split at h
 ·exact dH h
 ·exact wE h
 ·split at h
  ·rename_i a e;obtain rfl:=Option.some.inj h;exact Cr e
  ·cases h
 ·split at h
  ·rename_i b e;obtain rfl:=Option.some.inj h;exact H7 e
  ·cases h
 ·split at h
  ·rename_i e;obtain rfl:=Option.some.inj h;exact abY e rfl
  ·cases h
 ·split at h
  ·rename_i o _ x y _ k a e
   split at h
   ·rename_i l b e2
    cases hb:R3 k l with
    |false=>rw[hb]at h;cases h
    |true=>
     rw[hb]at h;obtain rfl:=IV hb;simp only[cond_true]at h;unfold ajU at h;split at h
     ·obtain rfl:=Option.some.inj h;exact aiR e e2 rfl
     ·obtain rfl:=Option.some.inj h;exact abW e e2 rfl
     ·obtain rfl:=Option.some.inj h;exact aiI e e2 rfl
     ·obtain rfl:=Option.some.inj h;exact aiP e e2
     ·obtain rfl:=Option.some.inj h;exact aiH e e2
     ·obtain rfl:=Option.some.inj h;exact aiL e e2
     ·obtain rfl:=Option.some.inj h;exact aiM e e2
     ·obtain rfl:=Option.some.inj h;exact ab0 e e2
     ·obtain rfl:=Option.some.inj h;exact Ud e e2
     ·cases h
   ·cases h
  ·cases h
 ·split at h
  ·rename_i S t x k a e
   split at h
   ·rename_i l e1
    cases hb:R3 l k with
    |false=>rw[hb]at h;cases h
    |true=>
     rw[hb]at h;obtain rfl:=IV hb;simp only[cond_true]at h;split at h
     ·rename_i k' e2
      obtain rfl:=Option.some.inj h;haveI:=hT.ty e1;haveI:=hT.ty e2;exact V2 e rfl
     ·cases h
   ·cases h
  ·cases h
 ·split at h
  ·rename_i vs e
   exact tY (vs:=vs.toList) e h
  ·cases h
 ·split at h
  ·rename_i e
   split at h
   ·rename_i fo e1
    obtain rfl:=Option.some.inj h;haveI:=hT.Mi e1;exact Gj e
   ·cases h
  ·cases h
 ·rename_i fn first cap
  split at h
  ·rename_i e
   split at h
   ·rename_i e1
    obtain rfl:=Option.some.inj h;obtain⟨l⟩:=first
    obtain rfl:l=[]:=e;exact uV (cap:=cap.toList) e1
   ·cases h
  ·cases h
 ·cases h
inductive Kf where
 |th (y:Code)
 |tk (K:Act->World->Prop)
 |bl (id:Nat)
def dq(P:Program)(ro:Option Nat)(Q:Exit->Act->World->Prop):List Kf->Exit->Act->World->Prop
 |[]=>Q
 | .th y::ks=>Exit.then (y.wpIn (FA ro) 0 P (dq P ro Q ks)) (dq P ro Q ks)
 | .tk K::ks=>Exit.then K (dq P ro Q ks)
 | .bl id::ks=>Exit.inBlock id (dq P ro Q ks)
inductive Cf where
 |C (x:Code)
 |L (ops:Array Oper) (l:List Oper)
 |X (e:Exit)
def GG(P:Program)(N:Nat)(c:Cx)(D:List Deferred)(Q:Exit->Act->World->Prop)(ks:List Kf)(F:gp)(H:List aO):Cf->Prop
 | .C x=>WP P N c D x (dq P c.ro Q ks) F H
 | .L ops l=>WL P N c D ops (dq P c.ro Q ks) l F H
 | .X e=>WQ N c D (dq P c.ro Q ks) e F H
def s1(T:Tb)(N:Nat):Cf->List Kf->gp->Option (Cf×List Kf×gp)
 | .C x,ks,F=>match x with
  | .seq x y=>some (.C x, .th y::ks,F)
  | .block id x=>some (.C x, .bl id::ks,F)
  | .region _ ops false=>some (.L ops ops.toList,ks,F)
  | .skip=>some (.X .normal,ks,F)
  | .label _ =>some (.X .normal,ks,F)
  | .ret=>some (.X .ret,ks,F)
  | .exit id=>some (.X (.exit id),ks,F)
  |_ =>none
 | .L ops l,ks,F=>match l with
  |[]=>some (.X .normal,ks,F)
  |⟨some d,op,_,_,_,none⟩::r=>match sv T F op with
   |some v=>bif Nat.blt d N then some (.L ops r,ks,(d,v)::F)else none
   |none=>none
  |_ =>none
 | .X e,ks,F=>match e,ks with
  | .normal, .th y::ks=>some (.C y,ks,F)
  | .normal, .bl _ ::ks=>some (.X .normal,ks,F)
  | .ret, .th _ ::ks=>some (.X .ret,ks,F)
  | .ret, .tk _ ::ks=>some (.X .ret,ks,F)
  | .ret, .bl _ ::ks=>some (.X .ret,ks,F)
  | .exit i, .th _ ::ks=>some (.X (.exit i),ks,F)
  | .exit i, .tk _ ::ks=>some (.X (.exit i),ks,F)
  | .exit i, .bl k::ks=>bif Nat.beq i k then some (.X .normal,ks,F)else some (.X (.exit i),ks,F)
  |_,_ =>none
def sp(T:Tb)(N:Nat):Nat->Cf->List Kf->gp->Option (Cf×List Kf×gp)
 |0,cf,ks,F=>some (cf,ks,F)
 |n+1,cf,ks,F=>match s1 T N cf ks F with
  |some (cf,ks,F)=>sp T N n cf ks F
  |none=>none
section
variable {P:Program} {T:Tb} [hT:RL P T] {N:Nat} {c:Cx} {D:List Deferred} {Q:Exit->Act->World->Prop} {ks ks':List Kf} {F F':gp} {H:List aO} {cf cf':Cf}
theorem aj2(h:s1 T N cf ks F=some (cf',ks',F'))(g:GG P N c D Q ks' F' H cf'):GG P N c D Q ks F H cf:=by
 unfold s1 at h;split at h
 ·split at h
  all_goals first
   |(cases h;done)
   |skip
  ·cases h;exact Ao g
  ·cases h;exact abV g
  ·cases h;exactλa w hst=>wpIn_region_lit (l:=Array.toList _) (g a w hst)
  ·cases h;exact J8 g
  ·cases h;exact abT g
  ·cases h;exact aiB g
  ·cases h;exact aeK g
 ·split at h
  ·cases h;exact Ap g
  ·split at h
   ·rename_i d op _ _ _ _ _ v hv
    cases hd:Nat.blt d N with
    |false=>rw[hd]at h;cases h
    |true=>rw[hd]at h;cases h;exact cJ hd (YL hv) g
   ·cases h
  ·cases h
 ·split at h
  ·cases h;exact wm g
  ·cases h;exact abQ g
  ·cases h;exact I7 g
  ·cases h;exact I7 g
  ·cases h;exact Px g
  ·cases h;exact Gg g
  ·cases h;exact Gg g
  ·rename_i i k ks
   cases hb:Nat.beq i k with
   |true=>rw[hb]at h;cases h;obtain rfl:=aoW hb;exact MO g
   |false=>rw[hb]at h;cases h;exact MN hb g
  ·cases h
theorem Uu:∀{n:Nat} {cf:Cf} {ks:List Kf} {F:gp},sp T N n cf ks F=some (cf',ks',F')->GG P N c D Q ks' F' H cf'->GG P N c D Q ks F H cf
 |0,_,_,_,h,g=>by cases h;exact g
 |n+1,_,_,_,h,g=>by
  simp only[sp]at h;split at h
  ·rename_i e;exact aj2 e (Uu h g)
  ·cases h
class QF(P:Program)(ro:Option Nat)(Q:Exit->Act->World->Prop)(ks:outParam (List Kf))(Q0:outParam (Exit->Act->World->Prop)):Prop where
 ok:Q=dq P ro Q0 ks
instance(priority:=100) aoy(P ro Q ks):QF P ro (dq P ro Q ks) ks Q:=⟨rfl⟩
instance(priority:=50) aox(P ro K Q ks Q0)[h:QF P ro Q ks Q0]:QF P ro (Exit.then K Q) (.tk K::ks) Q0:=⟨by rw[h.ok];rfl⟩
instance(priority:=10) aoq(P ro Q):QF P ro Q [] Q:=⟨rfl⟩
theorem SC{x:Code}{Q0:Exit->Act->World->Prop}[q:QF P c.ro Q ks Q0](n:Nat)(h:sp T N n (.C x) ks F=some (cf',ks',F'))(g:GG P N c D Q0 ks' F' H cf'):WP P N c D x Q F H:=by have:=Uu (H:=H) (D:=D) h g;rw[q.ok];exact this
theorem SL{ops:Array Oper}{l:List Oper}{Q0:Exit->Act->World->Prop}[q:QF P c.ro Q ks Q0](n:Nat)(h:sp T N n (.L ops l) ks F=some (cf',ks',F'))(g:GG P N c D Q0 ks' F' H cf'):WL P N c D ops Q l F H:=by have:=Uu (H:=H) (D:=D) h g;rw[q.ok];exact this
class QX(Q:Exit->Act->World->Prop)(ro:Option Nat)(P:outParam Program)(ks:outParam (List Kf))(Q0:outParam (Exit->Act->World->Prop)):Prop where
 ok:Q=dq P ro Q0 ks
instance(priority:=100) aow(P ro Q ks):QX (dq P ro Q ks) ro P ks Q:=⟨rfl⟩
theorem SX{e:Exit}{Q0:Exit->Act->World->Prop}[q:QX Q c.ro P ks Q0](n:Nat)(h:sp T N n (.X e) ks F=some (cf',ks',F'))(g:GG P N c D Q0 ks' F' H cf'):WQ N c D Q e F H:=by have:=Uu (P:=P) (H:=H) (D:=D) h g;rw[q.ok];exact this
end
theorem aeM{P:Program}{N:Nat}{c:Cx}{F:gp}{H:List aO}{d:Option Tmp}{ty:TypeId}{ps:String}{af:Array Edge}{g:Option (Nat×Bool)}{T:TypeId}{y:Operand}{s:ByteArray}{k:IntKind}{i:Int}{m:Nat}(hs:s=Lib.pop8tab)(hy:ev F y=some (.int k i))(hi:i=(m:Int))(hm:m<256)[hT:al6 P T]:
  VS P N c ⟨d, .index T (.const (.string s)) y,ty,ps,af,g⟩ F H (.int .u8 (Lib.pop8 i)):=
 bp (by simp) λa w hf _ _ =>by subst hs;have e1:a.eval (.const (.string Lib.pop8tab))= .string Lib.pop8tab:=rfl;have:=Lib.run_index_pop8tab (P:=P) w T k i hT.ok (by omega) (by omega);simp only[execOp,e1,bz hf hy];simp[this]
theorem sj{α:Type}{a b:α}(h:some a=some b):a=b:=Option.some.inj h
theorem mo{α:Type}{L:dB α}{A B:World->Prop}{cs:Vs}{x:α}[Ent B A](h:L.eZ A cs x):L.eZ B cs x:=dB.mono _ GL h
theorem fl{α:Type}{L:dB α}[bR L]{J:World->Prop}{x:α}:L.eZ J (L.enc x) x:=bR.iff.2 rfl
def KZ:List Nat->Bool
 |[]=>true
 |k::r=> !(r.any (Nat.beq k))&&KZ r
theorem Nn:∀{l:List Nat},KZ l=true->l.Nodup
 |[],_ => .nil
 |k::r,h=>by simp only[KZ,aoX,Bool.not_eq_true']at h;refine List.nodup_cons.2 ⟨λhm=>?_,Nn h.2⟩;have:=List.any_eq_false.1 h.1 k hm;rw[Nat.beq_refl]at this;exact this rfl
def Ni(H:List aO)(ks:List Nat):Option (List aO):=bif KZ ks then pick H ks else none
theorem xl{H R:List aO}{ks:List Nat}(h:Ni H ks=some R):pick H ks=some R/\ks.Nodup:=by
 unfold Ni at h;cases hb:KZ ks with
 |true=>rw[hb]at h;exact⟨h,Nn hb⟩
 |false=>rw[hb]at h;cases h
def Wm(F:gp):gp->Option gp
 |[]=>some []
 |(k,_)::r=>match lk F k with
  |some v=>match Wm F r with
   |some l=>some ((k,v)::l)
   |none=>none
  |none=>none
theorem JQ{F:gp}:∀{I:gp},Wm F I=some I->Sub I F
 |[],_ =>trivial
 |(k,u)::r,h=>by
  simp only[Wm]at h;split at h
  ·rename_i v hv
   split at h
   ·rename_i l hl
    simp only[Option.some.injEq,List.cons.injEq,Prod.mk.injEq,true_and]at h;obtain⟨h1,h2⟩:=h;subst h1;subst h2;exact⟨hv,JQ hl⟩
   ·cases h
  ·cases h
def K7(F:gp):List Nat->Option gp
 |[]=>some []
 |k::r=>match lk F k with
  |some v=>match K7 F r with
   |some l=>some ((k,v)::l)
   |none=>none
  |none=>none
theorem B5{F:gp}:∀{sl:List Nat} {K:gp},K7 F sl=some K->MX F sl K
 |[],K,h=>by obtain rfl:=Option.some.inj h;exact .nil
 |k::r,K,h=>by
  simp only[K7]at h;split at h
  ·rename_i v hv
   split at h
   ·rename_i l hl
    obtain rfl:=Option.some.inj h;exact .cons hv (B5 hl)
   ·cases h
  ·cases h
section
variable {P:Program} {N:Nat} {c:Cx} {D:List Deferred} {Q:Exit->Act->World->Prop} {F:gp} {H:List aO} {d:Tmp} {op:Op} {ty:TypeId} {ps:String} {af:Array Edge} {g:Option (Nat×Bool)} {ops:Array Oper} {rest:List Oper} {α β:Type}
theorem W0{H':List aO}(h:RX (α:=Unit) P N c ⟨none,op,ty,ps,af,none⟩ F H (λ_ =>True) (λ_ =>undef) (λ_ =>H'))(k:WL P N c D ops Q rest F H'):WL P N c D ops Q (⟨none,op,ty,ps,af,none⟩::rest) F H:=I8 h λ_ _ =>k
theorem W1{fv:α->Value}{fH:α->List aO}(hd:Nat.blt d N=true)(h:RX P N c ⟨some d,op,ty,ps,af,none⟩ F H (λ_ =>True) fv fH)(k:∀x,WL P N c D ops Q rest ((d,fv x)::F) (fH x)):WL P N c D ops Q (⟨some d,op,ty,ps,af,none⟩::rest) F H:=zh hd h λx _ =>k x
theorem CV{args:List Operand}{ats:Array TypeId}{f:Nat}{vs:List Value}{v:Value}{pre:World->Prop}(hc:FnW P f vs pre v)(hd:Nat.blt d N=true)(ha:I2 F args=some vs)[q:Kn c H pre](k:WL P N c D ops Q rest ((d,v)::F) H):
  WL P N c D ops Q (⟨some d, .call ⟨.value (.func f),args.toArray,ats⟩,ty,ps,af,none⟩::rest) F H:=cJ hd (PE hc ha q.ok) k
theorem P5{ρ:Type}{m1 m2:Option ρ}{r:ρ}{x:Operand}{y z:Code}{t:Bool}(h:cn t m1 m2=some r)(hc:ev F x=some (.bool t))(h1:t=true->m1=some r->WP P N c D y Q F H)(h0:t=false->m2=some r->WP P N c D z Q F H):WP P N c D (.cond x y z) Q F H:=
 RH hc (λe=>h1 e (TQ e h)) (λe=>h0 e (TR e h))
structure al7(n o:Nat)(cs vs cc:Vs):Prop where
 eq:cU cs o vs=cc
 lv:vs.length=n
 le:o+n<=cs.length
 one:uZ vs
theorem sto{L:dB α}{M:dB β}{o:Nat}{gg:α->β}{s:α->β->α}{cs vs:Vs}{x x':α}{v:β}{C:World->Prop}(p:aW L M o gg s)(r:L.eZ C cs x)(rv:M.eZ C vs v)(e:x'=s x v):∃cc,al7 M.n o cs vs cc/\L.eZ C cc x':=by subst e;exact⟨_,⟨rfl,M.len rv,by rw[L.len r];exact p.le,M.one rv⟩,p.set r rv⟩
theorem RXs{o n m b t T:Nat}{y z:Operand}{val:Value}{cs cs' vs:Vs}{H':List aO}{d:Option Tmp}(q:al7 n o cs vs cs')(hx:ev F y=some (fW b o))(hz:ev F z=some val)(hv:val.cells.toList=vs)[xL H b T cs][Ue P t m](hn:n=m)[MP H b cs' H']:
  RX (α:=Unit) P N c ⟨d, .store t y z,ty,ps,af,g⟩ F H (λ_ =>True) (λ_ =>undef) (λ_ =>H'):=by subst hn;exact uX hx hz hv q.lv q.le q.one q.eq
theorem ST{L:dB α}{M:dB β}{o m b t T:Nat}{gg:α->β}{s:α->β->α}{cs vs:Vs}{x:α}(x':α){v:β}{C:World->Prop}{y z:Operand}{val:Value}{H':Vs->List aO}(p:aW L M o gg s)(r:L.eZ C cs x)(rv:M.eZ C vs v)(e:x'=s x v)
  (hx:ev F y=some (fW b o))(hz:ev F z=some val)(hv:val.cells.toList=vs)[xL H b T cs][Ue P t m](hn:M.n=m)[S:∀cc,MP H b cc (H' cc)](k:∀cc,L.eZ C cc x'->WL P N c D ops Q rest F (H' cc)):
  WL P N c D ops Q (⟨none, .store t y z,ty,ps,af,none⟩::rest) F H:=by
 obtain⟨cc,q,f⟩:=sto p r rv e;exact I8 (RXs q hx hz hv hn) λ_ _ =>k cc f
theorem rn:yJ P F H [] []:= .nil
theorem rt{t:Nat}{v:Value}{rs:List ResultVar}{vs:Vs}(hv:lk F t=some v)(h:yJ P F H rs vs):yJ P F H (.tmp t::rs) (v::vs):= .tmp hv h
theorem ra{t ty b T n:Nat}{cs:Vs}{rs:List ResultVar}{vs:Vs}(hv:lk F t=some (fW b 0))[hr:xL H b T cs][ht:wu P ty n](hl:cs.length=n)(h:yJ P F H rs vs):yJ P F H (.cell t ty::rs) (.agg cs.toArray::vs):= .agg hv hr ht hl h
theorem ro{t ty b T:Nat}{v:Value}{cs:Vs}{rs:List ResultVar}{vs:Vs}(hv:lk F t=some (fW b 0))[hr:xL H b T cs][ht:sR P ty](hl:cs=[v])(h:yJ P F H rs vs):yJ P F H (.cell t ty::rs) (v::vs):= .one hv hr ht hl h
theorem RV{fn:Func}{rs:List ResultVar}{vs:Vs}{v:Value}(hf:fn.results.toList=rs)(hr:yJ P F H rs vs)(hv:Ez vs=v):WQ N c [] (Post P c fn (λ_ :Unit=>True) (λ_ =>v) (λ_ =>[])) .ret F H:=Cq () hf hr trivial hv (ks:=[]) rfl .nil
theorem RBu{fn:Func}{rs:List ResultVar}{vs:Vs}{R:List aO}{p:Value×List Nat×(World->Prop)->Prop}(ks:List Nat)(hk:Ni H ks=some R)(hf:fn.results.toList=rs)(hr:yJ P F H rs vs)(hp:p (Ez vs,cm R,Hs R)):
  WQ N c [] (Post P c fn p (λx=>x.1) (λx=>[.ext x.2.1 x.2.2])) .ret F H:=λa w hst=>by
 show LeavesInM (FA none) 0 P fn a.tmps _ a.defers .returning w;rw[hst.df];obtain⟨h1,h2⟩:=xl hk;exact⟨_,IN hf hst.fr hst.hp hr,(Ez vs,cm R,Hs R),hp,rfl,hst.si,abt (H':=[]) (by rw[List.append_nil];exact hst.hp.pick h1 h2)⟩
theorem LO{x:Code}(sl ks:List Nat)(I:Nat×β->gp)(J:Nat×β->List aO)(p:Nat×β->Prop)(i0:Nat×β)(W8:p i0){K:gp}(hK:K7 F sl=some K)(hs:Wm F (I i0)=some (I i0))(hk:Ni H ks=some (J i0))
  (hb:∀m y,p (m,y)->WP P N c D x (V8 N c D Q sl K I J p (λz=>z.1) (m,y)) (I (m,y)++K) (J (m,y))):WP P N c D (.loop x) Q F H:=
 abR sl (B5 hK) I J p (λz=>z.1) i0 W8 (JQ hs) (xl hk).1 (xl hk).2 λi hi=>hb i.1 i.2 hi
theorem LN{K:gp}{sl:List Nat}{I:Nat×β->gp}{J:Nat×β->List aO}{p:Nat×β->Prop}{m:Nat}{y0:β}(ks:List Nat)(y:β)(hp:p (m,y))(hs:Wm F (I (m,y))=some (I (m,y)))(hl:K7 F sl=some K)(hk:Ni H ks=some (J (m,y))):
  WQ N c D (V8 N c D Q sl K I J p (λz=>z.1) (m+1,y0)) .normal F H:=abO (m,y) (Nat.lt_succ_self _) hp (JQ hs) (B5 hl) (xl hk).1 (xl hk).2
theorem CU{x y:Code}(sl:List Nat){K:gp}(hK:K7 F sl=some K)(I:α->gp)(J:α->List aO)(p:α->Prop)(h1:WP P N c D x (ae1 N c D Q sl K I J p) F H)(h2:∀i,p i->WP P N c D y Q (I i++K) (J i)):WP P N c D (.seq x y) Q F H:=aeL sl (B5 hK) I J p h1 h2
theorem CE{K:gp}{sl:List Nat}{I:α->gp}{J:α->List aO}{p:α->Prop}(ks:List Nat)(i:α)(hp:p i)(hs:Wm F (I i)=some (I i))(hl:K7 F sl=some K)(hk:Ni H ks=some (J i)):WQ N c D (ae1 N c D Q sl K I J p) .normal F H:=aeH i hp (JQ hs) (B5 hl) (xl hk).1 (xl hk).2
end
def sn(T:Tb)(N:Nat)(ops:Array Oper):Nat->List Fl->gp->Option (List Fl×gp)
 |0,l,F=>some (l,F)
 |n+1,l,F=>match l with
  |(i,ks)::r=>match ops[i]? with
   |some ⟨some d,op,_,_,_,none⟩=>match sv T (uI F ks) op with
    |some v=>bif Nat.blt d N then sn T N ops n r ((d,v)::F)else none
    |none=>none
   |_ =>none
  |[]=>none
def sr(T:Tb)(ops:Array Oper)(F:gp):Nat->List Fl->Option (List Value×List Fl)
 |0,l=>some ([],l)
 |n+1,l=>match l with
  |(i,ks)::r=>match ops[i]? with
   |some ⟨some _,op,_,_,_,none⟩=>match sv T (uI F ks) op with
    |some v=>match sr T ops F n r with
     |some (vs,l')=>some (v::vs,l')
     |none=>none
    |none=>none
   |_ =>none
  |[]=>none
def sk(ops:Array Oper)(F:gp):Nat->List Fl->Option (List Value)
 |0,_ =>some []
 |n+1,l=>match l with
  |(i,_)::r=>match ops[i]? with
   |some ⟨some d,_,_,_,_,none⟩=>match lk F d with
    |some v=>match sk ops F n r with
     |some vs=>some (v::vs)
     |none=>none
    |none=>none
   |_ =>none
  |[]=>none
section
variable {P:Program} {T:Tb} [hT:RL P T] {N:Nat} {c:Cx} {D:List Deferred} {ops:Array Oper} {Q:Exit->Act->World->Prop} {F F':gp} {H:List aO} {l l':List Fl}
theorem NS{K:gp->Prop}(n:Nat)(h:sn T N ops n l F=some (l',F'))(k:u6 P N c ops H l' F' K):u6 P N c ops H l F K:=by
 induction n generalizing l F with
 |zero=>cases h;exact k
 |succ n ih=>
  simp only[sn]at h;split at h
  ·rename_i i ks r
   split at h
   ·rename_i d op _ _ _ ho
    split at h
    ·rename_i v hv
     cases hd:Nat.blt d N with
     |false=>rw[hd]at h;cases h
     |true=>rw[hd]at h;exact EZ ho hd (ab4 rfl (YL hv)) (ih h)
    ·cases h
   ·cases h
  ·cases h
theorem RSn{vs:List Value}(n:Nat)(h:sr T ops F n l=some (vs,l'))(h2:sk ops F n l=some vs)(k:Gm P N c ops F H l'):Gm P N c ops F H l:=by
 induction n generalizing l vs with
 |zero=>simp only[sr,Option.some.injEq,Prod.mk.injEq]at h;rw[h.2];exact k
 |succ n ih=>
  simp only[sr]at h;simp only[sk]at h2;split at h
  ·rename_i i ks r
   split at h
   ·rename_i d op _ _ _ ho
    dsimp only at h2;rw[ho]at h2;dsimp only at h2;split at h
    ·rename_i v hv
     split at h
     ·rename_i us l2 h3
      simp only[Option.some.injEq,Prod.mk.injEq]at h;obtain⟨rfl,rfl⟩:=h;split at h2
      ·rename_i u hu
       split at h2
       ·rename_i ws h4
        simp only[Option.some.injEq,List.cons.injEq]at h2;obtain⟨rfl,rfl⟩:=h2;exact NQ ho hu (ab4 rfl (YL hv)) (ih h3 h4)
       ·cases h2
      ·cases h2
     ·cases h
    ·cases h
   ·cases h
  ·cases h
theorem RE{vs:List Value}(n:Nat)(h:sr T ops F n l=some (vs,[]))(h2:sk ops F n l=some vs):Gm P N c ops F H l:=RSn n h h2 trivial
end
section
variable {P:Program} {N:Nat} {c:Cx} {D:List Deferred} {ops:Array Oper} {Q:Exit->Act->World->Prop} {F:gp} {H:List aO} {i:Nat} {ks:List Nat} {q:List Fl} {d:Nat} {v v':Value} {op:Op} {ty:TypeId} {ps:String} {af:Array Edge} {g:Option (Nat×Bool)} {α:Type}
theorem NV{K:gp->Prop}(ho:ops[i]? =some ⟨some d,op,ty,ps,af,none⟩)(hN:Nat.blt d N=true)(hv:VS P N c ⟨some d,op,ty,ps,af,none⟩ (uI F ks) H v)(hr:u6 P N c ops H q ((d,v)::F) K):u6 P N c ops H ((i,ks)::q) F K:=EZ ho hN (ab4 rfl hv) hr
theorem NC{K:gp->Prop}{args:List Operand}{ats:Array TypeId}{f:Nat}{vs:List Value}{pre:World->Prop}(ho:ops[i]? =some ⟨some d, .call ⟨.value (.func f),args.toArray,ats⟩,ty,ps,af,none⟩)(hN:Nat.blt d N=true)(hc:FnW P f vs pre v)(ha:I2 (uI F ks) args=some vs)[k:Kn c H pre](hr:u6 P N c ops H q ((d,v)::F) K):u6 P N c ops H ((i,ks)::q) F K:=EZ ho hN (ab4 rfl (PE hc ha k.ok)) hr
theorem RO(ho:ops[i]? =some ⟨some d,op,ty,ps,af,none⟩)(hl:lk F d=some v)(hv:VS P N c ⟨some d,op,ty,ps,af,none⟩ (uI F ks) H v')(e:v'=v)(hr:Gm P N c ops F H q):Gm P N c ops F H ((i,ks)::q):=NQ ho hl (ab4 rfl (T9 hv e)) hr
theorem T0{new:List Fl}{t:Tr}(h:u6 P N c ops H new F λF'=>GM P N c D ops Q t F' H):GM P N c D ops Q (.Mg [] new t) F H:=⟨trivial,h⟩
theorem F0{new:List Fl}(h:u6 P N c ops H new F λF'=>WQ N c D Q .normal F' H):GM P N c D ops Q (.fin [] new) F H:=⟨trivial,h⟩
theorem F00(h:WQ N c D Q .normal F H):GM P N c D ops Q (.fin [] []) F H:=⟨trivial,h⟩
theorem X1{s:Nat}{here:Tr}{p:α->Prop}{fv:α->Value}{fH:α->List aO}(ho:ops[s]? =some ⟨some d,op,ty,ps,af,none⟩)(hN:Nat.blt d N=true)(hv:RX P N c ⟨some d,op,ty,ps,af,none⟩ (uI F ks) H p fv fH)(h:∀x,p x->GM P N c D ops Q here ((d,fv x)::F) (fH x)):GM P N c D ops Q (.alt s ks here .no) F H:=RM ho hN (ai0 rfl hv) h trivial
theorem X2{s:Nat}{here fE:Tr}{p:α->Prop}{fv:α->Value}{fH:α->List aO}(ho:ops[s]? =some ⟨some d,op,ty,ps,af,none⟩)(hN:Nat.blt d N=true)(hv:RX P N c ⟨some d,op,ty,ps,af,none⟩ (uI F ks) H p fv fH)(h:∀x,p x->GM P N c D ops Q here ((d,fv x)::F) (fH x))(hm:GM P N c D ops Q fE F H):GM P N c D ops Q (.alt s ks here fE) F H:=RM ho hN (ai0 rfl hv) h hm
theorem X0{s:Nat}{here:Tr}{fH:List aO}(ho:ops[s]? =some ⟨none,op,ty,ps,af,none⟩)(hv:RX (α:=Unit) P N c ⟨none,op,ty,ps,af,none⟩ (uI F ks) H (λ_ =>True) (λ_ =>undef) (λ_ =>fH))(h:GM P N c D ops Q here F fH):GM P N c D ops Q (.alt s ks here .no) F H:=ab7 ho (ai0 rfl hv) (λ_ _ =>h) trivial
theorem GB{rest:List Oper}{j k:Nat}{want b:Bool}(hd:(ops[j]?).bind (·.dst)=some k)(hl:lk F k=some (.bool b))(hN:Nat.blt d N=true)(hv:(b==want)=true->VS P N c ⟨some d,op,ty,ps,af,some (j,want)⟩ F H v)
  (h:WL P N c D ops Q rest ((d,bif (b==want)then v else undef)::F) H):WL P N c D ops Q (⟨some d,op,ty,ps,af,some (j,want)⟩::rest) F H:=aop (acu hd hl) hN hv h
end
theorem fo{α:Type}{P:Program}{f:Nat}{fn:Func}{code:Code}{N:Nat}{args:Vs}{K:World->Prop}[S:Cs K]{p:α->Prop}{fv:α->Value}{fH:α->List aO}(hf:P.funcs[f]? =some fn)(hname:(fn.name== "runtime.NumGoroutine")=false)(hb:fn.body=some code)(hN:fn.ntmps=N)(ha:Nat.ble args.length N=true)
  (h:∀c:Cx,(∀R,KnF c R K)->c.ro=none->c.bs=[]->K c.w0->WP P N c [] code (Post P c fn p fv fH) (Cb 0 args) []):Fn P f args K [] p fv fH:=
 xw hf hname hb hN ha λc qJ hpre hro=>h c (adR qJ hpre) hro qJ hpre
end Go.Bw
namespace Go.Bw
open Go Go.RowKit
abbrev zP(T:Nat)(e:Int):List PanicEntry:=[{v:= .iface T (.int .i64 e),recovered:=false}]
def tc{α:Type}(b:Bool)(f:α)(k:Option α):Option α:=bif b then k else some f
def tr{α β:Type}(x:Option (Except Int α))(f:Int->β)(k:α->Option β):Option β:=match x with
 |some (.ok a)=>k a
 |some (.error e)=>some (f e)
 |none=>none
end Go.Bw
namespace Go.Bw
open Go Go.RowKit
section
variable {α:Type} {P:Program} {N:Nat} {c:Cx} {F:gp} {H:List aO} {D:List Deferred} {fn:Func} {p:α->Prop} {fv:α->Value} {fH:α->List aO} {ops:Array Oper} {d:Option Tmp} {ty:TypeId} {ps:String} {af:Array Edge}
theorem abZ{A:World->Prop}{x:Operand}{t b off:Nat}{v:Value}(hA:∀w,A w->w.cell? ⟨b,off,none⟩=some v)(hx:ev F x=some (fW b off))[sR P t][hk:Kn c H A]:VS P N c ⟨d, .load t x,ty,ps,af,none⟩ F H v:=
 bp (by simp) λa w hf hs hp=>by have:=oD (P:=P) (t:=t) (a:=⟨b,off,none⟩) (hA w (hk.ok w hs hp));simp[execOp,bz hf hx,Instr.loadAt,Instr.sureAddr,this]
theorem Ua{A:World->Prop}{q:IntKind}{b:Nat}{x y:Operand}{t kt e:TypeId}{k:Int}(z v:Value)(bb:Bool)(hA:∀w,A w->∃l,MpJ b q (λv:Value=>v) l w/\qG l k z=v/\y7 l k=bb)[ht:LV P t kt e q][hz:XU P e z](hx:ev F x=some (.map (some b)))(hy:ev F y=some (.int q k))[hk:Kn c H A]:
  VS P N c ⟨d, .lookup t x y true,ty,ps,af,none⟩ F H (.tuple #[v, .bool bb]):=by
 haveI hz':XU P e ((λv:Value=>v) z):=hz;refine bp (by simp) λa w hf hs hp=>?_;obtain⟨l,h0,h1,h2⟩:=hA w (hk.ok w hs hp);subst h1 h2;simp[execOp,bz hf hx,bz hf hy,xd w ht hz' h0,Result.andThen]
end
end Go.Bw
namespace Go.Rw
open Go Go.Bw Go.RowKit
variable {G:Sg} {P:Program} {tt:TT P G} {J:World->Prop} {ρ:bT} {a:Act} {w:World} {d:Option Tmp} {ty:TypeId} {ps:String} {af:Array Edge}
 {N:Nat} {c:Cx} {H:List aO} {D:List Deferred} {C:CC G} {S:AS G}
theorem YT{T:Nat}{g0:IntKind×List (Int×Nat)}(hgt:G.gt=some g0)(h1:vu P T=true):SK P ⟨d, .load T (.global 0),ty,ps,af,none⟩ C S {S with O:=(S.nx, .gm)::S.O,nx:=S.nx+1} (.mp S.nx):=by
 intro c N ρ J HK X a w next Q h hk
 obtain⟨HS,r1,hs0,hm⟩:=h.st;obtain⟨mb,hmb⟩:=h.kn.gl g0 hgt;haveI:sR P T:=⟨h1⟩;haveI:Kn c (HS++(HK++X)) J:=⟨λw' _ hp=>h.kn.to w' λr hr=>⟨hp.holds r (by simp[hr]),λb hb=>(hp.own r (by simp[hr]) b hb).2⟩⟩;refine(abZ (P:=P) (N:=N) (c:=c) (F:=sI a) (H:=HS++(HK++X)) (A:=J) (v:= .map (some mb)) (b:=0) (off:=0) (λw hw=>(hmb w hw).1) rfl) a.defers a w next Q hs0 λw' hs=>?_
 have HF:cC c.bs c.w0.heap.size (.row (.slice none 0 0) 0 1 0 []::(HS++(HK++X))) w':=CX (hs0.hp.ext hs);refine hk (ρ.set S.nx (.map (some mb))) J [] w' _ (bT.sq _ _ _) (λ_ h=>h) ⟨_,bT.oe _ _ _,rfl,rfl,rfl⟩ (h.new r1 (h.si.s.ext hs) HF ⟨⟨mb,g0,bT.oe _ _ _,hgt,hmb⟩,rfl⟩)
def VI(P:Program)(T:Nat)(q:IntKind):Bool:=match P.underlying T with
 |some (.map k e)=>(match P.underlying k with
  |some (.int q')=>Nat.beq (Ty.cQ.ik q) (Ty.cQ.ik q')
  |_ =>false)&&(match(P.info? e).bind (·.zero)with
  |some .nilFunc=>true
  |_ =>false)
 |_ =>false
def Oi:List (Int×Nat)->Int->Option Nat
 |[],_ =>none
 |(a,f)::r,k=>bif k==a then some f else Oi r k
theorem acO{k:Int}:∀{l:List (Int×Nat)},(∀f,Oi l k=some f->qG (l.map I1) k .nilFunc= .func (.func f) #[] #[]/\y7 (l.map I1) k=true)/\(Oi l k=none->qG (l.map I1) k .nilFunc= .nilFunc/\y7 (l.map I1) k=false):=by
 intro l
 induction l with
 |nil=>exact⟨λf h=>by(cases h),λ_ =>⟨rfl,rfl⟩⟩
 |cons p r ih=>
  obtain⟨a,f0⟩:=p;simp only[Oi,List.map_cons];cases hb:(k==a)with
  |true=>
   have e:ji (I1 (a,f0)::r.map I1) k=some (0, .func (.func f0) #[] #[]):=by show(bif k==a then _ else _)=_;rw[hb];rfl
   refine⟨λf h=>?_,λh=>by cases h⟩;cases h;simp only[qG,y7,e];exact⟨rfl,rfl⟩
  |false=>
   have e:ji (I1 (a,f0)::r.map I1) k=(ji (r.map I1) k).map λq=>(q.1+1,q.2):=by show(bif k==a then _ else _)=_;rw[hb];rfl
   have e1:qG (I1 (a,f0)::r.map I1) k .nilFunc=qG (r.map I1) k .nilFunc:=by unfold qG;rw[e];cases ji (r.map I1) k<;>rfl
   have e2:y7 (I1 (a,f0)::r.map I1) k=y7 (r.map I1) k:=by unfold y7;rw[e];cases ji (r.map I1) k<;>rfl
   rw[e1,e2];exact ih
def agf:Option Nat->AV G
 |some f=> .rZ (.cons (.fn (.func f) .nil .nil) (.cons (.kb true) .nil))
 |none=> .rZ (.cons .B0 (.cons (.kb false) .nil))
theorem Ws{T r:Nat}{x y:Operand}{q:IntKind}{k:Int}{b:Bool}{g0:IntKind×List (Int×Nat)}(hgt:G.gt=some g0)(hx:mK C S [] x=some (.mp r))(ho:obS C S r=some .gm)(hy:s7 (mK C S [] y)=some (q,k,b))(hq:Nat.beq (Ty.cQ.ik q) (Ty.cQ.ik g0.1)=true)(hc:VI P T g0.1=true):
  SK P ⟨d, .lookup T x y true,ty,ps,af,none⟩ C S S (agf (Oi g0.2 k)):=by
 intro c N ρ J HK X a w next Q h hk
 obtain⟨HS,r1,hs0,hm⟩:=h.st;have hE:=gk h (ch:=[]) (by simp);obtain⟨Jr,hres,⟨mb,g1,m1,m2,m3⟩,_⟩:=hm.ob r _ ho;rw[hgt]at m2;cases m2;obtain rfl:=QY hq;have hxv:a.eval x= .map (some mb):=by obtain⟨u,u1,u2,_⟩:=hE.ok _ _ hx;rw[m1]at u1;cases u1;exact(List.cons.inj u2).1
 have HD:=hE.ev _ _ hx;rw[hxv]at HD;have fl:=vz hE hy;haveI:Kn c (HS++(HK++X)) J:=⟨λw' _ hp=>h.kn.to w' λr hr=>⟨hp.holds r (by simp[hr]),λb hb=>(hp.own r (by simp[hr]) b hb).2⟩⟩;unfold VI at hc;split at hc
 ·rename_i kt e hu
  simp only[aoX]at hc;obtain⟨hc1,hc2⟩:=hc;split at hc1
  ·rename_i q' hk'
   obtain rfl:=QY hc1;split at hc2
   ·rename_i hz
    haveI:LV P T kt e g0.1:=⟨hu,hk'⟩;haveI:XU P e .nilFunc:=⟨hz⟩;obtain⟨t1,t2⟩:=acO (k:=k) (l:=g0.2);have hv:rv J ρ (agf (G:=G) (Oi g0.2 k)) (.tuple #[qG (g0.2.map I1) k .nilFunc, .bool (y7 (g0.2.map I1) k)]):=by
     cases hf:Oi g0.2 k with
     |some f=>obtain⟨e1,e2⟩:=t1 f hf;rw[e1,e2];exact⟨[.func (.func f) #[] #[], .bool true],rfl,_,_,rfl,⟨[],[],rfl,rfl,rfl⟩,_,_,rfl,rfl,rfl⟩
     |none=>obtain⟨e1,e2⟩:=t2 hf;rw[e1,e2];exact⟨[.nilFunc, .bool false],rfl,_,_,rfl,rfl,_,_,rfl,rfl,rfl⟩
    refine(Ua (P:=P) (N:=N) (c:=c) (F:=sI a) (H:=HS++(HK++X)) (A:=J) (q:=g0.1) (b:=mb) .nilFunc _ _ (λw hw=>by
     obtain⟨l,l1,l2⟩:=(m3 w hw).2;exact⟨l,l1,(l2 k).1,(l2 k).2⟩) HD fl) a.defers a w next Q hs0 λw' hs=>?_
    exact hk ρ J [] w' _ (bT.gL _ _) (λ_ h=>h) hv (by
     obtain⟨HS2,p1,p3⟩:=h.hp;exact⟨h.tm,h.df,h.si.ext hs,h.fs,h.fc,h.kc,⟨HS2,p1,p3.ext hs⟩,h.kn,h.fr⟩)
   ·cases hc2
  ·cases hc1
 ·cases hc
def TV(P:Program)(T:Nat):Bool:=match P.underlying T with
 |some .string=>true
 |_ =>false
def Zr(P:Program)(E:Operand->Option (AV G))(T:Nat)(x y:Operand):PV G:=match x with
 | .const (.string s)=>match s7 (E y)with
  |some (_,i,_)=>bif decide (s=Lib.pop8tab)&&TV P T then some ([bQ i 256], .int .u8 (Lib.pop8 i))else none
  |none=>none
 |_ =>none
theorem Zq{ob:Nat->Option (Ob G)}{E:Operand->Option (AV G)}{g:Option (Nat×Bool)}(hm:V7 (G:=G) J ρ N c D H ob a w)(hE:E1 J ρ a E){T:Nat}{x y:Operand}{v:AV G}{gs:List Bool}(h:Zr P E T x y=some (gs,v))(hg:∀b∈gs,b=true):Gl P c J ρ ⟨d, .index T x y,ty,ps,af,g⟩ a w v:=by
 unfold Zr at h;split at h
 ·rename_i s
  split at h
  ·rename_i k i q hl
   cases hb:(decide (s=Lib.pop8tab)&&TV P T)with
   |false=>rw[hb]at h;cases h
   |true=>
    rw[hb]at h;cases h;simp only[aoX,decide_eq_true_eq]at hb;obtain⟨h1,h2⟩:=dF (hg (bQ i 256) (by simp));have fl:=vz hE hl;have ht:P.underlying T=some .string:=by
     have:=hb.2;unfold TV at this;split at this
     ·assumption
     ·cases this
    haveI:al6 P T:=⟨ht⟩;exact⟨_,rfl,(aeM hb.1 fl h1 h2).vk hm.st⟩
  ·cases h
 ·cases h
end Go.Rw
namespace Go.Bw
open Go
theorem aL{x:Int}(h1: -9223372036854775808<=x)(h2:x<=9223372036854775807):wr .i64 x=x:=IntWalk.i64_in x ⟨h1,h2⟩
theorem Wd{x:Int}(h1:0<=x)(h2:x<=255):wr .u8 x=x:=IntWalk.u8_in x ⟨h1,h2⟩
theorem Kq{x:Int}(h1:0<=x)(h2:x<=4294967295):wr .u32 x=x:=IntWalk.u32_in x ⟨h1,h2⟩
theorem Gc{k:IntKind}{a:Nat}(h:a<2^k.bits):(BitVec.ofInt k.bits (a:Int)).toNat=a:=by rw[BitVec.toNat_ofInt];have:((a:Int)%((2^k.bits:Nat):Int))=((a%2^k.bits:Nat):Int):=(Int.natCast_emod _ _).symm;rw[this,Nat.mod_eq_of_lt h];rfl
theorem afY{k:IntKind}{r:Nat}(h:r<2^IntKind.up k):wr k (r:Int)=r:=acB h
theorem VR(k:IntKind){r:Nat}(h:r<2^IntKind.up k):r<2^k.bits:=Nat.lt_of_lt_of_le h (Nat.pow_le_pow_right (by decide) (aez k))
theorem abE{k:IntKind}{a b:Nat}(ha:a<2^IntKind.up k)(hb:b<2^IntKind.up k):lV k a b=((a&&& b:Nat):Int):=by unfold lV;rw[BitVec.toNat_and,Gc (VR k ha),Gc (VR k hb)];exact afY (Nat.lt_of_le_of_lt Nat.and_le_left ha)
theorem abF{k:IntKind}{a:Int}(m:Nat){b:Int}(h0:0<=a)(ha:a<((2^IntKind.up k:Nat):Int))(hb:b=((2^m-1:Nat):Int))(hm:2^m-1<2^IntKind.up k):lV k a b=a%((2^m:Nat):Int):=by obtain⟨x,rfl⟩:=Int.eq_ofNat_of_zero_le h0;subst hb;rw[abE (by exact_mod_cast ha) hm,Nat.and_two_pow_sub_one_eq_mod];exact Int.natCast_emod _ _
theorem Qm{k:IntKind}{a:Int}(m:Nat){b:Int}(hb:b=(m:Int))(hm:m<=k.bits):Fw k a b=a/((2^m:Nat):Int):=by subst hb;unfold Fw;rw[aoZ,Nat.min_eq_left hm,Int.fdiv_eq_ediv_of_nonneg _ (Int.pow_nonneg (by decide))];congr 1
theorem YV{k:IntKind}{a:Int}(m:Nat){b:Int}(hb:b=(m:Int))(hm:m<=k.bits):KI k a b=wr k (a*((2^m:Nat):Int)):=by subst hb;unfold KI wr;rw[aoZ,Nat.min_eq_left hm];congr 2
theorem KF{a b:Int}(h:0<=a):Int.tmod a b=a%b:=Int.tmod_eq_emod_of_nonneg h
theorem Qg{a b:Int}(h:0<=a):Int.tdiv a b=a/b:=Int.tdiv_eq_ediv_of_nonneg h
theorem bK{i:Int}{n:Nat}(h0:0<=i)(h1:i<(n:Int)):bQ i n=true:=by simp[bQ,h0,h1]
theorem eM{n m b:Nat}(h:(n+m)*b<=140737488355328)(h2:n+m<=9223372036854775807):gw n m b=true:=by simp[gw,h,h2]
theorem pq{α:Type}(f:Nat->α)(i:Nat)(v:α):dm f i v i=v:=by simp[dm]
theorem jo{α:Type}(f:Nat->α){i j:Nat}(v:α)(h:j≠i):dm f i v j=f j:=by simp[dm,h]
theorem bI{α:Type}(f:Nat->α)(i j:Nat)(v:α):dm f i v j=if j=i then v else f j:=rfl
section
variable {α ρ:Type}
theorem ah{m:Option α}{x:α}{f:α->Option ρ}(h:m=some x):bd m f=f x:=by subst h;rfl
theorem aJ(a:α)(f:α->Option ρ):lt a f=f a:=rfl
theorem ax{b:Bool}{k:Option ρ}(h:b=true):gu b k=k:=by subst h;rfl
theorem ak{b:Bool}{x y:Option ρ}(h:b=true):cn b x y=x:=by subst h;rfl
theorem ae{b:Bool}{x y:Option ρ}(h:b=false):cn b x y=y:=by subst h;rfl
theorem uj{g:Bool}{m:Option α}{z x:α}{f:α->Option ρ}(h:g=true)(hm:m=some x):cl g m z f=f x:=by subst h;subst hm;rfl
theorem F9{g:Bool}{m:Option α}{z:α}{f:α->Option ρ}(h:g=false):cl g m z f=f z:=by subst h;rfl
theorem alN{m:Option α}{z x:α}{f:α->Option ρ}(hm:m=some x):cl (true==true) m z f=f x:=by subst hm;rfl
theorem NF{m:Option α}{z:α}{f:α->Option ρ}:cl (false==true) m z f=f z:=rfl
theorem cK{g:Bool}{m:Option α}{z x:α}{f:α->Option ρ}(hm:m=some x):cl g m z f=f (bif g then x else z):=by subst hm;cases g<;>rfl
end
end Go.Bw
namespace Go.Bw
open Go Go.RowKit
section
variable {α:Type} {P:Program} {N:Nat} {c:Cx} {F:gp} {H:List aO} {d:Option Tmp} {ty:TypeId} {ps:String} {af:Array Edge} {g:Option (Nat×Bool)}
theorem Y5(L:dB α)[bR L](z0:α){z:Value}(he:L.enc z0=[z])(m:Nat):fQ L (List.replicate m z0)=List.replicate m z:=Hg L z0 he m
theorem aiY{x y:Operand}{t e m:Nat}{k k':IntKind}{z:Value}{L:dB α}[bR L](z0:α)[ht:zo P t e 1][hz:ke P e [z]](he:L.enc z0=[z])(hx:ev F x=some (.int k (m:Int)))(hy:ev F y=some (.int k' (m:Int)))(bytes:Nat)(hb:(P.info? e).map (·.bytes)=some bytes)(hm:m*bytes<=140737488355328)(hm2:m<=140737488355328):
  RX P N c ⟨d, .makeSlice t x y,ty,ps,af,g⟩ F H (λ_ =>True) (λb=> .slice (some ⟨b,0,none⟩) m m) (λb=>nr (.slice (some ⟨b,0,none⟩) m m) e 1 L (List.replicate m z0)::H):=λD a w next Q hst hk=>by
 obtain⟨i,h1,h2,h3⟩:=zo.get ht.ok;obtain⟨i',zz,h4,h5,h6⟩:=ke.get hz.ok;rw[h2]at h4;cases h4;have hby:i.bytes=bytes:=by simpa[h2]using hb
 have QZ:zz.cells= #[z]:=by apply Array.ext';rw[h6]
 refine gS (by simp) (v:= .slice (some ⟨w.heap.size,0,none⟩) m m) (w':=w.alloc (.cells (List.replicate m z).toArray e)) ?_ (hk w.heap.size _ trivial (hst.si.ext (bG.alloc _ _)) ?_)
 ·have w1:IntKind.i64.wrap (m:Int)=m:=aL (by omega) (by omega)
  have hcells:(Array.range (m*1)).map (λq=>(#[z]:Array Value)[q%(#[z]:Array Value).size]!)=(List.replicate m z).toArray:=by
   apply Array.ext
   ·simp
   ·intro j h1 h2;simp[Nat.mod_one]
  have c1:¬((m:Int)<0):=by omega
  have c2:¬(((bytes:Int)*m)>2^48):=by
   have:(bytes:Int)*m=((m*bytes:Nat):Int):=by push_cast;rw[Int.mul_comm]
   rw[this];omega
  have c3:¬(m*bytes>roomBytes):=by
   have:roomBytes=140737488355328:=by rfl
   omega
  have a1:∀(k:IntKind) (w:World),(asInt (.int k (m:Int))).run P w= .ok (m:Int) w:=λk w=>by simp[asInt,asIntOf,Sem.run]
  simp only[execOp,Instr.makeSlice,Sem.run_bind,run_underlying h1,Result.andThen_ok,bz hst.fr hx,bz hst.fr hy,a1,Sem.run_pure,typeInfo,sizeOf,w1];have c4:¬(281474976710656<(bytes:Int)*m):=by simpa using c2
  have ad5:Array.map (λx=>([z]:List Value)[x%1]?.getD default) (Array.range m)=Array.replicate m z:=by
   apply Array.ext
   ·simp
   ·intro j h1 h2;simp[Nat.mod_one]
  by_cases hm0:m=0
  ·subst hm0
   simp[h2,h3,hby,w1,askRoom,c3,newRow,newObj,Sem.run];congr 2;apply Array.ext
   ·simp
   ·intro j h1 h2;simp at h2
  ·simp[h2,h3,hby,w1,askRoom,c3,hm0,zeroValue,typeInfo,h5,QZ,newRow,newObj,Sem.run]
   rw[aoV (by rintro((h|h)|h);exact c1 h;exact c4 h;exact c1 h),ad5]
 ·have:=hst.hp.box e (List.replicate m z) hst.si.size
  refine this.MD (k:=0) (r:= .cells w.heap.size e (List.replicate m z)) rfl (λw' hw=>?_) (λb hb=>by simpa[aO.eL,Value.ownBlock]using hb);have hb:w'.heap[w.heap.size]? =some (.cells (List.replicate m z).toArray e (0,0)):=hw;have e1:=Y5 L z0 he m;refine⟨by rw[e1];simp, .inr ⟨w.heap.size,m,_,by simp,Nat.zero_le _,hb,by simp,by unfold maxLen;omega,by simp,?_⟩⟩;rw[e1];simp
theorem SE(L:dB α)[bR L](hn:L.n=1)(xs:List α)(m:Nat):fQ L (xs.take m)=(fQ L xs).take m:=by
 by_cases h:m<=xs.length
 ·have:=Nb L xs (m:=m) hn h
  rw[Nat.mul_one]at this;exact this.symm
 ·rw[List.take_of_length_le (by omega),List.take_of_length_le (by rw[qB,hn];omega)]
theorem SG(L:dB α)[bR L](hn:L.n=1)(xs:List α)(m:Nat):fQ L (xs.drop m)=(fQ L xs).drop m:=by
 have e:fQ L xs=fQ L (xs.take m)++fQ L (xs.drop m):=by rw[← uJ,List.take_append_drop]
 by_cases h:m<=xs.length
 ·have hl:(fQ L (xs.take m)).length=m:=by rw[qB,hn,List.length_take];omega
  have e2:=congrArg (List.drop m) e;rw[List.drop_left' hl]at e2;exact e2.symm
 ·rw[List.drop_of_length_le (by omega),List.drop_of_length_le (by rw[qB,hn];omega)];rfl
theorem ach{x y:Operand}{t t' e:TypeId}{v u:Value}{L:dB α}[bR L]{xs ys:List α}{A:World->Prop}{f:aO->List aO}(hf:Fz A u L ys)(hn:L.n=1)(ht:NH P t e 1=true)(hv:∃b cap,v= .slice (some ⟨b,0,none⟩) xs.length cap)(hx:ev F x=some v)(hy:ev F y=some u)[hr:xH H v e 1 xs.length (fQ L xs) f][hk:Kn c H A]:
  RX (α:=Unit) P N c ⟨d, .call ⟨.builtin .copy, #[x,y], #[t,t']⟩,ty,ps,af,g⟩ F H (λ_ =>True) (λ_ => .int .i64 (min ys.length xs.length:Nat)) (λ_ =>f (nr v e 1 L (ys.take xs.length++xs.drop ys.length))):=λD a w next Q hst XP=>by
 obtain⟨inf,e1,e2,e3⟩:=zo.get ht;obtain⟨k,k1,k2⟩:=hr.ok;obtain⟨b,cap,rfl⟩:=hv;have hm:aO.row (.slice (some ⟨b,0,none⟩) xs.length cap) e 1 xs.length (fQ L xs)∈H:=List.mem_of_getElem? k1;obtain⟨r1,r2⟩:=hst.hp.holds _ hm;rcases r2 with⟨h,_⟩|⟨b',cap',cur,h,_,hb,hle,W9,hsz,IW⟩
 ·cases h
 cases h;have hro:=hf.ro w (hk.ok w hst.si hst.hp);rw[hn]at hro;have hX:(fQ L xs).length=xs.length:=by rw[qB,hn,Nat.mul_one]
 have hY:(fQ L ys).length=ys.length:=by rw[qB,hn,Nat.mul_one]
 let cs:=(fQ L ys).take xs.length;have uP:cs.length=min ys.length xs.length:=by simp only[cs,List.length_take,hY];omega
 have h1:∀v∈cs,v.oneCell'=true:=λv hv=>Qp L ys v (List.take_subset _ _ hv);have hcs:cur.size=cap:=by omega
 let Z:=(cur.toList.take 0++cs++cur.toList.drop (0+cs.length)).toArray;have hrun:(Builtin.copy_ #[t,t'] ty #[.slice (some ⟨b,0,none⟩) xs.length cap,u]).run P w= .ok (goInt cs.length) (w.setRow b Z):=by
  rcases hro.2 with⟨⟨a0,cp,rfl⟩,h0⟩|⟨gb,off,cp,rfl,_,_,hrd⟩
  ·have hy0:ys=[]:=List.length_eq_zero_iff.1 h0
   have hc0:cs=[]:=List.length_eq_zero_iff.1 (by rw[uP,h0];simp);cases a0 with
   |some a0=>exact run_copy_row (P:=P) w t t' ty e b 0 xs.length cap a0 0 cp cur e cs e1 (by simp[e2,e3]) hb (by rw[uP,h0]) (λj v hj=>by rw[hc0]at hj;cases hj) (by rw[hc0];simp) h1
   |none=>have O5:=run_storeCells_at P b 0 e cs 0 cur w hb (by rw[hc0];simp) h1;have hi:inf.size=1:=e3;simp only[Z];rw[hc0]at O5 ⊢;simp[Builtin.copy_,run_underlying e1,Builtin.lenOf,Builtin.firstCells,sizeOf,typeInfo,e2,hi]at O5 ⊢;simp[O5]
  ·exact run_copy_row (P:=P) w t t' ty e b 0 xs.length cap ⟨gb,off,none⟩ ys.length cp cur e cs e1 (by simp[e2,e3]) hb (by rw[uP]) (λj v hj=>by
    simp only[cs,List.getElem?_take]at hj;split at hj
    ·rw[Addr.add_lit];exact hrd j v hj
    ·cases hj) (by rw[uP];omega) h1
 have qI:bG [b] w (w.setRow b Z):=⟨rfl,rfl,rfl,by simp,λk _ hk=>setRow_other w b k _ (by simpa using hk)⟩;have hh:=setRow_heap w b cur Z e (0,0) hb;refine gS (by simp) (v:= .int .i64 (min ys.length xs.length:Nat)) (w':=w.setRow b Z) ?_ (XP () _ trivial (hst.si.store hst.hp hm (by simp[aO.eL,Value.ownBlock]) qI) ?_)
 ·rw[uP]at hrun
  simp[execOp,resolve,invoke,builtin,bz hst.fr hx,bz hst.fr hy,hrun];rfl
 ·rw[k2]
  have e4:fQ L (ys.take xs.length++xs.drop ys.length)=cs++(fQ L xs).drop ys.length:=by rw[uJ,SE L hn,SG L hn]
  have e5:(ys.take xs.length++xs.drop ys.length).length=xs.length:=by simp only[List.length_append,List.length_take,List.length_drop];omega
  refine hst.hp.set k1 qI.size (λj hj hne=>qI.block j hj (by simpa[aO.eL,Value.ownBlock]using hne)) ?_ hst.si.size (λb' hb'=>?_)
  ·show World.ownsRow _ 0 e 1 _ _ _
   rw[e4,e5];refine⟨by simp only[List.length_append,List.length_drop,uP,hX];omega, .inr ⟨b,cap,Z,rfl,Nat.zero_le _,hh,hle,W9,?_,?_⟩⟩
   ·simp only[Z,List.size_toArray,List.length_append,List.length_take,List.length_drop,Array.length_toList,uP];omega
   ·simp only[Z,List.take_zero,List.nil_append,Nat.zero_add,Nat.mul_one]
    rw[Nat.mul_one]at IW;rw[← IW,List.take_append,List.take_of_length_le (by rw[uP];omega),uP,List.take_drop];congr 1;by_cases hq:ys.length<=xs.length
    ·rw[Nat.min_eq_left hq,List.drop_take,List.take_drop]
     congr 2;omega
    ·rw[Nat.min_eq_right (by omega),Nat.sub_self,Nat.add_zero,List.drop_of_length_le (by simp;omega),List.drop_of_length_le (by simp;omega)]
  ·have e6:b'=b:=by simpa[aO.eL,Value.ownBlock]using hb'
   subst e6;exact⟨.inl (by simp[aO.eL,Value.ownBlock]),Nat.lt_of_lt_of_le (ao2.1 hb).1 qI.size⟩
end
end Go.Bw
namespace Go.Rw
open Go Go.Bw Go.RowKit
variable {G:Sg} {P:Program} {tt:TT P G} {zt:ZT P G} {J:World->Prop} {ρ:bT} {a:Act} {w:World} {d:Option Tmp} {ty:TypeId} {ps:String} {af:Array Edge} {g:Option (Nat×Bool)}
 {N:Nat} {c:Cx} {H HK X:List aO} {C:CC G} {S:AS G} {D:List Deferred} {E:Operand->Option (AV G)}
def VH(P:Program)(e:Nat)(k:IntKind):Bool:=match(P.info? e).bind (·.zero)with
 |some (.int k' n)=>Nat.beq (Ty.cQ.ik k') (Ty.cQ.ik k)&&n==0
 |_ =>false
theorem agi{T e bt s:Nat}{k ki:IntKind}{i z0:Int}{q:Bool}(hT:tt.te.find T=some (.sl e 1 bt))(hz:zt.z.find e=some (.int k z0))(hx:s7 (mK C S [] (.tmp s))=some (ki,i,q))(hg:decide (0<=i)=true)(ha:gw 0 i.toNat bt=true)(hbt:0<bt):
  SK P ⟨d, .makeSlice T (.tmp s) (.tmp s),ty,ps,af,g⟩ C S {S with O:=(S.nx, .row e 1 (.int k) (List.replicate i.toNat z0))::S.O,nx:=S.nx+1} (.row S.nx):=by
 intro c N ρ J HK X a w next Q h hk
 obtain⟨HS,h1,hs0,hm⟩:=h.st;have hE:=gk h (ch:=[]) (by simp);have fx:=vz hE hx;obtain⟨u,z1,z2⟩:=zt.ok e _ hz J ρ;have z2:[u]=[Value.int k z0]:=z2;cases z2;haveI:ke P e [Value.int k z0]:=⟨z1⟩;haveI:=(tt.sl hT).1;obtain⟨m,rfl⟩:∃m:Nat,i=m:=⟨i.toNat,by have:=of_decide_eq_true hg;omega⟩;obtain⟨g1,g2⟩:=kU ha;have hb:(P.info? e).map (·.bytes)=some bt:=by obtain⟨i,z,e1,e2,e3,e4,e5,e6,e7⟩:=PF.get (tt.sl hT).2.ok;rw[e2];simp[e5]
 simp only[aoZ,Nat.zero_add]at g1 g2 ⊢;refine aiY (P:=P) (N:=N) (c:=c) (F:=sI a) (H:=HS++(HK++X)) (m:=m) (L:=LI k) z0 rfl fx fx bt hb g1 (by have:=Nat.le_mul_of_pos_right m hbt;omega) a.defers a w next Q hs0 λb w' _ hs hp=>?_
 obtain⟨ρ',q1,q2,q3⟩:=FD (t:= .int k) (zs:=List.replicate m z0) h h1 hs hp ⟨some ⟨b,0,none⟩,m,congrArg (λn=>Value.slice (some ⟨b,0,none⟩) n m) (List.length_replicate (n:=m) (a:=z0)).symm⟩ (show(LA (LI k) _).eZ J _ _ from bR.iff.2 (jz (LI k) (List.replicate m z0))) rfl;exact hk ρ' J [] w' _ q1 (λ_ h=>h) q2 q3
theorem aet{t:Ty}{l:LS G}{ys:List (t.T G)}(h:LF l.xs=some ys):l=⟨t,ys⟩:=by obtain⟨t',l'⟩:=l;obtain⟨rfl,rfl⟩:=VM h;rfl
theorem On{w:World}{t t' ty e:Nat}{inf:TypeInfo}{u:Value}{n:Nat}(e1:P.underlying t=some (.slice e))(e2:P.info? e=some inf)(hu:wv u n):(Builtin.copy_ #[t,t'] ty #[.slice none 0 0,u]).run P w= .ok (.int .i64 0) w:=by
 obtain⟨a,cp,rfl⟩:=hu;cases a<;>simp[Builtin.copy_,run_underlying e1,Builtin.lenOf,Builtin.firstCells,sizeOf,typeInfo,e2,loadCells,Sem.run]
 all_goals rfl
theorem acS{T T' e bt r:Nat}{x y:Operand}{vy:AV G}{k:IntKind}{xs ys:List (Ty.T G (.int k))}{l:LS G}(hT:tt.te.find T=some (.sl e 1 bt))(hx:mK C S [] x=some (.row r))(hy:mK C S [] y=some vy)(ho:ga S.O r=some (.row e 1 (.int k) xs))(hl:lsA C S vy=some l)(hc:LF (t:= .int k) l.xs=some ys):
  SK P ⟨d, .call ⟨.builtin .copy, #[x,y], #[T,T']⟩,ty,ps,af,g⟩ C S {S with O:=yA S.O r (.row e 1 (.int k) (ys.take xs.length++xs.drop ys.length))} (.int .i64 ((min ys.length xs.length:Nat):Int)):=by
 intro c N ρ J HK X a w next Q h hk
 obtain⟨HS,h1,hs0,hm⟩:=h.st;have hE:=gk h (ch:=[]) (by simp);obtain⟨kk,x0,k1,⟨vv,ws,m1,rfl,m3,m4,m5⟩,k3⟩:=h1.set ho;obtain rfl:=aet hc;obtain⟨news,n1,n2,n3⟩:=Tf hm hl (hE.ok _ _ hy);have hvx:=xY (hE.ok _ _ hx) m1;have HD:=hE.ev _ _ hx;rw[hvx]at HD;have hws:ws=fQ (LI k) xs:=(bR.iff.1 (show(LA (LI k) xs.length).eZ J ws _ from m4)).trans (jz (LI k) xs).symm;have hnews:news=fQ (LI k) ys:=(bR.iff.1 (show(LA (LI k) ys.length).eZ J news _ from n2)).trans (jz (LI k) (ys:List Int)).symm;subst hws;subst hnews;have XQ:=z7 (m:=HK++X) k1;have hown:w.ownsRow 0 e 1 vv xs.length (fQ (LI k) xs):=hs0.hp.holds _ (List.mem_of_getElem? XQ);have done:∀w',bG c.bs c.w0 w'->cC c.bs c.w0.heap.size ((HS++(HK++X)).set kk (.row vv e 1 (ys.take xs.length++xs.drop ys.length).length (fQ (LI k) (ys.take xs.length++xs.drop ys.length)))) w'->next (a.put d (.int .i64 ((min ys.length xs.length:Nat):Int))) w':=λw' hs hp=>by
  rw[Fx k1]at hp;refine hk ρ J [] w' _ (bT.gL _ _) (λ_ h=>h) rfl (h.MD (k3 _ _ ?_) hs hp);refine⟨vv,_,m1,rfl,?_,show(LA (LI k) _).eZ J _ _ from bR.iff.2 (jz (LI k) _),rfl⟩;have:(ys.take xs.length++xs.drop ys.length).length=xs.length:=by simp only[List.length_append,List.length_take,List.length_drop];omega
  rw[this];exact m3
 haveI:xH (HS++(HK++X)) vv e 1 xs.length (fQ (LI k) xs) ((HS++(HK++X)).set kk):=⟨kk,XQ,λ_ =>rfl⟩;rcases hown.2 with⟨hv,h0⟩|⟨b,cap,cur,hv,_⟩
 ·subst hv
  have hx0:xs=[]:=List.length_eq_zero_iff.1 h0;subst hx0;obtain⟨inf,e1,e2,e3⟩:=zo.get (tt.sl hT).1.ok;refine gS (by simp) (v:= .int .i64 ((min ys.length 0:Nat):Int)) (w':=w) ?_ (done w hs0.si ?_)
  ·have:=On (P:=P) (w:=w) (t':=T') (ty:=ty) e1 e2 n3
   simp[execOp,resolve,invoke,builtin,bz hs0.fr HD,this]
  ·refine hs0.hp.MD XQ (λw hw=>?_) (λb hb=>?_)
   ·simpa using hw
   ·simpa using hb
 ·have hF:Fz (λw=>Ro w (a.eval y) 1 ys.length (fQ (LI k) ys)) (a.eval y) (LI k) ys:=⟨n3,λ_ h=>h⟩
  haveI:Kn c (HS++(HK++X)) (λw=>Ro w (a.eval y) 1 ys.length (fQ (LI k) ys)):=⟨λw' h1 h2=>n1.ro w' h1 h2⟩;exact ach (t':=T') (ty:=ty) (ps:=ps) (af:=af) (g:=g) (d:=d) hF rfl (tt.sl hT).1.ok ⟨b,cap,hv⟩ HD (hE.ev _ _ hy) a.defers a w next Q hs0 λ_ w' _ hs hp=>done w' hs hp
end Go.Rw
namespace Go.Bw
open Go Go.RowKit
def Apt(H:List aO)(w w':World):Prop:=w.heap.size<=w'.heap.size/\∀b,b<w.heap.size->b∉cm H->w'.heap[b]? =w.heap[b]?
theorem Xx{P:Program}{N:Nat}{c:Cx}{D:List Deferred}{Q:Exit->Act->World->Prop}{H:List aO}{g:Operand}{ps:List Nat}{assign body:Code}
  {gf n:Nat}{caps:Array Value}{Hc Ho:List aO}{xP:Nat->List Value}{α β:Type}
  {a:Act}{w:World}(hst:St N c D [] H a w)(hro:c.ro=none)(hg:a.eval g= .func (.func gf) #[] caps)(hen:∀args w,(callFunc gf args).run P w= .ok (.enter gf args) w)
  (hit:∀(ly:Nat) (J:Nat->List Nat->World->Prop) (Jx:List Nat->World->Prop) (bs:List Nat) (W1:World),Apt H w W1->(∀b∈bs,b∈cm H\/w.heap.size<=b)->cC (bs++cm Hc) W1.heap.size (.ext bs (J 0 bs)::Hc) W1->Rnd P ly (bs++cm Hc) W1 J Jx xP n->
   Calls P gf (.func (.yield ly) #[] #[]::caps.toList).toArray W1 λe w'=>∃x:Bool×List Nat,e= .returned (.tuple #[])/\bG (bs++cm Hc) W1 w'/\cC (bs++cm Hc) W1.heap.size (.ext x.2 (bif x.1 then J n x.2 else Jx x.2)::Ho) w')(hlen:∀k,(xP k).length=ps.length)(hps:ps.all (Nat.blt · N)=true)
  (p:Nat->α->Prop)(I:Nat->α->List aO)(px:Code->β->Prop)(X:β->List aO)(i0:α)(W8:p 0 i0)(hH:H=Hc++I 0 i0)
  (hbody:∀(k:Nat) (i:α) (rec:Loop) (bs:List Nat) (W:World),k<n->p k i->rec.state= .ready->rec.pending=none->c.w0.heap.size<=W.heap.size->
   (∀b,(b∈bs\/W.heap.size<=b)->(b∈c.bs\/c.w0.heap.size<=b))->Apt H w W->cC bs W.heap.size (.obj w.heap.size (.deferred (some [])):: .obj (w.heap.size+1) (.loop rec)::I k i) W->
   assign.wpIn (FA (some (w.heap.size+1))) 0 P (aiX P (w.heap.size+1) body (acd ⟨some (w.heap.size+1),W,bs⟩ (JW c.w0.heap.size c.bs (p (k+1)) (λi=> .obj w.heap.size (.deferred (some [])):: .obj (w.heap.size+1) (.loop rec)::I (k+1) i))
    (JW c.w0.heap.size c.bs (λq:Code×β=>px q.1 q.2) (λq=> .obj w.heap.size (.deferred (some [])):: .obj (w.heap.size+1) (.loop {rec with state:= .done,pending:=some q.1})::X q.2))))
    {tmps:=(ps.zip (xP k)).foldl (λt q=>t.setIfInBounds q.1 q.2) a.tmps,defers:=[]} W)
  (hdone:∀i w2,p n i->Apt H w w2->St N c (mark w.heap.size::D) [] (.obj w.heap.size (.deferred (some []))::(Ho++I n i)) {a with defers:=mark w.heap.size::a.defers} w2->Q .normal {a with defers:=mark w.heap.size::a.defers} w2)
  (ak7:∀j i w2,px j i->Apt H w w2->St N c (mark w.heap.size::D) [] (.obj w.heap.size (.deferred (some []))::(Ho++X i)) {a with defers:=mark w.heap.size::a.defers} w2->j.wpIn (FA c.ro) 0 P Q {a with defers:=mark w.heap.size::a.defers} w2):
  (Code.rangeFunc g ps.toArray assign body).wpIn (FA c.ro) 0 P Q a w:=by
 refine wpIn_rangeFunc λfn _ =>?_;have HE:(FA c.ro).round=none:=hro;rw[HE];obtain⟨rec,dy⟩:∃rec:Loop,rec={state:= .ready,pending:=none,fn,tmps:=a.tmps,params:=ps.toArray,assign,body,defers:=w.heap.size}:=⟨_,rfl⟩;obtain⟨W1,hW1⟩:∃W1,(w.alloc (.deferred (some []))).alloc (.loop rec)=W1:=⟨_,rfl⟩;have hs1:bG [] w W1:=by rw[← hW1];exact(bG.alloc w _).ext (bG.alloc _ _)
 have aoF:W1.heap.size=w.heap.size+2:=by rw[← hW1];simp
 have hL1:W1.heap[w.heap.size+1]? =some (.loop rec):=by rw[← hW1];have:=World.alloc_heap_new (w.alloc (.deferred (some []))) (.loop rec);rwa[World.size_alloc]at this
 have hK1:W1.heap[w.heap.size]? =some (.deferred (some [])):=by rw[← hW1];exact(Below.heap_alloc _ _ _ (by simp)).trans (World.alloc_heap_new w _)
 have hev:=hg;have hfr:=hst.fr;let J:Nat->List Nat->World->Prop:=λk=>JW c.w0.heap.size c.bs (p k) (λi=> .obj w.heap.size (.deferred (some [])):: .obj (w.heap.size+1) (.loop rec)::I k i);let Jx:List Nat->World->Prop:=JW c.w0.heap.size c.bs (λq:Code×β=>px q.1 q.2) (λq=> .obj w.heap.size (.deferred (some [])):: .obj (w.heap.size+1) (.loop {rec with state:= .done,pending:=some q.1})::X q.2);have ak2:cC c.bs c.w0.heap.size (Hc++I 0 i0) W1:=by rw[← hH];exact hst.hp.ext hs1
 have hH1:cC c.bs c.w0.heap.size (.obj w.heap.size (.deferred (some [])):: .obj (w.heap.size+1) (.loop rec)::(Hc++I 0 i0)) W1:=by
  have hlt:∀s∈Hc++I 0 i0,∀b∈s.eL,b<w.heap.size:=λs hs b hb=>by
   have hm:s∈H:=by rw[hH];exact hs
   exact(hst.hp.own s hm b hb).2
  have aoE:=hst.si.size;refine cC.cons (cC.cons ak2 hL1 ?_ ?_) hK1 ?_ ?_
  ·intro b hb;have e:b=w.heap.size+1:=by simpa[aO.eL]using hb
   subst e;exact⟨.inr (by omega),by omega⟩
  ·intro s hs b hb qJ
   have e:b=w.heap.size+1:=by simpa[aO.eL]using hb
   have:=hlt s hs b qJ;omega
  ·intro b hb;have e:b=w.heap.size:=by simpa[aO.eL]using hb
   subst e;exact⟨.inr (by omega),by omega⟩
  ·intro s hs b hb qJ
   have e:b=w.heap.size:=by simpa[aO.eL]using hb
   rcases List.mem_cons.1 hs with rfl|hs
   ·have e2:b=w.heap.size+1:=by simpa[aO.eL]using qJ
    omega
   ·have:=hlt s hs b qJ;omega
 let I0:List aO:= .obj w.heap.size (.deferred (some [])):: .obj (w.heap.size+1) (.loop rec)::I 0 i0;have hHI:cC c.bs c.w0.heap.size I0 W1:=hH1.sub (by
  refine List.Sublist.cons_cons _ (List.Sublist.cons_cons _ (List.sublist_append_right _ _)))
 have hHc:cC c.bs c.w0.heap.size Hc W1:=hH1.sub (by
  refine List.Sublist.cons _ (List.Sublist.cons _ (List.sublist_append_left _ _)))
 have hap:∀r∈I0,∀s∈Hc,r.apart s:=by
  intro r hr s hs;have hpw:=hH1.apart;rw[List.pairwise_cons,List.pairwise_cons,List.pairwise_append]at hpw;obtain⟨q1,q2,_,_,q3⟩:=hpw;rcases List.mem_cons.1 hr with rfl|hr
  ·exact q1 s (by simp[hs])
  ·rcases List.mem_cons.1 hr with rfl|hr
   ·exact q2 s (by simp[hs])
   ·exact aO.xF (q3 s hs r hr)
 refine⟨w.heap.size+1,[mark w.heap.size],W1,{target:= .fn (.func gf) caps,args:= #[.func (.yield (w.heap.size+1)) #[] #[]]},W1,gf,
  (Value.func (.yield (w.heap.size+1)) #[] #[]::caps.toList).toArray,W1,?_,?_,λ_ _ =>trivial,?_,λh=>by simp at h,?_⟩
 ·rw[← hW1,dy];exact run_enterLoop_outer _ _ _ _ _
 ·simp only[resolve,hev]
  simp[go_sem]
 ·have:=hen (#[.func (.yield (w.heap.size+1)) #[] #[]]++caps) W1
  simp only[invoke];rw[this];congr 2;simp
 ·have hin:cC (cm I0++cm Hc) W1.heap.size (aO.ext (cm I0) (J 0 (cm I0))::Hc) W1:=by
   refine⟨?_,?_,?_⟩
   ·intro r hr
    rcases List.mem_cons.1 hr with rfl|hr
    ·exact Ui (I:=λi=> .obj w.heap.size (.deferred (some [])):: .obj (w.heap.size+1) (.loop rec)::I 0 i) i0 W8 hHI
    ·exact hHc.holds r hr
   ·intro r hr b hb
    rcases List.mem_cons.1 hr with rfl|hr
    ·obtain⟨s,hs,qJ⟩:=bN.1 hb
     exact⟨.inl (ao1 _ hb),(hHI.own s hs b qJ).2⟩
    ·exact⟨.inl (ao0 _ (bN.2 ⟨r,hr,hb⟩)),(hHc.own r hr b hb).2⟩
   ·refine List.pairwise_cons.2 ⟨λs hs b hb qJ=>?_,hHc.apart⟩
    obtain⟨r,hr,MK⟩:=bN.1 hb;exact hap r hr s hs b MK qJ
  have aaA:∀b∈cm I0++cm Hc,b∈c.bs\/c.w0.heap.size<=b:=λb hb=>by
   rcases List.mem_append.1 hb with h|h
   ·obtain⟨r,hr,MK⟩:=bN.1 h;exact(hHI.own r hr b MK).1
   ·obtain⟨r,hr,MK⟩:=bN.1 h;exact(hHc.own r hr b MK).1
  have ahp:bG c.bs c.w0 W1:=hst.si.ext hs1;have ahG:∀w',bG (cm I0++cm Hc) W1 w'->Apt H w w':=λw' hs=>⟨by have:=hs.size;omega,λb hb hnb=>by
   have h1:b∉cm I0++cm Hc:=λhm=>hnb (by
    rw[hH];rcases List.mem_append.1 hm with hm|hm
    ·obtain⟨r,hr,MK⟩:=bN.1 hm
     rcases List.mem_cons.1 hr with rfl|hr
     ·have e:b=w.heap.size:=by simpa[aO.eL]using MK
      omega
     ·rcases List.mem_cons.1 hr with rfl|hr
      ·have e:b=w.heap.size+1:=by simpa[aO.eL]using MK
       omega
      ·exact bN.2 ⟨r,ao0 _ hr,MK⟩
    ·obtain⟨r,hr,MK⟩:=bN.1 hm
     exact bN.2 ⟨r,ao1 _ hr,MK⟩)
   rw[hs.block b (by omega) h1];exact hs1.block b hb (by simp)⟩
  have hbI:∀b∈cm I0,b∈cm H\/w.heap.size<=b:=λb hm=>by
   obtain⟨r,hr,MK⟩:=bN.1 hm;rcases List.mem_cons.1 hr with rfl|hr
   ·have e:b=w.heap.size:=by simpa[aO.eL]using MK
    exact .inr (by omega)
   ·rcases List.mem_cons.1 hr with rfl|hr
    ·have e:b=w.heap.size+1:=by simpa[aO.eL]using MK
     exact .inr (by omega)
    ·exact .inl (by rw[hH];exact bN.2 ⟨r,ao0 _ hr,MK⟩)
  have ahD:=hit (w.heap.size+1) J Jx (cm I0) W1 (ahG W1 (bG.refl _ _)) hbI hin ?_
  ·refine ot c.ro ?_
   intro cs;obtain⟨e,w2,fr,⟨x,he,akV,hh2⟩,ahm,AY⟩:=ahD cs;refine⟨e,w2,fr,?_,ahm,AY⟩;subst he;obtain⟨go,bs'⟩:=x;have akU:bG c.bs c.w0 w2:=ahp.trans akV aaA;have hex:=hh2.holds _ (List.mem_cons_self);have an3:∀r∈Ho,r.holds w2:=λr hr=>hh2.holds r (ao6 _ hr);have an2:∀s∈Ho,∀b∈bs',b∉s.eL:=λs hs b hb=>by have:=hh2.apart;rw[List.pairwise_cons]at this;exact this.1 s hs b hb
   have both:∀(IL:List aO) (jump:Option Code) (st:LoopState),st≠ .busy->bs'=cm (.obj w.heap.size (.deferred (some [])):: .obj (w.heap.size+1) (.loop {rec with state:=st,pending:=jump})::IL)->
     cC c.bs c.w0.heap.size (.obj w.heap.size (.deferred (some [])):: .obj (w.heap.size+1) (.loop {rec with state:=st,pending:=jump})::IL) w2->
     ∃w4,(Instr.endLoop (w.heap.size+1)).run P w2= .ok jump w4/\Apt H w w4/\St N c (mark w.heap.size::D) [] (.obj w.heap.size (.deferred (some []))::(Ho++IL)) {a with defers:=mark w.heap.size::a.defers} w4:=by
    intro IL jump st ahn qJ hI;have hl:w2.heap[w.heap.size+1]? =some (.loop {rec with state:=st,pending:=jump}):=hI.holds (.obj (w.heap.size+1) _) (by simp);have xq:cC c.bs c.w0.heap.size (.obj w.heap.size (.deferred (some [])):: .obj (w.heap.size+1) (.loop {rec with state:=st,pending:=jump})::(Ho++IL)) w2:=by
     have hq:=hI.apart;rw[List.pairwise_cons,List.pairwise_cons]at hq;refine⟨?_,?_,?_⟩
     ·intro r hr
      rcases List.mem_cons.1 hr with rfl|hr
      ·exact hI.holds _ (by simp)
      ·rcases List.mem_cons.1 hr with rfl|hr
       ·exact hI.holds _ (by simp)
       ·rcases List.mem_append.1 hr with h|h
        ·exact an3 r h
        ·exact hI.holds r (by simp[h])
     ·intro r hr b hb
      rcases List.mem_cons.1 hr with rfl|hr
      ·exact hI.own _ (by simp) b hb
      ·rcases List.mem_cons.1 hr with rfl|hr
       ·exact hI.own _ (by simp) b hb
       ·rcases List.mem_append.1 hr with h|h
        ·obtain⟨o,lt⟩:=hh2.own r (ao6 _ h) b hb
         exact⟨o.elim (aaA b) (λo=> .inr (Nat.le_trans ahp.size o)),lt⟩
        ·exact hI.own r (by simp[h]) b hb
     ·have hcI:∀r,r∈(aO.obj w.heap.size (.deferred (some [])):: .obj (w.heap.size+1) (.loop {rec with state:=st,pending:=jump})::IL)->∀s∈Ho,r.apart s:=λr hr s hs b hb Mh=>an2 s hs b (by rw[qJ];exact bN.2 ⟨r,hr,hb⟩) Mh
      refine List.pairwise_cons.2 ⟨λs hs=>?_,List.pairwise_cons.2 ⟨λs hs=>?_,List.pairwise_append.2 ⟨(List.pairwise_cons.1 hh2.apart).2,hq.2.2,λs hs r hr=>aO.xF (hcI r (by simp[hr]) s hs)⟩⟩⟩
      ·rcases List.mem_cons.1 hs with rfl|hs
       ·exact hq.1 _ (by simp)
       ·rcases List.mem_append.1 hs with h|h
        ·exact hcI _ (by simp) s h
        ·exact hq.1 s (by simp[h])
      ·rcases List.mem_append.1 hs with h|h
       ·exact hcI _ (by simp) s h
       ·exact hq.2.1 s h
    have O5:St N c (mark w.heap.size::D) [] (.obj w.heap.size (.deferred (some [])):: .obj (w.heap.size+1) (.loop {rec with state:=st,pending:=jump})::(Ho++IL)) {a with defers:=mark w.heap.size::a.defers} w2:=
     ⟨hst.tm,hfr,by simp[hst.df],akU,xq⟩
    have hso:ab9 (.obj w.heap.size (.deferred (some [])):: .obj (w.heap.size+1) (.loop {rec with state:=st,pending:=jump})::(Ho++IL)) (w.heap.size+1) (.loop {rec with state:= .exhausted,pending:=jump}) (.obj w.heap.size (.deferred (some [])):: .obj (w.heap.size+1) (.loop {rec with state:= .exhausted,pending:=jump})::(Ho++IL)):=inferInstance;have ho:acs (.obj w.heap.size (.deferred (some [])):: .obj (w.heap.size+1) (.loop {rec with state:=st,pending:=jump})::(Ho++IL)) (w.heap.size+1) (.loop {rec with state:=st,pending:=jump}):=inferInstance;obtain⟨h3,_⟩:=O5.yA ho hso;have hap:=ahG w2 akV;refine⟨_,run_endLoop hl ahn,⟨by have:=hap.1;simpa[World.putObj]using this,λb hb hnb=>(World.putObj_heap_other (by omega)).trans (hap.2 b hb hnb)⟩,⟨h3.tm,h3.fr,h3.df,h3.si,h3.hp.sub ?_⟩⟩;exact List.Sublist.cons_cons _ (List.Sublist.cons _ (List.Sublist.refl _))
   cases go with
   |true=>
    obtain⟨i,hpi,hI,qJ⟩:=FZ hex;have hrr:({rec with state:=LoopState.ready,pending:=none}:Loop)=rec:=by rw[dy]
    obtain⟨w4,h4,h4a,h5⟩:=both (I n i) none .ready (by simp) (by rw[hrr];exact qJ) (by rw[hrr];exact hI);exact⟨none,w4,h4,hdone i _ hpi h4a h5⟩
   |false=>obtain⟨⟨j,i⟩,hpi,hI,qJ⟩:=FZ hex;obtain⟨w4,h4,h4a,h5⟩:=both (X i) (some j) .done (by simp) qJ hI;exact⟨some j,w4,h4,ak7 j i _ hpi h4a h5⟩
  ·
   intro k XP W bs hsW aoO anU;obtain⟨i,hpi,hI,qJ⟩:=FZ anU;have hl:W.heap[w.heap.size+1]? =some (.loop rec):=hI.holds (.obj (w.heap.size+1) _) (by simp);have hy:=run_yield (P:=P) (args:=(xP k).toArray) hl (by rw[dy];simpa using hlen k);refine⟨_,_,_,_,hy,?_⟩;have akW:bG c.bs c.w0 W:=ahp.trans hsW aaA;have hsub:∀b,(b∈cm (aO.obj w.heap.size (.deferred (some [])):: .obj (w.heap.size+1) (.loop rec)::I k i)\/W.heap.size<=b)->(b∈c.bs\/c.w0.heap.size<=b):=λb hb=>by
    rcases hb with hb|hb
    ·obtain⟨r,hr,MK⟩:=bN.1 hb;exact(hI.own r hr b MK).1
    ·exact .inr (Nat.le_trans akW.size hb)
   have hb:=hbody k i rec bs W XP hpi (by rw[dy]) (by rw[dy]) akW.size (λb hb=>hsub b (by rw[← qJ];exact hb)) (ahG W hsW);have ht:=adq (ps:=ps) (vs:=xP k) hfr hst.tm hps;have anw:(rec.params.zip (xP k).toArray).foldl (λtmps (t,a)=>tmps.setIfInBounds t a) rec.tmps=(ps.zip (xP k)).foldl (λt q=>t.setIfInBounds q.1 q.2) a.tmps:=by rw[dy];simp
   rw[anw];have hrf:rec.assign=assign/\rec.body=body:=by rw[dy];exact⟨rfl,rfl⟩
   rw[hrf.1,hrf.2];have hI':cC bs W.heap.size (.obj w.heap.size (.deferred (some [])):: .obj (w.heap.size+1) (.loop rec)::I k i) W:=
    ⟨hI.holds,λr hr b hb=>⟨.inl (by rw[qJ];exact bN.2 ⟨r,hr,hb⟩),(hI.own r hr b hb).2⟩,hI.apart⟩
   have HE:=roundIn_of_wpIn (F:=FA none) (n:=0) (P:=P) (l:=w.heap.size+1) (f:=rec.fn) (R:=acd ⟨some (w.heap.size+1),W,bs⟩ (J (k+1)) Jx) trivial
    (hb hI')
   refine HE.mono λe W' hr=>?_;exact hr
section rounds
variable {P:Program} {N:Nat} {c:Cx} {H:List aO} {l dd:Nat} {α β:Type} {n0:Nat} {cb:List Nat} {p:α->Prop} {I:α->List aO} {px:β->Prop} {X:β->List aO}
theorem ac3{rec:Loop}{a:Act}{w:World}(hr:rec.state= .ready)(hrp:rec.pending=none)(hT:∀b,(b∈c.bs\/c.w0.heap.size<=b)->(b∈cb\/n0<=b)){JX:List Nat->World->Prop}
  (hst:St N c [] [] (.obj dd (.deferred (some [])):: .obj l (.loop {rec with state:= .busy})::H) a w)(i:α)(hp:p i)(hI:I i= .obj dd (.deferred (some [])):: .obj l (.loop rec)::H):roundPost P l (acd c (JW n0 cb p I) JX) .normal a w:=by
 obtain⟨h1,h2⟩:=hst.yA (b:=l) (o':= .loop rec) inferInstance inferInstance;have e:({{rec with state:=LoopState.busy}with state:=if(none:Option Code).isNone then LoopState.ready else .done,pending:=none}:Loop)=rec:=by cases rec;simp_all
 have hrun:=run_endRound (P:=P) none h2;rw[e]at hrun;have hh:=h1.hp;rw[← hI]at hh;refine⟨_,_,hrun,cm (I i),?_,h1.si, .inl ⟨rfl,?_⟩⟩
 ·intro b hb;exact bG.aff hh hb
 ·exact Ui i hp ⟨hh.holds,λr hr b hb=>⟨hT b (hh.own r hr b hb).1,(hh.own r hr b hb).2⟩,hh.apart⟩
theorem ac2{rec:Loop}{a:Act}{w:World}(hT:∀b,(b∈c.bs\/c.w0.heap.size<=b)->(b∈cb\/n0<=b)){JT:List Nat->World->Prop}{e:Exit}{j:Code}(hj:(e= .ret/\j= .ret)\/(∃id,e= .exit id/\j= .exit id))
  (hst:St N c [] [] (.obj dd (.deferred (some [])):: .obj l (.loop {rec with state:= .busy})::H) a w)(i:β)(hp:px i)(hI:X i= .obj dd (.deferred (some [])):: .obj l (.loop {rec with state:= .done,pending:=some j})::H):roundPost P l (acd c JT (JW n0 cb px X)) e a w:=by
 obtain⟨h1,h2⟩:=hst.yA (b:=l) (o':= .loop {rec with state:= .done,pending:=some j}) inferInstance inferInstance;have hrun:=run_endRound (P:=P) (some j) h2;have hh:=h1.hp;rw[← hI]at hh;have fin:∃v w',(Instr.endRound l (some j)).run P w= .ok v w'/\acd c JT (JW n0 cb px X) (.returned v) w':=by
  refine⟨_,_,hrun,cm (X i),?_,h1.si, .inr ⟨rfl,?_⟩⟩
  ·intro b hb;exact bG.aff hh hb
  ·exact Ui i hp ⟨hh.holds,λr hr b hb=>⟨hT b (hh.own r hr b hb).1,(hh.own r hr b hb).2⟩,hh.apart⟩
 rcases hj with⟨rfl,rfl⟩|⟨id,rfl,rfl⟩
 ·exact fin
 ·exact fin
end rounds
end Go.Bw
namespace Go.Rw
open Go Go.Bw Go.RowKit
variable {G:Sg} {P:Program}
inductive Ex(G:Sg) where
 |o5
 |exit (i:Nat)
 |ret
 |zP (v:AV G)
inductive Cf where
 |code (c:Code)
 |ops (all:Array Oper) (l:List Oper)
structure FI where
 code:Code
 N:Nat
 Jr:List ResultVar
def Ll(P:Program)(k:Nat):Option FI:=match P.funcs[k]? with
 |some fn=>match fn.body with
  |some code=>bif fn.name== "runtime.NumGoroutine" then none else some ⟨code,fn.ntmps,fn.results.toList⟩
  |none=>none
 |none=>none
inductive XF where
 |slot (d:Nat)
 |via (d:Nat)
 |cap (d i:Nat)
inductive Hn where
 |loop (l:List (XF×Sh))
 |join (l:List (XF×Sh)) (ex:List Nat)
def ady:Nat->List (Option Nat)->List (Option Nat)
 |0,l=>l
 |n+1,l=>none::ady n l
def alP(C:CC G)(S:AS G)(d i:Nat):Option Nat:=match mK C S [] (.tmp d)with
 |some (.fn _ _ cap)=>match WS cap i with
  |some (.ptr q [])=>some q
  |_ =>none
 |_ =>none
def rsv(C:CC G)(S:AS G):List (XF×Sh)->Option gA
 |[]=>some ⟨[],[]⟩
 |(.slot d,s)::r=>match rsv C S r with
  |some g=>some ⟨(.slot d,s)::g.l,ady (F7 s) g.nm⟩
  |none=>none
 |(.via d,s)::r=>match mK C S [] (.tmp d),rsv C S r with
  |some (.ptr q []),some g=>some ⟨(.obj q,s)::g.l,some q::ady (F7 s-1) g.nm⟩
  |_,_ =>none
 |(.cap d i,s)::r=>match alP C S d i,rsv C S r with
  |some q,some g=>some ⟨(.obj q,s)::g.l,some q::ady (F7 s-1) g.nm⟩
  |_,_ =>none
def QG(C:CC G)(S:AS G):List Nat->List Nat
 |[]=>[]
 |d::r=>match mK C S [] (.tmp d)with
  |some (.ptr q [])=>q::QG C S r
  |some (.row q)=>q::QG C S r
  |_ =>QG C S r
def Dr(O:Os G):Sh->AV G->List Nat
 | .row _ _ _, .row r=>[r]
 | .v _, .row r=>[r]
 | .box _ s, .ptr r []=>r::(match ga O r with
  |some (.eL _ c)=>Dr O s c
  |_ =>[])
 | .fn _ a c, .fn _ x y=>Dr O a x++Dr O c y
 | .rZ a, .rZ x=>Dr O a x
 | .st a, .st x=>Dr O a x
 | .nY _ a, .nY _ x=>Dr O a x
 | .cons a c, .cons x y=>Dr O a x++Dr O c y
 | .part _ a c, .part _ x y=>Dr O a x++Dr O c y
 |_,_ =>[]
def YI(C:CC G)(S:AS G):List (XF×Sh)->List Nat
 |[]=>[]
 |(.slot d,s)::r=>(match mK C S [] (.tmp d)with
  |some v=>Dr S.O s v
  |none=>[])++YI C S r
 |(.via d,s)::r=>(match mK C S [] (.tmp d)with
  |some v=>Dr S.O s v
  |none=>[])++YI C S r
 |(.cap d i,s)::r=>(match alP C S d i with
  |some q=>Dr S.O s (.ptr q [])
  |none=>[])++YI C S r
structure Vw(G:Sg)(L:List Ty) where
 lp:{Z:Type}->((HL G L->Option Z)->HL G L->Option Z)->Nat->HL G L->Option Z
 e0:∀{Z:Type} (B:(HL G L->Option Z)->HL G L->Option Z) (e:HL G L),lp B 0 e=none
 e1:∀{Z:Type} (B:(HL G L->Option Z)->HL G L->Option Z) (n:Nat) (e:HL G L),lp B (n+1) e=B (λe=>lp B n e) e
def lpV{Z:Type}{L:List Ty}:Option (Vw G L)->((HL G L->Option Z)->HL G L->Option Z)->Nat->HL G L->Option Z
 |some v=>v.lp
 |none=>lpE L
theorem U1{Z:Type}{L:List Ty}{o:Option (Vw G L)}{B:(HL G L->Option Z)->HL G L->Option Z}{n:Nat}{e:HL G L}{z:Z}(h:lpV o B n e=some z):∃m,n=m+1/\B (lpV o B m) e=some z:=by
 cases o with
 |none=>exact akn h
 |some v=>
  cases n with
  |zero=>rw[show lpV (some v) B 0 e=none from v.e0 B e]at h;cases h
  |succ n=>exact⟨n,rfl,by rw[show lpV (some v) B (n+1) e=B (λe=>v.lp B n e) e from v.e1 B n e]at h;exact h⟩
def amb(P:Program)(k:Nat)(yH:Sh)(n:Nat)(ys:Sh){B:Type}(en:B->HL G (br ys))(f:HL G (br yH)->Option (List B)):Prop:=∀(ρ:bT) (J:World->Prop) (HB X:List aO) (vs:List Value) (x:HL G (br yH)) (l:List B),f x=some l->rl J ρ (iA (λm=>m) yH x 0).1 vs->RO J ρ (iA (λm=>m) yH x 0).2.1 HB->XW G X J->ρ.fr (iA (λm=>m) yH x 0).2.2-> ∃xP:Nat->List Value,(∀(σ:bT) i y,l[i]? =some y->rl J σ (iA (λm=>m) ys (en y) 0).1 (xP i))/\(∀i,(xP i).length=n)/\ ∀(ly:Nat) (Jy:Nat->List Nat->World->Prop) (Jx:List Nat->World->Prop) (bs:List Nat) (w:World),cC (bs++(cm HB++cm X)) w.heap.size (.ext bs (Jy 0 bs)::(HB++X)) w->Rnd P ly (bs++cm HB) w Jy Jx xP l.length-> Calls P k (Value.func (.yield ly) #[] #[]::vs).toArray w λen w'=>∃x:Bool×List Nat,en= .returned (.tuple #[])/\bG (bs++cm HB) w w'/\cC (bs++cm HB) w.heap.size (.ext x.2 (bif x.1 then Jy l.length x.2 else Jx x.2)::[]) w'
structure It(P:Program)(G:Sg) where
 k:Nat
 yH:Sh
 n:Nat
 ys:Sh
 B:Type
 en:B->HL G (br ys)
 f:HL G (br yH)->Option (List B)
 fn:∃fn,P.funcs[k]? =some fn/\fn.body.isSome=true/\(fn.name== "runtime.NumGoroutine")=false
 ok:amb P k yH n ys en f
structure ajd(P:Program)(f T n:Nat)(out:Int->List Value):Prop where
 enter:∀args w,(callFunc f args).run P w= .ok (.enter f args) w
 ret:∀b w,CallsDIn (FA none) 0 P f #[fW b 0] .returning w λen u' w'=>(∃v,en= .returned v)/\u'= .returning/\bG [] w w'
 zP:∀(b Tb:Nat) (xs:List Value) (e:Int) (w:World),xs.length=n->w.heap[b]? =some (.cells xs.toArray Tb (0,0))->CallsDIn (FA none) 0 P f #[fW b 0] (.panicking [{v:= .iface T (.int .i64 e),recovered:=false}]) w λen u' w'=>(∃v,en= .returned v)/\settle u'= .returning/\bG [b] w w'/\w'.heap[b]? =some (.cells (out e).toArray Tb (0,0))
structure Ek(P:Program)(G:Sg) where
 k:Nat
 T:Nat
 n:Nat
 out:Int->List Value
 v:Int->AV G
 hv:∀(J:World->Prop) (ρ:bT) (e:Int),∃u,rv J ρ (v e) u/\u.cells.toList=out e
 ok:ajd P k T n out
structure Ba(P:Program)(G:Sg) where
 tt:TT P G
 zt:ZT P G
 hint:List Nat->Nat->Option Hn
 calls:Nat->List (Ct P G)
 fu:Nat
 vw:Nat->(L:List Ty)->Option (Vw G L)
 its:Nat->List (It P G)
 ek:Nat->List (Ek P G)
 jw:Bool
def Ww:Code->Option Nat
 | .region i _ _ =>some i
 | .seq a b=>match Ww a with
  |some i=>some i
  |none=>Ww b
 | .cond _ a b=>match Ww a with
  |some i=>some i
  |none=>Ww b
 | .block _ x=>Ww x
 | .loop x=>Ww x
 | .scope x=>Ww x
 |_ =>none
def wrO:List Oper->List Nat
 |[]=>[]
 |o::r=>match o.dst with
  |some d=>d::wrO r
  |none=>wrO r
def M1:Code->List Nat
 | .region _ ops _ =>wrO ops.toList
 | .seq a b=>M1 a++M1 b
 | .cond _ a b=>M1 a++M1 b
 | .block _ x=>M1 x
 | .loop x=>M1 x
 | .scope x=>M1 x
 | .rangeFunc _ ps a b=>ps.toList++M1 a++M1 b
 |_ =>[]
def guW{Z:Type}:List Bool->Option Z->Option Z
 |[],k=>k
 |b::r,k=>gu b (guW r k)
def guG{Z:Type}(g:Bool):List Bool->Option Z->Option Z
 |[],k=>k
 |b::r,k=>gu (!g||b) (guG g r k)
def OB(C:CC G)(S:AS G)(ch:List (Nat×Bool))(j:Nat)(b:Bool)(y z:Operand):Option (AV G):=match z,y with
 | .const (.bool false),y=>match R6 C S y,mK C S ch y with
  |some (.gd k true x),none=>match asB x with
   |some u=>bif Nat.beq k j then some (.bool (b&&u))else none
   |none=>none
  |_,some x=>match asB x with
   |some u=>some (.bool (b&&u))
   |none=>none
  |_,_ =>none
 |z, .const (.bool true)=>match R6 C S z,mK C S ch z with
  |some (.gd k false x),none=>match asB x with
   |some u=>bif Nat.beq k j then some (.bool (b||u))else none
   |none=>none
  |_,some x=>match asB x with
   |some u=>some (.bool (b||u))
   |none=>none
  |_,_ =>none
 |_,_ =>none
def SR(C:CC G)(S:AS G)(ch:List (Nat×Bool))(x y z:Operand):Option (AV G):=match mK C S ch x,x with
 |some (.kb b),_ =>mK C S ch (bif b then y else z)
 |some (.bool b), .tmp j=>OB C S ch j b y z
 |_,_ =>none
def pvA(tt:TT P G)(zt:ZT P G)(C:CC G)(S:AS G)(ch:List (Nat×Bool)):Op->PV G
 | .pick x y z=>match SR C S ch x y z with
  |some v=>some ([],v)
  |none=>none
 | .build T parts=>Zx tt zt (mK C S ch) T parts.toList
 | .slice T x lo hi mx=>agA tt (mK C S ch) T x lo hi mx
 | .index T x y=>match Zr P (mK C S ch) T x y with
  |some r=>some r
  |none=>pv tt (obS C S) (mK C S ch) (.index T x y)
 | .binOp o T x y U=>match pv tt (obS C S) (mK C S ch) (.binOp o T x y U)with
  |some r=>some r
  |none=>match mK C S ch x,mK C S ch y with
   |some a,some b=>Zv tt o T a b
   |_,_ =>none
 |op=>pv tt (obS C S) (mK C S ch) op
def Cb:Nat->AV G->Fr G
 |i, .cons v r=>(i,v)::Cb (i+1) r
 |_,_ =>[]
def HA:AV G->Nat
 | .cons _ r=>HA r+1
 |_ =>0
def rO:AV G->AV G->AV G
 | .cons v r,b=> .cons v (rO r b)
 |_,b=>b
def uN:AV G->Bool
 | .cons _ r=>uN r
 | .nil=>true
 |_ =>false
def ac5(tt:TT P G)(C:CC G)(S:AS G):ResultVar->Option (AV G)
 | .tmp t=>mK C S [] (.tmp t)
 | .cell t ty=>match mK C S [] (.tmp t)with
  |some (.ptr r [])=>match obS C S r with
   |some (.eL _ c)=>bif A6 tt ty c then some c else none
   |_ =>none
  |_ =>none
def ac7(tt:TT P G)(C:CC G)(S:AS G):List ResultVar->Option (AV G)
 |[]=>some .nil
 |r::q=>match ac5 tt C S r,ac7 tt C S q with
  |some v,some l=>some (.cons v l)
  |_,_ =>none
def Jq(tt:TT P G)(C:CC G)(S:AS G):List ResultVar->Option (AV G)
 |[r]=>ac5 tt C S r
 |l=>match ac7 tt C S l with
  |some v=>some (.rZ v)
  |none=>none
def ltA{Z:Type}:AV G->(AV G->Option Z)->Option Z
 | .dat t x,k=>lt x λx=>k (.dat t x)
 | .int q n,k=>lt n λn=>k (.int q n)
 | .bool b,k=>lt b λb=>k (.bool b)
 |v,k=>k v
def stK{Z:Type}(F:Uj G):AV G->List zi->AV G->(AV G->Option Z)->Option Z
 |c,[],v,k=>match AU c v with
  |some c'=>ltA c' k
  |none=>none
 | .dat t x,p,v,k=>match path F p t with
  |some q=>match Es q.m v with
   |some y=>lt (q.set x y) λx'=>k (.dat t x')
   |none=>none
  |none=>none
 | .st a, .Mi _ o::r,v,k=>match partAt a o with
  |some (_,c)=>stK F c r v λc'=>match Fy a o c' with
   |some a'=>k (.st a')
   |none=>none
  |none=>none
 |_,_,_,_ =>none
theorem akl{Z:Type}{v:AV G}{k:AV G->Option Z}{z:Z}(h:ltA v k=some z):k v=some z:=by cases v<;>exact h
theorem ajP{Z:Type}{F:Uj G}:∀{p:List zi} {c v:AV G} {k:AV G->Option Z} {z:Z},stK F c p v k=some z->∃c',Wp F c p v=some c'/\k c'=some z:=by
 intro p
 induction p with
 |nil=>
  intro c v k z h;have h:(match AU c v with
   |some c'=>ltA c' k
   |none=>none)=some z:=by unfold stK at h;exact h
  split at h
  ·rename_i c' hc;exact⟨c',by unfold Wp;exact hc,akl h⟩
  ·cases h
 |cons s r ih=>
  intro c v k z h;cases c with
  |dat t x=>
   simp only[stK]at h;split at h
   ·rename_i q hq
    split at h
    ·rename_i y hy;exact⟨_,by simp only[Wp,hq,hy],h⟩
    ·cases h
   ·cases h
  |st a=>
   cases s with
   |Mi j o=>
    simp only[stK]at h;split at h
    ·rename_i w c1 hp
     obtain⟨c2,h1,h2⟩:=ih h;split at h2
     ·rename_i a' ha;exact⟨_,by simp only[Wp,hp,h1,ha],h2⟩
     ·cases h2
    ·cases h
   |idx _ _ _ =>simp[stK]at h
  |_ =>simp[stK]at h
def D3:AV G->Bool
 | .gd _ _ _ =>false
 |_ =>true
def abd:List (AV G)->Os G->Option (Os G)
 |[],O=>some O
 | .ptr r []::D,O=>match ga O r with
  |some (.aux true)=>abd D (F5 O r)
  |_ =>none
 |_ ::_,_ =>none
def aj9:AV G->Option (Nat×Int)
 | .nY T (.int .i64 x)=>some (T,x)
 | .nY T (.lit .i64 x)=>some (T,x)
 |_ =>none
def isN:Option Nat->Nat->Bool
 |some m,n=>Nat.beq m n
 |none,_ =>false
def exE:Ex G->Bool
 | .o5=>true
 | .ret=>true
 |_ =>false
def sL(ek:Nat->List (Ek P G)):Ex G->List (AV G)->Os G->Option (Ex G×Os G)
 |e,[],O=>some (e,O)
 |e, .ptr r []::D,O=>match ga O r,exE e with
  |some (.aux true),true=>sL ek e D (F5 O r)
  |_,_ =>none
 |e, .cons (.fn (.func k) .nil c) l::D,O=>match ek k,rO l c with
  |q::_, .cons (.ptr r []) .nil=>match ga O r with
   |some (.eL T' c0)=>bif Nat.beq q.k k&&(uN l&&uN c)then(match e with
    | .o5=>sL ek .o5 D O
    | .ret=>sL ek .ret D O
    | .zP v=>(match aj9 v with
     |some (T,x)=>bif Nat.beq q.T T&&isN c0.ncl q.n then sL ek .ret D (yA O r (.eL T' (q.v x)))else none
     |none=>none)
    |_ =>none)else none
   |_ =>none
  |_,_ =>none
 |_,_ ::_,_ =>none
def ah4(S:AS G):Option (AS G):=match abd S.D S.O with
 |some O=>some ⟨S.F,O,S.nx,[]⟩
 |none=>none
def NM{Z:Type}(N:Nat)(C:CC G):List Nat->AV G->AS G->(AS G->Option Z)->Option Z
 |[], .nil,S,k=>k S
 |p::ps, .cons v r,S,k=>match yC N C (some p) v S with
  |some S'=>bif D3 v then NM N C ps r S' k else none
  |none=>none
 |_,_,_,_ =>none
def flF:CC G->Fr G
 |[]=>[]
 |y::r=>y.F++flF r
def stR(g:gA)(base:Nat)(x:HL G (br (v8 g.l))):AS G:=⟨[],(ME g base x).O,(ME g base x).nx,[]⟩
def WM(m:Nat)(S1:AS G)(O:Os G)(S:AS G):AS G:=⟨S1.F,(m, .aux true)::(S.O++O),S.nx, .ptr m []::S1.D⟩
def psN(N:Nat):List Nat->Bool
 |[]=>true
 |p::r=>Nat.blt p N&&psN N r
def ZY:List (AV G)->Bool
 |[]=>true
 |_ =>false
abbrev WT(G:Sg)(Z:Type):=(N:Nat)->(cp:List Nat)->CC G->Cf->AS G->(Ex G->AS G->Option Z)->Option Z
def oR{Z:Type}(rec:WT G Z)(N:Nat)(cp:List Nat)(C:CC G)(all:Array Oper)(r:List Oper)(d:Option Tmp)(v:AV G)(S:AS G)(K:Ex G->AS G->Option Z):Option Z:=match yC N C d v S with
 |some S'=>bif D3 v then rec N cp C (.ops all r) S' K else none
 |none=>none
def wCt{Z:Type}(C:CC G)(O:Os G)(nx:Nat)(aoT:AV G)(fit:(ct:Ct P G)->HI G ct.s->GS G->Option Z)(frz:List Nat->List (Nat×Sh)->Option Z)(no:Option Z):List (Ct P G)->Option Z
 |[]=>no
 |ct::r=>match HH C O nx ct.s aoT with
  |some (x,g')=>fit ct x g'
  |none=>match alV C O ct.s aoT,akg C O ct.s aoT with
   |[],[]=>wCt C O nx aoT fit frz no r
   |b,l=>frz b l
def ctK{Z:Type}(rec:WT G Z)(N:Nat)(cp:List Nat)(C:CC G)(all:Array Oper)(r:List Oper)(d:Option Tmp)(S:AS G)(K:Ex G->AS G->Option Z)(ct:Ct P G)(x:HI G ct.s)(g':GS G):Option Z:=
 ct.cp x (λy=>match hdA (iA (S7 g'.th g'.nx ct.s.nm) ct.s.dW y 0).1 with
  |some v=>oR rec N cp C all r d v (ctS g' ct.s.dW ct.s.nm y S) K
  |none=>none) (λy=>match hdA (iA (S7 g'.th g'.nx ct.s.ZC) ct.s.mA y 0).1 with
  |some v=>K (.zP v) (ctS g' ct.s.mA ct.s.ZC y S)
  |none=>none)
def ctG{Z:Type}(rec:WT G Z)(N:Nat)(cp:List Nat)(C:CC G)(all:Array Oper)(r:List Oper)(d:Option Tmp)(S:AS G)(K:Ex G->AS G->Option Z)(j:Nat)(w g:Bool)(ct:Ct P G)(x:HI G ct.s)(no:Option Z):Option Z:=match ct.s.nm with
 |[]=>bif JV true ct.s.yH&&JV false ct.s.dW then ct.cg g x (λy=>match hdA (iA (λm=>m) ct.s.dW y 0).1 with
  |some v=>(match yC N C d (.gd j w v) S with
   |some S'=>rec N cp C (.ops all r) S' K
   |none=>none)
  |none=>none)else no
 |_ =>no
def Rz(C:CC G)(S:AS G)(ch:List (Nat×Bool)):Op->Option (Nat×AV G)
 | .call ⟨.value f,args,_⟩=>match mK C S ch f,TL (mK C S ch) args.toList with
  |some (.fn (.func k) fst cap),some l=>bif (uN fst&&uN l)&&uN cap then some (k,rO fst (rO l cap))else none
  |_,_ =>none
 |_ =>none
def ctT{Z:Type}(tb:Ba P G)(rec:WT G Z)(N:Nat)(cp:List Nat)(C:CC G)(all:Array Oper)(r:List Oper)(o:Oper)(S:AS G)(K:Ex G->AS G->Option Z)(j:Nat)(w:Bool)(no:Option Z):Option Bool->Option (Nat×AV G)->Option Z
 |some g,some (k,aoT)=>wCt C S.O S.nx aoT (λct x _ =>bif Nat.beq ct.s.k k then ctG rec N cp C all r o.dst S K j w g ct x no else none) (λb l=>rec N cp C (.ops all (o::r)) (FB l (Ca b S)) K) no (tb.calls k)
 |_,_ =>no
def UB(C:CC G)(S:AS G):List Operand->List Nat
 |[]=>[]
 |x::r=>match R6 C S x with
  |some (.row q)=>(match ga S.O q with
   |some _ =>q::UB C S r
   |none=>UB C S r)
  |_ =>UB C S r
def afF:AV G->List zi->Bool
 | .dat _ _,_ ::_ =>true
 | .st a, .Mi _ o::r=>match partAt a o with
  |some (_,c)=>afF c r
  |none=>false
 |_,_ =>false
def am3(C:CC G)(S:AS G)(x y:Operand):Option Nat:=match mK C S [] x,mK C S [] y with
 |some (.ptr r p),some (.row q)=>match ga S.O q,ga S.O r with
  |some (.row _ _ _ _),some (.eL _ c)=>bif afF c p then some q else none
  |_,_ =>none
 |_,_ =>none
def lkK{Z:Type}:List (Int×Nat)->Int->(Option Nat->Option Z)->Option Z
 |[],_,c=>c none
 |(a,f)::r,k,c=>cn (k==a) (c (some f)) (lkK r k c)
theorem akw{Z:Type}{k:Int}{c:Option Nat->Option Z}{z:Z}:∀{l:List (Int×Nat)},lkK l k c=some z->c (Oi l k)=some z:=by
 intro l
 induction l with
 |nil=>exactλh=>h
 |cons p r ih=>
  obtain⟨a,f⟩:=p;intro h;simp only[lkK,Oi]at h ⊢;cases hb:(k==a)with
  |true=>rw[hb]at h;exact h
  |false=>rw[hb]at h;exact ih h
def wPv{Z:Type}(tb:Ba P G)(rec:WT G Z)(N:Nat)(cp:List Nat)(C:CC G)(all:Array Oper)(r:List Oper)(o:Oper)(S:AS G)(K:Ex G->AS G->Option Z):Option Z:=match pvA tb.tt tb.zt C S [] o.op with
 |some (gs,v)=>guW gs (oR rec N cp C all r o.dst v S K)
 |none=>match UB C S o.op.operands.toList with
  |[]=>none
  |b=>rec N cp C (.ops all (o::r)) (Ca b S) K
def akz(tb:Ba P G)(cp:List Nat)(d:Option Tmp):Bool:=match d with
 |some d=>match tb.hint cp (1000000+d)with
  |some _ =>true
  |none=>false
 |none=>false
def aik(o:Oper)(T:Nat):List Oper->Option (Nat×List Oper)
 |⟨none, .call ⟨.builtin .clear,a,t⟩,_,_,_,none⟩::r=>match o.dst,o.guard,a.toList,t.toList with
  |some d1,none,[.tmp d2],[T2]=>bif Nat.beq d1 d2&&Nat.beq T T2 then some (d1,r)else none
  |_,_,_,_ =>none
 |_ =>none
def tyB(tb:Ba P G)(e:Nat):AV G->Option Ty
 | .pI=>match tb.tt.te.find e with
  |some (.sl e2 _ _)=>(match tb.zt.z.find e2 with
   |some z2=>(match tyA z2 with
    |some t=>some (.sl t)
    |none=>none)
   |none=>none)
  |_ =>none
 |z=>tyA z
def wOp{Z:Type}(tb:Ba P G)(rec:WT G Z)(N:Nat)(cp:List Nat)(C:CC G)(all:Array Oper)(r:List Oper)(o:Oper)(S:AS G)(K:Ex G->AS G->Option Z):Option Z:=match o.op with
 | .box T x=>match mK C S [] x with
  |some v=>oR rec N cp C all r o.dst (.ptr S.nx []) {S with O:=(S.nx, .eL T v)::S.O,nx:=S.nx+1} K
  |none=>none
 | .alloc T=>match tb.zt.z.find T with
  |some v=>oR rec N cp C all r o.dst (.ptr S.nx []) {S with O:=(S.nx, .eL T v)::S.O,nx:=S.nx+1} K
  |none=>none
 | .store T x y=>match am3 C S x y with
  |some q=>rec N cp C (.ops all (o::r)) (Ca [q] S) K
  |none=>match mK C S [] x,mK C S [] y with
  |some (.ptr q p),some v=>match ga S.O q with
   |some (.eL T' c)=>bif A6 tb.tt T v then stK tb.tt.F c p v λc'=>oR rec N cp C all r o.dst .YA {S with O:=yA S.O q (.eL T' c')} K else none
   |some (.row e sz t xs)=>bif aaJ p sz&&A6 tb.tt T v then(match KW tb.tt.F t p with
    |some pl=>(match Es pl.m v with
     |some y=>lt (xs.set pl.i.toNat (pl.set (xs.getD pl.i.toNat default) y)) λzs=>oR rec N cp C all r o.dst .YA {S with O:=yA S.O q (.row e sz t zs)} K
     |none=>none)
    |none=>none)else none
   |_ =>none
  |_,_ =>none
 | .buildSlice T n parts=>match tb.tt.te.find T with
  |some (.sl e sz _)=>match tb.zt.z.find e with
   |some z=>match tyB tb e z with
    |some t=>match elA t (mK C S []) 0 parts.toList with
     |some xs=>bif (Nat.beq xs.length n&&Nat.beq (t.L G).n sz)&&(Nat.blt 0 (n*sz)&&Nat.ble (n*sz) 16777216)then oR rec N cp C all r o.dst (.row S.nx) {S with O:=(S.nx, .row e sz t xs)::S.O,nx:=S.nx+1} K else none
     |none=>wPv tb rec N cp C all r o S K
    |none=>none
   |none=>none
  |_ =>none
 | .makeSlice T (.tmp s) (.tmp s')=>bif Nat.beq s s' then(match s7 (mK C S [] (.tmp s)),tb.tt.te.find T with
  |some (_,i,_),some (.sl e sz bt)=>(match tb.zt.z.find e with
   |some (.int k z0)=>bif Nat.beq sz 1&&Nat.blt 0 bt then gu (decide (0<=i)) (gu (gw 0 i.toNat bt) (lt (List.replicate i.toNat z0) λzs=>oR rec N cp C all r o.dst (.row S.nx) {S with O:=(S.nx, .row e 1 (.int k) zs)::S.O,nx:=S.nx+1} K))else none
   |_ =>none)
  |_,_ =>none)else none
 | .panic x=>match mK C S [] x with
  |some (.nY t v)=>K (.zP (.nY t v)) S
  |_ =>none
 | .defer ⟨.value f,args,_⟩=>match mK C S [] f,TL (mK C S []) args.toList,o.dst with
  |some (.fn (.func k) a c),some l,none=>bif (uN a&&uN l)&&(uN c&&K0 (y6 C))then rec N cp C (.ops all r) {S with D:= .cons (.fn (.func k) a c) l::S.D} K else none
  |_,_,_ =>none
 | .call ⟨.builtin .append,args,RW⟩=>match args.toList,RW.toList with
  |[x,y],[T,T']=>bif Nat.beq T T' then(match mK C S [] x,mK C S [] y,tb.tt.te.find T with
   |some (.row q),some vy,some (.sl e sz bt)=>(match ga S.O q,lsA C S vy with
    |some (.row e' sz' t xs),some l=>bif Nat.beq e' e&&Nat.beq sz' sz then(match LF (t:=t) l.xs with
     |some ys=>gu (gw xs.length ys.length bt) (lt (xs++ys) λzs=>oR rec N cp C all r o.dst (.row S.nx) {S with O:=(S.nx, .row e sz t zs)::F5 S.O q,nx:=S.nx+1} K)
     |none=>none)else none
    |_,_ =>none)
   |some .pI,some vy,some (.sl e sz bt)=>(match lsA C S vy with
    |some l=>bif Nat.beq (l.t.L G).n sz then gu (gw 0 l.xs.length bt) (lt l.xs λzs=>oR rec N cp C all r o.dst (.row S.nx) {S with O:=(S.nx, .row e sz l.t zs)::S.O,nx:=S.nx+1} K)else none
    |none=>none)
   |_,_,_ =>none)else none
  |_,_ =>none
 | .call ⟨.builtin .copy,args,RW⟩=>match args.toList,RW.toList with
  |[x,y],[T,_]=>(match mK C S [] x,mK C S [] y,tb.tt.te.find T with
   |some (.row q),some vy,some (.sl e sz _)=>(match ga S.O q,lsA C S vy with
    |some (.row e' sz' (.int k) xs),some l=>bif (Nat.beq e' e&&Nat.beq sz 1)&&Nat.beq sz' 1 then(match LF (t:= .int k) l.xs with
     |some ys=>lt (ys.take xs.length++xs.drop ys.length) λzs=>oR rec N cp C all r o.dst (.int .i64 ((min ys.length xs.length:Nat):Int)) {S with O:=yA S.O q (.row e 1 (.int k) zs)} K
     |none=>none)else none
    |_,_ =>none)
   |_,_,_ =>none)
  |_,_ =>none
 | .call ⟨.value f,args,_⟩=>match mK C S [] f,TL (mK C S []) args.toList with
  |some (.fn (.func k) fst cap),some l=>wCt C S.O S.nx (rO fst (rO l cap)) (λct x g'=>bif (uN fst&&uN l)&&(uN cap&&Nat.beq ct.s.k k)then ctK rec N cp C all r o.dst S K ct x g' else none) (λb l=>rec N cp C (.ops all (o::r)) (FB l (Ca b S)) K) (match Ll P k with
   |some fi=>bif (uN fst&&uN l)&&(uN cap&&Nat.ble (HA (rO fst (rO l cap))) fi.N)then
     rec fi.N ((match o.dst with
      |some d=>d
      |none=>0)::cp) [⟨[],y6 C,[]⟩] (.code fi.code) ⟨Cb 0 (rO fst (rO l cap)),S.O,S.nx,[]⟩ λe S1=>match sL tb.ek e S1.D S1.O with
      |some (.zP v,O2)=>K (.zP v) {S with O:=O2,nx:=S1.nx}
      |some (.o5,O2)=>(match Jq tb.tt [⟨[],y6 C,[]⟩] ⟨S1.F,O2,S1.nx,[]⟩ fi.Jr with
       |some v=>oR rec N cp C all r o.dst v {S with O:=O2,nx:=S1.nx} K
       |none=>none)
      |some (.ret,O2)=>(match Jq tb.tt [⟨[],y6 C,[]⟩] ⟨S1.F,O2,S1.nx,[]⟩ fi.Jr with
       |some v=>oR rec N cp C all r o.dst v {S with O:=O2,nx:=S1.nx} K
       |none=>none)
      |_ =>none
    else none
   |none=>none) (tb.calls k)
  |_,_ =>none
 | .load T (.global g)=>match G.gt,g,o.guard with
  |some _,0,none=>bif vu P T then oR rec N cp C all r o.dst (.mp S.nx) {S with O:=(S.nx, .gm)::S.O,nx:=S.nx+1} K else none
  |_,_,_ =>none
 | .lookup T x y true=>match G.gt,mK C S [] x,s7 (mK C S [] y),o.guard with
  |some g0,some (.mp q),some (ik,k,_),none=>match obS C S q with
   |some .gm=>bif Nat.beq (Ty.cQ.ik ik) (Ty.cQ.ik g0.1)&&VI P T g0.1 then lkK g0.2 k λf=>oR rec N cp C all r o.dst (agf f) S K else none
   |_ =>none
  |_,_,_,_ =>none
 | .slice T x none (some h) none=>match mK C S [] x,s7 (mK C S [] h),tb.tt.te.find T,akz tb cp o.dst with
  |some (.row q),some (_,i,_),some (.sl e sz _),true=>match ga S.O q with
   |some (.row e' sz' t xs)=>bif Nat.beq e' e&&Nat.beq sz' sz then gu (bQ i (xs.length+1)) (oR rec N cp C all r o.dst (.row S.nx) {S with O:=(S.nx, .row e' sz' t (xs.take i.toNat))::F5 S.O q,nx:=S.nx+1} K)else none
   |_ =>none
  |_,_,_,_ =>wPv tb rec N cp C all r o S K
 | .slice T x (some lo) none none=>match aik o T r,mK C S [] x,s7 (mK C S [] lo),tb.tt.te.find T with
  |some (d1,r2),some (.row q),some (_,i,_),some (.sl e sz _)=>(match ga S.O q,yC N C (some d1) .YA S with
   |some (.row e' sz' (.int k) xs),some S1=>bif (Nat.beq e' e&&Nat.beq sz 1)&&(Nat.beq sz' 1&&VH P e k)then gu (bQ i (xs.length+1)) (lt (xs.take i.toNat++(List.replicate (xs.length-i.toNat) (0:Int):List (Ty.T G (.int k)))) λzs=>rec N cp C (.ops all r2) {S1 with O:=yA S1.O q (.row e 1 (.int k) zs)} K)else none
   |_,_ =>wPv tb rec N cp C all r o S K)
  |_,_,_,_ =>wPv tb rec N cp C all r o S K
 |_ =>wPv tb rec N cp C all r o S K
def pF(C:CC G)(S:AS G)(l:List (Src×Sh)):AS G:=match G7 C S l with
 |some v=>Ca (Ak S.O (v8 l) v) S
 |none=>S
def Lv(all:Array Oper)(j:Nat):Option Nat:=(all[j]?).bind (·.dst)
def T6(A:List Nat):List Nat->Nat
 |[]=>0
 |j::r=>(2^j|||A.getD j 0)|||T6 A r
def JE(ops:Array Oper):Nat->List Nat
 |0=>[]
 |k+1=>match JE ops k with
  |A=>A++[T6 A (Dy ops k)]
def Ce:Nat->List Oper->List (Nat×Nat)
 |_,[]=>[]
 |i,o::r=>match o.dst with
  |some d=>(i,d)::Ce (i+1) r
  |none=>Ce (i+1) r
def qN(A:List Nat)(i j:Nat):Bool:=Nat.testBit (A.getD i 0) j
def adv(A:List Nat)(q d:Nat):List (Nat×Nat)->Bool
 |[]=>true
 |(i,e)::r=>(!(Nat.beq e d&&Nat.blt i q)||qN A q i)&&adv A q d r
def WN(A:List Nat)(ws:List (Nat×Nat)):List (Nat×Nat)->Bool
 |[]=>true
 |(q,d)::r=>adv A q d ws&&WN A ws r
def Er(A:List Nat)(i d:Nat):List (Nat×Nat)->Bool
 |[]=>true
 |(q,e)::r=>(!Nat.beq e d||(Nat.beq q i||(bif Nat.blt q i then qN A i q else qN A q i)))&&Er A i d r
def Xu(A:List Nat)(i d:Nat):List (Nat×Nat)->Bool
 |[]=>true
 |(q,e)::r=>(!Nat.beq e d||qN A i q)&&Xu A i d r
def wrD(d:Nat):List (Nat×Nat)->Bool
 |[]=>false
 |(_,e)::r=>Nat.beq e d||wrD d r
def gdD(ws:List (Nat×Nat)):AV G->Bool
 | .gd j _ _ =>wrD j ws
 |_ =>false
def Xf(ws:List (Nat×Nat))(F:Fr G)(d:Nat):Bool:=match ga F d with
 |some v=>gdD ws v
 |none=>false
structure Lg where
 i:Nat
 r:List Nat
 a:List Nat
 o:List Nat
structure DS(G:Sg) where
 F:Fr G
 M:Os G
 nx:Nat
 lg:List Lg
def TO:List Nat->List Nat->Bool
 |[],_ =>true
 |a::r,l=> !fe l a&&TO r l
def okL(A:List Nat)(i:Nat)(rd ac nw:List Nat):List Lg->Bool
 |[]=>true
 |y::r=>(qN A i y.i||(TO (y.a++y.o) (rd++ac)&&TO (ac++nw) (y.r++y.a)))&&okL A i rd ac nw r
def okU(A:List Nat)(i:Nat):List Lg->Bool
 |[]=>true
 |y::r=>(qN A i y.i||(match y.a with
  |[]=>true
  |_ =>false))&&okU A i r
def unN(A:List Nat)(i:Nat):List Lg->List Nat
 |[]=>[]
 |y::r=>bif qN A i y.i then unN A i r else y.o++unN A i r
def UT:AV G->List Nat
 | .ptr r _ =>[r]
 | .row r=>[r]
 | .mp r=>[r]
 | .gd _ _ v=>UT v
 |_ =>[]
def yd:AV G->List Nat
 | .ptr r _ =>[r]
 | .row r=>[r]
 | .mp r=>[r]
 | .gd _ _ v=>yd v
 | .fn _ a c=>yd a++yd c
 | .st a=>yd a
 | .rZ a=>yd a
 | .nY _ v=>yd v
 | .cons a b=>yd a++yd b
 | .part _ a b=>yd a++yd b
 |_ =>[]
def obN(M:Os G):List Nat->List Nat
 |[]=>[]
 |r::q=>match ga M r with
  |some (.eL _ c)=>yd c++obN M q
  |_ =>obN M q
def UL(M:Os G):Nat->List Nat->List Nat
 |0,l=>l
 |n+1,l=>l++UL M n (obN M l)
def MI(f:AV G->List Nat)(C:CC G)(S:AS G):List Operand->List Nat
 |[]=>[]
 |x::r=>match R6 C S x with
  |some v=>f v++MI f C S r
  |none=>MI f C S r
def mZ:Os G->List Nat
 |[]=>[]
 |(k,_)::r=>k::mZ r
def isQ:Op->Bool
 | .store _ _ _ =>false
 | .call ⟨.builtin .len,_,_⟩=>true
 | .call ⟨.builtin .min,_,_⟩=>true
 | .call ⟨.builtin .max,_,_⟩=>true
 | .call _ =>false
 | .box _ _ =>false
 | .alloc _ =>false
 | .panic _ =>false
 | .buildSlice _ _ _ =>false
 | .makeSlice _ _ _ =>false
 |_ =>true
def QH:AV G->List Nat
 | .row r=>[r]
 | .gd _ _ v=>QH v
 |_ =>[]
def rdF:Op->AV G->List Nat
 | .load _ _ =>UT
 | .lookup _ _ _ _ =>UT
 |_ =>QH
def abD(C:CC G)(S:AS G):List Operand->Bool
 |[]=>false
 |x::r=>(match R6 C S x with
  |some (.row _)=>true
  |_ =>false)||abD C S r
def anu(C:CC G)(S:AS G)(op:Op):Bool:=isQ op&&(match op with
 | .build _ _ => !abD C S op.operands.toList
 |_ =>true)
def alp(A:List Nat)(ws:List (Nat×Nat))(i:Nat):AV G->Bool
 | .gd j _ _ =>Xu A i j ws
 |_ =>true
def agE(A:List Nat)(ws:List (Nat×Nat))(i nx:Nat)(d:Option Tmp)(F S:Fr G):Option (Fr G):=match d with
 |none=>some F
 |some d=>match ga S d with
  |some v=>bif v.lt nx&&alp A ws i v then some ((d,v)::F)else none
  |none=>none
def rdN(O:Os G):List (Nat×Sh)->AV G->List Nat×List Nat
 |(_,s)::l, .cons (.ptr q []) p=>match rdN O l p,ga O q with
  |(rd,ac),some (.eL _ c)=>match Ak O s c,aaL s c with
   |[],false=>(q::(Dr O s c++rd),ac)
   |b,_ =>(Dr O s c++rd,q::(b++ac))
  |(rd,ac),_ =>(rd,ac)
 |_,_ =>([],[])
def afK(C:CC G)(O:Os G)(nx:Nat)(aoT:AV G):List (Ct P G)->Option (List Nat×List Nat)
 |[]=>none
 |ct::r=>match HH C O nx ct.s aoT,alV C O ct.s aoT,akg C O ct.s aoT with
  |none,[],[]=>afK C O nx aoT r
  |_,_,_ =>match TF (O++y6 C) ct.s.Qv 0 ct.s.yH aoT with
   |some pv=>match rdN O ct.s.Qv pv with
    |(rd,ac)=>some (rd,Dr O ct.s.yH aoT++ac)
   |none=>none
def al1(tb:Ba P G)(C:CC G)(S:AS G)(all:Array Oper)(o:Oper):List Nat×List Nat:=bif anu C S o.op then(MI (rdF o.op) C S o.op.operands.toList,[])else match o.op with
 | .store _ x y=>([],MI UT C S [x]++MI QH C S [y])
 | .alloc _ =>([],[])
 | .box _ _ =>([],[])
 | .panic _ =>([],[])
 | .buildSlice _ _ _ =>([],MI QH C S o.op.operands.toList)
 | .call ⟨.builtin _,_,_⟩=>([],MI QH C S o.op.operands.toList)
 | .call ⟨.value f,x,t⟩=>match Rz C S (match o.guard with
   |some (j,w)=>(match Lv all j with
    |some dj=>chain C S 8 dj w
    |none=>[])
   |none=>[]) (.call ⟨.value f,x,t⟩)with
  |some (k,aoT)=>(match afK C S.O S.nx aoT (tb.calls k)with
   |some p=>p
   |none=>([],UL S.O 3 (MI yd C S o.op.operands.toList)))
  |none=>([],UL S.O 3 (MI yd C S o.op.operands.toList))
 |_ =>([],UL S.O 3 (MI yd C S o.op.operands.toList))
def drS{Z:Type}(tb:Ba P G)(rec:WT G Z)(N:Nat)(cp:List Nat)(C:CC G)(ops:Array Oper)(A:List Nat)(ws:List (Nat×Nat))(F0:Fr G)(D0:List (AV G))(o:Oper)(i:Nat)(T:DS G)(kn:DS G->List Nat->List Nat->Option Z)(kp:AV G->AS G->List Nat->List Nat->Option Z):Option Z:=
 match nv (λd=>Er A i d ws) T.F with
 |Fi=>match al1 tb (⟨F0,[],[]⟩::C) ⟨Fi,T.M,T.nx,[]⟩ ops o with
  |(rd,ac)=>match(⟨F0,dS (λq=>fe rd q&& !fe ac q) T.M,D0⟩:Ly G)with
   |ly=>bif Bj T.nx (ly::C)&&(ltF T.nx Fi&&zW T.nx (dS (fe ac) T.M))then rec N cp (ly::C) (.ops ops [o]) ⟨Fi,dS (fe ac) T.M,T.nx,[]⟩ λe S1=>match e,S1.D with
     | .o5,[]=>bif Nat.ble T.nx S1.nx&&(zW S1.nx S1.O&&okL A i rd ac (mZ S1.O) T.lg)then(match agE A ws i S1.nx o.dst T.F S1.F with
      |some F'=>kn ⟨F',S1.O++dS (λq=> !fe ac q) T.M,S1.nx,⟨i,rd,ac,mZ S1.O⟩::T.lg⟩ ac (mZ S1.O)
      |none=>none)else none
     | .zP v,[]=>bif Nat.ble T.nx S1.nx&&(okL A i rd ac [] T.lg&&(okU A i T.lg&&zW T.nx T.M))then kp v ⟨F0,S1.O++dS (λq=> !fe ac q) (dS (λq=> !fe (unN A i T.lg) q) T.M),S1.nx,D0⟩ rd ac else none
     |_,_ =>none
    else none
def akf:List Nat->Bool
 |[]=>true
 |_ =>false
def drP{Z:Type}(tb:Ba P G)(rec:WT G Z)(N:Nat)(cp:List Nat)(C:CC G)(ops:Array Oper)(A:List Nat)(ws:List (Nat×Nat))(F0:Fr G)(D0:List (AV G))(j:Nat)(zj:List Nat)(k:Option Z):List Oper->Nat->DS G->Option Z
 |[],_,_ =>k
 |o::r,i,T=>bif qN A i j then drP tb rec N cp C ops A ws F0 D0 j zj k r (i+1) T else drS tb rec N cp C ops A ws F0 D0 o i T (λT' ac nw=>bif akf ac&&TO nw zj then drP tb rec N cp C ops A ws F0 D0 j zj k r (i+1) T' else none) (λ_ _ _ _ =>none)
def Lx{Z:Type}(tb:Ba P G)(rec:WT G Z)(N:Nat)(cp:List Nat)(C:CC G)(ops:Array Oper)(A:List Nat)(ws:List (Nat×Nat))(F0:Fr G)(D0:List (AV G))(K:Ex G->AS G->Option Z):List Oper->Nat->DS G->Option Z
 |[],_,T=>K .o5 ⟨T.F++F0,T.M,T.nx,D0⟩
 |o::r,i,T=>drS tb rec N cp C ops A ws F0 D0 o i T (λT' _ _ =>Lx tb rec N cp C ops A ws F0 D0 K r (i+1) T') (λv S' rd ac=>drP tb rec N cp C ops A ws F0 D0 i (rd++ac) (K (.zP v) S') r (i+1) T)
def drR{Z:Type}(tb:Ba P G)(rec:WT G Z):WT G Z:=λN cp C cf S K=>match cf with
 | .ops ops l=>match JE ops ops.size,Ce 0 ops.toList with
  |A,ws=>bif WN A ws ws&&(XL ops []&&P.follows .mixedOrders)then
   (match nv (λd=> !(wrD d ws)&& !Xf ws S.F d) S.F with
   |F0=>Lx tb rec N cp C ops A ws F0 S.D K l 0 ⟨nv (λd=>wrD d ws&& !Xf ws S.F d) S.F,S.O,S.nx,[]⟩)else none
 |_ =>none
def lyR(ps:List Nat)(a b:Code)(C:CC G)(S1:AS G)(O:Os G):CC G:=[⟨nv (λd=> !fe (ps++(M1 a++M1 b)) d) (S1.F++flF C),(S1.nx+1, .aux false)::(O++y6 C),[]⟩]
def rgW{Z:Type}(rec:WT G Z)(N:Nat)(cp:List Nat)(C:CC G)(ps:List Nat)(a b:Code)(S1:AS G)(K:Ex G->AS G->Option Z)(g:gA)(it:It P G)(l:List it.B)(O:Os G)(x0:HL G (br (v8 g.l))):Option Z:=
 itE (br (v8 g.l)) (λy go e=>NM N (lyR ps a b C S1 O) ps (iA (λm=>m) it.ys (it.en y) 0).1 (stR g (S1.nx+2) e) λS2=>rec N cp (lyR ps a b C S1 O) (.code a) S2 λe1 S3=>match e1 with
  | .o5=>rec N cp (lyR ps a b C S1 O) (.code b) S3 λe2 S4=>match e2 with
   | .o5=>match Lf (lyR ps a b C S1 O) (pF (lyR ps a b C S1 O) S4 g.l) g (S1.nx+2)with
    |some e=>go e
    |none=>none
   | .ret=>bif ZY S4.D then K .ret (WM S1.nx S1 O S4)else none
   | .exit i=>bif ZY S4.D then K (.exit i) (WM S1.nx S1 O S4)else none
   | .zP _ =>none
  |_ =>none) (λe=>K .o5 (WM S1.nx S1 O (stR g (S1.nx+2) e))) l x0
def rgK{Z:Type}(rec:WT G Z)(N:Nat)(cp:List Nat)(C:CC G)(ps:List Nat)(a b:Code)(k:Nat)(cap:AV G)(gl:List (XF×Sh))(S:AS G)(K:Ex G->AS G->Option Z):List (It P G)->Option Z
 |[]=>none
 |it::q=>match qK it.yH cap ⟨[],S.O,S.nx⟩with
  |none=>rgK rec N cp C ps a b k cap gl S K q
  |some (x,g1)=>match rsv C ⟨S.F,g1.O,g1.nx,S.D⟩ gl with
   |some g=>match pF C ⟨S.F,g1.O,g1.nx,S.D⟩ g.l with
    |S1=>match G7 C ⟨S1.F,S1.O,S1.nx+2,S1.D⟩ g.l with
     |some v=>match qK (v8 g.l) v ⟨[],S1.O,S1.nx+2⟩with
      |some (x0,g2)=>bif (Nat.beq it.k k&&Nat.beq it.n ps.length&&K0 (y6 C))&&(zS g.nm g2.th&&zT (S1.nx+2) g.nm&&Bj (S1.nx+2) (lyR ps a b C S1 g2.O))&&((zW (S1.nx+2) g2.O&&psN N ps)&&Bj (S1.nx+2) C)then bd (it.f x) λl=>rgW rec N cp C ps a b S1 K g it l g2.O x0 else none
      |none=>none
     |none=>none
   |none=>none
noncomputable def step{Z:Type}(tb:Ba P G)(rec:WT G Z):WT G Z:=λN cp C cf S K=>match cf with
 | .ops _ []=>K .o5 S
 | .ops all (o::r)=>match o.guard with
  |none=>wOp tb rec N cp C all r o S K
  |some (j,w)=>match Lv all j with
   |some dj=>match gkn C S 8 dj w with
    |some true=>wOp tb rec N cp C all r o S K
    |some false=>(match yC N C o.dst .YA S with
     |some S'=>rec N cp C (.ops all r) S' K
     |none=>none)
    |none=>match TA C S 8 dj w,pvA tb.tt tb.zt C S (chain C S 8 dj w) o.op with
     |some g,some (gs,v)=>guG g gs (match yC N C o.dst (.gd dj w v) S with
      |some S'=>rec N cp C (.ops all r) S' K
      |none=>none)
     |g,_ =>ctT tb rec N cp C all r o S K dj w (match Nw C S 8 dj with
      |some (k,b)=>cn b (rec N cp C (.ops all (o::r)) {S with F:=(k, .kb true)::S.F} K) (rec N cp C (.ops all (o::r)) {S with F:=(k, .kb false)::S.F} K)
      |none=>none) g (Rz C S (chain C S 8 dj w) o.op)
   |none=>none
 | .code c=>match c with
  | .skip=>K .o5 S
  | .label _ =>K .o5 S
  | .ret=>K .ret S
  | .exit i=>K (.exit i) S
  | .region _ ops false=>rec N cp C (.ops ops ops.toList) S K
  | .region _ ops true=>drR tb rec N cp C (.ops ops ops.toList) S K
  | .block i x=>rec N cp C (.code x) S λe S'=>match e with
   | .exit j=>bif Nat.beq i j then K .o5 S' else K (.exit j) S'
   |e=>K e S'
  | .cond x a b=>match mK C S [] x with
   |some (.bool t)=>cn t (rec N cp C (.code a) S K) (rec N cp C (.code b) S K)
   |some (.kb t)=>rec N cp C (.code (bif t then a else b)) S K
   |_ =>none
  | .seq x y=>match(match Ww y with
    |some i=>tb.hint cp (i+i)
    |none=>none)with
   |some (.join gl ex)=>match rsv C S gl,YI C S gl++QG C S ex with
    |some g,thr=>(match(⟨nv (λd=> !(fe (M1 x) d||B7 g.l d)) S.F,dS (λq=> !fe thr q) S.O,S.D⟩:Ly G),(⟨nv (λd=>fe (M1 x) d||B7 g.l d) S.F,dS (fe thr) S.O,S.nx,[]⟩:AS G)with
    |ly,S0=>bif Bj S.nx (ly::C)then jnE tb.jw (br (v8 g.l)) (λe=>rec N cp C (.code y) (PX ly (ME g S.nx e)) K) λj=>rec N cp (ly::C) (.code x) S0 λe S1=>match e with
       | .o5=>match Lf (ly::C) (pF (ly::C) S1 g.l) g S.nx with
        |some e=>j e
        |none=>none
       |e=>K e (PX ly S1)
     else none)
    |none,_ =>none
   |_ =>rec N cp C (.code x) S λe S'=>match e with
    | .o5=>rec N cp C (.code y) S' K
    |e=>K e S'
  | .loop x=>match(match Ww x with
    |some i=>tb.hint cp (i+i+1)
    |none=>none)with
   |some (.loop gl)=>(match rsv C S gl with
    |none=>none
    |some g=>match pF C S g.l with
    |S=>match G7 C S g.l with
    |some v=>match qK (v8 g.l) v ⟨[],S.O,S.nx⟩with
     |some (x0,g')=>bif zS g.nm g'.th&&zT S.nx g.nm then
       (match(⟨nv (λd=> !(fe (M1 x) d||B7 g.l d)) S.F,g'.O,S.D⟩:Ly G)with
       |ly=>bif Bj S.nx (ly::C)then lpV (tb.vw (match Ww x with
        |some i=>i
        |none=>0) (br (v8 g.l))) (λgo e=>rec N cp (ly::C) (.code x) (ME g S.nx e) λe1 S1=>match e1 with
         | .o5=>match Lf (ly::C) (pF (ly::C) S1 g.l) g S.nx with
          |some e=>go e
          |none=>none
         |e1=>K e1 (PX ly S1)) tb.fu x0
        else none)
      else none
     |none=>none
    |none=>none)
   |_ =>none
  | .rangeFunc g ps a b=>match mK C S [] g,(match Ww (.seq a b)with
    |some i=>tb.hint cp (i+i+1)
    |none=>none)with
   |some (.fn (.func k) .nil cap),some (.loop gl)=>rgK rec N cp C ps.toList a b k cap gl S K (tb.its k)
   |_,_ =>none
  |_ =>none
noncomputable def W{Z:Type}(tb:Ba P G):Nat->WT G Z
 |0=>λ_ _ _ _ _ _ =>none
 |n+1=>step tb (W tb n)
end Go.Rw
