/- Part 4 of what a proof leans on; pruned and shortened by a program out of longer texts. -/
import Derived.Test.YtjabpidfkmhbbaaGreatDoorQ3
namespace Go.Rw
open Go Go.Bw Go.RowKit
variable {G:Sg} {P:Program} {tt:TT P G} {J:World->Prop} {ρ:aP} {a:Act} {w:World} {d:Option Tmp} {ty:TypeId} {ps:String} {af:Array Edge} {g:Option (Nat×Bool)}
 {N:Nat} {c:Cx} {D:List Deferred} {H:List av} {E:Operand->Option (AV G)} {ob:Nat->Option (Ob G)}
structure Ht(J:World->Prop)(ρ:aP)(N:Nat)(c:Cx)(D:List Deferred)(H:List av)(ob:Nat->Option (Ob G))(a:Act)(w:World):Prop where
 st:St N c D (kN a) H a w
 kn:Kn c H J
 ob:∀r o,ob r=some o->∃x∈H,ro J ρ r o x
def xn(P:Program)(c:Cx)(J:World->Prop)(ρ:aP)(o:Oper)(a:Act)(w:World)(v:AV G):Prop:=∃u,rv J ρ v u/\VK P c o a w u
theorem lD{r:Nat}{p:List oJ}{u:Value}(h:rv (G:=G) J ρ (.ptr r p) u):∃b o,PB ρ r p b o/\u=cj b (o+cQ p)/\∀s∈p,s.ok:=by obtain⟨⟨b,o,h1,h2⟩,h3⟩:=h;cases h2;exact⟨b,o,h1,rfl,h3⟩
theorem ET{r:Nat}{p q:List oJ}{b o:Nat}(h:PB ρ r p b o)(hp:∀s∈p,s.ok)(hq:∀s∈q,s.ok):rv (G:=G) J ρ (.ptr r (p++q)) (cj b (o+cQ p+cQ q)):=by
 refine⟨⟨b,o,h.app,by rw[EX,Nat.add_assoc]⟩,λs hs=>?_⟩;rcases List.mem_append.1 hs with h|h
 ·exact hp s h
 ·exact hq s h
theorem He{v:AV G}{k:IntKind}{n:Int}{q:Bool}{u:Value}(h:XB v=some (k,n,q))(hv:rv J ρ v u):u= .int k n:=by unfold XB at h;split at h<;>cases h<;>(have hv:[u]=_ :=hv;cases hv;rfl)
theorem qM(hE:v9 J ρ a E){x:Operand}{k:IntKind}{n:Int}{q:Bool}(h:iZ (E x)=some (k,n,q)):a.eval x= .int k n/\Bw.ev (kN a) x=some (.int k n):=by
 unfold iZ at h;split at h
 ·rename_i v hx
  have e:=He h (hE.ok _ _ hx);exact⟨e,e▸hE.ev _ _ hx⟩
 ·cases h
theorem La(hm:Ht (G:=G) J ρ N c D H ob a w)(hE:v9 J ρ a E){o:BinOp}{T U:Nat}{x y:Operand}{va vb v:AV G}{gs:List Bool}(h:Lc tt o T va vb=some (gs,v))(hg:∀b∈gs,b=true)(hx:E x=some va)(hy:E y=some vb):
  xn P c J ρ ⟨d, .binOp o T x y U,ty,ps,af,g⟩ a w v:=by
 have ex:=hE.ok _ _ hx;have ey:=hE.ok _ _ hy;have fx:=hE.ev _ _ hx;have fy:=hE.ev _ _ hy;unfold Lc at h;split at h
 ·rename_i k m _ l n qq h1 h2
  have ex:=He h1 ex;have ey:=He h2 ey;rw[ex]at fx;rw[ey]at fy;unfold Qa at h;split at h
  ·cases h;exact⟨_,rfl,(IB fx fy (Qv (yE hg))).vk hm.st⟩
  ·cases h;exact⟨_,rfl,(Eu fx fy (Qv (yE hg))).vk hm.st⟩
  ·cases hb:Cw k l with
   |false=>rw[hb]at h;cases h
   |true=>rw[hb]at h;obtain rfl:=wD hb;obtain⟨u,h1,h2⟩:=K4 (J:=J) (ρ:=ρ) (w:=w) (P:=P) (d:=d) (ty:=ty) (ps:=ps) (af:=af) (g:=g) (T:=T) (U:=U) h hg ex ey;exact⟨u,h2,VK.run (by simp) h1⟩
 ·unfold Lb at h
  split at h
  ·rename_i h1 h2
   have ex:=xk h1 ex;have ey:=xk h2 ey;rw[ex]at fx;rw[ey]at fy;split at h
   ·rename_i ht;cases h;haveI:=(tt.bool ht).1;exact⟨_,rfl,(PJ fx fy).vk hm.st⟩
   ·rename_i ht;cases h;haveI:=(tt.bool ht).1;exact⟨_,rfl,(PD fx fy).vk hm.st⟩
   ·cases h
  ·split at h
   ·have ey:a.eval y= .pointer none:=(List.cons.inj (show[a.eval y]=[Value.pointer none]from ey)).1
    rw[ey]at fy;split at h
    ·rename_i b hb ht
     cases h;obtain⟨p1,p2⟩:=Fb hb ex;cases b with
     |true=>obtain⟨m,n,e⟩:=p1 rfl;rw[e]at fx;exact⟨_,rfl,(PK (tt.ptr ht) fx fy).vk hm.st⟩
     |false=>rw[p2 rfl]at fx;exact⟨_,rfl,(M1 (tt.ptr ht) fx fy).vk hm.st⟩
    ·rename_i b hb ht
     cases h;obtain⟨p1,p2⟩:=Fb hb ex;cases b with
     |true=>obtain⟨m,n,e⟩:=p1 rfl;rw[e]at fx;exact⟨_,rfl,(PE (tt.ptr ht) fx fy).vk hm.st⟩
     |false=>rw[p2 rfl]at fx;exact⟨_,rfl,(MX (tt.ptr ht) fx fy).vk hm.st⟩
    ·cases h
   ·cases h
theorem BV{e:Ty}{xs:List (e.T G)}{p:List oJ}{u:Value}(h:rv J ρ (.ND e xs p) u):∃v ws,yP J v (e.L G) ws xs/\u=dK v (cQ p)/\(∀s∈p,s.ok)/\∃i q,p= .idx xs.length (e.L G).n i::q/\i.toNat<xs.length:=by obtain⟨v,ws,h1,h2,h3,n,sz,i,q,rfl,rfl,rfl⟩:=h;cases h2;refine⟨v,ws,h1,rfl,h3,i,q,rfl,?_⟩;exact(bz (h3 _ List.mem_cons_self)).2
theorem Ft{e:Ty}{xs:List (e.T G)}{p:List oJ}{v:Value}{ws:List Value}{i:Int}{q:List oJ}{s:oJ}(h1:yP J v (e.L G) ws xs)(h3:∀s∈p,s.ok)(hp:p= .idx xs.length (e.L G).n i::q)(hs:s.ok):rv J ρ (.ND e xs (p++[s])) (dK v (cQ p+s.off)):=by
 refine⟨v,ws,h1,by rw[EX];simp[cQ],λs' hs'=>?_,xs.length,(e.L G).n,i,q++[s],by rw[hp];rfl,rfl,rfl⟩;rcases List.mem_append.1 hs' with h|h
 ·exact h3 _ h
 ·simp at h;subst h;exact hs
theorem DN{r e sz:Nat}{t:Ty}{xs:List (t.T G)}(hm:Ht (G:=G) J ρ N c D H ob a w)(h:ob r=some (.row e sz t xs)):∃v ws,ρ r=some v/\qu v xs.length/\mF c H v sz xs.length ws/\(LA (t.L G) xs.length).dJ J ws (λi=>xs.getD i default)/\(t.L G).n=sz:=by obtain⟨x,hx,v,ws,h1,h2,h3,h4,h5⟩:=hm.ob _ _ h;subst h2;exact⟨v,ws,h1,h3,⟨λw' _ hp=>Ro.rU (hp.holds _ hx)⟩,h4,h5⟩
theorem qh{r:Nat}{u v:Value}(h:rv (G:=G) J ρ (.row r) u)(hv:ρ r=some v):u=v:=by obtain⟨a0,n,cap,h1,h2⟩:=h;cases h2;rw[h1]at hv;exact Option.some.inj hv
theorem Ol(hm:Ht (G:=G) J ρ N c D H ob a w)(hE:v9 J ρ a E){T:Nat}{x y:Operand}{va v:AV G}{k:IntKind}{i:Int}{qq:Bool}{gs:List Bool}(h:Rt tt ob T va i qq=some (gs,v))(hg:∀b∈gs,b=true)(hx:E x=some va)(hy:iZ (E y)=some (k,i,qq)):
  xn P c J ρ ⟨d, .indexAddr T x y,ty,ps,af,g⟩ a w v:=by
 have ex:=hE.ok _ _ hx;have fx:=hE.ev _ _ hx;have fy:=(qM hE hy).2;unfold Rt at h;split at h
 ·rename_i r p n _ sz _ ht
  cases h;have hi:=yE hg;obtain⟨b,o,h1,h2,h3⟩:=lD ex;rw[h2]at fx;haveI:=tt.iK ht;refine⟨cj b (o+cQ p+i.toNat*sz),?_,(FM (m:=i.toNat) fx fy (bz hi).1 (bz hi).2).vk hm.st⟩;exact ET h1 h3 (q:=[.idx n sz i]) (λs hs=>by simp at hs;subst hs;exact hi)
 ·rename_i e xs p n _ sz _ ht
  cases h;have hi:=yE hg;obtain⟨vv,ws,h1,h2,h3,j,q,h4,h5⟩:=BV ex;rw[h2]at fx;haveI:=tt.iK ht;haveI:=hm.kn;refine⟨dK vv (cQ p+i.toNat*sz),Ft h1 h3 h4 (s:= .idx n sz i) hi,(PF (m:=i.toNat) h1 fx fy h5 (bz hi).1 (bz hi).2).vk hm.st⟩
 ·rename_i r _ sz _ ht
  split at h
  ·rename_i e' sz' t xs ho
   cases hb:Nat.beq sz sz' with
   |false=>rw[hb]at h;cases h
   |true=>rw[hb]at h;cases h;obtain rfl:=aa7 hb;have hi:=hg _ List.mem_cons_self;obtain⟨vv,ws,h1,h2,h3,h4,h5⟩:=DN hm ho;have e1:=qh ex h1;rw[e1]at fx;haveI:=(tt.sl ht).1;obtain⟨gb,off,cap,e2,_⟩:=((h3.ro w hm.st.si hm.st.hp).at (bz hi).2);subst e2;refine⟨_,?_,(sE (m:=i.toNat) fx fy (bz hi).1 (bz hi).2).vk hm.st⟩;obtain⟨a0,cp,e4⟩:=h2;have e5:xs.length=_ :=rfl;refine⟨⟨gb,off, .inr ⟨_,_,_,_,_,_,h1,rfl,(bz hi).2⟩,?_⟩,λs hs=>by simp at hs;subst hs;exact hi⟩;simp[dK,cQ,oJ.off]
  ·cases h
 ·rename_i e xs _ sz _ ht
  cases hb:Nat.beq sz (e.L G).n with
  |false=>rw[hb]at h;cases h
  |true=>rw[hb]at h;cases h;have hs:=aa7 hb;have hi:=hg _ List.mem_cons_self;obtain⟨u',e1,hr,_,hc⟩:=ex;cases e1;have hc:=hc rfl;obtain⟨v',ws,e2,hf⟩:=hr;rw[hc]at e2;cases e2;haveI:=(tt.sl ht).1;haveI:=hm.kn;refine⟨_,?_,(TB (m:=i.toNat) hf hs.symm fx fy (bz hi).1 (bz hi).2).vk hm.st⟩;refine⟨_,ws,hf,by simp[cQ,oJ.off],λs hs'=>by simp at hs';subst hs';exact hi,_,_,_,[],rfl,rfl,hs⟩
 ·cases h
theorem zx{T:Nat}{v:AV G}{u:Value}(h:ry tt T v=true)(hv:rv J ρ v u):(mV P T/\u.cells= #[u]/\v.one=true)\/∃n,p4 P T n/\u.cells.size=n/\n≠0/\u= .agg u.cells:=by
 unfold ry at h;split at h
 ·rename_i e he
  split at h
  ·rename_i hs;exact .inl ⟨tt.one he hs,(Bt h hv).1,h⟩
  ·rename_i n hs
   split at h
   ·rename_i m hc
    simp only[aa8,Bool.not_eq_true']at h;obtain rfl:=aa7 h.1;have hn:n≠0:=λe0=>by rw[e0]at h;simp at h
    have hag:=tt.agg he hs;refine .inr ⟨n,hag,?_,hn,?_⟩
    ·unfold AV.cw at hc
     split at hc
     ·rename_i t x
      cases ha:t.ag with
      |false=>rw[ha]at hc;cases hc
      |true=>rw[ha]at hc;cases hc;obtain⟨u',e1,h1,h2,_⟩:=hv;cases e1;rw[← Array.length_toList];exact(t.L G).len h1
     ·obtain⟨cs,e1,h1,_⟩:=hv
      cases e1;exact ux hc h1
     ·cases hc
    ·unfold AV.cw at hc
     split at hc
     ·rename_i t x
      cases ha:t.ag with
      |false=>rw[ha]at hc;cases hc
      |true=>obtain⟨u',e1,h1,h2,_⟩:=hv;cases e1;obtain⟨cs,rfl⟩:=h2 ha;rfl
     ·obtain⟨cs,e1,h1,_⟩:=hv
      cases e1;rfl
     ·cases hc
   ·cases h
 ·cases h
theorem uf{cs:List Value}{o:Nat}{u:Value}(h:(cs.drop o).take 1=[u]):cs[o]? =some u:=by
 have h2:((cs.drop o).take 1)[0]? =some u:=by rw[h];rfl
 rw[List.getElem?_take,aa5 (by decide),List.getElem?_drop]at h2;exact h2
theorem RL(hm:Ht (G:=G) J ρ N c D H ob a w){T b o T':Nat}{x:Operand}{cs:List Value}{v:AV G}{u:Value}(hfit:ry tt T v=true)(hv:rv J ρ v u)(hx:Bw.ev (kN a) x=some (cj b o))(hc:av.cells b T' cs∈H)(h:(cs.drop o).take u.cells.size=u.cells.toList):
  xn P c J ρ ⟨d, .load T x,ty,ps,af,g⟩ a w v:=by
 haveI:nZ H b T' cs:=⟨hc⟩;rcases zx hfit hv with⟨h1,h2,_⟩|⟨n,h1,h2,_,h3⟩
 ·haveI:=h1
  refine⟨u,hv,(oG hx (uf ?_)).vk hm.st⟩;rw[h2]at h;exact h
 ·haveI:=h1
  subst h2;have e:u= .agg u.cells.toList.toArray:=by rw[Array.toArray_toList];exact h3
  refine⟨.agg u.cells.toList.toArray,by rw[← e];exact hv,(Ap hx h (by simp)).vk hm.st⟩
theorem Lz(hm:Ht (G:=G) J ρ N c D H ob a w){T o sz n:Nat}{x:Operand}{vv:Value}{ws:List Value}{v:AV G}{u:Value}(hfit:ry tt T v=true)(hv:rv J ρ v u)(hx:Bw.ev (kN a) x=some (dK vv o))(hr:mF c H vv sz n ws)(h:(ws.drop o).take u.cells.size=u.cells.toList):
  xn P c J ρ ⟨d, .load T x,ty,ps,af,g⟩ a w v:=by
 haveI:=hr;rcases zx hfit hv with⟨h1,h2,_⟩|⟨n,h1,h2,h0,h3⟩
 ·haveI:=h1
  refine⟨u,hv,(Aq hx (uf ?_)).vk hm.st⟩;rw[h2]at h;exact h
 ·haveI:=h1
  subst h2;have e:u= .agg u.cells.toList.toArray:=by rw[Array.toArray_toList];exact h3
  refine⟨.agg u.cells.toList.toArray,by rw[← e];exact hv,(Ev hx h (by simp) (by omega)).vk hm.st⟩
theorem EV{e:Ty}{n:Nat}{i:Int}{r:List oJ}{q:PL G e}{ws:List Value}{xs:List (e.T G)}{p:List oJ}(hp:p= .idx n (e.L G).n i::r)(hn:i.toNat<xs.length)(h:Bs tt.F e p=some q)(hs:∀s∈p,s.ok)(hr:(LA (e.L G) xs.length).dJ J ws (λi=>xs.getD i default)):
  ∃u,rv J ρ (mk q.m (q.get (xs.getD q.i.toNat default))) u/\(ws.drop (cQ p)).take u.cells.size=u.cells.toList:=by
 subst hp;obtain⟨e1,e3⟩:=EU h hs rfl hn;have hg:=e3.get hr;obtain⟨u,k1,k2⟩:=AZ hg;have hl:=(q.m.L G).len hg;rw[← k1,Array.length_toList]at hl;rw[e1];exact⟨u,C8 k2,by rw[hl,k1]⟩
theorem Ok(hm:Ht (G:=G) J ρ N c D H ob a w)(hE:v9 J ρ a E){T:Nat}{x:Operand}{va v:AV G}(h:Rs tt ob va=some v)(hf:ry tt T v=true)(hx:E x=some va):xn P c J ρ ⟨d, .load T x,ty,ps,af,g⟩ a w v:=by
 have ex:=hE.ok _ _ hx;have fx:=hE.ev _ _ hx;unfold Rs at h;split at h
 ·rename_i r p
  obtain⟨b,o,h1,h2,h3⟩:=lD ex;rw[h2]at fx;split at h
  ·rename_i T' cc ho
   obtain⟨y,hy,b',uu,k1,rfl,k3⟩:=hm.ob _ _ ho;have eb:b=b'/\o=0:=by rcases h1 with h1|⟨n,cap,_,_,_,_,h1,_⟩<;>rw[h1]at k1<;>simp[cj]at k1;exact k1
   obtain⟨rfl,rfl⟩:=eb;rw[Nat.zero_add]at fx;obtain⟨u,m1,m2,m3⟩:=BB h k3 h3;exact RL hm hf m1 fx hy m2
  ·rename_i _ sz t xs ho
   cases hz:LY p sz with
   |false=>rw[hz]at h;cases h
   |true=>
    rw[hz]at h;simp only[cond_true]at h;split at h
    ·rename_i q hq
     cases h;obtain⟨vv,ws,k1,k2,k3,k4,k5⟩:=DN hm ho;have hp:∃n cap n' sz i q',ρ r=some (.slice (some ⟨b,o,none⟩) n cap)/\p= .idx n' sz i::q'/\i.toNat<n:=by
      rcases h1 with h1|h1
      ·obtain⟨a0,cp,e⟩:=k2
       rw[h1,e]at k1;cases k1
      ·exact h1
     obtain⟨n,cap,n',sz',i,q',e1,e2,e3⟩:=hp;subst e2;obtain rfl:=aa7 (show Nat.beq sz' sz=true from hz);rw[e1]at k1;cases k1;obtain⟨a0,cp,e4⟩:=k2;cases e4;subst k5;obtain⟨u,m1,m2⟩:=EV rfl e3 hq h3 k4;exact Lz (vv:= .slice (some ⟨b,o,none⟩) xs.length cap) (o:=cQ (oJ.idx n' (Ty.L G t).n i::q')) hm hf m1 fx k3 m2
    ·cases h
  ·cases h
 ·rename_i e xs p
  obtain⟨vv,ws,h1,h2,h3,i,q',h4,h5⟩:=BV ex;rw[h2]at fx;split at h
  ·rename_i q hq
   cases h;obtain⟨u,m1,m2⟩:=EV h4 h5 hq h3 h1.dJ;haveI:=hm.kn;exact Lz hm hf m1 fx h1.at m2
  ·cases h
 ·cases h
theorem PI{T j:Nat}{o:Nat×Option Nat}{F:cE}{x:Operand}{u v:Value}(hf:Dt P T j o.1 o.2=true)(hx:Bw.ev F x=some u)(hu:∃cs:List Value,u= .agg cs.toArray)(hv:(u.cells.toList.drop o.1).take v.cells.size=v.cells.toList)
  (h1:o.2=none->v.cells= #[v])(h2:∀n,o.2=some n->v.cells.size=n/\v= .agg v.cells):VS P N c ⟨d, .field T x j,ty,ps,af,g⟩ F H v:=
 ax (by simp) λa w hfr _ _ =>by
  obtain⟨cs,rfl⟩:=hu;unfold Dt at hf;rw[aa8]at hf;have hf:=hf.2;split at hf
  ·rename_i fs e1
   split at hf
   ·rename_i fl e2
    rw[aa8]at hf;have ho:=aa7 hf.1;have hf:=hf.2;have hp:(part fl.type cs.toArray fl.offset).run P w= .ok v w:=by
     cases q:o.2 with
     |none=>rw[q]at hf;haveI:mV P fl.type:=⟨hf⟩;have hag:(isAgg fl.type).run P w= .ok false w:=nT w;have:=h1 q;rw[this]at hv;have hv:(cs.drop o.1).take 1=[v]:=hv;have:=uf hv;simp[part,hag,ho,this]
     |some n=>
      rw[q]at hf;haveI:p4 P fl.type n:=⟨hf⟩;have hag:(isAgg fl.type).run P w= .ok true w:=pq w;have hs:(sizeOf fl.type).run P w= .ok n w:=Bw.wV w;obtain⟨q1,q2⟩:=h2 n q;rw[q1]at hv;have hv:(cs.drop o.1).take n=v.cells.toList:=hv;have:(cs.toArray.extract o.1 (o.1+n))=v.cells:=by apply Array.ext';rw[← hv];simp[List.extract_eq_take_drop]
      simp only[part,Sem.run_bind,hag,Result.andThen_ok,if_true,hs,ho,Sem.run_pure,this];rw[← q2]
    have ha:(asAgg (.agg cs.toArray)).run P w= .ok cs.toArray w:=rfl;simp[execOp,ay hfr hx,Instr.field,run_underlying e1,e2,ha,hp]
   ·cases hf
  ·cases hf
theorem OL{J:World->Prop}{ρ:aP}{F:Hv G}{v y:AV G}{s:oJ}{u:Value}(h:Dl F v [s]=some y)(hv:rv J ρ v u):∃cs:List Value,u= .agg cs.toArray:=by
 cases v with
 |dat t x=>
  obtain⟨u',e,_,h1,_⟩:=hv;cases e;cases t with
  |st i=>exact h1 rfl
  |iK n e=>exact h1 rfl
  |int k=>simp[Dl,path]at h
  |bool=>simp[Dl,path]at h
  |sl e=>simp[Dl,path]at h
 |st a=>obtain⟨cs,e,_⟩:=hv;cases e;exact⟨cs,rfl⟩
 |_ =>simp[Dl]at h
theorem SF{y:AV G}{o:Option Nat}{u:Value}(h:Fo o y=true)(hv:rv J ρ y u):(o=none->u.cells= #[u])/\∀n,o=some n->u.cells.size=n/\u= .agg u.cells:=by
 cases o with
 |none=>exact⟨λ_ =>(Bt h hv).1,nofun⟩
 |some n=>
  refine⟨nofun,λn' e=>?_⟩;cases e;simp only[Fo]at h;split at h
  ·rename_i m hc
   obtain rfl:=aa7 h;unfold AV.cw at hc;split at hc
   ·rename_i t x
    cases ha:t.ag with
    |false=>rw[ha]at hc;cases hc
    |true=>rw[ha]at hc;cases hc;obtain⟨u',e1,h1,h2,_⟩:=hv;cases e1;obtain⟨cs,e2⟩:=h2 ha;refine⟨by rw[← Array.length_toList];exact(t.L G).len h1,?_⟩;subst e2;rfl
   ·obtain⟨cs,e1,h1,_⟩:=hv
    cases e1;exact⟨ux hc h1,rfl⟩
   ·cases hc
  ·cases h
theorem KV(hm:Ht (G:=G) J ρ N c D H ob a w)(hE:v9 J ρ a E){op:Op}{v:AV G}{gs:List Bool}(h:pv tt ob E op=some (gs,v))(hg:∀b∈gs,b=true):xn P c J ρ ⟨d,op,ty,ps,af,g⟩ a w v:=by
 unfold pv at h;split at h
 ·split at h
  ·rename_i v' hx;cases h;exact⟨_,hE.ok _ _ hx,(bG (hE.ev _ _ hx)).vk hm.st⟩
  ·cases h
 ·split at h
  ·rename_i v' hx;cases h;exact⟨_,hE.ok _ _ hx,(oN (hE.ev _ _ hx)).vk hm.st⟩
  ·cases h
 ·split at h
  ·rename_i va vb hx hy;exact La hm hE h hg hx hy
  ·cases h
 ·split at h
  ·rename_i b hx
   cases h;have e:=vA (hE.ok _ _ hx);have f:=hE.ev _ _ hx;rw[e]at f;exact⟨_,rfl,(zJ f).vk hm.st⟩
  ·rename_i b hx
   cases h;have e:=C9 (hE.ok _ _ hx);have f:=hE.ev _ _ hx;rw[e]at f;exact⟨_,rfl,(zJ f).vk hm.st⟩
  ·cases h
 ·split at h
  ·rename_i k n _ hx
   cases h;exact⟨_,rfl,(MY (qM hE hx).2 rfl).vk hm.st⟩
  ·cases h
 ·split at h
  ·rename_i k n _ l k' hx h1 h2
   cases hb:Cw k l with
   |false=>rw[hb]at h;cases h
   |true=>rw[hb]at h;cases h;obtain rfl:=wD hb;have f:=(qM hE hx).2;haveI:=(tt.int h1).1;haveI:=(tt.int h2).1;exact⟨_,rfl,(IF f rfl).vk hm.st⟩
  ·cases h
 ·split at h
  ·rename_i r p hx
   cases h;have e:=hE.ok _ _ hx;have f:=hE.ev _ _ hx;obtain⟨b,o,_,e2,_⟩:=lD e;refine⟨_,e,?_⟩;rw[e2]at f ⊢;exact(u7 f).vk hm.st
  ·rename_i ff aa cc hx
   cases h;have e:=hE.ok _ _ hx;refine⟨_,e,VK.run (by simp) ?_⟩;obtain⟨fs,cs,e2,_⟩:=e;have e2:=(List.cons.inj e2).1;simp[execOp,e2]
  ·cases h
 ·split at h
  ·rename_i cQ n ht
   split at h
   ·rename_i o ho
    haveI:=tt.Ag ht ho;split at h
    ·rename_i r p hx
     cases h;have f:=hE.ev _ _ hx;obtain⟨b,o',h1,h2,h3⟩:=lD (hE.ok _ _ hx);rw[h2]at f;refine⟨_,ET h1 h3 (q:=[.Ag _ o.1]) (λs hs=>by simp at hs;subst hs;trivial),?_⟩;exact(yG f).vk hm.st
    ·rename_i e xs p hx
     cases h;have f:=hE.ev _ _ hx;obtain⟨vv,ws,h1,h2,h3,i,q,h4,h5⟩:=BV (hE.ok _ _ hx);rw[h2]at f;haveI:=hm.kn;exact⟨_,Ft h1 h3 h4 (s:= .Ag _ o.1) trivial,(PG h1 f h5).vk hm.st⟩
    ·cases h
   ·cases h
  ·cases h
 ·split at h
  ·rename_i cQ n ht
   split at h
   ·rename_i o ho
    split at h
    ·rename_i va hx
     split at h
     ·rename_i y hy
      cases hb:Fo o.2 y with
      |false=>rw[hb]at h;cases h
      |true=>rw[hb]at h;cases h;have e:=hE.ok _ _ hx;obtain⟨u,k1,k2,k3⟩:=BB hy e (λs hs=>by simp at hs;subst hs;trivial);obtain⟨q1,q2⟩:=SF hb k1;exact⟨u,k1,(PI (tt.fs ht ho) (hE.ev _ _ hx) (OL hy e) k2 q1 q2).vk hm.st⟩
     ·cases h
    ·cases h
   ·cases h
  ·cases h
 ·split at h
  ·rename_i va k i _ hx hy;exact Ol hm hE h hg hx hy
  ·cases h
 ·split at h
  ·rename_i n e f k i _ m te sz tot hx hy ht
   cases hb:(Nat.beq n m&&(Nat.beq sz (e.L G).n&&ry tt te (mk e (f i.toNat))))with
   |false=>rw[hb]at h;cases h
   |true=>
    rw[hb]at h;cases h;simp only[aa8]at hb;obtain rfl:=aa7 hb.1;have hs:=aa7 hb.2.1;have hi:=yE hg;have fx:=hE.ev _ _ hx;have fy:=(qM hE hy).2;haveI:=tt.iK ht;have ex:=hE.ok _ _ hx;obtain⟨u',e1,h1,h2,_⟩:=ex;cases e1;obtain⟨cs,e2⟩:=h2 rfl;rw[e2]at fx h1;have hp:=aM.idx (L:=e.L G) (m:=n) i.toNat (bz hi).2 hs;have hgt:=hp.get h1;obtain⟨u,k1,k2⟩:=AZ hgt;have hl:=(e.L G).len hgt;have hv:rv J ρ (mk e (f i.toNat)) u:=C8 k2;rcases zx hb.2.2 hv with⟨m1,m2,_⟩|⟨q,m1,m2,_,m3⟩
    ·haveI:=m1
     rw[m2]at k1;have hn:(e.L G).n=1:=by rw[← hl, ← k1];rfl
     rw[hn]at k1;exact⟨u,hv,(Dx (m:=i.toNat) fx fy (bz hi).1 (bz hi).2 (uf k1.symm)).vk hm.st⟩
    ·haveI:=m1
     have e3:u= .agg u.cells.toList.toArray:=by rw[Array.toArray_toList];exact m3
     refine⟨.agg u.cells.toList.toArray,by rw[← e3];exact hv,(Dw (m:=i.toNat) (q:=q) (us:=u.cells.toList) fx fy (bz hi).1 (bz hi).2 ?_).vk hm.st⟩;rw[hs];rw[hs]at k1;exact k1.symm
  ·rename_i pa k i _ m te sz tot hx hy ht
   split at h
   ·rename_i wd y hp
    cases hb:(Nat.beq wd sz&&ry tt te y)with
    |false=>rw[hb]at h;cases h
    |true=>
     rw[hb]at h;cases h;simp only[aa8]at hb;obtain rfl:=aa7 hb.1;have hi:=yE hg;have fx:=hE.ev _ _ hx;have fy:=(qM hE hy).2;haveI:=tt.iK ht;obtain⟨cs,e1,h1,_⟩:=hE.ok _ _ hx;rw[(List.cons.inj e1).1]at fx;obtain⟨u,hv,k1,k2,_⟩:=zg hp h1;rcases zx hb.2 hv with⟨m1,m2,_⟩|⟨q,m1,m2,_,m3⟩
     ·haveI:=m1
      rw[m2]at k1;have hn:wd=1:=by rw[← k2, ← Array.length_toList,m2];rfl
      subst hn;exact⟨u,hv,(Dx (m:=i.toNat) fx fy (bz hi).1 (bz hi).2 (uf k1)).vk hm.st⟩
     ·haveI:=m1
      have e3:u= .agg u.cells.toList.toArray:=by rw[Array.toArray_toList];exact m3
      exact⟨.agg u.cells.toList.toArray,by rw[← e3];exact hv,(Dw (m:=i.toNat) (q:=q) (us:=u.cells.toList) fx fy (bz hi).1 (bz hi).2 k1).vk hm.st⟩
   ·cases h
  ·cases h
 ·split at h
  ·rename_i va hx
   split at h
   ·rename_i y hy
    cases hb:ry tt _ y with
    |false=>rw[hb]at h;cases h
    |true=>rw[hb]at h;cases h;exact Ok hm hE hy hb hx
   ·cases h
  ·cases h
 ·split at h
  ·rename_i l hx
   split at h
   ·rename_i v' hn
    cases h;obtain⟨vs,e,hl⟩:=hE.ok _ _ hx;have f:=hE.ev _ _ hx;rw[(List.cons.inj e).1]at f;obtain⟨u,h1,h2⟩:=DZ hn hl;exact⟨u,h2,(mU f h1).vk hm.st⟩
   ·cases h
  ·cases h
 ·rename_i fn first cap
  split at h
  ·rename_i aa cc h1 h2
   cases h;obtain⟨i1,_⟩:=se hE h1;obtain⟨j1,_⟩:=se hE h2;refine⟨.func fn (first.map a.eval) (cap.map a.eval),⟨_,_,?_,i1,j1⟩,VK.run (by simp) (by simp[execOp,Instr.makeFunc])⟩;congr 1;simp[← Array.toList_map]
  ·cases h
 ·split at h
  ·rename_i v' k hx ht
   cases h;haveI:=(tt.int ht).1;exact⟨_,⟨_,rfl,hE.ok _ _ hx⟩,VK.run (by simp) (by simp[execOp,Instr.makeInterface,run_underlying (M6.ok (k:=k))])⟩
  ·cases h
 ·rename_i args Cv
  obtain⟨args⟩:=args;obtain⟨Cv⟩:=Cv;split at h
  ·rename_i x T ea et
   dsimp only at ea et;subst ea et;split at h
   ·rename_i r e sz b hx ht
    split at h
    ·rename_i e' sz' t xs ho
     cases h;obtain⟨vv,ws,h1,h2,h3,h4,h5⟩:=DN hm ho;have fx:=hE.ev _ _ hx;rw[qh (hE.ok _ _ hx) h1]at fx;haveI:=(tt.sl ht).1;exact⟨_,rfl,(Hj fx).vk hm.st⟩
    ·cases h
   ·rename_i e xs e' sz b hx ht
    cases h;obtain⟨u',e1,hr,_,hc⟩:=hE.ok _ _ hx;cases e1;obtain⟨v',ws,e2,hf⟩:=hr;rw[hc rfl]at e2;cases e2;haveI:=(tt.sl ht).1;haveI:=hm.kn;exact⟨_,rfl,(ID hf (hE.ev _ _ hx)).vk hm.st⟩
   ·rename_i e sz b hx ht
    cases h;have f:=hE.ev _ _ hx;have e1:a.eval x= .slice none 0 0:=(List.cons.inj (show[a.eval x]=[Value.slice none 0 0]from hE.ok _ _ hx)).1;rw[e1]at f;haveI:=(tt.sl ht).1;haveI:=hm.kn;exact⟨_,rfl,(ID (A:=J) (L:=LB) (ws:=[]) (xs:=[]) yP.nil f).vk hm.st⟩
   ·cases h
  ·cases h
 ·rename_i args Cv
  obtain⟨args⟩:=args;split at h
  ·rename_i x y ea
   dsimp only at ea;subst ea;split at h
   ·rename_i k m _ l n _ hx hy
    cases hb:Cw k l with
    |false=>rw[hb]at h;cases h
    |true=>rw[hb]at h;cases h;obtain rfl:=wD hb;have fx:=(qM hE hx).2;have fy:=(qM hE hy).2;exact⟨_,rfl,(Tv fx fy).vk hm.st⟩
   ·cases h
  ·cases h
 ·rename_i args Cv
  obtain⟨args⟩:=args;split at h
  ·rename_i x y ea
   dsimp only at ea;subst ea;split at h
   ·rename_i k m _ l n _ hx hy
    cases hb:Cw k l with
    |false=>rw[hb]at h;cases h
    |true=>rw[hb]at h;cases h;obtain rfl:=wD hb;have fx:=(qM hE hx).2;have fy:=(qM hE hy).2;exact⟨_,rfl,(Tw fx fy).vk hm.st⟩
   ·cases h
  ·cases h
 ·cases h
end Go.Rw
namespace Go.Rw
open Go Go.Bw Go.RowKit
variable {G:Sg} {P:Program} {tt:TT P G} {J J':World->Prop} {ρ ρ':aP} {a:Act} {w:World} {d:Option Tmp} {ty:TypeId} {ps:String} {af:Array Edge} {g:Option (Nat×Bool)}
 {N:Nat} {c:Cx} {HK X:List av} {C:CC G} {S:AS G}
def Lm(C:CC G)(S:AS G)(r:Nat):Option (Ob G):=match cu S.O r with
 |some o=>some o
 |none=>cu (rh C) r
theorem RO.get{O:Os G}{H:List av}(h:RO J ρ O H){r:Nat}{o:Ob G}(e:cu O r=some o):∃(k:Nat) (x:av),H[k]? =some x/\ro J ρ r o x:=by
 induction h with
 |nil=>cases e
 |@cons r0 o0 x0 O H h0 _ ih=>
  simp only[cu]at e;cases hb:Nat.beq r0 r with
  |true=>rw[hb]at e;cases e;obtain rfl:=aa7 hb;exact⟨0,x0,rfl,h0⟩
  |false=>rw[hb]at e;obtain⟨k,x,k1,k2⟩:=ih e;exact⟨k+1,x,by simpa using k1,k2⟩
def mh:Os G->Nat->Ob G->Os G
 |[],_,_ =>[]
 |(k,v)::r,d,o=>bif Nat.beq k d then(k,o)::r else(k,v)::mh r d o
theorem RO.set{O:Os G}{H:List av}(h:RO J ρ O H){r:Nat}{o:Ob G}(e:cu O r=some o):∃(k:Nat) (x:av),H[k]? =some x/\ro J ρ r o x/\∀o' x',ro J ρ r o' x'->RO J ρ (mh O r o') (H.set k x'):=by
 induction h with
 |nil=>cases e
 |@cons r0 o0 x0 O H h0 hr ih=>
  simp only[cu]at e;cases hb:Nat.beq r0 r with
  |true=>rw[hb]at e;cases e;obtain rfl:=aa7 hb;refine⟨0,x0,rfl,h0,λo' x' h'=>?_⟩;simp only[mh,hb,cond_true];exact .cons h' hr
  |false=>rw[hb]at e;obtain⟨k,x,k1,k2,k3⟩:=ih e;refine⟨k+1,x,by simpa using k1,k2,λo' x' h'=>?_⟩;simp only[mh,hb,cond_false];exact .cons h0 (k3 o' x' h')
def uR:Os G->Nat->Os G
 |[],_ =>[]
 |(k,v)::r,d=>bif Nat.beq k d then r else(k,v)::uR r d
theorem RO.QA{O:Os G}{H:List av}(h:RO J ρ O H){r:Nat}{o:Ob G}(e:cu O r=some o):∃(k:Nat) (x:av),H[k]? =some x/\ro J ρ r o x/\RO J ρ (uR O r) (H.eraseIdx k):=by
 induction h with
 |nil=>cases e
 |@cons r0 o0 x0 O H h0 hr ih=>
  simp only[cu]at e;cases hb:Nat.beq r0 r with
  |true=>rw[hb]at e;cases e;obtain rfl:=aa7 hb;refine⟨0,x0,rfl,h0,?_⟩;simp only[uR,hb,cond_true];exact hr
  |false=>rw[hb]at e;obtain⟨k,x,k1,k2,k3⟩:=ih e;refine⟨k+1,x,by simpa using k1,k2,?_⟩;simp only[uR,hb,cond_false];exact .cons h0 k3
theorem RO.app{O O':Os G}{H H':List av}(h:RO J ρ O H)(k:RO J ρ O' H'):RO J ρ (O++O') (H++H'):=by
 induction h with
 |nil=>exact k
 |cons h _ ih=>exact .cons h ih
theorem Rl.st(h:Rl c N ρ J HK X C S a w):∃HS,RO J ρ S.O HS/\St N c a.defers (kN a) (HS++(HK++X)) a w/\Ht J ρ N c a.defers (HS++(HK++X)) (Lm C S) a w:=by
 obtain⟨HS,h1,h3⟩:=h.hp;have hst:St N c a.defers (kN a) (HS++(HK++X)) a w:=⟨h.tm,A3 a,rfl,h.si.s,h3⟩;refine⟨HS,h1,hst,hst,⟨λw' _ hp=>h.kn.to w' λr hr=>⟨hp.holds r (by simp[hr]),λb hb=>(hp.own r (by simp[hr]) b hb).2⟩⟩,λr o e=>?_⟩;unfold Lm at e;split at e
 ·rename_i o' he
  cases e;obtain⟨k,x,k1,k2⟩:=h1.get he;exact⟨x,abe _ (List.mem_of_getElem? k1),k2⟩
 ·obtain⟨x,k1,k2⟩:=h.kc r o e
  exact⟨x,abd _ (abe _ k1),k2⟩
def chain(C:CC G)(S:AS G):Nat->Nat->Bool->List (Nat×Bool)
 |0,j,w=>[(j,w)]
 |n+1,j,w=>(j,w)::match FX C S (.tmp j)with
  |some (.gd k v _)=>chain C S n k v
  |_ =>[]
def LG:List (Nat×Bool)->Nat->Bool->Bool
 |[],_,_ =>false
 |(k,v)::r,j,w=>(Nat.beq k j&&(v==w))||LG r j w
def Nz(C:CC G)(S:AS G):Nat->Nat->Bool->Option Bool
 |0,_,_ =>none
 |n+1,j,w=>match FX C S (.tmp j)with
  |some (.kb b)=>some (b==w)
  |some (.gd k v x)=>match Nz C S n k v with
   |some false=>some false
   |some true=>(match x with
    | .kb b=>some (b==w)
    |_ =>none)
   |none=>none
  |_ =>none
def ZV:Option Bool->Bool
 |some b=>b
 |none=>false
def dV(C:CC G)(S:AS G)(ch:List (Nat×Bool))(x:Operand):Option (AV G):=match FX C S x with
 |some (.gd j w v)=>bif LG ch j w||ZV (Nz C S 8 j w)then some v else none
 |r=>r
theorem RW{p:Nat->Bool->Prop}:∀{l:List (Nat×Bool)} {j:Nat} {w:Bool},LG l j w=true->(∀q∈l,p q.1 q.2)->p j w:=by
 intro l
 induction l with
 |nil=>intro j w h;cases h
 |cons q r ih=>
  obtain⟨k,v⟩:=q;intro j w h hp;simp only[LG,Bool.or_eq_true,aa8]at h;rcases h with⟨h1,h2⟩|h
  ·have e1:=aa7 h1
   have e2:v=w:=by simpa using h2
   have:=hp _ List.mem_cons_self;rw[e1,e2]at this;exact this
  ·exact ih h λq hq=>hp q (abj _ hq)
theorem zi{w:Bool}:Value.bool w≠undef:=by intro h;cases h
theorem Fx(h:Rl c N ρ J HK X C S a w):∀(n j:Nat) (v:Bool),a.tmps[j]? =some (.bool v)->∀q∈chain C S n j v,a.tmps[q.1]? =some (.bool q.2):=by
 intro n
 induction n with
 |zero=>intro j v e q hq;simp[chain]at hq;subst hq;exact e
 |succ n ih=>
  intro j v e q hq;simp only[chain,List.mem_cons]at hq;rcases hq with rfl|hq
  ·exact e
  ·split at hq
   ·rename_i k u x he
    refine ih k u ?_ q hq;have hr:=h.ev he;have e2:a.eval (.tmp j)= .bool v:=by simp[Act.eval,e]
    rw[e2]at hr;cases Classical.em (a.tmps[k]? =some (.bool u))with
    |inl h=>exact h
    |inr h=>exact absurd (hr.2 h) zi
   ·cases hq
theorem G2{x:Operand}{v:AV G}(h:Rl c N ρ J HK X C S a w)(e:FX C S x=some v):Bw.ev (kN a) x=some (a.eval x):=by
 refine Ij (λt ht=>?_) (λg hg=>?_)
 ·subst ht
  simp only[FX]at e;split at e
  ·rename_i v' he
   obtain⟨u,h1,_⟩:=h.fs t _ he;exact(abf.1 h1).1
  ·obtain⟨u,h1,_⟩:=Lx h.fc e
   exact(abf.1 h1).1
 ·subst hg;cases e
theorem Vp{t:Array Value}{v:AV G}{u:Value}(h:rf J ρ t v u)(hn:∀j w v',v≠ .gd j w v'):rv J ρ v u:=by
 cases v with
 |gd j w v'=>exact absurd rfl (hn j w v')
 |_ =>exact h
theorem P9{b:Bool}{t:Array Value}{u:Value}(h:rf (G:=G) J ρ t (.kb b) u):u= .bool b:=C9 (G:=G) (J:=J) (ρ:=ρ) h
theorem zb(h:Rl c N ρ J HK X C S a w){j:Nat}{x:AV G}(e:FX C S (.tmp j)=some x):a.tmps[j]? =some (a.eval (.tmp j)):=A3 a j _ (G2 h e)
theorem Ec(h:Rl c N ρ J HK X C S a w):∀(n j:Nat) (v g:Bool),Nz C S n j v=some g->(a.tmps[j]? =some (.bool v)↔g=true):=by
 intro n
 induction n with
 |zero=>intro j v g e;cases e
 |succ n ih=>
  intro j v g e;simp only[Nz]at e;split at e
  ·rename_i b he
   cases e;rw[zb h he,P9 (h.ev he)];cases b<;>cases v<;>simp
  ·rename_i k u x he
   have hr:=h.ev he;split at e
   ·rename_i hg
    cases e;have Ul:=ih k u false hg;have h2:a.tmps[k]? ≠some (.bool u):=λq=>by have:=Ul.1 q;cases this
    rw[zb h he,hr.2 h2];simp only[Option.some.injEq,Bool.false_eq_true,iff_false]
    exactλq=>zi q.symm
   ·rename_i hg
    have Ul:=ih k u true hg;split at e
    ·rename_i b
     cases e;rw[zb h he,C9 (hr.1 (Ul.2 rfl))];cases b<;>cases v<;>simp
    ·cases e
   ·cases e
  ·cases e
theorem Wi{o:Option Bool}(h:ZV o=true):o=some true:=by cases o with
 |none=>cases h
 |some b=>cases b with
  |true=>rfl
  |false=>cases h
theorem bU(h:Rl c N ρ J HK X C S a w){ch:List (Nat×Bool)}(hc:∀q∈ch,a.tmps[q.1]? =some (.bool q.2)):v9 J ρ a (dV C S ch):=by
 refine⟨λx v e=>?_,λx v e=>?_⟩
 ·unfold dV at e
  split at e
  ·rename_i j u x' he
   cases hb:(LG ch j u||ZV (Nz C S 8 j u))with
   |false=>rw[hb]at e;cases e
   |true=>
    rw[hb]at e;cases e;have:=h.ev he;rw[Bool.or_eq_true]at hb;rcases hb with hb|hb
    ·exact this.1 (RW (p:=λj u=>a.tmps[j]? =some (.bool u)) hb hc)
    ·exact this.1 ((Ec h 8 j u true (Wi hb)).2 rfl)
  ·rename_i hn
   exact Vp (h.ev e) λj w v' q=>hn j w v' (q▸e)
 ·unfold dV at e
  split at e
  ·rename_i j u x' he;exact G2 h he
  ·exact G2 h e
theorem HF{b:Bool}{t:Array Value}{u:Value}(h:rf (G:=G) J ρ t (.bool b) u):u= .bool b:=vA (G:=G) (J:=J) (ρ:=ρ) h
def GU(C:CC G)(S:AS G):Nat->Nat->Bool->Option Bool
 |0,_,_ =>none
 |n+1,j,w=>match FX C S (.tmp j)with
  |some (.bool b)=>some (b==w)
  |some (.kb b)=>some (b==w)
  |some (.gd k v x)=>match Pp x with
   |some b=>match GU C S n k v with
    |some g=>some (g&&(b==w))
    |none=>none
   |none=>none
  |_ =>none
theorem Ii(h:Rl c N ρ J HK X C S a w):∀(n j:Nat) (v g:Bool),GU C S n j v=some g->(a.tmps[j]? =some (.bool v)↔g=true):=by
 intro n
 induction n with
 |zero=>intro j v g e;cases e
 |succ n ih=>
  intro j v g e;simp only[GU]at e;have hj:∀x,FX C S (.tmp j)=some x->a.tmps[j]? =some (a.eval (.tmp j)):=λx he=>zb h he;split at e
  ·rename_i b he
   cases e;have hr:=HF (h.ev he);rw[hj _ he,hr];cases b<;>cases v<;>simp
  ·rename_i b he
   cases e;rw[hj _ he,P9 (h.ev he)];cases b<;>cases v<;>simp
  ·rename_i k u x he
   split at e;rotate_left
   ·cases e
   rename_i b hb;split at e
   ·rename_i g' hg
    cases e;have hr:=h.ev he;have Ul:=ih k u g' hg;rw[hj _ he];cases g' with
    |true=>have h1:=hr.1 (Ul.2 rfl);have:=xk hb h1;rw[this];cases b<;>cases v<;>simp
    |false=>
     have h2:a.tmps[k]? ≠some (.bool u):=λq=>by have:=Ul.1 q;cases this
     rw[hr.2 h2];simp only[Bool.false_and,Option.some.injEq,Bool.false_eq_true,iff_false]
     exactλq=>zi q.symm
   ·cases e
  ·cases e
def Dq(C:CC G)(S:AS G):Nat->Nat->Option (Nat×Bool)
 |0,_ =>none
 |n+1,j=>match FX C S (.tmp j)with
  |some (.bool b)=>some (j,b)
  |some (.gd k v x)=>match Nz C S 8 k v with
   |some true=>(match x with
    | .bool b=>some (j,b)
    |_ =>none)
   |some false=>none
   |none=>Dq C S n k
  |_ =>none
theorem Fh(h:Rl c N ρ J HK X C S a w):∀(n j k:Nat) (b:Bool),Dq C S n j=some (k,b)->a.tmps[k]? =some (.bool b):=by
 intro n
 induction n with
 |zero=>intro j k b e;cases e
 |succ n ih=>
  intro j k b e;simp only[Dq]at e;split at e
  ·rename_i b' he
   cases e;rw[zb h he,HF (h.ev he)]
  ·rename_i k' v x he
   split at e
   ·rename_i hg
    split at e
    ·rename_i b'
     cases e;rw[zb h he,vA ((h.ev he).1 ((Ec h 8 k' v true hg).2 rfl))]
    ·cases e
   ·cases e
   ·exact ih k' k b e
  ·cases e
def SK(P:Program)(o:Oper)(C:CC G)(S S':AS G)(v:AV G):Prop:=∀(c:Cx) (N:Nat) (ρ:aP) (J:World->Prop) (HK X:List av) (a:Act) (w:World) (next:Act->World->Prop) (Q:Exit->Act->World->Prop),Rl c N ρ J HK X C S a w-> (∀(ρ':aP) (J':World->Prop) (Y:List av) (w':World) (u:Value),ρ.to ρ' S.nx->(∀w,J' w->J w)->rv J' ρ' v u->Rl c N ρ' J' HK (Y++X) C S' a w'->next (a.put o.dst u) w')->o.wpIn (FA c.ro) 0 P a w next Q
theorem Rl.Jh(h:Rl c N ρ J HK X C S a w)(mJ:∀w,J' w->J w)(mρ:ρ.le ρ'):∀r o,cu (rh C) r=some o->∃x∈HK,ro J' ρ' r o x:=λr o e=>by obtain⟨x,h1,h2⟩:=h.kc r o e;exact⟨x,h1,h2.up mJ mρ⟩
theorem Rl.new{HS:List av}{x:av}{o:Ob G}{u:Value}{w':World}(h:Rl c N ρ J HK X C S a w)(h1:RO J ρ S.O HS)(hs:aJ c.bs c.w0 w')(hp:aX c.bs c.w0.heap.size (x::(HS++(HK++X))) w')(hx:ro J (ρ.set S.nx u) S.nx o x):
  Rl c N (ρ.set S.nx u) J HK X C {S with O:=(S.nx,o)::S.O,nx:=S.nx+1} a w':=by
 have hle:=(aP.jT ρ S.nx u).le h.fr;exact⟨h.tm,h.df.up (λ_ h=>h) hle,⟨hs,h.si.n⟩,h.fs.up (λ_ h=>h) hle,h.fc.up (λ_ h=>h) hle,h.Jh (λ_ h=>h) hle,⟨x::HS, .cons hx (h1.up (λ_ h=>h) hle),by simpa using hp⟩,h.kn,aP.wU h.fr u⟩
theorem Rd{T:Nat}{x:Operand}{v:AV G}(hv:dV C S [] x=some v):SK P ⟨d, .box T x,ty,ps,af,g⟩ C S {S with O:=(S.nx, .bK T v)::S.O,nx:=S.nx+1} (.ptr S.nx []):=by
 intro c N ρ J HK X a w next Q h hk
 obtain⟨HS,h1,hst,_⟩:=h.st;have hE:=bU h (ch:=[]) (by simp);refine Hr (hE.ev _ _ hv) rfl a.defers a w next Q hst λb w' _ hs hp=>?_
 refine hk (ρ.set S.nx (cj b 0)) J [] w' (cj b 0) (aP.jT _ _ _) (λ_ h=>h) ?_ (h.new h1 hs hp ?_)
 ·exact⟨⟨b,0, .inl (aP.fJ _ _ _),by simp[cQ]⟩,by simp⟩
 ·exact⟨b,_,aP.fJ _ _ _,rfl,(hE.ok _ _ hv).ext ((aP.jT ρ S.nx _).le h.fr)⟩
structure ZT(P:Program)(G:Sg) where
 z:FN (AV G)
 ok:∀t v,z.find t=some v->∀(J:World->Prop) (ρ:aP),∃u:Value,bD P t=some u.cells.toList/\rv J ρ v u
def ZOk(P:Program):FN (AV G)->Prop
 | .cO=>True
 | .cS k v l r=>(∀(J:World->Prop) (ρ:aP),∃u:Value,bD P k=some u.cells.toList/\rv J ρ v u)/\ZOk P l/\ZOk P r
theorem Ti{P:Program}:∀{t:FN (AV G)},ZOk P t->∀k v,t.find k=some v->∀(J:World->Prop) (ρ:aP),∃u:Value,bD P k=some u.cells.toList/\rv J ρ v u:=by
 intro t
 induction t with
 |cO=>intro _ k v h;cases h
 |cS k0 v0 l r ZY ZX=>
  intro h k v e;simp only[FN.find]at e;cases h1:Nat.beq k0 k with
  |true=>rw[h1]at e;cases e;rw[← aa7 h1];exact h.1
  |false=>
   rw[h1]at e;simp only[cond_false]at e;cases h2:Nat.blt k k0 with
   |true=>rw[h2]at e;exact ZY h.2.1 k v e
   |false=>rw[h2]at e;exact ZX h.2.2 k v e
theorem KG{zt:ZT P G}{T:Nat}{v:AV G}(hv:zt.z.find T=some v):SK P ⟨d, .alloc T,ty,ps,af,g⟩ C S {S with O:=(S.nx, .bK T v)::S.O,nx:=S.nx+1} (.ptr S.nx []):=by
 intro c N ρ J HK X a w next Q h hk
 obtain⟨HS,h1,hst,_⟩:=h.st;obtain⟨u,k1,k2⟩:=zt.ok T v hv J ρ;haveI:fM P T u.cells.toList:=⟨k1⟩;refine vj (cs:=u.cells.toList) a.defers a w next Q hst λb w' _ hs hp=>?_
 refine hk (ρ.set S.nx (cj b 0)) J [] w' (cj b 0) (aP.jT _ _ _) (λ_ h=>h) ?_ (h.new h1 hs hp ?_)
 ·exact⟨⟨b,0, .inl (aP.fJ _ _ _),by simp[cQ]⟩,by simp⟩
 ·exact⟨b,u,aP.fJ _ _ _,rfl,k2.ext ((aP.jT ρ S.nx _).le h.fr)⟩
theorem Rl.za{JZ:List av}{O':Os G}{w':World}(h:Rl c N ρ J HK X C S a w)(hr:RO J ρ O' JZ)(hs:aJ c.bs c.w0 w')(hp:aX c.bs c.w0.heap.size (JZ++(HK++X)) w'):
  Rl c N ρ J HK X C {S with O:=O'} a w':=⟨h.tm,h.df,⟨hs,h.si.n⟩,h.fs,h.fc,h.kc,⟨_,hr,hp⟩,h.kn,h.fr⟩
theorem mY{α:Type}{l m:List α}{k:Nat}{x:α}(h:l[k]? =some x):(l++m)[k]? =some x:=by rw[List.getElem?_append_left (List.getElem?_eq_some_iff.1 h).1];exact h
theorem qf{α:Type}{l m:List α}{k:Nat}{x y:α}(h:l[k]? =some x):(l++m).set k y=l.set k y++m:=by rw[List.set_append_left];exact(List.getElem?_eq_some_iff.1 h).1
theorem Mk{T:Nat}{v:AV G}{u:Value}(h:ry tt T v=true)(hv:rv J ρ v u):JI P T u.cells.size:=by
 rcases zx h hv with⟨h1,h2,_⟩|⟨n,h1,h2,_⟩
 ·haveI:=h1
  rw[h2];exact(inferInstance:JI P T 1)
 ·haveI:=h1
  subst h2;exact inferInstance
theorem KB{T:Nat}{x y:Operand}{v:AV G}{r T':Nat}{p:List oJ}{cc FZ:AV G}(hx:dV C S [] x=some (.ptr r p))(hy:dV C S [] y=some v)(ho:cu S.O r=some (.bK T' cc))(hst:Gg tt.F cc p v=some FZ)(hf:ry tt T v=true):
  SK P ⟨d, .store T x y,ty,ps,af,g⟩ C S {S with O:=mh S.O r (.bK T' FZ)} .IW:=by
 intro c N ρ J HK X a w next Q h hk
 obtain⟨HS,h1,hs0,hm⟩:=h.st;have hE:=bU h (ch:=[]) (by simp);obtain⟨b,o,e1,e2,e3⟩:=lD (hE.ok _ _ hx);obtain⟨k,q,k1,⟨b',u,m1,rfl,m3⟩,k3⟩:=h1.set ho;have eb:b=b'/\o=0:=by rcases e1 with h1|⟨n,cap,_,_,_,_,h1,_⟩<;>rw[h1]at m1<;>simp[cj]at m1;exact m1
 obtain⟨rfl,rfl⟩:=eb;have hv:=hE.ok _ _ hy;obtain⟨u',n1,n2,n3,n4⟩:=DK hv hst m3 e3;have qI:=hE.ev _ _ hx;rw[e2,Nat.zero_add]at qI;have Cy:=mY (m:=HK++X) k1;haveI:nZ (HS++(HK++X)) b T' u.cells.toList:=⟨List.mem_of_getElem? Cy⟩;haveI:=Mk hf hv;haveI:AO (HS++(HK++X)) b u'.cells.toList (HS.set k (.cells b T' u'.cells.toList)++(HK++X)):=⟨k,T',_,Cy,by rw[qf k1]⟩;refine pT (n:=(a.eval y).cells.size) (vs:=(a.eval y).cells.toList) (cs':=u'.cells.toList) qI (hE.ev _ _ hy) rfl (by simp) (by simpa using n3) n4 n2.symm a.defers a w next Q hs0 λ_ w' _ hs hp=>?_
 exact hk ρ J [] w' undef (aP.b5 _ _) (λ_ h=>h) ⟨_,rfl⟩ (h.za (k3 (.bK T' FZ) _ ⟨b,u',m1,rfl,n1⟩) hs hp)
end Go.Rw
namespace Go.Rw
open Go Go.Bw Go.RowKit
variable {G:Sg} {P:Program} {J J':World->Prop} {ρ ρ':aP}
inductive Sh where
 |v (t:Ty)
 |unk (n:Nat)
 |row (e sz:Nat) (t:Ty)
 |box (T:Nat) (s:Sh)
 |bp (i:Nat)
 |tv
 |gW
 |ye
 |kL
 |AE
 |fn (f:Fn) (a c:Sh)
 |iy (a:Sh)
 |st (a:Sh)
 |fW (t:Nat) (a:Sh)
 |nil
 |cons (a b:Sh)
 |part (w:Nat) (a b:Sh)
def aD:Sh->List Ty
 | .v t=>[t]
 | .row _ _ t=>[.sl t]
 | .box _ s=>aD s
 | .fn _ a c=>aD a++aD c
 | .iy a=>aD a
 | .st a=>aD a
 | .fW _ a=>aD a
 | .cons a b=>aD a++aD b
 | .part _ a b=>aD a++aD b
 |_ =>[]
def HL(G:Sg):List Ty->Type
 |[]=>Unit
 |t::r=>t.T G×HL G r
def HL.app:{a b:List Ty}->HL G a->HL G b->HL G (a++b)
 |[],_,_,y=>y
 |_ ::_,_,x,y=>(x.1,HL.app x.2 y)
def HL.fst:{a b:List Ty}->HL G (a++b)->HL G a
 |[],_,_ =>()
 |_ ::r,b,x=>(x.1,HL.fst (a:=r) (b:=b) x.2)
def HL.snd:{a b:List Ty}->HL G (a++b)->HL G b
 |[],_,x=>x
 |_ ::r,b,x=>HL.snd (a:=r) (b:=b) x.2
theorem HL.rY:∀{a b:List Ty} (x:HL G a) (y:HL G b),HL.fst (a:=a) (b:=b) (HL.app x y)=x:=by
 intro a
 induction a with
 |nil=>intro b x y;rfl
 |cons t r ih=>intro b x y;exact Prod.ext rfl (ih x.2 y)
theorem HL.rQ:∀{a b:List Ty} (x:HL G a) (y:HL G b),HL.snd (a:=a) (b:=b) (HL.app x y)=y:=by
 intro a
 induction a with
 |nil=>intro b x y;rfl
 |cons t r ih=>intro b x y;exact ih x.2 y
def cZ(f:Nat->Nat):(s:Sh)->HL G (aD s)->Nat->AV G×Os G×Nat
 | .v t,x,m=>(mk t x.1,[],m)
 | .row e sz t,x,m=>(.row (f m),[(f m, .row e sz t x.1)],m+1)
 | .box T s,x,m=>match cZ f s x (m+1)with
  |(v,O,m')=>(.ptr (f m) [],(f m, .bK T v)::O,m')
 | .bp i,_,m=>(.ptr (f i) [],[],m)
 | .unk n,_,m=>(.unk n,[],m)
 | .tv,_,m=>(.tv,[],m)
 | .gW,_,m=>(.gW,[],m)
 | .ye,_,m=>(.ye,[],m)
 | .kL,_,m=>(.kL,[],m)
 | .AE,_,m=>(.AE,[],m)
 | .fn k a c,x,m=>match cZ f a (HL.fst x) m with
  |(v,O,m')=>match cZ f c (HL.snd x) m' with
   |(v',O',VH)=>(.fn k v v',O++O',VH)
 | .iy a,x,m=>match cZ f a x m with
  |(v,O,m')=>(.iy v,O,m')
 | .st a,x,m=>match cZ f a x m with
  |(v,O,m')=>(.st v,O,m')
 | .fW t a,x,m=>match cZ f a x m with
  |(v,O,m')=>(.fW t v,O,m')
 | .nil,_,m=>(.nil,[],m)
 | .cons a b,x,m=>match cZ f a (HL.fst x) m with
  |(v,O,m')=>match cZ f b (HL.snd x) m' with
   |(v',O',VH)=>(.cons v v',O++O',VH)
 | .part w a b,x,m=>match cZ f a (HL.fst x) m with
  |(v,O,m')=>match cZ f b (HL.snd x) m' with
   |(v',O',VH)=>(.part w v v',O++O',VH)
def uN:Fn->Fn->Bool
 | .func a, .func b=>Nat.beq a b
 |_,_ =>false
theorem Fk{f g:Fn}(h:uN f g=true):f=g:=by
 unfold uN at h;split at h
 ·rw[aa7 h]
 ·cases h
structure GS(G:Sg) where
 th:List Nat
 O:Os G
 nx:Nat
def jx:(s:Sh)->AV G->GS G->Option (HL G (aD s)×GS G)
 | .v t,v,g=>match wT t v with
  |some x=>some ((x,()),g)
  |none=>none
 | .row e sz t,v,g=>match v with
  | .row r=>match cu g.O r with
   |some (.row e' sz' t' xs)=>bif Nat.beq e e'&&Nat.beq sz sz' then(if h:t'.bp t=true then some ((Ty.qC h▸xs,()),⟨g.th++[r],uR g.O r,g.nx⟩)else none)else none
   |_ =>none
  | .gW=>bif Nat.beq (t.L G).n sz then some (([],()),⟨g.th++[g.nx],g.O,g.nx+1⟩)else none
  |_ =>none
 | .box T s,v,g=>match v with
  | .ptr r []=>match cu g.O r with
   |some (.bK T' c)=>bif Nat.beq T T' then jx s c ⟨g.th++[r],uR g.O r,g.nx⟩else none
   |_ =>none
  |_ =>none
 | .bp i,v,g=>match v with
  | .ptr r []=>match g.th[i]? with
   |some r'=>bif Nat.beq r r' then some ((),g)else none
   |none=>none
  |_ =>none
 | .unk n,v,g=>match v with
  | .unk m=>bif Nat.beq n m then some ((),g)else none
  |v=>match v.RD with
   |some m=>bif Nat.beq n m then some ((),g)else none
   |none=>none
 | .tv,v,g=>match v with
  | .tv=>some ((),g)
  |_ =>none
 | .gW,v,g=>match v with
  | .gW=>some ((),g)
  |_ =>none
 | .ye,v,g=>match v with
  | .ye=>some ((),g)
  |_ =>none
 | .kL,v,g=>match v with
  | .kL=>some ((),g)
  |_ =>none
 | .AE,v,g=>match v with
  | .AE=>some ((),g)
  |_ =>none
 | .fn f a c,v,g=>match v with
  | .fn f' x y=>bif uN f f' then(match jx a x g with
   |some (p,g')=>match jx c y g' with
    |some (q,Mc)=>some (HL.app p q,Mc)
    |none=>none
   |none=>none)else none
  |_ =>none
 | .iy a,v,g=>match v with
  | .iy x=>jx a x g
  |_ =>none
 | .st a,v,g=>match v with
  | .st x=>jx a x g
  |_ =>none
 | .fW t a,v,g=>match v with
  | .fW t' x=>bif Nat.beq t t' then jx a x g else none
  |_ =>none
 | .nil,v,g=>match v with
  | .nil=>some ((),g)
  |_ =>none
 | .cons a b,v,g=>match v with
  | .cons x y=>match jx a x g with
   |some (p,g')=>match jx b y g' with
    |some (q,Mc)=>some (HL.app p q,Mc)
    |none=>none
   |none=>none
  |_ =>none
 | .part w a b,v,g=>match v with
  | .part w' x y=>bif Nat.beq w w' then(match jx a x g with
   |some (p,g')=>match jx b y g' with
    |some (q,Mc)=>some (HL.app p q,Mc)
    |none=>none
   |none=>none)else none
  |_ =>none
def mq(A B:List av):Prop:=∀bs n0 w,aX bs n0 A w->aX bs n0 B w
theorem mq.refl(A:List av):mq A A:=λ_ _ _ h=>h
theorem mq.trans{A B D:List av}(h:mq A B)(k:mq B D):mq A D:=λbs n w x=>k bs n w (h bs n w x)
theorem mq.iu{A B:List av}(h:A.Perm B):mq A B:=λ_ _ _ x=>x.iu h
def cmp(ρ:aP)(th:List Nat):aP:=λm=>match th[m]? with
 |some r=>ρ r
 |none=>none
theorem G8{th ud:List Nat}(h:ρ.le ρ')(k:∃q,ud=th++q):(cmp ρ th).le (cmp ρ' ud):=λm v e=>by
 obtain⟨q,rfl⟩:=k;unfold cmp at e ⊢;cases ht:th[m]? with
 |none=>rw[ht]at e;cases e
 |some r=>rw[ht]at e;rw[mY ht];exact h _ _ e
theorem vC{th:List Nat}{r:Nat}:cmp ρ (th++[r]) th.length=ρ r:=by simp[cmp]
structure XS(J:World->Prop)(ρ:aP)(s:Sh)(l:List Value)(H:List av)(g g':GS G)(x:HL G (aD s))(ρ':aP)(HB H':List av):Prop where
 to:ρ.to ρ' g.nx
 fr:ρ'.fr g'.nx
 nx:g.nx<=g'.nx
 left:RO J ρ' g'.O H'
 pre:∃q,g'.th=g.th++q
 FY:(cZ (λm=>m) s x g.th.length).2.2=g'.th.length
 hp:∀R,mq (H++R) (HB++(H'++R))
 val:rl J (cmp ρ' g'.th) (cZ (λm=>m) s x g.th.length).1 l
 bK:RO J (cmp ρ' g'.th) (cZ (λm=>m) s x g.th.length).2.1 HB
theorem Kr{t:Ty}{v:AV G}{x:t.T G}{l:List Value}(h:wT t v=some x)(hv:rl J ρ v l):∃u,l=[u]:=by
 unfold wT at h;split at h
 ·exact⟨_,hv⟩
 ·exact⟨_,hv⟩
 ·exact⟨_,hv⟩
 ·exact⟨_,hv⟩
 ·exact⟨_,hv⟩
 ·obtain⟨u,e,_⟩:=hv;exact⟨u,e⟩
 ·cases h
theorem aP.fr.Ll{n:Nat}{r:Nat}{v:Value}(h:ρ.fr n)(e:ρ r=some v):r<n:=by
 rcases Nat.lt_or_ge r n with h1|h1
 ·exact h1
 ·rw[h r h1]at e;cases e
theorem bf{α β:Type}{a x:α}{b y:β}(h:some (a,b)=some (x,y)):a=x/\b=y:=by have h:=Option.some.inj h;exact⟨congrArg Prod.fst h,congrArg Prod.snd h⟩
theorem Oo{α:Type}:∀{H:List α} {k:Nat} {x:α},H[k]? =some x->H.Perm (x::H.eraseIdx k):=by
 intro H
 induction H with
 |nil=>intro k x h;cases h
 |cons y r ih=>
  intro k x h;cases k with
  |zero=>simp at h;subst h;exact .refl _
  |succ k=>exact((ih (by simpa using h)).cons y).trans (.swap x y _)
theorem nv{H:List av}{k:Nat}{x:av}(h:H[k]? =some x)(R:List av):(H++R).Perm (x::(H.eraseIdx k++R)):=by exact List.Perm.append_right R (Oo h)
theorem Ef{a b:Sh}{H:List av}{g g1 g2:GS G}{p:HL G (aD a)}{q:HL G (aD b)}{l1 l2:List Value}{ρ:aP}(hf:ρ.fr g.nx)
  (h1:∃ρ' HB H',XS J ρ a l1 H g g1 p ρ' HB H')(h2:∀(ρ1:aP) (H1:List av),ρ1.fr g1.nx->ρ.to ρ1 g.nx->RO J ρ1 g1.O H1->∃ρ' HB H',XS J ρ1 b l2 H1 g1 g2 q ρ' HB H'):
  ∃ρ' HB H',ρ.to ρ' g.nx/\ρ'.fr g2.nx/\g.nx<=g2.nx/\RO J ρ' g2.O H'/\(∃r,g2.th=g.th++r)/\(cZ (λm=>m) b q (cZ (λm=>m) a p g.th.length).2.2).2.2=g2.th.length/\(∀R,mq (H++R) (HB++(H'++R)))/\
   rl J (cmp ρ' g2.th) (cZ (λm=>m) a p g.th.length).1 l1/\rl J (cmp ρ' g2.th) (cZ (λm=>m) b q (cZ (λm=>m) a p g.th.length).2.2).1 l2/\RO J (cmp ρ' g2.th) ((cZ (λm=>m) a p g.th.length).2.1++(cZ (λm=>m) b q (cZ (λm=>m) a p g.th.length).2.2).2.1) HB:=by
 obtain⟨ρ1,B1,H1,k1⟩:=h1;obtain⟨ρ2,B2,H2,k2⟩:=h2 ρ1 H1 k1.fr k1.to k1.left;have hle:=G8 (k2.to.le k1.fr) k2.pre;rw[k1.FY];refine⟨ρ2,B1++B2,H2,k1.to.trans k2.to k1.nx,k2.fr,Nat.le_trans k1.nx k2.nx,k2.left,?_,k2.FY,λR=>?_,k1.val.ext hle,k2.val,(k1.bK.up (λ_ h=>h) hle).app k2.bK⟩
 ·obtain⟨r1,e1⟩:=k1.pre
  obtain⟨r2,e2⟩:=k2.pre;exact⟨r1++r2,by rw[e2,e1,List.append_assoc]⟩
 ·refine(k1.hp R).trans ?_
  have e:(B1++(H1++R)).Perm (H1++(B1++R)):=by rw[← List.append_assoc, ← List.append_assoc];exact List.Perm.append_right R List.perm_append_comm
  refine(mq.iu e).trans ((k2.hp (B1++R)).trans (mq.iu ?_));rw[List.append_assoc B1];have:(B2++(H2++(B1++R))).Perm (B1++(B2++(H2++R))):=by
   have p1:(H2++(B1++R)).Perm (B1++(H2++R)):=by rw[← List.append_assoc, ← List.append_assoc];exact List.Perm.append_right R List.perm_append_comm
   refine(List.Perm.append_left B2 p1).trans ?_;rw[← List.append_assoc, ← List.append_assoc B1];exact List.Perm.append_right _ List.perm_append_comm
  exact this
theorem L8{t:Ty}{v:AV G}{g g':GS G}{x:HL G (aD (.v t))}(h:jx (.v t) v g=some (x,g')):∃y,wT t v=some y/\x=(y,())/\g'=g:=by
 unfold jx at h;cases hy:wT t v with
 |none=>rw[hy]at h;cases h
 |some y=>rw[hy]at h;obtain⟨e1,e2⟩:=bf h;exact⟨y,rfl,e1.symm,e2.symm⟩
theorem Ee{n:Nat}{v:AV G}{g g':GS G}{x:HL G (aD (.unk n))}(h:jx (.unk n) v g=some (x,g')):g'=g/\∀{J:World->Prop} {ρ:aP} {l:List Value},rl J ρ v l->∃u:Value,l=[u]/\u.cells.size=n:=by
 unfold jx at h;split at h
 ·rename_i m
  cases hb:Nat.beq n m with
  |false=>rw[hb]at h;cases h
  |true=>rw[hb]at h;obtain rfl:=aa7 hb;exact⟨(bf h).2.symm,λhr=>hr⟩
 ·split at h
  ·rename_i m hm
   cases hb:Nat.beq n m with
   |false=>rw[hb]at h;cases h
   |true=>rw[hb]at h;obtain rfl:=aa7 hb;exact⟨(bf h).2.symm,λhr=>by obtain⟨u,e1,e2,_⟩:=GA hm hr;exact⟨u,e1,e2⟩⟩
  ·cases h
theorem BL:∀{s:Sh} {v:AV G} {l:List Value} {H:List av} {g g':GS G} {x:HL G (aD s)} {ρ:aP},jx s v g=some (x,g')->rl J ρ v l->RO J ρ g.O H->ρ.fr g.nx->∃ρ' HB H',XS J ρ s l H g g' x ρ' HB H':=by
 intro s
 induction s with
 |v t=>
  intro v l H g g' x ρ h hv hO hf;obtain⟨y,hy,rfl,rfl⟩:=L8 h;obtain⟨u,rfl⟩:=Kr hy hv;refine⟨ρ,[],H,⟨aP.b5 _ _,hf,Nat.le_refl _,hO,⟨[],by simp⟩,?_,λR=>mq.refl _,?_,?_⟩⟩<;>simp only[cZ]
  ·exact C8 ((vz hy hv))
  ·exact .nil
 |row e sz t=>
  intro v l H g g' x ρ h hv hO hf;cases v<;>unfold jx at h<;>(try dsimp only at h)<;>try (cases h;done)
  case row r=>
   split at h
   ·rename_i e' sz' t' xs ho
    cases hb:(Nat.beq e e'&&Nat.beq sz sz')with
    |false=>rw[hb]at h;cases h
    |true=>
     rw[hb]at h;simp only[cond_true]at h;by_cases hs:t'.bp t=true
     ·rw[dif_pos hs]at h
      obtain⟨e1,rfl⟩:=bf h;simp only[aa8]at hb;obtain rfl:=aa7 hb.1;obtain rfl:=aa7 hb.2;have:=Ty.qC hs;subst this;subst e1;obtain⟨k,y,k1,k2,k3⟩:=hO.QA ho;refine⟨ρ,[y],H.eraseIdx k,aP.b5 _ _,hf,Nat.le_refl _,k3,⟨[r],rfl⟩,by simp[cZ],λR=>mq.iu (nv k1 R),?_, .cons ?_ .nil⟩
      ·obtain⟨a0,n,cap,e1,e2⟩:=hv
       exact⟨a0,n,cap,vC.trans e1,e2⟩
      ·obtain⟨vv,ws,e1,e2,e3,e4,e5⟩:=k2
       exact⟨vv,ws,vC.trans e1,e2,e3,e4,e5⟩
     ·rw[dif_neg hs]at h;cases h
   ·cases h
  case gW=>
   cases hb:Nat.beq (t.L G).n sz with
   |false=>rw[hb]at h;cases h
   |true=>
    rw[hb]at h;obtain⟨rfl,rfl⟩:=bf h;have hsz:=aa7 hb;have hle:=(aP.jT ρ g.nx (.slice none 0 0)).le hf;refine⟨ρ.set g.nx (.slice none 0 0),[.row (.slice none 0 0) e sz 0 []],H,aP.jT _ _ _,aP.wU hf _,Nat.le_succ _,hO.up (λ_ h=>h) hle,⟨[g.nx],rfl⟩,by simp[cZ],λR bs n0 w hp=>vB hp,?_, .cons ?_ .nil⟩
    ·have hv:l=[.slice none 0 0]:=hv
     exact⟨none,0,0,vC.trans (aP.fJ _ _ _),hv⟩
    ·exact⟨.slice none 0 0,[],vC.trans (aP.fJ _ _ _),rfl,⟨_,_,rfl⟩,⟨λ_ =>[],rfl,λi hi=>absurd hi (Nat.not_lt_zero _)⟩,hsz⟩
 |box T s ih=>
  intro v l H g g' x ρ h hv hO hf;cases v<;>unfold jx at h<;>(try dsimp only at h)<;>try (cases h;done)
  case ptr r p=>
   cases p with
   |cons _ _ =>simp at h
   |nil=>
    simp only at h;split at h
    ·rename_i T' cc ho
     cases hb:Nat.beq T T' with
     |false=>rw[hb]at h;cases h
     |true=>
      rw[hb]at h;obtain rfl:=aa7 hb;obtain⟨k,y,k1,⟨b,u,m1,rfl,m3⟩,k3⟩:=hO.QA ho;obtain⟨ρ1,B1,H1,i1⟩:=ih h m3 k3 hf;have hr:=hf.Ll m1;have hth:g'.th[g.th.length]? =some r:=by obtain⟨q,e⟩:=i1.pre;rw[e];simp
      have Ie:cmp ρ1 g'.th g.th.length=some (cj b 0):=by unfold cmp;rw[hth];exact(i1.to r hr).trans m1
      have e1:(g.th++[r]).length=g.th.length+1:=by simp
      have i2:=i1.FY;have i3:=i1.val;have i4:=i1.bK;rw[e1]at i2 i3 i4;refine⟨ρ1, .cells b T u.cells.toList::B1,H1,i1.to,i1.fr,i1.nx,i1.left,?_,i2,λR=>?_,?_, .cons ⟨b,u,Ie,rfl,i3⟩ i4⟩
      ·obtain⟨q,e⟩:=i1.pre
       exact⟨r::q,by rw[e];simp⟩
      ·refine(mq.iu (nv k1 R)).trans ?_
       refine(mq.iu (List.perm_middle (a:=av.cells b T u.cells.toList) (l₁:=H.eraseIdx k) (l₂:=R)).symm).trans ?_;refine(i1.hp (.cells b T u.cells.toList::R)).trans (mq.iu ?_);refine(List.Perm.append_left B1 (List.perm_middle (a:=av.cells b T u.cells.toList) (l₁:=H1) (l₂:=R))).trans ?_;exact List.perm_middle
      ·obtain⟨⟨b',o',q1,q2⟩,_⟩:=hv
       refine⟨⟨b,0, .inl Ie,?_⟩,by simp⟩;rcases q1 with q1|⟨_,_,_,_,_,_,_,q1,_⟩
       ·rw[q1]at m1
        simp[cj]at m1;rw[q2,m1.1,m1.2]
       ·cases q1
    ·cases h
 |bp i=>
  intro v l H g g' x ρ h hv hO hf;cases v<;>unfold jx at h<;>(try dsimp only at h)<;>try (cases h;done)
  case ptr r p=>
   cases p with
   |cons _ _ =>simp at h
   |nil=>
    simp only at h;split at h
    ·rename_i r' ht
     cases hb:Nat.beq r r' with
     |false=>rw[hb]at h;cases h
     |true=>
      rw[hb]at h;obtain⟨rfl,rfl⟩:=bf h;obtain rfl:=aa7 hb;refine⟨ρ,[],H,aP.b5 _ _,hf,Nat.le_refl _,hO,⟨[],by simp⟩,rfl,λR=>mq.refl _,?_, .nil⟩;obtain⟨⟨b',o',q1,q2⟩,q3⟩:=hv;refine⟨⟨b',o',?_,q2⟩,q3⟩;rcases q1 with q1|⟨_,_,_,_,_,_,_,q1,_⟩
      ·refine .inl ?_
       unfold cmp;rw[ht];exact q1
      ·cases q1
    ·cases h
 |unk n=>intro v l H g g' x ρ h hv hO hf;obtain⟨rfl,hu⟩:=Ee h;exact⟨ρ,[],H,aP.b5 _ _,hf,Nat.le_refl _,hO,⟨[],by simp⟩,rfl,λR=>mq.refl _,hu hv, .nil⟩
 |tv=>
  intro v l H g g' x ρ h hv hO hf;cases v<;>unfold jx at h<;>(try dsimp only at h)<;>try (cases h;done)
  obtain⟨rfl,rfl⟩:=bf h;exact⟨ρ,[],H,aP.b5 _ _,hf,Nat.le_refl _,hO,⟨[],by simp⟩,rfl,λR=>mq.refl _,hv, .nil⟩
 |gW=>
  intro v l H g g' x ρ h hv hO hf;cases v<;>unfold jx at h<;>(try dsimp only at h)<;>try (cases h;done)
  obtain⟨rfl,rfl⟩:=bf h;exact⟨ρ,[],H,aP.b5 _ _,hf,Nat.le_refl _,hO,⟨[],by simp⟩,rfl,λR=>mq.refl _,hv, .nil⟩
 |ye=>
  intro v l H g g' x ρ h hv hO hf;cases v<;>unfold jx at h<;>(try dsimp only at h)<;>try (cases h;done)
  obtain⟨rfl,rfl⟩:=bf h;exact⟨ρ,[],H,aP.b5 _ _,hf,Nat.le_refl _,hO,⟨[],by simp⟩,rfl,λR=>mq.refl _,hv, .nil⟩
 |kL=>
  intro v l H g g' x ρ h hv hO hf;cases v<;>unfold jx at h<;>(try dsimp only at h)<;>try (cases h;done)
  obtain⟨rfl,rfl⟩:=bf h;exact⟨ρ,[],H,aP.b5 _ _,hf,Nat.le_refl _,hO,⟨[],by simp⟩,rfl,λR=>mq.refl _,hv, .nil⟩
 |AE=>
  intro v l H g g' x ρ h hv hO hf;cases v<;>unfold jx at h<;>(try dsimp only at h)<;>try (cases h;done)
  obtain⟨rfl,rfl⟩:=bf h;exact⟨ρ,[],H,aP.b5 _ _,hf,Nat.le_refl _,hO,⟨[],by simp⟩,rfl,λR=>mq.refl _,hv, .nil⟩
 |nil=>
  intro v l H g g' x ρ h hv hO hf;cases v<;>unfold jx at h<;>(try dsimp only at h)<;>try (cases h;done)
  obtain⟨rfl,rfl⟩:=bf h;exact⟨ρ,[],H,aP.b5 _ _,hf,Nat.le_refl _,hO,⟨[],by simp⟩,rfl,λR=>mq.refl _,hv, .nil⟩
 |fn f a c iW ym=>
  intro v l H g g' x ρ h hv hO hf;cases v<;>unfold jx at h<;>(try dsimp only at h)<;>try (cases h;done)
  case fn f' y z=>
   cases hb:uN f f' with
   |false=>rw[hb]at h;cases h
   |true=>
    rw[hb]at h;simp only[cond_true]at h;obtain rfl:=Fk hb;split at h
    ·rename_i p g1 h1
     split at h
     ·rename_i q g2 h2
      obtain⟨rfl,rfl⟩:=bf h;obtain⟨fs,cs,e,r1,r2⟩:=hv;obtain⟨ρ',HB,H',k1,k2,k3,k4,k5,k6,k7,k8,k9,V3⟩:=Ef (b:=c) (q:=q) hf (iW h1 r1 hO hf) λρ1 H1 f1 t1 o1=>ym h2 (r2.ext (t1.le hf)) o1 f1;refine⟨ρ',HB,H',k1,k2,k3,k4,k5,?_,k7,?_,?_⟩<;>simp only[cZ,HL.rY,HL.rQ]
      ·exact k6
      ·exact⟨fs,cs,e,k8,k9⟩
      ·exact V3
     ·cases h
    ·cases h
 |cons a b iW nW=>
  intro v l H g g' x ρ h hv hO hf;cases v<;>unfold jx at h<;>(try dsimp only at h)<;>try (cases h;done)
  case cons y z=>
   split at h
   ·rename_i p g1 h1
    split at h
    ·rename_i q g2 h2
     obtain⟨rfl,rfl⟩:=bf h;obtain⟨u,r,e,r1,r2⟩:=hv;obtain⟨ρ',HB,H',k1,k2,k3,k4,k5,k6,k7,k8,k9,V3⟩:=Ef (b:=b) (q:=q) hf (iW h1 r1 hO hf) λρ1 H1 f1 t1 o1=>nW h2 (r2.ext (t1.le hf)) o1 f1;refine⟨ρ',HB,H',k1,k2,k3,k4,k5,?_,k7,?_,?_⟩<;>simp only[cZ,HL.rY,HL.rQ]
     ·exact k6
     ·exact⟨u,r,e,k8,k9⟩
     ·exact V3
    ·cases h
   ·cases h
 |part w a b iW nW=>
  intro v l H g g' x ρ h hv hO hf;cases v<;>unfold jx at h<;>(try dsimp only at h)<;>try (cases h;done)
  case part w' y z=>
   cases hb:Nat.beq w w' with
   |false=>rw[hb]at h;cases h
   |true=>
    rw[hb]at h;simp only[cond_true]at h;obtain rfl:=aa7 hb;split at h
    ·rename_i p g1 h1
     split at h
     ·rename_i q g2 h2
      obtain⟨rfl,rfl⟩:=bf h;obtain⟨c1,c2,u,e,r0,r1,r3,r2⟩:=hv;obtain⟨ρ',HB,H',k1,k2,k3,k4,k5,k6,k7,k8,k9,V3⟩:=Ef (b:=b) (q:=q) hf (iW h1 r1 hO hf) λρ1 H1 f1 t1 o1=>nW h2 (r2.ext (t1.le hf)) o1 f1;refine⟨ρ',HB,H',k1,k2,k3,k4,k5,?_,k7,?_,?_⟩<;>simp only[cZ,HL.rY,HL.rQ]
      ·exact k6
      ·exact⟨c1,c2,u,e,r0,k8,r3,k9⟩
      ·exact V3
     ·cases h
    ·cases h
 |iy a ih=>
  intro v l H g g' x ρ h hv hO hf;cases v<;>unfold jx at h<;>(try dsimp only at h)<;>try (cases h;done)
  case iy y=>obtain⟨vs,e,r1⟩:=hv;obtain⟨ρ',HB,H',k⟩:=ih h r1 hO hf;exact⟨ρ',HB,H',k.to,k.fr,k.nx,k.left,k.pre,k.FY,k.hp,⟨vs,e,k.val⟩,k.bK⟩
 |st a ih=>
  intro v l H g g' x ρ h hv hO hf;cases v<;>unfold jx at h<;>(try dsimp only at h)<;>try (cases h;done)
  case st y=>obtain⟨cs,e,r1,r2⟩:=hv;obtain⟨ρ',HB,H',k⟩:=ih h r1 hO hf;exact⟨ρ',HB,H',k.to,k.fr,k.nx,k.left,k.pre,k.FY,k.hp,⟨cs,e,k.val,r2⟩,k.bK⟩
 |fW t a ih=>
  intro v l H g g' x ρ h hv hO hf;cases v<;>unfold jx at h<;>(try dsimp only at h)<;>try (cases h;done)
  case fW t' y=>
   cases hb:Nat.beq t t' with
   |false=>rw[hb]at h;cases h
   |true=>rw[hb]at h;obtain rfl:=aa7 hb;obtain⟨u,e,r1⟩:=hv;obtain⟨ρ',HB,H',k⟩:=ih h r1 hO hf;exact⟨ρ',HB,H',k.to,k.fr,k.nx,k.left,k.pre,k.FY,k.hp,⟨u,e,k.val⟩,k.bK⟩
end Go.Rw
