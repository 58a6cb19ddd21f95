/- Part 2 of what a proof leans on; pruned and shortened by a program out of longer texts. -/
import Derived.Test.YtjabpidfkmhbbaaGreatDoorQ1
namespace Go.Bw
open Go Go.RowKit
theorem Fq{F:cE}{x:Operand}{r:List Operand}{v:Value}{vs:List Value}(h:ev F x=some v)(hr:Ai F r=some vs):Ai F (x::r)=some (v::vs):=by simp[Ai,h,hr]
def dK(v:Value)(k:Nat):Value:=match v with
 | .slice (some a) _ _ => .pointer (some ⟨a.block,a.off+k,none⟩)
 |_ =>undef
theorem Ro.rU{w:World}{v:Value}{e sz n:Nat}{xs:List Value}(h:(av.row v e sz n xs).holds w):Ro w v sz n xs:=by
 have h':w.ownsRow 0 e sz v n xs:=h;refine⟨h'.1,?_⟩;rcases h'.2 with h0|⟨g,cap,cur,h1,_,h3,h4,_,h5,h6⟩
 ·exact .inl ⟨⟨_,_,h0.1⟩,h0.2⟩
 ·refine .inr ⟨g,0,cap,h1,(abf.1 h3).1,h4,λj u hu=>?_⟩
  have:=World.ownsRow.cells (g:=g) h' (by rw[h1];rfl) j u hu;rwa[Addr.add_lit]at this
theorem Ro.at {w:World}{v:Value}{sz n m:Nat}{xs:List Value}(h:Ro w v sz n xs)(hm:m<n):∃g off cap,v= .slice (some ⟨g,off,none⟩) n cap/\g<w.heap.size/\n<=cap/\∀(j:Nat) u,xs[j]? =some u->w.cell? ⟨g,off+j,none⟩=some u:=by
 rcases h.2 with⟨_,h0⟩|h1
 ·omega
 ·exact h1
section
variable {P:Program} {N:Nat} {c:Cx} {F:cE} {H:List av} {d:Option Tmp} {ty:TypeId} {p:String} {af:Array Edge} {g:Option (Nat×Bool)}
class mF(c:Cx)(H:List av)(v:Value)(sz n:outParam Nat)(xs:outParam (List Value)):Prop where
 ro:∀w,aJ c.bs c.w0 w->aX c.bs c.w0.heap.size H w->Ro w v sz n xs
theorem Hj{x:Operand}{v:Value}{t e q sz n:Nat}{xs:List Value}[ht:rF P t e q](hx:ev F x=some v)[h:mF c H v sz n xs]:VS P N c ⟨d, .call ⟨.builtin .len, #[x], #[t]⟩,ty,p,af,g⟩ F H (.int .i64 n):=
 ax (by simp) λa w hf hs hp=>by have hr:=h.ro w hs hp;obtain⟨inf,h1,_,_⟩:=rF.get ht.ok;rcases hr.2 with⟨⟨a0,cp,rfl⟩,rfl⟩|⟨g,off,cap,rfl,_⟩<;>simp[execOp,resolve,invoke,builtin,ay hf hx,Builtin.len_,goInt,run_underlying h1]
theorem sE{x y:Operand}{t e sz n:Nat}{v:Value}{xs:List Value}{k:IntKind}{i:Int}{m:Nat}[ht:rF P t e sz](hx:ev F x=some v)(hy:ev F y=some (.int k i))[h:mF c H v sz n xs](hi:i=(m:Int))(hm:m<n):
  VS P N c ⟨d, .indexAddr t x y,ty,p,af,g⟩ F H (dK v (m*sz)):=
 ax (by simp) λa w hf hs hp=>by obtain⟨g,off,cap,rfl,_,_,_⟩:=(h.ro w hs hp).at hm;obtain⟨inf,h1,h2,h3⟩:=rF.get ht.ok;subst hi;simp[execOp,ay hf hx,ay hf hy,Instr.indexAt,asIntOf,run_underlying h1,sizeOf,typeInfo,h2,h3,Addr.add_lit,dK];intro hle;omega
theorem Ew{x:Operand}{s f fo k m sz n:Nat}{v:Value}{xs:List Value}[AN P s f fo](hx:ev F x=some (dK v k))[h:mF c H v sz n xs](hm:m<n):VS P N c ⟨d, .fieldAddr s x f,ty,p,af,g⟩ F H (dK v (k+fo)):=
 ax (by simp) λa w hf hs hp=>by obtain⟨g,off,cap,rfl,_,_,_⟩:=(h.ro w hs hp).at hm;have:=uj (P:=P) (s:=s) (f:=f) (b:=g) (off:=off+k) w;simp only[execOp,ay hf hx,dK];simp[this,Nat.add_assoc]
theorem Aq{x:Operand}{t k sz n:Nat}{v u:Value}{xs:List Value}(hx:ev F x=some (dK v k))[h:mF c H v sz n xs][mV P t](hv:xs[k]? =some u):VS P N c ⟨d, .load t x,ty,p,af,g⟩ F H u:=
 ax (by simp) λa w hf hs hp=>by
  have hr:=h.ro w hs hp;have hl:=(List.getElem?_eq_some_iff.1 hv).1;have hn:0<n:=by
   rcases Nat.eq_zero_or_pos n with h0|h0
   ·subst h0;have:=hr.1;omega
   ·exact h0
  obtain⟨g,off,cap,rfl,_,_,h4⟩:=hr.at hn;have:=gJ (P:=P) (t:=t) (a:=⟨g,off+k,none⟩) (h4 k u hv);simp[execOp,ay hf hx,dK,Instr.loadAt,Instr.sureAddr,this]
theorem Ev{x:Operand}{t k sz n q:Nat}{v:Value}{xs us:List Value}(hx:ev F x=some (dK v k))[h:mF c H v sz n xs][p4 P t q](hv:(xs.drop k).take q=us)(hq:us.length=q)(h0:0<q):VS P N c ⟨d, .load t x,ty,p,af,g⟩ F H (.agg us.toArray):=
 ax (by simp) λa w hf hs hp=>by
  have hr:=h.ro w hs hp;have hl:0<xs.length:=by
   have:us.length<=xs.length:=by rw[← hv];simp;omega
   omega
  have hn:0<n:=by
   rcases Nat.eq_zero_or_pos n with h0|h0
   ·subst h0;have:=hr.1;omega
   ·exact h0
  obtain⟨g,off,cap,rfl,_,_,h4⟩:=hr.at hn;have:=gK (P:=P) (t:=t) (b:=g) (off:=off+k) (w:=w) hq (λj u hj=>by
   rw[← hv,List.getElem?_take]at hj;split at hj
   ·rw[List.getElem?_drop]at hj;rw[Nat.add_assoc];exact h4 _ u hj
   ·cases hj)
  simp[execOp,ay hf hx,dK,Instr.loadAt,Instr.sureAddr,this]
theorem Tv{x y:Operand}{k:IntKind}{a b:Int}{ats:Array TypeId}(hx:ev F x=some (.int k a))(hy:ev F y=some (.int k b)):VS P N c ⟨d, .call ⟨.builtin .min, #[x,y],ats⟩,ty,p,af,g⟩ F H (.int k (if b<a then b else a)):=
 ax (by simp) λa' w hf _ _ =>by simp[execOp,resolve,invoke,builtin,ay hf hx,ay hf hy,Builtin.min_,Builtin.min2]
theorem Tw{x y:Operand}{k:IntKind}{a b:Int}{ats:Array TypeId}(hx:ev F x=some (.int k a))(hy:ev F y=some (.int k b)):VS P N c ⟨d, .call ⟨.builtin .max, #[x,y],ats⟩,ty,p,af,g⟩ F H (.int k (if a<b then b else a)):=
 ax (by simp) λa' w hf _ _ =>by simp[execOp,resolve,invoke,builtin,ay hf hx,ay hf hy,Builtin.max_,Builtin.max2]
def Br(P:Program)(t:Nat):Option (List (Nat×Nat)):=match P.underlying t with
 |some (.struct fs)=>fs.toList.mapM λf=>(P.info? f.type).map λi=>(f.offset,i.size)
 |_ =>none
def qo(pl:List (Nat×Nat)):List Value->List (Nat×Value)->Option (List Value)
 |cs,[]=>some cs
 |cs,(i,v)::r=>match pl[i]? with
  |none=>none
  |some (off,sz)=>if v.cells.size≠sz||decide (off+v.cells.size>cs.length)then none else qo pl (bn cs off v.cells.toList) r
class TG(P:Program)(t:TypeId)(pl:outParam (List (Nat×Nat))):Prop where
 ok:Br P t=some pl
theorem Jp(vs:List Value):∀(cs:Array Value) (off j:Nat),off+j+vs.length<=cs.size->((vs.zipIdx j).foldl (λ(cs:Array Value) (q:Value×Nat)=>cs.setIfInBounds (off+q.2) q.1) cs).toList=bn cs.toList (off+j) vs:=by
 induction vs with
 |nil=>intro cs off j h;simp[bn]
 |cons v r ih=>
  intro cs off j h;simp only[List.zipIdx_cons,List.foldl_cons];have hl:off+j+(r.length+1)<=cs.size:=h;rw[ih (cs.setIfInBounds (off+j) v) off (j+1) (by simp;omega)];refine List.ext_getElem? λm=>?_;have g:∀(XW:List Value) (o:Nat) (us:List Value),o+us.length<=XW.length->∀m:Nat,(bn XW o us)[m]? =if o<=m/\m<o+us.length then us[m-o]? else XW[m]? :=by
   intro XW o us h m;unfold bn;by_cases h1:m<o
   ·rw[aa6 (by omega),List.append_assoc,List.getElem?_append_left (by simp;omega),List.getElem?_take,aa5 h1]
   ·by_cases h2:m<o+us.length
    ·rw[aa5 (by omega),List.append_assoc,List.getElem?_append_right (by simp;omega),List.getElem?_append_left (by simp;omega)]
     congr 1;simp;omega
    ·rw[aa6 (by omega),List.getElem?_append_right (by simp;omega),List.getElem?_drop]
     congr 1;simp;omega
  rw[g _ _ _ (by simp;omega),g _ _ _ (by simp;omega)];simp only[Array.toList_setIfInBounds,List.length_cons];by_cases e:m=off+j
  ·subst e
   rw[aa6 (by omega),aa5 (by omega)];have hc:off+j<cs.size:=by omega
   simp[hc]
  ·by_cases h1:off+(j+1)<=m/\m<off+(j+1)+r.length
   ·rw[aa5 h1,aa5 (by omega)]
    have:m-(off+j)=(m-(off+(j+1)))+1:=by omega
    rw[this,List.getElem?_cons_succ]
   ·rw[aa6 h1,aa6 (by omega)]
    rw[List.getElem?_set_ne (by omega)]
theorem r9{place:Nat->Option (Nat×Nat)}{pl:List (Nat×Nat)}(hp:∀i,place i=pl[i]?):∀(parts:List (Nat×Value)) (cs:Array Value) (out:List Value),qo pl cs.toList parts=some out->Instr.fill place cs parts=some out.toArray:=by
 intro parts
 induction parts with
 |nil=>intro cs out h;simp[qo]at h;simp[Instr.fill, ← h]
 |cons q r ih=>
  obtain⟨i,v⟩:=q;intro cs out h;simp only[qo]at h;simp only[Instr.fill,hp i];split at h
  ·cases h
  ·rename_i off sz Yl
   rw[Yl];simp only;split at h
   ·cases h
   ·rename_i hc
    simp only[Array.length_toList]at hc;rw[aa6 (by simpa using hc)];refine ih _ out ?_;have hle:off+v.cells.size<=cs.size:=by simp only[Bool.or_eq_true,decide_eq_true_eq,not_or]at hc;omega
    have:=Jp v.cells.toList cs off 0 (by simpa using hle);rw[← h];congr 1;rw[Nat.add_zero]at this;rw[← this, ← Array.foldl_toList];simp only[Array.toList_zipIdx]
theorem Gn{P:Program}{t:Nat}{pl:List (Nat×Nat)}[h:TG P t pl](w:World):∃fs,P.underlying t=some (.struct fs)/\((fs.mapM (m:=Sem) λf=>do pure (f.offset, ← sizeOf f.type)).run P w= .ok pl.toArray w):=by
 have:=h.ok;unfold Br at this;split at this
 ·rename_i fs hu
  refine⟨fs,hu,?_⟩;have key:∀(l:List Field) (pl:List (Nat×Nat)),(l.mapM λf=>(P.info? f.type).map λi=>(f.offset,i.size))=some pl->(l.mapM (m:=Sem) λf=>do pure (f.offset, ← sizeOf f.type)).run P w= .ok pl w:=by
   intro l
   induction l with
   |nil=>intro pl h;simp at h;subst h;simp
   |cons f r ih=>
    intro pl h;cases hi:P.info? f.type with
    |none=>simp[hi]at h
    |some i=>
     simp only[List.mapM_cons,hi,Option.map_some,Option.pure_def,Option.bind_eq_bind,Option.bind_some]at h;cases hr:(r.mapM λf=>(P.info? f.type).map λi=>(f.offset,i.size))with
     |none=>simp[hr]at h
     |some q=>
      simp only[hr,Option.bind_some,Option.some.injEq]at h;subst h;have hs:(sizeOf f.type).run P w= .ok i.size w:=by simp[sizeOf,typeInfo,hi]
      simp only[List.mapM_cons,Sem.run_bind,hs,Result.andThen_ok,Sem.run_pure,ih q hr]
  have hk:=key _ _ this;have e:fs=fs.toList.toArray:=by simp
  rw[e,List.mapM_toArray];simp only[Sem.run_map,hk,Result.andThen_ok]
 ·cases this
theorem evp{F:cE}{a:Act}(hf:tI F a.tmps):∀{parts:List (Nat×Operand)} {vs:List Value},Ai F (parts.map (·.2))=some vs->parts.map (λq=>(q.1,a.eval q.2))=(parts.map (·.1)).zip vs:=by
 intro parts
 induction parts with
 |nil=>intro vs _;simp
 |cons q r ih=>
  intro vs h;simp only[List.map_cons,Ai]at h;split at h
  ·rename_i v us h1 h2
   rw[← Option.some.inj h];simp[ay hf h1,ih h2]
  ·cases h
theorem ve{t:Nat}{parts:List (Nat×Operand)}{vs zs cs:List Value}{pl:List (Nat×Nat)}[hz:fM P t zs][Yl:TG P t pl](hv:Ai F (parts.map (·.2))=some vs)(hc:qo pl zs ((parts.map (·.1)).zip vs)=some cs):
  VS P N c ⟨d, .build t parts.toArray,ty,p,af,g⟩ F H (.agg cs.toArray):=
 ax (by simp) λa w hf _ _ =>by
  obtain⟨i,z,h1,h2,h3⟩:=fM.get hz.ok;obtain⟨fs,h4,h5⟩:=Gn (P:=P) (t:=t) w;have h6:(zeroValue t).run P w= .ok z w:=by simp[zeroValue,typeInfo,h1,h2]
  have h7:=r9 (place:=λi=>(pl.toArray)[i]?) (pl:=pl) (by simp) ((parts.map (·.1)).zip vs) z.cells cs (by rw[h3];exact hc);have h8:=evp hf hv;simp only[execOp,Instr.build,Sem.run_bind,h6,Result.andThen_ok,run_underlying h4,h5];have h9:(Array.map (λx=>(x.fst,a.eval x.snd)) parts.toArray).toList=(parts.map (·.1)).zip vs:=by simpa using h8
  simp only[h9,h7];rfl
class qv(H:List av)(v:Value)(e sz n:outParam Nat)(xs:outParam (List Value))(f:outParam (av->List av)):Prop where
 ok:∃k,H[k]? =some (.row v e sz n xs)/\∀r,f r=H.set k r
instance(priority:=100) TI(v e sz n xs)(H:List av):qv (.row v e sz n xs::H) v e sz n xs (λr=>r::H):=⟨⟨0,rfl,λ_ =>rfl⟩⟩
instance(priority:=50) QJ(r:av)(H:List av)(v e sz n xs f)[h:qv H v e sz n xs f]:qv (r::H) v e sz n xs (λq=>r::f q):=
 ⟨by obtain⟨k,h1,h2⟩:=h.ok;exact⟨k+1,by simpa using h1,λq=>by simp[h2]⟩⟩
def Is(P:Program)(t e sz bytes:Nat):Bool:=match P.underlying t,P.info? e with
 |some (.slice e'),some i=>Nat.beq e' e&&Nat.beq i.size sz&&Nat.beq i.bytes bytes&&(match i.zero with|some z=>Nat.beq z.cells.size sz|none=>false)&& !Nat.beq sz 0
 |_,_ =>false
class F3(P:Program)(t:TypeId)(e sz bytes:outParam Nat):Prop where
 ok:Is P t e sz bytes=true
theorem F3.get{P:Program}{t e sz bytes:Nat}(h:Is P t e sz bytes=true):∃i z,P.underlying t=some (.slice e)/\P.info? e=some i/\i.zero=some z/\i.size=sz/\i.bytes=bytes/\z.cells.size=sz/\0<sz:=by
 unfold Is at h;split at h
 ·rename_i e' i h1 h2
  simp only[aa8,Bool.not_eq_true']at h;obtain⟨⟨⟨⟨a1,a2⟩,a3⟩,a4⟩,a5⟩:=h;cases hz:i.zero with
  |none=>simp[hz]at a4
  |some z=>simp only[hz]at a4;rw[aa7 a1]at h1;refine⟨i,z,h1,h2,hz,aa7 a2,aa7 a3,aa7 a4,Nat.pos_of_ne_zero λe0=>?_⟩;rw[e0]at a5;exact absurd a5 (by decide)
 ·cases h
theorem uk{P:Program}{t ty e sz bytes n m cp:Nat}{v:Value}{xs news:List Value}{w:World}{b off:Nat}[ht:F3 P t e sz bytes](hown:w.ownsRow 0 e sz v n xs)(hl:news.length=m*sz)
  (hn:∀(j:Nat) u,news[j]? =some u->w.cell? ⟨b,off+j,none⟩=some u)(h1:kP news)(GJ:(n+m)*bytes<=140737488355328)(h63:n+m<=9223372036854775807):
  ∃v' w',(Builtin.append_ #[t,t] ty #[v, .slice (some ⟨b,off,none⟩) m cp]).run P w= .ok v' w'/\w'.ownsRow 0 e sz v' (n+m) (xs++news)/\aJ v.ownBlock.toList w w'/\
   (∀k,v'.ownBlock=some k->(v.ownBlock=some k\/w.heap.size<=k)/\k<w'.heap.size):=by
 obtain⟨i,z,e1,e2,e3,e4,e5,e6,e7⟩:=F3.get ht.ok;have hn':∀(j:Nat) u,news[j]? =some u->w.cell? ((⟨b,off,none⟩:Addr).add j)=some u:=λj u hj=>by rw[Addr.add_lit];exact hn j u hj
 have Jk:n+m<=maxLen:=by simp only[maxLen];omega
 obtain⟨v',w',hr,hown',hg,_⟩:=run_append_own w 0 t ty e i z sz bytes e1 e2 e3 e4 e5 e6 e7 v n xs hown ⟨b,off,none⟩ m cp news hl hn' h1 Jk GJ (Nat.zero_le _);refine⟨v',w',hr,hown',aJ.uz hg,λk hk=>⟨?_,(hown'.lt k hk).2⟩⟩;subst e4;subst e5;rcases hown.2 with⟨rfl,rfl⟩|⟨gb,cap,cur,rfl,_,LX,hnc,Ie,hcs,Dm⟩
 ·obtain⟨v2,w2,Nv,WK,_,_⟩:=run_append_own w w.heap.size t ty e i z i.size i.bytes e1 e2 e3 rfl rfl e6 e7 (.slice none 0 0) 0 xs ⟨hown.1, .inl ⟨rfl,rfl⟩⟩ ⟨b,off,none⟩ m cp news hl hn' h1 Jk GJ (Nat.le_refl _)
  rw[hr]at Nv;cases Nv;exact .inr (WK.lt k hk).1
 ·by_cases hroom:n+m<=cap
  ·have hfit:n*i.size+news.length<=cur.size:=by rw[hl,hcs, ← Nat.add_mul];exact Nat.mul_le_mul_right _ hroom
   have Nv:=run_append_room (P:=P) w t ty e i e1 e2 gb n cap cur LX ⟨b,off,none⟩ m cp news hl hn' h1 hroom hfit;rw[hr]at Nv;cases Nv;exact .inl hk
  ·have Nv:=run_append_grow (P:=P) w t ty e i z e1 e2 e3 ⟨gb,0,none⟩ n cap xs hown.1 (hown.cells (g:=gb) rfl) ⟨b,off,none⟩ m cp news hl hn' (by omega) (by omega) (growslice_fits (by omega) GJ)
   rw[hr]at Nv;cases Nv;simp[Value.ownBlock]at hk;exact .inr (by omega)
def s9:Value->Value
 | .slice a n _ => .slice a n n
 |v=>v
def XL(v:Value):Prop:=∃a n cp,v= .slice a n cp
theorem XL.cells{v:Value}(h:XL v):v.cells.toList=[v]:=by obtain⟨a,n,cp,rfl⟩:=h;rfl
theorem XL.one{v:Value}(h:XL v):v.oneCell'=true:=by obtain⟨a,n,cp,rfl⟩:=h;cases a<;>rfl
def qu(v:Value)(n:Nat):Prop:=∃a cp,v= .slice a n cp
theorem qu.slv{v:Value}{n:Nat}(h:qu v n):XL v:=by obtain⟨a,cp,rfl⟩:=h;exact⟨_,_,_,rfl⟩
theorem qu.cells{v:Value}{n:Nat}(h:qu v n):v.cells.toList=[v]:=h.slv.cells
theorem qu.one{v:Value}{n:Nat}(h:qu v n):v.oneCell'=true:=h.slv.one
theorem qu.rU{w:World}{v:Value}{e sz n:Nat}{xs:List Value}(h:w.ownsRow 0 e sz v n xs):qu v n:=by
 rcases h.2 with⟨rfl,rfl⟩|⟨_,_,_,rfl,_⟩
 ·exact⟨_,_,rfl⟩
 ·exact⟨_,_,rfl⟩
theorem qu.aaM{v:Value}{n:Nat}(h:qu v n):qu (s9 v) n:=by obtain⟨a,cp,rfl⟩:=h;exact⟨_,_,rfl⟩
theorem JL{s x:Operand}{t e sz bytes n m b T cp:Nat}{v:Value}{xs news:List Value}{f:av->List av}[F3 P t e sz bytes](hs:ev F s=some v)[hr:qv H v e sz n xs f](hx:ev F x=some (.slice (some ⟨b,0,none⟩) m cp))[hc:nZ H b T news]
  (hl:news.length=m*sz)(h1:kP news)(GJ:(n+m)*bytes<=140737488355328)(h63:n+m<=9223372036854775807):
  RX P N c ⟨d, .call ⟨.builtin .append, #[s,x], #[t,t]⟩,ty,p,af,g⟩ F H (λv'=>qu v' (n+m)) (λv'=>v') (λv'=>f (.row v' e sz (n+m) (xs++news))):=λD a w next Q hst hk=>by
 obtain⟨k,k1,k2⟩:=hr.ok;have hm:av.row v e sz n xs∈H:=List.mem_of_getElem? k1;obtain⟨v',w',q1,q2,q3,q4⟩:=uk (P:=P) (t:=t) (ty:=ty) (cp:=cp) (b:=b) (off:=0) (hst.hp.holds _ hm) hl (λj u hj=>by rw[Nat.zero_add,m0 (hst.hp.holds _ hc.mem)];exact hj) h1 GJ h63;refine cq (by simp) (v:=v') (w':=w') ?_ (hk v' w' (qu.rU q2) (hst.si.trans q3 λb' hb'=>(hst.hp.own _ hm b' hb').1) ?_)
 ·simp[execOp,resolve,invoke,builtin,ay hst.fr hs,ay hst.fr hx,q1]
 ·show aX c.bs c.w0.heap.size (f (.row v' e sz (n+m) (xs++news))) w'
  rw[k2];refine hst.hp.set k1 q3.size (λj hj hn=>q3.block j hj hn) q2 hst.si.size (λb' hb'=>?_);have:=q4 b' (by simpa[av.bK]using hb');exact⟨this.1.imp (λh=>by simpa[av.bK]using h) id,this.2⟩
theorem Cg{x:Operand}{t e sz:Nat}{v:Value}{cs zs:List Value}[ht:rF P t e sz][hz:fM P e zs](hx:ev F x=some v)(hc:v.cells.toList=cs)(hl:cs.length=sz)(hzl:zs.length=sz)(h0:0<sz)(hs:sz<=16777216):
  RX P N c ⟨d, .buildSlice t 1 #[(0,x)],ty,p,af,g⟩ F H (λ_ =>True) (λb=> .slice (some ⟨b,0,none⟩) 1 1) (λb=> .cells b e cs::H):=λD a w next Q hst hk=>by
 obtain⟨i,h1,h2,h3⟩:=rF.get ht.ok;obtain⟨i',z,h4,h5,h6⟩:=fM.get hz.ok;rw[h2]at h4;cases h4;have hsz:v.cells.size=sz:=by rw[← hl, ← hc];simp
 refine cq (by simp) (w':=w.alloc (.cells cs.toArray e)) ?_ (hk w.heap.size _ trivial (hst.si.ext (aJ.alloc _ _)) (hst.hp.box e cs hst.si.size));have Fg:Instr.fill (λi=>some (i*sz,sz)) ((Array.range sz).map (z.cells[· %z.cells.size]!)) [(0,v)]=some cs.toArray:=by
  have:=r9 (place:=λi=>if i=0 then some (0,sz)else none) (pl:=[(0,sz)]) (by intro i;cases i<;>simp) [(0,v)] ((Array.range sz).map (z.cells[· %z.cells.size]!)) cs (by
   simp only[qo,List.getElem?_cons_zero,hsz,hc,Array.length_toList,Array.size_map,Array.size_range,Nat.zero_add,ne_eq,not_true_eq_false,decide_false,Bool.false_or,gt_iff_lt,Nat.lt_irrefl,Bool.false_eq_true,if_false];simp[bn,hl])
  have e:∀cells:Array Value,Instr.fill (λi=>some (i*sz,sz)) cells [(0,v)]=Instr.fill (λi=>if i=0 then some (0,sz)else none) cells [(0,v)]:=λcells=>by simp[Instr.fill]
  rw[e];exact this
 have hn0:¬sz=0:=by omega
 have aar:¬16777216<sz:=by omega
 simp only[execOp,Instr.buildSlice,Sem.run_bind,run_underlying h1,Result.andThen_ok,sizeOf,typeInfo];simp[h2,h3,hn0,aar,ay hst.fr hx,Fg,zeroValue,typeInfo,h5,newRow,newObj,Sem.run]
theorem IG{x hi mx:Operand}{t e q sz n:Nat}{v:Value}{xs:List Value}{k k':IntKind}[ht:rF P t e q](hx:ev F x=some v)(hh:ev F hi=some (.int k n))(hm:ev F mx=some (.int k' n))[h:mF c H v sz n xs]:
  VS P N c ⟨d, .slice t x none (some hi) (some mx),ty,p,af,g⟩ F H (s9 v):=
 ax (by simp) λa w hf hs hp=>by
  obtain⟨i,h1,h2,h3⟩:=rF.get ht.ok;have hr:=h.ro w hs hp;rcases hr.2 with⟨⟨a0,cp,rfl⟩,rfl⟩|⟨gb,off,cap,rfl,_,hle,_⟩
  ·cases a0<;>simp[execOp,ay hf hx,ay hf hh,ay hf hm,Instr.sliceAt,run_underlying h1,Instr.slice,Instr.sliceBounds,Instr.sliceBound,asIntOf,sizeOf,typeInfo,h2,s9]
  ·have h9:(n:Int)<=(cap:Int):=by omega
   by_cases hn:n=0
   ·subst hn
    simp[execOp,ay hf hx,ay hf hh,ay hf hm,Instr.sliceAt,run_underlying h1,Instr.slice,Instr.sliceBounds,Instr.sliceBound,asIntOf,sizeOf,typeInfo,h2,s9]
   ·simp[execOp,ay hf hx,ay hf hh,ay hf hm,Instr.sliceAt,run_underlying h1,Instr.slice,Instr.sliceBounds,Instr.sliceBound,asIntOf,sizeOf,typeInfo,h2,s9,hle,Addr.add]
theorem vB{bs:List Nat}{n0 e sz:Nat}{w:World}(h:aX bs n0 H w):aX bs n0 (.row (.slice none 0 0) e sz 0 []::H) w:=
 h.cons ⟨by simp, .inl ⟨rfl,rfl⟩⟩ (λb hb=>by simp[av.bK,Value.ownBlock]at hb) (λs _ b hb=>by simp[av.bK,Value.ownBlock]at hb)
theorem Px{D:List Deferred}{Q:Exit->Act->World->Prop}{x:Code}(e sz:Nat)(h:WP P N c D x Q F (.row (.slice none 0 0) e sz 0 []::H)):WP P N c D x Q F H:=Tl (λ_ _ _ hp=>vB hp) h
theorem Pu{D:List Deferred}{Q:Exit->Act->World->Prop}{x:Exit}(e sz:Nat)(h:WQ N c D Q x F (.row (.slice none 0 0) e sz 0 []::H)):WQ N c D Q x F H:=MK (λ_ _ _ hp=>vB hp) h
end
end Go.Bw
namespace Go.Bw
open Go Go.RowKit
def Eo:Option Value->Option Value->Bool
 |some (.int _ a),some (.int _ b)=>a==b
 |some (.bool a),some (.bool b)=>a==b
 |_,_ =>false
def pF(k:Option IntKind):Option Value->Bool
 |some (.int k' _)=>match k with|some k=>decide (k=k')|none=>false
 |some (.bool _)=>k.isNone
 |_ =>false
def zA:List (Nat×Option IntKind)->List Value->List Value->Bool
 |[],_,_ =>true
 |(o,_)::r,cs,ds=>Eo cs[o]? ds[o]? &&zA r cs ds
def vP:List (Nat×Option IntKind)->List Value->Bool
 |[],_ =>true
 |(o,k)::r,cs=>pF k cs[o]? &&vP r cs
def Qx(P:Program)(f:Field)(q:Nat×Option IntKind):Bool:=
 f.name != "_" &&Nat.beq f.offset q.1&&(match P.underlying f.type,q.2 with|some (.int k),some k'=>decide (k=k')|some .bool,none=>true|_,_ =>false)
def w9(P:Program):List Field->List (Nat×Option IntKind)->Bool
 |[],[]=>true
 |f::fs,q::qs=>Qx P f q&&w9 P fs qs
 |_,_ =>false
def B0(P:Program)(t:Nat)(ks:List (Nat×Option IntKind)):Bool:=match P.underlying t with
 |some (.struct fs)=> !P.stoodInHeld t&& !P.eqGuardType P.depth t&&w9 P fs.toList ks
 |_ =>false
class Hq(P:Program)(t:TypeId)(ks:outParam (List (Nat×Option IntKind))):Prop where
 ok:B0 P t ks=true
theorem oB{P:Program}{t off:Nat}{cs:Array Value}{v:Value}{w:World}(ht:(∃k,P.underlying t=some (.int k))\/P.underlying t=some .bool)(h:cs[off]? =some v):(part t cs off).run P w= .ok v w:=by rcases ht with⟨k,hk⟩|hk<;>simp[part,isAgg,run_underlying hk,h]
theorem qg{P:Program}{w:World}(n:Nat){cs ds:List Value}:∀{fs:List Field} {ks:List (Nat×Option IntKind)},w9 P fs ks=true->vP ks cs=true->vP ks ds=true->
  (Op.eqFields (n+1) cs.toArray ds.toArray fs).run P w= .ok (zA ks cs ds) w:=by
 intro fs
 induction fs with
 |nil=>intro ks h _ _;cases ks with
  |nil=>simp[Op.eqFields,zA]
  |cons _ _ =>simp[w9]at h
 |cons f fs ih=>
  intro ks h h1 h2;cases ks with
  |nil=>simp[w9]at h
  |cons q qs=>
   obtain⟨o,k⟩:=q;simp only[w9,Qx,aa8,bne_iff_ne,ne_eq]at h;obtain⟨⟨⟨hn,ho⟩,hk⟩,hr⟩:=h;have ho:f.offset=o:=aa7 ho;simp only[vP,aa8]at h1 h2;have bq:=ih hr h1.2 h2.2;subst ho;have k1:=h1.1;have k2:=h2.1
   match hu:P.underlying f.type,k,hk with
   |some (.int kk),some k',hk=>
    have e:kk=k':=by simpa using hk
    subst e
    match hc:cs[f.offset]?,k1 with
    |some (.int ka a),k1=>
     have e1:kk=ka:=by simpa[pF]using k1
     subst e1
     match hd:ds[f.offset]?,k2 with
     |some (.int kb b),k2=>
      have e2:kk=kb:=by simpa[pF]using k2
      subst e2;have p1:=oB (w:=w) (.inl ⟨_,hu⟩) (show cs.toArray[f.offset]? =some (.int kk a)by simpa using hc);have p2:=oB (w:=w) (.inl ⟨_,hu⟩) (show ds.toArray[f.offset]? =some (.int kk b)by simpa using hd);have p3:=run_equalIn_int (P:=P) w n f.type kk kk a b hu;simp only[Op.eqFields,hn,ne_eq,not_false_eq_true,if_true,Sem.run_bind,p1,p2,p3,Result.andThen_ok];simp only[zA,hc,hd,Eo];cases a==b<;>simp[bq]
     |some (.bool _),k2=>simp[pF]at k2
    |some (.bool _),k1=>simp[pF]at k1
   |some .bool,none,_ =>
    match hc:cs[f.offset]?,k1 with
    |some (.bool a),_ =>
     match hd:ds[f.offset]?,k2 with
     |some (.bool b),_ =>have p1:=oB (w:=w) (.inr hu) (show cs.toArray[f.offset]? =some (.bool a)by simpa using hc);have p2:=oB (w:=w) (.inr hu) (show ds.toArray[f.offset]? =some (.bool b)by simpa using hd);have p3:=run_equalIn_bool' (P:=P) w n f.type a b hu;simp only[Op.eqFields,hn,ne_eq,not_false_eq_true,if_true,Sem.run_bind,p1,p2,p3,Result.andThen_ok];simp only[zA,hc,hd,Eo];cases a==b<;>simp[bq]
     |some (.int _ _),k2=>simp[pF]at k2
    |some (.int _ _),k1=>simp[pF]at k1
section
variable {P:Program} {N:Nat} {c:Cx} {F:cE} {H:List av} {d:Option Tmp} {ty:TypeId} {p:String} {af:Array Edge} {g:Option (Nat×Bool)}
theorem Hq.get{t:Nat}{ks:List (Nat×Option IntKind)}(h:B0 P t ks=true):P.underlying t=some (.struct (P.fieldsOf t))/\P.stoodInHeld t=false/\P.eqGuardType P.depth t=false/\w9 P (P.fieldsOf t).toList ks=true:=by
 unfold B0 at h;split at h
 ·rename_i fs hu
  simp only[aa8,Bool.not_eq_true']at h;have e:P.fieldsOf t=fs:=by simp[Program.fieldsOf,hu]
  rw[e];exact⟨hu,h.1.1,h.1.2,h.2⟩
 ·cases h
theorem IE{x y:Operand}{cs ds:List Value}{T U:TypeId}{ks:List (Nat×Option IntKind)}[hT:Hq P T ks](hx:ev F x=some (.agg cs.toArray))(hy:ev F y=some (.agg ds.toArray))(h1:vP ks cs=true)(h2:vP ks ds=true):
  VS P N c ⟨d, .binOp .eql T x y U,ty,p,af,g⟩ F H (.bool (zA ks cs ds)):=
 ax (by simp) λa' w hf _ _ =>by obtain⟨e1,e2,e3,e4⟩:=Hq.get hT.ok;have q1:=run_eqGuard_agg (P:=P) w .eql T x y cs.toArray ds.toArray e3;have q2:=run_eql_struct (P:=P) w T cs.toArray ds.toArray;rw[run_equalIn_struct w 9999 T _ _ e1 e2,qg 9998 e4 h1 h2]at q2;simp only[Result.andThen_ok]at q2;simp[execOp,ay hf hx,ay hf hy,q1,q2]
theorem PC{x y:Operand}{cs ds:List Value}{T U:TypeId}{ks:List (Nat×Option IntKind)}[hT:Hq P T ks](hx:ev F x=some (.agg cs.toArray))(hy:ev F y=some (.agg ds.toArray))(h1:vP ks cs=true)(h2:vP ks ds=true):
  VS P N c ⟨d, .binOp .neq T x y U,ty,p,af,g⟩ F H (.bool (!zA ks cs ds)):=
 ax (by simp) λa' w hf _ _ =>by obtain⟨e1,e2,e3,e4⟩:=Hq.get hT.ok;have q1:=run_eqGuard_agg (P:=P) w .neq T x y cs.toArray ds.toArray e3;have q2:=run_neq_struct (P:=P) w T cs.toArray ds.toArray;rw[run_equalIn_struct w 9999 T _ _ e1 e2,qg 9998 e4 h1 h2]at q2;simp only[Result.andThen_ok]at q2;simp[execOp,ay hf hx,ay hf hy,q1,q2]
def nC(l h sz:Nat):Value->Value
 | .slice a _ cap=> .slice (if cap=l then a else a.map (·.add (l*sz))) (h-l) (cap-l)
 |v=>v
theorem Ro.cut{w:World}{v:Value}{sz n l h:Nat}{xs:List Value}(hr:Ro w v sz n xs)(hl:l<=h)(hh:h<=n):Ro w (nC l h sz v) sz (h-l) ((xs.drop (l*sz)).take ((h-l)*sz)):=by
 have hlen:((xs.drop (l*sz)).take ((h-l)*sz)).length=(h-l)*sz:=by
  have:(h-l)*sz+l*sz<=n*sz:=by rw[← Nat.add_mul];exact Nat.mul_le_mul_right _ (by omega)
  simp[hr.1];omega
 refine⟨hlen,?_⟩;rcases hr.2 with⟨⟨a,cp,rfl⟩,rfl⟩|⟨gb,off,cap,rfl,h2,h3,h4⟩
 ·have e1:l=0:=by omega
  have e2:h=0:=by omega
  subst e1;subst e2;exact .inl ⟨⟨_,_,rfl⟩,rfl⟩
 ·by_cases e:cap=l
  ·have e2:h=l:=by omega
   subst e2;exact .inl ⟨⟨some ⟨gb,off,none⟩,cap-h,by simp[nC,e]⟩,by omega⟩
  ·refine .inr ⟨gb,off+l*sz,cap-l,by simp[nC,e,Addr.add_lit],h2,by omega,λj u hu=>?_⟩
   rw[List.getElem?_take]at hu;split at hu
   ·rw[List.getElem?_drop]at hu
    rw[Nat.add_assoc];exact h4 _ u hu
   ·cases hu
theorem Mw(l h sz:Nat)(v:Value):(nC l h sz v).ownBlock=v.ownBlock:=by
 cases v with
 |slice a n cap=>cases a<;>simp only[nC]<;>split<;>simp[Value.ownBlock,Addr.add]<;>split<;>rfl
 |_ =>rfl
theorem kH{k:IntKind}{l n:Nat}{code:BoundsCode}{w:World}(h:l<=n):(Instr.sliceBound (.int k l) n code).run P w= .ok l w:=by
 have h2:(l:Int)<=(n:Int):=by omega
 simp[Instr.sliceBound,asIntOf,h2]
theorem DA{x lo:Operand}{t e q sz n:Nat}(l:Nat){v:Value}{xs:List Value}{k:IntKind}[ht:rF P t e q](hx:ev F x=some v)(hlo:ev F lo=some (.int k l))[h:mF c H v sz n xs](hl:l<=n):
  VS P N c ⟨d, .slice t x (some lo) none none,ty,p,af,g⟩ F H (nC l n q v):=
 ax (by simp) λa w hf hs hp=>by
  obtain⟨i,h1,h2,h3⟩:=rF.get ht.ok;obtain⟨a0,cp,rfl⟩:∃a0 cp,v= .slice a0 n cp:=by rcases(h.ro w hs hp).2 with⟨⟨a0,cp,rfl⟩,rfl⟩|⟨gb,off,cap,rfl,_⟩<;>exact⟨_,_,rfl⟩
  have b1:=kH (P:=P) (k:=k) (w:=w) (code:= .sliceB) hl;simp[execOp,ay hf hx,ay hf hlo,Instr.sliceAt,run_underlying h1,Instr.slice,Instr.sliceBounds,b1,sizeOf,typeInfo,h2,h3,nC]
theorem DB{x hi:Operand}{t e q sz n:Nat}(m:Nat){v:Value}{xs:List Value}{k:IntKind}[ht:rF P t e q](hx:ev F x=some v)(hhi:ev F hi=some (.int k m))[h:mF c H v sz n xs](hm:m<=n):
  VS P N c ⟨d, .slice t x none (some hi) none,ty,p,af,g⟩ F H (nC 0 m q v):=
 ax (by simp) λa w hf hs hp=>by
  obtain⟨i,h1,h2,h3⟩:=rF.get ht.ok;obtain⟨a0,cp,rfl,W4⟩:∃a0 cp,v= .slice a0 n cp/\m<=cp:=by
   rcases(h.ro w hs hp).2 with⟨⟨a0,cp,rfl⟩,rfl⟩|⟨gb,off,cap,rfl,_,hle,_⟩
   ·exact⟨_,_,rfl,by omega⟩
   ·exact⟨_,_,rfl,by omega⟩
  have b1:=kH (P:=P) (k:=k) (w:=w) (code:= .sliceAcap) W4;simp[execOp,ay hf hx,ay hf hhi,Instr.sliceAt,run_underlying h1,Instr.slice,Instr.sliceBounds,b1,sizeOf,typeInfo,h2,nC]
theorem TD{x lo hi:Operand}{t e q sz n:Nat}(l m:Nat){v:Value}{xs:List Value}{k k':IntKind}[ht:rF P t e q](hx:ev F x=some v)(hlo:ev F lo=some (.int k l))(hhi:ev F hi=some (.int k' m))[h:mF c H v sz n xs](hl:l<=m)(hm:m<=n):
  VS P N c ⟨d, .slice t x (some lo) (some hi) none,ty,p,af,g⟩ F H (nC l m q v):=
 ax (by simp) λa w hf hs hp=>by
  obtain⟨i,h1,h2,h3⟩:=rF.get ht.ok;obtain⟨a0,cp,rfl,W4⟩:∃a0 cp,v= .slice a0 n cp/\m<=cp:=by
   rcases(h.ro w hs hp).2 with⟨⟨a0,cp,rfl⟩,rfl⟩|⟨gb,off,cap,rfl,_,hle,_⟩
   ·exact⟨_,_,rfl,by omega⟩
   ·exact⟨_,_,rfl,by omega⟩
  have b1:=kH (P:=P) (k:=k') (w:=w) (code:= .sliceAcap) W4;have b2:=kH (P:=P) (k:=k) (w:=w) (code:= .sliceB) hl;simp[execOp,ay hf hx,ay hf hlo,ay hf hhi,Instr.sliceAt,run_underlying h1,Instr.slice,Instr.sliceBounds,b1,b2,sizeOf,typeInfo,h2,h3,nC]
theorem CL{t ty e sz bytes n m:Nat}{v x:Value}{xs news:List Value}{w:World}[ht:F3 P t e sz bytes](hown:w.ownsRow 0 e sz v n xs)(hx:Ro w x sz m news)(h1:kP news)(GJ:(n+m)*bytes<=140737488355328)(h63:n+m<=9223372036854775807):
  ∃v' w',(Builtin.append_ #[t,t] ty #[v,x]).run P w= .ok v' w'/\w'.ownsRow 0 e sz v' (n+m) (xs++news)/\aJ v.ownBlock.toList w w'/\
   (∀k,v'.ownBlock=some k->(v.ownBlock=some k\/w.heap.size<=k)/\k<w'.heap.size):=by
 rcases hx.2 with⟨⟨a,cp,rfl⟩,rfl⟩|⟨gb,off,cap,rfl,_,_,h4⟩
 ·obtain⟨i,z,e1,e2,e3,e4,e5,e6,e7⟩:=F3.get ht.ok
  have LQ:news=[]:=List.length_eq_zero_iff.1 (by rw[hx.1];simp);subst LQ;have hsrc:Src P i.size t (.slice a 0 cp) 0 [] w:=by
   cases a with
   |none=>exact Src.ofNil w e1 cp
   |some a=>exact Src.ofSlice w e1 a 0 cp [] (by simp) (by simp) (by simp)
  obtain⟨base,sCap,hv,hle⟩:∃base sCap,v= .slice base n sCap/\n<=sCap:=by
   rcases hown.2 with⟨rfl,rfl⟩|⟨g,cap,cur,rfl,_,_,hc,_⟩
   ·exact⟨_,_,rfl,Nat.le_refl _⟩
   ·exact⟨_,_,rfl,hc⟩
  have hrun:=run_append_nothing (P:=P) w t t ty e i e1 e2 base n sCap hle _ hsrc;rw[← hv]at hrun;refine⟨v,w,hrun,by simpa using hown,aJ.refl _ _,λk hk=>⟨.inl hk,?_⟩⟩;rcases hown.2 with⟨rfl,_⟩|⟨g,cap,cur,rfl,_,hg,_⟩
  ·cases hk
  ·cases hk;exact(abf.1 hg).1
 ·exact uk hown hx.1 h4 h1 GJ h63
theorem yI{s x:Operand}{t e sz bytes n m:Nat}{v u:Value}{xs news:List Value}{f:av->List av}[F3 P t e sz bytes](hs:ev F s=some v)[hr:qv H v e sz n xs f](hx:ev F x=some u)[hu:mF c H u sz m news]
  (h1:kP news)(GJ:(n+m)*bytes<=140737488355328)(h63:n+m<=9223372036854775807):
  RX P N c ⟨d, .call ⟨.builtin .append, #[s,x], #[t,t]⟩,ty,p,af,g⟩ F H (λv'=>qu v' (n+m)) (λv'=>v') (λv'=>f (.row v' e sz (n+m) (xs++news))):=λD a w next Q hst hk=>by
 obtain⟨k,k1,k2⟩:=hr.ok;have hm:av.row v e sz n xs∈H:=List.mem_of_getElem? k1;obtain⟨v',w',q1,q2,q3,q4⟩:=CL (P:=P) (t:=t) (ty:=ty) (hst.hp.holds _ hm) (hu.ro w hst.si hst.hp) h1 GJ h63;refine cq (by simp) (v:=v') (w':=w') ?_ (hk v' w' (qu.rU q2) (hst.si.trans q3 λb' hb'=>(hst.hp.own _ hm b' hb').1) ?_)
 ·simp[execOp,resolve,invoke,builtin,ay hst.fr hs,ay hst.fr hx,q1]
 ·show aX c.bs c.w0.heap.size (f (.row v' e sz (n+m) (xs++news))) w'
  rw[k2];refine hst.hp.set k1 q3.size (λj hj hn=>q3.block j hj hn) q2 hst.si.size (λb' hb'=>?_);have:=q4 b' (by simpa[av.bK]using hb');exact⟨this.1.imp (λh=>by simpa[av.bK]using h) id,this.2⟩
end
end Go.Bw
namespace Go.Bw
open Go Go.RowKit
def IntKind.up(k:IntKind):Nat:=if k.signed then k.bits-1 else k.bits
section
variable {P:Program} {N:Nat} {c:Cx} {F:cE} {H:List av} {d:Option Tmp} {ty:TypeId} {p:String} {af:Array Edge} {g:Option (Nat×Bool)} {x y:Operand} {k:IntKind} {T U:TypeId}
theorem Dw{x y:Operand}{T len e sz q m:Nat}{i:Int}{k:IntKind}{cs us:List Value}[hT:oI P T len e sz][hA:p4 P e q](hx:ev F x=some (.agg cs.toArray))(hy:ev F y=some (.int k i))(hi:i=(m:Int))(hm:m<len)
  (hv:(cs.drop (m*sz)).take sz=us):VS P N c ⟨d, .index T x y,ty,p,af,g⟩ F H (.agg us.toArray):=
 ax (by simp) λa w hf _ _ =>by
  obtain⟨inf,h1,h2,h3⟩:=oI.get hT.ok;subst hi;have hs:(sizeOf e).run P w= .ok sz w:=by simp[sizeOf,typeInfo,h2,h3]
  have hag:(isAgg e).run P w= .ok true w:=pq w;have he:cs.toArray.extract (m*sz) (m*sz+sz)=us.toArray:=by apply Array.ext';rw[← hv];simp[List.extract_eq_take_drop,Nat.add_sub_cancel_left]
  have hp:(part e cs.toArray (m*sz)).run P w= .ok (.agg us.toArray) w:=by unfold part;rw[Sem.run_bind,hag];simp only[Result.andThen_ok,if_true,Sem.run_bind,hs,Sem.run_pure,he]
  simp[execOp,ay hf hx,ay hf hy,Instr.index,asIntOf,run_underlying h1,hm,hs,hp]
theorem Dx{x y:Operand}{T len e sz m:Nat}{i:Int}{k:IntKind}{cs:List Value}{u:Value}[hT:oI P T len e sz][hA:mV P e](hx:ev F x=some (.agg cs.toArray))(hy:ev F y=some (.int k i))(hi:i=(m:Int))(hm:m<len)
  (hv:cs[m*sz]? =some u):VS P N c ⟨d, .index T x y,ty,p,af,g⟩ F H u:=
 ax (by simp) λa w hf _ _ =>by
  obtain⟨inf,h1,h2,h3⟩:=oI.get hT.ok;subst hi;have hs:(sizeOf e).run P w= .ok sz w:=by simp[sizeOf,typeInfo,h2,h3]
  have hag:(isAgg e).run P w= .ok false w:=nT w;have hp:(part e cs.toArray (m*sz)).run P w= .ok u w:=by simp[part,hag,hv]
  simp[execOp,ay hf hx,ay hf hy,Instr.index,asIntOf,run_underlying h1,hm,hs,hp]
end
end Go.Bw
namespace Go.Bw
open Go
def mg{α:Type}(g:Nat->α)(i:Nat)(v:α):Nat->α:=λj=>if j=i then v else g j
@[simp] theorem Kq{α:Type}(g:Nat->α)(i:Nat)(v:α):mg g i v i=v:=by simp[mg]
theorem IV{α:Type}(g:Nat->α){i j:Nat}(v:α)(h:j≠i):mg g i v j=g j:=by simp[mg,h]
def flat(g:Nat->List Value):Nat->List Value
 |0=>[]
 |n+1=>flat g n++g n
theorem er{g:Nat->List Value}{k:Nat}:∀{n:Nat},(∀i,i<n->(g i).length=k)->(flat g n).length=n*k:=by
 intro n
 induction n with
 |zero=>intro _;simp[flat]
 |succ n ih=>intro h;simp[flat,ih (λi hi=>h i (by omega)),h n (by omega),Nat.add_mul]
theorem r8{g g':Nat->List Value}:∀{n:Nat},(∀i,i<n->g i=g' i)->flat g n=flat g' n:=by
 intro n
 induction n with
 |zero=>intro _;rfl
 |succ n ih=>intro h;simp[flat,ih (λi hi=>h i (by omega)),h n (by omega)]
theorem pI{g:Nat->List Value}{k:Nat}:∀{n i j:Nat},(∀i,i<n->(g i).length=k)->i<n->j<k->(flat g n)[i*k+j]? =(g i)[j]? :=by
 intro n
 induction n with
 |zero=>intro i j _ hi;omega
 |succ n ih=>
  intro i j h hi hj;have hl:=er (n:=n) (λi hi=>h i (by omega));by_cases e:i=n
  ·subst e
   rw[flat,List.getElem?_append_right (by omega),hl];congr 1;omega
  ·have:i*k+j<n*k:=by
    have h1:(i+1)*k<=n*k:=Nat.mul_le_mul_right k (by omega);rw[Nat.add_mul]at h1;omega
   rw[flat,List.getElem?_append_left (by omega)];exact ih (λi hi=>h i (by omega)) (by omega) hj
theorem rm{l m:List Value}(h:∀j:Nat,l[j]? =m[j]?):l=m:=List.ext_getElem? h
theorem pe{cs vs:List Value}{off:Nat}(h:off+vs.length<=cs.length):(bn cs off vs).length=cs.length:=by simp[bn];omega
theorem gq{cs vs:List Value}{off:Nat}(h:off+vs.length<=cs.length)(j:Nat):(bn cs off vs)[j]? =if off<=j/\j<off+vs.length then vs[j-off]? else cs[j]? :=by
 unfold bn;by_cases h1:j<off
 ·rw[aa6 (by omega),List.append_assoc,List.getElem?_append_left (by simp;omega),List.getElem?_take,aa5 h1]
 ·by_cases h2:j<off+vs.length
  ·rw[aa5 (by omega),List.append_assoc,List.getElem?_append_right (by simp;omega),List.getElem?_append_left (by simp;omega)]
   congr 1;simp;omega
  ·rw[aa6 (by omega),List.getElem?_append_right (by simp;omega),List.getElem?_drop]
   congr 1;simp;omega
theorem xR{p q vs:List Value}{off:Nat}:bn (p++q) (p.length+off) vs=p++bn q off vs:=by
 unfold bn;have h1:(p++q).take (p.length+off)=p++q.take off:=by simp[List.take_append,List.take_of_length_le (show p.length<=p.length+off by omega)]
 have h2:(p++q).drop (p.length+off+vs.length)=q.drop (off+vs.length):=by rw[Nat.add_assoc,List.drop_append,List.drop_eq_nil_of_le (by omega)];simp
 rw[h1,h2];simp
theorem EN{p q vs:List Value}{off:Nat}(h:off+vs.length<=p.length):bn (p++q) off vs=bn p off vs++q:=by unfold bn;rw[List.take_append_of_le_length (by omega),List.drop_append_of_le_length h];simp
theorem Fm{g:Nat->List Value}{k n i:Nat}{vs:List Value}(h:∀i,i<n->(g i).length=k)(hi:i<n)(hv:vs.length=k):bn (flat g n) (i*k) vs=flat (mg g i vs) n:=by
 have hl:=er (n:=n) h;have h':∀j,j<n->(mg g i vs j).length=k:=λj hj=>by by_cases e:j=i<;>simp[mg,e,hv,h j hj]
 have hl':=er (n:=n) h';have hb:(i+1)*k<=n*k:=Nat.mul_le_mul_right k (by omega);rw[Nat.add_mul]at hb;refine rm λj=>?_;rw[gq (by omega)];by_cases hj:j<n*k
 ·have hk:0<k:=by
   rcases Nat.eq_zero_or_pos k with h0|h0
   ·subst h0;omega
   ·exact h0
  have hd:j=j/k*k+j%k:=by rw[Nat.mul_comm];exact(Nat.div_add_mod j k).symm
  have hm:=Nat.mod_lt j hk;have hq:j/k<n:=Nat.div_lt_of_lt_mul (by rw[Nat.mul_comm];exact hj);by_cases e:j/k=i
  ·rw[aa5 (by subst e;omega)]
   rw[hd,pI h' hq hm,e,Kq];congr 1;subst e;omega
  ·rw[aa6]
   ·rw[hd,pI h' hq hm,pI h hq hm,IV _ _ e]
   ·rintro⟨h1,h2⟩
    apply e;have:i<=j/k:=(Nat.le_div_iff_mul_le hk).2 h1;have:j/k<i+1:=(Nat.div_lt_iff_lt_mul hk).2 (by rw[Nat.add_mul];omega);omega
 ·rw[aa6 (by omega),List.getElem?_eq_none (by omega),List.getElem?_eq_none (by omega)]
theorem Js{g:Nat->List Value}{k n i:Nat}{t:List Value}(h:∀i,i<n->(g i).length=k)(hi:i<n):((flat g n++t).drop (i*k)).take k=g i:=by
 have hl:=er (n:=n) h;have hb:(i+1)*k<=n*k:=Nat.mul_le_mul_right k (by omega);rw[Nat.add_mul]at hb;refine rm λj=>?_;rw[List.getElem?_take,List.getElem?_drop];by_cases hj:j<k
 ·rw[aa5 hj,List.getElem?_append_left (by omega),pI h hi hj]
 ·rw[aa6 hj,List.getElem?_eq_none (by rw[h i hi];omega)]
theorem kP.app{a b:List Value}(ha:kP a)(hb:kP b):kP (a++b):=λv hv=>(List.mem_append.1 hv).elim (ha v) (hb v)
theorem m9{vs:List Value}(h:vs.all (·.oneCell')=true):kP vs:=λv hv=>List.all_eq_true.1 h v hv
theorem kP.flat{g:Nat->List Value}:∀{n:Nat},(∀i,i<n->kP (g i))->kP (flat g n):=by
 intro n
 induction n with
 |zero=>intro _ v hv;simp[Bw.flat]at hv
 |succ n ih=>intro h;exact(ih λi hi=>h i (by omega)).app (h n (by omega))
end Go.Bw
namespace Go.Bw
open Go Go.RowKit
def Rnd(P:Program)(l:Nat)(QE:List Nat)(w1:World)(J:Nat->List Nat->World->Prop)(Jx:List Nat->World->Prop)(pY:Nat->List Value)(n:Nat):Prop:=∀k,k<n->∀W bs,aJ QE w1 W->(∀b∈bs,(b∈QE\/w1.heap.size<=b)/\b<W.heap.size)->(av.ext bs (J k bs)).holds W-> YieldAt (FA none) 0 P l (pY k).toArray W λe W'=>∃bs',(∀b∈bs',(b∈bs\/W.heap.size<=b)/\b<W'.heap.size)/\aJ bs W W'/\ ((e= .returned (.bool true)/\(av.ext bs' (J (k+1) bs')).holds W')\/(e= .returned (.bool false)/\(av.ext bs' (Jx bs')).holds W'))
def Vr:List Nat->List Value->cE->cE
 |p::ps,v::vs,F=>Vr ps vs ((p,v)::F)
 |_,_,F=>F
theorem Oq:∀{ps:List Nat} {vs:List Value} {F:cE} {t:Array Value} {N:Nat},tI F t->t.size=N->ps.all (Nat.blt · N)=true->tI (Vr ps vs F) ((ps.zip vs).foldl (λt q=>t.setIfInBounds q.1 q.2) t)/\((ps.zip vs).foldl (λt q=>t.setIfInBounds q.1 q.2) t).size=N:=by
 intro ps
 induction ps with
 |nil=>intro vs F t N h hs _;cases vs<;>exact⟨h,hs⟩
 |cons p ps ih=>
  intro vs F t N h hs ha;cases vs with
  |nil=>exact⟨h,hs⟩
  |cons v vs=>simp only[List.all_cons,aa8]at ha;have h1:=tI.put (a:=⟨t,[]⟩) (d:=some p) (v:=v) (N:=N) h hs ha.1;exact ih h1 (by simpa using hs) ha.2
def TM(P:Program)(l:Nat)(body:Code)(R:Ending->World->Prop):Exit->Act->World->Prop:=Exit.then (λa₁ w₁=>∃w₂,(Instr.beginRound l).run P w₁= .ok () w₂/\body.wpIn (FA (some l)) 0 P (roundPost P l R) a₁ w₂) (λ_ _ _ =>False)
def Na(c':Cx)(JT JX:List Nat->World->Prop):Ending->World->Prop:=λe W'=>∃bs',(∀b∈bs',(b∈c'.bs\/c'.w0.heap.size<=b)/\b<W'.heap.size)/\aJ c'.bs c'.w0 W'/\((e= .returned (.bool true)/\(av.ext bs' (JT bs')).holds W')\/(e= .returned (.bool false)/\(av.ext bs' (JX bs')).holds W'))
def JW{α:Type}(n0:Nat)(cb:List Nat)(p:α->Prop)(I:α->List av):List Nat->World->Prop:=λbs W=>∃i,p i/\aX cb n0 (I i) W/\bs=aU (I i)
theorem aN{H:List av}{b:Nat}:b∈aU H↔∃r∈H,b∈r.bK:=by simp[aU]
theorem Hu{α:Type}{n0:Nat}{cb:List Nat}{p:α->Prop}{I:α->List av}{W:World}(i:α)(hp:p i)(h:aX cb n0 (I i) W):(av.ext (aU (I i)) (JW n0 cb p I (aU (I i)))).holds W:=
 λ_ hs hb=>⟨i,hp,h.bp hs (λr hr b CN=>hb b (aN.2 ⟨r,hr,CN⟩)) (λ_ o _ =>o),rfl⟩
theorem yx{bs:List Nat}{J:World->Prop}{W:World}(h:(av.ext bs J).holds W):J W:=h W (Nat.le_refl _) λ_ _ =>rfl
section rules
variable {P:Program} {N:Nat} {c:Cx} {F:cE} {H H':List av} {l:Nat} {body:Code} {R:Ending->World->Prop}
theorem St.mh{N:Nat}{D:List Deferred}{a:Act}{w:World}{b:Nat}{o o':Obj}(hst:St N c D F H a w)(ho:JM H b o)(hs:JJ H b o' H'):St N c D F H' a (w.putObj b o')/\w.heap[b]? =some o:=by
 have hm:=hst.hp.holds _ ho.mem;have hd:w.heap[b]? =some o:=hm;have hlt:=(abf.1 hd).1;have gN:aJ [b] w (w.putObj b o'):=⟨rfl,rfl,rfl,by simp[World.putObj],λk _ hk=>World.putObj_heap_other (by simpa using hk)⟩;refine⟨⟨hst.tm,hst.fr,hst.df,hst.si.store hst.hp ho.mem (by simp[av.bK]) gN,?_⟩,hd⟩;obtain⟨k,o,hk,rfl⟩:=hs.ok;refine hst.hp.set hk gN.size (λj hj hne=>gN.block j hj hne) (World.putObj_heap_same hlt) hst.si.size (λb' hb=>?_);have e:b'=b:=by simpa[av.bK]using hb
 subst e;exact⟨.inl (by simp[av.bK]),by rw[World.putObj];simpa using hlt⟩
variable {α β:Type} {n0:Nat} {cb:List Nat} {p:α->Prop} {I:α->List av} {px:β->Prop} {X:β->List av}
theorem aJ.Qb{c':Cx}{H:List av}{w:World}(hp:aX c'.bs c'.w0.heap.size H w){b:Nat}(hb:b∈aU H):(b∈c'.bs\/c'.w0.heap.size<=b)/\b<w.heap.size:=by obtain⟨r,hr,CN⟩:=aN.1 hb;exact hp.own r hr b CN
end rules
end Go.Bw
namespace Go.Bw
open Go Go.RowKit
structure bP(α:Type) where
 n:Nat
 dJ:(World->Prop)->List Value->α->Prop
 len:∀{J cs x},dJ J cs x->cs.length=n
 one:∀{J cs x},dJ J cs x->kP cs
 mono:∀{J J':World->Prop} {cs x},(∀w,J' w->J w)->dJ J cs x->dJ J' cs x
class aR{α:Type}(L:bP α) where
 enc:α->List Value
 iff:∀{J cs x},L.dJ J cs x↔cs=enc x
def bP.enc{α:Type}(L:bP α)[aR L](x:α):List Value:=aR.enc L x
section
variable {α β γ S:Type}
theorem rp(L:bP α)[aR L](x:α):L.dJ (λ_ =>True) (L.enc x) x:=aR.iff.2 rfl
theorem eV(L:bP α)[aR L](x:α):(L.enc x).length=L.n:=L.len (rp L x)
theorem yy(L:bP α)[aR L](x:α):kP (L.enc x):=L.one (rp L x)
def LI(k:IntKind):bP Int where
 n:=1
 dJ _ cs x:=cs=[.int k x]
 len h:=by subst h;rfl
 one h:=by subst h;exact m9 rfl
 mono _ h:=h
instance(k:IntKind):aR (LI k):=⟨λx=>[.int k x],Iff.rfl⟩
def LB:bP Bool where
 n:=1
 dJ _ cs x:=cs=[.bool x]
 len h:=by subst h;rfl
 one h:=by subst h;exact m9 rfl
 mono _ h:=h
instance:aR LB:=⟨λx=>[.bool x],Iff.rfl⟩
def LP(A:bP α)(B:bP β):bP (α×β) where
 n:=A.n+B.n
 dJ J cs x:=∃c1 c2,cs=c1++c2/\A.dJ J c1 x.1/\B.dJ J c2 x.2
 len:=λ⟨c1,c2,h,h1,h2⟩=>by subst h;simp[A.len h1,B.len h2]
 one:=λ⟨c1,c2,h,h1,h2⟩=>by subst h;exact(A.one h1).app (B.one h2)
 mono m:=λ⟨c1,c2,h,h1,h2⟩=>⟨c1,c2,h,A.mono m h1,B.mono m h2⟩
instance(A:bP α)(B:bP β)[aR A][aR B]:aR (LP A B):=⟨λx=>A.enc x.1++B.enc x.2,by
 intro J cs x;constructor
 ·rintro⟨c1,c2,rfl,h1,h2⟩
  rw[aR.iff]at h1 h2;subst h1 h2;rfl
 ·intro h;exact⟨_,_,h,aR.iff.2 rfl,aR.iff.2 rfl⟩⟩
def bP.via(A:bP α)(f:S->α):bP S where
 n:=A.n
 dJ J cs s:=A.dJ J cs (f s)
 len h:=A.len h
 one h:=A.one h
 mono m h:=A.mono m h
instance(A:bP α)(f:S->α)[aR A]:aR (A.via f):=⟨λs=>A.enc (f s),aR.iff (L:=A)⟩
def LA(L:bP α)(m:Nat):bP (Nat->α) where
 n:=m*L.n
 dJ J cs a:=∃cc:Nat->List Value,cs=flat cc m/\∀i,i<m->L.dJ J (cc i) (a i)
 len:=λ⟨cc,h,h1⟩=>by subst h;exact er λi hi=>L.len (h1 i hi)
 one:=λ⟨cc,h,h1⟩=>by subst h;exact kP.flat λi hi=>L.one (h1 i hi)
 mono m':=λ⟨cc,h,h1⟩=>⟨cc,h,λi hi=>L.mono m' (h1 i hi)⟩
instance(L:bP α)(m:Nat)[aR L]:aR (LA L m):=⟨λa=>flat (λi=>L.enc (a i)) m,by
 intro J cs a;constructor
 ·rintro⟨cc,rfl,h⟩
  exact r8 λi hi=>aR.iff.1 (h i hi)
 ·intro h;exact⟨_,h,λi _ =>aR.iff.2 rfl⟩⟩
structure aM(L:bP α)(M:bP β)(o:Nat)(g:α->β)(s:α->β->α):Prop where
 get:∀{J cs x},L.dJ J cs x->M.dJ J ((cs.drop o).take M.n) (g x)
 set:∀{J cs x vs v},L.dJ J cs x->M.dJ J vs v->L.dJ J (bn cs o vs) (s x v)
 le:o+M.n<=L.n
theorem aM.id{L:bP α}:aM L L 0 (λx=>x) (λ_ v=>v) where
 get h:=by rw[List.drop_zero,List.take_of_length_le (by rw[L.len h];exact Nat.le_refl _)];exact h
 set:=@λJ cs x vs v h hv=>by have:bn cs 0 vs=vs:=Gi (by rw[L.len h,L.len hv]);rw[this];exact hv
 le:=by omega
where Gi {cs vs:List Value} (h:cs.length=vs.length):bn cs 0 vs=vs:=by simp[bn, ← h]
theorem aM.fst{A:bP α}{B:bP β}{M:bP γ}{o:Nat}{g:α->γ}{s:α->γ->α}(p:aM A M o g s):aM (LP A B) M o (λx=>g x.1) (λx v=>(s x.1 v,x.2)) where
 get:=λ⟨c1,c2,h,h1,h2⟩=>by subst h;have hl:=A.len h1;have:=p.le;rw[List.drop_append_of_le_length (by omega),List.take_append_of_le_length (by simp;omega)];exact p.get h1
 set:=λ⟨c1,c2,h,h1,h2⟩ hv=>by subst h;have hl:=A.len h1;have:=p.le;exact⟨_,_,EN (by rw[M.len hv];omega),p.set h1 hv,h2⟩
 le:=by have:=p.le;show o+M.n<=A.n+B.n;omega
theorem aM.snd{A:bP α}{B:bP β}{M:bP γ}{o:Nat}{g:β->γ}{s:β->γ->β}(p:aM B M o g s):aM (LP A B) M (A.n+o) (λx=>g x.2) (λx v=>(x.1,s x.2 v)) where
 get:=λ⟨c1,c2,h,h1,h2⟩=>by subst h;have hl:=A.len h1;rw[← hl, ← List.drop_drop,List.drop_left];exact p.get h2
 set:=λ⟨c1,c2,h,h1,h2⟩ hv=>by subst h;have hl:=A.len h1;exact⟨c1,_,by rw[← hl];exact xR,h1,p.set h2 hv⟩
 le:=by have:=p.le;show A.n+o+M.n<=A.n+B.n;omega
theorem aM.via{A:bP α}{M:bP γ}{o:Nat}{g:α->γ}{s:α->γ->α}(p:aM A M o g s)(f:S->α)(g':S->γ)(s':S->γ->S)(o':Nat)(ho:o'=o)(hg:∀x,g' x=g (f x))(hs:∀x v,f (s' x v)=s (f x) v):aM (A.via f) M o' g' s' where
 get h:=by subst ho;rw[hg];exact p.get h
 set h hv:=by subst ho;show A.dJ _ _ (f (s' _ _));rw[hs];exact p.set h hv
 le:=by subst ho;exact p.le
theorem aM.idx{L:bP α}{m:Nat}(i:Nat)(h:i<m){k:Nat}(hk:k=L.n):aM (LA L m) L (i*k) (λa=>a i) (λa v=>mg a i v) where
 get:=λ⟨cc,hc,h1⟩=>by subst hc hk;have:=Js (g:=cc) (t:=[]) (λj hj=>L.len (h1 j hj)) h;rw[List.append_nil]at this;rw[this];exact h1 i h
 set:=@λJ cs x vs v hh hv=>by
  obtain⟨cc,hc,h1⟩:=hh;subst hc hk;refine⟨mg cc i vs,Fm (λj hj=>L.len (h1 j hj)) h (L.len hv),λj hj=>?_⟩;unfold mg;split
  ·exact hv
  ·exact h1 j hj
 le:=by subst hk;show i*L.n+L.n<=m*L.n;rw[← Nat.succ_mul];exact Nat.mul_le_mul_right _ h
theorem aM.comp{L:bP α}{M:bP β}{K:bP γ}{o1 o2:Nat}{g1:α->β}{s1:α->β->α}{g2:β->γ}{s2:β->γ->β}(p:aM L M o1 g1 s1)(q:aM M K o2 g2 s2):aM L K (o1+o2) (λx=>g2 (g1 x)) (λx v=>s1 x (s2 (g1 x) v)) where
 get h:=by have h2:=q.get (p.get h);have:=q.le;rw[List.drop_take,List.take_take,List.drop_drop,Nat.min_eq_left (by omega)]at h2;exact h2
 set:=@λJ cs x vs v h hv=>by
  have hl:=L.len h;have h2:=p.set h (q.set (p.get h) hv);have Fe:=K.len hv;have:=q.le;have:=p.le;have e:bn cs o1 (bn ((cs.drop o1).take M.n) o2 vs)=bn cs (o1+o2) vs:=by
   refine rm λj=>?_;have hm:=M.len (p.get h);have hlen:(bn ((cs.drop o1).take M.n) o2 vs).length=M.n:=by rw[pe (by omega)];exact hm
   rw[gq (by omega),gq (cs:=cs) (vs:=vs) (by omega),hlen,Fe];by_cases h1:o1<=j/\j<o1+M.n
   ·rw[aa5 h1,gq (by omega),Fe]
    by_cases h3:o1+o2<=j/\j<o1+o2+K.n
    ·rw[aa5 h3,aa5 (by omega),show j-o1-o2=j-(o1+o2)by omega]
    ·rw[aa6 h3,aa6 (by omega),List.getElem?_take,aa5 (by omega),List.getElem?_drop,show o1+(j-o1)=j by omega]
   ·rw[aa6 h1,aa6 (by omega)]
  rw[e]at h2;exact h2
 le:=by have:=q.le;have:=p.le;omega
theorem aM.c0{L:bP α}{M:bP β}{K:bP γ}{o2:Nat}{g1:α->β}{s1:α->β->α}{g2:β->γ}{s2:β->γ->β}(p:aM L M 0 g1 s1)(q:aM M K o2 g2 s2):aM L K o2 (λx=>g2 (g1 x)) (λx v=>s1 x (s2 (g1 x) v)):=by have:=p.comp q;rwa[Nat.zero_add]at this
theorem aM.int{L:bP α}{k:IntKind}{o:Nat}{g:α->Int}{s:α->Int->α}(p:aM L (LI k) o g s){J cs x}(r:L.dJ J cs x):cs[o]? =some (.int k (g x)):=by
 have h:(cs.drop o).take 1=[.int k (g x)]:=p.get r;have h2:((cs.drop o).take 1)[0]? =some (.int k (g x)):=by rw[h];rfl
 rw[List.getElem?_take,aa5 (by decide),List.getElem?_drop]at h2;exact h2
theorem aM.bool{L:bP α}{o:Nat}{g:α->Bool}{s:α->Bool->α}(p:aM L LB o g s){J cs x}(r:L.dJ J cs x):cs[o]? =some (.bool (g x)):=by
 have h:(cs.drop o).take 1=[.bool (g x)]:=p.get r;have h2:((cs.drop o).take 1)[0]? =some (.bool (g x)):=by rw[h];rfl
 rw[List.getElem?_take,aa5 (by decide),List.getElem?_drop]at h2;exact h2
theorem aM.agg{L:bP α}{M:bP β}[aR L][aR M]{o:Nat}{g:α->β}{s:α->β->α}(p:aM L M o g s)(x:α):((L.enc x).drop o).take M.n=M.enc (g x):=aR.iff.1 (p.get (rp L x))
theorem aM.put{L:bP α}{M:bP β}[aR L][aR M]{o:Nat}{g:α->β}{s:α->β->α}(p:aM L M o g s)(x:α)(v:β):bn (L.enc x) o (M.enc v)=L.enc (s x v):=aR.iff.1 (p.set (rp L x) (rp M v))
end
section words
variable {α ρ:Type}
def lt(a:α)(f:α->Option ρ):Option ρ:=f a
def gu(b:Bool)(k:Option ρ):Option ρ:=bif b then k else none
def bd(m:Option α)(f:α->Option ρ):Option ρ:=m.bind f
def cn(b:Bool)(x y:Option ρ):Option ρ:=bif b then x else y
def cl(g:Bool)(m:Option α)(z:α)(f:α->Option ρ):Option ρ:=bif g then m.bind f else f z
def cB(i:Int)(n:Nat):Bool:=decide (0<=i)&&decide (i<(n:Int))
abbrev wr(k:IntKind)(n:Int):Int:=k.wrap n
def KH(k:IntKind)(a b:Int):Int:=k.wrap (a*2^(min b.toNat k.bits))
def Gk(k:IntKind)(a b:Int):Int:=a.fdiv (2^(min b.toNat k.bits))
def rA(k:IntKind)(a b:Int):Int:=k.wrap ((BitVec.ofInt k.bits a&&& BitVec.ofInt k.bits b).toNat:Int)
def X3(k:IntKind)(a b:Int):Int:=k.wrap ((BitVec.ofInt k.bits a|||BitVec.ofInt k.bits b).toNat:Int)
def NI(k:IntKind)(a b:Int):Int:=k.wrap ((BitVec.ofInt k.bits a^^^BitVec.ofInt k.bits b).toNat:Int)
def A6(k:IntKind)(a b:Int):Int:=k.wrap ((BitVec.ofInt k.bits a&&& ~~~BitVec.ofInt k.bits b).toNat:Int)
theorem vQ{a:α}{f:α->Option ρ}{r:ρ}(h:lt a f=some r):∃x,x=a/\f x=some r:=⟨a,rfl,h⟩
theorem mQ{b:Bool}{k:Option ρ}{r:ρ}(h:gu b k=some r):b=true/\k=some r:=by cases b with|true=>exact⟨rfl,h⟩|false=>cases h
theorem oE{m:Option α}{f:α->Option ρ}{r:ρ}(h:bd m f=some r):∃x,m=some x/\f x=some r:=by cases m with|none=>cases h|some x=>exact⟨x,rfl,h⟩
theorem G6{b:Bool}{x y:Option ρ}{r:ρ}(hb:b=true)(h:cn b x y=some r):x=some r:=by subst hb;exact h
theorem G7{b:Bool}{x y:Option ρ}{r:ρ}(hb:b=false)(h:cn b x y=some r):y=some r:=by subst hb;exact h
theorem Pe{g:Bool}{m:Option α}{z:α}{f:α->Option ρ}{r:ρ}(h:cl g m z f=some r):∃x,(g=true->m=some x)/\(g=false->x=z)/\f x=some r:=by
 cases g with
 |true=>obtain⟨x,h1,h2⟩:=oE h;exact⟨x,λ_ =>h1,nofun,h2⟩
 |false=>exact⟨z,nofun,λ_ =>rfl,h⟩
theorem bz{i:Int}{n:Nat}(h:cB i n=true):i=(i.toNat:Int)/\i.toNat<n:=by simp[cB]at h;omega
theorem BE{g p:Bool}(h:(!g||p)=true)(hg:g=true):p=true:=by subst hg;simpa using h
theorem Qv{i:Int}(h:decide (0<=i)=true):0<=i:=by simpa using h
end words
section
variable {α1 ρ:Type}
def fZ(B:(α1->Option ρ)->α1->Option ρ):Nat->α1->Option ρ
 |0,_ =>none
 |n+1,a1=>B (fZ B n) a1
theorem VV{lb B:(α1->Option ρ)->α1->Option ρ}(e:lb=B){m:Nat}{a1:α1}{r:ρ}(h:fZ lb m a1=some r):∃m',m=m'+1/\B (fZ lb m') a1=some r:=by
 subst e;cases m with
 |zero=>cases h
 |succ m=>exact⟨m,rfl,h⟩
theorem V5{j B:α1->Option ρ}(e:j=B){a1:α1}{r:ρ}(h:j a1=some r):B a1=some r:=e▸h
end
section
variable {α1 α2 ρ:Type}
def dy(B:(α1->α2->Option ρ)->α1->α2->Option ρ):Nat->α1->α2->Option ρ
 |0,_,_ =>none
 |n+1,a1,a2=>B (dy B n) a1 a2
theorem E3{B:(α1->α2->Option ρ)->α1->α2->Option ρ}{n:Nat}{a1:α1}{a2:α2}{r:ρ}(h:dy B n a1 a2=some r):∃lb,lb=B/\dy lb n a1 a2=some r:=⟨B,rfl,h⟩
theorem Dh{lb B:(α1->α2->Option ρ)->α1->α2->Option ρ}(e:lb=B){m:Nat}{a1:α1}{a2:α2}{r:ρ}(h:dy lb m a1 a2=some r):∃m',m=m'+1/\B (dy lb m') a1 a2=some r:=by
 subst e;cases m with
 |zero=>cases h
 |succ m=>exact⟨m,rfl,h⟩
end
section
variable {α1 α2 α3 ρ:Type}
def uG(B:(α1->α2->α3->Option ρ)->α1->α2->α3->Option ρ):Nat->α1->α2->α3->Option ρ
 |0,_,_,_ =>none
 |n+1,a1,a2,a3=>B (uG B n) a1 a2 a3
theorem VU{B:(α1->α2->α3->Option ρ)->α1->α2->α3->Option ρ}{n:Nat}{a1:α1}{a2:α2}{a3:α3}{r:ρ}(h:uG B n a1 a2 a3=some r):∃lb,lb=B/\uG lb n a1 a2 a3=some r:=⟨B,rfl,h⟩
theorem Qk{lb B:(α1->α2->α3->Option ρ)->α1->α2->α3->Option ρ}(e:lb=B){m:Nat}{a1:α1}{a2:α2}{a3:α3}{r:ρ}(h:uG lb m a1 a2 a3=some r):∃m',m=m'+1/\B (uG lb m') a1 a2 a3=some r:=by
 subst e;cases m with
 |zero=>cases h
 |succ m=>exact⟨m,rfl,h⟩
end
section
variable {α1 α2 α3 α4 ρ:Type}
def H7(B:(α1->α2->α3->α4->Option ρ)->α1->α2->α3->α4->Option ρ):Nat->α1->α2->α3->α4->Option ρ
 |0,_,_,_,_ =>none
 |n+1,a1,a2,a3,a4=>B (H7 B n) a1 a2 a3 a4
theorem VT{lb B:(α1->α2->α3->α4->Option ρ)->α1->α2->α3->α4->Option ρ}(e:lb=B){m:Nat}{a1:α1}{a2:α2}{a3:α3}{a4:α4}{r:ρ}(h:H7 lb m a1 a2 a3 a4=some r):∃m',m=m'+1/\B (H7 lb m') a1 a2 a3 a4=some r:=by
 subst e;cases m with
 |zero=>cases h
 |succ m=>exact⟨m,rfl,h⟩
end
section
variable {α1 α2 α3 α4 α5 ρ:Type}
def Di(B:(α1->α2->α3->α4->α5->Option ρ)->α1->α2->α3->α4->α5->Option ρ):Nat->α1->α2->α3->α4->α5->Option ρ
 |0,_,_,_,_,_ =>none
 |n+1,a1,a2,a3,a4,a5=>B (Di B n) a1 a2 a3 a4 a5
theorem VR{lb B:(α1->α2->α3->α4->α5->Option ρ)->α1->α2->α3->α4->α5->Option ρ}(e:lb=B){m:Nat}{a1:α1}{a2:α2}{a3:α3}{a4:α4}{a5:α5}{r:ρ}(h:Di lb m a1 a2 a3 a4 a5=some r):∃m',m=m'+1/\B (Di lb m') a1 a2 a3 a4 a5=some r:=by
 subst e;cases m with
 |zero=>cases h
 |succ m=>exact⟨m,rfl,h⟩
end
section
variable {α1 α2 α3 α4 α5 α6 ρ:Type}
def H6(B:(α1->α2->α3->α4->α5->α6->Option ρ)->α1->α2->α3->α4->α5->α6->Option ρ):Nat->α1->α2->α3->α4->α5->α6->Option ρ
 |0,_,_,_,_,_,_ =>none
 |n+1,a1,a2,a3,a4,a5,a6=>B (H6 B n) a1 a2 a3 a4 a5 a6
theorem VQ{lb B:(α1->α2->α3->α4->α5->α6->Option ρ)->α1->α2->α3->α4->α5->α6->Option ρ}(e:lb=B){m:Nat}{a1:α1}{a2:α2}{a3:α3}{a4:α4}{a5:α5}{a6:α6}{r:ρ}(h:H6 lb m a1 a2 a3 a4 a5 a6=some r):∃m',m=m'+1/\B (H6 lb m') a1 a2 a3 a4 a5 a6=some r:=by
 subst e;cases m with
 |zero=>cases h
 |succ m=>exact⟨m,rfl,h⟩
end
section
variable {α1 α2 α3 α4 α5 α6 α7 ρ:Type}
def E5(B:(α1->α2->α3->α4->α5->α6->α7->Option ρ)->α1->α2->α3->α4->α5->α6->α7->Option ρ):Nat->α1->α2->α3->α4->α5->α6->α7->Option ρ
 |0,_,_,_,_,_,_,_ =>none
 |n+1,a1,a2,a3,a4,a5,a6,a7=>B (E5 B n) a1 a2 a3 a4 a5 a6 a7
theorem VP{lb B:(α1->α2->α3->α4->α5->α6->α7->Option ρ)->α1->α2->α3->α4->α5->α6->α7->Option ρ}(e:lb=B){m:Nat}{a1:α1}{a2:α2}{a3:α3}{a4:α4}{a5:α5}{a6:α6}{a7:α7}{r:ρ}(h:E5 lb m a1 a2 a3 a4 a5 a6 a7=some r):∃m',m=m'+1/\B (E5 lb m') a1 a2 a3 a4 a5 a6 a7=some r:=by
 subst e;cases m with
 |zero=>cases h
 |succ m=>exact⟨m,rfl,h⟩
end
section
variable {α1 α2 α3 α4 α5 α6 α7 α8 ρ:Type}
def E4(B:(α1->α2->α3->α4->α5->α6->α7->α8->Option ρ)->α1->α2->α3->α4->α5->α6->α7->α8->Option ρ):Nat->α1->α2->α3->α4->α5->α6->α7->α8->Option ρ
 |0,_,_,_,_,_,_,_,_ =>none
 |n+1,a1,a2,a3,a4,a5,a6,a7,a8=>B (E4 B n) a1 a2 a3 a4 a5 a6 a7 a8
theorem VO{lb B:(α1->α2->α3->α4->α5->α6->α7->α8->Option ρ)->α1->α2->α3->α4->α5->α6->α7->α8->Option ρ}(e:lb=B){m:Nat}{a1:α1}{a2:α2}{a3:α3}{a4:α4}{a5:α5}{a6:α6}{a7:α7}{a8:α8}{r:ρ}(h:E4 lb m a1 a2 a3 a4 a5 a6 a7 a8=some r):∃m',m=m'+1/\B (E4 lb m') a1 a2 a3 a4 a5 a6 a7 a8=some r:=by
 subst e;cases m with
 |zero=>cases h
 |succ m=>exact⟨m,rfl,h⟩
end
section
variable {α1 α2 α3 α4 α5 α6 α7 α8 α9 ρ:Type}
def HZ(B:(α1->α2->α3->α4->α5->α6->α7->α8->α9->Option ρ)->α1->α2->α3->α4->α5->α6->α7->α8->α9->Option ρ):Nat->α1->α2->α3->α4->α5->α6->α7->α8->α9->Option ρ
 |0,_,_,_,_,_,_,_,_,_ =>none
 |n+1,a1,a2,a3,a4,a5,a6,a7,a8,a9=>B (HZ B n) a1 a2 a3 a4 a5 a6 a7 a8 a9
theorem VN{lb B:(α1->α2->α3->α4->α5->α6->α7->α8->α9->Option ρ)->α1->α2->α3->α4->α5->α6->α7->α8->α9->Option ρ}(e:lb=B){m:Nat}{a1:α1}{a2:α2}{a3:α3}{a4:α4}{a5:α5}{a6:α6}{a7:α7}{a8:α8}{a9:α9}{r:ρ}(h:HZ lb m a1 a2 a3 a4 a5 a6 a7 a8 a9=some r):∃m',m=m'+1/\B (HZ lb m') a1 a2 a3 a4 a5 a6 a7 a8 a9=some r:=by
 subst e;cases m with
 |zero=>cases h
 |succ m=>exact⟨m,rfl,h⟩
end
section
variable {α1 α2 α3 α4 α5 α6 α7 α8 α9 C1 ρ:Type}
def D7(B:(α1->α2->α3->α4->α5->α6->α7->α8->α9->C1->Option ρ)->α1->α2->α3->α4->α5->α6->α7->α8->α9->C1->Option ρ):Nat->α1->α2->α3->α4->α5->α6->α7->α8->α9->C1->Option ρ
 |0,_,_,_,_,_,_,_,_,_,_ =>none
 |n+1,a1,a2,a3,a4,a5,a6,a7,a8,a9,Iz=>B (D7 B n) a1 a2 a3 a4 a5 a6 a7 a8 a9 Iz
theorem RJ{lb B:(α1->α2->α3->α4->α5->α6->α7->α8->α9->C1->Option ρ)->α1->α2->α3->α4->α5->α6->α7->α8->α9->C1->Option ρ}(e:lb=B){m:Nat}{a1:α1}{a2:α2}{a3:α3}{a4:α4}{a5:α5}{a6:α6}{a7:α7}{a8:α8}{a9:α9}{Iz:C1}{r:ρ}(h:D7 lb m a1 a2 a3 a4 a5 a6 a7 a8 a9 Iz=some r):∃m',m=m'+1/\B (D7 lb m') a1 a2 a3 a4 a5 a6 a7 a8 a9 Iz=some r:=by
 subst e;cases m with
 |zero=>cases h
 |succ m=>exact⟨m,rfl,h⟩
end
section
variable {α1 α2 α3 α4 α5 α6 α7 α8 α9 C1 IP ρ:Type}
def D6(B:(α1->α2->α3->α4->α5->α6->α7->α8->α9->C1->IP->Option ρ)->α1->α2->α3->α4->α5->α6->α7->α8->α9->C1->IP->Option ρ):Nat->α1->α2->α3->α4->α5->α6->α7->α8->α9->C1->IP->Option ρ
 |0,_,_,_,_,_,_,_,_,_,_,_ =>none
 |n+1,a1,a2,a3,a4,a5,a6,a7,a8,a9,Iz,Pr=>B (D6 B n) a1 a2 a3 a4 a5 a6 a7 a8 a9 Iz Pr
theorem RI{lb B:(α1->α2->α3->α4->α5->α6->α7->α8->α9->C1->IP->Option ρ)->α1->α2->α3->α4->α5->α6->α7->α8->α9->C1->IP->Option ρ}(e:lb=B){m:Nat}{a1:α1}{a2:α2}{a3:α3}{a4:α4}{a5:α5}{a6:α6}{a7:α7}{a8:α8}{a9:α9}{Iz:C1}{Pr:IP}{r:ρ}(h:D6 lb m a1 a2 a3 a4 a5 a6 a7 a8 a9 Iz Pr=some r):∃m',m=m'+1/\B (D6 lb m') a1 a2 a3 a4 a5 a6 a7 a8 a9 Iz Pr=some r:=by
 subst e;cases m with
 |zero=>cases h
 |succ m=>exact⟨m,rfl,h⟩
end
section
variable {α1 α2 α3 α4 α5 α6 α7 α8 α9 C1 IP T8 ρ:Type}
def D5(B:(α1->α2->α3->α4->α5->α6->α7->α8->α9->C1->IP->T8->Option ρ)->α1->α2->α3->α4->α5->α6->α7->α8->α9->C1->IP->T8->Option ρ):Nat->α1->α2->α3->α4->α5->α6->α7->α8->α9->C1->IP->T8->Option ρ
 |0,_,_,_,_,_,_,_,_,_,_,_,_ =>none
 |n+1,a1,a2,a3,a4,a5,a6,a7,a8,a9,Iz,Pr,Yx=>B (D5 B n) a1 a2 a3 a4 a5 a6 a7 a8 a9 Iz Pr Yx
theorem RH{lb B:(α1->α2->α3->α4->α5->α6->α7->α8->α9->C1->IP->T8->Option ρ)->α1->α2->α3->α4->α5->α6->α7->α8->α9->C1->IP->T8->Option ρ}(e:lb=B){m:Nat}{a1:α1}{a2:α2}{a3:α3}{a4:α4}{a5:α5}{a6:α6}{a7:α7}{a8:α8}{a9:α9}{Iz:C1}{Pr:IP}{Yx:T8}{r:ρ}(h:D5 lb m a1 a2 a3 a4 a5 a6 a7 a8 a9 Iz Pr Yx=some r):∃m',m=m'+1/\B (D5 lb m') a1 a2 a3 a4 a5 a6 a7 a8 a9 Iz Pr Yx=some r:=by
 subst e;cases m with
 |zero=>cases h
 |succ m=>exact⟨m,rfl,h⟩
end
section rules
variable {P:Program} {N:Nat} {c:Cx} {D:List Deferred} {Q:Exit->Act->World->Prop} {F:cE} {H:List av} {d:Option Tmp} {ty:TypeId} {ps:String} {af:Array Edge} {g:Option (Nat×Bool)} {α β γ:Type}
theorem FH{x:Operand}{y z:Code}{t:Bool}(hc:ev F x=some (.bool t))(h1:t=true->WP P N c D y Q F H)(h0:t=false->WP P N c D z Q F H):WP P N c D (.cond x y z) Q F H:=by
 cases t with
 |true=>exact Pw hc (h1 rfl)
 |false=>exact MS hc (h0 rfl)
theorem Hg{o:Oper}{v v':Value}(h:VS P N c o F H v)(e:v=v'):VS P N c o F H v':=e▸h
theorem PO{T U:TypeId}{x y:Operand}{k:IntKind}{a b:Int}(hx:ev F x=some (.int k a))(hy:ev F y=some (.int k b)):VS P N c ⟨d, .binOp .and T x y U,ty,ps,af,g⟩ F H (.int k (rA k a b)):=PN hx hy rfl λ_ _ =>rfl
theorem IB{T U:TypeId}{x y:Operand}{k k':IntKind}{a b:Int}(hx:ev F x=some (.int k a))(hy:ev F y=some (.int k' b))(h0:0<=b):VS P N c ⟨d, .binOp .shl T x y U,ty,ps,af,g⟩ F H (.int k (KH k a b)):=Tq hx hy h0 rfl
theorem Eu{T U:TypeId}{x y:Operand}{k k':IntKind}{a b:Int}(hx:ev F x=some (.int k a))(hy:ev F y=some (.int k' b))(h0:0<=b):VS P N c ⟨d, .binOp .shr T x y U,ty,ps,af,g⟩ F H (.int k (Gk k a b)):=Tp hx hy h0 rfl
theorem zK{L:bP α}[aR L]{x:α}{k:IntKind}{o b t T:Nat}{y:Operand}{gg:α->Int}{s:α->Int->α}(p:aM L (LI k) o gg s)(hx:ev F y=some (cj b o))[nZ H b T (L.enc x)][mV P t]:VS P N c ⟨d, .load t y,ty,ps,af,g⟩ F H (.int k (gg x)):=oG hx (p.int (rp L x))
theorem TA{L:bP α}[aR L]{x:α}{o b t T:Nat}{y:Operand}{gg:α->Bool}{s:α->Bool->α}(p:aM L LB o gg s)(hx:ev F y=some (cj b o))[nZ H b T (L.enc x)][mV P t]:VS P N c ⟨d, .load t y,ty,ps,af,g⟩ F H (.bool (gg x)):=oG hx (p.bool (rp L x))
theorem gH{L:bP α}{M:bP β}[aR L][aR M]{x:α}{o b t T q:Nat}{y:Operand}{gg:α->β}{s:α->β->α}(p:aM L M o gg s)(hx:ev F y=some (cj b o))[nZ H b T (L.enc x)][ht:p4 P t q](hn:M.n=q):VS P N c ⟨d, .load t y,ty,ps,af,g⟩ F H (.agg (M.enc (gg x)).toArray):=by subst hn;exact Ap hx (p.agg x) (eV _ _)
theorem rB{L:bP α}{M:bP β}[aR L][aR M]{x:α}{o b t T q:Nat}{y z:Operand}{gg:α->β}{s:α->β->α}{val:Value}{H':List av}(p:aM L M o gg s)(v:β)(x':α)(e:x'=s x v)(hx:ev F y=some (cj b o))(hz:ev F z=some val)(hv:val.cells.toList=M.enc v)
  [nZ H b T (L.enc x)][ht:JI P t q](hn:M.n=q)[AO H b (L.enc x') H']:RX (α:=Unit) P N c ⟨d, .store t y z,ty,ps,af,g⟩ F H (λ_ =>True) (λ_ =>undef) (λ_ =>H'):=by
 subst hn;subst e;exact pT hx hz hv (eV _ _) (by rw[eV];exact p.le) (yy _ _) (p.put x v)
theorem jP(L:bP α)[aR L](x:α){y:Operand}{t:Nat}{val:Value}(hx:ev F y=some val)(hv:val.cells.toList=L.enc x):
  RX P N c ⟨d, .box t y,ty,ps,af,g⟩ F H (λ_ =>True) (λb=>cj b 0) (λb=> .cells b t (L.enc x)::H):=Hr hx hv
theorem rC{L:bP α}[aR L]{z:α}{t:Nat}(hz:fM P t (L.enc z)):
  RX P N c ⟨d, .alloc t,ty,ps,af,g⟩ F H (λ_ =>True) (λb=>cj b 0) (λb=> .cells b t (L.enc z)::H):=vj (hz:=hz)
end rules
end Go.Bw
namespace Go.Bw
open Go Go.RowKit
def Hs(R:List av)(w:World):Prop:=∀r∈R,r.holds w/\∀b∈r.bK,b<w.heap.size
class xm(K:World->Prop):Prop where
 ok:∀w w',K w->aJ [] w w'->K w'
instance Uw(R:List av):xm (Hs R):=⟨λw w' h hs r hr=>⟨av.gB (h r hr).1 hs.size λb hb=>hs.block b ((h r hr).2 b hb) (by simp),λb hb=>Nat.lt_of_lt_of_le ((h r hr).2 b hb) hs.size⟩⟩
class QN(A:World->Prop)(r:av):Prop where
 ok:∀w,A w->r.holds w/\∀b∈r.bK,b<w.heap.size
instance(priority:=100) XR(r:av)(R:List av):QN (Hs (r::R)) r:=⟨λ_ h=>h r (by simp)⟩
instance(priority:=50) UI(r s:av)(R:List av)[h:QN (Hs R) r]:QN (Hs (s::R)) r:=⟨λw hw=>h.ok w λq hq=>hw q (by simp[hq])⟩
instance(priority:=30) aaU(A B:World->Prop)(r:av)[h:QN B r]:QN (λw=>A w/\B w) r:=⟨λw hw=>h.ok w hw.2⟩
class T5(A B:World->Prop):Prop where
 ok:∀w,A w->B w
theorem Qy{A B:World->Prop}[h:T5 A B]:∀w,A w->B w:=h.ok
instance(priority:=100) XU(A:World->Prop):T5 A A:=⟨λ_ h=>h⟩
instance(priority:=80) YF(A:World->Prop):T5 A (Hs []):=⟨λ_ _ _ h=>by simp at h⟩
instance(priority:=70) XV(A:World->Prop)(r:av)(R:List av)[h:QN A r][k:T5 A (Hs R)]:T5 A (Hs (r::R)):=⟨λw hw q hq=>by
 rcases List.mem_cons.1 hq with rfl|hq
 ·exact h.ok w hw
 ·exact k.ok w hw q hq⟩
class Kn(c:Cx)(H:List av)(A:World->Prop):Prop where
 ok:∀w,aJ c.bs c.w0 w->aX c.bs c.w0.heap.size H w->A w
theorem kn{c:Cx}{H:List av}{A:World->Prop}[h:Kn c H A]:∀w,aJ c.bs c.w0 w->aX c.bs c.w0.heap.size H w->A w:=h.ok
theorem Ab{c:Cx}{H:List av}{w:World}(h:aX c.bs c.w0.heap.size H w):Hs H w:=λr hr=>⟨h.holds r hr,λb hb=>(h.own r hr b hb).2⟩
instance(priority:=80) aaT(c:Cx)(H R:List av)[h:T5 (Hs H) (Hs R)]:Kn c H (Hs R):=⟨λw _ h2=>h.ok w (Ab h2)⟩
instance(priority:=80) YD(c:Cx)(H:List av):Kn c H (λ_ =>True):=⟨λ_ _ _ =>trivial⟩
theorem RP{c:Cx}{K:World->Prop}[hS:xm K](jK:c.bs=[])(hpre:K c.w0):∀H,Kn c H K:=λH=>⟨λw hs _ =>hS.ok c.w0 w hpre (by rw[jK]at hs;exact hs)⟩
section
variable {α β:Type}
def cH(L:bP α)[aR L](xs:List α):List Value:=(xs.map L.enc).flatten
theorem ju(L:bP α)[aR L](xs:List α):(cH L xs).length=xs.length*L.n:=by
 induction xs with
 |nil=>simp[cH]
 |cons x xs ih=>simp only[cH,List.map_cons,List.flatten_cons,List.length_append,List.length_cons,eV]at *;rw[ih,Nat.succ_mul];omega
theorem KQ(L:bP α)[aR L](xs:List α):kP (cH L xs):=by intro v hv;simp only[cH,List.mem_flatten,List.mem_map]at hv;obtain⟨l,⟨x,_,rfl⟩,h⟩:=hv;exact yy L x v h
theorem pz(L:bP α)[aR L](xs ys:List α):cH L (xs++ys)=cH L xs++cH L ys:=by simp[cH]
theorem Db(L:bP α)[aR L](x:α):cH L [x]=L.enc x:=by simp[cH]
theorem GY(g:Nat->List Value):∀n,flat g (n+1)=g 0++flat (λi=>g (i+1)) n:=by
 intro n
 induction n with
 |zero=>simp[flat]
 |succ n ih=>rw[flat,ih,flat,List.append_assoc]
theorem dZ(L:bP α)[aR L][Inhabited α](xs:List α):cH L xs=(LA L xs.length).enc (λi=>xs.getD i default):=by
 show _ =flat (λi=>L.enc (xs.getD i default)) xs.length
 induction xs with
 |nil=>rfl
 |cons x xs ih=>rw[List.length_cons,GY];simp only[cH,List.map_cons,List.flatten_cons]at *;rw[ih];rfl
theorem KR(L:bP α)[aR L](xs:List α)(l h:Nat)(hl:l<=h)(hh:h<=xs.length):((cH L xs).drop (l*L.n)).take ((h-l)*L.n)=cH L ((xs.drop l).take (h-l)):=by
 have e1:xs=xs.take l++((xs.drop l).take (h-l)++(xs.drop l).drop (h-l)):=by rw[List.take_append_drop,List.take_append_drop]
 have l1:(cH L (xs.take l)).length=l*L.n:=by rw[ju,List.length_take,Nat.min_eq_left (by omega)]
 have l2:(cH L ((xs.drop l).take (h-l))).length=(h-l)*L.n:=by rw[ju];congr 1;simp;omega
 conv=>lhs;rw[e1,pz,pz]
 rw[← l1,List.drop_left, ← l2,List.take_left]
theorem KL(L:bP α)[aR L][Inhabited α](xs:List α)(m:Nat)(y:α)(hm:m<xs.length):(LA L xs.length).enc (mg (λi=>xs.getD i default) m y)=cH L (xs.set m y):=by
 rw[dZ,List.length_set];show flat _ _ =flat _ _;refine r8 λi hi=>?_;congr 1;unfold mg;simp only[List.getD,List.getElem?_set];by_cases e:m=i
 ·subst e;simp[hm]
 ·simp[e,Ne.symm e]
structure Fz(A:World->Prop)(v:Value)(L:bP α)[aR L](xs:List α):Prop where
 sl:qu v xs.length
 ro:∀w,A w->Ro w v L.n xs.length (cH L xs)
theorem Fz.mono{A B:World->Prop}{v:Value}{L:bP α}[aR L]{xs:List α}(h:Fz A v L xs)(m:∀w,B w->A w):Fz B v L xs:=⟨h.sl,λw hw=>h.ro w (m w hw)⟩
theorem Fz.nil{A:World->Prop}{L:bP α}[aR L]{a:Option Addr}{cp:Nat}:Fz A (.slice a 0 cp) L ([]:List α):=⟨⟨_,_,rfl⟩,λ_ _ =>⟨by simp[cH], .inl ⟨⟨_,_,rfl⟩,rfl⟩⟩⟩
theorem Fz.at {c:Cx}{H:List av}{A:World->Prop}{v:Value}{L:bP α}[aR L]{xs:List α}(h:Fz A v L xs)[k:Kn c H A]:mF c H v L.n xs.length (cH L xs):=⟨λw h1 h2=>h.ro w (k.ok w h1 h2)⟩
abbrev nN(v:Value)(e sz:Nat)(L:bP α)[aR L](xs:List α):av:= .row v e sz xs.length (cH L xs)
theorem Fz.row{v:Value}{e sz:Nat}{L:bP α}[aR L]{xs:List α}(hs:sz=L.n)(h:qu v xs.length):Fz (Hs [nN v e sz L xs]) v L xs:=⟨h,λw hw=>by
 subst hs;have h1:(nN v e L.n L xs).holds w:=(hw _ (List.mem_singleton.2 rfl)).1;exact Ro.rU (e:=e) h1⟩
def UA(L:bP α)[aR L]:bP (List α) where
 n:=1
 dJ A cs xs:=∃v,cs=[v]/\Fz A v L xs
 len:=λ⟨v,h,_⟩=>by subst h;rfl
 one:=λ⟨v,h,hf⟩=>by subst h;intro u hu;rw[List.mem_singleton.1 hu];exact hf.sl.one
 mono m:=λ⟨v,h,hf⟩=>⟨v,h,hf.mono m⟩
theorem aM.sl{L:bP α}{M:bP β}[aR M]{o:Nat}{g:α->List β}{s:α->List β->α}(p:aM L (UA M) o g s){A cs x}(r:L.dJ A cs x):∃v,cs[o]? =some v/\Fz A v M (g x):=by
 obtain⟨v,h,hf⟩:=p.get r;refine⟨v,?_,hf⟩;have h2:((cs.drop o).take (UA M).n)[0]? =some v:=by rw[h];rfl
 rw[List.getElem?_take,aa5 (by show 0<1;decide),List.getElem?_drop]at h2;exact h2
end
section rules
variable {P:Program} {N:Nat} {c:Cx} {D:List Deferred} {Q:Exit->Act->World->Prop} {F:cE} {H:List av} {d:Option Tmp} {ty:TypeId} {ps:String} {af:Array Edge} {g:Option (Nat×Bool)} {α β γ:Type}
section
variable {A:World->Prop} {v:Value} {L:bP α} [aR L] {xs:List α}
theorem oH{x:Operand}{t e q:Nat}[ht:rF P t e q](hf:Fz A v L xs)(hx:ev F x=some v)[Kn c H A]:VS P N c ⟨d, .call ⟨.builtin .len, #[x], #[t]⟩,ty,ps,af,g⟩ F H (.int .i64 (xs.length:Int)):=by haveI:=hf.at (c:=c) (H:=H);exact Hj hx
theorem u9{x y:Operand}{t e sz m:Nat}{k:IntKind}{i:Int}[ht:rF P t e sz](hf:Fz A v L xs)(hs:L.n=sz)(hx:ev F x=some v)(hy:ev F y=some (.int k i))[Kn c H A](hi:i=(m:Int))(hm:m<xs.length):
  VS P N c ⟨d, .indexAddr t x y,ty,ps,af,g⟩ F H (dK v (m*sz)):=by
 haveI:=hf.at (c:=c) (H:=H);subst hs;exact sE hx hy hi hm
variable [Inhabited α]
theorem vE{k:IntKind}{o t:Nat}{y:Operand}{gg:(Nat->α)->Int}{s:(Nat->α)->Int->(Nat->α)}(hf:Fz A v L xs)(p:aM (LA L xs.length) (LI k) o gg s)(hx:ev F y=some (dK v o))[Kn c H A][mV P t]:VS P N c ⟨d, .load t y,ty,ps,af,g⟩ F H (.int k (gg (λi=>xs.getD i default))):=by haveI:=hf.at (c:=c) (H:=H);exact Aq hx (by rw[dZ];exact p.int (rp _ _))
end
def g5(n m b:Nat):Bool:=decide ((n+m)*b<=140737488355328/\n+m<=9223372036854775807)
theorem pQ{n m b:Nat}(h:g5 n m b=true):(n+m)*b<=140737488355328/\n+m<=9223372036854775807:=of_decide_eq_true h
section
variable {v:Value} {L:bP α} [aR L] {xs:List α} {t e sz bytes:Nat} {f:av->List av}
theorem EC{s x:Operand}{b T cp:Nat}{y:α}[F3 P t e sz bytes](hs:ev F s=some v)[hr:qv H v e sz xs.length (cH L xs) f](hx:ev F x=some (.slice (some ⟨b,0,none⟩) 1 cp))[hc:nZ H b T (L.enc y)](hn:L.n=sz)
  (GJ:(xs.length+1)*bytes<=140737488355328)(h63:xs.length+1<=9223372036854775807):
  RX P N c ⟨d, .call ⟨.builtin .append, #[s,x], #[t,t]⟩,ty,ps,af,g⟩ F H (λv'=>qu v' (xs++[y]).length) (λv'=>v') (λv'=>f (nN v' e sz L (xs++[y]))):=by
 have h:=JL (P:=P) (N:=N) (c:=c) (F:=F) (H:=H) (d:=d) (ty:=ty) (p:=ps) (af:=af) (g:=g) (t:=t) (m:=1) hs hx (by rw[eV,hn];omega) (yy L y) GJ h63 (hr:=hr) (hc:=hc);have e1:(xs++[y]).length=xs.length+1:=by simp
 have e2:cH L (xs++[y])=cH L xs++L.enc y:=by rw[pz,Db]
 unfold nN;rw[e1,e2];exact h
theorem EB{x:Operand}(L:bP α)[aR L](y:α){zs:List Value}{val:Value}[ht:rF P t e sz][hz:fM P e zs](hx:ev F x=some val)(hc:val.cells.toList=L.enc y)(hl:L.n=sz)(hzl:zs.length=sz)(h0:0<sz)(hs:sz<=16777216):
  RX P N c ⟨d, .buildSlice t 1 #[(0,x)],ty,ps,af,g⟩ F H (λ_ =>True) (λb=> .slice (some ⟨b,0,none⟩) 1 1) (λb=> .cells b e (L.enc y)::H):=Cg hx hc (by rw[eV];exact hl) hzl h0 hs
end
theorem Es{x:Code}(e sz:Nat)(L:bP α)[aR L](h:WP P N c D x Q F (nN (.slice none 0 0) e sz L []::H)):WP P N c D x Q F H:=Px e sz h
theorem Pt{x:Exit}(e sz:Nat)(L:bP α)[aR L](h:WQ N c D Q x F (nN (.slice none 0 0) e sz L []::H)):WQ N c D Q x F H:=Pu e sz h
abbrev UL(P:Program)(f:Nat)(args:List Value)(K:World->Prop)(p:(World->Prop)->Value->Prop):Prop:=
 Fn (α:=Value×List Nat×(World->Prop)) P f args K [] (λx=>p (Hs [.ext x.2.1 x.2.2]) x.1) (λx=>x.1) (λx=>[.ext x.2.1 x.2.2])
theorem MA{bs:List Nat}{n0:Nat}{w:World}{R H':List av}(h:aX bs n0 (R++H') w):aX bs n0 (.ext (aU R) (Hs R)::H') w:=by
 have hp:=List.pairwise_append.1 h.apart;refine⟨λr hr=>?_,λr hr b hb=>?_,?_⟩
 ·rcases List.mem_cons.1 hr with rfl|hr
  ·intro w' h1 h2 q hq
   have BI:=h.holds q (abe _ hq);exact⟨av.gB BI h1 λb hb=>h2 b (aN.2 ⟨q,hq,hb⟩),λb hb=>Nat.lt_of_lt_of_le (h.own q (abe _ hq) b hb).2 h1⟩
  ·exact h.holds r (abd _ hr)
 ·rcases List.mem_cons.1 hr with rfl|hr
  ·obtain⟨q,hq,hb⟩:=aN.1 hb;exact h.own q (abe _ hq) b hb
  ·exact h.own r (abd _ hr) b hb
 ·refine List.pairwise_cons.2 ⟨λs hs b hb jK=>?_,hp.2.1⟩
  obtain⟨q,hq,hb⟩:=aN.1 hb;exact hp.2.2 q hq s hs b hb jK
theorem zH{e:Exit}{R H':List av}{ks:List Nat}(hk:pick H ks=some (R++H'))(hn:ks.Nodup)(h:WQ N c D Q e F (.ext (aU R) (Hs R)::H')):WQ N c D Q e F H:=MK (λ_ _ _ hp=>MA (hp.pick hk hn)) h
instance(priority:=60) YE(bs:List Nat)(R:List av)(r:av)(S:List av)[h:QN (Hs R) r]:QN (Hs (.ext bs (Hs R)::S)) r:=⟨λw hw=>h.ok w (yx (hw (.ext bs (Hs R)) (by simp)).1)⟩
end rules
end Go.Bw
namespace Go.Bw
open Go Go.RowKit
section rules
variable {P:Program} {N:Nat} {c:Cx} {D:List Deferred} {Q:Exit->Act->World->Prop} {F:cE} {H:List av} {d:Option Tmp} {ty:TypeId} {ps:String} {af:Array Edge} {g:Option (Nat×Bool)} {α β γ:Type}
def BY(P:Program)(t n e sz:Nat):Bool:=match P.underlying t with
 |some (.pointer a)=>B3 P a n e sz
 |_ =>false
theorem zD{t n e sz:Nat}(h:BY P t n e sz=true):∃a i,P.underlying t=some (.pointer a)/\P.underlying a=some (.array n e)/\P.info? e=some i/\i.size=sz:=by
 unfold BY at h;split at h
 ·rename_i a h1
  obtain⟨i,h2,h3,h4⟩:=oI.get h;exact⟨a,i,h1,h2,h3,h4⟩
 ·cases h
def Nt(b off l n sz:Nat):Value:= .slice (some (if n=l then⟨b,off,none⟩else⟨b,off+l*sz,none⟩)) (n-l) (n-l)
theorem FK{x hi:Operand}{t n e sz b off m:Nat}{k:IntKind}{i:Int}[ht:oI P t n e sz](hx:ev F x=some (cj b off))(hhi:ev F hi=some (.int k i))(h1:i=(m:Int))(hm:m<=n):
  VS P N c ⟨d, .slice t x none (some hi) none,ty,ps,af,g⟩ F H (.slice (some ⟨b,off,none⟩) m n):=
 ax (by simp) λa w hf _ _ =>by obtain⟨inf,e1,e3,e4⟩:=oI.get ht.ok;subst h1;have b1:=kH (P:=P) (k:=k) (w:=w) (code:= .sliceAlen) hm;simp[execOp,ay hf hx,ay hf hhi,Instr.sliceAt,run_underlying e1,Instr.sliceBounds,b1,sizeOf,typeInfo,e3,cj,Instr.sureAddr,asAddr,Addr.add]
theorem MW{x lo:Operand}{t n e sz b off l:Nat}{k:IntKind}{i:Int}[ht:oI P t n e sz](hx:ev F x=some (cj b off))(hlo:ev F lo=some (.int k i))(h1:i=(l:Int))(hl:l<=n):
  VS P N c ⟨d, .slice t x (some lo) none none,ty,ps,af,g⟩ F H (Nt b off l n sz):=
 ax (by simp) λa w hf _ _ =>by obtain⟨inf,e1,e3,e4⟩:=oI.get ht.ok;subst h1;have b1:=kH (P:=P) (k:=k) (w:=w) (code:= .sliceB) hl;simp[execOp,ay hf hx,ay hf hlo,Instr.sliceAt,run_underlying e1,Instr.sliceBounds,b1,sizeOf,typeInfo,e3,e4,cj,Instr.sureAddr,asAddr,Nt,Addr.add_lit]
theorem JF{x:Operand}{t n e sz b off:Nat}[ht:oI P t n e sz](hx:ev F x=some (cj b off)):
  VS P N c ⟨d, .slice t x none none none,ty,ps,af,g⟩ F H (.slice (some ⟨b,off,none⟩) n n):=
 ax (by simp) λa w hf _ _ =>by obtain⟨inf,e1,e3,e4⟩:=oI.get ht.ok;simp[execOp,ay hf hx,Instr.sliceAt,run_underlying e1,Instr.sliceBounds,sizeOf,typeInfo,e3,e4,cj,Instr.sureAddr,asAddr,Addr.add]
theorem FJ{x hi:Operand}{t n e sz b off m:Nat}{k:IntKind}{i:Int}(ht:BY P t n e sz=true)(hx:ev F x=some (cj b off))(hhi:ev F hi=some (.int k i))(h1:i=(m:Int))(hm:m<=n):
  VS P N c ⟨d, .slice t x none (some hi) none,ty,ps,af,g⟩ F H (.slice (some ⟨b,off,none⟩) m n):=
 ax (by simp) λa w hf _ _ =>by obtain⟨ar,inf,e1,e2,e3,e4⟩:=zD ht;subst h1;have b1:=kH (P:=P) (k:=k) (w:=w) (code:= .sliceAlen) hm;simp[execOp,ay hf hx,ay hf hhi,Instr.sliceAt,run_underlying e1,run_underlying e2,Instr.slice,Instr.sliceBounds,b1,sizeOf,typeInfo,e3,cj,Instr.sureAddr,asAddr,Addr.add]
theorem MV{x lo:Operand}{t n e sz b off l:Nat}{k:IntKind}{i:Int}(ht:BY P t n e sz=true)(hx:ev F x=some (cj b off))(hlo:ev F lo=some (.int k i))(h1:i=(l:Int))(hl:l<=n):
  VS P N c ⟨d, .slice t x (some lo) none none,ty,ps,af,g⟩ F H (Nt b off l n sz):=
 ax (by simp) λa w hf _ _ =>by obtain⟨ar,inf,e1,e2,e3,e4⟩:=zD ht;subst h1;have b1:=kH (P:=P) (k:=k) (w:=w) (code:= .sliceB) hl;simp[execOp,ay hf hx,ay hf hlo,Instr.sliceAt,run_underlying e1,run_underlying e2,Instr.slice,Instr.sliceBounds,b1,sizeOf,typeInfo,e3,e4,cj,Instr.sureAddr,asAddr,Nt,Addr.add_lit]
theorem JE{x:Operand}{t n e sz b off:Nat}(ht:BY P t n e sz=true)(hx:ev F x=some (cj b off)):
  VS P N c ⟨d, .slice t x none none none,ty,ps,af,g⟩ F H (.slice (some ⟨b,off,none⟩) n n):=
 ax (by simp) λa w hf _ _ =>by obtain⟨ar,inf,e1,e2,e3,e4⟩:=zD ht;simp[execOp,ay hf hx,Instr.sliceAt,run_underlying e1,run_underlying e2,Instr.slice,Instr.sliceBounds,sizeOf,typeInfo,e3,e4,cj,Instr.sureAddr,asAddr,Addr.add]
def QC{β:Type}(i j n:Nat)(a:Nat->β):Nat->β:=λq=>if i<=q/\q<i+min (n-j) (n-i)then a (q-i+j)else a q
theorem Mj{f:Nat->List Value}(h:∀i,(f i).length=1){n q:Nat}:(flat f n)[q]? =if q<n then(f q)[0]? else none:=by
 by_cases hq:q<n
 ·rw[aa5 hq]
  have:=pI (g:=f) (k:=1) (n:=n) (i:=q) (j:=0) (λi _ =>h i) hq (by decide);rwa[Nat.mul_one,Nat.add_zero]at this
 ·rw[aa6 hq]
  exact List.getElem?_eq_none (by rw[er (k:=1) (λi _ =>h i)];omega)
theorem M4{A:World->Prop}{v:Value}{L:bP α}[aR L]{xs:List α}{x hi mx:Operand}{t e q:Nat}{k k':IntKind}[ht:rF P t e q](hf:Fz A v L xs)(hx:ev F x=some v)(hh:ev F hi=some (.int k (xs.length:Int)))(hm:ev F mx=some (.int k' (xs.length:Int)))[Kn c H A]:
  VS P N c ⟨d, .slice t x none (some hi) (some mx),ty,ps,af,g⟩ F H (s9 v):=by
 haveI:=hf.at (c:=c) (H:=H);exact IG hx hh hm
def J5(bs:List Nat)(K:World->Prop)(w:World):Prop:=∀w',aJ bs w w'->K w'
class UC(c:Cx)(R:List av)(K:World->Prop):Prop where
 ok:∀w,aJ c.bs c.w0 w->Hs R w->K w
instance(priority:=80) XP(c:Cx)(R:List av):UC c R (λ_ =>True):=⟨λ_ _ _ =>trivial⟩
instance(priority:=20) aa2(c:Cx)(H:List av)(K:World->Prop)[h:UC c H K]:Kn c H K:=⟨λw h1 h2=>h.ok w h1 (Ab h2)⟩
theorem OM{c:Cx}{K:World->Prop}[hS:xm K](jK:c.bs=[])(hpre:K c.w0):∀R,UC c R K:=λR=>⟨λw hs _ =>hS.ok c.w0 w hpre (by rw[jK]at hs;exact hs)⟩
abbrev FnC(P:Program)(f:Nat)(args:List Value)(K:World->Prop)(iR:List av)(p:(World->Prop)->Value->List av->Prop):Prop:=
 Fn (α:=Value×List av×List Nat×(World->Prop)) P f args (J5 (aU iR) K) iR (λx=>p (Hs [.ext x.2.2.1 x.2.2.2]) x.1 x.2.1) (λx=>x.1) (λx=> .ext x.2.2.1 x.2.2.2::x.2.1)
theorem vi{α:Type}{x:Operand}{args:List Operand}{ats:Array TypeId}{f:Nat}{fst cap:Array Value}{us vs:List Value}{K:World->Prop}{iR rest:List av}{p:α->Prop}{fv:α->Value}{fH:α->List av}{ks:List Nat}
  (hc:Fn P f vs (J5 (aU iR) K) iR p fv fH)(hx:ev F x=some (.func (.func f) fst cap))(ha:Ai F args=some us)(hv:fst.toList++us++cap.toList=vs)(hkp:pick H ks=some (iR++rest))(hn:ks.Nodup)[hK:UC c rest K]:
  RX P N c ⟨d, .call ⟨.value x,args.toArray,ats⟩,ty,ps,af,g⟩ F H p fv (λi=>fH i++rest):=λD a w next Q hst hk=>by
 refine⟨λ_ _ =>trivial,?_⟩;have hs:Oper.semAt (FA c.ro).round a.eval (⟨d, .call ⟨.value x,args.toArray,ats⟩,ty,ps,af,g⟩:Oper)=execOp a.eval ⟨d, .call ⟨.value x,args.toArray,ats⟩,ty,ps,af,g⟩:=Oper.semAt_eq _ _ _ (by simp);have hr:(execOp a.eval ⟨d, .call ⟨.value x,args.toArray,ats⟩,ty,ps,af,g⟩).run P w= .ok (.enter f vs.toArray) w:=by
  have e1:=ay hst.fr hx;have e2:=Ej hst.fr ha;have e3:fst++(args.toArray.map a.eval)++cap=vs.toArray:=by rw[← hv, ← e2];simp
  simp only[execOp,resolve,e1,Deferred.ofValue,Sem.run_bind,Sem.run_pure,Result.andThen_ok,invoke,e3];exact hc.enter _ _
 rw[hs,hr];refine⟨λh=>by simp at h,gF c.ro ?_⟩;have hp:=hst.hp.pick hkp hn;have hap:=List.pairwise_append.1 hp.apart;have hin:aX (aU iR) w.heap.size iR w:=⟨λr hr=>hp.holds r (abe _ hr),λr hr b hb=>⟨.inl (aN.2 ⟨r,hr,hb⟩),(hp.own r (abe _ hr) b hb).2⟩,hap.1⟩;have hkeep:∀{w':World},aJ (aU iR) w w'->∀r∈rest,r.holds w'/\∀b∈r.bK,b<w'.heap.size:=λhsi r hr=>by have hlt:∀b∈r.bK,b<w.heap.size:=λb hb=>(hp.own r (abd _ hr) b hb).2;refine⟨av.gB (hp.holds r (abd _ hr)) hsi.size λb hb=>hsi.block b (hlt b hb) λhm=>?_,λb hb=>Nat.lt_of_lt_of_le (hlt b hb) hsi.size⟩;obtain⟨q,hq,L1⟩:=aN.1 hm;exact hap.2.2 q hq r hr b L1 hb
 have hown:∀b∈aU iR,b∈c.bs\/c.w0.heap.size<=b:=λb hb=>by obtain⟨q,hq,L1⟩:=aN.1 hb;exact(hp.own q (abe _ hq) b L1).1
 have hpre:J5 (aU iR) K w:=λw' hsi=>hK.ok w' (hst.si.trans hsi hown) (hkeep hsi);have ru:=hc.calls w hpre hin;intro cs;obtain⟨e,w',fr,⟨i,OT,he,hsi,hh⟩,eH⟩:=ru cs;refine⟨e,w',fr,?_,eH⟩;subst he;have BH:=hkeep hsi;refine hk i w' OT (hst.si.trans hsi hown) ⟨λr hm=>?_,λr hm b hb=>?_,List.pairwise_append.2 ⟨hh.apart,hap.2.1,λr h1 s h2 b hb Ib=>?_⟩⟩
 ·rcases List.mem_append.1 hm with h1|h1
  ·exact hh.holds r h1
  ·exact(BH r h1).1
 ·rcases List.mem_append.1 hm with h1|h1
  ·obtain⟨o,l⟩:=hh.own r h1 b hb
   refine⟨?_,l⟩;rcases o with o|o
   ·exact hown b o
   ·exact .inr (Nat.le_trans hst.si.size o)
  ·exact⟨(hp.own r (abd _ h1) b hb).1,(BH r h1).2 b hb⟩
 ·obtain⟨o,_⟩:=hh.own r h1 b hb
  rcases o with o|o
  ·obtain⟨q,hq,L1⟩:=aN.1 o
   exact hap.2.2 q hq s h2 b L1 Ib
  ·have:=(hp.own s (abd _ h2) b Ib).2
   omega
end rules
end Go.Bw
namespace Go.Bw
open Go Go.RowKit Go.ChangeShapes Go.WideShapes Go.Deep
theorem Below.Lj{w w':World}(h:aJ [] w w'):Below w.heap.size w w':=⟨h.os,h.tape,h.output,h.size,λk hk=>h.block k hk (by simp)⟩
end Go.Bw
namespace Go.Bw
open Go Go.RowKit Go.ChangeShapes Go.WideShapes Go.Deep
end Go.Bw
namespace Go.Bw
open Go Go.RowKit Go.ChangeShapes Go.WideShapes Go.Deep
section
variable {α β:Type}
structure yP[Inhabited α](A:World->Prop)(v:Value)(L:bP α)(ws:List Value)(xs:List α):Prop where
 sl:qu v xs.length
 dJ:(LA L xs.length).dJ A ws (λi=>xs.getD i default)
 ro:∀w,A w->Ro w v L.n xs.length ws
theorem yP.mono[Inhabited α]{A B:World->Prop}{v:Value}{L:bP α}{ws:List Value}{xs:List α}(h:yP A v L ws xs)(m:∀w,B w->A w):yP B v L ws xs:=⟨h.sl,bP.mono _ m h.dJ,λw hw=>h.ro w (m w hw)⟩
theorem yP.at [Inhabited α]{c:Cx}{H:List av}{A:World->Prop}{v:Value}{L:bP α}{ws:List Value}{xs:List α}(h:yP A v L ws xs)[k:Kn c H A]:mF c H v L.n xs.length ws:=⟨λw h1 h2=>h.ro w (k.ok w h1 h2)⟩
theorem yP.nil[Inhabited α]{A:World->Prop}{L:bP α}:yP A (.slice none 0 0) L [] ([]:List α):=⟨⟨_,_,rfl⟩,⟨λ_ =>[],rfl,λi hi=>absurd hi (Nat.not_lt_zero _)⟩,λ_ _ =>⟨by simp, .inl ⟨⟨_,_,rfl⟩,rfl⟩⟩⟩
def PW[Inhabited α](L:bP α):bP (List α) where
 n:=1
 dJ A cs xs:=∃v ws,cs=[v]/\yP A v L ws xs
 len:=λ⟨v,ws,h,_⟩=>by subst h;rfl
 one:=λ⟨v,ws,h,hf⟩=>by subst h;intro u hu;rw[List.mem_singleton.1 hu];exact hf.sl.one
 mono m:=λ⟨v,ws,h,hf⟩=>⟨v,ws,h,hf.mono m⟩
end
section rules
variable {P:Program} {N:Nat} {c:Cx} {D:List Deferred} {Q:Exit->Act->World->Prop} {F:cE} {H:List av} {d:Option Tmp} {ty:TypeId} {ps:String} {af:Array Edge} {g:Option (Nat×Bool)} {α β γ:Type}
 {A:World->Prop} {v:Value} {L:bP α} [Inhabited α] {ws:List Value} {xs:List α}
theorem ID{x:Operand}{t e q:Nat}[ht:rF P t e q](hf:yP A v L ws xs)(hx:ev F x=some v)[Kn c H A]:VS P N c ⟨d, .call ⟨.builtin .len, #[x], #[t]⟩,ty,ps,af,g⟩ F H (.int .i64 (xs.length:Int)):=by haveI:=hf.at (c:=c) (H:=H);exact Hj hx
theorem TB{x y:Operand}{t e sz m:Nat}{k:IntKind}{i:Int}[ht:rF P t e sz](hf:yP A v L ws xs)(hs:L.n=sz)(hx:ev F x=some v)(hy:ev F y=some (.int k i))[Kn c H A](hi:i=(m:Int))(hm:m<xs.length):
  VS P N c ⟨d, .indexAddr t x y,ty,ps,af,g⟩ F H (dK v (m*sz)):=by
 haveI:=hf.at (c:=c) (H:=H);subst hs;exact sE hx hy hi hm
theorem PG{x:Operand}{s f fo k m:Nat}[AN P s f fo](hf:yP A v L ws xs)(hx:ev F x=some (dK v k))[Kn c H A](hm:m<xs.length):VS P N c ⟨d, .fieldAddr s x f,ty,ps,af,g⟩ F H (dK v (k+fo)):=by haveI:=hf.at (c:=c) (H:=H);exact Ew hx hm
theorem PF{x y:Operand}{t len e sz k0 m q:Nat}{k:IntKind}{i:Int}[h:oI P t len e sz](hf:yP A v L ws xs)(hx:ev F x=some (dK v k0))(hy:ev F y=some (.int k i))[Kn c H A](hq:q<xs.length)(hi:i=(m:Int))(hm:m<len):
  VS P N c ⟨d, .indexAddr t x y,ty,ps,af,g⟩ F H (dK v (k0+m*sz)):=
 ax (by simp) λa w Sm hs hp=>by haveI:=hf.at (c:=c) (H:=H);obtain⟨gb,off,cap,rfl,_,_,_⟩:=((hf.at (c:=c) (H:=H)).ro w hs hp).at hq;obtain⟨inf,h1,h2,h3⟩:=oI.get h.ok;subst hi;simp[execOp,ay Sm hx,ay Sm hy,dK,Instr.indexAt,asIntOf,run_underlying h1,Instr.sureAddr,sizeOf,typeInfo,h2,h3,Addr.add_lit,Nat.add_assoc];intro hle;exact absurd (hm) (by omega)
end rules
end Go.Bw
namespace Go.Rw
open Go Go.Bw
inductive Ty where
 |int (k:IntKind)
 |bool
 |st (i:Nat)
 |iK (n:Nat) (e:Ty)
 |sl (e:Ty)
def Ty.bp:Ty->Ty->Bool
 | .int k, .int l=>Nat.beq (ik k) (ik l)
 | .bool, .bool=>true
 | .st i, .st j=>Nat.beq i j
 | .iK n e, .iK m f=>Nat.beq n m&&e.bp f
 | .sl e, .sl f=>e.bp f
 |_,_ =>false
where ik:IntKind->Nat
 | .i8=>0| .i16=>1| .i32=>2| .i64=>3| .u8=>4| .u16=>5| .u32=>6| .u64=>7
theorem BF{k l:IntKind}(h:Nat.beq (Ty.bp.ik k) (Ty.bp.ik l)=true):k=l:=by cases k<;>cases l<;>first|rfl|(exact absurd h (by decide))
theorem Ty.qC:∀{t u:Ty},t.bp u=true->t=u:=by
 intro t
 induction t with
 |int k=>intro u h;cases u<;>simp only[Ty.bp,Bool.false_eq_true]at h;rw[BF h]
 |bool=>intro u h;cases u<;>simp only[Ty.bp,Bool.false_eq_true]at h;rfl
 |st i=>intro u h;cases u<;>simp only[Ty.bp,Bool.false_eq_true]at h;rw[aa7 h]
 |iK n e ih=>intro u h;cases u<;>simp only[Ty.bp,Bool.false_eq_true,aa8]at h;rw[aa7 h.1,ih h.2]
 |sl e ih=>intro u h;cases u<;>simp only[Ty.bp,Bool.false_eq_true]at h;rw[ih h]
structure Sg where
 S:Nat->Type
 z:∀i,S i
 L:∀i,bP (S i)
 gt:Option (IntKind×List (Int×Nat))
def Ty.T(G:Sg):Ty->Type
 | .int _ =>Int
 | .bool=>Bool
 | .st i=>G.S i
 | .iK _ e=>Nat->e.T G
 | .sl e=>List (e.T G)
def Ty.z(G:Sg):(t:Ty)->t.T G
 | .int _ =>(0:Int)
 | .bool=>false
 | .st i=>G.z i
 | .iK _ e=>λ_ =>e.z G
 | .sl _ =>[]
instance(G:Sg)(t:Ty):Inhabited (t.T G):=⟨t.z G⟩
def Ty.L(G:Sg):(t:Ty)->bP (t.T G)
 | .int k=>LI k
 | .bool=>LB
 | .st i=>G.L i
 | .iK n e=>LA (e.L G) n
 | .sl e=>PW (α:=e.T G) (e.L G)
def Ty.ag:Ty->Bool
 | .st _ =>true
 | .iK _ _ =>true
 |_ =>false
structure Fd(G:Sg)(i:Nat) where
 ty:Ty
 off:Nat
 get:G.S i->ty.T G
 set:G.S i->ty.T G->G.S i
 ok:aM (G.L i) (ty.L G) off get set
inductive oJ where
 |Ag (j o:Nat)
 |idx (n sz:Nat) (i:Int)
def oJ.off:oJ->Nat
 | .Ag _ o=>o
 | .idx _ sz i=>i.toNat*sz
def cQ:List oJ->Nat
 |[]=>0
 |s::r=>s.off+cQ r
theorem EX(p q:List oJ):cQ (p++q)=cQ p+cQ q:=by
 induction p with
 |nil=>simp[cQ]
 |cons s p ih=>simp only[List.cons_append,cQ,ih];omega
def oJ.ok:oJ->Prop
 | .Ag _ _ =>True
 | .idx n _ i=>cB i n=true
inductive AV(G:Sg) where
 |IW
 |unk (n:Nat)
 |int (k:IntKind) (n:Int)
 |lit (k:IntKind) (n:Int)
 |bool (b:Bool)
 |kb (b:Bool)
 |str (s:ByteArray)
 |dat (t:Ty) (x:t.T G)
 |ptr (r:Nat) (p:List oJ)
 |tv
 |row (r:Nat)
 |Bp (r:Nat) (p:List oJ) (n sz:Nat) (up:Bool) (i:Int)
 |gW
 |mp (r:Nat)
 |ye
 |fn (f:Fn) (a c:AV G)
 |kL
 |st (a:AV G)
 |iy (a:AV G)
 |fW (t:Nat) (v:AV G)
 |AE
 |ND (e:Ty) (xs:List (e.T G)) (p:List oJ)
 |gd (j:Nat) (w:Bool) (v:AV G)
 |nil
 |cons (a b:AV G)
 |part (w:Nat) (a b:AV G)
variable {G:Sg}
def mk:(t:Ty)->t.T G->AV G
 | .int k,x=> .int k x
 | .bool,x=> .bool x
 |t,x=> .dat t x
abbrev aP:=Nat->Option Value
def aP.le(ρ ρ':aP):Prop:=∀r v,ρ r=some v->ρ' r=some v
theorem aP.le_refl(ρ:aP):ρ.le ρ:=λ_ _ h=>h
theorem aP.le_trans{a b c:aP}(h:a.le b)(k:b.le c):a.le c:=λr v e=>k r v (h r v e)
def rR(J:World->Prop)(t:Ty)(x:t.T G)(u:Value):Prop:=(t.L G).dJ J u.cells.toList x/\(t.ag=true->∃cs:List Value,u= .agg cs.toArray)/\(t.ag=false->u.cells= #[u])
def PB(ρ:aP)(r:Nat)(p:List oJ)(b o:Nat):Prop:=ρ r=some (.pointer (some ⟨b,o,none⟩))\/∃n cap n' sz i q,ρ r=some (.slice (some ⟨b,o,none⟩) n cap)/\p= .idx n' sz i::q/\i.toNat<n
theorem PB.app{ρ:aP}{r:Nat}{p q:List oJ}{b o:Nat}(h:PB ρ r p b o):PB ρ r (p++q) b o:=by
 rcases h with h|⟨n,cap,n',sz,i,q',h1,rfl,h3⟩
 ·exact .inl h
 ·exact .inr ⟨n,cap,n',sz,i,q'++q,h1,rfl,h3⟩
theorem PB.ext{ρ ρ':aP}(m:ρ.le ρ'){r:Nat}{p:List oJ}{b o:Nat}(h:PB ρ r p b o):PB ρ' r p b o:=by
 rcases h with h|⟨n,cap,n',sz,i,q',h1,h2⟩
 ·exact .inl (m _ _ h)
 ·exact .inr ⟨n,cap,n',sz,i,q',m _ _ h1,h2⟩
def Le(b off n sz:Nat)(up:Bool)(i:Nat):Value:= .slice (some ⟨b,bif up&& !Nat.beq n i then off+i*sz else off,none⟩) (bif up then n-i else i) (bif up then n-i else n)
theorem DU{b off n sz i:Nat}:Le b off n sz true i=Nt b off i n sz:=by
 unfold Le Nt;by_cases h:n=i
 ·subst h;simp
 ·have hb:Nat.beq n i=false:=by
   cases hq:Nat.beq n i with
   |true=>exact absurd (aa7 hq) h
   |false=>rfl
  simp[h,hb]
theorem DV{b off n sz i:Nat}:Le b off n sz false i= .slice (some ⟨b,off,none⟩) i n:=rfl
def rl(J:World->Prop)(ρ:aP):AV G->List Value->Prop
 | .IW,l=>∃u,l=[u]
 | .unk n,l=>∃u:Value,l=[u]/\u.cells.size=n
 | .int k n,l=>l=[.int k n]
 | .lit k n,l=>l=[.int k n]
 | .bool b,l=>l=[.bool b]
 | .kb b,l=>l=[.bool b]
 | .str s,l=>l=[.string s]
 | .dat t x,l=>∃u,l=[u]/\rR J t x u
 | .ptr r p,l=>(∃b o,PB ρ r p b o/\l=[.pointer (some ⟨b,o+cQ p,none⟩)])/\∀s∈p,s.ok
 | .tv,l=>l=[.pointer none]
 | .row r,l=>∃a n cap,ρ r=some (.slice a n cap)/\l=[.slice a n cap]
 | .Bp r p n sz up i,l=>(∃b o,PB ρ r p b o/\l=[Le b (o+cQ p) n sz up i.toNat])/\(∀s∈p,s.ok)/\i.toNat<=n
 | .gW,l=>l=[.slice none 0 0]
 | .mp r,l=>∃u,ρ r=some u/\l=[u]/\u.cells= #[u]/\u.oneCell'=true
 | .ye,l=>l=[.map none]
 | .fn f a c,l=>∃fs cs:List Value,l=[.func f fs.toArray cs.toArray]/\rl J ρ a fs/\rl J ρ c cs
 | .kL,l=>l=[.nilFunc]
 | .st a,l=>∃cs:List Value,l=[.agg cs.toArray]/\rl J ρ a cs/\kP cs
 | .iy a,l=>∃vs:List Value,l=[.tuple vs.toArray]/\rl J ρ a vs
 | .fW t v,l=>∃u,l=[.iface t u]/\rl J ρ v [u]
 | .AE,l=>l=[.nilIface]
 | .ND e xs p,l=>∃v ws,yP J v (e.L G) ws xs/\l=[dK v (cQ p)]/\(∀s∈p,s.ok)/\∃n sz i q,p= .idx n sz i::q/\n=xs.length/\sz=(e.L G).n
 | .gd _ _ _,_ =>False
 | .nil,l=>l=[]
 | .cons a b,l=>∃u r,l=u::r/\rl J ρ a [u]/\rl J ρ b r
 | .part w a b,l=>∃c1 c2 u,l=c1++c2/\c1.length=w/\rl J ρ a [u]/\u.cells.toList=c1/\rl J ρ b c2
abbrev rv(J:World->Prop)(ρ:aP)(v:AV G)(u:Value):Prop:=rl J ρ v [u]
theorem rR.mono{J J':World->Prop}(m:∀w,J' w->J w){t:Ty}{x:t.T G}{u:Value}(h:rR J t x u):rR J' t x u:=⟨(t.L G).mono m h.1,h.2⟩
theorem rl.mono{J J':World->Prop}{ρ:aP}(m:∀w,J' w->J w):∀{v:AV G} {l:List Value},rl J ρ v l->rl J' ρ v l:=by
 intro v
 induction v with
 |dat t x=>intro l h;obtain⟨u,e,h⟩:=h;exact⟨u,e,h.mono m⟩
 |fn f a c iW ym=>intro l h;obtain⟨fs,cs,e,h1,h2⟩:=h;exact⟨fs,cs,e,iW h1,ym h2⟩
 |st a ih=>intro l h;obtain⟨cs,e,h1,h2⟩:=h;exact⟨cs,e,ih h1,h2⟩
 |iy a ih=>intro l h;obtain⟨vs,e,h1⟩:=h;exact⟨vs,e,ih h1⟩
 |fW t v ih=>intro l h;obtain⟨u,e,h1⟩:=h;exact⟨u,e,ih h1⟩
 |ND e xs p=>intro l h;obtain⟨v,ws,h1,h2⟩:=h;exact⟨v,ws,h1.mono m,h2⟩
 |cons a b iW nW=>intro l h;obtain⟨u,r,e,h1,h2⟩:=h;exact⟨u,r,e,iW h1,nW h2⟩
 |part w a b iW nW=>intro l h;obtain⟨c1,c2,u,e,h1,h2,h3,h4⟩:=h;exact⟨c1,c2,u,e,h1,iW h2,h3,nW h4⟩
 |_ =>intro l h;exact h
theorem rl.ext{J:World->Prop}{ρ ρ':aP}(m:ρ.le ρ'):∀{v:AV G} {l:List Value},rl J ρ v l->rl J ρ' v l:=by
 intro v
 induction v with
 |ptr r p=>intro l h;obtain⟨⟨b,o,h1,h2⟩,h3⟩:=h;exact⟨⟨b,o,h1.ext m,h2⟩,h3⟩
 |Bp r p n sz up i=>intro l h;obtain⟨⟨b,o,h1,h2⟩,h3⟩:=h;exact⟨⟨b,o,h1.ext m,h2⟩,h3⟩
 |row r=>intro l h;obtain⟨a,n,cap,h1,h2⟩:=h;exact⟨a,n,cap,m _ _ h1,h2⟩
 |mp r=>intro l h;obtain⟨b,h1,h2⟩:=h;exact⟨b,m _ _ h1,h2⟩
 |fn f a c iW ym=>intro l h;obtain⟨fs,cs,e,h1,h2⟩:=h;exact⟨fs,cs,e,iW h1,ym h2⟩
 |st a ih=>intro l h;obtain⟨cs,e,h1,h2⟩:=h;exact⟨cs,e,ih h1,h2⟩
 |iy a ih=>intro l h;obtain⟨vs,e,h1⟩:=h;exact⟨vs,e,ih h1⟩
 |fW t v ih=>intro l h;obtain⟨u,e,h1⟩:=h;exact⟨u,e,ih h1⟩
 |cons a b iW nW=>intro l h;obtain⟨u,r,e,h1,h2⟩:=h;exact⟨u,r,e,iW h1,nW h2⟩
 |part w a b iW nW=>intro l h;obtain⟨c1,c2,u,e,h1,h2,h3,h4⟩:=h;exact⟨c1,c2,u,e,h1,iW h2,h3,nW h4⟩
 |_ =>intro l h;exact h
theorem C8{J:World->Prop}{ρ:aP}{t:Ty}{x:t.T G}{u:Value}(h:rR J t x u):rv J ρ (mk t x) u:=by
 cases t with
 |int k=>have h1:u.cells.toList=[.int k x]:=h.1;have h2:=h.2.2 rfl;rw[h2]at h1;exact h1
 |bool=>have h1:u.cells.toList=[.bool x]:=h.1;have h2:=h.2.2 rfl;rw[h2]at h1;exact h1
 |st i=>exact⟨u,rfl,h⟩
 |iK n e=>exact⟨u,rfl,h⟩
 |sl e=>exact⟨u,rfl,h⟩
theorem HU{J:World->Prop}{ρ:aP}{t:Ty}{x:t.T G}{u:Value}(h:rv J ρ (mk t x) u):rR J t x u:=by
 cases t with
 |int k=>have h:[u]=[.int k x]:=h;cases h;exact⟨rfl,nofun,λ_ =>rfl⟩
 |bool=>have h:[u]=[.bool x]:=h;cases h;exact⟨rfl,nofun,λ_ =>rfl⟩
 |st i=>obtain⟨u',e,h⟩:=h;cases e;exact h
 |iK n e=>obtain⟨u',e,h⟩:=h;cases e;exact h
 |sl e=>obtain⟨u',e,h⟩:=h;cases e;exact h
end Go.Rw
