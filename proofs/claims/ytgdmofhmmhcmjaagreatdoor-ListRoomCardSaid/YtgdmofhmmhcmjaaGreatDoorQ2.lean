/- Part 2 of what a proof leans on; pruned and shortened by a program out of longer texts. -/
import Derived.Test.YtgdmofhmmhcmjaaGreatDoorQ1
namespace Go.Bw
open Go Go.RowKit
theorem Mw{F:eu}{x:Operand}{r:List Operand}{v:Value}{vs:List Value}(h:ev F x=some v)(hr:C7 F r=some vs):C7 F (x::r)=some (v::vs):=by simp[C7,h,hr]
def fX(v:Value)(k:Nat):Value:=match v with
 | .slice (some a) _ _ => .pointer (some ⟨a.block,a.off+k,none⟩)
 |_ =>undef
theorem Ro.since{w w':World}{v:Value}{sz n:Nat}{xs:List Value}(h:Ro w v sz n xs)(hs:aO [] w w'):Ro w' v sz n xs:=by
 refine⟨h.1,?_⟩;rcases h.2 with h0|⟨g,off,cap,h1,h2,h3,h4⟩
 ·exact .inl h0
 ·exact .inr ⟨g,off,cap,h1,Nat.lt_of_lt_of_le h2 hs.size,h3,λj u hu=>(World.cell?_of_block (hs.block g h2 (by simp))).trans (h4 j u hu)⟩
theorem Ro.uT{w:World}{v:Value}{e sz n:Nat}{xs:List Value}(h:(aE.row v e sz n xs).holds w):Ro w v sz n xs:=by
 have h':kH w e sz v n xs:=h;refine⟨h'.1,?_⟩;rcases h'.2 with h0|⟨g,o,cap,cur,h1,h3,h4,_,h5,h6⟩
 ·exact .inl ⟨⟨_,_,h0.1⟩,h0.2⟩
 ·refine .inr ⟨g,o,cap,h1,(aiU.1 h3).1,h4,λj u hu=>?_⟩
  rw[cell_of_row w g (o+j) cur e (0,0) h3, ← Array.getElem?_toList];rw[← h6,List.getElem?_take]at hu;split at hu
  ·rwa[List.getElem?_drop]at hu
  ·cases hu
theorem Ro.at {w:World}{v:Value}{sz n m:Nat}{xs:List Value}(h:Ro w v sz n xs)(hm:m<n):∃g off cap,v= .slice (some ⟨g,off,none⟩) n cap/\g<w.heap.size/\n<=cap/\∀(j:Nat) u,xs[j]? =some u->w.cell? ⟨g,off+j,none⟩=some u:=by
 rcases h.2 with⟨_,h0⟩|h1
 ·omega
 ·exact h1
section
variable {P:Program} {N:Nat} {c:Cx} {F:eu} {H:List aE} {d:Option Tmp} {ty:TypeId} {p:String} {af:Array Edge} {g:Option (Nat×Bool)}
class pA(c:Cx)(H:List aE)(v:Value)(sz n:outParam Nat)(xs:outParam (List Value)):Prop where
 ro:∀w,aO c.bs c.w0 w->bC c.bs c.w0.heap.size H w->Ro w v sz n xs
theorem OG{x:Operand}{v:Value}{t e q sz n:Nat}{xs:List Value}[ht:se P t e q](hx:ev F x=some v)[h:pA c H v sz n xs]:VS P N c ⟨d, .call ⟨.builtin .len, #[x], #[t]⟩,ty,p,af,g⟩ F H (.int .i64 n):=
 aG (by simp) λa w hf hs hp=>by have hr:=h.ro w hs hp;obtain⟨inf,h1,_,_⟩:=se.get ht.ok;rcases hr.2 with⟨⟨a0,cp,rfl⟩,rfl⟩|⟨g,off,cap,rfl,_⟩<;>simp[execOp,resolve,invoke,builtin,aI hf hx,Builtin.len_,goInt,run_underlying h1]
theorem wV{x y:Operand}{t e sz n:Nat}{v:Value}{xs:List Value}{k:IntKind}{i:Int}{m:Nat}[ht:se P t e sz](hx:ev F x=some v)(hy:ev F y=some (.int k i))[h:pA c H v sz n xs](hi:i=(m:Int))(hm:m<n):
  VS P N c ⟨d, .indexAddr t x y,ty,p,af,g⟩ F H (fX v (m*sz)):=
 aG (by simp) λa w hf hs hp=>by obtain⟨g,off,cap,rfl,_,_,_⟩:=(h.ro w hs hp).at hm;obtain⟨inf,h1,h2,h3⟩:=se.get ht.ok;subst hi;simp[execOp,aI hf hx,aI hf hy,Instr.indexAt,asIntOf,run_underlying h1,sizeOf,typeInfo,h2,h3,Addr.add_lit,fX];intro hle;omega
theorem Ld{x:Operand}{s f fo k m sz n:Nat}{v:Value}{xs:List Value}[Ff P s f fo](hx:ev F x=some (fX v k))[h:pA c H v sz n xs](hm:m<n):VS P N c ⟨d, .fieldAddr s x f,ty,p,af,g⟩ F H (fX v (k+fo)):=
 aG (by simp) λa w hf hs hp=>by obtain⟨g,off,cap,rfl,_,_,_⟩:=(h.ro w hs hp).at hm;have:=yD (P:=P) (s:=s) (f:=f) (b:=g) (off:=off+k) w;simp only[execOp,aI hf hx,fX];simp[this,Nat.add_assoc]
theorem EJ{x:Operand}{t k sz n:Nat}{v u:Value}{xs:List Value}(hx:ev F x=some (fX v k))[h:pA c H v sz n xs][p8 P t](hv:xs[k]? =some u):VS P N c ⟨d, .load t x,ty,p,af,g⟩ F H u:=
 aG (by simp) λa w hf hs hp=>by
  have hr:=h.ro w hs hp;have hl:=(List.getElem?_eq_some_iff.1 hv).1;have hn:0<n:=by
   rcases Nat.eq_zero_or_pos n with h0|h0
   ·subst h0;have:=hr.1;omega
   ·exact h0
  obtain⟨g,off,cap,rfl,_,_,h4⟩:=hr.at hn;have:=kJ (P:=P) (t:=t) (a:=⟨g,off+k,none⟩) (h4 k u hv);simp[execOp,aI hf hx,fX,Instr.loadAt,Instr.sureAddr,this]
theorem Lc{x:Operand}{t k sz n q:Nat}{v:Value}{xs us:List Value}(hx:ev F x=some (fX v k))[h:pA c H v sz n xs][tY P t q](hv:(xs.drop k).take q=us)(hq:us.length=q)(h0:0<q):VS P N c ⟨d, .load t x,ty,p,af,g⟩ F H (.agg us.toArray):=
 aG (by simp) λa w hf hs hp=>by
  have hr:=h.ro w hs hp;have hl:0<xs.length:=by
   have:us.length<=xs.length:=by rw[← hv];simp;omega
   omega
  have hn:0<n:=by
   rcases Nat.eq_zero_or_pos n with h0|h0
   ·subst h0;have:=hr.1;omega
   ·exact h0
  obtain⟨g,off,cap,rfl,_,_,h4⟩:=hr.at hn;have:=kK (P:=P) (t:=t) (b:=g) (off:=off+k) (w:=w) hq (λj u hj=>by
   rw[← hv,List.getElem?_take]at hj;split at hj
   ·rw[List.getElem?_drop]at hj;rw[Nat.add_assoc];exact h4 _ u hj
   ·cases hj)
  simp[execOp,aI hf hx,fX,Instr.loadAt,Instr.sureAddr,this]
theorem adq{x y:Operand}{k:IntKind}{a b:Int}{ats:Array TypeId}(hx:ev F x=some (.int k a))(hy:ev F y=some (.int k b)):VS P N c ⟨d, .call ⟨.builtin .min, #[x,y],ats⟩,ty,p,af,g⟩ F H (.int k (if b<a then b else a)):=
 aG (by simp) λa' w hf _ _ =>by simp[execOp,resolve,invoke,builtin,aI hf hx,aI hf hy,Builtin.min_,Builtin.min2]
theorem ads{x y:Operand}{k:IntKind}{a b:Int}{ats:Array TypeId}(hx:ev F x=some (.int k a))(hy:ev F y=some (.int k b)):VS P N c ⟨d, .call ⟨.builtin .max, #[x,y],ats⟩,ty,p,af,g⟩ F H (.int k (if a<b then b else a)):=
 aG (by simp) λa' w hf _ _ =>by simp[execOp,resolve,invoke,builtin,aI hf hx,aI hf hy,Builtin.max_,Builtin.max2]
def Gq(P:Program)(t:Nat):Option (List (Nat×Nat)):=match P.underlying t with
 |some (.struct fs)=>fs.toList.mapM λf=>(P.info? f.type).map λi=>(f.offset,i.size)
 |_ =>none
def uE(pl:List (Nat×Nat)):List Value->List (Nat×Value)->Option (List Value)
 |cs,[]=>some cs
 |cs,(i,v)::r=>match pl[i]? with
  |none=>none
  |some (off,sz)=>if v.cells.size≠sz||decide (off+v.cells.size>cs.length)then none else uE pl (bN cs off v.cells.toList) r
class TPl(P:Program)(t:TypeId)(pl:outParam (List (Nat×Nat))):Prop where
 ok:Gq P t=some pl
theorem Rk(vs:List Value):∀(cs:Array Value) (off j:Nat),off+j+vs.length<=cs.size->((vs.zipIdx j).foldl (λ(cs:Array Value) (q:Value×Nat)=>cs.setIfInBounds (off+q.2) q.1) cs).toList=bN cs.toList (off+j) vs:=by
 induction vs with
 |nil=>intro cs off j h;simp[bN]
 |cons v r ih=>
  intro cs off j h;simp only[List.zipIdx_cons,List.foldl_cons];have hl:off+j+(r.length+1)<=cs.size:=h;rw[ih (cs.setIfInBounds (off+j) v) off (j+1) (by simp;omega)];refine List.ext_getElem? λm=>?_;have g:∀(zs0:List Value) (o:Nat) (us:List Value),o+us.length<=zs0.length->∀m:Nat,(bN zs0 o us)[m]? =if o<=m/\m<o+us.length then us[m-o]? else zs0[m]? :=by
   intro zs0 o us h m;unfold bN;by_cases h1:m<o
   ·rw[aiN (by omega),List.append_assoc,List.getElem?_append_left (by simp;omega),List.getElem?_take,aiM h1]
   ·by_cases h2:m<o+us.length
    ·rw[aiM (by omega),List.append_assoc,List.getElem?_append_right (by simp;omega),List.getElem?_append_left (by simp;omega)]
     congr 1;simp;omega
    ·rw[aiN (by omega),List.getElem?_append_right (by simp;omega),List.getElem?_drop]
     congr 1;simp;omega
  rw[g _ _ _ (by simp;omega),g _ _ _ (by simp;omega)];simp only[Array.toList_setIfInBounds,List.length_cons];by_cases e:m=off+j
  ·subst e
   rw[aiN (by omega),aiM (by omega)];have hc:off+j<cs.size:=by omega
   simp[hc]
  ·by_cases h1:off+(j+1)<=m/\m<off+(j+1)+r.length
   ·rw[aiM h1,aiM (by omega)]
    have:m-(off+j)=(m-(off+(j+1)))+1:=by omega
    rw[this,List.getElem?_cons_succ]
   ·rw[aiN h1,aiN (by omega)]
    rw[List.getElem?_set_ne (by omega)]
theorem wK{place:Nat->Option (Nat×Nat)}{pl:List (Nat×Nat)}(hp:∀i,place i=pl[i]?):∀(parts:List (Nat×Value)) (cs:Array Value) (out:List Value),uE pl cs.toList parts=some out->Instr.fill place cs parts=some out.toArray:=by
 intro parts
 induction parts with
 |nil=>intro cs out h;simp[uE]at h;simp[Instr.fill, ← h]
 |cons q r ih=>
  obtain⟨i,v⟩:=q;intro cs out h;simp only[uE]at h;simp only[Instr.fill,hp i];split at h
  ·cases h
  ·rename_i off sz R8
   rw[R8];simp only;split at h
   ·cases h
   ·rename_i hc
    simp only[Array.length_toList]at hc;rw[aiN (by simpa using hc)];refine ih _ out ?_;have hle:off+v.cells.size<=cs.size:=by simp only[Bool.or_eq_true,decide_eq_true_eq,not_or]at hc;omega
    have:=Rk v.cells.toList cs off 0 (by simpa using hle);rw[← h];congr 1;rw[Nat.add_zero]at this;rw[← this, ← Array.foldl_toList];simp only[Array.toList_zipIdx]
theorem Nv{P:Program}{t:Nat}{pl:List (Nat×Nat)}[h:TPl P t pl](w:World):∃fs,P.underlying t=some (.struct fs)/\((fs.mapM (m:=Sem) λf=>do pure (f.offset, ← sizeOf f.type)).run P w= .ok pl.toArray w):=by
 have:=h.ok;unfold Gq at this;split at this
 ·rename_i fs hu
  refine⟨fs,hu,?_⟩;have key:∀(l:List Field) (pl:List (Nat×Nat)),(l.mapM λf=>(P.info? f.type).map λi=>(f.offset,i.size))=some pl->(l.mapM (m:=Sem) λf=>do pure (f.offset, ← sizeOf f.type)).run P w= .ok pl w:=by
   intro l
   induction l with
   |nil=>intro pl h;simp at h;subst h;simp
   |cons f r ih=>
    intro pl h;cases hi:P.info? f.type with
    |none=>simp[hi]at h
    |some i=>
     simp only[List.mapM_cons,hi,Option.map_some,Option.pure_def,Option.bind_eq_bind,Option.bind_some]at h;cases hr:(r.mapM λf=>(P.info? f.type).map λi=>(f.offset,i.size))with
     |none=>simp[hr]at h
     |some q=>
      simp only[hr,Option.bind_some,Option.some.injEq]at h;subst h;have hs:(sizeOf f.type).run P w= .ok i.size w:=by simp[sizeOf,typeInfo,hi]
      simp only[List.mapM_cons,Sem.run_bind,hs,Result.andThen_ok,Sem.run_pure,ih q hr]
  have hk:=key _ _ this;have e:fs=fs.toList.toArray:=by simp
  rw[e,List.mapM_toArray];simp only[Sem.run_map,hk,Result.andThen_ok]
 ·cases this
theorem evp{F:eu}{a:Act}(hf:xV F a.tmps):∀{parts:List (Nat×Operand)} {vs:List Value},C7 F (parts.map (·.2))=some vs->parts.map (λq=>(q.1,a.eval q.2))=(parts.map (·.1)).zip vs:=by
 intro parts
 induction parts with
 |nil=>intro vs _;simp
 |cons q r ih=>
  intro vs h;simp only[List.map_cons,C7]at h;split at h
  ·rename_i v us h1 h2
   rw[← Option.some.inj h];simp[aI hf h1,ih h2]
  ·cases h
theorem zk{t:Nat}{parts:List (Nat×Operand)}{vs zs cs:List Value}{pl:List (Nat×Nat)}[hz:jh P t zs][R8:TPl P t pl](hv:C7 F (parts.map (·.2))=some vs)(hc:uE pl zs ((parts.map (·.1)).zip vs)=some cs):
  VS P N c ⟨d, .build t parts.toArray,ty,p,af,g⟩ F H (.agg cs.toArray):=
 aG (by simp) λa w hf _ _ =>by
  obtain⟨i,z,h1,h2,h3⟩:=jh.get hz.ok;obtain⟨fs,h4,h5⟩:=Nv (P:=P) (t:=t) w;have h6:(zeroValue t).run P w= .ok z w:=by simp[zeroValue,typeInfo,h1,h2]
  have h7:=wK (place:=λi=>(pl.toArray)[i]?) (pl:=pl) (by simp) ((parts.map (·.1)).zip vs) z.cells cs (by rw[h3];exact hc);have h8:=evp hf hv;simp only[execOp,Instr.build,Sem.run_bind,h6,Result.andThen_ok,run_underlying h4,h5];have h9:(Array.map (λx=>(x.fst,a.eval x.snd)) parts.toArray).toList=(parts.map (·.1)).zip vs:=by simpa using h8
  simp only[h9,h7];rfl
class tO(H:List aE)(v:Value)(e sz n:outParam Nat)(xs:outParam (List Value))(f:outParam (aE->List aE)):Prop where
 ok:∃k,H[k]? =some (.row v e sz n xs)/\∀r,f r=H.set k r
instance(priority:=100) adB(v e sz n xs)(H:List aE):tO (.row v e sz n xs::H) v e sz n xs (λr=>r::H):=⟨⟨0,rfl,λ_ =>rfl⟩⟩
instance(priority:=50) aaY(r:aE)(H:List aE)(v e sz n xs f)[h:tO H v e sz n xs f]:tO (r::H) v e sz n xs (λq=>r::f q):=
 ⟨by obtain⟨k,h1,h2⟩:=h.ok;exact⟨k+1,by simpa using h1,λq=>by simp[h2]⟩⟩
def Qb(P:Program)(t e sz bytes:Nat):Bool:=match P.underlying t,P.info? e with
 |some (.slice e'),some i=>Nat.beq e' e&&Nat.beq i.size sz&&Nat.beq i.bytes bytes&&(match i.zero with|some z=>Nat.beq z.cells.size sz|none=>false)&& !Nat.beq sz 0
 |_,_ =>false
class Lp(P:Program)(t:TypeId)(e sz bytes:outParam Nat):Prop where
 ok:Qb P t e sz bytes=true
theorem Lp.get{P:Program}{t e sz bytes:Nat}(h:Qb P t e sz bytes=true):∃i z,P.underlying t=some (.slice e)/\P.info? e=some i/\i.zero=some z/\i.size=sz/\i.bytes=bytes/\z.cells.size=sz/\0<sz:=by
 unfold Qb at h;split at h
 ·rename_i e' i h1 h2
  simp only[aiP,Bool.not_eq_true']at h;obtain⟨⟨⟨⟨a1,a2⟩,a3⟩,a4⟩,a5⟩:=h;cases hz:i.zero with
  |none=>simp[hz]at a4
  |some z=>simp only[hz]at a4;rw[aiO a1]at h1;refine⟨i,z,h1,h2,hz,aiO a2,aiO a3,aiO a4,Nat.pos_of_ne_zero λe0=>?_⟩;rw[e0]at a5;exact absurd a5 (by decide)
 ·cases h
theorem yE{P:Program}{t ty e sz bytes n m cp:Nat}{v:Value}{xs news:List Value}{w:World}{b off:Nat}[ht:Lp P t e sz bytes](hown:kH w e sz v n xs)(hl:news.length=m*sz)
  (hn:∀(j:Nat) u,news[j]? =some u->w.cell? ⟨b,off+j,none⟩=some u)(h1:oy news)(M4:(n+m)*bytes<=140737488355328)(h63:n+m<=9223372036854775807):
  ∃v' w',(Builtin.append_ #[t,t] ty #[v, .slice (some ⟨b,off,none⟩) m cp]).run P w= .ok v' w'/\kH w' e sz v' (n+m) (xs++news)/\aO v.ownBlock.toList w w'/\
   (∀k,v'.ownBlock=some k->(v.ownBlock=some k\/w.heap.size<=k)/\k<w'.heap.size):=by
 obtain⟨i,z,e1,e2,e3,e4,e5,e6,e7⟩:=Lp.get ht.ok;have hn':∀(j:Nat) u,news[j]? =some u->w.cell? ((⟨b,off,none⟩:Addr).add j)=some u:=λj u hj=>by rw[Addr.add_lit];exact hn j u hj
 have Ml:n+m<=maxLen:=by simp only[maxLen];omega
 rcases hown.2 with⟨rfl,rfl⟩|⟨gb,o,cap,cur,rfl,Px,hnc,Od,hcs,Er⟩
 ·obtain⟨v',w',hr,hown',hg,_⟩:=run_append_own w w.heap.size t ty e i z sz bytes e1 e2 e3 e4 e5 e6 e7 (.slice none 0 0) 0 xs ⟨hown.1, .inl ⟨rfl,rfl⟩⟩ ⟨b,off,none⟩ m cp news hl hn' h1 Ml M4 (Nat.le_refl _)
  exact⟨v',w',hr,zL hown',aO.vF hg,λk hk=>⟨.inr (hown'.lt k hk).1,(hown'.lt k hk).2⟩⟩
 ·subst e4
  subst e5;have hgs:=(aiU.1 Px).1;by_cases hroom:n+m<=cap
  ·have hf:=run_firstCells_some (P:=P) w i.size m ⟨b,off,none⟩ m cp news hl hn'
   have hle:(n+m)*i.size<=cap*i.size:=Nat.mul_le_mul_right _ hroom;have hfit:o+n*i.size+news.length<=cur.size:=by rw[hl];rw[Nat.add_mul]at hle;omega
   have hst:=run_storeCells_at P gb (o+n*i.size) e news 0 cur w Px (by simpa using hfit) h1;simp only[Nat.add_zero]at hst;have hr:(Builtin.append_ #[t,t] ty #[.slice (some ⟨gb,o,none⟩) n cap, .slice (some ⟨b,off,none⟩) m cp]).run P w= .ok (.slice (some ⟨gb,o,none⟩) (n+m) cap) (w.setRow gb (cur.toList.take (o+n*i.size)++news++cur.toList.drop (o+n*i.size+news.length)).toArray):=by simp[Builtin.append_,run_underlying e1,sizeOf,typeInfo,e2,Builtin.lenOf,hroom,hf,Addr.add_lit,hst]
   refine⟨_,_,hr,⟨by rw[List.length_append,hown.1,hl,Nat.add_mul], .inr ⟨gb,o,cap,_,rfl,setRow_heap w gb cur _ e _ Px,hroom,Od,?_,?_⟩⟩,⟨rfl,rfl,rfl,by simp,λk _ hk=>setRow_other w gb k _ (by simpa[Value.ownBlock]using hk)⟩,λk hk=>⟨.inl hk,?_⟩⟩
   ·simp only[List.size_toArray,List.length_append,List.length_take,List.length_drop,Array.length_toList]
    omega
   ·have e8:(cur.toList.take (o+n*i.size)).drop o=xs:=by rw[List.drop_take,Nat.add_sub_cancel_left];exact Er
    have e9:o<=(cur.toList.take (o+n*i.size)).length:=by rw[List.length_take,Array.length_toList];omega
    show(List.drop o ((cur.toList.take (o+n*i.size)++news)++cur.toList.drop (o+n*i.size+news.length))).take ((n+m)*i.size)=xs++news;rw[List.append_assoc,List.drop_append_of_le_length e9,e8, ← List.append_assoc];have e10:(xs++news).length=(n+m)*i.size:=by rw[List.length_append,hown.1,hl,Nat.add_mul]
    rw[← e10];exact List.take_left
   ·cases hk
    simpa using hgs
  ·have holds:∀(j:Nat) u,xs[j]? =some u->w.cell? ((⟨gb,o,none⟩:Addr).add j)=some u:=λj u hu=>by
    rw[Addr.add_lit,cell_of_row w gb (o+j) cur e (0,0) Px, ← Array.getElem?_toList];rw[← Er,List.getElem?_take]at hu;split at hu
    ·rwa[List.getElem?_drop]at hu
    ·cases hu
   obtain⟨v',w',q1,q2,q3⟩:=run_append_arg_grows (P:=P) w t ty e i z i.size i.bytes e1 e2 e3 rfl rfl e6 e7 ⟨gb,o,none⟩ n cap xs hown.1 holds ⟨b,off,none⟩ m cp news hl hn' (by omega) Ml M4;refine⟨v',w',q1,zL q2,(aO.refl _ w).ext (aO.vF q3),λk hk=>⟨.inr (q2.lt k hk).1,(q2.lt k hk).2⟩⟩
def xy:Value->Value
 | .slice a n _ => .slice a n n
 |v=>v
def SlV(v:Value):Prop:=∃a n cp,v= .slice a n cp
theorem SlV.cells{v:Value}(h:SlV v):v.cells.toList=[v]:=by obtain⟨a,n,cp,rfl⟩:=h;rfl
theorem SlV.one{v:Value}(h:SlV v):v.oneCell'=true:=by obtain⟨a,n,cp,rfl⟩:=h;cases a<;>rfl
def su(v:Value)(n:Nat):Prop:=∃a cp,v= .slice a n cp
theorem su.slv{v:Value}{n:Nat}(h:su v n):SlV v:=by obtain⟨a,cp,rfl⟩:=h;exact⟨_,_,_,rfl⟩
theorem su.cells{v:Value}{n:Nat}(h:su v n):v.cells.toList=[v]:=h.slv.cells
theorem su.one{v:Value}{n:Nat}(h:su v n):v.oneCell'=true:=h.slv.one
theorem su.uT{w:World}{v:Value}{e sz n:Nat}{xs:List Value}(h:kH w e sz v n xs):su v n:=by
 rcases h.2 with⟨rfl,rfl⟩|⟨_,_,_,_,rfl,_⟩
 ·exact⟨_,_,rfl⟩
 ·exact⟨_,_,rfl⟩
theorem su.ain{v:Value}{n:Nat}(h:su v n):su (xy v) n:=by obtain⟨a,cp,rfl⟩:=h;exact⟨_,_,rfl⟩
theorem RY{s x:Operand}{t e sz bytes n m b T cp:Nat}{v:Value}{xs news:List Value}{f:aE->List aE}[Lp P t e sz bytes](hs:ev F s=some v)[hr:tO H v e sz n xs f](hx:ev F x=some (.slice (some ⟨b,0,none⟩) m cp))[hc:rm H b T news]
  (hl:news.length=m*sz)(h1:oy news)(M4:(n+m)*bytes<=140737488355328)(h63:n+m<=9223372036854775807):
  RX P N c ⟨d, .call ⟨.builtin .append, #[s,x], #[t,t]⟩,ty,p,af,g⟩ F H (λv'=>su v' (n+m)) (λv'=>v') (λv'=>f (.row v' e sz (n+m) (xs++news))):=λD a w next Q hst hk=>by
 obtain⟨k,k1,k2⟩:=hr.ok;have hm:aE.row v e sz n xs∈H:=List.mem_of_getElem? k1;obtain⟨v',w',q1,q2,q3,q4⟩:=yE (P:=P) (t:=t) (ty:=ty) (cp:=cp) (b:=b) (off:=0) (hst.hp.holds _ hm) hl (λj u hj=>by rw[Nat.zero_add,qf (hst.hp.holds _ hc.mem)];exact hj) h1 M4 h63;refine dJ (by simp) (v:=v') (w':=w') ?_ (hk v' w' (su.uT q2) (hst.si.trans q3 λb' hb'=>(hst.hp.own _ hm b' hb').1) ?_)
 ·simp[execOp,resolve,invoke,builtin,aI hst.fr hs,aI hst.fr hx,q1]
 ·show bC c.bs c.w0.heap.size (f (.row v' e sz (n+m) (xs++news))) w'
  rw[k2];refine hst.hp.set k1 q3.size (λj hj hn=>q3.block j hj hn) q2 hst.si.size (λb' hb'=>?_);have:=q4 b' (by simpa[aE.cH]using hb');exact⟨this.1.imp (λh=>by simpa[aE.cH]using h) id,this.2⟩
theorem HM{x:Operand}{t e sz:Nat}{v:Value}{cs zs:List Value}[ht:se P t e sz][hz:jh P e zs](hx:ev F x=some v)(hc:v.cells.toList=cs)(hl:cs.length=sz)(hzl:zs.length=sz)(h0:0<sz)(hs:sz<=16777216):
  RX P N c ⟨d, .buildSlice t 1 #[(0,x)],ty,p,af,g⟩ F H (λ_ =>True) (λb=> .slice (some ⟨b,0,none⟩) 1 1) (λb=> .cells b e cs::H):=λD a w next Q hst hk=>by
 obtain⟨i,h1,h2,h3⟩:=se.get ht.ok;obtain⟨i',z,h4,h5,h6⟩:=jh.get hz.ok;rw[h2]at h4;cases h4;have hsz:v.cells.size=sz:=by rw[← hl, ← hc];simp
 refine dJ (by simp) (w':=w.alloc (.cells cs.toArray e)) ?_ (hk w.heap.size _ trivial (hst.si.ext (aO.alloc _ _)) (hst.hp.box e cs hst.si.size));have Cv:Instr.fill (λi=>some (i*sz,sz)) ((Array.range sz).map (z.cells[· %z.cells.size]!)) [(0,v)]=some cs.toArray:=by
  have:=wK (place:=λi=>if i=0 then some (0,sz)else none) (pl:=[(0,sz)]) (by intro i;cases i<;>simp) [(0,v)] ((Array.range sz).map (z.cells[· %z.cells.size]!)) cs (by
   simp only[uE,List.getElem?_cons_zero,hsz,hc,Array.length_toList,Array.size_map,Array.size_range,Nat.zero_add,ne_eq,not_true_eq_false,decide_false,Bool.false_or,gt_iff_lt,Nat.lt_irrefl,Bool.false_eq_true,if_false];simp[bN,hl])
  have e:∀cells:Array Value,Instr.fill (λi=>some (i*sz,sz)) cells [(0,v)]=Instr.fill (λi=>if i=0 then some (0,sz)else none) cells [(0,v)]:=λcells=>by simp[Instr.fill]
  rw[e];exact this
 have hn0:¬sz=0:=by omega
 have ah0:¬16777216<sz:=by omega
 simp only[execOp,Instr.buildSlice,Sem.run_bind,run_underlying h1,Result.andThen_ok,sizeOf,typeInfo];simp[h2,h3,hn0,ah0,aI hst.fr hx,Cv,zeroValue,typeInfo,h5,newRow,newObj,Sem.run]
theorem Qs{x hi mx:Operand}{t e q sz n:Nat}{v:Value}{xs:List Value}{k k':IntKind}[ht:se P t e q](hx:ev F x=some v)(hh:ev F hi=some (.int k n))(hm:ev F mx=some (.int k' n))[h:pA c H v sz n xs]:
  VS P N c ⟨d, .slice t x none (some hi) (some mx),ty,p,af,g⟩ F H (xy v):=
 aG (by simp) λa w hf hs hp=>by
  obtain⟨i,h1,h2,h3⟩:=se.get ht.ok;have hr:=h.ro w hs hp;rcases hr.2 with⟨⟨a0,cp,rfl⟩,rfl⟩|⟨gb,off,cap,rfl,_,hle,_⟩
  ·cases a0<;>simp[execOp,aI hf hx,aI hf hh,aI hf hm,Instr.sliceAt,run_underlying h1,Instr.slice,Instr.sliceBounds,Instr.sliceBound,asIntOf,sizeOf,typeInfo,h2,xy]
  ·have h9:(n:Int)<=(cap:Int):=by omega
   by_cases hn:n=0
   ·subst hn
    simp[execOp,aI hf hx,aI hf hh,aI hf hm,Instr.sliceAt,run_underlying h1,Instr.slice,Instr.sliceBounds,Instr.sliceBound,asIntOf,sizeOf,typeInfo,h2,xy]
   ·simp[execOp,aI hf hx,aI hf hh,aI hf hm,Instr.sliceAt,run_underlying h1,Instr.slice,Instr.sliceBounds,Instr.sliceBound,asIntOf,sizeOf,typeInfo,h2,xy,hle,Addr.add]
theorem zO{bs:List Nat}{n0 e sz:Nat}{w:World}(h:bC bs n0 H w):bC bs n0 (.row (.slice none 0 0) e sz 0 []::H) w:=
 h.cons ⟨by simp, .inl ⟨rfl,rfl⟩⟩ (λb hb=>by simp[aE.cH,Value.ownBlock]at hb) (λs _ b hb=>by simp[aE.cH,Value.ownBlock]at hb)
theorem ZV{D:List Deferred}{Q:Exit->Act->World->Prop}{x:Code}(e sz:Nat)(h:WP P N c D x Q F (.row (.slice none 0 0) e sz 0 []::H)):WP P N c D x Q F H:=adi (λ_ _ _ hp=>zO hp) h
theorem ZR{D:List Deferred}{Q:Exit->Act->World->Prop}{x:Exit}(e sz:Nat)(h:WQ N c D Q x F (.row (.slice none 0 0) e sz 0 []::H)):WQ N c D Q x F H:=V0 (λ_ _ _ hp=>zO hp) h
end
end Go.Bw
namespace Go.Bw
open Go Go.RowKit
def Hu:Option Value->Option Value->Bool
 |some (.int _ a),some (.int _ b)=>a==b
 |some (.bool a),some (.bool b)=>a==b
 |_,_ =>false
def nW(k:Option IntKind):Option Value->Bool
 |some (.int k' _)=>match k with|some k=>decide (k=k')|none=>false
 |some (.bool _)=>k.isNone
 |_ =>false
def xM:List (Nat×Option IntKind)->List Value->List Value->Bool
 |[],_,_ =>true
 |(o,_)::r,cs,ds=>Hu cs[o]? ds[o]? &&xM r cs ds
def rT:List (Nat×Option IntKind)->List Value->Bool
 |[],_ =>true
 |(o,k)::r,cs=>nW k cs[o]? &&rT r cs
def aaP(P:Program)(f:Field)(q:Nat×Option IntKind):Bool:=
 f.name != "_" &&Nat.beq f.offset q.1&&(match P.underlying f.type,q.2 with|some (.int k),some k'=>decide (k=k')|some .bool,none=>true|_,_ =>false)
def Bi(P:Program):List Field->List (Nat×Option IntKind)->Bool
 |[],[]=>true
 |f::fs,q::qs=>aaP P f q&&Bi P fs qs
 |_,_ =>false
def Bm(P:Program)(t:Nat)(ks:List (Nat×Option IntKind)):Bool:=match P.underlying t with
 |some (.struct fs)=> !P.stoodInHeld t&& !P.eqGuardType P.depth t&&Bi P fs.toList ks
 |_ =>false
class MW(P:Program)(t:TypeId)(ks:outParam (List (Nat×Option IntKind))):Prop where
 ok:Bm P t ks=true
theorem rR{P:Program}{t off:Nat}{cs:Array Value}{v:Value}{w:World}(ht:(∃k,P.underlying t=some (.int k))\/P.underlying t=some .bool)(h:cs[off]? =some v):(part t cs off).run P w= .ok v w:=by rcases ht with⟨k,hk⟩|hk<;>simp[part,isAgg,run_underlying hk,h]
theorem uo{P:Program}{w:World}(n:Nat){cs ds:List Value}:∀{fs:List Field} {ks:List (Nat×Option IntKind)},Bi P fs ks=true->rT ks cs=true->rT ks ds=true->
  (Op.eqFields (n+1) cs.toArray ds.toArray fs).run P w= .ok (xM ks cs ds) w:=by
 intro fs
 induction fs with
 |nil=>intro ks h _ _;cases ks with
  |nil=>simp[Op.eqFields,xM]
  |cons _ _ =>simp[Bi]at h
 |cons f fs ih=>
  intro ks h h1 h2;cases ks with
  |nil=>simp[Bi]at h
  |cons q qs=>
   obtain⟨o,k⟩:=q;simp only[Bi,aaP,aiP,bne_iff_ne,ne_eq]at h;obtain⟨⟨⟨hn,ho⟩,hk⟩,hr⟩:=h;have ho:f.offset=o:=aiO ho;simp only[rT,aiP]at h1 h2;have bD:=ih hr h1.2 h2.2;subst ho;have k1:=h1.1;have k2:=h2.1
   match hu:P.underlying f.type,k,hk with
   |some (.int kk),some k',hk=>
    have e:kk=k':=by simpa using hk
    subst e
    match hc:cs[f.offset]?,k1 with
    |some (.int ka a),k1=>
     have e1:kk=ka:=by simpa[nW]using k1
     subst e1
     match hd:ds[f.offset]?,k2 with
     |some (.int kb b),k2=>
      have e2:kk=kb:=by simpa[nW]using k2
      subst e2;have p1:=rR (w:=w) (.inl ⟨_,hu⟩) (show cs.toArray[f.offset]? =some (.int kk a)by simpa using hc);have p2:=rR (w:=w) (.inl ⟨_,hu⟩) (show ds.toArray[f.offset]? =some (.int kk b)by simpa using hd);have p3:=run_equalIn_int (P:=P) w n f.type kk kk a b hu;simp only[Op.eqFields,hn,ne_eq,not_false_eq_true,if_true,Sem.run_bind,p1,p2,p3,Result.andThen_ok];simp only[xM,hc,hd,Hu];cases a==b<;>simp[bD]
     |some (.bool _),k2=>simp[nW]at k2
    |some (.bool _),k1=>simp[nW]at k1
   |some .bool,none,_ =>
    match hc:cs[f.offset]?,k1 with
    |some (.bool a),_ =>
     match hd:ds[f.offset]?,k2 with
     |some (.bool b),_ =>have p1:=rR (w:=w) (.inr hu) (show cs.toArray[f.offset]? =some (.bool a)by simpa using hc);have p2:=rR (w:=w) (.inr hu) (show ds.toArray[f.offset]? =some (.bool b)by simpa using hd);have p3:=run_equalIn_bool' (P:=P) w n f.type a b hu;simp only[Op.eqFields,hn,ne_eq,not_false_eq_true,if_true,Sem.run_bind,p1,p2,p3,Result.andThen_ok];simp only[xM,hc,hd,Hu];cases a==b<;>simp[bD]
     |some (.int _ _),k2=>simp[nW]at k2
    |some (.int _ _),k1=>simp[nW]at k1
section
variable {P:Program} {N:Nat} {c:Cx} {F:eu} {H:List aE} {d:Option Tmp} {ty:TypeId} {p:String} {af:Array Edge} {g:Option (Nat×Bool)}
theorem MW.get{t:Nat}{ks:List (Nat×Option IntKind)}(h:Bm P t ks=true):P.underlying t=some (.struct (P.fieldsOf t))/\P.stoodInHeld t=false/\P.eqGuardType P.depth t=false/\Bi P (P.fieldsOf t).toList ks=true:=by
 unfold Bm at h;split at h
 ·rename_i fs hu
  simp only[aiP,Bool.not_eq_true']at h;have e:P.fieldsOf t=fs:=by simp[Program.fieldsOf,hu]
  rw[e];exact⟨hu,h.1.1,h.1.2,h.2⟩
 ·cases h
theorem Le{x y:Operand}{cs ds:List Value}{T U:TypeId}{ks:List (Nat×Option IntKind)}[hT:MW P T ks](hx:ev F x=some (.agg cs.toArray))(hy:ev F y=some (.agg ds.toArray))(h1:rT ks cs=true)(h2:rT ks ds=true):
  VS P N c ⟨d, .binOp .eql T x y U,ty,p,af,g⟩ F H (.bool (xM ks cs ds)):=
 aG (by simp) λa' w hf _ _ =>by obtain⟨e1,e2,e3,e4⟩:=MW.get hT.ok;have q1:=run_eqGuard_agg (P:=P) w .eql T x y cs.toArray ds.toArray e3;have q2:=run_eql_struct (P:=P) w T cs.toArray ds.toArray;rw[run_equalIn_struct w 9999 T _ _ e1 e2,uo 9998 e4 h1 h2]at q2;simp only[Result.andThen_ok]at q2;simp[execOp,aI hf hx,aI hf hy,q1,q2]
theorem Qp{x y:Operand}{cs ds:List Value}{T U:TypeId}{ks:List (Nat×Option IntKind)}[hT:MW P T ks](hx:ev F x=some (.agg cs.toArray))(hy:ev F y=some (.agg ds.toArray))(h1:rT ks cs=true)(h2:rT ks ds=true):
  VS P N c ⟨d, .binOp .neq T x y U,ty,p,af,g⟩ F H (.bool (!xM ks cs ds)):=
 aG (by simp) λa' w hf _ _ =>by obtain⟨e1,e2,e3,e4⟩:=MW.get hT.ok;have q1:=run_eqGuard_agg (P:=P) w .neq T x y cs.toArray ds.toArray e3;have q2:=run_neq_struct (P:=P) w T cs.toArray ds.toArray;rw[run_equalIn_struct w 9999 T _ _ e1 e2,uo 9998 e4 h1 h2]at q2;simp only[Result.andThen_ok]at q2;simp[execOp,aI hf hx,aI hf hy,q1,q2]
def nh(l h sz:Nat):Value->Value
 | .slice a _ cap=> .slice (if cap=l then a else a.map (·.add (l*sz))) (h-l) (cap-l)
 |v=>v
theorem Ro.cut{w:World}{v:Value}{sz n l h:Nat}{xs:List Value}(hr:Ro w v sz n xs)(hl:l<=h)(hh:h<=n):Ro w (nh l h sz v) sz (h-l) ((xs.drop (l*sz)).take ((h-l)*sz)):=by
 have hlen:((xs.drop (l*sz)).take ((h-l)*sz)).length=(h-l)*sz:=by
  have:(h-l)*sz+l*sz<=n*sz:=by rw[← Nat.add_mul];exact Nat.mul_le_mul_right _ (by omega)
  simp[hr.1];omega
 refine⟨hlen,?_⟩;rcases hr.2 with⟨⟨a,cp,rfl⟩,rfl⟩|⟨gb,off,cap,rfl,h2,h3,h4⟩
 ·have e1:l=0:=by omega
  have e2:h=0:=by omega
  subst e1;subst e2;exact .inl ⟨⟨_,_,rfl⟩,rfl⟩
 ·by_cases e:cap=l
  ·have e2:h=l:=by omega
   subst e2;exact .inl ⟨⟨some ⟨gb,off,none⟩,cap-h,by simp[nh,e]⟩,by omega⟩
  ·refine .inr ⟨gb,off+l*sz,cap-l,by simp[nh,e,Addr.add_lit],h2,by omega,λj u hu=>?_⟩
   rw[List.getElem?_take]at hu;split at hu
   ·rw[List.getElem?_drop]at hu
    rw[Nat.add_assoc];exact h4 _ u hu
   ·cases hu
theorem MB(l h sz:Nat)(v:Value):(nh l h sz v).ownBlock=v.ownBlock:=by
 cases v with
 |slice a n cap=>cases a<;>simp only[nh]<;>split<;>simp[Value.ownBlock,Addr.add]<;>split<;>rfl
 |_ =>rfl
theorem oh{k:IntKind}{l n:Nat}{code:BoundsCode}{w:World}(h:l<=n):(Instr.sliceBound (.int k l) n code).run P w= .ok l w:=by
 have h2:(l:Int)<=(n:Int):=by omega
 simp[Instr.sliceBound,asIntOf,h2]
theorem D5{x lo:Operand}{t e q sz n:Nat}(l:Nat){v:Value}{xs:List Value}{k:IntKind}[ht:se P t e q](hx:ev F x=some v)(hlo:ev F lo=some (.int k l))[h:pA c H v sz n xs](hl:l<=n):
  VS P N c ⟨d, .slice t x (some lo) none none,ty,p,af,g⟩ F H (nh l n q v):=
 aG (by simp) λa w hf hs hp=>by
  obtain⟨i,h1,h2,h3⟩:=se.get ht.ok;obtain⟨a0,cp,rfl⟩:∃a0 cp,v= .slice a0 n cp:=by rcases(h.ro w hs hp).2 with⟨⟨a0,cp,rfl⟩,rfl⟩|⟨gb,off,cap,rfl,_⟩<;>exact⟨_,_,rfl⟩
  have b1:=oh (P:=P) (k:=k) (w:=w) (code:= .sliceB) hl;simp[execOp,aI hf hx,aI hf hlo,Instr.sliceAt,run_underlying h1,Instr.slice,Instr.sliceBounds,b1,sizeOf,typeInfo,h2,h3,nh]
theorem JI{x hi:Operand}{t e q sz n:Nat}(m:Nat){v:Value}{xs:List Value}{k:IntKind}[ht:se P t e q](hx:ev F x=some v)(hhi:ev F hi=some (.int k m))[h:pA c H v sz n xs](hm:m<=n):
  VS P N c ⟨d, .slice t x none (some hi) none,ty,p,af,g⟩ F H (nh 0 m q v):=
 aG (by simp) λa w hf hs hp=>by
  obtain⟨i,h1,h2,h3⟩:=se.get ht.ok;obtain⟨a0,cp,rfl,hcp⟩:∃a0 cp,v= .slice a0 n cp/\m<=cp:=by
   rcases(h.ro w hs hp).2 with⟨⟨a0,cp,rfl⟩,rfl⟩|⟨gb,off,cap,rfl,_,hle,_⟩
   ·exact⟨_,_,rfl,by omega⟩
   ·exact⟨_,_,rfl,by omega⟩
  have b1:=oh (P:=P) (k:=k) (w:=w) (code:= .sliceAcap) hcp;simp[execOp,aI hf hx,aI hf hhi,Instr.sliceAt,run_underlying h1,Instr.slice,Instr.sliceBounds,b1,sizeOf,typeInfo,h2,nh]
theorem ady{x lo hi:Operand}{t e q sz n:Nat}(l m:Nat){v:Value}{xs:List Value}{k k':IntKind}[ht:se P t e q](hx:ev F x=some v)(hlo:ev F lo=some (.int k l))(hhi:ev F hi=some (.int k' m))[h:pA c H v sz n xs](hl:l<=m)(hm:m<=n):
  VS P N c ⟨d, .slice t x (some lo) (some hi) none,ty,p,af,g⟩ F H (nh l m q v):=
 aG (by simp) λa w hf hs hp=>by
  obtain⟨i,h1,h2,h3⟩:=se.get ht.ok;obtain⟨a0,cp,rfl,hcp⟩:∃a0 cp,v= .slice a0 n cp/\m<=cp:=by
   rcases(h.ro w hs hp).2 with⟨⟨a0,cp,rfl⟩,rfl⟩|⟨gb,off,cap,rfl,_,hle,_⟩
   ·exact⟨_,_,rfl,by omega⟩
   ·exact⟨_,_,rfl,by omega⟩
  have b1:=oh (P:=P) (k:=k') (w:=w) (code:= .sliceAcap) hcp;have b2:=oh (P:=P) (k:=k) (w:=w) (code:= .sliceB) hl;simp[execOp,aI hf hx,aI hf hlo,aI hf hhi,Instr.sliceAt,run_underlying h1,Instr.slice,Instr.sliceBounds,b1,b2,sizeOf,typeInfo,h2,h3,nh]
theorem Iu{t ty e sz bytes n m:Nat}{v x:Value}{xs news:List Value}{w:World}[ht:Lp P t e sz bytes](hown:kH w e sz v n xs)(hx:Ro w x sz m news)(h1:oy news)(M4:(n+m)*bytes<=140737488355328)(h63:n+m<=9223372036854775807):
  ∃v' w',(Builtin.append_ #[t,t] ty #[v,x]).run P w= .ok v' w'/\kH w' e sz v' (n+m) (xs++news)/\aO v.ownBlock.toList w w'/\
   (∀k,v'.ownBlock=some k->(v.ownBlock=some k\/w.heap.size<=k)/\k<w'.heap.size):=by
 rcases hx.2 with⟨⟨a,cp,rfl⟩,rfl⟩|⟨gb,off,cap,rfl,_,_,h4⟩
 ·obtain⟨i,z,e1,e2,e3,e4,e5,e6,e7⟩:=Lp.get ht.ok
  have N6:news=[]:=List.length_eq_zero_iff.1 (by rw[hx.1];simp);subst N6;have hsrc:Src P i.size t (.slice a 0 cp) 0 [] w:=by
   cases a with
   |none=>exact Src.ofNil w e1 cp
   |some a=>exact Src.ofSlice w e1 a 0 cp [] (by simp) (by simp) (by simp)
  obtain⟨base,sCap,hv,hle⟩:∃base sCap,v= .slice base n sCap/\n<=sCap:=by
   rcases hown.2 with⟨rfl,rfl⟩|⟨g,o,cap,cur,rfl,_,hc,_⟩
   ·exact⟨_,_,rfl,Nat.le_refl _⟩
   ·exact⟨_,_,rfl,hc⟩
  have hrun:=run_append_nothing (P:=P) w t t ty e i e1 e2 base n sCap hle _ hsrc;rw[← hv]at hrun;refine⟨v,w,hrun,by simpa using hown,aO.refl _ _,λk hk=>⟨.inl hk,?_⟩⟩;rcases hown.2 with⟨rfl,_⟩|⟨g,o,cap,cur,rfl,hg,_⟩
  ·cases hk
  ·cases hk;exact(aiU.1 hg).1
 ·exact yE hown hx.1 h4 h1 M4 h63
theorem wW{s x:Operand}{t e sz bytes n m:Nat}{v u:Value}{xs news:List Value}{f:aE->List aE}[Lp P t e sz bytes](hs:ev F s=some v)[hr:tO H v e sz n xs f](hx:ev F x=some u)[hu:pA c H u sz m news]
  (h1:oy news)(M4:(n+m)*bytes<=140737488355328)(h63:n+m<=9223372036854775807):
  RX P N c ⟨d, .call ⟨.builtin .append, #[s,x], #[t,t]⟩,ty,p,af,g⟩ F H (λv'=>su v' (n+m)) (λv'=>v') (λv'=>f (.row v' e sz (n+m) (xs++news))):=λD a w next Q hst hk=>by
 obtain⟨k,k1,k2⟩:=hr.ok;have hm:aE.row v e sz n xs∈H:=List.mem_of_getElem? k1;obtain⟨v',w',q1,q2,q3,q4⟩:=Iu (P:=P) (t:=t) (ty:=ty) (hst.hp.holds _ hm) (hu.ro w hst.si hst.hp) h1 M4 h63;refine dJ (by simp) (v:=v') (w':=w') ?_ (hk v' w' (su.uT q2) (hst.si.trans q3 λb' hb'=>(hst.hp.own _ hm b' hb').1) ?_)
 ·simp[execOp,resolve,invoke,builtin,aI hst.fr hs,aI hst.fr hx,q1]
 ·show bC c.bs c.w0.heap.size (f (.row v' e sz (n+m) (xs++news))) w'
  rw[k2];refine hst.hp.set k1 q3.size (λj hj hn=>q3.block j hj hn) q2 hst.si.size (λb' hb'=>?_);have:=q4 b' (by simpa[aE.cH]using hb');exact⟨this.1.imp (λh=>by simpa[aE.cH]using h) id,this.2⟩
structure Sl where
 v:Value
 sz:Nat
 n:Nat
 xs:List Value
def Sl.ok(w:World)(q:Sl):Prop:=Ro w q.v q.sz q.n q.xs
def abK(l:List Sl):List Nat:=l.flatMap λq=>q.v.ownBlock.toList
def aiz(l:List Sl):aE:= .ext (abK l) λw=>∀q∈l,q.ok w
end
end Go.Bw
namespace Go.Bw
open Go Go.RowKit
def IntKind.up(k:IntKind):Nat:=if k.signed then k.bits-1 else k.bits
theorem Xx{k:IntKind}{r:Nat}(h:r<2^IntKind.up k):k.wrap (r:Int)=r:=by
 cases k<;>simp only[IntKind.up,IntKind.signed,IntKind.bits,if_true,Bool.false_eq_true,if_false]at h<;>
  simp[IntKind.wrap,IntKind.signed,IntKind.bits]at h ⊢<;>omega
theorem ZJ(k:IntKind):IntKind.up k<=k.bits:=by cases k<;>simp[IntKind.up,IntKind.signed,IntKind.bits]
section
variable {P:Program} {N:Nat} {c:Cx} {F:eu} {H:List aE} {d:Option Tmp} {ty:TypeId} {p:String} {af:Array Edge} {g:Option (Nat×Bool)} {x y:Operand} {k:IntKind} {T U:TypeId}
theorem JE{x y:Operand}{T len e sz q m:Nat}{i:Int}{k:IntKind}{cs us:List Value}[hT:so P T len e sz][hA:tY P e q](hx:ev F x=some (.agg cs.toArray))(hy:ev F y=some (.int k i))(hi:i=(m:Int))(hm:m<len)
  (hv:(cs.drop (m*sz)).take sz=us):VS P N c ⟨d, .index T x y,ty,p,af,g⟩ F H (.agg us.toArray):=
 aG (by simp) λa w hf _ _ =>by
  obtain⟨inf,h1,h2,h3⟩:=so.get hT.ok;subst hi;have hs:(sizeOf e).run P w= .ok sz w:=by simp[sizeOf,typeInfo,h2,h3]
  have hag:(isAgg e).run P w= .ok true w:=ta w;have he:cs.toArray.extract (m*sz) (m*sz+sz)=us.toArray:=by apply Array.ext';rw[← hv];simp[List.extract_eq_take_drop,Nat.add_sub_cancel_left]
  have hp:(part e cs.toArray (m*sz)).run P w= .ok (.agg us.toArray) w:=by unfold part;rw[Sem.run_bind,hag];simp only[Result.andThen_ok,if_true,Sem.run_bind,hs,Sem.run_pure,he]
  simp[execOp,aI hf hx,aI hf hy,Instr.index,asIntOf,run_underlying h1,hm,hs,hp]
theorem JF{x y:Operand}{T len e sz m:Nat}{i:Int}{k:IntKind}{cs:List Value}{u:Value}[hT:so P T len e sz][hA:p8 P e](hx:ev F x=some (.agg cs.toArray))(hy:ev F y=some (.int k i))(hi:i=(m:Int))(hm:m<len)
  (hv:cs[m*sz]? =some u):VS P N c ⟨d, .index T x y,ty,p,af,g⟩ F H u:=
 aG (by simp) λa w hf _ _ =>by
  obtain⟨inf,h1,h2,h3⟩:=so.get hT.ok;subst hi;have hs:(sizeOf e).run P w= .ok sz w:=by simp[sizeOf,typeInfo,h2,h3]
  have hag:(isAgg e).run P w= .ok false w:=qZ w;have hp:(part e cs.toArray (m*sz)).run P w= .ok u w:=by simp[part,hag,hv]
  simp[execOp,aI hf hx,aI hf hy,Instr.index,asIntOf,run_underlying h1,hm,hs,hp]
end
end Go.Bw
namespace Go.Bw
open Go
def iD{α:Type}(g:Nat->α)(i:Nat)(v:α):Nat->α:=λj=>if j=i then v else g j
@[simp] theorem SU{α:Type}(g:Nat->α)(i:Nat)(v:α):iD g i v i=v:=by simp[iD]
theorem QD{α:Type}(g:Nat->α){i j:Nat}(v:α)(h:j≠i):iD g i v j=g j:=by simp[iD,h]
def flat(g:Nat->List Value):Nat->List Value
 |0=>[]
 |n+1=>flat g n++g n
theorem fM{g:Nat->List Value}{k:Nat}:∀{n:Nat},(∀i,i<n->(g i).length=k)->(flat g n).length=n*k:=by
 intro n
 induction n with
 |zero=>intro _;simp[flat]
 |succ n ih=>intro h;simp[flat,ih (λi hi=>h i (by omega)),h n (by omega),Nat.add_mul]
theorem tG{g g':Nat->List Value}:∀{n:Nat},(∀i,i<n->g i=g' i)->flat g n=flat g' n:=by
 intro n
 induction n with
 |zero=>intro _;rfl
 |succ n ih=>intro h;simp[flat,ih (λi hi=>h i (by omega)),h n (by omega)]
theorem qD{g:Nat->List Value}{k:Nat}:∀{n i j:Nat},(∀i,i<n->(g i).length=k)->i<n->j<k->(flat g n)[i*k+j]? =(g i)[j]? :=by
 intro n
 induction n with
 |zero=>intro i j _ hi;omega
 |succ n ih=>
  intro i j h hi hj;have hl:=fM (n:=n) (λi hi=>h i (by omega));by_cases e:i=n
  ·subst e
   rw[flat,List.getElem?_append_right (by omega),hl];congr 1;omega
  ·have:i*k+j<n*k:=by
    have h1:(i+1)*k<=n*k:=Nat.mul_le_mul_right k (by omega);rw[Nat.add_mul]at h1;omega
   rw[flat,List.getElem?_append_left (by omega)];exact ih (λi hi=>h i (by omega)) (by omega) hj
theorem vL{l m:List Value}(h:∀j:Nat,l[j]? =m[j]?):l=m:=List.ext_getElem? h
theorem s9{cs vs:List Value}{off:Nat}(h:off+vs.length<=cs.length):(bN cs off vs).length=cs.length:=by simp[bN];omega
theorem iq{cs vs:List Value}{off:Nat}(h:off+vs.length<=cs.length)(j:Nat):(bN cs off vs)[j]? =if off<=j/\j<off+vs.length then vs[j-off]? else cs[j]? :=by
 unfold bN;by_cases h1:j<off
 ·rw[aiN (by omega),List.append_assoc,List.getElem?_append_left (by simp;omega),List.getElem?_take,aiM h1]
 ·by_cases h2:j<off+vs.length
  ·rw[aiM (by omega),List.append_assoc,List.getElem?_append_right (by simp;omega),List.getElem?_append_left (by simp;omega)]
   congr 1;simp;omega
  ·rw[aiN (by omega),List.getElem?_append_right (by simp;omega),List.getElem?_drop]
   congr 1;simp;omega
theorem uF{cs vs:List Value}{o off k:Nat}(h1:off+vs.length<=k)(h2:o+k<=cs.length):((bN cs (o+off) vs).drop o).take k=bN ((cs.drop o).take k) off vs:=by
 apply List.ext_getElem?;intro q;have hl:off+vs.length<=((cs.drop o).take k).length:=by simp only[List.length_take,List.length_drop];omega
 rw[List.getElem?_take,iq hl,List.getElem?_drop,iq (by omega)];by_cases hq:q<k
 ·rw[aiM hq]
  by_cases hi:off<=q/\q<off+vs.length
  ·rw[aiM (by omega),aiM hi,show o+q-(o+off)=q-off by omega]
  ·rw[aiN (by omega),aiN hi,List.getElem?_take,aiM hq,List.getElem?_drop]
 ·rw[aiN hq,aiN (by omega),List.getElem?_take,aiN hq]
theorem B6{p q vs:List Value}{off:Nat}:bN (p++q) (p.length+off) vs=p++bN q off vs:=by
 unfold bN;have h1:(p++q).take (p.length+off)=p++q.take off:=by simp[List.take_append,List.take_of_length_le (show p.length<=p.length+off by omega)]
 have h2:(p++q).drop (p.length+off+vs.length)=q.drop (off+vs.length):=by rw[Nat.add_assoc,List.drop_append,List.drop_eq_nil_of_le (by omega)];simp
 rw[h1,h2];simp
theorem LF{p q vs:List Value}{off:Nat}(h:off+vs.length<=p.length):bN (p++q) off vs=bN p off vs++q:=by unfold bN;rw[List.take_append_of_le_length (by omega),List.drop_append_of_le_length h];simp
theorem Ms{g:Nat->List Value}{k n i:Nat}{vs:List Value}(h:∀i,i<n->(g i).length=k)(hi:i<n)(hv:vs.length=k):bN (flat g n) (i*k) vs=flat (iD g i vs) n:=by
 have hl:=fM (n:=n) h;have h':∀j,j<n->(iD g i vs j).length=k:=λj hj=>by by_cases e:j=i<;>simp[iD,e,hv,h j hj]
 have hl':=fM (n:=n) h';have hb:(i+1)*k<=n*k:=Nat.mul_le_mul_right k (by omega);rw[Nat.add_mul]at hb;refine vL λj=>?_;rw[iq (by omega)];by_cases hj:j<n*k
 ·have hk:0<k:=by
   rcases Nat.eq_zero_or_pos k with h0|h0
   ·subst h0;omega
   ·exact h0
  have hd:j=j/k*k+j%k:=by rw[Nat.mul_comm];exact(Nat.div_add_mod j k).symm
  have hm:=Nat.mod_lt j hk;have hq:j/k<n:=Nat.div_lt_of_lt_mul (by rw[Nat.mul_comm];exact hj);by_cases e:j/k=i
  ·rw[aiM (by subst e;omega)]
   rw[hd,qD h' hq hm,e,SU];congr 1;subst e;omega
  ·rw[aiN]
   ·rw[hd,qD h' hq hm,qD h hq hm,QD _ _ e]
   ·rintro⟨h1,h2⟩
    apply e;have:i<=j/k:=(Nat.le_div_iff_mul_le hk).2 h1;have:j/k<i+1:=(Nat.div_lt_iff_lt_mul hk).2 (by rw[Nat.add_mul];omega);omega
 ·rw[aiN (by omega),List.getElem?_eq_none (by omega),List.getElem?_eq_none (by omega)]
theorem Rr{g:Nat->List Value}{k n i:Nat}{t:List Value}(h:∀i,i<n->(g i).length=k)(hi:i<n):((flat g n++t).drop (i*k)).take k=g i:=by
 have hl:=fM (n:=n) h;have hb:(i+1)*k<=n*k:=Nat.mul_le_mul_right k (by omega);rw[Nat.add_mul]at hb;refine vL λj=>?_;rw[List.getElem?_take,List.getElem?_drop];by_cases hj:j<k
 ·rw[aiM hj,List.getElem?_append_left (by omega),qD h hi hj]
 ·rw[aiN hj,List.getElem?_eq_none (by rw[h i hi];omega)]
theorem oy.app{a b:List Value}(ha:oy a)(hb:oy b):oy (a++b):=λv hv=>(List.mem_append.1 hv).elim (ha v) (hb v)
theorem iF{vs:List Value}(h:vs.all (·.oneCell')=true):oy vs:=λv hv=>List.all_eq_true.1 h v hv
theorem oy.flat{g:Nat->List Value}:∀{n:Nat},(∀i,i<n->oy (g i))->oy (flat g n):=by
 intro n
 induction n with
 |zero=>intro _ v hv;simp[Bw.flat]at hv
 |succ n ih=>intro h;exact(ih λi hi=>h i (by omega)).app (h n (by omega))
end Go.Bw
namespace Go.Bw
open Go Go.RowKit
def Rnd(P:Program)(l:Nat)(bs0:List Nat)(w1:World)(J:Nat->List Nat->World->Prop)(Jx:List Nat->World->Prop)(tT:Nat->List Value)(n:Nat):Prop:=∀k,k<n->∀W bs,aO bs0 w1 W->(∀b∈bs,(b∈bs0\/w1.heap.size<=b)/\b<W.heap.size)->(aE.ext bs (J k bs)).holds W-> YieldAt (FA none) 0 P l (tT k).toArray W λe W'=>∃bs',(∀b∈bs',(b∈bs\/W.heap.size<=b)/\b<W'.heap.size)/\aO bs W W'/\ ((e= .returned (.bool true)/\(aE.ext bs' (J (k+1) bs')).holds W')\/(e= .returned (.bool false)/\(aE.ext bs' (Jx bs')).holds W'))
def aeT:List Nat->List Value->eu->eu
 |p::ps,v::vs,F=>aeT ps vs ((p,v)::F)
 |_,_,F=>F
theorem Yh:∀{ps:List Nat} {vs:List Value} {F:eu} {t:Array Value} {N:Nat},xV F t->t.size=N->ps.all (Nat.blt · N)=true->xV (aeT ps vs F) ((ps.zip vs).foldl (λt q=>t.setIfInBounds q.1 q.2) t)/\((ps.zip vs).foldl (λt q=>t.setIfInBounds q.1 q.2) t).size=N:=by
 intro ps
 induction ps with
 |nil=>intro vs F t N h hs _;cases vs<;>exact⟨h,hs⟩
 |cons p ps ih=>
  intro vs F t N h hs ha;cases vs with
  |nil=>exact⟨h,hs⟩
  |cons v vs=>simp only[List.all_cons,aiP]at ha;have h1:=xV.put (a:=⟨t,[]⟩) (d:=some p) (v:=v) (N:=N) h hs ha.1;exact ih h1 (by simpa using hs) ha.2
def adE(P:Program)(l:Nat)(body:Code)(R:Ending->World->Prop):Exit->Act->World->Prop:=Exit.then (λa₁ w₁=>∃w₂,(Instr.beginRound l).run P w₁= .ok () w₂/\body.wpIn (FA (some l)) 0 P (roundPost P l R) a₁ w₂) (λ_ _ _ =>False)
def WA(c':Cx)(JT JX:List Nat->World->Prop):Ending->World->Prop:=λe W'=>∃bs',(∀b∈bs',(b∈c'.bs\/c'.w0.heap.size<=b)/\b<W'.heap.size)/\aO c'.bs c'.w0 W'/\((e= .returned (.bool true)/\(aE.ext bs' (JT bs')).holds W')\/(e= .returned (.bool false)/\(aE.ext bs' (JX bs')).holds W'))
def JW{α:Type}(n0:Nat)(cb:List Nat)(p:α->Prop)(I:α->List aE):List Nat->World->Prop:=λbs W=>∃i,p i/\bC cb n0 (I i) W/\bs=bz (I i)
theorem aZ{H:List aE}{b:Nat}:b∈bz H↔∃r∈H,b∈r.cH:=by simp[bz]
theorem OO{α:Type}{n0:Nat}{cb:List Nat}{p:α->Prop}{I:α->List aE}{W:World}(i:α)(hp:p i)(h:bC cb n0 (I i) W):(aE.ext (bz (I i)) (JW n0 cb p I (bz (I i)))).holds W:=
 λ_ hs hb=>⟨i,hp,h.bU hs (λr hr b IB=>hb b (aZ.2 ⟨r,hr,IB⟩)) (λ_ o _ =>o),rfl⟩
theorem CB{bs:List Nat}{J:World->Prop}{W:World}(h:(aE.ext bs J).holds W):J W:=h W (Nat.le_refl _) λ_ _ =>rfl
section rules
variable {P:Program} {N:Nat} {c:Cx} {F:eu} {H H':List aE} {l:Nat} {body:Code} {R:Ending->World->Prop}
theorem St.pF{N:Nat}{D:List Deferred}{a:Act}{w:World}{b:Nat}{o o':Obj}(hst:St N c D F H a w)(ho:RZ H b o)(hs:RU H b o' H'):St N c D F H' a (w.putObj b o')/\w.heap[b]? =some o:=by
 have hm:=hst.hp.holds _ ho.mem;have hd:w.heap[b]? =some o:=hm;have hlt:=(aiU.1 hd).1;have iG:aO [b] w (w.putObj b o'):=⟨rfl,rfl,rfl,by simp[World.putObj],λk _ hk=>World.putObj_heap_other (by simpa using hk)⟩;refine⟨⟨hst.tm,hst.fr,hst.df,hst.si.store hst.hp ho.mem (by simp[aE.cH]) iG,?_⟩,hd⟩;obtain⟨k,o,hk,rfl⟩:=hs.ok;refine hst.hp.set hk iG.size (λj hj hne=>iG.block j hj hne) (World.putObj_heap_same hlt) hst.si.size (λb' hb=>?_);have e:b'=b:=by simpa[aE.cH]using hb
 subst e;exact⟨.inl (by simp[aE.cH]),by rw[World.putObj];simpa using hlt⟩
variable {α β:Type} {n0:Nat} {cb:List Nat} {p:α->Prop} {I:α->List aE} {px:β->Prop} {X:β->List aE}
theorem aO.aau{c':Cx}{H:List aE}{w:World}(hp:bC c'.bs c'.w0.heap.size H w){b:Nat}(hb:b∈bz H):(b∈c'.bs\/c'.w0.heap.size<=b)/\b<w.heap.size:=by obtain⟨r,hr,IB⟩:=aZ.1 hb;exact hp.own r hr b IB
end rules
end Go.Bw
namespace Go.Bw
open Go Go.RowKit
structure cP(α:Type) where
 n:Nat
 eI:(World->Prop)->List Value->α->Prop
 len:∀{J cs x},eI J cs x->cs.length=n
 one:∀{J cs x},eI J cs x->oy cs
 mono:∀{J J':World->Prop} {cs x},(∀w,J' w->J w)->eI J cs x->eI J' cs x
class bg{α:Type}(L:cP α) where
 enc:α->List Value
 iff:∀{J cs x},L.eI J cs x↔cs=enc x
def cP.enc{α:Type}(L:cP α)[bg L](x:α):List Value:=bg.enc L x
section
variable {α β γ S:Type}
theorem rp(L:cP α)[bg L](x:α):L.eI (λ_ =>True) (L.enc x) x:=bg.iff.2 rfl
theorem gX(L:cP α)[bg L](x:α):(L.enc x).length=L.n:=L.len (rp L x)
theorem CD(L:cP α)[bg L](x:α):oy (L.enc x):=L.one (rp L x)
def LI(k:IntKind):cP Int where
 n:=1
 eI _ cs x:=cs=[.int k x]
 len h:=by subst h;rfl
 one h:=by subst h;exact iF rfl
 mono _ h:=h
instance(k:IntKind):bg (LI k):=⟨λx=>[.int k x],Iff.rfl⟩
def LB:cP Bool where
 n:=1
 eI _ cs x:=cs=[.bool x]
 len h:=by subst h;rfl
 one h:=by subst h;exact iF rfl
 mono _ h:=h
instance:bg LB:=⟨λx=>[.bool x],Iff.rfl⟩
def LP(A:cP α)(B:cP β):cP (α×β) where
 n:=A.n+B.n
 eI J cs x:=∃c1 c2,cs=c1++c2/\A.eI J c1 x.1/\B.eI J c2 x.2
 len:=λ⟨c1,c2,h,h1,h2⟩=>by subst h;simp[A.len h1,B.len h2]
 one:=λ⟨c1,c2,h,h1,h2⟩=>by subst h;exact(A.one h1).app (B.one h2)
 mono m:=λ⟨c1,c2,h,h1,h2⟩=>⟨c1,c2,h,A.mono m h1,B.mono m h2⟩
instance(A:cP α)(B:cP β)[bg A][bg B]:bg (LP A B):=⟨λx=>A.enc x.1++B.enc x.2,by
 intro J cs x;constructor
 ·rintro⟨c1,c2,rfl,h1,h2⟩
  rw[bg.iff]at h1 h2;subst h1 h2;rfl
 ·intro h;exact⟨_,_,h,bg.iff.2 rfl,bg.iff.2 rfl⟩⟩
def cP.via(A:cP α)(f:S->α):cP S where
 n:=A.n
 eI J cs s:=A.eI J cs (f s)
 len h:=A.len h
 one h:=A.one h
 mono m h:=A.mono m h
instance(A:cP α)(f:S->α)[bg A]:bg (A.via f):=⟨λs=>A.enc (f s),bg.iff (L:=A)⟩
def LA(L:cP α)(m:Nat):cP (Nat->α) where
 n:=m*L.n
 eI J cs a:=∃cc:Nat->List Value,cs=flat cc m/\∀i,i<m->L.eI J (cc i) (a i)
 len:=λ⟨cc,h,h1⟩=>by subst h;exact fM λi hi=>L.len (h1 i hi)
 one:=λ⟨cc,h,h1⟩=>by subst h;exact oy.flat λi hi=>L.one (h1 i hi)
 mono m':=λ⟨cc,h,h1⟩=>⟨cc,h,λi hi=>L.mono m' (h1 i hi)⟩
instance(L:cP α)(m:Nat)[bg L]:bg (LA L m):=⟨λa=>flat (λi=>L.enc (a i)) m,by
 intro J cs a;constructor
 ·rintro⟨cc,rfl,h⟩
  exact tG λi hi=>bg.iff.1 (h i hi)
 ·intro h;exact⟨_,h,λi _ =>bg.iff.2 rfl⟩⟩
structure aX(L:cP α)(M:cP β)(o:Nat)(g:α->β)(s:α->β->α):Prop where
 get:∀{J cs x},L.eI J cs x->M.eI J ((cs.drop o).take M.n) (g x)
 set:∀{J cs x vs v},L.eI J cs x->M.eI J vs v->L.eI J (bN cs o vs) (s x v)
 le:o+M.n<=L.n
theorem aX.id{L:cP α}:aX L L 0 (λx=>x) (λ_ v=>v) where
 get h:=by rw[List.drop_zero,List.take_of_length_le (by rw[L.len h];exact Nat.le_refl _)];exact h
 set:=@λJ cs x vs v h hv=>by have:bN cs 0 vs=vs:=Nr (by rw[L.len h,L.len hv]);rw[this];exact hv
 le:=by omega
where Nr {cs vs:List Value} (h:cs.length=vs.length):bN cs 0 vs=vs:=by simp[bN, ← h]
theorem aX.fst{A:cP α}{B:cP β}{M:cP γ}{o:Nat}{g:α->γ}{s:α->γ->α}(p:aX A M o g s):aX (LP A B) M o (λx=>g x.1) (λx v=>(s x.1 v,x.2)) where
 get:=λ⟨c1,c2,h,h1,h2⟩=>by subst h;have hl:=A.len h1;have:=p.le;rw[List.drop_append_of_le_length (by omega),List.take_append_of_le_length (by simp;omega)];exact p.get h1
 set:=λ⟨c1,c2,h,h1,h2⟩ hv=>by subst h;have hl:=A.len h1;have:=p.le;exact⟨_,_,LF (by rw[M.len hv];omega),p.set h1 hv,h2⟩
 le:=by have:=p.le;show o+M.n<=A.n+B.n;omega
theorem aX.snd{A:cP α}{B:cP β}{M:cP γ}{o:Nat}{g:β->γ}{s:β->γ->β}(p:aX B M o g s):aX (LP A B) M (A.n+o) (λx=>g x.2) (λx v=>(x.1,s x.2 v)) where
 get:=λ⟨c1,c2,h,h1,h2⟩=>by subst h;have hl:=A.len h1;rw[← hl, ← List.drop_drop,List.drop_left];exact p.get h2
 set:=λ⟨c1,c2,h,h1,h2⟩ hv=>by subst h;have hl:=A.len h1;exact⟨c1,_,by rw[← hl];exact B6,h1,p.set h2 hv⟩
 le:=by have:=p.le;show A.n+o+M.n<=A.n+B.n;omega
theorem aX.via{A:cP α}{M:cP γ}{o:Nat}{g:α->γ}{s:α->γ->α}(p:aX A M o g s)(f:S->α)(g':S->γ)(s':S->γ->S)(o':Nat)(ho:o'=o)(hg:∀x,g' x=g (f x))(hs:∀x v,f (s' x v)=s (f x) v):aX (A.via f) M o' g' s' where
 get h:=by subst ho;rw[hg];exact p.get h
 set h hv:=by subst ho;show A.eI _ _ (f (s' _ _));rw[hs];exact p.set h hv
 le:=by subst ho;exact p.le
theorem aX.idx{L:cP α}{m:Nat}(i:Nat)(h:i<m){k:Nat}(hk:k=L.n):aX (LA L m) L (i*k) (λa=>a i) (λa v=>iD a i v) where
 get:=λ⟨cc,hc,h1⟩=>by subst hc hk;have:=Rr (g:=cc) (t:=[]) (λj hj=>L.len (h1 j hj)) h;rw[List.append_nil]at this;rw[this];exact h1 i h
 set:=@λJ cs x vs v hh hv=>by
  obtain⟨cc,hc,h1⟩:=hh;subst hc hk;refine⟨iD cc i vs,Ms (λj hj=>L.len (h1 j hj)) h (L.len hv),λj hj=>?_⟩;unfold iD;split
  ·exact hv
  ·exact h1 j hj
 le:=by subst hk;show i*L.n+L.n<=m*L.n;rw[← Nat.succ_mul];exact Nat.mul_le_mul_right _ h
theorem aX.comp{L:cP α}{M:cP β}{K:cP γ}{o1 o2:Nat}{g1:α->β}{s1:α->β->α}{g2:β->γ}{s2:β->γ->β}(p:aX L M o1 g1 s1)(q:aX M K o2 g2 s2):aX L K (o1+o2) (λx=>g2 (g1 x)) (λx v=>s1 x (s2 (g1 x) v)) where
 get h:=by have h2:=q.get (p.get h);have:=q.le;rw[List.drop_take,List.take_take,List.drop_drop,Nat.min_eq_left (by omega)]at h2;exact h2
 set:=@λJ cs x vs v h hv=>by
  have hl:=L.len h;have h2:=p.set h (q.set (p.get h) hv);have Mh:=K.len hv;have:=q.le;have:=p.le;have e:bN cs o1 (bN ((cs.drop o1).take M.n) o2 vs)=bN cs (o1+o2) vs:=by
   refine vL λj=>?_;have hm:=M.len (p.get h);have hlen:(bN ((cs.drop o1).take M.n) o2 vs).length=M.n:=by rw[s9 (by omega)];exact hm
   rw[iq (by omega),iq (cs:=cs) (vs:=vs) (by omega),hlen,Mh];by_cases h1:o1<=j/\j<o1+M.n
   ·rw[aiM h1,iq (by omega),Mh]
    by_cases h3:o1+o2<=j/\j<o1+o2+K.n
    ·rw[aiM h3,aiM (by omega),show j-o1-o2=j-(o1+o2)by omega]
    ·rw[aiN h3,aiN (by omega),List.getElem?_take,aiM (by omega),List.getElem?_drop,show o1+(j-o1)=j by omega]
   ·rw[aiN h1,aiN (by omega)]
  rw[e]at h2;exact h2
 le:=by have:=q.le;have:=p.le;omega
theorem aX.c0{L:cP α}{M:cP β}{K:cP γ}{o2:Nat}{g1:α->β}{s1:α->β->α}{g2:β->γ}{s2:β->γ->β}(p:aX L M 0 g1 s1)(q:aX M K o2 g2 s2):aX L K o2 (λx=>g2 (g1 x)) (λx v=>s1 x (s2 (g1 x) v)):=by have:=p.comp q;rwa[Nat.zero_add]at this
theorem aX.int{L:cP α}{k:IntKind}{o:Nat}{g:α->Int}{s:α->Int->α}(p:aX L (LI k) o g s){J cs x}(r:L.eI J cs x):cs[o]? =some (.int k (g x)):=by
 have h:(cs.drop o).take 1=[.int k (g x)]:=p.get r;have h2:((cs.drop o).take 1)[0]? =some (.int k (g x)):=by rw[h];rfl
 rw[List.getElem?_take,aiM (by decide),List.getElem?_drop]at h2;exact h2
theorem aX.bool{L:cP α}{o:Nat}{g:α->Bool}{s:α->Bool->α}(p:aX L LB o g s){J cs x}(r:L.eI J cs x):cs[o]? =some (.bool (g x)):=by
 have h:(cs.drop o).take 1=[.bool (g x)]:=p.get r;have h2:((cs.drop o).take 1)[0]? =some (.bool (g x)):=by rw[h];rfl
 rw[List.getElem?_take,aiM (by decide),List.getElem?_drop]at h2;exact h2
theorem aX.agg{L:cP α}{M:cP β}[bg L][bg M]{o:Nat}{g:α->β}{s:α->β->α}(p:aX L M o g s)(x:α):((L.enc x).drop o).take M.n=M.enc (g x):=bg.iff.1 (p.get (rp L x))
theorem aX.put{L:cP α}{M:cP β}[bg L][bg M]{o:Nat}{g:α->β}{s:α->β->α}(p:aX L M o g s)(x:α)(v:β):bN (L.enc x) o (M.enc v)=L.enc (s x v):=bg.iff.1 (p.set (rp L x) (rp M v))
end
section words
variable {α ρ:Type}
def lt(a:α)(f:α->Option ρ):Option ρ:=f a
def gu(b:Bool)(k:Option ρ):Option ρ:=bif b then k else none
def bd(m:Option α)(f:α->Option ρ):Option ρ:=m.bind f
def cn(b:Bool)(x y:Option ρ):Option ρ:=bif b then x else y
def cl(g:Bool)(m:Option α)(z:α)(f:α->Option ρ):Option ρ:=bif g then m.bind f else f z
def dg(i:Int)(n:Nat):Bool:=decide (0<=i)&&decide (i<(n:Int))
abbrev wr(k:IntKind)(n:Int):Int:=k.wrap n
def Ke(k:IntKind)(a b:Int):Int:=k.wrap (a*2^(min b.toNat k.bits))
def Ae(k:IntKind)(a b:Int):Int:=a.fdiv (2^(min b.toNat k.bits))
def rZ(k:IntKind)(a b:Int):Int:=k.wrap ((BitVec.ofInt k.bits a&&& BitVec.ofInt k.bits b).toNat:Int)
def orI(k:IntKind)(a b:Int):Int:=k.wrap ((BitVec.ofInt k.bits a|||BitVec.ofInt k.bits b).toNat:Int)
def Xp(k:IntKind)(a b:Int):Int:=k.wrap ((BitVec.ofInt k.bits a^^^BitVec.ofInt k.bits b).toNat:Int)
def zT(k:IntKind)(a b:Int):Int:=k.wrap ((BitVec.ofInt k.bits a&&& ~~~BitVec.ofInt k.bits b).toNat:Int)
theorem yN{a:α}{f:α->Option ρ}{r:ρ}(h:lt a f=some r):∃x,x=a/\f x=some r:=⟨a,rfl,h⟩
theorem o8{b:Bool}{k:Option ρ}{r:ρ}(h:gu b k=some r):b=true/\k=some r:=by cases b with|true=>exact⟨rfl,h⟩|false=>cases h
theorem rY{m:Option α}{f:α->Option ρ}{r:ρ}(h:bd m f=some r):∃x,m=some x/\f x=some r:=by cases m with|none=>cases h|some x=>exact⟨x,rfl,h⟩
theorem Ot{b:Bool}{x y:Option ρ}{r:ρ}(hb:b=true)(h:cn b x y=some r):x=some r:=by subst hb;exact h
theorem Ou{b:Bool}{x y:Option ρ}{r:ρ}(hb:b=false)(h:cn b x y=some r):y=some r:=by subst hb;exact h
theorem Zz{g:Bool}{m:Option α}{z:α}{f:α->Option ρ}{r:ρ}(h:cl g m z f=some r):∃x,(g=true->m=some x)/\(g=false->x=z)/\f x=some r:=by
 cases g with
 |true=>obtain⟨x,h1,h2⟩:=rY h;exact⟨x,λ_ =>h1,nofun,h2⟩
 |false=>exact⟨z,nofun,λ_ =>rfl,h⟩
theorem bW{i:Int}{n:Nat}(h:dg i n=true):i=(i.toNat:Int)/\i.toNat<n:=by simp[dg]at h;omega
theorem GL{g p:Bool}(h:(!g||p)=true)(hg:g=true):p=true:=by subst hg;simpa using h
theorem aaN{i:Int}(h:decide (0<=i)=true):0<=i:=by simpa using h
end words
section
variable {α1 ρ:Type}
def iw(B:(α1->Option ρ)->α1->Option ρ):Nat->α1->Option ρ
 |0,_ =>none
 |n+1,a1=>B (iw B n) a1
theorem aff{lb B:(α1->Option ρ)->α1->Option ρ}(e:lb=B){m:Nat}{a1:α1}{r:ρ}(h:iw lb m a1=some r):∃m',m=m'+1/\B (iw lb m') a1=some r:=by
 subst e;cases m with
 |zero=>cases h
 |succ m=>exact⟨m,rfl,h⟩
theorem afk{j B:α1->Option ρ}(e:j=B){a1:α1}{r:ρ}(h:j a1=some r):B a1=some r:=e▸h
theorem Q8{B:(α1->Option ρ)->α1->Option ρ}(I:α1->Prop)(μ:α1->Nat)(Q:Option ρ->Prop)(hB:∀k a1,I a1->(∀b1,I b1->μ b1<μ a1->Q (k b1))->Q (B k a1)):∀n a1,I a1->μ a1<n->Q (iw B n a1):=by
 intro n
 induction n with
 |zero=>intro a1 _ h;exact absurd h (Nat.not_lt_zero _)
 |succ n ih=>intro a1 hi hm;exact hB _ a1 hi λb1 hj hl=>ih b1 hj (by omega)
end
section
variable {α1 α2 ρ:Type}
def eS(B:(α1->α2->Option ρ)->α1->α2->Option ρ):Nat->α1->α2->Option ρ
 |0,_,_ =>none
 |n+1,a1,a2=>B (eS B n) a1 a2
theorem L8{B:(α1->α2->Option ρ)->α1->α2->Option ρ}{n:Nat}{a1:α1}{a2:α2}{r:ρ}(h:eS B n a1 a2=some r):∃lb,lb=B/\eS lb n a1 a2=some r:=⟨B,rfl,h⟩
theorem Jn{lb B:(α1->α2->Option ρ)->α1->α2->Option ρ}(e:lb=B){m:Nat}{a1:α1}{a2:α2}{r:ρ}(h:eS lb m a1 a2=some r):∃m',m=m'+1/\B (eS lb m') a1 a2=some r:=by
 subst e;cases m with
 |zero=>cases h
 |succ m=>exact⟨m,rfl,h⟩
theorem zN{B:(α1->α2->Option ρ)->α1->α2->Option ρ}(I:α1->α2->Prop)(μ:α1->α2->Nat)(Q:Option ρ->Prop)(hB:∀k a1 a2,I a1 a2->(∀b1 b2,I b1 b2->μ b1 b2<μ a1 a2->Q (k b1 b2))->Q (B k a1 a2)):∀n a1 a2,I a1 a2->μ a1 a2<n->Q (eS B n a1 a2):=by
 intro n
 induction n with
 |zero=>intro a1 a2 _ h;exact absurd h (Nat.not_lt_zero _)
 |succ n ih=>intro a1 a2 hi hm;exact hB _ a1 a2 hi λb1 b2 hj hl=>ih b1 b2 hj (by omega)
end
section
variable {α1 α2 α3 ρ:Type}
def yO(B:(α1->α2->α3->Option ρ)->α1->α2->α3->Option ρ):Nat->α1->α2->α3->Option ρ
 |0,_,_,_ =>none
 |n+1,a1,a2,a3=>B (yO B n) a1 a2 a3
theorem afe{B:(α1->α2->α3->Option ρ)->α1->α2->α3->Option ρ}{n:Nat}{a1:α1}{a2:α2}{a3:α3}{r:ρ}(h:yO B n a1 a2 a3=some r):∃lb,lb=B/\yO lb n a1 a2 a3=some r:=⟨B,rfl,h⟩
theorem aaC{lb B:(α1->α2->α3->Option ρ)->α1->α2->α3->Option ρ}(e:lb=B){m:Nat}{a1:α1}{a2:α2}{a3:α3}{r:ρ}(h:yO lb m a1 a2 a3=some r):∃m',m=m'+1/\B (yO lb m') a1 a2 a3=some r:=by
 subst e;cases m with
 |zero=>cases h
 |succ m=>exact⟨m,rfl,h⟩
end
section
variable {α1 α2 α3 α4 ρ:Type}
def Pp(B:(α1->α2->α3->α4->Option ρ)->α1->α2->α3->α4->Option ρ):Nat->α1->α2->α3->α4->Option ρ
 |0,_,_,_,_ =>none
 |n+1,a1,a2,a3,a4=>B (Pp B n) a1 a2 a3 a4
theorem afd{lb B:(α1->α2->α3->α4->Option ρ)->α1->α2->α3->α4->Option ρ}(e:lb=B){m:Nat}{a1:α1}{a2:α2}{a3:α3}{a4:α4}{r:ρ}(h:Pp lb m a1 a2 a3 a4=some r):∃m',m=m'+1/\B (Pp lb m') a1 a2 a3 a4=some r:=by
 subst e;cases m with
 |zero=>cases h
 |succ m=>exact⟨m,rfl,h⟩
end
section
variable {α1 α2 α3 α4 α5 ρ:Type}
def xq(B:(α1->α2->α3->α4->α5->Option ρ)->α1->α2->α3->α4->α5->Option ρ):Nat->α1->α2->α3->α4->α5->Option ρ
 |0,_,_,_,_,_ =>none
 |n+1,a1,a2,a3,a4,a5=>B (xq B n) a1 a2 a3 a4 a5
theorem afc{lb B:(α1->α2->α3->α4->α5->Option ρ)->α1->α2->α3->α4->α5->Option ρ}(e:lb=B){m:Nat}{a1:α1}{a2:α2}{a3:α3}{a4:α4}{a5:α5}{r:ρ}(h:xq lb m a1 a2 a3 a4 a5=some r):∃m',m=m'+1/\B (xq lb m') a1 a2 a3 a4 a5=some r:=by
 subst e;cases m with
 |zero=>cases h
 |succ m=>exact⟨m,rfl,h⟩
theorem Jo{B:(α1->α2->α3->α4->α5->Option ρ)->α1->α2->α3->α4->α5->Option ρ}(I:α1->α2->α3->α4->α5->Prop)(μ:α1->α2->α3->α4->α5->Nat)(Q:Option ρ->Prop)(hB:∀k a1 a2 a3 a4 a5,I a1 a2 a3 a4 a5->(∀b1 b2 b3 b4 b5,I b1 b2 b3 b4 b5->μ b1 b2 b3 b4 b5<μ a1 a2 a3 a4 a5->Q (k b1 b2 b3 b4 b5))->Q (B k a1 a2 a3 a4 a5)):∀n a1 a2 a3 a4 a5,I a1 a2 a3 a4 a5->μ a1 a2 a3 a4 a5<n->Q (xq B n a1 a2 a3 a4 a5):=by
 intro n
 induction n with
 |zero=>intro a1 a2 a3 a4 a5 _ h;exact absurd h (Nat.not_lt_zero _)
 |succ n ih=>intro a1 a2 a3 a4 a5 hi hm;exact hB _ a1 a2 a3 a4 a5 hi λb1 b2 b3 b4 b5 hj hl=>ih b1 b2 b3 b4 b5 hj (by omega)
end
section
variable {α1 α2 α3 α4 α5 α6 ρ:Type}
def Po(B:(α1->α2->α3->α4->α5->α6->Option ρ)->α1->α2->α3->α4->α5->α6->Option ρ):Nat->α1->α2->α3->α4->α5->α6->Option ρ
 |0,_,_,_,_,_,_ =>none
 |n+1,a1,a2,a3,a4,a5,a6=>B (Po B n) a1 a2 a3 a4 a5 a6
theorem afb{lb B:(α1->α2->α3->α4->α5->α6->Option ρ)->α1->α2->α3->α4->α5->α6->Option ρ}(e:lb=B){m:Nat}{a1:α1}{a2:α2}{a3:α3}{a4:α4}{a5:α5}{a6:α6}{r:ρ}(h:Po lb m a1 a2 a3 a4 a5 a6=some r):∃m',m=m'+1/\B (Po lb m') a1 a2 a3 a4 a5 a6=some r:=by
 subst e;cases m with
 |zero=>cases h
 |succ m=>exact⟨m,rfl,h⟩
end
section
variable {α1 α2 α3 α4 α5 α6 α7 ρ:Type}
def vJ(B:(α1->α2->α3->α4->α5->α6->α7->Option ρ)->α1->α2->α3->α4->α5->α6->α7->Option ρ):Nat->α1->α2->α3->α4->α5->α6->α7->Option ρ
 |0,_,_,_,_,_,_,_ =>none
 |n+1,a1,a2,a3,a4,a5,a6,a7=>B (vJ B n) a1 a2 a3 a4 a5 a6 a7
theorem afa{lb B:(α1->α2->α3->α4->α5->α6->α7->Option ρ)->α1->α2->α3->α4->α5->α6->α7->Option ρ}(e:lb=B){m:Nat}{a1:α1}{a2:α2}{a3:α3}{a4:α4}{a5:α5}{a6:α6}{a7:α7}{r:ρ}(h:vJ lb m a1 a2 a3 a4 a5 a6 a7=some r):∃m',m=m'+1/\B (vJ lb m') a1 a2 a3 a4 a5 a6 a7=some r:=by
 subst e;cases m with
 |zero=>cases h
 |succ m=>exact⟨m,rfl,h⟩
end
section
variable {α1 α2 α3 α4 α5 α6 α7 α8 ρ:Type}
def GA(B:(α1->α2->α3->α4->α5->α6->α7->α8->Option ρ)->α1->α2->α3->α4->α5->α6->α7->α8->Option ρ):Nat->α1->α2->α3->α4->α5->α6->α7->α8->Option ρ
 |0,_,_,_,_,_,_,_,_ =>none
 |n+1,a1,a2,a3,a4,a5,a6,a7,a8=>B (GA B n) a1 a2 a3 a4 a5 a6 a7 a8
theorem ae9{lb B:(α1->α2->α3->α4->α5->α6->α7->α8->Option ρ)->α1->α2->α3->α4->α5->α6->α7->α8->Option ρ}(e:lb=B){m:Nat}{a1:α1}{a2:α2}{a3:α3}{a4:α4}{a5:α5}{a6:α6}{a7:α7}{a8:α8}{r:ρ}(h:GA lb m a1 a2 a3 a4 a5 a6 a7 a8=some r):∃m',m=m'+1/\B (GA lb m') a1 a2 a3 a4 a5 a6 a7 a8=some r:=by
 subst e;cases m with
 |zero=>cases h
 |succ m=>exact⟨m,rfl,h⟩
theorem Q7{B:(α1->α2->α3->α4->α5->α6->α7->α8->Option ρ)->α1->α2->α3->α4->α5->α6->α7->α8->Option ρ}(I:α1->α2->α3->α4->α5->α6->α7->α8->Prop)(μ:α1->α2->α3->α4->α5->α6->α7->α8->Nat)(Q:Option ρ->Prop)(hB:∀k a1 a2 a3 a4 a5 a6 a7 a8,I a1 a2 a3 a4 a5 a6 a7 a8->(∀b1 b2 b3 b4 b5 b6 b7 b8,I b1 b2 b3 b4 b5 b6 b7 b8->μ b1 b2 b3 b4 b5 b6 b7 b8<μ a1 a2 a3 a4 a5 a6 a7 a8->Q (k b1 b2 b3 b4 b5 b6 b7 b8))->Q (B k a1 a2 a3 a4 a5 a6 a7 a8)):∀n a1 a2 a3 a4 a5 a6 a7 a8,I a1 a2 a3 a4 a5 a6 a7 a8->μ a1 a2 a3 a4 a5 a6 a7 a8<n->Q (GA B n a1 a2 a3 a4 a5 a6 a7 a8):=by
 intro n
 induction n with
 |zero=>intro a1 a2 a3 a4 a5 a6 a7 a8 _ h;exact absurd h (Nat.not_lt_zero _)
 |succ n ih=>intro a1 a2 a3 a4 a5 a6 a7 a8 hi hm;exact hB _ a1 a2 a3 a4 a5 a6 a7 a8 hi λb1 b2 b3 b4 b5 b6 b7 b8 hj hl=>ih b1 b2 b3 b4 b5 b6 b7 b8 hj (by omega)
end
section
variable {α1 α2 α3 α4 α5 α6 α7 α8 α9 ρ:Type}
def Pn(B:(α1->α2->α3->α4->α5->α6->α7->α8->α9->Option ρ)->α1->α2->α3->α4->α5->α6->α7->α8->α9->Option ρ):Nat->α1->α2->α3->α4->α5->α6->α7->α8->α9->Option ρ
 |0,_,_,_,_,_,_,_,_,_ =>none
 |n+1,a1,a2,a3,a4,a5,a6,a7,a8,a9=>B (Pn B n) a1 a2 a3 a4 a5 a6 a7 a8 a9
theorem ae8{lb B:(α1->α2->α3->α4->α5->α6->α7->α8->α9->Option ρ)->α1->α2->α3->α4->α5->α6->α7->α8->α9->Option ρ}(e:lb=B){m:Nat}{a1:α1}{a2:α2}{a3:α3}{a4:α4}{a5:α5}{a6:α6}{a7:α7}{a8:α8}{a9:α9}{r:ρ}(h:Pn lb m a1 a2 a3 a4 a5 a6 a7 a8 a9=some r):∃m',m=m'+1/\B (Pn lb m') a1 a2 a3 a4 a5 a6 a7 a8 a9=some r:=by
 subst e;cases m with
 |zero=>cases h
 |succ m=>exact⟨m,rfl,h⟩
end
section
variable {α1 α2 α3 α4 α5 α6 α7 α8 α9 C0 ρ:Type}
def wG(B:(α1->α2->α3->α4->α5->α6->α7->α8->α9->C0->Option ρ)->α1->α2->α3->α4->α5->α6->α7->α8->α9->C0->Option ρ):Nat->α1->α2->α3->α4->α5->α6->α7->α8->α9->C0->Option ρ
 |0,_,_,_,_,_,_,_,_,_,_ =>none
 |n+1,a1,a2,a3,a4,a5,a6,a7,a8,a9,xX=>B (wG B n) a1 a2 a3 a4 a5 a6 a7 a8 a9 xX
theorem abX{lb B:(α1->α2->α3->α4->α5->α6->α7->α8->α9->C0->Option ρ)->α1->α2->α3->α4->α5->α6->α7->α8->α9->C0->Option ρ}(e:lb=B){m:Nat}{a1:α1}{a2:α2}{a3:α3}{a4:α4}{a5:α5}{a6:α6}{a7:α7}{a8:α8}{a9:α9}{xX:C0}{r:ρ}(h:wG lb m a1 a2 a3 a4 a5 a6 a7 a8 a9 xX=some r):∃m',m=m'+1/\B (wG lb m') a1 a2 a3 a4 a5 a6 a7 a8 a9 xX=some r:=by
 subst e;cases m with
 |zero=>cases h
 |succ m=>exact⟨m,rfl,h⟩
theorem GC{B:(α1->α2->α3->α4->α5->α6->α7->α8->α9->C0->Option ρ)->α1->α2->α3->α4->α5->α6->α7->α8->α9->C0->Option ρ}(I:α1->α2->α3->α4->α5->α6->α7->α8->α9->C0->Prop)(μ:α1->α2->α3->α4->α5->α6->α7->α8->α9->C0->Nat)(Q:Option ρ->Prop)(hB:∀k a1 a2 a3 a4 a5 a6 a7 a8 a9 xX,I a1 a2 a3 a4 a5 a6 a7 a8 a9 xX->(∀b1 b2 b3 b4 b5 b6 b7 b8 b9 OA,I b1 b2 b3 b4 b5 b6 b7 b8 b9 OA->μ b1 b2 b3 b4 b5 b6 b7 b8 b9 OA<μ a1 a2 a3 a4 a5 a6 a7 a8 a9 xX->Q (k b1 b2 b3 b4 b5 b6 b7 b8 b9 OA))->Q (B k a1 a2 a3 a4 a5 a6 a7 a8 a9 xX)):∀n a1 a2 a3 a4 a5 a6 a7 a8 a9 xX,I a1 a2 a3 a4 a5 a6 a7 a8 a9 xX->μ a1 a2 a3 a4 a5 a6 a7 a8 a9 xX<n->Q (wG B n a1 a2 a3 a4 a5 a6 a7 a8 a9 xX):=by
 intro n
 induction n with
 |zero=>intro a1 a2 a3 a4 a5 a6 a7 a8 a9 xX _ h;exact absurd h (Nat.not_lt_zero _)
 |succ n ih=>intro a1 a2 a3 a4 a5 a6 a7 a8 a9 xX hi hm;exact hB _ a1 a2 a3 a4 a5 a6 a7 a8 a9 xX hi λb1 b2 b3 b4 b5 b6 b7 b8 b9 OA hj hl=>ih b1 b2 b3 b4 b5 b6 b7 b8 b9 OA hj (by omega)
end
section
variable {α1 α2 α3 α4 α5 α6 α7 α8 α9 C0 Lq ρ:Type}
def wF(B:(α1->α2->α3->α4->α5->α6->α7->α8->α9->C0->Lq->Option ρ)->α1->α2->α3->α4->α5->α6->α7->α8->α9->C0->Lq->Option ρ):Nat->α1->α2->α3->α4->α5->α6->α7->α8->α9->C0->Lq->Option ρ
 |0,_,_,_,_,_,_,_,_,_,_,_ =>none
 |n+1,a1,a2,a3,a4,a5,a6,a7,a8,a9,xX,JC=>B (wF B n) a1 a2 a3 a4 a5 a6 a7 a8 a9 xX JC
theorem abW{lb B:(α1->α2->α3->α4->α5->α6->α7->α8->α9->C0->Lq->Option ρ)->α1->α2->α3->α4->α5->α6->α7->α8->α9->C0->Lq->Option ρ}(e:lb=B){m:Nat}{a1:α1}{a2:α2}{a3:α3}{a4:α4}{a5:α5}{a6:α6}{a7:α7}{a8:α8}{a9:α9}{xX:C0}{JC:Lq}{r:ρ}(h:wF lb m a1 a2 a3 a4 a5 a6 a7 a8 a9 xX JC=some r):∃m',m=m'+1/\B (wF lb m') a1 a2 a3 a4 a5 a6 a7 a8 a9 xX JC=some r:=by
 subst e;cases m with
 |zero=>cases h
 |succ m=>exact⟨m,rfl,h⟩
theorem Bc{B:(α1->α2->α3->α4->α5->α6->α7->α8->α9->C0->Lq->Option ρ)->α1->α2->α3->α4->α5->α6->α7->α8->α9->C0->Lq->Option ρ}(I:α1->α2->α3->α4->α5->α6->α7->α8->α9->C0->Lq->Prop)(μ:α1->α2->α3->α4->α5->α6->α7->α8->α9->C0->Lq->Nat)(Q:Option ρ->Prop)(hB:∀k a1 a2 a3 a4 a5 a6 a7 a8 a9 xX JC,I a1 a2 a3 a4 a5 a6 a7 a8 a9 xX JC->(∀b1 b2 b3 b4 b5 b6 b7 b8 b9 OA b11,I b1 b2 b3 b4 b5 b6 b7 b8 b9 OA b11->μ b1 b2 b3 b4 b5 b6 b7 b8 b9 OA b11<μ a1 a2 a3 a4 a5 a6 a7 a8 a9 xX JC->Q (k b1 b2 b3 b4 b5 b6 b7 b8 b9 OA b11))->Q (B k a1 a2 a3 a4 a5 a6 a7 a8 a9 xX JC)):∀n a1 a2 a3 a4 a5 a6 a7 a8 a9 xX JC,I a1 a2 a3 a4 a5 a6 a7 a8 a9 xX JC->μ a1 a2 a3 a4 a5 a6 a7 a8 a9 xX JC<n->Q (wF B n a1 a2 a3 a4 a5 a6 a7 a8 a9 xX JC):=by
 intro n
 induction n with
 |zero=>intro a1 a2 a3 a4 a5 a6 a7 a8 a9 xX JC _ h;exact absurd h (Nat.not_lt_zero _)
 |succ n ih=>intro a1 a2 a3 a4 a5 a6 a7 a8 a9 xX JC hi hm;exact hB _ a1 a2 a3 a4 a5 a6 a7 a8 a9 xX JC hi λb1 b2 b3 b4 b5 b6 b7 b8 b9 OA b11 hj hl=>ih b1 b2 b3 b4 b5 b6 b7 b8 b9 OA b11 hj (by omega)
end
section
variable {α1 α2 α3 α4 α5 α6 α7 α8 α9 C0 Lq α12 ρ:Type}
def KC(B:(α1->α2->α3->α4->α5->α6->α7->α8->α9->C0->Lq->α12->Option ρ)->α1->α2->α3->α4->α5->α6->α7->α8->α9->C0->Lq->α12->Option ρ):Nat->α1->α2->α3->α4->α5->α6->α7->α8->α9->C0->Lq->α12->Option ρ
 |0,_,_,_,_,_,_,_,_,_,_,_,_ =>none
 |n+1,a1,a2,a3,a4,a5,a6,a7,a8,a9,xX,JC,a12=>B (KC B n) a1 a2 a3 a4 a5 a6 a7 a8 a9 xX JC a12
theorem abV{lb B:(α1->α2->α3->α4->α5->α6->α7->α8->α9->C0->Lq->α12->Option ρ)->α1->α2->α3->α4->α5->α6->α7->α8->α9->C0->Lq->α12->Option ρ}(e:lb=B){m:Nat}{a1:α1}{a2:α2}{a3:α3}{a4:α4}{a5:α5}{a6:α6}{a7:α7}{a8:α8}{a9:α9}{xX:C0}{JC:Lq}{a12:α12}{r:ρ}(h:KC lb m a1 a2 a3 a4 a5 a6 a7 a8 a9 xX JC a12=some r):∃m',m=m'+1/\B (KC lb m') a1 a2 a3 a4 a5 a6 a7 a8 a9 xX JC a12=some r:=by
 subst e;cases m with
 |zero=>cases h
 |succ m=>exact⟨m,rfl,h⟩
end
section rules
variable {P:Program} {N:Nat} {c:Cx} {D:List Deferred} {Q:Exit->Act->World->Prop} {F:eu} {H:List aE} {d:Option Tmp} {ty:TypeId} {ps:String} {af:Array Edge} {g:Option (Nat×Bool)} {α β γ:Type}
theorem JD{x:Operand}{y z:Code}{t:Bool}(hc:ev F x=some (.bool t))(h1:t=true->WP P N c D y Q F H)(h0:t=false->WP P N c D z Q F H):WP P N c D (.cond x y z) Q F H:=by
 cases t with
 |true=>exact ZU hc (h1 rfl)
 |false=>exact Wh hc (h0 rfl)
theorem OD{o:Oper}{v v':Value}(h:VS P N c o F H v)(e:v=v'):VS P N c o F H v':=e▸h
theorem Z8{T U:TypeId}{x y:Operand}{k:IntKind}{a b:Int}(hx:ev F x=some (.int k a))(hy:ev F y=some (.int k b)):VS P N c ⟨d, .binOp .and T x y U,ty,ps,af,g⟩ F H (.int k (rZ k a b)):=Z7 hx hy rfl λ_ _ =>rfl
theorem Qn{T U:TypeId}{x y:Operand}{k k':IntKind}{a b:Int}(hx:ev F x=some (.int k a))(hy:ev F y=some (.int k' b))(h0:0<=b):VS P N c ⟨d, .binOp .shl T x y U,ty,ps,af,g⟩ F H (.int k (Ke k a b)):=adn hx hy h0 rfl
theorem Lb{T U:TypeId}{x y:Operand}{k k':IntKind}{a b:Int}(hx:ev F x=some (.int k a))(hy:ev F y=some (.int k' b))(h0:0<=b):VS P N c ⟨d, .binOp .shr T x y U,ty,ps,af,g⟩ F H (.int k (Ae k a b)):=adl hx hy h0 rfl
theorem D4{L:cP α}[bg L]{x:α}{k:IntKind}{o b t T:Nat}{y:Operand}{gg:α->Int}{s:α->Int->α}(p:aX L (LI k) o gg s)(hx:ev F y=some (dB b o))[rm H b T (L.enc x)][p8 P t]:VS P N c ⟨d, .load t y,ty,ps,af,g⟩ F H (.int k (gg x)):=r8 hx (p.int (rp L x))
theorem adv{L:cP α}[bg L]{x:α}{o b t T:Nat}{y:Operand}{gg:α->Bool}{s:α->Bool->α}(p:aX L LB o gg s)(hx:ev F y=some (dB b o))[rm H b T (L.enc x)][p8 P t]:VS P N c ⟨d, .load t y,ty,ps,af,g⟩ F H (.bool (gg x)):=r8 hx (p.bool (rp L x))
theorem kG{L:cP α}{M:cP β}[bg L][bg M]{x:α}{o b t T q:Nat}{y:Operand}{gg:α->β}{s:α->β->α}(p:aX L M o gg s)(hx:ev F y=some (dB b o))[rm H b T (L.enc x)][ht:tY P t q](hn:M.n=q):VS P N c ⟨d, .load t y,ty,ps,af,g⟩ F H (.agg (M.enc (gg x)).toArray):=by subst hn;exact EI hx (p.agg x) (gX _ _)
theorem vS{L:cP α}{M:cP β}[bg L][bg M]{x:α}{o b t T q:Nat}{y z:Operand}{gg:α->β}{s:α->β->α}{val:Value}{H':List aE}(p:aX L M o gg s)(v:β)(x':α)(e:x'=s x v)(hx:ev F y=some (dB b o))(hz:ev F z=some val)(hv:val.cells.toList=M.enc v)
  [rm H b T (L.enc x)][ht:RT P t q](hn:M.n=q)[Fg H b (L.enc x') H']:RX (α:=Unit) P N c ⟨d, .store t y z,ty,ps,af,g⟩ F H (λ_ =>True) (λ_ =>undef) (λ_ =>H'):=by
 subst hn;subst e;exact tP hx hz hv (gX _ _) (by rw[gX];exact p.le) (CD _ _) (p.put x v)
theorem nK(L:cP α)[bg L](x:α){y:Operand}{t:Nat}{val:Value}(hx:ev F y=some val)(hv:val.cells.toList=L.enc x):
  RX P N c ⟨d, .box t y,ty,ps,af,g⟩ F H (λ_ =>True) (λb=>dB b 0) (λb=> .cells b t (L.enc x)::H):=OJ hx hv
theorem vT{L:cP α}[bg L]{z:α}{t:Nat}(hz:jh P t (L.enc z)):
  RX P N c ⟨d, .alloc t,ty,ps,af,g⟩ F H (λ_ =>True) (λb=>dB b 0) (λb=> .cells b t (L.enc z)::H):=zq (hz:=hz)
end rules
end Go.Bw
namespace Go.Bw
open Go Go.RowKit
def Hs(R:List aE)(w:World):Prop:=∀r∈R,r.holds w/\∀b∈r.cH,b<w.heap.size
class zl(K:World->Prop):Prop where
 ok:∀w w',K w->aO [] w w'->K w'
instance adW(R:List aE):zl (Hs R):=⟨λw w' h hs r hr=>⟨aE.kB (h r hr).1 hs.size λb hb=>hs.block b ((h r hr).2 b hb) (by simp),λb hb=>Nat.lt_of_lt_of_le ((h r hr).2 b hb) hs.size⟩⟩
class HIn(A:World->Prop)(r:aE):Prop where
 ok:∀w,A w->r.holds w/\∀b∈r.cH,b<w.heap.size
instance(priority:=100) agA(r:aE)(R:List aE):HIn (Hs (r::R)) r:=⟨λ_ h=>h r (by simp)⟩
instance(priority:=50) ad3(r s:aE)(R:List aE)[h:HIn (Hs R) r]:HIn (Hs (s::R)) r:=⟨λw hw=>h.ok w λq hq=>hw q (by simp[hq])⟩
instance(priority:=30) aiy(A B:World->Prop)(r:aE)[h:HIn B r]:HIn (λw=>A w/\B w) r:=⟨λw hw=>h.ok w hw.2⟩
class Ent(A B:World->Prop):Prop where
 ok:∀w,A w->B w
theorem ent{A B:World->Prop}[h:Ent A B]:∀w,A w->B w:=h.ok
instance(priority:=100) agC(A:World->Prop):Ent A A:=⟨λ_ h=>h⟩
instance(priority:=80) agJ(A:World->Prop):Ent A (Hs []):=⟨λ_ _ _ h=>by simp at h⟩
instance(priority:=70) agD(A:World->Prop)(r:aE)(R:List aE)[h:HIn A r][k:Ent A (Hs R)]:Ent A (Hs (r::R)):=⟨λw hw q hq=>by
 rcases List.mem_cons.1 hq with rfl|hq
 ·exact h.ok w hw
 ·exact k.ok w hw q hq⟩
class Kn(c:Cx)(H:List aE)(A:World->Prop):Prop where
 ok:∀w,aO c.bs c.w0 w->bC c.bs c.w0.heap.size H w->A w
theorem kn{c:Cx}{H:List aE}{A:World->Prop}[h:Kn c H A]:∀w,aO c.bs c.w0 w->bC c.bs c.w0.heap.size H w->A w:=h.ok
theorem Et{c:Cx}{H:List aE}{w:World}(h:bC c.bs c.w0.heap.size H w):Hs H w:=λr hr=>⟨h.holds r hr,λb hb=>(h.own r hr b hb).2⟩
instance(priority:=80) aix(c:Cx)(H R:List aE)[h:Ent (Hs H) (Hs R)]:Kn c H (Hs R):=⟨λw _ h2=>h.ok w (Et h2)⟩
instance(priority:=80) agH(c:Cx)(H:List aE):Kn c H (λ_ =>True):=⟨λ_ _ _ =>trivial⟩
theorem ab4{c:Cx}{K:World->Prop}[hS:zl K](nr:c.bs=[])(hpre:K c.w0):∀H,Kn c H K:=λH=>⟨λw hs _ =>hS.ok c.w0 w hpre (by rw[nr]at hs;exact hs)⟩
section
variable {α β:Type}
def dU(L:cP α)[bg L](xs:List α):List Value:=(xs.map L.enc).flatten
theorem lX(L:cP α)[bg L](xs:List α):(dU L xs).length=xs.length*L.n:=by
 induction xs with
 |nil=>simp[dU]
 |cons x xs ih=>simp only[dU,List.map_cons,List.flatten_cons,List.length_append,List.length_cons,gX]at *;rw[ih,Nat.succ_mul];omega
theorem LM(L:cP α)[bg L](xs:List α):oy (dU L xs):=by intro v hv;simp only[dU,List.mem_flatten,List.mem_map]at hv;obtain⟨l,⟨x,_,rfl⟩,h⟩:=hv;exact CD L x v h
theorem qz(L:cP α)[bg L](xs ys:List α):dU L (xs++ys)=dU L xs++dU L ys:=by simp[dU]
theorem I7(L:cP α)[bg L](x:α):dU L [x]=L.enc x:=by simp[dU]
theorem Oi(g:Nat->List Value):∀n,flat g (n+1)=g 0++flat (λi=>g (i+1)) n:=by
 intro n
 induction n with
 |zero=>simp[flat]
 |succ n ih=>rw[flat,ih,flat,List.append_assoc]
theorem fP(L:cP α)[bg L][Inhabited α](xs:List α):dU L xs=(LA L xs.length).enc (λi=>xs.getD i default):=by
 show _ =flat (λi=>L.enc (xs.getD i default)) xs.length
 induction xs with
 |nil=>rfl
 |cons x xs ih=>rw[List.length_cons,Oi];simp only[dU,List.map_cons,List.flatten_cons]at *;rw[ih];rfl
theorem TC(L:cP α)[bg L](xs:List α)(l h:Nat)(hl:l<=h)(hh:h<=xs.length):((dU L xs).drop (l*L.n)).take ((h-l)*L.n)=dU L ((xs.drop l).take (h-l)):=by
 have e1:xs=xs.take l++((xs.drop l).take (h-l)++(xs.drop l).drop (h-l)):=by rw[List.take_append_drop,List.take_append_drop]
 have l1:(dU L (xs.take l)).length=l*L.n:=by rw[lX,List.length_take,Nat.min_eq_left (by omega)]
 have l2:(dU L ((xs.drop l).take (h-l))).length=(h-l)*L.n:=by rw[lX];congr 1;simp;omega
 conv=>lhs;rw[e1,qz,qz]
 rw[← l1,List.drop_left, ← l2,List.take_left]
theorem TA(L:cP α)[bg L][Inhabited α](xs:List α)(m:Nat)(y:α)(hm:m<xs.length):(LA L xs.length).enc (iD (λi=>xs.getD i default) m y)=dU L (xs.set m y):=by
 rw[fP,List.length_set];show flat _ _ =flat _ _;refine tG λi hi=>?_;congr 1;unfold iD;simp only[List.getD,List.getElem?_set];by_cases e:m=i
 ·subst e;simp[hm]
 ·simp[e,Ne.symm e]
structure Fz(A:World->Prop)(v:Value)(L:cP α)[bg L](xs:List α):Prop where
 sl:su v xs.length
 ro:∀w,A w->Ro w v L.n xs.length (dU L xs)
theorem Fz.mono{A B:World->Prop}{v:Value}{L:cP α}[bg L]{xs:List α}(h:Fz A v L xs)(m:∀w,B w->A w):Fz B v L xs:=⟨h.sl,λw hw=>h.ro w (m w hw)⟩
theorem Fz.nil{A:World->Prop}{L:cP α}[bg L]{a:Option Addr}{cp:Nat}:Fz A (.slice a 0 cp) L ([]:List α):=⟨⟨_,_,rfl⟩,λ_ _ =>⟨by simp[dU], .inl ⟨⟨_,_,rfl⟩,rfl⟩⟩⟩
theorem Fz.at {c:Cx}{H:List aE}{A:World->Prop}{v:Value}{L:cP α}[bg L]{xs:List α}(h:Fz A v L xs)[k:Kn c H A]:pA c H v L.n xs.length (dU L xs):=⟨λw h1 h2=>h.ro w (k.ok w h1 h2)⟩
abbrev pE(v:Value)(e sz:Nat)(L:cP α)[bg L](xs:List α):aE:= .row v e sz xs.length (dU L xs)
theorem Fz.row{v:Value}{e sz:Nat}{L:cP α}[bg L]{xs:List α}(hs:sz=L.n)(h:su v xs.length):Fz (Hs [pE v e sz L xs]) v L xs:=⟨h,λw hw=>by
 subst hs;have h1:(pE v e L.n L xs).holds w:=(hw _ (List.mem_singleton.2 rfl)).1;exact Ro.uT (e:=e) h1⟩
theorem Ny(M:cP β)[bg M][Inhabited β](g:Nat->β)(m:Nat):dU M ((List.range m).map g)=flat (λi=>M.enc (g i)) m:=by rw[fP];show flat _ _ =_;rw[List.length_map,List.length_range];refine tG λi hi=>?_;simp[List.getD,hi]
theorem Fz.aeY{W:World}{v:Value}{L:cP α}[bg L][Inhabited α]{sz len:Nat}{g:Nat->α}(hs:sz=L.n)(hv:su v len)(h:Ro W v sz len (flat (λi=>L.enc (g i)) len)):Fz (λw=>aO [] W w) v L ((List.range len).map g):=by subst hs;refine⟨by simpa using hv,λw hw=>?_⟩;rw[Ny];have:=h.since hw;simpa using this
def LSl(L:cP α)[bg L]:cP (List α) where
 n:=1
 eI A cs xs:=∃v,cs=[v]/\Fz A v L xs
 len:=λ⟨v,h,_⟩=>by subst h;rfl
 one:=λ⟨v,h,hf⟩=>by subst h;intro u hu;rw[List.mem_singleton.1 hu];exact hf.sl.one
 mono m:=λ⟨v,h,hf⟩=>⟨v,h,hf.mono m⟩
theorem aX.sl{L:cP α}{M:cP β}[bg M]{o:Nat}{g:α->List β}{s:α->List β->α}(p:aX L (LSl M) o g s){A cs x}(r:L.eI A cs x):∃v,cs[o]? =some v/\Fz A v M (g x):=by
 obtain⟨v,h,hf⟩:=p.get r;refine⟨v,?_,hf⟩;have h2:((cs.drop o).take (LSl M).n)[0]? =some v:=by rw[h];rfl
 rw[List.getElem?_take,aiM (by show 0<1;decide),List.getElem?_drop]at h2;exact h2
end
section rules
variable {P:Program} {N:Nat} {c:Cx} {D:List Deferred} {Q:Exit->Act->World->Prop} {F:eu} {H:List aE} {d:Option Tmp} {ty:TypeId} {ps:String} {af:Array Edge} {g:Option (Nat×Bool)} {α β γ:Type}
section
variable {A:World->Prop} {v:Value} {L:cP α} [bg L] {xs:List α}
theorem r9{x:Operand}{t e q:Nat}[ht:se P t e q](hf:Fz A v L xs)(hx:ev F x=some v)[Kn c H A]:VS P N c ⟨d, .call ⟨.builtin .len, #[x], #[t]⟩,ty,ps,af,g⟩ F H (.int .i64 (xs.length:Int)):=by haveI:=hf.at (c:=c) (H:=H);exact OG hx
theorem zi{x y:Operand}{t e sz m:Nat}{k:IntKind}{i:Int}[ht:se P t e sz](hf:Fz A v L xs)(hs:L.n=sz)(hx:ev F x=some v)(hy:ev F y=some (.int k i))[Kn c H A](hi:i=(m:Int))(hm:m<xs.length):
  VS P N c ⟨d, .indexAddr t x y,ty,ps,af,g⟩ F H (fX v (m*sz)):=by
 haveI:=hf.at (c:=c) (H:=H);subst hs;exact wV hx hy hi hm
variable [Inhabited α]
theorem zU{k:IntKind}{o t:Nat}{y:Operand}{gg:(Nat->α)->Int}{s:(Nat->α)->Int->(Nat->α)}(hf:Fz A v L xs)(p:aX (LA L xs.length) (LI k) o gg s)(hx:ev F y=some (fX v o))[Kn c H A][p8 P t]:VS P N c ⟨d, .load t y,ty,ps,af,g⟩ F H (.int k (gg (λi=>xs.getD i default))):=by haveI:=hf.at (c:=c) (H:=H);exact EJ hx (by rw[fP];exact p.int (rp _ _))
end
def gC(n m b:Nat):Bool:=decide ((n+m)*b<=140737488355328/\n+m<=9223372036854775807)
theorem pX{n m b:Nat}(h:gC n m b=true):(n+m)*b<=140737488355328/\n+m<=9223372036854775807:=of_decide_eq_true h
section
variable {v:Value} {L:cP α} [bg L] {xs:List α} {t e sz bytes:Nat} {f:aE->List aE}
theorem Ll{s x:Operand}{b T cp:Nat}{y:α}[Lp P t e sz bytes](hs:ev F s=some v)[hr:tO H v e sz xs.length (dU L xs) f](hx:ev F x=some (.slice (some ⟨b,0,none⟩) 1 cp))[hc:rm H b T (L.enc y)](hn:L.n=sz)
  (M4:(xs.length+1)*bytes<=140737488355328)(h63:xs.length+1<=9223372036854775807):
  RX P N c ⟨d, .call ⟨.builtin .append, #[s,x], #[t,t]⟩,ty,ps,af,g⟩ F H (λv'=>su v' (xs++[y]).length) (λv'=>v') (λv'=>f (pE v' e sz L (xs++[y]))):=by
 have h:=RY (P:=P) (N:=N) (c:=c) (F:=F) (H:=H) (d:=d) (ty:=ty) (p:=ps) (af:=af) (g:=g) (t:=t) (m:=1) hs hx (by rw[gX,hn];omega) (CD L y) M4 h63 (hr:=hr) (hc:=hc);have e1:(xs++[y]).length=xs.length+1:=by simp
 have e2:dU L (xs++[y])=dU L xs++L.enc y:=by rw[qz,I7]
 unfold pE;rw[e1,e2];exact h
theorem aad{s x:Operand}{A:World->Prop}{u:Value}{ys:List α}[Lp P t e sz bytes](hf:Fz A u L ys)(hs:ev F s=some v)[hr:tO H v e sz xs.length (dU L xs) f](hx:ev F x=some u)[Kn c H A](hn:L.n=sz)
  (M4:(xs.length+ys.length)*bytes<=140737488355328)(h63:xs.length+ys.length<=9223372036854775807):
  RX P N c ⟨d, .call ⟨.builtin .append, #[s,x], #[t,t]⟩,ty,ps,af,g⟩ F H (λv'=>su v' (xs++ys).length) (λv'=>v') (λv'=>f (pE v' e sz L (xs++ys))):=by
 subst hn;have h:=wW (P:=P) (N:=N) (c:=c) (F:=F) (H:=H) (d:=d) (ty:=ty) (p:=ps) (af:=af) (g:=g) (t:=t) hs hx (hr:=hr) (hu:=hf.at) (LM L ys) M4 h63;have e1:(xs++ys).length=xs.length+ys.length:=by simp
 have e2:dU L (xs++ys)=dU L xs++dU L ys:=qz _ _ _;unfold pE;rw[e1,e2];exact h
theorem Lj{x:Operand}(L:cP α)[bg L](y:α){zs:List Value}{val:Value}[ht:se P t e sz][hz:jh P e zs](hx:ev F x=some val)(hc:val.cells.toList=L.enc y)(hl:L.n=sz)(hzl:zs.length=sz)(h0:0<sz)(hs:sz<=16777216):
  RX P N c ⟨d, .buildSlice t 1 #[(0,x)],ty,ps,af,g⟩ F H (λ_ =>True) (λb=> .slice (some ⟨b,0,none⟩) 1 1) (λb=> .cells b e (L.enc y)::H):=HM hx hc (by rw[gX];exact hl) hzl h0 hs
end
theorem K9{x:Code}(e sz:Nat)(L:cP α)[bg L](h:WP P N c D x Q F (pE (.slice none 0 0) e sz L []::H)):WP P N c D x Q F H:=ZV e sz h
theorem Ql{x:Exit}(e sz:Nat)(L:cP α)[bg L](h:WQ N c D Q x F (pE (.slice none 0 0) e sz L []::H)):WQ N c D Q x F H:=ZR e sz h
abbrev FnB(P:Program)(f:Nat)(args:List Value)(K:World->Prop)(p:(World->Prop)->Value->Prop):Prop:=
 Fn (α:=Value×List Nat×(World->Prop)) P f args K [] (λx=>p (Hs [.ext x.2.1 x.2.2]) x.1) (λx=>x.1) (λx=>[.ext x.2.1 x.2.2])
theorem VI{bs:List Nat}{n0:Nat}{w:World}{R H':List aE}(h:bC bs n0 (R++H') w):bC bs n0 (.ext (bz R) (Hs R)::H') w:=by
 have hp:=List.pairwise_append.1 h.apart;refine⟨λr hr=>?_,λr hr b hb=>?_,?_⟩
 ·rcases List.mem_cons.1 hr with rfl|hr
  ·intro w' h1 h2 q hq
   have C5:=h.holds q (aiT _ hq);exact⟨aE.kB C5 h1 λb hb=>h2 b (aZ.2 ⟨q,hq,hb⟩),λb hb=>Nat.lt_of_lt_of_le (h.own q (aiT _ hq) b hb).2 h1⟩
  ·exact h.holds r (aiS _ hr)
 ·rcases List.mem_cons.1 hr with rfl|hr
  ·obtain⟨q,hq,hb⟩:=aZ.1 hb;exact h.own q (aiT _ hq) b hb
  ·exact h.own r (aiS _ hr) b hb
 ·refine List.pairwise_cons.2 ⟨λs hs b hb nr=>?_,hp.2.1⟩
  obtain⟨q,hq,hb⟩:=aZ.1 hb;exact hp.2.2 q hq s hs b hb nr
theorem D1{e:Exit}{R H':List aE}{ks:List Nat}(hk:pick H ks=some (R++H'))(hn:ks.Nodup)(h:WQ N c D Q e F (.ext (bz R) (Hs R)::H')):WQ N c D Q e F H:=V0 (λ_ _ _ hp=>VI (hp.pick hk hn)) h
instance(priority:=60) agI(bs:List Nat)(R:List aE)(r:aE)(S:List aE)[h:HIn (Hs R) r]:HIn (Hs (.ext bs (Hs R)::S)) r:=⟨λw hw=>h.ok w (CB (hw (.ext bs (Hs R)) (by simp)).1)⟩
end rules
end Go.Bw
namespace Go.Bw
open Go Go.RowKit
section rules
variable {P:Program} {N:Nat} {c:Cx} {D:List Deferred} {Q:Exit->Act->World->Prop} {F:eu} {H:List aE} {d:Option Tmp} {ty:TypeId} {ps:String} {af:Array Edge} {g:Option (Nat×Bool)} {α β γ:Type}
def Hp(P:Program)(t n e sz:Nat):Bool:=match P.underlying t with
 |some (.pointer a)=>Hr P a n e sz
 |_ =>false
theorem DV{t n e sz:Nat}(h:Hp P t n e sz=true):∃a i,P.underlying t=some (.pointer a)/\P.underlying a=some (.array n e)/\P.info? e=some i/\i.size=sz:=by
 unfold Hp at h;split at h
 ·rename_i a h1
  obtain⟨i,h2,h3,h4⟩:=so.get h;exact⟨a,i,h1,h2,h3,h4⟩
 ·cases h
def Xa(b off l n sz:Nat):Value:= .slice (some (if n=l then⟨b,off,none⟩else⟨b,off+l*sz,none⟩)) (n-l) (n-l)
theorem MS{x hi:Operand}{t n e sz b off m:Nat}{k:IntKind}{i:Int}[ht:so P t n e sz](hx:ev F x=some (dB b off))(hhi:ev F hi=some (.int k i))(h1:i=(m:Int))(hm:m<=n):
  VS P N c ⟨d, .slice t x none (some hi) none,ty,ps,af,g⟩ F H (.slice (some ⟨b,off,none⟩) m n):=
 aG (by simp) λa w hf _ _ =>by obtain⟨inf,e1,e3,e4⟩:=so.get ht.ok;subst h1;have b1:=oh (P:=P) (k:=k) (w:=w) (code:= .sliceAlen) hm;simp[execOp,aI hf hx,aI hf hhi,Instr.sliceAt,run_underlying e1,Instr.sliceBounds,b1,sizeOf,typeInfo,e3,dB,Instr.sureAddr,asAddr,Addr.add]
theorem Wl{x lo:Operand}{t n e sz b off l:Nat}{k:IntKind}{i:Int}[ht:so P t n e sz](hx:ev F x=some (dB b off))(hlo:ev F lo=some (.int k i))(h1:i=(l:Int))(hl:l<=n):
  VS P N c ⟨d, .slice t x (some lo) none none,ty,ps,af,g⟩ F H (Xa b off l n sz):=
 aG (by simp) λa w hf _ _ =>by obtain⟨inf,e1,e3,e4⟩:=so.get ht.ok;subst h1;have b1:=oh (P:=P) (k:=k) (w:=w) (code:= .sliceB) hl;simp[execOp,aI hf hx,aI hf hlo,Instr.sliceAt,run_underlying e1,Instr.sliceBounds,b1,sizeOf,typeInfo,e3,e4,dB,Instr.sureAddr,asAddr,Xa,Addr.add_lit]
theorem RN{x:Operand}{t n e sz b off:Nat}[ht:so P t n e sz](hx:ev F x=some (dB b off)):
  VS P N c ⟨d, .slice t x none none none,ty,ps,af,g⟩ F H (.slice (some ⟨b,off,none⟩) n n):=
 aG (by simp) λa w hf _ _ =>by obtain⟨inf,e1,e3,e4⟩:=so.get ht.ok;simp[execOp,aI hf hx,Instr.sliceAt,run_underlying e1,Instr.sliceBounds,sizeOf,typeInfo,e3,e4,dB,Instr.sureAddr,asAddr,Addr.add]
theorem MR{x hi:Operand}{t n e sz b off m:Nat}{k:IntKind}{i:Int}(ht:Hp P t n e sz=true)(hx:ev F x=some (dB b off))(hhi:ev F hi=some (.int k i))(h1:i=(m:Int))(hm:m<=n):
  VS P N c ⟨d, .slice t x none (some hi) none,ty,ps,af,g⟩ F H (.slice (some ⟨b,off,none⟩) m n):=
 aG (by simp) λa w hf _ _ =>by obtain⟨ar,inf,e1,e2,e3,e4⟩:=DV ht;subst h1;have b1:=oh (P:=P) (k:=k) (w:=w) (code:= .sliceAlen) hm;simp[execOp,aI hf hx,aI hf hhi,Instr.sliceAt,run_underlying e1,run_underlying e2,Instr.slice,Instr.sliceBounds,b1,sizeOf,typeInfo,e3,dB,Instr.sureAddr,asAddr,Addr.add]
theorem Wk{x lo:Operand}{t n e sz b off l:Nat}{k:IntKind}{i:Int}(ht:Hp P t n e sz=true)(hx:ev F x=some (dB b off))(hlo:ev F lo=some (.int k i))(h1:i=(l:Int))(hl:l<=n):
  VS P N c ⟨d, .slice t x (some lo) none none,ty,ps,af,g⟩ F H (Xa b off l n sz):=
 aG (by simp) λa w hf _ _ =>by obtain⟨ar,inf,e1,e2,e3,e4⟩:=DV ht;subst h1;have b1:=oh (P:=P) (k:=k) (w:=w) (code:= .sliceB) hl;simp[execOp,aI hf hx,aI hf hlo,Instr.sliceAt,run_underlying e1,run_underlying e2,Instr.slice,Instr.sliceBounds,b1,sizeOf,typeInfo,e3,e4,dB,Instr.sureAddr,asAddr,Xa,Addr.add_lit]
theorem RM{x:Operand}{t n e sz b off:Nat}(ht:Hp P t n e sz=true)(hx:ev F x=some (dB b off)):
  VS P N c ⟨d, .slice t x none none none,ty,ps,af,g⟩ F H (.slice (some ⟨b,off,none⟩) n n):=
 aG (by simp) λa w hf _ _ =>by obtain⟨ar,inf,e1,e2,e3,e4⟩:=DV ht;simp[execOp,aI hf hx,Instr.sliceAt,run_underlying e1,run_underlying e2,Instr.slice,Instr.sliceBounds,sizeOf,typeInfo,e3,e4,dB,Instr.sureAddr,asAddr,Addr.add]
def cpA{β:Type}(i j n:Nat)(a:Nat->β):Nat->β:=λq=>if i<=q/\q<i+min (n-j) (n-i)then a (q-i+j)else a q
theorem Vk{f:Nat->List Value}(h:∀i,(f i).length=1){n q:Nat}:(flat f n)[q]? =if q<n then(f q)[0]? else none:=by
 by_cases hq:q<n
 ·rw[aiM hq]
  have:=qD (g:=f) (k:=1) (n:=n) (i:=q) (j:=0) (λi _ =>h i) hq (by decide);rwa[Nat.mul_one,Nat.add_zero]at this
 ·rw[aiN hq]
  exact List.getElem?_eq_none (by rw[fM (k:=1) (λi _ =>h i)];omega)
theorem Wu{A:World->Prop}{v:Value}{L:cP α}[bg L]{xs:List α}{x hi mx:Operand}{t e q:Nat}{k k':IntKind}[ht:se P t e q](hf:Fz A v L xs)(hx:ev F x=some v)(hh:ev F hi=some (.int k (xs.length:Int)))(hm:ev F mx=some (.int k' (xs.length:Int)))[Kn c H A]:
  VS P N c ⟨d, .slice t x none (some hi) (some mx),ty,ps,af,g⟩ F H (xy v):=by
 haveI:=hf.at (c:=c) (H:=H);exact Qs hx hh hm
def Sm(bs:List Nat)(K:World->Prop)(w:World):Prop:=∀w',aO bs w w'->K w'
class KnF(c:Cx)(R:List aE)(K:World->Prop):Prop where
 ok:∀w,aO c.bs c.w0 w->Hs R w->K w
instance(priority:=80) agy(c:Cx)(R:List aE):KnF c R (λ_ =>True):=⟨λ_ _ _ =>trivial⟩
instance(priority:=20) aiJ(c:Cx)(H:List aE)(K:World->Prop)[h:KnF c H K]:Kn c H K:=⟨λw h1 h2=>h.ok w h1 (Et h2)⟩
theorem YJ{c:Cx}{K:World->Prop}[hS:zl K](nr:c.bs=[])(hpre:K c.w0):∀R,KnF c R K:=λR=>⟨λw hs _ =>hS.ok c.w0 w hpre (by rw[nr]at hs;exact hs)⟩
abbrev FnC(P:Program)(f:Nat)(args:List Value)(K:World->Prop)(mE:List aE)(p:(World->Prop)->Value->List aE->Prop):Prop:=
 Fn (α:=Value×List aE×List Nat×(World->Prop)) P f args (Sm (bz mE) K) mE (λx=>p (Hs [.ext x.2.2.1 x.2.2.2]) x.1 x.2.1) (λx=>x.1) (λx=> .ext x.2.2.1 x.2.2.2::x.2.1)
theorem zo{α:Type}{x:Operand}{args:List Operand}{ats:Array TypeId}{f:Nat}{fst cap:Array Value}{us vs:List Value}{K:World->Prop}{mE rest:List aE}{p:α->Prop}{fv:α->Value}{fH:α->List aE}{ks:List Nat}
  (hc:Fn P f vs (Sm (bz mE) K) mE p fv fH)(hx:ev F x=some (.func (.func f) fst cap))(ha:C7 F args=some us)(hv:fst.toList++us++cap.toList=vs)(hkp:pick H ks=some (mE++rest))(hn:ks.Nodup)[hK:KnF c rest K]:
  RX P N c ⟨d, .call ⟨.value x,args.toArray,ats⟩,ty,ps,af,g⟩ F H p fv (λi=>fH i++rest):=λD a w next Q hst hk=>by
 refine⟨λ_ _ =>trivial,?_⟩;have hs:Oper.semAt (FA c.ro).round a.eval (⟨d, .call ⟨.value x,args.toArray,ats⟩,ty,ps,af,g⟩:Oper)=execOp a.eval ⟨d, .call ⟨.value x,args.toArray,ats⟩,ty,ps,af,g⟩:=Oper.semAt_eq _ _ _ (by simp);have hr:(execOp a.eval ⟨d, .call ⟨.value x,args.toArray,ats⟩,ty,ps,af,g⟩).run P w= .ok (.enter f vs.toArray) w:=by
  have e1:=aI hst.fr hx;have e2:=K3 hst.fr ha;have e3:fst++(args.toArray.map a.eval)++cap=vs.toArray:=by rw[← hv, ← e2];simp
  simp only[execOp,resolve,e1,Deferred.ofValue,Sem.run_bind,Sem.run_pure,Result.andThen_ok,invoke,e3];exact hc.enter _ _
 rw[hs,hr];refine⟨λh=>by simp at h,ju c.ro ?_⟩;have hp:=hst.hp.pick hkp hn;have hap:=List.pairwise_append.1 hp.apart;have hin:bC (bz mE) w.heap.size mE w:=⟨λr hr=>hp.holds r (aiT _ hr),λr hr b hb=>⟨.inl (aZ.2 ⟨r,hr,hb⟩),(hp.own r (aiT _ hr) b hb).2⟩,hap.1⟩;have hkeep:∀{w':World},aO (bz mE) w w'->∀r∈rest,r.holds w'/\∀b∈r.cH,b<w'.heap.size:=λhsi r hr=>by have hlt:∀b∈r.cH,b<w.heap.size:=λb hb=>(hp.own r (aiS _ hr) b hb).2;refine⟨aE.kB (hp.holds r (aiS _ hr)) hsi.size λb hb=>hsi.block b (hlt b hb) λhm=>?_,λb hb=>Nat.lt_of_lt_of_le (hlt b hb) hsi.size⟩;obtain⟨q,hq,U0⟩:=aZ.1 hm;exact hap.2.2 q hq r hr b U0 hb
 have hown:∀b∈bz mE,b∈c.bs\/c.w0.heap.size<=b:=λb hb=>by obtain⟨q,hq,U0⟩:=aZ.1 hb;exact(hp.own q (aiT _ hq) b U0).1
 have hpre:Sm (bz mE) K w:=λw' hsi=>hK.ok w' (hst.si.trans hsi hown) (hkeep hsi);have tD:=hc.calls w hpre hin;intro cs;obtain⟨e,w',fr,⟨i,YS,he,hsi,hh⟩,gP⟩:=tD cs;refine⟨e,w',fr,?_,gP⟩;subst he;have GO:=hkeep hsi;refine hk i w' YS (hst.si.trans hsi hown) ⟨λr hm=>?_,λr hm b hb=>?_,List.pairwise_append.2 ⟨hh.apart,hap.2.1,λr h1 s h2 b hb Pv=>?_⟩⟩
 ·rcases List.mem_append.1 hm with h1|h1
  ·exact hh.holds r h1
  ·exact(GO r h1).1
 ·rcases List.mem_append.1 hm with h1|h1
  ·obtain⟨o,l⟩:=hh.own r h1 b hb
   refine⟨?_,l⟩;rcases o with o|o
   ·exact hown b o
   ·exact .inr (Nat.le_trans hst.si.size o)
  ·exact⟨(hp.own r (aiS _ h1) b hb).1,(GO r h1).2 b hb⟩
 ·obtain⟨o,_⟩:=hh.own r h1 b hb
  rcases o with o|o
  ·obtain⟨q,hq,U0⟩:=aZ.1 o
   exact hap.2.2 q hq s h2 b U0 Pv
  ·have:=(hp.own s (aiS _ h2) b Pv).2
   omega
end rules
end Go.Bw
