/- Part 2 of what a proof leans on; pruned and shortened by a program out of longer texts. -/
import Derived.Test.YtjabpidfkmhbbabGreatDoorQ1
namespace Go.Bw
open Go Go.RowKit
theorem GV{F:cO}{x:Operand}{r:List Operand}{v:Value}{vs:List Value}(h:ev F x=some v)(hr:Bl F r=some vs):Bl F (x::r)=some (v::vs):=by simp[Bl,h,hr]
def dZ(v:Value)(k:Nat):Value:=match v with
 | .slice (some a) _ _ => .pointer (some ⟨a.block,a.off+k,none⟩)
 |_ =>undef
theorem Ro.rz{w:World}{v:Value}{e sz n:Nat}{xs:List Value}(h:(ay.row v e sz n xs).holds w):Ro w v sz n xs:=by
 have h':iv w e sz v n xs:=h;refine⟨h'.1,?_⟩;rcases h'.2 with h0|⟨g,o,cap,cur,h1,h3,h4,_,h5,h6⟩
 ·exact .inl ⟨⟨_,_,h0.1⟩,h0.2⟩
 ·refine .inr ⟨g,o,cap,h1,(acf.1 h3).1,h4,λj u hu=>?_⟩
  rw[cell_of_row w g (o+j) cur e (0,0) h3, ← Array.getElem?_toList];rw[← h6,List.getElem?_take]at hu;split at hu
  ·rwa[List.getElem?_drop]at hu
  ·cases hu
theorem Ro.at {w:World}{v:Value}{sz n m:Nat}{xs:List Value}(h:Ro w v sz n xs)(hm:m<n):∃g off cap,v= .slice (some ⟨g,off,none⟩) n cap/\g<w.heap.size/\n<=cap/\∀(j:Nat) u,xs[j]? =some u->w.cell? ⟨g,off+j,none⟩=some u:=by
 rcases h.2 with⟨_,h0⟩|h1
 ·omega
 ·exact h1
section
variable {P:Program} {N:Nat} {c:Cx} {F:cO} {H:List ay} {d:Option Tmp} {ty:TypeId} {p:String} {af:Array Edge} {g:Option (Nat×Bool)}
class mT(c:Cx)(H:List ay)(v:Value)(sz n:outParam Nat)(xs:outParam (List Value)):Prop where
 ro:∀w,aG c.bs c.w0 w->aX c.bs c.w0.heap.size H w->Ro w v sz n xs
theorem I2{x:Operand}{v:Value}{t e q sz n:Nat}{xs:List Value}[ht:sD P t e q](hx:ev F x=some v)[h:mT c H v sz n xs]:VS P N c ⟨d, .call ⟨.builtin .len, #[x], #[t]⟩,ty,p,af,g⟩ F H (.int .i64 n):=
 az (by simp) λa w hf hs hp=>by have hr:=h.ro w hs hp;obtain⟨inf,h1,_,_⟩:=sD.get ht.ok;rcases hr.2 with⟨⟨a0,cp,rfl⟩,rfl⟩|⟨g,off,cap,rfl,_⟩<;>simp[execOp,resolve,invoke,builtin,aA hf hx,Builtin.len_,goInt,run_underlying h1]
theorem tn{x y:Operand}{t e sz n:Nat}{v:Value}{xs:List Value}{k:IntKind}{i:Int}{m:Nat}[ht:sD P t e sz](hx:ev F x=some v)(hy:ev F y=some (.int k i))[h:mT c H v sz n xs](hi:i=(m:Int))(hm:m<n):
  VS P N c ⟨d, .indexAddr t x y,ty,p,af,g⟩ F H (dZ v (m*sz)):=
 az (by simp) λa w hf hs hp=>by obtain⟨g,off,cap,rfl,_,_,_⟩:=(h.ro w hs hp).at hm;obtain⟨inf,h1,h2,h3⟩:=sD.get ht.ok;subst hi;simp[execOp,aA hf hx,aA hf hy,Instr.indexAt,asIntOf,run_underlying h1,sizeOf,typeInfo,h2,h3,Addr.add_lit,dZ];intro hle;omega
theorem FT{x:Operand}{s f fo k m sz n:Nat}{v:Value}{xs:List Value}[BR P s f fo](hx:ev F x=some (dZ v k))[h:mT c H v sz n xs](hm:m<n):VS P N c ⟨d, .fieldAddr s x f,ty,p,af,g⟩ F H (dZ v (k+fo)):=
 az (by simp) λa w hf hs hp=>by obtain⟨g,off,cap,rfl,_,_,_⟩:=(h.ro w hs hp).at hm;have:=vh (P:=P) (s:=s) (f:=f) (b:=g) (off:=off+k) w;simp only[execOp,aA hf hx,dZ];simp[this,Nat.add_assoc]
theorem Bt{x:Operand}{t k sz n:Nat}{v u:Value}{xs:List Value}(hx:ev F x=some (dZ v k))[h:mT c H v sz n xs][nD P t](hv:xs[k]? =some u):VS P N c ⟨d, .load t x,ty,p,af,g⟩ F H u:=
 az (by simp) λa w hf hs hp=>by
  have hr:=h.ro w hs hp;have hl:=(List.getElem?_eq_some_iff.1 hv).1;have hn:0<n:=by
   rcases Nat.eq_zero_or_pos n with h0|h0
   ·subst h0;have:=hr.1;omega
   ·exact h0
  obtain⟨g,off,cap,rfl,_,_,h4⟩:=hr.at hn;have:=iA (P:=P) (t:=t) (a:=⟨g,off+k,none⟩) (h4 k u hv);simp[execOp,aA hf hx,dZ,Instr.loadAt,Instr.sureAddr,this]
theorem FR{x:Operand}{t k sz n q:Nat}{v:Value}{xs us:List Value}(hx:ev F x=some (dZ v k))[h:mT c H v sz n xs][qE P t q](hv:(xs.drop k).take q=us)(hq:us.length=q)(h0:0<q):VS P N c ⟨d, .load t x,ty,p,af,g⟩ F H (.agg us.toArray):=
 az (by simp) λa w hf hs hp=>by
  have hr:=h.ro w hs hp;have hl:0<xs.length:=by
   have:us.length<=xs.length:=by rw[← hv];simp;omega
   omega
  have hn:0<n:=by
   rcases Nat.eq_zero_or_pos n with h0|h0
   ·subst h0;have:=hr.1;omega
   ·exact h0
  obtain⟨g,off,cap,rfl,_,_,h4⟩:=hr.at hn;have:=iB (P:=P) (t:=t) (b:=g) (off:=off+k) (w:=w) hq (λj u hj=>by
   rw[← hv,List.getElem?_take]at hj;split at hj
   ·rw[List.getElem?_drop]at hj;rw[Nat.add_assoc];exact h4 _ u hj
   ·cases hj)
  simp[execOp,aA hf hx,dZ,Instr.loadAt,Instr.sureAddr,this]
theorem U6{x y:Operand}{k:IntKind}{a b:Int}{ats:Array TypeId}(hx:ev F x=some (.int k a))(hy:ev F y=some (.int k b)):VS P N c ⟨d, .call ⟨.builtin .min, #[x,y],ats⟩,ty,p,af,g⟩ F H (.int k (if b<a then b else a)):=
 az (by simp) λa' w hf _ _ =>by simp[execOp,resolve,invoke,builtin,aA hf hx,aA hf hy,Builtin.min_,Builtin.min2]
theorem U7{x y:Operand}{k:IntKind}{a b:Int}{ats:Array TypeId}(hx:ev F x=some (.int k a))(hy:ev F y=some (.int k b)):VS P N c ⟨d, .call ⟨.builtin .max, #[x,y],ats⟩,ty,p,af,g⟩ F H (.int k (if a<b then b else a)):=
 az (by simp) λa' w hf _ _ =>by simp[execOp,resolve,invoke,builtin,aA hf hx,aA hf hy,Builtin.max_,Builtin.max2]
def CH(P:Program)(t:Nat):Option (List (Nat×Nat)):=match P.underlying t with
 |some (.struct fs)=>fs.toList.mapM λf=>(P.info? f.type).map λi=>(f.offset,i.size)
 |_ =>none
def qV(pl:List (Nat×Nat)):List Value->List (Nat×Value)->Option (List Value)
 |cs,[]=>some cs
 |cs,(i,v)::r=>match pl[i]? with
  |none=>none
  |some (off,sz)=>if v.cells.size≠sz||decide (off+v.cells.size>cs.length)then none else qV pl (bh cs off v.cells.toList) r
class Vf(P:Program)(t:TypeId)(pl:outParam (List (Nat×Nat))):Prop where
 ok:CH P t=some pl
theorem KX(vs:List Value):∀(cs:Array Value) (off j:Nat),off+j+vs.length<=cs.size->((vs.zipIdx j).foldl (λ(cs:Array Value) (q:Value×Nat)=>cs.setIfInBounds (off+q.2) q.1) cs).toList=bh cs.toList (off+j) vs:=by
 induction vs with
 |nil=>intro cs off j h;simp[bh]
 |cons v r ih=>
  intro cs off j h;simp only[List.zipIdx_cons,List.foldl_cons];have hl:off+j+(r.length+1)<=cs.size:=h;rw[ih (cs.setIfInBounds (off+j) v) off (j+1) (by simp;omega)];refine List.ext_getElem? λm=>?_;have g:∀(ZL:List Value) (o:Nat) (us:List Value),o+us.length<=ZL.length->∀m:Nat,(bh ZL o us)[m]? =if o<=m/\m<o+us.length then us[m-o]? else ZL[m]? :=by
   intro ZL o us h m;unfold bh;by_cases h1:m<o
   ·rw[ab5 (by omega),List.append_assoc,List.getElem?_append_left (by simp;omega),List.getElem?_take,ab4 h1]
   ·by_cases h2:m<o+us.length
    ·rw[ab4 (by omega),List.append_assoc,List.getElem?_append_right (by simp;omega),List.getElem?_append_left (by simp;omega)]
     congr 1;simp;omega
    ·rw[ab5 (by omega),List.getElem?_append_right (by simp;omega),List.getElem?_drop]
     congr 1;simp;omega
  rw[g _ _ _ (by simp;omega),g _ _ _ (by simp;omega)];simp only[Array.toList_setIfInBounds,List.length_cons];by_cases e:m=off+j
  ·subst e
   rw[ab5 (by omega),ab4 (by omega)];have hc:off+j<cs.size:=by omega
   simp[hc]
  ·by_cases h1:off+(j+1)<=m/\m<off+(j+1)+r.length
   ·rw[ab4 h1,ab4 (by omega)]
    have:m-(off+j)=(m-(off+(j+1)))+1:=by omega
    rw[this,List.getElem?_cons_succ]
   ·rw[ab5 h1,ab5 (by omega)]
    rw[List.getElem?_set_ne (by omega)]
theorem s5{place:Nat->Option (Nat×Nat)}{pl:List (Nat×Nat)}(hp:∀i,place i=pl[i]?):∀(parts:List (Nat×Value)) (cs:Array Value) (out:List Value),qV pl cs.toList parts=some out->Instr.fill place cs parts=some out.toArray:=by
 intro parts
 induction parts with
 |nil=>intro cs out h;simp[qV]at h;simp[Instr.fill, ← h]
 |cons q r ih=>
  obtain⟨i,v⟩:=q;intro cs out h;simp only[qV]at h;simp only[Instr.fill,hp i];split at h
  ·cases h
  ·rename_i off sz Z4
   rw[Z4];simp only;split at h
   ·cases h
   ·rename_i hc
    simp only[Array.length_toList]at hc;rw[ab5 (by simpa using hc)];refine ih _ out ?_;have hle:off+v.cells.size<=cs.size:=by simp only[Bool.or_eq_true,decide_eq_true_eq,not_or]at hc;omega
    have:=KX v.cells.toList cs off 0 (by simpa using hle);rw[← h];congr 1;rw[Nat.add_zero]at this;rw[← this, ← Array.foldl_toList];simp only[Array.toList_zipIdx]
theorem H7{P:Program}{t:Nat}{pl:List (Nat×Nat)}[h:Vf P t pl](w:World):∃fs,P.underlying t=some (.struct fs)/\((fs.mapM (m:=Sem) λf=>do pure (f.offset, ← sizeOf f.type)).run P w= .ok pl.toArray w):=by
 have:=h.ok;unfold CH at this;split at this
 ·rename_i fs hu
  refine⟨fs,hu,?_⟩;have key:∀(l:List Field) (pl:List (Nat×Nat)),(l.mapM λf=>(P.info? f.type).map λi=>(f.offset,i.size))=some pl->(l.mapM (m:=Sem) λf=>do pure (f.offset, ← sizeOf f.type)).run P w= .ok pl w:=by
   intro l
   induction l with
   |nil=>intro pl h;simp at h;subst h;simp
   |cons f r ih=>
    intro pl h;cases hi:P.info? f.type with
    |none=>simp[hi]at h
    |some i=>
     simp only[List.mapM_cons,hi,Option.map_some,Option.pure_def,Option.bind_eq_bind,Option.bind_some]at h;cases hr:(r.mapM λf=>(P.info? f.type).map λi=>(f.offset,i.size))with
     |none=>simp[hr]at h
     |some q=>
      simp only[hr,Option.bind_some,Option.some.injEq]at h;subst h;have hs:(sizeOf f.type).run P w= .ok i.size w:=by simp[sizeOf,typeInfo,hi]
      simp only[List.mapM_cons,Sem.run_bind,hs,Result.andThen_ok,Sem.run_pure,ih q hr]
  have hk:=key _ _ this;have e:fs=fs.toList.toArray:=by simp
  rw[e,List.mapM_toArray];simp only[Sem.run_map,hk,Result.andThen_ok]
 ·cases this
theorem evp{F:cO}{a:Act}(hf:uG F a.tmps):∀{parts:List (Nat×Operand)} {vs:List Value},Bl F (parts.map (·.2))=some vs->parts.map (λq=>(q.1,a.eval q.2))=(parts.map (·.1)).zip vs:=by
 intro parts
 induction parts with
 |nil=>intro vs _;simp
 |cons q r ih=>
  intro vs h;simp only[List.map_cons,Bl]at h;split at h
  ·rename_i v us h1 h2
   rw[← Option.some.inj h];simp[aA hf h1,ih h2]
  ·cases h
theorem vY{t:Nat}{parts:List (Nat×Operand)}{vs zs cs:List Value}{pl:List (Nat×Nat)}[hz:gq P t zs][Z4:Vf P t pl](hv:Bl F (parts.map (·.2))=some vs)(hc:qV pl zs ((parts.map (·.1)).zip vs)=some cs):
  VS P N c ⟨d, .build t parts.toArray,ty,p,af,g⟩ F H (.agg cs.toArray):=
 az (by simp) λa w hf _ _ =>by
  obtain⟨i,z,h1,h2,h3⟩:=gq.get hz.ok;obtain⟨fs,h4,h5⟩:=H7 (P:=P) (t:=t) w;have h6:(zeroValue t).run P w= .ok z w:=by simp[zeroValue,typeInfo,h1,h2]
  have h7:=s5 (place:=λi=>(pl.toArray)[i]?) (pl:=pl) (by simp) ((parts.map (·.1)).zip vs) z.cells cs (by rw[h3];exact hc);have h8:=evp hf hv;simp only[execOp,Instr.build,Sem.run_bind,h6,Result.andThen_ok,run_underlying h4,h5];have h9:(Array.map (λx=>(x.fst,a.eval x.snd)) parts.toArray).toList=(parts.map (·.1)).zip vs:=by simpa using h8
  simp only[h9,h7];rfl
class qZ(H:List ay)(v:Value)(e sz n:outParam Nat)(xs:outParam (List Value))(f:outParam (ay->List ay)):Prop where
 ok:∃k,H[k]? =some (.row v e sz n xs)/\∀r,f r=H.set k r
instance(priority:=100) Vh(v e sz n xs)(H:List ay):qZ (.row v e sz n xs::H) v e sz n xs (λr=>r::H):=⟨⟨0,rfl,λ_ =>rfl⟩⟩
instance(priority:=50) SB(r:ay)(H:List ay)(v e sz n xs f)[h:qZ H v e sz n xs f]:qZ (r::H) v e sz n xs (λq=>r::f q):=
 ⟨by obtain⟨k,h1,h2⟩:=h.ok;exact⟨k+1,by simpa using h1,λq=>by simp[h2]⟩⟩
def JZ(P:Program)(t e sz bytes:Nat):Bool:=match P.underlying t,P.info? e with
 |some (.slice e'),some i=>Nat.beq e' e&&Nat.beq i.size sz&&Nat.beq i.bytes bytes&&(match i.zero with|some z=>Nat.beq z.cells.size sz|none=>false)&& !Nat.beq sz 0
 |_,_ =>false
class HF(P:Program)(t:TypeId)(e sz bytes:outParam Nat):Prop where
 ok:JZ P t e sz bytes=true
theorem HF.get{P:Program}{t e sz bytes:Nat}(h:JZ P t e sz bytes=true):∃i z,P.underlying t=some (.slice e)/\P.info? e=some i/\i.zero=some z/\i.size=sz/\i.bytes=bytes/\z.cells.size=sz/\0<sz:=by
 unfold JZ at h;split at h
 ·rename_i e' i h1 h2
  simp only[ab7,Bool.not_eq_true']at h;obtain⟨⟨⟨⟨a1,a2⟩,a3⟩,a4⟩,a5⟩:=h;cases hz:i.zero with
  |none=>simp[hz]at a4
  |some z=>simp only[hz]at a4;rw[ab6 a1]at h1;refine⟨i,z,h1,h2,hz,ab6 a2,ab6 a3,ab6 a4,Nat.pos_of_ne_zero λe0=>?_⟩;rw[e0]at a5;exact absurd a5 (by decide)
 ·cases h
theorem vi{P:Program}{t ty e sz bytes n m cp:Nat}{v:Value}{xs news:List Value}{w:World}{b off:Nat}[ht:HF P t e sz bytes](hown:iv w e sz v n xs)(hl:news.length=m*sz)
  (hn:∀(j:Nat) u,news[j]? =some u->w.cell? ⟨b,off+j,none⟩=some u)(h1:lI news)(JI:(n+m)*bytes<=140737488355328)(h63:n+m<=9223372036854775807):
  ∃v' w',(Builtin.append_ #[t,t] ty #[v, .slice (some ⟨b,off,none⟩) m cp]).run P w= .ok v' w'/\iv w' e sz v' (n+m) (xs++news)/\aG v.ownBlock.toList w w'/\
   (∀k,v'.ownBlock=some k->(v.ownBlock=some k\/w.heap.size<=k)/\k<w'.heap.size):=by
 obtain⟨i,z,e1,e2,e3,e4,e5,e6,e7⟩:=HF.get ht.ok;have hn':∀(j:Nat) u,news[j]? =some u->w.cell? ((⟨b,off,none⟩:Addr).add j)=some u:=λj u hj=>by rw[Addr.add_lit];exact hn j u hj
 have Hz:n+m<=maxLen:=by simp only[maxLen];omega
 rcases hown.2 with⟨rfl,rfl⟩|⟨gb,o,cap,cur,rfl,JK,hnc,ID,hcs,Bd⟩
 ·obtain⟨v',w',hr,hown',hg,_⟩:=run_append_own w w.heap.size t ty e i z sz bytes e1 e2 e3 e4 e5 e6 e7 (.slice none 0 0) 0 xs ⟨hown.1, .inl ⟨rfl,rfl⟩⟩ ⟨b,off,none⟩ m cp news hl hn' h1 Hz JI (Nat.le_refl _)
  exact⟨v',w',hr,zc hown',aG.rY hg,λk hk=>⟨.inr (hown'.lt k hk).1,(hown'.lt k hk).2⟩⟩
 ·subst e4
  subst e5;have hgs:=(acf.1 JK).1;by_cases hroom:n+m<=cap
  ·have hf:=run_firstCells_some (P:=P) w i.size m ⟨b,off,none⟩ m cp news hl hn'
   have hle:(n+m)*i.size<=cap*i.size:=Nat.mul_le_mul_right _ hroom;have hfit:o+n*i.size+news.length<=cur.size:=by rw[hl];rw[Nat.add_mul]at hle;omega
   have hst:=run_storeCells_at P gb (o+n*i.size) e news 0 cur w JK (by simpa using hfit) h1;simp only[Nat.add_zero]at hst;have hr:(Builtin.append_ #[t,t] ty #[.slice (some ⟨gb,o,none⟩) n cap, .slice (some ⟨b,off,none⟩) m cp]).run P w= .ok (.slice (some ⟨gb,o,none⟩) (n+m) cap) (w.setRow gb (cur.toList.take (o+n*i.size)++news++cur.toList.drop (o+n*i.size+news.length)).toArray):=by simp[Builtin.append_,run_underlying e1,sizeOf,typeInfo,e2,Builtin.lenOf,hroom,hf,Addr.add_lit,hst]
   refine⟨_,_,hr,⟨by rw[List.length_append,hown.1,hl,Nat.add_mul], .inr ⟨gb,o,cap,_,rfl,setRow_heap w gb cur _ e _ JK,hroom,ID,?_,?_⟩⟩,⟨rfl,rfl,rfl,by simp,λk _ hk=>setRow_other w gb k _ (by simpa[Value.ownBlock]using hk)⟩,λk hk=>⟨.inl hk,?_⟩⟩
   ·simp only[List.size_toArray,List.length_append,List.length_take,List.length_drop,Array.length_toList]
    omega
   ·have e8:(cur.toList.take (o+n*i.size)).drop o=xs:=by rw[List.drop_take,Nat.add_sub_cancel_left];exact Bd
    have e9:o<=(cur.toList.take (o+n*i.size)).length:=by rw[List.length_take,Array.length_toList];omega
    show(List.drop o ((cur.toList.take (o+n*i.size)++news)++cur.toList.drop (o+n*i.size+news.length))).take ((n+m)*i.size)=xs++news;rw[List.append_assoc,List.drop_append_of_le_length e9,e8, ← List.append_assoc];have e10:(xs++news).length=(n+m)*i.size:=by rw[List.length_append,hown.1,hl,Nat.add_mul]
    rw[← e10];exact List.take_left
   ·cases hk
    simpa using hgs
  ·have holds:∀(j:Nat) u,xs[j]? =some u->w.cell? ((⟨gb,o,none⟩:Addr).add j)=some u:=λj u hu=>by
    rw[Addr.add_lit,cell_of_row w gb (o+j) cur e (0,0) JK, ← Array.getElem?_toList];rw[← Bd,List.getElem?_take]at hu;split at hu
    ·rwa[List.getElem?_drop]at hu
    ·cases hu
   obtain⟨v',w',q1,q2,q3⟩:=run_append_arg_grows (P:=P) w t ty e i z i.size i.bytes e1 e2 e3 rfl rfl e6 e7 ⟨gb,o,none⟩ n cap xs hown.1 holds ⟨b,off,none⟩ m cp news hl hn' (by omega) Hz JI;refine⟨v',w',q1,zc q2,(aG.refl _ w).ext (aG.rY q3),λk hk=>⟨.inr (q2.lt k hk).1,(q2.lt k hk).2⟩⟩
def uc:Value->Value
 | .slice a n _ => .slice a n n
 |v=>v
def ZA(v:Value):Prop:=∃a n cp,v= .slice a n cp
theorem ZA.cells{v:Value}(h:ZA v):v.cells.toList=[v]:=by obtain⟨a,n,cp,rfl⟩:=h;rfl
theorem ZA.one{v:Value}(h:ZA v):v.oneCell'=true:=by obtain⟨a,n,cp,rfl⟩:=h;cases a<;>rfl
def qF(v:Value)(n:Nat):Prop:=∃a cp,v= .slice a n cp
theorem qF.slv{v:Value}{n:Nat}(h:qF v n):ZA v:=by obtain⟨a,cp,rfl⟩:=h;exact⟨_,_,_,rfl⟩
theorem qF.cells{v:Value}{n:Nat}(h:qF v n):v.cells.toList=[v]:=h.slv.cells
theorem qF.one{v:Value}{n:Nat}(h:qF v n):v.oneCell'=true:=h.slv.one
theorem qF.rz{w:World}{v:Value}{e sz n:Nat}{xs:List Value}(h:iv w e sz v n xs):qF v n:=by
 rcases h.2 with⟨rfl,rfl⟩|⟨_,_,_,_,rfl,_⟩
 ·exact⟨_,_,rfl⟩
 ·exact⟨_,_,rfl⟩
theorem qF.abK{v:Value}{n:Nat}(h:qF v n):qF (uc v) n:=by obtain⟨a,cp,rfl⟩:=h;exact⟨_,_,rfl⟩
theorem Lm{s x:Operand}{t e sz bytes n m b T cp:Nat}{v:Value}{xs news:List Value}{f:ay->List ay}[HF P t e sz bytes](hs:ev F s=some v)[hr:qZ H v e sz n xs f](hx:ev F x=some (.slice (some ⟨b,0,none⟩) m cp))[hc:oA H b T news]
  (hl:news.length=m*sz)(h1:lI news)(JI:(n+m)*bytes<=140737488355328)(h63:n+m<=9223372036854775807):
  RX P N c ⟨d, .call ⟨.builtin .append, #[s,x], #[t,t]⟩,ty,p,af,g⟩ F H (λv'=>qF v' (n+m)) (λv'=>v') (λv'=>f (.row v' e sz (n+m) (xs++news))):=λD a w next Q hst hk=>by
 obtain⟨k,k1,k2⟩:=hr.ok;have hm:ay.row v e sz n xs∈H:=List.mem_of_getElem? k1;obtain⟨v',w',q1,q2,q3,q4⟩:=vi (P:=P) (t:=t) (ty:=ty) (cp:=cp) (b:=b) (off:=0) (hst.hp.holds _ hm) hl (λj u hj=>by rw[Nat.zero_add,nI (hst.hp.holds _ hc.mem)];exact hj) h1 JI h63;refine cE (by simp) (v:=v') (w':=w') ?_ (hk v' w' (qF.rz q2) (hst.si.trans q3 λb' hb'=>(hst.hp.own _ hm b' hb').1) ?_)
 ·simp[execOp,resolve,invoke,builtin,aA hst.fr hs,aA hst.fr hx,q1]
 ·show aX c.bs c.w0.heap.size (f (.row v' e sz (n+m) (xs++news))) w'
  rw[k2];refine hst.hp.set k1 q3.size (λj hj hn=>q3.block j hj hn) q2 hst.si.size (λb' hb'=>?_);have:=q4 b' (by simpa[ay.bK]using hb');exact⟨this.1.imp (λh=>by simpa[ay.bK]using h) id,this.2⟩
theorem Dw{x:Operand}{t e sz:Nat}{v:Value}{cs zs:List Value}[ht:sD P t e sz][hz:gq P e zs](hx:ev F x=some v)(hc:v.cells.toList=cs)(hl:cs.length=sz)(hzl:zs.length=sz)(h0:0<sz)(hs:sz<=16777216):
  RX P N c ⟨d, .buildSlice t 1 #[(0,x)],ty,p,af,g⟩ F H (λ_ =>True) (λb=> .slice (some ⟨b,0,none⟩) 1 1) (λb=> .cells b e cs::H):=λD a w next Q hst hk=>by
 obtain⟨i,h1,h2,h3⟩:=sD.get ht.ok;obtain⟨i',z,h4,h5,h6⟩:=gq.get hz.ok;rw[h2]at h4;cases h4;have hsz:v.cells.size=sz:=by rw[← hl, ← hc];simp
 refine cE (by simp) (w':=w.alloc (.cells cs.toArray e)) ?_ (hk w.heap.size _ trivial (hst.si.ext (aG.alloc _ _)) (hst.hp.box e cs hst.si.size));have GM:Instr.fill (λi=>some (i*sz,sz)) ((Array.range sz).map (z.cells[· %z.cells.size]!)) [(0,v)]=some cs.toArray:=by
  have:=s5 (place:=λi=>if i=0 then some (0,sz)else none) (pl:=[(0,sz)]) (by intro i;cases i<;>simp) [(0,v)] ((Array.range sz).map (z.cells[· %z.cells.size]!)) cs (by
   simp only[qV,List.getElem?_cons_zero,hsz,hc,Array.length_toList,Array.size_map,Array.size_range,Nat.zero_add,ne_eq,not_true_eq_false,decide_false,Bool.false_or,gt_iff_lt,Nat.lt_irrefl,Bool.false_eq_true,if_false];simp[bh,hl])
  have e:∀cells:Array Value,Instr.fill (λi=>some (i*sz,sz)) cells [(0,v)]=Instr.fill (λi=>if i=0 then some (0,sz)else none) cells [(0,v)]:=λcells=>by simp[Instr.fill]
  rw[e];exact this
 have hn0:¬sz=0:=by omega
 have abo:¬16777216<sz:=by omega
 simp only[execOp,Instr.buildSlice,Sem.run_bind,run_underlying h1,Result.andThen_ok,sizeOf,typeInfo];simp[h2,h3,hn0,abo,aA hst.fr hx,GM,zeroValue,typeInfo,h5,newRow,newObj,Sem.run]
theorem Kh{x hi mx:Operand}{t e q sz n:Nat}{v:Value}{xs:List Value}{k k':IntKind}[ht:sD P t e q](hx:ev F x=some v)(hh:ev F hi=some (.int k n))(hm:ev F mx=some (.int k' n))[h:mT c H v sz n xs]:
  VS P N c ⟨d, .slice t x none (some hi) (some mx),ty,p,af,g⟩ F H (uc v):=
 az (by simp) λa w hf hs hp=>by
  obtain⟨i,h1,h2,h3⟩:=sD.get ht.ok;have hr:=h.ro w hs hp;rcases hr.2 with⟨⟨a0,cp,rfl⟩,rfl⟩|⟨gb,off,cap,rfl,_,hle,_⟩
  ·cases a0<;>simp[execOp,aA hf hx,aA hf hh,aA hf hm,Instr.sliceAt,run_underlying h1,Instr.slice,Instr.sliceBounds,Instr.sliceBound,asIntOf,sizeOf,typeInfo,h2,uc]
  ·have h9:(n:Int)<=(cap:Int):=by omega
   by_cases hn:n=0
   ·subst hn
    simp[execOp,aA hf hx,aA hf hh,aA hf hm,Instr.sliceAt,run_underlying h1,Instr.slice,Instr.sliceBounds,Instr.sliceBound,asIntOf,sizeOf,typeInfo,h2,uc]
   ·simp[execOp,aA hf hx,aA hf hh,aA hf hm,Instr.sliceAt,run_underlying h1,Instr.slice,Instr.sliceBounds,Instr.sliceBound,asIntOf,sizeOf,typeInfo,h2,uc,hle,Addr.add]
theorem wB{bs:List Nat}{n0 e sz:Nat}{w:World}(h:aX bs n0 H w):aX bs n0 (.row (.slice none 0 0) e sz 0 []::H) w:=
 h.cons ⟨by simp, .inl ⟨rfl,rfl⟩⟩ (λb hb=>by simp[ay.bK,Value.ownBlock]at hb) (λs _ b hb=>by simp[ay.bK,Value.ownBlock]at hb)
theorem Q9{D:List Deferred}{Q:Exit->Act->World->Prop}{x:Code}(e sz:Nat)(h:WP P N c D x Q F (.row (.slice none 0 0) e sz 0 []::H)):WP P N c D x Q F H:=UZ (λ_ _ _ hp=>wB hp) h
theorem Q6{D:List Deferred}{Q:Exit->Act->World->Prop}{x:Exit}(e sz:Nat)(h:WQ N c D Q x F (.row (.slice none 0 0) e sz 0 []::H)):WQ N c D Q x F H:=Oe (λ_ _ _ hp=>wB hp) h
end
end Go.Bw
namespace Go.Bw
open Go Go.RowKit
def FM:Option Value->Option Value->Bool
 |some (.int _ a),some (.int _ b)=>a==b
 |some (.bool a),some (.bool b)=>a==b
 |_,_ =>false
def qf(k:Option IntKind):Option Value->Bool
 |some (.int k' _)=>match k with|some k=>decide (k=k')|none=>false
 |some (.bool _)=>k.isNone
 |_ =>false
def AA:List (Nat×Option IntKind)->List Value->List Value->Bool
 |[],_,_ =>true
 |(o,_)::r,cs,ds=>FM cs[o]? ds[o]? &&AA r cs ds
def wP:List (Nat×Option IntKind)->List Value->Bool
 |[],_ =>true
 |(o,k)::r,cs=>qf k cs[o]? &&wP r cs
def Sl(P:Program)(f:Field)(q:Nat×Option IntKind):Bool:=
 f.name != "_" &&Nat.beq f.offset q.1&&(match P.underlying f.type,q.2 with|some (.int k),some k'=>decide (k=k')|some .bool,none=>true|_,_ =>false)
def yc(P:Program):List Field->List (Nat×Option IntKind)->Bool
 |[],[]=>true
 |f::fs,q::qs=>Sl P f q&&yc P fs qs
 |_,_ =>false
def Dh(P:Program)(t:Nat)(ks:List (Nat×Option IntKind)):Bool:=match P.underlying t with
 |some (.struct fs)=> !P.stoodInHeld t&& !P.eqGuardType P.depth t&&yc P fs.toList ks
 |_ =>false
class I5(P:Program)(t:TypeId)(ks:outParam (List (Nat×Option IntKind))):Prop where
 ok:Dh P t ks=true
theorem oX{P:Program}{t off:Nat}{cs:Array Value}{v:Value}{w:World}(ht:(∃k,P.underlying t=some (.int k))\/P.underlying t=some .bool)(h:cs[off]? =some v):(part t cs off).run P w= .ok v w:=by rcases ht with⟨k,hk⟩|hk<;>simp[part,isAgg,run_underlying hk,h]
theorem qP{P:Program}{w:World}(n:Nat){cs ds:List Value}:∀{fs:List Field} {ks:List (Nat×Option IntKind)},yc P fs ks=true->wP ks cs=true->wP ks ds=true->
  (Op.eqFields (n+1) cs.toArray ds.toArray fs).run P w= .ok (AA ks cs ds) w:=by
 intro fs
 induction fs with
 |nil=>intro ks h _ _;cases ks with
  |nil=>simp[Op.eqFields,AA]
  |cons _ _ =>simp[yc]at h
 |cons f fs ih=>
  intro ks h h1 h2;cases ks with
  |nil=>simp[yc]at h
  |cons q qs=>
   obtain⟨o,k⟩:=q;simp only[yc,Sl,ab7,bne_iff_ne,ne_eq]at h;obtain⟨⟨⟨hn,ho⟩,hk⟩,hr⟩:=h;have ho:f.offset=o:=ab6 ho;simp only[wP,ab7]at h1 h2;have aY:=ih hr h1.2 h2.2;subst ho;have k1:=h1.1;have k2:=h2.1
   match hu:P.underlying f.type,k,hk with
   |some (.int kk),some k',hk=>
    have e:kk=k':=by simpa using hk
    subst e
    match hc:cs[f.offset]?,k1 with
    |some (.int ka a),k1=>
     have e1:kk=ka:=by simpa[qf]using k1
     subst e1
     match hd:ds[f.offset]?,k2 with
     |some (.int kb b),k2=>
      have e2:kk=kb:=by simpa[qf]using k2
      subst e2;have p1:=oX (w:=w) (.inl ⟨_,hu⟩) (show cs.toArray[f.offset]? =some (.int kk a)by simpa using hc);have p2:=oX (w:=w) (.inl ⟨_,hu⟩) (show ds.toArray[f.offset]? =some (.int kk b)by simpa using hd);have p3:=run_equalIn_int (P:=P) w n f.type kk kk a b hu;simp only[Op.eqFields,hn,ne_eq,not_false_eq_true,if_true,Sem.run_bind,p1,p2,p3,Result.andThen_ok];simp only[AA,hc,hd,FM];cases a==b<;>simp[aY]
     |some (.bool _),k2=>simp[qf]at k2
    |some (.bool _),k1=>simp[qf]at k1
   |some .bool,none,_ =>
    match hc:cs[f.offset]?,k1 with
    |some (.bool a),_ =>
     match hd:ds[f.offset]?,k2 with
     |some (.bool b),_ =>have p1:=oX (w:=w) (.inr hu) (show cs.toArray[f.offset]? =some (.bool a)by simpa using hc);have p2:=oX (w:=w) (.inr hu) (show ds.toArray[f.offset]? =some (.bool b)by simpa using hd);have p3:=run_equalIn_bool' (P:=P) w n f.type a b hu;simp only[Op.eqFields,hn,ne_eq,not_false_eq_true,if_true,Sem.run_bind,p1,p2,p3,Result.andThen_ok];simp only[AA,hc,hd,FM];cases a==b<;>simp[aY]
     |some (.int _ _),k2=>simp[qf]at k2
    |some (.int _ _),k1=>simp[qf]at k1
section
variable {P:Program} {N:Nat} {c:Cx} {F:cO} {H:List ay} {d:Option Tmp} {ty:TypeId} {p:String} {af:Array Edge} {g:Option (Nat×Bool)}
theorem I5.get{t:Nat}{ks:List (Nat×Option IntKind)}(h:Dh P t ks=true):P.underlying t=some (.struct (P.fieldsOf t))/\P.stoodInHeld t=false/\P.eqGuardType P.depth t=false/\yc P (P.fieldsOf t).toList ks=true:=by
 unfold Dh at h;split at h
 ·rename_i fs hu
  simp only[ab7,Bool.not_eq_true']at h;have e:P.fieldsOf t=fs:=by simp[Program.fieldsOf,hu]
  rw[e];exact⟨hu,h.1.1,h.1.2,h.2⟩
 ·cases h
theorem Ke{x y:Operand}{cs ds:List Value}{T U:TypeId}{ks:List (Nat×Option IntKind)}[hT:I5 P T ks](hx:ev F x=some (.agg cs.toArray))(hy:ev F y=some (.agg ds.toArray))(h1:wP ks cs=true)(h2:wP ks ds=true):
  VS P N c ⟨d, .binOp .eql T x y U,ty,p,af,g⟩ F H (.bool (AA ks cs ds)):=
 az (by simp) λa' w hf _ _ =>by obtain⟨e1,e2,e3,e4⟩:=I5.get hT.ok;have q1:=run_eqGuard_agg (P:=P) w .eql T x y cs.toArray ds.toArray e3;have q2:=run_eql_struct (P:=P) w T cs.toArray ds.toArray;rw[run_equalIn_struct w 9999 T _ _ e1 e2,qP 9998 e4 h1 h2]at q2;simp only[Result.andThen_ok]at q2;simp[execOp,aA hf hx,aA hf hy,q1,q2]
theorem Rd{x y:Operand}{cs ds:List Value}{T U:TypeId}{ks:List (Nat×Option IntKind)}[hT:I5 P T ks](hx:ev F x=some (.agg cs.toArray))(hy:ev F y=some (.agg ds.toArray))(h1:wP ks cs=true)(h2:wP ks ds=true):
  VS P N c ⟨d, .binOp .neq T x y U,ty,p,af,g⟩ F H (.bool (!AA ks cs ds)):=
 az (by simp) λa' w hf _ _ =>by obtain⟨e1,e2,e3,e4⟩:=I5.get hT.ok;have q1:=run_eqGuard_agg (P:=P) w .neq T x y cs.toArray ds.toArray e3;have q2:=run_neq_struct (P:=P) w T cs.toArray ds.toArray;rw[run_equalIn_struct w 9999 T _ _ e1 e2,qP 9998 e4 h1 h2]at q2;simp only[Result.andThen_ok]at q2;simp[execOp,aA hf hx,aA hf hy,q1,q2]
def jQ(l h sz:Nat):Value->Value
 | .slice a _ cap=> .slice (if cap=l then a else a.map (·.add (l*sz))) (h-l) (cap-l)
 |v=>v
theorem Ro.cut{w:World}{v:Value}{sz n l h:Nat}{xs:List Value}(hr:Ro w v sz n xs)(hl:l<=h)(hh:h<=n):Ro w (jQ l h sz v) sz (h-l) ((xs.drop (l*sz)).take ((h-l)*sz)):=by
 have hlen:((xs.drop (l*sz)).take ((h-l)*sz)).length=(h-l)*sz:=by
  have:(h-l)*sz+l*sz<=n*sz:=by rw[← Nat.add_mul];exact Nat.mul_le_mul_right _ (by omega)
  simp[hr.1];omega
 refine⟨hlen,?_⟩;rcases hr.2 with⟨⟨a,cp,rfl⟩,rfl⟩|⟨gb,off,cap,rfl,h2,h3,h4⟩
 ·have e1:l=0:=by omega
  have e2:h=0:=by omega
  subst e1;subst e2;exact .inl ⟨⟨_,_,rfl⟩,rfl⟩
 ·by_cases e:cap=l
  ·have e2:h=l:=by omega
   subst e2;exact .inl ⟨⟨some ⟨gb,off,none⟩,cap-h,by simp[jQ,e]⟩,by omega⟩
  ·refine .inr ⟨gb,off+l*sz,cap-l,by simp[jQ,e,Addr.add_lit],h2,by omega,λj u hu=>?_⟩
   rw[List.getElem?_take]at hu;split at hu
   ·rw[List.getElem?_drop]at hu
    rw[Nat.add_assoc];exact h4 _ u hu
   ·cases hu
theorem G2(l h sz:Nat)(v:Value):(jQ l h sz v).ownBlock=v.ownBlock:=by
 cases v with
 |slice a n cap=>cases a<;>simp only[jQ]<;>split<;>simp[Value.ownBlock,Addr.add]<;>split<;>rfl
 |_ =>rfl
theorem lq{k:IntKind}{l n:Nat}{code:BoundsCode}{w:World}(h:l<=n):(Instr.sliceBound (.int k l) n code).run P w= .ok l w:=by
 have h2:(l:Int)<=(n:Int):=by omega
 simp[Instr.sliceBound,asIntOf,h2]
theorem AP{x lo:Operand}{t e q sz n:Nat}(l:Nat){v:Value}{xs:List Value}{k:IntKind}[ht:sD P t e q](hx:ev F x=some v)(hlo:ev F lo=some (.int k l))[h:mT c H v sz n xs](hl:l<=n):
  VS P N c ⟨d, .slice t x (some lo) none none,ty,p,af,g⟩ F H (jQ l n q v):=
 az (by simp) λa w hf hs hp=>by
  obtain⟨i,h1,h2,h3⟩:=sD.get ht.ok;obtain⟨a0,cp,rfl⟩:∃a0 cp,v= .slice a0 n cp:=by rcases(h.ro w hs hp).2 with⟨⟨a0,cp,rfl⟩,rfl⟩|⟨gb,off,cap,rfl,_⟩<;>exact⟨_,_,rfl⟩
  have b1:=lq (P:=P) (k:=k) (w:=w) (code:= .sliceB) hl;simp[execOp,aA hf hx,aA hf hlo,Instr.sliceAt,run_underlying h1,Instr.slice,Instr.sliceBounds,b1,sizeOf,typeInfo,h2,h3,jQ]
theorem EN{x hi:Operand}{t e q sz n:Nat}(m:Nat){v:Value}{xs:List Value}{k:IntKind}[ht:sD P t e q](hx:ev F x=some v)(hhi:ev F hi=some (.int k m))[h:mT c H v sz n xs](hm:m<=n):
  VS P N c ⟨d, .slice t x none (some hi) none,ty,p,af,g⟩ F H (jQ 0 m q v):=
 az (by simp) λa w hf hs hp=>by
  obtain⟨i,h1,h2,h3⟩:=sD.get ht.ok;obtain⟨a0,cp,rfl,YN⟩:∃a0 cp,v= .slice a0 n cp/\m<=cp:=by
   rcases(h.ro w hs hp).2 with⟨⟨a0,cp,rfl⟩,rfl⟩|⟨gb,off,cap,rfl,_,hle,_⟩
   ·exact⟨_,_,rfl,by omega⟩
   ·exact⟨_,_,rfl,by omega⟩
  have b1:=lq (P:=P) (k:=k) (w:=w) (code:= .sliceAcap) YN;simp[execOp,aA hf hx,aA hf hhi,Instr.sliceAt,run_underlying h1,Instr.slice,Instr.sliceBounds,b1,sizeOf,typeInfo,h2,jQ]
theorem Vd{x lo hi:Operand}{t e q sz n:Nat}(l m:Nat){v:Value}{xs:List Value}{k k':IntKind}[ht:sD P t e q](hx:ev F x=some v)(hlo:ev F lo=some (.int k l))(hhi:ev F hi=some (.int k' m))[h:mT c H v sz n xs](hl:l<=m)(hm:m<=n):
  VS P N c ⟨d, .slice t x (some lo) (some hi) none,ty,p,af,g⟩ F H (jQ l m q v):=
 az (by simp) λa w hf hs hp=>by
  obtain⟨i,h1,h2,h3⟩:=sD.get ht.ok;obtain⟨a0,cp,rfl,YN⟩:∃a0 cp,v= .slice a0 n cp/\m<=cp:=by
   rcases(h.ro w hs hp).2 with⟨⟨a0,cp,rfl⟩,rfl⟩|⟨gb,off,cap,rfl,_,hle,_⟩
   ·exact⟨_,_,rfl,by omega⟩
   ·exact⟨_,_,rfl,by omega⟩
  have b1:=lq (P:=P) (k:=k') (w:=w) (code:= .sliceAcap) YN;have b2:=lq (P:=P) (k:=k) (w:=w) (code:= .sliceB) hl;simp[execOp,aA hf hx,aA hf hlo,aA hf hhi,Instr.sliceAt,run_underlying h1,Instr.slice,Instr.sliceBounds,b1,b2,sizeOf,typeInfo,h2,h3,jQ]
theorem DY{t ty e sz bytes n m:Nat}{v x:Value}{xs news:List Value}{w:World}[ht:HF P t e sz bytes](hown:iv w e sz v n xs)(hx:Ro w x sz m news)(h1:lI news)(JI:(n+m)*bytes<=140737488355328)(h63:n+m<=9223372036854775807):
  ∃v' w',(Builtin.append_ #[t,t] ty #[v,x]).run P w= .ok v' w'/\iv w' e sz v' (n+m) (xs++news)/\aG v.ownBlock.toList w w'/\
   (∀k,v'.ownBlock=some k->(v.ownBlock=some k\/w.heap.size<=k)/\k<w'.heap.size):=by
 rcases hx.2 with⟨⟨a,cp,rfl⟩,rfl⟩|⟨gb,off,cap,rfl,_,_,h4⟩
 ·obtain⟨i,z,e1,e2,e3,e4,e5,e6,e7⟩:=HF.get ht.ok
  have Nj:news=[]:=List.length_eq_zero_iff.1 (by rw[hx.1];simp);subst Nj;have hsrc:Src P i.size t (.slice a 0 cp) 0 [] w:=by
   cases a with
   |none=>exact Src.ofNil w e1 cp
   |some a=>exact Src.ofSlice w e1 a 0 cp [] (by simp) (by simp) (by simp)
  obtain⟨base,sCap,hv,hle⟩:∃base sCap,v= .slice base n sCap/\n<=sCap:=by
   rcases hown.2 with⟨rfl,rfl⟩|⟨g,o,cap,cur,rfl,_,hc,_⟩
   ·exact⟨_,_,rfl,Nat.le_refl _⟩
   ·exact⟨_,_,rfl,hc⟩
  have hrun:=run_append_nothing (P:=P) w t t ty e i e1 e2 base n sCap hle _ hsrc;rw[← hv]at hrun;refine⟨v,w,hrun,by simpa using hown,aG.refl _ _,λk hk=>⟨.inl hk,?_⟩⟩;rcases hown.2 with⟨rfl,_⟩|⟨g,o,cap,cur,rfl,hg,_⟩
  ·cases hk
  ·cases hk;exact(acf.1 hg).1
 ·exact vi hown hx.1 h4 h1 JI h63
theorem zL{s x:Operand}{t e sz bytes n m:Nat}{v u:Value}{xs news:List Value}{f:ay->List ay}[HF P t e sz bytes](hs:ev F s=some v)[hr:qZ H v e sz n xs f](hx:ev F x=some u)[hu:mT c H u sz m news]
  (h1:lI news)(JI:(n+m)*bytes<=140737488355328)(h63:n+m<=9223372036854775807):
  RX P N c ⟨d, .call ⟨.builtin .append, #[s,x], #[t,t]⟩,ty,p,af,g⟩ F H (λv'=>qF v' (n+m)) (λv'=>v') (λv'=>f (.row v' e sz (n+m) (xs++news))):=λD a w next Q hst hk=>by
 obtain⟨k,k1,k2⟩:=hr.ok;have hm:ay.row v e sz n xs∈H:=List.mem_of_getElem? k1;obtain⟨v',w',q1,q2,q3,q4⟩:=DY (P:=P) (t:=t) (ty:=ty) (hst.hp.holds _ hm) (hu.ro w hst.si hst.hp) h1 JI h63;refine cE (by simp) (v:=v') (w':=w') ?_ (hk v' w' (qF.rz q2) (hst.si.trans q3 λb' hb'=>(hst.hp.own _ hm b' hb').1) ?_)
 ·simp[execOp,resolve,invoke,builtin,aA hst.fr hs,aA hst.fr hx,q1]
 ·show aX c.bs c.w0.heap.size (f (.row v' e sz (n+m) (xs++news))) w'
  rw[k2];refine hst.hp.set k1 q3.size (λj hj hn=>q3.block j hj hn) q2 hst.si.size (λb' hb'=>?_);have:=q4 b' (by simpa[ay.bK]using hb');exact⟨this.1.imp (λh=>by simpa[ay.bK]using h) id,this.2⟩
end
end Go.Bw
namespace Go.Bw
open Go Go.RowKit
def IntKind.up(k:IntKind):Nat:=if k.signed then k.bits-1 else k.bits
section
variable {P:Program} {N:Nat} {c:Cx} {F:cO} {H:List ay} {d:Option Tmp} {ty:TypeId} {p:String} {af:Array Edge} {g:Option (Nat×Bool)} {x y:Operand} {k:IntKind} {T U:TypeId}
theorem EJ{x y:Operand}{T len e sz q m:Nat}{i:Int}{k:IntKind}{cs us:List Value}[hT:pe P T len e sz][hA:qE P e q](hx:ev F x=some (.agg cs.toArray))(hy:ev F y=some (.int k i))(hi:i=(m:Int))(hm:m<len)
  (hv:(cs.drop (m*sz)).take sz=us):VS P N c ⟨d, .index T x y,ty,p,af,g⟩ F H (.agg us.toArray):=
 az (by simp) λa w hf _ _ =>by
  obtain⟨inf,h1,h2,h3⟩:=pe.get hT.ok;subst hi;have hs:(sizeOf e).run P w= .ok sz w:=by simp[sizeOf,typeInfo,h2,h3]
  have hag:(isAgg e).run P w= .ok true w:=p8 w;have he:cs.toArray.extract (m*sz) (m*sz+sz)=us.toArray:=by apply Array.ext';rw[← hv];simp[List.extract_eq_take_drop,Nat.add_sub_cancel_left]
  have hp:(part e cs.toArray (m*sz)).run P w= .ok (.agg us.toArray) w:=by unfold part;rw[Sem.run_bind,hag];simp only[Result.andThen_ok,if_true,Sem.run_bind,hs,Sem.run_pure,he]
  simp[execOp,aA hf hx,aA hf hy,Instr.index,asIntOf,run_underlying h1,hm,hs,hp]
theorem EK{x y:Operand}{T len e sz m:Nat}{i:Int}{k:IntKind}{cs:List Value}{u:Value}[hT:pe P T len e sz][hA:nD P e](hx:ev F x=some (.agg cs.toArray))(hy:ev F y=some (.int k i))(hi:i=(m:Int))(hm:m<len)
  (hv:cs[m*sz]? =some u):VS P N c ⟨d, .index T x y,ty,p,af,g⟩ F H u:=
 az (by simp) λa w hf _ _ =>by
  obtain⟨inf,h1,h2,h3⟩:=pe.get hT.ok;subst hi;have hs:(sizeOf e).run P w= .ok sz w:=by simp[sizeOf,typeInfo,h2,h3]
  have hag:(isAgg e).run P w= .ok false w:=ov w;have hp:(part e cs.toArray (m*sz)).run P w= .ok u w:=by simp[part,hag,hv]
  simp[execOp,aA hf hx,aA hf hy,Instr.index,asIntOf,run_underlying h1,hm,hs,hp]
end
end Go.Bw
namespace Go.Bw
open Go
def mW{α:Type}(g:Nat->α)(i:Nat)(v:α):Nat->α:=λj=>if j=i then v else g j
@[simp] theorem L3{α:Type}(g:Nat->α)(i:Nat)(v:α):mW g i v i=v:=by simp[mW]
theorem Kr{α:Type}(g:Nat->α){i j:Nat}(v:α)(h:j≠i):mW g i v j=g j:=by simp[mW,h]
def flat(g:Nat->List Value):Nat->List Value
 |0=>[]
 |n+1=>flat g n++g n
theorem eM{g:Nat->List Value}{k:Nat}:∀{n:Nat},(∀i,i<n->(g i).length=k)->(flat g n).length=n*k:=by
 intro n
 induction n with
 |zero=>intro _;simp[flat]
 |succ n ih=>intro h;simp[flat,ih (λi hi=>h i (by omega)),h n (by omega),Nat.add_mul]
theorem s0{g g':Nat->List Value}:∀{n:Nat},(∀i,i<n->g i=g' i)->flat g n=flat g' n:=by
 intro n
 induction n with
 |zero=>intro _;rfl
 |succ n ih=>intro h;simp[flat,ih (λi hi=>h i (by omega)),h n (by omega)]
theorem qi{g:Nat->List Value}{k:Nat}:∀{n i j:Nat},(∀i,i<n->(g i).length=k)->i<n->j<k->(flat g n)[i*k+j]? =(g i)[j]? :=by
 intro n
 induction n with
 |zero=>intro i j _ hi;omega
 |succ n ih=>
  intro i j h hi hj;have hl:=eM (n:=n) (λi hi=>h i (by omega));by_cases e:i=n
  ·subst e
   rw[flat,List.getElem?_append_right (by omega),hl];congr 1;omega
  ·have:i*k+j<n*k:=by
    have h1:(i+1)*k<=n*k:=Nat.mul_le_mul_right k (by omega);rw[Nat.add_mul]at h1;omega
   rw[flat,List.getElem?_append_left (by omega)];exact ih (λi hi=>h i (by omega)) (by omega) hj
theorem r9{l m:List Value}(h:∀j:Nat,l[j]? =m[j]?):l=m:=List.ext_getElem? h
theorem pY{cs vs:List Value}{off:Nat}(h:off+vs.length<=cs.length):(bh cs off vs).length=cs.length:=by simp[bh];omega
theorem fe{cs vs:List Value}{off:Nat}(h:off+vs.length<=cs.length)(j:Nat):(bh cs off vs)[j]? =if off<=j/\j<off+vs.length then vs[j-off]? else cs[j]? :=by
 unfold bh;by_cases h1:j<off
 ·rw[ab5 (by omega),List.append_assoc,List.getElem?_append_left (by simp;omega),List.getElem?_take,ab4 h1]
 ·by_cases h2:j<off+vs.length
  ·rw[ab4 (by omega),List.append_assoc,List.getElem?_append_right (by simp;omega),List.getElem?_append_left (by simp;omega)]
   congr 1;simp;omega
  ·rw[ab5 (by omega),List.getElem?_append_right (by simp;omega),List.getElem?_drop]
   congr 1;simp;omega
theorem qX{cs vs:List Value}{o off k:Nat}(h1:off+vs.length<=k)(h2:o+k<=cs.length):((bh cs (o+off) vs).drop o).take k=bh ((cs.drop o).take k) off vs:=by
 apply List.ext_getElem?;intro q;have hl:off+vs.length<=((cs.drop o).take k).length:=by simp only[List.length_take,List.length_drop];omega
 rw[List.getElem?_take,fe hl,List.getElem?_drop,fe (by omega)];by_cases hq:q<k
 ·rw[ab4 hq]
  by_cases hi:off<=q/\q<off+vs.length
  ·rw[ab4 (by omega),ab4 hi,show o+q-(o+off)=q-off by omega]
  ·rw[ab5 (by omega),ab5 hi,List.getElem?_take,ab4 hq,List.getElem?_drop]
 ·rw[ab5 hq,ab5 (by omega),List.getElem?_take,ab5 hq]
theorem yZ{p q vs:List Value}{off:Nat}:bh (p++q) (p.length+off) vs=p++bh q off vs:=by
 unfold bh;have h1:(p++q).take (p.length+off)=p++q.take off:=by simp[List.take_append,List.take_of_length_le (show p.length<=p.length+off by omega)]
 have h2:(p++q).drop (p.length+off+vs.length)=q.drop (off+vs.length):=by rw[Nat.add_assoc,List.drop_append,List.drop_eq_nil_of_le (by omega)];simp
 rw[h1,h2];simp
theorem Gc{p q vs:List Value}{off:Nat}(h:off+vs.length<=p.length):bh (p++q) off vs=bh p off vs++q:=by unfold bh;rw[List.take_append_of_le_length (by omega),List.drop_append_of_le_length h];simp
theorem GQ{g:Nat->List Value}{k n i:Nat}{vs:List Value}(h:∀i,i<n->(g i).length=k)(hi:i<n)(hv:vs.length=k):bh (flat g n) (i*k) vs=flat (mW g i vs) n:=by
 have hl:=eM (n:=n) h;have h':∀j,j<n->(mW g i vs j).length=k:=λj hj=>by by_cases e:j=i<;>simp[mW,e,hv,h j hj]
 have hl':=eM (n:=n) h';have hb:(i+1)*k<=n*k:=Nat.mul_le_mul_right k (by omega);rw[Nat.add_mul]at hb;refine r9 λj=>?_;rw[fe (by omega)];by_cases hj:j<n*k
 ·have hk:0<k:=by
   rcases Nat.eq_zero_or_pos k with h0|h0
   ·subst h0;omega
   ·exact h0
  have hd:j=j/k*k+j%k:=by rw[Nat.mul_comm];exact(Nat.div_add_mod j k).symm
  have hm:=Nat.mod_lt j hk;have hq:j/k<n:=Nat.div_lt_of_lt_mul (by rw[Nat.mul_comm];exact hj);by_cases e:j/k=i
  ·rw[ab4 (by subst e;omega)]
   rw[hd,qi h' hq hm,e,L3];congr 1;subst e;omega
  ·rw[ab5]
   ·rw[hd,qi h' hq hm,qi h hq hm,Kr _ _ e]
   ·rintro⟨h1,h2⟩
    apply e;have:i<=j/k:=(Nat.le_div_iff_mul_le hk).2 h1;have:j/k<i+1:=(Nat.div_lt_iff_lt_mul hk).2 (by rw[Nat.add_mul];omega);omega
 ·rw[ab5 (by omega),List.getElem?_eq_none (by omega),List.getElem?_eq_none (by omega)]
theorem K0{g:Nat->List Value}{k n i:Nat}{t:List Value}(h:∀i,i<n->(g i).length=k)(hi:i<n):((flat g n++t).drop (i*k)).take k=g i:=by
 have hl:=eM (n:=n) h;have hb:(i+1)*k<=n*k:=Nat.mul_le_mul_right k (by omega);rw[Nat.add_mul]at hb;refine r9 λj=>?_;rw[List.getElem?_take,List.getElem?_drop];by_cases hj:j<k
 ·rw[ab4 hj,List.getElem?_append_left (by omega),qi h hi hj]
 ·rw[ab5 hj,List.getElem?_eq_none (by rw[h i hi];omega)]
theorem lI.app{a b:List Value}(ha:lI a)(hb:lI b):lI (a++b):=λv hv=>(List.mem_append.1 hv).elim (ha v) (hb v)
theorem iU{vs:List Value}(h:vs.all (·.oneCell')=true):lI vs:=λv hv=>List.all_eq_true.1 h v hv
theorem lI.flat{g:Nat->List Value}:∀{n:Nat},(∀i,i<n->lI (g i))->lI (flat g n):=by
 intro n
 induction n with
 |zero=>intro _ v hv;simp[Bw.flat]at hv
 |succ n ih=>intro h;exact(ih λi hi=>h i (by omega)).app (h n (by omega))
end Go.Bw
namespace Go.Bw
open Go Go.RowKit
def Rnd(P:Program)(l:Nat)(Sw:List Nat)(w1:World)(J:Nat->List Nat->World->Prop)(Jx:List Nat->World->Prop)(qC:Nat->List Value)(n:Nat):Prop:=∀k,k<n->∀W bs,aG Sw w1 W->(∀b∈bs,(b∈Sw\/w1.heap.size<=b)/\b<W.heap.size)->(ay.ext bs (J k bs)).holds W-> YieldAt (FA none) 0 P l (qC k).toArray W λe W'=>∃bs',(∀b∈bs',(b∈bs\/W.heap.size<=b)/\b<W'.heap.size)/\aG bs W W'/\ ((e= .returned (.bool true)/\(ay.ext bs' (J (k+1) bs')).holds W')\/(e= .returned (.bool false)/\(ay.ext bs' (Jx bs')).holds W'))
def Xf:List Nat->List Value->cO->cO
 |p::ps,v::vs,F=>Xf ps vs ((p,v)::F)
 |_,_,F=>F
theorem P0:∀{ps:List Nat} {vs:List Value} {F:cO} {t:Array Value} {N:Nat},uG F t->t.size=N->ps.all (Nat.blt · N)=true->uG (Xf ps vs F) ((ps.zip vs).foldl (λt q=>t.setIfInBounds q.1 q.2) t)/\((ps.zip vs).foldl (λt q=>t.setIfInBounds q.1 q.2) t).size=N:=by
 intro ps
 induction ps with
 |nil=>intro vs F t N h hs _;cases vs<;>exact⟨h,hs⟩
 |cons p ps ih=>
  intro vs F t N h hs ha;cases vs with
  |nil=>exact⟨h,hs⟩
  |cons v vs=>simp only[List.all_cons,ab7]at ha;have h1:=uG.put (a:=⟨t,[]⟩) (d:=some p) (v:=v) (N:=N) h hs ha.1;exact ih h1 (by simpa using hs) ha.2
def Vl(P:Program)(l:Nat)(body:Code)(R:Ending->World->Prop):Exit->Act->World->Prop:=Exit.then (λa₁ w₁=>∃w₂,(Instr.beginRound l).run P w₁= .ok () w₂/\body.wpIn (FA (some l)) 0 P (roundPost P l R) a₁ w₂) (λ_ _ _ =>False)
def OG(c':Cx)(JT JX:List Nat->World->Prop):Ending->World->Prop:=λe W'=>∃bs',(∀b∈bs',(b∈c'.bs\/c'.w0.heap.size<=b)/\b<W'.heap.size)/\aG c'.bs c'.w0 W'/\((e= .returned (.bool true)/\(ay.ext bs' (JT bs')).holds W')\/(e= .returned (.bool false)/\(ay.ext bs' (JX bs')).holds W'))
def JW{α:Type}(n0:Nat)(cb:List Nat)(p:α->Prop)(I:α->List ay):List Nat->World->Prop:=λbs W=>∃i,p i/\aX cb n0 (I i) W/\bs=aV (I i)
theorem aN{H:List ay}{b:Nat}:b∈aV H↔∃r∈H,b∈r.bK:=by simp[aV]
theorem I9{α:Type}{n0:Nat}{cb:List Nat}{p:α->Prop}{I:α->List ay}{W:World}(i:α)(hp:p i)(h:aX cb n0 (I i) W):(ay.ext (aV (I i)) (JW n0 cb p I (aV (I i)))).holds W:=
 λ_ hs hb=>⟨i,hp,h.bz hs (λr hr b D2=>hb b (aN.2 ⟨r,hr,D2⟩)) (λ_ o _ =>o),rfl⟩
theorem zA{bs:List Nat}{J:World->Prop}{W:World}(h:(ay.ext bs J).holds W):J W:=h W (Nat.le_refl _) λ_ _ =>rfl
section rules
variable {P:Program} {N:Nat} {c:Cx} {F:cO} {H H':List ay} {l:Nat} {body:Code} {R:Ending->World->Prop}
theorem St.mX{N:Nat}{D:List Deferred}{a:Act}{w:World}{b:Nat}{o o':Obj}(hst:St N c D F H a w)(ho:Ln H b o)(hs:Lj H b o' H'):St N c D F H' a (w.putObj b o')/\w.heap[b]? =some o:=by
 have hm:=hst.hp.holds _ ho.mem;have hd:w.heap[b]? =some o:=hm;have hlt:=(acf.1 hd).1;have fF:aG [b] w (w.putObj b o'):=⟨rfl,rfl,rfl,by simp[World.putObj],λk _ hk=>World.putObj_heap_other (by simpa using hk)⟩;refine⟨⟨hst.tm,hst.fr,hst.df,hst.si.store hst.hp ho.mem (by simp[ay.bK]) fF,?_⟩,hd⟩;obtain⟨k,o,hk,rfl⟩:=hs.ok;refine hst.hp.set hk fF.size (λj hj hne=>fF.block j hj hne) (World.putObj_heap_same hlt) hst.si.size (λb' hb=>?_);have e:b'=b:=by simpa[ay.bK]using hb
 subst e;exact⟨.inl (by simp[ay.bK]),by rw[World.putObj];simpa using hlt⟩
variable {α β:Type} {n0:Nat} {cb:List Nat} {p:α->Prop} {I:α->List ay} {px:β->Prop} {X:β->List ay}
theorem aG.RP{c':Cx}{H:List ay}{w:World}(hp:aX c'.bs c'.w0.heap.size H w){b:Nat}(hb:b∈aV H):(b∈c'.bs\/c'.w0.heap.size<=b)/\b<w.heap.size:=by obtain⟨r,hr,D2⟩:=aN.1 hb;exact hp.own r hr b D2
end rules
end Go.Bw
namespace Go.Bw
open Go Go.RowKit
structure bX(α:Type) where
 n:Nat
 dS:(World->Prop)->List Value->α->Prop
 len:∀{J cs x},dS J cs x->cs.length=n
 one:∀{J cs x},dS J cs x->lI cs
 mono:∀{J J':World->Prop} {cs x},(∀w,J' w->J w)->dS J cs x->dS J' cs x
class aS{α:Type}(L:bX α) where
 enc:α->List Value
 iff:∀{J cs x},L.dS J cs x↔cs=enc x
def bX.enc{α:Type}(L:bX α)[aS L](x:α):List Value:=aS.enc L x
section
variable {α β γ S:Type}
theorem rp(L:bX α)[aS L](x:α):L.dS (λ_ =>True) (L.enc x) x:=aS.iff.2 rfl
theorem fE(L:bX α)[aS L](x:α):(L.enc x).length=L.n:=L.len (rp L x)
theorem zB(L:bX α)[aS L](x:α):lI (L.enc x):=L.one (rp L x)
def LI(k:IntKind):bX Int where
 n:=1
 dS _ cs x:=cs=[.int k x]
 len h:=by subst h;rfl
 one h:=by subst h;exact iU rfl
 mono _ h:=h
instance(k:IntKind):aS (LI k):=⟨λx=>[.int k x],Iff.rfl⟩
def LB:bX Bool where
 n:=1
 dS _ cs x:=cs=[.bool x]
 len h:=by subst h;rfl
 one h:=by subst h;exact iU rfl
 mono _ h:=h
instance:aS LB:=⟨λx=>[.bool x],Iff.rfl⟩
def LP(A:bX α)(B:bX β):bX (α×β) where
 n:=A.n+B.n
 dS J cs x:=∃c1 c2,cs=c1++c2/\A.dS J c1 x.1/\B.dS J c2 x.2
 len:=λ⟨c1,c2,h,h1,h2⟩=>by subst h;simp[A.len h1,B.len h2]
 one:=λ⟨c1,c2,h,h1,h2⟩=>by subst h;exact(A.one h1).app (B.one h2)
 mono m:=λ⟨c1,c2,h,h1,h2⟩=>⟨c1,c2,h,A.mono m h1,B.mono m h2⟩
instance(A:bX α)(B:bX β)[aS A][aS B]:aS (LP A B):=⟨λx=>A.enc x.1++B.enc x.2,by
 intro J cs x;constructor
 ·rintro⟨c1,c2,rfl,h1,h2⟩
  rw[aS.iff]at h1 h2;subst h1 h2;rfl
 ·intro h;exact⟨_,_,h,aS.iff.2 rfl,aS.iff.2 rfl⟩⟩
def bX.via(A:bX α)(f:S->α):bX S where
 n:=A.n
 dS J cs s:=A.dS J cs (f s)
 len h:=A.len h
 one h:=A.one h
 mono m h:=A.mono m h
instance(A:bX α)(f:S->α)[aS A]:aS (A.via f):=⟨λs=>A.enc (f s),aS.iff (L:=A)⟩
def LA(L:bX α)(m:Nat):bX (Nat->α) where
 n:=m*L.n
 dS J cs a:=∃cc:Nat->List Value,cs=flat cc m/\∀i,i<m->L.dS J (cc i) (a i)
 len:=λ⟨cc,h,h1⟩=>by subst h;exact eM λi hi=>L.len (h1 i hi)
 one:=λ⟨cc,h,h1⟩=>by subst h;exact lI.flat λi hi=>L.one (h1 i hi)
 mono m':=λ⟨cc,h,h1⟩=>⟨cc,h,λi hi=>L.mono m' (h1 i hi)⟩
instance(L:bX α)(m:Nat)[aS L]:aS (LA L m):=⟨λa=>flat (λi=>L.enc (a i)) m,by
 intro J cs a;constructor
 ·rintro⟨cc,rfl,h⟩
  exact s0 λi hi=>aS.iff.1 (h i hi)
 ·intro h;exact⟨_,h,λi _ =>aS.iff.2 rfl⟩⟩
structure aO(L:bX α)(M:bX β)(o:Nat)(g:α->β)(s:α->β->α):Prop where
 get:∀{J cs x},L.dS J cs x->M.dS J ((cs.drop o).take M.n) (g x)
 set:∀{J cs x vs v},L.dS J cs x->M.dS J vs v->L.dS J (bh cs o vs) (s x v)
 le:o+M.n<=L.n
theorem aO.id{L:bX α}:aO L L 0 (λx=>x) (λ_ v=>v) where
 get h:=by rw[List.drop_zero,List.take_of_length_le (by rw[L.len h];exact Nat.le_refl _)];exact h
 set:=@λJ cs x vs v h hv=>by have:bh cs 0 vs=vs:=HW (by rw[L.len h,L.len hv]);rw[this];exact hv
 le:=by omega
where HW {cs vs:List Value} (h:cs.length=vs.length):bh cs 0 vs=vs:=by simp[bh, ← h]
theorem aO.fst{A:bX α}{B:bX β}{M:bX γ}{o:Nat}{g:α->γ}{s:α->γ->α}(p:aO A M o g s):aO (LP A B) M o (λx=>g x.1) (λx v=>(s x.1 v,x.2)) where
 get:=λ⟨c1,c2,h,h1,h2⟩=>by subst h;have hl:=A.len h1;have:=p.le;rw[List.drop_append_of_le_length (by omega),List.take_append_of_le_length (by simp;omega)];exact p.get h1
 set:=λ⟨c1,c2,h,h1,h2⟩ hv=>by subst h;have hl:=A.len h1;have:=p.le;exact⟨_,_,Gc (by rw[M.len hv];omega),p.set h1 hv,h2⟩
 le:=by have:=p.le;show o+M.n<=A.n+B.n;omega
theorem aO.snd{A:bX α}{B:bX β}{M:bX γ}{o:Nat}{g:β->γ}{s:β->γ->β}(p:aO B M o g s):aO (LP A B) M (A.n+o) (λx=>g x.2) (λx v=>(x.1,s x.2 v)) where
 get:=λ⟨c1,c2,h,h1,h2⟩=>by subst h;have hl:=A.len h1;rw[← hl, ← List.drop_drop,List.drop_left];exact p.get h2
 set:=λ⟨c1,c2,h,h1,h2⟩ hv=>by subst h;have hl:=A.len h1;exact⟨c1,_,by rw[← hl];exact yZ,h1,p.set h2 hv⟩
 le:=by have:=p.le;show A.n+o+M.n<=A.n+B.n;omega
theorem aO.via{A:bX α}{M:bX γ}{o:Nat}{g:α->γ}{s:α->γ->α}(p:aO A M o g s)(f:S->α)(g':S->γ)(s':S->γ->S)(o':Nat)(ho:o'=o)(hg:∀x,g' x=g (f x))(hs:∀x v,f (s' x v)=s (f x) v):aO (A.via f) M o' g' s' where
 get h:=by subst ho;rw[hg];exact p.get h
 set h hv:=by subst ho;show A.dS _ _ (f (s' _ _));rw[hs];exact p.set h hv
 le:=by subst ho;exact p.le
theorem aO.idx{L:bX α}{m:Nat}(i:Nat)(h:i<m){k:Nat}(hk:k=L.n):aO (LA L m) L (i*k) (λa=>a i) (λa v=>mW a i v) where
 get:=λ⟨cc,hc,h1⟩=>by subst hc hk;have:=K0 (g:=cc) (t:=[]) (λj hj=>L.len (h1 j hj)) h;rw[List.append_nil]at this;rw[this];exact h1 i h
 set:=@λJ cs x vs v hh hv=>by
  obtain⟨cc,hc,h1⟩:=hh;subst hc hk;refine⟨mW cc i vs,GQ (λj hj=>L.len (h1 j hj)) h (L.len hv),λj hj=>?_⟩;unfold mW;split
  ·exact hv
  ·exact h1 j hj
 le:=by subst hk;show i*L.n+L.n<=m*L.n;rw[← Nat.succ_mul];exact Nat.mul_le_mul_right _ h
theorem aO.comp{L:bX α}{M:bX β}{K:bX γ}{o1 o2:Nat}{g1:α->β}{s1:α->β->α}{g2:β->γ}{s2:β->γ->β}(p:aO L M o1 g1 s1)(q:aO M K o2 g2 s2):aO L K (o1+o2) (λx=>g2 (g1 x)) (λx v=>s1 x (s2 (g1 x) v)) where
 get h:=by have h2:=q.get (p.get h);have:=q.le;rw[List.drop_take,List.take_take,List.drop_drop,Nat.min_eq_left (by omega)]at h2;exact h2
 set:=@λJ cs x vs v h hv=>by
  have hl:=L.len h;have h2:=p.set h (q.set (p.get h) hv);have GI:=K.len hv;have:=q.le;have:=p.le;have e:bh cs o1 (bh ((cs.drop o1).take M.n) o2 vs)=bh cs (o1+o2) vs:=by
   refine r9 λj=>?_;have hm:=M.len (p.get h);have hlen:(bh ((cs.drop o1).take M.n) o2 vs).length=M.n:=by rw[pY (by omega)];exact hm
   rw[fe (by omega),fe (cs:=cs) (vs:=vs) (by omega),hlen,GI];by_cases h1:o1<=j/\j<o1+M.n
   ·rw[ab4 h1,fe (by omega),GI]
    by_cases h3:o1+o2<=j/\j<o1+o2+K.n
    ·rw[ab4 h3,ab4 (by omega),show j-o1-o2=j-(o1+o2)by omega]
    ·rw[ab5 h3,ab5 (by omega),List.getElem?_take,ab4 (by omega),List.getElem?_drop,show o1+(j-o1)=j by omega]
   ·rw[ab5 h1,ab5 (by omega)]
  rw[e]at h2;exact h2
 le:=by have:=q.le;have:=p.le;omega
theorem aO.c0{L:bX α}{M:bX β}{K:bX γ}{o2:Nat}{g1:α->β}{s1:α->β->α}{g2:β->γ}{s2:β->γ->β}(p:aO L M 0 g1 s1)(q:aO M K o2 g2 s2):aO L K o2 (λx=>g2 (g1 x)) (λx v=>s1 x (s2 (g1 x) v)):=by have:=p.comp q;rwa[Nat.zero_add]at this
theorem aO.int{L:bX α}{k:IntKind}{o:Nat}{g:α->Int}{s:α->Int->α}(p:aO L (LI k) o g s){J cs x}(r:L.dS J cs x):cs[o]? =some (.int k (g x)):=by
 have h:(cs.drop o).take 1=[.int k (g x)]:=p.get r;have h2:((cs.drop o).take 1)[0]? =some (.int k (g x)):=by rw[h];rfl
 rw[List.getElem?_take,ab4 (by decide),List.getElem?_drop]at h2;exact h2
theorem aO.bool{L:bX α}{o:Nat}{g:α->Bool}{s:α->Bool->α}(p:aO L LB o g s){J cs x}(r:L.dS J cs x):cs[o]? =some (.bool (g x)):=by
 have h:(cs.drop o).take 1=[.bool (g x)]:=p.get r;have h2:((cs.drop o).take 1)[0]? =some (.bool (g x)):=by rw[h];rfl
 rw[List.getElem?_take,ab4 (by decide),List.getElem?_drop]at h2;exact h2
theorem aO.agg{L:bX α}{M:bX β}[aS L][aS M]{o:Nat}{g:α->β}{s:α->β->α}(p:aO L M o g s)(x:α):((L.enc x).drop o).take M.n=M.enc (g x):=aS.iff.1 (p.get (rp L x))
theorem aO.put{L:bX α}{M:bX β}[aS L][aS M]{o:Nat}{g:α->β}{s:α->β->α}(p:aO L M o g s)(x:α)(v:β):bh (L.enc x) o (M.enc v)=L.enc (s x v):=aS.iff.1 (p.set (rp L x) (rp M v))
end
section words
variable {α ρ:Type}
def lt(a:α)(f:α->Option ρ):Option ρ:=f a
def gu(b:Bool)(k:Option ρ):Option ρ:=bif b then k else none
def bd(m:Option α)(f:α->Option ρ):Option ρ:=m.bind f
def cn(b:Bool)(x y:Option ρ):Option ρ:=bif b then x else y
def cl(g:Bool)(m:Option α)(z:α)(f:α->Option ρ):Option ρ:=bif g then m.bind f else f z
def cG(i:Int)(n:Nat):Bool:=decide (0<=i)&&decide (i<(n:Int))
abbrev wr(k:IntKind)(n:Int):Int:=k.wrap n
def Mj(k:IntKind)(a b:Int):Int:=k.wrap (a*2^(min b.toNat k.bits))
def HY(k:IntKind)(a b:Int):Int:=a.fdiv (2^(min b.toNat k.bits))
def sx(k:IntKind)(a b:Int):Int:=k.wrap ((BitVec.ofInt k.bits a&&& BitVec.ofInt k.bits b).toNat:Int)
def ZQ(k:IntKind)(a b:Int):Int:=k.wrap ((BitVec.ofInt k.bits a|||BitVec.ofInt k.bits b).toNat:Int)
def Pd(k:IntKind)(a b:Int):Int:=k.wrap ((BitVec.ofInt k.bits a^^^BitVec.ofInt k.bits b).toNat:Int)
def Cd(k:IntKind)(a b:Int):Int:=k.wrap ((BitVec.ofInt k.bits a&&& ~~~BitVec.ofInt k.bits b).toNat:Int)
theorem wQ{a:α}{f:α->Option ρ}{r:ρ}(h:lt a f=some r):∃x,x=a/\f x=some r:=⟨a,rfl,h⟩
theorem mZ{b:Bool}{k:Option ρ}{r:ρ}(h:gu b k=some r):b=true/\k=some r:=by cases b with|true=>exact⟨rfl,h⟩|false=>cases h
theorem o8{m:Option α}{f:α->Option ρ}{r:ρ}(h:bd m f=some r):∃x,m=some x/\f x=some r:=by cases m with|none=>cases h|some x=>exact⟨x,rfl,h⟩
theorem IS{b:Bool}{x y:Option ρ}{r:ρ}(hb:b=true)(h:cn b x y=some r):x=some r:=by subst hb;exact h
theorem IT{b:Bool}{x y:Option ρ}{r:ρ}(hb:b=false)(h:cn b x y=some r):y=some r:=by subst hb;exact h
theorem QN{g:Bool}{m:Option α}{z:α}{f:α->Option ρ}{r:ρ}(h:cl g m z f=some r):∃x,(g=true->m=some x)/\(g=false->x=z)/\f x=some r:=by
 cases g with
 |true=>obtain⟨x,h1,h2⟩:=o8 h;exact⟨x,λ_ =>h1,nofun,h2⟩
 |false=>exact⟨z,nofun,λ_ =>rfl,h⟩
theorem bB{i:Int}{n:Nat}(h:cG i n=true):i=(i.toNat:Int)/\i.toNat<n:=by simp[cG]at h;omega
theorem CR{g p:Bool}(h:(!g||p)=true)(hg:g=true):p=true:=by subst hg;simpa using h
theorem Sj{i:Int}(h:decide (0<=i)=true):0<=i:=by simpa using h
end words
section
variable {α1 ρ:Type}
def gI(B:(α1->Option ρ)->α1->Option ρ):Nat->α1->Option ρ
 |0,_ =>none
 |n+1,a1=>B (gI B n) a1
theorem XE{lb B:(α1->Option ρ)->α1->Option ρ}(e:lb=B){m:Nat}{a1:α1}{r:ρ}(h:gI lb m a1=some r):∃m',m=m'+1/\B (gI lb m') a1=some r:=by
 subst e;cases m with
 |zero=>cases h
 |succ m=>exact⟨m,rfl,h⟩
theorem XO{j B:α1->Option ρ}(e:j=B){a1:α1}{r:ρ}(h:j a1=some r):B a1=some r:=e▸h
end
section
variable {α1 α2 ρ:Type}
def dL(B:(α1->α2->Option ρ)->α1->α2->Option ρ):Nat->α1->α2->Option ρ
 |0,_,_ =>none
 |n+1,a1,a2=>B (dL B n) a1 a2
theorem Gv{B:(α1->α2->Option ρ)->α1->α2->Option ρ}{n:Nat}{a1:α1}{a2:α2}{r:ρ}(h:dL B n a1 a2=some r):∃lb,lb=B/\dL lb n a1 a2=some r:=⟨B,rfl,h⟩
theorem Ey{lb B:(α1->α2->Option ρ)->α1->α2->Option ρ}(e:lb=B){m:Nat}{a1:α1}{a2:α2}{r:ρ}(h:dL lb m a1 a2=some r):∃m',m=m'+1/\B (dL lb m') a1 a2=some r:=by
 subst e;cases m with
 |zero=>cases h
 |succ m=>exact⟨m,rfl,h⟩
end
section
variable {α1 α2 α3 ρ:Type}
def vz(B:(α1->α2->α3->Option ρ)->α1->α2->α3->Option ρ):Nat->α1->α2->α3->Option ρ
 |0,_,_,_ =>none
 |n+1,a1,a2,a3=>B (vz B n) a1 a2 a3
theorem XD{B:(α1->α2->α3->Option ρ)->α1->α2->α3->Option ρ}{n:Nat}{a1:α1}{a2:α2}{a3:α3}{r:ρ}(h:vz B n a1 a2 a3=some r):∃lb,lb=B/\vz lb n a1 a2 a3=some r:=⟨B,rfl,h⟩
theorem R2{lb B:(α1->α2->α3->Option ρ)->α1->α2->α3->Option ρ}(e:lb=B){m:Nat}{a1:α1}{a2:α2}{a3:α3}{r:ρ}(h:vz lb m a1 a2 a3=some r):∃m',m=m'+1/\B (vz lb m') a1 a2 a3=some r:=by
 subst e;cases m with
 |zero=>cases h
 |succ m=>exact⟨m,rfl,h⟩
end
section
variable {α1 α2 α3 α4 ρ:Type}
def JE(B:(α1->α2->α3->α4->Option ρ)->α1->α2->α3->α4->Option ρ):Nat->α1->α2->α3->α4->Option ρ
 |0,_,_,_,_ =>none
 |n+1,a1,a2,a3,a4=>B (JE B n) a1 a2 a3 a4
theorem XC{lb B:(α1->α2->α3->α4->Option ρ)->α1->α2->α3->α4->Option ρ}(e:lb=B){m:Nat}{a1:α1}{a2:α2}{a3:α3}{a4:α4}{r:ρ}(h:JE lb m a1 a2 a3 a4=some r):∃m',m=m'+1/\B (JE lb m') a1 a2 a3 a4=some r:=by
 subst e;cases m with
 |zero=>cases h
 |succ m=>exact⟨m,rfl,h⟩
end
section
variable {α1 α2 α3 α4 α5 ρ:Type}
def CM(B:(α1->α2->α3->α4->α5->Option ρ)->α1->α2->α3->α4->α5->Option ρ):Nat->α1->α2->α3->α4->α5->Option ρ
 |0,_,_,_,_,_ =>none
 |n+1,a1,a2,a3,a4,a5=>B (CM B n) a1 a2 a3 a4 a5
theorem XB{lb B:(α1->α2->α3->α4->α5->Option ρ)->α1->α2->α3->α4->α5->Option ρ}(e:lb=B){m:Nat}{a1:α1}{a2:α2}{a3:α3}{a4:α4}{a5:α5}{r:ρ}(h:CM lb m a1 a2 a3 a4 a5=some r):∃m',m=m'+1/\B (CM lb m') a1 a2 a3 a4 a5=some r:=by
 subst e;cases m with
 |zero=>cases h
 |succ m=>exact⟨m,rfl,h⟩
end
section
variable {α1 α2 α3 α4 α5 α6 ρ:Type}
def JD(B:(α1->α2->α3->α4->α5->α6->Option ρ)->α1->α2->α3->α4->α5->α6->Option ρ):Nat->α1->α2->α3->α4->α5->α6->Option ρ
 |0,_,_,_,_,_,_ =>none
 |n+1,a1,a2,a3,a4,a5,a6=>B (JD B n) a1 a2 a3 a4 a5 a6
theorem XA{lb B:(α1->α2->α3->α4->α5->α6->Option ρ)->α1->α2->α3->α4->α5->α6->Option ρ}(e:lb=B){m:Nat}{a1:α1}{a2:α2}{a3:α3}{a4:α4}{a5:α5}{a6:α6}{r:ρ}(h:JD lb m a1 a2 a3 a4 a5 a6=some r):∃m',m=m'+1/\B (JD lb m') a1 a2 a3 a4 a5 a6=some r:=by
 subst e;cases m with
 |zero=>cases h
 |succ m=>exact⟨m,rfl,h⟩
end
section
variable {α1 α2 α3 α4 α5 α6 α7 ρ:Type}
def Gx(B:(α1->α2->α3->α4->α5->α6->α7->Option ρ)->α1->α2->α3->α4->α5->α6->α7->Option ρ):Nat->α1->α2->α3->α4->α5->α6->α7->Option ρ
 |0,_,_,_,_,_,_,_ =>none
 |n+1,a1,a2,a3,a4,a5,a6,a7=>B (Gx B n) a1 a2 a3 a4 a5 a6 a7
theorem Xz{lb B:(α1->α2->α3->α4->α5->α6->α7->Option ρ)->α1->α2->α3->α4->α5->α6->α7->Option ρ}(e:lb=B){m:Nat}{a1:α1}{a2:α2}{a3:α3}{a4:α4}{a5:α5}{a6:α6}{a7:α7}{r:ρ}(h:Gx lb m a1 a2 a3 a4 a5 a6 a7=some r):∃m',m=m'+1/\B (Gx lb m') a1 a2 a3 a4 a5 a6 a7=some r:=by
 subst e;cases m with
 |zero=>cases h
 |succ m=>exact⟨m,rfl,h⟩
end
section
variable {α1 α2 α3 α4 α5 α6 α7 α8 ρ:Type}
def Gw(B:(α1->α2->α3->α4->α5->α6->α7->α8->Option ρ)->α1->α2->α3->α4->α5->α6->α7->α8->Option ρ):Nat->α1->α2->α3->α4->α5->α6->α7->α8->Option ρ
 |0,_,_,_,_,_,_,_,_ =>none
 |n+1,a1,a2,a3,a4,a5,a6,a7,a8=>B (Gw B n) a1 a2 a3 a4 a5 a6 a7 a8
theorem Xy{lb B:(α1->α2->α3->α4->α5->α6->α7->α8->Option ρ)->α1->α2->α3->α4->α5->α6->α7->α8->Option ρ}(e:lb=B){m:Nat}{a1:α1}{a2:α2}{a3:α3}{a4:α4}{a5:α5}{a6:α6}{a7:α7}{a8:α8}{r:ρ}(h:Gw lb m a1 a2 a3 a4 a5 a6 a7 a8=some r):∃m',m=m'+1/\B (Gw lb m') a1 a2 a3 a4 a5 a6 a7 a8=some r:=by
 subst e;cases m with
 |zero=>cases h
 |succ m=>exact⟨m,rfl,h⟩
end
section
variable {α1 α2 α3 α4 α5 α6 α7 α8 α9 ρ:Type}
def JC(B:(α1->α2->α3->α4->α5->α6->α7->α8->α9->Option ρ)->α1->α2->α3->α4->α5->α6->α7->α8->α9->Option ρ):Nat->α1->α2->α3->α4->α5->α6->α7->α8->α9->Option ρ
 |0,_,_,_,_,_,_,_,_,_ =>none
 |n+1,a1,a2,a3,a4,a5,a6,a7,a8,a9=>B (JC B n) a1 a2 a3 a4 a5 a6 a7 a8 a9
theorem Xx{lb B:(α1->α2->α3->α4->α5->α6->α7->α8->α9->Option ρ)->α1->α2->α3->α4->α5->α6->α7->α8->α9->Option ρ}(e:lb=B){m:Nat}{a1:α1}{a2:α2}{a3:α3}{a4:α4}{a5:α5}{a6:α6}{a7:α7}{a8:α8}{a9:α9}{r:ρ}(h:JC lb m a1 a2 a3 a4 a5 a6 a7 a8 a9=some r):∃m',m=m'+1/\B (JC lb m') a1 a2 a3 a4 a5 a6 a7 a8 a9=some r:=by
 subst e;cases m with
 |zero=>cases h
 |succ m=>exact⟨m,rfl,h⟩
end
section
variable {α1 α2 α3 α4 α5 α6 α7 α8 α9 Ed ρ:Type}
def Au(B:(α1->α2->α3->α4->α5->α6->α7->α8->α9->Ed->Option ρ)->α1->α2->α3->α4->α5->α6->α7->α8->α9->Ed->Option ρ):Nat->α1->α2->α3->α4->α5->α6->α7->α8->α9->Ed->Option ρ
 |0,_,_,_,_,_,_,_,_,_,_ =>none
 |n+1,a1,a2,a3,a4,a5,a6,a7,a8,a9,J8=>B (Au B n) a1 a2 a3 a4 a5 a6 a7 a8 a9 J8
theorem TH{lb B:(α1->α2->α3->α4->α5->α6->α7->α8->α9->Ed->Option ρ)->α1->α2->α3->α4->α5->α6->α7->α8->α9->Ed->Option ρ}(e:lb=B){m:Nat}{a1:α1}{a2:α2}{a3:α3}{a4:α4}{a5:α5}{a6:α6}{a7:α7}{a8:α8}{a9:α9}{J8:Ed}{r:ρ}(h:Au lb m a1 a2 a3 a4 a5 a6 a7 a8 a9 J8=some r):∃m',m=m'+1/\B (Au lb m') a1 a2 a3 a4 a5 a6 a7 a8 a9 J8=some r:=by
 subst e;cases m with
 |zero=>cases h
 |succ m=>exact⟨m,rfl,h⟩
end
section
variable {α1 α2 α3 α4 α5 α6 α7 α8 α9 Ed Ko ρ:Type}
def As(B:(α1->α2->α3->α4->α5->α6->α7->α8->α9->Ed->Ko->Option ρ)->α1->α2->α3->α4->α5->α6->α7->α8->α9->Ed->Ko->Option ρ):Nat->α1->α2->α3->α4->α5->α6->α7->α8->α9->Ed->Ko->Option ρ
 |0,_,_,_,_,_,_,_,_,_,_,_ =>none
 |n+1,a1,a2,a3,a4,a5,a6,a7,a8,a9,J8,Q3=>B (As B n) a1 a2 a3 a4 a5 a6 a7 a8 a9 J8 Q3
theorem TG{lb B:(α1->α2->α3->α4->α5->α6->α7->α8->α9->Ed->Ko->Option ρ)->α1->α2->α3->α4->α5->α6->α7->α8->α9->Ed->Ko->Option ρ}(e:lb=B){m:Nat}{a1:α1}{a2:α2}{a3:α3}{a4:α4}{a5:α5}{a6:α6}{a7:α7}{a8:α8}{a9:α9}{J8:Ed}{Q3:Ko}{r:ρ}(h:As lb m a1 a2 a3 a4 a5 a6 a7 a8 a9 J8 Q3=some r):∃m',m=m'+1/\B (As lb m') a1 a2 a3 a4 a5 a6 a7 a8 a9 J8 Q3=some r:=by
 subst e;cases m with
 |zero=>cases h
 |succ m=>exact⟨m,rfl,h⟩
end
section
variable {α1 α2 α3 α4 α5 α6 α7 α8 α9 Ed Ko VF ρ:Type}
def Fo(B:(α1->α2->α3->α4->α5->α6->α7->α8->α9->Ed->Ko->VF->Option ρ)->α1->α2->α3->α4->α5->α6->α7->α8->α9->Ed->Ko->VF->Option ρ):Nat->α1->α2->α3->α4->α5->α6->α7->α8->α9->Ed->Ko->VF->Option ρ
 |0,_,_,_,_,_,_,_,_,_,_,_,_ =>none
 |n+1,a1,a2,a3,a4,a5,a6,a7,a8,a9,J8,Q3,a12=>B (Fo B n) a1 a2 a3 a4 a5 a6 a7 a8 a9 J8 Q3 a12
theorem TF{lb B:(α1->α2->α3->α4->α5->α6->α7->α8->α9->Ed->Ko->VF->Option ρ)->α1->α2->α3->α4->α5->α6->α7->α8->α9->Ed->Ko->VF->Option ρ}(e:lb=B){m:Nat}{a1:α1}{a2:α2}{a3:α3}{a4:α4}{a5:α5}{a6:α6}{a7:α7}{a8:α8}{a9:α9}{J8:Ed}{Q3:Ko}{a12:VF}{r:ρ}(h:Fo lb m a1 a2 a3 a4 a5 a6 a7 a8 a9 J8 Q3 a12=some r):∃m',m=m'+1/\B (Fo lb m') a1 a2 a3 a4 a5 a6 a7 a8 a9 J8 Q3 a12=some r:=by
 subst e;cases m with
 |zero=>cases h
 |succ m=>exact⟨m,rfl,h⟩
end
section rules
variable {P:Program} {N:Nat} {c:Cx} {D:List Deferred} {Q:Exit->Act->World->Prop} {F:cO} {H:List ay} {d:Option Tmp} {ty:TypeId} {ps:String} {af:Array Edge} {g:Option (Nat×Bool)} {α β γ:Type}
theorem Hf{x:Operand}{y z:Code}{t:Bool}(hc:ev F x=some (.bool t))(h1:t=true->WP P N c D y Q F H)(h0:t=false->WP P N c D z Q F H):WP P N c D (.cond x y z) Q F H:=by
 cases t with
 |true=>exact Q8 hc (h1 rfl)
 |false=>exact Om hc (h0 rfl)
theorem IY{o:Oper}{v v':Value}(h:VS P N c o F H v)(e:v=v'):VS P N c o F H v':=e▸h
theorem Rq{T U:TypeId}{x y:Operand}{k:IntKind}{a b:Int}(hx:ev F x=some (.int k a))(hy:ev F y=some (.int k b)):VS P N c ⟨d, .binOp .and T x y U,ty,ps,af,g⟩ F H (.int k (sx k a b)):=Rm hx hy rfl λ_ _ =>rfl
theorem Ka{T U:TypeId}{x y:Operand}{k k':IntKind}{a b:Int}(hx:ev F x=some (.int k a))(hy:ev F y=some (.int k' b))(h0:0<=b):VS P N c ⟨d, .binOp .shl T x y U,ty,ps,af,g⟩ F H (.int k (Mj k a b)):=U3 hx hy h0 rfl
theorem FQ{T U:TypeId}{x y:Operand}{k k':IntKind}{a b:Int}(hx:ev F x=some (.int k a))(hy:ev F y=some (.int k' b))(h0:0<=b):VS P N c ⟨d, .binOp .shr T x y U,ty,ps,af,g⟩ F H (.int k (HY k a b)):=U2 hx hy h0 rfl
theorem AO{L:bX α}[aS L]{x:α}{k:IntKind}{o b t T:Nat}{y:Operand}{gg:α->Int}{s:α->Int->α}(p:aO L (LI k) o gg s)(hx:ev F y=some (cy b o))[oA H b T (L.enc x)][nD P t]:VS P N c ⟨d, .load t y,ty,ps,af,g⟩ F H (.int k (gg x)):=pb hx (p.int (rp L x))
theorem Va{L:bX α}[aS L]{x:α}{o b t T:Nat}{y:Operand}{gg:α->Bool}{s:α->Bool->α}(p:aO L LB o gg s)(hx:ev F y=some (cy b o))[oA H b T (L.enc x)][nD P t]:VS P N c ⟨d, .load t y,ty,ps,af,g⟩ F H (.bool (gg x)):=pb hx (p.bool (rp L x))
theorem iq{L:bX α}{M:bX β}[aS L][aS M]{x:α}{o b t T q:Nat}{y:Operand}{gg:α->β}{s:α->β->α}(p:aO L M o gg s)(hx:ev F y=some (cy b o))[oA H b T (L.enc x)][ht:qE P t q](hn:M.n=q):VS P N c ⟨d, .load t y,ty,ps,af,g⟩ F H (.agg (M.enc (gg x)).toArray):=by subst hn;exact Bs hx (p.agg x) (fE _ _)
theorem sy{L:bX α}{M:bX β}[aS L][aS M]{x:α}{o b t T q:Nat}{y z:Operand}{gg:α->β}{s:α->β->α}{val:Value}{H':List ay}(p:aO L M o gg s)(v:β)(x':α)(e:x'=s x v)(hx:ev F y=some (cy b o))(hz:ev F z=some val)(hv:val.cells.toList=M.enc v)
  [oA H b T (L.enc x)][ht:Li P t q](hn:M.n=q)[BS H b (L.enc x') H']:RX (α:=Unit) P N c ⟨d, .store t y z,ty,ps,af,g⟩ F H (λ_ =>True) (λ_ =>undef) (λ_ =>H'):=by
 subst hn;subst e;exact qw hx hz hv (fE _ _) (by rw[fE];exact p.le) (zB _ _) (p.put x v)
theorem kB(L:bX α)[aS L](x:α){y:Operand}{t:Nat}{val:Value}(hx:ev F y=some val)(hv:val.cells.toList=L.enc x):
  RX P N c ⟨d, .box t y,ty,ps,af,g⟩ F H (λ_ =>True) (λb=>cy b 0) (λb=> .cells b t (L.enc x)::H):=I6 hx hv
theorem sA{L:bX α}[aS L]{z:α}{t:Nat}(hz:gq P t (L.enc z)):
  RX P N c ⟨d, .alloc t,ty,ps,af,g⟩ F H (λ_ =>True) (λb=>cy b 0) (λb=> .cells b t (L.enc z)::H):=v8 (hz:=hz)
end rules
end Go.Bw
namespace Go.Bw
open Go Go.RowKit
def Hs(R:List ay)(w:World):Prop:=∀r∈R,r.holds w/\∀b∈r.bK,b<w.heap.size
class yp(K:World->Prop):Prop where
 ok:∀w w',K w->aG [] w w'->K w'
instance V0(R:List ay):yp (Hs R):=⟨λw w' h hs r hr=>⟨ay.g9 (h r hr).1 hs.size λb hb=>hs.block b ((h r hr).2 b hb) (by simp),λb hb=>Nat.lt_of_lt_of_le ((h r hr).2 b hb) hs.size⟩⟩
class SG(A:World->Prop)(r:ay):Prop where
 ok:∀w,A w->r.holds w/\∀b∈r.bK,b<w.heap.size
instance(priority:=100) ZG(r:ay)(R:List ay):SG (Hs (r::R)) r:=⟨λ_ h=>h r (by simp)⟩
instance(priority:=50) Wb(r s:ay)(R:List ay)[h:SG (Hs R) r]:SG (Hs (s::R)) r:=⟨λw hw=>h.ok w λq hq=>hw q (by simp[hq])⟩
instance(priority:=30) abT(A B:World->Prop)(r:ay)[h:SG B r]:SG (λw=>A w/\B w) r:=⟨λw hw=>h.ok w hw.2⟩
class VC(A B:World->Prop):Prop where
 ok:∀w,A w->B w
theorem Sm{A B:World->Prop}[h:VC A B]:∀w,A w->B w:=h.ok
instance(priority:=100) ZJ(A:World->Prop):VC A A:=⟨λ_ h=>h⟩
instance(priority:=80) aah(A:World->Prop):VC A (Hs []):=⟨λ_ _ _ h=>by simp at h⟩
instance(priority:=70) ZK(A:World->Prop)(r:ay)(R:List ay)[h:SG A r][k:VC A (Hs R)]:VC A (Hs (r::R)):=⟨λw hw q hq=>by
 rcases List.mem_cons.1 hq with rfl|hq
 ·exact h.ok w hw
 ·exact k.ok w hw q hq⟩
class Kn(c:Cx)(H:List ay)(A:World->Prop):Prop where
 ok:∀w,aG c.bs c.w0 w->aX c.bs c.w0.heap.size H w->A w
theorem kn{c:Cx}{H:List ay}{A:World->Prop}[h:Kn c H A]:∀w,aG c.bs c.w0 w->aX c.bs c.w0.heap.size H w->A w:=h.ok
theorem Be{c:Cx}{H:List ay}{w:World}(h:aX c.bs c.w0.heap.size H w):Hs H w:=λr hr=>⟨h.holds r hr,λb hb=>(h.own r hr b hb).2⟩
instance(priority:=80) abS(c:Cx)(H R:List ay)[h:VC (Hs H) (Hs R)]:Kn c H (Hs R):=⟨λw _ h2=>h.ok w (Be h2)⟩
instance(priority:=80) aaf(c:Cx)(H:List ay):Kn c H (λ_ =>True):=⟨λ_ _ _ =>trivial⟩
theorem TM{c:Cx}{K:World->Prop}[hS:yp K](ku:c.bs=[])(hpre:K c.w0):∀H,Kn c H K:=λH=>⟨λw hs _ =>hS.ok c.w0 w hpre (by rw[ku]at hs;exact hs)⟩
section
variable {α β:Type}
def cS(L:bX α)[aS L](xs:List α):List Value:=(xs.map L.enc).flatten
theorem jh(L:bX α)[aS L](xs:List α):(cS L xs).length=xs.length*L.n:=by
 induction xs with
 |nil=>simp[cS]
 |cons x xs ih=>simp only[cS,List.map_cons,List.flatten_cons,List.length_append,List.length_cons,fE]at *;rw[ih,Nat.succ_mul];omega
theorem Mq(L:bX α)[aS L](xs:List α):lI (cS L xs):=by intro v hv;simp only[cS,List.mem_flatten,List.mem_map]at hv;obtain⟨l,⟨x,_,rfl⟩,h⟩:=hv;exact zB L x v h
theorem p9(L:bX α)[aS L](xs ys:List α):cS L (xs++ys)=cS L xs++cS L ys:=by simp[cS]
theorem Es(L:bX α)[aS L](x:α):cS L [x]=L.enc x:=by simp[cS]
theorem IJ(g:Nat->List Value):∀n,flat g (n+1)=g 0++flat (λi=>g (i+1)) n:=by
 intro n
 induction n with
 |zero=>simp[flat]
 |succ n ih=>rw[flat,ih,flat,List.append_assoc]
theorem eG(L:bX α)[aS L][Inhabited α](xs:List α):cS L xs=(LA L xs.length).enc (λi=>xs.getD i default):=by
 show _ =flat (λi=>L.enc (xs.getD i default)) xs.length
 induction xs with
 |nil=>rfl
 |cons x xs ih=>rw[List.length_cons,IJ];simp only[cS,List.map_cons,List.flatten_cons]at *;rw[ih];rfl
theorem Mr(L:bX α)[aS L](xs:List α)(l h:Nat)(hl:l<=h)(hh:h<=xs.length):((cS L xs).drop (l*L.n)).take ((h-l)*L.n)=cS L ((xs.drop l).take (h-l)):=by
 have e1:xs=xs.take l++((xs.drop l).take (h-l)++(xs.drop l).drop (h-l)):=by rw[List.take_append_drop,List.take_append_drop]
 have l1:(cS L (xs.take l)).length=l*L.n:=by rw[jh,List.length_take,Nat.min_eq_left (by omega)]
 have l2:(cS L ((xs.drop l).take (h-l))).length=(h-l)*L.n:=by rw[jh];congr 1;simp;omega
 conv=>lhs;rw[e1,p9,p9]
 rw[← l1,List.drop_left, ← l2,List.take_left]
theorem Mm(L:bX α)[aS L][Inhabited α](xs:List α)(m:Nat)(y:α)(hm:m<xs.length):(LA L xs.length).enc (mW (λi=>xs.getD i default) m y)=cS L (xs.set m y):=by
 rw[eG,List.length_set];show flat _ _ =flat _ _;refine s0 λi hi=>?_;congr 1;unfold mW;simp only[List.getD,List.getElem?_set];by_cases e:m=i
 ·subst e;simp[hm]
 ·simp[e,Ne.symm e]
structure Fz(A:World->Prop)(v:Value)(L:bX α)[aS L](xs:List α):Prop where
 sl:qF v xs.length
 ro:∀w,A w->Ro w v L.n xs.length (cS L xs)
theorem Fz.mono{A B:World->Prop}{v:Value}{L:bX α}[aS L]{xs:List α}(h:Fz A v L xs)(m:∀w,B w->A w):Fz B v L xs:=⟨h.sl,λw hw=>h.ro w (m w hw)⟩
theorem Fz.nil{A:World->Prop}{L:bX α}[aS L]{a:Option Addr}{cp:Nat}:Fz A (.slice a 0 cp) L ([]:List α):=⟨⟨_,_,rfl⟩,λ_ _ =>⟨by simp[cS], .inl ⟨⟨_,_,rfl⟩,rfl⟩⟩⟩
theorem Fz.at {c:Cx}{H:List ay}{A:World->Prop}{v:Value}{L:bX α}[aS L]{xs:List α}(h:Fz A v L xs)[k:Kn c H A]:mT c H v L.n xs.length (cS L xs):=⟨λw h1 h2=>h.ro w (k.ok w h1 h2)⟩
abbrev og(v:Value)(e sz:Nat)(L:bX α)[aS L](xs:List α):ay:= .row v e sz xs.length (cS L xs)
theorem Fz.row{v:Value}{e sz:Nat}{L:bX α}[aS L]{xs:List α}(hs:sz=L.n)(h:qF v xs.length):Fz (Hs [og v e sz L xs]) v L xs:=⟨h,λw hw=>by
 subst hs;have h1:(og v e L.n L xs).holds w:=(hw _ (List.mem_singleton.2 rfl)).1;exact Ro.rz (e:=e) h1⟩
def V4(L:bX α)[aS L]:bX (List α) where
 n:=1
 dS A cs xs:=∃v,cs=[v]/\Fz A v L xs
 len:=λ⟨v,h,_⟩=>by subst h;rfl
 one:=λ⟨v,h,hf⟩=>by subst h;intro u hu;rw[List.mem_singleton.1 hu];exact hf.sl.one
 mono m:=λ⟨v,h,hf⟩=>⟨v,h,hf.mono m⟩
theorem aO.sl{L:bX α}{M:bX β}[aS M]{o:Nat}{g:α->List β}{s:α->List β->α}(p:aO L (V4 M) o g s){A cs x}(r:L.dS A cs x):∃v,cs[o]? =some v/\Fz A v M (g x):=by
 obtain⟨v,h,hf⟩:=p.get r;refine⟨v,?_,hf⟩;have h2:((cs.drop o).take (V4 M).n)[0]? =some v:=by rw[h];rfl
 rw[List.getElem?_take,ab4 (by show 0<1;decide),List.getElem?_drop]at h2;exact h2
end
section rules
variable {P:Program} {N:Nat} {c:Cx} {D:List Deferred} {Q:Exit->Act->World->Prop} {F:cO} {H:List ay} {d:Option Tmp} {ty:TypeId} {ps:String} {af:Array Edge} {g:Option (Nat×Bool)} {α β γ:Type}
section
variable {A:World->Prop} {v:Value} {L:bX α} [aS L] {xs:List α}
theorem pc{x:Operand}{t e q:Nat}[ht:sD P t e q](hf:Fz A v L xs)(hx:ev F x=some v)[Kn c H A]:VS P N c ⟨d, .call ⟨.builtin .len, #[x], #[t]⟩,ty,ps,af,g⟩ F H (.int .i64 (xs.length:Int)):=by haveI:=hf.at (c:=c) (H:=H);exact I2 hx
theorem vX{x y:Operand}{t e sz m:Nat}{k:IntKind}{i:Int}[ht:sD P t e sz](hf:Fz A v L xs)(hs:L.n=sz)(hx:ev F x=some v)(hy:ev F y=some (.int k i))[Kn c H A](hi:i=(m:Int))(hm:m<xs.length):
  VS P N c ⟨d, .indexAddr t x y,ty,ps,af,g⟩ F H (dZ v (m*sz)):=by
 haveI:=hf.at (c:=c) (H:=H);subst hs;exact tn hx hy hi hm
variable [Inhabited α]
theorem wE{k:IntKind}{o t:Nat}{y:Operand}{gg:(Nat->α)->Int}{s:(Nat->α)->Int->(Nat->α)}(hf:Fz A v L xs)(p:aO (LA L xs.length) (LI k) o gg s)(hx:ev F y=some (dZ v o))[Kn c H A][nD P t]:VS P N c ⟨d, .load t y,ty,ps,af,g⟩ F H (.int k (gg (λi=>xs.getD i default))):=by haveI:=hf.at (c:=c) (H:=H);exact Bt hx (by rw[eG];exact p.int (rp _ _))
end
def ij(n m b:Nat):Bool:=decide ((n+m)*b<=140737488355328/\n+m<=9223372036854775807)
theorem qt{n m b:Nat}(h:ij n m b=true):(n+m)*b<=140737488355328/\n+m<=9223372036854775807:=of_decide_eq_true h
section
variable {v:Value} {L:bX α} [aS L] {xs:List α} {t e sz bytes:Nat} {f:ay->List ay}
theorem FY{s x:Operand}{b T cp:Nat}{y:α}[HF P t e sz bytes](hs:ev F s=some v)[hr:qZ H v e sz xs.length (cS L xs) f](hx:ev F x=some (.slice (some ⟨b,0,none⟩) 1 cp))[hc:oA H b T (L.enc y)](hn:L.n=sz)
  (JI:(xs.length+1)*bytes<=140737488355328)(h63:xs.length+1<=9223372036854775807):
  RX P N c ⟨d, .call ⟨.builtin .append, #[s,x], #[t,t]⟩,ty,ps,af,g⟩ F H (λv'=>qF v' (xs++[y]).length) (λv'=>v') (λv'=>f (og v' e sz L (xs++[y]))):=by
 have h:=Lm (P:=P) (N:=N) (c:=c) (F:=F) (H:=H) (d:=d) (ty:=ty) (p:=ps) (af:=af) (g:=g) (t:=t) (m:=1) hs hx (by rw[fE,hn];omega) (zB L y) JI h63 (hr:=hr) (hc:=hc);have e1:(xs++[y]).length=xs.length+1:=by simp
 have e2:cS L (xs++[y])=cS L xs++L.enc y:=by rw[p9,Es]
 unfold og;rw[e1,e2];exact h
theorem FX{x:Operand}(L:bX α)[aS L](y:α){zs:List Value}{val:Value}[ht:sD P t e sz][hz:gq P e zs](hx:ev F x=some val)(hc:val.cells.toList=L.enc y)(hl:L.n=sz)(hzl:zs.length=sz)(h0:0<sz)(hs:sz<=16777216):
  RX P N c ⟨d, .buildSlice t 1 #[(0,x)],ty,ps,af,g⟩ F H (λ_ =>True) (λb=> .slice (some ⟨b,0,none⟩) 1 1) (λb=> .cells b e (L.enc y)::H):=Dw hx hc (by rw[fE];exact hl) hzl h0 hs
end
theorem FO{x:Code}(e sz:Nat)(L:bX α)[aS L](h:WP P N c D x Q F (og (.slice none 0 0) e sz L []::H)):WP P N c D x Q F H:=Q9 e sz h
theorem Q5{x:Exit}(e sz:Nat)(L:bX α)[aS L](h:WQ N c D Q x F (og (.slice none 0 0) e sz L []::H)):WQ N c D Q x F H:=Q6 e sz h
abbrev Wg(P:Program)(f:Nat)(args:List Value)(K:World->Prop)(p:(World->Prop)->Value->Prop):Prop:=
 Fn (α:=Value×List Nat×(World->Prop)) P f args K [] (λx=>p (Hs [.ext x.2.1 x.2.2]) x.1) (λx=>x.1) (λx=>[.ext x.2.1 x.2.2])
theorem N3{bs:List Nat}{n0:Nat}{w:World}{R H':List ay}(h:aX bs n0 (R++H') w):aX bs n0 (.ext (aV R) (Hs R)::H') w:=by
 have hp:=List.pairwise_append.1 h.apart;refine⟨λr hr=>?_,λr hr b hb=>?_,?_⟩
 ·rcases List.mem_cons.1 hr with rfl|hr
  ·intro w' h1 h2 q hq
   have CY:=h.holds q (ace _ hq);exact⟨ay.g9 CY h1 λb hb=>h2 b (aN.2 ⟨q,hq,hb⟩),λb hb=>Nat.lt_of_lt_of_le (h.own q (ace _ hq) b hb).2 h1⟩
  ·exact h.holds r (acd _ hr)
 ·rcases List.mem_cons.1 hr with rfl|hr
  ·obtain⟨q,hq,hb⟩:=aN.1 hb;exact h.own q (ace _ hq) b hb
  ·exact h.own r (acd _ hr) b hb
 ·refine List.pairwise_cons.2 ⟨λs hs b hb ku=>?_,hp.2.1⟩
  obtain⟨q,hq,hb⟩:=aN.1 hb;exact hp.2.2 q hq s hs b hb ku
theorem AK{e:Exit}{R H':List ay}{ks:List Nat}(hk:pick H ks=some (R++H'))(hn:ks.Nodup)(h:WQ N c D Q e F (.ext (aV R) (Hs R)::H')):WQ N c D Q e F H:=Oe (λ_ _ _ hp=>N3 (hp.pick hk hn)) h
instance(priority:=60) aag(bs:List Nat)(R:List ay)(r:ay)(S:List ay)[h:SG (Hs R) r]:SG (Hs (.ext bs (Hs R)::S)) r:=⟨λw hw=>h.ok w (zA (hw (.ext bs (Hs R)) (by simp)).1)⟩
end rules
end Go.Bw
namespace Go.Bw
open Go Go.RowKit
section rules
variable {P:Program} {N:Nat} {c:Cx} {D:List Deferred} {Q:Exit->Act->World->Prop} {F:cO} {H:List ay} {d:Option Tmp} {ty:TypeId} {ps:String} {af:Array Edge} {g:Option (Nat×Bool)} {α β γ:Type}
def De(P:Program)(t n e sz:Nat):Bool:=match P.underlying t with
 |some (.pointer a)=>Di P a n e sz
 |_ =>false
theorem AF{t n e sz:Nat}(h:De P t n e sz=true):∃a i,P.underlying t=some (.pointer a)/\P.underlying a=some (.array n e)/\P.info? e=some i/\i.size=sz:=by
 unfold De at h;split at h
 ·rename_i a h1
  obtain⟨i,h2,h3,h4⟩:=pe.get h;exact⟨a,i,h1,h2,h3,h4⟩
 ·cases h
def OY(b off l n sz:Nat):Value:= .slice (some (if n=l then⟨b,off,none⟩else⟨b,off+l*sz,none⟩)) (n-l) (n-l)
theorem Hh{x hi:Operand}{t n e sz b off m:Nat}{k:IntKind}{i:Int}[ht:pe P t n e sz](hx:ev F x=some (cy b off))(hhi:ev F hi=some (.int k i))(h1:i=(m:Int))(hm:m<=n):
  VS P N c ⟨d, .slice t x none (some hi) none,ty,ps,af,g⟩ F H (.slice (some ⟨b,off,none⟩) m n):=
 az (by simp) λa w hf _ _ =>by obtain⟨inf,e1,e3,e4⟩:=pe.get ht.ok;subst h1;have b1:=lq (P:=P) (k:=k) (w:=w) (code:= .sliceAlen) hm;simp[execOp,aA hf hx,aA hf hhi,Instr.sliceAt,run_underlying e1,Instr.sliceBounds,b1,sizeOf,typeInfo,e3,cy,Instr.sureAddr,asAddr,Addr.add]
theorem Ot{x lo:Operand}{t n e sz b off l:Nat}{k:IntKind}{i:Int}[ht:pe P t n e sz](hx:ev F x=some (cy b off))(hlo:ev F lo=some (.int k i))(h1:i=(l:Int))(hl:l<=n):
  VS P N c ⟨d, .slice t x (some lo) none none,ty,ps,af,g⟩ F H (OY b off l n sz):=
 az (by simp) λa w hf _ _ =>by obtain⟨inf,e1,e3,e4⟩:=pe.get ht.ok;subst h1;have b1:=lq (P:=P) (k:=k) (w:=w) (code:= .sliceB) hl;simp[execOp,aA hf hx,aA hf hlo,Instr.sliceAt,run_underlying e1,Instr.sliceBounds,b1,sizeOf,typeInfo,e3,e4,cy,Instr.sureAddr,asAddr,OY,Addr.add_lit]
theorem Le{x:Operand}{t n e sz b off:Nat}[ht:pe P t n e sz](hx:ev F x=some (cy b off)):
  VS P N c ⟨d, .slice t x none none none,ty,ps,af,g⟩ F H (.slice (some ⟨b,off,none⟩) n n):=
 az (by simp) λa w hf _ _ =>by obtain⟨inf,e1,e3,e4⟩:=pe.get ht.ok;simp[execOp,aA hf hx,Instr.sliceAt,run_underlying e1,Instr.sliceBounds,sizeOf,typeInfo,e3,e4,cy,Instr.sureAddr,asAddr,Addr.add]
theorem Hg{x hi:Operand}{t n e sz b off m:Nat}{k:IntKind}{i:Int}(ht:De P t n e sz=true)(hx:ev F x=some (cy b off))(hhi:ev F hi=some (.int k i))(h1:i=(m:Int))(hm:m<=n):
  VS P N c ⟨d, .slice t x none (some hi) none,ty,ps,af,g⟩ F H (.slice (some ⟨b,off,none⟩) m n):=
 az (by simp) λa w hf _ _ =>by obtain⟨ar,inf,e1,e2,e3,e4⟩:=AF ht;subst h1;have b1:=lq (P:=P) (k:=k) (w:=w) (code:= .sliceAlen) hm;simp[execOp,aA hf hx,aA hf hhi,Instr.sliceAt,run_underlying e1,run_underlying e2,Instr.slice,Instr.sliceBounds,b1,sizeOf,typeInfo,e3,cy,Instr.sureAddr,asAddr,Addr.add]
theorem Oq{x lo:Operand}{t n e sz b off l:Nat}{k:IntKind}{i:Int}(ht:De P t n e sz=true)(hx:ev F x=some (cy b off))(hlo:ev F lo=some (.int k i))(h1:i=(l:Int))(hl:l<=n):
  VS P N c ⟨d, .slice t x (some lo) none none,ty,ps,af,g⟩ F H (OY b off l n sz):=
 az (by simp) λa w hf _ _ =>by obtain⟨ar,inf,e1,e2,e3,e4⟩:=AF ht;subst h1;have b1:=lq (P:=P) (k:=k) (w:=w) (code:= .sliceB) hl;simp[execOp,aA hf hx,aA hf hlo,Instr.sliceAt,run_underlying e1,run_underlying e2,Instr.slice,Instr.sliceBounds,b1,sizeOf,typeInfo,e3,e4,cy,Instr.sureAddr,asAddr,OY,Addr.add_lit]
theorem Ld{x:Operand}{t n e sz b off:Nat}(ht:De P t n e sz=true)(hx:ev F x=some (cy b off)):
  VS P N c ⟨d, .slice t x none none none,ty,ps,af,g⟩ F H (.slice (some ⟨b,off,none⟩) n n):=
 az (by simp) λa w hf _ _ =>by obtain⟨ar,inf,e1,e2,e3,e4⟩:=AF ht;simp[execOp,aA hf hx,Instr.sliceAt,run_underlying e1,run_underlying e2,Instr.slice,Instr.sliceBounds,sizeOf,typeInfo,e3,e4,cy,Instr.sureAddr,asAddr,Addr.add]
def Ss{β:Type}(i j n:Nat)(a:Nat->β):Nat->β:=λq=>if i<=q/\q<i+min (n-j) (n-i)then a (q-i+j)else a q
theorem NK{f:Nat->List Value}(h:∀i,(f i).length=1){n q:Nat}:(flat f n)[q]? =if q<n then(f q)[0]? else none:=by
 by_cases hq:q<n
 ·rw[ab4 hq]
  have:=qi (g:=f) (k:=1) (n:=n) (i:=q) (j:=0) (λi _ =>h i) hq (by decide);rwa[Nat.mul_one,Nat.add_zero]at this
 ·rw[ab5 hq]
  exact List.getElem?_eq_none (by rw[eM (k:=1) (λi _ =>h i)];omega)
theorem OA{A:World->Prop}{v:Value}{L:bX α}[aS L]{xs:List α}{x hi mx:Operand}{t e q:Nat}{k k':IntKind}[ht:sD P t e q](hf:Fz A v L xs)(hx:ev F x=some v)(hh:ev F hi=some (.int k (xs.length:Int)))(hm:ev F mx=some (.int k' (xs.length:Int)))[Kn c H A]:
  VS P N c ⟨d, .slice t x none (some hi) (some mx),ty,ps,af,g⟩ F H (uc v):=by
 haveI:=hf.at (c:=c) (H:=H);exact Kh hx hh hm
def LG(bs:List Nat)(K:World->Prop)(w:World):Prop:=∀w',aG bs w w'->K w'
class V6(c:Cx)(R:List ay)(K:World->Prop):Prop where
 ok:∀w,aG c.bs c.w0 w->Hs R w->K w
instance(priority:=80) ZE(c:Cx)(R:List ay):V6 c R (λ_ =>True):=⟨λ_ _ _ =>trivial⟩
instance(priority:=20) ab1(c:Cx)(H:List ay)(K:World->Prop)[h:V6 c H K]:Kn c H K:=⟨λw h1 h2=>h.ok w h1 (Be h2)⟩
theorem Qj{c:Cx}{K:World->Prop}[hS:yp K](ku:c.bs=[])(hpre:K c.w0):∀R,V6 c R K:=λR=>⟨λw hs _ =>hS.ok c.w0 w hpre (by rw[ku]at hs;exact hs)⟩
abbrev FnC(P:Program)(f:Nat)(args:List Value)(K:World->Prop)(jy:List ay)(p:(World->Prop)->Value->List ay->Prop):Prop:=
 Fn (α:=Value×List ay×List Nat×(World->Prop)) P f args (LG (aV jy) K) jy (λx=>p (Hs [.ext x.2.2.1 x.2.2.2]) x.1 x.2.1) (λx=>x.1) (λx=> .ext x.2.2.1 x.2.2.2::x.2.1)
theorem v7{α:Type}{x:Operand}{args:List Operand}{ats:Array TypeId}{f:Nat}{fst cap:Array Value}{us vs:List Value}{K:World->Prop}{jy rest:List ay}{p:α->Prop}{fv:α->Value}{fH:α->List ay}{ks:List Nat}
  (hc:Fn P f vs (LG (aV jy) K) jy p fv fH)(hx:ev F x=some (.func (.func f) fst cap))(ha:Bl F args=some us)(hv:fst.toList++us++cap.toList=vs)(hkp:pick H ks=some (jy++rest))(hn:ks.Nodup)[hK:V6 c rest K]:
  RX P N c ⟨d, .call ⟨.value x,args.toArray,ats⟩,ty,ps,af,g⟩ F H p fv (λi=>fH i++rest):=λD a w next Q hst hk=>by
 refine⟨λ_ _ =>trivial,?_⟩;have hs:Oper.semAt (FA c.ro).round a.eval (⟨d, .call ⟨.value x,args.toArray,ats⟩,ty,ps,af,g⟩:Oper)=execOp a.eval ⟨d, .call ⟨.value x,args.toArray,ats⟩,ty,ps,af,g⟩:=Oper.semAt_eq _ _ _ (by simp);have hr:(execOp a.eval ⟨d, .call ⟨.value x,args.toArray,ats⟩,ty,ps,af,g⟩).run P w= .ok (.enter f vs.toArray) w:=by
  have e1:=aA hst.fr hx;have e2:=FH hst.fr ha;have e3:fst++(args.toArray.map a.eval)++cap=vs.toArray:=by rw[← hv, ← e2];simp
  simp only[execOp,resolve,e1,Deferred.ofValue,Sem.run_bind,Sem.run_pure,Result.andThen_ok,invoke,e3];exact hc.enter _ _
 rw[hs,hr];refine⟨λh=>by simp at h,gk c.ro ?_⟩;have hp:=hst.hp.pick hkp hn;have hap:=List.pairwise_append.1 hp.apart;have hin:aX (aV jy) w.heap.size jy w:=⟨λr hr=>hp.holds r (ace _ hr),λr hr b hb=>⟨.inl (aN.2 ⟨r,hr,hb⟩),(hp.own r (ace _ hr) b hb).2⟩,hap.1⟩;have hkeep:∀{w':World},aG (aV jy) w w'->∀r∈rest,r.holds w'/\∀b∈r.bK,b<w'.heap.size:=λhsi r hr=>by have hlt:∀b∈r.bK,b<w.heap.size:=λb hb=>(hp.own r (acd _ hr) b hb).2;refine⟨ay.g9 (hp.holds r (acd _ hr)) hsi.size λb hb=>hsi.block b (hlt b hb) λhm=>?_,λb hb=>Nat.lt_of_lt_of_le (hlt b hb) hsi.size⟩;obtain⟨q,hq,Nr⟩:=aN.1 hm;exact hap.2.2 q hq r hr b Nr hb
 have hown:∀b∈aV jy,b∈c.bs\/c.w0.heap.size<=b:=λb hb=>by obtain⟨q,hq,Nr⟩:=aN.1 hb;exact(hp.own q (ace _ hq) b Nr).1
 have hpre:LG (aV jy) K w:=λw' hsi=>hK.ok w' (hst.si.trans hsi hown) (hkeep hsi);have qg:=hc.calls w hpre hin;intro cs;obtain⟨e,w',fr,⟨i,Qq,he,hsi,hh⟩,fb⟩:=qg cs;refine⟨e,w',fr,?_,fb⟩;subst he;have CX:=hkeep hsi;refine hk i w' Qq (hst.si.trans hsi hown) ⟨λr hm=>?_,λr hm b hb=>?_,List.pairwise_append.2 ⟨hh.apart,hap.2.1,λr h1 s h2 b hb JJ=>?_⟩⟩
 ·rcases List.mem_append.1 hm with h1|h1
  ·exact hh.holds r h1
  ·exact(CX r h1).1
 ·rcases List.mem_append.1 hm with h1|h1
  ·obtain⟨o,l⟩:=hh.own r h1 b hb
   refine⟨?_,l⟩;rcases o with o|o
   ·exact hown b o
   ·exact .inr (Nat.le_trans hst.si.size o)
  ·exact⟨(hp.own r (acd _ h1) b hb).1,(CX r h1).2 b hb⟩
 ·obtain⟨o,_⟩:=hh.own r h1 b hb
  rcases o with o|o
  ·obtain⟨q,hq,Nr⟩:=aN.1 o
   exact hap.2.2 q hq s h2 b Nr JJ
  ·have:=(hp.own s (acd _ h2) b JJ).2
   omega
end rules
end Go.Bw
namespace Go.Bw
open Go Go.RowKit Go.ChangeShapes Go.WideShapes Go.Deep
theorem Below.MR{w w':World}(h:aG [] w w'):Below w.heap.size w w':=⟨h.os,h.tape,h.output,h.size,λk hk=>h.block k hk (by simp)⟩
end Go.Bw
namespace Go.Bw
open Go Go.RowKit Go.ChangeShapes Go.WideShapes Go.Deep
end Go.Bw
namespace Go.Bw
open Go Go.RowKit Go.ChangeShapes Go.WideShapes Go.Deep
section
variable {α β:Type}
structure yB[Inhabited α](A:World->Prop)(v:Value)(L:bX α)(ws:List Value)(xs:List α):Prop where
 sl:qF v xs.length
 dS:(LA L xs.length).dS A ws (λi=>xs.getD i default)
 ro:∀w,A w->Ro w v L.n xs.length ws
theorem yB.mono[Inhabited α]{A B:World->Prop}{v:Value}{L:bX α}{ws:List Value}{xs:List α}(h:yB A v L ws xs)(m:∀w,B w->A w):yB B v L ws xs:=⟨h.sl,bX.mono _ m h.dS,λw hw=>h.ro w (m w hw)⟩
theorem yB.at [Inhabited α]{c:Cx}{H:List ay}{A:World->Prop}{v:Value}{L:bX α}{ws:List Value}{xs:List α}(h:yB A v L ws xs)[k:Kn c H A]:mT c H v L.n xs.length ws:=⟨λw h1 h2=>h.ro w (k.ok w h1 h2)⟩
theorem yB.nil[Inhabited α]{A:World->Prop}{L:bX α}:yB A (.slice none 0 0) L [] ([]:List α):=⟨⟨_,_,rfl⟩,⟨λ_ =>[],rfl,λi hi=>absurd hi (Nat.not_lt_zero _)⟩,λ_ _ =>⟨by simp, .inl ⟨⟨_,_,rfl⟩,rfl⟩⟩⟩
def OS[Inhabited α](L:bX α):bX (List α) where
 n:=1
 dS A cs xs:=∃v ws,cs=[v]/\yB A v L ws xs
 len:=λ⟨v,ws,h,_⟩=>by subst h;rfl
 one:=λ⟨v,ws,h,hf⟩=>by subst h;intro u hu;rw[List.mem_singleton.1 hu];exact hf.sl.one
 mono m:=λ⟨v,ws,h,hf⟩=>⟨v,ws,h,hf.mono m⟩
end
section rules
variable {P:Program} {N:Nat} {c:Cx} {D:List Deferred} {Q:Exit->Act->World->Prop} {F:cO} {H:List ay} {d:Option Tmp} {ty:TypeId} {ps:String} {af:Array Edge} {g:Option (Nat×Bool)} {α β γ:Type}
 {A:World->Prop} {v:Value} {L:bX α} [Inhabited α] {ws:List Value} {xs:List α}
theorem Kc{x:Operand}{t e q:Nat}[ht:sD P t e q](hf:yB A v L ws xs)(hx:ev F x=some v)[Kn c H A]:VS P N c ⟨d, .call ⟨.builtin .len, #[x], #[t]⟩,ty,ps,af,g⟩ F H (.int .i64 (xs.length:Int)):=by haveI:=hf.at (c:=c) (H:=H);exact I2 hx
theorem Vb{x y:Operand}{t e sz m:Nat}{k:IntKind}{i:Int}[ht:sD P t e sz](hf:yB A v L ws xs)(hs:L.n=sz)(hx:ev F x=some v)(hy:ev F y=some (.int k i))[Kn c H A](hi:i=(m:Int))(hm:m<xs.length):
  VS P N c ⟨d, .indexAddr t x y,ty,ps,af,g⟩ F H (dZ v (m*sz)):=by
 haveI:=hf.at (c:=c) (H:=H);subst hs;exact tn hx hy hi hm
theorem Rh{x:Operand}{s f fo k m:Nat}[BR P s f fo](hf:yB A v L ws xs)(hx:ev F x=some (dZ v k))[Kn c H A](hm:m<xs.length):VS P N c ⟨d, .fieldAddr s x f,ty,ps,af,g⟩ F H (dZ v (k+fo)):=by haveI:=hf.at (c:=c) (H:=H);exact FT hx hm
theorem Rg{x y:Operand}{t len e sz k0 m q:Nat}{k:IntKind}{i:Int}[h:pe P t len e sz](hf:yB A v L ws xs)(hx:ev F x=some (dZ v k0))(hy:ev F y=some (.int k i))[Kn c H A](hq:q<xs.length)(hi:i=(m:Int))(hm:m<len):
  VS P N c ⟨d, .indexAddr t x y,ty,ps,af,g⟩ F H (dZ v (k0+m*sz)):=
 az (by simp) λa w O3 hs hp=>by haveI:=hf.at (c:=c) (H:=H);obtain⟨gb,off,cap,rfl,_,_,_⟩:=((hf.at (c:=c) (H:=H)).ro w hs hp).at hq;obtain⟨inf,h1,h2,h3⟩:=pe.get h.ok;subst hi;simp[execOp,aA O3 hx,aA O3 hy,dZ,Instr.indexAt,asIntOf,run_underlying h1,Instr.sureAddr,sizeOf,typeInfo,h2,h3,Addr.add_lit,Nat.add_assoc];intro hle;exact absurd (hm) (by omega)
end rules
end Go.Bw
