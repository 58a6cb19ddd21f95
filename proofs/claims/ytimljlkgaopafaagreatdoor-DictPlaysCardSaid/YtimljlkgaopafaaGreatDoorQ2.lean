/- Part 2 of what a proof leans on; pruned and shortened by a program out of longer texts. -/
import Derived.Test.YtimljlkgaopafaaGreatDoorQ1
namespace Go.Bw
open Go Go.RowKit
theorem NN{F:eH}{x:Operand}{r:List Operand}{v:Value}{vs:List Value}(h:ev F x=some v)(hr:D3 F r=some vs):D3 F (x::r)=some (v::vs):=by simp[D3,h,hr]
def gC(v:Value)(k:Nat):Value:=match v with
 | .slice (some a) _ _ => .pointer (some ⟨a.block,a.off+k,none⟩)
 |_ =>undef
theorem Ro.since{w w':World}{v:Value}{sz n:Nat}{xs:List Value}(h:Ro w v sz n xs)(hs:aQ [] w w'):Ro w' v sz n xs:=by
 refine⟨h.1,?_⟩;rcases h.2 with h0|⟨g,off,cap,h1,h2,h3,h4⟩
 ·exact .inl h0
 ·exact .inr ⟨g,off,cap,h1,Nat.lt_of_lt_of_le h2 hs.size,h3,λj u hu=>(World.cell?_of_block (hs.block g h2 (by simp))).trans (h4 j u hu)⟩
theorem Ro.vR{w:World}{v:Value}{e sz n:Nat}{xs:List Value}(h:(aE.row v e sz n xs).holds w):Ro w v sz n xs:=by
 have h':kZ w e sz v n xs:=h;refine⟨h'.1,?_⟩;rcases h'.2 with h0|⟨g,o,cap,cur,h1,h3,h4,_,h5,h6⟩
 ·exact .inl ⟨⟨_,_,h0.1⟩,h0.2⟩
 ·refine .inr ⟨g,o,cap,h1,(akl.1 h3).1,h4,λj u hu=>?_⟩
  rw[cell_of_row w g (o+j) cur e (0,0) h3, ← Array.getElem?_toList];rw[← h6,List.getElem?_take]at hu;split at hu
  ·rwa[List.getElem?_drop]at hu
  ·cases hu
theorem Ro.at {w:World}{v:Value}{sz n m:Nat}{xs:List Value}(h:Ro w v sz n xs)(hm:m<n):∃g off cap,v= .slice (some ⟨g,off,none⟩) n cap/\g<w.heap.size/\n<=cap/\∀(j:Nat) u,xs[j]? =some u->w.cell? ⟨g,off+j,none⟩=some u:=by
 rcases h.2 with⟨_,h0⟩|h1
 ·omega
 ·exact h1
section
variable {P:Program} {N:Nat} {c:Cx} {F:eH} {H:List aE} {d:Option Tmp} {ty:TypeId} {p:String} {af:Array Edge} {g:Option (Nat×Bool)}
class qf(c:Cx)(H:List aE)(v:Value)(sz n:outParam Nat)(xs:outParam (List Value)):Prop where
 ro:∀w,aQ c.bs c.w0 w->bH c.bs c.w0.heap.size H w->Ro w v sz n xs
theorem Ql{x:Operand}{v:Value}{t e q sz n:Nat}{xs:List Value}[ht:vD P t e q](hx:ev F x=some v)[h:qf c H v sz n xs]:VS P N c ⟨d, .call ⟨.builtin .len, #[x], #[t]⟩,ty,p,af,g⟩ F H (.int .i64 n):=
 aG (by simp) λa w hf hs hp=>by have hr:=h.ro w hs hp;obtain⟨inf,h1,_,_⟩:=vD.get ht.ok;rcases hr.2 with⟨⟨a0,cp,rfl⟩,rfl⟩|⟨g,off,cap,rfl,_⟩<;>simp[execOp,resolve,invoke,builtin,aI hf hx,Builtin.len_,goInt,run_underlying h1]
theorem xO{x y:Operand}{t e sz n:Nat}{v:Value}{xs:List Value}{k:IntKind}{i:Int}{m:Nat}[ht:vD P t e sz](hx:ev F x=some v)(hy:ev F y=some (.int k i))[h:qf c H v sz n xs](hi:i=(m:Int))(hm:m<n):
  VS P N c ⟨d, .indexAddr t x y,ty,p,af,g⟩ F H (gC v (m*sz)):=
 aG (by simp) λa w hf hs hp=>by obtain⟨g,off,cap,rfl,_,_,_⟩:=(h.ro w hs hp).at hm;obtain⟨inf,h1,h2,h3⟩:=vD.get ht.ok;subst hi;simp[execOp,aI hf hx,aI hf hy,Instr.indexAt,asIntOf,run_underlying h1,sizeOf,typeInfo,h2,h3,Addr.add_lit,gC];intro hle;omega
theorem MC{x:Operand}{s f fo k m sz n:Nat}{v:Value}{xs:List Value}[Gy P s f fo](hx:ev F x=some (gC v k))[h:qf c H v sz n xs](hm:m<n):VS P N c ⟨d, .fieldAddr s x f,ty,p,af,g⟩ F H (gC v (k+fo)):=
 aG (by simp) λa w hf hs hp=>by obtain⟨g,off,cap,rfl,_,_,_⟩:=(h.ro w hs hp).at hm;have:=zo (P:=P) (s:=s) (f:=f) (b:=g) (off:=off+k) w;simp only[execOp,aI hf hx,gC];simp[this,Nat.add_assoc]
theorem F4{x:Operand}{t k sz n:Nat}{v u:Value}{xs:List Value}(hx:ev F x=some (gC v k))[h:qf c H v sz n xs][qS P t](hv:xs[k]? =some u):VS P N c ⟨d, .load t x,ty,p,af,g⟩ F H u:=
 aG (by simp) λa w hf hs hp=>by
  have hr:=h.ro w hs hp;have hl:=(List.getElem?_eq_some_iff.1 hv).1;have hn:0<n:=by
   rcases Nat.eq_zero_or_pos n with h0|h0
   ·subst h0;have:=hr.1;omega
   ·exact h0
  obtain⟨g,off,cap,rfl,_,_,h4⟩:=hr.at hn;have:=lq (P:=P) (t:=t) (a:=⟨g,off+k,none⟩) (h4 k u hv);simp[execOp,aI hf hx,gC,Instr.loadAt,Instr.sureAddr,this]
theorem MB{x:Operand}{t k sz n q:Nat}{v:Value}{xs us:List Value}(hx:ev F x=some (gC v k))[h:qf c H v sz n xs][ve P t q](hv:(xs.drop k).take q=us)(hq:us.length=q)(h0:0<q):VS P N c ⟨d, .load t x,ty,p,af,g⟩ F H (.agg us.toArray):=
 aG (by simp) λa w hf hs hp=>by
  have hr:=h.ro w hs hp;have hl:0<xs.length:=by
   have:us.length<=xs.length:=by rw[← hv];simp;omega
   omega
  have hn:0<n:=by
   rcases Nat.eq_zero_or_pos n with h0|h0
   ·subst h0;have:=hr.1;omega
   ·exact h0
  obtain⟨g,off,cap,rfl,_,_,h4⟩:=hr.at hn;have:=lu (P:=P) (t:=t) (b:=g) (off:=off+k) (w:=w) hq (λj u hj=>by
   rw[← hv,List.getElem?_take]at hj;split at hj
   ·rw[List.getElem?_drop]at hj;rw[Nat.add_assoc];exact h4 _ u hj
   ·cases hj)
  simp[execOp,aI hf hx,gC,Instr.loadAt,Instr.sureAddr,this]
theorem aeM{x y:Operand}{k:IntKind}{a b:Int}{ats:Array TypeId}(hx:ev F x=some (.int k a))(hy:ev F y=some (.int k b)):VS P N c ⟨d, .call ⟨.builtin .min, #[x,y],ats⟩,ty,p,af,g⟩ F H (.int k (if b<a then b else a)):=
 aG (by simp) λa' w hf _ _ =>by simp[execOp,resolve,invoke,builtin,aI hf hx,aI hf hy,Builtin.min_,Builtin.min2]
theorem aeN{x y:Operand}{k:IntKind}{a b:Int}{ats:Array TypeId}(hx:ev F x=some (.int k a))(hy:ev F y=some (.int k b)):VS P N c ⟨d, .call ⟨.builtin .max, #[x,y],ats⟩,ty,p,af,g⟩ F H (.int k (if a<b then b else a)):=
 aG (by simp) λa' w hf _ _ =>by simp[execOp,resolve,invoke,builtin,aI hf hx,aI hf hy,Builtin.max_,Builtin.max2]
def HZ(P:Program)(t:Nat):Option (List (Nat×Nat)):=match P.underlying t with
 |some (.struct fs)=>fs.toList.mapM λf=>(P.info? f.type).map λi=>(f.offset,i.size)
 |_ =>none
def vx(pl:List (Nat×Nat)):List Value->List (Nat×Value)->Option (List Value)
 |cs,[]=>some cs
 |cs,(i,v)::r=>match pl[i]? with
  |none=>none
  |some (off,sz)=>if v.cells.size≠sz||decide (off+v.cells.size>cs.length)then none else vx pl (bX cs off v.cells.toList) r
class TPl(P:Program)(t:TypeId)(pl:outParam (List (Nat×Nat))):Prop where
 ok:HZ P t=some pl
theorem Tj(vs:List Value):∀(cs:Array Value) (off j:Nat),off+j+vs.length<=cs.size->((vs.zipIdx j).foldl (λ(cs:Array Value) (q:Value×Nat)=>cs.setIfInBounds (off+q.2) q.1) cs).toList=bX cs.toList (off+j) vs:=by
 induction vs with
 |nil=>intro cs off j h;simp[bX]
 |cons v r ih=>
  intro cs off j h;simp only[List.zipIdx_cons,List.foldl_cons];have hl:off+j+(r.length+1)<=cs.size:=h;rw[ih (cs.setIfInBounds (off+j) v) off (j+1) (by simp;omega)];refine List.ext_getElem? λm=>?_;have g:∀(zs0:List Value) (o:Nat) (us:List Value),o+us.length<=zs0.length->∀m:Nat,(bX zs0 o us)[m]? =if o<=m/\m<o+us.length then us[m-o]? else zs0[m]? :=by
   intro zs0 o us h m;unfold bX;by_cases h1:m<o
   ·rw[ake (by omega),List.append_assoc,List.getElem?_append_left (by simp;omega),List.getElem?_take,akd h1]
   ·by_cases h2:m<o+us.length
    ·rw[akd (by omega),List.append_assoc,List.getElem?_append_right (by simp;omega),List.getElem?_append_left (by simp;omega)]
     congr 1;simp;omega
    ·rw[ake (by omega),List.getElem?_append_right (by simp;omega),List.getElem?_drop]
     congr 1;simp;omega
  rw[g _ _ _ (by simp;omega),g _ _ _ (by simp;omega)];simp only[Array.toList_setIfInBounds,List.length_cons];by_cases e:m=off+j
  ·subst e
   rw[ake (by omega),akd (by omega)];have hc:off+j<cs.size:=by omega
   simp[hc]
  ·by_cases h1:off+(j+1)<=m/\m<off+(j+1)+r.length
   ·rw[akd h1,akd (by omega)]
    have:m-(off+j)=(m-(off+(j+1)))+1:=by omega
    rw[this,List.getElem?_cons_succ]
   ·rw[ake h1,ake (by omega)]
    rw[List.getElem?_set_ne (by omega)]
theorem xB{place:Nat->Option (Nat×Nat)}{pl:List (Nat×Nat)}(hp:∀i,place i=pl[i]?):∀(parts:List (Nat×Value)) (cs:Array Value) (out:List Value),vx pl cs.toList parts=some out->Instr.fill place cs parts=some out.toArray:=by
 intro parts
 induction parts with
 |nil=>intro cs out h;simp[vx]at h;simp[Instr.fill, ← h]
 |cons q r ih=>
  obtain⟨i,v⟩:=q;intro cs out h;simp only[vx]at h;simp only[Instr.fill,hp i];split at h
  ·cases h
  ·rename_i off sz Uc
   rw[Uc];simp only;split at h
   ·cases h
   ·rename_i hc
    simp only[Array.length_toList]at hc;rw[ake (by simpa using hc)];refine ih _ out ?_;have hle:off+v.cells.size<=cs.size:=by simp only[Bool.or_eq_true,decide_eq_true_eq,not_or]at hc;omega
    have:=Tj v.cells.toList cs off 0 (by simpa using hle);rw[← h];congr 1;rw[Nat.add_zero]at this;rw[← this, ← Array.foldl_toList];simp only[Array.toList_zipIdx]
theorem OX{P:Program}{t:Nat}{pl:List (Nat×Nat)}[h:TPl P t pl](w:World):∃fs,P.underlying t=some (.struct fs)/\((fs.mapM (m:=Sem) λf=>do pure (f.offset, ← sizeOf f.type)).run P w= .ok pl.toArray w):=by
 have:=h.ok;unfold HZ at this;split at this
 ·rename_i fs hu
  refine⟨fs,hu,?_⟩;have key:∀(l:List Field) (pl:List (Nat×Nat)),(l.mapM λf=>(P.info? f.type).map λi=>(f.offset,i.size))=some pl->(l.mapM (m:=Sem) λf=>do pure (f.offset, ← sizeOf f.type)).run P w= .ok pl w:=by
   intro l
   induction l with
   |nil=>intro pl h;simp at h;subst h;simp
   |cons f r ih=>
    intro pl h;cases hi:P.info? f.type with
    |none=>simp[hi]at h
    |some i=>
     simp only[List.mapM_cons,hi,Option.map_some,Option.pure_def,Option.bind_eq_bind,Option.bind_some]at h;cases hr:(r.mapM λf=>(P.info? f.type).map λi=>(f.offset,i.size))with
     |none=>simp[hr]at h
     |some q=>
      simp only[hr,Option.bind_some,Option.some.injEq]at h;subst h;have hs:(sizeOf f.type).run P w= .ok i.size w:=by simp[sizeOf,typeInfo,hi]
      simp only[List.mapM_cons,Sem.run_bind,hs,Result.andThen_ok,Sem.run_pure,ih q hr]
  have hk:=key _ _ this;have e:fs=fs.toList.toArray:=by simp
  rw[e,List.mapM_toArray];simp only[Sem.run_map,hk,Result.andThen_ok]
 ·cases this
theorem evp{F:eH}{a:Act}(hf:yN F a.tmps):∀{parts:List (Nat×Operand)} {vs:List Value},D3 F (parts.map (·.2))=some vs->parts.map (λq=>(q.1,a.eval q.2))=(parts.map (·.1)).zip vs:=by
 intro parts
 induction parts with
 |nil=>intro vs _;simp
 |cons q r ih=>
  intro vs h;simp only[List.map_cons,D3]at h;split at h
  ·rename_i v us h1 h2
   rw[← Option.some.inj h];simp[aI hf h1,ih h2]
  ·cases h
theorem Ac{t:Nat}{parts:List (Nat×Operand)}{vs zs cs:List Value}{pl:List (Nat×Nat)}[hz:jH P t zs][Uc:TPl P t pl](hv:D3 F (parts.map (·.2))=some vs)(hc:vx pl zs ((parts.map (·.1)).zip vs)=some cs):
  VS P N c ⟨d, .build t parts.toArray,ty,p,af,g⟩ F H (.agg cs.toArray):=
 aG (by simp) λa w hf _ _ =>by
  obtain⟨i,z,h1,h2,h3⟩:=jH.get hz.ok;obtain⟨fs,h4,h5⟩:=OX (P:=P) (t:=t) w;have h6:(zeroValue t).run P w= .ok z w:=by simp[zeroValue,typeInfo,h1,h2]
  have h7:=xB (place:=λi=>(pl.toArray)[i]?) (pl:=pl) (by simp) ((parts.map (·.1)).zip vs) z.cells cs (by rw[h3];exact hc);have h8:=evp hf hv;simp only[execOp,Instr.build,Sem.run_bind,h6,Result.andThen_ok,run_underlying h4,h5];have h9:(Array.map (λx=>(x.fst,a.eval x.snd)) parts.toArray).toList=(parts.map (·.1)).zip vs:=by simpa using h8
  simp only[h9,h7];rfl
class vE(H:List aE)(v:Value)(e sz n:outParam Nat)(xs:outParam (List Value))(f:outParam (aE->List aE)):Prop where
 ok:∃k,H[k]? =some (.row v e sz n xs)/\∀r,f r=H.set k r
instance(priority:=100) aeW(v e sz n xs)(H:List aE):vE (.row v e sz n xs::H) v e sz n xs (λr=>r::H):=⟨⟨0,rfl,λ_ =>rfl⟩⟩
instance(priority:=50) ab8(r:aE)(H:List aE)(v e sz n xs f)[h:vE H v e sz n xs f]:vE (r::H) v e sz n xs (λq=>r::f q):=
 ⟨by obtain⟨k,h1,h2⟩:=h.ok;exact⟨k+1,by simpa using h1,λq=>by simp[h2]⟩⟩
def RL(P:Program)(t e sz bytes:Nat):Bool:=match P.underlying t,P.info? e with
 |some (.slice e'),some i=>Nat.beq e' e&&Nat.beq i.size sz&&Nat.beq i.bytes bytes&&(match i.zero with|some z=>Nat.beq z.cells.size sz|none=>false)&& !Nat.beq sz 0
 |_,_ =>false
class Oz(P:Program)(t:TypeId)(e sz bytes:outParam Nat):Prop where
 ok:RL P t e sz bytes=true
theorem Oz.get{P:Program}{t e sz bytes:Nat}(h:RL P t e sz bytes=true):∃i z,P.underlying t=some (.slice e)/\P.info? e=some i/\i.zero=some z/\i.size=sz/\i.bytes=bytes/\z.cells.size=sz/\0<sz:=by
 unfold RL at h;split at h
 ·rename_i e' i h1 h2
  simp only[akg,Bool.not_eq_true']at h;obtain⟨⟨⟨⟨a1,a2⟩,a3⟩,a4⟩,a5⟩:=h;cases hz:i.zero with
  |none=>simp[hz]at a4
  |some z=>simp only[hz]at a4;rw[akf a1]at h1;refine⟨i,z,h1,h2,hz,akf a2,akf a3,akf a4,Nat.pos_of_ne_zero λe0=>?_⟩;rw[e0]at a5;exact absurd a5 (by decide)
 ·cases h
theorem zq{P:Program}{t ty e sz bytes n m cp:Nat}{v:Value}{xs news:List Value}{w:World}{b off:Nat}[ht:Oz P t e sz bytes](hown:kZ w e sz v n xs)(hl:news.length=m*sz)
  (hn:∀(j:Nat) u,news[j]? =some u->w.cell? ⟨b,off+j,none⟩=some u)(h1:o9 news)(KT:(n+m)*bytes<=140737488355328)(h63:n+m<=9223372036854775807):
  ∃v' w',(Builtin.append_ #[t,t] ty #[v, .slice (some ⟨b,off,none⟩) m cp]).run P w= .ok v' w'/\kZ w' e sz v' (n+m) (xs++news)/\aQ v.ownBlock.toList w w'/\
   (∀k,v'.ownBlock=some k->(v.ownBlock=some k\/w.heap.size<=k)/\k<w'.heap.size):=by
 obtain⟨i,z,e1,e2,e3,e4,e5,e6,e7⟩:=Oz.get ht.ok;have hn':∀(j:Nat) u,news[j]? =some u->w.cell? ((⟨b,off,none⟩:Addr).add j)=some u:=λj u hj=>by rw[Addr.add_lit];exact hn j u hj
 have NA:n+m<=maxLen:=by simp only[maxLen];omega
 rcases hown.2 with⟨rfl,rfl⟩|⟨gb,o,cap,cur,rfl,Rb,hnc,PD,hcs,FF⟩
 ·obtain⟨v',w',hr,hown',hg,_⟩:=run_append_own w w.heap.size t ty e i z sz bytes e1 e2 e3 e4 e5 e6 e7 (.slice none 0 0) 0 xs ⟨hown.1, .inl ⟨rfl,rfl⟩⟩ ⟨b,off,none⟩ m cp news hl hn' h1 NA KT (Nat.le_refl _)
  exact⟨v',w',hr,Dh hown',aQ.wE hg,λk hk=>⟨.inr (hown'.lt k hk).1,(hown'.lt k hk).2⟩⟩
 ·subst e4
  subst e5;have hgs:=(akl.1 Rb).1;by_cases hroom:n+m<=cap
  ·have hf:=run_firstCells_some (P:=P) w i.size m ⟨b,off,none⟩ m cp news hl hn'
   have hle:(n+m)*i.size<=cap*i.size:=Nat.mul_le_mul_right _ hroom;have hfit:o+n*i.size+news.length<=cur.size:=by rw[hl];rw[Nat.add_mul]at hle;omega
   have hst:=run_storeCells_at P gb (o+n*i.size) e news 0 cur w Rb (by simpa using hfit) h1;simp only[Nat.add_zero]at hst;have hr:(Builtin.append_ #[t,t] ty #[.slice (some ⟨gb,o,none⟩) n cap, .slice (some ⟨b,off,none⟩) m cp]).run P w= .ok (.slice (some ⟨gb,o,none⟩) (n+m) cap) (w.setRow gb (cur.toList.take (o+n*i.size)++news++cur.toList.drop (o+n*i.size+news.length)).toArray):=by simp[Builtin.append_,run_underlying e1,sizeOf,typeInfo,e2,Builtin.lenOf,hroom,hf,Addr.add_lit,hst]
   refine⟨_,_,hr,⟨by rw[List.length_append,hown.1,hl,Nat.add_mul], .inr ⟨gb,o,cap,_,rfl,setRow_heap w gb cur _ e _ Rb,hroom,PD,?_,?_⟩⟩,⟨rfl,rfl,rfl,by simp,λk _ hk=>setRow_other w gb k _ (by simpa[Value.ownBlock]using hk)⟩,λk hk=>⟨.inl hk,?_⟩⟩
   ·simp only[List.size_toArray,List.length_append,List.length_take,List.length_drop,Array.length_toList]
    omega
   ·have e8:(cur.toList.take (o+n*i.size)).drop o=xs:=by rw[List.drop_take,Nat.add_sub_cancel_left];exact FF
    have e9:o<=(cur.toList.take (o+n*i.size)).length:=by rw[List.length_take,Array.length_toList];omega
    show(List.drop o ((cur.toList.take (o+n*i.size)++news)++cur.toList.drop (o+n*i.size+news.length))).take ((n+m)*i.size)=xs++news;rw[List.append_assoc,List.drop_append_of_le_length e9,e8, ← List.append_assoc];have e10:(xs++news).length=(n+m)*i.size:=by rw[List.length_append,hown.1,hl,Nat.add_mul]
    rw[← e10];exact List.take_left
   ·cases hk
    simpa using hgs
  ·have holds:∀(j:Nat) u,xs[j]? =some u->w.cell? ((⟨gb,o,none⟩:Addr).add j)=some u:=λj u hu=>by
    rw[Addr.add_lit,cell_of_row w gb (o+j) cur e (0,0) Rb, ← Array.getElem?_toList];rw[← FF,List.getElem?_take]at hu;split at hu
    ·rwa[List.getElem?_drop]at hu
    ·cases hu
   obtain⟨v',w',q1,q2,q3⟩:=run_append_arg_grows (P:=P) w t ty e i z i.size i.bytes e1 e2 e3 rfl rfl e6 e7 ⟨gb,o,none⟩ n cap xs hown.1 holds ⟨b,off,none⟩ m cp news hl hn' (by omega) NA KT;refine⟨v',w',q1,Dh q2,(aQ.refl _ w).ext (aQ.wE q3),λk hk=>⟨.inr (q2.lt k hk).1,(q2.lt k hk).2⟩⟩
def yp:Value->Value
 | .slice a n _ => .slice a n n
 |v=>v
def SlV(v:Value):Prop:=∃a n cp,v= .slice a n cp
theorem SlV.cells{v:Value}(h:SlV v):v.cells.toList=[v]:=by obtain⟨a,n,cp,rfl⟩:=h;rfl
theorem SlV.one{v:Value}(h:SlV v):v.oneCell'=true:=by obtain⟨a,n,cp,rfl⟩:=h;cases a<;>rfl
def uV(v:Value)(n:Nat):Prop:=∃a cp,v= .slice a n cp
theorem uV.slv{v:Value}{n:Nat}(h:uV v n):SlV v:=by obtain⟨a,cp,rfl⟩:=h;exact⟨_,_,_,rfl⟩
theorem uV.cells{v:Value}{n:Nat}(h:uV v n):v.cells.toList=[v]:=h.slv.cells
theorem uV.one{v:Value}{n:Nat}(h:uV v n):v.oneCell'=true:=h.slv.one
theorem uV.vR{w:World}{v:Value}{e sz n:Nat}{xs:List Value}(h:kZ w e sz v n xs):uV v n:=by
 rcases h.2 with⟨rfl,rfl⟩|⟨_,_,_,_,rfl,_⟩
 ·exact⟨_,_,rfl⟩
 ·exact⟨_,_,rfl⟩
theorem uV.ajO{v:Value}{n:Nat}(h:uV v n):uV (yp v) n:=by obtain⟨a,cp,rfl⟩:=h;exact⟨_,_,rfl⟩
theorem TX{s x:Operand}{t e sz bytes n m b T cp:Nat}{v:Value}{xs news:List Value}{f:aE->List aE}[Oz P t e sz bytes](hs:ev F s=some v)[hr:vE H v e sz n xs f](hx:ev F x=some (.slice (some ⟨b,0,none⟩) m cp))[hc:sE H b T news]
  (hl:news.length=m*sz)(h1:o9 news)(KT:(n+m)*bytes<=140737488355328)(h63:n+m<=9223372036854775807):
  RX P N c ⟨d, .call ⟨.builtin .append, #[s,x], #[t,t]⟩,ty,p,af,g⟩ F H (λv'=>uV v' (n+m)) (λv'=>v') (λv'=>f (.row v' e sz (n+m) (xs++news))):=λD a w next Q hst hk=>by
 obtain⟨k,k1,k2⟩:=hr.ok;have hm:aE.row v e sz n xs∈H:=List.mem_of_getElem? k1;obtain⟨v',w',q1,q2,q3,q4⟩:=zq (P:=P) (t:=t) (ty:=ty) (cp:=cp) (b:=b) (off:=0) (hst.hp.holds _ hm) hl (λj u hj=>by rw[Nat.zero_add,q7 (hst.hp.holds _ hc.mem)];exact hj) h1 KT h63;refine ew (by simp) (v:=v') (w':=w') ?_ (hk v' w' (uV.vR q2) (hst.si.trans q3 λb' hb'=>(hst.hp.own _ hm b' hb').1) ?_)
 ·simp[execOp,resolve,invoke,builtin,aI hst.fr hs,aI hst.fr hx,q1]
 ·show bH c.bs c.w0.heap.size (f (.row v' e sz (n+m) (xs++news))) w'
  rw[k2];refine hst.hp.set k1 q3.size (λj hj hn=>q3.block j hj hn) q2 hst.si.size (λb' hb'=>?_);have:=q4 b' (by simpa[aE.cI]using hb');exact⟨this.1.imp (λh=>by simpa[aE.cI]using h) id,this.2⟩
theorem Jf{x:Operand}{t e sz:Nat}{v:Value}{cs zs:List Value}[ht:vD P t e sz][hz:jH P e zs](hx:ev F x=some v)(hc:v.cells.toList=cs)(hl:cs.length=sz)(hzl:zs.length=sz)(h0:0<sz)(hs:sz<=16777216):
  RX P N c ⟨d, .buildSlice t 1 #[(0,x)],ty,p,af,g⟩ F H (λ_ =>True) (λb=> .slice (some ⟨b,0,none⟩) 1 1) (λb=> .cells b e cs::H):=λD a w next Q hst hk=>by
 obtain⟨i,h1,h2,h3⟩:=vD.get ht.ok;obtain⟨i',z,h4,h5,h6⟩:=jH.get hz.ok;rw[h2]at h4;cases h4;have hsz:v.cells.size=sz:=by rw[← hl, ← hc];simp
 refine ew (by simp) (w':=w.alloc (.cells cs.toArray e)) ?_ (hk w.heap.size _ trivial (hst.si.ext (aQ.alloc _ _)) (hst.hp.box e cs hst.si.size));have Dv:Instr.fill (λi=>some (i*sz,sz)) ((Array.range sz).map (z.cells[· %z.cells.size]!)) [(0,v)]=some cs.toArray:=by
  have:=xB (place:=λi=>if i=0 then some (0,sz)else none) (pl:=[(0,sz)]) (by intro i;cases i<;>simp) [(0,v)] ((Array.range sz).map (z.cells[· %z.cells.size]!)) cs (by
   simp only[vx,List.getElem?_cons_zero,hsz,hc,Array.length_toList,Array.size_map,Array.size_range,Nat.zero_add,ne_eq,not_true_eq_false,decide_false,Bool.false_or,gt_iff_lt,Nat.lt_irrefl,Bool.false_eq_true,if_false];simp[bX,hl])
  have e:∀cells:Array Value,Instr.fill (λi=>some (i*sz,sz)) cells [(0,v)]=Instr.fill (λi=>if i=0 then some (0,sz)else none) cells [(0,v)]:=λcells=>by simp[Instr.fill]
  rw[e];exact this
 have hn0:¬sz=0:=by omega
 have ajs:¬16777216<sz:=by omega
 simp only[execOp,Instr.buildSlice,Sem.run_bind,run_underlying h1,Result.andThen_ok,sizeOf,typeInfo];simp[h2,h3,hn0,ajs,aI hst.fr hx,Dv,zeroValue,typeInfo,h5,newRow,newObj,Sem.run]
theorem R7{x hi mx:Operand}{t e q sz n:Nat}{v:Value}{xs:List Value}{k k':IntKind}[ht:vD P t e q](hx:ev F x=some v)(hh:ev F hi=some (.int k n))(hm:ev F mx=some (.int k' n))[h:qf c H v sz n xs]:
  VS P N c ⟨d, .slice t x none (some hi) (some mx),ty,p,af,g⟩ F H (yp v):=
 aG (by simp) λa w hf hs hp=>by
  obtain⟨i,h1,h2,h3⟩:=vD.get ht.ok;have hr:=h.ro w hs hp;rcases hr.2 with⟨⟨a0,cp,rfl⟩,rfl⟩|⟨gb,off,cap,rfl,_,hle,_⟩
  ·cases a0<;>simp[execOp,aI hf hx,aI hf hh,aI hf hm,Instr.sliceAt,run_underlying h1,Instr.slice,Instr.sliceBounds,Instr.sliceBound,asIntOf,sizeOf,typeInfo,h2,yp]
  ·have h9:(n:Int)<=(cap:Int):=by omega
   by_cases hn:n=0
   ·subst hn
    simp[execOp,aI hf hx,aI hf hh,aI hf hm,Instr.sliceAt,run_underlying h1,Instr.slice,Instr.sliceBounds,Instr.sliceBound,asIntOf,sizeOf,typeInfo,h2,yp]
   ·simp[execOp,aI hf hx,aI hf hh,aI hf hm,Instr.sliceAt,run_underlying h1,Instr.slice,Instr.sliceBounds,Instr.sliceBound,asIntOf,sizeOf,typeInfo,h2,yp,hle,Addr.add]
theorem Aw{bs:List Nat}{n0 e sz:Nat}{w:World}(h:bH bs n0 H w):bH bs n0 (.row (.slice none 0 0) e sz 0 []::H) w:=
 h.cons ⟨by simp, .inl ⟨rfl,rfl⟩⟩ (λb hb=>by simp[aE.cI,Value.ownBlock]at hb) (λs _ b hb=>by simp[aE.cI,Value.ownBlock]at hb)
theorem aa7{D:List Deferred}{Q:Exit->Act->World->Prop}{x:Code}(e sz:Nat)(h:WP P N c D x Q F (.row (.slice none 0 0) e sz 0 []::H)):WP P N c D x Q F H:=aeF (λ_ _ _ hp=>Aw hp) h
theorem aa4{D:List Deferred}{Q:Exit->Act->World->Prop}{x:Exit}(e sz:Nat)(h:WQ N c D Q x F (.row (.slice none 0 0) e sz 0 []::H)):WQ N c D Q x F H:=XY (λ_ _ _ hp=>Aw hp) h
end
end Go.Bw
namespace Go.Bw
open Go Go.RowKit
def IW:Option Value->Option Value->Bool
 |some (.int _ a),some (.int _ b)=>a==b
 |some (.bool a),some (.bool b)=>a==b
 |_,_ =>false
def oI(k:Option IntKind):Option Value->Bool
 |some (.int k' _)=>match k with|some k=>decide (k=k')|none=>false
 |some (.bool _)=>k.isNone
 |_ =>false
def yF:List (Nat×Option IntKind)->List Value->List Value->Bool
 |[],_,_ =>true
 |(o,_)::r,cs,ds=>IW cs[o]? ds[o]? &&yF r cs ds
def s7:List (Nat×Option IntKind)->List Value->Bool
 |[],_ =>true
 |(o,k)::r,cs=>oI k cs[o]? &&s7 r cs
def abZ(P:Program)(f:Field)(q:Nat×Option IntKind):Bool:=
 f.name != "_" &&Nat.beq f.offset q.1&&(match P.underlying f.type,q.2 with|some (.int k),some k'=>decide (k=k')|some .bool,none=>true|_,_ =>false)
def B3(P:Program):List Field->List (Nat×Option IntKind)->Bool
 |[],[]=>true
 |f::fs,q::qs=>abZ P f q&&B3 P fs qs
 |_,_ =>false
def B7(P:Program)(t:Nat)(ks:List (Nat×Option IntKind)):Bool:=match P.underlying t with
 |some (.struct fs)=> !P.stoodInHeld t&& !P.eqGuardType P.depth t&&B3 P fs.toList ks
 |_ =>false
class Oi(P:Program)(t:TypeId)(ks:outParam (List (Nat×Option IntKind))):Prop where
 ok:B7 P t ks=true
theorem s0{P:Program}{t off:Nat}{cs:Array Value}{v:Value}{w:World}(ht:(∃k,P.underlying t=some (.int k))\/P.underlying t=some .bool)(h:cs[off]? =some v):(part t cs off).run P w= .ok v w:=by rcases ht with⟨k,hk⟩|hk<;>simp[part,isAgg,run_underlying hk,h]
theorem vp{P:Program}{w:World}(n:Nat){cs ds:List Value}:∀{fs:List Field} {ks:List (Nat×Option IntKind)},B3 P fs ks=true->s7 ks cs=true->s7 ks ds=true->
  (Op.eqFields (n+1) cs.toArray ds.toArray fs).run P w= .ok (yF ks cs ds) w:=by
 intro fs
 induction fs with
 |nil=>intro ks h _ _;cases ks with
  |nil=>simp[Op.eqFields,yF]
  |cons _ _ =>simp[B3]at h
 |cons f fs ih=>
  intro ks h h1 h2;cases ks with
  |nil=>simp[B3]at h
  |cons q qs=>
   obtain⟨o,k⟩:=q;simp only[B3,abZ,akg,bne_iff_ne,ne_eq]at h;obtain⟨⟨⟨hn,ho⟩,hk⟩,hr⟩:=h;have ho:f.offset=o:=akf ho;simp only[s7,akg]at h1 h2;have bJ:=ih hr h1.2 h2.2;subst ho;have k1:=h1.1;have k2:=h2.1
   match hu:P.underlying f.type,k,hk with
   |some (.int kk),some k',hk=>
    have e:kk=k':=by simpa using hk
    subst e
    match hc:cs[f.offset]?,k1 with
    |some (.int ka a),k1=>
     have e1:kk=ka:=by simpa[oI]using k1
     subst e1
     match hd:ds[f.offset]?,k2 with
     |some (.int kb b),k2=>
      have e2:kk=kb:=by simpa[oI]using k2
      subst e2;have p1:=s0 (w:=w) (.inl ⟨_,hu⟩) (show cs.toArray[f.offset]? =some (.int kk a)by simpa using hc);have p2:=s0 (w:=w) (.inl ⟨_,hu⟩) (show ds.toArray[f.offset]? =some (.int kk b)by simpa using hd);have p3:=run_equalIn_int (P:=P) w n f.type kk kk a b hu;simp only[Op.eqFields,hn,ne_eq,not_false_eq_true,if_true,Sem.run_bind,p1,p2,p3,Result.andThen_ok];simp only[yF,hc,hd,IW];cases a==b<;>simp[bJ]
     |some (.bool _),k2=>simp[oI]at k2
    |some (.bool _),k1=>simp[oI]at k1
   |some .bool,none,_ =>
    match hc:cs[f.offset]?,k1 with
    |some (.bool a),_ =>
     match hd:ds[f.offset]?,k2 with
     |some (.bool b),_ =>have p1:=s0 (w:=w) (.inr hu) (show cs.toArray[f.offset]? =some (.bool a)by simpa using hc);have p2:=s0 (w:=w) (.inr hu) (show ds.toArray[f.offset]? =some (.bool b)by simpa using hd);have p3:=run_equalIn_bool' (P:=P) w n f.type a b hu;simp only[Op.eqFields,hn,ne_eq,not_false_eq_true,if_true,Sem.run_bind,p1,p2,p3,Result.andThen_ok];simp only[yF,hc,hd,IW];cases a==b<;>simp[bJ]
     |some (.int _ _),k2=>simp[oI]at k2
    |some (.int _ _),k1=>simp[oI]at k1
section
variable {P:Program} {N:Nat} {c:Cx} {F:eH} {H:List aE} {d:Option Tmp} {ty:TypeId} {p:String} {af:Array Edge} {g:Option (Nat×Bool)}
theorem Oi.get{t:Nat}{ks:List (Nat×Option IntKind)}(h:B7 P t ks=true):P.underlying t=some (.struct (P.fieldsOf t))/\P.stoodInHeld t=false/\P.eqGuardType P.depth t=false/\B3 P (P.fieldsOf t).toList ks=true:=by
 unfold B7 at h;split at h
 ·rename_i fs hu
  simp only[akg,Bool.not_eq_true']at h;have e:P.fieldsOf t=fs:=by simp[Program.fieldsOf,hu]
  rw[e];exact⟨hu,h.1.1,h.1.2,h.2⟩
 ·cases h
theorem MD{x y:Operand}{cs ds:List Value}{T U:TypeId}{ks:List (Nat×Option IntKind)}[hT:Oi P T ks](hx:ev F x=some (.agg cs.toArray))(hy:ev F y=some (.agg ds.toArray))(h1:s7 ks cs=true)(h2:s7 ks ds=true):
  VS P N c ⟨d, .binOp .eql T x y U,ty,p,af,g⟩ F H (.bool (yF ks cs ds)):=
 aG (by simp) λa' w hf _ _ =>by obtain⟨e1,e2,e3,e4⟩:=Oi.get hT.ok;have q1:=run_eqGuard_agg (P:=P) w .eql T x y cs.toArray ds.toArray e3;have q2:=run_eql_struct (P:=P) w T cs.toArray ds.toArray;rw[run_equalIn_struct w 9999 T _ _ e1 e2,vp 9998 e4 h1 h2]at q2;simp only[Result.andThen_ok]at q2;simp[execOp,aI hf hx,aI hf hy,q1,q2]
theorem R4{x y:Operand}{cs ds:List Value}{T U:TypeId}{ks:List (Nat×Option IntKind)}[hT:Oi P T ks](hx:ev F x=some (.agg cs.toArray))(hy:ev F y=some (.agg ds.toArray))(h1:s7 ks cs=true)(h2:s7 ks ds=true):
  VS P N c ⟨d, .binOp .neq T x y U,ty,p,af,g⟩ F H (.bool (!yF ks cs ds)):=
 aG (by simp) λa' w hf _ _ =>by obtain⟨e1,e2,e3,e4⟩:=Oi.get hT.ok;have q1:=run_eqGuard_agg (P:=P) w .neq T x y cs.toArray ds.toArray e3;have q2:=run_neq_struct (P:=P) w T cs.toArray ds.toArray;rw[run_equalIn_struct w 9999 T _ _ e1 e2,vp 9998 e4 h1 h2]at q2;simp only[Result.andThen_ok]at q2;simp[execOp,aI hf hx,aI hf hy,q1,q2]
def nO(l h sz:Nat):Value->Value
 | .slice a _ cap=> .slice (if cap=l then a else a.map (·.add (l*sz))) (h-l) (cap-l)
 |v=>v
theorem Ro.cut{w:World}{v:Value}{sz n l h:Nat}{xs:List Value}(hr:Ro w v sz n xs)(hl:l<=h)(hh:h<=n):Ro w (nO l h sz v) sz (h-l) ((xs.drop (l*sz)).take ((h-l)*sz)):=by
 have hlen:((xs.drop (l*sz)).take ((h-l)*sz)).length=(h-l)*sz:=by
  have:(h-l)*sz+l*sz<=n*sz:=by rw[← Nat.add_mul];exact Nat.mul_le_mul_right _ (by omega)
  simp[hr.1];omega
 refine⟨hlen,?_⟩;rcases hr.2 with⟨⟨a,cp,rfl⟩,rfl⟩|⟨gb,off,cap,rfl,h2,h3,h4⟩
 ·have e1:l=0:=by omega
  have e2:h=0:=by omega
  subst e1;subst e2;exact .inl ⟨⟨_,_,rfl⟩,rfl⟩
 ·by_cases e:cap=l
  ·have e2:h=l:=by omega
   subst e2;exact .inl ⟨⟨some ⟨gb,off,none⟩,cap-h,by simp[nO,e]⟩,by omega⟩
  ·refine .inr ⟨gb,off+l*sz,cap-l,by simp[nO,e,Addr.add_lit],h2,by omega,λj u hu=>?_⟩
   rw[List.getElem?_take]at hu;split at hu
   ·rw[List.getElem?_drop]at hu
    rw[Nat.add_assoc];exact h4 _ u hu
   ·cases hu
theorem NU(l h sz:Nat)(v:Value):(nO l h sz v).ownBlock=v.ownBlock:=by
 cases v with
 |slice a n cap=>cases a<;>simp only[nO]<;>split<;>simp[Value.ownBlock,Addr.add]<;>split<;>rfl
 |_ =>rfl
theorem oW{k:IntKind}{l n:Nat}{code:BoundsCode}{w:World}(h:l<=n):(Instr.sliceBound (.int k l) n code).run P w= .ok l w:=by
 have h2:(l:Int)<=(n:Int):=by omega
 simp[Instr.sliceBound,asIntOf,h2]
theorem Fa{x lo:Operand}{t e q sz n:Nat}(l:Nat){v:Value}{xs:List Value}{k:IntKind}[ht:vD P t e q](hx:ev F x=some v)(hlo:ev F lo=some (.int k l))[h:qf c H v sz n xs](hl:l<=n):
  VS P N c ⟨d, .slice t x (some lo) none none,ty,p,af,g⟩ F H (nO l n q v):=
 aG (by simp) λa w hf hs hp=>by
  obtain⟨i,h1,h2,h3⟩:=vD.get ht.ok;obtain⟨a0,cp,rfl⟩:∃a0 cp,v= .slice a0 n cp:=by rcases(h.ro w hs hp).2 with⟨⟨a0,cp,rfl⟩,rfl⟩|⟨gb,off,cap,rfl,_⟩<;>exact⟨_,_,rfl⟩
  have b1:=oW (P:=P) (k:=k) (w:=w) (code:= .sliceB) hl;simp[execOp,aI hf hx,aI hf hlo,Instr.sliceAt,run_underlying h1,Instr.slice,Instr.sliceBounds,b1,sizeOf,typeInfo,h2,h3,nO]
theorem K9{x hi:Operand}{t e q sz n:Nat}(m:Nat){v:Value}{xs:List Value}{k:IntKind}[ht:vD P t e q](hx:ev F x=some v)(hhi:ev F hi=some (.int k m))[h:qf c H v sz n xs](hm:m<=n):
  VS P N c ⟨d, .slice t x none (some hi) none,ty,p,af,g⟩ F H (nO 0 m q v):=
 aG (by simp) λa w hf hs hp=>by
  obtain⟨i,h1,h2,h3⟩:=vD.get ht.ok;obtain⟨a0,cp,rfl,hcp⟩:∃a0 cp,v= .slice a0 n cp/\m<=cp:=by
   rcases(h.ro w hs hp).2 with⟨⟨a0,cp,rfl⟩,rfl⟩|⟨gb,off,cap,rfl,_,hle,_⟩
   ·exact⟨_,_,rfl,by omega⟩
   ·exact⟨_,_,rfl,by omega⟩
  have b1:=oW (P:=P) (k:=k) (w:=w) (code:= .sliceAcap) hcp;simp[execOp,aI hf hx,aI hf hhi,Instr.sliceAt,run_underlying h1,Instr.slice,Instr.sliceBounds,b1,sizeOf,typeInfo,h2,nO]
theorem aeT{x lo hi:Operand}{t e q sz n:Nat}(l m:Nat){v:Value}{xs:List Value}{k k':IntKind}[ht:vD P t e q](hx:ev F x=some v)(hlo:ev F lo=some (.int k l))(hhi:ev F hi=some (.int k' m))[h:qf c H v sz n xs](hl:l<=m)(hm:m<=n):
  VS P N c ⟨d, .slice t x (some lo) (some hi) none,ty,p,af,g⟩ F H (nO l m q v):=
 aG (by simp) λa w hf hs hp=>by
  obtain⟨i,h1,h2,h3⟩:=vD.get ht.ok;obtain⟨a0,cp,rfl,hcp⟩:∃a0 cp,v= .slice a0 n cp/\m<=cp:=by
   rcases(h.ro w hs hp).2 with⟨⟨a0,cp,rfl⟩,rfl⟩|⟨gb,off,cap,rfl,_,hle,_⟩
   ·exact⟨_,_,rfl,by omega⟩
   ·exact⟨_,_,rfl,by omega⟩
  have b1:=oW (P:=P) (k:=k') (w:=w) (code:= .sliceAcap) hcp;have b2:=oW (P:=P) (k:=k) (w:=w) (code:= .sliceB) hl;simp[execOp,aI hf hx,aI hf hlo,aI hf hhi,Instr.sliceAt,run_underlying h1,Instr.slice,Instr.sliceBounds,b1,b2,sizeOf,typeInfo,h2,h3,nO]
theorem JQ{t ty e sz bytes n m:Nat}{v x:Value}{xs news:List Value}{w:World}[ht:Oz P t e sz bytes](hown:kZ w e sz v n xs)(hx:Ro w x sz m news)(h1:o9 news)(KT:(n+m)*bytes<=140737488355328)(h63:n+m<=9223372036854775807):
  ∃v' w',(Builtin.append_ #[t,t] ty #[v,x]).run P w= .ok v' w'/\kZ w' e sz v' (n+m) (xs++news)/\aQ v.ownBlock.toList w w'/\
   (∀k,v'.ownBlock=some k->(v.ownBlock=some k\/w.heap.size<=k)/\k<w'.heap.size):=by
 rcases hx.2 with⟨⟨a,cp,rfl⟩,rfl⟩|⟨gb,off,cap,rfl,_,_,h4⟩
 ·obtain⟨i,z,e1,e2,e3,e4,e5,e6,e7⟩:=Oz.get ht.ok
  have WK:news=[]:=List.length_eq_zero_iff.1 (by rw[hx.1];simp);subst WK;have hsrc:Src P i.size t (.slice a 0 cp) 0 [] w:=by
   cases a with
   |none=>exact Src.ofNil w e1 cp
   |some a=>exact Src.ofSlice w e1 a 0 cp [] (by simp) (by simp) (by simp)
  obtain⟨base,sCap,hv,hle⟩:∃base sCap,v= .slice base n sCap/\n<=sCap:=by
   rcases hown.2 with⟨rfl,rfl⟩|⟨g,o,cap,cur,rfl,_,hc,_⟩
   ·exact⟨_,_,rfl,Nat.le_refl _⟩
   ·exact⟨_,_,rfl,hc⟩
  have hrun:=run_append_nothing (P:=P) w t t ty e i e1 e2 base n sCap hle _ hsrc;rw[← hv]at hrun;refine⟨v,w,hrun,by simpa using hown,aQ.refl _ _,λk hk=>⟨.inl hk,?_⟩⟩;rcases hown.2 with⟨rfl,_⟩|⟨g,o,cap,cur,rfl,hg,_⟩
  ·cases hk
  ·cases hk;exact(akl.1 hg).1
 ·exact zq hown hx.1 h4 h1 KT h63
theorem DO{s x:Operand}{t e sz bytes n m:Nat}{v u:Value}{xs news:List Value}{f:aE->List aE}[Oz P t e sz bytes](hs:ev F s=some v)[hr:vE H v e sz n xs f](hx:ev F x=some u)[hu:qf c H u sz m news]
  (h1:o9 news)(KT:(n+m)*bytes<=140737488355328)(h63:n+m<=9223372036854775807):
  RX P N c ⟨d, .call ⟨.builtin .append, #[s,x], #[t,t]⟩,ty,p,af,g⟩ F H (λv'=>uV v' (n+m)) (λv'=>v') (λv'=>f (.row v' e sz (n+m) (xs++news))):=λD a w next Q hst hk=>by
 obtain⟨k,k1,k2⟩:=hr.ok;have hm:aE.row v e sz n xs∈H:=List.mem_of_getElem? k1;obtain⟨v',w',q1,q2,q3,q4⟩:=JQ (P:=P) (t:=t) (ty:=ty) (hst.hp.holds _ hm) (hu.ro w hst.si hst.hp) h1 KT h63;refine ew (by simp) (v:=v') (w':=w') ?_ (hk v' w' (uV.vR q2) (hst.si.trans q3 λb' hb'=>(hst.hp.own _ hm b' hb').1) ?_)
 ·simp[execOp,resolve,invoke,builtin,aI hst.fr hs,aI hst.fr hx,q1]
 ·show bH c.bs c.w0.heap.size (f (.row v' e sz (n+m) (xs++news))) w'
  rw[k2];refine hst.hp.set k1 q3.size (λj hj hn=>q3.block j hj hn) q2 hst.si.size (λb' hb'=>?_);have:=q4 b' (by simpa[aE.cI]using hb');exact⟨this.1.imp (λh=>by simpa[aE.cI]using h) id,this.2⟩
structure Sl where
 v:Value
 sz:Nat
 n:Nat
 xs:List Value
def Sl.ok(w:World)(q:Sl):Prop:=Ro w q.v q.sz q.n q.xs
def ac0(l:List Sl):List Nat:=l.flatMap λq=>q.v.ownBlock.toList
def aj0(l:List Sl):aE:= .ext (ac0 l) λw=>∀q∈l,q.ok w
end
end Go.Bw
namespace Go.Bw
open Go Go.RowKit
def IntKind.up(k:IntKind):Nat:=if k.signed then k.bits-1 else k.bits
theorem Y8{k:IntKind}{r:Nat}(h:r<2^IntKind.up k):k.wrap (r:Int)=r:=by
 cases k<;>simp only[IntKind.up,IntKind.signed,IntKind.bits,if_true,Bool.false_eq_true,if_false]at h<;>
  simp[IntKind.wrap,IntKind.signed,IntKind.bits]at h ⊢<;>omega
theorem aaY(k:IntKind):IntKind.up k<=k.bits:=by cases k<;>simp[IntKind.up,IntKind.signed,IntKind.bits]
section
variable {P:Program} {N:Nat} {c:Cx} {F:eH} {H:List aE} {d:Option Tmp} {ty:TypeId} {p:String} {af:Array Edge} {g:Option (Nat×Bool)} {x y:Operand} {k:IntKind} {T U:TypeId}
theorem K5{x y:Operand}{T len e sz q m:Nat}{i:Int}{k:IntKind}{cs us:List Value}[hT:tu P T len e sz][hA:ve P e q](hx:ev F x=some (.agg cs.toArray))(hy:ev F y=some (.int k i))(hi:i=(m:Int))(hm:m<len)
  (hv:(cs.drop (m*sz)).take sz=us):VS P N c ⟨d, .index T x y,ty,p,af,g⟩ F H (.agg us.toArray):=
 aG (by simp) λa w hf _ _ =>by
  obtain⟨inf,h1,h2,h3⟩:=tu.get hT.ok;subst hi;have hs:(sizeOf e).run P w= .ok sz w:=by simp[sizeOf,typeInfo,h2,h3]
  have hag:(isAgg e).run P w= .ok true w:=uo w;have he:cs.toArray.extract (m*sz) (m*sz+sz)=us.toArray:=by apply Array.ext';rw[← hv];simp[List.extract_eq_take_drop,Nat.add_sub_cancel_left]
  have hp:(part e cs.toArray (m*sz)).run P w= .ok (.agg us.toArray) w:=by unfold part;rw[Sem.run_bind,hag];simp only[Result.andThen_ok,if_true,Sem.run_bind,hs,Sem.run_pure,he]
  simp[execOp,aI hf hx,aI hf hy,Instr.index,asIntOf,run_underlying h1,hm,hs,hp]
theorem K6{x y:Operand}{T len e sz m:Nat}{i:Int}{k:IntKind}{cs:List Value}{u:Value}[hT:tu P T len e sz][hA:qS P e](hx:ev F x=some (.agg cs.toArray))(hy:ev F y=some (.int k i))(hi:i=(m:Int))(hm:m<len)
  (hv:cs[m*sz]? =some u):VS P N c ⟨d, .index T x y,ty,p,af,g⟩ F H u:=
 aG (by simp) λa w hf _ _ =>by
  obtain⟨inf,h1,h2,h3⟩:=tu.get hT.ok;subst hi;have hs:(sizeOf e).run P w= .ok sz w:=by simp[sizeOf,typeInfo,h2,h3]
  have hag:(isAgg e).run P w= .ok false w:=sx w;have hp:(part e cs.toArray (m*sz)).run P w= .ok u w:=by simp[part,hag,hv]
  simp[execOp,aI hf hx,aI hf hy,Instr.index,asIntOf,run_underlying h1,hm,hs,hp]
end
end Go.Bw
namespace Go.Bw
open Go
def iW{α:Type}(g:Nat->α)(i:Nat)(v:α):Nat->α:=λj=>if j=i then v else g j
@[simp] theorem UK{α:Type}(g:Nat->α)(i:Nat)(v:α):iW g i v i=v:=by simp[iW]
theorem Sq{α:Type}(g:Nat->α){i j:Nat}(v:α)(h:j≠i):iW g i v j=g j:=by simp[iW,h]
def flat(g:Nat->List Value):Nat->List Value
 |0=>[]
 |n+1=>flat g n++g n
theorem ga{g:Nat->List Value}{k:Nat}:∀{n:Nat},(∀i,i<n->(g i).length=k)->(flat g n).length=n*k:=by
 intro n
 induction n with
 |zero=>intro _;simp[flat]
 |succ n ih=>intro h;simp[flat,ih (λi hi=>h i (by omega)),h n (by omega),Nat.add_mul]
theorem uI{g g':Nat->List Value}:∀{n:Nat},(∀i,i<n->g i=g' i)->flat g n=flat g' n:=by
 intro n
 induction n with
 |zero=>intro _;rfl
 |succ n ih=>intro h;simp[flat,ih (λi hi=>h i (by omega)),h n (by omega)]
theorem rJ{g:Nat->List Value}{k:Nat}:∀{n i j:Nat},(∀i,i<n->(g i).length=k)->i<n->j<k->(flat g n)[i*k+j]? =(g i)[j]? :=by
 intro n
 induction n with
 |zero=>intro i j _ hi;omega
 |succ n ih=>
  intro i j h hi hj;have hl:=ga (n:=n) (λi hi=>h i (by omega));by_cases e:i=n
  ·subst e
   rw[flat,List.getElem?_append_right (by omega),hl];congr 1;omega
  ·have:i*k+j<n*k:=by
    have h1:(i+1)*k<=n*k:=Nat.mul_le_mul_right k (by omega);rw[Nat.add_mul]at h1;omega
   rw[flat,List.getElem?_append_left (by omega)];exact ih (λi hi=>h i (by omega)) (by omega) hj
theorem wM{l m:List Value}(h:∀j:Nat,l[j]? =m[j]?):l=m:=List.ext_getElem? h
theorem uk{cs vs:List Value}{off:Nat}(h:off+vs.length<=cs.length):(bX cs off vs).length=cs.length:=by simp[bX];omega
theorem iM{cs vs:List Value}{off:Nat}(h:off+vs.length<=cs.length)(j:Nat):(bX cs off vs)[j]? =if off<=j/\j<off+vs.length then vs[j-off]? else cs[j]? :=by
 unfold bX;by_cases h1:j<off
 ·rw[ake (by omega),List.append_assoc,List.getElem?_append_left (by simp;omega),List.getElem?_take,akd h1]
 ·by_cases h2:j<off+vs.length
  ·rw[akd (by omega),List.append_assoc,List.getElem?_append_right (by simp;omega),List.getElem?_append_left (by simp;omega)]
   congr 1;simp;omega
  ·rw[ake (by omega),List.getElem?_append_right (by simp;omega),List.getElem?_drop]
   congr 1;simp;omega
theorem vz{cs vs:List Value}{o off k:Nat}(h1:off+vs.length<=k)(h2:o+k<=cs.length):((bX cs (o+off) vs).drop o).take k=bX ((cs.drop o).take k) off vs:=by
 apply List.ext_getElem?;intro q;have hl:off+vs.length<=((cs.drop o).take k).length:=by simp only[List.length_take,List.length_drop];omega
 rw[List.getElem?_take,iM hl,List.getElem?_drop,iM (by omega)];by_cases hq:q<k
 ·rw[akd hq]
  by_cases hi:off<=q/\q<off+vs.length
  ·rw[akd (by omega),akd hi,show o+q-(o+off)=q-off by omega]
  ·rw[ake (by omega),ake hi,List.getElem?_take,akd hq,List.getElem?_drop]
 ·rw[ake hq,ake (by omega),List.getElem?_take,ake hq]
theorem C4{p q vs:List Value}{off:Nat}:bX (p++q) (p.length+off) vs=p++bX q off vs:=by
 unfold bX;have h1:(p++q).take (p.length+off)=p++q.take off:=by simp[List.take_append,List.take_of_length_le (show p.length<=p.length+off by omega)]
 have h2:(p++q).drop (p.length+off+vs.length)=q.drop (off+vs.length):=by rw[Nat.add_assoc,List.drop_append,List.drop_eq_nil_of_le (by omega)];simp
 rw[h1,h2];simp
theorem M4{p q vs:List Value}{off:Nat}(h:off+vs.length<=p.length):bX (p++q) off vs=bX p off vs++q:=by unfold bX;rw[List.take_append_of_le_length (by omega),List.drop_append_of_le_length h];simp
theorem NI{g:Nat->List Value}{k n i:Nat}{vs:List Value}(h:∀i,i<n->(g i).length=k)(hi:i<n)(hv:vs.length=k):bX (flat g n) (i*k) vs=flat (iW g i vs) n:=by
 have hl:=ga (n:=n) h;have h':∀j,j<n->(iW g i vs j).length=k:=λj hj=>by by_cases e:j=i<;>simp[iW,e,hv,h j hj]
 have hl':=ga (n:=n) h';have hb:(i+1)*k<=n*k:=Nat.mul_le_mul_right k (by omega);rw[Nat.add_mul]at hb;refine wM λj=>?_;rw[iM (by omega)];by_cases hj:j<n*k
 ·have hk:0<k:=by
   rcases Nat.eq_zero_or_pos k with h0|h0
   ·subst h0;omega
   ·exact h0
  have hd:j=j/k*k+j%k:=by rw[Nat.mul_comm];exact(Nat.div_add_mod j k).symm
  have hm:=Nat.mod_lt j hk;have hq:j/k<n:=Nat.div_lt_of_lt_mul (by rw[Nat.mul_comm];exact hj);by_cases e:j/k=i
  ·rw[akd (by subst e;omega)]
   rw[hd,rJ h' hq hm,e,UK];congr 1;subst e;omega
  ·rw[ake]
   ·rw[hd,rJ h' hq hm,rJ h hq hm,Sq _ _ e]
   ·rintro⟨h1,h2⟩
    apply e;have:i<=j/k:=(Nat.le_div_iff_mul_le hk).2 h1;have:j/k<i+1:=(Nat.div_lt_iff_lt_mul hk).2 (by rw[Nat.add_mul];omega);omega
 ·rw[ake (by omega),List.getElem?_eq_none (by omega),List.getElem?_eq_none (by omega)]
theorem Tn{g:Nat->List Value}{k n i:Nat}{t:List Value}(h:∀i,i<n->(g i).length=k)(hi:i<n):((flat g n++t).drop (i*k)).take k=g i:=by
 have hl:=ga (n:=n) h;have hb:(i+1)*k<=n*k:=Nat.mul_le_mul_right k (by omega);rw[Nat.add_mul]at hb;refine wM λj=>?_;rw[List.getElem?_take,List.getElem?_drop];by_cases hj:j<k
 ·rw[akd hj,List.getElem?_append_left (by omega),rJ h hi hj]
 ·rw[ake hj,List.getElem?_eq_none (by rw[h i hi];omega)]
theorem o9.app{a b:List Value}(ha:o9 a)(hb:o9 b):o9 (a++b):=λv hv=>(List.mem_append.1 hv).elim (ha v) (hb v)
theorem ld{vs:List Value}(h:vs.all (·.oneCell')=true):o9 vs:=λv hv=>List.all_eq_true.1 h v hv
theorem o9.flat{g:Nat->List Value}:∀{n:Nat},(∀i,i<n->o9 (g i))->o9 (flat g n):=by
 intro n
 induction n with
 |zero=>intro _ v hv;simp[Bw.flat]at hv
 |succ n ih=>intro h;exact(ih λi hi=>h i (by omega)).app (h n (by omega))
end Go.Bw
namespace Go.Bw
open Go Go.RowKit
def Rnd(P:Program)(l:Nat)(bs0:List Nat)(w1:World)(J:Nat->List Nat->World->Prop)(Jx:List Nat->World->Prop)(u6:Nat->List Value)(n:Nat):Prop:=∀k,k<n->∀W bs,aQ bs0 w1 W->(∀b∈bs,(b∈bs0\/w1.heap.size<=b)/\b<W.heap.size)->(aE.ext bs (J k bs)).holds W-> YieldAt (FA none) 0 P l (u6 k).toArray W λe W'=>∃bs',(∀b∈bs',(b∈bs\/W.heap.size<=b)/\b<W'.heap.size)/\aQ bs W W'/\ ((e= .returned (.bool true)/\(aE.ext bs' (J (k+1) bs')).holds W')\/(e= .returned (.bool false)/\(aE.ext bs' (Jx bs')).holds W'))
def agj:List Nat->List Value->eH->eH
 |p::ps,v::vs,F=>agj ps vs ((p,v)::F)
 |_,_,F=>F
theorem ZL:∀{ps:List Nat} {vs:List Value} {F:eH} {t:Array Value} {N:Nat},yN F t->t.size=N->ps.all (Nat.blt · N)=true->yN (agj ps vs F) ((ps.zip vs).foldl (λt q=>t.setIfInBounds q.1 q.2) t)/\((ps.zip vs).foldl (λt q=>t.setIfInBounds q.1 q.2) t).size=N:=by
 intro ps
 induction ps with
 |nil=>intro vs F t N h hs _;cases vs<;>exact⟨h,hs⟩
 |cons p ps ih=>
  intro vs F t N h hs ha;cases vs with
  |nil=>exact⟨h,hs⟩
  |cons v vs=>simp only[List.all_cons,akg]at ha;have h1:=yN.put (a:=⟨t,[]⟩) (d:=some p) (v:=v) (N:=N) h hs ha.1;exact ih h1 (by simpa using hs) ha.2
def aeZ(P:Program)(l:Nat)(body:Code)(R:Ending->World->Prop):Exit->Act->World->Prop:=Exit.then (λa₁ w₁=>∃w₂,(Instr.beginRound l).run P w₁= .ok () w₂/\body.wpIn (FA (some l)) 0 P (roundPost P l R) a₁ w₂) (λ_ _ _ =>False)
def Yr(c':Cx)(JT JX:List Nat->World->Prop):Ending->World->Prop:=λe W'=>∃bs',(∀b∈bs',(b∈c'.bs\/c'.w0.heap.size<=b)/\b<W'.heap.size)/\aQ c'.bs c'.w0 W'/\((e= .returned (.bool true)/\(aE.ext bs' (JT bs')).holds W')\/(e= .returned (.bool false)/\(aE.ext bs' (JX bs')).holds W'))
def JW{α:Type}(n0:Nat)(cb:List Nat)(p:α->Prop)(I:α->List aE):List Nat->World->Prop:=λbs W=>∃i,p i/\bH cb n0 (I i) W/\bs=bF (I i)
theorem bg{H:List aE}{b:Nat}:b∈bF H↔∃r∈H,b∈r.cI:=by simp[bF]
theorem Qs{α:Type}{n0:Nat}{cb:List Nat}{p:α->Prop}{I:α->List aE}{W:World}(i:α)(hp:p i)(h:bH cb n0 (I i) W):(aE.ext (bF (I i)) (JW n0 cb p I (bF (I i)))).holds W:=
 λ_ hs hb=>⟨i,hp,h.bS hs (λr hr b JV=>hb b (bg.2 ⟨r,hr,JV⟩)) (λ_ o _ =>o),rfl⟩
theorem Dz{bs:List Nat}{J:World->Prop}{W:World}(h:(aE.ext bs J).holds W):J W:=h W (Nat.le_refl _) λ_ _ =>rfl
section rules
variable {P:Program} {N:Nat} {c:Cx} {F:eH} {H H':List aE} {l:Nat} {body:Code} {R:Ending->World->Prop}
theorem St.qm{N:Nat}{D:List Deferred}{a:Act}{w:World}{b:Nat}{o o':Obj}(hst:St N c D F H a w)(ho:TY H b o)(hs:TV H b o' H'):St N c D F H' a (w.putObj b o')/\w.heap[b]? =some o:=by
 have hm:=hst.hp.holds _ ho.mem;have hd:w.heap[b]? =some o:=hm;have hlt:=(akl.1 hd).1;have jb:aQ [b] w (w.putObj b o'):=⟨rfl,rfl,rfl,by simp[World.putObj],λk _ hk=>World.putObj_heap_other (by simpa using hk)⟩;refine⟨⟨hst.tm,hst.fr,hst.df,hst.si.store hst.hp ho.mem (by simp[aE.cI]) jb,?_⟩,hd⟩;obtain⟨k,o,hk,rfl⟩:=hs.ok;refine hst.hp.set hk jb.size (λj hj hne=>jb.block j hj hne) (World.putObj_heap_same hlt) hst.si.size (λb' hb=>?_);have e:b'=b:=by simpa[aE.cI]using hb
 subst e;exact⟨.inl (by simp[aE.cI]),by rw[World.putObj];simpa using hlt⟩
variable {α β:Type} {n0:Nat} {cb:List Nat} {p:α->Prop} {I:α->List aE} {px:β->Prop} {X:β->List aE}
theorem aQ.abG{c':Cx}{H:List aE}{w:World}(hp:bH c'.bs c'.w0.heap.size H w){b:Nat}(hb:b∈bF H):(b∈c'.bs\/c'.w0.heap.size<=b)/\b<w.heap.size:=by obtain⟨r,hr,JV⟩:=bg.1 hb;exact hp.own r hr b JV
end rules
end Go.Bw
namespace Go.Bw
open Go Go.RowKit
structure cZ(α:Type) where
 n:Nat
 fg:(World->Prop)->List Value->α->Prop
 len:∀{J cs x},fg J cs x->cs.length=n
 one:∀{J cs x},fg J cs x->o9 cs
 mono:∀{J J':World->Prop} {cs x},(∀w,J' w->J w)->fg J cs x->fg J' cs x
class bq{α:Type}(L:cZ α) where
 enc:α->List Value
 iff:∀{J cs x},L.fg J cs x↔cs=enc x
def cZ.enc{α:Type}(L:cZ α)[bq L](x:α):List Value:=bq.enc L x
section
variable {α β γ S:Type}
theorem rp(L:cZ α)[bq L](x:α):L.fg (λ_ =>True) (L.enc x) x:=bq.iff.2 rfl
theorem iz(L:cZ α)[bq L](x:α):(L.enc x).length=L.n:=L.len (rp L x)
theorem DA(L:cZ α)[bq L](x:α):o9 (L.enc x):=L.one (rp L x)
def LI(k:IntKind):cZ Int where
 n:=1
 fg _ cs x:=cs=[.int k x]
 len h:=by subst h;rfl
 one h:=by subst h;exact ld rfl
 mono _ h:=h
instance(k:IntKind):bq (LI k):=⟨λx=>[.int k x],Iff.rfl⟩
def LB:cZ Bool where
 n:=1
 fg _ cs x:=cs=[.bool x]
 len h:=by subst h;rfl
 one h:=by subst h;exact ld rfl
 mono _ h:=h
instance:bq LB:=⟨λx=>[.bool x],Iff.rfl⟩
def LP(A:cZ α)(B:cZ β):cZ (α×β) where
 n:=A.n+B.n
 fg J cs x:=∃c1 c2,cs=c1++c2/\A.fg J c1 x.1/\B.fg J c2 x.2
 len:=λ⟨c1,c2,h,h1,h2⟩=>by subst h;simp[A.len h1,B.len h2]
 one:=λ⟨c1,c2,h,h1,h2⟩=>by subst h;exact(A.one h1).app (B.one h2)
 mono m:=λ⟨c1,c2,h,h1,h2⟩=>⟨c1,c2,h,A.mono m h1,B.mono m h2⟩
instance(A:cZ α)(B:cZ β)[bq A][bq B]:bq (LP A B):=⟨λx=>A.enc x.1++B.enc x.2,by
 intro J cs x;constructor
 ·rintro⟨c1,c2,rfl,h1,h2⟩
  rw[bq.iff]at h1 h2;subst h1 h2;rfl
 ·intro h;exact⟨_,_,h,bq.iff.2 rfl,bq.iff.2 rfl⟩⟩
def cZ.via(A:cZ α)(f:S->α):cZ S where
 n:=A.n
 fg J cs s:=A.fg J cs (f s)
 len h:=A.len h
 one h:=A.one h
 mono m h:=A.mono m h
instance(A:cZ α)(f:S->α)[bq A]:bq (A.via f):=⟨λs=>A.enc (f s),bq.iff (L:=A)⟩
def LA(L:cZ α)(m:Nat):cZ (Nat->α) where
 n:=m*L.n
 fg J cs a:=∃cc:Nat->List Value,cs=flat cc m/\∀i,i<m->L.fg J (cc i) (a i)
 len:=λ⟨cc,h,h1⟩=>by subst h;exact ga λi hi=>L.len (h1 i hi)
 one:=λ⟨cc,h,h1⟩=>by subst h;exact o9.flat λi hi=>L.one (h1 i hi)
 mono m':=λ⟨cc,h,h1⟩=>⟨cc,h,λi hi=>L.mono m' (h1 i hi)⟩
instance(L:cZ α)(m:Nat)[bq L]:bq (LA L m):=⟨λa=>flat (λi=>L.enc (a i)) m,by
 intro J cs a;constructor
 ·rintro⟨cc,rfl,h⟩
  exact uI λi hi=>bq.iff.1 (h i hi)
 ·intro h;exact⟨_,h,λi _ =>bq.iff.2 rfl⟩⟩
structure aV(L:cZ α)(M:cZ β)(o:Nat)(g:α->β)(s:α->β->α):Prop where
 get:∀{J cs x},L.fg J cs x->M.fg J ((cs.drop o).take M.n) (g x)
 set:∀{J cs x vs v},L.fg J cs x->M.fg J vs v->L.fg J (bX cs o vs) (s x v)
 le:o+M.n<=L.n
theorem aV.id{L:cZ α}:aV L L 0 (λx=>x) (λ_ v=>v) where
 get h:=by rw[List.drop_zero,List.take_of_length_le (by rw[L.len h];exact Nat.le_refl _)];exact h
 set:=@λJ cs x vs v h hv=>by have:bX cs 0 vs=vs:=OS (by rw[L.len h,L.len hv]);rw[this];exact hv
 le:=by omega
where OS {cs vs:List Value} (h:cs.length=vs.length):bX cs 0 vs=vs:=by simp[bX, ← h]
theorem aV.fst{A:cZ α}{B:cZ β}{M:cZ γ}{o:Nat}{g:α->γ}{s:α->γ->α}(p:aV A M o g s):aV (LP A B) M o (λx=>g x.1) (λx v=>(s x.1 v,x.2)) where
 get:=λ⟨c1,c2,h,h1,h2⟩=>by subst h;have hl:=A.len h1;have:=p.le;rw[List.drop_append_of_le_length (by omega),List.take_append_of_le_length (by simp;omega)];exact p.get h1
 set:=λ⟨c1,c2,h,h1,h2⟩ hv=>by subst h;have hl:=A.len h1;have:=p.le;exact⟨_,_,M4 (by rw[M.len hv];omega),p.set h1 hv,h2⟩
 le:=by have:=p.le;show o+M.n<=A.n+B.n;omega
theorem aV.snd{A:cZ α}{B:cZ β}{M:cZ γ}{o:Nat}{g:β->γ}{s:β->γ->β}(p:aV B M o g s):aV (LP A B) M (A.n+o) (λx=>g x.2) (λx v=>(x.1,s x.2 v)) where
 get:=λ⟨c1,c2,h,h1,h2⟩=>by subst h;have hl:=A.len h1;rw[← hl, ← List.drop_drop,List.drop_left];exact p.get h2
 set:=λ⟨c1,c2,h,h1,h2⟩ hv=>by subst h;have hl:=A.len h1;exact⟨c1,_,by rw[← hl];exact C4,h1,p.set h2 hv⟩
 le:=by have:=p.le;show A.n+o+M.n<=A.n+B.n;omega
theorem aV.via{A:cZ α}{M:cZ γ}{o:Nat}{g:α->γ}{s:α->γ->α}(p:aV A M o g s)(f:S->α)(g':S->γ)(s':S->γ->S)(o':Nat)(ho:o'=o)(hg:∀x,g' x=g (f x))(hs:∀x v,f (s' x v)=s (f x) v):aV (A.via f) M o' g' s' where
 get h:=by subst ho;rw[hg];exact p.get h
 set h hv:=by subst ho;show A.fg _ _ (f (s' _ _));rw[hs];exact p.set h hv
 le:=by subst ho;exact p.le
theorem aV.idx{L:cZ α}{m:Nat}(i:Nat)(h:i<m){k:Nat}(hk:k=L.n):aV (LA L m) L (i*k) (λa=>a i) (λa v=>iW a i v) where
 get:=λ⟨cc,hc,h1⟩=>by subst hc hk;have:=Tn (g:=cc) (t:=[]) (λj hj=>L.len (h1 j hj)) h;rw[List.append_nil]at this;rw[this];exact h1 i h
 set:=@λJ cs x vs v hh hv=>by
  obtain⟨cc,hc,h1⟩:=hh;subst hc hk;refine⟨iW cc i vs,NI (λj hj=>L.len (h1 j hj)) h (L.len hv),λj hj=>?_⟩;unfold iW;split
  ·exact hv
  ·exact h1 j hj
 le:=by subst hk;show i*L.n+L.n<=m*L.n;rw[← Nat.succ_mul];exact Nat.mul_le_mul_right _ h
theorem aV.comp{L:cZ α}{M:cZ β}{K:cZ γ}{o1 o2:Nat}{g1:α->β}{s1:α->β->α}{g2:β->γ}{s2:β->γ->β}(p:aV L M o1 g1 s1)(q:aV M K o2 g2 s2):aV L K (o1+o2) (λx=>g2 (g1 x)) (λx v=>s1 x (s2 (g1 x) v)) where
 get h:=by have h2:=q.get (p.get h);have:=q.le;rw[List.drop_take,List.take_take,List.drop_drop,Nat.min_eq_left (by omega)]at h2;exact h2
 set:=@λJ cs x vs v h hv=>by
  have hl:=L.len h;have h2:=p.set h (q.set (p.get h) hv);have JU:=K.len hv;have:=q.le;have:=p.le;have e:bX cs o1 (bX ((cs.drop o1).take M.n) o2 vs)=bX cs (o1+o2) vs:=by
   refine wM λj=>?_;have hm:=M.len (p.get h);have hlen:(bX ((cs.drop o1).take M.n) o2 vs).length=M.n:=by rw[uk (by omega)];exact hm
   rw[iM (by omega),iM (cs:=cs) (vs:=vs) (by omega),hlen,JU];by_cases h1:o1<=j/\j<o1+M.n
   ·rw[akd h1,iM (by omega),JU]
    by_cases h3:o1+o2<=j/\j<o1+o2+K.n
    ·rw[akd h3,akd (by omega),show j-o1-o2=j-(o1+o2)by omega]
    ·rw[ake h3,ake (by omega),List.getElem?_take,akd (by omega),List.getElem?_drop,show o1+(j-o1)=j by omega]
   ·rw[ake h1,ake (by omega)]
  rw[e]at h2;exact h2
 le:=by have:=q.le;have:=p.le;omega
theorem aV.c0{L:cZ α}{M:cZ β}{K:cZ γ}{o2:Nat}{g1:α->β}{s1:α->β->α}{g2:β->γ}{s2:β->γ->β}(p:aV L M 0 g1 s1)(q:aV M K o2 g2 s2):aV L K o2 (λx=>g2 (g1 x)) (λx v=>s1 x (s2 (g1 x) v)):=by have:=p.comp q;rwa[Nat.zero_add]at this
theorem aV.int{L:cZ α}{k:IntKind}{o:Nat}{g:α->Int}{s:α->Int->α}(p:aV L (LI k) o g s){J cs x}(r:L.fg J cs x):cs[o]? =some (.int k (g x)):=by
 have h:(cs.drop o).take 1=[.int k (g x)]:=p.get r;have h2:((cs.drop o).take 1)[0]? =some (.int k (g x)):=by rw[h];rfl
 rw[List.getElem?_take,akd (by decide),List.getElem?_drop]at h2;exact h2
theorem aV.bool{L:cZ α}{o:Nat}{g:α->Bool}{s:α->Bool->α}(p:aV L LB o g s){J cs x}(r:L.fg J cs x):cs[o]? =some (.bool (g x)):=by
 have h:(cs.drop o).take 1=[.bool (g x)]:=p.get r;have h2:((cs.drop o).take 1)[0]? =some (.bool (g x)):=by rw[h];rfl
 rw[List.getElem?_take,akd (by decide),List.getElem?_drop]at h2;exact h2
theorem aV.agg{L:cZ α}{M:cZ β}[bq L][bq M]{o:Nat}{g:α->β}{s:α->β->α}(p:aV L M o g s)(x:α):((L.enc x).drop o).take M.n=M.enc (g x):=bq.iff.1 (p.get (rp L x))
theorem aV.put{L:cZ α}{M:cZ β}[bq L][bq M]{o:Nat}{g:α->β}{s:α->β->α}(p:aV L M o g s)(x:α)(v:β):bX (L.enc x) o (M.enc v)=L.enc (s x v):=bq.iff.1 (p.set (rp L x) (rp M v))
end
section words
variable {α ρ:Type}
def lt(a:α)(f:α->Option ρ):Option ρ:=f a
def gu(b:Bool)(k:Option ρ):Option ρ:=bif b then k else none
def bd(m:Option α)(f:α->Option ρ):Option ρ:=m.bind f
def cn(b:Bool)(x y:Option ρ):Option ρ:=bif b then x else y
def cl(g:Bool)(m:Option α)(z:α)(f:α->Option ρ):Option ρ:=bif g then m.bind f else f z
def dH(i:Int)(n:Nat):Bool:=decide (0<=i)&&decide (i<(n:Int))
abbrev wr(k:IntKind)(n:Int):Int:=k.wrap n
def Lu(k:IntKind)(a b:Int):Int:=k.wrap (a*2^(min b.toNat k.bits))
def vM(k:IntKind)(a b:Int):Int:=a.fdiv (2^(min b.toNat k.bits))
def tj(k:IntKind)(a b:Int):Int:=k.wrap ((BitVec.ofInt k.bits a&&& BitVec.ofInt k.bits b).toNat:Int)
def orI(k:IntKind)(a b:Int):Int:=k.wrap ((BitVec.ofInt k.bits a|||BitVec.ofInt k.bits b).toNat:Int)
def MR(k:IntKind)(a b:Int):Int:=k.wrap ((BitVec.ofInt k.bits a^^^BitVec.ofInt k.bits b).toNat:Int)
def AF(k:IntKind)(a b:Int):Int:=k.wrap ((BitVec.ofInt k.bits a&&& ~~~BitVec.ofInt k.bits b).toNat:Int)
theorem AU{a:α}{f:α->Option ρ}{r:ρ}(h:lt a f=some r):∃x,x=a/\f x=some r:=⟨a,rfl,h⟩
theorem qo{b:Bool}{k:Option ρ}{r:ρ}(h:gu b k=some r):b=true/\k=some r:=by cases b with|true=>exact⟨rfl,h⟩|false=>cases h
theorem tg{m:Option α}{f:α->Option ρ}{r:ρ}(h:bd m f=some r):∃x,m=some x/\f x=some r:=by cases m with|none=>cases h|some x=>exact⟨x,rfl,h⟩
theorem P8{b:Bool}{x y:Option ρ}{r:ρ}(hb:b=true)(h:cn b x y=some r):x=some r:=by subst hb;exact h
theorem P9{b:Bool}{x y:Option ρ}{r:ρ}(hb:b=false)(h:cn b x y=some r):y=some r:=by subst hb;exact h
theorem aaN{g:Bool}{m:Option α}{z:α}{f:α->Option ρ}{r:ρ}(h:cl g m z f=some r):∃x,(g=true->m=some x)/\(g=false->x=z)/\f x=some r:=by
 cases g with
 |true=>obtain⟨x,h1,h2⟩:=tg h;exact⟨x,λ_ =>h1,nofun,h2⟩
 |false=>exact⟨z,nofun,λ_ =>rfl,h⟩
theorem cq{i:Int}{n:Nat}(h:dH i n=true):i=(i.toNat:Int)/\i.toNat<n:=by simp[dH]at h;omega
theorem Im{g p:Bool}(h:(!g||p)=true)(hg:g=true):p=true:=by subst hg;simpa using h
theorem abY{i:Int}(h:decide (0<=i)=true):0<=i:=by simpa using h
end words
section
variable {α1 ρ:Type}
def iv(B:(α1->Option ρ)->α1->Option ρ):Nat->α1->Option ρ
 |0,_ =>none
 |n+1,a1=>B (iv B n) a1
theorem agG{lb B:(α1->Option ρ)->α1->Option ρ}(e:lb=B){m:Nat}{a1:α1}{r:ρ}(h:iv lb m a1=some r):∃m',m=m'+1/\B (iv lb m') a1=some r:=by
 subst e;cases m with
 |zero=>cases h
 |succ m=>exact⟨m,rfl,h⟩
theorem agL{j B:α1->Option ρ}(e:j=B){a1:α1}{r:ρ}(h:j a1=some r):B a1=some r:=e▸h
theorem wK{B:(α1->Option ρ)->α1->Option ρ}(I:α1->Prop)(μ:α1->Nat)(Q:Option ρ->Prop)(hB:∀k a1,I a1->(∀b1,I b1->μ b1<μ a1->Q (k b1))->Q (B k a1)):∀n a1,I a1->μ a1<n->Q (iv B n a1):=by
 intro n
 induction n with
 |zero=>intro a1 _ h;exact absurd h (Nat.not_lt_zero _)
 |succ n ih=>intro a1 hi hm;exact hB _ a1 hi λb1 hj hl=>ih b1 hj (by omega)
end
section
variable {α1 α2 ρ:Type}
def fe(B:(α1->α2->Option ρ)->α1->α2->Option ρ):Nat->α1->α2->Option ρ
 |0,_,_ =>none
 |n+1,a1,a2=>B (fe B n) a1 a2
theorem Ns{B:(α1->α2->Option ρ)->α1->α2->Option ρ}{n:Nat}{a1:α1}{a2:α2}{r:ρ}(h:fe B n a1 a2=some r):∃lb,lb=B/\fe lb n a1 a2=some r:=⟨B,rfl,h⟩
theorem KI{lb B:(α1->α2->Option ρ)->α1->α2->Option ρ}(e:lb=B){m:Nat}{a1:α1}{a2:α2}{r:ρ}(h:fe lb m a1 a2=some r):∃m',m=m'+1/\B (fe lb m') a1 a2=some r:=by
 subst e;cases m with
 |zero=>cases h
 |succ m=>exact⟨m,rfl,h⟩
theorem tB{B:(α1->α2->Option ρ)->α1->α2->Option ρ}(I:α1->α2->Prop)(μ:α1->α2->Nat)(Q:Option ρ->Prop)(hB:∀k a1 a2,I a1 a2->(∀b1 b2,I b1 b2->μ b1 b2<μ a1 a2->Q (k b1 b2))->Q (B k a1 a2)):∀n a1 a2,I a1 a2->μ a1 a2<n->Q (fe B n a1 a2):=by
 intro n
 induction n with
 |zero=>intro a1 a2 _ h;exact absurd h (Nat.not_lt_zero _)
 |succ n ih=>intro a1 a2 hi hm;exact hB _ a1 a2 hi λb1 b2 hj hl=>ih b1 b2 hj (by omega)
end
section
variable {α1 α2 α3 ρ:Type}
def zC(B:(α1->α2->α3->Option ρ)->α1->α2->α3->Option ρ):Nat->α1->α2->α3->Option ρ
 |0,_,_,_ =>none
 |n+1,a1,a2,a3=>B (zC B n) a1 a2 a3
theorem agF{B:(α1->α2->α3->Option ρ)->α1->α2->α3->Option ρ}{n:Nat}{a1:α1}{a2:α2}{a3:α3}{r:ρ}(h:zC B n a1 a2 a3=some r):∃lb,lb=B/\zC lb n a1 a2 a3=some r:=⟨B,rfl,h⟩
theorem abO{lb B:(α1->α2->α3->Option ρ)->α1->α2->α3->Option ρ}(e:lb=B){m:Nat}{a1:α1}{a2:α2}{a3:α3}{r:ρ}(h:zC lb m a1 a2 a3=some r):∃m',m=m'+1/\B (zC lb m') a1 a2 a3=some r:=by
 subst e;cases m with
 |zero=>cases h
 |succ m=>exact⟨m,rfl,h⟩
end
section
variable {α1 α2 α3 α4 ρ:Type}
def Q3(B:(α1->α2->α3->α4->Option ρ)->α1->α2->α3->α4->Option ρ):Nat->α1->α2->α3->α4->Option ρ
 |0,_,_,_,_ =>none
 |n+1,a1,a2,a3,a4=>B (Q3 B n) a1 a2 a3 a4
theorem agE{lb B:(α1->α2->α3->α4->Option ρ)->α1->α2->α3->α4->Option ρ}(e:lb=B){m:Nat}{a1:α1}{a2:α2}{a3:α3}{a4:α4}{r:ρ}(h:Q3 lb m a1 a2 a3 a4=some r):∃m',m=m'+1/\B (Q3 lb m') a1 a2 a3 a4=some r:=by
 subst e;cases m with
 |zero=>cases h
 |succ m=>exact⟨m,rfl,h⟩
end
section
variable {α1 α2 α3 α4 α5 ρ:Type}
def yj(B:(α1->α2->α3->α4->α5->Option ρ)->α1->α2->α3->α4->α5->Option ρ):Nat->α1->α2->α3->α4->α5->Option ρ
 |0,_,_,_,_,_ =>none
 |n+1,a1,a2,a3,a4,a5=>B (yj B n) a1 a2 a3 a4 a5
theorem agD{lb B:(α1->α2->α3->α4->α5->Option ρ)->α1->α2->α3->α4->α5->Option ρ}(e:lb=B){m:Nat}{a1:α1}{a2:α2}{a3:α3}{a4:α4}{a5:α5}{r:ρ}(h:yj lb m a1 a2 a3 a4 a5=some r):∃m',m=m'+1/\B (yj lb m') a1 a2 a3 a4 a5=some r:=by
 subst e;cases m with
 |zero=>cases h
 |succ m=>exact⟨m,rfl,h⟩
theorem KL{B:(α1->α2->α3->α4->α5->Option ρ)->α1->α2->α3->α4->α5->Option ρ}(I:α1->α2->α3->α4->α5->Prop)(μ:α1->α2->α3->α4->α5->Nat)(Q:Option ρ->Prop)(hB:∀k a1 a2 a3 a4 a5,I a1 a2 a3 a4 a5->(∀b1 b2 b3 b4 b5,I b1 b2 b3 b4 b5->μ b1 b2 b3 b4 b5<μ a1 a2 a3 a4 a5->Q (k b1 b2 b3 b4 b5))->Q (B k a1 a2 a3 a4 a5)):∀n a1 a2 a3 a4 a5,I a1 a2 a3 a4 a5->μ a1 a2 a3 a4 a5<n->Q (yj B n a1 a2 a3 a4 a5):=by
 intro n
 induction n with
 |zero=>intro a1 a2 a3 a4 a5 _ h;exact absurd h (Nat.not_lt_zero _)
 |succ n ih=>intro a1 a2 a3 a4 a5 hi hm;exact hB _ a1 a2 a3 a4 a5 hi λb1 b2 b3 b4 b5 hj hl=>ih b1 b2 b3 b4 b5 hj (by omega)
end
section
variable {α1 α2 α3 α4 α5 α6 ρ:Type}
def Q2(B:(α1->α2->α3->α4->α5->α6->Option ρ)->α1->α2->α3->α4->α5->α6->Option ρ):Nat->α1->α2->α3->α4->α5->α6->Option ρ
 |0,_,_,_,_,_,_ =>none
 |n+1,a1,a2,a3,a4,a5,a6=>B (Q2 B n) a1 a2 a3 a4 a5 a6
theorem agC{lb B:(α1->α2->α3->α4->α5->α6->Option ρ)->α1->α2->α3->α4->α5->α6->Option ρ}(e:lb=B){m:Nat}{a1:α1}{a2:α2}{a3:α3}{a4:α4}{a5:α5}{a6:α6}{r:ρ}(h:Q2 lb m a1 a2 a3 a4 a5 a6=some r):∃m',m=m'+1/\B (Q2 lb m') a1 a2 a3 a4 a5 a6=some r:=by
 subst e;cases m with
 |zero=>cases h
 |succ m=>exact⟨m,rfl,h⟩
end
section
variable {α1 α2 α3 α4 α5 α6 α7 ρ:Type}
def wJ(B:(α1->α2->α3->α4->α5->α6->α7->Option ρ)->α1->α2->α3->α4->α5->α6->α7->Option ρ):Nat->α1->α2->α3->α4->α5->α6->α7->Option ρ
 |0,_,_,_,_,_,_,_ =>none
 |n+1,a1,a2,a3,a4,a5,a6,a7=>B (wJ B n) a1 a2 a3 a4 a5 a6 a7
theorem agB{lb B:(α1->α2->α3->α4->α5->α6->α7->Option ρ)->α1->α2->α3->α4->α5->α6->α7->Option ρ}(e:lb=B){m:Nat}{a1:α1}{a2:α2}{a3:α3}{a4:α4}{a5:α5}{a6:α6}{a7:α7}{r:ρ}(h:wJ lb m a1 a2 a3 a4 a5 a6 a7=some r):∃m',m=m'+1/\B (wJ lb m') a1 a2 a3 a4 a5 a6 a7=some r:=by
 subst e;cases m with
 |zero=>cases h
 |succ m=>exact⟨m,rfl,h⟩
end
section
variable {α1 α2 α3 α4 α5 α6 α7 α8 ρ:Type}
def Ih(B:(α1->α2->α3->α4->α5->α6->α7->α8->Option ρ)->α1->α2->α3->α4->α5->α6->α7->α8->Option ρ):Nat->α1->α2->α3->α4->α5->α6->α7->α8->Option ρ
 |0,_,_,_,_,_,_,_,_ =>none
 |n+1,a1,a2,a3,a4,a5,a6,a7,a8=>B (Ih B n) a1 a2 a3 a4 a5 a6 a7 a8
theorem agA{lb B:(α1->α2->α3->α4->α5->α6->α7->α8->Option ρ)->α1->α2->α3->α4->α5->α6->α7->α8->Option ρ}(e:lb=B){m:Nat}{a1:α1}{a2:α2}{a3:α3}{a4:α4}{a5:α5}{a6:α6}{a7:α7}{a8:α8}{r:ρ}(h:Ih lb m a1 a2 a3 a4 a5 a6 a7 a8=some r):∃m',m=m'+1/\B (Ih lb m') a1 a2 a3 a4 a5 a6 a7 a8=some r:=by
 subst e;cases m with
 |zero=>cases h
 |succ m=>exact⟨m,rfl,h⟩
theorem SY{B:(α1->α2->α3->α4->α5->α6->α7->α8->Option ρ)->α1->α2->α3->α4->α5->α6->α7->α8->Option ρ}(I:α1->α2->α3->α4->α5->α6->α7->α8->Prop)(μ:α1->α2->α3->α4->α5->α6->α7->α8->Nat)(Q:Option ρ->Prop)(hB:∀k a1 a2 a3 a4 a5 a6 a7 a8,I a1 a2 a3 a4 a5 a6 a7 a8->(∀b1 b2 b3 b4 b5 b6 b7 b8,I b1 b2 b3 b4 b5 b6 b7 b8->μ b1 b2 b3 b4 b5 b6 b7 b8<μ a1 a2 a3 a4 a5 a6 a7 a8->Q (k b1 b2 b3 b4 b5 b6 b7 b8))->Q (B k a1 a2 a3 a4 a5 a6 a7 a8)):∀n a1 a2 a3 a4 a5 a6 a7 a8,I a1 a2 a3 a4 a5 a6 a7 a8->μ a1 a2 a3 a4 a5 a6 a7 a8<n->Q (Ih B n a1 a2 a3 a4 a5 a6 a7 a8):=by
 intro n
 induction n with
 |zero=>intro a1 a2 a3 a4 a5 a6 a7 a8 _ h;exact absurd h (Nat.not_lt_zero _)
 |succ n ih=>intro a1 a2 a3 a4 a5 a6 a7 a8 hi hm;exact hB _ a1 a2 a3 a4 a5 a6 a7 a8 hi λb1 b2 b3 b4 b5 b6 b7 b8 hj hl=>ih b1 b2 b3 b4 b5 b6 b7 b8 hj (by omega)
end
section
variable {α1 α2 α3 α4 α5 α6 α7 α8 α9 ρ:Type}
def Ig(B:(α1->α2->α3->α4->α5->α6->α7->α8->α9->Option ρ)->α1->α2->α3->α4->α5->α6->α7->α8->α9->Option ρ):Nat->α1->α2->α3->α4->α5->α6->α7->α8->α9->Option ρ
 |0,_,_,_,_,_,_,_,_,_ =>none
 |n+1,a1,a2,a3,a4,a5,a6,a7,a8,a9=>B (Ig B n) a1 a2 a3 a4 a5 a6 a7 a8 a9
theorem agz{lb B:(α1->α2->α3->α4->α5->α6->α7->α8->α9->Option ρ)->α1->α2->α3->α4->α5->α6->α7->α8->α9->Option ρ}(e:lb=B){m:Nat}{a1:α1}{a2:α2}{a3:α3}{a4:α4}{a5:α5}{a6:α6}{a7:α7}{a8:α8}{a9:α9}{r:ρ}(h:Ig lb m a1 a2 a3 a4 a5 a6 a7 a8 a9=some r):∃m',m=m'+1/\B (Ig lb m') a1 a2 a3 a4 a5 a6 a7 a8 a9=some r:=by
 subst e;cases m with
 |zero=>cases h
 |succ m=>exact⟨m,rfl,h⟩
theorem KJ{B:(α1->α2->α3->α4->α5->α6->α7->α8->α9->Option ρ)->α1->α2->α3->α4->α5->α6->α7->α8->α9->Option ρ}(I:α1->α2->α3->α4->α5->α6->α7->α8->α9->Prop)(μ:α1->α2->α3->α4->α5->α6->α7->α8->α9->Nat)(Q:Option ρ->Prop)(hB:∀k a1 a2 a3 a4 a5 a6 a7 a8 a9,I a1 a2 a3 a4 a5 a6 a7 a8 a9->(∀b1 b2 b3 b4 b5 b6 b7 b8 b9,I b1 b2 b3 b4 b5 b6 b7 b8 b9->μ b1 b2 b3 b4 b5 b6 b7 b8 b9<μ a1 a2 a3 a4 a5 a6 a7 a8 a9->Q (k b1 b2 b3 b4 b5 b6 b7 b8 b9))->Q (B k a1 a2 a3 a4 a5 a6 a7 a8 a9)):∀n a1 a2 a3 a4 a5 a6 a7 a8 a9,I a1 a2 a3 a4 a5 a6 a7 a8 a9->μ a1 a2 a3 a4 a5 a6 a7 a8 a9<n->Q (Ig B n a1 a2 a3 a4 a5 a6 a7 a8 a9):=by
 intro n
 induction n with
 |zero=>intro a1 a2 a3 a4 a5 a6 a7 a8 a9 _ h;exact absurd h (Nat.not_lt_zero _)
 |succ n ih=>intro a1 a2 a3 a4 a5 a6 a7 a8 a9 hi hm;exact hB _ a1 a2 a3 a4 a5 a6 a7 a8 a9 hi λb1 b2 b3 b4 b5 b6 b7 b8 b9 hj hl=>ih b1 b2 b3 b4 b5 b6 b7 b8 b9 hj (by omega)
end
section
variable {α1 α2 α3 α4 α5 α6 α7 α8 α9 GR ρ:Type}
def L2(B:(α1->α2->α3->α4->α5->α6->α7->α8->α9->GR->Option ρ)->α1->α2->α3->α4->α5->α6->α7->α8->α9->GR->Option ρ):Nat->α1->α2->α3->α4->α5->α6->α7->α8->α9->GR->Option ρ
 |0,_,_,_,_,_,_,_,_,_,_ =>none
 |n+1,a1,a2,a3,a4,a5,a6,a7,a8,a9,Gu=>B (L2 B n) a1 a2 a3 a4 a5 a6 a7 a8 a9 Gu
theorem adf{lb B:(α1->α2->α3->α4->α5->α6->α7->α8->α9->GR->Option ρ)->α1->α2->α3->α4->α5->α6->α7->α8->α9->GR->Option ρ}(e:lb=B){m:Nat}{a1:α1}{a2:α2}{a3:α3}{a4:α4}{a5:α5}{a6:α6}{a7:α7}{a8:α8}{a9:α9}{Gu:GR}{r:ρ}(h:L2 lb m a1 a2 a3 a4 a5 a6 a7 a8 a9 Gu=some r):∃m',m=m'+1/\B (L2 lb m') a1 a2 a3 a4 a5 a6 a7 a8 a9 Gu=some r:=by
 subst e;cases m with
 |zero=>cases h
 |succ m=>exact⟨m,rfl,h⟩
end
section
variable {α1 α2 α3 α4 α5 α6 α7 α8 α9 GR MP ρ:Type}
def EP(B:(α1->α2->α3->α4->α5->α6->α7->α8->α9->GR->MP->Option ρ)->α1->α2->α3->α4->α5->α6->α7->α8->α9->GR->MP->Option ρ):Nat->α1->α2->α3->α4->α5->α6->α7->α8->α9->GR->MP->Option ρ
 |0,_,_,_,_,_,_,_,_,_,_,_ =>none
 |n+1,a1,a2,a3,a4,a5,a6,a7,a8,a9,Gu,K4=>B (EP B n) a1 a2 a3 a4 a5 a6 a7 a8 a9 Gu K4
theorem ade{lb B:(α1->α2->α3->α4->α5->α6->α7->α8->α9->GR->MP->Option ρ)->α1->α2->α3->α4->α5->α6->α7->α8->α9->GR->MP->Option ρ}(e:lb=B){m:Nat}{a1:α1}{a2:α2}{a3:α3}{a4:α4}{a5:α5}{a6:α6}{a7:α7}{a8:α8}{a9:α9}{Gu:GR}{K4:MP}{r:ρ}(h:EP lb m a1 a2 a3 a4 a5 a6 a7 a8 a9 Gu K4=some r):∃m',m=m'+1/\B (EP lb m') a1 a2 a3 a4 a5 a6 a7 a8 a9 Gu K4=some r:=by
 subst e;cases m with
 |zero=>cases h
 |succ m=>exact⟨m,rfl,h⟩
theorem Pq{B:(α1->α2->α3->α4->α5->α6->α7->α8->α9->GR->MP->Option ρ)->α1->α2->α3->α4->α5->α6->α7->α8->α9->GR->MP->Option ρ}(I:α1->α2->α3->α4->α5->α6->α7->α8->α9->GR->MP->Prop)(μ:α1->α2->α3->α4->α5->α6->α7->α8->α9->GR->MP->Nat)(Q:Option ρ->Prop)(hB:∀k a1 a2 a3 a4 a5 a6 a7 a8 a9 Gu K4,I a1 a2 a3 a4 a5 a6 a7 a8 a9 Gu K4->(∀b1 b2 b3 b4 b5 b6 b7 b8 b9 b10 b11,I b1 b2 b3 b4 b5 b6 b7 b8 b9 b10 b11->μ b1 b2 b3 b4 b5 b6 b7 b8 b9 b10 b11<μ a1 a2 a3 a4 a5 a6 a7 a8 a9 Gu K4->Q (k b1 b2 b3 b4 b5 b6 b7 b8 b9 b10 b11))->Q (B k a1 a2 a3 a4 a5 a6 a7 a8 a9 Gu K4)):∀n a1 a2 a3 a4 a5 a6 a7 a8 a9 Gu K4,I a1 a2 a3 a4 a5 a6 a7 a8 a9 Gu K4->μ a1 a2 a3 a4 a5 a6 a7 a8 a9 Gu K4<n->Q (EP B n a1 a2 a3 a4 a5 a6 a7 a8 a9 Gu K4):=by
 intro n
 induction n with
 |zero=>intro a1 a2 a3 a4 a5 a6 a7 a8 a9 Gu K4 _ h;exact absurd h (Nat.not_lt_zero _)
 |succ n ih=>intro a1 a2 a3 a4 a5 a6 a7 a8 a9 Gu K4 hi hm;exact hB _ a1 a2 a3 a4 a5 a6 a7 a8 a9 Gu K4 hi λb1 b2 b3 b4 b5 b6 b7 b8 b9 b10 b11 hj hl=>ih b1 b2 b3 b4 b5 b6 b7 b8 b9 b10 b11 hj (by omega)
end
section
variable {α1 α2 α3 α4 α5 α6 α7 α8 α9 GR MP α12 ρ:Type}
def LZ(B:(α1->α2->α3->α4->α5->α6->α7->α8->α9->GR->MP->α12->Option ρ)->α1->α2->α3->α4->α5->α6->α7->α8->α9->GR->MP->α12->Option ρ):Nat->α1->α2->α3->α4->α5->α6->α7->α8->α9->GR->MP->α12->Option ρ
 |0,_,_,_,_,_,_,_,_,_,_,_,_ =>none
 |n+1,a1,a2,a3,a4,a5,a6,a7,a8,a9,Gu,K4,a12=>B (LZ B n) a1 a2 a3 a4 a5 a6 a7 a8 a9 Gu K4 a12
theorem adb{lb B:(α1->α2->α3->α4->α5->α6->α7->α8->α9->GR->MP->α12->Option ρ)->α1->α2->α3->α4->α5->α6->α7->α8->α9->GR->MP->α12->Option ρ}(e:lb=B){m:Nat}{a1:α1}{a2:α2}{a3:α3}{a4:α4}{a5:α5}{a6:α6}{a7:α7}{a8:α8}{a9:α9}{Gu:GR}{K4:MP}{a12:α12}{r:ρ}(h:LZ lb m a1 a2 a3 a4 a5 a6 a7 a8 a9 Gu K4 a12=some r):∃m',m=m'+1/\B (LZ lb m') a1 a2 a3 a4 a5 a6 a7 a8 a9 Gu K4 a12=some r:=by
 subst e;cases m with
 |zero=>cases h
 |succ m=>exact⟨m,rfl,h⟩
end
section rules
variable {P:Program} {N:Nat} {c:Cx} {D:List Deferred} {Q:Exit->Act->World->Prop} {F:eH} {H:List aE} {d:Option Tmp} {ty:TypeId} {ps:String} {af:Array Edge} {g:Option (Nat×Bool)} {α β γ:Type}
theorem I9{x:Operand}{y z:Code}{t:Bool}(hc:ev F x=some (.bool t))(h1:t=true->WP P N c D y Q F H)(h0:t=false->WP P N c D z Q F H):WP P N c D (.cond x y z) Q F H:=by
 cases t with
 |true=>exact aa6 hc (h1 rfl)
 |false=>exact X7 hc (h0 rfl)
theorem Qi{o:Oper}{v v':Value}(h:VS P N c o F H v)(e:v=v'):VS P N c o F H v':=e▸h
theorem abm{T U:TypeId}{x y:Operand}{k:IntKind}{a b:Int}(hx:ev F x=some (.int k a))(hy:ev F y=some (.int k b)):VS P N c ⟨d, .binOp .and T x y U,ty,ps,af,g⟩ F H (.int k (tj k a b)):=abl hx hy rfl λ_ _ =>rfl
theorem R1{T U:TypeId}{x y:Operand}{k k':IntKind}{a b:Int}(hx:ev F x=some (.int k a))(hy:ev F y=some (.int k' b))(h0:0<=b):VS P N c ⟨d, .binOp .shl T x y U,ty,ps,af,g⟩ F H (.int k (Lu k a b)):=aeJ hx hy h0 rfl
theorem MA{T U:TypeId}{x y:Operand}{k k':IntKind}{a b:Int}(hx:ev F x=some (.int k a))(hy:ev F y=some (.int k' b))(h0:0<=b):VS P N c ⟨d, .binOp .shr T x y U,ty,ps,af,g⟩ F H (.int k (vM k a b)):=aeI hx hy h0 rfl
theorem E9{L:cZ α}[bq L]{x:α}{k:IntKind}{o b t T:Nat}{y:Operand}{gg:α->Int}{s:α->Int->α}(p:aV L (LI k) o gg s)(hx:ev F y=some (dO b o))[sE H b T (L.enc x)][qS P t]:VS P N c ⟨d, .load t y,ty,ps,af,g⟩ F H (.int k (gg x)):=tn hx (p.int (rp L x))
theorem aeQ{L:cZ α}[bq L]{x:α}{o b t T:Nat}{y:Operand}{gg:α->Bool}{s:α->Bool->α}(p:aV L LB o gg s)(hx:ev F y=some (dO b o))[sE H b T (L.enc x)][qS P t]:VS P N c ⟨d, .load t y,ty,ps,af,g⟩ F H (.bool (gg x)):=tn hx (p.bool (rp L x))
theorem kY{L:cZ α}{M:cZ β}[bq L][bq M]{x:α}{o b t T q:Nat}{y:Operand}{gg:α->β}{s:α->β->α}(p:aV L M o gg s)(hx:ev F y=some (dO b o))[sE H b T (L.enc x)][ht:ve P t q](hn:M.n=q):VS P N c ⟨d, .load t y,ty,ps,af,g⟩ F H (.agg (M.enc (gg x)).toArray):=by subst hn;exact F3 hx (p.agg x) (iz _ _)
theorem wT{L:cZ α}{M:cZ β}[bq L][bq M]{x:α}{o b t T q:Nat}{y z:Operand}{gg:α->β}{s:α->β->α}{val:Value}{H':List aE}(p:aV L M o gg s)(v:β)(x':α)(e:x'=s x v)(hx:ev F y=some (dO b o))(hz:ev F z=some val)(hv:val.cells.toList=M.enc v)
  [sE H b T (L.enc x)][ht:R9 P t q](hn:M.n=q)[Gz H b (L.enc x') H']:RX (α:=Unit) P N c ⟨d, .store t y z,ty,ps,af,g⟩ F H (λ_ =>True) (λ_ =>undef) (λ_ =>H'):=by
 subst hn;subst e;exact rP hx hz hv (iz _ _) (by rw[iz];exact p.le) (DA _ _) (p.put x v)
theorem ou(L:cZ α)[bq L](x:α){y:Operand}{t:Nat}{val:Value}(hx:ev F y=some val)(hv:val.cells.toList=L.enc x):
  RX P N c ⟨d, .box t y,ty,ps,af,g⟩ F H (λ_ =>True) (λb=>dO b 0) (λb=> .cells b t (L.enc x)::H):=Qo hx hv
theorem wU{L:cZ α}[bq L]{z:α}{t:Nat}(hz:jH P t (L.enc z)):
  RX P N c ⟨d, .alloc t,ty,ps,af,g⟩ F H (λ_ =>True) (λb=>dO b 0) (λb=> .cells b t (L.enc z)::H):=Ag (hz:=hz)
end rules
end Go.Bw
namespace Go.Bw
open Go Go.RowKit
def Hs(R:List aE)(w:World):Prop:=∀r∈R,r.holds w/\∀b∈r.cI,b<w.heap.size
class Cg(K:World->Prop):Prop where
 ok:∀w w',K w->aQ [] w w'->K w'
instance aff(R:List aE):Cg (Hs R):=⟨λw w' h hs r hr=>⟨aE.kT (h r hr).1 hs.size λb hb=>hs.block b ((h r hr).2 b hb) (by simp),λb hb=>Nat.lt_of_lt_of_le ((h r hr).2 b hb) hs.size⟩⟩
class HIn(A:World->Prop)(r:aE):Prop where
 ok:∀w,A w->r.holds w/\∀b∈r.cI,b<w.heap.size
instance(priority:=100) ah2(r:aE)(R:List aE):HIn (Hs (r::R)) r:=⟨λ_ h=>h r (by simp)⟩
instance(priority:=50) afm(r s:aE)(R:List aE)[h:HIn (Hs R) r]:HIn (Hs (s::R)) r:=⟨λw hw=>h.ok w λq hq=>hw q (by simp[hq])⟩
instance(priority:=30) ajZ(A B:World->Prop)(r:aE)[h:HIn B r]:HIn (λw=>A w/\B w) r:=⟨λw hw=>h.ok w hw.2⟩
class Ent(A B:World->Prop):Prop where
 ok:∀w,A w->B w
theorem ent{A B:World->Prop}[h:Ent A B]:∀w,A w->B w:=h.ok
instance(priority:=100) ah4(A:World->Prop):Ent A A:=⟨λ_ h=>h⟩
instance(priority:=80) aib(A:World->Prop):Ent A (Hs []):=⟨λ_ _ _ h=>by simp at h⟩
instance(priority:=70) ah5(A:World->Prop)(r:aE)(R:List aE)[h:HIn A r][k:Ent A (Hs R)]:Ent A (Hs (r::R)):=⟨λw hw q hq=>by
 rcases List.mem_cons.1 hq with rfl|hq
 ·exact h.ok w hw
 ·exact k.ok w hw q hq⟩
class Kn(c:Cx)(H:List aE)(A:World->Prop):Prop where
 ok:∀w,aQ c.bs c.w0 w->bH c.bs c.w0.heap.size H w->A w
theorem kn{c:Cx}{H:List aE}{A:World->Prop}[h:Kn c H A]:∀w,aQ c.bs c.w0 w->bH c.bs c.w0.heap.size H w->A w:=h.ok
theorem FG{c:Cx}{H:List aE}{w:World}(h:bH c.bs c.w0.heap.size H w):Hs H w:=λr hr=>⟨h.holds r hr,λb hb=>(h.own r hr b hb).2⟩
instance(priority:=80) ajY(c:Cx)(H R:List aE)[h:Ent (Hs H) (Hs R)]:Kn c H (Hs R):=⟨λw _ h2=>h.ok w (FG h2)⟩
instance(priority:=80) ah9(c:Cx)(H:List aE):Kn c H (λ_ =>True):=⟨λ_ _ _ =>trivial⟩
theorem adp{c:Cx}{K:World->Prop}[hS:Cg K](oo:c.bs=[])(hpre:K c.w0):∀H,Kn c H K:=λH=>⟨λw hs _ =>hS.ok c.w0 w hpre (by rw[oo]at hs;exact hs)⟩
section
variable {α β:Type}
def eI(L:cZ α)[bq L](xs:List α):List Value:=(xs.map L.enc).flatten
theorem mK(L:cZ α)[bq L](xs:List α):(eI L xs).length=xs.length*L.n:=by
 induction xs with
 |nil=>simp[eI]
 |cons x xs ih=>simp only[eI,List.map_cons,List.flatten_cons,List.length_append,List.length_cons,iz]at *;rw[ih,Nat.succ_mul];omega
theorem Vi(L:cZ α)[bq L](xs:List α):o9 (eI L xs):=by intro v hv;simp only[eI,List.mem_flatten,List.mem_map]at hv;obtain⟨l,⟨x,_,rfl⟩,h⟩:=hv;exact DA L x v h
theorem ur(L:cZ α)[bq L](xs ys:List α):eI L (xs++ys)=eI L xs++eI L ys:=by simp[eI]
theorem Ku(L:cZ α)[bq L](x:α):eI L [x]=L.enc x:=by simp[eI]
theorem PK(g:Nat->List Value):∀n,flat g (n+1)=g 0++flat (λi=>g (i+1)) n:=by
 intro n
 induction n with
 |zero=>simp[flat]
 |succ n ih=>rw[flat,ih,flat,List.append_assoc]
theorem gD(L:cZ α)[bq L][Inhabited α](xs:List α):eI L xs=(LA L xs.length).enc (λi=>xs.getD i default):=by
 show _ =flat (λi=>L.enc (xs.getD i default)) xs.length
 induction xs with
 |nil=>rfl
 |cons x xs ih=>rw[List.length_cons,PK];simp only[eI,List.map_cons,List.flatten_cons]at *;rw[ih];rfl
theorem Vj(L:cZ α)[bq L](xs:List α)(l h:Nat)(hl:l<=h)(hh:h<=xs.length):((eI L xs).drop (l*L.n)).take ((h-l)*L.n)=eI L ((xs.drop l).take (h-l)):=by
 have e1:xs=xs.take l++((xs.drop l).take (h-l)++(xs.drop l).drop (h-l)):=by rw[List.take_append_drop,List.take_append_drop]
 have l1:(eI L (xs.take l)).length=l*L.n:=by rw[mK,List.length_take,Nat.min_eq_left (by omega)]
 have l2:(eI L ((xs.drop l).take (h-l))).length=(h-l)*L.n:=by rw[mK];congr 1;simp;omega
 conv=>lhs;rw[e1,ur,ur]
 rw[← l1,List.drop_left, ← l2,List.take_left]
theorem Vg(L:cZ α)[bq L][Inhabited α](xs:List α)(m:Nat)(y:α)(hm:m<xs.length):(LA L xs.length).enc (iW (λi=>xs.getD i default) m y)=eI L (xs.set m y):=by
 rw[gD,List.length_set];show flat _ _ =flat _ _;refine uI λi hi=>?_;congr 1;unfold iW;simp only[List.getD,List.getElem?_set];by_cases e:m=i
 ·subst e;simp[hm]
 ·simp[e,Ne.symm e]
structure Fz(A:World->Prop)(v:Value)(L:cZ α)[bq L](xs:List α):Prop where
 sl:uV v xs.length
 ro:∀w,A w->Ro w v L.n xs.length (eI L xs)
theorem Fz.mono{A B:World->Prop}{v:Value}{L:cZ α}[bq L]{xs:List α}(h:Fz A v L xs)(m:∀w,B w->A w):Fz B v L xs:=⟨h.sl,λw hw=>h.ro w (m w hw)⟩
theorem Fz.nil{A:World->Prop}{L:cZ α}[bq L]{a:Option Addr}{cp:Nat}:Fz A (.slice a 0 cp) L ([]:List α):=⟨⟨_,_,rfl⟩,λ_ _ =>⟨by simp[eI], .inl ⟨⟨_,_,rfl⟩,rfl⟩⟩⟩
theorem Fz.at {c:Cx}{H:List aE}{A:World->Prop}{v:Value}{L:cZ α}[bq L]{xs:List α}(h:Fz A v L xs)[k:Kn c H A]:qf c H v L.n xs.length (eI L xs):=⟨λw h1 h2=>h.ro w (k.ok w h1 h2)⟩
abbrev rY(v:Value)(e sz:Nat)(L:cZ α)[bq L](xs:List α):aE:= .row v e sz xs.length (eI L xs)
theorem Fz.row{v:Value}{e sz:Nat}{L:cZ α}[bq L]{xs:List α}(hs:sz=L.n)(h:uV v xs.length):Fz (Hs [rY v e sz L xs]) v L xs:=⟨h,λw hw=>by
 subst hs;have h1:(rY v e L.n L xs).holds w:=(hw _ (List.mem_singleton.2 rfl)).1;exact Ro.vR (e:=e) h1⟩
theorem O0(M:cZ β)[bq M][Inhabited β](g:Nat->β)(m:Nat):eI M ((List.range m).map g)=flat (λi=>M.enc (g i)) m:=by rw[gD];show flat _ _ =_;rw[List.length_map,List.length_range];refine uI λi hi=>?_;simp[List.getD,hi]
theorem Fz.ago{W:World}{v:Value}{L:cZ α}[bq L][Inhabited α]{sz len:Nat}{g:Nat->α}(hs:sz=L.n)(hv:uV v len)(h:Ro W v sz len (flat (λi=>L.enc (g i)) len)):Fz (λw=>aQ [] W w) v L ((List.range len).map g):=by subst hs;refine⟨by simpa using hv,λw hw=>?_⟩;rw[O0];have:=h.since hw;simpa using this
def LSl(L:cZ α)[bq L]:cZ (List α) where
 n:=1
 fg A cs xs:=∃v,cs=[v]/\Fz A v L xs
 len:=λ⟨v,h,_⟩=>by subst h;rfl
 one:=λ⟨v,h,hf⟩=>by subst h;intro u hu;rw[List.mem_singleton.1 hu];exact hf.sl.one
 mono m:=λ⟨v,h,hf⟩=>⟨v,h,hf.mono m⟩
theorem aV.sl{L:cZ α}{M:cZ β}[bq M]{o:Nat}{g:α->List β}{s:α->List β->α}(p:aV L (LSl M) o g s){A cs x}(r:L.fg A cs x):∃v,cs[o]? =some v/\Fz A v M (g x):=by
 obtain⟨v,h,hf⟩:=p.get r;refine⟨v,?_,hf⟩;have h2:((cs.drop o).take (LSl M).n)[0]? =some v:=by rw[h];rfl
 rw[List.getElem?_take,akd (by show 0<1;decide),List.getElem?_drop]at h2;exact h2
end
section rules
variable {P:Program} {N:Nat} {c:Cx} {D:List Deferred} {Q:Exit->Act->World->Prop} {F:eH} {H:List aE} {d:Option Tmp} {ty:TypeId} {ps:String} {af:Array Edge} {g:Option (Nat×Bool)} {α β γ:Type}
section
variable {A:World->Prop} {v:Value} {L:cZ α} [bq L] {xs:List α}
theorem tq{x:Operand}{t e q:Nat}[ht:vD P t e q](hf:Fz A v L xs)(hx:ev F x=some v)[Kn c H A]:VS P N c ⟨d, .call ⟨.builtin .len, #[x], #[t]⟩,ty,ps,af,g⟩ F H (.int .i64 (xs.length:Int)):=by haveI:=hf.at (c:=c) (H:=H);exact Ql hx
theorem Ab{x y:Operand}{t e sz m:Nat}{k:IntKind}{i:Int}[ht:vD P t e sz](hf:Fz A v L xs)(hs:L.n=sz)(hx:ev F x=some v)(hy:ev F y=some (.int k i))[Kn c H A](hi:i=(m:Int))(hm:m<xs.length):
  VS P N c ⟨d, .indexAddr t x y,ty,ps,af,g⟩ F H (gC v (m*sz)):=by
 haveI:=hf.at (c:=c) (H:=H);subst hs;exact xO hx hy hi hm
variable [Inhabited α]
theorem AG{k:IntKind}{o t:Nat}{y:Operand}{gg:(Nat->α)->Int}{s:(Nat->α)->Int->(Nat->α)}(hf:Fz A v L xs)(p:aV (LA L xs.length) (LI k) o gg s)(hx:ev F y=some (gC v o))[Kn c H A][qS P t]:VS P N c ⟨d, .load t y,ty,ps,af,g⟩ F H (.int k (gg (λi=>xs.getD i default))):=by haveI:=hf.at (c:=c) (H:=H);exact F4 hx (by rw[gD];exact p.int (rp _ _))
end
def ig(n m b:Nat):Bool:=decide ((n+m)*b<=140737488355328/\n+m<=9223372036854775807)
theorem uP{n m b:Nat}(h:ig n m b=true):(n+m)*b<=140737488355328/\n+m<=9223372036854775807:=of_decide_eq_true h
section
variable {v:Value} {L:cZ α} [bq L] {xs:List α} {t e sz bytes:Nat} {f:aE->List aE}
theorem MJ{s x:Operand}{b T cp:Nat}{y:α}[Oz P t e sz bytes](hs:ev F s=some v)[hr:vE H v e sz xs.length (eI L xs) f](hx:ev F x=some (.slice (some ⟨b,0,none⟩) 1 cp))[hc:sE H b T (L.enc y)](hn:L.n=sz)
  (KT:(xs.length+1)*bytes<=140737488355328)(h63:xs.length+1<=9223372036854775807):
  RX P N c ⟨d, .call ⟨.builtin .append, #[s,x], #[t,t]⟩,ty,ps,af,g⟩ F H (λv'=>uV v' (xs++[y]).length) (λv'=>v') (λv'=>f (rY v' e sz L (xs++[y]))):=by
 have h:=TX (P:=P) (N:=N) (c:=c) (F:=F) (H:=H) (d:=d) (ty:=ty) (p:=ps) (af:=af) (g:=g) (t:=t) (m:=1) hs hx (by rw[iz,hn];omega) (DA L y) KT h63 (hr:=hr) (hc:=hc);have e1:(xs++[y]).length=xs.length+1:=by simp
 have e2:eI L (xs++[y])=eI L xs++L.enc y:=by rw[ur,Ku]
 unfold rY;rw[e1,e2];exact h
theorem MI{x:Operand}(L:cZ α)[bq L](y:α){zs:List Value}{val:Value}[ht:vD P t e sz][hz:jH P e zs](hx:ev F x=some val)(hc:val.cells.toList=L.enc y)(hl:L.n=sz)(hzl:zs.length=sz)(h0:0<sz)(hs:sz<=16777216):
  RX P N c ⟨d, .buildSlice t 1 #[(0,x)],ty,ps,af,g⟩ F H (λ_ =>True) (λb=> .slice (some ⟨b,0,none⟩) 1 1) (λb=> .cells b e (L.enc y)::H):=Jf hx hc (by rw[iz];exact hl) hzl h0 hs
end
theorem My{x:Code}(e sz:Nat)(L:cZ α)[bq L](h:WP P N c D x Q F (rY (.slice none 0 0) e sz L []::H)):WP P N c D x Q F H:=aa7 e sz h
theorem aa3{x:Exit}(e sz:Nat)(L:cZ α)[bq L](h:WQ N c D Q x F (rY (.slice none 0 0) e sz L []::H)):WQ N c D Q x F H:=aa4 e sz h
abbrev FnB(P:Program)(f:Nat)(args:List Value)(K:World->Prop)(p:(World->Prop)->Value->Prop):Prop:=
 Fn (α:=Value×List Nat×(World->Prop)) P f args K [] (λx=>p (Hs [.ext x.2.1 x.2.2]) x.1) (λx=>x.1) (λx=>[.ext x.2.1 x.2.2])
theorem XH{bs:List Nat}{n0:Nat}{w:World}{R H':List aE}(h:bH bs n0 (R++H') w):bH bs n0 (.ext (bF R) (Hs R)::H') w:=by
 have hp:=List.pairwise_append.1 h.apart;refine⟨λr hr=>?_,λr hr b hb=>?_,?_⟩
 ·rcases List.mem_cons.1 hr with rfl|hr
  ·intro w' h1 h2 q hq
   have DZ:=h.holds q (akk _ hq);exact⟨aE.kT DZ h1 λb hb=>h2 b (bg.2 ⟨q,hq,hb⟩),λb hb=>Nat.lt_of_lt_of_le (h.own q (akk _ hq) b hb).2 h1⟩
  ·exact h.holds r (akj _ hr)
 ·rcases List.mem_cons.1 hr with rfl|hr
  ·obtain⟨q,hq,hb⟩:=bg.1 hb;exact h.own q (akk _ hq) b hb
  ·exact h.own r (akj _ hr) b hb
 ·refine List.pairwise_cons.2 ⟨λs hs b hb oo=>?_,hp.2.1⟩
  obtain⟨q,hq,hb⟩:=bg.1 hb;exact hp.2.2 q hq s hs b hb oo
theorem E7{e:Exit}{R H':List aE}{ks:List Nat}(hk:pick H ks=some (R++H'))(hn:ks.Nodup)(h:WQ N c D Q e F (.ext (bF R) (Hs R)::H')):WQ N c D Q e F H:=XY (λ_ _ _ hp=>XH (hp.pick hk hn)) h
instance(priority:=60) aia(bs:List Nat)(R:List aE)(r:aE)(S:List aE)[h:HIn (Hs R) r]:HIn (Hs (.ext bs (Hs R)::S)) r:=⟨λw hw=>h.ok w (Dz (hw (.ext bs (Hs R)) (by simp)).1)⟩
end rules
end Go.Bw
namespace Go.Bw
open Go Go.RowKit
section rules
variable {P:Program} {N:Nat} {c:Cx} {D:List Deferred} {Q:Exit->Act->World->Prop} {F:eH} {H:List aE} {d:Option Tmp} {ty:TypeId} {ps:String} {af:Array Edge} {g:Option (Nat×Bool)} {α β γ:Type}
def IS(P:Program)(t n e sz:Nat):Bool:=match P.underlying t with
 |some (.pointer a)=>IU P a n e sz
 |_ =>false
theorem E1{t n e sz:Nat}(h:IS P t n e sz=true):∃a i,P.underlying t=some (.pointer a)/\P.underlying a=some (.array n e)/\P.info? e=some i/\i.size=sz:=by
 unfold IS at h;split at h
 ·rename_i a h1
  obtain⟨i,h2,h3,h4⟩:=tu.get h;exact⟨a,i,h1,h2,h3,h4⟩
 ·cases h
def YM(b off l n sz:Nat):Value:= .slice (some (if n=l then⟨b,off,none⟩else⟨b,off+l*sz,none⟩)) (n-l) (n-l)
theorem Od{x hi:Operand}{t n e sz b off m:Nat}{k:IntKind}{i:Int}[ht:tu P t n e sz](hx:ev F x=some (dO b off))(hhi:ev F hi=some (.int k i))(h1:i=(m:Int))(hm:m<=n):
  VS P N c ⟨d, .slice t x none (some hi) none,ty,ps,af,g⟩ F H (.slice (some ⟨b,off,none⟩) m n):=
 aG (by simp) λa w hf _ _ =>by obtain⟨inf,e1,e3,e4⟩:=tu.get ht.ok;subst h1;have b1:=oW (P:=P) (k:=k) (w:=w) (code:= .sliceAlen) hm;simp[execOp,aI hf hx,aI hf hhi,Instr.sliceAt,run_underlying e1,Instr.sliceBounds,b1,sizeOf,typeInfo,e3,dO,Instr.sureAddr,asAddr,Addr.add]
theorem Ye{x lo:Operand}{t n e sz b off l:Nat}{k:IntKind}{i:Int}[ht:tu P t n e sz](hx:ev F x=some (dO b off))(hlo:ev F lo=some (.int k i))(h1:i=(l:Int))(hl:l<=n):
  VS P N c ⟨d, .slice t x (some lo) none none,ty,ps,af,g⟩ F H (YM b off l n sz):=
 aG (by simp) λa w hf _ _ =>by obtain⟨inf,e1,e3,e4⟩:=tu.get ht.ok;subst h1;have b1:=oW (P:=P) (k:=k) (w:=w) (code:= .sliceB) hl;simp[execOp,aI hf hx,aI hf hlo,Instr.sliceAt,run_underlying e1,Instr.sliceBounds,b1,sizeOf,typeInfo,e3,e4,dO,Instr.sureAddr,asAddr,YM,Addr.add_lit]
theorem TQ{x:Operand}{t n e sz b off:Nat}[ht:tu P t n e sz](hx:ev F x=some (dO b off)):
  VS P N c ⟨d, .slice t x none none none,ty,ps,af,g⟩ F H (.slice (some ⟨b,off,none⟩) n n):=
 aG (by simp) λa w hf _ _ =>by obtain⟨inf,e1,e3,e4⟩:=tu.get ht.ok;simp[execOp,aI hf hx,Instr.sliceAt,run_underlying e1,Instr.sliceBounds,sizeOf,typeInfo,e3,e4,dO,Instr.sureAddr,asAddr,Addr.add]
theorem Oc{x hi:Operand}{t n e sz b off m:Nat}{k:IntKind}{i:Int}(ht:IS P t n e sz=true)(hx:ev F x=some (dO b off))(hhi:ev F hi=some (.int k i))(h1:i=(m:Int))(hm:m<=n):
  VS P N c ⟨d, .slice t x none (some hi) none,ty,ps,af,g⟩ F H (.slice (some ⟨b,off,none⟩) m n):=
 aG (by simp) λa w hf _ _ =>by obtain⟨ar,inf,e1,e2,e3,e4⟩:=E1 ht;subst h1;have b1:=oW (P:=P) (k:=k) (w:=w) (code:= .sliceAlen) hm;simp[execOp,aI hf hx,aI hf hhi,Instr.sliceAt,run_underlying e1,run_underlying e2,Instr.slice,Instr.sliceBounds,b1,sizeOf,typeInfo,e3,dO,Instr.sureAddr,asAddr,Addr.add]
theorem Yd{x lo:Operand}{t n e sz b off l:Nat}{k:IntKind}{i:Int}(ht:IS P t n e sz=true)(hx:ev F x=some (dO b off))(hlo:ev F lo=some (.int k i))(h1:i=(l:Int))(hl:l<=n):
  VS P N c ⟨d, .slice t x (some lo) none none,ty,ps,af,g⟩ F H (YM b off l n sz):=
 aG (by simp) λa w hf _ _ =>by obtain⟨ar,inf,e1,e2,e3,e4⟩:=E1 ht;subst h1;have b1:=oW (P:=P) (k:=k) (w:=w) (code:= .sliceB) hl;simp[execOp,aI hf hx,aI hf hlo,Instr.sliceAt,run_underlying e1,run_underlying e2,Instr.slice,Instr.sliceBounds,b1,sizeOf,typeInfo,e3,e4,dO,Instr.sureAddr,asAddr,YM,Addr.add_lit]
theorem TP{x:Operand}{t n e sz b off:Nat}(ht:IS P t n e sz=true)(hx:ev F x=some (dO b off)):
  VS P N c ⟨d, .slice t x none none none,ty,ps,af,g⟩ F H (.slice (some ⟨b,off,none⟩) n n):=
 aG (by simp) λa w hf _ _ =>by obtain⟨ar,inf,e1,e2,e3,e4⟩:=E1 ht;simp[execOp,aI hf hx,Instr.sliceAt,run_underlying e1,run_underlying e2,Instr.slice,Instr.sliceBounds,sizeOf,typeInfo,e3,e4,dO,Instr.sureAddr,asAddr,Addr.add]
def cpA{β:Type}(i j n:Nat)(a:Nat->β):Nat->β:=λq=>if i<=q/\q<i+min (n-j) (n-i)then a (q-i+j)else a q
theorem Xk{f:Nat->List Value}(h:∀i,(f i).length=1){n q:Nat}:(flat f n)[q]? =if q<n then(f q)[0]? else none:=by
 by_cases hq:q<n
 ·rw[akd hq]
  have:=rJ (g:=f) (k:=1) (n:=n) (i:=q) (j:=0) (λi _ =>h i) hq (by decide);rwa[Nat.mul_one,Nat.add_zero]at this
 ·rw[ake hq]
  exact List.getElem?_eq_none (by rw[ga (k:=1) (λi _ =>h i)];omega)
theorem Yl{A:World->Prop}{v:Value}{L:cZ α}[bq L]{xs:List α}{x hi mx:Operand}{t e q:Nat}{k k':IntKind}[ht:vD P t e q](hf:Fz A v L xs)(hx:ev F x=some v)(hh:ev F hi=some (.int k (xs.length:Int)))(hm:ev F mx=some (.int k' (xs.length:Int)))[Kn c H A]:
  VS P N c ⟨d, .slice t x none (some hi) (some mx),ty,ps,af,g⟩ F H (yp v):=by
 haveI:=hf.at (c:=c) (H:=H);exact R7 hx hh hm
def Ul(bs:List Nat)(K:World->Prop)(w:World):Prop:=∀w',aQ bs w w'->K w'
class KnF(c:Cx)(R:List aE)(K:World->Prop):Prop where
 ok:∀w,aQ c.bs c.w0 w->Hs R w->K w
instance(priority:=80) ah0(c:Cx)(R:List aE):KnF c R (λ_ =>True):=⟨λ_ _ _ =>trivial⟩
instance(priority:=20) aka(c:Cx)(H:List aE)(K:World->Prop)[h:KnF c H K]:Kn c H K:=⟨λw h1 h2=>h.ok w h1 (FG h2)⟩
theorem aae{c:Cx}{K:World->Prop}[hS:Cg K](oo:c.bs=[])(hpre:K c.w0):∀R,KnF c R K:=λR=>⟨λw hs _ =>hS.ok c.w0 w hpre (by rw[oo]at hs;exact hs)⟩
abbrev FnC(P:Program)(f:Nat)(args:List Value)(K:World->Prop)(nc:List aE)(p:(World->Prop)->Value->List aE->Prop):Prop:=
 Fn (α:=Value×List aE×List Nat×(World->Prop)) P f args (Ul (bF nc) K) nc (λx=>p (Hs [.ext x.2.2.1 x.2.2.2]) x.1 x.2.1) (λx=>x.1) (λx=> .ext x.2.2.1 x.2.2.2::x.2.1)
theorem Af{α:Type}{x:Operand}{args:List Operand}{ats:Array TypeId}{f:Nat}{fst cap:Array Value}{us vs:List Value}{K:World->Prop}{nc rest:List aE}{p:α->Prop}{fv:α->Value}{fH:α->List aE}{ks:List Nat}
  (hc:Fn P f vs (Ul (bF nc) K) nc p fv fH)(hx:ev F x=some (.func (.func f) fst cap))(ha:D3 F args=some us)(hv:fst.toList++us++cap.toList=vs)(hkp:pick H ks=some (nc++rest))(hn:ks.Nodup)[hK:KnF c rest K]:
  RX P N c ⟨d, .call ⟨.value x,args.toArray,ats⟩,ty,ps,af,g⟩ F H p fv (λi=>fH i++rest):=λD a w next Q hst hk=>by
 refine⟨λ_ _ =>trivial,?_⟩;have hs:Oper.semAt (FA c.ro).round a.eval (⟨d, .call ⟨.value x,args.toArray,ats⟩,ty,ps,af,g⟩:Oper)=execOp a.eval ⟨d, .call ⟨.value x,args.toArray,ats⟩,ty,ps,af,g⟩:=Oper.semAt_eq _ _ _ (by simp);have hr:(execOp a.eval ⟨d, .call ⟨.value x,args.toArray,ats⟩,ty,ps,af,g⟩).run P w= .ok (.enter f vs.toArray) w:=by
  have e1:=aI hst.fr hx;have e2:=Mr hst.fr ha;have e3:fst++(args.toArray.map a.eval)++cap=vs.toArray:=by rw[← hv, ← e2];simp
  simp only[execOp,resolve,e1,Deferred.ofValue,Sem.run_bind,Sem.run_pure,Result.andThen_ok,invoke,e3];exact hc.enter _ _
 rw[hs,hr];refine⟨λh=>by simp at h,jN c.ro ?_⟩;have hp:=hst.hp.pick hkp hn;have hap:=List.pairwise_append.1 hp.apart;have hin:bH (bF nc) w.heap.size nc w:=⟨λr hr=>hp.holds r (akk _ hr),λr hr b hb=>⟨.inl (bg.2 ⟨r,hr,hb⟩),(hp.own r (akk _ hr) b hb).2⟩,hap.1⟩;have hkeep:∀{w':World},aQ (bF nc) w w'->∀r∈rest,r.holds w'/\∀b∈r.cI,b<w'.heap.size:=λhsi r hr=>by have hlt:∀b∈r.cI,b<w.heap.size:=λb hb=>(hp.own r (akj _ hr) b hb).2;refine⟨aE.kT (hp.holds r (akj _ hr)) hsi.size λb hb=>hsi.block b (hlt b hb) λhm=>?_,λb hb=>Nat.lt_of_lt_of_le (hlt b hb) hsi.size⟩;obtain⟨q,hq,WX⟩:=bg.1 hm;exact hap.2.2 q hq r hr b WX hb
 have hown:∀b∈bF nc,b∈c.bs\/c.w0.heap.size<=b:=λb hb=>by obtain⟨q,hq,WX⟩:=bg.1 hb;exact(hp.own q (akk _ hq) b WX).1
 have hpre:Ul (bF nc) K w:=λw' hsi=>hK.ok w' (hst.si.trans hsi hown) (hkeep hsi);have uF:=hc.calls w hpre hin;intro cs;obtain⟨e,w',fr,⟨i,hpi,he,hsi,hh⟩,iH⟩:=uF cs;refine⟨e,w',fr,?_,iH⟩;subst he;have zI:=hkeep hsi;refine hk i w' hpi (hst.si.trans hsi hown) ⟨λr hm=>?_,λr hm b hb=>?_,List.pairwise_append.2 ⟨hh.apart,hap.2.1,λr h1 s h2 b hb Q9=>?_⟩⟩
 ·rcases List.mem_append.1 hm with h1|h1
  ·exact hh.holds r h1
  ·exact(zI r h1).1
 ·rcases List.mem_append.1 hm with h1|h1
  ·obtain⟨o,l⟩:=hh.own r h1 b hb
   refine⟨?_,l⟩;rcases o with o|o
   ·exact hown b o
   ·exact .inr (Nat.le_trans hst.si.size o)
  ·exact⟨(hp.own r (akj _ h1) b hb).1,(zI r h1).2 b hb⟩
 ·obtain⟨o,_⟩:=hh.own r h1 b hb
  rcases o with o|o
  ·obtain⟨q,hq,WX⟩:=bg.1 o
   exact hap.2.2 q hq s h2 b WX Q9
  ·have:=(hp.own s (akj _ h2) b Q9).2
   omega
end rules
end Go.Bw
namespace Go.Bw
open Go Go.RowKit Go.ChangeShapes Go.WideShapes Go.Deep
theorem Below.V1{w w':World}(h:aQ [] w w'):Below w.heap.size w w':=⟨h.os,h.tape,h.output,h.size,λk hk=>h.block k hk (by simp)⟩
theorem aaR{w:World}{a:Addr}{v:Value}(h:w.cell? a=some v):a.block<w.heap.size:=by
 rcases Nat.lt_or_ge a.block w.heap.size with h1|h1
 ·exact h1
 ·have:w.heap[a.block]? =none:=Array.getElem?_eq_none h1
  simp[World.cell?,this]at h
section
variable {H:Type} {enc:TypeId×Value->H} {P:Program} {w:World} {base:Nat} {spare:Nat->Bool} {held:Bool}
theorem OO{t fuel:Nat}{fs:Array Field}{cs:List Value}{x:DataW H×List MemPlace}(ht:P.underlying t=some (.struct fs))(h:DataW.trod enc P w base spare held fuel t cs=some x):
  cs.length=P.cellsOf t/\∀(i:Nat) (f:Field),fs[i]? =some f->∃n y,DataW.trod enc P w base spare held n f.type ((cs.drop f.offset).take (P.cellsOf f.type))=some y:=by
 obtain⟨ys,n,_,_,hl,hy,hf⟩:=DataW.trod_struct ht h;refine⟨hl,λi f hi=>?_⟩;have hlt:i<ys.length:=by rw[hy];exact(akl.1 hi).1
 exact⟨n,ys[i],(hf i f hi).trans (akm hlt)⟩
theorem ZO{α:Type}[Inhabited α]{t e sz fuel len cap:Nat}{a:Option Addr}{x:DataW H×List MemPlace}(E:α->List Value)(R:α->Prop)(ht:P.underlying t=some (.slice e))(hC:P.cellsOf e=sz)(h0:0<sz)
  (hE:∀z,(E z).length=sz)(hQ:∀(n:Nat) (cs:List Value) y,DataW.trod enc P w base spare held n e cs=some y->∃z,cs=E z/\R z)(h:DataW.trod enc P w base spare held fuel t [.slice a len cap]=some x):
  ∃g:Nat->α,Ro w (.slice a len cap) sz len (flat (λi=>E (g i)) len)/\(∀i,i<len->R (g i))/\len<=maxLen:=by
 rcases open_slice ht h with⟨hcs,_⟩|⟨a',len',cap',m,n,D,Pl,hcs,_,hl,hm,Mb,_,hi⟩
 ·simp at hcs
  obtain⟨rfl,rfl,rfl⟩:=hcs;exact⟨λ_ =>default,⟨by simp[flat], .inl ⟨⟨_,_,rfl⟩,rfl⟩⟩,λi hi=>by omega,Nat.zero_le _⟩
 ·simp at hcs
  obtain⟨rfl,rfl,rfl⟩:=hcs;have hlm:len<=m:=by rw[Mb];split<;>omega
  have hex:∀i,i<len->∃z,R z/\∀j,j<sz->w.cell? (a'.add (i*sz+j))=(E z)[j]? :=λi yE=>by obtain⟨cs',hc,ht'⟩:=hi i (by omega);obtain⟨z,rfl,hz⟩:=hQ _ _ _ ht';rw[hC]at hc;obtain⟨_,_,hat⟩:=World.cells?_some hc;refine⟨z,hz,λj hj=>?_⟩;rw[← hat j hj, ← Go.Deep.add_add]
  let g:Nat->α:=λi=>if hh:i<len then Classical.choose (hex i hh)else default
  have hg:∀i,i<len->R (g i)/\∀j,j<sz->w.cell? (a'.add (i*sz+j))=(E (g i))[j]? :=λi yE=>by have:=Classical.choose_spec (hex i yE);simp only[g,yE,dif_pos];exact this
  refine⟨g,⟨ga λi _ =>hE _,?_⟩,λi yE=>(hg i yE).1,by omega⟩;have hcells:∀(j:Nat) u,(flat (λi=>E (g i)) len)[j]? =some u->w.cell? (a'.add j)=some u:=λj u hu=>by
   have hlen:(flat (λi=>E (g i)) len).length=len*sz:=ga λi _ =>hE _;have hj:j<len*sz:=by rw[← hlen];exact(List.getElem?_eq_some_iff.1 hu).1
   have hd:j=(j/sz)*sz+j%sz:=by rw[Nat.mul_comm];exact(Nat.div_add_mod j sz).symm
   have hq:j/sz<len:=(Nat.div_lt_iff_lt_mul h0).2 hj;have hr:j%sz<sz:=Nat.mod_lt _ h0;rw[hd,rJ (g:=λi=>E (g i)) (λi _ =>hE _) hq hr]at hu;rw[hd,(hg _ hq).2 _ hr,hu]
  rcases Nat.eq_zero_or_pos len with e0|e0
  ·subst e0;exact .inl ⟨⟨_,_,rfl⟩,rfl⟩
  ·obtain⟨b,off,spot⟩:=a'
   have hz:(flat (λi=>E (g i)) len)[0]? =some ((flat (λi=>E (g i)) len)[0]'(by rw[ga (k:=sz) (λi _ =>hE _)];exact Nat.mul_pos e0 h0)):=akm _;have h1:=hcells 0 _ hz;have ag0:spot=none:=by simpa[Addr.add]using World.cell?_spot h1
   subst ag0;refine .inr ⟨b,off,cap,rfl,?_,by omega,λj u hu=>?_⟩
   ·simpa[Addr.add]using aaR h1
   ·have:=hcells j u hu
    rwa[Addr.add_lit]at this
end
end Go.Bw
