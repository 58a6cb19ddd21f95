/- Part 3 of what a proof leans on; pruned and shortened by a program out of longer texts. -/
import Derived.Test.YtjabpidfkmhbbaaGreatDoorQ2
namespace Go.Bw
open Go Go.RowKit
def yl{β:Type}(e:β)(m:Option (List β)):Option (List β):=m.map (e::·)
theorem Y7{β:Type}{e:β}{m:Option (List β)}{r:List β}(h:yl e m=some r):∃r',r=e::r'/\m=some r':=by
 cases m with
 |none=>cases h
 |some l=>exact⟨l,(Option.some.inj h).symm,rfl⟩
section
variable {α1 β ρ:Type}
def wZ(B:β->(α1->Option ρ)->α1->Option ρ)(fin:α1->Option ρ):List β->α1->Option ρ
 |[],a1=>fin a1
 |x::l,a1=>B x (wZ B fin l) a1
end
section
variable {α1 α2 β ρ:Type}
def Wg(B:β->(α1->α2->Option ρ)->α1->α2->Option ρ)(fin:α1->α2->Option ρ):List β->α1->α2->Option ρ
 |[],a1,a2=>fin a1 a2
 |x::l,a1,a2=>B x (Wg B fin l) a1 a2
end
section
variable {α1 α2 α3 β ρ:Type}
def RU(B:β->(α1->α2->α3->Option ρ)->α1->α2->α3->Option ρ)(fin:α1->α2->α3->Option ρ):List β->α1->α2->α3->Option ρ
 |[],a1,a2,a3=>fin a1 a2 a3
 |x::l,a1,a2,a3=>B x (RU B fin l) a1 a2 a3
end
section
variable {α1 α2 α3 α4 β ρ:Type}
def Wd(B:β->(α1->α2->α3->α4->Option ρ)->α1->α2->α3->α4->Option ρ)(fin:α1->α2->α3->α4->Option ρ):List β->α1->α2->α3->α4->Option ρ
 |[],a1,a2,a3,a4=>fin a1 a2 a3 a4
 |x::l,a1,a2,a3,a4=>B x (Wd B fin l) a1 a2 a3 a4
end
section
variable {α1 α2 α3 α4 α5 β ρ:Type}
def Wc(B:β->(α1->α2->α3->α4->α5->Option ρ)->α1->α2->α3->α4->α5->Option ρ)(fin:α1->α2->α3->α4->α5->Option ρ):List β->α1->α2->α3->α4->α5->Option ρ
 |[],a1,a2,a3,a4,a5=>fin a1 a2 a3 a4 a5
 |x::l,a1,a2,a3,a4,a5=>B x (Wc B fin l) a1 a2 a3 a4 a5
end
section
variable {α1 α2 α3 α4 α5 α6 β ρ:Type}
def Wb(B:β->(α1->α2->α3->α4->α5->α6->Option ρ)->α1->α2->α3->α4->α5->α6->Option ρ)(fin:α1->α2->α3->α4->α5->α6->Option ρ):List β->α1->α2->α3->α4->α5->α6->Option ρ
 |[],a1,a2,a3,a4,a5,a6=>fin a1 a2 a3 a4 a5 a6
 |x::l,a1,a2,a3,a4,a5,a6=>B x (Wb B fin l) a1 a2 a3 a4 a5 a6
end
section
variable {α1 α2 α3 α4 α5 α6 α7 β ρ:Type}
def Wa(B:β->(α1->α2->α3->α4->α5->α6->α7->Option ρ)->α1->α2->α3->α4->α5->α6->α7->Option ρ)(fin:α1->α2->α3->α4->α5->α6->α7->Option ρ):List β->α1->α2->α3->α4->α5->α6->α7->Option ρ
 |[],a1,a2,a3,a4,a5,a6,a7=>fin a1 a2 a3 a4 a5 a6 a7
 |x::l,a1,a2,a3,a4,a5,a6,a7=>B x (Wa B fin l) a1 a2 a3 a4 a5 a6 a7
end
section
variable {α1 α2 α3 α4 α5 α6 α7 α8 β ρ:Type}
def V9(B:β->(α1->α2->α3->α4->α5->α6->α7->α8->Option ρ)->α1->α2->α3->α4->α5->α6->α7->α8->Option ρ)(fin:α1->α2->α3->α4->α5->α6->α7->α8->Option ρ):List β->α1->α2->α3->α4->α5->α6->α7->α8->Option ρ
 |[],a1,a2,a3,a4,a5,a6,a7,a8=>fin a1 a2 a3 a4 a5 a6 a7 a8
 |x::l,a1,a2,a3,a4,a5,a6,a7,a8=>B x (V9 B fin l) a1 a2 a3 a4 a5 a6 a7 a8
end
end Go.Bw
namespace Go.Bw
open Go Go.RowKit
section rules
variable {P:Program} {N:Nat} {c:Cx} {D:List Deferred} {Q:Exit->Act->World->Prop} {F:cE} {H:List av} {d:Option Tmp} {ty:TypeId} {ps:String} {af:Array Edge} {g:Option (Nat×Bool)} {α β γ:Type}
theorem Nf{L:bP α}[aR L][Inhabited α]{M:bP β}[aR M]{v:Value}{xs:List α}{e sz off t q:Nat}{x y:Operand}{val:Value}{gg:(Nat->α)->β}{s:(Nat->α)->β->(Nat->α)}{f:av->List av}{z:α}
  (m:Nat)(p:aM (LA L xs.length) M off gg s)(u:β)(ys:List α)(hy:ys=xs.set m z)(hx:ev F x=some (dK v off))(hz:ev F y=some val)(hv:val.cells.toList=M.enc u)(hs:s (λi=>xs.getD i default) u=mg (λi=>xs.getD i default) m z)
  (hm:m<xs.length)(hn:M.n=q)[hr:qv H v e sz xs.length (cH L xs) f](hsz:L.n=sz)[ht:JI P t q]:
  RX (α:=Unit) P N c ⟨d, .store t x y,ty,ps,af,g⟩ F H (λ_ =>True) (λ_ =>undef) (λ_ =>f (nN v e sz L ys)):=λD a w next Q hst hk=>by
 subst hn hsz;obtain⟨k,k1,k2⟩:=hr.ok;have GL:av.row v e L.n xs.length (cH L xs)∈H:=List.mem_of_getElem? k1;have hown:w.ownsRow 0 e L.n v xs.length (cH L xs):=hst.hp.holds _ GL;obtain⟨hlen,Ac⟩:=hown;rcases Ac with⟨_,h0⟩|⟨gb,cap,cur,rfl,_,LX,hnc,Ie,hcs,Dm⟩
 ·omega
 have hle:off+M.n<=xs.length*L.n:=p.le;have hmul:xs.length*L.n<=cap*L.n:=Nat.mul_le_mul_right _ hnc;obtain⟨cs,rfl⟩:∃cs:List Value,cur=cs.toArray:=⟨cur.toList,by simp⟩;have pG:cs.length=cap*L.n:=by simpa using hcs
 have Um:cs.take (xs.length*L.n)=cH L xs:=by simpa using Dm
 have Yh:(M.enc u).length=M.n:=eV M u;obtain⟨w',e1,e2,e3⟩:=nS (P:=P) (t:=t) (b:=gb) (T:=e) (off:=off) (cs:=cs) (w:=w) LX hv Yh (by omega) (yy M u);have Qr:ys.length=xs.length:=by rw[hy,List.length_set]
 have hnew:(bn cs off (M.enc u)).take (xs.length*L.n)=cH L ys:=by
  have h1:bn (cH L xs) off (M.enc u)=cH L ys:=by rw[dZ L xs,hy, ← KL L xs m z hm, ← hs];exact p.put _ _
  rw[← h1, ← Um];unfold bn;rw[Yh];have t1:(cs.take (xs.length*L.n)).take off=cs.take off:=by rw[List.take_take,Nat.min_eq_left (by omega)]
  have t2:(cs.take (xs.length*L.n)).drop (off+M.n)=(cs.drop (off+M.n)).take (xs.length*L.n-(off+M.n)):=by rw[List.drop_take]
  have t3:(cs.take off++M.enc u).length=off+M.n:=by rw[List.length_append,List.length_take,Yh,Nat.min_eq_left (by omega)]
  rw[t1,t2,List.take_append,List.take_of_length_le (by omega),t3]
 refine kF (by simp) (w':=w') ?_ (hk () w' trivial (hst.si.store hst.hp GL (by simp[av.bK,Value.ownBlock]) e3) ?_)
 ·simp[execOp,ay hst.fr hx,ay hst.fr hz,dK,Instr.storeAt,Instr.sureAddr,e1]
 ·show aX c.bs c.w0.heap.size (f (nN _ e L.n L ys)) w'
  rw[nN,k2];refine hst.hp.set k1 e3.size (λj hj hn=>e3.block j hj (by simpa[av.bK,Value.ownBlock]using hn)) ?_ hst.si.size (λb' hb'=>?_)
  ·refine⟨by rw[ju], .inr ⟨gb,cap,_,by rw[Qr],Nat.zero_le _,e2,by omega,Ie,?_,?_⟩⟩
   ·simp only[List.size_toArray,bn,List.length_append,List.length_take,List.length_drop,Yh];omega
   ·rw[Qr];simpa using hnew
  ·have h5:b'=gb:=by simpa[av.bK,Value.ownBlock]using hb'
   subst h5;exact⟨.inl (by simp[av.bK,Value.ownBlock]),Nat.lt_of_lt_of_le (abf.1 LX).1 e3.size⟩
theorem zI{ops:Array Oper}{rest:List Oper}{x:Operand}{args:List Operand}{ats:Array TypeId}{f:Nat}{fst cap:Array Value}{us vs:List Value}{K:World->Prop}{iR Ud:List av}{val:Value}{ks:List Nat}{gg:Option (Nat×Bool)}{b:Bool}{dd:Tmp}
  (hg:Gd ops F gg b)(hd:Nat.blt dd N=true)(hc:b=true->Fn (α:=Unit) P f vs (J5 (aU iR) K) iR (λ_ =>True) (λ_ =>val) (λ_ =>iR))(hx:b=true->ev F x=some (.func (.func f) fst cap))(ha:b=true->Ai F args=some us)
  (hv:fst.toList++us++cap.toList=vs)(hkp:pick H ks=some (iR++Ud))(hn:ks.Nodup)(hK:b=true->UC c Ud K)
  (h:WL P N c D ops Q rest ((dd,bif b then val else undef)::F) (iR++Ud)):
  WL P N c D ops Q (⟨some dd, .call ⟨.value x,args.toArray,ats⟩,ty,ps,af,gg⟩::rest) F H:=by
 cases b with
 |false=>exact Et hg hd (Tn (λ_ _ _ hp=>hp.pick hkp hn) h)
 |true=>intro a w hst;simp only[wpListIn,hg ⟨some dd, .call ⟨.value x,args.toArray,ats⟩,ty,ps,af,gg⟩ a rfl hst.fr,if_true];haveI:=hK rfl;exact vi (hc rfl) (hx rfl) (ha rfl) hv hkp hn D a w _ Q hst λi w' hp hs hh=>h _ _ (hst.put (d:=some dd) hd hs hh)
theorem II{x:Operand}{t e sz n cp:Nat}{a0:Option Addr}[ht:rF P t e sz](hx:ev F x=some (.slice a0 n cp)):VS P N c ⟨d, .call ⟨.builtin .cap, #[x], #[t]⟩,ty,ps,af,g⟩ F H (.int .i64 cp):=
 ax (by simp) λa w hf _ _ =>by obtain⟨i,h1,h2,h3⟩:=rF.get ht.ok;simp[execOp,resolve,invoke,builtin,ay hf hx,Builtin.cap_,run_underlying h1];rfl
theorem M3{x hi:Operand}{t e sz n cp b:Nat}{k:IntKind}[ht:rF P t e sz](hx:ev F x=some (.slice (some ⟨b,0,none⟩) n cp))(hh:ev F hi=some (.int k 0)):
  VS P N c ⟨d, .slice t x none (some hi) none,ty,ps,af,g⟩ F H (.slice (some ⟨b,0,none⟩) 0 cp):=
 ax (by simp) λa w hf _ _ =>by obtain⟨i,h1,h2,h3⟩:=rF.get ht.ok;simp[execOp,ay hf hx,ay hf hh,Instr.sliceAt,run_underlying h1,Instr.slice,Instr.sliceBounds,Instr.sliceBound,asIntOf,sizeOf,typeInfo,h2,Addr.add]
theorem Dz{x hi:Operand}{t e sz:Nat}{k:IntKind}[ht:rF P t e sz](hx:ev F x=some (.slice none 0 0))(hh:ev F hi=some (.int k 0)):
  VS P N c ⟨d, .slice t x none (some hi) none,ty,ps,af,g⟩ F H (.slice none 0 0):=
 ax (by simp) λa w hf _ _ =>by obtain⟨i,h1,h2,h3⟩:=rF.get ht.ok;simp[execOp,ay hf hx,ay hf hh,Instr.sliceAt,run_underlying h1,Instr.slice,Instr.sliceBounds,Instr.sliceBound,asIntOf,sizeOf,typeInfo,h2,Addr.add]
theorem QW{a:Int}(h1: -9223372036854775808<=a)(h2:a<=9223372036854775807):wr .i64 a=a:=IntWalk.i64_in a ⟨h1,h2⟩
theorem zc(t ti ty e:TypeId)(i:TypeInfo)(z:Value)(q:IntKind)(w:World)(ht:P.underlying t=some (.slice e))(hti:P.underlying ti=some (.int q))(hi:P.info? e=some i)(hz:i.zero=some z)
  (n:Nat)(h0:0<n)(h63:(n:Int)<=9223372036854775807)(h48:n*i.bytes<=140737488355328)(hpos:0<i.size):
  (Builtin.append_ #[t,ti] ty #[.slice none 0 0, .int .i64 n]).run P w=
   .ok (.slice (some ⟨w.heap.size,0,none⟩) n (grownCap w n 0 e)) (w.drew.alloc (.cells (Builtin.zeroCells z.cells n++Builtin.zeroCells z.cells (grownCap w n 0 e-n)) e)):=by
 have hn:n≠0:=by omega
 have hns:n*i.size≠0:=Nat.mul_ne_zero hn (by omega);have aau:¬(9223372036854775807<(n:Int)):=by omega
 have aaw:¬(281474976710656<Builtin.nextslicecap n 0*i.bytes):=by rw[nextslicecap_zero h0];omega
 have hw:IntKind.i64.wrap (n:Int)=n:=by rw[show IntKind.i64.wrap (n:Int)=wr .i64 (n:Int)from rfl,QW (by omega) h63]
 have hneg:¬((n:Int)<0):=by omega
 have aav:¬(281474976710656<(n:Int)*(i.bytes:Int)):=by have h5:((n*i.bytes:Nat):Int)=(n:Int)*(i.bytes:Int):=Int.natCast_mul _ _;rw[← h5];omega
 simp[Builtin.append_,run_underlying ht,run_underlying hti,sizeOf,typeInfo,zeroValue,hi,hz,hn,aau,aaw,Question.forced,run_firstCells_none,newRow,grownCap,asInt,asIntOf,hw,hneg,aav,hns,Nat.pos_iff_ne_zero.1 hpos]
def GR(n:Int)(b:Nat):Bool:=decide (0<n/\n*b<=140737488355328/\n<=9223372036854775807)
theorem L6{n:Int}{b:Nat}(h:GR n b=true):0<n/\n*b<=140737488355328/\n<=9223372036854775807:=of_decide_eq_true h
theorem PU{s x:Operand}{t ti e sz bytes:Nat}{n:Int}{q:IntKind}(L:bP α)[aR L][ht:F3 P t e sz bytes](hti:P.underlying ti=some (.int q))(hs:ev F s=some (.slice none 0 0))(hx:ev F x=some (.int .i64 n))(hok:GR n bytes=true):
  RX (α:=Nat×Nat) P N c ⟨d, .call ⟨.builtin .append, #[s,x], #[t,ti]⟩,ty,ps,af,g⟩ F H (λ_ =>True) (λv=> .slice (some ⟨v.1,0,none⟩) n.toNat v.2) (λv=>nN (.slice (some ⟨v.1,0,none⟩) 0 v.2) e sz L []::H):=λD a w next Q hst hk=>by
 obtain⟨i,z,e1,e2,e3,e4,e5,e6,e7⟩:=F3.get ht.ok;obtain⟨g1,g2,g3⟩:=L6 hok;obtain⟨m,rfl⟩:∃m:Nat,n=m:=⟨n.toNat,by omega⟩;subst e4 e5;have hm0:0<m:=by omega
 have hb:m*i.bytes<=140737488355328:=by have h5:((m*i.bytes:Nat):Int)=(m:Int)*(i.bytes:Int):=Int.natCast_mul _ _;rw[← h5]at g2;omega
 have hr:=zc (P:=P) t ti ty e i z q w e1 hti e2 e3 m hm0 g3 hb e7;have Jk:m<=maxLen:=by simp only[maxLen];omega
 have Ie:grownCap w m 0 e<=maxLen:=grownCap_le_maxLen w m 0 e Jk;have hge:m<=grownCap w m 0 e:=grownCap_ge w m 0 e;have gN:aJ [] w (w.drew.alloc (.cells (Builtin.zeroCells z.cells m++Builtin.zeroCells z.cells (grownCap w m 0 e-m)) e)):=aJ.uz (row:=none) ⟨rfl,rfl,rfl,by simp,λk hk _ =>heap_alloc_old w.drew _ k hk⟩;refine cq (by simp) (v:= .slice (some ⟨w.heap.size,0,none⟩) m (grownCap w m 0 e)) ?_ (hk (w.heap.size,grownCap w m 0 e) _ trivial (hst.si.ext gN) (hst.hp.fresh gN ?_ hst.si.size ?_))
 ·simp[execOp,resolve,invoke,builtin,ay hst.fr hs,ay hst.fr hx,hr]
 ·refine⟨by simp[cH], .inr ⟨w.heap.size,grownCap w m 0 e,_,rfl,Nat.zero_le _,heap_alloc_new w.drew _,Nat.zero_le _,Ie,?_,by simp[cH]⟩⟩
  simp only[Array.size_append,size_zeroCells,e6, ← Nat.add_mul];congr 1;omega
 ·intro b hb
  have:b=w.heap.size:=by simpa[nN,av.bK,Value.ownBlock]using hb
  subst this;exact⟨Nat.le_refl _,(abf.1 (heap_alloc_new w.drew (.cells (Builtin.zeroCells z.cells m++Builtin.zeroCells z.cells (grownCap w m 0 e-m)) e))).1⟩
theorem qu.size{v:Value}{n:Nat}(h:qu v n):v.cells.size=1:=by obtain⟨a,cp,rfl⟩:=h;rfl
theorem xb{p q:Nat->Option (Nat×Nat)}:∀(parts:List (Nat×Value)) (cells:Array Value),(∀x∈parts,p x.1=q x.1)->Instr.fill p cells parts=Instr.fill q cells parts
 |[],_,_ =>rfl
 |(i,v)::r,cells,h=>by
  have h1:=h (i,v) (by simp);simp only at h1;simp only[Instr.fill,h1];split
  ·rfl
  ·split
   ·rfl
   ·exact xb r _ λx hx=>h x (abj _ hx)
def JR(n sz:Nat):List (Nat×Nat):=(List.range n).map λi=>(i*sz,sz)
theorem D3{n sz i:Nat}(h:i<n):(JR n sz)[i]? =some (i*sz,sz):=by simp[JR,h]
theorem JH{t n e sz:Nat}{parts:List (Nat×Operand)}{vs zs cs:List Value}[hz:fM P t zs][ht:oI P t n e sz](hv:Ai F (parts.map (·.2))=some vs)(hc:qo (JR n sz) zs ((parts.map (·.1)).zip vs)=some cs)(hi:((parts.map (·.1)).all λi=>decide (i<n))=true):
  VS P N c ⟨d, .build t parts.toArray,ty,ps,af,g⟩ F H (.agg cs.toArray):=
 ax (by simp) λa w hf _ _ =>by
  obtain⟨i,z,h1,h2,h3⟩:=fM.get hz.ok;obtain⟨inf,h4,h5,h6⟩:=oI.get ht.ok;have h7:(zeroValue t).run P w= .ok z w:=by simp[zeroValue,typeInfo,h1,h2]
  have h8:=r9 (place:=λi=>(JR n sz)[i]?) (pl:=JR n sz) (λ_ =>rfl) ((parts.map (·.1)).zip vs) z.cells cs (by rw[h3];exact hc);have h9:=evp hf hv;have h10:(Array.map (λx=>(x.fst,a.eval x.snd)) parts.toArray).toList=(parts.map (·.1)).zip vs:=by simpa using h9
  have h11:=xb (p:=λi=>some (i*sz,sz)) (q:=λi=>(JR n sz)[i]?) ((parts.map (·.1)).zip vs) z.cells (λx hx=>by
   have:=List.all_eq_true.1 hi x.1 (List.of_mem_zip hx).1;simp only[decide_eq_true_eq]at this;simp[D3 this])
  simp only[execOp,Instr.build,Sem.run_bind,h7,Result.andThen_ok,run_underlying h4,sizeOf,typeInfo];simp[h5,h6,h9,h11,h8]
theorem TO{t n e sz:Nat}{parts:List (Nat×Operand)}{vs zs cs:List Value}[ht:rF P t e sz][hz:fM P e zs](hv:Ai F (parts.map (·.2))=some vs)(hc:qo (JR n sz) ((List.range (n*sz)).map λj=>zs[j%zs.length]!) ((parts.map (·.1)).zip vs)=some cs)
  (hi:((parts.map (·.1)).all λi=>decide (i<n))=true)(h0:0<n*sz)(hs:n*sz<=16777216):
  RX P N c ⟨d, .buildSlice t n parts.toArray,ty,ps,af,g⟩ F H (λ_ =>True) (λb=> .slice (some ⟨b,0,none⟩) n n) (λb=> .cells b e cs::H):=λD a w next Q hst hk=>by
 obtain⟨i,h1,h2,h3⟩:=rF.get ht.ok;obtain⟨i',z,h4,h5,h6⟩:=fM.get hz.ok;rw[h2]at h4;cases h4;subst h3;refine cq (by simp) (w':=w.alloc (.cells cs.toArray e)) ?_ (hk w.heap.size _ trivial (hst.si.ext (aJ.alloc _ _)) (hst.hp.box e cs hst.si.size));have h9:=evp hst.fr hv;have h10:(Array.map (λx=>(x.fst,a.eval x.snd)) parts.toArray).toList=(parts.map (·.1)).zip vs:=by simpa using h9
 have h11:=xb (p:=λk=>some (k*i.size,i.size)) (q:=λk=>((JR n i.size).toArray)[k]?) ((parts.map (·.1)).zip vs) ((Array.range (n*i.size)).map (z.cells[· %z.cells.size]!)) (λx hx=>by
   have:=List.all_eq_true.1 hi x.1 (List.of_mem_zip hx).1;simp only[decide_eq_true_eq]at this;simp[D3 this])
 have Wj:z.cells=zs.toArray:=by rw[← h6]
 have h8:=r9 (place:=λk=>((JR n i.size).toArray)[k]?) (pl:=JR n i.size) (by simp) ((parts.map (·.1)).zip vs) ((Array.range (n*i.size)).map (z.cells[· %z.cells.size]!)) cs (by
  rw[← hc];congr 1;rw[Wj];simp[Array.toList_range])
 have e3:(λx=>(x.fst,a.eval x.snd))=(λ(x:Nat×Operand)=>(x.1,a.eval x.2)):=rfl;have hb:(Instr.buildSlice t n (Array.map (λx=>(x.fst,a.eval x.snd)) parts.toArray)).run P w= .ok (.slice (some ⟨w.heap.size,0,none⟩) n n) (w.alloc (.cells cs.toArray e)):=
  run_buildSlice w t e n _ cs.toArray i z h1 h2 h5 (by omega) (by omega) (by rw[h10,h11,h8])
 simp only[execOp,Sem.run_bind];rw[hb];rfl
end rules
end Go.Bw
namespace Go.Bw
open Go Go.RowKit Go.ChangeMaps
section
variable {β:Type}
def dm:List (Int×β)->Int->Option (Nat×β)
 |[],_ =>none
 |p::r,k=>bif k==p.1 then some (0,p.2)else(dm r k).map λq=>(q.1+1,q.2)
def ke(l:List (Int×β))(k:Int)(z:β):β:=((dm l k).map Prod.snd).getD z
def mj(l:List (Int×β))(k:Int):Bool:=(dm l k).isSome
def pE:List (Int×β)->Int->β->List (Int×β)
 |[],k,v=>[(k,v)]
 |p::r,k,v=>bif k==p.1 then(k,v)::r else p::pE r k v
end
structure wG{β:Type}(q:IntKind)(E:β->Value)(es:Array MapEntry)(clock:Nat)(l:List (Int×β)):Prop where
 kv:es.toList.map (λe=>(e.key,e.val))=l.map λp=>(Value.int q p.1,E p.2)
 born:∀e∈es.toList,e.born<clock
 nd:(es.toList.map (·.born)).Nodup
def QM{β:Type}(b:Nat)(q:IntKind)(E:β->Value)(l:List (Int×β))(w:World):Prop:=∃es clock,w.heap[b]? =some (.map es clock)/\wG q E es clock l
abbrev Mp{β:Type}(b:Nat)(q:IntKind)(E:β->Value)(l:List (Int×β)):av:= .ext [b] (QM b q E l)
theorem FR{β:Type}{b:Nat}{q:IntKind}{E:β->Value}{l:List (Int×β)}{w:World}(h:QM b q E l w):(Mp b q E l).holds w:=λw' _ hb=>by obtain⟨es,clock,h1,h2⟩:=h;exact⟨es,clock,(hb b (by simp)).trans h1,h2⟩
theorem TQ{β:Type}{b:Nat}{q:IntKind}{E:β->Value}{l:List (Int×β)}{w:World}(h:(Mp b q E l).holds w):QM b q E l w:=yx h
class AW(H:List av)(b:Nat)(β:outParam Type)(q:outParam IntKind)(E:outParam (β->Value))(l:outParam (List (Int×β)))(f:outParam (av->List av)):Prop where
 ok:∃k:Nat,H[k]? =some (Mp b q E l)/\∀r',f r'=H.set k r'
instance(priority:=100) Uz{β:Type}(b:Nat)(q:IntKind)(E:β->Value)(l:List (Int×β))(H:List av):AW (Mp b q E l::H) b β q E l (λr'=>r'::H):=⟨0,rfl,λ_ =>rfl⟩
instance(priority:=50) TR(r:av)(H:List av)(b:Nat)(β:Type)(q:IntKind)(E:β->Value)(l f)[h:AW H b β q E l f]:AW (r::H) b β q E l (λr'=>r::f r'):=
 ⟨by obtain⟨k,h1,h2⟩:=h.ok;exact⟨k+1,by simpa using h1,λr'=>by rw[h2 r'];simp⟩⟩
class AL(P:Program)(t:TypeId)(k e:outParam TypeId)(q:outParam IntKind):Prop where
 ok:P.underlying t=some (.map k e)/\P.underlying k=some (.int q)
section
variable {β:Type} {q:IntKind} {E:β->Value}
theorem BR{k:Int}:∀(es:List MapEntry) (l:List (Int×β)) (i:Nat),es.map (λe=>(e.key,e.val))=l.map (λp=>(Value.int q p.1,E p.2))->
  Instr.findNow (.int q) (.int q k) es i=some ((dm l k).map λp=>(i+p.1,E p.2))
 |[],[],i,_ =>rfl
 |[],p::r,i,h=>by simp at h
 |e::es,[],i,h=>by simp at h
 |e::es,p::r,i,h=>by
  simp only[List.map_cons,List.cons.injEq,Prod.mk.injEq]at h;obtain⟨⟨h1,h2⟩,h3⟩:=h;have ih:=BR (k:=k) es r (i+1) h3;unfold Instr.findNow dm;rw[h1];have hs:Instr.sameNow (.int q) (.int q k) (.int q p.1)=some (k==p.1):=by simp[Instr.sameNow]
  rw[hs];cases hk:k==p.1 with
  |true=>simp[h2]
  |false=>
   simp only[ih,cond_false,Option.map_map];congr 1;cases dm r k with
   |none=>rfl
   |some z=>simp[Function.comp];omega
theorem jI{P:Program}{kt:TypeId}{k:Int}{es:Array MapEntry}{clock:Nat}{l:List (Int×β)}(w:World)(hk:P.underlying kt=some (.int q))(h:wG q E es clock l):
  (Instr.findKey kt (.int q k) es.toList).run P w= .ok ((dm l k).map λp=>(p.1,E p.2)) w:=by
 unfold Instr.findKey;rw[Sem.run_bind,run_underlying hk w];simp only[Result.andThen];rw[BR es.toList l 0 h.kv];cases dm l k with
 |none=>rfl
 |some z=>simp[Sem.run]
theorem zn{k:Int}:∀{l:List (Int×β)} {j:Nat} {y:β},dm l k=some (j,y)->l[j]? =some (k,y)
 |[],_,_,h=>by simp[dm]at h
 |p::r,j,y,h=>by
  unfold dm at h;cases hk:k==p.1 with
  |true=>
   rw[hk]at h;simp only[cond_true,Option.some.injEq,Prod.mk.injEq]at h;obtain⟨rfl,rfl⟩:=h;have:k=p.1:=by simpa using hk
   subst this;rfl
  |false=>
   rw[hk]at h;simp only[cond_false]at h;cases hr:dm r k with
   |none=>simp[hr]at h
   |some z=>rw[hr]at h;simp only[Option.map_some,Option.some.injEq,Prod.mk.injEq]at h;obtain⟨rfl,rfl⟩:=h;have:=zn (l:=r) (j:=z.1) (y:=z.2) hr;simpa using this
theorem zm{k:Int}{v:β}:∀{l:List (Int×β)},dm l k=none->pE l k v=l++[(k,v)]
 |[],_ =>rfl
 |p::r,h=>by
  unfold dm at h;cases hk:k==p.1 with
  |true=>rw[hk]at h;simp at h
  |false=>rw[hk]at h;simp only[cond_false,Option.map_eq_none_iff]at h;unfold pE;rw[hk,cond_false,zm h];rfl
theorem zl{k:Int}{v:β}:∀{l:List (Int×β)} {j:Nat} {y:β},dm l k=some (j,y)->pE l k v=l.set j (k,v)
 |[],_,_,h=>by simp[dm]at h
 |p::r,j,y,h=>by
  unfold dm at h;unfold pE;cases hk:k==p.1 with
  |true=>rw[hk]at h;simp only[cond_true,Option.some.injEq,Prod.mk.injEq]at h;obtain⟨rfl,rfl⟩:=h;rfl
  |false=>
   rw[hk]at h;simp only[cond_false]at h;cases hr:dm r k with
   |none=>simp[hr]at h
   |some z=>rw[hr]at h;simp only[Option.map_some,Option.some.injEq,Prod.mk.injEq]at h;obtain⟨rfl,rfl⟩:=h;rw[cond_false,zl (j:=z.1) (y:=z.2) hr];rfl
theorem wG.push{es:Array MapEntry}{clock:Nat}{l:List (Int×β)}(h:wG q E es clock l)(k:Int)(v:β):wG q E (es.push ⟨.int q k,E v,clock⟩) (clock+1) (l++[(k,v)]):=by
 refine⟨by simp[h.kv],λe he=>?_,?_⟩
 ·rw[Array.toList_push,List.mem_append,List.mem_singleton]at he
  rcases he with he|rfl
  ·exact Nat.lt_succ_of_lt (h.born e he)
  ·exact Nat.lt_succ_self _
 ·rw[Array.toList_push,List.map_append,List.nodup_append]
  refine⟨h.nd,by simp,λa ha b hb=>?_⟩;obtain⟨e,he,rfl⟩:=List.mem_map.1 ha;have hb:b=clock:=by simpa using hb
  subst hb
  exactλe'=>by have:=h.born e he;omega
theorem s7{γ:Type}(f:MapEntry->MapEntry)(g:MapEntry->γ)(x:γ):∀(es:List MapEntry) (j:Nat),(∀e,g (f e)=x)->(es.modify j f).map g=(es.map g).set j x
 |[],j,_ =>by simp
 |e::es,0,h=>by simp[h]
 |e::es,j+1,h=>by simp[s7 f g x es j h]
theorem rj{γ:Type}(f:MapEntry->MapEntry)(g:MapEntry->γ):∀(es:List MapEntry) (j:Nat),(∀e,g (f e)=g e)->(es.modify j f).map g=es.map g
 |[],j,_ =>by simp
 |e::es,0,h=>by simp[h]
 |e::es,j+1,h=>by simp[rj f g es j h]
theorem wG.modify{es:Array MapEntry}{clock:Nat}{l:List (Int×β)}(h:wG q E es clock l)(j:Nat)(k:Int)(v:β):wG q E (es.modify j λe=>{e with key:= .int q k,val:=E v}) clock (l.set j (k,v)):=by
 have hb:(es.modify j λe=>{e with key:= .int q k,val:=E v}).toList.map (·.born)=es.toList.map (·.born):=by rw[Array.toList_modify];exact rj _ _ _ _ λ_ =>rfl
 refine⟨?_,λe he=>?_,?_⟩
 ·rw[Array.toList_modify,s7 _ _ (Value.int q k,E v) _ _ (λ_ =>rfl),h.kv,List.map_set]
 ·have:e.born∈es.toList.map (·.born):=by rw[← hb];exact List.mem_map_of_mem he
  obtain⟨e',he',hee⟩:=List.mem_map.1 this;rw[← hee];exact h.born e' he'
 ·rw[hb];exact h.nd
end
section rules
variable {P:Program} {N:Nat} {c:Cx} {F:cE} {H:List av} {d:Option Tmp} {ty:TypeId} {ps:String} {af:Array Edge} {g:Option (Nat×Bool)} {β:Type} {q:IntKind} {E:β->Value} {l:List (Int×β)} {f:av->List av} {b:Nat}
theorem AW.O3{bs:List Nat}{n0:Nat}{w:World}(h:AW H b β q E l f)(hp:aX bs n0 H w):QM b q E l w:=by obtain⟨k,h1,_⟩:=h.ok;exact TQ (hp.holds _ (List.mem_of_getElem? h1))
theorem AW.put{N:Nat}{D:List Deferred}{a:Act}{w:World}{l':List (Int×β)}{es es':Array MapEntry}{clock clock':Nat}(h:AW H b β q E l f)(hst:St N c D F H a w)(he:w.heap[b]? =some (.map es clock))(hok:wG q E es' clock' l'):
  aJ c.bs c.w0 (w.putObj b (.map es' clock'))/\aX c.bs c.w0.heap.size (f (Mp b q E l')) (w.putObj b (.map es' clock')):=by
 obtain⟨k,h1,h2⟩:=h.ok;have hlt:=(abf.1 he).1;have gN:aJ [b] w (w.putObj b (.map es' clock')):=⟨rfl,rfl,rfl,by simp[World.putObj],λk _ hk=>World.putObj_heap_other (by simpa using hk)⟩;refine⟨hst.si.store hst.hp (List.mem_of_getElem? h1) (by simp[av.bK]) gN,?_⟩;rw[h2];refine hst.hp.set h1 gN.size (λj hj hne=>gN.block j hj (by simpa[av.bK]using hne)) (FR ⟨es',clock',World.putObj_heap_same hlt,hok⟩) hst.si.size (λb' hb=>?_);have e:b'=b:=by simpa[av.bK]using hb
 subst e;exact⟨.inl (by simp[av.bK]),by rw[World.putObj];simpa using hlt⟩
theorem Ce(q:IntKind)(E:β->Value){t k e:TypeId}{q':IntKind}[AL P t k e q']:
  RX P N c ⟨d, .makeMap t none,ty,ps,af,g⟩ F H (λ_ =>True) (λb=> .map (some b)) (λb=>Mp b q E []::H):=λD a w next Q hst hk=>by
 refine cq (by simp) (w':=w.alloc (.map #[] 0)) ?_ (hk w.heap.size _ trivial (hst.si.ext (aJ.alloc _ _)) (hst.hp.fresh (aJ.alloc _ _) (FR ⟨#[],0,by show(w.heap.push _)[w.heap.size]? =_;simp,⟨rfl,by simp,by simp⟩⟩) hst.si.size (λb hb=>?_)))
 ·simp[execOp,Instr.makeMap,newObj,Sem.run,Result.andThen]
 ·have e:b=w.heap.size:=by simpa[av.bK]using hb
  subst e;exact⟨Nat.le_refl _,by simp⟩
class Hp(P:Program)(e:TypeId)(z:outParam Value):Prop where
 ok:(P.info? e).bind (·.zero)=some z
theorem Gm{e:TypeId}{z:Value}(h:Hp P e z)(w:World):(zeroValue e).run P w= .ok z w:=by
 have:=h.ok;cases hi:P.info? e with
 |none=>simp[hi]at this
 |some i=>simp[hi]at this;simp[zeroValue,typeInfo,hi,this,Sem.run_bind,Sem.run,Result.andThen]
theorem lA{t kt e:TypeId}{k:Int}{z:β}{commaOk:Bool}(w:World)(ht:AL P t kt e q)(hz:Hp P e (E z))(h:QM b q E l w):
  (Instr.lookup t (.map (some b)) (.int q k) commaOk).run P w= .ok (if commaOk then .tuple #[E (ke l k z), .bool (mj l k)]else E (ke l k z)) w:=by
 obtain⟨es,clock,h1,h2⟩:=h;obtain⟨t1,t2⟩:=ht.ok;have hf:=jI (k:=k) w t2 h2;have hc:∀em,(Instr.checkKey em 10000 kt (.int q k)).run P w= .ok () w:=λem=>MapKept.run_checkKey (k:= .int q k) t2 (show q=q from rfl) em 9999;simp only[Instr.lookup,Sem.run_bind,run_underlying t1,Result.andThen,MapKept.run_getObj_map h1,Sem.run];rw[Sem.run_pure];dsimp only;rw[hc];dsimp only;rw[hf];dsimp only;unfold ke mj;cases dm l k with
 |none=>cases commaOk<;>simp[Gm hz,Result.andThen]
 |some p=>cases commaOk<;>simp[Result.andThen]
theorem JG{x y:Operand}{t kt e:TypeId}{k:Int}(z:β)[ht:AL P t kt e q][hz:Hp P e (E z)](hx:ev F x=some (.map (some b)))(hy:ev F y=some (.int q k))[hm:AW H b β q E l f]:
  VS P N c ⟨d, .lookup t x y false,ty,ps,af,g⟩ F H (E (ke l k z)):=ax (by simp) λa w hf _ hp=>by
 simp[execOp,ay hf hx,ay hf hy,lA w ht hz (hm.O3 hp),Result.andThen]
theorem Hi{x y:Operand}{t kt e:TypeId}{k:Int}(z:β)[ht:AL P t kt e q][hz:Hp P e (E z)](hx:ev F x=some (.map (some b)))(hy:ev F y=some (.int q k))[hm:AW H b β q E l f]:
  VS P N c ⟨d, .lookup t x y true,ty,ps,af,g⟩ F H (.tuple #[E (ke l k z), .bool (mj l k)]):=ax (by simp) λa w hf _ hp=>by
 simp[execOp,ay hf hx,ay hf hy,lA w ht hz (hm.O3 hp),Result.andThen]
theorem EA{x y z:Operand}{t kt e:TypeId}{k:Int}{v:Value}(u:β)[ht:AL P t kt e q](hx:ev F x=some (.map (some b)))(hy:ev F y=some (.int q k))(hz:ev F z=some v)[hm:AW H b β q E l f](hv:v=E u):
  RX (α:=Unit) P N c ⟨d, .mapUpdate t x y z,ty,ps,af,g⟩ F H (λ_ =>True) (λ_ =>undef) (λ_ =>f (Mp b q E (pE l k u))):=λD a w next Q hst hk=>by
 subst hv;obtain⟨es,clock,h1,h2⟩:=hm.O3 hst.hp;obtain⟨t1,t2⟩:=ht.ok;have hf:=jI (k:=k) w t2 h2;have hc:∀em,(Instr.checkKey em 10000 kt (.int q k)).run P w= .ok () w:=λem=>MapKept.run_checkKey (k:= .int q k) t2 (show q=q from rfl) em 9999;cases LR:dm l k with
 |none=>obtain⟨p1,p2⟩:=hm.put hst h1 (h2.push k u);refine kF (by simp) (w':=w.putObj b (.map (es.push ⟨.int q k,E u,clock⟩) (clock+1))) ?_ (hk () _ trivial p1 (by rw[zm LR];exact p2));rw[LR]at hf;simp[execOp,ay hst.fr hx,ay hst.fr hy,ay hst.fr hz,Instr.mapUpdate,run_underlying t1,MapKept.run_getObj_map h1,hc,hf,MapKept.run_setObj_map _ h1,Result.andThen,World.putObj]
 |some p=>
  have hg:=zn (j:=p.1) (y:=p.2) LR;obtain⟨p1,p2⟩:=hm.put hst h1 (h2.modify p.1 k u);refine kF (by simp) (w':=w.putObj b (.map (es.modify p.1 λe=>{e with key:= .int q k,val:=E u}) clock)) ?_ (hk () _ trivial p1 (by rw[zl (j:=p.1) (y:=p.2) LR];exact p2));rw[LR]at hf;have hkey:((es[p.1]?).map (·.key))=some (.int q k):=by
   have:(es.toList.map λe=>(e.key,e.val))[p.1]? =some (Value.int q k,E p.2):=by rw[h2.kv,List.getElem?_map,hg];rfl
   rw[List.getElem?_map,Array.getElem?_toList]at this;cases he:es[p.1]? with
   |none=>simp[he]at this
   |some e0=>simp[he]at this;simp[this.1]
  simp[execOp,ay hst.fr hx,ay hst.fr hy,ay hst.fr hz,Instr.mapUpdate,run_underlying t1,MapKept.run_getObj_map h1,hc,hf,hkey,MapKept.run_keyThatStays (show MapKept.IsKey (.int q) (.int q k)from rfl),MapKept.run_setObj_map _ h1,Result.andThen,World.putObj]
end rules
end Go.Bw
namespace Go.Bw
open Go Go.RowKit Go.ChangeMaps
section rules
variable {P:Program} {N:Nat} {c:Cx} {F:cE} {H:List av} {d:Option Tmp} {ty:TypeId} {ps:String} {af:Array Edge} {g:Option (Nat×Bool)} {β:Type} {q:IntKind} {E:β->Value} {l rem:List (Int×β)} {last:Option (Int×β)} {f:av->List av} {b r:Nat}
end rules
end Go.Bw
namespace Go.Rw
open Go Go.Bw
variable {G:Sg}
inductive Ob(G:Sg) where
 |bK (T:Nat) (c:AV G)
 |row (e sz:Nat) (t:Ty) (xs:List (t.T G))
 |aux (b:Bool)
 |gm
 |fm (q:IntKind) (ks:List Int) (vs:AV G)
abbrev Fr(G:Sg):=List (Nat×AV G)
abbrev Os(G:Sg):=List (Nat×Ob G)
def cu{α:Type}:List (Nat×α)->Nat->Option α
 |[],_ =>none
 |(k,v)::r,d=>bif Nat.beq k d then some v else cu r d
structure Ly(G:Sg) where
 F:Fr G
 O:Os G
 D:List (AV G)
abbrev CC(G:Sg):=List (Ly G)
def X6:CC G->Nat->Option (AV G)
 |[],_ =>none
 |y::r,d=>match cu y.F d with
  |some v=>some v
  |none=>X6 r d
def rh:CC G->Os G
 |[]=>[]
 |y::r=>y.O++rh r
def Ur:CC G->List (AV G)
 |[]=>[]
 |y::r=>y.D++Ur r
structure AS(G:Sg) where
 F:Fr G
 O:Os G
 nx:Nat
 D:List (AV G)
def rf(J:World->Prop)(ρ:aP)(t:Array Value):AV G->Value->Prop
 | .gd j w v,u=>(t[j]? =some (.bool w)->rv J ρ v u)/\(t[j]? ≠some (.bool w)->u=undef)
 |v,u=>rv J ρ v u
def l9(J:World->Prop)(ρ:aP)(F:Fr G)(t:Array Value):Prop:=∀d v,cu F d=some v->∃u,t[d]? =some u/\rf J ρ t v u
def FC(J:World->Prop)(ρ:aP)(C:CC G)(t:Array Value):Prop:=∀y∈C,l9 J ρ y.F t
def Ah(x:Int×Nat):Int×Value:=(x.1, .func (.func x.2) #[] #[])
def UJ(g:IntKind×List (Int×Nat))(mb:Nat)(w:World):Prop:=w.cell? ⟨0,0,none⟩=some (.map (some mb))/\∃l,QM mb g.1 (λv:Value=>v) l w/\∀k,ke l k .nilFunc=ke (g.2.map Ah) k .nilFunc/\mj l k=mj (g.2.map Ah) k
def J4(G:Sg)(J:World->Prop):Prop:=∀g,G.gt=some g->∃mb,∀w,J w->UJ g mb w
theorem J4.mono{J J':World->Prop}(h:J4 G J)(m:∀w,J' w->J w):J4 G J':=λg hg=>by obtain⟨mb,k⟩:=h g hg;exact⟨mb,λw q=>k w (m w q)⟩
def S8:Bool->Obj->Prop
 |true,o=>o= .deferred (some [])
 |false,o=>∃rec,o= .loop rec
def Bx:Os G->Bool
 |[]=>true
 |(_, .aux false)::_ =>false
 |_ ::r=>Bx r
theorem yd{B:Os G}:∀{A:Os G},Bx (A++B)=true->Bx B=true:=by
 intro A
 induction A with
 |nil=>exactλh=>h
 |cons p r ih=>
  intro h;obtain⟨k,o⟩:=p;cases o with
  |aux b=>cases b with
   |true=>exact ih h
   |false=>cases h
  |bK T c=>exact ih h
  |row e sz t xs=>exact ih h
  |gm=>exact ih h
  |fm q ks vs=>exact ih h
structure Sn(c:Cx)(C:CC G)(w:World):Prop where
 s:aJ c.bs c.w0 w
 n:Bx (rh C)=true->c.ro=none
theorem Sn.ext{c:Cx}{C:CC G}{w w':World}(h:Sn c C w)(k:aJ [] w w'):Sn c C w':=⟨h.s.ext k,h.n⟩
theorem Sn.size{c:Cx}{C:CC G}{w:World}(h:Sn c C w):c.w0.heap.size<=w.heap.size:=h.s.size
def ro(J:World->Prop)(ρ:aP)(r:Nat):Ob G->av->Prop
 | .bK T c,zf=>∃b u,ρ r=some (cj b 0)/\zf= .cells b T u.cells.toList/\rv J ρ c u
 | .row e sz t xs,zf=>∃v ws,ρ r=some v/\zf= .row v e sz xs.length ws/\qu v xs.length/\(LA (t.L G) xs.length).dJ J ws (λi=>xs.getD i default)/\(t.L G).n=sz
 | .aux b,zf=>∃n o,ρ r=some (cj n 0)/\zf= .obj n o/\S8 b o
 | .gm,zf=>(∃mb g,ρ r=some (.map (some mb))/\G.gt=some g/\∀w,J w->UJ g mb w)/\zf= .row (.slice none 0 0) 0 1 0 []
 | .fm q ks vs,zf=>∃b es ck us,ρ r=some (.map (some b))/\zf= .obj b (.map es ck)/\wG q (λv:Value=>v) es ck (ks.zip us)/\rl J ρ vs us/\us.length=ks.length
inductive RO(J:World->Prop)(ρ:aP):Os G->List av->Prop
 |nil:RO J ρ [] []
 |cons {r:Nat} {o:Ob G} {x:av} {O:Os G} {H:List av} (h:ro J ρ r o x) (k:RO J ρ O H):RO J ρ ((r,o)::O) (x::H)
def dr(J:World->Prop)(ρ:aP):AV G->Deferred->Prop
 | .cons (.fn f a c) l,d=>∃fs cs ls:List Value,rl J ρ a fs/\rl J ρ c cs/\rl J ρ l ls/\d={target:= .fn f cs.toArray,args:=(fs++ls).toArray}
 | .ptr r p,d=>p=[]/\∃b,ρ r=some (cj b 0)/\d=Go.Bw.mark b
 |_,_ =>False
inductive DR(J:World->Prop)(ρ:aP):List (AV G)->List Deferred->Prop
 |nil:DR J ρ [] []
 |cons {v:AV G} {d:Deferred} {l:List (AV G)} {D:List Deferred} (h:dr J ρ v d) (k:DR J ρ l D):DR J ρ (v::l) (d::D)
def XT(X:List av):Prop:=∀w w',Hs X w->Hs X w'->∀b∈aU X,w'.heap[b]? =w.heap[b]?
structure JY(G:Sg)(X:List av)(J:World->Prop):Prop where
 to:∀w',Hs X w'->J w'
 ex:XT X
 gl:J4 G J
theorem JY.one{X:List av}{J:World->Prop}(h:JY G X J){x:av}{w:World}(hx:x.holds w)(hl:∀b∈x.bK,b<w.heap.size):
  ∃q:av,q.holds w/\q.bK=x.bK/\JY G (q::X) λw=>J w/\Hs [x] w:=by
 have st:∀w1:World,(av.ext x.bK λw'=>w.heap.size<=w'.heap.size/\∀b∈x.bK,w'.heap[b]? =w.heap[b]?).holds w1->w.heap.size<=w1.heap.size/\∀b∈x.bK,w1.heap[b]? =w.heap[b]? :=λw1 h=>h w1 (Nat.le_refl _) λ_ _ =>rfl;refine⟨.ext x.bK λw'=>w.heap.size<=w'.heap.size/\∀b∈x.bK,w'.heap[b]? =w.heap[b]?,λw' h1 h2=>⟨h1,h2⟩,rfl,λw' hw=>?_,λw1 w2 h1 h2 b hb=>?_,h.gl.mono λw q=>q.1⟩
 ·have h1:=st w' (hw _ List.mem_cons_self).1
  refine⟨h.to w' λr hr=>hw r (abj _ hr),λr hr=>?_⟩;obtain rfl:=List.mem_singleton.1 hr;exact⟨av.gB hx h1.1 h1.2,λb hb=>Nat.lt_of_lt_of_le (hl b hb) h1.1⟩
 ·have k1:=st w1 (h1 _ List.mem_cons_self).1
  have k2:=st w2 (h2 _ List.mem_cons_self).1;have hb:b∈x.bK\/b∈aU X:=by simpa[aU,av.bK]using hb
  rcases hb with hb|hb
  ·rw[k1.2 b hb,k2.2 b hb]
  ·exact h.ex w1 w2 (λr hr=>h1 r (abj _ hr)) (λr hr=>h2 r (abj _ hr)) b hb
structure Rl(c:Cx)(N:Nat)(ρ:aP)(J:World->Prop)(HK X:List av)(C:CC G)(S:AS G)(a:Act)(w:World):Prop where
 tm:a.tmps.size=N
 df:DR J ρ (S.D++Ur C) a.defers
 si:Sn c C w
 fs:l9 J ρ S.F a.tmps
 fc:FC J ρ C a.tmps
 kc:∀r o,cu (rh C) r=some o->∃x∈HK,ro J ρ r o x
 hp:∃HS,RO J ρ S.O HS/\aX c.bs c.w0.heap.size (HS++(HK++X)) w
 kn:JY G X J
 fr:∀r,S.nx<=r->ρ r=none
section
variable {J J':World->Prop} {ρ ρ':aP}
theorem rf.mono(m:∀w,J' w->J w){t:Array Value}{v:AV G}{u:Value}(h:rf J ρ t v u):rf J' ρ t v u:=by
 cases v with
 |gd j w v=>exact⟨λe=>(h.1 e).mono m,h.2⟩
 |_ =>exact rl.mono m h
theorem rf.ext(m:ρ.le ρ'){t:Array Value}{v:AV G}{u:Value}(h:rf J ρ t v u):rf J ρ' t v u:=by
 cases v with
 |gd j w v=>exact⟨λe=>(h.1 e).ext m,h.2⟩
 |_ =>exact rl.ext m h
theorem l9.up(mJ:∀w,J' w->J w)(mρ:ρ.le ρ'){F:Fr G}{t:Array Value}(h:l9 J ρ F t):l9 J' ρ' F t:=λd v e=>by obtain⟨u,h1,h2⟩:=h d v e;exact⟨u,h1,(h2.mono mJ).ext mρ⟩
theorem ro.up(mJ:∀w,J' w->J w)(mρ:ρ.le ρ'){r:Nat}{o:Ob G}{x:av}(h:ro J ρ r o x):ro J' ρ' r o x:=by
 cases o with
 |bK T c=>obtain⟨b,u,h1,h2,h3⟩:=h;exact⟨b,u,mρ _ _ h1,h2,(h3.mono mJ).ext mρ⟩
 |row e sz t xs=>obtain⟨v,ws,h1,h2,h3,h4,h5⟩:=h;exact⟨v,ws,mρ _ _ h1,h2,h3,bP.mono _ mJ h4,h5⟩
 |aux b=>obtain⟨n,x,h1,h2⟩:=h;exact⟨n,x,mρ _ _ h1,h2⟩
 |gm=>obtain⟨⟨mb,g,h1,h2,h3⟩,h4⟩:=h;exact⟨⟨mb,g,mρ _ _ h1,h2,λw q=>h3 w (mJ w q)⟩,h4⟩
 |fm q ks vs=>obtain⟨b,es,ck,us,h1,h2,h3,h4,h5⟩:=h;exact⟨b,es,ck,us,mρ _ _ h1,h2,h3,(h4.mono mJ).ext mρ,h5⟩
theorem RO.up(mJ:∀w,J' w->J w)(mρ:ρ.le ρ'){O:Os G}{H:List av}(h:RO J ρ O H):RO J' ρ' O H:=by
 induction h with
 |nil=>exact .nil
 |cons h _ ih=>exact .cons (h.up mJ mρ) ih
theorem dr.up(mJ:∀w,J' w->J w)(mρ:ρ.le ρ'){v:AV G}{d:Deferred}(h:dr J ρ v d):dr J' ρ' v d:=by
 unfold dr at h;split at h
 ·obtain⟨fs,cs,ls,h1,h2,h3,h4⟩:=h
  exact⟨fs,cs,ls,(h1.mono mJ).ext mρ,(h2.mono mJ).ext mρ,(h3.mono mJ).ext mρ,h4⟩
 ·obtain⟨rfl,b,h1,h2⟩:=h
  exact⟨rfl,b,mρ _ _ h1,h2⟩
 ·exact h.elim
theorem DR.up(mJ:∀w,J' w->J w)(mρ:ρ.le ρ'){l:List (AV G)}{D:List Deferred}(h:DR J ρ l D):DR J' ρ' l D:=by
 induction h with
 |nil=>exact .nil
 |cons h _ ih=>exact .cons (h.up mJ mρ) ih
def D1(d:Nat):Fr G->Bool
 |[]=>true
 |(_,v)::r=>(match v with
  | .gd j _ _ => !Nat.beq j d
  |_ =>true)&&D1 d r
theorem RC{d:Nat}:∀{F:Fr G},D1 d F=true->∀{k:Nat} {j:Nat} {w:Bool} {v:AV G},cu F k=some (.gd j w v)->j≠d:=by
 intro F
 induction F with
 |nil=>intro _ k j w v h;cases h
 |cons p r ih=>
  obtain⟨k0,v0⟩:=p;intro h k j w v e;simp only[D1,aa8]at h;simp only[cu]at e;cases hb:Nat.beq k0 k with
  |true=>rw[hb]at e;cases e;intro hj;have:=h.1;simp only[hj,Nat.beq_refl,Bool.not_true,Bool.false_eq_true]at this
  |false=>rw[hb]at e;exact ih h.2 e
theorem DP{t:Array Value}{v:AV G}{u:Value}{d:Nat}{x:Value}(h:rf J ρ t v u)(hn:∀j w v',v= .gd j w v'->j≠d):rf J ρ (t.setIfInBounds d x) v u:=by
 cases v with
 |gd j w v=>
  have:(t.setIfInBounds d x)[j]? =t[j]? :=by rw[Array.getElem?_setIfInBounds,aa6 (Ne.symm (hn j w v rfl))]
  refine⟨λe=>h.1 (this▸e),λe=>h.2 (this▸e)⟩
 |_ =>exact h
theorem l9.put{F:Fr G}{a:Act}{d:Nat}{v:AV G}{u:Value}(h:l9 J ρ F a.tmps)(hd:d<a.tmps.size)(hn:D1 d F=true)(hg:∀j w v',v= .gd j w v'->j≠d)(hv:rf J ρ a.tmps v u):
  l9 J ρ ((d,v)::F) (a.put (some d) u).tmps:=λk x e=>by
 simp only[cu]at e;cases hb:Nat.beq d k with
 |true=>rw[hb]at e;cases e;have:=aa7 hb;subst this;exact⟨u,by simp[Act.put,hd],DP hv hg⟩
 |false=>
  rw[hb]at e;obtain⟨y,h1,h2⟩:=h k x e;have hne:¬d=k:=λe=>by rw[e,Nat.beq_refl]at hb;cases hb
  exact⟨y,by simp only[Act.put,Array.getElem?_setIfInBounds,aa6 hne];exact h1,DP h2 λj w v' e'=>RC hn (e'▸e)⟩
def Jd(d:Nat):Fr G->Bool
 |[]=>true
 |(k,v)::r=> !Nat.beq k d&&(match v with
  | .gd j _ _ => !Nat.beq j d
  |_ =>true)&&Jd d r
theorem RB{d:Nat}:∀{F:Fr G},Jd d F=true->cu F d=none/\∀{k:Nat} {j:Nat} {w:Bool} {v:AV G},cu F k=some (.gd j w v)->j≠d:=by
 intro F
 induction F with
 |nil=>intro _;exact⟨rfl,λh=>by cases h⟩
 |cons p r ih=>
  obtain⟨k0,v0⟩:=p;intro h;simp only[Jd,aa8,Bool.not_eq_true']at h;obtain⟨h1,h2⟩:=ih h.2;refine⟨by simp only[cu,h.1.1,cond_false];exact h1,λ{k j w v} e=>?_⟩;simp only[cu]at e;cases hb:Nat.beq k0 k with
  |true=>rw[hb]at e;cases e;intro hj;have:=h.1.2;simp only[hj,Nat.beq_refl,Bool.not_true,Bool.false_eq_true]at this
  |false=>rw[hb]at e;exact h2 e
theorem l9.off{F:Fr G}{a:Act}{d:Nat}{u:Value}(h:l9 J ρ F a.tmps)(hn:Jd d F=true):l9 J ρ F (a.put (some d) u).tmps:=λk x e=>by
 obtain⟨h1,h2⟩:=RB hn;obtain⟨y,h3,h4⟩:=h k x e;have hne:¬d=k:=λq=>by rw[q,e]at h1;cases h1
 exact⟨y,by simp only[Act.put,Array.getElem?_setIfInBounds,aa6 hne];exact h3,DP h4 λj w v' e'=>h2 (e'▸e)⟩
def Dr(d:Nat):AV G->Bool
 | .gd j _ _ => !Nat.beq j d
 |_ =>true
def EY(d:Nat):CC G->Bool
 |[]=>true
 |y::r=>Jd d y.F&&EY d r
theorem RA{d:Nat}:∀{C:CC G},EY d C=true->∀y∈C,Jd d y.F=true:=by
 intro C
 induction C with
 |nil=>intro _ y hy;cases hy
 |cons x r ih=>
  intro h y hy;simp only[EY,aa8]at h;rcases List.mem_cons.1 hy with rfl|hy
  ·exact h.1
  ·exact ih h.2 y hy
def qD(N:Nat)(C:CC G)(d:Option Tmp)(v:AV G)(S:AS G):Option (AS G):=match d with
 |none=>some S
 |some d=>bif Nat.blt d N&&(D1 d S.F&&EY d C)&&Dr d v then some {S with F:=(d,v)::S.F}else none
theorem Rl.put{c:Cx}{N:Nat}{HK X:List av}{C:CC G}{S S':AS G}{a:Act}{w:World}{d:Option Tmp}{v:AV G}{u:Value}(h:Rl c N ρ J HK X C S a w)(hp:qD N C d v S=some S')(hv:rf J ρ a.tmps v u):
  Rl c N ρ J HK X C S' (a.put d u) w:=by
 cases d with
 |none=>cases hp;exact h
 |some d=>
  unfold qD at hp;dsimp only at hp;cases hb:(Nat.blt d N&&(D1 d S.F&&EY d C)&&Dr d v)with
  |false=>rw[hb]at hp;cases hp
  |true=>rw[hb]at hp;cases hp;simp only[aa8]at hb;obtain⟨⟨h1,h2,h3⟩,h4⟩:=hb;refine⟨by simp[Act.put,h.tm],by simpa[Act.put]using h.df,h.si,h.fs.put (by rw[h.tm];simpa[Nat.blt_eq]using h1) h2 (λj w v' e=>?_) hv,(λy hy=>(h.fc y hy).off (RA h3 y hy)),h.kc,h.hp,h.kn,h.fr⟩;subst e;intro hj;simp only[Dr,hj,Nat.beq_refl,Bool.not_true,Bool.false_eq_true]at h4
def avc:Value->Option (AV G)
 | .int k n=>some (.lit k n)
 | .bool b=>some (.kb b)
 | .string s=>some (.str s)
 | .pointer none=>some .tv
 | .slice none 0 0=>some .gW
 | .map none=>some .ye
 | .nilFunc=>some .kL
 | .nilIface=>some .AE
 |_ =>none
def FX(C:CC G)(S:AS G):Operand->Option (AV G)
 | .tmp t=>match cu S.F t with
  |some v=>some v
  |none=>X6 C t
 | .const v=>avc v
 | .global _ =>none
 | .func f=>some (.fn (.func f) .nil .nil)
theorem Xy{v:Value}{x:AV G}{t:Array Value}(h:avc v=some x):rf J ρ t x v:=by unfold avc at h;split at h<;>first|(cases h;rfl)|cases h
theorem Lx{t:Array Value}:∀{C:CC G} {d:Nat} {v:AV G},FC J ρ C t->X6 C d=some v->∃u,t[d]? =some u/\rf J ρ t v u:=by
 intro C
 induction C with
 |nil=>intro d v _ h;cases h
 |cons y r ih=>
  intro d v hf h;simp only[X6]at h;split at h
  ·rename_i v' hv;cases h;exact hf y List.mem_cons_self d _ hv
  ·exact ih (λz hz=>hf z (abj _ hz)) h
theorem FC.up(mJ:∀w,J' w->J w)(mρ:ρ.le ρ'){C:CC G}{t:Array Value}(h:FC J ρ C t):FC J' ρ' C t:=λy hy=>(h y hy).up mJ mρ
theorem Rl.ev{c:Cx}{N:Nat}{HK X:List av}{C:CC G}{S:AS G}{a:Act}{w:World}(h:Rl c N ρ J HK X C S a w){x:Operand}{v:AV G}(e:FX C S x=some v):rf J ρ a.tmps v (a.eval x):=by
 cases x with
 |tmp t=>
  simp only[FX]at e;cases h1:cu S.F t with
  |some v'=>
   rw[h1]at e;cases e;obtain⟨u,h2,h3⟩:=h.fs t _ h1;have:a.eval (.tmp t)=u:=by simp[Act.eval,h2]
   rw[this];exact h3
  |none=>
   rw[h1]at e;obtain⟨u,h2,h3⟩:=Lx h.fc e;have:a.eval (.tmp t)=u:=by simp[Act.eval,h2]
   rw[this];exact h3
 |const v'=>exact Xy e
 |global g=>cases e
 |func f=>cases e;exact⟨[],[],rfl,rfl,rfl⟩
def aP.fr(ρ:aP)(n:Nat):Prop:=∀r,n<=r->ρ r=none
def aP.to(ρ ρ':aP)(n:Nat):Prop:=∀r,r<n->ρ' r=ρ r
theorem aP.to.le{n:Nat}(h:ρ.to ρ' n)(f:ρ.fr n):ρ.le ρ':=λr v e=>by
 by_cases hr:r<n
 ·rw[h r hr];exact e
 ·rw[f r (by omega)]at e;cases e
theorem aP.to.trans{ρ'':aP}{n m:Nat}(h:ρ.to ρ' n)(k:ρ'.to ρ'' m)(hn:n<=m):ρ.to ρ'' n:=λr hr=>(k r (by omega)).trans (h r hr)
theorem aP.b5(ρ:aP)(n:Nat):ρ.to ρ n:=λ_ _ =>rfl
def aP.set(ρ:aP)(n:Nat)(v:Value):aP:=λr=>if r=n then some v else ρ r
theorem aP.fJ(ρ:aP)(n:Nat)(v:Value):ρ.set n v n=some v:=by simp[aP.set]
theorem aP.jT(ρ:aP)(n:Nat)(v:Value):ρ.to (ρ.set n v) n:=λr hr=>by simp[aP.set,Nat.ne_of_lt hr]
theorem aP.wU{n:Nat}(h:ρ.fr n)(v:Value):(ρ.set n v).fr (n+1):=λr hr=>by unfold aP.set;rw[aa6 (by omega)];exact h r (by omega)
end
end Go.Rw
namespace Go.Rw
open Go Go.Bw
variable {G:Sg}
abbrev Hv(G:Sg):=∀i,List (Fd G i)
structure PR(G:Sg)(t:Ty) where
 m:Ty
 get:t.T G->m.T G
 set:t.T G->m.T G->t.T G
def path(F:Hv G):List oJ->(t:Ty)->Option (PR G t)
 |[],t=>some ⟨t,λx=>x,λ_ v=>v⟩
 | .Ag j o::r, .st i=>match(F i)[j]? with
  |some f=>bif Nat.beq f.off o then(match path F r f.ty with
   |some q=>some ⟨q.m,λx=>q.get (f.get x),λx v=>f.set x (q.set (f.get x) v)⟩
   |none=>none)else none
  |none=>none
 | .idx k sz i::r, .iK n e=>bif Nat.beq n k&&Nat.beq sz (e.L G).n then(match path F r e with
   |some q=>some ⟨q.m,λx=>q.get (x i.toNat),λx v=>mg x i.toNat (q.set (x i.toNat) v)⟩
   |none=>none)else none
 |_,_ =>none
theorem DW{F:Hv G}:∀{p:List oJ} {t:Ty} {q:PR G t},path F p t=some q->(∀s∈p,s.ok)->aM (t.L G) (q.m.L G) (cQ p) q.get q.set:=by
 intro p
 induction p with
 |nil=>intro t q h _;cases h;exact aM.id
 |cons s r ih=>
  intro t q h hs;have hr:=λs' hs'=>hs s' (abj _ hs');cases s with
  |Ag j o=>
   cases t with
   |st i=>
    simp only[path]at h;split at h
    ·rename_i f hf
     cases hb:Nat.beq f.off o with
     |false=>rw[hb]at h;cases h
     |true=>
      rw[hb]at h;simp only[cond_true]at h;split at h
      ·rename_i q' hq
       cases h;have:=f.ok.comp (ih hq hr);rw[aa7 hb]at this;exact this
      ·cases h
    ·cases h
   |_ =>cases h
  |idx k sz i=>
   cases t with
   |iK n e=>
    simp only[path]at h;cases hb:(Nat.beq n k&&Nat.beq sz (e.L G).n)with
    |false=>rw[hb]at h;cases h
    |true=>
     rw[hb]at h;simp only[cond_true]at h;simp only[aa8]at hb;have e1:=aa7 hb.1;have e2:=aa7 hb.2;subst e1;split at h
     ·rename_i q' hq
      cases h;have hi:cB i n=true:=hs _ List.mem_cons_self;exact(aM.idx (L:=e.L G) (m:=n) i.toNat (bz hi).2 e2).comp (ih hq hr)
     ·cases h
   |_ =>cases h
structure PL(G:Sg)(e:Ty) where
 m:Ty
 i:Int
 get:e.T G->m.T G
 set:e.T G->m.T G->e.T G
def Bs(F:Hv G)(e:Ty):List oJ->Option (PL G e)
 | .idx _ _ i::r=>match path F r e with
  |some q=>some ⟨q.m,i,q.get,q.set⟩
  |none=>none
 |_ =>none
theorem EU{F:Hv G}{e:Ty}{n sz:Nat}{i:Int}{r:List oJ}{q:PL G e}(h:Bs F e (.idx n sz i::r)=some q)(hs:∀s∈(.idx n sz i::r:List oJ),s.ok)(he:sz=(e.L G).n){m:Nat}(hi:i.toNat<m):
  q.i=i/\aM (LA (e.L G) m) (q.m.L G) (cQ (.idx n sz i::r)) (λx=>q.get (x i.toNat)) (λx v=>mg x i.toNat (q.set (x i.toNat) v)):=by
 simp only[Bs]at h;split at h
 ·rename_i q' hq
  cases h;exact⟨rfl,(aM.idx (L:=e.L G) (m:=m) i.toNat hi he).comp (DW hq λs hs'=>hs s (abj _ hs'))⟩
 ·cases h
def wT:(t:Ty)->AV G->Option (t.T G)
 | .int k, .int l n=>bif Nat.beq (Ty.bp.ik l) (Ty.bp.ik k)then some n else none
 | .int k, .lit l n=>bif Nat.beq (Ty.bp.ik l) (Ty.bp.ik k)then some n else none
 | .bool, .bool b=>some b
 | .bool, .kb b=>some b
 | .sl _, .gW=>some []
 |t, .dat t' x=>if h:t'.bp t=true then some (Ty.qC h▸x)else none
 |_,_ =>none
theorem KT{J:World->Prop}{e:Ty}:rR (G:=G) J (.sl e) ([]:List (e.T G)) (.slice none 0 0):=⟨⟨_,[],rfl,yP.nil⟩,nofun,λ_ =>rfl⟩
theorem vz{J:World->Prop}{ρ:aP}{t:Ty}{v:AV G}{x:t.T G}{u:Value}(h:wT t v=some x)(hv:rv J ρ v u):rR J t x u:=by
 have hd:∀{t':Ty} {y:t'.T G},v= .dat t' y->(if h:t'.bp t=true then some (Ty.qC h▸y:t.T G)else none)=some x->rR J t x u:=by
  intro t' y e k;subst e;by_cases hs:t'.bp t=true
  ·rw[dif_pos hs]at k
   obtain⟨u',e1,hr⟩:=hv;cases e1;have:=Ty.qC hs;subst this;cases k;exact hr
  ·rw[dif_neg hs]at k;cases k
 unfold wT at h;split at h
 ·rename_i k l n
  cases hb:Nat.beq (Ty.bp.ik l) (Ty.bp.ik k)with
  |false=>rw[hb]at h;cases h
  |true=>rw[hb]at h;cases h;obtain rfl:=BF hb;exact HU (t:= .int l) hv
 ·rename_i k l n
  cases hb:Nat.beq (Ty.bp.ik l) (Ty.bp.ik k)with
  |false=>rw[hb]at h;cases h
  |true=>rw[hb]at h;cases h;obtain rfl:=BF hb;exact HU (ρ:=ρ) (t:= .int l) hv
 ·cases h;exact HU (t:= .bool) hv
 ·cases h;exact HU (ρ:=ρ) (t:= .bool) hv
 ·cases h
  have:[u]=[.slice none 0 0]:=hv;cases this;exact KT
 ·exact hd rfl h
 ·cases h
def partAt:AV G->Nat->Option (Nat×AV G)
 | .part w a b,o=>bif Nat.beq o 0 then some (w,a)else bif Nat.ble w o then partAt b (o-w)else none
 |_,_ =>none
def xS:AV G->Nat->AV G->Option (AV G)
 | .part w a b,o,v=>bif Nat.beq o 0 then some (.part w v b)else bif Nat.ble w o then(match xS b (o-w) v with
   |some b'=>some (.part w a b')
   |none=>none)else none
 |_,_,_ =>none
def Dl(F:Hv G):AV G->List oJ->Option (AV G)
 |v,[]=>some v
 | .dat t x,p=>match path F p t with
  |some q=>some (mk q.m (q.get x))
  |none=>none
 | .st a, .Ag _ o::r=>match partAt a o with
  |some (_,v)=>Dl F v r
  |none=>none
 |_,_ =>none
theorem zg{J:World->Prop}{ρ:aP}:∀{a:AV G} {o w:Nat} {v:AV G} {cs:List Value},partAt a o=some (w,v)->rl J ρ a cs->∃u,rv J ρ v u/\(cs.drop o).take w=u.cells.toList/\u.cells.size=w/\o+w<=cs.length:=by
 intro a
 induction a with
 |part w0 a b _ nW=>
  intro o w v cs h hr;obtain⟨c1,c2,u,rfl,h1,h2,h3,h4⟩:=hr;unfold partAt at h;cases h0:Nat.beq o 0 with
  |true=>rw[h0]at h;cases h;obtain rfl:=aa7 h0;refine⟨u,h2,?_,by rw[← h1, ← h3,Array.length_toList],by simp;omega⟩;rw[List.drop_zero, ← h1,List.take_left,h3]
  |false=>
   rw[h0]at h;cases hb:Nat.ble w0 o with
   |false=>rw[hb]at h;cases h
   |true=>rw[hb]at h;have hle:=Nat.le_of_ble_eq_true hb;obtain⟨u',k1,k2,k3,k4⟩:=nW h h4;refine⟨u',k1,?_,k3,by simp;omega⟩;rw[← k2,List.drop_append,List.drop_of_length_le (by omega),List.nil_append,h1]
 |_ =>intro o w v cs h;cases h
theorem AZ{J:World->Prop}:∀{t:Ty} {x:t.T G} {cs:List Value},(t.L G).dJ J cs x->∃u:Value,u.cells.toList=cs/\rR J t x u:=by
 intro t x cs h;cases t with
 |int k=>have h:cs=[.int k x]:=h;subst h;exact⟨.int k x,rfl,rfl,nofun,λ_ =>rfl⟩
 |bool=>have h:cs=[.bool x]:=h;subst h;exact⟨.bool x,rfl,rfl,nofun,λ_ =>rfl⟩
 |st i=>exact⟨.agg cs.toArray,rfl,h,λ_ =>⟨cs,rfl⟩,nofun⟩
 |iK n e=>exact⟨.agg cs.toArray,rfl,h,λ_ =>⟨cs,rfl⟩,nofun⟩
 |sl e=>obtain⟨v,ws,rfl,hf⟩:=h;have hc:v.cells.toList=[v]:=hf.sl.cells;exact⟨v,hc,⟨v,ws,hc,hf⟩,nofun,λ_ =>by rw[← hc]⟩
theorem BB{F:Hv G}{J:World->Prop}{ρ:aP}:∀{p:List oJ} {c v:AV G} {u:Value},Dl F c p=some v->rv J ρ c u->(∀s∈p,s.ok)->
  ∃u',rv J ρ v u'/\(u.cells.toList.drop (cQ p)).take u'.cells.size=u'.cells.toList/\cQ p+u'.cells.size<=u.cells.size:=by
 intro p
 induction p with
 |nil=>
  intro c v u h hr _;have:c=v:=by unfold Dl at h;exact Option.some.inj h
  subst this;exact⟨u,hr,by rw[cQ,List.drop_zero,List.take_of_length_le (by simp)],by simp[cQ]⟩
 |cons s r ih=>
  intro c v u h hr hs;cases c with
  |dat t x=>
   simp only[Dl]at h;split at h
   ·rename_i q hq
    cases h;obtain⟨u0,e,hd⟩:=hr;cases e;have hp:=DW hq hs;have hg:=hp.get hd.1;obtain⟨u',k1,k2⟩:=AZ hg;have hl:=(q.m.L G).len hg;have Yo:=(t.L G).len hd.1;have hle:=hp.le;rw[← k1]at hl;rw[Array.length_toList]at hl Yo;exact⟨u',C8 k2,by rw[hl,k1],by omega⟩
   ·cases h
  |st a=>
   cases s with
   |Ag j o=>
    simp only[Dl]at h;split at h
    ·rename_i w c' hp
     obtain⟨cs,e,h1,h2⟩:=hr;cases e;obtain⟨u1,k1,k2,k3,k4⟩:=zg hp h1;obtain⟨u',m1,m2,m3⟩:=ih h k1 λs hs'=>hs s (abj _ hs');refine⟨u',m1,?_,?_⟩
     ·rw[← m2, ← k2]
      show(cs.drop (o+cQ r)).take _ =_;rw[List.drop_take,List.take_take,List.drop_drop,Nat.min_eq_left (by omega)]
     ·show o+cQ r+_ <=cs.length
      omega
    ·cases h
   |idx _ _ _ =>simp[Dl]at h
  |_ =>simp[Dl]at h
def AV.one:AV G->Bool
 | .int _ _ =>true
 | .lit _ _ =>true
 | .bool _ =>true
 | .kb _ =>true
 | .str _ =>true
 | .dat t _ => !t.ag
 | .ptr _ _ =>true
 | .tv=>true
 | .gW=>true
 | .row _ =>true
 | .Bp _ _ _ _ _ _ =>true
 | .mp _ =>true
 | .ye=>true
 | .fn _ _ _ =>true
 | .kL=>true
 | .fW _ _ =>true
 | .AE=>true
 |_ =>false
theorem Bt{J:World->Prop}{ρ:aP}{v:AV G}{u:Value}(h:v.one=true)(hr:rv J ρ v u):u.cells= #[u]/\u.oneCell'=true:=by
 cases v<;>simp only[AV.one,Bool.false_eq_true]at h
 case int=>have hr:[u]=_ :=hr;cases hr;exact⟨rfl,rfl⟩
 case lit=>have hr:[u]=_ :=hr;cases hr;exact⟨rfl,rfl⟩
 case bool=>have hr:[u]=_ :=hr;cases hr;exact⟨rfl,rfl⟩
 case kb=>have hr:[u]=_ :=hr;cases hr;exact⟨rfl,rfl⟩
 case str=>have hr:[u]=_ :=hr;cases hr;exact⟨rfl,rfl⟩
 case dat t x=>obtain⟨u',e,h1,_,h3⟩:=hr;cases e;have h3:=h3 (by simpa using h);refine⟨h3,?_⟩;have:=(t.L G).one h1 u (by rw[h3];simp);exact this
 case ptr=>obtain⟨⟨b,o,_,e⟩,_⟩:=hr;cases e;exact⟨rfl,rfl⟩
 case tv=>have hr:[u]=_ :=hr;cases hr;exact⟨rfl,rfl⟩
 case gW=>have hr:[u]=_ :=hr;cases hr;exact⟨rfl,rfl⟩
 case row r=>obtain⟨_,_,_,_,e⟩:=hr;cases e;exact⟨rfl,rfl⟩
 case Bp=>obtain⟨⟨b,o,_,e⟩,_⟩:=hr;cases e;exact⟨rfl,rfl⟩
 case mp r=>obtain⟨_,_,e,h1⟩:=hr;cases e;exact h1
 case ye=>have hr:[u]=_ :=hr;cases hr;exact⟨rfl,rfl⟩
 case fn=>obtain⟨_,_,e,_⟩:=hr;cases e;exact⟨rfl,rfl⟩
 case kL=>have hr:[u]=_ :=hr;cases hr;exact⟨rfl,rfl⟩
 case fW=>obtain⟨_,e,_⟩:=hr;cases e;exact⟨rfl,rfl⟩
 case AE=>have hr:[u]=_ :=hr;cases hr;exact⟨rfl,rfl⟩
theorem zh{J:World->Prop}{ρ:aP}{v:AV G}{u:Value}(h:v.one=true)(hr:rv J ρ v u):u.cells.toList=[u]/\u.cells.size=1:=by
 have:=(Bt h hr).1;constructor
 ·rw[this]
 ·rw[this];rfl
def parts:AV G->Option Nat
 | .nil=>some 0
 | .part w _ b=>match parts b with
  |some n=>some (w+n)
  |none=>none
 |_ =>none
theorem ux{J:World->Prop}{ρ:aP}:∀{a:AV G} {n:Nat} {cs:List Value},parts a=some n->rl J ρ a cs->cs.length=n:=by
 intro a
 induction a with
 |nil=>intro n cs h hr;cases h;have:cs=[]:=hr;subst this;rfl
 |part w a b _ nW=>
  intro n cs h hr;simp only[parts]at h;split at h
  ·rename_i m hm
   cases h;obtain⟨c1,c2,u,rfl,h1,_,_,h4⟩:=hr;simp[h1,nW hm h4]
  ·cases h
 |_ =>intro n cs h;cases h
def AV.RD(v:AV G):Option Nat:=bif v.one then some 1 else match v with
 | .dat t _ =>some (t.L G).n
 | .st a=>parts a
 |_ =>none
theorem GA{J:World->Prop}{ρ:aP}{v:AV G}{n:Nat}{l:List Value}(h:v.RD=some n)(hr:rl J ρ v l):∃u,l=[u]/\u.cells.size=n/\kP u.cells.toList:=by
 unfold AV.RD at h;cases hb:v.one with
 |true=>
  rw[hb]at h;cases h;have key:∀u,l=[u]->∃u,l=[u]/\u.cells.size=1/\kP u.cells.toList:=λu e=>by subst e;obtain⟨k1,k2⟩:=Bt hb hr;refine⟨u,rfl,(zh hb hr).2,?_⟩;rw[k1];intro x hx;simp at hx;subst hx;exact k2
  cases v<;>simp only[AV.one,Bool.false_eq_true]at hb
  case dat t x=>obtain⟨u,e,_⟩:=hr;exact key u e
  case ptr=>obtain⟨⟨b,o,_,e⟩,_⟩:=hr;exact key _ e
  case row=>obtain⟨_,_,_,_,e⟩:=hr;exact key _ e
  case Bp=>obtain⟨⟨b,o,_,e⟩,_⟩:=hr;exact key _ e
  case mp=>obtain⟨_,_,e,_⟩:=hr;exact key _ e
  case fn=>obtain⟨_,_,e,_⟩:=hr;exact key _ e
  case fW=>obtain⟨_,e,_⟩:=hr;exact key _ e
  all_goals exact key _ hr
 |false=>
  rw[hb]at h;simp only[cond_false]at h;split at h
  ·rename_i t x
   cases h;obtain⟨u,e,h1,_⟩:=hr;exact⟨u,e,by rw[← Array.length_toList];exact(t.L G).len h1,(t.L G).one h1⟩
  ·obtain⟨cs,e,h1,h2⟩:=hr
   exact⟨_,e,ux h h1,h2⟩
  ·cases h
def Uc(c v:AV G):Option (AV G):=bif c.one&&v.one then some v else match c,v with
 | .unk n,v=>match v.RD with
  |some m=>bif Nat.beq n m then some v else none
  |none=>none
 | .dat t _,v=>match wT t v with
  |some x=>some (mk t x)
  |none=>none
 | .st a, .st b=>match parts a,parts b with
  |some n,some m=>bif Nat.beq n m then some (.st b)else none
  |_,_ =>none
 |_,_ =>none
theorem Q8{J:World->Prop}{ρ:aP}{c v c':AV G}{u uv:Value}(h:Uc c v=some c')(hc:rv J ρ c u)(hv:rv J ρ v uv):rv J ρ c' uv/\uv.cells.size=u.cells.size/\kP uv.cells.toList:=by
 unfold Uc at h;cases hb:(c.one&&v.one)with
 |true=>rw[hb]at h;cases h;simp only[aa8]at hb;obtain⟨k1,k2⟩:=Bt hb.2 hv;refine⟨hv,by rw[(zh hb.1 hc).2,(zh hb.2 hv).2],?_⟩;rw[k1];intro x hx;simp at hx;subst hx;exact k2
 |false=>
  rw[hb]at h;simp only[cond_false]at h;split at h
  ·rename_i n
   split at h
   ·rename_i m hm
    cases hq:Nat.beq n m with
    |false=>rw[hq]at h;cases h
    |true=>rw[hq]at h;cases h;obtain⟨u1,e1,k1,k2⟩:=GA hm hv;cases e1;obtain⟨u2,e2,k3⟩:=hc;cases e2;exact⟨hv,by rw[k1,k3,aa7 hq],k2⟩
   ·cases h
  ·rename_i t x
   split at h
   ·rename_i y hy
    cases h;obtain⟨u',e,k1,_⟩:=hc;cases e;have k2:=vz hy hv;refine⟨C8 k2,?_,(t.L G).one k2.1⟩;rw[← Array.length_toList,(t.L G).len k2.1, ← (t.L G).len k1,Array.length_toList]
   ·cases h
  ·split at h
   ·rename_i n m h1 h2
    cases hq:Nat.beq n m with
    |false=>rw[hq]at h;cases h
    |true=>rw[hq]at h;cases h;obtain⟨cs,e,k1,_⟩:=hc;cases e;obtain⟨ds,e,k2,k3⟩:=hv;cases e;have:=aa7 hq;refine⟨⟨ds,rfl,k2,k3⟩,?_,k3⟩;show ds.length=cs.length;rw[ux h1 k1,ux h2 k2,this]
   ·cases h
  ·cases h
def Gg(F:Hv G):AV G->List oJ->AV G->Option (AV G)
 |c,[],v=>Uc c v
 | .dat t x,p,v=>match path F p t with
  |some q=>match wT q.m v with
   |some y=>some (.dat t (q.set x y))
   |none=>none
  |none=>none
 | .st a, .Ag _ o::r,v=>match partAt a o with
  |some (_,c)=>match Gg F c r v with
   |some c'=>match xS a o c' with
    |some a'=>some (.st a')
    |none=>none
   |none=>none
  |none=>none
 |_,_,_ =>none
theorem Gl{J:World->Prop}{ρ:aP}:∀{a:AV G} {o w:Nat} {v v' a':AV G} {cs:List Value} {u':Value},partAt a o=some (w,v)->xS a o v'=some a'->rl J ρ a cs->rv J ρ v' u'->u'.cells.size=w->rl J ρ a' (bn cs o u'.cells.toList):=by
 intro a
 induction a with
 |part w0 a b _ nW=>
  intro o w v v' a' cs u' h hp hr hv hw;obtain⟨c1,c2,u,rfl,h1,h2,h3,h4⟩:=hr;unfold partAt at h;unfold xS at hp;have hl:u'.cells.toList.length=w:=by rw[Array.length_toList];exact hw
  cases h0:Nat.beq o 0 with
  |true=>
   rw[h0]at h hp;cases h;cases hp;obtain rfl:=aa7 h0;refine⟨u'.cells.toList,c2,u',?_,hl,hv,rfl,h4⟩;have e1:(c1++c2).drop (0+u'.cells.toList.length)=c2:=by rw[Nat.zero_add,hl, ← h1,List.drop_left]
   unfold bn;rw[e1];simp
  |false=>
   rw[h0]at h hp;simp only[cond_false]at h hp;cases hb:Nat.ble w0 o with
   |false=>rw[hb]at h;cases h
   |true=>
    rw[hb]at h hp;simp only[cond_true]at h hp;have hle:=Nat.le_of_ble_eq_true hb;split at hp
    ·rename_i b' hb'
     cases hp;refine⟨c1,_,u,?_,h1,h2,h3,nW h hb' h4 hv hw⟩;have:o=c1.length+(o-w0):=by omega
     rw[this,xR];congr 2;omega
    ·cases hp
 |_ =>intro o w v v' a' cs u' h;cases h
theorem DK{F:Hv G}{J:World->Prop}{ρ:aP}{v:AV G}{uv:Value}(hv:rv J ρ v uv):∀{p:List oJ} {c c':AV G} {u:Value},Gg F c p v=some c'->rv J ρ c u->(∀s∈p,s.ok)->
  ∃u',rv J ρ c' u'/\u'.cells.toList=bn u.cells.toList (cQ p) uv.cells.toList/\cQ p+uv.cells.size<=u.cells.size/\kP uv.cells.toList:=by
 intro p
 induction p with
 |nil=>
  intro c c' u h hr _;have h:Uc c v=some c':=by unfold Gg at h;exact h
  obtain⟨k1,k2,k3⟩:=Q8 h hr hv;refine⟨uv,k1,?_,by simp[cQ,k2],k3⟩;simp[bn,cQ, ← k2]
 |cons s r ih=>
  intro c c' u h hr hs;cases c with
  |dat t x=>
   simp only[Gg]at h;split at h
   ·rename_i q hq
    split at h
    ·rename_i y hy
     cases h;obtain⟨u0,e,hd⟩:=hr;cases e;have hp:=DW hq hs;have R9:=vz hy hv;have LJ:=hp.set (v:=y) hd.1 R9.1;have hl:=(q.m.L G).len R9.1;have Yo:=(t.L G).len hd.1;have hle:=hp.le;rw[Array.length_toList]at hl Yo;obtain⟨u',k1,k2⟩:=AZ LJ;refine⟨u',⟨u',rfl,k2⟩,k1,by omega,(q.m.L G).one R9.1⟩
    ·cases h
   ·cases h
  |st a=>
   cases s with
   |Ag j o=>
    simp only[Gg]at h;split at h
    ·rename_i w c1 hp
     split at h
     ·rename_i c2 h2
      split at h
      ·rename_i a' ha
       cases h;obtain⟨cs,e,h1,h3⟩:=hr;cases e;obtain⟨u1,k1,k2,k3,k4⟩:=zg hp h1;obtain⟨u',m1,m2,m3,m4⟩:=ih h2 k1 λs hs'=>hs s (abj _ hs');have hsz:u'.cells.size=w:=by rw[← Array.length_toList,m2,pe (by simpa using m3),Array.length_toList];exact k3
       have hn:=Gl hp ha h1 m1 hsz;have hcs:bn cs o u'.cells.toList=bn cs (o+cQ r) uv.cells.toList:=by
        rw[m2];refine rm λi=>?_;have hu1:u1.cells.toList.length=w:=by rw[Array.length_toList];exact k3
        have huv:uv.cells.toList.length=uv.cells.size:=Array.length_toList;have hsl:(bn u1.cells.toList (cQ r) uv.cells.toList).length=w:=by rw[pe (by omega)];exact hu1
        rw[gq (by omega),gq (cs:=cs) (by omega),hsl];by_cases q1:o<=i/\i<o+w
        ·rw[aa5 q1,gq (by omega)]
         by_cases q2:cQ r<=i-o/\i-o<cQ r+uv.cells.toList.length
         ·rw[aa5 q2,aa5 (by omega)];congr 1;omega
         ·rw[aa6 q2,aa6 (by omega), ← k2,List.getElem?_take,aa5 (by omega),List.getElem?_drop];congr 1;omega
        ·rw[aa6 q1,aa6 (by omega)]
       refine⟨.agg (bn cs o u'.cells.toList).toArray,⟨_,rfl,hn,?_⟩,hcs,?_,m4⟩
       ·rw[hcs]
        intro x hx;simp only[bn,List.mem_append]at hx;rcases hx with(hx|hx)|hx
        ·exact h3 x (List.mem_of_mem_take hx)
        ·exact m4 x hx
        ·exact h3 x (List.mem_of_mem_drop hx)
       ·show o+cQ r+_ <=cs.length
        omega
      ·cases h
     ·cases h
    ·cases h
   |idx _ _ _ =>simp[Gg]at h
  |_ =>simp[Gg]at h
end Go.Rw
namespace Go.Bw
open Go Go.RowKit
section rules
variable {P:Program} {N:Nat} {c:Cx} {D:List Deferred} {Q:Exit->Act->World->Prop} {F:cE} {H:List av} {d:Option Tmp} {ty:TypeId} {ps:String} {af:Array Edge} {g:Option (Nat×Bool)} {α β γ:Type}
theorem Nk{s x:Operand}{t e sz bytes b T cp:Nat}{A:World->Prop}{v:Value}{L:bP α}[aR L]{xs:List α}{y:α}[ht:F3 P t e sz bytes](hf:Fz A v L xs)(hs:ev F s=some (s9 v))(hx:ev F x=some (.slice (some ⟨b,0,none⟩) 1 cp))[hc:nZ H b T (L.enc y)][k:Kn c H A](hn:L.n=sz)
  (GJ:(xs.length+1)*bytes<=140737488355328)(h63:xs.length+1<=9223372036854775807):
  RX P N c ⟨d, .call ⟨.builtin .append, #[s,x], #[t,t]⟩,ty,ps,af,g⟩ F H (λv'=>qu v' (xs++[y]).length) (λv'=>v') (λv'=>nN v' e sz L (xs++[y])::H):=λD a w next Q hst hk=>by
 subst hn;obtain⟨i,z,e1,e2,e3,e4,e5,e6,e7⟩:=F3.get ht.ok;have hro:=hf.ro w (k.ok w hst.si hst.hp);have hcell:=hst.hp.holds _ hc.mem;have hnews:∀(j:Nat) u,(L.enc y)[j]? =some u->w.cell? ((⟨b,0,none⟩:Addr).add j)=some u:=λj u hj=>by rw[Addr.add_lit,Nat.zero_add,m0 hcell];exact hj
 have Jk:xs.length+1<=maxLen:=by simp only[maxLen];omega
 have key:∃v' w',(Builtin.append_ #[t,t] ty #[s9 v, .slice (some ⟨b,0,none⟩) 1 cp]).run P w= .ok v' w'/\w'.ownsRow w.heap.size e L.n v' (xs.length+1) (cH L xs++L.enc y)/\aJ [] w w':=by
  rcases hro.2 with⟨⟨a0,c0,hv⟩,h0⟩|⟨gb,off,cap,hv,h3,h4,h5⟩
  ·subst hv
   have hxs:xs=[]:=List.length_eq_zero_iff.1 h0;subst hxs;cases a0 with
   |none=>obtain⟨v',w',q1,q2,q3,_⟩:=run_append_own w w.heap.size t ty e i z L.n bytes e1 e2 e3 e4 e5 e6 e7 (.slice none 0 0) 0 [] ⟨by simp, .inl ⟨rfl,rfl⟩⟩ ⟨b,0,none⟩ 1 cp (L.enc y) (by rw[eV];omega) hnews (yy L y) (by simpa using Jk) (by simpa using GJ) (Nat.le_refl _);exact⟨v',w',q1,q2,aJ.uz q3⟩
   |some ad=>obtain⟨v',w',q1,q2,q3⟩:=run_append_arg_grows (P:=P) w t ty e i z L.n bytes e1 e2 e3 e4 e5 e6 e7 ad 0 0 [] (by simp) (by simp) ⟨b,0,none⟩ 1 cp (L.enc y) (by rw[eV];omega) hnews (by omega) (by simpa using Jk) (by simpa using GJ);exact⟨v',w',q1,q2,aJ.uz q3⟩
  ·subst hv
   obtain⟨v',w',q1,q2,q3⟩:=run_append_arg_grows (P:=P) w t ty e i z L.n bytes e1 e2 e3 e4 e5 e6 e7 ⟨gb,off,none⟩ xs.length xs.length (cH L xs) (ju L xs) (λj u hj=>by rw[Addr.add_lit];exact h5 j u hj) ⟨b,0,none⟩ 1 cp (L.enc y) (by rw[eV];omega) hnews (by omega) Jk GJ;exact⟨v',w',q1,q2,aJ.uz q3⟩
 obtain⟨v',w',q1,q2,q3⟩:=key;have hrow:(nN v' e L.n L (xs++[y])).holds w':=by unfold nN;rw[pz,Db,List.length_append];obtain⟨o1,o2⟩:=q2;refine⟨o1,o2.imp (λh=>h) λ⟨gb,cap,cur,r1,r2,r3⟩=>⟨gb,cap,cur,r1,Nat.zero_le _,r3⟩⟩
 refine cq (by simp) (v:=v') (w':=w') ?_ (hk v' w' (qu.rU hrow) (hst.si.ext q3) (hst.hp.fresh q3 hrow hst.si.size λb' hb'=>?_))
 ·simp[execOp,resolve,invoke,builtin,ay hst.fr hs,ay hst.fr hx,q1]
 ·exact q2.lt b' (by simpa[nN,av.bK]using hb')
end rules
end Go.Bw
namespace Go.Bw
open Go Go.RowKit
def oc{α ρ:Type}(o:Option α)(z:Option ρ)(f:α->Option ρ):Option ρ:=match o with
 |none=>z
 |some a=>f a
section rules
variable {P:Program} {N:Nat} {c:Cx} {D:List Deferred} {Q:Exit->Act->World->Prop} {F:cE} {H:List av} {d:Option Tmp} {ty:TypeId} {ps:String} {af:Array Edge} {g:Option (Nat×Bool)} {α β γ:Type}
def Ak(P:Program)(t:Nat):Bool:=match P.underlying t with
 |some (.pointer e)=>Nat.beq e (P.pointee t)
 |_ =>false
theorem vD{t:Nat}(h:Ak P t=true):P.underlying t=some (.pointer (P.pointee t)):=by
 unfold Ak at h;split at h
 ·rename_i e h1;rw[h1,aa7 h]
 ·cases h
theorem PK{x y:Operand}{T U b o:Nat}(ht:Ak P T=true)(hx:ev F x=some (cj b o))(hy:ev F y=some (.pointer none)):VS P N c ⟨d, .binOp .eql T x y U,ty,ps,af,g⟩ F H (.bool false):=
 ax (by simp) λa w hf _ _ =>by have:=run_eql_pointer_nil (P:=P) (w:=w) T (some ⟨b,o,none⟩) (vD ht);simp[execOp,ay hf hx,ay hf hy,eqGuard,cj,this]
theorem PE{x y:Operand}{T U b o:Nat}(ht:Ak P T=true)(hx:ev F x=some (cj b o))(hy:ev F y=some (.pointer none)):VS P N c ⟨d, .binOp .neq T x y U,ty,ps,af,g⟩ F H (.bool true):=
 ax (by simp) λa w hf _ _ =>by have:=run_neq_pointer_nil (P:=P) (w:=w) T (some ⟨b,o,none⟩) (vD ht);simp[execOp,ay hf hx,ay hf hy,eqGuard,cj,this]
theorem M1{x y:Operand}{T U:Nat}(ht:Ak P T=true)(hx:ev F x=some (.pointer none))(hy:ev F y=some (.pointer none)):VS P N c ⟨d, .binOp .eql T x y U,ty,ps,af,g⟩ F H (.bool true):=
 ax (by simp) λa w hf _ _ =>by have:=run_eql_pointer_nil (P:=P) (w:=w) T none (vD ht);simp[execOp,ay hf hx,ay hf hy,eqGuard,this]
theorem MX{x y:Operand}{T U:Nat}(ht:Ak P T=true)(hx:ev F x=some (.pointer none))(hy:ev F y=some (.pointer none)):VS P N c ⟨d, .binOp .neq T x y U,ty,ps,af,g⟩ F H (.bool false):=
 ax (by simp) λa w hf _ _ =>by have:=run_neq_pointer_nil (P:=P) (w:=w) T none (vD ht);simp[execOp,ay hf hx,ay hf hy,eqGuard,this]
theorem we{z:Value}(hz:z.cells= #[z])(n:Nat):(Builtin.zeroCells z.cells n).toList=List.replicate n z:=by
 rw[hz];simp[Builtin.zeroCells];apply List.ext_getElem
 ·simp
 ·intro i h1 h2
  simp[Nat.mod_one]
theorem Ni{x:Operand}{t e b off n cp T:Nat}{cs cs':List Value}{z:Value}{H':List av}(ht:Aj P t e 1=true)(hz:Hp P e z)(Z2:z.cells= #[z])(h1:z.oneCell'=true)(hx:ev F x=some (.slice (some ⟨b,off,none⟩) n cp))(hn:0<n)
  [hr:nZ H b T cs](ho:off+n<=cs.length)(hc:bn cs off (List.replicate n z)=cs')[hs:AO H b cs' H']:
  RX (α:=Unit) P N c ⟨d, .call ⟨.builtin .clear, #[x], #[t]⟩,ty,ps,af,g⟩ F H (λ_ =>True) (λ_ => .tuple #[]) (λ_ =>H'):=λD a w next Q hst hk=>by
 obtain⟨inf,e1,e2,e3⟩:=rF.get ht;have hb:w.heap[b]? =some (.cells cs.toArray T (0,0)):=hst.hp.holds _ hr.mem;have hone:kP (List.replicate n z):=λv hv=>by rw[List.eq_of_mem_replicate hv];exact h1
 have hsc:=run_storeCells_at P b off T (List.replicate n z) 0 cs.toArray w hb (by simp;omega) hone;simp only[Nat.add_zero]at hsc;have gN:aJ [b] w (w.setRow b cs'.toArray):=⟨rfl,rfl,rfl,by simp,λk _ hk=>setRow_other w b k _ (by simpa using hk)⟩;refine cq (by simp) (v:= .tuple #[]) (w':=w.setRow b cs'.toArray) ?_ (hk () _ trivial (hst.si.store hst.hp hr.mem (by simp[av.bK]) gN) (hst.hp.Rf hs gN hst.si.size ?_))
 ·have qI:=ay hst.fr hx
  obtain⟨m,rfl⟩:∃m,n=m+1:=⟨n-1,by omega⟩;have Z0:=Gm hz w;have Wj:=we Z2 (m+1);have e5:(cs.toArray.toList.take off++List.replicate (m+1) z++cs.toArray.toList.drop (off+(List.replicate (m+1) z).length)).toArray=cs'.toArray:=by rw[← hc];rfl
  rw[e5]at hsc;simp[execOp,resolve,invoke,builtin,qI,Builtin.clear_,run_underlying e1,Z0,Wj,hsc]
 ·intro T' SV hT
  have:=setRow_heap w b SV.toArray cs'.toArray T' (0,0) hT;simpa[av.holds]using this
theorem uo{z:Value}:∀n:Nat,flat (λ_ =>[z]) n=List.replicate n z
 |0=>rfl
 |n+1=>by have:=uo (z:=z) n;rw[List.replicate_succ', ← this];rfl
end rules
end Go.Bw
namespace Go.Rw
open Go Go.Bw Go.RowKit
variable {G:Sg}
inductive FN(α:Type) where
 |cO
 |cS (k:Nat) (v:α) (l r:FN α)
def FN.find{α:Type}:FN α->Nat->Option α
 | .cO,_ =>none
 | .cS k v l r,d=>bif Nat.beq k d then some v else bif Nat.blt d k then l.find d else r.find d
def FN.all{α:Type}(p:Nat->α->Bool):FN α->Bool
 | .cO=>true
 | .cS k v l r=>p k v&&(l.all p&&r.all p)
theorem FN.MH{α:Type}{p:Nat->α->Bool}:∀{t:FN α} {d:Nat} {v:α},t.all p=true->t.find d=some v->p d v=true:=by
 intro t
 induction t with
 |cO=>intro d v _ h;cases h
 |cS k v0 l r ZY ZX=>
  intro d v ha h;simp only[FN.all,aa8]at ha;simp only[FN.find]at h;cases h1:Nat.beq k d with
  |true=>rw[h1]at h;cases h;rw[← aa7 h1];exact ha.1
  |false=>
   rw[h1]at h;simp only[cond_false]at h;cases h2:Nat.blt d k with
   |true=>rw[h2]at h;exact ZY ha.2.1 h
   |false=>rw[h2]at h;exact ZX ha.2.2 h
inductive TE where
 |int (k:IntKind)
 |bool
 |one
 |ptr
 |sl (e sz bytes:Nat)
 |iK (n e sz tot:Nat)
 |st (cQ:List (Nat×Option Nat)) (tot:Nat)
def Dt(P:Program)(t j o:Nat)(w:Option Nat):Bool:=BZ P t j o&&match P.underlying t with
 |some (.struct fs)=>match fs[j]? with
  |some fl=>Nat.beq fl.offset o&&(match w with
   |none=>nX P fl.type
   |some n=>zE P fl.type n)
  |none=>false
 |_ =>false
def DY(P:Program)(t:Nat):List (Nat×Option Nat)->Nat->Bool
 |[],_ =>true
 |o::r,j=>Dt P t j o.1 o.2&&DY P t r (j+1)
def wE(P:Program)(t:Nat):TE->Bool
 | .int k=>(match P.underlying t with
  |some (.int l)=>Nat.beq (Ty.bp.ik k) (Ty.bp.ik l)
  |_ =>false)&&nX P t
 | .bool=>(match P.underlying t with
  |some .bool=>true
  |_ =>false)&&nX P t
 | .one=>nX P t
 | .ptr=>nX P t&&Ak P t
 | .sl e sz b=>nX P t&&(Is P t e sz b&&Aj P t e sz)
 | .iK n e sz tot=>B3 P t n e sz&&zE P t tot
 | .st cQ tot=>DY P t cQ 0&&zE P t tot
structure TT(P:Program)(G:Sg) where
 F:Hv G
 te:FN TE
 ok:te.all (wE P)=true
section
variable {P:Program} {tt:TT P G}
theorem TT.get{t:Nat}{e:TE}(h:tt.te.find t=some e):wE P t e=true:=FN.MH tt.ok h
theorem TT.int{t:Nat}{k:IntKind}(h:tt.te.find t=some (.int k)):M6 P t k/\mV P t:=by
 have:=tt.get h;simp only[wE,aa8]at this;refine⟨⟨?_⟩,⟨this.2⟩⟩;have h1:=this.1;split at h1
 ·rename_i l hl;rw[BF h1];exact hl
 ·cases h1
theorem TT.bool{t:Nat}(h:tt.te.find t=some .bool):M7 P t/\mV P t:=by
 have:=tt.get h;simp only[wE,aa8]at this;refine⟨⟨?_⟩,⟨this.2⟩⟩;have h1:=this.1;split at h1
 ·assumption
 ·cases h1
def TE.sz:TE->Option Nat
 | .iK _ _ _ n=>some n
 | .st _ n=>some n
 |_ =>none
theorem TT.one{t:Nat}{e:TE}(h:tt.te.find t=some e)(hs:e.sz=none):mV P t:=by have:=tt.get h;cases e<;>simp only[wE,aa8]at this<;>first|exact⟨this⟩|exact⟨this.1⟩|exact⟨this.2⟩|simp[TE.sz]at hs
theorem TT.agg{t n:Nat}{e:TE}(h:tt.te.find t=some e)(hs:e.sz=some n):p4 P t n:=by have:=tt.get h;cases e<;>simp only[TE.sz,Option.some.injEq]at hs<;>first|(subst hs;simp only[wE,aa8]at this;exact⟨this.2⟩)|cases hs
theorem TT.sl{t e sz b:Nat}(h:tt.te.find t=some (.sl e sz b)):rF P t e sz/\F3 P t e sz b:=by have:=tt.get h;simp only[wE,aa8]at this;exact⟨⟨this.2.2⟩,⟨this.2.1⟩⟩
theorem TT.iK{t n e sz tot:Nat}(h:tt.te.find t=some (.iK n e sz tot)):oI P t n e sz:=by have:=tt.get h;simp only[wE,aa8]at this;exact⟨this.1⟩
theorem Gx:∀{l:List (Nat×Option Nat)} {i j:Nat} {o:Nat×Option Nat} {t:Nat},DY P t l i=true->l[j]? =some o->Dt P t (i+j) o.1 o.2=true:=by
 intro l
 induction l with
 |nil=>intro i j o t _ h;cases h
 |cons x r ih=>
  intro i j o t h hj;simp only[DY,aa8]at h;cases j with
  |zero=>simp at hj;subst hj;exact h.1
  |succ j=>have:=ih h.2 (by simpa using hj);rwa[Nat.add_right_comm,Nat.add_assoc]at this
theorem TT.fs{t n j:Nat}{o:Nat×Option Nat}{cQ:List (Nat×Option Nat)}(h:tt.te.find t=some (.st cQ n))(hj:cQ[j]? =some o):Dt P t j o.1 o.2=true:=by have:=tt.get h;simp only[wE,aa8]at this;have:=Gx this.1 hj;rwa[Nat.zero_add]at this
theorem TT.Ag{t n j:Nat}{o:Nat×Option Nat}{cQ:List (Nat×Option Nat)}(h:tt.te.find t=some (.st cQ n))(hj:cQ[j]? =some o):AN P t j o.1:=by have:=tt.fs h hj;unfold Dt at this;rw[aa8]at this;exact⟨this.1⟩
theorem TT.ptr{t:Nat}(h:tt.te.find t=some .ptr):Ak P t=true:=by have:=tt.get h;simp only[wE,aa8]at this;exact this.2
end
def Cw(k l:IntKind):Bool:=Nat.beq (Ty.bp.ik k) (Ty.bp.ik l)
theorem wD{k l:IntKind}(h:Cw k l=true):k=l:=BF h
abbrev PV(G:Sg):=Option (List Bool×AV G)
def MC(l b:Bool):List Bool:=bif l then(bif b then[]else[b])else[b]
theorem yE{l b:Bool}(h:∀x∈MC l b,x=true):b=true:=by
 unfold MC at h;cases l with
 |false=>exact h b (by simp)
 |true=>cases b with
  |true=>rfl
  |false=>exact h false (by simp)
def K5(o:BinOp)(k:IntKind)(x y:Int)(q:Bool):PV G:=match o with
 | .add=>some ([], .int k (wr k (x+y)))
 | .sub=>some ([], .int k (wr k (x-y)))
 | .mul=>some ([], .int k (wr k (x*y)))
 | .quo=>some (MC q (y !=0), .int k (wr k (Int.tdiv x y)))
 | .rem=>some (MC q (y !=0), .int k (Int.tmod x y))
 | .and=>some ([], .int k (rA k x y))
 | .or=>some ([], .int k (X3 k x y))
 | .xor=>some ([], .int k (NI k x y))
 | .andNot=>some ([], .int k (A6 k x y))
 | .eql=>some ([], .bool (x==y))
 | .neq=>some ([], .bool (x !=y))
 | .lss=>some ([], .bool (decide (x<y)))
 | .leq=>some ([], .bool (decide (x<=y)))
 | .gtr=>some ([], .bool (decide (y<x)))
 | .geq=>some ([], .bool (decide (y<=x)))
 |_ =>none
def LD:AV G->Option Bool
 | .ptr _ _ =>some true
 | .tv=>some false
 |_ =>none
def Pp:AV G->Option Bool
 | .bool b=>some b
 | .kb b=>some b
 |_ =>none
def Lb{P:Program}(tt:TT P G)(o:BinOp)(T:Nat)(a b:AV G):PV G:=match Pp a,Pp b with
 |some x,some y=>match o,tt.te.find T with
  | .eql,some .bool=>some ([], .bool (x==y))
  | .neq,some .bool=>some ([], .bool (x !=y))
  |_,_ =>none
 |_,_ =>match a,b with
 |a, .tv=>match LD a,o,tt.te.find T with
  |some b, .eql,some .ptr=>some ([], .bool (!b))
  |some b, .neq,some .ptr=>some ([], .bool b)
  |_,_,_ =>none
 |_,_ =>none
def XB:AV G->Option (IntKind×Int×Bool)
 | .int k n=>some (k,n,false)
 | .lit k n=>some (k,n,true)
 |_ =>none
def Qa(o:BinOp)(k:IntKind)(x:Int)(l:IntKind)(y:Int)(q:Bool):PV G:=match o with
 | .shl=>some (MC q (decide (0<=y)), .int k (KH k x y))
 | .shr=>some (MC q (decide (0<=y)), .int k (Gk k x y))
 |_ =>bif Cw k l then K5 o k x y q else none
def Lc{P:Program}(tt:TT P G)(o:BinOp)(T:Nat)(a b:AV G):PV G:=match XB a,XB b with
 |some (k,x,_),some (l,y,q)=>Qa o k x l y q
 |_,_ =>Lb tt o T a b
section
variable {P:Program} {J:World->Prop} {ρ:aP} {a:Act} {w:World} {d:Option Tmp} {ty:TypeId} {ps:String} {af:Array Edge} {g:Option (Nat×Bool)}
def VOk(P:Program)(J:World->Prop)(ρ:aP)(a:Act)(w:World)(o:Oper)(v:AV G):Prop:=∃u,(execOp a.eval o).run P w= .ok (.value u) w/\rv J ρ v u
theorem K4{o:BinOp}{T U:Nat}{k:IntKind}{x y:Int}{p q:Operand}{gs:List Bool}{v:AV G}{qq:Bool}(h:K5 o k x y qq=some (gs,v))(hg:∀b∈gs,b=true)(hx:a.eval p= .int k x)(hy:a.eval q= .int k y):
  VOk P J ρ a w ⟨d, .binOp o T p q U,ty,ps,af,g⟩ v:=by
 cases o<;>simp only[K5,reduceCtorEq,Option.some.injEq,Prod.mk.injEq]at h
 case add=>obtain⟨rfl,rfl⟩:=h;exact⟨_,by simp[execOp,hx,hy,eqGuard,binOp,Op.intArith],rfl⟩
 case sub=>obtain⟨rfl,rfl⟩:=h;exact⟨_,by simp[execOp,hx,hy,eqGuard,binOp,Op.intArith],rfl⟩
 case mul=>obtain⟨rfl,rfl⟩:=h;exact⟨_,by simp[execOp,hx,hy,eqGuard,binOp,Op.intArith],rfl⟩
 case quo=>obtain⟨rfl,rfl⟩:=h;have h0:y≠0:=(by simpa using yE hg);exact⟨_,by simp[execOp,hx,hy,eqGuard,binOp,Op.intDiv,h0],rfl⟩
 case rem=>obtain⟨rfl,rfl⟩:=h;have h0:y≠0:=(by simpa using yE hg);exact⟨_,by simp[execOp,hx,hy,eqGuard,binOp,Op.intDiv,h0],rfl⟩
 case and=>obtain⟨rfl,rfl⟩:=h;exact⟨.int k (rA k x y),by simp[execOp,hx,hy,eqGuard,binOp,Op.intBits,rA],rfl⟩
 case or=>obtain⟨rfl,rfl⟩:=h;exact⟨.int k (X3 k x y),by simp[execOp,hx,hy,eqGuard,binOp,Op.intBits,X3],rfl⟩
 case xor=>obtain⟨rfl,rfl⟩:=h;exact⟨.int k (NI k x y),by simp[execOp,hx,hy,eqGuard,binOp,Op.intBits,NI],rfl⟩
 case andNot=>obtain⟨rfl,rfl⟩:=h;exact⟨.int k (A6 k x y),by simp[execOp,hx,hy,eqGuard,binOp,Op.intBits,A6],rfl⟩
 case eql=>obtain⟨rfl,rfl⟩:=h;exact⟨_,by simp[execOp,hx,hy,eqGuard,binOp,Op.intCmp],rfl⟩
 case neq=>obtain⟨rfl,rfl⟩:=h;exact⟨_,by simp[execOp,hx,hy,eqGuard,binOp,Op.intCmp],rfl⟩
 case lss=>obtain⟨rfl,rfl⟩:=h;exact⟨_,by simp[execOp,hx,hy,eqGuard,binOp,Op.intCmp],rfl⟩
 case leq=>obtain⟨rfl,rfl⟩:=h;exact⟨_,by simp[execOp,hx,hy,eqGuard,binOp,Op.intCmp],rfl⟩
 case gtr=>obtain⟨rfl,rfl⟩:=h;exact⟨_,by simp[execOp,hx,hy,eqGuard,binOp,Op.intCmp],rfl⟩
 case geq=>obtain⟨rfl,rfl⟩:=h;exact⟨_,by simp[execOp,hx,hy,eqGuard,binOp,Op.intCmp],rfl⟩
theorem C9{b:Bool}{u:Value}(h:rv (G:=G) J ρ (.kb b) u):u= .bool b:=by have h:[u]=_ :=h;cases h;rfl
theorem xk{v:AV G}{b:Bool}{u:Value}(h:Pp v=some b)(hv:rv J ρ v u):u= .bool b:=by unfold Pp at h;split at h<;>cases h<;>(have hv:[u]=_ :=hv;cases hv;rfl)
theorem vA{b:Bool}{u:Value}(h:rv (G:=G) J ρ (.bool b) u):u= .bool b:=by have h:[u]=_ :=h;cases h;rfl
theorem Fb{v:AV G}{b:Bool}{u:Value}(h:LD v=some b)(hv:rv J ρ v u):(b=true->∃x y,u= .pointer (some ⟨x,y,none⟩))/\(b=false->u= .pointer none):=by
 unfold LD at h;split at h
 ·cases h;obtain⟨⟨x,y,_,e⟩,_⟩:=hv;cases e;exact⟨λ_ =>⟨_,_,rfl⟩,nofun⟩
 ·cases h;have e:[u]=_ :=hv;cases e;exact⟨nofun,λ_ =>rfl⟩
 ·cases h
def kN(a:Act):cE:=(List.range a.tmps.size).map λd=>(d,a.tmps.getD d undef)
theorem Aa{t:Array Value}:∀{l:List Nat} {d:Nat},lk (l.map λd=>(d,t.getD d undef)) d=if d∈l then some (t.getD d undef)else none:=by
 intro l
 induction l with
 |nil=>intro d;simp[lk]
 |cons x r ih=>
  intro d;simp only[List.map_cons,lk];by_cases e:x=d
  ·subst e;simp
  ·rw[pP e,cond_false,ih]
   simp[Ne.symm e]
theorem A3(a:Act):tI (kN a) a.tmps:=λd v h=>by
 unfold kN at h;rw[Aa]at h;split at h
 ·rename_i hm
  have hd:d<a.tmps.size:=by simpa using hm
  have h:=Option.some.inj h;rw[← h];simp[hd]
 ·cases h
theorem Ij{a:Act}{x:Operand}(h:∀t,x= .tmp t->t<a.tmps.size)(hg:∀g,x≠ .global g):Bw.ev (kN a) x=some (a.eval x):=by
 cases x with
 |tmp t=>have:=h t rfl;show lk (kN a) t=_;unfold kN;rw[Aa,aa5 (by simpa using this)];rfl
 |const v=>rfl
 |global g=>exact absurd rfl (hg g)
 |func f=>rfl
def VK(P:Program)(c:Cx)(o:Oper)(a:Act)(w:World)(u:Value):Prop:=∀next Q,(∀w',aJ [] w w'->next (a.put o.dst u) w')->o.wpIn (FA c.ro) 0 P a w next Q
theorem VK.run{c:Cx}{o:Oper}{u:Value}(hd:∀cc,o.op≠ .defer cc)(h:(execOp a.eval o).run P w= .ok (.value u) w):VK P c o a w u:=λ_ _ hk=>cq hd h (hk w (aJ.refl _ _))
theorem _root_.Go.Bw.VS.vk{N:Nat}{c:Cx}{D:List Deferred}{o:Oper}{F:cE}{H:List av}{u:Value}(h:VS P N c o F H u)(hst:St N c D F H a w):VK P c o a w u:=λnext Q hk=>h D a w next Q hst hk
structure v9(J:World->Prop)(ρ:aP)(a:Act)(E:Operand->Option (AV G)):Prop where
 ok:∀x v,E x=some v->rv J ρ v (a.eval x)
 ev:∀x v,E x=some v->Bw.ev (kN a) x=some (a.eval x)
def G1(E:Operand->Option (AV G)):List Operand->Option (AV G)
 |[]=>some .nil
 |x::r=>match E x,G1 E r with
  |some v,some l=>some (.cons v l)
  |_,_ =>none
theorem se{E:Operand->Option (AV G)}(h:v9 J ρ a E):∀{l:List Operand} {v:AV G},G1 E l=some v->rl J ρ v (l.map a.eval)/\Ai (kN a) l=some (l.map a.eval):=by
 intro l
 induction l with
 |nil=>intro v e;cases e;exact⟨rfl,rfl⟩
 |cons x r ih=>
  intro v e;simp only[G1]at e;split at e
  ·rename_i u k h1 h2
   cases e;obtain⟨i1,i2⟩:=ih h2;refine⟨⟨_,_,rfl,h.ok _ _ h1,i1⟩,?_⟩;simp only[Ai,h.ev _ _ h1,i2,List.map_cons]
  ·cases e
def Je:AV G->Nat->Option (AV G)
 | .cons a b,i=>match i with
  |0=>some a
  |i+1=>Je b i
 |_,_ =>none
theorem DZ:∀{v:AV G} {i:Nat} {x:AV G} {l:List Value},Je v i=some x->rl J ρ v l->∃u,l[i]? =some u/\rv J ρ x u:=by
 intro v
 induction v with
 |cons a b _ nW=>
  intro i x l h hr;obtain⟨u,r,rfl,h1,h2⟩:=hr;cases i with
  |zero=>cases h;exact⟨u,rfl,h1⟩
  |succ i=>obtain⟨u',k1,k2⟩:=nW (i:=i) h h2;exact⟨u',by simpa using k1,k2⟩
 |_ =>intro i x l h;cases i<;>cases h
def iZ(v:Option (AV G)):Option (IntKind×Int×Bool):=match v with
 |some v=>XB v
 |none=>none
def Rt{P:Program}(tt:TT P G)(ob:Nat->Option (Ob G))(T:Nat)(v:AV G)(i:Int)(q:Bool):PV G:=match v,tt.te.find T with
 | .ptr r p,some (.iK n _ sz _)=>some (MC q (cB i n), .ptr r (p++[.idx n sz i]))
 | .ND e xs p,some (.iK n _ sz _)=>some (MC q (cB i n), .ND e xs (p++[.idx n sz i]))
 | .row r,some (.sl _ sz _)=>match ob r with
  |some (.row _ sz' _ xs)=>bif Nat.beq sz sz' then some ([cB i xs.length], .ptr r [.idx xs.length sz i])else none
  |_ =>none
 | .dat (.sl e) xs,some (.sl _ sz _)=>bif Nat.beq sz (e.L G).n then some ([cB i (xs:List (e.T G)).length], .ND e xs [.idx (xs:List (e.T G)).length sz i])else none
 |_,_ =>none
def LY:List oJ->Nat->Bool
 | .idx _ sz _ ::_,n=>Nat.beq sz n
 |_,_ =>false
def Rs{P:Program}(tt:TT P G)(ob:Nat->Option (Ob G)):AV G->Option (AV G)
 | .ptr r p=>match ob r with
  |some (.bK _ c)=>Dl tt.F c p
  |some (.row _ sz t xs)=>bif LY p sz then(match Bs tt.F t p with
   |some q=>some (mk q.m (q.get (xs.getD q.i.toNat default)))
   |none=>none)else none
  |_ =>none
 | .ND e xs p=>match Bs tt.F e p with
  |some q=>some (mk q.m (q.get (xs.getD q.i.toNat default)))
  |none=>none
 |_ =>none
def AV.cw:AV G->Option Nat
 | .dat t _ =>bif t.ag then some (t.L G).n else none
 | .st a=>parts a
 |_ =>none
def ry{P:Program}(tt:TT P G)(T:Nat)(v:AV G):Bool:=match tt.te.find T with
 |some e=>match e.sz with
  |none=>v.one
  |some n=>match v.cw with
   |some m=>Nat.beq n m&& !Nat.beq n 0
   |none=>false
 |none=>false
def Fo(o:Option Nat)(y:AV G):Bool:=match o with
 |none=>y.one
 |some n=>match y.cw with
  |some m=>Nat.beq n m
  |none=>false
def pv{P:Program}(tt:TT P G)(ob:Nat->Option (Ob G))(E:Operand->Option (AV G)):Op->PV G
 | .move x=>match E x with
  |some v=>some ([],v)
  |none=>none
 | .assign x=>match E x with
  |some v=>some ([],v)
  |none=>none
 | .binOp o T x y _ =>match E x,E y with
  |some a,some b=>Lc tt o T a b
  |_,_ =>none
 | .unOp .not _ x=>match E x with
  |some (.bool b)=>some ([], .bool (!b))
  |some (.kb b)=>some ([], .kb (!b))
  |_ =>none
 | .unOp .neg _ x=>match iZ (E x)with
  |some (k,n,_)=>some ([], .int k (wr k (0-n)))
  |none=>none
 | .convert S T x=>match iZ (E x),tt.te.find S,tt.te.find T with
  |some (k,n,_),some (.int l),some (.int k')=>bif Cw k l then some ([], .int k' (wr k' n))else none
  |_,_,_ =>none
 | .nilCheck x=>match E x with
  |some (.ptr r p)=>some ([], .ptr r p)
  |some (.fn (.func f) a c)=>some ([], .fn (.func f) a c)
  |_ =>none
 | .fieldAddr s x j=>match tt.te.find s with
  |some (.st cQ _)=>match cQ[j]? with
   |some o=>match E x with
    |some (.ptr r p)=>some ([], .ptr r (p++[.Ag j o.1]))
    |some (.ND e xs p)=>some ([], .ND e xs (p++[.Ag j o.1]))
    |_ =>none
   |none=>none
  |_ =>none
 | .field T x j=>match tt.te.find T with
  |some (.st cQ _)=>match cQ[j]? with
   |some o=>match E x with
    |some v=>match Dl tt.F v [.Ag j o.1]with
     |some y=>bif Fo o.2 y then some ([],y)else none
     |none=>none
    |none=>none
   |none=>none
  |_ =>none
 | .indexAddr T x i=>match E x,iZ (E i)with
  |some v,some (_,i,q)=>Rt tt ob T v i q
  |_,_ =>none
 | .index T x i=>match E x,iZ (E i),tt.te.find T with
  |some (.dat (.iK n e) f),some (_,i,q),some (.iK m te sz _)=>bif Nat.beq n m&&(Nat.beq sz (e.L G).n&&ry tt te (mk e (f i.toNat)))then some (MC q (cB i n),mk e (f i.toNat))else none
  |some (.st a),some (_,i,q),some (.iK m te sz _)=>match partAt a (i.toNat*sz)with
   |some (w,y)=>bif Nat.beq w sz&&ry tt te y then some (MC q (cB i m),y)else none
   |none=>none
  |_,_,_ =>none
 | .load T x=>match E x with
  |some v=>match Rs tt ob v with
   |some y=>bif ry tt T y then some ([],y)else none
   |none=>none
  |none=>none
 | .extract x i=>match E x with
  |some (.iy l)=>match Je l i with
   |some v=>some ([],v)
   |none=>none
  |_ =>none
 | .makeFunc fn first cap=>match G1 E first.toList,G1 E cap.toList with
  |some a,some c=>some ([], .fn fn a c)
  |_,_ =>none
 | .makeInterface T x=>match E x,tt.te.find T with
  |some v,some (.int _)=>some ([], .fW T v)
  |_,_ =>none
 | .call ⟨.builtin .len,args,Cv⟩=>match args.toList,Cv.toList with
  |[x],[T]=>match E x,tt.te.find T with
   |some (.row r),some (.sl _ _ _)=>match ob r with
    |some (.row _ _ _ xs)=>some ([], .int .i64 (xs.length:Int))
    |_ =>none
   |some (.dat (.sl e) xs),some (.sl _ _ _)=>some ([], .int .i64 ((xs:List (e.T G)).length:Int))
   |some .gW,some (.sl _ _ _)=>some ([], .int .i64 0)
   |_,_ =>none
  |_,_ =>none
 | .call ⟨.builtin .min,args,_⟩=>match args.toList with
  |[x,y]=>match iZ (E x),iZ (E y)with
   |some (k,a,_),some (l,b,_)=>bif Cw k l then some ([], .int k (if b<a then b else a))else none
   |_,_ =>none
  |_ =>none
 | .call ⟨.builtin .max,args,_⟩=>match args.toList with
  |[x,y]=>match iZ (E x),iZ (E y)with
   |some (k,a,_),some (l,b,_)=>bif Cw k l then some ([], .int k (if a<b then b else a))else none
   |_,_ =>none
  |_ =>none
 |_ =>none
end
end Go.Rw
