/- Part 3 of what a proof leans on; pruned and shortened by a program out of longer texts. -/
import Derived.Test.YtgdmofhmmhcmjaaGreatDoorQ2
namespace Go.Bw
open Go Go.RowKit Go.ChangeShapes Go.WideShapes Go.Deep
theorem Below.Ue{w w':World}(h:aO [] w w'):Below w.heap.size w w':=⟨h.os,h.tape,h.output,h.size,λk hk=>h.block k hk (by simp)⟩
theorem ZC{w:World}{a:Addr}{v:Value}(h:w.cell? a=some v):a.block<w.heap.size:=by
 rcases Nat.lt_or_ge a.block w.heap.size with h1|h1
 ·exact h1
 ·have:w.heap[a.block]? =none:=Array.getElem?_eq_none h1
  simp[World.cell?,this]at h
section
variable {H:Type} {enc:TypeId×Value->H} {P:Program} {w:World} {base:Nat} {spare:Nat->Bool} {held:Bool}
theorem Nn{t fuel:Nat}{fs:Array Field}{cs:List Value}{x:DataW H×List MemPlace}(ht:P.underlying t=some (.struct fs))(h:DataW.trod enc P w base spare held fuel t cs=some x):
  cs.length=P.cellsOf t/\∀(i:Nat) (f:Field),fs[i]? =some f->∃n y,DataW.trod enc P w base spare held n f.type ((cs.drop f.offset).take (P.cellsOf f.type))=some y:=by
 obtain⟨ys,n,_,_,hl,hy,hf⟩:=DataW.trod_struct ht h;refine⟨hl,λi f hi=>?_⟩;have hlt:i<ys.length:=by rw[hy];exact(aiU.1 hi).1
 exact⟨n,ys[i],(hf i f hi).trans (aiV hlt)⟩
theorem Yk{α:Type}[Inhabited α]{t e sz fuel len cap:Nat}{a:Option Addr}{x:DataW H×List MemPlace}(E:α->List Value)(R:α->Prop)(ht:P.underlying t=some (.slice e))(hC:P.cellsOf e=sz)(h0:0<sz)
  (hE:∀z,(E z).length=sz)(hQ:∀(n:Nat) (cs:List Value) y,DataW.trod enc P w base spare held n e cs=some y->∃z,cs=E z/\R z)(h:DataW.trod enc P w base spare held fuel t [.slice a len cap]=some x):
  ∃g:Nat->α,Ro w (.slice a len cap) sz len (flat (λi=>E (g i)) len)/\(∀i,i<len->R (g i))/\len<=maxLen:=by
 rcases open_slice ht h with⟨hcs,_⟩|⟨a',len',cap',m,n,D,Pl,hcs,_,hl,hm,KL,_,hi⟩
 ·simp at hcs
  obtain⟨rfl,rfl,rfl⟩:=hcs;exact⟨λ_ =>default,⟨by simp[flat], .inl ⟨⟨_,_,rfl⟩,rfl⟩⟩,λi hi=>by omega,Nat.zero_le _⟩
 ·simp at hcs
  obtain⟨rfl,rfl,rfl⟩:=hcs;have hlm:len<=m:=by rw[KL];split<;>omega
  have hex:∀i,i<len->∃z,R z/\∀j,j<sz->w.cell? (a'.add (i*sz+j))=(E z)[j]? :=λi xK=>by obtain⟨cs',hc,ht'⟩:=hi i (by omega);obtain⟨z,rfl,hz⟩:=hQ _ _ _ ht';rw[hC]at hc;obtain⟨_,_,hat⟩:=World.cells?_some hc;refine⟨z,hz,λj hj=>?_⟩;rw[← hat j hj, ← Go.Deep.add_add]
  let g:Nat->α:=λi=>if hh:i<len then Classical.choose (hex i hh)else default
  have hg:∀i,i<len->R (g i)/\∀j,j<sz->w.cell? (a'.add (i*sz+j))=(E (g i))[j]? :=λi xK=>by have:=Classical.choose_spec (hex i xK);simp only[g,xK,dif_pos];exact this
  refine⟨g,⟨fM λi _ =>hE _,?_⟩,λi xK=>(hg i xK).1,by omega⟩;have hcells:∀(j:Nat) u,(flat (λi=>E (g i)) len)[j]? =some u->w.cell? (a'.add j)=some u:=λj u hu=>by
   have hlen:(flat (λi=>E (g i)) len).length=len*sz:=fM λi _ =>hE _;have hj:j<len*sz:=by rw[← hlen];exact(List.getElem?_eq_some_iff.1 hu).1
   have hd:j=(j/sz)*sz+j%sz:=by rw[Nat.mul_comm];exact(Nat.div_add_mod j sz).symm
   have hq:j/sz<len:=(Nat.div_lt_iff_lt_mul h0).2 hj;have hr:j%sz<sz:=Nat.mod_lt _ h0;rw[hd,qD (g:=λi=>E (g i)) (λi _ =>hE _) hq hr]at hu;rw[hd,(hg _ hq).2 _ hr,hu]
  rcases Nat.eq_zero_or_pos len with e0|e0
  ·subst e0;exact .inl ⟨⟨_,_,rfl⟩,rfl⟩
  ·obtain⟨b,off,spot⟩:=a'
   have hz:(flat (λi=>E (g i)) len)[0]? =some ((flat (λi=>E (g i)) len)[0]'(by rw[fM (k:=sz) (λi _ =>hE _)];exact Nat.mul_pos e0 h0)):=aiV _;have h1:=hcells 0 _ hz;have afz:spot=none:=by simpa[Addr.add]using World.cell?_spot h1
   subst afz;refine .inr ⟨b,off,cap,rfl,?_,by omega,λj u hu=>?_⟩
   ·simpa[Addr.add]using ZC h1
   ·have:=hcells j u hu
    rwa[Addr.add_lit]at this
end
end Go.Bw
namespace Go.Bw
open Go Go.RowKit Go.ChangeShapes Go.WideShapes Go.Deep
def Opn{α:Type}(P:Program)(W:World)(t:TypeId)(L:cP α)(R:α->Prop):Prop:=∀(H:Type) (enc:TypeId×Value->H) (base:Nat) (spare:Nat->Bool) (held:Bool) (n:Nat) (cs:List Value) (y:DataW H×List MemPlace),DataW.trod enc P W base spare held n t cs=some y->∃z,L.eI (λw=>aO [] W w) cs z/\R z
section
variable {P:Program} {W:World} {t e:TypeId} {α β:Type}
theorem aag(hu:P.underlying t=some (.int .i64)):Opn P W t (LI .i64) (λz=> -9223372036854775808<=z/\z<=9223372036854775807):=λ_ _ _ _ _ _ _ _ h=>by obtain⟨a,e,_,b⟩:=DataW.trod_int hu h;exact⟨a,e,bounds_i64 b⟩
theorem adI(hu:P.underlying t=some (.int .u8)):Opn P W t (LI .u8) (λz=>0<=z/\z<=255):=λ_ _ _ _ _ _ _ _ h=>by obtain⟨a,e,_,b⟩:=DataW.trod_int hu h;exact⟨a,e,bounds_u8 b⟩
theorem aaf(hu:P.underlying t=some (.int .u64)):Opn P W t (LI .u64) (λz=>0<=z/\z<=18446744073709551615):=λ_ _ _ _ _ _ _ _ h=>by obtain⟨a,e,_,b⟩:=DataW.trod_int hu h;exact⟨a,e,bounds_u64 b⟩
theorem adJ[Inhabited α]{L:cP α}[bg L]{R:α->Prop}{sz:Nat}(hu:P.underlying t=some (.slice e))(hc:P.cellsOf e=sz)(hn:L.n=sz)(h0:0<sz)(h:Opn P W e L R):Opn P W t (LSl L) (λz=>∀x∈z,R x):=by
 intro H enc base spare held n cs y hy;have hcs:∃a len cap,cs=[.slice a len cap]:=by
  rcases open_slice hu hy with⟨hcs,_⟩|⟨a',len',cap',m,n,D,Pl,hcs,_⟩
  ·exact⟨_,_,_,hcs⟩
  ·exact⟨_,_,_,hcs⟩
 obtain⟨a,len,cap,rfl⟩:=hcs;obtain⟨g,w,q,_⟩:=Yk (α:=α) (sz:=sz) L.enc R hu hc h0 (λz=>(gX L z).trans hn) (λn cs y hy=>by
  obtain⟨z,hz,hr⟩:=h H enc base spare held n cs y hy;exact⟨z,bg.iff.1 hz,hr⟩) hy
 refine⟨_,⟨_,rfl,Fz.aeY (L:=L) hn.symm ⟨_,_,rfl⟩ w⟩,λx hx=>?_⟩;obtain⟨i,hi,rfl⟩:=List.mem_map.1 hx;exact q i (List.mem_range.1 hi)
theorem Qx{A:cP α}{B:cP β}{J:World->Prop}{cs:List Value}{o na:Nat}{x:α}{y:β}(hn:A.n=na)(h1:A.eI J ((cs.drop o).take na) x)(h2:B.eI J (cs.drop (o+na)) y):(LP A B).eI J (cs.drop o) (x,y):=
 ⟨_,_,(List.take_append_drop na _).symm,h1,by rw[List.drop_drop];exact h2⟩
theorem adN{A:cP α}{J:World->Prop}{cs:List Value}{o na:Nat}{x:α}(hl:cs.length=o+na)(h1:A.eI J ((cs.drop o).take na) x):A.eI J (cs.drop o) x:=by rwa[List.take_of_length_le (by rw[List.length_drop];omega)]at h1
theorem aeB{L:cP α}[bg L]{A:World->Prop}{a:Option Addr}{len cap:Nat}{z:List α}(h:(LSl L).eI A (Value.slice a len cap).cells.toList z):Fz A (.slice a len cap) L z:=by obtain⟨v,e,f⟩:=h;have e:[Value.slice a len cap]=[v]:=e;cases e;exact f
end
end Go.Bw
namespace Go.Bw
open Go Go.RowKit Go.ChangeShapes Go.WideShapes Go.Deep
section
variable {α β:Type}
structure BF[Inhabited α](A:World->Prop)(v:Value)(L:cP α)(ws:List Value)(xs:List α):Prop where
 sl:su v xs.length
 eI:(LA L xs.length).eI A ws (λi=>xs.getD i default)
 ro:∀w,A w->Ro w v L.n xs.length ws
theorem BF.mono[Inhabited α]{A B:World->Prop}{v:Value}{L:cP α}{ws:List Value}{xs:List α}(h:BF A v L ws xs)(m:∀w,B w->A w):BF B v L ws xs:=⟨h.sl,cP.mono _ m h.eI,λw hw=>h.ro w (m w hw)⟩
theorem BF.at [Inhabited α]{c:Cx}{H:List aE}{A:World->Prop}{v:Value}{L:cP α}{ws:List Value}{xs:List α}(h:BF A v L ws xs)[k:Kn c H A]:pA c H v L.n xs.length ws:=⟨λw h1 h2=>h.ro w (k.ok w h1 h2)⟩
theorem BF.nil[Inhabited α]{A:World->Prop}{L:cP α}:BF A (.slice none 0 0) L [] ([]:List α):=⟨⟨_,_,rfl⟩,⟨λ_ =>[],rfl,λi hi=>absurd hi (Nat.not_lt_zero _)⟩,λ_ _ =>⟨by simp, .inl ⟨⟨_,_,rfl⟩,rfl⟩⟩⟩
def WU[Inhabited α](L:cP α):cP (List α) where
 n:=1
 eI A cs xs:=∃v ws,cs=[v]/\BF A v L ws xs
 len:=λ⟨v,ws,h,_⟩=>by subst h;rfl
 one:=λ⟨v,ws,h,hf⟩=>by subst h;intro u hu;rw[List.mem_singleton.1 hu];exact hf.sl.one
 mono m:=λ⟨v,ws,h,hf⟩=>⟨v,ws,h,hf.mono m⟩
end
section rules
variable {P:Program} {N:Nat} {c:Cx} {D:List Deferred} {Q:Exit->Act->World->Prop} {F:eu} {H:List aE} {d:Option Tmp} {ty:TypeId} {ps:String} {af:Array Edge} {g:Option (Nat×Bool)} {α β γ:Type}
 {A:World->Prop} {v:Value} {L:cP α} [Inhabited α] {ws:List Value} {xs:List α}
theorem Qq{x:Operand}{t e q:Nat}[ht:se P t e q](hf:BF A v L ws xs)(hx:ev F x=some v)[Kn c H A]:VS P N c ⟨d, .call ⟨.builtin .len, #[x], #[t]⟩,ty,ps,af,g⟩ F H (.int .i64 (xs.length:Int)):=by haveI:=hf.at (c:=c) (H:=H);exact OG hx
theorem adw{x y:Operand}{t e sz m:Nat}{k:IntKind}{i:Int}[ht:se P t e sz](hf:BF A v L ws xs)(hs:L.n=sz)(hx:ev F x=some v)(hy:ev F y=some (.int k i))[Kn c H A](hi:i=(m:Int))(hm:m<xs.length):
  VS P N c ⟨d, .indexAddr t x y,ty,ps,af,g⟩ F H (fX v (m*sz)):=by
 haveI:=hf.at (c:=c) (H:=H);subst hs;exact wV hx hy hi hm
theorem Z3{x:Operand}{s f fo k m:Nat}[Ff P s f fo](hf:BF A v L ws xs)(hx:ev F x=some (fX v k))[Kn c H A](hm:m<xs.length):VS P N c ⟨d, .fieldAddr s x f,ty,ps,af,g⟩ F H (fX v (k+fo)):=by haveI:=hf.at (c:=c) (H:=H);exact Ld hx hm
theorem Z2{x y:Operand}{t len e sz k0 m q:Nat}{k:IntKind}{i:Int}[h:so P t len e sz](hf:BF A v L ws xs)(hx:ev F x=some (fX v k0))(hy:ev F y=some (.int k i))[Kn c H A](hq:q<xs.length)(hi:i=(m:Int))(hm:m<len):
  VS P N c ⟨d, .indexAddr t x y,ty,ps,af,g⟩ F H (fX v (k0+m*sz)):=
 aG (by simp) λa w UX hs hp=>by haveI:=hf.at (c:=c) (H:=H);obtain⟨gb,off,cap,rfl,_,_,_⟩:=((hf.at (c:=c) (H:=H)).ro w hs hp).at hq;obtain⟨inf,h1,h2,h3⟩:=so.get h.ok;subst hi;simp[execOp,aI UX hx,aI UX hy,fX,Instr.indexAt,asIntOf,run_underlying h1,Instr.sureAddr,sizeOf,typeInfo,h2,h3,Addr.add_lit,Nat.add_assoc];intro hle;exact absurd (hm) (by omega)
end rules
end Go.Bw
namespace Go.Rw
open Go Go.Bw
inductive Ty where
 |int (k:IntKind)
 |bool
 |st (i:Nat)
 |lK (n:Nat) (e:Ty)
 |sl (e:Ty)
def Ty.bU:Ty->Ty->Bool
 | .int k, .int l=>Nat.beq (ik k) (ik l)
 | .bool, .bool=>true
 | .st i, .st j=>Nat.beq i j
 | .lK n e, .lK m f=>Nat.beq n m&&e.bU f
 | .sl e, .sl f=>e.bU f
 |_,_ =>false
where ik:IntKind->Nat
 | .i8=>0| .i16=>1| .i32=>2| .i64=>3| .u8=>4| .u16=>5| .u32=>6| .u64=>7
theorem GM{k l:IntKind}(h:Nat.beq (Ty.bU.ik k) (Ty.bU.ik l)=true):k=l:=by cases k<;>cases l<;>first|rfl|(exact absurd h (by decide))
theorem Ty.uP:∀{t u:Ty},t.bU u=true->t=u:=by
 intro t
 induction t with
 |int k=>intro u h;cases u<;>simp only[Ty.bU,Bool.false_eq_true]at h;rw[GM h]
 |bool=>intro u h;cases u<;>simp only[Ty.bU,Bool.false_eq_true]at h;rfl
 |st i=>intro u h;cases u<;>simp only[Ty.bU,Bool.false_eq_true]at h;rw[aiO h]
 |lK n e ih=>intro u h;cases u<;>simp only[Ty.bU,Bool.false_eq_true,aiP]at h;rw[aiO h.1,ih h.2]
 |sl e ih=>intro u h;cases u<;>simp only[Ty.bU,Bool.false_eq_true]at h;rw[ih h]
structure Sg where
 S:Nat->Type
 z:∀i,S i
 L:∀i,cP (S i)
 gt:Option (IntKind×List (Int×Nat))
def Ty.T(G:Sg):Ty->Type
 | .int _ =>Int
 | .bool=>Bool
 | .st i=>G.S i
 | .lK _ e=>Nat->e.T G
 | .sl e=>List (e.T G)
def Ty.z(G:Sg):(t:Ty)->t.T G
 | .int _ =>(0:Int)
 | .bool=>false
 | .st i=>G.z i
 | .lK _ e=>λ_ =>e.z G
 | .sl _ =>[]
instance(G:Sg)(t:Ty):Inhabited (t.T G):=⟨t.z G⟩
def Ty.L(G:Sg):(t:Ty)->cP (t.T G)
 | .int k=>LI k
 | .bool=>LB
 | .st i=>G.L i
 | .lK n e=>LA (e.L G) n
 | .sl e=>WU (α:=e.T G) (e.L G)
def Ty.ag:Ty->Bool
 | .st _ =>true
 | .lK _ _ =>true
 |_ =>false
structure Fd(G:Sg)(i:Nat) where
 ty:Ty
 off:Nat
 get:G.S i->ty.T G
 set:G.S i->ty.T G->G.S i
 ok:aX (G.L i) (ty.L G) off get set
inductive sq where
 |C6 (j o:Nat)
 |idx (n sz:Nat) (i:Int)
def sq.off:sq->Nat
 | .C6 _ o=>o
 | .idx _ sz i=>i.toNat*sz
def eJ:List sq->Nat
 |[]=>0
 |s::r=>s.off+eJ r
theorem LY(p q:List sq):eJ (p++q)=eJ p+eJ q:=by
 induction p with
 |nil=>simp[eJ]
 |cons s p ih=>simp only[List.cons_append,eJ,ih];omega
def sq.ok:sq->Prop
 | .C6 _ _ =>True
 | .idx n _ i=>dg i n=true
inductive AV(G:Sg) where
 |OX
 |unk (n:Nat)
 |int (k:IntKind) (n:Int)
 |lit (k:IntKind) (n:Int)
 |bool (b:Bool)
 |kb (b:Bool)
 |str (s:ByteArray)
 |dat (t:Ty) (x:t.T G)
 |ptr (r:Nat) (p:List sq)
 |ou
 |row (r:Nat)
 |Dz (r:Nat) (p:List sq) (n sz:Nat) (up:Bool) (i:Int)
 |jD
 |mp (r:Nat)
 |Ck
 |yl (r:Nat)
 |fn (f:Fn) (a c:AV G)
 |ow
 |st (a:AV G)
 |jy (a:AV G)
 |jS (t:Nat) (v:AV G)
 |EX
 |Xl (e:Ty) (xs:List (e.T G)) (p:List sq)
 |gd (j:Nat) (w:Bool) (v:AV G)
 |nil
 |cons (a b:AV G)
 |part (w:Nat) (a b:AV G)
variable {G:Sg}
def mk:(t:Ty)->t.T G->AV G
 | .int k,x=> .int k x
 | .bool,x=> .bool x
 |t,x=> .dat t x
abbrev aY:=Nat->Option Value
def aY.le(ρ ρ':aY):Prop:=∀r v,ρ r=some v->ρ' r=some v
theorem aY.le_refl(ρ:aY):ρ.le ρ:=λ_ _ h=>h
theorem aY.le_trans{a b c:aY}(h:a.le b)(k:b.le c):a.le c:=λr v e=>k r v (h r v e)
def wz(J:World->Prop)(t:Ty)(x:t.T G)(u:Value):Prop:=(t.L G).eI J u.cells.toList x/\(t.ag=true->∃cs:List Value,u= .agg cs.toArray)/\(t.ag=false->u.cells= #[u])
def PB(ρ:aY)(r:Nat)(p:List sq)(b o:Nat):Prop:=ρ r=some (.pointer (some ⟨b,o,none⟩))\/∃n cap n' sz i q,ρ r=some (.slice (some ⟨b,o,none⟩) n cap)/\p= .idx n' sz i::q/\i.toNat<n
theorem PB.app{ρ:aY}{r:Nat}{p q:List sq}{b o:Nat}(h:PB ρ r p b o):PB ρ r (p++q) b o:=by
 rcases h with h|⟨n,cap,n',sz,i,q',h1,rfl,h3⟩
 ·exact .inl h
 ·exact .inr ⟨n,cap,n',sz,i,q'++q,h1,rfl,h3⟩
theorem PB.ext{ρ ρ':aY}(m:ρ.le ρ'){r:Nat}{p:List sq}{b o:Nat}(h:PB ρ r p b o):PB ρ' r p b o:=by
 rcases h with h|⟨n,cap,n',sz,i,q',h1,h2⟩
 ·exact .inl (m _ _ h)
 ·exact .inr ⟨n,cap,n',sz,i,q',m _ _ h1,h2⟩
def QY(b off n sz:Nat)(up:Bool)(i:Nat):Value:= .slice (some ⟨b,bif up&& !Nat.beq n i then off+i*sz else off,none⟩) (bif up then n-i else i) (bif up then n-i else n)
theorem Km{b off n sz i:Nat}:QY b off n sz true i=Xa b off i n sz:=by
 unfold QY Xa;by_cases h:n=i
 ·subst h;simp
 ·have hb:Nat.beq n i=false:=by
   cases hq:Nat.beq n i with
   |true=>exact absurd (aiO hq) h
   |false=>rfl
  simp[h,hb]
theorem Ca{b off n sz i:Nat}:QY b off n sz false i= .slice (some ⟨b,off,none⟩) i n:=rfl
def rl(J:World->Prop)(ρ:aY):AV G->List Value->Prop
 | .OX,l=>∃u,l=[u]
 | .unk n,l=>∃u:Value,l=[u]/\u.cells.size=n
 | .int k n,l=>l=[.int k n]
 | .lit k n,l=>l=[.int k n]
 | .bool b,l=>l=[.bool b]
 | .kb b,l=>l=[.bool b]
 | .str s,l=>l=[.string s]
 | .dat t x,l=>∃u,l=[u]/\wz J t x u
 | .ptr r p,l=>(∃b o,PB ρ r p b o/\l=[.pointer (some ⟨b,o+eJ p,none⟩)])/\∀s∈p,s.ok
 | .ou,l=>l=[.pointer none]
 | .row r,l=>∃a n cap,ρ r=some (.slice a n cap)/\l=[.slice a n cap]
 | .Dz r p n sz up i,l=>(∃b o,PB ρ r p b o/\l=[QY b (o+eJ p) n sz up i.toNat])/\(∀s∈p,s.ok)/\i.toNat<=n
 | .jD,l=>l=[.slice none 0 0]
 | .mp r,l=>∃u,ρ r=some u/\l=[u]/\u.cells= #[u]/\u.oneCell'=true
 | .Ck,l=>l=[.map none]
 | .yl r,l=>∃n,ρ r=some (.pointer (some ⟨n,0,none⟩))/\l=[.func (.yield n) #[] #[]]
 | .fn f a c,l=>∃fs cs:List Value,l=[.func f fs.toArray cs.toArray]/\rl J ρ a fs/\rl J ρ c cs
 | .ow,l=>l=[.nilFunc]
 | .st a,l=>∃cs:List Value,l=[.agg cs.toArray]/\rl J ρ a cs/\oy cs
 | .jy a,l=>∃vs:List Value,l=[.tuple vs.toArray]/\rl J ρ a vs
 | .jS t v,l=>∃u,l=[.iface t u]/\rl J ρ v [u]
 | .EX,l=>l=[.nilIface]
 | .Xl e xs p,l=>∃v ws,BF J v (e.L G) ws xs/\l=[fX v (eJ p)]/\(∀s∈p,s.ok)/\∃n sz i q,p= .idx n sz i::q/\n=xs.length/\sz=(e.L G).n
 | .gd _ _ _,_ =>False
 | .nil,l=>l=[]
 | .cons a b,l=>∃u r,l=u::r/\rl J ρ a [u]/\rl J ρ b r
 | .part w a b,l=>∃c1 c2 u,l=c1++c2/\c1.length=w/\rl J ρ a [u]/\u.cells.toList=c1/\rl J ρ b c2
abbrev rv(J:World->Prop)(ρ:aY)(v:AV G)(u:Value):Prop:=rl J ρ v [u]
theorem wz.mono{J J':World->Prop}(m:∀w,J' w->J w){t:Ty}{x:t.T G}{u:Value}(h:wz J t x u):wz J' t x u:=⟨(t.L G).mono m h.1,h.2⟩
theorem rl.mono{J J':World->Prop}{ρ:aY}(m:∀w,J' w->J w):∀{v:AV G} {l:List Value},rl J ρ v l->rl J' ρ v l:=by
 intro v
 induction v with
 |dat t x=>intro l h;obtain⟨u,e,h⟩:=h;exact⟨u,e,h.mono m⟩
 |fn f a c mP Cr=>intro l h;obtain⟨fs,cs,e,h1,h2⟩:=h;exact⟨fs,cs,e,mP h1,Cr h2⟩
 |st a ih=>intro l h;obtain⟨cs,e,h1,h2⟩:=h;exact⟨cs,e,ih h1,h2⟩
 |jy a ih=>intro l h;obtain⟨vs,e,h1⟩:=h;exact⟨vs,e,ih h1⟩
 |jS t v ih=>intro l h;obtain⟨u,e,h1⟩:=h;exact⟨u,e,ih h1⟩
 |Xl e xs p=>intro l h;obtain⟨v,ws,h1,h2⟩:=h;exact⟨v,ws,h1.mono m,h2⟩
 |cons a b mP q9=>intro l h;obtain⟨u,r,e,h1,h2⟩:=h;exact⟨u,r,e,mP h1,q9 h2⟩
 |part w a b mP q9=>intro l h;obtain⟨c1,c2,u,e,h1,h2,h3,h4⟩:=h;exact⟨c1,c2,u,e,h1,mP h2,h3,q9 h4⟩
 |_ =>intro l h;exact h
theorem rl.ext{J:World->Prop}{ρ ρ':aY}(m:ρ.le ρ'):∀{v:AV G} {l:List Value},rl J ρ v l->rl J ρ' v l:=by
 intro v
 induction v with
 |ptr r p=>intro l h;obtain⟨⟨b,o,h1,h2⟩,h3⟩:=h;exact⟨⟨b,o,h1.ext m,h2⟩,h3⟩
 |Dz r p n sz up i=>intro l h;obtain⟨⟨b,o,h1,h2⟩,h3⟩:=h;exact⟨⟨b,o,h1.ext m,h2⟩,h3⟩
 |row r=>intro l h;obtain⟨a,n,cap,h1,h2⟩:=h;exact⟨a,n,cap,m _ _ h1,h2⟩
 |mp r=>intro l h;obtain⟨b,h1,h2⟩:=h;exact⟨b,m _ _ h1,h2⟩
 |yl r=>intro l h;obtain⟨b,h1,h2⟩:=h;exact⟨b,m _ _ h1,h2⟩
 |fn f a c mP Cr=>intro l h;obtain⟨fs,cs,e,h1,h2⟩:=h;exact⟨fs,cs,e,mP h1,Cr h2⟩
 |st a ih=>intro l h;obtain⟨cs,e,h1,h2⟩:=h;exact⟨cs,e,ih h1,h2⟩
 |jy a ih=>intro l h;obtain⟨vs,e,h1⟩:=h;exact⟨vs,e,ih h1⟩
 |jS t v ih=>intro l h;obtain⟨u,e,h1⟩:=h;exact⟨u,e,ih h1⟩
 |cons a b mP q9=>intro l h;obtain⟨u,r,e,h1,h2⟩:=h;exact⟨u,r,e,mP h1,q9 h2⟩
 |part w a b mP q9=>intro l h;obtain⟨c1,c2,u,e,h1,h2,h3,h4⟩:=h;exact⟨c1,c2,u,e,h1,mP h2,h3,q9 h4⟩
 |_ =>intro l h;exact h
theorem I4{J:World->Prop}{ρ:aY}{t:Ty}{x:t.T G}{u:Value}(h:wz J t x u):rv J ρ (mk t x) u:=by
 cases t with
 |int k=>have h1:u.cells.toList=[.int k x]:=h.1;have h2:=h.2.2 rfl;rw[h2]at h1;exact h1
 |bool=>have h1:u.cells.toList=[.bool x]:=h.1;have h2:=h.2.2 rfl;rw[h2]at h1;exact h1
 |st i=>exact⟨u,rfl,h⟩
 |lK n e=>exact⟨u,rfl,h⟩
 |sl e=>exact⟨u,rfl,h⟩
theorem Pg{J:World->Prop}{ρ:aY}{t:Ty}{x:t.T G}{u:Value}(h:rv J ρ (mk t x) u):wz J t x u:=by
 cases t with
 |int k=>have h:[u]=[.int k x]:=h;cases h;exact⟨rfl,nofun,λ_ =>rfl⟩
 |bool=>have h:[u]=[.bool x]:=h;cases h;exact⟨rfl,nofun,λ_ =>rfl⟩
 |st i=>obtain⟨u',e,h⟩:=h;cases e;exact h
 |lK n e=>obtain⟨u',e,h⟩:=h;cases e;exact h
 |sl e=>obtain⟨u',e,h⟩:=h;cases e;exact h
end Go.Rw
namespace Go.Bw
open Go Go.RowKit
def yl{β:Type}(e:β)(m:Option (List β)):Option (List β):=m.map (e::·)
theorem ag7{β:Type}{e:β}{m:Option (List β)}{r:List β}(h:yl e m=some r):∃r',r=e::r'/\m=some r':=by
 cases m with
 |none=>cases h
 |some l=>exact⟨l,(Option.some.inj h).symm,rfl⟩
section
variable {α1 β ρ:Type}
def xJ(B:β->(α1->Option ρ)->α1->Option ρ)(fin:α1->Option ρ):List β->α1->Option ρ
 |[],a1=>fin a1
 |x::l,a1=>B x (xJ B fin l) a1
end
section
variable {α1 α2 β ρ:Type}
def afq(B:β->(α1->α2->Option ρ)->α1->α2->Option ρ)(fin:α1->α2->Option ρ):List β->α1->α2->Option ρ
 |[],a1,a2=>fin a1 a2
 |x::l,a1,a2=>B x (afq B fin l) a1 a2
end
section
variable {α1 α2 α3 β ρ:Type}
def UC(B:β->(α1->α2->α3->Option ρ)->α1->α2->α3->Option ρ)(fin:α1->α2->α3->Option ρ):List β->α1->α2->α3->Option ρ
 |[],a1,a2,a3=>fin a1 a2 a3
 |x::l,a1,a2,a3=>B x (UC B fin l) a1 a2 a3
end
section
variable {α1 α2 α3 α4 β ρ:Type}
def afp(B:β->(α1->α2->α3->α4->Option ρ)->α1->α2->α3->α4->Option ρ)(fin:α1->α2->α3->α4->Option ρ):List β->α1->α2->α3->α4->Option ρ
 |[],a1,a2,a3,a4=>fin a1 a2 a3 a4
 |x::l,a1,a2,a3,a4=>B x (afp B fin l) a1 a2 a3 a4
end
section
variable {α1 α2 α3 α4 α5 β ρ:Type}
def afo(B:β->(α1->α2->α3->α4->α5->Option ρ)->α1->α2->α3->α4->α5->Option ρ)(fin:α1->α2->α3->α4->α5->Option ρ):List β->α1->α2->α3->α4->α5->Option ρ
 |[],a1,a2,a3,a4,a5=>fin a1 a2 a3 a4 a5
 |x::l,a1,a2,a3,a4,a5=>B x (afo B fin l) a1 a2 a3 a4 a5
end
section
variable {α1 α2 α3 α4 α5 α6 β ρ:Type}
def afn(B:β->(α1->α2->α3->α4->α5->α6->Option ρ)->α1->α2->α3->α4->α5->α6->Option ρ)(fin:α1->α2->α3->α4->α5->α6->Option ρ):List β->α1->α2->α3->α4->α5->α6->Option ρ
 |[],a1,a2,a3,a4,a5,a6=>fin a1 a2 a3 a4 a5 a6
 |x::l,a1,a2,a3,a4,a5,a6=>B x (afn B fin l) a1 a2 a3 a4 a5 a6
end
section
variable {α1 α2 α3 α4 α5 α6 α7 β ρ:Type}
def afm(B:β->(α1->α2->α3->α4->α5->α6->α7->Option ρ)->α1->α2->α3->α4->α5->α6->α7->Option ρ)(fin:α1->α2->α3->α4->α5->α6->α7->Option ρ):List β->α1->α2->α3->α4->α5->α6->α7->Option ρ
 |[],a1,a2,a3,a4,a5,a6,a7=>fin a1 a2 a3 a4 a5 a6 a7
 |x::l,a1,a2,a3,a4,a5,a6,a7=>B x (afm B fin l) a1 a2 a3 a4 a5 a6 a7
end
section
variable {α1 α2 α3 α4 α5 α6 α7 α8 β ρ:Type}
def afl(B:β->(α1->α2->α3->α4->α5->α6->α7->α8->Option ρ)->α1->α2->α3->α4->α5->α6->α7->α8->Option ρ)(fin:α1->α2->α3->α4->α5->α6->α7->α8->Option ρ):List β->α1->α2->α3->α4->α5->α6->α7->α8->Option ρ
 |[],a1,a2,a3,a4,a5,a6,a7,a8=>fin a1 a2 a3 a4 a5 a6 a7 a8
 |x::l,a1,a2,a3,a4,a5,a6,a7,a8=>B x (afl B fin l) a1 a2 a3 a4 a5 a6 a7 a8
end
end Go.Bw
namespace Go.Bw
open Go Go.RowKit
section rules
variable {P:Program} {N:Nat} {c:Cx} {D:List Deferred} {Q:Exit->Act->World->Prop} {F:eu} {H:List aE} {d:Option Tmp} {ty:TypeId} {ps:String} {af:Array Edge} {g:Option (Nat×Bool)} {α β γ:Type}
theorem adG{t e sz:Nat}[ht:se P t e sz](L:cP α)[bg L]:
  RX P N c ⟨d, .buildSlice t 0 #[],ty,ps,af,g⟩ F H (λ_ =>True) (λb=> .slice (some ⟨b,0,none⟩) 0 0) (λb=>pE (.slice (some ⟨b,0,none⟩) 0 0) e sz L []::H):=λD a w next Q hst hk=>by
 obtain⟨i,h1,h2,h3⟩:=se.get ht.ok;have hs:=aO.alloc w (.cells (#[]:Array Value) e);refine dJ (by simp) (w':=w.alloc (.cells #[] e)) ?_ (hk w.heap.size _ trivial (hst.si.ext hs) (hst.hp.fresh hs ?_ hst.si.size ?_))
 ·simp only[execOp,Instr.buildSlice,Sem.run_bind,run_underlying h1,Result.andThen_ok,sizeOf,typeInfo]
  simp[h2,Instr.fill,newRow,newObj,Sem.run];congr 2;exact Array.eq_empty_of_size_eq_zero (by simp)
 ·refine zL (base:=0) ⟨by simp[dU], .inr ⟨w.heap.size,0, #[],rfl,Nat.zero_le _,heap_alloc_new w _,Nat.le_refl _,Nat.zero_le _,by simp,by simp[dU]⟩⟩
 ·intro b hb
  have:b=w.heap.size:=by simpa[pE,aE.cH,Value.ownBlock]using hb
  subst this;exact⟨Nat.le_refl _,(aiU.1 (heap_alloc_new w (.cells (#[]:Array Value) e))).1⟩
theorem WG{L:cP α}[bg L][Inhabited α]{M:cP β}[bg M]{v:Value}{xs:List α}{e sz off t q:Nat}{x y:Operand}{val:Value}{gg:(Nat->α)->β}{s:(Nat->α)->β->(Nat->α)}{f:aE->List aE}{z:α}
  (m:Nat)(p:aX (LA L xs.length) M off gg s)(u:β)(ys:List α)(hy:ys=xs.set m z)(hx:ev F x=some (fX v off))(hz:ev F y=some val)(hv:val.cells.toList=M.enc u)(hs:s (λi=>xs.getD i default) u=iD (λi=>xs.getD i default) m z)
  (hm:m<xs.length)(hn:M.n=q)[hr:tO H v e sz xs.length (dU L xs) f](hsz:L.n=sz)[ht:RT P t q]:
  RX (α:=Unit) P N c ⟨d, .store t x y,ty,ps,af,g⟩ F H (λ_ =>True) (λ_ =>undef) (λ_ =>f (pE v e sz L ys)):=λD a w next Q hst hk=>by
 subst hn hsz;obtain⟨k,k1,k2⟩:=hr.ok;have KL:aE.row v e L.n xs.length (dU L xs)∈H:=List.mem_of_getElem? k1;have hown:kH w e L.n v xs.length (dU L xs):=hst.hp.holds _ KL;obtain⟨hlen,Eu⟩:=hown;rcases Eu with⟨_,h0⟩|⟨gb,o,cap,cur,rfl,Px,hnc,Od,hcs,Er⟩
 ·omega
 have hle:off+M.n<=xs.length*L.n:=p.le;have hmul:xs.length*L.n<=cap*L.n:=Nat.mul_le_mul_right _ hnc;obtain⟨cs,rfl⟩:∃cs:List Value,cur=cs.toArray:=⟨cur.toList,by simp⟩;have qQ:o+cap*L.n<=cs.length:=by simpa using hcs
 have htk:(cs.drop o).take (xs.length*L.n)=dU L xs:=by simpa using Er
 have hul:(M.enc u).length=M.n:=gX M u;obtain⟨w',e1,e2,e3⟩:=qY (P:=P) (t:=t) (b:=gb) (T:=e) (off:=o+off) (cs:=cs) (w:=w) Px hv hul (by omega) (CD M u);have UQ:ys.length=xs.length:=by rw[hy,List.length_set]
 have hnew:((bN cs (o+off) (M.enc u)).drop o).take (xs.length*L.n)=dU L ys:=by
  have h1:bN (dU L xs) off (M.enc u)=dU L ys:=by rw[fP L xs,hy, ← TA L xs m z hm, ← hs];exact p.put _ _
  rw[← h1, ← htk];exact uF (by rw[hul];exact hle) (by omega)
 refine oe (by simp) (w':=w') ?_ (hk () w' trivial (hst.si.store hst.hp KL (by simp[aE.cH,Value.ownBlock]) e3) ?_)
 ·simp[execOp,aI hst.fr hx,aI hst.fr hz,fX,Instr.storeAt,Instr.sureAddr,e1]
 ·show bC c.bs c.w0.heap.size (f (pE _ e L.n L ys)) w'
  rw[pE,k2];refine hst.hp.set k1 e3.size (λj hj hn=>e3.block j hj (by simpa[aE.cH,Value.ownBlock]using hn)) ?_ hst.si.size (λb' hb'=>?_)
  ·refine⟨by rw[lX], .inr ⟨gb,o,cap,_,by rw[UQ],e2,by omega,Od,?_,?_⟩⟩
   ·simp only[List.size_toArray,bN,List.length_append,List.length_take,List.length_drop,hul];omega
   ·rw[UQ];simpa using hnew
  ·have h5:b'=gb:=by simpa[aE.cH,Value.ownBlock]using hb'
   subst h5;exact⟨.inl (by simp[aE.cH,Value.ownBlock]),Nat.lt_of_lt_of_le (aiU.1 Px).1 e3.size⟩
def NY:Value->Bool
 | .slice none _ _ =>true
 |_ =>false
theorem Wr{x:Operand}{y:Operand}{v:Value}{T e U sz:Nat}[ht:se P T e sz](hv:SlV v)(hx:ev F x=some v)(hy:ev F y=some (.slice none 0 0)):VS P N c ⟨d, .binOp .eql T x y U,ty,ps,af,g⟩ F H (.bool (NY v)):=
 aG (by simp) λa w hf _ _ =>by obtain⟨i,h1,h2,h3⟩:=se.get ht.ok;obtain⟨a0,l,cp,rfl⟩:=hv;have:=run_equal_slice_nil (P:=P) w T e a0 l cp h1;cases a0<;>simp[execOp,aI hf hx,aI hf hy,eqGuard,binOp,this,NY]
theorem agr{x:Code}{A:World->Prop}{v:Value}{L:cP α}[bg L]{xs:List α}(hf:Fz A v L xs)[k:Kn c H A](h:(NY v=true->xs=[])->WP P N c D x Q F H):WP P N c D x Q F H:=λa w hst=>by
 refine h (λhv=>?_) a w hst;rcases(hf.ro w (k.ok w hst.si hst.hp)).2 with⟨_,h0⟩|⟨gb,off,cap,rfl,_⟩
 ·exact List.length_eq_zero_iff.1 h0
 ·cases hv
theorem D2{ops:Array Oper}{rest:List Oper}{x:Operand}{args:List Operand}{ats:Array TypeId}{f:Nat}{fst cap:Array Value}{us vs:List Value}{K:World->Prop}{mE rst:List aE}{val:Value}{ks:List Nat}{gg:Option (Nat×Bool)}{b:Bool}{dd:Tmp}
  (hg:Gd ops F gg b)(hd:Nat.blt dd N=true)(hc:b=true->Fn (α:=Unit) P f vs (Sm (bz mE) K) mE (λ_ =>True) (λ_ =>val) (λ_ =>mE))(hx:b=true->ev F x=some (.func (.func f) fst cap))(ha:b=true->C7 F args=some us)
  (hv:fst.toList++us++cap.toList=vs)(hkp:pick H ks=some (mE++rst))(hn:ks.Nodup)(hK:b=true->KnF c rst K)
  (h:WL P N c D ops Q rest ((dd,bif b then val else undef)::F) (mE++rst)):
  WL P N c D ops Q (⟨some dd, .call ⟨.value x,args.toArray,ats⟩,ty,ps,af,gg⟩::rest) F H:=by
 cases b with
 |false=>exact La hg hd (adk (λ_ _ _ hp=>hp.pick hkp hn) h)
 |true=>intro a w hst;simp only[wpListIn,hg ⟨some dd, .call ⟨.value x,args.toArray,ats⟩,ty,ps,af,gg⟩ a rfl hst.fr,if_true];haveI:=hK rfl;exact zo (hc rfl) (hx rfl) (ha rfl) hv hkp hn D a w _ Q hst λi w' hp hs hh=>h _ _ (hst.put (d:=some dd) hd hs hh)
theorem Qt{x:Operand}{t e sz n cp:Nat}{a0:Option Addr}[ht:se P t e sz](hx:ev F x=some (.slice a0 n cp)):VS P N c ⟨d, .call ⟨.builtin .cap, #[x], #[t]⟩,ty,ps,af,g⟩ F H (.int .i64 cp):=
 aG (by simp) λa w hf _ _ =>by obtain⟨i,h1,h2,h3⟩:=se.get ht.ok;simp[execOp,resolve,invoke,builtin,aI hf hx,Builtin.cap_,run_underlying h1];rfl
theorem Wt{x hi:Operand}{t e sz n cp b:Nat}{k:IntKind}[ht:se P t e sz](hx:ev F x=some (.slice (some ⟨b,0,none⟩) n cp))(hh:ev F hi=some (.int k 0)):
  VS P N c ⟨d, .slice t x none (some hi) none,ty,ps,af,g⟩ F H (.slice (some ⟨b,0,none⟩) 0 cp):=
 aG (by simp) λa w hf _ _ =>by obtain⟨i,h1,h2,h3⟩:=se.get ht.ok;simp[execOp,aI hf hx,aI hf hh,Instr.sliceAt,run_underlying h1,Instr.slice,Instr.sliceBounds,Instr.sliceBound,asIntOf,sizeOf,typeInfo,h2,Addr.add]
theorem JH{x hi:Operand}{t e sz:Nat}{k:IntKind}[ht:se P t e sz](hx:ev F x=some (.slice none 0 0))(hh:ev F hi=some (.int k 0)):
  VS P N c ⟨d, .slice t x none (some hi) none,ty,ps,af,g⟩ F H (.slice none 0 0):=
 aG (by simp) λa w hf _ _ =>by obtain⟨i,h1,h2,h3⟩:=se.get ht.ok;simp[execOp,aI hf hx,aI hf hh,Instr.sliceAt,run_underlying h1,Instr.slice,Instr.sliceBounds,Instr.sliceBound,asIntOf,sizeOf,typeInfo,h2,Addr.add]
theorem aa9{a:Int}(h1: -9223372036854775808<=a)(h2:a<=9223372036854775807):wr .i64 a=a:=IntWalk.i64_in a ⟨h1,h2⟩
theorem Dw(t ti ty e:TypeId)(i:TypeInfo)(z:Value)(q:IntKind)(w:World)(ht:P.underlying t=some (.slice e))(hti:P.underlying ti=some (.int q))(hi:P.info? e=some i)(hz:i.zero=some z)
  (n:Nat)(h0:0<n)(h63:(n:Int)<=9223372036854775807)(h48:n*i.bytes<=140737488355328)(hpos:0<i.size):
  (Builtin.append_ #[t,ti] ty #[.slice none 0 0, .int .i64 n]).run P w=
   .ok (.slice (some ⟨w.heap.size,0,none⟩) n (grownCap w n 0 e)) (w.drew.alloc (.cells (Builtin.zeroCells z.cells n++Builtin.zeroCells z.cells (grownCap w n 0 e-n)) e)):=by
 have hn:n≠0:=by omega
 have hns:n*i.size≠0:=Nat.mul_ne_zero hn (by omega);have ah3:¬(9223372036854775807<(n:Int)):=by omega
 have ah5:¬(281474976710656<Builtin.nextslicecap n 0*i.bytes):=by rw[nextslicecap_zero h0];omega
 have hw:IntKind.i64.wrap (n:Int)=n:=by rw[show IntKind.i64.wrap (n:Int)=wr .i64 (n:Int)from rfl,aa9 (by omega) h63]
 have hneg:¬((n:Int)<0):=by omega
 have ah4:¬(281474976710656<(n:Int)*(i.bytes:Int)):=by have h5:((n*i.bytes:Nat):Int)=(n:Int)*(i.bytes:Int):=Int.natCast_mul _ _;rw[← h5];omega
 simp[Builtin.append_,run_underlying ht,run_underlying hti,sizeOf,typeInfo,zeroValue,hi,hz,hn,ah3,ah5,Question.forced,run_firstCells_none,newRow,grownCap,asInt,asIntOf,hw,hneg,ah4,hns,Nat.pos_iff_ne_zero.1 hpos]
def KT(n:Int)(b:Nat):Bool:=decide (0<n/\n*b<=140737488355328/\n<=9223372036854775807)
theorem U4{n:Int}{b:Nat}(h:KT n b=true):0<n/\n*b<=140737488355328/\n<=9223372036854775807:=of_decide_eq_true h
theorem aae{s x:Operand}{t ti e sz bytes:Nat}{n:Int}{q:IntKind}(L:cP α)[bg L][ht:Lp P t e sz bytes](hti:P.underlying ti=some (.int q))(hs:ev F s=some (.slice none 0 0))(hx:ev F x=some (.int .i64 n))(hok:KT n bytes=true):
  RX (α:=Nat×Nat) P N c ⟨d, .call ⟨.builtin .append, #[s,x], #[t,ti]⟩,ty,ps,af,g⟩ F H (λ_ =>True) (λv=> .slice (some ⟨v.1,0,none⟩) n.toNat v.2) (λv=>pE (.slice (some ⟨v.1,0,none⟩) 0 v.2) e sz L []::H):=λD a w next Q hst hk=>by
 obtain⟨i,z,e1,e2,e3,e4,e5,e6,e7⟩:=Lp.get ht.ok;obtain⟨g1,g2,g3⟩:=U4 hok;obtain⟨m,rfl⟩:∃m:Nat,n=m:=⟨n.toNat,by omega⟩;subst e4 e5;have hm0:0<m:=by omega
 have hb:m*i.bytes<=140737488355328:=by have h5:((m*i.bytes:Nat):Int)=(m:Int)*(i.bytes:Int):=Int.natCast_mul _ _;rw[← h5]at g2;omega
 have hr:=Dw (P:=P) t ti ty e i z q w e1 hti e2 e3 m hm0 g3 hb e7;have Ml:m<=maxLen:=by simp only[maxLen];omega
 have Od:grownCap w m 0 e<=maxLen:=grownCap_le_maxLen w m 0 e Ml;have hge:m<=grownCap w m 0 e:=grownCap_ge w m 0 e;have iG:aO [] w (w.drew.alloc (.cells (Builtin.zeroCells z.cells m++Builtin.zeroCells z.cells (grownCap w m 0 e-m)) e)):=aO.vF (row:=none) ⟨rfl,rfl,rfl,by simp,λk hk _ =>heap_alloc_old w.drew _ k hk⟩;refine dJ (by simp) (v:= .slice (some ⟨w.heap.size,0,none⟩) m (grownCap w m 0 e)) ?_ (hk (w.heap.size,grownCap w m 0 e) _ trivial (hst.si.ext iG) (hst.hp.fresh iG ?_ hst.si.size ?_))
 ·simp[execOp,resolve,invoke,builtin,aI hst.fr hs,aI hst.fr hx,hr]
 ·refine zL (base:=0) ⟨by simp[dU], .inr ⟨w.heap.size,grownCap w m 0 e,_,rfl,Nat.zero_le _,heap_alloc_new w.drew _,Nat.zero_le _,Od,?_,by simp[dU]⟩⟩
  simp only[Array.size_append,size_zeroCells,e6, ← Nat.add_mul];congr 1;omega
 ·intro b hb
  have:b=w.heap.size:=by simpa[pE,aE.cH,Value.ownBlock]using hb
  subst this;exact⟨Nat.le_refl _,(aiU.1 (heap_alloc_new w.drew (.cells (Builtin.zeroCells z.cells m++Builtin.zeroCells z.cells (grownCap w m 0 e-m)) e))).1⟩
theorem su.size{v:Value}{n:Nat}(h:su v n):v.cells.size=1:=by obtain⟨a,cp,rfl⟩:=h;rfl
theorem RR{x:Operand}{t e sz n cp:Nat}{a0:Option Addr}[ht:se P t e sz](hx:ev F x=some (.slice a0 n cp)):VS P N c ⟨d, .call ⟨.builtin .len, #[x], #[t]⟩,ty,ps,af,g⟩ F H (.int .i64 n):=
 aG (by simp) λa w hf _ _ =>by obtain⟨i,h1,h2,h3⟩:=se.get ht.ok;simp[execOp,resolve,invoke,builtin,aI hf hx,Builtin.len_,run_underlying h1,Builtin.lenOf];rfl
theorem Bj{p q:Nat->Option (Nat×Nat)}:∀(parts:List (Nat×Value)) (cells:Array Value),(∀x∈parts,p x.1=q x.1)->Instr.fill p cells parts=Instr.fill q cells parts
 |[],_,_ =>rfl
 |(i,v)::r,cells,h=>by
  have h1:=h (i,v) (by simp);simp only at h1;simp only[Instr.fill,h1];split
  ·rfl
  ·split
   ·rfl
   ·exact Bj r _ λx hx=>h x (aiY _ hx)
def R7(n sz:Nat):List (Nat×Nat):=(List.range n).map λi=>(i*sz,sz)
theorem Kz{n sz i:Nat}(h:i<n):(R7 n sz)[i]? =some (i*sz,sz):=by simp[R7,h]
theorem RS{t n e sz:Nat}{parts:List (Nat×Operand)}{vs zs cs:List Value}[hz:jh P t zs][ht:so P t n e sz](hv:C7 F (parts.map (·.2))=some vs)(hc:uE (R7 n sz) zs ((parts.map (·.1)).zip vs)=some cs)(hi:((parts.map (·.1)).all λi=>decide (i<n))=true):
  VS P N c ⟨d, .build t parts.toArray,ty,ps,af,g⟩ F H (.agg cs.toArray):=
 aG (by simp) λa w hf _ _ =>by
  obtain⟨i,z,h1,h2,h3⟩:=jh.get hz.ok;obtain⟨inf,h4,h5,h6⟩:=so.get ht.ok;have h7:(zeroValue t).run P w= .ok z w:=by simp[zeroValue,typeInfo,h1,h2]
  have h8:=wK (place:=λi=>(R7 n sz)[i]?) (pl:=R7 n sz) (λ_ =>rfl) ((parts.map (·.1)).zip vs) z.cells cs (by rw[h3];exact hc);have h9:=evp hf hv;have h10:(Array.map (λx=>(x.fst,a.eval x.snd)) parts.toArray).toList=(parts.map (·.1)).zip vs:=by simpa using h9
  have h11:=Bj (p:=λi=>some (i*sz,sz)) (q:=λi=>(R7 n sz)[i]?) ((parts.map (·.1)).zip vs) z.cells (λx hx=>by
   have:=List.all_eq_true.1 hi x.1 (List.of_mem_zip hx).1;simp only[decide_eq_true_eq]at this;simp[Kz this])
  simp only[execOp,Instr.build,Sem.run_bind,h7,Result.andThen_ok,run_underlying h4,sizeOf,typeInfo];simp[h5,h6,h9,h11,h8]
theorem WM{t n e sz:Nat}{parts:List (Nat×Operand)}{vs zs cs:List Value}[ht:se P t e sz][hz:jh P e zs](hv:C7 F (parts.map (·.2))=some vs)(hc:uE (R7 n sz) ((List.range (n*sz)).map λj=>zs[j%zs.length]!) ((parts.map (·.1)).zip vs)=some cs)
  (hi:((parts.map (·.1)).all λi=>decide (i<n))=true)(h0:0<n*sz)(hs:n*sz<=16777216):
  RX P N c ⟨d, .buildSlice t n parts.toArray,ty,ps,af,g⟩ F H (λ_ =>True) (λb=> .slice (some ⟨b,0,none⟩) n n) (λb=> .cells b e cs::H):=λD a w next Q hst hk=>by
 obtain⟨i,h1,h2,h3⟩:=se.get ht.ok;obtain⟨i',z,h4,h5,h6⟩:=jh.get hz.ok;rw[h2]at h4;cases h4;subst h3;refine dJ (by simp) (w':=w.alloc (.cells cs.toArray e)) ?_ (hk w.heap.size _ trivial (hst.si.ext (aO.alloc _ _)) (hst.hp.box e cs hst.si.size));have h9:=evp hst.fr hv;have h10:(Array.map (λx=>(x.fst,a.eval x.snd)) parts.toArray).toList=(parts.map (·.1)).zip vs:=by simpa using h9
 have h11:=Bj (p:=λk=>some (k*i.size,i.size)) (q:=λk=>((R7 n i.size).toArray)[k]?) ((parts.map (·.1)).zip vs) ((Array.range (n*i.size)).map (z.cells[· %z.cells.size]!)) (λx hx=>by
   have:=List.all_eq_true.1 hi x.1 (List.of_mem_zip hx).1;simp only[decide_eq_true_eq]at this;simp[Kz this])
 have hzc:z.cells=zs.toArray:=by rw[← h6]
 have h8:=wK (place:=λk=>((R7 n i.size).toArray)[k]?) (pl:=R7 n i.size) (by simp) ((parts.map (·.1)).zip vs) ((Array.range (n*i.size)).map (z.cells[· %z.cells.size]!)) cs (by
  rw[← hc];congr 1;rw[hzc];simp[Array.toList_range])
 have e3:(λx=>(x.fst,a.eval x.snd))=(λ(x:Nat×Operand)=>(x.1,a.eval x.2)):=rfl;have hb:(Instr.buildSlice t n (Array.map (λx=>(x.fst,a.eval x.snd)) parts.toArray)).run P w= .ok (.slice (some ⟨w.heap.size,0,none⟩) n n) (w.alloc (.cells cs.toArray e)):=
  run_buildSlice w t e n _ cs.toArray i z h1 h2 h5 (by omega) (by omega) (by rw[h10,h11,h8])
 simp only[execOp,Sem.run_bind];rw[hb];rfl
end rules
end Go.Bw
namespace Go.Bw
open Go Go.RowKit Go.ChangeMaps
section
variable {β:Type}
def fK:List (Int×β)->Int->Option (Nat×β)
 |[],_ =>none
 |p::r,k=>bif k==p.1 then some (0,p.2)else(fK r k).map λq=>(q.1+1,q.2)
def nV(l:List (Int×β))(k:Int)(z:β):β:=((fK l k).map Prod.snd).getD z
def pG(l:List (Int×β))(k:Int):Bool:=(fK l k).isSome
def tw:List (Int×β)->Int->β->List (Int×β)
 |[],k,v=>[(k,v)]
 |p::r,k,v=>bif k==p.1 then(k,v)::r else p::tw r k v
end
structure AQ{β:Type}(q:IntKind)(E:β->Value)(es:Array MapEntry)(clock:Nat)(l:List (Int×β)):Prop where
 kv:es.toList.map (λe=>(e.key,e.val))=l.map λp=>(Value.int q p.1,E p.2)
 born:∀e∈es.toList,e.born<clock
 nd:(es.toList.map (·.born)).Nodup
def MpJ{β:Type}(b:Nat)(q:IntKind)(E:β->Value)(l:List (Int×β))(w:World):Prop:=∃es clock,w.heap[b]? =some (.map es clock)/\AQ q E es clock l
abbrev Mp{β:Type}(b:Nat)(q:IntKind)(E:β->Value)(l:List (Int×β)):aE:= .ext [b] (MpJ b q E l)
theorem MY{β:Type}{b:Nat}{q:IntKind}{E:β->Value}{l:List (Int×β)}{w:World}(h:MpJ b q E l w):(Mp b q E l).holds w:=λw' _ hb=>by obtain⟨es,clock,h1,h2⟩:=h;exact⟨es,clock,(hb b (by simp)).trans h1,h2⟩
theorem adK{β:Type}{b:Nat}{q:IntKind}{E:β->Value}{l:List (Int×β)}{w:World}(h:(Mp b q E l).holds w):MpJ b q E l w:=CB h
class Fp(H:List aE)(b:Nat)(β:outParam Type)(q:outParam IntKind)(E:outParam (β->Value))(l:outParam (List (Int×β)))(f:outParam (aE->List aE)):Prop where
 ok:∃k:Nat,H[k]? =some (Mp b q E l)/\∀r',f r'=H.set k r'
instance(priority:=100) adZ{β:Type}(b:Nat)(q:IntKind)(E:β->Value)(l:List (Int×β))(H:List aE):Fp (Mp b q E l::H) b β q E l (λr'=>r'::H):=⟨0,rfl,λ_ =>rfl⟩
instance(priority:=50) adL(r:aE)(H:List aE)(b:Nat)(β:Type)(q:IntKind)(E:β->Value)(l f)[h:Fp H b β q E l f]:Fp (r::H) b β q E l (λr'=>r::f r'):=
 ⟨by obtain⟨k,h1,h2⟩:=h.ok;exact⟨k+1,by simpa using h1,λr'=>by rw[h2 r'];simp⟩⟩
class Fe(P:Program)(t:TypeId)(k e:outParam TypeId)(q:outParam IntKind):Prop where
 ok:P.underlying t=some (.map k e)/\P.underlying k=some (.int q)
section
variable {β:Type} {q:IntKind} {E:β->Value}
theorem He{k:Int}:∀(es:List MapEntry) (l:List (Int×β)) (i:Nat),es.map (λe=>(e.key,e.val))=l.map (λp=>(Value.int q p.1,E p.2))->
  Instr.findNow (.int q) (.int q k) es i=some ((fK l k).map λp=>(i+p.1,E p.2))
 |[],[],i,_ =>rfl
 |[],p::r,i,h=>by simp at h
 |e::es,[],i,h=>by simp at h
 |e::es,p::r,i,h=>by
  simp only[List.map_cons,List.cons.injEq,Prod.mk.injEq]at h;obtain⟨⟨h1,h2⟩,h3⟩:=h;have ih:=He (k:=k) es r (i+1) h3;unfold Instr.findNow fK;rw[h1];have hs:Instr.sameNow (.int q) (.int q k) (.int q p.1)=some (k==p.1):=by simp[Instr.sameNow]
  rw[hs];cases hk:k==p.1 with
  |true=>simp[h2]
  |false=>
   simp only[ih,cond_false,Option.map_map];congr 1;cases fK r k with
   |none=>rfl
   |some z=>simp[Function.comp];omega
theorem nF{P:Program}{kt:TypeId}{k:Int}{es:Array MapEntry}{clock:Nat}{l:List (Int×β)}(w:World)(hk:P.underlying kt=some (.int q))(h:AQ q E es clock l):
  (Instr.findKey kt (.int q k) es.toList).run P w= .ok ((fK l k).map λp=>(p.1,E p.2)) w:=by
 unfold Instr.findKey;rw[Sem.run_bind,run_underlying hk w];simp only[Result.andThen];rw[He es.toList l 0 h.kv];cases fK l k with
 |none=>rfl
 |some z=>simp[Sem.run]
theorem DI{k:Int}:∀{l:List (Int×β)} {j:Nat} {y:β},fK l k=some (j,y)->l[j]? =some (k,y)
 |[],_,_,h=>by simp[fK]at h
 |p::r,j,y,h=>by
  unfold fK at h;cases hk:k==p.1 with
  |true=>
   rw[hk]at h;simp only[cond_true,Option.some.injEq,Prod.mk.injEq]at h;obtain⟨rfl,rfl⟩:=h;have:k=p.1:=by simpa using hk
   subst this;rfl
  |false=>
   rw[hk]at h;simp only[cond_false]at h;cases hr:fK r k with
   |none=>simp[hr]at h
   |some z=>rw[hr]at h;simp only[Option.map_some,Option.some.injEq,Prod.mk.injEq]at h;obtain⟨rfl,rfl⟩:=h;have:=DI (l:=r) (j:=z.1) (y:=z.2) hr;simpa using this
theorem DH{k:Int}{v:β}:∀{l:List (Int×β)},fK l k=none->tw l k v=l++[(k,v)]
 |[],_ =>rfl
 |p::r,h=>by
  unfold fK at h;cases hk:k==p.1 with
  |true=>rw[hk]at h;simp at h
  |false=>rw[hk]at h;simp only[cond_false,Option.map_eq_none_iff]at h;unfold tw;rw[hk,cond_false,DH h];rfl
theorem DG{k:Int}{v:β}:∀{l:List (Int×β)} {j:Nat} {y:β},fK l k=some (j,y)->tw l k v=l.set j (k,v)
 |[],_,_,h=>by simp[fK]at h
 |p::r,j,y,h=>by
  unfold fK at h;unfold tw;cases hk:k==p.1 with
  |true=>rw[hk]at h;simp only[cond_true,Option.some.injEq,Prod.mk.injEq]at h;obtain⟨rfl,rfl⟩:=h;rfl
  |false=>
   rw[hk]at h;simp only[cond_false]at h;cases hr:fK r k with
   |none=>simp[hr]at h
   |some z=>rw[hr]at h;simp only[Option.map_some,Option.some.injEq,Prod.mk.injEq]at h;obtain⟨rfl,rfl⟩:=h;rw[cond_false,DG (j:=z.1) (y:=z.2) hr];rfl
theorem AQ.push{es:Array MapEntry}{clock:Nat}{l:List (Int×β)}(h:AQ q E es clock l)(k:Int)(v:β):AQ q E (es.push ⟨.int q k,E v,clock⟩) (clock+1) (l++[(k,v)]):=by
 refine⟨by simp[h.kv],λe he=>?_,?_⟩
 ·rw[Array.toList_push,List.mem_append,List.mem_singleton]at he
  rcases he with he|rfl
  ·exact Nat.lt_succ_of_lt (h.born e he)
  ·exact Nat.lt_succ_self _
 ·rw[Array.toList_push,List.map_append,List.nodup_append]
  refine⟨h.nd,by simp,λa ha b hb=>?_⟩;obtain⟨e,he,rfl⟩:=List.mem_map.1 ha;have hb:b=clock:=by simpa using hb
  subst hb
  exactλ_=>by have:=h.born e he;omega
theorem xu{γ:Type}(f:MapEntry->MapEntry)(g:MapEntry->γ)(x:γ):∀(es:List MapEntry) (j:Nat),(∀e,g (f e)=x)->(es.modify j f).map g=(es.map g).set j x
 |[],j,_ =>by simp
 |e::es,0,h=>by simp[h]
 |e::es,j+1,h=>by simp[xu f g x es j h]
theorem vK{γ:Type}(f:MapEntry->MapEntry)(g:MapEntry->γ):∀(es:List MapEntry) (j:Nat),(∀e,g (f e)=g e)->(es.modify j f).map g=es.map g
 |[],j,_ =>by simp
 |e::es,0,h=>by simp[h]
 |e::es,j+1,h=>by simp[vK f g es j h]
theorem AQ.modify{es:Array MapEntry}{clock:Nat}{l:List (Int×β)}(h:AQ q E es clock l)(j:Nat)(k:Int)(v:β):AQ q E (es.modify j λe=>{e with key:= .int q k,val:=E v}) clock (l.set j (k,v)):=by
 have hb:(es.modify j λe=>{e with key:= .int q k,val:=E v}).toList.map (·.born)=es.toList.map (·.born):=by rw[Array.toList_modify];exact vK _ _ _ _ λ_ =>rfl
 refine⟨?_,λe he=>?_,?_⟩
 ·rw[Array.toList_modify,xu _ _ (Value.int q k,E v) _ _ (λ_ =>rfl),h.kv,List.map_set]
 ·have:e.born∈es.toList.map (·.born):=by rw[← hb];exact List.mem_map_of_mem he
  obtain⟨e',he',hee⟩:=List.mem_map.1 this;rw[← hee];exact h.born e' he'
 ·rw[hb];exact h.nd
end
section rules
variable {P:Program} {N:Nat} {c:Cx} {F:eu} {H:List aE} {d:Option Tmp} {ty:TypeId} {ps:String} {af:Array Edge} {g:Option (Nat×Bool)} {β:Type} {q:IntKind} {E:β->Value} {l:List (Int×β)} {f:aE->List aE} {b:Nat}
theorem Fp.Zb{bs:List Nat}{n0:Nat}{w:World}(h:Fp H b β q E l f)(hp:bC bs n0 H w):MpJ b q E l w:=by obtain⟨k,h1,_⟩:=h.ok;exact adK (hp.holds _ (List.mem_of_getElem? h1))
theorem Fp.put{N:Nat}{D:List Deferred}{a:Act}{w:World}{l':List (Int×β)}{es es':Array MapEntry}{clock clock':Nat}(h:Fp H b β q E l f)(hst:St N c D F H a w)(he:w.heap[b]? =some (.map es clock))(hok:AQ q E es' clock' l'):
  aO c.bs c.w0 (w.putObj b (.map es' clock'))/\bC c.bs c.w0.heap.size (f (Mp b q E l')) (w.putObj b (.map es' clock')):=by
 obtain⟨k,h1,h2⟩:=h.ok;have hlt:=(aiU.1 he).1;have iG:aO [b] w (w.putObj b (.map es' clock')):=⟨rfl,rfl,rfl,by simp[World.putObj],λk _ hk=>World.putObj_heap_other (by simpa using hk)⟩;refine⟨hst.si.store hst.hp (List.mem_of_getElem? h1) (by simp[aE.cH]) iG,?_⟩;rw[h2];refine hst.hp.set h1 iG.size (λj hj hne=>iG.block j hj (by simpa[aE.cH]using hne)) (MY ⟨es',clock',World.putObj_heap_same hlt,hok⟩) hst.si.size (λb' hb=>?_);have e:b'=b:=by simpa[aE.cH]using hb
 subst e;exact⟨.inl (by simp[aE.cH]),by rw[World.putObj];simpa using hlt⟩
theorem HJ(q:IntKind)(E:β->Value){t k e:TypeId}{q':IntKind}[Fe P t k e q']:
  RX P N c ⟨d, .makeMap t none,ty,ps,af,g⟩ F H (λ_ =>True) (λb=> .map (some b)) (λb=>Mp b q E []::H):=λD a w next Q hst hk=>by
 refine dJ (by simp) (w':=w.alloc (.map #[] 0)) ?_ (hk w.heap.size _ trivial (hst.si.ext (aO.alloc _ _)) (hst.hp.fresh (aO.alloc _ _) (MY ⟨#[],0,by show(w.heap.push _)[w.heap.size]? =_;simp,⟨rfl,by simp,by simp⟩⟩) hst.si.size (λb hb=>?_)))
 ·simp[execOp,Instr.makeMap,newObj,Sem.run,Result.andThen]
 ·have e:b=w.heap.size:=by simpa[aE.cH]using hb
  subst e;exact⟨Nat.le_refl _,by simp⟩
class OI(P:Program)(e:TypeId)(z:outParam Value):Prop where
 ok:(P.info? e).bind (·.zero)=some z
theorem Nu{e:TypeId}{z:Value}(h:OI P e z)(w:World):(zeroValue e).run P w= .ok z w:=by
 have:=h.ok;cases hi:P.info? e with
 |none=>simp[hi]at this
 |some i=>simp[hi]at this;simp[zeroValue,typeInfo,hi,this,Sem.run_bind,Sem.run,Result.andThen]
theorem oP{t kt e:TypeId}{k:Int}{z:β}{commaOk:Bool}(w:World)(ht:Fe P t kt e q)(hz:OI P e (E z))(h:MpJ b q E l w):
  (Instr.lookup t (.map (some b)) (.int q k) commaOk).run P w= .ok (if commaOk then .tuple #[E (nV l k z), .bool (pG l k)]else E (nV l k z)) w:=by
 obtain⟨es,clock,h1,h2⟩:=h;obtain⟨t1,t2⟩:=ht.ok;have hf:=nF (k:=k) w t2 h2;have hc:∀em,(Instr.checkKey em 10000 kt (.int q k)).run P w= .ok () w:=λem=>MapKept.run_checkKey (k:= .int q k) t2 (show q=q from rfl) em 9999;simp only[Instr.lookup,Sem.run_bind,run_underlying t1,Result.andThen,MapKept.run_getObj_map h1,Sem.run];rw[Sem.run_pure];dsimp only;rw[hc];dsimp only;rw[hf];dsimp only;unfold nV pG;cases fK l k with
 |none=>cases commaOk<;>simp[Nu hz,Result.andThen]
 |some p=>cases commaOk<;>simp[Result.andThen]
theorem RP{x y:Operand}{t kt e:TypeId}{k:Int}(z:β)[ht:Fe P t kt e q][hz:OI P e (E z)](hx:ev F x=some (.map (some b)))(hy:ev F y=some (.int q k))[hm:Fp H b β q E l f]:
  VS P N c ⟨d, .lookup t x y false,ty,ps,af,g⟩ F H (E (nV l k z)):=aG (by simp) λa w hf _ hp=>by
 simp[execOp,aI hf hx,aI hf hy,oP w ht hz (hm.Zb hp),Result.andThen]
theorem OF{x y:Operand}{t kt e:TypeId}{k:Int}(z:β)[ht:Fe P t kt e q][hz:OI P e (E z)](hx:ev F x=some (.map (some b)))(hy:ev F y=some (.int q k))[hm:Fp H b β q E l f]:
  VS P N c ⟨d, .lookup t x y true,ty,ps,af,g⟩ F H (.tuple #[E (nV l k z), .bool (pG l k)]):=aG (by simp) λa w hf _ hp=>by
 simp[execOp,aI hf hx,aI hf hy,oP w ht hz (hm.Zb hp),Result.andThen]
theorem Li{x y z:Operand}{t kt e:TypeId}{k:Int}{v:Value}(u:β)[ht:Fe P t kt e q](hx:ev F x=some (.map (some b)))(hy:ev F y=some (.int q k))(hz:ev F z=some v)[hm:Fp H b β q E l f](hv:v=E u):
  RX (α:=Unit) P N c ⟨d, .mapUpdate t x y z,ty,ps,af,g⟩ F H (λ_ =>True) (λ_ =>undef) (λ_ =>f (Mp b q E (tw l k u))):=λD a w next Q hst hk=>by
 subst hv;obtain⟨es,clock,h1,h2⟩:=hm.Zb hst.hp;obtain⟨t1,t2⟩:=ht.ok;have hf:=nF (k:=k) w t2 h2;have hc:∀em,(Instr.checkKey em 10000 kt (.int q k)).run P w= .ok () w:=λem=>MapKept.run_checkKey (k:= .int q k) t2 (show q=q from rfl) em 9999;cases UP:fK l k with
 |none=>obtain⟨p1,p2⟩:=hm.put hst h1 (h2.push k u);refine oe (by simp) (w':=w.putObj b (.map (es.push ⟨.int q k,E u,clock⟩) (clock+1))) ?_ (hk () _ trivial p1 (by rw[DH UP];exact p2));rw[UP]at hf;simp[execOp,aI hst.fr hx,aI hst.fr hy,aI hst.fr hz,Instr.mapUpdate,run_underlying t1,MapKept.run_getObj_map h1,hc,hf,MapKept.run_setObj_map _ h1,Result.andThen,World.putObj]
 |some p=>
  have hg:=DI (j:=p.1) (y:=p.2) UP;obtain⟨p1,p2⟩:=hm.put hst h1 (h2.modify p.1 k u);refine oe (by simp) (w':=w.putObj b (.map (es.modify p.1 λe=>{e with key:= .int q k,val:=E u}) clock)) ?_ (hk () _ trivial p1 (by rw[DG (j:=p.1) (y:=p.2) UP];exact p2));rw[UP]at hf;have hkey:((es[p.1]?).map (·.key))=some (.int q k):=by
   have:(es.toList.map λe=>(e.key,e.val))[p.1]? =some (Value.int q k,E p.2):=by rw[h2.kv,List.getElem?_map,hg];rfl
   rw[List.getElem?_map,Array.getElem?_toList]at this;cases he:es[p.1]? with
   |none=>simp[he]at this
   |some e0=>simp[he]at this;simp[this.1]
  simp[execOp,aI hst.fr hx,aI hst.fr hy,aI hst.fr hz,Instr.mapUpdate,run_underlying t1,MapKept.run_getObj_map h1,hc,hf,hkey,MapKept.run_keyThatStays (show MapKept.IsKey (.int q) (.int q k)from rfl),MapKept.run_setObj_map _ h1,Result.andThen,World.putObj]
end rules
end Go.Bw
namespace Go.Bw
open Go Go.RowKit Go.ChangeMaps
section rules
variable {P:Program} {N:Nat} {c:Cx} {F:eu} {H:List aE} {d:Option Tmp} {ty:TypeId} {ps:String} {af:Array Edge} {g:Option (Nat×Bool)} {β:Type} {q:IntKind} {E:β->Value} {l rem:List (Int×β)} {IA:Option (Int×β)} {f:aE->List aE} {b r:Nat}
end rules
end Go.Bw
namespace Go.Rw
open Go Go.Bw
variable {G:Sg}
inductive Ob(G:Sg) where
 |cH (T:Nat) (c:AV G)
 |row (e sz:Nat) (t:Ty) (xs:List (t.T G))
 |aux (b:Bool)
 |gm
 |fm (q:IntKind) (ks:List Int) (vs:AV G)
 |lp (N:Nat) (ks:List Nat) (vs:AV G) (ps:List Nat) (a b:Code)
abbrev Fr(G:Sg):=List (Nat×AV G)
abbrev Os(G:Sg):=List (Nat×Ob G)
def cU{α:Type}:List (Nat×α)->Nat->Option α
 |[],_ =>none
 |(k,v)::r,d=>bif Nat.beq k d then some v else cU r d
structure Ly(G:Sg) where
 F:Fr G
 O:Os G
 D:List (AV G)
abbrev CC(G:Sg):=List (Ly G)
def lkC:CC G->Nat->Option (AV G)
 |[],_ =>none
 |y::r,d=>match cU y.F d with
  |some v=>some v
  |none=>lkC r d
def lH:CC G->Os G
 |[]=>[]
 |y::r=>y.O++lH r
def dfC:CC G->List (AV G)
 |[]=>[]
 |y::r=>y.D++dfC r
structure AS(G:Sg) where
 F:Fr G
 O:Os G
 nx:Nat
 D:List (AV G)
def rf(J:World->Prop)(ρ:aY)(t:Array Value):AV G->Value->Prop
 | .gd j w v,u=>(t[j]? =some (.bool w)->rv J ρ v u)/\(t[j]? ≠some (.bool w)->u=undef)
 |v,u=>rv J ρ v u
def pD(J:World->Prop)(ρ:aY)(F:Fr G)(t:Array Value):Prop:=∀d v,cU F d=some v->∃u,t[d]? =some u/\rf J ρ t v u
def FC(J:World->Prop)(ρ:aY)(C:CC G)(t:Array Value):Prop:=∀y∈C,pD J ρ y.F t
def EB(x:Int×Nat):Int×Value:=(x.1, .func (.func x.2) #[] #[])
def GlX(g:IntKind×List (Int×Nat))(mb:Nat)(w:World):Prop:=w.cell? ⟨0,0,none⟩=some (.map (some mb))/\∃l,MpJ mb g.1 (λv:Value=>v) l w/\∀k,nV l k .nilFunc=nV (g.2.map EB) k .nilFunc/\pG l k=pG (g.2.map EB) k
def Sk(G:Sg)(J:World->Prop):Prop:=∀g,G.gt=some g->∃mb,∀w,J w->GlX g mb w
theorem Sk.mono{J J':World->Prop}(h:Sk G J)(m:∀w,J' w->J w):Sk G J':=λg hg=>by obtain⟨mb,k⟩:=h g hg;exact⟨mb,λw q=>k w (m w q)⟩
def VL:Bool->Obj->Prop
 |true,o=>o= .deferred (some [])
 |false,o=>∃rec,o= .loop rec
def xI:Os G->Bool
 |[]=>true
 |(_, .aux false)::_ =>false
 |_ ::r=>xI r
theorem Cj{B:Os G}:∀{A:Os G},xI (A++B)=true->xI B=true:=by
 intro A
 induction A with
 |nil=>exactλh=>h
 |cons p r ih=>
  intro h;obtain⟨k,o⟩:=p;cases o with
  |aux b=>cases b with
   |true=>exact ih h
   |false=>cases h
  |cH T c=>exact ih h
  |row e sz t xs=>exact ih h
  |gm=>exact ih h
  |fm q ks vs=>exact ih h
  |lp _ _ _ _ _ _ =>exact ih h
structure Sn(c:Cx)(C:CC G)(w:World):Prop where
 s:aO c.bs c.w0 w
 n:xI (lH C)=true->c.ro=none
theorem Sn.ext{c:Cx}{C:CC G}{w w':World}(h:Sn c C w)(k:aO [] w w'):Sn c C w':=⟨h.s.ext k,h.n⟩
theorem Sn.size{c:Cx}{C:CC G}{w:World}(h:Sn c C w):c.w0.heap.size<=w.heap.size:=h.s.size
structure air(N:Nat)(ks:List Nat)(us:List Value)(ps:List Nat)(a b:Code)(rec:Loop):Prop where
 sz:rec.tmps.size=N
 fr:∀(j d:Nat) (u:Value),ks[j]? =some d->us[j]? =some u->rec.tmps[d]? =some u
 ps:rec.params=ps.toArray
 aiL:rec.assign=a
 bd:rec.body=b
 st:rec.state= .ready
 pn:rec.pending=none
def ro(J:World->Prop)(ρ:aY)(r:Nat):Ob G->aE->Prop
 | .cH T c,AH=>∃b u,ρ r=some (dB b 0)/\AH= .cells b T u.cells.toList/\rv J ρ c u
 | .row e sz t xs,AH=>∃v ws,ρ r=some v/\AH= .row v e sz xs.length ws/\su v xs.length/\(LA (t.L G) xs.length).eI J ws (λi=>xs.getD i default)/\(t.L G).n=sz
 | .aux b,AH=>∃n o,ρ r=some (dB n 0)/\AH= .obj n o/\VL b o
 | .gm,AH=>(∃mb g,ρ r=some (.map (some mb))/\G.gt=some g/\∀w,J w->GlX g mb w)/\AH= .row (.slice none 0 0) 0 1 0 []
 | .fm q ks vs,AH=>∃b es ck us,ρ r=some (.map (some b))/\AH= .obj b (.map es ck)/\AQ q (λv:Value=>v) es ck (ks.zip us)/\rl J ρ vs us/\us.length=ks.length
 | .lp N ks vs ps a b,AH=>∃n rec us,ρ r=some (dB n 0)/\AH= .obj n (.loop rec)/\rl J ρ vs us/\air N ks us ps a b rec
inductive RO(J:World->Prop)(ρ:aY):Os G->List aE->Prop
 |nil:RO J ρ [] []
 |cons {r:Nat} {o:Ob G} {x:aE} {O:Os G} {H:List aE} (h:ro J ρ r o x) (k:RO J ρ O H):RO J ρ ((r,o)::O) (x::H)
def dr(J:World->Prop)(ρ:aY):AV G->Deferred->Prop
 | .cons (.fn f a c) l,d=>∃fs cs ls:List Value,rl J ρ a fs/\rl J ρ c cs/\rl J ρ l ls/\d={target:= .fn f cs.toArray,args:=(fs++ls).toArray}
 | .ptr r p,d=>p=[]/\∃b,ρ r=some (dB b 0)/\d=Go.Bw.mark b
 |_,_ =>False
inductive DR(J:World->Prop)(ρ:aY):List (AV G)->List Deferred->Prop
 |nil:DR J ρ [] []
 |cons {v:AV G} {d:Deferred} {l:List (AV G)} {D:List Deferred} (h:dr J ρ v d) (k:DR J ρ l D):DR J ρ (v::l) (d::D)
def agB(X:List aE):Prop:=∀w w',Hs X w->Hs X w'->∀b∈bz X,w'.heap[b]? =w.heap[b]?
structure Se(G:Sg)(X:List aE)(J:World->Prop):Prop where
 to:∀w',Hs X w'->J w'
 ex:agB X
 gl:Sk G J
theorem Se.one{X:List aE}{J:World->Prop}(h:Se G X J){x:aE}{w:World}(hx:x.holds w)(hl:∀b∈x.cH,b<w.heap.size):
  ∃q:aE,q.holds w/\q.cH=x.cH/\Se G (q::X) λw=>J w/\Hs [x] w:=by
 have st:∀w1:World,(aE.ext x.cH λw'=>w.heap.size<=w'.heap.size/\∀b∈x.cH,w'.heap[b]? =w.heap[b]?).holds w1->w.heap.size<=w1.heap.size/\∀b∈x.cH,w1.heap[b]? =w.heap[b]? :=λw1 h=>h w1 (Nat.le_refl _) λ_ _ =>rfl;refine⟨.ext x.cH λw'=>w.heap.size<=w'.heap.size/\∀b∈x.cH,w'.heap[b]? =w.heap[b]?,λw' h1 h2=>⟨h1,h2⟩,rfl,λw' hw=>?_,λw1 w2 h1 h2 b hb=>?_,h.gl.mono λw q=>q.1⟩
 ·have h1:=st w' (hw _ List.mem_cons_self).1
  refine⟨h.to w' λr hr=>hw r (aiY _ hr),λr hr=>?_⟩;obtain rfl:=List.mem_singleton.1 hr;exact⟨aE.kB hx h1.1 h1.2,λb hb=>Nat.lt_of_lt_of_le (hl b hb) h1.1⟩
 ·have k1:=st w1 (h1 _ List.mem_cons_self).1
  have k2:=st w2 (h2 _ List.mem_cons_self).1;have hb:b∈x.cH\/b∈bz X:=by simpa[bz,aE.cH]using hb
  rcases hb with hb|hb
  ·rw[k1.2 b hb,k2.2 b hb]
  ·exact h.ex w1 w2 (λr hr=>h1 r (aiY _ hr)) (λr hr=>h2 r (aiY _ hr)) b hb
structure Rl(c:Cx)(N:Nat)(ρ:aY)(J:World->Prop)(HK X:List aE)(C:CC G)(S:AS G)(a:Act)(w:World):Prop where
 tm:a.tmps.size=N
 df:DR J ρ (S.D++dfC C) a.defers
 si:Sn c C w
 fs:pD J ρ S.F a.tmps
 fc:FC J ρ C a.tmps
 kc:∀r o,cU (lH C) r=some o->∃x∈HK,ro J ρ r o x
 hp:∃HS,RO J ρ S.O HS/\bC c.bs c.w0.heap.size (HS++(HK++X)) w
 kn:Se G X J
 fr:∀r,S.nx<=r->ρ r=none
section
variable {J J':World->Prop} {ρ ρ':aY}
theorem rf.mono(m:∀w,J' w->J w){t:Array Value}{v:AV G}{u:Value}(h:rf J ρ t v u):rf J' ρ t v u:=by
 cases v with
 |gd j w v=>exact⟨λe=>(h.1 e).mono m,h.2⟩
 |_ =>exact rl.mono m h
theorem rf.ext(m:ρ.le ρ'){t:Array Value}{v:AV G}{u:Value}(h:rf J ρ t v u):rf J ρ' t v u:=by
 cases v with
 |gd j w v=>exact⟨λe=>(h.1 e).ext m,h.2⟩
 |_ =>exact rl.ext m h
theorem pD.up(mJ:∀w,J' w->J w)(mρ:ρ.le ρ'){F:Fr G}{t:Array Value}(h:pD J ρ F t):pD J' ρ' F t:=λd v e=>by obtain⟨u,h1,h2⟩:=h d v e;exact⟨u,h1,(h2.mono mJ).ext mρ⟩
theorem ro.up(mJ:∀w,J' w->J w)(mρ:ρ.le ρ'){r:Nat}{o:Ob G}{x:aE}(h:ro J ρ r o x):ro J' ρ' r o x:=by
 cases o with
 |cH T c=>obtain⟨b,u,h1,h2,h3⟩:=h;exact⟨b,u,mρ _ _ h1,h2,(h3.mono mJ).ext mρ⟩
 |row e sz t xs=>obtain⟨v,ws,h1,h2,h3,h4,h5⟩:=h;exact⟨v,ws,mρ _ _ h1,h2,h3,cP.mono _ mJ h4,h5⟩
 |aux b=>obtain⟨n,x,h1,h2⟩:=h;exact⟨n,x,mρ _ _ h1,h2⟩
 |gm=>obtain⟨⟨mb,g,h1,h2,h3⟩,h4⟩:=h;exact⟨⟨mb,g,mρ _ _ h1,h2,λw q=>h3 w (mJ w q)⟩,h4⟩
 |fm q ks vs=>obtain⟨b,es,ck,us,h1,h2,h3,h4,h5⟩:=h;exact⟨b,es,ck,us,mρ _ _ h1,h2,h3,(h4.mono mJ).ext mρ,h5⟩
 |lp N ks vs ps a b=>obtain⟨n,rec,us,h1,h2,h3,h4⟩:=h;exact⟨n,rec,us,mρ _ _ h1,h2,(h3.mono mJ).ext mρ,h4⟩
theorem RO.up(mJ:∀w,J' w->J w)(mρ:ρ.le ρ'){O:Os G}{H:List aE}(h:RO J ρ O H):RO J' ρ' O H:=by
 induction h with
 |nil=>exact .nil
 |cons h _ ih=>exact .cons (h.up mJ mρ) ih
theorem dr.up(mJ:∀w,J' w->J w)(mρ:ρ.le ρ'){v:AV G}{d:Deferred}(h:dr J ρ v d):dr J' ρ' v d:=by
 unfold dr at h;split at h
 ·obtain⟨fs,cs,ls,h1,h2,h3,h4⟩:=h
  exact⟨fs,cs,ls,(h1.mono mJ).ext mρ,(h2.mono mJ).ext mρ,(h3.mono mJ).ext mρ,h4⟩
 ·obtain⟨rfl,b,h1,h2⟩:=h
  exact⟨rfl,b,mρ _ _ h1,h2⟩
 ·exact h.elim
theorem DR.up(mJ:∀w,J' w->J w)(mρ:ρ.le ρ'){l:List (AV G)}{D:List Deferred}(h:DR J ρ l D):DR J' ρ' l D:=by
 induction h with
 |nil=>exact .nil
 |cons h _ ih=>exact .cons (h.up mJ mρ) ih
def Kw(d:Nat):Fr G->Bool
 |[]=>true
 |(_,v)::r=>(match v with
  | .gd j _ _ => !Nat.beq j d
  |_ =>true)&&Kw d r
theorem abS{d:Nat}:∀{F:Fr G},Kw d F=true->∀{k:Nat} {j:Nat} {w:Bool} {v:AV G},cU F k=some (.gd j w v)->j≠d:=by
 intro F
 induction F with
 |nil=>intro _ k j w v h;cases h
 |cons p r ih=>
  obtain⟨k0,v0⟩:=p;intro h k j w v e;simp only[Kw,aiP]at h;simp only[cU]at e;cases hb:Nat.beq k0 k with
  |true=>rw[hb]at e;cases e;intro hj;have:=h.1;simp only[hj,Nat.beq_refl,Bool.not_true,Bool.false_eq_true]at this
  |false=>rw[hb]at e;exact ih h.2 e
theorem Kk{t:Array Value}{v:AV G}{u:Value}{d:Nat}{x:Value}(h:rf J ρ t v u)(hn:∀j w v',v= .gd j w v'->j≠d):rf J ρ (t.setIfInBounds d x) v u:=by
 cases v with
 |gd j w v=>
  have:(t.setIfInBounds d x)[j]? =t[j]? :=by rw[Array.getElem?_setIfInBounds,aiN (Ne.symm (hn j w v rfl))]
  refine⟨λe=>h.1 (this▸e),λe=>h.2 (this▸e)⟩
 |_ =>exact h
theorem pD.put{F:Fr G}{a:Act}{d:Nat}{v:AV G}{u:Value}(h:pD J ρ F a.tmps)(hd:d<a.tmps.size)(hn:Kw d F=true)(hg:∀j w v',v= .gd j w v'->j≠d)(hv:rf J ρ a.tmps v u):
  pD J ρ ((d,v)::F) (a.put (some d) u).tmps:=λk x e=>by
 simp only[cU]at e;cases hb:Nat.beq d k with
 |true=>rw[hb]at e;cases e;have:=aiO hb;subst this;exact⟨u,by simp[Act.put,hd],Kk hv hg⟩
 |false=>
  rw[hb]at e;obtain⟨y,h1,h2⟩:=h k x e;have hne:¬d=k:=λe=>by rw[e,Nat.beq_refl]at hb;cases hb
  exact⟨y,by simp only[Act.put,Array.getElem?_setIfInBounds,aiN hne];exact h1,Kk h2 λj w v' e'=>abS hn (e'▸e)⟩
def Q3(d:Nat):Fr G->Bool
 |[]=>true
 |(k,v)::r=> !Nat.beq k d&&(match v with
  | .gd j _ _ => !Nat.beq j d
  |_ =>true)&&Q3 d r
theorem abQ{d:Nat}:∀{F:Fr G},Q3 d F=true->cU F d=none/\∀{k:Nat} {j:Nat} {w:Bool} {v:AV G},cU F k=some (.gd j w v)->j≠d:=by
 intro F
 induction F with
 |nil=>intro _;exact⟨rfl,λh=>by cases h⟩
 |cons p r ih=>
  obtain⟨k0,v0⟩:=p;intro h;simp only[Q3,aiP,Bool.not_eq_true']at h;obtain⟨h1,h2⟩:=ih h.2;refine⟨by simp only[cU,h.1.1,cond_false];exact h1,λ{k j w v} e=>?_⟩;simp only[cU]at e;cases hb:Nat.beq k0 k with
  |true=>rw[hb]at e;cases e;intro hj;have:=h.1.2;simp only[hj,Nat.beq_refl,Bool.not_true,Bool.false_eq_true]at this
  |false=>rw[hb]at e;exact h2 e
theorem pD.off{F:Fr G}{a:Act}{d:Nat}{u:Value}(h:pD J ρ F a.tmps)(hn:Q3 d F=true):pD J ρ F (a.put (some d) u).tmps:=λk x e=>by
 obtain⟨h1,h2⟩:=abQ hn;obtain⟨y,h3,h4⟩:=h k x e;have hne:¬d=k:=λq=>by rw[q,e]at h1;cases h1
 exact⟨y,by simp only[Act.put,Array.getElem?_setIfInBounds,aiN hne];exact h3,Kk h4 λj w v' e'=>h2 (e'▸e)⟩
def Jv(d:Nat):AV G->Bool
 | .gd j _ _ => !Nat.beq j d
 |_ =>true
def LZ(d:Nat):CC G->Bool
 |[]=>true
 |y::r=>Q3 d y.F&&LZ d r
theorem abP{d:Nat}:∀{C:CC G},LZ d C=true->∀y∈C,Q3 d y.F=true:=by
 intro C
 induction C with
 |nil=>intro _ y hy;cases hy
 |cons x r ih=>
  intro h y hy;simp only[LZ,aiP]at h;rcases List.mem_cons.1 hy with rfl|hy
  ·exact h.1
  ·exact ih h.2 y hy
def uQ(N:Nat)(C:CC G)(d:Option Tmp)(v:AV G)(S:AS G):Option (AS G):=match d with
 |none=>some S
 |some d=>bif Nat.blt d N&&(Kw d S.F&&LZ d C)&&Jv d v then some {S with F:=(d,v)::S.F}else none
theorem Rl.put{c:Cx}{N:Nat}{HK X:List aE}{C:CC G}{S S':AS G}{a:Act}{w:World}{d:Option Tmp}{v:AV G}{u:Value}(h:Rl c N ρ J HK X C S a w)(hp:uQ N C d v S=some S')(hv:rf J ρ a.tmps v u):
  Rl c N ρ J HK X C S' (a.put d u) w:=by
 cases d with
 |none=>cases hp;exact h
 |some d=>
  unfold uQ at hp;dsimp only at hp;cases hb:(Nat.blt d N&&(Kw d S.F&&LZ d C)&&Jv d v)with
  |false=>rw[hb]at hp;cases hp
  |true=>rw[hb]at hp;cases hp;simp only[aiP]at hb;obtain⟨⟨h1,h2,h3⟩,h4⟩:=hb;refine⟨by simp[Act.put,h.tm],by simpa[Act.put]using h.df,h.si,h.fs.put (by rw[h.tm];simpa[Nat.blt_eq]using h1) h2 (λj w v' e=>?_) hv,(λy hy=>(h.fc y hy).off (abP h3 y hy)),h.kc,h.hp,h.kn,h.fr⟩;subst e;intro hj;simp only[Jv,hj,Nat.beq_refl,Bool.not_true,Bool.false_eq_true]at h4
def avc:Value->Option (AV G)
 | .int k n=>some (.lit k n)
 | .bool b=>some (.kb b)
 | .string s=>some (.str s)
 | .pointer none=>some .ou
 | .slice none 0 0=>some .jD
 | .map none=>some .Ck
 | .nilFunc=>some .ow
 | .nilIface=>some .EX
 |_ =>none
def Mx(C:CC G)(S:AS G):Operand->Option (AV G)
 | .tmp t=>match cU S.F t with
  |some v=>some v
  |none=>lkC C t
 | .const v=>avc v
 | .global _ =>none
 | .func f=>some (.fn (.func f) .nil .nil)
theorem agk{v:Value}{x:AV G}{t:Array Value}(h:avc v=some x):rf J ρ t x v:=by unfold avc at h;split at h<;>first|(cases h;rfl)|cases h
theorem Ux{t:Array Value}:∀{C:CC G} {d:Nat} {v:AV G},FC J ρ C t->lkC C d=some v->∃u,t[d]? =some u/\rf J ρ t v u:=by
 intro C
 induction C with
 |nil=>intro d v _ h;cases h
 |cons y r ih=>
  intro d v hf h;simp only[lkC]at h;split at h
  ·rename_i v' hv;cases h;exact hf y List.mem_cons_self d _ hv
  ·exact ih (λz hz=>hf z (aiY _ hz)) h
theorem FC.up(mJ:∀w,J' w->J w)(mρ:ρ.le ρ'){C:CC G}{t:Array Value}(h:FC J ρ C t):FC J' ρ' C t:=λy hy=>(h y hy).up mJ mρ
theorem Rl.ev{c:Cx}{N:Nat}{HK X:List aE}{C:CC G}{S:AS G}{a:Act}{w:World}(h:Rl c N ρ J HK X C S a w){x:Operand}{v:AV G}(e:Mx C S x=some v):rf J ρ a.tmps v (a.eval x):=by
 cases x with
 |tmp t=>
  simp only[Mx]at e;cases h1:cU S.F t with
  |some v'=>
   rw[h1]at e;cases e;obtain⟨u,h2,h3⟩:=h.fs t _ h1;have:a.eval (.tmp t)=u:=by simp[Act.eval,h2]
   rw[this];exact h3
  |none=>
   rw[h1]at e;obtain⟨u,h2,h3⟩:=Ux h.fc e;have:a.eval (.tmp t)=u:=by simp[Act.eval,h2]
   rw[this];exact h3
 |const v'=>exact agk e
 |global g=>cases e
 |func f=>cases e;exact⟨[],[],rfl,rfl,rfl⟩
def aY.fr(ρ:aY)(n:Nat):Prop:=∀r,n<=r->ρ r=none
def aY.to(ρ ρ':aY)(n:Nat):Prop:=∀r,r<n->ρ' r=ρ r
theorem aY.to.le{n:Nat}(h:ρ.to ρ' n)(f:ρ.fr n):ρ.le ρ':=λr v e=>by
 by_cases hr:r<n
 ·rw[h r hr];exact e
 ·rw[f r (by omega)]at e;cases e
theorem aY.to.trans{ρ'':aY}{n m:Nat}(h:ρ.to ρ' n)(k:ρ'.to ρ'' m)(hn:n<=m):ρ.to ρ'' n:=λr hr=>(k r (by omega)).trans (h r hr)
theorem aY.dM(ρ:aY)(n:Nat):ρ.to ρ n:=λ_ _ =>rfl
def aY.set(ρ:aY)(n:Nat)(v:Value):aY:=λr=>if r=n then some v else ρ r
theorem aY.gO(ρ:aY)(n:Nat)(v:Value):ρ.set n v n=some v:=by simp[aY.set]
theorem aY.kg(ρ:aY)(n:Nat)(v:Value):ρ.to (ρ.set n v) n:=λr hr=>by simp[aY.set,Nat.ne_of_lt hr]
theorem aY.wv{n:Nat}(h:ρ.fr n)(v:Value):(ρ.set n v).fr (n+1):=λr hr=>by unfold aY.set;rw[aiN (by omega)];exact h r (by omega)
end
end Go.Rw
namespace Go.Rw
open Go Go.Bw
variable {G:Sg}
abbrev OP(G:Sg):=∀i,List (Fd G i)
structure PR(G:Sg)(t:Ty) where
 m:Ty
 get:t.T G->m.T G
 set:t.T G->m.T G->t.T G
def path(F:OP G):List sq->(t:Ty)->Option (PR G t)
 |[],t=>some ⟨t,λx=>x,λ_ v=>v⟩
 | .C6 j o::r, .st i=>match(F i)[j]? with
  |some f=>bif Nat.beq f.off o then(match path F r f.ty with
   |some q=>some ⟨q.m,λx=>q.get (f.get x),λx v=>f.set x (q.set (f.get x) v)⟩
   |none=>none)else none
  |none=>none
 | .idx k sz i::r, .lK n e=>bif Nat.beq n k&&Nat.beq sz (e.L G).n then(match path F r e with
   |some q=>some ⟨q.m,λx=>q.get (x i.toNat),λx v=>iD x i.toNat (q.set (x i.toNat) v)⟩
   |none=>none)else none
 |_,_ =>none
theorem Ko{F:OP G}:∀{p:List sq} {t:Ty} {q:PR G t},path F p t=some q->(∀s∈p,s.ok)->aX (t.L G) (q.m.L G) (eJ p) q.get q.set:=by
 intro p
 induction p with
 |nil=>intro t q h _;cases h;exact aX.id
 |cons s r ih=>
  intro t q h hs;have hr:=λs' hs'=>hs s' (aiY _ hs');cases s with
  |C6 j o=>
   cases t with
   |st i=>
    simp only[path]at h;split at h
    ·rename_i f hf
     cases hb:Nat.beq f.off o with
     |false=>rw[hb]at h;cases h
     |true=>
      rw[hb]at h;simp only[cond_true]at h;split at h
      ·rename_i q' hq
       cases h;have:=f.ok.comp (ih hq hr);rw[aiO hb]at this;exact this
      ·cases h
    ·cases h
   |_ =>cases h
  |idx k sz i=>
   cases t with
   |lK n e=>
    simp only[path]at h;cases hb:(Nat.beq n k&&Nat.beq sz (e.L G).n)with
    |false=>rw[hb]at h;cases h
    |true=>
     rw[hb]at h;simp only[cond_true]at h;simp only[aiP]at hb;have e1:=aiO hb.1;have e2:=aiO hb.2;subst e1;split at h
     ·rename_i q' hq
      cases h;have hi:dg i n=true:=hs _ List.mem_cons_self;exact(aX.idx (L:=e.L G) (m:=n) i.toNat (bW hi).2 e2).comp (ih hq hr)
     ·cases h
   |_ =>cases h
structure PL(G:Sg)(e:Ty) where
 m:Ty
 i:Int
 get:e.T G->m.T G
 set:e.T G->m.T G->e.T G
def Gr(F:OP G)(e:Ty):List sq->Option (PL G e)
 | .idx _ _ i::r=>match path F r e with
  |some q=>some ⟨q.m,i,q.get,q.set⟩
  |none=>none
 |_ =>none
theorem LU{F:OP G}{e:Ty}{n sz:Nat}{i:Int}{r:List sq}{q:PL G e}(h:Gr F e (.idx n sz i::r)=some q)(hs:∀s∈(.idx n sz i::r:List sq),s.ok)(he:sz=(e.L G).n){m:Nat}(hi:i.toNat<m):
  q.i=i/\aX (LA (e.L G) m) (q.m.L G) (eJ (.idx n sz i::r)) (λx=>q.get (x i.toNat)) (λx v=>iD x i.toNat (q.set (x i.toNat) v)):=by
 simp only[Gr]at h;split at h
 ·rename_i q' hq
  cases h;exact⟨rfl,(aX.idx (L:=e.L G) (m:=m) i.toNat hi he).comp (Ko hq λs hs'=>hs s (aiY _ hs'))⟩
 ·cases h
def A7:(t:Ty)->AV G->Option (t.T G)
 | .int k, .int l n=>bif Nat.beq (Ty.bU.ik l) (Ty.bU.ik k)then some n else none
 | .int k, .lit l n=>bif Nat.beq (Ty.bU.ik l) (Ty.bU.ik k)then some n else none
 | .bool, .bool b=>some b
 | .bool, .kb b=>some b
 | .sl _, .jD=>some []
 |t, .dat t' x=>if h:t'.bU t=true then some (Ty.uP h▸x)else none
 |_,_ =>none
theorem TF{J:World->Prop}{e:Ty}:wz (G:=G) J (.sl e) ([]:List (e.T G)) (.slice none 0 0):=⟨⟨_,[],rfl,BF.nil⟩,nofun,λ_ =>rfl⟩
theorem zH{J:World->Prop}{ρ:aY}{t:Ty}{v:AV G}{x:t.T G}{u:Value}(h:A7 t v=some x)(hv:rv J ρ v u):wz J t x u:=by
 have hd:∀{t':Ty} {y:t'.T G},v= .dat t' y->(if h:t'.bU t=true then some (Ty.uP h▸y:t.T G)else none)=some x->wz J t x u:=by
  intro t' y e k;subst e;by_cases hs:t'.bU t=true
  ·rw[dif_pos hs]at k
   obtain⟨u',e1,hr⟩:=hv;cases e1;have:=Ty.uP hs;subst this;cases k;exact hr
  ·rw[dif_neg hs]at k;cases k
 unfold A7 at h;split at h
 ·rename_i k l n
  cases hb:Nat.beq (Ty.bU.ik l) (Ty.bU.ik k)with
  |false=>rw[hb]at h;cases h
  |true=>rw[hb]at h;cases h;obtain rfl:=GM hb;exact Pg (t:= .int l) hv
 ·rename_i k l n
  cases hb:Nat.beq (Ty.bU.ik l) (Ty.bU.ik k)with
  |false=>rw[hb]at h;cases h
  |true=>rw[hb]at h;cases h;obtain rfl:=GM hb;exact Pg (ρ:=ρ) (t:= .int l) hv
 ·cases h;exact Pg (t:= .bool) hv
 ·cases h;exact Pg (ρ:=ρ) (t:= .bool) hv
 ·cases h
  have:[u]=[.slice none 0 0]:=hv;cases this;exact TF
 ·exact hd rfl h
 ·cases h
def partAt:AV G->Nat->Option (Nat×AV G)
 | .part w a b,o=>bif Nat.beq o 0 then some (w,a)else bif Nat.ble w o then partAt b (o-w)else none
 |_,_ =>none
def B7:AV G->Nat->AV G->Option (AV G)
 | .part w a b,o,v=>bif Nat.beq o 0 then some (.part w v b)else bif Nat.ble w o then(match B7 b (o-w) v with
   |some b'=>some (.part w a b')
   |none=>none)else none
 |_,_,_ =>none
def Jr(F:OP G):AV G->List sq->Option (AV G)
 |v,[]=>some v
 | .dat t x,p=>match path F p t with
  |some q=>some (mk q.m (q.get x))
  |none=>none
 | .st a, .C6 _ o::r=>match partAt a o with
  |some (_,v)=>Jr F v r
  |none=>none
 |_,_ =>none
theorem DB{J:World->Prop}{ρ:aY}:∀{a:AV G} {o w:Nat} {v:AV G} {cs:List Value},partAt a o=some (w,v)->rl J ρ a cs->∃u,rv J ρ v u/\(cs.drop o).take w=u.cells.toList/\u.cells.size=w/\o+w<=cs.length:=by
 intro a
 induction a with
 |part w0 a b _ q9=>
  intro o w v cs h hr;obtain⟨c1,c2,u,rfl,h1,h2,h3,h4⟩:=hr;unfold partAt at h;cases h0:Nat.beq o 0 with
  |true=>rw[h0]at h;cases h;obtain rfl:=aiO h0;refine⟨u,h2,?_,by rw[← h1, ← h3,Array.length_toList],by simp;omega⟩;rw[List.drop_zero, ← h1,List.take_left,h3]
  |false=>
   rw[h0]at h;cases hb:Nat.ble w0 o with
   |false=>rw[hb]at h;cases h
   |true=>rw[hb]at h;have hle:=Nat.le_of_ble_eq_true hb;obtain⟨u',k1,k2,k3,k4⟩:=q9 h h4;refine⟨u',k1,?_,k3,by simp;omega⟩;rw[← k2,List.drop_append,List.drop_of_length_le (by omega),List.nil_append,h1]
 |_ =>intro o w v cs h;cases h
theorem Fy{J:World->Prop}:∀{t:Ty} {x:t.T G} {cs:List Value},(t.L G).eI J cs x->∃u:Value,u.cells.toList=cs/\wz J t x u:=by
 intro t x cs h;cases t with
 |int k=>have h:cs=[.int k x]:=h;subst h;exact⟨.int k x,rfl,rfl,nofun,λ_ =>rfl⟩
 |bool=>have h:cs=[.bool x]:=h;subst h;exact⟨.bool x,rfl,rfl,nofun,λ_ =>rfl⟩
 |st i=>exact⟨.agg cs.toArray,rfl,h,λ_ =>⟨cs,rfl⟩,nofun⟩
 |lK n e=>exact⟨.agg cs.toArray,rfl,h,λ_ =>⟨cs,rfl⟩,nofun⟩
 |sl e=>obtain⟨v,ws,rfl,hf⟩:=h;have hc:v.cells.toList=[v]:=hf.sl.cells;exact⟨v,hc,⟨v,ws,hc,hf⟩,nofun,λ_ =>by rw[← hc]⟩
theorem GF{F:OP G}{J:World->Prop}{ρ:aY}:∀{p:List sq} {c v:AV G} {u:Value},Jr F c p=some v->rv J ρ c u->(∀s∈p,s.ok)->
  ∃u',rv J ρ v u'/\(u.cells.toList.drop (eJ p)).take u'.cells.size=u'.cells.toList/\eJ p+u'.cells.size<=u.cells.size:=by
 intro p
 induction p with
 |nil=>
  intro c v u h hr _;have:c=v:=by unfold Jr at h;exact Option.some.inj h
  subst this;exact⟨u,hr,by rw[eJ,List.drop_zero,List.take_of_length_le (by simp)],by simp[eJ]⟩
 |cons s r ih=>
  intro c v u h hr hs;cases c with
  |dat t x=>
   simp only[Jr]at h;split at h
   ·rename_i q hq
    cases h;obtain⟨u0,e,hd⟩:=hr;cases e;have hp:=Ko hq hs;have hg:=hp.get hd.1;obtain⟨u',k1,k2⟩:=Fy hg;have hl:=(q.m.L G).len hg;have hl2:=(t.L G).len hd.1;have hle:=hp.le;rw[← k1]at hl;rw[Array.length_toList]at hl hl2;exact⟨u',I4 k2,by rw[hl,k1],by omega⟩
   ·cases h
  |st a=>
   cases s with
   |C6 j o=>
    simp only[Jr]at h;split at h
    ·rename_i w c' hp
     obtain⟨cs,e,h1,h2⟩:=hr;cases e;obtain⟨u1,k1,k2,k3,k4⟩:=DB hp h1;obtain⟨u',m1,m2,m3⟩:=ih h k1 λs hs'=>hs s (aiY _ hs');refine⟨u',m1,?_,?_⟩
     ·rw[← m2, ← k2]
      show(cs.drop (o+eJ r)).take _ =_;rw[List.drop_take,List.take_take,List.drop_drop,Nat.min_eq_left (by omega)]
     ·show o+eJ r+_ <=cs.length
      omega
    ·cases h
   |idx _ _ _ =>simp[Jr]at h
  |_ =>simp[Jr]at h
def AV.one:AV G->Bool
 | .int _ _ =>true
 | .lit _ _ =>true
 | .bool _ =>true
 | .kb _ =>true
 | .str _ =>true
 | .dat t _ => !t.ag
 | .ptr _ _ =>true
 | .ou=>true
 | .jD=>true
 | .row _ =>true
 | .Dz _ _ _ _ _ _ =>true
 | .mp _ =>true
 | .Ck=>true
 | .yl _ =>true
 | .fn _ _ _ =>true
 | .ow=>true
 | .jS _ _ =>true
 | .EX=>true
 |_ =>false
theorem DC{J:World->Prop}{ρ:aY}{v:AV G}{u:Value}(h:v.one=true)(hr:rv J ρ v u):u.cells= #[u]/\u.oneCell'=true:=by
 cases v<;>simp only[AV.one,Bool.false_eq_true]at h
 case int=>have hr:[u]=_ :=hr;cases hr;exact⟨rfl,rfl⟩
 case lit=>have hr:[u]=_ :=hr;cases hr;exact⟨rfl,rfl⟩
 case bool=>have hr:[u]=_ :=hr;cases hr;exact⟨rfl,rfl⟩
 case kb=>have hr:[u]=_ :=hr;cases hr;exact⟨rfl,rfl⟩
 case str=>have hr:[u]=_ :=hr;cases hr;exact⟨rfl,rfl⟩
 case dat t x=>obtain⟨u',e,h1,_,h3⟩:=hr;cases e;have h3:=h3 (by simpa using h);refine⟨h3,?_⟩;have:=(t.L G).one h1 u (by rw[h3];simp);exact this
 case ptr=>obtain⟨⟨b,o,_,e⟩,_⟩:=hr;cases e;exact⟨rfl,rfl⟩
 case ou=>have hr:[u]=_ :=hr;cases hr;exact⟨rfl,rfl⟩
 case jD=>have hr:[u]=_ :=hr;cases hr;exact⟨rfl,rfl⟩
 case row r=>obtain⟨_,_,_,_,e⟩:=hr;cases e;exact⟨rfl,rfl⟩
 case Dz=>obtain⟨⟨b,o,_,e⟩,_⟩:=hr;cases e;exact⟨rfl,rfl⟩
 case mp r=>obtain⟨_,_,e,h1⟩:=hr;cases e;exact h1
 case Ck=>have hr:[u]=_ :=hr;cases hr;exact⟨rfl,rfl⟩
 case yl=>obtain⟨_,_,e⟩:=hr;cases e;exact⟨rfl,rfl⟩
 case fn=>obtain⟨_,_,e,_⟩:=hr;cases e;exact⟨rfl,rfl⟩
 case ow=>have hr:[u]=_ :=hr;cases hr;exact⟨rfl,rfl⟩
 case jS=>obtain⟨_,e,_⟩:=hr;cases e;exact⟨rfl,rfl⟩
 case EX=>have hr:[u]=_ :=hr;cases hr;exact⟨rfl,rfl⟩
theorem DD{J:World->Prop}{ρ:aY}{v:AV G}{u:Value}(h:v.one=true)(hr:rv J ρ v u):u.cells.toList=[u]/\u.cells.size=1:=by
 have:=(DC h hr).1;constructor
 ·rw[this]
 ·rw[this];rfl
def parts:AV G->Option Nat
 | .nil=>some 0
 | .part w _ b=>match parts b with
  |some n=>some (w+n)
  |none=>none
 |_ =>none
theorem yH{J:World->Prop}{ρ:aY}:∀{a:AV G} {n:Nat} {cs:List Value},parts a=some n->rl J ρ a cs->cs.length=n:=by
 intro a
 induction a with
 |nil=>intro n cs h hr;cases h;have:cs=[]:=hr;subst this;rfl
 |part w a b _ q9=>
  intro n cs h hr;simp only[parts]at h;split at h
  ·rename_i m hm
   cases h;obtain⟨c1,c2,u,rfl,h1,_,_,h4⟩:=hr;simp[h1,q9 hm h4]
  ·cases h
 |_ =>intro n cs h;cases h
def AV.ncl(v:AV G):Option Nat:=bif v.one then some 1 else match v with
 | .dat t _ =>some (t.L G).n
 | .st a=>parts a
 |_ =>none
theorem NO{J:World->Prop}{ρ:aY}{v:AV G}{n:Nat}{l:List Value}(h:v.ncl=some n)(hr:rl J ρ v l):∃u,l=[u]/\u.cells.size=n/\oy u.cells.toList:=by
 unfold AV.ncl at h;cases hb:v.one with
 |true=>
  rw[hb]at h;cases h;have key:∀u,l=[u]->∃u,l=[u]/\u.cells.size=1/\oy u.cells.toList:=λu e=>by subst e;obtain⟨k1,k2⟩:=DC hb hr;refine⟨u,rfl,(DD hb hr).2,?_⟩;rw[k1];intro x hx;simp at hx;subst hx;exact k2
  cases v<;>simp only[AV.one,Bool.false_eq_true]at hb
  case dat t x=>obtain⟨u,e,_⟩:=hr;exact key u e
  case ptr=>obtain⟨⟨b,o,_,e⟩,_⟩:=hr;exact key _ e
  case row=>obtain⟨_,_,_,_,e⟩:=hr;exact key _ e
  case Dz=>obtain⟨⟨b,o,_,e⟩,_⟩:=hr;exact key _ e
  case mp=>obtain⟨_,_,e,_⟩:=hr;exact key _ e
  case yl=>obtain⟨_,_,e⟩:=hr;exact key _ e
  case fn=>obtain⟨_,_,e,_⟩:=hr;exact key _ e
  case jS=>obtain⟨_,e,_⟩:=hr;exact key _ e
  all_goals exact key _ hr
 |false=>
  rw[hb]at h;simp only[cond_false]at h;split at h
  ·rename_i t x
   cases h;obtain⟨u,e,h1,_⟩:=hr;exact⟨u,e,by rw[← Array.length_toList];exact(t.L G).len h1,(t.L G).one h1⟩
  ·obtain⟨cs,e,h1,h2⟩:=hr
   exact⟨_,e,yH h h1,h2⟩
  ·cases h
def stW(c v:AV G):Option (AV G):=bif c.one&&v.one then some v else match c,v with
 | .unk n,v=>match v.ncl with
  |some m=>bif Nat.beq n m then some v else none
  |none=>none
 | .dat t _,v=>match A7 t v with
  |some x=>some (mk t x)
  |none=>none
 | .st a, .st b=>match parts a,parts b with
  |some n,some m=>bif Nat.beq n m then some (.st b)else none
  |_,_ =>none
 |_,_ =>none
theorem abh{J:World->Prop}{ρ:aY}{c v c':AV G}{u uv:Value}(h:stW c v=some c')(hc:rv J ρ c u)(hv:rv J ρ v uv):rv J ρ c' uv/\uv.cells.size=u.cells.size/\oy uv.cells.toList:=by
 unfold stW at h;cases hb:(c.one&&v.one)with
 |true=>rw[hb]at h;cases h;simp only[aiP]at hb;obtain⟨k1,k2⟩:=DC hb.2 hv;refine⟨hv,by rw[(DD hb.1 hc).2,(DD hb.2 hv).2],?_⟩;rw[k1];intro x hx;simp at hx;subst hx;exact k2
 |false=>
  rw[hb]at h;simp only[cond_false]at h;split at h
  ·rename_i n
   split at h
   ·rename_i m hm
    cases hq:Nat.beq n m with
    |false=>rw[hq]at h;cases h
    |true=>rw[hq]at h;cases h;obtain⟨u1,e1,k1,k2⟩:=NO hm hv;cases e1;obtain⟨u2,e2,k3⟩:=hc;cases e2;exact⟨hv,by rw[k1,k3,aiO hq],k2⟩
   ·cases h
  ·rename_i t x
   split at h
   ·rename_i y hy
    cases h;obtain⟨u',e,k1,_⟩:=hc;cases e;have k2:=zH hy hv;refine⟨I4 k2,?_,(t.L G).one k2.1⟩;rw[← Array.length_toList,(t.L G).len k2.1, ← (t.L G).len k1,Array.length_toList]
   ·cases h
  ·split at h
   ·rename_i n m h1 h2
    cases hq:Nat.beq n m with
    |false=>rw[hq]at h;cases h
    |true=>rw[hq]at h;cases h;obtain⟨cs,e,k1,_⟩:=hc;cases e;obtain⟨ds,e,k2,k3⟩:=hv;cases e;have:=aiO hq;refine⟨⟨ds,rfl,k2,k3⟩,?_,k3⟩;show ds.length=cs.length;rw[yH h1 k1,yH h2 k2,this]
   ·cases h
  ·cases h
def Nq(F:OP G):AV G->List sq->AV G->Option (AV G)
 |c,[],v=>stW c v
 | .dat t x,p,v=>match path F p t with
  |some q=>match A7 q.m v with
   |some y=>some (.dat t (q.set x y))
   |none=>none
  |none=>none
 | .st a, .C6 _ o::r,v=>match partAt a o with
  |some (_,c)=>match Nq F c r v with
   |some c'=>match B7 a o c' with
    |some a'=>some (.st a')
    |none=>none
   |none=>none
  |none=>none
 |_,_,_ =>none
theorem Nt{J:World->Prop}{ρ:aY}:∀{a:AV G} {o w:Nat} {v v' a':AV G} {cs:List Value} {u':Value},partAt a o=some (w,v)->B7 a o v'=some a'->rl J ρ a cs->rv J ρ v' u'->u'.cells.size=w->rl J ρ a' (bN cs o u'.cells.toList):=by
 intro a
 induction a with
 |part w0 a b _ q9=>
  intro o w v v' a' cs u' h hp hr hv hw;obtain⟨c1,c2,u,rfl,h1,h2,h3,h4⟩:=hr;unfold partAt at h;unfold B7 at hp;have hl:u'.cells.toList.length=w:=by rw[Array.length_toList];exact hw
  cases h0:Nat.beq o 0 with
  |true=>
   rw[h0]at h hp;cases h;cases hp;obtain rfl:=aiO h0;refine⟨u'.cells.toList,c2,u',?_,hl,hv,rfl,h4⟩;have e1:(c1++c2).drop (0+u'.cells.toList.length)=c2:=by rw[Nat.zero_add,hl, ← h1,List.drop_left]
   unfold bN;rw[e1];simp
  |false=>
   rw[h0]at h hp;simp only[cond_false]at h hp;cases hb:Nat.ble w0 o with
   |false=>rw[hb]at h;cases h
   |true=>
    rw[hb]at h hp;simp only[cond_true]at h hp;have hle:=Nat.le_of_ble_eq_true hb;split at hp
    ·rename_i b' hb'
     cases hp;refine⟨c1,_,u,?_,h1,h2,h3,q9 h hb' h4 hv hw⟩;have:o=c1.length+(o-w0):=by omega
     rw[this,B6];congr 2;omega
    ·cases hp
 |_ =>intro o w v v' a' cs u' h;cases h
theorem Kc{F:OP G}{J:World->Prop}{ρ:aY}{v:AV G}{uv:Value}(hv:rv J ρ v uv):∀{p:List sq} {c c':AV G} {u:Value},Nq F c p v=some c'->rv J ρ c u->(∀s∈p,s.ok)->
  ∃u',rv J ρ c' u'/\u'.cells.toList=bN u.cells.toList (eJ p) uv.cells.toList/\eJ p+uv.cells.size<=u.cells.size/\oy uv.cells.toList:=by
 intro p
 induction p with
 |nil=>
  intro c c' u h hr _;have h:stW c v=some c':=by unfold Nq at h;exact h
  obtain⟨k1,k2,k3⟩:=abh h hr hv;refine⟨uv,k1,?_,by simp[eJ,k2],k3⟩;simp[bN,eJ, ← k2]
 |cons s r ih=>
  intro c c' u h hr hs;cases c with
  |dat t x=>
   simp only[Nq]at h;split at h
   ·rename_i q hq
    split at h
    ·rename_i y hy
     cases h;obtain⟨u0,e,hd⟩:=hr;cases e;have hp:=Ko hq hs;have hrv:=zH hy hv;have Mi:=hp.set (v:=y) hd.1 hrv.1;have hl:=(q.m.L G).len hrv.1;have hl2:=(t.L G).len hd.1;have hle:=hp.le;rw[Array.length_toList]at hl hl2;obtain⟨u',k1,k2⟩:=Fy Mi;refine⟨u',⟨u',rfl,k2⟩,k1,by omega,(q.m.L G).one hrv.1⟩
    ·cases h
   ·cases h
  |st a=>
   cases s with
   |C6 j o=>
    simp only[Nq]at h;split at h
    ·rename_i w c1 hp
     split at h
     ·rename_i c2 h2
      split at h
      ·rename_i a' ha
       cases h;obtain⟨cs,e,h1,h3⟩:=hr;cases e;obtain⟨u1,k1,k2,k3,k4⟩:=DB hp h1;obtain⟨u',m1,m2,m3,m4⟩:=ih h2 k1 λs hs'=>hs s (aiY _ hs');have hsz:u'.cells.size=w:=by rw[← Array.length_toList,m2,s9 (by simpa using m3),Array.length_toList];exact k3
       have hn:=Nt hp ha h1 m1 hsz;have hcs:bN cs o u'.cells.toList=bN cs (o+eJ r) uv.cells.toList:=by
        rw[m2];refine vL λi=>?_;have hu1:u1.cells.toList.length=w:=by rw[Array.length_toList];exact k3
        have huv:uv.cells.toList.length=uv.cells.size:=Array.length_toList;have hsl:(bN u1.cells.toList (eJ r) uv.cells.toList).length=w:=by rw[s9 (by omega)];exact hu1
        rw[iq (by omega),iq (cs:=cs) (by omega),hsl];by_cases q1:o<=i/\i<o+w
        ·rw[aiM q1,iq (by omega)]
         by_cases q2:eJ r<=i-o/\i-o<eJ r+uv.cells.toList.length
         ·rw[aiM q2,aiM (by omega)];congr 1;omega
         ·rw[aiN q2,aiN (by omega), ← k2,List.getElem?_take,aiM (by omega),List.getElem?_drop];congr 1;omega
        ·rw[aiN q1,aiN (by omega)]
       refine⟨.agg (bN cs o u'.cells.toList).toArray,⟨_,rfl,hn,?_⟩,hcs,?_,m4⟩
       ·rw[hcs]
        intro x hx;simp only[bN,List.mem_append]at hx;rcases hx with(hx|hx)|hx
        ·exact h3 x (List.mem_of_mem_take hx)
        ·exact m4 x hx
        ·exact h3 x (List.mem_of_mem_drop hx)
       ·show o+eJ r+_ <=cs.length
        omega
      ·cases h
     ·cases h
    ·cases h
   |idx _ _ _ =>simp[Nq]at h
  |_ =>simp[Nq]at h
end Go.Rw
namespace Go.Bw
open Go Go.RowKit
section rules
variable {P:Program} {N:Nat} {c:Cx} {D:List Deferred} {Q:Exit->Act->World->Prop} {F:eu} {H:List aE} {d:Option Tmp} {ty:TypeId} {ps:String} {af:Array Edge} {g:Option (Nat×Bool)} {α β γ:Type}
theorem WN{s x:Operand}{t e sz bytes b T cp:Nat}{A:World->Prop}{v:Value}{L:cP α}[bg L]{xs:List α}{y:α}[ht:Lp P t e sz bytes](hf:Fz A v L xs)(hs:ev F s=some (xy v))(hx:ev F x=some (.slice (some ⟨b,0,none⟩) 1 cp))[hc:rm H b T (L.enc y)][k:Kn c H A](hn:L.n=sz)
  (M4:(xs.length+1)*bytes<=140737488355328)(h63:xs.length+1<=9223372036854775807):
  RX P N c ⟨d, .call ⟨.builtin .append, #[s,x], #[t,t]⟩,ty,ps,af,g⟩ F H (λv'=>su v' (xs++[y]).length) (λv'=>v') (λv'=>pE v' e sz L (xs++[y])::H):=λD a w next Q hst hk=>by
 subst hn;obtain⟨i,z,e1,e2,e3,e4,e5,e6,e7⟩:=Lp.get ht.ok;have hro:=hf.ro w (k.ok w hst.si hst.hp);have hcell:=hst.hp.holds _ hc.mem;have hnews:∀(j:Nat) u,(L.enc y)[j]? =some u->w.cell? ((⟨b,0,none⟩:Addr).add j)=some u:=λj u hj=>by rw[Addr.add_lit,Nat.zero_add,qf hcell];exact hj
 have Ml:xs.length+1<=maxLen:=by simp only[maxLen];omega
 have key:∃v' w',(Builtin.append_ #[t,t] ty #[xy v, .slice (some ⟨b,0,none⟩) 1 cp]).run P w= .ok v' w'/\w'.ownsRow w.heap.size e L.n v' (xs.length+1) (dU L xs++L.enc y)/\aO [] w w':=by
  rcases hro.2 with⟨⟨a0,c0,hv⟩,h0⟩|⟨gb,off,cap,hv,h3,h4,h5⟩
  ·subst hv
   have hxs:xs=[]:=List.length_eq_zero_iff.1 h0;subst hxs;cases a0 with
   |none=>obtain⟨v',w',q1,q2,q3,_⟩:=run_append_own w w.heap.size t ty e i z L.n bytes e1 e2 e3 e4 e5 e6 e7 (.slice none 0 0) 0 [] ⟨by simp, .inl ⟨rfl,rfl⟩⟩ ⟨b,0,none⟩ 1 cp (L.enc y) (by rw[gX];omega) hnews (CD L y) (by simpa using Ml) (by simpa using M4) (Nat.le_refl _);exact⟨v',w',q1,q2,aO.vF q3⟩
   |some ad=>obtain⟨v',w',q1,q2,q3⟩:=run_append_arg_grows (P:=P) w t ty e i z L.n bytes e1 e2 e3 e4 e5 e6 e7 ad 0 0 [] (by simp) (by simp) ⟨b,0,none⟩ 1 cp (L.enc y) (by rw[gX];omega) hnews (by omega) (by simpa using Ml) (by simpa using M4);exact⟨v',w',q1,q2,aO.vF q3⟩
  ·subst hv
   obtain⟨v',w',q1,q2,q3⟩:=run_append_arg_grows (P:=P) w t ty e i z L.n bytes e1 e2 e3 e4 e5 e6 e7 ⟨gb,off,none⟩ xs.length xs.length (dU L xs) (lX L xs) (λj u hj=>by rw[Addr.add_lit];exact h5 j u hj) ⟨b,0,none⟩ 1 cp (L.enc y) (by rw[gX];omega) hnews (by omega) Ml M4;exact⟨v',w',q1,q2,aO.vF q3⟩
 obtain⟨v',w',q1,q2,q3⟩:=key;have hrow:(pE v' e L.n L (xs++[y])).holds w':=by unfold pE;rw[qz,I7,List.length_append];exact zL q2
 refine dJ (by simp) (v:=v') (w':=w') ?_ (hk v' w' (su.uT hrow) (hst.si.ext q3) (hst.hp.fresh q3 hrow hst.si.size λb' hb'=>?_))
 ·simp[execOp,resolve,invoke,builtin,aI hst.fr hs,aI hst.fr hx,q1]
 ·exact q2.lt b' (by simpa[pE,aE.cH]using hb')
end rules
end Go.Bw
namespace Go.Bw
open Go Go.RowKit
def oc{α ρ:Type}(o:Option α)(z:Option ρ)(f:α->Option ρ):Option ρ:=match o with
 |none=>z
 |some a=>f a
section rules
variable {P:Program} {N:Nat} {c:Cx} {D:List Deferred} {Q:Exit->Act->World->Prop} {F:eu} {H:List aE} {d:Option Tmp} {ty:TypeId} {ps:String} {af:Array Edge} {g:Option (Nat×Bool)} {α β γ:Type}
def ED(P:Program)(t:Nat):Bool:=match P.underlying t with
 |some (.pointer e)=>Nat.beq e (P.pointee t)
 |_ =>false
theorem zR{t:Nat}(h:ED P t=true):P.underlying t=some (.pointer (P.pointee t)):=by
 unfold ED at h;split at h
 ·rename_i e h1;rw[h1,aiO h]
 ·cases h
theorem Z6{x y:Operand}{T U b o:Nat}(ht:ED P T=true)(hx:ev F x=some (dB b o))(hy:ev F y=some (.pointer none)):VS P N c ⟨d, .binOp .eql T x y U,ty,ps,af,g⟩ F H (.bool false):=
 aG (by simp) λa w hf _ _ =>by have:=run_eql_pointer_nil (P:=P) (w:=w) T (some ⟨b,o,none⟩) (zR ht);simp[execOp,aI hf hx,aI hf hy,eqGuard,dB,this]
theorem Z0{x y:Operand}{T U b o:Nat}(ht:ED P T=true)(hx:ev F x=some (dB b o))(hy:ev F y=some (.pointer none)):VS P N c ⟨d, .binOp .neq T x y U,ty,ps,af,g⟩ F H (.bool true):=
 aG (by simp) λa w hf _ _ =>by have:=run_neq_pointer_nil (P:=P) (w:=w) T (some ⟨b,o,none⟩) (zR ht);simp[execOp,aI hf hx,aI hf hy,eqGuard,dB,this]
theorem Ws{x y:Operand}{T U:Nat}(ht:ED P T=true)(hx:ev F x=some (.pointer none))(hy:ev F y=some (.pointer none)):VS P N c ⟨d, .binOp .eql T x y U,ty,ps,af,g⟩ F H (.bool true):=
 aG (by simp) λa w hf _ _ =>by have:=run_eql_pointer_nil (P:=P) (w:=w) T none (zR ht);simp[execOp,aI hf hx,aI hf hy,eqGuard,this]
theorem Wm{x y:Operand}{T U:Nat}(ht:ED P T=true)(hx:ev F x=some (.pointer none))(hy:ev F y=some (.pointer none)):VS P N c ⟨d, .binOp .neq T x y U,ty,ps,af,g⟩ F H (.bool false):=
 aG (by simp) λa w hf _ _ =>by have:=run_neq_pointer_nil (P:=P) (w:=w) T none (zR ht);simp[execOp,aI hf hx,aI hf hy,eqGuard,this]
theorem Av{z:Value}(hz:z.cells= #[z])(n:Nat):(Builtin.zeroCells z.cells n).toList=List.replicate n z:=by
 rw[hz];simp[Builtin.zeroCells];apply List.ext_getElem
 ·simp
 ·intro i h1 h2
  simp[Nat.mod_one]
theorem WJ{x:Operand}{t e b off n cp T:Nat}{cs cs':List Value}{z:Value}{H':List aE}(ht:EC P t e 1=true)(hz:OI P e z)(hz1:z.cells= #[z])(h1:z.oneCell'=true)(hx:ev F x=some (.slice (some ⟨b,off,none⟩) n cp))(hn:0<n)
  [hr:rm H b T cs](ho:off+n<=cs.length)(hc:bN cs off (List.replicate n z)=cs')[hs:Fg H b cs' H']:
  RX (α:=Unit) P N c ⟨d, .call ⟨.builtin .clear, #[x], #[t]⟩,ty,ps,af,g⟩ F H (λ_ =>True) (λ_ => .tuple #[]) (λ_ =>H'):=λD a w next Q hst hk=>by
 obtain⟨inf,e1,e2,e3⟩:=se.get ht;have hb:w.heap[b]? =some (.cells cs.toArray T (0,0)):=hst.hp.holds _ hr.mem;have hone:oy (List.replicate n z):=λv hv=>by rw[List.eq_of_mem_replicate hv];exact h1
 have hsc:=run_storeCells_at P b off T (List.replicate n z) 0 cs.toArray w hb (by simp;omega) hone;simp only[Nat.add_zero]at hsc;have iG:aO [b] w (w.setRow b cs'.toArray):=⟨rfl,rfl,rfl,by simp,λk _ hk=>setRow_other w b k _ (by simpa using hk)⟩;refine dJ (by simp) (v:= .tuple #[]) (w':=w.setRow b cs'.toArray) ?_ (hk () _ trivial (hst.si.store hst.hp hr.mem (by simp[aE.cH]) iG) (hst.hp.abt hs iG hst.si.size ?_))
 ·have sB:=aI hst.fr hx
  obtain⟨m,rfl⟩:∃m,n=m+1:=⟨n-1,by omega⟩;have hzr:=Nu hz w;have hzc:=Av hz1 (m+1);have e5:(cs.toArray.toList.take off++List.replicate (m+1) z++cs.toArray.toList.drop (off+(List.replicate (m+1) z).length)).toArray=cs'.toArray:=by rw[← hc];rfl
  rw[e5]at hsc;simp[execOp,resolve,invoke,builtin,sB,Builtin.clear_,run_underlying e1,hzr,hzc,hsc]
 ·intro T' acY hT
  have:=setRow_heap w b acY.toArray cs'.toArray T' (0,0) hT;simpa[aE.holds]using this
theorem yF{z:Value}:∀n:Nat,flat (λ_ =>[z]) n=List.replicate n z
 |0=>rfl
 |n+1=>by have:=yF (z:=z) n;rw[List.replicate_succ', ← this];rfl
end rules
end Go.Bw
