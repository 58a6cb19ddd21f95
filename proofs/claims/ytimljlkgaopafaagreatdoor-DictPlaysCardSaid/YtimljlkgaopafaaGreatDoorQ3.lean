/- Part 3 of what a proof leans on; pruned and shortened by a program out of longer texts. -/
import Derived.Test.YtimljlkgaopafaaGreatDoorQ2
namespace Go.Bw
open Go Go.RowKit Go.ChangeShapes Go.WideShapes Go.Deep
def Opn{α:Type}(P:Program)(W:World)(t:TypeId)(L:cZ α)(R:α->Prop):Prop:=∀(H:Type) (enc:TypeId×Value->H) (base:Nat) (spare:Nat->Bool) (held:Bool) (n:Nat) (cs:List Value) (y:DataW H×List MemPlace),DataW.trod enc P W base spare held n t cs=some y->∃z,L.fg (λw=>aQ [] W w) cs z/\R z
section
variable {P:Program} {W:World} {t e:TypeId} {α β:Type}
theorem ae2(hu:P.underlying t=some (.int .u8)):Opn P W t (LI .u8) (λz=>0<=z/\z<=255):=λ_ _ _ _ _ _ _ _ h=>by obtain⟨a,e,_,b⟩:=DataW.trod_int hu h;exact⟨a,e,bounds_u8 b⟩
theorem Sd(hu:P.underlying t=some (.int .u64)):Opn P W t (LI .u64) (λz=>0<=z/\z<=18446744073709551615):=λ_ _ _ _ _ _ _ _ h=>by obtain⟨a,e,_,b⟩:=DataW.trod_int hu h;exact⟨a,e,bounds_u64 b⟩
theorem ae3[Inhabited α]{L:cZ α}[bq L]{R:α->Prop}{sz:Nat}(hu:P.underlying t=some (.slice e))(hc:P.cellsOf e=sz)(hn:L.n=sz)(h0:0<sz)(h:Opn P W e L R):Opn P W t (LSl L) (λz=>∀x∈z,R x):=by
 intro H enc base spare held n cs y hy;have hcs:∃a len cap,cs=[.slice a len cap]:=by
  rcases open_slice hu hy with⟨hcs,_⟩|⟨a',len',cap',m,n,D,Pl,hcs,_⟩
  ·exact⟨_,_,_,hcs⟩
  ·exact⟨_,_,_,hcs⟩
 obtain⟨a,len,cap,rfl⟩:=hcs;obtain⟨g,w,q,_⟩:=ZO (α:=α) (sz:=sz) L.enc R hu hc h0 (λz=>(iz L z).trans hn) (λn cs y hy=>by
  obtain⟨z,hz,hr⟩:=h H enc base spare held n cs y hy;exact⟨z,bq.iff.1 hz,hr⟩) hy
 refine⟨_,⟨_,rfl,Fz.ago (L:=L) hn.symm ⟨_,_,rfl⟩ w⟩,λx hx=>?_⟩;obtain⟨i,hi,rfl⟩:=List.mem_map.1 hx;exact q i (List.mem_range.1 hi)
theorem Si{A:cZ α}{B:cZ β}{J:World->Prop}{cs:List Value}{o na:Nat}{x:α}{y:β}(hn:A.n=na)(h1:A.fg J ((cs.drop o).take na) x)(h2:B.fg J (cs.drop (o+na)) y):(LP A B).fg J (cs.drop o) (x,y):=
 ⟨_,_,(List.take_append_drop na _).symm,h1,by rw[List.drop_drop];exact h2⟩
theorem ae7{A:cZ α}{J:World->Prop}{cs:List Value}{o na:Nat}{x:α}(hl:cs.length=o+na)(h1:A.fg J ((cs.drop o).take na) x):A.fg J (cs.drop o) x:=by rwa[List.take_of_length_le (by rw[List.length_drop];omega)]at h1
theorem af0{L:cZ α}[bq L]{A:World->Prop}{a:Option Addr}{len cap:Nat}{z:List α}(h:(LSl L).fg A (Value.slice a len cap).cells.toList z):Fz A (.slice a len cap) L z:=by obtain⟨v,e,f⟩:=h;have e:[Value.slice a len cap]=[v]:=e;cases e;exact f
end
end Go.Bw
namespace Go.Bw
open Go Go.RowKit Go.ChangeShapes Go.WideShapes Go.Deep
section
variable {α β:Type}
structure Cq[Inhabited α](A:World->Prop)(v:Value)(L:cZ α)(ws:List Value)(xs:List α):Prop where
 sl:uV v xs.length
 fg:(LA L xs.length).fg A ws (λi=>xs.getD i default)
 ro:∀w,A w->Ro w v L.n xs.length ws
theorem Cq.mono[Inhabited α]{A B:World->Prop}{v:Value}{L:cZ α}{ws:List Value}{xs:List α}(h:Cq A v L ws xs)(m:∀w,B w->A w):Cq B v L ws xs:=⟨h.sl,cZ.mono _ m h.fg,λw hw=>h.ro w (m w hw)⟩
theorem Cq.at [Inhabited α]{c:Cx}{H:List aE}{A:World->Prop}{v:Value}{L:cZ α}{ws:List Value}{xs:List α}(h:Cq A v L ws xs)[k:Kn c H A]:qf c H v L.n xs.length ws:=⟨λw h1 h2=>h.ro w (k.ok w h1 h2)⟩
theorem Cq.nil[Inhabited α]{A:World->Prop}{L:cZ α}:Cq A (.slice none 0 0) L [] ([]:List α):=⟨⟨_,_,rfl⟩,⟨λ_ =>[],rfl,λi hi=>absurd hi (Nat.not_lt_zero _)⟩,λ_ _ =>⟨by simp, .inl ⟨⟨_,_,rfl⟩,rfl⟩⟩⟩
def YG[Inhabited α](L:cZ α):cZ (List α) where
 n:=1
 fg A cs xs:=∃v ws,cs=[v]/\Cq A v L ws xs
 len:=λ⟨v,ws,h,_⟩=>by subst h;rfl
 one:=λ⟨v,ws,h,hf⟩=>by subst h;intro u hu;rw[List.mem_singleton.1 hu];exact hf.sl.one
 mono m:=λ⟨v,ws,h,hf⟩=>⟨v,ws,h,hf.mono m⟩
end
section rules
variable {P:Program} {N:Nat} {c:Cx} {D:List Deferred} {Q:Exit->Act->World->Prop} {F:eH} {H:List aE} {d:Option Tmp} {ty:TypeId} {ps:String} {af:Array Edge} {g:Option (Nat×Bool)} {α β γ:Type}
 {A:World->Prop} {v:Value} {L:cZ α} [Inhabited α] {ws:List Value} {xs:List α}
theorem R5{x:Operand}{t e q:Nat}[ht:vD P t e q](hf:Cq A v L ws xs)(hx:ev F x=some v)[Kn c H A]:VS P N c ⟨d, .call ⟨.builtin .len, #[x], #[t]⟩,ty,ps,af,g⟩ F H (.int .i64 (xs.length:Int)):=by haveI:=hf.at (c:=c) (H:=H);exact Ql hx
theorem aeR{x y:Operand}{t e sz m:Nat}{k:IntKind}{i:Int}[ht:vD P t e sz](hf:Cq A v L ws xs)(hs:L.n=sz)(hx:ev F x=some v)(hy:ev F y=some (.int k i))[Kn c H A](hi:i=(m:Int))(hm:m<xs.length):
  VS P N c ⟨d, .indexAddr t x y,ty,ps,af,g⟩ F H (gC v (m*sz)):=by
 haveI:=hf.at (c:=c) (H:=H);subst hs;exact xO hx hy hi hm
theorem abh{x:Operand}{s f fo k m:Nat}[Gy P s f fo](hf:Cq A v L ws xs)(hx:ev F x=some (gC v k))[Kn c H A](hm:m<xs.length):VS P N c ⟨d, .fieldAddr s x f,ty,ps,af,g⟩ F H (gC v (k+fo)):=by haveI:=hf.at (c:=c) (H:=H);exact MC hx hm
theorem abg{x y:Operand}{t len e sz k0 m q:Nat}{k:IntKind}{i:Int}[h:tu P t len e sz](hf:Cq A v L ws xs)(hx:ev F x=some (gC v k0))(hy:ev F y=some (.int k i))[Kn c H A](hq:q<xs.length)(hi:i=(m:Int))(hm:m<len):
  VS P N c ⟨d, .indexAddr t x y,ty,ps,af,g⟩ F H (gC v (k0+m*sz)):=
 aG (by simp) λa w WU hs hp=>by haveI:=hf.at (c:=c) (H:=H);obtain⟨gb,off,cap,rfl,_,_,_⟩:=((hf.at (c:=c) (H:=H)).ro w hs hp).at hq;obtain⟨inf,h1,h2,h3⟩:=tu.get h.ok;subst hi;simp[execOp,aI WU hx,aI WU hy,gC,Instr.indexAt,asIntOf,run_underlying h1,Instr.sureAddr,sizeOf,typeInfo,h2,h3,Addr.add_lit,Nat.add_assoc];intro hle;exact absurd (hm) (by omega)
end rules
def Rz(n:Nat)(f g:Nat->Int):Bool:=(List.range n).all λi=>f i==g i
end Go.Bw
namespace Go.Rw
open Go Go.Bw
inductive Ty where
 |int (k:IntKind)
 |bool
 |st (i:Nat)
 |mV (n:Nat) (e:Ty)
 |sl (e:Ty)
def Ty.bS:Ty->Ty->Bool
 | .int k, .int l=>Nat.beq (ik k) (ik l)
 | .bool, .bool=>true
 | .st i, .st j=>Nat.beq i j
 | .mV n e, .mV m f=>Nat.beq n m&&e.bS f
 | .sl e, .sl f=>e.bS f
 |_,_ =>false
where ik:IntKind->Nat
 | .i8=>0| .i16=>1| .i32=>2| .i64=>3| .u8=>4| .u16=>5| .u32=>6| .u64=>7
theorem Io{k l:IntKind}(h:Nat.beq (Ty.bS.ik k) (Ty.bS.ik l)=true):k=l:=by cases k<;>cases l<;>first|rfl|(exact absurd h (by decide))
theorem Ty.vN:∀{t u:Ty},t.bS u=true->t=u:=by
 intro t
 induction t with
 |int k=>intro u h;cases u<;>simp only[Ty.bS,Bool.false_eq_true]at h;rw[Io h]
 |bool=>intro u h;cases u<;>simp only[Ty.bS,Bool.false_eq_true]at h;rfl
 |st i=>intro u h;cases u<;>simp only[Ty.bS,Bool.false_eq_true]at h;rw[akf h]
 |mV n e ih=>intro u h;cases u<;>simp only[Ty.bS,Bool.false_eq_true,akg]at h;rw[akf h.1,ih h.2]
 |sl e ih=>intro u h;cases u<;>simp only[Ty.bS,Bool.false_eq_true]at h;rw[ih h]
structure Sg where
 S:Nat->Type
 z:∀i,S i
 L:∀i,cZ (S i)
 gt:Option (IntKind×List (Int×Nat))
def Ty.T(G:Sg):Ty->Type
 | .int _ =>Int
 | .bool=>Bool
 | .st i=>G.S i
 | .mV _ e=>Nat->e.T G
 | .sl e=>List (e.T G)
def Ty.z(G:Sg):(t:Ty)->t.T G
 | .int _ =>(0:Int)
 | .bool=>false
 | .st i=>G.z i
 | .mV _ e=>λ_ =>e.z G
 | .sl _ =>[]
instance(G:Sg)(t:Ty):Inhabited (t.T G):=⟨t.z G⟩
def Ty.L(G:Sg):(t:Ty)->cZ (t.T G)
 | .int k=>LI k
 | .bool=>LB
 | .st i=>G.L i
 | .mV n e=>LA (e.L G) n
 | .sl e=>YG (α:=e.T G) (e.L G)
def Ty.ag:Ty->Bool
 | .st _ =>true
 | .mV _ _ =>true
 |_ =>false
structure Fd(G:Sg)(i:Nat) where
 ty:Ty
 off:Nat
 get:G.S i->ty.T G
 set:G.S i->ty.T G->G.S i
 ok:aV (G.L i) (ty.L G) off get set
inductive tv where
 |D2 (j o:Nat)
 |idx (n sz:Nat) (i:Int)
def tv.off:tv->Nat
 | .D2 _ o=>o
 | .idx _ sz i=>i.toNat*sz
def fj:List tv->Nat
 |[]=>0
 |s::r=>s.off+fj r
theorem Nk(p q:List tv):fj (p++q)=fj p+fj q:=by
 induction p with
 |nil=>simp[fj]
 |cons s p ih=>simp only[List.cons_append,fj,ih];omega
def tv.ok:tv->Prop
 | .D2 _ _ =>True
 | .idx n _ i=>dH i n=true
inductive AV(G:Sg) where
 |QA
 |unk (n:Nat)
 |int (k:IntKind) (n:Int)
 |lit (k:IntKind) (n:Int)
 |bool (b:Bool)
 |kb (b:Bool)
 |str (s:ByteArray)
 |dat (t:Ty) (x:t.T G)
 |ptr (r:Nat) (p:List tv)
 |s8
 |row (r:Nat)
 |EE (r:Nat) (p:List tv) (n sz:Nat) (up:Bool) (i:Int)
 |kz
 |mp (r:Nat)
 |Dl
 |yl (r:Nat)
 |fn (f:Fn) (a c:AV G)
 |nn
 |st (a:AV G)
 |jc (a:AV G)
 |iQ (t:Nat) (v:AV G)
 |Gk
 |YU (e:Ty) (xs:List (e.T G)) (p:List tv)
 |gd (j:Nat) (w:Bool) (v:AV G)
 |nil
 |cons (a b:AV G)
 |part (w:Nat) (a b:AV G)
variable {G:Sg}
def mk:(t:Ty)->t.T G->AV G
 | .int k,x=> .int k x
 | .bool,x=> .bool x
 |t,x=> .dat t x
abbrev bh:=Nat->Option Value
def bh.le(ρ ρ':bh):Prop:=∀r v,ρ r=some v->ρ' r=some v
theorem bh.le_refl(ρ:bh):ρ.le ρ:=λ_ _ h=>h
theorem bh.le_trans{a b c:bh}(h:a.le b)(k:b.le c):a.le c:=λr v e=>k r v (h r v e)
def xm(J:World->Prop)(t:Ty)(x:t.T G)(u:Value):Prop:=(t.L G).fg J u.cells.toList x/\(t.ag=true->∃cs:List Value,u= .agg cs.toArray)/\(t.ag=false->u.cells= #[u])
def PB(ρ:bh)(r:Nat)(p:List tv)(b o:Nat):Prop:=ρ r=some (.pointer (some ⟨b,o,none⟩))\/∃n cap n' sz i q,ρ r=some (.slice (some ⟨b,o,none⟩) n cap)/\p= .idx n' sz i::q/\i.toNat<n
theorem PB.app{ρ:bh}{r:Nat}{p q:List tv}{b o:Nat}(h:PB ρ r p b o):PB ρ r (p++q) b o:=by
 rcases h with h|⟨n,cap,n',sz,i,q',h1,rfl,h3⟩
 ·exact .inl h
 ·exact .inr ⟨n,cap,n',sz,i,q'++q,h1,rfl,h3⟩
theorem PB.ext{ρ ρ':bh}(m:ρ.le ρ'){r:Nat}{p:List tv}{b o:Nat}(h:PB ρ r p b o):PB ρ' r p b o:=by
 rcases h with h|⟨n,cap,n',sz,i,q',h1,h2⟩
 ·exact .inl (m _ _ h)
 ·exact .inr ⟨n,cap,n',sz,i,q',m _ _ h1,h2⟩
def SP(b off n sz:Nat)(up:Bool)(i:Nat):Value:= .slice (some ⟨b,bif up&& !Nat.beq n i then off+i*sz else off,none⟩) (bif up then n-i else i) (bif up then n-i else n)
theorem LF{b off n sz i:Nat}:SP b off n sz true i=YM b off i n sz:=by
 unfold SP YM;by_cases h:n=i
 ·subst h;simp
 ·have hb:Nat.beq n i=false:=by
   cases hq:Nat.beq n i with
   |true=>exact absurd (akf hq) h
   |false=>rfl
  simp[h,hb]
theorem Da{b off n sz i:Nat}:SP b off n sz false i= .slice (some ⟨b,off,none⟩) i n:=rfl
def rl(J:World->Prop)(ρ:bh):AV G->List Value->Prop
 | .QA,l=>∃u,l=[u]
 | .unk n,l=>∃u:Value,l=[u]/\u.cells.size=n
 | .int k n,l=>l=[.int k n]
 | .lit k n,l=>l=[.int k n]
 | .bool b,l=>l=[.bool b]
 | .kb b,l=>l=[.bool b]
 | .str s,l=>l=[.string s]
 | .dat t x,l=>∃u,l=[u]/\xm J t x u
 | .ptr r p,l=>(∃b o,PB ρ r p b o/\l=[.pointer (some ⟨b,o+fj p,none⟩)])/\∀s∈p,s.ok
 | .s8,l=>l=[.pointer none]
 | .row r,l=>∃a n cap,ρ r=some (.slice a n cap)/\l=[.slice a n cap]
 | .EE r p n sz up i,l=>(∃b o,PB ρ r p b o/\l=[SP b (o+fj p) n sz up i.toNat])/\(∀s∈p,s.ok)/\i.toNat<=n
 | .kz,l=>l=[.slice none 0 0]
 | .mp r,l=>∃u,ρ r=some u/\l=[u]/\u.cells= #[u]/\u.oneCell'=true
 | .Dl,l=>l=[.map none]
 | .yl r,l=>∃n,ρ r=some (.pointer (some ⟨n,0,none⟩))/\l=[.func (.yield n) #[] #[]]
 | .fn f a c,l=>∃fs cs:List Value,l=[.func f fs.toArray cs.toArray]/\rl J ρ a fs/\rl J ρ c cs
 | .nn,l=>l=[.nilFunc]
 | .st a,l=>∃cs:List Value,l=[.agg cs.toArray]/\rl J ρ a cs/\o9 cs
 | .jc a,l=>∃vs:List Value,l=[.tuple vs.toArray]/\rl J ρ a vs
 | .iQ t v,l=>∃u,l=[.iface t u]/\rl J ρ v [u]
 | .Gk,l=>l=[.nilIface]
 | .YU e xs p,l=>∃v ws,Cq J v (e.L G) ws xs/\l=[gC v (fj p)]/\(∀s∈p,s.ok)/\∃n sz i q,p= .idx n sz i::q/\n=xs.length/\sz=(e.L G).n
 | .gd _ _ _,_ =>False
 | .nil,l=>l=[]
 | .cons a b,l=>∃u r,l=u::r/\rl J ρ a [u]/\rl J ρ b r
 | .part w a b,l=>∃c1 c2 u,l=c1++c2/\c1.length=w/\rl J ρ a [u]/\u.cells.toList=c1/\rl J ρ b c2
abbrev rv(J:World->Prop)(ρ:bh)(v:AV G)(u:Value):Prop:=rl J ρ v [u]
theorem xm.mono{J J':World->Prop}(m:∀w,J' w->J w){t:Ty}{x:t.T G}{u:Value}(h:xm J t x u):xm J' t x u:=⟨(t.L G).mono m h.1,h.2⟩
theorem rl.mono{J J':World->Prop}{ρ:bh}(m:∀w,J' w->J w):∀{v:AV G} {l:List Value},rl J ρ v l->rl J' ρ v l:=by
 intro v
 induction v with
 |dat t x=>intro l h;obtain⟨u,e,h⟩:=h;exact⟨u,e,h.mono m⟩
 |fn f a c mz AX=>intro l h;obtain⟨fs,cs,e,h1,h2⟩:=h;exact⟨fs,cs,e,mz h1,AX h2⟩
 |st a ih=>intro l h;obtain⟨cs,e,h1,h2⟩:=h;exact⟨cs,e,ih h1,h2⟩
 |jc a ih=>intro l h;obtain⟨vs,e,h1⟩:=h;exact⟨vs,e,ih h1⟩
 |iQ t v ih=>intro l h;obtain⟨u,e,h1⟩:=h;exact⟨u,e,ih h1⟩
 |YU e xs p=>intro l h;obtain⟨v,ws,h1,h2⟩:=h;exact⟨v,ws,h1.mono m,h2⟩
 |cons a b mz sB=>intro l h;obtain⟨u,r,e,h1,h2⟩:=h;exact⟨u,r,e,mz h1,sB h2⟩
 |part w a b mz sB=>intro l h;obtain⟨c1,c2,u,e,h1,h2,h3,h4⟩:=h;exact⟨c1,c2,u,e,h1,mz h2,h3,sB h4⟩
 |_ =>intro l h;exact h
theorem rl.ext{J:World->Prop}{ρ ρ':bh}(m:ρ.le ρ'):∀{v:AV G} {l:List Value},rl J ρ v l->rl J ρ' v l:=by
 intro v
 induction v with
 |ptr r p=>intro l h;obtain⟨⟨b,o,h1,h2⟩,h3⟩:=h;exact⟨⟨b,o,h1.ext m,h2⟩,h3⟩
 |EE r p n sz up i=>intro l h;obtain⟨⟨b,o,h1,h2⟩,h3⟩:=h;exact⟨⟨b,o,h1.ext m,h2⟩,h3⟩
 |row r=>intro l h;obtain⟨a,n,cap,h1,h2⟩:=h;exact⟨a,n,cap,m _ _ h1,h2⟩
 |mp r=>intro l h;obtain⟨b,h1,h2⟩:=h;exact⟨b,m _ _ h1,h2⟩
 |yl r=>intro l h;obtain⟨b,h1,h2⟩:=h;exact⟨b,m _ _ h1,h2⟩
 |fn f a c mz AX=>intro l h;obtain⟨fs,cs,e,h1,h2⟩:=h;exact⟨fs,cs,e,mz h1,AX h2⟩
 |st a ih=>intro l h;obtain⟨cs,e,h1,h2⟩:=h;exact⟨cs,e,ih h1,h2⟩
 |jc a ih=>intro l h;obtain⟨vs,e,h1⟩:=h;exact⟨vs,e,ih h1⟩
 |iQ t v ih=>intro l h;obtain⟨u,e,h1⟩:=h;exact⟨u,e,ih h1⟩
 |cons a b mz sB=>intro l h;obtain⟨u,r,e,h1,h2⟩:=h;exact⟨u,r,e,mz h1,sB h2⟩
 |part w a b mz sB=>intro l h;obtain⟨c1,c2,u,e,h1,h2,h3,h4⟩:=h;exact⟨c1,c2,u,e,h1,mz h2,h3,sB h4⟩
 |_ =>intro l h;exact h
theorem Kr{J:World->Prop}{ρ:bh}{t:Ty}{x:t.T G}{u:Value}(h:xm J t x u):rv J ρ (mk t x) u:=by
 cases t with
 |int k=>have h1:u.cells.toList=[.int k x]:=h.1;have h2:=h.2.2 rfl;rw[h2]at h1;exact h1
 |bool=>have h1:u.cells.toList=[.bool x]:=h.1;have h2:=h.2.2 rfl;rw[h2]at h1;exact h1
 |st i=>exact⟨u,rfl,h⟩
 |mV n e=>exact⟨u,rfl,h⟩
 |sl e=>exact⟨u,rfl,h⟩
theorem QU{J:World->Prop}{ρ:bh}{t:Ty}{x:t.T G}{u:Value}(h:rv J ρ (mk t x) u):xm J t x u:=by
 cases t with
 |int k=>have h:[u]=[.int k x]:=h;cases h;exact⟨rfl,nofun,λ_ =>rfl⟩
 |bool=>have h:[u]=[.bool x]:=h;cases h;exact⟨rfl,nofun,λ_ =>rfl⟩
 |st i=>obtain⟨u',e,h⟩:=h;cases e;exact h
 |mV n e=>obtain⟨u',e,h⟩:=h;cases e;exact h
 |sl e=>obtain⟨u',e,h⟩:=h;cases e;exact h
end Go.Rw
namespace Go.Bw
open Go Go.RowKit
def yl{β:Type}(e:β)(m:Option (List β)):Option (List β):=m.map (e::·)
theorem aix{β:Type}{e:β}{m:Option (List β)}{r:List β}(h:yl e m=some r):∃r',r=e::r'/\m=some r':=by
 cases m with
 |none=>cases h
 |some l=>exact⟨l,(Option.some.inj h).symm,rfl⟩
section
variable {α1 β ρ:Type}
def yD(B:β->(α1->Option ρ)->α1->Option ρ)(fin:α1->Option ρ):List β->α1->Option ρ
 |[],a1=>fin a1
 |x::l,a1=>B x (yD B fin l) a1
end
section
variable {α1 α2 β ρ:Type}
def agR(B:β->(α1->α2->Option ρ)->α1->α2->Option ρ)(fin:α1->α2->Option ρ):List β->α1->α2->Option ρ
 |[],a1,a2=>fin a1 a2
 |x::l,a1,a2=>B x (agR B fin l) a1 a2
end
section
variable {α1 α2 α3 β ρ:Type}
def Wt(B:β->(α1->α2->α3->Option ρ)->α1->α2->α3->Option ρ)(fin:α1->α2->α3->Option ρ):List β->α1->α2->α3->Option ρ
 |[],a1,a2,a3=>fin a1 a2 a3
 |x::l,a1,a2,a3=>B x (Wt B fin l) a1 a2 a3
end
section
variable {α1 α2 α3 α4 β ρ:Type}
def agQ(B:β->(α1->α2->α3->α4->Option ρ)->α1->α2->α3->α4->Option ρ)(fin:α1->α2->α3->α4->Option ρ):List β->α1->α2->α3->α4->Option ρ
 |[],a1,a2,a3,a4=>fin a1 a2 a3 a4
 |x::l,a1,a2,a3,a4=>B x (agQ B fin l) a1 a2 a3 a4
end
section
variable {α1 α2 α3 α4 α5 β ρ:Type}
def agP(B:β->(α1->α2->α3->α4->α5->Option ρ)->α1->α2->α3->α4->α5->Option ρ)(fin:α1->α2->α3->α4->α5->Option ρ):List β->α1->α2->α3->α4->α5->Option ρ
 |[],a1,a2,a3,a4,a5=>fin a1 a2 a3 a4 a5
 |x::l,a1,a2,a3,a4,a5=>B x (agP B fin l) a1 a2 a3 a4 a5
end
section
variable {α1 α2 α3 α4 α5 α6 β ρ:Type}
def agO(B:β->(α1->α2->α3->α4->α5->α6->Option ρ)->α1->α2->α3->α4->α5->α6->Option ρ)(fin:α1->α2->α3->α4->α5->α6->Option ρ):List β->α1->α2->α3->α4->α5->α6->Option ρ
 |[],a1,a2,a3,a4,a5,a6=>fin a1 a2 a3 a4 a5 a6
 |x::l,a1,a2,a3,a4,a5,a6=>B x (agO B fin l) a1 a2 a3 a4 a5 a6
end
section
variable {α1 α2 α3 α4 α5 α6 α7 β ρ:Type}
def agN(B:β->(α1->α2->α3->α4->α5->α6->α7->Option ρ)->α1->α2->α3->α4->α5->α6->α7->Option ρ)(fin:α1->α2->α3->α4->α5->α6->α7->Option ρ):List β->α1->α2->α3->α4->α5->α6->α7->Option ρ
 |[],a1,a2,a3,a4,a5,a6,a7=>fin a1 a2 a3 a4 a5 a6 a7
 |x::l,a1,a2,a3,a4,a5,a6,a7=>B x (agN B fin l) a1 a2 a3 a4 a5 a6 a7
end
section
variable {α1 α2 α3 α4 α5 α6 α7 α8 β ρ:Type}
def agM(B:β->(α1->α2->α3->α4->α5->α6->α7->α8->Option ρ)->α1->α2->α3->α4->α5->α6->α7->α8->Option ρ)(fin:α1->α2->α3->α4->α5->α6->α7->α8->Option ρ):List β->α1->α2->α3->α4->α5->α6->α7->α8->Option ρ
 |[],a1,a2,a3,a4,a5,a6,a7,a8=>fin a1 a2 a3 a4 a5 a6 a7 a8
 |x::l,a1,a2,a3,a4,a5,a6,a7,a8=>B x (agM B fin l) a1 a2 a3 a4 a5 a6 a7 a8
end
end Go.Bw
namespace Go.Bw
open Go Go.RowKit
section rules
variable {P:Program} {N:Nat} {c:Cx} {D:List Deferred} {Q:Exit->Act->World->Prop} {F:eH} {H:List aE} {d:Option Tmp} {ty:TypeId} {ps:String} {af:Array Edge} {g:Option (Nat×Bool)} {α β γ:Type}
theorem Yv{L:cZ α}[bq L][Inhabited α]{M:cZ β}[bq M]{v:Value}{xs:List α}{e sz off t q:Nat}{x y:Operand}{val:Value}{gg:(Nat->α)->β}{s:(Nat->α)->β->(Nat->α)}{f:aE->List aE}{z:α}
  (m:Nat)(p:aV (LA L xs.length) M off gg s)(u:β)(ys:List α)(hy:ys=xs.set m z)(hx:ev F x=some (gC v off))(hz:ev F y=some val)(hv:val.cells.toList=M.enc u)(hs:s (λi=>xs.getD i default) u=iW (λi=>xs.getD i default) m z)
  (hm:m<xs.length)(hn:M.n=q)[hr:vE H v e sz xs.length (eI L xs) f](hsz:L.n=sz)[ht:R9 P t q]:
  RX (α:=Unit) P N c ⟨d, .store t x y,ty,ps,af,g⟩ F H (λ_ =>True) (λ_ =>undef) (λ_ =>f (rY v e sz L ys)):=λD a w next Q hst hk=>by
 subst hn hsz;obtain⟨k,k1,k2⟩:=hr.ok;have Mb:aE.row v e L.n xs.length (eI L xs)∈H:=List.mem_of_getElem? k1;have hown:kZ w e L.n v xs.length (eI L xs):=hst.hp.holds _ Mb;obtain⟨hlen,FH⟩:=hown;rcases FH with⟨_,h0⟩|⟨gb,o,cap,cur,rfl,Rb,hnc,PD,hcs,FF⟩
 ·omega
 have hle:off+M.n<=xs.length*L.n:=p.le;have hmul:xs.length*L.n<=cap*L.n:=Nat.mul_le_mul_right _ hnc;obtain⟨cs,rfl⟩:∃cs:List Value,cur=cs.toArray:=⟨cur.toList,by simp⟩;have rX:o+cap*L.n<=cs.length:=by simpa using hcs
 have htk:(cs.drop o).take (xs.length*L.n)=eI L xs:=by simpa using FF
 have hul:(M.enc u).length=M.n:=iz M u;obtain⟨w',e1,e2,e3⟩:=sw (P:=P) (t:=t) (b:=gb) (T:=e) (off:=o+off) (cs:=cs) (w:=w) Rb hv hul (by omega) (DA M u);have WM:ys.length=xs.length:=by rw[hy,List.length_set]
 have hnew:((bX cs (o+off) (M.enc u)).drop o).take (xs.length*L.n)=eI L ys:=by
  have h1:bX (eI L xs) off (M.enc u)=eI L ys:=by rw[gD L xs,hy, ← Vg L xs m z hm, ← hs];exact p.put _ _
  rw[← h1, ← htk];exact vz (by rw[hul];exact hle) (by omega)
 refine oU (by simp) (w':=w') ?_ (hk () w' trivial (hst.si.store hst.hp Mb (by simp[aE.cI,Value.ownBlock]) e3) ?_)
 ·simp[execOp,aI hst.fr hx,aI hst.fr hz,gC,Instr.storeAt,Instr.sureAddr,e1]
 ·show bH c.bs c.w0.heap.size (f (rY _ e L.n L ys)) w'
  rw[rY,k2];refine hst.hp.set k1 e3.size (λj hj hn=>e3.block j hj (by simpa[aE.cI,Value.ownBlock]using hn)) ?_ hst.si.size (λb' hb'=>?_)
  ·refine⟨by rw[mK], .inr ⟨gb,o,cap,_,by rw[WM],e2,by omega,PD,?_,?_⟩⟩
   ·simp only[List.size_toArray,bX,List.length_append,List.length_take,List.length_drop,hul];omega
   ·rw[WM];simpa using hnew
  ·have h5:b'=gb:=by simpa[aE.cI,Value.ownBlock]using hb'
   subst h5;exact⟨.inl (by simp[aE.cI,Value.ownBlock]),Nat.lt_of_lt_of_le (akl.1 Rb).1 e3.size⟩
theorem E8{ops:Array Oper}{rest:List Oper}{x:Operand}{args:List Operand}{ats:Array TypeId}{f:Nat}{fst cap:Array Value}{us vs:List Value}{K:World->Prop}{nc rst:List aE}{val:Value}{ks:List Nat}{gg:Option (Nat×Bool)}{b:Bool}{dd:Tmp}
  (hg:Gd ops F gg b)(hd:Nat.blt dd N=true)(hc:b=true->Fn (α:=Unit) P f vs (Ul (bF nc) K) nc (λ_ =>True) (λ_ =>val) (λ_ =>nc))(hx:b=true->ev F x=some (.func (.func f) fst cap))(ha:b=true->D3 F args=some us)
  (hv:fst.toList++us++cap.toList=vs)(hkp:pick H ks=some (nc++rst))(hn:ks.Nodup)(hK:b=true->KnF c rst K)
  (h:WL P N c D ops Q rest ((dd,bif b then val else undef)::F) (nc++rst)):
  WL P N c D ops Q (⟨some dd, .call ⟨.value x,args.toArray,ats⟩,ty,ps,af,gg⟩::rest) F H:=by
 cases b with
 |false=>exact Mz hg hd (aeH (λ_ _ _ hp=>hp.pick hkp hn) h)
 |true=>intro a w hst;simp only[wpListIn,hg ⟨some dd, .call ⟨.value x,args.toArray,ats⟩,ty,ps,af,gg⟩ a rfl hst.fr,if_true];haveI:=hK rfl;exact Af (hc rfl) (hx rfl) (ha rfl) hv hkp hn D a w _ Q hst λi w' hp hs hh=>h _ _ (hst.put (d:=some dd) hd hs hh)
theorem R8{x:Operand}{t e sz n cp:Nat}{a0:Option Addr}[ht:vD P t e sz](hx:ev F x=some (.slice a0 n cp)):VS P N c ⟨d, .call ⟨.builtin .cap, #[x], #[t]⟩,ty,ps,af,g⟩ F H (.int .i64 cp):=
 aG (by simp) λa w hf _ _ =>by obtain⟨i,h1,h2,h3⟩:=vD.get ht.ok;simp[execOp,resolve,invoke,builtin,aI hf hx,Builtin.cap_,run_underlying h1];rfl
theorem Yk{x hi:Operand}{t e sz n cp b:Nat}{k:IntKind}[ht:vD P t e sz](hx:ev F x=some (.slice (some ⟨b,0,none⟩) n cp))(hh:ev F hi=some (.int k 0)):
  VS P N c ⟨d, .slice t x none (some hi) none,ty,ps,af,g⟩ F H (.slice (some ⟨b,0,none⟩) 0 cp):=
 aG (by simp) λa w hf _ _ =>by obtain⟨i,h1,h2,h3⟩:=vD.get ht.ok;simp[execOp,aI hf hx,aI hf hh,Instr.sliceAt,run_underlying h1,Instr.slice,Instr.sliceBounds,Instr.sliceBound,asIntOf,sizeOf,typeInfo,h2,Addr.add]
theorem K8{x hi:Operand}{t e sz:Nat}{k:IntKind}[ht:vD P t e sz](hx:ev F x=some (.slice none 0 0))(hh:ev F hi=some (.int k 0)):
  VS P N c ⟨d, .slice t x none (some hi) none,ty,ps,af,g⟩ F H (.slice none 0 0):=
 aG (by simp) λa w hf _ _ =>by obtain⟨i,h1,h2,h3⟩:=vD.get ht.ok;simp[execOp,aI hf hx,aI hf hh,Instr.sliceAt,run_underlying h1,Instr.slice,Instr.sliceBounds,Instr.sliceBound,asIntOf,sizeOf,typeInfo,h2,Addr.add]
theorem acq{a:Int}(h1: -9223372036854775808<=a)(h2:a<=9223372036854775807):wr .i64 a=a:=IntWalk.i64_in a ⟨h1,h2⟩
theorem EB(t ti ty e:TypeId)(i:TypeInfo)(z:Value)(q:IntKind)(w:World)(ht:P.underlying t=some (.slice e))(hti:P.underlying ti=some (.int q))(hi:P.info? e=some i)(hz:i.zero=some z)
  (n:Nat)(h0:0<n)(h63:(n:Int)<=9223372036854775807)(h48:n*i.bytes<=140737488355328)(hpos:0<i.size):
  (Builtin.append_ #[t,ti] ty #[.slice none 0 0, .int .i64 n]).run P w=
   .ok (.slice (some ⟨w.heap.size,0,none⟩) n (grownCap w n 0 e)) (w.drew.alloc (.cells (Builtin.zeroCells z.cells n++Builtin.zeroCells z.cells (grownCap w n 0 e-n)) e)):=by
 have hn:n≠0:=by omega
 have hns:n*i.size≠0:=Nat.mul_ne_zero hn (by omega);have ajv:¬(9223372036854775807<(n:Int)):=by omega
 have ajx:¬(281474976710656<Builtin.nextslicecap n 0*i.bytes):=by rw[nextslicecap_zero h0];omega
 have hw:IntKind.i64.wrap (n:Int)=n:=by rw[show IntKind.i64.wrap (n:Int)=wr .i64 (n:Int)from rfl,acq (by omega) h63]
 have hneg:¬((n:Int)<0):=by omega
 have ajw:¬(281474976710656<(n:Int)*(i.bytes:Int)):=by have h5:((n*i.bytes:Nat):Int)=(n:Int)*(i.bytes:Int):=Int.natCast_mul _ _;rw[← h5];omega
 simp[Builtin.append_,run_underlying ht,run_underlying hti,sizeOf,typeInfo,zeroValue,hi,hz,hn,ajv,ajx,Question.forced,run_firstCells_none,newRow,grownCap,asInt,asIntOf,hw,hneg,ajw,hns,Nat.pos_iff_ne_zero.1 hpos]
def Mg(n:Int)(b:Nat):Bool:=decide (0<n/\n*b<=140737488355328/\n<=9223372036854775807)
theorem W5{n:Int}{b:Nat}(h:Mg n b=true):0<n/\n*b<=140737488355328/\n<=9223372036854775807:=of_decide_eq_true h
theorem abp{s x:Operand}{t ti e sz bytes:Nat}{n:Int}{q:IntKind}(L:cZ α)[bq L][ht:Oz P t e sz bytes](hti:P.underlying ti=some (.int q))(hs:ev F s=some (.slice none 0 0))(hx:ev F x=some (.int .i64 n))(hok:Mg n bytes=true):
  RX (α:=Nat×Nat) P N c ⟨d, .call ⟨.builtin .append, #[s,x], #[t,ti]⟩,ty,ps,af,g⟩ F H (λ_ =>True) (λv=> .slice (some ⟨v.1,0,none⟩) n.toNat v.2) (λv=>rY (.slice (some ⟨v.1,0,none⟩) 0 v.2) e sz L []::H):=λD a w next Q hst hk=>by
 obtain⟨i,z,e1,e2,e3,e4,e5,e6,e7⟩:=Oz.get ht.ok;obtain⟨g1,g2,g3⟩:=W5 hok;obtain⟨m,rfl⟩:∃m:Nat,n=m:=⟨n.toNat,by omega⟩;subst e4 e5;have hm0:0<m:=by omega
 have hb:m*i.bytes<=140737488355328:=by have h5:((m*i.bytes:Nat):Int)=(m:Int)*(i.bytes:Int):=Int.natCast_mul _ _;rw[← h5]at g2;omega
 have hr:=EB (P:=P) t ti ty e i z q w e1 hti e2 e3 m hm0 g3 hb e7;have NA:m<=maxLen:=by simp only[maxLen];omega
 have PD:grownCap w m 0 e<=maxLen:=grownCap_le_maxLen w m 0 e NA;have hge:m<=grownCap w m 0 e:=grownCap_ge w m 0 e;have jb:aQ [] w (w.drew.alloc (.cells (Builtin.zeroCells z.cells m++Builtin.zeroCells z.cells (grownCap w m 0 e-m)) e)):=aQ.wE (row:=none) ⟨rfl,rfl,rfl,by simp,λk hk _ =>heap_alloc_old w.drew _ k hk⟩;refine ew (by simp) (v:= .slice (some ⟨w.heap.size,0,none⟩) m (grownCap w m 0 e)) ?_ (hk (w.heap.size,grownCap w m 0 e) _ trivial (hst.si.ext jb) (hst.hp.fresh jb ?_ hst.si.size ?_))
 ·simp[execOp,resolve,invoke,builtin,aI hst.fr hs,aI hst.fr hx,hr]
 ·refine Dh (base:=0) ⟨by simp[eI], .inr ⟨w.heap.size,grownCap w m 0 e,_,rfl,Nat.zero_le _,heap_alloc_new w.drew _,Nat.zero_le _,PD,?_,by simp[eI]⟩⟩
  simp only[Array.size_append,size_zeroCells,e6, ← Nat.add_mul];congr 1;omega
 ·intro b hb
  have:b=w.heap.size:=by simpa[rY,aE.cI,Value.ownBlock]using hb
  subst this;exact⟨Nat.le_refl _,(akl.1 (heap_alloc_new w.drew (.cells (Builtin.zeroCells z.cells m++Builtin.zeroCells z.cells (grownCap w m 0 e-m)) e))).1⟩
theorem uV.size{v:Value}{n:Nat}(h:uV v n):v.cells.size=1:=by obtain⟨a,cp,rfl⟩:=h;rfl
theorem TS{x:Operand}{t e sz n cp:Nat}{a0:Option Addr}[ht:vD P t e sz](hx:ev F x=some (.slice a0 n cp)):VS P N c ⟨d, .call ⟨.builtin .len, #[x], #[t]⟩,ty,ps,af,g⟩ F H (.int .i64 n):=
 aG (by simp) λa w hf _ _ =>by obtain⟨i,h1,h2,h3⟩:=vD.get ht.ok;simp[execOp,resolve,invoke,builtin,aI hf hx,Builtin.len_,run_underlying h1,Builtin.lenOf];rfl
theorem B4{p q:Nat->Option (Nat×Nat)}:∀(parts:List (Nat×Value)) (cells:Array Value),(∀x∈parts,p x.1=q x.1)->Instr.fill p cells parts=Instr.fill q cells parts
 |[],_,_ =>rfl
 |(i,v)::r,cells,h=>by
  have h1:=h (i,v) (by simp);simp only at h1;simp only[Instr.fill,h1];split
  ·rfl
  ·split
   ·rfl
   ·exact B4 r _ λx hx=>h x (akp _ hx)
def T8(n sz:Nat):List (Nat×Nat):=(List.range n).map λi=>(i*sz,sz)
theorem LX{n sz i:Nat}(h:i<n):(T8 n sz)[i]? =some (i*sz,sz):=by simp[T8,h]
theorem TU{t n e sz:Nat}{parts:List (Nat×Operand)}{vs zs cs:List Value}[hz:jH P t zs][ht:tu P t n e sz](hv:D3 F (parts.map (·.2))=some vs)(hc:vx (T8 n sz) zs ((parts.map (·.1)).zip vs)=some cs)(hi:((parts.map (·.1)).all λi=>decide (i<n))=true):
  VS P N c ⟨d, .build t parts.toArray,ty,ps,af,g⟩ F H (.agg cs.toArray):=
 aG (by simp) λa w hf _ _ =>by
  obtain⟨i,z,h1,h2,h3⟩:=jH.get hz.ok;obtain⟨inf,h4,h5,h6⟩:=tu.get ht.ok;have h7:(zeroValue t).run P w= .ok z w:=by simp[zeroValue,typeInfo,h1,h2]
  have h8:=xB (place:=λi=>(T8 n sz)[i]?) (pl:=T8 n sz) (λ_ =>rfl) ((parts.map (·.1)).zip vs) z.cells cs (by rw[h3];exact hc);have h9:=evp hf hv;have h10:(Array.map (λx=>(x.fst,a.eval x.snd)) parts.toArray).toList=(parts.map (·.1)).zip vs:=by simpa using h9
  have h11:=B4 (p:=λi=>some (i*sz,sz)) (q:=λi=>(T8 n sz)[i]?) ((parts.map (·.1)).zip vs) z.cells (λx hx=>by
   have:=List.all_eq_true.1 hi x.1 (List.of_mem_zip hx).1;simp only[decide_eq_true_eq]at this;simp[LX this])
  simp only[execOp,Instr.build,Sem.run_bind,h7,Result.andThen_ok,run_underlying h4,sizeOf,typeInfo];simp[h5,h6,h9,h11,h8]
theorem YA{t n e sz:Nat}{parts:List (Nat×Operand)}{vs zs cs:List Value}[ht:vD P t e sz][hz:jH P e zs](hv:D3 F (parts.map (·.2))=some vs)(hc:vx (T8 n sz) ((List.range (n*sz)).map λj=>zs[j%zs.length]!) ((parts.map (·.1)).zip vs)=some cs)
  (hi:((parts.map (·.1)).all λi=>decide (i<n))=true)(h0:0<n*sz)(hs:n*sz<=16777216):
  RX P N c ⟨d, .buildSlice t n parts.toArray,ty,ps,af,g⟩ F H (λ_ =>True) (λb=> .slice (some ⟨b,0,none⟩) n n) (λb=> .cells b e cs::H):=λD a w next Q hst hk=>by
 obtain⟨i,h1,h2,h3⟩:=vD.get ht.ok;obtain⟨i',z,h4,h5,h6⟩:=jH.get hz.ok;rw[h2]at h4;cases h4;subst h3;refine ew (by simp) (w':=w.alloc (.cells cs.toArray e)) ?_ (hk w.heap.size _ trivial (hst.si.ext (aQ.alloc _ _)) (hst.hp.box e cs hst.si.size));have h9:=evp hst.fr hv;have h10:(Array.map (λx=>(x.fst,a.eval x.snd)) parts.toArray).toList=(parts.map (·.1)).zip vs:=by simpa using h9
 have h11:=B4 (p:=λk=>some (k*i.size,i.size)) (q:=λk=>((T8 n i.size).toArray)[k]?) ((parts.map (·.1)).zip vs) ((Array.range (n*i.size)).map (z.cells[· %z.cells.size]!)) (λx hx=>by
   have:=List.all_eq_true.1 hi x.1 (List.of_mem_zip hx).1;simp only[decide_eq_true_eq]at this;simp[LX this])
 have hzc:z.cells=zs.toArray:=by rw[← h6]
 have h8:=xB (place:=λk=>((T8 n i.size).toArray)[k]?) (pl:=T8 n i.size) (by simp) ((parts.map (·.1)).zip vs) ((Array.range (n*i.size)).map (z.cells[· %z.cells.size]!)) cs (by
  rw[← hc];congr 1;rw[hzc];simp[Array.toList_range])
 have e3:(λx=>(x.fst,a.eval x.snd))=(λ(x:Nat×Operand)=>(x.1,a.eval x.2)):=rfl;have hb:(Instr.buildSlice t n (Array.map (λx=>(x.fst,a.eval x.snd)) parts.toArray)).run P w= .ok (.slice (some ⟨w.heap.size,0,none⟩) n n) (w.alloc (.cells cs.toArray e)):=
  run_buildSlice w t e n _ cs.toArray i z h1 h2 h5 (by omega) (by omega) (by rw[h10,h11,h8])
 simp only[execOp,Sem.run_bind];rw[hb];rfl
end rules
end Go.Bw
namespace Go.Bw
open Go Go.RowKit Go.ChangeMaps
section
variable {β:Type}
def fX:List (Int×β)->Int->Option (Nat×β)
 |[],_ =>none
 |p::r,k=>bif k==p.1 then some (0,p.2)else(fX r k).map λq=>(q.1+1,q.2)
def oH(l:List (Int×β))(k:Int)(z:β):β:=((fX l k).map Prod.snd).getD z
def qn(l:List (Int×β))(k:Int):Bool:=(fX l k).isSome
def uC:List (Int×β)->Int->β->List (Int×β)
 |[],k,v=>[(k,v)]
 |p::r,k,v=>bif k==p.1 then(k,v)::r else p::uC r k v
end
structure BA{β:Type}(q:IntKind)(E:β->Value)(es:Array MapEntry)(clock:Nat)(l:List (Int×β)):Prop where
 kv:es.toList.map (λe=>(e.key,e.val))=l.map λp=>(Value.int q p.1,E p.2)
 born:∀e∈es.toList,e.born<clock
 nd:(es.toList.map (·.born)).Nodup
def MpJ{β:Type}(b:Nat)(q:IntKind)(E:β->Value)(l:List (Int×β))(w:World):Prop:=∃es clock,w.heap[b]? =some (.map es clock)/\BA q E es clock l
abbrev Mp{β:Type}(b:Nat)(q:IntKind)(E:β->Value)(l:List (Int×β)):aE:= .ext [b] (MpJ b q E l)
theorem Ok{β:Type}{b:Nat}{q:IntKind}{E:β->Value}{l:List (Int×β)}{w:World}(h:MpJ b q E l w):(Mp b q E l).holds w:=λw' _ hb=>by obtain⟨es,clock,h1,h2⟩:=h;exact⟨es,clock,(hb b (by simp)).trans h1,h2⟩
theorem ae4{β:Type}{b:Nat}{q:IntKind}{E:β->Value}{l:List (Int×β)}{w:World}(h:(Mp b q E l).holds w):MpJ b q E l w:=Dz h
class GN(H:List aE)(b:Nat)(β:outParam Type)(q:outParam IntKind)(E:outParam (β->Value))(l:outParam (List (Int×β)))(f:outParam (aE->List aE)):Prop where
 ok:∃k:Nat,H[k]? =some (Mp b q E l)/\∀r',f r'=H.set k r'
instance(priority:=100) afi{β:Type}(b:Nat)(q:IntKind)(E:β->Value)(l:List (Int×β))(H:List aE):GN (Mp b q E l::H) b β q E l (λr'=>r'::H):=⟨0,rfl,λ_ =>rfl⟩
instance(priority:=50) ae5(r:aE)(H:List aE)(b:Nat)(β:Type)(q:IntKind)(E:β->Value)(l f)[h:GN H b β q E l f]:GN (r::H) b β q E l (λr'=>r::f r'):=
 ⟨by obtain⟨k,h1,h2⟩:=h.ok;exact⟨k+1,by simpa using h1,λr'=>by rw[h2 r'];simp⟩⟩
class Gw(P:Program)(t:TypeId)(k e:outParam TypeId)(q:outParam IntKind):Prop where
 ok:P.underlying t=some (.map k e)/\P.underlying k=some (.int q)
section
variable {β:Type} {q:IntKind} {E:β->Value}
theorem IG{k:Int}:∀(es:List MapEntry) (l:List (Int×β)) (i:Nat),es.map (λe=>(e.key,e.val))=l.map (λp=>(Value.int q p.1,E p.2))->
  Instr.findNow (.int q) (.int q k) es i=some ((fX l k).map λp=>(i+p.1,E p.2))
 |[],[],i,_ =>rfl
 |[],p::r,i,h=>by simp at h
 |e::es,[],i,h=>by simp at h
 |e::es,p::r,i,h=>by
  simp only[List.map_cons,List.cons.injEq,Prod.mk.injEq]at h;obtain⟨⟨h1,h2⟩,h3⟩:=h;have ih:=IG (k:=k) es r (i+1) h3;unfold Instr.findNow fX;rw[h1];have hs:Instr.sameNow (.int q) (.int q k) (.int q p.1)=some (k==p.1):=by simp[Instr.sameNow]
  rw[hs];cases hk:k==p.1 with
  |true=>simp[h2]
  |false=>
   simp only[ih,cond_false,Option.map_map];congr 1;cases fX r k with
   |none=>rfl
   |some z=>simp[Function.comp];omega
theorem od{P:Program}{kt:TypeId}{k:Int}{es:Array MapEntry}{clock:Nat}{l:List (Int×β)}(w:World)(hk:P.underlying kt=some (.int q))(h:BA q E es clock l):
  (Instr.findKey kt (.int q k) es.toList).run P w= .ok ((fX l k).map λp=>(p.1,E p.2)) w:=by
 unfold Instr.findKey;rw[Sem.run_bind,run_underlying hk w];simp only[Result.andThen];rw[IG es.toList l 0 h.kv];cases fX l k with
 |none=>rfl
 |some z=>simp[Sem.run]
theorem EO{k:Int}:∀{l:List (Int×β)} {j:Nat} {y:β},fX l k=some (j,y)->l[j]? =some (k,y)
 |[],_,_,h=>by simp[fX]at h
 |p::r,j,y,h=>by
  unfold fX at h;cases hk:k==p.1 with
  |true=>
   rw[hk]at h;simp only[cond_true,Option.some.injEq,Prod.mk.injEq]at h;obtain⟨rfl,rfl⟩:=h;have:k=p.1:=by simpa using hk
   subst this;rfl
  |false=>
   rw[hk]at h;simp only[cond_false]at h;cases hr:fX r k with
   |none=>simp[hr]at h
   |some z=>rw[hr]at h;simp only[Option.map_some,Option.some.injEq,Prod.mk.injEq]at h;obtain⟨rfl,rfl⟩:=h;have:=EO (l:=r) (j:=z.1) (y:=z.2) hr;simpa using this
theorem EN{k:Int}{v:β}:∀{l:List (Int×β)},fX l k=none->uC l k v=l++[(k,v)]
 |[],_ =>rfl
 |p::r,h=>by
  unfold fX at h;cases hk:k==p.1 with
  |true=>rw[hk]at h;simp at h
  |false=>rw[hk]at h;simp only[cond_false,Option.map_eq_none_iff]at h;unfold uC;rw[hk,cond_false,EN h];rfl
theorem EM{k:Int}{v:β}:∀{l:List (Int×β)} {j:Nat} {y:β},fX l k=some (j,y)->uC l k v=l.set j (k,v)
 |[],_,_,h=>by simp[fX]at h
 |p::r,j,y,h=>by
  unfold fX at h;unfold uC;cases hk:k==p.1 with
  |true=>rw[hk]at h;simp only[cond_true,Option.some.injEq,Prod.mk.injEq]at h;obtain⟨rfl,rfl⟩:=h;rfl
  |false=>
   rw[hk]at h;simp only[cond_false]at h;cases hr:fX r k with
   |none=>simp[hr]at h
   |some z=>rw[hr]at h;simp only[Option.map_some,Option.some.injEq,Prod.mk.injEq]at h;obtain⟨rfl,rfl⟩:=h;rw[cond_false,EM (j:=z.1) (y:=z.2) hr];rfl
theorem BA.push{es:Array MapEntry}{clock:Nat}{l:List (Int×β)}(h:BA q E es clock l)(k:Int)(v:β):BA q E (es.push ⟨.int q k,E v,clock⟩) (clock+1) (l++[(k,v)]):=by
 refine⟨by simp[h.kv],λe he=>?_,?_⟩
 ·rw[Array.toList_push,List.mem_append,List.mem_singleton]at he
  rcases he with he|rfl
  ·exact Nat.lt_succ_of_lt (h.born e he)
  ·exact Nat.lt_succ_self _
 ·rw[Array.toList_push,List.map_append,List.nodup_append]
  refine⟨h.nd,by simp,λa ha b hb=>?_⟩;obtain⟨e,he,rfl⟩:=List.mem_map.1 ha;have hb:b=clock:=by simpa using hb
  subst hb
  exactλ_=>by have:=h.born e he;omega
theorem ym{γ:Type}(f:MapEntry->MapEntry)(g:MapEntry->γ)(x:γ):∀(es:List MapEntry) (j:Nat),(∀e,g (f e)=x)->(es.modify j f).map g=(es.map g).set j x
 |[],j,_ =>by simp
 |e::es,0,h=>by simp[h]
 |e::es,j+1,h=>by simp[ym f g x es j h]
theorem wL{γ:Type}(f:MapEntry->MapEntry)(g:MapEntry->γ):∀(es:List MapEntry) (j:Nat),(∀e,g (f e)=g e)->(es.modify j f).map g=es.map g
 |[],j,_ =>by simp
 |e::es,0,h=>by simp[h]
 |e::es,j+1,h=>by simp[wL f g es j h]
theorem BA.modify{es:Array MapEntry}{clock:Nat}{l:List (Int×β)}(h:BA q E es clock l)(j:Nat)(k:Int)(v:β):BA q E (es.modify j λe=>{e with key:= .int q k,val:=E v}) clock (l.set j (k,v)):=by
 have hb:(es.modify j λe=>{e with key:= .int q k,val:=E v}).toList.map (·.born)=es.toList.map (·.born):=by rw[Array.toList_modify];exact wL _ _ _ _ λ_ =>rfl
 refine⟨?_,λe he=>?_,?_⟩
 ·rw[Array.toList_modify,ym _ _ (Value.int q k,E v) _ _ (λ_ =>rfl),h.kv,List.map_set]
 ·have:e.born∈es.toList.map (·.born):=by rw[← hb];exact List.mem_map_of_mem he
  obtain⟨e',he',hee⟩:=List.mem_map.1 this;rw[← hee];exact h.born e' he'
 ·rw[hb];exact h.nd
end
section rules
variable {P:Program} {N:Nat} {c:Cx} {F:eH} {H:List aE} {d:Option Tmp} {ty:TypeId} {ps:String} {af:Array Edge} {g:Option (Nat×Bool)} {β:Type} {q:IntKind} {E:β->Value} {l:List (Int×β)} {f:aE->List aE} {b:Nat}
theorem GN.aaw{bs:List Nat}{n0:Nat}{w:World}(h:GN H b β q E l f)(hp:bH bs n0 H w):MpJ b q E l w:=by obtain⟨k,h1,_⟩:=h.ok;exact ae4 (hp.holds _ (List.mem_of_getElem? h1))
theorem GN.put{N:Nat}{D:List Deferred}{a:Act}{w:World}{l':List (Int×β)}{es es':Array MapEntry}{clock clock':Nat}(h:GN H b β q E l f)(hst:St N c D F H a w)(he:w.heap[b]? =some (.map es clock))(hok:BA q E es' clock' l'):
  aQ c.bs c.w0 (w.putObj b (.map es' clock'))/\bH c.bs c.w0.heap.size (f (Mp b q E l')) (w.putObj b (.map es' clock')):=by
 obtain⟨k,h1,h2⟩:=h.ok;have hlt:=(akl.1 he).1;have jb:aQ [b] w (w.putObj b (.map es' clock')):=⟨rfl,rfl,rfl,by simp[World.putObj],λk _ hk=>World.putObj_heap_other (by simpa using hk)⟩;refine⟨hst.si.store hst.hp (List.mem_of_getElem? h1) (by simp[aE.cI]) jb,?_⟩;rw[h2];refine hst.hp.set h1 jb.size (λj hj hne=>jb.block j hj (by simpa[aE.cI]using hne)) (Ok ⟨es',clock',World.putObj_heap_same hlt,hok⟩) hst.si.size (λb' hb=>?_);have e:b'=b:=by simpa[aE.cI]using hb
 subst e;exact⟨.inl (by simp[aE.cI]),by rw[World.putObj];simpa using hlt⟩
theorem Je(q:IntKind)(E:β->Value){t k e:TypeId}{q':IntKind}[Gw P t k e q']:
  RX P N c ⟨d, .makeMap t none,ty,ps,af,g⟩ F H (λ_ =>True) (λb=> .map (some b)) (λb=>Mp b q E []::H):=λD a w next Q hst hk=>by
 refine ew (by simp) (w':=w.alloc (.map #[] 0)) ?_ (hk w.heap.size _ trivial (hst.si.ext (aQ.alloc _ _)) (hst.hp.fresh (aQ.alloc _ _) (Ok ⟨#[],0,by show(w.heap.push _)[w.heap.size]? =_;simp,⟨rfl,by simp,by simp⟩⟩) hst.si.size (λb hb=>?_)))
 ·simp[execOp,Instr.makeMap,newObj,Sem.run,Result.andThen]
 ·have e:b=w.heap.size:=by simpa[aE.cI]using hb
  subst e;exact⟨Nat.le_refl _,by simp⟩
class Qn(P:Program)(e:TypeId)(z:outParam Value):Prop where
 ok:(P.info? e).bind (·.zero)=some z
theorem OW{e:TypeId}{z:Value}(h:Qn P e z)(w:World):(zeroValue e).run P w= .ok z w:=by
 have:=h.ok;cases hi:P.info? e with
 |none=>simp[hi]at this
 |some i=>simp[hi]at this;simp[zeroValue,typeInfo,hi,this,Sem.run_bind,Sem.run,Result.andThen]
theorem pL{t kt e:TypeId}{k:Int}{z:β}{commaOk:Bool}(w:World)(ht:Gw P t kt e q)(hz:Qn P e (E z))(h:MpJ b q E l w):
  (Instr.lookup t (.map (some b)) (.int q k) commaOk).run P w= .ok (if commaOk then .tuple #[E (oH l k z), .bool (qn l k)]else E (oH l k z)) w:=by
 obtain⟨es,clock,h1,h2⟩:=h;obtain⟨t1,t2⟩:=ht.ok;have hf:=od (k:=k) w t2 h2;have hc:∀em,(Instr.checkKey em 10000 kt (.int q k)).run P w= .ok () w:=λem=>MapKept.run_checkKey (k:= .int q k) t2 (show q=q from rfl) em 9999;simp only[Instr.lookup,Sem.run_bind,run_underlying t1,Result.andThen,MapKept.run_getObj_map h1,Sem.run];rw[Sem.run_pure];dsimp only;rw[hc];dsimp only;rw[hf];dsimp only;unfold oH qn;cases fX l k with
 |none=>cases commaOk<;>simp[OW hz,Result.andThen]
 |some p=>cases commaOk<;>simp[Result.andThen]
theorem TR{x y:Operand}{t kt e:TypeId}{k:Int}(z:β)[ht:Gw P t kt e q][hz:Qn P e (E z)](hx:ev F x=some (.map (some b)))(hy:ev F y=some (.int q k))[hm:GN H b β q E l f]:
  VS P N c ⟨d, .lookup t x y false,ty,ps,af,g⟩ F H (E (oH l k z)):=aG (by simp) λa w hf _ hp=>by
 simp[execOp,aI hf hx,aI hf hy,pL w ht hz (hm.aaw hp),Result.andThen]
theorem Qk{x y:Operand}{t kt e:TypeId}{k:Int}(z:β)[ht:Gw P t kt e q][hz:Qn P e (E z)](hx:ev F x=some (.map (some b)))(hy:ev F y=some (.int q k))[hm:GN H b β q E l f]:
  VS P N c ⟨d, .lookup t x y true,ty,ps,af,g⟩ F H (.tuple #[E (oH l k z), .bool (qn l k)]):=aG (by simp) λa w hf _ hp=>by
 simp[execOp,aI hf hx,aI hf hy,pL w ht hz (hm.aaw hp),Result.andThen]
theorem MH{x y z:Operand}{t kt e:TypeId}{k:Int}{v:Value}(u:β)[ht:Gw P t kt e q](hx:ev F x=some (.map (some b)))(hy:ev F y=some (.int q k))(hz:ev F z=some v)[hm:GN H b β q E l f](hv:v=E u):
  RX (α:=Unit) P N c ⟨d, .mapUpdate t x y z,ty,ps,af,g⟩ F H (λ_ =>True) (λ_ =>undef) (λ_ =>f (Mp b q E (uC l k u))):=λD a w next Q hst hk=>by
 subst hv;obtain⟨es,clock,h1,h2⟩:=hm.aaw hst.hp;obtain⟨t1,t2⟩:=ht.ok;have hf:=od (k:=k) w t2 h2;have hc:∀em,(Instr.checkKey em 10000 kt (.int q k)).run P w= .ok () w:=λem=>MapKept.run_checkKey (k:= .int q k) t2 (show q=q from rfl) em 9999;cases Ra:fX l k with
 |none=>obtain⟨p1,p2⟩:=hm.put hst h1 (h2.push k u);refine oU (by simp) (w':=w.putObj b (.map (es.push ⟨.int q k,E u,clock⟩) (clock+1))) ?_ (hk () _ trivial p1 (by rw[EN Ra];exact p2));rw[Ra]at hf;simp[execOp,aI hst.fr hx,aI hst.fr hy,aI hst.fr hz,Instr.mapUpdate,run_underlying t1,MapKept.run_getObj_map h1,hc,hf,MapKept.run_setObj_map _ h1,Result.andThen,World.putObj]
 |some p=>
  have hg:=EO (j:=p.1) (y:=p.2) Ra;obtain⟨p1,p2⟩:=hm.put hst h1 (h2.modify p.1 k u);refine oU (by simp) (w':=w.putObj b (.map (es.modify p.1 λe=>{e with key:= .int q k,val:=E u}) clock)) ?_ (hk () _ trivial p1 (by rw[EM (j:=p.1) (y:=p.2) Ra];exact p2));rw[Ra]at hf;have hkey:((es[p.1]?).map (·.key))=some (.int q k):=by
   have:(es.toList.map λe=>(e.key,e.val))[p.1]? =some (Value.int q k,E p.2):=by rw[h2.kv,List.getElem?_map,hg];rfl
   rw[List.getElem?_map,Array.getElem?_toList]at this;cases he:es[p.1]? with
   |none=>simp[he]at this
   |some e0=>simp[he]at this;simp[this.1]
  simp[execOp,aI hst.fr hx,aI hst.fr hy,aI hst.fr hz,Instr.mapUpdate,run_underlying t1,MapKept.run_getObj_map h1,hc,hf,hkey,MapKept.run_keyThatStays (show MapKept.IsKey (.int q) (.int q k)from rfl),MapKept.run_setObj_map _ h1,Result.andThen,World.putObj]
end rules
end Go.Bw
namespace Go.Bw
open Go Go.RowKit Go.ChangeMaps
section rules
variable {P:Program} {N:Nat} {c:Cx} {F:eH} {H:List aE} {d:Option Tmp} {ty:TypeId} {ps:String} {af:Array Edge} {g:Option (Nat×Bool)} {β:Type} {q:IntKind} {E:β->Value} {l rem:List (Int×β)} {ado:Option (Int×β)} {f:aE->List aE} {b r:Nat}
end rules
end Go.Bw
namespace Go.Rw
open Go Go.Bw
variable {G:Sg}
inductive Ob(G:Sg) where
 |cI (T:Nat) (c:AV G)
 |row (e sz:Nat) (t:Ty) (xs:List (t.T G))
 |aux (b:Bool)
 |gm
 |fm (q:IntKind) (ks:List Int) (vs:AV G)
 |lp (N:Nat) (ks:List Nat) (vs:AV G) (ps:List Nat) (a b:Code)
abbrev Fr(G:Sg):=List (Nat×AV G)
abbrev Os(G:Sg):=List (Nat×Ob G)
def dm{α:Type}:List (Nat×α)->Nat->Option α
 |[],_ =>none
 |(k,v)::r,d=>bif Nat.beq k d then some v else dm r d
structure Ly(G:Sg) where
 F:Fr G
 O:Os G
 D:List (AV G)
abbrev CC(G:Sg):=List (Ly G)
def lkC:CC G->Nat->Option (AV G)
 |[],_ =>none
 |y::r,d=>match dm y.F d with
  |some v=>some v
  |none=>lkC r d
def my:CC G->Os G
 |[]=>[]
 |y::r=>y.O++my r
def dfC:CC G->List (AV G)
 |[]=>[]
 |y::r=>y.D++dfC r
structure AS(G:Sg) where
 F:Fr G
 O:Os G
 nx:Nat
 D:List (AV G)
def rf(J:World->Prop)(ρ:bh)(t:Array Value):AV G->Value->Prop
 | .gd j w v,u=>(t[j]? =some (.bool w)->rv J ρ v u)/\(t[j]? ≠some (.bool w)->u=undef)
 |v,u=>rv J ρ v u
def qj(J:World->Prop)(ρ:bh)(F:Fr G)(t:Array Value):Prop:=∀d v,dm F d=some v->∃u,t[d]? =some u/\rf J ρ t v u
def FC(J:World->Prop)(ρ:bh)(C:CC G)(t:Array Value):Prop:=∀y∈C,qj J ρ y.F t
def FO(x:Int×Nat):Int×Value:=(x.1, .func (.func x.2) #[] #[])
def GlX(g:IntKind×List (Int×Nat))(mb:Nat)(w:World):Prop:=w.cell? ⟨0,0,none⟩=some (.map (some mb))/\∃l,MpJ mb g.1 (λv:Value=>v) l w/\∀k,oH l k .nilFunc=oH (g.2.map FO) k .nilFunc/\qn l k=qn (g.2.map FO) k
def Uk(G:Sg)(J:World->Prop):Prop:=∀g,G.gt=some g->∃mb,∀w,J w->GlX g mb w
theorem Uk.mono{J J':World->Prop}(h:Uk G J)(m:∀w,J' w->J w):Uk G J':=λg hg=>by obtain⟨mb,k⟩:=h g hg;exact⟨mb,λw q=>k w (m w q)⟩
def XI:Bool->Obj->Prop
 |true,o=>o= .deferred (some [])
 |false,o=>∃rec,o= .loop rec
def yC:Os G->Bool
 |[]=>true
 |(_, .aux false)::_ =>false
 |_ ::r=>yC r
theorem Dk{B:Os G}:∀{A:Os G},yC (A++B)=true->yC B=true:=by
 intro A
 induction A with
 |nil=>exactλh=>h
 |cons p r ih=>
  intro h;obtain⟨k,o⟩:=p;cases o with
  |aux b=>cases b with
   |true=>exact ih h
   |false=>cases h
  |cI T c=>exact ih h
  |row e sz t xs=>exact ih h
  |gm=>exact ih h
  |fm q ks vs=>exact ih h
  |lp _ _ _ _ _ _ =>exact ih h
structure Sn(c:Cx)(C:CC G)(w:World):Prop where
 s:aQ c.bs c.w0 w
 n:yC (my C)=true->c.ro=none
theorem Sn.ext{c:Cx}{C:CC G}{w w':World}(h:Sn c C w)(k:aQ [] w w'):Sn c C w':=⟨h.s.ext k,h.n⟩
theorem Sn.size{c:Cx}{C:CC G}{w:World}(h:Sn c C w):c.w0.heap.size<=w.heap.size:=h.s.size
structure ajS(N:Nat)(ks:List Nat)(us:List Value)(ps:List Nat)(a b:Code)(rec:Loop):Prop where
 sz:rec.tmps.size=N
 fr:∀(j d:Nat) (u:Value),ks[j]? =some d->us[j]? =some u->rec.tmps[d]? =some u
 ps:rec.params=ps.toArray
 akc:rec.assign=a
 bd:rec.body=b
 st:rec.state= .ready
 pn:rec.pending=none
def ro(J:World->Prop)(ρ:bh)(r:Nat):Ob G->aE->Prop
 | .cI T c,Bq=>∃b u,ρ r=some (dO b 0)/\Bq= .cells b T u.cells.toList/\rv J ρ c u
 | .row e sz t xs,Bq=>∃v ws,ρ r=some v/\Bq= .row v e sz xs.length ws/\uV v xs.length/\(LA (t.L G) xs.length).fg J ws (λi=>xs.getD i default)/\(t.L G).n=sz
 | .aux b,Bq=>∃n o,ρ r=some (dO n 0)/\Bq= .obj n o/\XI b o
 | .gm,Bq=>(∃mb g,ρ r=some (.map (some mb))/\G.gt=some g/\∀w,J w->GlX g mb w)/\Bq= .row (.slice none 0 0) 0 1 0 []
 | .fm q ks vs,Bq=>∃b es ck us,ρ r=some (.map (some b))/\Bq= .obj b (.map es ck)/\BA q (λv:Value=>v) es ck (ks.zip us)/\rl J ρ vs us/\us.length=ks.length
 | .lp N ks vs ps a b,Bq=>∃n rec us,ρ r=some (dO n 0)/\Bq= .obj n (.loop rec)/\rl J ρ vs us/\ajS N ks us ps a b rec
inductive RO(J:World->Prop)(ρ:bh):Os G->List aE->Prop
 |nil:RO J ρ [] []
 |cons {r:Nat} {o:Ob G} {x:aE} {O:Os G} {H:List aE} (h:ro J ρ r o x) (k:RO J ρ O H):RO J ρ ((r,o)::O) (x::H)
def dr(J:World->Prop)(ρ:bh):AV G->Deferred->Prop
 | .cons (.fn f a c) l,d=>∃fs cs ls:List Value,rl J ρ a fs/\rl J ρ c cs/\rl J ρ l ls/\d={target:= .fn f cs.toArray,args:=(fs++ls).toArray}
 | .ptr r p,d=>p=[]/\∃b,ρ r=some (dO b 0)/\d=Go.Bw.mark b
 |_,_ =>False
inductive DR(J:World->Prop)(ρ:bh):List (AV G)->List Deferred->Prop
 |nil:DR J ρ [] []
 |cons {v:AV G} {d:Deferred} {l:List (AV G)} {D:List Deferred} (h:dr J ρ v d) (k:DR J ρ l D):DR J ρ (v::l) (d::D)
def ah3(X:List aE):Prop:=∀w w',Hs X w->Hs X w'->∀b∈bF X,w'.heap[b]? =w.heap[b]?
structure Uh(G:Sg)(X:List aE)(J:World->Prop):Prop where
 to:∀w',Hs X w'->J w'
 ex:ah3 X
 gl:Uk G J
theorem Uh.one{X:List aE}{J:World->Prop}(h:Uh G X J){x:aE}{w:World}(hx:x.holds w)(hl:∀b∈x.cI,b<w.heap.size):
  ∃q:aE,q.holds w/\q.cI=x.cI/\Uh G (q::X) λw=>J w/\Hs [x] w:=by
 have st:∀w1:World,(aE.ext x.cI λw'=>w.heap.size<=w'.heap.size/\∀b∈x.cI,w'.heap[b]? =w.heap[b]?).holds w1->w.heap.size<=w1.heap.size/\∀b∈x.cI,w1.heap[b]? =w.heap[b]? :=λw1 h=>h w1 (Nat.le_refl _) λ_ _ =>rfl;refine⟨.ext x.cI λw'=>w.heap.size<=w'.heap.size/\∀b∈x.cI,w'.heap[b]? =w.heap[b]?,λw' h1 h2=>⟨h1,h2⟩,rfl,λw' hw=>?_,λw1 w2 h1 h2 b hb=>?_,h.gl.mono λw q=>q.1⟩
 ·have h1:=st w' (hw _ List.mem_cons_self).1
  refine⟨h.to w' λr hr=>hw r (akp _ hr),λr hr=>?_⟩;obtain rfl:=List.mem_singleton.1 hr;exact⟨aE.kT hx h1.1 h1.2,λb hb=>Nat.lt_of_lt_of_le (hl b hb) h1.1⟩
 ·have k1:=st w1 (h1 _ List.mem_cons_self).1
  have k2:=st w2 (h2 _ List.mem_cons_self).1;have hb:b∈x.cI\/b∈bF X:=by simpa[bF,aE.cI]using hb
  rcases hb with hb|hb
  ·rw[k1.2 b hb,k2.2 b hb]
  ·exact h.ex w1 w2 (λr hr=>h1 r (akp _ hr)) (λr hr=>h2 r (akp _ hr)) b hb
structure Rl(c:Cx)(N:Nat)(ρ:bh)(J:World->Prop)(HK X:List aE)(C:CC G)(S:AS G)(a:Act)(w:World):Prop where
 tm:a.tmps.size=N
 df:DR J ρ (S.D++dfC C) a.defers
 si:Sn c C w
 fs:qj J ρ S.F a.tmps
 fc:FC J ρ C a.tmps
 kc:∀r o,dm (my C) r=some o->∃x∈HK,ro J ρ r o x
 hp:∃HS,RO J ρ S.O HS/\bH c.bs c.w0.heap.size (HS++(HK++X)) w
 kn:Uh G X J
 fr:∀r,S.nx<=r->ρ r=none
section
variable {J J':World->Prop} {ρ ρ':bh}
theorem rf.mono(m:∀w,J' w->J w){t:Array Value}{v:AV G}{u:Value}(h:rf J ρ t v u):rf J' ρ t v u:=by
 cases v with
 |gd j w v=>exact⟨λe=>(h.1 e).mono m,h.2⟩
 |_ =>exact rl.mono m h
theorem rf.ext(m:ρ.le ρ'){t:Array Value}{v:AV G}{u:Value}(h:rf J ρ t v u):rf J ρ' t v u:=by
 cases v with
 |gd j w v=>exact⟨λe=>(h.1 e).ext m,h.2⟩
 |_ =>exact rl.ext m h
theorem qj.up(mJ:∀w,J' w->J w)(mρ:ρ.le ρ'){F:Fr G}{t:Array Value}(h:qj J ρ F t):qj J' ρ' F t:=λd v e=>by obtain⟨u,h1,h2⟩:=h d v e;exact⟨u,h1,(h2.mono mJ).ext mρ⟩
theorem ro.up(mJ:∀w,J' w->J w)(mρ:ρ.le ρ'){r:Nat}{o:Ob G}{x:aE}(h:ro J ρ r o x):ro J' ρ' r o x:=by
 cases o with
 |cI T c=>obtain⟨b,u,h1,h2,h3⟩:=h;exact⟨b,u,mρ _ _ h1,h2,(h3.mono mJ).ext mρ⟩
 |row e sz t xs=>obtain⟨v,ws,h1,h2,h3,h4,h5⟩:=h;exact⟨v,ws,mρ _ _ h1,h2,h3,cZ.mono _ mJ h4,h5⟩
 |aux b=>obtain⟨n,x,h1,h2⟩:=h;exact⟨n,x,mρ _ _ h1,h2⟩
 |gm=>obtain⟨⟨mb,g,h1,h2,h3⟩,h4⟩:=h;exact⟨⟨mb,g,mρ _ _ h1,h2,λw q=>h3 w (mJ w q)⟩,h4⟩
 |fm q ks vs=>obtain⟨b,es,ck,us,h1,h2,h3,h4,h5⟩:=h;exact⟨b,es,ck,us,mρ _ _ h1,h2,h3,(h4.mono mJ).ext mρ,h5⟩
 |lp N ks vs ps a b=>obtain⟨n,rec,us,h1,h2,h3,h4⟩:=h;exact⟨n,rec,us,mρ _ _ h1,h2,(h3.mono mJ).ext mρ,h4⟩
theorem RO.up(mJ:∀w,J' w->J w)(mρ:ρ.le ρ'){O:Os G}{H:List aE}(h:RO J ρ O H):RO J' ρ' O H:=by
 induction h with
 |nil=>exact .nil
 |cons h _ ih=>exact .cons (h.up mJ mρ) ih
theorem dr.up(mJ:∀w,J' w->J w)(mρ:ρ.le ρ'){v:AV G}{d:Deferred}(h:dr J ρ v d):dr J' ρ' v d:=by
 unfold dr at h;split at h
 ·obtain⟨fs,cs,ls,h1,h2,h3,h4⟩:=h
  exact⟨fs,cs,ls,(h1.mono mJ).ext mρ,(h2.mono mJ).ext mρ,(h3.mono mJ).ext mρ,h4⟩
 ·obtain⟨rfl,b,h1,h2⟩:=h
  exact⟨rfl,b,mρ _ _ h1,h2⟩
 ·exact h.elim
theorem DR.up(mJ:∀w,J' w->J w)(mρ:ρ.le ρ'){l:List (AV G)}{D:List Deferred}(h:DR J ρ l D):DR J' ρ' l D:=by
 induction h with
 |nil=>exact .nil
 |cons h _ ih=>exact .cons (h.up mJ mρ) ih
def LR(d:Nat):Fr G->Bool
 |[]=>true
 |(_,v)::r=>(match v with
  | .gd j _ _ => !Nat.beq j d
  |_ =>true)&&LR d r
theorem ac9{d:Nat}:∀{F:Fr G},LR d F=true->∀{k:Nat} {j:Nat} {w:Bool} {v:AV G},dm F k=some (.gd j w v)->j≠d:=by
 intro F
 induction F with
 |nil=>intro _ k j w v h;cases h
 |cons p r ih=>
  obtain⟨k0,v0⟩:=p;intro h k j w v e;simp only[LR,akg]at h;simp only[dm]at e;cases hb:Nat.beq k0 k with
  |true=>rw[hb]at e;cases e;intro hj;have:=h.1;simp only[hj,Nat.beq_refl,Bool.not_true,Bool.false_eq_true]at this
  |false=>rw[hb]at e;exact ih h.2 e
theorem LC{t:Array Value}{v:AV G}{u:Value}{d:Nat}{x:Value}(h:rf J ρ t v u)(hn:∀j w v',v= .gd j w v'->j≠d):rf J ρ (t.setIfInBounds d x) v u:=by
 cases v with
 |gd j w v=>
  have:(t.setIfInBounds d x)[j]? =t[j]? :=by rw[Array.getElem?_setIfInBounds,ake (Ne.symm (hn j w v rfl))]
  refine⟨λe=>h.1 (this▸e),λe=>h.2 (this▸e)⟩
 |_ =>exact h
theorem qj.put{F:Fr G}{a:Act}{d:Nat}{v:AV G}{u:Value}(h:qj J ρ F a.tmps)(hd:d<a.tmps.size)(hn:LR d F=true)(hg:∀j w v',v= .gd j w v'->j≠d)(hv:rf J ρ a.tmps v u):
  qj J ρ ((d,v)::F) (a.put (some d) u).tmps:=λk x e=>by
 simp only[dm]at e;cases hb:Nat.beq d k with
 |true=>rw[hb]at e;cases e;have:=akf hb;subst this;exact⟨u,by simp[Act.put,hd],LC hv hg⟩
 |false=>
  rw[hb]at e;obtain⟨y,h1,h2⟩:=h k x e;have hne:¬d=k:=λe=>by rw[e,Nat.beq_refl]at hb;cases hb
  exact⟨y,by simp only[Act.put,Array.getElem?_setIfInBounds,ake hne];exact h1,LC h2 λj w v' e'=>ac9 hn (e'▸e)⟩
def SS(d:Nat):Fr G->Bool
 |[]=>true
 |(k,v)::r=> !Nat.beq k d&&(match v with
  | .gd j _ _ => !Nat.beq j d
  |_ =>true)&&SS d r
theorem ac7{d:Nat}:∀{F:Fr G},SS d F=true->dm F d=none/\∀{k:Nat} {j:Nat} {w:Bool} {v:AV G},dm F k=some (.gd j w v)->j≠d:=by
 intro F
 induction F with
 |nil=>intro _;exact⟨rfl,λh=>by cases h⟩
 |cons p r ih=>
  obtain⟨k0,v0⟩:=p;intro h;simp only[SS,akg,Bool.not_eq_true']at h;obtain⟨h1,h2⟩:=ih h.2;refine⟨by simp only[dm,h.1.1,cond_false];exact h1,λ{k j w v} e=>?_⟩;simp only[dm]at e;cases hb:Nat.beq k0 k with
  |true=>rw[hb]at e;cases e;intro hj;have:=h.1.2;simp only[hj,Nat.beq_refl,Bool.not_true,Bool.false_eq_true]at this
  |false=>rw[hb]at e;exact h2 e
theorem qj.off{F:Fr G}{a:Act}{d:Nat}{u:Value}(h:qj J ρ F a.tmps)(hn:SS d F=true):qj J ρ F (a.put (some d) u).tmps:=λk x e=>by
 obtain⟨h1,h2⟩:=ac7 hn;obtain⟨y,h3,h4⟩:=h k x e;have hne:¬d=k:=λq=>by rw[q,e]at h1;cases h1
 exact⟨y,by simp only[Act.put,Array.getElem?_setIfInBounds,ake hne];exact h3,LC h4 λj w v' e'=>h2 (e'▸e)⟩
def KX(d:Nat):AV G->Bool
 | .gd j _ _ => !Nat.beq j d
 |_ =>true
def Nl(d:Nat):CC G->Bool
 |[]=>true
 |y::r=>SS d y.F&&Nl d r
theorem ac6{d:Nat}:∀{C:CC G},Nl d C=true->∀y∈C,SS d y.F=true:=by
 intro C
 induction C with
 |nil=>intro _ y hy;cases hy
 |cons x r ih=>
  intro h y hy;simp only[Nl,akg]at h;rcases List.mem_cons.1 hy with rfl|hy
  ·exact h.1
  ·exact ih h.2 y hy
def vO(N:Nat)(C:CC G)(d:Option Tmp)(v:AV G)(S:AS G):Option (AS G):=match d with
 |none=>some S
 |some d=>bif Nat.blt d N&&(LR d S.F&&Nl d C)&&KX d v then some {S with F:=(d,v)::S.F}else none
theorem Rl.put{c:Cx}{N:Nat}{HK X:List aE}{C:CC G}{S S':AS G}{a:Act}{w:World}{d:Option Tmp}{v:AV G}{u:Value}(h:Rl c N ρ J HK X C S a w)(hp:vO N C d v S=some S')(hv:rf J ρ a.tmps v u):
  Rl c N ρ J HK X C S' (a.put d u) w:=by
 cases d with
 |none=>cases hp;exact h
 |some d=>
  unfold vO at hp;dsimp only at hp;cases hb:(Nat.blt d N&&(LR d S.F&&Nl d C)&&KX d v)with
  |false=>rw[hb]at hp;cases hp
  |true=>rw[hb]at hp;cases hp;simp only[akg]at hb;obtain⟨⟨h1,h2,h3⟩,h4⟩:=hb;refine⟨by simp[Act.put,h.tm],by simpa[Act.put]using h.df,h.si,h.fs.put (by rw[h.tm];simpa[Nat.blt_eq]using h1) h2 (λj w v' e=>?_) hv,(λy hy=>(h.fc y hy).off (ac6 h3 y hy)),h.kc,h.hp,h.kn,h.fr⟩;subst e;intro hj;simp only[KX,hj,Nat.beq_refl,Bool.not_true,Bool.false_eq_true]at h4
def avc:Value->Option (AV G)
 | .int k n=>some (.lit k n)
 | .bool b=>some (.kb b)
 | .string s=>some (.str s)
 | .pointer none=>some .s8
 | .slice none 0 0=>some .kz
 | .map none=>some .Dl
 | .nilFunc=>some .nn
 | .nilIface=>some .Gk
 |_ =>none
def NO(C:CC G)(S:AS G):Operand->Option (AV G)
 | .tmp t=>match dm S.F t with
  |some v=>some v
  |none=>lkC C t
 | .const v=>avc v
 | .global _ =>none
 | .func f=>some (.fn (.func f) .nil .nil)
theorem ahM{v:Value}{x:AV G}{t:Array Value}(h:avc v=some x):rf J ρ t x v:=by unfold avc at h;split at h<;>first|(cases h;rfl)|cases h
theorem Wo{t:Array Value}:∀{C:CC G} {d:Nat} {v:AV G},FC J ρ C t->lkC C d=some v->∃u,t[d]? =some u/\rf J ρ t v u:=by
 intro C
 induction C with
 |nil=>intro d v _ h;cases h
 |cons y r ih=>
  intro d v hf h;simp only[lkC]at h;split at h
  ·rename_i v' hv;cases h;exact hf y List.mem_cons_self d _ hv
  ·exact ih (λz hz=>hf z (akp _ hz)) h
theorem FC.up(mJ:∀w,J' w->J w)(mρ:ρ.le ρ'){C:CC G}{t:Array Value}(h:FC J ρ C t):FC J' ρ' C t:=λy hy=>(h y hy).up mJ mρ
theorem Rl.ev{c:Cx}{N:Nat}{HK X:List aE}{C:CC G}{S:AS G}{a:Act}{w:World}(h:Rl c N ρ J HK X C S a w){x:Operand}{v:AV G}(e:NO C S x=some v):rf J ρ a.tmps v (a.eval x):=by
 cases x with
 |tmp t=>
  simp only[NO]at e;cases h1:dm S.F t with
  |some v'=>
   rw[h1]at e;cases e;obtain⟨u,h2,h3⟩:=h.fs t _ h1;have:a.eval (.tmp t)=u:=by simp[Act.eval,h2]
   rw[this];exact h3
  |none=>
   rw[h1]at e;obtain⟨u,h2,h3⟩:=Wo h.fc e;have:a.eval (.tmp t)=u:=by simp[Act.eval,h2]
   rw[this];exact h3
 |const v'=>exact ahM e
 |global g=>cases e
 |func f=>cases e;exact⟨[],[],rfl,rfl,rfl⟩
def bh.fr(ρ:bh)(n:Nat):Prop:=∀r,n<=r->ρ r=none
def bh.to(ρ ρ':bh)(n:Nat):Prop:=∀r,r<n->ρ' r=ρ r
theorem bh.to.le{n:Nat}(h:ρ.to ρ' n)(f:ρ.fr n):ρ.le ρ':=λr v e=>by
 by_cases hr:r<n
 ·rw[h r hr];exact e
 ·rw[f r (by omega)]at e;cases e
theorem bh.to.trans{ρ'':bh}{n m:Nat}(h:ρ.to ρ' n)(k:ρ'.to ρ'' m)(hn:n<=m):ρ.to ρ'' n:=λr hr=>(k r (by omega)).trans (h r hr)
theorem bh.ef(ρ:bh)(n:Nat):ρ.to ρ n:=λ_ _ =>rfl
def bh.set(ρ:bh)(n:Nat)(v:Value):bh:=λr=>if r=n then some v else ρ r
theorem bh.iN(ρ:bh)(n:Nat)(v:Value):ρ.set n v n=some v:=by simp[bh.set]
theorem bh.kL(ρ:bh)(n:Nat)(v:Value):ρ.to (ρ.set n v) n:=λr hr=>by simp[bh.set,Nat.ne_of_lt hr]
theorem bh.xl{n:Nat}(h:ρ.fr n)(v:Value):(ρ.set n v).fr (n+1):=λr hr=>by unfold bh.set;rw[ake (by omega)];exact h r (by omega)
end
end Go.Rw
namespace Go.Rw
open Go Go.Bw
variable {G:Sg}
abbrev Qt(G:Sg):=∀i,List (Fd G i)
structure PR(G:Sg)(t:Ty) where
 m:Ty
 get:t.T G->m.T G
 set:t.T G->m.T G->t.T G
def path(F:Qt G):List tv->(t:Ty)->Option (PR G t)
 |[],t=>some ⟨t,λx=>x,λ_ v=>v⟩
 | .D2 j o::r, .st i=>match(F i)[j]? with
  |some f=>bif Nat.beq f.off o then(match path F r f.ty with
   |some q=>some ⟨q.m,λx=>q.get (f.get x),λx v=>f.set x (q.set (f.get x) v)⟩
   |none=>none)else none
  |none=>none
 | .idx k sz i::r, .mV n e=>bif Nat.beq n k&&Nat.beq sz (e.L G).n then(match path F r e with
   |some q=>some ⟨q.m,λx=>q.get (x i.toNat),λx v=>iW x i.toNat (q.set (x i.toNat) v)⟩
   |none=>none)else none
 |_,_ =>none
theorem LG{F:Qt G}:∀{p:List tv} {t:Ty} {q:PR G t},path F p t=some q->(∀s∈p,s.ok)->aV (t.L G) (q.m.L G) (fj p) q.get q.set:=by
 intro p
 induction p with
 |nil=>intro t q h _;cases h;exact aV.id
 |cons s r ih=>
  intro t q h hs;have hr:=λs' hs'=>hs s' (akp _ hs');cases s with
  |D2 j o=>
   cases t with
   |st i=>
    simp only[path]at h;split at h
    ·rename_i f hf
     cases hb:Nat.beq f.off o with
     |false=>rw[hb]at h;cases h
     |true=>
      rw[hb]at h;simp only[cond_true]at h;split at h
      ·rename_i q' hq
       cases h;have:=f.ok.comp (ih hq hr);rw[akf hb]at this;exact this
      ·cases h
    ·cases h
   |_ =>cases h
  |idx k sz i=>
   cases t with
   |mV n e=>
    simp only[path]at h;cases hb:(Nat.beq n k&&Nat.beq sz (e.L G).n)with
    |false=>rw[hb]at h;cases h
    |true=>
     rw[hb]at h;simp only[cond_true]at h;simp only[akg]at hb;have e1:=akf hb.1;have e2:=akf hb.2;subst e1;split at h
     ·rename_i q' hq
      cases h;have hi:dH i n=true:=hs _ List.mem_cons_self;exact(aV.idx (L:=e.L G) (m:=n) i.toNat (cq hi).2 e2).comp (ih hq hr)
     ·cases h
   |_ =>cases h
structure PL(G:Sg)(e:Ty) where
 m:Ty
 i:Int
 get:e.T G->m.T G
 set:e.T G->m.T G->e.T G
def H6(F:Qt G)(e:Ty):List tv->Option (PL G e)
 | .idx _ _ i::r=>match path F r e with
  |some q=>some ⟨q.m,i,q.get,q.set⟩
  |none=>none
 |_ =>none
theorem Ng{F:Qt G}{e:Ty}{n sz:Nat}{i:Int}{r:List tv}{q:PL G e}(h:H6 F e (.idx n sz i::r)=some q)(hs:∀s∈(.idx n sz i::r:List tv),s.ok)(he:sz=(e.L G).n){m:Nat}(hi:i.toNat<m):
  q.i=i/\aV (LA (e.L G) m) (q.m.L G) (fj (.idx n sz i::r)) (λx=>q.get (x i.toNat)) (λx v=>iW x i.toNat (q.set (x i.toNat) v)):=by
 simp only[H6]at h;split at h
 ·rename_i q' hq
  cases h;exact⟨rfl,(aV.idx (L:=e.L G) (m:=m) i.toNat hi he).comp (LG hq λs hs'=>hs s (akp _ hs'))⟩
 ·cases h
def BQ:(t:Ty)->AV G->Option (t.T G)
 | .int k, .int l n=>bif Nat.beq (Ty.bS.ik l) (Ty.bS.ik k)then some n else none
 | .int k, .lit l n=>bif Nat.beq (Ty.bS.ik l) (Ty.bS.ik k)then some n else none
 | .bool, .bool b=>some b
 | .bool, .kb b=>some b
 | .sl _, .kz=>some []
 |t, .dat t' x=>if h:t'.bS t=true then some (Ty.vN h▸x)else none
 |_,_ =>none
theorem Vp{J:World->Prop}{e:Ty}:xm (G:=G) J (.sl e) ([]:List (e.T G)) (.slice none 0 0):=⟨⟨_,[],rfl,Cq.nil⟩,nofun,λ_ =>rfl⟩
theorem Ar{J:World->Prop}{ρ:bh}{t:Ty}{v:AV G}{x:t.T G}{u:Value}(h:BQ t v=some x)(hv:rv J ρ v u):xm J t x u:=by
 have hd:∀{t':Ty} {y:t'.T G},v= .dat t' y->(if h:t'.bS t=true then some (Ty.vN h▸y:t.T G)else none)=some x->xm J t x u:=by
  intro t' y e k;subst e;by_cases hs:t'.bS t=true
  ·rw[dif_pos hs]at k
   obtain⟨u',e1,hr⟩:=hv;cases e1;have:=Ty.vN hs;subst this;cases k;exact hr
  ·rw[dif_neg hs]at k;cases k
 unfold BQ at h;split at h
 ·rename_i k l n
  cases hb:Nat.beq (Ty.bS.ik l) (Ty.bS.ik k)with
  |false=>rw[hb]at h;cases h
  |true=>rw[hb]at h;cases h;obtain rfl:=Io hb;exact QU (t:= .int l) hv
 ·rename_i k l n
  cases hb:Nat.beq (Ty.bS.ik l) (Ty.bS.ik k)with
  |false=>rw[hb]at h;cases h
  |true=>rw[hb]at h;cases h;obtain rfl:=Io hb;exact QU (ρ:=ρ) (t:= .int l) hv
 ·cases h;exact QU (t:= .bool) hv
 ·cases h;exact QU (ρ:=ρ) (t:= .bool) hv
 ·cases h
  have:[u]=[.slice none 0 0]:=hv;cases this;exact Vp
 ·exact hd rfl h
 ·cases h
def partAt:AV G->Nat->Option (Nat×AV G)
 | .part w a b,o=>bif Nat.beq o 0 then some (w,a)else bif Nat.ble w o then partAt b (o-w)else none
 |_,_ =>none
def C5:AV G->Nat->AV G->Option (AV G)
 | .part w a b,o,v=>bif Nat.beq o 0 then some (.part w v b)else bif Nat.ble w o then(match C5 b (o-w) v with
   |some b'=>some (.part w a b')
   |none=>none)else none
 |_,_,_ =>none
def KR(F:Qt G):AV G->List tv->Option (AV G)
 |v,[]=>some v
 | .dat t x,p=>match path F p t with
  |some q=>some (mk q.m (q.get x))
  |none=>none
 | .st a, .D2 _ o::r=>match partAt a o with
  |some (_,v)=>KR F v r
  |none=>none
 |_,_ =>none
theorem EG{J:World->Prop}{ρ:bh}:∀{a:AV G} {o w:Nat} {v:AV G} {cs:List Value},partAt a o=some (w,v)->rl J ρ a cs->∃u,rv J ρ v u/\(cs.drop o).take w=u.cells.toList/\u.cells.size=w/\o+w<=cs.length:=by
 intro a
 induction a with
 |part w0 a b _ sB=>
  intro o w v cs h hr;obtain⟨c1,c2,u,rfl,h1,h2,h3,h4⟩:=hr;unfold partAt at h;cases h0:Nat.beq o 0 with
  |true=>rw[h0]at h;cases h;obtain rfl:=akf h0;refine⟨u,h2,?_,by rw[← h1, ← h3,Array.length_toList],by simp;omega⟩;rw[List.drop_zero, ← h1,List.take_left,h3]
  |false=>
   rw[h0]at h;cases hb:Nat.ble w0 o with
   |false=>rw[hb]at h;cases h
   |true=>rw[hb]at h;have hle:=Nat.le_of_ble_eq_true hb;obtain⟨u',k1,k2,k3,k4⟩:=sB h h4;refine⟨u',k1,?_,k3,by simp;omega⟩;rw[← k2,List.drop_append,List.drop_of_length_le (by omega),List.nil_append,h1]
 |_ =>intro o w v cs h;cases h
theorem GX{J:World->Prop}:∀{t:Ty} {x:t.T G} {cs:List Value},(t.L G).fg J cs x->∃u:Value,u.cells.toList=cs/\xm J t x u:=by
 intro t x cs h;cases t with
 |int k=>have h:cs=[.int k x]:=h;subst h;exact⟨.int k x,rfl,rfl,nofun,λ_ =>rfl⟩
 |bool=>have h:cs=[.bool x]:=h;subst h;exact⟨.bool x,rfl,rfl,nofun,λ_ =>rfl⟩
 |st i=>exact⟨.agg cs.toArray,rfl,h,λ_ =>⟨cs,rfl⟩,nofun⟩
 |mV n e=>exact⟨.agg cs.toArray,rfl,h,λ_ =>⟨cs,rfl⟩,nofun⟩
 |sl e=>obtain⟨v,ws,rfl,hf⟩:=h;have hc:v.cells.toList=[v]:=hf.sl.cells;exact⟨v,hc,⟨v,ws,hc,hf⟩,nofun,λ_ =>by rw[← hc]⟩
theorem Ij{F:Qt G}{J:World->Prop}{ρ:bh}:∀{p:List tv} {c v:AV G} {u:Value},KR F c p=some v->rv J ρ c u->(∀s∈p,s.ok)->
  ∃u',rv J ρ v u'/\(u.cells.toList.drop (fj p)).take u'.cells.size=u'.cells.toList/\fj p+u'.cells.size<=u.cells.size:=by
 intro p
 induction p with
 |nil=>
  intro c v u h hr _;have:c=v:=by unfold KR at h;exact Option.some.inj h
  subst this;exact⟨u,hr,by rw[fj,List.drop_zero,List.take_of_length_le (by simp)],by simp[fj]⟩
 |cons s r ih=>
  intro c v u h hr hs;cases c with
  |dat t x=>
   simp only[KR]at h;split at h
   ·rename_i q hq
    cases h;obtain⟨u0,e,hd⟩:=hr;cases e;have hp:=LG hq hs;have hg:=hp.get hd.1;obtain⟨u',k1,k2⟩:=GX hg;have hl:=(q.m.L G).len hg;have hl2:=(t.L G).len hd.1;have hle:=hp.le;rw[← k1]at hl;rw[Array.length_toList]at hl hl2;exact⟨u',Kr k2,by rw[hl,k1],by omega⟩
   ·cases h
  |st a=>
   cases s with
   |D2 j o=>
    simp only[KR]at h;split at h
    ·rename_i w c' hp
     obtain⟨cs,e,h1,h2⟩:=hr;cases e;obtain⟨u1,k1,k2,k3,k4⟩:=EG hp h1;obtain⟨u',m1,m2,m3⟩:=ih h k1 λs hs'=>hs s (akp _ hs');refine⟨u',m1,?_,?_⟩
     ·rw[← m2, ← k2]
      show(cs.drop (o+fj r)).take _ =_;rw[List.drop_take,List.take_take,List.drop_drop,Nat.min_eq_left (by omega)]
     ·show o+fj r+_ <=cs.length
      omega
    ·cases h
   |idx _ _ _ =>simp[KR]at h
  |_ =>simp[KR]at h
def AV.one:AV G->Bool
 | .int _ _ =>true
 | .lit _ _ =>true
 | .bool _ =>true
 | .kb _ =>true
 | .str _ =>true
 | .dat t _ => !t.ag
 | .ptr _ _ =>true
 | .s8=>true
 | .kz=>true
 | .row _ =>true
 | .EE _ _ _ _ _ _ =>true
 | .mp _ =>true
 | .Dl=>true
 | .yl _ =>true
 | .fn _ _ _ =>true
 | .nn=>true
 | .iQ _ _ =>true
 | .Gk=>true
 |_ =>false
theorem EI{J:World->Prop}{ρ:bh}{v:AV G}{u:Value}(h:v.one=true)(hr:rv J ρ v u):u.cells= #[u]/\u.oneCell'=true:=by
 cases v<;>simp only[AV.one,Bool.false_eq_true]at h
 case int=>have hr:[u]=_ :=hr;cases hr;exact⟨rfl,rfl⟩
 case lit=>have hr:[u]=_ :=hr;cases hr;exact⟨rfl,rfl⟩
 case bool=>have hr:[u]=_ :=hr;cases hr;exact⟨rfl,rfl⟩
 case kb=>have hr:[u]=_ :=hr;cases hr;exact⟨rfl,rfl⟩
 case str=>have hr:[u]=_ :=hr;cases hr;exact⟨rfl,rfl⟩
 case dat t x=>obtain⟨u',e,h1,_,h3⟩:=hr;cases e;have h3:=h3 (by simpa using h);refine⟨h3,?_⟩;have:=(t.L G).one h1 u (by rw[h3];simp);exact this
 case ptr=>obtain⟨⟨b,o,_,e⟩,_⟩:=hr;cases e;exact⟨rfl,rfl⟩
 case s8=>have hr:[u]=_ :=hr;cases hr;exact⟨rfl,rfl⟩
 case kz=>have hr:[u]=_ :=hr;cases hr;exact⟨rfl,rfl⟩
 case row r=>obtain⟨_,_,_,_,e⟩:=hr;cases e;exact⟨rfl,rfl⟩
 case EE=>obtain⟨⟨b,o,_,e⟩,_⟩:=hr;cases e;exact⟨rfl,rfl⟩
 case mp r=>obtain⟨_,_,e,h1⟩:=hr;cases e;exact h1
 case Dl=>have hr:[u]=_ :=hr;cases hr;exact⟨rfl,rfl⟩
 case yl=>obtain⟨_,_,e⟩:=hr;cases e;exact⟨rfl,rfl⟩
 case fn=>obtain⟨_,_,e,_⟩:=hr;cases e;exact⟨rfl,rfl⟩
 case nn=>have hr:[u]=_ :=hr;cases hr;exact⟨rfl,rfl⟩
 case iQ=>obtain⟨_,e,_⟩:=hr;cases e;exact⟨rfl,rfl⟩
 case Gk=>have hr:[u]=_ :=hr;cases hr;exact⟨rfl,rfl⟩
theorem EJ{J:World->Prop}{ρ:bh}{v:AV G}{u:Value}(h:v.one=true)(hr:rv J ρ v u):u.cells.toList=[u]/\u.cells.size=1:=by
 have:=(EI h hr).1;constructor
 ·rw[this]
 ·rw[this];rfl
def parts:AV G->Option Nat
 | .nil=>some 0
 | .part w _ b=>match parts b with
  |some n=>some (w+n)
  |none=>none
 |_ =>none
theorem zw{J:World->Prop}{ρ:bh}:∀{a:AV G} {n:Nat} {cs:List Value},parts a=some n->rl J ρ a cs->cs.length=n:=by
 intro a
 induction a with
 |nil=>intro n cs h hr;cases h;have:cs=[]:=hr;subst this;rfl
 |part w a b _ sB=>
  intro n cs h hr;simp only[parts]at h;split at h
  ·rename_i m hm
   cases h;obtain⟨c1,c2,u,rfl,h1,_,_,h4⟩:=hr;simp[h1,sB hm h4]
  ·cases h
 |_ =>intro n cs h;cases h
def AV.ncl(v:AV G):Option Nat:=bif v.one then some 1 else match v with
 | .dat t _ =>some (t.L G).n
 | .st a=>parts a
 |_ =>none
theorem Ph{J:World->Prop}{ρ:bh}{v:AV G}{n:Nat}{l:List Value}(h:v.ncl=some n)(hr:rl J ρ v l):∃u,l=[u]/\u.cells.size=n/\o9 u.cells.toList:=by
 unfold AV.ncl at h;cases hb:v.one with
 |true=>
  rw[hb]at h;cases h;have key:∀u,l=[u]->∃u,l=[u]/\u.cells.size=1/\o9 u.cells.toList:=λu e=>by subst e;obtain⟨k1,k2⟩:=EI hb hr;refine⟨u,rfl,(EJ hb hr).2,?_⟩;rw[k1];intro x hx;simp at hx;subst hx;exact k2
  cases v<;>simp only[AV.one,Bool.false_eq_true]at hb
  case dat t x=>obtain⟨u,e,_⟩:=hr;exact key u e
  case ptr=>obtain⟨⟨b,o,_,e⟩,_⟩:=hr;exact key _ e
  case row=>obtain⟨_,_,_,_,e⟩:=hr;exact key _ e
  case EE=>obtain⟨⟨b,o,_,e⟩,_⟩:=hr;exact key _ e
  case mp=>obtain⟨_,_,e,_⟩:=hr;exact key _ e
  case yl=>obtain⟨_,_,e⟩:=hr;exact key _ e
  case fn=>obtain⟨_,_,e,_⟩:=hr;exact key _ e
  case iQ=>obtain⟨_,e,_⟩:=hr;exact key _ e
  all_goals exact key _ hr
 |false=>
  rw[hb]at h;simp only[cond_false]at h;split at h
  ·rename_i t x
   cases h;obtain⟨u,e,h1,_⟩:=hr;exact⟨u,e,by rw[← Array.length_toList];exact(t.L G).len h1,(t.L G).one h1⟩
  ·obtain⟨cs,e,h1,h2⟩:=hr
   exact⟨_,e,zw h h1,h2⟩
  ·cases h
def stW(c v:AV G):Option (AV G):=bif c.one&&v.one then some v else match c,v with
 | .unk n,v=>match v.ncl with
  |some m=>bif Nat.beq n m then some v else none
  |none=>none
 | .dat t _,v=>match BQ t v with
  |some x=>some (mk t x)
  |none=>none
 | .st a, .st b=>match parts a,parts b with
  |some n,some m=>bif Nat.beq n m then some (.st b)else none
  |_,_ =>none
 |_,_ =>none
theorem acA{J:World->Prop}{ρ:bh}{c v c':AV G}{u uv:Value}(h:stW c v=some c')(hc:rv J ρ c u)(hv:rv J ρ v uv):rv J ρ c' uv/\uv.cells.size=u.cells.size/\o9 uv.cells.toList:=by
 unfold stW at h;cases hb:(c.one&&v.one)with
 |true=>rw[hb]at h;cases h;simp only[akg]at hb;obtain⟨k1,k2⟩:=EI hb.2 hv;refine⟨hv,by rw[(EJ hb.1 hc).2,(EJ hb.2 hv).2],?_⟩;rw[k1];intro x hx;simp at hx;subst hx;exact k2
 |false=>
  rw[hb]at h;simp only[cond_false]at h;split at h
  ·rename_i n
   split at h
   ·rename_i m hm
    cases hq:Nat.beq n m with
    |false=>rw[hq]at h;cases h
    |true=>rw[hq]at h;cases h;obtain⟨u1,e1,k1,k2⟩:=Ph hm hv;cases e1;obtain⟨u2,e2,k3⟩:=hc;cases e2;exact⟨hv,by rw[k1,k3,akf hq],k2⟩
   ·cases h
  ·rename_i t x
   split at h
   ·rename_i y hy
    cases h;obtain⟨u',e,k1,_⟩:=hc;cases e;have k2:=Ar hy hv;refine⟨Kr k2,?_,(t.L G).one k2.1⟩;rw[← Array.length_toList,(t.L G).len k2.1, ← (t.L G).len k1,Array.length_toList]
   ·cases h
  ·split at h
   ·rename_i n m h1 h2
    cases hq:Nat.beq n m with
    |false=>rw[hq]at h;cases h
    |true=>rw[hq]at h;cases h;obtain⟨cs,e,k1,_⟩:=hc;cases e;obtain⟨ds,e,k2,k3⟩:=hv;cases e;have:=akf hq;refine⟨⟨ds,rfl,k2,k3⟩,?_,k3⟩;show ds.length=cs.length;rw[zw h1 k1,zw h2 k2,this]
   ·cases h
  ·cases h
def OR(F:Qt G):AV G->List tv->AV G->Option (AV G)
 |c,[],v=>stW c v
 | .dat t x,p,v=>match path F p t with
  |some q=>match BQ q.m v with
   |some y=>some (.dat t (q.set x y))
   |none=>none
  |none=>none
 | .st a, .D2 _ o::r,v=>match partAt a o with
  |some (_,c)=>match OR F c r v with
   |some c'=>match C5 a o c' with
    |some a'=>some (.st a')
    |none=>none
   |none=>none
  |none=>none
 |_,_,_ =>none
theorem OU{J:World->Prop}{ρ:bh}:∀{a:AV G} {o w:Nat} {v v' a':AV G} {cs:List Value} {u':Value},partAt a o=some (w,v)->C5 a o v'=some a'->rl J ρ a cs->rv J ρ v' u'->u'.cells.size=w->rl J ρ a' (bX cs o u'.cells.toList):=by
 intro a
 induction a with
 |part w0 a b _ sB=>
  intro o w v v' a' cs u' h hp hr hv hw;obtain⟨c1,c2,u,rfl,h1,h2,h3,h4⟩:=hr;unfold partAt at h;unfold C5 at hp;have hl:u'.cells.toList.length=w:=by rw[Array.length_toList];exact hw
  cases h0:Nat.beq o 0 with
  |true=>
   rw[h0]at h hp;cases h;cases hp;obtain rfl:=akf h0;refine⟨u'.cells.toList,c2,u',?_,hl,hv,rfl,h4⟩;have e1:(c1++c2).drop (0+u'.cells.toList.length)=c2:=by rw[Nat.zero_add,hl, ← h1,List.drop_left]
   unfold bX;rw[e1];simp
  |false=>
   rw[h0]at h hp;simp only[cond_false]at h hp;cases hb:Nat.ble w0 o with
   |false=>rw[hb]at h;cases h
   |true=>
    rw[hb]at h hp;simp only[cond_true]at h hp;have hle:=Nat.le_of_ble_eq_true hb;split at hp
    ·rename_i b' hb'
     cases hp;refine⟨c1,_,u,?_,h1,h2,h3,sB h hb' h4 hv hw⟩;have:o=c1.length+(o-w0):=by omega
     rw[this,C4];congr 2;omega
    ·cases hp
 |_ =>intro o w v v' a' cs u' h;cases h
theorem Ls{F:Qt G}{J:World->Prop}{ρ:bh}{v:AV G}{uv:Value}(hv:rv J ρ v uv):∀{p:List tv} {c c':AV G} {u:Value},OR F c p v=some c'->rv J ρ c u->(∀s∈p,s.ok)->
  ∃u',rv J ρ c' u'/\u'.cells.toList=bX u.cells.toList (fj p) uv.cells.toList/\fj p+uv.cells.size<=u.cells.size/\o9 uv.cells.toList:=by
 intro p
 induction p with
 |nil=>
  intro c c' u h hr _;have h:stW c v=some c':=by unfold OR at h;exact h
  obtain⟨k1,k2,k3⟩:=acA h hr hv;refine⟨uv,k1,?_,by simp[fj,k2],k3⟩;simp[bX,fj, ← k2]
 |cons s r ih=>
  intro c c' u h hr hs;cases c with
  |dat t x=>
   simp only[OR]at h;split at h
   ·rename_i q hq
    split at h
    ·rename_i y hy
     cases h;obtain⟨u0,e,hd⟩:=hr;cases e;have hp:=LG hq hs;have hrv:=Ar hy hv;have WC:=hp.set (v:=y) hd.1 hrv.1;have hl:=(q.m.L G).len hrv.1;have hl2:=(t.L G).len hd.1;have hle:=hp.le;rw[Array.length_toList]at hl hl2;obtain⟨u',k1,k2⟩:=GX WC;refine⟨u',⟨u',rfl,k2⟩,k1,by omega,(q.m.L G).one hrv.1⟩
    ·cases h
   ·cases h
  |st a=>
   cases s with
   |D2 j o=>
    simp only[OR]at h;split at h
    ·rename_i w c1 hp
     split at h
     ·rename_i c2 h2
      split at h
      ·rename_i a' ha
       cases h;obtain⟨cs,e,h1,h3⟩:=hr;cases e;obtain⟨u1,k1,k2,k3,k4⟩:=EG hp h1;obtain⟨u',m1,m2,m3,m4⟩:=ih h2 k1 λs hs'=>hs s (akp _ hs');have hsz:u'.cells.size=w:=by rw[← Array.length_toList,m2,uk (by simpa using m3),Array.length_toList];exact k3
       have hn:=OU hp ha h1 m1 hsz;have hcs:bX cs o u'.cells.toList=bX cs (o+fj r) uv.cells.toList:=by
        rw[m2];refine wM λi=>?_;have hu1:u1.cells.toList.length=w:=by rw[Array.length_toList];exact k3
        have huv:uv.cells.toList.length=uv.cells.size:=Array.length_toList;have hsl:(bX u1.cells.toList (fj r) uv.cells.toList).length=w:=by rw[uk (by omega)];exact hu1
        rw[iM (by omega),iM (cs:=cs) (by omega),hsl];by_cases q1:o<=i/\i<o+w
        ·rw[akd q1,iM (by omega)]
         by_cases q2:fj r<=i-o/\i-o<fj r+uv.cells.toList.length
         ·rw[akd q2,akd (by omega)];congr 1;omega
         ·rw[ake q2,ake (by omega), ← k2,List.getElem?_take,akd (by omega),List.getElem?_drop];congr 1;omega
        ·rw[ake q1,ake (by omega)]
       refine⟨.agg (bX cs o u'.cells.toList).toArray,⟨_,rfl,hn,?_⟩,hcs,?_,m4⟩
       ·rw[hcs]
        intro x hx;simp only[bX,List.mem_append]at hx;rcases hx with(hx|hx)|hx
        ·exact h3 x (List.mem_of_mem_take hx)
        ·exact m4 x hx
        ·exact h3 x (List.mem_of_mem_drop hx)
       ·show o+fj r+_ <=cs.length
        omega
      ·cases h
     ·cases h
    ·cases h
   |idx _ _ _ =>simp[OR]at h
  |_ =>simp[OR]at h
end Go.Rw
namespace Go.Bw
open Go Go.RowKit
section rules
variable {P:Program} {N:Nat} {c:Cx} {D:List Deferred} {Q:Exit->Act->World->Prop} {F:eH} {H:List aE} {d:Option Tmp} {ty:TypeId} {ps:String} {af:Array Edge} {g:Option (Nat×Bool)} {α β γ:Type}
theorem YB{s x:Operand}{t e sz bytes b T cp:Nat}{A:World->Prop}{v:Value}{L:cZ α}[bq L]{xs:List α}{y:α}[ht:Oz P t e sz bytes](hf:Fz A v L xs)(hs:ev F s=some (yp v))(hx:ev F x=some (.slice (some ⟨b,0,none⟩) 1 cp))[hc:sE H b T (L.enc y)][k:Kn c H A](hn:L.n=sz)
  (KT:(xs.length+1)*bytes<=140737488355328)(h63:xs.length+1<=9223372036854775807):
  RX P N c ⟨d, .call ⟨.builtin .append, #[s,x], #[t,t]⟩,ty,ps,af,g⟩ F H (λv'=>uV v' (xs++[y]).length) (λv'=>v') (λv'=>rY v' e sz L (xs++[y])::H):=λD a w next Q hst hk=>by
 subst hn;obtain⟨i,z,e1,e2,e3,e4,e5,e6,e7⟩:=Oz.get ht.ok;have hro:=hf.ro w (k.ok w hst.si hst.hp);have hcell:=hst.hp.holds _ hc.mem;have hnews:∀(j:Nat) u,(L.enc y)[j]? =some u->w.cell? ((⟨b,0,none⟩:Addr).add j)=some u:=λj u hj=>by rw[Addr.add_lit,Nat.zero_add,q7 hcell];exact hj
 have NA:xs.length+1<=maxLen:=by simp only[maxLen];omega
 have key:∃v' w',(Builtin.append_ #[t,t] ty #[yp v, .slice (some ⟨b,0,none⟩) 1 cp]).run P w= .ok v' w'/\w'.ownsRow w.heap.size e L.n v' (xs.length+1) (eI L xs++L.enc y)/\aQ [] w w':=by
  rcases hro.2 with⟨⟨a0,c0,hv⟩,h0⟩|⟨gb,off,cap,hv,h3,h4,h5⟩
  ·subst hv
   have hxs:xs=[]:=List.length_eq_zero_iff.1 h0;subst hxs;cases a0 with
   |none=>obtain⟨v',w',q1,q2,q3,_⟩:=run_append_own w w.heap.size t ty e i z L.n bytes e1 e2 e3 e4 e5 e6 e7 (.slice none 0 0) 0 [] ⟨by simp, .inl ⟨rfl,rfl⟩⟩ ⟨b,0,none⟩ 1 cp (L.enc y) (by rw[iz];omega) hnews (DA L y) (by simpa using NA) (by simpa using KT) (Nat.le_refl _);exact⟨v',w',q1,q2,aQ.wE q3⟩
   |some ad=>obtain⟨v',w',q1,q2,q3⟩:=run_append_arg_grows (P:=P) w t ty e i z L.n bytes e1 e2 e3 e4 e5 e6 e7 ad 0 0 [] (by simp) (by simp) ⟨b,0,none⟩ 1 cp (L.enc y) (by rw[iz];omega) hnews (by omega) (by simpa using NA) (by simpa using KT);exact⟨v',w',q1,q2,aQ.wE q3⟩
  ·subst hv
   obtain⟨v',w',q1,q2,q3⟩:=run_append_arg_grows (P:=P) w t ty e i z L.n bytes e1 e2 e3 e4 e5 e6 e7 ⟨gb,off,none⟩ xs.length xs.length (eI L xs) (mK L xs) (λj u hj=>by rw[Addr.add_lit];exact h5 j u hj) ⟨b,0,none⟩ 1 cp (L.enc y) (by rw[iz];omega) hnews (by omega) NA KT;exact⟨v',w',q1,q2,aQ.wE q3⟩
 obtain⟨v',w',q1,q2,q3⟩:=key;have hrow:(rY v' e L.n L (xs++[y])).holds w':=by unfold rY;rw[ur,Ku,List.length_append];exact Dh q2
 refine ew (by simp) (v:=v') (w':=w') ?_ (hk v' w' (uV.vR hrow) (hst.si.ext q3) (hst.hp.fresh q3 hrow hst.si.size λb' hb'=>?_))
 ·simp[execOp,resolve,invoke,builtin,aI hst.fr hs,aI hst.fr hx,q1]
 ·exact q2.lt b' (by simpa[rY,aE.cI]using hb')
end rules
end Go.Bw
namespace Go.Bw
open Go Go.RowKit
def oc{α ρ:Type}(o:Option α)(z:Option ρ)(f:α->Option ρ):Option ρ:=match o with
 |none=>z
 |some a=>f a
section rules
variable {P:Program} {N:Nat} {c:Cx} {D:List Deferred} {Q:Exit->Act->World->Prop} {F:eH} {H:List aE} {d:Option Tmp} {ty:TypeId} {ps:String} {af:Array Edge} {g:Option (Nat×Bool)} {α β γ:Type}
def FU(P:Program)(t:Nat):Bool:=match P.underlying t with
 |some (.pointer e)=>Nat.beq e (P.pointee t)
 |_ =>false
theorem AB{t:Nat}(h:FU P t=true):P.underlying t=some (.pointer (P.pointee t)):=by
 unfold FU at h;split at h
 ·rename_i e h1;rw[h1,akf h]
 ·cases h
theorem abk{x y:Operand}{T U b o:Nat}(ht:FU P T=true)(hx:ev F x=some (dO b o))(hy:ev F y=some (.pointer none)):VS P N c ⟨d, .binOp .eql T x y U,ty,ps,af,g⟩ F H (.bool false):=
 aG (by simp) λa w hf _ _ =>by have:=run_eql_pointer_nil (P:=P) (w:=w) T (some ⟨b,o,none⟩) (AB ht);simp[execOp,aI hf hx,aI hf hy,eqGuard,dO,this]
theorem abe{x y:Operand}{T U b o:Nat}(ht:FU P T=true)(hx:ev F x=some (dO b o))(hy:ev F y=some (.pointer none)):VS P N c ⟨d, .binOp .neq T x y U,ty,ps,af,g⟩ F H (.bool true):=
 aG (by simp) λa w hf _ _ =>by have:=run_neq_pointer_nil (P:=P) (w:=w) T (some ⟨b,o,none⟩) (AB ht);simp[execOp,aI hf hx,aI hf hy,eqGuard,dO,this]
theorem Yj{x y:Operand}{T U:Nat}(ht:FU P T=true)(hx:ev F x=some (.pointer none))(hy:ev F y=some (.pointer none)):VS P N c ⟨d, .binOp .eql T x y U,ty,ps,af,g⟩ F H (.bool true):=
 aG (by simp) λa w hf _ _ =>by have:=run_eql_pointer_nil (P:=P) (w:=w) T none (AB ht);simp[execOp,aI hf hx,aI hf hy,eqGuard,this]
theorem Yf{x y:Operand}{T U:Nat}(ht:FU P T=true)(hx:ev F x=some (.pointer none))(hy:ev F y=some (.pointer none)):VS P N c ⟨d, .binOp .neq T x y U,ty,ps,af,g⟩ F H (.bool false):=
 aG (by simp) λa w hf _ _ =>by have:=run_neq_pointer_nil (P:=P) (w:=w) T none (AB ht);simp[execOp,aI hf hx,aI hf hy,eqGuard,this]
theorem Be{z:Value}(hz:z.cells= #[z])(n:Nat):(Builtin.zeroCells z.cells n).toList=List.replicate n z:=by
 rw[hz];simp[Builtin.zeroCells];apply List.ext_getElem
 ·simp
 ·intro i h1 h2
  simp[Nat.mod_one]
theorem Yy{x:Operand}{t e b off n cp T:Nat}{cs cs':List Value}{z:Value}{H':List aE}(ht:FT P t e 1=true)(hz:Qn P e z)(hz1:z.cells= #[z])(h1:z.oneCell'=true)(hx:ev F x=some (.slice (some ⟨b,off,none⟩) n cp))(hn:0<n)
  [hr:sE H b T cs](ho:off+n<=cs.length)(hc:bX cs off (List.replicate n z)=cs')[hs:Gz H b cs' H']:
  RX (α:=Unit) P N c ⟨d, .call ⟨.builtin .clear, #[x], #[t]⟩,ty,ps,af,g⟩ F H (λ_ =>True) (λ_ => .tuple #[]) (λ_ =>H'):=λD a w next Q hst hk=>by
 obtain⟨inf,e1,e2,e3⟩:=vD.get ht;have hb:w.heap[b]? =some (.cells cs.toArray T (0,0)):=hst.hp.holds _ hr.mem;have hone:o9 (List.replicate n z):=λv hv=>by rw[List.eq_of_mem_replicate hv];exact h1
 have hsc:=run_storeCells_at P b off T (List.replicate n z) 0 cs.toArray w hb (by simp;omega) hone;simp only[Nat.add_zero]at hsc;have jb:aQ [b] w (w.setRow b cs'.toArray):=⟨rfl,rfl,rfl,by simp,λk _ hk=>setRow_other w b k _ (by simpa using hk)⟩;refine ew (by simp) (v:= .tuple #[]) (w':=w.setRow b cs'.toArray) ?_ (hk () _ trivial (hst.si.store hst.hp hr.mem (by simp[aE.cI]) jb) (hst.hp.acK hs jb hst.si.size ?_))
 ·have tD:=aI hst.fr hx
  obtain⟨m,rfl⟩:∃m,n=m+1:=⟨n-1,by omega⟩;have hzr:=OW hz w;have hzc:=Be hz1 (m+1);have e5:(cs.toArray.toList.take off++List.replicate (m+1) z++cs.toArray.toList.drop (off+(List.replicate (m+1) z).length)).toArray=cs'.toArray:=by rw[← hc];rfl
  rw[e5]at hsc;simp[execOp,resolve,invoke,builtin,tD,Builtin.clear_,run_underlying e1,hzr,hzc,hsc]
 ·intro T' aem hT
  have:=setRow_heap w b aem.toArray cs'.toArray T' (0,0) hT;simpa[aE.holds]using this
theorem zu{z:Value}:∀n:Nat,flat (λ_ =>[z]) n=List.replicate n z
 |0=>rfl
 |n+1=>by have:=zu (z:=z) n;rw[List.replicate_succ', ← this];rfl
end rules
end Go.Bw
