/- Part 4 of what a proof leans on; pruned and shortened by a program out of longer texts. -/
import Derived.Test.YtioeklchieeebaaGreatDoorQ3
namespace Go.Rw
open Go Go.Bw Go.RowKit
variable {G:Sg}
inductive Ir(α:Type) where
 |dk
 |dw (k:Nat) (v:α) (l r:Ir α)
def Ir.find{α:Type}:Ir α->Nat->Option α
 | .dk,_ =>none
 | .dw k v l r,d=>bif Nat.beq k d then some v else bif Nat.blt d k then l.find d else r.find d
def Ir.all{α:Type}(p:Nat->α->Bool):Ir α->Bool
 | .dk=>true
 | .dw k v l r=>p k v&&(l.all p&&r.all p)
theorem Ir.Qe{α:Type}{p:Nat->α->Bool}:∀{t:Ir α} {d:Nat} {v:α},t.all p=true->t.find d=some v->p d v=true:=by
 intro t
 induction t with
 |dk=>intro d v _ h;cases h
 |dw k v0 l r ihl ihr=>
  intro d v ha h;simp only[Ir.all,aiC]at ha;simp only[Ir.find]at h;cases h1:Nat.beq k d with
  |true=>rw[h1]at h;cases h;rw[← aiB h1];exact ha.1
  |false=>
   rw[h1]at h;simp only[cond_false]at h;cases h2:Nat.blt d k with
   |true=>rw[h2]at h;exact ihl ha.2.1 h
   |false=>rw[h2]at h;exact ihr ha.2.2 h
inductive TE where
 |int (k:IntKind)
 |bool
 |one
 |ptr
 |sl (e sz bytes:Nat)
 |jo (n e sz tot:Nat)
 |st (dz:List (Nat×Option Nat)) (tot:Nat)
def FG(P:Program)(t j o:Nat)(w:Option Nat):Bool:=D6 P t j o&&match P.underlying t with
 |some (.struct fs)=>match fs[j]? with
  |some fl=>Nat.beq fl.offset o&&(match w with
   |none=>oE P fl.type
   |some n=>Bh P fl.type n)
  |none=>false
 |_ =>false
def Ge(P:Program)(t:Nat):List (Nat×Option Nat)->Nat->Bool
 |[],_ =>true
 |o::r,j=>FG P t j o.1 o.2&&Ge P t r (j+1)
def xG(P:Program)(t:Nat):TE->Bool
 | .int k=>(match P.underlying t with
  |some (.int l)=>Nat.beq (Ty.bF.ik k) (Ty.bF.ik l)
  |_ =>false)&&oE P t
 | .bool=>(match P.underlying t with
  |some .bool=>true
  |_ =>false)&&oE P t
 | .one=>oE P t
 | .ptr=>oE P t&&BW P t
 | .sl e sz b=>oE P t&&(K7 P t e sz b&&BV P t e sz)
 | .jo n e sz tot=>D8 P t n e sz&&Bh P t tot
 | .st dz tot=>Ge P t dz 0&&Bh P t tot
structure TT(P:Program)(G:Sg) where
 F:Kj G
 te:Ir TE
 ok:te.all (xG P)=true
section
variable {P:Program} {tt:TT P G}
theorem TT.get{t:Nat}{e:TE}(h:tt.te.find t=some e):xG P t e=true:=Ir.Qe tt.ok h
theorem TT.int{t:Nat}{k:IntKind}(h:tt.te.find t=some (.int k)):QC P t k/\nG P t:=by
 have:=tt.get h;simp only[xG,aiC]at this;refine⟨⟨?_⟩,⟨this.2⟩⟩;have h1:=this.1;split at h1
 ·rename_i l hl;rw[DK h1];exact hl
 ·cases h1
theorem TT.bool{t:Nat}(h:tt.te.find t=some .bool):QD P t/\nG P t:=by
 have:=tt.get h;simp only[xG,aiC]at this;refine⟨⟨?_⟩,⟨this.2⟩⟩;have h1:=this.1;split at h1
 ·assumption
 ·cases h1
def TE.sz:TE->Option Nat
 | .jo _ _ _ n=>some n
 | .st _ n=>some n
 |_ =>none
theorem TT.one{t:Nat}{e:TE}(h:tt.te.find t=some e)(hs:e.sz=none):nG P t:=by have:=tt.get h;cases e<;>simp only[xG,aiC]at this<;>first|exact⟨this⟩|exact⟨this.1⟩|exact⟨this.2⟩|simp[TE.sz]at hs
theorem TT.agg{t n:Nat}{e:TE}(h:tt.te.find t=some e)(hs:e.sz=some n):qM P t n:=by have:=tt.get h;cases e<;>simp only[TE.sz,Option.some.injEq]at hs<;>first|(subst hs;simp only[xG,aiC]at this;exact⟨this.2⟩)|cases hs
theorem TT.sl{t e sz b:Nat}(h:tt.te.find t=some (.sl e sz b)):pC P t e sz/\G9 P t e sz b:=by have:=tt.get h;simp only[xG,aiC]at this;exact⟨⟨this.2.2⟩,⟨this.2.1⟩⟩
theorem TT.jo{t n e sz tot:Nat}(h:tt.te.find t=some (.jo n e sz tot)):pD P t n e sz:=by have:=tt.get h;simp only[xG,aiC]at this;exact⟨this.1⟩
theorem Jm:∀{l:List (Nat×Option Nat)} {i j:Nat} {o:Nat×Option Nat} {t:Nat},Ge P t l i=true->l[j]? =some o->FG P t (i+j) o.1 o.2=true:=by
 intro l
 induction l with
 |nil=>intro i j o t _ h;cases h
 |cons x r ih=>
  intro i j o t h hj;simp only[Ge,aiC]at h;cases j with
  |zero=>simp at hj;subst hj;exact h.1
  |succ j=>have:=ih h.2 (by simpa using hj);rwa[Nat.add_right_comm,Nat.add_assoc]at this
theorem TT.fs{t n j:Nat}{o:Nat×Option Nat}{dz:List (Nat×Option Nat)}(h:tt.te.find t=some (.st dz n))(hj:dz[j]? =some o):FG P t j o.1 o.2=true:=by have:=tt.get h;simp only[xG,aiC]at this;have:=Jm this.1 hj;rwa[Nat.zero_add]at this
theorem TT.Ag{t n j:Nat}{o:Nat×Option Nat}{dz:List (Nat×Option Nat)}(h:tt.te.find t=some (.st dz n))(hj:dz[j]? =some o):Cn P t j o.1:=by have:=tt.fs h hj;unfold FG at this;rw[aiC]at this;exact⟨this.1⟩
theorem TT.ptr{t:Nat}(h:tt.te.find t=some .ptr):BW P t=true:=by have:=tt.get h;simp only[xG,aiC]at this;exact this.2
end
def EB(k l:IntKind):Bool:=Nat.beq (Ty.bF.ik k) (Ty.bF.ik l)
theorem xE{k l:IntKind}(h:EB k l=true):k=l:=DK h
abbrev PV(G:Sg):=Option (List Bool×AV G)
def P9(l b:Bool):List Bool:=bif l then(bif b then[]else[b])else[b]
theorem zY{l b:Bool}(h:∀x∈P9 l b,x=true):b=true:=by
 unfold P9 at h;cases l with
 |false=>exact h b (by simp)
 |true=>cases b with
  |true=>rfl
  |false=>exact h false (by simp)
def OF(o:BinOp)(k:IntKind)(x y:Int)(q:Bool):PV G:=match o with
 | .add=>some ([], .int k (wr k (x+y)))
 | .sub=>some ([], .int k (wr k (x-y)))
 | .mul=>some ([], .int k (wr k (x*y)))
 | .quo=>some (P9 q (y !=0), .int k (wr k (Int.tdiv x y)))
 | .rem=>some (P9 q (y !=0), .int k (Int.tmod x y))
 | .and=>some ([], .int k (sC k x y))
 | .or=>some ([], .int k (orI k x y))
 | .xor=>some ([], .int k (Rf k x y))
 | .andNot=>some ([], .int k (CI k x y))
 | .eql=>some ([], .bool (x==y))
 | .neq=>some ([], .bool (x !=y))
 | .lss=>some ([], .bool (decide (x<y)))
 | .leq=>some ([], .bool (decide (x<=y)))
 | .gtr=>some ([], .bool (decide (y<x)))
 | .geq=>some ([], .bool (decide (y<=x)))
 |_ =>none
def Pa:AV G->Option Bool
 | .ptr _ _ =>some true
 | .qI=>some false
 |_ =>none
def Tj:AV G->Option Bool
 | .bool b=>some b
 | .kb b=>some b
 |_ =>none
def OM{P:Program}(tt:TT P G)(o:BinOp)(T:Nat)(a b:AV G):PV G:=match Tj a,Tj b with
 |some x,some y=>match o,tt.te.find T with
  | .eql,some .bool=>some ([], .bool (x==y))
  | .neq,some .bool=>some ([], .bool (x !=y))
  |_,_ =>none
 |_,_ =>match a,b with
 |a, .qI=>match Pa a,o,tt.te.find T with
  |some b, .eql,some .ptr=>some ([], .bool (!b))
  |some b, .neq,some .ptr=>some ([], .bool b)
  |_,_,_ =>none
 |_,_ =>none
def asI:AV G->Option (IntKind×Int×Bool)
 | .int k n=>some (k,n,false)
 | .lit k n=>some (k,n,true)
 |_ =>none
def T6(o:BinOp)(k:IntKind)(x:Int)(l:IntKind)(y:Int)(q:Bool):PV G:=match o with
 | .shl=>some (P9 q (decide (0<=y)), .int k (Ol k x y))
 | .shr=>some (P9 q (decide (0<=y)), .int k (I6 k x y))
 |_ =>bif EB k l then OF o k x y q else none
def ON{P:Program}(tt:TT P G)(o:BinOp)(T:Nat)(a b:AV G):PV G:=match asI a,asI b with
 |some (k,x,_),some (l,y,q)=>T6 o k x l y q
 |_,_ =>OM tt o T a b
section
variable {P:Program} {J:World->Prop} {ρ:aX} {a:Act} {w:World} {d:Option Tmp} {ty:TypeId} {ps:String} {af:Array Edge} {g:Option (Nat×Bool)}
def VOk(P:Program)(J:World->Prop)(ρ:aX)(a:Act)(w:World)(o:Oper)(v:AV G):Prop:=∃u,(execOp a.eval o).run P w= .ok (.value u) w/\rv J ρ v u
theorem OE{o:BinOp}{T U:Nat}{k:IntKind}{x y:Int}{p q:Operand}{gs:List Bool}{v:AV G}{qq:Bool}(h:OF o k x y qq=some (gs,v))(hg:∀b∈gs,b=true)(hx:a.eval p= .int k x)(hy:a.eval q= .int k y):
  VOk P J ρ a w ⟨d, .binOp o T p q U,ty,ps,af,g⟩ v:=by
 cases o<;>simp only[OF,reduceCtorEq,Option.some.injEq,Prod.mk.injEq]at h
 case add=>obtain⟨rfl,rfl⟩:=h;exact⟨_,by simp[execOp,hx,hy,eqGuard,binOp,Op.intArith],rfl⟩
 case sub=>obtain⟨rfl,rfl⟩:=h;exact⟨_,by simp[execOp,hx,hy,eqGuard,binOp,Op.intArith],rfl⟩
 case mul=>obtain⟨rfl,rfl⟩:=h;exact⟨_,by simp[execOp,hx,hy,eqGuard,binOp,Op.intArith],rfl⟩
 case quo=>obtain⟨rfl,rfl⟩:=h;have h0:y≠0:=(by simpa using zY hg);exact⟨_,by simp[execOp,hx,hy,eqGuard,binOp,Op.intDiv,h0],rfl⟩
 case rem=>obtain⟨rfl,rfl⟩:=h;have h0:y≠0:=(by simpa using zY hg);exact⟨_,by simp[execOp,hx,hy,eqGuard,binOp,Op.intDiv,h0],rfl⟩
 case and=>obtain⟨rfl,rfl⟩:=h;exact⟨.int k (sC k x y),by simp[execOp,hx,hy,eqGuard,binOp,Op.intBits,sC],rfl⟩
 case or=>obtain⟨rfl,rfl⟩:=h;exact⟨.int k (orI k x y),by simp[execOp,hx,hy,eqGuard,binOp,Op.intBits,orI],rfl⟩
 case xor=>obtain⟨rfl,rfl⟩:=h;exact⟨.int k (Rf k x y),by simp[execOp,hx,hy,eqGuard,binOp,Op.intBits,Rf],rfl⟩
 case andNot=>obtain⟨rfl,rfl⟩:=h;exact⟨.int k (CI k x y),by simp[execOp,hx,hy,eqGuard,binOp,Op.intBits,CI],rfl⟩
 case eql=>obtain⟨rfl,rfl⟩:=h;exact⟨_,by simp[execOp,hx,hy,eqGuard,binOp,Op.intCmp],rfl⟩
 case neq=>obtain⟨rfl,rfl⟩:=h;exact⟨_,by simp[execOp,hx,hy,eqGuard,binOp,Op.intCmp],rfl⟩
 case lss=>obtain⟨rfl,rfl⟩:=h;exact⟨_,by simp[execOp,hx,hy,eqGuard,binOp,Op.intCmp],rfl⟩
 case leq=>obtain⟨rfl,rfl⟩:=h;exact⟨_,by simp[execOp,hx,hy,eqGuard,binOp,Op.intCmp],rfl⟩
 case gtr=>obtain⟨rfl,rfl⟩:=h;exact⟨_,by simp[execOp,hx,hy,eqGuard,binOp,Op.intCmp],rfl⟩
 case geq=>obtain⟨rfl,rfl⟩:=h;exact⟨_,by simp[execOp,hx,hy,eqGuard,binOp,Op.intCmp],rfl⟩
theorem Fh{b:Bool}{u:Value}(h:rv (G:=G) J ρ (.kb b) u):u= .bool b:=by have h:[u]=_ :=h;cases h;rfl
theorem yx{v:AV G}{b:Bool}{u:Value}(h:Tj v=some b)(hv:rv J ρ v u):u= .bool b:=by unfold Tj at h;split at h<;>cases h<;>(have hv:[u]=_ :=hv;cases hv;rfl)
theorem wF{b:Bool}{u:Value}(h:rv (G:=G) J ρ (.bool b) u):u= .bool b:=by have h:[u]=_ :=h;cases h;rfl
theorem HO{v:AV G}{b:Bool}{u:Value}(h:Pa v=some b)(hv:rv J ρ v u):(b=true->∃x y,u= .pointer (some ⟨x,y,none⟩))/\(b=false->u= .pointer none):=by
 unfold Pa at h;split at h
 ·cases h;obtain⟨⟨x,y,_,e⟩,_⟩:=hv;cases e;exact⟨λ_ =>⟨_,_,rfl⟩,nofun⟩
 ·cases h;have e:[u]=_ :=hv;cases e;exact⟨nofun,λ_ =>rfl⟩
 ·cases h
def jS(a:Act):dc:=(List.range a.tmps.size).map λd=>(d,a.tmps.getD d undef)
theorem BN{t:Array Value}:∀{l:List Nat} {d:Nat},lk (l.map λd=>(d,t.getD d undef)) d=if d∈l then some (t.getD d undef)else none:=by
 intro l
 induction l with
 |nil=>intro d;simp[lk]
 |cons x r ih=>
  intro d;simp only[List.map_cons,lk];by_cases e:x=d
  ·subst e;simp
  ·rw[qz e,cond_false,ih]
   simp[Ne.symm e]
theorem CF(a:Act):uM (jS a) a.tmps:=λd v h=>by
 unfold jS at h;rw[BN]at h;split at h
 ·rename_i hm
  have hd:d<a.tmps.size:=by simpa using hm
  have h:=Option.some.inj h;rw[← h];simp[hd]
 ·cases h
theorem KX{a:Act}{x:Operand}(h:∀t,x= .tmp t->t<a.tmps.size)(hg:∀g,x≠ .global g):Bw.ev (jS a) x=some (a.eval x):=by
 cases x with
 |tmp t=>have:=h t rfl;show lk (jS a) t=_;unfold jS;rw[BN,aiz (by simpa using this)];rfl
 |const v=>rfl
 |global g=>exact absurd rfl (hg g)
 |func f=>rfl
def VK(P:Program)(c:Cx)(o:Oper)(a:Act)(w:World)(u:Value):Prop:=∀next Q,(∀w',aO [] w w'->next (a.put o.dst u) w')->o.wpIn (FA c.ro) 0 P a w next Q
theorem VK.run{c:Cx}{o:Oper}{u:Value}(hd:∀cc,o.op≠ .defer cc)(h:(execOp a.eval o).run P w= .ok (.value u) w):VK P c o a w u:=λ_ _ hk=>cJ hd h (hk w (aO.refl _ _))
theorem _root_.Go.Bw.VS.vk{N:Nat}{c:Cx}{D:List Deferred}{o:Oper}{F:dc}{H:List aF}{u:Value}(h:VS P N c o F H u)(hst:St N c D F H a w):VK P c o a w u:=λnext Q hk=>h D a w next Q hst hk
structure wA(J:World->Prop)(ρ:aX)(a:Act)(E:Operand->Option (AV G)):Prop where
 ok:∀x v,E x=some v->rv J ρ v (a.eval x)
 ev:∀x v,E x=some v->Bw.ev (jS a) x=some (a.eval x)
def IJ(E:Operand->Option (AV G)):List Operand->Option (AV G)
 |[]=>some .nil
 |x::r=>match E x,IJ E r with
  |some v,some l=>some (.cons v l)
  |_,_ =>none
theorem rL{E:Operand->Option (AV G)}(h:wA J ρ a E):∀{l:List Operand} {v:AV G},IJ E l=some v->rl J ρ v (l.map a.eval)/\Ah (jS a) l=some (l.map a.eval):=by
 intro l
 induction l with
 |nil=>intro v e;cases e;exact⟨rfl,rfl⟩
 |cons x r ih=>
  intro v e;simp only[IJ]at e;split at e
  ·rename_i u k h1 h2
   cases e;obtain⟨i1,i2⟩:=ih h2;refine⟨⟨_,_,rfl,h.ok _ _ h1,i1⟩,?_⟩;simp only[Ah,h.ev _ _ h1,i2,List.map_cons]
  ·cases e
def Mj:AV G->Nat->Option (AV G)
 | .cons a b,i=>match i with
  |0=>some a
  |i+1=>Mj b i
 |_,_ =>none
theorem Gg:∀{v:AV G} {i:Nat} {x:AV G} {l:List Value},Mj v i=some x->rl J ρ v l->∃u,l[i]? =some u/\rv J ρ x u:=by
 intro v
 induction v with
 |cons a b _ oD=>
  intro i x l h hr;obtain⟨u,r,rfl,h1,h2⟩:=hr;cases i with
  |zero=>cases h;exact⟨u,rfl,h1⟩
  |succ i=>obtain⟨u',k1,k2⟩:=oD (i:=i) h h2;exact⟨u',by simpa using k1,k2⟩
 |_ =>intro i x l h;cases i<;>cases h
def jl(v:Option (AV G)):Option (IntKind×Int×Bool):=match v with
 |some v=>asI v
 |none=>none
def Vu{P:Program}(tt:TT P G)(ob:Nat->Option (Ob G))(T:Nat)(v:AV G)(i:Int)(q:Bool):PV G:=match v,tt.te.find T with
 | .ptr r p,some (.jo n _ sz _)=>some (P9 q (cF i n), .ptr r (p++[.idx n sz i]))
 | .Rc e xs p,some (.jo n _ sz _)=>some (P9 q (cF i n), .Rc e xs (p++[.idx n sz i]))
 | .row r,some (.sl _ sz _)=>match ob r with
  |some (.row _ sz' _ xs)=>bif Nat.beq sz sz' then some ([cF i xs.length], .ptr r [.idx xs.length sz i])else none
  |_ =>none
 | .dat (.sl e) xs,some (.sl _ sz _)=>bif Nat.beq sz (e.L G).n then some ([cF i (xs:List (e.T G)).length], .Rc e xs [.idx (xs:List (e.T G)).length sz i])else none
 | .iC,_ =>some ([cF i 0], .gd 0 true .Ko)
 | .A0 r p m sz false i0,some (.sl _ sz' _)=>bif (Nat.beq sz 1&&Nat.beq sz' 1)&&(Nat.beq i0.toNat m&&cF i m)then some ([], .ptr r (p++[.Ag 0 i.toNat]))else none
 |_,_ =>none
def Pr:List pE->Nat->Bool
 | .idx _ sz _ ::_,n=>Nat.beq sz n
 |_,_ =>false
def Vt{P:Program}(tt:TT P G)(ob:Nat->Option (Ob G)):AV G->Option (AV G)
 | .ptr r p=>match ob r with
  |some (.bT _ c)=>Fx tt.F c p
  |some (.row _ sz t xs)=>bif Pr p sz then(match DA tt.F t p with
   |some q=>some (mk q.m (q.get (xs.getD q.i.toNat default)))
   |none=>none)else none
  |_ =>none
 | .Rc e xs p=>match DA tt.F e p with
  |some q=>some (mk q.m (q.get (xs.getD q.i.toNat default)))
  |none=>none
 |_ =>none
def AV.cw:AV G->Option Nat
 | .dat t _ =>bif t.ag then some (t.L G).n else none
 | .st a=>parts a
 |_ =>none
def sA{P:Program}(tt:TT P G)(T:Nat)(v:AV G):Bool:=match tt.te.find T with
 |some e=>match e.sz with
  |none=>v.one
  |some n=>match v.cw with
   |some m=>Nat.beq n m&& !Nat.beq n 0
   |none=>false
 |none=>false
def HY(o:Option Nat)(y:AV G):Bool:=match o with
 |none=>y.one
 |some n=>match y.cw with
  |some m=>Nat.beq n m
  |none=>false
def pv{P:Program}(tt:TT P G)(ob:Nat->Option (Ob G))(E:Operand->Option (AV G)):Op->PV G
 | .move x=>match E x with
  |some v=>some ([],v)
  |none=>none
 | .assign x=>match E x with
  |some v=>some ([],v)
  |none=>none
 | .binOp o T x y _ =>match E x,E y with
  |some a,some b=>ON tt o T a b
  |_,_ =>none
 | .unOp .not _ x=>match E x with
  |some (.bool b)=>some ([], .bool (!b))
  |some (.kb b)=>some ([], .kb (!b))
  |_ =>none
 | .unOp .neg _ x=>match jl (E x)with
  |some (k,n,_)=>some ([], .int k (wr k (0-n)))
  |none=>none
 | .convert S T x=>match jl (E x),tt.te.find S,tt.te.find T with
  |some (k,n,_),some (.int l),some (.int k')=>bif EB k l then some ([], .int k' (wr k' n))else none
  |_,_,_ =>none
 | .nilCheck x=>match E x with
  |some (.ptr r p)=>some ([], .ptr r p)
  |some (.fn (.func f) a c)=>some ([], .fn (.func f) a c)
  |_ =>none
 | .fieldAddr s x j=>match tt.te.find s with
  |some (.st dz _)=>match dz[j]? with
   |some o=>match E x with
    |some (.ptr r p)=>some ([], .ptr r (p++[.Ag j o.1]))
    |some (.Rc e xs p)=>some ([], .Rc e xs (p++[.Ag j o.1]))
    |_ =>none
   |none=>none
  |_ =>none
 | .field T x j=>match tt.te.find T with
  |some (.st dz _)=>match dz[j]? with
   |some o=>match E x with
    |some v=>match Fx tt.F v [.Ag j o.1]with
     |some y=>bif HY o.2 y then some ([],y)else none
     |none=>none
    |none=>none
   |none=>none
  |_ =>none
 | .indexAddr T x i=>match E x,jl (E i)with
  |some v,some (_,i,q)=>Vu tt ob T v i q
  |_,_ =>none
 | .index T x i=>match E x,jl (E i),tt.te.find T with
  |some (.dat (.jo n e) f),some (_,i,q),some (.jo m te sz _)=>bif Nat.beq n m&&(Nat.beq sz (e.L G).n&&sA tt te (mk e (f i.toNat)))then some (P9 q (cF i n),mk e (f i.toNat))else none
  |some (.st a),some (_,i,q),some (.jo m te sz _)=>match partAt a (i.toNat*sz)with
   |some (w,y)=>bif Nat.beq w sz&&sA tt te y then some (P9 q (cF i m),y)else none
   |none=>none
  |_,_,_ =>none
 | .load T x=>match E x with
  |some v=>match Vt tt ob v with
   |some y=>bif sA tt T y then some ([],y)else none
   |none=>none
  |none=>none
 | .extract x i=>match E x with
  |some (.gS l)=>match Mj l i with
   |some v=>some ([],v)
   |none=>none
  |_ =>none
 | .makeFunc fn first cap=>match IJ E first.toList,IJ E cap.toList with
  |some a,some c=>some ([], .fn fn a c)
  |_,_ =>none
 | .makeInterface T x=>match E x,tt.te.find T with
  |some v,some (.int _)=>some ([], .gP T v)
  |_,_ =>none
 | .call ⟨.builtin .len,args,EA⟩=>match args.toList,EA.toList with
  |[x],[T]=>match E x,tt.te.find T with
   |some (.row r),some (.sl _ _ _)=>match ob r with
    |some (.row _ _ _ xs)=>some ([], .int .i64 (xs.length:Int))
    |_ =>none
   |some (.dat (.sl e) xs),some (.sl _ _ _)=>some ([], .int .i64 ((xs:List (e.T G)).length:Int))
   |some .iC,some (.sl _ _ _)=>some ([], .int .i64 0)
   |some (.A0 _ _ _ _ false i),some (.sl _ _ _)=>some ([], .lit .i64 ((i.toNat:Nat):Int))
   |_,_ =>none
  |_,_ =>none
 | .call ⟨.builtin .min,args,_⟩=>match args.toList with
  |[x,y]=>match jl (E x),jl (E y)with
   |some (k,a,_),some (l,b,_)=>bif EB k l then some ([], .int k (if b<a then b else a))else none
   |_,_ =>none
  |_ =>none
 | .call ⟨.builtin .max,args,_⟩=>match args.toList with
  |[x,y]=>match jl (E x),jl (E y)with
   |some (k,a,_),some (l,b,_)=>bif EB k l then some ([], .int k (if a<b then b else a))else none
   |_,_ =>none
  |_ =>none
 |_ =>none
end
end Go.Rw
namespace Go.Rw
open Go Go.Bw Go.RowKit
variable {G:Sg} {P:Program} {tt:TT P G} {J:World->Prop} {ρ:aX} {a:Act} {w:World} {d:Option Tmp} {ty:TypeId} {ps:String} {af:Array Edge} {g:Option (Nat×Bool)}
 {N:Nat} {c:Cx} {D:List Deferred} {H:List aF} {E:Operand->Option (AV G)} {ob:Nat->Option (Ob G)}
structure Ke(J:World->Prop)(ρ:aX)(N:Nat)(c:Cx)(D:List Deferred)(H:List aF)(ob:Nat->Option (Ob G))(a:Act)(w:World):Prop where
 st:St N c D (jS a) H a w
 kn:Kn c H J
 ob:∀r o,ob r=some o->∃x∈H,ro J ρ r o x
def yz(P:Program)(c:Cx)(J:World->Prop)(ρ:aX)(o:Oper)(a:Act)(w:World)(v:AV G):Prop:=∃u,rv J ρ v u/\VK P c o a w u
theorem my{r:Nat}{p:List pE}{u:Value}(h:rv (G:=G) J ρ (.ptr r p) u):∃b o,PB ρ r p b o/\u=cE b (o+dz p)/\∀s∈p,s.ok:=by obtain⟨⟨b,o,h1,h2⟩,h3⟩:=h;cases h2;exact⟨b,o,h1,rfl,h3⟩
theorem Dx{r:Nat}{p q:List pE}{b o:Nat}(h:PB ρ r p b o)(hp:∀s∈p,s.ok)(hq:∀s∈q,s.ok):rv (G:=G) J ρ (.ptr r (p++q)) (cE b (o+dz p+dz q)):=by
 refine⟨⟨b,o,h.app,by rw[Hw,Nat.add_assoc]⟩,λs hs=>?_⟩;rcases List.mem_append.1 hs with h|h
 ·exact hp s h
 ·exact hq s h
theorem JZ{v:AV G}{k:IntKind}{n:Int}{q:Bool}{u:Value}(h:asI v=some (k,n,q))(hv:rv J ρ v u):u= .int k n:=by unfold asI at h;split at h<;>cases h<;>(have hv:[u]=_ :=hv;cases hv;rfl)
theorem rP(hE:wA J ρ a E){x:Operand}{k:IntKind}{n:Int}{q:Bool}(h:jl (E x)=some (k,n,q)):a.eval x= .int k n/\Bw.ev (jS a) x=some (.int k n):=by
 unfold jl at h;split at h
 ·rename_i v hx
  have e:=JZ h (hE.ok _ _ hx);exact⟨e,e▸hE.ev _ _ hx⟩
 ·cases h
theorem OL(hm:Ke (G:=G) J ρ N c D H ob a w)(hE:wA J ρ a E){o:BinOp}{T U:Nat}{x y:Operand}{va vb v:AV G}{gs:List Bool}(h:ON tt o T va vb=some (gs,v))(hg:∀b∈gs,b=true)(hx:E x=some va)(hy:E y=some vb):
  yz P c J ρ ⟨d, .binOp o T x y U,ty,ps,af,g⟩ a w v:=by
 have ex:=hE.ok _ _ hx;have ey:=hE.ok _ _ hy;have fx:=hE.ev _ _ hx;have fy:=hE.ev _ _ hy;unfold ON at h;split at h
 ·rename_i k m _ l n qq h1 h2
  have ex:=JZ h1 ex;have ey:=JZ h2 ey;rw[ex]at fx;rw[ey]at fy;unfold T6 at h;split at h
  ·cases h;exact⟨_,rfl,(Lf fx fy (Uu (zY hg))).vk hm.st⟩
  ·cases h;exact⟨_,rfl,(GQ fx fy (Uu (zY hg))).vk hm.st⟩
  ·cases hb:EB k l with
   |false=>rw[hb]at h;cases h
   |true=>rw[hb]at h;obtain rfl:=xE hb;obtain⟨u,h1,h2⟩:=OE (J:=J) (ρ:=ρ) (w:=w) (P:=P) (d:=d) (ty:=ty) (ps:=ps) (af:=af) (g:=g) (T:=T) (U:=U) h hg ex ey;exact⟨u,h2,VK.run (by simp) h1⟩
 ·unfold OM at h
  split at h
  ·rename_i h1 h2
   have ex:=yx h1 ex;have ey:=yx h2 ey;rw[ex]at fx;rw[ey]at fy;split at h
   ·rename_i ht;cases h;haveI:=(tt.bool ht).1;exact⟨_,rfl,(TG fx fy).vk hm.st⟩
   ·rename_i ht;cases h;haveI:=(tt.bool ht).1;exact⟨_,rfl,(Tz fx fy).vk hm.st⟩
   ·cases h
  ·split at h
   ·have ey:a.eval y= .pointer none:=(List.cons.inj (show[a.eval y]=[Value.pointer none]from ey)).1
    rw[ey]at fy;split at h
    ·rename_i b hb ht
     cases h;obtain⟨p1,p2⟩:=HO hb ex;cases b with
     |true=>obtain⟨m,n,e⟩:=p1 rfl;rw[e]at fx;exact⟨_,rfl,(TH (tt.ptr ht) fx fy).vk hm.st⟩
     |false=>rw[p2 rfl]at fx;exact⟨_,rfl,(Qy (tt.ptr ht) fx fy).vk hm.st⟩
    ·rename_i b hb ht
     cases h;obtain⟨p1,p2⟩:=HO hb ex;cases b with
     |true=>obtain⟨m,n,e⟩:=p1 rfl;rw[e]at fx;exact⟨_,rfl,(TA (tt.ptr ht) fx fy).vk hm.st⟩
     |false=>rw[p2 rfl]at fx;exact⟨_,rfl,(Qt (tt.ptr ht) fx fy).vk hm.st⟩
    ·cases h
   ·cases h
theorem D3{e:Ty}{xs:List (e.T G)}{p:List pE}{u:Value}(h:rv J ρ (.Rc e xs p) u):∃v ws,yH J v (e.L G) ws xs/\u=er v (dz p)/\(∀s∈p,s.ok)/\∃i q,p= .idx xs.length (e.L G).n i::q/\i.toNat<xs.length:=by obtain⟨v,ws,h1,h2,h3,n,sz,i,q,rfl,rfl,rfl⟩:=h;cases h2;refine⟨v,ws,h1,rfl,h3,i,q,rfl,?_⟩;exact(bI (h3 _ List.mem_cons_self)).2
theorem H9{e:Ty}{xs:List (e.T G)}{p:List pE}{v:Value}{ws:List Value}{i:Int}{q:List pE}{s:pE}(h1:yH J v (e.L G) ws xs)(h3:∀s∈p,s.ok)(hp:p= .idx xs.length (e.L G).n i::q)(hs:s.ok):rv J ρ (.Rc e xs (p++[s])) (er v (dz p+s.off)):=by
 refine⟨v,ws,h1,by rw[Hw];simp[dz],λs' hs'=>?_,xs.length,(e.L G).n,i,q++[s],by rw[hp];rfl,rfl,rfl⟩;rcases List.mem_append.1 hs' with h|h
 ·exact h3 _ h
 ·simp at h;subst h;exact hs
theorem F6{r e sz:Nat}{t:Ty}{xs:List (t.T G)}(hm:Ke (G:=G) J ρ N c D H ob a w)(h:ob r=some (.row e sz t xs)):∃v ws,ρ r=some v/\pJ v xs.length/\mU c H v sz xs.length ws/\(LA (t.L G) xs.length).ef J ws (λi=>xs.getD i default)/\(t.L G).n=sz:=by obtain⟨x,hx,v,ws,h1,h2,h3,h4,h5⟩:=hm.ob _ _ h;subst h2;exact⟨v,ws,h1,h3,⟨λw' _ hp=>Ro.rH (hp.holds _ hx)⟩,h4,h5⟩
theorem o9{r:Nat}{u v:Value}(h:rv (G:=G) J ρ (.row r) u)(hv:ρ r=some v):u=v:=by obtain⟨a0,n,cap,h1,h2⟩:=h;cases h2;rw[h1]at hv;exact Option.some.inj hv
theorem TB{F:dc}{x y:Operand}{t e n b o m:Nat}{k:IntKind}{i:Int}[ht:pC P t e 1](hx:Bw.ev F x=some (.slice (some ⟨b,o,none⟩) n n))(hy:Bw.ev F y=some (.int k i))(hi:i=(m:Int))(hm:m<n):
  VS P N c ⟨d, .indexAddr t x y,ty,ps,af,g⟩ F H (cE b (o+m)):=
 aG (by simp) λa w hf _ _ =>by obtain⟨j,h1,h2,h3⟩:=pC.get ht.ok;subst hi;simp[execOp,aH hf hx,aH hf hy,Instr.indexAt,asIntOf,run_underlying h1,sizeOf,typeInfo,h2,h3,Addr.add_lit,cE];omega
theorem RZ(hm:Ke (G:=G) J ρ N c D H ob a w)(hE:wA J ρ a E){T:Nat}{x y:Operand}{va v:AV G}{k:IntKind}{i:Int}{qq:Bool}{gs:List Bool}(h:Vu tt ob T va i qq=some (gs,v))(hg:∀b∈gs,b=true)(hx:E x=some va)(hy:jl (E y)=some (k,i,qq)):
  yz P c J ρ ⟨d, .indexAddr T x y,ty,ps,af,g⟩ a w v:=by
 have ex:=hE.ok _ _ hx;have fx:=hE.ev _ _ hx;have fy:=(rP hE hy).2;unfold Vu at h;split at h
 ·rename_i r p n _ sz _ ht
  cases h;have hi:=zY hg;obtain⟨b,o,h1,h2,h3⟩:=my ex;rw[h2]at fx;haveI:=tt.jo ht;refine⟨cE b (o+dz p+i.toNat*sz),?_,(Iq (m:=i.toNat) fx fy (bI hi).1 (bI hi).2).vk hm.st⟩;exact Dx h1 h3 (q:=[.idx n sz i]) (λs hs=>by simp at hs;subst hs;exact hi)
 ·rename_i e xs p n _ sz _ ht
  cases h;have hi:=zY hg;obtain⟨vv,ws,h1,h2,h3,j,q,h4,h5⟩:=D3 ex;rw[h2]at fx;haveI:=tt.jo ht;haveI:=hm.kn;refine⟨er vv (dz p+i.toNat*sz),H9 h1 h3 h4 (s:= .idx n sz i) hi,(TC (m:=i.toNat) h1 fx fy h5 (bI hi).1 (bI hi).2).vk hm.st⟩
 ·rename_i r _ sz _ ht
  split at h
  ·rename_i e' sz' t xs ho
   cases hb:Nat.beq sz sz' with
   |false=>rw[hb]at h;cases h
   |true=>rw[hb]at h;cases h;obtain rfl:=aiB hb;have hi:=hg _ List.mem_cons_self;obtain⟨vv,ws,h1,h2,h3,h4,h5⟩:=F6 hm ho;have e1:=o9 ex h1;rw[e1]at fx;haveI:=(tt.sl ht).1;obtain⟨gb,off,cap,e2,_⟩:=((h3.ro w hm.st.si hm.st.hp).at (bI hi).2);subst e2;refine⟨_,?_,(tD (m:=i.toNat) fx fy (bI hi).1 (bI hi).2).vk hm.st⟩;obtain⟨a0,cp,e4⟩:=h2;have e5:xs.length=_ :=rfl;refine⟨⟨gb,off, .inr ⟨_,_,_,_,_,_,h1,rfl,(bI hi).2⟩,?_⟩,λs hs=>by simp at hs;subst hs;exact hi⟩;simp[er,dz,pE.off]
  ·cases h
 ·rename_i e xs _ sz _ ht
  cases hb:Nat.beq sz (e.L G).n with
  |false=>rw[hb]at h;cases h
  |true=>rw[hb]at h;cases h;have hs:=aiB hb;have hi:=hg _ List.mem_cons_self;obtain⟨u',e1,hr,_,hc⟩:=ex;cases e1;have hc:=hc rfl;obtain⟨v',ws,e2,hf⟩:=hr;rw[hc]at e2;cases e2;haveI:=(tt.sl ht).1;haveI:=hm.kn;refine⟨_,?_,(Xq (m:=i.toNat) hf hs.symm fx fy (bI hi).1 (bI hi).2).vk hm.st⟩;refine⟨_,ws,hf,by simp[dz,pE.off],λs hs'=>by simp at hs';subst hs';exact hi,_,_,_,[],rfl,rfl,hs⟩
 ·cases h
  have h0:=(bI (hg _ List.mem_cons_self)).2;exact absurd h0 (Nat.not_lt_zero _)
 ·rename_i r p m sz i0 _ sz' _ ht
  cases hb:((Nat.beq sz 1&&Nat.beq sz' 1)&&(Nat.beq i0.toNat m&&cF i m))with
  |false=>rw[hb]at h;cases h
  |true=>rw[hb]at h;cases h;simp only[aiC]at hb;obtain⟨⟨b1,b2⟩,b3,b4⟩:=hb;obtain rfl:=aiB b1;obtain rfl:=aiB b2;obtain⟨h1,h2⟩:=bI b4;obtain⟨⟨b,o,e1,e2⟩,e3,_⟩:=ex;have e2:=(List.cons.inj e2).1;rw[e2,zo,aiB b3]at fx;haveI:=(tt.sl ht).1;refine⟨cE b (o+dz p+i.toNat),Dx e1 e3 (q:=[.Ag 0 i.toNat]) (λs hs=>by simp at hs;subst hs;trivial),?_⟩;exact(TB fx fy h1 h2).vk hm.st
 ·cases h
theorem Bb{T:Nat}{v:AV G}{u:Value}(h:sA tt T v=true)(hv:rv J ρ v u):(nG P T/\u.cells= #[u]/\v.one=true)\/∃n,qM P T n/\u.cells.size=n/\n≠0/\u= .agg u.cells:=by
 unfold sA at h;split at h
 ·rename_i e he
  split at h
  ·rename_i hs;exact .inl ⟨tt.one he hs,(A2 h hv).1,h⟩
  ·rename_i n hs
   split at h
   ·rename_i m hc
    simp only[aiC,Bool.not_eq_true']at h;obtain rfl:=aiB h.1;have hn:n≠0:=λe0=>by rw[e0]at h;simp at h
    have hag:=tt.agg he hs;refine .inr ⟨n,hag,?_,hn,?_⟩
    ·unfold AV.cw at hc
     split at hc
     ·rename_i t x
      cases ha:t.ag with
      |false=>rw[ha]at hc;cases hc
      |true=>rw[ha]at hc;cases hc;obtain⟨u',e1,h1,h2,_⟩:=hv;cases e1;rw[← Array.length_toList];exact(t.L G).len h1
     ·obtain⟨cs,e1,h1,_⟩:=hv
      cases e1;exact vu hc h1
     ·cases hc
    ·unfold AV.cw at hc
     split at hc
     ·rename_i t x
      cases ha:t.ag with
      |false=>rw[ha]at hc;cases hc
      |true=>obtain⟨u',e1,h1,h2,_⟩:=hv;cases e1;obtain⟨cs,rfl⟩:=h2 ha;rfl
     ·obtain⟨cs,e1,h1,_⟩:=hv
      cases e1;rfl
     ·cases hc
   ·cases h
 ·cases h
theorem vj{cs:List Value}{o:Nat}{u:Value}(h:(cs.drop o).take 1=[u]):cs[o]? =some u:=by
 have h2:((cs.drop o).take 1)[0]? =some u:=by rw[h];rfl
 rw[List.getElem?_take,aiz (by decide),List.getElem?_drop]at h2;exact h2
theorem VN(hm:Ke (G:=G) J ρ N c D H ob a w){T b o T':Nat}{x:Operand}{cs:List Value}{v:AV G}{u:Value}(hfit:sA tt T v=true)(hv:rv J ρ v u)(hx:Bw.ev (jS a) x=some (cE b o))(hc:aF.cells b T' cs∈H)(h:(cs.drop o).take u.cells.size=u.cells.toList):
  yz P c J ρ ⟨d, .load T x,ty,ps,af,g⟩ a w v:=by
 haveI:oG H b T' cs:=⟨hc⟩;rcases Bb hfit hv with⟨h1,h2,_⟩|⟨n,h1,h2,_,h3⟩
 ·haveI:=h1
  refine⟨u,hv,(pA hx (vj ?_)).vk hm.st⟩;rw[h2]at h;exact h
 ·haveI:=h1
  subst h2;have e:u= .agg u.cells.toList.toArray:=by rw[Array.toArray_toList];exact h3
  refine⟨.agg u.cells.toList.toArray,by rw[← e];exact hv,(B3 hx h (by simp)).vk hm.st⟩
theorem O8(hm:Ke (G:=G) J ρ N c D H ob a w){T o sz n:Nat}{x:Operand}{vv:Value}{ws:List Value}{v:AV G}{u:Value}(hfit:sA tt T v=true)(hv:rv J ρ v u)(hx:Bw.ev (jS a) x=some (er vv o))(hr:mU c H vv sz n ws)(h:(ws.drop o).take u.cells.size=u.cells.toList):
  yz P c J ρ ⟨d, .load T x,ty,ps,af,g⟩ a w v:=by
 haveI:=hr;rcases Bb hfit hv with⟨h1,h2,_⟩|⟨n,h1,h2,h0,h3⟩
 ·haveI:=h1
  refine⟨u,hv,(B4 hx (vj ?_)).vk hm.st⟩;rw[h2]at h;exact h
 ·haveI:=h1
  subst h2;have e:u= .agg u.cells.toList.toArray:=by rw[Array.toArray_toList];exact h3
  refine⟨.agg u.cells.toList.toArray,by rw[← e];exact hv,(GR hx h (by simp) (by omega)).vk hm.st⟩
theorem Hu{e:Ty}{n:Nat}{i:Int}{r:List pE}{q:PL G e}{ws:List Value}{xs:List (e.T G)}{p:List pE}(hp:p= .idx n (e.L G).n i::r)(hn:i.toNat<xs.length)(h:DA tt.F e p=some q)(hs:∀s∈p,s.ok)(hr:(LA (e.L G) xs.length).ef J ws (λi=>xs.getD i default)):
  ∃u,rv J ρ (mk q.m (q.get (xs.getD q.i.toNat default))) u/\(ws.drop (dz p)).take u.cells.size=u.cells.toList:=by
 subst hp;obtain⟨e1,e3⟩:=Ht h hs rfl hn;have hg:=e3.get hr;obtain⟨u,k1,k2⟩:=Cz hg;have hl:=(q.m.L G).len hg;rw[← k1,Array.length_toList]at hl;rw[e1];exact⟨u,Fg k2,by rw[hl,k1]⟩
theorem RY(hm:Ke (G:=G) J ρ N c D H ob a w)(hE:wA J ρ a E){T:Nat}{x:Operand}{va v:AV G}(h:Vt tt ob va=some v)(hf:sA tt T v=true)(hx:E x=some va):yz P c J ρ ⟨d, .load T x,ty,ps,af,g⟩ a w v:=by
 have ex:=hE.ok _ _ hx;have fx:=hE.ev _ _ hx;unfold Vt at h;split at h
 ·rename_i r p
  obtain⟨b,o,h1,h2,h3⟩:=my ex;rw[h2]at fx;split at h
  ·rename_i T' cc ho
   obtain⟨y,hy,b',uu,k1,rfl,k3⟩:=hm.ob _ _ ho;have eb:b=b'/\o=0:=by rcases h1 with h1|⟨n,cap,_,_,_,_,h1,_⟩<;>rw[h1]at k1<;>simp[cE]at k1;exact k1
   obtain⟨rfl,rfl⟩:=eb;rw[Nat.zero_add]at fx;obtain⟨u,m1,m2,m3⟩:=DG h k3 h3;exact VN hm hf m1 fx hy m2
  ·rename_i _ sz t xs ho
   cases hz:Pr p sz with
   |false=>rw[hz]at h;cases h
   |true=>
    rw[hz]at h;simp only[cond_true]at h;split at h
    ·rename_i q hq
     cases h;obtain⟨vv,ws,k1,k2,k3,k4,k5⟩:=F6 hm ho;have hp:∃n cap n' sz i q',ρ r=some (.slice (some ⟨b,o,none⟩) n cap)/\p= .idx n' sz i::q'/\i.toNat<n:=by
      rcases h1 with h1|h1
      ·obtain⟨a0,cp,e⟩:=k2
       rw[h1,e]at k1;cases k1
      ·exact h1
     obtain⟨n,cap,n',sz',i,q',e1,e2,e3⟩:=hp;subst e2;obtain rfl:=aiB (show Nat.beq sz' sz=true from hz);rw[e1]at k1;cases k1;obtain⟨a0,cp,e4⟩:=k2;cases e4;subst k5;obtain⟨u,m1,m2⟩:=Hu rfl e3 hq h3 k4;exact O8 (vv:= .slice (some ⟨b,o,none⟩) xs.length cap) (o:=dz (pE.idx n' (Ty.L G t).n i::q')) hm hf m1 fx k3 m2
    ·cases h
  ·cases h
 ·rename_i e xs p
  obtain⟨vv,ws,h1,h2,h3,i,q',h4,h5⟩:=D3 ex;rw[h2]at fx;split at h
  ·rename_i q hq
   cases h;obtain⟨u,m1,m2⟩:=Hu h4 h5 hq h3 h1.ef;haveI:=hm.kn;exact O8 hm hf m1 fx h1.at m2
  ·cases h
 ·cases h
theorem TF{T j:Nat}{o:Nat×Option Nat}{F:dc}{x:Operand}{u v:Value}(hf:FG P T j o.1 o.2=true)(hx:Bw.ev F x=some u)(hu:∃cs:List Value,u= .agg cs.toArray)(hv:(u.cells.toList.drop o.1).take v.cells.size=v.cells.toList)
  (h1:o.2=none->v.cells= #[v])(h2:∀n,o.2=some n->v.cells.size=n/\v= .agg v.cells):VS P N c ⟨d, .field T x j,ty,ps,af,g⟩ F H v:=
 aG (by simp) λa w hfr _ _ =>by
  obtain⟨cs,rfl⟩:=hu;unfold FG at hf;rw[aiC]at hf;have hf:=hf.2;split at hf
  ·rename_i fs e1
   split at hf
   ·rename_i fl e2
    rw[aiC]at hf;have ho:=aiB hf.1;have hf:=hf.2;have hp:(part fl.type cs.toArray fl.offset).run P w= .ok v w:=by
     cases q:o.2 with
     |none=>rw[q]at hf;haveI:nG P fl.type:=⟨hf⟩;have hag:(isAgg fl.type).run P w= .ok false w:=oB w;have:=h1 q;rw[this]at hv;have hv:(cs.drop o.1).take 1=[v]:=hv;have:=vj hv;simp[part,hag,ho,this]
     |some n=>
      rw[q]at hf;haveI:qM P fl.type n:=⟨hf⟩;have hag:(isAgg fl.type).run P w= .ok true w:=qg w;have hs:(sizeOf fl.type).run P w= .ok n w:=Bw.xX w;obtain⟨q1,q2⟩:=h2 n q;rw[q1]at hv;have hv:(cs.drop o.1).take n=v.cells.toList:=hv;have:(cs.toArray.extract o.1 (o.1+n))=v.cells:=by apply Array.ext';rw[← hv];simp[List.extract_eq_take_drop]
      simp only[part,Sem.run_bind,hag,Result.andThen_ok,if_true,hs,ho,Sem.run_pure,this];rw[← q2]
    have ha:(asAgg (.agg cs.toArray)).run P w= .ok cs.toArray w:=rfl;simp[execOp,aH hfr hx,Instr.field,run_underlying e1,e2,ha,hp]
   ·cases hf
  ·cases hf
theorem Ss{J:World->Prop}{ρ:aX}{F:Kj G}{v y:AV G}{s:pE}{u:Value}(h:Fx F v [s]=some y)(hv:rv J ρ v u):∃cs:List Value,u= .agg cs.toArray:=by
 cases v with
 |dat t x=>
  obtain⟨u',e,_,h1,_⟩:=hv;cases e;cases t with
  |st i=>exact h1 rfl
  |jo n e=>exact h1 rfl
  |int k=>simp[Fx,path]at h
  |bool=>simp[Fx,path]at h
  |sl e=>simp[Fx,path]at h
 |st a=>obtain⟨cs,e,_⟩:=hv;cases e;exact⟨cs,rfl⟩
 |_ =>simp[Fx]at h
theorem WA{y:AV G}{o:Option Nat}{u:Value}(h:HY o y=true)(hv:rv J ρ y u):(o=none->u.cells= #[u])/\∀n,o=some n->u.cells.size=n/\u= .agg u.cells:=by
 cases o with
 |none=>exact⟨λ_ =>(A2 h hv).1,nofun⟩
 |some n=>
  refine⟨nofun,λn' e=>?_⟩;cases e;simp only[HY]at h;split at h
  ·rename_i m hc
   obtain rfl:=aiB h;unfold AV.cw at hc;split at hc
   ·rename_i t x
    cases ha:t.ag with
    |false=>rw[ha]at hc;cases hc
    |true=>rw[ha]at hc;cases hc;obtain⟨u',e1,h1,h2,_⟩:=hv;cases e1;obtain⟨cs,e2⟩:=h2 ha;refine⟨by rw[← Array.length_toList];exact(t.L G).len h1,?_⟩;subst e2;rfl
   ·obtain⟨cs,e1,h1,_⟩:=hv
    cases e1;exact⟨vu hc h1,rfl⟩
   ·cases hc
  ·cases h
theorem Ox(hm:Ke (G:=G) J ρ N c D H ob a w)(hE:wA J ρ a E){op:Op}{v:AV G}{gs:List Bool}(h:pv tt ob E op=some (gs,v))(hg:∀b∈gs,b=true):yz P c J ρ ⟨d,op,ty,ps,af,g⟩ a w v:=by
 unfold pv at h;split at h
 ·split at h
  ·rename_i v' hx;cases h;exact⟨_,hE.ok _ _ hx,(bQ (hE.ev _ _ hx)).vk hm.st⟩
  ·cases h
 ·split at h
  ·rename_i v' hx;cases h;exact⟨_,hE.ok _ _ hx,(pI (hE.ev _ _ hx)).vk hm.st⟩
  ·cases h
 ·split at h
  ·rename_i va vb hx hy;exact OL hm hE h hg hx hy
  ·cases h
 ·split at h
  ·rename_i b hx
   cases h;have e:=wF (hE.ok _ _ hx);have f:=hE.ev _ _ hx;rw[e]at f;exact⟨_,rfl,(Bm f).vk hm.st⟩
  ·rename_i b hx
   cases h;have e:=Fh (hE.ok _ _ hx);have f:=hE.ev _ _ hx;rw[e]at f;exact⟨_,rfl,(Bm f).vk hm.st⟩
  ·cases h
 ·split at h
  ·rename_i k n _ hx
   cases h;exact⟨_,rfl,(Qu (rP hE hx).2 rfl).vk hm.st⟩
  ·cases h
 ·split at h
  ·rename_i k n _ l k' hx h1 h2
   cases hb:EB k l with
   |false=>rw[hb]at h;cases h
   |true=>rw[hb]at h;cases h;obtain rfl:=xE hb;have f:=(rP hE hx).2;haveI:=(tt.int h1).1;haveI:=(tt.int h2).1;exact⟨_,rfl,(Ll f rfl).vk hm.st⟩
  ·cases h
 ·split at h
  ·rename_i r p hx
   cases h;have e:=hE.ok _ _ hx;have f:=hE.ev _ _ hx;obtain⟨b,o,_,e2,_⟩:=my e;refine⟨_,e,?_⟩;rw[e2]at f ⊢;exact(vZ f).vk hm.st
  ·rename_i ff aa cc hx
   cases h;have e:=hE.ok _ _ hx;refine⟨_,e,VK.run (by simp) ?_⟩;obtain⟨fs,cs,e2,_⟩:=e;have e2:=(List.cons.inj e2).1;simp[execOp,e2]
  ·cases h
 ·split at h
  ·rename_i dz n ht
   split at h
   ·rename_i o ho
    haveI:=tt.Ag ht ho;split at h
    ·rename_i r p hx
     cases h;have f:=hE.ev _ _ hx;obtain⟨b,o',h1,h2,h3⟩:=my (hE.ok _ _ hx);rw[h2]at f;refine⟨_,Dx h1 h3 (q:=[.Ag _ o.1]) (λs hs=>by simp at hs;subst hs;trivial),?_⟩;exact(z6 f).vk hm.st
    ·rename_i e xs p hx
     cases h;have f:=hE.ev _ _ hx;obtain⟨vv,ws,h1,h2,h3,i,q,h4,h5⟩:=D3 (hE.ok _ _ hx);rw[h2]at f;haveI:=hm.kn;exact⟨_,H9 h1 h3 h4 (s:= .Ag _ o.1) trivial,(TD h1 f h5).vk hm.st⟩
    ·cases h
   ·cases h
  ·cases h
 ·split at h
  ·rename_i dz n ht
   split at h
   ·rename_i o ho
    split at h
    ·rename_i va hx
     split at h
     ·rename_i y hy
      cases hb:HY o.2 y with
      |false=>rw[hb]at h;cases h
      |true=>rw[hb]at h;cases h;have e:=hE.ok _ _ hx;obtain⟨u,k1,k2,k3⟩:=DG hy e (λs hs=>by simp at hs;subst hs;trivial);obtain⟨q1,q2⟩:=WA hb k1;exact⟨u,k1,(TF (tt.fs ht ho) (hE.ev _ _ hx) (Ss hy e) k2 q1 q2).vk hm.st⟩
     ·cases h
    ·cases h
   ·cases h
  ·cases h
 ·split at h
  ·rename_i va k i _ hx hy;exact RZ hm hE h hg hx hy
  ·cases h
 ·split at h
  ·rename_i n e f k i _ m te sz tot hx hy ht
   cases hb:(Nat.beq n m&&(Nat.beq sz (e.L G).n&&sA tt te (mk e (f i.toNat))))with
   |false=>rw[hb]at h;cases h
   |true=>
    rw[hb]at h;cases h;simp only[aiC]at hb;obtain rfl:=aiB hb.1;have hs:=aiB hb.2.1;have hi:=zY hg;have fx:=hE.ev _ _ hx;have fy:=(rP hE hy).2;haveI:=tt.jo ht;have ex:=hE.ok _ _ hx;obtain⟨u',e1,h1,h2,_⟩:=ex;cases e1;obtain⟨cs,e2⟩:=h2 rfl;rw[e2]at fx h1;have hp:=aY.idx (L:=e.L G) (m:=n) i.toNat (bI hi).2 hs;have hgt:=hp.get h1;obtain⟨u,k1,k2⟩:=Cz hgt;have hl:=(e.L G).len hgt;have hv:rv J ρ (mk e (f i.toNat)) u:=Fg k2;rcases Bb hb.2.2 hv with⟨m1,m2,_⟩|⟨q,m1,m2,_,m3⟩
    ·haveI:=m1
     rw[m2]at k1;have hn:(e.L G).n=1:=by rw[← hl, ← k1];rfl
     rw[hn]at k1;exact⟨u,hv,(FM (m:=i.toNat) fx fy (bI hi).1 (bI hi).2 (vj k1.symm)).vk hm.st⟩
    ·haveI:=m1
     have e3:u= .agg u.cells.toList.toArray:=by rw[Array.toArray_toList];exact m3
     refine⟨.agg u.cells.toList.toArray,by rw[← e3];exact hv,(FK (m:=i.toNat) (q:=q) (us:=u.cells.toList) fx fy (bI hi).1 (bI hi).2 ?_).vk hm.st⟩;rw[hs];rw[hs]at k1;exact k1.symm
  ·rename_i pa k i _ m te sz tot hx hy ht
   split at h
   ·rename_i wd y hp
    cases hb:(Nat.beq wd sz&&sA tt te y)with
    |false=>rw[hb]at h;cases h
    |true=>
     rw[hb]at h;cases h;simp only[aiC]at hb;obtain rfl:=aiB hb.1;have hi:=zY hg;have fx:=hE.ev _ _ hx;have fy:=(rP hE hy).2;haveI:=tt.jo ht;obtain⟨cs,e1,h1,_⟩:=hE.ok _ _ hx;rw[(List.cons.inj e1).1]at fx;obtain⟨u,hv,k1,k2,_⟩:=A1 hp h1;rcases Bb hb.2 hv with⟨m1,m2,_⟩|⟨q,m1,m2,_,m3⟩
     ·haveI:=m1
      rw[m2]at k1;have hn:wd=1:=by rw[← k2, ← Array.length_toList,m2];rfl
      subst hn;exact⟨u,hv,(FM (m:=i.toNat) fx fy (bI hi).1 (bI hi).2 (vj k1)).vk hm.st⟩
     ·haveI:=m1
      have e3:u= .agg u.cells.toList.toArray:=by rw[Array.toArray_toList];exact m3
      exact⟨.agg u.cells.toList.toArray,by rw[← e3];exact hv,(FK (m:=i.toNat) (q:=q) (us:=u.cells.toList) fx fy (bI hi).1 (bI hi).2 k1).vk hm.st⟩
   ·cases h
  ·cases h
 ·split at h
  ·rename_i va hx
   split at h
   ·rename_i y hy
    cases hb:sA tt _ y with
    |false=>rw[hb]at h;cases h
    |true=>rw[hb]at h;cases h;exact RY hm hE hy hb hx
   ·cases h
  ·cases h
 ·split at h
  ·rename_i l hx
   split at h
   ·rename_i v' hn
    cases h;obtain⟨vs,e,hl⟩:=hE.ok _ _ hx;have f:=hE.ev _ _ hx;rw[(List.cons.inj e).1]at f;obtain⟨u,h1,h2⟩:=Gg hn hl;exact⟨u,h2,(nF f h1).vk hm.st⟩
   ·cases h
  ·cases h
 ·rename_i fn first cap
  split at h
  ·rename_i aa cc h1 h2
   cases h;obtain⟨i1,_⟩:=rL hE h1;obtain⟨j1,_⟩:=rL hE h2;refine⟨.func fn (first.map a.eval) (cap.map a.eval),⟨_,_,?_,i1,j1⟩,VK.run (by simp) (by simp[execOp,Instr.makeFunc])⟩;congr 1;simp[← Array.toList_map]
  ·cases h
 ·split at h
  ·rename_i v' k hx ht
   cases h;haveI:=(tt.int ht).1;exact⟨_,⟨_,rfl,hE.ok _ _ hx⟩,VK.run (by simp) (by simp[execOp,Instr.makeInterface,run_underlying (QC.ok (k:=k))])⟩
  ·cases h
 ·rename_i args EA
  obtain⟨args⟩:=args;obtain⟨EA⟩:=EA;split at h
  ·rename_i x T ea et
   dsimp only at ea et;subst ea et;split at h
   ·rename_i r e sz b hx ht
    split at h
    ·rename_i e' sz' t xs ho
     cases h;obtain⟨vv,ws,h1,h2,h3,h4,h5⟩:=F6 hm ho;have fx:=hE.ev _ _ hx;rw[o9 (hE.ok _ _ hx) h1]at fx;haveI:=(tt.sl ht).1;exact⟨_,rfl,(J8 fx).vk hm.st⟩
    ·cases h
   ·rename_i e xs e' sz b hx ht
    cases h;obtain⟨u',e1,hr,_,hc⟩:=hE.ok _ _ hx;cases e1;obtain⟨v',ws,e2,hf⟩:=hr;rw[hc rfl]at e2;cases e2;haveI:=(tt.sl ht).1;haveI:=hm.kn;exact⟨_,rfl,(Li hf (hE.ev _ _ hx)).vk hm.st⟩
   ·rename_i e sz b hx ht
    cases h;have f:=hE.ev _ _ hx;have e1:a.eval x= .slice none 0 0:=(List.cons.inj (show[a.eval x]=[Value.slice none 0 0]from hE.ok _ _ hx)).1;rw[e1]at f;haveI:=(tt.sl ht).1;haveI:=hm.kn;exact⟨_,rfl,(Li (A:=J) (L:=LB) (ws:=[]) (xs:=[]) yH.nil f).vk hm.st⟩
   ·rename_i r p m sz' i e sz b hx ht
    cases h;have f:=hE.ev _ _ hx;obtain⟨⟨b',o,e1,e2⟩,e3,_⟩:=hE.ok _ _ hx;have e2:=(List.cons.inj e2).1;rw[e2,zo]at f;haveI:=(tt.sl ht).1;exact⟨_,rfl,(MM f).vk hm.st⟩
   ·cases h
  ·cases h
 ·rename_i args EA
  obtain⟨args⟩:=args;split at h
  ·rename_i x y ea
   dsimp only at ea;subst ea;split at h
   ·rename_i k m _ l n _ hx hy
    cases hb:EB k l with
    |false=>rw[hb]at h;cases h
    |true=>rw[hb]at h;cases h;obtain rfl:=xE hb;have fx:=(rP hE hx).2;have fy:=(rP hE hy).2;exact⟨_,rfl,(Xl fx fy).vk hm.st⟩
   ·cases h
  ·cases h
 ·rename_i args EA
  obtain⟨args⟩:=args;split at h
  ·rename_i x y ea
   dsimp only at ea;subst ea;split at h
   ·rename_i k m _ l n _ hx hy
    cases hb:EB k l with
    |false=>rw[hb]at h;cases h
    |true=>rw[hb]at h;cases h;obtain rfl:=xE hb;have fx:=(rP hE hx).2;have fy:=(rP hE hy).2;exact⟨_,rfl,(Xm fx fy).vk hm.st⟩
   ·cases h
  ·cases h
 ·cases h
end Go.Rw
namespace Go.Rw
open Go Go.Bw Go.RowKit
variable {G:Sg} {P:Program} {tt:TT P G} {J J':World->Prop} {ρ ρ':aX} {a:Act} {w:World} {d:Option Tmp} {ty:TypeId} {ps:String} {af:Array Edge} {g:Option (Nat×Bool)}
 {N:Nat} {c:Cx} {HK X:List aF} {C:CC G} {S:AS G}
def OU(C:CC G)(S:AS G)(r:Nat):Option (Ob G):=match bY S.O r with
 |some o=>some o
 |none=>bY (iV C) r
theorem RO.get{O:Os G}{H:List aF}(h:RO J ρ O H){r:Nat}{o:Ob G}(e:bY O r=some o):∃(k:Nat) (x:aF),H[k]? =some x/\ro J ρ r o x:=by
 induction h with
 |nil=>cases e
 |@cons r0 o0 x0 O H h0 _ ih=>
  simp only[bY]at e;cases hb:Nat.beq r0 r with
  |true=>rw[hb]at e;cases e;obtain rfl:=aiB hb;exact⟨0,x0,rfl,h0⟩
  |false=>rw[hb]at e;obtain⟨k,x,k1,k2⟩:=ih e;exact⟨k+1,x,by simpa using k1,k2⟩
def m0:Os G->Nat->Ob G->Os G
 |[],_,_ =>[]
 |(k,v)::r,d,o=>bif Nat.beq k d then(k,o)::r else(k,v)::m0 r d o
theorem RO.set{O:Os G}{H:List aF}(h:RO J ρ O H){r:Nat}{o:Ob G}(e:bY O r=some o):∃(k:Nat) (x:aF),H[k]? =some x/\ro J ρ r o x/\∀o' x',ro J ρ r o' x'->RO J ρ (m0 O r o') (H.set k x'):=by
 induction h with
 |nil=>cases e
 |@cons r0 o0 x0 O H h0 hr ih=>
  simp only[bY]at e;cases hb:Nat.beq r0 r with
  |true=>rw[hb]at e;cases e;obtain rfl:=aiB hb;refine⟨0,x0,rfl,h0,λo' x' h'=>?_⟩;simp only[m0,hb,cond_true];exact .cons h' hr
  |false=>rw[hb]at e;obtain⟨k,x,k1,k2,k3⟩:=ih e;refine⟨k+1,x,by simpa using k1,k2,λo' x' h'=>?_⟩;simp only[m0,hb,cond_false];exact .cons h0 (k3 o' x' h')
def tg:Os G->Nat->Os G
 |[],_ =>[]
 |(k,v)::r,d=>bif Nat.beq k d then r else(k,v)::tg r d
theorem RO.S6{O:Os G}{H:List aF}(h:RO J ρ O H){r:Nat}{o:Ob G}(e:bY O r=some o):∃(k:Nat) (x:aF),H[k]? =some x/\ro J ρ r o x/\RO J ρ (tg O r) (H.eraseIdx k):=by
 induction h with
 |nil=>cases e
 |@cons r0 o0 x0 O H h0 hr ih=>
  simp only[bY]at e;cases hb:Nat.beq r0 r with
  |true=>rw[hb]at e;cases e;obtain rfl:=aiB hb;refine⟨0,x0,rfl,h0,?_⟩;simp only[tg,hb,cond_true];exact hr
  |false=>rw[hb]at e;obtain⟨k,x,k1,k2,k3⟩:=ih e;refine⟨k+1,x,by simpa using k1,k2,?_⟩;simp only[tg,hb,cond_false];exact .cons h0 k3
theorem RO.app{O O':Os G}{H H':List aF}(h:RO J ρ O H)(k:RO J ρ O' H'):RO J ρ (O++O') (H++H'):=by
 induction h with
 |nil=>exact k
 |cons h _ ih=>exact .cons h ih
theorem Rl.st(h:Rl c N ρ J HK X C S a w):∃HS,RO J ρ S.O HS/\St N c a.defers (jS a) (HS++(HK++X)) a w/\Ke J ρ N c a.defers (HS++(HK++X)) (OU C S) a w:=by
 obtain⟨HS,h1,h3⟩:=h.hp;have hst:St N c a.defers (jS a) (HS++(HK++X)) a w:=⟨h.tm,CF a,rfl,h.si.s,h3⟩;refine⟨HS,h1,hst,hst,⟨λw' _ hp=>h.kn.to w' λr hr=>⟨hp.holds r (by simp[hr]),λb hb=>(hp.own r (by simp[hr]) b hb).2⟩⟩,λr o e=>?_⟩;unfold OU at e;split at e
 ·rename_i o' he
  cases e;obtain⟨k,x,k1,k2⟩:=h1.get he;exact⟨x,aiG _ (List.mem_of_getElem? k1),k2⟩
 ·obtain⟨x,k1,k2⟩:=h.kc r o e
  exact⟨x,aiF _ (aiG _ k1),k2⟩
def chain(C:CC G)(S:AS G):Nat->Nat->Bool->List (Nat×Bool)
 |0,j,w=>[(j,w)]
 |n+1,j,w=>(j,w)::match H8 C S (.tmp j)with
  |some (.gd k v _)=>chain C S n k v
  |_ =>[]
def Pd:List (Nat×Bool)->Nat->Bool->Bool
 |[],_,_ =>false
 |(k,v)::r,j,w=>(Nat.beq k j&&(v==w))||Pd r j w
def Q9(C:CC G)(S:AS G):Nat->Nat->Bool->Option Bool
 |0,_,_ =>none
 |n+1,j,w=>match H8 C S (.tmp j)with
  |some (.kb b)=>some (b==w)
  |some (.gd k v x)=>match Q9 C S n k v with
   |some false=>some false
   |some true=>(match x with
    | .kb b=>some (b==w)
    |_ =>none)
   |none=>none
  |_ =>none
def isT:Option Bool->Bool
 |some b=>b
 |none=>false
def ei(C:CC G)(S:AS G)(ch:List (Nat×Bool))(x:Operand):Option (AV G):=match H8 C S x with
 |some (.gd j w v)=>bif Pd ch j w||isT (Q9 C S 8 j w)then some v else none
 |r=>r
theorem VW{p:Nat->Bool->Prop}:∀{l:List (Nat×Bool)} {j:Nat} {w:Bool},Pd l j w=true->(∀q∈l,p q.1 q.2)->p j w:=by
 intro l
 induction l with
 |nil=>intro j w h;cases h
 |cons q r ih=>
  obtain⟨k,v⟩:=q;intro j w h hp;simp only[Pd,Bool.or_eq_true,aiC]at h;rcases h with⟨h1,h2⟩|h
  ·have e1:=aiB h1
   have e2:v=w:=by simpa using h2
   have:=hp _ List.mem_cons_self;rw[e1,e2]at this;exact this
  ·exact ih h λq hq=>hp q (aiL _ hq)
theorem A4{w:Bool}:Value.bool w≠undef:=by intro h;cases h
theorem Ig(h:Rl c N ρ J HK X C S a w):∀(n j:Nat) (v:Bool),a.tmps[j]? =some (.bool v)->∀q∈chain C S n j v,a.tmps[q.1]? =some (.bool q.2):=by
 intro n
 induction n with
 |zero=>intro j v e q hq;simp[chain]at hq;subst hq;exact e
 |succ n ih=>
  intro j v e q hq;simp only[chain,List.mem_cons]at hq;rcases hq with rfl|hq
  ·exact e
  ·split at hq
   ·rename_i k u x he
    refine ih k u ?_ q hq;have hr:=h.ev he;have e2:a.eval (.tmp j)= .bool v:=by simp[Act.eval,e]
    rw[e2]at hr;cases Classical.em (a.tmps[k]? =some (.bool u))with
    |inl h=>exact h
    |inr h=>exact absurd (hr.2 h) A4
   ·cases hq
theorem JO{x:Operand}{v:AV G}(h:Rl c N ρ J HK X C S a w)(e:H8 C S x=some v):Bw.ev (jS a) x=some (a.eval x):=by
 refine KX (λt ht=>?_) (λg hg=>?_)
 ·subst ht
  simp only[H8]at e;split at e
  ·rename_i v' he
   obtain⟨u,h1,_⟩:=h.fs t _ he;exact(aiH.1 h1).1
  ·obtain⟨u,h1,_⟩:=O7 h.fc e
   exact(aiH.1 h1).1
 ·subst hg;cases e
theorem aaH{t:Array Value}{v:AV G}{u:Value}(h:rf J ρ t v u)(hn:∀j w v',v≠ .gd j w v'):rv J ρ v u:=by
 cases v with
 |gd j w v'=>exact absurd rfl (hn j w v')
 |_ =>exact h
theorem T5{b:Bool}{t:Array Value}{u:Value}(h:rf (G:=G) J ρ t (.kb b) u):u= .bool b:=Fh (G:=G) (J:=J) (ρ:=ρ) h
theorem AW(h:Rl c N ρ J HK X C S a w){j:Nat}{x:AV G}(e:H8 C S (.tmp j)=some x):a.tmps[j]? =some (a.eval (.tmp j)):=CF a j _ (JO h e)
theorem Gy(h:Rl c N ρ J HK X C S a w):∀(n j:Nat) (v g:Bool),Q9 C S n j v=some g->(a.tmps[j]? =some (.bool v)↔g=true):=by
 intro n
 induction n with
 |zero=>intro j v g e;cases e
 |succ n ih=>
  intro j v g e;simp only[Q9]at e;split at e
  ·rename_i b he
   cases e;rw[AW h he,T5 (h.ev he)];cases b<;>cases v<;>simp
  ·rename_i k u x he
   have hr:=h.ev he;split at e
   ·rename_i hg
    cases e;have X9:=ih k u false hg;have h2:a.tmps[k]? ≠some (.bool u):=λq=>by have:=X9.1 q;cases this
    rw[AW h he,hr.2 h2];simp only[Option.some.injEq,Bool.false_eq_true,iff_false]
    exactλq=>A4 q.symm
   ·rename_i hg
    have X9:=ih k u true hg;split at e
    ·rename_i b
     cases e;rw[AW h he,Fh (hr.1 (X9.2 rfl))];cases b<;>cases v<;>simp
    ·cases e
   ·cases e
  ·cases e
theorem abi{o:Option Bool}(h:isT o=true):o=some true:=by cases o with
 |none=>cases h
 |some b=>cases b with
  |true=>rfl
  |false=>cases h
theorem bX(h:Rl c N ρ J HK X C S a w){ch:List (Nat×Bool)}(hc:∀q∈ch,a.tmps[q.1]? =some (.bool q.2)):wA J ρ a (ei C S ch):=by
 refine⟨λx v e=>?_,λx v e=>?_⟩
 ·unfold ei at e
  split at e
  ·rename_i j u x' he
   cases hb:(Pd ch j u||isT (Q9 C S 8 j u))with
   |false=>rw[hb]at e;cases e
   |true=>
    rw[hb]at e;cases e;have:=h.ev he;rw[Bool.or_eq_true]at hb;rcases hb with hb|hb
    ·exact this.1 (VW (p:=λj u=>a.tmps[j]? =some (.bool u)) hb hc)
    ·exact this.1 ((Gy h 8 j u true (abi hb)).2 rfl)
  ·rename_i hn
   exact aaH (h.ev e) λj w v' q=>hn j w v' (q▸e)
 ·unfold ei at e
  split at e
  ·rename_i j u x' he;exact JO h he
  ·exact JO h e
theorem Kt{b:Bool}{t:Array Value}{u:Value}(h:rf (G:=G) J ρ t (.bool b) u):u= .bool b:=wF (G:=G) (J:=J) (ρ:=ρ) h
def JJ(C:CC G)(S:AS G):Nat->Nat->Bool->Option Bool
 |0,_,_ =>none
 |n+1,j,w=>match H8 C S (.tmp j)with
  |some (.bool b)=>some (b==w)
  |some (.kb b)=>some (b==w)
  |some (.gd k v x)=>match Tj x with
   |some b=>match JJ C S n k v with
    |some g=>some (g&&(b==w))
    |none=>none
   |none=>none
  |_ =>none
theorem KW(h:Rl c N ρ J HK X C S a w):∀(n j:Nat) (v g:Bool),JJ C S n j v=some g->(a.tmps[j]? =some (.bool v)↔g=true):=by
 intro n
 induction n with
 |zero=>intro j v g e;cases e
 |succ n ih=>
  intro j v g e;simp only[JJ]at e;have hj:∀x,H8 C S (.tmp j)=some x->a.tmps[j]? =some (a.eval (.tmp j)):=λx he=>AW h he;split at e
  ·rename_i b he
   cases e;have hr:=Kt (h.ev he);rw[hj _ he,hr];cases b<;>cases v<;>simp
  ·rename_i b he
   cases e;rw[hj _ he,T5 (h.ev he)];cases b<;>cases v<;>simp
  ·rename_i k u x he
   split at e;rotate_left
   ·cases e
   rename_i b hb;split at e
   ·rename_i g' hg
    cases e;have hr:=h.ev he;have X9:=ih k u g' hg;rw[hj _ he];cases g' with
    |true=>have h1:=hr.1 (X9.2 rfl);have:=yx hb h1;rw[this];cases b<;>cases v<;>simp
    |false=>
     have h2:a.tmps[k]? ≠some (.bool u):=λq=>by have:=X9.1 q;cases this
     rw[hr.2 h2];simp only[Bool.false_and,Option.some.injEq,Bool.false_eq_true,iff_false]
     exactλq=>A4 q.symm
   ·cases e
  ·cases e
def FD(C:CC G)(S:AS G):Nat->Nat->Option (Nat×Bool)
 |0,_ =>none
 |n+1,j=>match H8 C S (.tmp j)with
  |some (.bool b)=>some (j,b)
  |some (.gd k v x)=>match Q9 C S 8 k v with
   |some true=>(match x with
    | .bool b=>some (j,b)
    |_ =>none)
   |some false=>none
   |none=>FD C S n k
  |_ =>none
theorem HV(h:Rl c N ρ J HK X C S a w):∀(n j k:Nat) (b:Bool),FD C S n j=some (k,b)->a.tmps[k]? =some (.bool b):=by
 intro n
 induction n with
 |zero=>intro j k b e;cases e
 |succ n ih=>
  intro j k b e;simp only[FD]at e;split at e
  ·rename_i b' he
   cases e;rw[AW h he,Kt (h.ev he)]
  ·rename_i k' v x he
   split at e
   ·rename_i hg
    split at e
    ·rename_i b'
     cases e;rw[AW h he,wF ((h.ev he).1 ((Gy h 8 k' v true hg).2 rfl))]
    ·cases e
   ·cases e
   ·exact ih k' k b e
  ·cases e
def SK(P:Program)(o:Oper)(C:CC G)(S S':AS G)(v:AV G):Prop:=∀(c:Cx) (N:Nat) (ρ:aX) (J:World->Prop) (HK X:List aF) (a:Act) (w:World) (next:Act->World->Prop) (Q:Exit->Act->World->Prop),Rl c N ρ J HK X C S a w-> (∀(ρ':aX) (J':World->Prop) (Y:List aF) (w':World) (u:Value),ρ.to ρ' S.nx->(∀w,J' w->J w)->rv J' ρ' v u->Rl c N ρ' J' HK (Y++X) C S' a w'->next (a.put o.dst u) w')->o.wpIn (FA c.ro) 0 P a w next Q
theorem Rl.IE(h:Rl c N ρ J HK X C S a w)(mJ:∀w,J' w->J w)(mρ:ρ.le ρ'):∀r o,bY (iV C) r=some o->∃x∈HK,ro J' ρ' r o x:=λr o e=>by obtain⟨x,h1,h2⟩:=h.kc r o e;exact⟨x,h1,h2.up mJ mρ⟩
theorem Rl.new{HS:List aF}{x:aF}{o:Ob G}{u:Value}{w':World}(h:Rl c N ρ J HK X C S a w)(h1:RO J ρ S.O HS)(hs:aO c.bs c.w0 w')(hp:bq c.bs c.w0.heap.size (x::(HS++(HK++X))) w')(hx:ro J (ρ.set S.nx u) S.nx o x):
  Rl c N (ρ.set S.nx u) J HK X C {S with O:=(S.nx,o)::S.O,nx:=S.nx+1} a w':=by
 have hle:=(aX.g6 ρ S.nx u).le h.fr;exact⟨h.tm,h.df.up (λ_ h=>h) hle,⟨hs,h.si.n⟩,h.fs.up (λ_ h=>h) hle,h.fc.up (λ_ h=>h) hle,h.IE (λ_ h=>h) hle,⟨x::HS, .cons hx (h1.up (λ_ h=>h) hle),by simpa using hp⟩,h.kn,aX.sW h.fr u⟩
theorem Vh{T:Nat}{x:Operand}{v:AV G}(hv:ei C S [] x=some v):SK P ⟨d, .box T x,ty,ps,af,g⟩ C S {S with O:=(S.nx, .bT T v)::S.O,nx:=S.nx+1} (.ptr S.nx []):=by
 intro c N ρ J HK X a w next Q h hk
 obtain⟨HS,h1,hst,_⟩:=h.st;have hE:=bX h (ch:=[]) (by simp);refine Kc (hE.ev _ _ hv) rfl a.defers a w next Q hst λb w' _ hs hp=>?_
 refine hk (ρ.set S.nx (cE b 0)) J [] w' (cE b 0) (aX.g6 _ _ _) (λ_ h=>h) ?_ (h.new h1 hs hp ?_)
 ·exact⟨⟨b,0, .inl (aX.eP _ _ _),by simp[dz]⟩,by simp⟩
 ·exact⟨b,_,aX.eP _ _ _,rfl,(hE.ok _ _ hv).ext ((aX.g6 ρ S.nx _).le h.fr)⟩
structure ZT(P:Program)(G:Sg) where
 z:Ir (AV G)
 ok:∀t v,z.find t=some v->∀(J:World->Prop) (ρ:aX),∃u:Value,bJ P t=some u.cells.toList/\rv J ρ v u
def ZOk(P:Program):Ir (AV G)->Prop
 | .dk=>True
 | .dw k v l r=>(∀(J:World->Prop) (ρ:aX),∃u:Value,bJ P k=some u.cells.toList/\rv J ρ v u)/\ZOk P l/\ZOk P r
theorem Xb{P:Program}:∀{t:Ir (AV G)},ZOk P t->∀k v,t.find k=some v->∀(J:World->Prop) (ρ:aX),∃u:Value,bJ P k=some u.cells.toList/\rv J ρ v u:=by
 intro t
 induction t with
 |dk=>intro _ k v h;cases h
 |dw k0 v0 l r ihl ihr=>
  intro h k v e;simp only[Ir.find]at e;cases h1:Nat.beq k0 k with
  |true=>rw[h1]at e;cases e;rw[← aiB h1];exact h.1
  |false=>
   rw[h1]at e;simp only[cond_false]at e;cases h2:Nat.blt k k0 with
   |true=>rw[h2]at e;exact ihl h.2.1 k v e
   |false=>rw[h2]at e;exact ihr h.2.2 k v e
theorem Ok{zt:ZT P G}{T:Nat}{v:AV G}(hv:zt.z.find T=some v):SK P ⟨d, .alloc T,ty,ps,af,g⟩ C S {S with O:=(S.nx, .bT T v)::S.O,nx:=S.nx+1} (.ptr S.nx []):=by
 intro c N ρ J HK X a w next Q h hk
 obtain⟨HS,h1,hst,_⟩:=h.st;obtain⟨u,k1,k2⟩:=zt.ok T v hv J ρ;haveI:gj P T u.cells.toList:=⟨k1⟩;refine wh (cs:=u.cells.toList) a.defers a w next Q hst λb w' _ hs hp=>?_
 refine hk (ρ.set S.nx (cE b 0)) J [] w' (cE b 0) (aX.g6 _ _ _) (λ_ h=>h) ?_ (h.new h1 hs hp ?_)
 ·exact⟨⟨b,0, .inl (aX.eP _ _ _),by simp[dz]⟩,by simp⟩
 ·exact⟨b,u,aX.eP _ _ _,rfl,k2.ext ((aX.g6 ρ S.nx _).le h.fr)⟩
theorem Rl.zk{M5:List aF}{O':Os G}{w':World}(h:Rl c N ρ J HK X C S a w)(hr:RO J ρ O' M5)(hs:aO c.bs c.w0 w')(hp:bq c.bs c.w0.heap.size (M5++(HK++X)) w'):
  Rl c N ρ J HK X C {S with O:=O'} a w':=⟨h.tm,h.df,⟨hs,h.si.n⟩,h.fs,h.fc,h.kc,⟨_,hr,hp⟩,h.kn,h.fr⟩
theorem nL{α:Type}{l m:List α}{k:Nat}{x:α}(h:l[k]? =some x):(l++m)[k]? =some x:=by rw[List.getElem?_append_left (List.getElem?_eq_some_iff.1 h).1];exact h
theorem qV{α:Type}{l m:List α}{k:Nat}{x y:α}(h:l[k]? =some x):(l++m).set k y=l.set k y++m:=by rw[List.set_append_left];exact(List.getElem?_eq_some_iff.1 h).1
theorem PU{T:Nat}{v:AV G}{u:Value}(h:sA tt T v=true)(hv:rv J ρ v u):MO P T u.cells.size:=by
 rcases Bb h hv with⟨h1,h2,_⟩|⟨n,h1,h2,_⟩
 ·haveI:=h1
  rw[h2];exact(inferInstance:MO P T 1)
 ·haveI:=h1
  subst h2;exact inferInstance
theorem Oe{T:Nat}{x y:Operand}{v:AV G}{r T':Nat}{p:List pE}{cc IM:AV G}(hx:ei C S [] x=some (.ptr r p))(hy:ei C S [] y=some v)(ho:bY S.O r=some (.bT T' cc))(hst:I3 tt.F cc p v=some IM)(hf:sA tt T v=true):
  SK P ⟨d, .store T x y,ty,ps,af,g⟩ C S {S with O:=m0 S.O r (.bT T' IM)} .Ko:=by
 intro c N ρ J HK X a w next Q h hk
 obtain⟨HS,h1,hs0,hm⟩:=h.st;have hE:=bX h (ch:=[]) (by simp);obtain⟨b,o,e1,e2,e3⟩:=my (hE.ok _ _ hx);obtain⟨k,q,k1,⟨b',u,m1,rfl,m3⟩,k3⟩:=h1.set ho;have eb:b=b'/\o=0:=by rcases e1 with h1|⟨n,cap,_,_,_,_,h1,_⟩<;>rw[h1]at m1<;>simp[cE]at m1;exact m1
 obtain⟨rfl,rfl⟩:=eb;have hv:=hE.ok _ _ hy;obtain⟨u',n1,n2,n3,n4⟩:=F3 hv hst m3 e3;have qG:=hE.ev _ _ hx;rw[e2,Nat.zero_add]at qG;have EC:=nL (m:=HK++X) k1;haveI:oG (HS++(HK++X)) b T' u.cells.toList:=⟨List.mem_of_getElem? EC⟩;haveI:=PU hf hv;haveI:Co (HS++(HK++X)) b u'.cells.toList (HS.set k (.cells b T' u'.cells.toList)++(HK++X)):=⟨k,T',_,EC,by rw[qV k1]⟩;refine qD (n:=(a.eval y).cells.size) (vs:=(a.eval y).cells.toList) (cs':=u'.cells.toList) qG (hE.ev _ _ hy) rfl (by simp) (by simpa using n3) n4 n2.symm a.defers a w next Q hs0 λ_ w' _ hs hp=>?_
 exact hk ρ J [] w' undef (aX.cL _ _) (λ_ h=>h) ⟨_,rfl⟩ (h.zk (k3 (.bT T' IM) _ ⟨b,u',m1,rfl,n1⟩) hs hp)
end Go.Rw
namespace Go.Rw
open Go Go.Bw Go.RowKit
variable {G:Sg} {P:Program} {J J':World->Prop} {ρ ρ':aX}
inductive Sh where
 |v (t:Ty)
 |unk (n:Nat)
 |row (e sz:Nat) (t:Ty)
 |box (T:Nat) (s:Sh)
 |bF (i:Nat)
 |qI
 |iC
 |zC
 |jX
 |Cd
 |fn (f:Fn) (a c:Sh)
 |gS (a:Sh)
 |st (a:Sh)
 |gP (t:Nat) (a:Sh)
 |nil
 |cons (a b:Sh)
 |part (w:Nat) (a b:Sh)
def aK:Sh->List Ty
 | .v t=>[t]
 | .row _ _ t=>[.sl t]
 | .box _ s=>aK s
 | .fn _ a c=>aK a++aK c
 | .gS a=>aK a
 | .st a=>aK a
 | .gP _ a=>aK a
 | .cons a b=>aK a++aK b
 | .part _ a b=>aK a++aK b
 |_ =>[]
def HL(G:Sg):List Ty->Type
 |[]=>Unit
 |t::r=>t.T G×HL G r
def HL.app:{a b:List Ty}->HL G a->HL G b->HL G (a++b)
 |[],_,_,y=>y
 |_ ::_,_,x,y=>(x.1,HL.app x.2 y)
def HL.fst:{a b:List Ty}->HL G (a++b)->HL G a
 |[],_,_ =>()
 |_ ::r,b,x=>(x.1,HL.fst (a:=r) (b:=b) x.2)
def HL.snd:{a b:List Ty}->HL G (a++b)->HL G b
 |[],_,x=>x
 |_ ::r,b,x=>HL.snd (a:=r) (b:=b) x.2
theorem HL.s8:∀{a b:List Ty} (x:HL G a) (y:HL G b),HL.fst (a:=a) (b:=b) (HL.app x y)=x:=by
 intro a
 induction a with
 |nil=>intro b x y;rfl
 |cons t r ih=>intro b x y;exact Prod.ext rfl (ih x.2 y)
theorem HL.sV:∀{a b:List Ty} (x:HL G a) (y:HL G b),HL.snd (a:=a) (b:=b) (HL.app x y)=y:=by
 intro a
 induction a with
 |nil=>intro b x y;rfl
 |cons t r ih=>intro b x y;exact ih x.2 y
def dP(f:Nat->Nat):(s:Sh)->HL G (aK s)->Nat->AV G×Os G×Nat
 | .v t,x,m=>(mk t x.1,[],m)
 | .row e sz t,x,m=>(.row (f m),[(f m, .row e sz t x.1)],m+1)
 | .box T s,x,m=>match dP f s x (m+1)with
  |(v,O,m')=>(.ptr (f m) [],(f m, .bT T v)::O,m')
 | .bF i,_,m=>(.ptr (f i) [],[],m)
 | .unk n,_,m=>(.unk n,[],m)
 | .qI,_,m=>(.qI,[],m)
 | .iC,_,m=>(.iC,[],m)
 | .zC,_,m=>(.zC,[],m)
 | .jX,_,m=>(.jX,[],m)
 | .Cd,_,m=>(.Cd,[],m)
 | .fn k a c,x,m=>match dP f a (HL.fst x) m with
  |(v,O,m')=>match dP f c (HL.snd x) m' with
   |(v',O',m'')=>(.fn k v v',O++O',m'')
 | .gS a,x,m=>match dP f a x m with
  |(v,O,m')=>(.gS v,O,m')
 | .st a,x,m=>match dP f a x m with
  |(v,O,m')=>(.st v,O,m')
 | .gP t a,x,m=>match dP f a x m with
  |(v,O,m')=>(.gP t v,O,m')
 | .nil,_,m=>(.nil,[],m)
 | .cons a b,x,m=>match dP f a (HL.fst x) m with
  |(v,O,m')=>match dP f b (HL.snd x) m' with
   |(v',O',m'')=>(.cons v v',O++O',m'')
 | .part w a b,x,m=>match dP f a (HL.fst x) m with
  |(v,O,m')=>match dP f b (HL.snd x) m' with
   |(v',O',m'')=>(.part w v v',O++O',m'')
def vM:Fn->Fn->Bool
 | .func a, .func b=>Nat.beq a b
 |_,_ =>false
theorem HW{f g:Fn}(h:vM f g=true):f=g:=by
 unfold vM at h;split at h
 ·rw[aiB h]
 ·cases h
structure GS(G:Sg) where
 th:List Nat
 O:Os G
 nx:Nat
def j0:(s:Sh)->AV G->GS G->Option (HL G (aK s)×GS G)
 | .v t,v,g=>match xW t v with
  |some x=>some ((x,()),g)
  |none=>none
 | .row e sz t,v,g=>match v with
  | .row r=>match bY g.O r with
   |some (.row e' sz' t' xs)=>bif Nat.beq e e'&&Nat.beq sz sz' then(if h:t'.bF t=true then some ((Ty.rD h▸xs,()),⟨g.th++[r],tg g.O r,g.nx⟩)else none)else none
   |_ =>none
  | .iC=>bif Nat.beq (t.L G).n sz then some (([],()),⟨g.th++[g.nx],g.O,g.nx+1⟩)else none
  |_ =>none
 | .box T s,v,g=>match v with
  | .ptr r []=>match bY g.O r with
   |some (.bT T' c)=>bif Nat.beq T T' then j0 s c ⟨g.th++[r],tg g.O r,g.nx⟩else none
   |_ =>none
  |_ =>none
 | .bF i,v,g=>match v with
  | .ptr r []=>match g.th[i]? with
   |some r'=>bif Nat.beq r r' then some ((),g)else none
   |none=>none
  |_ =>none
 | .unk n,v,g=>match v with
  | .unk m=>bif Nat.beq n m then some ((),g)else none
  |v=>match v.VF with
   |some m=>bif Nat.beq n m then some ((),g)else none
   |none=>none
 | .qI,v,g=>match v with
  | .qI=>some ((),g)
  |_ =>none
 | .iC,v,g=>match v with
  | .iC=>some ((),g)
  |_ =>none
 | .zC,v,g=>match v with
  | .zC=>some ((),g)
  |_ =>none
 | .jX,v,g=>match v with
  | .jX=>some ((),g)
  |_ =>none
 | .Cd,v,g=>match v with
  | .Cd=>some ((),g)
  |_ =>none
 | .fn f a c,v,g=>match v with
  | .fn f' x y=>bif vM f f' then(match j0 a x g with
   |some (p,g')=>match j0 c y g' with
    |some (q,PE)=>some (HL.app p q,PE)
    |none=>none
   |none=>none)else none
  |_ =>none
 | .gS a,v,g=>match v with
  | .gS x=>j0 a x g
  |_ =>none
 | .st a,v,g=>match v with
  | .st x=>j0 a x g
  |_ =>none
 | .gP t a,v,g=>match v with
  | .gP t' x=>bif Nat.beq t t' then j0 a x g else none
  |_ =>none
 | .nil,v,g=>match v with
  | .nil=>some ((),g)
  |_ =>none
 | .cons a b,v,g=>match v with
  | .cons x y=>match j0 a x g with
   |some (p,g')=>match j0 b y g' with
    |some (q,PE)=>some (HL.app p q,PE)
    |none=>none
   |none=>none
  |_ =>none
 | .part w a b,v,g=>match v with
  | .part w' x y=>bif Nat.beq w w' then(match j0 a x g with
   |some (p,g')=>match j0 b y g' with
    |some (q,PE)=>some (HL.app p q,PE)
    |none=>none
   |none=>none)else none
  |_ =>none
def nf(A B:List aF):Prop:=∀bs n0 w,bq bs n0 A w->bq bs n0 B w
theorem nf.refl(A:List aF):nf A A:=λ_ _ _ h=>h
theorem nf.trans{A B D:List aF}(h:nf A B)(k:nf B D):nf A D:=λbs n w x=>k bs n w (h bs n w x)
theorem nf.gK{A B:List aF}(h:A.Perm B):nf A B:=λ_ _ _ x=>x.gK h
def cmp(ρ:aX)(th:List Nat):aX:=λm=>match th[m]? with
 |some r=>ρ r
 |none=>none
theorem JV{th vi:List Nat}(h:ρ.le ρ')(k:∃q,vi=th++q):(cmp ρ th).le (cmp ρ' vi):=λm v e=>by
 obtain⟨q,rfl⟩:=k;unfold cmp at e ⊢;cases ht:th[m]? with
 |none=>rw[ht]at e;cases e
 |some r=>rw[ht]at e;rw[nL ht];exact h _ _ e
theorem wJ{th:List Nat}{r:Nat}:cmp ρ (th++[r]) th.length=ρ r:=by simp[cmp]
structure Gat(J:World->Prop)(ρ:aX)(s:Sh)(l:List Value)(H:List aF)(g g':GS G)(x:HL G (aK s))(ρ':aX)(HB H':List aF):Prop where
 to:ρ.to ρ' g.nx
 fr:ρ'.fr g'.nx
 nx:g.nx<=g'.nx
 left:RO J ρ' g'.O H'
 pre:∃q,g'.th=g.th++q
 IK:(dP (λm=>m) s x g.th.length).2.2=g'.th.length
 hp:∀R,nf (H++R) (HB++(H'++R))
 val:rl J (cmp ρ' g'.th) (dP (λm=>m) s x g.th.length).1 l
 bT:RO J (cmp ρ' g'.th) (dP (λm=>m) s x g.th.length).2.1 HB
theorem N4{t:Ty}{v:AV G}{x:t.T G}{l:List Value}(h:xW t v=some x)(hv:rl J ρ v l):∃u,l=[u]:=by
 unfold xW at h;split at h
 ·exact⟨_,hv⟩
 ·exact⟨_,hv⟩
 ·exact⟨_,hv⟩
 ·exact⟨_,hv⟩
 ·exact⟨_,hv⟩
 ·obtain⟨u,e,_⟩:=hv;exact⟨u,e⟩
 ·cases h
theorem aX.fr.OT{n:Nat}{r:Nat}{v:Value}(h:ρ.fr n)(e:ρ r=some v):r<n:=by
 rcases Nat.lt_or_ge r n with h1|h1
 ·exact h1
 ·rw[h r h1]at e;cases e
theorem bz{α β:Type}{a x:α}{b y:β}(h:some (a,b)=some (x,y)):a=x/\b=y:=by have h:=Option.some.inj h;exact⟨congrArg Prod.fst h,congrArg Prod.snd h⟩
theorem R3{α:Type}:∀{H:List α} {k:Nat} {x:α},H[k]? =some x->H.Perm (x::H.eraseIdx k):=by
 intro H
 induction H with
 |nil=>intro k x h;cases h
 |cons y r ih=>
  intro k x h;cases k with
  |zero=>simp at h;subst h;exact .refl _
  |succ k=>exact((ih (by simpa using h)).cons y).trans (.swap x y _)
theorem mz{H:List aF}{k:Nat}{x:aF}(h:H[k]? =some x)(R:List aF):(H++R).Perm (x::(H.eraseIdx k++R)):=by exact List.Perm.append_right R (R3 h)
theorem GC{a b:Sh}{H:List aF}{g g1 g2:GS G}{p:HL G (aK a)}{q:HL G (aK b)}{l1 l2:List Value}{ρ:aX}(hf:ρ.fr g.nx)
  (h1:∃ρ' HB H',Gat J ρ a l1 H g g1 p ρ' HB H')(h2:∀(ρ1:aX) (H1:List aF),ρ1.fr g1.nx->ρ.to ρ1 g.nx->RO J ρ1 g1.O H1->∃ρ' HB H',Gat J ρ1 b l2 H1 g1 g2 q ρ' HB H'):
  ∃ρ' HB H',ρ.to ρ' g.nx/\ρ'.fr g2.nx/\g.nx<=g2.nx/\RO J ρ' g2.O H'/\(∃r,g2.th=g.th++r)/\(dP (λm=>m) b q (dP (λm=>m) a p g.th.length).2.2).2.2=g2.th.length/\(∀R,nf (H++R) (HB++(H'++R)))/\
   rl J (cmp ρ' g2.th) (dP (λm=>m) a p g.th.length).1 l1/\rl J (cmp ρ' g2.th) (dP (λm=>m) b q (dP (λm=>m) a p g.th.length).2.2).1 l2/\RO J (cmp ρ' g2.th) ((dP (λm=>m) a p g.th.length).2.1++(dP (λm=>m) b q (dP (λm=>m) a p g.th.length).2.2).2.1) HB:=by
 obtain⟨ρ1,B1,H1,k1⟩:=h1;obtain⟨ρ2,B2,H2,k2⟩:=h2 ρ1 H1 k1.fr k1.to k1.left;have hle:=JV (k2.to.le k1.fr) k2.pre;rw[k1.IK];refine⟨ρ2,B1++B2,H2,k1.to.trans k2.to k1.nx,k2.fr,Nat.le_trans k1.nx k2.nx,k2.left,?_,k2.IK,λR=>?_,k1.val.ext hle,k2.val,(k1.bT.up (λ_ h=>h) hle).app k2.bT⟩
 ·obtain⟨r1,e1⟩:=k1.pre
  obtain⟨r2,e2⟩:=k2.pre;exact⟨r1++r2,by rw[e2,e1,List.append_assoc]⟩
 ·refine(k1.hp R).trans ?_
  have e:(B1++(H1++R)).Perm (H1++(B1++R)):=by rw[← List.append_assoc, ← List.append_assoc];exact List.Perm.append_right R List.perm_append_comm
  refine(nf.gK e).trans ((k2.hp (B1++R)).trans (nf.gK ?_));rw[List.append_assoc B1];have:(B2++(H2++(B1++R))).Perm (B1++(B2++(H2++R))):=by
   have p1:(H2++(B1++R)).Perm (B1++(H2++R)):=by rw[← List.append_assoc, ← List.append_assoc];exact List.Perm.append_right R List.perm_append_comm
   refine(List.Perm.append_left B2 p1).trans ?_;rw[← List.append_assoc, ← List.append_assoc B1];exact List.Perm.append_right _ List.perm_append_comm
  exact this
theorem Pz{t:Ty}{v:AV G}{g g':GS G}{x:HL G (aK (.v t))}(h:j0 (.v t) v g=some (x,g')):∃y,xW t v=some y/\x=(y,())/\g'=g:=by
 unfold j0 at h;cases hy:xW t v with
 |none=>rw[hy]at h;cases h
 |some y=>rw[hy]at h;obtain⟨e1,e2⟩:=bz h;exact⟨y,rfl,e1.symm,e2.symm⟩
theorem GA{n:Nat}{v:AV G}{g g':GS G}{x:HL G (aK (.unk n))}(h:j0 (.unk n) v g=some (x,g')):g'=g/\∀{J:World->Prop} {ρ:aX} {l:List Value},rl J ρ v l->∃u:Value,l=[u]/\u.cells.size=n:=by
 unfold j0 at h;split at h
 ·rename_i m
  cases hb:Nat.beq n m with
  |false=>rw[hb]at h;cases h
  |true=>rw[hb]at h;obtain rfl:=aiB hb;exact⟨(bz h).2.symm,λhr=>hr⟩
 ·split at h
  ·rename_i m hm
   cases hb:Nat.beq n m with
   |false=>rw[hb]at h;cases h
   |true=>rw[hb]at h;obtain rfl:=aiB hb;exact⟨(bz h).2.symm,λhr=>by obtain⟨u,e1,e2,_⟩:=Jq hm hr;exact⟨u,e1,e2⟩⟩
  ·cases h
theorem DQ:∀{s:Sh} {v:AV G} {l:List Value} {H:List aF} {g g':GS G} {x:HL G (aK s)} {ρ:aX},j0 s v g=some (x,g')->rl J ρ v l->RO J ρ g.O H->ρ.fr g.nx->∃ρ' HB H',Gat J ρ s l H g g' x ρ' HB H':=by
 intro s
 induction s with
 |v t=>
  intro v l H g g' x ρ h hv hO hf;obtain⟨y,hy,rfl,rfl⟩:=Pz h;obtain⟨u,rfl⟩:=N4 hy hv;refine⟨ρ,[],H,⟨aX.cL _ _,hf,Nat.le_refl _,hO,⟨[],by simp⟩,?_,λR=>nf.refl _,?_,?_⟩⟩<;>simp only[dP]
  ·exact Fg ((wE hy hv))
  ·exact .nil
 |row e sz t=>
  intro v l H g g' x ρ h hv hO hf;cases v<;>unfold j0 at h<;>(try dsimp only at h)<;>try (cases h;done)
  case row r=>
   split at h
   ·rename_i e' sz' t' xs ho
    cases hb:(Nat.beq e e'&&Nat.beq sz sz')with
    |false=>rw[hb]at h;cases h
    |true=>
     rw[hb]at h;simp only[cond_true]at h;by_cases hs:t'.bF t=true
     ·rw[dif_pos hs]at h
      obtain⟨e1,rfl⟩:=bz h;simp only[aiC]at hb;obtain rfl:=aiB hb.1;obtain rfl:=aiB hb.2;have:=Ty.rD hs;subst this;subst e1;obtain⟨k,y,k1,k2,k3⟩:=hO.S6 ho;refine⟨ρ,[y],H.eraseIdx k,aX.cL _ _,hf,Nat.le_refl _,k3,⟨[r],rfl⟩,by simp[dP],λR=>nf.gK (mz k1 R),?_, .cons ?_ .nil⟩
      ·obtain⟨a0,n,cap,e1,e2⟩:=hv
       exact⟨a0,n,cap,wJ.trans e1,e2⟩
      ·obtain⟨vv,ws,e1,e2,e3,e4,e5⟩:=k2
       exact⟨vv,ws,wJ.trans e1,e2,e3,e4,e5⟩
     ·rw[dif_neg hs]at h;cases h
   ·cases h
  case iC=>
   cases hb:Nat.beq (t.L G).n sz with
   |false=>rw[hb]at h;cases h
   |true=>
    rw[hb]at h;obtain⟨rfl,rfl⟩:=bz h;have hsz:=aiB hb;have hle:=(aX.g6 ρ g.nx (.slice none 0 0)).le hf;refine⟨ρ.set g.nx (.slice none 0 0),[.row (.slice none 0 0) e sz 0 []],H,aX.g6 _ _ _,aX.sW hf _,Nat.le_succ _,hO.up (λ_ h=>h) hle,⟨[g.nx],rfl⟩,by simp[dP],λR bs n0 w hp=>wI hp,?_, .cons ?_ .nil⟩
    ·have hv:l=[.slice none 0 0]:=hv
     exact⟨none,0,0,wJ.trans (aX.eP _ _ _),hv⟩
    ·exact⟨.slice none 0 0,[],wJ.trans (aX.eP _ _ _),rfl,⟨_,_,rfl⟩,⟨λ_ =>[],rfl,λi hi=>absurd hi (Nat.not_lt_zero _)⟩,hsz⟩
 |box T s ih=>
  intro v l H g g' x ρ h hv hO hf;cases v<;>unfold j0 at h<;>(try dsimp only at h)<;>try (cases h;done)
  case ptr r p=>
   cases p with
   |cons _ _ =>simp at h
   |nil=>
    simp only at h;split at h
    ·rename_i T' cc ho
     cases hb:Nat.beq T T' with
     |false=>rw[hb]at h;cases h
     |true=>
      rw[hb]at h;obtain rfl:=aiB hb;obtain⟨k,y,k1,⟨b,u,m1,rfl,m3⟩,k3⟩:=hO.S6 ho;obtain⟨ρ1,B1,H1,i1⟩:=ih h m3 k3 hf;have hr:=hf.OT m1;have hth:g'.th[g.th.length]? =some r:=by obtain⟨q,e⟩:=i1.pre;rw[e];simp
      have JH:cmp ρ1 g'.th g.th.length=some (cE b 0):=by unfold cmp;rw[hth];exact(i1.to r hr).trans m1
      have e1:(g.th++[r]).length=g.th.length+1:=by simp
      have i2:=i1.IK;have i3:=i1.val;have i4:=i1.bT;rw[e1]at i2 i3 i4;refine⟨ρ1, .cells b T u.cells.toList::B1,H1,i1.to,i1.fr,i1.nx,i1.left,?_,i2,λR=>?_,?_, .cons ⟨b,u,JH,rfl,i3⟩ i4⟩
      ·obtain⟨q,e⟩:=i1.pre
       exact⟨r::q,by rw[e];simp⟩
      ·refine(nf.gK (mz k1 R)).trans ?_
       refine(nf.gK (List.perm_middle (a:=aF.cells b T u.cells.toList) (l₁:=H.eraseIdx k) (l₂:=R)).symm).trans ?_;refine(i1.hp (.cells b T u.cells.toList::R)).trans (nf.gK ?_);refine(List.Perm.append_left B1 (List.perm_middle (a:=aF.cells b T u.cells.toList) (l₁:=H1) (l₂:=R))).trans ?_;exact List.perm_middle
      ·obtain⟨⟨b',o',q1,q2⟩,_⟩:=hv
       refine⟨⟨b,0, .inl JH,?_⟩,by simp⟩;rcases q1 with q1|⟨_,_,_,_,_,_,_,q1,_⟩
       ·rw[q1]at m1
        simp[cE]at m1;rw[q2,m1.1,m1.2]
       ·cases q1
    ·cases h
 |bF i=>
  intro v l H g g' x ρ h hv hO hf;cases v<;>unfold j0 at h<;>(try dsimp only at h)<;>try (cases h;done)
  case ptr r p=>
   cases p with
   |cons _ _ =>simp at h
   |nil=>
    simp only at h;split at h
    ·rename_i r' ht
     cases hb:Nat.beq r r' with
     |false=>rw[hb]at h;cases h
     |true=>
      rw[hb]at h;obtain⟨rfl,rfl⟩:=bz h;obtain rfl:=aiB hb;refine⟨ρ,[],H,aX.cL _ _,hf,Nat.le_refl _,hO,⟨[],by simp⟩,rfl,λR=>nf.refl _,?_, .nil⟩;obtain⟨⟨b',o',q1,q2⟩,q3⟩:=hv;refine⟨⟨b',o',?_,q2⟩,q3⟩;rcases q1 with q1|⟨_,_,_,_,_,_,_,q1,_⟩
      ·refine .inl ?_
       unfold cmp;rw[ht];exact q1
      ·cases q1
    ·cases h
 |unk n=>intro v l H g g' x ρ h hv hO hf;obtain⟨rfl,hu⟩:=GA h;exact⟨ρ,[],H,aX.cL _ _,hf,Nat.le_refl _,hO,⟨[],by simp⟩,rfl,λR=>nf.refl _,hu hv, .nil⟩
 |qI=>
  intro v l H g g' x ρ h hv hO hf;cases v<;>unfold j0 at h<;>(try dsimp only at h)<;>try (cases h;done)
  obtain⟨rfl,rfl⟩:=bz h;exact⟨ρ,[],H,aX.cL _ _,hf,Nat.le_refl _,hO,⟨[],by simp⟩,rfl,λR=>nf.refl _,hv, .nil⟩
 |iC=>
  intro v l H g g' x ρ h hv hO hf;cases v<;>unfold j0 at h<;>(try dsimp only at h)<;>try (cases h;done)
  obtain⟨rfl,rfl⟩:=bz h;exact⟨ρ,[],H,aX.cL _ _,hf,Nat.le_refl _,hO,⟨[],by simp⟩,rfl,λR=>nf.refl _,hv, .nil⟩
 |zC=>
  intro v l H g g' x ρ h hv hO hf;cases v<;>unfold j0 at h<;>(try dsimp only at h)<;>try (cases h;done)
  obtain⟨rfl,rfl⟩:=bz h;exact⟨ρ,[],H,aX.cL _ _,hf,Nat.le_refl _,hO,⟨[],by simp⟩,rfl,λR=>nf.refl _,hv, .nil⟩
 |jX=>
  intro v l H g g' x ρ h hv hO hf;cases v<;>unfold j0 at h<;>(try dsimp only at h)<;>try (cases h;done)
  obtain⟨rfl,rfl⟩:=bz h;exact⟨ρ,[],H,aX.cL _ _,hf,Nat.le_refl _,hO,⟨[],by simp⟩,rfl,λR=>nf.refl _,hv, .nil⟩
 |Cd=>
  intro v l H g g' x ρ h hv hO hf;cases v<;>unfold j0 at h<;>(try dsimp only at h)<;>try (cases h;done)
  obtain⟨rfl,rfl⟩:=bz h;exact⟨ρ,[],H,aX.cL _ _,hf,Nat.le_refl _,hO,⟨[],by simp⟩,rfl,λR=>nf.refl _,hv, .nil⟩
 |nil=>
  intro v l H g g' x ρ h hv hO hf;cases v<;>unfold j0 at h<;>(try dsimp only at h)<;>try (cases h;done)
  obtain⟨rfl,rfl⟩:=bz h;exact⟨ρ,[],H,aX.cL _ _,hf,Nat.le_refl _,hO,⟨[],by simp⟩,rfl,λR=>nf.refl _,hv, .nil⟩
 |fn f a c jE zI=>
  intro v l H g g' x ρ h hv hO hf;cases v<;>unfold j0 at h<;>(try dsimp only at h)<;>try (cases h;done)
  case fn f' y z=>
   cases hb:vM f f' with
   |false=>rw[hb]at h;cases h
   |true=>
    rw[hb]at h;simp only[cond_true]at h;obtain rfl:=HW hb;split at h
    ·rename_i p g1 h1
     split at h
     ·rename_i q g2 h2
      obtain⟨rfl,rfl⟩:=bz h;obtain⟨fs,cs,e,r1,r2⟩:=hv;obtain⟨ρ',HB,H',k1,k2,k3,k4,k5,k6,k7,k8,k9,k10⟩:=GC (b:=c) (q:=q) hf (jE h1 r1 hO hf) λρ1 H1 f1 t1 o1=>zI h2 (r2.ext (t1.le hf)) o1 f1;refine⟨ρ',HB,H',k1,k2,k3,k4,k5,?_,k7,?_,?_⟩<;>simp only[dP,HL.s8,HL.sV]
      ·exact k6
      ·exact⟨fs,cs,e,k8,k9⟩
      ·exact k10
     ·cases h
    ·cases h
 |cons a b jE oD=>
  intro v l H g g' x ρ h hv hO hf;cases v<;>unfold j0 at h<;>(try dsimp only at h)<;>try (cases h;done)
  case cons y z=>
   split at h
   ·rename_i p g1 h1
    split at h
    ·rename_i q g2 h2
     obtain⟨rfl,rfl⟩:=bz h;obtain⟨u,r,e,r1,r2⟩:=hv;obtain⟨ρ',HB,H',k1,k2,k3,k4,k5,k6,k7,k8,k9,k10⟩:=GC (b:=b) (q:=q) hf (jE h1 r1 hO hf) λρ1 H1 f1 t1 o1=>oD h2 (r2.ext (t1.le hf)) o1 f1;refine⟨ρ',HB,H',k1,k2,k3,k4,k5,?_,k7,?_,?_⟩<;>simp only[dP,HL.s8,HL.sV]
     ·exact k6
     ·exact⟨u,r,e,k8,k9⟩
     ·exact k10
    ·cases h
   ·cases h
 |part w a b jE oD=>
  intro v l H g g' x ρ h hv hO hf;cases v<;>unfold j0 at h<;>(try dsimp only at h)<;>try (cases h;done)
  case part w' y z=>
   cases hb:Nat.beq w w' with
   |false=>rw[hb]at h;cases h
   |true=>
    rw[hb]at h;simp only[cond_true]at h;obtain rfl:=aiB hb;split at h
    ·rename_i p g1 h1
     split at h
     ·rename_i q g2 h2
      obtain⟨rfl,rfl⟩:=bz h;obtain⟨c1,c2,u,e,r0,r1,r3,r2⟩:=hv;obtain⟨ρ',HB,H',k1,k2,k3,k4,k5,k6,k7,k8,k9,k10⟩:=GC (b:=b) (q:=q) hf (jE h1 r1 hO hf) λρ1 H1 f1 t1 o1=>oD h2 (r2.ext (t1.le hf)) o1 f1;refine⟨ρ',HB,H',k1,k2,k3,k4,k5,?_,k7,?_,?_⟩<;>simp only[dP,HL.s8,HL.sV]
      ·exact k6
      ·exact⟨c1,c2,u,e,r0,k8,r3,k9⟩
      ·exact k10
     ·cases h
    ·cases h
 |gS a ih=>
  intro v l H g g' x ρ h hv hO hf;cases v<;>unfold j0 at h<;>(try dsimp only at h)<;>try (cases h;done)
  case gS y=>obtain⟨vs,e,r1⟩:=hv;obtain⟨ρ',HB,H',k⟩:=ih h r1 hO hf;exact⟨ρ',HB,H',k.to,k.fr,k.nx,k.left,k.pre,k.IK,k.hp,⟨vs,e,k.val⟩,k.bT⟩
 |st a ih=>
  intro v l H g g' x ρ h hv hO hf;cases v<;>unfold j0 at h<;>(try dsimp only at h)<;>try (cases h;done)
  case st y=>obtain⟨cs,e,r1,r2⟩:=hv;obtain⟨ρ',HB,H',k⟩:=ih h r1 hO hf;exact⟨ρ',HB,H',k.to,k.fr,k.nx,k.left,k.pre,k.IK,k.hp,⟨cs,e,k.val,r2⟩,k.bT⟩
 |gP t a ih=>
  intro v l H g g' x ρ h hv hO hf;cases v<;>unfold j0 at h<;>(try dsimp only at h)<;>try (cases h;done)
  case gP t' y=>
   cases hb:Nat.beq t t' with
   |false=>rw[hb]at h;cases h
   |true=>rw[hb]at h;obtain rfl:=aiB hb;obtain⟨u,e,r1⟩:=hv;obtain⟨ρ',HB,H',k⟩:=ih h r1 hO hf;exact⟨ρ',HB,H',k.to,k.fr,k.nx,k.left,k.pre,k.IK,k.hp,⟨u,e,k.val⟩,k.bT⟩
end Go.Rw
