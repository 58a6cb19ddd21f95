/- Part 4 of what a proof leans on; pruned and shortened by a program out of longer texts. -/
import Derived.Test.YtgdmofhmmhcmjaaGreatDoorQ3
namespace Go.Rw
open Go Go.Bw Go.RowKit
variable {G:Sg}
inductive MU(α:Type) where
 |dY
 |eo (k:Nat) (v:α) (l r:MU α)
def MU.find{α:Type}:MU α->Nat->Option α
 | .dY,_ =>none
 | .eo k v l r,d=>bif Nat.beq k d then some v else bif Nat.blt d k then l.find d else r.find d
def MU.all{α:Type}(p:Nat->α->Bool):MU α->Bool
 | .dY=>true
 | .eo k v l r=>p k v&&(l.all p&&r.all p)
theorem MU.VV{α:Type}{p:Nat->α->Bool}:∀{t:MU α} {d:Nat} {v:α},t.all p=true->t.find d=some v->p d v=true:=by
 intro t
 induction t with
 |dY=>intro d v _ h;cases h
 |eo k v0 l r ihl ihr=>
  intro d v ha h;simp only[MU.all,aiP]at ha;simp only[MU.find]at h;cases h1:Nat.beq k d with
  |true=>rw[h1]at h;cases h;rw[← aiO h1];exact ha.1
  |false=>
   rw[h1]at h;simp only[cond_false]at h;cases h2:Nat.blt d k with
   |true=>rw[h2]at h;exact ihl ha.2.1 h
   |false=>rw[h2]at h;exact ihr ha.2.2 h
inductive TE where
 |int (k:IntKind)
 |bool
 |one
 |ptr
 |sl (e sz bytes:Nat)
 |lK (n e sz Lx:Nat)
 |st (eJ:List (Nat×Option Nat)) (Lx:Nat)
def JA(P:Program)(t j o:Nat)(w:Option Nat):Bool:=Hq P t j o&&match P.underlying t with
 |some (.struct fs)=>match fs[j]? with
  |some fl=>Nat.beq fl.offset o&&(match w with
   |none=>ri P fl.type
   |some n=>DW P fl.type n)
  |none=>false
 |_ =>false
def Ks(P:Program)(t:Nat):List (Nat×Option Nat)->Nat->Bool
 |[],_ =>true
 |o::r,j=>JA P t j o.1 o.2&&Ks P t r (j+1)
def AP(P:Program)(t:Nat):TE->Bool
 | .int k=>(match P.underlying t with
  |some (.int l)=>Nat.beq (Ty.bU.ik k) (Ty.bU.ik l)
  |_ =>false)&&ri P t
 | .bool=>(match P.underlying t with
  |some .bool=>true
  |_ =>false)&&ri P t
 | .one=>ri P t
 | .ptr=>ri P t&&ED P t
 | .sl e sz b=>ri P t&&(Qb P t e sz b&&EC P t e sz)
 | .lK n e sz Lx=>Hr P t n e sz&&DW P t Lx
 | .st eJ Lx=>Ks P t eJ 0&&DW P t Lx
structure TT(P:Program)(G:Sg) where
 F:OP G
 te:MU TE
 ok:te.all (AP P)=true
section
variable {P:Program} {tt:TT P G}
theorem TT.get{t:Nat}{e:TE}(h:tt.te.find t=some e):AP P t e=true:=MU.VV tt.ok h
theorem TT.int{t:Nat}{k:IntKind}(h:tt.te.find t=some (.int k)):Ww P t k/\p8 P t:=by
 have:=tt.get h;simp only[AP,aiP]at this;refine⟨⟨?_⟩,⟨this.2⟩⟩;have h1:=this.1;split at h1
 ·rename_i l hl;rw[GM h1];exact hl
 ·cases h1
theorem TT.bool{t:Nat}(h:tt.te.find t=some .bool):Wx P t/\p8 P t:=by
 have:=tt.get h;simp only[AP,aiP]at this;refine⟨⟨?_⟩,⟨this.2⟩⟩;have h1:=this.1;split at h1
 ·assumption
 ·cases h1
def TE.sz:TE->Option Nat
 | .lK _ _ _ n=>some n
 | .st _ n=>some n
 |_ =>none
theorem TT.one{t:Nat}{e:TE}(h:tt.te.find t=some e)(hs:e.sz=none):p8 P t:=by have:=tt.get h;cases e<;>simp only[AP,aiP]at this<;>first|exact⟨this⟩|exact⟨this.1⟩|exact⟨this.2⟩|simp[TE.sz]at hs
theorem TT.agg{t n:Nat}{e:TE}(h:tt.te.find t=some e)(hs:e.sz=some n):tY P t n:=by have:=tt.get h;cases e<;>simp only[TE.sz,Option.some.injEq]at hs<;>first|(subst hs;simp only[AP,aiP]at this;exact⟨this.2⟩)|cases hs
theorem TT.sl{t e sz b:Nat}(h:tt.te.find t=some (.sl e sz b)):se P t e sz/\Lp P t e sz b:=by have:=tt.get h;simp only[AP,aiP]at this;exact⟨⟨this.2.2⟩,⟨this.2.1⟩⟩
theorem TT.lK{t n e sz Lx:Nat}(h:tt.te.find t=some (.lK n e sz Lx)):so P t n e sz:=by have:=tt.get h;simp only[AP,aiP]at this;exact⟨this.1⟩
theorem NK:∀{l:List (Nat×Option Nat)} {i j:Nat} {o:Nat×Option Nat} {t:Nat},Ks P t l i=true->l[j]? =some o->JA P t (i+j) o.1 o.2=true:=by
 intro l
 induction l with
 |nil=>intro i j o t _ h;cases h
 |cons x r ih=>
  intro i j o t h hj;simp only[Ks,aiP]at h;cases j with
  |zero=>simp at hj;subst hj;exact h.1
  |succ j=>have:=ih h.2 (by simpa using hj);rwa[Nat.add_right_comm,Nat.add_assoc]at this
theorem TT.fs{t n j:Nat}{o:Nat×Option Nat}{eJ:List (Nat×Option Nat)}(h:tt.te.find t=some (.st eJ n))(hj:eJ[j]? =some o):JA P t j o.1 o.2=true:=by have:=tt.get h;simp only[AP,aiP]at this;have:=NK this.1 hj;rwa[Nat.zero_add]at this
theorem TT.C6{t n j:Nat}{o:Nat×Option Nat}{eJ:List (Nat×Option Nat)}(h:tt.te.find t=some (.st eJ n))(hj:eJ[j]? =some o):Ff P t j o.1:=by have:=tt.fs h hj;unfold JA at this;rw[aiP]at this;exact⟨this.1⟩
theorem TT.ptr{t:Nat}(h:tt.te.find t=some .ptr):ED P t=true:=by have:=tt.get h;simp only[AP,aiP]at this;exact this.2
end
def FF(k l:IntKind):Bool:=Nat.beq (Ty.bU.ik k) (Ty.bU.ik l)
theorem yS{k l:IntKind}(h:FF k l=true):k=l:=GM h
abbrev PV(G:Sg):=Option (List Bool×AV G)
def VN(l b:Bool):List Bool:=bif l then(bif b then[]else[b])else[b]
theorem CM{l b:Bool}(h:∀x∈VN l b,x=true):b=true:=by
 unfold VN at h;cases l with
 |false=>exact h b (by simp)
 |true=>cases b with
  |true=>rfl
  |false=>exact h false (by simp)
def TS(o:BinOp)(k:IntKind)(x y:Int)(q:Bool):PV G:=match o with
 | .add=>some ([], .int k (wr k (x+y)))
 | .sub=>some ([], .int k (wr k (x-y)))
 | .mul=>some ([], .int k (wr k (x*y)))
 | .quo=>some (VN q (y !=0), .int k (wr k (Int.tdiv x y)))
 | .rem=>some (VN q (y !=0), .int k (Int.tmod x y))
 | .and=>some ([], .int k (rZ k x y))
 | .or=>some ([], .int k (orI k x y))
 | .xor=>some ([], .int k (Xp k x y))
 | .andNot=>some ([], .int k (zT k x y))
 | .eql=>some ([], .bool (x==y))
 | .neq=>some ([], .bool (x !=y))
 | .lss=>some ([], .bool (decide (x<y)))
 | .leq=>some ([], .bool (decide (x<=y)))
 | .gtr=>some ([], .bool (decide (y<x)))
 | .geq=>some ([], .bool (decide (y<=x)))
 |_ =>none
def UE:AV G->Option Bool
 | .ptr _ _ =>some true
 | .ou=>some false
 |_ =>none
def ZN:AV G->Option Bool
 | .bool b=>some b
 | .kb b=>some b
 |_ =>none
def T3{P:Program}(tt:TT P G)(o:BinOp)(T:Nat)(a b:AV G):PV G:=match ZN a,ZN b with
 |some x,some y=>match o,tt.te.find T with
  | .eql,some .bool=>some ([], .bool (x==y))
  | .neq,some .bool=>some ([], .bool (x !=y))
  |_,_ =>none
 |_,_ =>match a,b with
 |a, .ou=>match UE a,o,tt.te.find T with
  |some b, .eql,some .ptr=>some ([], .bool (!b))
  |some b, .neq,some .ptr=>some ([], .bool b)
  |_,_,_ =>none
 |_,_ =>none
def asI:AV G->Option (IntKind×Int×Bool)
 | .int k n=>some (k,n,false)
 | .lit k n=>some (k,n,true)
 |_ =>none
def aat(o:BinOp)(k:IntKind)(x:Int)(l:IntKind)(y:Int)(q:Bool):PV G:=match o with
 | .shl=>some (VN q (decide (0<=y)), .int k (Ke k x y))
 | .shr=>some (VN q (decide (0<=y)), .int k (Ae k x y))
 |_ =>bif FF k l then TS o k x y q else none
def T4{P:Program}(tt:TT P G)(o:BinOp)(T:Nat)(a b:AV G):PV G:=match asI a,asI b with
 |some (k,x,_),some (l,y,q)=>aat o k x l y q
 |_,_ =>T3 tt o T a b
section
variable {P:Program} {J:World->Prop} {ρ:aY} {a:Act} {w:World} {d:Option Tmp} {ty:TypeId} {ps:String} {af:Array Edge} {g:Option (Nat×Bool)}
def VOk(P:Program)(J:World->Prop)(ρ:aY)(a:Act)(w:World)(o:Oper)(v:AV G):Prop:=∃u,(execOp a.eval o).run P w= .ok (.value u) w/\rv J ρ v u
theorem TR{o:BinOp}{T U:Nat}{k:IntKind}{x y:Int}{p q:Operand}{gs:List Bool}{v:AV G}{qq:Bool}(h:TS o k x y qq=some (gs,v))(hg:∀b∈gs,b=true)(hx:a.eval p= .int k x)(hy:a.eval q= .int k y):
  VOk P J ρ a w ⟨d, .binOp o T p q U,ty,ps,af,g⟩ v:=by
 cases o<;>simp only[TS,reduceCtorEq,Option.some.injEq,Prod.mk.injEq]at h
 case add=>obtain⟨rfl,rfl⟩:=h;exact⟨_,by simp[execOp,hx,hy,eqGuard,binOp,Op.intArith],rfl⟩
 case sub=>obtain⟨rfl,rfl⟩:=h;exact⟨_,by simp[execOp,hx,hy,eqGuard,binOp,Op.intArith],rfl⟩
 case mul=>obtain⟨rfl,rfl⟩:=h;exact⟨_,by simp[execOp,hx,hy,eqGuard,binOp,Op.intArith],rfl⟩
 case quo=>obtain⟨rfl,rfl⟩:=h;have h0:y≠0:=(by simpa using CM hg);exact⟨_,by simp[execOp,hx,hy,eqGuard,binOp,Op.intDiv,h0],rfl⟩
 case rem=>obtain⟨rfl,rfl⟩:=h;have h0:y≠0:=(by simpa using CM hg);exact⟨_,by simp[execOp,hx,hy,eqGuard,binOp,Op.intDiv,h0],rfl⟩
 case and=>obtain⟨rfl,rfl⟩:=h;exact⟨.int k (rZ k x y),by simp[execOp,hx,hy,eqGuard,binOp,Op.intBits,rZ],rfl⟩
 case or=>obtain⟨rfl,rfl⟩:=h;exact⟨.int k (orI k x y),by simp[execOp,hx,hy,eqGuard,binOp,Op.intBits,orI],rfl⟩
 case xor=>obtain⟨rfl,rfl⟩:=h;exact⟨.int k (Xp k x y),by simp[execOp,hx,hy,eqGuard,binOp,Op.intBits,Xp],rfl⟩
 case andNot=>obtain⟨rfl,rfl⟩:=h;exact⟨.int k (zT k x y),by simp[execOp,hx,hy,eqGuard,binOp,Op.intBits,zT],rfl⟩
 case eql=>obtain⟨rfl,rfl⟩:=h;exact⟨_,by simp[execOp,hx,hy,eqGuard,binOp,Op.intCmp],rfl⟩
 case neq=>obtain⟨rfl,rfl⟩:=h;exact⟨_,by simp[execOp,hx,hy,eqGuard,binOp,Op.intCmp],rfl⟩
 case lss=>obtain⟨rfl,rfl⟩:=h;exact⟨_,by simp[execOp,hx,hy,eqGuard,binOp,Op.intCmp],rfl⟩
 case leq=>obtain⟨rfl,rfl⟩:=h;exact⟨_,by simp[execOp,hx,hy,eqGuard,binOp,Op.intCmp],rfl⟩
 case gtr=>obtain⟨rfl,rfl⟩:=h;exact⟨_,by simp[execOp,hx,hy,eqGuard,binOp,Op.intCmp],rfl⟩
 case geq=>obtain⟨rfl,rfl⟩:=h;exact⟨_,by simp[execOp,hx,hy,eqGuard,binOp,Op.intCmp],rfl⟩
theorem I5{b:Bool}{u:Value}(h:rv (G:=G) J ρ (.kb b) u):u= .bool b:=by have h:[u]=_ :=h;cases h;rfl
theorem Br{v:AV G}{b:Bool}{u:Value}(h:ZN v=some b)(hv:rv J ρ v u):u= .bool b:=by unfold ZN at h;split at h<;>cases h<;>(have hv:[u]=_ :=hv;cases hv;rfl)
theorem zJ{b:Bool}{u:Value}(h:rv (G:=G) J ρ (.bool b) u):u= .bool b:=by have h:[u]=_ :=h;cases h;rfl
theorem Md{v:AV G}{b:Bool}{u:Value}(h:UE v=some b)(hv:rv J ρ v u):(b=true->∃x y,u= .pointer (some ⟨x,y,none⟩))/\(b=false->u= .pointer none):=by
 unfold UE at h;split at h
 ·cases h;obtain⟨⟨x,y,_,e⟩,_⟩:=hv;cases e;exact⟨λ_ =>⟨_,_,rfl⟩,nofun⟩
 ·cases h;have e:[u]=_ :=hv;cases e;exact⟨nofun,λ_ =>rfl⟩
 ·cases h
def ng(a:Act):eu:=(List.range a.tmps.size).map λd=>(d,a.tmps.getD d undef)
theorem Ep{t:Array Value}:∀{l:List Nat} {d:Nat},lk (l.map λd=>(d,t.getD d undef)) d=if d∈l then some (t.getD d undef)else none:=by
 intro l
 induction l with
 |nil=>intro d;simp[lk]
 |cons x r ih=>
  intro d;simp only[List.map_cons,lk];by_cases e:x=d
  ·subst e;simp
  ·rw[tM e,cond_false,ih]
   simp[Ne.symm e]
theorem FH(a:Act):xV (ng a) a.tmps:=λd v h=>by
 unfold ng at h;rw[Ep]at h;split at h
 ·rename_i hm
  have hd:d<a.tmps.size:=by simpa using hm
  have h:=Option.some.inj h;rw[← h];simp[hd]
 ·cases h
theorem PE{a:Act}{x:Operand}(h:∀t,x= .tmp t->t<a.tmps.size)(hg:∀g,x≠ .global g):Bw.ev (ng a) x=some (a.eval x):=by
 cases x with
 |tmp t=>have:=h t rfl;show lk (ng a) t=_;unfold ng;rw[Ep,aiM (by simpa using this)];rfl
 |const v=>rfl
 |global g=>exact absurd rfl (hg g)
 |func f=>rfl
def VK(P:Program)(c:Cx)(o:Oper)(a:Act)(w:World)(u:Value):Prop:=∀next Q,(∀w',aO [] w w'->next (a.put o.dst u) w')->o.wpIn (FA c.ro) 0 P a w next Q
theorem VK.run{c:Cx}{o:Oper}{u:Value}(hd:∀cc,o.op≠ .defer cc)(h:(execOp a.eval o).run P w= .ok (.value u) w):VK P c o a w u:=λ_ _ hk=>dJ hd h (hk w (aO.refl _ _))
theorem _root_.Go.Bw.VS.vk{N:Nat}{c:Cx}{D:List Deferred}{o:Oper}{F:eu}{H:List aE}{u:Value}(h:VS P N c o F H u)(hst:St N c D F H a w):VK P c o a w u:=λnext Q hk=>h D a w next Q hst hk
structure zD(J:World->Prop)(ρ:aY)(a:Act)(E:Operand->Option (AV G)):Prop where
 ok:∀x v,E x=some v->rv J ρ v (a.eval x)
 ev:∀x v,E x=some v->Bw.ev (ng a) x=some (a.eval x)
def M6(E:Operand->Option (AV G)):List Operand->Option (AV G)
 |[]=>some .nil
 |x::r=>match E x,M6 E r with
  |some v,some l=>some (.cons v l)
  |_,_ =>none
theorem uX{E:Operand->Option (AV G)}(h:zD J ρ a E):∀{l:List Operand} {v:AV G},M6 E l=some v->rl J ρ v (l.map a.eval)/\C7 (ng a) l=some (l.map a.eval):=by
 intro l
 induction l with
 |nil=>intro v e;cases e;exact⟨rfl,rfl⟩
 |cons x r ih=>
  intro v e;simp only[M6]at e;split at e
  ·rename_i u k h1 h2
   cases e;obtain⟨i1,i2⟩:=ih h2;refine⟨⟨_,_,rfl,h.ok _ _ h1,i1⟩,?_⟩;simp only[C7,h.ev _ _ h1,i2,List.map_cons]
  ·cases e
def Q4:AV G->Nat->Option (AV G)
 | .cons a b,i=>match i with
  |0=>some a
  |i+1=>Q4 b i
 |_,_ =>none
theorem Ku:∀{v:AV G} {i:Nat} {x:AV G} {l:List Value},Q4 v i=some x->rl J ρ v l->∃u,l[i]? =some u/\rv J ρ x u:=by
 intro v
 induction v with
 |cons a b _ q9=>
  intro i x l h hr;obtain⟨u,r,rfl,h1,h2⟩:=hr;cases i with
  |zero=>cases h;exact⟨u,rfl,h1⟩
  |succ i=>obtain⟨u',k1,k2⟩:=q9 (i:=i) h h2;exact⟨u',by simpa using k1,k2⟩
 |_ =>intro i x l h;cases i<;>cases h
def mz(v:Option (AV G)):Option (IntKind×Int×Bool):=match v with
 |some v=>asI v
 |none=>none
def abG{P:Program}(tt:TT P G)(ob:Nat->Option (Ob G))(T:Nat)(v:AV G)(i:Int)(q:Bool):PV G:=match v,tt.te.find T with
 | .ptr r p,some (.lK n _ sz _)=>some (VN q (dg i n), .ptr r (p++[.idx n sz i]))
 | .Xl e xs p,some (.lK n _ sz _)=>some (VN q (dg i n), .Xl e xs (p++[.idx n sz i]))
 | .row r,some (.sl _ sz _)=>match ob r with
  |some (.row _ sz' _ xs)=>bif Nat.beq sz sz' then some ([dg i xs.length], .ptr r [.idx xs.length sz i])else none
  |_ =>none
 | .dat (.sl e) xs,some (.sl _ sz _)=>bif Nat.beq sz (e.L G).n then some ([dg i (xs:List (e.T G)).length], .Xl e xs [.idx (xs:List (e.T G)).length sz i])else none
 | .jD,_ =>some ([dg i 0], .gd 0 true .OX)
 | .Dz r p m sz false i0,some (.sl _ sz' _)=>bif (Nat.beq sz 1&&Nat.beq sz' 1)&&(Nat.beq i0.toNat m&&dg i m)then some ([], .ptr r (p++[.C6 0 i.toNat]))else none
 |_,_ =>none
def UY:List sq->Nat->Bool
 | .idx _ sz _ ::_,n=>Nat.beq sz n
 |_,_ =>false
def abF{P:Program}(tt:TT P G)(ob:Nat->Option (Ob G)):AV G->Option (AV G)
 | .ptr r p=>match ob r with
  |some (.cH _ c)=>Jr tt.F c p
  |some (.row _ sz t xs)=>bif UY p sz then(match Gr tt.F t p with
   |some q=>some (mk q.m (q.get (xs.getD q.i.toNat default)))
   |none=>none)else none
  |_ =>none
 | .Xl e xs p=>match Gr tt.F e p with
  |some q=>some (mk q.m (q.get (xs.getD q.i.toNat default)))
  |none=>none
 |_ =>none
def AV.cw:AV G->Option Nat
 | .dat t _ =>bif t.ag then some (t.L G).n else none
 | .st a=>parts a
 |_ =>none
def vO{P:Program}(tt:TT P G)(T:Nat)(v:AV G):Bool:=match tt.te.find T with
 |some e=>match e.sz with
  |none=>v.one
  |some n=>match v.cw with
   |some m=>Nat.beq n m&& !Nat.beq n 0
   |none=>false
 |none=>false
def Mt(o:Option Nat)(y:AV G):Bool:=match o with
 |none=>y.one
 |some n=>match y.cw with
  |some m=>Nat.beq n m
  |none=>false
def pv{P:Program}(tt:TT P G)(ob:Nat->Option (Ob G))(E:Operand->Option (AV G)):Op->PV G
 | .move x=>match E x with
  |some v=>some ([],v)
  |none=>none
 | .assign x=>match E x with
  |some v=>some ([],v)
  |none=>none
 | .binOp o T x y _ =>match E x,E y with
  |some a,some b=>T4 tt o T a b
  |_,_ =>none
 | .unOp .not _ x=>match E x with
  |some (.bool b)=>some ([], .bool (!b))
  |some (.kb b)=>some ([], .kb (!b))
  |_ =>none
 | .unOp .neg _ x=>match mz (E x)with
  |some (k,n,_)=>some ([], .int k (wr k (0-n)))
  |none=>none
 | .convert S T x=>match mz (E x),tt.te.find S,tt.te.find T with
  |some (k,n,_),some (.int l),some (.int k')=>bif FF k l then some ([], .int k' (wr k' n))else none
  |_,_,_ =>none
 | .nilCheck x=>match E x with
  |some (.ptr r p)=>some ([], .ptr r p)
  |some (.fn (.func f) a c)=>some ([], .fn (.func f) a c)
  |_ =>none
 | .fieldAddr s x j=>match tt.te.find s with
  |some (.st eJ _)=>match eJ[j]? with
   |some o=>match E x with
    |some (.ptr r p)=>some ([], .ptr r (p++[.C6 j o.1]))
    |some (.Xl e xs p)=>some ([], .Xl e xs (p++[.C6 j o.1]))
    |_ =>none
   |none=>none
  |_ =>none
 | .field T x j=>match tt.te.find T with
  |some (.st eJ _)=>match eJ[j]? with
   |some o=>match E x with
    |some v=>match Jr tt.F v [.C6 j o.1]with
     |some y=>bif Mt o.2 y then some ([],y)else none
     |none=>none
    |none=>none
   |none=>none
  |_ =>none
 | .indexAddr T x i=>match E x,mz (E i)with
  |some v,some (_,i,q)=>abG tt ob T v i q
  |_,_ =>none
 | .index T x i=>match E x,mz (E i),tt.te.find T with
  |some (.dat (.lK n e) f),some (_,i,q),some (.lK m te sz _)=>bif Nat.beq n m&&(Nat.beq sz (e.L G).n&&vO tt te (mk e (f i.toNat)))then some (VN q (dg i n),mk e (f i.toNat))else none
  |some (.st a),some (_,i,q),some (.lK m te sz _)=>match partAt a (i.toNat*sz)with
   |some (w,y)=>bif Nat.beq w sz&&vO tt te y then some (VN q (dg i m),y)else none
   |none=>none
  |_,_,_ =>none
 | .load T x=>match E x with
  |some v=>match abF tt ob v with
   |some y=>bif vO tt T y then some ([],y)else none
   |none=>none
  |none=>none
 | .extract x i=>match E x with
  |some (.jy l)=>match Q4 l i with
   |some v=>some ([],v)
   |none=>none
  |_ =>none
 | .makeFunc fn first cap=>match M6 E first.toList,M6 E cap.toList with
  |some a,some c=>some ([], .fn fn a c)
  |_,_ =>none
 | .makeInterface T x=>match E x,tt.te.find T with
  |some v,some (.int _)=>some ([], .jS T v)
  |_,_ =>none
 | .call ⟨.builtin .len,args,H9⟩=>match args.toList,H9.toList with
  |[x],[T]=>match E x,tt.te.find T with
   |some (.row r),some (.sl _ _ _)=>match ob r with
    |some (.row _ _ _ xs)=>some ([], .int .i64 (xs.length:Int))
    |_ =>none
   |some (.dat (.sl e) xs),some (.sl _ _ _)=>some ([], .int .i64 ((xs:List (e.T G)).length:Int))
   |some .jD,some (.sl _ _ _)=>some ([], .int .i64 0)
   |some (.Dz _ _ _ _ false i),some (.sl _ _ _)=>some ([], .lit .i64 ((i.toNat:Nat):Int))
   |_,_ =>none
  |_,_ =>none
 | .call ⟨.builtin .min,args,_⟩=>match args.toList with
  |[x,y]=>match mz (E x),mz (E y)with
   |some (k,a,_),some (l,b,_)=>bif FF k l then some ([], .int k (if b<a then b else a))else none
   |_,_ =>none
  |_ =>none
 | .call ⟨.builtin .max,args,_⟩=>match args.toList with
  |[x,y]=>match mz (E x),mz (E y)with
   |some (k,a,_),some (l,b,_)=>bif FF k l then some ([], .int k (if a<b then b else a))else none
   |_,_ =>none
  |_ =>none
 |_ =>none
end
end Go.Rw
namespace Go.Rw
open Go Go.Bw Go.RowKit
variable {G:Sg} {P:Program} {tt:TT P G} {J:World->Prop} {ρ:aY} {a:Act} {w:World} {d:Option Tmp} {ty:TypeId} {ps:String} {af:Array Edge} {g:Option (Nat×Bool)}
 {N:Nat} {c:Cx} {D:List Deferred} {H:List aE} {E:Operand->Option (AV G)} {ob:Nat->Option (Ob G)}
structure OM(J:World->Prop)(ρ:aY)(N:Nat)(c:Cx)(D:List Deferred)(H:List aE)(ob:Nat->Option (Ob G))(a:Act)(w:World):Prop where
 st:St N c D (ng a) H a w
 kn:Kn c H J
 ob:∀r o,ob r=some o->∃x∈H,ro J ρ r o x
def Bv(P:Program)(c:Cx)(J:World->Prop)(ρ:aY)(o:Oper)(a:Act)(w:World)(v:AV G):Prop:=∃u,rv J ρ v u/\VK P c o a w u
theorem oS{r:Nat}{p:List sq}{u:Value}(h:rv (G:=G) J ρ (.ptr r p) u):∃b o,PB ρ r p b o/\u=dB b (o+eJ p)/\∀s∈p,s.ok:=by obtain⟨⟨b,o,h1,h2⟩,h3⟩:=h;cases h2;exact⟨b,o,h1,rfl,h3⟩
theorem Gn{r:Nat}{p q:List sq}{b o:Nat}(h:PB ρ r p b o)(hp:∀s∈p,s.ok)(hq:∀s∈q,s.ok):rv (G:=G) J ρ (.ptr r (p++q)) (dB b (o+eJ p+eJ q)):=by
 refine⟨⟨b,o,h.app,by rw[LY,Nat.add_assoc]⟩,λs hs=>?_⟩;rcases List.mem_append.1 hs with h|h
 ·exact hp s h
 ·exact hq s h
theorem OB{v:AV G}{k:IntKind}{n:Int}{q:Bool}{u:Value}(h:asI v=some (k,n,q))(hv:rv J ρ v u):u= .int k n:=by unfold asI at h;split at h<;>cases h<;>(have hv:[u]=_ :=hv;cases hv;rfl)
theorem u9(hE:zD J ρ a E){x:Operand}{k:IntKind}{n:Int}{q:Bool}(h:mz (E x)=some (k,n,q)):a.eval x= .int k n/\Bw.ev (ng a) x=some (.int k n):=by
 unfold mz at h;split at h
 ·rename_i v hx
  have e:=OB h (hE.ok _ _ hx);exact⟨e,e▸hE.ev _ _ hx⟩
 ·cases h
theorem TY(hm:OM (G:=G) J ρ N c D H ob a w)(hE:zD J ρ a E){o:BinOp}{T U:Nat}{x y:Operand}{va vb v:AV G}{gs:List Bool}(h:T4 tt o T va vb=some (gs,v))(hg:∀b∈gs,b=true)(hx:E x=some va)(hy:E y=some vb):
  Bv P c J ρ ⟨d, .binOp o T x y U,ty,ps,af,g⟩ a w v:=by
 have ex:=hE.ok _ _ hx;have ey:=hE.ok _ _ hy;have fx:=hE.ev _ _ hx;have fy:=hE.ev _ _ hy;unfold T4 at h;split at h
 ·rename_i k m _ l n qq h1 h2
  have ex:=OB h1 ex;have ey:=OB h2 ey;rw[ex]at fx;rw[ey]at fy;unfold aat at h;split at h
  ·cases h;exact⟨_,rfl,(Qn fx fy (aaN (CM hg))).vk hm.st⟩
  ·cases h;exact⟨_,rfl,(Lb fx fy (aaN (CM hg))).vk hm.st⟩
  ·cases hb:FF k l with
   |false=>rw[hb]at h;cases h
   |true=>rw[hb]at h;obtain rfl:=yS hb;obtain⟨u,h1,h2⟩:=TR (J:=J) (ρ:=ρ) (w:=w) (P:=P) (d:=d) (ty:=ty) (ps:=ps) (af:=af) (g:=g) (T:=T) (U:=U) h hg ex ey;exact⟨u,h2,VK.run (by simp) h1⟩
 ·unfold T3 at h
  split at h
  ·rename_i h1 h2
   have ex:=Br h1 ex;have ey:=Br h2 ey;rw[ex]at fx;rw[ey]at fy;split at h
   ·rename_i ht;cases h;haveI:=(tt.bool ht).1;exact⟨_,rfl,(Z5 fx fy).vk hm.st⟩
   ·rename_i ht;cases h;haveI:=(tt.bool ht).1;exact⟨_,rfl,(ZZ fx fy).vk hm.st⟩
   ·cases h
  ·split at h
   ·have ey:a.eval y= .pointer none:=(List.cons.inj (show[a.eval y]=[Value.pointer none]from ey)).1
    rw[ey]at fy;split at h
    ·rename_i b hb ht
     cases h;obtain⟨p1,p2⟩:=Md hb ex;cases b with
     |true=>obtain⟨m,n,e⟩:=p1 rfl;rw[e]at fx;exact⟨_,rfl,(Z6 (tt.ptr ht) fx fy).vk hm.st⟩
     |false=>rw[p2 rfl]at fx;exact⟨_,rfl,(Ws (tt.ptr ht) fx fy).vk hm.st⟩
    ·rename_i b hb ht
     cases h;obtain⟨p1,p2⟩:=Md hb ex;cases b with
     |true=>obtain⟨m,n,e⟩:=p1 rfl;rw[e]at fx;exact⟨_,rfl,(Z0 (tt.ptr ht) fx fy).vk hm.st⟩
     |false=>rw[p2 rfl]at fx;exact⟨_,rfl,(Wm (tt.ptr ht) fx fy).vk hm.st⟩
    ·cases h
   ·cases h
theorem Hi{e:Ty}{xs:List (e.T G)}{p:List sq}{u:Value}(h:rv J ρ (.Xl e xs p) u):∃v ws,BF J v (e.L G) ws xs/\u=fX v (eJ p)/\(∀s∈p,s.ok)/\∃i q,p= .idx xs.length (e.L G).n i::q/\i.toNat<xs.length:=by obtain⟨v,ws,h1,h2,h3,n,sz,i,q,rfl,rfl,rfl⟩:=h;cases h2;refine⟨v,ws,h1,rfl,h3,i,q,rfl,?_⟩;exact(bW (h3 _ List.mem_cons_self)).2
theorem My{e:Ty}{xs:List (e.T G)}{p:List sq}{v:Value}{ws:List Value}{i:Int}{q:List sq}{s:sq}(h1:BF J v (e.L G) ws xs)(h3:∀s∈p,s.ok)(hp:p= .idx xs.length (e.L G).n i::q)(hs:s.ok):rv J ρ (.Xl e xs (p++[s])) (fX v (eJ p+s.off)):=by
 refine⟨v,ws,h1,by rw[LY];simp[eJ],λs' hs'=>?_,xs.length,(e.L G).n,i,q++[s],by rw[hp];rfl,rfl,rfl⟩;rcases List.mem_append.1 hs' with h|h
 ·exact h3 _ h
 ·simp at h;subst h;exact hs
theorem Ki{r e sz:Nat}{t:Ty}{xs:List (t.T G)}(hm:OM (G:=G) J ρ N c D H ob a w)(h:ob r=some (.row e sz t xs)):∃v ws,ρ r=some v/\su v xs.length/\pA c H v sz xs.length ws/\(LA (t.L G) xs.length).eI J ws (λi=>xs.getD i default)/\(t.L G).n=sz:=by obtain⟨x,hx,v,ws,h1,h2,h3,h4,h5⟩:=hm.ob _ _ h;subst h2;exact⟨v,ws,h1,h3,⟨λw' _ hp=>Ro.uT (hp.holds _ hx)⟩,h4,h5⟩
theorem rS{r:Nat}{u v:Value}(h:rv (G:=G) J ρ (.row r) u)(hv:ρ r=some v):u=v:=by obtain⟨a0,n,cap,h1,h2⟩:=h;cases h2;rw[h1]at hv;exact Option.some.inj hv
theorem Z1{F:eu}{x y:Operand}{t e n b o m:Nat}{k:IntKind}{i:Int}[ht:se P t e 1](hx:Bw.ev F x=some (.slice (some ⟨b,o,none⟩) n n))(hy:Bw.ev F y=some (.int k i))(hi:i=(m:Int))(hm:m<n):
  VS P N c ⟨d, .indexAddr t x y,ty,ps,af,g⟩ F H (dB b (o+m)):=
 aG (by simp) λa w hf _ _ =>by obtain⟨j,h1,h2,h3⟩:=se.get ht.ok;subst hi;simp[execOp,aI hf hx,aI hf hy,Instr.indexAt,asIntOf,run_underlying h1,sizeOf,typeInfo,h2,h3,Addr.add_lit,dB];omega
theorem X7(hm:OM (G:=G) J ρ N c D H ob a w)(hE:zD J ρ a E){T:Nat}{x y:Operand}{va v:AV G}{k:IntKind}{i:Int}{qq:Bool}{gs:List Bool}(h:abG tt ob T va i qq=some (gs,v))(hg:∀b∈gs,b=true)(hx:E x=some va)(hy:mz (E y)=some (k,i,qq)):
  Bv P c J ρ ⟨d, .indexAddr T x y,ty,ps,af,g⟩ a w v:=by
 have ex:=hE.ok _ _ hx;have fx:=hE.ev _ _ hx;have fy:=(u9 hE hy).2;unfold abG at h;split at h
 ·rename_i r p n _ sz _ ht
  cases h;have hi:=CM hg;obtain⟨b,o,h1,h2,h3⟩:=oS ex;rw[h2]at fx;haveI:=tt.lK ht;refine⟨dB b (o+eJ p+i.toNat*sz),?_,(MT (m:=i.toNat) fx fy (bW hi).1 (bW hi).2).vk hm.st⟩;exact Gn h1 h3 (q:=[.idx n sz i]) (λs hs=>by simp at hs;subst hs;exact hi)
 ·rename_i e xs p n _ sz _ ht
  cases h;have hi:=CM hg;obtain⟨vv,ws,h1,h2,h3,j,q,h4,h5⟩:=Hi ex;rw[h2]at fx;haveI:=tt.lK ht;haveI:=hm.kn;refine⟨fX vv (eJ p+i.toNat*sz),My h1 h3 h4 (s:= .idx n sz i) hi,(Z2 (m:=i.toNat) h1 fx fy h5 (bW hi).1 (bW hi).2).vk hm.st⟩
 ·rename_i r _ sz _ ht
  split at h
  ·rename_i e' sz' t xs ho
   cases hb:Nat.beq sz sz' with
   |false=>rw[hb]at h;cases h
   |true=>rw[hb]at h;cases h;obtain rfl:=aiO hb;have hi:=hg _ List.mem_cons_self;obtain⟨vv,ws,h1,h2,h3,h4,h5⟩:=Ki hm ho;have e1:=rS ex h1;rw[e1]at fx;haveI:=(tt.sl ht).1;obtain⟨gb,off,cap,e2,_⟩:=((h3.ro w hm.st.si hm.st.hp).at (bW hi).2);subst e2;refine⟨_,?_,(wV (m:=i.toNat) fx fy (bW hi).1 (bW hi).2).vk hm.st⟩;obtain⟨a0,cp,e4⟩:=h2;have e5:xs.length=_ :=rfl;refine⟨⟨gb,off, .inr ⟨_,_,_,_,_,_,h1,rfl,(bW hi).2⟩,?_⟩,λs hs=>by simp at hs;subst hs;exact hi⟩;simp[fX,eJ,sq.off]
  ·cases h
 ·rename_i e xs _ sz _ ht
  cases hb:Nat.beq sz (e.L G).n with
  |false=>rw[hb]at h;cases h
  |true=>rw[hb]at h;cases h;have hs:=aiO hb;have hi:=hg _ List.mem_cons_self;obtain⟨u',e1,hr,_,hc⟩:=ex;cases e1;have hc:=hc rfl;obtain⟨v',ws,e2,hf⟩:=hr;rw[hc]at e2;cases e2;haveI:=(tt.sl ht).1;haveI:=hm.kn;refine⟨_,?_,(adw (m:=i.toNat) hf hs.symm fx fy (bW hi).1 (bW hi).2).vk hm.st⟩;refine⟨_,ws,hf,by simp[eJ,sq.off],λs hs'=>by simp at hs';subst hs';exact hi,_,_,_,[],rfl,rfl,hs⟩
 ·cases h
  have h0:=(bW (hg _ List.mem_cons_self)).2;exact absurd h0 (Nat.not_lt_zero _)
 ·rename_i r p m sz i0 _ sz' _ ht
  cases hb:((Nat.beq sz 1&&Nat.beq sz' 1)&&(Nat.beq i0.toNat m&&dg i m))with
  |false=>rw[hb]at h;cases h
  |true=>rw[hb]at h;cases h;simp only[aiP]at hb;obtain⟨⟨b1,b2⟩,b3,b4⟩:=hb;obtain rfl:=aiO b1;obtain rfl:=aiO b2;obtain⟨h1,h2⟩:=bW b4;obtain⟨⟨b,o,e1,e2⟩,e3,_⟩:=ex;have e2:=(List.cons.inj e2).1;rw[e2,Ca,aiO b3]at fx;haveI:=(tt.sl ht).1;refine⟨dB b (o+eJ p+i.toNat),Gn e1 e3 (q:=[.C6 0 i.toNat]) (λs hs=>by simp at hs;subst hs;trivial),?_⟩;exact(Z1 fx fy h1 h2).vk hm.st
 ·cases h
theorem DN{T:Nat}{v:AV G}{u:Value}(h:vO tt T v=true)(hv:rv J ρ v u):(p8 P T/\u.cells= #[u]/\v.one=true)\/∃n,tY P T n/\u.cells.size=n/\n≠0/\u= .agg u.cells:=by
 unfold vO at h;split at h
 ·rename_i e he
  split at h
  ·rename_i hs;exact .inl ⟨tt.one he hs,(DC h hv).1,h⟩
  ·rename_i n hs
   split at h
   ·rename_i m hc
    simp only[aiP,Bool.not_eq_true']at h;obtain rfl:=aiO h.1;have hn:n≠0:=λe0=>by rw[e0]at h;simp at h
    have hag:=tt.agg he hs;refine .inr ⟨n,hag,?_,hn,?_⟩
    ·unfold AV.cw at hc
     split at hc
     ·rename_i t x
      cases ha:t.ag with
      |false=>rw[ha]at hc;cases hc
      |true=>rw[ha]at hc;cases hc;obtain⟨u',e1,h1,h2,_⟩:=hv;cases e1;rw[← Array.length_toList];exact(t.L G).len h1
     ·obtain⟨cs,e1,h1,_⟩:=hv
      cases e1;exact yH hc h1
     ·cases hc
    ·unfold AV.cw at hc
     split at hc
     ·rename_i t x
      cases ha:t.ag with
      |false=>rw[ha]at hc;cases hc
      |true=>obtain⟨u',e1,h1,h2,_⟩:=hv;cases e1;obtain⟨cs,rfl⟩:=h2 ha;rfl
     ·obtain⟨cs,e1,h1,_⟩:=hv
      cases e1;rfl
     ·cases hc
   ·cases h
 ·cases h
theorem yB{cs:List Value}{o:Nat}{u:Value}(h:(cs.drop o).take 1=[u]):cs[o]? =some u:=by
 have h2:((cs.drop o).take 1)[0]? =some u:=by rw[h];rfl
 rw[List.getElem?_take,aiM (by decide),List.getElem?_drop]at h2;exact h2
theorem ab1(hm:OM (G:=G) J ρ N c D H ob a w){T b o T':Nat}{x:Operand}{cs:List Value}{v:AV G}{u:Value}(hfit:vO tt T v=true)(hv:rv J ρ v u)(hx:Bw.ev (ng a) x=some (dB b o))(hc:aE.cells b T' cs∈H)(h:(cs.drop o).take u.cells.size=u.cells.toList):
  Bv P c J ρ ⟨d, .load T x,ty,ps,af,g⟩ a w v:=by
 haveI:rm H b T' cs:=⟨hc⟩;rcases DN hfit hv with⟨h1,h2,_⟩|⟨n,h1,h2,_,h3⟩
 ·haveI:=h1
  refine⟨u,hv,(r8 hx (yB ?_)).vk hm.st⟩;rw[h2]at h;exact h
 ·haveI:=h1
  subst h2;have e:u= .agg u.cells.toList.toArray:=by rw[Array.toArray_toList];exact h3
  refine⟨.agg u.cells.toList.toArray,by rw[← e];exact hv,(EI hx h (by simp)).vk hm.st⟩
theorem UA(hm:OM (G:=G) J ρ N c D H ob a w){T o sz n:Nat}{x:Operand}{vv:Value}{ws:List Value}{v:AV G}{u:Value}(hfit:vO tt T v=true)(hv:rv J ρ v u)(hx:Bw.ev (ng a) x=some (fX vv o))(hr:pA c H vv sz n ws)(h:(ws.drop o).take u.cells.size=u.cells.toList):
  Bv P c J ρ ⟨d, .load T x,ty,ps,af,g⟩ a w v:=by
 haveI:=hr;rcases DN hfit hv with⟨h1,h2,_⟩|⟨n,h1,h2,h0,h3⟩
 ·haveI:=h1
  refine⟨u,hv,(EJ hx (yB ?_)).vk hm.st⟩;rw[h2]at h;exact h
 ·haveI:=h1
  subst h2;have e:u= .agg u.cells.toList.toArray:=by rw[Array.toArray_toList];exact h3
  refine⟨.agg u.cells.toList.toArray,by rw[← e];exact hv,(Lc hx h (by simp) (by omega)).vk hm.st⟩
theorem LV{e:Ty}{n:Nat}{i:Int}{r:List sq}{q:PL G e}{ws:List Value}{xs:List (e.T G)}{p:List sq}(hp:p= .idx n (e.L G).n i::r)(hn:i.toNat<xs.length)(h:Gr tt.F e p=some q)(hs:∀s∈p,s.ok)(hr:(LA (e.L G) xs.length).eI J ws (λi=>xs.getD i default)):
  ∃u,rv J ρ (mk q.m (q.get (xs.getD q.i.toNat default))) u/\(ws.drop (eJ p)).take u.cells.size=u.cells.toList:=by
 subst hp;obtain⟨e1,e3⟩:=LU h hs rfl hn;have hg:=e3.get hr;obtain⟨u,k1,k2⟩:=Fy hg;have hl:=(q.m.L G).len hg;rw[← k1,Array.length_toList]at hl;rw[e1];exact⟨u,I4 k2,by rw[hl,k1]⟩
theorem X6(hm:OM (G:=G) J ρ N c D H ob a w)(hE:zD J ρ a E){T:Nat}{x:Operand}{va v:AV G}(h:abF tt ob va=some v)(hf:vO tt T v=true)(hx:E x=some va):Bv P c J ρ ⟨d, .load T x,ty,ps,af,g⟩ a w v:=by
 have ex:=hE.ok _ _ hx;have fx:=hE.ev _ _ hx;unfold abF at h;split at h
 ·rename_i r p
  obtain⟨b,o,h1,h2,h3⟩:=oS ex;rw[h2]at fx;split at h
  ·rename_i T' cc ho
   obtain⟨y,hy,b',uu,k1,rfl,k3⟩:=hm.ob _ _ ho;have eb:b=b'/\o=0:=by rcases h1 with h1|⟨n,cap,_,_,_,_,h1,_⟩<;>rw[h1]at k1<;>simp[dB]at k1;exact k1
   obtain⟨rfl,rfl⟩:=eb;rw[Nat.zero_add]at fx;obtain⟨u,m1,m2,m3⟩:=GF h k3 h3;exact ab1 hm hf m1 fx hy m2
  ·rename_i _ sz t xs ho
   cases hz:UY p sz with
   |false=>rw[hz]at h;cases h
   |true=>
    rw[hz]at h;simp only[cond_true]at h;split at h
    ·rename_i q hq
     cases h;obtain⟨vv,ws,k1,k2,k3,k4,k5⟩:=Ki hm ho;have hp:∃n cap n' sz i q',ρ r=some (.slice (some ⟨b,o,none⟩) n cap)/\p= .idx n' sz i::q'/\i.toNat<n:=by
      rcases h1 with h1|h1
      ·obtain⟨a0,cp,e⟩:=k2
       rw[h1,e]at k1;cases k1
      ·exact h1
     obtain⟨n,cap,n',sz',i,q',e1,e2,e3⟩:=hp;subst e2;obtain rfl:=aiO (show Nat.beq sz' sz=true from hz);rw[e1]at k1;cases k1;obtain⟨a0,cp,e4⟩:=k2;cases e4;subst k5;obtain⟨u,m1,m2⟩:=LV rfl e3 hq h3 k4;exact UA (vv:= .slice (some ⟨b,o,none⟩) xs.length cap) (o:=eJ (sq.idx n' (Ty.L G t).n i::q')) hm hf m1 fx k3 m2
    ·cases h
  ·cases h
 ·rename_i e xs p
  obtain⟨vv,ws,h1,h2,h3,i,q',h4,h5⟩:=Hi ex;rw[h2]at fx;split at h
  ·rename_i q hq
   cases h;obtain⟨u,m1,m2⟩:=LV h4 h5 hq h3 h1.eI;haveI:=hm.kn;exact UA hm hf m1 fx h1.at m2
  ·cases h
 ·cases h
theorem Z4{T j:Nat}{o:Nat×Option Nat}{F:eu}{x:Operand}{u v:Value}(hf:JA P T j o.1 o.2=true)(hx:Bw.ev F x=some u)(hu:∃cs:List Value,u= .agg cs.toArray)(hv:(u.cells.toList.drop o.1).take v.cells.size=v.cells.toList)
  (h1:o.2=none->v.cells= #[v])(h2:∀n,o.2=some n->v.cells.size=n/\v= .agg v.cells):VS P N c ⟨d, .field T x j,ty,ps,af,g⟩ F H v:=
 aG (by simp) λa w hfr _ _ =>by
  obtain⟨cs,rfl⟩:=hu;unfold JA at hf;rw[aiP]at hf;have hf:=hf.2;split at hf
  ·rename_i fs e1
   split at hf
   ·rename_i fl e2
    rw[aiP]at hf;have ho:=aiO hf.1;have hf:=hf.2;have hp:(part fl.type cs.toArray fl.offset).run P w= .ok v w:=by
     cases q:o.2 with
     |none=>rw[q]at hf;haveI:p8 P fl.type:=⟨hf⟩;have hag:(isAgg fl.type).run P w= .ok false w:=qZ w;have:=h1 q;rw[this]at hv;have hv:(cs.drop o.1).take 1=[v]:=hv;have:=yB hv;simp[part,hag,ho,this]
     |some n=>
      rw[q]at hf;haveI:tY P fl.type n:=⟨hf⟩;have hag:(isAgg fl.type).run P w= .ok true w:=ta w;have hs:(sizeOf fl.type).run P w= .ok n w:=Bw.A9 w;obtain⟨q1,q2⟩:=h2 n q;rw[q1]at hv;have hv:(cs.drop o.1).take n=v.cells.toList:=hv;have:(cs.toArray.extract o.1 (o.1+n))=v.cells:=by apply Array.ext';rw[← hv];simp[List.extract_eq_take_drop]
      simp only[part,Sem.run_bind,hag,Result.andThen_ok,if_true,hs,ho,Sem.run_pure,this];rw[← q2]
    have ha:(asAgg (.agg cs.toArray)).run P w= .ok cs.toArray w:=rfl;simp[execOp,aI hfr hx,Instr.field,run_underlying e1,e2,ha,hp]
   ·cases hf
  ·cases hf
theorem YH{J:World->Prop}{ρ:aY}{F:OP G}{v y:AV G}{s:sq}{u:Value}(h:Jr F v [s]=some y)(hv:rv J ρ v u):∃cs:List Value,u= .agg cs.toArray:=by
 cases v with
 |dat t x=>
  obtain⟨u',e,_,h1,_⟩:=hv;cases e;cases t with
  |st i=>exact h1 rfl
  |lK n e=>exact h1 rfl
  |int k=>simp[Jr,path]at h
  |bool=>simp[Jr,path]at h
  |sl e=>simp[Jr,path]at h
 |st a=>obtain⟨cs,e,_⟩:=hv;cases e;exact⟨cs,rfl⟩
 |_ =>simp[Jr]at h
theorem acK{y:AV G}{o:Option Nat}{u:Value}(h:Mt o y=true)(hv:rv J ρ y u):(o=none->u.cells= #[u])/\∀n,o=some n->u.cells.size=n/\u= .agg u.cells:=by
 cases o with
 |none=>exact⟨λ_ =>(DC h hv).1,nofun⟩
 |some n=>
  refine⟨nofun,λn' e=>?_⟩;cases e;simp only[Mt]at h;split at h
  ·rename_i m hc
   obtain rfl:=aiO h;unfold AV.cw at hc;split at hc
   ·rename_i t x
    cases ha:t.ag with
    |false=>rw[ha]at hc;cases hc
    |true=>rw[ha]at hc;cases hc;obtain⟨u',e1,h1,h2,_⟩:=hv;cases e1;obtain⟨cs,e2⟩:=h2 ha;refine⟨by rw[← Array.length_toList];exact(t.L G).len h1,?_⟩;subst e2;rfl
   ·obtain⟨cs,e1,h1,_⟩:=hv
    cases e1;exact⟨yH hc h1,rfl⟩
   ·cases hc
  ·cases h
theorem TK(hm:OM (G:=G) J ρ N c D H ob a w)(hE:zD J ρ a E){op:Op}{v:AV G}{gs:List Bool}(h:pv tt ob E op=some (gs,v))(hg:∀b∈gs,b=true):Bv P c J ρ ⟨d,op,ty,ps,af,g⟩ a w v:=by
 unfold pv at h;split at h
 ·split at h
  ·rename_i v' hx;cases h;exact⟨_,hE.ok _ _ hx,(cy (hE.ev _ _ hx)).vk hm.st⟩
  ·cases h
 ·split at h
  ·rename_i v' hx;cases h;exact⟨_,hE.ok _ _ hx,(sE (hE.ev _ _ hx)).vk hm.st⟩
  ·cases h
 ·split at h
  ·rename_i va vb hx hy;exact TY hm hE h hg hx hy
  ·cases h
 ·split at h
  ·rename_i b hx
   cases h;have e:=zJ (hE.ok _ _ hx);have f:=hE.ev _ _ hx;rw[e]at f;exact⟨_,rfl,(D3 f).vk hm.st⟩
  ·rename_i b hx
   cases h;have e:=I5 (hE.ok _ _ hx);have f:=hE.ev _ _ hx;rw[e]at f;exact⟨_,rfl,(D3 f).vk hm.st⟩
  ·cases h
 ·split at h
  ·rename_i k n _ hx
   cases h;exact⟨_,rfl,(Wo (u9 hE hx).2 rfl).vk hm.st⟩
  ·cases h
 ·split at h
  ·rename_i k n _ l k' hx h1 h2
   cases hb:FF k l with
   |false=>rw[hb]at h;cases h
   |true=>rw[hb]at h;cases h;obtain rfl:=yS hb;have f:=(u9 hE hx).2;haveI:=(tt.int h1).1;haveI:=(tt.int h2).1;exact⟨_,rfl,(Qr f rfl).vk hm.st⟩
  ·cases h
 ·split at h
  ·rename_i r p hx
   cases h;have e:=hE.ok _ _ hx;have f:=hE.ev _ _ hx;obtain⟨b,o,_,e2,_⟩:=oS e;refine⟨_,e,?_⟩;rw[e2]at f ⊢;exact(zh f).vk hm.st
  ·rename_i ff aa cc hx
   cases h;have e:=hE.ok _ _ hx;refine⟨_,e,VK.run (by simp) ?_⟩;obtain⟨fs,cs,e2,_⟩:=e;have e2:=(List.cons.inj e2).1;simp[execOp,e2]
  ·cases h
 ·split at h
  ·rename_i eJ n ht
   split at h
   ·rename_i o ho
    haveI:=tt.C6 ht ho;split at h
    ·rename_i r p hx
     cases h;have f:=hE.ev _ _ hx;obtain⟨b,o',h1,h2,h3⟩:=oS (hE.ok _ _ hx);rw[h2]at f;refine⟨_,Gn h1 h3 (q:=[.C6 _ o.1]) (λs hs=>by simp at hs;subst hs;trivial),?_⟩;exact(CO f).vk hm.st
    ·rename_i e xs p hx
     cases h;have f:=hE.ev _ _ hx;obtain⟨vv,ws,h1,h2,h3,i,q,h4,h5⟩:=Hi (hE.ok _ _ hx);rw[h2]at f;haveI:=hm.kn;exact⟨_,My h1 h3 h4 (s:= .C6 _ o.1) trivial,(Z3 h1 f h5).vk hm.st⟩
    ·cases h
   ·cases h
  ·cases h
 ·split at h
  ·rename_i eJ n ht
   split at h
   ·rename_i o ho
    split at h
    ·rename_i va hx
     split at h
     ·rename_i y hy
      cases hb:Mt o.2 y with
      |false=>rw[hb]at h;cases h
      |true=>rw[hb]at h;cases h;have e:=hE.ok _ _ hx;obtain⟨u,k1,k2,k3⟩:=GF hy e (λs hs=>by simp at hs;subst hs;trivial);obtain⟨q1,q2⟩:=acK hb k1;exact⟨u,k1,(Z4 (tt.fs ht ho) (hE.ev _ _ hx) (YH hy e) k2 q1 q2).vk hm.st⟩
     ·cases h
    ·cases h
   ·cases h
  ·cases h
 ·split at h
  ·rename_i va k i _ hx hy;exact X7 hm hE h hg hx hy
  ·cases h
 ·split at h
  ·rename_i n e f k i _ m te sz Lx hx hy ht
   cases hb:(Nat.beq n m&&(Nat.beq sz (e.L G).n&&vO tt te (mk e (f i.toNat))))with
   |false=>rw[hb]at h;cases h
   |true=>
    rw[hb]at h;cases h;simp only[aiP]at hb;obtain rfl:=aiO hb.1;have hs:=aiO hb.2.1;have hi:=CM hg;have fx:=hE.ev _ _ hx;have fy:=(u9 hE hy).2;haveI:=tt.lK ht;have ex:=hE.ok _ _ hx;obtain⟨u',e1,h1,h2,_⟩:=ex;cases e1;obtain⟨cs,e2⟩:=h2 rfl;rw[e2]at fx h1;have hp:=aX.idx (L:=e.L G) (m:=n) i.toNat (bW hi).2 hs;have hgt:=hp.get h1;obtain⟨u,k1,k2⟩:=Fy hgt;have hl:=(e.L G).len hgt;have hv:rv J ρ (mk e (f i.toNat)) u:=I4 k2;rcases DN hb.2.2 hv with⟨m1,m2,_⟩|⟨q,m1,m2,_,m3⟩
    ·haveI:=m1
     rw[m2]at k1;have hn:(e.L G).n=1:=by rw[← hl, ← k1];rfl
     rw[hn]at k1;exact⟨u,hv,(JF (m:=i.toNat) fx fy (bW hi).1 (bW hi).2 (yB k1.symm)).vk hm.st⟩
    ·haveI:=m1
     have e3:u= .agg u.cells.toList.toArray:=by rw[Array.toArray_toList];exact m3
     refine⟨.agg u.cells.toList.toArray,by rw[← e3];exact hv,(JE (m:=i.toNat) (q:=q) (us:=u.cells.toList) fx fy (bW hi).1 (bW hi).2 ?_).vk hm.st⟩;rw[hs];rw[hs]at k1;exact k1.symm
  ·rename_i pa k i _ m te sz Lx hx hy ht
   split at h
   ·rename_i wd y hp
    cases hb:(Nat.beq wd sz&&vO tt te y)with
    |false=>rw[hb]at h;cases h
    |true=>
     rw[hb]at h;cases h;simp only[aiP]at hb;obtain rfl:=aiO hb.1;have hi:=CM hg;have fx:=hE.ev _ _ hx;have fy:=(u9 hE hy).2;haveI:=tt.lK ht;obtain⟨cs,e1,h1,_⟩:=hE.ok _ _ hx;rw[(List.cons.inj e1).1]at fx;obtain⟨u,hv,k1,k2,_⟩:=DB hp h1;rcases DN hb.2 hv with⟨m1,m2,_⟩|⟨q,m1,m2,_,m3⟩
     ·haveI:=m1
      rw[m2]at k1;have hn:wd=1:=by rw[← k2, ← Array.length_toList,m2];rfl
      subst hn;exact⟨u,hv,(JF (m:=i.toNat) fx fy (bW hi).1 (bW hi).2 (yB k1)).vk hm.st⟩
     ·haveI:=m1
      have e3:u= .agg u.cells.toList.toArray:=by rw[Array.toArray_toList];exact m3
      exact⟨.agg u.cells.toList.toArray,by rw[← e3];exact hv,(JE (m:=i.toNat) (q:=q) (us:=u.cells.toList) fx fy (bW hi).1 (bW hi).2 k1).vk hm.st⟩
   ·cases h
  ·cases h
 ·split at h
  ·rename_i va hx
   split at h
   ·rename_i y hy
    cases hb:vO tt _ y with
    |false=>rw[hb]at h;cases h
    |true=>rw[hb]at h;cases h;exact X6 hm hE hy hb hx
   ·cases h
  ·cases h
 ·split at h
  ·rename_i l hx
   split at h
   ·rename_i v' hn
    cases h;obtain⟨vs,e,hl⟩:=hE.ok _ _ hx;have f:=hE.ev _ _ hx;rw[(List.cons.inj e).1]at f;obtain⟨u,h1,h2⟩:=Ku hn hl;exact⟨u,h2,(p7 f h1).vk hm.st⟩
   ·cases h
  ·cases h
 ·rename_i fn first cap
  split at h
  ·rename_i aa cc h1 h2
   cases h;obtain⟨i1,_⟩:=uX hE h1;obtain⟨j1,_⟩:=uX hE h2;refine⟨.func fn (first.map a.eval) (cap.map a.eval),⟨_,_,?_,i1,j1⟩,VK.run (by simp) (by simp[execOp,Instr.makeFunc])⟩;congr 1;simp[← Array.toList_map]
  ·cases h
 ·split at h
  ·rename_i v' k hx ht
   cases h;haveI:=(tt.int ht).1;exact⟨_,⟨_,rfl,hE.ok _ _ hx⟩,VK.run (by simp) (by simp[execOp,Instr.makeInterface,run_underlying (Ww.ok (k:=k))])⟩
  ·cases h
 ·rename_i args H9
  obtain⟨args⟩:=args;obtain⟨H9⟩:=H9;split at h
  ·rename_i x T ea et
   dsimp only at ea et;subst ea et;split at h
   ·rename_i r e sz b hx ht
    split at h
    ·rename_i e' sz' t xs ho
     cases h;obtain⟨vv,ws,h1,h2,h3,h4,h5⟩:=Ki hm ho;have fx:=hE.ev _ _ hx;rw[rS (hE.ok _ _ hx) h1]at fx;haveI:=(tt.sl ht).1;exact⟨_,rfl,(OG fx).vk hm.st⟩
    ·cases h
   ·rename_i e xs e' sz b hx ht
    cases h;obtain⟨u',e1,hr,_,hc⟩:=hE.ok _ _ hx;cases e1;obtain⟨v',ws,e2,hf⟩:=hr;rw[hc rfl]at e2;cases e2;haveI:=(tt.sl ht).1;haveI:=hm.kn;exact⟨_,rfl,(Qq hf (hE.ev _ _ hx)).vk hm.st⟩
   ·rename_i e sz b hx ht
    cases h;have f:=hE.ev _ _ hx;have e1:a.eval x= .slice none 0 0:=(List.cons.inj (show[a.eval x]=[Value.slice none 0 0]from hE.ok _ _ hx)).1;rw[e1]at f;haveI:=(tt.sl ht).1;haveI:=hm.kn;exact⟨_,rfl,(Qq (A:=J) (L:=LB) (ws:=[]) (xs:=[]) BF.nil f).vk hm.st⟩
   ·rename_i r p m sz' i e sz b hx ht
    cases h;have f:=hE.ev _ _ hx;obtain⟨⟨b',o,e1,e2⟩,e3,_⟩:=hE.ok _ _ hx;have e2:=(List.cons.inj e2).1;rw[e2,Ca]at f;haveI:=(tt.sl ht).1;exact⟨_,rfl,(RR f).vk hm.st⟩
   ·cases h
  ·cases h
 ·rename_i args H9
  obtain⟨args⟩:=args;split at h
  ·rename_i x y ea
   dsimp only at ea;subst ea;split at h
   ·rename_i k m _ l n _ hx hy
    cases hb:FF k l with
    |false=>rw[hb]at h;cases h
    |true=>rw[hb]at h;cases h;obtain rfl:=yS hb;have fx:=(u9 hE hx).2;have fy:=(u9 hE hy).2;exact⟨_,rfl,(adq fx fy).vk hm.st⟩
   ·cases h
  ·cases h
 ·rename_i args H9
  obtain⟨args⟩:=args;split at h
  ·rename_i x y ea
   dsimp only at ea;subst ea;split at h
   ·rename_i k m _ l n _ hx hy
    cases hb:FF k l with
    |false=>rw[hb]at h;cases h
    |true=>rw[hb]at h;cases h;obtain rfl:=yS hb;have fx:=(u9 hE hx).2;have fy:=(u9 hE hy).2;exact⟨_,rfl,(ads fx fy).vk hm.st⟩
   ·cases h
  ·cases h
 ·cases h
end Go.Rw
namespace Go.Rw
open Go Go.Bw Go.RowKit
variable {G:Sg} {P:Program} {tt:TT P G} {J J':World->Prop} {ρ ρ':aY} {a:Act} {w:World} {d:Option Tmp} {ty:TypeId} {ps:String} {af:Array Edge} {g:Option (Nat×Bool)}
 {N:Nat} {c:Cx} {HK X:List aE} {C:CC G} {S:AS G}
def Ug(C:CC G)(S:AS G)(r:Nat):Option (Ob G):=match cU S.O r with
 |some o=>some o
 |none=>cU (lH C) r
theorem RO.get{O:Os G}{H:List aE}(h:RO J ρ O H){r:Nat}{o:Ob G}(e:cU O r=some o):∃(k:Nat) (x:aE),H[k]? =some x/\ro J ρ r o x:=by
 induction h with
 |nil=>cases e
 |@cons r0 o0 x0 O H h0 _ ih=>
  simp only[cU]at e;cases hb:Nat.beq r0 r with
  |true=>rw[hb]at e;cases e;obtain rfl:=aiO hb;exact⟨0,x0,rfl,h0⟩
  |false=>rw[hb]at e;obtain⟨k,x,k1,k2⟩:=ih e;exact⟨k+1,x,by simpa using k1,k2⟩
def pF:Os G->Nat->Ob G->Os G
 |[],_,_ =>[]
 |(k,v)::r,d,o=>bif Nat.beq k d then(k,o)::r else(k,v)::pF r d o
theorem RO.set{O:Os G}{H:List aE}(h:RO J ρ O H){r:Nat}{o:Ob G}(e:cU O r=some o):∃(k:Nat) (x:aE),H[k]? =some x/\ro J ρ r o x/\∀o' x',ro J ρ r o' x'->RO J ρ (pF O r o') (H.set k x'):=by
 induction h with
 |nil=>cases e
 |@cons r0 o0 x0 O H h0 hr ih=>
  simp only[cU]at e;cases hb:Nat.beq r0 r with
  |true=>rw[hb]at e;cases e;obtain rfl:=aiO hb;refine⟨0,x0,rfl,h0,λo' x' h'=>?_⟩;simp only[pF,hb,cond_true];exact .cons h' hr
  |false=>rw[hb]at e;obtain⟨k,x,k1,k2,k3⟩:=ih e;refine⟨k+1,x,by simpa using k1,k2,λo' x' h'=>?_⟩;simp only[pF,hb,cond_false];exact .cons h0 (k3 o' x' h')
def wM:Os G->Nat->Os G
 |[],_ =>[]
 |(k,v)::r,d=>bif Nat.beq k d then r else(k,v)::wM r d
theorem RO.Zt{O:Os G}{H:List aE}(h:RO J ρ O H){r:Nat}{o:Ob G}(e:cU O r=some o):∃(k:Nat) (x:aE),H[k]? =some x/\ro J ρ r o x/\RO J ρ (wM O r) (H.eraseIdx k):=by
 induction h with
 |nil=>cases e
 |@cons r0 o0 x0 O H h0 hr ih=>
  simp only[cU]at e;cases hb:Nat.beq r0 r with
  |true=>rw[hb]at e;cases e;obtain rfl:=aiO hb;refine⟨0,x0,rfl,h0,?_⟩;simp only[wM,hb,cond_true];exact hr
  |false=>rw[hb]at e;obtain⟨k,x,k1,k2,k3⟩:=ih e;refine⟨k+1,x,by simpa using k1,k2,?_⟩;simp only[wM,hb,cond_false];exact .cons h0 k3
theorem RO.app{O O':Os G}{H H':List aE}(h:RO J ρ O H)(k:RO J ρ O' H'):RO J ρ (O++O') (H++H'):=by
 induction h with
 |nil=>exact k
 |cons h _ ih=>exact .cons h ih
theorem Rl.st(h:Rl c N ρ J HK X C S a w):∃HS,RO J ρ S.O HS/\St N c a.defers (ng a) (HS++(HK++X)) a w/\OM J ρ N c a.defers (HS++(HK++X)) (Ug C S) a w:=by
 obtain⟨HS,h1,h3⟩:=h.hp;have hst:St N c a.defers (ng a) (HS++(HK++X)) a w:=⟨h.tm,FH a,rfl,h.si.s,h3⟩;refine⟨HS,h1,hst,hst,⟨λw' _ hp=>h.kn.to w' λr hr=>⟨hp.holds r (by simp[hr]),λb hb=>(hp.own r (by simp[hr]) b hb).2⟩⟩,λr o e=>?_⟩;unfold Ug at e;split at e
 ·rename_i o' he
  cases e;obtain⟨k,x,k1,k2⟩:=h1.get he;exact⟨x,aiT _ (List.mem_of_getElem? k1),k2⟩
 ·obtain⟨x,k1,k2⟩:=h.kc r o e
  exact⟨x,aiS _ (aiT _ k1),k2⟩
def chain(C:CC G)(S:AS G):Nat->Nat->Bool->List (Nat×Bool)
 |0,j,w=>[(j,w)]
 |n+1,j,w=>(j,w)::match Mx C S (.tmp j)with
  |some (.gd k v _)=>chain C S n k v
  |_ =>[]
def UH:List (Nat×Bool)->Nat->Bool->Bool
 |[],_,_ =>false
 |(k,v)::r,j,w=>(Nat.beq k j&&(v==w))||UH r j w
def Xi(C:CC G)(S:AS G):Nat->Nat->Bool->Option Bool
 |0,_,_ =>none
 |n+1,j,w=>match Mx C S (.tmp j)with
  |some (.kb b)=>some (b==w)
  |some (.gd k v x)=>match Xi C S n k v with
   |some false=>some false
   |some true=>(match x with
    | .kb b=>some (b==w)
    |_ =>none)
   |none=>none
  |_ =>none
def isT:Option Bool->Bool
 |some b=>b
 |none=>false
def fT(C:CC G)(S:AS G)(ch:List (Nat×Bool))(x:Operand):Option (AV G):=match Mx C S x with
 |some (.gd j w v)=>bif UH ch j w||isT (Xi C S 8 j w)then some v else none
 |r=>r
theorem ab6{p:Nat->Bool->Prop}:∀{l:List (Nat×Bool)} {j:Nat} {w:Bool},UH l j w=true->(∀q∈l,p q.1 q.2)->p j w:=by
 intro l
 induction l with
 |nil=>intro j w h;cases h
 |cons q r ih=>
  obtain⟨k,v⟩:=q;intro j w h hp;simp only[UH,Bool.or_eq_true,aiP]at h;rcases h with⟨h1,h2⟩|h
  ·have e1:=aiO h1
   have e2:v=w:=by simpa using h2
   have:=hp _ List.mem_cons_self;rw[e1,e2]at this;exact this
  ·exact ih h λq hq=>hp q (aiY _ hq)
theorem DE{w:Bool}:Value.bool w≠undef:=by intro h;cases h
theorem MH(h:Rl c N ρ J HK X C S a w):∀(n j:Nat) (v:Bool),a.tmps[j]? =some (.bool v)->∀q∈chain C S n j v,a.tmps[q.1]? =some (.bool q.2):=by
 intro n
 induction n with
 |zero=>intro j v e q hq;simp[chain]at hq;subst hq;exact e
 |succ n ih=>
  intro j v e q hq;simp only[chain,List.mem_cons]at hq;rcases hq with rfl|hq
  ·exact e
  ·split at hq
   ·rename_i k u x he
    refine ih k u ?_ q hq;have hr:=h.ev he;have e2:a.eval (.tmp j)= .bool v:=by simp[Act.eval,e]
    rw[e2]at hr;cases Classical.em (a.tmps[k]? =some (.bool u))with
    |inl h=>exact h
    |inr h=>exact absurd (hr.2 h) DE
   ·cases hq
theorem Ol{x:Operand}{v:AV G}(h:Rl c N ρ J HK X C S a w)(e:Mx C S x=some v):Bw.ev (ng a) x=some (a.eval x):=by
 refine PE (λt ht=>?_) (λg hg=>?_)
 ·subst ht
  simp only[Mx]at e;split at e
  ·rename_i v' he
   obtain⟨u,h1,_⟩:=h.fs t _ he;exact(aiU.1 h1).1
  ·obtain⟨u,h1,_⟩:=Ux h.fc e
   exact(aiU.1 h1).1
 ·subst hg;cases e
theorem aeN{t:Array Value}{v:AV G}{u:Value}(h:rf J ρ t v u)(hn:∀j w v',v≠ .gd j w v'):rv J ρ v u:=by
 cases v with
 |gd j w v'=>exact absurd rfl (hn j w v')
 |_ =>exact h
theorem aas{b:Bool}{t:Array Value}{u:Value}(h:rf (G:=G) J ρ t (.kb b) u):u= .bool b:=I5 (G:=G) (J:=J) (ρ:=ρ) h
theorem Dv(h:Rl c N ρ J HK X C S a w){j:Nat}{x:AV G}(e:Mx C S (.tmp j)=some x):a.tmps[j]? =some (a.eval (.tmp j)):=FH a j _ (Ol h e)
theorem KU(h:Rl c N ρ J HK X C S a w):∀(n j:Nat) (v g:Bool),Xi C S n j v=some g->(a.tmps[j]? =some (.bool v)↔g=true):=by
 intro n
 induction n with
 |zero=>intro j v g e;cases e
 |succ n ih=>
  intro j v g e;simp only[Xi]at e;split at e
  ·rename_i b he
   cases e;rw[Dv h he,aas (h.ev he)];cases b<;>cases v<;>simp
  ·rename_i k u x he
   have hr:=h.ev he;split at e
   ·rename_i hg
    cases e;have ihk:=ih k u false hg;have h2:a.tmps[k]? ≠some (.bool u):=λq=>by have:=ihk.1 q;cases this
    rw[Dv h he,hr.2 h2];simp only[Option.some.injEq,Bool.false_eq_true,iff_false]
    exactλq=>DE q.symm
   ·rename_i hg
    have ihk:=ih k u true hg;split at e
    ·rename_i b
     cases e;rw[Dv h he,I5 (hr.1 (ihk.2 rfl))];cases b<;>cases v<;>simp
    ·cases e
   ·cases e
  ·cases e
theorem afs{o:Option Bool}(h:isT o=true):o=some true:=by cases o with
 |none=>cases h
 |some b=>cases b with
  |true=>rfl
  |false=>cases h
theorem cQ(h:Rl c N ρ J HK X C S a w){ch:List (Nat×Bool)}(hc:∀q∈ch,a.tmps[q.1]? =some (.bool q.2)):zD J ρ a (fT C S ch):=by
 refine⟨λx v e=>?_,λx v e=>?_⟩
 ·unfold fT at e
  split at e
  ·rename_i j u x' he
   cases hb:(UH ch j u||isT (Xi C S 8 j u))with
   |false=>rw[hb]at e;cases e
   |true=>
    rw[hb]at e;cases e;have:=h.ev he;rw[Bool.or_eq_true]at hb;rcases hb with hb|hb
    ·exact this.1 (ab6 (p:=λj u=>a.tmps[j]? =some (.bool u)) hb hc)
    ·exact this.1 ((KU h 8 j u true (afs hb)).2 rfl)
  ·rename_i hn
   exact aeN (h.ev e) λj w v' q=>hn j w v' (q▸e)
 ·unfold fT at e
  split at e
  ·rename_i j u x' he;exact Ol h he
  ·exact Ol h e
theorem O5{b:Bool}{t:Array Value}{u:Value}(h:rf (G:=G) J ρ t (.bool b) u):u= .bool b:=zJ (G:=G) (J:=J) (ρ:=ρ) h
def Oe(C:CC G)(S:AS G):Nat->Nat->Bool->Option Bool
 |0,_,_ =>none
 |n+1,j,w=>match Mx C S (.tmp j)with
  |some (.bool b)=>some (b==w)
  |some (.kb b)=>some (b==w)
  |some (.gd k v x)=>match ZN x with
   |some b=>match Oe C S n k v with
    |some g=>some (g&&(b==w))
    |none=>none
   |none=>none
  |_ =>none
theorem PD(h:Rl c N ρ J HK X C S a w):∀(n j:Nat) (v g:Bool),Oe C S n j v=some g->(a.tmps[j]? =some (.bool v)↔g=true):=by
 intro n
 induction n with
 |zero=>intro j v g e;cases e
 |succ n ih=>
  intro j v g e;simp only[Oe]at e;have hj:∀x,Mx C S (.tmp j)=some x->a.tmps[j]? =some (a.eval (.tmp j)):=λx he=>Dv h he;split at e
  ·rename_i b he
   cases e;have hr:=O5 (h.ev he);rw[hj _ he,hr];cases b<;>cases v<;>simp
  ·rename_i b he
   cases e;rw[hj _ he,aas (h.ev he)];cases b<;>cases v<;>simp
  ·rename_i k u x he
   split at e;rotate_left
   ·cases e
   rename_i b hb;split at e
   ·rename_i g' hg
    cases e;have hr:=h.ev he;have ihk:=ih k u g' hg;rw[hj _ he];cases g' with
    |true=>have h1:=hr.1 (ihk.2 rfl);have:=Br hb h1;rw[this];cases b<;>cases v<;>simp
    |false=>
     have h2:a.tmps[k]? ≠some (.bool u):=λq=>by have:=ihk.1 q;cases this
     rw[hr.2 h2];simp only[Bool.false_and,Option.some.injEq,Bool.false_eq_true,iff_false]
     exactλq=>DE q.symm
   ·cases e
  ·cases e
def Ju(C:CC G)(S:AS G):Nat->Nat->Option (Nat×Bool)
 |0,_ =>none
 |n+1,j=>match Mx C S (.tmp j)with
  |some (.bool b)=>some (j,b)
  |some (.gd k v x)=>match Xi C S 8 k v with
   |some true=>(match x with
    | .bool b=>some (j,b)
    |_ =>none)
   |some false=>none
   |none=>Ju C S n k
  |_ =>none
theorem Mn(h:Rl c N ρ J HK X C S a w):∀(n j k:Nat) (b:Bool),Ju C S n j=some (k,b)->a.tmps[k]? =some (.bool b):=by
 intro n
 induction n with
 |zero=>intro j k b e;cases e
 |succ n ih=>
  intro j k b e;simp only[Ju]at e;split at e
  ·rename_i b' he
   cases e;rw[Dv h he,O5 (h.ev he)]
  ·rename_i k' v x he
   split at e
   ·rename_i hg
    split at e
    ·rename_i b'
     cases e;rw[Dv h he,zJ ((h.ev he).1 ((KU h 8 k' v true hg).2 rfl))]
    ·cases e
   ·cases e
   ·exact ih k' k b e
  ·cases e
def SK(P:Program)(o:Oper)(C:CC G)(S S':AS G)(v:AV G):Prop:=∀(c:Cx) (N:Nat) (ρ:aY) (J:World->Prop) (HK X:List aE) (a:Act) (w:World) (next:Act->World->Prop) (Q:Exit->Act->World->Prop),Rl c N ρ J HK X C S a w-> (∀(ρ':aY) (J':World->Prop) (Y:List aE) (w':World) (u:Value),ρ.to ρ' S.nx->(∀w,J' w->J w)->rv J' ρ' v u->Rl c N ρ' J' HK (Y++X) C S' a w'->next (a.put o.dst u) w')->o.wpIn (FA c.ro) 0 P a w next Q
theorem Rl.M1(h:Rl c N ρ J HK X C S a w)(mJ:∀w,J' w->J w)(mρ:ρ.le ρ'):∀r o,cU (lH C) r=some o->∃x∈HK,ro J' ρ' r o x:=λr o e=>by obtain⟨x,h1,h2⟩:=h.kc r o e;exact⟨x,h1,h2.up mJ mρ⟩
theorem Rl.new{HS:List aE}{x:aE}{o:Ob G}{u:Value}{w':World}(h:Rl c N ρ J HK X C S a w)(h1:RO J ρ S.O HS)(hs:aO c.bs c.w0 w')(hp:bC c.bs c.w0.heap.size (x::(HS++(HK++X))) w')(hx:ro J (ρ.set S.nx u) S.nx o x):
  Rl c N (ρ.set S.nx u) J HK X C {S with O:=(S.nx,o)::S.O,nx:=S.nx+1} a w':=by
 have hle:=(aY.kg ρ S.nx u).le h.fr;exact⟨h.tm,h.df.up (λ_ h=>h) hle,⟨hs,h.si.n⟩,h.fs.up (λ_ h=>h) hle,h.fc.up (λ_ h=>h) hle,h.M1 (λ_ h=>h) hle,⟨x::HS, .cons hx (h1.up (λ_ h=>h) hle),by simpa using hp⟩,h.kn,aY.wv h.fr u⟩
theorem abo{T:Nat}{x:Operand}{v:AV G}(hv:fT C S [] x=some v):SK P ⟨d, .box T x,ty,ps,af,g⟩ C S {S with O:=(S.nx, .cH T v)::S.O,nx:=S.nx+1} (.ptr S.nx []):=by
 intro c N ρ J HK X a w next Q h hk
 obtain⟨HS,h1,hst,_⟩:=h.st;have hE:=cQ h (ch:=[]) (by simp);refine OJ (hE.ev _ _ hv) rfl a.defers a w next Q hst λb w' _ hs hp=>?_
 refine hk (ρ.set S.nx (dB b 0)) J [] w' (dB b 0) (aY.kg _ _ _) (λ_ h=>h) ?_ (h.new h1 hs hp ?_)
 ·exact⟨⟨b,0, .inl (aY.gO _ _ _),by simp[eJ]⟩,by simp⟩
 ·exact⟨b,_,aY.gO _ _ _,rfl,(hE.ok _ _ hv).ext ((aY.kg ρ S.nx _).le h.fr)⟩
structure ZT(P:Program)(G:Sg) where
 z:MU (AV G)
 ok:∀t v,z.find t=some v->∀(J:World->Prop) (ρ:aY),∃u:Value,bK P t=some u.cells.toList/\rv J ρ v u
def ZOk(P:Program):MU (AV G)->Prop
 | .dY=>True
 | .eo k v l r=>(∀(J:World->Prop) (ρ:aY),∃u:Value,bK P k=some u.cells.toList/\rv J ρ v u)/\ZOk P l/\ZOk P r
theorem adf{P:Program}:∀{t:MU (AV G)},ZOk P t->∀k v,t.find k=some v->∀(J:World->Prop) (ρ:aY),∃u:Value,bK P k=some u.cells.toList/\rv J ρ v u:=by
 intro t
 induction t with
 |dY=>intro _ k v h;cases h
 |eo k0 v0 l r ihl ihr=>
  intro h k v e;simp only[MU.find]at e;cases h1:Nat.beq k0 k with
  |true=>rw[h1]at e;cases e;rw[← aiO h1];exact h.1
  |false=>
   rw[h1]at e;simp only[cond_false]at e;cases h2:Nat.blt k k0 with
   |true=>rw[h2]at e;exact ihl h.2.1 k v e
   |false=>rw[h2]at e;exact ihr h.2.2 k v e
theorem Ts{zt:ZT P G}{T:Nat}{v:AV G}(hv:zt.z.find T=some v):SK P ⟨d, .alloc T,ty,ps,af,g⟩ C S {S with O:=(S.nx, .cH T v)::S.O,nx:=S.nx+1} (.ptr S.nx []):=by
 intro c N ρ J HK X a w next Q h hk
 obtain⟨HS,h1,hst,_⟩:=h.st;obtain⟨u,k1,k2⟩:=zt.ok T v hv J ρ;haveI:jh P T u.cells.toList:=⟨k1⟩;refine zq (cs:=u.cells.toList) a.defers a w next Q hst λb w' _ hs hp=>?_
 refine hk (ρ.set S.nx (dB b 0)) J [] w' (dB b 0) (aY.kg _ _ _) (λ_ h=>h) ?_ (h.new h1 hs hp ?_)
 ·exact⟨⟨b,0, .inl (aY.gO _ _ _),by simp[eJ]⟩,by simp⟩
 ·exact⟨b,u,aY.gO _ _ _,rfl,k2.ext ((aY.kg ρ S.nx _).le h.fr)⟩
theorem Rl.Ad{Sj:List aE}{O':Os G}{w':World}(h:Rl c N ρ J HK X C S a w)(hr:RO J ρ O' Sj)(hs:aO c.bs c.w0 w')(hp:bC c.bs c.w0.heap.size (Sj++(HK++X)) w'):
  Rl c N ρ J HK X C {S with O:=O'} a w':=⟨h.tm,h.df,⟨hs,h.si.n⟩,h.fs,h.fc,h.kc,⟨_,hr,hp⟩,h.kn,h.fr⟩
theorem qe{α:Type}{l m:List α}{k:Nat}{x:α}(h:l[k]? =some x):(l++m)[k]? =some x:=by rw[List.getElem?_append_left (List.getElem?_eq_some_iff.1 h).1];exact h
theorem uk{α:Type}{l m:List α}{k:Nat}{x y:α}(h:l[k]? =some x):(l++m).set k y=l.set k y++m:=by rw[List.set_append_left];exact(List.getElem?_eq_some_iff.1 h).1
theorem Vm{T:Nat}{v:AV G}{u:Value}(h:vO tt T v=true)(hv:rv J ρ v u):RT P T u.cells.size:=by
 rcases DN h hv with⟨h1,h2,_⟩|⟨n,h1,h2,_⟩
 ·haveI:=h1
  rw[h2];exact(inferInstance:RT P T 1)
 ·haveI:=h1
  subst h2;exact inferInstance
theorem Tl{T:Nat}{x y:Operand}{v:AV G}{r T':Nat}{p:List sq}{cc M7:AV G}(hx:fT C S [] x=some (.ptr r p))(hy:fT C S [] y=some v)(ho:cU S.O r=some (.cH T' cc))(hst:Nq tt.F cc p v=some M7)(hf:vO tt T v=true):
  SK P ⟨d, .store T x y,ty,ps,af,g⟩ C S {S with O:=pF S.O r (.cH T' M7)} .OX:=by
 intro c N ρ J HK X a w next Q h hk
 obtain⟨HS,h1,hs0,hm⟩:=h.st;have hE:=cQ h (ch:=[]) (by simp);obtain⟨b,o,e1,e2,e3⟩:=oS (hE.ok _ _ hx);obtain⟨k,q,k1,⟨b',u,m1,rfl,m3⟩,k3⟩:=h1.set ho;have eb:b=b'/\o=0:=by rcases e1 with h1|⟨n,cap,_,_,_,_,h1,_⟩<;>rw[h1]at m1<;>simp[dB]at m1;exact m1
 obtain⟨rfl,rfl⟩:=eb;have hv:=hE.ok _ _ hy;obtain⟨u',n1,n2,n3,n4⟩:=Kc hv hst m3 e3;have sB:=hE.ev _ _ hx;rw[e2,Nat.zero_add]at sB;have Ib:=qe (m:=HK++X) k1;haveI:rm (HS++(HK++X)) b T' u.cells.toList:=⟨List.mem_of_getElem? Ib⟩;haveI:=Vm hf hv;haveI:Fg (HS++(HK++X)) b u'.cells.toList (HS.set k (.cells b T' u'.cells.toList)++(HK++X)):=⟨k,T',_,Ib,by rw[uk k1]⟩;refine tP (n:=(a.eval y).cells.size) (vs:=(a.eval y).cells.toList) (cs':=u'.cells.toList) sB (hE.ev _ _ hy) rfl (by simp) (by simpa using n3) n4 n2.symm a.defers a w next Q hs0 λ_ w' _ hs hp=>?_
 exact hk ρ J [] w' undef (aY.dM _ _) (λ_ h=>h) ⟨_,rfl⟩ (h.Ad (k3 (.cH T' M7) _ ⟨b,u',m1,rfl,n1⟩) hs hp)
end Go.Rw
namespace Go.Rw
open Go Go.Bw Go.RowKit
variable {G:Sg} {P:Program} {J J':World->Prop} {ρ ρ':aY}
inductive Sh where
 |v (t:Ty)
 |unk (n:Nat)
 |row (e sz:Nat) (t:Ty)
 |box (T:Nat) (s:Sh)
 |bU (i:Nat)
 |ou
 |jD
 |Ck
 |ow
 |EX
 |fn (f:Fn) (a c:Sh)
 |jy (a:Sh)
 |st (a:Sh)
 |jS (t:Nat) (a:Sh)
 |nil
 |cons (a b:Sh)
 |part (w:Nat) (a b:Sh)
def aM:Sh->List Ty
 | .v t=>[t]
 | .row _ _ t=>[.sl t]
 | .box _ s=>aM s
 | .fn _ a c=>aM a++aM c
 | .jy a=>aM a
 | .st a=>aM a
 | .jS _ a=>aM a
 | .cons a b=>aM a++aM b
 | .part _ a b=>aM a++aM b
 |_ =>[]
def HL(G:Sg):List Ty->Type
 |[]=>Unit
 |t::r=>t.T G×HL G r
def HL.app:{a b:List Ty}->HL G a->HL G b->HL G (a++b)
 |[],_,_,y=>y
 |_ ::_,_,x,y=>(x.1,HL.app x.2 y)
def HL.fst:{a b:List Ty}->HL G (a++b)->HL G a
 |[],_,_ =>()
 |_ ::r,b,x=>(x.1,HL.fst (a:=r) (b:=b) x.2)
def HL.snd:{a b:List Ty}->HL G (a++b)->HL G b
 |[],_,x=>x
 |_ ::r,b,x=>HL.snd (a:=r) (b:=b) x.2
theorem HL.wI:∀{a b:List Ty} (x:HL G a) (y:HL G b),HL.fst (a:=a) (b:=b) (HL.app x y)=x:=by
 intro a
 induction a with
 |nil=>intro b x y;rfl
 |cons t r ih=>intro b x y;exact Prod.ext rfl (ih x.2 y)
theorem HL.wu:∀{a b:List Ty} (x:HL G a) (y:HL G b),HL.snd (a:=a) (b:=b) (HL.app x y)=y:=by
 intro a
 induction a with
 |nil=>intro b x y;rfl
 |cons t r ih=>intro b x y;exact ih x.2 y
def fA(f:Nat->Nat):(s:Sh)->HL G (aM s)->Nat->AV G×Os G×Nat
 | .v t,x,m=>(mk t x.1,[],m)
 | .row e sz t,x,m=>(.row (f m),[(f m, .row e sz t x.1)],m+1)
 | .box T s,x,m=>match fA f s x (m+1)with
  |(v,O,m')=>(.ptr (f m) [],(f m, .cH T v)::O,m')
 | .bU i,_,m=>(.ptr (f i) [],[],m)
 | .unk n,_,m=>(.unk n,[],m)
 | .ou,_,m=>(.ou,[],m)
 | .jD,_,m=>(.jD,[],m)
 | .Ck,_,m=>(.Ck,[],m)
 | .ow,_,m=>(.ow,[],m)
 | .EX,_,m=>(.EX,[],m)
 | .fn k a c,x,m=>match fA f a (HL.fst x) m with
  |(v,O,m')=>match fA f c (HL.snd x) m' with
   |(v',O',m'')=>(.fn k v v',O++O',m'')
 | .jy a,x,m=>match fA f a x m with
  |(v,O,m')=>(.jy v,O,m')
 | .st a,x,m=>match fA f a x m with
  |(v,O,m')=>(.st v,O,m')
 | .jS t a,x,m=>match fA f a x m with
  |(v,O,m')=>(.jS t v,O,m')
 | .nil,_,m=>(.nil,[],m)
 | .cons a b,x,m=>match fA f a (HL.fst x) m with
  |(v,O,m')=>match fA f b (HL.snd x) m' with
   |(v',O',m'')=>(.cons v v',O++O',m'')
 | .part w a b,x,m=>match fA f a (HL.fst x) m with
  |(v,O,m')=>match fA f b (HL.snd x) m' with
   |(v',O',m'')=>(.part w v v',O++O',m'')
def yW:Fn->Fn->Bool
 | .func a, .func b=>Nat.beq a b
 |_,_ =>false
theorem Mq{f g:Fn}(h:yW f g=true):f=g:=by
 unfold yW at h;split at h
 ·rw[aiO h]
 ·cases h
structure GS(G:Sg) where
 th:List Nat
 O:Os G
 nx:Nat
def nt:(s:Sh)->AV G->GS G->Option (HL G (aM s)×GS G)
 | .v t,v,g=>match A7 t v with
  |some x=>some ((x,()),g)
  |none=>none
 | .row e sz t,v,g=>match v with
  | .row r=>match cU g.O r with
   |some (.row e' sz' t' xs)=>bif Nat.beq e e'&&Nat.beq sz sz' then(if h:t'.bU t=true then some ((Ty.uP h▸xs,()),⟨g.th++[r],wM g.O r,g.nx⟩)else none)else none
   |_ =>none
  | .jD=>bif Nat.beq (t.L G).n sz then some (([],()),⟨g.th++[g.nx],g.O,g.nx+1⟩)else none
  |_ =>none
 | .box T s,v,g=>match v with
  | .ptr r []=>match cU g.O r with
   |some (.cH T' c)=>bif Nat.beq T T' then nt s c ⟨g.th++[r],wM g.O r,g.nx⟩else none
   |_ =>none
  |_ =>none
 | .bU i,v,g=>match v with
  | .ptr r []=>match g.th[i]? with
   |some r'=>bif Nat.beq r r' then some ((),g)else none
   |none=>none
  |_ =>none
 | .unk n,v,g=>match v with
  | .unk m=>bif Nat.beq n m then some ((),g)else none
  |v=>match v.ncl with
   |some m=>bif Nat.beq n m then some ((),g)else none
   |none=>none
 | .ou,v,g=>match v with
  | .ou=>some ((),g)
  |_ =>none
 | .jD,v,g=>match v with
  | .jD=>some ((),g)
  |_ =>none
 | .Ck,v,g=>match v with
  | .Ck=>some ((),g)
  |_ =>none
 | .ow,v,g=>match v with
  | .ow=>some ((),g)
  |_ =>none
 | .EX,v,g=>match v with
  | .EX=>some ((),g)
  |_ =>none
 | .fn f a c,v,g=>match v with
  | .fn f' x y=>bif yW f f' then(match nt a x g with
   |some (p,g')=>match nt c y g' with
    |some (q,Vc)=>some (HL.app p q,Vc)
    |none=>none
   |none=>none)else none
  |_ =>none
 | .jy a,v,g=>match v with
  | .jy x=>nt a x g
  |_ =>none
 | .st a,v,g=>match v with
  | .st x=>nt a x g
  |_ =>none
 | .jS t a,v,g=>match v with
  | .jS t' x=>bif Nat.beq t t' then nt a x g else none
  |_ =>none
 | .nil,v,g=>match v with
  | .nil=>some ((),g)
  |_ =>none
 | .cons a b,v,g=>match v with
  | .cons x y=>match nt a x g with
   |some (p,g')=>match nt b y g' with
    |some (q,Vc)=>some (HL.app p q,Vc)
    |none=>none
   |none=>none
  |_ =>none
 | .part w a b,v,g=>match v with
  | .part w' x y=>bif Nat.beq w w' then(match nt a x g with
   |some (p,g')=>match nt b y g' with
    |some (q,Vc)=>some (HL.app p q,Vc)
    |none=>none
   |none=>none)else none
  |_ =>none
def pH(A B:List aE):Prop:=∀bs n0 w,bC bs n0 A w->bC bs n0 B w
theorem pH.refl(A:List aE):pH A A:=λ_ _ _ h=>h
theorem pH.trans{A B D:List aE}(h:pH A B)(k:pH B D):pH A D:=λbs n w x=>k bs n w (h bs n w x)
theorem pH.jL{A B:List aE}(h:A.Perm B):pH A B:=λ_ _ _ x=>x.jL h
def cmp(ρ:aY)(th:List Nat):aY:=λm=>match th[m]? with
 |some r=>ρ r
 |none=>none
theorem Ov{th yA:List Nat}(h:ρ.le ρ')(k:∃q,yA=th++q):(cmp ρ th).le (cmp ρ' yA):=λm v e=>by
 obtain⟨q,rfl⟩:=k;unfold cmp at e ⊢;cases ht:th[m]? with
 |none=>rw[ht]at e;cases e
 |some r=>rw[ht]at e;rw[qe ht];exact h _ _ e
theorem zP{th:List Nat}{r:Nat}:cmp ρ (th++[r]) th.length=ρ r:=by simp[cmp]
structure Gat(J:World->Prop)(ρ:aY)(s:Sh)(l:List Value)(H:List aE)(g g':GS G)(x:HL G (aM s))(ρ':aY)(HB H':List aE):Prop where
 to:ρ.to ρ' g.nx
 fr:ρ'.fr g'.nx
 nx:g.nx<=g'.nx
 left:RO J ρ' g'.O H'
 pre:∃q,g'.th=g.th++q
 y6:(fA (λm=>m) s x g.th.length).2.2=g'.th.length
 hp:∀R,pH (H++R) (HB++(H'++R))
 val:rl J (cmp ρ' g'.th) (fA (λm=>m) s x g.th.length).1 l
 cH:RO J (cmp ρ' g'.th) (fA (λm=>m) s x g.th.length).2.1 HB
theorem SW{t:Ty}{v:AV G}{x:t.T G}{l:List Value}(h:A7 t v=some x)(hv:rl J ρ v l):∃u,l=[u]:=by
 unfold A7 at h;split at h
 ·exact⟨_,hv⟩
 ·exact⟨_,hv⟩
 ·exact⟨_,hv⟩
 ·exact⟨_,hv⟩
 ·exact⟨_,hv⟩
 ·obtain⟨u,e,_⟩:=hv;exact⟨u,e⟩
 ·cases h
theorem aY.fr.Uf{n:Nat}{r:Nat}{v:Value}(h:ρ.fr n)(e:ρ r=some v):r<n:=by
 rcases Nat.lt_or_ge r n with h1|h1
 ·exact h1
 ·rw[h r h1]at e;cases e
theorem bL{α β:Type}{a x:α}{b y:β}(h:some (a,b)=some (x,y)):a=x/\b=y:=by have h:=Option.some.inj h;exact⟨congrArg Prod.fst h,congrArg Prod.snd h⟩
theorem Yg{α:Type}:∀{H:List α} {k:Nat} {x:α},H[k]? =some x->H.Perm (x::H.eraseIdx k):=by
 intro H
 induction H with
 |nil=>intro k x h;cases h
 |cons y r ih=>
  intro k x h;cases k with
  |zero=>simp at h;subst h;exact .refl _
  |succ k=>exact((ih (by simpa using h)).cons y).trans (.swap x y _)
theorem oT{H:List aE}{k:Nat}{x:aE}(h:H[k]? =some x)(R:List aE):(H++R).Perm (x::(H.eraseIdx k++R)):=by exact List.Perm.append_right R (Yg h)
theorem KX{a b:Sh}{H:List aE}{g g1 g2:GS G}{p:HL G (aM a)}{q:HL G (aM b)}{l1 l2:List Value}{ρ:aY}(hf:ρ.fr g.nx)
  (h1:∃ρ' HB H',Gat J ρ a l1 H g g1 p ρ' HB H')(h2:∀(ρ1:aY) (H1:List aE),ρ1.fr g1.nx->ρ.to ρ1 g.nx->RO J ρ1 g1.O H1->∃ρ' HB H',Gat J ρ1 b l2 H1 g1 g2 q ρ' HB H'):
  ∃ρ' HB H',ρ.to ρ' g.nx/\ρ'.fr g2.nx/\g.nx<=g2.nx/\RO J ρ' g2.O H'/\(∃r,g2.th=g.th++r)/\(fA (λm=>m) b q (fA (λm=>m) a p g.th.length).2.2).2.2=g2.th.length/\(∀R,pH (H++R) (HB++(H'++R)))/\
   rl J (cmp ρ' g2.th) (fA (λm=>m) a p g.th.length).1 l1/\rl J (cmp ρ' g2.th) (fA (λm=>m) b q (fA (λm=>m) a p g.th.length).2.2).1 l2/\RO J (cmp ρ' g2.th) ((fA (λm=>m) a p g.th.length).2.1++(fA (λm=>m) b q (fA (λm=>m) a p g.th.length).2.2).2.1) HB:=by
 obtain⟨ρ1,B1,H1,k1⟩:=h1;obtain⟨ρ2,B2,H2,k2⟩:=h2 ρ1 H1 k1.fr k1.to k1.left;have hle:=Ov (k2.to.le k1.fr) k2.pre;rw[k1.y6];refine⟨ρ2,B1++B2,H2,k1.to.trans k2.to k1.nx,k2.fr,Nat.le_trans k1.nx k2.nx,k2.left,?_,k2.y6,λR=>?_,k1.val.ext hle,k2.val,(k1.cH.up (λ_ h=>h) hle).app k2.cH⟩
 ·obtain⟨r1,e1⟩:=k1.pre
  obtain⟨r2,e2⟩:=k2.pre;exact⟨r1++r2,by rw[e2,e1,List.append_assoc]⟩
 ·refine(k1.hp R).trans ?_
  have e:(B1++(H1++R)).Perm (H1++(B1++R)):=by rw[← List.append_assoc, ← List.append_assoc];exact List.Perm.append_right R List.perm_append_comm
  refine(pH.jL e).trans ((k2.hp (B1++R)).trans (pH.jL ?_));rw[List.append_assoc B1];have:(B2++(H2++(B1++R))).Perm (B1++(B2++(H2++R))):=by
   have p1:(H2++(B1++R)).Perm (B1++(H2++R)):=by rw[← List.append_assoc, ← List.append_assoc];exact List.Perm.append_right R List.perm_append_comm
   refine(List.Perm.append_left B2 p1).trans ?_;rw[← List.append_assoc, ← List.append_assoc B1];exact List.Perm.append_right _ List.perm_append_comm
  exact this
theorem U8{t:Ty}{v:AV G}{g g':GS G}{x:HL G (aM (.v t))}(h:nt (.v t) v g=some (x,g')):∃y,A7 t v=some y/\x=(y,())/\g'=g:=by
 unfold nt at h;cases hy:A7 t v with
 |none=>rw[hy]at h;cases h
 |some y=>rw[hy]at h;obtain⟨e1,e2⟩:=bL h;exact⟨y,rfl,e1.symm,e2.symm⟩
theorem KW{n:Nat}{v:AV G}{g g':GS G}{x:HL G (aM (.unk n))}(h:nt (.unk n) v g=some (x,g')):g'=g/\∀{J:World->Prop} {ρ:aY} {l:List Value},rl J ρ v l->∃u:Value,l=[u]/\u.cells.size=n:=by
 unfold nt at h;split at h
 ·rename_i m
  cases hb:Nat.beq n m with
  |false=>rw[hb]at h;cases h
  |true=>rw[hb]at h;obtain rfl:=aiO hb;exact⟨(bL h).2.symm,λhr=>hr⟩
 ·split at h
  ·rename_i m hm
   cases hb:Nat.beq n m with
   |false=>rw[hb]at h;cases h
   |true=>rw[hb]at h;obtain rfl:=aiO hb;exact⟨(bL h).2.symm,λhr=>by obtain⟨u,e1,e2,_⟩:=NO hm hr;exact⟨u,e1,e2⟩⟩
  ·cases h
theorem G4:∀{s:Sh} {v:AV G} {l:List Value} {H:List aE} {g g':GS G} {x:HL G (aM s)} {ρ:aY},nt s v g=some (x,g')->rl J ρ v l->RO J ρ g.O H->ρ.fr g.nx->∃ρ' HB H',Gat J ρ s l H g g' x ρ' HB H':=by
 intro s
 induction s with
 |v t=>
  intro v l H g g' x ρ h hv hO hf;obtain⟨y,hy,rfl,rfl⟩:=U8 h;obtain⟨u,rfl⟩:=SW hy hv;refine⟨ρ,[],H,⟨aY.dM _ _,hf,Nat.le_refl _,hO,⟨[],by simp⟩,?_,λR=>pH.refl _,?_,?_⟩⟩<;>simp only[fA]
  ·exact I4 ((zH hy hv))
  ·exact .nil
 |row e sz t=>
  intro v l H g g' x ρ h hv hO hf;cases v<;>unfold nt at h<;>(try dsimp only at h)<;>try (cases h;done)
  case row r=>
   split at h
   ·rename_i e' sz' t' xs ho
    cases hb:(Nat.beq e e'&&Nat.beq sz sz')with
    |false=>rw[hb]at h;cases h
    |true=>
     rw[hb]at h;simp only[cond_true]at h;by_cases hs:t'.bU t=true
     ·rw[dif_pos hs]at h
      obtain⟨e1,rfl⟩:=bL h;simp only[aiP]at hb;obtain rfl:=aiO hb.1;obtain rfl:=aiO hb.2;have:=Ty.uP hs;subst this;subst e1;obtain⟨k,y,k1,k2,k3⟩:=hO.Zt ho;refine⟨ρ,[y],H.eraseIdx k,aY.dM _ _,hf,Nat.le_refl _,k3,⟨[r],rfl⟩,by simp[fA],λR=>pH.jL (oT k1 R),?_, .cons ?_ .nil⟩
      ·obtain⟨a0,n,cap,e1,e2⟩:=hv
       exact⟨a0,n,cap,zP.trans e1,e2⟩
      ·obtain⟨vv,ws,e1,e2,e3,e4,e5⟩:=k2
       exact⟨vv,ws,zP.trans e1,e2,e3,e4,e5⟩
     ·rw[dif_neg hs]at h;cases h
   ·cases h
  case jD=>
   cases hb:Nat.beq (t.L G).n sz with
   |false=>rw[hb]at h;cases h
   |true=>
    rw[hb]at h;obtain⟨rfl,rfl⟩:=bL h;have hsz:=aiO hb;have hle:=(aY.kg ρ g.nx (.slice none 0 0)).le hf;refine⟨ρ.set g.nx (.slice none 0 0),[.row (.slice none 0 0) e sz 0 []],H,aY.kg _ _ _,aY.wv hf _,Nat.le_succ _,hO.up (λ_ h=>h) hle,⟨[g.nx],rfl⟩,by simp[fA],λR bs n0 w hp=>zO hp,?_, .cons ?_ .nil⟩
    ·have hv:l=[.slice none 0 0]:=hv
     exact⟨none,0,0,zP.trans (aY.gO _ _ _),hv⟩
    ·exact⟨.slice none 0 0,[],zP.trans (aY.gO _ _ _),rfl,⟨_,_,rfl⟩,⟨λ_ =>[],rfl,λi hi=>absurd hi (Nat.not_lt_zero _)⟩,hsz⟩
 |box T s ih=>
  intro v l H g g' x ρ h hv hO hf;cases v<;>unfold nt at h<;>(try dsimp only at h)<;>try (cases h;done)
  case ptr r p=>
   cases p with
   |cons _ _ =>simp at h
   |nil=>
    simp only at h;split at h
    ·rename_i T' cc ho
     cases hb:Nat.beq T T' with
     |false=>rw[hb]at h;cases h
     |true=>
      rw[hb]at h;obtain rfl:=aiO hb;obtain⟨k,y,k1,⟨b,u,m1,rfl,m3⟩,k3⟩:=hO.Zt ho;obtain⟨ρ1,B1,H1,i1⟩:=ih h m3 k3 hf;have hr:=hf.Uf m1;have hth:g'.th[g.th.length]? =some r:=by obtain⟨q,e⟩:=i1.pre;rw[e];simp
      have Od:cmp ρ1 g'.th g.th.length=some (dB b 0):=by unfold cmp;rw[hth];exact(i1.to r hr).trans m1
      have e1:(g.th++[r]).length=g.th.length+1:=by simp
      have i2:=i1.y6;have i3:=i1.val;have i4:=i1.cH;rw[e1]at i2 i3 i4;refine⟨ρ1, .cells b T u.cells.toList::B1,H1,i1.to,i1.fr,i1.nx,i1.left,?_,i2,λR=>?_,?_, .cons ⟨b,u,Od,rfl,i3⟩ i4⟩
      ·obtain⟨q,e⟩:=i1.pre
       exact⟨r::q,by rw[e];simp⟩
      ·refine(pH.jL (oT k1 R)).trans ?_
       refine(pH.jL (List.perm_middle (a:=aE.cells b T u.cells.toList) (l₁:=H.eraseIdx k) (l₂:=R)).symm).trans ?_;refine(i1.hp (.cells b T u.cells.toList::R)).trans (pH.jL ?_);refine(List.Perm.append_left B1 (List.perm_middle (a:=aE.cells b T u.cells.toList) (l₁:=H1) (l₂:=R))).trans ?_;exact List.perm_middle
      ·obtain⟨⟨b',o',q1,q2⟩,_⟩:=hv
       refine⟨⟨b,0, .inl Od,?_⟩,by simp⟩;rcases q1 with q1|⟨_,_,_,_,_,_,_,q1,_⟩
       ·rw[q1]at m1
        simp[dB]at m1;rw[q2,m1.1,m1.2]
       ·cases q1
    ·cases h
 |bU i=>
  intro v l H g g' x ρ h hv hO hf;cases v<;>unfold nt at h<;>(try dsimp only at h)<;>try (cases h;done)
  case ptr r p=>
   cases p with
   |cons _ _ =>simp at h
   |nil=>
    simp only at h;split at h
    ·rename_i r' ht
     cases hb:Nat.beq r r' with
     |false=>rw[hb]at h;cases h
     |true=>
      rw[hb]at h;obtain⟨rfl,rfl⟩:=bL h;obtain rfl:=aiO hb;refine⟨ρ,[],H,aY.dM _ _,hf,Nat.le_refl _,hO,⟨[],by simp⟩,rfl,λR=>pH.refl _,?_, .nil⟩;obtain⟨⟨b',o',q1,q2⟩,q3⟩:=hv;refine⟨⟨b',o',?_,q2⟩,q3⟩;rcases q1 with q1|⟨_,_,_,_,_,_,_,q1,_⟩
      ·refine .inl ?_
       unfold cmp;rw[ht];exact q1
      ·cases q1
    ·cases h
 |unk n=>intro v l H g g' x ρ h hv hO hf;obtain⟨rfl,hu⟩:=KW h;exact⟨ρ,[],H,aY.dM _ _,hf,Nat.le_refl _,hO,⟨[],by simp⟩,rfl,λR=>pH.refl _,hu hv, .nil⟩
 |ou=>
  intro v l H g g' x ρ h hv hO hf;cases v<;>unfold nt at h<;>(try dsimp only at h)<;>try (cases h;done)
  obtain⟨rfl,rfl⟩:=bL h;exact⟨ρ,[],H,aY.dM _ _,hf,Nat.le_refl _,hO,⟨[],by simp⟩,rfl,λR=>pH.refl _,hv, .nil⟩
 |jD=>
  intro v l H g g' x ρ h hv hO hf;cases v<;>unfold nt at h<;>(try dsimp only at h)<;>try (cases h;done)
  obtain⟨rfl,rfl⟩:=bL h;exact⟨ρ,[],H,aY.dM _ _,hf,Nat.le_refl _,hO,⟨[],by simp⟩,rfl,λR=>pH.refl _,hv, .nil⟩
 |Ck=>
  intro v l H g g' x ρ h hv hO hf;cases v<;>unfold nt at h<;>(try dsimp only at h)<;>try (cases h;done)
  obtain⟨rfl,rfl⟩:=bL h;exact⟨ρ,[],H,aY.dM _ _,hf,Nat.le_refl _,hO,⟨[],by simp⟩,rfl,λR=>pH.refl _,hv, .nil⟩
 |ow=>
  intro v l H g g' x ρ h hv hO hf;cases v<;>unfold nt at h<;>(try dsimp only at h)<;>try (cases h;done)
  obtain⟨rfl,rfl⟩:=bL h;exact⟨ρ,[],H,aY.dM _ _,hf,Nat.le_refl _,hO,⟨[],by simp⟩,rfl,λR=>pH.refl _,hv, .nil⟩
 |EX=>
  intro v l H g g' x ρ h hv hO hf;cases v<;>unfold nt at h<;>(try dsimp only at h)<;>try (cases h;done)
  obtain⟨rfl,rfl⟩:=bL h;exact⟨ρ,[],H,aY.dM _ _,hf,Nat.le_refl _,hO,⟨[],by simp⟩,rfl,λR=>pH.refl _,hv, .nil⟩
 |nil=>
  intro v l H g g' x ρ h hv hO hf;cases v<;>unfold nt at h<;>(try dsimp only at h)<;>try (cases h;done)
  obtain⟨rfl,rfl⟩:=bL h;exact⟨ρ,[],H,aY.dM _ _,hf,Nat.le_refl _,hO,⟨[],by simp⟩,rfl,λR=>pH.refl _,hv, .nil⟩
 |fn f a c mP Cr=>
  intro v l H g g' x ρ h hv hO hf;cases v<;>unfold nt at h<;>(try dsimp only at h)<;>try (cases h;done)
  case fn f' y z=>
   cases hb:yW f f' with
   |false=>rw[hb]at h;cases h
   |true=>
    rw[hb]at h;simp only[cond_true]at h;obtain rfl:=Mq hb;split at h
    ·rename_i p g1 h1
     split at h
     ·rename_i q g2 h2
      obtain⟨rfl,rfl⟩:=bL h;obtain⟨fs,cs,e,r1,r2⟩:=hv;obtain⟨ρ',HB,H',k1,k2,k3,k4,k5,k6,k7,k8,k9,k10⟩:=KX (b:=c) (q:=q) hf (mP h1 r1 hO hf) λρ1 H1 f1 t1 o1=>Cr h2 (r2.ext (t1.le hf)) o1 f1;refine⟨ρ',HB,H',k1,k2,k3,k4,k5,?_,k7,?_,?_⟩<;>simp only[fA,HL.wI,HL.wu]
      ·exact k6
      ·exact⟨fs,cs,e,k8,k9⟩
      ·exact k10
     ·cases h
    ·cases h
 |cons a b mP q9=>
  intro v l H g g' x ρ h hv hO hf;cases v<;>unfold nt at h<;>(try dsimp only at h)<;>try (cases h;done)
  case cons y z=>
   split at h
   ·rename_i p g1 h1
    split at h
    ·rename_i q g2 h2
     obtain⟨rfl,rfl⟩:=bL h;obtain⟨u,r,e,r1,r2⟩:=hv;obtain⟨ρ',HB,H',k1,k2,k3,k4,k5,k6,k7,k8,k9,k10⟩:=KX (b:=b) (q:=q) hf (mP h1 r1 hO hf) λρ1 H1 f1 t1 o1=>q9 h2 (r2.ext (t1.le hf)) o1 f1;refine⟨ρ',HB,H',k1,k2,k3,k4,k5,?_,k7,?_,?_⟩<;>simp only[fA,HL.wI,HL.wu]
     ·exact k6
     ·exact⟨u,r,e,k8,k9⟩
     ·exact k10
    ·cases h
   ·cases h
 |part w a b mP q9=>
  intro v l H g g' x ρ h hv hO hf;cases v<;>unfold nt at h<;>(try dsimp only at h)<;>try (cases h;done)
  case part w' y z=>
   cases hb:Nat.beq w w' with
   |false=>rw[hb]at h;cases h
   |true=>
    rw[hb]at h;simp only[cond_true]at h;obtain rfl:=aiO hb;split at h
    ·rename_i p g1 h1
     split at h
     ·rename_i q g2 h2
      obtain⟨rfl,rfl⟩:=bL h;obtain⟨c1,c2,u,e,r0,r1,r3,r2⟩:=hv;obtain⟨ρ',HB,H',k1,k2,k3,k4,k5,k6,k7,k8,k9,k10⟩:=KX (b:=b) (q:=q) hf (mP h1 r1 hO hf) λρ1 H1 f1 t1 o1=>q9 h2 (r2.ext (t1.le hf)) o1 f1;refine⟨ρ',HB,H',k1,k2,k3,k4,k5,?_,k7,?_,?_⟩<;>simp only[fA,HL.wI,HL.wu]
      ·exact k6
      ·exact⟨c1,c2,u,e,r0,k8,r3,k9⟩
      ·exact k10
     ·cases h
    ·cases h
 |jy a ih=>
  intro v l H g g' x ρ h hv hO hf;cases v<;>unfold nt at h<;>(try dsimp only at h)<;>try (cases h;done)
  case jy y=>obtain⟨vs,e,r1⟩:=hv;obtain⟨ρ',HB,H',k⟩:=ih h r1 hO hf;exact⟨ρ',HB,H',k.to,k.fr,k.nx,k.left,k.pre,k.y6,k.hp,⟨vs,e,k.val⟩,k.cH⟩
 |st a ih=>
  intro v l H g g' x ρ h hv hO hf;cases v<;>unfold nt at h<;>(try dsimp only at h)<;>try (cases h;done)
  case st y=>obtain⟨cs,e,r1,r2⟩:=hv;obtain⟨ρ',HB,H',k⟩:=ih h r1 hO hf;exact⟨ρ',HB,H',k.to,k.fr,k.nx,k.left,k.pre,k.y6,k.hp,⟨cs,e,k.val,r2⟩,k.cH⟩
 |jS t a ih=>
  intro v l H g g' x ρ h hv hO hf;cases v<;>unfold nt at h<;>(try dsimp only at h)<;>try (cases h;done)
  case jS t' y=>
   cases hb:Nat.beq t t' with
   |false=>rw[hb]at h;cases h
   |true=>rw[hb]at h;obtain rfl:=aiO hb;obtain⟨u,e,r1⟩:=hv;obtain⟨ρ',HB,H',k⟩:=ih h r1 hO hf;exact⟨ρ',HB,H',k.to,k.fr,k.nx,k.left,k.pre,k.y6,k.hp,⟨u,e,k.val⟩,k.cH⟩
end Go.Rw
