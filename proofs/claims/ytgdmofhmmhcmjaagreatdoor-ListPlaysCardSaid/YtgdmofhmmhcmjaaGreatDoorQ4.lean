/- Part 4 of what a proof leans on; pruned and shortened by a program out of longer texts. -/
import Derived.Test.YtgdmofhmmhcmjaaGreatDoorQ3
namespace Go.Rw
open Go Go.Bw Go.RowKit
variable {G:Sg}
inductive MP(α:Type) where
 |dW
 |dZ (k:Nat) (v:α) (l r:MP α)
def MP.find{α:Type}:MP α->Nat->Option α
 | .dW,_ =>none
 | .dZ k v l r,d=>bif Nat.beq k d then some v else bif Nat.blt d k then l.find d else r.find d
def MP.all{α:Type}(p:Nat->α->Bool):MP α->Bool
 | .dW=>true
 | .dZ k v l r=>p k v&&(l.all p&&r.all p)
theorem MP.VN{α:Type}{p:Nat->α->Bool}:∀{t:MP α} {d:Nat} {v:α},t.all p=true->t.find d=some v->p d v=true:=by
 intro t
 induction t with
 |dW=>intro d v _ h;cases h
 |dZ k v0 l r ihl ihr=>
  intro d v ha h;simp only[MP.all,aiJ]at ha;simp only[MP.find]at h;cases h1:Nat.beq k d with
  |true=>rw[h1]at h;cases h;rw[← aiI h1];exact ha.1
  |false=>
   rw[h1]at h;simp only[cond_false]at h;cases h2:Nat.blt d k with
   |true=>rw[h2]at h;exact ihl ha.2.1 h
   |false=>rw[h2]at h;exact ihr ha.2.2 h
inductive TE where
 |int (k:IntKind)
 |bool
 |one
 |ptr
 |sl (e sz bytes:Nat)
 |lQ (n e sz Lq:Nat)
 |st (eI:List (Nat×Option Nat)) (Lq:Nat)
def Jw(P:Program)(t j o:Nat)(w:Option Nat):Bool:=Hi P t j o&&match P.underlying t with
 |some (.struct fs)=>match fs[j]? with
  |some fl=>Nat.beq fl.offset o&&(match w with
   |none=>rj P fl.type
   |some n=>DN P fl.type n)
  |none=>false
 |_ =>false
def Km(P:Program)(t:Nat):List (Nat×Option Nat)->Nat->Bool
 |[],_ =>true
 |o::r,j=>Jw P t j o.1 o.2&&Km P t r (j+1)
def AI(P:Program)(t:Nat):TE->Bool
 | .int k=>(match P.underlying t with
  |some (.int l)=>Nat.beq (Ty.bU.ik k) (Ty.bU.ik l)
  |_ =>false)&&rj P t
 | .bool=>(match P.underlying t with
  |some .bool=>true
  |_ =>false)&&rj P t
 | .one=>rj P t
 | .ptr=>rj P t&&Ey P t
 | .sl e sz b=>rj P t&&(PX P t e sz b&&Ew P t e sz)
 | .lQ n e sz Lq=>Hj P t n e sz&&DN P t Lq
 | .st eI Lq=>Km P t eI 0&&DN P t Lq
structure TT(P:Program)(G:Sg) where
 F:OH G
 te:MP TE
 ok:te.all (AI P)=true
section
variable {P:Program} {tt:TT P G}
theorem TT.get{t:Nat}{e:TE}(h:tt.te.find t=some e):AI P t e=true:=MP.VN tt.ok h
theorem TT.int{t:Nat}{k:IntKind}(h:tt.te.find t=some (.int k)):Wo P t k/\p8 P t:=by
 have:=tt.get h;simp only[AI,aiJ]at this;refine⟨⟨?_⟩,⟨this.2⟩⟩;have h1:=this.1;split at h1
 ·rename_i l hl;rw[GH h1];exact hl
 ·cases h1
theorem TT.bool{t:Nat}(h:tt.te.find t=some .bool):Wp P t/\p8 P t:=by
 have:=tt.get h;simp only[AI,aiJ]at this;refine⟨⟨?_⟩,⟨this.2⟩⟩;have h1:=this.1;split at h1
 ·assumption
 ·cases h1
def TE.sz:TE->Option Nat
 | .lQ _ _ _ n=>some n
 | .st _ n=>some n
 |_ =>none
theorem TT.one{t:Nat}{e:TE}(h:tt.te.find t=some e)(hs:e.sz=none):p8 P t:=by have:=tt.get h;cases e<;>simp only[AI,aiJ]at this<;>first|exact⟨this⟩|exact⟨this.1⟩|exact⟨this.2⟩|simp[TE.sz]at hs
theorem TT.agg{t n:Nat}{e:TE}(h:tt.te.find t=some e)(hs:e.sz=some n):tT P t n:=by have:=tt.get h;cases e<;>simp only[TE.sz,Option.some.injEq]at hs<;>first|(subst hs;simp only[AI,aiJ]at this;exact⟨this.2⟩)|cases hs
theorem TT.sl{t e sz b:Nat}(h:tt.te.find t=some (.sl e sz b)):uG P t e sz/\M3 P t e sz b:=by have:=tt.get h;simp only[AI,aiJ]at this;exact⟨⟨this.2.2⟩,⟨this.2.1⟩⟩
theorem TT.lQ{t n e sz Lq:Nat}(h:tt.te.find t=some (.lQ n e sz Lq)):sq P t n e sz:=by have:=tt.get h;simp only[AI,aiJ]at this;exact⟨this.1⟩
theorem NF:∀{l:List (Nat×Option Nat)} {i j:Nat} {o:Nat×Option Nat} {t:Nat},Km P t l i=true->l[j]? =some o->Jw P t (i+j) o.1 o.2=true:=by
 intro l
 induction l with
 |nil=>intro i j o t _ h;cases h
 |cons x r ih=>
  intro i j o t h hj;simp only[Km,aiJ]at h;cases j with
  |zero=>simp at hj;subst hj;exact h.1
  |succ j=>have:=ih h.2 (by simpa using hj);rwa[Nat.add_right_comm,Nat.add_assoc]at this
theorem TT.fs{t n j:Nat}{o:Nat×Option Nat}{eI:List (Nat×Option Nat)}(h:tt.te.find t=some (.st eI n))(hj:eI[j]? =some o):Jw P t j o.1 o.2=true:=by have:=tt.get h;simp only[AI,aiJ]at this;have:=NF this.1 hj;rwa[Nat.zero_add]at this
theorem TT.CZ{t n j:Nat}{o:Nat×Option Nat}{eI:List (Nat×Option Nat)}(h:tt.te.find t=some (.st eI n))(hj:eI[j]? =some o):Fa P t j o.1:=by have:=tt.fs h hj;unfold Jw at this;rw[aiJ]at this;exact⟨this.1⟩
theorem TT.ptr{t:Nat}(h:tt.te.find t=some .ptr):Ey P t=true:=by have:=tt.get h;simp only[AI,aiJ]at this;exact this.2
end
def Fy(k l:IntKind):Bool:=Nat.beq (Ty.bU.ik k) (Ty.bU.ik l)
theorem yP{k l:IntKind}(h:Fy k l=true):k=l:=GH h
abbrev PV(G:Sg):=Option (List Bool×AV G)
def VE(l b:Bool):List Bool:=bif l then(bif b then[]else[b])else[b]
theorem CG{l b:Bool}(h:∀x∈VE l b,x=true):b=true:=by
 unfold VE at h;cases l with
 |false=>exact h b (by simp)
 |true=>cases b with
  |true=>rfl
  |false=>exact h false (by simp)
def TL(o:BinOp)(k:IntKind)(x y:Int)(q:Bool):PV G:=match o with
 | .add=>some ([], .int k (wr k (x+y)))
 | .sub=>some ([], .int k (wr k (x-y)))
 | .mul=>some ([], .int k (wr k (x*y)))
 | .quo=>some (VE q (y !=0), .int k (wr k (Int.tdiv x y)))
 | .rem=>some (VE q (y !=0), .int k (Int.tmod x y))
 | .and=>some ([], .int k (r8 k x y))
 | .or=>some ([], .int k (orI k x y))
 | .xor=>some ([], .int k (Xh k x y))
 | .andNot=>some ([], .int k (zN k x y))
 | .eql=>some ([], .bool (x==y))
 | .neq=>some ([], .bool (x !=y))
 | .lss=>some ([], .bool (decide (x<y)))
 | .leq=>some ([], .bool (decide (x<=y)))
 | .gtr=>some ([], .bool (decide (y<x)))
 | .geq=>some ([], .bool (decide (y<=x)))
 |_ =>none
def Ux:AV G->Option Bool
 | .ptr _ _ =>some true
 | .oz=>some false
 |_ =>none
def ZG:AV G->Option Bool
 | .bool b=>some b
 | .kb b=>some b
 |_ =>none
def TR{P:Program}(tt:TT P G)(o:BinOp)(T:Nat)(a b:AV G):PV G:=match ZG a,ZG b with
 |some x,some y=>match o,tt.te.find T with
  | .eql,some .bool=>some ([], .bool (x==y))
  | .neq,some .bool=>some ([], .bool (x !=y))
  |_,_ =>none
 |_,_ =>match a,b with
 |a, .oz=>match Ux a,o,tt.te.find T with
  |some b, .eql,some .ptr=>some ([], .bool (!b))
  |some b, .neq,some .ptr=>some ([], .bool b)
  |_,_,_ =>none
 |_,_ =>none
def asI:AV G->Option (IntKind×Int×Bool)
 | .int k n=>some (k,n,false)
 | .lit k n=>some (k,n,true)
 |_ =>none
def aao(o:BinOp)(k:IntKind)(x:Int)(l:IntKind)(y:Int)(q:Bool):PV G:=match o with
 | .shl=>some (VE q (decide (0<=y)), .int k (J9 k x y))
 | .shr=>some (VE q (decide (0<=y)), .int k (z6 k x y))
 |_ =>bif Fy k l then TL o k x y q else none
def TS{P:Program}(tt:TT P G)(o:BinOp)(T:Nat)(a b:AV G):PV G:=match asI a,asI b with
 |some (k,x,_),some (l,y,q)=>aao o k x l y q
 |_,_ =>TR tt o T a b
section
variable {P:Program} {J:World->Prop} {ρ:aZ} {a:Act} {w:World} {d:Option Tmp} {ty:TypeId} {ps:String} {af:Array Edge} {g:Option (Nat×Bool)}
def VOk(P:Program)(J:World->Prop)(ρ:aZ)(a:Act)(w:World)(o:Oper)(v:AV G):Prop:=∃u,(execOp a.eval o).run P w= .ok (.value u) w/\rv J ρ v u
theorem TK{o:BinOp}{T U:Nat}{k:IntKind}{x y:Int}{p q:Operand}{gs:List Bool}{v:AV G}{qq:Bool}(h:TL o k x y qq=some (gs,v))(hg:∀b∈gs,b=true)(hx:a.eval p= .int k x)(hy:a.eval q= .int k y):
  VOk P J ρ a w ⟨d, .binOp o T p q U,ty,ps,af,g⟩ v:=by
 cases o<;>simp only[TL,reduceCtorEq,Option.some.injEq,Prod.mk.injEq]at h
 case add=>obtain⟨rfl,rfl⟩:=h;exact⟨_,by simp[execOp,hx,hy,eqGuard,binOp,Op.intArith],rfl⟩
 case sub=>obtain⟨rfl,rfl⟩:=h;exact⟨_,by simp[execOp,hx,hy,eqGuard,binOp,Op.intArith],rfl⟩
 case mul=>obtain⟨rfl,rfl⟩:=h;exact⟨_,by simp[execOp,hx,hy,eqGuard,binOp,Op.intArith],rfl⟩
 case quo=>obtain⟨rfl,rfl⟩:=h;have h0:y≠0:=(by simpa using CG hg);exact⟨_,by simp[execOp,hx,hy,eqGuard,binOp,Op.intDiv,h0],rfl⟩
 case rem=>obtain⟨rfl,rfl⟩:=h;have h0:y≠0:=(by simpa using CG hg);exact⟨_,by simp[execOp,hx,hy,eqGuard,binOp,Op.intDiv,h0],rfl⟩
 case and=>obtain⟨rfl,rfl⟩:=h;exact⟨.int k (r8 k x y),by simp[execOp,hx,hy,eqGuard,binOp,Op.intBits,r8],rfl⟩
 case or=>obtain⟨rfl,rfl⟩:=h;exact⟨.int k (orI k x y),by simp[execOp,hx,hy,eqGuard,binOp,Op.intBits,orI],rfl⟩
 case xor=>obtain⟨rfl,rfl⟩:=h;exact⟨.int k (Xh k x y),by simp[execOp,hx,hy,eqGuard,binOp,Op.intBits,Xh],rfl⟩
 case andNot=>obtain⟨rfl,rfl⟩:=h;exact⟨.int k (zN k x y),by simp[execOp,hx,hy,eqGuard,binOp,Op.intBits,zN],rfl⟩
 case eql=>obtain⟨rfl,rfl⟩:=h;exact⟨_,by simp[execOp,hx,hy,eqGuard,binOp,Op.intCmp],rfl⟩
 case neq=>obtain⟨rfl,rfl⟩:=h;exact⟨_,by simp[execOp,hx,hy,eqGuard,binOp,Op.intCmp],rfl⟩
 case lss=>obtain⟨rfl,rfl⟩:=h;exact⟨_,by simp[execOp,hx,hy,eqGuard,binOp,Op.intCmp],rfl⟩
 case leq=>obtain⟨rfl,rfl⟩:=h;exact⟨_,by simp[execOp,hx,hy,eqGuard,binOp,Op.intCmp],rfl⟩
 case gtr=>obtain⟨rfl,rfl⟩:=h;exact⟨_,by simp[execOp,hx,hy,eqGuard,binOp,Op.intCmp],rfl⟩
 case geq=>obtain⟨rfl,rfl⟩:=h;exact⟨_,by simp[execOp,hx,hy,eqGuard,binOp,Op.intCmp],rfl⟩
theorem IZ{b:Bool}{u:Value}(h:rv (G:=G) J ρ (.kb b) u):u= .bool b:=by have h:[u]=_ :=h;cases h;rfl
theorem Bj{v:AV G}{b:Bool}{u:Value}(h:ZG v=some b)(hv:rv J ρ v u):u= .bool b:=by unfold ZG at h;split at h<;>cases h<;>(have hv:[u]=_ :=hv;cases hv;rfl)
theorem zF{b:Bool}{u:Value}(h:rv (G:=G) J ρ (.bool b) u):u= .bool b:=by have h:[u]=_ :=h;cases h;rfl
theorem L6{v:AV G}{b:Bool}{u:Value}(h:Ux v=some b)(hv:rv J ρ v u):(b=true->∃x y,u= .pointer (some ⟨x,y,none⟩))/\(b=false->u= .pointer none):=by
 unfold Ux at h;split at h
 ·cases h;obtain⟨⟨x,y,_,e⟩,_⟩:=hv;cases e;exact⟨λ_ =>⟨_,_,rfl⟩,nofun⟩
 ·cases h;have e:[u]=_ :=hv;cases e;exact⟨nofun,λ_ =>rfl⟩
 ·cases h
def nj(a:Act):ei:=(List.range a.tmps.size).map λd=>(d,a.tmps.getD d undef)
theorem Ej{t:Array Value}:∀{l:List Nat} {d:Nat},lk (l.map λd=>(d,t.getD d undef)) d=if d∈l then some (t.getD d undef)else none:=by
 intro l
 induction l with
 |nil=>intro d;simp[lk]
 |cons x r ih=>
  intro d;simp only[List.map_cons,lk];by_cases e:x=d
  ·subst e;simp
  ·rw[tI e,cond_false,ih]
   simp[Ne.symm e]
theorem FD(a:Act):xQ (nj a) a.tmps:=λd v h=>by
 unfold nj at h;rw[Ej]at h;split at h
 ·rename_i hm
  have hd:d<a.tmps.size:=by simpa using hm
  have h:=Option.some.inj h;rw[← h];simp[hd]
 ·cases h
theorem Px{a:Act}{x:Operand}(h:∀t,x= .tmp t->t<a.tmps.size)(hg:∀g,x≠ .global g):Bw.ev (nj a) x=some (a.eval x):=by
 cases x with
 |tmp t=>have:=h t rfl;show lk (nj a) t=_;unfold nj;rw[Ej,aiG (by simpa using this)];rfl
 |const v=>rfl
 |global g=>exact absurd rfl (hg g)
 |func f=>rfl
def VK(P:Program)(c:Cx)(o:Oper)(a:Act)(w:World)(u:Value):Prop:=∀next Q,(∀w',aQ [] w w'->next (a.put o.dst u) w')->o.wpIn (FA c.ro) 0 P a w next Q
theorem VK.run{c:Cx}{o:Oper}{u:Value}(hd:∀cc,o.op≠ .defer cc)(h:(execOp a.eval o).run P w= .ok (.value u) w):VK P c o a w u:=λ_ _ hk=>dR hd h (hk w (aQ.refl _ _))
theorem _root_.Go.Bw.VS.vk{N:Nat}{c:Cx}{D:List Deferred}{o:Oper}{F:ei}{H:List aE}{u:Value}(h:VS P N c o F H u)(hst:St N c D F H a w):VK P c o a w u:=λnext Q hk=>h D a w next Q hst hk
structure zy(J:World->Prop)(ρ:aZ)(a:Act)(E:Operand->Option (AV G)):Prop where
 ok:∀x v,E x=some v->rv J ρ v (a.eval x)
 ev:∀x v,E x=some v->Bw.ev (nj a) x=some (a.eval x)
def MZ(E:Operand->Option (AV G)):List Operand->Option (AV G)
 |[]=>some .nil
 |x::r=>match E x,MZ E r with
  |some v,some l=>some (.cons v l)
  |_,_ =>none
theorem uW{E:Operand->Option (AV G)}(h:zy J ρ a E):∀{l:List Operand} {v:AV G},MZ E l=some v->rl J ρ v (l.map a.eval)/\C0 (nj a) l=some (l.map a.eval):=by
 intro l
 induction l with
 |nil=>intro v e;cases e;exact⟨rfl,rfl⟩
 |cons x r ih=>
  intro v e;simp only[MZ]at e;split at e
  ·rename_i u k h1 h2
   cases e;obtain⟨i1,i2⟩:=ih h2;refine⟨⟨_,_,rfl,h.ok _ _ h1,i1⟩,?_⟩;simp only[C0,h.ev _ _ h1,i2,List.map_cons]
  ·cases e
def QU:AV G->Nat->Option (AV G)
 | .cons a b,i=>match i with
  |0=>some a
  |i+1=>QU b i
 |_,_ =>none
theorem Kq:∀{v:AV G} {i:Nat} {x:AV G} {l:List Value},QU v i=some x->rl J ρ v l->∃u,l[i]? =some u/\rv J ρ x u:=by
 intro v
 induction v with
 |cons a b _ rh=>
  intro i x l h hr;obtain⟨u,r,rfl,h1,h2⟩:=hr;cases i with
  |zero=>cases h;exact⟨u,rfl,h1⟩
  |succ i=>obtain⟨u',k1,k2⟩:=rh (i:=i) h h2;exact⟨u',by simpa using k1,k2⟩
 |_ =>intro i x l h;cases i<;>cases h
def mA(v:Option (AV G)):Option (IntKind×Int×Bool):=match v with
 |some v=>asI v
 |none=>none
def abB{P:Program}(tt:TT P G)(ob:Nat->Option (Ob G))(T:Nat)(v:AV G)(i:Int)(q:Bool):PV G:=match v,tt.te.find T with
 | .ptr r p,some (.lQ n _ sz _)=>some (VE q (dk i n), .ptr r (p++[.idx n sz i]))
 | .Xd e xs p,some (.lQ n _ sz _)=>some (VE q (dk i n), .Xd e xs (p++[.idx n sz i]))
 | .row r,some (.sl _ sz _)=>match ob r with
  |some (.row _ sz' _ xs)=>bif Nat.beq sz sz' then some ([dk i xs.length], .ptr r [.idx xs.length sz i])else none
  |_ =>none
 | .dat (.sl e) xs,some (.sl _ sz _)=>bif Nat.beq sz (e.L G).n then some ([dk i (xs:List (e.T G)).length], .Xd e xs [.idx (xs:List (e.T G)).length sz i])else none
 | .jB,_ =>some ([dk i 0], .gd 0 true .OQ)
 | .Dt r p m sz false i0,some (.sl _ sz' _)=>bif (Nat.beq sz 1&&Nat.beq sz' 1)&&(Nat.beq i0.toNat m&&dk i m)then some ([], .ptr r (p++[.CZ 0 i.toNat]))else none
 |_,_ =>none
def UQ:List su->Nat->Bool
 | .idx _ sz _ ::_,n=>Nat.beq sz n
 |_,_ =>false
def abA{P:Program}(tt:TT P G)(ob:Nat->Option (Ob G)):AV G->Option (AV G)
 | .ptr r p=>match ob r with
  |some (.cH _ c)=>Jo tt.F c p
  |some (.row _ sz t xs)=>bif UQ p sz then(match Gn tt.F t p with
   |some q=>some (mk q.m (q.get (xs.getD q.i.toNat default)))
   |none=>none)else none
  |_ =>none
 | .Xd e xs p=>match Gn tt.F e p with
  |some q=>some (mk q.m (q.get (xs.getD q.i.toNat default)))
  |none=>none
 |_ =>none
def AV.cw:AV G->Option Nat
 | .dat t _ =>bif t.ag then some (t.L G).n else none
 | .st a=>parts a
 |_ =>none
def vO{P:Program}(tt:TT P G)(T:Nat)(v:AV G):Bool:=match tt.te.find T with
 |some e=>match e.sz with
  |none=>v.one
  |some n=>match v.cw with
   |some m=>Nat.beq n m&& !Nat.beq n 0
   |none=>false
 |none=>false
def Mk(o:Option Nat)(y:AV G):Bool:=match o with
 |none=>y.one
 |some n=>match y.cw with
  |some m=>Nat.beq n m
  |none=>false
def pv{P:Program}(tt:TT P G)(ob:Nat->Option (Ob G))(E:Operand->Option (AV G)):Op->PV G
 | .move x=>match E x with
  |some v=>some ([],v)
  |none=>none
 | .assign x=>match E x with
  |some v=>some ([],v)
  |none=>none
 | .binOp o T x y _ =>match E x,E y with
  |some a,some b=>TS tt o T a b
  |_,_ =>none
 | .unOp .not _ x=>match E x with
  |some (.bool b)=>some ([], .bool (!b))
  |some (.kb b)=>some ([], .kb (!b))
  |_ =>none
 | .unOp .neg _ x=>match mA (E x)with
  |some (k,n,_)=>some ([], .int k (wr k (0-n)))
  |none=>none
 | .convert S T x=>match mA (E x),tt.te.find S,tt.te.find T with
  |some (k,n,_),some (.int l),some (.int k')=>bif Fy k l then some ([], .int k' (wr k' n))else none
  |_,_,_ =>none
 | .nilCheck x=>match E x with
  |some (.ptr r p)=>some ([], .ptr r p)
  |some (.fn (.func f) a c)=>some ([], .fn (.func f) a c)
  |_ =>none
 | .fieldAddr s x j=>match tt.te.find s with
  |some (.st eI _)=>match eI[j]? with
   |some o=>match E x with
    |some (.ptr r p)=>some ([], .ptr r (p++[.CZ j o.1]))
    |some (.Xd e xs p)=>some ([], .Xd e xs (p++[.CZ j o.1]))
    |_ =>none
   |none=>none
  |_ =>none
 | .field T x j=>match tt.te.find T with
  |some (.st eI _)=>match eI[j]? with
   |some o=>match E x with
    |some v=>match Jo tt.F v [.CZ j o.1]with
     |some y=>bif Mk o.2 y then some ([],y)else none
     |none=>none
    |none=>none
   |none=>none
  |_ =>none
 | .indexAddr T x i=>match E x,mA (E i)with
  |some v,some (_,i,q)=>abB tt ob T v i q
  |_,_ =>none
 | .index T x i=>match E x,mA (E i),tt.te.find T with
  |some (.dat (.lQ n e) f),some (_,i,q),some (.lQ m te sz _)=>bif Nat.beq n m&&(Nat.beq sz (e.L G).n&&vO tt te (mk e (f i.toNat)))then some (VE q (dk i n),mk e (f i.toNat))else none
  |some (.st a),some (_,i,q),some (.lQ m te sz _)=>match partAt a (i.toNat*sz)with
   |some (w,y)=>bif Nat.beq w sz&&vO tt te y then some (VE q (dk i m),y)else none
   |none=>none
  |_,_,_ =>none
 | .load T x=>match E x with
  |some v=>match abA tt ob v with
   |some y=>bif vO tt T y then some ([],y)else none
   |none=>none
  |none=>none
 | .extract x i=>match E x with
  |some (.jv l)=>match QU l i with
   |some v=>some ([],v)
   |none=>none
  |_ =>none
 | .makeFunc fn first cap=>match MZ E first.toList,MZ E cap.toList with
  |some a,some c=>some ([], .fn fn a c)
  |_,_ =>none
 | .makeInterface T x=>match E x,tt.te.find T with
  |some v,some (.int _)=>some ([], .jT T v)
  |_,_ =>none
 | .call ⟨.builtin .len,args,H6⟩=>match args.toList,H6.toList with
  |[x],[T]=>match E x,tt.te.find T with
   |some (.row r),some (.sl _ _ _)=>match ob r with
    |some (.row _ _ _ xs)=>some ([], .int .i64 (xs.length:Int))
    |_ =>none
   |some (.dat (.sl e) xs),some (.sl _ _ _)=>some ([], .int .i64 ((xs:List (e.T G)).length:Int))
   |some .jB,some (.sl _ _ _)=>some ([], .int .i64 0)
   |some (.Dt _ _ _ _ false i),some (.sl _ _ _)=>some ([], .lit .i64 ((i.toNat:Nat):Int))
   |_,_ =>none
  |_,_ =>none
 | .call ⟨.builtin .min,args,_⟩=>match args.toList with
  |[x,y]=>match mA (E x),mA (E y)with
   |some (k,a,_),some (l,b,_)=>bif Fy k l then some ([], .int k (if b<a then b else a))else none
   |_,_ =>none
  |_ =>none
 | .call ⟨.builtin .max,args,_⟩=>match args.toList with
  |[x,y]=>match mA (E x),mA (E y)with
   |some (k,a,_),some (l,b,_)=>bif Fy k l then some ([], .int k (if a<b then b else a))else none
   |_,_ =>none
  |_ =>none
 |_ =>none
end
end Go.Rw
namespace Go.Rw
open Go Go.Bw Go.RowKit
variable {G:Sg} {P:Program} {tt:TT P G} {J:World->Prop} {ρ:aZ} {a:Act} {w:World} {d:Option Tmp} {ty:TypeId} {ps:String} {af:Array Edge} {g:Option (Nat×Bool)}
 {N:Nat} {c:Cx} {D:List Deferred} {H:List aE} {E:Operand->Option (AV G)} {ob:Nat->Option (Ob G)}
structure OE(J:World->Prop)(ρ:aZ)(N:Nat)(c:Cx)(D:List Deferred)(H:List aE)(ob:Nat->Option (Ob G))(a:Act)(w:World):Prop where
 st:St N c D (nj a) H a w
 kn:Kn c H J
 ob:∀r o,ob r=some o->∃x∈H,ro J ρ r o x
def Bn(P:Program)(c:Cx)(J:World->Prop)(ρ:aZ)(o:Oper)(a:Act)(w:World)(v:AV G):Prop:=∃u,rv J ρ v u/\VK P c o a w u
theorem oX{r:Nat}{p:List su}{u:Value}(h:rv (G:=G) J ρ (.ptr r p) u):∃b o,PB ρ r p b o/\u=dA b (o+eI p)/\∀s∈p,s.ok:=by obtain⟨⟨b,o,h1,h2⟩,h3⟩:=h;cases h2;exact⟨b,o,h1,rfl,h3⟩
theorem Gk{r:Nat}{p q:List su}{b o:Nat}(h:PB ρ r p b o)(hp:∀s∈p,s.ok)(hq:∀s∈q,s.ok):rv (G:=G) J ρ (.ptr r (p++q)) (dA b (o+eI p+eI q)):=by
 refine⟨⟨b,o,h.app,by rw[LM,Nat.add_assoc]⟩,λs hs=>?_⟩;rcases List.mem_append.1 hs with h|h
 ·exact hp s h
 ·exact hq s h
theorem Ou{v:AV G}{k:IntKind}{n:Int}{q:Bool}{u:Value}(h:asI v=some (k,n,q))(hv:rv J ρ v u):u= .int k n:=by unfold asI at h;split at h<;>cases h<;>(have hv:[u]=_ :=hv;cases hv;rfl)
theorem u7(hE:zy J ρ a E){x:Operand}{k:IntKind}{n:Int}{q:Bool}(h:mA (E x)=some (k,n,q)):a.eval x= .int k n/\Bw.ev (nj a) x=some (.int k n):=by
 unfold mA at h;split at h
 ·rename_i v hx
  have e:=Ou h (hE.ok _ _ hx);exact⟨e,e▸hE.ev _ _ hx⟩
 ·cases h
theorem TQ(hm:OE (G:=G) J ρ N c D H ob a w)(hE:zy J ρ a E){o:BinOp}{T U:Nat}{x y:Operand}{va vb v:AV G}{gs:List Bool}(h:TS tt o T va vb=some (gs,v))(hg:∀b∈gs,b=true)(hx:E x=some va)(hy:E y=some vb):
  Bn P c J ρ ⟨d, .binOp o T x y U,ty,ps,af,g⟩ a w v:=by
 have ex:=hE.ok _ _ hx;have ey:=hE.ok _ _ hy;have fx:=hE.ev _ _ hx;have fy:=hE.ev _ _ hy;unfold TS at h;split at h
 ·rename_i k m _ l n qq h1 h2
  have ex:=Ou h1 ex;have ey:=Ou h2 ey;rw[ex]at fx;rw[ey]at fy;unfold aao at h;split at h
  ·cases h;exact⟨_,rfl,(Qg fx fy (aaI (CG hg))).vk hm.st⟩
  ·cases h;exact⟨_,rfl,(K6 fx fy (aaI (CG hg))).vk hm.st⟩
  ·cases hb:Fy k l with
   |false=>rw[hb]at h;cases h
   |true=>rw[hb]at h;obtain rfl:=yP hb;obtain⟨u,h1,h2⟩:=TK (J:=J) (ρ:=ρ) (w:=w) (P:=P) (d:=d) (ty:=ty) (ps:=ps) (af:=af) (g:=g) (T:=T) (U:=U) h hg ex ey;exact⟨u,h2,VK.run (by simp) h1⟩
 ·unfold TR at h
  split at h
  ·rename_i h1 h2
   have ex:=Bj h1 ex;have ey:=Bj h2 ey;rw[ex]at fx;rw[ey]at fy;split at h
   ·rename_i ht;cases h;haveI:=(tt.bool ht).1;exact⟨_,rfl,(Z0 fx fy).vk hm.st⟩
   ·rename_i ht;cases h;haveI:=(tt.bool ht).1;exact⟨_,rfl,(ZU fx fy).vk hm.st⟩
   ·cases h
  ·split at h
   ·have ey:a.eval y= .pointer none:=(List.cons.inj (show[a.eval y]=[Value.pointer none]from ey)).1
    rw[ey]at fy;split at h
    ·rename_i b hb ht
     cases h;obtain⟨p1,p2⟩:=L6 hb ex;cases b with
     |true=>obtain⟨m,n,e⟩:=p1 rfl;rw[e]at fx;exact⟨_,rfl,(Z1 (tt.ptr ht) fx fy).vk hm.st⟩
     |false=>rw[p2 rfl]at fx;exact⟨_,rfl,(Wj (tt.ptr ht) fx fy).vk hm.st⟩
    ·rename_i b hb ht
     cases h;obtain⟨p1,p2⟩:=L6 hb ex;cases b with
     |true=>obtain⟨m,n,e⟩:=p1 rfl;rw[e]at fx;exact⟨_,rfl,(ZV (tt.ptr ht) fx fy).vk hm.st⟩
     |false=>rw[p2 rfl]at fx;exact⟨_,rfl,(Wc (tt.ptr ht) fx fy).vk hm.st⟩
    ·cases h
   ·cases h
theorem He{e:Ty}{xs:List (e.T G)}{p:List su}{u:Value}(h:rv J ρ (.Xd e xs p) u):∃v ws,Bv J v (e.L G) ws xs/\u=fW v (eI p)/\(∀s∈p,s.ok)/\∃i q,p= .idx xs.length (e.L G).n i::q/\i.toNat<xs.length:=by obtain⟨v,ws,h1,h2,h3,n,sz,i,q,rfl,rfl,rfl⟩:=h;cases h2;refine⟨v,ws,h1,rfl,h3,i,q,rfl,?_⟩;exact(bW (h3 _ List.mem_cons_self)).2
theorem Ms{e:Ty}{xs:List (e.T G)}{p:List su}{v:Value}{ws:List Value}{i:Int}{q:List su}{s:su}(h1:Bv J v (e.L G) ws xs)(h3:∀s∈p,s.ok)(hp:p= .idx xs.length (e.L G).n i::q)(hs:s.ok):rv J ρ (.Xd e xs (p++[s])) (fW v (eI p+s.off)):=by
 refine⟨v,ws,h1,by rw[LM];simp[eI],λs' hs'=>?_,xs.length,(e.L G).n,i,q++[s],by rw[hp];rfl,rfl,rfl⟩;rcases List.mem_append.1 hs' with h|h
 ·exact h3 _ h
 ·simp at h;subst h;exact hs
theorem Kc{r e sz:Nat}{t:Ty}{xs:List (t.T G)}(hm:OE (G:=G) J ρ N c D H ob a w)(h:ob r=some (.row e sz t xs)):∃v ws,ρ r=some v/\tO v xs.length/\pD c H v sz xs.length ws/\(LA (t.L G) xs.length).eH J ws (λi=>xs.getD i default)/\(t.L G).n=sz:=by obtain⟨x,hx,v,ws,h1,h2,h3,h4,h5⟩:=hm.ob _ _ h;subst h2;exact⟨v,ws,h1,h3,⟨λw' _ hp=>Ro.uS (hp.holds _ hx)⟩,h4,h5⟩
theorem rU{r:Nat}{u v:Value}(h:rv (G:=G) J ρ (.row r) u)(hv:ρ r=some v):u=v:=by obtain⟨a0,n,cap,h1,h2⟩:=h;cases h2;rw[h1]at hv;exact Option.some.inj hv
theorem ZW{F:ei}{x y:Operand}{t e n b o m:Nat}{k:IntKind}{i:Int}[ht:uG P t e 1](hx:Bw.ev F x=some (.slice (some ⟨b,o,none⟩) n n))(hy:Bw.ev F y=some (.int k i))(hi:i=(m:Int))(hm:m<n):
  VS P N c ⟨d, .indexAddr t x y,ty,ps,af,g⟩ F H (dA b (o+m)):=
 aH (by simp) λa w hf _ _ =>by obtain⟨j,h1,h2,h3⟩:=uG.get ht.ok;subst hi;simp[execOp,aI hf hx,aI hf hy,Instr.indexAt,asIntOf,run_underlying h1,sizeOf,typeInfo,h2,h3,Addr.add_lit,dA];omega
theorem XX(hm:OE (G:=G) J ρ N c D H ob a w)(hE:zy J ρ a E){T:Nat}{x y:Operand}{va v:AV G}{k:IntKind}{i:Int}{qq:Bool}{gs:List Bool}(h:abB tt ob T va i qq=some (gs,v))(hg:∀b∈gs,b=true)(hx:E x=some va)(hy:mA (E y)=some (k,i,qq)):
  Bn P c J ρ ⟨d, .indexAddr T x y,ty,ps,af,g⟩ a w v:=by
 have ex:=hE.ok _ _ hx;have fx:=hE.ev _ _ hx;have fy:=(u7 hE hy).2;unfold abB at h;split at h
 ·rename_i r p n _ sz _ ht
  cases h;have hi:=CG hg;obtain⟨b,o,h1,h2,h3⟩:=oX ex;rw[h2]at fx;haveI:=tt.lQ ht;refine⟨dA b (o+eI p+i.toNat*sz),?_,(MO (m:=i.toNat) fx fy (bW hi).1 (bW hi).2).vk hm.st⟩;exact Gk h1 h3 (q:=[.idx n sz i]) (λs hs=>by simp at hs;subst hs;exact hi)
 ·rename_i e xs p n _ sz _ ht
  cases h;have hi:=CG hg;obtain⟨vv,ws,h1,h2,h3,j,q,h4,h5⟩:=He ex;rw[h2]at fx;haveI:=tt.lQ ht;haveI:=hm.kn;refine⟨fW vv (eI p+i.toNat*sz),Ms h1 h3 h4 (s:= .idx n sz i) hi,(ZX (m:=i.toNat) h1 fx fy h5 (bW hi).1 (bW hi).2).vk hm.st⟩
 ·rename_i r _ sz _ ht
  split at h
  ·rename_i e' sz' t xs ho
   cases hb:Nat.beq sz sz' with
   |false=>rw[hb]at h;cases h
   |true=>rw[hb]at h;cases h;obtain rfl:=aiI hb;have hi:=hg _ List.mem_cons_self;obtain⟨vv,ws,h1,h2,h3,h4,h5⟩:=Kc hm ho;have e1:=rU ex h1;rw[e1]at fx;haveI:=(tt.sl ht).1;obtain⟨gb,off,cap,e2,_⟩:=((h3.ro w hm.st.si hm.st.hp).at (bW hi).2);subst e2;refine⟨_,?_,(wT (m:=i.toNat) fx fy (bW hi).1 (bW hi).2).vk hm.st⟩;obtain⟨a0,cp,e4⟩:=h2;have e5:xs.length=_ :=rfl;refine⟨⟨gb,off, .inr ⟨_,_,_,_,_,_,h1,rfl,(bW hi).2⟩,?_⟩,λs hs=>by simp at hs;subst hs;exact hi⟩;simp[fW,eI,su.off]
  ·cases h
 ·rename_i e xs _ sz _ ht
  cases hb:Nat.beq sz (e.L G).n with
  |false=>rw[hb]at h;cases h
  |true=>rw[hb]at h;cases h;have hs:=aiI hb;have hi:=hg _ List.mem_cons_self;obtain⟨u',e1,hr,_,hc⟩:=ex;cases e1;have hc:=hc rfl;obtain⟨v',ws,e2,hf⟩:=hr;rw[hc]at e2;cases e2;haveI:=(tt.sl ht).1;haveI:=hm.kn;refine⟨_,?_,(ads (m:=i.toNat) hf hs.symm fx fy (bW hi).1 (bW hi).2).vk hm.st⟩;refine⟨_,ws,hf,by simp[eI,su.off],λs hs'=>by simp at hs';subst hs';exact hi,_,_,_,[],rfl,rfl,hs⟩
 ·cases h
  have h0:=(bW (hg _ List.mem_cons_self)).2;exact absurd h0 (Nat.not_lt_zero _)
 ·rename_i r p m sz i0 _ sz' _ ht
  cases hb:((Nat.beq sz 1&&Nat.beq sz' 1)&&(Nat.beq i0.toNat m&&dk i m))with
  |false=>rw[hb]at h;cases h
  |true=>rw[hb]at h;cases h;simp only[aiJ]at hb;obtain⟨⟨b1,b2⟩,b3,b4⟩:=hb;obtain rfl:=aiI b1;obtain rfl:=aiI b2;obtain⟨h1,h2⟩:=bW b4;obtain⟨⟨b,o,e1,e2⟩,e3,_⟩:=ex;have e2:=(List.cons.inj e2).1;rw[e2,B5,aiI b3]at fx;haveI:=(tt.sl ht).1;refine⟨dA b (o+eI p+i.toNat),Gk e1 e3 (q:=[.CZ 0 i.toNat]) (λs hs=>by simp at hs;subst hs;trivial),?_⟩;exact(ZW fx fy h1 h2).vk hm.st
 ·cases h
theorem DG{T:Nat}{v:AV G}{u:Value}(h:vO tt T v=true)(hv:rv J ρ v u):(p8 P T/\u.cells= #[u]/\v.one=true)\/∃n,tT P T n/\u.cells.size=n/\n≠0/\u= .agg u.cells:=by
 unfold vO at h;split at h
 ·rename_i e he
  split at h
  ·rename_i hs;exact .inl ⟨tt.one he hs,(Dv h hv).1,h⟩
  ·rename_i n hs
   split at h
   ·rename_i m hc
    simp only[aiJ,Bool.not_eq_true']at h;obtain rfl:=aiI h.1;have hn:n≠0:=λe0=>by rw[e0]at h;simp at h
    have hag:=tt.agg he hs;refine .inr ⟨n,hag,?_,hn,?_⟩
    ·unfold AV.cw at hc
     split at hc
     ·rename_i t x
      cases ha:t.ag with
      |false=>rw[ha]at hc;cases hc
      |true=>rw[ha]at hc;cases hc;obtain⟨u',e1,h1,h2,_⟩:=hv;cases e1;rw[← Array.length_toList];exact(t.L G).len h1
     ·obtain⟨cs,e1,h1,_⟩:=hv
      cases e1;exact yE hc h1
     ·cases hc
    ·unfold AV.cw at hc
     split at hc
     ·rename_i t x
      cases ha:t.ag with
      |false=>rw[ha]at hc;cases hc
      |true=>obtain⟨u',e1,h1,h2,_⟩:=hv;cases e1;obtain⟨cs,rfl⟩:=h2 ha;rfl
     ·obtain⟨cs,e1,h1,_⟩:=hv
      cases e1;rfl
     ·cases hc
   ·cases h
 ·cases h
theorem yy{cs:List Value}{o:Nat}{u:Value}(h:(cs.drop o).take 1=[u]):cs[o]? =some u:=by
 have h2:((cs.drop o).take 1)[0]? =some u:=by rw[h];rfl
 rw[List.getElem?_take,aiG (by decide),List.getElem?_drop]at h2;exact h2
theorem abW(hm:OE (G:=G) J ρ N c D H ob a w){T b o T':Nat}{x:Operand}{cs:List Value}{v:AV G}{u:Value}(hfit:vO tt T v=true)(hv:rv J ρ v u)(hx:Bw.ev (nj a) x=some (dA b o))(hc:aE.cells b T' cs∈H)(h:(cs.drop o).take u.cells.size=u.cells.toList):
  Bn P c J ρ ⟨d, .load T x,ty,ps,af,g⟩ a w v:=by
 haveI:rq H b T' cs:=⟨hc⟩;rcases DG hfit hv with⟨h1,h2,_⟩|⟨n,h1,h2,_,h3⟩
 ·haveI:=h1
  refine⟨u,hv,(se hx (yy ?_)).vk hm.st⟩;rw[h2]at h;exact h
 ·haveI:=h1
  subst h2;have e:u= .agg u.cells.toList.toArray:=by rw[Array.toArray_toList];exact h3
  refine⟨.agg u.cells.toList.toArray,by rw[← e];exact hv,(ED hx h (by simp)).vk hm.st⟩
theorem Ut(hm:OE (G:=G) J ρ N c D H ob a w){T o sz n:Nat}{x:Operand}{vv:Value}{ws:List Value}{v:AV G}{u:Value}(hfit:vO tt T v=true)(hv:rv J ρ v u)(hx:Bw.ev (nj a) x=some (fW vv o))(hr:pD c H vv sz n ws)(h:(ws.drop o).take u.cells.size=u.cells.toList):
  Bn P c J ρ ⟨d, .load T x,ty,ps,af,g⟩ a w v:=by
 haveI:=hr;rcases DG hfit hv with⟨h1,h2,_⟩|⟨n,h1,h2,h0,h3⟩
 ·haveI:=h1
  refine⟨u,hv,(EE hx (yy ?_)).vk hm.st⟩;rw[h2]at h;exact h
 ·haveI:=h1
  subst h2;have e:u= .agg u.cells.toList.toArray:=by rw[Array.toArray_toList];exact h3
  refine⟨.agg u.cells.toList.toArray,by rw[← e];exact hv,(K7 hx h (by simp) (by omega)).vk hm.st⟩
theorem LJ{e:Ty}{n:Nat}{i:Int}{r:List su}{q:PL G e}{ws:List Value}{xs:List (e.T G)}{p:List su}(hp:p= .idx n (e.L G).n i::r)(hn:i.toNat<xs.length)(h:Gn tt.F e p=some q)(hs:∀s∈p,s.ok)(hr:(LA (e.L G) xs.length).eH J ws (λi=>xs.getD i default)):
  ∃u,rv J ρ (mk q.m (q.get (xs.getD q.i.toNat default))) u/\(ws.drop (eI p)).take u.cells.size=u.cells.toList:=by
 subst hp;obtain⟨e1,e3⟩:=LH h hs rfl hn;have hg:=e3.get hr;obtain⟨u,k1,k2⟩:=Fu hg;have hl:=(q.m.L G).len hg;rw[← k1,Array.length_toList]at hl;rw[e1];exact⟨u,IY k2,by rw[hl,k1]⟩
theorem XW(hm:OE (G:=G) J ρ N c D H ob a w)(hE:zy J ρ a E){T:Nat}{x:Operand}{va v:AV G}(h:abA tt ob va=some v)(hf:vO tt T v=true)(hx:E x=some va):Bn P c J ρ ⟨d, .load T x,ty,ps,af,g⟩ a w v:=by
 have ex:=hE.ok _ _ hx;have fx:=hE.ev _ _ hx;unfold abA at h;split at h
 ·rename_i r p
  obtain⟨b,o,h1,h2,h3⟩:=oX ex;rw[h2]at fx;split at h
  ·rename_i T' cc ho
   obtain⟨y,hy,b',uu,k1,rfl,k3⟩:=hm.ob _ _ ho;have eb:b=b'/\o=0:=by rcases h1 with h1|⟨n,cap,_,_,_,_,h1,_⟩<;>rw[h1]at k1<;>simp[dA]at k1;exact k1
   obtain⟨rfl,rfl⟩:=eb;rw[Nat.zero_add]at fx;obtain⟨u,m1,m2,m3⟩:=GA h k3 h3;exact abW hm hf m1 fx hy m2
  ·rename_i _ sz t xs ho
   cases hz:UQ p sz with
   |false=>rw[hz]at h;cases h
   |true=>
    rw[hz]at h;simp only[cond_true]at h;split at h
    ·rename_i q hq
     cases h;obtain⟨vv,ws,k1,k2,k3,k4,k5⟩:=Kc hm ho;have hp:∃n cap n' sz i q',ρ r=some (.slice (some ⟨b,o,none⟩) n cap)/\p= .idx n' sz i::q'/\i.toNat<n:=by
      rcases h1 with h1|h1
      ·obtain⟨a0,cp,e⟩:=k2
       rw[h1,e]at k1;cases k1
      ·exact h1
     obtain⟨n,cap,n',sz',i,q',e1,e2,e3⟩:=hp;subst e2;obtain rfl:=aiI (show Nat.beq sz' sz=true from hz);rw[e1]at k1;cases k1;obtain⟨a0,cp,e4⟩:=k2;cases e4;subst k5;obtain⟨u,m1,m2⟩:=LJ rfl e3 hq h3 k4;exact Ut (vv:= .slice (some ⟨b,o,none⟩) xs.length cap) (o:=eI (su.idx n' (Ty.L G t).n i::q')) hm hf m1 fx k3 m2
    ·cases h
  ·cases h
 ·rename_i e xs p
  obtain⟨vv,ws,h1,h2,h3,i,q',h4,h5⟩:=He ex;rw[h2]at fx;split at h
  ·rename_i q hq
   cases h;obtain⟨u,m1,m2⟩:=LJ h4 h5 hq h3 h1.eH;haveI:=hm.kn;exact Ut hm hf m1 fx h1.at m2
  ·cases h
 ·cases h
theorem ZZ{T j:Nat}{o:Nat×Option Nat}{F:ei}{x:Operand}{u v:Value}(hf:Jw P T j o.1 o.2=true)(hx:Bw.ev F x=some u)(hu:∃cs:List Value,u= .agg cs.toArray)(hv:(u.cells.toList.drop o.1).take v.cells.size=v.cells.toList)
  (h1:o.2=none->v.cells= #[v])(h2:∀n,o.2=some n->v.cells.size=n/\v= .agg v.cells):VS P N c ⟨d, .field T x j,ty,ps,af,g⟩ F H v:=
 aH (by simp) λa w hfr _ _ =>by
  obtain⟨cs,rfl⟩:=hu;unfold Jw at hf;rw[aiJ]at hf;have hf:=hf.2;split at hf
  ·rename_i fs e1
   split at hf
   ·rename_i fl e2
    rw[aiJ]at hf;have ho:=aiI hf.1;have hf:=hf.2;have hp:(part fl.type cs.toArray fl.offset).run P w= .ok v w:=by
     cases q:o.2 with
     |none=>rw[q]at hf;haveI:p8 P fl.type:=⟨hf⟩;have hag:(isAgg fl.type).run P w= .ok false w:=q8 w;have:=h1 q;rw[this]at hv;have hv:(cs.drop o.1).take 1=[v]:=hv;have:=yy hv;simp[part,hag,ho,this]
     |some n=>
      rw[q]at hf;haveI:tT P fl.type n:=⟨hf⟩;have hag:(isAgg fl.type).run P w= .ok true w:=s8 w;have hs:(sizeOf fl.type).run P w= .ok n w:=Bw.A3 w;obtain⟨q1,q2⟩:=h2 n q;rw[q1]at hv;have hv:(cs.drop o.1).take n=v.cells.toList:=hv;have:(cs.toArray.extract o.1 (o.1+n))=v.cells:=by apply Array.ext';rw[← hv];simp[List.extract_eq_take_drop]
      simp only[part,Sem.run_bind,hag,Result.andThen_ok,if_true,hs,ho,Sem.run_pure,this];rw[← q2]
    have ha:(asAgg (.agg cs.toArray)).run P w= .ok cs.toArray w:=rfl;simp[execOp,aI hfr hx,Instr.field,run_underlying e1,e2,ha,hp]
   ·cases hf
  ·cases hf
theorem Yz{J:World->Prop}{ρ:aZ}{F:OH G}{v y:AV G}{s:su}{u:Value}(h:Jo F v [s]=some y)(hv:rv J ρ v u):∃cs:List Value,u= .agg cs.toArray:=by
 cases v with
 |dat t x=>
  obtain⟨u',e,_,h1,_⟩:=hv;cases e;cases t with
  |st i=>exact h1 rfl
  |lQ n e=>exact h1 rfl
  |int k=>simp[Jo,path]at h
  |bool=>simp[Jo,path]at h
  |sl e=>simp[Jo,path]at h
 |st a=>obtain⟨cs,e,_⟩:=hv;cases e;exact⟨cs,rfl⟩
 |_ =>simp[Jo]at h
theorem acF{y:AV G}{o:Option Nat}{u:Value}(h:Mk o y=true)(hv:rv J ρ y u):(o=none->u.cells= #[u])/\∀n,o=some n->u.cells.size=n/\u= .agg u.cells:=by
 cases o with
 |none=>exact⟨λ_ =>(Dv h hv).1,nofun⟩
 |some n=>
  refine⟨nofun,λn' e=>?_⟩;cases e;simp only[Mk]at h;split at h
  ·rename_i m hc
   obtain rfl:=aiI h;unfold AV.cw at hc;split at hc
   ·rename_i t x
    cases ha:t.ag with
    |false=>rw[ha]at hc;cases hc
    |true=>rw[ha]at hc;cases hc;obtain⟨u',e1,h1,h2,_⟩:=hv;cases e1;obtain⟨cs,e2⟩:=h2 ha;refine⟨by rw[← Array.length_toList];exact(t.L G).len h1,?_⟩;subst e2;rfl
   ·obtain⟨cs,e1,h1,_⟩:=hv
    cases e1;exact⟨yE hc h1,rfl⟩
   ·cases hc
  ·cases h
theorem TC(hm:OE (G:=G) J ρ N c D H ob a w)(hE:zy J ρ a E){op:Op}{v:AV G}{gs:List Bool}(h:pv tt ob E op=some (gs,v))(hg:∀b∈gs,b=true):Bn P c J ρ ⟨d,op,ty,ps,af,g⟩ a w v:=by
 unfold pv at h;split at h
 ·split at h
  ·rename_i v' hx;cases h;exact⟨_,hE.ok _ _ hx,(cF (hE.ev _ _ hx)).vk hm.st⟩
  ·cases h
 ·split at h
  ·rename_i v' hx;cases h;exact⟨_,hE.ok _ _ hx,(sD (hE.ev _ _ hx)).vk hm.st⟩
  ·cases h
 ·split at h
  ·rename_i va vb hx hy;exact TQ hm hE h hg hx hy
  ·cases h
 ·split at h
  ·rename_i b hx
   cases h;have e:=zF (hE.ok _ _ hx);have f:=hE.ev _ _ hx;rw[e]at f;exact⟨_,rfl,(DV f).vk hm.st⟩
  ·rename_i b hx
   cases h;have e:=IZ (hE.ok _ _ hx);have f:=hE.ev _ _ hx;rw[e]at f;exact⟨_,rfl,(DV f).vk hm.st⟩
  ·cases h
 ·split at h
  ·rename_i k n _ hx
   cases h;exact⟨_,rfl,(Wg (u7 hE hx).2 rfl).vk hm.st⟩
  ·cases h
 ·split at h
  ·rename_i k n _ l k' hx h1 h2
   cases hb:Fy k l with
   |false=>rw[hb]at h;cases h
   |true=>rw[hb]at h;cases h;obtain rfl:=yP hb;have f:=(u7 hE hx).2;haveI:=(tt.int h1).1;haveI:=(tt.int h2).1;exact⟨_,rfl,(Qk f rfl).vk hm.st⟩
  ·cases h
 ·split at h
  ·rename_i r p hx
   cases h;have e:=hE.ok _ _ hx;have f:=hE.ev _ _ hx;obtain⟨b,o,_,e2,_⟩:=oX e;refine⟨_,e,?_⟩;rw[e2]at f ⊢;exact(ze f).vk hm.st
  ·rename_i ff aa cc hx
   cases h;have e:=hE.ok _ _ hx;refine⟨_,e,VK.run (by simp) ?_⟩;obtain⟨fs,cs,e2,_⟩:=e;have e2:=(List.cons.inj e2).1;simp[execOp,e2]
  ·cases h
 ·split at h
  ·rename_i eI n ht
   split at h
   ·rename_i o ho
    haveI:=tt.CZ ht ho;split at h
    ·rename_i r p hx
     cases h;have f:=hE.ev _ _ hx;obtain⟨b,o',h1,h2,h3⟩:=oX (hE.ok _ _ hx);rw[h2]at f;refine⟨_,Gk h1 h3 (q:=[.CZ _ o.1]) (λs hs=>by simp at hs;subst hs;trivial),?_⟩;exact(CI f).vk hm.st
    ·rename_i e xs p hx
     cases h;have f:=hE.ev _ _ hx;obtain⟨vv,ws,h1,h2,h3,i,q,h4,h5⟩:=He (hE.ok _ _ hx);rw[h2]at f;haveI:=hm.kn;exact⟨_,Ms h1 h3 h4 (s:= .CZ _ o.1) trivial,(ZY h1 f h5).vk hm.st⟩
    ·cases h
   ·cases h
  ·cases h
 ·split at h
  ·rename_i eI n ht
   split at h
   ·rename_i o ho
    split at h
    ·rename_i va hx
     split at h
     ·rename_i y hy
      cases hb:Mk o.2 y with
      |false=>rw[hb]at h;cases h
      |true=>rw[hb]at h;cases h;have e:=hE.ok _ _ hx;obtain⟨u,k1,k2,k3⟩:=GA hy e (λs hs=>by simp at hs;subst hs;trivial);obtain⟨q1,q2⟩:=acF hb k1;exact⟨u,k1,(ZZ (tt.fs ht ho) (hE.ev _ _ hx) (Yz hy e) k2 q1 q2).vk hm.st⟩
     ·cases h
    ·cases h
   ·cases h
  ·cases h
 ·split at h
  ·rename_i va k i _ hx hy;exact XX hm hE h hg hx hy
  ·cases h
 ·split at h
  ·rename_i n e f k i _ m te sz Lq hx hy ht
   cases hb:(Nat.beq n m&&(Nat.beq sz (e.L G).n&&vO tt te (mk e (f i.toNat))))with
   |false=>rw[hb]at h;cases h
   |true=>
    rw[hb]at h;cases h;simp only[aiJ]at hb;obtain rfl:=aiI hb.1;have hs:=aiI hb.2.1;have hi:=CG hg;have fx:=hE.ev _ _ hx;have fy:=(u7 hE hy).2;haveI:=tt.lQ ht;have ex:=hE.ok _ _ hx;obtain⟨u',e1,h1,h2,_⟩:=ex;cases e1;obtain⟨cs,e2⟩:=h2 rfl;rw[e2]at fx h1;have hp:=aW.idx (L:=e.L G) (m:=n) i.toNat (bW hi).2 hs;have hgt:=hp.get h1;obtain⟨u,k1,k2⟩:=Fu hgt;have hl:=(e.L G).len hgt;have hv:rv J ρ (mk e (f i.toNat)) u:=IY k2;rcases DG hb.2.2 hv with⟨m1,m2,_⟩|⟨q,m1,m2,_,m3⟩
    ·haveI:=m1
     rw[m2]at k1;have hn:(e.L G).n=1:=by rw[← hl, ← k1];rfl
     rw[hn]at k1;exact⟨u,hv,(JC (m:=i.toNat) fx fy (bW hi).1 (bW hi).2 (yy k1.symm)).vk hm.st⟩
    ·haveI:=m1
     have e3:u= .agg u.cells.toList.toArray:=by rw[Array.toArray_toList];exact m3
     refine⟨.agg u.cells.toList.toArray,by rw[← e3];exact hv,(JB (m:=i.toNat) (q:=q) (us:=u.cells.toList) fx fy (bW hi).1 (bW hi).2 ?_).vk hm.st⟩;rw[hs];rw[hs]at k1;exact k1.symm
  ·rename_i pa k i _ m te sz Lq hx hy ht
   split at h
   ·rename_i wd y hp
    cases hb:(Nat.beq wd sz&&vO tt te y)with
    |false=>rw[hb]at h;cases h
    |true=>
     rw[hb]at h;cases h;simp only[aiJ]at hb;obtain rfl:=aiI hb.1;have hi:=CG hg;have fx:=hE.ev _ _ hx;have fy:=(u7 hE hy).2;haveI:=tt.lQ ht;obtain⟨cs,e1,h1,_⟩:=hE.ok _ _ hx;rw[(List.cons.inj e1).1]at fx;obtain⟨u,hv,k1,k2,_⟩:=Du hp h1;rcases DG hb.2 hv with⟨m1,m2,_⟩|⟨q,m1,m2,_,m3⟩
     ·haveI:=m1
      rw[m2]at k1;have hn:wd=1:=by rw[← k2, ← Array.length_toList,m2];rfl
      subst hn;exact⟨u,hv,(JC (m:=i.toNat) fx fy (bW hi).1 (bW hi).2 (yy k1)).vk hm.st⟩
     ·haveI:=m1
      have e3:u= .agg u.cells.toList.toArray:=by rw[Array.toArray_toList];exact m3
      exact⟨.agg u.cells.toList.toArray,by rw[← e3];exact hv,(JB (m:=i.toNat) (q:=q) (us:=u.cells.toList) fx fy (bW hi).1 (bW hi).2 k1).vk hm.st⟩
   ·cases h
  ·cases h
 ·split at h
  ·rename_i va hx
   split at h
   ·rename_i y hy
    cases hb:vO tt _ y with
    |false=>rw[hb]at h;cases h
    |true=>rw[hb]at h;cases h;exact XW hm hE hy hb hx
   ·cases h
  ·cases h
 ·split at h
  ·rename_i l hx
   split at h
   ·rename_i v' hn
    cases h;obtain⟨vs,e,hl⟩:=hE.ok _ _ hx;have f:=hE.ev _ _ hx;rw[(List.cons.inj e).1]at f;obtain⟨u,h1,h2⟩:=Kq hn hl;exact⟨u,h2,(p7 f h1).vk hm.st⟩
   ·cases h
  ·cases h
 ·rename_i fn first cap
  split at h
  ·rename_i aa cc h1 h2
   cases h;obtain⟨i1,_⟩:=uW hE h1;obtain⟨j1,_⟩:=uW hE h2;refine⟨.func fn (first.map a.eval) (cap.map a.eval),⟨_,_,?_,i1,j1⟩,VK.run (by simp) (by simp[execOp,Instr.makeFunc])⟩;congr 1;simp[← Array.toList_map]
  ·cases h
 ·split at h
  ·rename_i v' k hx ht
   cases h;haveI:=(tt.int ht).1;exact⟨_,⟨_,rfl,hE.ok _ _ hx⟩,VK.run (by simp) (by simp[execOp,Instr.makeInterface,run_underlying (Wo.ok (k:=k))])⟩
  ·cases h
 ·rename_i args H6
  obtain⟨args⟩:=args;obtain⟨H6⟩:=H6;split at h
  ·rename_i x T ea et
   dsimp only at ea et;subst ea et;split at h
   ·rename_i r e sz b hx ht
    split at h
    ·rename_i e' sz' t xs ho
     cases h;obtain⟨vv,ws,h1,h2,h3,h4,h5⟩:=Kc hm ho;have fx:=hE.ev _ _ hx;rw[rU (hE.ok _ _ hx) h1]at fx;haveI:=(tt.sl ht).1;exact⟨_,rfl,(Oz fx).vk hm.st⟩
    ·cases h
   ·rename_i e xs e' sz b hx ht
    cases h;obtain⟨u',e1,hr,_,hc⟩:=hE.ok _ _ hx;cases e1;obtain⟨v',ws,e2,hf⟩:=hr;rw[hc rfl]at e2;cases e2;haveI:=(tt.sl ht).1;haveI:=hm.kn;exact⟨_,rfl,(Qj hf (hE.ev _ _ hx)).vk hm.st⟩
   ·rename_i e sz b hx ht
    cases h;have f:=hE.ev _ _ hx;have e1:a.eval x= .slice none 0 0:=(List.cons.inj (show[a.eval x]=[Value.slice none 0 0]from hE.ok _ _ hx)).1;rw[e1]at f;haveI:=(tt.sl ht).1;haveI:=hm.kn;exact⟨_,rfl,(Qj (A:=J) (L:=LB) (ws:=[]) (xs:=[]) Bv.nil f).vk hm.st⟩
   ·rename_i r p m sz' i e sz b hx ht
    cases h;have f:=hE.ev _ _ hx;obtain⟨⟨b',o,e1,e2⟩,e3,_⟩:=hE.ok _ _ hx;have e2:=(List.cons.inj e2).1;rw[e2,B5]at f;haveI:=(tt.sl ht).1;exact⟨_,rfl,(RJ f).vk hm.st⟩
   ·cases h
  ·cases h
 ·rename_i args H6
  obtain⟨args⟩:=args;split at h
  ·rename_i x y ea
   dsimp only at ea;subst ea;split at h
   ·rename_i k m _ l n _ hx hy
    cases hb:Fy k l with
    |false=>rw[hb]at h;cases h
    |true=>rw[hb]at h;cases h;obtain rfl:=yP hb;have fx:=(u7 hE hx).2;have fy:=(u7 hE hy).2;exact⟨_,rfl,(adl fx fy).vk hm.st⟩
   ·cases h
  ·cases h
 ·rename_i args H6
  obtain⟨args⟩:=args;split at h
  ·rename_i x y ea
   dsimp only at ea;subst ea;split at h
   ·rename_i k m _ l n _ hx hy
    cases hb:Fy k l with
    |false=>rw[hb]at h;cases h
    |true=>rw[hb]at h;cases h;obtain rfl:=yP hb;have fx:=(u7 hE hx).2;have fy:=(u7 hE hy).2;exact⟨_,rfl,(adn fx fy).vk hm.st⟩
   ·cases h
  ·cases h
 ·cases h
end Go.Rw
namespace Go.Rw
open Go Go.Bw Go.RowKit
variable {G:Sg} {P:Program} {tt:TT P G} {J J':World->Prop} {ρ ρ':aZ} {a:Act} {w:World} {d:Option Tmp} {ty:TypeId} {ps:String} {af:Array Edge} {g:Option (Nat×Bool)}
 {N:Nat} {c:Cx} {HK X:List aE} {C:CC G} {S:AS G}
def T9(C:CC G)(S:AS G)(r:Nat):Option (Ob G):=match cU S.O r with
 |some o=>some o
 |none=>cU (lJ C) r
theorem RO.get{O:Os G}{H:List aE}(h:RO J ρ O H){r:Nat}{o:Ob G}(e:cU O r=some o):∃(k:Nat) (x:aE),H[k]? =some x/\ro J ρ r o x:=by
 induction h with
 |nil=>cases e
 |@cons r0 o0 x0 O H h0 _ ih=>
  simp only[cU]at e;cases hb:Nat.beq r0 r with
  |true=>rw[hb]at e;cases e;obtain rfl:=aiI hb;exact⟨0,x0,rfl,h0⟩
  |false=>rw[hb]at e;obtain⟨k,x,k1,k2⟩:=ih e;exact⟨k+1,x,by simpa using k1,k2⟩
def pH:Os G->Nat->Ob G->Os G
 |[],_,_ =>[]
 |(k,v)::r,d,o=>bif Nat.beq k d then(k,o)::r else(k,v)::pH r d o
theorem RO.set{O:Os G}{H:List aE}(h:RO J ρ O H){r:Nat}{o:Ob G}(e:cU O r=some o):∃(k:Nat) (x:aE),H[k]? =some x/\ro J ρ r o x/\∀o' x',ro J ρ r o' x'->RO J ρ (pH O r o') (H.set k x'):=by
 induction h with
 |nil=>cases e
 |@cons r0 o0 x0 O H h0 hr ih=>
  simp only[cU]at e;cases hb:Nat.beq r0 r with
  |true=>rw[hb]at e;cases e;obtain rfl:=aiI hb;refine⟨0,x0,rfl,h0,λo' x' h'=>?_⟩;simp only[pH,hb,cond_true];exact .cons h' hr
  |false=>rw[hb]at e;obtain⟨k,x,k1,k2,k3⟩:=ih e;refine⟨k+1,x,by simpa using k1,k2,λo' x' h'=>?_⟩;simp only[pH,hb,cond_false];exact .cons h0 (k3 o' x' h')
def wK:Os G->Nat->Os G
 |[],_ =>[]
 |(k,v)::r,d=>bif Nat.beq k d then r else(k,v)::wK r d
theorem RO.Zn{O:Os G}{H:List aE}(h:RO J ρ O H){r:Nat}{o:Ob G}(e:cU O r=some o):∃(k:Nat) (x:aE),H[k]? =some x/\ro J ρ r o x/\RO J ρ (wK O r) (H.eraseIdx k):=by
 induction h with
 |nil=>cases e
 |@cons r0 o0 x0 O H h0 hr ih=>
  simp only[cU]at e;cases hb:Nat.beq r0 r with
  |true=>rw[hb]at e;cases e;obtain rfl:=aiI hb;refine⟨0,x0,rfl,h0,?_⟩;simp only[wK,hb,cond_true];exact hr
  |false=>rw[hb]at e;obtain⟨k,x,k1,k2,k3⟩:=ih e;refine⟨k+1,x,by simpa using k1,k2,?_⟩;simp only[wK,hb,cond_false];exact .cons h0 k3
theorem RO.app{O O':Os G}{H H':List aE}(h:RO J ρ O H)(k:RO J ρ O' H'):RO J ρ (O++O') (H++H'):=by
 induction h with
 |nil=>exact k
 |cons h _ ih=>exact .cons h ih
theorem Rl.st(h:Rl c N ρ J HK X C S a w):∃HS,RO J ρ S.O HS/\St N c a.defers (nj a) (HS++(HK++X)) a w/\OE J ρ N c a.defers (HS++(HK++X)) (T9 C S) a w:=by
 obtain⟨HS,h1,h3⟩:=h.hp;have hst:St N c a.defers (nj a) (HS++(HK++X)) a w:=⟨h.tm,FD a,rfl,h.si.s,h3⟩;refine⟨HS,h1,hst,hst,⟨λw' _ hp=>h.kn.to w' λr hr=>⟨hp.holds r (by simp[hr]),λb hb=>(hp.own r (by simp[hr]) b hb).2⟩⟩,λr o e=>?_⟩;unfold T9 at e;split at e
 ·rename_i o' he
  cases e;obtain⟨k,x,k1,k2⟩:=h1.get he;exact⟨x,aiN _ (List.mem_of_getElem? k1),k2⟩
 ·obtain⟨x,k1,k2⟩:=h.kc r o e
  exact⟨x,aiM _ (aiN _ k1),k2⟩
def chain(C:CC G)(S:AS G):Nat->Nat->Bool->List (Nat×Bool)
 |0,j,w=>[(j,w)]
 |n+1,j,w=>(j,w)::match Mq C S (.tmp j)with
  |some (.gd k v _)=>chain C S n k v
  |_ =>[]
def UA:List (Nat×Bool)->Nat->Bool->Bool
 |[],_,_ =>false
 |(k,v)::r,j,w=>(Nat.beq k j&&(v==w))||UA r j w
def Xa(C:CC G)(S:AS G):Nat->Nat->Bool->Option Bool
 |0,_,_ =>none
 |n+1,j,w=>match Mq C S (.tmp j)with
  |some (.kb b)=>some (b==w)
  |some (.gd k v x)=>match Xa C S n k v with
   |some false=>some false
   |some true=>(match x with
    | .kb b=>some (b==w)
    |_ =>none)
   |none=>none
  |_ =>none
def isT:Option Bool->Bool
 |some b=>b
 |none=>false
def fR(C:CC G)(S:AS G)(ch:List (Nat×Bool))(x:Operand):Option (AV G):=match Mq C S x with
 |some (.gd j w v)=>bif UA ch j w||isT (Xa C S 8 j w)then some v else none
 |r=>r
theorem ab1{p:Nat->Bool->Prop}:∀{l:List (Nat×Bool)} {j:Nat} {w:Bool},UA l j w=true->(∀q∈l,p q.1 q.2)->p j w:=by
 intro l
 induction l with
 |nil=>intro j w h;cases h
 |cons q r ih=>
  obtain⟨k,v⟩:=q;intro j w h hp;simp only[UA,Bool.or_eq_true,aiJ]at h;rcases h with⟨h1,h2⟩|h
  ·have e1:=aiI h1
   have e2:v=w:=by simpa using h2
   have:=hp _ List.mem_cons_self;rw[e1,e2]at this;exact this
  ·exact ih h λq hq=>hp q (aiS _ hq)
theorem Dx{w:Bool}:Value.bool w≠undef:=by intro h;cases h
theorem MB(h:Rl c N ρ J HK X C S a w):∀(n j:Nat) (v:Bool),a.tmps[j]? =some (.bool v)->∀q∈chain C S n j v,a.tmps[q.1]? =some (.bool q.2):=by
 intro n
 induction n with
 |zero=>intro j v e q hq;simp[chain]at hq;subst hq;exact e
 |succ n ih=>
  intro j v e q hq;simp only[chain,List.mem_cons]at hq;rcases hq with rfl|hq
  ·exact e
  ·split at hq
   ·rename_i k u x he
    refine ih k u ?_ q hq;have hr:=h.ev he;have e2:a.eval (.tmp j)= .bool v:=by simp[Act.eval,e]
    rw[e2]at hr;cases Classical.em (a.tmps[k]? =some (.bool u))with
    |inl h=>exact h
    |inr h=>exact absurd (hr.2 h) Dx
   ·cases hq
theorem Od{x:Operand}{v:AV G}(h:Rl c N ρ J HK X C S a w)(e:Mq C S x=some v):Bw.ev (nj a) x=some (a.eval x):=by
 refine Px (λt ht=>?_) (λg hg=>?_)
 ·subst ht
  simp only[Mq]at e;split at e
  ·rename_i v' he
   obtain⟨u,h1,_⟩:=h.fs t _ he;exact(aiO.1 h1).1
  ·obtain⟨u,h1,_⟩:=Uq h.fc e
   exact(aiO.1 h1).1
 ·subst hg;cases e
theorem aeI{t:Array Value}{v:AV G}{u:Value}(h:rf J ρ t v u)(hn:∀j w v',v≠ .gd j w v'):rv J ρ v u:=by
 cases v with
 |gd j w v'=>exact absurd rfl (hn j w v')
 |_ =>exact h
theorem aan{b:Bool}{t:Array Value}{u:Value}(h:rf (G:=G) J ρ t (.kb b) u):u= .bool b:=IZ (G:=G) (J:=J) (ρ:=ρ) h
theorem Dp(h:Rl c N ρ J HK X C S a w){j:Nat}{x:AV G}(e:Mq C S (.tmp j)=some x):a.tmps[j]? =some (a.eval (.tmp j)):=FD a j _ (Od h e)
theorem KP(h:Rl c N ρ J HK X C S a w):∀(n j:Nat) (v g:Bool),Xa C S n j v=some g->(a.tmps[j]? =some (.bool v)↔g=true):=by
 intro n
 induction n with
 |zero=>intro j v g e;cases e
 |succ n ih=>
  intro j v g e;simp only[Xa]at e;split at e
  ·rename_i b he
   cases e;rw[Dp h he,aan (h.ev he)];cases b<;>cases v<;>simp
  ·rename_i k u x he
   have hr:=h.ev he;split at e
   ·rename_i hg
    cases e;have ihk:=ih k u false hg;have h2:a.tmps[k]? ≠some (.bool u):=λq=>by have:=ihk.1 q;cases this
    rw[Dp h he,hr.2 h2];simp only[Option.some.injEq,Bool.false_eq_true,iff_false]
    exactλq=>Dx q.symm
   ·rename_i hg
    have ihk:=ih k u true hg;split at e
    ·rename_i b
     cases e;rw[Dp h he,IZ (hr.1 (ihk.2 rfl))];cases b<;>cases v<;>simp
    ·cases e
   ·cases e
  ·cases e
theorem afm{o:Option Bool}(h:isT o=true):o=some true:=by cases o with
 |none=>cases h
 |some b=>cases b with
  |true=>rfl
  |false=>cases h
theorem cQ(h:Rl c N ρ J HK X C S a w){ch:List (Nat×Bool)}(hc:∀q∈ch,a.tmps[q.1]? =some (.bool q.2)):zy J ρ a (fR C S ch):=by
 refine⟨λx v e=>?_,λx v e=>?_⟩
 ·unfold fR at e
  split at e
  ·rename_i j u x' he
   cases hb:(UA ch j u||isT (Xa C S 8 j u))with
   |false=>rw[hb]at e;cases e
   |true=>
    rw[hb]at e;cases e;have:=h.ev he;rw[Bool.or_eq_true]at hb;rcases hb with hb|hb
    ·exact this.1 (ab1 (p:=λj u=>a.tmps[j]? =some (.bool u)) hb hc)
    ·exact this.1 ((KP h 8 j u true (afm hb)).2 rfl)
  ·rename_i hn
   exact aeI (h.ev e) λj w v' q=>hn j w v' (q▸e)
 ·unfold fR at e
  split at e
  ·rename_i j u x' he;exact Od h he
  ·exact Od h e
theorem OW{b:Bool}{t:Array Value}{u:Value}(h:rf (G:=G) J ρ t (.bool b) u):u= .bool b:=zF (G:=G) (J:=J) (ρ:=ρ) h
def N6(C:CC G)(S:AS G):Nat->Nat->Bool->Option Bool
 |0,_,_ =>none
 |n+1,j,w=>match Mq C S (.tmp j)with
  |some (.bool b)=>some (b==w)
  |some (.kb b)=>some (b==w)
  |some (.gd k v x)=>match ZG x with
   |some b=>match N6 C S n k v with
    |some g=>some (g&&(b==w))
    |none=>none
   |none=>none
  |_ =>none
theorem Pw(h:Rl c N ρ J HK X C S a w):∀(n j:Nat) (v g:Bool),N6 C S n j v=some g->(a.tmps[j]? =some (.bool v)↔g=true):=by
 intro n
 induction n with
 |zero=>intro j v g e;cases e
 |succ n ih=>
  intro j v g e;simp only[N6]at e;have hj:∀x,Mq C S (.tmp j)=some x->a.tmps[j]? =some (a.eval (.tmp j)):=λx he=>Dp h he;split at e
  ·rename_i b he
   cases e;have hr:=OW (h.ev he);rw[hj _ he,hr];cases b<;>cases v<;>simp
  ·rename_i b he
   cases e;rw[hj _ he,aan (h.ev he)];cases b<;>cases v<;>simp
  ·rename_i k u x he
   split at e;rotate_left
   ·cases e
   rename_i b hb;split at e
   ·rename_i g' hg
    cases e;have hr:=h.ev he;have ihk:=ih k u g' hg;rw[hj _ he];cases g' with
    |true=>have h1:=hr.1 (ihk.2 rfl);have:=Bj hb h1;rw[this];cases b<;>cases v<;>simp
    |false=>
     have h2:a.tmps[k]? ≠some (.bool u):=λq=>by have:=ihk.1 q;cases this
     rw[hr.2 h2];simp only[Bool.false_and,Option.some.injEq,Bool.false_eq_true,iff_false]
     exactλq=>Dx q.symm
   ·cases e
  ·cases e
def Js(C:CC G)(S:AS G):Nat->Nat->Option (Nat×Bool)
 |0,_ =>none
 |n+1,j=>match Mq C S (.tmp j)with
  |some (.bool b)=>some (j,b)
  |some (.gd k v x)=>match Xa C S 8 k v with
   |some true=>(match x with
    | .bool b=>some (j,b)
    |_ =>none)
   |some false=>none
   |none=>Js C S n k
  |_ =>none
theorem Mh(h:Rl c N ρ J HK X C S a w):∀(n j k:Nat) (b:Bool),Js C S n j=some (k,b)->a.tmps[k]? =some (.bool b):=by
 intro n
 induction n with
 |zero=>intro j k b e;cases e
 |succ n ih=>
  intro j k b e;simp only[Js]at e;split at e
  ·rename_i b' he
   cases e;rw[Dp h he,OW (h.ev he)]
  ·rename_i k' v x he
   split at e
   ·rename_i hg
    split at e
    ·rename_i b'
     cases e;rw[Dp h he,zF ((h.ev he).1 ((KP h 8 k' v true hg).2 rfl))]
    ·cases e
   ·cases e
   ·exact ih k' k b e
  ·cases e
def SK(P:Program)(o:Oper)(C:CC G)(S S':AS G)(v:AV G):Prop:=∀(c:Cx) (N:Nat) (ρ:aZ) (J:World->Prop) (HK X:List aE) (a:Act) (w:World) (next:Act->World->Prop) (Q:Exit->Act->World->Prop),Rl c N ρ J HK X C S a w-> (∀(ρ':aZ) (J':World->Prop) (Y:List aE) (w':World) (u:Value),ρ.to ρ' S.nx->(∀w,J' w->J w)->rv J' ρ' v u->Rl c N ρ' J' HK (Y++X) C S' a w'->next (a.put o.dst u) w')->o.wpIn (FA c.ro) 0 P a w next Q
theorem Rl.MW(h:Rl c N ρ J HK X C S a w)(mJ:∀w,J' w->J w)(mρ:ρ.le ρ'):∀r o,cU (lJ C) r=some o->∃x∈HK,ro J' ρ' r o x:=λr o e=>by obtain⟨x,h1,h2⟩:=h.kc r o e;exact⟨x,h1,h2.up mJ mρ⟩
theorem Rl.new{HS:List aE}{x:aE}{o:Ob G}{u:Value}{w':World}(h:Rl c N ρ J HK X C S a w)(h1:RO J ρ S.O HS)(hs:aQ c.bs c.w0 w')(hp:bD c.bs c.w0.heap.size (x::(HS++(HK++X))) w')(hx:ro J (ρ.set S.nx u) S.nx o x):
  Rl c N (ρ.set S.nx u) J HK X C {S with O:=(S.nx,o)::S.O,nx:=S.nx+1} a w':=by
 have hle:=(aZ.kr ρ S.nx u).le h.fr;exact⟨h.tm,h.df.up (λ_ h=>h) hle,⟨hs,h.si.n⟩,h.fs.up (λ_ h=>h) hle,h.fc.up (λ_ h=>h) hle,h.MW (λ_ h=>h) hle,⟨x::HS, .cons hx (h1.up (λ_ h=>h) hle),by simpa using hp⟩,h.kn,aZ.wq h.fr u⟩
theorem abj{T:Nat}{x:Operand}{v:AV G}(hv:fR C S [] x=some v):SK P ⟨d, .box T x,ty,ps,af,g⟩ C S {S with O:=(S.nx, .cH T v)::S.O,nx:=S.nx+1} (.ptr S.nx []):=by
 intro c N ρ J HK X a w next Q h hk
 obtain⟨HS,h1,hst,_⟩:=h.st;have hE:=cQ h (ch:=[]) (by simp);refine OC (hE.ev _ _ hv) rfl a.defers a w next Q hst λb w' _ hs hp=>?_
 refine hk (ρ.set S.nx (dA b 0)) J [] w' (dA b 0) (aZ.kr _ _ _) (λ_ h=>h) ?_ (h.new h1 hs hp ?_)
 ·exact⟨⟨b,0, .inl (aZ.ij _ _ _),by simp[eI]⟩,by simp⟩
 ·exact⟨b,_,aZ.ij _ _ _,rfl,(hE.ok _ _ hv).ext ((aZ.kr ρ S.nx _).le h.fr)⟩
structure ZT(P:Program)(G:Sg) where
 z:MP (AV G)
 ok:∀t v,z.find t=some v->∀(J:World->Prop) (ρ:aZ),∃u:Value,bK P t=some u.cells.toList/\rv J ρ v u
def ZOk(P:Program):MP (AV G)->Prop
 | .dW=>True
 | .dZ k v l r=>(∀(J:World->Prop) (ρ:aZ),∃u:Value,bK P k=some u.cells.toList/\rv J ρ v u)/\ZOk P l/\ZOk P r
theorem ac9{P:Program}:∀{t:MP (AV G)},ZOk P t->∀k v,t.find k=some v->∀(J:World->Prop) (ρ:aZ),∃u:Value,bK P k=some u.cells.toList/\rv J ρ v u:=by
 intro t
 induction t with
 |dW=>intro _ k v h;cases h
 |dZ k0 v0 l r ihl ihr=>
  intro h k v e;simp only[MP.find]at e;cases h1:Nat.beq k0 k with
  |true=>rw[h1]at e;cases e;rw[← aiI h1];exact h.1
  |false=>
   rw[h1]at e;simp only[cond_false]at e;cases h2:Nat.blt k k0 with
   |true=>rw[h2]at e;exact ihl h.2.1 k v e
   |false=>rw[h2]at e;exact ihr h.2.2 k v e
theorem Tg{zt:ZT P G}{T:Nat}{v:AV G}(hv:zt.z.find T=some v):SK P ⟨d, .alloc T,ty,ps,af,g⟩ C S {S with O:=(S.nx, .cH T v)::S.O,nx:=S.nx+1} (.ptr S.nx []):=by
 intro c N ρ J HK X a w next Q h hk
 obtain⟨HS,h1,hst,_⟩:=h.st;obtain⟨u,k1,k2⟩:=zt.ok T v hv J ρ;haveI:jg P T u.cells.toList:=⟨k1⟩;refine zl (cs:=u.cells.toList) a.defers a w next Q hst λb w' _ hs hp=>?_
 refine hk (ρ.set S.nx (dA b 0)) J [] w' (dA b 0) (aZ.kr _ _ _) (λ_ h=>h) ?_ (h.new h1 hs hp ?_)
 ·exact⟨⟨b,0, .inl (aZ.ij _ _ _),by simp[eI]⟩,by simp⟩
 ·exact⟨b,u,aZ.ij _ _ _,rfl,k2.ext ((aZ.kr ρ S.nx _).le h.fr)⟩
theorem Rl.zZ{R7:List aE}{O':Os G}{w':World}(h:Rl c N ρ J HK X C S a w)(hr:RO J ρ O' R7)(hs:aQ c.bs c.w0 w')(hp:bD c.bs c.w0.heap.size (R7++(HK++X)) w'):
  Rl c N ρ J HK X C {S with O:=O'} a w':=⟨h.tm,h.df,⟨hs,h.si.n⟩,h.fs,h.fc,h.kc,⟨_,hr,hp⟩,h.kn,h.fr⟩
theorem qg{α:Type}{l m:List α}{k:Nat}{x:α}(h:l[k]? =some x):(l++m)[k]? =some x:=by rw[List.getElem?_append_left (List.getElem?_eq_some_iff.1 h).1];exact h
theorem ug{α:Type}{l m:List α}{k:Nat}{x y:α}(h:l[k]? =some x):(l++m).set k y=l.set k y++m:=by rw[List.set_append_left];exact(List.getElem?_eq_some_iff.1 h).1
theorem Vf{T:Nat}{v:AV G}{u:Value}(h:vO tt T v=true)(hv:rv J ρ v u):RL P T u.cells.size:=by
 rcases DG h hv with⟨h1,h2,_⟩|⟨n,h1,h2,_⟩
 ·haveI:=h1
  rw[h2];exact(inferInstance:RL P T 1)
 ·haveI:=h1
  subst h2;exact inferInstance
theorem S9{T:Nat}{x y:Operand}{v:AV G}{r T':Nat}{p:List su}{cc M0:AV G}(hx:fR C S [] x=some (.ptr r p))(hy:fR C S [] y=some v)(ho:cU S.O r=some (.cH T' cc))(hst:Nl tt.F cc p v=some M0)(hf:vO tt T v=true):
  SK P ⟨d, .store T x y,ty,ps,af,g⟩ C S {S with O:=pH S.O r (.cH T' M0)} .OQ:=by
 intro c N ρ J HK X a w next Q h hk
 obtain⟨HS,h1,hs0,hm⟩:=h.st;have hE:=cQ h (ch:=[]) (by simp);obtain⟨b,o,e1,e2,e3⟩:=oX (hE.ok _ _ hx);obtain⟨k,q,k1,⟨b',u,m1,rfl,m3⟩,k3⟩:=h1.set ho;have eb:b=b'/\o=0:=by rcases e1 with h1|⟨n,cap,_,_,_,_,h1,_⟩<;>rw[h1]at m1<;>simp[dA]at m1;exact m1
 obtain⟨rfl,rfl⟩:=eb;have hv:=hE.ok _ _ hy;obtain⟨u',n1,n2,n3,n4⟩:=J8 hv hst m3 e3;have sA:=hE.ev _ _ hx;rw[e2,Nat.zero_add]at sA;have H7:=qg (m:=HK++X) k1;haveI:rq (HS++(HK++X)) b T' u.cells.toList:=⟨List.mem_of_getElem? H7⟩;haveI:=Vf hf hv;haveI:Fb (HS++(HK++X)) b u'.cells.toList (HS.set k (.cells b T' u'.cells.toList)++(HK++X)):=⟨k,T',_,H7,by rw[ug k1]⟩;refine tL (n:=(a.eval y).cells.size) (vs:=(a.eval y).cells.toList) (cs':=u'.cells.toList) sA (hE.ev _ _ hy) rfl (by simp) (by simpa using n3) n4 n2.symm a.defers a w next Q hs0 λ_ w' _ hs hp=>?_
 exact hk ρ J [] w' undef (aZ.dM _ _) (λ_ h=>h) ⟨_,rfl⟩ (h.zZ (k3 (.cH T' M0) _ ⟨b,u',m1,rfl,n1⟩) hs hp)
end Go.Rw
namespace Go.Rw
open Go Go.Bw Go.RowKit
variable {G:Sg} {P:Program} {J J':World->Prop} {ρ ρ':aZ}
inductive Sh where
 |v (t:Ty)
 |unk (n:Nat)
 |row (e sz:Nat) (t:Ty)
 |box (T:Nat) (s:Sh)
 |bU (i:Nat)
 |oz
 |jB
 |Cg
 |oA
 |ET
 |fn (f:Fn) (a c:Sh)
 |jv (a:Sh)
 |st (a:Sh)
 |jT (t:Nat) (a:Sh)
 |nil
 |cons (a b:Sh)
 |part (w:Nat) (a b:Sh)
def aN:Sh->List Ty
 | .v t=>[t]
 | .row _ _ t=>[.sl t]
 | .box _ s=>aN s
 | .fn _ a c=>aN a++aN c
 | .jv a=>aN a
 | .st a=>aN a
 | .jT _ a=>aN a
 | .cons a b=>aN a++aN b
 | .part _ a b=>aN a++aN b
 |_ =>[]
def HL(G:Sg):List Ty->Type
 |[]=>Unit
 |t::r=>t.T G×HL G r
def HL.app:{a b:List Ty}->HL G a->HL G b->HL G (a++b)
 |[],_,_,y=>y
 |_ ::_,_,x,y=>(x.1,HL.app x.2 y)
def HL.fst:{a b:List Ty}->HL G (a++b)->HL G a
 |[],_,_ =>()
 |_ ::r,b,x=>(x.1,HL.fst (a:=r) (b:=b) x.2)
def HL.snd:{a b:List Ty}->HL G (a++b)->HL G b
 |[],_,x=>x
 |_ ::r,b,x=>HL.snd (a:=r) (b:=b) x.2
theorem HL.wG:∀{a b:List Ty} (x:HL G a) (y:HL G b),HL.fst (a:=a) (b:=b) (HL.app x y)=x:=by
 intro a
 induction a with
 |nil=>intro b x y;rfl
 |cons t r ih=>intro b x y;exact Prod.ext rfl (ih x.2 y)
theorem HL.wo:∀{a b:List Ty} (x:HL G a) (y:HL G b),HL.snd (a:=a) (b:=b) (HL.app x y)=y:=by
 intro a
 induction a with
 |nil=>intro b x y;rfl
 |cons t r ih=>intro b x y;exact ih x.2 y
def fq(f:Nat->Nat):(s:Sh)->HL G (aN s)->Nat->AV G×Os G×Nat
 | .v t,x,m=>(mk t x.1,[],m)
 | .row e sz t,x,m=>(.row (f m),[(f m, .row e sz t x.1)],m+1)
 | .box T s,x,m=>match fq f s x (m+1)with
  |(v,O,m')=>(.ptr (f m) [],(f m, .cH T v)::O,m')
 | .bU i,_,m=>(.ptr (f i) [],[],m)
 | .unk n,_,m=>(.unk n,[],m)
 | .oz,_,m=>(.oz,[],m)
 | .jB,_,m=>(.jB,[],m)
 | .Cg,_,m=>(.Cg,[],m)
 | .oA,_,m=>(.oA,[],m)
 | .ET,_,m=>(.ET,[],m)
 | .fn k a c,x,m=>match fq f a (HL.fst x) m with
  |(v,O,m')=>match fq f c (HL.snd x) m' with
   |(v',O',m'')=>(.fn k v v',O++O',m'')
 | .jv a,x,m=>match fq f a x m with
  |(v,O,m')=>(.jv v,O,m')
 | .st a,x,m=>match fq f a x m with
  |(v,O,m')=>(.st v,O,m')
 | .jT t a,x,m=>match fq f a x m with
  |(v,O,m')=>(.jT t v,O,m')
 | .nil,_,m=>(.nil,[],m)
 | .cons a b,x,m=>match fq f a (HL.fst x) m with
  |(v,O,m')=>match fq f b (HL.snd x) m' with
   |(v',O',m'')=>(.cons v v',O++O',m'')
 | .part w a b,x,m=>match fq f a (HL.fst x) m with
  |(v,O,m')=>match fq f b (HL.snd x) m' with
   |(v',O',m'')=>(.part w v v',O++O',m'')
def yT:Fn->Fn->Bool
 | .func a, .func b=>Nat.beq a b
 |_,_ =>false
theorem Mi{f g:Fn}(h:yT f g=true):f=g:=by
 unfold yT at h;split at h
 ·rw[aiI h]
 ·cases h
structure GS(G:Sg) where
 th:List Nat
 O:Os G
 nx:Nat
def nu:(s:Sh)->AV G->GS G->Option (HL G (aN s)×GS G)
 | .v t,v,g=>match A1 t v with
  |some x=>some ((x,()),g)
  |none=>none
 | .row e sz t,v,g=>match v with
  | .row r=>match cU g.O r with
   |some (.row e' sz' t' xs)=>bif Nat.beq e e'&&Nat.beq sz sz' then(if h:t'.bU t=true then some ((Ty.uO h▸xs,()),⟨g.th++[r],wK g.O r,g.nx⟩)else none)else none
   |_ =>none
  | .jB=>bif Nat.beq (t.L G).n sz then some (([],()),⟨g.th++[g.nx],g.O,g.nx+1⟩)else none
  |_ =>none
 | .box T s,v,g=>match v with
  | .ptr r []=>match cU g.O r with
   |some (.cH T' c)=>bif Nat.beq T T' then nu s c ⟨g.th++[r],wK g.O r,g.nx⟩else none
   |_ =>none
  |_ =>none
 | .bU i,v,g=>match v with
  | .ptr r []=>match g.th[i]? with
   |some r'=>bif Nat.beq r r' then some ((),g)else none
   |none=>none
  |_ =>none
 | .unk n,v,g=>match v with
  | .unk m=>bif Nat.beq n m then some ((),g)else none
  |v=>match v.ncl with
   |some m=>bif Nat.beq n m then some ((),g)else none
   |none=>none
 | .oz,v,g=>match v with
  | .oz=>some ((),g)
  |_ =>none
 | .jB,v,g=>match v with
  | .jB=>some ((),g)
  |_ =>none
 | .Cg,v,g=>match v with
  | .Cg=>some ((),g)
  |_ =>none
 | .oA,v,g=>match v with
  | .oA=>some ((),g)
  |_ =>none
 | .ET,v,g=>match v with
  | .ET=>some ((),g)
  |_ =>none
 | .fn f a c,v,g=>match v with
  | .fn f' x y=>bif yT f f' then(match nu a x g with
   |some (p,g')=>match nu c y g' with
    |some (q,U6)=>some (HL.app p q,U6)
    |none=>none
   |none=>none)else none
  |_ =>none
 | .jv a,v,g=>match v with
  | .jv x=>nu a x g
  |_ =>none
 | .st a,v,g=>match v with
  | .st x=>nu a x g
  |_ =>none
 | .jT t a,v,g=>match v with
  | .jT t' x=>bif Nat.beq t t' then nu a x g else none
  |_ =>none
 | .nil,v,g=>match v with
  | .nil=>some ((),g)
  |_ =>none
 | .cons a b,v,g=>match v with
  | .cons x y=>match nu a x g with
   |some (p,g')=>match nu b y g' with
    |some (q,U6)=>some (HL.app p q,U6)
    |none=>none
   |none=>none
  |_ =>none
 | .part w a b,v,g=>match v with
  | .part w' x y=>bif Nat.beq w w' then(match nu a x g with
   |some (p,g')=>match nu b y g' with
    |some (q,U6)=>some (HL.app p q,U6)
    |none=>none
   |none=>none)else none
  |_ =>none
def pK(A B:List aE):Prop:=∀bs n0 w,bD bs n0 A w->bD bs n0 B w
theorem pK.refl(A:List aE):pK A A:=λ_ _ _ h=>h
theorem pK.trans{A B D:List aE}(h:pK A B)(k:pK B D):pK A D:=λbs n w x=>k bs n w (h bs n w x)
theorem pK.jL{A B:List aE}(h:A.Perm B):pK A B:=λ_ _ _ x=>x.jL h
def cmp(ρ:aZ)(th:List Nat):aZ:=λm=>match th[m]? with
 |some r=>ρ r
 |none=>none
theorem Ol{th yx:List Nat}(h:ρ.le ρ')(k:∃q,yx=th++q):(cmp ρ th).le (cmp ρ' yx):=λm v e=>by
 obtain⟨q,rfl⟩:=k;unfold cmp at e ⊢;cases ht:th[m]? with
 |none=>rw[ht]at e;cases e
 |some r=>rw[ht]at e;rw[qg ht];exact h _ _ e
theorem zJ{th:List Nat}{r:Nat}:cmp ρ (th++[r]) th.length=ρ r:=by simp[cmp]
structure Gat(J:World->Prop)(ρ:aZ)(s:Sh)(l:List Value)(H:List aE)(g g':GS G)(x:HL G (aN s))(ρ':aZ)(HB H':List aE):Prop where
 to:ρ.to ρ' g.nx
 fr:ρ'.fr g'.nx
 nx:g.nx<=g'.nx
 left:RO J ρ' g'.O H'
 pre:∃q,g'.th=g.th++q
 Ad:(fq (λm=>m) s x g.th.length).2.2=g'.th.length
 hp:∀R,pK (H++R) (HB++(H'++R))
 val:rl J (cmp ρ' g'.th) (fq (λm=>m) s x g.th.length).1 l
 cH:RO J (cmp ρ' g'.th) (fq (λm=>m) s x g.th.length).2.1 HB
theorem SM{t:Ty}{v:AV G}{x:t.T G}{l:List Value}(h:A1 t v=some x)(hv:rl J ρ v l):∃u,l=[u]:=by
 unfold A1 at h;split at h
 ·exact⟨_,hv⟩
 ·exact⟨_,hv⟩
 ·exact⟨_,hv⟩
 ·exact⟨_,hv⟩
 ·exact⟨_,hv⟩
 ·obtain⟨u,e,_⟩:=hv;exact⟨u,e⟩
 ·cases h
theorem aZ.fr.T8{n:Nat}{r:Nat}{v:Value}(h:ρ.fr n)(e:ρ r=some v):r<n:=by
 rcases Nat.lt_or_ge r n with h1|h1
 ·exact h1
 ·rw[h r h1]at e;cases e
theorem bL{α β:Type}{a x:α}{b y:β}(h:some (a,b)=some (x,y)):a=x/\b=y:=by have h:=Option.some.inj h;exact⟨congrArg Prod.fst h,congrArg Prod.snd h⟩
theorem X6{α:Type}:∀{H:List α} {k:Nat} {x:α},H[k]? =some x->H.Perm (x::H.eraseIdx k):=by
 intro H
 induction H with
 |nil=>intro k x h;cases h
 |cons y r ih=>
  intro k x h;cases k with
  |zero=>simp at h;subst h;exact .refl _
  |succ k=>exact((ih (by simpa using h)).cons y).trans (.swap x y _)
theorem oY{H:List aE}{k:Nat}{x:aE}(h:H[k]? =some x)(R:List aE):(H++R).Perm (x::(H.eraseIdx k++R)):=by exact List.Perm.append_right R (X6 h)
theorem KS{a b:Sh}{H:List aE}{g g1 g2:GS G}{p:HL G (aN a)}{q:HL G (aN b)}{l1 l2:List Value}{ρ:aZ}(hf:ρ.fr g.nx)
  (h1:∃ρ' HB H',Gat J ρ a l1 H g g1 p ρ' HB H')(h2:∀(ρ1:aZ) (H1:List aE),ρ1.fr g1.nx->ρ.to ρ1 g.nx->RO J ρ1 g1.O H1->∃ρ' HB H',Gat J ρ1 b l2 H1 g1 g2 q ρ' HB H'):
  ∃ρ' HB H',ρ.to ρ' g.nx/\ρ'.fr g2.nx/\g.nx<=g2.nx/\RO J ρ' g2.O H'/\(∃r,g2.th=g.th++r)/\(fq (λm=>m) b q (fq (λm=>m) a p g.th.length).2.2).2.2=g2.th.length/\(∀R,pK (H++R) (HB++(H'++R)))/\
   rl J (cmp ρ' g2.th) (fq (λm=>m) a p g.th.length).1 l1/\rl J (cmp ρ' g2.th) (fq (λm=>m) b q (fq (λm=>m) a p g.th.length).2.2).1 l2/\RO J (cmp ρ' g2.th) ((fq (λm=>m) a p g.th.length).2.1++(fq (λm=>m) b q (fq (λm=>m) a p g.th.length).2.2).2.1) HB:=by
 obtain⟨ρ1,B1,H1,k1⟩:=h1;obtain⟨ρ2,B2,H2,k2⟩:=h2 ρ1 H1 k1.fr k1.to k1.left;have hle:=Ol (k2.to.le k1.fr) k2.pre;rw[k1.Ad];refine⟨ρ2,B1++B2,H2,k1.to.trans k2.to k1.nx,k2.fr,Nat.le_trans k1.nx k2.nx,k2.left,?_,k2.Ad,λR=>?_,k1.val.ext hle,k2.val,(k1.cH.up (λ_ h=>h) hle).app k2.cH⟩
 ·obtain⟨r1,e1⟩:=k1.pre
  obtain⟨r2,e2⟩:=k2.pre;exact⟨r1++r2,by rw[e2,e1,List.append_assoc]⟩
 ·refine(k1.hp R).trans ?_
  have e:(B1++(H1++R)).Perm (H1++(B1++R)):=by rw[← List.append_assoc, ← List.append_assoc];exact List.Perm.append_right R List.perm_append_comm
  refine(pK.jL e).trans ((k2.hp (B1++R)).trans (pK.jL ?_));rw[List.append_assoc B1];have:(B2++(H2++(B1++R))).Perm (B1++(B2++(H2++R))):=by
   have p1:(H2++(B1++R)).Perm (B1++(H2++R)):=by rw[← List.append_assoc, ← List.append_assoc];exact List.Perm.append_right R List.perm_append_comm
   refine(List.Perm.append_left B2 p1).trans ?_;rw[← List.append_assoc, ← List.append_assoc B1];exact List.Perm.append_right _ List.perm_append_comm
  exact this
theorem U2{t:Ty}{v:AV G}{g g':GS G}{x:HL G (aN (.v t))}(h:nu (.v t) v g=some (x,g')):∃y,A1 t v=some y/\x=(y,())/\g'=g:=by
 unfold nu at h;cases hy:A1 t v with
 |none=>rw[hy]at h;cases h
 |some y=>rw[hy]at h;obtain⟨e1,e2⟩:=bL h;exact⟨y,rfl,e1.symm,e2.symm⟩
theorem KR{n:Nat}{v:AV G}{g g':GS G}{x:HL G (aN (.unk n))}(h:nu (.unk n) v g=some (x,g')):g'=g/\∀{J:World->Prop} {ρ:aZ} {l:List Value},rl J ρ v l->∃u:Value,l=[u]/\u.cells.size=n:=by
 unfold nu at h;split at h
 ·rename_i m
  cases hb:Nat.beq n m with
  |false=>rw[hb]at h;cases h
  |true=>rw[hb]at h;obtain rfl:=aiI hb;exact⟨(bL h).2.symm,λhr=>hr⟩
 ·split at h
  ·rename_i m hm
   cases hb:Nat.beq n m with
   |false=>rw[hb]at h;cases h
   |true=>rw[hb]at h;obtain rfl:=aiI hb;exact⟨(bL h).2.symm,λhr=>by obtain⟨u,e1,e2,_⟩:=NJ hm hr;exact⟨u,e1,e2⟩⟩
  ·cases h
theorem GV:∀{s:Sh} {v:AV G} {l:List Value} {H:List aE} {g g':GS G} {x:HL G (aN s)} {ρ:aZ},nu s v g=some (x,g')->rl J ρ v l->RO J ρ g.O H->ρ.fr g.nx->∃ρ' HB H',Gat J ρ s l H g g' x ρ' HB H':=by
 intro s
 induction s with
 |v t=>
  intro v l H g g' x ρ h hv hO hf;obtain⟨y,hy,rfl,rfl⟩:=U2 h;obtain⟨u,rfl⟩:=SM hy hv;refine⟨ρ,[],H,⟨aZ.dM _ _,hf,Nat.le_refl _,hO,⟨[],by simp⟩,?_,λR=>pK.refl _,?_,?_⟩⟩<;>simp only[fq]
  ·exact IY ((zD hy hv))
  ·exact .nil
 |row e sz t=>
  intro v l H g g' x ρ h hv hO hf;cases v<;>unfold nu at h<;>(try dsimp only at h)<;>try (cases h;done)
  case row r=>
   split at h
   ·rename_i e' sz' t' xs ho
    cases hb:(Nat.beq e e'&&Nat.beq sz sz')with
    |false=>rw[hb]at h;cases h
    |true=>
     rw[hb]at h;simp only[cond_true]at h;by_cases hs:t'.bU t=true
     ·rw[dif_pos hs]at h
      obtain⟨e1,rfl⟩:=bL h;simp only[aiJ]at hb;obtain rfl:=aiI hb.1;obtain rfl:=aiI hb.2;have:=Ty.uO hs;subst this;subst e1;obtain⟨k,y,k1,k2,k3⟩:=hO.Zn ho;refine⟨ρ,[y],H.eraseIdx k,aZ.dM _ _,hf,Nat.le_refl _,k3,⟨[r],rfl⟩,by simp[fq],λR=>pK.jL (oY k1 R),?_, .cons ?_ .nil⟩
      ·obtain⟨a0,n,cap,e1,e2⟩:=hv
       exact⟨a0,n,cap,zJ.trans e1,e2⟩
      ·obtain⟨vv,ws,e1,e2,e3,e4,e5⟩:=k2
       exact⟨vv,ws,zJ.trans e1,e2,e3,e4,e5⟩
     ·rw[dif_neg hs]at h;cases h
   ·cases h
  case jB=>
   cases hb:Nat.beq (t.L G).n sz with
   |false=>rw[hb]at h;cases h
   |true=>
    rw[hb]at h;obtain⟨rfl,rfl⟩:=bL h;have hsz:=aiI hb;have hle:=(aZ.kr ρ g.nx (.slice none 0 0)).le hf;refine⟨ρ.set g.nx (.slice none 0 0),[.row (.slice none 0 0) e sz 0 []],H,aZ.kr _ _ _,aZ.wq hf _,Nat.le_succ _,hO.up (λ_ h=>h) hle,⟨[g.nx],rfl⟩,by simp[fq],λR bs n0 w hp=>zI hp,?_, .cons ?_ .nil⟩
    ·have hv:l=[.slice none 0 0]:=hv
     exact⟨none,0,0,zJ.trans (aZ.ij _ _ _),hv⟩
    ·exact⟨.slice none 0 0,[],zJ.trans (aZ.ij _ _ _),rfl,⟨_,_,rfl⟩,⟨λ_ =>[],rfl,λi hi=>absurd hi (Nat.not_lt_zero _)⟩,hsz⟩
 |box T s ih=>
  intro v l H g g' x ρ h hv hO hf;cases v<;>unfold nu at h<;>(try dsimp only at h)<;>try (cases h;done)
  case ptr r p=>
   cases p with
   |cons _ _ =>simp at h
   |nil=>
    simp only at h;split at h
    ·rename_i T' cc ho
     cases hb:Nat.beq T T' with
     |false=>rw[hb]at h;cases h
     |true=>
      rw[hb]at h;obtain rfl:=aiI hb;obtain⟨k,y,k1,⟨b,u,m1,rfl,m3⟩,k3⟩:=hO.Zn ho;obtain⟨ρ1,B1,H1,i1⟩:=ih h m3 k3 hf;have hr:=hf.T8 m1;have hth:g'.th[g.th.length]? =some r:=by obtain⟨q,e⟩:=i1.pre;rw[e];simp
      have N5:cmp ρ1 g'.th g.th.length=some (dA b 0):=by unfold cmp;rw[hth];exact(i1.to r hr).trans m1
      have e1:(g.th++[r]).length=g.th.length+1:=by simp
      have i2:=i1.Ad;have i3:=i1.val;have i4:=i1.cH;rw[e1]at i2 i3 i4;refine⟨ρ1, .cells b T u.cells.toList::B1,H1,i1.to,i1.fr,i1.nx,i1.left,?_,i2,λR=>?_,?_, .cons ⟨b,u,N5,rfl,i3⟩ i4⟩
      ·obtain⟨q,e⟩:=i1.pre
       exact⟨r::q,by rw[e];simp⟩
      ·refine(pK.jL (oY k1 R)).trans ?_
       refine(pK.jL (List.perm_middle (a:=aE.cells b T u.cells.toList) (l₁:=H.eraseIdx k) (l₂:=R)).symm).trans ?_;refine(i1.hp (.cells b T u.cells.toList::R)).trans (pK.jL ?_);refine(List.Perm.append_left B1 (List.perm_middle (a:=aE.cells b T u.cells.toList) (l₁:=H1) (l₂:=R))).trans ?_;exact List.perm_middle
      ·obtain⟨⟨b',o',q1,q2⟩,_⟩:=hv
       refine⟨⟨b,0, .inl N5,?_⟩,by simp⟩;rcases q1 with q1|⟨_,_,_,_,_,_,_,q1,_⟩
       ·rw[q1]at m1
        simp[dA]at m1;rw[q2,m1.1,m1.2]
       ·cases q1
    ·cases h
 |bU i=>
  intro v l H g g' x ρ h hv hO hf;cases v<;>unfold nu at h<;>(try dsimp only at h)<;>try (cases h;done)
  case ptr r p=>
   cases p with
   |cons _ _ =>simp at h
   |nil=>
    simp only at h;split at h
    ·rename_i r' ht
     cases hb:Nat.beq r r' with
     |false=>rw[hb]at h;cases h
     |true=>
      rw[hb]at h;obtain⟨rfl,rfl⟩:=bL h;obtain rfl:=aiI hb;refine⟨ρ,[],H,aZ.dM _ _,hf,Nat.le_refl _,hO,⟨[],by simp⟩,rfl,λR=>pK.refl _,?_, .nil⟩;obtain⟨⟨b',o',q1,q2⟩,q3⟩:=hv;refine⟨⟨b',o',?_,q2⟩,q3⟩;rcases q1 with q1|⟨_,_,_,_,_,_,_,q1,_⟩
      ·refine .inl ?_
       unfold cmp;rw[ht];exact q1
      ·cases q1
    ·cases h
 |unk n=>intro v l H g g' x ρ h hv hO hf;obtain⟨rfl,hu⟩:=KR h;exact⟨ρ,[],H,aZ.dM _ _,hf,Nat.le_refl _,hO,⟨[],by simp⟩,rfl,λR=>pK.refl _,hu hv, .nil⟩
 |oz=>
  intro v l H g g' x ρ h hv hO hf;cases v<;>unfold nu at h<;>(try dsimp only at h)<;>try (cases h;done)
  obtain⟨rfl,rfl⟩:=bL h;exact⟨ρ,[],H,aZ.dM _ _,hf,Nat.le_refl _,hO,⟨[],by simp⟩,rfl,λR=>pK.refl _,hv, .nil⟩
 |jB=>
  intro v l H g g' x ρ h hv hO hf;cases v<;>unfold nu at h<;>(try dsimp only at h)<;>try (cases h;done)
  obtain⟨rfl,rfl⟩:=bL h;exact⟨ρ,[],H,aZ.dM _ _,hf,Nat.le_refl _,hO,⟨[],by simp⟩,rfl,λR=>pK.refl _,hv, .nil⟩
 |Cg=>
  intro v l H g g' x ρ h hv hO hf;cases v<;>unfold nu at h<;>(try dsimp only at h)<;>try (cases h;done)
  obtain⟨rfl,rfl⟩:=bL h;exact⟨ρ,[],H,aZ.dM _ _,hf,Nat.le_refl _,hO,⟨[],by simp⟩,rfl,λR=>pK.refl _,hv, .nil⟩
 |oA=>
  intro v l H g g' x ρ h hv hO hf;cases v<;>unfold nu at h<;>(try dsimp only at h)<;>try (cases h;done)
  obtain⟨rfl,rfl⟩:=bL h;exact⟨ρ,[],H,aZ.dM _ _,hf,Nat.le_refl _,hO,⟨[],by simp⟩,rfl,λR=>pK.refl _,hv, .nil⟩
 |ET=>
  intro v l H g g' x ρ h hv hO hf;cases v<;>unfold nu at h<;>(try dsimp only at h)<;>try (cases h;done)
  obtain⟨rfl,rfl⟩:=bL h;exact⟨ρ,[],H,aZ.dM _ _,hf,Nat.le_refl _,hO,⟨[],by simp⟩,rfl,λR=>pK.refl _,hv, .nil⟩
 |nil=>
  intro v l H g g' x ρ h hv hO hf;cases v<;>unfold nu at h<;>(try dsimp only at h)<;>try (cases h;done)
  obtain⟨rfl,rfl⟩:=bL h;exact⟨ρ,[],H,aZ.dM _ _,hf,Nat.le_refl _,hO,⟨[],by simp⟩,rfl,λR=>pK.refl _,hv, .nil⟩
 |fn f a c mS Cm=>
  intro v l H g g' x ρ h hv hO hf;cases v<;>unfold nu at h<;>(try dsimp only at h)<;>try (cases h;done)
  case fn f' y z=>
   cases hb:yT f f' with
   |false=>rw[hb]at h;cases h
   |true=>
    rw[hb]at h;simp only[cond_true]at h;obtain rfl:=Mi hb;split at h
    ·rename_i p g1 h1
     split at h
     ·rename_i q g2 h2
      obtain⟨rfl,rfl⟩:=bL h;obtain⟨fs,cs,e,r1,r2⟩:=hv;obtain⟨ρ',HB,H',k1,k2,k3,k4,k5,k6,k7,k8,k9,k10⟩:=KS (b:=c) (q:=q) hf (mS h1 r1 hO hf) λρ1 H1 f1 t1 o1=>Cm h2 (r2.ext (t1.le hf)) o1 f1;refine⟨ρ',HB,H',k1,k2,k3,k4,k5,?_,k7,?_,?_⟩<;>simp only[fq,HL.wG,HL.wo]
      ·exact k6
      ·exact⟨fs,cs,e,k8,k9⟩
      ·exact k10
     ·cases h
    ·cases h
 |cons a b mS rh=>
  intro v l H g g' x ρ h hv hO hf;cases v<;>unfold nu at h<;>(try dsimp only at h)<;>try (cases h;done)
  case cons y z=>
   split at h
   ·rename_i p g1 h1
    split at h
    ·rename_i q g2 h2
     obtain⟨rfl,rfl⟩:=bL h;obtain⟨u,r,e,r1,r2⟩:=hv;obtain⟨ρ',HB,H',k1,k2,k3,k4,k5,k6,k7,k8,k9,k10⟩:=KS (b:=b) (q:=q) hf (mS h1 r1 hO hf) λρ1 H1 f1 t1 o1=>rh h2 (r2.ext (t1.le hf)) o1 f1;refine⟨ρ',HB,H',k1,k2,k3,k4,k5,?_,k7,?_,?_⟩<;>simp only[fq,HL.wG,HL.wo]
     ·exact k6
     ·exact⟨u,r,e,k8,k9⟩
     ·exact k10
    ·cases h
   ·cases h
 |part w a b mS rh=>
  intro v l H g g' x ρ h hv hO hf;cases v<;>unfold nu at h<;>(try dsimp only at h)<;>try (cases h;done)
  case part w' y z=>
   cases hb:Nat.beq w w' with
   |false=>rw[hb]at h;cases h
   |true=>
    rw[hb]at h;simp only[cond_true]at h;obtain rfl:=aiI hb;split at h
    ·rename_i p g1 h1
     split at h
     ·rename_i q g2 h2
      obtain⟨rfl,rfl⟩:=bL h;obtain⟨c1,c2,u,e,r0,r1,r3,r2⟩:=hv;obtain⟨ρ',HB,H',k1,k2,k3,k4,k5,k6,k7,k8,k9,k10⟩:=KS (b:=b) (q:=q) hf (mS h1 r1 hO hf) λρ1 H1 f1 t1 o1=>rh h2 (r2.ext (t1.le hf)) o1 f1;refine⟨ρ',HB,H',k1,k2,k3,k4,k5,?_,k7,?_,?_⟩<;>simp only[fq,HL.wG,HL.wo]
      ·exact k6
      ·exact⟨c1,c2,u,e,r0,k8,r3,k9⟩
      ·exact k10
     ·cases h
    ·cases h
 |jv a ih=>
  intro v l H g g' x ρ h hv hO hf;cases v<;>unfold nu at h<;>(try dsimp only at h)<;>try (cases h;done)
  case jv y=>obtain⟨vs,e,r1⟩:=hv;obtain⟨ρ',HB,H',k⟩:=ih h r1 hO hf;exact⟨ρ',HB,H',k.to,k.fr,k.nx,k.left,k.pre,k.Ad,k.hp,⟨vs,e,k.val⟩,k.cH⟩
 |st a ih=>
  intro v l H g g' x ρ h hv hO hf;cases v<;>unfold nu at h<;>(try dsimp only at h)<;>try (cases h;done)
  case st y=>obtain⟨cs,e,r1,r2⟩:=hv;obtain⟨ρ',HB,H',k⟩:=ih h r1 hO hf;exact⟨ρ',HB,H',k.to,k.fr,k.nx,k.left,k.pre,k.Ad,k.hp,⟨cs,e,k.val,r2⟩,k.cH⟩
 |jT t a ih=>
  intro v l H g g' x ρ h hv hO hf;cases v<;>unfold nu at h<;>(try dsimp only at h)<;>try (cases h;done)
  case jT t' y=>
   cases hb:Nat.beq t t' with
   |false=>rw[hb]at h;cases h
   |true=>rw[hb]at h;obtain rfl:=aiI hb;obtain⟨u,e,r1⟩:=hv;obtain⟨ρ',HB,H',k⟩:=ih h r1 hO hf;exact⟨ρ',HB,H',k.to,k.fr,k.nx,k.left,k.pre,k.Ad,k.hp,⟨u,e,k.val⟩,k.cH⟩
end Go.Rw
