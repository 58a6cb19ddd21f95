/- Part 4 of what a proof leans on; pruned and shortened by a program out of longer texts. -/
import Derived.Test.YtimljlkgaopafaaGreatDoorQ3
namespace Go.Rw
open Go Go.Bw Go.RowKit
variable {G:Sg}
inductive Og(α:Type) where
 |eC
 |eD (k:Nat) (v:α) (l r:Og α)
def Og.find{α:Type}:Og α->Nat->Option α
 | .eC,_ =>none
 | .eD k v l r,d=>bif Nat.beq k d then some v else bif Nat.blt d k then l.find d else r.find d
def Og.all{α:Type}(p:Nat->α->Bool):Og α->Bool
 | .eC=>true
 | .eD k v l r=>p k v&&(l.all p&&r.all p)
theorem Og.XR{α:Type}{p:Nat->α->Bool}:∀{t:Og α} {d:Nat} {v:α},t.all p=true->t.find d=some v->p d v=true:=by
 intro t
 induction t with
 |eC=>intro d v _ h;cases h
 |eD k v0 l r ihl ihr=>
  intro d v ha h;simp only[Og.all,akg]at ha;simp only[Og.find]at h;cases h1:Nat.beq k d with
  |true=>rw[h1]at h;cases h;rw[← akf h1];exact ha.1
  |false=>
   rw[h1]at h;simp only[cond_false]at h;cases h2:Nat.blt d k with
   |true=>rw[h2]at h;exact ihl ha.2.1 h
   |false=>rw[h2]at h;exact ihr ha.2.2 h
inductive TE where
 |int (k:IntKind)
 |bool
 |one
 |ptr
 |sl (e sz bytes:Nat)
 |mV (n e sz MZ:Nat)
 |st (fj:List (Nat×Option Nat)) (MZ:Nat)
def K0(P:Program)(t j o:Nat)(w:Option Nat):Bool:=IT P t j o&&match P.underlying t with
 |some (.struct fs)=>match fs[j]? with
  |some fl=>Nat.beq fl.offset o&&(match w with
   |none=>sC P fl.type
   |some n=>E3 P fl.type n)
  |none=>false
 |_ =>false
def LK(P:Program)(t:Nat):List (Nat×Option Nat)->Nat->Bool
 |[],_ =>true
 |o::r,j=>K0 P t j o.1 o.2&&LK P t r (j+1)
def Bz(P:Program)(t:Nat):TE->Bool
 | .int k=>(match P.underlying t with
  |some (.int l)=>Nat.beq (Ty.bS.ik k) (Ty.bS.ik l)
  |_ =>false)&&sC P t
 | .bool=>(match P.underlying t with
  |some .bool=>true
  |_ =>false)&&sC P t
 | .one=>sC P t
 | .ptr=>sC P t&&FU P t
 | .sl e sz b=>sC P t&&(RL P t e sz b&&FT P t e sz)
 | .mV n e sz MZ=>IU P t n e sz&&E3 P t MZ
 | .st fj MZ=>LK P t fj 0&&E3 P t MZ
structure TT(P:Program)(G:Sg) where
 F:Qt G
 te:Og TE
 ok:te.all (Bz P)=true
section
variable {P:Program} {tt:TT P G}
theorem TT.get{t:Nat}{e:TE}(h:tt.te.find t=some e):Bz P t e=true:=Og.XR tt.ok h
theorem TT.int{t:Nat}{k:IntKind}(h:tt.te.find t=some (.int k)):Yn P t k/\qS P t:=by
 have:=tt.get h;simp only[Bz,akg]at this;refine⟨⟨?_⟩,⟨this.2⟩⟩;have h1:=this.1;split at h1
 ·rename_i l hl;rw[Io h1];exact hl
 ·cases h1
theorem TT.bool{t:Nat}(h:tt.te.find t=some .bool):Yo P t/\qS P t:=by
 have:=tt.get h;simp only[Bz,akg]at this;refine⟨⟨?_⟩,⟨this.2⟩⟩;have h1:=this.1;split at h1
 ·assumption
 ·cases h1
def TE.sz:TE->Option Nat
 | .mV _ _ _ n=>some n
 | .st _ n=>some n
 |_ =>none
theorem TT.one{t:Nat}{e:TE}(h:tt.te.find t=some e)(hs:e.sz=none):qS P t:=by have:=tt.get h;cases e<;>simp only[Bz,akg]at this<;>first|exact⟨this⟩|exact⟨this.1⟩|exact⟨this.2⟩|simp[TE.sz]at hs
theorem TT.agg{t n:Nat}{e:TE}(h:tt.te.find t=some e)(hs:e.sz=some n):ve P t n:=by have:=tt.get h;cases e<;>simp only[TE.sz,Option.some.injEq]at hs<;>first|(subst hs;simp only[Bz,akg]at this;exact⟨this.2⟩)|cases hs
theorem TT.sl{t e sz b:Nat}(h:tt.te.find t=some (.sl e sz b)):vD P t e sz/\Oz P t e sz b:=by have:=tt.get h;simp only[Bz,akg]at this;exact⟨⟨this.2.2⟩,⟨this.2.1⟩⟩
theorem TT.mV{t n e sz MZ:Nat}(h:tt.te.find t=some (.mV n e sz MZ)):tu P t n e sz:=by have:=tt.get h;simp only[Bz,akg]at this;exact⟨this.1⟩
theorem Pc:∀{l:List (Nat×Option Nat)} {i j:Nat} {o:Nat×Option Nat} {t:Nat},LK P t l i=true->l[j]? =some o->K0 P t (i+j) o.1 o.2=true:=by
 intro l
 induction l with
 |nil=>intro i j o t _ h;cases h
 |cons x r ih=>
  intro i j o t h hj;simp only[LK,akg]at h;cases j with
  |zero=>simp at hj;subst hj;exact h.1
  |succ j=>have:=ih h.2 (by simpa using hj);rwa[Nat.add_right_comm,Nat.add_assoc]at this
theorem TT.fs{t n j:Nat}{o:Nat×Option Nat}{fj:List (Nat×Option Nat)}(h:tt.te.find t=some (.st fj n))(hj:fj[j]? =some o):K0 P t j o.1 o.2=true:=by have:=tt.get h;simp only[Bz,akg]at this;have:=Pc this.1 hj;rwa[Nat.zero_add]at this
theorem TT.D2{t n j:Nat}{o:Nat×Option Nat}{fj:List (Nat×Option Nat)}(h:tt.te.find t=some (.st fj n))(hj:fj[j]? =some o):Gy P t j o.1:=by have:=tt.fs h hj;unfold K0 at this;rw[akg]at this;exact⟨this.1⟩
theorem TT.ptr{t:Nat}(h:tt.te.find t=some .ptr):FU P t=true:=by have:=tt.get h;simp only[Bz,akg]at this;exact this.2
end
def G5(k l:IntKind):Bool:=Nat.beq (Ty.bS.ik k) (Ty.bS.ik l)
theorem zH{k l:IntKind}(h:G5 k l=true):k=l:=Io h
abbrev PV(G:Sg):=Option (List Bool×AV G)
def XK(l b:Bool):List Bool:=bif l then(bif b then[]else[b])else[b]
theorem DJ{l b:Bool}(h:∀x∈XK l b,x=true):b=true:=by
 unfold XK at h;cases l with
 |false=>exact h b (by simp)
 |true=>cases b with
  |true=>rfl
  |false=>exact h false (by simp)
def VI(o:BinOp)(k:IntKind)(x y:Int)(q:Bool):PV G:=match o with
 | .add=>some ([], .int k (wr k (x+y)))
 | .sub=>some ([], .int k (wr k (x-y)))
 | .mul=>some ([], .int k (wr k (x*y)))
 | .quo=>some (XK q (y !=0), .int k (wr k (Int.tdiv x y)))
 | .rem=>some (XK q (y !=0), .int k (Int.tmod x y))
 | .and=>some ([], .int k (tj k x y))
 | .or=>some ([], .int k (orI k x y))
 | .xor=>some ([], .int k (MR k x y))
 | .andNot=>some ([], .int k (AF k x y))
 | .eql=>some ([], .bool (x==y))
 | .neq=>some ([], .bool (x !=y))
 | .lss=>some ([], .bool (decide (x<y)))
 | .leq=>some ([], .bool (decide (x<=y)))
 | .gtr=>some ([], .bool (decide (y<x)))
 | .geq=>some ([], .bool (decide (y<=x)))
 |_ =>none
def Wv:AV G->Option Bool
 | .ptr _ _ =>some true
 | .s8=>some false
 |_ =>none
def asB:AV G->Option Bool
 | .bool b=>some b
 | .kb b=>some b
 |_ =>none
def VP{P:Program}(tt:TT P G)(o:BinOp)(T:Nat)(a b:AV G):PV G:=match asB a,asB b with
 |some x,some y=>match o,tt.te.find T with
  | .eql,some .bool=>some ([], .bool (x==y))
  | .neq,some .bool=>some ([], .bool (x !=y))
  |_,_ =>none
 |_,_ =>match a,b with
 |a, .s8=>match Wv a,o,tt.te.find T with
  |some b, .eql,some .ptr=>some ([], .bool (!b))
  |some b, .neq,some .ptr=>some ([], .bool b)
  |_,_,_ =>none
 |_,_ =>none
def asI:AV G->Option (IntKind×Int×Bool)
 | .int k n=>some (k,n,false)
 | .lit k n=>some (k,n,true)
 |_ =>none
def abF(o:BinOp)(k:IntKind)(x:Int)(l:IntKind)(y:Int)(q:Bool):PV G:=match o with
 | .shl=>some (XK q (decide (0<=y)), .int k (Lu k x y))
 | .shr=>some (XK q (decide (0<=y)), .int k (vM k x y))
 |_ =>bif G5 k l then VI o k x y q else none
def VQ{P:Program}(tt:TT P G)(o:BinOp)(T:Nat)(a b:AV G):PV G:=match asI a,asI b with
 |some (k,x,_),some (l,y,q)=>abF o k x l y q
 |_,_ =>VP tt o T a b
section
variable {P:Program} {J:World->Prop} {ρ:bh} {a:Act} {w:World} {d:Option Tmp} {ty:TypeId} {ps:String} {af:Array Edge} {g:Option (Nat×Bool)}
def VOk(P:Program)(J:World->Prop)(ρ:bh)(a:Act)(w:World)(o:Oper)(v:AV G):Prop:=∃u,(execOp a.eval o).run P w= .ok (.value u) w/\rv J ρ v u
theorem VH{o:BinOp}{T U:Nat}{k:IntKind}{x y:Int}{p q:Operand}{gs:List Bool}{v:AV G}{qq:Bool}(h:VI o k x y qq=some (gs,v))(hg:∀b∈gs,b=true)(hx:a.eval p= .int k x)(hy:a.eval q= .int k y):
  VOk P J ρ a w ⟨d, .binOp o T p q U,ty,ps,af,g⟩ v:=by
 cases o<;>simp only[VI,reduceCtorEq,Option.some.injEq,Prod.mk.injEq]at h
 case add=>obtain⟨rfl,rfl⟩:=h;exact⟨_,by simp[execOp,hx,hy,eqGuard,binOp,Op.intArith],rfl⟩
 case sub=>obtain⟨rfl,rfl⟩:=h;exact⟨_,by simp[execOp,hx,hy,eqGuard,binOp,Op.intArith],rfl⟩
 case mul=>obtain⟨rfl,rfl⟩:=h;exact⟨_,by simp[execOp,hx,hy,eqGuard,binOp,Op.intArith],rfl⟩
 case quo=>obtain⟨rfl,rfl⟩:=h;have h0:y≠0:=(by simpa using DJ hg);exact⟨_,by simp[execOp,hx,hy,eqGuard,binOp,Op.intDiv,h0],rfl⟩
 case rem=>obtain⟨rfl,rfl⟩:=h;have h0:y≠0:=(by simpa using DJ hg);exact⟨_,by simp[execOp,hx,hy,eqGuard,binOp,Op.intDiv,h0],rfl⟩
 case and=>obtain⟨rfl,rfl⟩:=h;exact⟨.int k (tj k x y),by simp[execOp,hx,hy,eqGuard,binOp,Op.intBits,tj],rfl⟩
 case or=>obtain⟨rfl,rfl⟩:=h;exact⟨.int k (orI k x y),by simp[execOp,hx,hy,eqGuard,binOp,Op.intBits,orI],rfl⟩
 case xor=>obtain⟨rfl,rfl⟩:=h;exact⟨.int k (MR k x y),by simp[execOp,hx,hy,eqGuard,binOp,Op.intBits,MR],rfl⟩
 case andNot=>obtain⟨rfl,rfl⟩:=h;exact⟨.int k (AF k x y),by simp[execOp,hx,hy,eqGuard,binOp,Op.intBits,AF],rfl⟩
 case eql=>obtain⟨rfl,rfl⟩:=h;exact⟨_,by simp[execOp,hx,hy,eqGuard,binOp,Op.intCmp],rfl⟩
 case neq=>obtain⟨rfl,rfl⟩:=h;exact⟨_,by simp[execOp,hx,hy,eqGuard,binOp,Op.intCmp],rfl⟩
 case lss=>obtain⟨rfl,rfl⟩:=h;exact⟨_,by simp[execOp,hx,hy,eqGuard,binOp,Op.intCmp],rfl⟩
 case leq=>obtain⟨rfl,rfl⟩:=h;exact⟨_,by simp[execOp,hx,hy,eqGuard,binOp,Op.intCmp],rfl⟩
 case gtr=>obtain⟨rfl,rfl⟩:=h;exact⟨_,by simp[execOp,hx,hy,eqGuard,binOp,Op.intCmp],rfl⟩
 case geq=>obtain⟨rfl,rfl⟩:=h;exact⟨_,by simp[execOp,hx,hy,eqGuard,binOp,Op.intCmp],rfl⟩
theorem Ks{b:Bool}{u:Value}(h:rv (G:=G) J ρ (.kb b) u):u= .bool b:=by have h:[u]=_ :=h;cases h;rfl
theorem Cc{v:AV G}{b:Bool}{u:Value}(h:asB v=some b)(hv:rv J ρ v u):u= .bool b:=by unfold asB at h;split at h<;>cases h<;>(have hv:[u]=_ :=hv;cases hv;rfl)
theorem As{b:Bool}{u:Value}(h:rv (G:=G) J ρ (.bool b) u):u= .bool b:=by have h:[u]=_ :=h;cases h;rfl
theorem Nw{v:AV G}{b:Bool}{u:Value}(h:Wv v=some b)(hv:rv J ρ v u):(b=true->∃x y,u= .pointer (some ⟨x,y,none⟩))/\(b=false->u= .pointer none):=by
 unfold Wv at h;split at h
 ·cases h;obtain⟨⟨x,y,_,e⟩,_⟩:=hv;cases e;exact⟨λ_ =>⟨_,_,rfl⟩,nofun⟩
 ·cases h;have e:[u]=_ :=hv;cases e;exact⟨nofun,λ_ =>rfl⟩
 ·cases h
def nN(a:Act):eH:=(List.range a.tmps.size).map λd=>(d,a.tmps.getD d undef)
theorem FE{t:Array Value}:∀{l:List Nat} {d:Nat},lk (l.map λd=>(d,t.getD d undef)) d=if d∈l then some (t.getD d undef)else none:=by
 intro l
 induction l with
 |nil=>intro d;simp[lk]
 |cons x r ih=>
  intro d;simp only[List.map_cons,lk];by_cases e:x=d
  ·subst e;simp
  ·rw[uO e,cond_false,ih]
   simp[Ne.symm e]
theorem G7(a:Act):yN (nN a) a.tmps:=λd v h=>by
 unfold nN at h;rw[FE]at h;split at h
 ·rename_i hm
  have hd:d<a.tmps.size:=by simpa using hm
  have h:=Option.some.inj h;rw[← h];simp[hd]
 ·cases h
theorem Ri{a:Act}{x:Operand}(h:∀t,x= .tmp t->t<a.tmps.size)(hg:∀g,x≠ .global g):Bw.ev (nN a) x=some (a.eval x):=by
 cases x with
 |tmp t=>have:=h t rfl;show lk (nN a) t=_;unfold nN;rw[FE,akd (by simpa using this)];rfl
 |const v=>rfl
 |global g=>exact absurd rfl (hg g)
 |func f=>rfl
def VK(P:Program)(c:Cx)(o:Oper)(a:Act)(w:World)(u:Value):Prop:=∀next Q,(∀w',aQ [] w w'->next (a.put o.dst u) w')->o.wpIn (FA c.ro) 0 P a w next Q
theorem VK.run{c:Cx}{o:Oper}{u:Value}(hd:∀cc,o.op≠ .defer cc)(h:(execOp a.eval o).run P w= .ok (.value u) w):VK P c o a w u:=λ_ _ hk=>ew hd h (hk w (aQ.refl _ _))
theorem _root_.Go.Bw.VS.vk{N:Nat}{c:Cx}{D:List Deferred}{o:Oper}{F:eH}{H:List aE}{u:Value}(h:VS P N c o F H u)(hst:St N c D F H a w):VK P c o a w u:=λnext Q hk=>h D a w next Q hst hk
structure Ap(J:World->Prop)(ρ:bh)(a:Act)(E:Operand->Option (AV G)):Prop where
 ok:∀x v,E x=some v->rv J ρ v (a.eval x)
 ev:∀x v,E x=some v->Bw.ev (nN a) x=some (a.eval x)
def Ou(E:Operand->Option (AV G)):List Operand->Option (AV G)
 |[]=>some .nil
 |x::r=>match E x,Ou E r with
  |some v,some l=>some (.cons v l)
  |_,_ =>none
theorem vW{E:Operand->Option (AV G)}(h:Ap J ρ a E):∀{l:List Operand} {v:AV G},Ou E l=some v->rl J ρ v (l.map a.eval)/\D3 (nN a) l=some (l.map a.eval):=by
 intro l
 induction l with
 |nil=>intro v e;cases e;exact⟨rfl,rfl⟩
 |cons x r ih=>
  intro v e;simp only[Ou]at e;split at e
  ·rename_i u k h1 h2
   cases e;obtain⟨i1,i2⟩:=ih h2;refine⟨⟨_,_,rfl,h.ok _ _ h1,i1⟩,?_⟩;simp only[D3,h.ev _ _ h1,i2,List.map_cons]
  ·cases e
def SU:AV G->Nat->Option (AV G)
 | .cons a b,i=>match i with
  |0=>some a
  |i+1=>SU b i
 |_,_ =>none
theorem LM:∀{v:AV G} {i:Nat} {x:AV G} {l:List Value},SU v i=some x->rl J ρ v l->∃u,l[i]? =some u/\rv J ρ x u:=by
 intro v
 induction v with
 |cons a b _ sB=>
  intro i x l h hr;obtain⟨u,r,rfl,h1,h2⟩:=hr;cases i with
  |zero=>cases h;exact⟨u,rfl,h1⟩
  |succ i=>obtain⟨u',k1,k2⟩:=sB (i:=i) h h2;exact⟨u',by simpa using k1,k2⟩
 |_ =>intro i x l h;cases i<;>cases h
def mU(v:Option (AV G)):Option (IntKind×Int×Bool):=match v with
 |some v=>asI v
 |none=>none
def acX{P:Program}(tt:TT P G)(ob:Nat->Option (Ob G))(T:Nat)(v:AV G)(i:Int)(q:Bool):PV G:=match v,tt.te.find T with
 | .ptr r p,some (.mV n _ sz _)=>some (XK q (dH i n), .ptr r (p++[.idx n sz i]))
 | .YU e xs p,some (.mV n _ sz _)=>some (XK q (dH i n), .YU e xs (p++[.idx n sz i]))
 | .row r,some (.sl _ sz _)=>match ob r with
  |some (.row _ sz' _ xs)=>bif Nat.beq sz sz' then some ([dH i xs.length], .ptr r [.idx xs.length sz i])else none
  |_ =>none
 | .dat (.sl e) xs,some (.sl _ sz _)=>bif Nat.beq sz (e.L G).n then some ([dH i (xs:List (e.T G)).length], .YU e xs [.idx (xs:List (e.T G)).length sz i])else none
 | .kz,_ =>some ([dH i 0], .gd 0 true .QA)
 | .EE r p m sz false i0,some (.sl _ sz' _)=>bif (Nat.beq sz 1&&Nat.beq sz' 1)&&(Nat.beq i0.toNat m&&dH i m)then some ([], .ptr r (p++[.D2 0 i.toNat]))else none
 |_,_ =>none
def WV:List tv->Nat->Bool
 | .idx _ sz _ ::_,n=>Nat.beq sz n
 |_,_ =>false
def acW{P:Program}(tt:TT P G)(ob:Nat->Option (Ob G)):AV G->Option (AV G)
 | .ptr r p=>match ob r with
  |some (.cI _ c)=>KR tt.F c p
  |some (.row _ sz t xs)=>bif WV p sz then(match H6 tt.F t p with
   |some q=>some (mk q.m (q.get (xs.getD q.i.toNat default)))
   |none=>none)else none
  |_ =>none
 | .YU e xs p=>match H6 tt.F e p with
  |some q=>some (mk q.m (q.get (xs.getD q.i.toNat default)))
  |none=>none
 |_ =>none
def AV.cw:AV G->Option Nat
 | .dat t _ =>bif t.ag then some (t.L G).n else none
 | .st a=>parts a
 |_ =>none
def wP{P:Program}(tt:TT P G)(T:Nat)(v:AV G):Bool:=match tt.te.find T with
 |some e=>match e.sz with
  |none=>v.one
  |some n=>match v.cw with
   |some m=>Nat.beq n m&& !Nat.beq n 0
   |none=>false
 |none=>false
def NJ(o:Option Nat)(y:AV G):Bool:=match o with
 |none=>y.one
 |some n=>match y.cw with
  |some m=>Nat.beq n m
  |none=>false
def pv{P:Program}(tt:TT P G)(ob:Nat->Option (Ob G))(E:Operand->Option (AV G)):Op->PV G
 | .move x=>match E x with
  |some v=>some ([],v)
  |none=>none
 | .assign x=>match E x with
  |some v=>some ([],v)
  |none=>none
 | .binOp o T x y _ =>match E x,E y with
  |some a,some b=>VQ tt o T a b
  |_,_ =>none
 | .unOp .not _ x=>match E x with
  |some (.bool b)=>some ([], .bool (!b))
  |some (.kb b)=>some ([], .kb (!b))
  |_ =>none
 | .unOp .neg _ x=>match mU (E x)with
  |some (k,n,_)=>some ([], .int k (wr k (0-n)))
  |none=>none
 | .convert S T x=>match mU (E x),tt.te.find S,tt.te.find T with
  |some (k,n,_),some (.int l),some (.int k')=>bif G5 k l then some ([], .int k' (wr k' n))else none
  |_,_,_ =>none
 | .nilCheck x=>match E x with
  |some (.ptr r p)=>some ([], .ptr r p)
  |some (.fn (.func f) a c)=>some ([], .fn (.func f) a c)
  |_ =>none
 | .fieldAddr s x j=>match tt.te.find s with
  |some (.st fj _)=>match fj[j]? with
   |some o=>match E x with
    |some (.ptr r p)=>some ([], .ptr r (p++[.D2 j o.1]))
    |some (.YU e xs p)=>some ([], .YU e xs (p++[.D2 j o.1]))
    |_ =>none
   |none=>none
  |_ =>none
 | .field T x j=>match tt.te.find T with
  |some (.st fj _)=>match fj[j]? with
   |some o=>match E x with
    |some v=>match KR tt.F v [.D2 j o.1]with
     |some y=>bif NJ o.2 y then some ([],y)else none
     |none=>none
    |none=>none
   |none=>none
  |_ =>none
 | .indexAddr T x i=>match E x,mU (E i)with
  |some v,some (_,i,q)=>acX tt ob T v i q
  |_,_ =>none
 | .index T x i=>match E x,mU (E i),tt.te.find T with
  |some (.dat (.mV n e) f),some (_,i,q),some (.mV m te sz _)=>bif Nat.beq n m&&(Nat.beq sz (e.L G).n&&wP tt te (mk e (f i.toNat)))then some (XK q (dH i n),mk e (f i.toNat))else none
  |some (.st a),some (_,i,q),some (.mV m te sz _)=>match partAt a (i.toNat*sz)with
   |some (w,y)=>bif Nat.beq w sz&&wP tt te y then some (XK q (dH i m),y)else none
   |none=>none
  |_,_,_ =>none
 | .load T x=>match E x with
  |some v=>match acW tt ob v with
   |some y=>bif wP tt T y then some ([],y)else none
   |none=>none
  |none=>none
 | .extract x i=>match E x with
  |some (.jc l)=>match SU l i with
   |some v=>some ([],v)
   |none=>none
  |_ =>none
 | .makeFunc fn first cap=>match Ou E first.toList,Ou E cap.toList with
  |some a,some c=>some ([], .fn fn a c)
  |_,_ =>none
 | .makeInterface T x=>match E x,tt.te.find T with
  |some v,some (.int _)=>some ([], .iQ T v)
  |_,_ =>none
 | .call ⟨.builtin .len,args,Ju⟩=>match args.toList,Ju.toList with
  |[x],[T]=>match E x,tt.te.find T with
   |some (.row r),some (.sl _ _ _)=>match ob r with
    |some (.row _ _ _ xs)=>some ([], .int .i64 (xs.length:Int))
    |_ =>none
   |some (.dat (.sl e) xs),some (.sl _ _ _)=>some ([], .int .i64 ((xs:List (e.T G)).length:Int))
   |some .kz,some (.sl _ _ _)=>some ([], .int .i64 0)
   |some (.EE _ _ _ _ false i),some (.sl _ _ _)=>some ([], .lit .i64 ((i.toNat:Nat):Int))
   |_,_ =>none
  |_,_ =>none
 | .call ⟨.builtin .min,args,_⟩=>match args.toList with
  |[x,y]=>match mU (E x),mU (E y)with
   |some (k,a,_),some (l,b,_)=>bif G5 k l then some ([], .int k (if b<a then b else a))else none
   |_,_ =>none
  |_ =>none
 | .call ⟨.builtin .max,args,_⟩=>match args.toList with
  |[x,y]=>match mU (E x),mU (E y)with
   |some (k,a,_),some (l,b,_)=>bif G5 k l then some ([], .int k (if a<b then b else a))else none
   |_,_ =>none
  |_ =>none
 |_ =>none
end
end Go.Rw
namespace Go.Rw
open Go Go.Bw Go.RowKit
variable {G:Sg} {P:Program} {tt:TT P G} {J:World->Prop} {ρ:bh} {a:Act} {w:World} {d:Option Tmp} {ty:TypeId} {ps:String} {af:Array Edge} {g:Option (Nat×Bool)}
 {N:Nat} {c:Cx} {D:List Deferred} {H:List aE} {E:Operand->Option (AV G)} {ob:Nat->Option (Ob G)}
structure Qq(J:World->Prop)(ρ:bh)(N:Nat)(c:Cx)(D:List Deferred)(H:List aE)(ob:Nat->Option (Ob G))(a:Act)(w:World):Prop where
 st:St N c D (nN a) H a w
 kn:Kn c H J
 ob:∀r o,ob r=some o->∃x∈H,ro J ρ r o x
def Ch(P:Program)(c:Cx)(J:World->Prop)(ρ:bh)(o:Oper)(a:Act)(w:World)(v:AV G):Prop:=∃u,rv J ρ v u/\VK P c o a w u
theorem pO{r:Nat}{p:List tv}{u:Value}(h:rv (G:=G) J ρ (.ptr r p) u):∃b o,PB ρ r p b o/\u=dO b (o+fj p)/\∀s∈p,s.ok:=by obtain⟨⟨b,o,h1,h2⟩,h3⟩:=h;cases h2;exact⟨b,o,h1,rfl,h3⟩
theorem HX{r:Nat}{p q:List tv}{b o:Nat}(h:PB ρ r p b o)(hp:∀s∈p,s.ok)(hq:∀s∈q,s.ok):rv (G:=G) J ρ (.ptr r (p++q)) (dO b (o+fj p+fj q)):=by
 refine⟨⟨b,o,h.app,by rw[Nk,Nat.add_assoc]⟩,λs hs=>?_⟩;rcases List.mem_append.1 hs with h|h
 ·exact hp s h
 ·exact hq s h
theorem Qg{v:AV G}{k:IntKind}{n:Int}{q:Bool}{u:Value}(h:asI v=some (k,n,q))(hv:rv J ρ v u):u= .int k n:=by unfold asI at h;split at h<;>cases h<;>(have hv:[u]=_ :=hv;cases hv;rfl)
theorem v7(hE:Ap J ρ a E){x:Operand}{k:IntKind}{n:Int}{q:Bool}(h:mU (E x)=some (k,n,q)):a.eval x= .int k n/\Bw.ev (nN a) x=some (.int k n):=by
 unfold mU at h;split at h
 ·rename_i v hx
  have e:=Qg h (hE.ok _ _ hx);exact⟨e,e▸hE.ev _ _ hx⟩
 ·cases h
theorem VO(hm:Qq (G:=G) J ρ N c D H ob a w)(hE:Ap J ρ a E){o:BinOp}{T U:Nat}{x y:Operand}{va vb v:AV G}{gs:List Bool}(h:VQ tt o T va vb=some (gs,v))(hg:∀b∈gs,b=true)(hx:E x=some va)(hy:E y=some vb):
  Ch P c J ρ ⟨d, .binOp o T x y U,ty,ps,af,g⟩ a w v:=by
 have ex:=hE.ok _ _ hx;have ey:=hE.ok _ _ hy;have fx:=hE.ev _ _ hx;have fy:=hE.ev _ _ hy;unfold VQ at h;split at h
 ·rename_i k m _ l n qq h1 h2
  have ex:=Qg h1 ex;have ey:=Qg h2 ey;rw[ex]at fx;rw[ey]at fy;unfold abF at h;split at h
  ·cases h;exact⟨_,rfl,(R1 fx fy (abY (DJ hg))).vk hm.st⟩
  ·cases h;exact⟨_,rfl,(MA fx fy (abY (DJ hg))).vk hm.st⟩
  ·cases hb:G5 k l with
   |false=>rw[hb]at h;cases h
   |true=>rw[hb]at h;obtain rfl:=zH hb;obtain⟨u,h1,h2⟩:=VH (J:=J) (ρ:=ρ) (w:=w) (P:=P) (d:=d) (ty:=ty) (ps:=ps) (af:=af) (g:=g) (T:=T) (U:=U) h hg ex ey;exact⟨u,h2,VK.run (by simp) h1⟩
 ·unfold VP at h
  split at h
  ·rename_i h1 h2
   have ex:=Cc h1 ex;have ey:=Cc h2 ey;rw[ex]at fx;rw[ey]at fy;split at h
   ·rename_i ht;cases h;haveI:=(tt.bool ht).1;exact⟨_,rfl,(abj fx fy).vk hm.st⟩
   ·rename_i ht;cases h;haveI:=(tt.bool ht).1;exact⟨_,rfl,(abd fx fy).vk hm.st⟩
   ·cases h
  ·split at h
   ·have ey:a.eval y= .pointer none:=(List.cons.inj (show[a.eval y]=[Value.pointer none]from ey)).1
    rw[ey]at fy;split at h
    ·rename_i b hb ht
     cases h;obtain⟨p1,p2⟩:=Nw hb ex;cases b with
     |true=>obtain⟨m,n,e⟩:=p1 rfl;rw[e]at fx;exact⟨_,rfl,(abk (tt.ptr ht) fx fy).vk hm.st⟩
     |false=>rw[p2 rfl]at fx;exact⟨_,rfl,(Yj (tt.ptr ht) fx fy).vk hm.st⟩
    ·rename_i b hb ht
     cases h;obtain⟨p1,p2⟩:=Nw hb ex;cases b with
     |true=>obtain⟨m,n,e⟩:=p1 rfl;rw[e]at fx;exact⟨_,rfl,(abe (tt.ptr ht) fx fy).vk hm.st⟩
     |false=>rw[p2 rfl]at fx;exact⟨_,rfl,(Yf (tt.ptr ht) fx fy).vk hm.st⟩
    ·cases h
   ·cases h
theorem IN{e:Ty}{xs:List (e.T G)}{p:List tv}{u:Value}(h:rv J ρ (.YU e xs p) u):∃v ws,Cq J v (e.L G) ws xs/\u=gC v (fj p)/\(∀s∈p,s.ok)/\∃i q,p= .idx xs.length (e.L G).n i::q/\i.toNat<xs.length:=by obtain⟨v,ws,h1,h2,h3,n,sz,i,q,rfl,rfl,rfl⟩:=h;cases h2;refine⟨v,ws,h1,rfl,h3,i,q,rfl,?_⟩;exact(cq (h3 _ List.mem_cons_self)).2
theorem NP{e:Ty}{xs:List (e.T G)}{p:List tv}{v:Value}{ws:List Value}{i:Int}{q:List tv}{s:tv}(h1:Cq J v (e.L G) ws xs)(h3:∀s∈p,s.ok)(hp:p= .idx xs.length (e.L G).n i::q)(hs:s.ok):rv J ρ (.YU e xs (p++[s])) (gC v (fj p+s.off)):=by
 refine⟨v,ws,h1,by rw[Nk];simp[fj],λs' hs'=>?_,xs.length,(e.L G).n,i,q++[s],by rw[hp];rfl,rfl,rfl⟩;rcases List.mem_append.1 hs' with h|h
 ·exact h3 _ h
 ·simp at h;subst h;exact hs
theorem Lx{r e sz:Nat}{t:Ty}{xs:List (t.T G)}(hm:Qq (G:=G) J ρ N c D H ob a w)(h:ob r=some (.row e sz t xs)):∃v ws,ρ r=some v/\uV v xs.length/\qf c H v sz xs.length ws/\(LA (t.L G) xs.length).fg J ws (λi=>xs.getD i default)/\(t.L G).n=sz:=by obtain⟨x,hx,v,ws,h1,h2,h3,h4,h5⟩:=hm.ob _ _ h;subst h2;exact⟨v,ws,h1,h3,⟨λw' _ hp=>Ro.vR (hp.holds _ hx)⟩,h4,h5⟩
theorem s5{r:Nat}{u v:Value}(h:rv (G:=G) J ρ (.row r) u)(hv:ρ r=some v):u=v:=by obtain⟨a0,n,cap,h1,h2⟩:=h;cases h2;rw[h1]at hv;exact Option.some.inj hv
theorem abf{F:eH}{x y:Operand}{t e n b o m:Nat}{k:IntKind}{i:Int}[ht:vD P t e 1](hx:Bw.ev F x=some (.slice (some ⟨b,o,none⟩) n n))(hy:Bw.ev F y=some (.int k i))(hi:i=(m:Int))(hm:m<n):
  VS P N c ⟨d, .indexAddr t x y,ty,ps,af,g⟩ F H (dO b (o+m)):=
 aG (by simp) λa w hf _ _ =>by obtain⟨j,h1,h2,h3⟩:=vD.get ht.ok;subst hi;simp[execOp,aI hf hx,aI hf hy,Instr.indexAt,asIntOf,run_underlying h1,sizeOf,typeInfo,h2,h3,Addr.add_lit,dO];omega
theorem ZF(hm:Qq (G:=G) J ρ N c D H ob a w)(hE:Ap J ρ a E){T:Nat}{x y:Operand}{va v:AV G}{k:IntKind}{i:Int}{qq:Bool}{gs:List Bool}(h:acX tt ob T va i qq=some (gs,v))(hg:∀b∈gs,b=true)(hx:E x=some va)(hy:mU (E y)=some (k,i,qq)):
  Ch P c J ρ ⟨d, .indexAddr T x y,ty,ps,af,g⟩ a w v:=by
 have ex:=hE.ok _ _ hx;have fx:=hE.ev _ _ hx;have fy:=(v7 hE hy).2;unfold acX at h;split at h
 ·rename_i r p n _ sz _ ht
  cases h;have hi:=DJ hg;obtain⟨b,o,h1,h2,h3⟩:=pO ex;rw[h2]at fx;haveI:=tt.mV ht;refine⟨dO b (o+fj p+i.toNat*sz),?_,(Oe (m:=i.toNat) fx fy (cq hi).1 (cq hi).2).vk hm.st⟩;exact HX h1 h3 (q:=[.idx n sz i]) (λs hs=>by simp at hs;subst hs;exact hi)
 ·rename_i e xs p n _ sz _ ht
  cases h;have hi:=DJ hg;obtain⟨vv,ws,h1,h2,h3,j,q,h4,h5⟩:=IN ex;rw[h2]at fx;haveI:=tt.mV ht;haveI:=hm.kn;refine⟨gC vv (fj p+i.toNat*sz),NP h1 h3 h4 (s:= .idx n sz i) hi,(abg (m:=i.toNat) h1 fx fy h5 (cq hi).1 (cq hi).2).vk hm.st⟩
 ·rename_i r _ sz _ ht
  split at h
  ·rename_i e' sz' t xs ho
   cases hb:Nat.beq sz sz' with
   |false=>rw[hb]at h;cases h
   |true=>rw[hb]at h;cases h;obtain rfl:=akf hb;have hi:=hg _ List.mem_cons_self;obtain⟨vv,ws,h1,h2,h3,h4,h5⟩:=Lx hm ho;have e1:=s5 ex h1;rw[e1]at fx;haveI:=(tt.sl ht).1;obtain⟨gb,off,cap,e2,_⟩:=((h3.ro w hm.st.si hm.st.hp).at (cq hi).2);subst e2;refine⟨_,?_,(xO (m:=i.toNat) fx fy (cq hi).1 (cq hi).2).vk hm.st⟩;obtain⟨a0,cp,e4⟩:=h2;have e5:xs.length=_ :=rfl;refine⟨⟨gb,off, .inr ⟨_,_,_,_,_,_,h1,rfl,(cq hi).2⟩,?_⟩,λs hs=>by simp at hs;subst hs;exact hi⟩;simp[gC,fj,tv.off]
  ·cases h
 ·rename_i e xs _ sz _ ht
  cases hb:Nat.beq sz (e.L G).n with
  |false=>rw[hb]at h;cases h
  |true=>rw[hb]at h;cases h;have hs:=akf hb;have hi:=hg _ List.mem_cons_self;obtain⟨u',e1,hr,_,hc⟩:=ex;cases e1;have hc:=hc rfl;obtain⟨v',ws,e2,hf⟩:=hr;rw[hc]at e2;cases e2;haveI:=(tt.sl ht).1;haveI:=hm.kn;refine⟨_,?_,(aeR (m:=i.toNat) hf hs.symm fx fy (cq hi).1 (cq hi).2).vk hm.st⟩;refine⟨_,ws,hf,by simp[fj,tv.off],λs hs'=>by simp at hs';subst hs';exact hi,_,_,_,[],rfl,rfl,hs⟩
 ·cases h
  have h0:=(cq (hg _ List.mem_cons_self)).2;exact absurd h0 (Nat.not_lt_zero _)
 ·rename_i r p m sz i0 _ sz' _ ht
  cases hb:((Nat.beq sz 1&&Nat.beq sz' 1)&&(Nat.beq i0.toNat m&&dH i m))with
  |false=>rw[hb]at h;cases h
  |true=>rw[hb]at h;cases h;simp only[akg]at hb;obtain⟨⟨b1,b2⟩,b3,b4⟩:=hb;obtain rfl:=akf b1;obtain rfl:=akf b2;obtain⟨h1,h2⟩:=cq b4;obtain⟨⟨b,o,e1,e2⟩,e3,_⟩:=ex;have e2:=(List.cons.inj e2).1;rw[e2,Da,akf b3]at fx;haveI:=(tt.sl ht).1;refine⟨dO b (o+fj p+i.toNat),HX e1 e3 (q:=[.D2 0 i.toNat]) (λs hs=>by simp at hs;subst hs;trivial),?_⟩;exact(abf fx fy h1 h2).vk hm.st
 ·cases h
theorem EV{T:Nat}{v:AV G}{u:Value}(h:wP tt T v=true)(hv:rv J ρ v u):(qS P T/\u.cells= #[u]/\v.one=true)\/∃n,ve P T n/\u.cells.size=n/\n≠0/\u= .agg u.cells:=by
 unfold wP at h;split at h
 ·rename_i e he
  split at h
  ·rename_i hs;exact .inl ⟨tt.one he hs,(EI h hv).1,h⟩
  ·rename_i n hs
   split at h
   ·rename_i m hc
    simp only[akg,Bool.not_eq_true']at h;obtain rfl:=akf h.1;have hn:n≠0:=λe0=>by rw[e0]at h;simp at h
    have hag:=tt.agg he hs;refine .inr ⟨n,hag,?_,hn,?_⟩
    ·unfold AV.cw at hc
     split at hc
     ·rename_i t x
      cases ha:t.ag with
      |false=>rw[ha]at hc;cases hc
      |true=>rw[ha]at hc;cases hc;obtain⟨u',e1,h1,h2,_⟩:=hv;cases e1;rw[← Array.length_toList];exact(t.L G).len h1
     ·obtain⟨cs,e1,h1,_⟩:=hv
      cases e1;exact zw hc h1
     ·cases hc
    ·unfold AV.cw at hc
     split at hc
     ·rename_i t x
      cases ha:t.ag with
      |false=>rw[ha]at hc;cases hc
      |true=>obtain⟨u',e1,h1,h2,_⟩:=hv;cases e1;obtain⟨cs,rfl⟩:=h2 ha;rfl
     ·obtain⟨cs,e1,h1,_⟩:=hv
      cases e1;rfl
     ·cases hc
   ·cases h
 ·cases h
theorem zl{cs:List Value}{o:Nat}{u:Value}(h:(cs.drop o).take 1=[u]):cs[o]? =some u:=by
 have h2:((cs.drop o).take 1)[0]? =some u:=by rw[h];rfl
 rw[List.getElem?_take,akd (by decide),List.getElem?_drop]at h2;exact h2
theorem adk(hm:Qq (G:=G) J ρ N c D H ob a w){T b o T':Nat}{x:Operand}{cs:List Value}{v:AV G}{u:Value}(hfit:wP tt T v=true)(hv:rv J ρ v u)(hx:Bw.ev (nN a) x=some (dO b o))(hc:aE.cells b T' cs∈H)(h:(cs.drop o).take u.cells.size=u.cells.toList):
  Ch P c J ρ ⟨d, .load T x,ty,ps,af,g⟩ a w v:=by
 haveI:sE H b T' cs:=⟨hc⟩;rcases EV hfit hv with⟨h1,h2,_⟩|⟨n,h1,h2,_,h3⟩
 ·haveI:=h1
  refine⟨u,hv,(tn hx (zl ?_)).vk hm.st⟩;rw[h2]at h;exact h
 ·haveI:=h1
  subst h2;have e:u= .agg u.cells.toList.toArray:=by rw[Array.toArray_toList];exact h3
  refine⟨.agg u.cells.toList.toArray,by rw[← e];exact hv,(F3 hx h (by simp)).vk hm.st⟩
theorem Wr(hm:Qq (G:=G) J ρ N c D H ob a w){T o sz n:Nat}{x:Operand}{vv:Value}{ws:List Value}{v:AV G}{u:Value}(hfit:wP tt T v=true)(hv:rv J ρ v u)(hx:Bw.ev (nN a) x=some (gC vv o))(hr:qf c H vv sz n ws)(h:(ws.drop o).take u.cells.size=u.cells.toList):
  Ch P c J ρ ⟨d, .load T x,ty,ps,af,g⟩ a w v:=by
 haveI:=hr;rcases EV hfit hv with⟨h1,h2,_⟩|⟨n,h1,h2,h0,h3⟩
 ·haveI:=h1
  refine⟨u,hv,(F4 hx (zl ?_)).vk hm.st⟩;rw[h2]at h;exact h
 ·haveI:=h1
  subst h2;have e:u= .agg u.cells.toList.toArray:=by rw[Array.toArray_toList];exact h3
  refine⟨.agg u.cells.toList.toArray,by rw[← e];exact hv,(MB hx h (by simp) (by omega)).vk hm.st⟩
theorem Nh{e:Ty}{n:Nat}{i:Int}{r:List tv}{q:PL G e}{ws:List Value}{xs:List (e.T G)}{p:List tv}(hp:p= .idx n (e.L G).n i::r)(hn:i.toNat<xs.length)(h:H6 tt.F e p=some q)(hs:∀s∈p,s.ok)(hr:(LA (e.L G) xs.length).fg J ws (λi=>xs.getD i default)):
  ∃u,rv J ρ (mk q.m (q.get (xs.getD q.i.toNat default))) u/\(ws.drop (fj p)).take u.cells.size=u.cells.toList:=by
 subst hp;obtain⟨e1,e3⟩:=Ng h hs rfl hn;have hg:=e3.get hr;obtain⟨u,k1,k2⟩:=GX hg;have hl:=(q.m.L G).len hg;rw[← k1,Array.length_toList]at hl;rw[e1];exact⟨u,Kr k2,by rw[hl,k1]⟩
theorem ZE(hm:Qq (G:=G) J ρ N c D H ob a w)(hE:Ap J ρ a E){T:Nat}{x:Operand}{va v:AV G}(h:acW tt ob va=some v)(hf:wP tt T v=true)(hx:E x=some va):Ch P c J ρ ⟨d, .load T x,ty,ps,af,g⟩ a w v:=by
 have ex:=hE.ok _ _ hx;have fx:=hE.ev _ _ hx;unfold acW at h;split at h
 ·rename_i r p
  obtain⟨b,o,h1,h2,h3⟩:=pO ex;rw[h2]at fx;split at h
  ·rename_i T' cc ho
   obtain⟨y,hy,b',uu,k1,rfl,k3⟩:=hm.ob _ _ ho;have eb:b=b'/\o=0:=by rcases h1 with h1|⟨n,cap,_,_,_,_,h1,_⟩<;>rw[h1]at k1<;>simp[dO]at k1;exact k1
   obtain⟨rfl,rfl⟩:=eb;rw[Nat.zero_add]at fx;obtain⟨u,m1,m2,m3⟩:=Ij h k3 h3;exact adk hm hf m1 fx hy m2
  ·rename_i _ sz t xs ho
   cases hz:WV p sz with
   |false=>rw[hz]at h;cases h
   |true=>
    rw[hz]at h;simp only[cond_true]at h;split at h
    ·rename_i q hq
     cases h;obtain⟨vv,ws,k1,k2,k3,k4,k5⟩:=Lx hm ho;have hp:∃n cap n' sz i q',ρ r=some (.slice (some ⟨b,o,none⟩) n cap)/\p= .idx n' sz i::q'/\i.toNat<n:=by
      rcases h1 with h1|h1
      ·obtain⟨a0,cp,e⟩:=k2
       rw[h1,e]at k1;cases k1
      ·exact h1
     obtain⟨n,cap,n',sz',i,q',e1,e2,e3⟩:=hp;subst e2;obtain rfl:=akf (show Nat.beq sz' sz=true from hz);rw[e1]at k1;cases k1;obtain⟨a0,cp,e4⟩:=k2;cases e4;subst k5;obtain⟨u,m1,m2⟩:=Nh rfl e3 hq h3 k4;exact Wr (vv:= .slice (some ⟨b,o,none⟩) xs.length cap) (o:=fj (tv.idx n' (Ty.L G t).n i::q')) hm hf m1 fx k3 m2
    ·cases h
  ·cases h
 ·rename_i e xs p
  obtain⟨vv,ws,h1,h2,h3,i,q',h4,h5⟩:=IN ex;rw[h2]at fx;split at h
  ·rename_i q hq
   cases h;obtain⟨u,m1,m2⟩:=Nh h4 h5 hq h3 h1.fg;haveI:=hm.kn;exact Wr hm hf m1 fx h1.at m2
  ·cases h
 ·cases h
theorem abi{T j:Nat}{o:Nat×Option Nat}{F:eH}{x:Operand}{u v:Value}(hf:K0 P T j o.1 o.2=true)(hx:Bw.ev F x=some u)(hu:∃cs:List Value,u= .agg cs.toArray)(hv:(u.cells.toList.drop o.1).take v.cells.size=v.cells.toList)
  (h1:o.2=none->v.cells= #[v])(h2:∀n,o.2=some n->v.cells.size=n/\v= .agg v.cells):VS P N c ⟨d, .field T x j,ty,ps,af,g⟩ F H v:=
 aG (by simp) λa w hfr _ _ =>by
  obtain⟨cs,rfl⟩:=hu;unfold K0 at hf;rw[akg]at hf;have hf:=hf.2;split at hf
  ·rename_i fs e1
   split at hf
   ·rename_i fl e2
    rw[akg]at hf;have ho:=akf hf.1;have hf:=hf.2;have hp:(part fl.type cs.toArray fl.offset).run P w= .ok v w:=by
     cases q:o.2 with
     |none=>rw[q]at hf;haveI:qS P fl.type:=⟨hf⟩;have hag:(isAgg fl.type).run P w= .ok false w:=sx w;have:=h1 q;rw[this]at hv;have hv:(cs.drop o.1).take 1=[v]:=hv;have:=zl hv;simp[part,hag,ho,this]
     |some n=>
      rw[q]at hf;haveI:ve P fl.type n:=⟨hf⟩;have hag:(isAgg fl.type).run P w= .ok true w:=uo w;have hs:(sizeOf fl.type).run P w= .ok n w:=Bw.BS w;obtain⟨q1,q2⟩:=h2 n q;rw[q1]at hv;have hv:(cs.drop o.1).take n=v.cells.toList:=hv;have:(cs.toArray.extract o.1 (o.1+n))=v.cells:=by apply Array.ext';rw[← hv];simp[List.extract_eq_take_drop]
      simp only[part,Sem.run_bind,hag,Result.andThen_ok,if_true,hs,ho,Sem.run_pure,this];rw[← q2]
    have ha:(asAgg (.agg cs.toArray)).run P w= .ok cs.toArray w:=rfl;simp[execOp,aI hfr hx,Instr.field,run_underlying e1,e2,ha,hp]
   ·cases hf
  ·cases hf
theorem aac{J:World->Prop}{ρ:bh}{F:Qt G}{v y:AV G}{s:tv}{u:Value}(h:KR F v [s]=some y)(hv:rv J ρ v u):∃cs:List Value,u= .agg cs.toArray:=by
 cases v with
 |dat t x=>
  obtain⟨u',e,_,h1,_⟩:=hv;cases e;cases t with
  |st i=>exact h1 rfl
  |mV n e=>exact h1 rfl
  |int k=>simp[KR,path]at h
  |bool=>simp[KR,path]at h
  |sl e=>simp[KR,path]at h
 |st a=>obtain⟨cs,e,_⟩:=hv;cases e;exact⟨cs,rfl⟩
 |_ =>simp[KR]at h
theorem ad5{y:AV G}{o:Option Nat}{u:Value}(h:NJ o y=true)(hv:rv J ρ y u):(o=none->u.cells= #[u])/\∀n,o=some n->u.cells.size=n/\u= .agg u.cells:=by
 cases o with
 |none=>exact⟨λ_ =>(EI h hv).1,nofun⟩
 |some n=>
  refine⟨nofun,λn' e=>?_⟩;cases e;simp only[NJ]at h;split at h
  ·rename_i m hc
   obtain rfl:=akf h;unfold AV.cw at hc;split at hc
   ·rename_i t x
    cases ha:t.ag with
    |false=>rw[ha]at hc;cases hc
    |true=>rw[ha]at hc;cases hc;obtain⟨u',e1,h1,h2,_⟩:=hv;cases e1;obtain⟨cs,e2⟩:=h2 ha;refine⟨by rw[← Array.length_toList];exact(t.L G).len h1,?_⟩;subst e2;rfl
   ·obtain⟨cs,e1,h1,_⟩:=hv
    cases e1;exact⟨zw hc h1,rfl⟩
   ·cases hc
  ·cases h
theorem Vz(hm:Qq (G:=G) J ρ N c D H ob a w)(hE:Ap J ρ a E){op:Op}{v:AV G}{gs:List Bool}(h:pv tt ob E op=some (gs,v))(hg:∀b∈gs,b=true):Ch P c J ρ ⟨d,op,ty,ps,af,g⟩ a w v:=by
 unfold pv at h;split at h
 ·split at h
  ·rename_i v' hx;cases h;exact⟨_,hE.ok _ _ hx,(cz (hE.ev _ _ hx)).vk hm.st⟩
  ·cases h
 ·split at h
  ·rename_i v' hx;cases h;exact⟨_,hE.ok _ _ hx,(oZ (hE.ev _ _ hx)).vk hm.st⟩
  ·cases h
 ·split at h
  ·rename_i va vb hx hy;exact VO hm hE h hg hx hy
  ·cases h
 ·split at h
  ·rename_i b hx
   cases h;have e:=As (hE.ok _ _ hx);have f:=hE.ev _ _ hx;rw[e]at f;exact⟨_,rfl,(Cd f).vk hm.st⟩
  ·rename_i b hx
   cases h;have e:=Ks (hE.ok _ _ hx);have f:=hE.ev _ _ hx;rw[e]at f;exact⟨_,rfl,(Cd f).vk hm.st⟩
  ·cases h
 ·split at h
  ·rename_i k n _ hx
   cases h;exact⟨_,rfl,(Yg (v7 hE hx).2 rfl).vk hm.st⟩
  ·cases h
 ·split at h
  ·rename_i k n _ l k' hx h1 h2
   cases hb:G5 k l with
   |false=>rw[hb]at h;cases h
   |true=>rw[hb]at h;cases h;obtain rfl:=zH hb;have f:=(v7 hE hx).2;haveI:=(tt.int h1).1;haveI:=(tt.int h2).1;exact⟨_,rfl,(R6 f rfl).vk hm.st⟩
  ·cases h
 ·split at h
  ·rename_i r p hx
   cases h;have e:=hE.ok _ _ hx;have f:=hE.ev _ _ hx;obtain⟨b,o,_,e2,_⟩:=pO e;refine⟨_,e,?_⟩;rw[e2]at f ⊢;exact(vC f).vk hm.st
  ·rename_i ff aa cc hx
   cases h;have e:=hE.ok _ _ hx;refine⟨_,e,VK.run (by simp) ?_⟩;obtain⟨fs,cs,e2,_⟩:=e;have e2:=(List.cons.inj e2).1;simp[execOp,e2]
  ·cases h
 ·split at h
  ·rename_i fj n ht
   split at h
   ·rename_i o ho
    haveI:=tt.D2 ht ho;split at h
    ·rename_i r p hx
     cases h;have f:=hE.ev _ _ hx;obtain⟨b,o',h1,h2,h3⟩:=pO (hE.ok _ _ hx);rw[h2]at f;refine⟨_,HX h1 h3 (q:=[.D2 _ o.1]) (λs hs=>by simp at hs;subst hs;trivial),?_⟩;exact(DM f).vk hm.st
    ·rename_i e xs p hx
     cases h;have f:=hE.ev _ _ hx;obtain⟨vv,ws,h1,h2,h3,i,q,h4,h5⟩:=IN (hE.ok _ _ hx);rw[h2]at f;haveI:=hm.kn;exact⟨_,NP h1 h3 h4 (s:= .D2 _ o.1) trivial,(abh h1 f h5).vk hm.st⟩
    ·cases h
   ·cases h
  ·cases h
 ·split at h
  ·rename_i fj n ht
   split at h
   ·rename_i o ho
    split at h
    ·rename_i va hx
     split at h
     ·rename_i y hy
      cases hb:NJ o.2 y with
      |false=>rw[hb]at h;cases h
      |true=>rw[hb]at h;cases h;have e:=hE.ok _ _ hx;obtain⟨u,k1,k2,k3⟩:=Ij hy e (λs hs=>by simp at hs;subst hs;trivial);obtain⟨q1,q2⟩:=ad5 hb k1;exact⟨u,k1,(abi (tt.fs ht ho) (hE.ev _ _ hx) (aac hy e) k2 q1 q2).vk hm.st⟩
     ·cases h
    ·cases h
   ·cases h
  ·cases h
 ·split at h
  ·rename_i va k i _ hx hy;exact ZF hm hE h hg hx hy
  ·cases h
 ·split at h
  ·rename_i n e f k i _ m te sz MZ hx hy ht
   cases hb:(Nat.beq n m&&(Nat.beq sz (e.L G).n&&wP tt te (mk e (f i.toNat))))with
   |false=>rw[hb]at h;cases h
   |true=>
    rw[hb]at h;cases h;simp only[akg]at hb;obtain rfl:=akf hb.1;have hs:=akf hb.2.1;have hi:=DJ hg;have fx:=hE.ev _ _ hx;have fy:=(v7 hE hy).2;haveI:=tt.mV ht;have ex:=hE.ok _ _ hx;obtain⟨u',e1,h1,h2,_⟩:=ex;cases e1;obtain⟨cs,e2⟩:=h2 rfl;rw[e2]at fx h1;have hp:=aV.idx (L:=e.L G) (m:=n) i.toNat (cq hi).2 hs;have hgt:=hp.get h1;obtain⟨u,k1,k2⟩:=GX hgt;have hl:=(e.L G).len hgt;have hv:rv J ρ (mk e (f i.toNat)) u:=Kr k2;rcases EV hb.2.2 hv with⟨m1,m2,_⟩|⟨q,m1,m2,_,m3⟩
    ·haveI:=m1
     rw[m2]at k1;have hn:(e.L G).n=1:=by rw[← hl, ← k1];rfl
     rw[hn]at k1;exact⟨u,hv,(K6 (m:=i.toNat) fx fy (cq hi).1 (cq hi).2 (zl k1.symm)).vk hm.st⟩
    ·haveI:=m1
     have e3:u= .agg u.cells.toList.toArray:=by rw[Array.toArray_toList];exact m3
     refine⟨.agg u.cells.toList.toArray,by rw[← e3];exact hv,(K5 (m:=i.toNat) (q:=q) (us:=u.cells.toList) fx fy (cq hi).1 (cq hi).2 ?_).vk hm.st⟩;rw[hs];rw[hs]at k1;exact k1.symm
  ·rename_i pa k i _ m te sz MZ hx hy ht
   split at h
   ·rename_i wd y hp
    cases hb:(Nat.beq wd sz&&wP tt te y)with
    |false=>rw[hb]at h;cases h
    |true=>
     rw[hb]at h;cases h;simp only[akg]at hb;obtain rfl:=akf hb.1;have hi:=DJ hg;have fx:=hE.ev _ _ hx;have fy:=(v7 hE hy).2;haveI:=tt.mV ht;obtain⟨cs,e1,h1,_⟩:=hE.ok _ _ hx;rw[(List.cons.inj e1).1]at fx;obtain⟨u,hv,k1,k2,_⟩:=EG hp h1;rcases EV hb.2 hv with⟨m1,m2,_⟩|⟨q,m1,m2,_,m3⟩
     ·haveI:=m1
      rw[m2]at k1;have hn:wd=1:=by rw[← k2, ← Array.length_toList,m2];rfl
      subst hn;exact⟨u,hv,(K6 (m:=i.toNat) fx fy (cq hi).1 (cq hi).2 (zl k1)).vk hm.st⟩
     ·haveI:=m1
      have e3:u= .agg u.cells.toList.toArray:=by rw[Array.toArray_toList];exact m3
      exact⟨.agg u.cells.toList.toArray,by rw[← e3];exact hv,(K5 (m:=i.toNat) (q:=q) (us:=u.cells.toList) fx fy (cq hi).1 (cq hi).2 k1).vk hm.st⟩
   ·cases h
  ·cases h
 ·split at h
  ·rename_i va hx
   split at h
   ·rename_i y hy
    cases hb:wP tt _ y with
    |false=>rw[hb]at h;cases h
    |true=>rw[hb]at h;cases h;exact ZE hm hE hy hb hx
   ·cases h
  ·cases h
 ·split at h
  ·rename_i l hx
   split at h
   ·rename_i v' hn
    cases h;obtain⟨vs,e,hl⟩:=hE.ok _ _ hx;have f:=hE.ev _ _ hx;rw[(List.cons.inj e).1]at f;obtain⟨u,h1,h2⟩:=LM hn hl;exact⟨u,h2,(mW f h1).vk hm.st⟩
   ·cases h
  ·cases h
 ·rename_i fn first cap
  split at h
  ·rename_i aa cc h1 h2
   cases h;obtain⟨i1,_⟩:=vW hE h1;obtain⟨j1,_⟩:=vW hE h2;refine⟨.func fn (first.map a.eval) (cap.map a.eval),⟨_,_,?_,i1,j1⟩,VK.run (by simp) (by simp[execOp,Instr.makeFunc])⟩;congr 1;simp[← Array.toList_map]
  ·cases h
 ·split at h
  ·rename_i v' k hx ht
   cases h;haveI:=(tt.int ht).1;exact⟨_,⟨_,rfl,hE.ok _ _ hx⟩,VK.run (by simp) (by simp[execOp,Instr.makeInterface,run_underlying (Yn.ok (k:=k))])⟩
  ·cases h
 ·rename_i args Ju
  obtain⟨args⟩:=args;obtain⟨Ju⟩:=Ju;split at h
  ·rename_i x T ea et
   dsimp only at ea et;subst ea et;split at h
   ·rename_i r e sz b hx ht
    split at h
    ·rename_i e' sz' t xs ho
     cases h;obtain⟨vv,ws,h1,h2,h3,h4,h5⟩:=Lx hm ho;have fx:=hE.ev _ _ hx;rw[s5 (hE.ok _ _ hx) h1]at fx;haveI:=(tt.sl ht).1;exact⟨_,rfl,(Ql fx).vk hm.st⟩
    ·cases h
   ·rename_i e xs e' sz b hx ht
    cases h;obtain⟨u',e1,hr,_,hc⟩:=hE.ok _ _ hx;cases e1;obtain⟨v',ws,e2,hf⟩:=hr;rw[hc rfl]at e2;cases e2;haveI:=(tt.sl ht).1;haveI:=hm.kn;exact⟨_,rfl,(R5 hf (hE.ev _ _ hx)).vk hm.st⟩
   ·rename_i e sz b hx ht
    cases h;have f:=hE.ev _ _ hx;have e1:a.eval x= .slice none 0 0:=(List.cons.inj (show[a.eval x]=[Value.slice none 0 0]from hE.ok _ _ hx)).1;rw[e1]at f;haveI:=(tt.sl ht).1;haveI:=hm.kn;exact⟨_,rfl,(R5 (A:=J) (L:=LB) (ws:=[]) (xs:=[]) Cq.nil f).vk hm.st⟩
   ·rename_i r p m sz' i e sz b hx ht
    cases h;have f:=hE.ev _ _ hx;obtain⟨⟨b',o,e1,e2⟩,e3,_⟩:=hE.ok _ _ hx;have e2:=(List.cons.inj e2).1;rw[e2,Da]at f;haveI:=(tt.sl ht).1;exact⟨_,rfl,(TS f).vk hm.st⟩
   ·cases h
  ·cases h
 ·rename_i args Ju
  obtain⟨args⟩:=args;split at h
  ·rename_i x y ea
   dsimp only at ea;subst ea;split at h
   ·rename_i k m _ l n _ hx hy
    cases hb:G5 k l with
    |false=>rw[hb]at h;cases h
    |true=>rw[hb]at h;cases h;obtain rfl:=zH hb;have fx:=(v7 hE hx).2;have fy:=(v7 hE hy).2;exact⟨_,rfl,(aeM fx fy).vk hm.st⟩
   ·cases h
  ·cases h
 ·rename_i args Ju
  obtain⟨args⟩:=args;split at h
  ·rename_i x y ea
   dsimp only at ea;subst ea;split at h
   ·rename_i k m _ l n _ hx hy
    cases hb:G5 k l with
    |false=>rw[hb]at h;cases h
    |true=>rw[hb]at h;cases h;obtain rfl:=zH hb;have fx:=(v7 hE hx).2;have fy:=(v7 hE hy).2;exact⟨_,rfl,(aeN fx fy).vk hm.st⟩
   ·cases h
  ·cases h
 ·cases h
end Go.Rw
namespace Go.Rw
open Go Go.Bw Go.RowKit
variable {G:Sg} {P:Program} {tt:TT P G} {J J':World->Prop} {ρ ρ':bh} {a:Act} {w:World} {d:Option Tmp} {ty:TypeId} {ps:String} {af:Array Edge} {g:Option (Nat×Bool)}
 {N:Nat} {c:Cx} {HK X:List aE} {C:CC G} {S:AS G}
def V3(C:CC G)(S:AS G)(r:Nat):Option (Ob G):=match dm S.O r with
 |some o=>some o
 |none=>dm (my C) r
theorem RO.get{O:Os G}{H:List aE}(h:RO J ρ O H){r:Nat}{o:Ob G}(e:dm O r=some o):∃(k:Nat) (x:aE),H[k]? =some x/\ro J ρ r o x:=by
 induction h with
 |nil=>cases e
 |@cons r0 o0 x0 O H h0 _ ih=>
  simp only[dm]at e;cases hb:Nat.beq r0 r with
  |true=>rw[hb]at e;cases e;obtain rfl:=akf hb;exact⟨0,x0,rfl,h0⟩
  |false=>rw[hb]at e;obtain⟨k,x,k1,k2⟩:=ih e;exact⟨k+1,x,by simpa using k1,k2⟩
def qm:Os G->Nat->Ob G->Os G
 |[],_,_ =>[]
 |(k,v)::r,d,o=>bif Nat.beq k d then(k,o)::r else(k,v)::qm r d o
theorem RO.set{O:Os G}{H:List aE}(h:RO J ρ O H){r:Nat}{o:Ob G}(e:dm O r=some o):∃(k:Nat) (x:aE),H[k]? =some x/\ro J ρ r o x/\∀o' x',ro J ρ r o' x'->RO J ρ (qm O r o') (H.set k x'):=by
 induction h with
 |nil=>cases e
 |@cons r0 o0 x0 O H h0 hr ih=>
  simp only[dm]at e;cases hb:Nat.beq r0 r with
  |true=>rw[hb]at e;cases e;obtain rfl:=akf hb;refine⟨0,x0,rfl,h0,λo' x' h'=>?_⟩;simp only[qm,hb,cond_true];exact .cons h' hr
  |false=>rw[hb]at e;obtain⟨k,x,k1,k2,k3⟩:=ih e;refine⟨k+1,x,by simpa using k1,k2,λo' x' h'=>?_⟩;simp only[qm,hb,cond_false];exact .cons h0 (k3 o' x' h')
def xH:Os G->Nat->Os G
 |[],_ =>[]
 |(k,v)::r,d=>bif Nat.beq k d then r else(k,v)::xH r d
theorem RO.del{O:Os G}{H:List aE}(h:RO J ρ O H){r:Nat}{o:Ob G}(e:dm O r=some o):∃(k:Nat) (x:aE),H[k]? =some x/\ro J ρ r o x/\RO J ρ (xH O r) (H.eraseIdx k):=by
 induction h with
 |nil=>cases e
 |@cons r0 o0 x0 O H h0 hr ih=>
  simp only[dm]at e;cases hb:Nat.beq r0 r with
  |true=>rw[hb]at e;cases e;obtain rfl:=akf hb;refine⟨0,x0,rfl,h0,?_⟩;simp only[xH,hb,cond_true];exact hr
  |false=>rw[hb]at e;obtain⟨k,x,k1,k2,k3⟩:=ih e;refine⟨k+1,x,by simpa using k1,k2,?_⟩;simp only[xH,hb,cond_false];exact .cons h0 k3
theorem RO.app{O O':Os G}{H H':List aE}(h:RO J ρ O H)(k:RO J ρ O' H'):RO J ρ (O++O') (H++H'):=by
 induction h with
 |nil=>exact k
 |cons h _ ih=>exact .cons h ih
theorem Rl.st(h:Rl c N ρ J HK X C S a w):∃HS,RO J ρ S.O HS/\St N c a.defers (nN a) (HS++(HK++X)) a w/\Qq J ρ N c a.defers (HS++(HK++X)) (V3 C S) a w:=by
 obtain⟨HS,h1,h3⟩:=h.hp;have hst:St N c a.defers (nN a) (HS++(HK++X)) a w:=⟨h.tm,G7 a,rfl,h.si.s,h3⟩;refine⟨HS,h1,hst,hst,⟨λw' _ hp=>h.kn.to w' λr hr=>⟨hp.holds r (by simp[hr]),λb hb=>(hp.own r (by simp[hr]) b hb).2⟩⟩,λr o e=>?_⟩;unfold V3 at e;split at e
 ·rename_i o' he
  cases e;obtain⟨k,x,k1,k2⟩:=h1.get he;exact⟨x,akk _ (List.mem_of_getElem? k1),k2⟩
 ·obtain⟨x,k1,k2⟩:=h.kc r o e
  exact⟨x,akj _ (akk _ k1),k2⟩
def chain(C:CC G)(S:AS G):Nat->Nat->Bool->List (Nat×Bool)
 |0,j,w=>[(j,w)]
 |n+1,j,w=>(j,w)::match NO C S (.tmp j)with
  |some (.gd k v _)=>chain C S n k v
  |_ =>[]
def Wy:List (Nat×Bool)->Nat->Bool->Bool
 |[],_,_ =>false
 |(k,v)::r,j,w=>(Nat.beq k j&&(v==w))||Wy r j w
def YR(C:CC G)(S:AS G):Nat->Nat->Bool->Option Bool
 |0,_,_ =>none
 |n+1,j,w=>match NO C S (.tmp j)with
  |some (.kb b)=>some (b==w)
  |some (.gd k v x)=>match YR C S n k v with
   |some false=>some false
   |some true=>(match x with
    | .kb b=>some (b==w)
    |_ =>none)
   |none=>none
  |_ =>none
def isT:Option Bool->Bool
 |some b=>b
 |none=>false
def gv(C:CC G)(S:AS G)(ch:List (Nat×Bool))(x:Operand):Option (AV G):=match NO C S x with
 |some (.gd j w v)=>bif Wy ch j w||isT (YR C S 8 j w)then some v else none
 |r=>r
theorem ads{p:Nat->Bool->Prop}:∀{l:List (Nat×Bool)} {j:Nat} {w:Bool},Wy l j w=true->(∀q∈l,p q.1 q.2)->p j w:=by
 intro l
 induction l with
 |nil=>intro j w h;cases h
 |cons q r ih=>
  obtain⟨k,v⟩:=q;intro j w h hp;simp only[Wy,Bool.or_eq_true,akg]at h;rcases h with⟨h1,h2⟩|h
  ·have e1:=akf h1
   have e2:v=w:=by simpa using h2
   have:=hp _ List.mem_cons_self;rw[e1,e2]at this;exact this
  ·exact ih h λq hq=>hp q (akp _ hq)
theorem EK{w:Bool}:Value.bool w≠undef:=by intro h;cases h
theorem N1(h:Rl c N ρ J HK X C S a w):∀(n j:Nat) (v:Bool),a.tmps[j]? =some (.bool v)->∀q∈chain C S n j v,a.tmps[q.1]? =some (.bool q.2):=by
 intro n
 induction n with
 |zero=>intro j v e q hq;simp[chain]at hq;subst hq;exact e
 |succ n ih=>
  intro j v e q hq;simp only[chain,List.mem_cons]at hq;rcases hq with rfl|hq
  ·exact e
  ·split at hq
   ·rename_i k u x he
    refine ih k u ?_ q hq;have hr:=h.ev he;have e2:a.eval (.tmp j)= .bool v:=by simp[Act.eval,e]
    rw[e2]at hr;cases Classical.em (a.tmps[k]? =some (.bool u))with
    |inl h=>exact h
    |inr h=>exact absurd (hr.2 h) EK
   ·cases hq
theorem PS{x:Operand}{v:AV G}(h:Rl c N ρ J HK X C S a w)(e:NO C S x=some v):Bw.ev (nN a) x=some (a.eval x):=by
 refine Ri (λt ht=>?_) (λg hg=>?_)
 ·subst ht
  simp only[NO]at e;split at e
  ·rename_i v' he
   obtain⟨u,h1,_⟩:=h.fs t _ he;exact(akl.1 h1).1
  ·obtain⟨u,h1,_⟩:=Wo h.fc e
   exact(akl.1 h1).1
 ·subst hg;cases e
theorem agc{t:Array Value}{v:AV G}{u:Value}(h:rf J ρ t v u)(hn:∀j w v',v≠ .gd j w v'):rv J ρ v u:=by
 cases v with
 |gd j w v'=>exact absurd rfl (hn j w v')
 |_ =>exact h
theorem abE{b:Bool}{t:Array Value}{u:Value}(h:rf (G:=G) J ρ t (.kb b) u):u= .bool b:=Ks (G:=G) (J:=J) (ρ:=ρ) h
theorem Ey(h:Rl c N ρ J HK X C S a w){j:Nat}{x:AV G}(e:NO C S (.tmp j)=some x):a.tmps[j]? =some (a.eval (.tmp j)):=G7 a j _ (PS h e)
theorem Mh(h:Rl c N ρ J HK X C S a w):∀(n j:Nat) (v g:Bool),YR C S n j v=some g->(a.tmps[j]? =some (.bool v)↔g=true):=by
 intro n
 induction n with
 |zero=>intro j v g e;cases e
 |succ n ih=>
  intro j v g e;simp only[YR]at e;split at e
  ·rename_i b he
   cases e;rw[Ey h he,abE (h.ev he)];cases b<;>cases v<;>simp
  ·rename_i k u x he
   have hr:=h.ev he;split at e
   ·rename_i hg
    cases e;have ihk:=ih k u false hg;have h2:a.tmps[k]? ≠some (.bool u):=λq=>by have:=ihk.1 q;cases this
    rw[Ey h he,hr.2 h2];simp only[Option.some.injEq,Bool.false_eq_true,iff_false]
    exactλq=>EK q.symm
   ·rename_i hg
    have ihk:=ih k u true hg;split at e
    ·rename_i b
     cases e;rw[Ey h he,Ks (hr.1 (ihk.2 rfl))];cases b<;>cases v<;>simp
    ·cases e
   ·cases e
  ·cases e
theorem agT{o:Option Bool}(h:isT o=true):o=some true:=by cases o with
 |none=>cases h
 |some b=>cases b with
  |true=>rfl
  |false=>cases h
theorem dk(h:Rl c N ρ J HK X C S a w){ch:List (Nat×Bool)}(hc:∀q∈ch,a.tmps[q.1]? =some (.bool q.2)):Ap J ρ a (gv C S ch):=by
 refine⟨λx v e=>?_,λx v e=>?_⟩
 ·unfold gv at e
  split at e
  ·rename_i j u x' he
   cases hb:(Wy ch j u||isT (YR C S 8 j u))with
   |false=>rw[hb]at e;cases e
   |true=>
    rw[hb]at e;cases e;have:=h.ev he;rw[Bool.or_eq_true]at hb;rcases hb with hb|hb
    ·exact this.1 (ads (p:=λj u=>a.tmps[j]? =some (.bool u)) hb hc)
    ·exact this.1 ((Mh h 8 j u true (agT hb)).2 rfl)
  ·rename_i hn
   exact agc (h.ev e) λj w v' q=>hn j w v' (q▸e)
 ·unfold gv at e
  split at e
  ·rename_i j u x' he;exact PS h he
  ·exact PS h e
theorem QG{b:Bool}{t:Array Value}{u:Value}(h:rf (G:=G) J ρ t (.bool b) u):u= .bool b:=As (G:=G) (J:=J) (ρ:=ρ) h
def PE(C:CC G)(S:AS G):Nat->Nat->Bool->Option Bool
 |0,_,_ =>none
 |n+1,j,w=>match NO C S (.tmp j)with
  |some (.bool b)=>some (b==w)
  |some (.kb b)=>some (b==w)
  |some (.gd k v x)=>match asB x with
   |some b=>match PE C S n k v with
    |some g=>some (g&&(b==w))
    |none=>none
   |none=>none
  |_ =>none
theorem Rh(h:Rl c N ρ J HK X C S a w):∀(n j:Nat) (v g:Bool),PE C S n j v=some g->(a.tmps[j]? =some (.bool v)↔g=true):=by
 intro n
 induction n with
 |zero=>intro j v g e;cases e
 |succ n ih=>
  intro j v g e;simp only[PE]at e;have hj:∀x,NO C S (.tmp j)=some x->a.tmps[j]? =some (a.eval (.tmp j)):=λx he=>Ey h he;split at e
  ·rename_i b he
   cases e;have hr:=QG (h.ev he);rw[hj _ he,hr];cases b<;>cases v<;>simp
  ·rename_i b he
   cases e;rw[hj _ he,abE (h.ev he)];cases b<;>cases v<;>simp
  ·rename_i k u x he
   split at e;rotate_left
   ·cases e
   rename_i b hb;split at e
   ·rename_i g' hg
    cases e;have hr:=h.ev he;have ihk:=ih k u g' hg;rw[hj _ he];cases g' with
    |true=>have h1:=hr.1 (ihk.2 rfl);have:=Cc hb h1;rw[this];cases b<;>cases v<;>simp
    |false=>
     have h2:a.tmps[k]? ≠some (.bool u):=λq=>by have:=ihk.1 q;cases this
     rw[hr.2 h2];simp only[Bool.false_and,Option.some.injEq,Bool.false_eq_true,iff_false]
     exactλq=>EK q.symm
   ·cases e
  ·cases e
def KW(C:CC G)(S:AS G):Nat->Nat->Option (Nat×Bool)
 |0,_ =>none
 |n+1,j=>match NO C S (.tmp j)with
  |some (.bool b)=>some (j,b)
  |some (.gd k v x)=>match YR C S 8 k v with
   |some true=>(match x with
    | .bool b=>some (j,b)
    |_ =>none)
   |some false=>none
   |none=>KW C S n k
  |_ =>none
theorem NF(h:Rl c N ρ J HK X C S a w):∀(n j k:Nat) (b:Bool),KW C S n j=some (k,b)->a.tmps[k]? =some (.bool b):=by
 intro n
 induction n with
 |zero=>intro j k b e;cases e
 |succ n ih=>
  intro j k b e;simp only[KW]at e;split at e
  ·rename_i b' he
   cases e;rw[Ey h he,QG (h.ev he)]
  ·rename_i k' v x he
   split at e
   ·rename_i hg
    split at e
    ·rename_i b'
     cases e;rw[Ey h he,As ((h.ev he).1 ((Mh h 8 k' v true hg).2 rfl))]
    ·cases e
   ·cases e
   ·exact ih k' k b e
  ·cases e
def SK(P:Program)(o:Oper)(C:CC G)(S S':AS G)(v:AV G):Prop:=∀(c:Cx) (N:Nat) (ρ:bh) (J:World->Prop) (HK X:List aE) (a:Act) (w:World) (next:Act->World->Prop) (Q:Exit->Act->World->Prop),Rl c N ρ J HK X C S a w-> (∀(ρ':bh) (J':World->Prop) (Y:List aE) (w':World) (u:Value),ρ.to ρ' S.nx->(∀w,J' w->J w)->rv J' ρ' v u->Rl c N ρ' J' HK (Y++X) C S' a w'->next (a.put o.dst u) w')->o.wpIn (FA c.ro) 0 P a w next Q
theorem Rl.Oo(h:Rl c N ρ J HK X C S a w)(mJ:∀w,J' w->J w)(mρ:ρ.le ρ'):∀r o,dm (my C) r=some o->∃x∈HK,ro J' ρ' r o x:=λr o e=>by obtain⟨x,h1,h2⟩:=h.kc r o e;exact⟨x,h1,h2.up mJ mρ⟩
theorem Rl.new{HS:List aE}{x:aE}{o:Ob G}{u:Value}{w':World}(h:Rl c N ρ J HK X C S a w)(h1:RO J ρ S.O HS)(hs:aQ c.bs c.w0 w')(hp:bH c.bs c.w0.heap.size (x::(HS++(HK++X))) w')(hx:ro J (ρ.set S.nx u) S.nx o x):
  Rl c N (ρ.set S.nx u) J HK X C {S with O:=(S.nx,o)::S.O,nx:=S.nx+1} a w':=by
 have hle:=(bh.kL ρ S.nx u).le h.fr;exact⟨h.tm,h.df.up (λ_ h=>h) hle,⟨hs,h.si.n⟩,h.fs.up (λ_ h=>h) hle,h.fc.up (λ_ h=>h) hle,h.Oo (λ_ h=>h) hle,⟨x::HS, .cons hx (h1.up (λ_ h=>h) hle),by simpa using hp⟩,h.kn,bh.xl h.fr u⟩
theorem acH{T:Nat}{x:Operand}{v:AV G}(hv:gv C S [] x=some v):SK P ⟨d, .box T x,ty,ps,af,g⟩ C S {S with O:=(S.nx, .cI T v)::S.O,nx:=S.nx+1} (.ptr S.nx []):=by
 intro c N ρ J HK X a w next Q h hk
 obtain⟨HS,h1,hst,_⟩:=h.st;have hE:=dk h (ch:=[]) (by simp);refine Qo (hE.ev _ _ hv) rfl a.defers a w next Q hst λb w' _ hs hp=>?_
 refine hk (ρ.set S.nx (dO b 0)) J [] w' (dO b 0) (bh.kL _ _ _) (λ_ h=>h) ?_ (h.new h1 hs hp ?_)
 ·exact⟨⟨b,0, .inl (bh.iN _ _ _),by simp[fj]⟩,by simp⟩
 ·exact⟨b,_,bh.iN _ _ _,rfl,(hE.ok _ _ hv).ext ((bh.kL ρ S.nx _).le h.fr)⟩
structure ZT(P:Program)(G:Sg) where
 z:Og (AV G)
 ok:∀t v,z.find t=some v->∀(J:World->Prop) (ρ:bh),∃u:Value,bT P t=some u.cells.toList/\rv J ρ v u
def ZOk(P:Program):Og (AV G)->Prop
 | .eC=>True
 | .eD k v l r=>(∀(J:World->Prop) (ρ:bh),∃u:Value,bT P k=some u.cells.toList/\rv J ρ v u)/\ZOk P l/\ZOk P r
theorem aeC{P:Program}:∀{t:Og (AV G)},ZOk P t->∀k v,t.find k=some v->∀(J:World->Prop) (ρ:bh),∃u:Value,bT P k=some u.cells.toList/\rv J ρ v u:=by
 intro t
 induction t with
 |eC=>intro _ k v h;cases h
 |eD k0 v0 l r ihl ihr=>
  intro h k v e;simp only[Og.find]at e;cases h1:Nat.beq k0 k with
  |true=>rw[h1]at e;cases e;rw[← akf h1];exact h.1
  |false=>
   rw[h1]at e;simp only[cond_false]at e;cases h2:Nat.blt k k0 with
   |true=>rw[h2]at e;exact ihl h.2.1 k v e
   |false=>rw[h2]at e;exact ihr h.2.2 k v e
theorem U7{zt:ZT P G}{T:Nat}{v:AV G}(hv:zt.z.find T=some v):SK P ⟨d, .alloc T,ty,ps,af,g⟩ C S {S with O:=(S.nx, .cI T v)::S.O,nx:=S.nx+1} (.ptr S.nx []):=by
 intro c N ρ J HK X a w next Q h hk
 obtain⟨HS,h1,hst,_⟩:=h.st;obtain⟨u,k1,k2⟩:=zt.ok T v hv J ρ;haveI:jH P T u.cells.toList:=⟨k1⟩;refine Ag (cs:=u.cells.toList) a.defers a w next Q hst λb w' _ hs hp=>?_
 refine hk (ρ.set S.nx (dO b 0)) J [] w' (dO b 0) (bh.kL _ _ _) (λ_ h=>h) ?_ (h.new h1 hs hp ?_)
 ·exact⟨⟨b,0, .inl (bh.iN _ _ _),by simp[fj]⟩,by simp⟩
 ·exact⟨b,u,bh.iN _ _ _,rfl,k2.ext ((bh.kL ρ S.nx _).le h.fr)⟩
theorem Rl.C0{Uj:List aE}{O':Os G}{w':World}(h:Rl c N ρ J HK X C S a w)(hr:RO J ρ O' Uj)(hs:aQ c.bs c.w0 w')(hp:bH c.bs c.w0.heap.size (Uj++(HK++X)) w'):
  Rl c N ρ J HK X C {S with O:=O'} a w':=⟨h.tm,h.df,⟨hs,h.si.n⟩,h.fs,h.fc,h.kc,⟨_,hr,hp⟩,h.kn,h.fr⟩
theorem qX{α:Type}{l m:List α}{k:Nat}{x:α}(h:l[k]? =some x):(l++m)[k]? =some x:=by rw[List.getElem?_append_left (List.getElem?_eq_some_iff.1 h).1];exact h
theorem vo{α:Type}{l m:List α}{k:Nat}{x y:α}(h:l[k]? =some x):(l++m).set k y=l.set k y++m:=by rw[List.set_append_left];exact(List.getElem?_eq_some_iff.1 h).1
theorem Xm{T:Nat}{v:AV G}{u:Value}(h:wP tt T v=true)(hv:rv J ρ v u):R9 P T u.cells.size:=by
 rcases EV h hv with⟨h1,h2,_⟩|⟨n,h1,h2,_⟩
 ·haveI:=h1
  rw[h2];exact(inferInstance:R9 P T 1)
 ·haveI:=h1
  subst h2;exact inferInstance
theorem U2{T:Nat}{x y:Operand}{v:AV G}{r T':Nat}{p:List tv}{cc Ow:AV G}(hx:gv C S [] x=some (.ptr r p))(hy:gv C S [] y=some v)(ho:dm S.O r=some (.cI T' cc))(hst:OR tt.F cc p v=some Ow)(hf:wP tt T v=true):
  SK P ⟨d, .store T x y,ty,ps,af,g⟩ C S {S with O:=qm S.O r (.cI T' Ow)} .QA:=by
 intro c N ρ J HK X a w next Q h hk
 obtain⟨HS,h1,hs0,hm⟩:=h.st;have hE:=dk h (ch:=[]) (by simp);obtain⟨b,o,e1,e2,e3⟩:=pO (hE.ok _ _ hx);obtain⟨k,q,k1,⟨b',u,m1,rfl,m3⟩,k3⟩:=h1.set ho;have eb:b=b'/\o=0:=by rcases e1 with h1|⟨n,cap,_,_,_,_,h1,_⟩<;>rw[h1]at m1<;>simp[dO]at m1;exact m1
 obtain⟨rfl,rfl⟩:=eb;have hv:=hE.ok _ _ hy;obtain⟨u',n1,n2,n3,n4⟩:=Ls hv hst m3 e3;have tD:=hE.ev _ _ hx;rw[e2,Nat.zero_add]at tD;have Jw:=qX (m:=HK++X) k1;haveI:sE (HS++(HK++X)) b T' u.cells.toList:=⟨List.mem_of_getElem? Jw⟩;haveI:=Xm hf hv;haveI:Gz (HS++(HK++X)) b u'.cells.toList (HS.set k (.cells b T' u'.cells.toList)++(HK++X)):=⟨k,T',_,Jw,by rw[vo k1]⟩;refine rP (n:=(a.eval y).cells.size) (vs:=(a.eval y).cells.toList) (cs':=u'.cells.toList) tD (hE.ev _ _ hy) rfl (by simp) (by simpa using n3) n4 n2.symm a.defers a w next Q hs0 λ_ w' _ hs hp=>?_
 exact hk ρ J [] w' undef (bh.ef _ _) (λ_ h=>h) ⟨_,rfl⟩ (h.C0 (k3 (.cI T' Ow) _ ⟨b,u',m1,rfl,n1⟩) hs hp)
end Go.Rw
namespace Go.Rw
open Go Go.Bw Go.RowKit
variable {G:Sg} {P:Program} {J J':World->Prop} {ρ ρ':bh}
inductive Sh where
 |v (t:Ty)
 |unk (n:Nat)
 |row (e sz:Nat) (t:Ty)
 |box (T:Nat) (s:Sh)
 |bS (i:Nat)
 |s8
 |kz
 |Dl
 |nn
 |Gk
 |fn (f:Fn) (a c:Sh)
 |jc (a:Sh)
 |st (a:Sh)
 |iQ (t:Nat) (a:Sh)
 |nil
 |cons (a b:Sh)
 |part (w:Nat) (a b:Sh)
def aL:Sh->List Ty
 | .v t=>[t]
 | .row _ _ t=>[.sl t]
 | .box _ s=>aL s
 | .fn _ a c=>aL a++aL c
 | .jc a=>aL a
 | .st a=>aL a
 | .iQ _ a=>aL a
 | .cons a b=>aL a++aL b
 | .part _ a b=>aL a++aL b
 |_ =>[]
def HL(G:Sg):List Ty->Type
 |[]=>Unit
 |t::r=>t.T G×HL G r
def HL.app:{a b:List Ty}->HL G a->HL G b->HL G (a++b)
 |[],_,_,y=>y
 |_ ::_,_,x,y=>(x.1,HL.app x.2 y)
def HL.fst:{a b:List Ty}->HL G (a++b)->HL G a
 |[],_,_ =>()
 |_ ::r,b,x=>(x.1,HL.fst (a:=r) (b:=b) x.2)
def HL.snd:{a b:List Ty}->HL G (a++b)->HL G b
 |[],_,x=>x
 |_ ::r,b,x=>HL.snd (a:=r) (b:=b) x.2
theorem HL.xx:∀{a b:List Ty} (x:HL G a) (y:HL G b),HL.fst (a:=a) (b:=b) (HL.app x y)=x:=by
 intro a
 induction a with
 |nil=>intro b x y;rfl
 |cons t r ih=>intro b x y;exact Prod.ext rfl (ih x.2 y)
theorem HL.xk:∀{a b:List Ty} (x:HL G a) (y:HL G b),HL.snd (a:=a) (b:=b) (HL.app x y)=y:=by
 intro a
 induction a with
 |nil=>intro b x y;rfl
 |cons t r ih=>intro b x y;exact ih x.2 y
def fQ(f:Nat->Nat):(s:Sh)->HL G (aL s)->Nat->AV G×Os G×Nat
 | .v t,x,m=>(mk t x.1,[],m)
 | .row e sz t,x,m=>(.row (f m),[(f m, .row e sz t x.1)],m+1)
 | .box T s,x,m=>match fQ f s x (m+1)with
  |(v,O,m')=>(.ptr (f m) [],(f m, .cI T v)::O,m')
 | .bS i,_,m=>(.ptr (f i) [],[],m)
 | .unk n,_,m=>(.unk n,[],m)
 | .s8,_,m=>(.s8,[],m)
 | .kz,_,m=>(.kz,[],m)
 | .Dl,_,m=>(.Dl,[],m)
 | .nn,_,m=>(.nn,[],m)
 | .Gk,_,m=>(.Gk,[],m)
 | .fn k a c,x,m=>match fQ f a (HL.fst x) m with
  |(v,O,m')=>match fQ f c (HL.snd x) m' with
   |(v',O',m'')=>(.fn k v v',O++O',m'')
 | .jc a,x,m=>match fQ f a x m with
  |(v,O,m')=>(.jc v,O,m')
 | .st a,x,m=>match fQ f a x m with
  |(v,O,m')=>(.st v,O,m')
 | .iQ t a,x,m=>match fQ f a x m with
  |(v,O,m')=>(.iQ t v,O,m')
 | .nil,_,m=>(.nil,[],m)
 | .cons a b,x,m=>match fQ f a (HL.fst x) m with
  |(v,O,m')=>match fQ f b (HL.snd x) m' with
   |(v',O',m'')=>(.cons v v',O++O',m'')
 | .part w a b,x,m=>match fQ f a (HL.fst x) m with
  |(v,O,m')=>match fQ f b (HL.snd x) m' with
   |(v',O',m'')=>(.part w v v',O++O',m'')
def zM:Fn->Fn->Bool
 | .func a, .func b=>Nat.beq a b
 |_,_ =>false
theorem NH{f g:Fn}(h:zM f g=true):f=g:=by
 unfold zM at h;split at h
 ·rw[akf h]
 ·cases h
structure GS(G:Sg) where
 th:List Nat
 O:Os G
 nx:Nat
def nW:(s:Sh)->AV G->GS G->Option (HL G (aL s)×GS G)
 | .v t,v,g=>match BQ t v with
  |some x=>some ((x,()),g)
  |none=>none
 | .row e sz t,v,g=>match v with
  | .row r=>match dm g.O r with
   |some (.row e' sz' t' xs)=>bif Nat.beq e e'&&Nat.beq sz sz' then(if h:t'.bS t=true then some ((Ty.vN h▸xs,()),⟨g.th++[r],xH g.O r,g.nx⟩)else none)else none
   |_ =>none
  | .kz=>bif Nat.beq (t.L G).n sz then some (([],()),⟨g.th++[g.nx],g.O,g.nx+1⟩)else none
  |_ =>none
 | .box T s,v,g=>match v with
  | .ptr r []=>match dm g.O r with
   |some (.cI T' c)=>bif Nat.beq T T' then nW s c ⟨g.th++[r],xH g.O r,g.nx⟩else none
   |_ =>none
  |_ =>none
 | .bS i,v,g=>match v with
  | .ptr r []=>match g.th[i]? with
   |some r'=>bif Nat.beq r r' then some ((),g)else none
   |none=>none
  |_ =>none
 | .unk n,v,g=>match v with
  | .unk m=>bif Nat.beq n m then some ((),g)else none
  |v=>match v.ncl with
   |some m=>bif Nat.beq n m then some ((),g)else none
   |none=>none
 | .s8,v,g=>match v with
  | .s8=>some ((),g)
  |_ =>none
 | .kz,v,g=>match v with
  | .kz=>some ((),g)
  |_ =>none
 | .Dl,v,g=>match v with
  | .Dl=>some ((),g)
  |_ =>none
 | .nn,v,g=>match v with
  | .nn=>some ((),g)
  |_ =>none
 | .Gk,v,g=>match v with
  | .Gk=>some ((),g)
  |_ =>none
 | .fn f a c,v,g=>match v with
  | .fn f' x y=>bif zM f f' then(match nW a x g with
   |some (p,g')=>match nW c y g' with
    |some (q,Xe)=>some (HL.app p q,Xe)
    |none=>none
   |none=>none)else none
  |_ =>none
 | .jc a,v,g=>match v with
  | .jc x=>nW a x g
  |_ =>none
 | .st a,v,g=>match v with
  | .st x=>nW a x g
  |_ =>none
 | .iQ t a,v,g=>match v with
  | .iQ t' x=>bif Nat.beq t t' then nW a x g else none
  |_ =>none
 | .nil,v,g=>match v with
  | .nil=>some ((),g)
  |_ =>none
 | .cons a b,v,g=>match v with
  | .cons x y=>match nW a x g with
   |some (p,g')=>match nW b y g' with
    |some (q,Xe)=>some (HL.app p q,Xe)
    |none=>none
   |none=>none
  |_ =>none
 | .part w a b,v,g=>match v with
  | .part w' x y=>bif Nat.beq w w' then(match nW a x g with
   |some (p,g')=>match nW b y g' with
    |some (q,Xe)=>some (HL.app p q,Xe)
    |none=>none
   |none=>none)else none
  |_ =>none
def qp(A B:List aE):Prop:=∀bs n0 w,bH bs n0 A w->bH bs n0 B w
theorem qp.refl(A:List aE):qp A A:=λ_ _ _ h=>h
theorem qp.trans{A B D:List aE}(h:qp A B)(k:qp B D):qp A D:=λbs n w x=>k bs n w (h bs n w x)
theorem qp.j9{A B:List aE}(h:A.Perm B):qp A B:=λ_ _ _ x=>x.j9 h
def cmp(ρ:bh)(th:List Nat):bh:=λm=>match th[m]? with
 |some r=>ρ r
 |none=>none
theorem Qa{th zk:List Nat}(h:ρ.le ρ')(k:∃q,zk=th++q):(cmp ρ th).le (cmp ρ' zk):=λm v e=>by
 obtain⟨q,rfl⟩:=k;unfold cmp at e ⊢;cases ht:th[m]? with
 |none=>rw[ht]at e;cases e
 |some r=>rw[ht]at e;rw[qX ht];exact h _ _ e
theorem Az{th:List Nat}{r:Nat}:cmp ρ (th++[r]) th.length=ρ r:=by simp[cmp]
structure Gat(J:World->Prop)(ρ:bh)(s:Sh)(l:List Value)(H:List aE)(g g':GS G)(x:HL G (aL s))(ρ':bh)(HB H':List aE):Prop where
 to:ρ.to ρ' g.nx
 fr:ρ'.fr g'.nx
 nx:g.nx<=g'.nx
 left:RO J ρ' g'.O H'
 pre:∃q,g'.th=g.th++q
 Jz:(fQ (λm=>m) s x g.th.length).2.2=g'.th.length
 hp:∀R,qp (H++R) (HB++(H'++R))
 val:rl J (cmp ρ' g'.th) (fQ (λm=>m) s x g.th.length).1 l
 cI:RO J (cmp ρ' g'.th) (fQ (λm=>m) s x g.th.length).2.1 HB
theorem UM{t:Ty}{v:AV G}{x:t.T G}{l:List Value}(h:BQ t v=some x)(hv:rl J ρ v l):∃u,l=[u]:=by
 unfold BQ at h;split at h
 ·exact⟨_,hv⟩
 ·exact⟨_,hv⟩
 ·exact⟨_,hv⟩
 ·exact⟨_,hv⟩
 ·exact⟨_,hv⟩
 ·obtain⟨u,e,_⟩:=hv;exact⟨u,e⟩
 ·cases h
theorem bh.fr.V2{n:Nat}{r:Nat}{v:Value}(h:ρ.fr n)(e:ρ r=some v):r<n:=by
 rcases Nat.lt_or_ge r n with h1|h1
 ·exact h1
 ·rw[h r h1]at e;cases e
theorem bV{α β:Type}{a x:α}{b y:β}(h:some (a,b)=some (x,y)):a=x/\b=y:=by have h:=Option.some.inj h;exact⟨congrArg Prod.fst h,congrArg Prod.snd h⟩
theorem ZK{α:Type}:∀{H:List α} {k:Nat} {x:α},H[k]? =some x->H.Perm (x::H.eraseIdx k):=by
 intro H
 induction H with
 |nil=>intro k x h;cases h
 |cons y r ih=>
  intro k x h;cases k with
  |zero=>simp at h;subst h;exact .refl _
  |succ k=>exact((ih (by simpa using h)).cons y).trans (.swap x y _)
theorem pP{H:List aE}{k:Nat}{x:aE}(h:H[k]? =some x)(R:List aE):(H++R).Perm (x::(H.eraseIdx k++R)):=by exact List.Perm.append_right R (ZK h)
theorem Mk{a b:Sh}{H:List aE}{g g1 g2:GS G}{p:HL G (aL a)}{q:HL G (aL b)}{l1 l2:List Value}{ρ:bh}(hf:ρ.fr g.nx)
  (h1:∃ρ' HB H',Gat J ρ a l1 H g g1 p ρ' HB H')(h2:∀(ρ1:bh) (H1:List aE),ρ1.fr g1.nx->ρ.to ρ1 g.nx->RO J ρ1 g1.O H1->∃ρ' HB H',Gat J ρ1 b l2 H1 g1 g2 q ρ' HB H'):
  ∃ρ' HB H',ρ.to ρ' g.nx/\ρ'.fr g2.nx/\g.nx<=g2.nx/\RO J ρ' g2.O H'/\(∃r,g2.th=g.th++r)/\(fQ (λm=>m) b q (fQ (λm=>m) a p g.th.length).2.2).2.2=g2.th.length/\(∀R,qp (H++R) (HB++(H'++R)))/\
   rl J (cmp ρ' g2.th) (fQ (λm=>m) a p g.th.length).1 l1/\rl J (cmp ρ' g2.th) (fQ (λm=>m) b q (fQ (λm=>m) a p g.th.length).2.2).1 l2/\RO J (cmp ρ' g2.th) ((fQ (λm=>m) a p g.th.length).2.1++(fQ (λm=>m) b q (fQ (λm=>m) a p g.th.length).2.2).2.1) HB:=by
 obtain⟨ρ1,B1,H1,k1⟩:=h1;obtain⟨ρ2,B2,H2,k2⟩:=h2 ρ1 H1 k1.fr k1.to k1.left;have hle:=Qa (k2.to.le k1.fr) k2.pre;rw[k1.Jz];refine⟨ρ2,B1++B2,H2,k1.to.trans k2.to k1.nx,k2.fr,Nat.le_trans k1.nx k2.nx,k2.left,?_,k2.Jz,λR=>?_,k1.val.ext hle,k2.val,(k1.cI.up (λ_ h=>h) hle).app k2.cI⟩
 ·obtain⟨r1,e1⟩:=k1.pre
  obtain⟨r2,e2⟩:=k2.pre;exact⟨r1++r2,by rw[e2,e1,List.append_assoc]⟩
 ·refine(k1.hp R).trans ?_
  have e:(B1++(H1++R)).Perm (H1++(B1++R)):=by rw[← List.append_assoc, ← List.append_assoc];exact List.Perm.append_right R List.perm_append_comm
  refine(qp.j9 e).trans ((k2.hp (B1++R)).trans (qp.j9 ?_));rw[List.append_assoc B1];have:(B2++(H2++(B1++R))).Perm (B1++(B2++(H2++R))):=by
   have p1:(H2++(B1++R)).Perm (B1++(H2++R)):=by rw[← List.append_assoc, ← List.append_assoc];exact List.Perm.append_right R List.perm_append_comm
   refine(List.Perm.append_left B2 p1).trans ?_;rw[← List.append_assoc, ← List.append_assoc B1];exact List.Perm.append_right _ List.perm_append_comm
  exact this
theorem Xa{t:Ty}{v:AV G}{g g':GS G}{x:HL G (aL (.v t))}(h:nW (.v t) v g=some (x,g')):∃y,BQ t v=some y/\x=(y,())/\g'=g:=by
 unfold nW at h;cases hy:BQ t v with
 |none=>rw[hy]at h;cases h
 |some y=>rw[hy]at h;obtain⟨e1,e2⟩:=bV h;exact⟨y,rfl,e1.symm,e2.symm⟩
theorem Mj{n:Nat}{v:AV G}{g g':GS G}{x:HL G (aL (.unk n))}(h:nW (.unk n) v g=some (x,g')):g'=g/\∀{J:World->Prop} {ρ:bh} {l:List Value},rl J ρ v l->∃u:Value,l=[u]/\u.cells.size=n:=by
 unfold nW at h;split at h
 ·rename_i m
  cases hb:Nat.beq n m with
  |false=>rw[hb]at h;cases h
  |true=>rw[hb]at h;obtain rfl:=akf hb;exact⟨(bV h).2.symm,λhr=>hr⟩
 ·split at h
  ·rename_i m hm
   cases hb:Nat.beq n m with
   |false=>rw[hb]at h;cases h
   |true=>rw[hb]at h;obtain rfl:=akf hb;exact⟨(bV h).2.symm,λhr=>by obtain⟨u,e1,e2,_⟩:=Ph hm hr;exact⟨u,e1,e2⟩⟩
  ·cases h
theorem Iz:∀{s:Sh} {v:AV G} {l:List Value} {H:List aE} {g g':GS G} {x:HL G (aL s)} {ρ:bh},nW s v g=some (x,g')->rl J ρ v l->RO J ρ g.O H->ρ.fr g.nx->∃ρ' HB H',Gat J ρ s l H g g' x ρ' HB H':=by
 intro s
 induction s with
 |v t=>
  intro v l H g g' x ρ h hv hO hf;obtain⟨y,hy,rfl,rfl⟩:=Xa h;obtain⟨u,rfl⟩:=UM hy hv;refine⟨ρ,[],H,⟨bh.ef _ _,hf,Nat.le_refl _,hO,⟨[],by simp⟩,?_,λR=>qp.refl _,?_,?_⟩⟩<;>simp only[fQ]
  ·exact Kr ((Ar hy hv))
  ·exact .nil
 |row e sz t=>
  intro v l H g g' x ρ h hv hO hf;cases v<;>unfold nW at h<;>(try dsimp only at h)<;>try (cases h;done)
  case row r=>
   split at h
   ·rename_i e' sz' t' xs ho
    cases hb:(Nat.beq e e'&&Nat.beq sz sz')with
    |false=>rw[hb]at h;cases h
    |true=>
     rw[hb]at h;simp only[cond_true]at h;by_cases hs:t'.bS t=true
     ·rw[dif_pos hs]at h
      obtain⟨e1,rfl⟩:=bV h;simp only[akg]at hb;obtain rfl:=akf hb.1;obtain rfl:=akf hb.2;have:=Ty.vN hs;subst this;subst e1;obtain⟨k,y,k1,k2,k3⟩:=hO.del ho;refine⟨ρ,[y],H.eraseIdx k,bh.ef _ _,hf,Nat.le_refl _,k3,⟨[r],rfl⟩,by simp[fQ],λR=>qp.j9 (pP k1 R),?_, .cons ?_ .nil⟩
      ·obtain⟨a0,n,cap,e1,e2⟩:=hv
       exact⟨a0,n,cap,Az.trans e1,e2⟩
      ·obtain⟨vv,ws,e1,e2,e3,e4,e5⟩:=k2
       exact⟨vv,ws,Az.trans e1,e2,e3,e4,e5⟩
     ·rw[dif_neg hs]at h;cases h
   ·cases h
  case kz=>
   cases hb:Nat.beq (t.L G).n sz with
   |false=>rw[hb]at h;cases h
   |true=>
    rw[hb]at h;obtain⟨rfl,rfl⟩:=bV h;have hsz:=akf hb;have hle:=(bh.kL ρ g.nx (.slice none 0 0)).le hf;refine⟨ρ.set g.nx (.slice none 0 0),[.row (.slice none 0 0) e sz 0 []],H,bh.kL _ _ _,bh.xl hf _,Nat.le_succ _,hO.up (λ_ h=>h) hle,⟨[g.nx],rfl⟩,by simp[fQ],λR bs n0 w hp=>Aw hp,?_, .cons ?_ .nil⟩
    ·have hv:l=[.slice none 0 0]:=hv
     exact⟨none,0,0,Az.trans (bh.iN _ _ _),hv⟩
    ·exact⟨.slice none 0 0,[],Az.trans (bh.iN _ _ _),rfl,⟨_,_,rfl⟩,⟨λ_ =>[],rfl,λi hi=>absurd hi (Nat.not_lt_zero _)⟩,hsz⟩
 |box T s ih=>
  intro v l H g g' x ρ h hv hO hf;cases v<;>unfold nW at h<;>(try dsimp only at h)<;>try (cases h;done)
  case ptr r p=>
   cases p with
   |cons _ _ =>simp at h
   |nil=>
    simp only at h;split at h
    ·rename_i T' cc ho
     cases hb:Nat.beq T T' with
     |false=>rw[hb]at h;cases h
     |true=>
      rw[hb]at h;obtain rfl:=akf hb;obtain⟨k,y,k1,⟨b,u,m1,rfl,m3⟩,k3⟩:=hO.del ho;obtain⟨ρ1,B1,H1,i1⟩:=ih h m3 k3 hf;have hr:=hf.V2 m1;have hth:g'.th[g.th.length]? =some r:=by obtain⟨q,e⟩:=i1.pre;rw[e];simp
      have PD:cmp ρ1 g'.th g.th.length=some (dO b 0):=by unfold cmp;rw[hth];exact(i1.to r hr).trans m1
      have e1:(g.th++[r]).length=g.th.length+1:=by simp
      have i2:=i1.Jz;have i3:=i1.val;have i4:=i1.cI;rw[e1]at i2 i3 i4;refine⟨ρ1, .cells b T u.cells.toList::B1,H1,i1.to,i1.fr,i1.nx,i1.left,?_,i2,λR=>?_,?_, .cons ⟨b,u,PD,rfl,i3⟩ i4⟩
      ·obtain⟨q,e⟩:=i1.pre
       exact⟨r::q,by rw[e];simp⟩
      ·refine(qp.j9 (pP k1 R)).trans ?_
       refine(qp.j9 (List.perm_middle (a:=aE.cells b T u.cells.toList) (l₁:=H.eraseIdx k) (l₂:=R)).symm).trans ?_;refine(i1.hp (.cells b T u.cells.toList::R)).trans (qp.j9 ?_);refine(List.Perm.append_left B1 (List.perm_middle (a:=aE.cells b T u.cells.toList) (l₁:=H1) (l₂:=R))).trans ?_;exact List.perm_middle
      ·obtain⟨⟨b',o',q1,q2⟩,_⟩:=hv
       refine⟨⟨b,0, .inl PD,?_⟩,by simp⟩;rcases q1 with q1|⟨_,_,_,_,_,_,_,q1,_⟩
       ·rw[q1]at m1
        simp[dO]at m1;rw[q2,m1.1,m1.2]
       ·cases q1
    ·cases h
 |bS i=>
  intro v l H g g' x ρ h hv hO hf;cases v<;>unfold nW at h<;>(try dsimp only at h)<;>try (cases h;done)
  case ptr r p=>
   cases p with
   |cons _ _ =>simp at h
   |nil=>
    simp only at h;split at h
    ·rename_i r' ht
     cases hb:Nat.beq r r' with
     |false=>rw[hb]at h;cases h
     |true=>
      rw[hb]at h;obtain⟨rfl,rfl⟩:=bV h;obtain rfl:=akf hb;refine⟨ρ,[],H,bh.ef _ _,hf,Nat.le_refl _,hO,⟨[],by simp⟩,rfl,λR=>qp.refl _,?_, .nil⟩;obtain⟨⟨b',o',q1,q2⟩,q3⟩:=hv;refine⟨⟨b',o',?_,q2⟩,q3⟩;rcases q1 with q1|⟨_,_,_,_,_,_,_,q1,_⟩
      ·refine .inl ?_
       unfold cmp;rw[ht];exact q1
      ·cases q1
    ·cases h
 |unk n=>intro v l H g g' x ρ h hv hO hf;obtain⟨rfl,hu⟩:=Mj h;exact⟨ρ,[],H,bh.ef _ _,hf,Nat.le_refl _,hO,⟨[],by simp⟩,rfl,λR=>qp.refl _,hu hv, .nil⟩
 |s8=>
  intro v l H g g' x ρ h hv hO hf;cases v<;>unfold nW at h<;>(try dsimp only at h)<;>try (cases h;done)
  obtain⟨rfl,rfl⟩:=bV h;exact⟨ρ,[],H,bh.ef _ _,hf,Nat.le_refl _,hO,⟨[],by simp⟩,rfl,λR=>qp.refl _,hv, .nil⟩
 |kz=>
  intro v l H g g' x ρ h hv hO hf;cases v<;>unfold nW at h<;>(try dsimp only at h)<;>try (cases h;done)
  obtain⟨rfl,rfl⟩:=bV h;exact⟨ρ,[],H,bh.ef _ _,hf,Nat.le_refl _,hO,⟨[],by simp⟩,rfl,λR=>qp.refl _,hv, .nil⟩
 |Dl=>
  intro v l H g g' x ρ h hv hO hf;cases v<;>unfold nW at h<;>(try dsimp only at h)<;>try (cases h;done)
  obtain⟨rfl,rfl⟩:=bV h;exact⟨ρ,[],H,bh.ef _ _,hf,Nat.le_refl _,hO,⟨[],by simp⟩,rfl,λR=>qp.refl _,hv, .nil⟩
 |nn=>
  intro v l H g g' x ρ h hv hO hf;cases v<;>unfold nW at h<;>(try dsimp only at h)<;>try (cases h;done)
  obtain⟨rfl,rfl⟩:=bV h;exact⟨ρ,[],H,bh.ef _ _,hf,Nat.le_refl _,hO,⟨[],by simp⟩,rfl,λR=>qp.refl _,hv, .nil⟩
 |Gk=>
  intro v l H g g' x ρ h hv hO hf;cases v<;>unfold nW at h<;>(try dsimp only at h)<;>try (cases h;done)
  obtain⟨rfl,rfl⟩:=bV h;exact⟨ρ,[],H,bh.ef _ _,hf,Nat.le_refl _,hO,⟨[],by simp⟩,rfl,λR=>qp.refl _,hv, .nil⟩
 |nil=>
  intro v l H g g' x ρ h hv hO hf;cases v<;>unfold nW at h<;>(try dsimp only at h)<;>try (cases h;done)
  obtain⟨rfl,rfl⟩:=bV h;exact⟨ρ,[],H,bh.ef _ _,hf,Nat.le_refl _,hO,⟨[],by simp⟩,rfl,λR=>qp.refl _,hv, .nil⟩
 |fn f a c mz AX=>
  intro v l H g g' x ρ h hv hO hf;cases v<;>unfold nW at h<;>(try dsimp only at h)<;>try (cases h;done)
  case fn f' y z=>
   cases hb:zM f f' with
   |false=>rw[hb]at h;cases h
   |true=>
    rw[hb]at h;simp only[cond_true]at h;obtain rfl:=NH hb;split at h
    ·rename_i p g1 h1
     split at h
     ·rename_i q g2 h2
      obtain⟨rfl,rfl⟩:=bV h;obtain⟨fs,cs,e,r1,r2⟩:=hv;obtain⟨ρ',HB,H',k1,k2,k3,k4,k5,k6,k7,k8,k9,k10⟩:=Mk (b:=c) (q:=q) hf (mz h1 r1 hO hf) λρ1 H1 f1 t1 o1=>AX h2 (r2.ext (t1.le hf)) o1 f1;refine⟨ρ',HB,H',k1,k2,k3,k4,k5,?_,k7,?_,?_⟩<;>simp only[fQ,HL.xx,HL.xk]
      ·exact k6
      ·exact⟨fs,cs,e,k8,k9⟩
      ·exact k10
     ·cases h
    ·cases h
 |cons a b mz sB=>
  intro v l H g g' x ρ h hv hO hf;cases v<;>unfold nW at h<;>(try dsimp only at h)<;>try (cases h;done)
  case cons y z=>
   split at h
   ·rename_i p g1 h1
    split at h
    ·rename_i q g2 h2
     obtain⟨rfl,rfl⟩:=bV h;obtain⟨u,r,e,r1,r2⟩:=hv;obtain⟨ρ',HB,H',k1,k2,k3,k4,k5,k6,k7,k8,k9,k10⟩:=Mk (b:=b) (q:=q) hf (mz h1 r1 hO hf) λρ1 H1 f1 t1 o1=>sB h2 (r2.ext (t1.le hf)) o1 f1;refine⟨ρ',HB,H',k1,k2,k3,k4,k5,?_,k7,?_,?_⟩<;>simp only[fQ,HL.xx,HL.xk]
     ·exact k6
     ·exact⟨u,r,e,k8,k9⟩
     ·exact k10
    ·cases h
   ·cases h
 |part w a b mz sB=>
  intro v l H g g' x ρ h hv hO hf;cases v<;>unfold nW at h<;>(try dsimp only at h)<;>try (cases h;done)
  case part w' y z=>
   cases hb:Nat.beq w w' with
   |false=>rw[hb]at h;cases h
   |true=>
    rw[hb]at h;simp only[cond_true]at h;obtain rfl:=akf hb;split at h
    ·rename_i p g1 h1
     split at h
     ·rename_i q g2 h2
      obtain⟨rfl,rfl⟩:=bV h;obtain⟨c1,c2,u,e,r0,r1,r3,r2⟩:=hv;obtain⟨ρ',HB,H',k1,k2,k3,k4,k5,k6,k7,k8,k9,k10⟩:=Mk (b:=b) (q:=q) hf (mz h1 r1 hO hf) λρ1 H1 f1 t1 o1=>sB h2 (r2.ext (t1.le hf)) o1 f1;refine⟨ρ',HB,H',k1,k2,k3,k4,k5,?_,k7,?_,?_⟩<;>simp only[fQ,HL.xx,HL.xk]
      ·exact k6
      ·exact⟨c1,c2,u,e,r0,k8,r3,k9⟩
      ·exact k10
     ·cases h
    ·cases h
 |jc a ih=>
  intro v l H g g' x ρ h hv hO hf;cases v<;>unfold nW at h<;>(try dsimp only at h)<;>try (cases h;done)
  case jc y=>obtain⟨vs,e,r1⟩:=hv;obtain⟨ρ',HB,H',k⟩:=ih h r1 hO hf;exact⟨ρ',HB,H',k.to,k.fr,k.nx,k.left,k.pre,k.Jz,k.hp,⟨vs,e,k.val⟩,k.cI⟩
 |st a ih=>
  intro v l H g g' x ρ h hv hO hf;cases v<;>unfold nW at h<;>(try dsimp only at h)<;>try (cases h;done)
  case st y=>obtain⟨cs,e,r1,r2⟩:=hv;obtain⟨ρ',HB,H',k⟩:=ih h r1 hO hf;exact⟨ρ',HB,H',k.to,k.fr,k.nx,k.left,k.pre,k.Jz,k.hp,⟨cs,e,k.val,r2⟩,k.cI⟩
 |iQ t a ih=>
  intro v l H g g' x ρ h hv hO hf;cases v<;>unfold nW at h<;>(try dsimp only at h)<;>try (cases h;done)
  case iQ t' y=>
   cases hb:Nat.beq t t' with
   |false=>rw[hb]at h;cases h
   |true=>rw[hb]at h;obtain rfl:=akf hb;obtain⟨u,e,r1⟩:=hv;obtain⟨ρ',HB,H',k⟩:=ih h r1 hO hf;exact⟨ρ',HB,H',k.to,k.fr,k.nx,k.left,k.pre,k.Jz,k.hp,⟨u,e,k.val⟩,k.cI⟩
end Go.Rw
