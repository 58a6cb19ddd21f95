/- Part 5 of what a proof leans on; pruned and shortened by a program out of longer texts. -/
import Derived.Test.YtimljlkgaopafaaGreatDoorQ4
namespace Go.Rw
open Go Go.Bw Go.RowKit
variable {G:Sg} {P:Program} {J J':World->Prop} {ρ ρ' σ:bh}
def O5(f:Nat->Nat):AV G->AV G
 | .ptr r p=> .ptr (f r) p
 | .row r=> .row (f r)
 | .EE r p n sz up i=> .EE (f r) p n sz up i
 | .mp r=> .mp (f r)
 | .yl r=> .yl (f r)
 | .fn k a c=> .fn k (O5 f a) (O5 f c)
 | .st a=> .st (O5 f a)
 | .jc a=> .jc (O5 f a)
 | .iQ t v=> .iQ t (O5 f v)
 | .gd j w v=> .gd j w (O5 f v)
 | .cons a b=> .cons (O5 f a) (O5 f b)
 | .part w a b=> .part w (O5 f a) (O5 f b)
 |v=>v
def aiM(f:Nat->Nat):Ob G->Ob G
 | .cI T c=> .cI T (O5 f c)
 | .fm q ks vs=> .fm q ks (O5 f vs)
 | .lp N ks vs ps a b=> .lp N ks (O5 f vs) ps a b
 |o=>o
def Vo(f:Nat->Nat)(O:Os G):Os G:=O.map λp=>(f p.1,aiM f p.2)
theorem HU{f:Nat->Nat}(m:∀r v,σ r=some v->ρ (f r)=some v):∀{v:AV G} {l:List Value},rl J σ v l->rl J ρ (O5 f v) l:=by
 intro v
 induction v with
 |ptr r p=>
  intro l h;obtain⟨⟨b,o,h1,h2⟩,h3⟩:=h;refine⟨⟨b,o,?_,h2⟩,h3⟩;rcases h1 with h1|⟨n,cap,n',sz,i,q,e1,e2⟩
  ·exact .inl (m _ _ h1)
  ·exact .inr ⟨n,cap,n',sz,i,q,m _ _ e1,e2⟩
 |EE r p n sz up i=>
  intro l h;obtain⟨⟨b,o,h1,h2⟩,h3⟩:=h;refine⟨⟨b,o,?_,h2⟩,h3⟩;rcases h1 with h1|⟨n,cap,n',sz,i,q,e1,e2⟩
  ·exact .inl (m _ _ h1)
  ·exact .inr ⟨n,cap,n',sz,i,q,m _ _ e1,e2⟩
 |row r=>intro l h;obtain⟨a,n,cap,h1,h2⟩:=h;exact⟨a,n,cap,m _ _ h1,h2⟩
 |mp r=>intro l h;obtain⟨b,h1,h2⟩:=h;exact⟨b,m _ _ h1,h2⟩
 |yl r=>intro l h;obtain⟨b,h1,h2⟩:=h;exact⟨b,m _ _ h1,h2⟩
 |fn f a c mz AX=>intro l h;obtain⟨fs,cs,e,h1,h2⟩:=h;exact⟨fs,cs,e,mz h1,AX h2⟩
 |st a ih=>intro l h;obtain⟨cs,e,h1,h2⟩:=h;exact⟨cs,e,ih h1,h2⟩
 |jc a ih=>intro l h;obtain⟨vs,e,h1⟩:=h;exact⟨vs,e,ih h1⟩
 |iQ t v ih=>intro l h;obtain⟨u,e,h1⟩:=h;exact⟨u,e,ih h1⟩
 |cons a b mz sB=>intro l h;obtain⟨u,r,e,h1,h2⟩:=h;exact⟨u,r,e,mz h1,sB h2⟩
 |part w a b mz sB=>intro l h;obtain⟨c1,c2,u,e,h1,h2,h3,h4⟩:=h;exact⟨c1,c2,u,e,h1,mz h2,h3,sB h4⟩
 |_ =>intro l h;exact h
theorem QJ{f:Nat->Nat}(m:∀r v,σ r=some v->ρ (f r)=some v){O:Os G}{H:List aE}(h:RO J σ O H):RO J ρ (Vo f O) H:=by
 induction h with
 |nil=>exact .nil
 |@cons r o x O H h _ ih=>
  refine .cons ?_ ih;cases o with
  |cI T c=>obtain⟨b,u,h1,h2,h3⟩:=h;exact⟨b,u,m _ _ h1,h2,HU m h3⟩
  |row e sz t xs=>obtain⟨v,ws,h1,h2⟩:=h;exact⟨v,ws,m _ _ h1,h2⟩
  |aux b=>obtain⟨n,x,h1,h2⟩:=h;exact⟨n,x,m _ _ h1,h2⟩
  |gm=>obtain⟨⟨mb,g,h1,h2⟩,h4⟩:=h;exact⟨⟨mb,g,m _ _ h1,h2⟩,h4⟩
  |fm q ks vs=>obtain⟨b,es,ck,us,h1,h2,h3,h4,h5⟩:=h;exact⟨b,es,ck,us,m _ _ h1,h2,h3,HU m h4,h5⟩
  |lp N ks vs ps a b=>obtain⟨n,rec,us,h1,h2,h3,h4⟩:=h;exact⟨n,rec,us,m _ _ h1,h2,HU m h3,h4⟩
theorem DI{f:Nat->Nat}:∀{s:Sh} {x:HL G (aL s)} {m:Nat},(fQ f s x m).1=O5 f (fQ (λm=>m) s x m).1/\(fQ f s x m).2.1=Vo f (fQ (λm=>m) s x m).2.1/\(fQ f s x m).2.2=(fQ (λm=>m) s x m).2.2:=by
 intro s
 induction s with
 |v t=>intro x m;refine⟨?_,rfl,rfl⟩;cases t<;>rfl
 |row e sz t=>intro x m;exact⟨rfl,rfl,rfl⟩
 |box T s ih=>intro x m;obtain⟨h1,h2,h3⟩:=ih (x:=x) (m:=m+1);simp only[fQ];exact⟨rfl,by rw[h1,h2];rfl,h3⟩
 |fn k a c mz AX=>intro x m;obtain⟨h1,h2,h3⟩:=mz (x:=HL.fst x) (m:=m);simp only[fQ];rw[h3];obtain⟨k1,k2,k3⟩:=AX (x:=HL.snd x) (m:=(fQ (λm=>m) a (HL.fst x) m).2.2);exact⟨by rw[h1,k1];rfl,by rw[h2,k2];simp[Vo],k3⟩
 |cons a c mz AX=>intro x m;obtain⟨h1,h2,h3⟩:=mz (x:=HL.fst x) (m:=m);simp only[fQ];rw[h3];obtain⟨k1,k2,k3⟩:=AX (x:=HL.snd x) (m:=(fQ (λm=>m) a (HL.fst x) m).2.2);exact⟨by rw[h1,k1];rfl,by rw[h2,k2];simp[Vo],k3⟩
 |part w a c mz AX=>intro x m;obtain⟨h1,h2,h3⟩:=mz (x:=HL.fst x) (m:=m);simp only[fQ];rw[h3];obtain⟨k1,k2,k3⟩:=AX (x:=HL.snd x) (m:=(fQ (λm=>m) a (HL.fst x) m).2.2);exact⟨by rw[h1,k1];rfl,by rw[h2,k2];simp[Vo],k3⟩
 |jc a ih=>intro x m;obtain⟨h1,h2,h3⟩:=ih (x:=x) (m:=m);simp only[fQ];exact⟨by rw[h1];rfl,h2,h3⟩
 |st a ih=>intro x m;obtain⟨h1,h2,h3⟩:=ih (x:=x) (m:=m);simp only[fQ];exact⟨by rw[h1];rfl,h2,h3⟩
 |iQ t a ih=>intro x m;obtain⟨h1,h2,h3⟩:=ih (x:=x) (m:=m);simp only[fQ];exact⟨by rw[h1];rfl,h2,h3⟩
 |_ =>intro x m;exact⟨rfl,rfl,rfl⟩
def lpE{Z:Type}:(l:List Ty)->((HL G l->Option Z)->HL G l->Option Z)->Nat->HL G l->Option Z
 |[_],B,n,e=>iv (λk x1=>B (λe=>k (e.1)) (x1,())) n (e.1)
 |[_,_],B,n,e=>fe (λk x1 x2=>B (λe=>k (e.1) (e.2.1)) (x1,x2,())) n (e.1) (e.2.1)
 |[_,_,_],B,n,e=>zC (λk x1 x2 x3=>B (λe=>k (e.1) (e.2.1) (e.2.2.1)) (x1,x2,x3,())) n (e.1) (e.2.1) (e.2.2.1)
 |[_,_,_,_],B,n,e=>Q3 (λk x1 x2 x3 x4=>B (λe=>k (e.1) (e.2.1) (e.2.2.1) (e.2.2.2.1)) (x1,x2,x3,x4,())) n (e.1) (e.2.1) (e.2.2.1) (e.2.2.2.1)
 |[_,_,_,_,_],B,n,e=>yj (λk x1 x2 x3 x4 x5=>B (λe=>k (e.1) (e.2.1) (e.2.2.1) (e.2.2.2.1) (e.2.2.2.2.1)) (x1,x2,x3,x4,x5,())) n (e.1) (e.2.1) (e.2.2.1) (e.2.2.2.1) (e.2.2.2.2.1)
 |[_,_,_,_,_,_],B,n,e=>Q2 (λk x1 x2 x3 x4 x5 x6=>B (λe=>k (e.1) (e.2.1) (e.2.2.1) (e.2.2.2.1) (e.2.2.2.2.1) (e.2.2.2.2.2.1)) (x1,x2,x3,x4,x5,x6,())) n (e.1) (e.2.1) (e.2.2.1) (e.2.2.2.1) (e.2.2.2.2.1) (e.2.2.2.2.2.1)
 |[_,_,_,_,_,_,_],B,n,e=>wJ (λk x1 x2 x3 x4 x5 x6 x7=>B (λe=>k (e.1) (e.2.1) (e.2.2.1) (e.2.2.2.1) (e.2.2.2.2.1) (e.2.2.2.2.2.1) (e.2.2.2.2.2.2.1)) (x1,x2,x3,x4,x5,x6,x7,())) n (e.1) (e.2.1) (e.2.2.1) (e.2.2.2.1) (e.2.2.2.2.1) (e.2.2.2.2.2.1) (e.2.2.2.2.2.2.1)
 |[_,_,_,_,_,_,_,_],B,n,e=>Ih (λk x1 x2 x3 x4 x5 x6 x7 x8=>B (λe=>k (e.1) (e.2.1) (e.2.2.1) (e.2.2.2.1) (e.2.2.2.2.1) (e.2.2.2.2.2.1) (e.2.2.2.2.2.2.1) (e.2.2.2.2.2.2.2.1)) (x1,x2,x3,x4,x5,x6,x7,x8,())) n (e.1) (e.2.1) (e.2.2.1) (e.2.2.2.1) (e.2.2.2.2.1) (e.2.2.2.2.2.1) (e.2.2.2.2.2.2.1) (e.2.2.2.2.2.2.2.1)
 |[_,_,_,_,_,_,_,_,_],B,n,e=>Ig (λk x1 x2 x3 x4 x5 x6 x7 x8 x9=>B (λe=>k (e.1) (e.2.1) (e.2.2.1) (e.2.2.2.1) (e.2.2.2.2.1) (e.2.2.2.2.2.1) (e.2.2.2.2.2.2.1) (e.2.2.2.2.2.2.2.1) (e.2.2.2.2.2.2.2.2.1)) (x1,x2,x3,x4,x5,x6,x7,x8,x9,())) n (e.1) (e.2.1) (e.2.2.1) (e.2.2.2.1) (e.2.2.2.2.1) (e.2.2.2.2.2.1) (e.2.2.2.2.2.2.1) (e.2.2.2.2.2.2.2.1) (e.2.2.2.2.2.2.2.2.1)
 |[_,_,_,_,_,_,_,_,_,_],B,n,e=>L2 (λk x1 x2 x3 x4 x5 x6 x7 x8 x9 MV=>B (λe=>k (e.1) (e.2.1) (e.2.2.1) (e.2.2.2.1) (e.2.2.2.2.1) (e.2.2.2.2.2.1) (e.2.2.2.2.2.2.1) (e.2.2.2.2.2.2.2.1) (e.2.2.2.2.2.2.2.2.1) (e.2.2.2.2.2.2.2.2.2.1)) (x1,x2,x3,x4,x5,x6,x7,x8,x9,MV,())) n (e.1) (e.2.1) (e.2.2.1) (e.2.2.2.1) (e.2.2.2.2.1) (e.2.2.2.2.2.1) (e.2.2.2.2.2.2.1) (e.2.2.2.2.2.2.2.1) (e.2.2.2.2.2.2.2.2.1) (e.2.2.2.2.2.2.2.2.2.1)
 |[_,_,_,_,_,_,_,_,_,_,_],B,n,e=>EP (λk x1 x2 x3 x4 x5 x6 x7 x8 x9 MV Ur=>B (λe=>k (e.1) (e.2.1) (e.2.2.1) (e.2.2.2.1) (e.2.2.2.2.1) (e.2.2.2.2.2.1) (e.2.2.2.2.2.2.1) (e.2.2.2.2.2.2.2.1) (e.2.2.2.2.2.2.2.2.1) (e.2.2.2.2.2.2.2.2.2.1) (e.2.2.2.2.2.2.2.2.2.2.1)) (x1,x2,x3,x4,x5,x6,x7,x8,x9,MV,Ur,())) n (e.1) (e.2.1) (e.2.2.1) (e.2.2.2.1) (e.2.2.2.2.1) (e.2.2.2.2.2.1) (e.2.2.2.2.2.2.1) (e.2.2.2.2.2.2.2.1) (e.2.2.2.2.2.2.2.2.1) (e.2.2.2.2.2.2.2.2.2.1) (e.2.2.2.2.2.2.2.2.2.2.1)
 |[_,_,_,_,_,_,_,_,_,_,_,_],B,n,e=>LZ (λk x1 x2 x3 x4 x5 x6 x7 x8 x9 MV Ur x12=>B (λe=>k (e.1) (e.2.1) (e.2.2.1) (e.2.2.2.1) (e.2.2.2.2.1) (e.2.2.2.2.2.1) (e.2.2.2.2.2.2.1) (e.2.2.2.2.2.2.2.1) (e.2.2.2.2.2.2.2.2.1) (e.2.2.2.2.2.2.2.2.2.1) (e.2.2.2.2.2.2.2.2.2.2.1) (e.2.2.2.2.2.2.2.2.2.2.2.1)) (x1,x2,x3,x4,x5,x6,x7,x8,x9,MV,Ur,x12,())) n (e.1) (e.2.1) (e.2.2.1) (e.2.2.2.1) (e.2.2.2.2.1) (e.2.2.2.2.2.1) (e.2.2.2.2.2.2.1) (e.2.2.2.2.2.2.2.1) (e.2.2.2.2.2.2.2.2.1) (e.2.2.2.2.2.2.2.2.2.1) (e.2.2.2.2.2.2.2.2.2.2.1) (e.2.2.2.2.2.2.2.2.2.2.2.1)
 |_,_,_,_ =>none
theorem agy{Z:Type}:∀{l:List Ty} {B:(HL G l->Option Z)->HL G l->Option Z} {n:Nat} {e:HL G l} {z:Z},lpE l B n e=some z->∃m,n=m+1/\B (lpE l B m) e=some z:=by
 intro l B n e z h
 match l,B,e,h with
 |[_],B,e,h=>obtain⟨m,h1,h2⟩:=agG rfl h;exact⟨m,h1,h2⟩
 |[_,_],B,e,h=>obtain⟨m,h1,h2⟩:=KI rfl h;exact⟨m,h1,h2⟩
 |[_,_,_],B,e,h=>obtain⟨m,h1,h2⟩:=abO rfl h;exact⟨m,h1,h2⟩
 |[_,_,_,_],B,e,h=>obtain⟨m,h1,h2⟩:=agE rfl h;exact⟨m,h1,h2⟩
 |[_,_,_,_,_],B,e,h=>obtain⟨m,h1,h2⟩:=agD rfl h;exact⟨m,h1,h2⟩
 |[_,_,_,_,_,_],B,e,h=>obtain⟨m,h1,h2⟩:=agC rfl h;exact⟨m,h1,h2⟩
 |[_,_,_,_,_,_,_],B,e,h=>obtain⟨m,h1,h2⟩:=agB rfl h;exact⟨m,h1,h2⟩
 |[_,_,_,_,_,_,_,_],B,e,h=>obtain⟨m,h1,h2⟩:=agA rfl h;exact⟨m,h1,h2⟩
 |[_,_,_,_,_,_,_,_,_],B,e,h=>obtain⟨m,h1,h2⟩:=agz rfl h;exact⟨m,h1,h2⟩
 |[_,_,_,_,_,_,_,_,_,_],B,e,h=>obtain⟨m,h1,h2⟩:=adf rfl h;exact⟨m,h1,h2⟩
 |[_,_,_,_,_,_,_,_,_,_,_],B,e,h=>obtain⟨m,h1,h2⟩:=ade rfl h;exact⟨m,h1,h2⟩
 |[_,_,_,_,_,_,_,_,_,_,_,_],B,e,h=>obtain⟨m,h1,h2⟩:=adb rfl h;exact⟨m,h1,h2⟩
 |[],B,e,h=>cases h
 |_ ::_ ::_ ::_ ::_ ::_ ::_ ::_ ::_ ::_ ::_ ::_ ::_ ::_,B,e,h=>cases h
theorem abR(α ρ:Type):∃g:α->(α->Option ρ)->Option ρ,∀a f,g a f=lt a f:=⟨lt,λ_ _ =>rfl⟩
noncomputable def jn{α ρ:Type}:α->(α->Option ρ)->Option ρ:=Classical.choose (abR α ρ)
theorem ai0{α ρ:Type}{a:α}{f:α->Option ρ}:jn a f=lt a f:=Classical.choose_spec (abR α ρ) a f
noncomputable def lj{α ρ:Type}:Bool->α->(α->Option ρ)->Option ρ
 |true=>jn
 |false=>lt
theorem Gm{α ρ:Type}{b:Bool}{a:α}{f:α->Option ρ}:lj b a f=f a:=by cases b;exact rfl;exact ai0
noncomputable def jnE{Z:Type}(b:Bool):(l:List Ty)->(HL G l->Option Z)->((HL G l->Option Z)->Option Z)->Option Z
 |[_],B,A=>lj b (λx1=>B (x1,())) λj=>A λe=>j (e.1)
 |[_,_],B,A=>lj b (λx1 x2=>B (x1,x2,())) λj=>A λe=>j (e.1) (e.2.1)
 |[_,_,_],B,A=>lj b (λx1 x2 x3=>B (x1,x2,x3,())) λj=>A λe=>j (e.1) (e.2.1) (e.2.2.1)
 |[_,_,_,_],B,A=>lj b (λx1 x2 x3 x4=>B (x1,x2,x3,x4,())) λj=>A λe=>j (e.1) (e.2.1) (e.2.2.1) (e.2.2.2.1)
 |[_,_,_,_,_],B,A=>lj b (λx1 x2 x3 x4 x5=>B (x1,x2,x3,x4,x5,())) λj=>A λe=>j (e.1) (e.2.1) (e.2.2.1) (e.2.2.2.1) (e.2.2.2.2.1)
 |[_,_,_,_,_,_],B,A=>lj b (λx1 x2 x3 x4 x5 x6=>B (x1,x2,x3,x4,x5,x6,())) λj=>A λe=>j (e.1) (e.2.1) (e.2.2.1) (e.2.2.2.1) (e.2.2.2.2.1) (e.2.2.2.2.2.1)
 |[_,_,_,_,_,_,_],B,A=>lj b (λx1 x2 x3 x4 x5 x6 x7=>B (x1,x2,x3,x4,x5,x6,x7,())) λj=>A λe=>j (e.1) (e.2.1) (e.2.2.1) (e.2.2.2.1) (e.2.2.2.2.1) (e.2.2.2.2.2.1) (e.2.2.2.2.2.2.1)
 |[_,_,_,_,_,_,_,_],B,A=>lj b (λx1 x2 x3 x4 x5 x6 x7 x8=>B (x1,x2,x3,x4,x5,x6,x7,x8,())) λj=>A λe=>j (e.1) (e.2.1) (e.2.2.1) (e.2.2.2.1) (e.2.2.2.2.1) (e.2.2.2.2.2.1) (e.2.2.2.2.2.2.1) (e.2.2.2.2.2.2.2.1)
 |[_,_,_,_,_,_,_,_,_],B,A=>lj b (λx1 x2 x3 x4 x5 x6 x7 x8 x9=>B (x1,x2,x3,x4,x5,x6,x7,x8,x9,())) λj=>A λe=>j (e.1) (e.2.1) (e.2.2.1) (e.2.2.2.1) (e.2.2.2.2.1) (e.2.2.2.2.2.1) (e.2.2.2.2.2.2.1) (e.2.2.2.2.2.2.2.1) (e.2.2.2.2.2.2.2.2.1)
 |[_,_,_,_,_,_,_,_,_,_],B,A=>lj b (λx1 x2 x3 x4 x5 x6 x7 x8 x9 MV=>B (x1,x2,x3,x4,x5,x6,x7,x8,x9,MV,())) λj=>A λe=>j (e.1) (e.2.1) (e.2.2.1) (e.2.2.2.1) (e.2.2.2.2.1) (e.2.2.2.2.2.1) (e.2.2.2.2.2.2.1) (e.2.2.2.2.2.2.2.1) (e.2.2.2.2.2.2.2.2.1) (e.2.2.2.2.2.2.2.2.2.1)
 |[_,_,_,_,_,_,_,_,_,_,_],B,A=>lj b (λx1 x2 x3 x4 x5 x6 x7 x8 x9 MV Ur=>B (x1,x2,x3,x4,x5,x6,x7,x8,x9,MV,Ur,())) λj=>A λe=>j (e.1) (e.2.1) (e.2.2.1) (e.2.2.2.1) (e.2.2.2.2.1) (e.2.2.2.2.2.1) (e.2.2.2.2.2.2.1) (e.2.2.2.2.2.2.2.1) (e.2.2.2.2.2.2.2.2.1) (e.2.2.2.2.2.2.2.2.2.1) (e.2.2.2.2.2.2.2.2.2.2.1)
 |[_,_,_,_,_,_,_,_,_,_,_,_],B,A=>lj b (λx1 x2 x3 x4 x5 x6 x7 x8 x9 MV Ur x12=>B (x1,x2,x3,x4,x5,x6,x7,x8,x9,MV,Ur,x12,())) λj=>A λe=>j (e.1) (e.2.1) (e.2.2.1) (e.2.2.2.1) (e.2.2.2.2.1) (e.2.2.2.2.2.1) (e.2.2.2.2.2.2.1) (e.2.2.2.2.2.2.2.1) (e.2.2.2.2.2.2.2.2.1) (e.2.2.2.2.2.2.2.2.2.1) (e.2.2.2.2.2.2.2.2.2.2.1) (e.2.2.2.2.2.2.2.2.2.2.2.1)
 |_,B,A=>A B
theorem agK{Z:Type}{b:Bool}:∀{l:List Ty} {B:HL G l->Option Z} {A:(HL G l->Option Z)->Option Z} {z:Z},jnE b l B A=some z->A B=some z:=by
 intro l B A z h
 match l,B,A,h with
 |[_],B,A,h=>exact(Gm (b:=b) (a:=λx1=>B (x1,())) (f:=λj=>A λe=>j (e.1))).symm.trans h
 |[_,_],B,A,h=>exact(Gm (b:=b) (a:=λx1 x2=>B (x1,x2,())) (f:=λj=>A λe=>j (e.1) (e.2.1))).symm.trans h
 |[_,_,_],B,A,h=>exact(Gm (b:=b) (a:=λx1 x2 x3=>B (x1,x2,x3,())) (f:=λj=>A λe=>j (e.1) (e.2.1) (e.2.2.1))).symm.trans h
 |[_,_,_,_],B,A,h=>exact(Gm (b:=b) (a:=λx1 x2 x3 x4=>B (x1,x2,x3,x4,())) (f:=λj=>A λe=>j (e.1) (e.2.1) (e.2.2.1) (e.2.2.2.1))).symm.trans h
 |[_,_,_,_,_],B,A,h=>exact(Gm (b:=b) (a:=λx1 x2 x3 x4 x5=>B (x1,x2,x3,x4,x5,())) (f:=λj=>A λe=>j (e.1) (e.2.1) (e.2.2.1) (e.2.2.2.1) (e.2.2.2.2.1))).symm.trans h
 |[_,_,_,_,_,_],B,A,h=>exact(Gm (b:=b) (a:=λx1 x2 x3 x4 x5 x6=>B (x1,x2,x3,x4,x5,x6,())) (f:=λj=>A λe=>j (e.1) (e.2.1) (e.2.2.1) (e.2.2.2.1) (e.2.2.2.2.1) (e.2.2.2.2.2.1))).symm.trans h
 |[_,_,_,_,_,_,_],B,A,h=>exact(Gm (b:=b) (a:=λx1 x2 x3 x4 x5 x6 x7=>B (x1,x2,x3,x4,x5,x6,x7,())) (f:=λj=>A λe=>j (e.1) (e.2.1) (e.2.2.1) (e.2.2.2.1) (e.2.2.2.2.1) (e.2.2.2.2.2.1) (e.2.2.2.2.2.2.1))).symm.trans h
 |[_,_,_,_,_,_,_,_],B,A,h=>exact(Gm (b:=b) (a:=λx1 x2 x3 x4 x5 x6 x7 x8=>B (x1,x2,x3,x4,x5,x6,x7,x8,())) (f:=λj=>A λe=>j (e.1) (e.2.1) (e.2.2.1) (e.2.2.2.1) (e.2.2.2.2.1) (e.2.2.2.2.2.1) (e.2.2.2.2.2.2.1) (e.2.2.2.2.2.2.2.1))).symm.trans h
 |[_,_,_,_,_,_,_,_,_],B,A,h=>exact(Gm (b:=b) (a:=λx1 x2 x3 x4 x5 x6 x7 x8 x9=>B (x1,x2,x3,x4,x5,x6,x7,x8,x9,())) (f:=λj=>A λe=>j (e.1) (e.2.1) (e.2.2.1) (e.2.2.2.1) (e.2.2.2.2.1) (e.2.2.2.2.2.1) (e.2.2.2.2.2.2.1) (e.2.2.2.2.2.2.2.1) (e.2.2.2.2.2.2.2.2.1))).symm.trans h
 |[_,_,_,_,_,_,_,_,_,_],B,A,h=>exact(Gm (b:=b) (a:=λx1 x2 x3 x4 x5 x6 x7 x8 x9 MV=>B (x1,x2,x3,x4,x5,x6,x7,x8,x9,MV,())) (f:=λj=>A λe=>j (e.1) (e.2.1) (e.2.2.1) (e.2.2.2.1) (e.2.2.2.2.1) (e.2.2.2.2.2.1) (e.2.2.2.2.2.2.1) (e.2.2.2.2.2.2.2.1) (e.2.2.2.2.2.2.2.2.1) (e.2.2.2.2.2.2.2.2.2.1))).symm.trans h
 |[_,_,_,_,_,_,_,_,_,_,_],B,A,h=>exact(Gm (b:=b) (a:=λx1 x2 x3 x4 x5 x6 x7 x8 x9 MV Ur=>B (x1,x2,x3,x4,x5,x6,x7,x8,x9,MV,Ur,())) (f:=λj=>A λe=>j (e.1) (e.2.1) (e.2.2.1) (e.2.2.2.1) (e.2.2.2.2.1) (e.2.2.2.2.2.1) (e.2.2.2.2.2.2.1) (e.2.2.2.2.2.2.2.1) (e.2.2.2.2.2.2.2.2.1) (e.2.2.2.2.2.2.2.2.2.1) (e.2.2.2.2.2.2.2.2.2.2.1))).symm.trans h
 |[_,_,_,_,_,_,_,_,_,_,_,_],B,A,h=>exact(Gm (b:=b) (a:=λx1 x2 x3 x4 x5 x6 x7 x8 x9 MV Ur x12=>B (x1,x2,x3,x4,x5,x6,x7,x8,x9,MV,Ur,x12,())) (f:=λj=>A λe=>j (e.1) (e.2.1) (e.2.2.1) (e.2.2.2.1) (e.2.2.2.2.1) (e.2.2.2.2.2.1) (e.2.2.2.2.2.2.1) (e.2.2.2.2.2.2.2.1) (e.2.2.2.2.2.2.2.2.1) (e.2.2.2.2.2.2.2.2.2.1) (e.2.2.2.2.2.2.2.2.2.2.1) (e.2.2.2.2.2.2.2.2.2.2.2.1))).symm.trans h
 |[],B,A,h=>exact h
 |_ ::_ ::_ ::_ ::_ ::_ ::_ ::_ ::_ ::_ ::_ ::_ ::_ ::_,B,A,h=>exact h
def itE{B Z:Type}:(l:List Ty)->(B->(HL G l->Option Z)->HL G l->Option Z)->(HL G l->Option Z)->List B->HL G l->Option Z
 |[],b,fin,l,_ =>yD (λy k (_ :Unit)=>b y (λ_ =>k ()) ()) (λ_ =>fin ()) l ()
 |[_],b,fin,l,e=>yD (λy k x1=>b y (λe=>k (e.1)) (x1,())) (λx1=>fin (x1,())) l (e.1)
 |[_,_],b,fin,l,e=>agR (λy k x1 x2=>b y (λe=>k (e.1) (e.2.1)) (x1,x2,())) (λx1 x2=>fin (x1,x2,())) l (e.1) (e.2.1)
 |[_,_,_],b,fin,l,e=>Wt (λy k x1 x2 x3=>b y (λe=>k (e.1) (e.2.1) (e.2.2.1)) (x1,x2,x3,())) (λx1 x2 x3=>fin (x1,x2,x3,())) l (e.1) (e.2.1) (e.2.2.1)
 |[_,_,_,_],b,fin,l,e=>agQ (λy k x1 x2 x3 x4=>b y (λe=>k (e.1) (e.2.1) (e.2.2.1) (e.2.2.2.1)) (x1,x2,x3,x4,())) (λx1 x2 x3 x4=>fin (x1,x2,x3,x4,())) l (e.1) (e.2.1) (e.2.2.1) (e.2.2.2.1)
 |[_,_,_,_,_],b,fin,l,e=>agP (λy k x1 x2 x3 x4 x5=>b y (λe=>k (e.1) (e.2.1) (e.2.2.1) (e.2.2.2.1) (e.2.2.2.2.1)) (x1,x2,x3,x4,x5,())) (λx1 x2 x3 x4 x5=>fin (x1,x2,x3,x4,x5,())) l (e.1) (e.2.1) (e.2.2.1) (e.2.2.2.1) (e.2.2.2.2.1)
 |[_,_,_,_,_,_],b,fin,l,e=>agO (λy k x1 x2 x3 x4 x5 x6=>b y (λe=>k (e.1) (e.2.1) (e.2.2.1) (e.2.2.2.1) (e.2.2.2.2.1) (e.2.2.2.2.2.1)) (x1,x2,x3,x4,x5,x6,())) (λx1 x2 x3 x4 x5 x6=>fin (x1,x2,x3,x4,x5,x6,())) l (e.1) (e.2.1) (e.2.2.1) (e.2.2.2.1) (e.2.2.2.2.1) (e.2.2.2.2.2.1)
 |[_,_,_,_,_,_,_],b,fin,l,e=>agN (λy k x1 x2 x3 x4 x5 x6 x7=>b y (λe=>k (e.1) (e.2.1) (e.2.2.1) (e.2.2.2.1) (e.2.2.2.2.1) (e.2.2.2.2.2.1) (e.2.2.2.2.2.2.1)) (x1,x2,x3,x4,x5,x6,x7,())) (λx1 x2 x3 x4 x5 x6 x7=>fin (x1,x2,x3,x4,x5,x6,x7,())) l (e.1) (e.2.1) (e.2.2.1) (e.2.2.2.1) (e.2.2.2.2.1) (e.2.2.2.2.2.1) (e.2.2.2.2.2.2.1)
 |[_,_,_,_,_,_,_,_],b,fin,l,e=>agM (λy k x1 x2 x3 x4 x5 x6 x7 x8=>b y (λe=>k (e.1) (e.2.1) (e.2.2.1) (e.2.2.2.1) (e.2.2.2.2.1) (e.2.2.2.2.2.1) (e.2.2.2.2.2.2.1) (e.2.2.2.2.2.2.2.1)) (x1,x2,x3,x4,x5,x6,x7,x8,())) (λx1 x2 x3 x4 x5 x6 x7 x8=>fin (x1,x2,x3,x4,x5,x6,x7,x8,())) l (e.1) (e.2.1) (e.2.2.1) (e.2.2.2.1) (e.2.2.2.2.1) (e.2.2.2.2.2.1) (e.2.2.2.2.2.2.1) (e.2.2.2.2.2.2.2.1)
 |_,_,_,_,_ =>none
theorem aaf{B Z:Type}:∀{l:List Ty} {b:B->(HL G l->Option Z)->HL G l->Option Z} {fin:HL G l->Option Z} {e:HL G l} {z:Z},itE l b fin [] e=some z->fin e=some z:=by
 intro l b fin e z h
 match l,b,fin,e,h with
 |[],b,fin,e,h=>exact h
 |[_],b,fin,e,h=>exact h
 |[_,_],b,fin,e,h=>exact h
 |[_,_,_],b,fin,e,h=>exact h
 |[_,_,_,_],b,fin,e,h=>exact h
 |[_,_,_,_,_],b,fin,e,h=>exact h
 |[_,_,_,_,_,_],b,fin,e,h=>exact h
 |[_,_,_,_,_,_,_],b,fin,e,h=>exact h
 |[_,_,_,_,_,_,_,_],b,fin,e,h=>exact h
 |_ ::_ ::_ ::_ ::_ ::_ ::_ ::_ ::_ ::_,b,fin,e,h=>cases h
theorem Wu{B Z:Type}:∀{l:List Ty} {b:B->(HL G l->Option Z)->HL G l->Option Z} {fin:HL G l->Option Z} {y:B} {q:List B} {e:HL G l} {z:Z},itE l b fin (y::q) e=some z->b y (itE l b fin q) e=some z:=by
 intro l b fin y q e z h
 match l,b,fin,e,h with
 |[],b,fin,e,h=>exact h
 |[_],b,fin,e,h=>exact h
 |[_,_],b,fin,e,h=>exact h
 |[_,_,_],b,fin,e,h=>exact h
 |[_,_,_,_],b,fin,e,h=>exact h
 |[_,_,_,_,_],b,fin,e,h=>exact h
 |[_,_,_,_,_,_],b,fin,e,h=>exact h
 |[_,_,_,_,_,_,_],b,fin,e,h=>exact h
 |[_,_,_,_,_,_,_,_],b,fin,e,h=>exact h
 |_ ::_ ::_ ::_ ::_ ::_ ::_ ::_ ::_ ::_,b,fin,e,h=>cases h
inductive Src where
 |dS (d:Nat)
 |obj (r:Nat)
structure Om where
 l:List (Src×Sh)
 nm:List (Option Nat)
def sY:List (Src×Sh)->Sh
 |[]=> .nil
 |(_,s)::r=> .cons s (sY r)
def Et(C:CC G)(S:AS G):List (Src×Sh)->Option (AV G)
 |[]=>some .nil
 |(.dS d,_)::r=>match gv C S [] (.tmp d),Et C S r with
  |some v,some l=>some (.cons v l)
  |_,_ =>none
 |(.obj b,_)::r=>match dm S.O b,Et C S r with
  |some (.cI _ _),some l=>some (.cons (.ptr b []) l)
  |some (.row _ _ _ _),some l=>some (.cons (.row b) l)
  |_,_ =>none
def xp:List (Option Nat)->List Nat->Bool
 |[],[]=>true
 |some r::q,s::th=>Nat.beq r s&&xp q th
 |none::q,_ ::th=>xp q th
 |_,_ =>false
def Pg(base:Nat)(nm:List (Option Nat))(m:Nat):Nat:=match nm[m]? with
 |some (some r)=>r
 |_ =>base+m
def xq(base:Nat):List (Option Nat)->Bool
 |[]=>true
 |some r::q=>Nat.blt r base&&xq base q
 |none::q=>xq base q
def HQ:List (Src×Sh)->AV G->Fr G
 |(.dS d,_)::r, .cons v l=>(d,v)::HQ r l
 |(.obj _,_)::r, .cons _ l=>HQ r l
 |_,_ =>[]
def AV.lt(n:Nat):AV G->Bool
 | .ptr r _ =>Nat.blt r n
 | .row r=>Nat.blt r n
 | .EE r _ _ _ _ _ =>Nat.blt r n
 | .mp r=>Nat.blt r n
 | .yl r=>Nat.blt r n
 | .fn _ a c=>a.lt n&&c.lt n
 | .st a=>a.lt n
 | .jc a=>a.lt n
 | .iQ _ v=>v.lt n
 | .gd _ _ v=>v.lt n
 | .cons a b=>a.lt n&&b.lt n
 | .part _ a b=>a.lt n&&b.lt n
 |_ =>true
theorem rl.fJ{n:Nat}(m:∀r,r<n->ρ' r=ρ r):∀{v:AV G} {l:List Value},v.lt n=true->rl J ρ v l->rl J ρ' v l:=by
 intro v
 induction v with
 |ptr r p=>intro l h1 h;have hr:=m r (by simpa[AV.lt,Nat.blt_eq]using h1);obtain⟨⟨b,o,k1,k2⟩,k3⟩:=h;refine⟨⟨b,o,?_,k2⟩,k3⟩;unfold PB at k1 ⊢;rw[hr];exact k1
 |EE r p n' sz up i=>intro l h1 h;have hr:=m r (by simpa[AV.lt,Nat.blt_eq]using h1);obtain⟨⟨b,o,k1,k2⟩,k3⟩:=h;refine⟨⟨b,o,?_,k2⟩,k3⟩;unfold PB at k1 ⊢;rw[hr];exact k1
 |row r=>intro l h1 h;unfold rl at h ⊢;rw[m r (by simpa[AV.lt,Nat.blt_eq]using h1)];exact h
 |mp r=>intro l h1 h;unfold rl at h ⊢;rw[m r (by simpa[AV.lt,Nat.blt_eq]using h1)];exact h
 |yl r=>intro l h1 h;unfold rl at h ⊢;rw[m r (by simpa[AV.lt,Nat.blt_eq]using h1)];exact h
 |fn f a c mz AX=>intro l h1 h;simp only[AV.lt,akg]at h1;obtain⟨fs,cs,e,h2,h3⟩:=h;exact⟨fs,cs,e,mz h1.1 h2,AX h1.2 h3⟩
 |st a ih=>intro l h1 h;obtain⟨cs,e,h2,h3⟩:=h;exact⟨cs,e,ih h1 h2,h3⟩
 |jc a ih=>intro l h1 h;obtain⟨vs,e,h2⟩:=h;exact⟨vs,e,ih h1 h2⟩
 |iQ t v ih=>intro l h1 h;obtain⟨u,e,h2⟩:=h;exact⟨u,e,ih h1 h2⟩
 |cons a b mz sB=>intro l h1 h;simp only[AV.lt,akg]at h1;obtain⟨u,r,e,h2,h3⟩:=h;exact⟨u,r,e,mz h1.1 h2,sB h1.2 h3⟩
 |part w a b mz sB=>intro l h1 h;simp only[AV.lt,akg]at h1;obtain⟨c1,c2,u,e,h2,h3,h4,h5⟩:=h;exact⟨c1,c2,u,e,h2,mz h1.1 h3,h4,sB h1.2 h5⟩
 |_ =>intro l _ h;exact h
def Wk(n:Nat):Fr G->Bool
 |[]=>true
 |(_,v)::r=>v.lt n&&Wk n r
def uY(n:Nat):Os G->Bool
 |[]=>true
 |(r, .cI _ c)::q=>Nat.blt r n&&(c.lt n&&uY n q)
 |(r, .row _ _ _ _)::q=>Nat.blt r n&&uY n q
 |(r, .aux _)::q=>Nat.blt r n&&uY n q
 |(r, .gm)::q=>Nat.blt r n&&uY n q
 |(r, .fm _ _ vs)::q=>Nat.blt r n&&(vs.lt n&&uY n q)
 |(r, .lp _ _ vs _ _ _)::q=>Nat.blt r n&&(vs.lt n&&uY n q)
def Z2(n:Nat):List (AV G)->Bool
 |[]=>true
 |v::r=>v.lt n&&Z2 n r
def yP(n:Nat):CC G->Bool
 |[]=>true
 |y::r=>Wk n y.F&&(uY n y.O&&(Z2 n y.D&&yP n r))
theorem abN{n:Nat}:∀{F:Fr G} {d:Nat} {v:AV G},Wk n F=true->dm F d=some v->v.lt n=true:=by
 intro F
 induction F with
 |nil=>intro d v _ h;cases h
 |cons p r ih=>
  obtain⟨k,u⟩:=p;intro d v h e;simp only[Wk,akg]at h;simp only[dm]at e;cases hb:Nat.beq k d with
  |true=>rw[hb]at e;cases e;exact h.1
  |false=>rw[hb]at e;exact ih h.2 e
theorem rf.fJ{n:Nat}(m:∀r,r<n->ρ' r=ρ r){t:Array Value}{v:AV G}{u:Value}(h1:v.lt n=true)(h:rf J ρ t v u):rf J ρ' t v u:=by
 cases v with
 |gd j w v=>exact⟨λe=>(h.1 e).fJ m h1,h.2⟩
 |_ =>exact rl.fJ m h1 h
theorem qj.fJ{n:Nat}(m:∀r,r<n->ρ' r=ρ r){F:Fr G}{t:Array Value}(h1:Wk n F=true)(h:qj J ρ F t):qj J ρ' F t:=λd v e=>by obtain⟨u,k1,k2⟩:=h d v e;exact⟨u,k1,k2.fJ m (abN h1 e)⟩
def Ob.lt(n:Nat):Ob G->Bool
 | .cI _ c=>c.lt n
 | .fm _ _ vs=>vs.lt n
 | .lp _ _ vs _ _ _ =>vs.lt n
 |_ =>true
theorem Wj{n:Nat}:∀{O:Os G} {r:Nat} {o:Ob G},uY n O=true->dm O r=some o->(Nat.blt r n&&o.lt n)=true:=by
 intro O
 induction O with
 |nil=>intro r o _ h;cases h
 |cons p q ih=>
  obtain⟨k,u⟩:=p;intro r o h e;have h2:(Nat.blt k n&&u.lt n)=true/\uY n q=true:=by
   cases u with
   |cI T c=>simp only[uY,akg]at h;exact⟨by simp[Ob.lt,h.1,h.2.1],h.2.2⟩
   |row _ _ _ _ =>simp only[uY,akg]at h;exact⟨by simp[Ob.lt,h.1],h.2⟩
   |aux _ =>simp only[uY,akg]at h;exact⟨by simp[Ob.lt,h.1],h.2⟩
   |gm=>simp only[uY,akg]at h;exact⟨by simp[Ob.lt,h.1],h.2⟩
   |fm _ _ _ =>simp only[uY,akg]at h;exact⟨by simp[Ob.lt,h.1,h.2.1],h.2.2⟩
   |lp _ _ _ _ _ _ =>simp only[uY,akg]at h;exact⟨by simp[Ob.lt,h.1,h.2.1],h.2.2⟩
  simp only[dm]at e;cases hb:Nat.beq k r with
  |true=>rw[hb]at e;cases e;rw[← akf hb];exact h2.1
  |false=>rw[hb]at e;exact ih h2.2 e
theorem ro.fJ{n:Nat}(m:∀r,r<n->ρ' r=ρ r){r:Nat}{o:Ob G}{x:aE}(h:ro J ρ r o x)(hl:(Nat.blt r n&&o.lt n)=true):ro J ρ' r o x:=by
 rw[akg]at hl;have hr:=m r (by simpa[Nat.blt_eq]using hl.1);cases o with
 |cI T c=>obtain⟨b,u,k1,k2,k3⟩:=h;exact⟨b,u,hr.trans k1,k2,k3.fJ m hl.2⟩
 |row e sz t xs=>obtain⟨v,ws,k1,k2⟩:=h;exact⟨v,ws,hr.trans k1,k2⟩
 |aux b=>obtain⟨n,x,k1,k2⟩:=h;exact⟨n,x,hr.trans k1,k2⟩
 |gm=>obtain⟨⟨mb,g,k1,k2⟩,k4⟩:=h;exact⟨⟨mb,g,hr.trans k1,k2⟩,k4⟩
 |fm q ks vs=>obtain⟨b,es,ck,us,k1,k2,k3,k4,k5⟩:=h;exact⟨b,es,ck,us,hr.trans k1,k2,k3,k4.fJ m hl.2,k5⟩
 |lp N ks vs ps a b=>obtain⟨n,rec,us,k1,k2,k3,k4⟩:=h;exact⟨n,rec,us,hr.trans k1,k2,k3.fJ m hl.2,k4⟩
theorem RO.fJ{n:Nat}(m:∀r,r<n->ρ' r=ρ r){O:Os G}{H:List aE}(h:RO J ρ O H):uY n O=true->RO J ρ' O H:=by
 induction h with
 |nil=>intro _;exact .nil
 |@cons r o x O H h _ ih=>
  intro hl;cases o with
  |cI T c=>simp only[uY,akg]at hl;obtain⟨b,u,k1,k2,k3⟩:=h;exact .cons ⟨b,u,(m r (by simpa[Nat.blt_eq]using hl.1)).trans k1,k2,k3.fJ m hl.2.1⟩ (ih hl.2.2)
  |row e sz t xs=>simp only[uY,akg]at hl;obtain⟨v,ws,k1,k2⟩:=h;exact .cons ⟨v,ws,(m r (by simpa[Nat.blt_eq]using hl.1)).trans k1,k2⟩ (ih hl.2)
  |aux b=>simp only[uY,akg]at hl;obtain⟨v,ws,k1,k2⟩:=h;exact .cons ⟨v,ws,(m r (by simpa[Nat.blt_eq]using hl.1)).trans k1,k2⟩ (ih hl.2)
  |gm=>simp only[uY,akg]at hl;obtain⟨⟨mb,g,k1,k2⟩,k4⟩:=h;exact .cons ⟨⟨mb,g,(m r (by simpa[Nat.blt_eq]using hl.1)).trans k1,k2⟩,k4⟩ (ih hl.2)
  |fm q ks vs=>simp only[uY,akg]at hl;obtain⟨b,es,ck,us,k1,k2,k3,k4,k5⟩:=h;exact .cons ⟨b,es,ck,us,(m r (by simpa[Nat.blt_eq]using hl.1)).trans k1,k2,k3,k4.fJ m hl.2.1,k5⟩ (ih hl.2.2)
  |lp N ks vs ps a b=>simp only[uY,akg]at hl;obtain⟨n,rec,us,k1,k2,k3,k4⟩:=h;exact .cons ⟨n,rec,us,(m r (by simpa[Nat.blt_eq]using hl.1)).trans k1,k2,k3.fJ m hl.2.1,k4⟩ (ih hl.2.2)
theorem DR.fJ{n:Nat}(m:∀r,r<n->ρ' r=ρ r){l:List (AV G)}{D:List Deferred}(h:DR J ρ l D):Z2 n l=true->DR J ρ' l D:=by
 induction h with
 |nil=>intro _;exact .nil
 |@cons v d l D h _ ih=>
  intro hl;simp only[Z2,akg]at hl;refine .cons ?_ (ih hl.2);unfold dr at h;split at h
  ·simp only[AV.lt,akg]at hl
   obtain⟨fs,cs,ls,k1,k2,k3,k4⟩:=h;exact⟨fs,cs,ls,k1.fJ m hl.1.1.1,k2.fJ m hl.1.1.2,k3.fJ m hl.1.2,k4⟩
  ·obtain⟨rfl,b,k1,k2⟩:=h
   exact⟨rfl,b,(m _ (by simpa[AV.lt,Nat.blt_eq]using hl.1)).trans k1,k2⟩
  ·exact h.elim
theorem Wl{n:Nat}:∀{C:CC G},yP n C=true->∀y∈C,Wk n y.F=true:=by
 intro C
 induction C with
 |nil=>intro _ y h;cases h
 |cons x r ih=>
  intro h y hy;simp only[yP,akg]at h;rcases List.mem_cons.1 hy with rfl|hy
  ·exact h.1
  ·exact ih h.2.2.2 y hy
theorem Z1{n:Nat}:∀{A B:Os G},uY n A=true->uY n B=true->uY n (A++B)=true:=by
 intro A
 induction A with
 |nil=>intro B _ h;exact h
 |cons p r ih=>
  obtain⟨k,o⟩:=p;intro B h1 h2;cases o<;>simp only[List.cons_append,uY,akg]at h1 ⊢
  ·exact⟨h1.1,h1.2.1,ih h1.2.2 h2⟩
  ·exact⟨h1.1,ih h1.2 h2⟩
  ·exact⟨h1.1,ih h1.2 h2⟩
  ·exact⟨h1.1,ih h1.2 h2⟩
  ·exact⟨h1.1,h1.2.1,ih h1.2.2 h2⟩
  ·exact⟨h1.1,h1.2.1,ih h1.2.2 h2⟩
theorem LY{n:Nat}:∀{A B:List (AV G)},Z2 n A=true->Z2 n B=true->Z2 n (A++B)=true:=by
 intro A
 induction A with
 |nil=>intro B _ h;exact h
 |cons p r ih=>intro B h1 h2;simp only[List.cons_append,Z2,akg]at h1 ⊢;exact⟨h1.1,ih h1.2 h2⟩
theorem FD{n:Nat}:∀{C:CC G},yP n C=true->uY n (my C)=true/\Z2 n (dfC C)=true:=by
 intro C
 induction C with
 |nil=>intro _;exact⟨rfl,rfl⟩
 |cons x r ih=>intro h;simp only[yP,akg]at h;obtain⟨i1,i2⟩:=ih h.2.2.2;exact⟨Z1 h.2.1 i1,LY h.2.2.1 i2⟩
theorem Zb{c:Cx}{N:Nat}{HK X:List aE}{C:CC G}{S:AS G}{a:Act}{w:World}(h:Rl c N ρ J HK X C S a w):∀{l:List (Src×Sh)} {v:AV G},Et C S l=some v->∃us,rl J ρ v us/\∀(x:HL G (aL (sY l))) (f:Nat->Nat) (m:Nat) (τ:bh),rl J τ (fQ f (sY l) x m).1 us->qj J τ (HQ l (fQ f (sY l) x m).1) a.tmps:=by
 intro l
 induction l with
 |nil=>intro v e;cases e;exact⟨[],rfl,λx f m τ _ d v e=>by cases e⟩
 |cons p r ih=>
  obtain⟨s,sh⟩:=p;intro v e;have key:∀(u0:Value) (us:List Value) (x:HL G (aL (sY ((s,sh)::r)))) (f:Nat->Nat) (m:Nat) (τ:bh),rl J τ (fQ f (sY ((s,sh)::r)) x m).1 (u0::us)->
    rv J τ (fQ f sh (HL.fst x) m).1 u0/\rl J τ (fQ f (sY r) (HL.snd x) (fQ f sh (HL.fst x) m).2.2).1 us:=λu0 us x f m τ hr=>by
   obtain⟨u,q,e1,h1,h2⟩:=hr;cases e1;exact⟨h1,h2⟩
  cases s with
  |dS d=>
   simp only[Et]at e;split at e
   ·rename_i v1 l1 e1 e2
    cases e;obtain⟨us,i1,i2⟩:=ih e2;have hE:=dk h (ch:=[]) (by simp);have hin:=hE.ev _ _ e1;have hd:a.tmps[d]? =some (a.eval (.tmp d)):=G7 a d _ hin;refine⟨a.eval (.tmp d)::us,⟨_,_,rfl,hE.ok _ _ e1,i1⟩,λx f m τ hr=>?_⟩;obtain⟨k1,k2⟩:=key _ _ _ _ _ _ hr;have:=i2 (HL.snd x) f _ τ k2;intro k v e;have e:dm ((d,(fQ f sh (HL.fst x) m).1)::HQ r (fQ f (sY r) (HL.snd x) (fQ f sh (HL.fst x) m).2.2).1) k=some v:=e;simp only[dm]at e;cases hb:Nat.beq d k with
    |true=>
     rw[hb]at e;cases e;obtain rfl:=akf hb;refine⟨_,hd,?_⟩;have hng:∀j w v',(fQ f sh (HL.fst x) m).1≠ .gd j w v':=λj w v' q=>by rw[q]at k1;exact k1
     revert k1;generalize(fQ f sh (HL.fst x) m).1=b at hng;intro k1;cases b with
     |gd j w v'=>exact absurd rfl (hng j w v')
     |_ =>exact k1
    |false=>rw[hb]at e;exact this k v e
   ·cases e
  |obj b=>
   simp only[Et]at e;split at e
   ·rename_i T cc l1 e1 e2
    cases e;obtain⟨us,i1,i2⟩:=ih e2;obtain⟨HS,q1,_⟩:=h.hp;obtain⟨k,y,_,⟨b',u,m1,_,_⟩⟩:=q1.get e1;refine⟨dO b' 0::us,⟨_,_,rfl,⟨⟨b',0, .inl m1,rfl⟩,by simp⟩,i1⟩,λx f m τ hr=>?_⟩;obtain⟨k1,k2⟩:=key _ _ _ _ _ _ hr;exact i2 (HL.snd x) f _ τ k2
   ·rename_i e9 z9 t9 xs9 l1 e1 e2
    cases e;obtain⟨us,i1,i2⟩:=ih e2;obtain⟨HS,q1,_⟩:=h.hp;obtain⟨k,y,_,⟨v9,ws9,m1,_,m3,_⟩⟩:=q1.get e1;obtain⟨a9,c9,rfl⟩:=m3;refine⟨_ ::us,⟨_,_,rfl,⟨_,_,_,m1,rfl⟩,i1⟩,λx f m τ hr=>?_⟩;obtain⟨k1,k2⟩:=key _ _ _ _ _ _ hr;exact i2 (HL.snd x) f _ τ k2
   ·cases e
theorem V4:∀{nm:List (Option Nat)} {th:List Nat},xp nm th=true->nm.length=th.length/\∀(m r:Nat),nm[m]? =some (some r)->th[m]? =some r:=by
 intro nm
 induction nm with
 |nil=>intro th h;cases th with
  |nil=>exact⟨rfl,λm r e=>by simp at e⟩
  |cons _ _ =>cases h
 |cons o q ih=>
  intro th h;cases th with
  |nil=>cases o<;>cases h
  |cons s th=>
   have h1:xp q th=true/\∀r,o=some r->r=s:=by
    cases o with
    |none=>exact⟨h,nofun⟩
    |some r=>simp only[xp,akg]at h;exact⟨h.2,λr' e=>by cases e;exact akf h.1⟩
   obtain⟨i1,i2⟩:=ih h1.1;refine⟨by simp[i1],λm r e=>?_⟩;cases m with
   |zero=>simp at e;simp[h1.2 r e]
   |succ m=>simpa using i2 m r (by simpa using e)
theorem V5{base:Nat}:∀{nm:List (Option Nat)},xq base nm=true->∀(m r:Nat),nm[m]? =some (some r)->r<base:=by
 intro nm
 induction nm with
 |nil=>intro _ m r e;simp at e
 |cons o q ih=>
  intro h m r e;cases m with
  |zero=>simp at e;subst e;simp only[xq,akg]at h;simpa[Nat.blt_eq]using h.1
  |succ m=>
   refine ih ?_ m r (by simpa using e);cases o with
   |none=>exact h
   |some _ =>simp only[xq,akg]at h;exact h.2
def JP(g:Om)(base:Nat)(x:HL G (aL (sY g.l))):AS G:=⟨HQ g.l (fQ (Pg base g.nm) (sY g.l) x 0).1,(fQ (Pg base g.nm) (sY g.l) x 0).2.1,base+g.nm.length,[]⟩
def Iu(C:CC G)(S:AS G)(g:Om)(base:Nat):Option (HL G (aL (sY g.l))):=match S.D with
 |[]=>match Et C S g.l with
  |some v=>match nW (sY g.l) v ⟨[],S.O,S.nx⟩with
   |some (x,g')=>bif xp g.nm g'.th&&(xq base g.nm&&Nat.ble base S.nx)then some x else none
   |none=>none
  |none=>none
 |_ =>none
theorem QW{c:Cx}{N:Nat}{HK X:List aE}{C:CC G}{S:AS G}{a:Act}{w:World}{g:Om}{base:Nat}{v:AV G}{x:HL G (aL (sY g.l))}{g':GS G}(h:Rl c N ρ J HK X C S a w)(hv:Et C S g.l=some v)(KU:nW (sY g.l) v ⟨[],S.O,S.nx⟩=some (x,g'))
  (b1:xp g.nm g'.th=true)(b2:xq base g.nm=true)(b3:base<=S.nx)(hl:yP base C=true):
  ∃(ρ' ρ2:bh) (HB H':List aE),ρ.to ρ' base/\ρ.to ρ2 S.nx/\RO J ρ' (JP g base x).O HB/\RO J ρ2 g'.O H'/\(∀r o,dm (my C) r=some o->∃x∈HK,ro J ρ' r o x)/\bH c.bs c.w0.heap.size (HB++(H'++(HK++X))) w/\qj J ρ' (JP g base x).F a.tmps/\FC J ρ' C a.tmps/\ρ'.fr (base+g.nm.length):=by
 obtain⟨n1,n2⟩:=V4 b1;have n3:=V5 b2;obtain⟨us,i1,i2⟩:=Zb h hv;obtain⟨HS,q1,q3⟩:=h.hp;obtain⟨ρ2,HB,H',k⟩:=Iz KU i1 q1 h.fr;let ρ':bh:=λr=>if r<base then ρ r else cmp ρ2 g'.th (r-base)
 have hto:ρ.to ρ' base:=λr hr=>by show(if r<base then _ else _)=_;rw[akd hr]
 have hmap:∀m u,cmp ρ2 g'.th m=some u->ρ' (Pg base g.nm m)=some u:=λm u e=>by
  have hm:m<g.nm.length:=by
   unfold cmp at e;rcases Nat.lt_or_ge m g'.th.length with hlt|hge
   ·omega
   ·rw[List.getElem?_eq_none hge]at e;cases e
  unfold Pg;obtain⟨o,ho⟩:∃o,g.nm[m]? =some o:=⟨_,akm hm⟩;rw[ho];cases o with
  |none=>show(if base+m<base then _ else cmp ρ2 g'.th (base+m-base))=_;rw[ake (by omega),Nat.add_sub_cancel_left];exact e
  |some r=>have hr:=n3 m r ho;have ht:=n2 m r ho;unfold cmp at e;rw[ht]at e;show(if r<base then ρ r else _)=_;rw[akd hr, ← k.to r (by show r<S.nx;omega)];exact e
 obtain⟨r1,r2,_⟩:=DI (G:=G) (f:=Pg base g.nm) (s:=sY g.l) (x:=x) (m:=0);have hval:rl J ρ' (fQ (Pg base g.nm) (sY g.l) x 0).1 us:=by rw[r1];exact HU hmap k.val
 have Is:RO J ρ' (fQ (Pg base g.nm) (sY g.l) x 0).2.1 HB:=by rw[r2];exact QJ hmap k.cI
 have hag:∀r,r<base->ρ' r=ρ r:=hto;obtain⟨l1,l2⟩:=FD hl;refine⟨ρ',ρ2,HB,H',hto,k.to,Is,k.left,λr o e=>?_,k.hp (HK++X) _ _ _ q3,i2 x _ 0 ρ' hval,λz hz=>(h.fc z hz).fJ hag (Wl hl z hz),λr hr=>?_⟩
 ·obtain⟨y,y1,y2⟩:=h.kc r o e
  exact⟨y,y1,y2.fJ hag (Wj l1 e)⟩
 show(if r<base then ρ r else cmp ρ2 g'.th (r-base))=none;rw[ake (by omega)];unfold cmp;rw[List.getElem?_eq_none (by omega)]
theorem ZZ{c:Cx}{N:Nat}{HK X:List aE}{C:CC G}{S:AS G}{a:Act}{w:World}{g:Om}{base:Nat}{x:HL G (aL (sY g.l))}(h:Rl c N ρ J HK X C S a w)(hg:Iu C S g base=some x)(hl:yP base C=true):
  ∃ρ',ρ.to ρ' base/\Rl c N ρ' J HK X C (JP g base x) a w:=by
 unfold Iu at hg;split at hg
 ·rename_i hD
  split at hg
  ·rename_i v hv
   split at hg
   ·rename_i y g' KU
    cases hb:(xp g.nm g'.th&&(xq base g.nm&&Nat.ble base S.nx))with
    |false=>rw[hb]at hg;cases hg
    |true=>rw[hb]at hg;cases hg;simp only[akg]at hb;obtain⟨b1,b2,b3⟩:=hb;obtain⟨ρ',ρ2,HB,H',hto,_,Is,_,hC,hp,hF,hfc,hfr⟩:=QW h hv KU b1 b2 (Nat.le_of_ble_eq_true b3) hl;have hdf:=h.df;rw[hD]at hdf;refine⟨ρ',hto,h.tm,hdf.fJ hto (FD hl).2,h.si,hF,hfc,hC,⟨HB,Is,?_⟩,h.kn,hfr⟩;exact hp.sub ((List.Sublist.refl HB).append (List.sublist_append_right H' (HK++X)))
   ·cases hg
  ·cases hg
 ·cases hg
def cv:List Nat->Nat->Bool
 |[],_ =>false
 |k::r,d=>Nat.beq k d||cv r d
def zG:List (Src×Sh)->Nat->Bool
 |[],_ =>false
 |(.dS k,_)::r,d=>Nat.beq k d||zG r d
 |(.obj _,_)::r,d=>zG r d
def jM(p:Nat->Bool):Fr G->Fr G
 |[]=>[]
 |(k,v)::r=>bif p k then(k,v)::jM p r else jM p r
theorem aaH{p:Nat->Bool}:∀{F:Fr G} {d:Nat} {v:AV G},dm (jM p F) d=some v->dm F d=some v:=by
 intro F
 induction F with
 |nil=>intro d v h;cases h
 |cons q r ih=>
  obtain⟨k,u⟩:=q;intro d v h;have key:∀{G0:Fr G},(∀x,(k,x)∉G0)->True:=λ_ =>trivial;simp only[jM]at h;cases hp:p k with
  |true=>
   rw[hp]at h;simp only[cond_true,dm]at h ⊢;cases hb:Nat.beq k d with
   |true=>rw[hb]at h;exact h
   |false=>rw[hb]at h;exact ih h
  |false=>
   rw[hp]at h;simp only[cond_false]at h;simp only[dm];cases hb:Nat.beq k d with
   |true=>
    obtain rfl:=akf hb;exact absurd h (by
     have:∀{F:Fr G},dm (jM p F) k=none:=by
      intro F
      induction F with
      |nil=>rfl
      |cons q r ih=>
       obtain⟨k',u'⟩:=q;simp only[jM];cases hp':p k' with
       |true=>
        simp only[cond_true,dm];cases hb':Nat.beq k' k with
        |true=>rw[akf hb']at hp';rw[hp]at hp';cases hp'
        |false=>exact ih
       |false=>exact ih
     rw[this];simp)
   |false=>exact ih h
theorem qj.YS{p:Nat->Bool}{F:Fr G}{t:Array Value}(h:qj J ρ F t):qj J ρ (jM p F) t:=λd v e=>h d v (aaH e)
def bK(p:Nat->Bool):Os G->Os G
 |[]=>[]
 |(k,v)::r=>bif p k then(k,v)::bK p r else bK p r
theorem RO.YS{p:Nat->Bool}{O:Os G}{H:List aE}(h:RO J ρ O H):∃H1 H2,RO J ρ (bK p O) H1/\RO J ρ (bK (λk=> !p k) O) H2/\H.Perm (H1++H2):=by
 induction h with
 |nil=>exact⟨[],[], .nil, .nil, .refl _⟩
 |@cons r o x O H h _ ih=>
  obtain⟨H1,H2,i1,i2,i3⟩:=ih;simp only[bK];cases hp:p r with
  |true=>exact⟨x::H1,H2, .cons h i1,by simpa[hp]using i2,i3.cons x⟩
  |false=>exact⟨H1,x::H2,by simpa[hp]using i1, .cons h i2,(i3.cons x).trans List.perm_middle.symm⟩
def MO(y:Ly G)(S:AS G):AS G:=⟨S.F++y.F,S.O++y.O,S.nx,S.D++y.D⟩
theorem kR{α:Type}:∀{A B:List (Nat×α)} {d:Nat},dm (A++B) d=match dm A d with
  |some v=>some v
  |none=>dm B d:=by
 intro A
 induction A with
 |nil=>intro B d;rfl
 |cons q r ih=>
  obtain⟨k,u⟩:=q;intro B d;simp only[List.cons_append,dm];cases hb:Nat.beq k d with
  |true=>rfl
  |false=>exact ih
theorem RO.lk{O:Os G}{H:List aE}(h:RO J ρ O H){r:Nat}{o:Ob G}(e:dm O r=some o):∃x∈H,ro J ρ r o x:=by obtain⟨k,x,h1,h2⟩:=h.get e;exact⟨x,List.mem_of_getElem? h1,h2⟩
theorem Rl.MO{c:Cx}{N:Nat}{H2 HK X:List aE}{y:Ly G}{C:CC G}{S:AS G}{a:Act}{w:World}(h:Rl c N ρ J (H2++HK) X (y::C) S a w)(hy:RO J ρ y.O H2)(hk:∀r o,dm (my C) r=some o->∃x∈HK,ro J ρ r o x)(hn:yC (my C)=true->c.ro=none):Rl c N ρ J HK X C (MO y S) a w:=by
 obtain⟨HS,q1,q3⟩:=h.hp;refine⟨h.tm,?_,⟨h.si.s,hn⟩,λd v e=>?_,λz hz=>h.fc z (akp _ hz),hk,⟨HS++H2,q1.app hy,by simpa using q3⟩,h.kn,h.fr⟩
 ·have:=h.df
  show DR J ρ ((S.D++y.D)++dfC C) a.defers;rw[List.append_assoc];exact this
 ·have e:dm (S.F++y.F) d=some v:=e
  rw[kR]at e;split at e
  ·rename_i v' hv;cases e;exact h.fs d _ hv
  ·exact h.fc y List.mem_cons_self d v e
theorem Rl.push{c:Cx}{N:Nat}{HK X:List aE}{C:CC G}{S:AS G}{a:Act}{w:World}(p q:Nat->Bool)(h:Rl c N ρ J HK X C S a w):∃H2,RO J ρ (bK (λr=> !q r) S.O) H2/\Rl c N ρ J (H2++HK) X (⟨jM (λd=> !p d) S.F,bK (λr=> !q r) S.O,S.D⟩::C) ⟨jM p S.F,bK q S.O,S.nx,[]⟩ a w:=by
 obtain⟨HS,q1,q3⟩:=h.hp;obtain⟨H1,H2,k1,k2,k3⟩:=q1.YS (p:=q);refine⟨H2,k2,h.tm,h.df,⟨h.si.s,λq=>h.si.n (Dk q)⟩,h.fs.YS,λz hz=>?_,λr o e=>?_,⟨H1,k1,?_⟩,h.kn,h.fr⟩
 ·rcases List.mem_cons.1 hz with rfl|hz
  ·exact h.fs.YS
  ·exact h.fc z hz
 ·have e:dm (bK (λr=> !q r) S.O++my C) r=some o:=e
  rw[kR]at e;split at e
  ·rename_i v' hv
   cases e;obtain⟨x,h1,h2⟩:=k2.lk hv;exact⟨x,akk _ h1,h2⟩
  ·obtain⟨x,h1,h2⟩:=h.kc r o e
   exact⟨x,akj _ h1,h2⟩
 ·refine q3.j9 ?_
  have:=List.Perm.append_right (HK++X) k3;simpa using this
end Go.Rw
namespace Go.Rw
open Go Go.Bw Go.RowKit
variable {G:Sg} {P:Program} {J J':World->Prop} {ρ ρ' σ:bh}
def sb(r:Nat)(t:Ty)(xs:List (t.T G)):AV G->AV G
 | .row q=>bif Nat.beq q r then .dat (.sl t) xs else .row q
 | .fn k a c=> .fn k (sb r t xs a) (sb r t xs c)
 | .st a=> .st (sb r t xs a)
 | .jc a=> .jc (sb r t xs a)
 | .iQ k v=> .iQ k (sb r t xs v)
 | .gd j w v=> .gd j w (sb r t xs v)
 | .cons a b=> .cons (sb r t xs a) (sb r t xs b)
 | .part w a b=> .part w (sb r t xs a) (sb r t xs b)
 |v=>v
def sbF(r:Nat)(t:Ty)(xs:List (t.T G)):Fr G->Fr G
 |[]=>[]
 |(k,v)::q=>(k,sb r t xs v)::sbF r t xs q
def sbB(r:Nat)(t:Ty)(xs:List (t.T G)):Ob G->Ob G
 | .cI T c=> .cI T (sb r t xs c)
 |o=>o
def sbO(r:Nat)(t:Ty)(xs:List (t.T G)):Os G->Os G
 |[]=>[]
 |(k,o)::q=>(k,sbB r t xs o)::sbO r t xs q
def sbD(r:Nat)(t:Ty)(xs:List (t.T G)):List (AV G)->List (AV G)
 |[]=>[]
 |v::q=>sb r t xs v::sbD r t xs q
def PF(r:Nat)(S:AS G):AS G:=match dm S.O r with
 |some (.row _ _ t xs)=>⟨sbF r t xs S.F,sbO r t xs (xH S.O r),S.nx,sbD r t xs S.D⟩
 |_ =>S
def zK:List Nat->AS G->AS G
 |[],S=>S
 |r::q,S=>zK q (PF r S)
def xK(O:Os G):Sh->AV G->List Nat
 | .v _, .row r=>[r]
 | .box _ s, .ptr r []=>match dm O r with
  |some (.cI _ c)=>xK O s c
  |_ =>[]
 | .fn _ a c, .fn _ x y=>xK O a x++xK O c y
 | .jc a, .jc x=>xK O a x
 | .st a, .st x=>xK O a x
 | .iQ _ a, .iQ _ x=>xK O a x
 | .cons a b, .cons x y=>xK O a x++xK O b y
 | .part _ a b, .part _ x y=>xK O a x++xK O b y
 |_,_ =>[]
section
variable {r:Nat} {t:Ty} {xs:List (t.T G)}
theorem Km(hr:∀u,ρ r=some u->xm J (.sl t) xs u):∀{v:AV G} {l:List Value},rl J ρ v l->rl J ρ (sb r t xs v) l:=by
 intro v
 induction v with
 |row q=>
  intro l h;unfold sb;cases hb:Nat.beq q r with
  |false=>exact h
  |true=>obtain rfl:=akf hb;obtain⟨a,n,cap,h1,h2⟩:=h;exact⟨_,h2,hr _ h1⟩
 |fn f a c mz AX=>intro l h;obtain⟨fs,cs,e,h1,h2⟩:=h;exact⟨fs,cs,e,mz h1,AX h2⟩
 |st a ih=>intro l h;obtain⟨cs,e,h1,h2⟩:=h;exact⟨cs,e,ih h1,h2⟩
 |jc a ih=>intro l h;obtain⟨vs,e,h1⟩:=h;exact⟨vs,e,ih h1⟩
 |iQ t v ih=>intro l h;obtain⟨u,e,h1⟩:=h;exact⟨u,e,ih h1⟩
 |cons a b mz sB=>intro l h;obtain⟨u,r,e,h1,h2⟩:=h;exact⟨u,r,e,mz h1,sB h2⟩
 |part w a b mz sB=>intro l h;obtain⟨c1,c2,u,e,h1,h2,h3,h4⟩:=h;exact⟨c1,c2,u,e,h1,mz h2,h3,sB h4⟩
 |_ =>intro l h;exact h
theorem af8(hr:∀u,ρ r=some u->xm J (.sl t) xs u){tm:Array Value}{v:AV G}{u:Value}(h:rf J ρ tm v u):rf J ρ tm (sb r t xs v) u:=by
 have key:∀{v:AV G},rv J ρ v u->rf J ρ tm (sb r t xs v) u:=λ{v} hv=>by
  have h2:=Km (xs:=xs) hr hv;revert h2;generalize sb r t xs v=y;intro h2;cases y with
  |gd j w v=>exact h2.elim
  |_ =>exact h2
 cases v with
 |gd j w v=>exact⟨λe=>Km hr (h.1 e),h.2⟩
 |_ =>exact key h
theorem aiK(hr:∀u,ρ r=some u->xm J (.sl t) xs u){tm:Array Value}:∀{F:Fr G},qj J ρ F tm->qj J ρ (sbF r t xs F) tm:=by
 intro F;have key:∀{F:Fr G} {d:Nat} {v:AV G},dm (sbF r t xs F) d=some v->∃v0,dm F d=some v0/\v=sb r t xs v0:=by
  intro F
  induction F with
  |nil=>intro d v e;cases e
  |cons p q ih=>
   obtain⟨k,v0⟩:=p;intro d v e;simp only[sbF,dm]at e ⊢;cases hb:Nat.beq k d with
   |true=>rw[hb]at e;cases e;exact⟨_,rfl,rfl⟩
   |false=>rw[hb]at e;exact ih e
 intro h d v e;obtain⟨v0,h1,rfl⟩:=key e;obtain⟨u,h2,h3⟩:=h d v0 h1;exact⟨u,h2,af8 hr h3⟩
theorem aiJ(hr:∀u,ρ r=some u->xm J (.sl t) xs u){O:Os G}{H:List aE}(h:RO J ρ O H):RO J ρ (sbO r t xs O) H:=by
 induction h with
 |nil=>exact .nil
 |@cons k o x O H h _ ih=>
  refine .cons ?_ ih;cases o with
  |cI T c=>obtain⟨b,u,h1,h2,h3⟩:=h;exact⟨b,u,h1,h2,Km hr h3⟩
  |row _ _ _ _ =>exact h
  |aux _ =>exact h
  |gm=>exact⟨h.1,h.2⟩
  |fm _ _ _ =>exact h
  |lp _ _ _ _ _ _ =>exact h
theorem aiL(hr:∀u,ρ r=some u->xm J (.sl t) xs u){l m:List (AV G)}{D:List Deferred}(h:DR J ρ (l++m) D):DR J ρ (sbD r t xs l++m) D:=by
 induction l generalizing D with
 |nil=>exact h
 |cons v q ih=>
  cases h with
  |cons h k=>
   refine .cons ?_ (ih k);unfold dr at h;split at h
   ·obtain⟨fs,cs,ls,k1,k2,k3,k4⟩:=h
    exact⟨fs,cs,ls,Km hr k1,Km hr k2,Km hr k3,k4⟩
   ·exact h
   ·exact h.elim
end
theorem Rl.PF{c:Cx}{N:Nat}{HK X:List aE}{C:CC G}{S:AS G}{a:Act}{w:World}(r:Nat)(h:Rl c N ρ J HK X C S a w):∃(J':World->Prop) (Y:List aE),(∀w,J' w->J w)/\Rl c N ρ J' HK (Y++X) C (PF r S) a w:=by
 unfold Go.Rw.PF;split
 ·rename_i e sz t xs ho
  obtain⟨HS,q1,q3⟩:=h.hp;obtain⟨k,x,k1,⟨v,ws,m1,rfl,m3,m4,m5⟩,k3⟩:=q1.del ho;let x:aE:= .row v e sz xs.length ws;let J':World->Prop:=λw=>J w/\Hs [x] w;have mJ:∀w,J' w->J w:=λw h=>h.1;have hr:∀u,ρ r=some u->xm J' (.sl t) xs u:=λu hu=>by rw[m1]at hu;cases hu;have hc:v.cells.toList=[v]:=m3.cells;refine⟨⟨v,ws,hc,m3,cZ.mono _ mJ m4,λw hw=>?_⟩,nofun,λ_ =>by rw[← hc]⟩;have:=Ro.vR (hw.2 x (by simp)).1;rw[m5];exact this
  have hle:=bh.le_refl ρ;have hxm:x∈HS:=List.mem_of_getElem? k1;have hxH:x∈HS++(HK++X):=akk _ hxm;obtain⟨q,hq1,L8,hq3⟩:=h.kn.one (q3.holds x hxH) λb hb=>(q3.own x hxH b hb).2;refine⟨J',[q],mJ,h.tm,aiL hr (h.df.up mJ hle),h.si,aiK hr (h.fs.up mJ hle),h.fc.up mJ hle,h.Oo mJ hle,⟨HS.eraseIdx k,aiJ hr (k3.up mJ hle),?_⟩,hq3,h.fr⟩;have q4:=(q3.j9 (pP k1 _)).set (k:=0) (r':=q) rfl (Nat.le_refl _) (λ_ _ _ =>rfl) hq1 h.si.s.size (λb hb=>by
   rw[L8]at hb;exact⟨.inl hb,(q3.own x hxH b hb).2⟩)
  refine bH.j9 q4 ?_;have e1:HK++([q]++X)=HK++(q::X):=rfl;rw[e1];refine List.Perm.trans ?_ (List.Perm.append_left _ (List.perm_middle (a:=q) (l₁:=HK) (l₂:=X)).symm);exact(List.perm_middle (a:=q) (l₁:=HS.eraseIdx k) (l₂:=HK++X)).symm
 ·exact⟨J,[],λ_ h=>h,h⟩
theorem Rl.zK{c:Cx}{N:Nat}{HK:List aE}{C:CC G}{a:Act}{w:World}:∀(l:List Nat) {J:World->Prop} {X:List aE} {S:AS G},Rl c N ρ J HK X C S a w->∃(J':World->Prop) (Y:List aE),(∀w,J' w->J w)/\Rl c N ρ J' HK (Y++X) C (zK l S) a w:=by
 intro l
 induction l with
 |nil=>intro J X S h;exact⟨J,[],λ_ h=>h,h⟩
 |cons r q ih=>intro J X S h;obtain⟨J1,Y1,m1,h1⟩:=h.PF r;obtain⟨J2,Y2,m2,h2⟩:=ih h1;exact⟨J2,Y2++Y1,λw h=>m1 w (m2 w h),by rw[List.append_assoc];exact h2⟩
theorem xy:∀(l:List Nat) (S:AS G),(zK l S).nx=S.nx:=by
 intro l
 induction l with
 |nil=>intro S;rfl
 |cons r q ih=>intro S;show(zK q (Go.Rw.PF r S)).nx=_;rw[ih];unfold Go.Rw.PF;split<;>rfl
def Co(cP:Sh)(nm:List (Option Nat))(y:HL G (aL cP))(ρ:bh)(J:World->Prop)(H HK X:List aE)(w:World)(u:Value)(w':World):Prop:=∃(σ:bh) (J':World->Prop) (Y Uj:List aE) (us:List Value),(∀w,J' w->J w)/\rl J' σ (fQ (λm=>m) cP y 0).1 (u::us)/\RO J' σ (fQ (λm=>m) cP y 0).2.1 Uj/\ bH (bF H) w.heap.size (Uj++(HK++(Y++X))) w'/\aQ (bF H) w w'/\Uh G (Y++X) J'/\(∀i j:Nat,nm[i]? =some (some j)->σ i=ρ j)/\σ.fr nm.length
structure Fs where
 k:Nat
 Nb:List (Nat×Sh)
 vS:Sh
 cP:Sh
 nm:List (Option Nat)
 gR:Sh
 VU:List (Option Nat)
 bi:List (List Nat)
def QK:List (Nat×Sh)->Sh
 |[]=> .nil
 |(T,s)::r=> .cons (.box T s) (QK r)
abbrev HI(G:Sg)(s:Fs):=HL G (aL (QK s.Nb)++aL s.vS)
def Fs.rx(s:Fs)(x:HI G s):HL G (aL (QK s.Nb)):=HL.fst x
def Fs.ix(s:Fs)(x:HI G s):HL G (aL s.vS):=HL.snd (a:=aL (QK s.Nb)) x
def Fs.ro(s:Fs)(x:HI G s):Os G:=(fQ (λm=>m) (QK s.Nb) (s.rx x) 0).2.1
def Fs.bl(s:Fs)(x:HI G s):AV G×Os G×Nat:=fQ (λm=>m) s.vS (s.ix x) (fQ (λm=>m) (QK s.Nb) (s.rx x) 0).2.2
def Qu(P:Program)(s:Fs)(R:HI G s->HL G (aL s.cP)->Prop)(Rp:HI G s->HL G (aL s.gR)->Prop):Prop:=∀(ρ:bh) (J:World->Prop) (HS HK X:List aE) (w:World) (vs:List Value) (x:HI G s),rl J ρ (s.bl x).1 vs->RO J ρ (s.bl x).2.1 HS->(∀r o,dm (s.ro x) r=some o->∃y∈HK,ro J ρ r o y)-> bH (bF (HS++(HK++X))) w.heap.size (HS++(HK++X)) w->Uh G X J->ρ.fr (s.bl x).2.2-> (∀y,R x y->Calls P s.k vs.toArray w λen w'=>∃u,en= .returned u/\Co s.cP s.nm y ρ J (HS++(HK++X)) HK X w u w')/\ (∀y,Rp x y->Calls P s.k vs.toArray w λen w'=>∃u,en= .panicked [{v:=u,recovered:=false}]/\Co s.gR s.VU y ρ J (HS++(HK++X)) HK X w u w')
structure Ct(P:Program)(G:Sg) where
 s:Fs
 R:HI G s->HL G (aL s.cP)->Prop
 Rp:HI G s->HL G (aL s.gR)->Prop
 cp:{Z:Type}->HI G s->(HL G (aL s.cP)->Option Z)->(HL G (aL s.gR)->Option Z)->Option Z
 cg:{Z:Type}->Bool->HI G s->(HL G (aL s.cP)->Option Z)->Option Z
 cps:∀{Z:Type} (x:HI G s) (ko:HL G (aL s.cP)->Option Z) (kp:HL G (aL s.gR)->Option Z) (z:Z),cp x ko kp=some z->(∃y,R x y/\ko y=some z)\/(∃y,Rp x y/\kp y=some z)
 cgs:∀{Z:Type} (g:Bool) (x:HI G s) (k:HL G (aL s.cP)->Option Z) (z:Z),cg g x k=some z->∃y,(g=true->R x y)/\k y=some z
 fn:∃f,P.funcs[s.k]? =some f/\f.body.isSome=true/\(f.name== "runtime.NumGoroutine")=false
 ok:Qu P s R Rp
def GZ(b:Bool):Sh->Bool
 | .row _ _ _ =>false
 | .box _ _ =>false
 | .bS _ =>b
 | .fn _ a c=>GZ b a&&GZ b c
 | .jc a=>GZ b a
 | .st a=>GZ b a
 | .iQ _ a=>GZ b a
 | .cons a c=>GZ b a&&GZ b c
 | .part _ a c=>GZ b a&&GZ b c
 |_ =>true
theorem aay{bb:Bool}:∀{s:Sh} {v:AV G} {g g':GS G} {x:HL G (aL s)},GZ bb s=true->nW s v g=some (x,g')->g'=g:=by
 intro s
 induction s with
 |v t=>intro v g g' x _ h;obtain⟨y,_,_,e⟩:=Xa h;exact e
 |unk n=>intro v g g' x _ h;exact(Mj h).1
 |row e sz t=>intro v g g' x hn;cases hn
 |box T s _ =>intro v g g' x hn;cases hn
 |bS i=>
  intro v g g' x _ h;cases v<;>unfold nW at h<;>(try dsimp only at h)<;>try (cases h;done)
  case ptr r p=>
   cases p with
   |cons _ _ =>simp at h
   |nil=>
    simp only at h;split at h
    ·rename_i r' ht
     cases hb:Nat.beq r r' with
     |false=>rw[hb]at h;cases h
     |true=>rw[hb]at h;exact(bV h).2.symm
    ·cases h
 |fn f a c mz AX=>
  intro v g g' x hn h;simp only[GZ,akg]at hn;cases v<;>unfold nW at h<;>(try dsimp only at h)<;>try (cases h;done)
  case fn f' y z=>
   cases hb:zM f f' with
   |false=>rw[hb]at h;cases h
   |true=>
    rw[hb]at h;simp only[cond_true]at h;split at h
    ·rename_i p g1 h1
     split at h
     ·rename_i q g2 h2
      obtain⟨_,rfl⟩:=bV h;rw[AX hn.2 h2,mz hn.1 h1]
     ·cases h
    ·cases h
 |cons a b mz sB=>
  intro v g g' x hn h;simp only[GZ,akg]at hn;cases v<;>unfold nW at h<;>(try dsimp only at h)<;>try (cases h;done)
  case cons y z=>
   split at h
   ·rename_i p g1 h1
    split at h
    ·rename_i q g2 h2
     obtain⟨_,rfl⟩:=bV h;rw[sB hn.2 h2,mz hn.1 h1]
    ·cases h
   ·cases h
 |part w a b mz sB=>
  intro v g g' x hn h;simp only[GZ,akg]at hn;cases v<;>unfold nW at h<;>(try dsimp only at h)<;>try (cases h;done)
  case part w' y z=>
   cases hb:Nat.beq w w' with
   |false=>rw[hb]at h;cases h
   |true=>
    rw[hb]at h;simp only[cond_true]at h;split at h
    ·rename_i p g1 h1
     split at h
     ·rename_i q g2 h2
      obtain⟨_,rfl⟩:=bV h;rw[sB hn.2 h2,mz hn.1 h1]
     ·cases h
    ·cases h
 |jc a ih=>
  intro v g g' x hn h;cases v<;>unfold nW at h<;>(try dsimp only at h)<;>try (cases h;done)
  exact ih hn h
 |st a ih=>
  intro v g g' x hn h;cases v<;>unfold nW at h<;>(try dsimp only at h)<;>try (cases h;done)
  exact ih hn h
 |iQ t a ih=>
  intro v g g' x hn h;cases v<;>unfold nW at h<;>(try dsimp only at h)<;>try (cases h;done)
  case iQ t' y=>
   cases hb:Nat.beq t t' with
   |false=>rw[hb]at h;cases h
   |true=>rw[hb]at h;exact ih hn h
 |_ =>
  intro v g g' x hn h;cases v<;>unfold nW at h<;>(try dsimp only at h)<;>try (cases h;done)
  exact(bV h).2.symm
theorem aaV{f:Nat->Nat}:∀{s:Sh},GZ false s=true->∀(x:HL G (aL s)) (m:Nat),(fQ f s x m).1=(fQ (λm=>m) s x m).1/\(fQ f s x m).2.1=[]:=by
 intro s
 induction s with
 |v t=>intro _ x m;exact⟨rfl,rfl⟩
 |row e sz t=>intro h;cases h
 |box T s _ =>intro h;cases h
 |bS i=>intro h;cases h
 |fn k a c mz AX=>intro h x m;simp only[GZ,akg]at h;obtain⟨a1,a2⟩:=mz h.1 (HL.fst x) m;have e3:=(DI (G:=G) (f:=f) (s:=a) (x:=HL.fst x) (m:=m)).2.2;obtain⟨b1,b2⟩:=AX h.2 (HL.snd x) (fQ (λm=>m) a (HL.fst x) m).2.2;simp only[fQ,e3,a1,a2,b1,b2,List.append_nil];exact⟨trivial,trivial⟩
 |cons a c mz AX=>intro h x m;simp only[GZ,akg]at h;obtain⟨a1,a2⟩:=mz h.1 (HL.fst x) m;have e3:=(DI (G:=G) (f:=f) (s:=a) (x:=HL.fst x) (m:=m)).2.2;obtain⟨b1,b2⟩:=AX h.2 (HL.snd x) (fQ (λm=>m) a (HL.fst x) m).2.2;simp only[fQ,e3,a1,a2,b1,b2,List.append_nil];exact⟨trivial,trivial⟩
 |part w a c mz AX=>intro h x m;simp only[GZ,akg]at h;obtain⟨a1,a2⟩:=mz h.1 (HL.fst x) m;have e3:=(DI (G:=G) (f:=f) (s:=a) (x:=HL.fst x) (m:=m)).2.2;obtain⟨b1,b2⟩:=AX h.2 (HL.snd x) (fQ (λm=>m) a (HL.fst x) m).2.2;simp only[fQ,e3,a1,a2,b1,b2,List.append_nil];exact⟨trivial,trivial⟩
 |jc a ih=>intro h x m;obtain⟨a1,a2⟩:=ih h x m;simp only[fQ,a1,a2];exact⟨trivial,trivial⟩
 |st a ih=>intro h x m;obtain⟨a1,a2⟩:=ih h x m;simp only[fQ,a1,a2];exact⟨trivial,trivial⟩
 |iQ t a ih=>intro h x m;obtain⟨a1,a2⟩:=ih h x m;simp only[fQ,a1,a2];exact⟨trivial,trivial⟩
 |_ =>intro _ x m;exact⟨rfl,rfl⟩
def o8(ob:Os G):(s:Sh)->AV G->List Nat->Option (HL G (aL s)×List Nat)
 | .v t,v,th=>match BQ t v with
  |some x=>some ((x,()),th)
  |none=>none
 | .row e sz t,v,th=>match v with
  | .row r=>match dm ob r with
   |some (.row e' sz' t' xs)=>bif Nat.beq e e'&&Nat.beq sz sz' then(if h:t'.bS t=true then some ((Ty.vN h▸xs,()),th++[r])else none)else none
   |_ =>none
  |_ =>none
 | .box T s,v,th=>match v with
  | .ptr r []=>match dm ob r with
   |some (.cI T' c)=>bif Nat.beq T T' then o8 ob s c (th++[r])else none
   |_ =>none
  |_ =>none
 | .bS i,v,th=>match v with
  | .ptr r []=>match th[i]? with
   |some r'=>bif Nat.beq r r' then some ((),th)else none
   |none=>none
  |_ =>none
 | .unk _,_,_ =>none
 | .s8,v,th=>match v with
  | .s8=>some ((),th)
  |_ =>none
 | .kz,v,th=>match v with
  | .kz=>some ((),th)
  |_ =>none
 | .Dl,v,th=>match v with
  | .Dl=>some ((),th)
  |_ =>none
 | .nn,v,th=>match v with
  | .nn=>some ((),th)
  |_ =>none
 | .Gk,v,th=>match v with
  | .Gk=>some ((),th)
  |_ =>none
 | .fn f a c,v,th=>match v with
  | .fn f' x y=>bif zM f f' then(match o8 ob a x th with
   |some (p,g')=>match o8 ob c y g' with
    |some (q,Xe)=>some (HL.app p q,Xe)
    |none=>none
   |none=>none)else none
  |_ =>none
 | .jc a,v,th=>match v with
  | .jc x=>o8 ob a x th
  |_ =>none
 | .st a,v,th=>match v with
  | .st x=>o8 ob a x th
  |_ =>none
 | .iQ t a,v,th=>match v with
  | .iQ t' x=>bif Nat.beq t t' then o8 ob a x th else none
  |_ =>none
 | .nil,v,th=>match v with
  | .nil=>some ((),th)
  |_ =>none
 | .cons a b,v,th=>match v with
  | .cons x y=>match o8 ob a x th with
   |some (p,g')=>match o8 ob b y g' with
    |some (q,Xe)=>some (HL.app p q,Xe)
    |none=>none
   |none=>none
  |_ =>none
 | .part w a b,v,th=>match v with
  | .part w' x y=>bif Nat.beq w w' then(match o8 ob a x th with
   |some (p,g')=>match o8 ob b y g' with
    |some (q,Xe)=>some (HL.app p q,Xe)
    |none=>none
   |none=>none)else none
  |_ =>none
structure afd(J:World->Prop)(ρ:bh)(H:List aE)(s:Sh)(l:List Value)(th zk:List Nat)(x:HL G (aL s)):Prop where
 pre:∃q,zk=th++q
 Jz:(fQ (λm=>m) s x th.length).2.2=zk.length
 val:rl J (cmp ρ zk) (fQ (λm=>m) s x th.length).1 l
 cI:∀r o,dm (fQ (λm=>m) s x th.length).2.1 r=some o->∃y∈H,ro J (cmp ρ zk) r o y
theorem IA{H:List aE}{a b:Sh}{th th1 th2:List Nat}{p:HL G (aL a)}{q:HL G (aL b)}{l1 l2:List Value}(h1:afd J ρ H a l1 th th1 p)(h2:afd J ρ H b l2 th1 th2 q):
  (∃r,th2=th++r)/\(fQ (λm=>m) b q (fQ (λm=>m) a p th.length).2.2).2.2=th2.length/\rl J (cmp ρ th2) (fQ (λm=>m) a p th.length).1 l1/\rl J (cmp ρ th2) (fQ (λm=>m) b q (fQ (λm=>m) a p th.length).2.2).1 l2/\
   ∀r o,dm ((fQ (λm=>m) a p th.length).2.1++(fQ (λm=>m) b q (fQ (λm=>m) a p th.length).2.2).2.1) r=some o->∃y∈H,ro J (cmp ρ th2) r o y:=by
 have hle:=Qa (bh.le_refl ρ) h2.pre;rw[h1.Jz];refine⟨?_,h2.Jz,h1.val.ext hle,h2.val,λr o e=>?_⟩
 ·obtain⟨r1,e1⟩:=h1.pre
  obtain⟨r2,e2⟩:=h2.pre;exact⟨r1++r2,by rw[e2,e1,List.append_assoc]⟩
 ·rw[kR]at e
  split at e
  ·rename_i o' he
   cases e;obtain⟨y,y1,y2⟩:=h1.cI _ _ he;exact⟨y,y1,y2.up (λ_ h=>h) hle⟩
  ·exact h2.cI _ _ e
theorem aaz{H:List aE}{ob:Os G}(hO:∀r o,dm ob r=some o->∃y∈H,ro J ρ r o y):∀{s:Sh} {v:AV G} {l:List Value} {th zk:List Nat} {x:HL G (aL s)},o8 ob s v th=some (x,zk)->rl J ρ v l->afd J ρ H s l th zk x:=by
 intro s
 induction s with
 |v t=>
  intro v l th zk x h hv;unfold o8 at h;cases hy:BQ t v with
  |none=>rw[hy]at h;cases h
  |some y=>rw[hy]at h;obtain⟨rfl,rfl⟩:=bV h;obtain⟨u,rfl⟩:=UM hy hv;refine⟨⟨[],by simp⟩,rfl,?_,λr o e=>by cases e⟩;exact Kr (Ar hy hv)
 |row e sz t=>
  intro v l th zk x h hv;cases v<;>unfold o8 at h<;>(try dsimp only at h)<;>try (cases h;done)
  case row r=>
   split at h
   ·rename_i e' sz' t' xs ho
    cases hb:(Nat.beq e e'&&Nat.beq sz sz')with
    |false=>rw[hb]at h;cases h
    |true=>
     rw[hb]at h;simp only[cond_true]at h;by_cases hs:t'.bS t=true
     ·rw[dif_pos hs]at h
      obtain⟨e1,rfl⟩:=bV h;simp only[akg]at hb;obtain rfl:=akf hb.1;obtain rfl:=akf hb.2;have:=Ty.vN hs;subst this;subst e1;obtain⟨y,y1,vv,ws,e1,e2,e3,e4,e5⟩:=hO _ _ ho;refine⟨⟨[r],rfl⟩,by simp[fQ],?_,λr' o' he=>?_⟩
      ·obtain⟨a0,n,cap,q1,q2⟩:=hv
       exact⟨a0,n,cap,Az.trans q1,q2⟩
      ·simp only[fQ,dm]at he
       cases KV:Nat.beq th.length r' with
       |false=>rw[KV]at he;cases he
       |true=>rw[KV]at he;cases he;obtain rfl:=akf KV;exact⟨y,y1,vv,ws,Az.trans e1,e2,e3,e4,e5⟩
     ·rw[dif_neg hs]at h;cases h
   ·cases h
 |box T s ih=>
  intro v l th zk x h hv;cases v<;>unfold o8 at h<;>(try dsimp only at h)<;>try (cases h;done)
  case ptr r p=>
   cases p with
   |cons _ _ =>simp at h
   |nil=>
    simp only at h;split at h
    ·rename_i T' cc ho
     cases hb:Nat.beq T T' with
     |false=>rw[hb]at h;cases h
     |true=>
      rw[hb]at h;obtain rfl:=akf hb;obtain⟨y,y1,b,u,m1,rfl,m3⟩:=hO _ _ ho;have i1:=ih h m3;have hth:zk[th.length]? =some r:=by obtain⟨q,e⟩:=i1.pre;rw[e];simp
      have PD:cmp ρ zk th.length=some (dO b 0):=by unfold cmp;rw[hth];exact m1
      have e1:(th++[r]).length=th.length+1:=by simp
      have i2:=i1.Jz;have i3:=i1.val;have i4:=i1.cI;rw[e1]at i2 i3 i4;refine⟨?_,i2,?_,λr' o' he=>?_⟩
      ·obtain⟨q,e⟩:=i1.pre
       exact⟨r::q,by rw[e];simp⟩
      ·obtain⟨⟨b',o',q1,q2⟩,_⟩:=hv
       refine⟨⟨b,0, .inl PD,?_⟩,by simp⟩;rcases q1 with q1|⟨_,_,_,_,_,_,_,q1,_⟩
       ·rw[q1]at m1
        simp[dO]at m1;rw[q2,m1.1,m1.2]
       ·cases q1
      ·have he:dm ((th.length,Ob.cI T (fQ (λm=>m) s x (th.length+1)).1)::(fQ (λm=>m) s x (th.length+1)).2.1) r'=some o':=he
       simp only[dm]at he;cases KV:Nat.beq th.length r' with
       |false=>rw[KV]at he;exact i4 _ _ he
       |true=>rw[KV]at he;cases he;obtain rfl:=akf KV;exact⟨_,y1,b,u,PD,rfl,i3⟩
    ·cases h
 |unk n=>intro v l th zk x h hv;unfold o8 at h;cases h
 |bS i=>
  intro v l th zk x h hv;cases v<;>unfold o8 at h<;>(try dsimp only at h)<;>try (cases h;done)
  case ptr r p=>
   cases p with
   |cons _ _ =>simp at h
   |nil=>
    simp only at h;split at h
    ·rename_i r' ht
     cases hb:Nat.beq r r' with
     |false=>rw[hb]at h;cases h
     |true=>
      rw[hb]at h;obtain⟨rfl,rfl⟩:=bV h;obtain rfl:=akf hb;refine⟨⟨[],by simp⟩,rfl,?_,λr o e=>by cases e⟩;obtain⟨⟨b',o',q1,q2⟩,q3⟩:=hv;refine⟨⟨b',o',?_,q2⟩,q3⟩;rcases q1 with q1|⟨_,_,_,_,_,_,_,q1,_⟩
      ·refine .inl ?_
       unfold cmp;rw[ht];exact q1
      ·cases q1
    ·cases h
 |fn f a c mz AX=>
  intro v l th zk x h hv;cases v<;>unfold o8 at h<;>(try dsimp only at h)<;>try (cases h;done)
  case fn f' y z=>
   cases hb:zM f f' with
   |false=>rw[hb]at h;cases h
   |true=>
    rw[hb]at h;simp only[cond_true]at h;obtain rfl:=NH hb;split at h
    ·rename_i p g1 h1
     split at h
     ·rename_i q g2 h2
      obtain⟨rfl,rfl⟩:=bV h;obtain⟨fs,cs,e,r1,r2⟩:=hv;obtain⟨k1,k2,k3,k4,k5⟩:=IA (b:=c) (q:=q) (mz h1 r1) (AX h2 r2);refine⟨k1,?_,?_,?_⟩<;>simp only[fQ,HL.xx,HL.xk]
      ·exact k2
      ·exact⟨fs,cs,e,k3,k4⟩
      ·exact k5
     ·cases h
    ·cases h
 |cons a b mz sB=>
  intro v l th zk x h hv;cases v<;>unfold o8 at h<;>(try dsimp only at h)<;>try (cases h;done)
  case cons y z=>
   split at h
   ·rename_i p g1 h1
    split at h
    ·rename_i q g2 h2
     obtain⟨rfl,rfl⟩:=bV h;obtain⟨u,r,e,r1,r2⟩:=hv;obtain⟨k1,k2,k3,k4,k5⟩:=IA (b:=b) (q:=q) (mz h1 r1) (sB h2 r2);refine⟨k1,?_,?_,?_⟩<;>simp only[fQ,HL.xx,HL.xk]
     ·exact k2
     ·exact⟨u,r,e,k3,k4⟩
     ·exact k5
    ·cases h
   ·cases h
 |part w a b mz sB=>
  intro v l th zk x h hv;cases v<;>unfold o8 at h<;>(try dsimp only at h)<;>try (cases h;done)
  case part w' y z=>
   cases hb:Nat.beq w w' with
   |false=>rw[hb]at h;cases h
   |true=>
    rw[hb]at h;simp only[cond_true]at h;obtain rfl:=akf hb;split at h
    ·rename_i p g1 h1
     split at h
     ·rename_i q g2 h2
      obtain⟨rfl,rfl⟩:=bV h;obtain⟨c1,c2,u,e,r0,r1,r3,r2⟩:=hv;obtain⟨k1,k2,k3,k4,k5⟩:=IA (b:=b) (q:=q) (mz h1 r1) (sB h2 r2);refine⟨k1,?_,?_,?_⟩<;>simp only[fQ,HL.xx,HL.xk]
      ·exact k2
      ·exact⟨c1,c2,u,e,r0,k3,r3,k4⟩
      ·exact k5
     ·cases h
    ·cases h
 |jc a ih=>
  intro v l th zk x h hv;cases v<;>unfold o8 at h<;>(try dsimp only at h)<;>try (cases h;done)
  obtain⟨vs,e,r1⟩:=hv;have k:=ih h r1;exact⟨k.pre,k.Jz,⟨vs,e,k.val⟩,k.cI⟩
 |st a ih=>
  intro v l th zk x h hv;cases v<;>unfold o8 at h<;>(try dsimp only at h)<;>try (cases h;done)
  obtain⟨cs,e,r1,r2⟩:=hv;have k:=ih h r1;exact⟨k.pre,k.Jz,⟨cs,e,k.val,r2⟩,k.cI⟩
 |iQ t a ih=>
  intro v l th zk x h hv;cases v<;>unfold o8 at h<;>(try dsimp only at h)<;>try (cases h;done)
  case iQ t' y=>
   cases hb:Nat.beq t t' with
   |false=>rw[hb]at h;cases h
   |true=>rw[hb]at h;obtain rfl:=akf hb;obtain⟨u,e,r1⟩:=hv;have k:=ih h r1;exact⟨k.pre,k.Jz,⟨u,e,k.val⟩,k.cI⟩
 |_ =>
  intro v l th zk x h hv;cases v<;>unfold o8 at h<;>(try dsimp only at h)<;>try (cases h;done)
  obtain⟨rfl,rfl⟩:=bV h;exact⟨⟨[],by simp⟩,rfl,hv,λr o e=>by cases e⟩
def IE(O:Os G)(i:Nat):Sh->AV G->Option Nat
 | .bS j, .ptr r []=>bif Nat.beq i j then some r else none
 | .box _ s, .ptr r []=>match dm O r with
  |some (.cI _ c)=>IE O i s c
  |_ =>none
 | .fn _ a c, .fn _ x y=>match IE O i a x with
  |some r=>some r
  |none=>IE O i c y
 | .jc a, .jc x=>IE O i a x
 | .st a, .st x=>IE O i a x
 | .iQ _ a, .iQ _ x=>IE O i a x
 | .cons a c, .cons x y=>match IE O i a x with
  |some r=>some r
  |none=>IE O i c y
 | .part _ a c, .part _ x y=>match IE O i a x with
  |some r=>some r
  |none=>IE O i c y
 |_,_ =>none
def DE:Sh->Nat
 | .row _ _ _ =>1
 | .box _ s=>DE s+1
 | .fn _ a c=>DE a+DE c
 | .jc a=>DE a
 | .st a=>DE a
 | .iQ _ a=>DE a
 | .cons a b=>DE a+DE b
 | .part _ a b=>DE a+DE b
 |_ =>0
def PJ(O:Os G):List (Nat×Sh)->Nat->Sh->AV G->Option (AV G)
 |[],_,_,_ =>some .nil
 |(T,s)::r,i,sh,v=>match IE O i sh v with
  |some q=>match PJ O r (i+DE s+1) (.cons (.box T s) sh) (.cons (.ptr q []) v)with
   |some l=>some (.cons (.ptr q []) l)
   |none=>none
  |none=>none
def Kq:List Nat->List Nat->Bool
 |[],[]=>true
 |a::r,b::q=>Nat.beq a b&&Kq r q
 |_,_ =>false
theorem Zu:∀{l m:List Nat},Kq l m=true->l=m:=by
 intro l
 induction l with
 |nil=>intro m h;cases m with
  |nil=>rfl
  |cons _ _ =>cases h
 |cons a r ih=>intro m h;cases m with
  |nil=>cases h
  |cons b q=>simp only[Kq,akg]at h;rw[akf h.1,ih h.2]
def HW:AV G->Bool
 | .cons (.ptr _ []) r=>HW r
 | .nil=>true
 |_ =>false
def ET(C:CC G)(O:Os G)(nx:Nat)(s:Fs)(akc:AV G):Option (HI G s×GS G):=match PJ (O++my C) s.Nb 0 s.vS akc with
 |some pv=>match o8 (O++my C) (QK s.Nb) pv []with
  |some (_,th)=>match nW s.vS akc ⟨th,O,nx⟩with
   |some (x,g')=>match o8 (g'.O++my C) (QK s.Nb) pv []with
    |some (y,zk)=>bif Kq th zk then some (HL.app y x,g')else none
    |none=>none
   |none=>none
  |none=>none
 |none=>none
def ahL(C:CC G)(O:Os G)(s:Fs)(akc:AV G):List Nat:=match PJ (O++my C) s.Nb 0 s.vS akc with
 |some pv=>xK O s.vS akc++xK O (QK s.Nb) pv
 |none=>xK O s.vS akc
theorem ZI{H:List aE}{ob:Os G}(hO:∀r o,dm ob r=some o->∃y∈H,ro J ρ r o y):∀{l:List (Nat×Sh)} {v:AV G} {th zk:List Nat} {x:HL G (aL (QK l))},HW v=true->o8 ob (QK l) v th=some (x,zk)->∃us,rl J ρ v us:=by
 intro l
 induction l with
 |nil=>
  intro v th zk x hp h;cases v<;>unfold o8 at h<;>(try dsimp only[QK]at h)<;>try (cases h;done)
  exact⟨[],rfl⟩
 |cons p r ih=>
  obtain⟨T,s⟩:=p;intro v th zk x hp h;change o8 ob (.cons (.box T s) (QK r)) v th=some (x,zk)at h;cases v<;>unfold o8 at h<;>(try dsimp only at h)<;>try (cases h;done)
  case cons a b=>
   split at h
   ·rename_i p g1 h1
    split at h
    ·rename_i q g2 h2
     cases a<;>(try (simp[HW]at hp;done))
     case ptr q0 pp=>
      cases pp with
      |cons _ _ =>simp[HW]at hp
      |nil=>
       obtain⟨us,hus⟩:=ih (by simpa[HW]using hp) h2;unfold o8 at h1;dsimp only at h1;split at h1
       ·rename_i T' c ho
        obtain⟨y,y1,b0,u,m1,_⟩:=hO _ _ ho;exact⟨dO b0 0::us,_,_,rfl,⟨⟨b0,0, .inl m1,rfl⟩,by simp⟩,hus⟩
       ·cases h1
    ·cases h
   ·cases h
theorem ad1{O:Os G}:∀{l:List (Nat×Sh)} {i:Nat} {sh:Sh} {v pv:AV G},PJ O l i sh v=some pv->HW pv=true:=by
 intro l
 induction l with
 |nil=>intro i sh v pv h;cases h;rfl
 |cons p r ih=>
  obtain⟨T,s⟩:=p;intro i sh v pv h;simp only[PJ]at h;split at h
  ·split at h
   ·rename_i l hl;cases h;show HW l=true;exact ih hl
   ·cases h
  ·cases h
theorem aaA{c:Cx}{N:Nat}{HK X:List aE}{C:CC G}{S:AS G}{a:Act}{w:World}{s:Fs}{akc:AV G}{vs:List Value}{x:HI G s}{g':GS G}(hr:Rl c N ρ J HK X C S a w)(hv:rl J ρ akc vs)(h:ET C S.O S.nx s akc=some (x,g')):
  ∃(th:List Nat) (ρ2:bh) (HS HB H':List aE),th.length=(fQ (λm=>m) (QK s.Nb) (s.rx x) 0).2.2/\bH c.bs c.w0.heap.size (HS++(HK++X)) w/\Gat J ρ s.vS vs HS ⟨th,S.O,S.nx⟩ g' (s.ix x) ρ2 HB H'/\nW s.vS akc ⟨th,S.O,S.nx⟩=some (s.ix x,g')/\∀r o,dm (s.ro x) r=some o->∃y∈H'++HK,ro J (cmp ρ2 g'.th) r o y:=by
 unfold ET at h;split at h
 ·rename_i pv hpv
  split at h
  ·rename_i y0 th hg0
   split at h
   ·rename_i xi g1 hg
    split at h
    ·rename_i y zk hg2
     cases hb:Kq th zk with
     |false=>rw[hb]at h;cases h
     |true=>
      rw[hb]at h;obtain⟨e1,rfl⟩:=bV h;subst e1;obtain rfl:=Zu hb;obtain⟨HS,q1,q3⟩:=hr.hp;obtain⟨ρ2,HB,H',k⟩:=Iz hg hv q1 hr.fr;have hle:=k.to.le hr.fr;have hO:∀q o,dm (g1.O++my C) q=some o->∃z∈H'++HK,ro J ρ2 q o z:=λq o e=>by
       rw[kR]at e;split at e
       ·rename_i o' he
        cases e;obtain⟨z,z1,z2⟩:=k.left.lk he;exact⟨z,akk _ z1,z2⟩
       ·obtain⟨z,z1,z2⟩:=hr.kc q o e
        exact⟨z,akj _ z1,z2.up (λ_ h=>h) hle⟩
      obtain⟨us,i2⟩:=ZI hO (ad1 hpv) hg2;have k3:=aaz hO hg2 i2;have exi:s.ix (HL.app y xi)=xi:=HL.xk y xi;have exr:s.rx (HL.app y xi)=y:=HL.xx y xi;have k4:=k3.Jz;have k5:=k3.cI;simp only[List.length_nil]at k4 k5;refine⟨th,ρ2,HS,HB,H',by rw[exr,k4],q3,by rw[exi];exact k,by rw[exi];exact hg,λr o e=>?_⟩;unfold Fs.ro at e;rw[exr]at e;obtain⟨z,z1,z2⟩:=k5 r o e;exact⟨z,z1,z2.up (λ_ h=>h) (Qa (bh.le_refl _) k.pre)⟩
    ·cases h
   ·cases h
  ·cases h
 ·cases h
def MN:Sh->AV G->Nat->AV G×Os G×Nat
 | .row e sz t, .kz,nx=>bif Nat.beq (t.L G).n sz then(.row nx,[(nx, .row e sz t [])],nx+1)else(.kz,[],nx)
 | .st a, .st x,nx=>match MN a x nx with
  |(x',O,m)=>(.st x',O,m)
 | .part _ a b, .part w x y,nx=>match MN a x nx with
  |(x',O,m)=>match MN b y m with
   |(y',O',m')=>(.part w x' y',O++O',m')
 |_,v,nx=>(v,[],nx)
def W2:Sh->AV G->Bool
 | .row _ sz t, .kz=>Nat.beq (t.L G).n sz
 | .st a, .st x=>W2 a x
 | .part _ a b, .part _ x y=>W2 a x||W2 b y
 |_,_ =>false
def OY(q:Nat)(s:Sh)(S:AS G):AS G:=match dm S.O q with
 |some (.cI T c)=>match MN s c S.nx with
  |(c',O',m)=>{S with O:=O'++qm S.O q (.cI T c'),nx:=m}
 |_ =>S
def C7:List (Nat×Sh)->AS G->AS G
 |[],S=>S
 |(q,s)::r,S=>C7 r (OY q s S)
def ZU(O:Os G):List (Nat×Sh)->AV G->List (Nat×Sh)
 |(_,s)::r, .cons (.ptr q []) l=>match dm O q with
  |some (.cI _ c)=>bif W2 s c then(q,s)::ZU O r l else ZU O r l
  |_ =>ZU O r l
 |_,_ =>[]
def agr(C:CC G)(O:Os G)(s:Fs)(akc:AV G):List (Nat×Sh):=match s.Nb with
 |[]=>[]
 |Nb=>match PJ (O++my C) Nb 0 s.vS akc with
  |some pv=>ZU O Nb pv
  |none=>[]
theorem Zi{α β γ:Type}{a a':α}{b b':β}{c c':γ}(h:(a,b,c)=(a',b',c')):a=a'/\b=b'/\c=c':=⟨congrArg (·.1) h,congrArg (·.2.1) h,congrArg (·.2.2) h⟩
theorem acN:∀{s:Sh} {v v':AV G} {nx T7:Nat} {O:Os G} {l:List Value} {ρ:bh},MN s v nx=(v',O,T7)->rl J ρ v l->ρ.fr nx->
  ∃(ρ':bh) (HN:List aE),ρ.to ρ' nx/\ρ'.fr T7/\nx<=T7/\rl J ρ' v' l/\RO J ρ' O HN/\∀R,qp R (HN++R):=by
 have keep:∀{v v':AV G} {nx T7:Nat} {O:Os G} {l:List Value} {ρ:bh},(v,([]:Os G),nx)=(v',O,T7)->rl J ρ v l->ρ.fr nx->∃(ρ':bh) (HN:List aE),ρ.to ρ' nx/\ρ'.fr T7/\nx<=T7/\rl J ρ' v' l/\RO J ρ' O HN/\∀R,qp R (HN++R):=by intro v v' nx T7 O l ρ h hv hf;obtain⟨e1,e2,e3⟩:=Zi h;subst e1 e2 e3;exact⟨ρ,[],bh.ef _ _,hf,Nat.le_refl _,hv, .nil,λR=>qp.refl _⟩
 intro s
 induction s with
 |row e sz t=>
  intro v v' nx T7 O l ρ h hv hf;cases v<;>unfold MN at h<;>(try exact keep h hv hf);cases hb:Nat.beq (t.L G).n sz with
  |false=>rw[hb]at h;exact keep h hv hf
  |true=>
   rw[hb]at h;obtain⟨e1,e2,e3⟩:=Zi h;subst e1 e2 e3;have hv:l=[.slice none 0 0]:=hv;exact⟨ρ.set nx (.slice none 0 0),[.row (.slice none 0 0) e sz 0 []],bh.kL _ _ _,bh.xl hf _,Nat.le_succ _,⟨none,0,0,bh.iN _ _ _,hv⟩,
    .cons ⟨.slice none 0 0,[],bh.iN _ _ _,rfl,⟨_,_,rfl⟩,⟨λ_ =>[],rfl,λi hi=>absurd hi (Nat.not_lt_zero _)⟩,akf hb⟩ .nil,λR bs n0 w hp=>Aw hp⟩
 |st a ih=>
  intro v v' nx T7 O l ρ h hv hf;cases v<;>unfold MN at h<;>(try exact keep h hv hf)
  case st x=>obtain⟨cs,e,h1,h2⟩:=hv;revert h;generalize hq:MN a x nx=q;obtain⟨x',O1,m⟩:=q;intro h;obtain⟨e1,e2,e3⟩:=Zi h;subst e1 e2 e3;obtain⟨ρ',HN,k1,k2,k3,k4,k5,k6⟩:=ih hq h1 hf;exact⟨ρ',HN,k1,k2,k3,⟨cs,e,k4,h2⟩,k5,k6⟩
 |part w a b mz sB=>
  intro v v' nx T7 O l ρ h hv hf;cases v<;>unfold MN at h<;>(try exact keep h hv hf)
  case part w' x y=>obtain⟨c1,c2,u,e,r0,r1,r3,r2⟩:=hv;revert h;generalize hq:MN a x nx=q;obtain⟨x',O1,m⟩:=q;dsimp only;generalize L8:MN b y m=q2;obtain⟨y',O2,m2⟩:=q2;intro h;obtain⟨e1,e2,e3⟩:=Zi h;subst e1 e2 e3;obtain⟨ρ1,H1,k1,k2,k3,k4,k5,k6⟩:=mz hq r1 hf;obtain⟨ρ2,H2,m1,m2,m3,m4,m5,m6⟩:=sB L8 (r2.ext (k1.le hf)) k2;have hle:=m1.le k2;refine⟨ρ2,H1++H2,k1.trans m1 k3,m2,Nat.le_trans k3 m3,⟨c1,c2,u,e,r0,k4.ext hle,r3,m4⟩,(k5.up (λ_ h=>h) hle).app m5,λR=>?_⟩;rw[List.append_assoc];exact(m6 R).trans (k6 (H2++R))
 |_ =>intro v v' nx T7 O l ρ h hv hf;cases v<;>unfold MN at h<;>exact keep h hv hf
theorem RO.aiI{O:Os G}{H:List aE}(h:RO J ρ O H){r:Nat}{o:Ob G}(e:dm O r=some o):∃(k:Nat) (x:aE),H[k]? =some x/\ro J ρ r o x/\∀(ρ':bh) o' x',ρ.le ρ'->ro J ρ' r o' x'->RO J ρ' (qm O r o') (H.set k x'):=by
 induction h with
 |nil=>cases e
 |@cons r0 o0 x0 O H h0 hr ih=>
  simp only[dm]at e;cases hb:Nat.beq r0 r with
  |true=>rw[hb]at e;cases e;obtain rfl:=akf hb;refine⟨0,x0,rfl,h0,λρ' o' x' hle h'=>?_⟩;simp only[qm,hb,cond_true];exact .cons h' (hr.up (λ_ h=>h) hle)
  |false=>rw[hb]at e;obtain⟨k,x,k1,k2,k3⟩:=ih e;refine⟨k+1,x,by simpa using k1,k2,λρ' o' x' hle h'=>?_⟩;simp only[qm,hb,cond_false];exact .cons (h0.up (λ_ h=>h) hle) (k3 ρ' o' x' hle h')
theorem Rl.OY{c:Cx}{N:Nat}{HK X:List aE}{C:CC G}{S:AS G}{a:Act}{w:World}(q:Nat)(s:Sh)(h:Rl c N ρ J HK X C S a w):∃ρ',ρ.to ρ' S.nx/\S.nx<=(Go.Rw.OY q s S).nx/\Rl c N ρ' J HK X C (Go.Rw.OY q s S) a w:=by
 unfold Go.Rw.OY;split
 ·rename_i T cc ho
  generalize hq:MN s cc S.nx=z;obtain⟨c',O',m⟩:=z;dsimp only;obtain⟨HS,q1,q3⟩:=h.hp;obtain⟨k,x,k1,⟨b,u,m1,rfl,m3⟩,aiW⟩:=q1.aiI ho;obtain⟨ρ',HN,r1,r2,r3,r4,r5,r6⟩:=acN hq m3 h.fr;have hle:=r1.le h.fr;refine⟨ρ',r1,r3,h.tm,h.df.up (λ_ h=>h) hle,h.si,h.fs.up (λ_ h=>h) hle,h.fc.up (λ_ h=>h) hle,h.Oo (λ_ h=>h) hle,⟨HN++HS,r5.app ?_,?_⟩,h.kn,r2⟩
  ·have WC:=aiW ρ' (.cI T c') _ hle ⟨b,u,hle _ _ m1,rfl,r4⟩
   have:HS.set k (aE.cells b T u.cells.toList)=HS:=by
    refine List.ext_getElem? λ_=>?_;rw[List.getElem?_set];split
    ·rename_i hi
     subst hi;rw[k1];split
     ·rfl
     ·rename_i hlt;exact absurd (List.getElem?_eq_some_iff.1 k1).1 hlt
    ·rfl
   rwa[this]at WC
  ·rw[List.append_assoc];exact r6 _ _ _ _ q3
 ·exact⟨ρ,bh.ef _ _,Nat.le_refl _,h⟩
theorem Rl.C7{c:Cx}{N:Nat}{HK X:List aE}{C:CC G}{a:Act}{w:World}:∀(l:List (Nat×Sh)) {ρ:bh} {S:AS G},Rl c N ρ J HK X C S a w->∃ρ',ρ.to ρ' S.nx/\S.nx<=(Go.Rw.C7 l S).nx/\Rl c N ρ' J HK X C (Go.Rw.C7 l S) a w:=by
 intro l
 induction l with
 |nil=>intro ρ S h;exact⟨ρ,bh.ef _ _,Nat.le_refl _,h⟩
 |cons p r ih=>obtain⟨q,s⟩:=p;intro ρ S h;obtain⟨ρ1,k1,k2,k3⟩:=h.OY q s;obtain⟨ρ2,m1,m2,m3⟩:=ih k3;exact⟨ρ2,k1.trans m1 k2,Nat.le_trans k2 m2,m3⟩
def Pe(th:List Nat)(base:Nat)(nm:List (Option Nat))(i:Nat):Nat:=match nm[i]? with
 |some (some j)=>match th[j]? with
  |some r=>r
  |none=>base+i
 |_ =>base+i
def YP:AV G->Option (AV G)
 | .cons v _ =>some v
 |_ =>none
def ctS(g':GS G)(cP:Sh)(nm:List (Option Nat))(y:HL G (aL cP))(S:AS G):AS G:={S with O:=(fQ (Pe g'.th g'.nx nm) cP y 0).2.1++g'.O,nx:=g'.nx+nm.length}
theorem Ma{c:Cx}{H H':List aE}{w w':World}(h:bH c.bs c.w0.heap.size H w)(hs:c.w0.heap.size<=w.heap.size)(h':bH (bF H) w.heap.size H' w'):bH c.bs c.w0.heap.size H' w':=
 ⟨h'.holds,λr hr b hb=>by
  obtain⟨o,l⟩:=h'.own r hr b hb;refine⟨?_,l⟩;rcases o with o|o
  ·obtain⟨q,hq,hqb⟩:=bg.1 o
   exact(h.own q hq b hqb).1
  ·exact .inr (Nat.le_trans hs o),h'.apart⟩
theorem RI{c:Cx}{N:Nat}{HK X:List aE}{C:CC G}{S:AS G}{a:Act}{w w':World}{s cP:Sh}{nm:List (Option Nat)}{y:HL G (aL cP)}{x:HL G (aL s)}{us:List Value}{u:Value}{g':GS G}{HS HB H':List aE}{ρ2:bh}{v:AV G}
  (hr:Rl c N ρ J HK X C S a w)(hp:bH c.bs c.w0.heap.size (HB++(H'++(HK++X))) w){th:List Nat}(k:Gat J ρ s us HS ⟨th,S.O,S.nx⟩ g' x ρ2 HB H')(hv:YP (fQ (Pe g'.th g'.nx nm) cP y 0).1=some v)
  (h:Co cP nm y (cmp ρ2 g'.th) J (HB++((H'++HK)++X)) (H'++HK) X w u w'):
  ∃(ρ':bh) (J':World->Prop) (Y:List aE),ρ.to ρ' S.nx/\(∀w,J' w->J w)/\rv J' ρ' v u/\Rl c N ρ' J' HK (Y++X) C (ctS g' cP nm y S) a w':=by
 obtain⟨σ,J',Y,Uj,us',m1,m2,m3,m4,m5,m6,m7,m8⟩:=h;let ρ3:bh:=λr=>if r<g'.nx then ρ2 r else σ (r-g'.nx)
 have NB:ρ2.le ρ3:=λr v e=>by have hlt:r<g'.nx:=k.fr.V2 e;show(if r<g'.nx then ρ2 r else _)=_;rw[akd hlt];exact e
 have hto:ρ.to ρ3 S.nx:=λr hr'=>by have hlt:r<g'.nx:=Nat.lt_of_lt_of_le hr' k.nx;show(if r<g'.nx then ρ2 r else _)=_;rw[akd hlt];exact k.to r hr'
 have hle:=hto.le hr.fr;have hmap:∀i v,σ i=some v->ρ3 (Pe g'.th g'.nx nm i)=some v:=λi v e=>by
  have hi:i<nm.length:=m8.V2 e;obtain⟨o,ho⟩:∃o,nm[i]? =some o:=⟨_,akm hi⟩;have hnew:ρ3 (g'.nx+i)=some v:=by show(if g'.nx+i<g'.nx then _ else σ (g'.nx+i-g'.nx))=_;rw[ake (by omega),Nat.add_sub_cancel_left];exact e
  unfold Pe;rw[ho];cases o with
  |none=>exact hnew
  |some j=>
   dsimp only;have:=m7 i j ho;rw[e]at this;unfold cmp at this;split
   ·rename_i r ht
    rw[ht]at this;exact NB _ _ this.symm
   ·exact hnew
 obtain⟨r1,r2,_⟩:=DI (G:=G) (f:=Pe g'.th g'.nx nm) (s:=cP) (x:=y) (m:=0);have hval:rl J' ρ3 (fQ (Pe g'.th g'.nx nm) cP y 0).1 (u::us'):=by rw[r1];exact HU hmap m2
 have Is:RO J' ρ3 (fQ (Pe g'.th g'.nx nm) cP y 0).2.1 Uj:=by rw[r2];exact QJ hmap m3
 refine⟨ρ3,J',Y,hto,m1,?_,hr.tm,hr.df.up m1 hle,⟨hr.si.s.trans m5 λb hb=>?_,hr.si.n⟩,hr.fs.up m1 hle,hr.fc.up m1 hle,hr.Oo m1 hle,⟨Uj++H',Is.app (k.left.up m1 NB),?_⟩,m6,λr hr'=>?_⟩
 ·revert hv hval
  generalize(fQ (Pe g'.th g'.nx nm) cP y 0).1=b;intro hv hval;cases b<;>simp only[YP,Option.some.injEq,reduceCtorEq]at hv;subst hv;obtain⟨u0,r,e,h1,_⟩:=hval;cases e;exact h1
 ·obtain⟨q,hq,hqb⟩:=bg.1 hb
  exact(hp.own q (by simpa using hq) b hqb).1
 ·have AY:bH c.bs c.w0.heap.size (HB++((H'++HK)++X)) w:=by simpa using hp
  have:=Ma AY hr.si.size m4;simpa using this
 ·show(if r<g'.nx then ρ2 r else σ (r-g'.nx))=none
  have hr':g'.nx+nm.length<=r:=hr';rw[ake (by omega)];exact m8 _ (by omega)
end Go.Rw
namespace Go.Rw
open Go Go.Bw Go.RowKit
variable {G:Sg} {P:Program} {tt:TT P G} {J J':World->Prop} {ρ ρ' σ:bh} {a:Act} {w:World} {d:Option Tmp} {ty:TypeId} {ps:String} {af:Array Edge} {g:Option (Nat×Bool)}
 {N:Nat} {c:Cx} {HK X H:List aE} {C:CC G} {S:AS G} {F:eH}
theorem Xj{f h:Nat->List Value}{n:Nat}:∀m:Nat,flat (λi=>if i<n then f i else h (i-n)) (n+m)=flat f n++flat h m:=by
 intro m
 induction m with
 |zero=>simp only[Nat.add_zero,flat,List.append_nil];exact uI λi hi=>akd hi
 |succ m ih=>show flat _ (n+m)++(if n+m<n then f (n+m)else h (n+m-n))=_ ++(flat h m++h m);rw[ih,ake (by omega),Nat.add_sub_cancel_left,List.append_assoc]
theorem YH{α:Type}[Inhabited α]{L:cZ α}{xs ys:List α}{ws news:List Value}(h1:(LA L xs.length).fg J ws (λi=>xs.getD i default))(h2:(LA L ys.length).fg J news (λi=>ys.getD i default)):(LA L (xs++ys).length).fg J (ws++news) (λi=>(xs++ys).getD i default):=by
 obtain⟨f,rfl,k1⟩:=h1;obtain⟨h,rfl,k2⟩:=h2;refine⟨λi=>if i<xs.length then f i else h (i-xs.length),?_,λi hi=>?_⟩
 ·rw[List.length_append,Xj]
 ·rw[List.length_append]at hi
  by_cases q:i<xs.length
  ·simp only[akd q,List.getD_eq_getElem?_getD,List.getElem?_append_left q]
   have:=k1 i q;simpa[List.getD_eq_getElem?_getD]using this
  ·simp only[ake q,List.getD_eq_getElem?_getD,List.getElem?_append_right (Nat.le_of_not_lt q)]
   have:=k2 (i-xs.length) (by omega);simpa[List.getD_eq_getElem?_getD]using this
theorem ae8{α:Type}[Inhabited α]{L:cZ α}{x:α}{cs:List Value}(h:L.fg J cs x):(LA L [x].length).fg J cs (λi=>[x].getD i default):=by
 refine⟨λ_ =>cs,by simp[flat],λi hi=>?_⟩;have:i=0:=by simp at hi;exact hi
 subst this;exact h
theorem ae9{α:Type}[Inhabited α]{L:cZ α}:(LA L ([]:List α).length).fg J [] (λi=>([]:List α).getD i default):=⟨λ_ =>[],rfl,λi hi=>absurd hi (Nat.not_lt_zero _)⟩
theorem Qr{α:Type}[Inhabited α]{L:cZ α}{xs:List α}{ws:List Value}{l m:Nat}(hl:l<=m)(hm:m<=xs.length)(h:(LA L xs.length).fg J ws (λi=>xs.getD i default)):(LA L ((xs.drop l).take (m-l)).length).fg J ((ws.drop (l*L.n)).take ((m-l)*L.n)) (λi=>((xs.drop l).take (m-l)).getD i default):=by
 obtain⟨f,rfl,k⟩:=h;have hk:∀i,i<xs.length->(f i).length=L.n:=λi hi=>L.len (k i hi);have hlen:((xs.drop l).take (m-l)).length=m-l:=by simp;omega
 rw[hlen];refine⟨λi=>f (l+i),?_,λi hi=>?_⟩
 ·refine wM λq=>?_
  have hfl:=ga (n:=xs.length) hk;have aj7:(flat (λi=>f (l+i)) (m-l)).length=(m-l)*L.n:=ga λi hi=>hk _ (by omega);rw[List.getElem?_take,List.getElem?_drop];by_cases hq:q<(m-l)*L.n
  ·rw[akd hq]
   have h0:0<L.n:=by
    rcases Nat.eq_zero_or_pos L.n with e|e
    ·rw[e,Nat.mul_zero]at hq;omega
    ·exact e
   have hdm:q=(q/L.n)*L.n+q%L.n:=by rw[Nat.mul_comm];exact(Nat.div_add_mod q L.n).symm
   have hj:q%L.n<L.n:=Nat.mod_lt _ h0;have hi:q/L.n<m-l:=Nat.div_lt_of_lt_mul (by rw[Nat.mul_comm];exact hq);have e1:l*L.n+q=(l+q/L.n)*L.n+q%L.n:=by rw[Nat.add_mul];omega
   rw[e1,rJ hk (by omega) hj]
   conv=>rhs;rw[hdm]
   rw[rJ (λi hi=>hk _ (by omega)) hi hj]
  ·rw[ake hq,List.getElem?_eq_none (by omega)]
 ·have e:=k (l+i) (by omega)
  have:((xs.drop l).take (m-l)).getD i default=xs.getD (l+i) default:=by simp only[List.getD_eq_getElem?_getD,List.getElem?_take,List.getElem?_drop,akd hi]
  show L.fg J (f (l+i)) (((xs.drop l).take (m-l)).getD i default);rw[this];exact e
theorem Cq.cut{α:Type}[Inhabited α]{A:World->Prop}{v:Value}{L:cZ α}{ws:List Value}{xs:List α}(h:Cq A v L ws xs){l m sz:Nat}(hs:sz=L.n)(hl:l<=m)(hm:m<=xs.length):Cq A (nO l m sz v) L ((ws.drop (l*sz)).take ((m-l)*sz)) ((xs.drop l).take (m-l)):=by
 subst hs;have hlen:((xs.drop l).take (m-l)).length=m-l:=by simp;omega
 refine⟨?_,Qr hl hm h.fg,λw hw=>?_⟩
 ·obtain⟨a,cp,rfl⟩:=h.sl
  rw[hlen];exact⟨_,_,rfl⟩
 ·rw[hlen];exact(h.ro w hw).cut hl hm
theorem Yu{v:Value}{ws:List Value}{e sz n off t q:Nat}{x y:Operand}{val:Value}{vs:List Value}{f:aE->List aE}(hx:Bw.ev F x=some (gC v off))(hz:Bw.ev F y=some val)(hv:val.cells.toList=vs)(hl:vs.length=q)(h1:o9 vs)
  (hle:off+q<=n*sz)(hn:0<n)[hr:vE H v e sz n ws f][ht:R9 P t q]:
  RX (α:=Unit) P N c ⟨d, .store t x y,ty,ps,af,g⟩ F H (λ_ =>True) (λ_ =>undef) (λ_ =>f (.row v e sz n (bX ws off vs))):=λD a w next Q hst hk=>by
 subst hl;obtain⟨k,k1,k2⟩:=hr.ok;have Mb:aE.row v e sz n ws∈H:=List.mem_of_getElem? k1;have hown:kZ w e sz v n ws:=hst.hp.holds _ Mb;obtain⟨hlen,FH⟩:=hown;rcases FH with⟨_,h0⟩|⟨gb,o,cap,cur,rfl,Rb,hnc,PD,hcs,FF⟩
 ·omega
 have hmul:n*sz<=cap*sz:=Nat.mul_le_mul_right _ hnc;obtain⟨cs,rfl⟩:∃cs:List Value,cur=cs.toArray:=⟨cur.toList,by simp⟩;have rX:o+cap*sz<=cs.length:=by simpa using hcs
 have htk:(cs.drop o).take (n*sz)=ws:=by simpa using FF
 obtain⟨w',e1,e2,e3⟩:=sw (P:=P) (t:=t) (b:=gb) (T:=e) (off:=o+off) (cs:=cs) (w:=w) Rb hv rfl (by omega) h1;have hnew:((bX cs (o+off) vs).drop o).take (n*sz)=bX ws off vs:=by rw[← htk];exact vz hle (by omega)
 refine oU (by simp) (w':=w') ?_ (hk () w' trivial (hst.si.store hst.hp Mb (by simp[aE.cI,Value.ownBlock]) e3) ?_)
 ·simp[execOp,aI hst.fr hx,aI hst.fr hz,gC,Instr.storeAt,Instr.sureAddr,e1]
 ·show bH c.bs c.w0.heap.size (f _) w'
  rw[k2];refine hst.hp.set k1 e3.size (λj hj hn=>e3.block j hj (by simpa[aE.cI,Value.ownBlock]using hn)) ?_ hst.si.size (λb' hb'=>?_)
  ·refine⟨by rw[uk (by omega)];exact hlen, .inr ⟨gb,o,cap,_,rfl,e2,hnc,PD,?_,?_⟩⟩
   ·simp only[List.size_toArray,bX,List.length_append,List.length_take,List.length_drop];omega
   ·simpa using hnew
  ·have h5:b'=gb:=by simpa[aE.cI,Value.ownBlock]using hb'
   subst h5;exact⟨.inl (by simp[aE.cI,Value.ownBlock]),Nat.lt_of_lt_of_le (akl.1 Rb).1 e3.size⟩
theorem W9{α:Type}[Inhabited α]{xs:List α}{k:Nat}{z:α}(hk:k<xs.length):(λi=>(xs.set k z).getD i default)=iW (λi=>xs.getD i default) k z:=by
 funext i;unfold iW;by_cases e:i=k
 ·subst e;simp[List.getD_eq_getElem?_getD,hk]
 ·simp[List.getD_eq_getElem?_getD,e,List.getElem?_set,Ne.symm e]
theorem U1{T:Nat}{x y:Operand}{v:AV G}{r e sz:Nat}{p:List tv}{t:Ty}{xs:List (t.T G)}{q:PL G t}{z:q.m.T G}(hx:gv C S [] x=some (.ptr r p))(hy:gv C S [] y=some v)(ho:dm S.O r=some (.row e sz t xs))(hz0:WV p sz=true)(hq:H6 tt.F t p=some q)(hu:BQ q.m v=some z)(hf:wP tt T v=true):
  SK P ⟨d, .store T x y,ty,ps,af,g⟩ C S {S with O:=qm S.O r (.row e sz t (xs.set q.i.toNat (q.set (xs.getD q.i.toNat default) z)))} .QA:=by
 intro c N ρ J HK X a w next Q h hk
 obtain⟨HS,h1,hs0,hm⟩:=h.st;have hE:=dk h (ch:=[]) (by simp);obtain⟨b,o,e1,e2,e3⟩:=pO (hE.ok _ _ hx);obtain⟨k,x0,k1,⟨vv,ws,m1,rfl,m3,m4,m5⟩,k3⟩:=h1.set ho;have hp:∃n cap n' sz i q',ρ r=some (.slice (some ⟨b,o,none⟩) n cap)/\p= .idx n' sz i::q'/\i.toNat<n:=by
  rcases e1 with h1|h1
  ·obtain⟨a0,cp,e⟩:=m3
   rw[h1,e]at m1;cases m1
  ·exact h1
 obtain⟨n,cap,n',sz',i,q',p1,p2,p3⟩:=hp;subst p2;obtain rfl:=akf (show Nat.beq sz' sz=true from hz0);rw[p1]at m1;cases m1;obtain⟨a0,cp,e4⟩:=m3;cases e4;subst m5;obtain⟨q1,q3⟩:=Ng hq e3 rfl p3;have hv:=hE.ok _ _ hy;have hrv:=Ar hu hv;have WC:=q3.set (v:=z) m4 hrv.1;have hl:=(q.m.L G).len hrv.1;rw[Array.length_toList]at hl;have hle:=q3.le;have tD:=hE.ev _ _ hx;rw[e2]at tD;haveI:=Xm hf hv;have Jw:=qX (m:=HK++X) k1;haveI:vE (HS++(HK++X)) (.slice (some ⟨b,o,none⟩) xs.length cap) e (t.L G).n xs.length ws ((HS++(HK++X)).set k):=⟨k,Jw,λ_ =>rfl⟩;refine Yu (v:= .slice (some ⟨b,o,none⟩) xs.length cap) (off:=fj (tv.idx n' (Ty.L G t).n i::q')) (vs:=(a.eval y).cells.toList) (n:=xs.length) tD (hE.ev _ _ hy) rfl (by simp) ((q.m.L G).one hrv.1) (by rw[hl];exact hle) (by omega) a.defers a w next Q hs0 λ_ w' _ hs hp=>?_
 rw[vo k1]at hp;refine hk ρ J [] w' undef (bh.ef _ _) (λ_ h=>h) ⟨_,rfl⟩ (h.C0 (k3 _ _ ?_) hs hp);refine⟨_,_,p1,by rw[List.length_set],⟨_,_,by rw[List.length_set]⟩,?_,rfl⟩;rw[List.length_set,q1,W9 p3];exact WC
structure LS(G:Sg) where
 t:Ty
 xs:List (t.T G)
def lsA(C:CC G)(S:AS G):AV G->Option (LS G)
 | .dat (.sl t) xs=>some ⟨t,xs⟩
 | .row r=>match V3 C S r with
  |some (.row _ sz t xs)=>bif Nat.beq (t.L G).n sz then some ⟨t,xs⟩else none
  |_ =>none
 |_ =>none
theorem Pp{v:AV G}{l:LS G}{u:Value}{D:List Deferred}(hm:Qq (G:=G) J ρ N c D H (V3 C S) a w)(h:lsA C S v=some l)(hv:rv J ρ v u):∃ws,qf c H u (l.t.L G).n l.xs.length ws/\(LA (l.t.L G) l.xs.length).fg J ws (λi=>l.xs.getD i default)/\uV u l.xs.length:=by
 unfold lsA at h;split at h
 ·rename_i t xs
  cases h;obtain⟨u',e1,hr,_,hc⟩:=hv;cases e1;obtain⟨v',ws,e2,hf⟩:=hr;rw[hc rfl]at e2;cases e2;haveI:=hm.kn;exact⟨ws,hf.at,hf.fg,hf.sl⟩
 ·rename_i r
  split at h
  ·rename_i e sz t xs ho
   cases hb:Nat.beq (t.L G).n sz with
   |false=>rw[hb]at h;cases h
   |true=>rw[hb]at h;cases h;obtain⟨vv,ws,h1,h2,h3,h4,h5⟩:=Lx hm ho;obtain rfl:=s5 hv h1;subst h5;exact⟨ws,h3,h4,h2⟩
  ·cases h
 ·cases h
def IX{t t':Ty}(xs:List (t'.T G)):Option (List (t.T G)):=if h:t'.bS t=true then some (Ty.vN h▸xs)else none
theorem RP{t t':Ty}{xs:List (t'.T G)}{ys:List (t.T G)}(h:IX xs=some ys):∃e:t'=t,e▸xs=ys:=by
 unfold IX at h;by_cases hs:t'.bS t=true
 ·rw[dif_pos hs]at h;cases h;exact⟨Ty.vN hs,rfl⟩
 ·rw[dif_neg hs]at h;cases h
theorem Au{H':List aE}{e sz:Nat}{t:Ty}{zs:List (t.T G)}{v':Value}{ws:List Value}{w':World}{O':Os G}(h:Rl c N ρ J HK X C S a w)(hO:RO J ρ O' H')(hs:aQ c.bs c.w0 w')(hp:bH c.bs c.w0.heap.size (.row v' e sz zs.length ws::(H'++(HK++X))) w')(hv:uV v' zs.length)(hr:(LA (t.L G) zs.length).fg J ws (λi=>zs.getD i default))(hz:(t.L G).n=sz):
  ∃ρ',ρ.to ρ' S.nx/\rv J ρ' (.row S.nx:AV G) v'/\Rl c N ρ' J HK X C {S with O:=(S.nx, .row e sz t zs)::O',nx:=S.nx+1} a w':=by
 have hle:=(bh.kL ρ S.nx v').le h.fr;obtain⟨a0,cp,rfl⟩:=hv;refine⟨ρ.set S.nx _,bh.kL _ _ _,⟨_,_,_,bh.iN _ _ _,rfl⟩,h.tm,h.df.up (λ_ h=>h) hle,⟨hs,h.si.n⟩,h.fs.up (λ_ h=>h) hle,h.fc.up (λ_ h=>h) hle,h.Oo (λ_ h=>h) hle,⟨_ ::H', .cons ⟨_,ws,bh.iN _ _ _,rfl,⟨_,_,rfl⟩,hr,hz⟩ (hO.up (λ_ h=>h) hle),?_⟩,h.kn,bh.xl h.fr _⟩;simpa using hp
theorem acI{T r e sz bt:Nat}{x y:Operand}{vy:AV G}{t:Ty}{xs ys:List (t.T G)}{l:LS G}(hT:tt.te.find T=some (.sl e sz bt))(hx:gv C S [] x=some (.row r))(hy:gv C S [] y=some vy)(ho:dm S.O r=some (.row e sz t xs))(hl:lsA C S vy=some l)(hc:IX l.xs=some ys)(hg:ig xs.length ys.length bt=true):
  SK P ⟨d, .call ⟨.builtin .append, #[x,y], #[T,T]⟩,ty,ps,af,g⟩ C S {S with O:=(S.nx, .row e sz t (xs++ys))::xH S.O r,nx:=S.nx+1} (.row S.nx):=by
 intro c N ρ J HK X a w next Q h hk
 obtain⟨HS,h1,hs0,hm⟩:=h.st;have hE:=dk h (ch:=[]) (by simp);obtain⟨k,x0,k1,⟨vv,ws,m1,rfl,m3,m4,m5⟩,k3⟩:=h1.del ho;obtain⟨t',l'⟩:=l;obtain⟨rfl,rfl⟩:=RP hc;obtain⟨news,n1,n2,n3⟩:=Pp hm hl (hE.ok _ _ hy);have WA:=s5 (hE.ok _ _ hx) m1;have tD:=hE.ev _ _ hx;rw[WA]at tD;haveI:=(tt.sl hT).2;have Jw:=qX (m:=HK++X) k1;haveI:vE (HS++(HK++X)) vv e sz xs.length ws ((HS++(HK++X)).set k):=⟨k,Jw,λ_ =>rfl⟩;subst m5;haveI:=n1;obtain⟨g1,g2⟩:=uP hg;refine DO tD (hE.ev _ _ hy) (cZ.one _ n2) g1 g2 a.defers a w next Q hs0 λv' w' JU hs hp=>?_
 have AY:bH c.bs c.w0.heap.size (.row v' e (t'.L G).n (xs++l').length (ws++news)::(HS.eraseIdx k++(HK++X))) w':=by
  rw[List.length_append];have hp3:bH c.bs c.w0.heap.size ((HS++(HK++X)).set k (.row v' e (t'.L G).n (xs.length+l'.length) (ws++news))) w':=hp;rw[vo k1]at hp3;refine hp3.j9 ?_;have hlt:=(List.getElem?_eq_some_iff.1 k1).1;have e1:(HS.set k (.row v' e (t'.L G).n (xs.length+l'.length) (ws++news)))[k]? =some (.row v' e (t'.L G).n (xs.length+l'.length) (ws++news)):=by simp[hlt]
  have:=pP e1 (HK++X);rwa[List.eraseIdx_set_eq]at this
 obtain⟨ρ',q1,q2,q3⟩:=Au h k3 hs AY (by rw[List.length_append];exact JU) (YH m4 n2) rfl;exact hk ρ' J [] w' v' q1 (λ_ h=>h) q2 q3
theorem Zp{T e sz bt:Nat}{x y:Operand}{vy:AV G}{l:LS G}(hT:tt.te.find T=some (.sl e sz bt))(hx:gv C S [] x=some .kz)(hy:gv C S [] y=some vy)(hl:lsA C S vy=some l)(hsz:(l.t.L G).n=sz)(hg:ig 0 l.xs.length bt=true):
  SK P ⟨d, .call ⟨.builtin .append, #[x,y], #[T,T]⟩,ty,ps,af,g⟩ C S {S with O:=(S.nx, .row e sz l.t l.xs)::S.O,nx:=S.nx+1} (.row S.nx):=by
 intro c N ρ J HK X a w next Q h hk
 obtain⟨HS,h1,hs0,hm⟩:=h.st;have hE:=dk h (ch:=[]) (by simp);obtain⟨news,n1,n2,n3⟩:=Pp hm hl (hE.ok _ _ hy);have tD:=hE.ev _ _ hx;have WA:a.eval x= .slice none 0 0:=(List.cons.inj (show[a.eval x]=[Value.slice none 0 0]from hE.ok _ _ hx)).1;rw[WA]at tD;haveI:=(tt.sl hT).2;subst hsz;obtain⟨g1,g2⟩:=uP hg;have L7:St N c a.defers (nN a) (.row (.slice none 0 0) e (l.t.L G).n 0 []::(HS++(HK++X))) a w:=⟨hs0.tm,hs0.fr,hs0.df,hs0.si,Aw hs0.hp⟩;haveI:qf c (.row (.slice none 0 0) e (l.t.L G).n 0 []::(HS++(HK++X))) (a.eval y) (l.t.L G).n l.xs.length news:=⟨λw' hs' hp'=>n1.ro w' hs' ⟨λs hs=>hp'.holds s (akp _ hs),λs hs=>hp'.own s (akp _ hs),(List.pairwise_cons.1 hp'.apart).2⟩⟩;refine DO (n:=0) (xs:=[]) tD (hE.ev _ _ hy) (cZ.one _ n2) g1 g2 a.defers a w next Q L7 λv' w' JU hs hp=>?_
 obtain⟨ρ',q1,q2,q3⟩:=Au (t:=l.t) (zs:=l.xs) h h1 hs (by simpa using hp) (by simpa using JU) n2 rfl;exact hk ρ' J [] w' v' q1 (λ_ h=>h) q2 q3
end Go.Rw
