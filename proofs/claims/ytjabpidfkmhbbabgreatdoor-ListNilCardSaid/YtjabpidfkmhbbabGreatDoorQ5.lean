/- Part 5 of what a proof leans on; pruned and shortened by a program out of longer texts. -/
import Derived.Test.YtjabpidfkmhbbabGreatDoorQ4
namespace Go.Rw
open Go Go.Bw Go.RowKit
variable {G:Sg} {P:Program} {J J':World->Prop} {ρ ρ' σ:aP}
def Ic(f:Nat->Nat):AV G->AV G
 | .ptr r p=> .ptr (f r) p
 | .row r=> .row (f r)
 | .CG r p n sz up i=> .CG (f r) p n sz up i
 | .mp r=> .mp (f r)
 | .yl r=> .yl (f r)
 | .fn k a c=> .fn k (Ic f a) (Ic f c)
 | .st a=> .st (Ic f a)
 | .gO a=> .gO (Ic f a)
 | .gM t v=> .gM t (Ic f v)
 | .gd j w v=> .gd j w (Ic f v)
 | .cons a b=> .cons (Ic f a) (Ic f b)
 | .part w a b=> .part w (Ic f a) (Ic f b)
 |v=>v
def aaM(f:Nat->Nat):Ob G->Ob G
 | .bK T c=> .bK T (Ic f c)
 | .fm q ks vs=> .fm q ks (Ic f vs)
 | .lp N ks vs ps a b=> .lp N ks (Ic f vs) ps a b
 |o=>o
def Ms(f:Nat->Nat)(O:Os G):Os G:=O.map λp=>(f p.1,aaM f p.2)
theorem CB{f:Nat->Nat}(m:∀r v,σ r=some v->ρ (f r)=some v):∀{v:AV G} {l:List Value},rl J σ v l->rl J ρ (Ic f v) l:=by
 intro v
 induction v with
 |ptr r p=>
  intro l h;obtain⟨⟨b,o,h1,h2⟩,h3⟩:=h;refine⟨⟨b,o,?_,h2⟩,h3⟩;rcases h1 with h1|⟨n,cap,n',sz,i,q,e1,e2⟩
  ·exact .inl (m _ _ h1)
  ·exact .inr ⟨n,cap,n',sz,i,q,m _ _ e1,e2⟩
 |CG r p n sz up i=>
  intro l h;obtain⟨⟨b,o,h1,h2⟩,h3⟩:=h;refine⟨⟨b,o,?_,h2⟩,h3⟩;rcases h1 with h1|⟨n,cap,n',sz,i,q,e1,e2⟩
  ·exact .inl (m _ _ h1)
  ·exact .inr ⟨n,cap,n',sz,i,q,m _ _ e1,e2⟩
 |row r=>intro l h;obtain⟨a,n,cap,h1,h2⟩:=h;exact⟨a,n,cap,m _ _ h1,h2⟩
 |mp r=>intro l h;obtain⟨b,h1,h2⟩:=h;exact⟨b,m _ _ h1,h2⟩
 |yl r=>intro l h;obtain⟨b,h1,h2⟩:=h;exact⟨b,m _ _ h1,h2⟩
 |fn f a c jD zo=>intro l h;obtain⟨fs,cs,e,h1,h2⟩:=h;exact⟨fs,cs,e,jD h1,zo h2⟩
 |st a ih=>intro l h;obtain⟨cs,e,h1,h2⟩:=h;exact⟨cs,e,ih h1,h2⟩
 |gO a ih=>intro l h;obtain⟨vs,e,h1⟩:=h;exact⟨vs,e,ih h1⟩
 |gM t v ih=>intro l h;obtain⟨u,e,h1⟩:=h;exact⟨u,e,ih h1⟩
 |cons a b jD ox=>intro l h;obtain⟨u,r,e,h1,h2⟩:=h;exact⟨u,r,e,jD h1,ox h2⟩
 |part w a b jD ox=>intro l h;obtain⟨c1,c2,u,e,h1,h2,h3,h4⟩:=h;exact⟨c1,c2,u,e,h1,jD h2,h3,ox h4⟩
 |_ =>intro l h;exact h
theorem Jq{f:Nat->Nat}(m:∀r v,σ r=some v->ρ (f r)=some v){O:Os G}{H:List ay}(h:RO J σ O H):RO J ρ (Ms f O) H:=by
 induction h with
 |nil=>exact .nil
 |@cons r o x O H h _ ih=>
  refine .cons ?_ ih;cases o with
  |bK T c=>obtain⟨b,u,h1,h2,h3⟩:=h;exact⟨b,u,m _ _ h1,h2,CB m h3⟩
  |row e sz t xs=>obtain⟨v,ws,h1,h2⟩:=h;exact⟨v,ws,m _ _ h1,h2⟩
  |aux b=>obtain⟨n,x,h1,h2⟩:=h;exact⟨n,x,m _ _ h1,h2⟩
  |gm=>obtain⟨⟨mb,g,h1,h2⟩,h4⟩:=h;exact⟨⟨mb,g,m _ _ h1,h2⟩,h4⟩
  |fm q ks vs=>obtain⟨b,es,ck,us,h1,h2,h3,h4,h5⟩:=h;exact⟨b,es,ck,us,m _ _ h1,h2,h3,CB m h4,h5⟩
  |lp N ks vs ps a b=>obtain⟨n,rec,us,h1,h2,h3,h4⟩:=h;exact⟨n,rec,us,m _ _ h1,h2,CB m h3,h4⟩
theorem zG{f:Nat->Nat}:∀{s:Sh} {x:HL G (aD s)} {m:Nat},(dy f s x m).1=Ic f (dy (λm=>m) s x m).1/\(dy f s x m).2.1=Ms f (dy (λm=>m) s x m).2.1/\(dy f s x m).2.2=(dy (λm=>m) s x m).2.2:=by
 intro s
 induction s with
 |v t=>intro x m;refine⟨?_,rfl,rfl⟩;cases t<;>rfl
 |row e sz t=>intro x m;exact⟨rfl,rfl,rfl⟩
 |box T s ih=>intro x m;obtain⟨h1,h2,h3⟩:=ih (x:=x) (m:=m+1);simp only[dy];exact⟨rfl,by rw[h1,h2];rfl,h3⟩
 |fn k a c jD zo=>intro x m;obtain⟨h1,h2,h3⟩:=jD (x:=HL.fst x) (m:=m);simp only[dy];rw[h3];obtain⟨k1,k2,k3⟩:=zo (x:=HL.snd x) (m:=(dy (λm=>m) a (HL.fst x) m).2.2);exact⟨by rw[h1,k1];rfl,by rw[h2,k2];simp[Ms],k3⟩
 |cons a c jD zo=>intro x m;obtain⟨h1,h2,h3⟩:=jD (x:=HL.fst x) (m:=m);simp only[dy];rw[h3];obtain⟨k1,k2,k3⟩:=zo (x:=HL.snd x) (m:=(dy (λm=>m) a (HL.fst x) m).2.2);exact⟨by rw[h1,k1];rfl,by rw[h2,k2];simp[Ms],k3⟩
 |part w a c jD zo=>intro x m;obtain⟨h1,h2,h3⟩:=jD (x:=HL.fst x) (m:=m);simp only[dy];rw[h3];obtain⟨k1,k2,k3⟩:=zo (x:=HL.snd x) (m:=(dy (λm=>m) a (HL.fst x) m).2.2);exact⟨by rw[h1,k1];rfl,by rw[h2,k2];simp[Ms],k3⟩
 |gO a ih=>intro x m;obtain⟨h1,h2,h3⟩:=ih (x:=x) (m:=m);simp only[dy];exact⟨by rw[h1];rfl,h2,h3⟩
 |st a ih=>intro x m;obtain⟨h1,h2,h3⟩:=ih (x:=x) (m:=m);simp only[dy];exact⟨by rw[h1];rfl,h2,h3⟩
 |gM t a ih=>intro x m;obtain⟨h1,h2,h3⟩:=ih (x:=x) (m:=m);simp only[dy];exact⟨by rw[h1];rfl,h2,h3⟩
 |_ =>intro x m;exact⟨rfl,rfl,rfl⟩
def lpE{Z:Type}:(l:List Ty)->((HL G l->Option Z)->HL G l->Option Z)->Nat->HL G l->Option Z
 |[_],B,n,e=>gI (λk x1=>B (λe=>k (e.1)) (x1,())) n (e.1)
 |[_,_],B,n,e=>dL (λk x1 x2=>B (λe=>k (e.1) (e.2.1)) (x1,x2,())) n (e.1) (e.2.1)
 |[_,_,_],B,n,e=>vz (λk x1 x2 x3=>B (λe=>k (e.1) (e.2.1) (e.2.2.1)) (x1,x2,x3,())) n (e.1) (e.2.1) (e.2.2.1)
 |[_,_,_,_],B,n,e=>JE (λk x1 x2 x3 x4=>B (λe=>k (e.1) (e.2.1) (e.2.2.1) (e.2.2.2.1)) (x1,x2,x3,x4,())) n (e.1) (e.2.1) (e.2.2.1) (e.2.2.2.1)
 |[_,_,_,_,_],B,n,e=>CM (λk x1 x2 x3 x4 x5=>B (λe=>k (e.1) (e.2.1) (e.2.2.1) (e.2.2.2.1) (e.2.2.2.2.1)) (x1,x2,x3,x4,x5,())) n (e.1) (e.2.1) (e.2.2.1) (e.2.2.2.1) (e.2.2.2.2.1)
 |[_,_,_,_,_,_],B,n,e=>JD (λk x1 x2 x3 x4 x5 x6=>B (λe=>k (e.1) (e.2.1) (e.2.2.1) (e.2.2.2.1) (e.2.2.2.2.1) (e.2.2.2.2.2.1)) (x1,x2,x3,x4,x5,x6,())) n (e.1) (e.2.1) (e.2.2.1) (e.2.2.2.1) (e.2.2.2.2.1) (e.2.2.2.2.2.1)
 |[_,_,_,_,_,_,_],B,n,e=>Gx (λk x1 x2 x3 x4 x5 x6 x7=>B (λe=>k (e.1) (e.2.1) (e.2.2.1) (e.2.2.2.1) (e.2.2.2.2.1) (e.2.2.2.2.2.1) (e.2.2.2.2.2.2.1)) (x1,x2,x3,x4,x5,x6,x7,())) n (e.1) (e.2.1) (e.2.2.1) (e.2.2.2.1) (e.2.2.2.2.1) (e.2.2.2.2.2.1) (e.2.2.2.2.2.2.1)
 |[_,_,_,_,_,_,_,_],B,n,e=>Gw (λk x1 x2 x3 x4 x5 x6 x7 x8=>B (λe=>k (e.1) (e.2.1) (e.2.2.1) (e.2.2.2.1) (e.2.2.2.2.1) (e.2.2.2.2.2.1) (e.2.2.2.2.2.2.1) (e.2.2.2.2.2.2.2.1)) (x1,x2,x3,x4,x5,x6,x7,x8,())) n (e.1) (e.2.1) (e.2.2.1) (e.2.2.2.1) (e.2.2.2.2.1) (e.2.2.2.2.2.1) (e.2.2.2.2.2.2.1) (e.2.2.2.2.2.2.2.1)
 |[_,_,_,_,_,_,_,_,_],B,n,e=>JC (λk x1 x2 x3 x4 x5 x6 x7 x8 x9=>B (λe=>k (e.1) (e.2.1) (e.2.2.1) (e.2.2.2.1) (e.2.2.2.2.1) (e.2.2.2.2.2.1) (e.2.2.2.2.2.2.1) (e.2.2.2.2.2.2.2.1) (e.2.2.2.2.2.2.2.2.1)) (x1,x2,x3,x4,x5,x6,x7,x8,x9,())) n (e.1) (e.2.1) (e.2.2.1) (e.2.2.2.1) (e.2.2.2.2.1) (e.2.2.2.2.2.1) (e.2.2.2.2.2.2.1) (e.2.2.2.2.2.2.2.1) (e.2.2.2.2.2.2.2.2.1)
 |[_,_,_,_,_,_,_,_,_,_],B,n,e=>Au (λk x1 x2 x3 x4 x5 x6 x7 x8 x9 Ga=>B (λe=>k (e.1) (e.2.1) (e.2.2.1) (e.2.2.2.1) (e.2.2.2.2.1) (e.2.2.2.2.2.1) (e.2.2.2.2.2.2.1) (e.2.2.2.2.2.2.2.1) (e.2.2.2.2.2.2.2.2.1) (e.2.2.2.2.2.2.2.2.2.1)) (x1,x2,x3,x4,x5,x6,x7,x8,x9,Ga,())) n (e.1) (e.2.1) (e.2.2.1) (e.2.2.2.1) (e.2.2.2.2.1) (e.2.2.2.2.2.1) (e.2.2.2.2.2.2.1) (e.2.2.2.2.2.2.2.1) (e.2.2.2.2.2.2.2.2.1) (e.2.2.2.2.2.2.2.2.2.1)
 |[_,_,_,_,_,_,_,_,_,_,_],B,n,e=>As (λk x1 x2 x3 x4 x5 x6 x7 x8 x9 Ga LL=>B (λe=>k (e.1) (e.2.1) (e.2.2.1) (e.2.2.2.1) (e.2.2.2.2.1) (e.2.2.2.2.2.1) (e.2.2.2.2.2.2.1) (e.2.2.2.2.2.2.2.1) (e.2.2.2.2.2.2.2.2.1) (e.2.2.2.2.2.2.2.2.2.1) (e.2.2.2.2.2.2.2.2.2.2.1)) (x1,x2,x3,x4,x5,x6,x7,x8,x9,Ga,LL,())) n (e.1) (e.2.1) (e.2.2.1) (e.2.2.2.1) (e.2.2.2.2.1) (e.2.2.2.2.2.1) (e.2.2.2.2.2.2.1) (e.2.2.2.2.2.2.2.1) (e.2.2.2.2.2.2.2.2.1) (e.2.2.2.2.2.2.2.2.2.1) (e.2.2.2.2.2.2.2.2.2.2.1)
 |[_,_,_,_,_,_,_,_,_,_,_,_],B,n,e=>Fo (λk x1 x2 x3 x4 x5 x6 x7 x8 x9 Ga LL WI=>B (λe=>k (e.1) (e.2.1) (e.2.2.1) (e.2.2.2.1) (e.2.2.2.2.1) (e.2.2.2.2.2.1) (e.2.2.2.2.2.2.1) (e.2.2.2.2.2.2.2.1) (e.2.2.2.2.2.2.2.2.1) (e.2.2.2.2.2.2.2.2.2.1) (e.2.2.2.2.2.2.2.2.2.2.1) (e.2.2.2.2.2.2.2.2.2.2.2.1)) (x1,x2,x3,x4,x5,x6,x7,x8,x9,Ga,LL,WI,())) n (e.1) (e.2.1) (e.2.2.1) (e.2.2.2.1) (e.2.2.2.2.1) (e.2.2.2.2.2.1) (e.2.2.2.2.2.2.1) (e.2.2.2.2.2.2.2.1) (e.2.2.2.2.2.2.2.2.1) (e.2.2.2.2.2.2.2.2.2.1) (e.2.2.2.2.2.2.2.2.2.2.1) (e.2.2.2.2.2.2.2.2.2.2.2.1)
 |_,_,_,_ =>none
theorem Xw{Z:Type}:∀{l:List Ty} {B:(HL G l->Option Z)->HL G l->Option Z} {n:Nat} {e:HL G l} {z:Z},lpE l B n e=some z->∃m,n=m+1/\B (lpE l B m) e=some z:=by
 intro l B n e z h
 match l,B,e,h with
 |[_],B,e,h=>obtain⟨m,h1,h2⟩:=XE rfl h;exact⟨m,h1,h2⟩
 |[_,_],B,e,h=>obtain⟨m,h1,h2⟩:=Ey rfl h;exact⟨m,h1,h2⟩
 |[_,_,_],B,e,h=>obtain⟨m,h1,h2⟩:=R2 rfl h;exact⟨m,h1,h2⟩
 |[_,_,_,_],B,e,h=>obtain⟨m,h1,h2⟩:=XC rfl h;exact⟨m,h1,h2⟩
 |[_,_,_,_,_],B,e,h=>obtain⟨m,h1,h2⟩:=XB rfl h;exact⟨m,h1,h2⟩
 |[_,_,_,_,_,_],B,e,h=>obtain⟨m,h1,h2⟩:=XA rfl h;exact⟨m,h1,h2⟩
 |[_,_,_,_,_,_,_],B,e,h=>obtain⟨m,h1,h2⟩:=Xz rfl h;exact⟨m,h1,h2⟩
 |[_,_,_,_,_,_,_,_],B,e,h=>obtain⟨m,h1,h2⟩:=Xy rfl h;exact⟨m,h1,h2⟩
 |[_,_,_,_,_,_,_,_,_],B,e,h=>obtain⟨m,h1,h2⟩:=Xx rfl h;exact⟨m,h1,h2⟩
 |[_,_,_,_,_,_,_,_,_,_],B,e,h=>obtain⟨m,h1,h2⟩:=TH rfl h;exact⟨m,h1,h2⟩
 |[_,_,_,_,_,_,_,_,_,_,_],B,e,h=>obtain⟨m,h1,h2⟩:=TG rfl h;exact⟨m,h1,h2⟩
 |[_,_,_,_,_,_,_,_,_,_,_,_],B,e,h=>obtain⟨m,h1,h2⟩:=TF rfl h;exact⟨m,h1,h2⟩
 |[],B,e,h=>cases h
 |_ ::_ ::_ ::_ ::_ ::_ ::_ ::_ ::_ ::_ ::_ ::_ ::_ ::_,B,e,h=>cases h
theorem R5(α ρ:Type):∃g:α->(α->Option ρ)->Option ρ,∀a f,g a f=lt a f:=⟨lt,λ_ _ =>rfl⟩
noncomputable def jn{α ρ:Type}:α->(α->Option ρ)->Option ρ:=Classical.choose (R5 α ρ)
theorem aaX{α ρ:Type}{a:α}{f:α->Option ρ}:jn a f=lt a f:=Classical.choose_spec (R5 α ρ) a f
noncomputable def lj{α ρ:Type}:Bool->α->(α->Option ρ)->Option ρ
 |true=>jn
 |false=>lt
theorem BJ{α ρ:Type}{b:Bool}{a:α}{f:α->Option ρ}:lj b a f=f a:=by cases b;exact rfl;exact aaX
noncomputable def jnE{Z:Type}(b:Bool):(l:List Ty)->(HL G l->Option Z)->((HL G l->Option Z)->Option Z)->Option Z
 |[_],B,A=>lj b (λx1=>B (x1,())) λj=>A λe=>j (e.1)
 |[_,_],B,A=>lj b (λx1 x2=>B (x1,x2,())) λj=>A λe=>j (e.1) (e.2.1)
 |[_,_,_],B,A=>lj b (λx1 x2 x3=>B (x1,x2,x3,())) λj=>A λe=>j (e.1) (e.2.1) (e.2.2.1)
 |[_,_,_,_],B,A=>lj b (λx1 x2 x3 x4=>B (x1,x2,x3,x4,())) λj=>A λe=>j (e.1) (e.2.1) (e.2.2.1) (e.2.2.2.1)
 |[_,_,_,_,_],B,A=>lj b (λx1 x2 x3 x4 x5=>B (x1,x2,x3,x4,x5,())) λj=>A λe=>j (e.1) (e.2.1) (e.2.2.1) (e.2.2.2.1) (e.2.2.2.2.1)
 |[_,_,_,_,_,_],B,A=>lj b (λx1 x2 x3 x4 x5 x6=>B (x1,x2,x3,x4,x5,x6,())) λj=>A λe=>j (e.1) (e.2.1) (e.2.2.1) (e.2.2.2.1) (e.2.2.2.2.1) (e.2.2.2.2.2.1)
 |[_,_,_,_,_,_,_],B,A=>lj b (λx1 x2 x3 x4 x5 x6 x7=>B (x1,x2,x3,x4,x5,x6,x7,())) λj=>A λe=>j (e.1) (e.2.1) (e.2.2.1) (e.2.2.2.1) (e.2.2.2.2.1) (e.2.2.2.2.2.1) (e.2.2.2.2.2.2.1)
 |[_,_,_,_,_,_,_,_],B,A=>lj b (λx1 x2 x3 x4 x5 x6 x7 x8=>B (x1,x2,x3,x4,x5,x6,x7,x8,())) λj=>A λe=>j (e.1) (e.2.1) (e.2.2.1) (e.2.2.2.1) (e.2.2.2.2.1) (e.2.2.2.2.2.1) (e.2.2.2.2.2.2.1) (e.2.2.2.2.2.2.2.1)
 |[_,_,_,_,_,_,_,_,_],B,A=>lj b (λx1 x2 x3 x4 x5 x6 x7 x8 x9=>B (x1,x2,x3,x4,x5,x6,x7,x8,x9,())) λj=>A λe=>j (e.1) (e.2.1) (e.2.2.1) (e.2.2.2.1) (e.2.2.2.2.1) (e.2.2.2.2.2.1) (e.2.2.2.2.2.2.1) (e.2.2.2.2.2.2.2.1) (e.2.2.2.2.2.2.2.2.1)
 |[_,_,_,_,_,_,_,_,_,_],B,A=>lj b (λx1 x2 x3 x4 x5 x6 x7 x8 x9 Ga=>B (x1,x2,x3,x4,x5,x6,x7,x8,x9,Ga,())) λj=>A λe=>j (e.1) (e.2.1) (e.2.2.1) (e.2.2.2.1) (e.2.2.2.2.1) (e.2.2.2.2.2.1) (e.2.2.2.2.2.2.1) (e.2.2.2.2.2.2.2.1) (e.2.2.2.2.2.2.2.2.1) (e.2.2.2.2.2.2.2.2.2.1)
 |[_,_,_,_,_,_,_,_,_,_,_],B,A=>lj b (λx1 x2 x3 x4 x5 x6 x7 x8 x9 Ga LL=>B (x1,x2,x3,x4,x5,x6,x7,x8,x9,Ga,LL,())) λj=>A λe=>j (e.1) (e.2.1) (e.2.2.1) (e.2.2.2.1) (e.2.2.2.2.1) (e.2.2.2.2.2.1) (e.2.2.2.2.2.2.1) (e.2.2.2.2.2.2.2.1) (e.2.2.2.2.2.2.2.2.1) (e.2.2.2.2.2.2.2.2.2.1) (e.2.2.2.2.2.2.2.2.2.2.1)
 |[_,_,_,_,_,_,_,_,_,_,_,_],B,A=>lj b (λx1 x2 x3 x4 x5 x6 x7 x8 x9 Ga LL WI=>B (x1,x2,x3,x4,x5,x6,x7,x8,x9,Ga,LL,WI,())) λj=>A λe=>j (e.1) (e.2.1) (e.2.2.1) (e.2.2.2.1) (e.2.2.2.2.1) (e.2.2.2.2.2.1) (e.2.2.2.2.2.2.1) (e.2.2.2.2.2.2.2.1) (e.2.2.2.2.2.2.2.2.1) (e.2.2.2.2.2.2.2.2.2.1) (e.2.2.2.2.2.2.2.2.2.2.1) (e.2.2.2.2.2.2.2.2.2.2.2.1)
 |_,B,A=>A B
theorem XN{Z:Type}{b:Bool}:∀{l:List Ty} {B:HL G l->Option Z} {A:(HL G l->Option Z)->Option Z} {z:Z},jnE b l B A=some z->A B=some z:=by
 intro l B A z h
 match l,B,A,h with
 |[_],B,A,h=>exact(BJ (b:=b) (a:=λx1=>B (x1,())) (f:=λj=>A λe=>j (e.1))).symm.trans h
 |[_,_],B,A,h=>exact(BJ (b:=b) (a:=λx1 x2=>B (x1,x2,())) (f:=λj=>A λe=>j (e.1) (e.2.1))).symm.trans h
 |[_,_,_],B,A,h=>exact(BJ (b:=b) (a:=λx1 x2 x3=>B (x1,x2,x3,())) (f:=λj=>A λe=>j (e.1) (e.2.1) (e.2.2.1))).symm.trans h
 |[_,_,_,_],B,A,h=>exact(BJ (b:=b) (a:=λx1 x2 x3 x4=>B (x1,x2,x3,x4,())) (f:=λj=>A λe=>j (e.1) (e.2.1) (e.2.2.1) (e.2.2.2.1))).symm.trans h
 |[_,_,_,_,_],B,A,h=>exact(BJ (b:=b) (a:=λx1 x2 x3 x4 x5=>B (x1,x2,x3,x4,x5,())) (f:=λj=>A λe=>j (e.1) (e.2.1) (e.2.2.1) (e.2.2.2.1) (e.2.2.2.2.1))).symm.trans h
 |[_,_,_,_,_,_],B,A,h=>exact(BJ (b:=b) (a:=λx1 x2 x3 x4 x5 x6=>B (x1,x2,x3,x4,x5,x6,())) (f:=λj=>A λe=>j (e.1) (e.2.1) (e.2.2.1) (e.2.2.2.1) (e.2.2.2.2.1) (e.2.2.2.2.2.1))).symm.trans h
 |[_,_,_,_,_,_,_],B,A,h=>exact(BJ (b:=b) (a:=λx1 x2 x3 x4 x5 x6 x7=>B (x1,x2,x3,x4,x5,x6,x7,())) (f:=λj=>A λe=>j (e.1) (e.2.1) (e.2.2.1) (e.2.2.2.1) (e.2.2.2.2.1) (e.2.2.2.2.2.1) (e.2.2.2.2.2.2.1))).symm.trans h
 |[_,_,_,_,_,_,_,_],B,A,h=>exact(BJ (b:=b) (a:=λx1 x2 x3 x4 x5 x6 x7 x8=>B (x1,x2,x3,x4,x5,x6,x7,x8,())) (f:=λj=>A λe=>j (e.1) (e.2.1) (e.2.2.1) (e.2.2.2.1) (e.2.2.2.2.1) (e.2.2.2.2.2.1) (e.2.2.2.2.2.2.1) (e.2.2.2.2.2.2.2.1))).symm.trans h
 |[_,_,_,_,_,_,_,_,_],B,A,h=>exact(BJ (b:=b) (a:=λx1 x2 x3 x4 x5 x6 x7 x8 x9=>B (x1,x2,x3,x4,x5,x6,x7,x8,x9,())) (f:=λj=>A λe=>j (e.1) (e.2.1) (e.2.2.1) (e.2.2.2.1) (e.2.2.2.2.1) (e.2.2.2.2.2.1) (e.2.2.2.2.2.2.1) (e.2.2.2.2.2.2.2.1) (e.2.2.2.2.2.2.2.2.1))).symm.trans h
 |[_,_,_,_,_,_,_,_,_,_],B,A,h=>exact(BJ (b:=b) (a:=λx1 x2 x3 x4 x5 x6 x7 x8 x9 Ga=>B (x1,x2,x3,x4,x5,x6,x7,x8,x9,Ga,())) (f:=λj=>A λe=>j (e.1) (e.2.1) (e.2.2.1) (e.2.2.2.1) (e.2.2.2.2.1) (e.2.2.2.2.2.1) (e.2.2.2.2.2.2.1) (e.2.2.2.2.2.2.2.1) (e.2.2.2.2.2.2.2.2.1) (e.2.2.2.2.2.2.2.2.2.1))).symm.trans h
 |[_,_,_,_,_,_,_,_,_,_,_],B,A,h=>exact(BJ (b:=b) (a:=λx1 x2 x3 x4 x5 x6 x7 x8 x9 Ga LL=>B (x1,x2,x3,x4,x5,x6,x7,x8,x9,Ga,LL,())) (f:=λj=>A λe=>j (e.1) (e.2.1) (e.2.2.1) (e.2.2.2.1) (e.2.2.2.2.1) (e.2.2.2.2.2.1) (e.2.2.2.2.2.2.1) (e.2.2.2.2.2.2.2.1) (e.2.2.2.2.2.2.2.2.1) (e.2.2.2.2.2.2.2.2.2.1) (e.2.2.2.2.2.2.2.2.2.2.1))).symm.trans h
 |[_,_,_,_,_,_,_,_,_,_,_,_],B,A,h=>exact(BJ (b:=b) (a:=λx1 x2 x3 x4 x5 x6 x7 x8 x9 Ga LL WI=>B (x1,x2,x3,x4,x5,x6,x7,x8,x9,Ga,LL,WI,())) (f:=λj=>A λe=>j (e.1) (e.2.1) (e.2.2.1) (e.2.2.2.1) (e.2.2.2.2.1) (e.2.2.2.2.2.1) (e.2.2.2.2.2.2.1) (e.2.2.2.2.2.2.2.1) (e.2.2.2.2.2.2.2.2.1) (e.2.2.2.2.2.2.2.2.2.1) (e.2.2.2.2.2.2.2.2.2.2.1) (e.2.2.2.2.2.2.2.2.2.2.2.1))).symm.trans h
 |[],B,A,h=>exact h
 |_ ::_ ::_ ::_ ::_ ::_ ::_ ::_ ::_ ::_ ::_ ::_ ::_ ::_,B,A,h=>exact h
def ZY{B Z:Type}:(l:List Ty)->(B->(HL G l->Option Z)->HL G l->Option Z)->(HL G l->Option Z)->List B->HL G l->Option Z
 |[],b,fin,l,_ =>zn (λy k (_ :Unit)=>b y (λ_ =>k ()) ()) (λ_ =>fin ()) l ()
 |[_],b,fin,l,e=>zn (λy k x1=>b y (λe=>k (e.1)) (x1,())) (λx1=>fin (x1,())) l (e.1)
 |[_,_],b,fin,l,e=>XZ (λy k x1 x2=>b y (λe=>k (e.1) (e.2.1)) (x1,x2,())) (λx1 x2=>fin (x1,x2,())) l (e.1) (e.2.1)
 |[_,_,_],b,fin,l,e=>TO (λy k x1 x2 x3=>b y (λe=>k (e.1) (e.2.1) (e.2.2.1)) (x1,x2,x3,())) (λx1 x2 x3=>fin (x1,x2,x3,())) l (e.1) (e.2.1) (e.2.2.1)
 |[_,_,_,_],b,fin,l,e=>XY (λy k x1 x2 x3 x4=>b y (λe=>k (e.1) (e.2.1) (e.2.2.1) (e.2.2.2.1)) (x1,x2,x3,x4,())) (λx1 x2 x3 x4=>fin (x1,x2,x3,x4,())) l (e.1) (e.2.1) (e.2.2.1) (e.2.2.2.1)
 |[_,_,_,_,_],b,fin,l,e=>XX (λy k x1 x2 x3 x4 x5=>b y (λe=>k (e.1) (e.2.1) (e.2.2.1) (e.2.2.2.1) (e.2.2.2.2.1)) (x1,x2,x3,x4,x5,())) (λx1 x2 x3 x4 x5=>fin (x1,x2,x3,x4,x5,())) l (e.1) (e.2.1) (e.2.2.1) (e.2.2.2.1) (e.2.2.2.2.1)
 |[_,_,_,_,_,_],b,fin,l,e=>XW (λy k x1 x2 x3 x4 x5 x6=>b y (λe=>k (e.1) (e.2.1) (e.2.2.1) (e.2.2.2.1) (e.2.2.2.2.1) (e.2.2.2.2.2.1)) (x1,x2,x3,x4,x5,x6,())) (λx1 x2 x3 x4 x5 x6=>fin (x1,x2,x3,x4,x5,x6,())) l (e.1) (e.2.1) (e.2.2.1) (e.2.2.2.1) (e.2.2.2.2.1) (e.2.2.2.2.2.1)
 |[_,_,_,_,_,_,_],b,fin,l,e=>XV (λy k x1 x2 x3 x4 x5 x6 x7=>b y (λe=>k (e.1) (e.2.1) (e.2.2.1) (e.2.2.2.1) (e.2.2.2.2.1) (e.2.2.2.2.2.1) (e.2.2.2.2.2.2.1)) (x1,x2,x3,x4,x5,x6,x7,())) (λx1 x2 x3 x4 x5 x6 x7=>fin (x1,x2,x3,x4,x5,x6,x7,())) l (e.1) (e.2.1) (e.2.2.1) (e.2.2.2.1) (e.2.2.2.2.1) (e.2.2.2.2.2.1) (e.2.2.2.2.2.2.1)
 |[_,_,_,_,_,_,_,_],b,fin,l,e=>XU (λy k x1 x2 x3 x4 x5 x6 x7 x8=>b y (λe=>k (e.1) (e.2.1) (e.2.2.1) (e.2.2.2.1) (e.2.2.2.2.1) (e.2.2.2.2.2.1) (e.2.2.2.2.2.2.1) (e.2.2.2.2.2.2.2.1)) (x1,x2,x3,x4,x5,x6,x7,x8,())) (λx1 x2 x3 x4 x5 x6 x7 x8=>fin (x1,x2,x3,x4,x5,x6,x7,x8,())) l (e.1) (e.2.1) (e.2.2.1) (e.2.2.2.1) (e.2.2.2.2.1) (e.2.2.2.2.2.1) (e.2.2.2.2.2.2.1) (e.2.2.2.2.2.2.2.1)
 |_,_,_,_,_ =>none
theorem Ql{B Z:Type}:∀{l:List Ty} {b:B->(HL G l->Option Z)->HL G l->Option Z} {fin:HL G l->Option Z} {e:HL G l} {z:Z},ZY l b fin [] e=some z->fin e=some z:=by
 intro l b fin e z h
 match l,b,fin,e,h with
 |[],b,fin,e,h=>exact h
 |[_],b,fin,e,h=>exact h
 |[_,_],b,fin,e,h=>exact h
 |[_,_,_],b,fin,e,h=>exact h
 |[_,_,_,_],b,fin,e,h=>exact h
 |[_,_,_,_,_],b,fin,e,h=>exact h
 |[_,_,_,_,_,_],b,fin,e,h=>exact h
 |[_,_,_,_,_,_,_],b,fin,e,h=>exact h
 |[_,_,_,_,_,_,_,_],b,fin,e,h=>exact h
 |_ ::_ ::_ ::_ ::_ ::_ ::_ ::_ ::_ ::_,b,fin,e,h=>cases h
theorem M7{B Z:Type}:∀{l:List Ty} {b:B->(HL G l->Option Z)->HL G l->Option Z} {fin:HL G l->Option Z} {y:B} {q:List B} {e:HL G l} {z:Z},ZY l b fin (y::q) e=some z->b y (ZY l b fin q) e=some z:=by
 intro l b fin y q e z h
 match l,b,fin,e,h with
 |[],b,fin,e,h=>exact h
 |[_],b,fin,e,h=>exact h
 |[_,_],b,fin,e,h=>exact h
 |[_,_,_],b,fin,e,h=>exact h
 |[_,_,_,_],b,fin,e,h=>exact h
 |[_,_,_,_,_],b,fin,e,h=>exact h
 |[_,_,_,_,_,_],b,fin,e,h=>exact h
 |[_,_,_,_,_,_,_],b,fin,e,h=>exact h
 |[_,_,_,_,_,_,_,_],b,fin,e,h=>exact h
 |_ ::_ ::_ ::_ ::_ ::_ ::_ ::_ ::_ ::_,b,fin,e,h=>cases h
inductive Src where
 |slot (d:Nat)
 |obj (r:Nat)
structure Hv where
 l:List (Src×Sh)
 nm:List (Option Nat)
def oW:List (Src×Sh)->Sh
 |[]=> .nil
 |(_,s)::r=> .cons s (oW r)
def Ag(C:CC G)(S:AS G):List (Src×Sh)->Option (AV G)
 |[]=>some .nil
 |(.slot d,_)::r=>match dX C S [] (.tmp d),Ag C S r with
  |some v,some l=>some (.cons v l)
  |_,_ =>none
 |(.obj b,_)::r=>match bP S.O b,Ag C S r with
  |some (.bK _ _),some l=>some (.cons (.ptr b []) l)
  |_,_ =>none
def sU:List (Option Nat)->List Nat->Bool
 |[],[]=>true
 |some r::q,s::th=>Nat.beq r s&&sU q th
 |none::q,_ ::th=>sU q th
 |_,_ =>false
def Im(base:Nat)(nm:List (Option Nat))(m:Nat):Nat:=match nm[m]? with
 |some (some r)=>r
 |_ =>base+m
def sV(base:Nat):List (Option Nat)->Bool
 |[]=>true
 |some r::q=>Nat.blt r base&&sV base q
 |none::q=>sV base q
def CA:List (Src×Sh)->AV G->Fr G
 |(.slot d,_)::r, .cons v l=>(d,v)::CA r l
 |(.obj _,_)::r, .cons _ l=>CA r l
 |_,_ =>[]
def AV.lt(n:Nat):AV G->Bool
 | .ptr r _ =>Nat.blt r n
 | .row r=>Nat.blt r n
 | .CG r _ _ _ _ _ =>Nat.blt r n
 | .mp r=>Nat.blt r n
 | .yl r=>Nat.blt r n
 | .fn _ a c=>a.lt n&&c.lt n
 | .st a=>a.lt n
 | .gO a=>a.lt n
 | .gM _ v=>v.lt n
 | .gd _ _ v=>v.lt n
 | .cons a b=>a.lt n&&b.lt n
 | .part _ a b=>a.lt n&&b.lt n
 |_ =>true
theorem rl.di{n:Nat}(m:∀r,r<n->ρ' r=ρ r):∀{v:AV G} {l:List Value},v.lt n=true->rl J ρ v l->rl J ρ' v l:=by
 intro v
 induction v with
 |ptr r p=>intro l h1 h;have hr:=m r (by simpa[AV.lt,Nat.blt_eq]using h1);obtain⟨⟨b,o,k1,k2⟩,k3⟩:=h;refine⟨⟨b,o,?_,k2⟩,k3⟩;unfold PB at k1 ⊢;rw[hr];exact k1
 |CG r p n' sz up i=>intro l h1 h;have hr:=m r (by simpa[AV.lt,Nat.blt_eq]using h1);obtain⟨⟨b,o,k1,k2⟩,k3⟩:=h;refine⟨⟨b,o,?_,k2⟩,k3⟩;unfold PB at k1 ⊢;rw[hr];exact k1
 |row r=>intro l h1 h;unfold rl at h ⊢;rw[m r (by simpa[AV.lt,Nat.blt_eq]using h1)];exact h
 |mp r=>intro l h1 h;unfold rl at h ⊢;rw[m r (by simpa[AV.lt,Nat.blt_eq]using h1)];exact h
 |yl r=>intro l h1 h;unfold rl at h ⊢;rw[m r (by simpa[AV.lt,Nat.blt_eq]using h1)];exact h
 |fn f a c jD zo=>intro l h1 h;simp only[AV.lt,ab7]at h1;obtain⟨fs,cs,e,h2,h3⟩:=h;exact⟨fs,cs,e,jD h1.1 h2,zo h1.2 h3⟩
 |st a ih=>intro l h1 h;obtain⟨cs,e,h2,h3⟩:=h;exact⟨cs,e,ih h1 h2,h3⟩
 |gO a ih=>intro l h1 h;obtain⟨vs,e,h2⟩:=h;exact⟨vs,e,ih h1 h2⟩
 |gM t v ih=>intro l h1 h;obtain⟨u,e,h2⟩:=h;exact⟨u,e,ih h1 h2⟩
 |cons a b jD ox=>intro l h1 h;simp only[AV.lt,ab7]at h1;obtain⟨u,r,e,h2,h3⟩:=h;exact⟨u,r,e,jD h1.1 h2,ox h1.2 h3⟩
 |part w a b jD ox=>intro l h1 h;simp only[AV.lt,ab7]at h1;obtain⟨c1,c2,u,e,h2,h3,h4,h5⟩:=h;exact⟨c1,c2,u,e,h2,jD h1.1 h3,h4,ox h1.2 h5⟩
 |_ =>intro l _ h;exact h
def M3(n:Nat):Fr G->Bool
 |[]=>true
 |(_,v)::r=>v.lt n&&M3 n r
def qB(n:Nat):Os G->Bool
 |[]=>true
 |(r, .bK _ c)::q=>Nat.blt r n&&(c.lt n&&qB n q)
 |(r, .row _ _ _ _)::q=>Nat.blt r n&&qB n q
 |(r, .aux _)::q=>Nat.blt r n&&qB n q
 |(r, .gm)::q=>Nat.blt r n&&qB n q
 |(r, .fm _ _ vs)::q=>Nat.blt r n&&(vs.lt n&&qB n q)
 |(r, .lp _ _ vs _ _ _)::q=>Nat.blt r n&&(vs.lt n&&qB n q)
def Qa(n:Nat):List (AV G)->Bool
 |[]=>true
 |v::r=>v.lt n&&Qa n r
def uI(n:Nat):CC G->Bool
 |[]=>true
 |y::r=>M3 n y.F&&(qB n y.O&&(Qa n y.D&&uI n r))
theorem RY{n:Nat}:∀{F:Fr G} {d:Nat} {v:AV G},M3 n F=true->bP F d=some v->v.lt n=true:=by
 intro F
 induction F with
 |nil=>intro d v _ h;cases h
 |cons p r ih=>
  obtain⟨k,u⟩:=p;intro d v h e;simp only[M3,ab7]at h;simp only[bP]at e;cases hb:Nat.beq k d with
  |true=>rw[hb]at e;cases e;exact h.1
  |false=>rw[hb]at e;exact ih h.2 e
theorem rf.di{n:Nat}(m:∀r,r<n->ρ' r=ρ r){t:Array Value}{v:AV G}{u:Value}(h1:v.lt n=true)(h:rf J ρ t v u):rf J ρ' t v u:=by
 cases v with
 |gd j w v=>exact⟨λe=>(h.1 e).di m h1,h.2⟩
 |_ =>exact rl.di m h1 h
theorem mV.di{n:Nat}(m:∀r,r<n->ρ' r=ρ r){F:Fr G}{t:Array Value}(h1:M3 n F=true)(h:mV J ρ F t):mV J ρ' F t:=λd v e=>by obtain⟨u,k1,k2⟩:=h d v e;exact⟨u,k1,k2.di m (RY h1 e)⟩
def Ob.lt(n:Nat):Ob G->Bool
 | .bK _ c=>c.lt n
 | .fm _ _ vs=>vs.lt n
 | .lp _ _ vs _ _ _ =>vs.lt n
 |_ =>true
theorem M1{n:Nat}:∀{O:Os G} {r:Nat} {o:Ob G},qB n O=true->bP O r=some o->(Nat.blt r n&&o.lt n)=true:=by
 intro O
 induction O with
 |nil=>intro r o _ h;cases h
 |cons p q ih=>
  obtain⟨k,u⟩:=p;intro r o h e;have h2:(Nat.blt k n&&u.lt n)=true/\qB n q=true:=by
   cases u with
   |bK T c=>simp only[qB,ab7]at h;exact⟨by simp[Ob.lt,h.1,h.2.1],h.2.2⟩
   |row _ _ _ _ =>simp only[qB,ab7]at h;exact⟨by simp[Ob.lt,h.1],h.2⟩
   |aux _ =>simp only[qB,ab7]at h;exact⟨by simp[Ob.lt,h.1],h.2⟩
   |gm=>simp only[qB,ab7]at h;exact⟨by simp[Ob.lt,h.1],h.2⟩
   |fm _ _ _ =>simp only[qB,ab7]at h;exact⟨by simp[Ob.lt,h.1,h.2.1],h.2.2⟩
   |lp _ _ _ _ _ _ =>simp only[qB,ab7]at h;exact⟨by simp[Ob.lt,h.1,h.2.1],h.2.2⟩
  simp only[bP]at e;cases hb:Nat.beq k r with
  |true=>rw[hb]at e;cases e;rw[← ab6 hb];exact h2.1
  |false=>rw[hb]at e;exact ih h2.2 e
theorem ro.di{n:Nat}(m:∀r,r<n->ρ' r=ρ r){r:Nat}{o:Ob G}{x:ay}(h:ro J ρ r o x)(hl:(Nat.blt r n&&o.lt n)=true):ro J ρ' r o x:=by
 rw[ab7]at hl;have hr:=m r (by simpa[Nat.blt_eq]using hl.1);cases o with
 |bK T c=>obtain⟨b,u,k1,k2,k3⟩:=h;exact⟨b,u,hr.trans k1,k2,k3.di m hl.2⟩
 |row e sz t xs=>obtain⟨v,ws,k1,k2⟩:=h;exact⟨v,ws,hr.trans k1,k2⟩
 |aux b=>obtain⟨n,x,k1,k2⟩:=h;exact⟨n,x,hr.trans k1,k2⟩
 |gm=>obtain⟨⟨mb,g,k1,k2⟩,k4⟩:=h;exact⟨⟨mb,g,hr.trans k1,k2⟩,k4⟩
 |fm q ks vs=>obtain⟨b,es,ck,us,k1,k2,k3,k4,k5⟩:=h;exact⟨b,es,ck,us,hr.trans k1,k2,k3,k4.di m hl.2,k5⟩
 |lp N ks vs ps a b=>obtain⟨n,rec,us,k1,k2,k3,k4⟩:=h;exact⟨n,rec,us,hr.trans k1,k2,k3.di m hl.2,k4⟩
theorem RO.di{n:Nat}(m:∀r,r<n->ρ' r=ρ r){O:Os G}{H:List ay}(h:RO J ρ O H):qB n O=true->RO J ρ' O H:=by
 induction h with
 |nil=>intro _;exact .nil
 |@cons r o x O H h _ ih=>
  intro hl;cases o with
  |bK T c=>simp only[qB,ab7]at hl;obtain⟨b,u,k1,k2,k3⟩:=h;exact .cons ⟨b,u,(m r (by simpa[Nat.blt_eq]using hl.1)).trans k1,k2,k3.di m hl.2.1⟩ (ih hl.2.2)
  |row e sz t xs=>simp only[qB,ab7]at hl;obtain⟨v,ws,k1,k2⟩:=h;exact .cons ⟨v,ws,(m r (by simpa[Nat.blt_eq]using hl.1)).trans k1,k2⟩ (ih hl.2)
  |aux b=>simp only[qB,ab7]at hl;obtain⟨v,ws,k1,k2⟩:=h;exact .cons ⟨v,ws,(m r (by simpa[Nat.blt_eq]using hl.1)).trans k1,k2⟩ (ih hl.2)
  |gm=>simp only[qB,ab7]at hl;obtain⟨⟨mb,g,k1,k2⟩,k4⟩:=h;exact .cons ⟨⟨mb,g,(m r (by simpa[Nat.blt_eq]using hl.1)).trans k1,k2⟩,k4⟩ (ih hl.2)
  |fm q ks vs=>simp only[qB,ab7]at hl;obtain⟨b,es,ck,us,k1,k2,k3,k4,k5⟩:=h;exact .cons ⟨b,es,ck,us,(m r (by simpa[Nat.blt_eq]using hl.1)).trans k1,k2,k3,k4.di m hl.2.1,k5⟩ (ih hl.2.2)
  |lp N ks vs ps a b=>simp only[qB,ab7]at hl;obtain⟨n,rec,us,k1,k2,k3,k4⟩:=h;exact .cons ⟨n,rec,us,(m r (by simpa[Nat.blt_eq]using hl.1)).trans k1,k2,k3.di m hl.2.1,k4⟩ (ih hl.2.2)
theorem DR.di{n:Nat}(m:∀r,r<n->ρ' r=ρ r){l:List (AV G)}{D:List Deferred}(h:DR J ρ l D):Qa n l=true->DR J ρ' l D:=by
 induction h with
 |nil=>intro _;exact .nil
 |@cons v d l D h _ ih=>
  intro hl;simp only[Qa,ab7]at hl;refine .cons ?_ (ih hl.2);unfold dr at h;split at h
  ·simp only[AV.lt,ab7]at hl
   obtain⟨fs,cs,ls,k1,k2,k3,k4⟩:=h;exact⟨fs,cs,ls,k1.di m hl.1.1.1,k2.di m hl.1.1.2,k3.di m hl.1.2,k4⟩
  ·obtain⟨rfl,b,k1,k2⟩:=h
   exact⟨rfl,b,(m _ (by simpa[AV.lt,Nat.blt_eq]using hl.1)).trans k1,k2⟩
  ·exact h.elim
theorem M4{n:Nat}:∀{C:CC G},uI n C=true->∀y∈C,M3 n y.F=true:=by
 intro C
 induction C with
 |nil=>intro _ y h;cases h
 |cons x r ih=>
  intro h y hy;simp only[uI,ab7]at h;rcases List.mem_cons.1 hy with rfl|hy
  ·exact h.1
  ·exact ih h.2.2.2 y hy
theorem P9{n:Nat}:∀{A B:Os G},qB n A=true->qB n B=true->qB n (A++B)=true:=by
 intro A
 induction A with
 |nil=>intro B _ h;exact h
 |cons p r ih=>
  obtain⟨k,o⟩:=p;intro B h1 h2;cases o<;>simp only[List.cons_append,qB,ab7]at h1 ⊢
  ·exact⟨h1.1,h1.2.1,ih h1.2.2 h2⟩
  ·exact⟨h1.1,ih h1.2 h2⟩
  ·exact⟨h1.1,ih h1.2 h2⟩
  ·exact⟨h1.1,ih h1.2 h2⟩
  ·exact⟨h1.1,h1.2.1,ih h1.2.2 h2⟩
  ·exact⟨h1.1,h1.2.1,ih h1.2.2 h2⟩
theorem Fm{n:Nat}:∀{A B:List (AV G)},Qa n A=true->Qa n B=true->Qa n (A++B)=true:=by
 intro A
 induction A with
 |nil=>intro B _ h;exact h
 |cons p r ih=>intro B h1 h2;simp only[List.cons_append,Qa,ab7]at h1 ⊢;exact⟨h1.1,ih h1.2 h2⟩
theorem Bb{n:Nat}:∀{C:CC G},uI n C=true->qB n (iZ C)=true/\Qa n (Sq C)=true:=by
 intro C
 induction C with
 |nil=>intro _;exact⟨rfl,rfl⟩
 |cons x r ih=>intro h;simp only[uI,ab7]at h;obtain⟨i1,i2⟩:=ih h.2.2.2;exact⟨P9 h.2.1 i1,Fm h.2.2.1 i2⟩
theorem Pm{c:Cx}{N:Nat}{HK X:List ay}{C:CC G}{S:AS G}{a:Act}{w:World}(h:Rl c N ρ J HK X C S a w):∀{l:List (Src×Sh)} {v:AV G},Ag C S l=some v->∃us,rl J ρ v us/\∀(x:HL G (aD (oW l))) (f:Nat->Nat) (m:Nat) (τ:aP),rl J τ (dy f (oW l) x m).1 us->mV J τ (CA l (dy f (oW l) x m).1) a.tmps:=by
 intro l
 induction l with
 |nil=>intro v e;cases e;exact⟨[],rfl,λx f m τ _ d v e=>by cases e⟩
 |cons p r ih=>
  obtain⟨s,sh⟩:=p;intro v e;have key:∀(u0:Value) (us:List Value) (x:HL G (aD (oW ((s,sh)::r)))) (f:Nat->Nat) (m:Nat) (τ:aP),rl J τ (dy f (oW ((s,sh)::r)) x m).1 (u0::us)->
    rv J τ (dy f sh (HL.fst x) m).1 u0/\rl J τ (dy f (oW r) (HL.snd x) (dy f sh (HL.fst x) m).2.2).1 us:=λu0 us x f m τ hr=>by
   obtain⟨u,q,e1,h1,h2⟩:=hr;cases e1;exact⟨h1,h2⟩
  cases s with
  |slot d=>
   simp only[Ag]at e;split at e
   ·rename_i v1 l1 e1 e2
    cases e;obtain⟨us,i1,i2⟩:=ih e2;have hE:=bQ h (ch:=[]) (by simp);have hin:=hE.ev _ _ e1;have hd:a.tmps[d]? =some (a.eval (.tmp d)):=Ca a d _ hin;refine⟨a.eval (.tmp d)::us,⟨_,_,rfl,hE.ok _ _ e1,i1⟩,λx f m τ hr=>?_⟩;obtain⟨k1,k2⟩:=key _ _ _ _ _ _ hr;have:=i2 (HL.snd x) f _ τ k2;intro k v e;have e:bP ((d,(dy f sh (HL.fst x) m).1)::CA r (dy f (oW r) (HL.snd x) (dy f sh (HL.fst x) m).2.2).1) k=some v:=e;simp only[bP]at e;cases hb:Nat.beq d k with
    |true=>
     rw[hb]at e;cases e;obtain rfl:=ab6 hb;refine⟨_,hd,?_⟩;have hng:∀j w v',(dy f sh (HL.fst x) m).1≠ .gd j w v':=λj w v' q=>by rw[q]at k1;exact k1
     revert k1;generalize(dy f sh (HL.fst x) m).1=b at hng;intro k1;cases b with
     |gd j w v'=>exact absurd rfl (hng j w v')
     |_ =>exact k1
    |false=>rw[hb]at e;exact this k v e
   ·cases e
  |obj b=>
   simp only[Ag]at e;split at e
   ·rename_i T cc l1 e1 e2
    cases e;obtain⟨us,i1,i2⟩:=ih e2;obtain⟨HS,q1,_⟩:=h.hp;obtain⟨k,y,_,⟨b',u,m1,_,_⟩⟩:=q1.get e1;refine⟨cy b' 0::us,⟨_,_,rfl,⟨⟨b',0, .inl m1,rfl⟩,by simp⟩,i1⟩,λx f m τ hr=>?_⟩;obtain⟨k1,k2⟩:=key _ _ _ _ _ _ hr;exact i2 (HL.snd x) f _ τ k2
   ·cases e
theorem MU:∀{nm:List (Option Nat)} {th:List Nat},sU nm th=true->nm.length=th.length/\∀(m r:Nat),nm[m]? =some (some r)->th[m]? =some r:=by
 intro nm
 induction nm with
 |nil=>intro th h;cases th with
  |nil=>exact⟨rfl,λm r e=>by simp at e⟩
  |cons _ _ =>cases h
 |cons o q ih=>
  intro th h;cases th with
  |nil=>cases o<;>cases h
  |cons s th=>
   have h1:sU q th=true/\∀r,o=some r->r=s:=by
    cases o with
    |none=>exact⟨h,nofun⟩
    |some r=>simp only[sU,ab7]at h;exact⟨h.2,λr' e=>by cases e;exact ab6 h.1⟩
   obtain⟨i1,i2⟩:=ih h1.1;refine⟨by simp[i1],λm r e=>?_⟩;cases m with
   |zero=>simp at e;simp[h1.2 r e]
   |succ m=>simpa using i2 m r (by simpa using e)
theorem MV{base:Nat}:∀{nm:List (Option Nat)},sV base nm=true->∀(m r:Nat),nm[m]? =some (some r)->r<base:=by
 intro nm
 induction nm with
 |nil=>intro _ m r e;simp at e
 |cons o q ih=>
  intro h m r e;cases m with
  |zero=>simp at e;subst e;simp only[sV,ab7]at h;simpa[Nat.blt_eq]using h.1
  |succ m=>
   refine ih ?_ m r (by simpa using e);cases o with
   |none=>exact h
   |some _ =>simp only[sV,ab7]at h;exact h.2
def DX(g:Hv)(base:Nat)(x:HL G (aD (oW g.l))):AS G:=⟨CA g.l (dy (Im base g.nm) (oW g.l) x 0).1,(dy (Im base g.nm) (oW g.l) x 0).2.1,base+g.nm.length,[]⟩
def C0(C:CC G)(S:AS G)(g:Hv)(base:Nat):Option (HL G (aD (oW g.l))):=match S.D with
 |[]=>match Ag C S g.l with
  |some v=>match jV (oW g.l) v ⟨[],S.O,S.nx⟩with
   |some (x,g')=>bif sU g.nm g'.th&&(sV base g.nm&&Nat.ble base S.nx)then some x else none
   |none=>none
  |none=>none
 |_ =>none
theorem Jz{c:Cx}{N:Nat}{HK X:List ay}{C:CC G}{S:AS G}{a:Act}{w:World}{g:Hv}{base:Nat}{v:AV G}{x:HL G (aD (oW g.l))}{g':GS G}(h:Rl c N ρ J HK X C S a w)(hv:Ag C S g.l=some v)(EC:jV (oW g.l) v ⟨[],S.O,S.nx⟩=some (x,g'))
  (b1:sU g.nm g'.th=true)(b2:sV base g.nm=true)(b3:base<=S.nx)(hl:uI base C=true):
  ∃(ρ' ρ2:aP) (HB H':List ay),ρ.to ρ' base/\ρ.to ρ2 S.nx/\RO J ρ' (DX g base x).O HB/\RO J ρ2 g'.O H'/\(∀r o,bP (iZ C) r=some o->∃x∈HK,ro J ρ' r o x)/\aX c.bs c.w0.heap.size (HB++(H'++(HK++X))) w/\mV J ρ' (DX g base x).F a.tmps/\FC J ρ' C a.tmps/\ρ'.fr (base+g.nm.length):=by
 obtain⟨n1,n2⟩:=MU b1;have n3:=MV b2;obtain⟨us,i1,i2⟩:=Pm h hv;obtain⟨HS,q1,q3⟩:=h.hp;obtain⟨ρ2,HB,H',k⟩:=C2 EC i1 q1 h.fr;let ρ':aP:=λr=>if r<base then ρ r else cmp ρ2 g'.th (r-base)
 have hto:ρ.to ρ' base:=λr hr=>by show(if r<base then _ else _)=_;rw[ab4 hr]
 have hmap:∀m u,cmp ρ2 g'.th m=some u->ρ' (Im base g.nm m)=some u:=λm u e=>by
  have hm:m<g.nm.length:=by
   unfold cmp at e;rcases Nat.lt_or_ge m g'.th.length with hlt|hge
   ·omega
   ·rw[List.getElem?_eq_none hge]at e;cases e
  unfold Im;obtain⟨o,ho⟩:∃o,g.nm[m]? =some o:=⟨_,acg hm⟩;rw[ho];cases o with
  |none=>show(if base+m<base then _ else cmp ρ2 g'.th (base+m-base))=_;rw[ab5 (by omega),Nat.add_sub_cancel_left];exact e
  |some r=>have hr:=n3 m r ho;have ht:=n2 m r ho;unfold cmp at e;rw[ht]at e;show(if r<base then ρ r else _)=_;rw[ab4 hr, ← k.to r (by show r<S.nx;omega)];exact e
 obtain⟨r1,r2,_⟩:=zG (G:=G) (f:=Im base g.nm) (s:=oW g.l) (x:=x) (m:=0);have hval:rl J ρ' (dy (Im base g.nm) (oW g.l) x 0).1 us:=by rw[r1];exact CB hmap k.val
 have CZ:RO J ρ' (dy (Im base g.nm) (oW g.l) x 0).2.1 HB:=by rw[r2];exact Jq hmap k.bK
 have hag:∀r,r<base->ρ' r=ρ r:=hto;obtain⟨l1,l2⟩:=Bb hl;refine⟨ρ',ρ2,HB,H',hto,k.to,CZ,k.left,λr o e=>?_,k.hp (HK++X) _ _ _ q3,i2 x _ 0 ρ' hval,λz hz=>(h.fc z hz).di hag (M4 hl z hz),λr hr=>?_⟩
 ·obtain⟨y,y1,y2⟩:=h.kc r o e
  exact⟨y,y1,y2.di hag (M1 l1 e)⟩
 show(if r<base then ρ r else cmp ρ2 g'.th (r-base))=none;rw[ab5 (by omega)];unfold cmp;rw[List.getElem?_eq_none (by omega)]
theorem P7{c:Cx}{N:Nat}{HK X:List ay}{C:CC G}{S:AS G}{a:Act}{w:World}{g:Hv}{base:Nat}{x:HL G (aD (oW g.l))}(h:Rl c N ρ J HK X C S a w)(hg:C0 C S g base=some x)(hl:uI base C=true):
  ∃ρ',ρ.to ρ' base/\Rl c N ρ' J HK X C (DX g base x) a w:=by
 unfold C0 at hg;split at hg
 ·rename_i hD
  split at hg
  ·rename_i v hv
   split at hg
   ·rename_i y g' EC
    cases hb:(sU g.nm g'.th&&(sV base g.nm&&Nat.ble base S.nx))with
    |false=>rw[hb]at hg;cases hg
    |true=>rw[hb]at hg;cases hg;simp only[ab7]at hb;obtain⟨b1,b2,b3⟩:=hb;obtain⟨ρ',ρ2,HB,H',hto,_,CZ,_,hC,hp,hF,YJ,hfr⟩:=Jz h hv EC b1 b2 (Nat.le_of_ble_eq_true b3) hl;have hdf:=h.df;rw[hD]at hdf;refine⟨ρ',hto,h.tm,hdf.di hto (Bb hl).2,h.si,hF,YJ,hC,⟨HB,CZ,?_⟩,h.kn,hfr⟩;exact hp.sub ((List.Sublist.refl HB).append (List.sublist_append_right H' (HK++X)))
   ·cases hg
  ·cases hg
 ·cases hg
def bY:List Nat->Nat->Bool
 |[],_ =>false
 |k::r,d=>Nat.beq k d||bY r d
def vD:List (Src×Sh)->Nat->Bool
 |[],_ =>false
 |(.slot k,_)::r,d=>Nat.beq k d||vD r d
 |(.obj _,_)::r,d=>vD r d
def gj(p:Nat->Bool):Fr G->Fr G
 |[]=>[]
 |(k,v)::r=>bif p k then(k,v)::gj p r else gj p r
theorem QJ{p:Nat->Bool}:∀{F:Fr G} {d:Nat} {v:AV G},bP (gj p F) d=some v->bP F d=some v:=by
 intro F
 induction F with
 |nil=>intro d v h;cases h
 |cons q r ih=>
  obtain⟨k,u⟩:=q;intro d v h;have key:∀{G0:Fr G},(∀x,(k,x)∉G0)->True:=λ_ =>trivial;simp only[gj]at h;cases hp:p k with
  |true=>
   rw[hp]at h;simp only[cond_true,bP]at h ⊢;cases hb:Nat.beq k d with
   |true=>rw[hb]at h;exact h
   |false=>rw[hb]at h;exact ih h
  |false=>
   rw[hp]at h;simp only[cond_false]at h;simp only[bP];cases hb:Nat.beq k d with
   |true=>
    obtain rfl:=ab6 hb;exact absurd h (by
     have:∀{F:Fr G},bP (gj p F) k=none:=by
      intro F
      induction F with
      |nil=>rfl
      |cons q r ih=>
       obtain⟨k',u'⟩:=q;simp only[gj];cases hp':p k' with
       |true=>
        simp only[cond_true,bP];cases hb':Nat.beq k' k with
        |true=>rw[ab6 hb']at hp';rw[hp]at hp';cases hp'
        |false=>exact ih
       |false=>exact ih
     rw[this];simp)
   |false=>exact ih h
theorem mV.O8{p:Nat->Bool}{F:Fr G}{t:Array Value}(h:mV J ρ F t):mV J ρ (gj p F) t:=λd v e=>h d v (QJ e)
def bJ(p:Nat->Bool):Os G->Os G
 |[]=>[]
 |(k,v)::r=>bif p k then(k,v)::bJ p r else bJ p r
theorem RO.O8{p:Nat->Bool}{O:Os G}{H:List ay}(h:RO J ρ O H):∃H1 H2,RO J ρ (bJ p O) H1/\RO J ρ (bJ (λk=> !p k) O) H2/\H.Perm (H1++H2):=by
 induction h with
 |nil=>exact⟨[],[], .nil, .nil, .refl _⟩
 |@cons r o x O H h _ ih=>
  obtain⟨H1,H2,i1,i2,i3⟩:=ih;simp only[bJ];cases hp:p r with
  |true=>exact⟨x::H1,H2, .cons h i1,by simpa[hp]using i2,i3.cons x⟩
  |false=>exact⟨H1,x::H2,by simpa[hp]using i1, .cons h i2,(i3.cons x).trans List.perm_middle.symm⟩
def F4(y:Ly G)(S:AS G):AS G:=⟨S.F++y.F,S.O++y.O,S.nx,S.D++y.D⟩
theorem g8{α:Type}:∀{A B:List (Nat×α)} {d:Nat},bP (A++B) d=match bP A d with
  |some v=>some v
  |none=>bP B d:=by
 intro A
 induction A with
 |nil=>intro B d;rfl
 |cons q r ih=>
  obtain⟨k,u⟩:=q;intro B d;simp only[List.cons_append,bP];cases hb:Nat.beq k d with
  |true=>rfl
  |false=>exact ih
theorem RO.lk{O:Os G}{H:List ay}(h:RO J ρ O H){r:Nat}{o:Ob G}(e:bP O r=some o):∃x∈H,ro J ρ r o x:=by obtain⟨k,x,h1,h2⟩:=h.get e;exact⟨x,List.mem_of_getElem? h1,h2⟩
theorem Rl.F4{c:Cx}{N:Nat}{H2 HK X:List ay}{y:Ly G}{C:CC G}{S:AS G}{a:Act}{w:World}(h:Rl c N ρ J (H2++HK) X (y::C) S a w)(hy:RO J ρ y.O H2)(hk:∀r o,bP (iZ C) r=some o->∃x∈HK,ro J ρ r o x)(hn:uy (iZ C)=true->c.ro=none):Rl c N ρ J HK X C (F4 y S) a w:=by
 obtain⟨HS,q1,q3⟩:=h.hp;refine⟨h.tm,?_,⟨h.si.s,hn⟩,λd v e=>?_,λz hz=>h.fc z (ack _ hz),hk,⟨HS++H2,q1.app hy,by simpa using q3⟩,h.kn,h.fr⟩
 ·have:=h.df
  show DR J ρ ((S.D++y.D)++Sq C) a.defers;rw[List.append_assoc];exact this
 ·have e:bP (S.F++y.F) d=some v:=e
  rw[g8]at e;split at e
  ·rename_i v' hv;cases e;exact h.fs d _ hv
  ·exact h.fc y List.mem_cons_self d v e
theorem Rl.push{c:Cx}{N:Nat}{HK X:List ay}{C:CC G}{S:AS G}{a:Act}{w:World}(p q:Nat->Bool)(h:Rl c N ρ J HK X C S a w):∃H2,RO J ρ (bJ (λr=> !q r) S.O) H2/\Rl c N ρ J (H2++HK) X (⟨gj (λd=> !p d) S.F,bJ (λr=> !q r) S.O,S.D⟩::C) ⟨gj p S.F,bJ q S.O,S.nx,[]⟩ a w:=by
 obtain⟨HS,q1,q3⟩:=h.hp;obtain⟨H1,H2,k1,k2,k3⟩:=q1.O8 (p:=q);refine⟨H2,k2,h.tm,h.df,⟨h.si.s,λq=>h.si.n (zf q)⟩,h.fs.O8,λz hz=>?_,λr o e=>?_,⟨H1,k1,?_⟩,h.kn,h.fr⟩
 ·rcases List.mem_cons.1 hz with rfl|hz
  ·exact h.fs.O8
  ·exact h.fc z hz
 ·have e:bP (bJ (λr=> !q r) S.O++iZ C) r=some o:=e
  rw[g8]at e;split at e
  ·rename_i v' hv
   cases e;obtain⟨x,h1,h2⟩:=k2.lk hv;exact⟨x,ace _ h1,h2⟩
  ·obtain⟨x,h1,h2⟩:=h.kc r o e
   exact⟨x,acd _ h1,h2⟩
 ·refine q3.gH ?_
  have:=List.Perm.append_right (HK++X) k3;simpa using this
end Go.Rw
namespace Go.Rw
open Go Go.Bw Go.RowKit
variable {G:Sg} {P:Program} {J J':World->Prop} {ρ ρ' σ:aP}
def sb(r:Nat)(t:Ty)(xs:List (t.T G)):AV G->AV G
 | .row q=>bif Nat.beq q r then .dat (.sl t) xs else .row q
 | .fn k a c=> .fn k (sb r t xs a) (sb r t xs c)
 | .st a=> .st (sb r t xs a)
 | .gO a=> .gO (sb r t xs a)
 | .gM k v=> .gM k (sb r t xs v)
 | .gd j w v=> .gd j w (sb r t xs v)
 | .cons a b=> .cons (sb r t xs a) (sb r t xs b)
 | .part w a b=> .part w (sb r t xs a) (sb r t xs b)
 |v=>v
def W9(r:Nat)(t:Ty)(xs:List (t.T G)):Fr G->Fr G
 |[]=>[]
 |(k,v)::q=>(k,sb r t xs v)::W9 r t xs q
def sbB(r:Nat)(t:Ty)(xs:List (t.T G)):Ob G->Ob G
 | .bK T c=> .bK T (sb r t xs c)
 |o=>o
def sbO(r:Nat)(t:Ty)(xs:List (t.T G)):Os G->Os G
 |[]=>[]
 |(k,o)::q=>(k,sbB r t xs o)::sbO r t xs q
def sbD(r:Nat)(t:Ty)(xs:List (t.T G)):List (AV G)->List (AV G)
 |[]=>[]
 |v::q=>sb r t xs v::sbD r t xs q
def IG(r:Nat)(S:AS G):AS G:=match bP S.O r with
 |some (.row _ _ t xs)=>⟨W9 r t xs S.F,sbO r t xs (s7 S.O r),S.nx,sbD r t xs S.D⟩
 |_ =>S
def vF:List Nat->AS G->AS G
 |[],S=>S
 |r::q,S=>vF q (IG r S)
def s9(O:Os G):Sh->AV G->List Nat
 | .v _, .row r=>[r]
 | .box _ s, .ptr r []=>match bP O r with
  |some (.bK _ c)=>s9 O s c
  |_ =>[]
 | .fn _ a c, .fn _ x y=>s9 O a x++s9 O c y
 | .gO a, .gO x=>s9 O a x
 | .st a, .st x=>s9 O a x
 | .gM _ a, .gM _ x=>s9 O a x
 | .cons a b, .cons x y=>s9 O a x++s9 O b y
 | .part _ a b, .part _ x y=>s9 O a x++s9 O b y
 |_,_ =>[]
section
variable {r:Nat} {t:Ty} {xs:List (t.T G)}
theorem El(hr:∀u,ρ r=some u->sQ J (.sl t) xs u):∀{v:AV G} {l:List Value},rl J ρ v l->rl J ρ (sb r t xs v) l:=by
 intro v
 induction v with
 |row q=>
  intro l h;unfold sb;cases hb:Nat.beq q r with
  |false=>exact h
  |true=>obtain rfl:=ab6 hb;obtain⟨a,n,cap,h1,h2⟩:=h;exact⟨_,h2,hr _ h1⟩
 |fn f a c jD zo=>intro l h;obtain⟨fs,cs,e,h1,h2⟩:=h;exact⟨fs,cs,e,jD h1,zo h2⟩
 |st a ih=>intro l h;obtain⟨cs,e,h1,h2⟩:=h;exact⟨cs,e,ih h1,h2⟩
 |gO a ih=>intro l h;obtain⟨vs,e,h1⟩:=h;exact⟨vs,e,ih h1⟩
 |gM t v ih=>intro l h;obtain⟨u,e,h1⟩:=h;exact⟨u,e,ih h1⟩
 |cons a b jD ox=>intro l h;obtain⟨u,r,e,h1,h2⟩:=h;exact⟨u,r,e,jD h1,ox h2⟩
 |part w a b jD ox=>intro l h;obtain⟨c1,c2,u,e,h1,h2,h3,h4⟩:=h;exact⟨c1,c2,u,e,h1,jD h2,h3,ox h4⟩
 |_ =>intro l h;exact h
theorem W8(hr:∀u,ρ r=some u->sQ J (.sl t) xs u){tm:Array Value}{v:AV G}{u:Value}(h:rf J ρ tm v u):rf J ρ tm (sb r t xs v) u:=by
 have key:∀{v:AV G},rv J ρ v u->rf J ρ tm (sb r t xs v) u:=λ{v} hv=>by
  have h2:=El (xs:=xs) hr hv;revert h2;generalize sb r t xs v=y;intro h2;cases y with
  |gd j w v=>exact h2.elim
  |_ =>exact h2
 cases v with
 |gd j w v=>exact⟨λe=>El hr (h.1 e),h.2⟩
 |_ =>exact key h
theorem aaK(hr:∀u,ρ r=some u->sQ J (.sl t) xs u){tm:Array Value}:∀{F:Fr G},mV J ρ F tm->mV J ρ (W9 r t xs F) tm:=by
 intro F;have key:∀{F:Fr G} {d:Nat} {v:AV G},bP (W9 r t xs F) d=some v->∃v0,bP F d=some v0/\v=sb r t xs v0:=by
  intro F
  induction F with
  |nil=>intro d v e;cases e
  |cons p q ih=>
   obtain⟨k,v0⟩:=p;intro d v e;simp only[W9,bP]at e ⊢;cases hb:Nat.beq k d with
   |true=>rw[hb]at e;cases e;exact⟨_,rfl,rfl⟩
   |false=>rw[hb]at e;exact ih e
 intro h d v e;obtain⟨v0,h1,rfl⟩:=key e;obtain⟨u,h2,h3⟩:=h d v0 h1;exact⟨u,h2,W8 hr h3⟩
theorem aaJ(hr:∀u,ρ r=some u->sQ J (.sl t) xs u){O:Os G}{H:List ay}(h:RO J ρ O H):RO J ρ (sbO r t xs O) H:=by
 induction h with
 |nil=>exact .nil
 |@cons k o x O H h _ ih=>
  refine .cons ?_ ih;cases o with
  |bK T c=>obtain⟨b,u,h1,h2,h3⟩:=h;exact⟨b,u,h1,h2,El hr h3⟩
  |row _ _ _ _ =>exact h
  |aux _ =>exact h
  |gm=>exact⟨h.1,h.2⟩
  |fm _ _ _ =>exact h
  |lp _ _ _ _ _ _ =>exact h
theorem aaL(hr:∀u,ρ r=some u->sQ J (.sl t) xs u){l m:List (AV G)}{D:List Deferred}(h:DR J ρ (l++m) D):DR J ρ (sbD r t xs l++m) D:=by
 induction l generalizing D with
 |nil=>exact h
 |cons v q ih=>
  cases h with
  |cons h k=>
   refine .cons ?_ (ih k);unfold dr at h;split at h
   ·obtain⟨fs,cs,ls,k1,k2,k3,k4⟩:=h
    exact⟨fs,cs,ls,El hr k1,El hr k2,El hr k3,k4⟩
   ·exact h
   ·exact h.elim
end
theorem Rl.IG{c:Cx}{N:Nat}{HK X:List ay}{C:CC G}{S:AS G}{a:Act}{w:World}(r:Nat)(h:Rl c N ρ J HK X C S a w):∃(J':World->Prop) (Y:List ay),(∀w,J' w->J w)/\Rl c N ρ J' HK (Y++X) C (IG r S) a w:=by
 unfold Go.Rw.IG;split
 ·rename_i e sz t xs ho
  obtain⟨HS,q1,q3⟩:=h.hp;obtain⟨k,x,k1,⟨v,ws,m1,rfl,m3,m4,m5⟩,k3⟩:=q1.QL ho;let x:ay:= .row v e sz xs.length ws;let J':World->Prop:=λw=>J w/\Hs [x] w;have mJ:∀w,J' w->J w:=λw h=>h.1;have hr:∀u,ρ r=some u->sQ J' (.sl t) xs u:=λu hu=>by rw[m1]at hu;cases hu;have hc:v.cells.toList=[v]:=m3.cells;refine⟨⟨v,ws,hc,m3,bX.mono _ mJ m4,λw hw=>?_⟩,nofun,λ_ =>by rw[← hc]⟩;have:=Ro.rz (hw.2 x (by simp)).1;rw[m5];exact this
  have hle:=aP.le_refl ρ;have hxm:x∈HS:=List.mem_of_getElem? k1;have TQ:x∈HS++(HK++X):=ace _ hxm;obtain⟨q,Yt,Nh,hq3⟩:=h.kn.one (q3.holds x TQ) λb hb=>(q3.own x TQ b hb).2;refine⟨J',[q],mJ,h.tm,aaL hr (h.df.up mJ hle),h.si,aaK hr (h.fs.up mJ hle),h.fc.up mJ hle,h.Hw mJ hle,⟨HS.eraseIdx k,aaJ hr (k3.up mJ hle),?_⟩,hq3,h.fr⟩;have q4:=(q3.gH (mw k1 _)).set (k:=0) (r':=q) rfl (Nat.le_refl _) (λ_ _ _ =>rfl) Yt h.si.s.size (λb hb=>by
   rw[Nh]at hb;exact⟨.inl hb,(q3.own x TQ b hb).2⟩)
  refine aX.gH q4 ?_;have e1:HK++([q]++X)=HK++(q::X):=rfl;rw[e1];refine List.Perm.trans ?_ (List.Perm.append_left _ (List.perm_middle (a:=q) (l₁:=HK) (l₂:=X)).symm);exact(List.perm_middle (a:=q) (l₁:=HS.eraseIdx k) (l₂:=HK++X)).symm
 ·exact⟨J,[],λ_ h=>h,h⟩
theorem Rl.vF{c:Cx}{N:Nat}{HK:List ay}{C:CC G}{a:Act}{w:World}:∀(l:List Nat) {J:World->Prop} {X:List ay} {S:AS G},Rl c N ρ J HK X C S a w->∃(J':World->Prop) (Y:List ay),(∀w,J' w->J w)/\Rl c N ρ J' HK (Y++X) C (vF l S) a w:=by
 intro l
 induction l with
 |nil=>intro J X S h;exact⟨J,[],λ_ h=>h,h⟩
 |cons r q ih=>intro J X S h;obtain⟨J1,Y1,m1,h1⟩:=h.IG r;obtain⟨J2,Y2,m2,h2⟩:=ih h1;exact⟨J2,Y2++Y1,λw h=>m1 w (m2 w h),by rw[List.append_assoc];exact h2⟩
theorem sZ:∀(l:List Nat) (S:AS G),(vF l S).nx=S.nx:=by
 intro l
 induction l with
 |nil=>intro S;rfl
 |cons r q ih=>intro S;show(vF q (Go.Rw.IG r S)).nx=_;rw[ih];unfold Go.Rw.IG;split<;>rfl
def yz(bL:Sh)(nm:List (Option Nat))(y:HL G (aD bL))(ρ:aP)(J:World->Prop)(H HK X:List ay)(w:World)(u:Value)(w':World):Prop:=∃(σ:aP) (J':World->Prop) (Y LD:List ay) (us:List Value),(∀w,J' w->J w)/\rl J' σ (dy (λm=>m) bL y 0).1 (u::us)/\RO J' σ (dy (λm=>m) bL y 0).2.1 LD/\ aX (aV H) w.heap.size (LD++(HK++(Y++X))) w'/\aG (aV H) w w'/\LC G (Y++X) J'/\(∀i j:Nat,nm[i]? =some (some j)->σ i=ρ j)/\σ.fr nm.length
structure Fs where
 k:Nat
 Gj:List (Nat×Sh)
 rA:Sh
 bL:Sh
 nm:List (Option Nat)
 fG:Sh
 MO:List (Option Nat)
 bi:List (List Nat)
def Js:List (Nat×Sh)->Sh
 |[]=> .nil
 |(T,s)::r=> .cons (.box T s) (Js r)
abbrev HI(G:Sg)(s:Fs):=HL G (aD (Js s.Gj)++aD s.rA)
def Fs.rx(s:Fs)(x:HI G s):HL G (aD (Js s.Gj)):=HL.fst x
def Fs.ix(s:Fs)(x:HI G s):HL G (aD s.rA):=HL.snd (a:=aD (Js s.Gj)) x
def Fs.ro(s:Fs)(x:HI G s):Os G:=(dy (λm=>m) (Js s.Gj) (s.rx x) 0).2.1
def Fs.bl(s:Fs)(x:HI G s):AV G×Os G×Nat:=dy (λm=>m) s.rA (s.ix x) (dy (λm=>m) (Js s.Gj) (s.rx x) 0).2.2
def OV(P:Program)(s:Fs)(R:HI G s->HL G (aD s.bL)->Prop)(Rp:HI G s->HL G (aD s.fG)->Prop):Prop:=∀(ρ:aP) (J:World->Prop) (HS HK X:List ay) (w:World) (vs:List Value) (x:HI G s),rl J ρ (s.bl x).1 vs->RO J ρ (s.bl x).2.1 HS->(∀r o,bP (s.ro x) r=some o->∃y∈HK,ro J ρ r o y)-> aX (aV (HS++(HK++X))) w.heap.size (HS++(HK++X)) w->LC G X J->ρ.fr (s.bl x).2.2-> (∀y,R x y->Calls P s.k vs.toArray w λen w'=>∃u,en= .returned u/\yz s.bL s.nm y ρ J (HS++(HK++X)) HK X w u w')/\ (∀y,Rp x y->Calls P s.k vs.toArray w λen w'=>∃u,en= .panicked [{v:=u,recovered:=false}]/\yz s.fG s.MO y ρ J (HS++(HK++X)) HK X w u w')
structure Ct(P:Program)(G:Sg) where
 s:Fs
 R:HI G s->HL G (aD s.bL)->Prop
 Rp:HI G s->HL G (aD s.fG)->Prop
 cp:{Z:Type}->HI G s->(HL G (aD s.bL)->Option Z)->(HL G (aD s.fG)->Option Z)->Option Z
 cg:{Z:Type}->Bool->HI G s->(HL G (aD s.bL)->Option Z)->Option Z
 VY:∀{Z:Type} (x:HI G s) (ko:HL G (aD s.bL)->Option Z) (kp:HL G (aD s.fG)->Option Z) (z:Z),cp x ko kp=some z->(∃y,R x y/\ko y=some z)\/(∃y,Rp x y/\kp y=some z)
 Zf:∀{Z:Type} (g:Bool) (x:HI G s) (k:HL G (aD s.bL)->Option Z) (z:Z),cg g x k=some z->∃y,(g=true->R x y)/\k y=some z
 fn:∃f,P.funcs[s.k]? =some f/\f.body.isSome=true/\(f.name== "runtime.NumGoroutine")=false
 ok:OV P s R Rp
def B8(b:Bool):Sh->Bool
 | .row _ _ _ =>false
 | .box _ _ =>false
 | .bz _ =>b
 | .fn _ a c=>B8 b a&&B8 b c
 | .gO a=>B8 b a
 | .st a=>B8 b a
 | .gM _ a=>B8 b a
 | .cons a c=>B8 b a&&B8 b c
 | .part _ a c=>B8 b a&&B8 b c
 |_ =>true
theorem QA{bb:Bool}:∀{s:Sh} {v:AV G} {g g':GS G} {x:HL G (aD s)},B8 bb s=true->jV s v g=some (x,g')->g'=g:=by
 intro s
 induction s with
 |v t=>intro v g g' x _ h;obtain⟨y,_,_,e⟩:=Nx h;exact e
 |unk n=>intro v g g' x _ h;exact(FB h).1
 |row e sz t=>intro v g g' x hn;cases hn
 |box T s _ =>intro v g g' x hn;cases hn
 |bz i=>
  intro v g g' x _ h;cases v<;>unfold jV at h<;>(try dsimp only at h)<;>try (cases h;done)
  case ptr r p=>
   cases p with
   |cons _ _ =>simp at h
   |nil=>
    simp only at h;split at h
    ·rename_i r' ht
     cases hb:Nat.beq r r' with
     |false=>rw[hb]at h;cases h
     |true=>rw[hb]at h;exact(bg h).2.symm
    ·cases h
 |fn f a c jD zo=>
  intro v g g' x hn h;simp only[B8,ab7]at hn;cases v<;>unfold jV at h<;>(try dsimp only at h)<;>try (cases h;done)
  case fn f' y z=>
   cases hb:vI f f' with
   |false=>rw[hb]at h;cases h
   |true=>
    rw[hb]at h;simp only[cond_true]at h;split at h
    ·rename_i p g1 h1
     split at h
     ·rename_i q g2 h2
      obtain⟨_,rfl⟩:=bg h;rw[zo hn.2 h2,jD hn.1 h1]
     ·cases h
    ·cases h
 |cons a b jD ox=>
  intro v g g' x hn h;simp only[B8,ab7]at hn;cases v<;>unfold jV at h<;>(try dsimp only at h)<;>try (cases h;done)
  case cons y z=>
   split at h
   ·rename_i p g1 h1
    split at h
    ·rename_i q g2 h2
     obtain⟨_,rfl⟩:=bg h;rw[ox hn.2 h2,jD hn.1 h1]
    ·cases h
   ·cases h
 |part w a b jD ox=>
  intro v g g' x hn h;simp only[B8,ab7]at hn;cases v<;>unfold jV at h<;>(try dsimp only at h)<;>try (cases h;done)
  case part w' y z=>
   cases hb:Nat.beq w w' with
   |false=>rw[hb]at h;cases h
   |true=>
    rw[hb]at h;simp only[cond_true]at h;split at h
    ·rename_i p g1 h1
     split at h
     ·rename_i q g2 h2
      obtain⟨_,rfl⟩:=bg h;rw[ox hn.2 h2,jD hn.1 h1]
     ·cases h
    ·cases h
 |gO a ih=>
  intro v g g' x hn h;cases v<;>unfold jV at h<;>(try dsimp only at h)<;>try (cases h;done)
  exact ih hn h
 |st a ih=>
  intro v g g' x hn h;cases v<;>unfold jV at h<;>(try dsimp only at h)<;>try (cases h;done)
  exact ih hn h
 |gM t a ih=>
  intro v g g' x hn h;cases v<;>unfold jV at h<;>(try dsimp only at h)<;>try (cases h;done)
  case gM t' y=>
   cases hb:Nat.beq t t' with
   |false=>rw[hb]at h;cases h
   |true=>rw[hb]at h;exact ih hn h
 |_ =>
  intro v g g' x hn h;cases v<;>unfold jV at h<;>(try dsimp only at h)<;>try (cases h;done)
  exact(bg h).2.symm
theorem QU{f:Nat->Nat}:∀{s:Sh},B8 false s=true->∀(x:HL G (aD s)) (m:Nat),(dy f s x m).1=(dy (λm=>m) s x m).1/\(dy f s x m).2.1=[]:=by
 intro s
 induction s with
 |v t=>intro _ x m;exact⟨rfl,rfl⟩
 |row e sz t=>intro h;cases h
 |box T s _ =>intro h;cases h
 |bz i=>intro h;cases h
 |fn k a c jD zo=>intro h x m;simp only[B8,ab7]at h;obtain⟨a1,a2⟩:=jD h.1 (HL.fst x) m;have e3:=(zG (G:=G) (f:=f) (s:=a) (x:=HL.fst x) (m:=m)).2.2;obtain⟨b1,b2⟩:=zo h.2 (HL.snd x) (dy (λm=>m) a (HL.fst x) m).2.2;simp only[dy,e3,a1,a2,b1,b2,List.append_nil];exact⟨trivial,trivial⟩
 |cons a c jD zo=>intro h x m;simp only[B8,ab7]at h;obtain⟨a1,a2⟩:=jD h.1 (HL.fst x) m;have e3:=(zG (G:=G) (f:=f) (s:=a) (x:=HL.fst x) (m:=m)).2.2;obtain⟨b1,b2⟩:=zo h.2 (HL.snd x) (dy (λm=>m) a (HL.fst x) m).2.2;simp only[dy,e3,a1,a2,b1,b2,List.append_nil];exact⟨trivial,trivial⟩
 |part w a c jD zo=>intro h x m;simp only[B8,ab7]at h;obtain⟨a1,a2⟩:=jD h.1 (HL.fst x) m;have e3:=(zG (G:=G) (f:=f) (s:=a) (x:=HL.fst x) (m:=m)).2.2;obtain⟨b1,b2⟩:=zo h.2 (HL.snd x) (dy (λm=>m) a (HL.fst x) m).2.2;simp only[dy,e3,a1,a2,b1,b2,List.append_nil];exact⟨trivial,trivial⟩
 |gO a ih=>intro h x m;obtain⟨a1,a2⟩:=ih h x m;simp only[dy,a1,a2];exact⟨trivial,trivial⟩
 |st a ih=>intro h x m;obtain⟨a1,a2⟩:=ih h x m;simp only[dy,a1,a2];exact⟨trivial,trivial⟩
 |gM t a ih=>intro h x m;obtain⟨a1,a2⟩:=ih h x m;simp only[dy,a1,a2];exact⟨trivial,trivial⟩
 |_ =>intro _ x m;exact⟨rfl,rfl⟩
def lG(ob:Os G):(s:Sh)->AV G->List Nat->Option (HL G (aD s)×List Nat)
 | .v t,v,th=>match xQ t v with
  |some x=>some ((x,()),th)
  |none=>none
 | .row e sz t,v,th=>match v with
  | .row r=>match bP ob r with
   |some (.row e' sz' t' xs)=>bif Nat.beq e e'&&Nat.beq sz sz' then(if h:t'.bz t=true then some ((Ty.rm h▸xs,()),th++[r])else none)else none
   |_ =>none
  |_ =>none
 | .box T s,v,th=>match v with
  | .ptr r []=>match bP ob r with
   |some (.bK T' c)=>bif Nat.beq T T' then lG ob s c (th++[r])else none
   |_ =>none
  |_ =>none
 | .bz i,v,th=>match v with
  | .ptr r []=>match th[i]? with
   |some r'=>bif Nat.beq r r' then some ((),th)else none
   |none=>none
  |_ =>none
 | .unk _,_,_ =>none
 | .oZ,v,th=>match v with
  | .oZ=>some ((),th)
  |_ =>none
 | .gA,v,th=>match v with
  | .gA=>some ((),th)
  |_ =>none
 | .zg,v,th=>match v with
  | .zg=>some ((),th)
  |_ =>none
 | .lE,v,th=>match v with
  | .lE=>some ((),th)
  |_ =>none
 | .BI,v,th=>match v with
  | .BI=>some ((),th)
  |_ =>none
 | .fn f a c,v,th=>match v with
  | .fn f' x y=>bif vI f f' then(match lG ob a x th with
   |some (p,g')=>match lG ob c y g' with
    |some (q,NB)=>some (HL.app p q,NB)
    |none=>none
   |none=>none)else none
  |_ =>none
 | .gO a,v,th=>match v with
  | .gO x=>lG ob a x th
  |_ =>none
 | .st a,v,th=>match v with
  | .st x=>lG ob a x th
  |_ =>none
 | .gM t a,v,th=>match v with
  | .gM t' x=>bif Nat.beq t t' then lG ob a x th else none
  |_ =>none
 | .nil,v,th=>match v with
  | .nil=>some ((),th)
  |_ =>none
 | .cons a b,v,th=>match v with
  | .cons x y=>match lG ob a x th with
   |some (p,g')=>match lG ob b y g' with
    |some (q,NB)=>some (HL.app p q,NB)
    |none=>none
   |none=>none
  |_ =>none
 | .part w a b,v,th=>match v with
  | .part w' x y=>bif Nat.beq w w' then(match lG ob a x th with
   |some (p,g')=>match lG ob b y g' with
    |some (q,NB)=>some (HL.app p q,NB)
    |none=>none
   |none=>none)else none
  |_ =>none
structure VB(J:World->Prop)(ρ:aP)(H:List ay)(s:Sh)(l:List Value)(th u6:List Nat)(x:HL G (aD s)):Prop where
 pre:∃q,u6=th++q
 HC:(dy (λm=>m) s x th.length).2.2=u6.length
 val:rl J (cmp ρ u6) (dy (λm=>m) s x th.length).1 l
 bK:∀r o,bP (dy (λm=>m) s x th.length).2.1 r=some o->∃y∈H,ro J (cmp ρ u6) r o y
theorem C3{H:List ay}{a b:Sh}{th th1 VH:List Nat}{p:HL G (aD a)}{q:HL G (aD b)}{l1 l2:List Value}(h1:VB J ρ H a l1 th th1 p)(h2:VB J ρ H b l2 th1 VH q):
  (∃r,VH=th++r)/\(dy (λm=>m) b q (dy (λm=>m) a p th.length).2.2).2.2=VH.length/\rl J (cmp ρ VH) (dy (λm=>m) a p th.length).1 l1/\rl J (cmp ρ VH) (dy (λm=>m) b q (dy (λm=>m) a p th.length).2.2).1 l2/\
   ∀r o,bP ((dy (λm=>m) a p th.length).2.1++(dy (λm=>m) b q (dy (λm=>m) a p th.length).2.2).2.1) r=some o->∃y∈H,ro J (cmp ρ VH) r o y:=by
 have hle:=IU (aP.le_refl ρ) h2.pre;rw[h1.HC];refine⟨?_,h2.HC,h1.val.ext hle,h2.val,λr o e=>?_⟩
 ·obtain⟨r1,e1⟩:=h1.pre
  obtain⟨r2,e2⟩:=h2.pre;exact⟨r1++r2,by rw[e2,e1,List.append_assoc]⟩
 ·rw[g8]at e
  split at e
  ·rename_i o' he
   cases e;obtain⟨y,y1,y2⟩:=h1.bK _ _ he;exact⟨y,y1,y2.up (λ_ h=>h) hle⟩
  ·exact h2.bK _ _ e
theorem QB{H:List ay}{ob:Os G}(hO:∀r o,bP ob r=some o->∃y∈H,ro J ρ r o y):∀{s:Sh} {v:AV G} {l:List Value} {th u6:List Nat} {x:HL G (aD s)},lG ob s v th=some (x,u6)->rl J ρ v l->VB J ρ H s l th u6 x:=by
 intro s
 induction s with
 |v t=>
  intro v l th u6 x h hv;unfold lG at h;cases hy:xQ t v with
  |none=>rw[hy]at h;cases h
  |some y=>rw[hy]at h;obtain⟨rfl,rfl⟩:=bg h;obtain⟨u,rfl⟩:=L4 hy hv;refine⟨⟨[],by simp⟩,rfl,?_,λr o e=>by cases e⟩;exact Eo (wv hy hv)
 |row e sz t=>
  intro v l th u6 x h hv;cases v<;>unfold lG at h<;>(try dsimp only at h)<;>try (cases h;done)
  case row r=>
   split at h
   ·rename_i e' sz' t' xs ho
    cases hb:(Nat.beq e e'&&Nat.beq sz sz')with
    |false=>rw[hb]at h;cases h
    |true=>
     rw[hb]at h;simp only[cond_true]at h;by_cases hs:t'.bz t=true
     ·rw[dif_pos hs]at h
      obtain⟨e1,rfl⟩:=bg h;simp only[ab7]at hb;obtain rfl:=ab6 hb.1;obtain rfl:=ab6 hb.2;have:=Ty.rm hs;subst this;subst e1;obtain⟨y,y1,vv,ws,e1,e2,e3,e4,e5⟩:=hO _ _ ho;refine⟨⟨[r],rfl⟩,by simp[dy],?_,λr' o' he=>?_⟩
      ·obtain⟨a0,n,cap,q1,q2⟩:=hv
       exact⟨a0,n,cap,wC.trans q1,q2⟩
      ·simp only[dy,bP]at he
       cases ED:Nat.beq th.length r' with
       |false=>rw[ED]at he;cases he
       |true=>rw[ED]at he;cases he;obtain rfl:=ab6 ED;exact⟨y,y1,vv,ws,wC.trans e1,e2,e3,e4,e5⟩
     ·rw[dif_neg hs]at h;cases h
   ·cases h
 |box T s ih=>
  intro v l th u6 x h hv;cases v<;>unfold lG at h<;>(try dsimp only at h)<;>try (cases h;done)
  case ptr r p=>
   cases p with
   |cons _ _ =>simp at h
   |nil=>
    simp only at h;split at h
    ·rename_i T' cc ho
     cases hb:Nat.beq T T' with
     |false=>rw[hb]at h;cases h
     |true=>
      rw[hb]at h;obtain rfl:=ab6 hb;obtain⟨y,y1,b,u,m1,rfl,m3⟩:=hO _ _ ho;have i1:=ih h m3;have hth:u6[th.length]? =some r:=by obtain⟨q,e⟩:=i1.pre;rw[e];simp
      have ID:cmp ρ u6 th.length=some (cy b 0):=by unfold cmp;rw[hth];exact m1
      have e1:(th++[r]).length=th.length+1:=by simp
      have i2:=i1.HC;have i3:=i1.val;have i4:=i1.bK;rw[e1]at i2 i3 i4;refine⟨?_,i2,?_,λr' o' he=>?_⟩
      ·obtain⟨q,e⟩:=i1.pre
       exact⟨r::q,by rw[e];simp⟩
      ·obtain⟨⟨b',o',q1,q2⟩,_⟩:=hv
       refine⟨⟨b,0, .inl ID,?_⟩,by simp⟩;rcases q1 with q1|⟨_,_,_,_,_,_,_,q1,_⟩
       ·rw[q1]at m1
        simp[cy]at m1;rw[q2,m1.1,m1.2]
       ·cases q1
      ·have he:bP ((th.length,Ob.bK T (dy (λm=>m) s x (th.length+1)).1)::(dy (λm=>m) s x (th.length+1)).2.1) r'=some o':=he
       simp only[bP]at he;cases ED:Nat.beq th.length r' with
       |false=>rw[ED]at he;exact i4 _ _ he
       |true=>rw[ED]at he;cases he;obtain rfl:=ab6 ED;exact⟨_,y1,b,u,ID,rfl,i3⟩
    ·cases h
 |unk n=>intro v l th u6 x h hv;unfold lG at h;cases h
 |bz i=>
  intro v l th u6 x h hv;cases v<;>unfold lG at h<;>(try dsimp only at h)<;>try (cases h;done)
  case ptr r p=>
   cases p with
   |cons _ _ =>simp at h
   |nil=>
    simp only at h;split at h
    ·rename_i r' ht
     cases hb:Nat.beq r r' with
     |false=>rw[hb]at h;cases h
     |true=>
      rw[hb]at h;obtain⟨rfl,rfl⟩:=bg h;obtain rfl:=ab6 hb;refine⟨⟨[],by simp⟩,rfl,?_,λr o e=>by cases e⟩;obtain⟨⟨b',o',q1,q2⟩,q3⟩:=hv;refine⟨⟨b',o',?_,q2⟩,q3⟩;rcases q1 with q1|⟨_,_,_,_,_,_,_,q1,_⟩
      ·refine .inl ?_
       unfold cmp;rw[ht];exact q1
      ·cases q1
    ·cases h
 |fn f a c jD zo=>
  intro v l th u6 x h hv;cases v<;>unfold lG at h<;>(try dsimp only at h)<;>try (cases h;done)
  case fn f' y z=>
   cases hb:vI f f' with
   |false=>rw[hb]at h;cases h
   |true=>
    rw[hb]at h;simp only[cond_true]at h;obtain rfl:=GO hb;split at h
    ·rename_i p g1 h1
     split at h
     ·rename_i q g2 h2
      obtain⟨rfl,rfl⟩:=bg h;obtain⟨fs,cs,e,r1,r2⟩:=hv;obtain⟨k1,k2,k3,k4,k5⟩:=C3 (b:=c) (q:=q) (jD h1 r1) (zo h2 r2);refine⟨k1,?_,?_,?_⟩<;>simp only[dy,HL.sY,HL.sO]
      ·exact k2
      ·exact⟨fs,cs,e,k3,k4⟩
      ·exact k5
     ·cases h
    ·cases h
 |cons a b jD ox=>
  intro v l th u6 x h hv;cases v<;>unfold lG at h<;>(try dsimp only at h)<;>try (cases h;done)
  case cons y z=>
   split at h
   ·rename_i p g1 h1
    split at h
    ·rename_i q g2 h2
     obtain⟨rfl,rfl⟩:=bg h;obtain⟨u,r,e,r1,r2⟩:=hv;obtain⟨k1,k2,k3,k4,k5⟩:=C3 (b:=b) (q:=q) (jD h1 r1) (ox h2 r2);refine⟨k1,?_,?_,?_⟩<;>simp only[dy,HL.sY,HL.sO]
     ·exact k2
     ·exact⟨u,r,e,k3,k4⟩
     ·exact k5
    ·cases h
   ·cases h
 |part w a b jD ox=>
  intro v l th u6 x h hv;cases v<;>unfold lG at h<;>(try dsimp only at h)<;>try (cases h;done)
  case part w' y z=>
   cases hb:Nat.beq w w' with
   |false=>rw[hb]at h;cases h
   |true=>
    rw[hb]at h;simp only[cond_true]at h;obtain rfl:=ab6 hb;split at h
    ·rename_i p g1 h1
     split at h
     ·rename_i q g2 h2
      obtain⟨rfl,rfl⟩:=bg h;obtain⟨c1,c2,u,e,r0,r1,r3,r2⟩:=hv;obtain⟨k1,k2,k3,k4,k5⟩:=C3 (b:=b) (q:=q) (jD h1 r1) (ox h2 r2);refine⟨k1,?_,?_,?_⟩<;>simp only[dy,HL.sY,HL.sO]
      ·exact k2
      ·exact⟨c1,c2,u,e,r0,k3,r3,k4⟩
      ·exact k5
     ·cases h
    ·cases h
 |gO a ih=>
  intro v l th u6 x h hv;cases v<;>unfold lG at h<;>(try dsimp only at h)<;>try (cases h;done)
  obtain⟨vs,e,r1⟩:=hv;have k:=ih h r1;exact⟨k.pre,k.HC,⟨vs,e,k.val⟩,k.bK⟩
 |st a ih=>
  intro v l th u6 x h hv;cases v<;>unfold lG at h<;>(try dsimp only at h)<;>try (cases h;done)
  obtain⟨cs,e,r1,r2⟩:=hv;have k:=ih h r1;exact⟨k.pre,k.HC,⟨cs,e,k.val,r2⟩,k.bK⟩
 |gM t a ih=>
  intro v l th u6 x h hv;cases v<;>unfold lG at h<;>(try dsimp only at h)<;>try (cases h;done)
  case gM t' y=>
   cases hb:Nat.beq t t' with
   |false=>rw[hb]at h;cases h
   |true=>rw[hb]at h;obtain rfl:=ab6 hb;obtain⟨u,e,r1⟩:=hv;have k:=ih h r1;exact⟨k.pre,k.HC,⟨u,e,k.val⟩,k.bK⟩
 |_ =>
  intro v l th u6 x h hv;cases v<;>unfold lG at h<;>(try dsimp only at h)<;>try (cases h;done)
  obtain⟨rfl,rfl⟩:=bg h;exact⟨⟨[],by simp⟩,rfl,hv,λr o e=>by cases e⟩
def C7(O:Os G)(i:Nat):Sh->AV G->Option Nat
 | .bz j, .ptr r []=>bif Nat.beq i j then some r else none
 | .box _ s, .ptr r []=>match bP O r with
  |some (.bK _ c)=>C7 O i s c
  |_ =>none
 | .fn _ a c, .fn _ x y=>match C7 O i a x with
  |some r=>some r
  |none=>C7 O i c y
 | .gO a, .gO x=>C7 O i a x
 | .st a, .st x=>C7 O i a x
 | .gM _ a, .gM _ x=>C7 O i a x
 | .cons a c, .cons x y=>match C7 O i a x with
  |some r=>some r
  |none=>C7 O i c y
 | .part _ a c, .part _ x y=>match C7 O i a x with
  |some r=>some r
  |none=>C7 O i c y
 |_,_ =>none
def zD:Sh->Nat
 | .row _ _ _ =>1
 | .box _ s=>zD s+1
 | .fn _ a c=>zD a+zD c
 | .gO a=>zD a
 | .st a=>zD a
 | .gM _ a=>zD a
 | .cons a b=>zD a+zD b
 | .part _ a b=>zD a+zD b
 |_ =>0
def II(O:Os G):List (Nat×Sh)->Nat->Sh->AV G->Option (AV G)
 |[],_,_,_ =>some .nil
 |(T,s)::r,i,sh,v=>match C7 O i sh v with
  |some q=>match II O r (i+zD s+1) (.cons (.box T s) sh) (.cons (.ptr q []) v)with
   |some l=>some (.cons (.ptr q []) l)
   |none=>none
  |none=>none
def En:List Nat->List Nat->Bool
 |[],[]=>true
 |a::r,b::q=>Nat.beq a b&&En r q
 |_,_ =>false
theorem PF:∀{l m:List Nat},En l m=true->l=m:=by
 intro l
 induction l with
 |nil=>intro m h;cases m with
  |nil=>rfl
  |cons _ _ =>cases h
 |cons a r ih=>intro m h;cases m with
  |nil=>cases h
  |cons b q=>simp only[En,ab7]at h;rw[ab6 h.1,ih h.2]
def CD:AV G->Bool
 | .cons (.ptr _ []) r=>CD r
 | .nil=>true
 |_ =>false
def Aw(C:CC G)(O:Os G)(nx:Nat)(s:Fs)(ab3:AV G):Option (HI G s×GS G):=match II (O++iZ C) s.Gj 0 s.rA ab3 with
 |some pv=>match lG (O++iZ C) (Js s.Gj) pv []with
  |some (_,th)=>match jV s.rA ab3 ⟨th,O,nx⟩with
   |some (x,g')=>match lG (g'.O++iZ C) (Js s.Gj) pv []with
    |some (y,u6)=>bif En th u6 then some (HL.app y x,g')else none
    |none=>none
   |none=>none
  |none=>none
 |none=>none
def Zl(C:CC G)(O:Os G)(s:Fs)(ab3:AV G):List Nat:=match II (O++iZ C) s.Gj 0 s.rA ab3 with
 |some pv=>s9 O s.rA ab3++s9 O (Js s.Gj) pv
 |none=>s9 O s.rA ab3
theorem PX{H:List ay}{ob:Os G}(hO:∀r o,bP ob r=some o->∃y∈H,ro J ρ r o y):∀{l:List (Nat×Sh)} {v:AV G} {th u6:List Nat} {x:HL G (aD (Js l))},CD v=true->lG ob (Js l) v th=some (x,u6)->∃us,rl J ρ v us:=by
 intro l
 induction l with
 |nil=>
  intro v th u6 x hp h;cases v<;>unfold lG at h<;>(try dsimp only[Js]at h)<;>try (cases h;done)
  exact⟨[],rfl⟩
 |cons p r ih=>
  obtain⟨T,s⟩:=p;intro v th u6 x hp h;change lG ob (.cons (.box T s) (Js r)) v th=some (x,u6)at h;cases v<;>unfold lG at h<;>(try dsimp only at h)<;>try (cases h;done)
  case cons a b=>
   split at h
   ·rename_i p g1 h1
    split at h
    ·rename_i q g2 h2
     cases a<;>(try (simp[CD]at hp;done))
     case ptr q0 pp=>
      cases pp with
      |cons _ _ =>simp[CD]at hp
      |nil=>
       obtain⟨us,hus⟩:=ih (by simpa[CD]using hp) h2;unfold lG at h1;dsimp only at h1;split at h1
       ·rename_i T' c ho
        obtain⟨y,y1,b0,u,m1,_⟩:=hO _ _ ho;exact⟨cy b0 0::us,_,_,rfl,⟨⟨b0,0, .inl m1,rfl⟩,by simp⟩,hus⟩
       ·cases h1
    ·cases h
   ·cases h
theorem Us{O:Os G}:∀{l:List (Nat×Sh)} {i:Nat} {sh:Sh} {v pv:AV G},II O l i sh v=some pv->CD pv=true:=by
 intro l
 induction l with
 |nil=>intro i sh v pv h;cases h;rfl
 |cons p r ih=>
  obtain⟨T,s⟩:=p;intro i sh v pv h;simp only[II]at h;split at h
  ·split at h
   ·rename_i l hl;cases h;show CD l=true;exact ih hl
   ·cases h
  ·cases h
theorem QC{c:Cx}{N:Nat}{HK X:List ay}{C:CC G}{S:AS G}{a:Act}{w:World}{s:Fs}{ab3:AV G}{vs:List Value}{x:HI G s}{g':GS G}(hr:Rl c N ρ J HK X C S a w)(hv:rl J ρ ab3 vs)(h:Aw C S.O S.nx s ab3=some (x,g')):
  ∃(th:List Nat) (ρ2:aP) (HS HB H':List ay),th.length=(dy (λm=>m) (Js s.Gj) (s.rx x) 0).2.2/\aX c.bs c.w0.heap.size (HS++(HK++X)) w/\ZH J ρ s.rA vs HS ⟨th,S.O,S.nx⟩ g' (s.ix x) ρ2 HB H'/\jV s.rA ab3 ⟨th,S.O,S.nx⟩=some (s.ix x,g')/\∀r o,bP (s.ro x) r=some o->∃y∈H'++HK,ro J (cmp ρ2 g'.th) r o y:=by
 unfold Aw at h;split at h
 ·rename_i pv hpv
  split at h
  ·rename_i y0 th hg0
   split at h
   ·rename_i xi g1 hg
    split at h
    ·rename_i y u6 hg2
     cases hb:En th u6 with
     |false=>rw[hb]at h;cases h
     |true=>
      rw[hb]at h;obtain⟨e1,rfl⟩:=bg h;subst e1;obtain rfl:=PF hb;obtain⟨HS,q1,q3⟩:=hr.hp;obtain⟨ρ2,HB,H',k⟩:=C2 hg hv q1 hr.fr;have hle:=k.to.le hr.fr;have hO:∀q o,bP (g1.O++iZ C) q=some o->∃z∈H'++HK,ro J ρ2 q o z:=λq o e=>by
       rw[g8]at e;split at e
       ·rename_i o' he
        cases e;obtain⟨z,z1,z2⟩:=k.left.lk he;exact⟨z,ace _ z1,z2⟩
       ·obtain⟨z,z1,z2⟩:=hr.kc q o e
        exact⟨z,acd _ z1,z2.up (λ_ h=>h) hle⟩
      obtain⟨us,i2⟩:=PX hO (Us hpv) hg2;have k3:=QB hO hg2 i2;have exi:s.ix (HL.app y xi)=xi:=HL.sO y xi;have exr:s.rx (HL.app y xi)=y:=HL.sY y xi;have k4:=k3.HC;have k5:=k3.bK;simp only[List.length_nil]at k4 k5;refine⟨th,ρ2,HS,HB,H',by rw[exr,k4],q3,by rw[exi];exact k,by rw[exi];exact hg,λr o e=>?_⟩;unfold Fs.ro at e;rw[exr]at e;obtain⟨z,z1,z2⟩:=k5 r o e;exact⟨z,z1,z2.up (λ_ h=>h) (IU (aP.le_refl _) k.pre)⟩
    ·cases h
   ·cases h
  ·cases h
 ·cases h
def F3:Sh->AV G->Nat->AV G×Os G×Nat
 | .row e sz t, .gA,nx=>bif Nat.beq (t.L G).n sz then(.row nx,[(nx, .row e sz t [])],nx+1)else(.gA,[],nx)
 | .st a, .st x,nx=>match F3 a x nx with
  |(x',O,m)=>(.st x',O,m)
 | .part _ a b, .part w x y,nx=>match F3 a x nx with
  |(x',O,m)=>match F3 b y m with
   |(y',O',m')=>(.part w x' y',O++O',m')
 |_,v,nx=>(v,[],nx)
def Nt:Sh->AV G->Bool
 | .row _ sz t, .gA=>Nat.beq (t.L G).n sz
 | .st a, .st x=>Nt a x
 | .part _ a b, .part _ x y=>Nt a x||Nt b y
 |_,_ =>false
def H8(q:Nat)(s:Sh)(S:AS G):AS G:=match bP S.O q with
 |some (.bK T c)=>match F3 s c S.nx with
  |(c',O',m)=>{S with O:=O'++mX S.O q (.bK T c'),nx:=m}
 |_ =>S
def y5:List (Nat×Sh)->AS G->AS G
 |[],S=>S
 |(q,s)::r,S=>y5 r (H8 q s S)
def P5(O:Os G):List (Nat×Sh)->AV G->List (Nat×Sh)
 |(_,s)::r, .cons (.ptr q []) l=>match bP O q with
  |some (.bK _ c)=>bif Nt s c then(q,s)::P5 O r l else P5 O r l
  |_ =>P5 O r l
 |_,_ =>[]
def Xl(C:CC G)(O:Os G)(s:Fs)(ab3:AV G):List (Nat×Sh):=match s.Gj with
 |[]=>[]
 |Gj=>match II (O++iZ C) Gj 0 s.rA ab3 with
  |some pv=>P5 O Gj pv
  |none=>[]
theorem Pt{α β γ:Type}{a a':α}{b b':β}{c c':γ}(h:(a,b,c)=(a',b',c')):a=a'/\b=b'/\c=c':=⟨congrArg (·.1) h,congrArg (·.2.1) h,congrArg (·.2.2) h⟩
theorem Tg:∀{s:Sh} {v v':AV G} {nx Lu:Nat} {O:Os G} {l:List Value} {ρ:aP},F3 s v nx=(v',O,Lu)->rl J ρ v l->ρ.fr nx->
  ∃(ρ':aP) (HN:List ay),ρ.to ρ' nx/\ρ'.fr Lu/\nx<=Lu/\rl J ρ' v' l/\RO J ρ' O HN/\∀R,m9 R (HN++R):=by
 have keep:∀{v v':AV G} {nx Lu:Nat} {O:Os G} {l:List Value} {ρ:aP},(v,([]:Os G),nx)=(v',O,Lu)->rl J ρ v l->ρ.fr nx->∃(ρ':aP) (HN:List ay),ρ.to ρ' nx/\ρ'.fr Lu/\nx<=Lu/\rl J ρ' v' l/\RO J ρ' O HN/\∀R,m9 R (HN++R):=by intro v v' nx Lu O l ρ h hv hf;obtain⟨e1,e2,e3⟩:=Pt h;subst e1 e2 e3;exact⟨ρ,[],aP.cB _ _,hf,Nat.le_refl _,hv, .nil,λR=>m9.refl _⟩
 intro s
 induction s with
 |row e sz t=>
  intro v v' nx Lu O l ρ h hv hf;cases v<;>unfold F3 at h<;>(try exact keep h hv hf);cases hb:Nat.beq (t.L G).n sz with
  |false=>rw[hb]at h;exact keep h hv hf
  |true=>
   rw[hb]at h;obtain⟨e1,e2,e3⟩:=Pt h;subst e1 e2 e3;have hv:l=[.slice none 0 0]:=hv;exact⟨ρ.set nx (.slice none 0 0),[.row (.slice none 0 0) e sz 0 []],aP.jg _ _ _,aP.sP hf _,Nat.le_succ _,⟨none,0,0,aP.gh _ _ _,hv⟩,
    .cons ⟨.slice none 0 0,[],aP.gh _ _ _,rfl,⟨_,_,rfl⟩,⟨λ_ =>[],rfl,λi hi=>absurd hi (Nat.not_lt_zero _)⟩,ab6 hb⟩ .nil,λR bs n0 w hp=>wB hp⟩
 |st a ih=>
  intro v v' nx Lu O l ρ h hv hf;cases v<;>unfold F3 at h<;>(try exact keep h hv hf)
  case st x=>obtain⟨cs,e,h1,h2⟩:=hv;revert h;generalize hq:F3 a x nx=q;obtain⟨x',O1,m⟩:=q;intro h;obtain⟨e1,e2,e3⟩:=Pt h;subst e1 e2 e3;obtain⟨ρ',HN,k1,k2,k3,k4,k5,k6⟩:=ih hq h1 hf;exact⟨ρ',HN,k1,k2,k3,⟨cs,e,k4,h2⟩,k5,k6⟩
 |part w a b jD ox=>
  intro v v' nx Lu O l ρ h hv hf;cases v<;>unfold F3 at h<;>(try exact keep h hv hf)
  case part w' x y=>obtain⟨c1,c2,u,e,r0,r1,r3,r2⟩:=hv;revert h;generalize hq:F3 a x nx=q;obtain⟨x',O1,m⟩:=q;dsimp only;generalize Nh:F3 b y m=q2;obtain⟨y',O2,m2⟩:=q2;intro h;obtain⟨e1,e2,e3⟩:=Pt h;subst e1 e2 e3;obtain⟨ρ1,H1,k1,k2,k3,k4,k5,k6⟩:=jD hq r1 hf;obtain⟨ρ2,H2,m1,m2,m3,m4,m5,m6⟩:=ox Nh (r2.ext (k1.le hf)) k2;have hle:=m1.le k2;refine⟨ρ2,H1++H2,k1.trans m1 k3,m2,Nat.le_trans k3 m3,⟨c1,c2,u,e,r0,k4.ext hle,r3,m4⟩,(k5.up (λ_ h=>h) hle).app m5,λR=>?_⟩;rw[List.append_assoc];exact(m6 R).trans (k6 (H2++R))
 |_ =>intro v v' nx Lu O l ρ h hv hf;cases v<;>unfold F3 at h<;>exact keep h hv hf
theorem RO.aaI{O:Os G}{H:List ay}(h:RO J ρ O H){r:Nat}{o:Ob G}(e:bP O r=some o):∃(k:Nat) (x:ay),H[k]? =some x/\ro J ρ r o x/\∀(ρ':aP) o' x',ρ.le ρ'->ro J ρ' r o' x'->RO J ρ' (mX O r o') (H.set k x'):=by
 induction h with
 |nil=>cases e
 |@cons r0 o0 x0 O H h0 hr ih=>
  simp only[bP]at e;cases hb:Nat.beq r0 r with
  |true=>rw[hb]at e;cases e;obtain rfl:=ab6 hb;refine⟨0,x0,rfl,h0,λρ' o' x' hle h'=>?_⟩;simp only[mX,hb,cond_true];exact .cons h' (hr.up (λ_ h=>h) hle)
  |false=>rw[hb]at e;obtain⟨k,x,k1,k2,k3⟩:=ih e;refine⟨k+1,x,by simpa using k1,k2,λρ' o' x' hle h'=>?_⟩;simp only[mX,hb,cond_false];exact .cons (h0.up (λ_ h=>h) hle) (k3 ρ' o' x' hle h')
theorem Rl.H8{c:Cx}{N:Nat}{HK X:List ay}{C:CC G}{S:AS G}{a:Act}{w:World}(q:Nat)(s:Sh)(h:Rl c N ρ J HK X C S a w):∃ρ',ρ.to ρ' S.nx/\S.nx<=(Go.Rw.H8 q s S).nx/\Rl c N ρ' J HK X C (Go.Rw.H8 q s S) a w:=by
 unfold Go.Rw.H8;split
 ·rename_i T cc ho
  generalize hq:F3 s cc S.nx=z;obtain⟨c',O',m⟩:=z;dsimp only;obtain⟨HS,q1,q3⟩:=h.hp;obtain⟨k,x,k1,⟨b,u,m1,rfl,m3⟩,aaT⟩:=q1.aaI ho;obtain⟨ρ',HN,r1,r2,r3,r4,r5,r6⟩:=Tg hq m3 h.fr;have hle:=r1.le h.fr;refine⟨ρ',r1,r3,h.tm,h.df.up (λ_ h=>h) hle,h.si,h.fs.up (λ_ h=>h) hle,h.fc.up (λ_ h=>h) hle,h.Hw (λ_ h=>h) hle,⟨HN++HS,r5.app ?_,?_⟩,h.kn,r2⟩
  ·have Nf:=aaT ρ' (.bK T c') _ hle ⟨b,u,hle _ _ m1,rfl,r4⟩
   have:HS.set k (ay.cells b T u.cells.toList)=HS:=by
    refine List.ext_getElem? λi=>?_;rw[List.getElem?_set];split
    ·rename_i hi
     subst hi;rw[k1];split
     ·rfl
     ·rename_i hlt;exact absurd (List.getElem?_eq_some_iff.1 k1).1 hlt
    ·rfl
   rwa[this]at Nf
  ·rw[List.append_assoc];exact r6 _ _ _ _ q3
 ·exact⟨ρ,aP.cB _ _,Nat.le_refl _,h⟩
theorem Rl.y5{c:Cx}{N:Nat}{HK X:List ay}{C:CC G}{a:Act}{w:World}:∀(l:List (Nat×Sh)) {ρ:aP} {S:AS G},Rl c N ρ J HK X C S a w->∃ρ',ρ.to ρ' S.nx/\S.nx<=(Go.Rw.y5 l S).nx/\Rl c N ρ' J HK X C (Go.Rw.y5 l S) a w:=by
 intro l
 induction l with
 |nil=>intro ρ S h;exact⟨ρ,aP.cB _ _,Nat.le_refl _,h⟩
 |cons p r ih=>obtain⟨q,s⟩:=p;intro ρ S h;obtain⟨ρ1,k1,k2,k3⟩:=h.H8 q s;obtain⟨ρ2,m1,m2,m3⟩:=ih k3;exact⟨ρ2,k1.trans m1 k2,Nat.le_trans k2 m2,m3⟩
def Ik(th:List Nat)(base:Nat)(nm:List (Option Nat))(i:Nat):Nat:=match nm[i]? with
 |some (some j)=>match th[j]? with
  |some r=>r
  |none=>base+i
 |_ =>base+i
def O4:AV G->Option (AV G)
 | .cons v _ =>some v
 |_ =>none
def QM(g':GS G)(bL:Sh)(nm:List (Option Nat))(y:HL G (aD bL))(S:AS G):AS G:={S with O:=(dy (Ik g'.th g'.nx nm) bL y 0).2.1++g'.O,nx:=g'.nx+nm.length}
theorem Fu{c:Cx}{H H':List ay}{w w':World}(h:aX c.bs c.w0.heap.size H w)(hs:c.w0.heap.size<=w.heap.size)(h':aX (aV H) w.heap.size H' w'):aX c.bs c.w0.heap.size H' w':=
 ⟨h'.holds,λr hr b hb=>by
  obtain⟨o,l⟩:=h'.own r hr b hb;refine⟨?_,l⟩;rcases o with o|o
  ·obtain⟨q,hq,T6⟩:=aN.1 o
   exact(h.own q hq b T6).1
  ·exact .inr (Nat.le_trans hs o),h'.apart⟩
theorem JY{c:Cx}{N:Nat}{HK X:List ay}{C:CC G}{S:AS G}{a:Act}{w w':World}{s bL:Sh}{nm:List (Option Nat)}{y:HL G (aD bL)}{x:HL G (aD s)}{us:List Value}{u:Value}{g':GS G}{HS HB H':List ay}{ρ2:aP}{v:AV G}
  (hr:Rl c N ρ J HK X C S a w)(hp:aX c.bs c.w0.heap.size (HB++(H'++(HK++X))) w){th:List Nat}(k:ZH J ρ s us HS ⟨th,S.O,S.nx⟩ g' x ρ2 HB H')(hv:O4 (dy (Ik g'.th g'.nx nm) bL y 0).1=some v)
  (h:yz bL nm y (cmp ρ2 g'.th) J (HB++((H'++HK)++X)) (H'++HK) X w u w'):
  ∃(ρ':aP) (J':World->Prop) (Y:List ay),ρ.to ρ' S.nx/\(∀w,J' w->J w)/\rv J' ρ' v u/\Rl c N ρ' J' HK (Y++X) C (QM g' bL nm y S) a w':=by
 obtain⟨σ,J',Y,LD,us',m1,m2,m3,m4,m5,m6,m7,m8⟩:=h;let ρ3:aP:=λr=>if r<g'.nx then ρ2 r else σ (r-g'.nx)
 have GL:ρ2.le ρ3:=λr v e=>by have hlt:r<g'.nx:=k.fr.MS e;show(if r<g'.nx then ρ2 r else _)=_;rw[ab4 hlt];exact e
 have hto:ρ.to ρ3 S.nx:=λr hr'=>by have hlt:r<g'.nx:=Nat.lt_of_lt_of_le hr' k.nx;show(if r<g'.nx then ρ2 r else _)=_;rw[ab4 hlt];exact k.to r hr'
 have hle:=hto.le hr.fr;have hmap:∀i v,σ i=some v->ρ3 (Ik g'.th g'.nx nm i)=some v:=λi v e=>by
  have hi:i<nm.length:=m8.MS e;obtain⟨o,ho⟩:∃o,nm[i]? =some o:=⟨_,acg hi⟩;have hnew:ρ3 (g'.nx+i)=some v:=by show(if g'.nx+i<g'.nx then _ else σ (g'.nx+i-g'.nx))=_;rw[ab5 (by omega),Nat.add_sub_cancel_left];exact e
  unfold Ik;rw[ho];cases o with
  |none=>exact hnew
  |some j=>
   dsimp only;have:=m7 i j ho;rw[e]at this;unfold cmp at this;split
   ·rename_i r ht
    rw[ht]at this;exact GL _ _ this.symm
   ·exact hnew
 obtain⟨r1,r2,_⟩:=zG (G:=G) (f:=Ik g'.th g'.nx nm) (s:=bL) (x:=y) (m:=0);have hval:rl J' ρ3 (dy (Ik g'.th g'.nx nm) bL y 0).1 (u::us'):=by rw[r1];exact CB hmap m2
 have CZ:RO J' ρ3 (dy (Ik g'.th g'.nx nm) bL y 0).2.1 LD:=by rw[r2];exact Jq hmap m3
 refine⟨ρ3,J',Y,hto,m1,?_,hr.tm,hr.df.up m1 hle,⟨hr.si.s.trans m5 λb hb=>?_,hr.si.n⟩,hr.fs.up m1 hle,hr.fc.up m1 hle,hr.Hw m1 hle,⟨LD++H',CZ.app (k.left.up m1 GL),?_⟩,m6,λr hr'=>?_⟩
 ·revert hv hval
  generalize(dy (Ik g'.th g'.nx nm) bL y 0).1=b;intro hv hval;cases b<;>simp only[O4,Option.some.injEq,reduceCtorEq]at hv;subst hv;obtain⟨u0,r,e,h1,_⟩:=hval;cases e;exact h1
 ·obtain⟨q,hq,T6⟩:=aN.1 hb
  exact(hp.own q (by simpa using hq) b T6).1
 ·have xW:aX c.bs c.w0.heap.size (HB++((H'++HK)++X)) w:=by simpa using hp
  have:=Fu xW hr.si.size m4;simpa using this
 ·show(if r<g'.nx then ρ2 r else σ (r-g'.nx))=none
  have hr':g'.nx+nm.length<=r:=hr';rw[ab5 (by omega)];exact m8 _ (by omega)
end Go.Rw
namespace Go.Rw
open Go Go.Bw Go.RowKit
variable {G:Sg} {P:Program} {tt:TT P G} {J J':World->Prop} {ρ ρ' σ:aP} {a:Act} {w:World} {d:Option Tmp} {ty:TypeId} {ps:String} {af:Array Edge} {g:Option (Nat×Bool)}
 {N:Nat} {c:Cx} {HK X H:List ay} {C:CC G} {S:AS G} {F:cO}
theorem NJ{f h:Nat->List Value}{n:Nat}:∀m:Nat,flat (λi=>if i<n then f i else h (i-n)) (n+m)=flat f n++flat h m:=by
 intro m
 induction m with
 |zero=>simp only[Nat.add_zero,flat,List.append_nil];exact s0 λi hi=>ab4 hi
 |succ m ih=>show flat _ (n+m)++(if n+m<n then f (n+m)else h (n+m-n))=_ ++(flat h m++h m);rw[ih,ab5 (by omega),Nat.add_sub_cancel_left,List.append_assoc]
theorem OT{α:Type}[Inhabited α]{L:bX α}{xs ys:List α}{ws news:List Value}(h1:(LA L xs.length).dS J ws (λi=>xs.getD i default))(h2:(LA L ys.length).dS J news (λi=>ys.getD i default)):(LA L (xs++ys).length).dS J (ws++news) (λi=>(xs++ys).getD i default):=by
 obtain⟨f,rfl,k1⟩:=h1;obtain⟨h,rfl,k2⟩:=h2;refine⟨λi=>if i<xs.length then f i else h (i-xs.length),?_,λi hi=>?_⟩
 ·rw[List.length_append,NJ]
 ·rw[List.length_append]at hi
  by_cases q:i<xs.length
  ·simp only[ab4 q,List.getD_eq_getElem?_getD,List.getElem?_append_left q]
   have:=k1 i q;simpa[List.getD_eq_getElem?_getD]using this
  ·simp only[ab5 q,List.getD_eq_getElem?_getD,List.getElem?_append_right (Nat.le_of_not_lt q)]
   have:=k2 (i-xs.length) (by omega);simpa[List.getD_eq_getElem?_getD]using this
theorem Vu{α:Type}[Inhabited α]{L:bX α}{x:α}{cs:List Value}(h:L.dS J cs x):(LA L [x].length).dS J cs (λi=>[x].getD i default):=by
 refine⟨λ_ =>cs,by simp[flat],λi hi=>?_⟩;have:i=0:=by simp at hi;exact hi
 subst this;exact h
theorem Vv{α:Type}[Inhabited α]{L:bX α}:(LA L ([]:List α).length).dS J [] (λi=>([]:List α).getD i default):=⟨λ_ =>[],rfl,λi hi=>absurd hi (Nat.not_lt_zero _)⟩
theorem I8{α:Type}[Inhabited α]{L:bX α}{xs:List α}{ws:List Value}{l m:Nat}(hl:l<=m)(hm:m<=xs.length)(h:(LA L xs.length).dS J ws (λi=>xs.getD i default)):(LA L ((xs.drop l).take (m-l)).length).dS J ((ws.drop (l*L.n)).take ((m-l)*L.n)) (λi=>((xs.drop l).take (m-l)).getD i default):=by
 obtain⟨f,rfl,k⟩:=h;have hk:∀i,i<xs.length->(f i).length=L.n:=λi hi=>L.len (k i hi);have hlen:((xs.drop l).take (m-l)).length=m-l:=by simp;omega
 rw[hlen];refine⟨λi=>f (l+i),?_,λi hi=>?_⟩
 ·refine r9 λq=>?_
  have hfl:=eM (n:=xs.length) hk;have abZ:(flat (λi=>f (l+i)) (m-l)).length=(m-l)*L.n:=eM λi hi=>hk _ (by omega);rw[List.getElem?_take,List.getElem?_drop];by_cases hq:q<(m-l)*L.n
  ·rw[ab4 hq]
   have h0:0<L.n:=by
    rcases Nat.eq_zero_or_pos L.n with e|e
    ·rw[e,Nat.mul_zero]at hq;omega
    ·exact e
   have hdm:q=(q/L.n)*L.n+q%L.n:=by rw[Nat.mul_comm];exact(Nat.div_add_mod q L.n).symm
   have hj:q%L.n<L.n:=Nat.mod_lt _ h0;have hi:q/L.n<m-l:=Nat.div_lt_of_lt_mul (by rw[Nat.mul_comm];exact hq);have e1:l*L.n+q=(l+q/L.n)*L.n+q%L.n:=by rw[Nat.add_mul];omega
   rw[e1,qi hk (by omega) hj]
   conv=>rhs;rw[hdm]
   rw[qi (λi hi=>hk _ (by omega)) hi hj]
  ·rw[ab5 hq,List.getElem?_eq_none (by omega)]
 ·have e:=k (l+i) (by omega)
  have:((xs.drop l).take (m-l)).getD i default=xs.getD (l+i) default:=by simp only[List.getD_eq_getElem?_getD,List.getElem?_take,List.getElem?_drop,ab4 hi]
  show L.dS J (f (l+i)) (((xs.drop l).take (m-l)).getD i default);rw[this];exact e
theorem yB.cut{α:Type}[Inhabited α]{A:World->Prop}{v:Value}{L:bX α}{ws:List Value}{xs:List α}(h:yB A v L ws xs){l m sz:Nat}(hs:sz=L.n)(hl:l<=m)(hm:m<=xs.length):yB A (jQ l m sz v) L ((ws.drop (l*sz)).take ((m-l)*sz)) ((xs.drop l).take (m-l)):=by
 subst hs;have hlen:((xs.drop l).take (m-l)).length=m-l:=by simp;omega
 refine⟨?_,I8 hl hm h.dS,λw hw=>?_⟩
 ·obtain⟨a,cp,rfl⟩:=h.sl
  rw[hlen];exact⟨_,_,rfl⟩
 ·rw[hlen];exact(h.ro w hw).cut hl hm
theorem OJ{v:Value}{ws:List Value}{e sz n off t q:Nat}{x y:Operand}{val:Value}{vs:List Value}{f:ay->List ay}(hx:Bw.ev F x=some (dZ v off))(hz:Bw.ev F y=some val)(hv:val.cells.toList=vs)(hl:vs.length=q)(h1:lI vs)
  (hle:off+q<=n*sz)(hn:0<n)[hr:qZ H v e sz n ws f][ht:Li P t q]:
  RX (α:=Unit) P N c ⟨d, .store t x y,ty,ps,af,g⟩ F H (λ_ =>True) (λ_ =>undef) (λ_ =>f (.row v e sz n (bh ws off vs))):=λD a w next Q hst hk=>by
 subst hl;obtain⟨k,k1,k2⟩:=hr.ok;have GK:ay.row v e sz n ws∈H:=List.mem_of_getElem? k1;have hown:iv w e sz v n ws:=hst.hp.holds _ GK;obtain⟨hlen,Bf⟩:=hown;rcases Bf with⟨_,h0⟩|⟨gb,o,cap,cur,rfl,JK,hnc,ID,hcs,Bd⟩
 ·omega
 have hmul:n*sz<=cap*sz:=Nat.mul_le_mul_right _ hnc;obtain⟨cs,rfl⟩:∃cs:List Value,cur=cs.toArray:=⟨cur.toList,by simp⟩;have qA:o+cap*sz<=cs.length:=by simpa using hcs
 have Yg:(cs.drop o).take (n*sz)=ws:=by simpa using Bd
 obtain⟨w',e1,e2,e3⟩:=ou (P:=P) (t:=t) (b:=gb) (T:=e) (off:=o+off) (cs:=cs) (w:=w) JK hv rfl (by omega) h1;have hnew:((bh cs (o+off) vs).drop o).take (n*sz)=bh ws off vs:=by rw[← Yg];exact qX hle (by omega)
 refine lf (by simp) (w':=w') ?_ (hk () w' trivial (hst.si.store hst.hp GK (by simp[ay.bK,Value.ownBlock]) e3) ?_)
 ·simp[execOp,aA hst.fr hx,aA hst.fr hz,dZ,Instr.storeAt,Instr.sureAddr,e1]
 ·show aX c.bs c.w0.heap.size (f _) w'
  rw[k2];refine hst.hp.set k1 e3.size (λj hj hn=>e3.block j hj (by simpa[ay.bK,Value.ownBlock]using hn)) ?_ hst.si.size (λb' hb'=>?_)
  ·refine⟨by rw[pY (by omega)];exact hlen, .inr ⟨gb,o,cap,_,rfl,e2,hnc,ID,?_,?_⟩⟩
   ·simp only[List.size_toArray,bh,List.length_append,List.length_take,List.length_drop];omega
   ·simpa using hnew
  ·have h5:b'=gb:=by simpa[ay.bK,Value.ownBlock]using hb'
   subst h5;exact⟨.inl (by simp[ay.bK,Value.ownBlock]),Nat.lt_of_lt_of_le (acf.1 JK).1 e3.size⟩
theorem Nw{α:Type}[Inhabited α]{xs:List α}{k:Nat}{z:α}(hk:k<xs.length):(λi=>(xs.set k z).getD i default)=mW (λi=>xs.getD i default) k z:=by
 funext i;unfold mW;by_cases e:i=k
 ·subst e;simp[List.getD_eq_getElem?_getD,hk]
 ·simp[List.getD_eq_getElem?_getD,e,List.getElem?_set,Ne.symm e]
theorem Mc{T:Nat}{x y:Operand}{v:AV G}{r e sz:Nat}{p:List pg}{t:Ty}{xs:List (t.T G)}{q:PL G t}{z:q.m.T G}(hx:dX C S [] x=some (.ptr r p))(hy:dX C S [] y=some v)(ho:bP S.O r=some (.row e sz t xs))(hz0:Np p sz=true)(hq:CI tt.F t p=some q)(hu:xQ q.m v=some z)(hf:su tt T v=true):
  SK P ⟨d, .store T x y,ty,ps,af,g⟩ C S {S with O:=mX S.O r (.row e sz t (xs.set q.i.toNat (q.set (xs.getD q.i.toNat default) z)))} .Jj:=by
 intro c N ρ J HK X a w next Q h hk
 obtain⟨HS,h1,hs0,hm⟩:=h.st;have hE:=bQ h (ch:=[]) (by simp);obtain⟨b,o,e1,e2,e3⟩:=mq (hE.ok _ _ hx);obtain⟨k,x0,k1,⟨vv,ws,m1,rfl,m3,m4,m5⟩,k3⟩:=h1.set ho;have hp:∃n cap n' sz i q',ρ r=some (.slice (some ⟨b,o,none⟩) n cap)/\p= .idx n' sz i::q'/\i.toNat<n:=by
  rcases e1 with h1|h1
  ·obtain⟨a0,cp,e⟩:=m3
   rw[h1,e]at m1;cases m1
  ·exact h1
 obtain⟨n,cap,n',sz',i,q',p1,p2,p3⟩:=hp;subst p2;obtain rfl:=ab6 (show Nat.beq sz' sz=true from hz0);rw[p1]at m1;cases m1;obtain⟨a0,cp,e4⟩:=m3;cases e4;subst m5;obtain⟨q1,q3⟩:=Gl hq e3 rfl p3;have hv:=hE.ok _ _ hy;have T4:=wv hu hv;have Nf:=q3.set (v:=z) m4 T4.1;have hl:=(q.m.L G).len T4.1;rw[Array.length_toList]at hl;have hle:=q3.le;have qz:=hE.ev _ _ hx;rw[e2]at qz;haveI:=NM hf hv;have DM:=nG (m:=HK++X) k1;haveI:qZ (HS++(HK++X)) (.slice (some ⟨b,o,none⟩) xs.length cap) e (t.L G).n xs.length ws ((HS++(HK++X)).set k):=⟨k,DM,λ_ =>rfl⟩;refine OJ (v:= .slice (some ⟨b,o,none⟩) xs.length cap) (off:=dh (pg.idx n' (Ty.L G t).n i::q')) (vs:=(a.eval y).cells.toList) (n:=xs.length) qz (hE.ev _ _ hy) rfl (by simp) ((q.m.L G).one T4.1) (by rw[hl];exact hle) (by omega) a.defers a w next Q hs0 λ_ w' _ hs hp=>?_
 rw[qO k1]at hp;refine hk ρ J [] w' undef (aP.cB _ _) (λ_ h=>h) ⟨_,rfl⟩ (h.yY (k3 _ _ ?_) hs hp);refine⟨_,_,p1,by rw[List.length_set],⟨_,_,by rw[List.length_set]⟩,?_,rfl⟩;rw[List.length_set,q1,Nw p3];exact Nf
structure LS(G:Sg) where
 t:Ty
 xs:List (t.T G)
def RZ(C:CC G)(S:AS G):AV G->Option (LS G)
 | .dat (.sl t) xs=>some ⟨t,xs⟩
 | .row r=>match MT C S r with
  |some (.row _ sz t xs)=>bif Nat.beq (t.L G).n sz then some ⟨t,xs⟩else none
  |_ =>none
 |_ =>none
theorem Iq{v:AV G}{l:LS G}{u:Value}{D:List Deferred}(hm:I7 (G:=G) J ρ N c D H (MT C S) a w)(h:RZ C S v=some l)(hv:rv J ρ v u):∃ws,mT c H u (l.t.L G).n l.xs.length ws/\(LA (l.t.L G) l.xs.length).dS J ws (λi=>l.xs.getD i default)/\qF u l.xs.length:=by
 unfold RZ at h;split at h
 ·rename_i t xs
  cases h;obtain⟨u',e1,hr,_,hc⟩:=hv;cases e1;obtain⟨v',ws,e2,hf⟩:=hr;rw[hc rfl]at e2;cases e2;haveI:=hm.kn;exact⟨ws,hf.at,hf.dS,hf.sl⟩
 ·rename_i r
  split at h
  ·rename_i e sz t xs ho
   cases hb:Nat.beq (t.L G).n sz with
   |false=>rw[hb]at h;cases h
   |true=>rw[hb]at h;cases h;obtain⟨vv,ws,h1,h2,h3,h4,h5⟩:=E4 hm ho;obtain rfl:=oY hv h1;subst h5;exact⟨ws,h3,h4,h2⟩
  ·cases h
 ·cases h
def Dk{t t':Ty}(xs:List (t'.T G)):Option (List (t.T G)):=if h:t'.bz t=true then some (Ty.rm h▸xs)else none
theorem J4{t t':Ty}{xs:List (t'.T G)}{ys:List (t.T G)}(h:Dk xs=some ys):∃e:t'=t,e▸xs=ys:=by
 unfold Dk at h;by_cases hs:t'.bz t=true
 ·rw[dif_pos hs]at h;cases h;exact⟨Ty.rm hs,rfl⟩
 ·rw[dif_neg hs]at h;cases h
theorem wA{H':List ay}{e sz:Nat}{t:Ty}{zs:List (t.T G)}{v':Value}{ws:List Value}{w':World}{O':Os G}(h:Rl c N ρ J HK X C S a w)(hO:RO J ρ O' H')(hs:aG c.bs c.w0 w')(hp:aX c.bs c.w0.heap.size (.row v' e sz zs.length ws::(H'++(HK++X))) w')(hv:qF v' zs.length)(hr:(LA (t.L G) zs.length).dS J ws (λi=>zs.getD i default))(hz:(t.L G).n=sz):
  ∃ρ',ρ.to ρ' S.nx/\rv J ρ' (.row S.nx:AV G) v'/\Rl c N ρ' J HK X C {S with O:=(S.nx, .row e sz t zs)::O',nx:=S.nx+1} a w':=by
 have hle:=(aP.jg ρ S.nx v').le h.fr;obtain⟨a0,cp,rfl⟩:=hv;refine⟨ρ.set S.nx _,aP.jg _ _ _,⟨_,_,_,aP.gh _ _ _,rfl⟩,h.tm,h.df.up (λ_ h=>h) hle,⟨hs,h.si.n⟩,h.fs.up (λ_ h=>h) hle,h.fc.up (λ_ h=>h) hle,h.Hw (λ_ h=>h) hle,⟨_ ::H', .cons ⟨_,ws,aP.gh _ _ _,rfl,⟨_,_,rfl⟩,hr,hz⟩ (hO.up (λ_ h=>h) hle),?_⟩,h.kn,aP.sP h.fr _⟩;simpa using hp
theorem Ta{T r e sz bt:Nat}{x y:Operand}{vy:AV G}{t:Ty}{xs ys:List (t.T G)}{l:LS G}(hT:tt.te.find T=some (.sl e sz bt))(hx:dX C S [] x=some (.row r))(hy:dX C S [] y=some vy)(ho:bP S.O r=some (.row e sz t xs))(hl:RZ C S vy=some l)(hc:Dk l.xs=some ys)(hg:ij xs.length ys.length bt=true):
  SK P ⟨d, .call ⟨.builtin .append, #[x,y], #[T,T]⟩,ty,ps,af,g⟩ C S {S with O:=(S.nx, .row e sz t (xs++ys))::s7 S.O r,nx:=S.nx+1} (.row S.nx):=by
 intro c N ρ J HK X a w next Q h hk
 obtain⟨HS,h1,hs0,hm⟩:=h.st;have hE:=bQ h (ch:=[]) (by simp);obtain⟨k,x0,k1,⟨vv,ws,m1,rfl,m3,m4,m5⟩,k3⟩:=h1.QL ho;obtain⟨t',l'⟩:=l;obtain⟨rfl,rfl⟩:=J4 hc;obtain⟨news,n1,n2,n3⟩:=Iq hm hl (hE.ok _ _ hy);have Nd:=oY (hE.ok _ _ hx) m1;have qz:=hE.ev _ _ hx;rw[Nd]at qz;haveI:=(tt.sl hT).2;have DM:=nG (m:=HK++X) k1;haveI:qZ (HS++(HK++X)) vv e sz xs.length ws ((HS++(HK++X)).set k):=⟨k,DM,λ_ =>rfl⟩;subst m5;haveI:=n1;obtain⟨g1,g2⟩:=qt hg;refine zL qz (hE.ev _ _ hy) (bX.one _ n2) g1 g2 a.defers a w next Q hs0 λv' w' GI hs hp=>?_
 have xW:aX c.bs c.w0.heap.size (.row v' e (t'.L G).n (xs++l').length (ws++news)::(HS.eraseIdx k++(HK++X))) w':=by
  rw[List.length_append];have T8:aX c.bs c.w0.heap.size ((HS++(HK++X)).set k (.row v' e (t'.L G).n (xs.length+l'.length) (ws++news))) w':=hp;rw[qO k1]at T8;refine T8.gH ?_;have hlt:=(List.getElem?_eq_some_iff.1 k1).1;have e1:(HS.set k (.row v' e (t'.L G).n (xs.length+l'.length) (ws++news)))[k]? =some (.row v' e (t'.L G).n (xs.length+l'.length) (ws++news)):=by simp[hlt]
  have:=mw e1 (HK++X);rwa[List.eraseIdx_set_eq]at this
 obtain⟨ρ',q1,q2,q3⟩:=wA h k3 hs xW (by rw[List.length_append];exact GI) (OT m4 n2) rfl;exact hk ρ' J [] w' v' q1 (λ_ h=>h) q2 q3
theorem Pz{T e sz bt:Nat}{x y:Operand}{vy:AV G}{l:LS G}(hT:tt.te.find T=some (.sl e sz bt))(hx:dX C S [] x=some .gA)(hy:dX C S [] y=some vy)(hl:RZ C S vy=some l)(hsz:(l.t.L G).n=sz)(hg:ij 0 l.xs.length bt=true):
  SK P ⟨d, .call ⟨.builtin .append, #[x,y], #[T,T]⟩,ty,ps,af,g⟩ C S {S with O:=(S.nx, .row e sz l.t l.xs)::S.O,nx:=S.nx+1} (.row S.nx):=by
 intro c N ρ J HK X a w next Q h hk
 obtain⟨HS,h1,hs0,hm⟩:=h.st;have hE:=bQ h (ch:=[]) (by simp);obtain⟨news,n1,n2,n3⟩:=Iq hm hl (hE.ok _ _ hy);have qz:=hE.ev _ _ hx;have Nd:a.eval x= .slice none 0 0:=(List.cons.inj (show[a.eval x]=[Value.slice none 0 0]from hE.ok _ _ hx)).1;rw[Nd]at qz;haveI:=(tt.sl hT).2;subst hsz;obtain⟨g1,g2⟩:=qt hg;have Ft:St N c a.defers (kQ a) (.row (.slice none 0 0) e (l.t.L G).n 0 []::(HS++(HK++X))) a w:=⟨hs0.tm,hs0.fr,hs0.df,hs0.si,wB hs0.hp⟩;haveI:mT c (.row (.slice none 0 0) e (l.t.L G).n 0 []::(HS++(HK++X))) (a.eval y) (l.t.L G).n l.xs.length news:=⟨λw' hs' hp'=>n1.ro w' hs' ⟨λs hs=>hp'.holds s (ack _ hs),λs hs=>hp'.own s (ack _ hs),(List.pairwise_cons.1 hp'.apart).2⟩⟩;refine zL (n:=0) (xs:=[]) qz (hE.ev _ _ hy) (bX.one _ n2) g1 g2 a.defers a w next Q Ft λv' w' GI hs hp=>?_
 obtain⟨ρ',q1,q2,q3⟩:=wA (t:=l.t) (zs:=l.xs) h h1 hs (by simpa using hp) (by simpa using GI) n2 rfl;exact hk ρ' J [] w' v' q1 (λ_ h=>h) q2 q3
end Go.Rw
