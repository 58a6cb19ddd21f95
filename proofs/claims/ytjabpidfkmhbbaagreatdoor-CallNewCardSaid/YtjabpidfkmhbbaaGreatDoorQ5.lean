/- Part 5 of what a proof leans on; pruned and shortened by a program out of longer texts. -/
import Derived.Test.YtjabpidfkmhbbaaGreatDoorQ4
namespace Go.Rw
open Go Go.Bw Go.RowKit
variable {G:Sg} {P:Program} {J J':World->Prop} {ρ ρ' σ:aP}
def HM(f:Nat->Nat):AV G->AV G
 | .ptr r p=> .ptr (f r) p
 | .row r=> .row (f r)
 | .Bp r p n sz up i=> .Bp (f r) p n sz up i
 | .mp r=> .mp (f r)
 | .fn k a c=> .fn k (HM f a) (HM f c)
 | .st a=> .st (HM f a)
 | .iy a=> .iy (HM f a)
 | .fW t v=> .fW t (HM f v)
 | .gd j w v=> .gd j w (HM f v)
 | .cons a b=> .cons (HM f a) (HM f b)
 | .part w a b=> .part w (HM f a) (HM f b)
 |v=>v
def Zt(f:Nat->Nat):Ob G->Ob G
 | .bK T c=> .bK T (HM f c)
 | .fm q ks vs=> .fm q ks (HM f vs)
 |o=>o
def KS(f:Nat->Nat)(O:Os G):Os G:=O.map λp=>(f p.1,Zt f p.2)
theorem DQ{f:Nat->Nat}(m:∀r v,σ r=some v->ρ (f r)=some v):∀{v:AV G} {l:List Value},rl J σ v l->rl J ρ (HM f v) l:=by
 intro v
 induction v with
 |ptr r p=>
  intro l h;obtain⟨⟨b,o,h1,h2⟩,h3⟩:=h;refine⟨⟨b,o,?_,h2⟩,h3⟩;rcases h1 with h1|⟨n,cap,n',sz,i,q,e1,e2⟩
  ·exact .inl (m _ _ h1)
  ·exact .inr ⟨n,cap,n',sz,i,q,m _ _ e1,e2⟩
 |Bp r p n sz up i=>
  intro l h;obtain⟨⟨b,o,h1,h2⟩,h3⟩:=h;refine⟨⟨b,o,?_,h2⟩,h3⟩;rcases h1 with h1|⟨n,cap,n',sz,i,q,e1,e2⟩
  ·exact .inl (m _ _ h1)
  ·exact .inr ⟨n,cap,n',sz,i,q,m _ _ e1,e2⟩
 |row r=>intro l h;obtain⟨a,n,cap,h1,h2⟩:=h;exact⟨a,n,cap,m _ _ h1,h2⟩
 |mp r=>intro l h;obtain⟨b,h1,h2⟩:=h;exact⟨b,m _ _ h1,h2⟩
 |fn f a c iW ym=>intro l h;obtain⟨fs,cs,e,h1,h2⟩:=h;exact⟨fs,cs,e,iW h1,ym h2⟩
 |st a ih=>intro l h;obtain⟨cs,e,h1,h2⟩:=h;exact⟨cs,e,ih h1,h2⟩
 |iy a ih=>intro l h;obtain⟨vs,e,h1⟩:=h;exact⟨vs,e,ih h1⟩
 |fW t v ih=>intro l h;obtain⟨u,e,h1⟩:=h;exact⟨u,e,ih h1⟩
 |cons a b iW nW=>intro l h;obtain⟨u,r,e,h1,h2⟩:=h;exact⟨u,r,e,iW h1,nW h2⟩
 |part w a b iW nW=>intro l h;obtain⟨c1,c2,u,e,h1,h2,h3,h4⟩:=h;exact⟨c1,c2,u,e,h1,iW h2,h3,nW h4⟩
 |_ =>intro l h;exact h
theorem HJ{f:Nat->Nat}(m:∀r v,σ r=some v->ρ (f r)=some v){O:Os G}{H:List av}(h:RO J σ O H):RO J ρ (KS f O) H:=by
 induction h with
 |nil=>exact .nil
 |@cons r o x O H h _ ih=>
  refine .cons ?_ ih;cases o with
  |bK T c=>obtain⟨b,u,h1,h2,h3⟩:=h;exact⟨b,u,m _ _ h1,h2,DQ m h3⟩
  |row e sz t xs=>obtain⟨v,ws,h1,h2⟩:=h;exact⟨v,ws,m _ _ h1,h2⟩
  |aux b=>obtain⟨n,x,h1,h2⟩:=h;exact⟨n,x,m _ _ h1,h2⟩
  |gm=>obtain⟨⟨mb,g,h1,h2⟩,h4⟩:=h;exact⟨⟨mb,g,m _ _ h1,h2⟩,h4⟩
  |fm q ks vs=>obtain⟨b,es,ck,us,h1,h2,h3,h4,h5⟩:=h;exact⟨b,es,ck,us,m _ _ h1,h2,h3,DQ m h4,h5⟩
theorem yD{f:Nat->Nat}:∀{s:Sh} {x:HL G (aD s)} {m:Nat},(cZ f s x m).1=HM f (cZ (λm=>m) s x m).1/\(cZ f s x m).2.1=KS f (cZ (λm=>m) s x m).2.1/\(cZ f s x m).2.2=(cZ (λm=>m) s x m).2.2:=by
 intro s
 induction s with
 |v t=>intro x m;refine⟨?_,rfl,rfl⟩;cases t<;>rfl
 |row e sz t=>intro x m;exact⟨rfl,rfl,rfl⟩
 |box T s ih=>intro x m;obtain⟨h1,h2,h3⟩:=ih (x:=x) (m:=m+1);simp only[cZ];exact⟨rfl,by rw[h1,h2];rfl,h3⟩
 |fn k a c iW ym=>intro x m;obtain⟨h1,h2,h3⟩:=iW (x:=HL.fst x) (m:=m);simp only[cZ];rw[h3];obtain⟨k1,k2,k3⟩:=ym (x:=HL.snd x) (m:=(cZ (λm=>m) a (HL.fst x) m).2.2);exact⟨by rw[h1,k1];rfl,by rw[h2,k2];simp[KS],k3⟩
 |cons a c iW ym=>intro x m;obtain⟨h1,h2,h3⟩:=iW (x:=HL.fst x) (m:=m);simp only[cZ];rw[h3];obtain⟨k1,k2,k3⟩:=ym (x:=HL.snd x) (m:=(cZ (λm=>m) a (HL.fst x) m).2.2);exact⟨by rw[h1,k1];rfl,by rw[h2,k2];simp[KS],k3⟩
 |part w a c iW ym=>intro x m;obtain⟨h1,h2,h3⟩:=iW (x:=HL.fst x) (m:=m);simp only[cZ];rw[h3];obtain⟨k1,k2,k3⟩:=ym (x:=HL.snd x) (m:=(cZ (λm=>m) a (HL.fst x) m).2.2);exact⟨by rw[h1,k1];rfl,by rw[h2,k2];simp[KS],k3⟩
 |iy a ih=>intro x m;obtain⟨h1,h2,h3⟩:=ih (x:=x) (m:=m);simp only[cZ];exact⟨by rw[h1];rfl,h2,h3⟩
 |st a ih=>intro x m;obtain⟨h1,h2,h3⟩:=ih (x:=x) (m:=m);simp only[cZ];exact⟨by rw[h1];rfl,h2,h3⟩
 |fW t a ih=>intro x m;obtain⟨h1,h2,h3⟩:=ih (x:=x) (m:=m);simp only[cZ];exact⟨by rw[h1];rfl,h2,h3⟩
 |_ =>intro x m;exact⟨rfl,rfl,rfl⟩
def ZA{Z:Type}:(l:List Ty)->((HL G l->Option Z)->HL G l->Option Z)->Nat->HL G l->Option Z
 |[_],B,n,e=>fZ (λk x1=>B (λe=>k (e.1)) (x1,())) n (e.1)
 |[_,_],B,n,e=>dy (λk x1 x2=>B (λe=>k (e.1) (e.2.1)) (x1,x2,())) n (e.1) (e.2.1)
 |[_,_,_],B,n,e=>uG (λk x1 x2 x3=>B (λe=>k (e.1) (e.2.1) (e.2.2.1)) (x1,x2,x3,())) n (e.1) (e.2.1) (e.2.2.1)
 |[_,_,_,_],B,n,e=>H7 (λk x1 x2 x3 x4=>B (λe=>k (e.1) (e.2.1) (e.2.2.1) (e.2.2.2.1)) (x1,x2,x3,x4,())) n (e.1) (e.2.1) (e.2.2.1) (e.2.2.2.1)
 |[_,_,_,_,_],B,n,e=>Di (λk x1 x2 x3 x4 x5=>B (λe=>k (e.1) (e.2.1) (e.2.2.1) (e.2.2.2.1) (e.2.2.2.2.1)) (x1,x2,x3,x4,x5,())) n (e.1) (e.2.1) (e.2.2.1) (e.2.2.2.1) (e.2.2.2.2.1)
 |[_,_,_,_,_,_],B,n,e=>H6 (λk x1 x2 x3 x4 x5 x6=>B (λe=>k (e.1) (e.2.1) (e.2.2.1) (e.2.2.2.1) (e.2.2.2.2.1) (e.2.2.2.2.2.1)) (x1,x2,x3,x4,x5,x6,())) n (e.1) (e.2.1) (e.2.2.1) (e.2.2.2.1) (e.2.2.2.2.1) (e.2.2.2.2.2.1)
 |[_,_,_,_,_,_,_],B,n,e=>E5 (λk x1 x2 x3 x4 x5 x6 x7=>B (λe=>k (e.1) (e.2.1) (e.2.2.1) (e.2.2.2.1) (e.2.2.2.2.1) (e.2.2.2.2.2.1) (e.2.2.2.2.2.2.1)) (x1,x2,x3,x4,x5,x6,x7,())) n (e.1) (e.2.1) (e.2.2.1) (e.2.2.2.1) (e.2.2.2.2.1) (e.2.2.2.2.2.1) (e.2.2.2.2.2.2.1)
 |[_,_,_,_,_,_,_,_],B,n,e=>E4 (λk x1 x2 x3 x4 x5 x6 x7 x8=>B (λe=>k (e.1) (e.2.1) (e.2.2.1) (e.2.2.2.1) (e.2.2.2.2.1) (e.2.2.2.2.2.1) (e.2.2.2.2.2.2.1) (e.2.2.2.2.2.2.2.1)) (x1,x2,x3,x4,x5,x6,x7,x8,())) n (e.1) (e.2.1) (e.2.2.1) (e.2.2.2.1) (e.2.2.2.2.1) (e.2.2.2.2.2.1) (e.2.2.2.2.2.2.1) (e.2.2.2.2.2.2.2.1)
 |[_,_,_,_,_,_,_,_,_],B,n,e=>HZ (λk x1 x2 x3 x4 x5 x6 x7 x8 x9=>B (λe=>k (e.1) (e.2.1) (e.2.2.1) (e.2.2.2.1) (e.2.2.2.2.1) (e.2.2.2.2.2.1) (e.2.2.2.2.2.2.1) (e.2.2.2.2.2.2.2.1) (e.2.2.2.2.2.2.2.2.1)) (x1,x2,x3,x4,x5,x6,x7,x8,x9,())) n (e.1) (e.2.1) (e.2.2.1) (e.2.2.2.1) (e.2.2.2.2.1) (e.2.2.2.2.2.1) (e.2.2.2.2.2.2.1) (e.2.2.2.2.2.2.2.1) (e.2.2.2.2.2.2.2.2.1)
 |[_,_,_,_,_,_,_,_,_,_],B,n,e=>D7 (λk x1 x2 x3 x4 x5 x6 x7 x8 x9 EL=>B (λe=>k (e.1) (e.2.1) (e.2.2.1) (e.2.2.2.1) (e.2.2.2.2.1) (e.2.2.2.2.2.1) (e.2.2.2.2.2.2.1) (e.2.2.2.2.2.2.2.1) (e.2.2.2.2.2.2.2.2.1) (e.2.2.2.2.2.2.2.2.2.1)) (x1,x2,x3,x4,x5,x6,x7,x8,x9,EL,())) n (e.1) (e.2.1) (e.2.2.1) (e.2.2.2.1) (e.2.2.2.2.1) (e.2.2.2.2.2.1) (e.2.2.2.2.2.2.1) (e.2.2.2.2.2.2.2.1) (e.2.2.2.2.2.2.2.2.1) (e.2.2.2.2.2.2.2.2.2.1)
 |[_,_,_,_,_,_,_,_,_,_,_],B,n,e=>D6 (λk x1 x2 x3 x4 x5 x6 x7 x8 x9 EL Ka=>B (λe=>k (e.1) (e.2.1) (e.2.2.1) (e.2.2.2.1) (e.2.2.2.2.1) (e.2.2.2.2.2.1) (e.2.2.2.2.2.2.1) (e.2.2.2.2.2.2.2.1) (e.2.2.2.2.2.2.2.2.1) (e.2.2.2.2.2.2.2.2.2.1) (e.2.2.2.2.2.2.2.2.2.2.1)) (x1,x2,x3,x4,x5,x6,x7,x8,x9,EL,Ka,())) n (e.1) (e.2.1) (e.2.2.1) (e.2.2.2.1) (e.2.2.2.2.1) (e.2.2.2.2.2.1) (e.2.2.2.2.2.2.1) (e.2.2.2.2.2.2.2.1) (e.2.2.2.2.2.2.2.2.1) (e.2.2.2.2.2.2.2.2.2.1) (e.2.2.2.2.2.2.2.2.2.2.1)
 |[_,_,_,_,_,_,_,_,_,_,_,_],B,n,e=>D5 (λk x1 x2 x3 x4 x5 x6 x7 x8 x9 EL Ka U3=>B (λe=>k (e.1) (e.2.1) (e.2.2.1) (e.2.2.2.1) (e.2.2.2.2.1) (e.2.2.2.2.2.1) (e.2.2.2.2.2.2.1) (e.2.2.2.2.2.2.2.1) (e.2.2.2.2.2.2.2.2.1) (e.2.2.2.2.2.2.2.2.2.1) (e.2.2.2.2.2.2.2.2.2.2.1) (e.2.2.2.2.2.2.2.2.2.2.2.1)) (x1,x2,x3,x4,x5,x6,x7,x8,x9,EL,Ka,U3,())) n (e.1) (e.2.1) (e.2.2.1) (e.2.2.2.1) (e.2.2.2.2.1) (e.2.2.2.2.2.1) (e.2.2.2.2.2.2.1) (e.2.2.2.2.2.2.2.1) (e.2.2.2.2.2.2.2.2.1) (e.2.2.2.2.2.2.2.2.2.1) (e.2.2.2.2.2.2.2.2.2.2.1) (e.2.2.2.2.2.2.2.2.2.2.2.1)
 |_,_,_,_ =>none
theorem VM{Z:Type}:∀{l:List Ty} {B:(HL G l->Option Z)->HL G l->Option Z} {n:Nat} {e:HL G l} {z:Z},ZA l B n e=some z->∃m,n=m+1/\B (ZA l B m) e=some z:=by
 intro l B n e z h
 match l,B,e,h with
 |[_],B,e,h=>obtain⟨m,h1,h2⟩:=VV rfl h;exact⟨m,h1,h2⟩
 |[_,_],B,e,h=>obtain⟨m,h1,h2⟩:=Dh rfl h;exact⟨m,h1,h2⟩
 |[_,_,_],B,e,h=>obtain⟨m,h1,h2⟩:=Qk rfl h;exact⟨m,h1,h2⟩
 |[_,_,_,_],B,e,h=>obtain⟨m,h1,h2⟩:=VT rfl h;exact⟨m,h1,h2⟩
 |[_,_,_,_,_],B,e,h=>obtain⟨m,h1,h2⟩:=VR rfl h;exact⟨m,h1,h2⟩
 |[_,_,_,_,_,_],B,e,h=>obtain⟨m,h1,h2⟩:=VQ rfl h;exact⟨m,h1,h2⟩
 |[_,_,_,_,_,_,_],B,e,h=>obtain⟨m,h1,h2⟩:=VP rfl h;exact⟨m,h1,h2⟩
 |[_,_,_,_,_,_,_,_],B,e,h=>obtain⟨m,h1,h2⟩:=VO rfl h;exact⟨m,h1,h2⟩
 |[_,_,_,_,_,_,_,_,_],B,e,h=>obtain⟨m,h1,h2⟩:=VN rfl h;exact⟨m,h1,h2⟩
 |[_,_,_,_,_,_,_,_,_,_],B,e,h=>obtain⟨m,h1,h2⟩:=RJ rfl h;exact⟨m,h1,h2⟩
 |[_,_,_,_,_,_,_,_,_,_,_],B,e,h=>obtain⟨m,h1,h2⟩:=RI rfl h;exact⟨m,h1,h2⟩
 |[_,_,_,_,_,_,_,_,_,_,_,_],B,e,h=>obtain⟨m,h1,h2⟩:=RH rfl h;exact⟨m,h1,h2⟩
 |[],B,e,h=>cases h
 |_ ::_ ::_ ::_ ::_ ::_ ::_ ::_ ::_ ::_ ::_ ::_ ::_ ::_,B,e,h=>cases h
theorem Qm(α ρ:Type):∃g:α->(α->Option ρ)->Option ρ,∀a f,g a f=lt a f:=⟨lt,λ_ _ =>rfl⟩
noncomputable def jn{α ρ:Type}:α->(α->Option ρ)->Option ρ:=Classical.choose (Qm α ρ)
theorem ZP{α ρ:Type}{a:α}{f:α->Option ρ}:jn a f=lt a f:=Classical.choose_spec (Qm α ρ) a f
noncomputable def lj{α ρ:Type}:Bool->α->(α->Option ρ)->Option ρ
 |true=>jn
 |false=>lt
theorem AF{α ρ:Type}{b:Bool}{a:α}{f:α->Option ρ}:lj b a f=f a:=by cases b;exact rfl;exact ZP
noncomputable def jnE{Z:Type}(b:Bool):(l:List Ty)->(HL G l->Option Z)->((HL G l->Option Z)->Option Z)->Option Z
 |[_],B,A=>lj b (λx1=>B (x1,())) λj=>A λe=>j (e.1)
 |[_,_],B,A=>lj b (λx1 x2=>B (x1,x2,())) λj=>A λe=>j (e.1) (e.2.1)
 |[_,_,_],B,A=>lj b (λx1 x2 x3=>B (x1,x2,x3,())) λj=>A λe=>j (e.1) (e.2.1) (e.2.2.1)
 |[_,_,_,_],B,A=>lj b (λx1 x2 x3 x4=>B (x1,x2,x3,x4,())) λj=>A λe=>j (e.1) (e.2.1) (e.2.2.1) (e.2.2.2.1)
 |[_,_,_,_,_],B,A=>lj b (λx1 x2 x3 x4 x5=>B (x1,x2,x3,x4,x5,())) λj=>A λe=>j (e.1) (e.2.1) (e.2.2.1) (e.2.2.2.1) (e.2.2.2.2.1)
 |[_,_,_,_,_,_],B,A=>lj b (λx1 x2 x3 x4 x5 x6=>B (x1,x2,x3,x4,x5,x6,())) λj=>A λe=>j (e.1) (e.2.1) (e.2.2.1) (e.2.2.2.1) (e.2.2.2.2.1) (e.2.2.2.2.2.1)
 |[_,_,_,_,_,_,_],B,A=>lj b (λx1 x2 x3 x4 x5 x6 x7=>B (x1,x2,x3,x4,x5,x6,x7,())) λj=>A λe=>j (e.1) (e.2.1) (e.2.2.1) (e.2.2.2.1) (e.2.2.2.2.1) (e.2.2.2.2.2.1) (e.2.2.2.2.2.2.1)
 |[_,_,_,_,_,_,_,_],B,A=>lj b (λx1 x2 x3 x4 x5 x6 x7 x8=>B (x1,x2,x3,x4,x5,x6,x7,x8,())) λj=>A λe=>j (e.1) (e.2.1) (e.2.2.1) (e.2.2.2.1) (e.2.2.2.2.1) (e.2.2.2.2.2.1) (e.2.2.2.2.2.2.1) (e.2.2.2.2.2.2.2.1)
 |[_,_,_,_,_,_,_,_,_],B,A=>lj b (λx1 x2 x3 x4 x5 x6 x7 x8 x9=>B (x1,x2,x3,x4,x5,x6,x7,x8,x9,())) λj=>A λe=>j (e.1) (e.2.1) (e.2.2.1) (e.2.2.2.1) (e.2.2.2.2.1) (e.2.2.2.2.2.1) (e.2.2.2.2.2.2.1) (e.2.2.2.2.2.2.2.1) (e.2.2.2.2.2.2.2.2.1)
 |[_,_,_,_,_,_,_,_,_,_],B,A=>lj b (λx1 x2 x3 x4 x5 x6 x7 x8 x9 EL=>B (x1,x2,x3,x4,x5,x6,x7,x8,x9,EL,())) λj=>A λe=>j (e.1) (e.2.1) (e.2.2.1) (e.2.2.2.1) (e.2.2.2.2.1) (e.2.2.2.2.2.1) (e.2.2.2.2.2.2.1) (e.2.2.2.2.2.2.2.1) (e.2.2.2.2.2.2.2.2.1) (e.2.2.2.2.2.2.2.2.2.1)
 |[_,_,_,_,_,_,_,_,_,_,_],B,A=>lj b (λx1 x2 x3 x4 x5 x6 x7 x8 x9 EL Ka=>B (x1,x2,x3,x4,x5,x6,x7,x8,x9,EL,Ka,())) λj=>A λe=>j (e.1) (e.2.1) (e.2.2.1) (e.2.2.2.1) (e.2.2.2.2.1) (e.2.2.2.2.2.1) (e.2.2.2.2.2.2.1) (e.2.2.2.2.2.2.2.1) (e.2.2.2.2.2.2.2.2.1) (e.2.2.2.2.2.2.2.2.2.1) (e.2.2.2.2.2.2.2.2.2.2.1)
 |[_,_,_,_,_,_,_,_,_,_,_,_],B,A=>lj b (λx1 x2 x3 x4 x5 x6 x7 x8 x9 EL Ka U3=>B (x1,x2,x3,x4,x5,x6,x7,x8,x9,EL,Ka,U3,())) λj=>A λe=>j (e.1) (e.2.1) (e.2.2.1) (e.2.2.2.1) (e.2.2.2.2.1) (e.2.2.2.2.2.1) (e.2.2.2.2.2.2.1) (e.2.2.2.2.2.2.2.1) (e.2.2.2.2.2.2.2.2.1) (e.2.2.2.2.2.2.2.2.2.1) (e.2.2.2.2.2.2.2.2.2.2.1) (e.2.2.2.2.2.2.2.2.2.2.2.1)
 |_,B,A=>A B
theorem V4{Z:Type}{b:Bool}:∀{l:List Ty} {B:HL G l->Option Z} {A:(HL G l->Option Z)->Option Z} {z:Z},jnE b l B A=some z->A B=some z:=by
 intro l B A z h
 match l,B,A,h with
 |[_],B,A,h=>exact(AF (b:=b) (a:=λx1=>B (x1,())) (f:=λj=>A λe=>j (e.1))).symm.trans h
 |[_,_],B,A,h=>exact(AF (b:=b) (a:=λx1 x2=>B (x1,x2,())) (f:=λj=>A λe=>j (e.1) (e.2.1))).symm.trans h
 |[_,_,_],B,A,h=>exact(AF (b:=b) (a:=λx1 x2 x3=>B (x1,x2,x3,())) (f:=λj=>A λe=>j (e.1) (e.2.1) (e.2.2.1))).symm.trans h
 |[_,_,_,_],B,A,h=>exact(AF (b:=b) (a:=λx1 x2 x3 x4=>B (x1,x2,x3,x4,())) (f:=λj=>A λe=>j (e.1) (e.2.1) (e.2.2.1) (e.2.2.2.1))).symm.trans h
 |[_,_,_,_,_],B,A,h=>exact(AF (b:=b) (a:=λx1 x2 x3 x4 x5=>B (x1,x2,x3,x4,x5,())) (f:=λj=>A λe=>j (e.1) (e.2.1) (e.2.2.1) (e.2.2.2.1) (e.2.2.2.2.1))).symm.trans h
 |[_,_,_,_,_,_],B,A,h=>exact(AF (b:=b) (a:=λx1 x2 x3 x4 x5 x6=>B (x1,x2,x3,x4,x5,x6,())) (f:=λj=>A λe=>j (e.1) (e.2.1) (e.2.2.1) (e.2.2.2.1) (e.2.2.2.2.1) (e.2.2.2.2.2.1))).symm.trans h
 |[_,_,_,_,_,_,_],B,A,h=>exact(AF (b:=b) (a:=λx1 x2 x3 x4 x5 x6 x7=>B (x1,x2,x3,x4,x5,x6,x7,())) (f:=λj=>A λe=>j (e.1) (e.2.1) (e.2.2.1) (e.2.2.2.1) (e.2.2.2.2.1) (e.2.2.2.2.2.1) (e.2.2.2.2.2.2.1))).symm.trans h
 |[_,_,_,_,_,_,_,_],B,A,h=>exact(AF (b:=b) (a:=λx1 x2 x3 x4 x5 x6 x7 x8=>B (x1,x2,x3,x4,x5,x6,x7,x8,())) (f:=λj=>A λe=>j (e.1) (e.2.1) (e.2.2.1) (e.2.2.2.1) (e.2.2.2.2.1) (e.2.2.2.2.2.1) (e.2.2.2.2.2.2.1) (e.2.2.2.2.2.2.2.1))).symm.trans h
 |[_,_,_,_,_,_,_,_,_],B,A,h=>exact(AF (b:=b) (a:=λx1 x2 x3 x4 x5 x6 x7 x8 x9=>B (x1,x2,x3,x4,x5,x6,x7,x8,x9,())) (f:=λj=>A λe=>j (e.1) (e.2.1) (e.2.2.1) (e.2.2.2.1) (e.2.2.2.2.1) (e.2.2.2.2.2.1) (e.2.2.2.2.2.2.1) (e.2.2.2.2.2.2.2.1) (e.2.2.2.2.2.2.2.2.1))).symm.trans h
 |[_,_,_,_,_,_,_,_,_,_],B,A,h=>exact(AF (b:=b) (a:=λx1 x2 x3 x4 x5 x6 x7 x8 x9 EL=>B (x1,x2,x3,x4,x5,x6,x7,x8,x9,EL,())) (f:=λj=>A λe=>j (e.1) (e.2.1) (e.2.2.1) (e.2.2.2.1) (e.2.2.2.2.1) (e.2.2.2.2.2.1) (e.2.2.2.2.2.2.1) (e.2.2.2.2.2.2.2.1) (e.2.2.2.2.2.2.2.2.1) (e.2.2.2.2.2.2.2.2.2.1))).symm.trans h
 |[_,_,_,_,_,_,_,_,_,_,_],B,A,h=>exact(AF (b:=b) (a:=λx1 x2 x3 x4 x5 x6 x7 x8 x9 EL Ka=>B (x1,x2,x3,x4,x5,x6,x7,x8,x9,EL,Ka,())) (f:=λj=>A λe=>j (e.1) (e.2.1) (e.2.2.1) (e.2.2.2.1) (e.2.2.2.2.1) (e.2.2.2.2.2.1) (e.2.2.2.2.2.2.1) (e.2.2.2.2.2.2.2.1) (e.2.2.2.2.2.2.2.2.1) (e.2.2.2.2.2.2.2.2.2.1) (e.2.2.2.2.2.2.2.2.2.2.1))).symm.trans h
 |[_,_,_,_,_,_,_,_,_,_,_,_],B,A,h=>exact(AF (b:=b) (a:=λx1 x2 x3 x4 x5 x6 x7 x8 x9 EL Ka U3=>B (x1,x2,x3,x4,x5,x6,x7,x8,x9,EL,Ka,U3,())) (f:=λj=>A λe=>j (e.1) (e.2.1) (e.2.2.1) (e.2.2.2.1) (e.2.2.2.2.1) (e.2.2.2.2.2.1) (e.2.2.2.2.2.2.1) (e.2.2.2.2.2.2.2.1) (e.2.2.2.2.2.2.2.2.1) (e.2.2.2.2.2.2.2.2.2.1) (e.2.2.2.2.2.2.2.2.2.2.1) (e.2.2.2.2.2.2.2.2.2.2.2.1))).symm.trans h
 |[],B,A,h=>exact h
 |_ ::_ ::_ ::_ ::_ ::_ ::_ ::_ ::_ ::_ ::_ ::_ ::_ ::_,B,A,h=>exact h
def Yd{B Z:Type}:(l:List Ty)->(B->(HL G l->Option Z)->HL G l->Option Z)->(HL G l->Option Z)->List B->HL G l->Option Z
 |[],b,fin,l,_ =>wZ (λy k (_ :Unit)=>b y (λ_ =>k ()) ()) (λ_ =>fin ()) l ()
 |[_],b,fin,l,e=>wZ (λy k x1=>b y (λe=>k (e.1)) (x1,())) (λx1=>fin (x1,())) l (e.1)
 |[_,_],b,fin,l,e=>Wg (λy k x1 x2=>b y (λe=>k (e.1) (e.2.1)) (x1,x2,())) (λx1 x2=>fin (x1,x2,())) l (e.1) (e.2.1)
 |[_,_,_],b,fin,l,e=>RU (λy k x1 x2 x3=>b y (λe=>k (e.1) (e.2.1) (e.2.2.1)) (x1,x2,x3,())) (λx1 x2 x3=>fin (x1,x2,x3,())) l (e.1) (e.2.1) (e.2.2.1)
 |[_,_,_,_],b,fin,l,e=>Wd (λy k x1 x2 x3 x4=>b y (λe=>k (e.1) (e.2.1) (e.2.2.1) (e.2.2.2.1)) (x1,x2,x3,x4,())) (λx1 x2 x3 x4=>fin (x1,x2,x3,x4,())) l (e.1) (e.2.1) (e.2.2.1) (e.2.2.2.1)
 |[_,_,_,_,_],b,fin,l,e=>Wc (λy k x1 x2 x3 x4 x5=>b y (λe=>k (e.1) (e.2.1) (e.2.2.1) (e.2.2.2.1) (e.2.2.2.2.1)) (x1,x2,x3,x4,x5,())) (λx1 x2 x3 x4 x5=>fin (x1,x2,x3,x4,x5,())) l (e.1) (e.2.1) (e.2.2.1) (e.2.2.2.1) (e.2.2.2.2.1)
 |[_,_,_,_,_,_],b,fin,l,e=>Wb (λy k x1 x2 x3 x4 x5 x6=>b y (λe=>k (e.1) (e.2.1) (e.2.2.1) (e.2.2.2.1) (e.2.2.2.2.1) (e.2.2.2.2.2.1)) (x1,x2,x3,x4,x5,x6,())) (λx1 x2 x3 x4 x5 x6=>fin (x1,x2,x3,x4,x5,x6,())) l (e.1) (e.2.1) (e.2.2.1) (e.2.2.2.1) (e.2.2.2.2.1) (e.2.2.2.2.2.1)
 |[_,_,_,_,_,_,_],b,fin,l,e=>Wa (λy k x1 x2 x3 x4 x5 x6 x7=>b y (λe=>k (e.1) (e.2.1) (e.2.2.1) (e.2.2.2.1) (e.2.2.2.2.1) (e.2.2.2.2.2.1) (e.2.2.2.2.2.2.1)) (x1,x2,x3,x4,x5,x6,x7,())) (λx1 x2 x3 x4 x5 x6 x7=>fin (x1,x2,x3,x4,x5,x6,x7,())) l (e.1) (e.2.1) (e.2.2.1) (e.2.2.2.1) (e.2.2.2.2.1) (e.2.2.2.2.2.1) (e.2.2.2.2.2.2.1)
 |[_,_,_,_,_,_,_,_],b,fin,l,e=>V9 (λy k x1 x2 x3 x4 x5 x6 x7 x8=>b y (λe=>k (e.1) (e.2.1) (e.2.2.1) (e.2.2.2.1) (e.2.2.2.2.1) (e.2.2.2.2.2.1) (e.2.2.2.2.2.2.1) (e.2.2.2.2.2.2.2.1)) (x1,x2,x3,x4,x5,x6,x7,x8,())) (λx1 x2 x3 x4 x5 x6 x7 x8=>fin (x1,x2,x3,x4,x5,x6,x7,x8,())) l (e.1) (e.2.1) (e.2.2.1) (e.2.2.2.1) (e.2.2.2.2.1) (e.2.2.2.2.2.1) (e.2.2.2.2.2.2.1) (e.2.2.2.2.2.2.2.1)
 |_,_,_,_,_ =>none
theorem OO{B Z:Type}:∀{l:List Ty} {b:B->(HL G l->Option Z)->HL G l->Option Z} {fin:HL G l->Option Z} {e:HL G l} {z:Z},Yd l b fin [] e=some z->fin e=some z:=by
 intro l b fin e z h
 match l,b,fin,e,h with
 |[],b,fin,e,h=>exact h
 |[_],b,fin,e,h=>exact h
 |[_,_],b,fin,e,h=>exact h
 |[_,_,_],b,fin,e,h=>exact h
 |[_,_,_,_],b,fin,e,h=>exact h
 |[_,_,_,_,_],b,fin,e,h=>exact h
 |[_,_,_,_,_,_],b,fin,e,h=>exact h
 |[_,_,_,_,_,_,_],b,fin,e,h=>exact h
 |[_,_,_,_,_,_,_,_],b,fin,e,h=>exact h
 |_ ::_ ::_ ::_ ::_ ::_ ::_ ::_ ::_ ::_,b,fin,e,h=>cases h
theorem LC{B Z:Type}:∀{l:List Ty} {b:B->(HL G l->Option Z)->HL G l->Option Z} {fin:HL G l->Option Z} {y:B} {q:List B} {e:HL G l} {z:Z},Yd l b fin (y::q) e=some z->b y (Yd l b fin q) e=some z:=by
 intro l b fin y q e z h
 match l,b,fin,e,h with
 |[],b,fin,e,h=>exact h
 |[_],b,fin,e,h=>exact h
 |[_,_],b,fin,e,h=>exact h
 |[_,_,_],b,fin,e,h=>exact h
 |[_,_,_,_],b,fin,e,h=>exact h
 |[_,_,_,_,_],b,fin,e,h=>exact h
 |[_,_,_,_,_,_],b,fin,e,h=>exact h
 |[_,_,_,_,_,_,_],b,fin,e,h=>exact h
 |[_,_,_,_,_,_,_,_],b,fin,e,h=>exact h
 |_ ::_ ::_ ::_ ::_ ::_ ::_ ::_ ::_ ::_,b,fin,e,h=>cases h
inductive Src where
 |slot (d:Nat)
 |obj (r:Nat)
structure FU where
 l:List (Src×Sh)
 nm:List (Option Nat)
def oA:List (Src×Sh)->Sh
 |[]=> .nil
 |(_,s)::r=> .cons s (oA r)
def y9(C:CC G)(S:AS G):List (Src×Sh)->Option (AV G)
 |[]=>some .nil
 |(.slot d,_)::r=>match dV C S [] (.tmp d),y9 C S r with
  |some v,some l=>some (.cons v l)
  |_,_ =>none
 |(.obj b,_)::r=>match cu S.O b,y9 C S r with
  |some (.bK _ _),some l=>some (.cons (.ptr b []) l)
  |_,_ =>none
def rV:List (Option Nat)->List Nat->Bool
 |[],[]=>true
 |some r::q,s::th=>Nat.beq r s&&rV q th
 |none::q,_ ::th=>rV q th
 |_,_ =>false
def Gz(base:Nat)(nm:List (Option Nat))(m:Nat):Nat:=match nm[m]? with
 |some (some r)=>r
 |_ =>base+m
def rW(base:Nat):List (Option Nat)->Bool
 |[]=>true
 |some r::q=>Nat.blt r base&&rW base q
 |none::q=>rW base q
def Bm:List (Src×Sh)->AV G->Fr G
 |(.slot d,_)::r, .cons v l=>(d,v)::Bm r l
 |(.obj _,_)::r, .cons _ l=>Bm r l
 |_,_ =>[]
def AV.lt(n:Nat):AV G->Bool
 | .ptr r _ =>Nat.blt r n
 | .row r=>Nat.blt r n
 | .Bp r _ _ _ _ _ =>Nat.blt r n
 | .mp r=>Nat.blt r n
 | .fn _ a c=>a.lt n&&c.lt n
 | .st a=>a.lt n
 | .iy a=>a.lt n
 | .fW _ v=>v.lt n
 | .gd _ _ v=>v.lt n
 | .cons a b=>a.lt n&&b.lt n
 | .part _ a b=>a.lt n&&b.lt n
 |_ =>true
theorem rl.da{n:Nat}(m:∀r,r<n->ρ' r=ρ r):∀{v:AV G} {l:List Value},v.lt n=true->rl J ρ v l->rl J ρ' v l:=by
 intro v
 induction v with
 |ptr r p=>intro l h1 h;have hr:=m r (by simpa[AV.lt,Nat.blt_eq]using h1);obtain⟨⟨b,o,k1,k2⟩,k3⟩:=h;refine⟨⟨b,o,?_,k2⟩,k3⟩;unfold PB at k1 ⊢;rw[hr];exact k1
 |Bp r p n' sz up i=>intro l h1 h;have hr:=m r (by simpa[AV.lt,Nat.blt_eq]using h1);obtain⟨⟨b,o,k1,k2⟩,k3⟩:=h;refine⟨⟨b,o,?_,k2⟩,k3⟩;unfold PB at k1 ⊢;rw[hr];exact k1
 |row r=>intro l h1 h;unfold rl at h ⊢;rw[m r (by simpa[AV.lt,Nat.blt_eq]using h1)];exact h
 |mp r=>intro l h1 h;unfold rl at h ⊢;rw[m r (by simpa[AV.lt,Nat.blt_eq]using h1)];exact h
 |fn f a c iW ym=>intro l h1 h;simp only[AV.lt,aa8]at h1;obtain⟨fs,cs,e,h2,h3⟩:=h;exact⟨fs,cs,e,iW h1.1 h2,ym h1.2 h3⟩
 |st a ih=>intro l h1 h;obtain⟨cs,e,h2,h3⟩:=h;exact⟨cs,e,ih h1 h2,h3⟩
 |iy a ih=>intro l h1 h;obtain⟨vs,e,h2⟩:=h;exact⟨vs,e,ih h1 h2⟩
 |fW t v ih=>intro l h1 h;obtain⟨u,e,h2⟩:=h;exact⟨u,e,ih h1 h2⟩
 |cons a b iW nW=>intro l h1 h;simp only[AV.lt,aa8]at h1;obtain⟨u,r,e,h2,h3⟩:=h;exact⟨u,r,e,iW h1.1 h2,nW h1.2 h3⟩
 |part w a b iW nW=>intro l h1 h;simp only[AV.lt,aa8]at h1;obtain⟨c1,c2,u,e,h2,h3,h4,h5⟩:=h;exact⟨c1,c2,u,e,h2,iW h1.1 h3,h4,nW h1.2 h5⟩
 |_ =>intro l _ h;exact h
def Lv(n:Nat):Fr G->Bool
 |[]=>true
 |(_,v)::r=>v.lt n&&Lv n r
def qO(n:Nat):Os G->Bool
 |[]=>true
 |(r, .bK _ c)::q=>Nat.blt r n&&(c.lt n&&qO n q)
 |(r, .row _ _ _ _)::q=>Nat.blt r n&&qO n q
 |(r, .aux _)::q=>Nat.blt r n&&qO n q
 |(r, .gm)::q=>Nat.blt r n&&qO n q
 |(r, .fm _ _ vs)::q=>Nat.blt r n&&(vs.lt n&&qO n q)
def OC(n:Nat):List (AV G)->Bool
 |[]=>true
 |v::r=>v.lt n&&OC n r
def tJ(n:Nat):CC G->Bool
 |[]=>true
 |y::r=>Lv n y.F&&(qO n y.O&&(OC n y.D&&tJ n r))
theorem Qh{n:Nat}:∀{F:Fr G} {d:Nat} {v:AV G},Lv n F=true->cu F d=some v->v.lt n=true:=by
 intro F
 induction F with
 |nil=>intro d v _ h;cases h
 |cons p r ih=>
  obtain⟨k,u⟩:=p;intro d v h e;simp only[Lv,aa8]at h;simp only[cu]at e;cases hb:Nat.beq k d with
  |true=>rw[hb]at e;cases e;exact h.1
  |false=>rw[hb]at e;exact ih h.2 e
theorem rf.da{n:Nat}(m:∀r,r<n->ρ' r=ρ r){t:Array Value}{v:AV G}{u:Value}(h1:v.lt n=true)(h:rf J ρ t v u):rf J ρ' t v u:=by
 cases v with
 |gd j w v=>exact⟨λe=>(h.1 e).da m h1,h.2⟩
 |_ =>exact rl.da m h1 h
theorem l9.da{n:Nat}(m:∀r,r<n->ρ' r=ρ r){F:Fr G}{t:Array Value}(h1:Lv n F=true)(h:l9 J ρ F t):l9 J ρ' F t:=λd v e=>by obtain⟨u,k1,k2⟩:=h d v e;exact⟨u,k1,k2.da m (Qh h1 e)⟩
def Ob.lt(n:Nat):Ob G->Bool
 | .bK _ c=>c.lt n
 | .fm _ _ vs=>vs.lt n
 |_ =>true
theorem Lu{n:Nat}:∀{O:Os G} {r:Nat} {o:Ob G},qO n O=true->cu O r=some o->(Nat.blt r n&&o.lt n)=true:=by
 intro O
 induction O with
 |nil=>intro r o _ h;cases h
 |cons p q ih=>
  obtain⟨k,u⟩:=p;intro r o h e;have h2:(Nat.blt k n&&u.lt n)=true/\qO n q=true:=by
   cases u with
   |bK T c=>simp only[qO,aa8]at h;exact⟨by simp[Ob.lt,h.1,h.2.1],h.2.2⟩
   |row _ _ _ _ =>simp only[qO,aa8]at h;exact⟨by simp[Ob.lt,h.1],h.2⟩
   |aux _ =>simp only[qO,aa8]at h;exact⟨by simp[Ob.lt,h.1],h.2⟩
   |gm=>simp only[qO,aa8]at h;exact⟨by simp[Ob.lt,h.1],h.2⟩
   |fm _ _ _ =>simp only[qO,aa8]at h;exact⟨by simp[Ob.lt,h.1,h.2.1],h.2.2⟩
  simp only[cu]at e;cases hb:Nat.beq k r with
  |true=>rw[hb]at e;cases e;rw[← aa7 hb];exact h2.1
  |false=>rw[hb]at e;exact ih h2.2 e
theorem ro.da{n:Nat}(m:∀r,r<n->ρ' r=ρ r){r:Nat}{o:Ob G}{x:av}(h:ro J ρ r o x)(hl:(Nat.blt r n&&o.lt n)=true):ro J ρ' r o x:=by
 rw[aa8]at hl;have hr:=m r (by simpa[Nat.blt_eq]using hl.1);cases o with
 |bK T c=>obtain⟨b,u,k1,k2,k3⟩:=h;exact⟨b,u,hr.trans k1,k2,k3.da m hl.2⟩
 |row e sz t xs=>obtain⟨v,ws,k1,k2⟩:=h;exact⟨v,ws,hr.trans k1,k2⟩
 |aux b=>obtain⟨n,x,k1,k2⟩:=h;exact⟨n,x,hr.trans k1,k2⟩
 |gm=>obtain⟨⟨mb,g,k1,k2⟩,k4⟩:=h;exact⟨⟨mb,g,hr.trans k1,k2⟩,k4⟩
 |fm q ks vs=>obtain⟨b,es,ck,us,k1,k2,k3,k4,k5⟩:=h;exact⟨b,es,ck,us,hr.trans k1,k2,k3,k4.da m hl.2,k5⟩
theorem RO.da{n:Nat}(m:∀r,r<n->ρ' r=ρ r){O:Os G}{H:List av}(h:RO J ρ O H):qO n O=true->RO J ρ' O H:=by
 induction h with
 |nil=>intro _;exact .nil
 |@cons r o x O H h _ ih=>
  intro hl;cases o with
  |bK T c=>simp only[qO,aa8]at hl;obtain⟨b,u,k1,k2,k3⟩:=h;exact .cons ⟨b,u,(m r (by simpa[Nat.blt_eq]using hl.1)).trans k1,k2,k3.da m hl.2.1⟩ (ih hl.2.2)
  |row e sz t xs=>simp only[qO,aa8]at hl;obtain⟨v,ws,k1,k2⟩:=h;exact .cons ⟨v,ws,(m r (by simpa[Nat.blt_eq]using hl.1)).trans k1,k2⟩ (ih hl.2)
  |aux b=>simp only[qO,aa8]at hl;obtain⟨v,ws,k1,k2⟩:=h;exact .cons ⟨v,ws,(m r (by simpa[Nat.blt_eq]using hl.1)).trans k1,k2⟩ (ih hl.2)
  |gm=>simp only[qO,aa8]at hl;obtain⟨⟨mb,g,k1,k2⟩,k4⟩:=h;exact .cons ⟨⟨mb,g,(m r (by simpa[Nat.blt_eq]using hl.1)).trans k1,k2⟩,k4⟩ (ih hl.2)
  |fm q ks vs=>simp only[qO,aa8]at hl;obtain⟨b,es,ck,us,k1,k2,k3,k4,k5⟩:=h;exact .cons ⟨b,es,ck,us,(m r (by simpa[Nat.blt_eq]using hl.1)).trans k1,k2,k3,k4.da m hl.2.1,k5⟩ (ih hl.2.2)
theorem DR.da{n:Nat}(m:∀r,r<n->ρ' r=ρ r){l:List (AV G)}{D:List Deferred}(h:DR J ρ l D):OC n l=true->DR J ρ' l D:=by
 induction h with
 |nil=>intro _;exact .nil
 |@cons v d l D h _ ih=>
  intro hl;simp only[OC,aa8]at hl;refine .cons ?_ (ih hl.2);unfold dr at h;split at h
  ·simp only[AV.lt,aa8]at hl
   obtain⟨fs,cs,ls,k1,k2,k3,k4⟩:=h;exact⟨fs,cs,ls,k1.da m hl.1.1.1,k2.da m hl.1.1.2,k3.da m hl.1.2,k4⟩
  ·obtain⟨rfl,b,k1,k2⟩:=h
   exact⟨rfl,b,(m _ (by simpa[AV.lt,Nat.blt_eq]using hl.1)).trans k1,k2⟩
  ·exact h.elim
theorem Lw{n:Nat}:∀{C:CC G},tJ n C=true->∀y∈C,Lv n y.F=true:=by
 intro C
 induction C with
 |nil=>intro _ y h;cases h
 |cons x r ih=>
  intro h y hy;simp only[tJ,aa8]at h;rcases List.mem_cons.1 hy with rfl|hy
  ·exact h.1
  ·exact ih h.2.2.2 y hy
theorem OB{n:Nat}:∀{A B:Os G},qO n A=true->qO n B=true->qO n (A++B)=true:=by
 intro A
 induction A with
 |nil=>intro B _ h;exact h
 |cons p r ih=>
  obtain⟨k,o⟩:=p;intro B h1 h2;cases o<;>simp only[List.cons_append,qO,aa8]at h1 ⊢
  ·exact⟨h1.1,h1.2.1,ih h1.2.2 h2⟩
  ·exact⟨h1.1,ih h1.2 h2⟩
  ·exact⟨h1.1,ih h1.2 h2⟩
  ·exact⟨h1.1,ih h1.2 h2⟩
  ·exact⟨h1.1,h1.2.1,ih h1.2.2 h2⟩
theorem D4{n:Nat}:∀{A B:List (AV G)},OC n A=true->OC n B=true->OC n (A++B)=true:=by
 intro A
 induction A with
 |nil=>intro B _ h;exact h
 |cons p r ih=>intro B h1 h2;simp only[List.cons_append,OC,aa8]at h1 ⊢;exact⟨h1.1,ih h1.2 h2⟩
theorem z9{n:Nat}:∀{C:CC G},tJ n C=true->qO n (rh C)=true/\OC n (Ur C)=true:=by
 intro C
 induction C with
 |nil=>intro _;exact⟨rfl,rfl⟩
 |cons x r ih=>intro h;simp only[tJ,aa8]at h;obtain⟨i1,i2⟩:=ih h.2.2.2;exact⟨OB h.2.1 i1,D4 h.2.2.1 i2⟩
theorem NO{c:Cx}{N:Nat}{HK X:List av}{C:CC G}{S:AS G}{a:Act}{w:World}(h:Rl c N ρ J HK X C S a w):∀{l:List (Src×Sh)} {v:AV G},y9 C S l=some v->∃us,rl J ρ v us/\∀(x:HL G (aD (oA l))) (f:Nat->Nat) (m:Nat) (τ:aP),rl J τ (cZ f (oA l) x m).1 us->l9 J τ (Bm l (cZ f (oA l) x m).1) a.tmps:=by
 intro l
 induction l with
 |nil=>intro v e;cases e;exact⟨[],rfl,λx f m τ _ d v e=>by cases e⟩
 |cons p r ih=>
  obtain⟨s,sh⟩:=p;intro v e;have key:∀(u0:Value) (us:List Value) (x:HL G (aD (oA ((s,sh)::r)))) (f:Nat->Nat) (m:Nat) (τ:aP),rl J τ (cZ f (oA ((s,sh)::r)) x m).1 (u0::us)->
    rv J τ (cZ f sh (HL.fst x) m).1 u0/\rl J τ (cZ f (oA r) (HL.snd x) (cZ f sh (HL.fst x) m).2.2).1 us:=λu0 us x f m τ hr=>by
   obtain⟨u,q,e1,h1,h2⟩:=hr;cases e1;exact⟨h1,h2⟩
  cases s with
  |slot d=>
   simp only[y9]at e;split at e
   ·rename_i v1 l1 e1 e2
    cases e;obtain⟨us,i1,i2⟩:=ih e2;have hE:=bU h (ch:=[]) (by simp);have hin:=hE.ev _ _ e1;have hd:a.tmps[d]? =some (a.eval (.tmp d)):=A3 a d _ hin;refine⟨a.eval (.tmp d)::us,⟨_,_,rfl,hE.ok _ _ e1,i1⟩,λx f m τ hr=>?_⟩;obtain⟨k1,k2⟩:=key _ _ _ _ _ _ hr;have:=i2 (HL.snd x) f _ τ k2;intro k v e;have e:cu ((d,(cZ f sh (HL.fst x) m).1)::Bm r (cZ f (oA r) (HL.snd x) (cZ f sh (HL.fst x) m).2.2).1) k=some v:=e;simp only[cu]at e;cases hb:Nat.beq d k with
    |true=>
     rw[hb]at e;cases e;obtain rfl:=aa7 hb;refine⟨_,hd,?_⟩;have hng:∀j w v',(cZ f sh (HL.fst x) m).1≠ .gd j w v':=λj w v' q=>by rw[q]at k1;exact k1
     revert k1;generalize(cZ f sh (HL.fst x) m).1=b at hng;intro k1;cases b with
     |gd j w v'=>exact absurd rfl (hng j w v')
     |_ =>exact k1
    |false=>rw[hb]at e;exact this k v e
   ·cases e
  |obj b=>
   simp only[y9]at e;split at e
   ·rename_i T cc l1 e1 e2
    cases e;obtain⟨us,i1,i2⟩:=ih e2;obtain⟨HS,q1,_⟩:=h.hp;obtain⟨k,y,_,⟨b',u,m1,_,_⟩⟩:=q1.get e1;refine⟨cj b' 0::us,⟨_,_,rfl,⟨⟨b',0, .inl m1,rfl⟩,by simp⟩,i1⟩,λx f m τ hr=>?_⟩;obtain⟨k1,k2⟩:=key _ _ _ _ _ _ hr;exact i2 (HL.snd x) f _ τ k2
   ·cases e
theorem Ln:∀{nm:List (Option Nat)} {th:List Nat},rV nm th=true->nm.length=th.length/\∀(m r:Nat),nm[m]? =some (some r)->th[m]? =some r:=by
 intro nm
 induction nm with
 |nil=>intro th h;cases th with
  |nil=>exact⟨rfl,λm r e=>by simp at e⟩
  |cons _ _ =>cases h
 |cons o q ih=>
  intro th h;cases th with
  |nil=>cases o<;>cases h
  |cons s th=>
   have h1:rV q th=true/\∀r,o=some r->r=s:=by
    cases o with
    |none=>exact⟨h,nofun⟩
    |some r=>simp only[rV,aa8]at h;exact⟨h.2,λr' e=>by cases e;exact aa7 h.1⟩
   obtain⟨i1,i2⟩:=ih h1.1;refine⟨by simp[i1],λm r e=>?_⟩;cases m with
   |zero=>simp at e;simp[h1.2 r e]
   |succ m=>simpa using i2 m r (by simpa using e)
theorem Lo{base:Nat}:∀{nm:List (Option Nat)},rW base nm=true->∀(m r:Nat),nm[m]? =some (some r)->r<base:=by
 intro nm
 induction nm with
 |nil=>intro _ m r e;simp at e
 |cons o q ih=>
  intro h m r e;cases m with
  |zero=>simp at e;subst e;simp only[rW,aa8]at h;simpa[Nat.blt_eq]using h.1
  |succ m=>
   refine ih ?_ m r (by simpa using e);cases o with
   |none=>exact h
   |some _ =>simp only[rW,aa8]at h;exact h.2
def CK(g:FU)(base:Nat)(x:HL G (aD (oA g.l))):AS G:=⟨Bm g.l (cZ (Gz base g.nm) (oA g.l) x 0).1,(cZ (Gz base g.nm) (oA g.l) x 0).2.1,base+g.nm.length,[]⟩
def BK(C:CC G)(S:AS G)(g:FU)(base:Nat):Option (HL G (aD (oA g.l))):=match S.D with
 |[]=>match y9 C S g.l with
  |some v=>match jx (oA g.l) v ⟨[],S.O,S.nx⟩with
   |some (x,g')=>bif rV g.nm g'.th&&(rW base g.nm&&Nat.ble base S.nx)then some x else none
   |none=>none
  |none=>none
 |_ =>none
theorem HW{c:Cx}{N:Nat}{HK X:List av}{C:CC G}{S:AS G}{a:Act}{w:World}{g:FU}{base:Nat}{v:AV G}{x:HL G (aD (oA g.l))}{g':GS G}(h:Rl c N ρ J HK X C S a w)(hv:y9 C S g.l=some v)(Dn:jx (oA g.l) v ⟨[],S.O,S.nx⟩=some (x,g'))
  (b1:rV g.nm g'.th=true)(b2:rW base g.nm=true)(b3:base<=S.nx)(hl:tJ base C=true):
  ∃(ρ' ρ2:aP) (HB H':List av),ρ.to ρ' base/\ρ.to ρ2 S.nx/\RO J ρ' (CK g base x).O HB/\RO J ρ2 g'.O H'/\(∀r o,cu (rh C) r=some o->∃x∈HK,ro J ρ' r o x)/\aX c.bs c.w0.heap.size (HB++(H'++(HK++X))) w/\l9 J ρ' (CK g base x).F a.tmps/\FC J ρ' C a.tmps/\ρ'.fr (base+g.nm.length):=by
 obtain⟨n1,n2⟩:=Ln b1;have n3:=Lo b2;obtain⟨us,i1,i2⟩:=NO h hv;obtain⟨HS,q1,q3⟩:=h.hp;obtain⟨ρ2,HB,H',k⟩:=BL Dn i1 q1 h.fr;let ρ':aP:=λr=>if r<base then ρ r else cmp ρ2 g'.th (r-base)
 have hto:ρ.to ρ' base:=λr hr=>by show(if r<base then _ else _)=_;rw[aa5 hr]
 have hmap:∀m u,cmp ρ2 g'.th m=some u->ρ' (Gz base g.nm m)=some u:=λm u e=>by
  have hm:m<g.nm.length:=by
   unfold cmp at e;rcases Nat.lt_or_ge m g'.th.length with hlt|hge
   ·omega
   ·rw[List.getElem?_eq_none hge]at e;cases e
  unfold Gz;obtain⟨o,ho⟩:∃o,g.nm[m]? =some o:=⟨_,abg hm⟩;rw[ho];cases o with
  |none=>show(if base+m<base then _ else cmp ρ2 g'.th (base+m-base))=_;rw[aa6 (by omega),Nat.add_sub_cancel_left];exact e
  |some r=>have hr:=n3 m r ho;have ht:=n2 m r ho;unfold cmp at e;rw[ht]at e;show(if r<base then ρ r else _)=_;rw[aa5 hr, ← k.to r (by show r<S.nx;omega)];exact e
 obtain⟨r1,r2,_⟩:=yD (G:=G) (f:=Gz base g.nm) (s:=oA g.l) (x:=x) (m:=0);have hval:rl J ρ' (cZ (Gz base g.nm) (oA g.l) x 0).1 us:=by rw[r1];exact DQ hmap k.val
 have BJ:RO J ρ' (cZ (Gz base g.nm) (oA g.l) x 0).2.1 HB:=by rw[r2];exact HJ hmap k.bK
 have hag:∀r,r<base->ρ' r=ρ r:=hto;obtain⟨l1,l2⟩:=z9 hl;refine⟨ρ',ρ2,HB,H',hto,k.to,BJ,k.left,λr o e=>?_,k.hp (HK++X) _ _ _ q3,i2 x _ 0 ρ' hval,λz hz=>(h.fc z hz).da hag (Lw hl z hz),λr hr=>?_⟩
 ·obtain⟨y,y1,y2⟩:=h.kc r o e
  exact⟨y,y1,y2.da hag (Lu l1 e)⟩
 show(if r<base then ρ r else cmp ρ2 g'.th (r-base))=none;rw[aa6 (by omega)];unfold cmp;rw[List.getElem?_eq_none (by omega)]
theorem Oz{c:Cx}{N:Nat}{HK X:List av}{C:CC G}{S:AS G}{a:Act}{w:World}{g:FU}{base:Nat}{x:HL G (aD (oA g.l))}(h:Rl c N ρ J HK X C S a w)(hg:BK C S g base=some x)(hl:tJ base C=true):
  ∃ρ',ρ.to ρ' base/\Rl c N ρ' J HK X C (CK g base x) a w:=by
 unfold BK at hg;split at hg
 ·rename_i hD
  split at hg
  ·rename_i v hv
   split at hg
   ·rename_i y g' Dn
    cases hb:(rV g.nm g'.th&&(rW base g.nm&&Nat.ble base S.nx))with
    |false=>rw[hb]at hg;cases hg
    |true=>rw[hb]at hg;cases hg;simp only[aa8]at hb;obtain⟨b1,b2,b3⟩:=hb;obtain⟨ρ',ρ2,HB,H',hto,_,BJ,_,hC,hp,hF,WZ,hfr⟩:=HW h hv Dn b1 b2 (Nat.le_of_ble_eq_true b3) hl;have hdf:=h.df;rw[hD]at hdf;refine⟨ρ',hto,h.tm,hdf.da hto (z9 hl).2,h.si,hF,WZ,hC,⟨HB,BJ,?_⟩,h.kn,hfr⟩;exact hp.sub ((List.Sublist.refl HB).append (List.sublist_append_right H' (HK++X)))
   ·cases hg
  ·cases hg
 ·cases hg
def bZ:List Nat->Nat->Bool
 |[],_ =>false
 |k::r,d=>Nat.beq k d||bZ r d
def uI:List (Src×Sh)->Nat->Bool
 |[],_ =>false
 |(.slot k,_)::r,d=>Nat.beq k d||uI r d
 |(.obj _,_)::r,d=>uI r d
def fK(p:Nat->Bool):Fr G->Fr G
 |[]=>[]
 |(k,v)::r=>bif p k then(k,v)::fK p r else fK p r
theorem Pb{p:Nat->Bool}:∀{F:Fr G} {d:Nat} {v:AV G},cu (fK p F) d=some v->cu F d=some v:=by
 intro F
 induction F with
 |nil=>intro d v h;cases h
 |cons q r ih=>
  obtain⟨k,u⟩:=q;intro d v h;have key:∀{G0:Fr G},(∀x,(k,x)∉G0)->True:=λ_ =>trivial;simp only[fK]at h;cases hp:p k with
  |true=>
   rw[hp]at h;simp only[cond_true,cu]at h ⊢;cases hb:Nat.beq k d with
   |true=>rw[hb]at h;exact h
   |false=>rw[hb]at h;exact ih h
  |false=>
   rw[hp]at h;simp only[cond_false]at h;simp only[cu];cases hb:Nat.beq k d with
   |true=>
    obtain rfl:=aa7 hb;exact absurd h (by
     have:∀{F:Fr G},cu (fK p F) k=none:=by
      intro F
      induction F with
      |nil=>rfl
      |cons q r ih=>
       obtain⟨k',u'⟩:=q;simp only[fK];cases hp':p k' with
       |true=>
        simp only[cond_true,cu];cases hb':Nat.beq k' k with
        |true=>rw[aa7 hb']at hp';rw[hp]at hp';cases hp'
        |false=>exact ih
       |false=>exact ih
     rw[this];simp)
   |false=>exact ih h
theorem l9.NA{p:Nat->Bool}{F:Fr G}{t:Array Value}(h:l9 J ρ F t):l9 J ρ (fK p F) t:=λd v e=>h d v (Pb e)
def bH(p:Nat->Bool):Os G->Os G
 |[]=>[]
 |(k,v)::r=>bif p k then(k,v)::bH p r else bH p r
theorem RO.NA{p:Nat->Bool}{O:Os G}{H:List av}(h:RO J ρ O H):∃H1 H2,RO J ρ (bH p O) H1/\RO J ρ (bH (λk=> !p k) O) H2/\H.Perm (H1++H2):=by
 induction h with
 |nil=>exact⟨[],[], .nil, .nil, .refl _⟩
 |@cons r o x O H h _ ih=>
  obtain⟨H1,H2,i1,i2,i3⟩:=ih;simp only[bH];cases hp:p r with
  |true=>exact⟨x::H1,H2, .cons h i1,by simpa[hp]using i2,i3.cons x⟩
  |false=>exact⟨H1,x::H2,by simpa[hp]using i1, .cons h i2,(i3.cons x).trans List.perm_middle.symm⟩
def EH(y:Ly G)(S:AS G):AS G:=⟨S.F++y.F,S.O++y.O,S.nx,S.D++y.D⟩
theorem gA{α:Type}:∀{A B:List (Nat×α)} {d:Nat},cu (A++B) d=match cu A d with
  |some v=>some v
  |none=>cu B d:=by
 intro A
 induction A with
 |nil=>intro B d;rfl
 |cons q r ih=>
  obtain⟨k,u⟩:=q;intro B d;simp only[List.cons_append,cu];cases hb:Nat.beq k d with
  |true=>rfl
  |false=>exact ih
theorem RO.lk{O:Os G}{H:List av}(h:RO J ρ O H){r:Nat}{o:Ob G}(e:cu O r=some o):∃x∈H,ro J ρ r o x:=by obtain⟨k,x,h1,h2⟩:=h.get e;exact⟨x,List.mem_of_getElem? h1,h2⟩
theorem Rl.EH{c:Cx}{N:Nat}{H2 HK X:List av}{y:Ly G}{C:CC G}{S:AS G}{a:Act}{w:World}(h:Rl c N ρ J (H2++HK) X (y::C) S a w)(hy:RO J ρ y.O H2)(hk:∀r o,cu (rh C) r=some o->∃x∈HK,ro J ρ r o x)(hn:Bx (rh C)=true->c.ro=none):Rl c N ρ J HK X C (EH y S) a w:=by
 obtain⟨HS,q1,q3⟩:=h.hp;refine⟨h.tm,?_,⟨h.si.s,hn⟩,λd v e=>?_,λz hz=>h.fc z (abj _ hz),hk,⟨HS++H2,q1.app hy,by simpa using q3⟩,h.kn,h.fr⟩
 ·have:=h.df
  show DR J ρ ((S.D++y.D)++Ur C) a.defers;rw[List.append_assoc];exact this
 ·have e:cu (S.F++y.F) d=some v:=e
  rw[gA]at e;split at e
  ·rename_i v' hv;cases e;exact h.fs d _ hv
  ·exact h.fc y List.mem_cons_self d v e
theorem Rl.push{c:Cx}{N:Nat}{HK X:List av}{C:CC G}{S:AS G}{a:Act}{w:World}(p q:Nat->Bool)(h:Rl c N ρ J HK X C S a w):∃H2,RO J ρ (bH (λr=> !q r) S.O) H2/\Rl c N ρ J (H2++HK) X (⟨fK (λd=> !p d) S.F,bH (λr=> !q r) S.O,S.D⟩::C) ⟨fK p S.F,bH q S.O,S.nx,[]⟩ a w:=by
 obtain⟨HS,q1,q3⟩:=h.hp;obtain⟨H1,H2,k1,k2,k3⟩:=q1.NA (p:=q);refine⟨H2,k2,h.tm,h.df,⟨h.si.s,λq=>h.si.n (yd q)⟩,h.fs.NA,λz hz=>?_,λr o e=>?_,⟨H1,k1,?_⟩,h.kn,h.fr⟩
 ·rcases List.mem_cons.1 hz with rfl|hz
  ·exact h.fs.NA
  ·exact h.fc z hz
 ·have e:cu (bH (λr=> !q r) S.O++rh C) r=some o:=e
  rw[gA]at e;split at e
  ·rename_i v' hv
   cases e;obtain⟨x,h1,h2⟩:=k2.lk hv;exact⟨x,abe _ h1,h2⟩
  ·obtain⟨x,h1,h2⟩:=h.kc r o e
   exact⟨x,abd _ h1,h2⟩
 ·refine q3.iu ?_
  have:=List.Perm.append_right (HK++X) k3;simpa using this
end Go.Rw
namespace Go.Rw
open Go Go.Bw Go.RowKit
variable {G:Sg} {P:Program} {J J':World->Prop} {ρ ρ' σ:aP}
def sb(r:Nat)(t:Ty)(xs:List (t.T G)):AV G->AV G
 | .row q=>bif Nat.beq q r then .dat (.sl t) xs else .row q
 | .fn k a c=> .fn k (sb r t xs a) (sb r t xs c)
 | .st a=> .st (sb r t xs a)
 | .iy a=> .iy (sb r t xs a)
 | .fW k v=> .fW k (sb r t xs v)
 | .gd j w v=> .gd j w (sb r t xs v)
 | .cons a b=> .cons (sb r t xs a) (sb r t xs b)
 | .part w a b=> .part w (sb r t xs a) (sb r t xs b)
 |v=>v
def Vl(r:Nat)(t:Ty)(xs:List (t.T G)):Fr G->Fr G
 |[]=>[]
 |(k,v)::q=>(k,sb r t xs v)::Vl r t xs q
def sbB(r:Nat)(t:Ty)(xs:List (t.T G)):Ob G->Ob G
 | .bK T c=> .bK T (sb r t xs c)
 |o=>o
def Zr(r:Nat)(t:Ty)(xs:List (t.T G)):Os G->Os G
 |[]=>[]
 |(k,o)::q=>(k,sbB r t xs o)::Zr r t xs q
def Zs(r:Nat)(t:Ty)(xs:List (t.T G)):List (AV G)->List (AV G)
 |[]=>[]
 |v::q=>sb r t xs v::Zs r t xs q
def GV(r:Nat)(S:AS G):AS G:=match cu S.O r with
 |some (.row _ _ t xs)=>⟨Vl r t xs S.F,Zr r t xs (uR S.O r),S.nx,Zs r t xs S.D⟩
 |_ =>S
def uK:List Nat->AS G->AS G
 |[],S=>S
 |r::q,S=>uK q (GV r S)
def su(O:Os G):Sh->AV G->List Nat
 | .v _, .row r=>[r]
 | .box _ s, .ptr r []=>match cu O r with
  |some (.bK _ c)=>su O s c
  |_ =>[]
 | .fn _ a c, .fn _ x y=>su O a x++su O c y
 | .iy a, .iy x=>su O a x
 | .st a, .st x=>su O a x
 | .fW _ a, .fW _ x=>su O a x
 | .cons a b, .cons x y=>su O a x++su O b y
 | .part _ a b, .part _ x y=>su O a x++su O b y
 |_,_ =>[]
section
variable {r:Nat} {t:Ty} {xs:List (t.T G)}
theorem C5(hr:∀u,ρ r=some u->rR J (.sl t) xs u):∀{v:AV G} {l:List Value},rl J ρ v l->rl J ρ (sb r t xs v) l:=by
 intro v
 induction v with
 |row q=>
  intro l h;unfold sb;cases hb:Nat.beq q r with
  |false=>exact h
  |true=>obtain rfl:=aa7 hb;obtain⟨a,n,cap,h1,h2⟩:=h;exact⟨_,h2,hr _ h1⟩
 |fn f a c iW ym=>intro l h;obtain⟨fs,cs,e,h1,h2⟩:=h;exact⟨fs,cs,e,iW h1,ym h2⟩
 |st a ih=>intro l h;obtain⟨cs,e,h1,h2⟩:=h;exact⟨cs,e,ih h1,h2⟩
 |iy a ih=>intro l h;obtain⟨vs,e,h1⟩:=h;exact⟨vs,e,ih h1⟩
 |fW t v ih=>intro l h;obtain⟨u,e,h1⟩:=h;exact⟨u,e,ih h1⟩
 |cons a b iW nW=>intro l h;obtain⟨u,r,e,h1,h2⟩:=h;exact⟨u,r,e,iW h1,nW h2⟩
 |part w a b iW nW=>intro l h;obtain⟨c1,c2,u,e,h1,h2,h3,h4⟩:=h;exact⟨c1,c2,u,e,h1,iW h2,h3,nW h4⟩
 |_ =>intro l h;exact h
theorem Vk(hr:∀u,ρ r=some u->rR J (.sl t) xs u){tm:Array Value}{v:AV G}{u:Value}(h:rf J ρ tm v u):rf J ρ tm (sb r t xs v) u:=by
 have key:∀{v:AV G},rv J ρ v u->rf J ρ tm (sb r t xs v) u:=λ{v} hv=>by
  have h2:=C5 (xs:=xs) hr hv;revert h2;generalize sb r t xs v=y;intro h2;cases y with
  |gd j w v=>exact h2.elim
  |_ =>exact h2
 cases v with
 |gd j w v=>exact⟨λe=>C5 hr (h.1 e),h.2⟩
 |_ =>exact key h
theorem Zp(hr:∀u,ρ r=some u->rR J (.sl t) xs u){tm:Array Value}:∀{F:Fr G},l9 J ρ F tm->l9 J ρ (Vl r t xs F) tm:=by
 intro F;have key:∀{F:Fr G} {d:Nat} {v:AV G},cu (Vl r t xs F) d=some v->∃v0,cu F d=some v0/\v=sb r t xs v0:=by
  intro F
  induction F with
  |nil=>intro d v e;cases e
  |cons p q ih=>
   obtain⟨k,v0⟩:=p;intro d v e;simp only[Vl,cu]at e ⊢;cases hb:Nat.beq k d with
   |true=>rw[hb]at e;cases e;exact⟨_,rfl,rfl⟩
   |false=>rw[hb]at e;exact ih e
 intro h d v e;obtain⟨v0,h1,rfl⟩:=key e;obtain⟨u,h2,h3⟩:=h d v0 h1;exact⟨u,h2,Vk hr h3⟩
theorem Zo(hr:∀u,ρ r=some u->rR J (.sl t) xs u){O:Os G}{H:List av}(h:RO J ρ O H):RO J ρ (Zr r t xs O) H:=by
 induction h with
 |nil=>exact .nil
 |@cons k o x O H h _ ih=>
  refine .cons ?_ ih;cases o with
  |bK T c=>obtain⟨b,u,h1,h2,h3⟩:=h;exact⟨b,u,h1,h2,C5 hr h3⟩
  |row _ _ _ _ =>exact h
  |aux _ =>exact h
  |gm=>exact⟨h.1,h.2⟩
  |fm _ _ _ =>exact h
theorem Zq(hr:∀u,ρ r=some u->rR J (.sl t) xs u){l m:List (AV G)}{D:List Deferred}(h:DR J ρ (l++m) D):DR J ρ (Zs r t xs l++m) D:=by
 induction l generalizing D with
 |nil=>exact h
 |cons v q ih=>
  cases h with
  |cons h k=>
   refine .cons ?_ (ih k);unfold dr at h;split at h
   ·obtain⟨fs,cs,ls,k1,k2,k3,k4⟩:=h
    exact⟨fs,cs,ls,C5 hr k1,C5 hr k2,C5 hr k3,k4⟩
   ·exact h
   ·exact h.elim
end
theorem Rl.GV{c:Cx}{N:Nat}{HK X:List av}{C:CC G}{S:AS G}{a:Act}{w:World}(r:Nat)(h:Rl c N ρ J HK X C S a w):∃(J':World->Prop) (Y:List av),(∀w,J' w->J w)/\Rl c N ρ J' HK (Y++X) C (GV r S) a w:=by
 unfold Go.Rw.GV;split
 ·rename_i e sz t xs ho
  obtain⟨HS,q1,q3⟩:=h.hp;obtain⟨k,x,k1,⟨v,ws,m1,rfl,m3,m4,m5⟩,k3⟩:=q1.QA ho;let x:av:= .row v e sz xs.length ws;let J':World->Prop:=λw=>J w/\Hs [x] w;have mJ:∀w,J' w->J w:=λw h=>h.1;have hr:∀u,ρ r=some u->rR J' (.sl t) xs u:=λu hu=>by rw[m1]at hu;cases hu;have hc:v.cells.toList=[v]:=m3.cells;refine⟨⟨v,ws,hc,m3,bP.mono _ mJ m4,λw hw=>?_⟩,nofun,λ_ =>by rw[← hc]⟩;have:=Ro.rU (hw.2 x (by simp)).1;rw[m5];exact this
  have hle:=aP.le_refl ρ;have Z4:x∈HS:=List.mem_of_getElem? k1;have RY:x∈HS++(HK++X):=abe _ Z4;obtain⟨q,WG,LL,hq3⟩:=h.kn.one (q3.holds x RY) λb hb=>(q3.own x RY b hb).2;refine⟨J',[q],mJ,h.tm,Zq hr (h.df.up mJ hle),h.si,Zp hr (h.fs.up mJ hle),h.fc.up mJ hle,h.Jh mJ hle,⟨HS.eraseIdx k,Zo hr (k3.up mJ hle),?_⟩,hq3,h.fr⟩;have q4:=(q3.iu (nv k1 _)).set (k:=0) (r':=q) rfl (Nat.le_refl _) (λ_ _ _ =>rfl) WG h.si.s.size (λb hb=>by
   rw[LL]at hb;exact⟨.inl hb,(q3.own x RY b hb).2⟩)
  refine aX.iu q4 ?_;have e1:HK++([q]++X)=HK++(q::X):=rfl;rw[e1];refine List.Perm.trans ?_ (List.Perm.append_left _ (List.perm_middle (a:=q) (l₁:=HK) (l₂:=X)).symm);exact(List.perm_middle (a:=q) (l₁:=HS.eraseIdx k) (l₂:=HK++X)).symm
 ·exact⟨J,[],λ_ h=>h,h⟩
theorem Rl.uK{c:Cx}{N:Nat}{HK:List av}{C:CC G}{a:Act}{w:World}:∀(l:List Nat) {J:World->Prop} {X:List av} {S:AS G},Rl c N ρ J HK X C S a w->∃(J':World->Prop) (Y:List av),(∀w,J' w->J w)/\Rl c N ρ J' HK (Y++X) C (uK l S) a w:=by
 intro l
 induction l with
 |nil=>intro J X S h;exact⟨J,[],λ_ h=>h,h⟩
 |cons r q ih=>intro J X S h;obtain⟨J1,Y1,m1,h1⟩:=h.GV r;obtain⟨J2,Y2,m2,h2⟩:=ih h1;exact⟨J2,Y2++Y1,λw h=>m1 w (m2 w h),by rw[List.append_assoc];exact h2⟩
theorem rZ:∀(l:List Nat) (S:AS G),(uK l S).nx=S.nx:=by
 intro l
 induction l with
 |nil=>intro S;rfl
 |cons r q ih=>intro S;show(uK q (Go.Rw.GV r S)).nx=_;rw[ih];unfold Go.Rw.GV;split<;>rfl
def xw(bI:Sh)(nm:List (Option Nat))(y:HL G (aD bI))(ρ:aP)(J:World->Prop)(H HK X:List av)(w:World)(u:Value)(w':World):Prop:=∃(σ:aP) (J':World->Prop) (Y JZ:List av) (us:List Value),(∀w,J' w->J w)/\rl J' σ (cZ (λm=>m) bI y 0).1 (u::us)/\RO J' σ (cZ (λm=>m) bI y 0).2.1 JZ/\ aX (aU H) w.heap.size (JZ++(HK++(Y++X))) w'/\aJ (aU H) w w'/\JY G (Y++X) J'/\(∀i j:Nat,nm[i]? =some (some j)->σ i=ρ j)/\σ.fr nm.length
structure Fs where
 k:Nat
 ES:List (Nat×Sh)
 qH:Sh
 bI:Sh
 nm:List (Option Nat)
 eX:Sh
 Lf:List (Option Nat)
 bi:List (List Nat)
def HP:List (Nat×Sh)->Sh
 |[]=> .nil
 |(T,s)::r=> .cons (.box T s) (HP r)
abbrev HI(G:Sg)(s:Fs):=HL G (aD (HP s.ES)++aD s.qH)
def Fs.rx(s:Fs)(x:HI G s):HL G (aD (HP s.ES)):=HL.fst x
def Fs.ix(s:Fs)(x:HI G s):HL G (aD s.qH):=HL.snd (a:=aD (HP s.ES)) x
def Fs.ro(s:Fs)(x:HI G s):Os G:=(cZ (λm=>m) (HP s.ES) (s.rx x) 0).2.1
def Fs.bl(s:Fs)(x:HI G s):AV G×Os G×Nat:=cZ (λm=>m) s.qH (s.ix x) (cZ (λm=>m) (HP s.ES) (s.rx x) 0).2.2
def Np(P:Program)(s:Fs)(R:HI G s->HL G (aD s.bI)->Prop)(Rp:HI G s->HL G (aD s.eX)->Prop):Prop:=∀(ρ:aP) (J:World->Prop) (HS HK X:List av) (w:World) (vs:List Value) (x:HI G s),rl J ρ (s.bl x).1 vs->RO J ρ (s.bl x).2.1 HS->(∀r o,cu (s.ro x) r=some o->∃y∈HK,ro J ρ r o y)-> aX (aU (HS++(HK++X))) w.heap.size (HS++(HK++X)) w->JY G X J->ρ.fr (s.bl x).2.2-> (∀y,R x y->Calls P s.k vs.toArray w λen w'=>∃u,en= .returned u/\xw s.bI s.nm y ρ J (HS++(HK++X)) HK X w u w')/\ (∀y,Rp x y->Calls P s.k vs.toArray w λen w'=>∃u,en= .panicked [{v:=u,recovered:=false}]/\xw s.eX s.Lf y ρ J (HS++(HK++X)) HK X w u w')
structure Ct(P:Program)(G:Sg) where
 s:Fs
 R:HI G s->HL G (aD s.bI)->Prop
 Rp:HI G s->HL G (aD s.eX)->Prop
 cp:{Z:Type}->HI G s->(HL G (aD s.bI)->Option Z)->(HL G (aD s.eX)->Option Z)->Option Z
 cg:{Z:Type}->Bool->HI G s->(HL G (aD s.bI)->Option Z)->Option Z
 Uu:∀{Z:Type} (x:HI G s) (ko:HL G (aD s.bI)->Option Z) (kp:HL G (aD s.eX)->Option Z) (z:Z),cp x ko kp=some z->(∃y,R x y/\ko y=some z)\/(∃y,Rp x y/\kp y=some z)
 Xq:∀{Z:Type} (g:Bool) (x:HI G s) (k:HL G (aD s.bI)->Option Z) (z:Z),cg g x k=some z->∃y,(g=true->R x y)/\k y=some z
 fn:∃f,P.funcs[s.k]? =some f/\f.body.isSome=true/\(f.name== "runtime.NumGoroutine")=false
 ok:Np P s R Rp
def A1(b:Bool):Sh->Bool
 | .row _ _ _ =>false
 | .box _ _ =>false
 | .bp _ =>b
 | .fn _ a c=>A1 b a&&A1 b c
 | .iy a=>A1 b a
 | .st a=>A1 b a
 | .fW _ a=>A1 b a
 | .cons a c=>A1 b a&&A1 b c
 | .part _ a c=>A1 b a&&A1 b c
 |_ =>true
theorem O4{bb:Bool}:∀{s:Sh} {v:AV G} {g g':GS G} {x:HL G (aD s)},A1 bb s=true->jx s v g=some (x,g')->g'=g:=by
 intro s
 induction s with
 |v t=>intro v g g' x _ h;obtain⟨y,_,_,e⟩:=L8 h;exact e
 |unk n=>intro v g g' x _ h;exact(Ee h).1
 |row e sz t=>intro v g g' x hn;cases hn
 |box T s _ =>intro v g g' x hn;cases hn
 |bp i=>
  intro v g g' x _ h;cases v<;>unfold jx at h<;>(try dsimp only at h)<;>try (cases h;done)
  case ptr r p=>
   cases p with
   |cons _ _ =>simp at h
   |nil=>
    simp only at h;split at h
    ·rename_i r' ht
     cases hb:Nat.beq r r' with
     |false=>rw[hb]at h;cases h
     |true=>rw[hb]at h;exact(bf h).2.symm
    ·cases h
 |fn f a c iW ym=>
  intro v g g' x hn h;simp only[A1,aa8]at hn;cases v<;>unfold jx at h<;>(try dsimp only at h)<;>try (cases h;done)
  case fn f' y z=>
   cases hb:uN f f' with
   |false=>rw[hb]at h;cases h
   |true=>
    rw[hb]at h;simp only[cond_true]at h;split at h
    ·rename_i p g1 h1
     split at h
     ·rename_i q g2 h2
      obtain⟨_,rfl⟩:=bf h;rw[ym hn.2 h2,iW hn.1 h1]
     ·cases h
    ·cases h
 |cons a b iW nW=>
  intro v g g' x hn h;simp only[A1,aa8]at hn;cases v<;>unfold jx at h<;>(try dsimp only at h)<;>try (cases h;done)
  case cons y z=>
   split at h
   ·rename_i p g1 h1
    split at h
    ·rename_i q g2 h2
     obtain⟨_,rfl⟩:=bf h;rw[nW hn.2 h2,iW hn.1 h1]
    ·cases h
   ·cases h
 |part w a b iW nW=>
  intro v g g' x hn h;simp only[A1,aa8]at hn;cases v<;>unfold jx at h<;>(try dsimp only at h)<;>try (cases h;done)
  case part w' y z=>
   cases hb:Nat.beq w w' with
   |false=>rw[hb]at h;cases h
   |true=>
    rw[hb]at h;simp only[cond_true]at h;split at h
    ·rename_i p g1 h1
     split at h
     ·rename_i q g2 h2
      obtain⟨_,rfl⟩:=bf h;rw[nW hn.2 h2,iW hn.1 h1]
     ·cases h
    ·cases h
 |iy a ih=>
  intro v g g' x hn h;cases v<;>unfold jx at h<;>(try dsimp only at h)<;>try (cases h;done)
  exact ih hn h
 |st a ih=>
  intro v g g' x hn h;cases v<;>unfold jx at h<;>(try dsimp only at h)<;>try (cases h;done)
  exact ih hn h
 |fW t a ih=>
  intro v g g' x hn h;cases v<;>unfold jx at h<;>(try dsimp only at h)<;>try (cases h;done)
  case fW t' y=>
   cases hb:Nat.beq t t' with
   |false=>rw[hb]at h;cases h
   |true=>rw[hb]at h;exact ih hn h
 |_ =>
  intro v g g' x hn h;cases v<;>unfold jx at h<;>(try dsimp only at h)<;>try (cases h;done)
  exact(bf h).2.symm
theorem Pj{f:Nat->Nat}:∀{s:Sh},A1 false s=true->∀(x:HL G (aD s)) (m:Nat),(cZ f s x m).1=(cZ (λm=>m) s x m).1/\(cZ f s x m).2.1=[]:=by
 intro s
 induction s with
 |v t=>intro _ x m;exact⟨rfl,rfl⟩
 |row e sz t=>intro h;cases h
 |box T s _ =>intro h;cases h
 |bp i=>intro h;cases h
 |fn k a c iW ym=>intro h x m;simp only[A1,aa8]at h;obtain⟨a1,a2⟩:=iW h.1 (HL.fst x) m;have e3:=(yD (G:=G) (f:=f) (s:=a) (x:=HL.fst x) (m:=m)).2.2;obtain⟨b1,b2⟩:=ym h.2 (HL.snd x) (cZ (λm=>m) a (HL.fst x) m).2.2;simp only[cZ,e3,a1,a2,b1,b2,List.append_nil];exact⟨trivial,trivial⟩
 |cons a c iW ym=>intro h x m;simp only[A1,aa8]at h;obtain⟨a1,a2⟩:=iW h.1 (HL.fst x) m;have e3:=(yD (G:=G) (f:=f) (s:=a) (x:=HL.fst x) (m:=m)).2.2;obtain⟨b1,b2⟩:=ym h.2 (HL.snd x) (cZ (λm=>m) a (HL.fst x) m).2.2;simp only[cZ,e3,a1,a2,b1,b2,List.append_nil];exact⟨trivial,trivial⟩
 |part w a c iW ym=>intro h x m;simp only[A1,aa8]at h;obtain⟨a1,a2⟩:=iW h.1 (HL.fst x) m;have e3:=(yD (G:=G) (f:=f) (s:=a) (x:=HL.fst x) (m:=m)).2.2;obtain⟨b1,b2⟩:=ym h.2 (HL.snd x) (cZ (λm=>m) a (HL.fst x) m).2.2;simp only[cZ,e3,a1,a2,b1,b2,List.append_nil];exact⟨trivial,trivial⟩
 |iy a ih=>intro h x m;obtain⟨a1,a2⟩:=ih h x m;simp only[cZ,a1,a2];exact⟨trivial,trivial⟩
 |st a ih=>intro h x m;obtain⟨a1,a2⟩:=ih h x m;simp only[cZ,a1,a2];exact⟨trivial,trivial⟩
 |fW t a ih=>intro h x m;obtain⟨a1,a2⟩:=ih h x m;simp only[cZ,a1,a2];exact⟨trivial,trivial⟩
 |_ =>intro _ x m;exact⟨rfl,rfl⟩
def kM(ob:Os G):(s:Sh)->AV G->List Nat->Option (HL G (aD s)×List Nat)
 | .v t,v,th=>match wT t v with
  |some x=>some ((x,()),th)
  |none=>none
 | .row e sz t,v,th=>match v with
  | .row r=>match cu ob r with
   |some (.row e' sz' t' xs)=>bif Nat.beq e e'&&Nat.beq sz sz' then(if h:t'.bp t=true then some ((Ty.qC h▸xs,()),th++[r])else none)else none
   |_ =>none
  |_ =>none
 | .box T s,v,th=>match v with
  | .ptr r []=>match cu ob r with
   |some (.bK T' c)=>bif Nat.beq T T' then kM ob s c (th++[r])else none
   |_ =>none
  |_ =>none
 | .bp i,v,th=>match v with
  | .ptr r []=>match th[i]? with
   |some r'=>bif Nat.beq r r' then some ((),th)else none
   |none=>none
  |_ =>none
 | .unk _,_,_ =>none
 | .tv,v,th=>match v with
  | .tv=>some ((),th)
  |_ =>none
 | .gW,v,th=>match v with
  | .gW=>some ((),th)
  |_ =>none
 | .ye,v,th=>match v with
  | .ye=>some ((),th)
  |_ =>none
 | .kL,v,th=>match v with
  | .kL=>some ((),th)
  |_ =>none
 | .AE,v,th=>match v with
  | .AE=>some ((),th)
  |_ =>none
 | .fn f a c,v,th=>match v with
  | .fn f' x y=>bif uN f f' then(match kM ob a x th with
   |some (p,g')=>match kM ob c y g' with
    |some (q,Mc)=>some (HL.app p q,Mc)
    |none=>none
   |none=>none)else none
  |_ =>none
 | .iy a,v,th=>match v with
  | .iy x=>kM ob a x th
  |_ =>none
 | .st a,v,th=>match v with
  | .st x=>kM ob a x th
  |_ =>none
 | .fW t a,v,th=>match v with
  | .fW t' x=>bif Nat.beq t t' then kM ob a x th else none
  |_ =>none
 | .nil,v,th=>match v with
  | .nil=>some ((),th)
  |_ =>none
 | .cons a b,v,th=>match v with
  | .cons x y=>match kM ob a x th with
   |some (p,g')=>match kM ob b y g' with
    |some (q,Mc)=>some (HL.app p q,Mc)
    |none=>none
   |none=>none
  |_ =>none
 | .part w a b,v,th=>match v with
  | .part w' x y=>bif Nat.beq w w' then(match kM ob a x th with
   |some (p,g')=>match kM ob b y g' with
    |some (q,Mc)=>some (HL.app p q,Mc)
    |none=>none
   |none=>none)else none
  |_ =>none
structure T4(J:World->Prop)(ρ:aP)(H:List av)(s:Sh)(l:List Value)(th ud:List Nat)(x:HL G (aD s)):Prop where
 pre:∃q,ud=th++q
 FY:(cZ (λm=>m) s x th.length).2.2=ud.length
 val:rl J (cmp ρ ud) (cZ (λm=>m) s x th.length).1 l
 bK:∀r o,cu (cZ (λm=>m) s x th.length).2.1 r=some o->∃y∈H,ro J (cmp ρ ud) r o y
theorem BM{H:List av}{a b:Sh}{th th1 Ub:List Nat}{p:HL G (aD a)}{q:HL G (aD b)}{l1 l2:List Value}(h1:T4 J ρ H a l1 th th1 p)(h2:T4 J ρ H b l2 th1 Ub q):
  (∃r,Ub=th++r)/\(cZ (λm=>m) b q (cZ (λm=>m) a p th.length).2.2).2.2=Ub.length/\rl J (cmp ρ Ub) (cZ (λm=>m) a p th.length).1 l1/\rl J (cmp ρ Ub) (cZ (λm=>m) b q (cZ (λm=>m) a p th.length).2.2).1 l2/\
   ∀r o,cu ((cZ (λm=>m) a p th.length).2.1++(cZ (λm=>m) b q (cZ (λm=>m) a p th.length).2.2).2.1) r=some o->∃y∈H,ro J (cmp ρ Ub) r o y:=by
 have hle:=G8 (aP.le_refl ρ) h2.pre;rw[h1.FY];refine⟨?_,h2.FY,h1.val.ext hle,h2.val,λr o e=>?_⟩
 ·obtain⟨r1,e1⟩:=h1.pre
  obtain⟨r2,e2⟩:=h2.pre;exact⟨r1++r2,by rw[e2,e1,List.append_assoc]⟩
 ·rw[gA]at e
  split at e
  ·rename_i o' he
   cases e;obtain⟨y,y1,y2⟩:=h1.bK _ _ he;exact⟨y,y1,y2.up (λ_ h=>h) hle⟩
  ·exact h2.bK _ _ e
theorem O5{H:List av}{ob:Os G}(hO:∀r o,cu ob r=some o->∃y∈H,ro J ρ r o y):∀{s:Sh} {v:AV G} {l:List Value} {th ud:List Nat} {x:HL G (aD s)},kM ob s v th=some (x,ud)->rl J ρ v l->T4 J ρ H s l th ud x:=by
 intro s
 induction s with
 |v t=>
  intro v l th ud x h hv;unfold kM at h;cases hy:wT t v with
  |none=>rw[hy]at h;cases h
  |some y=>rw[hy]at h;obtain⟨rfl,rfl⟩:=bf h;obtain⟨u,rfl⟩:=Kr hy hv;refine⟨⟨[],by simp⟩,rfl,?_,λr o e=>by cases e⟩;exact C8 (vz hy hv)
 |row e sz t=>
  intro v l th ud x h hv;cases v<;>unfold kM at h<;>(try dsimp only at h)<;>try (cases h;done)
  case row r=>
   split at h
   ·rename_i e' sz' t' xs ho
    cases hb:(Nat.beq e e'&&Nat.beq sz sz')with
    |false=>rw[hb]at h;cases h
    |true=>
     rw[hb]at h;simp only[cond_true]at h;by_cases hs:t'.bp t=true
     ·rw[dif_pos hs]at h
      obtain⟨e1,rfl⟩:=bf h;simp only[aa8]at hb;obtain rfl:=aa7 hb.1;obtain rfl:=aa7 hb.2;have:=Ty.qC hs;subst this;subst e1;obtain⟨y,y1,vv,ws,e1,e2,e3,e4,e5⟩:=hO _ _ ho;refine⟨⟨[r],rfl⟩,by simp[cZ],?_,λr' o' he=>?_⟩
      ·obtain⟨a0,n,cap,q1,q2⟩:=hv
       exact⟨a0,n,cap,vC.trans q1,q2⟩
      ·simp only[cZ,cu]at he
       cases Dp:Nat.beq th.length r' with
       |false=>rw[Dp]at he;cases he
       |true=>rw[Dp]at he;cases he;obtain rfl:=aa7 Dp;exact⟨y,y1,vv,ws,vC.trans e1,e2,e3,e4,e5⟩
     ·rw[dif_neg hs]at h;cases h
   ·cases h
 |box T s ih=>
  intro v l th ud x h hv;cases v<;>unfold kM at h<;>(try dsimp only at h)<;>try (cases h;done)
  case ptr r p=>
   cases p with
   |cons _ _ =>simp at h
   |nil=>
    simp only at h;split at h
    ·rename_i T' cc ho
     cases hb:Nat.beq T T' with
     |false=>rw[hb]at h;cases h
     |true=>
      rw[hb]at h;obtain rfl:=aa7 hb;obtain⟨y,y1,b,u,m1,rfl,m3⟩:=hO _ _ ho;have i1:=ih h m3;have hth:ud[th.length]? =some r:=by obtain⟨q,e⟩:=i1.pre;rw[e];simp
      have Ie:cmp ρ ud th.length=some (cj b 0):=by unfold cmp;rw[hth];exact m1
      have e1:(th++[r]).length=th.length+1:=by simp
      have i2:=i1.FY;have i3:=i1.val;have i4:=i1.bK;rw[e1]at i2 i3 i4;refine⟨?_,i2,?_,λr' o' he=>?_⟩
      ·obtain⟨q,e⟩:=i1.pre
       exact⟨r::q,by rw[e];simp⟩
      ·obtain⟨⟨b',o',q1,q2⟩,_⟩:=hv
       refine⟨⟨b,0, .inl Ie,?_⟩,by simp⟩;rcases q1 with q1|⟨_,_,_,_,_,_,_,q1,_⟩
       ·rw[q1]at m1
        simp[cj]at m1;rw[q2,m1.1,m1.2]
       ·cases q1
      ·have he:cu ((th.length,Ob.bK T (cZ (λm=>m) s x (th.length+1)).1)::(cZ (λm=>m) s x (th.length+1)).2.1) r'=some o':=he
       simp only[cu]at he;cases Dp:Nat.beq th.length r' with
       |false=>rw[Dp]at he;exact i4 _ _ he
       |true=>rw[Dp]at he;cases he;obtain rfl:=aa7 Dp;exact⟨_,y1,b,u,Ie,rfl,i3⟩
    ·cases h
 |unk n=>intro v l th ud x h hv;unfold kM at h;cases h
 |bp i=>
  intro v l th ud x h hv;cases v<;>unfold kM at h<;>(try dsimp only at h)<;>try (cases h;done)
  case ptr r p=>
   cases p with
   |cons _ _ =>simp at h
   |nil=>
    simp only at h;split at h
    ·rename_i r' ht
     cases hb:Nat.beq r r' with
     |false=>rw[hb]at h;cases h
     |true=>
      rw[hb]at h;obtain⟨rfl,rfl⟩:=bf h;obtain rfl:=aa7 hb;refine⟨⟨[],by simp⟩,rfl,?_,λr o e=>by cases e⟩;obtain⟨⟨b',o',q1,q2⟩,q3⟩:=hv;refine⟨⟨b',o',?_,q2⟩,q3⟩;rcases q1 with q1|⟨_,_,_,_,_,_,_,q1,_⟩
      ·refine .inl ?_
       unfold cmp;rw[ht];exact q1
      ·cases q1
    ·cases h
 |fn f a c iW ym=>
  intro v l th ud x h hv;cases v<;>unfold kM at h<;>(try dsimp only at h)<;>try (cases h;done)
  case fn f' y z=>
   cases hb:uN f f' with
   |false=>rw[hb]at h;cases h
   |true=>
    rw[hb]at h;simp only[cond_true]at h;obtain rfl:=Fk hb;split at h
    ·rename_i p g1 h1
     split at h
     ·rename_i q g2 h2
      obtain⟨rfl,rfl⟩:=bf h;obtain⟨fs,cs,e,r1,r2⟩:=hv;obtain⟨k1,k2,k3,k4,k5⟩:=BM (b:=c) (q:=q) (iW h1 r1) (ym h2 r2);refine⟨k1,?_,?_,?_⟩<;>simp only[cZ,HL.rY,HL.rQ]
      ·exact k2
      ·exact⟨fs,cs,e,k3,k4⟩
      ·exact k5
     ·cases h
    ·cases h
 |cons a b iW nW=>
  intro v l th ud x h hv;cases v<;>unfold kM at h<;>(try dsimp only at h)<;>try (cases h;done)
  case cons y z=>
   split at h
   ·rename_i p g1 h1
    split at h
    ·rename_i q g2 h2
     obtain⟨rfl,rfl⟩:=bf h;obtain⟨u,r,e,r1,r2⟩:=hv;obtain⟨k1,k2,k3,k4,k5⟩:=BM (b:=b) (q:=q) (iW h1 r1) (nW h2 r2);refine⟨k1,?_,?_,?_⟩<;>simp only[cZ,HL.rY,HL.rQ]
     ·exact k2
     ·exact⟨u,r,e,k3,k4⟩
     ·exact k5
    ·cases h
   ·cases h
 |part w a b iW nW=>
  intro v l th ud x h hv;cases v<;>unfold kM at h<;>(try dsimp only at h)<;>try (cases h;done)
  case part w' y z=>
   cases hb:Nat.beq w w' with
   |false=>rw[hb]at h;cases h
   |true=>
    rw[hb]at h;simp only[cond_true]at h;obtain rfl:=aa7 hb;split at h
    ·rename_i p g1 h1
     split at h
     ·rename_i q g2 h2
      obtain⟨rfl,rfl⟩:=bf h;obtain⟨c1,c2,u,e,r0,r1,r3,r2⟩:=hv;obtain⟨k1,k2,k3,k4,k5⟩:=BM (b:=b) (q:=q) (iW h1 r1) (nW h2 r2);refine⟨k1,?_,?_,?_⟩<;>simp only[cZ,HL.rY,HL.rQ]
      ·exact k2
      ·exact⟨c1,c2,u,e,r0,k3,r3,k4⟩
      ·exact k5
     ·cases h
    ·cases h
 |iy a ih=>
  intro v l th ud x h hv;cases v<;>unfold kM at h<;>(try dsimp only at h)<;>try (cases h;done)
  obtain⟨vs,e,r1⟩:=hv;have k:=ih h r1;exact⟨k.pre,k.FY,⟨vs,e,k.val⟩,k.bK⟩
 |st a ih=>
  intro v l th ud x h hv;cases v<;>unfold kM at h<;>(try dsimp only at h)<;>try (cases h;done)
  obtain⟨cs,e,r1,r2⟩:=hv;have k:=ih h r1;exact⟨k.pre,k.FY,⟨cs,e,k.val,r2⟩,k.bK⟩
 |fW t a ih=>
  intro v l th ud x h hv;cases v<;>unfold kM at h<;>(try dsimp only at h)<;>try (cases h;done)
  case fW t' y=>
   cases hb:Nat.beq t t' with
   |false=>rw[hb]at h;cases h
   |true=>rw[hb]at h;obtain rfl:=aa7 hb;obtain⟨u,e,r1⟩:=hv;have k:=ih h r1;exact⟨k.pre,k.FY,⟨u,e,k.val⟩,k.bK⟩
 |_ =>
  intro v l th ud x h hv;cases v<;>unfold kM at h<;>(try dsimp only at h)<;>try (cases h;done)
  obtain⟨rfl,rfl⟩:=bf h;exact⟨⟨[],by simp⟩,rfl,hv,λr o e=>by cases e⟩
def BQ(O:Os G)(i:Nat):Sh->AV G->Option Nat
 | .bp j, .ptr r []=>bif Nat.beq i j then some r else none
 | .box _ s, .ptr r []=>match cu O r with
  |some (.bK _ c)=>BQ O i s c
  |_ =>none
 | .fn _ a c, .fn _ x y=>match BQ O i a x with
  |some r=>some r
  |none=>BQ O i c y
 | .iy a, .iy x=>BQ O i a x
 | .st a, .st x=>BQ O i a x
 | .fW _ a, .fW _ x=>BQ O i a x
 | .cons a c, .cons x y=>match BQ O i a x with
  |some r=>some r
  |none=>BQ O i c y
 | .part _ a c, .part _ x y=>match BQ O i a x with
  |some r=>some r
  |none=>BQ O i c y
 |_,_ =>none
def yA:Sh->Nat
 | .row _ _ _ =>1
 | .box _ s=>yA s+1
 | .fn _ a c=>yA a+yA c
 | .iy a=>yA a
 | .st a=>yA a
 | .fW _ a=>yA a
 | .cons a b=>yA a+yA b
 | .part _ a b=>yA a+yA b
 |_ =>0
def GX(O:Os G):List (Nat×Sh)->Nat->Sh->AV G->Option (AV G)
 |[],_,_,_ =>some .nil
 |(T,s)::r,i,sh,v=>match BQ O i sh v with
  |some q=>match GX O r (i+yA s+1) (.cons (.box T s) sh) (.cons (.ptr q []) v)with
   |some l=>some (.cons (.ptr q []) l)
   |none=>none
  |none=>none
def C7:List Nat->List Nat->Bool
 |[],[]=>true
 |a::r,b::q=>Nat.beq a b&&C7 r q
 |_,_ =>false
theorem N9:∀{l m:List Nat},C7 l m=true->l=m:=by
 intro l
 induction l with
 |nil=>intro m h;cases m with
  |nil=>rfl
  |cons _ _ =>cases h
 |cons a r ih=>intro m h;cases m with
  |nil=>cases h
  |cons b q=>simp only[C7,aa8]at h;rw[aa7 h.1,ih h.2]
def Bn:AV G->Bool
 | .cons (.ptr _ []) r=>Bn r
 | .nil=>true
 |_ =>false
def zv(C:CC G)(O:Os G)(nx:Nat)(s:Fs)(aa4:AV G):Option (HI G s×GS G):=match GX (O++rh C) s.ES 0 s.qH aa4 with
 |some pv=>match kM (O++rh C) (HP s.ES) pv []with
  |some (_,th)=>match jx s.qH aa4 ⟨th,O,nx⟩with
   |some (x,g')=>match kM (g'.O++rh C) (HP s.ES) pv []with
    |some (y,ud)=>bif C7 th ud then some (HL.app y x,g')else none
    |none=>none
   |none=>none
  |none=>none
 |none=>none
def Xw(C:CC G)(O:Os G)(s:Fs)(aa4:AV G):List Nat:=match GX (O++rh C) s.ES 0 s.qH aa4 with
 |some pv=>su O s.qH aa4++su O (HP s.ES) pv
 |none=>su O s.qH aa4
theorem Om{H:List av}{ob:Os G}(hO:∀r o,cu ob r=some o->∃y∈H,ro J ρ r o y):∀{l:List (Nat×Sh)} {v:AV G} {th ud:List Nat} {x:HL G (aD (HP l))},Bn v=true->kM ob (HP l) v th=some (x,ud)->∃us,rl J ρ v us:=by
 intro l
 induction l with
 |nil=>
  intro v th ud x hp h;cases v<;>unfold kM at h<;>(try dsimp only[HP]at h)<;>try (cases h;done)
  exact⟨[],rfl⟩
 |cons p r ih=>
  obtain⟨T,s⟩:=p;intro v th ud x hp h;change kM ob (.cons (.box T s) (HP r)) v th=some (x,ud)at h;cases v<;>unfold kM at h<;>(try dsimp only at h)<;>try (cases h;done)
  case cons a b=>
   split at h
   ·rename_i p g1 h1
    split at h
    ·rename_i q g2 h2
     cases a<;>(try (simp[Bn]at hp;done))
     case ptr q0 pp=>
      cases pp with
      |cons _ _ =>simp[Bn]at hp
      |nil=>
       obtain⟨us,hus⟩:=ih (by simpa[Bn]using hp) h2;unfold kM at h1;dsimp only at h1;split at h1
       ·rename_i T' c ho
        obtain⟨y,y1,b0,u,m1,_⟩:=hO _ _ ho;exact⟨cj b0 0::us,_,_,rfl,⟨⟨b0,0, .inl m1,rfl⟩,by simp⟩,hus⟩
       ·cases h1
    ·cases h
   ·cases h
theorem SA{O:Os G}:∀{l:List (Nat×Sh)} {i:Nat} {sh:Sh} {v pv:AV G},GX O l i sh v=some pv->Bn pv=true:=by
 intro l
 induction l with
 |nil=>intro i sh v pv h;cases h;rfl
 |cons p r ih=>
  obtain⟨T,s⟩:=p;intro i sh v pv h;simp only[GX]at h;split at h
  ·split at h
   ·rename_i l hl;cases h;show Bn l=true;exact ih hl
   ·cases h
  ·cases h
theorem O6{c:Cx}{N:Nat}{HK X:List av}{C:CC G}{S:AS G}{a:Act}{w:World}{s:Fs}{aa4:AV G}{vs:List Value}{x:HI G s}{g':GS G}(hr:Rl c N ρ J HK X C S a w)(hv:rl J ρ aa4 vs)(h:zv C S.O S.nx s aa4=some (x,g')):
  ∃(th:List Nat) (ρ2:aP) (HS HB H':List av),th.length=(cZ (λm=>m) (HP s.ES) (s.rx x) 0).2.2/\aX c.bs c.w0.heap.size (HS++(HK++X)) w/\XS J ρ s.qH vs HS ⟨th,S.O,S.nx⟩ g' (s.ix x) ρ2 HB H'/\jx s.qH aa4 ⟨th,S.O,S.nx⟩=some (s.ix x,g')/\∀r o,cu (s.ro x) r=some o->∃y∈H'++HK,ro J (cmp ρ2 g'.th) r o y:=by
 unfold zv at h;split at h
 ·rename_i pv hpv
  split at h
  ·rename_i y0 th hg0
   split at h
   ·rename_i xi g1 hg
    split at h
    ·rename_i y ud hg2
     cases hb:C7 th ud with
     |false=>rw[hb]at h;cases h
     |true=>
      rw[hb]at h;obtain⟨e1,rfl⟩:=bf h;subst e1;obtain rfl:=N9 hb;obtain⟨HS,q1,q3⟩:=hr.hp;obtain⟨ρ2,HB,H',k⟩:=BL hg hv q1 hr.fr;have hle:=k.to.le hr.fr;have hO:∀q o,cu (g1.O++rh C) q=some o->∃z∈H'++HK,ro J ρ2 q o z:=λq o e=>by
       rw[gA]at e;split at e
       ·rename_i o' he
        cases e;obtain⟨z,z1,z2⟩:=k.left.lk he;exact⟨z,abe _ z1,z2⟩
       ·obtain⟨z,z1,z2⟩:=hr.kc q o e
        exact⟨z,abd _ z1,z2.up (λ_ h=>h) hle⟩
      obtain⟨us,i2⟩:=Om hO (SA hpv) hg2;have k3:=O5 hO hg2 i2;have exi:s.ix (HL.app y xi)=xi:=HL.rQ y xi;have exr:s.rx (HL.app y xi)=y:=HL.rY y xi;have k4:=k3.FY;have k5:=k3.bK;simp only[List.length_nil]at k4 k5;refine⟨th,ρ2,HS,HB,H',by rw[exr,k4],q3,by rw[exi];exact k,by rw[exi];exact hg,λr o e=>?_⟩;unfold Fs.ro at e;rw[exr]at e;obtain⟨z,z1,z2⟩:=k5 r o e;exact⟨z,z1,z2.up (λ_ h=>h) (G8 (aP.le_refl _) k.pre)⟩
    ·cases h
   ·cases h
  ·cases h
 ·cases h
def EG:Sh->AV G->Nat->AV G×Os G×Nat
 | .row e sz t, .gW,nx=>bif Nat.beq (t.L G).n sz then(.row nx,[(nx, .row e sz t [])],nx+1)else(.gW,[],nx)
 | .st a, .st x,nx=>match EG a x nx with
  |(x',O,m)=>(.st x',O,m)
 | .part _ a b, .part w x y,nx=>match EG a x nx with
  |(x',O,m)=>match EG b y m with
   |(y',O',m')=>(.part w x' y',O++O',m')
 |_,v,nx=>(v,[],nx)
def L4:Sh->AV G->Bool
 | .row _ sz t, .gW=>Nat.beq (t.L G).n sz
 | .st a, .st x=>L4 a x
 | .part _ a b, .part _ x y=>L4 a x||L4 b y
 |_,_ =>false
def Gp(q:Nat)(s:Sh)(S:AS G):AS G:=match cu S.O q with
 |some (.bK T c)=>match EG s c S.nx with
  |(c',O',m)=>{S with O:=O'++mh S.O q (.bK T c'),nx:=m}
 |_ =>S
def xU:List (Nat×Sh)->AS G->AS G
 |[],S=>S
 |(q,s)::r,S=>xU r (Gp q s S)
def Ox(O:Os G):List (Nat×Sh)->AV G->List (Nat×Sh)
 |(_,s)::r, .cons (.ptr q []) l=>match cu O q with
  |some (.bK _ c)=>bif L4 s c then(q,s)::Ox O r l else Ox O r l
  |_ =>Ox O r l
 |_,_ =>[]
def Vz(C:CC G)(O:Os G)(s:Fs)(aa4:AV G):List (Nat×Sh):=match s.ES with
 |[]=>[]
 |ES=>match GX (O++rh C) ES 0 s.qH aa4 with
  |some pv=>Ox O ES pv
  |none=>[]
theorem NY{α β γ:Type}{a a':α}{b b':β}{c c':γ}(h:(a,b,c)=(a',b',c')):a=a'/\b=b'/\c=c':=⟨congrArg (·.1) h,congrArg (·.2.1) h,congrArg (·.2.2) h⟩
theorem Ri:∀{s:Sh} {v v':AV G} {nx JQ:Nat} {O:Os G} {l:List Value} {ρ:aP},EG s v nx=(v',O,JQ)->rl J ρ v l->ρ.fr nx->
  ∃(ρ':aP) (HN:List av),ρ.to ρ' nx/\ρ'.fr JQ/\nx<=JQ/\rl J ρ' v' l/\RO J ρ' O HN/\∀R,mq R (HN++R):=by
 have keep:∀{v v':AV G} {nx JQ:Nat} {O:Os G} {l:List Value} {ρ:aP},(v,([]:Os G),nx)=(v',O,JQ)->rl J ρ v l->ρ.fr nx->∃(ρ':aP) (HN:List av),ρ.to ρ' nx/\ρ'.fr JQ/\nx<=JQ/\rl J ρ' v' l/\RO J ρ' O HN/\∀R,mq R (HN++R):=by intro v v' nx JQ O l ρ h hv hf;obtain⟨e1,e2,e3⟩:=NY h;subst e1 e2 e3;exact⟨ρ,[],aP.b5 _ _,hf,Nat.le_refl _,hv, .nil,λR=>mq.refl _⟩
 intro s
 induction s with
 |row e sz t=>
  intro v v' nx JQ O l ρ h hv hf;cases v<;>unfold EG at h<;>(try exact keep h hv hf);cases hb:Nat.beq (t.L G).n sz with
  |false=>rw[hb]at h;exact keep h hv hf
  |true=>
   rw[hb]at h;obtain⟨e1,e2,e3⟩:=NY h;subst e1 e2 e3;have hv:l=[.slice none 0 0]:=hv;exact⟨ρ.set nx (.slice none 0 0),[.row (.slice none 0 0) e sz 0 []],aP.jT _ _ _,aP.wU hf _,Nat.le_succ _,⟨none,0,0,aP.fJ _ _ _,hv⟩,
    .cons ⟨.slice none 0 0,[],aP.fJ _ _ _,rfl,⟨_,_,rfl⟩,⟨λ_ =>[],rfl,λi hi=>absurd hi (Nat.not_lt_zero _)⟩,aa7 hb⟩ .nil,λR bs n0 w hp=>vB hp⟩
 |st a ih=>
  intro v v' nx JQ O l ρ h hv hf;cases v<;>unfold EG at h<;>(try exact keep h hv hf)
  case st x=>obtain⟨cs,e,h1,h2⟩:=hv;revert h;generalize hq:EG a x nx=q;obtain⟨x',O1,m⟩:=q;intro h;obtain⟨e1,e2,e3⟩:=NY h;subst e1 e2 e3;obtain⟨ρ',HN,k1,k2,k3,k4,k5,k6⟩:=ih hq h1 hf;exact⟨ρ',HN,k1,k2,k3,⟨cs,e,k4,h2⟩,k5,k6⟩
 |part w a b iW nW=>
  intro v v' nx JQ O l ρ h hv hf;cases v<;>unfold EG at h<;>(try exact keep h hv hf)
  case part w' x y=>obtain⟨c1,c2,u,e,r0,r1,r3,r2⟩:=hv;revert h;generalize hq:EG a x nx=q;obtain⟨x',O1,m⟩:=q;dsimp only;generalize LL:EG b y m=q2;obtain⟨y',O2,m2⟩:=q2;intro h;obtain⟨e1,e2,e3⟩:=NY h;subst e1 e2 e3;obtain⟨ρ1,H1,k1,k2,k3,k4,k5,k6⟩:=iW hq r1 hf;obtain⟨ρ2,H2,m1,m2,m3,m4,m5,m6⟩:=nW LL (r2.ext (k1.le hf)) k2;have hle:=m1.le k2;refine⟨ρ2,H1++H2,k1.trans m1 k3,m2,Nat.le_trans k3 m3,⟨c1,c2,u,e,r0,k4.ext hle,r3,m4⟩,(k5.up (λ_ h=>h) hle).app m5,λR=>?_⟩;rw[List.append_assoc];exact(m6 R).trans (k6 (H2++R))
 |_ =>intro v v' nx JQ O l ρ h hv hf;cases v<;>unfold EG at h<;>exact keep h hv hf
theorem RO.Zn{O:Os G}{H:List av}(h:RO J ρ O H){r:Nat}{o:Ob G}(e:cu O r=some o):∃(k:Nat) (x:av),H[k]? =some x/\ro J ρ r o x/\∀(ρ':aP) o' x',ρ.le ρ'->ro J ρ' r o' x'->RO J ρ' (mh O r o') (H.set k x'):=by
 induction h with
 |nil=>cases e
 |@cons r0 o0 x0 O H h0 hr ih=>
  simp only[cu]at e;cases hb:Nat.beq r0 r with
  |true=>rw[hb]at e;cases e;obtain rfl:=aa7 hb;refine⟨0,x0,rfl,h0,λρ' o' x' hle h'=>?_⟩;simp only[mh,hb,cond_true];exact .cons h' (hr.up (λ_ h=>h) hle)
  |false=>rw[hb]at e;obtain⟨k,x,k1,k2,k3⟩:=ih e;refine⟨k+1,x,by simpa using k1,k2,λρ' o' x' hle h'=>?_⟩;simp only[mh,hb,cond_false];exact .cons (h0.up (λ_ h=>h) hle) (k3 ρ' o' x' hle h')
theorem Rl.Gp{c:Cx}{N:Nat}{HK X:List av}{C:CC G}{S:AS G}{a:Act}{w:World}(q:Nat)(s:Sh)(h:Rl c N ρ J HK X C S a w):∃ρ',ρ.to ρ' S.nx/\S.nx<=(Go.Rw.Gp q s S).nx/\Rl c N ρ' J HK X C (Go.Rw.Gp q s S) a w:=by
 unfold Go.Rw.Gp;split
 ·rename_i T cc ho
  generalize hq:EG s cc S.nx=z;obtain⟨c',O',m⟩:=z;dsimp only;obtain⟨HS,q1,q3⟩:=h.hp;obtain⟨k,x,k1,⟨b,u,m1,rfl,m3⟩,ZF⟩:=q1.Zn ho;obtain⟨ρ',HN,r1,r2,r3,r4,r5,r6⟩:=Ri hq m3 h.fr;have hle:=r1.le h.fr;refine⟨ρ',r1,r3,h.tm,h.df.up (λ_ h=>h) hle,h.si,h.fs.up (λ_ h=>h) hle,h.fc.up (λ_ h=>h) hle,h.Jh (λ_ h=>h) hle,⟨HN++HS,r5.app ?_,?_⟩,h.kn,r2⟩
  ·have LJ:=ZF ρ' (.bK T c') _ hle ⟨b,u,hle _ _ m1,rfl,r4⟩
   have:HS.set k (av.cells b T u.cells.toList)=HS:=by
    refine List.ext_getElem? λi=>?_;rw[List.getElem?_set];split
    ·rename_i hi
     subst hi;rw[k1];split
     ·rfl
     ·rename_i hlt;exact absurd (List.getElem?_eq_some_iff.1 k1).1 hlt
    ·rfl
   rwa[this]at LJ
  ·rw[List.append_assoc];exact r6 _ _ _ _ q3
 ·exact⟨ρ,aP.b5 _ _,Nat.le_refl _,h⟩
theorem Rl.xU{c:Cx}{N:Nat}{HK X:List av}{C:CC G}{a:Act}{w:World}:∀(l:List (Nat×Sh)) {ρ:aP} {S:AS G},Rl c N ρ J HK X C S a w->∃ρ',ρ.to ρ' S.nx/\S.nx<=(Go.Rw.xU l S).nx/\Rl c N ρ' J HK X C (Go.Rw.xU l S) a w:=by
 intro l
 induction l with
 |nil=>intro ρ S h;exact⟨ρ,aP.b5 _ _,Nat.le_refl _,h⟩
 |cons p r ih=>obtain⟨q,s⟩:=p;intro ρ S h;obtain⟨ρ1,k1,k2,k3⟩:=h.Gp q s;obtain⟨ρ2,m1,m2,m3⟩:=ih k3;exact⟨ρ2,k1.trans m1 k2,Nat.le_trans k2 m2,m3⟩
def Gy(th:List Nat)(base:Nat)(nm:List (Option Nat))(i:Nat):Nat:=match nm[i]? with
 |some (some j)=>match th[j]? with
  |some r=>r
  |none=>base+i
 |_ =>base+i
def Nw:AV G->Option (AV G)
 | .cons v _ =>some v
 |_ =>none
def Pd(g':GS G)(bI:Sh)(nm:List (Option Nat))(y:HL G (aD bI))(S:AS G):AS G:={S with O:=(cZ (Gy g'.th g'.nx nm) bI y 0).2.1++g'.O,nx:=g'.nx+nm.length}
theorem Ic{c:Cx}{H H':List av}{w w':World}(h:aX c.bs c.w0.heap.size H w)(hs:c.w0.heap.size<=w.heap.size)(h':aX (aU H) w.heap.size H' w'):aX c.bs c.w0.heap.size H' w':=
 ⟨h'.holds,λr hr b hb=>by
  obtain⟨o,l⟩:=h'.own r hr b hb;refine⟨?_,l⟩;rcases o with o|o
  ·obtain⟨q,hq,WE⟩:=aN.1 o
   exact(h.own q hq b WE).1
  ·exact .inr (Nat.le_trans hs o),h'.apart⟩
theorem Ir{c:Cx}{N:Nat}{HK X:List av}{C:CC G}{S:AS G}{a:Act}{w w':World}{s bI:Sh}{nm:List (Option Nat)}{y:HL G (aD bI)}{x:HL G (aD s)}{us:List Value}{u:Value}{g':GS G}{HS HB H':List av}{ρ2:aP}{v:AV G}
  (hr:Rl c N ρ J HK X C S a w)(hp:aX c.bs c.w0.heap.size (HB++(H'++(HK++X))) w){th:List Nat}(k:XS J ρ s us HS ⟨th,S.O,S.nx⟩ g' x ρ2 HB H')(hv:Nw (cZ (Gy g'.th g'.nx nm) bI y 0).1=some v)
  (h:xw bI nm y (cmp ρ2 g'.th) J (HB++((H'++HK)++X)) (H'++HK) X w u w'):
  ∃(ρ':aP) (J':World->Prop) (Y:List av),ρ.to ρ' S.nx/\(∀w,J' w->J w)/\rv J' ρ' v u/\Rl c N ρ' J' HK (Y++X) C (Pd g' bI nm y S) a w':=by
 obtain⟨σ,J',Y,JZ,us',m1,m2,m3,m4,m5,m6,m7,m8⟩:=h;let ρ3:aP:=λr=>if r<g'.nx then ρ2 r else σ (r-g'.nx)
 have Ff:ρ2.le ρ3:=λr v e=>by have hlt:r<g'.nx:=k.fr.Ll e;show(if r<g'.nx then ρ2 r else _)=_;rw[aa5 hlt];exact e
 have hto:ρ.to ρ3 S.nx:=λr hr'=>by have hlt:r<g'.nx:=Nat.lt_of_lt_of_le hr' k.nx;show(if r<g'.nx then ρ2 r else _)=_;rw[aa5 hlt];exact k.to r hr'
 have hle:=hto.le hr.fr;have hmap:∀i v,σ i=some v->ρ3 (Gy g'.th g'.nx nm i)=some v:=λi v e=>by
  have hi:i<nm.length:=m8.Ll e;obtain⟨o,ho⟩:∃o,nm[i]? =some o:=⟨_,abg hi⟩;have hnew:ρ3 (g'.nx+i)=some v:=by show(if g'.nx+i<g'.nx then _ else σ (g'.nx+i-g'.nx))=_;rw[aa6 (by omega),Nat.add_sub_cancel_left];exact e
  unfold Gy;rw[ho];cases o with
  |none=>exact hnew
  |some j=>
   dsimp only;have:=m7 i j ho;rw[e]at this;unfold cmp at this;split
   ·rename_i r ht
    rw[ht]at this;exact Ff _ _ this.symm
   ·exact hnew
 obtain⟨r1,r2,_⟩:=yD (G:=G) (f:=Gy g'.th g'.nx nm) (s:=bI) (x:=y) (m:=0);have hval:rl J' ρ3 (cZ (Gy g'.th g'.nx nm) bI y 0).1 (u::us'):=by rw[r1];exact DQ hmap m2
 have BJ:RO J' ρ3 (cZ (Gy g'.th g'.nx nm) bI y 0).2.1 JZ:=by rw[r2];exact HJ hmap m3
 refine⟨ρ3,J',Y,hto,m1,?_,hr.tm,hr.df.up m1 hle,⟨hr.si.s.trans m5 λb hb=>?_,hr.si.n⟩,hr.fs.up m1 hle,hr.fc.up m1 hle,hr.Jh m1 hle,⟨JZ++H',BJ.app (k.left.up m1 Ff),?_⟩,m6,λr hr'=>?_⟩
 ·revert hv hval
  generalize(cZ (Gy g'.th g'.nx nm) bI y 0).1=b;intro hv hval;cases b<;>simp only[Nw,Option.some.injEq,reduceCtorEq]at hv;subst hv;obtain⟨u0,r,e,h1,_⟩:=hval;cases e;exact h1
 ·obtain⟨q,hq,WE⟩:=aN.1 hb
  exact(hp.own q (by simpa using hq) b WE).1
 ·have yp:aX c.bs c.w0.heap.size (HB++((H'++HK)++X)) w:=by simpa using hp
  have:=Ic yp hr.si.size m4;simpa using this
 ·show(if r<g'.nx then ρ2 r else σ (r-g'.nx))=none
  have hr':g'.nx+nm.length<=r:=hr';rw[aa6 (by omega)];exact m8 _ (by omega)
end Go.Rw
namespace Go.Rw
open Go Go.Bw Go.RowKit
variable {G:Sg} {P:Program} {tt:TT P G} {J J':World->Prop} {ρ ρ' σ:aP} {a:Act} {w:World} {d:Option Tmp} {ty:TypeId} {ps:String} {af:Array Edge} {g:Option (Nat×Bool)}
 {N:Nat} {c:Cx} {HK X H:List av} {C:CC G} {S:AS G} {F:cE}
theorem Mi{f h:Nat->List Value}{n:Nat}:∀m:Nat,flat (λi=>if i<n then f i else h (i-n)) (n+m)=flat f n++flat h m:=by
 intro m
 induction m with
 |zero=>simp only[Nat.add_zero,flat,List.append_nil];exact r8 λi hi=>aa5 hi
 |succ m ih=>show flat _ (n+m)++(if n+m<n then f (n+m)else h (n+m-n))=_ ++(flat h m++h m);rw[ih,aa6 (by omega),Nat.add_sub_cancel_left,List.append_assoc]
theorem Nn{α:Type}[Inhabited α]{L:bP α}{xs ys:List α}{ws news:List Value}(h1:(LA L xs.length).dJ J ws (λi=>xs.getD i default))(h2:(LA L ys.length).dJ J news (λi=>ys.getD i default)):(LA L (xs++ys).length).dJ J (ws++news) (λi=>(xs++ys).getD i default):=by
 obtain⟨f,rfl,k1⟩:=h1;obtain⟨h,rfl,k2⟩:=h2;refine⟨λi=>if i<xs.length then f i else h (i-xs.length),?_,λi hi=>?_⟩
 ·rw[List.length_append,Mi]
 ·rw[List.length_append]at hi
  by_cases q:i<xs.length
  ·simp only[aa5 q,List.getD_eq_getElem?_getD,List.getElem?_append_left q]
   have:=k1 i q;simpa[List.getD_eq_getElem?_getD]using this
  ·simp only[aa6 q,List.getD_eq_getElem?_getD,List.getElem?_append_right (Nat.le_of_not_lt q)]
   have:=k2 (i-xs.length) (by omega);simpa[List.getD_eq_getElem?_getD]using this
theorem TV{α:Type}[Inhabited α]{L:bP α}{x:α}{cs:List Value}(h:L.dJ J cs x):(LA L [x].length).dJ J cs (λi=>[x].getD i default):=by
 refine⟨λ_ =>cs,by simp[flat],λi hi=>?_⟩;have:i=0:=by simp at hi;exact hi
 subst this;exact h
theorem TW{α:Type}[Inhabited α]{L:bP α}:(LA L ([]:List α).length).dJ J [] (λi=>([]:List α).getD i default):=⟨λ_ =>[],rfl,λi hi=>absurd hi (Nat.not_lt_zero _)⟩
theorem Nm{α:Type}[Inhabited α]{L:bP α}{xs:List α}{ws:List Value}{l m:Nat}(hl:l<=m)(hm:m<=xs.length)(h:(LA L xs.length).dJ J ws (λi=>xs.getD i default)):(LA L ((xs.drop l).take (m-l)).length).dJ J ((ws.drop (l*L.n)).take ((m-l)*L.n)) (λi=>((xs.drop l).take (m-l)).getD i default):=by
 obtain⟨f,rfl,k⟩:=h;have hk:∀i,i<xs.length->(f i).length=L.n:=λi hi=>L.len (k i hi);have hlen:((xs.drop l).take (m-l)).length=m-l:=by simp;omega
 rw[hlen];refine⟨λi=>f (l+i),?_,λi hi=>?_⟩
 ·refine rm λq=>?_
  have hfl:=er (n:=xs.length) hk;have aa0:(flat (λi=>f (l+i)) (m-l)).length=(m-l)*L.n:=er λi hi=>hk _ (by omega);rw[List.getElem?_take,List.getElem?_drop];by_cases hq:q<(m-l)*L.n
  ·rw[aa5 hq]
   have h0:0<L.n:=by
    rcases Nat.eq_zero_or_pos L.n with e|e
    ·rw[e,Nat.mul_zero]at hq;omega
    ·exact e
   have hdm:q=(q/L.n)*L.n+q%L.n:=by rw[Nat.mul_comm];exact(Nat.div_add_mod q L.n).symm
   have hj:q%L.n<L.n:=Nat.mod_lt _ h0;have hi:q/L.n<m-l:=Nat.div_lt_of_lt_mul (by rw[Nat.mul_comm];exact hq);have e1:l*L.n+q=(l+q/L.n)*L.n+q%L.n:=by rw[Nat.add_mul];omega
   rw[e1,pI hk (by omega) hj]
   conv=>rhs;rw[hdm]
   rw[pI (λi hi=>hk _ (by omega)) hi hj]
  ·rw[aa6 hq,List.getElem?_eq_none (by omega)]
 ·have e:=k (l+i) (by omega)
  have:((xs.drop l).take (m-l)).getD i default=xs.getD (l+i) default:=by simp only[List.getD_eq_getElem?_getD,List.getElem?_take,List.getElem?_drop,aa5 hi]
  show L.dJ J (f (l+i)) (((xs.drop l).take (m-l)).getD i default);rw[this];exact e
theorem yP.cut{α:Type}[Inhabited α]{A:World->Prop}{v:Value}{L:bP α}{ws:List Value}{xs:List α}(h:yP A v L ws xs){l m sz:Nat}(hs:sz=L.n)(hl:l<=m)(hm:m<=xs.length):yP A (nC l m sz v) L ((ws.drop (l*sz)).take ((m-l)*sz)) ((xs.drop l).take (m-l)):=by
 subst hs;have hlen:((xs.drop l).take (m-l)).length=m-l:=by simp;omega
 refine⟨?_,Nm hl hm h.dJ,λw hw=>?_⟩
 ·obtain⟨a,cp,rfl⟩:=h.sl
  rw[hlen];exact⟨_,_,rfl⟩
 ·rw[hlen];exact(h.ro w hw).cut hl hm
theorem Nd{v:Value}{ws:List Value}{e sz n off t q:Nat}{x y:Operand}{val:Value}{vs:List Value}{f:av->List av}(hx:Bw.ev F x=some (dK v off))(hz:Bw.ev F y=some val)(hv:val.cells.toList=vs)(hl:vs.length=q)(h1:kP vs)
  (hle:off+q<=n*sz)(hn:0<n)[hr:qv H v e sz n ws f][ht:JI P t q]:
  RX (α:=Unit) P N c ⟨d, .store t x y,ty,ps,af,g⟩ F H (λ_ =>True) (λ_ =>undef) (λ_ =>f (.row v e sz n (bn ws off vs))):=λD a w next Q hst hk=>by
 subst hl;obtain⟨k,k1,k2⟩:=hr.ok;have GL:av.row v e sz n ws∈H:=List.mem_of_getElem? k1;have hown:w.ownsRow 0 e sz v n ws:=hst.hp.holds _ GL;obtain⟨hlen,Ac⟩:=hown;rcases Ac with⟨_,h0⟩|⟨gb,cap,cur,rfl,_,LX,hnc,Ie,hcs,Dm⟩
 ·omega
 have hmul:n*sz<=cap*sz:=Nat.mul_le_mul_right _ hnc;obtain⟨cs,rfl⟩:∃cs:List Value,cur=cs.toArray:=⟨cur.toList,by simp⟩;have pG:cs.length=cap*sz:=by simpa using hcs
 have Um:cs.take (n*sz)=ws:=by simpa using Dm
 obtain⟨w',e1,e2,e3⟩:=nS (P:=P) (t:=t) (b:=gb) (T:=e) (off:=off) (cs:=cs) (w:=w) LX hv rfl (by omega) h1;have hnew:(bn cs off vs).take (n*sz)=bn ws off vs:=by
  rw[← Um];unfold bn;have t1:(cs.take (n*sz)).take off=cs.take off:=by rw[List.take_take,Nat.min_eq_left (by omega)]
  have t2:(cs.take (n*sz)).drop (off+vs.length)=(cs.drop (off+vs.length)).take (n*sz-(off+vs.length)):=by rw[List.drop_take]
  have t3:(cs.take off++vs).length=off+vs.length:=by rw[List.length_append,List.length_take,Nat.min_eq_left (by omega)]
  rw[t1,t2,List.take_append,List.take_of_length_le (by omega),t3]
 refine kF (by simp) (w':=w') ?_ (hk () w' trivial (hst.si.store hst.hp GL (by simp[av.bK,Value.ownBlock]) e3) ?_)
 ·simp[execOp,ay hst.fr hx,ay hst.fr hz,dK,Instr.storeAt,Instr.sureAddr,e1]
 ·show aX c.bs c.w0.heap.size (f _) w'
  rw[k2];refine hst.hp.set k1 e3.size (λj hj hn=>e3.block j hj (by simpa[av.bK,Value.ownBlock]using hn)) ?_ hst.si.size (λb' hb'=>?_)
  ·refine⟨by rw[pe (by omega)];exact hlen, .inr ⟨gb,cap,_,rfl,Nat.zero_le _,e2,hnc,Ie,?_,?_⟩⟩
   ·simp only[List.size_toArray,bn,List.length_append,List.length_take,List.length_drop];omega
   ·simpa using hnew
  ·have h5:b'=gb:=by simpa[av.bK,Value.ownBlock]using hb'
   subst h5;exact⟨.inl (by simp[av.bK,Value.ownBlock]),Nat.lt_of_lt_of_le (abf.1 LX).1 e3.size⟩
theorem L7{α:Type}[Inhabited α]{xs:List α}{k:Nat}{z:α}(hk:k<xs.length):(λi=>(xs.set k z).getD i default)=mg (λi=>xs.getD i default) k z:=by
 funext i;unfold mg;by_cases e:i=k
 ·subst e;simp[List.getD_eq_getElem?_getD,hk]
 ·simp[List.getD_eq_getElem?_getD,e,List.getElem?_set,Ne.symm e]
theorem Kz{T:Nat}{x y:Operand}{v:AV G}{r e sz:Nat}{p:List oJ}{t:Ty}{xs:List (t.T G)}{q:PL G t}{z:q.m.T G}(hx:dV C S [] x=some (.ptr r p))(hy:dV C S [] y=some v)(ho:cu S.O r=some (.row e sz t xs))(hz0:LY p sz=true)(hq:Bs tt.F t p=some q)(hu:wT q.m v=some z)(hf:ry tt T v=true):
  SK P ⟨d, .store T x y,ty,ps,af,g⟩ C S {S with O:=mh S.O r (.row e sz t (xs.set q.i.toNat (q.set (xs.getD q.i.toNat default) z)))} .IW:=by
 intro c N ρ J HK X a w next Q h hk
 obtain⟨HS,h1,hs0,hm⟩:=h.st;have hE:=bU h (ch:=[]) (by simp);obtain⟨b,o,e1,e2,e3⟩:=lD (hE.ok _ _ hx);obtain⟨k,x0,k1,⟨vv,ws,m1,rfl,m3,m4,m5⟩,k3⟩:=h1.set ho;have hp:∃n cap n' sz i q',ρ r=some (.slice (some ⟨b,o,none⟩) n cap)/\p= .idx n' sz i::q'/\i.toNat<n:=by
  rcases e1 with h1|h1
  ·obtain⟨a0,cp,e⟩:=m3
   rw[h1,e]at m1;cases m1
  ·exact h1
 obtain⟨n,cap,n',sz',i,q',p1,p2,p3⟩:=hp;subst p2;obtain rfl:=aa7 (show Nat.beq sz' sz=true from hz0);rw[p1]at m1;cases m1;obtain⟨a0,cp,e4⟩:=m3;cases e4;subst m5;obtain⟨q1,q3⟩:=EU hq e3 rfl p3;have hv:=hE.ok _ _ hy;have R9:=vz hu hv;have LJ:=q3.set (v:=z) m4 R9.1;have hl:=(q.m.L G).len R9.1;rw[Array.length_toList]at hl;have hle:=q3.le;have qI:=hE.ev _ _ hx;rw[e2]at qI;haveI:=Mk hf hv;have Cy:=mY (m:=HK++X) k1;haveI:qv (HS++(HK++X)) (.slice (some ⟨b,o,none⟩) xs.length cap) e (t.L G).n xs.length ws ((HS++(HK++X)).set k):=⟨k,Cy,λ_ =>rfl⟩;refine Nd (v:= .slice (some ⟨b,o,none⟩) xs.length cap) (off:=cQ (oJ.idx n' (Ty.L G t).n i::q')) (vs:=(a.eval y).cells.toList) (n:=xs.length) qI (hE.ev _ _ hy) rfl (by simp) ((q.m.L G).one R9.1) (by rw[hl];exact hle) (by omega) a.defers a w next Q hs0 λ_ w' _ hs hp=>?_
 rw[qf k1]at hp;refine hk ρ J [] w' undef (aP.b5 _ _) (λ_ h=>h) ⟨_,rfl⟩ (h.za (k3 _ _ ?_) hs hp);refine⟨_,_,p1,by rw[List.length_set],⟨_,_,by rw[List.length_set]⟩,?_,rfl⟩;rw[List.length_set,q1,L7 p3];exact LJ
structure LS(G:Sg) where
 t:Ty
 xs:List (t.T G)
def Qi(C:CC G)(S:AS G):AV G->Option (LS G)
 | .dat (.sl t) xs=>some ⟨t,xs⟩
 | .row r=>match Lm C S r with
  |some (.row _ sz t xs)=>bif Nat.beq (t.L G).n sz then some ⟨t,xs⟩else none
  |_ =>none
 |_ =>none
theorem GD{v:AV G}{l:LS G}{u:Value}{D:List Deferred}(hm:Ht (G:=G) J ρ N c D H (Lm C S) a w)(h:Qi C S v=some l)(hv:rv J ρ v u):∃ws,mF c H u (l.t.L G).n l.xs.length ws/\(LA (l.t.L G) l.xs.length).dJ J ws (λi=>l.xs.getD i default)/\qu u l.xs.length:=by
 unfold Qi at h;split at h
 ·rename_i t xs
  cases h;obtain⟨u',e1,hr,_,hc⟩:=hv;cases e1;obtain⟨v',ws,e2,hf⟩:=hr;rw[hc rfl]at e2;cases e2;haveI:=hm.kn;exact⟨ws,hf.at,hf.dJ,hf.sl⟩
 ·rename_i r
  split at h
  ·rename_i e sz t xs ho
   cases hb:Nat.beq (t.L G).n sz with
   |false=>rw[hb]at h;cases h
   |true=>rw[hb]at h;cases h;obtain⟨vv,ws,h1,h2,h3,h4,h5⟩:=DN hm ho;obtain rfl:=qh hv h1;subst h5;exact⟨ws,h3,h4,h2⟩
  ·cases h
 ·cases h
def B5{t t':Ty}(xs:List (t'.T G)):Option (List (t.T G)):=if h:t'.bp t=true then some (Ty.qC h▸xs)else none
theorem Iu{t t':Ty}{xs:List (t'.T G)}{ys:List (t.T G)}(h:B5 xs=some ys):∃e:t'=t,e▸xs=ys:=by
 unfold B5 at h;by_cases hs:t'.bp t=true
 ·rw[dif_pos hs]at h;cases h;exact⟨Ty.qC hs,rfl⟩
 ·rw[dif_neg hs]at h;cases h
theorem xV{H':List av}{e sz:Nat}{t:Ty}{zs:List (t.T G)}{v':Value}{ws:List Value}{w':World}{O':Os G}(h:Rl c N ρ J HK X C S a w)(hO:RO J ρ O' H')(hs:aJ c.bs c.w0 w')(hp:aX c.bs c.w0.heap.size (.row v' e sz zs.length ws::(H'++(HK++X))) w')(hv:qu v' zs.length)(hr:(LA (t.L G) zs.length).dJ J ws (λi=>zs.getD i default))(hz:(t.L G).n=sz):
  ∃ρ',ρ.to ρ' S.nx/\rv J ρ' (.row S.nx:AV G) v'/\Rl c N ρ' J HK X C {S with O:=(S.nx, .row e sz t zs)::O',nx:=S.nx+1} a w':=by
 have hle:=(aP.jT ρ S.nx v').le h.fr;obtain⟨a0,cp,rfl⟩:=hv;refine⟨ρ.set S.nx _,aP.jT _ _ _,⟨_,_,_,aP.fJ _ _ _,rfl⟩,h.tm,h.df.up (λ_ h=>h) hle,⟨hs,h.si.n⟩,h.fs.up (λ_ h=>h) hle,h.fc.up (λ_ h=>h) hle,h.Jh (λ_ h=>h) hle,⟨_ ::H', .cons ⟨_,ws,aP.fJ _ _ _,rfl,⟨_,_,rfl⟩,hr,hz⟩ (hO.up (λ_ h=>h) hle),?_⟩,h.kn,aP.wU h.fr _⟩;simpa using hp
theorem Re{T r e sz bt:Nat}{x y:Operand}{vy:AV G}{t:Ty}{xs ys:List (t.T G)}{l:LS G}(hT:tt.te.find T=some (.sl e sz bt))(hx:dV C S [] x=some (.row r))(hy:dV C S [] y=some vy)(ho:cu S.O r=some (.row e sz t xs))(hl:Qi C S vy=some l)(hc:B5 l.xs=some ys)(hg:g5 xs.length ys.length bt=true):
  SK P ⟨d, .call ⟨.builtin .append, #[x,y], #[T,T]⟩,ty,ps,af,g⟩ C S {S with O:=(S.nx, .row e sz t (xs++ys))::uR S.O r,nx:=S.nx+1} (.row S.nx):=by
 intro c N ρ J HK X a w next Q h hk
 obtain⟨HS,h1,hs0,hm⟩:=h.st;have hE:=bU h (ch:=[]) (by simp);obtain⟨k,x0,k1,⟨vv,ws,m1,rfl,m3,m4,m5⟩,k3⟩:=h1.QA ho;obtain⟨t',l'⟩:=l;obtain⟨rfl,rfl⟩:=Iu hc;obtain⟨news,n1,n2,n3⟩:=GD hm hl (hE.ok _ _ hy);have OR:=qh (hE.ok _ _ hx) m1;have qI:=hE.ev _ _ hx;rw[OR]at qI;haveI:=(tt.sl hT).2;have Cy:=mY (m:=HK++X) k1;haveI:qv (HS++(HK++X)) vv e sz xs.length ws ((HS++(HK++X)).set k):=⟨k,Cy,λ_ =>rfl⟩;subst m5;haveI:=n1;obtain⟨g1,g2⟩:=pQ hg;refine yI qI (hE.ev _ _ hy) (bP.one _ n2) g1 g2 a.defers a w next Q hs0 λv' w' Fe hs hp=>?_
 have yp:aX c.bs c.w0.heap.size (.row v' e (t'.L G).n (xs++l').length (ws++news)::(HS.eraseIdx k++(HK++X))) w':=by
  rw[List.length_append];have Sc:aX c.bs c.w0.heap.size ((HS++(HK++X)).set k (.row v' e (t'.L G).n (xs.length+l'.length) (ws++news))) w':=hp;rw[qf k1]at Sc;refine Sc.iu ?_;have hlt:=(List.getElem?_eq_some_iff.1 k1).1;have e1:(HS.set k (.row v' e (t'.L G).n (xs.length+l'.length) (ws++news)))[k]? =some (.row v' e (t'.L G).n (xs.length+l'.length) (ws++news)):=by simp[hlt]
  have:=nv e1 (HK++X);rwa[List.eraseIdx_set_eq]at this
 obtain⟨ρ',q1,q2,q3⟩:=xV h k3 hs yp (by rw[List.length_append];exact Fe) (Nn m4 n2) rfl;exact hk ρ' J [] w' v' q1 (λ_ h=>h) q2 q3
theorem N4{T e sz bt:Nat}{x y:Operand}{vy:AV G}{l:LS G}(hT:tt.te.find T=some (.sl e sz bt))(hx:dV C S [] x=some .gW)(hy:dV C S [] y=some vy)(hl:Qi C S vy=some l)(hsz:(l.t.L G).n=sz)(hg:g5 0 l.xs.length bt=true):
  SK P ⟨d, .call ⟨.builtin .append, #[x,y], #[T,T]⟩,ty,ps,af,g⟩ C S {S with O:=(S.nx, .row e sz l.t l.xs)::S.O,nx:=S.nx+1} (.row S.nx):=by
 intro c N ρ J HK X a w next Q h hk
 obtain⟨HS,h1,hs0,hm⟩:=h.st;have hE:=bU h (ch:=[]) (by simp);obtain⟨news,n1,n2,n3⟩:=GD hm hl (hE.ok _ _ hy);have qI:=hE.ev _ _ hx;have OR:a.eval x= .slice none 0 0:=(List.cons.inj (show[a.eval x]=[Value.slice none 0 0]from hE.ok _ _ hx)).1;rw[OR]at qI;haveI:=(tt.sl hT).2;subst hsz;obtain⟨g1,g2⟩:=pQ hg;have Ea:St N c a.defers (kN a) (.row (.slice none 0 0) e (l.t.L G).n 0 []::(HS++(HK++X))) a w:=⟨hs0.tm,hs0.fr,hs0.df,hs0.si,vB hs0.hp⟩;haveI:mF c (.row (.slice none 0 0) e (l.t.L G).n 0 []::(HS++(HK++X))) (a.eval y) (l.t.L G).n l.xs.length news:=⟨λw' hs' hp'=>n1.ro w' hs' ⟨λs hs=>hp'.holds s (abj _ hs),λs hs=>hp'.own s (abj _ hs),(List.pairwise_cons.1 hp'.apart).2⟩⟩;refine yI (n:=0) (xs:=[]) qI (hE.ev _ _ hy) (bP.one _ n2) g1 g2 a.defers a w next Q Ea λv' w' Fe hs hp=>?_
 obtain⟨ρ',q1,q2,q3⟩:=xV (t:=l.t) (zs:=l.xs) h h1 hs (by simpa using hp) (by simpa using Fe) n2 rfl;exact hk ρ' J [] w' v' q1 (λ_ h=>h) q2 q3
end Go.Rw
