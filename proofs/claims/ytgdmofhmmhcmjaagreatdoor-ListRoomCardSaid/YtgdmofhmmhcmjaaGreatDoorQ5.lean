/- Part 5 of what a proof leans on; pruned and shortened by a program out of longer texts. -/
import Derived.Test.YtgdmofhmmhcmjaaGreatDoorQ4
namespace Go.Rw
open Go Go.Bw Go.RowKit
variable {G:Sg} {P:Program} {J J':World->Prop} {ρ ρ' σ:aY}
def NB(f:Nat->Nat):AV G->AV G
 | .ptr r p=> .ptr (f r) p
 | .row r=> .row (f r)
 | .Dz r p n sz up i=> .Dz (f r) p n sz up i
 | .mp r=> .mp (f r)
 | .yl r=> .yl (f r)
 | .fn k a c=> .fn k (NB f a) (NB f c)
 | .st a=> .st (NB f a)
 | .jy a=> .jy (NB f a)
 | .jS t v=> .jS t (NB f v)
 | .gd j w v=> .gd j w (NB f v)
 | .cons a b=> .cons (NB f a) (NB f b)
 | .part w a b=> .part w (NB f a) (NB f b)
 |v=>v
def ahm(f:Nat->Nat):Ob G->Ob G
 | .cH T c=> .cH T (NB f c)
 | .fm q ks vs=> .fm q ks (NB f vs)
 | .lp N ks vs ps a b=> .lp N ks (NB f vs) ps a b
 |o=>o
def TD(f:Nat->Nat)(O:Os G):Os G:=O.map λp=>(f p.1,ahm f p.2)
theorem Gk{f:Nat->Nat}(m:∀r v,σ r=some v->ρ (f r)=some v):∀{v:AV G} {l:List Value},rl J σ v l->rl J ρ (NB f v) l:=by
 intro v
 induction v with
 |ptr r p=>
  intro l h;obtain⟨⟨b,o,h1,h2⟩,h3⟩:=h;refine⟨⟨b,o,?_,h2⟩,h3⟩;rcases h1 with h1|⟨n,cap,n',sz,i,q,e1,e2⟩
  ·exact .inl (m _ _ h1)
  ·exact .inr ⟨n,cap,n',sz,i,q,m _ _ e1,e2⟩
 |Dz r p n sz up i=>
  intro l h;obtain⟨⟨b,o,h1,h2⟩,h3⟩:=h;refine⟨⟨b,o,?_,h2⟩,h3⟩;rcases h1 with h1|⟨n,cap,n',sz,i,q,e1,e2⟩
  ·exact .inl (m _ _ h1)
  ·exact .inr ⟨n,cap,n',sz,i,q,m _ _ e1,e2⟩
 |row r=>intro l h;obtain⟨a,n,cap,h1,h2⟩:=h;exact⟨a,n,cap,m _ _ h1,h2⟩
 |mp r=>intro l h;obtain⟨b,h1,h2⟩:=h;exact⟨b,m _ _ h1,h2⟩
 |yl r=>intro l h;obtain⟨b,h1,h2⟩:=h;exact⟨b,m _ _ h1,h2⟩
 |fn f a c mP Cr=>intro l h;obtain⟨fs,cs,e,h1,h2⟩:=h;exact⟨fs,cs,e,mP h1,Cr h2⟩
 |st a ih=>intro l h;obtain⟨cs,e,h1,h2⟩:=h;exact⟨cs,e,ih h1,h2⟩
 |jy a ih=>intro l h;obtain⟨vs,e,h1⟩:=h;exact⟨vs,e,ih h1⟩
 |jS t v ih=>intro l h;obtain⟨u,e,h1⟩:=h;exact⟨u,e,ih h1⟩
 |cons a b mP q9=>intro l h;obtain⟨u,r,e,h1,h2⟩:=h;exact⟨u,r,e,mP h1,q9 h2⟩
 |part w a b mP q9=>intro l h;obtain⟨c1,c2,u,e,h1,h2,h3,h4⟩:=h;exact⟨c1,c2,u,e,h1,mP h2,h3,q9 h4⟩
 |_ =>intro l h;exact h
theorem O8{f:Nat->Nat}(m:∀r v,σ r=some v->ρ (f r)=some v){O:Os G}{H:List aE}(h:RO J σ O H):RO J ρ (TD f O) H:=by
 induction h with
 |nil=>exact .nil
 |@cons r o x O H h _ ih=>
  refine .cons ?_ ih;cases o with
  |cH T c=>obtain⟨b,u,h1,h2,h3⟩:=h;exact⟨b,u,m _ _ h1,h2,Gk m h3⟩
  |row e sz t xs=>obtain⟨v,ws,h1,h2⟩:=h;exact⟨v,ws,m _ _ h1,h2⟩
  |aux b=>obtain⟨n,x,h1,h2⟩:=h;exact⟨n,x,m _ _ h1,h2⟩
  |gm=>obtain⟨⟨mb,g,h1,h2⟩,h4⟩:=h;exact⟨⟨mb,g,m _ _ h1,h2⟩,h4⟩
  |fm q ks vs=>obtain⟨b,es,ck,us,h1,h2,h3,h4,h5⟩:=h;exact⟨b,es,ck,us,m _ _ h1,h2,h3,Gk m h4,h5⟩
  |lp N ks vs ps a b=>obtain⟨n,rec,us,h1,h2,h3,h4⟩:=h;exact⟨n,rec,us,m _ _ h1,h2,Gk m h3,h4⟩
theorem CK{f:Nat->Nat}:∀{s:Sh} {x:HL G (aM s)} {m:Nat},(fA f s x m).1=NB f (fA (λm=>m) s x m).1/\(fA f s x m).2.1=TD f (fA (λm=>m) s x m).2.1/\(fA f s x m).2.2=(fA (λm=>m) s x m).2.2:=by
 intro s
 induction s with
 |v t=>intro x m;refine⟨?_,rfl,rfl⟩;cases t<;>rfl
 |row e sz t=>intro x m;exact⟨rfl,rfl,rfl⟩
 |box T s ih=>intro x m;obtain⟨h1,h2,h3⟩:=ih (x:=x) (m:=m+1);simp only[fA];exact⟨rfl,by rw[h1,h2];rfl,h3⟩
 |fn k a c mP Cr=>intro x m;obtain⟨h1,h2,h3⟩:=mP (x:=HL.fst x) (m:=m);simp only[fA];rw[h3];obtain⟨k1,k2,k3⟩:=Cr (x:=HL.snd x) (m:=(fA (λm=>m) a (HL.fst x) m).2.2);exact⟨by rw[h1,k1];rfl,by rw[h2,k2];simp[TD],k3⟩
 |cons a c mP Cr=>intro x m;obtain⟨h1,h2,h3⟩:=mP (x:=HL.fst x) (m:=m);simp only[fA];rw[h3];obtain⟨k1,k2,k3⟩:=Cr (x:=HL.snd x) (m:=(fA (λm=>m) a (HL.fst x) m).2.2);exact⟨by rw[h1,k1];rfl,by rw[h2,k2];simp[TD],k3⟩
 |part w a c mP Cr=>intro x m;obtain⟨h1,h2,h3⟩:=mP (x:=HL.fst x) (m:=m);simp only[fA];rw[h3];obtain⟨k1,k2,k3⟩:=Cr (x:=HL.snd x) (m:=(fA (λm=>m) a (HL.fst x) m).2.2);exact⟨by rw[h1,k1];rfl,by rw[h2,k2];simp[TD],k3⟩
 |jy a ih=>intro x m;obtain⟨h1,h2,h3⟩:=ih (x:=x) (m:=m);simp only[fA];exact⟨by rw[h1];rfl,h2,h3⟩
 |st a ih=>intro x m;obtain⟨h1,h2,h3⟩:=ih (x:=x) (m:=m);simp only[fA];exact⟨by rw[h1];rfl,h2,h3⟩
 |jS t a ih=>intro x m;obtain⟨h1,h2,h3⟩:=ih (x:=x) (m:=m);simp only[fA];exact⟨by rw[h1];rfl,h2,h3⟩
 |_ =>intro x m;exact⟨rfl,rfl,rfl⟩
def lpE{Z:Type}:(l:List Ty)->((HL G l->Option Z)->HL G l->Option Z)->Nat->HL G l->Option Z
 |[_],B,n,e=>iw (λk x1=>B (λe=>k (e.1)) (x1,())) n (e.1)
 |[_,_],B,n,e=>eS (λk x1 x2=>B (λe=>k (e.1) (e.2.1)) (x1,x2,())) n (e.1) (e.2.1)
 |[_,_,_],B,n,e=>yO (λk x1 x2 x3=>B (λe=>k (e.1) (e.2.1) (e.2.2.1)) (x1,x2,x3,())) n (e.1) (e.2.1) (e.2.2.1)
 |[_,_,_,_],B,n,e=>Pp (λk x1 x2 x3 x4=>B (λe=>k (e.1) (e.2.1) (e.2.2.1) (e.2.2.2.1)) (x1,x2,x3,x4,())) n (e.1) (e.2.1) (e.2.2.1) (e.2.2.2.1)
 |[_,_,_,_,_],B,n,e=>xq (λk x1 x2 x3 x4 x5=>B (λe=>k (e.1) (e.2.1) (e.2.2.1) (e.2.2.2.1) (e.2.2.2.2.1)) (x1,x2,x3,x4,x5,())) n (e.1) (e.2.1) (e.2.2.1) (e.2.2.2.1) (e.2.2.2.2.1)
 |[_,_,_,_,_,_],B,n,e=>Po (λk x1 x2 x3 x4 x5 x6=>B (λe=>k (e.1) (e.2.1) (e.2.2.1) (e.2.2.2.1) (e.2.2.2.2.1) (e.2.2.2.2.2.1)) (x1,x2,x3,x4,x5,x6,())) n (e.1) (e.2.1) (e.2.2.1) (e.2.2.2.1) (e.2.2.2.2.1) (e.2.2.2.2.2.1)
 |[_,_,_,_,_,_,_],B,n,e=>vJ (λk x1 x2 x3 x4 x5 x6 x7=>B (λe=>k (e.1) (e.2.1) (e.2.2.1) (e.2.2.2.1) (e.2.2.2.2.1) (e.2.2.2.2.2.1) (e.2.2.2.2.2.2.1)) (x1,x2,x3,x4,x5,x6,x7,())) n (e.1) (e.2.1) (e.2.2.1) (e.2.2.2.1) (e.2.2.2.2.1) (e.2.2.2.2.2.1) (e.2.2.2.2.2.2.1)
 |[_,_,_,_,_,_,_,_],B,n,e=>GA (λk x1 x2 x3 x4 x5 x6 x7 x8=>B (λe=>k (e.1) (e.2.1) (e.2.2.1) (e.2.2.2.1) (e.2.2.2.2.1) (e.2.2.2.2.2.1) (e.2.2.2.2.2.2.1) (e.2.2.2.2.2.2.2.1)) (x1,x2,x3,x4,x5,x6,x7,x8,())) n (e.1) (e.2.1) (e.2.2.1) (e.2.2.2.1) (e.2.2.2.2.1) (e.2.2.2.2.2.1) (e.2.2.2.2.2.2.1) (e.2.2.2.2.2.2.2.1)
 |[_,_,_,_,_,_,_,_,_],B,n,e=>Pn (λk x1 x2 x3 x4 x5 x6 x7 x8 x9=>B (λe=>k (e.1) (e.2.1) (e.2.2.1) (e.2.2.2.1) (e.2.2.2.2.1) (e.2.2.2.2.2.1) (e.2.2.2.2.2.2.1) (e.2.2.2.2.2.2.2.1) (e.2.2.2.2.2.2.2.2.1)) (x1,x2,x3,x4,x5,x6,x7,x8,x9,())) n (e.1) (e.2.1) (e.2.2.1) (e.2.2.2.1) (e.2.2.2.2.1) (e.2.2.2.2.2.1) (e.2.2.2.2.2.2.1) (e.2.2.2.2.2.2.2.1) (e.2.2.2.2.2.2.2.2.1)
 |[_,_,_,_,_,_,_,_,_,_],B,n,e=>wG (λk x1 x2 x3 x4 x5 x6 x7 x8 x9 Lu=>B (λe=>k (e.1) (e.2.1) (e.2.2.1) (e.2.2.2.1) (e.2.2.2.2.1) (e.2.2.2.2.2.1) (e.2.2.2.2.2.2.1) (e.2.2.2.2.2.2.2.1) (e.2.2.2.2.2.2.2.2.1) (e.2.2.2.2.2.2.2.2.2.1)) (x1,x2,x3,x4,x5,x6,x7,x8,x9,Lu,())) n (e.1) (e.2.1) (e.2.2.1) (e.2.2.2.1) (e.2.2.2.2.1) (e.2.2.2.2.2.1) (e.2.2.2.2.2.2.1) (e.2.2.2.2.2.2.2.1) (e.2.2.2.2.2.2.2.2.1) (e.2.2.2.2.2.2.2.2.2.1)
 |[_,_,_,_,_,_,_,_,_,_,_],B,n,e=>wF (λk x1 x2 x3 x4 x5 x6 x7 x8 x9 Lu Sy=>B (λe=>k (e.1) (e.2.1) (e.2.2.1) (e.2.2.2.1) (e.2.2.2.2.1) (e.2.2.2.2.2.1) (e.2.2.2.2.2.2.1) (e.2.2.2.2.2.2.2.1) (e.2.2.2.2.2.2.2.2.1) (e.2.2.2.2.2.2.2.2.2.1) (e.2.2.2.2.2.2.2.2.2.2.1)) (x1,x2,x3,x4,x5,x6,x7,x8,x9,Lu,Sy,())) n (e.1) (e.2.1) (e.2.2.1) (e.2.2.2.1) (e.2.2.2.2.1) (e.2.2.2.2.2.1) (e.2.2.2.2.2.2.1) (e.2.2.2.2.2.2.2.1) (e.2.2.2.2.2.2.2.2.1) (e.2.2.2.2.2.2.2.2.2.1) (e.2.2.2.2.2.2.2.2.2.2.1)
 |[_,_,_,_,_,_,_,_,_,_,_,_],B,n,e=>KC (λk x1 x2 x3 x4 x5 x6 x7 x8 x9 Lu Sy x12=>B (λe=>k (e.1) (e.2.1) (e.2.2.1) (e.2.2.2.1) (e.2.2.2.2.1) (e.2.2.2.2.2.1) (e.2.2.2.2.2.2.1) (e.2.2.2.2.2.2.2.1) (e.2.2.2.2.2.2.2.2.1) (e.2.2.2.2.2.2.2.2.2.1) (e.2.2.2.2.2.2.2.2.2.2.1) (e.2.2.2.2.2.2.2.2.2.2.2.1)) (x1,x2,x3,x4,x5,x6,x7,x8,x9,Lu,Sy,x12,())) n (e.1) (e.2.1) (e.2.2.1) (e.2.2.2.1) (e.2.2.2.2.1) (e.2.2.2.2.2.1) (e.2.2.2.2.2.2.1) (e.2.2.2.2.2.2.2.1) (e.2.2.2.2.2.2.2.2.1) (e.2.2.2.2.2.2.2.2.2.1) (e.2.2.2.2.2.2.2.2.2.2.1) (e.2.2.2.2.2.2.2.2.2.2.2.1)
 |_,_,_,_ =>none
theorem ae7{Z:Type}:∀{l:List Ty} {B:(HL G l->Option Z)->HL G l->Option Z} {n:Nat} {e:HL G l} {z:Z},lpE l B n e=some z->∃m,n=m+1/\B (lpE l B m) e=some z:=by
 intro l B n e z h
 match l,B,e,h with
 |[_],B,e,h=>obtain⟨m,h1,h2⟩:=aff rfl h;exact⟨m,h1,h2⟩
 |[_,_],B,e,h=>obtain⟨m,h1,h2⟩:=Jn rfl h;exact⟨m,h1,h2⟩
 |[_,_,_],B,e,h=>obtain⟨m,h1,h2⟩:=aaC rfl h;exact⟨m,h1,h2⟩
 |[_,_,_,_],B,e,h=>obtain⟨m,h1,h2⟩:=afd rfl h;exact⟨m,h1,h2⟩
 |[_,_,_,_,_],B,e,h=>obtain⟨m,h1,h2⟩:=afc rfl h;exact⟨m,h1,h2⟩
 |[_,_,_,_,_,_],B,e,h=>obtain⟨m,h1,h2⟩:=afb rfl h;exact⟨m,h1,h2⟩
 |[_,_,_,_,_,_,_],B,e,h=>obtain⟨m,h1,h2⟩:=afa rfl h;exact⟨m,h1,h2⟩
 |[_,_,_,_,_,_,_,_],B,e,h=>obtain⟨m,h1,h2⟩:=ae9 rfl h;exact⟨m,h1,h2⟩
 |[_,_,_,_,_,_,_,_,_],B,e,h=>obtain⟨m,h1,h2⟩:=ae8 rfl h;exact⟨m,h1,h2⟩
 |[_,_,_,_,_,_,_,_,_,_],B,e,h=>obtain⟨m,h1,h2⟩:=abX rfl h;exact⟨m,h1,h2⟩
 |[_,_,_,_,_,_,_,_,_,_,_],B,e,h=>obtain⟨m,h1,h2⟩:=abW rfl h;exact⟨m,h1,h2⟩
 |[_,_,_,_,_,_,_,_,_,_,_,_],B,e,h=>obtain⟨m,h1,h2⟩:=abV rfl h;exact⟨m,h1,h2⟩
 |[],B,e,h=>cases h
 |_ ::_ ::_ ::_ ::_ ::_ ::_ ::_ ::_ ::_ ::_ ::_ ::_ ::_,B,e,h=>cases h
theorem aaF(α ρ:Type):∃g:α->(α->Option ρ)->Option ρ,∀a f,g a f=lt a f:=⟨lt,λ_ _ =>rfl⟩
noncomputable def jn{α ρ:Type}:α->(α->Option ρ)->Option ρ:=Classical.choose (aaF α ρ)
theorem ahA{α ρ:Type}{a:α}{f:α->Option ρ}:jn a f=lt a f:=Classical.choose_spec (aaF α ρ) a f
noncomputable def lj{α ρ:Type}:Bool->α->(α->Option ρ)->Option ρ
 |true=>jn
 |false=>lt
theorem EY{α ρ:Type}{b:Bool}{a:α}{f:α->Option ρ}:lj b a f=f a:=by cases b;exact rfl;exact ahA
noncomputable def jnE{Z:Type}(b:Bool):(l:List Ty)->(HL G l->Option Z)->((HL G l->Option Z)->Option Z)->Option Z
 |[_],B,A=>lj b (λx1=>B (x1,())) λj=>A λe=>j (e.1)
 |[_,_],B,A=>lj b (λx1 x2=>B (x1,x2,())) λj=>A λe=>j (e.1) (e.2.1)
 |[_,_,_],B,A=>lj b (λx1 x2 x3=>B (x1,x2,x3,())) λj=>A λe=>j (e.1) (e.2.1) (e.2.2.1)
 |[_,_,_,_],B,A=>lj b (λx1 x2 x3 x4=>B (x1,x2,x3,x4,())) λj=>A λe=>j (e.1) (e.2.1) (e.2.2.1) (e.2.2.2.1)
 |[_,_,_,_,_],B,A=>lj b (λx1 x2 x3 x4 x5=>B (x1,x2,x3,x4,x5,())) λj=>A λe=>j (e.1) (e.2.1) (e.2.2.1) (e.2.2.2.1) (e.2.2.2.2.1)
 |[_,_,_,_,_,_],B,A=>lj b (λx1 x2 x3 x4 x5 x6=>B (x1,x2,x3,x4,x5,x6,())) λj=>A λe=>j (e.1) (e.2.1) (e.2.2.1) (e.2.2.2.1) (e.2.2.2.2.1) (e.2.2.2.2.2.1)
 |[_,_,_,_,_,_,_],B,A=>lj b (λx1 x2 x3 x4 x5 x6 x7=>B (x1,x2,x3,x4,x5,x6,x7,())) λj=>A λe=>j (e.1) (e.2.1) (e.2.2.1) (e.2.2.2.1) (e.2.2.2.2.1) (e.2.2.2.2.2.1) (e.2.2.2.2.2.2.1)
 |[_,_,_,_,_,_,_,_],B,A=>lj b (λx1 x2 x3 x4 x5 x6 x7 x8=>B (x1,x2,x3,x4,x5,x6,x7,x8,())) λj=>A λe=>j (e.1) (e.2.1) (e.2.2.1) (e.2.2.2.1) (e.2.2.2.2.1) (e.2.2.2.2.2.1) (e.2.2.2.2.2.2.1) (e.2.2.2.2.2.2.2.1)
 |[_,_,_,_,_,_,_,_,_],B,A=>lj b (λx1 x2 x3 x4 x5 x6 x7 x8 x9=>B (x1,x2,x3,x4,x5,x6,x7,x8,x9,())) λj=>A λe=>j (e.1) (e.2.1) (e.2.2.1) (e.2.2.2.1) (e.2.2.2.2.1) (e.2.2.2.2.2.1) (e.2.2.2.2.2.2.1) (e.2.2.2.2.2.2.2.1) (e.2.2.2.2.2.2.2.2.1)
 |[_,_,_,_,_,_,_,_,_,_],B,A=>lj b (λx1 x2 x3 x4 x5 x6 x7 x8 x9 Lu=>B (x1,x2,x3,x4,x5,x6,x7,x8,x9,Lu,())) λj=>A λe=>j (e.1) (e.2.1) (e.2.2.1) (e.2.2.2.1) (e.2.2.2.2.1) (e.2.2.2.2.2.1) (e.2.2.2.2.2.2.1) (e.2.2.2.2.2.2.2.1) (e.2.2.2.2.2.2.2.2.1) (e.2.2.2.2.2.2.2.2.2.1)
 |[_,_,_,_,_,_,_,_,_,_,_],B,A=>lj b (λx1 x2 x3 x4 x5 x6 x7 x8 x9 Lu Sy=>B (x1,x2,x3,x4,x5,x6,x7,x8,x9,Lu,Sy,())) λj=>A λe=>j (e.1) (e.2.1) (e.2.2.1) (e.2.2.2.1) (e.2.2.2.2.1) (e.2.2.2.2.2.1) (e.2.2.2.2.2.2.1) (e.2.2.2.2.2.2.2.1) (e.2.2.2.2.2.2.2.2.1) (e.2.2.2.2.2.2.2.2.2.1) (e.2.2.2.2.2.2.2.2.2.2.1)
 |[_,_,_,_,_,_,_,_,_,_,_,_],B,A=>lj b (λx1 x2 x3 x4 x5 x6 x7 x8 x9 Lu Sy x12=>B (x1,x2,x3,x4,x5,x6,x7,x8,x9,Lu,Sy,x12,())) λj=>A λe=>j (e.1) (e.2.1) (e.2.2.1) (e.2.2.2.1) (e.2.2.2.2.1) (e.2.2.2.2.2.1) (e.2.2.2.2.2.2.1) (e.2.2.2.2.2.2.2.1) (e.2.2.2.2.2.2.2.2.1) (e.2.2.2.2.2.2.2.2.2.1) (e.2.2.2.2.2.2.2.2.2.2.1) (e.2.2.2.2.2.2.2.2.2.2.2.1)
 |_,B,A=>A B
theorem afj{Z:Type}{b:Bool}:∀{l:List Ty} {B:HL G l->Option Z} {A:(HL G l->Option Z)->Option Z} {z:Z},jnE b l B A=some z->A B=some z:=by
 intro l B A z h
 match l,B,A,h with
 |[_],B,A,h=>exact(EY (b:=b) (a:=λx1=>B (x1,())) (f:=λj=>A λe=>j (e.1))).symm.trans h
 |[_,_],B,A,h=>exact(EY (b:=b) (a:=λx1 x2=>B (x1,x2,())) (f:=λj=>A λe=>j (e.1) (e.2.1))).symm.trans h
 |[_,_,_],B,A,h=>exact(EY (b:=b) (a:=λx1 x2 x3=>B (x1,x2,x3,())) (f:=λj=>A λe=>j (e.1) (e.2.1) (e.2.2.1))).symm.trans h
 |[_,_,_,_],B,A,h=>exact(EY (b:=b) (a:=λx1 x2 x3 x4=>B (x1,x2,x3,x4,())) (f:=λj=>A λe=>j (e.1) (e.2.1) (e.2.2.1) (e.2.2.2.1))).symm.trans h
 |[_,_,_,_,_],B,A,h=>exact(EY (b:=b) (a:=λx1 x2 x3 x4 x5=>B (x1,x2,x3,x4,x5,())) (f:=λj=>A λe=>j (e.1) (e.2.1) (e.2.2.1) (e.2.2.2.1) (e.2.2.2.2.1))).symm.trans h
 |[_,_,_,_,_,_],B,A,h=>exact(EY (b:=b) (a:=λx1 x2 x3 x4 x5 x6=>B (x1,x2,x3,x4,x5,x6,())) (f:=λj=>A λe=>j (e.1) (e.2.1) (e.2.2.1) (e.2.2.2.1) (e.2.2.2.2.1) (e.2.2.2.2.2.1))).symm.trans h
 |[_,_,_,_,_,_,_],B,A,h=>exact(EY (b:=b) (a:=λx1 x2 x3 x4 x5 x6 x7=>B (x1,x2,x3,x4,x5,x6,x7,())) (f:=λj=>A λe=>j (e.1) (e.2.1) (e.2.2.1) (e.2.2.2.1) (e.2.2.2.2.1) (e.2.2.2.2.2.1) (e.2.2.2.2.2.2.1))).symm.trans h
 |[_,_,_,_,_,_,_,_],B,A,h=>exact(EY (b:=b) (a:=λx1 x2 x3 x4 x5 x6 x7 x8=>B (x1,x2,x3,x4,x5,x6,x7,x8,())) (f:=λj=>A λe=>j (e.1) (e.2.1) (e.2.2.1) (e.2.2.2.1) (e.2.2.2.2.1) (e.2.2.2.2.2.1) (e.2.2.2.2.2.2.1) (e.2.2.2.2.2.2.2.1))).symm.trans h
 |[_,_,_,_,_,_,_,_,_],B,A,h=>exact(EY (b:=b) (a:=λx1 x2 x3 x4 x5 x6 x7 x8 x9=>B (x1,x2,x3,x4,x5,x6,x7,x8,x9,())) (f:=λj=>A λe=>j (e.1) (e.2.1) (e.2.2.1) (e.2.2.2.1) (e.2.2.2.2.1) (e.2.2.2.2.2.1) (e.2.2.2.2.2.2.1) (e.2.2.2.2.2.2.2.1) (e.2.2.2.2.2.2.2.2.1))).symm.trans h
 |[_,_,_,_,_,_,_,_,_,_],B,A,h=>exact(EY (b:=b) (a:=λx1 x2 x3 x4 x5 x6 x7 x8 x9 Lu=>B (x1,x2,x3,x4,x5,x6,x7,x8,x9,Lu,())) (f:=λj=>A λe=>j (e.1) (e.2.1) (e.2.2.1) (e.2.2.2.1) (e.2.2.2.2.1) (e.2.2.2.2.2.1) (e.2.2.2.2.2.2.1) (e.2.2.2.2.2.2.2.1) (e.2.2.2.2.2.2.2.2.1) (e.2.2.2.2.2.2.2.2.2.1))).symm.trans h
 |[_,_,_,_,_,_,_,_,_,_,_],B,A,h=>exact(EY (b:=b) (a:=λx1 x2 x3 x4 x5 x6 x7 x8 x9 Lu Sy=>B (x1,x2,x3,x4,x5,x6,x7,x8,x9,Lu,Sy,())) (f:=λj=>A λe=>j (e.1) (e.2.1) (e.2.2.1) (e.2.2.2.1) (e.2.2.2.2.1) (e.2.2.2.2.2.1) (e.2.2.2.2.2.2.1) (e.2.2.2.2.2.2.2.1) (e.2.2.2.2.2.2.2.2.1) (e.2.2.2.2.2.2.2.2.2.1) (e.2.2.2.2.2.2.2.2.2.2.1))).symm.trans h
 |[_,_,_,_,_,_,_,_,_,_,_,_],B,A,h=>exact(EY (b:=b) (a:=λx1 x2 x3 x4 x5 x6 x7 x8 x9 Lu Sy x12=>B (x1,x2,x3,x4,x5,x6,x7,x8,x9,Lu,Sy,x12,())) (f:=λj=>A λe=>j (e.1) (e.2.1) (e.2.2.1) (e.2.2.2.1) (e.2.2.2.2.1) (e.2.2.2.2.2.1) (e.2.2.2.2.2.2.1) (e.2.2.2.2.2.2.2.1) (e.2.2.2.2.2.2.2.2.1) (e.2.2.2.2.2.2.2.2.2.1) (e.2.2.2.2.2.2.2.2.2.2.1) (e.2.2.2.2.2.2.2.2.2.2.2.1))).symm.trans h
 |[],B,A,h=>exact h
 |_ ::_ ::_ ::_ ::_ ::_ ::_ ::_ ::_ ::_ ::_ ::_ ::_ ::_,B,A,h=>exact h
def itE{B Z:Type}:(l:List Ty)->(B->(HL G l->Option Z)->HL G l->Option Z)->(HL G l->Option Z)->List B->HL G l->Option Z
 |[],b,fin,l,_ =>xJ (λy k (_ :Unit)=>b y (λ_ =>k ()) ()) (λ_ =>fin ()) l ()
 |[_],b,fin,l,e=>xJ (λy k x1=>b y (λe=>k (e.1)) (x1,())) (λx1=>fin (x1,())) l (e.1)
 |[_,_],b,fin,l,e=>afq (λy k x1 x2=>b y (λe=>k (e.1) (e.2.1)) (x1,x2,())) (λx1 x2=>fin (x1,x2,())) l (e.1) (e.2.1)
 |[_,_,_],b,fin,l,e=>UC (λy k x1 x2 x3=>b y (λe=>k (e.1) (e.2.1) (e.2.2.1)) (x1,x2,x3,())) (λx1 x2 x3=>fin (x1,x2,x3,())) l (e.1) (e.2.1) (e.2.2.1)
 |[_,_,_,_],b,fin,l,e=>afp (λy k x1 x2 x3 x4=>b y (λe=>k (e.1) (e.2.1) (e.2.2.1) (e.2.2.2.1)) (x1,x2,x3,x4,())) (λx1 x2 x3 x4=>fin (x1,x2,x3,x4,())) l (e.1) (e.2.1) (e.2.2.1) (e.2.2.2.1)
 |[_,_,_,_,_],b,fin,l,e=>afo (λy k x1 x2 x3 x4 x5=>b y (λe=>k (e.1) (e.2.1) (e.2.2.1) (e.2.2.2.1) (e.2.2.2.2.1)) (x1,x2,x3,x4,x5,())) (λx1 x2 x3 x4 x5=>fin (x1,x2,x3,x4,x5,())) l (e.1) (e.2.1) (e.2.2.1) (e.2.2.2.1) (e.2.2.2.2.1)
 |[_,_,_,_,_,_],b,fin,l,e=>afn (λy k x1 x2 x3 x4 x5 x6=>b y (λe=>k (e.1) (e.2.1) (e.2.2.1) (e.2.2.2.1) (e.2.2.2.2.1) (e.2.2.2.2.2.1)) (x1,x2,x3,x4,x5,x6,())) (λx1 x2 x3 x4 x5 x6=>fin (x1,x2,x3,x4,x5,x6,())) l (e.1) (e.2.1) (e.2.2.1) (e.2.2.2.1) (e.2.2.2.2.1) (e.2.2.2.2.2.1)
 |[_,_,_,_,_,_,_],b,fin,l,e=>afm (λy k x1 x2 x3 x4 x5 x6 x7=>b y (λe=>k (e.1) (e.2.1) (e.2.2.1) (e.2.2.2.1) (e.2.2.2.2.1) (e.2.2.2.2.2.1) (e.2.2.2.2.2.2.1)) (x1,x2,x3,x4,x5,x6,x7,())) (λx1 x2 x3 x4 x5 x6 x7=>fin (x1,x2,x3,x4,x5,x6,x7,())) l (e.1) (e.2.1) (e.2.2.1) (e.2.2.2.1) (e.2.2.2.2.1) (e.2.2.2.2.2.1) (e.2.2.2.2.2.2.1)
 |[_,_,_,_,_,_,_,_],b,fin,l,e=>afl (λy k x1 x2 x3 x4 x5 x6 x7 x8=>b y (λe=>k (e.1) (e.2.1) (e.2.2.1) (e.2.2.2.1) (e.2.2.2.2.1) (e.2.2.2.2.2.1) (e.2.2.2.2.2.2.1) (e.2.2.2.2.2.2.2.1)) (x1,x2,x3,x4,x5,x6,x7,x8,())) (λx1 x2 x3 x4 x5 x6 x7 x8=>fin (x1,x2,x3,x4,x5,x6,x7,x8,())) l (e.1) (e.2.1) (e.2.2.1) (e.2.2.2.1) (e.2.2.2.2.1) (e.2.2.2.2.2.1) (e.2.2.2.2.2.2.1) (e.2.2.2.2.2.2.2.1)
 |_,_,_,_,_ =>none
theorem YO{B Z:Type}:∀{l:List Ty} {b:B->(HL G l->Option Z)->HL G l->Option Z} {fin:HL G l->Option Z} {e:HL G l} {z:Z},itE l b fin [] e=some z->fin e=some z:=by
 intro l b fin e z h
 match l,b,fin,e,h with
 |[],b,fin,e,h=>exact h
 |[_],b,fin,e,h=>exact h
 |[_,_],b,fin,e,h=>exact h
 |[_,_,_],b,fin,e,h=>exact h
 |[_,_,_,_],b,fin,e,h=>exact h
 |[_,_,_,_,_],b,fin,e,h=>exact h
 |[_,_,_,_,_,_],b,fin,e,h=>exact h
 |[_,_,_,_,_,_,_],b,fin,e,h=>exact h
 |[_,_,_,_,_,_,_,_],b,fin,e,h=>exact h
 |_ ::_ ::_ ::_ ::_ ::_ ::_ ::_ ::_ ::_,b,fin,e,h=>cases h
theorem UD{B Z:Type}:∀{l:List Ty} {b:B->(HL G l->Option Z)->HL G l->Option Z} {fin:HL G l->Option Z} {y:B} {q:List B} {e:HL G l} {z:Z},itE l b fin (y::q) e=some z->b y (itE l b fin q) e=some z:=by
 intro l b fin y q e z h
 match l,b,fin,e,h with
 |[],b,fin,e,h=>exact h
 |[_],b,fin,e,h=>exact h
 |[_,_],b,fin,e,h=>exact h
 |[_,_,_],b,fin,e,h=>exact h
 |[_,_,_,_],b,fin,e,h=>exact h
 |[_,_,_,_,_],b,fin,e,h=>exact h
 |[_,_,_,_,_,_],b,fin,e,h=>exact h
 |[_,_,_,_,_,_,_],b,fin,e,h=>exact h
 |[_,_,_,_,_,_,_,_],b,fin,e,h=>exact h
 |_ ::_ ::_ ::_ ::_ ::_ ::_ ::_ ::_ ::_,b,fin,e,h=>cases h
inductive Src where
 |cY (d:Nat)
 |obj (r:Nat)
structure M0 where
 l:List (Src×Sh)
 nm:List (Option Nat)
def rP:List (Src×Sh)->Sh
 |[]=> .nil
 |(_,s)::r=> .cons s (rP r)
def Dt(C:CC G)(S:AS G):List (Src×Sh)->Option (AV G)
 |[]=>some .nil
 |(.cY d,_)::r=>match fT C S [] (.tmp d),Dt C S r with
  |some v,some l=>some (.cons v l)
  |_,_ =>none
 |(.obj b,_)::r=>match cU S.O b,Dt C S r with
  |some (.cH _ _),some l=>some (.cons (.ptr b []) l)
  |some (.row _ _ _ _),some l=>some (.cons (.row b) l)
  |_,_ =>none
def wC:List (Option Nat)->List Nat->Bool
 |[],[]=>true
 |some r::q,s::th=>Nat.beq r s&&wC q th
 |none::q,_ ::th=>wC q th
 |_,_ =>false
def NN(base:Nat)(nm:List (Option Nat))(m:Nat):Nat:=match nm[m]? with
 |some (some r)=>r
 |_ =>base+m
def wD(base:Nat):List (Option Nat)->Bool
 |[]=>true
 |some r::q=>Nat.blt r base&&wD base q
 |none::q=>wD base q
def Gj:List (Src×Sh)->AV G->Fr G
 |(.cY d,_)::r, .cons v l=>(d,v)::Gj r l
 |(.obj _,_)::r, .cons _ l=>Gj r l
 |_,_ =>[]
def AV.lt(n:Nat):AV G->Bool
 | .ptr r _ =>Nat.blt r n
 | .row r=>Nat.blt r n
 | .Dz r _ _ _ _ _ =>Nat.blt r n
 | .mp r=>Nat.blt r n
 | .yl r=>Nat.blt r n
 | .fn _ a c=>a.lt n&&c.lt n
 | .st a=>a.lt n
 | .jy a=>a.lt n
 | .jS _ v=>v.lt n
 | .gd _ _ v=>v.lt n
 | .cons a b=>a.lt n&&b.lt n
 | .part _ a b=>a.lt n&&b.lt n
 |_ =>true
theorem rl.fb{n:Nat}(m:∀r,r<n->ρ' r=ρ r):∀{v:AV G} {l:List Value},v.lt n=true->rl J ρ v l->rl J ρ' v l:=by
 intro v
 induction v with
 |ptr r p=>intro l h1 h;have hr:=m r (by simpa[AV.lt,Nat.blt_eq]using h1);obtain⟨⟨b,o,k1,k2⟩,k3⟩:=h;refine⟨⟨b,o,?_,k2⟩,k3⟩;unfold PB at k1 ⊢;rw[hr];exact k1
 |Dz r p n' sz up i=>intro l h1 h;have hr:=m r (by simpa[AV.lt,Nat.blt_eq]using h1);obtain⟨⟨b,o,k1,k2⟩,k3⟩:=h;refine⟨⟨b,o,?_,k2⟩,k3⟩;unfold PB at k1 ⊢;rw[hr];exact k1
 |row r=>intro l h1 h;unfold rl at h ⊢;rw[m r (by simpa[AV.lt,Nat.blt_eq]using h1)];exact h
 |mp r=>intro l h1 h;unfold rl at h ⊢;rw[m r (by simpa[AV.lt,Nat.blt_eq]using h1)];exact h
 |yl r=>intro l h1 h;unfold rl at h ⊢;rw[m r (by simpa[AV.lt,Nat.blt_eq]using h1)];exact h
 |fn f a c mP Cr=>intro l h1 h;simp only[AV.lt,aiP]at h1;obtain⟨fs,cs,e,h2,h3⟩:=h;exact⟨fs,cs,e,mP h1.1 h2,Cr h1.2 h3⟩
 |st a ih=>intro l h1 h;obtain⟨cs,e,h2,h3⟩:=h;exact⟨cs,e,ih h1 h2,h3⟩
 |jy a ih=>intro l h1 h;obtain⟨vs,e,h2⟩:=h;exact⟨vs,e,ih h1 h2⟩
 |jS t v ih=>intro l h1 h;obtain⟨u,e,h2⟩:=h;exact⟨u,e,ih h1 h2⟩
 |cons a b mP q9=>intro l h1 h;simp only[AV.lt,aiP]at h1;obtain⟨u,r,e,h2,h3⟩:=h;exact⟨u,r,e,mP h1.1 h2,q9 h1.2 h3⟩
 |part w a b mP q9=>intro l h1 h;simp only[AV.lt,aiP]at h1;obtain⟨c1,c2,u,e,h2,h3,h4,h5⟩:=h;exact⟨c1,c2,u,e,h2,mP h1.1 h3,h4,q9 h1.2 h5⟩
 |_ =>intro l _ h;exact h
def Uu(n:Nat):Fr G->Bool
 |[]=>true
 |(_,v)::r=>v.lt n&&Uu n r
def tS(n:Nat):Os G->Bool
 |[]=>true
 |(r, .cH _ c)::q=>Nat.blt r n&&(c.lt n&&tS n q)
 |(r, .row _ _ _ _)::q=>Nat.blt r n&&tS n q
 |(r, .aux _)::q=>Nat.blt r n&&tS n q
 |(r, .gm)::q=>Nat.blt r n&&tS n q
 |(r, .fm _ _ vs)::q=>Nat.blt r n&&(vs.lt n&&tS n q)
 |(r, .lp _ _ vs _ _ _)::q=>Nat.blt r n&&(vs.lt n&&tS n q)
def Yw(n:Nat):List (AV G)->Bool
 |[]=>true
 |v::r=>v.lt n&&Yw n r
def xW(n:Nat):CC G->Bool
 |[]=>true
 |y::r=>Uu n y.F&&(tS n y.O&&(Yw n y.D&&xW n r))
theorem aaB{n:Nat}:∀{F:Fr G} {d:Nat} {v:AV G},Uu n F=true->cU F d=some v->v.lt n=true:=by
 intro F
 induction F with
 |nil=>intro d v _ h;cases h
 |cons p r ih=>
  obtain⟨k,u⟩:=p;intro d v h e;simp only[Uu,aiP]at h;simp only[cU]at e;cases hb:Nat.beq k d with
  |true=>rw[hb]at e;cases e;exact h.1
  |false=>rw[hb]at e;exact ih h.2 e
theorem rf.fb{n:Nat}(m:∀r,r<n->ρ' r=ρ r){t:Array Value}{v:AV G}{u:Value}(h1:v.lt n=true)(h:rf J ρ t v u):rf J ρ' t v u:=by
 cases v with
 |gd j w v=>exact⟨λe=>(h.1 e).fb m h1,h.2⟩
 |_ =>exact rl.fb m h1 h
theorem pD.fb{n:Nat}(m:∀r,r<n->ρ' r=ρ r){F:Fr G}{t:Array Value}(h1:Uu n F=true)(h:pD J ρ F t):pD J ρ' F t:=λd v e=>by obtain⟨u,k1,k2⟩:=h d v e;exact⟨u,k1,k2.fb m (aaB h1 e)⟩
def Ob.lt(n:Nat):Ob G->Bool
 | .cH _ c=>c.lt n
 | .fm _ _ vs=>vs.lt n
 | .lp _ _ vs _ _ _ =>vs.lt n
 |_ =>true
theorem Ut{n:Nat}:∀{O:Os G} {r:Nat} {o:Ob G},tS n O=true->cU O r=some o->(Nat.blt r n&&o.lt n)=true:=by
 intro O
 induction O with
 |nil=>intro r o _ h;cases h
 |cons p q ih=>
  obtain⟨k,u⟩:=p;intro r o h e;have h2:(Nat.blt k n&&u.lt n)=true/\tS n q=true:=by
   cases u with
   |cH T c=>simp only[tS,aiP]at h;exact⟨by simp[Ob.lt,h.1,h.2.1],h.2.2⟩
   |row _ _ _ _ =>simp only[tS,aiP]at h;exact⟨by simp[Ob.lt,h.1],h.2⟩
   |aux _ =>simp only[tS,aiP]at h;exact⟨by simp[Ob.lt,h.1],h.2⟩
   |gm=>simp only[tS,aiP]at h;exact⟨by simp[Ob.lt,h.1],h.2⟩
   |fm _ _ _ =>simp only[tS,aiP]at h;exact⟨by simp[Ob.lt,h.1,h.2.1],h.2.2⟩
   |lp _ _ _ _ _ _ =>simp only[tS,aiP]at h;exact⟨by simp[Ob.lt,h.1,h.2.1],h.2.2⟩
  simp only[cU]at e;cases hb:Nat.beq k r with
  |true=>rw[hb]at e;cases e;rw[← aiO hb];exact h2.1
  |false=>rw[hb]at e;exact ih h2.2 e
theorem ro.fb{n:Nat}(m:∀r,r<n->ρ' r=ρ r){r:Nat}{o:Ob G}{x:aE}(h:ro J ρ r o x)(hl:(Nat.blt r n&&o.lt n)=true):ro J ρ' r o x:=by
 rw[aiP]at hl;have hr:=m r (by simpa[Nat.blt_eq]using hl.1);cases o with
 |cH T c=>obtain⟨b,u,k1,k2,k3⟩:=h;exact⟨b,u,hr.trans k1,k2,k3.fb m hl.2⟩
 |row e sz t xs=>obtain⟨v,ws,k1,k2⟩:=h;exact⟨v,ws,hr.trans k1,k2⟩
 |aux b=>obtain⟨n,x,k1,k2⟩:=h;exact⟨n,x,hr.trans k1,k2⟩
 |gm=>obtain⟨⟨mb,g,k1,k2⟩,k4⟩:=h;exact⟨⟨mb,g,hr.trans k1,k2⟩,k4⟩
 |fm q ks vs=>obtain⟨b,es,ck,us,k1,k2,k3,k4,k5⟩:=h;exact⟨b,es,ck,us,hr.trans k1,k2,k3,k4.fb m hl.2,k5⟩
 |lp N ks vs ps a b=>obtain⟨n,rec,us,k1,k2,k3,k4⟩:=h;exact⟨n,rec,us,hr.trans k1,k2,k3.fb m hl.2,k4⟩
theorem RO.fb{n:Nat}(m:∀r,r<n->ρ' r=ρ r){O:Os G}{H:List aE}(h:RO J ρ O H):tS n O=true->RO J ρ' O H:=by
 induction h with
 |nil=>intro _;exact .nil
 |@cons r o x O H h _ ih=>
  intro hl;cases o with
  |cH T c=>simp only[tS,aiP]at hl;obtain⟨b,u,k1,k2,k3⟩:=h;exact .cons ⟨b,u,(m r (by simpa[Nat.blt_eq]using hl.1)).trans k1,k2,k3.fb m hl.2.1⟩ (ih hl.2.2)
  |row e sz t xs=>simp only[tS,aiP]at hl;obtain⟨v,ws,k1,k2⟩:=h;exact .cons ⟨v,ws,(m r (by simpa[Nat.blt_eq]using hl.1)).trans k1,k2⟩ (ih hl.2)
  |aux b=>simp only[tS,aiP]at hl;obtain⟨v,ws,k1,k2⟩:=h;exact .cons ⟨v,ws,(m r (by simpa[Nat.blt_eq]using hl.1)).trans k1,k2⟩ (ih hl.2)
  |gm=>simp only[tS,aiP]at hl;obtain⟨⟨mb,g,k1,k2⟩,k4⟩:=h;exact .cons ⟨⟨mb,g,(m r (by simpa[Nat.blt_eq]using hl.1)).trans k1,k2⟩,k4⟩ (ih hl.2)
  |fm q ks vs=>simp only[tS,aiP]at hl;obtain⟨b,es,ck,us,k1,k2,k3,k4,k5⟩:=h;exact .cons ⟨b,es,ck,us,(m r (by simpa[Nat.blt_eq]using hl.1)).trans k1,k2,k3,k4.fb m hl.2.1,k5⟩ (ih hl.2.2)
  |lp N ks vs ps a b=>simp only[tS,aiP]at hl;obtain⟨n,rec,us,k1,k2,k3,k4⟩:=h;exact .cons ⟨n,rec,us,(m r (by simpa[Nat.blt_eq]using hl.1)).trans k1,k2,k3.fb m hl.2.1,k4⟩ (ih hl.2.2)
theorem DR.fb{n:Nat}(m:∀r,r<n->ρ' r=ρ r){l:List (AV G)}{D:List Deferred}(h:DR J ρ l D):Yw n l=true->DR J ρ' l D:=by
 induction h with
 |nil=>intro _;exact .nil
 |@cons v d l D h _ ih=>
  intro hl;simp only[Yw,aiP]at hl;refine .cons ?_ (ih hl.2);unfold dr at h;split at h
  ·simp only[AV.lt,aiP]at hl
   obtain⟨fs,cs,ls,k1,k2,k3,k4⟩:=h;exact⟨fs,cs,ls,k1.fb m hl.1.1.1,k2.fb m hl.1.1.2,k3.fb m hl.1.2,k4⟩
  ·obtain⟨rfl,b,k1,k2⟩:=h
   exact⟨rfl,b,(m _ (by simpa[AV.lt,Nat.blt_eq]using hl.1)).trans k1,k2⟩
  ·exact h.elim
theorem Uv{n:Nat}:∀{C:CC G},xW n C=true->∀y∈C,Uu n y.F=true:=by
 intro C
 induction C with
 |nil=>intro _ y h;cases h
 |cons x r ih=>
  intro h y hy;simp only[xW,aiP]at h;rcases List.mem_cons.1 hy with rfl|hy
  ·exact h.1
  ·exact ih h.2.2.2 y hy
theorem Yv{n:Nat}:∀{A B:Os G},tS n A=true->tS n B=true->tS n (A++B)=true:=by
 intro A
 induction A with
 |nil=>intro B _ h;exact h
 |cons p r ih=>
  obtain⟨k,o⟩:=p;intro B h1 h2;cases o<;>simp only[List.cons_append,tS,aiP]at h1 ⊢
  ·exact⟨h1.1,h1.2.1,ih h1.2.2 h2⟩
  ·exact⟨h1.1,ih h1.2 h2⟩
  ·exact⟨h1.1,ih h1.2 h2⟩
  ·exact⟨h1.1,ih h1.2 h2⟩
  ·exact⟨h1.1,h1.2.1,ih h1.2.2 h2⟩
  ·exact⟨h1.1,h1.2.1,ih h1.2.2 h2⟩
theorem KB{n:Nat}:∀{A B:List (AV G)},Yw n A=true->Yw n B=true->Yw n (A++B)=true:=by
 intro A
 induction A with
 |nil=>intro B _ h;exact h
 |cons p r ih=>intro B h1 h2;simp only[List.cons_append,Yw,aiP]at h1 ⊢;exact⟨h1.1,ih h1.2 h2⟩
theorem Eo{n:Nat}:∀{C:CC G},xW n C=true->tS n (lH C)=true/\Yw n (dfC C)=true:=by
 intro C
 induction C with
 |nil=>intro _;exact⟨rfl,rfl⟩
 |cons x r ih=>intro h;simp only[xW,aiP]at h;obtain⟨i1,i2⟩:=ih h.2.2.2;exact⟨Yv h.2.1 i1,KB h.2.2.1 i2⟩
theorem Xz{c:Cx}{N:Nat}{HK X:List aE}{C:CC G}{S:AS G}{a:Act}{w:World}(h:Rl c N ρ J HK X C S a w):∀{l:List (Src×Sh)} {v:AV G},Dt C S l=some v->∃us,rl J ρ v us/\∀(x:HL G (aM (rP l))) (f:Nat->Nat) (m:Nat) (τ:aY),rl J τ (fA f (rP l) x m).1 us->pD J τ (Gj l (fA f (rP l) x m).1) a.tmps:=by
 intro l
 induction l with
 |nil=>intro v e;cases e;exact⟨[],rfl,λx f m τ _ d v e=>by cases e⟩
 |cons p r ih=>
  obtain⟨s,sh⟩:=p;intro v e;have key:∀(u0:Value) (us:List Value) (x:HL G (aM (rP ((s,sh)::r)))) (f:Nat->Nat) (m:Nat) (τ:aY),rl J τ (fA f (rP ((s,sh)::r)) x m).1 (u0::us)->
    rv J τ (fA f sh (HL.fst x) m).1 u0/\rl J τ (fA f (rP r) (HL.snd x) (fA f sh (HL.fst x) m).2.2).1 us:=λu0 us x f m τ hr=>by
   obtain⟨u,q,e1,h1,h2⟩:=hr;cases e1;exact⟨h1,h2⟩
  cases s with
  |cY d=>
   simp only[Dt]at e;split at e
   ·rename_i v1 l1 e1 e2
    cases e;obtain⟨us,i1,i2⟩:=ih e2;have hE:=cQ h (ch:=[]) (by simp);have hin:=hE.ev _ _ e1;have hd:a.tmps[d]? =some (a.eval (.tmp d)):=FH a d _ hin;refine⟨a.eval (.tmp d)::us,⟨_,_,rfl,hE.ok _ _ e1,i1⟩,λx f m τ hr=>?_⟩;obtain⟨k1,k2⟩:=key _ _ _ _ _ _ hr;have:=i2 (HL.snd x) f _ τ k2;intro k v e;have e:cU ((d,(fA f sh (HL.fst x) m).1)::Gj r (fA f (rP r) (HL.snd x) (fA f sh (HL.fst x) m).2.2).1) k=some v:=e;simp only[cU]at e;cases hb:Nat.beq d k with
    |true=>
     rw[hb]at e;cases e;obtain rfl:=aiO hb;refine⟨_,hd,?_⟩;have hng:∀j w v',(fA f sh (HL.fst x) m).1≠ .gd j w v':=λj w v' q=>by rw[q]at k1;exact k1
     revert k1;generalize(fA f sh (HL.fst x) m).1=b at hng;intro k1;cases b with
     |gd j w v'=>exact absurd rfl (hng j w v')
     |_ =>exact k1
    |false=>rw[hb]at e;exact this k v e
   ·cases e
  |obj b=>
   simp only[Dt]at e;split at e
   ·rename_i T cc l1 e1 e2
    cases e;obtain⟨us,i1,i2⟩:=ih e2;obtain⟨HS,q1,_⟩:=h.hp;obtain⟨k,y,_,⟨b',u,m1,_,_⟩⟩:=q1.get e1;refine⟨dB b' 0::us,⟨_,_,rfl,⟨⟨b',0, .inl m1,rfl⟩,by simp⟩,i1⟩,λx f m τ hr=>?_⟩;obtain⟨k1,k2⟩:=key _ _ _ _ _ _ hr;exact i2 (HL.snd x) f _ τ k2
   ·rename_i e9 z9 t9 xs9 l1 e1 e2
    cases e;obtain⟨us,i1,i2⟩:=ih e2;obtain⟨HS,q1,_⟩:=h.hp;obtain⟨k,y,_,⟨v9,ws9,m1,_,m3,_⟩⟩:=q1.get e1;obtain⟨a9,c9,rfl⟩:=m3;refine⟨_ ::us,⟨_,_,rfl,⟨_,_,_,m1,rfl⟩,i1⟩,λx f m τ hr=>?_⟩;obtain⟨k1,k2⟩:=key _ _ _ _ _ _ hr;exact i2 (HL.snd x) f _ τ k2
   ·cases e
theorem Uh:∀{nm:List (Option Nat)} {th:List Nat},wC nm th=true->nm.length=th.length/\∀(m r:Nat),nm[m]? =some (some r)->th[m]? =some r:=by
 intro nm
 induction nm with
 |nil=>intro th h;cases th with
  |nil=>exact⟨rfl,λm r e=>by simp at e⟩
  |cons _ _ =>cases h
 |cons o q ih=>
  intro th h;cases th with
  |nil=>cases o<;>cases h
  |cons s th=>
   have h1:wC q th=true/\∀r,o=some r->r=s:=by
    cases o with
    |none=>exact⟨h,nofun⟩
    |some r=>simp only[wC,aiP]at h;exact⟨h.2,λr' e=>by cases e;exact aiO h.1⟩
   obtain⟨i1,i2⟩:=ih h1.1;refine⟨by simp[i1],λm r e=>?_⟩;cases m with
   |zero=>simp at e;simp[h1.2 r e]
   |succ m=>simpa using i2 m r (by simpa using e)
theorem Ui{base:Nat}:∀{nm:List (Option Nat)},wD base nm=true->∀(m r:Nat),nm[m]? =some (some r)->r<base:=by
 intro nm
 induction nm with
 |nil=>intro _ m r e;simp at e
 |cons o q ih=>
  intro h m r e;cases m with
  |zero=>simp at e;subst e;simp only[wD,aiP]at h;simpa[Nat.blt_eq]using h.1
  |succ m=>
   refine ih ?_ m r (by simpa using e);cases o with
   |none=>exact h
   |some _ =>simp only[wD,aiP]at h;exact h.2
def Is(g:M0)(base:Nat)(x:HL G (aM (rP g.l))):AS G:=⟨Gj g.l (fA (NN base g.nm) (rP g.l) x 0).1,(fA (NN base g.nm) (rP g.l) x 0).2.1,base+g.nm.length,[]⟩
def GX(C:CC G)(S:AS G)(g:M0)(base:Nat):Option (HL G (aM (rP g.l))):=match S.D with
 |[]=>match Dt C S g.l with
  |some v=>match nt (rP g.l) v ⟨[],S.O,S.nx⟩with
   |some (x,g')=>bif wC g.nm g'.th&&(wD base g.nm&&Nat.ble base S.nx)then some x else none
   |none=>none
  |none=>none
 |_ =>none
theorem Pj{c:Cx}{N:Nat}{HK X:List aE}{C:CC G}{S:AS G}{a:Act}{w:World}{g:M0}{base:Nat}{v:AV G}{x:HL G (aM (rP g.l))}{g':GS G}(h:Rl c N ρ J HK X C S a w)(hv:Dt C S g.l=some v)(Jt:nt (rP g.l) v ⟨[],S.O,S.nx⟩=some (x,g'))
  (b1:wC g.nm g'.th=true)(b2:wD base g.nm=true)(b3:base<=S.nx)(hl:xW base C=true):
  ∃(ρ' ρ2:aY) (HB H':List aE),ρ.to ρ' base/\ρ.to ρ2 S.nx/\RO J ρ' (Is g base x).O HB/\RO J ρ2 g'.O H'/\(∀r o,cU (lH C) r=some o->∃x∈HK,ro J ρ' r o x)/\bC c.bs c.w0.heap.size (HB++(H'++(HK++X))) w/\pD J ρ' (Is g base x).F a.tmps/\FC J ρ' C a.tmps/\ρ'.fr (base+g.nm.length):=by
 obtain⟨n1,n2⟩:=Uh b1;have n3:=Ui b2;obtain⟨us,i1,i2⟩:=Xz h hv;obtain⟨HS,q1,q3⟩:=h.hp;obtain⟨ρ2,HB,H',k⟩:=G4 Jt i1 q1 h.fr;let ρ':aY:=λr=>if r<base then ρ r else cmp ρ2 g'.th (r-base)
 have hto:ρ.to ρ' base:=λr hr=>by show(if r<base then _ else _)=_;rw[aiM hr]
 have hmap:∀m u,cmp ρ2 g'.th m=some u->ρ' (NN base g.nm m)=some u:=λm u e=>by
  have hm:m<g.nm.length:=by
   unfold cmp at e;rcases Nat.lt_or_ge m g'.th.length with hlt|hge
   ·omega
   ·rw[List.getElem?_eq_none hge]at e;cases e
  unfold NN;obtain⟨o,ho⟩:∃o,g.nm[m]? =some o:=⟨_,aiV hm⟩;rw[ho];cases o with
  |none=>show(if base+m<base then _ else cmp ρ2 g'.th (base+m-base))=_;rw[aiN (by omega),Nat.add_sub_cancel_left];exact e
  |some r=>have hr:=n3 m r ho;have ht:=n2 m r ho;unfold cmp at e;rw[ht]at e;show(if r<base then ρ r else _)=_;rw[aiM hr, ← k.to r (by show r<S.nx;omega)];exact e
 obtain⟨r1,r2,_⟩:=CK (G:=G) (f:=NN base g.nm) (s:=rP g.l) (x:=x) (m:=0);have hval:rl J ρ' (fA (NN base g.nm) (rP g.l) x 0).1 us:=by rw[r1];exact Gk hmap k.val
 have GV:RO J ρ' (fA (NN base g.nm) (rP g.l) x 0).2.1 HB:=by rw[r2];exact O8 hmap k.cH
 have hag:∀r,r<base->ρ' r=ρ r:=hto;obtain⟨l1,l2⟩:=Eo hl;refine⟨ρ',ρ2,HB,H',hto,k.to,GV,k.left,λr o e=>?_,k.hp (HK++X) _ _ _ q3,i2 x _ 0 ρ' hval,λz hz=>(h.fc z hz).fb hag (Uv hl z hz),λr hr=>?_⟩
 ·obtain⟨y,y1,y2⟩:=h.kc r o e
  exact⟨y,y1,y2.fb hag (Ut l1 e)⟩
 show(if r<base then ρ r else cmp ρ2 g'.th (r-base))=none;rw[aiN (by omega)];unfold cmp;rw[List.getElem?_eq_none (by omega)]
theorem Yt{c:Cx}{N:Nat}{HK X:List aE}{C:CC G}{S:AS G}{a:Act}{w:World}{g:M0}{base:Nat}{x:HL G (aM (rP g.l))}(h:Rl c N ρ J HK X C S a w)(hg:GX C S g base=some x)(hl:xW base C=true):
  ∃ρ',ρ.to ρ' base/\Rl c N ρ' J HK X C (Is g base x) a w:=by
 unfold GX at hg;split at hg
 ·rename_i hD
  split at hg
  ·rename_i v hv
   split at hg
   ·rename_i y g' Jt
    cases hb:(wC g.nm g'.th&&(wD base g.nm&&Nat.ble base S.nx))with
    |false=>rw[hb]at hg;cases hg
    |true=>rw[hb]at hg;cases hg;simp only[aiP]at hb;obtain⟨b1,b2,b3⟩:=hb;obtain⟨ρ',ρ2,HB,H',hto,_,GV,_,hC,hp,hF,hfc,hfr⟩:=Pj h hv Jt b1 b2 (Nat.le_of_ble_eq_true b3) hl;have hdf:=h.df;rw[hD]at hdf;refine⟨ρ',hto,h.tm,hdf.fb hto (Eo hl).2,h.si,hF,hfc,hC,⟨HB,GV,?_⟩,h.kn,hfr⟩;exact hp.sub ((List.Sublist.refl HB).append (List.sublist_append_right H' (HK++X)))
   ·cases hg
  ·cases hg
 ·cases hg
def dm:List Nat->Nat->Bool
 |[],_ =>false
 |k::r,d=>Nat.beq k d||dm r d
def yR:List (Src×Sh)->Nat->Bool
 |[],_ =>false
 |(.cY k,_)::r,d=>Nat.beq k d||yR r d
 |(.obj _,_)::r,d=>yR r d
def jt(p:Nat->Bool):Fr G->Fr G
 |[]=>[]
 |(k,v)::r=>bif p k then(k,v)::jt p r else jt p r
theorem Zo{p:Nat->Bool}:∀{F:Fr G} {d:Nat} {v:AV G},cU (jt p F) d=some v->cU F d=some v:=by
 intro F
 induction F with
 |nil=>intro d v h;cases h
 |cons q r ih=>
  obtain⟨k,u⟩:=q;intro d v h;have key:∀{G0:Fr G},(∀x,(k,x)∉G0)->True:=λ_ =>trivial;simp only[jt]at h;cases hp:p k with
  |true=>
   rw[hp]at h;simp only[cond_true,cU]at h ⊢;cases hb:Nat.beq k d with
   |true=>rw[hb]at h;exact h
   |false=>rw[hb]at h;exact ih h
  |false=>
   rw[hp]at h;simp only[cond_false]at h;simp only[cU];cases hb:Nat.beq k d with
   |true=>
    obtain rfl:=aiO hb;exact absurd h (by
     have:∀{F:Fr G},cU (jt p F) k=none:=by
      intro F
      induction F with
      |nil=>rfl
      |cons q r ih=>
       obtain⟨k',u'⟩:=q;simp only[jt];cases hp':p k' with
       |true=>
        simp only[cond_true,cU];cases hb':Nat.beq k' k with
        |true=>rw[aiO hb']at hp';rw[hp]at hp';cases hp'
        |false=>exact ih
       |false=>exact ih
     rw[this];simp)
   |false=>exact ih h
theorem pD.Xj{p:Nat->Bool}{F:Fr G}{t:Array Value}(h:pD J ρ F t):pD J ρ (jt p F) t:=λd v e=>h d v (Zo e)
def cG(p:Nat->Bool):Os G->Os G
 |[]=>[]
 |(k,v)::r=>bif p k then(k,v)::cG p r else cG p r
theorem RO.Xj{p:Nat->Bool}{O:Os G}{H:List aE}(h:RO J ρ O H):∃H1 H2,RO J ρ (cG p O) H1/\RO J ρ (cG (λk=> !p k) O) H2/\H.Perm (H1++H2):=by
 induction h with
 |nil=>exact⟨[],[], .nil, .nil, .refl _⟩
 |@cons r o x O H h _ ih=>
  obtain⟨H1,H2,i1,i2,i3⟩:=ih;simp only[cG];cases hp:p r with
  |true=>exact⟨x::H1,H2, .cons h i1,by simpa[hp]using i2,i3.cons x⟩
  |false=>exact⟨H1,x::H2,by simpa[hp]using i1, .cons h i2,(i3.cons x).trans List.perm_middle.symm⟩
def Jf(y:Ly G)(S:AS G):AS G:=⟨S.F++y.F,S.O++y.O,S.nx,S.D++y.D⟩
theorem kz{α:Type}:∀{A B:List (Nat×α)} {d:Nat},cU (A++B) d=match cU A d with
  |some v=>some v
  |none=>cU B d:=by
 intro A
 induction A with
 |nil=>intro B d;rfl
 |cons q r ih=>
  obtain⟨k,u⟩:=q;intro B d;simp only[List.cons_append,cU];cases hb:Nat.beq k d with
  |true=>rfl
  |false=>exact ih
theorem RO.lk{O:Os G}{H:List aE}(h:RO J ρ O H){r:Nat}{o:Ob G}(e:cU O r=some o):∃x∈H,ro J ρ r o x:=by obtain⟨k,x,h1,h2⟩:=h.get e;exact⟨x,List.mem_of_getElem? h1,h2⟩
theorem Rl.Jf{c:Cx}{N:Nat}{H2 HK X:List aE}{y:Ly G}{C:CC G}{S:AS G}{a:Act}{w:World}(h:Rl c N ρ J (H2++HK) X (y::C) S a w)(hy:RO J ρ y.O H2)(hk:∀r o,cU (lH C) r=some o->∃x∈HK,ro J ρ r o x)(hn:xI (lH C)=true->c.ro=none):Rl c N ρ J HK X C (Jf y S) a w:=by
 obtain⟨HS,q1,q3⟩:=h.hp;refine⟨h.tm,?_,⟨h.si.s,hn⟩,λd v e=>?_,λz hz=>h.fc z (aiY _ hz),hk,⟨HS++H2,q1.app hy,by simpa using q3⟩,h.kn,h.fr⟩
 ·have:=h.df
  show DR J ρ ((S.D++y.D)++dfC C) a.defers;rw[List.append_assoc];exact this
 ·have e:cU (S.F++y.F) d=some v:=e
  rw[kz]at e;split at e
  ·rename_i v' hv;cases e;exact h.fs d _ hv
  ·exact h.fc y List.mem_cons_self d v e
theorem Rl.push{c:Cx}{N:Nat}{HK X:List aE}{C:CC G}{S:AS G}{a:Act}{w:World}(p q:Nat->Bool)(h:Rl c N ρ J HK X C S a w):∃H2,RO J ρ (cG (λr=> !q r) S.O) H2/\Rl c N ρ J (H2++HK) X (⟨jt (λd=> !p d) S.F,cG (λr=> !q r) S.O,S.D⟩::C) ⟨jt p S.F,cG q S.O,S.nx,[]⟩ a w:=by
 obtain⟨HS,q1,q3⟩:=h.hp;obtain⟨H1,H2,k1,k2,k3⟩:=q1.Xj (p:=q);refine⟨H2,k2,h.tm,h.df,⟨h.si.s,λq=>h.si.n (Cj q)⟩,h.fs.Xj,λz hz=>?_,λr o e=>?_,⟨H1,k1,?_⟩,h.kn,h.fr⟩
 ·rcases List.mem_cons.1 hz with rfl|hz
  ·exact h.fs.Xj
  ·exact h.fc z hz
 ·have e:cU (cG (λr=> !q r) S.O++lH C) r=some o:=e
  rw[kz]at e;split at e
  ·rename_i v' hv
   cases e;obtain⟨x,h1,h2⟩:=k2.lk hv;exact⟨x,aiT _ h1,h2⟩
  ·obtain⟨x,h1,h2⟩:=h.kc r o e
   exact⟨x,aiS _ h1,h2⟩
 ·refine q3.jL ?_
  have:=List.Perm.append_right (HK++X) k3;simpa using this
end Go.Rw
namespace Go.Rw
open Go Go.Bw Go.RowKit
variable {G:Sg} {P:Program} {J J':World->Prop} {ρ ρ' σ:aY}
def sb(r:Nat)(t:Ty)(xs:List (t.T G)):AV G->AV G
 | .row q=>bif Nat.beq q r then .dat (.sl t) xs else .row q
 | .fn k a c=> .fn k (sb r t xs a) (sb r t xs c)
 | .st a=> .st (sb r t xs a)
 | .jy a=> .jy (sb r t xs a)
 | .jS k v=> .jS k (sb r t xs v)
 | .gd j w v=> .gd j w (sb r t xs v)
 | .cons a b=> .cons (sb r t xs a) (sb r t xs b)
 | .part w a b=> .part w (sb r t xs a) (sb r t xs b)
 |v=>v
def sbF(r:Nat)(t:Ty)(xs:List (t.T G)):Fr G->Fr G
 |[]=>[]
 |(k,v)::q=>(k,sb r t xs v)::sbF r t xs q
def sbB(r:Nat)(t:Ty)(xs:List (t.T G)):Ob G->Ob G
 | .cH T c=> .cH T (sb r t xs c)
 |o=>o
def sbO(r:Nat)(t:Ty)(xs:List (t.T G)):Os G->Os G
 |[]=>[]
 |(k,o)::q=>(k,sbB r t xs o)::sbO r t xs q
def sbD(r:Nat)(t:Ty)(xs:List (t.T G)):List (AV G)->List (AV G)
 |[]=>[]
 |v::q=>sb r t xs v::sbD r t xs q
def Og(r:Nat)(S:AS G):AS G:=match cU S.O r with
 |some (.row _ _ t xs)=>⟨sbF r t xs S.F,sbO r t xs (wM S.O r),S.nx,sbD r t xs S.D⟩
 |_ =>S
def yU:List Nat->AS G->AS G
 |[],S=>S
 |r::q,S=>yU q (Og r S)
def wP(O:Os G):Sh->AV G->List Nat
 | .v _, .row r=>[r]
 | .box _ s, .ptr r []=>match cU O r with
  |some (.cH _ c)=>wP O s c
  |_ =>[]
 | .fn _ a c, .fn _ x y=>wP O a x++wP O c y
 | .jy a, .jy x=>wP O a x
 | .st a, .st x=>wP O a x
 | .jS _ a, .jS _ x=>wP O a x
 | .cons a b, .cons x y=>wP O a x++wP O b y
 | .part _ a b, .part _ x y=>wP O a x++wP O b y
 |_,_ =>[]
section
variable {r:Nat} {t:Ty} {xs:List (t.T G)}
theorem I1(hr:∀u,ρ r=some u->wz J (.sl t) xs u):∀{v:AV G} {l:List Value},rl J ρ v l->rl J ρ (sb r t xs v) l:=by
 intro v
 induction v with
 |row q=>
  intro l h;unfold sb;cases hb:Nat.beq q r with
  |false=>exact h
  |true=>obtain rfl:=aiO hb;obtain⟨a,n,cap,h1,h2⟩:=h;exact⟨_,h2,hr _ h1⟩
 |fn f a c mP Cr=>intro l h;obtain⟨fs,cs,e,h1,h2⟩:=h;exact⟨fs,cs,e,mP h1,Cr h2⟩
 |st a ih=>intro l h;obtain⟨cs,e,h1,h2⟩:=h;exact⟨cs,e,ih h1,h2⟩
 |jy a ih=>intro l h;obtain⟨vs,e,h1⟩:=h;exact⟨vs,e,ih h1⟩
 |jS t v ih=>intro l h;obtain⟨u,e,h1⟩:=h;exact⟨u,e,ih h1⟩
 |cons a b mP q9=>intro l h;obtain⟨u,r,e,h1,h2⟩:=h;exact⟨u,r,e,mP h1,q9 h2⟩
 |part w a b mP q9=>intro l h;obtain⟨c1,c2,u,e,h1,h2,h3,h4⟩:=h;exact⟨c1,c2,u,e,h1,mP h2,h3,q9 h4⟩
 |_ =>intro l h;exact h
theorem aeJ(hr:∀u,ρ r=some u->wz J (.sl t) xs u){tm:Array Value}{v:AV G}{u:Value}(h:rf J ρ tm v u):rf J ρ tm (sb r t xs v) u:=by
 have key:∀{v:AV G},rv J ρ v u->rf J ρ tm (sb r t xs v) u:=λ{v} hv=>by
  have h2:=I1 (xs:=xs) hr hv;revert h2;generalize sb r t xs v=y;intro h2;cases y with
  |gd j w v=>exact h2.elim
  |_ =>exact h2
 cases v with
 |gd j w v=>exact⟨λe=>I1 hr (h.1 e),h.2⟩
 |_ =>exact key h
theorem ahk(hr:∀u,ρ r=some u->wz J (.sl t) xs u){tm:Array Value}:∀{F:Fr G},pD J ρ F tm->pD J ρ (sbF r t xs F) tm:=by
 intro F;have key:∀{F:Fr G} {d:Nat} {v:AV G},cU (sbF r t xs F) d=some v->∃v0,cU F d=some v0/\v=sb r t xs v0:=by
  intro F
  induction F with
  |nil=>intro d v e;cases e
  |cons p q ih=>
   obtain⟨k,v0⟩:=p;intro d v e;simp only[sbF,cU]at e ⊢;cases hb:Nat.beq k d with
   |true=>rw[hb]at e;cases e;exact⟨_,rfl,rfl⟩
   |false=>rw[hb]at e;exact ih e
 intro h d v e;obtain⟨v0,h1,rfl⟩:=key e;obtain⟨u,h2,h3⟩:=h d v0 h1;exact⟨u,h2,aeJ hr h3⟩
theorem ahj(hr:∀u,ρ r=some u->wz J (.sl t) xs u){O:Os G}{H:List aE}(h:RO J ρ O H):RO J ρ (sbO r t xs O) H:=by
 induction h with
 |nil=>exact .nil
 |@cons k o x O H h _ ih=>
  refine .cons ?_ ih;cases o with
  |cH T c=>obtain⟨b,u,h1,h2,h3⟩:=h;exact⟨b,u,h1,h2,I1 hr h3⟩
  |row _ _ _ _ =>exact h
  |aux _ =>exact h
  |gm=>exact⟨h.1,h.2⟩
  |fm _ _ _ =>exact h
  |lp _ _ _ _ _ _ =>exact h
theorem ahl(hr:∀u,ρ r=some u->wz J (.sl t) xs u){l m:List (AV G)}{D:List Deferred}(h:DR J ρ (l++m) D):DR J ρ (sbD r t xs l++m) D:=by
 induction l generalizing D with
 |nil=>exact h
 |cons v q ih=>
  cases h with
  |cons h k=>
   refine .cons ?_ (ih k);unfold dr at h;split at h
   ·obtain⟨fs,cs,ls,k1,k2,k3,k4⟩:=h
    exact⟨fs,cs,ls,I1 hr k1,I1 hr k2,I1 hr k3,k4⟩
   ·exact h
   ·exact h.elim
end
theorem Rl.Og{c:Cx}{N:Nat}{HK X:List aE}{C:CC G}{S:AS G}{a:Act}{w:World}(r:Nat)(h:Rl c N ρ J HK X C S a w):∃(J':World->Prop) (Y:List aE),(∀w,J' w->J w)/\Rl c N ρ J' HK (Y++X) C (Og r S) a w:=by
 unfold Go.Rw.Og;split
 ·rename_i e sz t xs ho
  obtain⟨HS,q1,q3⟩:=h.hp;obtain⟨k,x,k1,⟨v,ws,m1,rfl,m3,m4,m5⟩,k3⟩:=q1.Zt ho;let x:aE:= .row v e sz xs.length ws;let J':World->Prop:=λw=>J w/\Hs [x] w;have mJ:∀w,J' w->J w:=λw h=>h.1;have hr:∀u,ρ r=some u->wz J' (.sl t) xs u:=λu hu=>by rw[m1]at hu;cases hu;have hc:v.cells.toList=[v]:=m3.cells;refine⟨⟨v,ws,hc,m3,cP.mono _ mJ m4,λw hw=>?_⟩,nofun,λ_ =>by rw[← hc]⟩;have:=Ro.uT (hw.2 x (by simp)).1;rw[m5];exact this
  have hle:=aY.le_refl ρ;have hxm:x∈HS:=List.mem_of_getElem? k1;have hxH:x∈HS++(HK++X):=aiT _ hxm;obtain⟨q,hq1,Mj,hq3⟩:=h.kn.one (q3.holds x hxH) λb hb=>(q3.own x hxH b hb).2;refine⟨J',[q],mJ,h.tm,ahl hr (h.df.up mJ hle),h.si,ahk hr (h.fs.up mJ hle),h.fc.up mJ hle,h.M1 mJ hle,⟨HS.eraseIdx k,ahj hr (k3.up mJ hle),?_⟩,hq3,h.fr⟩;have q4:=(q3.jL (oT k1 _)).set (k:=0) (r':=q) rfl (Nat.le_refl _) (λ_ _ _ =>rfl) hq1 h.si.s.size (λb hb=>by
   rw[Mj]at hb;exact⟨.inl hb,(q3.own x hxH b hb).2⟩)
  refine bC.jL q4 ?_;have e1:HK++([q]++X)=HK++(q::X):=rfl;rw[e1];refine List.Perm.trans ?_ (List.Perm.append_left _ (List.perm_middle (a:=q) (l₁:=HK) (l₂:=X)).symm);exact(List.perm_middle (a:=q) (l₁:=HS.eraseIdx k) (l₂:=HK++X)).symm
 ·exact⟨J,[],λ_ h=>h,h⟩
theorem Rl.yU{c:Cx}{N:Nat}{HK:List aE}{C:CC G}{a:Act}{w:World}:∀(l:List Nat) {J:World->Prop} {X:List aE} {S:AS G},Rl c N ρ J HK X C S a w->∃(J':World->Prop) (Y:List aE),(∀w,J' w->J w)/\Rl c N ρ J' HK (Y++X) C (yU l S) a w:=by
 intro l
 induction l with
 |nil=>intro J X S h;exact⟨J,[],λ_ h=>h,h⟩
 |cons r q ih=>intro J X S h;obtain⟨J1,Y1,m1,h1⟩:=h.Og r;obtain⟨J2,Y2,m2,h2⟩:=ih h1;exact⟨J2,Y2++Y1,λw h=>m1 w (m2 w h),by rw[List.append_assoc];exact h2⟩
theorem wJ:∀(l:List Nat) (S:AS G),(yU l S).nx=S.nx:=by
 intro l
 induction l with
 |nil=>intro S;rfl
 |cons r q ih=>intro S;show(yU q (Go.Rw.Og r S)).nx=_;rw[ih];unfold Go.Rw.Og;split<;>rfl
def BE(cN:Sh)(nm:List (Option Nat))(y:HL G (aM cN))(ρ:aY)(J:World->Prop)(H HK X:List aE)(w:World)(u:Value)(w':World):Prop:=∃(σ:aY) (J':World->Prop) (Y Sj:List aE) (us:List Value),(∀w,J' w->J w)/\rl J' σ (fA (λm=>m) cN y 0).1 (u::us)/\RO J' σ (fA (λm=>m) cN y 0).2.1 Sj/\ bC (bz H) w.heap.size (Sj++(HK++(Y++X))) w'/\aO (bz H) w w'/\Se G (Y++X) J'/\(∀i j:Nat,nm[i]? =some (some j)->σ i=ρ j)/\σ.fr nm.length
structure Fs where
 k:Nat
 LQ:List (Nat×Sh)
 uU:Sh
 cN:Sh
 nm:List (Option Nat)
 g9:Sh
 T7:List (Option Nat)
 bi:List (List Nat)
def Pa:List (Nat×Sh)->Sh
 |[]=> .nil
 |(T,s)::r=> .cons (.box T s) (Pa r)
abbrev HI(G:Sg)(s:Fs):=HL G (aM (Pa s.LQ)++aM s.uU)
def Fs.rx(s:Fs)(x:HI G s):HL G (aM (Pa s.LQ)):=HL.fst x
def Fs.ix(s:Fs)(x:HI G s):HL G (aM s.uU):=HL.snd (a:=aM (Pa s.LQ)) x
def Fs.ro(s:Fs)(x:HI G s):Os G:=(fA (λm=>m) (Pa s.LQ) (s.rx x) 0).2.1
def Fs.bl(s:Fs)(x:HI G s):AV G×Os G×Nat:=fA (λm=>m) s.uU (s.ix x) (fA (λm=>m) (Pa s.LQ) (s.rx x) 0).2.2
def So(P:Program)(s:Fs)(R:HI G s->HL G (aM s.cN)->Prop)(Rp:HI G s->HL G (aM s.g9)->Prop):Prop:=∀(ρ:aY) (J:World->Prop) (HS HK X:List aE) (w:World) (vs:List Value) (x:HI G s),rl J ρ (s.bl x).1 vs->RO J ρ (s.bl x).2.1 HS->(∀r o,cU (s.ro x) r=some o->∃y∈HK,ro J ρ r o y)-> bC (bz (HS++(HK++X))) w.heap.size (HS++(HK++X)) w->Se G X J->ρ.fr (s.bl x).2.2-> (∀y,R x y->Calls P s.k vs.toArray w λen w'=>∃u,en= .returned u/\BE s.cN s.nm y ρ J (HS++(HK++X)) HK X w u w')/\ (∀y,Rp x y->Calls P s.k vs.toArray w λen w'=>∃u,en= .panicked [{v:=u,recovered:=false}]/\BE s.g9 s.T7 y ρ J (HS++(HK++X)) HK X w u w')
structure Ct(P:Program)(G:Sg) where
 s:Fs
 R:HI G s->HL G (aM s.cN)->Prop
 Rp:HI G s->HL G (aM s.g9)->Prop
 cp:{Z:Type}->HI G s->(HL G (aM s.cN)->Option Z)->(HL G (aM s.g9)->Option Z)->Option Z
 cg:{Z:Type}->Bool->HI G s->(HL G (aM s.cN)->Option Z)->Option Z
 cps:∀{Z:Type} (x:HI G s) (ko:HL G (aM s.cN)->Option Z) (kp:HL G (aM s.g9)->Option Z) (z:Z),cp x ko kp=some z->(∃y,R x y/\ko y=some z)\/(∃y,Rp x y/\kp y=some z)
 cgs:∀{Z:Type} (g:Bool) (x:HI G s) (k:HL G (aM s.cN)->Option Z) (z:Z),cg g x k=some z->∃y,(g=true->R x y)/\k y=some z
 fn:∃f,P.funcs[s.k]? =some f/\f.body.isSome=true/\(f.name== "runtime.NumGoroutine")=false
 ok:So P s R Rp
def FD(b:Bool):Sh->Bool
 | .row _ _ _ =>false
 | .box _ _ =>false
 | .bU _ =>b
 | .fn _ a c=>FD b a&&FD b c
 | .jy a=>FD b a
 | .st a=>FD b a
 | .jS _ a=>FD b a
 | .cons a c=>FD b a&&FD b c
 | .part _ a c=>FD b a&&FD b c
 |_ =>true
theorem Zf{bb:Bool}:∀{s:Sh} {v:AV G} {g g':GS G} {x:HL G (aM s)},FD bb s=true->nt s v g=some (x,g')->g'=g:=by
 intro s
 induction s with
 |v t=>intro v g g' x _ h;obtain⟨y,_,_,e⟩:=U8 h;exact e
 |unk n=>intro v g g' x _ h;exact(KW h).1
 |row e sz t=>intro v g g' x hn;cases hn
 |box T s _ =>intro v g g' x hn;cases hn
 |bU i=>
  intro v g g' x _ h;cases v<;>unfold nt at h<;>(try dsimp only at h)<;>try (cases h;done)
  case ptr r p=>
   cases p with
   |cons _ _ =>simp at h
   |nil=>
    simp only at h;split at h
    ·rename_i r' ht
     cases hb:Nat.beq r r' with
     |false=>rw[hb]at h;cases h
     |true=>rw[hb]at h;exact(bL h).2.symm
    ·cases h
 |fn f a c mP Cr=>
  intro v g g' x hn h;simp only[FD,aiP]at hn;cases v<;>unfold nt at h<;>(try dsimp only at h)<;>try (cases h;done)
  case fn f' y z=>
   cases hb:yW f f' with
   |false=>rw[hb]at h;cases h
   |true=>
    rw[hb]at h;simp only[cond_true]at h;split at h
    ·rename_i p g1 h1
     split at h
     ·rename_i q g2 h2
      obtain⟨_,rfl⟩:=bL h;rw[Cr hn.2 h2,mP hn.1 h1]
     ·cases h
    ·cases h
 |cons a b mP q9=>
  intro v g g' x hn h;simp only[FD,aiP]at hn;cases v<;>unfold nt at h<;>(try dsimp only at h)<;>try (cases h;done)
  case cons y z=>
   split at h
   ·rename_i p g1 h1
    split at h
    ·rename_i q g2 h2
     obtain⟨_,rfl⟩:=bL h;rw[q9 hn.2 h2,mP hn.1 h1]
    ·cases h
   ·cases h
 |part w a b mP q9=>
  intro v g g' x hn h;simp only[FD,aiP]at hn;cases v<;>unfold nt at h<;>(try dsimp only at h)<;>try (cases h;done)
  case part w' y z=>
   cases hb:Nat.beq w w' with
   |false=>rw[hb]at h;cases h
   |true=>
    rw[hb]at h;simp only[cond_true]at h;split at h
    ·rename_i p g1 h1
     split at h
     ·rename_i q g2 h2
      obtain⟨_,rfl⟩:=bL h;rw[q9 hn.2 h2,mP hn.1 h1]
     ·cases h
    ·cases h
 |jy a ih=>
  intro v g g' x hn h;cases v<;>unfold nt at h<;>(try dsimp only at h)<;>try (cases h;done)
  exact ih hn h
 |st a ih=>
  intro v g g' x hn h;cases v<;>unfold nt at h<;>(try dsimp only at h)<;>try (cases h;done)
  exact ih hn h
 |jS t a ih=>
  intro v g g' x hn h;cases v<;>unfold nt at h<;>(try dsimp only at h)<;>try (cases h;done)
  case jS t' y=>
   cases hb:Nat.beq t t' with
   |false=>rw[hb]at h;cases h
   |true=>rw[hb]at h;exact ih hn h
 |_ =>
  intro v g g' x hn h;cases v<;>unfold nt at h<;>(try dsimp only at h)<;>try (cases h;done)
  exact(bL h).2.symm
theorem ZG{f:Nat->Nat}:∀{s:Sh},FD false s=true->∀(x:HL G (aM s)) (m:Nat),(fA f s x m).1=(fA (λm=>m) s x m).1/\(fA f s x m).2.1=[]:=by
 intro s
 induction s with
 |v t=>intro _ x m;exact⟨rfl,rfl⟩
 |row e sz t=>intro h;cases h
 |box T s _ =>intro h;cases h
 |bU i=>intro h;cases h
 |fn k a c mP Cr=>intro h x m;simp only[FD,aiP]at h;obtain⟨a1,a2⟩:=mP h.1 (HL.fst x) m;have e3:=(CK (G:=G) (f:=f) (s:=a) (x:=HL.fst x) (m:=m)).2.2;obtain⟨b1,b2⟩:=Cr h.2 (HL.snd x) (fA (λm=>m) a (HL.fst x) m).2.2;simp only[fA,e3,a1,a2,b1,b2,List.append_nil];exact⟨trivial,trivial⟩
 |cons a c mP Cr=>intro h x m;simp only[FD,aiP]at h;obtain⟨a1,a2⟩:=mP h.1 (HL.fst x) m;have e3:=(CK (G:=G) (f:=f) (s:=a) (x:=HL.fst x) (m:=m)).2.2;obtain⟨b1,b2⟩:=Cr h.2 (HL.snd x) (fA (λm=>m) a (HL.fst x) m).2.2;simp only[fA,e3,a1,a2,b1,b2,List.append_nil];exact⟨trivial,trivial⟩
 |part w a c mP Cr=>intro h x m;simp only[FD,aiP]at h;obtain⟨a1,a2⟩:=mP h.1 (HL.fst x) m;have e3:=(CK (G:=G) (f:=f) (s:=a) (x:=HL.fst x) (m:=m)).2.2;obtain⟨b1,b2⟩:=Cr h.2 (HL.snd x) (fA (λm=>m) a (HL.fst x) m).2.2;simp only[fA,e3,a1,a2,b1,b2,List.append_nil];exact⟨trivial,trivial⟩
 |jy a ih=>intro h x m;obtain⟨a1,a2⟩:=ih h x m;simp only[fA,a1,a2];exact⟨trivial,trivial⟩
 |st a ih=>intro h x m;obtain⟨a1,a2⟩:=ih h x m;simp only[fA,a1,a2];exact⟨trivial,trivial⟩
 |jS t a ih=>intro h x m;obtain⟨a1,a2⟩:=ih h x m;simp only[fA,a1,a2];exact⟨trivial,trivial⟩
 |_ =>intro _ x m;exact⟨rfl,rfl⟩
def ox(ob:Os G):(s:Sh)->AV G->List Nat->Option (HL G (aM s)×List Nat)
 | .v t,v,th=>match A7 t v with
  |some x=>some ((x,()),th)
  |none=>none
 | .row e sz t,v,th=>match v with
  | .row r=>match cU ob r with
   |some (.row e' sz' t' xs)=>bif Nat.beq e e'&&Nat.beq sz sz' then(if h:t'.bU t=true then some ((Ty.uP h▸xs,()),th++[r])else none)else none
   |_ =>none
  |_ =>none
 | .box T s,v,th=>match v with
  | .ptr r []=>match cU ob r with
   |some (.cH T' c)=>bif Nat.beq T T' then ox ob s c (th++[r])else none
   |_ =>none
  |_ =>none
 | .bU i,v,th=>match v with
  | .ptr r []=>match th[i]? with
   |some r'=>bif Nat.beq r r' then some ((),th)else none
   |none=>none
  |_ =>none
 | .unk _,_,_ =>none
 | .ou,v,th=>match v with
  | .ou=>some ((),th)
  |_ =>none
 | .jD,v,th=>match v with
  | .jD=>some ((),th)
  |_ =>none
 | .Ck,v,th=>match v with
  | .Ck=>some ((),th)
  |_ =>none
 | .ow,v,th=>match v with
  | .ow=>some ((),th)
  |_ =>none
 | .EX,v,th=>match v with
  | .EX=>some ((),th)
  |_ =>none
 | .fn f a c,v,th=>match v with
  | .fn f' x y=>bif yW f f' then(match ox ob a x th with
   |some (p,g')=>match ox ob c y g' with
    |some (q,Vc)=>some (HL.app p q,Vc)
    |none=>none
   |none=>none)else none
  |_ =>none
 | .jy a,v,th=>match v with
  | .jy x=>ox ob a x th
  |_ =>none
 | .st a,v,th=>match v with
  | .st x=>ox ob a x th
  |_ =>none
 | .jS t a,v,th=>match v with
  | .jS t' x=>bif Nat.beq t t' then ox ob a x th else none
  |_ =>none
 | .nil,v,th=>match v with
  | .nil=>some ((),th)
  |_ =>none
 | .cons a b,v,th=>match v with
  | .cons x y=>match ox ob a x th with
   |some (p,g')=>match ox ob b y g' with
    |some (q,Vc)=>some (HL.app p q,Vc)
    |none=>none
   |none=>none
  |_ =>none
 | .part w a b,v,th=>match v with
  | .part w' x y=>bif Nat.beq w w' then(match ox ob a x th with
   |some (p,g')=>match ox ob b y g' with
    |some (q,Vc)=>some (HL.app p q,Vc)
    |none=>none
   |none=>none)else none
  |_ =>none
structure adT(J:World->Prop)(ρ:aY)(H:List aE)(s:Sh)(l:List Value)(th yA:List Nat)(x:HL G (aM s)):Prop where
 pre:∃q,yA=th++q
 y6:(fA (λm=>m) s x th.length).2.2=yA.length
 val:rl J (cmp ρ yA) (fA (λm=>m) s x th.length).1 l
 cH:∀r o,cU (fA (λm=>m) s x th.length).2.1 r=some o->∃y∈H,ro J (cmp ρ yA) r o y
theorem G5{H:List aE}{a b:Sh}{th th1 th2:List Nat}{p:HL G (aM a)}{q:HL G (aM b)}{l1 l2:List Value}(h1:adT J ρ H a l1 th th1 p)(h2:adT J ρ H b l2 th1 th2 q):
  (∃r,th2=th++r)/\(fA (λm=>m) b q (fA (λm=>m) a p th.length).2.2).2.2=th2.length/\rl J (cmp ρ th2) (fA (λm=>m) a p th.length).1 l1/\rl J (cmp ρ th2) (fA (λm=>m) b q (fA (λm=>m) a p th.length).2.2).1 l2/\
   ∀r o,cU ((fA (λm=>m) a p th.length).2.1++(fA (λm=>m) b q (fA (λm=>m) a p th.length).2.2).2.1) r=some o->∃y∈H,ro J (cmp ρ th2) r o y:=by
 have hle:=Ov (aY.le_refl ρ) h2.pre;rw[h1.y6];refine⟨?_,h2.y6,h1.val.ext hle,h2.val,λr o e=>?_⟩
 ·obtain⟨r1,e1⟩:=h1.pre
  obtain⟨r2,e2⟩:=h2.pre;exact⟨r1++r2,by rw[e2,e1,List.append_assoc]⟩
 ·rw[kz]at e
  split at e
  ·rename_i o' he
   cases e;obtain⟨y,y1,y2⟩:=h1.cH _ _ he;exact⟨y,y1,y2.up (λ_ h=>h) hle⟩
  ·exact h2.cH _ _ e
theorem Zg{H:List aE}{ob:Os G}(hO:∀r o,cU ob r=some o->∃y∈H,ro J ρ r o y):∀{s:Sh} {v:AV G} {l:List Value} {th yA:List Nat} {x:HL G (aM s)},ox ob s v th=some (x,yA)->rl J ρ v l->adT J ρ H s l th yA x:=by
 intro s
 induction s with
 |v t=>
  intro v l th yA x h hv;unfold ox at h;cases hy:A7 t v with
  |none=>rw[hy]at h;cases h
  |some y=>rw[hy]at h;obtain⟨rfl,rfl⟩:=bL h;obtain⟨u,rfl⟩:=SW hy hv;refine⟨⟨[],by simp⟩,rfl,?_,λr o e=>by cases e⟩;exact I4 (zH hy hv)
 |row e sz t=>
  intro v l th yA x h hv;cases v<;>unfold ox at h<;>(try dsimp only at h)<;>try (cases h;done)
  case row r=>
   split at h
   ·rename_i e' sz' t' xs ho
    cases hb:(Nat.beq e e'&&Nat.beq sz sz')with
    |false=>rw[hb]at h;cases h
    |true=>
     rw[hb]at h;simp only[cond_true]at h;by_cases hs:t'.bU t=true
     ·rw[dif_pos hs]at h
      obtain⟨e1,rfl⟩:=bL h;simp only[aiP]at hb;obtain rfl:=aiO hb.1;obtain rfl:=aiO hb.2;have:=Ty.uP hs;subst this;subst e1;obtain⟨y,y1,vv,ws,e1,e2,e3,e4,e5⟩:=hO _ _ ho;refine⟨⟨[r],rfl⟩,by simp[fA],?_,λr' o' he=>?_⟩
      ·obtain⟨a0,n,cap,q1,q2⟩:=hv
       exact⟨a0,n,cap,zP.trans q1,q2⟩
      ·simp only[fA,cU]at he
       cases Ic:Nat.beq th.length r' with
       |false=>rw[Ic]at he;cases he
       |true=>rw[Ic]at he;cases he;obtain rfl:=aiO Ic;exact⟨y,y1,vv,ws,zP.trans e1,e2,e3,e4,e5⟩
     ·rw[dif_neg hs]at h;cases h
   ·cases h
 |box T s ih=>
  intro v l th yA x h hv;cases v<;>unfold ox at h<;>(try dsimp only at h)<;>try (cases h;done)
  case ptr r p=>
   cases p with
   |cons _ _ =>simp at h
   |nil=>
    simp only at h;split at h
    ·rename_i T' cc ho
     cases hb:Nat.beq T T' with
     |false=>rw[hb]at h;cases h
     |true=>
      rw[hb]at h;obtain rfl:=aiO hb;obtain⟨y,y1,b,u,m1,rfl,m3⟩:=hO _ _ ho;have i1:=ih h m3;have hth:yA[th.length]? =some r:=by obtain⟨q,e⟩:=i1.pre;rw[e];simp
      have Od:cmp ρ yA th.length=some (dB b 0):=by unfold cmp;rw[hth];exact m1
      have e1:(th++[r]).length=th.length+1:=by simp
      have i2:=i1.y6;have i3:=i1.val;have i4:=i1.cH;rw[e1]at i2 i3 i4;refine⟨?_,i2,?_,λr' o' he=>?_⟩
      ·obtain⟨q,e⟩:=i1.pre
       exact⟨r::q,by rw[e];simp⟩
      ·obtain⟨⟨b',o',q1,q2⟩,_⟩:=hv
       refine⟨⟨b,0, .inl Od,?_⟩,by simp⟩;rcases q1 with q1|⟨_,_,_,_,_,_,_,q1,_⟩
       ·rw[q1]at m1
        simp[dB]at m1;rw[q2,m1.1,m1.2]
       ·cases q1
      ·have he:cU ((th.length,Ob.cH T (fA (λm=>m) s x (th.length+1)).1)::(fA (λm=>m) s x (th.length+1)).2.1) r'=some o':=he
       simp only[cU]at he;cases Ic:Nat.beq th.length r' with
       |false=>rw[Ic]at he;exact i4 _ _ he
       |true=>rw[Ic]at he;cases he;obtain rfl:=aiO Ic;exact⟨_,y1,b,u,Od,rfl,i3⟩
    ·cases h
 |unk n=>intro v l th yA x h hv;unfold ox at h;cases h
 |bU i=>
  intro v l th yA x h hv;cases v<;>unfold ox at h<;>(try dsimp only at h)<;>try (cases h;done)
  case ptr r p=>
   cases p with
   |cons _ _ =>simp at h
   |nil=>
    simp only at h;split at h
    ·rename_i r' ht
     cases hb:Nat.beq r r' with
     |false=>rw[hb]at h;cases h
     |true=>
      rw[hb]at h;obtain⟨rfl,rfl⟩:=bL h;obtain rfl:=aiO hb;refine⟨⟨[],by simp⟩,rfl,?_,λr o e=>by cases e⟩;obtain⟨⟨b',o',q1,q2⟩,q3⟩:=hv;refine⟨⟨b',o',?_,q2⟩,q3⟩;rcases q1 with q1|⟨_,_,_,_,_,_,_,q1,_⟩
      ·refine .inl ?_
       unfold cmp;rw[ht];exact q1
      ·cases q1
    ·cases h
 |fn f a c mP Cr=>
  intro v l th yA x h hv;cases v<;>unfold ox at h<;>(try dsimp only at h)<;>try (cases h;done)
  case fn f' y z=>
   cases hb:yW f f' with
   |false=>rw[hb]at h;cases h
   |true=>
    rw[hb]at h;simp only[cond_true]at h;obtain rfl:=Mq hb;split at h
    ·rename_i p g1 h1
     split at h
     ·rename_i q g2 h2
      obtain⟨rfl,rfl⟩:=bL h;obtain⟨fs,cs,e,r1,r2⟩:=hv;obtain⟨k1,k2,k3,k4,k5⟩:=G5 (b:=c) (q:=q) (mP h1 r1) (Cr h2 r2);refine⟨k1,?_,?_,?_⟩<;>simp only[fA,HL.wI,HL.wu]
      ·exact k2
      ·exact⟨fs,cs,e,k3,k4⟩
      ·exact k5
     ·cases h
    ·cases h
 |cons a b mP q9=>
  intro v l th yA x h hv;cases v<;>unfold ox at h<;>(try dsimp only at h)<;>try (cases h;done)
  case cons y z=>
   split at h
   ·rename_i p g1 h1
    split at h
    ·rename_i q g2 h2
     obtain⟨rfl,rfl⟩:=bL h;obtain⟨u,r,e,r1,r2⟩:=hv;obtain⟨k1,k2,k3,k4,k5⟩:=G5 (b:=b) (q:=q) (mP h1 r1) (q9 h2 r2);refine⟨k1,?_,?_,?_⟩<;>simp only[fA,HL.wI,HL.wu]
     ·exact k2
     ·exact⟨u,r,e,k3,k4⟩
     ·exact k5
    ·cases h
   ·cases h
 |part w a b mP q9=>
  intro v l th yA x h hv;cases v<;>unfold ox at h<;>(try dsimp only at h)<;>try (cases h;done)
  case part w' y z=>
   cases hb:Nat.beq w w' with
   |false=>rw[hb]at h;cases h
   |true=>
    rw[hb]at h;simp only[cond_true]at h;obtain rfl:=aiO hb;split at h
    ·rename_i p g1 h1
     split at h
     ·rename_i q g2 h2
      obtain⟨rfl,rfl⟩:=bL h;obtain⟨c1,c2,u,e,r0,r1,r3,r2⟩:=hv;obtain⟨k1,k2,k3,k4,k5⟩:=G5 (b:=b) (q:=q) (mP h1 r1) (q9 h2 r2);refine⟨k1,?_,?_,?_⟩<;>simp only[fA,HL.wI,HL.wu]
      ·exact k2
      ·exact⟨c1,c2,u,e,r0,k3,r3,k4⟩
      ·exact k5
     ·cases h
    ·cases h
 |jy a ih=>
  intro v l th yA x h hv;cases v<;>unfold ox at h<;>(try dsimp only at h)<;>try (cases h;done)
  obtain⟨vs,e,r1⟩:=hv;have k:=ih h r1;exact⟨k.pre,k.y6,⟨vs,e,k.val⟩,k.cH⟩
 |st a ih=>
  intro v l th yA x h hv;cases v<;>unfold ox at h<;>(try dsimp only at h)<;>try (cases h;done)
  obtain⟨cs,e,r1,r2⟩:=hv;have k:=ih h r1;exact⟨k.pre,k.y6,⟨cs,e,k.val,r2⟩,k.cH⟩
 |jS t a ih=>
  intro v l th yA x h hv;cases v<;>unfold ox at h<;>(try dsimp only at h)<;>try (cases h;done)
  case jS t' y=>
   cases hb:Nat.beq t t' with
   |false=>rw[hb]at h;cases h
   |true=>rw[hb]at h;obtain rfl:=aiO hb;obtain⟨u,e,r1⟩:=hv;have k:=ih h r1;exact⟨k.pre,k.y6,⟨u,e,k.val⟩,k.cH⟩
 |_ =>
  intro v l th yA x h hv;cases v<;>unfold ox at h<;>(try dsimp only at h)<;>try (cases h;done)
  obtain⟨rfl,rfl⟩:=bL h;exact⟨⟨[],by simp⟩,rfl,hv,λr o e=>by cases e⟩
def G8(O:Os G)(i:Nat):Sh->AV G->Option Nat
 | .bU j, .ptr r []=>bif Nat.beq i j then some r else none
 | .box _ s, .ptr r []=>match cU O r with
  |some (.cH _ c)=>G8 O i s c
  |_ =>none
 | .fn _ a c, .fn _ x y=>match G8 O i a x with
  |some r=>some r
  |none=>G8 O i c y
 | .jy a, .jy x=>G8 O i a x
 | .st a, .st x=>G8 O i a x
 | .jS _ a, .jS _ x=>G8 O i a x
 | .cons a c, .cons x y=>match G8 O i a x with
  |some r=>some r
  |none=>G8 O i c y
 | .part _ a c, .part _ x y=>match G8 O i a x with
  |some r=>some r
  |none=>G8 O i c y
 |_,_ =>none
def CG:Sh->Nat
 | .row _ _ _ =>1
 | .box _ s=>CG s+1
 | .fn _ a c=>CG a+CG c
 | .jy a=>CG a
 | .st a=>CG a
 | .jS _ a=>CG a
 | .cons a b=>CG a+CG b
 | .part _ a b=>CG a+CG b
 |_ =>0
def Oh(O:Os G):List (Nat×Sh)->Nat->Sh->AV G->Option (AV G)
 |[],_,_,_ =>some .nil
 |(T,s)::r,i,sh,v=>match G8 O i sh v with
  |some q=>match Oh O r (i+CG s+1) (.cons (.box T s) sh) (.cons (.ptr q []) v)with
   |some l=>some (.cons (.ptr q []) l)
   |none=>none
  |none=>none
def I3:List Nat->List Nat->Bool
 |[],[]=>true
 |a::r,b::q=>Nat.beq a b&&I3 r q
 |_,_ =>false
theorem XU:∀{l m:List Nat},I3 l m=true->l=m:=by
 intro l
 induction l with
 |nil=>intro m h;cases m with
  |nil=>rfl
  |cons _ _ =>cases h
 |cons a r ih=>intro m h;cases m with
  |nil=>cases h
  |cons b q=>simp only[I3,aiP]at h;rw[aiO h.1,ih h.2]
def Gm:AV G->Bool
 | .cons (.ptr _ []) r=>Gm r
 | .nil=>true
 |_ =>false
def DM(C:CC G)(O:Os G)(nx:Nat)(s:Fs)(aiL:AV G):Option (HI G s×GS G):=match Oh (O++lH C) s.LQ 0 s.uU aiL with
 |some pv=>match ox (O++lH C) (Pa s.LQ) pv []with
  |some (_,th)=>match nt s.uU aiL ⟨th,O,nx⟩with
   |some (x,g')=>match ox (g'.O++lH C) (Pa s.LQ) pv []with
    |some (y,yA)=>bif I3 th yA then some (HL.app y x,g')else none
    |none=>none
   |none=>none
  |none=>none
 |none=>none
def agj(C:CC G)(O:Os G)(s:Fs)(aiL:AV G):List Nat:=match Oh (O++lH C) s.LQ 0 s.uU aiL with
 |some pv=>wP O s.uU aiL++wP O (Pa s.LQ) pv
 |none=>wP O s.uU aiL
theorem Yd{H:List aE}{ob:Os G}(hO:∀r o,cU ob r=some o->∃y∈H,ro J ρ r o y):∀{l:List (Nat×Sh)} {v:AV G} {th yA:List Nat} {x:HL G (aM (Pa l))},Gm v=true->ox ob (Pa l) v th=some (x,yA)->∃us,rl J ρ v us:=by
 intro l
 induction l with
 |nil=>
  intro v th yA x hp h;cases v<;>unfold ox at h<;>(try dsimp only[Pa]at h)<;>try (cases h;done)
  exact⟨[],rfl⟩
 |cons p r ih=>
  obtain⟨T,s⟩:=p;intro v th yA x hp h;change ox ob (.cons (.box T s) (Pa r)) v th=some (x,yA)at h;cases v<;>unfold ox at h<;>(try dsimp only at h)<;>try (cases h;done)
  case cons a b=>
   split at h
   ·rename_i p g1 h1
    split at h
    ·rename_i q g2 h2
     cases a<;>(try (simp[Gm]at hp;done))
     case ptr q0 pp=>
      cases pp with
      |cons _ _ =>simp[Gm]at hp
      |nil=>
       obtain⟨us,hus⟩:=ih (by simpa[Gm]using hp) h2;unfold ox at h1;dsimp only at h1;split at h1
       ·rename_i T' c ho
        obtain⟨y,y1,b0,u,m1,_⟩:=hO _ _ ho;exact⟨dB b0 0::us,_,_,rfl,⟨⟨b0,0, .inl m1,rfl⟩,by simp⟩,hus⟩
       ·cases h1
    ·cases h
   ·cases h
theorem acG{O:Os G}:∀{l:List (Nat×Sh)} {i:Nat} {sh:Sh} {v pv:AV G},Oh O l i sh v=some pv->Gm pv=true:=by
 intro l
 induction l with
 |nil=>intro i sh v pv h;cases h;rfl
 |cons p r ih=>
  obtain⟨T,s⟩:=p;intro i sh v pv h;simp only[Oh]at h;split at h
  ·split at h
   ·rename_i l hl;cases h;show Gm l=true;exact ih hl
   ·cases h
  ·cases h
theorem Zh{c:Cx}{N:Nat}{HK X:List aE}{C:CC G}{S:AS G}{a:Act}{w:World}{s:Fs}{aiL:AV G}{vs:List Value}{x:HI G s}{g':GS G}(hr:Rl c N ρ J HK X C S a w)(hv:rl J ρ aiL vs)(h:DM C S.O S.nx s aiL=some (x,g')):
  ∃(th:List Nat) (ρ2:aY) (HS HB H':List aE),th.length=(fA (λm=>m) (Pa s.LQ) (s.rx x) 0).2.2/\bC c.bs c.w0.heap.size (HS++(HK++X)) w/\Gat J ρ s.uU vs HS ⟨th,S.O,S.nx⟩ g' (s.ix x) ρ2 HB H'/\nt s.uU aiL ⟨th,S.O,S.nx⟩=some (s.ix x,g')/\∀r o,cU (s.ro x) r=some o->∃y∈H'++HK,ro J (cmp ρ2 g'.th) r o y:=by
 unfold DM at h;split at h
 ·rename_i pv hpv
  split at h
  ·rename_i y0 th hg0
   split at h
   ·rename_i xi g1 hg
    split at h
    ·rename_i y yA hg2
     cases hb:I3 th yA with
     |false=>rw[hb]at h;cases h
     |true=>
      rw[hb]at h;obtain⟨e1,rfl⟩:=bL h;subst e1;obtain rfl:=XU hb;obtain⟨HS,q1,q3⟩:=hr.hp;obtain⟨ρ2,HB,H',k⟩:=G4 hg hv q1 hr.fr;have hle:=k.to.le hr.fr;have hO:∀q o,cU (g1.O++lH C) q=some o->∃z∈H'++HK,ro J ρ2 q o z:=λq o e=>by
       rw[kz]at e;split at e
       ·rename_i o' he
        cases e;obtain⟨z,z1,z2⟩:=k.left.lk he;exact⟨z,aiT _ z1,z2⟩
       ·obtain⟨z,z1,z2⟩:=hr.kc q o e
        exact⟨z,aiS _ z1,z2.up (λ_ h=>h) hle⟩
      obtain⟨us,i2⟩:=Yd hO (acG hpv) hg2;have k3:=Zg hO hg2 i2;have exi:s.ix (HL.app y xi)=xi:=HL.wu y xi;have exr:s.rx (HL.app y xi)=y:=HL.wI y xi;have k4:=k3.y6;have k5:=k3.cH;simp only[List.length_nil]at k4 k5;refine⟨th,ρ2,HS,HB,H',by rw[exr,k4],q3,by rw[exi];exact k,by rw[exi];exact hg,λr o e=>?_⟩;unfold Fs.ro at e;rw[exr]at e;obtain⟨z,z1,z2⟩:=k5 r o e;exact⟨z,z1,z2.up (λ_ h=>h) (Ov (aY.le_refl _) k.pre)⟩
    ·cases h
   ·cases h
  ·cases h
 ·cases h
def Lo:Sh->AV G->Nat->AV G×Os G×Nat
 | .row e sz t, .jD,nx=>bif Nat.beq (t.L G).n sz then(.row nx,[(nx, .row e sz t [])],nx+1)else(.jD,[],nx)
 | .st a, .st x,nx=>match Lo a x nx with
  |(x',O,m)=>(.st x',O,m)
 | .part _ a b, .part w x y,nx=>match Lo a x nx with
  |(x',O,m)=>match Lo b y m with
   |(y',O',m')=>(.part w x' y',O++O',m')
 |_,v,nx=>(v,[],nx)
def U2:Sh->AV G->Bool
 | .row _ sz t, .jD=>Nat.beq (t.L G).n sz
 | .st a, .st x=>U2 a x
 | .part _ a b, .part _ x y=>U2 a x||U2 b y
 |_,_ =>false
def Nw(q:Nat)(s:Sh)(S:AS G):AS G:=match cU S.O q with
 |some (.cH T c)=>match Lo s c S.nx with
  |(c',O',m)=>{S with O:=O'++pF S.O q (.cH T c'),nx:=m}
 |_ =>S
def B9:List (Nat×Sh)->AS G->AS G
 |[],S=>S
 |(q,s)::r,S=>B9 r (Nw q s S)
def Yq(O:Os G):List (Nat×Sh)->AV G->List (Nat×Sh)
 |(_,s)::r, .cons (.ptr q []) l=>match cU O q with
  |some (.cH _ c)=>bif U2 s c then(q,s)::Yq O r l else Yq O r l
  |_ =>Yq O r l
 |_,_ =>[]
def ae0(C:CC G)(O:Os G)(s:Fs)(aiL:AV G):List (Nat×Sh):=match s.LQ with
 |[]=>[]
 |LQ=>match Oh (O++lH C) LQ 0 s.uU aiL with
  |some pv=>Yq O LQ pv
  |none=>[]
theorem XG{α β γ:Type}{a a':α}{b b':β}{c c':γ}(h:(a,b,c)=(a',b',c')):a=a'/\b=b'/\c=c':=⟨congrArg (·.1) h,congrArg (·.2.1) h,congrArg (·.2.2) h⟩
theorem abw:∀{s:Sh} {v v':AV G} {nx R6:Nat} {O:Os G} {l:List Value} {ρ:aY},Lo s v nx=(v',O,R6)->rl J ρ v l->ρ.fr nx->
  ∃(ρ':aY) (HN:List aE),ρ.to ρ' nx/\ρ'.fr R6/\nx<=R6/\rl J ρ' v' l/\RO J ρ' O HN/\∀R,pH R (HN++R):=by
 have keep:∀{v v':AV G} {nx R6:Nat} {O:Os G} {l:List Value} {ρ:aY},(v,([]:Os G),nx)=(v',O,R6)->rl J ρ v l->ρ.fr nx->∃(ρ':aY) (HN:List aE),ρ.to ρ' nx/\ρ'.fr R6/\nx<=R6/\rl J ρ' v' l/\RO J ρ' O HN/\∀R,pH R (HN++R):=by intro v v' nx R6 O l ρ h hv hf;obtain⟨e1,e2,e3⟩:=XG h;subst e1 e2 e3;exact⟨ρ,[],aY.dM _ _,hf,Nat.le_refl _,hv, .nil,λR=>pH.refl _⟩
 intro s
 induction s with
 |row e sz t=>
  intro v v' nx R6 O l ρ h hv hf;cases v<;>unfold Lo at h<;>(try exact keep h hv hf);cases hb:Nat.beq (t.L G).n sz with
  |false=>rw[hb]at h;exact keep h hv hf
  |true=>
   rw[hb]at h;obtain⟨e1,e2,e3⟩:=XG h;subst e1 e2 e3;have hv:l=[.slice none 0 0]:=hv;exact⟨ρ.set nx (.slice none 0 0),[.row (.slice none 0 0) e sz 0 []],aY.kg _ _ _,aY.wv hf _,Nat.le_succ _,⟨none,0,0,aY.gO _ _ _,hv⟩,
    .cons ⟨.slice none 0 0,[],aY.gO _ _ _,rfl,⟨_,_,rfl⟩,⟨λ_ =>[],rfl,λi hi=>absurd hi (Nat.not_lt_zero _)⟩,aiO hb⟩ .nil,λR bs n0 w hp=>zO hp⟩
 |st a ih=>
  intro v v' nx R6 O l ρ h hv hf;cases v<;>unfold Lo at h<;>(try exact keep h hv hf)
  case st x=>obtain⟨cs,e,h1,h2⟩:=hv;revert h;generalize hq:Lo a x nx=q;obtain⟨x',O1,m⟩:=q;intro h;obtain⟨e1,e2,e3⟩:=XG h;subst e1 e2 e3;obtain⟨ρ',HN,k1,k2,k3,k4,k5,k6⟩:=ih hq h1 hf;exact⟨ρ',HN,k1,k2,k3,⟨cs,e,k4,h2⟩,k5,k6⟩
 |part w a b mP q9=>
  intro v v' nx R6 O l ρ h hv hf;cases v<;>unfold Lo at h<;>(try exact keep h hv hf)
  case part w' x y=>obtain⟨c1,c2,u,e,r0,r1,r3,r2⟩:=hv;revert h;generalize hq:Lo a x nx=q;obtain⟨x',O1,m⟩:=q;dsimp only;generalize Mj:Lo b y m=q2;obtain⟨y',O2,m2⟩:=q2;intro h;obtain⟨e1,e2,e3⟩:=XG h;subst e1 e2 e3;obtain⟨ρ1,H1,k1,k2,k3,k4,k5,k6⟩:=mP hq r1 hf;obtain⟨ρ2,H2,m1,m2,m3,m4,m5,m6⟩:=q9 Mj (r2.ext (k1.le hf)) k2;have hle:=m1.le k2;refine⟨ρ2,H1++H2,k1.trans m1 k3,m2,Nat.le_trans k3 m3,⟨c1,c2,u,e,r0,k4.ext hle,r3,m4⟩,(k5.up (λ_ h=>h) hle).app m5,λR=>?_⟩;rw[List.append_assoc];exact(m6 R).trans (k6 (H2++R))
 |_ =>intro v v' nx R6 O l ρ h hv hf;cases v<;>unfold Lo at h<;>exact keep h hv hf
theorem RO.ahi{O:Os G}{H:List aE}(h:RO J ρ O H){r:Nat}{o:Ob G}(e:cU O r=some o):∃(k:Nat) (x:aE),H[k]? =some x/\ro J ρ r o x/\∀(ρ':aY) o' x',ρ.le ρ'->ro J ρ' r o' x'->RO J ρ' (pF O r o') (H.set k x'):=by
 induction h with
 |nil=>cases e
 |@cons r0 o0 x0 O H h0 hr ih=>
  simp only[cU]at e;cases hb:Nat.beq r0 r with
  |true=>rw[hb]at e;cases e;obtain rfl:=aiO hb;refine⟨0,x0,rfl,h0,λρ' o' x' hle h'=>?_⟩;simp only[pF,hb,cond_true];exact .cons h' (hr.up (λ_ h=>h) hle)
  |false=>rw[hb]at e;obtain⟨k,x,k1,k2,k3⟩:=ih e;refine⟨k+1,x,by simpa using k1,k2,λρ' o' x' hle h'=>?_⟩;simp only[pF,hb,cond_false];exact .cons (h0.up (λ_ h=>h) hle) (k3 ρ' o' x' hle h')
theorem Rl.Nw{c:Cx}{N:Nat}{HK X:List aE}{C:CC G}{S:AS G}{a:Act}{w:World}(q:Nat)(s:Sh)(h:Rl c N ρ J HK X C S a w):∃ρ',ρ.to ρ' S.nx/\S.nx<=(Go.Rw.Nw q s S).nx/\Rl c N ρ' J HK X C (Go.Rw.Nw q s S) a w:=by
 unfold Go.Rw.Nw;split
 ·rename_i T cc ho
  generalize hq:Lo s cc S.nx=z;obtain⟨c',O',m⟩:=z;dsimp only;obtain⟨HS,q1,q3⟩:=h.hp;obtain⟨k,x,k1,⟨b,u,m1,rfl,m3⟩,ahw⟩:=q1.ahi ho;obtain⟨ρ',HN,r1,r2,r3,r4,r5,r6⟩:=abw hq m3 h.fr;have hle:=r1.le h.fr;refine⟨ρ',r1,r3,h.tm,h.df.up (λ_ h=>h) hle,h.si,h.fs.up (λ_ h=>h) hle,h.fc.up (λ_ h=>h) hle,h.M1 (λ_ h=>h) hle,⟨HN++HS,r5.app ?_,?_⟩,h.kn,r2⟩
  ·have Mi:=ahw ρ' (.cH T c') _ hle ⟨b,u,hle _ _ m1,rfl,r4⟩
   have:HS.set k (aE.cells b T u.cells.toList)=HS:=by
    refine List.ext_getElem? λ_=>?_;rw[List.getElem?_set];split
    ·rename_i hi
     subst hi;rw[k1];split
     ·rfl
     ·rename_i hlt;exact absurd (List.getElem?_eq_some_iff.1 k1).1 hlt
    ·rfl
   rwa[this]at Mi
  ·rw[List.append_assoc];exact r6 _ _ _ _ q3
 ·exact⟨ρ,aY.dM _ _,Nat.le_refl _,h⟩
theorem Rl.B9{c:Cx}{N:Nat}{HK X:List aE}{C:CC G}{a:Act}{w:World}:∀(l:List (Nat×Sh)) {ρ:aY} {S:AS G},Rl c N ρ J HK X C S a w->∃ρ',ρ.to ρ' S.nx/\S.nx<=(Go.Rw.B9 l S).nx/\Rl c N ρ' J HK X C (Go.Rw.B9 l S) a w:=by
 intro l
 induction l with
 |nil=>intro ρ S h;exact⟨ρ,aY.dM _ _,Nat.le_refl _,h⟩
 |cons p r ih=>obtain⟨q,s⟩:=p;intro ρ S h;obtain⟨ρ1,k1,k2,k3⟩:=h.Nw q s;obtain⟨ρ2,m1,m2,m3⟩:=ih k3;exact⟨ρ2,k1.trans m1 k2,Nat.le_trans k2 m2,m3⟩
def NL(th:List Nat)(base:Nat)(nm:List (Option Nat))(i:Nat):Nat:=match nm[i]? with
 |some (some j)=>match th[j]? with
  |some r=>r
  |none=>base+i
 |_ =>base+i
def Xg:AV G->Option (AV G)
 | .cons v _ =>some v
 |_ =>none
def Zu(g':GS G)(cN:Sh)(nm:List (Option Nat))(y:HL G (aM cN))(S:AS G):AS G:={S with O:=(fA (NL g'.th g'.nx nm) cN y 0).2.1++g'.O,nx:=g'.nx+nm.length}
theorem KJ{c:Cx}{H H':List aE}{w w':World}(h:bC c.bs c.w0.heap.size H w)(hs:c.w0.heap.size<=w.heap.size)(h':bC (bz H) w.heap.size H' w'):bC c.bs c.w0.heap.size H' w':=
 ⟨h'.holds,λr hr b hb=>by
  obtain⟨o,l⟩:=h'.own r hr b hb;refine⟨?_,l⟩;rcases o with o|o
  ·obtain⟨q,hq,hqb⟩:=aZ.1 o
   exact(h.own q hq b hqb).1
  ·exact .inr (Nat.le_trans hs o),h'.apart⟩
theorem P8{c:Cx}{N:Nat}{HK X:List aE}{C:CC G}{S:AS G}{a:Act}{w w':World}{s cN:Sh}{nm:List (Option Nat)}{y:HL G (aM cN)}{x:HL G (aM s)}{us:List Value}{u:Value}{g':GS G}{HS HB H':List aE}{ρ2:aY}{v:AV G}
  (hr:Rl c N ρ J HK X C S a w)(hp:bC c.bs c.w0.heap.size (HB++(H'++(HK++X))) w){th:List Nat}(k:Gat J ρ s us HS ⟨th,S.O,S.nx⟩ g' x ρ2 HB H')(hv:Xg (fA (NL g'.th g'.nx nm) cN y 0).1=some v)
  (h:BE cN nm y (cmp ρ2 g'.th) J (HB++((H'++HK)++X)) (H'++HK) X w u w'):
  ∃(ρ':aY) (J':World->Prop) (Y:List aE),ρ.to ρ' S.nx/\(∀w,J' w->J w)/\rv J' ρ' v u/\Rl c N ρ' J' HK (Y++X) C (Zu g' cN nm y S) a w':=by
 obtain⟨σ,J',Y,Sj,us',m1,m2,m3,m4,m5,m6,m7,m8⟩:=h;let ρ3:aY:=λr=>if r<g'.nx then ρ2 r else σ (r-g'.nx)
 have Mm:ρ2.le ρ3:=λr v e=>by have hlt:r<g'.nx:=k.fr.Uf e;show(if r<g'.nx then ρ2 r else _)=_;rw[aiM hlt];exact e
 have hto:ρ.to ρ3 S.nx:=λr hr'=>by have hlt:r<g'.nx:=Nat.lt_of_lt_of_le hr' k.nx;show(if r<g'.nx then ρ2 r else _)=_;rw[aiM hlt];exact k.to r hr'
 have hle:=hto.le hr.fr;have hmap:∀i v,σ i=some v->ρ3 (NL g'.th g'.nx nm i)=some v:=λi v e=>by
  have hi:i<nm.length:=m8.Uf e;obtain⟨o,ho⟩:∃o,nm[i]? =some o:=⟨_,aiV hi⟩;have hnew:ρ3 (g'.nx+i)=some v:=by show(if g'.nx+i<g'.nx then _ else σ (g'.nx+i-g'.nx))=_;rw[aiN (by omega),Nat.add_sub_cancel_left];exact e
  unfold NL;rw[ho];cases o with
  |none=>exact hnew
  |some j=>
   dsimp only;have:=m7 i j ho;rw[e]at this;unfold cmp at this;split
   ·rename_i r ht
    rw[ht]at this;exact Mm _ _ this.symm
   ·exact hnew
 obtain⟨r1,r2,_⟩:=CK (G:=G) (f:=NL g'.th g'.nx nm) (s:=cN) (x:=y) (m:=0);have hval:rl J' ρ3 (fA (NL g'.th g'.nx nm) cN y 0).1 (u::us'):=by rw[r1];exact Gk hmap m2
 have GV:RO J' ρ3 (fA (NL g'.th g'.nx nm) cN y 0).2.1 Sj:=by rw[r2];exact O8 hmap m3
 refine⟨ρ3,J',Y,hto,m1,?_,hr.tm,hr.df.up m1 hle,⟨hr.si.s.trans m5 λb hb=>?_,hr.si.n⟩,hr.fs.up m1 hle,hr.fc.up m1 hle,hr.M1 m1 hle,⟨Sj++H',GV.app (k.left.up m1 Mm),?_⟩,m6,λr hr'=>?_⟩
 ·revert hv hval
  generalize(fA (NL g'.th g'.nx nm) cN y 0).1=b;intro hv hval;cases b<;>simp only[Xg,Option.some.injEq,reduceCtorEq]at hv;subst hv;obtain⟨u0,r,e,h1,_⟩:=hval;cases e;exact h1
 ·obtain⟨q,hq,hqb⟩:=aZ.1 hb
  exact(hp.own q (by simpa using hq) b hqb).1
 ·have xw:bC c.bs c.w0.heap.size (HB++((H'++HK)++X)) w:=by simpa using hp
  have:=KJ xw hr.si.size m4;simpa using this
 ·show(if r<g'.nx then ρ2 r else σ (r-g'.nx))=none
  have hr':g'.nx+nm.length<=r:=hr';rw[aiN (by omega)];exact m8 _ (by omega)
end Go.Rw
namespace Go.Rw
open Go Go.Bw Go.RowKit
variable {G:Sg} {P:Program} {tt:TT P G} {J J':World->Prop} {ρ ρ' σ:aY} {a:Act} {w:World} {d:Option Tmp} {ty:TypeId} {ps:String} {af:Array Edge} {g:Option (Nat×Bool)}
 {N:Nat} {c:Cx} {HK X H:List aE} {C:CC G} {S:AS G} {F:eu}
theorem Vj{f h:Nat->List Value}{n:Nat}:∀m:Nat,flat (λi=>if i<n then f i else h (i-n)) (n+m)=flat f n++flat h m:=by
 intro m
 induction m with
 |zero=>simp only[Nat.add_zero,flat,List.append_nil];exact tG λi hi=>aiM hi
 |succ m ih=>show flat _ (n+m)++(if n+m<n then f (n+m)else h (n+m-n))=_ ++(flat h m++h m);rw[ih,aiN (by omega),Nat.add_sub_cancel_left,List.append_assoc]
theorem WV{α:Type}[Inhabited α]{L:cP α}{xs ys:List α}{ws news:List Value}(h1:(LA L xs.length).eI J ws (λi=>xs.getD i default))(h2:(LA L ys.length).eI J news (λi=>ys.getD i default)):(LA L (xs++ys).length).eI J (ws++news) (λi=>(xs++ys).getD i default):=by
 obtain⟨f,rfl,k1⟩:=h1;obtain⟨h,rfl,k2⟩:=h2;refine⟨λi=>if i<xs.length then f i else h (i-xs.length),?_,λi hi=>?_⟩
 ·rw[List.length_append,Vj]
 ·rw[List.length_append]at hi
  by_cases q:i<xs.length
  ·simp only[aiM q,List.getD_eq_getElem?_getD,List.getElem?_append_left q]
   have:=k1 i q;simpa[List.getD_eq_getElem?_getD]using this
  ·simp only[aiN q,List.getD_eq_getElem?_getD,List.getElem?_append_right (Nat.le_of_not_lt q)]
   have:=k2 (i-xs.length) (by omega);simpa[List.getD_eq_getElem?_getD]using this
theorem adO{α:Type}[Inhabited α]{L:cP α}{x:α}{cs:List Value}(h:L.eI J cs x):(LA L [x].length).eI J cs (λi=>[x].getD i default):=by
 refine⟨λ_ =>cs,by simp[flat],λi hi=>?_⟩;have:i=0:=by simp at hi;exact hi
 subst this;exact h
theorem adP{α:Type}[Inhabited α]{L:cP α}:(LA L ([]:List α).length).eI J [] (λi=>([]:List α).getD i default):=⟨λ_ =>[],rfl,λi hi=>absurd hi (Nat.not_lt_zero _)⟩
theorem ON{α:Type}[Inhabited α]{L:cP α}{xs:List α}{ws:List Value}{l m:Nat}(hl:l<=m)(hm:m<=xs.length)(h:(LA L xs.length).eI J ws (λi=>xs.getD i default)):(LA L ((xs.drop l).take (m-l)).length).eI J ((ws.drop (l*L.n)).take ((m-l)*L.n)) (λi=>((xs.drop l).take (m-l)).getD i default):=by
 obtain⟨f,rfl,k⟩:=h;have hk:∀i,i<xs.length->(f i).length=L.n:=λi hi=>L.len (k i hi);have hlen:((xs.drop l).take (m-l)).length=m-l:=by simp;omega
 rw[hlen];refine⟨λi=>f (l+i),?_,λi hi=>?_⟩
 ·refine vL λq=>?_
  have hfl:=fM (n:=xs.length) hk;have aiF:(flat (λi=>f (l+i)) (m-l)).length=(m-l)*L.n:=fM λi hi=>hk _ (by omega);rw[List.getElem?_take,List.getElem?_drop];by_cases hq:q<(m-l)*L.n
  ·rw[aiM hq]
   have h0:0<L.n:=by
    rcases Nat.eq_zero_or_pos L.n with e|e
    ·rw[e,Nat.mul_zero]at hq;omega
    ·exact e
   have hdm:q=(q/L.n)*L.n+q%L.n:=by rw[Nat.mul_comm];exact(Nat.div_add_mod q L.n).symm
   have hj:q%L.n<L.n:=Nat.mod_lt _ h0;have hi:q/L.n<m-l:=Nat.div_lt_of_lt_mul (by rw[Nat.mul_comm];exact hq);have e1:l*L.n+q=(l+q/L.n)*L.n+q%L.n:=by rw[Nat.add_mul];omega
   rw[e1,qD hk (by omega) hj]
   conv=>rhs;rw[hdm]
   rw[qD (λi hi=>hk _ (by omega)) hi hj]
  ·rw[aiN hq,List.getElem?_eq_none (by omega)]
 ·have e:=k (l+i) (by omega)
  have:((xs.drop l).take (m-l)).getD i default=xs.getD (l+i) default:=by simp only[List.getD_eq_getElem?_getD,List.getElem?_take,List.getElem?_drop,aiM hi]
  show L.eI J (f (l+i)) (((xs.drop l).take (m-l)).getD i default);rw[this];exact e
theorem BF.cut{α:Type}[Inhabited α]{A:World->Prop}{v:Value}{L:cP α}{ws:List Value}{xs:List α}(h:BF A v L ws xs){l m sz:Nat}(hs:sz=L.n)(hl:l<=m)(hm:m<=xs.length):BF A (nh l m sz v) L ((ws.drop (l*sz)).take ((m-l)*sz)) ((xs.drop l).take (m-l)):=by
 subst hs;have hlen:((xs.drop l).take (m-l)).length=m-l:=by simp;omega
 refine⟨?_,ON hl hm h.eI,λw hw=>?_⟩
 ·obtain⟨a,cp,rfl⟩:=h.sl
  rw[hlen];exact⟨_,_,rfl⟩
 ·rw[hlen];exact(h.ro w hw).cut hl hm
theorem WE{v:Value}{ws:List Value}{e sz n off t q:Nat}{x y:Operand}{val:Value}{vs:List Value}{f:aE->List aE}(hx:Bw.ev F x=some (fX v off))(hz:Bw.ev F y=some val)(hv:val.cells.toList=vs)(hl:vs.length=q)(h1:oy vs)
  (hle:off+q<=n*sz)(hn:0<n)[hr:tO H v e sz n ws f][ht:RT P t q]:
  RX (α:=Unit) P N c ⟨d, .store t x y,ty,ps,af,g⟩ F H (λ_ =>True) (λ_ =>undef) (λ_ =>f (.row v e sz n (bN ws off vs))):=λD a w next Q hst hk=>by
 subst hl;obtain⟨k,k1,k2⟩:=hr.ok;have KL:aE.row v e sz n ws∈H:=List.mem_of_getElem? k1;have hown:kH w e sz v n ws:=hst.hp.holds _ KL;obtain⟨hlen,Eu⟩:=hown;rcases Eu with⟨_,h0⟩|⟨gb,o,cap,cur,rfl,Px,hnc,Od,hcs,Er⟩
 ·omega
 have hmul:n*sz<=cap*sz:=Nat.mul_le_mul_right _ hnc;obtain⟨cs,rfl⟩:∃cs:List Value,cur=cs.toArray:=⟨cur.toList,by simp⟩;have qQ:o+cap*sz<=cs.length:=by simpa using hcs
 have htk:(cs.drop o).take (n*sz)=ws:=by simpa using Er
 obtain⟨w',e1,e2,e3⟩:=qY (P:=P) (t:=t) (b:=gb) (T:=e) (off:=o+off) (cs:=cs) (w:=w) Px hv rfl (by omega) h1;have hnew:((bN cs (o+off) vs).drop o).take (n*sz)=bN ws off vs:=by rw[← htk];exact uF hle (by omega)
 refine oe (by simp) (w':=w') ?_ (hk () w' trivial (hst.si.store hst.hp KL (by simp[aE.cH,Value.ownBlock]) e3) ?_)
 ·simp[execOp,aI hst.fr hx,aI hst.fr hz,fX,Instr.storeAt,Instr.sureAddr,e1]
 ·show bC c.bs c.w0.heap.size (f _) w'
  rw[k2];refine hst.hp.set k1 e3.size (λj hj hn=>e3.block j hj (by simpa[aE.cH,Value.ownBlock]using hn)) ?_ hst.si.size (λb' hb'=>?_)
  ·refine⟨by rw[s9 (by omega)];exact hlen, .inr ⟨gb,o,cap,_,rfl,e2,hnc,Od,?_,?_⟩⟩
   ·simp only[List.size_toArray,bN,List.length_append,List.length_take,List.length_drop];omega
   ·simpa using hnew
  ·have h5:b'=gb:=by simpa[aE.cH,Value.ownBlock]using hb'
   subst h5;exact⟨.inl (by simp[aE.cH,Value.ownBlock]),Nat.lt_of_lt_of_le (aiU.1 Px).1 e3.size⟩
theorem U7{α:Type}[Inhabited α]{xs:List α}{k:Nat}{z:α}(hk:k<xs.length):(λi=>(xs.set k z).getD i default)=iD (λi=>xs.getD i default) k z:=by
 funext i;unfold iD;by_cases e:i=k
 ·subst e;simp[List.getD_eq_getElem?_getD,hk]
 ·simp[List.getD_eq_getElem?_getD,e,List.getElem?_set,Ne.symm e]
theorem Tk{T:Nat}{x y:Operand}{v:AV G}{r e sz:Nat}{p:List sq}{t:Ty}{xs:List (t.T G)}{q:PL G t}{z:q.m.T G}(hx:fT C S [] x=some (.ptr r p))(hy:fT C S [] y=some v)(ho:cU S.O r=some (.row e sz t xs))(hz0:UY p sz=true)(hq:Gr tt.F t p=some q)(hu:A7 q.m v=some z)(hf:vO tt T v=true):
  SK P ⟨d, .store T x y,ty,ps,af,g⟩ C S {S with O:=pF S.O r (.row e sz t (xs.set q.i.toNat (q.set (xs.getD q.i.toNat default) z)))} .OX:=by
 intro c N ρ J HK X a w next Q h hk
 obtain⟨HS,h1,hs0,hm⟩:=h.st;have hE:=cQ h (ch:=[]) (by simp);obtain⟨b,o,e1,e2,e3⟩:=oS (hE.ok _ _ hx);obtain⟨k,x0,k1,⟨vv,ws,m1,rfl,m3,m4,m5⟩,k3⟩:=h1.set ho;have hp:∃n cap n' sz i q',ρ r=some (.slice (some ⟨b,o,none⟩) n cap)/\p= .idx n' sz i::q'/\i.toNat<n:=by
  rcases e1 with h1|h1
  ·obtain⟨a0,cp,e⟩:=m3
   rw[h1,e]at m1;cases m1
  ·exact h1
 obtain⟨n,cap,n',sz',i,q',p1,p2,p3⟩:=hp;subst p2;obtain rfl:=aiO (show Nat.beq sz' sz=true from hz0);rw[p1]at m1;cases m1;obtain⟨a0,cp,e4⟩:=m3;cases e4;subst m5;obtain⟨q1,q3⟩:=LU hq e3 rfl p3;have hv:=hE.ok _ _ hy;have hrv:=zH hu hv;have Mi:=q3.set (v:=z) m4 hrv.1;have hl:=(q.m.L G).len hrv.1;rw[Array.length_toList]at hl;have hle:=q3.le;have sB:=hE.ev _ _ hx;rw[e2]at sB;haveI:=Vm hf hv;have Ib:=qe (m:=HK++X) k1;haveI:tO (HS++(HK++X)) (.slice (some ⟨b,o,none⟩) xs.length cap) e (t.L G).n xs.length ws ((HS++(HK++X)).set k):=⟨k,Ib,λ_ =>rfl⟩;refine WE (v:= .slice (some ⟨b,o,none⟩) xs.length cap) (off:=eJ (sq.idx n' (Ty.L G t).n i::q')) (vs:=(a.eval y).cells.toList) (n:=xs.length) sB (hE.ev _ _ hy) rfl (by simp) ((q.m.L G).one hrv.1) (by rw[hl];exact hle) (by omega) a.defers a w next Q hs0 λ_ w' _ hs hp=>?_
 rw[uk k1]at hp;refine hk ρ J [] w' undef (aY.dM _ _) (λ_ h=>h) ⟨_,rfl⟩ (h.Ad (k3 _ _ ?_) hs hp);refine⟨_,_,p1,by rw[List.length_set],⟨_,_,by rw[List.length_set]⟩,?_,rfl⟩;rw[List.length_set,q1,U7 p3];exact Mi
structure LS(G:Sg) where
 t:Ty
 xs:List (t.T G)
def lsA(C:CC G)(S:AS G):AV G->Option (LS G)
 | .dat (.sl t) xs=>some ⟨t,xs⟩
 | .row r=>match Ug C S r with
  |some (.row _ sz t xs)=>bif Nat.beq (t.L G).n sz then some ⟨t,xs⟩else none
  |_ =>none
 |_ =>none
theorem NU{v:AV G}{l:LS G}{u:Value}{D:List Deferred}(hm:OM (G:=G) J ρ N c D H (Ug C S) a w)(h:lsA C S v=some l)(hv:rv J ρ v u):∃ws,pA c H u (l.t.L G).n l.xs.length ws/\(LA (l.t.L G) l.xs.length).eI J ws (λi=>l.xs.getD i default)/\su u l.xs.length:=by
 unfold lsA at h;split at h
 ·rename_i t xs
  cases h;obtain⟨u',e1,hr,_,hc⟩:=hv;cases e1;obtain⟨v',ws,e2,hf⟩:=hr;rw[hc rfl]at e2;cases e2;haveI:=hm.kn;exact⟨ws,hf.at,hf.eI,hf.sl⟩
 ·rename_i r
  split at h
  ·rename_i e sz t xs ho
   cases hb:Nat.beq (t.L G).n sz with
   |false=>rw[hb]at h;cases h
   |true=>rw[hb]at h;cases h;obtain⟨vv,ws,h1,h2,h3,h4,h5⟩:=Ki hm ho;obtain rfl:=rS hv h1;subst h5;exact⟨ws,h3,h4,h2⟩
  ·cases h
 ·cases h
def Hv{t t':Ty}(xs:List (t'.T G)):Option (List (t.T G)):=if h:t'.bU t=true then some (Ty.uP h▸xs)else none
theorem Qe{t t':Ty}{xs:List (t'.T G)}{ys:List (t.T G)}(h:Hv xs=some ys):∃e:t'=t,e▸xs=ys:=by
 unfold Hv at h;by_cases hs:t'.bU t=true
 ·rw[dif_pos hs]at h;cases h;exact⟨Ty.uP hs,rfl⟩
 ·rw[dif_neg hs]at h;cases h
theorem zK{H':List aE}{e sz:Nat}{t:Ty}{zs:List (t.T G)}{v':Value}{ws:List Value}{w':World}{O':Os G}(h:Rl c N ρ J HK X C S a w)(hO:RO J ρ O' H')(hs:aO c.bs c.w0 w')(hp:bC c.bs c.w0.heap.size (.row v' e sz zs.length ws::(H'++(HK++X))) w')(hv:su v' zs.length)(hr:(LA (t.L G) zs.length).eI J ws (λi=>zs.getD i default))(hz:(t.L G).n=sz):
  ∃ρ',ρ.to ρ' S.nx/\rv J ρ' (.row S.nx:AV G) v'/\Rl c N ρ' J HK X C {S with O:=(S.nx, .row e sz t zs)::O',nx:=S.nx+1} a w':=by
 have hle:=(aY.kg ρ S.nx v').le h.fr;obtain⟨a0,cp,rfl⟩:=hv;refine⟨ρ.set S.nx _,aY.kg _ _ _,⟨_,_,_,aY.gO _ _ _,rfl⟩,h.tm,h.df.up (λ_ h=>h) hle,⟨hs,h.si.n⟩,h.fs.up (λ_ h=>h) hle,h.fc.up (λ_ h=>h) hle,h.M1 (λ_ h=>h) hle,⟨_ ::H', .cons ⟨_,ws,aY.gO _ _ _,rfl,⟨_,_,rfl⟩,hr,hz⟩ (hO.up (λ_ h=>h) hle),?_⟩,h.kn,aY.wv h.fr _⟩;simpa using hp
theorem abp{T r e sz bt:Nat}{x y:Operand}{vy:AV G}{t:Ty}{xs ys:List (t.T G)}{l:LS G}(hT:tt.te.find T=some (.sl e sz bt))(hx:fT C S [] x=some (.row r))(hy:fT C S [] y=some vy)(ho:cU S.O r=some (.row e sz t xs))(hl:lsA C S vy=some l)(hc:Hv l.xs=some ys)(hg:gC xs.length ys.length bt=true):
  SK P ⟨d, .call ⟨.builtin .append, #[x,y], #[T,T]⟩,ty,ps,af,g⟩ C S {S with O:=(S.nx, .row e sz t (xs++ys))::wM S.O r,nx:=S.nx+1} (.row S.nx):=by
 intro c N ρ J HK X a w next Q h hk
 obtain⟨HS,h1,hs0,hm⟩:=h.st;have hE:=cQ h (ch:=[]) (by simp);obtain⟨k,x0,k1,⟨vv,ws,m1,rfl,m3,m4,m5⟩,k3⟩:=h1.Zt ho;obtain⟨t',l'⟩:=l;obtain⟨rfl,rfl⟩:=Qe hc;obtain⟨news,n1,n2,n3⟩:=NU hm hl (hE.ok _ _ hy);have UJ:=rS (hE.ok _ _ hx) m1;have sB:=hE.ev _ _ hx;rw[UJ]at sB;haveI:=(tt.sl hT).2;have Ib:=qe (m:=HK++X) k1;haveI:tO (HS++(HK++X)) vv e sz xs.length ws ((HS++(HK++X)).set k):=⟨k,Ib,λ_ =>rfl⟩;subst m5;haveI:=n1;obtain⟨g1,g2⟩:=pX hg;refine wW sB (hE.ev _ _ hy) (cP.one _ n2) g1 g2 a.defers a w next Q hs0 λv' w' Mh hs hp=>?_
 have xw:bC c.bs c.w0.heap.size (.row v' e (t'.L G).n (xs++l').length (ws++news)::(HS.eraseIdx k++(HK++X))) w':=by
  rw[List.length_append];have hp3:bC c.bs c.w0.heap.size ((HS++(HK++X)).set k (.row v' e (t'.L G).n (xs.length+l'.length) (ws++news))) w':=hp;rw[uk k1]at hp3;refine hp3.jL ?_;have hlt:=(List.getElem?_eq_some_iff.1 k1).1;have e1:(HS.set k (.row v' e (t'.L G).n (xs.length+l'.length) (ws++news)))[k]? =some (.row v' e (t'.L G).n (xs.length+l'.length) (ws++news)):=by simp[hlt]
  have:=oT e1 (HK++X);rwa[List.eraseIdx_set_eq]at this
 obtain⟨ρ',q1,q2,q3⟩:=zK h k3 hs xw (by rw[List.length_append];exact Mh) (WV m4 n2) rfl;exact hk ρ' J [] w' v' q1 (λ_ h=>h) q2 q3
theorem XO{T e sz bt:Nat}{x y:Operand}{vy:AV G}{l:LS G}(hT:tt.te.find T=some (.sl e sz bt))(hx:fT C S [] x=some .jD)(hy:fT C S [] y=some vy)(hl:lsA C S vy=some l)(hsz:(l.t.L G).n=sz)(hg:gC 0 l.xs.length bt=true):
  SK P ⟨d, .call ⟨.builtin .append, #[x,y], #[T,T]⟩,ty,ps,af,g⟩ C S {S with O:=(S.nx, .row e sz l.t l.xs)::S.O,nx:=S.nx+1} (.row S.nx):=by
 intro c N ρ J HK X a w next Q h hk
 obtain⟨HS,h1,hs0,hm⟩:=h.st;have hE:=cQ h (ch:=[]) (by simp);obtain⟨news,n1,n2,n3⟩:=NU hm hl (hE.ok _ _ hy);have sB:=hE.ev _ _ hx;have UJ:a.eval x= .slice none 0 0:=(List.cons.inj (show[a.eval x]=[Value.slice none 0 0]from hE.ok _ _ hx)).1;rw[UJ]at sB;haveI:=(tt.sl hT).2;subst hsz;obtain⟨g1,g2⟩:=pX hg;have KI:St N c a.defers (ng a) (.row (.slice none 0 0) e (l.t.L G).n 0 []::(HS++(HK++X))) a w:=⟨hs0.tm,hs0.fr,hs0.df,hs0.si,zO hs0.hp⟩;haveI:pA c (.row (.slice none 0 0) e (l.t.L G).n 0 []::(HS++(HK++X))) (a.eval y) (l.t.L G).n l.xs.length news:=⟨λw' hs' hp'=>n1.ro w' hs' ⟨λs hs=>hp'.holds s (aiY _ hs),λs hs=>hp'.own s (aiY _ hs),(List.pairwise_cons.1 hp'.apart).2⟩⟩;refine wW (n:=0) (xs:=[]) sB (hE.ev _ _ hy) (cP.one _ n2) g1 g2 a.defers a w next Q KI λv' w' Mh hs hp=>?_
 obtain⟨ρ',q1,q2,q3⟩:=zK (t:=l.t) (zs:=l.xs) h h1 hs (by simpa using hp) (by simpa using Mh) n2 rfl;exact hk ρ' J [] w' v' q1 (λ_ h=>h) q2 q3
end Go.Rw
