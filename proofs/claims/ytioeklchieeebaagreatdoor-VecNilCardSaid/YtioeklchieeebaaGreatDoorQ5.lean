/- Part 5 of what a proof leans on; pruned and shortened by a program out of longer texts. -/
import Derived.Test.YtioeklchieeebaaGreatDoorQ4
namespace Go.Rw
open Go Go.Bw Go.RowKit
variable {G:Sg} {P:Program} {J J':World->Prop} {ρ ρ' σ:aX}
def Jh(f:Nat->Nat):AV G->AV G
 | .ptr r p=> .ptr (f r) p
 | .row r=> .row (f r)
 | .A0 r p n sz up i=> .A0 (f r) p n sz up i
 | .mp r=> .mp (f r)
 | .yl r=> .yl (f r)
 | .fn k a c=> .fn k (Jh f a) (Jh f c)
 | .st a=> .st (Jh f a)
 | .gS a=> .gS (Jh f a)
 | .gP t v=> .gP t (Jh f v)
 | .gd j w v=> .gd j w (Jh f v)
 | .cons a b=> .cons (Jh f a) (Jh f b)
 | .part w a b=> .part w (Jh f a) (Jh f b)
 |v=>v
def afx(f:Nat->Nat):Ob G->Ob G
 | .bT T c=> .bT T (Jh f c)
 | .fm q ks vs=> .fm q ks (Jh f vs)
 | .lp N ks vs ps a b=> .lp N ks (Jh f vs) ps a b
 |o=>o
def Ou(f:Nat->Nat)(O:Os G):Os G:=O.map λp=>(f p.1,afx f p.2)
theorem Dv{f:Nat->Nat}(m:∀r v,σ r=some v->ρ (f r)=some v):∀{v:AV G} {l:List Value},rl J σ v l->rl J ρ (Jh f v) l:=by
 intro v
 induction v with
 |ptr r p=>
  intro l h;obtain⟨⟨b,o,h1,h2⟩,h3⟩:=h;refine⟨⟨b,o,?_,h2⟩,h3⟩;rcases h1 with h1|⟨n,cap,n',sz,i,q,e1,e2⟩
  ·exact .inl (m _ _ h1)
  ·exact .inr ⟨n,cap,n',sz,i,q,m _ _ e1,e2⟩
 |A0 r p n sz up i=>
  intro l h;obtain⟨⟨b,o,h1,h2⟩,h3⟩:=h;refine⟨⟨b,o,?_,h2⟩,h3⟩;rcases h1 with h1|⟨n,cap,n',sz,i,q,e1,e2⟩
  ·exact .inl (m _ _ h1)
  ·exact .inr ⟨n,cap,n',sz,i,q,m _ _ e1,e2⟩
 |row r=>intro l h;obtain⟨a,n,cap,h1,h2⟩:=h;exact⟨a,n,cap,m _ _ h1,h2⟩
 |mp r=>intro l h;obtain⟨b,h1,h2⟩:=h;exact⟨b,m _ _ h1,h2⟩
 |yl r=>intro l h;obtain⟨b,h1,h2⟩:=h;exact⟨b,m _ _ h1,h2⟩
 |fn f a c jE zI=>intro l h;obtain⟨fs,cs,e,h1,h2⟩:=h;exact⟨fs,cs,e,jE h1,zI h2⟩
 |st a ih=>intro l h;obtain⟨cs,e,h1,h2⟩:=h;exact⟨cs,e,ih h1,h2⟩
 |gS a ih=>intro l h;obtain⟨vs,e,h1⟩:=h;exact⟨vs,e,ih h1⟩
 |gP t v ih=>intro l h;obtain⟨u,e,h1⟩:=h;exact⟨u,e,ih h1⟩
 |cons a b jE oD=>intro l h;obtain⟨u,r,e,h1,h2⟩:=h;exact⟨u,r,e,jE h1,oD h2⟩
 |part w a b jE oD=>intro l h;obtain⟨c1,c2,u,e,h1,h2,h3,h4⟩:=h;exact⟨c1,c2,u,e,h1,jE h2,h3,oD h4⟩
 |_ =>intro l h;exact h
theorem Kw{f:Nat->Nat}(m:∀r v,σ r=some v->ρ (f r)=some v){O:Os G}{H:List aF}(h:RO J σ O H):RO J ρ (Ou f O) H:=by
 induction h with
 |nil=>exact .nil
 |@cons r o x O H h _ ih=>
  refine .cons ?_ ih;cases o with
  |bT T c=>obtain⟨b,u,h1,h2,h3⟩:=h;exact⟨b,u,m _ _ h1,h2,Dv m h3⟩
  |row e sz t xs=>obtain⟨v,ws,h1,h2⟩:=h;exact⟨v,ws,m _ _ h1,h2⟩
  |aux b=>obtain⟨n,x,h1,h2⟩:=h;exact⟨n,x,m _ _ h1,h2⟩
  |gm=>obtain⟨⟨mb,g,h1,h2⟩,h4⟩:=h;exact⟨⟨mb,g,m _ _ h1,h2⟩,h4⟩
  |fm q ks vs=>obtain⟨b,es,ck,us,h1,h2,h3,h4,h5⟩:=h;exact⟨b,es,ck,us,m _ _ h1,h2,h3,Dv m h4,h5⟩
  |lp N ks vs ps a b=>obtain⟨n,rec,us,h1,h2,h3,h4⟩:=h;exact⟨n,rec,us,m _ _ h1,h2,Dv m h3,h4⟩
theorem zX{f:Nat->Nat}:∀{s:Sh} {x:HL G (aK s)} {m:Nat},(dP f s x m).1=Jh f (dP (λm=>m) s x m).1/\(dP f s x m).2.1=Ou f (dP (λm=>m) s x m).2.1/\(dP f s x m).2.2=(dP (λm=>m) s x m).2.2:=by
 intro s
 induction s with
 |v t=>intro x m;refine⟨?_,rfl,rfl⟩;cases t<;>rfl
 |row e sz t=>intro x m;exact⟨rfl,rfl,rfl⟩
 |box T s ih=>intro x m;obtain⟨h1,h2,h3⟩:=ih (x:=x) (m:=m+1);simp only[dP];exact⟨rfl,by rw[h1,h2];rfl,h3⟩
 |fn k a c jE zI=>intro x m;obtain⟨h1,h2,h3⟩:=jE (x:=HL.fst x) (m:=m);simp only[dP];rw[h3];obtain⟨k1,k2,k3⟩:=zI (x:=HL.snd x) (m:=(dP (λm=>m) a (HL.fst x) m).2.2);exact⟨by rw[h1,k1];rfl,by rw[h2,k2];simp[Ou],k3⟩
 |cons a c jE zI=>intro x m;obtain⟨h1,h2,h3⟩:=jE (x:=HL.fst x) (m:=m);simp only[dP];rw[h3];obtain⟨k1,k2,k3⟩:=zI (x:=HL.snd x) (m:=(dP (λm=>m) a (HL.fst x) m).2.2);exact⟨by rw[h1,k1];rfl,by rw[h2,k2];simp[Ou],k3⟩
 |part w a c jE zI=>intro x m;obtain⟨h1,h2,h3⟩:=jE (x:=HL.fst x) (m:=m);simp only[dP];rw[h3];obtain⟨k1,k2,k3⟩:=zI (x:=HL.snd x) (m:=(dP (λm=>m) a (HL.fst x) m).2.2);exact⟨by rw[h1,k1];rfl,by rw[h2,k2];simp[Ou],k3⟩
 |gS a ih=>intro x m;obtain⟨h1,h2,h3⟩:=ih (x:=x) (m:=m);simp only[dP];exact⟨by rw[h1];rfl,h2,h3⟩
 |st a ih=>intro x m;obtain⟨h1,h2,h3⟩:=ih (x:=x) (m:=m);simp only[dP];exact⟨by rw[h1];rfl,h2,h3⟩
 |gP t a ih=>intro x m;obtain⟨h1,h2,h3⟩:=ih (x:=x) (m:=m);simp only[dP];exact⟨by rw[h1];rfl,h2,h3⟩
 |_ =>intro x m;exact⟨rfl,rfl,rfl⟩
def lpE{Z:Type}:(l:List Ty)->((HL G l->Option Z)->HL G l->Option Z)->Nat->HL G l->Option Z
 |[_],B,n,e=>gL (λk x1=>B (λe=>k (e.1)) (x1,())) n (e.1)
 |[_,_],B,n,e=>dH (λk x1 x2=>B (λe=>k (e.1) (e.2.1)) (x1,x2,())) n (e.1) (e.2.1)
 |[_,_,_],B,n,e=>vG (λk x1 x2 x3=>B (λe=>k (e.1) (e.2.1) (e.2.2.1)) (x1,x2,x3,())) n (e.1) (e.2.1) (e.2.2.1)
 |[_,_,_,_],B,n,e=>KL (λk x1 x2 x3 x4=>B (λe=>k (e.1) (e.2.1) (e.2.2.1) (e.2.2.2.1)) (x1,x2,x3,x4,())) n (e.1) (e.2.1) (e.2.2.1) (e.2.2.2.1)
 |[_,_,_,_,_],B,n,e=>DE (λk x1 x2 x3 x4 x5=>B (λe=>k (e.1) (e.2.1) (e.2.2.1) (e.2.2.2.1) (e.2.2.2.2.1)) (x1,x2,x3,x4,x5,())) n (e.1) (e.2.1) (e.2.2.1) (e.2.2.2.1) (e.2.2.2.2.1)
 |[_,_,_,_,_,_],B,n,e=>KJ (λk x1 x2 x3 x4 x5 x6=>B (λe=>k (e.1) (e.2.1) (e.2.2.1) (e.2.2.2.1) (e.2.2.2.2.1) (e.2.2.2.2.2.1)) (x1,x2,x3,x4,x5,x6,())) n (e.1) (e.2.1) (e.2.2.1) (e.2.2.2.1) (e.2.2.2.2.1) (e.2.2.2.2.2.1)
 |[_,_,_,_,_,_,_],B,n,e=>Fu (λk x1 x2 x3 x4 x5 x6 x7=>B (λe=>k (e.1) (e.2.1) (e.2.2.1) (e.2.2.2.1) (e.2.2.2.2.1) (e.2.2.2.2.2.1) (e.2.2.2.2.2.2.1)) (x1,x2,x3,x4,x5,x6,x7,())) n (e.1) (e.2.1) (e.2.2.1) (e.2.2.2.1) (e.2.2.2.2.1) (e.2.2.2.2.2.1) (e.2.2.2.2.2.2.1)
 |[_,_,_,_,_,_,_,_],B,n,e=>DD (λk x1 x2 x3 x4 x5 x6 x7 x8=>B (λe=>k (e.1) (e.2.1) (e.2.2.1) (e.2.2.2.1) (e.2.2.2.2.1) (e.2.2.2.2.2.1) (e.2.2.2.2.2.2.1) (e.2.2.2.2.2.2.2.1)) (x1,x2,x3,x4,x5,x6,x7,x8,())) n (e.1) (e.2.1) (e.2.2.1) (e.2.2.2.1) (e.2.2.2.2.1) (e.2.2.2.2.2.1) (e.2.2.2.2.2.2.1) (e.2.2.2.2.2.2.2.1)
 |[_,_,_,_,_,_,_,_,_],B,n,e=>KI (λk x1 x2 x3 x4 x5 x6 x7 x8 x9=>B (λe=>k (e.1) (e.2.1) (e.2.2.1) (e.2.2.2.1) (e.2.2.2.2.1) (e.2.2.2.2.2.1) (e.2.2.2.2.2.2.1) (e.2.2.2.2.2.2.2.1) (e.2.2.2.2.2.2.2.2.1)) (x1,x2,x3,x4,x5,x6,x7,x8,x9,())) n (e.1) (e.2.1) (e.2.2.1) (e.2.2.2.1) (e.2.2.2.2.1) (e.2.2.2.2.2.1) (e.2.2.2.2.2.2.1) (e.2.2.2.2.2.2.2.1) (e.2.2.2.2.2.2.2.2.1)
 |[_,_,_,_,_,_,_,_,_,_],B,n,e=>Gq (λk x1 x2 x3 x4 x5 x6 x7 x8 x9 Hf=>B (λe=>k (e.1) (e.2.1) (e.2.2.1) (e.2.2.2.1) (e.2.2.2.2.1) (e.2.2.2.2.2.1) (e.2.2.2.2.2.2.1) (e.2.2.2.2.2.2.2.1) (e.2.2.2.2.2.2.2.2.1) (e.2.2.2.2.2.2.2.2.2.1)) (x1,x2,x3,x4,x5,x6,x7,x8,x9,Hf,())) n (e.1) (e.2.1) (e.2.2.1) (e.2.2.2.1) (e.2.2.2.2.1) (e.2.2.2.2.2.1) (e.2.2.2.2.2.2.1) (e.2.2.2.2.2.2.2.1) (e.2.2.2.2.2.2.2.2.1) (e.2.2.2.2.2.2.2.2.2.1)
 |[_,_,_,_,_,_,_,_,_,_,_],B,n,e=>Gp (λk x1 x2 x3 x4 x5 x6 x7 x8 x9 Hf NL=>B (λe=>k (e.1) (e.2.1) (e.2.2.1) (e.2.2.2.1) (e.2.2.2.2.1) (e.2.2.2.2.2.1) (e.2.2.2.2.2.2.1) (e.2.2.2.2.2.2.2.1) (e.2.2.2.2.2.2.2.2.1) (e.2.2.2.2.2.2.2.2.2.1) (e.2.2.2.2.2.2.2.2.2.2.1)) (x1,x2,x3,x4,x5,x6,x7,x8,x9,Hf,NL,())) n (e.1) (e.2.1) (e.2.2.1) (e.2.2.2.1) (e.2.2.2.2.1) (e.2.2.2.2.2.1) (e.2.2.2.2.2.2.1) (e.2.2.2.2.2.2.2.1) (e.2.2.2.2.2.2.2.2.1) (e.2.2.2.2.2.2.2.2.2.1) (e.2.2.2.2.2.2.2.2.2.2.1)
 |[_,_,_,_,_,_,_,_,_,_,_,_],B,n,e=>Gn (λk x1 x2 x3 x4 x5 x6 x7 x8 x9 Hf NL x12=>B (λe=>k (e.1) (e.2.1) (e.2.2.1) (e.2.2.2.1) (e.2.2.2.2.1) (e.2.2.2.2.2.1) (e.2.2.2.2.2.2.1) (e.2.2.2.2.2.2.2.1) (e.2.2.2.2.2.2.2.2.1) (e.2.2.2.2.2.2.2.2.2.1) (e.2.2.2.2.2.2.2.2.2.2.1) (e.2.2.2.2.2.2.2.2.2.2.2.1)) (x1,x2,x3,x4,x5,x6,x7,x8,x9,Hf,NL,x12,())) n (e.1) (e.2.1) (e.2.2.1) (e.2.2.2.1) (e.2.2.2.2.1) (e.2.2.2.2.2.1) (e.2.2.2.2.2.2.1) (e.2.2.2.2.2.2.2.1) (e.2.2.2.2.2.2.2.2.1) (e.2.2.2.2.2.2.2.2.2.1) (e.2.2.2.2.2.2.2.2.2.2.1) (e.2.2.2.2.2.2.2.2.2.2.2.1)
 |_,_,_,_ =>none
theorem aaU{Z:Type}:∀{l:List Ty} {B:(HL G l->Option Z)->HL G l->Option Z} {n:Nat} {e:HL G l} {z:Z},lpE l B n e=some z->∃m,n=m+1/\B (lpE l B m) e=some z:=by
 intro l B n e z h
 match l,B,e,h with
 |[_],B,e,h=>obtain⟨m,h1,h2⟩:=aa2 rfl h;exact⟨m,h1,h2⟩
 |[_,_],B,e,h=>obtain⟨m,h1,h2⟩:=Ft rfl h;exact⟨m,h1,h2⟩
 |[_,_,_],B,e,h=>obtain⟨m,h1,h2⟩:=Ug rfl h;exact⟨m,h1,h2⟩
 |[_,_,_,_],B,e,h=>obtain⟨m,h1,h2⟩:=aa0 rfl h;exact⟨m,h1,h2⟩
 |[_,_,_,_,_],B,e,h=>obtain⟨m,h1,h2⟩:=aaZ rfl h;exact⟨m,h1,h2⟩
 |[_,_,_,_,_,_],B,e,h=>obtain⟨m,h1,h2⟩:=aaY rfl h;exact⟨m,h1,h2⟩
 |[_,_,_,_,_,_,_],B,e,h=>obtain⟨m,h1,h2⟩:=aaX rfl h;exact⟨m,h1,h2⟩
 |[_,_,_,_,_,_,_,_],B,e,h=>obtain⟨m,h1,h2⟩:=aaW rfl h;exact⟨m,h1,h2⟩
 |[_,_,_,_,_,_,_,_,_],B,e,h=>obtain⟨m,h1,h2⟩:=aaV rfl h;exact⟨m,h1,h2⟩
 |[_,_,_,_,_,_,_,_,_,_],B,e,h=>obtain⟨m,h1,h2⟩:=VL rfl h;exact⟨m,h1,h2⟩
 |[_,_,_,_,_,_,_,_,_,_,_],B,e,h=>obtain⟨m,h1,h2⟩:=VJ rfl h;exact⟨m,h1,h2⟩
 |[_,_,_,_,_,_,_,_,_,_,_,_],B,e,h=>obtain⟨m,h1,h2⟩:=VI rfl h;exact⟨m,h1,h2⟩
 |[],B,e,h=>cases h
 |_ ::_ ::_ ::_ ::_ ::_ ::_ ::_ ::_ ::_ ::_ ::_ ::_ ::_,B,e,h=>cases h
theorem Uk(α ρ:Type):∃g:α->(α->Option ρ)->Option ρ,∀a f,g a f=lt a f:=⟨lt,λ_ _ =>rfl⟩
noncomputable def jn{α ρ:Type}:α->(α->Option ρ)->Option ρ:=Classical.choose (Uk α ρ)
theorem afH{α ρ:Type}{a:α}{f:α->Option ρ}:jn a f=lt a f:=Classical.choose_spec (Uk α ρ) a f
noncomputable def lj{α ρ:Type}:Bool->α->(α->Option ρ)->Option ρ
 |true=>jn
 |false=>lt
theorem Ce{α ρ:Type}{b:Bool}{a:α}{f:α->Option ρ}:lj b a f=f a:=by cases b;exact rfl;exact afH
noncomputable def jnE{Z:Type}(b:Bool):(l:List Ty)->(HL G l->Option Z)->((HL G l->Option Z)->Option Z)->Option Z
 |[_],B,A=>lj b (λx1=>B (x1,())) λj=>A λe=>j (e.1)
 |[_,_],B,A=>lj b (λx1 x2=>B (x1,x2,())) λj=>A λe=>j (e.1) (e.2.1)
 |[_,_,_],B,A=>lj b (λx1 x2 x3=>B (x1,x2,x3,())) λj=>A λe=>j (e.1) (e.2.1) (e.2.2.1)
 |[_,_,_,_],B,A=>lj b (λx1 x2 x3 x4=>B (x1,x2,x3,x4,())) λj=>A λe=>j (e.1) (e.2.1) (e.2.2.1) (e.2.2.2.1)
 |[_,_,_,_,_],B,A=>lj b (λx1 x2 x3 x4 x5=>B (x1,x2,x3,x4,x5,())) λj=>A λe=>j (e.1) (e.2.1) (e.2.2.1) (e.2.2.2.1) (e.2.2.2.2.1)
 |[_,_,_,_,_,_],B,A=>lj b (λx1 x2 x3 x4 x5 x6=>B (x1,x2,x3,x4,x5,x6,())) λj=>A λe=>j (e.1) (e.2.1) (e.2.2.1) (e.2.2.2.1) (e.2.2.2.2.1) (e.2.2.2.2.2.1)
 |[_,_,_,_,_,_,_],B,A=>lj b (λx1 x2 x3 x4 x5 x6 x7=>B (x1,x2,x3,x4,x5,x6,x7,())) λj=>A λe=>j (e.1) (e.2.1) (e.2.2.1) (e.2.2.2.1) (e.2.2.2.2.1) (e.2.2.2.2.2.1) (e.2.2.2.2.2.2.1)
 |[_,_,_,_,_,_,_,_],B,A=>lj b (λx1 x2 x3 x4 x5 x6 x7 x8=>B (x1,x2,x3,x4,x5,x6,x7,x8,())) λj=>A λe=>j (e.1) (e.2.1) (e.2.2.1) (e.2.2.2.1) (e.2.2.2.2.1) (e.2.2.2.2.2.1) (e.2.2.2.2.2.2.1) (e.2.2.2.2.2.2.2.1)
 |[_,_,_,_,_,_,_,_,_],B,A=>lj b (λx1 x2 x3 x4 x5 x6 x7 x8 x9=>B (x1,x2,x3,x4,x5,x6,x7,x8,x9,())) λj=>A λe=>j (e.1) (e.2.1) (e.2.2.1) (e.2.2.2.1) (e.2.2.2.2.1) (e.2.2.2.2.2.1) (e.2.2.2.2.2.2.1) (e.2.2.2.2.2.2.2.1) (e.2.2.2.2.2.2.2.2.1)
 |[_,_,_,_,_,_,_,_,_,_],B,A=>lj b (λx1 x2 x3 x4 x5 x6 x7 x8 x9 Hf=>B (x1,x2,x3,x4,x5,x6,x7,x8,x9,Hf,())) λj=>A λe=>j (e.1) (e.2.1) (e.2.2.1) (e.2.2.2.1) (e.2.2.2.2.1) (e.2.2.2.2.2.1) (e.2.2.2.2.2.2.1) (e.2.2.2.2.2.2.2.1) (e.2.2.2.2.2.2.2.2.1) (e.2.2.2.2.2.2.2.2.2.1)
 |[_,_,_,_,_,_,_,_,_,_,_],B,A=>lj b (λx1 x2 x3 x4 x5 x6 x7 x8 x9 Hf NL=>B (x1,x2,x3,x4,x5,x6,x7,x8,x9,Hf,NL,())) λj=>A λe=>j (e.1) (e.2.1) (e.2.2.1) (e.2.2.2.1) (e.2.2.2.2.1) (e.2.2.2.2.2.1) (e.2.2.2.2.2.2.1) (e.2.2.2.2.2.2.2.1) (e.2.2.2.2.2.2.2.2.1) (e.2.2.2.2.2.2.2.2.2.1) (e.2.2.2.2.2.2.2.2.2.2.1)
 |[_,_,_,_,_,_,_,_,_,_,_,_],B,A=>lj b (λx1 x2 x3 x4 x5 x6 x7 x8 x9 Hf NL x12=>B (x1,x2,x3,x4,x5,x6,x7,x8,x9,Hf,NL,x12,())) λj=>A λe=>j (e.1) (e.2.1) (e.2.2.1) (e.2.2.2.1) (e.2.2.2.2.1) (e.2.2.2.2.2.1) (e.2.2.2.2.2.2.1) (e.2.2.2.2.2.2.2.1) (e.2.2.2.2.2.2.2.2.1) (e.2.2.2.2.2.2.2.2.2.1) (e.2.2.2.2.2.2.2.2.2.2.1) (e.2.2.2.2.2.2.2.2.2.2.2.1)
 |_,B,A=>A B
theorem aa6{Z:Type}{b:Bool}:∀{l:List Ty} {B:HL G l->Option Z} {A:(HL G l->Option Z)->Option Z} {z:Z},jnE b l B A=some z->A B=some z:=by
 intro l B A z h
 match l,B,A,h with
 |[_],B,A,h=>exact(Ce (b:=b) (a:=λx1=>B (x1,())) (f:=λj=>A λe=>j (e.1))).symm.trans h
 |[_,_],B,A,h=>exact(Ce (b:=b) (a:=λx1 x2=>B (x1,x2,())) (f:=λj=>A λe=>j (e.1) (e.2.1))).symm.trans h
 |[_,_,_],B,A,h=>exact(Ce (b:=b) (a:=λx1 x2 x3=>B (x1,x2,x3,())) (f:=λj=>A λe=>j (e.1) (e.2.1) (e.2.2.1))).symm.trans h
 |[_,_,_,_],B,A,h=>exact(Ce (b:=b) (a:=λx1 x2 x3 x4=>B (x1,x2,x3,x4,())) (f:=λj=>A λe=>j (e.1) (e.2.1) (e.2.2.1) (e.2.2.2.1))).symm.trans h
 |[_,_,_,_,_],B,A,h=>exact(Ce (b:=b) (a:=λx1 x2 x3 x4 x5=>B (x1,x2,x3,x4,x5,())) (f:=λj=>A λe=>j (e.1) (e.2.1) (e.2.2.1) (e.2.2.2.1) (e.2.2.2.2.1))).symm.trans h
 |[_,_,_,_,_,_],B,A,h=>exact(Ce (b:=b) (a:=λx1 x2 x3 x4 x5 x6=>B (x1,x2,x3,x4,x5,x6,())) (f:=λj=>A λe=>j (e.1) (e.2.1) (e.2.2.1) (e.2.2.2.1) (e.2.2.2.2.1) (e.2.2.2.2.2.1))).symm.trans h
 |[_,_,_,_,_,_,_],B,A,h=>exact(Ce (b:=b) (a:=λx1 x2 x3 x4 x5 x6 x7=>B (x1,x2,x3,x4,x5,x6,x7,())) (f:=λj=>A λe=>j (e.1) (e.2.1) (e.2.2.1) (e.2.2.2.1) (e.2.2.2.2.1) (e.2.2.2.2.2.1) (e.2.2.2.2.2.2.1))).symm.trans h
 |[_,_,_,_,_,_,_,_],B,A,h=>exact(Ce (b:=b) (a:=λx1 x2 x3 x4 x5 x6 x7 x8=>B (x1,x2,x3,x4,x5,x6,x7,x8,())) (f:=λj=>A λe=>j (e.1) (e.2.1) (e.2.2.1) (e.2.2.2.1) (e.2.2.2.2.1) (e.2.2.2.2.2.1) (e.2.2.2.2.2.2.1) (e.2.2.2.2.2.2.2.1))).symm.trans h
 |[_,_,_,_,_,_,_,_,_],B,A,h=>exact(Ce (b:=b) (a:=λx1 x2 x3 x4 x5 x6 x7 x8 x9=>B (x1,x2,x3,x4,x5,x6,x7,x8,x9,())) (f:=λj=>A λe=>j (e.1) (e.2.1) (e.2.2.1) (e.2.2.2.1) (e.2.2.2.2.1) (e.2.2.2.2.2.1) (e.2.2.2.2.2.2.1) (e.2.2.2.2.2.2.2.1) (e.2.2.2.2.2.2.2.2.1))).symm.trans h
 |[_,_,_,_,_,_,_,_,_,_],B,A,h=>exact(Ce (b:=b) (a:=λx1 x2 x3 x4 x5 x6 x7 x8 x9 Hf=>B (x1,x2,x3,x4,x5,x6,x7,x8,x9,Hf,())) (f:=λj=>A λe=>j (e.1) (e.2.1) (e.2.2.1) (e.2.2.2.1) (e.2.2.2.2.1) (e.2.2.2.2.2.1) (e.2.2.2.2.2.2.1) (e.2.2.2.2.2.2.2.1) (e.2.2.2.2.2.2.2.2.1) (e.2.2.2.2.2.2.2.2.2.1))).symm.trans h
 |[_,_,_,_,_,_,_,_,_,_,_],B,A,h=>exact(Ce (b:=b) (a:=λx1 x2 x3 x4 x5 x6 x7 x8 x9 Hf NL=>B (x1,x2,x3,x4,x5,x6,x7,x8,x9,Hf,NL,())) (f:=λj=>A λe=>j (e.1) (e.2.1) (e.2.2.1) (e.2.2.2.1) (e.2.2.2.2.1) (e.2.2.2.2.2.1) (e.2.2.2.2.2.2.1) (e.2.2.2.2.2.2.2.1) (e.2.2.2.2.2.2.2.2.1) (e.2.2.2.2.2.2.2.2.2.1) (e.2.2.2.2.2.2.2.2.2.2.1))).symm.trans h
 |[_,_,_,_,_,_,_,_,_,_,_,_],B,A,h=>exact(Ce (b:=b) (a:=λx1 x2 x3 x4 x5 x6 x7 x8 x9 Hf NL x12=>B (x1,x2,x3,x4,x5,x6,x7,x8,x9,Hf,NL,x12,())) (f:=λj=>A λe=>j (e.1) (e.2.1) (e.2.2.1) (e.2.2.2.1) (e.2.2.2.2.1) (e.2.2.2.2.2.1) (e.2.2.2.2.2.2.1) (e.2.2.2.2.2.2.2.1) (e.2.2.2.2.2.2.2.2.1) (e.2.2.2.2.2.2.2.2.2.1) (e.2.2.2.2.2.2.2.2.2.2.1) (e.2.2.2.2.2.2.2.2.2.2.2.1))).symm.trans h
 |[],B,A,h=>exact h
 |_ ::_ ::_ ::_ ::_ ::_ ::_ ::_ ::_ ::_ ::_ ::_ ::_ ::_,B,A,h=>exact h
def itE{B Z:Type}:(l:List Ty)->(B->(HL G l->Option Z)->HL G l->Option Z)->(HL G l->Option Z)->List B->HL G l->Option Z
 |[],b,fin,l,_ =>yc (λy k (_ :Unit)=>b y (λ_ =>k ()) ()) (λ_ =>fin ()) l ()
 |[_],b,fin,l,e=>yc (λy k x1=>b y (λe=>k (e.1)) (x1,())) (λx1=>fin (x1,())) l (e.1)
 |[_,_],b,fin,l,e=>abg (λy k x1 x2=>b y (λe=>k (e.1) (e.2.1)) (x1,x2,())) (λx1 x2=>fin (x1,x2,())) l (e.1) (e.2.1)
 |[_,_,_],b,fin,l,e=>VV (λy k x1 x2 x3=>b y (λe=>k (e.1) (e.2.1) (e.2.2.1)) (x1,x2,x3,())) (λx1 x2 x3=>fin (x1,x2,x3,())) l (e.1) (e.2.1) (e.2.2.1)
 |[_,_,_,_],b,fin,l,e=>abf (λy k x1 x2 x3 x4=>b y (λe=>k (e.1) (e.2.1) (e.2.2.1) (e.2.2.2.1)) (x1,x2,x3,x4,())) (λx1 x2 x3 x4=>fin (x1,x2,x3,x4,())) l (e.1) (e.2.1) (e.2.2.1) (e.2.2.2.1)
 |[_,_,_,_,_],b,fin,l,e=>abe (λy k x1 x2 x3 x4 x5=>b y (λe=>k (e.1) (e.2.1) (e.2.2.1) (e.2.2.2.1) (e.2.2.2.2.1)) (x1,x2,x3,x4,x5,())) (λx1 x2 x3 x4 x5=>fin (x1,x2,x3,x4,x5,())) l (e.1) (e.2.1) (e.2.2.1) (e.2.2.2.1) (e.2.2.2.2.1)
 |[_,_,_,_,_,_],b,fin,l,e=>abd (λy k x1 x2 x3 x4 x5 x6=>b y (λe=>k (e.1) (e.2.1) (e.2.2.1) (e.2.2.2.1) (e.2.2.2.2.1) (e.2.2.2.2.2.1)) (x1,x2,x3,x4,x5,x6,())) (λx1 x2 x3 x4 x5 x6=>fin (x1,x2,x3,x4,x5,x6,())) l (e.1) (e.2.1) (e.2.2.1) (e.2.2.2.1) (e.2.2.2.2.1) (e.2.2.2.2.2.1)
 |[_,_,_,_,_,_,_],b,fin,l,e=>abb (λy k x1 x2 x3 x4 x5 x6 x7=>b y (λe=>k (e.1) (e.2.1) (e.2.2.1) (e.2.2.2.1) (e.2.2.2.2.1) (e.2.2.2.2.2.1) (e.2.2.2.2.2.2.1)) (x1,x2,x3,x4,x5,x6,x7,())) (λx1 x2 x3 x4 x5 x6 x7=>fin (x1,x2,x3,x4,x5,x6,x7,())) l (e.1) (e.2.1) (e.2.2.1) (e.2.2.2.1) (e.2.2.2.2.1) (e.2.2.2.2.2.1) (e.2.2.2.2.2.2.1)
 |[_,_,_,_,_,_,_,_],b,fin,l,e=>aa9 (λy k x1 x2 x3 x4 x5 x6 x7 x8=>b y (λe=>k (e.1) (e.2.1) (e.2.2.1) (e.2.2.2.1) (e.2.2.2.2.1) (e.2.2.2.2.2.1) (e.2.2.2.2.2.2.1) (e.2.2.2.2.2.2.2.1)) (x1,x2,x3,x4,x5,x6,x7,x8,())) (λx1 x2 x3 x4 x5 x6 x7 x8=>fin (x1,x2,x3,x4,x5,x6,x7,x8,())) l (e.1) (e.2.1) (e.2.2.1) (e.2.2.2.1) (e.2.2.2.2.1) (e.2.2.2.2.2.1) (e.2.2.2.2.2.2.1) (e.2.2.2.2.2.2.2.1)
 |_,_,_,_,_ =>none
theorem Sy{B Z:Type}:∀{l:List Ty} {b:B->(HL G l->Option Z)->HL G l->Option Z} {fin:HL G l->Option Z} {e:HL G l} {z:Z},itE l b fin [] e=some z->fin e=some z:=by
 intro l b fin e z h
 match l,b,fin,e,h with
 |[],b,fin,e,h=>exact h
 |[_],b,fin,e,h=>exact h
 |[_,_],b,fin,e,h=>exact h
 |[_,_,_],b,fin,e,h=>exact h
 |[_,_,_,_],b,fin,e,h=>exact h
 |[_,_,_,_,_],b,fin,e,h=>exact h
 |[_,_,_,_,_,_],b,fin,e,h=>exact h
 |[_,_,_,_,_,_,_],b,fin,e,h=>exact h
 |[_,_,_,_,_,_,_,_],b,fin,e,h=>exact h
 |_ ::_ ::_ ::_ ::_ ::_ ::_ ::_ ::_ ::_,b,fin,e,h=>cases h
theorem O9{B Z:Type}:∀{l:List Ty} {b:B->(HL G l->Option Z)->HL G l->Option Z} {fin:HL G l->Option Z} {y:B} {q:List B} {e:HL G l} {z:Z},itE l b fin (y::q) e=some z->b y (itE l b fin q) e=some z:=by
 intro l b fin y q e z h
 match l,b,fin,e,h with
 |[],b,fin,e,h=>exact h
 |[_],b,fin,e,h=>exact h
 |[_,_],b,fin,e,h=>exact h
 |[_,_,_],b,fin,e,h=>exact h
 |[_,_,_,_],b,fin,e,h=>exact h
 |[_,_,_,_,_],b,fin,e,h=>exact h
 |[_,_,_,_,_,_],b,fin,e,h=>exact h
 |[_,_,_,_,_,_,_],b,fin,e,h=>exact h
 |[_,_,_,_,_,_,_,_],b,fin,e,h=>exact h
 |_ ::_ ::_ ::_ ::_ ::_ ::_ ::_ ::_ ::_,b,fin,e,h=>cases h
inductive Src where
 |slot (d:Nat)
 |obj (r:Nat)
structure IA where
 l:List (Src×Sh)
 nm:List (Option Nat)
def o7:List (Src×Sh)->Sh
 |[]=> .nil
 |(_,s)::r=> .cons s (o7 r)
def AU(C:CC G)(S:AS G):List (Src×Sh)->Option (AV G)
 |[]=>some .nil
 |(.slot d,_)::r=>match ei C S [] (.tmp d),AU C S r with
  |some v,some l=>some (.cons v l)
  |_,_ =>none
 |(.obj b,_)::r=>match bY S.O b,AU C S r with
  |some (.bT _ _),some l=>some (.cons (.ptr b []) l)
  |some (.row _ _ _ _),some l=>some (.cons (.row b) l)
  |_,_ =>none
def s0:List (Option Nat)->List Nat->Bool
 |[],[]=>true
 |some r::q,s::th=>Nat.beq r s&&s0 q th
 |none::q,_ ::th=>s0 q th
 |_,_ =>false
def Jp(base:Nat)(nm:List (Option Nat))(m:Nat):Nat:=match nm[m]? with
 |some (some r)=>r
 |_ =>base+m
def s5(base:Nat):List (Option Nat)->Bool
 |[]=>true
 |some r::q=>Nat.blt r base&&s5 base q
 |none::q=>s5 base q
def Du:List (Src×Sh)->AV G->Fr G
 |(.slot d,_)::r, .cons v l=>(d,v)::Du r l
 |(.obj _,_)::r, .cons _ l=>Du r l
 |_,_ =>[]
def AV.lt(n:Nat):AV G->Bool
 | .ptr r _ =>Nat.blt r n
 | .row r=>Nat.blt r n
 | .A0 r _ _ _ _ _ =>Nat.blt r n
 | .mp r=>Nat.blt r n
 | .yl r=>Nat.blt r n
 | .fn _ a c=>a.lt n&&c.lt n
 | .st a=>a.lt n
 | .gS a=>a.lt n
 | .gP _ v=>v.lt n
 | .gd _ _ v=>v.lt n
 | .cons a b=>a.lt n&&b.lt n
 | .part _ a b=>a.lt n&&b.lt n
 |_ =>true
theorem rl.dI{n:Nat}(m:∀r,r<n->ρ' r=ρ r):∀{v:AV G} {l:List Value},v.lt n=true->rl J ρ v l->rl J ρ' v l:=by
 intro v
 induction v with
 |ptr r p=>intro l h1 h;have hr:=m r (by simpa[AV.lt,Nat.blt_eq]using h1);obtain⟨⟨b,o,k1,k2⟩,k3⟩:=h;refine⟨⟨b,o,?_,k2⟩,k3⟩;unfold PB at k1 ⊢;rw[hr];exact k1
 |A0 r p n' sz up i=>intro l h1 h;have hr:=m r (by simpa[AV.lt,Nat.blt_eq]using h1);obtain⟨⟨b,o,k1,k2⟩,k3⟩:=h;refine⟨⟨b,o,?_,k2⟩,k3⟩;unfold PB at k1 ⊢;rw[hr];exact k1
 |row r=>intro l h1 h;unfold rl at h ⊢;rw[m r (by simpa[AV.lt,Nat.blt_eq]using h1)];exact h
 |mp r=>intro l h1 h;unfold rl at h ⊢;rw[m r (by simpa[AV.lt,Nat.blt_eq]using h1)];exact h
 |yl r=>intro l h1 h;unfold rl at h ⊢;rw[m r (by simpa[AV.lt,Nat.blt_eq]using h1)];exact h
 |fn f a c jE zI=>intro l h1 h;simp only[AV.lt,aiC]at h1;obtain⟨fs,cs,e,h2,h3⟩:=h;exact⟨fs,cs,e,jE h1.1 h2,zI h1.2 h3⟩
 |st a ih=>intro l h1 h;obtain⟨cs,e,h2,h3⟩:=h;exact⟨cs,e,ih h1 h2,h3⟩
 |gS a ih=>intro l h1 h;obtain⟨vs,e,h2⟩:=h;exact⟨vs,e,ih h1 h2⟩
 |gP t v ih=>intro l h1 h;obtain⟨u,e,h2⟩:=h;exact⟨u,e,ih h1 h2⟩
 |cons a b jE oD=>intro l h1 h;simp only[AV.lt,aiC]at h1;obtain⟨u,r,e,h2,h3⟩:=h;exact⟨u,r,e,jE h1.1 h2,oD h1.2 h3⟩
 |part w a b jE oD=>intro l h1 h;simp only[AV.lt,aiC]at h1;obtain⟨c1,c2,u,e,h2,h3,h4,h5⟩:=h;exact⟨c1,c2,u,e,h2,jE h1.1 h3,h4,oD h1.2 h5⟩
 |_ =>intro l _ h;exact h
def O5(n:Nat):Fr G->Bool
 |[]=>true
 |(_,v)::r=>v.lt n&&O5 n r
def qJ(n:Nat):Os G->Bool
 |[]=>true
 |(r, .bT _ c)::q=>Nat.blt r n&&(c.lt n&&qJ n q)
 |(r, .row _ _ _ _)::q=>Nat.blt r n&&qJ n q
 |(r, .aux _)::q=>Nat.blt r n&&qJ n q
 |(r, .gm)::q=>Nat.blt r n&&qJ n q
 |(r, .fm _ _ vs)::q=>Nat.blt r n&&(vs.lt n&&qJ n q)
 |(r, .lp _ _ vs _ _ _)::q=>Nat.blt r n&&(vs.lt n&&qJ n q)
def Si(n:Nat):List (AV G)->Bool
 |[]=>true
 |v::r=>v.lt n&&Si n r
def uN(n:Nat):CC G->Bool
 |[]=>true
 |y::r=>O5 n y.F&&(qJ n y.O&&(Si n y.D&&uN n r))
theorem Ud{n:Nat}:∀{F:Fr G} {d:Nat} {v:AV G},O5 n F=true->bY F d=some v->v.lt n=true:=by
 intro F
 induction F with
 |nil=>intro d v _ h;cases h
 |cons p r ih=>
  obtain⟨k,u⟩:=p;intro d v h e;simp only[O5,aiC]at h;simp only[bY]at e;cases hb:Nat.beq k d with
  |true=>rw[hb]at e;cases e;exact h.1
  |false=>rw[hb]at e;exact ih h.2 e
theorem rf.dI{n:Nat}(m:∀r,r<n->ρ' r=ρ r){t:Array Value}{v:AV G}{u:Value}(h1:v.lt n=true)(h:rf J ρ t v u):rf J ρ' t v u:=by
 cases v with
 |gd j w v=>exact⟨λe=>(h.1 e).dI m h1,h.2⟩
 |_ =>exact rl.dI m h1 h
theorem mW.dI{n:Nat}(m:∀r,r<n->ρ' r=ρ r){F:Fr G}{t:Array Value}(h1:O5 n F=true)(h:mW J ρ F t):mW J ρ' F t:=λd v e=>by obtain⟨u,k1,k2⟩:=h d v e;exact⟨u,k1,k2.dI m (Ud h1 e)⟩
def Ob.lt(n:Nat):Ob G->Bool
 | .bT _ c=>c.lt n
 | .fm _ _ vs=>vs.lt n
 | .lp _ _ vs _ _ _ =>vs.lt n
 |_ =>true
theorem O4{n:Nat}:∀{O:Os G} {r:Nat} {o:Ob G},qJ n O=true->bY O r=some o->(Nat.blt r n&&o.lt n)=true:=by
 intro O
 induction O with
 |nil=>intro r o _ h;cases h
 |cons p q ih=>
  obtain⟨k,u⟩:=p;intro r o h e;have h2:(Nat.blt k n&&u.lt n)=true/\qJ n q=true:=by
   cases u with
   |bT T c=>simp only[qJ,aiC]at h;exact⟨by simp[Ob.lt,h.1,h.2.1],h.2.2⟩
   |row _ _ _ _ =>simp only[qJ,aiC]at h;exact⟨by simp[Ob.lt,h.1],h.2⟩
   |aux _ =>simp only[qJ,aiC]at h;exact⟨by simp[Ob.lt,h.1],h.2⟩
   |gm=>simp only[qJ,aiC]at h;exact⟨by simp[Ob.lt,h.1],h.2⟩
   |fm _ _ _ =>simp only[qJ,aiC]at h;exact⟨by simp[Ob.lt,h.1,h.2.1],h.2.2⟩
   |lp _ _ _ _ _ _ =>simp only[qJ,aiC]at h;exact⟨by simp[Ob.lt,h.1,h.2.1],h.2.2⟩
  simp only[bY]at e;cases hb:Nat.beq k r with
  |true=>rw[hb]at e;cases e;rw[← aiB hb];exact h2.1
  |false=>rw[hb]at e;exact ih h2.2 e
theorem ro.dI{n:Nat}(m:∀r,r<n->ρ' r=ρ r){r:Nat}{o:Ob G}{x:aF}(h:ro J ρ r o x)(hl:(Nat.blt r n&&o.lt n)=true):ro J ρ' r o x:=by
 rw[aiC]at hl;have hr:=m r (by simpa[Nat.blt_eq]using hl.1);cases o with
 |bT T c=>obtain⟨b,u,k1,k2,k3⟩:=h;exact⟨b,u,hr.trans k1,k2,k3.dI m hl.2⟩
 |row e sz t xs=>obtain⟨v,ws,k1,k2⟩:=h;exact⟨v,ws,hr.trans k1,k2⟩
 |aux b=>obtain⟨n,x,k1,k2⟩:=h;exact⟨n,x,hr.trans k1,k2⟩
 |gm=>obtain⟨⟨mb,g,k1,k2⟩,k4⟩:=h;exact⟨⟨mb,g,hr.trans k1,k2⟩,k4⟩
 |fm q ks vs=>obtain⟨b,es,ck,us,k1,k2,k3,k4,k5⟩:=h;exact⟨b,es,ck,us,hr.trans k1,k2,k3,k4.dI m hl.2,k5⟩
 |lp N ks vs ps a b=>obtain⟨n,rec,us,k1,k2,k3,k4⟩:=h;exact⟨n,rec,us,hr.trans k1,k2,k3.dI m hl.2,k4⟩
theorem RO.dI{n:Nat}(m:∀r,r<n->ρ' r=ρ r){O:Os G}{H:List aF}(h:RO J ρ O H):qJ n O=true->RO J ρ' O H:=by
 induction h with
 |nil=>intro _;exact .nil
 |@cons r o x O H h _ ih=>
  intro hl;cases o with
  |bT T c=>simp only[qJ,aiC]at hl;obtain⟨b,u,k1,k2,k3⟩:=h;exact .cons ⟨b,u,(m r (by simpa[Nat.blt_eq]using hl.1)).trans k1,k2,k3.dI m hl.2.1⟩ (ih hl.2.2)
  |row e sz t xs=>simp only[qJ,aiC]at hl;obtain⟨v,ws,k1,k2⟩:=h;exact .cons ⟨v,ws,(m r (by simpa[Nat.blt_eq]using hl.1)).trans k1,k2⟩ (ih hl.2)
  |aux b=>simp only[qJ,aiC]at hl;obtain⟨v,ws,k1,k2⟩:=h;exact .cons ⟨v,ws,(m r (by simpa[Nat.blt_eq]using hl.1)).trans k1,k2⟩ (ih hl.2)
  |gm=>simp only[qJ,aiC]at hl;obtain⟨⟨mb,g,k1,k2⟩,k4⟩:=h;exact .cons ⟨⟨mb,g,(m r (by simpa[Nat.blt_eq]using hl.1)).trans k1,k2⟩,k4⟩ (ih hl.2)
  |fm q ks vs=>simp only[qJ,aiC]at hl;obtain⟨b,es,ck,us,k1,k2,k3,k4,k5⟩:=h;exact .cons ⟨b,es,ck,us,(m r (by simpa[Nat.blt_eq]using hl.1)).trans k1,k2,k3,k4.dI m hl.2.1,k5⟩ (ih hl.2.2)
  |lp N ks vs ps a b=>simp only[qJ,aiC]at hl;obtain⟨n,rec,us,k1,k2,k3,k4⟩:=h;exact .cons ⟨n,rec,us,(m r (by simpa[Nat.blt_eq]using hl.1)).trans k1,k2,k3.dI m hl.2.1,k4⟩ (ih hl.2.2)
theorem DR.dI{n:Nat}(m:∀r,r<n->ρ' r=ρ r){l:List (AV G)}{D:List Deferred}(h:DR J ρ l D):Si n l=true->DR J ρ' l D:=by
 induction h with
 |nil=>intro _;exact .nil
 |@cons v d l D h _ ih=>
  intro hl;simp only[Si,aiC]at hl;refine .cons ?_ (ih hl.2);unfold dr at h;split at h
  ·simp only[AV.lt,aiC]at hl
   obtain⟨fs,cs,ls,k1,k2,k3,k4⟩:=h;exact⟨fs,cs,ls,k1.dI m hl.1.1.1,k2.dI m hl.1.1.2,k3.dI m hl.1.2,k4⟩
  ·obtain⟨rfl,b,k1,k2⟩:=h
   exact⟨rfl,b,(m _ (by simpa[AV.lt,Nat.blt_eq]using hl.1)).trans k1,k2⟩
  ·exact h.elim
theorem O6{n:Nat}:∀{C:CC G},uN n C=true->∀y∈C,O5 n y.F=true:=by
 intro C
 induction C with
 |nil=>intro _ y h;cases h
 |cons x r ih=>
  intro h y hy;simp only[uN,aiC]at h;rcases List.mem_cons.1 hy with rfl|hy
  ·exact h.1
  ·exact ih h.2.2.2 y hy
theorem Se{n:Nat}:∀{A B:Os G},qJ n A=true->qJ n B=true->qJ n (A++B)=true:=by
 intro A
 induction A with
 |nil=>intro B _ h;exact h
 |cons p r ih=>
  obtain⟨k,o⟩:=p;intro B h1 h2;cases o<;>simp only[List.cons_append,qJ,aiC]at h1 ⊢
  ·exact⟨h1.1,h1.2.1,ih h1.2.2 h2⟩
  ·exact⟨h1.1,ih h1.2 h2⟩
  ·exact⟨h1.1,ih h1.2 h2⟩
  ·exact⟨h1.1,ih h1.2 h2⟩
  ·exact⟨h1.1,h1.2.1,ih h1.2.2 h2⟩
  ·exact⟨h1.1,h1.2.1,ih h1.2.2 h2⟩
theorem Gm{n:Nat}:∀{A B:List (AV G)},Si n A=true->Si n B=true->Si n (A++B)=true:=by
 intro A
 induction A with
 |nil=>intro B _ h;exact h
 |cons p r ih=>intro B h1 h2;simp only[List.cons_append,Si,aiC]at h1 ⊢;exact⟨h1.1,ih h1.2 h2⟩
theorem BM{n:Nat}:∀{C:CC G},uN n C=true->qJ n (iV C)=true/\Si n (Uz C)=true:=by
 intro C
 induction C with
 |nil=>intro _;exact⟨rfl,rfl⟩
 |cons x r ih=>intro h;simp only[uN,aiC]at h;obtain⟨i1,i2⟩:=ih h.2.2.2;exact⟨Se h.2.1 i1,Gm h.2.2.1 i2⟩
theorem Rq{c:Cx}{N:Nat}{HK X:List aF}{C:CC G}{S:AS G}{a:Act}{w:World}(h:Rl c N ρ J HK X C S a w):∀{l:List (Src×Sh)} {v:AV G},AU C S l=some v->∃us,rl J ρ v us/\∀(x:HL G (aK (o7 l))) (f:Nat->Nat) (m:Nat) (τ:aX),rl J τ (dP f (o7 l) x m).1 us->mW J τ (Du l (dP f (o7 l) x m).1) a.tmps:=by
 intro l
 induction l with
 |nil=>intro v e;cases e;exact⟨[],rfl,λx f m τ _ d v e=>by cases e⟩
 |cons p r ih=>
  obtain⟨s,sh⟩:=p;intro v e;have key:∀(u0:Value) (us:List Value) (x:HL G (aK (o7 ((s,sh)::r)))) (f:Nat->Nat) (m:Nat) (τ:aX),rl J τ (dP f (o7 ((s,sh)::r)) x m).1 (u0::us)->
    rv J τ (dP f sh (HL.fst x) m).1 u0/\rl J τ (dP f (o7 r) (HL.snd x) (dP f sh (HL.fst x) m).2.2).1 us:=λu0 us x f m τ hr=>by
   obtain⟨u,q,e1,h1,h2⟩:=hr;cases e1;exact⟨h1,h2⟩
  cases s with
  |slot d=>
   simp only[AU]at e;split at e
   ·rename_i v1 l1 e1 e2
    cases e;obtain⟨us,i1,i2⟩:=ih e2;have hE:=bX h (ch:=[]) (by simp);have hin:=hE.ev _ _ e1;have hd:a.tmps[d]? =some (a.eval (.tmp d)):=CF a d _ hin;refine⟨a.eval (.tmp d)::us,⟨_,_,rfl,hE.ok _ _ e1,i1⟩,λx f m τ hr=>?_⟩;obtain⟨k1,k2⟩:=key _ _ _ _ _ _ hr;have:=i2 (HL.snd x) f _ τ k2;intro k v e;have e:bY ((d,(dP f sh (HL.fst x) m).1)::Du r (dP f (o7 r) (HL.snd x) (dP f sh (HL.fst x) m).2.2).1) k=some v:=e;simp only[bY]at e;cases hb:Nat.beq d k with
    |true=>
     rw[hb]at e;cases e;obtain rfl:=aiB hb;refine⟨_,hd,?_⟩;have hng:∀j w v',(dP f sh (HL.fst x) m).1≠ .gd j w v':=λj w v' q=>by rw[q]at k1;exact k1
     revert k1;generalize(dP f sh (HL.fst x) m).1=b at hng;intro k1;cases b with
     |gd j w v'=>exact absurd rfl (hng j w v')
     |_ =>exact k1
    |false=>rw[hb]at e;exact this k v e
   ·cases e
  |obj b=>
   simp only[AU]at e;split at e
   ·rename_i T cc l1 e1 e2
    cases e;obtain⟨us,i1,i2⟩:=ih e2;obtain⟨HS,q1,_⟩:=h.hp;obtain⟨k,y,_,⟨b',u,m1,_,_⟩⟩:=q1.get e1;refine⟨cE b' 0::us,⟨_,_,rfl,⟨⟨b',0, .inl m1,rfl⟩,by simp⟩,i1⟩,λx f m τ hr=>?_⟩;obtain⟨k1,k2⟩:=key _ _ _ _ _ _ hr;exact i2 (HL.snd x) f _ τ k2
   ·rename_i e9 z9 t9 xs9 l1 e1 e2
    cases e;obtain⟨us,i1,i2⟩:=ih e2;obtain⟨HS,q1,_⟩:=h.hp;obtain⟨k,y,_,⟨v9,ws9,m1,_,m3,_⟩⟩:=q1.get e1;obtain⟨a9,c9,rfl⟩:=m3;refine⟨_ ::us,⟨_,_,rfl,⟨_,_,_,m1,rfl⟩,i1⟩,λx f m τ hr=>?_⟩;obtain⟨k1,k2⟩:=key _ _ _ _ _ _ hr;exact i2 (HL.snd x) f _ τ k2
   ·cases e
theorem OV:∀{nm:List (Option Nat)} {th:List Nat},s0 nm th=true->nm.length=th.length/\∀(m r:Nat),nm[m]? =some (some r)->th[m]? =some r:=by
 intro nm
 induction nm with
 |nil=>intro th h;cases th with
  |nil=>exact⟨rfl,λm r e=>by simp at e⟩
  |cons _ _ =>cases h
 |cons o q ih=>
  intro th h;cases th with
  |nil=>cases o<;>cases h
  |cons s th=>
   have h1:s0 q th=true/\∀r,o=some r->r=s:=by
    cases o with
    |none=>exact⟨h,nofun⟩
    |some r=>simp only[s0,aiC]at h;exact⟨h.2,λr' e=>by cases e;exact aiB h.1⟩
   obtain⟨i1,i2⟩:=ih h1.1;refine⟨by simp[i1],λm r e=>?_⟩;cases m with
   |zero=>simp at e;simp[h1.2 r e]
   |succ m=>simpa using i2 m r (by simpa using e)
theorem OW{base:Nat}:∀{nm:List (Option Nat)},s5 base nm=true->∀(m r:Nat),nm[m]? =some (some r)->r<base:=by
 intro nm
 induction nm with
 |nil=>intro _ m r e;simp at e
 |cons o q ih=>
  intro h m r e;cases m with
  |zero=>simp at e;subst e;simp only[s5,aiC]at h;simpa[Nat.blt_eq]using h.1
  |succ m=>
   refine ih ?_ m r (by simpa using e);cases o with
   |none=>exact h
   |some _ =>simp only[s5,aiC]at h;exact h.2
def EP(g:IA)(base:Nat)(x:HL G (aK (o7 g.l))):AS G:=⟨Du g.l (dP (Jp base g.nm) (o7 g.l) x 0).1,(dP (Jp base g.nm) (o7 g.l) x 0).2.1,base+g.nm.length,[]⟩
def DP(C:CC G)(S:AS G)(g:IA)(base:Nat):Option (HL G (aK (o7 g.l))):=match S.D with
 |[]=>match AU C S g.l with
  |some v=>match j0 (o7 g.l) v ⟨[],S.O,S.nx⟩with
   |some (x,g')=>bif s0 g.nm g'.th&&(s5 base g.nm&&Nat.ble base S.nx)then some x else none
   |none=>none
  |none=>none
 |_ =>none
theorem KF{c:Cx}{N:Nat}{HK X:List aF}{C:CC G}{S:AS G}{a:Act}{w:World}{g:IA}{base:Nat}{v:AV G}{x:HL G (aK (o7 g.l))}{g':GS G}(h:Rl c N ρ J HK X C S a w)(hv:AU C S g.l=some v)(Fy:j0 (o7 g.l) v ⟨[],S.O,S.nx⟩=some (x,g'))
  (b1:s0 g.nm g'.th=true)(b2:s5 base g.nm=true)(b3:base<=S.nx)(hl:uN base C=true):
  ∃(ρ' ρ2:aX) (HB H':List aF),ρ.to ρ' base/\ρ.to ρ2 S.nx/\RO J ρ' (EP g base x).O HB/\RO J ρ2 g'.O H'/\(∀r o,bY (iV C) r=some o->∃x∈HK,ro J ρ' r o x)/\bq c.bs c.w0.heap.size (HB++(H'++(HK++X))) w/\mW J ρ' (EP g base x).F a.tmps/\FC J ρ' C a.tmps/\ρ'.fr (base+g.nm.length):=by
 obtain⟨n1,n2⟩:=OV b1;have n3:=OW b2;obtain⟨us,i1,i2⟩:=Rq h hv;obtain⟨HS,q1,q3⟩:=h.hp;obtain⟨ρ2,HB,H',k⟩:=DQ Fy i1 q1 h.fr;let ρ':aX:=λr=>if r<base then ρ r else cmp ρ2 g'.th (r-base)
 have hto:ρ.to ρ' base:=λr hr=>by show(if r<base then _ else _)=_;rw[aiz hr]
 have hmap:∀m u,cmp ρ2 g'.th m=some u->ρ' (Jp base g.nm m)=some u:=λm u e=>by
  have hm:m<g.nm.length:=by
   unfold cmp at e;rcases Nat.lt_or_ge m g'.th.length with hlt|hge
   ·omega
   ·rw[List.getElem?_eq_none hge]at e;cases e
  unfold Jp;obtain⟨o,ho⟩:∃o,g.nm[m]? =some o:=⟨_,aiI hm⟩;rw[ho];cases o with
  |none=>show(if base+m<base then _ else cmp ρ2 g'.th (base+m-base))=_;rw[aiA (by omega),Nat.add_sub_cancel_left];exact e
  |some r=>have hr:=n3 m r ho;have ht:=n2 m r ho;unfold cmp at e;rw[ht]at e;show(if r<base then ρ r else _)=_;rw[aiz hr, ← k.to r (by show r<S.nx;omega)];exact e
 obtain⟨r1,r2,_⟩:=zX (G:=G) (f:=Jp base g.nm) (s:=o7 g.l) (x:=x) (m:=0);have hval:rl J ρ' (dP (Jp base g.nm) (o7 g.l) x 0).1 us:=by rw[r1];exact Dv hmap k.val
 have DO:RO J ρ' (dP (Jp base g.nm) (o7 g.l) x 0).2.1 HB:=by rw[r2];exact Kw hmap k.bT
 have hag:∀r,r<base->ρ' r=ρ r:=hto;obtain⟨l1,l2⟩:=BM hl;refine⟨ρ',ρ2,HB,H',hto,k.to,DO,k.left,λr o e=>?_,k.hp (HK++X) _ _ _ q3,i2 x _ 0 ρ' hval,λz hz=>(h.fc z hz).dI hag (O6 hl z hz),λr hr=>?_⟩
 ·obtain⟨y,y1,y2⟩:=h.kc r o e
  exact⟨y,y1,y2.dI hag (O4 l1 e)⟩
 show(if r<base then ρ r else cmp ρ2 g'.th (r-base))=none;rw[aiA (by omega)];unfold cmp;rw[List.getElem?_eq_none (by omega)]
theorem Sc{c:Cx}{N:Nat}{HK X:List aF}{C:CC G}{S:AS G}{a:Act}{w:World}{g:IA}{base:Nat}{x:HL G (aK (o7 g.l))}(h:Rl c N ρ J HK X C S a w)(hg:DP C S g base=some x)(hl:uN base C=true):
  ∃ρ',ρ.to ρ' base/\Rl c N ρ' J HK X C (EP g base x) a w:=by
 unfold DP at hg;split at hg
 ·rename_i hD
  split at hg
  ·rename_i v hv
   split at hg
   ·rename_i y g' Fy
    cases hb:(s0 g.nm g'.th&&(s5 base g.nm&&Nat.ble base S.nx))with
    |false=>rw[hb]at hg;cases hg
    |true=>rw[hb]at hg;cases hg;simp only[aiC]at hb;obtain⟨b1,b2,b3⟩:=hb;obtain⟨ρ',ρ2,HB,H',hto,_,DO,_,hC,hp,hF,hfc,hfr⟩:=KF h hv Fy b1 b2 (Nat.le_of_ble_eq_true b3) hl;have hdf:=h.df;rw[hD]at hdf;refine⟨ρ',hto,h.tm,hdf.dI hto (BM hl).2,h.si,hF,hfc,hC,⟨HB,DO,?_⟩,h.kn,hfr⟩;exact hp.sub ((List.Sublist.refl HB).append (List.sublist_append_right H' (HK++X)))
   ·cases hg
  ·cases hg
 ·cases hg
def cv:List Nat->Nat->Bool
 |[],_ =>false
 |k::r,d=>Nat.beq k d||cv r d
def vJ:List (Src×Sh)->Nat->Bool
 |[],_ =>false
 |(.slot k,_)::r,d=>Nat.beq k d||vJ r d
 |(.obj _,_)::r,d=>vJ r d
def gw(p:Nat->Bool):Fr G->Fr G
 |[]=>[]
 |(k,v)::r=>bif p k then(k,v)::gw p r else gw p r
theorem SZ{p:Nat->Bool}:∀{F:Fr G} {d:Nat} {v:AV G},bY (gw p F) d=some v->bY F d=some v:=by
 intro F
 induction F with
 |nil=>intro d v h;cases h
 |cons q r ih=>
  obtain⟨k,u⟩:=q;intro d v h;have key:∀{G0:Fr G},(∀x,(k,x)∉G0)->True:=λ_ =>trivial;simp only[gw]at h;cases hp:p k with
  |true=>
   rw[hp]at h;simp only[cond_true,bY]at h ⊢;cases hb:Nat.beq k d with
   |true=>rw[hb]at h;exact h
   |false=>rw[hb]at h;exact ih h
  |false=>
   rw[hp]at h;simp only[cond_false]at h;simp only[bY];cases hb:Nat.beq k d with
   |true=>
    obtain rfl:=aiB hb;exact absurd h (by
     have:∀{F:Fr G},bY (gw p F) k=none:=by
      intro F
      induction F with
      |nil=>rfl
      |cons q r ih=>
       obtain⟨k',u'⟩:=q;simp only[gw];cases hp':p k' with
       |true=>
        simp only[cond_true,bY];cases hb':Nat.beq k' k with
        |true=>rw[aiB hb']at hp';rw[hp]at hp';cases hp'
        |false=>exact ih
       |false=>exact ih
     rw[this];simp)
   |false=>exact ih h
theorem mW.Ra{p:Nat->Bool}{F:Fr G}{t:Array Value}(h:mW J ρ F t):mW J ρ (gw p F) t:=λd v e=>h d v (SZ e)
def bS(p:Nat->Bool):Os G->Os G
 |[]=>[]
 |(k,v)::r=>bif p k then(k,v)::bS p r else bS p r
theorem RO.Ra{p:Nat->Bool}{O:Os G}{H:List aF}(h:RO J ρ O H):∃H1 H2,RO J ρ (bS p O) H1/\RO J ρ (bS (λk=> !p k) O) H2/\H.Perm (H1++H2):=by
 induction h with
 |nil=>exact⟨[],[], .nil, .nil, .refl _⟩
 |@cons r o x O H h _ ih=>
  obtain⟨H1,H2,i1,i2,i3⟩:=ih;simp only[bS];cases hp:p r with
  |true=>exact⟨x::H1,H2, .cons h i1,by simpa[hp]using i2,i3.cons x⟩
  |false=>exact⟨H1,x::H2,by simpa[hp]using i1, .cons h i2,(i3.cons x).trans List.perm_middle.symm⟩
def G8(y:Ly G)(S:AS G):AS G:=⟨S.F++y.F,S.O++y.O,S.nx,S.D++y.D⟩
theorem ic{α:Type}:∀{A B:List (Nat×α)} {d:Nat},bY (A++B) d=match bY A d with
  |some v=>some v
  |none=>bY B d:=by
 intro A
 induction A with
 |nil=>intro B d;rfl
 |cons q r ih=>
  obtain⟨k,u⟩:=q;intro B d;simp only[List.cons_append,bY];cases hb:Nat.beq k d with
  |true=>rfl
  |false=>exact ih
theorem RO.lk{O:Os G}{H:List aF}(h:RO J ρ O H){r:Nat}{o:Ob G}(e:bY O r=some o):∃x∈H,ro J ρ r o x:=by obtain⟨k,x,h1,h2⟩:=h.get e;exact⟨x,List.mem_of_getElem? h1,h2⟩
theorem Rl.G8{c:Cx}{N:Nat}{H2 HK X:List aF}{y:Ly G}{C:CC G}{S:AS G}{a:Act}{w:World}(h:Rl c N ρ J (H2++HK) X (y::C) S a w)(hy:RO J ρ y.O H2)(hk:∀r o,bY (iV C) r=some o->∃x∈HK,ro J ρ r o x)(hn:uD (iV C)=true->c.ro=none):Rl c N ρ J HK X C (G8 y S) a w:=by
 obtain⟨HS,q1,q3⟩:=h.hp;refine⟨h.tm,?_,⟨h.si.s,hn⟩,λd v e=>?_,λz hz=>h.fc z (aiL _ hz),hk,⟨HS++H2,q1.app hy,by simpa using q3⟩,h.kn,h.fr⟩
 ·have:=h.df
  show DR J ρ ((S.D++y.D)++Uz C) a.defers;rw[List.append_assoc];exact this
 ·have e:bY (S.F++y.F) d=some v:=e
  rw[ic]at e;split at e
  ·rename_i v' hv;cases e;exact h.fs d _ hv
  ·exact h.fc y List.mem_cons_self d v e
theorem Rl.push{c:Cx}{N:Nat}{HK X:List aF}{C:CC G}{S:AS G}{a:Act}{w:World}(p q:Nat->Bool)(h:Rl c N ρ J HK X C S a w):∃H2,RO J ρ (bS (λr=> !q r) S.O) H2/\Rl c N ρ J (H2++HK) X (⟨gw (λd=> !p d) S.F,bS (λr=> !q r) S.O,S.D⟩::C) ⟨gw p S.F,bS q S.O,S.nx,[]⟩ a w:=by
 obtain⟨HS,q1,q3⟩:=h.hp;obtain⟨H1,H2,k1,k2,k3⟩:=q1.Ra (p:=q);refine⟨H2,k2,h.tm,h.df,⟨h.si.s,λq=>h.si.n (zB q)⟩,h.fs.Ra,λz hz=>?_,λr o e=>?_,⟨H1,k1,?_⟩,h.kn,h.fr⟩
 ·rcases List.mem_cons.1 hz with rfl|hz
  ·exact h.fs.Ra
  ·exact h.fc z hz
 ·have e:bY (bS (λr=> !q r) S.O++iV C) r=some o:=e
  rw[ic]at e;split at e
  ·rename_i v' hv
   cases e;obtain⟨x,h1,h2⟩:=k2.lk hv;exact⟨x,aiG _ h1,h2⟩
  ·obtain⟨x,h1,h2⟩:=h.kc r o e
   exact⟨x,aiF _ h1,h2⟩
 ·refine q3.gK ?_
  have:=List.Perm.append_right (HK++X) k3;simpa using this
end Go.Rw
namespace Go.Rw
open Go Go.Bw Go.RowKit
variable {G:Sg} {P:Program} {J J':World->Prop} {ρ ρ' σ:aX}
def sb(r:Nat)(t:Ty)(xs:List (t.T G)):AV G->AV G
 | .row q=>bif Nat.beq q r then .dat (.sl t) xs else .row q
 | .fn k a c=> .fn k (sb r t xs a) (sb r t xs c)
 | .st a=> .st (sb r t xs a)
 | .gS a=> .gS (sb r t xs a)
 | .gP k v=> .gP k (sb r t xs v)
 | .gd j w v=> .gd j w (sb r t xs v)
 | .cons a b=> .cons (sb r t xs a) (sb r t xs b)
 | .part w a b=> .part w (sb r t xs a) (sb r t xs b)
 |v=>v
def sbF(r:Nat)(t:Ty)(xs:List (t.T G)):Fr G->Fr G
 |[]=>[]
 |(k,v)::q=>(k,sb r t xs v)::sbF r t xs q
def sbB(r:Nat)(t:Ty)(xs:List (t.T G)):Ob G->Ob G
 | .bT T c=> .bT T (sb r t xs c)
 |o=>o
def sbO(r:Nat)(t:Ty)(xs:List (t.T G)):Os G->Os G
 |[]=>[]
 |(k,o)::q=>(k,sbB r t xs o)::sbO r t xs q
def sbD(r:Nat)(t:Ty)(xs:List (t.T G)):List (AV G)->List (AV G)
 |[]=>[]
 |v::q=>sb r t xs v::sbD r t xs q
def JK(r:Nat)(S:AS G):AS G:=match bY S.O r with
 |some (.row _ _ t xs)=>⟨sbF r t xs S.F,sbO r t xs (tg S.O r),S.nx,sbD r t xs S.D⟩
 |_ =>S
def vK:List Nat->AS G->AS G
 |[],S=>S
 |r::q,S=>vK q (JK r S)
def tn(O:Os G):Sh->AV G->List Nat
 | .v _, .row r=>[r]
 | .box _ s, .ptr r []=>match bY O r with
  |some (.bT _ c)=>tn O s c
  |_ =>[]
 | .fn _ a c, .fn _ x y=>tn O a x++tn O c y
 | .gS a, .gS x=>tn O a x
 | .st a, .st x=>tn O a x
 | .gP _ a, .gP _ x=>tn O a x
 | .cons a b, .cons x y=>tn O a x++tn O b y
 | .part _ a b, .part _ x y=>tn O a x++tn O b y
 |_,_ =>[]
section
variable {r:Nat} {t:Ty} {xs:List (t.T G)}
theorem Fc(hr:∀u,ρ r=some u->sX J (.sl t) xs u):∀{v:AV G} {l:List Value},rl J ρ v l->rl J ρ (sb r t xs v) l:=by
 intro v
 induction v with
 |row q=>
  intro l h;unfold sb;cases hb:Nat.beq q r with
  |false=>exact h
  |true=>obtain rfl:=aiB hb;obtain⟨a,n,cap,h1,h2⟩:=h;exact⟨_,h2,hr _ h1⟩
 |fn f a c jE zI=>intro l h;obtain⟨fs,cs,e,h1,h2⟩:=h;exact⟨fs,cs,e,jE h1,zI h2⟩
 |st a ih=>intro l h;obtain⟨cs,e,h1,h2⟩:=h;exact⟨cs,e,ih h1,h2⟩
 |gS a ih=>intro l h;obtain⟨vs,e,h1⟩:=h;exact⟨vs,e,ih h1⟩
 |gP t v ih=>intro l h;obtain⟨u,e,h1⟩:=h;exact⟨u,e,ih h1⟩
 |cons a b jE oD=>intro l h;obtain⟨u,r,e,h1,h2⟩:=h;exact⟨u,r,e,jE h1,oD h2⟩
 |part w a b jE oD=>intro l h;obtain⟨c1,c2,u,e,h1,h2,h3,h4⟩:=h;exact⟨c1,c2,u,e,h1,jE h2,h3,oD h4⟩
 |_ =>intro l h;exact h
theorem aaD(hr:∀u,ρ r=some u->sX J (.sl t) xs u){tm:Array Value}{v:AV G}{u:Value}(h:rf J ρ tm v u):rf J ρ tm (sb r t xs v) u:=by
 have key:∀{v:AV G},rv J ρ v u->rf J ρ tm (sb r t xs v) u:=λ{v} hv=>by
  have h2:=Fc (xs:=xs) hr hv;revert h2;generalize sb r t xs v=y;intro h2;cases y with
  |gd j w v=>exact h2.elim
  |_ =>exact h2
 cases v with
 |gd j w v=>exact⟨λe=>Fc hr (h.1 e),h.2⟩
 |_ =>exact key h
theorem afv(hr:∀u,ρ r=some u->sX J (.sl t) xs u){tm:Array Value}:∀{F:Fr G},mW J ρ F tm->mW J ρ (sbF r t xs F) tm:=by
 intro F;have key:∀{F:Fr G} {d:Nat} {v:AV G},bY (sbF r t xs F) d=some v->∃v0,bY F d=some v0/\v=sb r t xs v0:=by
  intro F
  induction F with
  |nil=>intro d v e;cases e
  |cons p q ih=>
   obtain⟨k,v0⟩:=p;intro d v e;simp only[sbF,bY]at e ⊢;cases hb:Nat.beq k d with
   |true=>rw[hb]at e;cases e;exact⟨_,rfl,rfl⟩
   |false=>rw[hb]at e;exact ih e
 intro h d v e;obtain⟨v0,h1,rfl⟩:=key e;obtain⟨u,h2,h3⟩:=h d v0 h1;exact⟨u,h2,aaD hr h3⟩
theorem afu(hr:∀u,ρ r=some u->sX J (.sl t) xs u){O:Os G}{H:List aF}(h:RO J ρ O H):RO J ρ (sbO r t xs O) H:=by
 induction h with
 |nil=>exact .nil
 |@cons k o x O H h _ ih=>
  refine .cons ?_ ih;cases o with
  |bT T c=>obtain⟨b,u,h1,h2,h3⟩:=h;exact⟨b,u,h1,h2,Fc hr h3⟩
  |row _ _ _ _ =>exact h
  |aux _ =>exact h
  |gm=>exact⟨h.1,h.2⟩
  |fm _ _ _ =>exact h
  |lp _ _ _ _ _ _ =>exact h
theorem afw(hr:∀u,ρ r=some u->sX J (.sl t) xs u){l m:List (AV G)}{D:List Deferred}(h:DR J ρ (l++m) D):DR J ρ (sbD r t xs l++m) D:=by
 induction l generalizing D with
 |nil=>exact h
 |cons v q ih=>
  cases h with
  |cons h k=>
   refine .cons ?_ (ih k);unfold dr at h;split at h
   ·obtain⟨fs,cs,ls,k1,k2,k3,k4⟩:=h
    exact⟨fs,cs,ls,Fc hr k1,Fc hr k2,Fc hr k3,k4⟩
   ·exact h
   ·exact h.elim
end
theorem Rl.JK{c:Cx}{N:Nat}{HK X:List aF}{C:CC G}{S:AS G}{a:Act}{w:World}(r:Nat)(h:Rl c N ρ J HK X C S a w):∃(J':World->Prop) (Y:List aF),(∀w,J' w->J w)/\Rl c N ρ J' HK (Y++X) C (JK r S) a w:=by
 unfold Go.Rw.JK;split
 ·rename_i e sz t xs ho
  obtain⟨HS,q1,q3⟩:=h.hp;obtain⟨k,x,k1,⟨v,ws,m1,rfl,m3,m4,m5⟩,k3⟩:=q1.S6 ho;let x:aF:= .row v e sz xs.length ws;let J':World->Prop:=λw=>J w/\Hs [x] w;have mJ:∀w,J' w->J w:=λw h=>h.1;have hr:∀u,ρ r=some u->sX J' (.sl t) xs u:=λu hu=>by rw[m1]at hu;cases hu;have hc:v.cells.toList=[v]:=m3.cells;refine⟨⟨v,ws,hc,m3,cj.mono _ mJ m4,λw hw=>?_⟩,nofun,λ_ =>by rw[← hc]⟩;have:=Ro.rH (hw.2 x (by simp)).1;rw[m5];exact this
  have hle:=aX.le_refl ρ;have hxm:x∈HS:=List.mem_of_getElem? k1;have VX:x∈HS++(HK++X):=aiG _ hxm;obtain⟨q,hq1,Pj,hq3⟩:=h.kn.one (q3.holds x VX) λb hb=>(q3.own x VX b hb).2;refine⟨J',[q],mJ,h.tm,afw hr (h.df.up mJ hle),h.si,afv hr (h.fs.up mJ hle),h.fc.up mJ hle,h.IE mJ hle,⟨HS.eraseIdx k,afu hr (k3.up mJ hle),?_⟩,hq3,h.fr⟩;have q4:=(q3.gK (mz k1 _)).set (k:=0) (r':=q) rfl (Nat.le_refl _) (λ_ _ _ =>rfl) hq1 h.si.s.size (λb hb=>by
   rw[Pj]at hb;exact⟨.inl hb,(q3.own x VX b hb).2⟩)
  refine bq.gK q4 ?_;have e1:HK++([q]++X)=HK++(q::X):=rfl;rw[e1];refine List.Perm.trans ?_ (List.Perm.append_left _ (List.perm_middle (a:=q) (l₁:=HK) (l₂:=X)).symm);exact(List.perm_middle (a:=q) (l₁:=HS.eraseIdx k) (l₂:=HK++X)).symm
 ·exact⟨J,[],λ_ h=>h,h⟩
theorem Rl.vK{c:Cx}{N:Nat}{HK:List aF}{C:CC G}{a:Act}{w:World}:∀(l:List Nat) {J:World->Prop} {X:List aF} {S:AS G},Rl c N ρ J HK X C S a w->∃(J':World->Prop) (Y:List aF),(∀w,J' w->J w)/\Rl c N ρ J' HK (Y++X) C (vK l S) a w:=by
 intro l
 induction l with
 |nil=>intro J X S h;exact⟨J,[],λ_ h=>h,h⟩
 |cons r q ih=>intro J X S h;obtain⟨J1,Y1,m1,h1⟩:=h.JK r;obtain⟨J2,Y2,m2,h2⟩:=ih h1;exact⟨J2,Y2++Y1,λw h=>m1 w (m2 w h),by rw[List.append_assoc];exact h2⟩
theorem s9:∀(l:List Nat) (S:AS G),(vK l S).nx=S.nx:=by
 intro l
 induction l with
 |nil=>intro S;rfl
 |cons r q ih=>intro S;show(vK q (Go.Rw.JK r S)).nx=_;rw[ih];unfold Go.Rw.JK;split<;>rfl
def yF(bV:Sh)(nm:List (Option Nat))(y:HL G (aK bV))(ρ:aX)(J:World->Prop)(H HK X:List aF)(w:World)(u:Value)(w':World):Prop:=∃(σ:aX) (J':World->Prop) (Y M5:List aF) (us:List Value),(∀w,J' w->J w)/\rl J' σ (dP (λm=>m) bV y 0).1 (u::us)/\RO J' σ (dP (λm=>m) bV y 0).2.1 M5/\ bq (bn H) w.heap.size (M5++(HK++(Y++X))) w'/\aO (bn H) w w'/\M4 G (Y++X) J'/\(∀i j:Nat,nm[i]? =some (some j)->σ i=ρ j)/\σ.fr nm.length
structure Fs where
 k:Nat
 Hr:List (Nat×Sh)
 rI:Sh
 bV:Sh
 nm:List (Option Nat)
 fb:Sh
 OP:List (Option Nat)
 bi:List (List Nat)
def Ky:List (Nat×Sh)->Sh
 |[]=> .nil
 |(T,s)::r=> .cons (.box T s) (Ky r)
abbrev HI(G:Sg)(s:Fs):=HL G (aK (Ky s.Hr)++aK s.rI)
def Fs.rx(s:Fs)(x:HI G s):HL G (aK (Ky s.Hr)):=HL.fst x
def Fs.ix(s:Fs)(x:HI G s):HL G (aK s.rI):=HL.snd (a:=aK (Ky s.Hr)) x
def Fs.ro(s:Fs)(x:HI G s):Os G:=(dP (λm=>m) (Ky s.Hr) (s.rx x) 0).2.1
def Fs.bl(s:Fs)(x:HI G s):AV G×Os G×Nat:=dP (λm=>m) s.rI (s.ix x) (dP (λm=>m) (Ky s.Hr) (s.rx x) 0).2.2
def M8(P:Program)(s:Fs)(R:HI G s->HL G (aK s.bV)->Prop)(Rp:HI G s->HL G (aK s.fb)->Prop):Prop:=∀(ρ:aX) (J:World->Prop) (HS HK X:List aF) (w:World) (vs:List Value) (x:HI G s),rl J ρ (s.bl x).1 vs->RO J ρ (s.bl x).2.1 HS->(∀r o,bY (s.ro x) r=some o->∃y∈HK,ro J ρ r o y)-> bq (bn (HS++(HK++X))) w.heap.size (HS++(HK++X)) w->M4 G X J->ρ.fr (s.bl x).2.2-> (∀y,R x y->Calls P s.k vs.toArray w λen w'=>∃u,en= .returned u/\yF s.bV s.nm y ρ J (HS++(HK++X)) HK X w u w')/\ (∀y,Rp x y->Calls P s.k vs.toArray w λen w'=>∃u,en= .panicked [{v:=u,recovered:=false}]/\yF s.fb s.OP y ρ J (HS++(HK++X)) HK X w u w')
structure Ct(P:Program)(G:Sg) where
 s:Fs
 R:HI G s->HL G (aK s.bV)->Prop
 Rp:HI G s->HL G (aK s.fb)->Prop
 cp:{Z:Type}->HI G s->(HL G (aK s.bV)->Option Z)->(HL G (aK s.fb)->Option Z)->Option Z
 cg:{Z:Type}->Bool->HI G s->(HL G (aK s.bV)->Option Z)->Option Z
 Yh:∀{Z:Type} (x:HI G s) (ko:HL G (aK s.bV)->Option Z) (kp:HL G (aK s.fb)->Option Z) (z:Z),cp x ko kp=some z->(∃y,R x y/\ko y=some z)\/(∃y,Rp x y/\kp y=some z)
 cgs:∀{Z:Type} (g:Bool) (x:HI G s) (k:HL G (aK s.bV)->Option Z) (z:Z),cg g x k=some z->∃y,(g=true->R x y)/\k y=some z
 fn:∃f,P.funcs[s.k]? =some f/\f.body.isSome=true/\(f.name== "runtime.NumGoroutine")=false
 ok:M8 P s R Rp
def CB(b:Bool):Sh->Bool
 | .row _ _ _ =>false
 | .box _ _ =>false
 | .bF _ =>b
 | .fn _ a c=>CB b a&&CB b c
 | .gS a=>CB b a
 | .st a=>CB b a
 | .gP _ a=>CB b a
 | .cons a c=>CB b a&&CB b c
 | .part _ a c=>CB b a&&CB b c
 |_ =>true
theorem SP{bb:Bool}:∀{s:Sh} {v:AV G} {g g':GS G} {x:HL G (aK s)},CB bb s=true->j0 s v g=some (x,g')->g'=g:=by
 intro s
 induction s with
 |v t=>intro v g g' x _ h;obtain⟨y,_,_,e⟩:=Pz h;exact e
 |unk n=>intro v g g' x _ h;exact(GA h).1
 |row e sz t=>intro v g g' x hn;cases hn
 |box T s _ =>intro v g g' x hn;cases hn
 |bF i=>
  intro v g g' x _ h;cases v<;>unfold j0 at h<;>(try dsimp only at h)<;>try (cases h;done)
  case ptr r p=>
   cases p with
   |cons _ _ =>simp at h
   |nil=>
    simp only at h;split at h
    ·rename_i r' ht
     cases hb:Nat.beq r r' with
     |false=>rw[hb]at h;cases h
     |true=>rw[hb]at h;exact(bz h).2.symm
    ·cases h
 |fn f a c jE zI=>
  intro v g g' x hn h;simp only[CB,aiC]at hn;cases v<;>unfold j0 at h<;>(try dsimp only at h)<;>try (cases h;done)
  case fn f' y z=>
   cases hb:vM f f' with
   |false=>rw[hb]at h;cases h
   |true=>
    rw[hb]at h;simp only[cond_true]at h;split at h
    ·rename_i p g1 h1
     split at h
     ·rename_i q g2 h2
      obtain⟨_,rfl⟩:=bz h;rw[zI hn.2 h2,jE hn.1 h1]
     ·cases h
    ·cases h
 |cons a b jE oD=>
  intro v g g' x hn h;simp only[CB,aiC]at hn;cases v<;>unfold j0 at h<;>(try dsimp only at h)<;>try (cases h;done)
  case cons y z=>
   split at h
   ·rename_i p g1 h1
    split at h
    ·rename_i q g2 h2
     obtain⟨_,rfl⟩:=bz h;rw[oD hn.2 h2,jE hn.1 h1]
    ·cases h
   ·cases h
 |part w a b jE oD=>
  intro v g g' x hn h;simp only[CB,aiC]at hn;cases v<;>unfold j0 at h<;>(try dsimp only at h)<;>try (cases h;done)
  case part w' y z=>
   cases hb:Nat.beq w w' with
   |false=>rw[hb]at h;cases h
   |true=>
    rw[hb]at h;simp only[cond_true]at h;split at h
    ·rename_i p g1 h1
     split at h
     ·rename_i q g2 h2
      obtain⟨_,rfl⟩:=bz h;rw[oD hn.2 h2,jE hn.1 h1]
     ·cases h
    ·cases h
 |gS a ih=>
  intro v g g' x hn h;cases v<;>unfold j0 at h<;>(try dsimp only at h)<;>try (cases h;done)
  exact ih hn h
 |st a ih=>
  intro v g g' x hn h;cases v<;>unfold j0 at h<;>(try dsimp only at h)<;>try (cases h;done)
  exact ih hn h
 |gP t a ih=>
  intro v g g' x hn h;cases v<;>unfold j0 at h<;>(try dsimp only at h)<;>try (cases h;done)
  case gP t' y=>
   cases hb:Nat.beq t t' with
   |false=>rw[hb]at h;cases h
   |true=>rw[hb]at h;exact ih hn h
 |_ =>
  intro v g g' x hn h;cases v<;>unfold j0 at h<;>(try dsimp only at h)<;>try (cases h;done)
  exact(bz h).2.symm
theorem Te{f:Nat->Nat}:∀{s:Sh},CB false s=true->∀(x:HL G (aK s)) (m:Nat),(dP f s x m).1=(dP (λm=>m) s x m).1/\(dP f s x m).2.1=[]:=by
 intro s
 induction s with
 |v t=>intro _ x m;exact⟨rfl,rfl⟩
 |row e sz t=>intro h;cases h
 |box T s _ =>intro h;cases h
 |bF i=>intro h;cases h
 |fn k a c jE zI=>intro h x m;simp only[CB,aiC]at h;obtain⟨a1,a2⟩:=jE h.1 (HL.fst x) m;have e3:=(zX (G:=G) (f:=f) (s:=a) (x:=HL.fst x) (m:=m)).2.2;obtain⟨b1,b2⟩:=zI h.2 (HL.snd x) (dP (λm=>m) a (HL.fst x) m).2.2;simp only[dP,e3,a1,a2,b1,b2,List.append_nil];exact⟨trivial,trivial⟩
 |cons a c jE zI=>intro h x m;simp only[CB,aiC]at h;obtain⟨a1,a2⟩:=jE h.1 (HL.fst x) m;have e3:=(zX (G:=G) (f:=f) (s:=a) (x:=HL.fst x) (m:=m)).2.2;obtain⟨b1,b2⟩:=zI h.2 (HL.snd x) (dP (λm=>m) a (HL.fst x) m).2.2;simp only[dP,e3,a1,a2,b1,b2,List.append_nil];exact⟨trivial,trivial⟩
 |part w a c jE zI=>intro h x m;simp only[CB,aiC]at h;obtain⟨a1,a2⟩:=jE h.1 (HL.fst x) m;have e3:=(zX (G:=G) (f:=f) (s:=a) (x:=HL.fst x) (m:=m)).2.2;obtain⟨b1,b2⟩:=zI h.2 (HL.snd x) (dP (λm=>m) a (HL.fst x) m).2.2;simp only[dP,e3,a1,a2,b1,b2,List.append_nil];exact⟨trivial,trivial⟩
 |gS a ih=>intro h x m;obtain⟨a1,a2⟩:=ih h x m;simp only[dP,a1,a2];exact⟨trivial,trivial⟩
 |st a ih=>intro h x m;obtain⟨a1,a2⟩:=ih h x m;simp only[dP,a1,a2];exact⟨trivial,trivial⟩
 |gP t a ih=>intro h x m;obtain⟨a1,a2⟩:=ih h x m;simp only[dP,a1,a2];exact⟨trivial,trivial⟩
 |_ =>intro _ x m;exact⟨rfl,rfl⟩
def lK(ob:Os G):(s:Sh)->AV G->List Nat->Option (HL G (aK s)×List Nat)
 | .v t,v,th=>match xW t v with
  |some x=>some ((x,()),th)
  |none=>none
 | .row e sz t,v,th=>match v with
  | .row r=>match bY ob r with
   |some (.row e' sz' t' xs)=>bif Nat.beq e e'&&Nat.beq sz sz' then(if h:t'.bF t=true then some ((Ty.rD h▸xs,()),th++[r])else none)else none
   |_ =>none
  |_ =>none
 | .box T s,v,th=>match v with
  | .ptr r []=>match bY ob r with
   |some (.bT T' c)=>bif Nat.beq T T' then lK ob s c (th++[r])else none
   |_ =>none
  |_ =>none
 | .bF i,v,th=>match v with
  | .ptr r []=>match th[i]? with
   |some r'=>bif Nat.beq r r' then some ((),th)else none
   |none=>none
  |_ =>none
 | .unk _,_,_ =>none
 | .qI,v,th=>match v with
  | .qI=>some ((),th)
  |_ =>none
 | .iC,v,th=>match v with
  | .iC=>some ((),th)
  |_ =>none
 | .zC,v,th=>match v with
  | .zC=>some ((),th)
  |_ =>none
 | .jX,v,th=>match v with
  | .jX=>some ((),th)
  |_ =>none
 | .Cd,v,th=>match v with
  | .Cd=>some ((),th)
  |_ =>none
 | .fn f a c,v,th=>match v with
  | .fn f' x y=>bif vM f f' then(match lK ob a x th with
   |some (p,g')=>match lK ob c y g' with
    |some (q,PE)=>some (HL.app p q,PE)
    |none=>none
   |none=>none)else none
  |_ =>none
 | .gS a,v,th=>match v with
  | .gS x=>lK ob a x th
  |_ =>none
 | .st a,v,th=>match v with
  | .st x=>lK ob a x th
  |_ =>none
 | .gP t a,v,th=>match v with
  | .gP t' x=>bif Nat.beq t t' then lK ob a x th else none
  |_ =>none
 | .nil,v,th=>match v with
  | .nil=>some ((),th)
  |_ =>none
 | .cons a b,v,th=>match v with
  | .cons x y=>match lK ob a x th with
   |some (p,g')=>match lK ob b y g' with
    |some (q,PE)=>some (HL.app p q,PE)
    |none=>none
   |none=>none
  |_ =>none
 | .part w a b,v,th=>match v with
  | .part w' x y=>bif Nat.beq w w' then(match lK ob a x th with
   |some (p,g')=>match lK ob b y g' with
    |some (q,PE)=>some (HL.app p q,PE)
    |none=>none
   |none=>none)else none
  |_ =>none
structure XO(J:World->Prop)(ρ:aX)(H:List aF)(s:Sh)(l:List Value)(th vi:List Nat)(x:HL G (aK s)):Prop where
 pre:∃q,vi=th++q
 IK:(dP (λm=>m) s x th.length).2.2=vi.length
 val:rl J (cmp ρ vi) (dP (λm=>m) s x th.length).1 l
 bT:∀r o,bY (dP (λm=>m) s x th.length).2.1 r=some o->∃y∈H,ro J (cmp ρ vi) r o y
theorem DT{H:List aF}{a b:Sh}{th th1 XV:List Nat}{p:HL G (aK a)}{q:HL G (aK b)}{l1 l2:List Value}(h1:XO J ρ H a l1 th th1 p)(h2:XO J ρ H b l2 th1 XV q):
  (∃r,XV=th++r)/\(dP (λm=>m) b q (dP (λm=>m) a p th.length).2.2).2.2=XV.length/\rl J (cmp ρ XV) (dP (λm=>m) a p th.length).1 l1/\rl J (cmp ρ XV) (dP (λm=>m) b q (dP (λm=>m) a p th.length).2.2).1 l2/\
   ∀r o,bY ((dP (λm=>m) a p th.length).2.1++(dP (λm=>m) b q (dP (λm=>m) a p th.length).2.2).2.1) r=some o->∃y∈H,ro J (cmp ρ XV) r o y:=by
 have hle:=JV (aX.le_refl ρ) h2.pre;rw[h1.IK];refine⟨?_,h2.IK,h1.val.ext hle,h2.val,λr o e=>?_⟩
 ·obtain⟨r1,e1⟩:=h1.pre
  obtain⟨r2,e2⟩:=h2.pre;exact⟨r1++r2,by rw[e2,e1,List.append_assoc]⟩
 ·rw[ic]at e
  split at e
  ·rename_i o' he
   cases e;obtain⟨y,y1,y2⟩:=h1.bT _ _ he;exact⟨y,y1,y2.up (λ_ h=>h) hle⟩
  ·exact h2.bT _ _ e
theorem SQ{H:List aF}{ob:Os G}(hO:∀r o,bY ob r=some o->∃y∈H,ro J ρ r o y):∀{s:Sh} {v:AV G} {l:List Value} {th vi:List Nat} {x:HL G (aK s)},lK ob s v th=some (x,vi)->rl J ρ v l->XO J ρ H s l th vi x:=by
 intro s
 induction s with
 |v t=>
  intro v l th vi x h hv;unfold lK at h;cases hy:xW t v with
  |none=>rw[hy]at h;cases h
  |some y=>rw[hy]at h;obtain⟨rfl,rfl⟩:=bz h;obtain⟨u,rfl⟩:=N4 hy hv;refine⟨⟨[],by simp⟩,rfl,?_,λr o e=>by cases e⟩;exact Fg (wE hy hv)
 |row e sz t=>
  intro v l th vi x h hv;cases v<;>unfold lK at h<;>(try dsimp only at h)<;>try (cases h;done)
  case row r=>
   split at h
   ·rename_i e' sz' t' xs ho
    cases hb:(Nat.beq e e'&&Nat.beq sz sz')with
    |false=>rw[hb]at h;cases h
    |true=>
     rw[hb]at h;simp only[cond_true]at h;by_cases hs:t'.bF t=true
     ·rw[dif_pos hs]at h
      obtain⟨e1,rfl⟩:=bz h;simp only[aiC]at hb;obtain rfl:=aiB hb.1;obtain rfl:=aiB hb.2;have:=Ty.rD hs;subst this;subst e1;obtain⟨y,y1,vv,ws,e1,e2,e3,e4,e5⟩:=hO _ _ ho;refine⟨⟨[r],rfl⟩,by simp[dP],?_,λr' o' he=>?_⟩
      ·obtain⟨a0,n,cap,q1,q2⟩:=hv
       exact⟨a0,n,cap,wJ.trans q1,q2⟩
      ·simp only[dP,bY]at he
       cases FB:Nat.beq th.length r' with
       |false=>rw[FB]at he;cases he
       |true=>rw[FB]at he;cases he;obtain rfl:=aiB FB;exact⟨y,y1,vv,ws,wJ.trans e1,e2,e3,e4,e5⟩
     ·rw[dif_neg hs]at h;cases h
   ·cases h
 |box T s ih=>
  intro v l th vi x h hv;cases v<;>unfold lK at h<;>(try dsimp only at h)<;>try (cases h;done)
  case ptr r p=>
   cases p with
   |cons _ _ =>simp at h
   |nil=>
    simp only at h;split at h
    ·rename_i T' cc ho
     cases hb:Nat.beq T T' with
     |false=>rw[hb]at h;cases h
     |true=>
      rw[hb]at h;obtain rfl:=aiB hb;obtain⟨y,y1,b,u,m1,rfl,m3⟩:=hO _ _ ho;have i1:=ih h m3;have hth:vi[th.length]? =some r:=by obtain⟨q,e⟩:=i1.pre;rw[e];simp
      have JH:cmp ρ vi th.length=some (cE b 0):=by unfold cmp;rw[hth];exact m1
      have e1:(th++[r]).length=th.length+1:=by simp
      have i2:=i1.IK;have i3:=i1.val;have i4:=i1.bT;rw[e1]at i2 i3 i4;refine⟨?_,i2,?_,λr' o' he=>?_⟩
      ·obtain⟨q,e⟩:=i1.pre
       exact⟨r::q,by rw[e];simp⟩
      ·obtain⟨⟨b',o',q1,q2⟩,_⟩:=hv
       refine⟨⟨b,0, .inl JH,?_⟩,by simp⟩;rcases q1 with q1|⟨_,_,_,_,_,_,_,q1,_⟩
       ·rw[q1]at m1
        simp[cE]at m1;rw[q2,m1.1,m1.2]
       ·cases q1
      ·have he:bY ((th.length,Ob.bT T (dP (λm=>m) s x (th.length+1)).1)::(dP (λm=>m) s x (th.length+1)).2.1) r'=some o':=he
       simp only[bY]at he;cases FB:Nat.beq th.length r' with
       |false=>rw[FB]at he;exact i4 _ _ he
       |true=>rw[FB]at he;cases he;obtain rfl:=aiB FB;exact⟨_,y1,b,u,JH,rfl,i3⟩
    ·cases h
 |unk n=>intro v l th vi x h hv;unfold lK at h;cases h
 |bF i=>
  intro v l th vi x h hv;cases v<;>unfold lK at h<;>(try dsimp only at h)<;>try (cases h;done)
  case ptr r p=>
   cases p with
   |cons _ _ =>simp at h
   |nil=>
    simp only at h;split at h
    ·rename_i r' ht
     cases hb:Nat.beq r r' with
     |false=>rw[hb]at h;cases h
     |true=>
      rw[hb]at h;obtain⟨rfl,rfl⟩:=bz h;obtain rfl:=aiB hb;refine⟨⟨[],by simp⟩,rfl,?_,λr o e=>by cases e⟩;obtain⟨⟨b',o',q1,q2⟩,q3⟩:=hv;refine⟨⟨b',o',?_,q2⟩,q3⟩;rcases q1 with q1|⟨_,_,_,_,_,_,_,q1,_⟩
      ·refine .inl ?_
       unfold cmp;rw[ht];exact q1
      ·cases q1
    ·cases h
 |fn f a c jE zI=>
  intro v l th vi x h hv;cases v<;>unfold lK at h<;>(try dsimp only at h)<;>try (cases h;done)
  case fn f' y z=>
   cases hb:vM f f' with
   |false=>rw[hb]at h;cases h
   |true=>
    rw[hb]at h;simp only[cond_true]at h;obtain rfl:=HW hb;split at h
    ·rename_i p g1 h1
     split at h
     ·rename_i q g2 h2
      obtain⟨rfl,rfl⟩:=bz h;obtain⟨fs,cs,e,r1,r2⟩:=hv;obtain⟨k1,k2,k3,k4,k5⟩:=DT (b:=c) (q:=q) (jE h1 r1) (zI h2 r2);refine⟨k1,?_,?_,?_⟩<;>simp only[dP,HL.s8,HL.sV]
      ·exact k2
      ·exact⟨fs,cs,e,k3,k4⟩
      ·exact k5
     ·cases h
    ·cases h
 |cons a b jE oD=>
  intro v l th vi x h hv;cases v<;>unfold lK at h<;>(try dsimp only at h)<;>try (cases h;done)
  case cons y z=>
   split at h
   ·rename_i p g1 h1
    split at h
    ·rename_i q g2 h2
     obtain⟨rfl,rfl⟩:=bz h;obtain⟨u,r,e,r1,r2⟩:=hv;obtain⟨k1,k2,k3,k4,k5⟩:=DT (b:=b) (q:=q) (jE h1 r1) (oD h2 r2);refine⟨k1,?_,?_,?_⟩<;>simp only[dP,HL.s8,HL.sV]
     ·exact k2
     ·exact⟨u,r,e,k3,k4⟩
     ·exact k5
    ·cases h
   ·cases h
 |part w a b jE oD=>
  intro v l th vi x h hv;cases v<;>unfold lK at h<;>(try dsimp only at h)<;>try (cases h;done)
  case part w' y z=>
   cases hb:Nat.beq w w' with
   |false=>rw[hb]at h;cases h
   |true=>
    rw[hb]at h;simp only[cond_true]at h;obtain rfl:=aiB hb;split at h
    ·rename_i p g1 h1
     split at h
     ·rename_i q g2 h2
      obtain⟨rfl,rfl⟩:=bz h;obtain⟨c1,c2,u,e,r0,r1,r3,r2⟩:=hv;obtain⟨k1,k2,k3,k4,k5⟩:=DT (b:=b) (q:=q) (jE h1 r1) (oD h2 r2);refine⟨k1,?_,?_,?_⟩<;>simp only[dP,HL.s8,HL.sV]
      ·exact k2
      ·exact⟨c1,c2,u,e,r0,k3,r3,k4⟩
      ·exact k5
     ·cases h
    ·cases h
 |gS a ih=>
  intro v l th vi x h hv;cases v<;>unfold lK at h<;>(try dsimp only at h)<;>try (cases h;done)
  obtain⟨vs,e,r1⟩:=hv;have k:=ih h r1;exact⟨k.pre,k.IK,⟨vs,e,k.val⟩,k.bT⟩
 |st a ih=>
  intro v l th vi x h hv;cases v<;>unfold lK at h<;>(try dsimp only at h)<;>try (cases h;done)
  obtain⟨cs,e,r1,r2⟩:=hv;have k:=ih h r1;exact⟨k.pre,k.IK,⟨cs,e,k.val,r2⟩,k.bT⟩
 |gP t a ih=>
  intro v l th vi x h hv;cases v<;>unfold lK at h<;>(try dsimp only at h)<;>try (cases h;done)
  case gP t' y=>
   cases hb:Nat.beq t t' with
   |false=>rw[hb]at h;cases h
   |true=>rw[hb]at h;obtain rfl:=aiB hb;obtain⟨u,e,r1⟩:=hv;have k:=ih h r1;exact⟨k.pre,k.IK,⟨u,e,k.val⟩,k.bT⟩
 |_ =>
  intro v l th vi x h hv;cases v<;>unfold lK at h<;>(try dsimp only at h)<;>try (cases h;done)
  obtain⟨rfl,rfl⟩:=bz h;exact⟨⟨[],by simp⟩,rfl,hv,λr o e=>by cases e⟩
def DX(O:Os G)(i:Nat):Sh->AV G->Option Nat
 | .bF j, .ptr r []=>bif Nat.beq i j then some r else none
 | .box _ s, .ptr r []=>match bY O r with
  |some (.bT _ c)=>DX O i s c
  |_ =>none
 | .fn _ a c, .fn _ x y=>match DX O i a x with
  |some r=>some r
  |none=>DX O i c y
 | .gS a, .gS x=>DX O i a x
 | .st a, .st x=>DX O i a x
 | .gP _ a, .gP _ x=>DX O i a x
 | .cons a c, .cons x y=>match DX O i a x with
  |some r=>some r
  |none=>DX O i c y
 | .part _ a c, .part _ x y=>match DX O i a x with
  |some r=>some r
  |none=>DX O i c y
 |_,_ =>none
def zT:Sh->Nat
 | .row _ _ _ =>1
 | .box _ s=>zT s+1
 | .fn _ a c=>zT a+zT c
 | .gS a=>zT a
 | .st a=>zT a
 | .gP _ a=>zT a
 | .cons a b=>zT a+zT b
 | .part _ a b=>zT a+zT b
 |_ =>0
def JL(O:Os G):List (Nat×Sh)->Nat->Sh->AV G->Option (AV G)
 |[],_,_,_ =>some .nil
 |(T,s)::r,i,sh,v=>match DX O i sh v with
  |some q=>match JL O r (i+zT s+1) (.cons (.box T s) sh) (.cons (.ptr q []) v)with
   |some l=>some (.cons (.ptr q []) l)
   |none=>none
  |none=>none
def Ff:List Nat->List Nat->Bool
 |[],[]=>true
 |a::r,b::q=>Nat.beq a b&&Ff r q
 |_,_ =>false
theorem RL:∀{l m:List Nat},Ff l m=true->l=m:=by
 intro l
 induction l with
 |nil=>intro m h;cases m with
  |nil=>rfl
  |cons _ _ =>cases h
 |cons a r ih=>intro m h;cases m with
  |nil=>cases h
  |cons b q=>simp only[Ff,aiC]at h;rw[aiB h.1,ih h.2]
def Dw:AV G->Bool
 | .cons (.ptr _ []) r=>Dw r
 | .nil=>true
 |_ =>false
def Ba(C:CC G)(O:Os G)(nx:Nat)(s:Fs)(aiy:AV G):Option (HI G s×GS G):=match JL (O++iV C) s.Hr 0 s.rI aiy with
 |some pv=>match lK (O++iV C) (Ky s.Hr) pv []with
  |some (_,th)=>match j0 s.rI aiy ⟨th,O,nx⟩with
   |some (x,g')=>match lK (g'.O++iV C) (Ky s.Hr) pv []with
    |some (y,vi)=>bif Ff th vi then some (HL.app y x,g')else none
    |none=>none
   |none=>none
  |none=>none
 |none=>none
def abY(C:CC G)(O:Os G)(s:Fs)(aiy:AV G):List Nat:=match JL (O++iV C) s.Hr 0 s.rI aiy with
 |some pv=>tn O s.rI aiy++tn O (Ky s.Hr) pv
 |none=>tn O s.rI aiy
theorem R1{H:List aF}{ob:Os G}(hO:∀r o,bY ob r=some o->∃y∈H,ro J ρ r o y):∀{l:List (Nat×Sh)} {v:AV G} {th vi:List Nat} {x:HL G (aK (Ky l))},Dw v=true->lK ob (Ky l) v th=some (x,vi)->∃us,rl J ρ v us:=by
 intro l
 induction l with
 |nil=>
  intro v th vi x hp h;cases v<;>unfold lK at h<;>(try dsimp only[Ky]at h)<;>try (cases h;done)
  exact⟨[],rfl⟩
 |cons p r ih=>
  obtain⟨T,s⟩:=p;intro v th vi x hp h;change lK ob (.cons (.box T s) (Ky r)) v th=some (x,vi)at h;cases v<;>unfold lK at h<;>(try dsimp only at h)<;>try (cases h;done)
  case cons a b=>
   split at h
   ·rename_i p g1 h1
    split at h
    ·rename_i q g2 h2
     cases a<;>(try (simp[Dw]at hp;done))
     case ptr q0 pp=>
      cases pp with
      |cons _ _ =>simp[Dw]at hp
      |nil=>
       obtain⟨us,hus⟩:=ih (by simpa[Dw]using hp) h2;unfold lK at h1;dsimp only at h1;split at h1
       ·rename_i T' c ho
        obtain⟨y,y1,b0,u,m1,_⟩:=hO _ _ ho;exact⟨cE b0 0::us,_,_,rfl,⟨⟨b0,0, .inl m1,rfl⟩,by simp⟩,hus⟩
       ·cases h1
    ·cases h
   ·cases h
theorem Ww{O:Os G}:∀{l:List (Nat×Sh)} {i:Nat} {sh:Sh} {v pv:AV G},JL O l i sh v=some pv->Dw pv=true:=by
 intro l
 induction l with
 |nil=>intro i sh v pv h;cases h;rfl
 |cons p r ih=>
  obtain⟨T,s⟩:=p;intro i sh v pv h;simp only[JL]at h;split at h
  ·split at h
   ·rename_i l hl;cases h;show Dw l=true;exact ih hl
   ·cases h
  ·cases h
theorem SR{c:Cx}{N:Nat}{HK X:List aF}{C:CC G}{S:AS G}{a:Act}{w:World}{s:Fs}{aiy:AV G}{vs:List Value}{x:HI G s}{g':GS G}(hr:Rl c N ρ J HK X C S a w)(hv:rl J ρ aiy vs)(h:Ba C S.O S.nx s aiy=some (x,g')):
  ∃(th:List Nat) (ρ2:aX) (HS HB H':List aF),th.length=(dP (λm=>m) (Ky s.Hr) (s.rx x) 0).2.2/\bq c.bs c.w0.heap.size (HS++(HK++X)) w/\Gat J ρ s.rI vs HS ⟨th,S.O,S.nx⟩ g' (s.ix x) ρ2 HB H'/\j0 s.rI aiy ⟨th,S.O,S.nx⟩=some (s.ix x,g')/\∀r o,bY (s.ro x) r=some o->∃y∈H'++HK,ro J (cmp ρ2 g'.th) r o y:=by
 unfold Ba at h;split at h
 ·rename_i pv hpv
  split at h
  ·rename_i y0 th hg0
   split at h
   ·rename_i xi g1 hg
    split at h
    ·rename_i y vi hg2
     cases hb:Ff th vi with
     |false=>rw[hb]at h;cases h
     |true=>
      rw[hb]at h;obtain⟨e1,rfl⟩:=bz h;subst e1;obtain rfl:=RL hb;obtain⟨HS,q1,q3⟩:=hr.hp;obtain⟨ρ2,HB,H',k⟩:=DQ hg hv q1 hr.fr;have hle:=k.to.le hr.fr;have hO:∀q o,bY (g1.O++iV C) q=some o->∃z∈H'++HK,ro J ρ2 q o z:=λq o e=>by
       rw[ic]at e;split at e
       ·rename_i o' he
        cases e;obtain⟨z,z1,z2⟩:=k.left.lk he;exact⟨z,aiG _ z1,z2⟩
       ·obtain⟨z,z1,z2⟩:=hr.kc q o e
        exact⟨z,aiF _ z1,z2.up (λ_ h=>h) hle⟩
      obtain⟨us,i2⟩:=R1 hO (Ww hpv) hg2;have k3:=SQ hO hg2 i2;have exi:s.ix (HL.app y xi)=xi:=HL.sV y xi;have exr:s.rx (HL.app y xi)=y:=HL.s8 y xi;have k4:=k3.IK;have k5:=k3.bT;simp only[List.length_nil]at k4 k5;refine⟨th,ρ2,HS,HB,H',by rw[exr,k4],q3,by rw[exi];exact k,by rw[exi];exact hg,λr o e=>?_⟩;unfold Fs.ro at e;rw[exr]at e;obtain⟨z,z1,z2⟩:=k5 r o e;exact⟨z,z1,z2.up (λ_ h=>h) (JV (aX.le_refl _) k.pre)⟩
    ·cases h
   ·cases h
  ·cases h
 ·cases h
def G7:Sh->AV G->Nat->AV G×Os G×Nat
 | .row e sz t, .iC,nx=>bif Nat.beq (t.L G).n sz then(.row nx,[(nx, .row e sz t [])],nx+1)else(.iC,[],nx)
 | .st a, .st x,nx=>match G7 a x nx with
  |(x',O,m)=>(.st x',O,m)
 | .part _ a b, .part w x y,nx=>match G7 a x nx with
  |(x',O,m)=>match G7 b y m with
   |(y',O',m')=>(.part w x' y',O++O',m')
 |_,v,nx=>(v,[],nx)
def Pv:Sh->AV G->Bool
 | .row _ sz t, .iC=>Nat.beq (t.L G).n sz
 | .st a, .st x=>Pv a x
 | .part _ a b, .part _ x y=>Pv a x||Pv b y
 |_,_ =>false
def Jd(q:Nat)(s:Sh)(S:AS G):AS G:=match bY S.O q with
 |some (.bT T c)=>match G7 s c S.nx with
  |(c',O',m)=>{S with O:=O'++m0 S.O q (.bT T c'),nx:=m}
 |_ =>S
def zn:List (Nat×Sh)->AS G->AS G
 |[],S=>S
 |(q,s)::r,S=>zn r (Jd q s S)
def R9(O:Os G):List (Nat×Sh)->AV G->List (Nat×Sh)
 |(_,s)::r, .cons (.ptr q []) l=>match bY O q with
  |some (.bT _ c)=>bif Pv s c then(q,s)::R9 O r l else R9 O r l
  |_ =>R9 O r l
 |_,_ =>[]
def aaO(C:CC G)(O:Os G)(s:Fs)(aiy:AV G):List (Nat×Sh):=match s.Hr with
 |[]=>[]
 |Hr=>match JL (O++iV C) Hr 0 s.rI aiy with
  |some pv=>R9 O Hr pv
  |none=>[]
theorem Ry{α β γ:Type}{a a':α}{b b':β}{c c':γ}(h:(a,b,c)=(a',b',c')):a=a'/\b=b'/\c=c':=⟨congrArg (·.1) h,congrArg (·.2.1) h,congrArg (·.2.2) h⟩
theorem Vm:∀{s:Sh} {v v':AV G} {nx MX:Nat} {O:Os G} {l:List Value} {ρ:aX},G7 s v nx=(v',O,MX)->rl J ρ v l->ρ.fr nx->
  ∃(ρ':aX) (HN:List aF),ρ.to ρ' nx/\ρ'.fr MX/\nx<=MX/\rl J ρ' v' l/\RO J ρ' O HN/\∀R,nf R (HN++R):=by
 have keep:∀{v v':AV G} {nx MX:Nat} {O:Os G} {l:List Value} {ρ:aX},(v,([]:Os G),nx)=(v',O,MX)->rl J ρ v l->ρ.fr nx->∃(ρ':aX) (HN:List aF),ρ.to ρ' nx/\ρ'.fr MX/\nx<=MX/\rl J ρ' v' l/\RO J ρ' O HN/\∀R,nf R (HN++R):=by intro v v' nx MX O l ρ h hv hf;obtain⟨e1,e2,e3⟩:=Ry h;subst e1 e2 e3;exact⟨ρ,[],aX.cL _ _,hf,Nat.le_refl _,hv, .nil,λR=>nf.refl _⟩
 intro s
 induction s with
 |row e sz t=>
  intro v v' nx MX O l ρ h hv hf;cases v<;>unfold G7 at h<;>(try exact keep h hv hf);cases hb:Nat.beq (t.L G).n sz with
  |false=>rw[hb]at h;exact keep h hv hf
  |true=>
   rw[hb]at h;obtain⟨e1,e2,e3⟩:=Ry h;subst e1 e2 e3;have hv:l=[.slice none 0 0]:=hv;exact⟨ρ.set nx (.slice none 0 0),[.row (.slice none 0 0) e sz 0 []],aX.g6 _ _ _,aX.sW hf _,Nat.le_succ _,⟨none,0,0,aX.eP _ _ _,hv⟩,
    .cons ⟨.slice none 0 0,[],aX.eP _ _ _,rfl,⟨_,_,rfl⟩,⟨λ_ =>[],rfl,λi hi=>absurd hi (Nat.not_lt_zero _)⟩,aiB hb⟩ .nil,λR bs n0 w hp=>wI hp⟩
 |st a ih=>
  intro v v' nx MX O l ρ h hv hf;cases v<;>unfold G7 at h<;>(try exact keep h hv hf)
  case st x=>obtain⟨cs,e,h1,h2⟩:=hv;revert h;generalize hq:G7 a x nx=q;obtain⟨x',O1,m⟩:=q;intro h;obtain⟨e1,e2,e3⟩:=Ry h;subst e1 e2 e3;obtain⟨ρ',HN,k1,k2,k3,k4,k5,k6⟩:=ih hq h1 hf;exact⟨ρ',HN,k1,k2,k3,⟨cs,e,k4,h2⟩,k5,k6⟩
 |part w a b jE oD=>
  intro v v' nx MX O l ρ h hv hf;cases v<;>unfold G7 at h<;>(try exact keep h hv hf)
  case part w' x y=>obtain⟨c1,c2,u,e,r0,r1,r3,r2⟩:=hv;revert h;generalize hq:G7 a x nx=q;obtain⟨x',O1,m⟩:=q;dsimp only;generalize Pj:G7 b y m=q2;obtain⟨y',O2,m2⟩:=q2;intro h;obtain⟨e1,e2,e3⟩:=Ry h;subst e1 e2 e3;obtain⟨ρ1,H1,k1,k2,k3,k4,k5,k6⟩:=jE hq r1 hf;obtain⟨ρ2,H2,m1,m2,m3,m4,m5,m6⟩:=oD Pj (r2.ext (k1.le hf)) k2;have hle:=m1.le k2;refine⟨ρ2,H1++H2,k1.trans m1 k3,m2,Nat.le_trans k3 m3,⟨c1,c2,u,e,r0,k4.ext hle,r3,m4⟩,(k5.up (λ_ h=>h) hle).app m5,λR=>?_⟩;rw[List.append_assoc];exact(m6 R).trans (k6 (H2++R))
 |_ =>intro v v' nx MX O l ρ h hv hf;cases v<;>unfold G7 at h<;>exact keep h hv hf
theorem RO.afs{O:Os G}{H:List aF}(h:RO J ρ O H){r:Nat}{o:Ob G}(e:bY O r=some o):∃(k:Nat) (x:aF),H[k]? =some x/\ro J ρ r o x/\∀(ρ':aX) o' x',ρ.le ρ'->ro J ρ' r o' x'->RO J ρ' (m0 O r o') (H.set k x'):=by
 induction h with
 |nil=>cases e
 |@cons r0 o0 x0 O H h0 hr ih=>
  simp only[bY]at e;cases hb:Nat.beq r0 r with
  |true=>rw[hb]at e;cases e;obtain rfl:=aiB hb;refine⟨0,x0,rfl,h0,λρ' o' x' hle h'=>?_⟩;simp only[m0,hb,cond_true];exact .cons h' (hr.up (λ_ h=>h) hle)
  |false=>rw[hb]at e;obtain⟨k,x,k1,k2,k3⟩:=ih e;refine⟨k+1,x,by simpa using k1,k2,λρ' o' x' hle h'=>?_⟩;simp only[m0,hb,cond_false];exact .cons (h0.up (λ_ h=>h) hle) (k3 ρ' o' x' hle h')
theorem Rl.Jd{c:Cx}{N:Nat}{HK X:List aF}{C:CC G}{S:AS G}{a:Act}{w:World}(q:Nat)(s:Sh)(h:Rl c N ρ J HK X C S a w):∃ρ',ρ.to ρ' S.nx/\S.nx<=(Go.Rw.Jd q s S).nx/\Rl c N ρ' J HK X C (Go.Rw.Jd q s S) a w:=by
 unfold Go.Rw.Jd;split
 ·rename_i T cc ho
  generalize hq:G7 s cc S.nx=z;obtain⟨c',O',m⟩:=z;dsimp only;obtain⟨HS,q1,q3⟩:=h.hp;obtain⟨k,x,k1,⟨b,u,m1,rfl,m3⟩,afD⟩:=q1.afs ho;obtain⟨ρ',HN,r1,r2,r3,r4,r5,r6⟩:=Vm hq m3 h.fr;have hle:=r1.le h.fr;refine⟨ρ',r1,r3,h.tm,h.df.up (λ_ h=>h) hle,h.si,h.fs.up (λ_ h=>h) hle,h.fc.up (λ_ h=>h) hle,h.IE (λ_ h=>h) hle,⟨HN++HS,r5.app ?_,?_⟩,h.kn,r2⟩
  ·have Pg:=afD ρ' (.bT T c') _ hle ⟨b,u,hle _ _ m1,rfl,r4⟩
   have:HS.set k (aF.cells b T u.cells.toList)=HS:=by
    refine List.ext_getElem? λ_=>?_;rw[List.getElem?_set];split
    ·rename_i hi
     subst hi;rw[k1];split
     ·rfl
     ·rename_i hlt;exact absurd (List.getElem?_eq_some_iff.1 k1).1 hlt
    ·rfl
   rwa[this]at Pg
  ·rw[List.append_assoc];exact r6 _ _ _ _ q3
 ·exact⟨ρ,aX.cL _ _,Nat.le_refl _,h⟩
theorem Rl.zn{c:Cx}{N:Nat}{HK X:List aF}{C:CC G}{a:Act}{w:World}:∀(l:List (Nat×Sh)) {ρ:aX} {S:AS G},Rl c N ρ J HK X C S a w->∃ρ',ρ.to ρ' S.nx/\S.nx<=(Go.Rw.zn l S).nx/\Rl c N ρ' J HK X C (Go.Rw.zn l S) a w:=by
 intro l
 induction l with
 |nil=>intro ρ S h;exact⟨ρ,aX.cL _ _,Nat.le_refl _,h⟩
 |cons p r ih=>obtain⟨q,s⟩:=p;intro ρ S h;obtain⟨ρ1,k1,k2,k3⟩:=h.Jd q s;obtain⟨ρ2,m1,m2,m3⟩:=ih k3;exact⟨ρ2,k1.trans m1 k2,Nat.le_trans k2 m2,m3⟩
def Jn(th:List Nat)(base:Nat)(nm:List (Option Nat))(i:Nat):Nat:=match nm[i]? with
 |some (some j)=>match th[j]? with
  |some r=>r
  |none=>base+i
 |_ =>base+i
def Q6:AV G->Option (AV G)
 | .cons v _ =>some v
 |_ =>none
def S7(g':GS G)(bV:Sh)(nm:List (Option Nat))(y:HL G (aK bV))(S:AS G):AS G:={S with O:=(dP (Jn g'.th g'.nx nm) bV y 0).2.1++g'.O,nx:=g'.nx+nm.length}
theorem Gv{c:Cx}{H H':List aF}{w w':World}(h:bq c.bs c.w0.heap.size H w)(hs:c.w0.heap.size<=w.heap.size)(h':bq (bn H) w.heap.size H' w'):bq c.bs c.w0.heap.size H' w':=
 ⟨h'.holds,λr hr b hb=>by
  obtain⟨o,l⟩:=h'.own r hr b hb;refine⟨?_,l⟩;rcases o with o|o
  ·obtain⟨q,hq,V8⟩:=aV.1 o
   exact(h.own q hq b V8).1
  ·exact .inr (Nat.le_trans hs o),h'.apart⟩
theorem K6{c:Cx}{N:Nat}{HK X:List aF}{C:CC G}{S:AS G}{a:Act}{w w':World}{s bV:Sh}{nm:List (Option Nat)}{y:HL G (aK bV)}{x:HL G (aK s)}{us:List Value}{u:Value}{g':GS G}{HS HB H':List aF}{ρ2:aX}{v:AV G}
  (hr:Rl c N ρ J HK X C S a w)(hp:bq c.bs c.w0.heap.size (HB++(H'++(HK++X))) w){th:List Nat}(k:Gat J ρ s us HS ⟨th,S.O,S.nx⟩ g' x ρ2 HB H')(hv:Q6 (dP (Jn g'.th g'.nx nm) bV y 0).1=some v)
  (h:yF bV nm y (cmp ρ2 g'.th) J (HB++((H'++HK)++X)) (H'++HK) X w u w'):
  ∃(ρ':aX) (J':World->Prop) (Y:List aF),ρ.to ρ' S.nx/\(∀w,J' w->J w)/\rv J' ρ' v u/\Rl c N ρ' J' HK (Y++X) C (S7 g' bV nm y S) a w':=by
 obtain⟨σ,J',Y,M5,us',m1,m2,m3,m4,m5,m6,m7,m8⟩:=h;let ρ3:aX:=λr=>if r<g'.nx then ρ2 r else σ (r-g'.nx)
 have HU:ρ2.le ρ3:=λr v e=>by have hlt:r<g'.nx:=k.fr.OT e;show(if r<g'.nx then ρ2 r else _)=_;rw[aiz hlt];exact e
 have hto:ρ.to ρ3 S.nx:=λr hr'=>by have hlt:r<g'.nx:=Nat.lt_of_lt_of_le hr' k.nx;show(if r<g'.nx then ρ2 r else _)=_;rw[aiz hlt];exact k.to r hr'
 have hle:=hto.le hr.fr;have hmap:∀i v,σ i=some v->ρ3 (Jn g'.th g'.nx nm i)=some v:=λi v e=>by
  have hi:i<nm.length:=m8.OT e;obtain⟨o,ho⟩:∃o,nm[i]? =some o:=⟨_,aiI hi⟩;have hnew:ρ3 (g'.nx+i)=some v:=by show(if g'.nx+i<g'.nx then _ else σ (g'.nx+i-g'.nx))=_;rw[aiA (by omega),Nat.add_sub_cancel_left];exact e
  unfold Jn;rw[ho];cases o with
  |none=>exact hnew
  |some j=>
   dsimp only;have:=m7 i j ho;rw[e]at this;unfold cmp at this;split
   ·rename_i r ht
    rw[ht]at this;exact HU _ _ this.symm
   ·exact hnew
 obtain⟨r1,r2,_⟩:=zX (G:=G) (f:=Jn g'.th g'.nx nm) (s:=bV) (x:=y) (m:=0);have hval:rl J' ρ3 (dP (Jn g'.th g'.nx nm) bV y 0).1 (u::us'):=by rw[r1];exact Dv hmap m2
 have DO:RO J' ρ3 (dP (Jn g'.th g'.nx nm) bV y 0).2.1 M5:=by rw[r2];exact Kw hmap m3
 refine⟨ρ3,J',Y,hto,m1,?_,hr.tm,hr.df.up m1 hle,⟨hr.si.s.trans m5 λb hb=>?_,hr.si.n⟩,hr.fs.up m1 hle,hr.fc.up m1 hle,hr.IE m1 hle,⟨M5++H',DO.app (k.left.up m1 HU),?_⟩,m6,λr hr'=>?_⟩
 ·revert hv hval
  generalize(dP (Jn g'.th g'.nx nm) bV y 0).1=b;intro hv hval;cases b<;>simp only[Q6,Option.some.injEq,reduceCtorEq]at hv;subst hv;obtain⟨u0,r,e,h1,_⟩:=hval;cases e;exact h1
 ·obtain⟨q,hq,V8⟩:=aV.1 hb
  exact(hp.own q (by simpa using hq) b V8).1
 ·have wW:bq c.bs c.w0.heap.size (HB++((H'++HK)++X)) w:=by simpa using hp
  have:=Gv wW hr.si.size m4;simpa using this
 ·show(if r<g'.nx then ρ2 r else σ (r-g'.nx))=none
  have hr':g'.nx+nm.length<=r:=hr';rw[aiA (by omega)];exact m8 _ (by omega)
end Go.Rw
namespace Go.Rw
open Go Go.Bw Go.RowKit
variable {G:Sg} {P:Program} {tt:TT P G} {J J':World->Prop} {ρ ρ' σ:aX} {a:Act} {w:World} {d:Option Tmp} {ty:TypeId} {ps:String} {af:Array Edge} {g:Option (Nat×Bool)}
 {N:Nat} {c:Cx} {HK X H:List aF} {C:CC G} {S:AS G} {F:dc}
theorem PO{f h:Nat->List Value}{n:Nat}:∀m:Nat,flat (λi=>if i<n then f i else h (i-n)) (n+m)=flat f n++flat h m:=by
 intro m
 induction m with
 |zero=>simp only[Nat.add_zero,flat,List.append_nil];exact ta λi hi=>aiz hi
 |succ m ih=>show flat _ (n+m)++(if n+m<n then f (n+m)else h (n+m-n))=_ ++(flat h m++h m);rw[ih,aiA (by omega),Nat.add_sub_cancel_left,List.append_assoc]
theorem QY{α:Type}[Inhabited α]{L:cj α}{xs ys:List α}{ws news:List Value}(h1:(LA L xs.length).ef J ws (λi=>xs.getD i default))(h2:(LA L ys.length).ef J news (λi=>ys.getD i default)):(LA L (xs++ys).length).ef J (ws++news) (λi=>(xs++ys).getD i default):=by
 obtain⟨f,rfl,k1⟩:=h1;obtain⟨h,rfl,k2⟩:=h2;refine⟨λi=>if i<xs.length then f i else h (i-xs.length),?_,λi hi=>?_⟩
 ·rw[List.length_append,PO]
 ·rw[List.length_append]at hi
  by_cases q:i<xs.length
  ·simp only[aiz q,List.getD_eq_getElem?_getD,List.getElem?_append_left q]
   have:=k1 i q;simpa[List.getD_eq_getElem?_getD]using this
  ·simp only[aiA q,List.getD_eq_getElem?_getD,List.getElem?_append_right (Nat.le_of_not_lt q)]
   have:=k2 (i-xs.length) (by omega);simpa[List.getD_eq_getElem?_getD]using this
theorem XI{α:Type}[Inhabited α]{L:cj α}{x:α}{cs:List Value}(h:L.ef J cs x):(LA L [x].length).ef J cs (λi=>[x].getD i default):=by
 refine⟨λ_ =>cs,by simp[flat],λi hi=>?_⟩;have:i=0:=by simp at hi;exact hi
 subst this;exact h
theorem XJ{α:Type}[Inhabited α]{L:cj α}:(LA L ([]:List α).length).ef J [] (λi=>([]:List α).getD i default):=⟨λ_ =>[],rfl,λi hi=>absurd hi (Nat.not_lt_zero _)⟩
theorem Kh{α:Type}[Inhabited α]{L:cj α}{xs:List α}{ws:List Value}{l m:Nat}(hl:l<=m)(hm:m<=xs.length)(h:(LA L xs.length).ef J ws (λi=>xs.getD i default)):(LA L ((xs.drop l).take (m-l)).length).ef J ((ws.drop (l*L.n)).take ((m-l)*L.n)) (λi=>((xs.drop l).take (m-l)).getD i default):=by
 obtain⟨f,rfl,k⟩:=h;have hk:∀i,i<xs.length->(f i).length=L.n:=λi hi=>L.len (k i hi);have hlen:((xs.drop l).take (m-l)).length=m-l:=by simp;omega
 rw[hlen];refine⟨λi=>f (l+i),?_,λi hi=>?_⟩
 ·refine sw λq=>?_
  have hfl:=eW (n:=xs.length) hk;have aiu:(flat (λi=>f (l+i)) (m-l)).length=(m-l)*L.n:=eW λi hi=>hk _ (by omega);rw[List.getElem?_take,List.getElem?_drop];by_cases hq:q<(m-l)*L.n
  ·rw[aiz hq]
   have h0:0<L.n:=by
    rcases Nat.eq_zero_or_pos L.n with e|e
    ·rw[e,Nat.mul_zero]at hq;omega
    ·exact e
   have hdm:q=(q/L.n)*L.n+q%L.n:=by rw[Nat.mul_comm];exact(Nat.div_add_mod q L.n).symm
   have hj:q%L.n<L.n:=Nat.mod_lt _ h0;have hi:q/L.n<m-l:=Nat.div_lt_of_lt_mul (by rw[Nat.mul_comm];exact hq);have e1:l*L.n+q=(l+q/L.n)*L.n+q%L.n:=by rw[Nat.add_mul];omega
   rw[e1,qt hk (by omega) hj]
   conv=>rhs;rw[hdm]
   rw[qt (λi hi=>hk _ (by omega)) hi hj]
  ·rw[aiA hq,List.getElem?_eq_none (by omega)]
 ·have e:=k (l+i) (by omega)
  have:((xs.drop l).take (m-l)).getD i default=xs.getD (l+i) default:=by simp only[List.getD_eq_getElem?_getD,List.getElem?_take,List.getElem?_drop,aiz hi]
  show L.ef J (f (l+i)) (((xs.drop l).take (m-l)).getD i default);rw[this];exact e
theorem yH.cut{α:Type}[Inhabited α]{A:World->Prop}{v:Value}{L:cj α}{ws:List Value}{xs:List α}(h:yH A v L ws xs){l m sz:Nat}(hs:sz=L.n)(hl:l<=m)(hm:m<=xs.length):yH A (jT l m sz v) L ((ws.drop (l*sz)).take ((m-l)*sz)) ((xs.drop l).take (m-l)):=by
 subst hs;have hlen:((xs.drop l).take (m-l)).length=m-l:=by simp;omega
 refine⟨?_,Kh hl hm h.ef,λw hw=>?_⟩
 ·obtain⟨a,cp,rfl⟩:=h.sl
  rw[hlen];exact⟨_,_,rfl⟩
 ·rw[hlen];exact(h.ro w hw).cut hl hm
theorem QK{v:Value}{ws:List Value}{e sz n off t q:Nat}{x y:Operand}{val:Value}{vs:List Value}{f:aF->List aF}(hx:Bw.ev F x=some (er v off))(hz:Bw.ev F y=some val)(hv:val.cells.toList=vs)(hl:vs.length=q)(h1:lQ vs)
  (hle:off+q<=n*sz)(hn:0<n)[hr:qC H v e sz n ws f][ht:MO P t q]:
  RX (α:=Unit) P N c ⟨d, .store t x y,ty,ps,af,g⟩ F H (λ_ =>True) (λ_ =>undef) (λ_ =>f (.row v e sz n (bA ws off vs))):=λD a w next Q hst hk=>by
 subst hl;obtain⟨k,k1,k2⟩:=hr.ok;have HT:aF.row v e sz n ws∈H:=List.mem_of_getElem? k1;have hown:iw w e sz v n ws:=hst.hp.holds _ HT;obtain⟨hlen,BQ⟩:=hown;rcases BQ with⟨_,h0⟩|⟨gb,o,cap,cur,rfl,KT,hnc,JH,hcs,BO⟩
 ·omega
 have hmul:n*sz<=cap*sz:=Nat.mul_le_mul_right _ hnc;obtain⟨cs,rfl⟩:∃cs:List Value,cur=cs.toArray:=⟨cur.toList,by simp⟩;have qH:o+cap*sz<=cs.length:=by simpa using hcs
 have htk:(cs.drop o).take (n*sz)=ws:=by simpa using BO
 obtain⟨w',e1,e2,e3⟩:=oA (P:=P) (t:=t) (b:=gb) (T:=e) (off:=o+off) (cs:=cs) (w:=w) KT hv rfl (by omega) h1;have hnew:((bA cs (o+off) vs).drop o).take (n*sz)=bA ws off vs:=by rw[← htk];exact rh hle (by omega)
 refine lB (by simp) (w':=w') ?_ (hk () w' trivial (hst.si.store hst.hp HT (by simp[aF.bT,Value.ownBlock]) e3) ?_)
 ·simp[execOp,aH hst.fr hx,aH hst.fr hz,er,Instr.storeAt,Instr.sureAddr,e1]
 ·show bq c.bs c.w0.heap.size (f _) w'
  rw[k2];refine hst.hp.set k1 e3.size (λj hj hn=>e3.block j hj (by simpa[aF.bT,Value.ownBlock]using hn)) ?_ hst.si.size (λb' hb'=>?_)
  ·refine⟨by rw[qd (by omega)];exact hlen, .inr ⟨gb,o,cap,_,rfl,e2,hnc,JH,?_,?_⟩⟩
   ·simp only[List.size_toArray,bA,List.length_append,List.length_take,List.length_drop];omega
   ·simpa using hnew
  ·have h5:b'=gb:=by simpa[aF.bT,Value.ownBlock]using hb'
   subst h5;exact⟨.inl (by simp[aF.bT,Value.ownBlock]),Nat.lt_of_lt_of_le (aiH.1 KT).1 e3.size⟩
theorem Py{α:Type}[Inhabited α]{xs:List α}{k:Nat}{z:α}(hk:k<xs.length):(λi=>(xs.set k z).getD i default)=mZ (λi=>xs.getD i default) k z:=by
 funext i;unfold mZ;by_cases e:i=k
 ·subst e;simp[List.getD_eq_getElem?_getD,hk]
 ·simp[List.getD_eq_getElem?_getD,e,List.getElem?_set,Ne.symm e]
theorem Od{T:Nat}{x y:Operand}{v:AV G}{r e sz:Nat}{p:List pE}{t:Ty}{xs:List (t.T G)}{q:PL G t}{z:q.m.T G}(hx:ei C S [] x=some (.ptr r p))(hy:ei C S [] y=some v)(ho:bY S.O r=some (.row e sz t xs))(hz0:Pr p sz=true)(hq:DA tt.F t p=some q)(hu:xW q.m v=some z)(hf:sA tt T v=true):
  SK P ⟨d, .store T x y,ty,ps,af,g⟩ C S {S with O:=m0 S.O r (.row e sz t (xs.set q.i.toNat (q.set (xs.getD q.i.toNat default) z)))} .Ko:=by
 intro c N ρ J HK X a w next Q h hk
 obtain⟨HS,h1,hs0,hm⟩:=h.st;have hE:=bX h (ch:=[]) (by simp);obtain⟨b,o,e1,e2,e3⟩:=my (hE.ok _ _ hx);obtain⟨k,x0,k1,⟨vv,ws,m1,rfl,m3,m4,m5⟩,k3⟩:=h1.set ho;have hp:∃n cap n' sz i q',ρ r=some (.slice (some ⟨b,o,none⟩) n cap)/\p= .idx n' sz i::q'/\i.toNat<n:=by
  rcases e1 with h1|h1
  ·obtain⟨a0,cp,e⟩:=m3
   rw[h1,e]at m1;cases m1
  ·exact h1
 obtain⟨n,cap,n',sz',i,q',p1,p2,p3⟩:=hp;subst p2;obtain rfl:=aiB (show Nat.beq sz' sz=true from hz0);rw[p1]at m1;cases m1;obtain⟨a0,cp,e4⟩:=m3;cases e4;subst m5;obtain⟨q1,q3⟩:=Ht hq e3 rfl p3;have hv:=hE.ok _ _ hy;have V6:=wE hu hv;have Pg:=q3.set (v:=z) m4 V6.1;have hl:=(q.m.L G).len V6.1;rw[Array.length_toList]at hl;have hle:=q3.le;have qG:=hE.ev _ _ hx;rw[e2]at qG;haveI:=PU hf hv;have EC:=nL (m:=HK++X) k1;haveI:qC (HS++(HK++X)) (.slice (some ⟨b,o,none⟩) xs.length cap) e (t.L G).n xs.length ws ((HS++(HK++X)).set k):=⟨k,EC,λ_ =>rfl⟩;refine QK (v:= .slice (some ⟨b,o,none⟩) xs.length cap) (off:=dz (pE.idx n' (Ty.L G t).n i::q')) (vs:=(a.eval y).cells.toList) (n:=xs.length) qG (hE.ev _ _ hy) rfl (by simp) ((q.m.L G).one V6.1) (by rw[hl];exact hle) (by omega) a.defers a w next Q hs0 λ_ w' _ hs hp=>?_
 rw[qV k1]at hp;refine hk ρ J [] w' undef (aX.cL _ _) (λ_ h=>h) ⟨_,rfl⟩ (h.zk (k3 _ _ ?_) hs hp);refine⟨_,_,p1,by rw[List.length_set],⟨_,_,by rw[List.length_set]⟩,?_,rfl⟩;rw[List.length_set,q1,Py p3];exact Pg
structure LS(G:Sg) where
 t:Ty
 xs:List (t.T G)
def Ue(C:CC G)(S:AS G):AV G->Option (LS G)
 | .dat (.sl t) xs=>some ⟨t,xs⟩
 | .row r=>match OU C S r with
  |some (.row _ sz t xs)=>bif Nat.beq (t.L G).n sz then some ⟨t,xs⟩else none
  |_ =>none
 |_ =>none
theorem Js{v:AV G}{l:LS G}{u:Value}{D:List Deferred}(hm:Ke (G:=G) J ρ N c D H (OU C S) a w)(h:Ue C S v=some l)(hv:rv J ρ v u):∃ws,mU c H u (l.t.L G).n l.xs.length ws/\(LA (l.t.L G) l.xs.length).ef J ws (λi=>l.xs.getD i default)/\pJ u l.xs.length:=by
 unfold Ue at h;split at h
 ·rename_i t xs
  cases h;obtain⟨u',e1,hr,_,hc⟩:=hv;cases e1;obtain⟨v',ws,e2,hf⟩:=hr;rw[hc rfl]at e2;cases e2;haveI:=hm.kn;exact⟨ws,hf.at,hf.ef,hf.sl⟩
 ·rename_i r
  split at h
  ·rename_i e sz t xs ho
   cases hb:Nat.beq (t.L G).n sz with
   |false=>rw[hb]at h;cases h
   |true=>rw[hb]at h;cases h;obtain⟨vv,ws,h1,h2,h3,h4,h5⟩:=F6 hm ho;obtain rfl:=o9 hv h1;subst h5;exact⟨ws,h3,h4,h2⟩
  ·cases h
 ·cases h
def Ea{t t':Ty}(xs:List (t'.T G)):Option (List (t.T G)):=if h:t'.bF t=true then some (Ty.rD h▸xs)else none
theorem K8{t t':Ty}{xs:List (t'.T G)}{ys:List (t.T G)}(h:Ea xs=some ys):∃e:t'=t,e▸xs=ys:=by
 unfold Ea at h;by_cases hs:t'.bF t=true
 ·rw[dif_pos hs]at h;cases h;exact⟨Ty.rD hs,rfl⟩
 ·rw[dif_neg hs]at h;cases h
theorem wG{H':List aF}{e sz:Nat}{t:Ty}{zs:List (t.T G)}{v':Value}{ws:List Value}{w':World}{O':Os G}(h:Rl c N ρ J HK X C S a w)(hO:RO J ρ O' H')(hs:aO c.bs c.w0 w')(hp:bq c.bs c.w0.heap.size (.row v' e sz zs.length ws::(H'++(HK++X))) w')(hv:pJ v' zs.length)(hr:(LA (t.L G) zs.length).ef J ws (λi=>zs.getD i default))(hz:(t.L G).n=sz):
  ∃ρ',ρ.to ρ' S.nx/\rv J ρ' (.row S.nx:AV G) v'/\Rl c N ρ' J HK X C {S with O:=(S.nx, .row e sz t zs)::O',nx:=S.nx+1} a w':=by
 have hle:=(aX.g6 ρ S.nx v').le h.fr;obtain⟨a0,cp,rfl⟩:=hv;refine⟨ρ.set S.nx _,aX.g6 _ _ _,⟨_,_,_,aX.eP _ _ _,rfl⟩,h.tm,h.df.up (λ_ h=>h) hle,⟨hs,h.si.n⟩,h.fs.up (λ_ h=>h) hle,h.fc.up (λ_ h=>h) hle,h.IE (λ_ h=>h) hle,⟨_ ::H', .cons ⟨_,ws,aX.eP _ _ _,rfl,⟨_,_,rfl⟩,hr,hz⟩ (hO.up (λ_ h=>h) hle),?_⟩,h.kn,aX.sW h.fr _⟩;simpa using hp
theorem Vi{T r e sz bt:Nat}{x y:Operand}{vy:AV G}{t:Ty}{xs ys:List (t.T G)}{l:LS G}(hT:tt.te.find T=some (.sl e sz bt))(hx:ei C S [] x=some (.row r))(hy:ei C S [] y=some vy)(ho:bY S.O r=some (.row e sz t xs))(hl:Ue C S vy=some l)(hc:Ea l.xs=some ys)(hg:gR xs.length ys.length bt=true):
  SK P ⟨d, .call ⟨.builtin .append, #[x,y], #[T,T]⟩,ty,ps,af,g⟩ C S {S with O:=(S.nx, .row e sz t (xs++ys))::tg S.O r,nx:=S.nx+1} (.row S.nx):=by
 intro c N ρ J HK X a w next Q h hk
 obtain⟨HS,h1,hs0,hm⟩:=h.st;have hE:=bX h (ch:=[]) (by simp);obtain⟨k,x0,k1,⟨vv,ws,m1,rfl,m3,m4,m5⟩,k3⟩:=h1.S6 ho;obtain⟨t',l'⟩:=l;obtain⟨rfl,rfl⟩:=K8 hc;obtain⟨news,n1,n2,n3⟩:=Js hm hl (hE.ok _ _ hy);have Pf:=o9 (hE.ok _ _ hx) m1;have qG:=hE.ev _ _ hx;rw[Pf]at qG;haveI:=(tt.sl hT).2;have EC:=nL (m:=HK++X) k1;haveI:qC (HS++(HK++X)) vv e sz xs.length ws ((HS++(HK++X)).set k):=⟨k,EC,λ_ =>rfl⟩;subst m5;haveI:=n1;obtain⟨g1,g2⟩:=nC hg;refine tE qG (hE.ev _ _ hy) (cj.one _ n2) g1 g2 a.defers a w next Q hs0 λv' w' HQ hs hp=>?_
 have wW:bq c.bs c.w0.heap.size (.row v' e (t'.L G).n (xs++l').length (ws++news)::(HS.eraseIdx k++(HK++X))) w':=by
  rw[List.length_append];have Wa:bq c.bs c.w0.heap.size ((HS++(HK++X)).set k (.row v' e (t'.L G).n (xs.length+l'.length) (ws++news))) w':=hp;rw[qV k1]at Wa;refine Wa.gK ?_;have hlt:=(List.getElem?_eq_some_iff.1 k1).1;have e1:(HS.set k (.row v' e (t'.L G).n (xs.length+l'.length) (ws++news)))[k]? =some (.row v' e (t'.L G).n (xs.length+l'.length) (ws++news)):=by simp[hlt]
  have:=mz e1 (HK++X);rwa[List.eraseIdx_set_eq]at this
 obtain⟨ρ',q1,q2,q3⟩:=wG h k3 hs wW (by rw[List.length_append];exact HQ) (QY m4 n2) rfl;exact hk ρ' J [] w' v' q1 (λ_ h=>h) q2 q3
theorem RF{T e sz bt:Nat}{x y:Operand}{vy:AV G}{l:LS G}(hT:tt.te.find T=some (.sl e sz bt))(hx:ei C S [] x=some .iC)(hy:ei C S [] y=some vy)(hl:Ue C S vy=some l)(hsz:(l.t.L G).n=sz)(hg:gR 0 l.xs.length bt=true):
  SK P ⟨d, .call ⟨.builtin .append, #[x,y], #[T,T]⟩,ty,ps,af,g⟩ C S {S with O:=(S.nx, .row e sz l.t l.xs)::S.O,nx:=S.nx+1} (.row S.nx):=by
 intro c N ρ J HK X a w next Q h hk
 obtain⟨HS,h1,hs0,hm⟩:=h.st;have hE:=bX h (ch:=[]) (by simp);obtain⟨news,n1,n2,n3⟩:=Js hm hl (hE.ok _ _ hy);have qG:=hE.ev _ _ hx;have Pf:a.eval x= .slice none 0 0:=(List.cons.inj (show[a.eval x]=[Value.slice none 0 0]from hE.ok _ _ hx)).1;rw[Pf]at qG;haveI:=(tt.sl hT).2;subst hsz;obtain⟨g1,g2⟩:=nC hg;have Gu:St N c a.defers (jS a) (.row (.slice none 0 0) e (l.t.L G).n 0 []::(HS++(HK++X))) a w:=⟨hs0.tm,hs0.fr,hs0.df,hs0.si,wI hs0.hp⟩;haveI:mU c (.row (.slice none 0 0) e (l.t.L G).n 0 []::(HS++(HK++X))) (a.eval y) (l.t.L G).n l.xs.length news:=⟨λw' hs' hp'=>n1.ro w' hs' ⟨λs hs=>hp'.holds s (aiL _ hs),λs hs=>hp'.own s (aiL _ hs),(List.pairwise_cons.1 hp'.apart).2⟩⟩;refine tE (n:=0) (xs:=[]) qG (hE.ev _ _ hy) (cj.one _ n2) g1 g2 a.defers a w next Q Gu λv' w' HQ hs hp=>?_
 obtain⟨ρ',q1,q2,q3⟩:=wG (t:=l.t) (zs:=l.xs) h h1 hs (by simpa using hp) (by simpa using HQ) n2 rfl;exact hk ρ' J [] w' v' q1 (λ_ h=>h) q2 q3
end Go.Rw
