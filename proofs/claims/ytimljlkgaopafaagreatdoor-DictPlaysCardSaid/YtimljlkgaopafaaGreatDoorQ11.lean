/- Part 11 of what a proof leans on; pruned and shortened by a program out of longer texts. -/
import Derived.Test.YtimljlkgaopafaaGreatDoorQ10
namespace Go.Rw
open Go Go.Bw Go.RowKit
variable {G:Sg} {P:Program} {Z:Type}
def SE:AV G->List Nat->Option (AV G)
 |v,[]=>some v
 | .fn _ _ c,i::r=>match SU c i with
  |some x=>SE x r
  |none=>none
 |_,_ =>none
theorem Zq{J:World->Prop}{ρ:bh}:∀{p:List Nat} {v x:AV G} {u:Value},SE v p=some x->rv J ρ v u->∃u',rv J ρ x u':=by
 intro p
 induction p with
 |nil=>intro v x u h hv;unfold SE at h;obtain rfl:=Option.some.inj h;exact⟨u,hv⟩
 |cons i r ih=>
  intro v x u h hv;cases v<;>(try (simp[SE]at h;done))
  case fn f a c=>
   simp only[SE]at h;split at h
   ·rename_i y hy
    obtain⟨fs,cs,_,_,h2⟩:=hv;obtain⟨u',_,k2⟩:=LM hy h2;exact ih h k2
   ·cases h
def Zs(akc:AV G):List (List Nat)->Option (AV G)
 |[]=>some .nil
 |(i::p)::r=>match SU akc i,Zs akc r with
  |some v,some l=>match SE v p with
   |some x=>some (.cons x l)
   |none=>none
  |_,_ =>none
 |_ =>none
theorem Zr{J:World->Prop}{ρ:bh}{akc:AV G}{vs:List Value}(h:rl J ρ akc vs):∀{bi:List (List Nat)} {bk:AV G},Zs akc bi=some bk->∃us,rl J ρ bk us:=by
 intro bi
 induction bi with
 |nil=>intro bk e;cases e;exact⟨[],rfl⟩
 |cons q r ih=>
  intro bk e;cases q with
  |nil=>cases e
  |cons i p=>
   simp only[Zs]at e;split at e
   ·rename_i v l h1 h2
    split at e
    ·rename_i x hx
     cases e;obtain⟨u,_,k2⟩:=LM h1 h;obtain⟨u',k4⟩:=Zq hx k2;obtain⟨us,k3⟩:=ih h2;exact⟨u'::us,u',us,rfl,k4,k3⟩
    ·cases e
   ·cases e
def Mm(cP:Sh)(nm:List (Option Nat))(base:Nat)(bk v:AV G)(S1:AS G)(k:HL G (aL cP)->Option Z):Option Z:=
 match zK (xK S1.O cP (.cons v bk)) ⟨[(0,v)],S1.O,S1.nx,[]⟩with
 |S3=>match dm S3.F 0 with
  |some v'=>match nW cP (.cons v' bk) ⟨[],S3.O,S3.nx⟩with
   |some (x,g')=>bif wF v'&&(xp nm g'.th&&xq base nm)then k x else none
   |none=>none
  |none=>none
theorem Xo{cP:Sh}{nm:List (Option Nat)}{bk v:AV G}{S1:AS G}{k:HL G (aL cP)->Option Z}{z:Z}{base:Nat}(h:Mm cP nm base bk v S1 k=some z):∃y,Mm cP nm base bk v S1 some=some y/\k y=some z:=by
 unfold Mm at h ⊢;dsimp only at h ⊢;split at h
 ·rename_i v' JU
  split at h
  ·rename_i x g' hg
   cases hc:(wF v'&&(xp nm g'.th&&xq base nm))with
   |false=>rw[hc]at h;cases h
   |true=>rw[hc]at h;exact⟨x,rfl,h⟩
  ·cases h
 ·cases h
theorem Rt{cP:Sh}{nm:List (Option Nat)}{bk v:AV G}{S1:AS G}{y:HL G (aL cP)}{ρ ρ':bh}{J J':World->Prop}{HK X Y H:List aE}{w w':World}{a:Act}{u:Value}{us:List Value}{base:Nat}
  (h:Mm cP nm base bk v S1 some=some y)(hb:rl J ρ bk us)(hto:ρ.to ρ' base)(hf:ρ.fr base)(hn:base<=S1.nx)(hJ:∀w,J' w->J w)(hv:rv J' ρ' v u)(hr:Rl ⟨none,w,bF H⟩ 0 ρ' J' HK (Y++X) [] ⟨[],S1.O,S1.nx,[]⟩ a w'):
  Co cP nm y ρ J H HK X w u w':=by
 unfold Mm at h;have h2:Rl ⟨none,w,bF H⟩ 1 ρ' J' HK (Y++X) [] ⟨[(0,v)],S1.O,S1.nx,[]⟩ {a with tmps:= #[u]} w':=by
  refine⟨rfl,hr.df,hr.si,λd x e=>?_,λy hy=>(by cases hy),hr.kc,hr.hp,hr.kn,hr.fr⟩;simp only[dm]at e;cases hd:Nat.beq 0 d with
  |true=>rw[hd]at e;cases e;obtain rfl:=akf hd;exact⟨u,rfl,M7 hv _⟩
  |false=>rw[hd]at e;cases e
 obtain⟨J3,Y3,mJ,h3⟩:=h2.zK (xK S1.O cP (.cons v bk));have Nz:(zK (xK S1.O cP (.cons v bk)) (⟨[(0,v)],S1.O,S1.nx,[]⟩:AS G)).nx=S1.nx:=xy _ _;revert h h3 Nz;generalize zK (xK S1.O cP (.cons v bk)) (⟨[(0,v)],S1.O,S1.nx,[]⟩:AS G)=S3;intro h h3 Nz;dsimp only at h;split at h
 ·rename_i v' JU
  split at h
  ·rename_i x g' hg
   cases hc:(wF v'&&(xp nm g'.th&&xq base nm))with
   |false=>rw[hc]at h;cases h
   |true=>
    rw[hc]at h;cases h;simp only[akg]at hc;obtain⟨hc0,hc⟩:=hc;obtain⟨u0,e0,hrf⟩:=h3.fs 0 _ JU;have e0:u0=u:=by have:(#[u]:Array Value)[0]? =some u0:=e0;simpa using this.symm
    subst e0;have hv2:rv J3 ρ' v' u0:=by
     cases v' with
     |gd j ww vv=>cases hc0
     |_ =>exact hrf
    have hle:=hto.le hf;have hb':rl J3 ρ' bk us:=(hb.ext hle).mono λw q=>hJ w (mJ w q);obtain⟨HS,q1,q3⟩:=h3.hp;obtain⟨ρ2,HB,H',hG⟩:=Iz (l:=u0::us) (ρ:=ρ') hg ⟨u0,us,rfl,hv2,hb'⟩ q1 h3.fr;obtain⟨n1,n2⟩:=V4 hc.1;have n3:=V5 hc.2;refine⟨cmp ρ2 g'.th,J3,Y3++Y,HB,us,λw q=>hJ w (mJ w q),hG.val,hG.cI,?_,h3.si.s,?_,λi j e=>?_,λi hi=>?_⟩
    ·have:=hG.hp _ _ _ _ q3
     refine(this.sub (List.Sublist.append_left (List.sublist_append_right H' _) HB)).j9 ?_;rw[List.append_assoc]
    ·rw[List.append_assoc];exact h3.kn
    ·have ht:=n2 i j e
     have hj:=n3 i j e;unfold cmp;rw[ht];dsimp only;rw[hG.to j (by show j<S3.nx;omega),hto j hj]
    ·unfold cmp
     rw[List.getElem?_eq_none (by rw[← n1];exact hi)]
  ·cases h
 ·cases h
def bkP:Sh->AV G->AV G
 | .cons _ .nil,_ => .nil
 |_,bk=>bk
theorem aet{J:World->Prop}{ρ:bh}{bk:AV G}{us:List Value}(h:rl J ρ bk us)(s:Sh):∃us,rl J ρ (bkP s bk) us:=by
 unfold bkP;split
 ·exact⟨[],rfl⟩
 ·exact⟨us,h⟩
def ahz(ek:Nat->List (Ek P G))(tt:TT P G)(C:CC G)(Bq:List ResultVar)(bk:AV G)(base:Nat)(cP:Sh)(nm:List (Option Nat))(gR:Sh)(VU:List (Option Nat))(fo:HL G (aL cP)->Option Z)(fp:HL G (aL gR)->Option Z):Ex G->AS G->Option Z:=λe S=>match oK ek e S.D S.O with
 |some (.wY v,O2)=>Mm gR VU base (bkP gR bk) v ⟨S.F,O2,S.nx,[]⟩ fp
 |some (.jK,O2)=>(match ED tt C ⟨S.F,O2,S.nx,[]⟩ Bq with
  |some v=>Mm cP nm base bk v ⟨S.F,O2,S.nx,[]⟩ fo
  |none=>none)
 |some (.ret,O2)=>(match ED tt C ⟨S.F,O2,S.nx,[]⟩ Bq with
  |some v=>Mm cP nm base bk v ⟨S.F,O2,S.nx,[]⟩ fo
  |none=>none)
 |_ =>none
noncomputable def Wf(tb:wS P G)(n:Nat)(s:Fs)(fo:HL G (aL s.cP)->Option Z)(fp:HL G (aL s.gR)->Option Z)(i:HI G s):Option Z:=match D1 P s.k with
 |some fi=>match s.bl i with
  |(akc,O,m)=>match Zs akc s.bi with
   |some bk=>bif pb akc&&Nat.ble (zD akc) fi.N then W tb n fi.N [] [⟨[],s.ro i++[],[]⟩] (.code fi.code) ⟨wO 0 akc,O,m,[]⟩ (ahz tb.ek tb.tt [⟨[],s.ro i++[],[]⟩] fi.Bq bk m s.cP s.nm s.gR s.VU fo fp)else none
   |none=>none
 |none=>none
theorem Rl.ahK{c:Cx}{N:Nat}{ρ:bh}{J:World->Prop}{HK X:List aE}{O:Os G}{S:AS G}{a:Act}{w:World}(h:Rl c N ρ J HK X [⟨[],O,[]⟩] S a w)(hro:c.ro=none):Rl c N ρ J HK X [] S a w:=
 ⟨h.tm,h.df,⟨h.si.s,λ_ =>hro⟩,h.fs,λy hy=>(by cases hy),λr o e=>(by cases e),h.hp,h.kn,h.fr⟩
theorem XX{tb:wS P G}{n:Nat}{s:Fs}{fo:HL G (aL s.cP)->Option Z}{fp:HL G (aL s.gR)->Option Z}{x:HI G s}{z:Z}(h:Wf tb n s fo fp x=some z)
  {ρ:bh}{J:World->Prop}{HS HK X:List aE}{w:World}{vs:List Value}(hv:rl J ρ (s.bl x).1 vs)(hO:RO J ρ (s.bl x).2.1 HS)(hrd:∀r o,dm (s.ro x) r=some o->∃y∈HK,ro J ρ r o y)
  (hp:bH (bF (HS++(HK++X))) w.heap.size (HS++(HK++X)) w)(hk:Uh G X J)(hf:ρ.fr (s.bl x).2.2):
  (∃y,fo y=some z/\Calls P s.k vs.toArray w λen w'=>∃u,en= .returned u/\Co s.cP s.nm y ρ J (HS++(HK++X)) HK X w u w')\/
  (∃y,fp y=some z/\Calls P s.k vs.toArray w λen w'=>∃u,en= .panicked [{v:=u,recovered:=false}]/\Co s.gR s.VU y ρ J (HS++(HK++X)) HK X w u w'):=by
 unfold Wf at h;split at h
 ·rename_i fi Ir
  revert h hv hO hf;generalize s.bl x=b;obtain⟨akc,O,m⟩:=b;intro hv hO hf h;dsimp only at h hv hO hf;split at h
  ·rename_i bk hbk
   cases hc:(pb akc&&Nat.ble (zD akc) fi.N)with
   |false=>rw[hc]at h;cases h
   |true=>
    rw[hc]at h;simp only[akg]at hc;obtain⟨e1,S1,k1,k2,k3⟩:=ahS _ _ _ _ _ _ _ _ h;have k2:m<=S1.nx:=k2;obtain⟨us,hus⟩:=Zr hv hbk;have hr:Rl ⟨none,w,bF (HS++(HK++X))⟩ 0 ρ J HK X [⟨[],s.ro x,[]⟩] (⟨[],O,m,[]⟩:AS G) ⟨#[],[]⟩ w:=by
     refine⟨rfl, .nil,⟨aQ.refl _ _,λ_ =>rfl⟩,λd x e=>(by cases e),λy hy=>?_,λr o e=>hrd r o ?_,⟨HS,hO,hp⟩,hk,hf⟩
     ·simp at hy;subst hy;exactλd v e=>by cases e
     ·have e:dm (s.ro x++[]) r=some o:=e
      rwa[List.append_nil]at e
    have go:=λe2 O2 hX he=>DH (tt:=tb.tt) (ek:=tb.ek) (e2:=e2) (O2:=O2) hr Ir hc.1 (Nat.le_of_ble_eq_true hc.2) hv k3 hX rfl he;have ret:∀v e2 O2,oK tb.ek e1 S1.D S1.O=some (e2,O2)->(e2= .jK\/e2= .ret)->ED tb.tt [⟨[],s.ro x++[],[]⟩] ⟨S1.F,O2,S1.nx,[]⟩ fi.Bq=some v->Mm s.cP s.nm m bk v ⟨S1.F,O2,S1.nx,[]⟩ fo=some z->(∃y,fo y=some z/\Calls P s.k vs.toArray w λen w'=>∃u,en= .returned u/\Co s.cP s.nm y ρ J (HS++(HK++X)) HK X w u w'):=by
     intro v e2 O2 hX he hres ajn;obtain⟨y,y1,y2⟩:=Xo ajn;refine⟨y,y2,?_⟩;have uF:=go e2 O2 hX (.inr ⟨he,v,hres⟩);intro cs';obtain⟨en,w',fr,⟨ρ',J',Y,j1,j2,j3,j4⟩,rest⟩:=uF cs';refine⟨en,w',fr,?_,rest⟩;rcases j4 with⟨v',u,q1,_⟩|⟨_,v',u,q1,rfl,q3⟩
     ·rcases he with he|he<;>rw[he]at q1<;>cases q1
     ·have q1:ED tb.tt [⟨[],s.ro x++[],[]⟩] ⟨S1.F,O2,S1.nx,[]⟩ fi.Bq=some v':=q1
      rw[hres]at q1;cases q1;exact⟨u,rfl,Rt (S1:=⟨S1.F,O2,S1.nx,[]⟩) y1 hus j1 hf k2 j2 q3 (j3.ahK rfl)⟩
    unfold ahz at k1;split at k1
    ·rename_i v O2 hX
     obtain⟨y,y1,y2⟩:=Xo k1;obtain⟨up,hup⟩:=aet hus s.gR;refine .inr ⟨y,y2,?_⟩;have uF:=go _ O2 hX (.inl ⟨v,rfl⟩);intro cs';obtain⟨en,w',fr,⟨ρ',J',Y,j1,j2,j3,j4⟩,rest⟩:=uF cs';refine⟨en,w',fr,?_,rest⟩;rcases j4 with⟨v',u,q1,rfl,q3⟩|⟨q1,_⟩
     ·cases q1
      exact⟨u,rfl,Rt (S1:=⟨S1.F,O2,S1.nx,[]⟩) (us:=up) y1 hup j1 hf k2 j2 q3 (j3.ahK rfl)⟩
     ·rcases q1 with q1|q1<;>cases q1
    ·rename_i O2 hX
     split at k1
     ·rename_i v hres;exact .inl (ret v _ O2 hX (.inl rfl) hres k1)
     ·cases k1
    ·rename_i O2 hX
     split at k1
     ·rename_i v hres;exact .inl (ret v _ O2 hX (.inr rfl) hres k1)
     ·cases k1
    ·cases k1
  ·cases h
 ·cases h
def RV(s:Fs)(f:HI G s->Option Z)(mu:Z->HL G (aL s.cP))(x:HI G s)(y:HL G (aL s.cP)):Prop:=∃z,f x=some z/\mu z=y
theorem Rk{tb:wS P G}{n:Nat}{s:Fs}{f:HI G s->Option Z}{um:HL G (aL s.cP)->Z}{mu:Z->HL G (aL s.cP)}(e1:∀y,mu (um y)=y)(hW:∀x,Wf tb n s (λy=>some (um y)) (λ_ =>none) x=f x):Qu P s (RV s f mu) (λ_ _ =>False):=by
 intro ρ J HS HK X w vs x hv hO hrd hp hk hfr;refine⟨λy h=>?_,λy h=>h.elim⟩;obtain⟨z,h,hz⟩:=h;rw[← hW]at h;rcases XX h hv hO hrd hp hk hfr with⟨y',h1,h2⟩|⟨y',h1,_⟩
 ·have h1:=Option.some.inj h1
  have:y'=y:=by rw[← hz, ← h1,e1]
  subst this;exact h2
 ·cases h1
def ctV(s:Fs)(f:HI G s->Option Z)(mu:Z->HL G (aL s.cP))(zz:Z)(hf:(D1 P s.k).isSome=true)(ok:Qu P s (RV s f mu) (λ_ _ =>False)):Ct P G where
 s:=s
 R:=RV s f mu
 Rp:=λ_ _ =>False
 cp:=λx ko _ =>bd (f x) λz=>ko (mu z)
 cg:=λg x ko=>cl g (f x) zz λz=>ko (mu z)
 cps:=λx ko kp z h=>by obtain⟨y,h1,h2⟩:=tg h;exact .inl ⟨mu y,⟨y,h1,rfl⟩,h2⟩
 cgs:=λg x k z h=>by obtain⟨y,h1,_,h2⟩:=aaN h;exact⟨mu y,λq=>⟨y,h1 q,rfl⟩,h2⟩
 fn:=by
  cases h:D1 P s.k with
  |none=>rw[h]at hf;cases hf
  |some fi=>exact B0 h
 ok:=ok
def RE{E:Type}(s:Fs)(f:HI G s->Option (Except E Z))(mu:Z->HL G (aL s.cP))(x:HI G s)(y:HL G (aL s.cP)):Prop:=∃z,f x=some (.ok z)/\mu z=y
def RX{E:Type}(s:Fs)(f:HI G s->Option (Except E Z))(me:E->HL G (aL s.gR))(x:HI G s)(y:HL G (aL s.gR)):Prop:=∃e,f x=some (.error e)/\me e=y
theorem Rm{E:Type}{tb:wS P G}{n:Nat}{s:Fs}{f:HI G s->Option (Except E Z)}{um:HL G (aL s.cP)->Z}{mu:Z->HL G (aL s.cP)}{ue:HL G (aL s.gR)->E}{me:E->HL G (aL s.gR)}(e1:∀y,mu (um y)=y)(e2:∀y,me (ue y)=y)(hW:∀x,Wf tb n s (λy=>some (.ok (um y))) (λy=>some (.error (ue y))) x=f x):Qu P s (RE s f mu) (RX s f me):=by
 intro ρ J HS HK X w vs x hv hO hrd hp hk hfr;refine⟨λy h=>?_,λy h=>?_⟩
 ·obtain⟨z,h,hz⟩:=h
  rw[← hW]at h;rcases XX h hv hO hrd hp hk hfr with⟨y',h1,h2⟩|⟨y',h1,_⟩
  ·have h1:=Except.ok.inj (Option.some.inj h1)
   have:y'=y:=by rw[← hz, ← h1,e1]
   subst this;exact h2
  ·cases Option.some.inj h1
 ·obtain⟨z,h,hz⟩:=h
  rw[← hW]at h;rcases XX h hv hO hrd hp hk hfr with⟨y',h1,h2⟩|⟨y',h1,h2⟩
  ·cases Option.some.inj h1
  ·have h1:=Except.error.inj (Option.some.inj h1)
   have:y'=y:=by rw[← hz, ← h1,e2]
   subst this;exact h2
def PZ{E:Type}(s:Fs)(f:HI G s->Option (Except E Z))(mu:Z->HL G (aL s.cP))(me:E->HL G (aL s.gR))(hf:(D1 P s.k).isSome=true)(ok:Qu P s (RE s f mu) (RX s f me)):Ct P G where
 s:=s
 R:=RE s f mu
 Rp:=RX s f me
 cp:=λx ko kp=>bd (f x) λr=>match r with
  | .ok z=>ko (mu z)
  | .error e=>kp (me e)
 cg:=λ_ _ _ =>none
 cps:=λx ko kp z h=>by
  obtain⟨r,h1,h2⟩:=tg h;cases r with
  |ok y=>exact .inl ⟨mu y,⟨y,h1,rfl⟩,h2⟩
  |error e=>exact .inr ⟨me e,⟨e,h1,rfl⟩,h2⟩
 cgs:=λg x k z h=>by cases h
 fn:=by
  cases h:D1 P s.k with
  |none=>rw[h]at hf;cases hf
  |some fi=>exact B0 h
 ok:=ok
def ctX{E:Type}(s:Fs)(f:HI G s->Option (Except E Z))(mu:Z->HL G (aL s.cP))(me:E->HL G (aL s.gR))(hf:(D1 P s.k).isSome=true)(ok:Qu P s (RE s f mu) (RX s f me))(cp:{Y:Type}->HI G s->(HL G (aL s.cP)->Option Y)->(HL G (aL s.gR)->Option Y)->Option Y)
  (hc:∀{Y:Type} (x:HI G s) (ko:HL G (aL s.cP)->Option Y) (kp:HL G (aL s.gR)->Option Y),cp x ko kp=(PZ s f mu me hf ok).cp x ko kp):Ct P G where
 s:=s
 R:=RE s f mu
 Rp:=RX s f me
 cp:=cp
 cg:=λ_ _ _ =>none
 cps:=λx ko kp z h=>(PZ s f mu me hf ok).cps x ko kp z (by rw[← hc];exact h)
 cgs:=λg x k z h=>by cases h
 fn:=(PZ s f mu me hf ok).fn
 ok:=ok
abbrev Sh.i:Sh:= .v (.int .i64)
abbrev Sh.b:Sh:= .v .bool
abbrev Sh.s(n:Nat):Sh:= .v (.st n)
abbrev Sh.w:Sh:= .v (.int .u32)
def lS:List Sh->Sh
 |[]=> .nil
 |a::r=> .cons a (lS r)
abbrev Sh.t(l:List Sh):Sh:= .jc (lS l)
abbrev kU(k:Nat)(i o:List Sh):Fs:=⟨k,[],lS i,lS o,[], .nil,[],[]⟩
abbrev fsT(k:Nat)(i o:List Sh)(T:Nat):Fs:=⟨k,[],lS i,lS o,[], .cons (.iQ T (.v (.int .i64))) .nil,[],[]⟩
section
variable {A B C D:Type}
def u1(y:A×Unit):A:=y.1
def u2(y:A×B×Unit):A×B:=(y.1,y.2.1)
def u3(y:A×B×C×Unit):A×B×C:=(y.1,y.2.1,y.2.2.1)
def m1(z:A):A×Unit:=(z,())
def m2(z:A×B):A×B×Unit:=(z.1,z.2,())
def m3(z:A×B×C):A×B×C×Unit:=(z.1,z.2.1,z.2.2,())
def a1(f:A->Z)(x:A×Unit):Z:=f x.1
def a2(f:A->B->Z)(x:A×B×Unit):Z:=f x.1 x.2.1
def a3(f:A->B->C->Z)(x:A×B×C×Unit):Z:=f x.1 x.2.1 x.2.2.1
def a4(f:A->B->C->D->Z)(x:A×B×C×D×Unit):Z:=f x.1 x.2.1 x.2.2.1 x.2.2.2.1
end
def cV[Inhabited Z](tb:wS P G)(s:Fs)(f:HI G s->Option Z)(um:HL G (aL s.cP)->Z)(mu:Z->HL G (aL s.cP))(e1:∀y,mu (um y)=y:=by exactλ_ =>rfl)(hf:(D1 P s.k).isSome=true:=by kernel_rfl)(hW:∀x,Wf tb 3000 s (λy=>some (um y)) (λ_ =>none) x=f x:=by intro _;kernel_rfl):Ct P G:=
 ctV s f mu default hf (Rk e1 hW)
def cVq[Inhabited Z](tb:wS P G)(s:Fs)(f:HI G s->Option Z)(um:HL G (aL s.cP)->Z)(mu:Z->HL G (aL s.cP)){f':HI G s->Option Z}(hq:f'=f)(e1:∀y,mu (um y)=y:=by exactλ_ =>rfl)(hf:(D1 P s.k).isSome=true:=by kernel_rfl)(hW:∀x,Wf tb 3000 s (λy=>some (um y)) (λ_ =>none) x=f x:=by intro _;kernel_rfl):Ct P G:=
 ctV s f' mu default hf (hq▸Rk e1 hW)
def cX{E:Type}(tb:wS P G)(s:Fs)(f:HI G s->Option (Except E Z))(um:HL G (aL s.cP)->Z)(mu:Z->HL G (aL s.cP))(ue:HL G (aL s.gR)->E)(me:E->HL G (aL s.gR))(e1:∀y,mu (um y)=y:=by exactλ_ =>rfl)(e2:∀y,me (ue y)=y:=by exactλ_ =>rfl)(hf:(D1 P s.k).isSome=true:=by kernel_rfl)
  (hW:∀x,Wf tb 3000 s (λy=>some (.ok (um y))) (λy=>some (.error (ue y))) x=f x:=by intro _;kernel_rfl):Ct P G:=PZ s f mu me hf (Rm e1 e2 hW)
def cT(tb:wS P G)(k:Nat)(i o:List Sh)(T:Nat)(f:HI G (fsT k i o T)->Option (Except Int Z))(um:HL G (aL (fsT k i o T).cP)->Z)(mu:Z->HL G (aL (fsT k i o T).cP))(e1:∀y,mu (um y)=y:=by exactλ_ =>rfl)(hf:(D1 P k).isSome=true:=by kernel_rfl)
  (hW:∀x,Wf tb 3000 (fsT k i o T) (λy=>some (.ok (um y))) (λy=>some (.error (u1 y))) x=f x:=by intro _;kernel_rfl):Ct P G:=PZ (fsT k i o T) f mu m1 hf (Rm e1 (λ_ =>rfl) hW)
def TM(k T:Nat):Fs:=⟨k,[], .cons (.v .bool) (.cons (.v (.int .i64)) .nil), .cons (.jc .nil) .nil,[], .cons (.iQ T (.v (.int .i64))) .nil,[],[]⟩
def aew{k T:Nat}(x:HI G (TM k T)):Bool:=x.1
def ahN{k T:Nat}(x:HI G (TM k T)):Int:=x.2.1
def aaZ{k T:Nat}(x:HI G (TM k T)):Option (Except Int Unit):=cn (!aew x) (some (.error (ahN x))) (some (.ok ()))
def ahO{k T:Nat}(y:HL G (aL (TM k T).gR)):Int:=y.1
def abL(tb:wS P G)(k T:Nat)(hf:(D1 P k).isSome=true)(hW:∀x,Wf tb 300 (TM k T) (λ_ =>some (.ok ())) (λy=>some (.error (ahO y))) x=aaZ x):Ct P G:=
 ctX (TM k T) aaZ (λ_ =>()) (λe=>(e,())) hf (Rm (tb:=tb) (n:=300) (um:=λ_ =>()) (ue:=ahO) (λ_ =>rfl) (λ_ =>rfl) hW)
  (λx ko kp=>bif aew x then ko ()else kp (ahN x,())) (λx ko kp=>by
   show _ =bd (aaZ x) _;unfold aaZ;cases aew x<;>rfl)
theorem ahx{s:Fs}{f:HI G s->Option Z}{mu:Z->HL G (aL s.cP)}(h:∀x,f x=none):Qu P s (RV s f mu) (λ_ _ =>False):=by intro ρ J HS HK X w vs x _ _ _ _ _ _;refine⟨λy hy=>?_,λy h=>h.elim⟩;obtain⟨z,h1,_⟩:=hy;rw[h]at h1;cases h1
theorem ad0{E:Type}{s:Fs}{f:HI G s->Option (Except E Z)}{mu:Z->HL G (aL s.cP)}{me:E->HL G (aL s.gR)}(h:∀x,f x=none):Qu P s (RE s f mu) (RX s f me):=by intro ρ J HS HK X w vs x _ _ _ _ _ _;refine⟨λy hy=>?_,λy hy=>?_⟩<;>(obtain⟨z,h1,_⟩:=hy;rw[h]at h1;cases h1)
def iL{E Y:Type}(o:Option (Except E Z))(ko:Z->Option Y)(kp:E->Option Y):Option Y:=bd o λr=>match r with
 | .ok z=>ko z
 | .error e=>kp e
def cR[Inhabited Z](tb:Nat->Ct P G->wS P G)(s:Fs)(f:Nat->HI G s->Option Z)(um:HL G (aL s.cP)->Z)(mu:Z->HL G (aL s.cP))(n:Nat)(h0:∀x,f 0 x=none:=by exactλ_ =>rfl)(e1:∀y,mu (um y)=y:=by exactλ_ =>rfl)(hf:(D1 P s.k).isSome=true:=by kernel_rfl)
  (hW:∀(n:Nat) (ok:Qu P s (RV s (f n) mu) (λ_ _ =>False)) (x:HI G s),Wf (tb n (ctV s (f n) mu default hf ok)) 3000 s (λy=>some (um y)) (λ_ =>none) x=f (n+1) x:=by intro _ _ _;kernel_rfl):Ct P G:=
 ctV s (f n) mu default hf (n.rec (ahx h0) λm ih=>Rk e1 (hW m ih))
def cRX{E:Type}(tb:Nat->Ct P G->wS P G)(s:Fs)(f:Nat->HI G s->Option (Except E Z))(um:HL G (aL s.cP)->Z)(mu:Z->HL G (aL s.cP))(ue:HL G (aL s.gR)->E)(me:E->HL G (aL s.gR))(n:Nat)(h0:∀x,f 0 x=none:=by exactλ_ =>rfl)(e1:∀y,mu (um y)=y:=by exactλ_ =>rfl)(e2:∀y,me (ue y)=y:=by exactλ_ =>rfl)(hf:(D1 P s.k).isSome=true:=by kernel_rfl)
  (hW:∀(n:Nat) (ok:Qu P s (RE s (f n) mu) (RX s (f n) me)) (x:HI G s),Wf (tb n (PZ s (f n) mu me hf ok)) 3000 s (λy=>some (.ok (um y))) (λy=>some (.error (ue y))) x=f (n+1) x:=by intro _ _ _;kernel_rfl):Ct P G:=
 PZ s (f n) mu me hf (n.rec (ad0 h0) λm ih=>Rm e1 e2 (hW m ih))
def lkH{α:Type}:List (Nat×α)->Nat->Option α
 |[],_ =>none
 |(k,v)::r,d=>bif Nat.beq k d then some v else lkH r d
def Z7:List (Ct P G)->Nat->List (Ct P G)
 |[],_ =>[]
 |c::r,k=>bif Nat.beq c.s.k k then c::Z7 r k else Z7 r k
def Lv:List Ty->List Ty->Bool
 |[],[]=>true
 |a::r,b::q=>a.bS b&&Lv r q
 |_,_ =>false
theorem Vc:∀{l m:List Ty},Lv l m=true->l=m:=by
 intro l
 induction l with
 |nil=>intro m h;cases m with
  |nil=>rfl
  |cons _ _ =>cases h
 |cons a r ih=>intro m h;cases m with
  |nil=>cases h
  |cons b q=>simp only[Lv,akg]at h;rw[Ty.vN h.1,ih h.2]
structure VwA(G:Sg) where
 L:List Ty
 v:Vw G L
def lkV:List (Nat×VwA G)->Nat->(L:List Ty)->Option (Vw G L)
 |[],_,_ =>none
 |(k,a)::r,i,L=>bif Nat.beq k i then(if h:Lv a.L L=true then some (Vc h▸a.v)else none)else lkV r i L
def Z5:List (It P G)->Nat->List (It P G)
 |[],_ =>[]
 |c::r,k=>bif Nat.beq c.k k then c::Z5 r k else Z5 r k
def Z6:List (Ek P G)->Nat->List (Ek P G)
 |[],_ =>[]
 |c::r,k=>bif Nat.beq c.k k then c::Z6 r k else Z6 r k
def afW(tt:TT P G)(zt:ZT P G)(n:Nat)(h:List (Nat×Hn))(cs:List (Ct P G))(vs:List (Nat×VwA G))(its:List (It P G))(es:List (Ek P G)):wS P G:=⟨tt,zt,λ_ i=>lkH h i,Z7 cs,n,lkV vs,Z5 its,Z6 es,false⟩
def hcp(cp:List Nat)(i:Nat):Nat:=cp.foldr (λd k=>k*1000+d+1) 0*10000000+i
def aiE(tt:TT P G)(zt:ZT P G)(n:Nat)(h:List (Nat×Hn))(cs:List (Ct P G))(its:List (It P G))(es:List (Ek P G)):wS P G:=⟨tt,zt,λcp i=>lkH h (hcp cp i),Z7 cs,n,λ_ _ =>none,Z5 its,Z6 es,false⟩
end Go.Rw
namespace Go.Rw
open Go Go.Bw Go.RowKit
variable {G:Sg} {P:Program} {N:Nat} {C:CC G} {B:Type}
def ylY(y:B)(t f:Option (List B)):Option (List B):=match f with
 |some []=>yl y t
 |_ =>none
theorem afL{y:B}{t f:Option (List B)}{r:List B}(h:ylY y t f=some r):f=some []/\∃r',t=some r'/\r=y::r':=by
 unfold ylY at h;split at h
 ·obtain⟨r',h1,h2⟩:=aix h
  exact⟨rfl,r',h2,h1⟩
 ·cases h
def yOp(C:CC G)(S:AS G)(o:Oper):Option (AV G):=match o.op with
 | .call ⟨.value _,args,_⟩=>Ou (gv C S []) args.toList
 |_ =>none
def isY(yn:Nat)(C:CC G)(S:AS G)(ch:List (Nat×Bool))(o:Oper):Bool:=match o.op with
 | .call ⟨.value f,_,_⟩=>match gv C S ch f with
  |some (.mp k)=>Nat.beq k yn
  |_ =>false
 |_ =>false
def ai3(yn:Nat)(C:CC G)(S:AS G)(all:Array Oper)(o:Oper):Bool:=match o.guard with
 |none=>isY yn C S [] o
 |some (j,w)=>match IP all j with
  |some dj=>isY yn C S (chain C S 8 dj w) o
  |none=>false
abbrev WB(G:Sg)(B:Type):=WT G (List B)
def MQ(ys:Sh)(de:HL G (aL ys)->B)(xn:WB G B)(N:Nat)(cp:List Nat)(C:CC G)(all:Array Oper)(r:List Oper)(d:Option Tmp)(v:AV G)(S:AS G)(K:Ex G->AS G->Option (List B)):Option (List B):=match nW ys v ⟨[],[],S.nx⟩with
 |some (x,_)=>match vO N C d (.kb true) S,vO N C d (.kb false) S with
  |some S1,some S2=>ylY (de x) (xn N cp C (.ops all r) S1 K) (xn N cp C (.ops all r) S2 K)
  |_,_ =>none
 |none=>none
def UT(tb:wS P G)(yn:Nat)(ys:Sh)(de:HL G (aL ys)->B)(Wn xn:WB G B):WB G B:=λN cp C cf S K=>match cf with
 | .ops _ []=>K .jK S
 | .ops all (o::r)=>match ai3 yn C S all o with
  |false=>Wn N cp C (.ops all [o]) S λe S1=>match e with
   | .jK=>xn N cp C (.ops all r) S1 K
   |_ =>none
  |true=>match o.guard with
   |none=>bif isY yn C S [] o then(match yOp C S o with
    |some v=>MQ ys de xn N cp C all r o.dst v S K
    |none=>none)else none
   |some (j,w)=>match IP all j with
    |some dj=>(match YR C S 8 dj w with
     |some true=>bif isY yn C S [] o then(match yOp C S o with
      |some v=>MQ ys de xn N cp C all r o.dst v S K
      |none=>none)else none
     |some false=>Wn N cp C (.ops all [o]) S λe S1=>match e with
      | .jK=>xn N cp C (.ops all r) S1 K
      |_ =>none
     |none=>(match KW C S 8 dj with
      |some (k,b)=>bif w then cn b (xn N cp C (.ops all (o::r)) {S with F:=(k, .kb true)::S.F} K) (xn N cp C (.ops all (o::r)) {S with F:=(k, .kb false)::S.F} K)else cn (b==false) (xn N cp C (.ops all (o::r)) {S with F:=(k, .kb false)::S.F} K) (xn N cp C (.ops all (o::r)) {S with F:=(k, .kb true)::S.F} K)
      |none=>none))
    |none=>none
 | .code c=>match c with
  | .skip=>K .jK S
  | .label _ =>K .jK S
  | .ret=>K .ret S
  | .exit i=>K (.exit i) S
  | .region _ ops false=>xn N cp C (.ops ops ops.toList) S K
  | .region i ops true=>Wn N cp C (.code (.region i ops true)) S λe S1=>match e with
   | .jK=>K .jK S1
   |_ =>none
  | .block i x=>xn N cp C (.code x) S λe S'=>match e with
   | .exit j=>bif Nat.beq i j then K .jK S' else K (.exit j) S'
   |e=>K e S'
  | .cond x a b=>match gv C S [] x with
   |some (.bool t)=>cn t (xn N cp C (.code a) S K) (xn N cp C (.code b) S K)
   |some (.kb t)=>xn N cp C (.code (bif t then a else b)) S K
   |_ =>none
  | .seq x y=>xn N cp C (.code x) S λe S'=>match e with
   | .jK=>xn N cp C (.code y) S' K
   |e=>K e S'
  | .loop x=>(match(match SH x with
    |some i=>tb.hint cp (i+i+1)
    |none=>none)with
   |some (.loop gl)=>(match rsv C S gl with
    |none=>none
    |some g=>match mL C S g.l with
    |S=>match Et C S g.l with
    |some v=>match nW (sY g.l) v ⟨[],S.O,S.nx⟩with
     |some (x0,g')=>bif xp g.nm g'.th&&xq S.nx g.nm then
       (match(⟨jM (λd=> !(cv (Kh x) d||zG g.l d)) S.F,g'.O,S.D⟩:Ly G)with
       |ly=>bif yP S.nx (ly::C)then lpV (tb.vw (match SH x with
        |some i=>i
        |none=>0) (aL (sY g.l))) (λgo e=>xn N cp (ly::C) (.code x) (JP g S.nx e) λe1 S1=>match e1 with
         | .jK=>match Iu (ly::C) (mL (ly::C) S1 g.l) g S.nx with
          |some e=>go e
          |none=>none
         |e1=>K e1 (MO ly S1)) tb.fu x0
        else none)
      else none
     |none=>none
    |none=>none)
   |_ =>none)
  |_ =>none
 | .lp _ =>none
noncomputable def WY(tb:wS P G)(yn:Nat)(ys:Sh)(de:HL G (aL ys)->B):Nat->WB G B
 |0=>λ_ _ _ _ _ _ =>none
 |n+1=>UT tb yn ys de (W tb n) (WY tb yn ys de n)
theorem SZ{F:Fence}{n:Nat}{all:Array Oper}{o:Oper}{r:List Oper}{a:Act}{w:World}{Q Q1:Exit->Act->World->Prop}(h:wpListIn F n P all Q1 [o] a w)(hk:∀a' w',Q1 .normal a' w'->wpListIn F n P all Q r a' w')(hq:∀e a w,e≠ .normal->Q1 e a w->Q e a w):
  wpListIn F n P all Q (o::r) a w:=by
 refine wpListIn_step λK hK=>?_;unfold wpListIn at h;split
 ·rename_i hw
  rw[akd hw]at h;exact Hv hq (Oper.wpIn_mono (λa' w' q=>hK _ _ (hk a' w' q)) h)
 ·rename_i hw
  rw[ake hw]at h;exact⟨h.1,hK _ _ (hk _ _ h.2)⟩
inductive Hp(G:Sg):Sh->Type where
 |nil:Hp G .nil
 |int {k:IntKind} {s:Sh} (h:Hp G s):Hp G (.cons (.v (.int k)) s)
 |bool {s:Sh} (h:Hp G s):Hp G (.cons (.v .bool) s)
 |st {i:Nat} {s:Sh} (enc:G.S i->List Value) (ok:∀J cs x,(G.L i).fg J cs x↔cs=enc x) (h:Hp G s):Hp G (.cons (.v (.st i)) s)
def Hp.us:{s:Sh}->Hp G s->HL G (aL s)->List Value
 |_, .nil,_ =>[]
 |_, .int (k:=k) h,x=> .int k x.1::h.us x.2
 |_, .bool h,x=> .bool x.1::h.us x.2
 |_, .st enc _ h,x=> .agg (enc x.1).toArray::h.us x.2
def Hp.n:{s:Sh}->Hp G s->Nat
 |_, .nil=>0
 |_, .int h=>h.n+1
 |_, .bool h=>h.n+1
 |_, .st _ _ h=>h.n+1
theorem Hp.len:∀{s:Sh} (q:Hp G s) (x:HL G (aL s)),(q.us x).length=q.n
 |_, .nil,_ =>rfl
 |_, .int h,x=>by simp[Hp.us,Hp.n,h.len x.2]
 |_, .bool h,x=>by simp[Hp.us,Hp.n,h.len x.2]
 |_, .st _ _ h,x=>by simp[Hp.us,Hp.n,h.len x.2]
theorem Hp.ok{J:World->Prop}{σ:bh}{f:Nat->Nat}:∀{s:Sh} (q:Hp G s) (x:HL G (aL s)) (m:Nat) (us:List Value),rl J σ (fQ f s x m).1 us↔us=q.us x
 |_, .nil,_,_,us=>Iff.rfl
 |_, .int (k:=k) h,x,m,us=>by
  show(∃u r,us=u::r/\[u]=[.int k x.1]/\rl J σ (fQ f _ x.2 m).1 r)↔_;constructor
  ·rintro⟨u,r,rfl,h1,h2⟩
   cases h1;rw[(h.ok x.2 m r).1 h2];rfl
  ·intro e
   exact⟨_,_,e,rfl,(h.ok x.2 m _).2 rfl⟩
 |_, .bool h,x,m,us=>by
  show(∃u r,us=u::r/\[u]=[.bool x.1]/\rl J σ (fQ f _ x.2 m).1 r)↔_;constructor
  ·rintro⟨u,r,rfl,h1,h2⟩
   cases h1;rw[(h.ok x.2 m r).1 h2];rfl
  ·intro e
   exact⟨_,_,e,rfl,(h.ok x.2 m _).2 rfl⟩
 |_, .st (i:=i) enc ok h,x,m,us=>by
  show(∃u r,us=u::r/\(∃u',[u]=[u']/\xm J (.st i) x.1 u')/\rl J σ (fQ f _ x.2 m).1 r)↔_;constructor
  ·rintro⟨u,r,rfl,⟨u',e,h1,h3,_⟩,h2⟩
   cases e;obtain⟨cs,rfl⟩:=h3 rfl;have:(Value.agg cs.toArray).cells.toList=cs:=by simp[Value.cells]
   rw[this]at h1;rw[(h.ok x.2 m r).1 h2,(ok J cs x.1).1 h1];rfl
  ·intro e
   refine⟨_,_,e,⟨_,rfl,?_,λ_ =>⟨_,rfl⟩,nofun⟩,(h.ok x.2 m _).2 rfl⟩;have:(Value.agg (enc x.1).toArray).cells.toList=enc x.1:=by simp[Value.cells]
   rw[this];exact(ok J _ x.1).2 rfl
structure YC(P:Program)(G:Sg)(ys:Sh)(B:Type) where
 de:HL G (aL ys)->B
 en:B->HL G (aL ys)
 uq:Hp G ys
 l:List B
 u6:Nat->List Value
 yn:Nat
 ly:Nat
 Jy:Nat->List Nat->World->Prop
 Jx:List Nat->World->Prop
 bs0:List Nat
 w1:World
 X0:List aE
 hR:Rnd P ly bs0 w1 Jy Jx u6 l.length
 he:∀x,en (de x)=x
 enc:∀i x,l[i]? =some x->u6 i=uq.us (en x)
def YC.md{ys:Sh}(q:YC P G ys B)(m:Bool×Nat)(bs:List Nat):aE:= .ext bs (bif m.1 then q.Jy m.2 bs else q.Jx bs)
def YC.ZX{ys:Sh}(q:YC P G ys B)(m:Bool×Nat)(r:List B):Prop:=(m.1=true/\q.l.drop m.2=r/\m.2<=q.l.length)\/(m.1=false/\r=[])
structure YC.at {ys:Sh}(q:YC P G ys B)(c:Cx)(ρ:bh)(X:List aE)(n:Nat):Prop where
 lt:q.yn<n
 ro:c.ro=none
 own:∀b,(b∈c.bs\/c.w0.heap.size<=b)->b∉bF q.X0->(b∈q.bs0\/q.w1.heap.size<=b)
 si:∀w',aQ c.bs c.w0 w'->Hs q.X0 w'->aQ q.bs0 q.w1 w'
 sub:∀r∈q.X0,r∈X
 yv:ρ q.yn=some (.func (.yield q.ly) #[] #[])
theorem YC.at.iH{ys:Sh}{q:YC P G ys B}{c:Cx}{ρ ρ':bh}{X:List aE}{n n':Nat}(h:q.at c ρ X n)(m:ρ.to ρ' n)(Y:List aE)(hn:n<=n'):q.at c ρ' (Y++X) n':=⟨Nat.lt_of_lt_of_le h.lt hn,h.ro,h.own,h.si,λr hr=>akj _ (h.sub r hr),(m _ h.lt).trans h.yv⟩
def I8{ys:Sh}(q:YC P G ys B)(c:Cx)(N:Nat)(C:CC G)(ρ:bh)(J:World->Prop)(HK X:List aE)(n:Nat)(K:Ex G->AS G->Option (List B))(Q:Exit->Act->World->Prop):Prop:=∀(e:Ex G) (S':AS G) (r':List B),K e S'=some r'->∀(ρ':bh) (J':World->Prop) (Y:List aE) (a':Act) (w':World) (me:Exit) (m':Bool×Nat) (bs':List Nat),q.ZX m' r'->ρ.to ρ' n->(∀w,J' w->J w)->exR J' ρ' e me->n<=S'.nx-> Rl c N ρ' J' (q.md m' bs'::HK) (Y++X) C S' a' w'->Q me a' w'
theorem I8.iH{ys:Sh}{q:YC P G ys B}{c:Cx}{ρ ρ1:bh}{J J1:World->Prop}{HK X Y:List aE}{n m:Nat}{K:Ex G->AS G->Option (List B)}{Q:Exit->Act->World->Prop}(h:I8 q c N C ρ J HK X n K Q)(h1:ρ.to ρ1 n)(h2:∀w,J1 w->J w)(hn:n<=m):I8 q c N C ρ1 J1 HK (Y++X) m K Q:=
 λe S' r' hK ρ' J' Y' a' w' me m' bs' k0 k1 k2 k3 k5 k4=>h e S' r' hK ρ' J' (Y'++Y) a' w' me m' bs' k0 (h1.trans k1 hn) (λw q=>h2 w (k2 w q)) k3 (Nat.le_trans hn k5) (by rw[List.append_assoc];exact k4)
def Ad(P:Program){ys:Sh}(q:YC P G ys B)(rec:WB G B):Prop:=∀(N:Nat) (cp:List Nat) (C:CC G) (cf:Cf) (S:AS G) (K:Ex G->AS G->Option (List B)) (r:List B),rec N cp C cf S K=some r-> ∀(c:Cx) (ρ:bh) (J:World->Prop) (HK X:List aE) (a:Act) (w:World) (Q:Exit->Act->World->Prop) (m:Bool×Nat) (bs:List Nat),q.at c ρ X S.nx->q.ZX m r->Rl c N ρ J (q.md m bs::HK) X C S a w->I8 q c N C ρ J HK X S.nx K Q->Rn P c cf Q a w
theorem I8.here{ys:Sh}{q:YC P G ys B}{c:Cx}{ρ:bh}{J:World->Prop}{HK X:List aE}{S:AS G}{e:Ex G}{K:Ex G->AS G->Option (List B)}{Q:Exit->Act->World->Prop}{a:Act}{w:World}{me:Exit}{r:List B}{m:Bool×Nat}{bs:List Nat}(h:I8 q c N C ρ J HK X S.nx K Q)(hK:K e S=some r)(hm:q.ZX m r)
  (hr:Rl c N ρ J (q.md m bs::HK) X C S a w)(he:exR J ρ e me):Q me a w:=
 h e S r hK ρ J [] a w me m bs hm (bh.ef _ _) (λ_ h=>h) he (Nat.le_refl _) hr
theorem Rl.hk{c:Cx}{ρ:bh}{J:World->Prop}{HK HK' X:List aE}{S:AS G}{a:Act}{w:World}(h:Rl c N ρ J HK X C S a w)(p:HK.Perm HK'):Rl c N ρ J HK' X C S a w:=by obtain⟨HS,q1,q3⟩:=h.hp;refine⟨h.tm,h.df,h.si,h.fs,h.fc,λr o e=>?_,⟨HS,q1,q3.j9 (List.Perm.append_left _ (p.append_right _))⟩,h.kn,h.fr⟩;obtain⟨y,y1,y2⟩:=h.kc r o e;exact⟨y,p.mem_iff.1 y1,y2⟩
section
variable {ys:Sh} {q:YC P G ys B} {tb:wS P G} {rec:WB G B} {c:Cx} {ρ:bh} {J:World->Prop} {HK X:List aE} {S:AS G} {a:Act} {w:World} {Q:Exit->Act->World->Prop} {m:Bool×Nat} {bs:List Nat} {K:Ex G->AS G->Option (List B)} {r:List B}
theorem Un{Wn:WB G B}(hW:qe P Wn){cp:List Nat}{cf:Cf}{K1:AS G->Option (List B)}(h:Wn N cp C cf S (λe S1=>match e with
   | .jK=>K1 S1
   |_ =>none)=some r):∃S1,K1 S1=some r/\S.nx<=S1.nx/\US P N C cf S S1 .jK:=by
 obtain⟨e,S1,k1,k2,k3⟩:=hW _ _ _ _ _ _ _ h;cases e with
 |jK=>exact⟨S1,k1,k2,k3⟩
 |_ =>cases k1
theorem aiy(bJ:Ad P q rec){cp:List Nat}{all:Array Oper}{o:Oper}{rs:List Oper}{S1:AS G}(h:rec N cp C (.ops all rs) S1 K=some r)(hn:S.nx<=S1.nx)(hu:US P N C (.ops all [o]) S S1 .jK)(ha:q.at c ρ X S.nx)(hm:q.ZX m r)(hr:Rl c N ρ J (q.md m bs::HK) X C S a w)(hq:I8 q c N C ρ J HK X S.nx K Q):
  Rn P c (.ops all (o::rs)) Q a w:=by
 refine SZ (hu c ρ J (q.md m bs::HK) X a w (λe a w=>e= .normal/\wpListIn (FA c.ro) 0 P all Q rs a w) hr λρ' J' Y a' w' me k1 k2 k3 k4=>⟨jE k3,?_⟩) (λa w h=>h.2) (λe a w he h=>absurd h.1 he);exact bJ _ _ _ _ _ _ _ h c ρ' J' HK (Y++X) a' w' Q m bs (ha.iH k1 Y hn) hm k4 (hq.iH k1 k2 hn)
theorem agb{J:World->Prop}{ρ:bh}{s:Sh}{v:AV G}{g':GS G}{n:Nat}{x:HL G (aL s)}{l:List Value}(h:nW s v ⟨[],[],n⟩=some (x,g'))(hf:ρ.fr n)(hv:rl J ρ v l):∃τ,rl J τ (fQ (λm=>m) s x 0).1 l:=by obtain⟨ρ2,HB,H',k⟩:=Iz h hv .nil hf;exact⟨_,k.val⟩
theorem YX(bJ:Ad P q rec){cp:List Nat}{all:Array Oper}{rs:List Oper}{f:Operand}{args:Array Operand}{ats:Array TypeId}{d:Option Tmp}{ty:TypeId}{ps:String}{af:Array Edge}{g:Option (Nat×Bool)}{v:AV G}
  (hw:Oy N all C S ⟨d, .call ⟨.value f,args,ats⟩,ty,ps,af,g⟩)(hf:gv C S [] f=some (.mp q.yn))(hv:Ou (gv C S []) args.toList=some v)(h:MQ ys q.de rec N cp C all rs d v S K=some r)
  (ha:q.at c ρ X S.nx)(hm:q.ZX m r)(hr:Rl c N ρ J (q.md m bs::HK) X C S a w)(hq:I8 q c N C ρ J HK X S.nx K Q):Rn P c (.ops all (⟨d, .call ⟨.value f,args,ats⟩,ty,ps,af,g⟩::rs)) Q a w:=by
 unfold MQ at h;split at h
 ·rename_i x g' hg
  split at h
  ·rename_i S1 S2 h1 h2
   obtain⟨hf0,r',ht,rfl⟩:=afL h;have hE:=dk hr (ch:=[]) (by simp);obtain⟨u,u1,u2,_⟩:=hE.ok _ _ hf;have e1:a.eval f= .func (.yield q.ly) #[] #[]:=by rw[ha.yv]at u1;cases u1;exact(List.cons.inj u2).1
   obtain⟨r2,_⟩:=vW hE hv;obtain⟨τ,hτ⟩:=agb hg hr.fr r2;rcases hm with⟨m1,m2,m3⟩|⟨_,m2⟩
   ·obtain⟨mb,k⟩:=m
    dsimp only at m1 m2 m3;subst m1;have hk:q.l[k]? =some (q.de x):=by
     have:(q.l.drop k)[0]? =some (q.de x):=by rw[m2];rfl
     simpa using this
    have hlt:k<q.l.length:=(List.getElem?_eq_some_iff.1 hk).1;have ajp:args.toList.map a.eval=q.u6 k:=by rw[q.enc k _ hk,q.he, ← (q.uq.ok x 0 _).1 hτ]
    obtain⟨HS,q1,q3⟩:=hr.hp;have pm:∀x:aE,(HS++((x::HK)++X)).Perm (x::(HS++(HK++X))):=λx=>List.perm_middle;have q4:=q3.j9 (pm _);have hXh:Hs q.X0 w:=FG q3 λr hr'=>akj _ (akj _ (ha.sub r hr'));have oo:∀b∈bs,(b∈q.bs0\/q.w1.heap.size<=b)/\b<w.heap.size:=λb hb=>by obtain⟨o1,o2⟩:=q4.own _ List.mem_cons_self b hb;refine⟨ha.own b o1 λhx=>?_,o2⟩;obtain⟨s,s1,s2⟩:=bg.1 hx;exact(List.pairwise_cons.1 q4.apart).1 s (by simp[ha.sub s s1]) b hb s2
    obtain⟨fn,tmps,assign,body,hy,hF,hrun⟩:=q.hR k hlt w bs (ha.si w hr.si.s hXh) oo (q4.holds _ List.mem_cons_self);refine wpListIn_step λK1 hK=>?_;rw[akd (hw c ρ J _ X a w hr)];refine⟨λ_ _ =>trivial,?_⟩;have hs:Oper.semAt (FA c.ro).round a.eval (⟨d, .call ⟨.value f,args,ats⟩,ty,ps,af,g⟩:Oper)=execOp a.eval ⟨d, .call ⟨.value f,args,ats⟩,ty,ps,af,g⟩:=Oper.semAt_eq _ _ _ (by simp);have hrn:(execOp a.eval ⟨d, .call ⟨.value f,args,ats⟩,ty,ps,af,g⟩).run P w= .ok (.round q.ly fn tmps assign body) w:=by
     have e4: #[]++(args.map a.eval)=(q.u6 k).toArray:=by rw[← ajp];exact Array.ext' (by simp)
     simp only[execOp,resolve,e1,Deferred.ofValue,Sem.run_bind,Sem.run_pure,Result.andThen_ok,invoke,e4];exact hy
    rw[hs,hrn];refine⟨λh=>by simp at h,⟨trivial,λcf cs hroom=>?_⟩⟩;have hfa:FA c.ro=FA none:=by rw[ha.ro]
    rw[hfa];obtain⟨e,W',hpost,PC⟩:=hrun cf cs (by rw[← hfa];exact hroom);refine⟨e,W',?_,PC⟩;obtain⟨bs',hb',hsi,FH⟩:=hpost;have fin:∀(b:Bool) (S3:AS G) (r2:List B),vO N C d (.kb b) S=some S3->rec N cp C (.ops all rs) S3 K=some r2->q.ZX (b,k+1) r2->(aE.ext bs' (bif b then q.Jy (k+1) bs' else q.Jx bs')).holds W'->K1 (a.put d (.bool b)) W':=λb S3 r2 hp hw2 hmk hh=>by
     have q5:=q4.set (k:=0) (r':= .ext bs' (bif b then q.Jy (k+1) bs' else q.Jx bs')) rfl hsi.size (λj hj hn=>hsi.block j hj hn) hh hr.si.s.size (λb hb=>hb' b hb);have hr':Rl c N ρ J (q.md (b,k+1) bs'::HK) X C S a W':=by
      refine⟨hr.tm,hr.df,⟨hr.si.s.trans hsi λb hb=>(q4.own _ List.mem_cons_self b hb).1,hr.si.n⟩,hr.fs,hr.fc,λr o e=>?_,⟨HS,q1,q5.j9 (pm _).symm⟩,hr.kn,hr.fr⟩;obtain⟨y,y1,y2⟩:=hr.kc r o e;rcases List.mem_cons.1 y1 with rfl|y1
      ·cases o with
       |cI T c=>obtain⟨_,_,_,e,_⟩:=y2;cases e
       |row _ _ _ _ =>obtain⟨_,_,_,e,_⟩:=y2;cases e
       |aux b=>obtain⟨_,_,_,e,_⟩:=y2;cases e
       |gm=>obtain⟨_,e⟩:=y2;cases e
       |fm _ _ _ =>obtain⟨_,_,_,_,_,e,_⟩:=y2;cases e
       |lp _ _ _ _ _ _ =>obtain⟨_,_,_,_,e,_⟩:=y2;cases e
      ·exact⟨y,akp _ y1,y2⟩
     refine hK _ _ ?_;refine bJ _ _ _ _ _ _ _ hw2 c ρ J HK X _ W' Q (b,k+1) bs' (by rw[oh hp];exact ha) hmk (hr'.put hp rfl) ?_;rw[oh hp];exact hq
    rcases FH with⟨rfl,hh⟩|⟨rfl,hh⟩
    ·refine fin true S1 r' h1 ht (.inl ⟨rfl,?_,hlt⟩) hh
     show q.l.drop (k+1)=r';rw[← List.drop_drop,m2];rfl
    ·exact fin false S2 [] h2 hf0 (.inr ⟨rfl,rfl⟩) hh
   ·cases m2
  ·cases h
 ·cases h
theorem agS{yn:Nat}{o:Oper}(h:isY yn C S [] o=true):∃d f args ats ty ps af g,o=⟨d, .call ⟨.value f,args,ats⟩,ty,ps,af,g⟩/\gv C S [] f=some (.mp yn):=by
 obtain⟨d,op,ty,ps,af,g⟩:=o;unfold isY at h;dsimp only at h;split at h
 ·split at h
  ·rename_i hf
   obtain rfl:=akf h;exact⟨d,_,_,_,ty,ps,af,g,rfl,hf⟩
  ·cases h
 ·cases h
theorem Uo(bJ:Ad P q rec){cp:List Nat}{all:Array Oper}{rs:List Oper}{o:Oper}(hw:Oy N all C S o)(h:(bif isY q.yn C S [] o then(match yOp C S o with
   |some v=>MQ ys q.de rec N cp C all rs o.dst v S K
   |none=>none)else none)=some r)(ha:q.at c ρ X S.nx)(hm:q.ZX m r)(hr:Rl c N ρ J (q.md m bs::HK) X C S a w)(hq:I8 q c N C ρ J HK X S.nx K Q):Rn P c (.ops all (o::rs)) Q a w:=by
 cases hY:isY q.yn C S [] o with
 |false=>rw[hY]at h;cases h
 |true=>
 rw[hY]at h;simp only[cond_true]at h;obtain⟨d,f,args,ats,ty,ps,af,g,rfl,hf⟩:=agS hY;split at h
 ·rename_i v hv
  exact YX bJ hw hf hv h ha hm hr hq
 ·cases h
theorem acf(bJ:Ad P q rec){cp:List Nat}{x:Code}{g:Om}{base:Nat}{ly:Ly G}(hl:yP base (ly::C)=true){vw:Option (Vw G (aL (sY g.l)))}:∀(n:Nat) (e:HL G (aL (sY g.l))) (r:List B),lpV vw (λgo e=>rec N cp (ly::C) (.code x) (JP g base e) λe1 S1=>match e1 with
   | .jK=>match Iu (ly::C) (mL (ly::C) S1 g.l) g base with
    |some e=>go e
    |none=>none
   |e1=>K e1 (MO ly S1)) n e=some r->
  ∀(ρ:bh) (J:World->Prop) (HK X:List aE) (a:Act) (w:World) (m:Bool×Nat) (bs:List Nat),q.at c ρ X base->q.ZX m r->Rl c N ρ J (q.md m bs::HK) X (ly::C) (JP g base e) a w->
   I8 q c N (ly::C) ρ J HK X base (λe1 S1=>match e1 with
    | .jK=>none
    |e1=>K e1 (MO ly S1)) Q->LPr P c x Q a w:=by
 intro n
 induction n with
 |zero=>intro e r h;obtain⟨m,h1,_⟩:=QY h;cases h1
 |succ n ih=>
  intro e r h ρ J HK X a w m bs ha hm hr hq;obtain⟨m',h1,h2⟩:=QY h;cases h1;refine Dq (bJ _ _ _ _ _ _ _ h2 c ρ J HK X a w _ m bs ⟨Nat.lt_of_lt_of_le ha.lt (Nat.le_add_right _ _),ha.ro,ha.own,ha.si,ha.sub,ha.yv⟩ hm hr ?_);intro e1 S1 r' hK ρ' J' Y a' w' me m1 K3 k0 k1 k2 k3 k5 k4;have Oq:ρ.to ρ' base:=λr hr'=>k1 r (by show r<base+_;omega);cases e1 with
  |jK=>
   rw[jE k3];dsimp only at hK;split at hK
   ·rename_i e' hg
    obtain⟨J2,Y2,j1,z4⟩:=k4.mL g.l;obtain⟨ρ2,t2,z5⟩:=ZZ z4 hg hl;rw[← List.append_assoc]at z5;have hto:ρ.to ρ2 base:=λr hr'=>(t2 r hr').trans (Oq r hr');exact ih e' r' hK ρ2 J2 HK ((Y2++Y)++X) a' w' m1 K3 (ha.iH hto _ (Nat.le_refl _)) k0 z5 (hq.iH hto (λw h=>k2 w (j1 w h)) (Nat.le_refl _))
   ·cases hK
  |exit i=>refine nh (nZ (by simp) k3) ?_;exact hq (.exit i) S1 r' hK ρ' J' Y a' w' me m1 K3 k0 Oq k2 k3 (Nat.le_trans (Nat.le_add_right _ _) k5) k4
  |ret=>refine nh (nZ (by simp) k3) ?_;exact hq (.ret) S1 r' hK ρ' J' Y a' w' me m1 K3 k0 Oq k2 k3 (Nat.le_trans (Nat.le_add_right _ _) k5) k4
  |wY v=>refine nh (nZ (by simp) k3) ?_;exact hq (.wY v) S1 r' hK ρ' J' Y a' w' me m1 K3 k0 Oq k2 k3 (Nat.le_trans (Nat.le_add_right _ _) k5) k4
theorem abv{Wn:WB G B}(hW:qe P Wn)(bJ:Ad P q rec){cp:List Nat}{all:Array Oper}{o:Oper}{rs:List Oper}(h:Wn N cp C (.ops all [o]) S (λe S1=>match e with
   | .jK=>rec N cp C (.ops all rs) S1 K
   |_ =>none)=some r)(ha:q.at c ρ X S.nx)(hm:q.ZX m r)(hr:Rl c N ρ J (q.md m bs::HK) X C S a w)(hq:I8 q c N C ρ J HK X S.nx K Q):Rn P c (.ops all (o::rs)) Q a w:=by
 obtain⟨S1,k1,k2,k3⟩:=Un hW (K1:=λS1=>rec N cp C (.ops all rs) S1 K) h;exact aiy bJ k1 k2 k3 ha hm hr hq
theorem UR{Wn:WB G B}(hW:qe P Wn)(bJ:Ad P q rec):Ad P q (UT tb q.yn ys q.de Wn rec):=by
 intro N cp C cf S K r h c ρ J HK X a w Q m bs ha hm hr hq;unfold UT at h;dsimp only at h;split at h
 ·exact hq.here h hm hr trivial
 ·rename_i all o rs
  split at h
  ·exact abv hW bJ h ha hm hr hq
  ·rename_i hY
   split at h
   ·rename_i hg;exact Uo bJ (.none hg) h ha hm hr hq
   ·rename_i j wb hg
    split at h
    ·rename_i dj hd
     split at h
     ·rename_i hk;exact Uo bJ (.abP hg hd hk) h ha hm hr hq
     ·exact abv hW bJ h ha hm hr hq
     ·split at h
      ·rename_i k b hk
       have hb:=NF hr 8 dj k b hk;have know:Rl c N ρ J (q.md m bs::HK) X C {S with F:=(k, .kb b)::S.F} a w:=by
        refine⟨hr.tm,hr.df,hr.si,λd v e=>?_,hr.fc,hr.kc,hr.hp,hr.kn,hr.fr⟩;simp only[dm]at e;cases hd:Nat.beq k d with
        |true=>rw[hd]at e;cases e;obtain rfl:=akf hd;exact⟨_,hb,rfl⟩
        |false=>rw[hd]at e;exact hr.fs d v e
       cases wb with
       |true=>cases b with
        |true=>exact bJ N cp C (.ops all (o::rs)) {S with F:=(k, .kb true)::S.F} K r h c ρ J HK X a w Q m bs ha hm know hq
        |false=>exact bJ N cp C (.ops all (o::rs)) {S with F:=(k, .kb false)::S.F} K r h c ρ J HK X a w Q m bs ha hm know hq
       |false=>cases b with
        |true=>exact bJ N cp C (.ops all (o::rs)) {S with F:=(k, .kb true)::S.F} K r h c ρ J HK X a w Q m bs ha hm know hq
        |false=>exact bJ N cp C (.ops all (o::rs)) {S with F:=(k, .kb false)::S.F} K r h c ρ J HK X a w Q m bs ha hm know hq
      ·cases h
    ·cases h
 ·split at h
  ·exact wpIn_skip (hq.here h hm hr trivial)
  ·exact wpIn_label (hq.here h hm hr trivial)
  ·exact wpIn_ret (hq.here h hm hr trivial)
  ·exact wpIn_exit (hq.here h hm hr rfl)
  ·exact wpIn_region_list (bJ _ _ _ _ _ _ _ h c ρ J HK X a w Q m bs ha hm hr hq)
  ·obtain⟨S1,k1,k2,k3⟩:=Un hW h
   refine k3 c ρ J (q.md m bs::HK) X a w Q hr λρ' J' Y a' w' me t1 t2 t3 t4=>?_;rw[jE t3];exact hq _ S1 _ k1 ρ' J' Y a' w' .normal m bs hm t1 t2 trivial k2 t4
  ·rename_i i x
   refine wpIn_block (bJ _ _ _ _ _ _ _ h c ρ J HK X a w _ m bs ha hm hr ?_);intro e1 S1 r' hK ρ' J' Y a' w' me m1 K3 k0 k1 k2 k3 k5 k4;cases e1 with
   |exit j=>
    dsimp only at hK;rw[IK k3];cases hb:Nat.beq i j with
    |true=>rw[hb]at hK;obtain rfl:=akf hb;simpa[Exit.inBlock]using hq _ S1 _ hK ρ' J' Y a' w' .normal m1 K3 k0 k1 k2 trivial k5 k4
    |false=>
     rw[hb]at hK;have hne:i≠j:=λq=>by rw[q,Nat.beq_refl]at hb;cases hb
     have:=hq _ S1 _ hK ρ' J' Y a' w' (.exit j) m1 K3 k0 k1 k2 rfl k5 k4;simpa[Exit.inBlock,hne,Ne.symm hne]using this
   |jK=>rw[jE k3];simpa[Exit.inBlock]using hq _ S1 _ hK ρ' J' Y a' w' .normal m1 K3 k0 k1 k2 trivial k5 k4
   |ret=>rw[G9 k3];simpa[Exit.inBlock]using hq _ S1 _ hK ρ' J' Y a' w' .ret m1 K3 k0 k1 k2 trivial k5 k4
   |wY v=>obtain⟨u,rfl,hu⟩:=Ry k3;simpa[Exit.inBlock]using hq _ S1 _ hK ρ' J' Y a' w' (.panic [{v:=u,recovered:=false}]) m1 K3 k0 k1 k2 ⟨u,rfl,hu⟩ k5 k4
  ·split at h
   ·rename_i t hx
    have ex:=As ((dk hr (ch:=[]) (by simp)).ok _ _ hx);cases t with
    |true=>exact wpIn_cond_true ex (bJ _ _ _ _ _ _ _ (P8 rfl h) c ρ J HK X a w Q m bs ha hm hr hq)
    |false=>exact wpIn_cond_false ex (bJ _ _ _ _ _ _ _ (P9 rfl h) c ρ J HK X a w Q m bs ha hm hr hq)
   ·rename_i t hx
    have ex:=Ks ((dk hr (ch:=[]) (by simp)).ok _ _ hx);cases t with
    |true=>exact wpIn_cond_true ex (bJ _ _ _ _ _ _ _ h c ρ J HK X a w Q m bs ha hm hr hq)
    |false=>exact wpIn_cond_false ex (bJ _ _ _ _ _ _ _ h c ρ J HK X a w Q m bs ha hm hr hq)
   ·cases h
  ·refine wpIn_seq (bJ _ _ _ _ _ _ _ h c ρ J HK X a w _ m bs ha hm hr ?_)
   intro e1 S1 r' hK ρ' J' Y a' w' me m1 K3 k0 k1 k2 k3 k5 k4;cases e1 with
   |jK=>rw[jE k3];exact bJ _ _ _ _ _ _ _ hK c ρ' J' HK (Y++X) a' w' Q m1 K3 (ha.iH k1 Y k5) k0 k4 (hq.iH k1 k2 k5)
   |exit i=>exact nh (nZ (by simp) k3) (hq _ S1 _ hK ρ' J' Y a' w' me m1 K3 k0 k1 k2 k3 k5 k4)
   |ret=>exact nh (nZ (by simp) k3) (hq _ S1 _ hK ρ' J' Y a' w' me m1 K3 k0 k1 k2 k3 k5 k4)
   |wY v=>exact nh (nZ (by simp) k3) (hq _ S1 _ hK ρ' J' Y a' w' me m1 K3 k0 k1 k2 k3 k5 k4)
  ·rename_i x
   split at h
   ·rename_i gl _
    split at h
    ·cases h
    ·rename_i g _
     obtain⟨J0,Y0,mJ0,hr⟩:=hr.mL g.l;have Nz:=Db (C:=C) (S:=S) (l:=g.l);have ha:=ha.iH (bh.ef ρ S.nx) Y0 (Nat.le_refl _);have hq:=hq.iH (Y:=Y0) (bh.ef ρ S.nx) mJ0 (Nat.le_refl _);rw[← Nz]at ha hq;revert h hr ha hq;generalize mL C S g.l=S;intro h hr ha hq;split at h
     ·rename_i v hv
      split at h
      ·rename_i x0 g' KU
       cases hb:(xp g.nm g'.th&&xq S.nx g.nm)with
       |false=>rw[hb]at h;cases h
       |true=>
        rw[hb]at h;simp only[akg]at hb;simp only[cond_true]at h;cases hl:yP S.nx ((⟨jM (λd=> !(cv (Kh x) d||zG g.l d)) S.F,g'.O,S.D⟩:Ly G)::C)with
        |false=>rw[hl]at h;cases h
        |true=>
         rw[hl]at h;simp only[cond_true]at h;refine Ie ?_;have hl':=hl;simp only[yP,akg]at hl';have hlC:yP S.nx C=true:=hl'.2.2.2;obtain⟨ρ',ρ2,HB,H',hto,ht2,Is,hleft,hC,hp,hF,hfc,hfr⟩:=QW hr hv KU hb.1 hb.2 (Nat.le_refl _) hlC;have hag:∀r,r<S.nx->ρ' r=ρ2 r:=λr hr'=>(hto r hr').trans (ht2 r hr').symm;have hleft:=hleft.fJ hag hl'.2.1;have hr':Rl c N ρ' J0 (q.md m bs::(H'++HK)) (Y0++X) (⟨jM (λd=> !(cv (Kh x) d||zG g.l d)) S.F,g'.O,S.D⟩::C) (JP g S.nx x0) a w:=by
          refine Rl.hk (HK:=H'++(q.md m bs::HK)) ⟨hr.tm,?_,⟨hr.si.s,λq=>hr.si.n (Dk q)⟩,hF,λy hy=>?_,λr o e=>?_,⟨HB,Is,by simpa using hp⟩,hr.kn,hfr⟩ List.perm_middle
          ·exact hr.df.fJ hto (LY hl'.2.2.1 (FD hlC).2)
          ·rcases List.mem_cons.1 hy with rfl|hy
           ·exact(hr.fs.YS).fJ hto hl'.1
           ·exact hfc y hy
          ·have e:dm (g'.O++my C) r=some o:=e
           rw[kR]at e;split at e
           ·rename_i v' JU
            cases e;obtain⟨x,h1,h2⟩:=hleft.lk JU;exact⟨x,akk _ h1,h2⟩
           ·obtain⟨x,h1,h2⟩:=hC r o e
            exact⟨x,akj _ h1,h2⟩
         refine acf (C:=C) (K:=K) bJ hl _ _ _ h ρ' J0 (H'++HK) (Y0++X) a w m bs (ha.iH (Y:=[]) hto (Nat.le_refl _)) hm hr' ?_;intro e1 S1 r' hK ρ3 J3 Y a' w' me m1 K3 k0 k1 k2 k3 k5 k4;have Oq:ρ.to ρ3 S.nx:=λr q=>(k1 r q).trans (hto r q);have adD:Rl c N ρ3 J3 (q.md m1 K3::HK) (Y++(Y0++X)) C (MO ⟨jM (λd=> !(cv (Kh x) d||zG g.l d)) S.F,g'.O,S.D⟩ S1) a' w':=by
          refine Rl.MO (H2:=H') (k4.hk List.perm_middle.symm) ((hleft.fJ k1 hl'.2.1).up k2 (bh.le_refl _)) ?_ hr.si.n;intro r o e;obtain⟨y,y1,y2⟩:=hr.Oo k2 (Oq.le hr.fr) r o e;rcases List.mem_cons.1 y1 with rfl|y1
          ·cases o with
           |cI T c=>obtain⟨_,_,_,e,_⟩:=y2;cases e
           |row _ _ _ _ =>obtain⟨_,_,_,e,_⟩:=y2;cases e
           |aux b=>obtain⟨_,_,_,e,_⟩:=y2;cases e
           |gm=>obtain⟨_,e⟩:=y2;cases e
           |fm _ _ _ =>obtain⟨_,_,_,_,_,e,_⟩:=y2;cases e
           |lp _ _ _ _ _ _ =>obtain⟨_,_,_,_,e,_⟩:=y2;cases e
          ·exact⟨y,akp _ y1,y2⟩
         cases e1 with
         |jK=>cases hK
         |exit i=>exact hq (.exit i) _ r' hK ρ3 J3 Y a' w' me m1 K3 k0 Oq k2 k3 k5 adD
         |ret=>exact hq .ret _ r' hK ρ3 J3 Y a' w' me m1 K3 k0 Oq k2 k3 k5 adD
         |wY v=>exact hq (.wY v) _ r' hK ρ3 J3 Y a' w' me m1 K3 k0 Oq k2 k3 k5 adD
      ·cases h
     ·cases h
   ·cases h
  ·cases h
 ·cases h
theorem ahT:∀n:Nat,Ad P q (WY tb q.yn ys q.de n):=by
 intro n
 induction n with
 |zero=>intro N cp C cf S K r h;cases h
 |succ n ih=>exact UR (ahS n) ih
end
def ahy(Bq:List ResultVar):Ex G->AS G->Option (List B):=λe S=>match Bq,(match e with
  | .jK=>true
  | .ret=>true
  |_ =>false)with
 |[],true=>match aed S with
  |some _ =>some []
  |none=>none
 |_,_ =>none
noncomputable def WYf(tb:wS P G)(n k:Nat)(vS ys:Sh)(de:HL G (aL ys)->B)(x:HL G (aL vS)):Option (List B):=match D1 P k with
 |some fi=>match fQ (λm=>m) vS x 0 with
  |(akc,O,m)=>bif pb akc&&Nat.ble (zD akc+1) fi.N then WY tb m ys de n fi.N [] [] (.code fi.code) ⟨wO 0 (.cons (.mp m) akc),O,m+1,[]⟩ (ahy fi.Bq)else none
 |none=>none
theorem aeD{tb:wS P G}{n k:Nat}{vS ys:Sh}{de:HL G (aL ys)->B}{en:B->HL G (aL ys)}(uq:Hp G ys)(he:∀x,en (de x)=x){f:HL G (aL vS)->Option (List B)}(hW:∀x,WYf tb n k vS ys de x=f x):ah1 P k vS uq.n ys en f:=by
 intro ρ J HB X vs x l hf hv hO hk hfr;rw[← hW]at hf;refine⟨λi=>match l[i]? with
  |some y=>uq.us (en y)
  |none=>List.replicate uq.n undef,λσ i y hy=>?_,λi=>?_,λly Jy Jx bs w hp hR=>?_⟩
 ·dsimp only
  rw[hy];exact(uq.ok _ _ _).2 rfl
 ·dsimp only
  split
  ·exact uq.len _
  ·exact List.length_replicate
 unfold WYf at hf;split at hf
 ·rename_i fi Ir
  revert hf hv hO hfr;generalize fQ (λm=>m) vS x 0=b;obtain⟨akc,O,m⟩:=b;intro hv hO hfr hf;dsimp only at hf hv hO hfr;cases hc:(pb akc&&Nat.ble (zD akc+1) fi.N)with
  |false=>rw[hc]at hf;cases hf
  |true=>
   rw[hc]at hf;simp only[akg]at hc;simp only[cond_true]at hf;obtain⟨fn,f1,f2,f3,f4,f5⟩:=Xg Ir;have hXw:Hs X w:=FG hp λr hr'=>by simp[hr']
   have apX:∀b,b∈bs\/b∈bF HB->b∉bF X:=λb hb hx=>by
    have h1:=hp.apart;have e1:(aE.ext bs (Jy 0 bs)::(HB++X))=(aE.ext bs (Jy 0 bs)::HB)++X:=rfl;rw[e1]at h1;obtain⟨s,s1,s2⟩:=bg.1 hx;rcases hb with hb|hb
    ·exact(List.pairwise_append.1 h1).2.2 _ List.mem_cons_self s s1 b hb s2
    ·obtain⟨r,r1,r2⟩:=bg.1 hb
     exact(List.pairwise_append.1 h1).2.2 _ (akp _ r1) s s1 b r2 s2
   have af5:∀w',aQ (bs++(bF HB++bF X)) w w'->Hs X w'->aQ (bs++bF HB) w w':=λw' hs hx=>⟨hs.os,hs.tape,hs.output,hs.size,λb h1 h2=>by
    rcases Classical.em (b∈bF X)with h3|h3
    ·exact hk.ex w w' hXw hx b h3
    ·refine hs.block b h1 λh4=>?_
     simp only[List.mem_append]at h4 h2;rcases h4 with h4|h4|h4
     ·exact h2 (.inl h4)
     ·exact h2 (.inr h4)
     ·exact h3 h4⟩
   let q:YC P G ys B:={de:=de,en:=en,uq:=uq,l:=l,u6:=λi=>match l[i]? with
    |some y=>uq.us (en y)
    |none=>List.replicate uq.n undef,yn:=m,ly:=ly,Jy:=Jy,Jx:=Jx,bs0:=bs++bF HB,w1:=w,X0:=X,hR:=hR,he:=he,enc:=λi y hy=>by rw[hy]}
   have ahl:ρ.fr m:=hfr;have hle:ρ.le (ρ.set m (.func (.yield ly) #[] #[])):=(bh.kL ρ m _).le ahl;have hva:rl J (ρ.set m (.func (.yield ly) #[] #[])) (.cons (.mp m) akc) (.func (.yield ly) #[] #[]::vs):=⟨_,_,rfl,⟨_,bh.iN _ _ _,rfl,rfl,rfl⟩,hv.ext hle⟩;have hlen:=Q4 (v:= .cons (.mp m) akc) hc.1 hva;refine(callsIn_wide (n:=0)).1 (callsIn_of_wp_marks (F:=Fence.wide) f1 f2 trivial ?_);have hsz:((Value.func (.yield ly) #[] #[]::vs).toArray++Array.replicate (fn.ntmps-(Value.func (.yield ly) #[] #[]::vs).toArray.size) undef).size=fi.N:=by have h1:=Nat.le_of_ble_eq_true hc.2;have h2:(Value.func (.yield ly) #[] #[]::vs).length=zD akc+1:=hlen;simp only[List.length_cons]at h2;simp;omega
   have hR0:Rl ⟨none,w,bs++(bF HB++bF X)⟩ fi.N (ρ.set m (.func (.yield ly) #[] #[])) J (q.md (true,0) bs::[]) X [] (⟨wO 0 (.cons (.mp m) akc),O,m+1,[]⟩:AS G) ⟨(Value.func (.yield ly) #[] #[]::vs).toArray++Array.replicate (fn.ntmps-(Value.func (.yield ly) #[] #[]::vs).toArray.size) undef,[]⟩ w:=by refine⟨hsz, .nil,⟨aQ.refl _ _,λ_ =>rfl⟩,λd x e=>?_,λy hy=>(by cases hy),λr o e=>(by cases e),⟨HB,hO.up (λ_ h=>h) hle,hp.j9 List.perm_middle.symm⟩,hk,bh.xl ahl _⟩;obtain⟨u,_,k2,k3⟩:=Rj hva e;refine⟨u,?_,M7 k3 _⟩;rw[Nat.sub_zero]at k2;have hlt:=(List.getElem?_eq_some_iff.1 k2).1;rw[Array.getElem?_append_left (by simpa using hlt)];simpa using k2
   refine ahT (q:=q) n _ _ _ _ _ _ _ hf ⟨none,w,bs++(bF HB++bF X)⟩ _ J [] X _ w _ (true,0) bs ⟨Nat.lt_succ_self _,rfl,λb h1 h2=>?_,af5,λr hr'=>hr',bh.iN _ _ _⟩ (.inl ⟨rfl,rfl,Nat.zero_le _⟩) hR0 ?_
   ·rcases h1 with h1|h1
    ·left
     show b∈bs++bF HB;simp only[List.mem_append]at h1 ⊢;rcases h1 with h1|h1|h1
     ·exact .inl h1
     ·exact .inr h1
     ·exact absurd h1 h2
    ·exact .inr h1
   ·intro e S' r' hK ρ' J' Y a' w' me m' bs' k0 k1 k2 k3 k5 k4
    unfold ahy at hK;split at hK
    ·rename_i hres hx
     split at hK
     ·rename_i S2 hS
      cases hK;obtain⟨O2,hO2,rfl⟩:=aec hS;have Md:LeavesInM (FA none) 0 P fn a'.tmps (λen w'=>∃x:Bool×List Nat,en= .returned (.tuple #[])/\aQ (bs++bF HB) w w'/\bH (bs++bF HB) w.heap.size (.ext x.2 (bif x.1 then Jy l.length x.2 else Jx x.2)::[]) w') a'.defers .returning w':=by
       refine Nu rfl S'.D hO2 k4 λw2 h2=>?_;obtain⟨u,r1,r2⟩:=QI (fn:=fn) (tt:=tb.tt) (v:= .jc .nil) h2 f4 (by rw[hres];rfl);obtain⟨ws,e1,e2⟩:=r2;have e2:ws=[]:=e2;subst e2;cases e1;refine⟨_,r1,(m'.1,bs'),rfl,?_⟩;obtain⟨HS,s1,s3⟩:=h2.hp;have hX2:Hs X w2:=FG s3 λr hr'=>by simp[hr']
       have Mb:q.md m' bs'∈HS++((q.md m' bs'::[])++(Y++X)):=by simp
       have s4:bH _ _ (q.md m' bs'::(HS++(Y++X))) w2:=s3.j9 (List.perm_middle (a:=q.md m' bs') (l₁:=HS) (l₂:=Y++X));have hmd:q.md m' bs'= .ext bs' (bif m'.1 then Jy l.length bs' else Jx bs'):=by
        rcases k0 with⟨j1,j2,j3⟩|⟨j1,_⟩
        ·have j2:l.drop m'.2=[]:=j2
         have j3:m'.2<=l.length:=j3;have:=List.drop_eq_nil_iff.1 j2;have e:m'.2=l.length:=by omega
         show aE.ext bs' (bif m'.1 then Jy m'.2 bs' else Jx bs')=_;rw[e]
        ·show aE.ext bs' (bif m'.1 then Jy m'.2 bs' else Jx bs')=_
         rw[j1];rfl
       refine⟨af5 w2 h2.si.s hX2,?_⟩;rw[← hmd];refine⟨λr hr'=>?_,λr hr' b hb=>?_,List.pairwise_singleton _ _⟩
       ·obtain rfl:=List.mem_singleton.1 hr';exact s3.holds _ Mb
       ·obtain rfl:=List.mem_singleton.1 hr'
        obtain⟨o1,o2⟩:=s3.own _ Mb b hb;refine⟨?_,o2⟩;rcases o1 with o1|o1
        ·left
         have o1:b∈bs++(bF HB++bF X):=o1;simp only[List.mem_append]at o1 ⊢;rcases o1 with o1|o1|o1
         ·exact .inl o1
         ·exact .inr o1
         ·exfalso
          obtain⟨s,t1,t2⟩:=bg.1 o1;exact(List.pairwise_cons.1 s4.apart).1 s (by simp[t1]) b hb t2
        ·exact .inr o1
      cases e with
      |jK=>rw[jE k3];exact Md
      |ret=>rw[G9 k3];exact Md
      |exit i=>cases hx
      |wY v=>cases hx
     ·cases hK
    ·cases hK
 ·cases hf
noncomputable def mkI(tb:wS P G)(n k:Nat)(vS:Sh)(ys:Sh){B:Type}(uq:Hp G ys)(en:B->HL G (aL ys))(de:HL G (aL ys)->B)(f:HL G (aL vS)->Option (List B))(he:∀x,en (de x)=x)(hf:(D1 P k).isSome=true)(hW:∀x,WYf tb n k vS ys de x=f x):It P G where
 k:=k
 vS:=vS
 n:=uq.n
 ys:=ys
 B:=B
 en:=en
 f:=f
 fn:=by
  cases h:D1 P k with
  |none=>rw[h]at hf;cases hf
  |some fi=>exact B0 h
 ok:=aeD uq he hW
theorem QZ{α β ζ:Type}(B:β->(α->Option ζ)->α->Option ζ):∀(n:Nat) (i:α) (b:β),fe (λkk x b=>B b (λx=>kk x b) x) n i b=iv (B b) n i
 |0,_,_ =>rfl
 |n+1,i,b=>by show B b (λx=>fe (λkk x b=>B b (λx=>kk x b) x) n x b) i=B b (iv (B b) n) i;have:(λx=>fe (λkk x b=>B b (λx=>kk x b) x) n x b)=iv (B b) n:=funext λx=>QZ B n x b;rw[this]
theorem aeq{b:Bool}{m:Option Bool}:cn b (bd m λx=>some x) (some false)=cl (b==true) m default λx=>some (b&&x):=by
 cases b with
 |false=>rfl
 |true=>cases m<;>rfl
theorem Re{α:Type}{i:Int}{k:Option α}:gu (i==i) k=k:=by simp[gu]
theorem aaE{Z:Type}{tb:wS P G}{n:Nat}{s:Fs}{f v:HI G s->Option Z}{um:HL G (aL s.cP)->Z}{mu:Z->HL G (aL s.cP)}(e1:∀y,mu (um y)=y)(hW:∀x,Wf tb n s (λy=>some (um y)) (λ_ =>none) x=v x)(hle:∀x z,f x=some z->v x=some z):Qu P s (RV s f mu) (λ_ _ =>False):=by have h0:=Rk (P:=P) (mu:=mu) e1 hW;intro ρ J HS HK X w vs x hv hO hrd hp hk hfr;obtain⟨a1,_⟩:=h0 ρ J HS HK X w vs x hv hO hrd hp hk hfr;refine⟨λy h=>?_,λy h=>h.elim⟩;obtain⟨z,h,hz⟩:=h;exact a1 y ⟨z,hle x z h,hz⟩
def abK{Z:Type}(tb:wS P G)(n:Nat)(s:Fs)(f v:HI G s->Option Z)(um:HL G (aL s.cP)->Z)(mu:Z->HL G (aL s.cP))(zz:Z)(e1:∀y,mu (um y)=y)(hf:(D1 P s.k).isSome=true)(hW:∀x,Wf tb n s (λy=>some (um y)) (λ_ =>none) x=v x)(hle:∀x z,f x=some z->v x=some z):Ct P G:=ctV s f mu zz hf (aaE e1 hW hle)
end Go.Rw
namespace Go.Rw
open Go Go.Bw Go.RowKit
variable {G:Sg} {P:Program}
theorem IY{α:Type}{k:Nat}{vs:List Value}{pre:World->Prop}{nc R:List aE}{p:α->Prop}{fv:α->Value}{fH:α->List aE}{w:World}(hc:Bw.Fn P k vs pre nc p fv fH)(hp:bH (bF (nc++R)) w.heap.size (nc++R) w)(hpre:pre w){Q:Ending->World->Prop}
  (h:∀i w',p i->aQ (bF (nc++R)) w w'->bH (bF (nc++R)) w.heap.size (fH i++R) w'->Q (.returned (fv i)) w'):Calls P k vs.toArray w Q:=by
 have hap:=List.pairwise_append.1 hp.apart;have hin:bH (bF nc) w.heap.size nc w:=⟨λr hr=>hp.holds r (akk _ hr),λr hr b hb=>⟨.inl (bg.2 ⟨r,hr,hb⟩),(hp.own r (akk _ hr) b hb).2⟩,hap.1⟩;have hkeep:∀{w':World},aQ (bF nc) w w'->∀r∈R,r.holds w'/\∀b∈r.cI,b<w'.heap.size:=λhsi r hr=>by have hlt:∀b∈r.cI,b<w.heap.size:=λb hb=>(hp.own r (akj _ hr) b hb).2;refine⟨aE.kT (hp.holds r (akj _ hr)) hsi.size λb hb=>hsi.block b (hlt b hb) λhm=>?_,λb hb=>Nat.lt_of_lt_of_le (hlt b hb) hsi.size⟩;obtain⟨q,hq,WX⟩:=bg.1 hm;exact hap.2.2 q hq r hr b WX hb
 have hown:∀b∈bF nc,b∈bF (nc++R)\/w.heap.size<=b:=λb hb=>by obtain⟨q,hq,WX⟩:=bg.1 hb;exact .inl (bg.2 ⟨q,akk _ hq,WX⟩)
 refine(hc.calls w hpre hin).mono λe w' hq=>?_;obtain⟨i,hpi,he,hsi,hh⟩:=hq;subst he;have zI:=hkeep hsi;refine h i w' hpi ((aQ.refl _ _).trans hsi hown) ⟨λr hm=>?_,λr hm b hb=>?_,List.pairwise_append.2 ⟨hh.apart,hap.2.1,λr h1 s h2 b hb Q9=>?_⟩⟩
 ·rcases List.mem_append.1 hm with h1|h1
  ·exact hh.holds r h1
  ·exact(zI r h1).1
 ·rcases List.mem_append.1 hm with h1|h1
  ·obtain⟨o,l⟩:=hh.own r h1 b hb
   refine⟨?_,l⟩;rcases o with o|o
   ·exact hown b o
   ·exact .inr o
  ·exact⟨(hp.own r (akj _ h1) b hb).1,(zI r h1).2 b hb⟩
 ·obtain⟨o,_⟩:=hh.own r h1 b hb
  rcases o with o|o
  ·obtain⟨q,hq,WX⟩:=bg.1 o
   exact hap.2.2 q hq s h2 b WX Q9
  ·exact absurd ((hp.own s (akj _ h2) b Q9).2) (by omega)
theorem Tk{k e sz:Nat}{t:Ty}[bq (t.L G)]{f:List (t.T G)->Option (List (t.T G))}(hn:(t.L G).n=sz)(hc:∀v0 a0 r,uV v0 a0.length->f a0=some r->Bw.Fn (α:=Value) P k [v0] (Ul (bF [rY v0 e sz (t.L G) a0]) (λ_ =>True)) [rY v0 e sz (t.L G) a0] (λv=>v=v0/\uV v r.length) (λ_ => .tuple #[]) (λv=>[rY v e sz (t.L G) r])):
  Qu P ⟨k,[], .cons (.row e sz t) .nil, .cons (.jc .nil) (.cons (.row e sz t) .nil),[some 0], .nil,[],[[0]]⟩ (RV _ (λx=>f x.1) (λz=>(z,()))) (λ_ _ =>False):=by
 intro ρ J HS HK X w vs x hv hO hrd hp hk hfr;refine⟨λy ⟨z,hz,e1⟩=>?_,λy h=>h.elim⟩;subst e1;obtain⟨v0,r0,rfl,h0,hr⟩:=hv;obtain rfl:r0=[]:=hr;cases hO with
 |cons ho hO2=>
  cases hO2;obtain⟨v1,ws,h1,rfl,h3,h4,h5⟩:=ho;have hv1:=s5 h0 h1;subst hv1;have hws:ws=eI (t.L G) x.1:=by exact(bq.iff.1 h4).trans (gD (t.L G) (x.1:List (t.T G))).symm
  subst hws;refine IY (nc:=[rY v0 e sz (t.L G) x.1]) (R:=HK++X) (hc v0 x.1 z h3 hz) hp (λ_ _ =>trivial) λi w' ⟨e2,h6⟩ hs AY=>?_;subst e2;refine⟨_,rfl,(bh.set (λ_ =>none) 0 i),J,[],_,[i],λ_ h=>h,?_, .cons ⟨i,_,bh.iN _ _ _,rfl,h6,bq.iff.2 (gD _ _),hn⟩ .nil,AY,hs,hk,λa b hab=>?_,λr hr=>by have hr:1<=r:=hr;simp[bh.set];omega⟩
  ·obtain⟨a0,cp,rfl⟩:=h6
   exact⟨_,_,rfl,⟨_,rfl,rfl⟩,_,_,rfl,⟨_,_,_,bh.iN _ _ _,rfl⟩,rfl⟩
  ·cases a with
   |zero=>cases hab;rw[bh.iN];exact h1.symm
   |succ a=>simp at hab
theorem Xh{k e sz:Nat}{t:Ty}[bq (t.L G)]{β:Type}{f:Int->Option β}(hn:(t.L G).n=sz)(hc:∀a1 r,f a1=some r->Bw.Fn (α:=Value) P k [.slice none 0 0, .int .i64 a1] (λ_ =>True) [] (λv=>uV v 0) (λv=>v) (λv=>[rY v e sz (t.L G) []])):
  Qu (G:=G) P ⟨k,[], .cons .kz (.cons (.v (.int .i64)) .nil), .cons (.row e sz t) .nil,[none], .nil,[],[]⟩ (RV _ (λx=>bd (f x.1) λ_ =>some []) (λz=>(z,()))) (λ_ _ =>False):=by
 intro ρ J HS HK X w vs x hv hO hrd hp hk hfr;refine⟨λy ⟨z,hz,e1⟩=>?_,λy h=>h.elim⟩;subst e1;obtain⟨r,hr,hz⟩:=tg hz;cases hz;obtain⟨u0,r0,rfl,h0,u1,r1,rfl,h1,h2⟩:=hv;cases h0;obtain rfl:r1=[]:=h2;have h1:[u1]=[Value.int .i64 x.1]:=h1;cases h1;cases hO;refine IY (nc:=[]) (R:=HK++X) (hc x.1 r hr) hp trivial λi w' hi hs AY=>?_;refine⟨_,rfl,(bh.set (λ_ =>none) 0 i),J,[],_,[],λ_ h=>h,?_, .cons ⟨i,_,bh.iN _ _ _,rfl,hi,bq.iff.2 (gD _ _),hn⟩ .nil,AY,hs,hk,λa b hab=>?_,λr hr=>by have hr:1<=r:=hr;simp[bh.set];omega⟩
 ·obtain⟨a0,cp,rfl⟩:=hi
  exact⟨_,_,rfl,⟨_,_,_,bh.iN _ _ _,rfl⟩,rfl⟩
 ·cases a with
  |zero=>cases hab
  |succ a=>simp at hab
def ajM{k e sz:Nat}{t:Ty}{β:Type}(f:Int->Option β)(hf:(D1 P k).isSome=true)(ok:Qu (G:=G) P ⟨k,[], .cons .kz (.cons (.v (.int .i64)) .nil), .cons (.row e sz t) .nil,[none], .nil,[],[]⟩ (RV _ (λx=>bd (f x.1) λ_ =>some []) (λz=>(z,()))) (λ_ _ =>False)):Ct P G where
 s:=⟨k,[], .cons .kz (.cons (.v (.int .i64)) .nil), .cons (.row e sz t) .nil,[none], .nil,[],[]⟩
 R:=RV _ (λx=>bd (f x.1) λ_ =>some []) (λz=>(z,()))
 Rp:=λ_ _ =>False
 cp:=λx ko _ =>bd (f x.1) λ_ =>ko ([],())
 cg:=λ_ _ _ =>none
 cps:=λx ko kp z h=>by obtain⟨y,h1,h2⟩:=tg h;exact .inl ⟨([],()),⟨[],by show bd (f x.1) _ =_;rw[h1];rfl,rfl⟩,h2⟩
 cgs:=λg x k z h=>by cases h
 fn:=by
  cases h:D1 P k with
  |none=>rw[h]at hf;cases hf
  |some fi=>exact B0 h
 ok:=ok
theorem Xi{Z:Type}{s:Fs}{f:HI G s->Option Z}{mu:Z->HL G (aL s.cP)}(h0:∀x:HI G s,(s.bl x).2.1=[])(h1:∀y:HL G (aL s.cP),(fQ (λm=>m) s.cP y 0).2.1=[])(h2:s.nm=[])
  (hc:∀(ρ:bh) (R:List aE) (x:HI G s) (z:Z) (vs:List Value),Uk G (Hs R)->f x=some z->rl (Hs R) ρ (s.bl x).1 vs->∃p,FnB P s.k vs (Hs R) p/\∀J v,p J v->rl (λw=>Hs R w/\J w) (λ_ =>none) (fQ (λm=>m) s.cP (mu z) 0).1 [v]):Qu P s (RV s f mu) (λ_ _ =>False):=by
 intro ρ J HS HK X w vs x hv hO hrd hp hk hfr;refine⟨λy ⟨z,hz,e1⟩=>?_,λy h=>h.elim⟩;subst e1;rw[h0]at hO;cases hO;obtain⟨p,hF,hp1⟩:=hc ρ X x z vs (hk.gl.mono hk.to) hz (hv.mono hk.to);have hX:Hs X w:=λr hr=>⟨hp.holds r (akj _ (akj _ hr)),λb hb=>(hp.own r (akj _ (akj _ hr)) b hb).2⟩;refine IY (nc:=[]) (R:=HK++X) hF hp hX λi w' hi hs AY=>?_;obtain⟨q,q1,q2,q3⟩:=Uh.one (J:=λw=>J w/\Hs X w) ⟨λw' hw=>⟨hk.to w' hw,hw⟩,hk.ex,hk.gl.mono λ_ h=>h.1⟩ (x:= .ext i.2.1 i.2.2) (w:=w') (AY.holds _ List.mem_cons_self) λb hb=>(AY.own _ List.mem_cons_self b hb).2;refine⟨_,rfl,λ_ =>none,_,[q],[],[],λ_ h=>h.1.1,(hp1 _ _ hi).mono λw h=>⟨h.1.2,h.2⟩,?_,?_,hs,q3,λa b hab=>(by rw[h2]at hab;cases hab),λ_ _ =>rfl⟩
 ·rw[h1];exact .nil
 ·have hx:=List.pairwise_cons.1 AY.apart
  have ht:bH _ w.heap.size (HK++X) w':=⟨λr hr=>AY.holds r (akp _ hr),λr hr=>AY.own r (akp _ hr),hx.2⟩;have:=ht.cons (r:=q) q1 (λb hb=>AY.own _ List.mem_cons_self b (by rw[← q2];exact hb)) λs hs b hb=>hx.1 s hs b (by rw[← q2];exact hb);exact this.j9 List.perm_middle.symm
theorem zL{ct:Ct P G}{R nc:List aE}{ρ:bh}{x:HI G ct.s}{y:HL G (aL ct.s.cP)}{v:Value}{vs:List Value}(hz:ct.R x y)(hgl:Uk G (Hs R))(hv:∀J:World->Prop,(∀w,J w->Hs R w)->rl J ρ (ct.s.bl x).1 vs)(h0:(ct.s.bl x).2.1=[])(h1:(fQ (λm=>m) ct.s.cP y 0).2.1=[])
  (hro:∀J:World->Prop,(∀w,J w->Hs R w)->∀r o,dm (ct.s.ro x) r=some o->∃z∈nc,ro J ρ r o z)(hfr:ρ.fr (ct.s.bl x).2.2)(hout:∀(J:World->Prop) (σ:bh) u us,rl J σ (fQ (λm=>m) ct.s.cP y 0).1 (u::us)->u=v):
  Bw.Fn (α:=Unit) P ct.s.k vs (Ul (bF nc) (Hs R)) nc (λ_ =>True) (λ_ =>v) (λ_ =>nc):=by
 refine⟨λargs w=>?_,λw hpre hp=>?_⟩
 ·obtain⟨fn,k1,k2,k3⟩:=ct.fn
  obtain⟨code,k2⟩:=Option.isSome_iff_exists.1 k2;have k3:fn.name≠ "runtime.NumGoroutine" :=λe=>by rw[e]at k3;simp at k3
  simp[callFunc,k1,k2,k3,Go.mark]
 ·have oo:∀b,b∈(List.range w.heap.size).filter (λb=> !decide (b∈bF nc))↔b<w.heap.size/\b∉bF nc:=λb=>by simp
  generalize(List.range w.heap.size).filter (λb=> !decide (b∈bF nc))=bs at oo;have st:∀w1:World,(aE.ext bs λw'=>w.heap.size<=w'.heap.size/\∀b∈bs,w'.heap[b]? =w.heap[b]?).holds w1->w.heap.size<=w1.heap.size/\∀b∈bs,w1.heap[b]? =w.heap[b]? :=λw1 h=>h w1 (Nat.le_refl _) λ_ _ =>rfl;have hx:(aE.ext bs λw'=>w.heap.size<=w'.heap.size/\∀b∈bs,w'.heap[b]? =w.heap[b]?).holds w:=λw' h1 h2=>⟨h1,h2⟩;have hxb:(aE.ext bs λw'=>w.heap.size<=w'.heap.size/\∀b∈bs,w'.heap[b]? =w.heap[b]?).cI=bs:=rfl;generalize(aE.ext bs λw'=>w.heap.size<=w'.heap.size/\∀b∈bs,w'.heap[b]? =w.heap[b]?)=x0 at st hx hxb;have key:∀w',Hs [x0] w'->Hs R w':=λw' h=>by
   have h1:=st w' (h _ List.mem_cons_self).1;have h2:=hpre {w with heap:=w'.heap} ⟨rfl,rfl,rfl,h1.1,λk hk hn=>h1.2 k ((oo k).2 ⟨hk,hn⟩)⟩
   exactλr hr=>⟨aE.kT (h2 r hr).1 (Nat.le_refl _) λ_ _ =>rfl,(h2 r hr).2⟩
  have hk:Uh G [x0] (Hs [x0]):=⟨λ_ h=>h,λw1 w2 h1 h2 b hb=>by
   have hb:b∈bs:=by simpa[bF,hxb]using hb
   rw[(st w1 (h1 _ List.mem_cons_self).1).2 b hb,(st w2 (h2 _ List.mem_cons_self).1).2 b hb],hgl.mono key⟩
  have hin:∀b∈bF nc,b∈bF ([]++(nc++[x0])):=λb hb=>by simp[bF]at hb ⊢;exact .inl hb
  have AY:bH (bF ([]++(nc++[x0]))) w.heap.size ([]++(nc++[x0])) w:=by
   refine(bH.cons (r:=x0) (⟨hp.holds,λr hr b hb=>⟨.inl (hin b (bg.2 ⟨r,hr,hb⟩)),(hp.own r hr b hb).2⟩,hp.apart⟩:bH (bF ([]++(nc++[x0]))) w.heap.size nc w) hx (λb hb=>?_) λs hs b hb Q9=>?_).j9 (List.perm_append_comm (l₁:=[x0]))
   ·exact⟨.inl (bg.2 ⟨x0,by simp,hb⟩),((oo b).1 (hxb▸hb)).1⟩
   ·exact((oo b).1 (hxb▸hb)).2 (bg.2 ⟨s,hs,Q9⟩)
  refine((ct.ok ρ (Hs [x0]) [] nc [x0] w vs x (hv _ key) (by rw[h0];exact .nil) (hro _ key) AY hk hfr).1 y hz).mono λen w' hq=>?_;obtain⟨u,e1,σ,J',Y,Uj,us,mJ,hr,hO,hp3,hsi,hkn,_,_⟩:=hq;rw[h1]at hO;cases hO;have hsub:nc.Sublist ([]++(nc++(Y++[x0]))):=by simp
  refine⟨(),trivial,e1.trans (by rw[hout _ _ _ _ hr]),⟨hsi.os,hsi.tape,hsi.output,hsi.size,λk hk hn=>?_⟩,⟨λr hr=>hp3.holds r (hsub.subset hr),λr hr b hb=>⟨.inl (bg.2 ⟨r,hr,hb⟩),(hp3.own r (hsub.subset hr) b hb).2⟩,hp3.apart.sublist hsub⟩⟩;exact(st w' (hp3.holds x0 (by simp))).2 k ((oo k).2 ⟨hk,hn⟩)
theorem Xf{α:Type}[Inhabited α]{A:World->Prop}{v:Value}{L:cZ α}[bq L]{xs:List α}(h:Fz A v L xs):Cq A v L (eI L xs) xs:=⟨h.sl,bq.iff.2 (gD L xs),h.ro⟩
theorem ahv{α:Type}[Inhabited α]{A:World->Prop}{v:Value}{L:cZ α}[bq L]{ws:List Value}{xs:List α}(h:Cq A v L ws xs):Fz A v L xs:=by have e:ws=eI L xs:=(bq.iff.1 h.fg).trans (gD L xs).symm;subst e;exact⟨h.sl,h.ro⟩
theorem agx{α:Type}[Inhabited α]{A:World->Prop}{L:cZ α}[bq L]{cs:List Value}{xs:List α}(h:(LSl L).fg A cs xs):(YG L).fg A cs xs:=by obtain⟨v,e,h⟩:=h;exact⟨v,_,e,Xf h⟩
theorem aiT{α:Type}[Inhabited α]{A:World->Prop}{L:cZ α}[bq L]{cs:List Value}{xs:List α}(h:(YG L).fg A cs xs):(LSl L).fg A cs xs:=by obtain⟨v,_,e,h⟩:=h;exact⟨v,e,ahv h⟩
theorem ad2{k:Nat}{vs:List Value}{K:World->Prop}{v:Value}(h:FnW P k vs K v):FnB P k vs K λ_ u=>u=v:=⟨h.enter,λw hw hp=>(h.calls w hw hp).mono λe w' hq=>by
 obtain⟨_,_,e1,h2,h3⟩:=hq;exact⟨(v,[],λ_ =>True),rfl,e1,h2,(h3:bH _ _ [] w').cons (r:= .ext [] λ_ =>True) (λ_ _ _ =>trivial) (λb hb=>by cases hb) λs hs=>by cases hs⟩⟩
theorem Fn.pre{α:Type}{k:Nat}{vs:List Value}{K K':World->Prop}{nc:List aE}{p:α->Prop}{fv:α->Value}{fH:α->List aE}(h:Bw.Fn P k vs K nc p fv fH)(m:∀w,K' w->K w):Bw.Fn P k vs K' nc p fv fH:=⟨h.enter,λw hw hp=>h.calls w (m w hw) hp⟩
theorem aaF{k:Nat}{vs vs':List Value}{K K':World->Prop}{p:(World->Prop)->Value->Prop}(h:FnB P k vs K p)(m:∀w,K' w->K w)(e:vs=vs'):FnB P k vs' K' p:=by subst e;exact⟨h.enter,λw hw hp=>h.calls w (m w hw) hp⟩
theorem Lz{J:World->Prop}{ρ:bh}{b:AV G}{t:Ty}{x:t.T G}{vs:List Value}(h:rl J ρ (.cons (.dat t x) b) vs)(ha:t.ag=true):∃(cs r:List Value),vs= .agg cs.toArray::r/\(t.L G).fg J cs x/\rl J ρ b r:=by obtain⟨u,r,rfl,⟨u',e,h1,h2,_⟩,h3⟩:=h;cases e;obtain⟨cs,rfl⟩:=h2 ha;exact⟨cs,r,rfl,h1,h3⟩
theorem O4{J:World->Prop}{ρ:bh}{b:AV G}{k:IntKind}{i:Int}{vs:List Value}(h:rl J ρ (.cons (.int k i) b) vs):∃r:List Value,vs= .int k i::r/\rl J ρ b r:=by obtain⟨u,r,rfl,h1,h3⟩:=h;have h1:[u]=[.int k i]:=h1;cases h1;exact⟨r,rfl,h3⟩
theorem Ms{J:World->Prop}{ρ:bh}{t:Ty}{x:t.T G}{cs:List Value}(h:(t.L G).fg J cs x)(ha:t.ag=true):rl J ρ (.dat t x) [.agg cs.toArray]:=⟨_,rfl,h,λ_ =>⟨_,rfl⟩,λq=>by rw[ha]at q;cases q⟩
theorem abA{J:World->Prop}{ρ:bh}{e:Ty}[bq (e.L G)]{xs:List (e.T G)}{u:Value}(h:Fz J u (e.L G) xs):rl (G:=G) J ρ (.dat (.sl e) xs) [u]:=by obtain⟨a,cp,rfl⟩:=h.sl;exact⟨_,rfl,⟨_,_,rfl,Xf h⟩,nofun,λ_ =>rfl⟩
theorem ab4{α β γ:Type}{a:Option α}{f:α->Option β}{h:β->Option γ}:bd (bd a f) h=bd a λy=>bd (f y) h:=by cases a<;>rfl
theorem ahJ{α β:Type}{c:Bool}{a b:Option α}{h:α->Option β}:bd (cn c a b) h=cn c (bd a h) (bd b h):=by cases c<;>rfl
theorem ahI{α β:Type}{c:Bool}{a:Option α}{h:α->Option β}:bd (gu c a) h=gu c (bd a h):=by cases c<;>rfl
theorem Nt{α β:Type}{F:(Int->Option α)->Int->Option α}{F':(Int->Option β)->Int->Option β}{h:α->Option β}(k:∀K i,bd (F K i) h=F' (λi=>bd (K i) h) i):∀(n:Nat) (i:Int),bd (iv F n i) h=iv F' n i
 |0,_ =>rfl
 |n+1,i=>by show bd (F (iv F n) i) h=F' (iv F' n) i;rw[k,funext λi=>Nt k n i]
end Go.Rw
namespace Go.Proofs.Z
open Go Go.Bw
instance:qS Tryz.prog 4:=⟨by kernel_rfl⟩
instance:qS Tryz.prog 27:=⟨by kernel_rfl⟩
instance:qS Tryz.prog 28:=⟨by kernel_rfl⟩
instance:jH Tryz.prog 28 ([.int .u32 0]):=⟨by kernel_rfl⟩
instance:qS Tryz.prog 64:=⟨by kernel_rfl⟩
instance:vD Tryz.prog 64 169 2:=⟨by kernel_rfl⟩
instance:Oz Tryz.prog 64 169 2 16:=⟨by kernel_rfl⟩
instance:ve Tryz.prog 66 2:=⟨by kernel_rfl⟩
instance:TPl Tryz.prog 66 [(0,1),(1,1)]:=⟨by kernel_rfl⟩
instance:jH Tryz.prog 66 ([.slice none 0 0, .int .i64 0]):=⟨by kernel_rfl⟩
instance:ve Tryz.prog 72 3:=⟨by kernel_rfl⟩
instance:Gy Tryz.prog 72 0 0:=⟨by kernel_rfl⟩
instance:Gy Tryz.prog 72 1 1:=⟨by kernel_rfl⟩
instance:TPl Tryz.prog 72 [(0,1),(1,1),(2,1)]:=⟨by kernel_rfl⟩
instance:Oi Tryz.prog 72 [(0,some .u32),(1,none),(2,none)]:=⟨by kernel_rfl⟩
instance:jH Tryz.prog 72 ([.int .u32 0, .bool false, .bool false]):=⟨by kernel_rfl⟩
instance:tu Tryz.prog 73 32 72 3:=⟨by kernel_rfl⟩
instance:ve Tryz.prog 75 96:=⟨by kernel_rfl⟩
instance:Gy Tryz.prog 75 0 0:=⟨by kernel_rfl⟩
instance:ve Tryz.prog 89 5:=⟨by kernel_rfl⟩
instance:TPl Tryz.prog 89 [(0,1),(1,1),(2,1),(3,1),(4,1)]:=⟨by kernel_rfl⟩
instance:jH Tryz.prog 89 ([.int .u32 0, .int .u8 0, .int .u8 0, .bool false, .int .u32 0]):=⟨by kernel_rfl⟩
instance:tu Tryz.prog 90 16 89 5:=⟨by kernel_rfl⟩
instance:ve Tryz.prog 92 176:=⟨by kernel_rfl⟩
instance:vD Tryz.prog 167 28 1:=⟨by kernel_rfl⟩
instance:Oz Tryz.prog 167 28 1 4:=⟨by kernel_rfl⟩
instance:ve Tryz.prog 169 2:=⟨by kernel_rfl⟩
instance:jH Tryz.prog 169 ([.int .i64 0, .int .i64 0]):=⟨by kernel_rfl⟩
instance:qS Tryz.prog 294:=⟨by kernel_rfl⟩
instance:qS Tryz.prog 342:=⟨by kernel_rfl⟩
theorem abM:Tryz.prog.follows .mixedOrders=true:=by kernel_rfl
end Go.Proofs.Z
namespace Go.Proofs.Z
open Go Go.Bw
def tb:Tb:=⟨[(7,[(0,0),(1,1),(2,2),(3,3)]),(8,[(0,0),(1,1),(2,2),(3,3)]),(13,[(0,0),(1,1)]),(14,[(0,0),(1,1)]),(18,[(0,0)]),(19,[(0,0)]),(29,[(0,0),(1,1),(2,2)]),(30,[(0,0),(1,1),(2,2)]),(34,[(0,0),(1,1)]),(35,[(0,0),(1,1)]),(38,[(0,0),(1,1),(2,2)]),(39,[(0,0),(1,1),(2,2)]),(56,[(0,0),(1,1)]),(57,[(0,0),(1,1)]),(65,[(0,0),(1,1)]),(66,[(0,0),(1,1)]),(68,[(0,0),(1,1),(2,2),(3,4)]),(69,[(0,0),(1,1),(2,2),(3,4)]),(71,[(0,0),(1,1),(2,2)]),(72,[(0,0),(1,1),(2,2)]),(74,[(0,0)]),(75,[(0,0)]),(76,[(0,0)]),(77,[(0,0)]),(79,[(0,0),(1,96)]),(80,[(0,0),(1,96)]),(81,[(0,0),(1,1),(2,2)]),(82,[(0,0),(1,1),(2,2)]),(83,[(0,0),(1,1)]),(84,[(0,0),(1,1)]),(86,[(0,0)]),(87,[(0,0)]),(88,[(0,0),(1,1),(2,2),(3,3),(4,4)]),(89,[(0,0),(1,1),(2,2),(3,3),(4,4)]),(91,[(0,0),(1,96)]),(92,[(0,0),(1,96)]),(93,[(0,0),(1,480),(2,608)]),(94,[(0,0),(1,480),(2,608)]),(95,[(0,0),(1,1),(2,2),(3,3)]),(96,[(0,0),(1,1),(2,2),(3,3)]),(98,[(0,0),(1,16),(2,17),(3,18)]),(99,[(0,0),(1,16),(2,17),(3,18)]),(102,[(0,0),(1,784),(2,936),(3,944)]),(103,[(0,0),(1,784),(2,936),(3,944)]),(106,[(0,0),(1,1),(2,2)]),(107,[(0,0),(1,1),(2,2)]),(109,[(0,0)]),(110,[(0,0)]),(112,[(0,0),(1,952),(2,953),(3,1273)]),(113,[(0,0),(1,952),(2,953),(3,1273)]),(116,[(0,0),(1,1)]),(119,[(0,0),(1,1),(2,2)]),(120,[(0,0),(1,1),(2,2)]),(122,[(0,0),(1,1),(2,2),(3,3),(4,4),(5,5)]),(123,[(0,0),(1,1),(2,2),(3,3),(4,4),(5,5)]),(140,[(0,0),(1,3)]),(141,[(0,0),(1,3)]),(148,[(0,0),(1,1)]),(149,[(0,0),(1,1)]),(168,[(0,0),(1,1)]),(169,[(0,0),(1,1)]),(170,[(0,0),(1,1),(2,7),(3,8),(4,9),(5,11)]),(171,[(0,0),(1,1),(2,7),(3,8),(4,9),(5,11)]),(178,[(0,0)]),(179,[(0,0)]),(183,[(0,0),(1,1),(2,2)]),(184,[(0,0),(1,1),(2,2)]),(187,[(0,0),(1,1),(2,13),(3,16)]),(188,[(0,0),(1,1),(2,13),(3,16)]),(221,[(0,0),(1,952),(2,953),(3,959),(4,961),(5,962),(6,963)]),(222,[(0,0),(1,952),(2,953),(3,959),(4,961),(5,962),(6,963)]),(265,[(0,0),(1,1),(2,2),(3,3)]),(266,[(0,0),(1,1),(2,2),(3,3)]),(275,[(0,0),(1,1),(2,2),(3,3),(4,4),(5,5),(6,6),(7,7),(8,8),(9,9),(10,10)]),(276,[(0,0),(1,1),(2,2),(3,3),(4,4),(5,5),(6,6),(7,7),(8,8),(9,9),(10,10)])],[(2, .i64),(3, .i64),(5, .u8),(6, .u8),(12, .u64),(21, .i32),(23, .u64),(27, .u32),(28, .u32),(43, .i64),(131, .u64),(270, .u8),(271, .u8),(273, .i32),(274, .i32)]⟩
instance:Oh Tryz.prog tb:=⟨by kernel_rfl⟩
end Go.Proofs.Z
