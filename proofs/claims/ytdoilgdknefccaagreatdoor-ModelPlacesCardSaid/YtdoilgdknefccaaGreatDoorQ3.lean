/- Part 3 of what a proof leans on; pruned and shortened by a program out of longer texts. -/
import Derived.Test.YtdoilgdknefccaaGreatDoorQ2
namespace Go.Rw
open Go Go.Bw Go.RowKit
variable {G:Sg} {P:Program} {N:Nat} {C:CC G}
def exR(J:World->Prop)(ρ:bT):Ex G->Exit->Prop
 | .o5, .normal=>True
 | .exit i, .exit j=>i=j
 | .ret, .ret=>True
 | .zP v, .panic ch=>∃u,ch=[{v:=u,recovered:=false}]/\rv J ρ v u
 |_,_ =>False
def Rn(P:Program)(c:Cx):Cf->(Exit->Act->World->Prop)->Act->World->Prop
 | .code x,Q,a,w=>x.wpIn (FA c.ro) 0 P Q a w
 | .ops all l,Q,a,w=>wpListIn (FA c.ro) 0 P all Q l a w
def Aft(c:Cx)(N:Nat)(C:CC G)(ρ:bT)(J:World->Prop)(HK X:List aO)(n:Nat)(S':AS G)(e:Ex G)(Q:Exit->Act->World->Prop):Prop:=∀(ρ':bT) (J':World->Prop) (Y:List aO) (a':Act) (w':World) (me:Exit),ρ.to ρ' n->(∀w,J' w->J w)->exR J' ρ' e me->Rl c N ρ' J' HK (Y++X) C S' a' w'->Q me a' w'
def US(P:Program)(N:Nat)(C:CC G)(cf:Cf)(S S':AS G)(e:Ex G):Prop:=∀(c:Cx) (ρ:bT) (J:World->Prop) (HK X:List aO) (a:Act) (w:World) (Q:Exit->Act->World->Prop),Rl c N ρ J HK X C S a w->Aft c N C ρ J HK X S.nx S' e Q->Rn P c cf Q a w
theorem Aft.here{c:Cx}{ρ:bT}{J:World->Prop}{HK X:List aO}{S:AS G}{e:Ex G}{Q:Exit->Act->World->Prop}{a:Act}{w:World}{me:Exit}{n:Nat}(h:Aft c N C ρ J HK X n S e Q)(hr:Rl c N ρ J HK X C S a w)(he:exR J ρ e me):Q me a w:=
 h ρ J [] a w me (bT.gL _ _) (λ_ h=>h) he hr
theorem Aft.fE{c:Cx}{ρ ρ1:bT}{J J1:World->Prop}{HK X Y:List aO}{S:AS G}{e:Ex G}{Q:Exit->Act->World->Prop}{n m:Nat}(h:Aft c N C ρ J HK X n S e Q)(h1:ρ.to ρ1 n)(h2:∀w,J1 w->J w)(hn:n<=m):Aft c N C ρ1 J1 HK (Y++X) m S e Q:=
 λρ' J' Y' a' w' me k1 k2 k3 k4=>h ρ' J' (Y'++Y) a' w' me (h1.trans k1 hn) (λw q=>h2 w (k2 w q)) k3 (by rw[List.append_assoc];exact k4)
theorem oW{J:World->Prop}{ρ:bT}{me:Exit}(h:exR (G:=G) J ρ .o5 me):me= .normal:=by cases me<;>first|rfl|exact h.elim
theorem J5{J:World->Prop}{ρ:bT}{me:Exit}(h:exR (G:=G) J ρ .ret me):me= .ret:=by cases me<;>first|rfl|exact h.elim
theorem Lt{J:World->Prop}{ρ:bT}{i:Nat}{me:Exit}(h:exR (G:=G) J ρ (.exit i) me):me= .exit i:=by cases me<;>first|exact h.elim|(have h:i=_ :=h;rw[h])
theorem VB{J:World->Prop}{ρ:bT}{v:AV G}{me:Exit}(h:exR J ρ (.zP v) me):∃u,me= .panic [{v:=u,recovered:=false}]/\rv J ρ v u:=by cases me<;>first|exact h.elim|(obtain⟨u,rfl,h⟩:=h;exact⟨u,rfl,h⟩)
theorem sJ{J:World->Prop}{ρ:bT}{e:Ex G}{me:Exit}(he:e≠ .o5)(h:exR J ρ e me):me≠ .normal:=by
 intro q;subst q;cases e with
 |o5=>exact he rfl
 |_ =>exact h.elim
theorem rz{K:Act->World->Prop}{Q:Exit->Act->World->Prop}{me:Exit}{a:Act}{w:World}(hm:me≠ .normal)(h:Q me a w):Exit.then K Q me a w:=by cases me<;>first|exact absurd rfl hm|exact h
theorem af4{x y:Code}{S S1 S2:AS G}{e:Ex G}(h1:US P N C (.code x) S S1 .o5)(h2:US P N C (.code y) S1 S2 e)(hn:S.nx<=S1.nx):US P N C (.code (.seq x y)) S S2 e:=by intro c ρ J HK X a w Q hr hq;refine wpIn_seq (h1 c ρ J HK X a w _ hr λρ' J' Y a' w' me k1 k2 k3 k4=>?_);rw[oW k3];exact h2 c ρ' J' HK (Y++X) a' w' Q k4 (hq.fE k1 k2 hn)
theorem ry{x y:Code}{S S1:AS G}{e:Ex G}(h1:US P N C (.code x) S S1 e)(he:e≠ .o5):US P N C (.code (.seq x y)) S S1 e:=by intro c ρ J HK X a w Q hr hq;refine wpIn_seq (h1 c ρ J HK X a w _ hr λρ' J' Y a' w' me k1 k2 k3 k4=>?_);exact rz (sJ he k3) (hq ρ' J' Y a' w' me k1 k2 k3 k4)
theorem BL{x:Code}{i:Nat}{S S1:AS G}{e e':Ex G}(h1:US P N C (.code x) S S1 e)(he:(e= .exit i/\e'= .o5)\/(e'=e/\e≠ .exit i)):US P N C (.code (.block i x)) S S1 e':=by
 intro c ρ J HK X a w Q hr hq;refine wpIn_block (h1 c ρ J HK X a w _ hr λρ' J' Y a' w' me k1 k2 k3 k4=>?_);rcases he with⟨rfl,rfl⟩|⟨rfl,hne⟩
 ·rw[Lt k3]
  simpa[Exit.inBlock]using hq ρ' J' Y a' w' .normal k1 k2 trivial k4
 ·have:=hq ρ' J' Y a' w' me k1 k2 k3 k4
  cases me with
  |exit j=>
   cases e' with
   |exit i'=>have e:i'=j:=k3;subst e;have:¬i'=i:=λq=>hne (by rw[q]);simpa[Exit.inBlock,this]using hq ρ' J' Y a' w' _ k1 k2 k3 k4
   |_ =>exact k3.elim
  |_ =>exact this
def LPr(P:Program)(c:Cx)(x:Code)(Q:Exit->Act->World->Prop)(a:Act)(w:World):Prop:=∀(b:Frame) (k:List Item) (cs:List Frame),b.roundOf=(FA c.ro).round->(FA c.ro).fn b.fn->(FA c.ro).room (cs.length+1+0)-> ∃e a' w',Q e a' w'/\ArrivesIn (Machine.fenced P (FA c.ro)) P (lone (b.atR a (.code x:: .inLoop x::k)) cs w) b k cs e a' w'
theorem QN{c:Cx}{x:Code}{Q:Exit->Act->World->Prop}{a:Act}{w:World}(h:LPr P c x Q a w):(Code.loop x).wpIn (FA c.ro) 0 P Q a w:=λb k cs hro hb hr=>by obtain⟨e,a',w',hq,B9⟩:=h b k cs hro hb hr;exact⟨e,a',w',hq, .of_steps (.one (fenced_calm hb hr rfl) stepR_loop) B9⟩
theorem OQ{c:Cx}{x:Code}{Q:Exit->Act->World->Prop}{a:Act}{w:World}(h:x.wpIn (FA c.ro) 0 P (Exit.then (LPr P c x Q) Q) a w):LPr P c x Q a w:=λb k cs hro hb hr=>by
 obtain⟨e,a₁,w₁,hq,B9⟩:=h b (.inLoop x::k) cs hro hb hr;cases e with
 |normal=>obtain⟨e₂,a₂,w₂,hq₂,aaM⟩:=hq b k cs hro hb hr;exact⟨e₂,a₂,w₂,hq₂, .of_steps (StepsIn.trans B9 (.one (fenced_calm hb hr rfl) stepR_inLoop)) aaM⟩
 |exit id=>exact⟨_,a₁,w₁,hq, .pass (x:= .inLoop x) rfl (λ_ _ => .inl (by simp)) B9⟩
 |goto l=>exact⟨_,a₁,w₁,hq, .pass (x:= .inLoop x) rfl (λ_ _ => .inl (by simp)) B9⟩
 |ret=>exact⟨_,a₁,w₁,hq, .pass (x:= .inLoop x) rfl (λ_ _ => .inl (by simp)) B9⟩
 |panic ch=>exact⟨_,a₁,w₁,hq, .pass (x:= .inLoop x) rfl (λ_ _ => .inl (by simp)) B9⟩
 |outgrown=>exact⟨_,a₁,w₁,hq, .pass (x:= .inLoop x) rfl (λ_ _ => .inl (by simp)) B9⟩
theorem af5{all:Array Oper}{S:AS G}:US P N C (.ops all []) S S .o5:=λ_ _ _ _ _ _ _ _ hr hq=>hq.here hr trivial
def R8(N:Nat)(all:Array Oper)(C:CC G)(S:AS G)(o:Oper):Prop:=∀(c:Cx) (ρ:bT) (J:World->Prop) (HK X:List aO) (a:Act) (w:World),Rl c N ρ J HK X C S a w->Region.wanted o (yielded all a.tmps)=true
theorem R8.none{all:Array Oper}{o:Oper}{S:AS G}(h:o.guard=none):R8 N all C S o:=λ_ _ _ _ _ _ _ _ =>by simp[Region.wanted,h]
theorem acH{all:Array Oper}{r:List Oper}{o:Oper}{S S1 S2 S3:AS G}{v:AV G}{e:Ex G}(hg:R8 N all C S o)(h:SK P o C S S1 v)(hp:yC N C o.dst v S1=some S2)(h2:US P N C (.ops all r) S2 S3 e)(hn:S.nx<=S1.nx)(hv:∀j w x,v≠ .gd j w x):US P N C (.ops all (o::r)) S S3 e:=by
 intro c ρ J HK X a w Q hr hq;refine wpListIn_step λK hK=>?_;rw[aoU (hg c ρ J HK X a w hr)];refine h c N ρ J HK X a w K Q hr λρ' J' Y w' u k1 k0 k2 k3=>hK _ _ ?_;refine h2 c ρ' J' HK (Y++X) _ w' Q (k3.put hp ?_) ?_
 ·cases v with
  |gd j w x=>exact absurd rfl (hv j w x)
  |_ =>exact k2
 ·have:S2.nx=S1.nx:=by
   cases hd:o.dst with
   |none=>rw[hd]at hp;cases hp;rfl
   |some d=>
    rw[hd]at hp;simp only[yC]at hp;cases hb:(Nat.blt d N&&(OJ d S1.F&&QE d C)&&Ny d v)with
    |false=>rw[hb]at hp;cases hp
    |true=>rw[hb]at hp;cases hp;rfl
  exact hq.fE k1 k0 (by omega)
theorem qS{d:Option Tmp}{v:AV G}{S S':AS G}(hp:yC N C d v S=some S'):S'.nx=S.nx:=by
 cases d with
 |none=>cases hp;rfl
 |some d=>
  simp only[yC]at hp;cases hb:(Nat.blt d N&&(OJ d S.F&&QE d C)&&Ny d v)with
  |false=>rw[hb]at hp;cases hp
  |true=>rw[hb]at hp;cases hp;rfl
theorem alj{Z:Type}:∀{gs:List Bool} {k:Option Z} {z:Z},guW gs k=some z->(∀b∈gs,b=true)/\k=some z:=by
 intro gs
 induction gs with
 |nil=>intro k z h;exact⟨by simp,h⟩
 |cons b r ih=>intro k z h;obtain⟨h1,h2⟩:=rm h;obtain⟨h3,h4⟩:=ih h2;exact⟨by simpa[h1]using h3,h4⟩
theorem alk{Z:Type}{g:Bool}:∀{gs:List Bool} {k:Option Z} {z:Z},guG g gs k=some z->(g=true->∀b∈gs,b=true)/\k=some z:=by
 intro gs
 induction gs with
 |nil=>intro k z h;exact⟨by simp,h⟩
 |cons b r ih=>intro k z h;obtain⟨h1,h2⟩:=rm h;obtain⟨h3,h4⟩:=ih h2;exact⟨λhg=>by have:=K9 h1 hg;simpa[this]using h3 hg,h4⟩
theorem SQ{c:Cx}{ρ:bT}{J:World->Prop}{HK X:List aO}{S:AS G}{a:Act}{w:World}{ch:List (Nat×Bool)}{y z:Operand}{v:AV G}{d:Option Tmp}{ty:TypeId}{ps:String}{af:Array Edge}{g:Option (Nat×Bool)}{j:Nat}{b:Bool}
  (h:Rl c N ρ J HK X C S a w)(hc:∀q∈ch,a.tmps[q.1]? =some (.bool q.2))(ex:a.eval (.tmp j)= .bool b)(hj:a.tmps[j]? =some (.bool b))(hp:OB C S ch j b y z=some v):Gl P c J ρ ⟨d, .pick (.tmp j) y z,ty,ps,af,g⟩ a w v:=by
 have hE:=gk h hc;have hcb:∀b:Bool,a.eval (.const (.bool b))= .bool b:=λ_ =>rfl;unfold OB at hp;split at hp
 ·split at hp
  ·rename_i k x hy _
   split at hp
   ·rename_i u hu
    cases hb:Nat.beq k j with
    |false=>rw[hb]at hp;cases hp
    |true=>
     rw[hb]at hp;cases hp;obtain rfl:=aoW hb;refine⟨.bool (b&&u),rfl,VK.run (by simp) ?_⟩;have hr:=h.ev hy;cases b with
     |false=>simp[execOp,ex,hcb,asBool]
     |true=>have:=ER hu (hr.1 hj);simp[execOp,ex,this,asBool]
   ·cases hp
  ·rename_i x _ hy
   split at hp
   ·rename_i u hu
    cases hp;have ey:=ER hu (hE.ok _ _ hy);refine⟨.bool (b&&u),rfl,VK.run (by simp) ?_⟩;cases b<;>simp[execOp,ex,ey,hcb,asBool]
   ·cases hp
  ·cases hp
 ·split at hp
  ·rename_i k x hy _
   split at hp
   ·rename_i u hu
    cases hb:Nat.beq k j with
    |false=>rw[hb]at hp;cases hp
    |true=>
     rw[hb]at hp;cases hp;obtain rfl:=aoW hb;refine⟨.bool (b||u),rfl,VK.run (by simp) ?_⟩;have hr:=h.ev hy;cases b with
     |true=>simp[execOp,ex,hcb,asBool]
     |false=>have:=ER hu (hr.1 hj);simp[execOp,ex,this,asBool]
   ·cases hp
  ·rename_i x _ hy
   split at hp
   ·rename_i u hu
    cases hp;have ey:=ER hu (hE.ok _ _ hy);refine⟨.bool (b||u),rfl,VK.run (by simp) ?_⟩;cases b<;>simp[execOp,ex,ey,hcb,asBool]
   ·cases hp
  ·cases hp
 ·cases hp
theorem WI{tt:TT P G}{c:Cx}{ρ:bT}{J:World->Prop}{HK X:List aO}{S:AS G}{a:Act}{w:World}{ch:List (Nat×Bool)}{x y z:Operand}{v:AV G}{d:Option Tmp}{ty:TypeId}{ps:String}{af:Array Edge}{g:Option (Nat×Bool)}
  (h:Rl c N ρ J HK X C S a w)(hc:∀q∈ch,a.tmps[q.1]? =some (.bool q.2))(hp:SR C S ch x y z=some v):Gl P c J ρ ⟨d, .pick x y z,ty,ps,af,g⟩ a w v:=by
 have hE:=gk h hc;unfold SR at hp;split at hp
 ·rename_i b hx
  have ex:=M9 (hE.ok _ _ hx);refine⟨_,hE.ok _ _ hp,VK.run (by simp) ?_⟩;cases b<;>simp[execOp,ex,asBool]
 ·rename_i b j hx
  have ex:=CQ (hE.ok _ _ hx);have hj:a.tmps[j]? =some (a.eval (.tmp j)):=J4 a j _ (hE.ev _ _ hx);rw[ex]at hj;exact SQ h hc ex hj hp
 ·cases hp
theorem ZB{tt:TT P G}{zt:ZT P G}{c:Cx}{ρ:bT}{J:World->Prop}{HK X:List aO}{S:AS G}{a:Act}{w:World}{ch:List (Nat×Bool)}{op:Op}{v:AV G}{gs:List Bool}{d:Option Tmp}{ty:TypeId}{ps:String}{af:Array Edge}{g:Option (Nat×Bool)}
  (h:Rl c N ρ J HK X C S a w)(hc:∀q∈ch,a.tmps[q.1]? =some (.bool q.2))(hp:pvA tt zt C S ch op=some (gs,v))(hg:∀b∈gs,b=true):Gl P c J ρ ⟨d,op,ty,ps,af,g⟩ a w v:=by
 unfold pvA at hp;split at hp
 ·split at hp
  ·rename_i v' hv;cases hp;exact WI (tt:=tt) h hc hv
  ·cases hp
 ·obtain⟨HS,_,_,hm⟩:=h.st
  have:=Zw (d:=d) (ty:=ty) (ps:=ps) (af:=af) (g:=g) hm (gk h hc) hp;exact this
 ·obtain⟨HS,_,_,hm⟩:=h.st
  exact ade (d:=d) (ty:=ty) (ps:=ps) (af:=af) (g:=g) hm (gk h hc) hp hg
 ·obtain⟨HS,_,_,hm⟩:=h.st
  split at hp
  ·rename_i r' hr;cases hp;exact Zq (d:=d) (ty:=ty) (ps:=ps) (af:=af) (g:=g) hm (gk h hc) hr hg
  ·exact Zn hm (gk h hc) hp hg
 ·obtain⟨HS,_,_,hm⟩:=h.st
  split at hp
  ·rename_i r' hr;cases hp;exact Zn hm (gk h hc) hr hg
  ·split at hp
   ·rename_i va vb hx hy;exact Zu hm (gk h hc) hp hx hy
   ·cases hp
 ·obtain⟨HS,_,_,hm⟩:=h.st
  exact Zn hm (gk h hc) hp hg
theorem Rl.since{c:Cx}{ρ:bT}{J:World->Prop}{HK X:List aO}{S:AS G}{a:Act}{w w':World}(h:Rl c N ρ J HK X C S a w)(hs:bG [] w w'):Rl c N ρ J HK X C S a w':=by obtain⟨HS,q1,q3⟩:=h.hp;exact⟨h.tm,h.df,h.si.ext hs,h.fs,h.fc,h.kc,⟨HS,q1,q3.ext hs⟩,h.kn,h.fr⟩
theorem ajR{tt:TT P G}{zt:ZT P G}{S:AS G}{op:Op}{v:AV G}{gs:List Bool}{d:Option Tmp}{ty:TypeId}{ps:String}{af:Array Edge}{g:Option (Nat×Bool)}(hp:pvA tt zt C S [] op=some (gs,v))(hg:∀b∈gs,b=true):SK P ⟨d,op,ty,ps,af,g⟩ C S S v:=by
 intro c N ρ J HK X a w next Q h hk
 obtain⟨u,h1,h2⟩:=ZB (tt:=tt) (zt:=zt) (d:=d) (ty:=ty) (ps:=ps) (af:=af) (g:=g) h (by simp) hp hg;exact h2 next Q λw' hs=>hk ρ J [] w' u (bT.gL _ _) (λ_ h=>h) h1 (h.since hs)
theorem zw{all:Array Oper}{o:Oper}{a:Act}{j dj:Nat}{w:Bool}(hg:o.guard=some (j,w))(hd:Lv all j=some dj):(Region.wanted o (yielded all a.tmps)=true)↔a.tmps[dj]? =some (.bool w):=by
 have:yielded all a.tmps j=match a.tmps[dj]? with
   |some (.bool b)=>some b
   |_ =>none:=by
  unfold Lv at hd;simp only[yielded,hd];rfl
 simp only[Region.wanted,hg,this];cases h:a.tmps[dj]? with
 |none=>simp
 |some v=>cases v<;>simp
theorem Yr{tt:TT P G}{zt:ZT P G}{all:Array Oper}{r:List Oper}{o:Oper}{S S2 S3:AS G}{v:AV G}{e:Ex G}{j dj:Nat}{w g:Bool}{gs:List Bool}(hg:o.guard=some (j,w))(hd:Lv all j=some dj)(he:TA C S 8 dj w=some g)(hp:pvA tt zt C S (chain C S 8 dj w) o.op=some (gs,v))(GK:g=true->∀b∈gs,b=true)
  (hq:yC N C o.dst (.gd dj w v) S=some S2)(h2:US P N C (.ops all r) S2 S3 e):US P N C (.ops all (o::r)) S S3 e:=by
 intro c ρ J HK X a wd Q hr hQ;refine wpListIn_step λK hK=>?_;have hwi:=zw (a:=a) hg hd;have hge:=Vn hr 8 dj w g he;have R5:=qS hq;have hQ':∀a' w',Rl c N ρ J HK X C S2 a' w'->wpListIn (FA c.ro) 0 P all Q r a' w':=λa' w' h3=>h2 c ρ J HK X a' w' Q h3 (hQ.fE (Y:=[]) (bT.gL _ _) (λ_ h=>h) (by omega));obtain⟨d,op,ty,ps,af,gg⟩:=o;by_cases hw:a.tmps[dj]? =some (.bool w)
 ·rw[aoU (hwi.2 hw)]
  have hch:=Rt hr 8 dj w hw;obtain⟨u,k1,k2⟩:=ZB (tt:=tt) (zt:=zt) (d:=d) (ty:=ty) (ps:=ps) (af:=af) (g:=gg) hr hch hp (GK (hge.1 hw));refine k2 K Q λw' hs=>hK _ _ (hQ' _ _ ((hr.since hs).put hq ⟨λ_ =>k1,λh=>absurd hw h⟩))
 ·have:Region.wanted (⟨d,op,ty,ps,af,gg⟩:Oper) (yielded all a.tmps)=false:=by
   cases hb:Region.wanted (⟨d,op,ty,ps,af,gg⟩:Oper) (yielded all a.tmps)with
   |true=>exact absurd (hwi.1 hb) hw
   |false=>rfl
  rw[aoV (by rw[this];simp)];exact⟨λ_ _ =>trivial,hK _ _ (hQ' _ _ (hr.put hq ⟨λh=>absurd h hw,λ_ =>rfl⟩))⟩
theorem R8.afo{all:Array Oper}{o:Oper}{S:AS G}{j dj:Nat}{w:Bool}(hg:o.guard=some (j,w))(hd:Lv all j=some dj)(hk:gkn C S 8 dj w=some true):R8 N all C S o:=λ_ _ _ _ _ _ _ h=>(zw hg hd).2 ((Pb h 8 dj w true hk).2 rfl)
theorem acD{all:Array Oper}{r:List Oper}{o:Oper}{S S2 S3:AS G}{e:Ex G}{j dj:Nat}{w:Bool}(hg:o.guard=some (j,w))(hd:Lv all j=some dj)(hk:gkn C S 8 dj w=some false)(hq:yC N C o.dst .YA S=some S2)(h2:US P N C (.ops all r) S2 S3 e):US P N C (.ops all (o::r)) S S3 e:=by
 intro c ρ J HK X a wd Q hr hQ;refine wpListIn_step λK hK=>?_;have R5:=qS hq;have hw:¬a.tmps[dj]? =some (.bool w):=λq=>by have:=(Pb hr 8 dj w false hk).1 q;cases this
 have:Region.wanted o (yielded all a.tmps)=false:=by
  cases hb:Region.wanted o (yielded all a.tmps)with
  |true=>exact absurd ((zw hg hd).1 hb) hw
  |false=>rfl
 rw[aoV (by rw[this];simp)];exact⟨λ_ _ =>trivial,hK _ _ (h2 c ρ J HK X _ _ Q (hr.put hq ⟨_,rfl⟩) (hQ.fE (Y:=[]) (bT.gL _ _) (λ_ h=>h) (by omega)))⟩
theorem Uq{cf:Cf}{S S3:AS G}{e:Ex G}{j k:Nat}{b:Bool}(hk:Nw C S 8 j=some (k,b))(h:US P N C cf {S with F:=(k, .kb b)::S.F} S3 e):US P N C cf S S3 e:=by
 intro c ρ J HK X a w Q hr hq;have hb:=Rb hr 8 j k b hk;refine h c ρ J HK X a w Q ⟨hr.tm,hr.df,hr.si,λd v e=>?_,hr.fc,hr.kc,hr.hp,hr.kn,hr.fr⟩ hq;simp only[ga]at e;cases hd:Nat.beq k d with
 |true=>rw[hd]at e;cases e;obtain rfl:=aoW hd;exact⟨_,hb,rfl⟩
 |false=>rw[hd]at e;exact hr.fs d v e
def tu(P:Program){Z:Type}(rec:WT G Z):Prop:=∀(N:Nat) (cp:List Nat) (C:CC G) (cf:Cf) (S:AS G) (K:Ex G->AS G->Option Z) (z:Z),rec N cp C cf S K=some z->∃e S',K e S'=some z/\S.nx<=S'.nx/\US P N C cf S S' e
section
variable {Z:Type} {tb:Ba P G} {rec:WT G Z} {cp:List Nat} {all:Array Oper} {r:List Oper} {K:Ex G->AS G->Option Z} {z:Z}
theorem jb(dy:tu P rec){o:Oper}{S S1:AS G}{v:AV G}(hg:R8 N all C S o)(hk:SK P o C S S1 v)(hn:S.nx<=S1.nx)(h:oR rec N cp C all r o.dst v S1 K=some z):∃e S',K e S'=some z/\S.nx<=S'.nx/\US P N C (.ops all (o::r)) S S' e:=by
 unfold oR at h;split at h
 ·rename_i S2 hp
  cases hb:D3 v with
  |false=>rw[hb]at h;cases h
  |true=>rw[hb]at h;obtain⟨e,S3,h1,h2,h3⟩:=dy _ _ _ _ _ _ _ h;have:=qS hp;exact⟨e,S3,h1,by omega,acH hg hk hp h3 hn λj w x q=>by rw[q]at hb;cases hb⟩
 ·cases h
theorem Vq{J:World->Prop}{ρ:bT}:∀{v:AV G} {i:Nat} {us:List Value} {d:Nat} {x:AV G},rl J ρ v us->ga (Cb i v) d=some x->∃u,i<=d/\us[d-i]? =some u/\rv J ρ x u:=by
 intro v
 induction v with
 |cons a b _ uO=>
  intro i us d x hr h;obtain⟨u,q,rfl,h1,h2⟩:=hr;simp only[Cb,ga]at h;cases hb:Nat.beq i d with
  |true=>rw[hb]at h;cases h;obtain rfl:=aoW hb;exact⟨u,Nat.le_refl _,by simp,h1⟩
  |false=>rw[hb]at h;obtain⟨u',k1,k2,k3⟩:=uO h2 h;refine⟨u',by omega,?_,k3⟩;rw[show d-i=(d-(i+1))+1 from by omega];simpa using k2
 |_ =>intro i us d x _ h;cases h
theorem sM{J:World->Prop}{ρ:bT}:∀{a b:AV G} {l m:List Value},uN a=true->rl J ρ a l->rl J ρ b m->rl J ρ (rO a b) (l++m):=by
 intro a
 induction a with
 |cons x y _ uO=>intro b l m hl h1 h2;obtain⟨u,q,rfl,k1,k2⟩:=h1;exact⟨u,q++m,rfl,k1,uO hl k2 h2⟩
 |nil=>intro b l m _ h1 h2;have:l=[]:=h1;subst this;exact h2
 |_ =>intro b l m hl;cases hl
theorem U8{J:World->Prop}{ρ:bT}:∀{v:AV G} {us:List Value},uN v=true->rl J ρ v us->us.length=HA v:=by
 intro v
 induction v with
 |cons x y _ uO=>intro us hl h;obtain⟨u,q,rfl,_,k2⟩:=h;simp[HA,uO hl k2]
 |nil=>intro us _ h;have:us=[]:=h;subst this;rfl
 |_ =>intro us hl;cases hl
theorem Uz{J:World->Prop}{ρ:bT}{v:AV G}{u:Value}(h:rv J ρ v u)(t:Array Value):rf J ρ t v u:=by
 cases v with
 |gd j w v=>exact h.elim
 |_ =>exact h
theorem aaU{k:Nat}{fi:FI}(h:Ll P k=some fi):∃fn,P.funcs[k]? =some fn/\fn.body=some fi.code/\fn.ntmps=fi.N/\fn.results.toList=fi.Jr/\(fn.name== "runtime.NumGoroutine")=false:=by
 unfold Ll at h;split at h
 ·rename_i fn h1
  split at h
  ·rename_i code h2
   cases hb:(fn.name== "runtime.NumGoroutine")with
   |true=>rw[hb]at h;cases h
   |false=>rw[hb]at h;cases h;exact⟨fn,h1,h2,rfl,rfl,hb⟩
  ·cases h
 ·cases h
theorem UD{tt:TT P G}{c:Cx}{ρ:bT}{J:World->Prop}{HK X:List aO}{S:AS G}{a:Act}{w:World}{r:ResultVar}{v:AV G}(h:Rl c N ρ J HK X C S a w)(e:ac5 tt C S r=some v):∃u,(xg a.tmps r).run P w= .ok u w/\rv J ρ v u:=by
 have hE:=gk h (ch:=[]) (by simp);have aoL:∀{t:Nat} {x:AV G},mK C S [] (.tmp t)=some x->a.tmps.getD t undef=a.eval (.tmp t):=λ_ =>rfl;cases r with
 |tmp t=>exact⟨a.eval (.tmp t),rfl,hE.ok _ _ e⟩
 |cell t ty=>
  simp only[ac5]at e;split at e
  ·rename_i r hx
   split at e
   ·rename_i T cc ho
    cases hb:A6 tt ty cc with
    |false=>rw[hb]at e;cases e
    |true=>
     rw[hb]at e;cases e;obtain⟨HS,_,hst,hm⟩:=h.st;obtain⟨y,hy,b,u,m1,rfl,m3⟩:=hm.ob _ _ ho;obtain⟨b',o',e1,e2,_⟩:=xk (hE.ok _ _ hx);have eb:b'=b/\o'=0:=by rcases e1 with h1|⟨n,cap,_,_,_,_,h1,_⟩<;>rw[h1]at m1<;>simp[fW]at m1;exact m1
     obtain⟨rfl,rfl⟩:=eb;have hcell:=λj=>yp (hst.hp.holds _ hy) j;have hrun:∀u',(loadVar ty ⟨b',0,none⟩).run P w= .ok u' w->(xg a.tmps (.cell t ty)).run P w= .ok u' w:=λu' hu=>by have e3:a.tmps.getD t undef=fW b' 0:=e2;simp only[xg,e3,asAddr,Sem.run_bind,Sem.run_pure,Result.andThen_ok,hu]
     rcases Lo hb m3 with⟨k1,k2,_⟩|⟨n,k1,k2,_,k4⟩
     ·haveI:=k1
      refine⟨u,hrun u (oD ?_),m3⟩;rw[hcell,k2];rfl
     ·haveI:=k1
      have e4:u= .agg u.cells.toList.toArray:=by rw[Array.toArray_toList];exact k4
      refine⟨.agg u.cells.toList.toArray,hrun _ (oE (n:=n) (by simpa using k2) λj v hv=>?_),by rw[← e4];exact m3⟩;rw[Nat.zero_add,hcell];exact hv
   ·cases e
  ·cases e
theorem ac6{tt:TT P G}{c:Cx}{ρ:bT}{J:World->Prop}{HK X:List aO}{S:AS G}{a:Act}{w:World}(h:Rl c N ρ J HK X C S a w):∀{l:List ResultVar} {v:AV G},ac7 tt C S l=some v->∃us,(l.mapM (xg a.tmps)).run P w= .ok us w/\rl J ρ v us/\us.length=l.length:=by
 intro l
 induction l with
 |nil=>intro v e;cases e;exact⟨[],by simp,rfl,rfl⟩
 |cons r q ih=>
  intro v e;simp only[ac7]at e;split at e
  ·rename_i v1 l1 h1 h2
   cases e;obtain⟨u,k1,k2⟩:=UD h h1;obtain⟨us,k3,k4,k5⟩:=ih h2;exact⟨u::us,by simp only[List.mapM_cons,Sem.run_bind,k1,Sem.run_pure,Result.andThen_ok,k3],⟨_,_,rfl,k2,k4⟩,by simp[k5]⟩
  ·cases e
theorem UE{tt:TT P G}{c:Cx}{ρ:bT}{J:World->Prop}{HK X:List aO}{S:AS G}{a:Act}{w:World}{fn:Func}{l:List ResultVar}{v:AV G}(h:Rl c N ρ J HK X C S a w)(hf:fn.results.toList=l)(e:Jq tt C S l=some v):∃u,(results fn a.tmps).run P w= .ok u w/\rv J ρ v u:=by
 unfold Jq at e;have key:∀us,(l.mapM (xg a.tmps)).run P w= .ok us w->(results fn a.tmps).run P w= .ok (Ez us) w:=λus hk=>by
  have hr:fn.results=l.toArray:=by rw[← hf]
  show(do let vs ← fn.results.mapM (xg a.tmps);pure (if h:vs.size=1 then vs[0]else .tuple vs):Sem Value).run P w=_;rw[hr,List.mapM_toArray];simp only[Sem.run_bind,Sem.run_map,hk,Result.andThen_ok]
  match us with
  |[]=>simp[Ez]
  |[v]=>simp[Ez]
  |u::v::r=>simp[Ez]
 split at e
 ·rename_i r
  obtain⟨u,k1,k2⟩:=UD h e;exact⟨u,key [u] (by simp only[List.mapM_cons,List.mapM_nil,Sem.run_bind,k1,Sem.run_pure,Result.andThen_ok]),k2⟩
 ·rename_i hne
  split at e
  ·rename_i x hx
   cases e;obtain⟨us,k1,k2,k3⟩:=ac6 h hx;refine⟨Ez us,key _ k1,us,?_,k2⟩
   match us,k3 with
   |[],_ =>rfl
   |[v],k3=>
    exfalso
    match l,k3,hne with
    |[r],_,hne=>exact hne r rfl
   |u::v::r,_ =>rfl
  ·cases e
theorem ZX{D:List (AV G)}(h:ZY D=true):D=[]:=by cases D with
 |nil=>rfl
 |cons _ _ =>cases h
theorem QT{fn:Func}{R:Ending->World->Prop}{c:Cx}{ρ:bT}{J:World->Prop}{HK X:List aO}{F:Fr G}{nx:Nat}{C:CC G}{N:Nat}(hC:dfC C=[]):∀(D:List (AV G)) {O O2:Os G} {a:Act} {w:World},abd D O=some O2->Rl c N ρ J HK X C ⟨F,O,nx,D⟩ a w->
  (∀w2,Rl c N ρ J HK X C ⟨F,O2,nx,[]⟩ {a with defers:=[]} w2->LeavesInM (FA none) 0 P fn a.tmps R [] .returning w2)->LeavesInM (FA none) 0 P fn a.tmps R a.defers .returning w:=by
 intro D
 induction D with
 |nil=>intro O O2 a w e h k;have df:=h.df;rw[hC]at df;cases e;obtain⟨t,d⟩:=a;cases df;exact k w h
 |cons v D ih=>
  intro O O2 a w e h k;unfold abd at e;split at e
  ·rename_i h0;cases h0
  ·rename_i O' r D' h0
   obtain⟨rfl,rfl⟩:=List.cons.inj h0;split at e
   ·rename_i ho
    obtain⟨tm,df,si,fs,fc,kc,⟨HS,q1,q3⟩,kn,fr⟩:=h;rw[hC]at df;obtain⟨t,d⟩:=a;cases df with
    |cons hd k2=>
    rename_i D0;obtain⟨_,b,hb,rfl⟩:=hd;obtain⟨kk,x,k1,⟨n,o,m1,rfl,m3⟩,k3⟩:=q1.del ho;rw[hb]at m1;have m1:b=n:=by cases m1;rfl
    subst m1;have m3:o= .deferred (some []):=m3;subst m3;have q4:=q3.qf (xm k1 _);have hm:aO.obj b (.deferred (some []))∈(aO.obj b (.deferred (some []))::(HS.eraseIdx kk++(HK++X))):=List.mem_cons_self;have hd:w.heap[b]? =some (.deferred (some [])):=q4.holds _ hm;have hlt:=(ao2.1 hd).1;have qI:bG [b] w (w.putObj b (.deferred none)):=⟨rfl,rfl,rfl,by simp[World.putObj],λk _ hk=>World.putObj_heap_other (by simpa using hk)⟩;refine⟨by simp, .inl ⟨b,_,rfl,run_takeDeferred hd,?_⟩⟩;refine ih (a:=⟨t,D0⟩) e ⟨tm,by rw[hC];exact k2,⟨si.s.store q4 hm (by simp[aO.eL]) qI,si.n⟩,fs,fc,kc,⟨HS.eraseIdx kk,k3,?_⟩,kn,fr⟩ k;have q5:=q4.set (k:=0) (r':= .obj b (.deferred none)) rfl qI.size (λj hj hne=>qI.block j hj hne) (World.putObj_heap_same hlt) si.s.size (λb' hb'=>by
     have e:b'=b:=by simpa[aO.eL]using hb'
     subst e;exact⟨.inl (by simp[aO.eL]),by rw[World.putObj];simpa using hlt⟩)
    exact q5.sub (List.sublist_cons_self _ _)
   ·cases e
  ·cases e
theorem ah3{S S2:AS G}(h:ah4 S=some S2):∃O2,abd S.D S.O=some O2/\S2=⟨S.F,O2,S.nx,[]⟩:=by
 unfold ah4 at h;split at h
 ·rename_i O hO;cases h;exact⟨O,hO,rfl⟩
 ·cases h
def exU(J:World->Prop)(ρ:bT):Ex G->FrameMode->Prop
 | .o5, .returning=>True
 | .ret, .returning=>True
 | .zP v, .panicking ch=>∃u,ch=[{v:=u,recovered:=false}]/\rv J ρ v u
 |_,_ =>False
theorem VA{J:World->Prop}{ρ:bT}{e:Ex G}{uw:FrameMode}(h:exU J ρ e uw)(he:exE e=true):uw= .returning:=by
 cases e<;>first|cases he|skip
 all_goals (cases uw<;>first|rfl|exact h.elim)
theorem adP{fn:Func}{R:Ending->World->Prop}{c:Cx}{ρ:bT}{J:World->Prop}{HK X:List aO}{F:Fr G}{nx:Nat}{C:CC G}{N:Nat}{ek:Nat->List (Ek P G)}(hC:dfC C=[]):∀(D:List (AV G)) {e e':Ex G} {O O2:Os G} {a:Act} {w:World} {uw:FrameMode},sL ek e D O=some (e',O2)->
  Rl c N ρ J HK X C ⟨F,O,nx,D⟩ a w->exU J ρ e uw->(∀w2 uw2,exU J ρ e' uw2->Rl c N ρ J HK X C ⟨F,O2,nx,[]⟩ {a with defers:=[]} w2->LeavesInM (FA none) 0 P fn a.tmps R [] uw2 w2)->LeavesInM (FA none) 0 P fn a.tmps R a.defers uw w:=by
 intro D
 induction D with
 |nil=>
  intro e e' O O2 a w uw h hr hu k;have df:=hr.df;rw[hC]at df;have h:some (e,O)=some (e',O2):=by unfold sL at h;exact h
  cases h;obtain⟨t,d⟩:=a;cases df;exact k w uw hu hr
 |cons v D ih=>
  intro e e' O O2 a w uw h hr hu k;cases v<;>first|(simp[sL]at h;done)|skip
  case ptr r p=>
   cases p with
   |cons _ _ =>simp[sL]at h
   |nil=>
   simp only[sL]at h;split at h
   ·rename_i ho he
    have huw:=VA hu he;subst huw;obtain⟨tm,df,si,fs,fc,kc,⟨HS,q1,q3⟩,kn,fr⟩:=hr;rw[hC]at df;obtain⟨t,d⟩:=a;cases df with
    |cons hd k2=>
    rename_i D0;obtain⟨_,b,hb,rfl⟩:=hd;obtain⟨kk,x,k1,⟨n,o,m1,rfl,m3⟩,k3⟩:=q1.del ho;rw[hb]at m1;have m1:b=n:=by cases m1;rfl
    subst m1;have m3:o= .deferred (some []):=m3;subst m3;have q4:=q3.qf (xm k1 _);have hm:aO.obj b (.deferred (some []))∈(aO.obj b (.deferred (some []))::(HS.eraseIdx kk++(HK++X))):=List.mem_cons_self;have hd:w.heap[b]? =some (.deferred (some [])):=q4.holds _ hm;have hlt:=(ao2.1 hd).1;have qI:bG [b] w (w.putObj b (.deferred none)):=⟨rfl,rfl,rfl,by simp[World.putObj],λk _ hk=>World.putObj_heap_other (by simpa using hk)⟩;refine⟨by simp, .inl ⟨b,_,rfl,run_takeDeferred hd,?_⟩⟩;refine ih (a:=⟨t,D0⟩) h ⟨tm,by rw[hC];exact k2,⟨si.s.store q4 hm (by simp[aO.eL]) qI,si.n⟩,fs,fc,kc,⟨HS.eraseIdx kk,k3,?_⟩,kn,fr⟩ hu k;have q5:=q4.set (k:=0) (r':= .obj b (.deferred none)) rfl qI.size (λj hj hne=>qI.block j hj hne) (World.putObj_heap_same hlt) si.s.size (λb' hb'=>by
     have e:b'=b:=by simpa[aO.eL]using hb'
     subst e;exact⟨.inl (by simp[aO.eL]),by rw[World.putObj];simpa using hlt⟩)
    exact q5.sub (List.sublist_cons_self _ _)
   ·cases h
  case cons vf l=>
   cases vf<;>first|(simp[sL]at h;done)|skip
   rename_i ff fa cc;cases ff<;>first|(simp[sL]at h;done)|skip
   rename_i kf;cases fa<;>first|(simp[sL]at h;done)|skip
   simp only[sL]at h;split at h
   ·rename_i q qs r hek ali
    split at h
    ·rename_i T' c0 ho
     cases hb:(Nat.beq q.k kf&&(uN l&&uN cc))with
     |false=>rw[hb]at h;cases h
     |true=>
      rw[hb]at h;simp only[aoX]at hb;obtain⟨hb1,hl1,P0⟩:=hb;obtain rfl:=aoW hb1;simp only[cond_true]at h;obtain⟨tm,df,si,fs,fc,kc,⟨HS,q1,q3⟩,kn,fr⟩:=hr;rw[hC]at df;obtain⟨t,d⟩:=a;cases df with
      |cons hd k2=>
      rename_i D0;obtain⟨f1,c1,l1,hf1,hc1,hl3,rfl⟩:=hd;have hf1:f1=[]:=hf1;subst hf1;have hv:=sM hl1 hl3 hc1;rw[ali]at hv;obtain⟨u,us,e1,hpu,aaC⟩:=hv;have aaC:us=[]:=aaC;subst aaC;obtain⟨⟨b0,o0,hpb,e2⟩,_⟩:=hpu;obtain⟨kk,x,k1,⟨b,u0,m1,rfl,m3⟩,k3⟩:=q1.set ho;have hub:u=fW b 0:=by
       have e2:=(List.cons.inj e2).1;rcases hpb with hpb|⟨_,_,_,_,_,_,_,hp,_⟩
       ·rw[m1]at hpb
        cases hpb;rw[e2];rfl
       ·cases hp
      subst hub;have hent:∀w,(invoke (Deferred.target {target:= .fn (.func q.k) c1.toArray,args:=([]++l1).toArray}) (Deferred.args {target:= .fn (.func q.k) c1.toArray,args:=([]++l1).toArray})).run P w= .ok (.enter q.k #[fW b 0]) w:=λw=>by
       have:([]++l1).toArray++c1.toArray= #[fW b 0]:=by rw[show(#[fW b 0]:Array Value)=[fW b 0].toArray from rfl, ← e1];simp
       simp only[invoke,this];exact q.ok.enter _ _
      have W9:aO.cells b T' u0.cells.toList∈HS++(HK++X):=ao1 _ (List.mem_of_getElem? k1);have hcell:w.heap[b]? =some (.cells u0.cells.toList.toArray T' (0,0)):=q3.holds _ W9;have ret:∀{e2:Ex G},sL ek e2 D O=some (e',O2)->exU J ρ e2 .returning->LeavesInM (FA none) 0 P fn t R ({target:= .fn (.func q.k) c1.toArray,args:=([]++l1).toArray}::D0) .returning w:=λ{e2} h2 hu2=>by refine⟨by simp, .inr ⟨by simp,_,_,q.k, #[fW b 0],rfl,hent w,λ_ _ =>trivial,?_⟩⟩;refine(q.ok.ret b w).mono λen u' w'=>?_;rintro⟨⟨v,rfl⟩,rfl,hs⟩;exact ih (a:=⟨t,D0⟩) h2 ⟨tm,by rw[hC];exact k2,si.ext hs,fs,fc,kc,⟨HS,q1,q3.ext hs⟩,kn,fr⟩ hu2 k
      split at h
      ·obtain rfl:=VA hu rfl;exact ret h hu
      ·obtain rfl:=VA hu rfl;exact ret h hu
      ·rename_i v
       split at h
       ·rename_i T x hpn
        cases hc:(Nat.beq q.T T&&isN c0.ncl q.n)with
        |false=>rw[hc]at h;cases h
        |true=>
         rw[hc]at h;simp only[aoX]at hc;obtain⟨hc1,hc2⟩:=hc;obtain rfl:=aoW hc1;simp only[cond_true]at h;have hlen:u0.cells.toList.length=q.n:=by
          cases hm:c0.ncl with
          |none=>rw[hm]at hc2;cases hc2
          |some m=>rw[hm]at hc2;obtain⟨u1,e3,h4,_⟩:=S9 hm m3;cases e3;rw[Array.length_toList,h4];exact aoW hc2
         cases uw<;>first|exact hu.elim|skip
         rename_i ch;obtain⟨up,rfl,PY⟩:=hu;have PY:up= .iface q.T (.int .i64 x):=by
          unfold aj9 at hpn;split at hpn
          ·cases hpn
           obtain⟨w1,e3,h4⟩:=PY;cases e3;have h4:[w1]=[.int .i64 x]:=h4;cases h4;rfl
          ·cases hpn
           obtain⟨w1,e3,h4⟩:=PY;cases e3;have h4:[w1]=[.int .i64 x]:=h4;cases h4;rfl
          ·cases hpn
         subst PY;refine⟨by simp, .inr ⟨by simp,_,_,q.k, #[fW b 0],rfl,hent w,λ_ _ =>trivial,?_⟩⟩;refine(q.ok.zP b T' _ x w hlen hcell).mono λen u' w'=>?_;rintro⟨⟨v,rfl⟩,hu,hsi,hb'⟩;obtain⟨u2,g1,g2⟩:=q.hv J ρ x;show LeavesInM (FA none) 0 P fn t R D0 (settle u') w';rw[hu];refine ih (e:= .ret) (a:=⟨t,D0⟩) h ⟨tm,by rw[hC];exact k2,⟨si.s.store q3 W9 (by simp[aO.eL]) hsi,si.n⟩,fs,fc,kc,⟨HS.set kk (.cells b T' u2.cells.toList),k3 _ _ ⟨b,u2,m1,rfl,g1⟩,?_⟩,kn,fr⟩ trivial k;have q5:=q3.set (k:=kk) (r':= .cells b T' u2.cells.toList) (z7 k1) hsi.size (λj hj hn=>hsi.block j hj (by simpa[aO.eL]using hn)) (by rw[g2];exact hb') si.s.size (λb' Mh=>by
          have e2:b'=b:=by simpa[aO.eL]using Mh
          subst e2;exact⟨.inl (by simp[aO.eL]),Nat.lt_of_lt_of_le (ao2.1 hcell).1 hsi.size⟩)
         have hkl:kk<HS.length:=(List.getElem?_eq_some_iff.1 k1).1;rwa[List.set_append_left _ _ hkl]at q5
       ·cases h
      ·cases h
    ·cases h
   ·cases h
theorem Xp{ek:Nat->List (Ek P G)}{i:Nat}{D:List (AV G)}{O O2:Os G}{e2:Ex G}(h:sL ek (.exit i) D O=some (e2,O2)):e2= .exit i:=by
 cases D with
 |nil=>
  have h:some ((.exit i:Ex G),O)=some (e2,O2):=by unfold sL at h;exact h
  cases h;rfl
 |cons v D=>
  exfalso;cases v<;>first|(simp[sL]at h;done)|skip
  case ptr r p=>
   cases p with
   |cons _ _ =>simp[sL]at h
   |nil=>simp only[sL,exE]at h;split at h<;>first|cases h|(rename_i he;cases he)
  case cons vf l=>
   cases vf<;>first|(simp[sL]at h;done)|skip
   rename_i ff fa cc;cases ff<;>first|(simp[sL]at h;done)|skip
   rename_i kf;cases fa<;>first|(simp[sL]at h;done)|skip
   simp only[sL]at h;split at h
   ·rename_i q qs r hek ali
    split at h
    ·cases hb:(Nat.beq q.k kf&&(uN l&&uN cc))with
     |false=>rw[hb]at h;cases h
     |true=>rw[hb]at h;cases h
    ·cases h
   ·cases h
theorem LJ{tt:TT P G}{c:Cx}{ρ:bT}{J:World->Prop}{HK X:List aO}{S S1 S2:AS G}{ek:Nat->List (Ek P G)}{e2:Ex G}{O2:Os G}{a:Act}{w:World}{k:Nat}{fi:FI}{aoT:AV G}{vs:List Value}{e1:Ex G}(hr:Rl c N ρ J HK X C S a w)(P3:Ll P k=some fi)(hl:uN aoT=true)(hn:HA aoT<=fi.N)(hv:rl J ρ aoT vs)
  (hU:US P fi.N [⟨[],y6 C,[]⟩] (.code fi.code) ⟨Cb 0 aoT,S.O,S.nx,[]⟩ S1 e1)(hX:sL ek e1 S1.D S1.O=some (e2,O2))(hS2:S2=⟨S1.F,O2,S1.nx,[]⟩)(he:(∃v,e2= .zP v)\/((e2= .o5\/e2= .ret)/\∃v,Jq tt [⟨[],y6 C,[]⟩] S2 fi.Jr=some v)):
  Calls P k vs.toArray w λen w'=>∃(ρ':bT) (J':World->Prop) (Y:List aO),ρ.to ρ' S.nx/\(∀w,J' w->J w)/\Rl c N ρ' J' HK (Y++X) C {S with O:=S2.O,nx:=S2.nx} a w'/\
   ((∃v u,e2= .zP v/\en= .panicked [{v:=u,recovered:=false}]/\rv J' ρ' v u)\/((e2= .o5\/e2= .ret)/\∃v u,Jq tt [⟨[],y6 C,[]⟩] S2 fi.Jr=some v/\en= .returned u/\rv J' ρ' v u)):=by
 obtain⟨fn,f1,f2,f3,f4,f5⟩:=aaU P3;obtain⟨HS,q1,q3⟩:=hr.hp;have hlen:=U8 hl hv;refine(callsIn_wide (n:=0)).1 (callsIn_of_wp_marks (F:=Fence.wide) f1 f2 trivial ?_);have hsz:(vs.toArray++Array.replicate (fn.ntmps-vs.toArray.size) undef).size=fi.N:=by simp;omega
 refine hU ⟨none,w,cm (HS++(HK++X))⟩ ρ J HK X _ w _ ⟨hsz, .nil,⟨bG.refl _ _,λ_ =>rfl⟩,λd x e=>?_,λy hy=>?_,λr o e=>?_,⟨HS,q1,?_⟩,hr.kn,hr.fr⟩ ?_
 ·obtain⟨u,_,k2,k3⟩:=Vq hv e
  refine⟨u,?_,Uz k3 _⟩;rw[Nat.sub_zero]at k2;have hlt:=(List.getElem?_eq_some_iff.1 k2).1;rw[Array.getElem?_append_left (by simpa using hlt)];simpa using k2
 ·simp at hy
  subst hy
  exactλd v e=>by cases e
 ·have e:ga (y6 C++[]) r=some o:=e
  rw[List.append_nil]at e;exact hr.kc r o e
 ·exact⟨q3.holds,λr hm b hb=>⟨.inl (bN.2 ⟨r,hm,hb⟩),(q3.own r hm b hb).2⟩,q3.apart⟩
 ·intro ρ' J' Y a' w' me k1 k2 k3 k4
  have hle:=k1.le hr.fr;have afx:∀w',Rl ⟨none,w,cm (HS++(HK++X))⟩ fi.N ρ' J' HK (Y++X) [⟨[],y6 C,[]⟩] S2 {a' with defers:=[]} w'->Rl c N ρ' J' HK (Y++X) C {S with O:=S2.O,nx:=S2.nx} a w':=λw' k4=>by obtain⟨HS1,p1,p3⟩:=k4.hp;refine⟨hr.tm,hr.df.up k2 hle,⟨hr.si.s.trans k4.si.s λb hb=>?_,hr.si.n⟩,hr.fs.up k2 hle,hr.fc.up k2 hle,hr.XO k2 hle,⟨HS1,p1,Vg q3 hr.si.size p3⟩,k4.kn,k4.fr⟩;obtain⟨q,hq,hqb⟩:=bN.1 hb;exact(q3.own q hq b hqb).1
  subst hS2;have fin:∀(uw:FrameMode),exU J' ρ' e1 uw->LeavesInM (FA none) 0 P fn a'.tmps (λen w'=>∃(ρ':bT) (J':World->Prop) (Y:List aO),ρ.to ρ' S.nx/\(∀w,J' w->J w)/\Rl c N ρ' J' HK (Y++X) C {S with O:=O2,nx:=S1.nx} a w'/\
    ((∃v u,e2= .zP v/\en= .panicked [{v:=u,recovered:=false}]/\rv J' ρ' v u)\/((e2= .o5\/e2= .ret)/\∃v u,Jq tt [⟨[],y6 C,[]⟩] ⟨S1.F,O2,S1.nx,[]⟩ fi.Jr=some v/\en= .returned u/\rv J' ρ' v u))) a'.defers uw w':=λuw hu=>by
   refine adP rfl S1.D hX k4 hu λw2 uw2 hu2 h2=>?_;rcases he with⟨v,rfl⟩|⟨he,v,hres⟩
   ·cases uw2<;>first|exact hu2.elim|skip
    obtain⟨u,rfl,hu3⟩:=hu2;exact⟨ρ',J',Y,k1,k2,afx w2 h2, .inl ⟨v,u,rfl,rfl,hu3⟩⟩
   ·have:uw2= .returning:=by rcases he with rfl|rfl<;>exact VA hu2 rfl
    subst this;obtain⟨u,r1,r2⟩:=UE (fn:=fn) h2 f4 hres;exact⟨u,r1,ρ',J',Y,k1,k2,afx w2 h2, .inr ⟨he,v,u,hres,rfl,r2⟩⟩
  cases e1 with
  |o5=>rw[oW k3];exact fin _ trivial
  |ret=>rw[J5 k3];exact fin _ trivial
  |zP v=>obtain⟨u,rfl,hu⟩:=VB k3;exact fin _ ⟨u,rfl,hu⟩
  |exit i=>have:=Xp hX;subst this;rcases he with⟨v,h⟩|⟨h|h,_⟩<;>cases h
theorem xy{a:Act}{w:World}{k:Nat}{f:Operand}{args:List Operand}{ats:Array TypeId}{fs cs us:List Value}{d:Option Tmp}{ty:TypeId}{ps:String}{af:Array Edge}{g:Option (Nat×Bool)}(hfn:∃fn,P.funcs[k]? =some fn/\fn.body.isSome=true/\(fn.name== "runtime.NumGoroutine")=false)(hf:a.eval f= .func (.func k) fs.toArray cs.toArray)(ha:args.map a.eval=us):
  (execOp a.eval ⟨d, .call ⟨.value f,args.toArray,ats⟩,ty,ps,af,g⟩).run P w= .ok (.enter k (fs++(us++cs)).toArray) w:=by
 obtain⟨fn,f1,f2,f5⟩:=hfn;have e3:fs.toArray++(args.toArray.map a.eval)++cs.toArray=(fs++(us++cs)).toArray:=by rw[← ha];simp
 have h1:fn.name≠ "runtime.NumGoroutine" :=by simpa using f5
 obtain⟨code,f2⟩:=Option.isSome_iff_exists.1 f2;simp only[execOp,resolve,hf,Deferred.ofValue,Sem.run_bind,Sem.run_pure,Result.andThen_ok,invoke,e3];simp[callFunc,f1,h1,f2,Go.mark]
theorem HJ{k:Nat}{fi:FI}(h:Ll P k=some fi):∃fn,P.funcs[k]? =some fn/\fn.body.isSome=true/\(fn.name== "runtime.NumGoroutine")=false:=by obtain⟨fn,f1,f2,_,_,f5⟩:=aaU h;exact⟨fn,f1,by rw[f2];rfl,f5⟩
theorem Ab{J:World->Prop}{ρ:bT}{k:Fn}{x y:AV G}{u:Value}(h:rv J ρ (.fn k x y) u):∃fs cs:List Value,u= .func k fs.toArray cs.toArray/\rl J ρ x fs/\rl J ρ y cs:=by obtain⟨fs,cs,e,h1,h2⟩:=h;cases e;exact⟨fs,cs,rfl,h1,h2⟩
theorem JY:∀{a b:AV G},uN a=true->uN b=true->uN (rO a b)=true:=by
 intro a
 induction a with
 |cons x y _ ih=>intro b h1 h2;exact ih h1 h2
 |nil=>intro b _ h2;exact h2
 |_ =>intro b h1;cases h1
theorem Uw{tt:TT P G}{S S1:AS G}{ek:Nat->List (Ek P G)}{e2:Ex G}{O2:Os G}{f:Operand}{args:Array Operand}{ats:Array TypeId}{k:Nat}{fst l cap v:AV G}{fi:FI}{e1:Ex G}{d:Option Tmp}{ty:TypeId}{ps:String}{af:Array Edge}{g:Option (Nat×Bool)}
  (hf:mK C S [] f=some (.fn (.func k) fst cap))(ha:TL (mK C S []) args.toList=some l)(P3:Ll P k=some fi)(h1:uN fst=true)(h2:uN l=true)(h3:uN cap=true)(hn:HA (rO fst (rO l cap))<=fi.N)
  (hU:US P fi.N [⟨[],y6 C,[]⟩] (.code fi.code) ⟨Cb 0 (rO fst (rO l cap)),S.O,S.nx,[]⟩ S1 e1)(hX:sL ek e1 S1.D S1.O=some (e2,O2))(he:e2= .o5\/e2= .ret)(hres:Jq tt [⟨[],y6 C,[]⟩] ⟨S1.F,O2,S1.nx,[]⟩ fi.Jr=some v):
  SK P ⟨d, .call ⟨.value f,args,ats⟩,ty,ps,af,g⟩ C S {S with O:=O2,nx:=S1.nx} v:=by
 intro c N ρ J HK X a w next Q hr hk
 have hE:=gk hr (ch:=[]) (by simp);obtain⟨fs,cs,e2,r1,r3⟩:=Ab (hE.ok _ _ hf);obtain⟨r2,_⟩:=Af hE ha;have hv:=sM h1 r1 (sM h2 r2 r3);have hent:=xy (P:=P) (w:=w) (d:=d) (ty:=ty) (ps:=ps) (af:=af) (g:=g) (ats:=ats) (HJ P3) e2 (rfl:args.toList.map a.eval=_);have hl:uN (rO fst (rO l cap))=true:=JY h1 (JY h2 h3);refine⟨λ_ _ =>trivial,?_⟩;rw[Oper.semAt_eq _ _ _ (by simp)];rw[show args.toList.toArray=args from Array.toArray_toList]at hent;rw[hent];refine⟨λh=>by simp at h,ot c.ro ?_⟩;have zc:=LJ (tt:=tt) hr P3 hl hn hv hU hX rfl (.inr ⟨he,v,hres⟩);intro cs';obtain⟨en,w',fr,⟨ρ',J',Y,k1,k2,k3,k4⟩,rest⟩:=zc cs';refine⟨en,w',fr,?_,rest⟩;rcases k4 with⟨v',u,q1,_⟩|⟨_,v',u,q1,rfl,q3⟩
 ·rcases he with he|he<;>rw[he]at q1<;>cases q1
 ·rw[hres]at q1
  cases q1;exact hk ρ' J' Y w' u k1 k2 q3 k3
theorem Yu{tt:TT P G}{all:Array Oper}{r:List Oper}{S S1:AS G}{ek:Nat->List (Ek P G)}{e1:Ex G}{O2:Os G}{f:Operand}{args:Array Operand}{ats:Array TypeId}{k:Nat}{fst l cap v:AV G}{fi:FI}{d:Option Tmp}{ty:TypeId}{ps:String}{af:Array Edge}{g:Option (Nat×Bool)}
  (hw:R8 N all C S ⟨d, .call ⟨.value f,args,ats⟩,ty,ps,af,g⟩)(hf:mK C S [] f=some (.fn (.func k) fst cap))(ha:TL (mK C S []) args.toList=some l)(P3:Ll P k=some fi)(h1:uN fst=true)(h2:uN l=true)(h3:uN cap=true)(hn:HA (rO fst (rO l cap))<=fi.N)
  (hU:US P fi.N [⟨[],y6 C,[]⟩] (.code fi.code) ⟨Cb 0 (rO fst (rO l cap)),S.O,S.nx,[]⟩ S1 e1)(hX:sL ek e1 S1.D S1.O=some (.zP v,O2)):
  US P N C (.ops all (⟨d, .call ⟨.value f,args,ats⟩,ty,ps,af,g⟩::r)) S {S with O:=O2,nx:=S1.nx} (.zP v):=by
 intro c ρ J HK X a w Q hr hq;refine wpListIn_step λK hK=>?_;rw[aoU (hw c ρ J HK X a w hr)];have hE:=gk hr (ch:=[]) (by simp);obtain⟨fs,cs,e2,r1,r3⟩:=Ab (hE.ok _ _ hf);obtain⟨r2,_⟩:=Af hE ha;have hv:=sM h1 r1 (sM h2 r2 r3);have hent:=xy (P:=P) (w:=w) (d:=d) (ty:=ty) (ps:=ps) (af:=af) (g:=g) (ats:=ats) (HJ P3) e2 (rfl:args.toList.map a.eval=_);have hl:uN (rO fst (rO l cap))=true:=JY h1 (JY h2 h3);refine⟨λ_ _ =>trivial,?_⟩;rw[Oper.semAt_eq _ _ _ (by simp)];rw[show args.toList.toArray=args from Array.toArray_toList]at hent;rw[hent];refine⟨λh=>by simp at h,ot c.ro ?_⟩;have zc:=LJ (tt:=tt) hr P3 hl hn hv hU hX rfl (.inl ⟨v,rfl⟩);intro cs';obtain⟨en,w',fr,⟨ρ',J',Y,k1,k2,k3,k4⟩,rest⟩:=zc cs';refine⟨en,w',fr,?_,rest⟩;rcases k4 with⟨v',u,q1,rfl,q3⟩|⟨q1,_⟩
 ·cases q1
  exact hq ρ' J' Y a w' _ k1 k2 ⟨u,rfl,q3⟩ k3
 ·rcases q1 with q1|q1<;>cases q1
theorem Yq{all:Array Oper}{r:List Oper}{S S3:AS G}{f:Operand}{args:Array Operand}{ats:Array TypeId}{k:Nat}{x y l:AV G}{e:Ex G}{ty:TypeId}{ps:String}{af:Array Edge}{g:Option (Nat×Bool)}(hw:R8 N all C S ⟨none, .defer ⟨.value f,args,ats⟩,ty,ps,af,g⟩)(hf:mK C S [] f=some (.fn (.func k) x y))(ha:TL (mK C S []) args.toList=some l)(hro:K0 (y6 C)=true)
  (h2:US P N C (.ops all r) {S with D:= .cons (.fn (.func k) x y) l::S.D} S3 e):US P N C (.ops all (⟨none, .defer ⟨.value f,args,ats⟩,ty,ps,af,g⟩::r)) S S3 e:=by
 intro c ρ J HK X a w Q hr hq;refine wpListIn_step λK hK=>?_;rw[aoU (hw c ρ J HK X a w hr)];have hE:=gk hr (ch:=[]) (by simp);obtain⟨fs,cs,e2,r1,r3⟩:=Ab (hE.ok _ _ hf);obtain⟨r2,_⟩:=Af hE ha;refine⟨λ_ _ =>trivial,?_⟩;have e0:(FA c.ro).round=none:=by rw[hr.si.n hro]
 rw[e0,Oper.semAt_none];have hrun:(execOp a.eval ⟨none, .defer ⟨.value f,args,ats⟩,ty,ps,af,g⟩).run P w= .ok (.defer {target:= .fn (.func k) cs.toArray,args:=(fs++args.toList.map a.eval).toArray}) w:=by simp[execOp,resolve,e2,Deferred.ofValue]
 rw[hrun];exact hK _ _ (h2 c ρ J HK X {a with defers:=_ ::a.defers} w Q ⟨hr.tm, .cons ⟨fs,cs,_,r1,r3,r2,rfl⟩ hr.df,hr.si,hr.fs,hr.fc,hr.kc,hr.hp,hr.kn,hr.fr⟩ hq)
theorem Yp{all:Array Oper}{r:List Oper}{S:AS G}{x:Operand}{t:Nat}{v:AV G}{d:Option Tmp}{ty:TypeId}{ps:String}{af:Array Edge}{g:Option (Nat×Bool)}(hw:R8 N all C S ⟨d, .panic x,ty,ps,af,g⟩)(hx:mK C S [] x=some (.nY t v)):US P N C (.ops all (⟨d, .panic x,ty,ps,af,g⟩::r)) S S (.zP (.nY t v)):=by
 intro c ρ J HK X a w Q hr hq;refine wpListIn_step λK hK=>?_;rw[aoU (hw c ρ J HK X a w hr)];have hE:=gk hr (ch:=[]) (by simp);obtain⟨u,e,h1⟩:=hE.ok _ _ hx;have e:=(List.cons.inj e).1;refine⟨λ_ _ =>trivial,?_⟩;rw[Oper.semAt_eq _ _ _ (by simp)];have:(execOp a.eval ⟨d, .panic x,ty,ps,af,g⟩).run P w= .halt (.panic (.iface t u)) w:=by simp[execOp,e,Instr.panic]
 rw[this];exact hq.here hr ⟨_,rfl,u,rfl,h1⟩
theorem aaQ{s:Sh}{v:AV G}{g g':GS G}{x:HL G (br s)}(h:qK s v g=some (x,g')):g.nx<=g'.nx:=by
 induction s generalizing v g g' with
 |v t=>obtain⟨y,_,_,rfl⟩:=aaP h;exact Nat.le_refl _
 |unk n=>rw[(Pf h).1];exact Nat.le_refl _
 |row e sz t=>
  cases v<;>unfold qK at h<;>(try dsimp only at h)<;>try (cases h;done)
  case row r=>
   split at h
   ·rename_i e' sz' t' xs ho
    cases hb:(Nat.beq e e'&&Nat.beq sz sz')with
    |false=>rw[hb]at h;cases h
    |true=>
     rw[hb]at h;simp only[cond_true]at h;by_cases hs:t'.cQ t=true
     ·rw[dif_pos hs]at h;obtain⟨_,rfl⟩:=cO h;exact Nat.le_refl _
     ·rw[dif_neg hs]at h;cases h
   ·cases h
  case pI=>
   cases hb:Nat.beq (t.L G).n sz with
   |false=>rw[hb]at h;cases h
   |true=>rw[hb]at h;obtain⟨_,rfl⟩:=cO h;exact Nat.le_succ _
 |box T s ih=>
  cases v<;>unfold qK at h<;>(try dsimp only at h)<;>try (cases h;done)
  case ptr r p=>
   cases p with
   |cons _ _ =>simp at h
   |nil=>
    simp only at h;split at h
    ·rename_i T' cc ho
     cases hb:Nat.beq T T' with
     |false=>rw[hb]at h;cases h
     |true=>rw[hb]at h;exact ih (g:=⟨g.th++[r],F5 g.O r,g.nx⟩) h
    ·cases h
 |cQ i=>
  cases v<;>unfold qK at h<;>(try dsimp only at h)<;>try (cases h;done)
  case ptr r p=>
   cases p with
   |cons _ _ =>simp at h
   |nil=>
    simp only at h;split at h
    ·rename_i r' ht
     cases hb:Nat.beq r r' with
     |false=>rw[hb]at h;cases h
     |true=>rw[hb]at h;rw[(cO h).2];exact Nat.le_refl _
    ·cases h
 |fn f a c pL FU=>
  cases v<;>unfold qK at h<;>(try dsimp only at h)<;>try (cases h;done)
  case fn f' y z=>
   cases hb:Cc f f' with
   |false=>rw[hb]at h;cases h
   |true=>
    rw[hb]at h;simp only[cond_true]at h;split at h
    ·rename_i p g1 h1
     split at h
     ·rename_i q g2 h2
      obtain⟨_,rfl⟩:=cO h;exact Nat.le_trans (pL h1) (FU h2)
     ·cases h
    ·cases h
 |cons a b pL uO=>
  cases v<;>unfold qK at h<;>(try dsimp only at h)<;>try (cases h;done)
  case cons y z=>
   split at h
   ·rename_i p g1 h1
    split at h
    ·rename_i q g2 h2
     obtain⟨_,rfl⟩:=cO h;exact Nat.le_trans (pL h1) (uO h2)
    ·cases h
   ·cases h
 |part w a b pL uO=>
  cases v<;>unfold qK at h<;>(try dsimp only at h)<;>try (cases h;done)
  case part w' y z=>
   cases hb:Nat.beq w w' with
   |false=>rw[hb]at h;cases h
   |true=>
    rw[hb]at h;simp only[cond_true]at h;split at h
    ·rename_i p g1 h1
     split at h
     ·rename_i q g2 h2
      obtain⟨_,rfl⟩:=cO h;exact Nat.le_trans (pL h1) (uO h2)
     ·cases h
    ·cases h
 |rZ a ih=>
  cases v<;>unfold qK at h<;>(try dsimp only at h)<;>try (cases h;done)
  exact ih h
 |st a ih=>
  cases v<;>unfold qK at h<;>(try dsimp only at h)<;>try (cases h;done)
  exact ih h
 |nY t a ih=>
  cases v<;>unfold qK at h<;>(try dsimp only at h)<;>try (cases h;done)
  case nY t' y=>
   cases hb:Nat.beq t t' with
   |false=>rw[hb]at h;cases h
   |true=>rw[hb]at h;exact ih (g:=g) h
 |_ =>
  cases v<;>unfold qK at h<;>(try dsimp only at h)<;>try (cases h;done)
  rw[(cO h).2];exact Nat.le_refl _
theorem Fq{cf:Cf}{S S3:AS G}{e:Ex G}(b:List Nat)(h:US P N C cf (Ca b S) S3 e):US P N C cf S S3 e:=by intro c ρ J HK X a w Q hr hq;obtain⟨J',Y,m,h1⟩:=hr.Ca b;refine h c ρ J' HK (Y++X) a w Q h1 ?_;rw[Aa];exact hq.fE (bT.gL _ _) m (Nat.le_refl _)
theorem Qb{cf:Cf}{S S3:AS G}{e:Ex G}(l:List (Nat×Sh))(h:US P N C cf (FB l S) S3 e):US P N C cf S S3 e:=by intro c ρ J HK X a w Q hr hq;obtain⟨ρ',m1,m2,h1⟩:=hr.FB l;exact h c ρ' J HK X a w Q h1 (hq.fE (Y:=[]) m1 (λ_ h=>h) m2)
theorem Qo:∀(l:List (Nat×Sh)) (S:AS G),S.nx<=(FB l S).nx:=by
 have hw:∀(s:Sh) (v:AV G) (nx:Nat),nx<=(PW s v nx).2.2:=by
  intro s
  induction s with
  |row e sz t=>
   intro v nx;cases v<;>unfold PW<;>try exact Nat.le_refl _
   cases Nat.beq (t.L G).n sz with
   |false=>exact Nat.le_refl _
   |true=>exact Nat.le_succ _
  |st a ih=>intro v nx;cases v<;>unfold PW<;>first|exact ih _ _ |exact Nat.le_refl _
  |part w a b pL uO=>intro v nx;cases v<;>unfold PW<;>first|exact Nat.le_trans (pL _ _) (uO _ _)|exact Nat.le_refl _
  |_ =>intro v nx;cases v<;>unfold PW<;>exact Nat.le_refl _
 intro l
 induction l with
 |nil=>intro S;exact Nat.le_refl _
 |cons p r ih=>
  obtain⟨q,s⟩:=p;intro S;refine Nat.le_trans ?_ (ih _);unfold SD;split
  ·exact hw _ _ _
  ·exact Nat.le_refl _
theorem ae5{C:CC G}{O:Os G}{nx:Nat}{aoT:AV G}{fit:(ct:Ct P G)->HI G ct.s->GS G->Option Z}{frz:List Nat->List (Nat×Sh)->Option Z}{no:Option Z}:∀{l:List (Ct P G)},wCt C O nx aoT fit frz no l=some z->(∃ct x g',HH C O nx ct.s aoT=some (x,g')/\fit ct x g'=some z)\/(∃b l,frz b l=some z)\/no=some z:=by
 intro l
 induction l with
 |nil=>intro h;exact .inr (.inr h)
 |cons ct r ih=>
  intro h;simp only[wCt]at h;split at h
  ·rename_i x g' hg;exact .inl ⟨ct,x,g',hg,h⟩
  ·split at h
   ·exact ih h
   ·exact .inr (.inl ⟨_,_,h⟩)
theorem Ps{c:Cx}{ρ:bT}{J:World->Prop}{HK X:List aO}{S:AS G}{a:Act}{w:World}{aoT:AV G}{vs:List Value}(ct:Ct P G){x:HI G ct.s}{g':GS G}(hr:Rl c N ρ J HK X C S a w)(hv:rl J ρ aoT vs)(hg:HH C S.O S.nx ct.s aoT=some (x,g')):
  S.nx<=g'.nx/\(∀y v,ct.R x y->hdA (iA (S7 g'.th g'.nx ct.s.nm) ct.s.dW y 0).1=some v->Calls P ct.s.k vs.toArray w λen w'=>∃(ρ':bT) (J':World->Prop) (Y:List aO) (u:Value),en= .returned u/\ρ.to ρ' S.nx/\(∀w,J' w->J w)/\rv J' ρ' v u/\Rl c N ρ' J' HK (Y++X) C (ctS g' ct.s.dW ct.s.nm y S) a w')/\
  (∀y v,ct.Rp x y->hdA (iA (S7 g'.th g'.nx ct.s.ZC) ct.s.mA y 0).1=some v->Calls P ct.s.k vs.toArray w λen w'=>∃(ρ':bT) (J':World->Prop) (Y:List aO) (u:Value),en= .panicked [{v:=u,recovered:=false}]/\ρ.to ρ' S.nx/\(∀w,J' w->J w)/\rv J' ρ' v u/\Rl c N ρ' J' HK (Y++X) C (ctS g' ct.s.mA ct.s.ZC y S) a w'):=by
 obtain⟨th,ρ2,HS,HB,H',hlen,q3,k,_,hkc⟩:=aee hr hv hg;have hp:=k.hp (HK++X) _ _ _ q3;have kv:=k.val;have kb:=k.eL;have kc:=k.R7;simp only[hlen]at kv kb kc;have hfr:(cmp ρ2 g'.th).fr (ct.s.bl x).2.2:=λr hr'=>by unfold Fs.bl at hr';unfold cmp;rw[List.getElem?_eq_none (by omega)]
 have HF:cC (cm (HB++((H'++HK)++X))) w.heap.size (HB++((H'++HK)++X)) w:=by
  have hp:cC c.bs c.w0.heap.size (HB++((H'++HK)++X)) w:=by simpa using hp
  exact⟨hp.holds,λr hm b hb=>⟨.inl (bN.2 ⟨r,hm,hb⟩),(hp.own r hm b hb).2⟩,hp.apart⟩
 obtain⟨o1,o2⟩:=ct.ok (cmp ρ2 g'.th) J HB (H'++HK) X w vs x kv kb hkc HF hr.kn hfr;refine⟨k.nx,λy v hR hd cs=>?_,λy v hR hd cs=>?_⟩
 ·obtain⟨en,w',fr,⟨u,rfl,h⟩,rest⟩:=o1 y hR cs
  obtain⟨ρ',J',Y,m1,m2,m3,m4⟩:=VF hr hp k hd h;exact⟨_,w',fr,⟨ρ',J',Y,u,rfl,m1,m2,m3,m4⟩,rest⟩
 ·obtain⟨en,w',fr,⟨u,rfl,h⟩,rest⟩:=o2 y hR cs
  obtain⟨ρ',J',Y,m1,m2,m3,m4⟩:=VF hr hp k hd h;exact⟨_,w',fr,⟨ρ',J',Y,u,rfl,m1,m2,m3,m4⟩,rest⟩
theorem aaS{s:Fs}{aoT:AV G}{O:Os G}{nx:Nat}{x:HI G s}{g':GS G}(h:HH C O nx s aoT=some (x,g')):∃th xi,qK s.yH aoT ⟨th,O,nx⟩=some (xi,g'):=by
 unfold HH at h;split at h
 ·split at h
  ·split at h
   ·rename_i xi g1 hg
    split at h
    ·rename_i y BM _
     revert h;generalize M7 _ BM=b;intro h;cases b with
     |false=>cases h
     |true=>obtain⟨_,rfl⟩:=cO h;exact⟨_,_,hg⟩
    ·cases h
   ·cases h
  ·cases h
 ·cases h
theorem aaR{s:Fs}{aoT:AV G}{O:Os G}{nx:Nat}{x:HI G s}{g':GS G}(hn:JV true s.yH=true)(h:HH C O nx s aoT=some (x,g')):g'.O=O/\g'.nx=nx:=by obtain⟨th,xi,hg⟩:=aaS h;rw[aec hn hg];exact⟨rfl,rfl⟩
theorem aef{s:Fs}{aoT:AV G}{O:Os G}{nx:Nat}{x:HI G s}{g':GS G}(h:HH C O nx s aoT=some (x,g')):nx<=g'.nx:=by obtain⟨th,xi,hg⟩:=aaS h;exact aaQ hg
theorem abm(ct:Ct P G):∃fn,P.funcs[ct.s.k]? =some fn/\fn.body.isSome=true/\(fn.name== "runtime.NumGoroutine")=false:=by obtain⟨f,h1,h2,h3⟩:=ct.fn;exact⟨f,h1,h2,h3⟩
section
variable {S:AS G} {f:Operand} {args:Array Operand} {ats:Array TypeId} {fst l cap v:AV G} {d:Option Tmp} {ty:TypeId} {ps:String} {af:Array Edge} {g:Option (Nat×Bool)} {ct:Ct P G} {x:HI G ct.s} {g':GS G}
theorem ajS{y:HL G (br ct.s.dW)}(hf:mK C S [] f=some (.fn (.func ct.s.k) fst cap))(ha:TL (mK C S []) args.toList=some l)(h1:uN fst=true)(h2:uN l=true)(hg:HH C S.O S.nx ct.s (rO fst (rO l cap))=some (x,g'))(hR:ct.R x y)(hd:hdA (iA (S7 g'.th g'.nx ct.s.nm) ct.s.dW y 0).1=some v):
  SK P ⟨d, .call ⟨.value f,args,ats⟩,ty,ps,af,g⟩ C S (ctS g' ct.s.dW ct.s.nm y S) v:=by
 intro c N ρ J HK X a w next Q hr hk
 have hE:=gk hr (ch:=[]) (by simp);obtain⟨fs,cs,e2,r1,r3⟩:=Ab (hE.ok _ _ hf);obtain⟨r2,_⟩:=Af hE ha;have hv:=sM h1 r1 (sM h2 r2 r3);have hent:=xy (P:=P) (w:=w) (d:=d) (ty:=ty) (ps:=ps) (af:=af) (g:=g) (ats:=ats) (abm ct) e2 (rfl:args.toList.map a.eval=_);refine⟨λ_ _ =>trivial,?_⟩;rw[Oper.semAt_eq _ _ _ (by simp)];rw[show args.toList.toArray=args from Array.toArray_toList]at hent;rw[hent];refine⟨λh=>by simp at h,ot c.ro ?_⟩;intro cs';obtain⟨en,w',fr,⟨ρ',J',Y,u,rfl,k1,k2,k3,k4⟩,rest⟩:=(Ps ct hr hv hg).2.1 y v hR hd cs';exact⟨_,w',fr,hk ρ' J' Y w' u k1 k2 k3 k4,rest⟩
theorem af6{all:Array Oper}{r:List Oper}{y:HL G (br ct.s.mA)}(hw:R8 N all C S ⟨d, .call ⟨.value f,args,ats⟩,ty,ps,af,g⟩)(hf:mK C S [] f=some (.fn (.func ct.s.k) fst cap))(ha:TL (mK C S []) args.toList=some l)(h1:uN fst=true)(h2:uN l=true)(hg:HH C S.O S.nx ct.s (rO fst (rO l cap))=some (x,g'))(hR:ct.Rp x y)(hd:hdA (iA (S7 g'.th g'.nx ct.s.ZC) ct.s.mA y 0).1=some v):
  US P N C (.ops all (⟨d, .call ⟨.value f,args,ats⟩,ty,ps,af,g⟩::r)) S (ctS g' ct.s.mA ct.s.ZC y S) (.zP v):=by
 intro c ρ J HK X a w Q hr hq;refine wpListIn_step λK hK=>?_;rw[aoU (hw c ρ J HK X a w hr)];have hE:=gk hr (ch:=[]) (by simp);obtain⟨fs,cs,e2,r1,r3⟩:=Ab (hE.ok _ _ hf);obtain⟨r2,_⟩:=Af hE ha;have hv:=sM h1 r1 (sM h2 r2 r3);have hent:=xy (P:=P) (w:=w) (d:=d) (ty:=ty) (ps:=ps) (af:=af) (g:=g) (ats:=ats) (abm ct) e2 (rfl:args.toList.map a.eval=_);refine⟨λ_ _ =>trivial,?_⟩;rw[Oper.semAt_eq _ _ _ (by simp)];rw[show args.toList.toArray=args from Array.toArray_toList]at hent;rw[hent];refine⟨λh=>by simp at h,ot c.ro ?_⟩;intro cs';obtain⟨en,w',fr,⟨ρ',J',Y,u,rfl,k1,k2,k3,k4⟩,rest⟩:=(Ps ct hr hv hg).2.2 y v hR hd cs';exact⟨_,w',fr,hq ρ' J' Y a w' (.panic _) k1 k2 ⟨u,rfl,k3⟩ k4,rest⟩
theorem af7{all:Array Oper}{r:List Oper}{y:HL G (br ct.s.dW)}{o:Oper}{S2 S3:AS G}{e:Ex G}{j dj k:Nat}{w gb:Bool}{aoT:AV G}(XS:o.guard=some (j,w))(hd:Lv all j=some dj)(he:TA C S 8 dj w=some gb)(hc:Rz C S (chain C S 8 dj w) o.op=some (k,aoT))(hk:ct.s.k=k)(hg:HH C S.O S.nx ct.s aoT=some (x,g'))(hnm:ct.s.nm=[])(hn1:JV true ct.s.yH=true)(hn2:JV false ct.s.dW=true)(hR:gb=true->ct.R x y)(hv:hdA (iA (λm=>m) ct.s.dW y 0).1=some v)
  (hq:yC N C o.dst (.gd dj w v) S=some S2)(h2:US P N C (.ops all r) S2 S3 e):US P N C (.ops all (o::r)) S S3 e:=by
 intro c ρ J HK X a wd Q hr hQ;refine wpListIn_step λK hK=>?_;have hwi:=zw (a:=a) XS hd;have hge:=Vn hr 8 dj w gb he;have R5:=qS hq;by_cases hw:a.tmps[dj]? =some (.bool w)
 ·rw[aoU (hwi.2 hw)]
  have hch:=Rt hr 8 dj w hw;have hE:=gk hr hch;obtain⟨d,op,ty,ps,af,gg⟩:=o;unfold Rz at hc;dsimp only at hc;split at hc
  ·rename_i f args ats
   split at hc
   ·rename_i k' fst cap l hf ha
    cases hb:((uN fst&&uN l)&&uN cap)with
    |false=>rw[hb]at hc;cases hc
    |true=>
     rw[hb]at hc;obtain⟨rfl,rfl⟩:=Prod.mk.inj (Option.some.inj hc);simp only[aoX]at hb;subst hk;obtain⟨fs,cs,e2,r1,r3⟩:=Ab (hE.ok _ _ hf);obtain⟨r2,_⟩:=Af hE ha;have hvs:=sM hb.1.1 r1 (sM hb.1.2 r2 r3);have hent:=xy (P:=P) (w:=wd) (d:=d) (ty:=ty) (ps:=ps) (af:=af) (g:=gg) (ats:=ats) (abm ct) e2 (rfl:args.toList.map a.eval=_);refine⟨λ_ _ =>trivial,?_⟩;rw[Oper.semAt_eq _ _ _ (by simp)];rw[show args.toList.toArray=args from Array.toArray_toList]at hent;rw[hent];refine⟨λh=>by simp at h,ot c.ro ?_⟩;intro cs';obtain⟨eO,eN⟩:=aaR hn1 hg;have Mh:=aev (f:=S7 g'.th g'.nx ct.s.nm) hn2 y 0;obtain⟨en,w',fr,⟨ρ',J',Y,u,rfl,k1,k2,k3,k4⟩,rest⟩:=(Ps ct hr hvs hg).2.1 y v (hR (hge.1 hw)) (by rw[Mh.1];exact hv) cs';refine⟨_,w',fr,?_,rest⟩;have e3:ctS g' ct.s.dW ct.s.nm y S=S:=by unfold ctS;rw[Mh.2,hnm,eO,eN];rfl
     rw[e3]at k4;refine hK _ _ (h2 c ρ' J' HK (Y++X) _ w' Q (k4.put hq ⟨λ_ =>k3,λh=>absurd hw h⟩) (hQ.fE k1 k2 (by omega)))
   ·cases hc
  ·cases hc
 ·have:Region.wanted o (yielded all a.tmps)=false:=by
   cases hb:Region.wanted o (yielded all a.tmps)with
   |true=>exact absurd (hwi.1 hb) hw
   |false=>rfl
  rw[aoV (by rw[this];simp)];exact⟨λ_ _ =>trivial,hK _ _ (h2 c ρ J HK X _ _ Q (hr.put hq ⟨λh=>absurd h hw,λ_ =>rfl⟩) (hQ.fE (Y:=[]) (bT.gL _ _) (λ_ h=>h) (by omega)))⟩
end
end
end Go.Rw
namespace Go.Rw
open Go Go.Bw Go.RowKit
variable {G:Sg} {P:Program} {N:Nat} {C:CC G}
theorem Yj{F:Fence}{n:Nat}{o:Oper}{a:Act}{w:World}{K:Act->World->Prop}{Q:Exit->Act->World->Prop}(hh:o.wpIn F n P a w K Q):o.wpIn F n P a w (λa' w'=>K a' w'/\∃u Df,a'=({a with defers:=Df}:Act).put o.dst u) Q:=by
 have e:∀u,a.put o.dst u=({a with defers:=a.defers}:Act).put o.dst u:=λ_ =>rfl;unfold Oper.wpIn at *;refine⟨hh.1,?_⟩;have hh:=hh.2;generalize(o.semAt F.round a.eval).run P w=r at *;cases r with
 |ok x w'=>
  cases x<;>simp only[Oper.uponIn]at hh ⊢<;>
   first
    |exact⟨hh,_,_,e _⟩
    |exact⟨hh,_,_,rfl⟩
    |exact⟨hh.1,CallsIn.mono hh.2 (λe' w'' he=>by cases e'<;>first|exact⟨he,_,_,e _⟩|exact he)⟩
    |exact⟨hh.1,RowsIn.mono hh.2 (λ_ _ he=>⟨he,_,_,e _⟩)⟩
    |exact⟨hh.1,RoundIn.mono hh.2 (λe' w'' he=>by cases e'<;>first|exact⟨he,_,_,e _⟩|exact he)⟩
 |halt x w'=>cases x<;>simp only[Oper.uponIn]at hh ⊢<;>exact hh
theorem LetsOut.mono{Q Q':Exit->Act->World->Prop}(h:∀e a w,e≠ .normal->Q e a w->Q' e a w)(q:LetsOut Q):LetsOut Q':=by obtain⟨a,w,q⟩:=q;exact⟨a,w,h _ _ _ (by simp) q⟩
theorem Km{F:Fence}{n:Nat}{o:Oper}{a:Act}{w:World}{K:Act->World->Prop}{Q Q':Exit->Act->World->Prop}(h:∀e a w,e≠ .normal->Q e a w->Q' e a w)(hh:o.wpIn F n P a w K Q):o.wpIn F n P a w K Q':=by
 unfold Oper.wpIn at *;refine⟨hh.1,?_⟩;have hh:=hh.2;generalize(o.semAt F.round a.eval).run P w=r at *;cases r with
 |ok x w'=>
  cases x<;>simp only[Oper.uponIn]at hh ⊢<;>
   first
    |exact hh
    |exact⟨hh.1,CallsIn.mono hh.2 (λe' w'' he=>by cases e'<;>first|exact h _ _ _ (by simp) he|exact LetsOut.mono h he|exact he)⟩
    |exact⟨hh.1,RoundIn.mono hh.2 (λe' w'' he=>by cases e'<;>first|exact h _ _ _ (by simp) he|exact LetsOut.mono h he|exact he)⟩
 |halt x w'=>cases x<;>simp only[Oper.uponIn]at hh ⊢<;>first|exact h _ _ _ (by simp) hh|exact LetsOut.mono h hh|exact hh
theorem ZI{F:Fence}{n:Nat}{ops:Array Oper}{i:Nat}{o:Oper}{a:Act}{w:World}{K:Act->World->Prop}{Q Q1:Exit->Act->World->Prop}(ho:ops[i]? =some o)(h:wpListIn F n P ops Q1 [o] a w)
  (hk:∀a' w',Q1 .normal a' w'->(∃u Df,a'=({a with defers:=Df}:Act).put o.dst u)->K a' w')(hq:∀e a w,e≠ .normal->Q1 e a w->Q e a w):wpOpIn F n P ops Q i K a w:=by
 unfold wpOpIn;rw[ho];unfold wpListIn at h;dsimp only;split
 ·rename_i hw
  rw[aoU hw]at h;exact Km hq (Oper.wpIn_mono (λa' w' q=>hk a' w' q.1 q.2) (Yj h))
 ·rename_i hw
  rw[aoV hw]at h;exact⟨h.1,hk _ _ h.2 ⟨undef,a.defers,rfl⟩⟩
theorem Co(ops:Array Oper):∀k,(JE ops k).length=k:=by
 intro k
 induction k with
 |zero=>rfl
 |succ k ih=>show(JE ops k++[_]).length=_;simp[ih]
theorem LM(ops:Array Oper):∀{k i:Nat},i<k->(JE ops k).getD i 0=T6 (JE ops i) (Dy ops i):=by
 intro k
 induction k with
 |zero=>intro i h;omega
 |succ k ih=>
  intro i h;show(JE ops k++[T6 (JE ops k) (Dy ops k)]).getD i 0=_;by_cases e:i<k
  ·rw[List.getD_eq_getElem?_getD,List.getElem?_append_left (by rw[Co];exact e), ← List.getD_eq_getElem?_getD];exact ih e
  ·have:i=k:=by omega
   subst this;rw[List.getD_eq_getElem?_getD,List.getElem?_append_right (by rw[Co];exact Nat.le_refl _),Co];simp
theorem abH{A:List Nat}{j:Nat}:∀{l:List Nat},(T6 A l).testBit j=true->∃k∈l,j=k\/(A.getD k 0).testBit j=true:=by
 intro l
 induction l with
 |nil=>intro h;simp[T6]at h
 |cons k r ih=>
  intro h;simp only[T6,Nat.testBit_or,Bool.or_eq_true,Nat.testBit_two_pow,decide_eq_true_eq]at h;rcases h with(h|h)|h
  ·exact⟨k,by simp, .inl h.symm⟩
  ·exact⟨k,by simp, .inr h⟩
  ·obtain⟨k',h1,h2⟩:=ih h;exact⟨k',by simp[h1],h2⟩
theorem air{ops:Array Oper}{l:Array Bool}(uP:∀j,dn l j->∀k∈Dy ops j,dn l k):∀(m i j:Nat),qN (JE ops m) i j=true->(∀k∈Dy ops i,dn l k)->dn l j:=by
 intro m i
 induction i using Nat.strongRecOn with
 |ind i ih=>
  intro j h hi;unfold qN at h;by_cases hm:i<m
  ·rw[LM ops hm]at h
   obtain⟨k,h1,h2⟩:=abH h;rcases h2 with rfl|h2
   ·exact hi _ h1
   ·by_cases hk:k<i
    ·refine ih k hk j ?_ (uP _ (hi _ h1))
     unfold qN;rw[LM ops (Nat.lt_trans hk hm), ← LM ops hk];exact h2
    ·rw[List.getD_eq_getElem?_getD,List.getElem?_eq_none (by rw[Co];omega)]at h2
     simp at h2
  ·rw[List.getD_eq_getElem?_getD,List.getElem?_eq_none (by rw[Co];omega)]at h
   simp at h
theorem abe:∀{l:List Oper} {i q d:Nat},(q,d)∈Ce i l↔i<=q/\∃o,l[q-i]? =some o/\o.dst=some d:=by
 intro l
 induction l with
 |nil=>intro i q d;simp[Ce]
 |cons o r ih=>
  intro i q d;have key:(q,d)∈Ce (i+1) r↔i<q/\∃o',(o::r)[q-i]? =some o'/\o'.dst=some d:=by
   rw[ih];constructor
   ·rintro⟨h1,o',h2,h3⟩
    refine⟨by omega,o',?_,h3⟩;rw[show q-i=(q-(i+1))+1 from by omega];exact h2
   ·rintro⟨h1,o',h2,h3⟩
    refine⟨by omega,o',?_,h3⟩;rw[show q-i=(q-(i+1))+1 from by omega]at h2;exact h2
  unfold Ce;split
  ·rename_i d' hd
   rw[List.mem_cons,key];constructor
   ·rintro(h|⟨h1,h2⟩)
    ·cases h;exact⟨Nat.le_refl _,o,by simp,hd⟩
    ·exact⟨by omega,h2⟩
   ·rintro⟨h1,o',h2,h3⟩
    by_cases e:q=i
    ·subst e
     rw[Nat.sub_self]at h2;cases h2;rw[hd]at h3;cases h3;exact .inl rfl
    ·exact .inr ⟨by omega,o',h2,h3⟩
  ·rename_i hd
   rw[key];constructor
   ·rintro⟨h1,h2⟩;exact⟨by omega,h2⟩
   ·rintro⟨h1,o',h2,h3⟩
    by_cases e:q=i
    ·subst e
     rw[Nat.sub_self]at h2;cases h2;rw[hd]at h3;cases h3
    ·exact⟨by omega,o',h2,h3⟩
theorem agI{A:List Nat}{q d:Nat}:∀{l:List (Nat×Nat)},adv A q d l=true->∀i,(i,d)∈l->i<q->qN A q i=true:=by
 intro l
 induction l with
 |nil=>intro _ i h;cases h
 |cons x r ih=>
  obtain⟨j,e⟩:=x;intro h i hi hq;simp only[adv,aoX,Bool.or_eq_true,Bool.not_eq_true']at h;rcases List.mem_cons.1 hi with hi|hi
  ·cases hi
   rcases h.1 with h1|h1
   ·rw[Nat.beq_refl,show Nat.blt j q=true from by rw[Nat.blt_eq];exact hq]at h1;cases h1
   ·exact h1
  ·exact ih h.2 i hi hq
theorem aka{A:List Nat}{ws:List (Nat×Nat)}:∀{l:List (Nat×Nat)},(WN A ws l)=true->∀q d,(q,d)∈l->∀i,(i,d)∈ws->i<q->qN A q i=true:=by
 intro l
 induction l with
 |nil=>intro _ q d h;cases h
 |cons x r ih=>
  obtain⟨j,e⟩:=x;intro h q d hm i hi hq;simp only[WN,aoX]at h;rcases List.mem_cons.1 hm with hm|hm
  ·cases hm;exact agI h.1 i hi hq
  ·exact ih h.2 q d hm i hi hq
theorem Ym{A:List Nat}{i d:Nat}:∀{l:List (Nat×Nat)},Er A i d l=true->∀q,(q,d)∈l->q=i\/(q<i/\qN A i q=true)\/(i<q/\qN A q i=true):=by
 intro l
 induction l with
 |nil=>intro _ q h;cases h
 |cons x r ih=>
  obtain⟨j,e⟩:=x;intro h q hq;simp only[Er,aoX,Bool.or_eq_true,Bool.not_eq_true']at h;rcases List.mem_cons.1 hq with hq|hq
  ·cases hq
   rcases h.1 with h1|h1|h1
   ·rw[Nat.beq_refl]at h1;cases h1
   ·exact .inl (aoW h1)
   ·cases hb:Nat.blt j i with
    |true=>rw[hb]at h1;exact .inr (.inl ⟨by simpa[Nat.blt_eq]using hb,h1⟩)
    |false=>
     rw[hb]at h1;by_cases e:j=i
     ·exact .inl e
     ·have:¬j<i:=by rw[← Nat.blt_eq,hb];simp
      exact .inr (.inr ⟨by omega,h1⟩)
  ·exact ih h.2 q hq
theorem aio{A:List Nat}{i d:Nat}:∀{l:List (Nat×Nat)},Xu A i d l=true->∀q,(q,d)∈l->qN A i q=true:=by
 intro l
 induction l with
 |nil=>intro _ q h;cases h
 |cons x r ih=>
  obtain⟨j,e⟩:=x;intro h q hq;simp only[Xu,aoX,Bool.or_eq_true,Bool.not_eq_true']at h;rcases List.mem_cons.1 hq with hq|hq
  ·cases hq
   rcases h.1 with h1|h1
   ·rw[Nat.beq_refl]at h1;cases h1
   ·exact h1
  ·exact ih h.2 q hq
theorem ajG{d:Nat}:∀{l:List (Nat×Nat)},wrD d l=false->∀q,(q,d)∉l:=by
 intro l
 induction l with
 |nil=>intro _ q h;cases h
 |cons x r ih=>
  obtain⟨j,e⟩:=x;intro h q hq;simp only[wrD,Bool.or_eq_false_iff]at h;rcases List.mem_cons.1 hq with hq|hq
  ·cases hq;have:=h.1;rw[Nat.beq_refl]at this;cases this
  ·exact ih h.2 q hq
theorem B3:∀{l:List Nat} {d:Nat},fe l d=true↔d∈l:=by
 intro l
 induction l with
 |nil=>intro d;simp[fe]
 |cons k r ih=>
  intro d;simp only[fe,Bool.or_eq_true,List.mem_cons,ih];constructor
  ·rintro(h|h)
   ·exact .inl (aoW h).symm
   ·exact .inr h
  ·rintro(rfl|h)
   ·exact .inl (Nat.beq_refl _)
   ·exact .inr h
theorem TN:∀{a b:List Nat},TO a b=true->∀x∈a,x∉b:=by
 intro a
 induction a with
 |nil=>intro b _ x h;cases h
 |cons k r ih=>
  intro b h x hx;simp only[TO,aoX,Bool.not_eq_true']at h;rcases List.mem_cons.1 hx with rfl|hx
  ·intro hb;rw[B3.2 hb]at h;cases h.1
  ·exact ih h.2 x hx
theorem afg{A:List Nat}{i:Nat}{rd ac nw:List Nat}:∀{l:List Lg},okL A i rd ac nw l=true->∀y∈l,qN A i y.i=true\/((∀x∈y.a++y.o,x∉rd++ac)/\∀x∈ac++nw,x∉y.r++y.a):=by
 intro l
 induction l with
 |nil=>intro _ y h;cases h
 |cons z r ih=>
  intro h y hy;simp only[okL,aoX,Bool.or_eq_true]at h;rcases List.mem_cons.1 hy with rfl|hy
  ·rcases h.1 with h1|h1
   ·exact .inl h1
   ·exact .inr ⟨TN h1.1,TN h1.2⟩
  ·exact ih h.2 y hy
theorem akb{A:List Nat}{i:Nat}:∀{l:List Lg},okU A i l=true->∀y∈l,qN A i y.i=true\/y.a=[]:=by
 intro l
 induction l with
 |nil=>intro _ y h;cases h
 |cons z r ih=>
  intro h y hy;simp only[okU,aoX,Bool.or_eq_true]at h;rcases List.mem_cons.1 hy with rfl|hy
  ·rcases h.1 with h1|h1
   ·exact .inl h1
   ·refine .inr ?_
    split at h1
    ·assumption
    ·cases h1
  ·exact ih h.2 y hy
theorem ajJ{A:List Nat}{i:Nat}:∀{l:List Lg},∀y∈l,qN A i y.i=false->∀x∈y.o,x∈unN A i l:=by
 intro l
 induction l with
 |nil=>intro y h;cases h
 |cons z r ih=>
  intro y hy hb x hx;unfold unN;rcases List.mem_cons.1 hy with rfl|hy
  ·rw[hb];exact ao1 _ hx
  ·cases qN A i z.i with
   |true=>exact ih y hy hb x hx
   |false=>exact ao0 _ (ih y hy hb x hx)
theorem Pk{p:Nat->Bool}:∀{O:Os G} {r:Nat},ga (dS p O) r=bif p r then ga O r else none:=by
 intro O
 induction O with
 |nil=>intro r;simp only[dS,ga];cases p r<;>rfl
 |cons q t ih=>
  obtain⟨k,v⟩:=q;intro r;simp only[dS];cases hp:p k with
  |true=>
   simp only[cond_true,ga];cases hb:Nat.beq k r with
   |true=>obtain rfl:=aoW hb;rw[hp];rfl
   |false=>exact ih
  |false=>
   simp only[cond_false,ga];cases hb:Nat.beq k r with
   |true=>obtain rfl:=aoW hb;rw[ih,hp];rfl
   |false=>exact ih
theorem Vy{p:Nat->Bool}:∀{F:Fr G} {d:Nat},ga (nv p F) d=bif p d then ga F d else none:=by
 intro F
 induction F with
 |nil=>intro d;simp only[nv,ga];cases p d<;>rfl
 |cons q t ih=>
  obtain⟨k,v⟩:=q;intro d;simp only[nv];cases hp:p k with
  |true=>
   simp only[cond_true,ga];cases hb:Nat.beq k d with
   |true=>obtain rfl:=aoW hb;rw[hp];rfl
   |false=>exact ih
  |false=>
   simp only[cond_false,ga];cases hb:Nat.beq k d with
   |true=>obtain rfl:=aoW hb;rw[ih,hp];rfl
   |false=>exact ih
end Go.Rw
namespace Go.Rw
open Go Go.Bw Go.RowKit
variable {G:Sg} {P:Program} {N:Nat} {C:CC G} {ops:Array Oper} {A:List Nat} {ws:List (Nat×Nat)} {F0:Fr G} {D0:List (AV G)}
inductive Kd where
 |d|p|s
def ai1(A:List Nat)(ws:List (Nat×Nat))(o:Oper)(i nx:Nat)(pr:Fr G):Prop:=(o.dst=none/\pr=[])\/∃d v,o.dst=some d/\pr=[(d,v)]/\v.lt nx=true/\∀j w x,v= .gd j w x->Xu A i j ws=true
def lyD(F0:Fr G)(D0:List (AV G))(M:Os G)(rd ac:List Nat):Ly G:=⟨F0,dS (λq=>fe rd q&& !fe ac q) M,D0⟩
structure StD(P:Program)(N:Nat)(C:CC G)(ops:Array Oper)(A:List Nat)(ws:List (Nat×Nat))(F0:Fr G)(D0:List (AV G))(o:Oper)(i:Nat)(rd ac:List Nat)(on:Os G)(pr:Fr G)(T T':DS G):Prop where
 VL:okL A i rd ac (mZ on) T.lg=true
 lC:Bj T.nx (lyD F0 D0 T.M rd ac::C)=true
 lF:ltF T.nx (nv (λd=>Er A i d ws) T.F)=true
 lO:zW T.nx (dS (fe ac) T.M)=true
 lN:zW T'.nx on=true
 run:∃S1,US P N (lyD F0 D0 T.M rd ac::C) (.ops ops [o]) ⟨nv (λd=>Er A i d ws) T.F,dS (fe ac) T.M,T.nx,[]⟩ S1 .o5/\S1.D=[]/\S1.O=on/\T.nx<=S1.nx/\T'.nx=S1.nx/\∀d v,(d,v)∈pr->ga S1.F d=some v
 pk:ai1 A ws o i T'.nx pr
 F':T'.F=pr++T.F
 M':T'.M=on++dS (λq=> !fe ac q) T.M
 lg':T'.lg=⟨i,rd,ac,mZ on⟩::T.lg
structure StP(P:Program)(N:Nat)(C:CC G)(ops:Array Oper)(A:List Nat)(ws:List (Nat×Nat))(F0:Fr G)(D0:List (AV G))(o:Oper)(i:Nat)(rd ac:List Nat)(v:AV G)(T:DS G)(S':AS G):Prop where
 VL:okL A i rd ac [] T.lg=true
 chu:okU A i T.lg=true
 lC:Bj T.nx (lyD F0 D0 T.M rd ac::C)=true
 lF:ltF T.nx (nv (λd=>Er A i d ws) T.F)=true
 lO:zW T.nx (dS (fe ac) T.M)=true
 lM:zW T.nx T.M=true
 run:∃S1,US P N (lyD F0 D0 T.M rd ac::C) (.ops ops [o]) ⟨nv (λd=>Er A i d ws) T.F,dS (fe ac) T.M,T.nx,[]⟩ S1 (.zP v)/\S1.D=[]/\T.nx<=S1.nx/\
  S'=⟨F0,S1.O++dS (λq=> !fe ac q) (dS (λq=> !fe (unN A i T.lg) q) T.M),S1.nx,D0⟩
structure Tc(G:Sg) where
 T:Nat->DS G
 kd:Nat->Kd
 rd:Nat->List Nat
 ac:Nat->List Nat
 on:Nat->Os G
 pr:Nat->Fr G
def mF(P:Program)(N:Nat)(C:CC G)(ops:Array Oper)(A:List Nat)(ws:List (Nat×Nat))(F0:Fr G)(D0:List (AV G))(t:Tc G)(o:Oper)(q:Nat):Prop:=match t.kd q with
 | .d=>StD P N C ops A ws F0 D0 o q (t.rd q) (t.ac q) (t.on q) (t.pr q) (t.T q) (t.T (q+1))
 |_ =>t.T (q+1)=t.T q/\t.pr q=[]
theorem mF.congr{t t':Tc G}{o:Oper}{q:Nat}(h:mF P N C ops A ws F0 D0 t o q)(e1:t'.T q=t.T q)(e2:t'.T (q+1)=t.T (q+1))(e3:t'.kd q=t.kd q)(e4:t'.ac q=t.ac q)(e5:t'.rd q=t.rd q)(e6:t'.pr q=t.pr q)(e7:t'.on q=t.on q):mF P N C ops A ws F0 D0 t' o q:=by unfold mF at h ⊢;rw[e1,e2,e3,e4,e5,e6,e7];exact h
def Tc.put(t:Tc G)(i:Nat)(T:DS G)(k:Kd)(rd ac:List Nat)(on:Os G)(pr:Fr G):Tc G:=⟨λx=>if x=i then T else t.T x,λx=>if x=i then k else t.kd x,λx=>if x=i then rd else t.rd x,λx=>if x=i then ac else t.ac x,λx=>if x=i then on else t.on x,λx=>if x=i then pr else t.pr x⟩
section
variable (t:Tc G) (i:Nat) (T:DS G) (k:Kd) (rd ac:List Nat) (on:Os G) (pr:Fr G)
theorem Tc.zO:(t.put i T k rd ac on pr).T i=T/\(t.put i T k rd ac on pr).kd i=k/\(t.put i T k rd ac on pr).rd i=rd/\(t.put i T k rd ac on pr).ac i=ac/\(t.put i T k rd ac on pr).on i=on/\(t.put i T k rd ac on pr).pr i=pr:=by simp[Tc.put]
theorem Tc.xj{x:Nat}(h:x≠i):(t.put i T k rd ac on pr).T x=t.T x/\(t.put i T k rd ac on pr).kd x=t.kd x/\(t.put i T k rd ac on pr).rd x=t.rd x/\(t.put i T k rd ac on pr).ac x=t.ac x/\(t.put i T k rd ac on pr).on x=t.on x/\(t.put i T k rd ac on pr).pr x=t.pr x:=by simp[Tc.put,h]
end
theorem mF.SU{t:Tc G}{o:Oper}{q i:Nat}{T:DS G}{k:Kd}{rd ac:List Nat}{on:Os G}{pr:Fr G}(h:mF P N C ops A ws F0 D0 t o q)(hq:i<q):mF P N C ops A ws F0 D0 (t.put i T k rd ac on pr) o q:=by obtain⟨a1,a2,a3,a4,a5,a6⟩:=t.xj i T k rd ac on pr (show q≠i from by omega);obtain⟨b1,_⟩:=t.xj i T k rd ac on pr (show q+1≠i from by omega);exact h.congr a1 b1 a2 a4 a3 a6 a5
theorem mF.first{t:Tc G}{o:Oper}{i:Nat}{T T1:DS G}{k:Kd}{rd ac:List Nat}{on:Os G}{pr:Fr G}(hT:t.T (i+1)=T1)(h:match k with
 | .d=>StD P N C ops A ws F0 D0 o i rd ac on pr T T1
 |_ =>T1=T/\pr=[]):mF P N C ops A ws F0 D0 (t.put i T k rd ac on pr) o i:=by
 obtain⟨a1,a2,a3,a4,a5,a6⟩:=t.zO i T k rd ac on pr;obtain⟨b1,_⟩:=t.xj i T k rd ac on pr (x:=i+1) (by omega);unfold mF;rw[a1,a2,a3,a4,a5,a6,b1,hT];exact h
def Tc.one(T:DS G):Tc G:=⟨λ_ =>T,λ_ => .s,λ_ =>[],λ_ =>[],λ_ =>[],λ_ =>[]⟩
theorem agD{o:Oper}{i nx:Nat}{F S F':Fr G}(h:agE A ws i nx o.dst F S=some F'):∃pr,ai1 A ws o i nx pr/\F'=pr++F/\∀d v,(d,v)∈pr->ga S d=some v:=by
 unfold agE at h;split at h
 ·rename_i hd;cases h;exact⟨[], .inl ⟨hd,rfl⟩,rfl,by simp⟩
 ·rename_i d hd
  split at h
  ·rename_i v hv
   cases hb:(v.lt nx&&alp A ws i v)with
   |false=>rw[hb]at h;cases h
   |true=>
    rw[hb]at h;cases h;rw[aoX]at hb;refine⟨[(d,v)], .inr ⟨d,v,hd,rfl,hb.1,λj w x e=>?_⟩,rfl,λd' v' hm=>?_⟩
    ·subst e;exact hb.2
    ·simp at hm;rw[hm.1,hm.2];exact hv
  ·cases h
section
variable {Z:Type} {rec:WT G Z} {cp:List Nat} {z:Z} {tb:Ba P G}
theorem afE(dy:tu P rec){o:Oper}{i:Nat}{T:DS G}{kn:DS G->List Nat->List Nat->Option Z}{kp:AV G->AS G->List Nat->List Nat->Option Z}(h:drS tb rec N cp C ops A ws F0 D0 o i T kn kp=some z):
  (∃rd ac on pr T',StD P N C ops A ws F0 D0 o i rd ac on pr T T'/\kn T' ac (mZ on)=some z)\/∃rd ac v S',StP P N C ops A ws F0 D0 o i rd ac v T S'/\kp v S' rd ac=some z:=by
 unfold drS at h;dsimp only at h;revert h;generalize al1 tb (⟨F0,[],[]⟩::C) ⟨nv (λd=>Er A i d ws) T.F,T.M,T.nx,[]⟩ ops o=ra;obtain⟨rd,ac⟩:=ra;intro h;dsimp only at h;cases hb:(Bj T.nx ((⟨F0,dS (λq=>fe rd q&& !fe ac q) T.M,D0⟩:Ly G)::C)&&(ltF T.nx (nv (λd=>Er A i d ws) T.F)&&zW T.nx (dS (fe ac) T.M)))with
 |false=>rw[hb]at h;cases h
 |true=>
  rw[hb]at h;simp only[aoX]at hb;obtain⟨e,S1,k1,k2,k3⟩:=dy _ _ _ _ _ _ _ h;have k2:T.nx<=S1.nx:=k2;split at k1
  ·rename_i hD
   cases hn:(Nat.ble T.nx S1.nx&&(zW S1.nx S1.O&&okL A i rd ac (mZ S1.O) T.lg))with
   |false=>rw[hn]at k1;cases k1
   |true=>
    rw[hn]at k1;simp only[aoX]at hn;simp only[cond_true]at k1;split at k1
    ·rename_i F' hF
     obtain⟨pr,p1,p2,p3⟩:=agD hF;exact .inl ⟨rd,ac,S1.O,pr,_,⟨hn.2.2,hb.1,hb.2.1,hb.2.2,hn.2.1,⟨S1,k3,hD,rfl,k2,rfl,p3⟩,p1,p2,rfl,rfl⟩,k1⟩
    ·cases k1
  ·rename_i v hD
   cases hn:(Nat.ble T.nx S1.nx&&(okL A i rd ac [] T.lg&&(okU A i T.lg&&zW T.nx T.M)))with
   |false=>rw[hn]at k1;cases k1
   |true=>rw[hn]at k1;simp only[aoX]at hn;exact .inr ⟨rd,ac,v,_,⟨hn.2.1,hn.2.2.1,hb.1,hb.2.1,hb.2.2,hn.2.2.2,S1,k3,hD,k2,rfl⟩,k1⟩
  ·cases k1
def GJ(A:List Nat)(j:Nat)(zj:List Nat)(t:Tc G)(q:Nat):Prop:=(t.kd q= .d/\t.ac q=[]/\∀x∈mZ (t.on q),x∉zj)\/(t.kd q= .s/\qN A q j=true)
theorem alD(dy:tu P rec){j:Nat}{zj:List Nat}{k:Option Z}:∀{l:List Oper} {i:Nat} {T:DS G},drP tb rec N cp C ops A ws F0 D0 j zj k l i T=some z->k=some z/\∃t:Tc G,t.T i=T/\∀q o,i<=q->l[q-i]? =some o->mF P N C ops A ws F0 D0 t o q/\GJ A j zj t q:=by
 intro l
 induction l with
 |nil=>intro i T h;exact⟨h,Tc.one T,rfl,λq o _ e=>by simp at e⟩
 |cons o r ih=>
  intro i T h;unfold drP at h;have fE:∀{T1:DS G} {kd:Kd} {rd ac:List Nat} {on:Os G} {pr:Fr G} {t:Tc G},t.T (i+1)=T1->(∀q o,i+1<=q->r[q-(i+1)]? =some o->mF P N C ops A ws F0 D0 t o q/\GJ A j zj t q)->
    (match kd with
     | .d=>StD P N C ops A ws F0 D0 o i rd ac on pr T T1
     |_ =>T1=T/\pr=[])->((kd= .d/\ac=[]/\∀x∈mZ on,x∉zj)\/(kd= .s/\qN A i j=true))->∃t:Tc G,t.T i=T/\∀q o',i<=q->(o::r)[q-i]? =some o'->mF P N C ops A ws F0 D0 t o' q/\GJ A j zj t q:=by
   intro T1 kd rd ac on pr t hT hs h1 h2;refine⟨t.put i T kd rd ac on pr,(t.zO i T kd rd ac on pr).1,λq o' hq ho=>?_⟩;by_cases e:q=i
   ·subst e
    rw[Nat.sub_self]at ho;cases ho;refine⟨mF.first hT h1,?_⟩;obtain⟨_,a2,_,a4,a5,_⟩:=t.zO q T kd rd ac on pr;unfold GJ;rw[a2,a4,a5];exact h2
   ·rw[show q-i=(q-(i+1))+1 from by omega]at ho
    obtain⟨s1,s2⟩:=hs q o' (by omega) ho;refine⟨s1.SU (by omega),?_⟩;obtain⟨_,a2,_,a4,a5,_⟩:=t.xj i T kd rd ac on pr e;unfold GJ;rw[a2,a4,a5];exact s2
  cases hb:qN A i j with
  |true=>rw[hb]at h;obtain⟨k1,t,k2,k3⟩:=ih h;exact⟨k1,fE (kd:= .s) (rd:=[]) (ac:=[]) (on:=[]) k2 k3 ⟨rfl,rfl⟩ (.inr ⟨rfl,hb⟩)⟩
  |false=>
   rw[hb]at h;simp only[cond_false]at h;rcases afE dy h with⟨rd,ac,on,pr,T',s1,s2⟩|⟨rd,ac,v,S',_,s2⟩
   ·cases hc:(akf ac&&TO (mZ on) zj)with
    |false=>rw[hc]at s2;cases s2
    |true=>
     rw[hc]at s2;simp only[aoX]at hc;obtain⟨k1,t,k2,k3⟩:=ih s2;refine⟨k1,fE (kd:= .d) k2 k3 s1 (.inl ⟨rfl,?_,TN hc.2⟩)⟩;cases ac with
     |nil=>rfl
     |cons _ _ =>cases hc.1
   ·cases s2
def afN(P:Program)(N:Nat)(C:CC G)(ops:Array Oper)(A:List Nat)(ws:List (Nat×Nat))(F0:Fr G)(D0:List (AV G))(l:List Oper)(i:Nat)(t:Tc G)(e:Ex G)(S':AS G):Prop:=(∀q o,i<=q->l[q-i]? =some o->mF P N C ops A ws F0 D0 t o q)/\ ((e= .o5/\S'=⟨(t.T (i+l.length)).F++F0,(t.T (i+l.length)).M,(t.T (i+l.length)).nx,D0⟩/\∀q,i<=q->q<i+l.length->t.kd q= .d)\/ ∃j o v rd ac,i<=j/\l[j-i]? =some o/\t.kd j= .p/\e= .zP v/\StP P N C ops A ws F0 D0 o j rd ac v (t.T j) S'/\(∀q,i<=q->q<j->t.kd q= .d)/\∀q,j<q->q<i+l.length->GJ A j (rd++ac) t q)
theorem alC(dy:tu P rec){K:Ex G->AS G->Option Z}:∀{l:List Oper} {i:Nat} {T:DS G},Lx tb rec N cp C ops A ws F0 D0 K l i T=some z->∃(t:Tc G) (e:Ex G) (S':AS G),K e S'=some z/\t.T i=T/\afN P N C ops A ws F0 D0 l i t e S':=by
 intro l
 induction l with
 |nil=>intro i T h;exact⟨Tc.one T, .o5,_,h,rfl,λq o _ e=>by simp at e, .inl ⟨rfl,rfl,λq h1 h2=>by simp at h2;omega⟩⟩
 |cons o r ih=>
  intro i T h;unfold Lx at h;rcases afE dy h with⟨rd,ac,on,pr,T1,h1,hw⟩|⟨rd,ac,v,S',h1,hw⟩
  ·obtain⟨t,e,S',k1,k2,k3,k4⟩:=ih hw
   refine⟨t.put i T .d rd ac on pr,e,S',k1,(t.zO i T .d rd ac on pr).1,λq o' hq ho=>?_,?_⟩
   ·by_cases e:q=i
    ·subst e
     rw[Nat.sub_self]at ho;cases ho;exact mF.first k2 h1
    ·rw[show q-i=(q-(i+1))+1 from by omega]at ho
     exact(k3 q o' (by omega) ho).SU (by omega)
   ·have hlen:i+(o::r).length=i+1+r.length:=by simp;omega
    rcases k4 with⟨e1,e2,e3⟩|⟨j,oj,v,rdj,acj,j1,j2,j3,j4,j5,j6,j7⟩
    ·refine .inl ⟨e1,?_,λq q1 q2=>?_⟩
     ·rw[hlen,(t.xj i T .d rd ac on pr (show i+1+r.length≠i from by omega)).1];exact e2
     ·by_cases e:q=i
      ·subst e;exact(t.zO q T .d rd ac on pr).2.1
      ·rw[(t.xj i T .d rd ac on pr e).2.1];exact e3 q (by omega) (by omega)
    ·have jne:j≠i:=by omega
     refine .inr ⟨j,oj,v,rdj,acj,by omega,?_,?_,j4,?_,λq q1 q2=>?_,λq q1 q2=>?_⟩
     ·rw[show j-i=(j-(i+1))+1 from by omega];exact j2
     ·rw[(t.xj i T .d rd ac on pr jne).2.1];exact j3
     ·rw[(t.xj i T .d rd ac on pr jne).1];exact j5
     ·by_cases e:q=i
      ·subst e;exact(t.zO q T .d rd ac on pr).2.1
      ·rw[(t.xj i T .d rd ac on pr e).2.1];exact j6 q (by omega) q2
     ·obtain⟨_,a2,_,a4,a5,_⟩:=t.xj i T .d rd ac on pr (show q≠i from by omega)
      unfold GJ;rw[a2,a4,a5];exact j7 q q1 (by omega)
  ·obtain⟨m1,t,m2,m3⟩:=alD dy hw
   refine⟨t.put i T .p [] [] [] [], .zP v,_,m1,(t.zO i T .p [] [] [] []).1,λq o' hq ho=>?_, .inr ⟨i,o,v,rd,ac,Nat.le_refl _,by simp,(t.zO i T .p [] [] [] []).2.1,rfl,?_,λq q1 q2=>by omega,λq q1 q2=>?_⟩⟩
   ·by_cases e:q=i
    ·subst e
     rw[Nat.sub_self]at ho;cases ho;exact mF.first m2 ⟨rfl,rfl⟩
    ·rw[show q-i=(q-(i+1))+1 from by omega]at ho
     exact(m3 q o' (by omega) ho).1.SU (by omega)
   ·rw[(t.zO i T .p [] [] [] []).1];exact h1
   ·have hlt:q-(i+1)<r.length:=by simp at q2;omega
    obtain⟨_,a2,_,a4,a5,_⟩:=t.xj i T .p [] [] [] [] (show q≠i from by omega);unfold GJ;rw[a2,a4,a5];exact(m3 q _ (by omega) (ao3 hlt)).2
end
end Go.Rw
namespace Go.Rw
open Go Go.Bw Go.RowKit
variable {G:Sg} {P:Program} {N:Nat} {C:CC G} {ops:Array Oper} {A:List Nat} {ws:List (Nat×Nat)} {F0:Fr G} {D0:List (AV G)} {t:Tc G} {l:Array Bool}
structure Hy(P:Program)(N:Nat)(C:CC G)(ops:Array Oper)(A:List Nat)(ws:List (Nat×Nat))(F0:Fr G)(D0:List (AV G))(t:Tc G):Prop where
 hA:A=JE ops ops.size
 hws:ws=Ce 0 ops.toList
 hW:WN A ws ws=true
 st:∀q o,ops[q]? =some o->mF P N C ops A ws F0 D0 t o q
 g0:∀d j w x,ga (t.T 0).F d=some (.gd j w x)->∀q,(q,j)∉ws
def Cl(ops:Array Oper)(l:Array Bool):Prop:=∀j,dn l j->∀k∈Dy ops j,dn l k
theorem Hy.mem(h:Hy P N C ops A ws F0 D0 t){q d:Nat}:(q,d)∈ws↔∃o,ops[q]? =some o/\o.dst=some d:=by rw[h.hws,abe];simp
theorem Hy.VU(h:Hy P N C ops A ws F0 D0 t)(uP:Cl ops l){i j:Nat}(hb:qN A i j=true)(hi:∀k∈Dy ops i,dn l k):dn l j:=by rw[h.hA]at hb;exact air uP _ _ _ hb hi
theorem Hy.F'(h:Hy P N C ops A ws F0 D0 t){q:Nat}(hq:q<ops.size):(t.T (q+1)).F=t.pr q++(t.T q).F:=by
 have:=h.st q _ (Array.getElem?_eq_getElem hq);unfold mF at this;split at this
 ·exact this.F'
 ·rw[this.1,this.2];rfl
theorem Hy.pr(h:Hy P N C ops A ws F0 D0 t){q:Nat}(hq:q<ops.size):t.pr q=[]\/∃d v,t.pr q=[(d,v)]/\(q,d)∈ws/\∀j w x,v= .gd j w x->Xu A q j ws=true:=by
 have ho:ops[q]? =some ops[q]:=Array.getElem?_eq_getElem hq;have:=h.st q _ ho;unfold mF at this;split at this
 ·rcases this.pk with⟨_,e⟩|⟨d,v,e1,e2,_,e3⟩
  ·exact .inl e
  ·exact .inr ⟨d,v,e2,h.mem.2 ⟨_,ho,e1⟩,e3⟩
 ·exact .inl this.2
theorem FK{q d:Nat}{F:Fr G}(h:Hy P N C ops A ws F0 D0 t)(hq:q<ops.size)(hd:(q,d)∉ws):ga (t.pr q++F) d=ga F d:=by
 rcases h.pr hq with e|⟨d',v,e,hm,_⟩
 ·rw[e];rfl
 ·rw[e]
  simp only[List.cons_append,List.nil_append,ga];cases hb:Nat.beq d' d with
  |true=>rw[aoW hb]at hm;exact absurd hm hd
  |false=>rfl
def FL(t:Tc G)(l:Array Bool):Nat->Fr G
 |0=>(t.T 0).F
 |q+1=>(bif l.getD q false then t.pr q else[])++FL t l q
theorem CN{q:Nat}(h:¬dn l q):FL t l (q+1)=FL t l q:=by
 unfold dn at h;show(bif l.getD q false then t.pr q else[])++FL t l q=_;cases hb:l.getD q false with
 |true=>rw[hb]at h;exact absurd rfl h
 |false=>rfl
theorem Ea{q:Nat}(h:dn l q):FL t l (q+1)=t.pr q++FL t l q:=by unfold dn at h;show(bif l.getD q false then t.pr q else[])++FL t l q=_;rw[h];rfl
theorem Hy.cQ(h:Hy P N C ops A ws F0 D0 t)(uP:Cl ops l){i d:Nat}(hi:i<ops.size)(hrd:∀k∈Dy ops i,dn l k)(vt:¬dn l i)(hv:Er A i d ws=true):ga (FL t l ops.size) d=ga (t.T i).F d:=by
 have p1:∀q,q<=i->ga (FL t l q) d=ga (t.T q).F d:=by
  intro q
  induction q with
  |zero=>intro _;rfl
  |succ q ih=>
   intro hq;have ih:=ih (by omega);rw[h.F' (by omega)];by_cases hd:(q,d)∈ws
   ·rcases Ym hv q hd with e|⟨_,e⟩|⟨e,_⟩
    ·omega
    ·rw[Ea (h.VU uP e hrd),og,og,ih]
    ·omega
   ·rw[FK h (by omega) hd]
    by_cases Lb:dn l q
    ·rw[Ea Lb,FK h (by omega) hd];exact ih
    ·rw[CN Lb];exact ih
 have p2:∀k,i+k<=ops.size->ga (FL t l (i+k)) d=ga (FL t l i) d:=by
  intro k
  induction k with
  |zero=>intro _;rfl
  |succ k ih=>
   intro hk;have ih:=ih (by omega);rw[← ih];show ga (FL t l (i+k+1)) d=_;by_cases Lb:dn l (i+k)
   ·rw[Ea Lb]
    refine FK h (by omega) λhd=>?_;rcases Ym hv _ hd with e|⟨e,_⟩|⟨_,e⟩
    ·rw[e]at Lb;exact vt Lb
    ·omega
    ·exact vt (h.VU uP e (uP _ Lb))
   ·rw[CN Lb]
 have:=p2 (ops.size-i) (by omega);rw[show i+(ops.size-i)=ops.size from by omega]at this;rw[this,p1 i (Nat.le_refl _)]
theorem Hy.fE(h:Hy P N C ops A ws F0 D0 t)(hs:l.size=ops.size)(uP:Cl ops l){i d:Nat}(hi:i<ops.size)(vt:¬dn l i):
  ((i,d)∉ws->ga (FL t (l.setIfInBounds i true) ops.size) d=ga (FL t l ops.size) d)/\((i,d)∈ws->∀v,ga (FL t (l.setIfInBounds i true) ops.size) d=some v->t.pr i=[]\/(d,v)∈t.pr i):=by
 have zZ:i<l.size:=by omega
 have off:∀q,q≠i->(dn (l.setIfInBounds i true) q↔dn l q):=λq hq=>by rw[j9 zZ];simp[hq]
 refine⟨λhd=>?_,λhd v hv=>?_⟩
 ·have key:∀q,q<=ops.size->ga (FL t (l.setIfInBounds i true) q) d=ga (FL t l q) d:=by
   intro q
   induction q with
   |zero=>intro _;rfl
   |succ q ih=>
    intro hq;have ih:=ih (by omega);by_cases e:q=i
    ·subst e
     rw[Ea ((j9 zZ).2 (.inr rfl)),CN vt,FK h hi hd];exact ih
    ·by_cases Lb:dn l q
     ·rw[Ea ((off q e).2 Lb),Ea Lb,og,og,ih]
     ·rw[CN (λx=>Lb ((off q e).1 x)),CN Lb];exact ih
  exact key _ (Nat.le_refl _)
 ·have key:∀k,i+1+k<=ops.size->ga (FL t (l.setIfInBounds i true) (i+1+k)) d=ga (FL t (l.setIfInBounds i true) (i+1)) d:=by
   intro k
   induction k with
   |zero=>intro _;rfl
   |succ k ih=>
    intro hk;have ih:=ih (by omega);rw[← ih];show ga (FL t _ (i+1+k+1)) d=_;by_cases Lb:dn (l.setIfInBounds i true) (i+1+k)
    ·rw[Ea Lb]
     refine FK h (by omega) λhm=>?_;have hq2:=(off _ (by omega)).1 Lb;exact vt (h.VU uP (aka h.hW _ _ hm i hd (by omega)) (uP _ hq2))
    ·rw[CN Lb]
  have e:=key (ops.size-(i+1)) (by omega);rw[show i+1+(ops.size-(i+1))=ops.size from by omega]at e;rw[e,Ea ((j9 zZ).2 (.inr rfl))]at hv;rcases h.pr hi with e|⟨d',v',e,hm,_⟩
  ·exact .inl e
  ·refine .inr ?_
   obtain⟨o1,h1,h2⟩:=h.mem.1 hm;obtain⟨o2,h3,h4⟩:=h.mem.1 hd;rw[h1]at h3;cases h3;rw[h2]at h4;cases h4;rw[e]at hv ⊢;simp only[List.cons_append,List.nil_append,ga,Nat.beq_refl,cond_true]at hv;cases hv;simp
theorem adM{α:Type}:∀{F:List (Nat×α)} {d:Nat} {v:α},ga F d=some v->(d,v)∈F:=by
 intro F
 induction F with
 |nil=>intro d v h;cases h
 |cons q r ih=>
  obtain⟨k,u⟩:=q;intro d v h;simp only[ga]at h;cases hb:Nat.beq k d with
  |true=>rw[hb]at h;cases h;rw[aoW hb];simp
  |false=>rw[hb]at h;exact ao6 _ (ih h)
theorem Hy.gd(h:Hy P N C ops A ws F0 D0 t)(uP:Cl ops l){i:Nat}(vt:¬dn l i){d j:Nat}{w:Bool}{x:AV G}(e:ga (FL t l ops.size) d=some (.gd j w x)):(i,j)∉ws:=by
 have iH:∀q,q<=ops.size->ga (FL t l q) d=some (.gd j w x)->ga (t.T 0).F d=some (.gd j w x)\/∃q',q'<ops.size/\dn l q'/\(d, .gd j w x)∈t.pr q':=by
  intro q
  induction q with
  |zero=>intro _ e;exact .inl e
  |succ q ih=>
   intro hq e;by_cases Lb:dn l q
   ·rw[Ea Lb,og]at e
    split at e
    ·rename_i v hv;cases e;exact .inr ⟨q,by omega,Lb,adM hv⟩
    ·exact ih (by omega) e
   ·rw[CN Lb]at e;exact ih (by omega) e
 intro hm;rcases iH _ (Nat.le_refl _) e with e|⟨q,q1,q2,q3⟩
 ·exact h.g0 d j w x e i hm
 ·rcases h.pr q1 with e|⟨d',v',e,_,hb⟩
  ·rw[e]at q3;cases q3
  ·rw[e]at q3
   simp at q3;exact vt (h.VU uP (aio (hb j w x q3.2.symm) i hm) (uP _ q2))
theorem Hy.sd(h:Hy P N C ops A ws F0 D0 t){q:Nat}(hq:q<ops.size)(hk:t.kd q= .d):StD P N C ops A ws F0 D0 (ops[q]'hq) q (t.rd q) (t.ac q) (t.on q) (t.pr q) (t.T q) (t.T (q+1)):=by have:=h.st q _ (Array.getElem?_eq_getElem hq);unfold mF at this;rw[hk]at this;exact this
theorem Hy.un(h:Hy P N C ops A ws F0 D0 t){q:Nat}(hq:q<ops.size)(hk:t.kd q≠ .d):t.T (q+1)=t.T q/\t.pr q=[]:=by
 have:=h.st q _ (Array.getElem?_eq_getElem hq);unfold mF at this;split at this
 ·rename_i e;exact absurd e hk
 ·exact this
theorem Hy.lg(h:Hy P N C ops A ws F0 D0 t){q:Nat}(hk:t.kd q= .d):∀{i:Nat},i<=ops.size->q<i->(⟨q,t.rd q,t.ac q,mZ (t.on q)⟩:Lg)∈(t.T i).lg:=by
 intro i
 induction i with
 |zero=>intro _ hq;omega
 |succ i ih=>
  intro hi hq;by_cases ki:t.kd i= .d
  ·rw[(h.sd (by omega) ki).lg']
   by_cases e:q=i
   ·subst e;exact List.mem_cons_self
   ·exact ao6 _ (ih (by omega) (by omega))
  ·rw[(h.un (by omega) ki).1]
   by_cases e:q=i
   ·subst e;exact absurd hk ki
   ·exact ih (by omega) (by omega)
theorem Hy.apart(h:Hy P N C ops A ws F0 D0 t){q i:Nat}(hi:i<ops.size)(hq:q<i)(kq:t.kd q= .d)(ki:t.kd i= .d)(hb:qN A i q≠true):(∀x∈t.ac q++mZ (t.on q),x∉t.rd i++t.ac i)/\∀x∈t.ac i++mZ (t.on i),x∉t.rd q++t.ac q:=by
 rcases afg (h.sd hi ki).VL _ (h.lg kq (Nat.le_of_lt hi) hq)with e|e
 ·exact absurd e hb
 ·exact e
theorem qM{p:Nat->Bool}:∀{O O':Os G},dS p (O++O')=dS p O++dS p O':=by
 intro O
 induction O with
 |nil=>intro O';rfl
 |cons q r ih=>
  obtain⟨k,v⟩:=q;intro O';simp only[List.cons_append,dS];cases p k with
  |true=>simp only[cond_true,List.cons_append,ih]
  |false=>simp only[cond_false,ih]
theorem tR{p q:Nat->Bool}:∀{O:Os G},dS p (dS q O)=dS q (dS p O):=by
 intro O
 induction O with
 |nil=>rfl
 |cons x r ih=>obtain⟨k,v⟩:=x;cases hp:p k<;>cases hq:q k<;>simp[dS,hp,hq,ih]
theorem Cd{p:Nat->Bool}:∀{O:Os G},(∀k∈mZ O,p k=true)->dS p O=O:=by
 intro O
 induction O with
 |nil=>intro _;rfl
 |cons x r ih=>obtain⟨k,v⟩:=x;intro h;simp only[dS,h k (by simp[mZ]),cond_true];rw[ih λk hk=>h k (by simp[mZ,hk])]
theorem HM{p:Nat->Bool}:∀{O:Os G},(∀k∈mZ O,p k=false)->dS p O=[]:=by
 intro O
 induction O with
 |nil=>intro _;rfl
 |cons x r ih=>obtain⟨k,v⟩:=x;intro h;simp only[dS,h k (by simp[mZ]),cond_false];exact ih λk hk=>h k (by simp[mZ,hk])
theorem Nz{p:Nat->Bool}:∀{O:Os G} {k:Nat},k∈mZ (dS p O)->p k=true/\k∈mZ O:=by
 intro O
 induction O with
 |nil=>intro k h;cases h
 |cons x r ih=>
  obtain⟨j,v⟩:=x;intro k h;simp only[dS]at h;cases hp:p j with
  |true=>
   rw[hp]at h;simp only[cond_true,mZ,List.mem_cons]at h;rcases h with rfl|h
   ·exact⟨hp,by simp[mZ]⟩
   ·exact⟨(ih h).1,by simp[mZ,(ih h).2]⟩
  |false=>rw[hp]at h;exact⟨(ih h).1,by simp[mZ,(ih h).2]⟩
theorem Xn{p:Nat->Bool}{O O':Os G}(h:O.Perm O'):(dS p O).Perm (dS p O'):=by
 induction h with
 |nil=>exact .refl _
 |cons x _ ih=>obtain⟨k,v⟩:=x;simp only[dS];cases p k with
  |true=>exact ih.cons _
  |false=>exact ih
 |swap x y l=>obtain⟨k,v⟩:=x;obtain⟨j,u⟩:=y;simp only[dS];cases p k<;>cases p j<;>first|exact .refl _ |exact .swap _ _ _
 |trans _ _ i1 i2=>exact i1.trans i2
theorem Lr{p:Nat->Bool}:∀{O:Os G},(dS p O).Sublist O:=by
 intro O
 induction O with
 |nil=>exact .refl _
 |cons x r ih=>obtain⟨k,v⟩:=x;simp only[dS];cases p k with
  |true=>exact ih.cons_cons _
  |false=>exact ih.cons _
theorem Xm{p:Nat->Bool}{O O':Os G}(h:O.Sublist O'):(dS p O).Sublist (dS p O'):=by
 induction h with
 |slnil=>exact .refl _
 |cons x _ ih=>obtain⟨k,v⟩:=x;simp only[dS];cases p k with
  |true=>exact ih.cons _
  |false=>exact ih
 |cons_cons x _ ih=>obtain⟨k,v⟩:=x;simp only[dS];cases p k with
  |true=>exact ih.cons_cons _
  |false=>exact ih
theorem FN{l:List Nat}{k:Nat}(h:k∉l):fe l k=false:=by
 cases hb:fe l k with
 |false=>rfl
 |true=>exact absurd (B3.1 hb) h
theorem Ri{z ac:List Nat}{O:Os G}(hz:∀x∈ac,x∉z):dS (fe z) (dS (λr=> !fe ac r) O)=dS (fe z) O:=by rw[tR];refine Cd λk hk=>?_;rw[FN λhm=>hz k hm (B3.1 (Nz hk).1)];rfl
def ML(t:Tc G)(l:Array Bool):Nat->Os G
 |0=>(t.T 0).M
 |q+1=>bif l.getD q false then(match t.kd q with
  | .d=>t.on q++dS (λr=> !fe (t.ac q) r) (ML t l q)
  |_ =>ML t l q)else ML t l q
theorem xK{q:Nat}(h:¬dn l q):ML t l (q+1)=ML t l q:=by
 unfold dn at h;show(bif l.getD q false then _ else ML t l q)=_;cases hb:l.getD q false with
 |true=>rw[hb]at h;exact absurd rfl h
 |false=>rfl
theorem CK{q:Nat}(h:dn l q)(hk:t.kd q= .d):ML t l (q+1)=t.on q++dS (λr=> !fe (t.ac q) r) (ML t l q):=by
 unfold dn at h;show(bif l.getD q false then(match t.kd q with
  | .d=>t.on q++dS (λr=> !fe (t.ac q) r) (ML t l q)
  |_ =>ML t l q)else ML t l q)=_
 rw[h,hk];rfl
theorem ai5(h:Hy P N C ops A ws F0 D0 t)(hd:∀q,q<ops.size->dn l q/\t.kd q= .d):∀q,q<=ops.size->ML t l q=(t.T q).M:=by
 intro q
 induction q with
 |zero=>intro _;rfl
 |succ q ih=>intro hq;obtain⟨h1,h2⟩:=hd q (by omega);rw[CK h1 h2,ih (by omega),(h.sd (by omega) h2).M']
theorem Hy.ajY(h:Hy P N C ops A ws F0 D0 t)(uP:Cl ops l){i:Nat}(z:List Nat)(hi:i<ops.size)(vt:¬dn l i)(hrd:∀k∈Dy ops i,dn l k)(hkd:∀q,q<ops.size->dn l q->t.kd q= .d)
  (h1:∀q,q<i->t.kd q= .d->qN A i q≠true->∀x∈t.ac q++mZ (t.on q),x∉z)(h2:∀q,i<q->q<ops.size->dn l q->∀x∈t.ac q++mZ (t.on q),x∉z):dS (fe z) (ML t l ops.size)=dS (fe z) (t.T i).M:=by
 have p1:∀q,q<=i->dS (fe z) (ML t l q)=dS (fe z) (t.T q).M:=by
  intro q
  induction q with
  |zero=>intro _;rfl
  |succ q ih=>
   intro hq;have ih:=ih (by omega);by_cases kq:t.kd q= .d
   case neg=>rw[(h.un (by omega) kq).1,xK λhd=>kq (hkd q (by omega) hd)];exact ih
   rw[(h.sd (by omega) kq).M'];by_cases hd:dn l q
   ·rw[CK hd kq,qM,qM,tR,ih,tR]
   ·rw[xK hd,ih,qM]
    have hb:qN A i q≠true:=λhb=>hd (h.VU uP hb hrd);have hz:=h1 q (by omega) kq hb;rw[HM (O:=t.on q) λk hk=>FN (hz k (ao0 _ hk)),List.nil_append,Ri λx hx=>hz x (ao1 _ hx)]
 have p2:∀k,i+k<=ops.size->dS (fe z) (ML t l (i+k))=dS (fe z) (ML t l i):=by
  intro k
  induction k with
  |zero=>intro _;rfl
  |succ k ih=>
   intro hk;have ih:=ih (by omega);rw[← ih];show dS (fe z) (ML t l (i+k+1))=_;by_cases hd:dn l (i+k)
   ·have hne:i<i+k:=by
     rcases Nat.eq_zero_or_pos k with e|e
     ·subst e;exact absurd hd vt
     ·omega
    rw[CK hd (hkd _ (by omega) hd),qM];have hz:=h2 _ hne (by omega) hd;rw[HM (O:=t.on (i+k)) λk' hk'=>FN (hz k' (ao0 _ hk')),List.nil_append,Ri λx hx=>hz x (ao1 _ hx)]
   ·rw[xK hd]
 have:=p2 (ops.size-i) (by omega);rw[show i+(ops.size-i)=ops.size from by omega]at this;rw[this,p1 i (Nat.le_refl _)]
theorem Hy.aki(h:Hy P N C ops A ws F0 D0 t)(hs:l.size=ops.size)(uP:Cl ops l){i:Nat}(hi:i<ops.size)(vt:¬dn l i)(hkd:∀q,q<ops.size->dn l q->t.kd q= .d)(ki:t.kd i= .d):(ML t (l.setIfInBounds i true) ops.size).Perm (t.on i++dS (λr=> !fe (t.ac i) r) (ML t l ops.size)):=by
 have zZ:i<l.size:=by omega
 have off:∀q,q≠i->(dn (l.setIfInBounds i true) q↔dn l q):=λq hq=>by rw[j9 zZ];simp[hq]
 have p1:∀q,q<=i->ML t (l.setIfInBounds i true) q=ML t l q:=by
  intro q
  induction q with
  |zero=>intro _;rfl
  |succ q ih=>
   intro hq;have ih:=ih (by omega);by_cases hd:dn l q
   ·rw[CK ((off q (by omega)).2 hd) (hkd q (by omega) hd),CK hd (hkd q (by omega) hd),ih]
   ·rw[xK λx=>hd ((off q (by omega)).1 x),xK hd,ih]
 have p2:∀k,i+1+k<=ops.size->(ML t (l.setIfInBounds i true) (i+1+k)).Perm (t.on i++dS (λr=> !fe (t.ac i) r) (ML t l (i+1+k))):=by
  intro k
  induction k with
  |zero=>intro _;show(ML t _ (i+1)).Perm (_ ++dS _ (ML t l (i+1)));rw[CK ((j9 zZ).2 (.inr rfl)) ki,xK vt,p1 i (Nat.le_refl _)]
  |succ k ih=>
   intro hk;have ih:=ih (by omega);show(ML t _ (i+1+k+1)).Perm (_ ++dS _ (ML t l (i+1+k+1)));by_cases hd:dn l (i+1+k)
   ·have kq:=hkd _ (by omega) hd
    have hb:qN A (i+1+k) i≠true:=λhb=>vt (h.VU uP hb (uP _ hd));obtain⟨a1,a2⟩:=h.apart (q:=i) (i:=i+1+k) (by omega) (by omega) ki kq hb;rw[CK ((off _ (by omega)).2 hd) kq,CK hd kq,qM];have e1:dS (λr=> !fe (t.ac (i+1+k)) r) (t.on i)=t.on i:=Cd λk' hk'=>by rw[FN λhm=>a1 k' (ao0 _ hk') (ao0 _ hm)];rfl
    have e2:dS (λr=> !fe (t.ac i) r) (t.on (i+1+k))=t.on (i+1+k):=Cd λk' hk'=>by rw[FN λhm=>a2 k' (ao0 _ hk') (ao0 _ hm)];rfl
    rw[e2];have Ve:=Xn (p:=λr=> !fe (t.ac (i+1+k)) r) ih;rw[qM,e1,tR]at Ve;refine(List.Perm.append_left _ Ve).trans ?_;rw[← List.append_assoc, ← List.append_assoc];exact List.Perm.append_right _ List.perm_append_comm
   ·rw[xK λx=>hd ((off _ (by omega)).1 x),xK hd];exact ih
 have:=p2 (ops.size-(i+1)) (by omega);rwa[show i+1+(ops.size-(i+1))=ops.size from by omega]at this
theorem Hy.atP(h:Hy P N C ops A ws F0 D0 t)(uP:Cl ops l){j:Nat}{un:List Nat}(hj:j<ops.size)(vt:¬dn l j)(hrd:∀k∈Dy ops j,dn l k)(hkd:∀q,q<ops.size->dn l q->t.kd q= .d)(hk0:∀q,q<j->t.kd q= .d)
  (h1:∀q,q<j->qN A j q=true\/(t.ac q=[]/\∀x∈mZ (t.on q),x∈un))(h2:∀q,j<q->q<ops.size->dn l q->t.ac q=[]):(dS (λr=> !fe un r) (t.T j).M).Sublist (ML t l ops.size):=by
 have OL:∀(O:Os G),dS (λr=> !fe ([]:List Nat) r) O=O:=λO=>Cd λk _ =>rfl;have p1:∀q,q<=j->dS (λr=> !fe un r) (ML t l q)=dS (λr=> !fe un r) (t.T q).M:=by
  intro q
  induction q with
  |zero=>intro _;rfl
  |succ q ih=>
   intro hq;have ih:=ih (by omega);have kq:=hk0 q (by omega);rw[(h.sd (by omega) kq).M'];rcases h1 q (by omega)with hb|⟨ea,hu⟩
   ·rw[CK (h.VU uP hb hrd) kq,qM,qM,tR,ih,tR]
   ·have en:dS (λr=> !fe un r) (t.on q)=[]:=HM λk hk=>by rw[B3.2 (hu k hk)];rfl
    rw[ea,OL,qM,en,List.nil_append];by_cases hd:dn l q
    ·rw[CK hd kq,ea,OL,qM,en,List.nil_append,ih]
    ·rw[xK hd,ih]
 have p2:∀k,j+k<=ops.size->(ML t l j).Sublist (ML t l (j+k)):=by
  intro k
  induction k with
  |zero=>intro _;exact .refl _
  |succ k ih=>
   intro hk;have ih:=ih (by omega);show(ML t l j).Sublist (ML t l (j+k+1));by_cases hd:dn l (j+k)
   ·have hne:j<j+k:=by
     rcases Nat.eq_zero_or_pos k with e|e
     ·subst e;exact absurd hd vt
     ·omega
    rw[CK hd (hkd _ (by omega) hd),h2 _ hne (by omega) hd,OL];exact ih.trans (List.sublist_append_right _ _)
   ·rw[xK hd];exact ih
 have:=p2 (ops.size-j) (by omega);rw[show j+(ops.size-j)=ops.size from by omega]at this;rw[← p1 j (Nat.le_refl _)];exact Lr.trans this
end Go.Rw
namespace Go.Rw
open Go Go.Bw Go.RowKit
variable {G:Sg} {P:Program} {N:Nat} {C:CC G} {ops:Array Oper} {A:List Nat} {ws:List (Nat×Nat)} {F0:Fr G} {D0:List (AV G)} {t:Tc G} {l:Array Bool}
theorem WJ{a a':Act}{d:Nat}{dst:Option Tmp}{u:Value}{Df:List Deferred}(ha:a'=({a with defers:=Df}:Act).put dst u)(h:dst≠some d):a'.tmps[d]? =a.tmps[d]? :=by
 subst ha;cases dst with
 |none=>rfl
 |some e=>show(a.tmps.setIfInBounds e u)[d]? =_;rw[Array.getElem?_setIfInBounds,aoV (λq=>h (by rw[q]))]
theorem agu{J:World->Prop}{ρ:bT}{a a':Act}{dst:Option Tmp}{u x:Value}{Df:List Deferred}{v:AV G}(ha:a'=({a with defers:=Df}:Act).put dst u)(hn:∀j w y,v= .gd j w y->dst≠some j)(h:rf J ρ a.tmps v x):rf J ρ a'.tmps v x:=by
 subst ha;cases dst with
 |none=>exact h
 |some e=>exact Ov h λj w y q hj=>hn j w y q (by rw[hj])
structure Iv(N:Nat)(C:CC G)(ops:Array Oper)(F0:Fr G)(D0:List (AV G))(t:Tc G)(c:Cx)(ρ0:bT)(J0:World->Prop)(HK X:List aO)(n0:Nat)(l:Array Bool)(a:Act)(w:World):Prop where
 size:l.size=ops.size
 cl:Cl ops l
 kd:∀q,q<ops.size->dn l q->t.kd q= .d
 ex:∃(ρ:bT) (J:World->Prop) (Y:List aO),ρ0.to ρ n0/\(∀w,J w->J0 w)/\Rl c N ρ J HK (Y++X) (⟨F0,[],D0⟩::C) ⟨FL t l ops.size,ML t l ops.size,(t.T ops.size).nx,[]⟩ a w/\
  ∀q,q<ops.size->¬dn l q->∀r,(t.T q).nx<=r->r<(t.T (q+1)).nx->ρ r=none
section
variable {c:Cx} {ρ0:bT} {J0:World->Prop} {HK X:List aO} {n0 i:Nat} {a:Act} {w:World} {K:Act->World->Prop} {Q:Exit->Act->World->Prop}
theorem ail(hs:l.size=ops.size)(uP:Cl ops l)(hi:i<ops.size)(hrd:∀k∈Dy ops i,dn l k):Cl ops (l.setIfInBounds i true):=λj hj k hk=>by
 have zZ:i<l.size:=by omega
 rcases(j9 zZ).1 hj with h|rfl
 ·exact(j9 zZ).2 (.inl (uP j h k hk))
 ·exact(j9 zZ).2 (.inl (hrd k hk))
theorem aeg(h:Hy P N C ops A ws F0 D0 t)(hs:l.size=ops.size)(uP:Cl ops l)(hi:i<ops.size)(vt:¬dn l i){o:Oper}(ho:ops[i]? =some o){nx:Nat}(hpk:ai1 A ws o i nx (t.pr i)){ρ ρ':bT}{J J':World->Prop}{a a':Act}{u2:Value}{Df:List Deferred}
  (ha:a'=({a with defers:=Df}:Act).put o.dst u2)(hJ:∀w,J' w->J w)(hle:ρ.le ρ')(hfs:sW J ρ (FL t l ops.size) a.tmps)(hn:∀d v,(d,v)∈t.pr i->v.lt nx=true->∃u,a'.tmps[d]? =some u/\rf J' ρ' a'.tmps v u):sW J' ρ' (FL t (l.setIfInBounds i true) ops.size) a'.tmps:=λd v e=>by
 obtain⟨m1,m2⟩:=h.fE (d:=d) hs uP hi vt;by_cases hd:(i,d)∈ws
 ·obtain⟨o',h1,h2⟩:=h.mem.1 hd
  rw[ho]at h1;cases h1;rcases hpk with⟨e1,_⟩|⟨d',v',e1,e2,e3,_⟩
  ·rw[e1]at h2;cases h2
  ·rcases m2 hd v e with q|q
   ·rw[e2]at q;cases q
   ·have q2:=q
    rw[e2]at q2;simp at q2;exact hn d v q (by rw[q2.2];exact e3)
 ·rw[m1 hd]at e
  obtain⟨u,u1,u3⟩:=hfs d v e;refine⟨u,?_,agu ha (λj w y q hj=>?_) ((u3.mono hJ).ext hle)⟩
  ·rw[WJ ha λq=>hd (h.mem.2 ⟨o,ho,q⟩)];exact u1
  ·subst q;exact h.gd uP vt e (h.mem.2 ⟨o,ho,hj⟩)
theorem Hy.step(h:Hy P N C ops A ws F0 D0 t){i:Nat}(hi:i<ops.size):(t.T i).nx<=(t.T (i+1)).nx:=by
 by_cases hk:t.kd i= .d
 ·obtain⟨S1,_,_,_,e,e2,_⟩:=(h.sd hi hk).run
  rw[e2];exact e
 ·rw[(h.un hi hk).1];exact Nat.le_refl _
theorem Hy.akj(h:Hy P N C ops A ws F0 D0 t){i:Nat}:∀k,i+k<=ops.size->(t.T i).nx<=(t.T (i+k)).nx:=by
 intro k
 induction k with
 |zero=>intro _;exact Nat.le_refl _
 |succ k ih=>intro hk;exact Nat.le_trans (ih (by omega)) (h.step (i:=i+k) (by omega))
theorem Hy.le(h:Hy P N C ops A ws F0 D0 t){i j:Nat}(hij:i<=j)(hj:j<=ops.size):(t.T i).nx<=(t.T j).nx:=by have:=h.akj (i:=i) (j-i) (by omega);rwa[show i+(j-i)=j from by omega]at this
theorem Vx{z ac:List Nat}{O:Os G}(hz:∀x∈ac,x∈z):dS (fe ac) (dS (fe z) O)=dS (fe ac) O:=by rw[tR];refine Cd λk hk=>B3.2 (hz k (B3.1 (Nz hk).1))
theorem RO.qf{J:World->Prop}{ρ:bT}{O O':Os G}(h:O.Perm O'):∀{H:List aO},RO J ρ O H->∃H',H.Perm H'/\RO J ρ O' H':=by
 induction h with
 |nil=>intro H r;exact⟨H, .refl _,r⟩
 |cons x _ ih=>
  intro H r;cases r with
  |cons h k=>obtain⟨H',p,q⟩:=ih k;exact⟨_,p.cons _, .cons h q⟩
 |swap x y l=>
  intro H r;cases r with
  |cons h k=>cases k with
   |cons h2 k2=>exact⟨_, .swap _ _ _, .cons h2 (.cons h k2)⟩
 |trans _ _ i1 i2=>intro H r;obtain⟨H1,p1,q1⟩:=i1 r;obtain⟨H2,p2,q2⟩:=i2 q1;exact⟨H2,p1.trans p2,q2⟩
theorem RO.sub{J:World->Prop}{ρ:bT}{O O':Os G}(h:O'.Sublist O):∀{H:List aO},RO J ρ O H->∃H',H'.Sublist H/\RO J ρ O' H':=by
 induction h with
 |slnil=>intro H r;exact⟨H, .refl _,r⟩
 |cons x _ ih=>
  intro H r;cases r with
  |cons h k=>obtain⟨H',p,q⟩:=ih k;exact⟨H',p.cons _,q⟩
 |cons_cons x _ ih=>
  intro H r;cases r with
  |cons h k=>obtain⟨H',p,q⟩:=ih k;exact⟨_,p.cons_cons _, .cons h q⟩
def bT.Xa(ρ:bT)(n:Nat):bT:=λr=>if r<n then ρ r else none
theorem bT.O7{ρ:bT}{n r:Nat}(h:r<n):ρ.Xa n r=ρ r:=aoU h
theorem bT.ad1{ρ:bT}{n:Nat}:(ρ.Xa n).fr n:=λr hr=>aoV (Nat.not_lt.2 hr)
theorem afq(h:Hy P N C ops A ws F0 D0 t)(cl:Cl ops l)(hi:i<ops.size)(vt:¬dn l i)(hrd:∀k∈Dy ops i,dn l k){rd ac:List Nat}(hz:dS (fe (rd++ac)) (ML t l ops.size)=dS (fe (rd++ac)) (t.T i).M)
  (lC:Bj (t.T i).nx (lyD F0 D0 (t.T i).M rd ac::C)=true)(lF:ltF (t.T i).nx (nv (λd=>Er A i d ws) (t.T i).F)=true)(lO:zW (t.T i).nx (dS (fe ac) (t.T i).M)=true){ρ:bT}{J:World->Prop}{Y:List aO}
  (hr:Rl c N ρ J HK (Y++X) (⟨F0,[],D0⟩::C) ⟨FL t l ops.size,ML t l ops.size,(t.T ops.size).nx,[]⟩ a w):
  ∃H2,RO J ρ (dS (λq=> !fe ac q) (ML t l ops.size)) H2/\Rl c N (ρ.Xa (t.T i).nx) J (H2++HK) (Y++X) (lyD F0 D0 (t.T i).M rd ac::C) ⟨nv (λd=>Er A i d ws) (t.T i).F,dS (fe ac) (t.T i).M,(t.T i).nx,[]⟩ a w:=by
 have hag:∀r,r<(t.T i).nx->ρ.Xa (t.T i).nx r=ρ r:=λr hr=>bT.O7 hr;obtain⟨HS,q1,q3⟩:=hr.hp;obtain⟨H1,H2,k1,k2,k3⟩:=q1.fil (p:=fe ac);have eac:dS (fe ac) (ML t l ops.size)=dS (fe ac) (t.T i).M:=by have:=congrArg (dS (fe ac)) hz;rwa[Vx λx hx=>ao0 _ hx,Vx λx hx=>ao0 _ hx]at this
 have R1:RO J ρ (dS (fe ac) (t.T i).M) H1:=by rw[← eac];exact k1
 have hlO:=IT lC;have hlF:=aae lC;refine⟨H2,k2,hr.tm,?_,⟨hr.si.s,λq=>hr.si.n (FO q)⟩,λd v e=>?_,λy hy=>?_,λr o e=>?_,⟨H1,R1.iW hag lO,?_⟩,hr.kn,bT.ad1⟩
 ·exact DR.iW hag hr.df hlO.2
 ·have e0:=e
  have e:ga (nv (λd=>Er A i d ws) (t.T i).F) d=some v:=e;rw[Vy]at e;cases hb:Er A i d ws with
  |false=>rw[hb]at e;cases e
  |true=>rw[hb]at e;obtain⟨u,u1,u2⟩:=hr.fs d v ((h.cQ cl hi hrd vt hb).trans e);exact⟨u,u1,u2.iW hag (afm lF e0)⟩
 ·rcases List.mem_cons.1 hy with rfl|hy
  ·exact sW.iW (F:=F0) hag (hlF _ List.mem_cons_self) (hr.fc _ List.mem_cons_self)
  ·exact(hr.fc y (ao6 _ hy)).iW hag (hlF y (ao6 _ hy))
 ·have hlo:=aad hlO.1 e
  have e:ga (dS (λq=>fe rd q&& !fe ac q) (t.T i).M++y6 C) r=some o:=e;rw[og]at e;split at e
  ·rename_i o' he
   cases e;rw[Pk]at he;cases hb:(fe rd r&& !fe ac r)with
   |false=>rw[hb]at he;cases he
   |true=>
    rw[hb]at he;simp only[aoX]at hb;have e2:=congrArg (λO=>ga O r) hz;simp only[Pk]at e2;rw[B3.2 (ao1 _ (B3.1 hb.1))]at e2;have e3:ga (dS (λq=> !fe ac q) (ML t l ops.size)) r=some o:=by rw[Pk,hb.2];exact e2.trans he
    obtain⟨x,x1,x2⟩:=k2.lk e3;exact⟨x,ao1 _ x1,x2.iW hag hlo⟩
  ·obtain⟨x,x1,x2⟩:=hr.kc r o e
   exact⟨x,ao0 _ x1,x2.iW hag hlo⟩
 ·refine q3.qf ?_
  rw[List.append_assoc, ← List.append_assoc H1];exact k3.append_right _
theorem ans(h:Hy P N C ops A ws F0 D0 t)(hv:Iv N C ops F0 D0 t c ρ0 J0 HK X n0 l a w)(h0:n0<=(t.T i).nx)(hi:i<ops.size)(vt:¬dn l i)(hrd:∀k∈Dy ops i,dn l k)(hk:t.kd i= .d)
  (hz:dS (fe (t.rd i++t.ac i)) (ML t l ops.size)=dS (fe (t.rd i++t.ac i)) (t.T i).M)(hK:∀a' w',Iv N C ops F0 D0 t c ρ0 J0 HK X n0 (l.setIfInBounds i true) a' w'->K a' w'):
  wpOpIn (FA c.ro) 0 P ops Q i K a w:=by
 have ho:ops[i]? =some ops[i]:=Array.getElem?_eq_getElem hi;have hsi:=h.sd hi hk;obtain⟨size,cl,kd,ρ,J,Y,hto,hJ,hr,hun⟩:=hv;obtain⟨H2,hro,hr'⟩:=afq h cl hi vt hrd hz hsi.lC hsi.lF hsi.lO hr;obtain⟨S1,hU,hD,hon,hn,hx',hpr⟩:=hsi.run;have hag:∀r,r<(t.T i).nx->ρ.Xa (t.T i).nx r=ρ r:=λr hr=>bT.O7 hr;have hlO:=IT hsi.lC;have hlF:=aae hsi.lC;refine ZI ho (hU c _ J (H2++HK) (Y++X) a w (λe a' w'=>e= .normal/\∃(ρ':bT) (J':World->Prop) (Y':List aO),(ρ.Xa (t.T i).nx).to ρ' (t.T i).nx/\(∀w,J' w->J w)/\Rl c N ρ' J' (H2++HK) (Y'++(Y++X)) (lyD F0 D0 (t.T i).M (t.rd i) (t.ac i)::C) S1 a' w') hr' λρ' J' Y' a' w' me k1 k2 k3 k4=>⟨oW k3,ρ',J',Y',k1,k2,k4⟩) ?_ (λe a w he q=>absurd q.1 he);rintro a' w' ⟨_,ρ',J',Y',m1,m2,m3⟩ ⟨u2,Df,ha⟩;have zZ:i<l.size:=by omega
 let ρ2:bT:=λr=>if(t.T i).nx<=r/\r<(t.T (i+1)).nx then ρ' r else ρ r
 have hle:ρ.le ρ2:=λr v e=>by
  show(if _ then _ else _)=_;by_cases hc:(t.T i).nx<=r/\r<(t.T (i+1)).nx
  ·rw[hun i hi vt r hc.1 hc.2]at e;cases e
  ·rw[aoV hc];exact e
 have ahJ:∀r,r<(t.T (i+1)).nx->ρ2 r=ρ' r:=λr hr=>by
  show(if _ then _ else _)=_;by_cases hc:(t.T i).nx<=r
  ·rw[aoU ⟨hc,hr⟩]
  ·rw[aoV λq=>hc q.1,m1 r (by omega),hag r (by omega)]
 have ahI:∀r,r<(t.T i).nx->ρ2 r=ρ' r:=λr hr=>ahJ r (Nat.lt_of_lt_of_le hr (h.step hi));have anP:∀r,r<(t.T i).nx->ρ2 r=ρ r:=λr hr=>by show(if _ then _ else _)=_;rw[aoV (by omega)]
 obtain⟨HS1,s1,s3⟩:=m3.hp;rw[hon]at s1;refine hK _ _ ⟨by simpa using size,ail size cl hi hrd,λq hq hd=>?_,ρ2,J',Y'++Y,λr hr=>(anP r (by omega)).trans (hto r hr),λw q=>hJ w (m2 w q),?_,λq hq hd r r1 r2=>?_⟩
 ·rcases(j9 zZ).1 hd with hd|rfl
  ·exact kd q hq hd
  ·exact hk
 ·obtain⟨Hn,pn,rn⟩:=RO.qf (h.aki size cl hi vt kd hk).symm ((s1.iW ahJ hsi.lN).app (hro.up m2 hle))
  refine⟨m3.tm,?_,⟨m3.si.s,hr.si.n⟩,?_,λy hy=>?_,λr o e=>?_,⟨Hn,rn,?_⟩,by rw[List.append_assoc];exact m3.kn,λr hr'=>?_⟩
  ·have:=m3.df
   rw[hD]at this;exact DR.iW (n:=(t.T i).nx) ahI this hlO.2
  ·refine aeg h size cl hi vt ho hsi.pk ha m2 hle hr.fs λd v hm hlt=>?_
   obtain⟨u,u1,u3⟩:=m3.fs d v (hpr d v hm);exact⟨u,u1,u3.iW ahJ hlt⟩
  ·rcases List.mem_cons.1 hy with rfl|hy
   ·exact sW.iW (F:=F0) ahI (hlF _ List.mem_cons_self) (m3.fc _ List.mem_cons_self)
   ·exact(m3.fc y (ao6 _ hy)).iW ahI (hlF y (ao6 _ hy))
  ·obtain⟨x,x1,x2⟩:=hr.kc r o e
   exact⟨x,x1,x2.up m2 hle⟩
  ·refine s3.qf ?_
   have:=pn.append_right (HK++((Y'++Y)++X));simpa[List.append_assoc]using this
  ·have hr':(t.T ops.size).nx<=r:=hr'
   have:(t.T (i+1)).nx<=(t.T ops.size).nx:=h.le (by omega) (Nat.le_refl _);show(if _ then _ else _)=_;rw[aoV (by omega)];exact hr.fr r hr'
 ·have hq2:¬dn l q:=λx=>hd ((j9 zZ).2 (.inl x))
  have hne:q≠i:=λx=>hd ((j9 zZ).2 (.inr x));show(if _ then _ else _)=_;have:¬((t.T i).nx<=r/\r<(t.T (i+1)).nx):=λ⟨x1,x2⟩=>by
   rcases Nat.lt_or_ge q i with hlt|hge
   ·have:=h.le (i:=q+1) (j:=i) hlt (Nat.le_of_lt hi);omega
   ·have:=h.le (i:=i+1) (j:=q) (by omega) (Nat.le_of_lt hq);omega
  rw[aoV this];exact hun q hq hq2 r r1 r2
theorem adI{n:Nat}{O O':Os G}(h:O'.Sublist O):zW n O=true->zW n O'=true:=by
 induction h with
 |slnil=>exact id
 |cons x _ ih=>
  obtain⟨k,v⟩:=x;intro h;cases v<;>simp only[zW,aoX]at h
  ·exact ih h.2.2
  ·exact ih h.2
  ·exact ih h.2
  ·exact ih h.2
 |cons_cons x _ ih=>
  obtain⟨k,v⟩:=x;intro h;cases v<;>simp only[zW,aoX]at h ⊢
  ·exact⟨h.1,h.2.1,ih h.2.2⟩
  ·exact⟨h.1,ih h.2⟩
  ·exact⟨h.1,ih h.2⟩
  ·exact⟨h.1,ih h.2⟩
theorem anr(h:Hy P N C ops A ws F0 D0 t)(hv:Iv N C ops F0 D0 t c ρ0 J0 HK X n0 l a w)(h0:n0<=(t.T i).nx)(hi:i<ops.size)(vt:¬dn l i)(hrd:∀k∈Dy ops i,dn l k){rd ac:List Nat}{v:AV G}{S':AS G}(hp:∀o,ops[i]? =some o->StP P N C ops A ws F0 D0 o i rd ac v (t.T i) S')(hk0:∀q,q<i->t.kd q= .d)(hah:∀q,i<q->q<ops.size->GJ A i (rd++ac) t q)(hq:Aft c N C ρ0 J0 HK X n0 S' (.zP v) Q):
  wpOpIn (FA c.ro) 0 P ops Q i K a w:=by
 have ho:ops[i]? =some ops[i]:=Array.getElem?_eq_getElem hi;have hsi:=hp _ ho;obtain⟨S1,hU,hD,hn,rfl⟩:=hsi.run;obtain⟨size,cl,kd,ρ,J,Y,hto,hJ,hr,hun⟩:=hv;have hz:=h.ajY cl (rd++ac) hi vt hrd kd (λq q1 _ hb=>by
  rcases afg hsi.VL _ (h.lg (hk0 q q1) (Nat.le_of_lt hi) q1)with e|e
  ·exact absurd e hb
  ·exact e.1) (λq q1 q2 hd=>by
  rcases hah q q1 q2 with⟨_,e1,e2⟩|⟨e,_⟩
  ·rw[e1];exact e2
  ·rw[kd q q2 hd]at e;cases e)
 obtain⟨H2,hro,hr'⟩:=afq h cl hi vt hrd hz hsi.lC hsi.lF hsi.lO hr;have hat:=h.atP (un:=unN A i (t.T i).lg) cl hi vt hrd kd hk0 (λq q1=>by
  have hm:=h.lg (hk0 q q1) (Nat.le_of_lt hi) q1;cases hb:qN A i q with
  |true=>exact .inl rfl
  |false=>
   rcases akb hsi.chu _ hm with e|e
   ·have e:qN A i q=true:=e
    rw[hb]at e;cases e
   ·exact .inr ⟨e,ajJ _ hm hb⟩) (λq q1 q2 hd=>by
  rcases hah q q1 q2 with⟨_,e1,_⟩|⟨e,_⟩
  ·exact e1
  ·rw[kd q q2 hd]at e;cases e)
 obtain⟨HL,sl,rl⟩:=hro.sub (Xm (p:=λq=> !fe ac q) hat);have hlO:=IT hsi.lC;have hlC:Bj (t.T i).nx C=true:=by have:=hsi.lC;simp only[Bj,aoX]at this;exact this.2.2.2
 refine ZI ho (hU c _ J (H2++HK) (Y++X) a w (λe a' w'=>e≠ .normal/\Q e a' w') hr' λρ' J' Y' a' w' me k1 k2 k3 k4=>⟨sJ (by simp) k3,?_⟩) (λa w q=>absurd rfl q.1) (λe a w _ q=>q.2);have hag:∀r,r<(t.T i).nx->ρ' r=ρ r:=λr hr=>(k1 r hr).trans (bT.O7 hr);obtain⟨HS1,s1,s3⟩:=k4.hp;refine hq ρ' J' (Y'++Y) a' w' me (λr hr=>(hag r (by omega)).trans (hto r hr)) (λw q=>hJ w (k2 w q)) k3 ?_;refine⟨k4.tm,?_,⟨k4.si.s,hr.si.n⟩,k4.fc _ List.mem_cons_self,λy hy=>k4.fc y (ao6 _ hy),λr o e=>?_,⟨HS1++HL,s1.app ((rl.iW hag (adI (Lr.trans Lr) hsi.lM)).up k2 (bT.le_refl _)),?_⟩,by rw[List.append_assoc];exact k4.kn,k4.fr⟩
 ·have:=k4.df
  rw[hD]at this;exact this
 ·obtain⟨x,x1,x2⟩:=hr.kc r o e
  exact⟨x,x1,(x2.iW hag (aad (IT hlC).1 e)).up k2 (bT.le_refl _)⟩
 ·refine s3.sub ?_
  have:((HS1++HL)++(HK++((Y'++Y)++X))).Sublist ((HS1++H2)++(HK++((Y'++Y)++X))):=(List.Sublist.append_left sl HS1).append (.refl _);simpa[List.append_assoc]using this
theorem ahR(h:Hy P N C ops A ws F0 D0 t)(hd:∀q,q<ops.size->dn l q):∀q,q<=ops.size->FL t l q=(t.T q).F:=by
 intro q
 induction q with
 |zero=>intro _;rfl
 |succ q ih=>intro hq;rw[Ea (hd q (by omega)),h.F' (by omega),ih (by omega)]
theorem ahf(h:Hy P N C ops A ws F0 D0 t)(hB:XL ops []=true){e:Ex G}{S':AS G}(hrun:afN P N C ops A ws F0 D0 ops.toList 0 t e S')(h0:n0<=(t.T 0).nx)(hq:Aft c N C ρ0 J0 HK X n0 S' e Q):∀(fuel:Nat) (l:Array Bool) (a:Act) (w:World),w6 ops l<=fuel->Iv N C ops F0 D0 t c ρ0 J0 HK X n0 l a w->wpAnyIn (FA c.ro) 0 P .any ops Q fuel l a w:=by
 have fin:∀(l:Array Bool) (a:Act) (w:World),Iv N C ops F0 D0 t c ρ0 J0 HK X n0 l a w->(∀q,q<ops.size->dn l q)->Q .normal a w:=by
  intro l a w hv hd;obtain⟨size,cl,kd,ρ,J,Y,hto,hJ,hr,_⟩:=hv;rcases hrun.2 with⟨rfl,rfl,hk⟩|⟨j,o,v,_,_,_,j2,j3,_⟩
  ·have hlen:0+ops.toList.length=ops.size:=by simp
   rw[hlen]at hq;rw[ai5 h (λq hq=>⟨hd q hq,kd q hq (hd q hq)⟩) _ (Nat.le_refl _),ahR h hd _ (Nat.le_refl _)]at hr;refine hq ρ J Y a w .normal hto hJ trivial ?_;obtain⟨HS,q1,q3⟩:=hr.hp;refine⟨hr.tm,hr.df,⟨hr.si.s,hr.si.n⟩,λd v e=>?_,λy hy=>hr.fc y (ao6 _ hy),hr.kc,⟨HS,q1,q3⟩,hr.kn,hr.fr⟩;have e:ga ((t.T ops.size).F++F0) d=some v:=e;rw[og]at e;split at e
   ·rename_i v' hv;cases e;exact hr.fs d _ hv
   ·exact hr.fc _ List.mem_cons_self d v e
  ·have hj:j<ops.size:=by
    have:=(List.getElem?_eq_some_iff.1 j2).1;simpa using this
   have:=kd j hj (hd j hj);rw[j3]at this;cases this
 intro fuel
 induction fuel with
 |zero=>
  intro l a w hu hv;have xq:∀i,i<ops.size->dn l i:=λi hi=>by unfold w6 at hu;have h0:(List.range ops.size).filter (λi=> !l.getD i false)=[]:=List.length_eq_zero_iff.1 (by omega);rw[List.filter_eq_nil_iff]at h0;have:=h0 i (by simpa using hi);simpa[dn]using this
  refine⟨?_,fin l a w hv xq⟩;cases hr:Region.ready .any ops l with
  |nil=>rfl
  |cons i r=>
   have:i∈Region.ready .any ops l:=by rw[hr];simp
   obtain⟨h1,h2,_⟩:=(Go.Bw.y9 hv.size).1 this;exact absurd (xq i h1) h2
 |succ fuel ih=>
  intro l a w hu hv;refine⟨λhr=>fin l a w hv (RC hB hv.size hr),λi hi=>?_⟩;obtain⟨h1,h2,h3⟩:=(Go.Bw.y9 hv.size).1 hi;have hu':w6 ops (l.setIfInBounds i true)<=fuel:=by have:=KB hv.size h1 h2;omega
  have hi0:n0<=(t.T i).nx:=Nat.le_trans h0 (h.le (Nat.zero_le _) (Nat.le_of_lt h1));have go:t.kd i= .d->wpOpIn (FA c.ro) 0 P ops Q i (wpAnyIn (FA c.ro) 0 P .any ops Q fuel (l.setIfInBounds i true)) a w:=by intro hk;refine ans h hv hi0 h1 h2 h3 hk ?_ λa' w' Q3=>ih _ a' w' hu' Q3;refine h.ajY hv.cl _ h1 h2 h3 hv.kd (λq q1 kq hb=>(h.apart h1 q1 kq hk hb).1) λq q1 q2 hd=>?_;have hb:qN A q i≠true:=λhb=>h2 (h.VU hv.cl hb (hv.cl _ hd));obtain⟨_,a2⟩:=h.apart q2 q1 hk (hv.kd q q2 hd) hb;exact a2
  have hlen:ops.toList.length=ops.size:=by simp
  rcases hrun.2 with⟨_,_,hk⟩|⟨j,o,v,rd,ac,_,j2,j3,rfl,j5,j6,j7⟩
  ·exact go (hk i (Nat.zero_le _) (by omega))
  ·rcases Nat.lt_trichotomy i j with hlt|rfl|hgt
   ·exact go (j6 i (Nat.zero_le _) hlt)
   ·refine anr h hv hi0 h1 h2 h3 (v:=v) (S':=S') (λo' ho'=>?_) (λq q1=>j6 q (Nat.zero_le _) q1) (λq q1 q2=>j7 q q1 (by omega)) hq
    have j2:ops[i]? =some o:=by simpa using j2
    rw[ho']at j2;cases j2;exact j5
   ·rcases j7 i hgt (by omega)with⟨e,_⟩|⟨_,e⟩
    ·exact go e
    ·have hd:=h.VU hv.cl e h3
     have hj:j<ops.size:=by omega
     have:=hv.kd j hj hd;rw[j3]at this;cases this
end
section
variable {Z:Type} {rec:WT G Z} {cp:List Nat} {z:Z} {K:Ex G->AS G->Option Z} {S:AS G}
theorem aia(dy:tu P rec){id:Nat}{ops:Array Oper}{tb:Ba P G}(h:drR tb rec N cp C (.ops ops ops.toList) S K=some z):∃e S',K e S'=some z/\S.nx<=S'.nx/\US P N C (.code (.region id ops true)) S S' e:=by
 unfold drR at h;dsimp only at h;cases hb:(WN (JE ops ops.size) (Ce 0 ops.toList) (Ce 0 ops.toList)&&(XL ops []&&P.follows .mixedOrders))with
 |false=>rw[hb]at h;cases h
 |true=>
  rw[hb]at h;simp only[aoX]at hb;obtain⟨b1,b2,b3⟩:=hb;obtain⟨t,e,S',k1,k2,k3⟩:=alC dy h;have hy:Hy P N C ops (JE ops ops.size) (Ce 0 ops.toList) (nv (λd=> !(wrD d (Ce 0 ops.toList))&& !Xf (Ce 0 ops.toList) S.F d) S.F) S.D t:=by
   refine⟨rfl,rfl,b1,λq o ho=>k3.1 q o (Nat.zero_le _) (by simpa using ho),λd j w x e q=>?_⟩;rw[k2]at e;have e:ga (nv (λd=>wrD d (Ce 0 ops.toList)&& !Xf (Ce 0 ops.toList) S.F d) S.F) d=some (.gd j w x):=e;rw[Vy]at e;cases hc:(wrD d (Ce 0 ops.toList)&& !Xf (Ce 0 ops.toList) S.F d)with
   |false=>rw[hc]at e;cases e
   |true=>rw[hc]at e;simp only[cond_true]at e;simp only[aoX,Bool.not_eq_true']at hc;have:=hc.2;unfold Xf at this;rw[e]at this;exact ajG this q
  have R5:S.nx<=S'.nx:=by
   have h0:(t.T 0).nx=S.nx:=by rw[k2]
   rcases k3.2 with⟨_,rfl,_⟩|⟨j,o,v,rd,ac,_,j2,_,_,hp,_⟩
   ·have:=hy.le (Nat.zero_le _) (Nat.le_refl ops.size)
    simp only[Nat.zero_add,Array.length_toList]at this ⊢;omega
   ·have hj:j<ops.size:=by
     have:=(List.getElem?_eq_some_iff.1 j2).1;simpa using this
    have:=hy.le (Nat.zero_le j) (Nat.le_of_lt hj);obtain⟨S1,_,_,hn,rfl⟩:=hp.run;show S.nx<=S1.nx;omega
  refine⟨e,S',k1,R5,λc ρ J HK X a w Q hr hq=>?_⟩;refine wpIn_region_any b3 ?_;have hdn:∀j,¬dn (Array.replicate ops.size false) j:=λj h=>by unfold dn at h;simp only[Array.getD_eq_getD_getElem?,Array.getElem?_replicate]at h;split at h<;>simp at h
  have hle:S.nx<=(t.T ops.size).nx:=by have:=hy.le (Nat.zero_le _) (Nat.le_refl ops.size);rw[k2]at this;exact this
  refine ahf hy b2 k3 (by rw[k2];exact Nat.le_refl _) hq ops.size _ a _ ?_ ⟨by simp,λj hj=>absurd hj (hdn j),λq _ hd=>absurd hd (hdn q),ρ,J,[],bT.gL _ _,λ_ h=>h,?_,λq hq _ r r1 _ =>hr.fr r ?_⟩
  ·unfold w6
   exact Nat.le_trans (List.length_filter_le _ _) (by simp)
  ·have hF:FL t (Array.replicate ops.size false) ops.size=(t.T 0).F:=by
    have:∀q,FL t (Array.replicate ops.size false) q=(t.T 0).F:=by
     intro q
     induction q with
     |zero=>rfl
     |succ q ih=>rw[CN (hdn q),ih]
    exact this _
   have hM:ML t (Array.replicate ops.size false) ops.size=(t.T 0).M:=by
    have:∀q,ML t (Array.replicate ops.size false) q=(t.T 0).M:=by
     intro q
     induction q with
     |zero=>rfl
     |succ q ih=>rw[xK (hdn q),ih]
    exact this _
   rw[hF,hM];have e0:=k2;rw[k2];obtain⟨HS,q1,q3⟩:=hr.hp;refine⟨hr.tm,hr.df,⟨hr.si.s.drawn _,hr.si.n⟩,hr.fs.fil,λy hy=>?_,λr o e=>hr.kc r o e,⟨HS,q1,⟨λr hr=>q3.holds r hr,q3.own,q3.apart⟩⟩,hr.kn,λr hr'=>hr.fr r (Nat.le_trans hle hr')⟩;rcases List.mem_cons.1 hy with rfl|hy
   ·exact hr.fs.fil
   ·exact hr.fc y hy
  ·have:=hy.le (Nat.zero_le q) (Nat.le_of_lt hq)
   rw[k2]at this;exact Nat.le_trans this r1
end
end Go.Rw
namespace Go.Rw
open Go Go.Bw Go.RowKit
variable {G:Sg} {P:Program} {N:Nat} {C:CC G} {Z:Type}
theorem FJ{S:AS G}{l:List (Src×Sh)}:(pF C S l).nx=S.nx:=by
 unfold pF;split
 ·exact Aa _ _
 ·rfl
theorem acE{cf:Cf}{S S3:AS G}{e:Ex G}(l:List (Src×Sh))(h:US P N C cf (pF C S l) S3 e):US P N C cf S S3 e:=by
 unfold pF at h;split at h
 ·exact Fq _ h
 ·exact h
theorem Rl.pF{c:Cx}{ρ:bT}{J:World->Prop}{HK X:List aO}{S:AS G}{a:Act}{w:World}(l:List (Src×Sh))(h:Rl c N ρ J HK X C S a w):∃(J':World->Prop) (Y:List aO),(∀w,J' w->J w)/\Rl c N ρ J' HK (Y++X) C (pF C S l) a w:=by
 unfold Go.Rw.pF;split
 ·exact h.Ca _
 ·exact⟨J,[],λ_ h=>h,h⟩
def xC(N:Nat)(C:CC G):List Nat->AV G->AS G->Option (AS G)
 |[], .nil,S=>some S
 |p::ps, .cons v r,S=>match yC N C (some p) v S with
  |some S'=>bif D3 v then xC N C ps r S' else none
  |none=>none
 |_,_,_ =>none
theorem aeA{z:Z}:∀{ps:List Nat} {v:AV G} {S:AS G} {k:AS G->Option Z},NM N C ps v S k=some z->∃S',xC N C ps v S=some S'/\k S'=some z:=by
 intro ps
 induction ps with
 |nil=>intro v S k h;cases v<;>first|(exact⟨S,rfl,h⟩)|(simp[NM]at h)
 |cons p ps ih=>
  intro v S k h;cases v<;>first|(simp[NM]at h;done)|skip
  rename_i v' r;simp only[NM]at h;split at h
  ·rename_i S2 hS
   cases hb:D3 v' with
   |false=>rw[hb]at h;cases h
   |true=>rw[hb]at h;obtain⟨S3,k1,k2⟩:=ih h;exact⟨S3,by simp only[xC,hS,hb,cond_true];exact k1,k2⟩
  ·cases h
theorem abC:∀{ps:List Nat} {v:AV G} {S S':AS G},xC N C ps v S=some S'->S'.nx=S.nx:=by
 intro ps
 induction ps with
 |nil=>intro v S S' e;cases v<;>first|(simp[xC]at e;done)|(have e:S=S':=(by simpa[xC]using e);rw[e])
 |cons p ps ih=>
  intro v S S' e;cases v<;>first|(simp[xC]at e;done)|skip
  rename_i v r;simp only[xC]at e;split at e
  ·rename_i S2 hS
   cases hb:D3 v with
   |false=>rw[hb]at e;cases e
   |true=>rw[hb]at e;exact(ih e).trans (qS hS)
  ·cases e
theorem Rl.bind{c:Cx}{ρ:bT}{J:World->Prop}{HK X:List aO}{w:World}:∀{ps:List Nat} {v:AV G} {S S':AS G} {a:Act} {us:List Value},Rl c N ρ J HK X C S a w->xC N C ps v S=some S'->rl J ρ v us->
  Rl c N ρ J HK X C S' {a with tmps:=(ps.zip us).foldl (λt q=>t.setIfInBounds q.1 q.2) a.tmps} w/\S'.nx=S.nx:=by
 intro ps
 induction ps with
 |nil=>
  intro v S S' a us h e hv;cases v<;>first|(simp[xC]at e;done)|skip
  have e:S=S':=by simpa[xC]using e
  subst e;exact⟨h,rfl⟩
 |cons p ps ih=>
  intro v S S' a us h e hv;cases v<;>first|(simp[xC]at e;done)|skip
  rename_i v r;simp only[xC]at e;split at e
  ·rename_i S2 hS
   cases hb:D3 v with
   |false=>rw[hb]at e;cases e
   |true=>rw[hb]at e;obtain⟨u,us',rfl,h1,h2⟩:=hv;have hp:=h.put hS (Uz h1 _);obtain⟨q1,q2⟩:=ih hp e h2;exact⟨q1,q2.trans (qS hS)⟩
  ·cases e
theorem Rc{J:World->Prop}{ρ:bT}{A B:Fr G}{t:Array Value}(h:sW J ρ A t)(k:sW J ρ B t):sW J ρ (A++B) t:=λd v e=>by
 rw[og]at e;split at e
 ·rename_i v' hv;cases e;exact h d _ hv
 ·exact k d v e
theorem ahS{J:World->Prop}{ρ:bT}{t:Array Value}:∀{C:CC G},FC J ρ C t->sW J ρ (flF C) t:=by
 intro C
 induction C with
 |nil=>intro _ d v e;cases e
 |cons y r ih=>intro h;exact Rc (h y List.mem_cons_self) (ih λz hz=>h z (ao6 _ hz))
theorem Rl.YW{c:Cx}{ρ:bT}{J:World->Prop}{X B:List aO}{d0:aO}{l:Nat}{o o':Obj}{S:AS G}{a:Act}{w:World}(h:Rl c N ρ J (d0:: .obj l o::B) X C S a w)(ho:∀b,aip b o->aip b o'):
  Rl c N ρ J (d0:: .obj l o'::B) X C S a (w.putObj l o')/\w.heap[l]? =some o:=by
 obtain⟨HS,q1,q3⟩:=h.hp;have pm:∀x:aO,(HS++((d0::x::B)++X)).Perm (x::(HS++(d0::(B++X)))):=λx=>by simpa using(List.perm_middle (a:=x) (l₁:=HS++[d0]) (l₂:=B++X))
 have q4:=q3.qf (pm _);have hm:aO.obj l o∈(aO.obj l o::(HS++(d0::(B++X)))):=List.mem_cons_self;have hd:w.heap[l]? =some o:=q4.holds _ hm;have hlt:=(ao2.1 hd).1;have qI:bG [l] w (w.putObj l o'):=⟨rfl,rfl,rfl,by simp[World.putObj],λk _ hk=>World.putObj_heap_other (by simpa using hk)⟩;have q5:=q4.set (k:=0) (r':= .obj l o') rfl qI.size (λj hj hne=>qI.block j hj hne) (World.putObj_heap_same hlt) h.si.s.size (λb' hb'=>by
  have e:b'=l:=by simpa[aO.eL]using hb'
  subst e;exact⟨.inl (by simp[aO.eL]),by rw[World.putObj];simpa using hlt⟩)
 refine⟨⟨h.tm,h.df,⟨h.si.s.store q4 hm (by simp[aO.eL]) qI,h.si.n⟩,h.fs,h.fc,λr ob e=>?_,⟨HS,q1,q5.qf (pm _).symm⟩,h.kn,h.fr⟩,hd⟩;obtain⟨y,y1,y2⟩:=h.kc r ob e;rcases List.mem_cons.1 y1 with rfl|y1
 ·exact⟨_,List.mem_cons_self,y2⟩
 ·rcases List.mem_cons.1 y1 with rfl|y1
  ·refine⟨_,ao6 _ List.mem_cons_self,?_⟩
   cases ob with
   |eL T c=>obtain⟨_,_,_,e,_⟩:=y2;cases e
   |row _ _ _ _ =>obtain⟨_,_,_,e,_⟩:=y2;cases e
   |gm=>obtain⟨_,e⟩:=y2;cases e
   |aux b=>obtain⟨n,x,m1,e,m3⟩:=y2;cases e;exact⟨_,_,m1,rfl,ho b m3⟩
  ·exact⟨y,ao6 _ (ao6 _ y1),y2⟩
inductive RgT(P:Program)(N:Nat)(C':CC G)(ps:List Nat)(a b:Code)(g:gA)(base:Nat)(it:It P G):List it.B->HL G (br (v8 g.l))->Ex G->AS G->Prop
 |nil {e:HL G (br (v8 g.l))}:RgT P N C' ps a b g base it [] e .o5 (stR g base e)
 |fE {y:it.B} {l:List it.B} {e e':HL G (br (v8 g.l))} {S2 S3 S4 Sf:AS G} {e1:Ex G} (hb:xC N C' ps (iA (λm=>m) it.ys (it.en y) 0).1 (stR g base e)=some S2) (h1:US P N C' (.code a) S2 S3 .o5) (n1:S2.nx<=S3.nx)
   (h2:US P N C' (.code b) S3 S4 .o5) (hg:Lf C' (pF C' S4 g.l) g base=some e') (k:RgT P N C' ps a b g base it l e' e1 Sf):RgT P N C' ps a b g base it (y::l) e e1 Sf
 |stop {y:it.B} {l:List it.B} {e:HL G (br (v8 g.l))} {S2 S3 S4:AS G} {e1:Ex G} (hb:xC N C' ps (iA (λm=>m) it.ys (it.en y) 0).1 (stR g base e)=some S2) (h1:US P N C' (.code a) S2 S3 .o5) (n1:S2.nx<=S3.nx)
   (h2:US P N C' (.code b) S3 S4 e1) (he:e1= .ret\/∃i,e1= .exit i) (hD:S4.D=[]):RgT P N C' ps a b g base it (y::l) e e1 S4
structure Gh(G:Sg)(L:List Ty) where
 e:HL G L
 ρ:bT
 J:World->Prop
 Y:List aO
 HB:List aO
structure ajb(ρ3:bT)(base:Nat)(X1 L0:List aO)(O:Os G)(nx:Nat){L:List Ty}(i:Gh G L):Prop where
 to:ρ3.to i.ρ base
 mJ:∀w,i.J w->Hs X1 w
 ro:RO i.J i.ρ O i.HB
 kn:XW G (i.Y++X1) i.J
 fr:i.ρ.fr nx
 ap:∀b∈cm (i.HB++(L0++i.Y)),b∉cm X1
theorem aj7{N:Nat}:∀{ps:List Nat},psN N ps=true->ps.all (Nat.blt · N)=true:=by
 intro ps
 induction ps with
 |nil=>intro _;rfl
 |cons p r ih=>intro h;simp only[psN,aoX]at h;simp only[List.all_cons,aoX];exact⟨h.1,ih h.2⟩
theorem IX{bs:List Nat}{n0:Nat}{H X:List aO}{w:World}(h:cC bs n0 H w)(hs:∀r∈X,r∈H):Hs X w:=λr hr=>⟨h.holds r (hs r hr),λb hb=>(h.own r (hs r hr) b hb).2⟩
theorem Yo{gop:Operand}{ps:Array Nat}{a b:Code}{S S1:AS G}{it:It P G}{cap v:AV G}{x:HL G (br it.yH)}{g1 g2:GS G}{g:gA}{x0:HL G (br (v8 g.l))}{l:List it.B}{e1:Ex G}{Sf:AS G}
  (XS:mK C S [] gop=some (.fn (.func it.k) .nil cap))(Ld:qK it.yH cap ⟨[],S.O,S.nx⟩=some (x,g1))(hS1:pF C ⟨S.F,g1.O,g1.nx,S.D⟩ g.l=S1)(hv:G7 C ⟨S1.F,S1.O,S1.nx+2,S1.D⟩ g.l=some v)
  (aht:qK (v8 g.l) v ⟨[],S1.O,S1.nx+2⟩=some (x0,g2))(b1:zS g.nm g2.th=true)(b2:zT (S1.nx+2) g.nm=true)(hn:it.n=ps.size)(hrd:K0 (y6 C)=true)(hl:Bj (S1.nx+2) (lyR ps.toList a b C S1 g2.O)=true)
  (hlO:zW (S1.nx+2) g2.O=true)(hlC:Bj (S1.nx+2) C=true)(hps:psN N ps.toList=true)(hf:it.f x=some l)(ht:RgT P N (lyR ps.toList a b C S1 g2.O) ps.toList a b g (S1.nx+2) it l x0 e1 Sf):
  US P N C (.code (.rangeFunc gop ps a b)) S (WM S1.nx S1 g2.O Sf) e1:=by
 intro c ρ J HK X ac w Q hr hq;obtain⟨fs,cs,e2,r1,r3⟩:=Ab ((gk hr (ch:=[]) (by simp)).ok _ _ XS);have r1:fs=[]:=r1;subst r1;obtain⟨HS,q1,q3⟩:=hr.hp;obtain⟨ρ2,XG,H1,k⟩:=Li Ld r3 q1 hr.fr;have kto:ρ.to ρ2 S.nx:=k.to;have Q7:ρ.le ρ2:=kto.le hr.fr;have R4:Rl c N ρ2 J (XG++HK) X C ⟨S.F,g1.O,g1.nx,S.D⟩ ac w:=by
  refine⟨hr.tm,hr.df.up (λ_ h=>h) Q7,hr.si,hr.fs.up (λ_ h=>h) Q7,hr.fc.up (λ_ h=>h) Q7,λr o e=>?_,⟨H1,k.left,?_⟩,hr.kn,k.fr⟩
  ·obtain⟨y,y1,y2⟩:=hr.kc r o e
   exact⟨y,ao0 _ y1,y2.up (λ_ h=>h) Q7⟩
  ·have:=k.hp (HK++X) _ _ _ q3
   refine this.qf ?_;rw[List.append_assoc];exact List.perm_append_comm_assoc XG H1 _
 obtain⟨J1,Y1,mJ,h3⟩:=R4.pF g.l;rw[hS1]at h3;have anN:S1.nx=g1.nx:=by rw[← hS1,FJ]
 obtain⟨ρ3,hρ3⟩:∃ρ3:bT,ρ3=(ρ2.set S1.nx (fW w.heap.size 0)).set (S1.nx+1) (fW (w.heap.size+1) 0):=⟨_,rfl⟩;have t3:ρ2.to ρ3 S1.nx:=by rw[hρ3];exact(bT.sq ρ2 S1.nx _).trans (bT.sq _ (S1.nx+1) _) (by omega)
 have f3:ρ3.fr (S1.nx+2):=by rw[hρ3];exact bT.Eu (bT.Eu h3.fr _) _
 have l3:ρ2.le ρ3:=t3.le h3.fr;have d3:ρ3 S1.nx=some (fW w.heap.size 0):=by rw[hρ3];simp[bT.set]
 have o3:ρ3 (S1.nx+1)=some (fW (w.heap.size+1) 0):=by rw[hρ3];simp[bT.set]
 have h4:Rl c N ρ3 J1 (XG++HK) (Y1++X) C ⟨S1.F,S1.O,S1.nx+2,S1.D⟩ ac w:=by obtain⟨HS',s1,s3⟩:=h3.hp;exact⟨h3.tm,h3.df.up (λ_ h=>h) l3,h3.si,h3.fs.up (λ_ h=>h) l3,h3.fc.up (λ_ h=>h) l3,h3.XO (λ_ h=>h) l3,⟨HS',s1.up (λ_ h=>h) l3,s3⟩,h3.kn,f3⟩
 obtain⟨ρ',ρ5,HB,H',hto,ht5,Le,hleft,_,hp,_,_,hfr⟩:=UZ h4 hv aht b1 b2 (Nat.le_refl _) hlC;have hto:ρ3.to ρ' (S1.nx+2):=hto;obtain⟨X1,hX1⟩:∃X1,X1=Y1++X:=⟨_,rfl⟩;have Vi:XW G X1 J1:=by rw[hX1];exact h4.kn
 rw[← hX1]at hp;have aaG:∀{σ:bT} {J':World->Prop},ρ3.to σ (S1.nx+2)->(∀w,J' w->Hs X1 w)->RO J' σ g2.O H':=λ{σ J'} hs hm=>(hleft.iW (λr hr'=>(hs r hr').trans (ht5 r hr').symm) hlO).up (λw q=>Vi.to w (hm w q)) (bT.le_refl _);have hkc:∀{σ:bT} {J':World->Prop},ρ3.to σ (S1.nx+2)->(∀w,J' w->Hs X1 w)->∀r o,ga (y6 C) r=some o->∃x∈HK,ro J' σ r o x:=λ{σ J'} hs hm=>hr.XO (λw q=>mJ w (Vi.to w (hm w q))) (bT.le_trans Q7 (bT.le_trans l3 (hs.le f3)));obtain⟨xP,en1,en2,hit⟩:=it.ok (cmp ρ2 g1.th) (Hs X1) XG X1 cs x l hf (k.val.mono λw q=>mJ w (Vi.to w q)) (k.eL.up (λw q=>mJ w (Vi.to w q)) (bT.le_refl _)) ⟨λ_ h=>h,Vi.ex,Vi.gl.mono Vi.to⟩ (λr hr'=>by
  unfold cmp;rw[List.getElem?_eq_none (by have:=k.R7;exact Nat.le_trans (Nat.le_of_eq this.symm) hr')])
 obtain⟨C',hC'⟩:∃C',C'=lyR ps.toList a b C S1 g2.O:=⟨_,rfl⟩;rw[← hC']at hl ht;obtain⟨H0,hH0⟩:∃H0,H0=XG++(HB++((H'++HK)++[])):=⟨_,rfl⟩;have W8:cC c.bs c.w0.heap.size (H0++X1) w:=hp.qf (by
  rw[hH0];have:(HB++(H'++((XG++HK)++X1))).Perm (XG++(HB++(H'++(HK++X1)))):=by rw[List.append_assoc XG];refine(List.Perm.append_left HB (List.perm_append_comm_assoc H' XG _)).trans ?_;exact List.perm_append_comm_assoc HB XG _
  simpa using this)
 have hX:Hs X1 w:=IX W8 λr hr'=>ao0 _ hr';have apX:∀b∈cm H0,b∉cm X1:=λb h1 h2=>by obtain⟨r,r1,r2⟩:=bN.1 h1;obtain⟨r',r3,r4⟩:=bN.1 h2;exact(List.pairwise_append.1 W8.apart).2.2 r r1 r' r3 b r2 r4
 have ltX:∀b∈cm X1,b<w.heap.size:=λb h2=>by obtain⟨r',r3,r4⟩:=bN.1 h2;exact(hX r' r3).2 b r4
 have aj1:∀{w'},Apt H0 w w'->∀b∈cm X1,w'.heap[b]? =w.heap[b]? :=λ{w'} ha b hb=>ha.2 b (ltX b hb) λh=>apX b h hb;have Vb:∀{w'},Apt H0 w w'->Hs X1 w':=λ{w'} ha r hr'=>⟨aO.om (hX r hr').1 ha.1 λb hb=>aj1 ha b (bN.2 ⟨r,hr',hb⟩),λb hb=>Nat.lt_of_lt_of_le ((hX r hr').2 b hb) ha.1⟩;have pwX:X1.Pairwise aO.apart:=(List.pairwise_append.1 W8.apart).2.1;have aiv:∀{bs:List Nat} {n0:Nat} {L:List aO} {w':World},cC bs n0 L w'->Hs X1 w'->(∀b∈cm L,b∉cm X1)->(∀b∈cm X1,b∈bs\/n0<=b)->cC bs n0 (L++X1) w':=λ{bs n0 L w'} h1 h2 h3 h4=>⟨λr hr'=>(List.mem_append.1 hr').elim (h1.holds r) λh=>(h2 r h).1,λr hr' b hb=>(List.mem_append.1 hr').elim (λh=>h1.own r h b hb) λh=>⟨h4 b (bN.2 ⟨r,h,hb⟩),(h2 r h).2 b hb⟩,
   List.pairwise_append.2 ⟨h1.apart,pwX,λr r1 s s1 b b1 b2=>h3 b (bN.2 ⟨r,r1,b1⟩) (bN.2 ⟨s,s1,b2⟩)⟩⟩
 have anf:∀b∈cm X1,b∈c.bs\/c.w0.heap.size<=b:=λb h2=>by obtain⟨r',r3,r4⟩:=bN.1 h2;exact(W8.own r' (ao0 _ r3) b r4).1
 have fin:∀(i:Gh G (br (v8 g.l))) (w2:World) (Sx:AS G),ajb ρ3 (S1.nx+2) X1 (H'++HK) Sx.O Sx.nx i->Apt H0 w w2->St N c (Go.Bw.mark w.heap.size::ac.defers) [] (.obj w.heap.size (.deferred (some []))::([]++(i.HB++((H'++HK)++i.Y)))) {ac with defers:=Go.Bw.mark w.heap.size::ac.defers} w2->
   ρ.to i.ρ S.nx/\(∀w,i.J w->J w)/\Rl c N i.ρ i.J HK ((i.Y++Y1)++X) C (WM S1.nx S1 g2.O Sx) {ac with defers:=Go.Bw.mark w.heap.size::ac.defers} w2:=λi w2 Sx hi ha hst=>by
  have hle:ρ3.le i.ρ:=hi.to.le f3;have anO:S.nx<=S1.nx:=by rw[anN];exact k.nx
  have mJ1:∀w,i.J w->J1 w:=λw q=>Vi.to w (hi.mJ w q);refine⟨(kto.trans t3 anO).trans hi.to (by omega),λw q=>mJ w (mJ1 w q),hst.tm,?_,⟨hst.si,hr.si.n⟩,h4.fs.up mJ1 hle,h4.fc.up mJ1 hle,hkc hi.to hi.mJ,⟨.obj w.heap.size (.deferred (some []))::(i.HB++H'), .cons ⟨_,_,?_,rfl,rfl⟩ (hi.ro.app (aaG hi.to hi.mJ)),?_⟩,by rw[List.append_assoc, ← hX1];exact hi.kn,hi.fr⟩
  ·exact .cons ⟨rfl,_,(hi.to S1.nx (by omega)).trans d3,rfl⟩ (h4.df.up mJ1 hle)
  ·exact(hi.to S1.nx (by omega)).trans d3
  ·have h1:=hst.hp.sub (List.Sublist.cons_cons _ (List.sublist_append_right [] _))
   have h2:=aiv h1 (Vb ha) (λb hb hx=>by
    have hb:b=w.heap.size\/b∈cm (i.HB++((H'++HK)++i.Y)):=by simpa[cm,aO.eL]using hb
    rcases hb with rfl|hb
    ·exact absurd (ltX _ hx) (by omega)
    ·exact hi.ap b hb hx) anf
   rw[hX1]at h2;refine h2.qf ?_;simp only[List.append_assoc,List.cons_append];exact .refl _
 have key:=Xx (P:=P) (N:=N) (c:=c) (D:=ac.defers) (Q:=Q) (g:=gop) (ps:=ps.toList) (assign:=a) (body:=b) (gf:=it.k) (n:=l.length) (caps:=cs.toArray) (Hc:=XG) (Ho:=[]) (xP:=xP) (α:=Gh G (br (v8 g.l))) (β:=Gh G (br (v8 g.l))) (a:=ac) (w:=w)
  (H:=H0) ⟨hr.tm,λd v e=>by simp[lk]at e,rfl,hr.si.s,W8.sub (List.sublist_append_left _ _)⟩ (hr.si.n hrd) e2 (λargs w=>by
   obtain⟨fn,f1,f2,f5⟩:=it.fn;have h1:fn.name≠ "runtime.NumGoroutine" :=by simpa using f5
   obtain⟨code,f2⟩:=Option.isSome_iff_exists.1 f2;simp[callFunc,f1,h1,f2,Go.mark]) (λly Jy Jx bs W1 ha qJ hpE hR=>hit ly Jy Jx bs W1 (aiv (L:= .ext bs (Jy 0 bs)::XG) ⟨hpE.holds,λr hr' b hb=>⟨(hpE.own r hr' b hb).1.imp (λh=>(List.mem_append.1 h).elim (λh=>ao1 _ h) λh=>ao0 _ (ao1 _ h)) id,(hpE.own r hr' b hb).2⟩,hpE.apart⟩ (Vb ha) (λb hb hx=>by
    have hb:b∈bs\/b∈cm XG:=by simpa[cm,aO.eL]using hb
    rcases hb with hb|hb
    ·rcases qJ b hb with hb|hb
     ·exact apX b hb hx
     ·exact absurd (ltX _ hx) (by omega)
    ·refine apX b ?_ hx
     rw[hH0];obtain⟨r,r1,r2⟩:=bN.1 hb;exact bN.2 ⟨r,ao1 _ r1,r2⟩) λb hb=> .inl (ao0 _ (ao0 _ hb))) hR) (λk=>by rw[en2,hn];simp) (aj7 hps)
  (λk i=>ajb ρ3 (S1.nx+2) X1 (H'++HK) (stR g (S1.nx+2) i.e).O (stR g (S1.nx+2) i.e).nx i/\RgT P N C' ps.toList a b g (S1.nx+2) it (l.drop k) i.e e1 Sf) (λ_ i=>i.HB++((H'++HK)++i.Y))
  (λj i=>ajb ρ3 (S1.nx+2) X1 (H'++HK) Sf.O Sf.nx i/\((e1= .ret/\j= .ret)\/∃id,e1= .exit id/\j= .exit id)) (λi=>i.HB++((H'++HK)++i.Y))
  ⟨x0,ρ',Hs X1,[],HB⟩ ⟨⟨hto,λ_ h=>h,Le.up Vi.to (bT.le_refl _),⟨λ_ h=>h,Vi.ex,Vi.gl.mono Vi.to⟩,hfr,λb hb=>apX b (by
   rw[hH0];obtain⟨r,r1,r2⟩:=bN.1 hb;exact bN.2 ⟨r,ao0 _ r1,r2⟩)⟩,by simpa using ht⟩ hH0
  ?_ ?_ ?_
 ·rwa[Array.toArray_toList]at key
 ·rintro k ⟨ie,iρ,iJ,iY,iHB⟩ rec bs W hk ⟨hi,hrun⟩ hrs hrp hn0 hT haW hpW
  dsimp only at hrun hpW;have hle:ρ3.le iρ:=hi.to.le f3;have mJ1:∀w,iJ w->J1 w:=λw q=>Vi.to w (hi.mJ w q);obtain⟨y,hy,alg⟩:∃y,l[k]? =some y/\l.drop k=y::l.drop (k+1):=⟨l[k],ao3 hk,List.drop_eq_getElem_cons hk⟩;rw[alg]at hrun;have hpX:cC (bs++cm X1) W.heap.size ((.obj w.heap.size (.deferred (some [])):: .obj (w.heap.size+1) (.loop rec)::(iHB++((H'++HK)++iY)))++X1) W:=by
   refine aiv ⟨hpW.holds,λr hr' b hb=>⟨(hpW.own r hr' b hb).1.imp (λh=>ao1 _ h) id,(hpW.own r hr' b hb).2⟩,hpW.apart⟩ (Vb haW) (λb hb hx=>?_) λb hb=> .inl (ao0 _ hb);have hb:b=w.heap.size\/b=w.heap.size+1\/b∈cm (iHB++((H'++HK)++iY)):=by simpa[cm,aO.eL]using hb
   rcases hb with rfl|rfl|hb
   ·exact absurd (ltX _ hx) (by omega)
   ·exact absurd (ltX _ hx) (by omega)
   ·exact hi.ap b hb hx
  have HE:Rl ⟨some (w.heap.size+1),W,bs++cm X1⟩ N iρ iJ (.obj w.heap.size (.deferred (some [])):: .obj (w.heap.size+1) (.loop rec)::(H'++HK)) (iY++X1) C' (stR g (S1.nx+2) ie) ⟨ac.tmps,[]⟩ W:=by
   subst hC';refine⟨hr.tm, .nil,⟨bG.refl _ _,λq=>(by cases q)⟩,λd v e=>(by cases e),λy hy=>?_,λr o e=>?_,⟨iHB,hi.ro,hpX.qf ?_⟩,hi.kn,hi.fr⟩
   ·have:y=_ :=List.mem_singleton.1 hy
    subst this;exact((Rc h4.fs (ahS h4.fc)).fil).up mJ1 hle
   ·have e:ga (((S1.nx+1,Ob.aux false)::(g2.O++y6 C))++[]) r=some o:=e
    rw[List.append_nil]at e;simp only[ga]at e;cases hb:Nat.beq (S1.nx+1) r with
    |true=>rw[hb]at e;cases e;obtain rfl:=aoW hb;exact⟨_,ao6 _ List.mem_cons_self,_,_,(hi.to (S1.nx+1) (by omega)).trans o3,rfl,rec,rfl⟩
    |false=>
     rw[hb]at e;simp only[cond_false]at e;rw[og]at e;split at e
     ·rename_i v' Q3
      cases e;obtain⟨x,x1,x2⟩:=(aaG hi.to hi.mJ).lk Q3;exact⟨x,by simp[x1],x2⟩
     ·obtain⟨x,x1,x2⟩:=hkc hi.to hi.mJ r o e
      exact⟨x,by simp[x1],x2⟩
   ·have e1:iHB++((.obj w.heap.size (.deferred (some [])):: .obj (w.heap.size+1) (.loop rec)::(H'++HK))++(iY++X1))=iHB++(.obj w.heap.size (.deferred (some [])):: .obj (w.heap.size+1) (.loop rec)::((H'++HK)++(iY++X1))):=by simp
    rw[e1];have:=((List.perm_middle (a:=aO.obj w.heap.size (.deferred (some []))) (l₁:=iHB) (l₂:= .obj (w.heap.size+1) (.loop rec)::((H'++HK)++(iY++X1)))).trans (List.Perm.cons _ List.perm_middle)).symm;simpa using this
  have hT':∀b,(b∈(⟨some (w.heap.size+1),W,bs⟩:Cx).bs\/(⟨some (w.heap.size+1),W,bs⟩:Cx).w0.heap.size<=b)->(b∈c.bs\/c.w0.heap.size<=b):=hT;have gO:∀{Hb Hy:List aO} {o:Obj} {w3:World} {a2:Act},a2.tmps.size=N->a2.defers=[]->bG (bs++cm X1) W w3->cC (bs++cm X1) W.heap.size (Hb++((.obj w.heap.size (.deferred (some [])):: .obj (w.heap.size+1) o::(H'++HK))++(Hy++(iY++X1)))) w3->
    St N ⟨some (w.heap.size+1),W,bs⟩ [] [] (.obj w.heap.size (.deferred (some [])):: .obj (w.heap.size+1) o::(Hb++((H'++HK)++(Hy++iY)))) a2 w3/\∀b∈cm (Hb++((H'++HK)++(Hy++iY))),b∉cm X1:=λ{Hb Hy o w3 a2} u1 u2 u3 u4=>by
   have e1:Hb++((.obj w.heap.size (.deferred (some [])):: .obj (w.heap.size+1) o::(H'++HK))++(Hy++(iY++X1)))=Hb++(.obj w.heap.size (.deferred (some [])):: .obj (w.heap.size+1) o::(((H'++HK)++(Hy++iY))++X1)):=by simp
   rw[e1]at u4;have u5:=u4.qf ((List.perm_middle (a:=aO.obj w.heap.size (.deferred (some []))) (l₁:=Hb)).trans (List.Perm.cons _ List.perm_middle));have e2:(aO.obj w.heap.size (.deferred (some []))::aO.obj (w.heap.size+1) o::(Hb++(((H'++HK)++(Hy++iY))++X1)))=(.obj w.heap.size (.deferred (some [])):: .obj (w.heap.size+1) o::(Hb++((H'++HK)++(Hy++iY))))++X1:=by simp
   rw[e2]at u5;have hX3:Hs X1 w3:=IX u5 λr hr'=>ao0 _ hr';have apL:∀b∈cm (.obj w.heap.size (.deferred (some [])):: .obj (w.heap.size+1) o::(Hb++((H'++HK)++(Hy++iY)))),b∉cm X1:=λb h1 h2=>by obtain⟨r,r1,r2⟩:=bN.1 h1;obtain⟨r',r3,r4⟩:=bN.1 h2;exact(List.pairwise_append.1 u5.apart).2.2 r r1 r' r3 b r2 r4
   refine⟨⟨u1,λd v e=>by simp[lk]at e,u2,⟨u3.os,u3.tape,u3.output,u3.size,λb h1 h2=>?_⟩,⟨λr hr'=>u5.holds r (ao1 _ hr'),λr hr' b hb=>?_,(List.pairwise_append.1 u5.apart).1⟩⟩,λb hb=>apL b ?_⟩
   ·rcases Classical.em (b∈cm X1)with hx|hx
    ·exact Vi.ex W w3 (Vb haW) hX3 b hx
    ·exact u3.block b h1 λh=>(List.mem_append.1 h).elim h2 hx
   ·obtain⟨o1,o2⟩:=u5.own r (ao1 _ hr') b hb
    refine⟨?_,o2⟩;rcases o1 with o1|o1
    ·exact(List.mem_append.1 o1).elim .inl λhx=>absurd hx (apL b (bN.2 ⟨r,hr',hb⟩))
    ·exact .inr o1
   ·obtain⟨r,r1,r2⟩:=bN.1 hb
    exact bN.2 ⟨r,ao6 _ (ao6 _ r1),r2⟩
  have aoK:(stR g (S1.nx+2) ie).nx=S1.nx+2+g.nm.length:=rfl;cases hrun with
  |fE hb h1 n1 h2 hg kk=>
   obtain⟨hb1,R5⟩:=HE.bind hb ((en1 iρ k y hy).mono hi.mJ);refine h1 ⟨some (w.heap.size+1),W,bs++cm X1⟩ iρ iJ _ _ _ W _ hb1 λρa Ja Ya a1 w1 me t1 m1 x1 z1=>?_;rw[oW x1];obtain⟨z2,hh⟩:=z1.YW (o':= .loop {rec with state:= .busy}) (λb hb=>by cases b with
    |true=>cases hb
    |false=>exact⟨_,rfl⟩)
   refine⟨_,run_beginRound hh hrs,?_⟩;refine h2 ⟨some (w.heap.size+1),W,bs++cm X1⟩ ρa Ja _ _ a1 _ _ z2 λρb Jb Yb a2 w3 me t2 m2 x2 z3=>?_;rw[oW x2];obtain⟨Jc,Yc,mc,z4⟩:=z3.pF g.l;obtain⟨ρc,tc,z5⟩:=adE z4 hg hl;obtain⟨HB5,r5,p5⟩:=z5.hp;have hd:a2.defers=[]:=by have h0:=z5.df;subst hC';have h0:DR Jc ρc ([]:List (AV G)) a2.defers:=h0;generalize a2.defers=D0 at h0;cases h0;rfl
   have e5:Yc++(Yb++(Ya++(iY++X1)))=(Yc++(Yb++Ya))++(iY++X1):=by simp
   rw[e5]at p5;obtain⟨st5,ap5⟩:=gO z5.tm hd z5.si.s p5;refine ac3 (l:=w.heap.size+1) (dd:=w.heap.size) (rec:=rec) hrs hrp hT' st5 ⟨_,ρc,Jc,(Yc++(Yb++Ya))++iY,HB5⟩ ⟨⟨λr hr'=>?_,λw q=>hi.mJ w (m1 w (m2 w (mc w q))),r5,?_,z5.fr,ap5⟩,kk⟩ rfl
   ·exact(tc r hr').trans ((t2 r (by omega)).trans ((t1 r (by omega)).trans (hi.to r hr')))
   ·have:=z5.kn
    rw[e5, ← List.append_assoc]at this;exact this
  |stop hb h1 n1 h2 he hD=>
   obtain⟨hb1,R5⟩:=HE.bind hb ((en1 iρ k y hy).mono hi.mJ);refine h1 ⟨some (w.heap.size+1),W,bs++cm X1⟩ iρ iJ _ _ _ W _ hb1 λρa Ja Ya a1 w1 me t1 m1 x1 z1=>?_;rw[oW x1];obtain⟨z2,hh⟩:=z1.YW (o':= .loop {rec with state:= .busy}) (λb hb=>by cases b with
    |true=>cases hb
    |false=>exact⟨_,rfl⟩)
   refine⟨_,run_beginRound hh hrs,?_⟩;refine h2 ⟨some (w.heap.size+1),W,bs++cm X1⟩ ρa Ja _ _ a1 _ _ z2 λρb Jb Yb a2 w3 me t2 m2 x2 z3=>?_;obtain⟨HB5,r5,p5⟩:=z3.hp;have hd:a2.defers=[]:=by have h0:=z3.df;rw[hD]at h0;subst hC';have h0:DR Jb ρb ([]:List (AV G)) a2.defers:=h0;generalize a2.defers=D0 at h0;cases h0;rfl
   have e5:Yb++(Ya++(iY++X1))=(Yb++Ya)++(iY++X1):=by simp
   rw[e5]at p5;obtain⟨st5,ap5⟩:=gO z3.tm hd z3.si.s p5;obtain⟨j,hj1,hj2⟩:∃j:Code,((me= .ret/\j= .ret)\/∃id,me= .exit id/\j= .exit id)/\((e1= .ret/\j= .ret)\/∃id,e1= .exit id/\j= .exit id):=by
    rcases he with rfl|⟨id,rfl⟩
    ·exact⟨.ret, .inl ⟨J5 x2,rfl⟩, .inl ⟨rfl,rfl⟩⟩
    ·exact⟨.exit id, .inr ⟨id,Lt x2,rfl⟩, .inr ⟨id,rfl,rfl⟩⟩
   refine ac2 (l:=w.heap.size+1) (dd:=w.heap.size) (rec:=rec) hT' hj1 st5 (j,⟨ie,ρb,Jb,(Yb++Ya)++iY,HB5⟩) ⟨⟨λr hr'=>?_,λw q=>hi.mJ w (m1 w (m2 w q)),r5,?_,z3.fr,ap5⟩,hj2⟩ rfl
   ·exact(t2 r (by omega)).trans ((t1 r (by omega)).trans (hi.to r hr'))
   ·have:=z3.kn
    rw[e5, ← List.append_assoc]at this;exact this
 ·rintro⟨ie,iρ,iJ,iY,iHB⟩ w2 ⟨hi,hrun⟩ ha hst
  rw[List.drop_length]at hrun;generalize hie:(⟨ie,iρ,iJ,iY,iHB⟩:Gh G (br (v8 g.l))).e=ie' at hrun;dsimp only at hie;subst hie;cases hrun with
  |nil=>obtain⟨u1,u2,u3⟩:=fin _ w2 _ hi ha hst;exact hq iρ iJ (iY++Y1) _ w2 .normal u1 u2 trivial u3
 ·rintro j i w2 ⟨hi,hj⟩ ha hst
  obtain⟨u1,u2,u3⟩:=fin _ w2 _ hi ha hst;rcases hj with⟨rfl,rfl⟩|⟨id,rfl,rfl⟩
  ·exact wpIn_ret (hq i.ρ i.J (i.Y++Y1) _ w2 .ret u1 u2 trivial u3)
  ·exact wpIn_exit (hq i.ρ i.J (i.Y++Y1) _ w2 (.exit id) u1 u2 rfl u3)
end Go.Rw
namespace Go.Rw
open Go Go.Bw Go.RowKit
variable {G:Sg} {P:Program} {N:Nat} {C:CC G} {tt:TT P G}
theorem Yt{all:Array Oper}{r:List Oper}{S S1 S3:AS G}{e:Ex G}{T el bt q d1:Nat}{x lo:Operand}{k ki:IntKind}{i:Int}{qq:Bool}{xs:List Int}{t1 t2:TypeId}{p1 p2:String}{f1 f2:Array Edge}
  (hT:tt.te.find T=some (.sl el 1 bt))(hz:VH P el k=true)(hx:mK C S [] x=some (.row q))(ho:ga S.O q=some (.row el 1 (.int k) xs))(hl:s7 (mK C S [] lo)=some (ki,i,qq))(hi:bQ i (xs.length+1)=true)(hp:yC N C (some d1) .YA S=some S1)
  (dy:US P N C (.ops all r) {S1 with O:=yA S1.O q (.row el 1 (.int k) (xs.take i.toNat++List.replicate (xs.length-i.toNat) (0:Int)))} S3 e):
  US P N C (.ops all (⟨some d1, .slice T x (some lo) none none,t1,p1,f1,none⟩::⟨none, .call ⟨.builtin .clear, #[.tmp d1], #[T]⟩,t2,p2,f2,none⟩::r)) S S3 e:=by
 intro c ρ J HK X a w Q hr hq;refine wpListIn_step λK hK=>?_;rw[aoU (R8.none rfl c ρ J HK X a w hr)];obtain⟨HS,h1,hs0,hm⟩:=hr.st;have hE:=gk hr (ch:=[]) (by simp);obtain⟨kk,x0,k1,⟨vv,ws,m1,rfl,m3,m4,m5⟩,k3⟩:=h1.set ho;have hvx:=xY (hE.ok _ _ hx) m1;have HD:=hE.ev _ _ hx;rw[hvx]at HD;obtain⟨g1,g2⟩:=dF hi;have g2:=Nat.lt_succ_iff.1 g2;have fl:=vz hE hl;rw[g1]at fl;haveI:=(tt.sl hT).1;have Nv:aO.row vv el 1 xs.length ws∈HS++(HK++X):=ao1 _ (List.mem_of_getElem? k1);haveI:tv c (HS++(HK++X)) vv 1 xs.length ws:=⟨λw' _ hp'=>Ro.zR (hp'.holds _ Nv)⟩;refine(NO (P:=P) (N:=N) (c:=c) (F:=sI a) (H:=HS++(HK++X)) i.toNat HD fl g2) a.defers a w K Q hs0 λw' hs=>hK _ _ ?_;have hr1:Rl c N ρ J HK X C S1 (a.put (some d1) (uQ i.toNat xs.length 1 vv)) w':=(hr.since hs).put hp ⟨_,rfl⟩;have hlt:d1<a.tmps.size/\S1={S with F:=(d1, .YA)::S.F}:=by
  simp only[yC]at hp;cases hb:(Nat.blt d1 N&&(OJ d1 S.F&&QE d1 C)&&Ny d1 (.YA:AV G))with
  |false=>rw[hb]at hp;cases hp
  |true=>rw[hb]at hp;simp only[aoX]at hb;exact⟨by rw[hr.tm];simpa[Nat.blt_eq]using hb.1.1,by cases hp;rfl⟩
 obtain⟨hlt,rfl⟩:=hlt;generalize ha1:a.put (some d1) (uQ i.toNat xs.length 1 vv)=a1 at hr1 ⊢;refine wpListIn_step λK2 hK2=>?_;rw[aoU (R8.none rfl c ρ J HK X a1 w' hr1)];obtain⟨HS1,j1,js,jm⟩:=hr1.st;obtain⟨kk1,x1,n1,⟨v1,ws1,l1,rfl,l3,l4,l5⟩,n3⟩:=j1.set (r:=q) (o:= .row el 1 (.int k) xs) ho;obtain rfl:vv=v1:=Option.some.inj (m1.symm.trans l1);have hE1:=gk hr1 (ch:=[]) (by simp);have hev:Bw.ev (sI a1) (.tmp d1)=some (uQ i.toNat xs.length 1 vv):=by rw[Vp (x:= .tmp d1) (λt ht=>by cases ht;rw[← ha1];simpa[Act.put]using hlt) (λg h=>by cases h), ← ha1];simp[Act.put,Act.eval,hlt]
 have hws:ws1=fQ (LI k) xs:=(bR.iff.1 (show(LA (LI k) xs.length).eZ J ws1 _ from l4)).trans (jz (LI k) xs).symm;subst hws;have XQ:=z7 (m:=HK++X) n1;haveI:xH (HS1++(HK++X)) vv el 1 xs.length (fQ (LI k) xs) ((HS1++(HK++X)).set kk1):=⟨kk1,XQ,λ_ =>rfl⟩;have hz2:(P.info? el).bind (·.zero)=some (.int k 0):=by
  unfold VH at hz;split at hz
  ·rename_i k' n QZ
   simp only[aoX,beq_iff_eq]at hz;rw[QZ,QY hz.1,hz.2]
  ·cases hz
 refine XC (L:=LI k) (z0:=(0:Int)) (z:= .int k 0) (xs:=xs) (m:=i.toNat) (tt.sl hT).1.ok ⟨hz2⟩ rfl rfl rfl rfl g2 hev rfl a1.defers a1 w' K2 Q js λ_ w2 _ Q5 HF=>hK2 _ _ ?_;rw[Fx n1]at HF;refine dy c ρ J HK X a1 w2 Q (hr1.MD (n3 _ _ ⟨vv,_,l1,rfl,?_,show(LA (LI k) _).eZ J _ _ from bR.iff.2 (jz (LI k) _),rfl⟩) Q5 HF) hq;have:∀ys:List Int,ys.length=xs.length->wv vv ys.length:=λys h=>by rw[h];exact l3
 exact this _ (by simp only[List.length_append,List.length_take,List.length_replicate];omega)
end Go.Rw
namespace Go.Rw
open Go Go.Bw Go.RowKit
variable {G:Sg} {P:Program} {N:Nat} {C:CC G} {Z:Type} {tb:Ba P G} {rec:WT G Z} {cp:List Nat} {all:Array Oper} {r:List Oper} {K:Ex G->AS G->Option Z} {z:Z}
theorem Kx(dy:tu P rec){o:Oper}{S:AS G}(hg:R8 N all C S o)(h:wPv tb rec N cp C all r o S K=some z):∃e S',K e S'=some z/\S.nx<=S'.nx/\US P N C (.ops all (o::r)) S S' e:=by
 obtain⟨d,op,ty,ps,af,g⟩:=o;unfold wPv at h;dsimp only at h;split at h
 ·rename_i gs v hv
  obtain⟨h1,h2⟩:=alj h;exact jb dy hg (ajR hv h1) (Nat.le_refl _) h2
 ·split at h
  ·cases h
  ·obtain⟨e,S1,h1,h2,h3⟩:=dy _ _ _ _ _ _ _ h
   rw[Aa]at h2;exact⟨e,S1,h1,h2,Fq _ h3⟩
theorem aij{d:Option Tmp}{op:Op}{ty:TypeId}{ps:String}{af:Array Edge}{g:Option (Nat×Bool)}{T d1:Nat}{r r2:List Oper}(h:aik ⟨d,op,ty,ps,af,g⟩ T r=some (d1,r2)):
  ∃t2 p2 f2,d=some d1/\g=none/\r=⟨none, .call ⟨.builtin .clear, #[.tmp d1], #[T]⟩,t2,p2,f2,none⟩::r2:=by
 unfold aik at h;split at h
 ·rename_i a t t2 p2 f2 r3
  split at h
  ·rename_i e1 d2 T2 hd hg ha ht
   cases hb:(Nat.beq _ d2&&Nat.beq T T2)with
   |false=>rw[hb]at h;cases h
   |true=>
    rw[hb]at h;simp only[aoX]at hb;have eA:a= #[.tmp d2]:=by rw[← Array.toArray_toList (xs:=a),ha]
    have eT:t= #[T2]:=by rw[← Array.toArray_toList (xs:=t),ht]
    subst eA;subst eT;obtain rfl:=aoW hb.1;obtain rfl:=aoW hb.2;cases h;exact⟨_,_,_,hd,hg,rfl⟩
  ·cases h
 ·cases h
theorem Yl(dy:tu P rec){o:Oper}{S:AS G}(hg:R8 N all C S o)(h:wOp tb rec N cp C all r o S K=some z):∃e S',K e S'=some z/\S.nx<=S'.nx/\US P N C (.ops all (o::r)) S S' e:=by
 obtain⟨d,op,ty,ps,af,g⟩:=o;unfold wOp at h;dsimp only at h;split at h
 ·split at h
  ·rename_i v hv
   exact jb dy hg (agk hv) (Nat.le_succ _) h
  ·cases h
 ·split at h
  ·rename_i v hv
   exact jb dy hg (YU hv) (Nat.le_succ _) h
  ·cases h
 ·split at h
  ·obtain⟨e,S1,h1,h2,h3⟩:=dy _ _ _ _ _ _ _ h
   rw[Aa]at h2;exact⟨e,S1,h1,h2,Fq _ h3⟩
  ·split at h
   ·rename_i q p v hx hy
    split at h
    ·rename_i T' cc ho
     cases hb:A6 tb.tt _ v with
     |false=>rw[hb]at h;cases h
     |true=>rw[hb]at h;obtain⟨c',h1,h2⟩:=ajP h;exact jb dy hg (YS hx hy ho h1 hb) (Nat.le_refl _) h2
    ·rename_i e sz t xs ho
     cases hb:(aaJ p sz&&A6 tb.tt _ v)with
     |false=>rw[hb]at h;cases h
     |true=>
      rw[hb]at h;simp only[aoX]at hb;simp only[cond_true]at h;split at h
      ·rename_i pl hpl
       split at h
       ·rename_i y' hu
        exact jb dy hg (YR hx hy ho hb.1 hpl hu hb.2) (Nat.le_refl _) h
       ·cases h
      ·cases h
    ·cases h
   ·cases h
 ·split at h
  ·rename_i e sz _ ht
   split at h
   ·rename_i z hz
    split at h
    ·rename_i t _
     split at h
     ·rename_i xs hxs
      cases hc:((Nat.beq xs.length _ &&Nat.beq (t.L G).n sz)&&(Nat.blt 0 (_ *sz)&&Nat.ble (_ *sz) 16777216))with
      |false=>rw[hc]at h;cases h
      |true=>rw[hc]at h;simp only[aoX]at hc;obtain⟨⟨c1,c2⟩,c3,c4⟩:=hc;simp only[cond_true]at h;exact jb dy hg (ajT ht hz hxs (aoW c1) (aoW c2) (by simpa[Nat.blt_eq]using c3) (Nat.le_of_ble_eq_true c4)) (Nat.le_succ _) h
     ·exact Kx dy hg h
    ·cases h
   ·cases h
  ·cases h
 ·rename_i T s s'
  cases hs:Nat.beq s s' with
  |false=>rw[hs]at h;cases h
  |true=>
   rw[hs]at h;obtain rfl:=aoW hs;simp only[cond_true]at h;split at h
   ·rename_i i _ e sz bt hx ht
    split at h
    ·rename_i k z0 hz
     cases hc:(Nat.beq sz 1&&Nat.blt 0 bt)with
     |false=>rw[hc]at h;cases h
     |true=>rw[hc]at h;simp only[aoX]at hc;obtain rfl:=aoW hc.1;simp only[cond_true]at h;obtain⟨g1,h⟩:=rm h;obtain⟨g2,h⟩:=rm h;exact jb dy hg (agi ht hz hx g1 g2 (by simpa[Nat.blt_eq]using hc.2)) (Nat.le_succ _) h
    ·cases h
   ·cases h
 ·split at h
  ·rename_i t v hx
   exact⟨_,_,h,Nat.le_refl _,Yp hg hx⟩
  ·cases h
 ·split at h
  ·rename_i k x y l hf ha
   cases hb:((uN x&&uN l)&&(uN y&&K0 (y6 C)))with
   |false=>rw[hb]at h;cases h
   |true=>rw[hb]at h;simp only[aoX]at hb;obtain⟨e,S3,k1,k2,k3⟩:=dy _ _ _ _ _ _ _ h;exact⟨e,S3,k1,k2,Yq hg hf ha hb.2.2 k3⟩
  ·cases h
 ·rename_i args RW
  split at h
  ·rename_i x y T T' hA hT
   have eA:args= #[x,y]:=by rw[← Array.toArray_toList (xs:=args),hA]
   have eT:RW= #[T,T']:=by rw[← Array.toArray_toList (xs:=RW),hT]
   subst eA;subst eT;cases hb:Nat.beq T T' with
   |false=>rw[hb]at h;cases h
   |true=>
    rw[hb]at h;obtain rfl:=aoW hb;simp only[cond_true]at h;split at h
    ·rename_i q vy e sz bt hx hy ht
     split at h
     ·rename_i e' sz' t xs l ho hl
      cases hc:(Nat.beq e' e&&Nat.beq sz' sz)with
      |false=>rw[hc]at h;cases h
      |true=>
       rw[hc]at h;simp only[aoX]at hc;obtain rfl:=aoW hc.1;obtain rfl:=aoW hc.2;simp only[cond_true]at h;split at h
       ·rename_i ys hys
        obtain⟨g1,h⟩:=rm h;exact jb dy hg (agl ht hx hy ho hl hys g1) (Nat.le_succ _) h
       ·cases h
     ·cases h
    ·rename_i vy e sz bt hx hy ht
     split at h
     ·rename_i l hl
      cases hc:Nat.beq (l.t.L G).n sz with
      |false=>rw[hc]at h;cases h
      |true=>rw[hc]at h;simp only[cond_true]at h;obtain⟨g1,h⟩:=rm h;exact jb dy hg (acT ht hx hy hl (aoW hc) g1) (Nat.le_succ _) h
     ·cases h
    ·cases h
  ·cases h
 ·rename_i args RW
  split at h
  ·rename_i x y T T' hA hT
   have eA:args= #[x,y]:=by rw[← Array.toArray_toList (xs:=args),hA]
   have eT:RW= #[T,T']:=by rw[← Array.toArray_toList (xs:=RW),hT]
   subst eA;subst eT;split at h
   ·rename_i q vy e sz bt hx hy ht
    split at h
    ·rename_i e' sz' k xs l ho hl
     cases hc:((Nat.beq e' e&&Nat.beq sz 1)&&Nat.beq sz' 1)with
     |false=>rw[hc]at h;cases h
     |true=>
      rw[hc]at h;simp only[aoX]at hc;obtain rfl:=aoW hc.1.1;obtain rfl:=aoW hc.1.2;obtain rfl:=aoW hc.2;simp only[cond_true]at h;split at h
      ·rename_i ys hys
       exact jb dy hg (acS ht hx hy ho hl hys) (Nat.le_refl _) h
      ·cases h
    ·cases h
   ·cases h
  ·cases h
 ·split at h
  ·rename_i k fst cap l hf ha
   have h0:=ae5 h;clear h;rcases h0 with⟨ct,x,g',Ld,h⟩|⟨b,l',h⟩|h
   ·cases hb:((uN fst&&uN l)&&(uN cap&&Nat.beq ct.s.k k))with
    |false=>rw[hb]at h;cases h
    |true=>
     rw[hb]at h;simp only[aoX]at hb;obtain⟨⟨b1,b2⟩,b3,b4⟩:=hb;obtain rfl:=aoW b4;have R5:=aef Ld;rcases ct.cps x _ _ z h with⟨y,hR,hy⟩|⟨y,hR,hy⟩
     ·split at hy
      ·rename_i v hd
       exact jb dy hg (ajS hf ha b1 b2 Ld hR hd) (Nat.le_trans R5 (Nat.le_add_right _ _)) hy
      ·cases hy
     ·split at hy
      ·rename_i v hd
       exact⟨_,_,hy,Nat.le_trans R5 (Nat.le_add_right _ _),af6 hg hf ha b1 b2 Ld hR hd⟩
      ·cases hy
   ·obtain⟨e,S1,h1,h2,h3⟩:=dy _ _ _ _ _ _ _ h
    have h2:=Nat.le_trans (Qo l' _) h2;rw[Aa]at h2;exact⟨e,S1,h1,h2,Fq b (Qb l' h3)⟩
   split at h
   ·rename_i fi P3
    cases hb:((uN fst&&uN l)&&(uN cap&&Nat.ble (HA (rO fst (rO l cap))) fi.N))with
    |false=>rw[hb]at h;cases h
    |true=>
     rw[hb]at h;simp only[aoX]at hb;obtain⟨⟨b1,b2⟩,b3,b4⟩:=hb;have b4:=Nat.le_of_ble_eq_true b4;obtain⟨e,S1,h1,h2,h3⟩:=dy _ _ _ _ _ _ _ h;have h2:S.nx<=S1.nx:=h2;split at h1
     ·rename_i v O2 hX
      exact⟨_,_,h1,h2,Yu (tt:=tb.tt) hg hf ha P3 b1 b2 b3 b4 h3 hX⟩
     ·rename_i O2 hX
      split at h1
      ·rename_i v hres
       exact jb dy hg (Uw hf ha P3 b1 b2 b3 b4 h3 hX (.inl rfl) hres) h2 h1
      ·cases h1
     ·rename_i O2 hX
      split at h1
      ·rename_i v hres
       exact jb dy hg (Uw hf ha P3 b1 b2 b3 b4 h3 hX (.inr rfl) hres) h2 h1
      ·cases h1
     ·cases h1
   ·cases h
  ·cases h
 ·split at h
  ·rename_i g0 hgt
   cases hb:vu P _ with
   |false=>rw[hb]at h;cases h
   |true=>rw[hb]at h;exact jb dy hg (YT hgt hb) (Nat.le_succ _) h
  ·cases h
 ·split at h
  ·rename_i g0 q ik k kb hgt hx hy
   split at h
   ·rename_i ho
    cases hb:(Nat.beq (Ty.cQ.ik ik) (Ty.cQ.ik g0.1)&&VI P _ g0.1)with
    |false=>rw[hb]at h;cases h
    |true=>rw[hb]at h;simp only[aoX]at hb;exact jb dy hg (Ws hgt hx ho hy hb.1 hb.2) (Nat.le_refl _) (akw h)
   ·cases h
  ·cases h
 ·split at h
  ·rename_i q k i qq e sz bt hx hh ht _
   split at h
   ·rename_i e' sz' t xs ho
    cases hc:(Nat.beq e' e&&Nat.beq sz' sz)with
    |false=>rw[hc]at h;cases h
    |true=>rw[hc]at h;simp only[aoX]at hc;obtain rfl:=aoW hc.1;obtain rfl:=aoW hc.2;simp only[cond_true]at h;obtain⟨g1,h⟩:=rm h;exact jb dy hg (agj ht hx ho hh g1) (Nat.le_succ _) h
   ·cases h
  ·exact Kx dy hg h
 ·split at h
  ·rename_i d1 r2 q k0 i qq e sz bt hc hx hl ht
   split at h
   ·rename_i e' sz' k xs S1 ho hp
    cases hb:((Nat.beq e' e&&Nat.beq sz 1)&&(Nat.beq sz' 1&&VH P e k))with
    |false=>rw[hb]at h;cases h
    |true=>rw[hb]at h;simp only[aoX]at hb;obtain rfl:=aoW hb.1.1;obtain rfl:=aoW hb.1.2;obtain rfl:=aoW hb.2.1;simp only[cond_true]at h;obtain⟨g1,h⟩:=rm h;obtain⟨e1,S3,h1,h2,h3⟩:=dy _ _ _ _ _ _ _ h;have R5:=qS hp;refine⟨e1,S3,h1,(by rw[← R5];exact h2),?_⟩;obtain⟨t2,p2,f2,rfl,rfl,rfl⟩:=aij hc;exact Yt ht hb.2.2 hx ho hl g1 hp h3
   ·exact Kx dy hg h
  ·exact Kx dy hg h
 ·exact Kx dy hg h
theorem aih(dy:tu P rec){o:Oper}{S:AS G}{j dj:Nat}{w:Bool}{no:Option Z}{gx:Option Bool}{cx:Option (Nat×AV G)}(XS:o.guard=some (j,w))(hd:Lv all j=some dj)(he:TA C S 8 dj w=gx)(hc:Rz C S (chain C S 8 dj w) o.op=cx)
  (hno:no=some z->∃e S',K e S'=some z/\S.nx<=S'.nx/\US P N C (.ops all (o::r)) S S' e)(h:ctT tb rec N cp C all r o S K dj w no gx cx=some z):∃e S',K e S'=some z/\S.nx<=S'.nx/\US P N C (.ops all (o::r)) S S' e:=by
 unfold ctT at h;split at h
 ·rename_i g k aoT
  have h0:=ae5 h;clear h;rcases h0 with⟨ct,x,g',Ld,h⟩|⟨b,l',h⟩|h
  ·cases hb:Nat.beq ct.s.k k with
   |false=>rw[hb]at h;cases h
   |true=>
    rw[hb]at h;have hk:=aoW hb;simp only[cond_true]at h;unfold ctG at h;split at h
    ·rename_i hnm
     cases hn:(JV true ct.s.yH&&JV false ct.s.dW)with
     |false=>rw[hn]at h;exact hno h
     |true=>
      rw[hn]at h;simp only[aoX]at hn;obtain⟨y,hR,hy⟩:=ct.cgs g x _ z h;split at hy
      ·rename_i v hv
       split at hy
       ·rename_i S2 hp
        obtain⟨e,S3,k1,k2,k3⟩:=dy _ _ _ _ _ _ _ hy;have:=qS hp;exact⟨e,S3,k1,by omega,af7 XS hd he hc hk Ld hnm hn.1 hn.2 hR hv hp k3⟩
       ·cases hy
      ·cases hy
    ·exact hno h
  ·obtain⟨e,S1,h1,h2,h3⟩:=dy _ _ _ _ _ _ _ h
   have h2:=Nat.le_trans (Qo l' _) h2;rw[Aa]at h2;exact⟨e,S1,h1,h2,Fq b (Qb l' h3)⟩
  ·exact hno h
 ·exact hno h
theorem Ur{x:Operand}{a b:Code}{t:Bool}{S S1:AS G}{e:Ex G}(hx:mK C S [] x=some (.bool t))(h:US P N C (.code (bif t then a else b)) S S1 e):US P N C (.code (.cond x a b)) S S1 e:=by
 intro c ρ J HK X ac w Q hr hq;have ex:=CQ ((gk hr (ch:=[]) (by simp)).ok _ _ hx);cases t with
 |true=>exact wpIn_cond_true ex (h c ρ J HK X ac w Q hr hq)
 |false=>exact wpIn_cond_false ex (h c ρ J HK X ac w Q hr hq)
theorem Ys{x:Operand}{a b:Code}{t:Bool}{S S1:AS G}{e:Ex G}(hx:mK C S [] x=some (.kb t))(h:US P N C (.code (bif t then a else b)) S S1 e):US P N C (.code (.cond x a b)) S S1 e:=by
 intro c ρ J HK X ac w Q hr hq;have ex:=M9 ((gk hr (ch:=[]) (by simp)).ok _ _ hx);cases t with
 |true=>exact wpIn_cond_true ex (h c ρ J HK X ac w Q hr hq)
 |false=>exact wpIn_cond_false ex (h c ρ J HK X ac w Q hr hq)
theorem Wh{i:Nat}{ops:Array Oper}{S S1:AS G}{e:Ex G}(h:US P N C (.ops ops ops.toList) S S1 e):US P N C (.code (.region i ops false)) S S1 e:=by intro c ρ J HK X a w Q hr hq;exact wpIn_region_list (h c ρ J HK X a w Q hr hq)
theorem Og{cf:Cf}{S S1:AS G}{e:Ex G}(p q:Nat->Bool)(h:US P N (⟨nv (λd=> !p d) S.F,dS (λr=> !q r) S.O,S.D⟩::C) cf ⟨nv p S.F,dS q S.O,S.nx,[]⟩ S1 e):US P N C cf S (PX ⟨nv (λd=> !p d) S.F,dS (λr=> !q r) S.O,S.D⟩ S1) e:=by intro c ρ J HK X a w Q hr hq;obtain⟨H2,p1,p2⟩:=hr.push p q;refine h c ρ J (H2++HK) X a w Q p2 λρ' J' Y a' w' me k1 k2 k3 k4=>?_;have hle:=k1.le hr.fr;exact hq ρ' J' Y a' w' me k1 k2 k3 (k4.PX (p1.up k2 hle) (hr.XO k2 hle) hr.si.n)
theorem acG{x y:Code}{S S1 S2:AS G}{ly:Ly G}{g:gA}{p q:Nat->Bool}{e:HL G (br (v8 g.l))}{e2:Ex G}(hly:ly=⟨nv (λd=> !p d) S.F,dS (λr=> !q r) S.O,S.D⟩)(hl:Bj S.nx (ly::C)=true)
  (h1:US P N (ly::C) (.code x) ⟨nv p S.F,dS q S.O,S.nx,[]⟩ S1 .o5)(hg:Lf (ly::C) (pF (ly::C) S1 g.l) g S.nx=some e)(h2:US P N C (.code y) (PX ly (ME g S.nx e)) S2 e2):US P N C (.code (.seq x y)) S S2 e2:=by
 subst hly;intro c ρ J HK X a w Q hr hq;obtain⟨H2,p1,p2⟩:=hr.push p q;refine wpIn_seq (h1 c ρ J (H2++HK) X a w _ p2 λρ' J' Y a' w' me k1 k2 k3 k4=>?_);rw[oW k3];obtain⟨J2,Y2,j1,k5⟩:=k4.pF g.l;obtain⟨ρ2,m1,m2⟩:=adE k5 hg hl;have hto:ρ.to ρ2 S.nx:=λr hr'=>(m1 r hr').trans (k1 r hr');have hle:=hto.le hr.fr;have k2':∀w,J2 w->J w:=λw h=>k2 w (j1 w h);rw[← List.append_assoc]at m2;refine h2 c ρ2 J2 HK ((Y2++Y)++X) a' w' Q (m2.PX (p1.up k2' hle) (hr.XO k2' hle) hr.si.n) (hq.fE hto k2' ?_);show S.nx<=S.nx+_;omega
def USl(P:Program)(N:Nat)(C:CC G)(base:Nat)(x:Code)(S S':AS G)(e:Ex G):Prop:=∀(c:Cx) (ρ:bT) (J:World->Prop) (HK X:List aO) (a:Act) (w:World) (Q:Exit->Act->World->Prop),Rl c N ρ J HK X C S a w->Aft c N C ρ J HK X base S' e Q->LPr P c x Q a w
theorem Yn{x:Code}{g:gA}{base:Nat}{e e':HL G (br (v8 g.l))}{S1 S2:AS G}{e2:Ex G}(hl:Bj base C=true)(h1:US P N C (.code x) (ME g base e) S1 .o5)(hg:Lf C (pF C S1 g.l) g base=some e')(h2:USl P N C base x (ME g base e') S2 e2):USl P N C base x (ME g base e) S2 e2:=by intro c ρ J HK X a w Q hr hq;refine OQ (h1 c ρ J HK X a w _ hr λρ' J' Y a' w' me k1 k2 k3 k4=>?_);rw[oW k3];obtain⟨J2,Y2,j1,k5⟩:=k4.pF g.l;obtain⟨ρ2,m1,m2⟩:=adE k5 hg hl;have R1:ρ.to ρ' base:=λr hr'=>k1 r (by show r<base+_;omega);rw[← List.append_assoc]at m2;exact h2 c ρ2 J2 HK ((Y2++Y)++X) a' w' Q m2 (hq.fE (λr hr'=>(m1 r hr').trans (R1 r hr')) (λw h=>k2 w (j1 w h)) (Nat.le_refl _))
theorem Kz{x:Code}{g:gA}{base:Nat}{e:HL G (br (v8 g.l))}{S1:AS G}{e1:Ex G}(h1:US P N C (.code x) (ME g base e) S1 e1)(he:e1≠ .o5):USl P N C base x (ME g base e) S1 e1:=by intro c ρ J HK X a w Q hr hq;refine OQ (h1 c ρ J HK X a w _ hr λρ' J' Y a' w' me k1 k2 k3 k4=>?_);exact rz (sJ he k3) (hq ρ' J' Y a' w' me (λr hr'=>k1 r (by show r<base+_;omega)) k2 k3 k4)
theorem acF{x:Code}{S S1:AS G}{g:gA}{v:AV G}{x0:HL G (br (v8 g.l))}{g':GS G}{p:Nat->Bool}{ly:Ly G}{e:Ex G}(hv:G7 C S g.l=some v)(Ld:qK (v8 g.l) v ⟨[],S.O,S.nx⟩=some (x0,g'))(b1:zS g.nm g'.th=true)(b2:zT S.nx g.nm=true)
  (hly:ly=⟨nv p S.F,g'.O,S.D⟩)(hl:Bj S.nx (ly::C)=true)(h:USl P N (ly::C) S.nx x (ME g S.nx x0) S1 e):US P N C (.code (.loop x)) S (PX ly S1) e:=by
 intro c ρ J HK X a w Q hr hq;refine QN ?_;have hlC:Bj S.nx C=true:=by simp only[Bj,aoX]at hl;exact hl.2.2.2
 obtain⟨ρ',ρ2,HB,H',hto,ht2,Le,hleft,hC,hp,hF,hfc,hfr⟩:=UZ hr hv Ld b1 b2 (Nat.le_refl _) hlC;have hag:∀r,r<S.nx->ρ' r=ρ2 r:=λr hr'=>(hto r hr').trans (ht2 r hr').symm;subst hly;have hl':=hl;simp only[Bj,aoX]at hl';have hleft:=hleft.iW hag hl'.2.1;have hr':Rl c N ρ' J (H'++HK) X (⟨nv p S.F,g'.O,S.D⟩::C) (ME g S.nx x0) a w:=by
  refine⟨hr.tm,?_,⟨hr.si.s,λq=>hr.si.n (FO q)⟩,hF,λy hy=>?_,λr o e=>?_,⟨HB,Le,by simpa using hp⟩,hr.kn,hfr⟩
  ·exact hr.df.iW hto (OP hl'.2.2.1 (IT hlC).2)
  ·rcases List.mem_cons.1 hy with rfl|hy
   ·exact(hr.fs.fil).iW hto hl'.1
   ·exact hfc y hy
  ·have e:ga (g'.O++y6 C) r=some o:=e
   rw[og]at e;split at e
   ·rename_i v' Q3
    cases e;obtain⟨x,h1,h2⟩:=hleft.lk Q3;exact⟨x,ao1 _ h1,h2⟩
   ·obtain⟨x,h1,h2⟩:=hC r o e
    exact⟨x,ao0 _ h1,h2⟩
 refine h c ρ' J (H'++HK) X a w Q hr' λρ3 J3 Y a' w' me k1 k2 k3 k4=>?_;have R1:ρ.to ρ3 S.nx:=λr q=>(k1 r q).trans (hto r q);refine hq ρ3 J3 Y a' w' me R1 k2 k3 (k4.PX ((hleft.iW k1 hl'.2.1).up k2 (bT.le_refl _)) (hr.XO k2 (R1.le hr.fr)) hr.si.n)
theorem adK(dy:tu P rec){x:Code}{g:gA}{base:Nat}{ly:Ly G}(hl:Bj base (ly::C)=true){vw:Option (Vw G (br (v8 g.l)))}:∀(n:Nat) (e:HL G (br (v8 g.l))),lpV vw (λgo e=>rec N cp (ly::C) (.code x) (ME g base e) λe1 S1=>match e1 with
   | .o5=>match Lf (ly::C) (pF (ly::C) S1 g.l) g base with
    |some e=>go e
    |none=>none
   |e1=>K e1 (PX ly S1)) n e=some z->
  ∃e1 S1,K e1 (PX ly S1)=some z/\base<=S1.nx/\USl P N (ly::C) base x (ME g base e) S1 e1:=by
 intro n
 induction n with
 |zero=>intro e h;obtain⟨m,h1,_⟩:=U1 h;cases h1
 |succ n ih=>
  intro e h;obtain⟨m,h1,h2⟩:=U1 h;cases h1;obtain⟨e1,S1,k1,k2,k3⟩:=dy _ _ _ _ _ _ _ h2;have k2:base<=S1.nx:=Nat.le_trans (Nat.le_add_right _ _) k2;cases e1 with
  |o5=>
   dsimp only at k1;split at k1
   ·rename_i e' hg
    obtain⟨e2,S2,m1,m2,m3⟩:=ih e' k1;exact⟨e2,S2,m1,m2,Yn hl k3 hg m3⟩
   ·cases k1
  |exit i=>exact⟨_,S1,k1,k2,Kz k3 (by simp)⟩
  |ret=>exact⟨_,S1,k1,k2,Kz k3 (by simp)⟩
  |zP v=>exact⟨_,S1,k1,k2,Kz k3 (by simp)⟩
theorem agm(dy:tu P rec){x y:Code}{S:AS G}(h:(rec N cp C (.code x) S λe S'=>match e with
    | .o5=>rec N cp C (.code y) S' K
    |e=>K e S')=some z):∃e S',K e S'=some z/\S.nx<=S'.nx/\US P N C (.code (.seq x y)) S S' e:=by
 obtain⟨e1,S1,k1,k2,k3⟩:=dy _ _ _ _ _ _ _ h;cases e1 with
 |o5=>obtain⟨e2,S2,m1,m2,m3⟩:=dy _ _ _ _ _ _ _ k1;exact⟨e2,S2,m1,Nat.le_trans k2 m2,af4 k3 m3 k2⟩
 |exit i=>exact⟨_,S1,k1,k2,ry k3 (by simp)⟩
 |ret=>exact⟨_,S1,k1,k2,ry k3 (by simp)⟩
 |zP v=>exact⟨_,S1,k1,k2,ry k3 (by simp)⟩
theorem adk{x:Code}{S:AS G}{g:gA}{r:Option Z}(h:r=some z->∃e S',K e S'=some z/\(pF C S g.l).nx<=S'.nx/\US P N C (.code x) (pF C S g.l) S' e)(hr:r=some z):∃e S',K e S'=some z/\S.nx<=S'.nx/\US P N C (.code x) S S' e:=by obtain⟨e,S',h1,h2,h3⟩:=h hr;rw[FJ]at h2;exact⟨e,S',h1,h2,acE _ h3⟩
theorem ags(dy:tu P rec){ps:List Nat}{a b:Code}{S1:AS G}{g:gA}{it:It P G}{O:Os G}:∀(l:List it.B) (e:HL G (br (v8 g.l))),rgW rec N cp C ps a b S1 K g it l O e=some z->
  ∃e1 Sf,K e1 (WM S1.nx S1 O Sf)=some z/\S1.nx<=Sf.nx/\RgT P N (lyR ps a b C S1 O) ps a b g (S1.nx+2) it l e e1 Sf:=by
 intro l
 induction l with
 |nil=>intro e h;exact⟨_,_,adX h,by show S1.nx<=S1.nx+2+_;omega, .nil⟩
 |cons y l ih=>
  intro e h;have h:=aao h;obtain⟨S2,hb,h⟩:=aeA h;obtain⟨e1,S3,k1,k2,k3⟩:=dy _ _ _ _ _ _ _ h;have hS2:S1.nx<=S2.nx:=by rw[abC hb];show S1.nx<=S1.nx+2+_;omega
  cases e1 with
  |o5=>
   obtain⟨e2,S4,m1,m2,m3⟩:=dy _ _ _ _ _ _ _ k1;cases e2 with
   |o5=>
    dsimp only at m1;split at m1
    ·rename_i e' hg
     obtain⟨e3,Sf,n1,n2,n3⟩:=ih e' m1;exact⟨e3,Sf,n1,n2, .fE hb k3 k2 m3 hg n3⟩
    ·cases m1
   |ret=>
    dsimp only at m1;cases hD:ZY S4.D with
    |false=>rw[hD]at m1;cases m1
    |true=>rw[hD]at m1;exact⟨_,S4,m1,by omega, .stop hb k3 k2 m3 (.inl rfl) (ZX hD)⟩
   |exit i=>
    dsimp only at m1;cases hD:ZY S4.D with
    |false=>rw[hD]at m1;cases m1
    |true=>rw[hD]at m1;exact⟨_,S4,m1,by omega, .stop hb k3 k2 m3 (.inr ⟨i,rfl⟩) (ZX hD)⟩
   |zP v=>cases m1
  |_ =>cases k1
theorem agt(dy:tu P rec){ps:Array Nat}{a b:Code}{k:Nat}{cap:AV G}{gl:List (XF×Sh)}{S:AS G}{gop:Operand}(XS:mK C S [] gop=some (.fn (.func k) .nil cap)):∀{l:List (It P G)},rgK rec N cp C ps.toList a b k cap gl S K l=some z->
  ∃e S',K e S'=some z/\S.nx<=S'.nx/\US P N C (.code (.rangeFunc gop ps a b)) S S' e:=by
 intro l
 induction l with
 |nil=>intro h;cases h
 |cons it q ih=>
  intro h;unfold rgK at h;split at h
  ·exact ih h
  ·rename_i x g1 Ld
   split at h
   ·rename_i g hg
    dsimp only at h;split at h
    ·rename_i v hv
     split at h
     ·rename_i x0 g2 aht
      revert h;generalize hcc:(((Nat.beq it.k k&&Nat.beq it.n ps.toList.length&&K0 (y6 C))&&(zS g.nm g2.th&&zT ((pF C ⟨S.F,g1.O,g1.nx,S.D⟩ g.l).nx+2) g.nm&&Bj ((pF C ⟨S.F,g1.O,g1.nx,S.D⟩ g.l).nx+2) (lyR ps.toList a b C (pF C ⟨S.F,g1.O,g1.nx,S.D⟩ g.l) g2.O)))&&((zW ((pF C ⟨S.F,g1.O,g1.nx,S.D⟩ g.l).nx+2) g2.O&&psN N ps.toList)&&Bj ((pF C ⟨S.F,g1.O,g1.nx,S.D⟩ g.l).nx+2) C))=cc;intro h;cases cc with
      |false=>cases h
      |true=>simp only[aoX]at hcc;obtain⟨⟨⟨⟨c1,c2⟩,c3⟩,⟨c4,c5⟩,c6⟩,⟨c7,c8⟩,c9⟩:=hcc;obtain rfl:=aoW c1;obtain⟨l,hf,h⟩:=vx h;obtain⟨e1,Sf,k1,k2,k3⟩:=ags dy l x0 h;refine⟨e1,_,k1,?_,Yo XS Ld rfl hv aht c4 c5 (by simpa using aoW c2) c3 c6 c7 c9 c8 hf k3⟩;show S.nx<=Sf.nx;rw[FJ]at k2;exact Nat.le_trans (aaQ Ld) k2
     ·cases h
    ·cases h
   ·cases h
theorem acQ(dy:tu P rec):tu P (step tb rec):=by
 intro N cp C cf S K z h;unfold step at h;dsimp only at h;split at h
 ·exact⟨_,_,h,Nat.le_refl _,af5⟩
 ·rename_i all o r
  split at h
  ·rename_i hg;exact Yl dy (.none hg) h
  ·rename_i j w hg
   split at h
   ·rename_i dj hd
    split at h
    ·rename_i hk;exact Yl dy (.afo hg hd hk) h
    ·rename_i hk
     split at h
     ·rename_i S2 hp
      obtain⟨e,S3,k1,k2,k3⟩:=dy _ _ _ _ _ _ _ h;have:=qS hp;exact⟨e,S3,k1,by omega,acD hg hd hk hp k3⟩
     ·cases h
    ·split at h
     ·rename_i g gs v he hv
      obtain⟨h1,h2⟩:=alk h;split at h2
      ·rename_i S2 hp
       obtain⟨e,S3,k1,k2,k3⟩:=dy _ _ _ _ _ _ _ h2;have:=qS hp;exact⟨e,S3,k1,by omega,Yr hg hd he hv h1 hp k3⟩
      ·cases h2
     ·refine aih dy hg hd rfl rfl (λh=>?_) h
      split at h
      ·rename_i k b hk
       cases b with
       |true=>have h:=TQ rfl h;obtain⟨e,S3,k1,k2,k3⟩:=dy _ _ _ _ _ _ _ h;exact⟨e,S3,k1,k2,Uq hk k3⟩
       |false=>have h:=TR rfl h;obtain⟨e,S3,k1,k2,k3⟩:=dy _ _ _ _ _ _ _ h;exact⟨e,S3,k1,k2,Uq hk k3⟩
      ·cases h
   ·cases h
 ·split at h
  ·exact⟨_,_,h,Nat.le_refl _,λc ρ J HK X a w Q hr hq=>wpIn_skip (hq.here hr trivial)⟩
  ·exact⟨_,_,h,Nat.le_refl _,λc ρ J HK X a w Q hr hq=>wpIn_label (hq.here hr trivial)⟩
  ·exact⟨_,_,h,Nat.le_refl _,λc ρ J HK X a w Q hr hq=>wpIn_ret (hq.here hr trivial)⟩
  ·exact⟨_,_,h,Nat.le_refl _,λc ρ J HK X a w Q hr hq=>wpIn_exit (hq.here hr rfl)⟩
  ·obtain⟨e,S1,k1,k2,k3⟩:=dy _ _ _ _ _ _ _ h
   exact⟨e,S1,k1,k2,Wh k3⟩
  ·exact aia dy h
  ·rename_i i x
   obtain⟨e1,S1,k1,k2,k3⟩:=dy _ _ _ _ _ _ _ h;cases e1 with
   |exit j=>
    dsimp only at k1;cases hb:Nat.beq i j with
    |true=>rw[hb]at k1;have e:=aoW hb;exact⟨_,S1,k1,k2,BL k3 (.inl ⟨by rw[e],rfl⟩)⟩
    |false=>rw[hb]at k1;exact⟨_,S1,k1,k2,BL k3 (.inr ⟨rfl,λq=>by cases q;rw[Nat.beq_refl]at hb;cases hb⟩)⟩
   |o5=>exact⟨_,S1,k1,k2,BL k3 (.inr ⟨rfl,by simp⟩)⟩
   |ret=>exact⟨_,S1,k1,k2,BL k3 (.inr ⟨rfl,by simp⟩)⟩
   |zP v=>exact⟨_,S1,k1,k2,BL k3 (.inr ⟨rfl,by simp⟩)⟩
  ·split at h
   ·rename_i t hx
    cases t with
    |true=>have h:=TQ rfl h;obtain⟨e,S1,k1,k2,k3⟩:=dy _ _ _ _ _ _ _ h;exact⟨e,S1,k1,k2,Ur hx k3⟩
    |false=>have h:=TR rfl h;obtain⟨e,S1,k1,k2,k3⟩:=dy _ _ _ _ _ _ _ h;exact⟨e,S1,k1,k2,Ur hx k3⟩
   ·rename_i t hx
    obtain⟨e,S1,k1,k2,k3⟩:=dy _ _ _ _ _ _ _ h;exact⟨e,S1,k1,k2,Ys hx k3⟩
   ·cases h
  ·rename_i x y
   split at h
   ·rename_i gl ex _
    split at h
    ·rename_i g _
     cases hb:Bj S.nx ((⟨nv (λd=> !(fe (M1 x) d||B7 g.l d)) S.F,dS (λq=> !fe (YI C S gl++QG C S ex) q) S.O,S.D⟩:Ly G)::C)with
     |false=>rw[hb]at h;cases h
     |true=>
      rw[hb]at h;have h:=akB h;obtain⟨e1,S1,k1,k2,k3⟩:=dy _ _ _ _ _ _ _ h;have k2:S.nx<=S1.nx:=k2;cases e1 with
      |o5=>
       dsimp only at k1;split at k1
       ·rename_i e hg
        obtain⟨e2,S2,m1,m2,m3⟩:=dy _ _ _ _ _ _ _ k1;have m2:S.nx+g.nm.length<=S2.nx:=m2;exact⟨e2,S2,m1,by omega,acG rfl hb k3 hg m3⟩
       ·cases k1
      |exit i=>exact⟨_,_,k1,k2,ry (Og _ _ k3) (by simp)⟩
      |ret=>exact⟨_,_,k1,k2,ry (Og _ _ k3) (by simp)⟩
      |zP v=>exact⟨_,_,k1,k2,ry (Og _ _ k3) (by simp)⟩
    ·cases h
   ·exact agm dy h
  ·rename_i x
   split at h
   ·rename_i gl _
    split at h
    ·cases h
    ·rename_i g _
     have hp:=FJ (C:=C) (S:=S) (l:=g.l);refine adk (g:=g) (λh=>?_) h;clear hp;generalize pF C S g.l=S at h;split at h
     ·rename_i v hv
      split at h
      ·rename_i x0 g' Ld
       cases hb:(zS g.nm g'.th&&zT S.nx g.nm)with
       |false=>rw[hb]at h;cases h
       |true=>
        rw[hb]at h;simp only[aoX]at hb;simp only[cond_true]at h;cases hc:Bj S.nx ((⟨nv (λd=> !(fe (M1 x) d||B7 g.l d)) S.F,g'.O,S.D⟩:Ly G)::C)with
        |false=>rw[hc]at h;cases h
        |true=>rw[hc]at h;obtain⟨e1,S1,k1,k2,k3⟩:=adK (g:=g) dy hc _ _ h;exact⟨e1,_,k1,k2,acF hv Ld hb.1 hb.2 rfl hc k3⟩
      ·cases h
     ·cases h
   ·cases h
  ·split at h
   ·rename_i XS _
    exact agt dy XS h
   ·cases h
  ·cases h
theorem al2:∀n:Nat,tu P (W (Z:=Z) tb n):=by
 intro n
 induction n with
 |zero=>intro N cp C cf S K z h;cases h
 |succ n ih=>exact acQ ih
end Go.Rw
namespace Go.Proofs.Z
open Go Go.Bw Go.Rw Go.RowKit
structure aN where
 Do:Int
 R:Int
 S:Int
 A:Int
 B:Int
 V:Int
abbrev fJ:dB aN:=dB.via (LP (LI .u8) (LP (LI .u32) (LP (LI .u32) (LP (LI .u32) (LP (LI .u32) (LI .u64)))))) (λx=>(x.Do,x.R,x.S,x.A,x.B,x.V))
abbrev lu:aN:=⟨0,0,0,0,0,0⟩
instance:Inhabited aN:=⟨lu⟩
def qz:List Value:=[.int .u8 0]++([.int .u32 0]++([.int .u32 0]++([.int .u32 0]++([.int .u32 0]++([.int .u64 0])))))
theorem DM{A:World->Prop}:fJ.eZ A qz lu:=⟨_,_,rfl,rfl,⟨_,_,rfl,rfl,⟨_,_,rfl,rfl,⟨_,_,rfl,rfl,⟨_,_,rfl,rfl,rfl⟩⟩⟩⟩⟩
theorem JM:aW fJ (LI .u8) 0 (λx=>x.Do) (λx v=>{x with Do:=v}):=(aW.fst aW.id).via _ _ _ 0 rfl (λ_ =>rfl) (λ_ _ =>rfl)
theorem Ma:aW fJ (LI .u32) 1 (λx=>x.R) (λx v=>{x with R:=v}):=(aW.snd (aW.fst aW.id)).via _ _ _ 1 rfl (λ_ =>rfl) (λ_ _ =>rfl)
theorem L9:aW fJ (LI .u32) 2 (λx=>x.S) (λx v=>{x with S:=v}):=(aW.snd (aW.snd (aW.fst aW.id))).via _ _ _ 2 rfl (λ_ =>rfl) (λ_ _ =>rfl)
theorem Mc:aW fJ (LI .u32) 3 (λx=>x.A) (λx v=>{x with A:=v}):=(aW.snd (aW.snd (aW.snd (aW.fst aW.id)))).via _ _ _ 3 rfl (λ_ =>rfl) (λ_ _ =>rfl)
theorem Mb:aW fJ (LI .u32) 4 (λx=>x.B) (λx v=>{x with B:=v}):=(aW.snd (aW.snd (aW.snd (aW.snd (aW.fst aW.id))))).via _ _ _ 4 rfl (λ_ =>rfl) (λ_ _ =>rfl)
theorem L8:aW fJ (LI .u64) 5 (λx=>x.V) (λx v=>{x with V:=v}):=(aW.snd (aW.snd (aW.snd (aW.snd (aW.snd aW.id))))).via _ _ _ 5 rfl (λ_ =>rfl) (λ_ _ =>rfl)
structure kL where
 gT:Int
 C:aN
abbrev rK:dB kL:=dB.via (LP (LI .u8) fJ) (λx=>(x.gT,x.C))
abbrev I5:kL:=⟨0,lu⟩
instance:Inhabited kL:=⟨I5⟩
theorem IC:aW rK (LI .u8) 0 (λx=>x.gT) (λx v=>{x with gT:=v}):=(aW.fst aW.id).via _ _ _ 0 rfl (λ_ =>rfl) (λ_ _ =>rfl)
theorem MW:aW rK fJ 1 (λx=>x.C) (λx v=>{x with C:=v}):=(aW.snd aW.id).via _ _ _ 1 rfl (λ_ =>rfl) (λ_ _ =>rfl)
structure eR where
 gen:Int
 oh:Bool
 mR:Bool
abbrev cZ:dB eR:=dB.via (LP (LI .u32) (LP LB LB)) (λx=>(x.gen,x.oh,x.mR))
abbrev qP:eR:=⟨0,false,false⟩
def wK:List Value:=[.int .u32 0]++([.bool false]++([.bool false]))
theorem Bp{A:World->Prop}:cZ.eZ A wK qP:=⟨_,_,rfl,rfl,⟨_,_,rfl,rfl,rfl⟩⟩
theorem nj:aW cZ (LI .u32) 0 (λx=>x.gen) (λx v=>{x with gen:=v}):=(aW.fst aW.id).via _ _ _ 0 rfl (λ_ =>rfl) (λ_ _ =>rfl)
theorem pR:aW cZ LB 1 (λx=>x.oh) (λx v=>{x with oh:=v}):=(aW.snd (aW.fst aW.id)).via _ _ _ 1 rfl (λ_ =>rfl) (λ_ _ =>rfl)
theorem tw:aW cZ LB 2 (λx=>x.mR) (λx v=>{x with mR:=v}):=(aW.snd (aW.snd aW.id)).via _ _ _ 2 rfl (λ_ =>rfl) (λ_ _ =>rfl)
structure bn where
 aI:(Nat->eR)
abbrev bw:dB bn:=dB.via (LA cZ 32) (λx=>x.aI)
abbrev lE:bn:=⟨(λ_ =>qP)⟩
instance:Inhabited bn:=⟨lE⟩
def rQ:List Value:=(flat (λ_ =>wK) 32)
theorem wF{A:World->Prop}:bw.eZ A rQ lE:=⟨_,rfl,λ_ _ =>Bp⟩
theorem eX:aW bw (LA cZ 32) 0 (λx=>x.aI) (λx v=>{x with aI:=v}):=aW.id.via _ _ _ 0 rfl (λ_ =>rfl) (λ_ _ =>rfl)
structure pA where
 oz:bn
abbrev sU:dB pA:=dB.via bw (λx=>x.oz)
abbrev Am:pA:=⟨lE⟩
def DN:List Value:=rQ
theorem Ml{A:World->Prop}:sU.eZ A DN Am:=wF
theorem Gq:aW sU bw 0 (λx=>x.oz) (λx v=>{x with oz:=v}):=aW.id.via _ _ _ 0 rfl (λ_ =>rfl) (λ_ _ =>rfl)
structure aB where
 At:Int
 N:Int
abbrev cM:dB aB:=dB.via (LP (LI .i64) (LI .i64)) (λx=>(x.At,x.N))
abbrev fV:aB:=⟨0,0⟩
instance:Inhabited aB:=⟨fV⟩
def uk:List Value:=[.int .i64 0]++([.int .i64 0])
theorem ID{A:World->Prop}:cM.eZ A uk fV:=⟨_,_,rfl,rfl,rfl⟩
theorem MR:aW cM (LI .i64) 0 (λx=>x.At) (λx v=>{x with At:=v}):=(aW.fst aW.id).via _ _ _ 0 rfl (λ_ =>rfl) (λ_ _ =>rfl)
theorem PJ:aW cM (LI .i64) 1 (λx=>x.N) (λx v=>{x with N:=v}):=(aW.snd aW.id).via _ _ _ 1 rfl (λ_ =>rfl) (λ_ _ =>rfl)
structure aT where
 aU:(List aB)
 jW:Int
abbrev mL:dB aT:=dB.via (LP (@PN aB ⟨fV⟩ cM) (LI .i64)) (λx=>(x.aU,x.jW))
abbrev dG:aT:=⟨[],0⟩
instance:Inhabited aT:=⟨dG⟩
def lI:List Value:=[.slice none 0 0]++([.int .i64 0])
theorem pY{A:World->Prop}:mL.eZ A lI dG:=⟨_,_,rfl,⟨_,_,rfl,DL.nil⟩,rfl⟩
theorem CI:aW mL (@PN aB ⟨fV⟩ cM) 0 (λx=>x.aU) (λx v=>{x with aU:=v}):=(aW.fst aW.id).via _ _ _ 0 rfl (λ_ =>rfl) (λ_ _ =>rfl)
theorem DJ:aW mL (LI .i64) 1 (λx=>x.jW) (λx v=>{x with jW:=v}):=(aW.snd aW.id).via _ _ _ 1 rfl (λ_ =>rfl) (λ_ _ =>rfl)
structure aR where
 Up:Int
 cE:Int
 E:aT
 bC:(Nat->Int)
abbrev kg:dB aR:=dB.via (LP (LI .u32) (LP (LI .i64) (LP mL (LA (LI .u32) 8)))) (λx=>(x.Up,x.cE,x.E,x.bC))
abbrev nQ:aR:=⟨0,0,dG,(λ_ =>0)⟩
instance:Inhabited aR:=⟨nQ⟩
def vg:List Value:=[.int .u32 0]++([.int .i64 0]++(lI++((flat (λ_ =>[.int .u32 0]) 8))))
theorem Az{A:World->Prop}:kg.eZ A vg nQ:=⟨_,_,rfl,rfl,⟨_,_,rfl,rfl,⟨_,_,rfl,pY,⟨_,rfl,λ_ _ =>rfl⟩⟩⟩⟩
theorem Gr:aW kg (LI .u32) 0 (λx=>x.Up) (λx v=>{x with Up:=v}):=(aW.fst aW.id).via _ _ _ 0 rfl (λ_ =>rfl) (λ_ _ =>rfl)
theorem Cy:aW kg (LI .i64) 1 (λx=>x.cE) (λx v=>{x with cE:=v}):=(aW.snd (aW.fst aW.id)).via _ _ _ 1 rfl (λ_ =>rfl) (λ_ _ =>rfl)
theorem Ie:aW kg mL 2 (λx=>x.E) (λx v=>{x with E:=v}):=(aW.snd (aW.snd (aW.fst aW.id))).via _ _ _ 2 rfl (λ_ =>rfl) (λ_ _ =>rfl)
theorem Cz:aW kg (LA (LI .u32) 8) 4 (λx=>x.bC) (λx v=>{x with bC:=v}):=(aW.snd (aW.snd (aW.snd aW.id))).via _ _ _ 4 rfl (λ_ =>rfl) (λ_ _ =>rfl)
structure au where
 bj:pA
 cL:(Nat->aR)
abbrev oM:dB au:=dB.via (LP sU (LA kg 32)) (λx=>(x.bj,x.cL))
abbrev iL:au:=⟨Am,(λ_ =>nQ)⟩
instance:Inhabited au:=⟨iL⟩
def wH:List Value:=DN++((flat (λ_ =>vg) 32))
theorem Bl{A:World->Prop}:oM.eZ A wH iL:=⟨_,_,rfl,Ml,⟨_,rfl,λ_ _ =>Az⟩⟩
theorem ES:aW oM sU 0 (λx=>x.bj) (λx v=>{x with bj:=v}):=(aW.fst aW.id).via _ _ _ 0 rfl (λ_ =>rfl) (λ_ _ =>rfl)
theorem Bc:aW oM (LA kg 32) 96 (λx=>x.cL) (λx v=>{x with cL:=v}):=(aW.snd aW.id).via _ _ _ 96 rfl (λ_ =>rfl) (λ_ _ =>rfl)
structure cF where
 dx:Int
 gT:Int
 dR:Int
abbrev uc:dB cF:=dB.via (LP (LI .u8) (LP (LI .u8) (LI .u8))) (λx=>(x.dx,x.gT,x.dR))
abbrev wD:cF:=⟨0,0,0⟩
instance:Inhabited cF:=⟨wD⟩
def Eb:List Value:=[.int .u8 0]++([.int .u8 0]++([.int .u8 0]))
theorem Kc{A:World->Prop}:uc.eZ A Eb wD:=⟨_,_,rfl,rfl,⟨_,_,rfl,rfl,rfl⟩⟩
theorem L7:aW uc (LI .u8) 0 (λx=>x.dx) (λx v=>{x with dx:=v}):=(aW.fst aW.id).via _ _ _ 0 rfl (λ_ =>rfl) (λ_ _ =>rfl)
theorem L6:aW uc (LI .u8) 1 (λx=>x.gT) (λx v=>{x with gT:=v}):=(aW.snd (aW.fst aW.id)).via _ _ _ 1 rfl (λ_ =>rfl) (λ_ _ =>rfl)
theorem Gz:aW uc (LI .u8) 2 (λx=>x.dR) (λx v=>{x with dR:=v}):=(aW.snd (aW.snd aW.id)).via _ _ _ 2 rfl (λ_ =>rfl) (λ_ _ =>rfl)
structure pG where
 root:Int
 own:cF
abbrev tZ:dB pG:=dB.via (LP (LI .u32) uc) (λx=>(x.root,x.own))
abbrev xG:pG:=⟨0,wD⟩
def Br:List Value:=[.int .u32 0]++(Eb)
theorem IE{A:World->Prop}:tZ.eZ A Br xG:=⟨_,_,rfl,rfl,Kc⟩
theorem JL:aW tZ (LI .u32) 0 (λx=>x.root) (λx v=>{x with root:=v}):=(aW.fst aW.id).via _ _ _ 0 rfl (λ_ =>rfl) (λ_ _ =>rfl)
theorem L5:aW tZ uc 1 (λx=>x.own) (λx v=>{x with own:=v}):=(aW.snd aW.id).via _ _ _ 1 rfl (λ_ =>rfl) (λ_ _ =>rfl)
structure bM where
 aI:(Nat->pG)
abbrev xJ:dB bM:=dB.via (LA tZ 32) (λx=>x.aI)
abbrev pQ:bM:=⟨(λ_ =>xG)⟩
instance:Inhabited bM:=⟨pQ⟩
def Bs:List Value:=(flat (λ_ =>Br) 32)
theorem IF{A:World->Prop}:xJ.eZ A Bs pQ:=⟨_,rfl,λ_ _ =>IE⟩
theorem Iw:aW xJ (LA tZ 32) 0 (λx=>x.aI) (λx v=>{x with aI:=v}):=aW.id.via _ _ _ 0 rfl (λ_ =>rfl) (λ_ _ =>rfl)
structure bE where
 Region:Int
 By:Int
 To:Int
 bF:Bool
 bh:Int
abbrev ck:dB bE:=dB.via (LP (LI .u32) (LP (LI .u8) (LP (LI .u8) (LP LB (LI .u32))))) (λx=>(x.Region,x.By,x.To,x.bF,x.bh))
abbrev lD:bE:=⟨0,0,0,false,0⟩
instance:Inhabited bE:=⟨lD⟩
def wG:List Value:=[.int .u32 0]++([.int .u8 0]++([.int .u8 0]++([.bool false]++([.int .u32 0]))))
theorem Bk{A:World->Prop}:ck.eZ A wG lD:=⟨_,_,rfl,rfl,⟨_,_,rfl,rfl,⟨_,_,rfl,rfl,⟨_,_,rfl,rfl,rfl⟩⟩⟩⟩
theorem Cw:aW ck (LI .u32) 0 (λx=>x.Region) (λx v=>{x with Region:=v}):=(aW.fst aW.id).via _ _ _ 0 rfl (λ_ =>rfl) (λ_ _ =>rfl)
theorem Ic:aW ck (LI .u8) 1 (λx=>x.By) (λx v=>{x with By:=v}):=(aW.snd (aW.fst aW.id)).via _ _ _ 1 rfl (λ_ =>rfl) (λ_ _ =>rfl)
theorem Ib:aW ck (LI .u8) 2 (λx=>x.To) (λx v=>{x with To:=v}):=(aW.snd (aW.snd (aW.fst aW.id))).via _ _ _ 2 rfl (λ_ =>rfl) (λ_ _ =>rfl)
theorem Bb:aW ck LB 3 (λx=>x.bF) (λx v=>{x with bF:=v}):=(aW.snd (aW.snd (aW.snd (aW.fst aW.id)))).via _ _ _ 3 rfl (λ_ =>rfl) (λ_ _ =>rfl)
theorem vZ:aW ck (LI .u32) 4 (λx=>x.bh) (λx v=>{x with bh:=v}):=(aW.snd (aW.snd (aW.snd (aW.snd aW.id)))).via _ _ _ 4 rfl (λ_ =>rfl) (λ_ _ =>rfl)
structure ay where
 bj:bn
 aI:(Nat->bE)
abbrev aF:dB ay:=dB.via (LP bw (LA ck 16)) (λx=>(x.bj,x.aI))
abbrev eC:ay:=⟨lE,(λ_ =>lD)⟩
instance:Inhabited ay:=⟨eC⟩
def ve:List Value:=rQ++((flat (λ_ =>wG) 16))
theorem Ay{A:World->Prop}:aF.eZ A ve eC:=⟨_,_,rfl,wF,⟨_,rfl,λ_ _ =>Bk⟩⟩
theorem gU:aW aF bw 0 (λx=>x.bj) (λx v=>{x with bj:=v}):=(aW.fst aW.id).via _ _ _ 0 rfl (λ_ =>rfl) (λ_ _ =>rfl)
theorem uY:aW aF (LA ck 16) 96 (λx=>x.aI) (λx v=>{x with aI:=v}):=(aW.snd aW.id).via _ _ _ 96 rfl (λ_ =>rfl) (λ_ _ =>rfl)
structure dg where
 T:au
 O:bM
 K:ay
abbrev iu:dB dg:=dB.via (LP oM (LP xJ aF)) (λx=>(x.T,x.O,x.K))
abbrev An:dg:=⟨iL,pQ,eC⟩
def DP:List Value:=wH++(Bs++(ve))
theorem Mn{A:World->Prop}:iu.eZ A DP An:=⟨_,_,rfl,Bl,⟨_,_,rfl,IF,Ay⟩⟩
theorem Md:aW iu oM 0 (λx=>x.T) (λx v=>{x with T:=v}):=(aW.fst aW.id).via _ _ _ 0 rfl (λ_ =>rfl) (λ_ _ =>rfl)
theorem Me:aW iu xJ 480 (λx=>x.O) (λx v=>{x with O:=v}):=(aW.snd (aW.fst aW.id)).via _ _ _ 480 rfl (λ_ =>rfl) (λ_ _ =>rfl)
theorem Mf:aW iu aF 608 (λx=>x.K) (λx v=>{x with K:=v}):=(aW.snd (aW.snd aW.id)).via _ _ _ 608 rfl (λ_ =>rfl) (λ_ _ =>rfl)
structure aZ where
 nB:Int
 xR:Int
 Region:Int
 iI:Bool
abbrev ij:dB aZ:=dB.via (LP (LI .u8) (LP (LI .u64) (LP (LI .u32) LB))) (λx=>(x.nB,x.xR,x.Region,x.iI))
abbrev fN:aZ:=⟨0,0,0,false⟩
instance:Inhabited aZ:=⟨fN⟩
def vm:List Value:=[.int .u8 0]++([.int .u64 0]++([.int .u32 0]++([.bool false])))
theorem AF{A:World->Prop}:ij.eZ A vm fN:=⟨_,_,rfl,rfl,⟨_,_,rfl,rfl,⟨_,_,rfl,rfl,rfl⟩⟩⟩
theorem DI:aW ij (LI .u8) 0 (λx=>x.nB) (λx v=>{x with nB:=v}):=(aW.fst aW.id).via _ _ _ 0 rfl (λ_ =>rfl) (λ_ _ =>rfl)
theorem DH:aW ij (LI .u64) 1 (λx=>x.xR) (λx v=>{x with xR:=v}):=(aW.snd (aW.fst aW.id)).via _ _ _ 1 rfl (λ_ =>rfl) (λ_ _ =>rfl)
theorem Bf:aW ij (LI .u32) 2 (λx=>x.Region) (λx v=>{x with Region:=v}):=(aW.snd (aW.snd (aW.fst aW.id))).via _ _ _ 2 rfl (λ_ =>rfl) (λ_ _ =>rfl)
theorem CH:aW ij LB 3 (λx=>x.iI) (λx v=>{x with iI:=v}):=(aW.snd (aW.snd (aW.snd aW.id))).via _ _ _ 3 rfl (λ_ =>rfl) (λ_ _ =>rfl)
structure bX where
 ring:(Nat->aZ)
 iH:Int
 n:Int
 closed:Bool
abbrev pU:dB bX:=dB.via (LP (LA ij 4) (LP (LI .i64) (LP (LI .i64) LB))) (λx=>(x.ring,x.iH,x.n,x.closed))
abbrev tU:bX:=⟨(λ_ =>fN),0,0,false⟩
instance:Inhabited bX:=⟨tU⟩
def Bt:List Value:=(flat (λ_ =>vm) 4)++([.int .i64 0]++([.int .i64 0]++([.bool false])))
theorem IG{A:World->Prop}:pU.eZ A Bt tU:=⟨_,_,rfl,⟨_,rfl,λ_ _ =>AF⟩,⟨_,_,rfl,rfl,⟨_,_,rfl,rfl,rfl⟩⟩⟩
theorem JN:aW pU (LA ij 4) 0 (λx=>x.ring) (λx v=>{x with ring:=v}):=(aW.fst aW.id).via _ _ _ 0 rfl (λ_ =>rfl) (λ_ _ =>rfl)
theorem IB:aW pU (LI .i64) 16 (λx=>x.iH) (λx v=>{x with iH:=v}):=(aW.snd (aW.fst aW.id)).via _ _ _ 16 rfl (λ_ =>rfl) (λ_ _ =>rfl)
theorem PK:aW pU (LI .i64) 17 (λx=>x.n) (λx v=>{x with n:=v}):=(aW.snd (aW.snd (aW.fst aW.id))).via _ _ _ 17 rfl (λ_ =>rfl) (λ_ _ =>rfl)
theorem GC:aW pU LB 18 (λx=>x.closed) (λx v=>{x with closed:=v}):=(aW.snd (aW.snd (aW.snd aW.id))).via _ _ _ 18 rfl (λ_ =>rfl) (λ_ _ =>rfl)
structure bB where
 aC:dg
 fO:(Nat->bX)
 di:(Nat->Bool)
 qm:(Nat->Bool)
abbrev oO:dB bB:=dB.via (LP iu (LP (LA pU 8) (LP (LA LB 8) (LA LB 8)))) (λx=>(x.aC,x.fO,x.di,x.qm))
abbrev dX:bB:=⟨An,(λ_ =>tU),(λ_ =>false),(λ_ =>false)⟩
instance:Inhabited bB:=⟨dX⟩
def o8:List Value:=DP++((flat (λ_ =>Bt) 8)++((flat (λ_ =>[.bool false]) 8)++((flat (λ_ =>[.bool false]) 8))))
theorem Bo{A:World->Prop}:oO.eZ A o8 dX:=⟨_,_,rfl,Mn,⟨_,_,rfl,⟨_,rfl,λ_ _ =>IG⟩,⟨_,_,rfl,⟨_,rfl,λ_ _ =>rfl⟩,⟨_,rfl,λ_ _ =>rfl⟩⟩⟩⟩
theorem GA:aW oO iu 0 (λx=>x.aC) (λx v=>{x with aC:=v}):=(aW.fst aW.id).via _ _ _ 0 rfl (λ_ =>rfl) (λ_ _ =>rfl)
theorem DF:aW oO (LA pU 8) 784 (λx=>x.fO) (λx v=>{x with fO:=v}):=(aW.snd (aW.fst aW.id)).via _ _ _ 784 rfl (λ_ =>rfl) (λ_ _ =>rfl)
theorem DG:aW oO (LA LB 8) 936 (λx=>x.di) (λx v=>{x with di:=v}):=(aW.snd (aW.snd (aW.fst aW.id))).via _ _ _ 936 rfl (λ_ =>rfl) (λ_ _ =>rfl)
theorem EX:aW oO (LA LB 8) 944 (λx=>x.qm) (λx v=>{x with qm:=v}):=(aW.snd (aW.snd (aW.snd aW.id))).via _ _ _ 944 rfl (λ_ =>rfl) (λ_ _ =>rfl)
structure aD where
 gA:(Nat->Int)
 Is:(Nat->Int)
abbrev nq:dB aD:=dB.via (LP (LA (LI .i64) 32) (LA (LI .i64) 32)) (λx=>(x.gA,x.Is))
abbrev oy:aD:=⟨(λ_ =>0),(λ_ =>0)⟩
instance:Inhabited aD:=⟨oy⟩
def ud:List Value:=(flat (λ_ =>[.int .i64 0]) 32)++((flat (λ_ =>[.int .i64 0]) 32))
theorem yw{A:World->Prop}:nq.eZ A ud oy:=⟨_,_,rfl,⟨_,rfl,λ_ _ =>rfl⟩,⟨_,rfl,λ_ _ =>rfl⟩⟩
theorem Iu:aW nq (LA (LI .i64) 32) 0 (λx=>x.gA) (λx v=>{x with gA:=v}):=(aW.fst aW.id).via _ _ _ 0 rfl (λ_ =>rfl) (λ_ _ =>rfl)
theorem JK:aW nq (LA (LI .i64) 32) 32 (λx=>x.Is) (λx v=>{x with Is:=v}):=(aW.snd aW.id).via _ _ _ 32 rfl (λ_ =>rfl) (λ_ _ =>rfl)
structure bP where
 aU:(List (Nat->Int))
 jW:Int
abbrev nU:dB bP:=dB.via (LP (@PN (Nat->Int) ⟨(λ_ =>0)⟩ (LA (LI .i64) 2)) (LI .i64)) (λx=>(x.aU,x.jW))
abbrev bA:bP:=⟨[],0⟩
instance:Inhabited bP:=⟨bA⟩
def vj:List Value:=[.slice none 0 0]++([.int .i64 0])
theorem AE{A:World->Prop}:nU.eZ A vj bA:=⟨_,_,rfl,⟨_,_,rfl,DL.nil⟩,rfl⟩
theorem DE:aW nU (@PN (Nat->Int) ⟨(λ_ =>0)⟩ (LA (LI .i64) 2)) 0 (λx=>x.aU) (λx v=>{x with aU:=v}):=(aW.fst aW.id).via _ _ _ 0 rfl (λ_ =>rfl) (λ_ _ =>rfl)
theorem EW:aW nU (LI .i64) 1 (λx=>x.jW) (λx v=>{x with jW:=v}):=(aW.snd aW.id).via _ _ _ 1 rfl (λ_ =>rfl) (λ_ _ =>rfl)
structure bL where
 Up:Int
 cE:Int
 E:bP
 bC:(Nat->Int)
abbrev kj:dB bL:=dB.via (LP (LI .i64) (LP (LI .i64) (LP nU (LA (LI .i64) 8)))) (λx=>(x.Up,x.cE,x.E,x.bC))
abbrev nR:bL:=⟨0,0,bA,(λ_ =>0)⟩
instance:Inhabited bL:=⟨nR⟩
def vi:List Value:=[.int .i64 0]++([.int .i64 0]++(vj++((flat (λ_ =>[.int .i64 0]) 8))))
theorem AB{A:World->Prop}:kj.eZ A vi nR:=⟨_,_,rfl,rfl,⟨_,_,rfl,rfl,⟨_,_,rfl,AE,⟨_,rfl,λ_ _ =>rfl⟩⟩⟩⟩
theorem Gy:aW kj (LI .i64) 0 (λx=>x.Up) (λx v=>{x with Up:=v}):=(aW.fst aW.id).via _ _ _ 0 rfl (λ_ =>rfl) (λ_ _ =>rfl)
theorem CF:aW kj (LI .i64) 1 (λx=>x.cE) (λx v=>{x with cE:=v}):=(aW.snd (aW.fst aW.id)).via _ _ _ 1 rfl (λ_ =>rfl) (λ_ _ =>rfl)
theorem Ir:aW kj nU 2 (λx=>x.E) (λx v=>{x with E:=v}):=(aW.snd (aW.snd (aW.fst aW.id))).via _ _ _ 2 rfl (λ_ =>rfl) (λ_ _ =>rfl)
theorem CG:aW kj (LA (LI .i64) 8) 4 (λx=>x.bC) (λx v=>{x with bC:=v}):=(aW.snd (aW.snd (aW.snd aW.id))).via _ _ _ 4 rfl (λ_ =>rfl) (λ_ _ =>rfl)
structure ai where
 B:aD
 R:(Nat->bL)
abbrev oN:dB ai:=dB.via (LP nq (LA kj 32)) (λx=>(x.B,x.R))
abbrev gG:ai:=⟨oy,(λ_ =>nR)⟩
instance:Inhabited ai:=⟨gG⟩
def wJ:List Value:=ud++((flat (λ_ =>vi) 32))
theorem Bn{A:World->Prop}:oN.eZ A wJ gG:=⟨_,_,rfl,yw,⟨_,rfl,λ_ _ =>AB⟩⟩
theorem JJ:aW oN nq 0 (λx=>x.B) (λx v=>{x with B:=v}):=(aW.fst aW.id).via _ _ _ 0 rfl (λ_ =>rfl) (λ_ _ =>rfl)
theorem JI:aW oN (LA kj 32) 64 (λx=>x.R) (λx v=>{x with R:=v}):=(aW.snd aW.id).via _ _ _ 64 rfl (λ_ =>rfl) (λ_ _ =>rfl)
structure bS where
 dx:Int
 gT:Int
 lH:(Nat->Bool)
abbrev aK:dB bS:=dB.via (LP (LI .i64) (LP (LI .i64) (LA LB 8))) (λx=>(x.dx,x.gT,x.lH))
abbrev pP:bS:=⟨0,0,(λ_ =>false)⟩
instance:Inhabited bS:=⟨pP⟩
def E6:List Value:=[.int .i64 0]++([.int .i64 0]++((flat (λ_ =>[.bool false]) 8)))
theorem NT{A:World->Prop}:aK.eZ A E6 pP:=⟨_,_,rfl,rfl,⟨_,_,rfl,rfl,⟨_,rfl,λ_ _ =>rfl⟩⟩⟩
theorem Iq:aW aK (LI .i64) 0 (λx=>x.dx) (λx v=>{x with dx:=v}):=(aW.fst aW.id).via _ _ _ 0 rfl (λ_ =>rfl) (λ_ _ =>rfl)
theorem Ip:aW aK (LI .i64) 1 (λx=>x.gT) (λx v=>{x with gT:=v}):=(aW.snd (aW.fst aW.id)).via _ _ _ 1 rfl (λ_ =>rfl) (λ_ _ =>rfl)
theorem Gv:aW aK (LA LB 8) 2 (λx=>x.lH) (λx v=>{x with lH:=v}):=(aW.snd (aW.snd aW.id)).via _ _ _ 2 rfl (λ_ =>rfl) (λ_ _ =>rfl)
structure aS where
 cR:(List Int)
 tA:(List bS)
abbrev ql:dB aS:=dB.via (LP (@PN Int ⟨0⟩ (LI .i64)) (@PN bS ⟨pP⟩ aK)) (λx=>(x.cR,x.tA))
abbrev iq:aS:=⟨[],[]⟩
instance:Inhabited aS:=⟨iq⟩
def fP:List Value:=[.slice none 0 0]++([.slice none 0 0])
theorem lA{A:World->Prop}:ql.eZ A fP iq:=⟨_,_,rfl,⟨_,_,rfl,DL.nil⟩,⟨_,_,rfl,DL.nil⟩⟩
theorem Gu:aW ql (@PN Int ⟨0⟩ (LI .i64)) 0 (λx=>x.cR) (λx v=>{x with cR:=v}):=(aW.fst aW.id).via _ _ _ 0 rfl (λ_ =>rfl) (λ_ _ =>rfl)
theorem Io:aW ql (@PN bS ⟨pP⟩ aK) 1 (λx=>x.tA) (λx v=>{x with tA:=v}):=(aW.snd aW.id).via _ _ _ 1 rfl (λ_ =>rfl) (λ_ _ =>rfl)
structure cS where
 Region:Int
 By:Int
 To:Int
 bF:Bool
 bh:Int
abbrev jU:dB cS:=dB.via (LP (LI .i64) (LP (LI .i64) (LP (LI .i64) (LP LB (LI .i64))))) (λx=>(x.Region,x.By,x.To,x.bF,x.bh))
abbrev oL:cS:=⟨0,0,0,false,0⟩
instance:Inhabited cS:=⟨oL⟩
def wI:List Value:=[.int .i64 0]++([.int .i64 0]++([.int .i64 0]++([.bool false]++([.int .i64 0]))))
theorem Bm{A:World->Prop}:jU.eZ A wI oL:=⟨_,_,rfl,rfl,⟨_,_,rfl,rfl,⟨_,_,rfl,rfl,⟨_,_,rfl,rfl,rfl⟩⟩⟩⟩
theorem CD:aW jU (LI .i64) 0 (λx=>x.Region) (λx v=>{x with Region:=v}):=(aW.fst aW.id).via _ _ _ 0 rfl (λ_ =>rfl) (λ_ _ =>rfl)
theorem Im:aW jU (LI .i64) 1 (λx=>x.By) (λx v=>{x with By:=v}):=(aW.snd (aW.fst aW.id)).via _ _ _ 1 rfl (λ_ =>rfl) (λ_ _ =>rfl)
theorem Il:aW jU (LI .i64) 2 (λx=>x.To) (λx v=>{x with To:=v}):=(aW.snd (aW.snd (aW.fst aW.id))).via _ _ _ 2 rfl (λ_ =>rfl) (λ_ _ =>rfl)
theorem Be:aW jU LB 3 (λx=>x.bF) (λx v=>{x with bF:=v}):=(aW.snd (aW.snd (aW.snd (aW.fst aW.id)))).via _ _ _ 3 rfl (λ_ =>rfl) (λ_ _ =>rfl)
theorem DD:aW jU (LI .i64) 4 (λx=>x.bh) (λx v=>{x with bh:=v}):=(aW.snd (aW.snd (aW.snd (aW.snd aW.id)))).via _ _ _ 4 rfl (λ_ =>rfl) (λ_ _ =>rfl)
structure az where
 B:aD
 T:(Nat->cS)
abbrev nT:dB az:=dB.via (LP nq (LA jU 32)) (λx=>(x.B,x.T))
abbrev iX:az:=⟨oy,(λ_ =>oL)⟩
instance:Inhabited az:=⟨iX⟩
def vh:List Value:=ud++((flat (λ_ =>wI) 32))
theorem AA{A:World->Prop}:nT.eZ A vh iX:=⟨_,_,rfl,yw,⟨_,rfl,λ_ _ =>Bm⟩⟩
theorem Ik:aW nT nq 0 (λx=>x.B) (λx v=>{x with B:=v}):=(aW.fst aW.id).via _ _ _ 0 rfl (λ_ =>rfl) (λ_ _ =>rfl)
theorem Ij:aW nT (LA jU 32) 64 (λx=>x.T) (λx v=>{x with T:=v}):=(aW.snd aW.id).via _ _ _ 64 rfl (λ_ =>rfl) (λ_ _ =>rfl)
structure jA where
 T:ai
 O:aS
 K:az
abbrev pT:dB jA:=dB.via (LP oN (LP ql nT)) (λx=>(x.T,x.O,x.K))
abbrev Cp:jA:=⟨gG,iq,iX⟩
def E5:List Value:=wJ++(fP++(vh))
theorem NR{A:World->Prop}:pT.eZ A E5 Cp:=⟨_,_,rfl,Bn,⟨_,_,rfl,lA,AA⟩⟩
theorem MT:aW pT oN 0 (λx=>x.T) (λx v=>{x with T:=v}):=(aW.fst aW.id).via _ _ _ 0 rfl (λ_ =>rfl) (λ_ _ =>rfl)
theorem MU:aW pT ql 448 (λx=>x.O) (λx v=>{x with O:=v}):=(aW.snd (aW.fst aW.id)).via _ _ _ 448 rfl (λ_ =>rfl) (λ_ _ =>rfl)
theorem MV:aW pT nT 450 (λx=>x.K) (λx v=>{x with K:=v}):=(aW.snd (aW.snd aW.id)).via _ _ _ 450 rfl (λ_ =>rfl) (λ_ _ =>rfl)
structure bD where
 nB:Int
 xR:Int
 Region:Int
 iI:Bool
abbrev jk:dB bD:=dB.via (LP (LI .i64) (LP (LI .u64) (LP (LI .i64) LB))) (λx=>(x.nB,x.xR,x.Region,x.iI))
abbrev kV:bD:=⟨0,0,0,false⟩
instance:Inhabited bD:=⟨kV⟩
def yM:List Value:=[.int .i64 0]++([.int .u64 0]++([.int .i64 0]++([.bool false])))
theorem GN{A:World->Prop}:jk.eZ A yM kV:=⟨_,_,rfl,rfl,⟨_,_,rfl,rfl,⟨_,_,rfl,rfl,rfl⟩⟩⟩
theorem CB:aW jk (LI .i64) 0 (λx=>x.nB) (λx v=>{x with nB:=v}):=(aW.fst aW.id).via _ _ _ 0 rfl (λ_ =>rfl) (λ_ _ =>rfl)
theorem CA:aW jk (LI .u64) 1 (λx=>x.xR) (λx v=>{x with xR:=v}):=(aW.snd (aW.fst aW.id)).via _ _ _ 1 rfl (λ_ =>rfl) (λ_ _ =>rfl)
theorem Av:aW jk (LI .i64) 2 (λx=>x.Region) (λx v=>{x with Region:=v}):=(aW.snd (aW.snd (aW.fst aW.id))).via _ _ _ 2 rfl (λ_ =>rfl) (λ_ _ =>rfl)
theorem Bd:aW jk LB 3 (λx=>x.iI) (λx v=>{x with iI:=v}):=(aW.snd (aW.snd (aW.snd aW.id))).via _ _ _ 3 rfl (λ_ =>rfl) (λ_ _ =>rfl)
structure cP where
 L:(List bD)
 nV:Bool
abbrev rJ:dB cP:=dB.via (LP (@PN bD ⟨kV⟩ jk) LB) (λx=>(x.L,x.nV))
abbrev rH:cP:=⟨[],false⟩
instance:Inhabited cP:=⟨rH⟩
def zu:List Value:=[.slice none 0 0]++([.bool false])
theorem E4{A:World->Prop}:rJ.eZ A zu rH:=⟨_,_,rfl,⟨_,_,rfl,DL.nil⟩,rfl⟩
theorem MS:aW rJ (@PN bD ⟨kV⟩ jk) 0 (λx=>x.L) (λx v=>{x with L:=v}):=(aW.fst aW.id).via _ _ _ 0 rfl (λ_ =>rfl) (λ_ _ =>rfl)
theorem EV:aW rJ LB 1 (λx=>x.nV) (λx v=>{x with nV:=v}):=(aW.snd aW.id).via _ _ _ 1 rfl (λ_ =>rfl) (λ_ _ =>rfl)
structure aj where
 aC:jA
 tB:(Nat->cP)
 di:(Nat->Bool)
 qm:(Nat->Bool)
 fz:(Nat->(List Int))
 o7:(List (Nat->Int))
abbrev lG:dB aj:=dB.via (LP pT (LP (LA rJ 8) (LP (LA LB 8) (LP (LA LB 8) (LP (LA (@PN Int ⟨0⟩ (LI .u8)) 32) (@PN (Nat->Int) ⟨(λ_ =>0)⟩ (LA (LI .i64) 2))))))) (λx=>(x.aC,x.tB,x.di,x.qm,x.fz,x.o7))
abbrev fR:aj:=⟨Cp,(λ_ =>rH),(λ_ =>false),(λ_ =>false),(λ_ =>[]),[]⟩
instance:Inhabited aj:=⟨fR⟩
def Bq:List Value:=E5++((flat (λ_ =>zu) 8)++((flat (λ_ =>[.bool false]) 8)++((flat (λ_ =>[.bool false]) 8)++((flat (λ_ =>[.slice none 0 0]) 32)++([.slice none 0 0])))))
theorem Kb{A:World->Prop}:lG.eZ A Bq fR:=⟨_,_,rfl,NR,⟨_,_,rfl,⟨_,rfl,λ_ _ =>E4⟩,⟨_,_,rfl,⟨_,rfl,λ_ _ =>rfl⟩,⟨_,_,rfl,⟨_,rfl,λ_ _ =>rfl⟩,⟨_,_,rfl,⟨_,rfl,λ_ _ =>⟨_,_,rfl,DL.nil⟩⟩,⟨_,_,rfl,DL.nil⟩⟩⟩⟩⟩⟩
theorem Gs:aW lG pT 0 (λx=>x.aC) (λx v=>{x with aC:=v}):=(aW.fst aW.id).via _ _ _ 0 rfl (λ_ =>rfl) (λ_ _ =>rfl)
theorem Gt:aW lG (LA rJ 8) 674 (λx=>x.tB) (λx v=>{x with tB:=v}):=(aW.snd (aW.fst aW.id)).via _ _ _ 674 rfl (λ_ =>rfl) (λ_ _ =>rfl)
theorem DC:aW lG (LA LB 8) 690 (λx=>x.di) (λx v=>{x with di:=v}):=(aW.snd (aW.snd (aW.fst aW.id))).via _ _ _ 690 rfl (λ_ =>rfl) (λ_ _ =>rfl)
theorem ET:aW lG (LA LB 8) 698 (λx=>x.qm) (λx v=>{x with qm:=v}):=(aW.snd (aW.snd (aW.snd (aW.fst aW.id)))).via _ _ _ 698 rfl (λ_ =>rfl) (λ_ _ =>rfl)
theorem DB:aW lG (LA (@PN Int ⟨0⟩ (LI .u8)) 32) 706 (λx=>x.fz) (λx v=>{x with fz:=v}):=(aW.snd (aW.snd (aW.snd (aW.snd (aW.fst aW.id))))).via _ _ _ 706 rfl (λ_ =>rfl) (λ_ _ =>rfl)
theorem EU:aW lG (@PN (Nat->Int) ⟨(λ_ =>0)⟩ (LA (LI .i64) 2)) 738 (λx=>x.o7) (λx v=>{x with o7:=v}):=(aW.snd (aW.snd (aW.snd (aW.snd (aW.snd aW.id))))).via _ _ _ 738 rfl (λ_ =>rfl) (λ_ _ =>rfl)
structure cG where
 l:(List aB)
abbrev u7:dB cG:=dB.via (@PN aB ⟨fV⟩ cM) (λx=>x.l)
abbrev n9:cG:=⟨[]⟩
instance:Inhabited cG:=⟨n9⟩
def zq:List Value:=[.slice none 0 0]
theorem E3{A:World->Prop}:u7.eZ A zq n9:=⟨_,_,rfl,DL.nil⟩
theorem MQ:aW u7 (@PN aB ⟨fV⟩ cM) 0 (λx=>x.l) (λx v=>{x with l:=v}):=aW.id.via _ _ _ 0 rfl (λ_ =>rfl) (λ_ _ =>rfl)
structure dK where
 qx:cG
abbrev yL:dB dK:=dB.via u7 (λx=>x.qx)
abbrev qO:dK:=⟨n9⟩
instance:Inhabited dK:=⟨qO⟩
def Bv:List Value:=zq
theorem Ke{A:World->Prop}:yL.eZ A Bv qO:=E3
theorem EY:aW yL u7 0 (λx=>x.qx) (λx v=>{x with qx:=v}):=aW.id.via _ _ _ 0 rfl (λ_ =>rfl) (λ_ _ =>rfl)
structure aA where
 E:Int
 V:Int
 W:Int
abbrev eD:dB aA:=dB.via (LP (LI .i64) (LP (LI .u64) (LI .u32))) (λx=>(x.E,x.V,x.W))
abbrev nS:aA:=⟨0,0,0⟩
def vl:List Value:=[.int .i64 0]++([.int .u64 0]++([.int .u32 0]))
theorem Jf{A:World->Prop}:eD.eZ A vl nS:=⟨_,_,rfl,rfl,⟨_,_,rfl,rfl,rfl⟩⟩
theorem IA:aW eD (LI .i64) 0 (λx=>x.E) (λx v=>{x with E:=v}):=(aW.fst aW.id).via _ _ _ 0 rfl (λ_ =>rfl) (λ_ _ =>rfl)
theorem Iz:aW eD (LI .u64) 1 (λx=>x.V) (λx v=>{x with V:=v}):=(aW.snd (aW.fst aW.id)).via _ _ _ 1 rfl (λ_ =>rfl) (λ_ _ =>rfl)
theorem Iy:aW eD (LI .u32) 2 (λx=>x.W) (λx v=>{x with W:=v}):=(aW.snd (aW.snd aW.id)).via _ _ _ 2 rfl (λ_ =>rfl) (λ_ _ =>rfl)
structure aH where
 E:Int
 V:Int
 W:Int
abbrev pS:dB aH:=dB.via (LP (LI .i64) (LP (LI .u64) (LI .i64))) (λx=>(x.E,x.V,x.W))
abbrev pO:aH:=⟨0,0,0⟩
instance:Inhabited aH:=⟨pO⟩
def AG:List Value:=[.int .i64 0]++([.int .u64 0]++([.int .i64 0]))
theorem Je{A:World->Prop}:pS.eZ A AG pO:=⟨_,_,rfl,rfl,⟨_,_,rfl,rfl,rfl⟩⟩
theorem Ii:aW pS (LI .i64) 0 (λx=>x.E) (λx v=>{x with E:=v}):=(aW.fst aW.id).via _ _ _ 0 rfl (λ_ =>rfl) (λ_ _ =>rfl)
theorem Ih:aW pS (LI .u64) 1 (λx=>x.V) (λx v=>{x with V:=v}):=(aW.snd (aW.fst aW.id)).via _ _ _ 1 rfl (λ_ =>rfl) (λ_ _ =>rfl)
theorem Ig:aW pS (LI .i64) 2 (λx=>x.W) (λx v=>{x with W:=v}):=(aW.snd (aW.snd aW.id)).via _ _ _ 2 rfl (λ_ =>rfl) (λ_ _ =>rfl)
structure bU where
 Do:Int
 R:Int
 S:Int
 A:Int
 B:Int
 V:Int
abbrev nk:dB bU:=dB.via (LP (LI .i64) (LP (LI .i64) (LP (LI .i64) (LP (LI .i64) (LP (LI .i64) (LI .u64)))))) (λx=>(x.Do,x.R,x.S,x.A,x.B,x.V))
abbrev sP:bU:=⟨0,0,0,0,0,0⟩
instance:Inhabited bU:=⟨sP⟩
def DO:List Value:=[.int .i64 0]++([.int .i64 0]++([.int .i64 0]++([.int .i64 0]++([.int .i64 0]++([.int .u64 0])))))
theorem Mm{A:World->Prop}:nk.eZ A DO sP:=⟨_,_,rfl,rfl,⟨_,_,rfl,rfl,⟨_,_,rfl,rfl,⟨_,_,rfl,rfl,⟨_,_,rfl,rfl,rfl⟩⟩⟩⟩⟩
theorem JH:aW nk (LI .i64) 0 (λx=>x.Do) (λx v=>{x with Do:=v}):=(aW.fst aW.id).via _ _ _ 0 rfl (λ_ =>rfl) (λ_ _ =>rfl)
theorem L2:aW nk (LI .i64) 1 (λx=>x.R) (λx v=>{x with R:=v}):=(aW.snd (aW.fst aW.id)).via _ _ _ 1 rfl (λ_ =>rfl) (λ_ _ =>rfl)
theorem L1:aW nk (LI .i64) 2 (λx=>x.S) (λx v=>{x with S:=v}):=(aW.snd (aW.snd (aW.fst aW.id))).via _ _ _ 2 rfl (λ_ =>rfl) (λ_ _ =>rfl)
theorem L4:aW nk (LI .i64) 3 (λx=>x.A) (λx v=>{x with A:=v}):=(aW.snd (aW.snd (aW.snd (aW.fst aW.id)))).via _ _ _ 3 rfl (λ_ =>rfl) (λ_ _ =>rfl)
theorem L3:aW nk (LI .i64) 4 (λx=>x.B) (λx v=>{x with B:=v}):=(aW.snd (aW.snd (aW.snd (aW.snd (aW.fst aW.id))))).via _ _ _ 4 rfl (λ_ =>rfl) (λ_ _ =>rfl)
theorem LZ:aW nk (LI .u64) 5 (λx=>x.V) (λx v=>{x with V:=v}):=(aW.snd (aW.snd (aW.snd (aW.snd (aW.snd aW.id))))).via _ _ _ 5 rfl (λ_ =>rfl) (λ_ _ =>rfl)
structure aq where
 av:bB
 aE:Int
 c:aN
 run:aB
 pJ:Int
 Gf:Bool
 gO:(List aB)
abbrev LQ:aq:=⟨dX,0,lu,fV,0,false,[]⟩
instance:Inhabited aq:=⟨LQ⟩
structure Bu where
 A:Type
 z:A
 L:dB A
def bu:List Bu:=[⟨aN,lu,fJ⟩,⟨kL,I5,rK⟩,⟨eR,qP,cZ⟩,⟨bn,lE,bw⟩,⟨pA,Am,sU⟩,⟨aB,fV,cM⟩,⟨aT,dG,mL⟩,⟨aR,nQ,kg⟩,⟨au,iL,oM⟩,⟨cF,wD,uc⟩,⟨pG,xG,tZ⟩,⟨bM,pQ,xJ⟩,⟨bE,lD,ck⟩,⟨ay,eC,aF⟩,⟨dg,An,iu⟩,⟨aZ,fN,ij⟩,⟨bX,tU,pU⟩,⟨bB,dX,oO⟩,⟨aD,oy,nq⟩,⟨bP,bA,nU⟩,⟨bL,nR,kj⟩,⟨ai,gG,oN⟩,⟨bS,pP,aK⟩,⟨aS,iq,ql⟩,⟨cS,oL,jU⟩,⟨az,iX,nT⟩,⟨jA,Cp,pT⟩,⟨bD,kV,jk⟩,⟨cP,rH,rJ⟩,⟨aj,fR,lG⟩,⟨cG,n9,u7⟩,⟨dK,qO,yL⟩,⟨aA,nS,eD⟩,⟨aH,pO,pS⟩,⟨bU,sP,nk⟩]
def b0:Bu:=⟨Bool,false,LB⟩
def nth:List Bu->Nat->Bu
 |[],_ =>b0
 |b::r,i=>match i with
  |0=>b
  |i+1=>nth r i
def sg:Sg:=⟨λi=>(nth bu i).A,λi=>(nth bu i).z,λi=>(nth bu i).L,some (.u8,[(1,130),(2,131),(3,132),(4,133),(5,134),(6,135),(7,136),(8,137),(9,138),(10,139),(11,140),(12,141),(13,142),(14,143),(15,144),(16,144),(17,145),(18,146),(19,147),(20,148),(21,149),(22,150)])⟩
def fds:Uj sg
 |0=>[⟨(.int .u8),0,λ(x:aN)=>x.Do,λ(x:aN) v=>({x with Do:=v}:aN),JM⟩,⟨(.int .u32),1,λ(x:aN)=>x.R,λ(x:aN) v=>({x with R:=v}:aN),Ma⟩,⟨(.int .u32),2,λ(x:aN)=>x.S,λ(x:aN) v=>({x with S:=v}:aN),L9⟩,⟨(.int .u32),3,λ(x:aN)=>x.A,λ(x:aN) v=>({x with A:=v}:aN),Mc⟩,⟨(.int .u32),4,λ(x:aN)=>x.B,λ(x:aN) v=>({x with B:=v}:aN),Mb⟩,⟨(.int .u64),5,λ(x:aN)=>x.V,λ(x:aN) v=>({x with V:=v}:aN),L8⟩]
 |1=>[⟨(.int .u8),0,λ(x:kL)=>x.gT,λ(x:kL) v=>({x with gT:=v}:kL),IC⟩,⟨(.st 0),1,λ(x:kL)=>x.C,λ(x:kL) v=>({x with C:=v}:kL),MW⟩]
 |2=>[⟨(.int .u32),0,λ(x:eR)=>x.gen,λ(x:eR) v=>({x with gen:=v}:eR),nj⟩,⟨.bool,1,λ(x:eR)=>x.oh,λ(x:eR) v=>({x with oh:=v}:eR),pR⟩,⟨.bool,2,λ(x:eR)=>x.mR,λ(x:eR) v=>({x with mR:=v}:eR),tw⟩]
 |3=>[⟨(.ou 32 (.st 2)),0,λ(x:bn)=>x.aI,λ(x:bn) v=>({x with aI:=v}:bn),eX⟩]
 |4=>[⟨(.st 3),0,λ(x:pA)=>x.oz,λ(x:pA) v=>({x with oz:=v}:pA),Gq⟩]
 |5=>[⟨(.int .i64),0,λ(x:aB)=>x.At,λ(x:aB) v=>({x with At:=v}:aB),MR⟩,⟨(.int .i64),1,λ(x:aB)=>x.N,λ(x:aB) v=>({x with N:=v}:aB),PJ⟩]
 |6=>[⟨(.sl (.st 5)),0,λ(x:aT)=>x.aU,λ(x:aT) v=>({x with aU:=v}:aT),CI⟩,⟨(.int .i64),1,λ(x:aT)=>x.jW,λ(x:aT) v=>({x with jW:=v}:aT),DJ⟩]
 |7=>[⟨(.int .u32),0,λ(x:aR)=>x.Up,λ(x:aR) v=>({x with Up:=v}:aR),Gr⟩,⟨(.int .i64),1,λ(x:aR)=>x.cE,λ(x:aR) v=>({x with cE:=v}:aR),Cy⟩,⟨(.st 6),2,λ(x:aR)=>x.E,λ(x:aR) v=>({x with E:=v}:aR),Ie⟩,⟨(.ou 8 (.int .u32)),4,λ(x:aR)=>x.bC,λ(x:aR) v=>({x with bC:=v}:aR),Cz⟩]
 |8=>[⟨(.st 4),0,λ(x:au)=>x.bj,λ(x:au) v=>({x with bj:=v}:au),ES⟩,⟨(.ou 32 (.st 7)),96,λ(x:au)=>x.cL,λ(x:au) v=>({x with cL:=v}:au),Bc⟩]
 |9=>[⟨(.int .u8),0,λ(x:cF)=>x.dx,λ(x:cF) v=>({x with dx:=v}:cF),L7⟩,⟨(.int .u8),1,λ(x:cF)=>x.gT,λ(x:cF) v=>({x with gT:=v}:cF),L6⟩,⟨(.int .u8),2,λ(x:cF)=>x.dR,λ(x:cF) v=>({x with dR:=v}:cF),Gz⟩]
 |10=>[⟨(.int .u32),0,λ(x:pG)=>x.root,λ(x:pG) v=>({x with root:=v}:pG),JL⟩,⟨(.st 9),1,λ(x:pG)=>x.own,λ(x:pG) v=>({x with own:=v}:pG),L5⟩]
 |11=>[⟨(.ou 32 (.st 10)),0,λ(x:bM)=>x.aI,λ(x:bM) v=>({x with aI:=v}:bM),Iw⟩]
 |12=>[⟨(.int .u32),0,λ(x:bE)=>x.Region,λ(x:bE) v=>({x with Region:=v}:bE),Cw⟩,⟨(.int .u8),1,λ(x:bE)=>x.By,λ(x:bE) v=>({x with By:=v}:bE),Ic⟩,⟨(.int .u8),2,λ(x:bE)=>x.To,λ(x:bE) v=>({x with To:=v}:bE),Ib⟩,⟨.bool,3,λ(x:bE)=>x.bF,λ(x:bE) v=>({x with bF:=v}:bE),Bb⟩,⟨(.int .u32),4,λ(x:bE)=>x.bh,λ(x:bE) v=>({x with bh:=v}:bE),vZ⟩]
 |13=>[⟨(.st 3),0,λ(x:ay)=>x.bj,λ(x:ay) v=>({x with bj:=v}:ay),gU⟩,⟨(.ou 16 (.st 12)),96,λ(x:ay)=>x.aI,λ(x:ay) v=>({x with aI:=v}:ay),uY⟩]
 |14=>[⟨(.st 8),0,λ(x:dg)=>x.T,λ(x:dg) v=>({x with T:=v}:dg),Md⟩,⟨(.st 11),480,λ(x:dg)=>x.O,λ(x:dg) v=>({x with O:=v}:dg),Me⟩,⟨(.st 13),608,λ(x:dg)=>x.K,λ(x:dg) v=>({x with K:=v}:dg),Mf⟩]
 |15=>[⟨(.int .u8),0,λ(x:aZ)=>x.nB,λ(x:aZ) v=>({x with nB:=v}:aZ),DI⟩,⟨(.int .u64),1,λ(x:aZ)=>x.xR,λ(x:aZ) v=>({x with xR:=v}:aZ),DH⟩,⟨(.int .u32),2,λ(x:aZ)=>x.Region,λ(x:aZ) v=>({x with Region:=v}:aZ),Bf⟩,⟨.bool,3,λ(x:aZ)=>x.iI,λ(x:aZ) v=>({x with iI:=v}:aZ),CH⟩]
 |16=>[⟨(.ou 4 (.st 15)),0,λ(x:bX)=>x.ring,λ(x:bX) v=>({x with ring:=v}:bX),JN⟩,⟨(.int .i64),16,λ(x:bX)=>x.iH,λ(x:bX) v=>({x with iH:=v}:bX),IB⟩,⟨(.int .i64),17,λ(x:bX)=>x.n,λ(x:bX) v=>({x with n:=v}:bX),PK⟩,⟨.bool,18,λ(x:bX)=>x.closed,λ(x:bX) v=>({x with closed:=v}:bX),GC⟩]
 |17=>[⟨(.st 14),0,λ(x:bB)=>x.aC,λ(x:bB) v=>({x with aC:=v}:bB),GA⟩,⟨(.ou 8 (.st 16)),784,λ(x:bB)=>x.fO,λ(x:bB) v=>({x with fO:=v}:bB),DF⟩,⟨(.ou 8 .bool),936,λ(x:bB)=>x.di,λ(x:bB) v=>({x with di:=v}:bB),DG⟩,⟨(.ou 8 .bool),944,λ(x:bB)=>x.qm,λ(x:bB) v=>({x with qm:=v}:bB),EX⟩]
 |18=>[⟨(.ou 32 (.int .i64)),0,λ(x:aD)=>x.gA,λ(x:aD) v=>({x with gA:=v}:aD),Iu⟩,⟨(.ou 32 (.int .i64)),32,λ(x:aD)=>x.Is,λ(x:aD) v=>({x with Is:=v}:aD),JK⟩]
 |19=>[⟨(.sl (.ou 2 (.int .i64))),0,λ(x:bP)=>x.aU,λ(x:bP) v=>({x with aU:=v}:bP),DE⟩,⟨(.int .i64),1,λ(x:bP)=>x.jW,λ(x:bP) v=>({x with jW:=v}:bP),EW⟩]
 |20=>[⟨(.int .i64),0,λ(x:bL)=>x.Up,λ(x:bL) v=>({x with Up:=v}:bL),Gy⟩,⟨(.int .i64),1,λ(x:bL)=>x.cE,λ(x:bL) v=>({x with cE:=v}:bL),CF⟩,⟨(.st 19),2,λ(x:bL)=>x.E,λ(x:bL) v=>({x with E:=v}:bL),Ir⟩,⟨(.ou 8 (.int .i64)),4,λ(x:bL)=>x.bC,λ(x:bL) v=>({x with bC:=v}:bL),CG⟩]
 |21=>[⟨(.st 18),0,λ(x:ai)=>x.B,λ(x:ai) v=>({x with B:=v}:ai),JJ⟩,⟨(.ou 32 (.st 20)),64,λ(x:ai)=>x.R,λ(x:ai) v=>({x with R:=v}:ai),JI⟩]
 |22=>[⟨(.int .i64),0,λ(x:bS)=>x.dx,λ(x:bS) v=>({x with dx:=v}:bS),Iq⟩,⟨(.int .i64),1,λ(x:bS)=>x.gT,λ(x:bS) v=>({x with gT:=v}:bS),Ip⟩,⟨(.ou 8 .bool),2,λ(x:bS)=>x.lH,λ(x:bS) v=>({x with lH:=v}:bS),Gv⟩]
 |23=>[⟨(.sl (.int .i64)),0,λ(x:aS)=>x.cR,λ(x:aS) v=>({x with cR:=v}:aS),Gu⟩,⟨(.sl (.st 22)),1,λ(x:aS)=>x.tA,λ(x:aS) v=>({x with tA:=v}:aS),Io⟩]
 |24=>[⟨(.int .i64),0,λ(x:cS)=>x.Region,λ(x:cS) v=>({x with Region:=v}:cS),CD⟩,⟨(.int .i64),1,λ(x:cS)=>x.By,λ(x:cS) v=>({x with By:=v}:cS),Im⟩,⟨(.int .i64),2,λ(x:cS)=>x.To,λ(x:cS) v=>({x with To:=v}:cS),Il⟩,⟨.bool,3,λ(x:cS)=>x.bF,λ(x:cS) v=>({x with bF:=v}:cS),Be⟩,⟨(.int .i64),4,λ(x:cS)=>x.bh,λ(x:cS) v=>({x with bh:=v}:cS),DD⟩]
 |25=>[⟨(.st 18),0,λ(x:az)=>x.B,λ(x:az) v=>({x with B:=v}:az),Ik⟩,⟨(.ou 32 (.st 24)),64,λ(x:az)=>x.T,λ(x:az) v=>({x with T:=v}:az),Ij⟩]
 |26=>[⟨(.st 21),0,λ(x:jA)=>x.T,λ(x:jA) v=>({x with T:=v}:jA),MT⟩,⟨(.st 23),448,λ(x:jA)=>x.O,λ(x:jA) v=>({x with O:=v}:jA),MU⟩,⟨(.st 25),450,λ(x:jA)=>x.K,λ(x:jA) v=>({x with K:=v}:jA),MV⟩]
 |27=>[⟨(.int .i64),0,λ(x:bD)=>x.nB,λ(x:bD) v=>({x with nB:=v}:bD),CB⟩,⟨(.int .u64),1,λ(x:bD)=>x.xR,λ(x:bD) v=>({x with xR:=v}:bD),CA⟩,⟨(.int .i64),2,λ(x:bD)=>x.Region,λ(x:bD) v=>({x with Region:=v}:bD),Av⟩,⟨.bool,3,λ(x:bD)=>x.iI,λ(x:bD) v=>({x with iI:=v}:bD),Bd⟩]
 |28=>[⟨(.sl (.st 27)),0,λ(x:cP)=>x.L,λ(x:cP) v=>({x with L:=v}:cP),MS⟩,⟨.bool,1,λ(x:cP)=>x.nV,λ(x:cP) v=>({x with nV:=v}:cP),EV⟩]
 |29=>[⟨(.st 26),0,λ(x:aj)=>x.aC,λ(x:aj) v=>({x with aC:=v}:aj),Gs⟩,⟨(.ou 8 (.st 28)),674,λ(x:aj)=>x.tB,λ(x:aj) v=>({x with tB:=v}:aj),Gt⟩,⟨(.ou 8 .bool),690,λ(x:aj)=>x.di,λ(x:aj) v=>({x with di:=v}:aj),DC⟩,⟨(.ou 8 .bool),698,λ(x:aj)=>x.qm,λ(x:aj) v=>({x with qm:=v}:aj),ET⟩,⟨(.ou 32 (.sl (.int .u8))),706,λ(x:aj)=>x.fz,λ(x:aj) v=>({x with fz:=v}:aj),DB⟩,⟨(.sl (.ou 2 (.int .i64))),738,λ(x:aj)=>x.o7,λ(x:aj) v=>({x with o7:=v}:aj),EU⟩]
 |30=>[⟨(.sl (.st 5)),0,λ(x:cG)=>x.l,λ(x:cG) v=>({x with l:=v}:cG),MQ⟩]
 |31=>[⟨(.st 30),0,λ(x:dK)=>x.qx,λ(x:dK) v=>({x with qx:=v}:dK),EY⟩]
 |32=>[⟨(.int .i64),0,λ(x:aA)=>x.E,λ(x:aA) v=>({x with E:=v}:aA),IA⟩,⟨(.int .u64),1,λ(x:aA)=>x.V,λ(x:aA) v=>({x with V:=v}:aA),Iz⟩,⟨(.int .u32),2,λ(x:aA)=>x.W,λ(x:aA) v=>({x with W:=v}:aA),Iy⟩]
 |33=>[⟨(.int .i64),0,λ(x:aH)=>x.E,λ(x:aH) v=>({x with E:=v}:aH),Ii⟩,⟨(.int .u64),1,λ(x:aH)=>x.V,λ(x:aH) v=>({x with V:=v}:aH),Ih⟩,⟨(.int .i64),2,λ(x:aH)=>x.W,λ(x:aH) v=>({x with W:=v}:aH),Ig⟩]
 |34=>[⟨(.int .i64),0,λ(x:bU)=>x.Do,λ(x:bU) v=>({x with Do:=v}:bU),JH⟩,⟨(.int .i64),1,λ(x:bU)=>x.R,λ(x:bU) v=>({x with R:=v}:bU),L2⟩,⟨(.int .i64),2,λ(x:bU)=>x.S,λ(x:bU) v=>({x with S:=v}:bU),L1⟩,⟨(.int .i64),3,λ(x:bU)=>x.A,λ(x:bU) v=>({x with A:=v}:bU),L4⟩,⟨(.int .i64),4,λ(x:bU)=>x.B,λ(x:bU) v=>({x with B:=v}:bU),L3⟩,⟨(.int .u64),5,λ(x:bU)=>x.V,λ(x:bU) v=>({x with V:=v}:bU),LZ⟩]
 |_ =>[]
def teT:RJ TE:=(.gq 87 (.ou 32 86 5 160) (.gq 49 (.ou 32 48 4 128) (.gq 30 (.st [(0,none),(1,none),(2,none)] 3) (.gq 22 (.sl 108 7 40) (.gq 5 (.int .u8) (.gq 3 (.int .i64) (.gq 1 .one .gi .gi) (.gq 4 .bool .gi .gi)) (.gq 20 .one (.gq 9 .one .gi .gi) .gi)) (.gq 25 (.int .u64) (.gq 24 (.int .u32) (.gq 23 (.int .u32) .gi .gi) .gi) (.gq 28 .one (.gq 27 (.st [(0,none),(1,none),(2,none),(3,none),(4,none),(5,none)] 6) .gi .gi) .gi))) (.gq 39 (.ou 8 24 1 8) (.gq 35 (.st [(0,some 96)] 96) (.gq 33 (.st [(0,some 96)] 96) (.gq 31 (.ou 32 30 3 96) .gi .gi) .gi) (.gq 38 (.st [(0,none),(1,none)] 2) (.gq 36 (.sl 110 2 16) .gi .gi) .gi)) (.gq 44 (.st [(0,some 96),(96,some 384)] 480) (.gq 42 (.ou 32 41 12 384) (.gq 41 (.st [(0,none),(1,none),(2,some 2),(4,some 8)] 12) .gi .gi) .gi) (.gq 48 (.st [(0,none),(1,some 3)] 4) (.gq 46 (.st [(0,none),(1,none),(2,none)] 3) .gi .gi) .gi)))) (.gq 69 (.ou 32 3 1 32) (.gq 60 (.st [(0,none),(1,none),(2,none),(3,none)] 4) (.gq 54 (.ou 16 53 5 80) (.gq 53 (.st [(0,none),(1,none),(2,none),(3,none),(4,none)] 5) (.gq 51 (.st [(0,some 128)] 128) .gi .gi) .gi) (.gq 58 (.st [(0,some 480),(480,some 128),(608,some 176)] 784) (.gq 56 (.st [(0,some 96),(96,some 80)] 176) .gi .gi) .gi)) (.gq 64 (.ou 8 63 19 152) (.gq 63 (.st [(0,some 16),(16,none),(17,none),(18,none)] 19) (.gq 61 (.ou 4 60 4 16) .gi .gi) .gi) (.gq 67 (.st [(0,some 784),(784,some 152),(936,some 8),(944,some 8)] 952) (.gq 65 (.ou 8 4 1 8) .gi .gi) .gi))) (.gq 78 (.ou 32 77 12 384) (.gq 74 (.st [(0,none),(1,none)] 2) (.gq 72 (.sl 126 2 16) (.gq 71 (.st [(0,some 32),(32,some 32)] 64) .gi .gi) .gi) (.gq 77 (.st [(0,none),(1,none),(2,some 2),(4,some 8)] 12) (.gq 75 (.ou 8 3 1 8) .gi .gi) .gi)) (.gq 82 (.sl 190 10 24) (.gq 81 (.sl 3 1 8) (.gq 80 (.st [(0,some 64),(64,some 384)] 448) .gi .gi) .gi) (.gq 86 (.st [(0,none),(1,none),(2,none),(3,none),(4,none)] 5) (.gq 84 (.st [(0,none),(1,none)] 2) .gi .gi) .gi))))) (.gq 156 .one (.gq 110 (.st [(0,none),(1,none)] 2) (.gq 96 (.sl 5 1 1) (.gq 92 (.sl 197 4 32) (.gq 91 (.st [(0,some 448),(448,some 2),(450,some 224)] 674) (.gq 89 (.st [(0,some 64),(64,some 160)] 224) .gi .gi) .gi) (.gq 95 (.ou 8 94 2 16) (.gq 94 (.st [(0,none),(1,none)] 2) .gi .gi) .gi)) (.gq 102 (.st [(0,none)] 1) (.gq 99 (.st [(0,some 674),(674,some 16),(690,some 8),(698,some 8),(706,some 32),(738,none)] 739) (.gq 97 (.ou 32 96 1 32) .gi .gi) .gi) (.gq 108 (.st [(0,none),(1,some 6)] 7) (.gq 105 (.st [(0,some 1)] 1) .gi .gi) .gi))) (.gq 134 .one (.gq 120 (.st [(0,none),(1,none),(2,none)] 3) (.gq 116 (.st [(0,none),(1,none),(2,none)] 3) (.gq 114 (.int .i64) .gi .gi) .gi) (.gq 126 (.ou 2 3 1 2) (.gq 124 (.st [(0,none),(1,none),(2,none),(3,none),(4,none),(5,none)] 6) .gi .gi) .gi)) (.gq 141 .ptr (.gq 136 .ptr (.gq 135 .one .gi .gi) .gi) (.gq 155 .one (.gq 143 (.st [(0,some 952),(952,none),(953,some 6),(959,some 2),(961,none),(962,none),(963,none)] 964) .gi .gi) .gi)))) (.gq 285 (.sl 60 4 24) (.gq 205 (.sl 36 1 24) (.gq 166 .one (.gq 164 .one (.gq 158 .one .gi .gi) .gi) (.gq 197 (.st [(0,none),(1,none),(2,none),(3,none)] 4) (.gq 190 (.st [(0,none),(1,none),(2,some 8)] 10) .gi .gi) .gi)) (.gq 225 .one (.gq 219 (.ou 32 4 1 32) (.gq 209 (.ou 64 4 1 64) .gi .gi) .gi) (.gq 262 .one (.gq 248 (.sl 24 1 4) .gi .gi) .gi))) (.gq 321 .ptr (.gq 302 .one (.gq 292 .one (.gq 290 .one .gi .gi) .gi) (.gq 316 .one (.gq 303 .one .gi .gi) .gi)) (.gq 339 .one (.gq 338 .one (.gq 328 .one .gi .gi) .gi) (.gq 347 .one (.gq 346 .ptr .gi .gi) .gi))))))
def tt:TT Tryz.prog sg:=⟨fds,teT,by kernel_rfl⟩
theorem zt3(J:World->Prop)(ρ:bT):∃u:Value,cN Tryz.prog 3=some u.cells.toList/\rv (G:=sg) J ρ (.int .i64 0) u:=⟨.int .i64 0,by kernel_rfl,rfl⟩
theorem zt4(J:World->Prop)(ρ:bT):∃u:Value,cN Tryz.prog 4=some u.cells.toList/\rv (G:=sg) J ρ (.bool false) u:=⟨.bool false,by kernel_rfl,rfl⟩
theorem zt5(J:World->Prop)(ρ:bT):∃u:Value,cN Tryz.prog 5=some u.cells.toList/\rv (G:=sg) J ρ (.int .u8 0) u:=⟨.int .u8 0,by kernel_rfl,rfl⟩
theorem amL(J:World->Prop)(ρ:bT):∃u:Value,cN Tryz.prog 24=some u.cells.toList/\rv (G:=sg) J ρ (.int .u32 0) u:=⟨.int .u32 0,by kernel_rfl,rfl⟩
theorem amK(J:World->Prop)(ρ:bT):∃u:Value,cN Tryz.prog 27=some u.cells.toList/\rv (G:=sg) J ρ (.dat (.st 0) lu) u:=⟨.agg (qz).toArray,by kernel_rfl,_,rfl,DM,λ_ =>⟨_,rfl⟩,nofun⟩
theorem amJ(J:World->Prop)(ρ:bT):∃u:Value,cN Tryz.prog 30=some u.cells.toList/\rv (G:=sg) J ρ (.dat (.st 2) qP) u:=⟨.agg (wK).toArray,by kernel_rfl,_,rfl,Bp,λ_ =>⟨_,rfl⟩,nofun⟩
theorem amI(J:World->Prop)(ρ:bT):∃u:Value,cN Tryz.prog 33=some u.cells.toList/\rv (G:=sg) J ρ (.dat (.st 3) lE) u:=⟨.agg (rQ).toArray,by kernel_rfl,_,rfl,wF,λ_ =>⟨_,rfl⟩,nofun⟩
theorem amH(J:World->Prop)(ρ:bT):∃u:Value,cN Tryz.prog 36=some u.cells.toList/\rv (G:=sg) J ρ .pI u:=⟨.slice none 0 0,by kernel_rfl,rfl⟩
theorem amG(J:World->Prop)(ρ:bT):∃u:Value,cN Tryz.prog 38=some u.cells.toList/\rv (G:=sg) J ρ (.dat (.st 6) dG) u:=⟨.agg (lI).toArray,by kernel_rfl,_,rfl,pY,λ_ =>⟨_,rfl⟩,nofun⟩
theorem amF(J:World->Prop)(ρ:bT):∃u:Value,cN Tryz.prog 41=some u.cells.toList/\rv (G:=sg) J ρ (.dat (.st 7) nQ) u:=⟨.agg (vg).toArray,by kernel_rfl,_,rfl,Az,λ_ =>⟨_,rfl⟩,nofun⟩
theorem amE(J:World->Prop)(ρ:bT):∃u:Value,cN Tryz.prog 44=some u.cells.toList/\rv (G:=sg) J ρ (.dat (.st 8) iL) u:=⟨.agg (wH).toArray,by kernel_rfl,_,rfl,Bl,λ_ =>⟨_,rfl⟩,nofun⟩
theorem amD(J:World->Prop)(ρ:bT):∃u:Value,cN Tryz.prog 46=some u.cells.toList/\rv (G:=sg) J ρ (.dat (.st 9) wD) u:=⟨.agg (Eb).toArray,by kernel_rfl,_,rfl,Kc,λ_ =>⟨_,rfl⟩,nofun⟩
theorem amC(J:World->Prop)(ρ:bT):∃u:Value,cN Tryz.prog 48=some u.cells.toList/\rv (G:=sg) J ρ (.dat (.st 10) xG) u:=⟨.agg (Br).toArray,by kernel_rfl,_,rfl,IE,λ_ =>⟨_,rfl⟩,nofun⟩
theorem amB(J:World->Prop)(ρ:bT):∃u:Value,cN Tryz.prog 51=some u.cells.toList/\rv (G:=sg) J ρ (.dat (.st 11) pQ) u:=⟨.agg (Bs).toArray,by kernel_rfl,_,rfl,IF,λ_ =>⟨_,rfl⟩,nofun⟩
theorem amA(J:World->Prop)(ρ:bT):∃u:Value,cN Tryz.prog 53=some u.cells.toList/\rv (G:=sg) J ρ (.dat (.st 12) lD) u:=⟨.agg (wG).toArray,by kernel_rfl,_,rfl,Bk,λ_ =>⟨_,rfl⟩,nofun⟩
theorem amz(J:World->Prop)(ρ:bT):∃u:Value,cN Tryz.prog 56=some u.cells.toList/\rv (G:=sg) J ρ (.dat (.st 13) eC) u:=⟨.agg (ve).toArray,by kernel_rfl,_,rfl,Ay,λ_ =>⟨_,rfl⟩,nofun⟩
theorem amy(J:World->Prop)(ρ:bT):∃u:Value,cN Tryz.prog 60=some u.cells.toList/\rv (G:=sg) J ρ (.dat (.st 15) fN) u:=⟨.agg (vm).toArray,by kernel_rfl,_,rfl,AF,λ_ =>⟨_,rfl⟩,nofun⟩
theorem amx(J:World->Prop)(ρ:bT):∃u:Value,cN Tryz.prog 63=some u.cells.toList/\rv (G:=sg) J ρ (.dat (.st 16) tU) u:=⟨.agg (Bt).toArray,by kernel_rfl,_,rfl,IG,λ_ =>⟨_,rfl⟩,nofun⟩
theorem amw(J:World->Prop)(ρ:bT):∃u:Value,cN Tryz.prog 67=some u.cells.toList/\rv (G:=sg) J ρ (.dat (.st 17) dX) u:=⟨.agg (o8).toArray,by kernel_rfl,_,rfl,Bo,λ_ =>⟨_,rfl⟩,nofun⟩
theorem amv(J:World->Prop)(ρ:bT):∃u:Value,cN Tryz.prog 71=some u.cells.toList/\rv (G:=sg) J ρ (.dat (.st 18) oy) u:=⟨.agg (ud).toArray,by kernel_rfl,_,rfl,yw,λ_ =>⟨_,rfl⟩,nofun⟩
theorem amu(J:World->Prop)(ρ:bT):∃u:Value,cN Tryz.prog 74=some u.cells.toList/\rv (G:=sg) J ρ (.dat (.st 19) bA) u:=⟨.agg (vj).toArray,by kernel_rfl,_,rfl,AE,λ_ =>⟨_,rfl⟩,nofun⟩
theorem amt(J:World->Prop)(ρ:bT):∃u:Value,cN Tryz.prog 77=some u.cells.toList/\rv (G:=sg) J ρ (.dat (.st 20) nR) u:=⟨.agg (vi).toArray,by kernel_rfl,_,rfl,AB,λ_ =>⟨_,rfl⟩,nofun⟩
theorem ams(J:World->Prop)(ρ:bT):∃u:Value,cN Tryz.prog 80=some u.cells.toList/\rv (G:=sg) J ρ (.dat (.st 21) gG) u:=⟨.agg (wJ).toArray,by kernel_rfl,_,rfl,Bn,λ_ =>⟨_,rfl⟩,nofun⟩
theorem amr(J:World->Prop)(ρ:bT):∃u:Value,cN Tryz.prog 84=some u.cells.toList/\rv (G:=sg) J ρ (.dat (.st 23) iq) u:=⟨.agg (fP).toArray,by kernel_rfl,_,rfl,lA,λ_ =>⟨_,rfl⟩,nofun⟩
theorem amq(J:World->Prop)(ρ:bT):∃u:Value,cN Tryz.prog 86=some u.cells.toList/\rv (G:=sg) J ρ (.dat (.st 24) oL) u:=⟨.agg (wI).toArray,by kernel_rfl,_,rfl,Bm,λ_ =>⟨_,rfl⟩,nofun⟩
theorem amo(J:World->Prop)(ρ:bT):∃u:Value,cN Tryz.prog 89=some u.cells.toList/\rv (G:=sg) J ρ (.dat (.st 25) iX) u:=⟨.agg (vh).toArray,by kernel_rfl,_,rfl,AA,λ_ =>⟨_,rfl⟩,nofun⟩
theorem amn(J:World->Prop)(ρ:bT):∃u:Value,cN Tryz.prog 94=some u.cells.toList/\rv (G:=sg) J ρ (.dat (.st 28) rH) u:=⟨.agg (zu).toArray,by kernel_rfl,_,rfl,E4,λ_ =>⟨_,rfl⟩,nofun⟩
theorem amm(J:World->Prop)(ρ:bT):∃u:Value,cN Tryz.prog 99=some u.cells.toList/\rv (G:=sg) J ρ (.dat (.st 29) fR) u:=⟨.agg (Bq).toArray,by kernel_rfl,_,rfl,Kb,λ_ =>⟨_,rfl⟩,nofun⟩
theorem ajD(J:World->Prop)(ρ:bT):∃u:Value,cN Tryz.prog 102=some u.cells.toList/\rv (G:=sg) J ρ (.dat (.st 30) n9) u:=⟨.agg (zq).toArray,by kernel_rfl,_,rfl,E3,λ_ =>⟨_,rfl⟩,nofun⟩
theorem ajC(J:World->Prop)(ρ:bT):∃u:Value,cN Tryz.prog 105=some u.cells.toList/\rv (G:=sg) J ρ (.dat (.st 31) qO) u:=⟨.agg (Bv).toArray,by kernel_rfl,_,rfl,Ke,λ_ =>⟨_,rfl⟩,nofun⟩
theorem ajB(J:World->Prop)(ρ:bT):∃u:Value,cN Tryz.prog 110=some u.cells.toList/\rv (G:=sg) J ρ (.dat (.st 5) fV) u:=⟨.agg (uk).toArray,by kernel_rfl,_,rfl,ID,λ_ =>⟨_,rfl⟩,nofun⟩
theorem ajA(J:World->Prop)(ρ:bT):∃u:Value,cN Tryz.prog 114=some u.cells.toList/\rv (G:=sg) J ρ (.int .i64 0) u:=⟨.int .i64 0,by kernel_rfl,rfl⟩
theorem ajz(J:World->Prop)(ρ:bT):∃u:Value,cN Tryz.prog 116=some u.cells.toList/\rv (G:=sg) J ρ (.dat (.st 32) nS) u:=⟨.agg (vl).toArray,by kernel_rfl,_,rfl,Jf,λ_ =>⟨_,rfl⟩,nofun⟩
theorem ajy(J:World->Prop)(ρ:bT):∃u:Value,cN Tryz.prog 120=some u.cells.toList/\rv (G:=sg) J ρ (.dat (.st 33) pO) u:=⟨.agg (AG).toArray,by kernel_rfl,_,rfl,Je,λ_ =>⟨_,rfl⟩,nofun⟩
theorem ajx(J:World->Prop)(ρ:bT):∃u:Value,cN Tryz.prog 124=some u.cells.toList/\rv (G:=sg) J ρ (.dat (.st 34) sP) u:=⟨.agg (DO).toArray,by kernel_rfl,_,rfl,Mm,λ_ =>⟨_,rfl⟩,nofun⟩
theorem ajw(J:World->Prop)(ρ:bT):∃u:Value,cN Tryz.prog 126=some u.cells.toList/\rv (G:=sg) J ρ (.dat (.ou 2 (.int .i64)) (λ_ =>(0:Int))) u:=⟨.agg ((flat (λ_ =>[.int .i64 0]) 2)).toArray,by kernel_rfl,_,rfl,⟨_,rfl,λ_ _ =>rfl⟩,λ_ =>⟨_,rfl⟩,nofun⟩
theorem ajv(J:World->Prop)(ρ:bT):∃u:Value,cN Tryz.prog 134=some u.cells.toList/\rv (G:=sg) J ρ .B0 u:=⟨.nilFunc,by kernel_rfl,rfl⟩
theorem aju(J:World->Prop)(ρ:bT):∃u:Value,cN Tryz.prog 143=some u.cells.toList/\rv (G:=sg) J ρ (.st (.part 952 (.dat (.st 17) dX) (.part 1 (.int .i64 0) (.part 6 (.dat (.st 0) lu) (.part 2 (.dat (.st 5) fV) (.part 1 (.int .i64 0) (.part 1 (.bool false) (.part 1 .pI .nil)))))))) u:=⟨.agg (((o8:List Value)++(([.int .i64 0]:List Value)++((qz:List Value)++((uk:List Value)++(([.int .i64 0]:List Value)++(([.bool false]:List Value)++(([.slice none 0 0]:List Value)++([]:List Value))))))))).toArray,by kernel_rfl,_,rfl,⟨o8,_, .agg (o8).toArray,rfl,by kernel_rfl,⟨_,rfl,Bo,λ_ =>⟨_,rfl⟩,nofun⟩,rfl,⟨[.int .i64 0],_, .int .i64 0,rfl,rfl,rfl,rfl,⟨qz,_, .agg (qz).toArray,rfl,by kernel_rfl,⟨_,rfl,DM,λ_ =>⟨_,rfl⟩,nofun⟩,rfl,⟨uk,_, .agg (uk).toArray,rfl,by kernel_rfl,⟨_,rfl,ID,λ_ =>⟨_,rfl⟩,nofun⟩,rfl,⟨[.int .i64 0],_, .int .i64 0,rfl,rfl,rfl,rfl,⟨[.bool false],_, .bool false,rfl,rfl,rfl,rfl,⟨[.slice none 0 0],_, .slice none 0 0,rfl,rfl,rfl,rfl,rfl⟩⟩⟩⟩⟩⟩⟩,Aw (by kernel_rfl)⟩
theorem ajt(J:World->Prop)(ρ:bT):∃u:Value,cN Tryz.prog 190=some u.cells.toList/\rv (G:=sg) J ρ (.dat (.st 22) pP) u:=⟨.agg (E6).toArray,by kernel_rfl,_,rfl,NT,λ_ =>⟨_,rfl⟩,nofun⟩
theorem ajs(J:World->Prop)(ρ:bT):∃u:Value,cN Tryz.prog 197=some u.cells.toList/\rv (G:=sg) J ρ (.dat (.st 27) kV) u:=⟨.agg (yM).toArray,by kernel_rfl,_,rfl,GN,λ_ =>⟨_,rfl⟩,nofun⟩
theorem ajr(J:World->Prop)(ρ:bT):∃u:Value,cN Tryz.prog 209=some u.cells.toList/\rv (G:=sg) J ρ (.dat (.ou 64 .bool) (λ_ =>false)) u:=⟨.agg ((flat (λ_ =>[.bool false]) 64)).toArray,by kernel_rfl,_,rfl,⟨_,rfl,λ_ _ =>rfl⟩,λ_ =>⟨_,rfl⟩,nofun⟩
theorem ajq(J:World->Prop)(ρ:bT):∃u:Value,cN Tryz.prog 219=some u.cells.toList/\rv (G:=sg) J ρ (.dat (.ou 32 .bool) (λ_ =>false)) u:=⟨.agg ((flat (λ_ =>[.bool false]) 32)).toArray,by kernel_rfl,_,rfl,⟨_,rfl,λ_ _ =>rfl⟩,λ_ =>⟨_,rfl⟩,nofun⟩
theorem ajp(J:World->Prop)(ρ:bT):∃u:Value,cN Tryz.prog 262=some u.cells.toList/\rv (G:=sg) J ρ .B0 u:=⟨.nilFunc,by kernel_rfl,rfl⟩
theorem ajo(J:World->Prop)(ρ:bT):∃u:Value,cN Tryz.prog 285=some u.cells.toList/\rv (G:=sg) J ρ .pI u:=⟨.slice none 0 0,by kernel_rfl,rfl⟩
theorem ajn(J:World->Prop)(ρ:bT):∃u:Value,cN Tryz.prog 316=some u.cells.toList/\rv (G:=sg) J ρ .FQ u:=⟨.map none,by kernel_rfl,rfl⟩
def ztT:RJ (AV sg):=(.gq 80 (.dat (.st 21) gG) (.gq 46 (.dat (.st 9) wD) (.gq 30 (.dat (.st 2) qP) (.gq 5 (.int .u8 0) (.gq 4 (.bool false) (.gq 3 (.int .i64 0) .gi .gi) .gi) (.gq 27 (.dat (.st 0) lu) (.gq 24 (.int .u32 0) .gi .gi) .gi)) (.gq 38 (.dat (.st 6) dG) (.gq 36 .pI (.gq 33 (.dat (.st 3) lE) .gi .gi) .gi) (.gq 44 (.dat (.st 8) iL) (.gq 41 (.dat (.st 7) nQ) .gi .gi) .gi))) (.gq 63 (.dat (.st 16) tU) (.gq 53 (.dat (.st 12) lD) (.gq 51 (.dat (.st 11) pQ) (.gq 48 (.dat (.st 10) xG) .gi .gi) .gi) (.gq 60 (.dat (.st 15) fN) (.gq 56 (.dat (.st 13) eC) .gi .gi) .gi)) (.gq 74 (.dat (.st 19) bA) (.gq 71 (.dat (.st 18) oy) (.gq 67 (.dat (.st 17) dX) .gi .gi) .gi) (.gq 77 (.dat (.st 20) nR) .gi .gi)))) (.gq 124 (.dat (.st 34) sP) (.gq 102 (.dat (.st 30) n9) (.gq 89 (.dat (.st 25) iX) (.gq 86 (.dat (.st 24) oL) (.gq 84 (.dat (.st 23) iq) .gi .gi) .gi) (.gq 99 (.dat (.st 29) fR) (.gq 94 (.dat (.st 28) rH) .gi .gi) .gi)) (.gq 114 (.int .i64 0) (.gq 110 (.dat (.st 5) fV) (.gq 105 (.dat (.st 31) qO) .gi .gi) .gi) (.gq 120 (.dat (.st 33) pO) (.gq 116 (.dat (.st 32) nS) .gi .gi) .gi))) (.gq 209 (.dat (.ou 64 .bool) (λ_ =>false)) (.gq 143 (.st (.part 952 (.dat (.st 17) dX) (.part 1 (.int .i64 0) (.part 6 (.dat (.st 0) lu) (.part 2 (.dat (.st 5) fV) (.part 1 (.int .i64 0) (.part 1 (.bool false) (.part 1 .pI .nil)))))))) (.gq 134 .B0 (.gq 126 (.dat (.ou 2 (.int .i64)) (λ_ =>(0:Int))) .gi .gi) .gi) (.gq 197 (.dat (.st 27) kV) (.gq 190 (.dat (.st 22) pP) .gi .gi) .gi)) (.gq 285 .pI (.gq 262 .B0 (.gq 219 (.dat (.ou 32 .bool) (λ_ =>false)) .gi .gi) .gi) (.gq 316 .FQ .gi .gi)))))
def zt:ZT Tryz.prog sg:=⟨ztT,aiz ⟨ams,⟨amD,⟨amJ,⟨zt5,⟨zt4,⟨zt3,trivial,trivial⟩,trivial⟩,⟨amK,⟨amL,trivial,trivial⟩,trivial⟩⟩,⟨amG,⟨amH,⟨amI,trivial,trivial⟩,trivial⟩,⟨amE,⟨amF,trivial,trivial⟩,trivial⟩⟩⟩,⟨amx,⟨amA,⟨amB,⟨amC,trivial,trivial⟩,trivial⟩,⟨amy,⟨amz,trivial,trivial⟩,trivial⟩⟩,⟨amu,⟨amv,⟨amw,trivial,trivial⟩,trivial⟩,⟨amt,trivial,trivial⟩⟩⟩⟩,⟨ajx,⟨ajD,⟨amo,⟨amq,⟨amr,trivial,trivial⟩,trivial⟩,⟨amm,⟨amn,trivial,trivial⟩,trivial⟩⟩,⟨ajA,⟨ajB,⟨ajC,trivial,trivial⟩,trivial⟩,⟨ajy,⟨ajz,trivial,trivial⟩,trivial⟩⟩⟩,⟨ajr,⟨aju,⟨ajv,⟨ajw,trivial,trivial⟩,trivial⟩,⟨ajs,⟨ajt,trivial,trivial⟩,trivial⟩⟩,⟨ajo,⟨ajp,⟨ajq,trivial,trivial⟩,trivial⟩,⟨ajn,trivial,trivial⟩⟩⟩⟩⟩⟩
end Go.Proofs.Z
namespace Go.Rw
open Go Go.Bw Go.RowKit
variable {G:Sg} {P:Program} {Z:Type}
def Wt:AV G->List Nat->Option (AV G)
 |v,[]=>some v
 | .fn _ _ c,i::r=>match WS c i with
  |some x=>Wt x r
  |none=>none
 |_,_ =>none
theorem acW{J:World->Prop}{ρ:bT}:∀{p:List Nat} {v x:AV G} {u:Value},Wt v p=some x->rv J ρ v u->∃u',rv J ρ x u':=by
 intro p
 induction p with
 |nil=>intro v x u h hv;unfold Wt at h;obtain rfl:=Option.some.inj h;exact⟨u,hv⟩
 |cons i r ih=>
  intro v x u h hv;cases v<;>(try (simp[Wt]at h;done))
  case fn f a c=>
   simp only[Wt]at h;split at h
   ·rename_i y hy
    obtain⟨fs,cs,_,_,h2⟩:=hv;obtain⟨u',_,k2⟩:=OH hy h2;exact ih h k2
   ·cases h
def acY(aoT:AV G):List (List Nat)->Option (AV G)
 |[]=>some .nil
 |(i::p)::r=>match WS aoT i,acY aoT r with
  |some v,some l=>match Wt v p with
   |some x=>some (.cons x l)
   |none=>none
  |_,_ =>none
 |_ =>none
theorem acX{J:World->Prop}{ρ:bT}{aoT:AV G}{vs:List Value}(h:rl J ρ aoT vs):∀{bi:List (List Nat)} {bk:AV G},acY aoT bi=some bk->∃us,rl J ρ bk us:=by
 intro bi
 induction bi with
 |nil=>intro bk e;cases e;exact⟨[],rfl⟩
 |cons q r ih=>
  intro bk e;cases q with
  |nil=>cases e
  |cons i p=>
   simp only[acY]at e;split at e
   ·rename_i v l h1 h2
    split at e
    ·rename_i x hx
     cases e;obtain⟨u,_,k2⟩:=OH h1 h;obtain⟨u',k4⟩:=acW hx k2;obtain⟨us,k3⟩:=ih h2;exact⟨u'::us,u',us,rfl,k4,k3⟩
    ·cases e
   ·cases e
def Pj(dW:Sh)(nm:List (Option Nat))(base:Nat)(bk v:AV G)(S1:AS G)(k:HL G (br dW)->Option Z):Option Z:=
 match Ca (Ak S1.O dW (.cons v bk)) ⟨[(0,v)],S1.O,S1.nx,[]⟩with
 |S3=>match ga S3.F 0 with
  |some v'=>match qK dW (.cons v' bk) ⟨[],S3.O,S3.nx⟩with
   |some (x,g')=>bif D3 v'&&(zS nm g'.th&&zT base nm)then k x else none
   |none=>none
  |none=>none
theorem aa4{dW:Sh}{nm:List (Option Nat)}{bk v:AV G}{S1:AS G}{k:HL G (br dW)->Option Z}{z:Z}{base:Nat}(h:Pj dW nm base bk v S1 k=some z):∃y,Pj dW nm base bk v S1 some=some y/\k y=some z:=by
 unfold Pj at h ⊢;dsimp only at h ⊢;split at h
 ·rename_i v' Q3
  split at h
  ·rename_i x g' hg
   cases hc:(D3 v'&&(zS nm g'.th&&zT base nm))with
   |false=>rw[hc]at h;cases h
   |true=>rw[hc]at h;exact⟨x,rfl,h⟩
  ·cases h
 ·cases h
theorem Vv{dW:Sh}{nm:List (Option Nat)}{bk v:AV G}{S1:AS G}{y:HL G (br dW)}{ρ ρ':bT}{J J':World->Prop}{HK X Y H:List aO}{w w':World}{a:Act}{u:Value}{us:List Value}{base:Nat}
  (h:Pj dW nm base bk v S1 some=some y)(hb:rl J ρ bk us)(hto:ρ.to ρ' base)(hf:ρ.fr base)(hn:base<=S1.nx)(hJ:∀w,J' w->J w)(hv:rv J' ρ' v u)(hr:Rl ⟨none,w,cm H⟩ 0 ρ' J' HK (Y++X) [] ⟨[],S1.O,S1.nx,[]⟩ a w'):
  E2 dW nm y ρ J H HK X w u w':=by
 unfold Pj at h;have h2:Rl ⟨none,w,cm H⟩ 1 ρ' J' HK (Y++X) [] ⟨[(0,v)],S1.O,S1.nx,[]⟩ {a with tmps:= #[u]} w':=by
  refine⟨rfl,hr.df,hr.si,λd x e=>?_,λy hy=>(by cases hy),hr.kc,hr.hp,hr.kn,hr.fr⟩;simp only[ga]at e;cases hd:Nat.beq 0 d with
  |true=>rw[hd]at e;cases e;obtain rfl:=aoW hd;exact⟨u,rfl,Uz hv _⟩
  |false=>rw[hd]at e;cases e
 obtain⟨J3,Y3,mJ,h3⟩:=h2.Ca (Ak S1.O dW (.cons v bk));have R5:(Ca (Ak S1.O dW (.cons v bk)) (⟨[(0,v)],S1.O,S1.nx,[]⟩:AS G)).nx=S1.nx:=Aa _ _;revert h h3 R5;generalize Ca (Ak S1.O dW (.cons v bk)) (⟨[(0,v)],S1.O,S1.nx,[]⟩:AS G)=S3;intro h h3 R5;dsimp only at h;split at h
 ·rename_i v' Q3
  split at h
  ·rename_i x g' hg
   cases hc:(D3 v'&&(zS nm g'.th&&zT base nm))with
   |false=>rw[hc]at h;cases h
   |true=>
    rw[hc]at h;cases h;simp only[aoX]at hc;obtain⟨hc0,hc⟩:=hc;obtain⟨u0,e0,hrf⟩:=h3.fs 0 _ Q3;have e0:u0=u:=by have:(#[u]:Array Value)[0]? =some u0:=e0;simpa using this.symm
    subst e0;have hv2:rv J3 ρ' v' u0:=by
     cases v' with
     |gd j ww vv=>cases hc0
     |_ =>exact hrf
    have hle:=hto.le hf;have hb':rl J3 ρ' bk us:=(hb.ext hle).mono λw q=>hJ w (mJ w q);obtain⟨HS,q1,q3⟩:=h3.hp;obtain⟨ρ2,HB,H',hG⟩:=Li (l:=u0::us) (ρ:=ρ') hg ⟨u0,us,rfl,hv2,hb'⟩ q1 h3.fr;obtain⟨n1,n2⟩:=ZV hc.1;have n3:=ZW hc.2;refine⟨cmp ρ2 g'.th,J3,Y3++Y,HB,us,λw q=>hJ w (mJ w q),hG.val,hG.eL,?_,h3.si.s,?_,λi j e=>?_,λi hi=>?_⟩
    ·have:=hG.hp _ _ _ _ q3
     refine(this.sub (List.Sublist.append_left (List.sublist_append_right H' _) HB)).qf ?_;rw[List.append_assoc]
    ·rw[List.append_assoc];exact h3.kn
    ·have ht:=n2 i j e
     have hj:=n3 i j e;unfold cmp;rw[ht];dsimp only;rw[hG.to j (by show j<S3.nx;omega),hto j hj]
    ·unfold cmp
     rw[List.getElem?_eq_none (by rw[← n1];exact hi)]
  ·cases h
 ·cases h
def alv(ek:Nat->List (Ek P G))(tt:TT P G)(C:CC G)(Jr:List ResultVar)(bk:AV G)(base:Nat)(dW:Sh)(nm:List (Option Nat))(mA:Sh)(ZC:List (Option Nat))(fo:HL G (br dW)->Option Z)(fp:HL G (br mA)->Option Z):Ex G->AS G->Option Z:=λe S=>match sL ek e S.D S.O with
 |some (.zP v,O2)=>Pj mA ZC base .nil v ⟨S.F,O2,S.nx,[]⟩ fp
 |some (.o5,O2)=>(match Jq tt C ⟨S.F,O2,S.nx,[]⟩ Jr with
  |some v=>Pj dW nm base bk v ⟨S.F,O2,S.nx,[]⟩ fo
  |none=>none)
 |some (.ret,O2)=>(match Jq tt C ⟨S.F,O2,S.nx,[]⟩ Jr with
  |some v=>Pj dW nm base bk v ⟨S.F,O2,S.nx,[]⟩ fo
  |none=>none)
 |_ =>none
noncomputable def Wf(tb:Ba P G)(n:Nat)(s:Fs)(fo:HL G (br s.dW)->Option Z)(fp:HL G (br s.mA)->Option Z)(i:HI G s):Option Z:=match Ll P s.k with
 |some fi=>match s.bl i with
  |(aoT,O,m)=>match acY aoT s.bi with
   |some bk=>bif uN aoT&&Nat.ble (HA aoT) fi.N then W tb n fi.N [] [⟨[],s.ro i++[],[]⟩] (.code fi.code) ⟨Cb 0 aoT,O,m,[]⟩ (alv tb.ek tb.tt [⟨[],s.ro i++[],[]⟩] fi.Jr bk m s.dW s.nm s.mA s.ZC fo fp)else none
   |none=>none
 |none=>none
theorem Rl.alU{c:Cx}{N:Nat}{ρ:bT}{J:World->Prop}{HK X:List aO}{O:Os G}{S:AS G}{a:Act}{w:World}(h:Rl c N ρ J HK X [⟨[],O,[]⟩] S a w)(hro:c.ro=none):Rl c N ρ J HK X [] S a w:=
 ⟨h.tm,h.df,⟨h.si.s,λ_ =>hro⟩,h.fs,λy hy=>(by cases hy),λr o e=>(by cases e),h.hp,h.kn,h.fr⟩
theorem abM{tb:Ba P G}{n:Nat}{s:Fs}{fo:HL G (br s.dW)->Option Z}{fp:HL G (br s.mA)->Option Z}{x:HI G s}{z:Z}(h:Wf tb n s fo fp x=some z)
  {ρ:bT}{J:World->Prop}{HS HK X:List aO}{w:World}{vs:List Value}(hv:rl J ρ (s.bl x).1 vs)(hO:RO J ρ (s.bl x).2.1 HS)(hrd:∀r o,ga (s.ro x) r=some o->∃y∈HK,ro J ρ r o y)
  (hp:cC (cm (HS++(HK++X))) w.heap.size (HS++(HK++X)) w)(hk:XW G X J)(hf:ρ.fr (s.bl x).2.2):
  (∃y,fo y=some z/\Calls P s.k vs.toArray w λen w'=>∃u,en= .returned u/\E2 s.dW s.nm y ρ J (HS++(HK++X)) HK X w u w')\/
  (∃y,fp y=some z/\Calls P s.k vs.toArray w λen w'=>∃u,en= .panicked [{v:=u,recovered:=false}]/\E2 s.mA s.ZC y ρ J (HS++(HK++X)) HK X w u w'):=by
 unfold Wf at h;split at h
 ·rename_i fi P3
  revert h hv hO hf;generalize s.bl x=b;obtain⟨aoT,O,m⟩:=b;intro hv hO hf h;dsimp only at h hv hO hf;split at h
  ·rename_i bk hbk
   cases hc:(uN aoT&&Nat.ble (HA aoT) fi.N)with
   |false=>rw[hc]at h;cases h
   |true=>
    rw[hc]at h;simp only[aoX]at hc;obtain⟨e1,S1,k1,k2,k3⟩:=al2 _ _ _ _ _ _ _ _ h;have k2:m<=S1.nx:=k2;obtain⟨us,hus⟩:=acX hv hbk;have hr:Rl ⟨none,w,cm (HS++(HK++X))⟩ 0 ρ J HK X [⟨[],s.ro x,[]⟩] (⟨[],O,m,[]⟩:AS G) ⟨#[],[]⟩ w:=by
     refine⟨rfl, .nil,⟨bG.refl _ _,λ_ =>rfl⟩,λd x e=>(by cases e),λy hy=>?_,λr o e=>hrd r o ?_,⟨HS,hO,hp⟩,hk,hf⟩
     ·simp at hy;subst hy;exactλd v e=>by cases e
     ·have e:ga (s.ro x++[]) r=some o:=e
      rwa[List.append_nil]at e
    have go:=λe2 O2 hX he=>LJ (tt:=tb.tt) (ek:=tb.ek) (e2:=e2) (O2:=O2) hr P3 hc.1 (Nat.le_of_ble_eq_true hc.2) hv k3 hX rfl he;have ret:∀v e2 O2,sL tb.ek e1 S1.D S1.O=some (e2,O2)->(e2= .o5\/e2= .ret)->Jq tb.tt [⟨[],s.ro x++[],[]⟩] ⟨S1.F,O2,S1.nx,[]⟩ fi.Jr=some v->Pj s.dW s.nm m bk v ⟨S1.F,O2,S1.nx,[]⟩ fo=some z->(∃y,fo y=some z/\Calls P s.k vs.toArray w λen w'=>∃u,en= .returned u/\E2 s.dW s.nm y ρ J (HS++(HK++X)) HK X w u w'):=by
     intro v e2 O2 hX he hres ale;obtain⟨y,y1,y2⟩:=aa4 ale;refine⟨y,y2,?_⟩;have zc:=go e2 O2 hX (.inr ⟨he,v,hres⟩);intro cs';obtain⟨en,w',fr,⟨ρ',J',Y,j1,j2,j3,j4⟩,rest⟩:=zc cs';refine⟨en,w',fr,?_,rest⟩;rcases j4 with⟨v',u,q1,_⟩|⟨_,v',u,q1,rfl,q3⟩
     ·rcases he with he|he<;>rw[he]at q1<;>cases q1
     ·have q1:Jq tb.tt [⟨[],s.ro x++[],[]⟩] ⟨S1.F,O2,S1.nx,[]⟩ fi.Jr=some v':=q1
      rw[hres]at q1;cases q1;exact⟨u,rfl,Vv (S1:=⟨S1.F,O2,S1.nx,[]⟩) y1 hus j1 hf k2 j2 q3 (j3.alU rfl)⟩
    unfold alv at k1;split at k1
    ·rename_i v O2 hX
     obtain⟨y,y1,y2⟩:=aa4 k1;refine .inr ⟨y,y2,?_⟩;have zc:=go _ O2 hX (.inl ⟨v,rfl⟩);intro cs';obtain⟨en,w',fr,⟨ρ',J',Y,j1,j2,j3,j4⟩,rest⟩:=zc cs';refine⟨en,w',fr,?_,rest⟩;rcases j4 with⟨v',u,q1,rfl,q3⟩|⟨q1,_⟩
     ·cases q1
      exact⟨u,rfl,Vv (S1:=⟨S1.F,O2,S1.nx,[]⟩) (us:=[]) y1 rfl j1 hf k2 j2 q3 (j3.alU rfl)⟩
     ·rcases q1 with q1|q1<;>cases q1
    ·rename_i O2 hX
     split at k1
     ·rename_i v hres;exact .inl (ret v _ O2 hX (.inl rfl) hres k1)
     ·cases k1
    ·rename_i O2 hX
     split at k1
     ·rename_i v hres;exact .inl (ret v _ O2 hX (.inr rfl) hres k1)
     ·cases k1
    ·cases k1
  ·cases h
 ·cases h
def RV(s:Fs)(f:HI G s->Option Z)(mu:Z->HL G (br s.dW))(x:HI G s)(y:HL G (br s.dW)):Prop:=∃z,f x=some z/\mu z=y
theorem Rd{tb:Ba P G}{n:Nat}{s:Fs}{f:HI G s->Option Z}{um:HL G (br s.dW)->Z}{mu:Z->HL G (br s.dW)}(e1:∀y,mu (um y)=y)(hW:∀x,Wf tb n s (λy=>some (um y)) (λ_ =>none) x=f x):Uk P s (RV s f mu) (λ_ _ =>False):=by
 intro ρ J HS HK X w vs x hv hO hrd hp hk hfr;refine⟨λy h=>?_,λy h=>h.elim⟩;obtain⟨z,h,hz⟩:=h;rw[← hW]at h;rcases abM h hv hO hrd hp hk hfr with⟨y',h1,h2⟩|⟨y',h1,_⟩
 ·have h1:=Option.some.inj h1
  have:y'=y:=by rw[← hz, ← h1,e1]
  subst this;exact h2
 ·cases h1
def Xr(s:Fs)(f:HI G s->Option Z)(mu:Z->HL G (br s.dW))(zz:Z)(hf:(Ll P s.k).isSome=true)(ok:Uk P s (RV s f mu) (λ_ _ =>False)):Ct P G where
 s:=s
 R:=RV s f mu
 Rp:=λ_ _ =>False
 cp:=λx ko _ =>bd (f x) λz=>ko (mu z)
 cg:=λg x ko=>cl g (f x) zz λz=>ko (mu z)
 cps:=λx ko kp z h=>by obtain⟨y,h1,h2⟩:=vx h;exact .inl ⟨mu y,⟨y,h1,rfl⟩,h2⟩
 cgs:=λg x k z h=>by obtain⟨y,h1,_,h2⟩:=aer h;exact⟨mu y,λq=>⟨y,h1 q,rfl⟩,h2⟩
 fn:=by
  cases h:Ll P s.k with
  |none=>rw[h]at hf;cases hf
  |some fi=>exact HJ h
 ok:=ok
def RE(s:Fs)(f:HI G s->Option (Except Int Z))(mu:Z->HL G (br s.dW))(x:HI G s)(y:HL G (br s.dW)):Prop:=∃z,f x=some (.ok z)/\mu z=y
def RX(s:Fs)(f:HI G s->Option (Except Int Z))(me:Int->HL G (br s.mA))(x:HI G s)(y:HL G (br s.mA)):Prop:=∃e,f x=some (.error e)/\me e=y
theorem aaX{tb:Ba P G}{n:Nat}{s:Fs}{f:HI G s->Option (Except Int Z)}{um:HL G (br s.dW)->Z}{mu:Z->HL G (br s.dW)}{ue:HL G (br s.mA)->Int}{me:Int->HL G (br s.mA)}(e1:∀y,mu (um y)=y)(e2:∀y,me (ue y)=y)(hW:∀x,Wf tb n s (λy=>some (.ok (um y))) (λy=>some (.error (ue y))) x=f x):Uk P s (RE s f mu) (RX s f me):=by
 intro ρ J HS HK X w vs x hv hO hrd hp hk hfr;refine⟨λy h=>?_,λy h=>?_⟩
 ·obtain⟨z,h,hz⟩:=h
  rw[← hW]at h;rcases abM h hv hO hrd hp hk hfr with⟨y',h1,h2⟩|⟨y',h1,_⟩
  ·have h1:=Except.ok.inj (Option.some.inj h1)
   have:y'=y:=by rw[← hz, ← h1,e1]
   subst this;exact h2
  ·cases Option.some.inj h1
 ·obtain⟨z,h,hz⟩:=h
  rw[← hW]at h;rcases abM h hv hO hrd hp hk hfr with⟨y',h1,h2⟩|⟨y',h1,h2⟩
  ·cases Option.some.inj h1
  ·have h1:=Except.error.inj (Option.some.inj h1)
   have:y'=y:=by rw[← hz, ← h1,e2]
   subst this;exact h2
def abn(s:Fs)(f:HI G s->Option (Except Int Z))(mu:Z->HL G (br s.dW))(me:Int->HL G (br s.mA))(hf:(Ll P s.k).isSome=true)(ok:Uk P s (RE s f mu) (RX s f me)):Ct P G where
 s:=s
 R:=RE s f mu
 Rp:=RX s f me
 cp:=λx ko kp=>bd (f x) λr=>match r with
  | .ok z=>ko (mu z)
  | .error e=>kp (me e)
 cg:=λ_ _ _ =>none
 cps:=λx ko kp z h=>by
  obtain⟨r,h1,h2⟩:=vx h;cases r with
  |ok y=>exact .inl ⟨mu y,⟨y,h1,rfl⟩,h2⟩
  |error e=>exact .inr ⟨me e,⟨e,h1,rfl⟩,h2⟩
 cgs:=λg x k z h=>by cases h
 fn:=by
  cases h:Ll P s.k with
  |none=>rw[h]at hf;cases hf
  |some fi=>exact HJ h
 ok:=ok
def ctX(s:Fs)(f:HI G s->Option (Except Int Z))(mu:Z->HL G (br s.dW))(me:Int->HL G (br s.mA))(hf:(Ll P s.k).isSome=true)(ok:Uk P s (RE s f mu) (RX s f me))(cp:{Y:Type}->HI G s->(HL G (br s.dW)->Option Y)->(HL G (br s.mA)->Option Y)->Option Y)
  (hc:∀{Y:Type} (x:HI G s) (ko:HL G (br s.dW)->Option Y) (kp:HL G (br s.mA)->Option Y),cp x ko kp=(abn s f mu me hf ok).cp x ko kp):Ct P G where
 s:=s
 R:=RE s f mu
 Rp:=RX s f me
 cp:=cp
 cg:=λ_ _ _ =>none
 cps:=λx ko kp z h=>(abn s f mu me hf ok).cps x ko kp z (by rw[← hc];exact h)
 cgs:=λg x k z h=>by cases h
 fn:=(abn s f mu me hf ok).fn
 ok:=ok
abbrev Sh.i:Sh:= .v (.int .i64)
abbrev Sh.b:Sh:= .v .bool
abbrev Sh.s(n:Nat):Sh:= .v (.st n)
abbrev Sh.w:Sh:= .v (.int .u32)
def lS:List Sh->Sh
 |[]=> .nil
 |a::r=> .cons a (lS r)
abbrev Sh.t(l:List Sh):Sh:= .rZ (lS l)
abbrev gN(k:Nat)(i o:List Sh):Fs:=⟨k,[],lS i,lS o,[], .nil,[],[]⟩
abbrev fsT(k:Nat)(i o:List Sh)(T:Nat):Fs:=⟨k,[],lS i,lS o,[], .cons (.nY T (.v (.int .i64))) .nil,[],[]⟩
section
variable {A B C D:Type}
def u1(y:A×Unit):A:=y.1
def u2(y:A×B×Unit):A×B:=(y.1,y.2.1)
def u3(y:A×B×C×Unit):A×B×C:=(y.1,y.2.1,y.2.2.1)
def m1(z:A):A×Unit:=(z,())
def m2(z:A×B):A×B×Unit:=(z.1,z.2,())
def m3(z:A×B×C):A×B×C×Unit:=(z.1,z.2.1,z.2.2,())
def a1(f:A->Z)(x:A×Unit):Z:=f x.1
def a2(f:A->B->Z)(x:A×B×Unit):Z:=f x.1 x.2.1
def a3(f:A->B->C->Z)(x:A×B×C×Unit):Z:=f x.1 x.2.1 x.2.2.1
def a4(f:A->B->C->D->Z)(x:A×B×C×D×Unit):Z:=f x.1 x.2.1 x.2.2.1 x.2.2.2.1
end
def cV[Inhabited Z](tb:Ba P G)(s:Fs)(f:HI G s->Option Z)(um:HL G (br s.dW)->Z)(mu:Z->HL G (br s.dW))(e1:∀y,mu (um y)=y:=by exactλ_ =>rfl)(hf:(Ll P s.k).isSome=true:=by kernel_rfl)(hW:∀x,Wf tb 3000 s (λy=>some (um y)) (λ_ =>none) x=f x:=by intro _;kernel_rfl):Ct P G:=
 Xr s f mu default hf (Rd e1 hW)
def cX(tb:Ba P G)(s:Fs)(f:HI G s->Option (Except Int Z))(um:HL G (br s.dW)->Z)(mu:Z->HL G (br s.dW))(ue:HL G (br s.mA)->Int)(me:Int->HL G (br s.mA))(e1:∀y,mu (um y)=y:=by exactλ_ =>rfl)(e2:∀y,me (ue y)=y:=by exactλ_ =>rfl)(hf:(Ll P s.k).isSome=true:=by kernel_rfl)
  (hW:∀x,Wf tb 3000 s (λy=>some (.ok (um y))) (λy=>some (.error (ue y))) x=f x:=by intro _;kernel_rfl):Ct P G:=abn s f mu me hf (aaX e1 e2 hW)
def cT(tb:Ba P G)(k:Nat)(i o:List Sh)(T:Nat)(f:HI G (fsT k i o T)->Option (Except Int Z))(um:HL G (br (fsT k i o T).dW)->Z)(mu:Z->HL G (br (fsT k i o T).dW))(e1:∀y,mu (um y)=y:=by exactλ_ =>rfl)(hf:(Ll P k).isSome=true:=by kernel_rfl)
  (hW:∀x,Wf tb 3000 (fsT k i o T) (λy=>some (.ok (um y))) (λy=>some (.error (u1 y))) x=f x:=by intro _;kernel_rfl):Ct P G:=abn (fsT k i o T) f mu m1 hf (aaX e1 (λ_ =>rfl) hW)
def Xv(k T:Nat):Fs:=⟨k,[], .cons (.v .bool) (.cons (.v (.int .i64)) .nil), .cons (.rZ .nil) .nil,[], .cons (.nY T (.v (.int .i64))) .nil,[],[]⟩
def aiq{k T:Nat}(x:HI G (Xv k T)):Bool:=x.1
def alY{k T:Nat}(x:HI G (Xv k T)):Int:=x.2.1
def aeB{k T:Nat}(x:HI G (Xv k T)):Option (Except Int Unit):=cn (!aiq x) (some (.error (alY x))) (some (.ok ()))
def alZ{k T:Nat}(y:HL G (br (Xv k T).mA)):Int:=y.1
def afl(tb:Ba P G)(k T:Nat)(hf:(Ll P k).isSome=true)(hW:∀x,Wf tb 300 (Xv k T) (λ_ =>some (.ok ())) (λy=>some (.error (alZ y))) x=aeB x):Ct P G:=
 ctX (Xv k T) aeB (λ_ =>()) (λe=>(e,())) hf (aaX (tb:=tb) (n:=300) (um:=λ_ =>()) (ue:=alZ) (λ_ =>rfl) (λ_ =>rfl) hW)
  (λx ko kp=>bif aiq x then ko ()else kp (alY x,())) (λx ko kp=>by
   show _ =bd (aeB x) _;unfold aeB;cases aiq x<;>rfl)
theorem aaZ{s:Fs}{f:HI G s->Option Z}{mu:Z->HL G (br s.dW)}(h:∀x,f x=none):Uk P s (RV s f mu) (λ_ _ =>False):=by intro ρ J HS HK X w vs x _ _ _ _ _ _;refine⟨λy hy=>?_,λy h=>h.elim⟩;obtain⟨z,h1,_⟩:=hy;rw[h]at h1;cases h1
def lkH{α:Type}:List (Nat×α)->Nat->Option α
 |[],_ =>none
 |(k,v)::r,d=>bif Nat.beq k d then some v else lkH r d
def agZ:List (Ct P G)->Nat->List (Ct P G)
 |[],_ =>[]
 |c::r,k=>bif Nat.beq c.s.k k then c::agZ r k else agZ r k
def Om:List Ty->List Ty->Bool
 |[],[]=>true
 |a::r,b::q=>a.cQ b&&Om r q
 |_,_ =>false
theorem YY:∀{l m:List Ty},Om l m=true->l=m:=by
 intro l
 induction l with
 |nil=>intro m h;cases m with
  |nil=>rfl
  |cons _ _ =>cases h
 |cons a r ih=>intro m h;cases m with
  |nil=>cases h
  |cons b q=>simp only[Om,aoX]at h;rw[Ty.yB h.1,ih h.2]
structure VwA(G:Sg) where
 L:List Ty
 v:Vw G L
def lkV:List (Nat×VwA G)->Nat->(L:List Ty)->Option (Vw G L)
 |[],_,_ =>none
 |(k,a)::r,i,L=>bif Nat.beq k i then(if h:Om a.L L=true then some (YY h▸a.v)else none)else lkV r i L
def agX:List (It P G)->Nat->List (It P G)
 |[],_ =>[]
 |c::r,k=>bif Nat.beq c.k k then c::agX r k else agX r k
def agY:List (Ek P G)->Nat->List (Ek P G)
 |[],_ =>[]
 |c::r,k=>bif Nat.beq c.k k then c::agY r k else agY r k
def ajN(tt:TT P G)(zt:ZT P G)(n:Nat)(h:List (Nat×Hn))(cs:List (Ct P G))(vs:List (Nat×VwA G))(its:List (It P G))(es:List (Ek P G)):Ba P G:=⟨tt,zt,λ_ i=>lkH h i,agZ cs,n,lkV vs,agX its,agY es,false⟩
def am2(t:Ba P G):Ba P G:={t with jw:=true}
end Go.Rw
namespace Go.Rw
open Go Go.Bw Go.RowKit
variable {G:Sg} {P:Program} {N:Nat} {C:CC G} {B:Type}
def ylY(y:B)(t f:Option (List B)):Option (List B):=match f with
 |some []=>yl y t
 |_ =>none
theorem ajE{y:B}{t f:Option (List B)}{r:List B}(h:ylY y t f=some r):f=some []/\∃r',t=some r'/\r=y::r':=by
 unfold ylY at h;split at h
 ·obtain⟨r',h1,h2⟩:=amM h
  exact⟨rfl,r',h2,h1⟩
 ·cases h
def yOp(C:CC G)(S:AS G)(o:Oper):Option (AV G):=match o.op with
 | .call ⟨.value _,args,_⟩=>TL (mK C S []) args.toList
 |_ =>none
def isY(yn:Nat)(C:CC G)(S:AS G)(ch:List (Nat×Bool))(o:Oper):Bool:=match o.op with
 | .call ⟨.value f,_,_⟩=>match mK C S ch f with
  |some (.mp k)=>Nat.beq k yn
  |_ =>false
 |_ =>false
def ant(yn:Nat)(C:CC G)(S:AS G)(all:Array Oper)(o:Oper):Bool:=match o.guard with
 |none=>isY yn C S [] o
 |some (j,w)=>match Lv all j with
  |some dj=>isY yn C S (chain C S 8 dj w) o
  |none=>false
abbrev WB(G:Sg)(B:Type):=WT G (List B)
def P6(ys:Sh)(de:HL G (br ys)->B)(zN:WB G B)(N:Nat)(cp:List Nat)(C:CC G)(all:Array Oper)(r:List Oper)(d:Option Tmp)(v:AV G)(S:AS G)(K:Ex G->AS G->Option (List B)):Option (List B):=match qK ys v ⟨[],[],S.nx⟩with
 |some (x,_)=>match yC N C d (.kb true) S,yC N C d (.kb false) S with
  |some S1,some S2=>ylY (de x) (zN N cp C (.ops all r) S1 K) (zN N cp C (.ops all r) S2 K)
  |_,_ =>none
 |none=>none
def YO(tb:Ba P G)(yn:Nat)(ys:Sh)(de:HL G (br ys)->B)(Wn zN:WB G B):WB G B:=λN cp C cf S K=>match cf with
 | .ops _ []=>K .o5 S
 | .ops all (o::r)=>match ant yn C S all o with
  |false=>Wn N cp C (.ops all [o]) S λe S1=>match e with
   | .o5=>zN N cp C (.ops all r) S1 K
   |_ =>none
  |true=>match o.guard with
   |none=>bif isY yn C S [] o then(match yOp C S o with
    |some v=>P6 ys de zN N cp C all r o.dst v S K
    |none=>none)else none
   |some (j,w)=>match Lv all j with
    |some dj=>(match gkn C S 8 dj w with
     |some true=>bif isY yn C S [] o then(match yOp C S o with
      |some v=>P6 ys de zN N cp C all r o.dst v S K
      |none=>none)else none
     |some false=>Wn N cp C (.ops all [o]) S λe S1=>match e with
      | .o5=>zN N cp C (.ops all r) S1 K
      |_ =>none
     |none=>(match Nw C S 8 dj with
      |some (k,b)=>bif w then cn b (zN N cp C (.ops all (o::r)) {S with F:=(k, .kb true)::S.F} K) (zN N cp C (.ops all (o::r)) {S with F:=(k, .kb false)::S.F} K)else cn (b==false) (zN N cp C (.ops all (o::r)) {S with F:=(k, .kb false)::S.F} K) (zN N cp C (.ops all (o::r)) {S with F:=(k, .kb true)::S.F} K)
      |none=>none))
    |none=>none
 | .code c=>match c with
  | .skip=>K .o5 S
  | .label _ =>K .o5 S
  | .ret=>K .ret S
  | .exit i=>K (.exit i) S
  | .region _ ops false=>zN N cp C (.ops ops ops.toList) S K
  | .region i ops true=>Wn N cp C (.code (.region i ops true)) S λe S1=>match e with
   | .o5=>K .o5 S1
   |_ =>none
  | .block i x=>zN N cp C (.code x) S λe S'=>match e with
   | .exit j=>bif Nat.beq i j then K .o5 S' else K (.exit j) S'
   |e=>K e S'
  | .cond x a b=>match mK C S [] x with
   |some (.bool t)=>cn t (zN N cp C (.code a) S K) (zN N cp C (.code b) S K)
   |some (.kb t)=>zN N cp C (.code (bif t then a else b)) S K
   |_ =>none
  | .seq x y=>zN N cp C (.code x) S λe S'=>match e with
   | .o5=>zN N cp C (.code y) S' K
   |e=>K e S'
  | .loop x=>(match(match Ww x with
    |some i=>tb.hint cp (i+i+1)
    |none=>none)with
   |some (.loop gl)=>(match rsv C S gl with
    |none=>none
    |some g=>match pF C S g.l with
    |S=>match G7 C S g.l with
    |some v=>match qK (v8 g.l) v ⟨[],S.O,S.nx⟩with
     |some (x0,g')=>bif zS g.nm g'.th&&zT S.nx g.nm then
       (match(⟨nv (λd=> !(fe (M1 x) d||B7 g.l d)) S.F,g'.O,S.D⟩:Ly G)with
       |ly=>bif Bj S.nx (ly::C)then lpV (tb.vw (match Ww x with
        |some i=>i
        |none=>0) (br (v8 g.l))) (λgo e=>zN N cp (ly::C) (.code x) (ME g S.nx e) λe1 S1=>match e1 with
         | .o5=>match Lf (ly::C) (pF (ly::C) S1 g.l) g S.nx with
          |some e=>go e
          |none=>none
         |e1=>K e1 (PX ly S1)) tb.fu x0
        else none)
      else none
     |none=>none
    |none=>none)
   |_ =>none)
  |_ =>none
noncomputable def WY(tb:Ba P G)(yn:Nat)(ys:Sh)(de:HL G (br ys)->B):Nat->WB G B
 |0=>λ_ _ _ _ _ _ =>none
 |n+1=>YO tb yn ys de (W tb n) (WY tb yn ys de n)
theorem WZ{F:Fence}{n:Nat}{all:Array Oper}{o:Oper}{r:List Oper}{a:Act}{w:World}{Q Q1:Exit->Act->World->Prop}(h:wpListIn F n P all Q1 [o] a w)(hk:∀a' w',Q1 .normal a' w'->wpListIn F n P all Q r a' w')(hq:∀e a w,e≠ .normal->Q1 e a w->Q e a w):
  wpListIn F n P all Q (o::r) a w:=by
 refine wpListIn_step λK hK=>?_;unfold wpListIn at h;split
 ·rename_i hw
  rw[aoU hw]at h;exact Km hq (Oper.wpIn_mono (λa' w' q=>hK _ _ (hk a' w' q)) h)
 ·rename_i hw
  rw[aoV hw]at h;exact⟨h.1,hK _ _ (hk _ _ h.2)⟩
inductive J9(G:Sg):Sh->Type where
 |nil:J9 G .nil
 |int {k:IntKind} {s:Sh} (h:J9 G s):J9 G (.cons (.v (.int k)) s)
 |bool {s:Sh} (h:J9 G s):J9 G (.cons (.v .bool) s)
 |st {i:Nat} {s:Sh} (enc:G.S i->List Value) (ok:∀J cs x,(G.L i).eZ J cs x↔cs=enc x) (h:J9 G s):J9 G (.cons (.v (.st i)) s)
def J9.us:{s:Sh}->J9 G s->HL G (br s)->List Value
 |_, .nil,_ =>[]
 |_, .int (k:=k) h,x=> .int k x.1::h.us x.2
 |_, .bool h,x=> .bool x.1::h.us x.2
 |_, .st enc _ h,x=> .agg (enc x.1).toArray::h.us x.2
def J9.n:{s:Sh}->J9 G s->Nat
 |_, .nil=>0
 |_, .int h=>h.n+1
 |_, .bool h=>h.n+1
 |_, .st _ _ h=>h.n+1
theorem J9.len:∀{s:Sh} (q:J9 G s) (x:HL G (br s)),(q.us x).length=q.n
 |_, .nil,_ =>rfl
 |_, .int h,x=>by simp[J9.us,J9.n,h.len x.2]
 |_, .bool h,x=>by simp[J9.us,J9.n,h.len x.2]
 |_, .st _ _ h,x=>by simp[J9.us,J9.n,h.len x.2]
theorem J9.ok{J:World->Prop}{σ:bT}{f:Nat->Nat}:∀{s:Sh} (q:J9 G s) (x:HL G (br s)) (m:Nat) (us:List Value),rl J σ (iA f s x m).1 us↔us=q.us x
 |_, .nil,_,_,us=>Iff.rfl
 |_, .int (k:=k) h,x,m,us=>by
  show(∃u r,us=u::r/\[u]=[.int k x.1]/\rl J σ (iA f _ x.2 m).1 r)↔_;constructor
  ·rintro⟨u,r,rfl,h1,h2⟩
   cases h1;rw[(h.ok x.2 m r).1 h2];rfl
  ·intro e
   exact⟨_,_,e,rfl,(h.ok x.2 m _).2 rfl⟩
 |_, .bool h,x,m,us=>by
  show(∃u r,us=u::r/\[u]=[.bool x.1]/\rl J σ (iA f _ x.2 m).1 r)↔_;constructor
  ·rintro⟨u,r,rfl,h1,h2⟩
   cases h1;rw[(h.ok x.2 m r).1 h2];rfl
  ·intro e
   exact⟨_,_,e,rfl,(h.ok x.2 m _).2 rfl⟩
 |_, .st (i:=i) enc ok h,x,m,us=>by
  show(∃u r,us=u::r/\(∃u',[u]=[u']/\zJ J (.st i) x.1 u')/\rl J σ (iA f _ x.2 m).1 r)↔_;constructor
  ·rintro⟨u,r,rfl,⟨u',e,h1,h3,_⟩,h2⟩
   cases e;obtain⟨cs,rfl⟩:=h3 rfl;have:(Value.agg cs.toArray).cells.toList=cs:=by simp[Value.cells]
   rw[this]at h1;rw[(h.ok x.2 m r).1 h2,(ok J cs x.1).1 h1];rfl
  ·intro e
   refine⟨_,_,e,⟨_,rfl,?_,λ_ =>⟨_,rfl⟩,nofun⟩,(h.ok x.2 m _).2 rfl⟩;have:(Value.agg (enc x.1).toArray).cells.toList=enc x.1:=by simp[Value.cells]
   rw[this];exact(ok J _ x.1).2 rfl
structure YC(P:Program)(G:Sg)(ys:Sh)(B:Type) where
 de:HL G (br ys)->B
 en:B->HL G (br ys)
 uq:J9 G ys
 l:List B
 xP:Nat->List Value
 yn:Nat
 ly:Nat
 Jy:Nat->List Nat->World->Prop
 Jx:List Nat->World->Prop
 bs0:List Nat
 w1:World
 X0:List aO
 hR:Rnd P ly bs0 w1 Jy Jx xP l.length
 he:∀x,en (de x)=x
 enc:∀i x,l[i]? =some x->xP i=uq.us (en x)
def YC.md{ys:Sh}(q:YC P G ys B)(m:Bool×Nat)(bs:List Nat):aO:= .ext bs (bif m.1 then q.Jy m.2 bs else q.Jx bs)
def YC.mok{ys:Sh}(q:YC P G ys B)(m:Bool×Nat)(r:List B):Prop:=(m.1=true/\q.l.drop m.2=r/\m.2<=q.l.length)\/(m.1=false/\r=[])
structure YC.at {ys:Sh}(q:YC P G ys B)(c:Cx)(ρ:bT)(X:List aO)(n:Nat):Prop where
 lt:q.yn<n
 ro:c.ro=none
 own:∀b,(b∈c.bs\/c.w0.heap.size<=b)->b∉cm q.X0->(b∈q.bs0\/q.w1.heap.size<=b)
 si:∀w',bG c.bs c.w0 w'->Hs q.X0 w'->bG q.bs0 q.w1 w'
 sub:∀r∈q.X0,r∈X
 yv:ρ q.yn=some (.func (.yield q.ly) #[] #[])
theorem YC.at.fE{ys:Sh}{q:YC P G ys B}{c:Cx}{ρ ρ':bT}{X:List aO}{n n':Nat}(h:q.at c ρ X n)(m:ρ.to ρ' n)(Y:List aO)(hn:n<=n'):q.at c ρ' (Y++X) n':=⟨Nat.lt_of_lt_of_le h.lt hn,h.ro,h.own,h.si,λr hr=>ao0 _ (h.sub r hr),(m _ h.lt).trans h.yv⟩
def LR{ys:Sh}(q:YC P G ys B)(c:Cx)(N:Nat)(C:CC G)(ρ:bT)(J:World->Prop)(HK X:List aO)(n:Nat)(K:Ex G->AS G->Option (List B))(Q:Exit->Act->World->Prop):Prop:=∀(e:Ex G) (S':AS G) (r':List B),K e S'=some r'->∀(ρ':bT) (J':World->Prop) (Y:List aO) (a':Act) (w':World) (me:Exit) (m':Bool×Nat) (bs':List Nat),q.mok m' r'->ρ.to ρ' n->(∀w,J' w->J w)->exR J' ρ' e me->n<=S'.nx-> Rl c N ρ' J' (q.md m' bs'::HK) (Y++X) C S' a' w'->Q me a' w'
theorem LR.fE{ys:Sh}{q:YC P G ys B}{c:Cx}{ρ ρ1:bT}{J J1:World->Prop}{HK X Y:List aO}{n m:Nat}{K:Ex G->AS G->Option (List B)}{Q:Exit->Act->World->Prop}(h:LR q c N C ρ J HK X n K Q)(h1:ρ.to ρ1 n)(h2:∀w,J1 w->J w)(hn:n<=m):LR q c N C ρ1 J1 HK (Y++X) m K Q:=
 λe S' r' hK ρ' J' Y' a' w' me m' bs' k0 k1 k2 k3 k5 k4=>h e S' r' hK ρ' J' (Y'++Y) a' w' me m' bs' k0 (h1.trans k1 hn) (λw q=>h2 w (k2 w q)) k3 (Nat.le_trans hn k5) (by rw[List.append_assoc];exact k4)
def Cu(P:Program){ys:Sh}(q:YC P G ys B)(rec:WB G B):Prop:=∀(N:Nat) (cp:List Nat) (C:CC G) (cf:Cf) (S:AS G) (K:Ex G->AS G->Option (List B)) (r:List B),rec N cp C cf S K=some r-> ∀(c:Cx) (ρ:bT) (J:World->Prop) (HK X:List aO) (a:Act) (w:World) (Q:Exit->Act->World->Prop) (m:Bool×Nat) (bs:List Nat),q.at c ρ X S.nx->q.mok m r->Rl c N ρ J (q.md m bs::HK) X C S a w->LR q c N C ρ J HK X S.nx K Q->Rn P c cf Q a w
theorem LR.here{ys:Sh}{q:YC P G ys B}{c:Cx}{ρ:bT}{J:World->Prop}{HK X:List aO}{S:AS G}{e:Ex G}{K:Ex G->AS G->Option (List B)}{Q:Exit->Act->World->Prop}{a:Act}{w:World}{me:Exit}{r:List B}{m:Bool×Nat}{bs:List Nat}(h:LR q c N C ρ J HK X S.nx K Q)(hK:K e S=some r)(hm:q.mok m r)
  (hr:Rl c N ρ J (q.md m bs::HK) X C S a w)(he:exR J ρ e me):Q me a w:=
 h e S r hK ρ J [] a w me m bs hm (bT.gL _ _) (λ_ h=>h) he (Nat.le_refl _) hr
theorem Rl.hk{c:Cx}{ρ:bT}{J:World->Prop}{HK HK' X:List aO}{S:AS G}{a:Act}{w:World}(h:Rl c N ρ J HK X C S a w)(p:HK.Perm HK'):Rl c N ρ J HK' X C S a w:=by obtain⟨HS,q1,q3⟩:=h.hp;refine⟨h.tm,h.df,h.si,h.fs,h.fc,λr o e=>?_,⟨HS,q1,q3.qf (List.Perm.append_left _ (p.append_right _))⟩,h.kn,h.fr⟩;obtain⟨y,y1,y2⟩:=h.kc r o e;exact⟨y,p.mem_iff.1 y1,y2⟩
section
variable {ys:Sh} {q:YC P G ys B} {tb:Ba P G} {rec:WB G B} {c:Cx} {ρ:bT} {J:World->Prop} {HK X:List aO} {S:AS G} {a:Act} {w:World} {Q:Exit->Act->World->Prop} {m:Bool×Nat} {bs:List Nat} {K:Ex G->AS G->Option (List B)} {r:List B}
theorem XZ{Wn:WB G B}(hW:tu P Wn){cp:List Nat}{cf:Cf}{K1:AS G->Option (List B)}(h:Wn N cp C cf S (λe S1=>match e with
   | .o5=>K1 S1
   |_ =>none)=some r):∃S1,K1 S1=some r/\S.nx<=S1.nx/\US P N C cf S S1 .o5:=by
 obtain⟨e,S1,k1,k2,k3⟩:=hW _ _ _ _ _ _ _ h;cases e with
 |o5=>exact⟨S1,k1,k2,k3⟩
 |_ =>cases k1
theorem amN(dy:Cu P q rec){cp:List Nat}{all:Array Oper}{o:Oper}{rs:List Oper}{S1:AS G}(h:rec N cp C (.ops all rs) S1 K=some r)(hn:S.nx<=S1.nx)(hu:US P N C (.ops all [o]) S S1 .o5)(ha:q.at c ρ X S.nx)(hm:q.mok m r)(hr:Rl c N ρ J (q.md m bs::HK) X C S a w)(hq:LR q c N C ρ J HK X S.nx K Q):
  Rn P c (.ops all (o::rs)) Q a w:=by
 refine WZ (hu c ρ J (q.md m bs::HK) X a w (λe a w=>e= .normal/\wpListIn (FA c.ro) 0 P all Q rs a w) hr λρ' J' Y a' w' me k1 k2 k3 k4=>⟨oW k3,?_⟩) (λa w h=>h.2) (λe a w he h=>absurd h.1 he);exact dy _ _ _ _ _ _ _ h c ρ' J' HK (Y++X) a' w' Q m bs (ha.fE k1 Y hn) hm k4 (hq.fE k1 k2 hn)
theorem aj4{J:World->Prop}{ρ:bT}{s:Sh}{v:AV G}{g':GS G}{n:Nat}{x:HL G (br s)}{l:List Value}(h:qK s v ⟨[],[],n⟩=some (x,g'))(hf:ρ.fr n)(hv:rl J ρ v l):∃τ,rl J τ (iA (λm=>m) s x 0).1 l:=by obtain⟨ρ2,HB,H',k⟩:=Li h hv .nil hf;exact⟨_,k.val⟩
theorem acy(dy:Cu P q rec){cp:List Nat}{all:Array Oper}{rs:List Oper}{f:Operand}{args:Array Operand}{ats:Array TypeId}{d:Option Tmp}{ty:TypeId}{ps:String}{af:Array Edge}{g:Option (Nat×Bool)}{v:AV G}
  (hw:R8 N all C S ⟨d, .call ⟨.value f,args,ats⟩,ty,ps,af,g⟩)(hf:mK C S [] f=some (.mp q.yn))(hv:TL (mK C S []) args.toList=some v)(h:P6 ys q.de rec N cp C all rs d v S K=some r)
  (ha:q.at c ρ X S.nx)(hm:q.mok m r)(hr:Rl c N ρ J (q.md m bs::HK) X C S a w)(hq:LR q c N C ρ J HK X S.nx K Q):Rn P c (.ops all (⟨d, .call ⟨.value f,args,ats⟩,ty,ps,af,g⟩::rs)) Q a w:=by
 unfold P6 at h;split at h
 ·rename_i x g' hg
  split at h
  ·rename_i S1 S2 h1 h2
   obtain⟨hf0,r',ht,rfl⟩:=ajE h;have hE:=gk hr (ch:=[]) (by simp);obtain⟨u,u1,u2,_⟩:=hE.ok _ _ hf;have e1:a.eval f= .func (.yield q.ly) #[] #[]:=by rw[ha.yv]at u1;cases u1;exact(List.cons.inj u2).1
   obtain⟨r2,_⟩:=Af hE hv;obtain⟨τ,hτ⟩:=aj4 hg hr.fr r2;rcases hm with⟨m1,m2,m3⟩|⟨_,m2⟩
   ·obtain⟨mb,k⟩:=m
    dsimp only at m1 m2 m3;subst m1;have hk:q.l[k]? =some (q.de x):=by
     have:(q.l.drop k)[0]? =some (q.de x):=by rw[m2];rfl
     simpa using this
    have hlt:k<q.l.length:=(List.getElem?_eq_some_iff.1 hk).1;have anV:args.toList.map a.eval=q.xP k:=by rw[q.enc k _ hk,q.he, ← (q.uq.ok x 0 _).1 hτ]
    obtain⟨HS,q1,q3⟩:=hr.hp;have pm:∀x:aO,(HS++((x::HK)++X)).Perm (x::(HS++(HK++X))):=λx=>List.perm_middle;have q4:=q3.qf (pm _);have hXh:Hs q.X0 w:=IX q3 λr hr'=>ao0 _ (ao0 _ (ha.sub r hr'));have qJ:∀b∈bs,(b∈q.bs0\/q.w1.heap.size<=b)/\b<w.heap.size:=λb hb=>by obtain⟨o1,o2⟩:=q4.own _ List.mem_cons_self b hb;refine⟨ha.own b o1 λhx=>?_,o2⟩;obtain⟨s,s1,s2⟩:=bN.1 hx;exact(List.pairwise_cons.1 q4.apart).1 s (by simp[ha.sub s s1]) b hb s2
    obtain⟨fn,tmps,assign,body,hy,hF,hrun⟩:=q.hR k hlt w bs (ha.si w hr.si.s hXh) qJ (q4.holds _ List.mem_cons_self);refine wpListIn_step λK1 hK=>?_;rw[aoU (hw c ρ J _ X a w hr)];refine⟨λ_ _ =>trivial,?_⟩;have hs:Oper.semAt (FA c.ro).round a.eval (⟨d, .call ⟨.value f,args,ats⟩,ty,ps,af,g⟩:Oper)=execOp a.eval ⟨d, .call ⟨.value f,args,ats⟩,ty,ps,af,g⟩:=Oper.semAt_eq _ _ _ (by simp);have hrn:(execOp a.eval ⟨d, .call ⟨.value f,args,ats⟩,ty,ps,af,g⟩).run P w= .ok (.round q.ly fn tmps assign body) w:=by
     have e4: #[]++(args.map a.eval)=(q.xP k).toArray:=by rw[← anV];exact Array.ext' (by simp)
     simp only[execOp,resolve,e1,Deferred.ofValue,Sem.run_bind,Sem.run_pure,Result.andThen_ok,invoke,e4];exact hy
    rw[hs,hrn];refine⟨λh=>by simp at h,⟨trivial,λcf cs hroom=>?_⟩⟩;have hfa:FA c.ro=FA none:=by rw[ha.ro]
    rw[hfa];obtain⟨e,W',hpost,ahC⟩:=hrun cf cs (by rw[← hfa];exact hroom);refine⟨e,W',?_,ahC⟩;obtain⟨bs',hb',hsi,IZ⟩:=hpost;have fin:∀(b:Bool) (S3:AS G) (r2:List B),yC N C d (.kb b) S=some S3->rec N cp C (.ops all rs) S3 K=some r2->q.mok (b,k+1) r2->(aO.ext bs' (bif b then q.Jy (k+1) bs' else q.Jx bs')).holds W'->K1 (a.put d (.bool b)) W':=λb S3 r2 hp hw2 hmk hh=>by
     have q5:=q4.set (k:=0) (r':= .ext bs' (bif b then q.Jy (k+1) bs' else q.Jx bs')) rfl hsi.size (λj hj hn=>hsi.block j hj hn) hh hr.si.s.size (λb hb=>hb' b hb);have hr':Rl c N ρ J (q.md (b,k+1) bs'::HK) X C S a W':=by
      refine⟨hr.tm,hr.df,⟨hr.si.s.trans hsi λb hb=>(q4.own _ List.mem_cons_self b hb).1,hr.si.n⟩,hr.fs,hr.fc,λr o e=>?_,⟨HS,q1,q5.qf (pm _).symm⟩,hr.kn,hr.fr⟩;obtain⟨y,y1,y2⟩:=hr.kc r o e;rcases List.mem_cons.1 y1 with rfl|y1
      ·cases o with
       |eL T c=>obtain⟨_,_,_,e,_⟩:=y2;cases e
       |row _ _ _ _ =>obtain⟨_,_,_,e,_⟩:=y2;cases e
       |aux b=>obtain⟨_,_,_,e,_⟩:=y2;cases e
       |gm=>obtain⟨_,e⟩:=y2;cases e
      ·exact⟨y,ao6 _ y1,y2⟩
     refine hK _ _ ?_;refine dy _ _ _ _ _ _ _ hw2 c ρ J HK X _ W' Q (b,k+1) bs' (by rw[qS hp];exact ha) hmk (hr'.put hp rfl) ?_;rw[qS hp];exact hq
    rcases IZ with⟨rfl,hh⟩|⟨rfl,hh⟩
    ·refine fin true S1 r' h1 ht (.inl ⟨rfl,?_,hlt⟩) hh
     show q.l.drop (k+1)=r';rw[← List.drop_drop,m2];rfl
    ·exact fin false S2 [] h2 hf0 (.inr ⟨rfl,rfl⟩) hh
   ·cases m2
  ·cases h
 ·cases h
theorem akK{yn:Nat}{o:Oper}(h:isY yn C S [] o=true):∃d f args ats ty ps af g,o=⟨d, .call ⟨.value f,args,ats⟩,ty,ps,af,g⟩/\mK C S [] f=some (.mp yn):=by
 obtain⟨d,op,ty,ps,af,g⟩:=o;unfold isY at h;dsimp only at h;split at h
 ·split at h
  ·rename_i hf
   obtain rfl:=aoW h;exact⟨d,_,_,_,ty,ps,af,g,rfl,hf⟩
  ·cases h
 ·cases h
theorem X3(dy:Cu P q rec){cp:List Nat}{all:Array Oper}{rs:List Oper}{o:Oper}(hw:R8 N all C S o)(h:(bif isY q.yn C S [] o then(match yOp C S o with
   |some v=>P6 ys q.de rec N cp C all rs o.dst v S K
   |none=>none)else none)=some r)(ha:q.at c ρ X S.nx)(hm:q.mok m r)(hr:Rl c N ρ J (q.md m bs::HK) X C S a w)(hq:LR q c N C ρ J HK X S.nx K Q):Rn P c (.ops all (o::rs)) Q a w:=by
 cases hY:isY q.yn C S [] o with
 |false=>rw[hY]at h;cases h
 |true=>
 rw[hY]at h;simp only[cond_true]at h;obtain⟨d,f,args,ats,ty,ps,af,g,rfl,hf⟩:=akK hY;split at h
 ·rename_i v hv
  exact acy dy hw hf hv h ha hm hr hq
 ·cases h
theorem afP(dy:Cu P q rec){cp:List Nat}{x:Code}{g:gA}{base:Nat}{ly:Ly G}(hl:Bj base (ly::C)=true){vw:Option (Vw G (br (v8 g.l)))}:∀(n:Nat) (e:HL G (br (v8 g.l))) (r:List B),lpV vw (λgo e=>rec N cp (ly::C) (.code x) (ME g base e) λe1 S1=>match e1 with
   | .o5=>match Lf (ly::C) (pF (ly::C) S1 g.l) g base with
    |some e=>go e
    |none=>none
   |e1=>K e1 (PX ly S1)) n e=some r->
  ∀(ρ:bT) (J:World->Prop) (HK X:List aO) (a:Act) (w:World) (m:Bool×Nat) (bs:List Nat),q.at c ρ X base->q.mok m r->Rl c N ρ J (q.md m bs::HK) X (ly::C) (ME g base e) a w->
   LR q c N (ly::C) ρ J HK X base (λe1 S1=>match e1 with
    | .o5=>none
    |e1=>K e1 (PX ly S1)) Q->LPr P c x Q a w:=by
 intro n
 induction n with
 |zero=>intro e r h;obtain⟨m,h1,_⟩:=U1 h;cases h1
 |succ n ih=>
  intro e r h ρ J HK X a w m bs ha hm hr hq;obtain⟨m',h1,h2⟩:=U1 h;cases h1;refine OQ (dy _ _ _ _ _ _ _ h2 c ρ J HK X a w _ m bs ⟨Nat.lt_of_lt_of_le ha.lt (Nat.le_add_right _ _),ha.ro,ha.own,ha.si,ha.sub,ha.yv⟩ hm hr ?_);intro e1 S1 r' hK ρ' J' Y a' w' me m1 NL k0 k1 k2 k3 k5 k4;have R1:ρ.to ρ' base:=λr hr'=>k1 r (by show r<base+_;omega);cases e1 with
  |o5=>
   rw[oW k3];dsimp only at hK;split at hK
   ·rename_i e' hg
    obtain⟨J2,Y2,j1,z4⟩:=k4.pF g.l;obtain⟨ρ2,t2,z5⟩:=adE z4 hg hl;rw[← List.append_assoc]at z5;have hto:ρ.to ρ2 base:=λr hr'=>(t2 r hr').trans (R1 r hr');exact ih e' r' hK ρ2 J2 HK ((Y2++Y)++X) a' w' m1 NL (ha.fE hto _ (Nat.le_refl _)) k0 z5 (hq.fE hto (λw h=>k2 w (j1 w h)) (Nat.le_refl _))
   ·cases hK
  |exit i=>refine rz (sJ (by simp) k3) ?_;exact hq (.exit i) S1 r' hK ρ' J' Y a' w' me m1 NL k0 R1 k2 k3 (Nat.le_trans (Nat.le_add_right _ _) k5) k4
  |ret=>refine rz (sJ (by simp) k3) ?_;exact hq (.ret) S1 r' hK ρ' J' Y a' w' me m1 NL k0 R1 k2 k3 (Nat.le_trans (Nat.le_add_right _ _) k5) k4
  |zP v=>refine rz (sJ (by simp) k3) ?_;exact hq (.zP v) S1 r' hK ρ' J' Y a' w' me m1 NL k0 R1 k2 k3 (Nat.le_trans (Nat.le_add_right _ _) k5) k4
theorem ae4{Wn:WB G B}(hW:tu P Wn)(dy:Cu P q rec){cp:List Nat}{all:Array Oper}{o:Oper}{rs:List Oper}(h:Wn N cp C (.ops all [o]) S (λe S1=>match e with
   | .o5=>rec N cp C (.ops all rs) S1 K
   |_ =>none)=some r)(ha:q.at c ρ X S.nx)(hm:q.mok m r)(hr:Rl c N ρ J (q.md m bs::HK) X C S a w)(hq:LR q c N C ρ J HK X S.nx K Q):Rn P c (.ops all (o::rs)) Q a w:=by
 obtain⟨S1,k1,k2,k3⟩:=XZ hW (K1:=λS1=>rec N cp C (.ops all rs) S1 K) h;exact amN dy k1 k2 k3 ha hm hr hq
theorem YN{Wn:WB G B}(hW:tu P Wn)(dy:Cu P q rec):Cu P q (YO tb q.yn ys q.de Wn rec):=by
 intro N cp C cf S K r h c ρ J HK X a w Q m bs ha hm hr hq;unfold YO at h;dsimp only at h;split at h
 ·exact hq.here h hm hr trivial
 ·rename_i all o rs
  split at h
  ·exact ae4 hW dy h ha hm hr hq
  ·rename_i hY
   split at h
   ·rename_i hg;exact X3 dy (.none hg) h ha hm hr hq
   ·rename_i j wb hg
    split at h
    ·rename_i dj hd
     split at h
     ·rename_i hk;exact X3 dy (.afo hg hd hk) h ha hm hr hq
     ·exact ae4 hW dy h ha hm hr hq
     ·split at h
      ·rename_i k b hk
       have hb:=Rb hr 8 dj k b hk;have know:Rl c N ρ J (q.md m bs::HK) X C {S with F:=(k, .kb b)::S.F} a w:=by
        refine⟨hr.tm,hr.df,hr.si,λd v e=>?_,hr.fc,hr.kc,hr.hp,hr.kn,hr.fr⟩;simp only[ga]at e;cases hd:Nat.beq k d with
        |true=>rw[hd]at e;cases e;obtain rfl:=aoW hd;exact⟨_,hb,rfl⟩
        |false=>rw[hd]at e;exact hr.fs d v e
       cases wb with
       |true=>cases b with
        |true=>exact dy N cp C (.ops all (o::rs)) {S with F:=(k, .kb true)::S.F} K r h c ρ J HK X a w Q m bs ha hm know hq
        |false=>exact dy N cp C (.ops all (o::rs)) {S with F:=(k, .kb false)::S.F} K r h c ρ J HK X a w Q m bs ha hm know hq
       |false=>cases b with
        |true=>exact dy N cp C (.ops all (o::rs)) {S with F:=(k, .kb true)::S.F} K r h c ρ J HK X a w Q m bs ha hm know hq
        |false=>exact dy N cp C (.ops all (o::rs)) {S with F:=(k, .kb false)::S.F} K r h c ρ J HK X a w Q m bs ha hm know hq
      ·cases h
    ·cases h
 ·split at h
  ·exact wpIn_skip (hq.here h hm hr trivial)
  ·exact wpIn_label (hq.here h hm hr trivial)
  ·exact wpIn_ret (hq.here h hm hr trivial)
  ·exact wpIn_exit (hq.here h hm hr rfl)
  ·exact wpIn_region_list (dy _ _ _ _ _ _ _ h c ρ J HK X a w Q m bs ha hm hr hq)
  ·obtain⟨S1,k1,k2,k3⟩:=XZ hW h
   refine k3 c ρ J (q.md m bs::HK) X a w Q hr λρ' J' Y a' w' me t1 t2 t3 t4=>?_;rw[oW t3];exact hq _ S1 _ k1 ρ' J' Y a' w' .normal m bs hm t1 t2 trivial k2 t4
  ·rename_i i x
   refine wpIn_block (dy _ _ _ _ _ _ _ h c ρ J HK X a w _ m bs ha hm hr ?_);intro e1 S1 r' hK ρ' J' Y a' w' me m1 NL k0 k1 k2 k3 k5 k4;cases e1 with
   |exit j=>
    dsimp only at hK;rw[Lt k3];cases hb:Nat.beq i j with
    |true=>rw[hb]at hK;obtain rfl:=aoW hb;simpa[Exit.inBlock]using hq _ S1 _ hK ρ' J' Y a' w' .normal m1 NL k0 k1 k2 trivial k5 k4
    |false=>
     rw[hb]at hK;have hne:i≠j:=λq=>by rw[q,Nat.beq_refl]at hb;cases hb
     have:=hq _ S1 _ hK ρ' J' Y a' w' (.exit j) m1 NL k0 k1 k2 rfl k5 k4;simpa[Exit.inBlock,hne,Ne.symm hne]using this
   |o5=>rw[oW k3];simpa[Exit.inBlock]using hq _ S1 _ hK ρ' J' Y a' w' .normal m1 NL k0 k1 k2 trivial k5 k4
   |ret=>rw[J5 k3];simpa[Exit.inBlock]using hq _ S1 _ hK ρ' J' Y a' w' .ret m1 NL k0 k1 k2 trivial k5 k4
   |zP v=>obtain⟨u,rfl,hu⟩:=VB k3;simpa[Exit.inBlock]using hq _ S1 _ hK ρ' J' Y a' w' (.panic [{v:=u,recovered:=false}]) m1 NL k0 k1 k2 ⟨u,rfl,hu⟩ k5 k4
  ·split at h
   ·rename_i t hx
    have ex:=CQ ((gk hr (ch:=[]) (by simp)).ok _ _ hx);cases t with
    |true=>exact wpIn_cond_true ex (dy _ _ _ _ _ _ _ (TQ rfl h) c ρ J HK X a w Q m bs ha hm hr hq)
    |false=>exact wpIn_cond_false ex (dy _ _ _ _ _ _ _ (TR rfl h) c ρ J HK X a w Q m bs ha hm hr hq)
   ·rename_i t hx
    have ex:=M9 ((gk hr (ch:=[]) (by simp)).ok _ _ hx);cases t with
    |true=>exact wpIn_cond_true ex (dy _ _ _ _ _ _ _ h c ρ J HK X a w Q m bs ha hm hr hq)
    |false=>exact wpIn_cond_false ex (dy _ _ _ _ _ _ _ h c ρ J HK X a w Q m bs ha hm hr hq)
   ·cases h
  ·refine wpIn_seq (dy _ _ _ _ _ _ _ h c ρ J HK X a w _ m bs ha hm hr ?_)
   intro e1 S1 r' hK ρ' J' Y a' w' me m1 NL k0 k1 k2 k3 k5 k4;cases e1 with
   |o5=>rw[oW k3];exact dy _ _ _ _ _ _ _ hK c ρ' J' HK (Y++X) a' w' Q m1 NL (ha.fE k1 Y k5) k0 k4 (hq.fE k1 k2 k5)
   |exit i=>exact rz (sJ (by simp) k3) (hq _ S1 _ hK ρ' J' Y a' w' me m1 NL k0 k1 k2 k3 k5 k4)
   |ret=>exact rz (sJ (by simp) k3) (hq _ S1 _ hK ρ' J' Y a' w' me m1 NL k0 k1 k2 k3 k5 k4)
   |zP v=>exact rz (sJ (by simp) k3) (hq _ S1 _ hK ρ' J' Y a' w' me m1 NL k0 k1 k2 k3 k5 k4)
  ·rename_i x
   split at h
   ·rename_i gl _
    split at h
    ·cases h
    ·rename_i g _
     obtain⟨J0,Y0,mJ0,hr⟩:=hr.pF g.l;have R5:=FJ (C:=C) (S:=S) (l:=g.l);have ha:=ha.fE (bT.gL ρ S.nx) Y0 (Nat.le_refl _);have hq:=hq.fE (Y:=Y0) (bT.gL ρ S.nx) mJ0 (Nat.le_refl _);rw[← R5]at ha hq;revert h hr ha hq;generalize pF C S g.l=S;intro h hr ha hq;split at h
     ·rename_i v hv
      split at h
      ·rename_i x0 g' Ld
       cases hb:(zS g.nm g'.th&&zT S.nx g.nm)with
       |false=>rw[hb]at h;cases h
       |true=>
        rw[hb]at h;simp only[aoX]at hb;simp only[cond_true]at h;cases hl:Bj S.nx ((⟨nv (λd=> !(fe (M1 x) d||B7 g.l d)) S.F,g'.O,S.D⟩:Ly G)::C)with
        |false=>rw[hl]at h;cases h
        |true=>
         rw[hl]at h;simp only[cond_true]at h;refine QN ?_;have hl':=hl;simp only[Bj,aoX]at hl';have hlC:Bj S.nx C=true:=hl'.2.2.2;obtain⟨ρ',ρ2,HB,H',hto,ht2,Le,hleft,hC,hp,hF,hfc,hfr⟩:=UZ hr hv Ld hb.1 hb.2 (Nat.le_refl _) hlC;have hag:∀r,r<S.nx->ρ' r=ρ2 r:=λr hr'=>(hto r hr').trans (ht2 r hr').symm;have hleft:=hleft.iW hag hl'.2.1;have hr':Rl c N ρ' J0 (q.md m bs::(H'++HK)) (Y0++X) (⟨nv (λd=> !(fe (M1 x) d||B7 g.l d)) S.F,g'.O,S.D⟩::C) (ME g S.nx x0) a w:=by
          refine Rl.hk (HK:=H'++(q.md m bs::HK)) ⟨hr.tm,?_,⟨hr.si.s,λq=>hr.si.n (FO q)⟩,hF,λy hy=>?_,λr o e=>?_,⟨HB,Le,by simpa using hp⟩,hr.kn,hfr⟩ List.perm_middle
          ·exact hr.df.iW hto (OP hl'.2.2.1 (IT hlC).2)
          ·rcases List.mem_cons.1 hy with rfl|hy
           ·exact(hr.fs.fil).iW hto hl'.1
           ·exact hfc y hy
          ·have e:ga (g'.O++y6 C) r=some o:=e
           rw[og]at e;split at e
           ·rename_i v' Q3
            cases e;obtain⟨x,h1,h2⟩:=hleft.lk Q3;exact⟨x,ao1 _ h1,h2⟩
           ·obtain⟨x,h1,h2⟩:=hC r o e
            exact⟨x,ao0 _ h1,h2⟩
         refine afP (C:=C) (K:=K) dy hl _ _ _ h ρ' J0 (H'++HK) (Y0++X) a w m bs (ha.fE (Y:=[]) hto (Nat.le_refl _)) hm hr' ?_;intro e1 S1 r' hK ρ3 J3 Y a' w' me m1 NL k0 k1 k2 k3 k5 k4;have R1:ρ.to ρ3 S.nx:=λr q=>(k1 r q).trans (hto r q);have ahs:Rl c N ρ3 J3 (q.md m1 NL::HK) (Y++(Y0++X)) C (PX ⟨nv (λd=> !(fe (M1 x) d||B7 g.l d)) S.F,g'.O,S.D⟩ S1) a' w':=by
          refine Rl.PX (H2:=H') (k4.hk List.perm_middle.symm) ((hleft.iW k1 hl'.2.1).up k2 (bT.le_refl _)) ?_ hr.si.n;intro r o e;obtain⟨y,y1,y2⟩:=hr.XO k2 (R1.le hr.fr) r o e;rcases List.mem_cons.1 y1 with rfl|y1
          ·cases o with
           |eL T c=>obtain⟨_,_,_,e,_⟩:=y2;cases e
           |row _ _ _ _ =>obtain⟨_,_,_,e,_⟩:=y2;cases e
           |aux b=>obtain⟨_,_,_,e,_⟩:=y2;cases e
           |gm=>obtain⟨_,e⟩:=y2;cases e
          ·exact⟨y,ao6 _ y1,y2⟩
         cases e1 with
         |o5=>cases hK
         |exit i=>exact hq (.exit i) _ r' hK ρ3 J3 Y a' w' me m1 NL k0 R1 k2 k3 k5 ahs
         |ret=>exact hq .ret _ r' hK ρ3 J3 Y a' w' me m1 NL k0 R1 k2 k3 k5 ahs
         |zP v=>exact hq (.zP v) _ r' hK ρ3 J3 Y a' w' me m1 NL k0 R1 k2 k3 k5 ahs
      ·cases h
     ·cases h
   ·cases h
  ·cases h
theorem al3:∀n:Nat,Cu P q (WY tb q.yn ys q.de n):=by
 intro n
 induction n with
 |zero=>intro N cp C cf S K r h;cases h
 |succ n ih=>exact YN (al2 n) ih
end
def alu(Jr:List ResultVar):Ex G->AS G->Option (List B):=λe S=>match Jr,(match e with
  | .o5=>true
  | .ret=>true
  |_ =>false)with
 |[],true=>match ah4 S with
  |some _ =>some []
  |none=>none
 |_,_ =>none
noncomputable def WYf(tb:Ba P G)(n k:Nat)(yH ys:Sh)(de:HL G (br ys)->B)(x:HL G (br yH)):Option (List B):=match Ll P k with
 |some fi=>match iA (λm=>m) yH x 0 with
  |(aoT,O,m)=>bif uN aoT&&Nat.ble (HA aoT+1) fi.N then WY tb m ys de n fi.N [] [] (.code fi.code) ⟨Cb 0 (.cons (.mp m) aoT),O,m+1,[]⟩ (alu fi.Jr)else none
 |none=>none
theorem aiA{tb:Ba P G}{n k:Nat}{yH ys:Sh}{de:HL G (br ys)->B}{en:B->HL G (br ys)}(uq:J9 G ys)(he:∀x,en (de x)=x){f:HL G (br yH)->Option (List B)}(hW:∀x,WYf tb n k yH ys de x=f x):amb P k yH uq.n ys en f:=by
 intro ρ J HB X vs x l hf hv hO hk hfr;rw[← hW]at hf;refine⟨λi=>match l[i]? with
  |some y=>uq.us (en y)
  |none=>List.replicate uq.n undef,λσ i y hy=>?_,λi=>?_,λly Jy Jx bs w hp hR=>?_⟩
 ·dsimp only
  rw[hy];exact(uq.ok _ _ _).2 rfl
 ·dsimp only
  split
  ·exact uq.len _
  ·exact List.length_replicate
 unfold WYf at hf;split at hf
 ·rename_i fi P3
  revert hf hv hO hfr;generalize iA (λm=>m) yH x 0=b;obtain⟨aoT,O,m⟩:=b;intro hv hO hfr hf;dsimp only at hf hv hO hfr;cases hc:(uN aoT&&Nat.ble (HA aoT+1) fi.N)with
  |false=>rw[hc]at hf;cases hf
  |true=>
   rw[hc]at hf;simp only[aoX]at hc;simp only[cond_true]at hf;obtain⟨fn,f1,f2,f3,f4,f5⟩:=aaU P3;have hXw:Hs X w:=IX hp λr hr'=>by simp[hr']
   have apX:∀b,b∈bs\/b∈cm HB->b∉cm X:=λb hb hx=>by
    have h1:=hp.apart;have e1:(aO.ext bs (Jy 0 bs)::(HB++X))=(aO.ext bs (Jy 0 bs)::HB)++X:=rfl;rw[e1]at h1;obtain⟨s,s1,s2⟩:=bN.1 hx;rcases hb with hb|hb
    ·exact(List.pairwise_append.1 h1).2.2 _ List.mem_cons_self s s1 b hb s2
    ·obtain⟨r,r1,r2⟩:=bN.1 hb
     exact(List.pairwise_append.1 h1).2.2 _ (ao6 _ r1) s s1 b r2 s2
   have ajV:∀w',bG (bs++(cm HB++cm X)) w w'->Hs X w'->bG (bs++cm HB) w w':=λw' hs hx=>⟨hs.os,hs.tape,hs.output,hs.size,λb h1 h2=>by
    rcases Classical.em (b∈cm X)with h3|h3
    ·exact hk.ex w w' hXw hx b h3
    ·refine hs.block b h1 λh4=>?_
     simp only[List.mem_append]at h4 h2;rcases h4 with h4|h4|h4
     ·exact h2 (.inl h4)
     ·exact h2 (.inr h4)
     ·exact h3 h4⟩
   let q:YC P G ys B:={de:=de,en:=en,uq:=uq,l:=l,xP:=λi=>match l[i]? with
    |some y=>uq.us (en y)
    |none=>List.replicate uq.n undef,yn:=m,ly:=ly,Jy:=Jy,Jx:=Jx,bs0:=bs++cm HB,w1:=w,X0:=X,hR:=hR,he:=he,enc:=λi y hy=>by rw[hy]}
   have alc:ρ.fr m:=hfr;have hle:ρ.le (ρ.set m (.func (.yield ly) #[] #[])):=(bT.sq ρ m _).le alc;have hva:rl J (ρ.set m (.func (.yield ly) #[] #[])) (.cons (.mp m) aoT) (.func (.yield ly) #[] #[]::vs):=⟨_,_,rfl,⟨_,bT.oe _ _ _,rfl,rfl,rfl⟩,hv.ext hle⟩;have hlen:=U8 (v:= .cons (.mp m) aoT) hc.1 hva;refine(callsIn_wide (n:=0)).1 (callsIn_of_wp_marks (F:=Fence.wide) f1 f2 trivial ?_);have hsz:((Value.func (.yield ly) #[] #[]::vs).toArray++Array.replicate (fn.ntmps-(Value.func (.yield ly) #[] #[]::vs).toArray.size) undef).size=fi.N:=by have h1:=Nat.le_of_ble_eq_true hc.2;have h2:(Value.func (.yield ly) #[] #[]::vs).length=HA aoT+1:=hlen;simp only[List.length_cons]at h2;simp;omega
   have hR0:Rl ⟨none,w,bs++(cm HB++cm X)⟩ fi.N (ρ.set m (.func (.yield ly) #[] #[])) J (q.md (true,0) bs::[]) X [] (⟨Cb 0 (.cons (.mp m) aoT),O,m+1,[]⟩:AS G) ⟨(Value.func (.yield ly) #[] #[]::vs).toArray++Array.replicate (fn.ntmps-(Value.func (.yield ly) #[] #[]::vs).toArray.size) undef,[]⟩ w:=by refine⟨hsz, .nil,⟨bG.refl _ _,λ_ =>rfl⟩,λd x e=>?_,λy hy=>(by cases hy),λr o e=>(by cases e),⟨HB,hO.up (λ_ h=>h) hle,hp.qf List.perm_middle.symm⟩,hk,bT.Eu alc _⟩;obtain⟨u,_,k2,k3⟩:=Vq hva e;refine⟨u,?_,Uz k3 _⟩;rw[Nat.sub_zero]at k2;have hlt:=(List.getElem?_eq_some_iff.1 k2).1;rw[Array.getElem?_append_left (by simpa using hlt)];simpa using k2
   refine al3 (q:=q) n _ _ _ _ _ _ _ hf ⟨none,w,bs++(cm HB++cm X)⟩ _ J [] X _ w _ (true,0) bs ⟨Nat.lt_succ_self _,rfl,λb h1 h2=>?_,ajV,λr hr'=>hr',bT.oe _ _ _⟩ (.inl ⟨rfl,rfl,Nat.zero_le _⟩) hR0 ?_
   ·rcases h1 with h1|h1
    ·left
     show b∈bs++cm HB;simp only[List.mem_append]at h1 ⊢;rcases h1 with h1|h1|h1
     ·exact .inl h1
     ·exact .inr h1
     ·exact absurd h1 h2
    ·exact .inr h1
   ·intro e S' r' hK ρ' J' Y a' w' me m' bs' k0 k1 k2 k3 k5 k4
    unfold alu at hK;split at hK
    ·rename_i hres hx
     split at hK
     ·rename_i S2 hS
      cases hK;obtain⟨O2,hO2,rfl⟩:=ah3 hS;have XS:LeavesInM (FA none) 0 P fn a'.tmps (λen w'=>∃x:Bool×List Nat,en= .returned (.tuple #[])/\bG (bs++cm HB) w w'/\cC (bs++cm HB) w.heap.size (.ext x.2 (bif x.1 then Jy l.length x.2 else Jx x.2)::[]) w') a'.defers .returning w':=by
       refine QT rfl S'.D hO2 k4 λw2 h2=>?_;obtain⟨u,r1,r2⟩:=UE (fn:=fn) (tt:=tb.tt) (v:= .rZ .nil) h2 f4 (by rw[hres];rfl);obtain⟨ws,e1,e2⟩:=r2;have e2:ws=[]:=e2;subst e2;cases e1;refine⟨_,r1,(m'.1,bs'),rfl,?_⟩;obtain⟨HS,s1,s3⟩:=h2.hp;have hX2:Hs X w2:=IX s3 λr hr'=>by simp[hr']
       have Nv:q.md m' bs'∈HS++((q.md m' bs'::[])++(Y++X)):=by simp
       have s4:cC _ _ (q.md m' bs'::(HS++(Y++X))) w2:=s3.qf (List.perm_middle (a:=q.md m' bs') (l₁:=HS) (l₂:=Y++X));have hmd:q.md m' bs'= .ext bs' (bif m'.1 then Jy l.length bs' else Jx bs'):=by
        rcases k0 with⟨j1,j2,j3⟩|⟨j1,_⟩
        ·have j2:l.drop m'.2=[]:=j2
         have j3:m'.2<=l.length:=j3;have:=List.drop_eq_nil_iff.1 j2;have e:m'.2=l.length:=by omega
         show aO.ext bs' (bif m'.1 then Jy m'.2 bs' else Jx bs')=_;rw[e]
        ·show aO.ext bs' (bif m'.1 then Jy m'.2 bs' else Jx bs')=_
         rw[j1];rfl
       refine⟨ajV w2 h2.si.s hX2,?_⟩;rw[← hmd];refine⟨λr hr'=>?_,λr hr' b hb=>?_,List.pairwise_singleton _ _⟩
       ·obtain rfl:=List.mem_singleton.1 hr';exact s3.holds _ Nv
       ·obtain rfl:=List.mem_singleton.1 hr'
        obtain⟨o1,o2⟩:=s3.own _ Nv b hb;refine⟨?_,o2⟩;rcases o1 with o1|o1
        ·left
         have o1:b∈bs++(cm HB++cm X):=o1;simp only[List.mem_append]at o1 ⊢;rcases o1 with o1|o1|o1
         ·exact .inl o1
         ·exact .inr o1
         ·exfalso
          obtain⟨s,t1,t2⟩:=bN.1 o1;exact(List.pairwise_cons.1 s4.apart).1 s (by simp[t1]) b hb t2
        ·exact .inr o1
      cases e with
      |o5=>rw[oW k3];exact XS
      |ret=>rw[J5 k3];exact XS
      |exit i=>cases hx
      |zP v=>cases hx
     ·cases hK
    ·cases hK
 ·cases hf
noncomputable def mkI(tb:Ba P G)(n k:Nat)(yH:Sh)(ys:Sh){B:Type}(uq:J9 G ys)(en:B->HL G (br ys))(de:HL G (br ys)->B)(f:HL G (br yH)->Option (List B))(he:∀x,en (de x)=x)(hf:(Ll P k).isSome=true)(hW:∀x,WYf tb n k yH ys de x=f x):It P G where
 k:=k
 yH:=yH
 n:=uq.n
 ys:=ys
 B:=B
 en:=en
 f:=f
 fn:=by
  cases h:Ll P k with
  |none=>rw[h]at hf;cases hf
  |some fi=>exact HJ h
 ok:=aiA uq he hW
theorem OR{α β ζ:Type}(B:β->(α->Option ζ)->α->Option ζ):∀(n:Nat) (i:α) (b:β),cH (λkk x b=>B b (λx=>kk x b) x) n i b=fK (B b) n i
 |0,_,_ =>rfl
 |n+1,i,b=>by show B b (λx=>cH (λkk x b=>B b (λx=>kk x b) x) n x b) i=B b (fK (B b) n) i;have:(λx=>cH (λkk x b=>B b (λx=>kk x b) x) n x b)=fK (B b) n:=funext λx=>OR B n x b;rw[this]
theorem aim{b:Bool}{m:Option Bool}:cn b (bd m λx=>some x) (some false)=cl (b==true) m default λx=>some (b&&x):=by
 cases b with
 |false=>rfl
 |true=>cases m<;>rfl
theorem Vk{α:Type}{i:Int}{k:Option α}:gu (i==i) k=k:=by simp[gu]
theorem aeh{Z:Type}{tb:Ba P G}{n:Nat}{s:Fs}{f v:HI G s->Option Z}{um:HL G (br s.dW)->Z}{mu:Z->HL G (br s.dW)}(e1:∀y,mu (um y)=y)(hW:∀x,Wf tb n s (λy=>some (um y)) (λ_ =>none) x=v x)(hle:∀x z,f x=some z->v x=some z):Uk P s (RV s f mu) (λ_ _ =>False):=by have h0:=Rd (P:=P) (mu:=mu) e1 hW;intro ρ J HS HK X w vs x hv hO hrd hp hk hfr;obtain⟨a1,_⟩:=h0 ρ J HS HK X w vs x hv hO hrd hp hk hfr;refine⟨λy h=>?_,λy h=>h.elim⟩;obtain⟨z,h,hz⟩:=h;exact a1 y ⟨z,hle x z h,hz⟩
def afk{Z:Type}(tb:Ba P G)(n:Nat)(s:Fs)(f v:HI G s->Option Z)(um:HL G (br s.dW)->Z)(mu:Z->HL G (br s.dW))(zz:Z)(e1:∀y,mu (um y)=y)(hf:(Ll P s.k).isSome=true)(hW:∀x,Wf tb n s (λy=>some (um y)) (λ_ =>none) x=v x)(hle:∀x z,f x=some z->v x=some z):Ct P G:=Xr s f mu zz hf (aeh e1 hW hle)
end Go.Rw
