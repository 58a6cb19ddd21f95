/- Part 3 of what a proof leans on; pruned and shortened by a program out of longer texts. -/
import Derived.Test.YtoekikplecopmaaGreatDoorQ2
namespace Go.Rw
open Go Go.Bw Go.RowKit
variable {G:Sg} {P:Program} {N:Nat} {C:CC G}
def exR(J:World->Prop)(ρ:bV):Ex G->Exit->Prop
 | .pB, .normal=>True
 | .exit i, .exit j=>i=j
 | .ret, .ret=>True
 | .z9 v, .panic ch=>∃u,ch=[{v:=u,recovered:=false}]/\rv J ρ v u
 |_,_ =>False
def Rn(P:Program)(c:Cx):Cf->(Exit->Act->World->Prop)->Act->World->Prop
 | .code x,Q,a,w=>x.wpIn (FA c.ro) 0 P Q a w
 | .ops all l,Q,a,w=>wpListIn (FA c.ro) 0 P all Q l a w
def Aft(c:Cx)(N:Nat)(C:CC G)(ρ:bV)(J:World->Prop)(HK X:List aO)(n:Nat)(S':AS G)(e:Ex G)(Q:Exit->Act->World->Prop):Prop:=∀(ρ':bV) (J':World->Prop) (Y:List aO) (a':Act) (w':World) (me:Exit),ρ.to ρ' n->(∀w,J' w->J w)->exR J' ρ' e me->Rl c N ρ' J' HK (Y++X) C S' a' w'->Q me a' w'
def US(P:Program)(N:Nat)(C:CC G)(cf:Cf)(S S':AS G)(e:Ex G):Prop:=∀(c:Cx) (ρ:bV) (J:World->Prop) (HK X:List aO) (a:Act) (w:World) (Q:Exit->Act->World->Prop),Rl c N ρ J HK X C S a w->Aft c N C ρ J HK X S.nx S' e Q->Rn P c cf Q a w
theorem Aft.here{c:Cx}{ρ:bV}{J:World->Prop}{HK X:List aO}{S:AS G}{e:Ex G}{Q:Exit->Act->World->Prop}{a:Act}{w:World}{me:Exit}{n:Nat}(h:Aft c N C ρ J HK X n S e Q)(hr:Rl c N ρ J HK X C S a w)(he:exR J ρ e me):Q me a w:=
 h ρ J [] a w me (bV.gU _ _) (λ_ h=>h) he hr
theorem Aft.fA{c:Cx}{ρ ρ1:bV}{J J1:World->Prop}{HK X Y:List aO}{S:AS G}{e:Ex G}{Q:Exit->Act->World->Prop}{n m:Nat}(h:Aft c N C ρ J HK X n S e Q)(h1:ρ.to ρ1 n)(h2:∀w,J1 w->J w)(hn:n<=m):Aft c N C ρ1 J1 HK (Y++X) m S e Q:=
 λρ' J' Y' a' w' me k1 k2 k3 k4=>h ρ' J' (Y'++Y) a' w' me (h1.trans k1 hn) (λw q=>h2 w (k2 w q)) k3 (by rw[List.append_assoc];exact k4)
theorem po{J:World->Prop}{ρ:bV}{me:Exit}(h:exR (G:=G) J ρ .pB me):me= .normal:=by cases me<;>first|rfl|exact h.elim
theorem Ku{J:World->Prop}{ρ:bV}{me:Exit}(h:exR (G:=G) J ρ .ret me):me= .ret:=by cases me<;>first|rfl|exact h.elim
theorem LU{J:World->Prop}{ρ:bV}{i:Nat}{me:Exit}(h:exR (G:=G) J ρ (.exit i) me):me= .exit i:=by cases me<;>first|exact h.elim|(have h:i=_ :=h;rw[h])
theorem V5{J:World->Prop}{ρ:bV}{v:AV G}{me:Exit}(h:exR J ρ (.z9 v) me):∃u,me= .panic [{v:=u,recovered:=false}]/\rv J ρ v u:=by cases me<;>first|exact h.elim|(obtain⟨u,rfl,h⟩:=h;exact⟨u,rfl,h⟩)
theorem sW{J:World->Prop}{ρ:bV}{e:Ex G}{me:Exit}(he:e≠ .pB)(h:exR J ρ e me):me≠ .normal:=by
 intro q;subst q;cases e with
 |pB=>exact he rfl
 |_ =>exact h.elim
theorem rL{K:Act->World->Prop}{Q:Exit->Act->World->Prop}{me:Exit}{a:Act}{w:World}(hm:me≠ .normal)(h:Q me a w):Exit.then K Q me a w:=by cases me<;>first|exact absurd rfl hm|exact h
theorem agD{x y:Code}{S S1 S2:AS G}{e:Ex G}(h1:US P N C (.code x) S S1 .pB)(h2:US P N C (.code y) S1 S2 e)(hn:S.nx<=S1.nx):US P N C (.code (.seq x y)) S S2 e:=by intro c ρ J HK X a w Q hr hq;refine wpIn_seq (h1 c ρ J HK X a w _ hr λρ' J' Y a' w' me k1 k2 k3 k4=>?_);rw[po k3];exact h2 c ρ' J' HK (Y++X) a' w' Q k4 (hq.fA k1 k2 hn)
theorem rK{x y:Code}{S S1:AS G}{e:Ex G}(h1:US P N C (.code x) S S1 e)(he:e≠ .pB):US P N C (.code (.seq x y)) S S1 e:=by intro c ρ J HK X a w Q hr hq;refine wpIn_seq (h1 c ρ J HK X a w _ hr λρ' J' Y a' w' me k1 k2 k3 k4=>?_);exact rL (sW he k3) (hq ρ' J' Y a' w' me k1 k2 k3 k4)
theorem B5{x:Code}{i:Nat}{S S1:AS G}{e e':Ex G}(h1:US P N C (.code x) S S1 e)(he:(e= .exit i/\e'= .pB)\/(e'=e/\e≠ .exit i)):US P N C (.code (.block i x)) S S1 e':=by
 intro c ρ J HK X a w Q hr hq;refine wpIn_block (h1 c ρ J HK X a w _ hr λρ' J' Y a' w' me k1 k2 k3 k4=>?_);rcases he with⟨rfl,rfl⟩|⟨rfl,hne⟩
 ·rw[LU k3]
  simpa[Exit.inBlock]using hq ρ' J' Y a' w' .normal k1 k2 trivial k4
 ·have:=hq ρ' J' Y a' w' me k1 k2 k3 k4
  cases me with
  |exit j=>
   cases e' with
   |exit i'=>have e:i'=j:=k3;subst e;have:¬i'=i:=λq=>hne (by rw[q]);simpa[Exit.inBlock,this]using hq ρ' J' Y a' w' _ k1 k2 k3 k4
   |_ =>exact k3.elim
  |_ =>exact this
def LPr(P:Program)(c:Cx)(x:Code)(Q:Exit->Act->World->Prop)(a:Act)(w:World):Prop:=∀(b:Frame) (k:List Item) (cs:List Frame),b.roundOf=(FA c.ro).round->(FA c.ro).fn b.fn->(FA c.ro).room (cs.length+1+0)-> ∃e a' w',Q e a' w'/\ArrivesIn (Machine.fenced P (FA c.ro)) P (lone (b.atR a (.code x:: .inLoop x::k)) cs w) b k cs e a' w'
theorem Rb{c:Cx}{x:Code}{Q:Exit->Act->World->Prop}{a:Act}{w:World}(h:LPr P c x Q a w):(Code.loop x).wpIn (FA c.ro) 0 P Q a w:=λb k cs hro hb hr=>by obtain⟨e,a',w',hq,Cn⟩:=h b k cs hro hb hr;exact⟨e,a',w',hq, .of_steps (.one (fenced_calm hb hr rfl) stepR_loop) Cn⟩
theorem Pc{c:Cx}{x:Code}{Q:Exit->Act->World->Prop}{a:Act}{w:World}(h:x.wpIn (FA c.ro) 0 P (Exit.then (LPr P c x Q) Q) a w):LPr P c x Q a w:=λb k cs hro hb hr=>by
 obtain⟨e,a₁,w₁,hq,Cn⟩:=h b (.inLoop x::k) cs hro hb hr;cases e with
 |normal=>obtain⟨e₂,a₂,w₂,hq₂,abf⟩:=hq b k cs hro hb hr;exact⟨e₂,a₂,w₂,hq₂, .of_steps (StepsIn.trans Cn (.one (fenced_calm hb hr rfl) stepR_inLoop)) abf⟩
 |exit id=>exact⟨_,a₁,w₁,hq, .pass (x:= .inLoop x) rfl (λ_ _ => .inl (by simp)) Cn⟩
 |goto l=>exact⟨_,a₁,w₁,hq, .pass (x:= .inLoop x) rfl (λ_ _ => .inl (by simp)) Cn⟩
 |ret=>exact⟨_,a₁,w₁,hq, .pass (x:= .inLoop x) rfl (λ_ _ => .inl (by simp)) Cn⟩
 |panic ch=>exact⟨_,a₁,w₁,hq, .pass (x:= .inLoop x) rfl (λ_ _ => .inl (by simp)) Cn⟩
 |outgrown=>exact⟨_,a₁,w₁,hq, .pass (x:= .inLoop x) rfl (λ_ _ => .inl (by simp)) Cn⟩
theorem agE{all:Array Oper}{S:AS G}:US P N C (.ops all []) S S .pB:=λ_ _ _ _ _ _ _ _ hr hq=>hq.here hr trivial
def SF(N:Nat)(all:Array Oper)(C:CC G)(S:AS G)(o:Oper):Prop:=∀(c:Cx) (ρ:bV) (J:World->Prop) (HK X:List aO) (a:Act) (w:World),Rl c N ρ J HK X C S a w->Region.wanted o (yielded all a.tmps)=true
theorem SF.none{all:Array Oper}{o:Oper}{S:AS G}(h:o.guard=none):SF N all C S o:=λ_ _ _ _ _ _ _ _ =>by simp[Region.wanted,h]
theorem ac8{all:Array Oper}{r:List Oper}{o:Oper}{S S1 S2 S3:AS G}{v:AV G}{e:Ex G}(hg:SF N all C S o)(h:SK P o C S S1 v)(hp:yP N C o.dst v S1=some S2)(h2:US P N C (.ops all r) S2 S3 e)(hn:S.nx<=S1.nx)(hv:∀j w x,v≠ .gd j w x):US P N C (.ops all (o::r)) S S3 e:=by
 intro c ρ J HK X a w Q hr hq;refine wpListIn_step λK hK=>?_;rw[aps (hg c ρ J HK X a w hr)];refine h c N ρ J HK X a w K Q hr λρ' J' Y w' u k1 k0 k2 k3=>hK _ _ ?_;refine h2 c ρ' J' HK (Y++X) _ w' Q (k3.put hp ?_) ?_
 ·cases v with
  |gd j w x=>exact absurd rfl (hv j w x)
  |_ =>exact k2
 ·have:S2.nx=S1.nx:=by
   cases hd:o.dst with
   |none=>rw[hd]at hp;cases hp;rfl
   |some d=>
    rw[hd]at hp;simp only[yP]at hp;cases hb:(Nat.blt d N&&(O6 d S1.F&&Q3 d C)&&NQ d v)with
    |false=>rw[hb]at hp;cases hp
    |true=>rw[hb]at hp;cases hp;rfl
  exact hq.fA k1 k0 (by omega)
theorem rj{d:Option Tmp}{v:AV G}{S S':AS G}(hp:yP N C d v S=some S'):S'.nx=S.nx:=by
 cases d with
 |none=>cases hp;rfl
 |some d=>
  simp only[yP]at hp;cases hb:(Nat.blt d N&&(O6 d S.F&&Q3 d C)&&NQ d v)with
  |false=>rw[hb]at hp;cases hp
  |true=>rw[hb]at hp;cases hp;rfl
theorem alT{Z:Type}:∀{gs:List Bool} {k:Option Z} {z:Z},guW gs k=some z->(∀b∈gs,b=true)/\k=some z:=by
 intro gs
 induction gs with
 |nil=>intro k z h;exact⟨by simp,h⟩
 |cons b r ih=>intro k z h;obtain⟨h1,h2⟩:=rH h;obtain⟨h3,h4⟩:=ih h2;exact⟨by simpa[h1]using h3,h4⟩
theorem alU{Z:Type}{g:Bool}:∀{gs:List Bool} {k:Option Z} {z:Z},guG g gs k=some z->(g=true->∀b∈gs,b=true)/\k=some z:=by
 intro gs
 induction gs with
 |nil=>intro k z h;exact⟨by simp,h⟩
 |cons b r ih=>intro k z h;obtain⟨h1,h2⟩:=rH h;obtain⟨h3,h4⟩:=ih h2;exact⟨λhg=>by have:=Ls h1 hg;simpa[this]using h3 hg,h4⟩
theorem Tv{c:Cx}{ρ:bV}{J:World->Prop}{HK X:List aO}{S:AS G}{a:Act}{w:World}{ch:List (Nat×Bool)}{y z:Operand}{v:AV G}{d:Option Tmp}{ty:TypeId}{ps:String}{af:Array Edge}{g:Option (Nat×Bool)}{j:Nat}{b:Bool}
  (h:Rl c N ρ J HK X C S a w)(hc:∀q∈ch,a.tmps[q.1]? =some (.bool q.2))(ex:a.eval (.tmp j)= .bool b)(hj:a.tmps[j]? =some (.bool b))(hp:OV C S ch j b y z=some v):GO P c J ρ ⟨d, .pick (.tmp j) y z,ty,ps,af,g⟩ a w v:=by
 have hE:=gB h hc;have hcb:∀b:Bool,a.eval (.const (.bool b))= .bool b:=λ_ =>rfl;unfold OV at hp;split at hp
 ·split at hp
  ·rename_i k x hy _
   split at hp
   ·rename_i u hu
    cases hb:Nat.beq k j with
    |false=>rw[hb]at hp;cases hp
    |true=>
     rw[hb]at hp;cases hp;obtain rfl:=apu hb;refine⟨.bool (b&&u),rfl,VK.run (by simp) ?_⟩;have hr:=h.ev hy;cases b with
     |false=>simp[execOp,ex,hcb,asBool]
     |true=>have:=E8 hu (hr.1 hj);simp[execOp,ex,this,asBool]
   ·cases hp
  ·rename_i x _ hy
   split at hp
   ·rename_i u hu
    cases hp;have ey:=E8 hu (hE.ok _ _ hy);refine⟨.bool (b&&u),rfl,VK.run (by simp) ?_⟩;cases b<;>simp[execOp,ex,ey,hcb,asBool]
   ·cases hp
  ·cases hp
 ·split at hp
  ·rename_i k x hy _
   split at hp
   ·rename_i u hu
    cases hb:Nat.beq k j with
    |false=>rw[hb]at hp;cases hp
    |true=>
     rw[hb]at hp;cases hp;obtain rfl:=apu hb;refine⟨.bool (b||u),rfl,VK.run (by simp) ?_⟩;have hr:=h.ev hy;cases b with
     |true=>simp[execOp,ex,hcb,asBool]
     |false=>have:=E8 hu (hr.1 hj);simp[execOp,ex,this,asBool]
   ·cases hp
  ·rename_i x _ hy
   split at hp
   ·rename_i u hu
    cases hp;have ey:=E8 hu (hE.ok _ _ hy);refine⟨.bool (b||u),rfl,VK.run (by simp) ?_⟩;cases b<;>simp[execOp,ex,ey,hcb,asBool]
   ·cases hp
  ·cases hp
 ·cases hp
theorem Xg{tt:TT P G}{c:Cx}{ρ:bV}{J:World->Prop}{HK X:List aO}{S:AS G}{a:Act}{w:World}{ch:List (Nat×Bool)}{x y z:Operand}{v:AV G}{d:Option Tmp}{ty:TypeId}{ps:String}{af:Array Edge}{g:Option (Nat×Bool)}
  (h:Rl c N ρ J HK X C S a w)(hc:∀q∈ch,a.tmps[q.1]? =some (.bool q.2))(hp:Tw C S ch x y z=some v):GO P c J ρ ⟨d, .pick x y z,ty,ps,af,g⟩ a w v:=by
 have hE:=gB h hc;unfold Tw at hp;split at hp
 ·rename_i b hx
  have ex:=Ns (hE.ok _ _ hx);refine⟨_,hE.ok _ _ hp,VK.run (by simp) ?_⟩;cases b<;>simp[execOp,ex,asBool]
 ·rename_i b j hx
  have ex:=C4 (hE.ok _ _ hx);have hj:a.tmps[j]? =some (a.eval (.tmp j)):=Kt a j _ (hE.ev _ _ hx);rw[ex]at hj;exact Tv h hc ex hj hp
 ·cases hp
theorem Z8{tt:TT P G}{zt:ZT P G}{c:Cx}{ρ:bV}{J:World->Prop}{HK X:List aO}{S:AS G}{a:Act}{w:World}{ch:List (Nat×Bool)}{op:Op}{v:AV G}{gs:List Bool}{d:Option Tmp}{ty:TypeId}{ps:String}{af:Array Edge}{g:Option (Nat×Bool)}
  (h:Rl c N ρ J HK X C S a w)(hc:∀q∈ch,a.tmps[q.1]? =some (.bool q.2))(hp:pvA tt zt C S ch op=some (gs,v))(hg:∀b∈gs,b=true):GO P c J ρ ⟨d,op,ty,ps,af,g⟩ a w v:=by
 unfold pvA at hp;split at hp
 ·split at hp
  ·rename_i v' hv;cases hp;exact Xg (tt:=tt) h hc hv
  ·cases hp
 ·obtain⟨HS,_,_,hm⟩:=h.st
  have:=Z3 (d:=d) (ty:=ty) (ps:=ps) (af:=af) (g:=g) hm (gB h hc) hp;exact this
 ·obtain⟨HS,_,_,hm⟩:=h.st
  exact adG (d:=d) (ty:=ty) (ps:=ps) (af:=af) (g:=g) hm (gB h hc) hp hg
 ·obtain⟨HS,_,_,hm⟩:=h.st
  split at hp
  ·rename_i r' hr;cases hp;exact ZX (d:=d) (ty:=ty) (ps:=ps) (af:=af) (g:=g) hm (gB h hc) hr hg
  ·exact ZU hm (gB h hc) hp hg
 ·obtain⟨HS,_,_,hm⟩:=h.st
  split at hp
  ·rename_i r' hr;cases hp;exact ZU hm (gB h hc) hr hg
  ·split at hp
   ·rename_i va vb hx hy;exact Z1 hm (gB h hc) hp hx hy
   ·cases hp
 ·obtain⟨HS,_,_,hm⟩:=h.st
  exact ZU hm (gB h hc) hp hg
theorem Rl.since{c:Cx}{ρ:bV}{J:World->Prop}{HK X:List aO}{S:AS G}{a:Act}{w w':World}(h:Rl c N ρ J HK X C S a w)(hs:bI [] w w'):Rl c N ρ J HK X C S a w':=by obtain⟨HS,q1,q3⟩:=h.hp;exact⟨h.tm,h.df,h.si.ext hs,h.fs,h.fc,h.kc,⟨HS,q1,q3.ext hs⟩,h.kn,h.fr⟩
theorem akm{tt:TT P G}{zt:ZT P G}{S:AS G}{op:Op}{v:AV G}{gs:List Bool}{d:Option Tmp}{ty:TypeId}{ps:String}{af:Array Edge}{g:Option (Nat×Bool)}(hp:pvA tt zt C S [] op=some (gs,v))(hg:∀b∈gs,b=true):SK P ⟨d,op,ty,ps,af,g⟩ C S S v:=by
 intro c N ρ J HK X a w next Q h hk
 obtain⟨u,h1,h2⟩:=Z8 (tt:=tt) (zt:=zt) (d:=d) (ty:=ty) (ps:=ps) (af:=af) (g:=g) h (by simp) hp hg;exact h2 next Q λw' hs=>hk ρ J [] w' u (bV.gU _ _) (λ_ h=>h) h1 (h.since hs)
theorem zL{all:Array Oper}{o:Oper}{a:Act}{j dj:Nat}{w:Bool}(hg:o.guard=some (j,w))(hd:LW all j=some dj):(Region.wanted o (yielded all a.tmps)=true)↔a.tmps[dj]? =some (.bool w):=by
 have:yielded all a.tmps j=match a.tmps[dj]? with
   |some (.bool b)=>some b
   |_ =>none:=by
  unfold LW at hd;simp only[yielded,hd];rfl
 simp only[Region.wanted,hg,this];cases h:a.tmps[dj]? with
 |none=>simp
 |some v=>cases v<;>simp
theorem YW{tt:TT P G}{zt:ZT P G}{all:Array Oper}{r:List Oper}{o:Oper}{S S2 S3:AS G}{v:AV G}{e:Ex G}{j dj:Nat}{w g:Bool}{gs:List Bool}(hg:o.guard=some (j,w))(hd:LW all j=some dj)(he:T8 C S 8 dj w=some g)(hp:pvA tt zt C S (chain C S 8 dj w) o.op=some (gs,v))(MC:g=true->∀b∈gs,b=true)
  (hq:yP N C o.dst (.gd dj w v) S=some S2)(h2:US P N C (.ops all r) S2 S3 e):US P N C (.ops all (o::r)) S S3 e:=by
 intro c ρ J HK X a wd Q hr hQ;refine wpListIn_step λK hK=>?_;have hwi:=zL (a:=a) hg hd;have hge:=VT hr 8 dj w g he;have SB:=rj hq;have hQ':∀a' w',Rl c N ρ J HK X C S2 a' w'->wpListIn (FA c.ro) 0 P all Q r a' w':=λa' w' h3=>h2 c ρ J HK X a' w' Q h3 (hQ.fA (Y:=[]) (bV.gU _ _) (λ_ h=>h) (by omega));obtain⟨d,op,ty,ps,af,gg⟩:=o;by_cases hw:a.tmps[dj]? =some (.bool w)
 ·rw[aps (hwi.2 hw)]
  have hch:=RU hr 8 dj w hw;obtain⟨u,k1,k2⟩:=Z8 (tt:=tt) (zt:=zt) (d:=d) (ty:=ty) (ps:=ps) (af:=af) (g:=gg) hr hch hp (MC (hge.1 hw));refine k2 K Q λw' hs=>hK _ _ (hQ' _ _ ((hr.since hs).put hq ⟨λ_ =>k1,λh=>absurd hw h⟩))
 ·have:Region.wanted (⟨d,op,ty,ps,af,gg⟩:Oper) (yielded all a.tmps)=false:=by
   cases hb:Region.wanted (⟨d,op,ty,ps,af,gg⟩:Oper) (yielded all a.tmps)with
   |true=>exact absurd (hwi.1 hb) hw
   |false=>rfl
  rw[apt (by rw[this];simp)];exact⟨λ_ _ =>trivial,hK _ _ (hQ' _ _ (hr.put hq ⟨λh=>absurd h hw,λ_ =>rfl⟩))⟩
theorem SF.afT{all:Array Oper}{o:Oper}{S:AS G}{j dj:Nat}{w:Bool}(hg:o.guard=some (j,w))(hd:LW all j=some dj)(hk:gkn C S 8 dj w=some true):SF N all C S o:=λ_ _ _ _ _ _ _ h=>(zL hg hd).2 ((Py h 8 dj w true hk).2 rfl)
theorem ac4{all:Array Oper}{r:List Oper}{o:Oper}{S S2 S3:AS G}{e:Ex G}{j dj:Nat}{w:Bool}(hg:o.guard=some (j,w))(hd:LW all j=some dj)(hk:gkn C S 8 dj w=some false)(hq:yP N C o.dst .Y9 S=some S2)(h2:US P N C (.ops all r) S2 S3 e):US P N C (.ops all (o::r)) S S3 e:=by
 intro c ρ J HK X a wd Q hr hQ;refine wpListIn_step λK hK=>?_;have SB:=rj hq;have hw:¬a.tmps[dj]? =some (.bool w):=λq=>by have:=(Py hr 8 dj w false hk).1 q;cases this
 have:Region.wanted o (yielded all a.tmps)=false:=by
  cases hb:Region.wanted o (yielded all a.tmps)with
  |true=>exact absurd ((zL hg hd).1 hb) hw
  |false=>rfl
 rw[apt (by rw[this];simp)];exact⟨λ_ _ =>trivial,hK _ _ (h2 c ρ J HK X _ _ Q (hr.put hq ⟨_,rfl⟩) (hQ.fA (Y:=[]) (bV.gU _ _) (λ_ h=>h) (by omega)))⟩
theorem UX{cf:Cf}{S S3:AS G}{e:Ex G}{j k:Nat}{b:Bool}(hk:NO C S 8 j=some (k,b))(h:US P N C cf {S with F:=(k, .kb b)::S.F} S3 e):US P N C cf S S3 e:=by
 intro c ρ J HK X a w Q hr hq;have hb:=Rz hr 8 j k b hk;refine h c ρ J HK X a w Q ⟨hr.tm,hr.df,hr.si,λd v e=>?_,hr.fc,hr.kc,hr.hp,hr.kn,hr.fr⟩ hq;simp only[gw]at e;cases hd:Nat.beq k d with
 |true=>rw[hd]at e;cases e;obtain rfl:=apu hd;exact⟨_,hb,rfl⟩
 |false=>rw[hd]at e;exact hr.fs d v e
def tG(P:Program){Z:Type}(rec:WT G Z):Prop:=∀(N:Nat) (cp:List Nat) (C:CC G) (cf:Cf) (S:AS G) (K:Ex G->AS G->Option Z) (z:Z),rec N cp C cf S K=some z->∃e S',K e S'=some z/\S.nx<=S'.nx/\US P N C cf S S' e
section
variable {Z:Type} {tb:Bp P G} {rec:WT G Z} {cp:List Nat} {all:Array Oper} {r:List Oper} {K:Ex G->AS G->Option Z} {z:Z}
theorem ji(dB:tG P rec){o:Oper}{S S1:AS G}{v:AV G}(hg:SF N all C S o)(hk:SK P o C S S1 v)(hn:S.nx<=S1.nx)(h:o7 rec N cp C all r o.dst v S1 K=some z):∃e S',K e S'=some z/\S.nx<=S'.nx/\US P N C (.ops all (o::r)) S S' e:=by
 unfold o7 at h;split at h
 ·rename_i S2 hp
  cases hb:Ed v with
  |false=>rw[hb]at h;cases h
  |true=>rw[hb]at h;obtain⟨e,S3,h1,h2,h3⟩:=dB _ _ _ _ _ _ _ h;have:=rj hp;exact⟨e,S3,h1,by omega,ac8 hg hk hp h3 hn λj w x q=>by rw[q]at hb;cases hb⟩
 ·cases h
theorem VW{J:World->Prop}{ρ:bV}:∀{v:AV G} {i:Nat} {us:List Value} {d:Nat} {x:AV G},rl J ρ v us->gw (Cp i v) d=some x->∃u,i<=d/\us[d-i]? =some u/\rv J ρ x u:=by
 intro v
 induction v with
 |cons a b _ uV=>
  intro i us d x hr h;obtain⟨u,q,rfl,h1,h2⟩:=hr;simp only[Cp,gw]at h;cases hb:Nat.beq i d with
  |true=>rw[hb]at h;cases h;obtain rfl:=apu hb;exact⟨u,Nat.le_refl _,by simp,h1⟩
  |false=>rw[hb]at h;obtain⟨u',k1,k2,k3⟩:=uV h2 h;refine⟨u',by omega,?_,k3⟩;rw[show d-i=(d-(i+1))+1 from by omega];simpa using k2
 |_ =>intro i us d x _ h;cases h
theorem sY{J:World->Prop}{ρ:bV}:∀{a b:AV G} {l m:List Value},uU a=true->rl J ρ a l->rl J ρ b m->rl J ρ (r8 a b) (l++m):=by
 intro a
 induction a with
 |cons x y _ uV=>intro b l m hl h1 h2;obtain⟨u,q,rfl,k1,k2⟩:=h1;exact⟨u,q++m,rfl,k1,uV hl k2 h2⟩
 |nil=>intro b l m _ h1 h2;have:l=[]:=h1;subst this;exact h2
 |_ =>intro b l m hl;cases hl
theorem VD{J:World->Prop}{ρ:bV}:∀{v:AV G} {us:List Value},uU v=true->rl J ρ v us->us.length=HY v:=by
 intro v
 induction v with
 |cons x y _ uV=>intro us hl h;obtain⟨u,q,rfl,_,k2⟩:=h;simp[HY,uV hl k2]
 |nil=>intro us _ h;have:us=[]:=h;subst this;rfl
 |_ =>intro us hl;cases hl
theorem U5{J:World->Prop}{ρ:bV}{v:AV G}{u:Value}(h:rv J ρ v u)(t:Array Value):rf J ρ t v u:=by
 cases v with
 |gd j w v=>exact h.elim
 |_ =>exact h
theorem abo{k:Nat}{fi:FI}(h:LH P k=some fi):∃fn,P.funcs[k]? =some fn/\fn.body=some fi.code/\fn.ntmps=fi.N/\fn.results.toList=fi.JM/\(fn.name== "runtime.NumGoroutine")=false:=by
 unfold LH at h;split at h
 ·rename_i fn h1
  split at h
  ·rename_i code h2
   cases hb:(fn.name== "runtime.NumGoroutine")with
   |true=>rw[hb]at h;cases h
   |false=>rw[hb]at h;cases h;exact⟨fn,h1,h2,rfl,rfl,hb⟩
  ·cases h
 ·cases h
theorem Va{tt:TT P G}{c:Cx}{ρ:bV}{J:World->Prop}{HK X:List aO}{S:AS G}{a:Act}{w:World}{r:ResultVar}{v:AV G}(h:Rl c N ρ J HK X C S a w)(e:adz tt C S r=some v):∃u,(xu a.tmps r).run P w= .ok u w/\rv J ρ v u:=by
 have hE:=gB h (ch:=[]) (by simp);have api:∀{t:Nat} {x:AV G},mR C S [] (.tmp t)=some x->a.tmps.getD t undef=a.eval (.tmp t):=λ_ =>rfl;cases r with
 |tmp t=>exact⟨a.eval (.tmp t),rfl,hE.ok _ _ e⟩
 |cell t ty=>
  simp only[adz]at e;split at e
  ·rename_i r hx
   split at e
   ·rename_i T cc ho
    cases hb:Bl tt ty cc with
    |false=>rw[hb]at e;cases e
    |true=>
     rw[hb]at e;cases e;obtain⟨HS,_,hst,hm⟩:=h.st;obtain⟨y,hy,b,u,m1,rfl,m3⟩:=hm.ob _ _ ho;obtain⟨b',o',e1,e2,_⟩:=xy (hE.ok _ _ hx);have eb:b'=b/\o'=0:=by rcases e1 with h1|⟨n,cap,_,_,_,_,h1,_⟩<;>rw[h1]at m1<;>simp[gk]at m1;exact m1
     obtain⟨rfl,rfl⟩:=eb;have hcell:=λj=>yD (hst.hp.holds _ hy) j;have hrun:∀u',(loadVar ty ⟨b',0,none⟩).run P w= .ok u' w->(xu a.tmps (.cell t ty)).run P w= .ok u' w:=λu' hu=>by have e3:a.tmps.getD t undef=gk b' 0:=e2;simp only[xu,e3,asAddr,Sem.run_bind,Sem.run_pure,Result.andThen_ok,hu]
     rcases LL hb m3 with⟨k1,k2,_⟩|⟨n,k1,k2,_,k4⟩
     ·haveI:=k1
      refine⟨u,hrun u (oL ?_),m3⟩;rw[hcell,k2];rfl
     ·haveI:=k1
      have e4:u= .agg u.cells.toList.toArray:=by rw[Array.toArray_toList];exact k4
      refine⟨.agg u.cells.toList.toArray,hrun _ (oM (n:=n) (by simpa using k2) λj v hv=>?_),by rw[← e4];exact m3⟩;rw[Nat.zero_add,hcell];exact hv
   ·cases e
  ·cases e
theorem adA{tt:TT P G}{c:Cx}{ρ:bV}{J:World->Prop}{HK X:List aO}{S:AS G}{a:Act}{w:World}(h:Rl c N ρ J HK X C S a w):∀{l:List ResultVar} {v:AV G},adB tt C S l=some v->∃us,(l.mapM (xu a.tmps)).run P w= .ok us w/\rl J ρ v us/\us.length=l.length:=by
 intro l
 induction l with
 |nil=>intro v e;cases e;exact⟨[],by simp,rfl,rfl⟩
 |cons r q ih=>
  intro v e;simp only[adB]at e;split at e
  ·rename_i v1 l1 h1 h2
   cases e;obtain⟨u,k1,k2⟩:=Va h h1;obtain⟨us,k3,k4,k5⟩:=ih h2;exact⟨u::us,by simp only[List.mapM_cons,Sem.run_bind,k1,Sem.run_pure,Result.andThen_ok,k3],⟨_,_,rfl,k2,k4⟩,by simp[k5]⟩
  ·cases e
theorem Vb{tt:TT P G}{c:Cx}{ρ:bV}{J:World->Prop}{HK X:List aO}{S:AS G}{a:Act}{w:World}{fn:Func}{l:List ResultVar}{v:AV G}(h:Rl c N ρ J HK X C S a w)(hf:fn.results.toList=l)(e:JL tt C S l=some v):∃u,(results fn a.tmps).run P w= .ok u w/\rv J ρ v u:=by
 unfold JL at e;have key:∀us,(l.mapM (xu a.tmps)).run P w= .ok us w->(results fn a.tmps).run P w= .ok (EM us) w:=λus hk=>by
  have hr:fn.results=l.toArray:=by rw[← hf]
  show(do let vs ← fn.results.mapM (xu a.tmps);pure (if h:vs.size=1 then vs[0]else .tuple vs):Sem Value).run P w=_;rw[hr,List.mapM_toArray];simp only[Sem.run_bind,Sem.run_map,hk,Result.andThen_ok]
  match us with
  |[]=>simp[EM]
  |[v]=>simp[EM]
  |u::v::r=>simp[EM]
 split at e
 ·rename_i r
  obtain⟨u,k1,k2⟩:=Va h e;exact⟨u,key [u] (by simp only[List.mapM_cons,List.mapM_nil,Sem.run_bind,k1,Sem.run_pure,Result.andThen_ok]),k2⟩
 ·rename_i hne
  split at e
  ·rename_i x hx
   cases e;obtain⟨us,k1,k2,k3⟩:=adA h hx;refine⟨EM us,key _ k1,us,?_,k2⟩
   match us,k3 with
   |[],_ =>rfl
   |[v],k3=>
    exfalso
    match l,k3,hne with
    |[r],_,hne=>exact hne r rfl
   |u::v::r,_ =>rfl
  ·cases e
theorem aaq{D:List (AV G)}(h:aar D=true):D=[]:=by cases D with
 |nil=>rfl
 |cons _ _ =>cases h
theorem Re{fn:Func}{R:Ending->World->Prop}{c:Cx}{ρ:bV}{J:World->Prop}{HK X:List aO}{F:Fr G}{nx:Nat}{C:CC G}{N:Nat}(hC:dfC C=[]):∀(D:List (AV G)) {O O2:Os G} {a:Act} {w:World},abG D O=some O2->Rl c N ρ J HK X C ⟨F,O,nx,D⟩ a w->
  (∀w2,Rl c N ρ J HK X C ⟨F,O2,nx,[]⟩ {a with defers:=[]} w2->LeavesInM (FA none) 0 P fn a.tmps R [] .returning w2)->LeavesInM (FA none) 0 P fn a.tmps R a.defers .returning w:=by
 intro D
 induction D with
 |nil=>intro O O2 a w e h k;have df:=h.df;rw[hC]at df;cases e;obtain⟨t,d⟩:=a;cases df;exact k w h
 |cons v D ih=>
  intro O O2 a w e h k;unfold abG at e;split at e
  ·rename_i h0;cases h0
  ·rename_i O' r D' h0
   obtain⟨rfl,rfl⟩:=List.cons.inj h0;split at e
   ·rename_i ho
    obtain⟨tm,df,si,fs,fc,kc,⟨HS,q1,q3⟩,kn,fr⟩:=h;rw[hC]at df;obtain⟨t,d⟩:=a;cases df with
    |cons hd k2=>
    rename_i D0;obtain⟨_,b,hb,rfl⟩:=hd;obtain⟨kk,x,k1,⟨n,o,m1,rfl,m3⟩,k3⟩:=q1.del ho;rw[hb]at m1;have m1:b=n:=by cases m1;rfl
    subst m1;have m3:o= .deferred (some []):=m3;subst m3;have q4:=q3.qt (xB k1 _);have hm:aO.obj b (.deferred (some []))∈(aO.obj b (.deferred (some []))::(HS.eraseIdx kk++(HK++X))):=List.mem_cons_self;have hd:w.heap[b]? =some (.deferred (some [])):=q4.holds _ hm;have hlt:=(apA.1 hd).1;have qS:bI [b] w (w.putObj b (.deferred none)):=⟨rfl,rfl,rfl,by simp[World.putObj],λk _ hk=>World.putObj_heap_other (by simpa using hk)⟩;refine⟨by simp, .inl ⟨b,_,rfl,run_takeDeferred hd,?_⟩⟩;refine ih (a:=⟨t,D0⟩) e ⟨tm,by rw[hC];exact k2,⟨si.s.store q4 hm (by simp[aO.eW]) qS,si.n⟩,fs,fc,kc,⟨HS.eraseIdx kk,k3,?_⟩,kn,fr⟩ k;have q5:=q4.set (k:=0) (r':= .obj b (.deferred none)) rfl qS.size (λj hj hne=>qS.block j hj hne) (World.putObj_heap_same hlt) si.s.size (λb' hb'=>by
     have e:b'=b:=by simpa[aO.eW]using hb'
     subst e;exact⟨.inl (by simp[aO.eW]),by rw[World.putObj];simpa using hlt⟩)
    exact q5.sub (List.sublist_cons_self _ _)
   ·cases e
  ·cases e
theorem aiA{S S2:AS G}(h:aiB S=some S2):∃O2,abG S.D S.O=some O2/\S2=⟨S.F,O2,S.nx,[]⟩:=by
 unfold aiB at h;split at h
 ·rename_i O hO;cases h;exact⟨O,hO,rfl⟩
 ·cases h
def exU(J:World->Prop)(ρ:bV):Ex G->FrameMode->Prop
 | .pB, .returning=>True
 | .ret, .returning=>True
 | .z9 v, .panicking ch=>∃u,ch=[{v:=u,recovered:=false}]/\rv J ρ v u
 |_,_ =>False
theorem V4{J:World->Prop}{ρ:bV}{e:Ex G}{uw:FrameMode}(h:exU J ρ e uw)(he:exE e=true):uw= .returning:=by
 cases e<;>first|cases he|skip
 all_goals (cases uw<;>first|rfl|exact h.elim)
theorem aeh{fn:Func}{R:Ending->World->Prop}{c:Cx}{ρ:bV}{J:World->Prop}{HK X:List aO}{F:Fr G}{nx:Nat}{C:CC G}{N:Nat}{ek:Nat->List (Ek P G)}(hC:dfC C=[]):∀(D:List (AV G)) {e e':Ex G} {O O2:Os G} {a:Act} {w:World} {uw:FrameMode},sX ek e D O=some (e',O2)->
  Rl c N ρ J HK X C ⟨F,O,nx,D⟩ a w->exU J ρ e uw->(∀w2 uw2,exU J ρ e' uw2->Rl c N ρ J HK X C ⟨F,O2,nx,[]⟩ {a with defers:=[]} w2->LeavesInM (FA none) 0 P fn a.tmps R [] uw2 w2)->LeavesInM (FA none) 0 P fn a.tmps R a.defers uw w:=by
 intro D
 induction D with
 |nil=>
  intro e e' O O2 a w uw h hr hu k;have df:=hr.df;rw[hC]at df;have h:some (e,O)=some (e',O2):=by unfold sX at h;exact h
  cases h;obtain⟨t,d⟩:=a;cases df;exact k w uw hu hr
 |cons v D ih=>
  intro e e' O O2 a w uw h hr hu k;cases v<;>first|(simp[sX]at h;done)|skip
  case ptr r p=>
   cases p with
   |cons _ _ =>simp[sX]at h
   |nil=>
   simp only[sX]at h;split at h
   ·rename_i ho he
    have huw:=V4 hu he;subst huw;obtain⟨tm,df,si,fs,fc,kc,⟨HS,q1,q3⟩,kn,fr⟩:=hr;rw[hC]at df;obtain⟨t,d⟩:=a;cases df with
    |cons hd k2=>
    rename_i D0;obtain⟨_,b,hb,rfl⟩:=hd;obtain⟨kk,x,k1,⟨n,o,m1,rfl,m3⟩,k3⟩:=q1.del ho;rw[hb]at m1;have m1:b=n:=by cases m1;rfl
    subst m1;have m3:o= .deferred (some []):=m3;subst m3;have q4:=q3.qt (xB k1 _);have hm:aO.obj b (.deferred (some []))∈(aO.obj b (.deferred (some []))::(HS.eraseIdx kk++(HK++X))):=List.mem_cons_self;have hd:w.heap[b]? =some (.deferred (some [])):=q4.holds _ hm;have hlt:=(apA.1 hd).1;have qS:bI [b] w (w.putObj b (.deferred none)):=⟨rfl,rfl,rfl,by simp[World.putObj],λk _ hk=>World.putObj_heap_other (by simpa using hk)⟩;refine⟨by simp, .inl ⟨b,_,rfl,run_takeDeferred hd,?_⟩⟩;refine ih (a:=⟨t,D0⟩) h ⟨tm,by rw[hC];exact k2,⟨si.s.store q4 hm (by simp[aO.eW]) qS,si.n⟩,fs,fc,kc,⟨HS.eraseIdx kk,k3,?_⟩,kn,fr⟩ hu k;have q5:=q4.set (k:=0) (r':= .obj b (.deferred none)) rfl qS.size (λj hj hne=>qS.block j hj hne) (World.putObj_heap_same hlt) si.s.size (λb' hb'=>by
     have e:b'=b:=by simpa[aO.eW]using hb'
     subst e;exact⟨.inl (by simp[aO.eW]),by rw[World.putObj];simpa using hlt⟩)
    exact q5.sub (List.sublist_cons_self _ _)
   ·cases h
  case cons vf l=>
   cases vf<;>first|(simp[sX]at h;done)|skip
   rename_i ff fa cc;cases ff<;>first|(simp[sX]at h;done)|skip
   rename_i kf;cases fa<;>first|(simp[sX]at h;done)|skip
   simp only[sX]at h;split at h
   ·rename_i q qs r hek alS
    split at h
    ·rename_i T' c0 ho
     cases hb:(Nat.beq q.k kf&&(uU l&&uU cc))with
     |false=>rw[hb]at h;cases h
     |true=>
      rw[hb]at h;simp only[apv]at hb;obtain⟨hb1,hl1,Yq⟩:=hb;obtain rfl:=apu hb1;simp only[cond_true]at h;obtain⟨tm,df,si,fs,fc,kc,⟨HS,q1,q3⟩,kn,fr⟩:=hr;rw[hC]at df;obtain⟨t,d⟩:=a;cases df with
      |cons hd k2=>
      rename_i D0;obtain⟨f1,c1,l1,hf1,hc1,hl3,rfl⟩:=hd;have hf1:f1=[]:=hf1;subst hf1;have hv:=sY hl1 hl3 hc1;rw[alS]at hv;obtain⟨u,us,e1,hpu,aa3⟩:=hv;have aa3:us=[]:=aa3;subst aa3;obtain⟨⟨b0,o0,hpb,e2⟩,_⟩:=hpu;obtain⟨kk,x,k1,⟨b,u0,m1,rfl,m3⟩,k3⟩:=q1.set ho;have hub:u=gk b 0:=by
       have e2:=(List.cons.inj e2).1;rcases hpb with hpb|⟨_,_,_,_,_,_,_,hp,_⟩
       ·rw[m1]at hpb
        cases hpb;rw[e2];rfl
       ·cases hp
      subst hub;have hent:∀w,(invoke (Deferred.target {target:= .fn (.func q.k) c1.toArray,args:=([]++l1).toArray}) (Deferred.args {target:= .fn (.func q.k) c1.toArray,args:=([]++l1).toArray})).run P w= .ok (.enter q.k #[gk b 0]) w:=λw=>by
       have:([]++l1).toArray++c1.toArray= #[gk b 0]:=by rw[show(#[gk b 0]:Array Value)=[gk b 0].toArray from rfl, ← e1];simp
       simp only[invoke,this];exact q.ok.enter _ _
      have XD:aO.cells b T' u0.cells.toList∈HS++(HK++X):=apz _ (List.mem_of_getElem? k1);have hcell:w.heap[b]? =some (.cells u0.cells.toList.toArray T' (0,0)):=q3.holds _ XD;have ret:∀{e2:Ex G},sX ek e2 D O=some (e',O2)->exU J ρ e2 .returning->LeavesInM (FA none) 0 P fn t R ({target:= .fn (.func q.k) c1.toArray,args:=([]++l1).toArray}::D0) .returning w:=λ{e2} h2 hu2=>by refine⟨by simp, .inr ⟨by simp,_,_,q.k, #[gk b 0],rfl,hent w,λ_ _ =>trivial,?_⟩⟩;refine(q.ok.ret b w).mono λen u' w'=>?_;rintro⟨⟨v,rfl⟩,rfl,hs⟩;exact ih (a:=⟨t,D0⟩) h2 ⟨tm,by rw[hC];exact k2,si.ext hs,fs,fc,kc,⟨HS,q1,q3.ext hs⟩,kn,fr⟩ hu2 k
      split at h
      ·obtain rfl:=V4 hu rfl;exact ret h hu
      ·obtain rfl:=V4 hu rfl;exact ret h hu
      ·rename_i v
       split at h
       ·rename_i T x hpn
        cases hc:(Nat.beq q.T T&&isN c0.ncl q.n)with
        |false=>rw[hc]at h;cases h
        |true=>
         rw[hc]at h;simp only[apv]at hc;obtain⟨hc1,hc2⟩:=hc;obtain rfl:=apu hc1;simp only[cond_true]at h;have hlen:u0.cells.toList.length=q.n:=by
          cases hm:c0.ncl with
          |none=>rw[hm]at hc2;cases hc2
          |some m=>rw[hm]at hc2;obtain⟨u1,e3,h4,_⟩:=TJ hm m3;cases e3;rw[Array.length_toList,h4];exact apu hc2
         cases uw<;>first|exact hu.elim|skip
         rename_i ch;obtain⟨up,rfl,Qj⟩:=hu;have Qj:up= .iface q.T (.int .i64 x):=by
          unfold akG at hpn;split at hpn
          ·cases hpn
           obtain⟨w1,e3,h4⟩:=Qj;cases e3;have h4:[w1]=[.int .i64 x]:=h4;cases h4;rfl
          ·cases hpn
           obtain⟨w1,e3,h4⟩:=Qj;cases e3;have h4:[w1]=[.int .i64 x]:=h4;cases h4;rfl
          ·cases hpn
         subst Qj;refine⟨by simp, .inr ⟨by simp,_,_,q.k, #[gk b 0],rfl,hent w,λ_ _ =>trivial,?_⟩⟩;refine(q.ok.z9 b T' _ x w hlen hcell).mono λen u' w'=>?_;rintro⟨⟨v,rfl⟩,hu,hsi,hb'⟩;obtain⟨u2,g1,g2⟩:=q.hv J ρ x;show LeavesInM (FA none) 0 P fn t R D0 (settle u') w';rw[hu];refine ih (e:= .ret) (a:=⟨t,D0⟩) h ⟨tm,by rw[hC];exact k2,⟨si.s.store q3 XD (by simp[aO.eW]) hsi,si.n⟩,fs,fc,kc,⟨HS.set kk (.cells b T' u2.cells.toList),k3 _ _ ⟨b,u2,m1,rfl,g1⟩,?_⟩,kn,fr⟩ trivial k;have q5:=q3.set (k:=kk) (r':= .cells b T' u2.cells.toList) (Aq k1) hsi.size (λj hj hn=>hsi.block j hj (by simpa[aO.eW]using hn)) (by rw[g2];exact hb') si.s.size (λb' MD=>by
          have e2:b'=b:=by simpa[aO.eW]using MD
          subst e2;exact⟨.inl (by simp[aO.eW]),Nat.lt_of_lt_of_le (apA.1 hcell).1 hsi.size⟩)
         have hkl:kk<HS.length:=(List.getElem?_eq_some_iff.1 k1).1;rwa[List.set_append_left _ _ hkl]at q5
       ·cases h
      ·cases h
    ·cases h
   ·cases h
theorem XT{ek:Nat->List (Ek P G)}{i:Nat}{D:List (AV G)}{O O2:Os G}{e2:Ex G}(h:sX ek (.exit i) D O=some (e2,O2)):e2= .exit i:=by
 cases D with
 |nil=>
  have h:some ((.exit i:Ex G),O)=some (e2,O2):=by unfold sX at h;exact h
  cases h;rfl
 |cons v D=>
  exfalso;cases v<;>first|(simp[sX]at h;done)|skip
  case ptr r p=>
   cases p with
   |cons _ _ =>simp[sX]at h
   |nil=>simp only[sX,exE]at h;split at h<;>first|cases h|(rename_i he;cases he)
  case cons vf l=>
   cases vf<;>first|(simp[sX]at h;done)|skip
   rename_i ff fa cc;cases ff<;>first|(simp[sX]at h;done)|skip
   rename_i kf;cases fa<;>first|(simp[sX]at h;done)|skip
   simp only[sX]at h;split at h
   ·rename_i q qs r hek alS
    split at h
    ·cases hb:(Nat.beq q.k kf&&(uU l&&uU cc))with
     |false=>rw[hb]at h;cases h
     |true=>rw[hb]at h;cases h
    ·cases h
   ·cases h
theorem L5{tt:TT P G}{c:Cx}{ρ:bV}{J:World->Prop}{HK X:List aO}{S S1 S2:AS G}{ek:Nat->List (Ek P G)}{e2:Ex G}{O2:Os G}{a:Act}{w:World}{k:Nat}{fi:FI}{apr:AV G}{vs:List Value}{e1:Ex G}(hr:Rl c N ρ J HK X C S a w)(Qm:LH P k=some fi)(hl:uU apr=true)(hn:HY apr<=fi.N)(hv:rl J ρ apr vs)
  (hU:US P fi.N [⟨[],zk C,[]⟩] (.code fi.code) ⟨Cp 0 apr,S.O,S.nx,[]⟩ S1 e1)(hX:sX ek e1 S1.D S1.O=some (e2,O2))(hS2:S2=⟨S1.F,O2,S1.nx,[]⟩)(he:(∃v,e2= .z9 v)\/((e2= .pB\/e2= .ret)/\∃v,JL tt [⟨[],zk C,[]⟩] S2 fi.JM=some v)):
  Calls P k vs.toArray w λen w'=>∃(ρ':bV) (J':World->Prop) (Y:List aO),ρ.to ρ' S.nx/\(∀w,J' w->J w)/\Rl c N ρ' J' HK (Y++X) C {S with O:=S2.O,nx:=S2.nx} a w'/\
   ((∃v u,e2= .z9 v/\en= .panicked [{v:=u,recovered:=false}]/\rv J' ρ' v u)\/((e2= .pB\/e2= .ret)/\∃v u,JL tt [⟨[],zk C,[]⟩] S2 fi.JM=some v/\en= .returned u/\rv J' ρ' v u)):=by
 obtain⟨fn,f1,f2,f3,f4,f5⟩:=abo Qm;obtain⟨HS,q1,q3⟩:=hr.hp;have hlen:=VD hl hv;refine(callsIn_wide (n:=0)).1 (callsIn_of_wp_marks (F:=Fence.wide) f1 f2 trivial ?_);have hsz:(vs.toArray++Array.replicate (fn.ntmps-vs.toArray.size) undef).size=fi.N:=by simp;omega
 refine hU ⟨none,w,cy (HS++(HK++X))⟩ ρ J HK X _ w _ ⟨hsz, .nil,⟨bI.refl _ _,λ_ =>rfl⟩,λd x e=>?_,λy hy=>?_,λr o e=>?_,⟨HS,q1,?_⟩,hr.kn,hr.fr⟩ ?_
 ·obtain⟨u,_,k2,k3⟩:=VW hv e
  refine⟨u,?_,U5 k3 _⟩;rw[Nat.sub_zero]at k2;have hlt:=(List.getElem?_eq_some_iff.1 k2).1;rw[Array.getElem?_append_left (by simpa using hlt)];simpa using k2
 ·simp at hy
  subst hy
  exactλd v e=>by cases e
 ·have e:gw (zk C++[]) r=some o:=e
  rw[List.append_nil]at e;exact hr.kc r o e
 ·exact⟨q3.holds,λr hm b hb=>⟨.inl (bO.2 ⟨r,hm,hb⟩),(q3.own r hm b hb).2⟩,q3.apart⟩
 ·intro ρ' J' Y a' w' me k1 k2 k3 k4
  have hle:=k1.le hr.fr;have af1:∀w',Rl ⟨none,w,cy (HS++(HK++X))⟩ fi.N ρ' J' HK (Y++X) [⟨[],zk C,[]⟩] S2 {a' with defers:=[]} w'->Rl c N ρ' J' HK (Y++X) C {S with O:=S2.O,nx:=S2.nx} a w':=λw' k4=>by obtain⟨HS1,p1,p3⟩:=k4.hp;refine⟨hr.tm,hr.df.up k2 hle,⟨hr.si.s.trans k4.si.s λb hb=>?_,hr.si.n⟩,hr.fs.up k2 hle,hr.fc.up k2 hle,hr.Yp k2 hle,⟨HS1,p1,VL q3 hr.si.size p3⟩,k4.kn,k4.fr⟩;obtain⟨q,hq,hqb⟩:=bO.1 hb;exact(q3.own q hq b hqb).1
  subst hS2;have fin:∀(uw:FrameMode),exU J' ρ' e1 uw->LeavesInM (FA none) 0 P fn a'.tmps (λen w'=>∃(ρ':bV) (J':World->Prop) (Y:List aO),ρ.to ρ' S.nx/\(∀w,J' w->J w)/\Rl c N ρ' J' HK (Y++X) C {S with O:=O2,nx:=S1.nx} a w'/\
    ((∃v u,e2= .z9 v/\en= .panicked [{v:=u,recovered:=false}]/\rv J' ρ' v u)\/((e2= .pB\/e2= .ret)/\∃v u,JL tt [⟨[],zk C,[]⟩] ⟨S1.F,O2,S1.nx,[]⟩ fi.JM=some v/\en= .returned u/\rv J' ρ' v u))) a'.defers uw w':=λuw hu=>by
   refine aeh rfl S1.D hX k4 hu λw2 uw2 hu2 h2=>?_;rcases he with⟨v,rfl⟩|⟨he,v,hres⟩
   ·cases uw2<;>first|exact hu2.elim|skip
    obtain⟨u,rfl,hu3⟩:=hu2;exact⟨ρ',J',Y,k1,k2,af1 w2 h2, .inl ⟨v,u,rfl,rfl,hu3⟩⟩
   ·have:uw2= .returning:=by rcases he with rfl|rfl<;>exact V4 hu2 rfl
    subst this;obtain⟨u,r1,r2⟩:=Vb (fn:=fn) h2 f4 hres;exact⟨u,r1,ρ',J',Y,k1,k2,af1 w2 h2, .inr ⟨he,v,u,hres,rfl,r2⟩⟩
  cases e1 with
  |pB=>rw[po k3];exact fin _ trivial
  |ret=>rw[Ku k3];exact fin _ trivial
  |z9 v=>obtain⟨u,rfl,hu⟩:=V5 k3;exact fin _ ⟨u,rfl,hu⟩
  |exit i=>have:=XT hX;subst this;rcases he with⟨v,h⟩|⟨h|h,_⟩<;>cases h
theorem xK{a:Act}{w:World}{k:Nat}{f:Operand}{args:List Operand}{ats:Array TypeId}{fs cs us:List Value}{d:Option Tmp}{ty:TypeId}{ps:String}{af:Array Edge}{g:Option (Nat×Bool)}(hfn:∃fn,P.funcs[k]? =some fn/\fn.body.isSome=true/\(fn.name== "runtime.NumGoroutine")=false)(hf:a.eval f= .func (.func k) fs.toArray cs.toArray)(ha:args.map a.eval=us):
  (execOp a.eval ⟨d, .call ⟨.value f,args.toArray,ats⟩,ty,ps,af,g⟩).run P w= .ok (.enter k (fs++(us++cs)).toArray) w:=by
 obtain⟨fn,f1,f2,f5⟩:=hfn;have e3:fs.toArray++(args.toArray.map a.eval)++cs.toArray=(fs++(us++cs)).toArray:=by rw[← ha];simp
 have h1:fn.name≠ "runtime.NumGoroutine" :=by simpa using f5
 obtain⟨code,f2⟩:=Option.isSome_iff_exists.1 f2;simp only[execOp,resolve,hf,Deferred.ofValue,Sem.run_bind,Sem.run_pure,Result.andThen_ok,invoke,e3];simp[callFunc,f1,h1,f2,Go.mark]
theorem Ib{k:Nat}{fi:FI}(h:LH P k=some fi):∃fn,P.funcs[k]? =some fn/\fn.body.isSome=true/\(fn.name== "runtime.NumGoroutine")=false:=by obtain⟨fn,f1,f2,_,_,f5⟩:=abo h;exact⟨fn,f1,by rw[f2];rfl,f5⟩
theorem Av{J:World->Prop}{ρ:bV}{k:Fn}{x y:AV G}{u:Value}(h:rv J ρ (.fn k x y) u):∃fs cs:List Value,u= .func k fs.toArray cs.toArray/\rl J ρ x fs/\rl J ρ y cs:=by obtain⟨fs,cs,e,h1,h2⟩:=h;cases e;exact⟨fs,cs,rfl,h1,h2⟩
theorem Kr:∀{a b:AV G},uU a=true->uU b=true->uU (r8 a b)=true:=by
 intro a
 induction a with
 |cons x y _ ih=>intro b h1 h2;exact ih h1 h2
 |nil=>intro b _ h2;exact h2
 |_ =>intro b h1;cases h1
theorem U2{tt:TT P G}{S S1:AS G}{ek:Nat->List (Ek P G)}{e2:Ex G}{O2:Os G}{f:Operand}{args:Array Operand}{ats:Array TypeId}{k:Nat}{fst l cap v:AV G}{fi:FI}{e1:Ex G}{d:Option Tmp}{ty:TypeId}{ps:String}{af:Array Edge}{g:Option (Nat×Bool)}
  (hf:mR C S [] f=some (.fn (.func k) fst cap))(ha:Ug (mR C S []) args.toList=some l)(Qm:LH P k=some fi)(h1:uU fst=true)(h2:uU l=true)(h3:uU cap=true)(hn:HY (r8 fst (r8 l cap))<=fi.N)
  (hU:US P fi.N [⟨[],zk C,[]⟩] (.code fi.code) ⟨Cp 0 (r8 fst (r8 l cap)),S.O,S.nx,[]⟩ S1 e1)(hX:sX ek e1 S1.D S1.O=some (e2,O2))(he:e2= .pB\/e2= .ret)(hres:JL tt [⟨[],zk C,[]⟩] ⟨S1.F,O2,S1.nx,[]⟩ fi.JM=some v):
  SK P ⟨d, .call ⟨.value f,args,ats⟩,ty,ps,af,g⟩ C S {S with O:=O2,nx:=S1.nx} v:=by
 intro c N ρ J HK X a w next Q hr hk
 have hE:=gB hr (ch:=[]) (by simp);obtain⟨fs,cs,e2,r1,r3⟩:=Av (hE.ok _ _ hf);obtain⟨r2,_⟩:=AA hE ha;have hv:=sY h1 r1 (sY h2 r2 r3);have hent:=xK (P:=P) (w:=w) (d:=d) (ty:=ty) (ps:=ps) (af:=af) (g:=g) (ats:=ats) (Ib Qm) e2 (rfl:args.toList.map a.eval=_);have hl:uU (r8 fst (r8 l cap))=true:=Kr h1 (Kr h2 h3);refine⟨λ_ _ =>trivial,?_⟩;rw[Oper.semAt_eq _ _ _ (by simp)];rw[show args.toList.toArray=args from Array.toArray_toList]at hent;rw[hent];refine⟨λh=>by simp at h,oC c.ro ?_⟩;have zv:=L5 (tt:=tt) hr Qm hl hn hv hU hX rfl (.inr ⟨he,v,hres⟩);intro cs';obtain⟨en,w',fr,⟨ρ',J',Y,k1,k2,k3,k4⟩,rest⟩:=zv cs';refine⟨en,w',fr,?_,rest⟩;rcases k4 with⟨v',u,q1,_⟩|⟨_,v',u,q1,rfl,q3⟩
 ·rcases he with he|he<;>rw[he]at q1<;>cases q1
 ·rw[hres]at q1
  cases q1;exact hk ρ' J' Y w' u k1 k2 q3 k3
theorem YZ{tt:TT P G}{all:Array Oper}{r:List Oper}{S S1:AS G}{ek:Nat->List (Ek P G)}{e1:Ex G}{O2:Os G}{f:Operand}{args:Array Operand}{ats:Array TypeId}{k:Nat}{fst l cap v:AV G}{fi:FI}{d:Option Tmp}{ty:TypeId}{ps:String}{af:Array Edge}{g:Option (Nat×Bool)}
  (hw:SF N all C S ⟨d, .call ⟨.value f,args,ats⟩,ty,ps,af,g⟩)(hf:mR C S [] f=some (.fn (.func k) fst cap))(ha:Ug (mR C S []) args.toList=some l)(Qm:LH P k=some fi)(h1:uU fst=true)(h2:uU l=true)(h3:uU cap=true)(hn:HY (r8 fst (r8 l cap))<=fi.N)
  (hU:US P fi.N [⟨[],zk C,[]⟩] (.code fi.code) ⟨Cp 0 (r8 fst (r8 l cap)),S.O,S.nx,[]⟩ S1 e1)(hX:sX ek e1 S1.D S1.O=some (.z9 v,O2)):
  US P N C (.ops all (⟨d, .call ⟨.value f,args,ats⟩,ty,ps,af,g⟩::r)) S {S with O:=O2,nx:=S1.nx} (.z9 v):=by
 intro c ρ J HK X a w Q hr hq;refine wpListIn_step λK hK=>?_;rw[aps (hw c ρ J HK X a w hr)];have hE:=gB hr (ch:=[]) (by simp);obtain⟨fs,cs,e2,r1,r3⟩:=Av (hE.ok _ _ hf);obtain⟨r2,_⟩:=AA hE ha;have hv:=sY h1 r1 (sY h2 r2 r3);have hent:=xK (P:=P) (w:=w) (d:=d) (ty:=ty) (ps:=ps) (af:=af) (g:=g) (ats:=ats) (Ib Qm) e2 (rfl:args.toList.map a.eval=_);have hl:uU (r8 fst (r8 l cap))=true:=Kr h1 (Kr h2 h3);refine⟨λ_ _ =>trivial,?_⟩;rw[Oper.semAt_eq _ _ _ (by simp)];rw[show args.toList.toArray=args from Array.toArray_toList]at hent;rw[hent];refine⟨λh=>by simp at h,oC c.ro ?_⟩;have zv:=L5 (tt:=tt) hr Qm hl hn hv hU hX rfl (.inl ⟨v,rfl⟩);intro cs';obtain⟨en,w',fr,⟨ρ',J',Y,k1,k2,k3,k4⟩,rest⟩:=zv cs';refine⟨en,w',fr,?_,rest⟩;rcases k4 with⟨v',u,q1,rfl,q3⟩|⟨q1,_⟩
 ·cases q1
  exact hq ρ' J' Y a w' _ k1 k2 ⟨u,rfl,q3⟩ k3
 ·rcases q1 with q1|q1<;>cases q1
theorem YV{all:Array Oper}{r:List Oper}{S S3:AS G}{f:Operand}{args:Array Operand}{ats:Array TypeId}{k:Nat}{x y l:AV G}{e:Ex G}{ty:TypeId}{ps:String}{af:Array Edge}{g:Option (Nat×Bool)}(hw:SF N all C S ⟨none, .defer ⟨.value f,args,ats⟩,ty,ps,af,g⟩)(hf:mR C S [] f=some (.fn (.func k) x y))(ha:Ug (mR C S []) args.toList=some l)(hro:Lj (zk C)=true)
  (h2:US P N C (.ops all r) {S with D:= .cons (.fn (.func k) x y) l::S.D} S3 e):US P N C (.ops all (⟨none, .defer ⟨.value f,args,ats⟩,ty,ps,af,g⟩::r)) S S3 e:=by
 intro c ρ J HK X a w Q hr hq;refine wpListIn_step λK hK=>?_;rw[aps (hw c ρ J HK X a w hr)];have hE:=gB hr (ch:=[]) (by simp);obtain⟨fs,cs,e2,r1,r3⟩:=Av (hE.ok _ _ hf);obtain⟨r2,_⟩:=AA hE ha;refine⟨λ_ _ =>trivial,?_⟩;have e0:(FA c.ro).round=none:=by rw[hr.si.n hro]
 rw[e0,Oper.semAt_none];have hrun:(execOp a.eval ⟨none, .defer ⟨.value f,args,ats⟩,ty,ps,af,g⟩).run P w= .ok (.defer {target:= .fn (.func k) cs.toArray,args:=(fs++args.toList.map a.eval).toArray}) w:=by simp[execOp,resolve,e2,Deferred.ofValue]
 rw[hrun];exact hK _ _ (h2 c ρ J HK X {a with defers:=_ ::a.defers} w Q ⟨hr.tm, .cons ⟨fs,cs,_,r1,r3,r2,rfl⟩ hr.df,hr.si,hr.fs,hr.fc,hr.kc,hr.hp,hr.kn,hr.fr⟩ hq)
theorem YU{all:Array Oper}{r:List Oper}{S:AS G}{x:Operand}{t:Nat}{v:AV G}{d:Option Tmp}{ty:TypeId}{ps:String}{af:Array Edge}{g:Option (Nat×Bool)}(hw:SF N all C S ⟨d, .panic x,ty,ps,af,g⟩)(hx:mR C S [] x=some (.om t v)):US P N C (.ops all (⟨d, .panic x,ty,ps,af,g⟩::r)) S S (.z9 (.om t v)):=by
 intro c ρ J HK X a w Q hr hq;refine wpListIn_step λK hK=>?_;rw[aps (hw c ρ J HK X a w hr)];have hE:=gB hr (ch:=[]) (by simp);obtain⟨u,e,h1⟩:=hE.ok _ _ hx;have e:=(List.cons.inj e).1;refine⟨λ_ _ =>trivial,?_⟩;rw[Oper.semAt_eq _ _ _ (by simp)];have:(execOp a.eval ⟨d, .panic x,ty,ps,af,g⟩).run P w= .halt (.panic (.iface t u)) w:=by simp[execOp,e,Instr.panic]
 rw[this];exact hq.here hr ⟨_,rfl,u,rfl,h1⟩
theorem abk{s:Sh}{v:AV G}{g g':GS G}{x:HL G (bz s)}(h:qU s v g=some (x,g')):g.nx<=g'.nx:=by
 induction s generalizing v g g' with
 |v t=>obtain⟨y,_,_,rfl⟩:=abj h;exact Nat.le_refl _
 |unk n=>rw[(PD h).1];exact Nat.le_refl _
 |row e sz t=>
  cases v<;>unfold qU at h<;>(try dsimp only at h)<;>try (cases h;done)
  case row r=>
   split at h
   ·rename_i e' sz' t' xs ho
    cases hb:(Nat.beq e e'&&Nat.beq sz sz')with
    |false=>rw[hb]at h;cases h
    |true=>
     rw[hb]at h;simp only[cond_true]at h;by_cases hs:t'.cW t=true
     ·rw[dif_pos hs]at h;obtain⟨_,rfl⟩:=cU h;exact Nat.le_refl _
     ·rw[dif_neg hs]at h;cases h
   ·cases h
  case pR=>
   cases hb:Nat.beq (t.L G).n sz with
   |false=>rw[hb]at h;cases h
   |true=>rw[hb]at h;obtain⟨_,rfl⟩:=cU h;exact Nat.le_succ _
 |box T s ih=>
  cases v<;>unfold qU at h<;>(try dsimp only at h)<;>try (cases h;done)
  case ptr r p=>
   cases p with
   |cons _ _ =>simp at h
   |nil=>
    simp only at h;split at h
    ·rename_i T' cc ho
     cases hb:Nat.beq T T' with
     |false=>rw[hb]at h;cases h
     |true=>rw[hb]at h;exact ih (g:=⟨g.th++[r],Gu g.O r,g.nx⟩) h
    ·cases h
 |cW i=>
  cases v<;>unfold qU at h<;>(try dsimp only at h)<;>try (cases h;done)
  case ptr r p=>
   cases p with
   |cons _ _ =>simp at h
   |nil=>
    simp only at h;split at h
    ·rename_i r' ht
     cases hb:Nat.beq r r' with
     |false=>rw[hb]at h;cases h
     |true=>rw[hb]at h;rw[(cU h).2];exact Nat.le_refl _
    ·cases h
 |fn f a c pU Gj=>
  cases v<;>unfold qU at h<;>(try dsimp only at h)<;>try (cases h;done)
  case fn f' y z=>
   cases hb:Cq f f' with
   |false=>rw[hb]at h;cases h
   |true=>
    rw[hb]at h;simp only[cond_true]at h;split at h
    ·rename_i p g1 h1
     split at h
     ·rename_i q g2 h2
      obtain⟨_,rfl⟩:=cU h;exact Nat.le_trans (pU h1) (Gj h2)
     ·cases h
    ·cases h
 |cons a b pU uV=>
  cases v<;>unfold qU at h<;>(try dsimp only at h)<;>try (cases h;done)
  case cons y z=>
   split at h
   ·rename_i p g1 h1
    split at h
    ·rename_i q g2 h2
     obtain⟨_,rfl⟩:=cU h;exact Nat.le_trans (pU h1) (uV h2)
    ·cases h
   ·cases h
 |part w a b pU uV=>
  cases v<;>unfold qU at h<;>(try dsimp only at h)<;>try (cases h;done)
  case part w' y z=>
   cases hb:Nat.beq w w' with
   |false=>rw[hb]at h;cases h
   |true=>
    rw[hb]at h;simp only[cond_true]at h;split at h
    ·rename_i p g1 h1
     split at h
     ·rename_i q g2 h2
      obtain⟨_,rfl⟩:=cU h;exact Nat.le_trans (pU h1) (uV h2)
     ·cases h
    ·cases h
 |sE a ih=>
  cases v<;>unfold qU at h<;>(try dsimp only at h)<;>try (cases h;done)
  exact ih h
 |st a ih=>
  cases v<;>unfold qU at h<;>(try dsimp only at h)<;>try (cases h;done)
  exact ih h
 |om t a ih=>
  cases v<;>unfold qU at h<;>(try dsimp only at h)<;>try (cases h;done)
  case om t' y=>
   cases hb:Nat.beq t t' with
   |false=>rw[hb]at h;cases h
   |true=>rw[hb]at h;exact ih (g:=g) h
 |_ =>
  cases v<;>unfold qU at h<;>(try dsimp only at h)<;>try (cases h;done)
  rw[(cU h).2];exact Nat.le_refl _
theorem FR{cf:Cf}{S S3:AS G}{e:Ex G}(b:List Nat)(h:US P N C cf (Co b S) S3 e):US P N C cf S S3 e:=by intro c ρ J HK X a w Q hr hq;obtain⟨J',Y,m,h1⟩:=hr.Co b;refine h c ρ J' HK (Y++X) a w Q h1 ?_;rw[Au];exact hq.fA (bV.gU _ _) m (Nat.le_refl _)
theorem Qv{cf:Cf}{S S3:AS G}{e:Ex G}(l:List (Nat×Sh))(h:US P N C cf (F3 l S) S3 e):US P N C cf S S3 e:=by intro c ρ J HK X a w Q hr hq;obtain⟨ρ',m1,m2,h1⟩:=hr.F3 l;exact h c ρ' J HK X a w Q h1 (hq.fA (Y:=[]) m1 (λ_ h=>h) m2)
theorem QI:∀(l:List (Nat×Sh)) (S:AS G),S.nx<=(F3 l S).nx:=by
 have hw:∀(s:Sh) (v:AV G) (nx:Nat),nx<=(Qh s v nx).2.2:=by
  intro s
  induction s with
  |row e sz t=>
   intro v nx;cases v<;>unfold Qh<;>try exact Nat.le_refl _
   cases Nat.beq (t.L G).n sz with
   |false=>exact Nat.le_refl _
   |true=>exact Nat.le_succ _
  |st a ih=>intro v nx;cases v<;>unfold Qh<;>first|exact ih _ _ |exact Nat.le_refl _
  |part w a b pU uV=>intro v nx;cases v<;>unfold Qh<;>first|exact Nat.le_trans (pU _ _) (uV _ _)|exact Nat.le_refl _
  |_ =>intro v nx;cases v<;>unfold Qh<;>exact Nat.le_refl _
 intro l
 induction l with
 |nil=>intro S;exact Nat.le_refl _
 |cons p r ih=>
  obtain⟨q,s⟩:=p;intro S;refine Nat.le_trans ?_ (ih _);unfold Tf;split
  ·exact hw _ _ _
  ·exact Nat.le_refl _
theorem afA{C:CC G}{O:Os G}{nx:Nat}{apr:AV G}{fit:(ct:Ct P G)->HI G ct.s->GS G->Option Z}{frz:List Nat->List (Nat×Sh)->Option Z}{no:Option Z}:∀{l:List (Ct P G)},wCt C O nx apr fit frz no l=some z->(∃ct x g',Ia C O nx ct.s apr=some (x,g')/\fit ct x g'=some z)\/(∃b l,frz b l=some z)\/no=some z:=by
 intro l
 induction l with
 |nil=>intro h;exact .inr (.inr h)
 |cons ct r ih=>
  intro h;simp only[wCt]at h;split at h
  ·rename_i x g' hg;exact .inl ⟨ct,x,g',hg,h⟩
  ·split at h
   ·exact ih h
   ·exact .inr (.inl ⟨_,_,h⟩)
theorem PT{c:Cx}{ρ:bV}{J:World->Prop}{HK X:List aO}{S:AS G}{a:Act}{w:World}{apr:AV G}{vs:List Value}(ct:Ct P G){x:HI G ct.s}{g':GS G}(hr:Rl c N ρ J HK X C S a w)(hv:rl J ρ apr vs)(hg:Ia C S.O S.nx ct.s apr=some (x,g')):
  S.nx<=g'.nx/\(∀y v,ct.R x y->hdA (iL (TH g'.th g'.nx ct.s.nm) ct.s.dZ y 0).1=some v->Calls P ct.s.k vs.toArray w λen w'=>∃(ρ':bV) (J':World->Prop) (Y:List aO) (u:Value),en= .returned u/\ρ.to ρ' S.nx/\(∀w,J' w->J w)/\rv J' ρ' v u/\Rl c N ρ' J' HK (Y++X) C (ctS g' ct.s.dZ ct.s.nm y S) a w')/\
  (∀y v,ct.Rp x y->hdA (iL (TH g'.th g'.nx ct.s.Z9) ct.s.mI y 0).1=some v->Calls P ct.s.k vs.toArray w λen w'=>∃(ρ':bV) (J':World->Prop) (Y:List aO) (u:Value),en= .panicked [{v:=u,recovered:=false}]/\ρ.to ρ' S.nx/\(∀w,J' w->J w)/\rv J' ρ' v u/\Rl c N ρ' J' HK (Y++X) C (ctS g' ct.s.mI ct.s.Z9 y S) a w'):=by
 obtain⟨th,ρ2,HS,HB,H',hlen,q3,k,_,hkc⟩:=aeH hr hv hg;have hp:=k.hp (HK++X) _ _ _ q3;have kv:=k.val;have kb:=k.eW;have kc:=k.SE;simp only[hlen]at kv kb kc;have hfr:(cmp ρ2 g'.th).fr (ct.s.bl x).2.2:=λr hr'=>by unfold Fs.bl at hr';unfold cmp;rw[List.getElem?_eq_none (by omega)]
 have H8:cI (cy (HB++((H'++HK)++X))) w.heap.size (HB++((H'++HK)++X)) w:=by
  have hp:cI c.bs c.w0.heap.size (HB++((H'++HK)++X)) w:=by simpa using hp
  exact⟨hp.holds,λr hm b hb=>⟨.inl (bO.2 ⟨r,hm,hb⟩),(hp.own r hm b hb).2⟩,hp.apart⟩
 obtain⟨o1,o2⟩:=ct.ok (cmp ρ2 g'.th) J HB (H'++HK) X w vs x kv kb hkc H8 hr.kn hfr;refine⟨k.nx,λy v hR hd cs=>?_,λy v hR hd cs=>?_⟩
 ·obtain⟨en,w',fr,⟨u,rfl,h⟩,rest⟩:=o1 y hR cs
  obtain⟨ρ',J',Y,m1,m2,m3,m4⟩:=Wa hr hp k hd h;exact⟨_,w',fr,⟨ρ',J',Y,u,rfl,m1,m2,m3,m4⟩,rest⟩
 ·obtain⟨en,w',fr,⟨u,rfl,h⟩,rest⟩:=o2 y hR cs
  obtain⟨ρ',J',Y,m1,m2,m3,m4⟩:=Wa hr hp k hd h;exact⟨_,w',fr,⟨ρ',J',Y,u,rfl,m1,m2,m3,m4⟩,rest⟩
theorem abm{s:Fs}{apr:AV G}{O:Os G}{nx:Nat}{x:HI G s}{g':GS G}(h:Ia C O nx s apr=some (x,g')):∃th xi,qU s.yU apr ⟨th,O,nx⟩=some (xi,g'):=by
 unfold Ia at h;split at h
 ·split at h
  ·split at h
   ·rename_i xi g1 hg
    split at h
    ·rename_i y B6 _
     revert h;generalize Nq _ B6=b;intro h;cases b with
     |false=>cases h
     |true=>obtain⟨_,rfl⟩:=cU h;exact⟨_,_,hg⟩
    ·cases h
   ·cases h
  ·cases h
 ·cases h
theorem abl{s:Fs}{apr:AV G}{O:Os G}{nx:Nat}{x:HI G s}{g':GS G}(hn:Kq true s.yU=true)(h:Ia C O nx s apr=some (x,g')):g'.O=O/\g'.nx=nx:=by obtain⟨th,xi,hg⟩:=abm h;rw[aeF hn hg];exact⟨rfl,rfl⟩
theorem aeI{s:Fs}{apr:AV G}{O:Os G}{nx:Nat}{x:HI G s}{g':GS G}(h:Ia C O nx s apr=some (x,g')):nx<=g'.nx:=by obtain⟨th,xi,hg⟩:=abm h;exact abk hg
theorem abP(ct:Ct P G):∃fn,P.funcs[ct.s.k]? =some fn/\fn.body.isSome=true/\(fn.name== "runtime.NumGoroutine")=false:=by obtain⟨f,h1,h2,h3⟩:=ct.fn;exact⟨f,h1,h2,h3⟩
section
variable {S:AS G} {f:Operand} {args:Array Operand} {ats:Array TypeId} {fst l cap v:AV G} {d:Option Tmp} {ty:TypeId} {ps:String} {af:Array Edge} {g:Option (Nat×Bool)} {ct:Ct P G} {x:HI G ct.s} {g':GS G}
theorem akn{y:HL G (bz ct.s.dZ)}(hf:mR C S [] f=some (.fn (.func ct.s.k) fst cap))(ha:Ug (mR C S []) args.toList=some l)(h1:uU fst=true)(h2:uU l=true)(hg:Ia C S.O S.nx ct.s (r8 fst (r8 l cap))=some (x,g'))(hR:ct.R x y)(hd:hdA (iL (TH g'.th g'.nx ct.s.nm) ct.s.dZ y 0).1=some v):
  SK P ⟨d, .call ⟨.value f,args,ats⟩,ty,ps,af,g⟩ C S (ctS g' ct.s.dZ ct.s.nm y S) v:=by
 intro c N ρ J HK X a w next Q hr hk
 have hE:=gB hr (ch:=[]) (by simp);obtain⟨fs,cs,e2,r1,r3⟩:=Av (hE.ok _ _ hf);obtain⟨r2,_⟩:=AA hE ha;have hv:=sY h1 r1 (sY h2 r2 r3);have hent:=xK (P:=P) (w:=w) (d:=d) (ty:=ty) (ps:=ps) (af:=af) (g:=g) (ats:=ats) (abP ct) e2 (rfl:args.toList.map a.eval=_);refine⟨λ_ _ =>trivial,?_⟩;rw[Oper.semAt_eq _ _ _ (by simp)];rw[show args.toList.toArray=args from Array.toArray_toList]at hent;rw[hent];refine⟨λh=>by simp at h,oC c.ro ?_⟩;intro cs';obtain⟨en,w',fr,⟨ρ',J',Y,u,rfl,k1,k2,k3,k4⟩,rest⟩:=(PT ct hr hv hg).2.1 y v hR hd cs';exact⟨_,w',fr,hk ρ' J' Y w' u k1 k2 k3 k4,rest⟩
theorem agF{all:Array Oper}{r:List Oper}{y:HL G (bz ct.s.mI)}(hw:SF N all C S ⟨d, .call ⟨.value f,args,ats⟩,ty,ps,af,g⟩)(hf:mR C S [] f=some (.fn (.func ct.s.k) fst cap))(ha:Ug (mR C S []) args.toList=some l)(h1:uU fst=true)(h2:uU l=true)(hg:Ia C S.O S.nx ct.s (r8 fst (r8 l cap))=some (x,g'))(hR:ct.Rp x y)(hd:hdA (iL (TH g'.th g'.nx ct.s.Z9) ct.s.mI y 0).1=some v):
  US P N C (.ops all (⟨d, .call ⟨.value f,args,ats⟩,ty,ps,af,g⟩::r)) S (ctS g' ct.s.mI ct.s.Z9 y S) (.z9 v):=by
 intro c ρ J HK X a w Q hr hq;refine wpListIn_step λK hK=>?_;rw[aps (hw c ρ J HK X a w hr)];have hE:=gB hr (ch:=[]) (by simp);obtain⟨fs,cs,e2,r1,r3⟩:=Av (hE.ok _ _ hf);obtain⟨r2,_⟩:=AA hE ha;have hv:=sY h1 r1 (sY h2 r2 r3);have hent:=xK (P:=P) (w:=w) (d:=d) (ty:=ty) (ps:=ps) (af:=af) (g:=g) (ats:=ats) (abP ct) e2 (rfl:args.toList.map a.eval=_);refine⟨λ_ _ =>trivial,?_⟩;rw[Oper.semAt_eq _ _ _ (by simp)];rw[show args.toList.toArray=args from Array.toArray_toList]at hent;rw[hent];refine⟨λh=>by simp at h,oC c.ro ?_⟩;intro cs';obtain⟨en,w',fr,⟨ρ',J',Y,u,rfl,k1,k2,k3,k4⟩,rest⟩:=(PT ct hr hv hg).2.2 y v hR hd cs';exact⟨_,w',fr,hq ρ' J' Y a w' (.panic _) k1 k2 ⟨u,rfl,k3⟩ k4,rest⟩
theorem agG{all:Array Oper}{r:List Oper}{y:HL G (bz ct.s.dZ)}{o:Oper}{S2 S3:AS G}{e:Ex G}{j dj k:Nat}{w gb:Bool}{apr:AV G}(Yu:o.guard=some (j,w))(hd:LW all j=some dj)(he:T8 C S 8 dj w=some gb)(hc:R2 C S (chain C S 8 dj w) o.op=some (k,apr))(hk:ct.s.k=k)(hg:Ia C S.O S.nx ct.s apr=some (x,g'))(hnm:ct.s.nm=[])(hn1:Kq true ct.s.yU=true)(hn2:Kq false ct.s.dZ=true)(hR:gb=true->ct.R x y)(hv:hdA (iL (λm=>m) ct.s.dZ y 0).1=some v)
  (hq:yP N C o.dst (.gd dj w v) S=some S2)(h2:US P N C (.ops all r) S2 S3 e):US P N C (.ops all (o::r)) S S3 e:=by
 intro c ρ J HK X a wd Q hr hQ;refine wpListIn_step λK hK=>?_;have hwi:=zL (a:=a) Yu hd;have hge:=VT hr 8 dj w gb he;have SB:=rj hq;by_cases hw:a.tmps[dj]? =some (.bool w)
 ·rw[aps (hwi.2 hw)]
  have hch:=RU hr 8 dj w hw;have hE:=gB hr hch;obtain⟨d,op,ty,ps,af,gg⟩:=o;unfold R2 at hc;dsimp only at hc;split at hc
  ·rename_i f args ats
   split at hc
   ·rename_i k' fst cap l hf ha
    cases hb:((uU fst&&uU l)&&uU cap)with
    |false=>rw[hb]at hc;cases hc
    |true=>
     rw[hb]at hc;obtain⟨rfl,rfl⟩:=Prod.mk.inj (Option.some.inj hc);simp only[apv]at hb;subst hk;obtain⟨fs,cs,e2,r1,r3⟩:=Av (hE.ok _ _ hf);obtain⟨r2,_⟩:=AA hE ha;have hvs:=sY hb.1.1 r1 (sY hb.1.2 r2 r3);have hent:=xK (P:=P) (w:=wd) (d:=d) (ty:=ty) (ps:=ps) (af:=af) (g:=gg) (ats:=ats) (abP ct) e2 (rfl:args.toList.map a.eval=_);refine⟨λ_ _ =>trivial,?_⟩;rw[Oper.semAt_eq _ _ _ (by simp)];rw[show args.toList.toArray=args from Array.toArray_toList]at hent;rw[hent];refine⟨λh=>by simp at h,oC c.ro ?_⟩;intro cs';obtain⟨eO,eN⟩:=abl hn1 hg;have MD:=aeY (f:=TH g'.th g'.nx ct.s.nm) hn2 y 0;obtain⟨en,w',fr,⟨ρ',J',Y,u,rfl,k1,k2,k3,k4⟩,rest⟩:=(PT ct hr hvs hg).2.1 y v (hR (hge.1 hw)) (by rw[MD.1];exact hv) cs';refine⟨_,w',fr,?_,rest⟩;have e3:ctS g' ct.s.dZ ct.s.nm y S=S:=by unfold ctS;rw[MD.2,hnm,eO,eN];rfl
     rw[e3]at k4;refine hK _ _ (h2 c ρ' J' HK (Y++X) _ w' Q (k4.put hq ⟨λ_ =>k3,λh=>absurd hw h⟩) (hQ.fA k1 k2 (by omega)))
   ·cases hc
  ·cases hc
 ·have:Region.wanted o (yielded all a.tmps)=false:=by
   cases hb:Region.wanted o (yielded all a.tmps)with
   |true=>exact absurd (hwi.1 hb) hw
   |false=>rfl
  rw[apt (by rw[this];simp)];exact⟨λ_ _ =>trivial,hK _ _ (h2 c ρ J HK X _ _ Q (hr.put hq ⟨λh=>absurd h hw,λ_ =>rfl⟩) (hQ.fA (Y:=[]) (bV.gU _ _) (λ_ h=>h) (by omega)))⟩
end
end
end Go.Rw
namespace Go.Rw
open Go Go.Bw Go.RowKit
variable {G:Sg} {P:Program} {N:Nat} {C:CC G}
theorem YO{F:Fence}{n:Nat}{o:Oper}{a:Act}{w:World}{K:Act->World->Prop}{Q:Exit->Act->World->Prop}(hh:o.wpIn F n P a w K Q):o.wpIn F n P a w (λa' w'=>K a' w'/\∃u Df,a'=({a with defers:=Df}:Act).put o.dst u) Q:=by
 have e:∀u,a.put o.dst u=({a with defers:=a.defers}:Act).put o.dst u:=λ_ =>rfl;unfold Oper.wpIn at *;refine⟨hh.1,?_⟩;have hh:=hh.2;generalize(o.semAt F.round a.eval).run P w=r at *;cases r with
 |ok x w'=>
  cases x<;>simp only[Oper.uponIn]at hh ⊢<;>
   first
    |exact⟨hh,_,_,e _⟩
    |exact⟨hh,_,_,rfl⟩
    |exact⟨hh.1,CallsIn.mono hh.2 (λe' w'' he=>by cases e'<;>first|exact⟨he,_,_,e _⟩|exact he)⟩
    |exact⟨hh.1,RowsIn.mono hh.2 (λ_ _ he=>⟨he,_,_,e _⟩)⟩
    |exact⟨hh.1,RoundIn.mono hh.2 (λe' w'' he=>by cases e'<;>first|exact⟨he,_,_,e _⟩|exact he)⟩
 |halt x w'=>cases x<;>simp only[Oper.uponIn]at hh ⊢<;>exact hh
theorem LetsOut.mono{Q Q':Exit->Act->World->Prop}(h:∀e a w,e≠ .normal->Q e a w->Q' e a w)(q:LetsOut Q):LetsOut Q':=by obtain⟨a,w,q⟩:=q;exact⟨a,w,h _ _ _ (by simp) q⟩
theorem KJ{F:Fence}{n:Nat}{o:Oper}{a:Act}{w:World}{K:Act->World->Prop}{Q Q':Exit->Act->World->Prop}(h:∀e a w,e≠ .normal->Q e a w->Q' e a w)(hh:o.wpIn F n P a w K Q):o.wpIn F n P a w K Q':=by
 unfold Oper.wpIn at *;refine⟨hh.1,?_⟩;have hh:=hh.2;generalize(o.semAt F.round a.eval).run P w=r at *;cases r with
 |ok x w'=>
  cases x<;>simp only[Oper.uponIn]at hh ⊢<;>
   first
    |exact hh
    |exact⟨hh.1,CallsIn.mono hh.2 (λe' w'' he=>by cases e'<;>first|exact h _ _ _ (by simp) he|exact LetsOut.mono h he|exact he)⟩
    |exact⟨hh.1,RoundIn.mono hh.2 (λe' w'' he=>by cases e'<;>first|exact h _ _ _ (by simp) he|exact LetsOut.mono h he|exact he)⟩
 |halt x w'=>cases x<;>simp only[Oper.uponIn]at hh ⊢<;>first|exact h _ _ _ (by simp) hh|exact LetsOut.mono h hh|exact hh
theorem aae{F:Fence}{n:Nat}{ops:Array Oper}{i:Nat}{o:Oper}{a:Act}{w:World}{K:Act->World->Prop}{Q Q1:Exit->Act->World->Prop}(ho:ops[i]? =some o)(h:wpListIn F n P ops Q1 [o] a w)
  (hk:∀a' w',Q1 .normal a' w'->(∃u Df,a'=({a with defers:=Df}:Act).put o.dst u)->K a' w')(hq:∀e a w,e≠ .normal->Q1 e a w->Q e a w):wpOpIn F n P ops Q i K a w:=by
 unfold wpOpIn;rw[ho];unfold wpListIn at h;dsimp only;split
 ·rename_i hw
  rw[aps hw]at h;exact KJ hq (Oper.wpIn_mono (λa' w' q=>hk a' w' q.1 q.2) (YO h))
 ·rename_i hw
  rw[apt hw]at h;exact⟨h.1,hk _ _ h.2 ⟨undef,a.defers,rfl⟩⟩
theorem CA(ops:Array Oper):∀k,(JZ ops k).length=k:=by
 intro k
 induction k with
 |zero=>rfl
 |succ k ih=>show(JZ ops k++[_]).length=_;simp[ih]
theorem L7(ops:Array Oper):∀{k i:Nat},i<k->(JZ ops k).getD i 0=Uy (JZ ops i) (DL ops i):=by
 intro k
 induction k with
 |zero=>intro i h;omega
 |succ k ih=>
  intro i h;show(JZ ops k++[Uy (JZ ops k) (DL ops k)]).getD i 0=_;by_cases e:i<k
  ·rw[List.getD_eq_getElem?_getD,List.getElem?_append_left (by rw[CA];exact e), ← List.getD_eq_getElem?_getD];exact ih e
  ·have:i=k:=by omega
   subst this;rw[List.getD_eq_getElem?_getD,List.getElem?_append_right (by rw[CA];exact Nat.le_refl _),CA];simp
theorem ab8{A:List Nat}{j:Nat}:∀{l:List Nat},(Uy A l).testBit j=true->∃k∈l,j=k\/(A.getD k 0).testBit j=true:=by
 intro l
 induction l with
 |nil=>intro h;simp[Uy]at h
 |cons k r ih=>
  intro h;simp only[Uy,Nat.testBit_or,Bool.or_eq_true,Nat.testBit_two_pow,decide_eq_true_eq]at h;rcases h with(h|h)|h
  ·exact⟨k,by simp, .inl h.symm⟩
  ·exact⟨k,by simp, .inr h⟩
  ·obtain⟨k',h1,h2⟩:=ih h;exact⟨k',by simp[h1],h2⟩
theorem aiX{ops:Array Oper}{l:Array Bool}(wC:∀j,dn l j->∀k∈DL ops j,dn l k):∀(m i j:Nat),qX (JZ ops m) i j=true->(∀k∈DL ops i,dn l k)->dn l j:=by
 intro m i
 induction i using Nat.strongRecOn with
 |ind i ih=>
  intro j h hi;unfold qX at h;by_cases hm:i<m
  ·rw[L7 ops hm]at h
   obtain⟨k,h1,h2⟩:=ab8 h;rcases h2 with rfl|h2
   ·exact hi _ h1
   ·by_cases hk:k<i
    ·refine ih k hk j ?_ (wC _ (hi _ h1))
     unfold qX;rw[L7 ops (Nat.lt_trans hk hm), ← L7 ops hk];exact h2
    ·rw[List.getD_eq_getElem?_getD,List.getElem?_eq_none (by rw[CA];omega)]at h2
     simp at h2
  ·rw[List.getD_eq_getElem?_getD,List.getElem?_eq_none (by rw[CA];omega)]at h
   simp at h
theorem abH:∀{l:List Oper} {i q d:Nat},(q,d)∈Cs i l↔i<=q/\∃o,l[q-i]? =some o/\o.dst=some d:=by
 intro l
 induction l with
 |nil=>intro i q d;simp[Cs]
 |cons o r ih=>
  intro i q d;have key:(q,d)∈Cs (i+1) r↔i<q/\∃o',(o::r)[q-i]? =some o'/\o'.dst=some d:=by
   rw[ih];constructor
   ·rintro⟨h1,o',h2,h3⟩
    refine⟨by omega,o',?_,h3⟩;rw[show q-i=(q-(i+1))+1 from by omega];exact h2
   ·rintro⟨h1,o',h2,h3⟩
    refine⟨by omega,o',?_,h3⟩;rw[show q-i=(q-(i+1))+1 from by omega]at h2;exact h2
  unfold Cs;split
  ·rename_i d' hd
   rw[List.mem_cons,key];constructor
   ·rintro(h|⟨h1,h2⟩)
    ·cases h;exact⟨Nat.le_refl _,o,by simp,hd⟩
    ·exact⟨by omega,h2⟩
   ·rintro⟨h1,o',h2,h3⟩
    by_cases e:q=i
    ·subst e
     rw[Nat.sub_self]at h2;cases h2;rw[hd]at h3;cases h3;exact .inl rfl
    ·exact .inr ⟨by omega,o',h2,h3⟩
  ·rename_i hd
   rw[key];constructor
   ·rintro⟨h1,h2⟩;exact⟨by omega,h2⟩
   ·rintro⟨h1,o',h2,h3⟩
    by_cases e:q=i
    ·subst e
     rw[Nat.sub_self]at h2;cases h2;rw[hd]at h3;cases h3
    ·exact⟨by omega,o',h2,h3⟩
theorem ahg{A:List Nat}{q d:Nat}:∀{l:List (Nat×Nat)},adW A q d l=true->∀i,(i,d)∈l->i<q->qX A q i=true:=by
 intro l
 induction l with
 |nil=>intro _ i h;cases h
 |cons x r ih=>
  obtain⟨j,e⟩:=x;intro h i hi hq;simp only[adW,apv,Bool.or_eq_true,Bool.not_eq_true']at h;rcases List.mem_cons.1 hi with hi|hi
  ·cases hi
   rcases h.1 with h1|h1
   ·rw[Nat.beq_refl,show Nat.blt j q=true from by rw[Nat.blt_eq];exact hq]at h1;cases h1
   ·exact h1
  ·exact ih h.2 i hi hq
theorem akH{A:List Nat}{ws:List (Nat×Nat)}:∀{l:List (Nat×Nat)},(Xm A ws l)=true->∀q d,(q,d)∈l->∀i,(i,d)∈ws->i<q->qX A q i=true:=by
 intro l
 induction l with
 |nil=>intro _ q d h;cases h
 |cons x r ih=>
  obtain⟨j,e⟩:=x;intro h q d hm i hi hq;simp only[Xm,apv]at h;rcases List.mem_cons.1 hm with hm|hm
  ·cases hm;exact ahg h.1 i hi hq
  ·exact ih h.2 q d hm i hi hq
theorem YR{A:List Nat}{i d:Nat}:∀{l:List (Nat×Nat)},EE A i d l=true->∀q,(q,d)∈l->q=i\/(q<i/\qX A i q=true)\/(i<q/\qX A q i=true):=by
 intro l
 induction l with
 |nil=>intro _ q h;cases h
 |cons x r ih=>
  obtain⟨j,e⟩:=x;intro h q hq;simp only[EE,apv,Bool.or_eq_true,Bool.not_eq_true']at h;rcases List.mem_cons.1 hq with hq|hq
  ·cases hq
   rcases h.1 with h1|h1|h1
   ·rw[Nat.beq_refl]at h1;cases h1
   ·exact .inl (apu h1)
   ·cases hb:Nat.blt j i with
    |true=>rw[hb]at h1;exact .inr (.inl ⟨by simpa[Nat.blt_eq]using hb,h1⟩)
    |false=>
     rw[hb]at h1;by_cases e:j=i
     ·exact .inl e
     ·have:¬j<i:=by rw[← Nat.blt_eq,hb];simp
      exact .inr (.inr ⟨by omega,h1⟩)
  ·exact ih h.2 q hq
theorem aiU{A:List Nat}{i d:Nat}:∀{l:List (Nat×Nat)},XZ A i d l=true->∀q,(q,d)∈l->qX A i q=true:=by
 intro l
 induction l with
 |nil=>intro _ q h;cases h
 |cons x r ih=>
  obtain⟨j,e⟩:=x;intro h q hq;simp only[XZ,apv,Bool.or_eq_true,Bool.not_eq_true']at h;rcases List.mem_cons.1 hq with hq|hq
  ·cases hq
   rcases h.1 with h1|h1
   ·rw[Nat.beq_refl]at h1;cases h1
   ·exact h1
  ·exact ih h.2 q hq
theorem akb{d:Nat}:∀{l:List (Nat×Nat)},wrD d l=false->∀q,(q,d)∉l:=by
 intro l
 induction l with
 |nil=>intro _ q h;cases h
 |cons x r ih=>
  obtain⟨j,e⟩:=x;intro h q hq;simp only[wrD,Bool.or_eq_false_iff]at h;rcases List.mem_cons.1 hq with hq|hq
  ·cases hq;have:=h.1;rw[Nat.beq_refl]at this;cases this
  ·exact ih h.2 q hq
theorem Cg:∀{l:List Nat} {d:Nat},fk l d=true↔d∈l:=by
 intro l
 induction l with
 |nil=>intro d;simp[fk]
 |cons k r ih=>
  intro d;simp only[fk,Bool.or_eq_true,List.mem_cons,ih];constructor
  ·rintro(h|h)
   ·exact .inl (apu h).symm
   ·exact .inr h
  ·rintro(rfl|h)
   ·exact .inl (Nat.beq_refl _)
   ·exact .inr h
theorem Uj:∀{a b:List Nat},Uk a b=true->∀x∈a,x∉b:=by
 intro a
 induction a with
 |nil=>intro b _ x h;cases h
 |cons k r ih=>
  intro b h x hx;simp only[Uk,apv,Bool.not_eq_true']at h;rcases List.mem_cons.1 hx with rfl|hx
  ·intro hb;rw[Cg.2 hb]at h;cases h.1
  ·exact ih h.2 x hx
theorem afL{A:List Nat}{i:Nat}{rd ac nw:List Nat}:∀{l:List Lg},okL A i rd ac nw l=true->∀y∈l,qX A i y.i=true\/((∀x∈y.a++y.o,x∉rd++ac)/\∀x∈ac++nw,x∉y.r++y.a):=by
 intro l
 induction l with
 |nil=>intro _ y h;cases h
 |cons z r ih=>
  intro h y hy;simp only[okL,apv,Bool.or_eq_true]at h;rcases List.mem_cons.1 hy with rfl|hy
  ·rcases h.1 with h1|h1
   ·exact .inl h1
   ·exact .inr ⟨Uj h1.1,Uj h1.2⟩
  ·exact ih h.2 y hy
theorem akI{A:List Nat}{i:Nat}:∀{l:List Lg},okU A i l=true->∀y∈l,qX A i y.i=true\/y.a=[]:=by
 intro l
 induction l with
 |nil=>intro _ y h;cases h
 |cons z r ih=>
  intro h y hy;simp only[okU,apv,Bool.or_eq_true]at h;rcases List.mem_cons.1 hy with rfl|hy
  ·rcases h.1 with h1|h1
   ·exact .inl h1
   ·refine .inr ?_
    split at h1
    ·assumption
    ·cases h1
  ·exact ih h.2 y hy
theorem ake{A:List Nat}{i:Nat}:∀{l:List Lg},∀y∈l,qX A i y.i=false->∀x∈y.o,x∈unN A i l:=by
 intro l
 induction l with
 |nil=>intro y h;cases h
 |cons z r ih=>
  intro y hy hb x hx;unfold unN;rcases List.mem_cons.1 hy with rfl|hy
  ·rw[hb];exact apz _ hx
  ·cases qX A i z.i with
   |true=>exact ih y hy hb x hx
   |false=>exact apy _ (ih y hy hb x hx)
theorem PG{p:Nat->Bool}:∀{O:Os G} {r:Nat},gw (dX p O) r=bif p r then gw O r else none:=by
 intro O
 induction O with
 |nil=>intro r;simp only[dX,gw];cases p r<;>rfl
 |cons q t ih=>
  obtain⟨k,v⟩:=q;intro r;simp only[dX];cases hp:p k with
  |true=>
   simp only[cond_true,gw];cases hb:Nat.beq k r with
   |true=>obtain rfl:=apu hb;rw[hp];rfl
   |false=>exact ih
  |false=>
   simp only[cond_false,gw];cases hb:Nat.beq k r with
   |true=>obtain rfl:=apu hb;rw[ih,hp];rfl
   |false=>exact ih
theorem V2{p:Nat->Bool}:∀{F:Fr G} {d:Nat},gw (nG p F) d=bif p d then gw F d else none:=by
 intro F
 induction F with
 |nil=>intro d;simp only[nG,gw];cases p d<;>rfl
 |cons q t ih=>
  obtain⟨k,v⟩:=q;intro d;simp only[nG];cases hp:p k with
  |true=>
   simp only[cond_true,gw];cases hb:Nat.beq k d with
   |true=>obtain rfl:=apu hb;rw[hp];rfl
   |false=>exact ih
  |false=>
   simp only[cond_false,gw];cases hb:Nat.beq k d with
   |true=>obtain rfl:=apu hb;rw[ih,hp];rfl
   |false=>exact ih
end Go.Rw
namespace Go.Rw
open Go Go.Bw Go.RowKit
variable {G:Sg} {P:Program} {N:Nat} {C:CC G} {ops:Array Oper} {A:List Nat} {ws:List (Nat×Nat)} {F0:Fr G} {D0:List (AV G)}
inductive Kd where
 |d|p|s
def ajv(A:List Nat)(ws:List (Nat×Nat))(o:Oper)(i nx:Nat)(pr:Fr G):Prop:=(o.dst=none/\pr=[])\/∃d v,o.dst=some d/\pr=[(d,v)]/\v.lt nx=true/\∀j w x,v= .gd j w x->XZ A i j ws=true
def lyD(F0:Fr G)(D0:List (AV G))(M:Os G)(rd ac:List Nat):Ly G:=⟨F0,dX (λq=>fk rd q&& !fk ac q) M,D0⟩
structure StD(P:Program)(N:Nat)(C:CC G)(ops:Array Oper)(A:List Nat)(ws:List (Nat×Nat))(F0:Fr G)(D0:List (AV G))(o:Oper)(i:Nat)(rd ac:List Nat)(on:Os G)(pr:Fr G)(T T':DS G):Prop where
 Yw:okL A i rd ac (nq on) T.lg=true
 lC:BA T.nx (lyD F0 D0 T.M rd ac::C)=true
 lF:ltF T.nx (nG (λd=>EE A i d ws) T.F)=true
 lO:Ah T.nx (dX (fk ac) T.M)=true
 lN:Ah T'.nx on=true
 run:∃S1,US P N (lyD F0 D0 T.M rd ac::C) (.ops ops [o]) ⟨nG (λd=>EE A i d ws) T.F,dX (fk ac) T.M,T.nx,[]⟩ S1 .pB/\S1.D=[]/\S1.O=on/\T.nx<=S1.nx/\T'.nx=S1.nx/\∀d v,(d,v)∈pr->gw S1.F d=some v
 pk:ajv A ws o i T'.nx pr
 F':T'.F=pr++T.F
 M':T'.M=on++dX (λq=> !fk ac q) T.M
 lg':T'.lg=⟨i,rd,ac,nq on⟩::T.lg
structure StP(P:Program)(N:Nat)(C:CC G)(ops:Array Oper)(A:List Nat)(ws:List (Nat×Nat))(F0:Fr G)(D0:List (AV G))(o:Oper)(i:Nat)(rd ac:List Nat)(v:AV G)(T:DS G)(S':AS G):Prop where
 Yw:okL A i rd ac [] T.lg=true
 chu:okU A i T.lg=true
 lC:BA T.nx (lyD F0 D0 T.M rd ac::C)=true
 lF:ltF T.nx (nG (λd=>EE A i d ws) T.F)=true
 lO:Ah T.nx (dX (fk ac) T.M)=true
 lM:Ah T.nx T.M=true
 run:∃S1,US P N (lyD F0 D0 T.M rd ac::C) (.ops ops [o]) ⟨nG (λd=>EE A i d ws) T.F,dX (fk ac) T.M,T.nx,[]⟩ S1 (.z9 v)/\S1.D=[]/\T.nx<=S1.nx/\
  S'=⟨F0,S1.O++dX (λq=> !fk ac q) (dX (λq=> !fk (unN A i T.lg) q) T.M),S1.nx,D0⟩
structure Tc(G:Sg) where
 T:Nat->DS G
 kd:Nat->Kd
 rd:Nat->List Nat
 ac:Nat->List Nat
 on:Nat->Os G
 pr:Nat->Fr G
def mN(P:Program)(N:Nat)(C:CC G)(ops:Array Oper)(A:List Nat)(ws:List (Nat×Nat))(F0:Fr G)(D0:List (AV G))(t:Tc G)(o:Oper)(q:Nat):Prop:=match t.kd q with
 | .d=>StD P N C ops A ws F0 D0 o q (t.rd q) (t.ac q) (t.on q) (t.pr q) (t.T q) (t.T (q+1))
 |_ =>t.T (q+1)=t.T q/\t.pr q=[]
theorem mN.congr{t t':Tc G}{o:Oper}{q:Nat}(h:mN P N C ops A ws F0 D0 t o q)(e1:t'.T q=t.T q)(e2:t'.T (q+1)=t.T (q+1))(e3:t'.kd q=t.kd q)(e4:t'.ac q=t.ac q)(e5:t'.rd q=t.rd q)(e6:t'.pr q=t.pr q)(e7:t'.on q=t.on q):mN P N C ops A ws F0 D0 t' o q:=by unfold mN at h ⊢;rw[e1,e2,e3,e4,e5,e6,e7];exact h
def Tc.put(t:Tc G)(i:Nat)(T:DS G)(k:Kd)(rd ac:List Nat)(on:Os G)(pr:Fr G):Tc G:=⟨λx=>if x=i then T else t.T x,λx=>if x=i then k else t.kd x,λx=>if x=i then rd else t.rd x,λx=>if x=i then ac else t.ac x,λx=>if x=i then on else t.on x,λx=>if x=i then pr else t.pr x⟩
section
variable (t:Tc G) (i:Nat) (T:DS G) (k:Kd) (rd ac:List Nat) (on:Os G) (pr:Fr G)
theorem Tc.z8:(t.put i T k rd ac on pr).T i=T/\(t.put i T k rd ac on pr).kd i=k/\(t.put i T k rd ac on pr).rd i=rd/\(t.put i T k rd ac on pr).ac i=ac/\(t.put i T k rd ac on pr).on i=on/\(t.put i T k rd ac on pr).pr i=pr:=by simp[Tc.put]
theorem Tc.xx{x:Nat}(h:x≠i):(t.put i T k rd ac on pr).T x=t.T x/\(t.put i T k rd ac on pr).kd x=t.kd x/\(t.put i T k rd ac on pr).rd x=t.rd x/\(t.put i T k rd ac on pr).ac x=t.ac x/\(t.put i T k rd ac on pr).on x=t.on x/\(t.put i T k rd ac on pr).pr x=t.pr x:=by simp[Tc.put,h]
end
theorem mN.Tz{t:Tc G}{o:Oper}{q i:Nat}{T:DS G}{k:Kd}{rd ac:List Nat}{on:Os G}{pr:Fr G}(h:mN P N C ops A ws F0 D0 t o q)(hq:i<q):mN P N C ops A ws F0 D0 (t.put i T k rd ac on pr) o q:=by obtain⟨a1,a2,a3,a4,a5,a6⟩:=t.xx i T k rd ac on pr (show q≠i from by omega);obtain⟨b1,_⟩:=t.xx i T k rd ac on pr (show q+1≠i from by omega);exact h.congr a1 b1 a2 a4 a3 a6 a5
theorem mN.first{t:Tc G}{o:Oper}{i:Nat}{T T1:DS G}{k:Kd}{rd ac:List Nat}{on:Os G}{pr:Fr G}(hT:t.T (i+1)=T1)(h:match k with
 | .d=>StD P N C ops A ws F0 D0 o i rd ac on pr T T1
 |_ =>T1=T/\pr=[]):mN P N C ops A ws F0 D0 (t.put i T k rd ac on pr) o i:=by
 obtain⟨a1,a2,a3,a4,a5,a6⟩:=t.z8 i T k rd ac on pr;obtain⟨b1,_⟩:=t.xx i T k rd ac on pr (x:=i+1) (by omega);unfold mN;rw[a1,a2,a3,a4,a5,a6,b1,hT];exact h
def Tc.one(T:DS G):Tc G:=⟨λ_ =>T,λ_ => .s,λ_ =>[],λ_ =>[],λ_ =>[],λ_ =>[]⟩
theorem aha{o:Oper}{i nx:Nat}{F S F':Fr G}(h:ahb A ws i nx o.dst F S=some F'):∃pr,ajv A ws o i nx pr/\F'=pr++F/\∀d v,(d,v)∈pr->gw S d=some v:=by
 unfold ahb at h;split at h
 ·rename_i hd;cases h;exact⟨[], .inl ⟨hd,rfl⟩,rfl,by simp⟩
 ·rename_i d hd
  split at h
  ·rename_i v hv
   cases hb:(v.lt nx&&alY A ws i v)with
   |false=>rw[hb]at h;cases h
   |true=>
    rw[hb]at h;cases h;rw[apv]at hb;refine⟨[(d,v)], .inr ⟨d,v,hd,rfl,hb.1,λj w x e=>?_⟩,rfl,λd' v' hm=>?_⟩
    ·subst e;exact hb.2
    ·simp at hm;rw[hm.1,hm.2];exact hv
  ·cases h
section
variable {Z:Type} {rec:WT G Z} {cp:List Nat} {z:Z} {tb:Bp P G}
theorem af8(dB:tG P rec){o:Oper}{i:Nat}{T:DS G}{kn:DS G->List Nat->List Nat->Option Z}{kp:AV G->AS G->List Nat->List Nat->Option Z}(h:drS tb rec N cp C ops A ws F0 D0 o i T kn kp=some z):
  (∃rd ac on pr T',StD P N C ops A ws F0 D0 o i rd ac on pr T T'/\kn T' ac (nq on)=some z)\/∃rd ac v S',StP P N C ops A ws F0 D0 o i rd ac v T S'/\kp v S' rd ac=some z:=by
 unfold drS at h;dsimp only at h;revert h;generalize amC tb (⟨F0,[],[]⟩::C) ⟨nG (λd=>EE A i d ws) T.F,T.M,T.nx,[]⟩ ops o=ra;obtain⟨rd,ac⟩:=ra;intro h;dsimp only at h;cases hb:(BA T.nx ((⟨F0,dX (λq=>fk rd q&& !fk ac q) T.M,D0⟩:Ly G)::C)&&(ltF T.nx (nG (λd=>EE A i d ws) T.F)&&Ah T.nx (dX (fk ac) T.M)))with
 |false=>rw[hb]at h;cases h
 |true=>
  rw[hb]at h;simp only[apv]at hb;obtain⟨e,S1,k1,k2,k3⟩:=dB _ _ _ _ _ _ _ h;have k2:T.nx<=S1.nx:=k2;split at k1
  ·rename_i hD
   cases hn:(Nat.ble T.nx S1.nx&&(Ah S1.nx S1.O&&okL A i rd ac (nq S1.O) T.lg))with
   |false=>rw[hn]at k1;cases k1
   |true=>
    rw[hn]at k1;simp only[apv]at hn;simp only[cond_true]at k1;split at k1
    ·rename_i F' hF
     obtain⟨pr,p1,p2,p3⟩:=aha hF;exact .inl ⟨rd,ac,S1.O,pr,_,⟨hn.2.2,hb.1,hb.2.1,hb.2.2,hn.2.1,⟨S1,k3,hD,rfl,k2,rfl,p3⟩,p1,p2,rfl,rfl⟩,k1⟩
    ·cases k1
  ·rename_i v hD
   cases hn:(Nat.ble T.nx S1.nx&&(okL A i rd ac [] T.lg&&(okU A i T.lg&&Ah T.nx T.M)))with
   |false=>rw[hn]at k1;cases k1
   |true=>rw[hn]at k1;simp only[apv]at hn;exact .inr ⟨rd,ac,v,_,⟨hn.2.1,hn.2.2.1,hb.1,hb.2.1,hb.2.2,hn.2.2.2,S1,k3,hD,k2,rfl⟩,k1⟩
  ·cases k1
def G8(A:List Nat)(j:Nat)(zj:List Nat)(t:Tc G)(q:Nat):Prop:=(t.kd q= .d/\t.ac q=[]/\∀x∈nq (t.on q),x∉zj)\/(t.kd q= .s/\qX A q j=true)
theorem amc(dB:tG P rec){j:Nat}{zj:List Nat}{k:Option Z}:∀{l:List Oper} {i:Nat} {T:DS G},drP tb rec N cp C ops A ws F0 D0 j zj k l i T=some z->k=some z/\∃t:Tc G,t.T i=T/\∀q o,i<=q->l[q-i]? =some o->mN P N C ops A ws F0 D0 t o q/\G8 A j zj t q:=by
 intro l
 induction l with
 |nil=>intro i T h;exact⟨h,Tc.one T,rfl,λq o _ e=>by simp at e⟩
 |cons o r ih=>
  intro i T h;unfold drP at h;have fA:∀{T1:DS G} {kd:Kd} {rd ac:List Nat} {on:Os G} {pr:Fr G} {t:Tc G},t.T (i+1)=T1->(∀q o,i+1<=q->r[q-(i+1)]? =some o->mN P N C ops A ws F0 D0 t o q/\G8 A j zj t q)->
    (match kd with
     | .d=>StD P N C ops A ws F0 D0 o i rd ac on pr T T1
     |_ =>T1=T/\pr=[])->((kd= .d/\ac=[]/\∀x∈nq on,x∉zj)\/(kd= .s/\qX A i j=true))->∃t:Tc G,t.T i=T/\∀q o',i<=q->(o::r)[q-i]? =some o'->mN P N C ops A ws F0 D0 t o' q/\G8 A j zj t q:=by
   intro T1 kd rd ac on pr t hT hs h1 h2;refine⟨t.put i T kd rd ac on pr,(t.z8 i T kd rd ac on pr).1,λq o' hq ho=>?_⟩;by_cases e:q=i
   ·subst e
    rw[Nat.sub_self]at ho;cases ho;refine⟨mN.first hT h1,?_⟩;obtain⟨_,a2,_,a4,a5,_⟩:=t.z8 q T kd rd ac on pr;unfold G8;rw[a2,a4,a5];exact h2
   ·rw[show q-i=(q-(i+1))+1 from by omega]at ho
    obtain⟨s1,s2⟩:=hs q o' (by omega) ho;refine⟨s1.Tz (by omega),?_⟩;obtain⟨_,a2,_,a4,a5,_⟩:=t.xx i T kd rd ac on pr e;unfold G8;rw[a2,a4,a5];exact s2
  cases hb:qX A i j with
  |true=>rw[hb]at h;obtain⟨k1,t,k2,k3⟩:=ih h;exact⟨k1,fA (kd:= .s) (rd:=[]) (ac:=[]) (on:=[]) k2 k3 ⟨rfl,rfl⟩ (.inr ⟨rfl,hb⟩)⟩
  |false=>
   rw[hb]at h;simp only[cond_false]at h;rcases af8 dB h with⟨rd,ac,on,pr,T',s1,s2⟩|⟨rd,ac,v,S',_,s2⟩
   ·cases hc:(akM ac&&Uk (nq on) zj)with
    |false=>rw[hc]at s2;cases s2
    |true=>
     rw[hc]at s2;simp only[apv]at hc;obtain⟨k1,t,k2,k3⟩:=ih s2;refine⟨k1,fA (kd:= .d) k2 k3 s1 (.inl ⟨rfl,?_,Uj hc.2⟩)⟩;cases ac with
     |nil=>rfl
     |cons _ _ =>cases hc.1
   ·cases s2
def agi(P:Program)(N:Nat)(C:CC G)(ops:Array Oper)(A:List Nat)(ws:List (Nat×Nat))(F0:Fr G)(D0:List (AV G))(l:List Oper)(i:Nat)(t:Tc G)(e:Ex G)(S':AS G):Prop:=(∀q o,i<=q->l[q-i]? =some o->mN P N C ops A ws F0 D0 t o q)/\ ((e= .pB/\S'=⟨(t.T (i+l.length)).F++F0,(t.T (i+l.length)).M,(t.T (i+l.length)).nx,D0⟩/\∀q,i<=q->q<i+l.length->t.kd q= .d)\/ ∃j o v rd ac,i<=j/\l[j-i]? =some o/\t.kd j= .p/\e= .z9 v/\StP P N C ops A ws F0 D0 o j rd ac v (t.T j) S'/\(∀q,i<=q->q<j->t.kd q= .d)/\∀q,j<q->q<i+l.length->G8 A j (rd++ac) t q)
theorem amb(dB:tG P rec){K:Ex G->AS G->Option Z}:∀{l:List Oper} {i:Nat} {T:DS G},LY tb rec N cp C ops A ws F0 D0 K l i T=some z->∃(t:Tc G) (e:Ex G) (S':AS G),K e S'=some z/\t.T i=T/\agi P N C ops A ws F0 D0 l i t e S':=by
 intro l
 induction l with
 |nil=>intro i T h;exact⟨Tc.one T, .pB,_,h,rfl,λq o _ e=>by simp at e, .inl ⟨rfl,rfl,λq h1 h2=>by simp at h2;omega⟩⟩
 |cons o r ih=>
  intro i T h;unfold LY at h;rcases af8 dB h with⟨rd,ac,on,pr,T1,h1,hw⟩|⟨rd,ac,v,S',h1,hw⟩
  ·obtain⟨t,e,S',k1,k2,k3,k4⟩:=ih hw
   refine⟨t.put i T .d rd ac on pr,e,S',k1,(t.z8 i T .d rd ac on pr).1,λq o' hq ho=>?_,?_⟩
   ·by_cases e:q=i
    ·subst e
     rw[Nat.sub_self]at ho;cases ho;exact mN.first k2 h1
    ·rw[show q-i=(q-(i+1))+1 from by omega]at ho
     exact(k3 q o' (by omega) ho).Tz (by omega)
   ·have hlen:i+(o::r).length=i+1+r.length:=by simp;omega
    rcases k4 with⟨e1,e2,e3⟩|⟨j,oj,v,rdj,acj,j1,j2,j3,j4,j5,j6,j7⟩
    ·refine .inl ⟨e1,?_,λq q1 q2=>?_⟩
     ·rw[hlen,(t.xx i T .d rd ac on pr (show i+1+r.length≠i from by omega)).1];exact e2
     ·by_cases e:q=i
      ·subst e;exact(t.z8 q T .d rd ac on pr).2.1
      ·rw[(t.xx i T .d rd ac on pr e).2.1];exact e3 q (by omega) (by omega)
    ·have jne:j≠i:=by omega
     refine .inr ⟨j,oj,v,rdj,acj,by omega,?_,?_,j4,?_,λq q1 q2=>?_,λq q1 q2=>?_⟩
     ·rw[show j-i=(j-(i+1))+1 from by omega];exact j2
     ·rw[(t.xx i T .d rd ac on pr jne).2.1];exact j3
     ·rw[(t.xx i T .d rd ac on pr jne).1];exact j5
     ·by_cases e:q=i
      ·subst e;exact(t.z8 q T .d rd ac on pr).2.1
      ·rw[(t.xx i T .d rd ac on pr e).2.1];exact j6 q (by omega) q2
     ·obtain⟨_,a2,_,a4,a5,_⟩:=t.xx i T .d rd ac on pr (show q≠i from by omega)
      unfold G8;rw[a2,a4,a5];exact j7 q q1 (by omega)
  ·obtain⟨m1,t,m2,m3⟩:=amc dB hw
   refine⟨t.put i T .p [] [] [] [], .z9 v,_,m1,(t.z8 i T .p [] [] [] []).1,λq o' hq ho=>?_, .inr ⟨i,o,v,rd,ac,Nat.le_refl _,by simp,(t.z8 i T .p [] [] [] []).2.1,rfl,?_,λq q1 q2=>by omega,λq q1 q2=>?_⟩⟩
   ·by_cases e:q=i
    ·subst e
     rw[Nat.sub_self]at ho;cases ho;exact mN.first m2 ⟨rfl,rfl⟩
    ·rw[show q-i=(q-(i+1))+1 from by omega]at ho
     exact(m3 q o' (by omega) ho).1.Tz (by omega)
   ·rw[(t.z8 i T .p [] [] [] []).1];exact h1
   ·have hlt:q-(i+1)<r.length:=by simp at q2;omega
    obtain⟨_,a2,_,a4,a5,_⟩:=t.xx i T .p [] [] [] [] (show q≠i from by omega);unfold G8;rw[a2,a4,a5];exact(m3 q _ (by omega) (apB hlt)).2
end
end Go.Rw
namespace Go.Rw
open Go Go.Bw Go.RowKit
variable {G:Sg} {P:Program} {N:Nat} {C:CC G} {ops:Array Oper} {A:List Nat} {ws:List (Nat×Nat)} {F0:Fr G} {D0:List (AV G)} {t:Tc G} {l:Array Bool}
structure Hy(P:Program)(N:Nat)(C:CC G)(ops:Array Oper)(A:List Nat)(ws:List (Nat×Nat))(F0:Fr G)(D0:List (AV G))(t:Tc G):Prop where
 hA:A=JZ ops ops.size
 hws:ws=Cs 0 ops.toList
 hW:Xm A ws ws=true
 st:∀q o,ops[q]? =some o->mN P N C ops A ws F0 D0 t o q
 g0:∀d j w x,gw (t.T 0).F d=some (.gd j w x)->∀q,(q,j)∉ws
def Cl(ops:Array Oper)(l:Array Bool):Prop:=∀j,dn l j->∀k∈DL ops j,dn l k
theorem Hy.mem(h:Hy P N C ops A ws F0 D0 t){q d:Nat}:(q,d)∈ws↔∃o,ops[q]? =some o/\o.dst=some d:=by rw[h.hws,abH];simp
theorem Hy.Wm(h:Hy P N C ops A ws F0 D0 t)(wC:Cl ops l){i j:Nat}(hb:qX A i j=true)(hi:∀k∈DL ops i,dn l k):dn l j:=by rw[h.hA]at hb;exact aiX wC _ _ _ hb hi
theorem Hy.F'(h:Hy P N C ops A ws F0 D0 t){q:Nat}(hq:q<ops.size):(t.T (q+1)).F=t.pr q++(t.T q).F:=by
 have:=h.st q _ (Array.getElem?_eq_getElem hq);unfold mN at this;split at this
 ·exact this.F'
 ·rw[this.1,this.2];rfl
theorem Hy.pr(h:Hy P N C ops A ws F0 D0 t){q:Nat}(hq:q<ops.size):t.pr q=[]\/∃d v,t.pr q=[(d,v)]/\(q,d)∈ws/\∀j w x,v= .gd j w x->XZ A q j ws=true:=by
 have ho:ops[q]? =some ops[q]:=Array.getElem?_eq_getElem hq;have:=h.st q _ ho;unfold mN at this;split at this
 ·rcases this.pk with⟨_,e⟩|⟨d,v,e1,e2,_,e3⟩
  ·exact .inl e
  ·exact .inr ⟨d,v,e2,h.mem.2 ⟨_,ho,e1⟩,e3⟩
 ·exact .inl this.2
theorem F8{q d:Nat}{F:Fr G}(h:Hy P N C ops A ws F0 D0 t)(hq:q<ops.size)(hd:(q,d)∉ws):gw (t.pr q++F) d=gw F d:=by
 rcases h.pr hq with e|⟨d',v,e,hm,_⟩
 ·rw[e];rfl
 ·rw[e]
  simp only[List.cons_append,List.nil_append,gw];cases hb:Nat.beq d' d with
  |true=>rw[apu hb]at hm;exact absurd hm hd
  |false=>rfl
def FL(t:Tc G)(l:Array Bool):Nat->Fr G
 |0=>(t.T 0).F
 |q+1=>(bif l.getD q false then t.pr q else[])++FL t l q
theorem C0{q:Nat}(h:¬dn l q):FL t l (q+1)=FL t l q:=by
 unfold dn at h;show(bif l.getD q false then t.pr q else[])++FL t l q=_;cases hb:l.getD q false with
 |true=>rw[hb]at h;exact absurd rfl h
 |false=>rfl
theorem Ej{q:Nat}(h:dn l q):FL t l (q+1)=t.pr q++FL t l q:=by unfold dn at h;show(bif l.getD q false then t.pr q else[])++FL t l q=_;rw[h];rfl
theorem Hy.cW(h:Hy P N C ops A ws F0 D0 t)(wC:Cl ops l){i d:Nat}(hi:i<ops.size)(hrd:∀k∈DL ops i,dn l k)(vE:¬dn l i)(hv:EE A i d ws=true):gw (FL t l ops.size) d=gw (t.T i).F d:=by
 have p1:∀q,q<=i->gw (FL t l q) d=gw (t.T q).F d:=by
  intro q
  induction q with
  |zero=>intro _;rfl
  |succ q ih=>
   intro hq;have ih:=ih (by omega);rw[h.F' (by omega)];by_cases hd:(q,d)∈ws
   ·rcases YR hv q hd with e|⟨_,e⟩|⟨e,_⟩
    ·omega
    ·rw[Ej (h.Wm wC e hrd),ow,ow,ih]
    ·omega
   ·rw[F8 h (by omega) hd]
    by_cases Lu:dn l q
    ·rw[Ej Lu,F8 h (by omega) hd];exact ih
    ·rw[C0 Lu];exact ih
 have p2:∀k,i+k<=ops.size->gw (FL t l (i+k)) d=gw (FL t l i) d:=by
  intro k
  induction k with
  |zero=>intro _;rfl
  |succ k ih=>
   intro hk;have ih:=ih (by omega);rw[← ih];show gw (FL t l (i+k+1)) d=_;by_cases Lu:dn l (i+k)
   ·rw[Ej Lu]
    refine F8 h (by omega) λhd=>?_;rcases YR hv _ hd with e|⟨e,_⟩|⟨_,e⟩
    ·rw[e]at Lu;exact vE Lu
    ·omega
    ·exact vE (h.Wm wC e (wC _ Lu))
   ·rw[C0 Lu]
 have:=p2 (ops.size-i) (by omega);rw[show i+(ops.size-i)=ops.size from by omega]at this;rw[this,p1 i (Nat.le_refl _)]
theorem Hy.fA(h:Hy P N C ops A ws F0 D0 t)(hs:l.size=ops.size)(wC:Cl ops l){i d:Nat}(hi:i<ops.size)(vE:¬dn l i):
  ((i,d)∉ws->gw (FL t (l.setIfInBounds i true) ops.size) d=gw (FL t l ops.size) d)/\((i,d)∈ws->∀v,gw (FL t (l.setIfInBounds i true) ops.size) d=some v->t.pr i=[]\/(d,v)∈t.pr i):=by
 have Ao:i<l.size:=by omega
 have off:∀q,q≠i->(dn (l.setIfInBounds i true) q↔dn l q):=λq hq=>by rw[kx Ao];simp[hq]
 refine⟨λhd=>?_,λhd v hv=>?_⟩
 ·have key:∀q,q<=ops.size->gw (FL t (l.setIfInBounds i true) q) d=gw (FL t l q) d:=by
   intro q
   induction q with
   |zero=>intro _;rfl
   |succ q ih=>
    intro hq;have ih:=ih (by omega);by_cases e:q=i
    ·subst e
     rw[Ej ((kx Ao).2 (.inr rfl)),C0 vE,F8 h hi hd];exact ih
    ·by_cases Lu:dn l q
     ·rw[Ej ((off q e).2 Lu),Ej Lu,ow,ow,ih]
     ·rw[C0 (λx=>Lu ((off q e).1 x)),C0 Lu];exact ih
  exact key _ (Nat.le_refl _)
 ·have key:∀k,i+1+k<=ops.size->gw (FL t (l.setIfInBounds i true) (i+1+k)) d=gw (FL t (l.setIfInBounds i true) (i+1)) d:=by
   intro k
   induction k with
   |zero=>intro _;rfl
   |succ k ih=>
    intro hk;have ih:=ih (by omega);rw[← ih];show gw (FL t _ (i+1+k+1)) d=_;by_cases Lu:dn (l.setIfInBounds i true) (i+1+k)
    ·rw[Ej Lu]
     refine F8 h (by omega) λhm=>?_;have hq2:=(off _ (by omega)).1 Lu;exact vE (h.Wm wC (akH h.hW _ _ hm i hd (by omega)) (wC _ hq2))
    ·rw[C0 Lu]
  have e:=key (ops.size-(i+1)) (by omega);rw[show i+1+(ops.size-(i+1))=ops.size from by omega]at e;rw[e,Ej ((kx Ao).2 (.inr rfl))]at hv;rcases h.pr hi with e|⟨d',v',e,hm,_⟩
  ·exact .inl e
  ·refine .inr ?_
   obtain⟨o1,h1,h2⟩:=h.mem.1 hm;obtain⟨o2,h3,h4⟩:=h.mem.1 hd;rw[h1]at h3;cases h3;rw[h2]at h4;cases h4;rw[e]at hv ⊢;simp only[List.cons_append,List.nil_append,gw,Nat.beq_refl,cond_true]at hv;cases hv;simp
theorem aef{α:Type}:∀{F:List (Nat×α)} {d:Nat} {v:α},gw F d=some v->(d,v)∈F:=by
 intro F
 induction F with
 |nil=>intro d v h;cases h
 |cons q r ih=>
  obtain⟨k,u⟩:=q;intro d v h;simp only[gw]at h;cases hb:Nat.beq k d with
  |true=>rw[hb]at h;cases h;rw[apu hb];simp
  |false=>rw[hb]at h;exact apE _ (ih h)
theorem Hy.gd(h:Hy P N C ops A ws F0 D0 t)(wC:Cl ops l){i:Nat}(vE:¬dn l i){d j:Nat}{w:Bool}{x:AV G}(e:gw (FL t l ops.size) d=some (.gd j w x)):(i,j)∉ws:=by
 have iS:∀q,q<=ops.size->gw (FL t l q) d=some (.gd j w x)->gw (t.T 0).F d=some (.gd j w x)\/∃q',q'<ops.size/\dn l q'/\(d, .gd j w x)∈t.pr q':=by
  intro q
  induction q with
  |zero=>intro _ e;exact .inl e
  |succ q ih=>
   intro hq e;by_cases Lu:dn l q
   ·rw[Ej Lu,ow]at e
    split at e
    ·rename_i v hv;cases e;exact .inr ⟨q,by omega,Lu,aef hv⟩
    ·exact ih (by omega) e
   ·rw[C0 Lu]at e;exact ih (by omega) e
 intro hm;rcases iS _ (Nat.le_refl _) e with e|⟨q,q1,q2,q3⟩
 ·exact h.g0 d j w x e i hm
 ·rcases h.pr q1 with e|⟨d',v',e,_,hb⟩
  ·rw[e]at q3;cases q3
  ·rw[e]at q3
   simp at q3;exact vE (h.Wm wC (aiU (hb j w x q3.2.symm) i hm) (wC _ q2))
theorem Hy.sd(h:Hy P N C ops A ws F0 D0 t){q:Nat}(hq:q<ops.size)(hk:t.kd q= .d):StD P N C ops A ws F0 D0 (ops[q]'hq) q (t.rd q) (t.ac q) (t.on q) (t.pr q) (t.T q) (t.T (q+1)):=by have:=h.st q _ (Array.getElem?_eq_getElem hq);unfold mN at this;rw[hk]at this;exact this
theorem Hy.un(h:Hy P N C ops A ws F0 D0 t){q:Nat}(hq:q<ops.size)(hk:t.kd q≠ .d):t.T (q+1)=t.T q/\t.pr q=[]:=by
 have:=h.st q _ (Array.getElem?_eq_getElem hq);unfold mN at this;split at this
 ·rename_i e;exact absurd e hk
 ·exact this
theorem Hy.lg(h:Hy P N C ops A ws F0 D0 t){q:Nat}(hk:t.kd q= .d):∀{i:Nat},i<=ops.size->q<i->(⟨q,t.rd q,t.ac q,nq (t.on q)⟩:Lg)∈(t.T i).lg:=by
 intro i
 induction i with
 |zero=>intro _ hq;omega
 |succ i ih=>
  intro hi hq;by_cases ki:t.kd i= .d
  ·rw[(h.sd (by omega) ki).lg']
   by_cases e:q=i
   ·subst e;exact List.mem_cons_self
   ·exact apE _ (ih (by omega) (by omega))
  ·rw[(h.un (by omega) ki).1]
   by_cases e:q=i
   ·subst e;exact absurd hk ki
   ·exact ih (by omega) (by omega)
theorem Hy.apart(h:Hy P N C ops A ws F0 D0 t){q i:Nat}(hi:i<ops.size)(hq:q<i)(kq:t.kd q= .d)(ki:t.kd i= .d)(hb:qX A i q≠true):(∀x∈t.ac q++nq (t.on q),x∉t.rd i++t.ac i)/\∀x∈t.ac i++nq (t.on i),x∉t.rd q++t.ac q:=by
 rcases afL (h.sd hi ki).Yw _ (h.lg kq (Nat.le_of_lt hi) hq)with e|e
 ·exact absurd e hb
 ·exact e
theorem qW{p:Nat->Bool}:∀{O O':Os G},dX p (O++O')=dX p O++dX p O':=by
 intro O
 induction O with
 |nil=>intro O';rfl
 |cons q r ih=>
  obtain⟨k,v⟩:=q;intro O';simp only[List.cons_append,dX];cases p k with
  |true=>simp only[cond_true,List.cons_append,ih]
  |false=>simp only[cond_false,ih]
theorem tY{p q:Nat->Bool}:∀{O:Os G},dX p (dX q O)=dX q (dX p O):=by
 intro O
 induction O with
 |nil=>rfl
 |cons x r ih=>obtain⟨k,v⟩:=x;cases hp:p k<;>cases hq:q k<;>simp[dX,hp,hq,ih]
theorem Cr{p:Nat->Bool}:∀{O:Os G},(∀k∈nq O,p k=true)->dX p O=O:=by
 intro O
 induction O with
 |nil=>intro _;rfl
 |cons x r ih=>obtain⟨k,v⟩:=x;intro h;simp only[dX,h k (by simp[nq]),cond_true];rw[ih λk hk=>h k (by simp[nq,hk])]
theorem Ic{p:Nat->Bool}:∀{O:Os G},(∀k∈nq O,p k=false)->dX p O=[]:=by
 intro O
 induction O with
 |nil=>intro _;rfl
 |cons x r ih=>obtain⟨k,v⟩:=x;intro h;simp only[dX,h k (by simp[nq]),cond_false];exact ih λk hk=>h k (by simp[nq,hk])
theorem NR{p:Nat->Bool}:∀{O:Os G} {k:Nat},k∈nq (dX p O)->p k=true/\k∈nq O:=by
 intro O
 induction O with
 |nil=>intro k h;cases h
 |cons x r ih=>
  obtain⟨j,v⟩:=x;intro k h;simp only[dX]at h;cases hp:p j with
  |true=>
   rw[hp]at h;simp only[cond_true,nq,List.mem_cons]at h;rcases h with rfl|h
   ·exact⟨hp,by simp[nq]⟩
   ·exact⟨(ih h).1,by simp[nq,(ih h).2]⟩
  |false=>rw[hp]at h;exact⟨(ih h).1,by simp[nq,(ih h).2]⟩
theorem XR{p:Nat->Bool}{O O':Os G}(h:O.Perm O'):(dX p O).Perm (dX p O'):=by
 induction h with
 |nil=>exact .refl _
 |cons x _ ih=>obtain⟨k,v⟩:=x;simp only[dX];cases p k with
  |true=>exact ih.cons _
  |false=>exact ih
 |swap x y l=>obtain⟨k,v⟩:=x;obtain⟨j,u⟩:=y;simp only[dX];cases p k<;>cases p j<;>first|exact .refl _ |exact .swap _ _ _
 |trans _ _ i1 i2=>exact i1.trans i2
theorem LR{p:Nat->Bool}:∀{O:Os G},(dX p O).Sublist O:=by
 intro O
 induction O with
 |nil=>exact .refl _
 |cons x r ih=>obtain⟨k,v⟩:=x;simp only[dX];cases p k with
  |true=>exact ih.cons_cons _
  |false=>exact ih.cons _
theorem XQ{p:Nat->Bool}{O O':Os G}(h:O.Sublist O'):(dX p O).Sublist (dX p O'):=by
 induction h with
 |slnil=>exact .refl _
 |cons x _ ih=>obtain⟨k,v⟩:=x;simp only[dX];cases p k with
  |true=>exact ih.cons _
  |false=>exact ih
 |cons_cons x _ ih=>obtain⟨k,v⟩:=x;simp only[dX];cases p k with
  |true=>exact ih.cons_cons _
  |false=>exact ih
theorem Ga{l:List Nat}{k:Nat}(h:k∉l):fk l k=false:=by
 cases hb:fk l k with
 |false=>rfl
 |true=>exact absurd (Cg.1 hb) h
theorem RJ{z ac:List Nat}{O:Os G}(hz:∀x∈ac,x∉z):dX (fk z) (dX (λr=> !fk ac r) O)=dX (fk z) O:=by rw[tY];refine Cr λk hk=>?_;rw[Ga λhm=>hz k hm (Cg.1 (NR hk).1)];rfl
def ML(t:Tc G)(l:Array Bool):Nat->Os G
 |0=>(t.T 0).M
 |q+1=>bif l.getD q false then(match t.kd q with
  | .d=>t.on q++dX (λr=> !fk (t.ac q) r) (ML t l q)
  |_ =>ML t l q)else ML t l q
theorem xV{q:Nat}(h:¬dn l q):ML t l (q+1)=ML t l q:=by
 unfold dn at h;show(bif l.getD q false then _ else ML t l q)=_;cases hb:l.getD q false with
 |true=>rw[hb]at h;exact absurd rfl h
 |false=>rfl
theorem CX{q:Nat}(h:dn l q)(hk:t.kd q= .d):ML t l (q+1)=t.on q++dX (λr=> !fk (t.ac q) r) (ML t l q):=by
 unfold dn at h;show(bif l.getD q false then(match t.kd q with
  | .d=>t.on q++dX (λr=> !fk (t.ac q) r) (ML t l q)
  |_ =>ML t l q)else ML t l q)=_
 rw[h,hk];rfl
theorem ajz(h:Hy P N C ops A ws F0 D0 t)(hd:∀q,q<ops.size->dn l q/\t.kd q= .d):∀q,q<=ops.size->ML t l q=(t.T q).M:=by
 intro q
 induction q with
 |zero=>intro _;rfl
 |succ q ih=>intro hq;obtain⟨h1,h2⟩:=hd q (by omega);rw[CX h1 h2,ih (by omega),(h.sd (by omega) h2).M']
theorem Hy.akt(h:Hy P N C ops A ws F0 D0 t)(wC:Cl ops l){i:Nat}(z:List Nat)(hi:i<ops.size)(vE:¬dn l i)(hrd:∀k∈DL ops i,dn l k)(hkd:∀q,q<ops.size->dn l q->t.kd q= .d)
  (h1:∀q,q<i->t.kd q= .d->qX A i q≠true->∀x∈t.ac q++nq (t.on q),x∉z)(h2:∀q,i<q->q<ops.size->dn l q->∀x∈t.ac q++nq (t.on q),x∉z):dX (fk z) (ML t l ops.size)=dX (fk z) (t.T i).M:=by
 have p1:∀q,q<=i->dX (fk z) (ML t l q)=dX (fk z) (t.T q).M:=by
  intro q
  induction q with
  |zero=>intro _;rfl
  |succ q ih=>
   intro hq;have ih:=ih (by omega);by_cases kq:t.kd q= .d
   case neg=>rw[(h.un (by omega) kq).1,xV λhd=>kq (hkd q (by omega) hd)];exact ih
   rw[(h.sd (by omega) kq).M'];by_cases hd:dn l q
   ·rw[CX hd kq,qW,qW,tY,ih,tY]
   ·rw[xV hd,ih,qW]
    have hb:qX A i q≠true:=λhb=>hd (h.Wm wC hb hrd);have hz:=h1 q (by omega) kq hb;rw[Ic (O:=t.on q) λk hk=>Ga (hz k (apy _ hk)),List.nil_append,RJ λx hx=>hz x (apz _ hx)]
 have p2:∀k,i+k<=ops.size->dX (fk z) (ML t l (i+k))=dX (fk z) (ML t l i):=by
  intro k
  induction k with
  |zero=>intro _;rfl
  |succ k ih=>
   intro hk;have ih:=ih (by omega);rw[← ih];show dX (fk z) (ML t l (i+k+1))=_;by_cases hd:dn l (i+k)
   ·have hne:i<i+k:=by
     rcases Nat.eq_zero_or_pos k with e|e
     ·subst e;exact absurd hd vE
     ·omega
    rw[CX hd (hkd _ (by omega) hd),qW];have hz:=h2 _ hne (by omega) hd;rw[Ic (O:=t.on (i+k)) λk' hk'=>Ga (hz k' (apy _ hk')),List.nil_append,RJ λx hx=>hz x (apz _ hx)]
   ·rw[xV hd]
 have:=p2 (ops.size-i) (by omega);rw[show i+(ops.size-i)=ops.size from by omega]at this;rw[this,p1 i (Nat.le_refl _)]
theorem Hy.akP(h:Hy P N C ops A ws F0 D0 t)(hs:l.size=ops.size)(wC:Cl ops l){i:Nat}(hi:i<ops.size)(vE:¬dn l i)(hkd:∀q,q<ops.size->dn l q->t.kd q= .d)(ki:t.kd i= .d):(ML t (l.setIfInBounds i true) ops.size).Perm (t.on i++dX (λr=> !fk (t.ac i) r) (ML t l ops.size)):=by
 have Ao:i<l.size:=by omega
 have off:∀q,q≠i->(dn (l.setIfInBounds i true) q↔dn l q):=λq hq=>by rw[kx Ao];simp[hq]
 have p1:∀q,q<=i->ML t (l.setIfInBounds i true) q=ML t l q:=by
  intro q
  induction q with
  |zero=>intro _;rfl
  |succ q ih=>
   intro hq;have ih:=ih (by omega);by_cases hd:dn l q
   ·rw[CX ((off q (by omega)).2 hd) (hkd q (by omega) hd),CX hd (hkd q (by omega) hd),ih]
   ·rw[xV λx=>hd ((off q (by omega)).1 x),xV hd,ih]
 have p2:∀k,i+1+k<=ops.size->(ML t (l.setIfInBounds i true) (i+1+k)).Perm (t.on i++dX (λr=> !fk (t.ac i) r) (ML t l (i+1+k))):=by
  intro k
  induction k with
  |zero=>intro _;show(ML t _ (i+1)).Perm (_ ++dX _ (ML t l (i+1)));rw[CX ((kx Ao).2 (.inr rfl)) ki,xV vE,p1 i (Nat.le_refl _)]
  |succ k ih=>
   intro hk;have ih:=ih (by omega);show(ML t _ (i+1+k+1)).Perm (_ ++dX _ (ML t l (i+1+k+1)));by_cases hd:dn l (i+1+k)
   ·have kq:=hkd _ (by omega) hd
    have hb:qX A (i+1+k) i≠true:=λhb=>vE (h.Wm wC hb (wC _ hd));obtain⟨a1,a2⟩:=h.apart (q:=i) (i:=i+1+k) (by omega) (by omega) ki kq hb;rw[CX ((off _ (by omega)).2 hd) kq,CX hd kq,qW];have e1:dX (λr=> !fk (t.ac (i+1+k)) r) (t.on i)=t.on i:=Cr λk' hk'=>by rw[Ga λhm=>a1 k' (apy _ hk') (apy _ hm)];rfl
    have e2:dX (λr=> !fk (t.ac i) r) (t.on (i+1+k))=t.on (i+1+k):=Cr λk' hk'=>by rw[Ga λhm=>a2 k' (apy _ hk') (apy _ hm)];rfl
    rw[e2];have Sz:=XR (p:=λr=> !fk (t.ac (i+1+k)) r) ih;rw[qW,e1,tY]at Sz;refine(List.Perm.append_left _ Sz).trans ?_;rw[← List.append_assoc, ← List.append_assoc];exact List.Perm.append_right _ List.perm_append_comm
   ·rw[xV λx=>hd ((off _ (by omega)).1 x),xV hd];exact ih
 have:=p2 (ops.size-(i+1)) (by omega);rwa[show i+1+(ops.size-(i+1))=ops.size from by omega]at this
theorem Hy.atP(h:Hy P N C ops A ws F0 D0 t)(wC:Cl ops l){j:Nat}{un:List Nat}(hj:j<ops.size)(vE:¬dn l j)(hrd:∀k∈DL ops j,dn l k)(hkd:∀q,q<ops.size->dn l q->t.kd q= .d)(hk0:∀q,q<j->t.kd q= .d)
  (h1:∀q,q<j->qX A j q=true\/(t.ac q=[]/\∀x∈nq (t.on q),x∈un))(h2:∀q,j<q->q<ops.size->dn l q->t.ac q=[]):(dX (λr=> !fk un r) (t.T j).M).Sublist (ML t l ops.size):=by
 have O7:∀(O:Os G),dX (λr=> !fk ([]:List Nat) r) O=O:=λO=>Cr λk _ =>rfl;have p1:∀q,q<=j->dX (λr=> !fk un r) (ML t l q)=dX (λr=> !fk un r) (t.T q).M:=by
  intro q
  induction q with
  |zero=>intro _;rfl
  |succ q ih=>
   intro hq;have ih:=ih (by omega);have kq:=hk0 q (by omega);rw[(h.sd (by omega) kq).M'];rcases h1 q (by omega)with hb|⟨ea,hu⟩
   ·rw[CX (h.Wm wC hb hrd) kq,qW,qW,tY,ih,tY]
   ·have en:dX (λr=> !fk un r) (t.on q)=[]:=Ic λk hk=>by rw[Cg.2 (hu k hk)];rfl
    rw[ea,O7,qW,en,List.nil_append];by_cases hd:dn l q
    ·rw[CX hd kq,ea,O7,qW,en,List.nil_append,ih]
    ·rw[xV hd,ih]
 have p2:∀k,j+k<=ops.size->(ML t l j).Sublist (ML t l (j+k)):=by
  intro k
  induction k with
  |zero=>intro _;exact .refl _
  |succ k ih=>
   intro hk;have ih:=ih (by omega);show(ML t l j).Sublist (ML t l (j+k+1));by_cases hd:dn l (j+k)
   ·have hne:j<j+k:=by
     rcases Nat.eq_zero_or_pos k with e|e
     ·subst e;exact absurd hd vE
     ·omega
    rw[CX hd (hkd _ (by omega) hd),h2 _ hne (by omega) hd,O7];exact ih.trans (List.sublist_append_right _ _)
   ·rw[xV hd];exact ih
 have:=p2 (ops.size-j) (by omega);rw[show j+(ops.size-j)=ops.size from by omega]at this;rw[← p1 j (Nat.le_refl _)];exact LR.trans this
end Go.Rw
namespace Go.Rw
open Go Go.Bw Go.RowKit
variable {G:Sg} {P:Program} {N:Nat} {C:CC G} {ops:Array Oper} {A:List Nat} {ws:List (Nat×Nat)} {F0:Fr G} {D0:List (AV G)} {t:Tc G} {l:Array Bool}
theorem Xh{a a':Act}{d:Nat}{dst:Option Tmp}{u:Value}{Df:List Deferred}(ha:a'=({a with defers:=Df}:Act).put dst u)(h:dst≠some d):a'.tmps[d]? =a.tmps[d]? :=by
 subst ha;cases dst with
 |none=>rfl
 |some e=>show(a.tmps.setIfInBounds e u)[d]? =_;rw[Array.getElem?_setIfInBounds,apt (λq=>h (by rw[q]))]
theorem ag1{J:World->Prop}{ρ:bV}{a a':Act}{dst:Option Tmp}{u x:Value}{Df:List Deferred}{v:AV G}(ha:a'=({a with defers:=Df}:Act).put dst u)(hn:∀j w y,v= .gd j w y->dst≠some j)(h:rf J ρ a.tmps v x):rf J ρ a'.tmps v x:=by
 subst ha;cases dst with
 |none=>exact h
 |some e=>exact OQ h λj w y q hj=>hn j w y q (by rw[hj])
structure Iv(N:Nat)(C:CC G)(ops:Array Oper)(F0:Fr G)(D0:List (AV G))(t:Tc G)(c:Cx)(ρ0:bV)(J0:World->Prop)(HK X:List aO)(n0:Nat)(l:Array Bool)(a:Act)(w:World):Prop where
 size:l.size=ops.size
 cl:Cl ops l
 kd:∀q,q<ops.size->dn l q->t.kd q= .d
 ex:∃(ρ:bV) (J:World->Prop) (Y:List aO),ρ0.to ρ n0/\(∀w,J w->J0 w)/\Rl c N ρ J HK (Y++X) (⟨F0,[],D0⟩::C) ⟨FL t l ops.size,ML t l ops.size,(t.T ops.size).nx,[]⟩ a w/\
  ∀q,q<ops.size->¬dn l q->∀r,(t.T q).nx<=r->r<(t.T (q+1)).nx->ρ r=none
section
variable {c:Cx} {ρ0:bV} {J0:World->Prop} {HK X:List aO} {n0 i:Nat} {a:Act} {w:World} {K:Act->World->Prop} {Q:Exit->Act->World->Prop}
theorem aiR(hs:l.size=ops.size)(wC:Cl ops l)(hi:i<ops.size)(hrd:∀k∈DL ops i,dn l k):Cl ops (l.setIfInBounds i true):=λj hj k hk=>by
 have Ao:i<l.size:=by omega
 rcases(kx Ao).1 hj with h|rfl
 ·exact(kx Ao).2 (.inl (wC j h k hk))
 ·exact(kx Ao).2 (.inl (hrd k hk))
theorem aeJ(h:Hy P N C ops A ws F0 D0 t)(hs:l.size=ops.size)(wC:Cl ops l)(hi:i<ops.size)(vE:¬dn l i){o:Oper}(ho:ops[i]? =some o){nx:Nat}(hpk:ajv A ws o i nx (t.pr i)){ρ ρ':bV}{J J':World->Prop}{a a':Act}{u2:Value}{Df:List Deferred}
  (ha:a'=({a with defers:=Df}:Act).put o.dst u2)(hJ:∀w,J' w->J w)(hle:ρ.le ρ')(hfs:tf J ρ (FL t l ops.size) a.tmps)(hn:∀d v,(d,v)∈t.pr i->v.lt nx=true->∃u,a'.tmps[d]? =some u/\rf J' ρ' a'.tmps v u):tf J' ρ' (FL t (l.setIfInBounds i true) ops.size) a'.tmps:=λd v e=>by
 obtain⟨m1,m2⟩:=h.fA (d:=d) hs wC hi vE;by_cases hd:(i,d)∈ws
 ·obtain⟨o',h1,h2⟩:=h.mem.1 hd
  rw[ho]at h1;cases h1;rcases hpk with⟨e1,_⟩|⟨d',v',e1,e2,e3,_⟩
  ·rw[e1]at h2;cases h2
  ·rcases m2 hd v e with q|q
   ·rw[e2]at q;cases q
   ·have q2:=q
    rw[e2]at q2;simp at q2;exact hn d v q (by rw[q2.2];exact e3)
 ·rw[m1 hd]at e
  obtain⟨u,u1,u3⟩:=hfs d v e;refine⟨u,?_,ag1 ha (λj w y q hj=>?_) ((u3.mono hJ).ext hle)⟩
  ·rw[Xh ha λq=>hd (h.mem.2 ⟨o,ho,q⟩)];exact u1
  ·subst q;exact h.gd wC vE e (h.mem.2 ⟨o,ho,hj⟩)
theorem Hy.step(h:Hy P N C ops A ws F0 D0 t){i:Nat}(hi:i<ops.size):(t.T i).nx<=(t.T (i+1)).nx:=by
 by_cases hk:t.kd i= .d
 ·obtain⟨S1,_,_,_,e,e2,_⟩:=(h.sd hi hk).run
  rw[e2];exact e
 ·rw[(h.un hi hk).1];exact Nat.le_refl _
theorem Hy.akQ(h:Hy P N C ops A ws F0 D0 t){i:Nat}:∀k,i+k<=ops.size->(t.T i).nx<=(t.T (i+k)).nx:=by
 intro k
 induction k with
 |zero=>intro _;exact Nat.le_refl _
 |succ k ih=>intro hk;exact Nat.le_trans (ih (by omega)) (h.step (i:=i+k) (by omega))
theorem Hy.le(h:Hy P N C ops A ws F0 D0 t){i j:Nat}(hij:i<=j)(hj:j<=ops.size):(t.T i).nx<=(t.T j).nx:=by have:=h.akQ (i:=i) (j-i) (by omega);rwa[show i+(j-i)=j from by omega]at this
theorem V1{z ac:List Nat}{O:Os G}(hz:∀x∈ac,x∈z):dX (fk ac) (dX (fk z) O)=dX (fk ac) O:=by rw[tY];refine Cr λk hk=>Cg.2 (hz k (Cg.1 (NR hk).1))
theorem RO.qt{J:World->Prop}{ρ:bV}{O O':Os G}(h:O.Perm O'):∀{H:List aO},RO J ρ O H->∃H',H.Perm H'/\RO J ρ O' H':=by
 induction h with
 |nil=>intro H r;exact⟨H, .refl _,r⟩
 |cons x _ ih=>
  intro H r;cases r with
  |cons h k=>obtain⟨H',p,q⟩:=ih k;exact⟨_,p.cons _, .cons h q⟩
 |swap x y l=>
  intro H r;cases r with
  |cons h k=>cases k with
   |cons h2 k2=>exact⟨_, .swap _ _ _, .cons h2 (.cons h k2)⟩
 |trans _ _ i1 i2=>intro H r;obtain⟨H1,p1,q1⟩:=i1 r;obtain⟨H2,p2,q2⟩:=i2 q1;exact⟨H2,p1.trans p2,q2⟩
theorem RO.sub{J:World->Prop}{ρ:bV}{O O':Os G}(h:O'.Sublist O):∀{H:List aO},RO J ρ O H->∃H',H'.Sublist H/\RO J ρ O' H':=by
 induction h with
 |slnil=>intro H r;exact⟨H, .refl _,r⟩
 |cons x _ ih=>
  intro H r;cases r with
  |cons h k=>obtain⟨H',p,q⟩:=ih k;exact⟨H',p.cons _,q⟩
 |cons_cons x _ ih=>
  intro H r;cases r with
  |cons h k=>obtain⟨H',p,q⟩:=ih k;exact⟨_,p.cons_cons _, .cons h q⟩
def bV.XE(ρ:bV)(n:Nat):bV:=λr=>if r<n then ρ r else none
theorem bV.Pu{ρ:bV}{n r:Nat}(h:r<n):ρ.XE n r=ρ r:=aps h
theorem bV.aet{ρ:bV}{n:Nat}:(ρ.XE n).fr n:=λr hr=>apt (Nat.not_lt.2 hr)
theorem afV(h:Hy P N C ops A ws F0 D0 t)(cl:Cl ops l)(hi:i<ops.size)(vE:¬dn l i)(hrd:∀k∈DL ops i,dn l k){rd ac:List Nat}(hz:dX (fk (rd++ac)) (ML t l ops.size)=dX (fk (rd++ac)) (t.T i).M)
  (lC:BA (t.T i).nx (lyD F0 D0 (t.T i).M rd ac::C)=true)(lF:ltF (t.T i).nx (nG (λd=>EE A i d ws) (t.T i).F)=true)(lO:Ah (t.T i).nx (dX (fk ac) (t.T i).M)=true){ρ:bV}{J:World->Prop}{Y:List aO}
  (hr:Rl c N ρ J HK (Y++X) (⟨F0,[],D0⟩::C) ⟨FL t l ops.size,ML t l ops.size,(t.T ops.size).nx,[]⟩ a w):
  ∃H2,RO J ρ (dX (λq=> !fk ac q) (ML t l ops.size)) H2/\Rl c N (ρ.XE (t.T i).nx) J (H2++HK) (Y++X) (lyD F0 D0 (t.T i).M rd ac::C) ⟨nG (λd=>EE A i d ws) (t.T i).F,dX (fk ac) (t.T i).M,(t.T i).nx,[]⟩ a w:=by
 have hag:∀r,r<(t.T i).nx->ρ.XE (t.T i).nx r=ρ r:=λr hr=>bV.Pu hr;obtain⟨HS,q1,q3⟩:=hr.hp;obtain⟨H1,H2,k1,k2,k3⟩:=q1.fil (p:=fk ac);have eac:dX (fk ac) (ML t l ops.size)=dX (fk ac) (t.T i).M:=by have:=congrArg (dX (fk ac)) hz;rwa[V1 λx hx=>apy _ hx,V1 λx hx=>apy _ hx]at this
 have Sv:RO J ρ (dX (fk ac) (t.T i).M) H1:=by rw[← eac];exact k1
 have hlO:=Ji lC;have hlF:=aaF lC;refine⟨H2,k2,hr.tm,?_,⟨hr.si.s,λq=>hr.si.n (Gb q)⟩,λd v e=>?_,λy hy=>?_,λr o e=>?_,⟨H1,Sv.jd hag lO,?_⟩,hr.kn,bV.aet⟩
 ·exact DR.jd hag hr.df hlO.2
 ·have e0:=e
  have e:gw (nG (λd=>EE A i d ws) (t.T i).F) d=some v:=e;rw[V2]at e;cases hb:EE A i d ws with
  |false=>rw[hb]at e;cases e
  |true=>rw[hb]at e;obtain⟨u,u1,u2⟩:=hr.fs d v ((h.cW cl hi hrd vE hb).trans e);exact⟨u,u1,u2.jd hag (afR lF e0)⟩
 ·rcases List.mem_cons.1 hy with rfl|hy
  ·exact tf.jd (F:=F0) hag (hlF _ List.mem_cons_self) (hr.fc _ List.mem_cons_self)
  ·exact(hr.fc y (apE _ hy)).jd hag (hlF y (apE _ hy))
 ·have hlo:=aaE hlO.1 e
  have e:gw (dX (λq=>fk rd q&& !fk ac q) (t.T i).M++zk C) r=some o:=e;rw[ow]at e;split at e
  ·rename_i o' he
   cases e;rw[PG]at he;cases hb:(fk rd r&& !fk ac r)with
   |false=>rw[hb]at he;cases he
   |true=>
    rw[hb]at he;simp only[apv]at hb;have e2:=congrArg (λO=>gw O r) hz;simp only[PG]at e2;rw[Cg.2 (apz _ (Cg.1 hb.1))]at e2;have e3:gw (dX (λq=> !fk ac q) (ML t l ops.size)) r=some o:=by rw[PG,hb.2];exact e2.trans he
    obtain⟨x,x1,x2⟩:=k2.lk e3;exact⟨x,apz _ x1,x2.jd hag hlo⟩
  ·obtain⟨x,x1,x2⟩:=hr.kc r o e
   exact⟨x,apy _ x1,x2.jd hag hlo⟩
 ·refine q3.qt ?_
  rw[List.append_assoc, ← List.append_assoc H1];exact k3.append_right _
theorem an1(h:Hy P N C ops A ws F0 D0 t)(hv:Iv N C ops F0 D0 t c ρ0 J0 HK X n0 l a w)(h0:n0<=(t.T i).nx)(hi:i<ops.size)(vE:¬dn l i)(hrd:∀k∈DL ops i,dn l k)(hk:t.kd i= .d)
  (hz:dX (fk (t.rd i++t.ac i)) (ML t l ops.size)=dX (fk (t.rd i++t.ac i)) (t.T i).M)(hK:∀a' w',Iv N C ops F0 D0 t c ρ0 J0 HK X n0 (l.setIfInBounds i true) a' w'->K a' w'):
  wpOpIn (FA c.ro) 0 P ops Q i K a w:=by
 have ho:ops[i]? =some ops[i]:=Array.getElem?_eq_getElem hi;have hsi:=h.sd hi hk;obtain⟨size,cl,kd,ρ,J,Y,hto,hJ,hr,hun⟩:=hv;obtain⟨H2,hro,hr'⟩:=afV h cl hi vE hrd hz hsi.lC hsi.lF hsi.lO hr;obtain⟨S1,hU,hD,hon,hn,hx',hpr⟩:=hsi.run;have hag:∀r,r<(t.T i).nx->ρ.XE (t.T i).nx r=ρ r:=λr hr=>bV.Pu hr;have hlO:=Ji hsi.lC;have hlF:=aaF hsi.lC;refine aae ho (hU c _ J (H2++HK) (Y++X) a w (λe a' w'=>e= .normal/\∃(ρ':bV) (J':World->Prop) (Y':List aO),(ρ.XE (t.T i).nx).to ρ' (t.T i).nx/\(∀w,J' w->J w)/\Rl c N ρ' J' (H2++HK) (Y'++(Y++X)) (lyD F0 D0 (t.T i).M (t.rd i) (t.ac i)::C) S1 a' w') hr' λρ' J' Y' a' w' me k1 k2 k3 k4=>⟨po k3,ρ',J',Y',k1,k2,k4⟩) ?_ (λe a w he q=>absurd q.1 he);rintro a' w' ⟨_,ρ',J',Y',m1,m2,m3⟩ ⟨u2,Df,ha⟩;have Ao:i<l.size:=by omega
 let ρ2:bV:=λr=>if(t.T i).nx<=r/\r<(t.T (i+1)).nx then ρ' r else ρ r
 have hle:ρ.le ρ2:=λr v e=>by
  show(if _ then _ else _)=_;by_cases hc:(t.T i).nx<=r/\r<(t.T (i+1)).nx
  ·rw[hun i hi vE r hc.1 hc.2]at e;cases e
  ·rw[apt hc];exact e
 have aih:∀r,r<(t.T (i+1)).nx->ρ2 r=ρ' r:=λr hr=>by
  show(if _ then _ else _)=_;by_cases hc:(t.T i).nx<=r
  ·rw[aps ⟨hc,hr⟩]
  ·rw[apt λq=>hc q.1,m1 r (by omega),hag r (by omega)]
 have aif:∀r,r<(t.T i).nx->ρ2 r=ρ' r:=λr hr=>aih r (Nat.lt_of_lt_of_le hr (h.step hi));have aon:∀r,r<(t.T i).nx->ρ2 r=ρ r:=λr hr=>by show(if _ then _ else _)=_;rw[apt (by omega)]
 obtain⟨HS1,s1,s3⟩:=m3.hp;rw[hon]at s1;refine hK _ _ ⟨by simpa using size,aiR size cl hi hrd,λq hq hd=>?_,ρ2,J',Y'++Y,λr hr=>(aon r (by omega)).trans (hto r hr),λw q=>hJ w (m2 w q),?_,λq hq hd r r1 r2=>?_⟩
 ·rcases(kx Ao).1 hd with hd|rfl
  ·exact kd q hq hd
  ·exact hk
 ·obtain⟨Hn,pn,rn⟩:=RO.qt (h.akP size cl hi vE kd hk).symm ((s1.jd aih hsi.lN).app (hro.up m2 hle))
  refine⟨m3.tm,?_,⟨m3.si.s,hr.si.n⟩,?_,λy hy=>?_,λr o e=>?_,⟨Hn,rn,?_⟩,by rw[List.append_assoc];exact m3.kn,λr hr'=>?_⟩
  ·have:=m3.df
   rw[hD]at this;exact DR.jd (n:=(t.T i).nx) aif this hlO.2
  ·refine aeJ h size cl hi vE ho hsi.pk ha m2 hle hr.fs λd v hm hlt=>?_
   obtain⟨u,u1,u3⟩:=m3.fs d v (hpr d v hm);exact⟨u,u1,u3.jd aih hlt⟩
  ·rcases List.mem_cons.1 hy with rfl|hy
   ·exact tf.jd (F:=F0) aif (hlF _ List.mem_cons_self) (m3.fc _ List.mem_cons_self)
   ·exact(m3.fc y (apE _ hy)).jd aif (hlF y (apE _ hy))
  ·obtain⟨x,x1,x2⟩:=hr.kc r o e
   exact⟨x,x1,x2.up m2 hle⟩
  ·refine s3.qt ?_
   have:=pn.append_right (HK++((Y'++Y)++X));simpa[List.append_assoc]using this
  ·have hr':(t.T ops.size).nx<=r:=hr'
   have:(t.T (i+1)).nx<=(t.T ops.size).nx:=h.le (by omega) (Nat.le_refl _);show(if _ then _ else _)=_;rw[apt (by omega)];exact hr.fr r hr'
 ·have hq2:¬dn l q:=λx=>hd ((kx Ao).2 (.inl x))
  have hne:q≠i:=λx=>hd ((kx Ao).2 (.inr x));show(if _ then _ else _)=_;have:¬((t.T i).nx<=r/\r<(t.T (i+1)).nx):=λ⟨x1,x2⟩=>by
   rcases Nat.lt_or_ge q i with hlt|hge
   ·have:=h.le (i:=q+1) (j:=i) hlt (Nat.le_of_lt hi);omega
   ·have:=h.le (i:=i+1) (j:=q) (by omega) (Nat.le_of_lt hq);omega
  rw[apt this];exact hun q hq hq2 r r1 r2
theorem aeb{n:Nat}{O O':Os G}(h:O'.Sublist O):Ah n O=true->Ah n O'=true:=by
 induction h with
 |slnil=>exact id
 |cons x _ ih=>
  obtain⟨k,v⟩:=x;intro h;cases v<;>simp only[Ah,apv]at h
  ·exact ih h.2.2
  ·exact ih h.2
  ·exact ih h.2
  ·exact ih h.2
 |cons_cons x _ ih=>
  obtain⟨k,v⟩:=x;intro h;cases v<;>simp only[Ah,apv]at h ⊢
  ·exact⟨h.1,h.2.1,ih h.2.2⟩
  ·exact⟨h.1,ih h.2⟩
  ·exact⟨h.1,ih h.2⟩
  ·exact⟨h.1,ih h.2⟩
theorem an0(h:Hy P N C ops A ws F0 D0 t)(hv:Iv N C ops F0 D0 t c ρ0 J0 HK X n0 l a w)(h0:n0<=(t.T i).nx)(hi:i<ops.size)(vE:¬dn l i)(hrd:∀k∈DL ops i,dn l k){rd ac:List Nat}{v:AV G}{S':AS G}(hp:∀o,ops[i]? =some o->StP P N C ops A ws F0 D0 o i rd ac v (t.T i) S')(hk0:∀q,q<i->t.kd q= .d)(hah:∀q,i<q->q<ops.size->G8 A i (rd++ac) t q)(hq:Aft c N C ρ0 J0 HK X n0 S' (.z9 v) Q):
  wpOpIn (FA c.ro) 0 P ops Q i K a w:=by
 have ho:ops[i]? =some ops[i]:=Array.getElem?_eq_getElem hi;have hsi:=hp _ ho;obtain⟨S1,hU,hD,hn,rfl⟩:=hsi.run;obtain⟨size,cl,kd,ρ,J,Y,hto,hJ,hr,hun⟩:=hv;have hz:=h.akt cl (rd++ac) hi vE hrd kd (λq q1 _ hb=>by
  rcases afL hsi.Yw _ (h.lg (hk0 q q1) (Nat.le_of_lt hi) q1)with e|e
  ·exact absurd e hb
  ·exact e.1) (λq q1 q2 hd=>by
  rcases hah q q1 q2 with⟨_,e1,e2⟩|⟨e,_⟩
  ·rw[e1];exact e2
  ·rw[kd q q2 hd]at e;cases e)
 obtain⟨H2,hro,hr'⟩:=afV h cl hi vE hrd hz hsi.lC hsi.lF hsi.lO hr;have hat:=h.atP (un:=unN A i (t.T i).lg) cl hi vE hrd kd hk0 (λq q1=>by
  have hm:=h.lg (hk0 q q1) (Nat.le_of_lt hi) q1;cases hb:qX A i q with
  |true=>exact .inl rfl
  |false=>
   rcases akI hsi.chu _ hm with e|e
   ·have e:qX A i q=true:=e
    rw[hb]at e;cases e
   ·exact .inr ⟨e,ake _ hm hb⟩) (λq q1 q2 hd=>by
  rcases hah q q1 q2 with⟨_,e1,_⟩|⟨e,_⟩
  ·exact e1
  ·rw[kd q q2 hd]at e;cases e)
 obtain⟨HL,sl,rl⟩:=hro.sub (XQ (p:=λq=> !fk ac q) hat);have hlO:=Ji hsi.lC;have hlC:BA (t.T i).nx C=true:=by have:=hsi.lC;simp only[BA,apv]at this;exact this.2.2.2
 refine aae ho (hU c _ J (H2++HK) (Y++X) a w (λe a' w'=>e≠ .normal/\Q e a' w') hr' λρ' J' Y' a' w' me k1 k2 k3 k4=>⟨sW (by simp) k3,?_⟩) (λa w q=>absurd rfl q.1) (λe a w _ q=>q.2);have hag:∀r,r<(t.T i).nx->ρ' r=ρ r:=λr hr=>(k1 r hr).trans (bV.Pu hr);obtain⟨HS1,s1,s3⟩:=k4.hp;refine hq ρ' J' (Y'++Y) a' w' me (λr hr=>(hag r (by omega)).trans (hto r hr)) (λw q=>hJ w (k2 w q)) k3 ?_;refine⟨k4.tm,?_,⟨k4.si.s,hr.si.n⟩,k4.fc _ List.mem_cons_self,λy hy=>k4.fc y (apE _ hy),λr o e=>?_,⟨HS1++HL,s1.app ((rl.jd hag (aeb (LR.trans LR) hsi.lM)).up k2 (bV.le_refl _)),?_⟩,by rw[List.append_assoc];exact k4.kn,k4.fr⟩
 ·have:=k4.df
  rw[hD]at this;exact this
 ·obtain⟨x,x1,x2⟩:=hr.kc r o e
  exact⟨x,x1,(x2.jd hag (aaE (Ji hlC).1 e)).up k2 (bV.le_refl _)⟩
 ·refine s3.sub ?_
  have:((HS1++HL)++(HK++((Y'++Y)++X))).Sublist ((HS1++H2)++(HK++((Y'++Y)++X))):=(List.Sublist.append_left sl HS1).append (.refl _);simpa[List.append_assoc]using this
theorem aio(h:Hy P N C ops A ws F0 D0 t)(hd:∀q,q<ops.size->dn l q):∀q,q<=ops.size->FL t l q=(t.T q).F:=by
 intro q
 induction q with
 |zero=>intro _;rfl
 |succ q ih=>intro hq;rw[Ej (hd q (by omega)),h.F' (by omega),ih (by omega)]
theorem ahN(h:Hy P N C ops A ws F0 D0 t)(hB:Yl ops []=true){e:Ex G}{S':AS G}(hrun:agi P N C ops A ws F0 D0 ops.toList 0 t e S')(h0:n0<=(t.T 0).nx)(hq:Aft c N C ρ0 J0 HK X n0 S' e Q):∀(fuel:Nat) (l:Array Bool) (a:Act) (w:World),xj ops l<=fuel->Iv N C ops F0 D0 t c ρ0 J0 HK X n0 l a w->wpAnyIn (FA c.ro) 0 P .any ops Q fuel l a w:=by
 have fin:∀(l:Array Bool) (a:Act) (w:World),Iv N C ops F0 D0 t c ρ0 J0 HK X n0 l a w->(∀q,q<ops.size->dn l q)->Q .normal a w:=by
  intro l a w hv hd;obtain⟨size,cl,kd,ρ,J,Y,hto,hJ,hr,_⟩:=hv;rcases hrun.2 with⟨rfl,rfl,hk⟩|⟨j,o,v,_,_,_,j2,j3,_⟩
  ·have hlen:0+ops.toList.length=ops.size:=by simp
   rw[hlen]at hq;rw[ajz h (λq hq=>⟨hd q hq,kd q hq (hd q hq)⟩) _ (Nat.le_refl _),aio h hd _ (Nat.le_refl _)]at hr;refine hq ρ J Y a w .normal hto hJ trivial ?_;obtain⟨HS,q1,q3⟩:=hr.hp;refine⟨hr.tm,hr.df,⟨hr.si.s,hr.si.n⟩,λd v e=>?_,λy hy=>hr.fc y (apE _ hy),hr.kc,⟨HS,q1,q3⟩,hr.kn,hr.fr⟩;have e:gw ((t.T ops.size).F++F0) d=some v:=e;rw[ow]at e;split at e
   ·rename_i v' hv;cases e;exact hr.fs d _ hv
   ·exact hr.fc _ List.mem_cons_self d v e
  ·have hj:j<ops.size:=by
    have:=(List.getElem?_eq_some_iff.1 j2).1;simpa using this
   have:=kd j hj (hd j hj);rw[j3]at this;cases this
 intro fuel
 induction fuel with
 |zero=>
  intro l a w hu hv;have xG:∀i,i<ops.size->dn l i:=λi hi=>by unfold xj at hu;have h0:(List.range ops.size).filter (λi=> !l.getD i false)=[]:=List.length_eq_zero_iff.1 (by omega);rw[List.filter_eq_nil_iff]at h0;have:=h0 i (by simpa using hi);simpa[dn]using this
  refine⟨?_,fin l a w hv xG⟩;cases hr:Region.ready .any ops l with
  |nil=>rfl
  |cons i r=>
   have:i∈Region.ready .any ops l:=by rw[hr];simp
   obtain⟨h1,h2,_⟩:=(Go.Bw.zn hv.size).1 this;exact absurd (xG i h1) h2
 |succ fuel ih=>
  intro l a w hu hv;refine⟨λhr=>fin l a w hv (R7 hB hv.size hr),λi hi=>?_⟩;obtain⟨h1,h2,h3⟩:=(Go.Bw.zn hv.size).1 hi;have hu':xj ops (l.setIfInBounds i true)<=fuel:=by have:=KZ hv.size h1 h2;omega
  have hi0:n0<=(t.T i).nx:=Nat.le_trans h0 (h.le (Nat.zero_le _) (Nat.le_of_lt h1));have go:t.kd i= .d->wpOpIn (FA c.ro) 0 P ops Q i (wpAnyIn (FA c.ro) 0 P .any ops Q fuel (l.setIfInBounds i true)) a w:=by intro hk;refine an1 h hv hi0 h1 h2 h3 hk ?_ λa' w' Rq=>ih _ a' w' hu' Rq;refine h.akt hv.cl _ h1 h2 h3 hv.kd (λq q1 kq hb=>(h.apart h1 q1 kq hk hb).1) λq q1 q2 hd=>?_;have hb:qX A q i≠true:=λhb=>h2 (h.Wm hv.cl hb (hv.cl _ hd));obtain⟨_,a2⟩:=h.apart q2 q1 hk (hv.kd q q2 hd) hb;exact a2
  have hlen:ops.toList.length=ops.size:=by simp
  rcases hrun.2 with⟨_,_,hk⟩|⟨j,o,v,rd,ac,_,j2,j3,rfl,j5,j6,j7⟩
  ·exact go (hk i (Nat.zero_le _) (by omega))
  ·rcases Nat.lt_trichotomy i j with hlt|rfl|hgt
   ·exact go (j6 i (Nat.zero_le _) hlt)
   ·refine an0 h hv hi0 h1 h2 h3 (v:=v) (S':=S') (λo' ho'=>?_) (λq q1=>j6 q (Nat.zero_le _) q1) (λq q1 q2=>j7 q q1 (by omega)) hq
    have j2:ops[i]? =some o:=by simpa using j2
    rw[ho']at j2;cases j2;exact j5
   ·rcases j7 i hgt (by omega)with⟨e,_⟩|⟨_,e⟩
    ·exact go e
    ·have hd:=h.Wm hv.cl e h3
     have hj:j<ops.size:=by omega
     have:=hv.kd j hj hd;rw[j3]at this;cases this
end
section
variable {Z:Type} {rec:WT G Z} {cp:List Nat} {z:Z} {K:Ex G->AS G->Option Z} {S:AS G}
theorem aiH(dB:tG P rec){id:Nat}{ops:Array Oper}{tb:Bp P G}(h:drR tb rec N cp C (.ops ops ops.toList) S K=some z):∃e S',K e S'=some z/\S.nx<=S'.nx/\US P N C (.code (.region id ops true)) S S' e:=by
 unfold drR at h;dsimp only at h;cases hb:(Xm (JZ ops ops.size) (Cs 0 ops.toList) (Cs 0 ops.toList)&&(Yl ops []&&P.follows .mixedOrders))with
 |false=>rw[hb]at h;cases h
 |true=>
  rw[hb]at h;simp only[apv]at hb;obtain⟨b1,b2,b3⟩:=hb;obtain⟨t,e,S',k1,k2,k3⟩:=amb dB h;have hy:Hy P N C ops (JZ ops ops.size) (Cs 0 ops.toList) (nG (λd=> !(wrD d (Cs 0 ops.toList))&& !XJ (Cs 0 ops.toList) S.F d) S.F) S.D t:=by
   refine⟨rfl,rfl,b1,λq o ho=>k3.1 q o (Nat.zero_le _) (by simpa using ho),λd j w x e q=>?_⟩;rw[k2]at e;have e:gw (nG (λd=>wrD d (Cs 0 ops.toList)&& !XJ (Cs 0 ops.toList) S.F d) S.F) d=some (.gd j w x):=e;rw[V2]at e;cases hc:(wrD d (Cs 0 ops.toList)&& !XJ (Cs 0 ops.toList) S.F d)with
   |false=>rw[hc]at e;cases e
   |true=>rw[hc]at e;simp only[cond_true]at e;simp only[apv,Bool.not_eq_true']at hc;have:=hc.2;unfold XJ at this;rw[e]at this;exact akb this q
  have SB:S.nx<=S'.nx:=by
   have h0:(t.T 0).nx=S.nx:=by rw[k2]
   rcases k3.2 with⟨_,rfl,_⟩|⟨j,o,v,rd,ac,_,j2,_,_,hp,_⟩
   ·have:=hy.le (Nat.zero_le _) (Nat.le_refl ops.size)
    simp only[Nat.zero_add,Array.length_toList]at this ⊢;omega
   ·have hj:j<ops.size:=by
     have:=(List.getElem?_eq_some_iff.1 j2).1;simpa using this
    have:=hy.le (Nat.zero_le j) (Nat.le_of_lt hj);obtain⟨S1,_,_,hn,rfl⟩:=hp.run;show S.nx<=S1.nx;omega
  refine⟨e,S',k1,SB,λc ρ J HK X a w Q hr hq=>?_⟩;refine wpIn_region_any b3 ?_;have hdn:∀j,¬dn (Array.replicate ops.size false) j:=λj h=>by unfold dn at h;simp only[Array.getD_eq_getD_getElem?,Array.getElem?_replicate]at h;split at h<;>simp at h
  have hle:S.nx<=(t.T ops.size).nx:=by have:=hy.le (Nat.zero_le _) (Nat.le_refl ops.size);rw[k2]at this;exact this
  refine ahN hy b2 k3 (by rw[k2];exact Nat.le_refl _) hq ops.size _ a _ ?_ ⟨by simp,λj hj=>absurd hj (hdn j),λq _ hd=>absurd hd (hdn q),ρ,J,[],bV.gU _ _,λ_ h=>h,?_,λq hq _ r r1 _ =>hr.fr r ?_⟩
  ·unfold xj
   exact Nat.le_trans (List.length_filter_le _ _) (by simp)
  ·have hF:FL t (Array.replicate ops.size false) ops.size=(t.T 0).F:=by
    have:∀q,FL t (Array.replicate ops.size false) q=(t.T 0).F:=by
     intro q
     induction q with
     |zero=>rfl
     |succ q ih=>rw[C0 (hdn q),ih]
    exact this _
   have hM:ML t (Array.replicate ops.size false) ops.size=(t.T 0).M:=by
    have:∀q,ML t (Array.replicate ops.size false) q=(t.T 0).M:=by
     intro q
     induction q with
     |zero=>rfl
     |succ q ih=>rw[xV (hdn q),ih]
    exact this _
   rw[hF,hM];have e0:=k2;rw[k2];obtain⟨HS,q1,q3⟩:=hr.hp;refine⟨hr.tm,hr.df,⟨hr.si.s.drawn _,hr.si.n⟩,hr.fs.fil,λy hy=>?_,λr o e=>hr.kc r o e,⟨HS,q1,⟨λr hr=>q3.holds r hr,q3.own,q3.apart⟩⟩,hr.kn,λr hr'=>hr.fr r (Nat.le_trans hle hr')⟩;rcases List.mem_cons.1 hy with rfl|hy
   ·exact hr.fs.fil
   ·exact hr.fc y hy
  ·have:=hy.le (Nat.zero_le q) (Nat.le_of_lt hq)
   rw[k2]at this;exact Nat.le_trans this r1
end
end Go.Rw
namespace Go.Rw
open Go Go.Bw Go.RowKit
variable {G:Sg} {P:Program} {N:Nat} {C:CC G} {Z:Type}
theorem F7{S:AS G}{l:List (Src×Sh)}:(pO C S l).nx=S.nx:=by
 unfold pO;split
 ·exact Au _ _
 ·rfl
theorem ac5{cf:Cf}{S S3:AS G}{e:Ex G}(l:List (Src×Sh))(h:US P N C cf (pO C S l) S3 e):US P N C cf S S3 e:=by
 unfold pO at h;split at h
 ·exact FR _ h
 ·exact h
theorem Rl.pO{c:Cx}{ρ:bV}{J:World->Prop}{HK X:List aO}{S:AS G}{a:Act}{w:World}(l:List (Src×Sh))(h:Rl c N ρ J HK X C S a w):∃(J':World->Prop) (Y:List aO),(∀w,J' w->J w)/\Rl c N ρ J' HK (Y++X) C (pO C S l) a w:=by
 unfold Go.Rw.pO;split
 ·exact h.Co _
 ·exact⟨J,[],λ_ h=>h,h⟩
def xN(N:Nat)(C:CC G):List Nat->AV G->AS G->Option (AS G)
 |[], .nil,S=>some S
 |p::ps, .cons v r,S=>match yP N C (some p) v S with
  |some S'=>bif Ed v then xN N C ps r S' else none
  |none=>none
 |_,_,_ =>none
theorem ae3{z:Z}:∀{ps:List Nat} {v:AV G} {S:AS G} {k:AS G->Option Z},N4 N C ps v S k=some z->∃S',xN N C ps v S=some S'/\k S'=some z:=by
 intro ps
 induction ps with
 |nil=>intro v S k h;cases v<;>first|(exact⟨S,rfl,h⟩)|(simp[N4]at h)
 |cons p ps ih=>
  intro v S k h;cases v<;>first|(simp[N4]at h;done)|skip
  rename_i v' r;simp only[N4]at h;split at h
  ·rename_i S2 hS
   cases hb:Ed v' with
   |false=>rw[hb]at h;cases h
   |true=>rw[hb]at h;obtain⟨S3,k1,k2⟩:=ih h;exact⟨S3,by simp only[xN,hS,hb,cond_true];exact k1,k2⟩
  ·cases h
theorem ab3:∀{ps:List Nat} {v:AV G} {S S':AS G},xN N C ps v S=some S'->S'.nx=S.nx:=by
 intro ps
 induction ps with
 |nil=>intro v S S' e;cases v<;>first|(simp[xN]at e;done)|(have e:S=S':=(by simpa[xN]using e);rw[e])
 |cons p ps ih=>
  intro v S S' e;cases v<;>first|(simp[xN]at e;done)|skip
  rename_i v r;simp only[xN]at e;split at e
  ·rename_i S2 hS
   cases hb:Ed v with
   |false=>rw[hb]at e;cases e
   |true=>rw[hb]at e;exact(ih e).trans (rj hS)
  ·cases e
theorem Rl.bind{c:Cx}{ρ:bV}{J:World->Prop}{HK X:List aO}{w:World}:∀{ps:List Nat} {v:AV G} {S S':AS G} {a:Act} {us:List Value},Rl c N ρ J HK X C S a w->xN N C ps v S=some S'->rl J ρ v us->
  Rl c N ρ J HK X C S' {a with tmps:=(ps.zip us).foldl (λt q=>t.setIfInBounds q.1 q.2) a.tmps} w/\S'.nx=S.nx:=by
 intro ps
 induction ps with
 |nil=>
  intro v S S' a us h e hv;cases v<;>first|(simp[xN]at e;done)|skip
  have e:S=S':=by simpa[xN]using e
  subst e;exact⟨h,rfl⟩
 |cons p ps ih=>
  intro v S S' a us h e hv;cases v<;>first|(simp[xN]at e;done)|skip
  rename_i v r;simp only[xN]at e;split at e
  ·rename_i S2 hS
   cases hb:Ed v with
   |false=>rw[hb]at e;cases e
   |true=>rw[hb]at e;obtain⟨u,us',rfl,h1,h2⟩:=hv;have hp:=h.put hS (U5 h1 _);obtain⟨q1,q2⟩:=ih hp e h2;exact⟨q1,q2.trans (rj hS)⟩
  ·cases e
theorem RA{J:World->Prop}{ρ:bV}{A B:Fr G}{t:Array Value}(h:tf J ρ A t)(k:tf J ρ B t):tf J ρ (A++B) t:=λd v e=>by
 rw[ow]at e;split at e
 ·rename_i v' hv;cases e;exact h d _ hv
 ·exact k d v e
theorem aip{J:World->Prop}{ρ:bV}{t:Array Value}:∀{C:CC G},FC J ρ C t->tf J ρ (flF C) t:=by
 intro C
 induction C with
 |nil=>intro _ d v e;cases e
 |cons y r ih=>intro h;exact RA (h y List.mem_cons_self) (ih λz hz=>h z (apE _ hz))
theorem Rl.Zu{c:Cx}{ρ:bV}{J:World->Prop}{X B:List aO}{d0:aO}{l:Nat}{o o':Obj}{S:AS G}{a:Act}{w:World}(h:Rl c N ρ J (d0:: .obj l o::B) X C S a w)(ho:∀b,aiV b o->aiV b o'):
  Rl c N ρ J (d0:: .obj l o'::B) X C S a (w.putObj l o')/\w.heap[l]? =some o:=by
 obtain⟨HS,q1,q3⟩:=h.hp;have pm:∀x:aO,(HS++((d0::x::B)++X)).Perm (x::(HS++(d0::(B++X)))):=λx=>by simpa using(List.perm_middle (a:=x) (l₁:=HS++[d0]) (l₂:=B++X))
 have q4:=q3.qt (pm _);have hm:aO.obj l o∈(aO.obj l o::(HS++(d0::(B++X)))):=List.mem_cons_self;have hd:w.heap[l]? =some o:=q4.holds _ hm;have hlt:=(apA.1 hd).1;have qS:bI [l] w (w.putObj l o'):=⟨rfl,rfl,rfl,by simp[World.putObj],λk _ hk=>World.putObj_heap_other (by simpa using hk)⟩;have q5:=q4.set (k:=0) (r':= .obj l o') rfl qS.size (λj hj hne=>qS.block j hj hne) (World.putObj_heap_same hlt) h.si.s.size (λb' hb'=>by
  have e:b'=l:=by simpa[aO.eW]using hb'
  subst e;exact⟨.inl (by simp[aO.eW]),by rw[World.putObj];simpa using hlt⟩)
 refine⟨⟨h.tm,h.df,⟨h.si.s.store q4 hm (by simp[aO.eW]) qS,h.si.n⟩,h.fs,h.fc,λr ob e=>?_,⟨HS,q1,q5.qt (pm _).symm⟩,h.kn,h.fr⟩,hd⟩;obtain⟨y,y1,y2⟩:=h.kc r ob e;rcases List.mem_cons.1 y1 with rfl|y1
 ·exact⟨_,List.mem_cons_self,y2⟩
 ·rcases List.mem_cons.1 y1 with rfl|y1
  ·refine⟨_,apE _ List.mem_cons_self,?_⟩
   cases ob with
   |eW T c=>obtain⟨_,_,_,e,_⟩:=y2;cases e
   |row _ _ _ _ =>obtain⟨_,_,_,e,_⟩:=y2;cases e
   |gm=>obtain⟨_,e⟩:=y2;cases e
   |aux b=>obtain⟨n,x,m1,e,m3⟩:=y2;cases e;exact⟨_,_,m1,rfl,ho b m3⟩
  ·exact⟨y,apE _ (apE _ y1),y2⟩
inductive RgT(P:Program)(N:Nat)(C':CC G)(ps:List Nat)(a b:Code)(g:gE)(base:Nat)(it:It P G):List it.B->HL G (bz (wo g.l))->Ex G->AS G->Prop
 |nil {e:HL G (bz (wo g.l))}:RgT P N C' ps a b g base it [] e .pB (stR g base e)
 |fA {y:it.B} {l:List it.B} {e e':HL G (bz (wo g.l))} {S2 S3 S4 Sf:AS G} {e1:Ex G} (hb:xN N C' ps (iL (λm=>m) it.ys (it.en y) 0).1 (stR g base e)=some S2) (h1:US P N C' (.code a) S2 S3 .pB) (n1:S2.nx<=S3.nx)
   (h2:US P N C' (.code b) S3 S4 .pB) (hg:Lz C' (pO C' S4 g.l) g base=some e') (k:RgT P N C' ps a b g base it l e' e1 Sf):RgT P N C' ps a b g base it (y::l) e e1 Sf
 |stop {y:it.B} {l:List it.B} {e:HL G (bz (wo g.l))} {S2 S3 S4:AS G} {e1:Ex G} (hb:xN N C' ps (iL (λm=>m) it.ys (it.en y) 0).1 (stR g base e)=some S2) (h1:US P N C' (.code a) S2 S3 .pB) (n1:S2.nx<=S3.nx)
   (h2:US P N C' (.code b) S3 S4 e1) (he:e1= .ret\/∃i,e1= .exit i) (hD:S4.D=[]):RgT P N C' ps a b g base it (y::l) e e1 S4
structure Gh(G:Sg)(L:List Ty) where
 e:HL G L
 ρ:bV
 J:World->Prop
 Y:List aO
 HB:List aO
structure ajF(ρ3:bV)(base:Nat)(X1 L0:List aO)(O:Os G)(nx:Nat){L:List Ty}(i:Gh G L):Prop where
 to:ρ3.to i.ρ base
 mJ:∀w,i.J w->Hs X1 w
 ro:RO i.J i.ρ O i.HB
 kn:Yz G (i.Y++X1) i.J
 fr:i.ρ.fr nx
 ap:∀b∈cy (i.HB++(L0++i.Y)),b∉cy X1
theorem akE{N:Nat}:∀{ps:List Nat},psN N ps=true->ps.all (Nat.blt · N)=true:=by
 intro ps
 induction ps with
 |nil=>intro _;rfl
 |cons p r ih=>intro h;simp only[psN,apv]at h;simp only[List.all_cons,apv];exact⟨h.1,ih h.2⟩
theorem Jm{bs:List Nat}{n0:Nat}{H X:List aO}{w:World}(h:cI bs n0 H w)(hs:∀r∈X,r∈H):Hs X w:=λr hr=>⟨h.holds r (hs r hr),λb hb=>(h.own r (hs r hr) b hb).2⟩
theorem YT{gop:Operand}{ps:Array Nat}{a b:Code}{S S1:AS G}{it:It P G}{cap v:AV G}{x:HL G (bz it.yU)}{g1 g2:GS G}{g:gE}{x0:HL G (bz (wo g.l))}{l:List it.B}{e1:Ex G}{Sf:AS G}
  (Yu:mR C S [] gop=some (.fn (.func it.k) .nil cap))(Lw:qU it.yU cap ⟨[],S.O,S.nx⟩=some (x,g1))(hS1:pO C ⟨S.F,g1.O,g1.nx,S.D⟩ g.l=S1)(hv:HC C ⟨S1.F,S1.O,S1.nx+2,S1.D⟩ g.l=some v)
  (ah1:qU (wo g.l) v ⟨[],S1.O,S1.nx+2⟩=some (x0,g2))(b1:Ad g.nm g2.th=true)(b2:Ae (S1.nx+2) g.nm=true)(hn:it.n=ps.size)(hrd:Lj (zk C)=true)(hl:BA (S1.nx+2) (lyR ps.toList a b C S1 g2.O)=true)
  (hlO:Ah (S1.nx+2) g2.O=true)(hlC:BA (S1.nx+2) C=true)(hps:psN N ps.toList=true)(hf:it.f x=some l)(ht:RgT P N (lyR ps.toList a b C S1 g2.O) ps.toList a b g (S1.nx+2) it l x0 e1 Sf):
  US P N C (.code (.rangeFunc gop ps a b)) S (Xj S1.nx S1 g2.O Sf) e1:=by
 intro c ρ J HK X ac w Q hr hq;obtain⟨fs,cs,e2,r1,r3⟩:=Av ((gB hr (ch:=[]) (by simp)).ok _ _ Yu);have r1:fs=[]:=r1;subst r1;obtain⟨HS,q1,q3⟩:=hr.hp;obtain⟨ρ2,Yh,H1,k⟩:=LF Lw r3 q1 hr.fr;have kto:ρ.to ρ2 S.nx:=k.to;have Ru:ρ.le ρ2:=kto.le hr.fr;have SA:Rl c N ρ2 J (Yh++HK) X C ⟨S.F,g1.O,g1.nx,S.D⟩ ac w:=by
  refine⟨hr.tm,hr.df.up (λ_ h=>h) Ru,hr.si,hr.fs.up (λ_ h=>h) Ru,hr.fc.up (λ_ h=>h) Ru,λr o e=>?_,⟨H1,k.left,?_⟩,hr.kn,k.fr⟩
  ·obtain⟨y,y1,y2⟩:=hr.kc r o e
   exact⟨y,apy _ y1,y2.up (λ_ h=>h) Ru⟩
  ·have:=k.hp (HK++X) _ _ _ q3
   refine this.qt ?_;rw[List.append_assoc];exact List.perm_append_comm_assoc Yh H1 _
 obtain⟨J1,Y1,mJ,h3⟩:=SA.pO g.l;rw[hS1]at h3;have aol:S1.nx=g1.nx:=by rw[← hS1,F7]
 obtain⟨ρ3,hρ3⟩:∃ρ3:bV,ρ3=(ρ2.set S1.nx (gk w.heap.size 0)).set (S1.nx+1) (gk (w.heap.size+1) 0):=⟨_,rfl⟩;have t3:ρ2.to ρ3 S1.nx:=by rw[hρ3];exact(bV.sJ ρ2 S1.nx _).trans (bV.sJ _ (S1.nx+1) _) (by omega)
 have f3:ρ3.fr (S1.nx+2):=by rw[hρ3];exact bV.EI (bV.EI h3.fr _) _
 have l3:ρ2.le ρ3:=t3.le h3.fr;have d3:ρ3 S1.nx=some (gk w.heap.size 0):=by rw[hρ3];simp[bV.set]
 have o3:ρ3 (S1.nx+1)=some (gk (w.heap.size+1) 0):=by rw[hρ3];simp[bV.set]
 have h4:Rl c N ρ3 J1 (Yh++HK) (Y1++X) C ⟨S1.F,S1.O,S1.nx+2,S1.D⟩ ac w:=by obtain⟨HS',s1,s3⟩:=h3.hp;exact⟨h3.tm,h3.df.up (λ_ h=>h) l3,h3.si,h3.fs.up (λ_ h=>h) l3,h3.fc.up (λ_ h=>h) l3,h3.Yp (λ_ h=>h) l3,⟨HS',s1.up (λ_ h=>h) l3,s3⟩,h3.kn,f3⟩
 obtain⟨ρ',ρ5,HB,H',hto,ht5,Lx,hleft,_,hp,_,_,hfr⟩:=Vr h4 hv ah1 b1 b2 (Nat.le_refl _) hlC;have hto:ρ3.to ρ' (S1.nx+2):=hto;obtain⟨X1,hX1⟩:∃X1,X1=Y1++X:=⟨_,rfl⟩;have VN:Yz G X1 J1:=by rw[hX1];exact h4.kn
 rw[← hX1]at hp;have aa7:∀{σ:bV} {J':World->Prop},ρ3.to σ (S1.nx+2)->(∀w,J' w->Hs X1 w)->RO J' σ g2.O H':=λ{σ J'} hs hm=>(hleft.jd (λr hr'=>(hs r hr').trans (ht5 r hr').symm) hlO).up (λw q=>VN.to w (hm w q)) (bV.le_refl _);have hkc:∀{σ:bV} {J':World->Prop},ρ3.to σ (S1.nx+2)->(∀w,J' w->Hs X1 w)->∀r o,gw (zk C) r=some o->∃x∈HK,ro J' σ r o x:=λ{σ J'} hs hm=>hr.Yp (λw q=>mJ w (VN.to w (hm w q))) (bV.le_trans Ru (bV.le_trans l3 (hs.le f3)));obtain⟨yb,en1,en2,hit⟩:=it.ok (cmp ρ2 g1.th) (Hs X1) Yh X1 cs x l hf (k.val.mono λw q=>mJ w (VN.to w q)) (k.eW.up (λw q=>mJ w (VN.to w q)) (bV.le_refl _)) ⟨λ_ h=>h,VN.ex,VN.gl.mono VN.to⟩ (λr hr'=>by
  unfold cmp;rw[List.getElem?_eq_none (by have:=k.SE;exact Nat.le_trans (Nat.le_of_eq this.symm) hr')])
 obtain⟨C',hC'⟩:∃C',C'=lyR ps.toList a b C S1 g2.O:=⟨_,rfl⟩;rw[← hC']at hl ht;obtain⟨H0,hH0⟩:∃H0,H0=Yh++(HB++((H'++HK)++[])):=⟨_,rfl⟩;have XC:cI c.bs c.w0.heap.size (H0++X1) w:=hp.qt (by
  rw[hH0];have:(HB++(H'++((Yh++HK)++X1))).Perm (Yh++(HB++(H'++(HK++X1)))):=by rw[List.append_assoc Yh];refine(List.Perm.append_left HB (List.perm_append_comm_assoc H' Yh _)).trans ?_;exact List.perm_append_comm_assoc HB Yh _
  simpa using this)
 have hX:Hs X1 w:=Jm XC λr hr'=>apy _ hr';have apX:∀b∈cy H0,b∉cy X1:=λb h1 h2=>by obtain⟨r,r1,r2⟩:=bO.1 h1;obtain⟨r',r3,r4⟩:=bO.1 h2;exact(List.pairwise_append.1 XC.apart).2.2 r r1 r' r3 b r2 r4
 have ltX:∀b∈cy X1,b<w.heap.size:=λb h2=>by obtain⟨r',r3,r4⟩:=bO.1 h2;exact(hX r' r3).2 b r4
 have akw:∀{w'},Apt H0 w w'->∀b∈cy X1,w'.heap[b]? =w.heap[b]? :=λ{w'} ha b hb=>ha.2 b (ltX b hb) λh=>apX b h hb;have VF:∀{w'},Apt H0 w w'->Hs X1 w':=λ{w'} ha r hr'=>⟨aO.oy (hX r hr').1 ha.1 λb hb=>akw ha b (bO.2 ⟨r,hr',hb⟩),λb hb=>Nat.lt_of_lt_of_le ((hX r hr').2 b hb) ha.1⟩;have pwX:X1.Pairwise aO.apart:=(List.pairwise_append.1 XC.apart).2.1;have aiZ:∀{bs:List Nat} {n0:Nat} {L:List aO} {w':World},cI bs n0 L w'->Hs X1 w'->(∀b∈cy L,b∉cy X1)->(∀b∈cy X1,b∈bs\/n0<=b)->cI bs n0 (L++X1) w':=λ{bs n0 L w'} h1 h2 h3 h4=>⟨λr hr'=>(List.mem_append.1 hr').elim (h1.holds r) λh=>(h2 r h).1,λr hr' b hb=>(List.mem_append.1 hr').elim (λh=>h1.own r h b hb) λh=>⟨h4 b (bO.2 ⟨r,h,hb⟩),(h2 r h).2 b hb⟩,
   List.pairwise_append.2 ⟨h1.apart,pwX,λr r1 s s1 b b1 b2=>h3 b (bO.2 ⟨r,r1,b1⟩) (bO.2 ⟨s,s1,b2⟩)⟩⟩
 have anN:∀b∈cy X1,b∈c.bs\/c.w0.heap.size<=b:=λb h2=>by obtain⟨r',r3,r4⟩:=bO.1 h2;exact(XC.own r' (apy _ r3) b r4).1
 have fin:∀(i:Gh G (bz (wo g.l))) (w2:World) (Sx:AS G),ajF ρ3 (S1.nx+2) X1 (H'++HK) Sx.O Sx.nx i->Apt H0 w w2->St N c (Go.Bw.mark w.heap.size::ac.defers) [] (.obj w.heap.size (.deferred (some []))::([]++(i.HB++((H'++HK)++i.Y)))) {ac with defers:=Go.Bw.mark w.heap.size::ac.defers} w2->
   ρ.to i.ρ S.nx/\(∀w,i.J w->J w)/\Rl c N i.ρ i.J HK ((i.Y++Y1)++X) C (Xj S1.nx S1 g2.O Sx) {ac with defers:=Go.Bw.mark w.heap.size::ac.defers} w2:=λi w2 Sx hi ha hst=>by
  have hle:ρ3.le i.ρ:=hi.to.le f3;have aom:S.nx<=S1.nx:=by rw[aol];exact k.nx
  have mJ1:∀w,i.J w->J1 w:=λw q=>VN.to w (hi.mJ w q);refine⟨(kto.trans t3 aom).trans hi.to (by omega),λw q=>mJ w (mJ1 w q),hst.tm,?_,⟨hst.si,hr.si.n⟩,h4.fs.up mJ1 hle,h4.fc.up mJ1 hle,hkc hi.to hi.mJ,⟨.obj w.heap.size (.deferred (some []))::(i.HB++H'), .cons ⟨_,_,?_,rfl,rfl⟩ (hi.ro.app (aa7 hi.to hi.mJ)),?_⟩,by rw[List.append_assoc, ← hX1];exact hi.kn,hi.fr⟩
  ·exact .cons ⟨rfl,_,(hi.to S1.nx (by omega)).trans d3,rfl⟩ (h4.df.up mJ1 hle)
  ·exact(hi.to S1.nx (by omega)).trans d3
  ·have h1:=hst.hp.sub (List.Sublist.cons_cons _ (List.sublist_append_right [] _))
   have h2:=aiZ h1 (VF ha) (λb hb hx=>by
    have hb:b=w.heap.size\/b∈cy (i.HB++((H'++HK)++i.Y)):=by simpa[cy,aO.eW]using hb
    rcases hb with rfl|hb
    ·exact absurd (ltX _ hx) (by omega)
    ·exact hi.ap b hb hx) anN
   rw[hX1]at h2;refine h2.qt ?_;simp only[List.append_assoc,List.cons_append];exact .refl _
 have key:=X5 (P:=P) (N:=N) (c:=c) (D:=ac.defers) (Q:=Q) (g:=gop) (ps:=ps.toList) (assign:=a) (body:=b) (gf:=it.k) (n:=l.length) (caps:=cs.toArray) (Hc:=Yh) (Ho:=[]) (yb:=yb) (α:=Gh G (bz (wo g.l))) (β:=Gh G (bz (wo g.l))) (a:=ac) (w:=w)
  (H:=H0) ⟨hr.tm,λd v e=>by simp[lk]at e,rfl,hr.si.s,XC.sub (List.sublist_append_left _ _)⟩ (hr.si.n hrd) e2 (λargs w=>by
   obtain⟨fn,f1,f2,f5⟩:=it.fn;have h1:fn.name≠ "runtime.NumGoroutine" :=by simpa using f5
   obtain⟨code,f2⟩:=Option.isSome_iff_exists.1 f2;simp[callFunc,f1,h1,f2,Go.mark]) (λly Jy Jx bs W1 ha qT hpE hR=>hit ly Jy Jx bs W1 (aiZ (L:= .ext bs (Jy 0 bs)::Yh) ⟨hpE.holds,λr hr' b hb=>⟨(hpE.own r hr' b hb).1.imp (λh=>(List.mem_append.1 h).elim (λh=>apz _ h) λh=>apy _ (apz _ h)) id,(hpE.own r hr' b hb).2⟩,hpE.apart⟩ (VF ha) (λb hb hx=>by
    have hb:b∈bs\/b∈cy Yh:=by simpa[cy,aO.eW]using hb
    rcases hb with hb|hb
    ·rcases qT b hb with hb|hb
     ·exact apX b hb hx
     ·exact absurd (ltX _ hx) (by omega)
    ·refine apX b ?_ hx
     rw[hH0];obtain⟨r,r1,r2⟩:=bO.1 hb;exact bO.2 ⟨r,apz _ r1,r2⟩) λb hb=> .inl (apy _ (apy _ hb))) hR) (λk=>by rw[en2,hn];simp) (akE hps)
  (λk i=>ajF ρ3 (S1.nx+2) X1 (H'++HK) (stR g (S1.nx+2) i.e).O (stR g (S1.nx+2) i.e).nx i/\RgT P N C' ps.toList a b g (S1.nx+2) it (l.drop k) i.e e1 Sf) (λ_ i=>i.HB++((H'++HK)++i.Y))
  (λj i=>ajF ρ3 (S1.nx+2) X1 (H'++HK) Sf.O Sf.nx i/\((e1= .ret/\j= .ret)\/∃id,e1= .exit id/\j= .exit id)) (λi=>i.HB++((H'++HK)++i.Y))
  ⟨x0,ρ',Hs X1,[],HB⟩ ⟨⟨hto,λ_ h=>h,Lx.up VN.to (bV.le_refl _),⟨λ_ h=>h,VN.ex,VN.gl.mono VN.to⟩,hfr,λb hb=>apX b (by
   rw[hH0];obtain⟨r,r1,r2⟩:=bO.1 hb;exact bO.2 ⟨r,apy _ r1,r2⟩)⟩,by simpa using ht⟩ hH0
  ?_ ?_ ?_
 ·rwa[Array.toArray_toList]at key
 ·rintro k ⟨ie,iρ,iJ,iY,iHB⟩ rec bs W hk ⟨hi,hrun⟩ hrs hrp hn0 hT haW hpW
  dsimp only at hrun hpW;have hle:ρ3.le iρ:=hi.to.le f3;have mJ1:∀w,iJ w->J1 w:=λw q=>VN.to w (hi.mJ w q);obtain⟨y,hy,alQ⟩:∃y,l[k]? =some y/\l.drop k=y::l.drop (k+1):=⟨l[k],apB hk,List.drop_eq_getElem_cons hk⟩;rw[alQ]at hrun;have hpX:cI (bs++cy X1) W.heap.size ((.obj w.heap.size (.deferred (some [])):: .obj (w.heap.size+1) (.loop rec)::(iHB++((H'++HK)++iY)))++X1) W:=by
   refine aiZ ⟨hpW.holds,λr hr' b hb=>⟨(hpW.own r hr' b hb).1.imp (λh=>apz _ h) id,(hpW.own r hr' b hb).2⟩,hpW.apart⟩ (VF haW) (λb hb hx=>?_) λb hb=> .inl (apy _ hb);have hb:b=w.heap.size\/b=w.heap.size+1\/b∈cy (iHB++((H'++HK)++iY)):=by simpa[cy,aO.eW]using hb
   rcases hb with rfl|rfl|hb
   ·exact absurd (ltX _ hx) (by omega)
   ·exact absurd (ltX _ hx) (by omega)
   ·exact hi.ap b hb hx
  have H7:Rl ⟨some (w.heap.size+1),W,bs++cy X1⟩ N iρ iJ (.obj w.heap.size (.deferred (some [])):: .obj (w.heap.size+1) (.loop rec)::(H'++HK)) (iY++X1) C' (stR g (S1.nx+2) ie) ⟨ac.tmps,[]⟩ W:=by
   subst hC';refine⟨hr.tm, .nil,⟨bI.refl _ _,λq=>(by cases q)⟩,λd v e=>(by cases e),λy hy=>?_,λr o e=>?_,⟨iHB,hi.ro,hpX.qt ?_⟩,hi.kn,hi.fr⟩
   ·have:y=_ :=List.mem_singleton.1 hy
    subst this;exact((RA h4.fs (aip h4.fc)).fil).up mJ1 hle
   ·have e:gw (((S1.nx+1,Ob.aux false)::(g2.O++zk C))++[]) r=some o:=e
    rw[List.append_nil]at e;simp only[gw]at e;cases hb:Nat.beq (S1.nx+1) r with
    |true=>rw[hb]at e;cases e;obtain rfl:=apu hb;exact⟨_,apE _ List.mem_cons_self,_,_,(hi.to (S1.nx+1) (by omega)).trans o3,rfl,rec,rfl⟩
    |false=>
     rw[hb]at e;simp only[cond_false]at e;rw[ow]at e;split at e
     ·rename_i v' Rq
      cases e;obtain⟨x,x1,x2⟩:=(aa7 hi.to hi.mJ).lk Rq;exact⟨x,by simp[x1],x2⟩
     ·obtain⟨x,x1,x2⟩:=hkc hi.to hi.mJ r o e
      exact⟨x,by simp[x1],x2⟩
   ·have e1:iHB++((.obj w.heap.size (.deferred (some [])):: .obj (w.heap.size+1) (.loop rec)::(H'++HK))++(iY++X1))=iHB++(.obj w.heap.size (.deferred (some [])):: .obj (w.heap.size+1) (.loop rec)::((H'++HK)++(iY++X1))):=by simp
    rw[e1];have:=((List.perm_middle (a:=aO.obj w.heap.size (.deferred (some []))) (l₁:=iHB) (l₂:= .obj (w.heap.size+1) (.loop rec)::((H'++HK)++(iY++X1)))).trans (List.Perm.cons _ List.perm_middle)).symm;simpa using this
  have hT':∀b,(b∈(⟨some (w.heap.size+1),W,bs⟩:Cx).bs\/(⟨some (w.heap.size+1),W,bs⟩:Cx).w0.heap.size<=b)->(b∈c.bs\/c.w0.heap.size<=b):=hT;have gX:∀{Hb Hy:List aO} {o:Obj} {w3:World} {a2:Act},a2.tmps.size=N->a2.defers=[]->bI (bs++cy X1) W w3->cI (bs++cy X1) W.heap.size (Hb++((.obj w.heap.size (.deferred (some [])):: .obj (w.heap.size+1) o::(H'++HK))++(Hy++(iY++X1)))) w3->
    St N ⟨some (w.heap.size+1),W,bs⟩ [] [] (.obj w.heap.size (.deferred (some [])):: .obj (w.heap.size+1) o::(Hb++((H'++HK)++(Hy++iY)))) a2 w3/\∀b∈cy (Hb++((H'++HK)++(Hy++iY))),b∉cy X1:=λ{Hb Hy o w3 a2} u1 u2 u3 u4=>by
   have e1:Hb++((.obj w.heap.size (.deferred (some [])):: .obj (w.heap.size+1) o::(H'++HK))++(Hy++(iY++X1)))=Hb++(.obj w.heap.size (.deferred (some [])):: .obj (w.heap.size+1) o::(((H'++HK)++(Hy++iY))++X1)):=by simp
   rw[e1]at u4;have u5:=u4.qt ((List.perm_middle (a:=aO.obj w.heap.size (.deferred (some []))) (l₁:=Hb)).trans (List.Perm.cons _ List.perm_middle));have e2:(aO.obj w.heap.size (.deferred (some []))::aO.obj (w.heap.size+1) o::(Hb++(((H'++HK)++(Hy++iY))++X1)))=(.obj w.heap.size (.deferred (some [])):: .obj (w.heap.size+1) o::(Hb++((H'++HK)++(Hy++iY))))++X1:=by simp
   rw[e2]at u5;have hX3:Hs X1 w3:=Jm u5 λr hr'=>apy _ hr';have apL:∀b∈cy (.obj w.heap.size (.deferred (some [])):: .obj (w.heap.size+1) o::(Hb++((H'++HK)++(Hy++iY)))),b∉cy X1:=λb h1 h2=>by obtain⟨r,r1,r2⟩:=bO.1 h1;obtain⟨r',r3,r4⟩:=bO.1 h2;exact(List.pairwise_append.1 u5.apart).2.2 r r1 r' r3 b r2 r4
   refine⟨⟨u1,λd v e=>by simp[lk]at e,u2,⟨u3.os,u3.tape,u3.output,u3.size,λb h1 h2=>?_⟩,⟨λr hr'=>u5.holds r (apz _ hr'),λr hr' b hb=>?_,(List.pairwise_append.1 u5.apart).1⟩⟩,λb hb=>apL b ?_⟩
   ·rcases Classical.em (b∈cy X1)with hx|hx
    ·exact VN.ex W w3 (VF haW) hX3 b hx
    ·exact u3.block b h1 λh=>(List.mem_append.1 h).elim h2 hx
   ·obtain⟨o1,o2⟩:=u5.own r (apz _ hr') b hb
    refine⟨?_,o2⟩;rcases o1 with o1|o1
    ·exact(List.mem_append.1 o1).elim .inl λhx=>absurd hx (apL b (bO.2 ⟨r,hr',hb⟩))
    ·exact .inr o1
   ·obtain⟨r,r1,r2⟩:=bO.1 hb
    exact bO.2 ⟨r,apE _ (apE _ r1),r2⟩
  have aph:(stR g (S1.nx+2) ie).nx=S1.nx+2+g.nm.length:=rfl;cases hrun with
  |fA hb h1 n1 h2 hg kk=>
   obtain⟨hb1,SB⟩:=H7.bind hb ((en1 iρ k y hy).mono hi.mJ);refine h1 ⟨some (w.heap.size+1),W,bs++cy X1⟩ iρ iJ _ _ _ W _ hb1 λρa Ja Ya a1 w1 me t1 m1 x1 z1=>?_;rw[po x1];obtain⟨z2,hh⟩:=z1.Zu (o':= .loop {rec with state:= .busy}) (λb hb=>by cases b with
    |true=>cases hb
    |false=>exact⟨_,rfl⟩)
   refine⟨_,run_beginRound hh hrs,?_⟩;refine h2 ⟨some (w.heap.size+1),W,bs++cy X1⟩ ρa Ja _ _ a1 _ _ z2 λρb Jb Yb a2 w3 me t2 m2 x2 z3=>?_;rw[po x2];obtain⟨Jc,Yc,mc,z4⟩:=z3.pO g.l;obtain⟨ρc,tc,z5⟩:=ad8 z4 hg hl;obtain⟨HB5,r5,p5⟩:=z5.hp;have hd:a2.defers=[]:=by have h0:=z5.df;subst hC';have h0:DR Jc ρc ([]:List (AV G)) a2.defers:=h0;generalize a2.defers=D0 at h0;cases h0;rfl
   have e5:Yc++(Yb++(Ya++(iY++X1)))=(Yc++(Yb++Ya))++(iY++X1):=by simp
   rw[e5]at p5;obtain⟨st5,ap5⟩:=gX z5.tm hd z5.si.s p5;refine adx (l:=w.heap.size+1) (dd:=w.heap.size) (rec:=rec) hrs hrp hT' st5 ⟨_,ρc,Jc,(Yc++(Yb++Ya))++iY,HB5⟩ ⟨⟨λr hr'=>?_,λw q=>hi.mJ w (m1 w (m2 w (mc w q))),r5,?_,z5.fr,ap5⟩,kk⟩ rfl
   ·exact(tc r hr').trans ((t2 r (by omega)).trans ((t1 r (by omega)).trans (hi.to r hr')))
   ·have:=z5.kn
    rw[e5, ← List.append_assoc]at this;exact this
  |stop hb h1 n1 h2 he hD=>
   obtain⟨hb1,SB⟩:=H7.bind hb ((en1 iρ k y hy).mono hi.mJ);refine h1 ⟨some (w.heap.size+1),W,bs++cy X1⟩ iρ iJ _ _ _ W _ hb1 λρa Ja Ya a1 w1 me t1 m1 x1 z1=>?_;rw[po x1];obtain⟨z2,hh⟩:=z1.Zu (o':= .loop {rec with state:= .busy}) (λb hb=>by cases b with
    |true=>cases hb
    |false=>exact⟨_,rfl⟩)
   refine⟨_,run_beginRound hh hrs,?_⟩;refine h2 ⟨some (w.heap.size+1),W,bs++cy X1⟩ ρa Ja _ _ a1 _ _ z2 λρb Jb Yb a2 w3 me t2 m2 x2 z3=>?_;obtain⟨HB5,r5,p5⟩:=z3.hp;have hd:a2.defers=[]:=by have h0:=z3.df;rw[hD]at h0;subst hC';have h0:DR Jb ρb ([]:List (AV G)) a2.defers:=h0;generalize a2.defers=D0 at h0;cases h0;rfl
   have e5:Yb++(Ya++(iY++X1))=(Yb++Ya)++(iY++X1):=by simp
   rw[e5]at p5;obtain⟨st5,ap5⟩:=gX z3.tm hd z3.si.s p5;obtain⟨j,hj1,hj2⟩:∃j:Code,((me= .ret/\j= .ret)\/∃id,me= .exit id/\j= .exit id)/\((e1= .ret/\j= .ret)\/∃id,e1= .exit id/\j= .exit id):=by
    rcases he with rfl|⟨id,rfl⟩
    ·exact⟨.ret, .inl ⟨Ku x2,rfl⟩, .inl ⟨rfl,rfl⟩⟩
    ·exact⟨.exit id, .inr ⟨id,LU x2,rfl⟩, .inr ⟨id,rfl,rfl⟩⟩
   refine adw (l:=w.heap.size+1) (dd:=w.heap.size) (rec:=rec) hT' hj1 st5 (j,⟨ie,ρb,Jb,(Yb++Ya)++iY,HB5⟩) ⟨⟨λr hr'=>?_,λw q=>hi.mJ w (m1 w (m2 w q)),r5,?_,z3.fr,ap5⟩,hj2⟩ rfl
   ·exact(t2 r (by omega)).trans ((t1 r (by omega)).trans (hi.to r hr'))
   ·have:=z3.kn
    rw[e5, ← List.append_assoc]at this;exact this
 ·rintro⟨ie,iρ,iJ,iY,iHB⟩ w2 ⟨hi,hrun⟩ ha hst
  rw[List.drop_length]at hrun;generalize hie:(⟨ie,iρ,iJ,iY,iHB⟩:Gh G (bz (wo g.l))).e=ie' at hrun;dsimp only at hie;subst hie;cases hrun with
  |nil=>obtain⟨u1,u2,u3⟩:=fin _ w2 _ hi ha hst;exact hq iρ iJ (iY++Y1) _ w2 .normal u1 u2 trivial u3
 ·rintro j i w2 ⟨hi,hj⟩ ha hst
  obtain⟨u1,u2,u3⟩:=fin _ w2 _ hi ha hst;rcases hj with⟨rfl,rfl⟩|⟨id,rfl,rfl⟩
  ·exact wpIn_ret (hq i.ρ i.J (i.Y++Y1) _ w2 .ret u1 u2 trivial u3)
  ·exact wpIn_exit (hq i.ρ i.J (i.Y++Y1) _ w2 (.exit id) u1 u2 rfl u3)
end Go.Rw
namespace Go.Rw
open Go Go.Bw Go.RowKit
variable {G:Sg} {P:Program} {N:Nat} {C:CC G} {tt:TT P G}
theorem YY{all:Array Oper}{r:List Oper}{S S1 S3:AS G}{e:Ex G}{T el bt q d1:Nat}{x lo:Operand}{k ki:IntKind}{i:Int}{qq:Bool}{xs:List Int}{t1 t2:TypeId}{p1 p2:String}{f1 f2:Array Edge}
  (hT:tt.te.find T=some (.sl el 1 bt))(hz:Wb P el k=true)(hx:mR C S [] x=some (.row q))(ho:gw S.O q=some (.row el 1 (.int k) xs))(hl:tu (mR C S [] lo)=some (ki,i,qq))(hi:bM i (xs.length+1)=true)(hp:yP N C (some d1) .Y9 S=some S1)
  (dB:US P N C (.ops all r) {S1 with O:=yM S1.O q (.row el 1 (.int k) (xs.take i.toNat++List.replicate (xs.length-i.toNat) (0:Int)))} S3 e):
  US P N C (.ops all (⟨some d1, .slice T x (some lo) none none,t1,p1,f1,none⟩::⟨none, .call ⟨.builtin .clear, #[.tmp d1], #[T]⟩,t2,p2,f2,none⟩::r)) S S3 e:=by
 intro c ρ J HK X a w Q hr hq;refine wpListIn_step λK hK=>?_;rw[aps (SF.none rfl c ρ J HK X a w hr)];obtain⟨HS,h1,hs0,hm⟩:=hr.st;have hE:=gB hr (ch:=[]) (by simp);obtain⟨kk,x0,k1,⟨vv,ws,m1,rfl,m3,m4,m5⟩,k3⟩:=h1.set ho;have hvx:=yj (hE.ok _ _ hx) m1;have H6:=hE.ev _ _ hx;rw[hvx]at H6;obtain⟨g1,g2⟩:=dH hi;have g2:=Nat.lt_succ_iff.1 g2;have fl:=vH hE hl;rw[g1]at fl;haveI:=(tt.sl hT).1;have NN:aO.row vv el 1 xs.length ws∈HS++(HK++X):=apz _ (List.mem_of_getElem? k1);haveI:tH c (HS++(HK++X)) vv 1 xs.length ws:=⟨λw' _ hp'=>Ro.Ab (hp'.holds _ NN)⟩;refine(N7 (P:=P) (N:=N) (c:=c) (F:=sV a) (H:=HS++(HK++X)) i.toNat H6 fl g2) a.defers a w K Q hs0 λw' hs=>hK _ _ ?_;have hr1:Rl c N ρ J HK X C S1 (a.put (some d1) (uW i.toNat xs.length 1 vv)) w':=(hr.since hs).put hp ⟨_,rfl⟩;have hlt:d1<a.tmps.size/\S1={S with F:=(d1, .Y9)::S.F}:=by
  simp only[yP]at hp;cases hb:(Nat.blt d1 N&&(O6 d1 S.F&&Q3 d1 C)&&NQ d1 (.Y9:AV G))with
  |false=>rw[hb]at hp;cases hp
  |true=>rw[hb]at hp;simp only[apv]at hb;exact⟨by rw[hr.tm];simpa[Nat.blt_eq]using hb.1.1,by cases hp;rfl⟩
 obtain⟨hlt,rfl⟩:=hlt;generalize ha1:a.put (some d1) (uW i.toNat xs.length 1 vv)=a1 at hr1 ⊢;refine wpListIn_step λK2 hK2=>?_;rw[aps (SF.none rfl c ρ J HK X a1 w' hr1)];obtain⟨HS1,j1,js,jm⟩:=hr1.st;obtain⟨kk1,x1,n1,⟨v1,ws1,l1,rfl,l3,l4,l5⟩,n3⟩:=j1.set (r:=q) (o:= .row el 1 (.int k) xs) ho;obtain rfl:vv=v1:=Option.some.inj (m1.symm.trans l1);have hE1:=gB hr1 (ch:=[]) (by simp);have hev:Bw.ev (sV a1) (.tmp d1)=some (uW i.toNat xs.length 1 vv):=by rw[VV (x:= .tmp d1) (λt ht=>by cases ht;rw[← ha1];simpa[Act.put]using hlt) (λg h=>by cases h), ← ha1];simp[Act.put,Act.eval,hlt]
 have hws:ws1=fW (LI k) xs:=(bW.iff.1 (show(LA (LI k) xs.length).fz J ws1 _ from l4)).trans (jH (LI k) xs).symm;subst hws;have Ys:=Aq (m:=HK++X) n1;haveI:xS (HS1++(HK++X)) vv el 1 xs.length (fW (LI k) xs) ((HS1++(HK++X)).set kk1):=⟨kk1,Ys,λ_ =>rfl⟩;have hz2:(P.info? el).bind (·.zero)=some (.int k 0):=by
  unfold Wb at hz;split at hz
  ·rename_i k' n Rk
   simp only[apv,beq_iff_eq]at hz;rw[Rk,Rj hz.1,hz.2]
  ·cases hz
 refine Yd (L:=LI k) (z0:=(0:Int)) (z:= .int k 0) (xs:=xs) (m:=i.toNat) (tt.sl hT).1.ok ⟨hz2⟩ rfl rfl rfl rfl g2 hev rfl a1.defers a1 w' K2 Q js λ_ w2 _ Rs H8=>hK2 _ _ ?_;rw[FY n1]at H8;refine dB c ρ J HK X a1 w2 Q (hr1.MY (n3 _ _ ⟨vv,_,l1,rfl,?_,show(LA (LI k) _).fz J _ _ from bW.iff.2 (jH (LI k) _),rfl⟩) Rs H8) hq;have:∀ys:List Int,ys.length=xs.length->wI vv ys.length:=λys h=>by rw[h];exact l3
 exact this _ (by simp only[List.length_append,List.length_take,List.length_replicate];omega)
end Go.Rw
namespace Go.Rw
open Go Go.Bw Go.RowKit
variable {G:Sg} {P:Program} {N:Nat} {C:CC G} {Z:Type} {tb:Bp P G} {rec:WT G Z} {cp:List Nat} {all:Array Oper} {r:List Oper} {K:Ex G->AS G->Option Z} {z:Z}
theorem KW(dB:tG P rec){o:Oper}{S:AS G}(hg:SF N all C S o)(h:wPv tb rec N cp C all r o S K=some z):∃e S',K e S'=some z/\S.nx<=S'.nx/\US P N C (.ops all (o::r)) S S' e:=by
 obtain⟨d,op,ty,ps,af,g⟩:=o;unfold wPv at h;dsimp only at h;split at h
 ·rename_i gs v hv
  obtain⟨h1,h2⟩:=alT h;exact ji dB hg (akm hv h1) (Nat.le_refl _) h2
 ·split at h
  ·cases h
  ·obtain⟨e,S1,h1,h2,h3⟩:=dB _ _ _ _ _ _ _ h
   rw[Au]at h2;exact⟨e,S1,h1,h2,FR _ h3⟩
theorem aiP{d:Option Tmp}{op:Op}{ty:TypeId}{ps:String}{af:Array Edge}{g:Option (Nat×Bool)}{T d1:Nat}{r r2:List Oper}(h:aiQ ⟨d,op,ty,ps,af,g⟩ T r=some (d1,r2)):
  ∃t2 p2 f2,d=some d1/\g=none/\r=⟨none, .call ⟨.builtin .clear, #[.tmp d1], #[T]⟩,t2,p2,f2,none⟩::r2:=by
 unfold aiQ at h;split at h
 ·rename_i a t t2 p2 f2 r3
  split at h
  ·rename_i e1 d2 T2 hd hg ha ht
   cases hb:(Nat.beq _ d2&&Nat.beq T T2)with
   |false=>rw[hb]at h;cases h
   |true=>
    rw[hb]at h;simp only[apv]at hb;have eA:a= #[.tmp d2]:=by rw[← Array.toArray_toList (xs:=a),ha]
    have eT:t= #[T2]:=by rw[← Array.toArray_toList (xs:=t),ht]
    subst eA;subst eT;obtain rfl:=apu hb.1;obtain rfl:=apu hb.2;cases h;exact⟨_,_,_,hd,hg,rfl⟩
  ·cases h
 ·cases h
theorem YQ(dB:tG P rec){o:Oper}{S:AS G}(hg:SF N all C S o)(h:wOp tb rec N cp C all r o S K=some z):∃e S',K e S'=some z/\S.nx<=S'.nx/\US P N C (.ops all (o::r)) S S' e:=by
 obtain⟨d,op,ty,ps,af,g⟩:=o;unfold wOp at h;dsimp only at h;split at h
 ·split at h
  ·rename_i v hv
   exact ji dB hg (agR hv) (Nat.le_succ _) h
  ·cases h
 ·split at h
  ·rename_i v hv
   exact ji dB hg (Zs hv) (Nat.le_succ _) h
  ·cases h
 ·split at h
  ·obtain⟨e,S1,h1,h2,h3⟩:=dB _ _ _ _ _ _ _ h
   rw[Au]at h2;exact⟨e,S1,h1,h2,FR _ h3⟩
  ·split at h
   ·rename_i q p v hx hy
    split at h
    ·rename_i T' cc ho
     cases hb:Bl tb.tt _ v with
     |false=>rw[hb]at h;cases h
     |true=>rw[hb]at h;obtain⟨c',h1,h2⟩:=akk h;exact ji dB hg (Zq hx hy ho h1 hb) (Nat.le_refl _) h2
    ·rename_i e sz t xs ho
     cases hb:(abb p sz&&Bl tb.tt _ v)with
     |false=>rw[hb]at h;cases h
     |true=>
      rw[hb]at h;simp only[apv]at hb;simp only[cond_true]at h;split at h
      ·rename_i pl hpl
       split at h
       ·rename_i y' hu
        exact ji dB hg (Zp hx hy ho hb.1 hpl hu hb.2) (Nat.le_refl _) h
       ·cases h
      ·cases h
    ·cases h
   ·cases h
 ·split at h
  ·rename_i e sz _ ht
   split at h
   ·rename_i z hz
    split at h
    ·rename_i t _
     split at h
     ·rename_i xs hxs
      cases hc:((Nat.beq xs.length _ &&Nat.beq (t.L G).n sz)&&(Nat.blt 0 (_ *sz)&&Nat.ble (_ *sz) 16777216))with
      |false=>rw[hc]at h;cases h
      |true=>rw[hc]at h;simp only[apv]at hc;obtain⟨⟨c1,c2⟩,c3,c4⟩:=hc;simp only[cond_true]at h;exact ji dB hg (ako ht hz hxs (apu c1) (apu c2) (by simpa[Nat.blt_eq]using c3) (Nat.le_of_ble_eq_true c4)) (Nat.le_succ _) h
     ·exact KW dB hg h
    ·cases h
   ·cases h
  ·cases h
 ·rename_i T s s'
  cases hs:Nat.beq s s' with
  |false=>rw[hs]at h;cases h
  |true=>
   rw[hs]at h;obtain rfl:=apu hs;simp only[cond_true]at h;split at h
   ·rename_i i _ e sz bt hx ht
    split at h
    ·rename_i k z0 hz
     cases hc:(Nat.beq sz 1&&Nat.blt 0 bt)with
     |false=>rw[hc]at h;cases h
     |true=>rw[hc]at h;simp only[apv]at hc;obtain rfl:=apu hc.1;simp only[cond_true]at h;obtain⟨g1,h⟩:=rH h;obtain⟨g2,h⟩:=rH h;exact ji dB hg (agP ht hz hx g1 g2 (by simpa[Nat.blt_eq]using hc.2)) (Nat.le_succ _) h
    ·cases h
   ·cases h
 ·split at h
  ·rename_i t v hx
   exact⟨_,_,h,Nat.le_refl _,YU hg hx⟩
  ·cases h
 ·split at h
  ·rename_i k x y l hf ha
   cases hb:((uU x&&uU l)&&(uU y&&Lj (zk C)))with
   |false=>rw[hb]at h;cases h
   |true=>rw[hb]at h;simp only[apv]at hb;obtain⟨e,S3,k1,k2,k3⟩:=dB _ _ _ _ _ _ _ h;exact⟨e,S3,k1,k2,YV hg hf ha hb.2.2 k3⟩
  ·cases h
 ·rename_i args Sq
  split at h
  ·rename_i x y T T' hA hT
   have eA:args= #[x,y]:=by rw[← Array.toArray_toList (xs:=args),hA]
   have eT:Sq= #[T,T']:=by rw[← Array.toArray_toList (xs:=Sq),hT]
   subst eA;subst eT;cases hb:Nat.beq T T' with
   |false=>rw[hb]at h;cases h
   |true=>
    rw[hb]at h;obtain rfl:=apu hb;simp only[cond_true]at h;split at h
    ·rename_i q vy e sz bt hx hy ht
     split at h
     ·rename_i e' sz' t xs l ho hl
      cases hc:(Nat.beq e' e&&Nat.beq sz' sz)with
      |false=>rw[hc]at h;cases h
      |true=>
       rw[hc]at h;simp only[apv]at hc;obtain rfl:=apu hc.1;obtain rfl:=apu hc.2;simp only[cond_true]at h;split at h
       ·rename_i ys hys
        obtain⟨g1,h⟩:=rH h;exact ji dB hg (agS ht hx hy ho hl hys g1) (Nat.le_succ _) h
       ·cases h
     ·cases h
    ·rename_i vy e sz bt hx hy ht
     split at h
     ·rename_i l hl
      cases hc:Nat.beq (l.t.L G).n sz with
      |false=>rw[hc]at h;cases h
      |true=>rw[hc]at h;simp only[cond_true]at h;obtain⟨g1,h⟩:=rH h;exact ji dB hg (adn ht hx hy hl (apu hc) g1) (Nat.le_succ _) h
     ·cases h
    ·cases h
  ·cases h
 ·rename_i args Sq
  split at h
  ·rename_i x y T T' hA hT
   have eA:args= #[x,y]:=by rw[← Array.toArray_toList (xs:=args),hA]
   have eT:Sq= #[T,T']:=by rw[← Array.toArray_toList (xs:=Sq),hT]
   subst eA;subst eT;split at h
   ·rename_i q vy e sz bt hx hy ht
    split at h
    ·rename_i e' sz' k xs l ho hl
     cases hc:((Nat.beq e' e&&Nat.beq sz 1)&&Nat.beq sz' 1)with
     |false=>rw[hc]at h;cases h
     |true=>
      rw[hc]at h;simp only[apv]at hc;obtain rfl:=apu hc.1.1;obtain rfl:=apu hc.1.2;obtain rfl:=apu hc.2;simp only[cond_true]at h;split at h
      ·rename_i ys hys
       exact ji dB hg (adl ht hx hy ho hl hys) (Nat.le_refl _) h
      ·cases h
    ·cases h
   ·cases h
  ·cases h
 ·split at h
  ·rename_i k fst cap l hf ha
   have h0:=afA h;clear h;rcases h0 with⟨ct,x,g',Lw,h⟩|⟨b,l',h⟩|h
   ·cases hb:((uU fst&&uU l)&&(uU cap&&Nat.beq ct.s.k k))with
    |false=>rw[hb]at h;cases h
    |true=>
     rw[hb]at h;simp only[apv]at hb;obtain⟨⟨b1,b2⟩,b3,b4⟩:=hb;obtain rfl:=apu b4;have SB:=aeI Lw;rcases ct.cps x _ _ z h with⟨y,hR,hy⟩|⟨y,hR,hy⟩
     ·split at hy
      ·rename_i v hd
       exact ji dB hg (akn hf ha b1 b2 Lw hR hd) (Nat.le_trans SB (Nat.le_add_right _ _)) hy
      ·cases hy
     ·split at hy
      ·rename_i v hd
       exact⟨_,_,hy,Nat.le_trans SB (Nat.le_add_right _ _),agF hg hf ha b1 b2 Lw hR hd⟩
      ·cases hy
   ·obtain⟨e,S1,h1,h2,h3⟩:=dB _ _ _ _ _ _ _ h
    have h2:=Nat.le_trans (QI l' _) h2;rw[Au]at h2;exact⟨e,S1,h1,h2,FR b (Qv l' h3)⟩
   split at h
   ·rename_i fi Qm
    cases hb:((uU fst&&uU l)&&(uU cap&&Nat.ble (HY (r8 fst (r8 l cap))) fi.N))with
    |false=>rw[hb]at h;cases h
    |true=>
     rw[hb]at h;simp only[apv]at hb;obtain⟨⟨b1,b2⟩,b3,b4⟩:=hb;have b4:=Nat.le_of_ble_eq_true b4;obtain⟨e,S1,h1,h2,h3⟩:=dB _ _ _ _ _ _ _ h;have h2:S.nx<=S1.nx:=h2;split at h1
     ·rename_i v O2 hX
      exact⟨_,_,h1,h2,YZ (tt:=tb.tt) hg hf ha Qm b1 b2 b3 b4 h3 hX⟩
     ·rename_i O2 hX
      split at h1
      ·rename_i v hres
       exact ji dB hg (U2 hf ha Qm b1 b2 b3 b4 h3 hX (.inl rfl) hres) h2 h1
      ·cases h1
     ·rename_i O2 hX
      split at h1
      ·rename_i v hres
       exact ji dB hg (U2 hf ha Qm b1 b2 b3 b4 h3 hX (.inr rfl) hres) h2 h1
      ·cases h1
     ·cases h1
   ·cases h
  ·cases h
 ·split at h
  ·rename_i g0 hgt
   cases hb:vF P _ with
   |false=>rw[hb]at h;cases h
   |true=>rw[hb]at h;exact ji dB hg (Zr hgt hb) (Nat.le_succ _) h
  ·cases h
 ·split at h
  ·rename_i g0 q ik k kb hgt hx hy
   split at h
   ·rename_i ho
    cases hb:(Nat.beq (Ty.cW.ik ik) (Ty.cW.ik g0.1)&&Wc P _ g0.1)with
    |false=>rw[hb]at h;cases h
    |true=>rw[hb]at h;simp only[apv]at hb;exact ji dB hg (WZ hgt hx ho hy hb.1 hb.2) (Nat.le_refl _) (ak3 h)
   ·cases h
  ·cases h
 ·split at h
  ·rename_i q k i qq e sz bt hx hh ht _
   split at h
   ·rename_i e' sz' t xs ho
    cases hc:(Nat.beq e' e&&Nat.beq sz' sz)with
    |false=>rw[hc]at h;cases h
    |true=>rw[hc]at h;simp only[apv]at hc;obtain rfl:=apu hc.1;obtain rfl:=apu hc.2;simp only[cond_true]at h;obtain⟨g1,h⟩:=rH h;exact ji dB hg (agQ ht hx ho hh g1) (Nat.le_succ _) h
   ·cases h
  ·exact KW dB hg h
 ·split at h
  ·rename_i d1 r2 q k0 i qq e sz bt hc hx hl ht
   split at h
   ·rename_i e' sz' k xs S1 ho hp
    cases hb:((Nat.beq e' e&&Nat.beq sz 1)&&(Nat.beq sz' 1&&Wb P e k))with
    |false=>rw[hb]at h;cases h
    |true=>rw[hb]at h;simp only[apv]at hb;obtain rfl:=apu hb.1.1;obtain rfl:=apu hb.1.2;obtain rfl:=apu hb.2.1;simp only[cond_true]at h;obtain⟨g1,h⟩:=rH h;obtain⟨e1,S3,h1,h2,h3⟩:=dB _ _ _ _ _ _ _ h;have SB:=rj hp;refine⟨e1,S3,h1,(by rw[← SB];exact h2),?_⟩;obtain⟨t2,p2,f2,rfl,rfl,rfl⟩:=aiP hc;exact YY ht hb.2.2 hx ho hl g1 hp h3
   ·exact KW dB hg h
  ·exact KW dB hg h
 ·exact KW dB hg h
theorem aiN(dB:tG P rec){o:Oper}{S:AS G}{j dj:Nat}{w:Bool}{no:Option Z}{gx:Option Bool}{cx:Option (Nat×AV G)}(Yu:o.guard=some (j,w))(hd:LW all j=some dj)(he:T8 C S 8 dj w=gx)(hc:R2 C S (chain C S 8 dj w) o.op=cx)
  (hno:no=some z->∃e S',K e S'=some z/\S.nx<=S'.nx/\US P N C (.ops all (o::r)) S S' e)(h:ctT tb rec N cp C all r o S K dj w no gx cx=some z):∃e S',K e S'=some z/\S.nx<=S'.nx/\US P N C (.ops all (o::r)) S S' e:=by
 unfold ctT at h;split at h
 ·rename_i g k apr
  have h0:=afA h;clear h;rcases h0 with⟨ct,x,g',Lw,h⟩|⟨b,l',h⟩|h
  ·cases hb:Nat.beq ct.s.k k with
   |false=>rw[hb]at h;cases h
   |true=>
    rw[hb]at h;have hk:=apu hb;simp only[cond_true]at h;unfold ctG at h;split at h
    ·rename_i hnm
     cases hn:(Kq true ct.s.yU&&Kq false ct.s.dZ)with
     |false=>rw[hn]at h;exact hno h
     |true=>
      rw[hn]at h;simp only[apv]at hn;obtain⟨y,hR,hy⟩:=ct.cgs g x _ z h;split at hy
      ·rename_i v hv
       split at hy
       ·rename_i S2 hp
        obtain⟨e,S3,k1,k2,k3⟩:=dB _ _ _ _ _ _ _ hy;have:=rj hp;exact⟨e,S3,k1,by omega,agG Yu hd he hc hk Lw hnm hn.1 hn.2 hR hv hp k3⟩
       ·cases hy
      ·cases hy
    ·exact hno h
  ·obtain⟨e,S1,h1,h2,h3⟩:=dB _ _ _ _ _ _ _ h
   have h2:=Nat.le_trans (QI l' _) h2;rw[Au]at h2;exact⟨e,S1,h1,h2,FR b (Qv l' h3)⟩
  ·exact hno h
 ·exact hno h
theorem UY{x:Operand}{a b:Code}{t:Bool}{S S1:AS G}{e:Ex G}(hx:mR C S [] x=some (.bool t))(h:US P N C (.code (bif t then a else b)) S S1 e):US P N C (.code (.cond x a b)) S S1 e:=by
 intro c ρ J HK X ac w Q hr hq;have ex:=C4 ((gB hr (ch:=[]) (by simp)).ok _ _ hx);cases t with
 |true=>exact wpIn_cond_true ex (h c ρ J HK X ac w Q hr hq)
 |false=>exact wpIn_cond_false ex (h c ρ J HK X ac w Q hr hq)
theorem YX{x:Operand}{a b:Code}{t:Bool}{S S1:AS G}{e:Ex G}(hx:mR C S [] x=some (.kb t))(h:US P N C (.code (bif t then a else b)) S S1 e):US P N C (.code (.cond x a b)) S S1 e:=by
 intro c ρ J HK X ac w Q hr hq;have ex:=Ns ((gB hr (ch:=[]) (by simp)).ok _ _ hx);cases t with
 |true=>exact wpIn_cond_true ex (h c ρ J HK X ac w Q hr hq)
 |false=>exact wpIn_cond_false ex (h c ρ J HK X ac w Q hr hq)
theorem WK{i:Nat}{ops:Array Oper}{S S1:AS G}{e:Ex G}(h:US P N C (.ops ops ops.toList) S S1 e):US P N C (.code (.region i ops false)) S S1 e:=by intro c ρ J HK X a w Q hr hq;exact wpIn_region_list (h c ρ J HK X a w Q hr hq)
theorem OC{cf:Cf}{S S1:AS G}{e:Ex G}(p q:Nat->Bool)(h:US P N (⟨nG (λd=> !p d) S.F,dX (λr=> !q r) S.O,S.D⟩::C) cf ⟨nG p S.F,dX q S.O,S.nx,[]⟩ S1 e):US P N C cf S (Qi ⟨nG (λd=> !p d) S.F,dX (λr=> !q r) S.O,S.D⟩ S1) e:=by intro c ρ J HK X a w Q hr hq;obtain⟨H2,p1,p2⟩:=hr.push p q;refine h c ρ J (H2++HK) X a w Q p2 λρ' J' Y a' w' me k1 k2 k3 k4=>?_;have hle:=k1.le hr.fr;exact hq ρ' J' Y a' w' me k1 k2 k3 (k4.Qi (p1.up k2 hle) (hr.Yp k2 hle) hr.si.n)
theorem ac7{x y:Code}{S S1 S2:AS G}{ly:Ly G}{g:gE}{p q:Nat->Bool}{e:HL G (bz (wo g.l))}{e2:Ex G}(hly:ly=⟨nG (λd=> !p d) S.F,dX (λr=> !q r) S.O,S.D⟩)(hl:BA S.nx (ly::C)=true)
  (h1:US P N (ly::C) (.code x) ⟨nG p S.F,dX q S.O,S.nx,[]⟩ S1 .pB)(hg:Lz (ly::C) (pO (ly::C) S1 g.l) g S.nx=some e)(h2:US P N C (.code y) (Qi ly (MZ g S.nx e)) S2 e2):US P N C (.code (.seq x y)) S S2 e2:=by
 subst hly;intro c ρ J HK X a w Q hr hq;obtain⟨H2,p1,p2⟩:=hr.push p q;refine wpIn_seq (h1 c ρ J (H2++HK) X a w _ p2 λρ' J' Y a' w' me k1 k2 k3 k4=>?_);rw[po k3];obtain⟨J2,Y2,j1,k5⟩:=k4.pO g.l;obtain⟨ρ2,m1,m2⟩:=ad8 k5 hg hl;have hto:ρ.to ρ2 S.nx:=λr hr'=>(m1 r hr').trans (k1 r hr');have hle:=hto.le hr.fr;have k2':∀w,J2 w->J w:=λw h=>k2 w (j1 w h);rw[← List.append_assoc]at m2;refine h2 c ρ2 J2 HK ((Y2++Y)++X) a' w' Q (m2.Qi (p1.up k2' hle) (hr.Yp k2' hle) hr.si.n) (hq.fA hto k2' ?_);show S.nx<=S.nx+_;omega
def USl(P:Program)(N:Nat)(C:CC G)(base:Nat)(x:Code)(S S':AS G)(e:Ex G):Prop:=∀(c:Cx) (ρ:bV) (J:World->Prop) (HK X:List aO) (a:Act) (w:World) (Q:Exit->Act->World->Prop),Rl c N ρ J HK X C S a w->Aft c N C ρ J HK X base S' e Q->LPr P c x Q a w
theorem YS{x:Code}{g:gE}{base:Nat}{e e':HL G (bz (wo g.l))}{S1 S2:AS G}{e2:Ex G}(hl:BA base C=true)(h1:US P N C (.code x) (MZ g base e) S1 .pB)(hg:Lz C (pO C S1 g.l) g base=some e')(h2:USl P N C base x (MZ g base e') S2 e2):USl P N C base x (MZ g base e) S2 e2:=by intro c ρ J HK X a w Q hr hq;refine Pc (h1 c ρ J HK X a w _ hr λρ' J' Y a' w' me k1 k2 k3 k4=>?_);rw[po k3];obtain⟨J2,Y2,j1,k5⟩:=k4.pO g.l;obtain⟨ρ2,m1,m2⟩:=ad8 k5 hg hl;have Sv:ρ.to ρ' base:=λr hr'=>k1 r (by show r<base+_;omega);rw[← List.append_assoc]at m2;exact h2 c ρ2 J2 HK ((Y2++Y)++X) a' w' Q m2 (hq.fA (λr hr'=>(m1 r hr').trans (Sv r hr')) (λw h=>k2 w (j1 w h)) (Nat.le_refl _))
theorem KY{x:Code}{g:gE}{base:Nat}{e:HL G (bz (wo g.l))}{S1:AS G}{e1:Ex G}(h1:US P N C (.code x) (MZ g base e) S1 e1)(he:e1≠ .pB):USl P N C base x (MZ g base e) S1 e1:=by intro c ρ J HK X a w Q hr hq;refine Pc (h1 c ρ J HK X a w _ hr λρ' J' Y a' w' me k1 k2 k3 k4=>?_);exact rL (sW he k3) (hq ρ' J' Y a' w' me (λr hr'=>k1 r (by show r<base+_;omega)) k2 k3 k4)
theorem ac6{x:Code}{S S1:AS G}{g:gE}{v:AV G}{x0:HL G (bz (wo g.l))}{g':GS G}{p:Nat->Bool}{ly:Ly G}{e:Ex G}(hv:HC C S g.l=some v)(Lw:qU (wo g.l) v ⟨[],S.O,S.nx⟩=some (x0,g'))(b1:Ad g.nm g'.th=true)(b2:Ae S.nx g.nm=true)
  (hly:ly=⟨nG p S.F,g'.O,S.D⟩)(hl:BA S.nx (ly::C)=true)(h:USl P N (ly::C) S.nx x (MZ g S.nx x0) S1 e):US P N C (.code (.loop x)) S (Qi ly S1) e:=by
 intro c ρ J HK X a w Q hr hq;refine Rb ?_;have hlC:BA S.nx C=true:=by simp only[BA,apv]at hl;exact hl.2.2.2
 obtain⟨ρ',ρ2,HB,H',hto,ht2,Lx,hleft,hC,hp,hF,hfc,hfr⟩:=Vr hr hv Lw b1 b2 (Nat.le_refl _) hlC;have hag:∀r,r<S.nx->ρ' r=ρ2 r:=λr hr'=>(hto r hr').trans (ht2 r hr').symm;subst hly;have hl':=hl;simp only[BA,apv]at hl';have hleft:=hleft.jd hag hl'.2.1;have hr':Rl c N ρ' J (H'++HK) X (⟨nG p S.F,g'.O,S.D⟩::C) (MZ g S.nx x0) a w:=by
  refine⟨hr.tm,?_,⟨hr.si.s,λq=>hr.si.n (Gb q)⟩,hF,λy hy=>?_,λr o e=>?_,⟨HB,Lx,by simpa using hp⟩,hr.kn,hfr⟩
  ·exact hr.df.jd hto (Pb hl'.2.2.1 (Ji hlC).2)
  ·rcases List.mem_cons.1 hy with rfl|hy
   ·exact(hr.fs.fil).jd hto hl'.1
   ·exact hfc y hy
  ·have e:gw (g'.O++zk C) r=some o:=e
   rw[ow]at e;split at e
   ·rename_i v' Rq
    cases e;obtain⟨x,h1,h2⟩:=hleft.lk Rq;exact⟨x,apz _ h1,h2⟩
   ·obtain⟨x,h1,h2⟩:=hC r o e
    exact⟨x,apy _ h1,h2⟩
 refine h c ρ' J (H'++HK) X a w Q hr' λρ3 J3 Y a' w' me k1 k2 k3 k4=>?_;have Sv:ρ.to ρ3 S.nx:=λr q=>(k1 r q).trans (hto r q);refine hq ρ3 J3 Y a' w' me Sv k2 k3 (k4.Qi ((hleft.jd k1 hl'.2.1).up k2 (bV.le_refl _)) (hr.Yp k2 (Sv.le hr.fr)) hr.si.n)
theorem aed(dB:tG P rec){x:Code}{g:gE}{base:Nat}{ly:Ly G}(hl:BA base (ly::C)=true){vw:Option (Vw G (bz (wo g.l)))}:∀(n:Nat) (e:HL G (bz (wo g.l))),lpV vw (λgo e=>rec N cp (ly::C) (.code x) (MZ g base e) λe1 S1=>match e1 with
   | .pB=>match Lz (ly::C) (pO (ly::C) S1 g.l) g base with
    |some e=>go e
    |none=>none
   |e1=>K e1 (Qi ly S1)) n e=some z->
  ∃e1 S1,K e1 (Qi ly S1)=some z/\base<=S1.nx/\USl P N (ly::C) base x (MZ g base e) S1 e1:=by
 intro n
 induction n with
 |zero=>intro e h;obtain⟨m,h1,_⟩:=Vv h;cases h1
 |succ n ih=>
  intro e h;obtain⟨m,h1,h2⟩:=Vv h;cases h1;obtain⟨e1,S1,k1,k2,k3⟩:=dB _ _ _ _ _ _ _ h2;have k2:base<=S1.nx:=Nat.le_trans (Nat.le_add_right _ _) k2;cases e1 with
  |pB=>
   dsimp only at k1;split at k1
   ·rename_i e' hg
    obtain⟨e2,S2,m1,m2,m3⟩:=ih e' k1;exact⟨e2,S2,m1,m2,YS hl k3 hg m3⟩
   ·cases k1
  |exit i=>exact⟨_,S1,k1,k2,KY k3 (by simp)⟩
  |ret=>exact⟨_,S1,k1,k2,KY k3 (by simp)⟩
  |z9 v=>exact⟨_,S1,k1,k2,KY k3 (by simp)⟩
theorem agT(dB:tG P rec){x y:Code}{S:AS G}(h:(rec N cp C (.code x) S λe S'=>match e with
    | .pB=>rec N cp C (.code y) S' K
    |e=>K e S')=some z):∃e S',K e S'=some z/\S.nx<=S'.nx/\US P N C (.code (.seq x y)) S S' e:=by
 obtain⟨e1,S1,k1,k2,k3⟩:=dB _ _ _ _ _ _ _ h;cases e1 with
 |pB=>obtain⟨e2,S2,m1,m2,m3⟩:=dB _ _ _ _ _ _ _ k1;exact⟨e2,S2,m1,Nat.le_trans k2 m2,agD k3 m3 k2⟩
 |exit i=>exact⟨_,S1,k1,k2,rK k3 (by simp)⟩
 |ret=>exact⟨_,S1,k1,k2,rK k3 (by simp)⟩
 |z9 v=>exact⟨_,S1,k1,k2,rK k3 (by simp)⟩
theorem adM{x:Code}{S:AS G}{g:gE}{r:Option Z}(h:r=some z->∃e S',K e S'=some z/\(pO C S g.l).nx<=S'.nx/\US P N C (.code x) (pO C S g.l) S' e)(hr:r=some z):∃e S',K e S'=some z/\S.nx<=S'.nx/\US P N C (.code x) S S' e:=by obtain⟨e,S',h1,h2,h3⟩:=h hr;rw[F7]at h2;exact⟨e,S',h1,h2,ac5 _ h3⟩
theorem agZ(dB:tG P rec){ps:List Nat}{a b:Code}{S1:AS G}{g:gE}{it:It P G}{O:Os G}:∀(l:List it.B) (e:HL G (bz (wo g.l))),rgW rec N cp C ps a b S1 K g it l O e=some z->
  ∃e1 Sf,K e1 (Xj S1.nx S1 O Sf)=some z/\S1.nx<=Sf.nx/\RgT P N (lyR ps a b C S1 O) ps a b g (S1.nx+2) it l e e1 Sf:=by
 intro l
 induction l with
 |nil=>intro e h;exact⟨_,_,aep h,by show S1.nx<=S1.nx+2+_;omega, .nil⟩
 |cons y l ih=>
  intro e h;have h:=aaP h;obtain⟨S2,hb,h⟩:=ae3 h;obtain⟨e1,S3,k1,k2,k3⟩:=dB _ _ _ _ _ _ _ h;have hS2:S1.nx<=S2.nx:=by rw[ab3 hb];show S1.nx<=S1.nx+2+_;omega
  cases e1 with
  |pB=>
   obtain⟨e2,S4,m1,m2,m3⟩:=dB _ _ _ _ _ _ _ k1;cases e2 with
   |pB=>
    dsimp only at m1;split at m1
    ·rename_i e' hg
     obtain⟨e3,Sf,n1,n2,n3⟩:=ih e' m1;exact⟨e3,Sf,n1,n2, .fA hb k3 k2 m3 hg n3⟩
    ·cases m1
   |ret=>
    dsimp only at m1;cases hD:aar S4.D with
    |false=>rw[hD]at m1;cases m1
    |true=>rw[hD]at m1;exact⟨_,S4,m1,by omega, .stop hb k3 k2 m3 (.inl rfl) (aaq hD)⟩
   |exit i=>
    dsimp only at m1;cases hD:aar S4.D with
    |false=>rw[hD]at m1;cases m1
    |true=>rw[hD]at m1;exact⟨_,S4,m1,by omega, .stop hb k3 k2 m3 (.inr ⟨i,rfl⟩) (aaq hD)⟩
   |z9 v=>cases m1
  |_ =>cases k1
theorem ag0(dB:tG P rec){ps:Array Nat}{a b:Code}{k:Nat}{cap:AV G}{gl:List (Yg×Sh)}{S:AS G}{gop:Operand}(Yu:mR C S [] gop=some (.fn (.func k) .nil cap)):∀{l:List (It P G)},rgK rec N cp C ps.toList a b k cap gl S K l=some z->
  ∃e S',K e S'=some z/\S.nx<=S'.nx/\US P N C (.code (.rangeFunc gop ps a b)) S S' e:=by
 intro l
 induction l with
 |nil=>intro h;cases h
 |cons it q ih=>
  intro h;unfold rgK at h;split at h
  ·exact ih h
  ·rename_i x g1 Lw
   split at h
   ·rename_i g hg
    dsimp only at h;split at h
    ·rename_i v hv
     split at h
     ·rename_i x0 g2 ah1
      revert h;generalize hcc:(((Nat.beq it.k k&&Nat.beq it.n ps.toList.length&&Lj (zk C))&&(Ad g.nm g2.th&&Ae ((pO C ⟨S.F,g1.O,g1.nx,S.D⟩ g.l).nx+2) g.nm&&BA ((pO C ⟨S.F,g1.O,g1.nx,S.D⟩ g.l).nx+2) (lyR ps.toList a b C (pO C ⟨S.F,g1.O,g1.nx,S.D⟩ g.l) g2.O)))&&((Ah ((pO C ⟨S.F,g1.O,g1.nx,S.D⟩ g.l).nx+2) g2.O&&psN N ps.toList)&&BA ((pO C ⟨S.F,g1.O,g1.nx,S.D⟩ g.l).nx+2) C))=cc;intro h;cases cc with
      |false=>cases h
      |true=>simp only[apv]at hcc;obtain⟨⟨⟨⟨c1,c2⟩,c3⟩,⟨c4,c5⟩,c6⟩,⟨c7,c8⟩,c9⟩:=hcc;obtain rfl:=apu c1;obtain⟨l,hf,h⟩:=vG h;obtain⟨e1,Sf,k1,k2,k3⟩:=agZ dB l x0 h;refine⟨e1,_,k1,?_,YT Yu Lw rfl hv ah1 c4 c5 (by simpa using apu c2) c3 c6 c7 c9 c8 hf k3⟩;show S.nx<=Sf.nx;rw[F7]at k2;exact Nat.le_trans (abk Lw) k2
     ·cases h
    ·cases h
   ·cases h
theorem adj(dB:tG P rec):tG P (step tb rec):=by
 intro N cp C cf S K z h;unfold step at h;dsimp only at h;split at h
 ·exact⟨_,_,h,Nat.le_refl _,agE⟩
 ·rename_i all o r
  split at h
  ·rename_i hg;exact YQ dB (.none hg) h
  ·rename_i j w hg
   split at h
   ·rename_i dj hd
    split at h
    ·rename_i hk;exact YQ dB (.afT hg hd hk) h
    ·rename_i hk
     split at h
     ·rename_i S2 hp
      obtain⟨e,S3,k1,k2,k3⟩:=dB _ _ _ _ _ _ _ h;have:=rj hp;exact⟨e,S3,k1,by omega,ac4 hg hd hk hp k3⟩
     ·cases h
    ·split at h
     ·rename_i g gs v he hv
      obtain⟨h1,h2⟩:=alU h;split at h2
      ·rename_i S2 hp
       obtain⟨e,S3,k1,k2,k3⟩:=dB _ _ _ _ _ _ _ h2;have:=rj hp;exact⟨e,S3,k1,by omega,YW hg hd he hv h1 hp k3⟩
      ·cases h2
     ·refine aiN dB hg hd rfl rfl (λh=>?_) h
      split at h
      ·rename_i k b hk
       cases b with
       |true=>have h:=Um rfl h;obtain⟨e,S3,k1,k2,k3⟩:=dB _ _ _ _ _ _ _ h;exact⟨e,S3,k1,k2,UX hk k3⟩
       |false=>have h:=Un rfl h;obtain⟨e,S3,k1,k2,k3⟩:=dB _ _ _ _ _ _ _ h;exact⟨e,S3,k1,k2,UX hk k3⟩
      ·cases h
   ·cases h
 ·split at h
  ·exact⟨_,_,h,Nat.le_refl _,λc ρ J HK X a w Q hr hq=>wpIn_skip (hq.here hr trivial)⟩
  ·exact⟨_,_,h,Nat.le_refl _,λc ρ J HK X a w Q hr hq=>wpIn_label (hq.here hr trivial)⟩
  ·exact⟨_,_,h,Nat.le_refl _,λc ρ J HK X a w Q hr hq=>wpIn_ret (hq.here hr trivial)⟩
  ·exact⟨_,_,h,Nat.le_refl _,λc ρ J HK X a w Q hr hq=>wpIn_exit (hq.here hr rfl)⟩
  ·obtain⟨e,S1,k1,k2,k3⟩:=dB _ _ _ _ _ _ _ h
   exact⟨e,S1,k1,k2,WK k3⟩
  ·exact aiH dB h
  ·rename_i i x
   obtain⟨e1,S1,k1,k2,k3⟩:=dB _ _ _ _ _ _ _ h;cases e1 with
   |exit j=>
    dsimp only at k1;cases hb:Nat.beq i j with
    |true=>rw[hb]at k1;have e:=apu hb;exact⟨_,S1,k1,k2,B5 k3 (.inl ⟨by rw[e],rfl⟩)⟩
    |false=>rw[hb]at k1;exact⟨_,S1,k1,k2,B5 k3 (.inr ⟨rfl,λq=>by cases q;rw[Nat.beq_refl]at hb;cases hb⟩)⟩
   |pB=>exact⟨_,S1,k1,k2,B5 k3 (.inr ⟨rfl,by simp⟩)⟩
   |ret=>exact⟨_,S1,k1,k2,B5 k3 (.inr ⟨rfl,by simp⟩)⟩
   |z9 v=>exact⟨_,S1,k1,k2,B5 k3 (.inr ⟨rfl,by simp⟩)⟩
  ·split at h
   ·rename_i t hx
    cases t with
    |true=>have h:=Um rfl h;obtain⟨e,S1,k1,k2,k3⟩:=dB _ _ _ _ _ _ _ h;exact⟨e,S1,k1,k2,UY hx k3⟩
    |false=>have h:=Un rfl h;obtain⟨e,S1,k1,k2,k3⟩:=dB _ _ _ _ _ _ _ h;exact⟨e,S1,k1,k2,UY hx k3⟩
   ·rename_i t hx
    obtain⟨e,S1,k1,k2,k3⟩:=dB _ _ _ _ _ _ _ h;exact⟨e,S1,k1,k2,YX hx k3⟩
   ·cases h
  ·rename_i x y
   split at h
   ·rename_i gl ex _
    split at h
    ·rename_i g _
     cases hb:BA S.nx ((⟨nG (λd=> !(fk (Nl x) d||Ck g.l d)) S.F,dX (λq=> !fk (Zg C S gl++Q4 C S ex) q) S.O,S.D⟩:Ly G)::C)with
     |false=>rw[hb]at h;cases h
     |true=>
      rw[hb]at h;have h:=ak8 h;obtain⟨e1,S1,k1,k2,k3⟩:=dB _ _ _ _ _ _ _ h;have k2:S.nx<=S1.nx:=k2;cases e1 with
      |pB=>
       dsimp only at k1;split at k1
       ·rename_i e hg
        obtain⟨e2,S2,m1,m2,m3⟩:=dB _ _ _ _ _ _ _ k1;have m2:S.nx+g.nm.length<=S2.nx:=m2;exact⟨e2,S2,m1,by omega,ac7 rfl hb k3 hg m3⟩
       ·cases k1
      |exit i=>exact⟨_,_,k1,k2,rK (OC _ _ k3) (by simp)⟩
      |ret=>exact⟨_,_,k1,k2,rK (OC _ _ k3) (by simp)⟩
      |z9 v=>exact⟨_,_,k1,k2,rK (OC _ _ k3) (by simp)⟩
    ·cases h
   ·exact agT dB h
  ·rename_i x
   split at h
   ·rename_i gl _
    split at h
    ·cases h
    ·rename_i g _
     have hp:=F7 (C:=C) (S:=S) (l:=g.l);refine adM (g:=g) (λh=>?_) h;clear hp;generalize pO C S g.l=S at h;split at h
     ·rename_i v hv
      split at h
      ·rename_i x0 g' Lw
       cases hb:(Ad g.nm g'.th&&Ae S.nx g.nm)with
       |false=>rw[hb]at h;cases h
       |true=>
        rw[hb]at h;simp only[apv]at hb;simp only[cond_true]at h;cases hc:BA S.nx ((⟨nG (λd=> !(fk (Nl x) d||Ck g.l d)) S.F,g'.O,S.D⟩:Ly G)::C)with
        |false=>rw[hc]at h;cases h
        |true=>rw[hc]at h;obtain⟨e1,S1,k1,k2,k3⟩:=aed (g:=g) dB hc _ _ h;exact⟨e1,_,k1,k2,ac6 hv Lw hb.1 hb.2 rfl hc k3⟩
      ·cases h
     ·cases h
   ·cases h
  ·split at h
   ·rename_i Yu _
    exact ag0 dB Yu h
   ·cases h
  ·cases h
theorem amD:∀n:Nat,tG P (W (Z:=Z) tb n):=by
 intro n
 induction n with
 |zero=>intro N cp C cf S K z h;cases h
 |succ n ih=>exact adj ih
end Go.Rw
namespace Go.Proofs.Z
open Go Go.Bw Go.Rw Go.RowKit
structure aV where
 Do:Int
 R:Int
 S:Int
 A:Int
 B:Int
 V:Int
abbrev gZ:dI aV:=dI.via (LP (LI .u8) (LP (LI .u32) (LP (LI .u32) (LP (LI .u32) (LP (LI .u32) (LI .u64)))))) (λx=>(x.Do,x.R,x.S,x.A,x.B,x.V))
abbrev lE:aV:=⟨0,0,0,0,0,0⟩
instance:Inhabited aV:=⟨lE⟩
def qI:List Value:=[.int .u8 0]++([.int .u32 0]++([.int .u32 0]++([.int .u32 0]++([.int .u32 0]++([.int .u64 0])))))
theorem D1{A:World->Prop}:gZ.fz A qI lE:=⟨_,_,rfl,rfl,⟨_,_,rfl,rfl,⟨_,_,rfl,rfl,⟨_,_,rfl,rfl,⟨_,_,rfl,rfl,rfl⟩⟩⟩⟩⟩
theorem Kb:aY gZ (LI .u8) 0 (λx=>x.Do) (λx v=>{x with Do:=v}):=(aY.fst aY.id).via _ _ _ 0 rfl (λ_ =>rfl) (λ_ _ =>rfl)
theorem Ms:aY gZ (LI .u32) 1 (λx=>x.R) (λx v=>{x with R:=v}):=(aY.snd (aY.fst aY.id)).via _ _ _ 1 rfl (λ_ =>rfl) (λ_ _ =>rfl)
theorem Mr:aY gZ (LI .u32) 2 (λx=>x.S) (λx v=>{x with S:=v}):=(aY.snd (aY.snd (aY.fst aY.id))).via _ _ _ 2 rfl (λ_ =>rfl) (λ_ _ =>rfl)
theorem Mu:aY gZ (LI .u32) 3 (λx=>x.A) (λx v=>{x with A:=v}):=(aY.snd (aY.snd (aY.snd (aY.fst aY.id)))).via _ _ _ 3 rfl (λ_ =>rfl) (λ_ _ =>rfl)
theorem Mt:aY gZ (LI .u32) 4 (λx=>x.B) (λx v=>{x with B:=v}):=(aY.snd (aY.snd (aY.snd (aY.snd (aY.fst aY.id))))).via _ _ _ 4 rfl (λ_ =>rfl) (λ_ _ =>rfl)
theorem Mq:aY gZ (LI .u64) 5 (λx=>x.V) (λx v=>{x with V:=v}):=(aY.snd (aY.snd (aY.snd (aY.snd (aY.snd aY.id))))).via _ _ _ 5 rfl (λ_ =>rfl) (λ_ _ =>rfl)
structure jl where
 gj:Int
 C:aV
abbrev rY:dI jl:=dI.via (LP (LI .u8) gZ) (λx=>(x.gj,x.C))
abbrev Js:jl:=⟨0,lE⟩
instance:Inhabited jl:=⟨Js⟩
theorem I1:aY rY (LI .u8) 0 (λx=>x.gj) (λx v=>{x with gj:=v}):=(aY.fst aY.id).via _ _ _ 0 rfl (λ_ =>rfl) (λ_ _ =>rfl)
theorem Ng:aY rY gZ 1 (λx=>x.C) (λx v=>{x with C:=v}):=(aY.snd aY.id).via _ _ _ 1 rfl (λ_ =>rfl) (λ_ _ =>rfl)
structure eX where
 gen:Int
 ox:Bool
 mZ:Bool
abbrev dg:dI eX:=dI.via (LP (LI .u32) (LP LB LB)) (λx=>(x.gen,x.ox,x.mZ))
abbrev qZ:eX:=⟨0,false,false⟩
def wU:List Value:=[.int .u32 0]++([.bool false]++([.bool false]))
theorem BI{A:World->Prop}:dg.fz A wU qZ:=⟨_,_,rfl,rfl,⟨_,_,rfl,rfl,rfl⟩⟩
theorem nB:aY dg (LI .u32) 0 (λx=>x.gen) (λx v=>{x with gen:=v}):=(aY.fst aY.id).via _ _ _ 0 rfl (λ_ =>rfl) (λ_ _ =>rfl)
theorem p8:aY dg LB 1 (λx=>x.ox) (λx v=>{x with ox:=v}):=(aY.snd (aY.fst aY.id)).via _ _ _ 1 rfl (λ_ =>rfl) (λ_ _ =>rfl)
theorem tI:aY dg LB 2 (λx=>x.mZ) (λx v=>{x with mZ:=v}):=(aY.snd (aY.snd aY.id)).via _ _ _ 2 rfl (λ_ =>rfl) (λ_ _ =>rfl)
structure bn where
 aI:(Nat->eX)
abbrev bA:dI bn:=dI.via (LA dg 32) (λx=>x.aI)
abbrev lP:bn:=⟨(λ_ =>qZ)⟩
instance:Inhabited bn:=⟨lP⟩
def so:List Value:=(flat (λ_ =>wU) 32)
theorem wP{A:World->Prop}:bA.fz A so lP:=⟨_,rfl,λ_ _ =>BI⟩
theorem fg:aY bA (LA dg 32) 0 (λx=>x.aI) (λx v=>{x with aI:=v}):=aY.id.via _ _ _ 0 rfl (λ_ =>rfl) (λ_ _ =>rfl)
structure pK where
 og:bn
abbrev td:dI pK:=dI.via bA (λx=>x.og)
abbrev AI:pK:=⟨lP⟩
def D2:List Value:=so
theorem MH{A:World->Prop}:td.fz A D2 AI:=wP
theorem GV:aY td bA 0 (λx=>x.og) (λx v=>{x with og:=v}):=aY.id.via _ _ _ 0 rfl (λ_ =>rfl) (λ_ _ =>rfl)
structure aB where
 At:Int
 N:Int
abbrev cQ:dI aB:=dI.via (LP (LI .i64) (LI .i64)) (λx=>(x.At,x.N))
abbrev gi:aB:=⟨0,0⟩
instance:Inhabited aB:=⟨gi⟩
def uy:List Value:=[.int .i64 0]++([.int .i64 0])
theorem I2{A:World->Prop}:cQ.fz A uy gi:=⟨_,_,rfl,rfl,rfl⟩
theorem Na:aY cQ (LI .i64) 0 (λx=>x.At) (λx v=>{x with At:=v}):=(aY.fst aY.id).via _ _ _ 0 rfl (λ_ =>rfl) (λ_ _ =>rfl)
theorem Qa:aY cQ (LI .i64) 1 (λx=>x.N) (λx v=>{x with N:=v}):=(aY.snd aY.id).via _ _ _ 1 rfl (λ_ =>rfl) (λ_ _ =>rfl)
structure bg where
 aP:(List aB)
 lu:Int
abbrev mS:dI bg:=dI.via (LP (@Qc aB ⟨gi⟩ cQ) (LI .i64)) (λx=>(x.aP,x.lu))
abbrev dJ:bg:=⟨[],0⟩
instance:Inhabited bg:=⟨dJ⟩
def lR:List Value:=[.slice none 0 0]++([.int .i64 0])
theorem qg{A:World->Prop}:mS.fz A lR dJ:=⟨_,_,rfl,⟨_,_,rfl,DZ.nil⟩,rfl⟩
theorem CS:aY mS (@Qc aB ⟨gi⟩ cQ) 0 (λx=>x.aP) (λx v=>{x with aP:=v}):=(aY.fst aY.id).via _ _ _ 0 rfl (λ_ =>rfl) (λ_ _ =>rfl)
theorem DY:aY mS (LI .i64) 1 (λx=>x.lu) (λx v=>{x with lu:=v}):=(aY.snd aY.id).via _ _ _ 1 rfl (λ_ =>rfl) (λ_ _ =>rfl)
structure aS where
 Up:Int
 cu:Int
 E:bg
 bC:(Nat->Int)
abbrev kA:dI aS:=dI.via (LP (LI .u32) (LP (LI .i64) (LP mS (LA (LI .u32) 8)))) (λx=>(x.Up,x.cu,x.E,x.bC))
abbrev nZ:aS:=⟨0,0,dJ,(λ_ =>0)⟩
instance:Inhabited aS:=⟨nZ⟩
def vo:List Value:=[.int .u32 0]++([.int .i64 0]++(lR++((flat (λ_ =>[.int .u32 0]) 8))))
theorem AW{A:World->Prop}:kA.fz A vo nZ:=⟨_,_,rfl,rfl,⟨_,_,rfl,rfl,⟨_,_,rfl,qg,⟨_,rfl,λ_ _ =>rfl⟩⟩⟩⟩
theorem GX:aY kA (LI .u32) 0 (λx=>x.Up) (λx v=>{x with Up:=v}):=(aY.fst aY.id).via _ _ _ 0 rfl (λ_ =>rfl) (λ_ _ =>rfl)
theorem CK:aY kA (LI .i64) 1 (λx=>x.cu) (λx v=>{x with cu:=v}):=(aY.snd (aY.fst aY.id)).via _ _ _ 1 rfl (λ_ =>rfl) (λ_ _ =>rfl)
theorem IE:aY kA mS 2 (λx=>x.E) (λx v=>{x with E:=v}):=(aY.snd (aY.snd (aY.fst aY.id))).via _ _ _ 2 rfl (λ_ =>rfl) (λ_ _ =>rfl)
theorem CL:aY kA (LA (LI .u32) 8) 4 (λx=>x.bC) (λx v=>{x with bC:=v}):=(aY.snd (aY.snd (aY.snd aY.id))).via _ _ _ 4 rfl (λ_ =>rfl) (λ_ _ =>rfl)
structure av where
 bj:pK
 cP:(Nat->aS)
abbrev oV:dI av:=dI.via (LP td (LA kA 32)) (λx=>(x.bj,x.cP))
abbrev iT:av:=⟨AI,(λ_ =>nZ)⟩
instance:Inhabited av:=⟨iT⟩
def wR:List Value:=D2++((flat (λ_ =>vo) 32))
theorem BE{A:World->Prop}:oV.fz A wR iT:=⟨_,_,rfl,MH,⟨_,rfl,λ_ _ =>AW⟩⟩
theorem E9:aY oV td 0 (λx=>x.bj) (λx v=>{x with bj:=v}):=(aY.fst aY.id).via _ _ _ 0 rfl (λ_ =>rfl) (λ_ _ =>rfl)
theorem Br:aY oV (LA kA 32) 96 (λx=>x.cP) (λx v=>{x with cP:=v}):=(aY.snd aY.id).via _ _ _ 96 rfl (λ_ =>rfl) (λ_ _ =>rfl)
structure cK where
 dx:Int
 gj:Int
 dU:Int
abbrev uh:dI cK:=dI.via (LP (LI .u8) (LP (LI .u8) (LI .u8))) (λx=>(x.dx,x.gj,x.dU))
abbrev wN:cK:=⟨0,0,0⟩
instance:Inhabited cK:=⟨wN⟩
def El:List Value:=[.int .u8 0]++([.int .u8 0]++([.int .u8 0]))
theorem KC{A:World->Prop}:uh.fz A El wN:=⟨_,_,rfl,rfl,⟨_,_,rfl,rfl,rfl⟩⟩
theorem Mn:aY uh (LI .u8) 0 (λx=>x.dx) (λx v=>{x with dx:=v}):=(aY.fst aY.id).via _ _ _ 0 rfl (λ_ =>rfl) (λ_ _ =>rfl)
theorem Mm:aY uh (LI .u8) 1 (λx=>x.gj) (λx v=>{x with gj:=v}):=(aY.snd (aY.fst aY.id)).via _ _ _ 1 rfl (λ_ =>rfl) (λ_ _ =>rfl)
theorem G4:aY uh (LI .u8) 2 (λx=>x.dU) (λx v=>{x with dU:=v}):=(aY.snd (aY.snd aY.id)).via _ _ _ 2 rfl (λ_ =>rfl) (λ_ _ =>rfl)
structure pP where
 root:Int
 own:cK
abbrev ug:dI pP:=dI.via (LP (LI .u32) uh) (λx=>(x.root,x.own))
abbrev xR:pP:=⟨0,wN⟩
def BK:List Value:=[.int .u32 0]++(El)
theorem I3{A:World->Prop}:ug.fz A BK xR:=⟨_,_,rfl,rfl,KC⟩
theorem Ka:aY ug (LI .u32) 0 (λx=>x.root) (λx v=>{x with root:=v}):=(aY.fst aY.id).via _ _ _ 0 rfl (λ_ =>rfl) (λ_ _ =>rfl)
theorem Ml:aY ug uh 1 (λx=>x.own) (λx v=>{x with own:=v}):=(aY.snd aY.id).via _ _ _ 1 rfl (λ_ =>rfl) (λ_ _ =>rfl)
structure bN where
 aI:(Nat->pP)
abbrev xU:dI bN:=dI.via (LA ug 32) (λx=>x.aI)
abbrev p7:bN:=⟨(λ_ =>xR)⟩
instance:Inhabited bN:=⟨p7⟩
def BL:List Value:=(flat (λ_ =>BK) 32)
theorem I4{A:World->Prop}:xU.fz A BL p7:=⟨_,rfl,λ_ _ =>I3⟩
theorem IV:aY xU (LA ug 32) 0 (λx=>x.aI) (λx v=>{x with aI:=v}):=aY.id.via _ _ _ 0 rfl (λ_ =>rfl) (λ_ _ =>rfl)
structure bE where
 Region:Int
 By:Int
 To:Int
 bF:Bool
 bh:Int
abbrev cq:dI bE:=dI.via (LP (LI .u32) (LP (LI .u8) (LP (LI .u8) (LP LB (LI .u32))))) (λx=>(x.Region,x.By,x.To,x.bF,x.bh))
abbrev lK:bE:=⟨0,0,0,false,0⟩
instance:Inhabited bE:=⟨lK⟩
def wQ:List Value:=[.int .u32 0]++([.int .u8 0]++([.int .u8 0]++([.bool false]++([.int .u32 0]))))
theorem BD{A:World->Prop}:cq.fz A wQ lK:=⟨_,_,rfl,rfl,⟨_,_,rfl,rfl,⟨_,_,rfl,rfl,⟨_,_,rfl,rfl,rfl⟩⟩⟩⟩
theorem CJ:aY cq (LI .u32) 0 (λx=>x.Region) (λx v=>{x with Region:=v}):=(aY.fst aY.id).via _ _ _ 0 rfl (λ_ =>rfl) (λ_ _ =>rfl)
theorem ID:aY cq (LI .u8) 1 (λx=>x.By) (λx v=>{x with By:=v}):=(aY.snd (aY.fst aY.id)).via _ _ _ 1 rfl (λ_ =>rfl) (λ_ _ =>rfl)
theorem IC:aY cq (LI .u8) 2 (λx=>x.To) (λx v=>{x with To:=v}):=(aY.snd (aY.snd (aY.fst aY.id))).via _ _ _ 2 rfl (λ_ =>rfl) (λ_ _ =>rfl)
theorem Bq:aY cq LB 3 (λx=>x.bF) (λx v=>{x with bF:=v}):=(aY.snd (aY.snd (aY.snd (aY.fst aY.id)))).via _ _ _ 3 rfl (λ_ =>rfl) (λ_ _ =>rfl)
theorem wj:aY cq (LI .u32) 4 (λx=>x.bh) (λx v=>{x with bh:=v}):=(aY.snd (aY.snd (aY.snd (aY.snd aY.id)))).via _ _ _ 4 rfl (λ_ =>rfl) (λ_ _ =>rfl)
structure ay where
 bj:bn
 aI:(Nat->bE)
abbrev aF:dI ay:=dI.via (LP bA (LA cq 16)) (λx=>(x.bj,x.aI))
abbrev eI:ay:=⟨lP,(λ_ =>lK)⟩
instance:Inhabited ay:=⟨eI⟩
def vn:List Value:=so++((flat (λ_ =>wQ) 16))
theorem AU{A:World->Prop}:aF.fz A vn eI:=⟨_,_,rfl,wP,⟨_,rfl,λ_ _ =>BD⟩⟩
theorem ig:aY aF bA 0 (λx=>x.bj) (λx v=>{x with bj:=v}):=(aY.fst aY.id).via _ _ _ 0 rfl (λ_ =>rfl) (λ_ _ =>rfl)
theorem vh:aY aF (LA cq 16) 96 (λx=>x.aI) (λx v=>{x with aI:=v}):=(aY.snd aY.id).via _ _ _ 96 rfl (λ_ =>rfl) (λ_ _ =>rfl)
structure dm where
 T:av
 O:bN
 K:ay
abbrev iG:dI dm:=dI.via (LP oV (LP xU aF)) (λx=>(x.T,x.O,x.K))
abbrev AJ:dm:=⟨iT,p7,eI⟩
def D4:List Value:=wR++(BL++(vn))
theorem MJ{A:World->Prop}:iG.fz A D4 AJ:=⟨_,_,rfl,BE,⟨_,_,rfl,I4,AU⟩⟩
theorem Mw:aY iG oV 0 (λx=>x.T) (λx v=>{x with T:=v}):=(aY.fst aY.id).via _ _ _ 0 rfl (λ_ =>rfl) (λ_ _ =>rfl)
theorem Mx:aY iG xU 480 (λx=>x.O) (λx v=>{x with O:=v}):=(aY.snd (aY.fst aY.id)).via _ _ _ 480 rfl (λ_ =>rfl) (λ_ _ =>rfl)
theorem My:aY iG aF 608 (λx=>x.K) (λx v=>{x with K:=v}):=(aY.snd (aY.snd aY.id)).via _ _ _ 608 rfl (λ_ =>rfl) (λ_ _ =>rfl)
structure aX where
 mA:Int
 u7:Int
 Region:Int
 iz:Bool
abbrev iE:dI aX:=dI.via (LP (LI .u8) (LP (LI .u64) (LP (LI .u32) LB))) (λx=>(x.mA,x.u7,x.Region,x.iz))
abbrev fU:aX:=⟨0,0,0,false⟩
instance:Inhabited aX:=⟨fU⟩
def vx:List Value:=[.int .u8 0]++([.int .u64 0]++([.int .u32 0]++([.bool false])))
theorem A0{A:World->Prop}:iE.fz A vx fU:=⟨_,_,rfl,rfl,⟨_,_,rfl,rfl,⟨_,_,rfl,rfl,rfl⟩⟩⟩
theorem DX:aY iE (LI .u8) 0 (λx=>x.mA) (λx v=>{x with mA:=v}):=(aY.fst aY.id).via _ _ _ 0 rfl (λ_ =>rfl) (λ_ _ =>rfl)
theorem DW:aY iE (LI .u64) 1 (λx=>x.u7) (λx v=>{x with u7:=v}):=(aY.snd (aY.fst aY.id)).via _ _ _ 1 rfl (λ_ =>rfl) (λ_ _ =>rfl)
theorem Bv:aY iE (LI .u32) 2 (λx=>x.Region) (λx v=>{x with Region:=v}):=(aY.snd (aY.snd (aY.fst aY.id))).via _ _ _ 2 rfl (λ_ =>rfl) (λ_ _ =>rfl)
theorem CR:aY iE LB 3 (λx=>x.iz) (λx v=>{x with iz:=v}):=(aY.snd (aY.snd (aY.snd aY.id))).via _ _ _ 3 rfl (λ_ =>rfl) (λ_ _ =>rfl)
structure bU where
 ring:(Nat->aX)
 iS:Int
 n:Int
 closed:Bool
abbrev qc:dI bU:=dI.via (LP (LA iE 4) (LP (LI .i64) (LP (LI .i64) LB))) (λx=>(x.ring,x.iS,x.n,x.closed))
abbrev uc:bU:=⟨(λ_ =>fU),0,0,false⟩
instance:Inhabited bU:=⟨uc⟩
def BM:List Value:=(flat (λ_ =>vx) 4)++([.int .i64 0]++([.int .i64 0]++([.bool false])))
theorem I5{A:World->Prop}:qc.fz A BM uc:=⟨_,_,rfl,⟨_,rfl,λ_ _ =>A0⟩,⟨_,_,rfl,rfl,⟨_,_,rfl,rfl,rfl⟩⟩⟩
theorem Kc:aY qc (LA iE 4) 0 (λx=>x.ring) (λx v=>{x with ring:=v}):=(aY.fst aY.id).via _ _ _ 0 rfl (λ_ =>rfl) (λ_ _ =>rfl)
theorem IZ:aY qc (LI .i64) 16 (λx=>x.iS) (λx v=>{x with iS:=v}):=(aY.snd (aY.fst aY.id)).via _ _ _ 16 rfl (λ_ =>rfl) (λ_ _ =>rfl)
theorem Qb:aY qc (LI .i64) 17 (λx=>x.n) (λx v=>{x with n:=v}):=(aY.snd (aY.snd (aY.fst aY.id))).via _ _ _ 17 rfl (λ_ =>rfl) (λ_ _ =>rfl)
theorem G6:aY qc LB 18 (λx=>x.closed) (λx v=>{x with closed:=v}):=(aY.snd (aY.snd (aY.snd aY.id))).via _ _ _ 18 rfl (λ_ =>rfl) (λ_ _ =>rfl)
structure bw where
 aC:dm
 fQ:(Nat->bU)
 cH:(Nat->Bool)
 nE:(Nat->Bool)
abbrev oX:dI bw:=dI.via (LP iG (LP (LA qc 8) (LP (LA LB 8) (LA LB 8)))) (λx=>(x.aC,x.fQ,x.cH,x.nE))
abbrev ef:bw:=⟨AJ,(λ_ =>uc),(λ_ =>false),(λ_ =>false)⟩
instance:Inhabited bw:=⟨ef⟩
def pD:List Value:=D4++((flat (λ_ =>BM) 8)++((flat (λ_ =>[.bool false]) 8)++((flat (λ_ =>[.bool false]) 8))))
theorem BH{A:World->Prop}:oX.fz A pD ef:=⟨_,_,rfl,MJ,⟨_,_,rfl,⟨_,rfl,λ_ _ =>I5⟩,⟨_,_,rfl,⟨_,rfl,λ_ _ =>rfl⟩,⟨_,rfl,λ_ _ =>rfl⟩⟩⟩⟩
theorem G5:aY oX iG 0 (λx=>x.aC) (λx v=>{x with aC:=v}):=(aY.fst aY.id).via _ _ _ 0 rfl (λ_ =>rfl) (λ_ _ =>rfl)
theorem DU:aY oX (LA qc 8) 784 (λx=>x.fQ) (λx v=>{x with fQ:=v}):=(aY.snd (aY.fst aY.id)).via _ _ _ 784 rfl (λ_ =>rfl) (λ_ _ =>rfl)
theorem DV:aY oX (LA LB 8) 936 (λx=>x.cH) (λx v=>{x with cH:=v}):=(aY.snd (aY.snd (aY.fst aY.id))).via _ _ _ 936 rfl (λ_ =>rfl) (λ_ _ =>rfl)
theorem Ff:aY oX (LA LB 8) 944 (λx=>x.nE) (λx v=>{x with nE:=v}):=(aY.snd (aY.snd (aY.snd aY.id))).via _ _ _ 944 rfl (λ_ =>rfl) (λ_ _ =>rfl)
structure aD where
 gE:(Nat->Int)
 Is:(Nat->Int)
abbrev nD:dI aD:=dI.via (LP (LA (LI .i64) 32) (LA (LI .i64) 32)) (λx=>(x.gE,x.Is))
abbrev oH:aD:=⟨(λ_ =>0),(λ_ =>0)⟩
instance:Inhabited aD:=⟨oH⟩
def uk:List Value:=(flat (λ_ =>[.int .i64 0]) 32)++((flat (λ_ =>[.int .i64 0]) 32))
theorem yG{A:World->Prop}:nD.fz A uk oH:=⟨_,_,rfl,⟨_,rfl,λ_ _ =>rfl⟩,⟨_,rfl,λ_ _ =>rfl⟩⟩
theorem IU:aY nD (LA (LI .i64) 32) 0 (λx=>x.gE) (λx v=>{x with gE:=v}):=(aY.fst aY.id).via _ _ _ 0 rfl (λ_ =>rfl) (λ_ _ =>rfl)
theorem J9:aY nD (LA (LI .i64) 32) 32 (λx=>x.Is) (λx v=>{x with Is:=v}):=(aY.snd aY.id).via _ _ _ 32 rfl (λ_ =>rfl) (λ_ _ =>rfl)
structure bR where
 aP:(List (Nat->Int))
 lu:Int
abbrev oe:dI bR:=dI.via (LP (@Qc (Nat->Int) ⟨(λ_ =>0)⟩ (LA (LI .i64) 2)) (LI .i64)) (λx=>(x.aP,x.lu))
abbrev bD:bR:=⟨[],0⟩
instance:Inhabited bR:=⟨bD⟩
def vt:List Value:=[.slice none 0 0]++([.int .i64 0])
theorem AZ{A:World->Prop}:oe.fz A vt bD:=⟨_,_,rfl,⟨_,_,rfl,DZ.nil⟩,rfl⟩
theorem DT:aY oe (@Qc (Nat->Int) ⟨(λ_ =>0)⟩ (LA (LI .i64) 2)) 0 (λx=>x.aP) (λx v=>{x with aP:=v}):=(aY.fst aY.id).via _ _ _ 0 rfl (λ_ =>rfl) (λ_ _ =>rfl)
theorem Fe:aY oe (LI .i64) 1 (λx=>x.lu) (λx v=>{x with lu:=v}):=(aY.snd aY.id).via _ _ _ 1 rfl (λ_ =>rfl) (λ_ _ =>rfl)
structure bL where
 Up:Int
 cu:Int
 E:bR
 bC:(Nat->Int)
abbrev kB:dI bL:=dI.via (LP (LI .i64) (LP (LI .i64) (LP oe (LA (LI .i64) 8)))) (λx=>(x.Up,x.cu,x.E,x.bC))
abbrev n9:bL:=⟨0,0,bD,(λ_ =>0)⟩
instance:Inhabited bL:=⟨n9⟩
def vq:List Value:=[.int .i64 0]++([.int .i64 0]++(vt++((flat (λ_ =>[.int .i64 0]) 8))))
theorem AY{A:World->Prop}:kB.fz A vq n9:=⟨_,_,rfl,rfl,⟨_,_,rfl,rfl,⟨_,_,rfl,AZ,⟨_,rfl,λ_ _ =>rfl⟩⟩⟩⟩
theorem G3:aY kB (LI .i64) 0 (λx=>x.Up) (λx v=>{x with Up:=v}):=(aY.fst aY.id).via _ _ _ 0 rfl (λ_ =>rfl) (λ_ _ =>rfl)
theorem CP:aY kB (LI .i64) 1 (λx=>x.cu) (λx v=>{x with cu:=v}):=(aY.snd (aY.fst aY.id)).via _ _ _ 1 rfl (λ_ =>rfl) (λ_ _ =>rfl)
theorem IT:aY kB oe 2 (λx=>x.E) (λx v=>{x with E:=v}):=(aY.snd (aY.snd (aY.fst aY.id))).via _ _ _ 2 rfl (λ_ =>rfl) (λ_ _ =>rfl)
theorem CQ:aY kB (LA (LI .i64) 8) 4 (λx=>x.bC) (λx v=>{x with bC:=v}):=(aY.snd (aY.snd (aY.snd aY.id))).via _ _ _ 4 rfl (λ_ =>rfl) (λ_ _ =>rfl)
structure ai where
 B:aD
 R:(Nat->bL)
abbrev oW:dI ai:=dI.via (LP nD (LA kB 32)) (λx=>(x.B,x.R))
abbrev gQ:ai:=⟨oH,(λ_ =>n9)⟩
instance:Inhabited ai:=⟨gQ⟩
def wT:List Value:=uk++((flat (λ_ =>vq) 32))
theorem BG{A:World->Prop}:oW.fz A wT gQ:=⟨_,_,rfl,yG,⟨_,rfl,λ_ _ =>AY⟩⟩
theorem J8:aY oW nD 0 (λx=>x.B) (λx v=>{x with B:=v}):=(aY.fst aY.id).via _ _ _ 0 rfl (λ_ =>rfl) (λ_ _ =>rfl)
theorem J7:aY oW (LA kB 32) 64 (λx=>x.R) (λx v=>{x with R:=v}):=(aY.snd aY.id).via _ _ _ 64 rfl (λ_ =>rfl) (λ_ _ =>rfl)
structure bT where
 dx:Int
 gj:Int
 kR:(Nat->Bool)
abbrev aK:dI bT:=dI.via (LP (LI .i64) (LP (LI .i64) (LA LB 8))) (λx=>(x.dx,x.gj,x.kR))
abbrev pZ:bT:=⟨0,0,(λ_ =>false)⟩
instance:Inhabited bT:=⟨pZ⟩
def Fw:List Value:=[.int .i64 0]++([.int .i64 0]++((flat (λ_ =>[.bool false]) 8)))
theorem Oc{A:World->Prop}:aK.fz A Fw pZ:=⟨_,_,rfl,rfl,⟨_,_,rfl,rfl,⟨_,rfl,λ_ _ =>rfl⟩⟩⟩
theorem IS:aY aK (LI .i64) 0 (λx=>x.dx) (λx v=>{x with dx:=v}):=(aY.fst aY.id).via _ _ _ 0 rfl (λ_ =>rfl) (λ_ _ =>rfl)
theorem IQ:aY aK (LI .i64) 1 (λx=>x.gj) (λx v=>{x with gj:=v}):=(aY.snd (aY.fst aY.id)).via _ _ _ 1 rfl (λ_ =>rfl) (λ_ _ =>rfl)
theorem G2:aY aK (LA LB 8) 2 (λx=>x.kR) (λx v=>{x with kR:=v}):=(aY.snd (aY.snd aY.id)).via _ _ _ 2 rfl (λ_ =>rfl) (λ_ _ =>rfl)
structure aR where
 cS:(List Int)
 tJ:(List bT)
abbrev qy:dI aR:=dI.via (LP (@Qc Int ⟨0⟩ (LI .i64)) (@Qc bT ⟨pZ⟩ aK)) (λx=>(x.cS,x.tJ))
abbrev iF:aR:=⟨[],[]⟩
instance:Inhabited aR:=⟨iF⟩
def fV:List Value:=[.slice none 0 0]++([.slice none 0 0])
theorem lH{A:World->Prop}:qy.fz A fV iF:=⟨_,_,rfl,⟨_,_,rfl,DZ.nil⟩,⟨_,_,rfl,DZ.nil⟩⟩
theorem G1:aY qy (@Qc Int ⟨0⟩ (LI .i64)) 0 (λx=>x.cS) (λx v=>{x with cS:=v}):=(aY.fst aY.id).via _ _ _ 0 rfl (λ_ =>rfl) (λ_ _ =>rfl)
theorem IP:aY qy (@Qc bT ⟨pZ⟩ aK) 1 (λx=>x.tJ) (λx v=>{x with tJ:=v}):=(aY.snd aY.id).via _ _ _ 1 rfl (λ_ =>rfl) (λ_ _ =>rfl)
structure cB where
 Region:Int
 By:Int
 To:Int
 bF:Bool
 bh:Int
abbrev j9:dI cB:=dI.via (LP (LI .i64) (LP (LI .i64) (LP (LI .i64) (LP LB (LI .i64))))) (λx=>(x.Region,x.By,x.To,x.bF,x.bh))
abbrev oU:cB:=⟨0,0,0,false,0⟩
instance:Inhabited cB:=⟨oU⟩
def wS:List Value:=[.int .i64 0]++([.int .i64 0]++([.int .i64 0]++([.bool false]++([.int .i64 0]))))
theorem BF{A:World->Prop}:j9.fz A wS oU:=⟨_,_,rfl,rfl,⟨_,_,rfl,rfl,⟨_,_,rfl,rfl,⟨_,_,rfl,rfl,rfl⟩⟩⟩⟩
theorem CO:aY j9 (LI .i64) 0 (λx=>x.Region) (λx v=>{x with Region:=v}):=(aY.fst aY.id).via _ _ _ 0 rfl (λ_ =>rfl) (λ_ _ =>rfl)
theorem IN:aY j9 (LI .i64) 1 (λx=>x.By) (λx v=>{x with By:=v}):=(aY.snd (aY.fst aY.id)).via _ _ _ 1 rfl (λ_ =>rfl) (λ_ _ =>rfl)
theorem IM:aY j9 (LI .i64) 2 (λx=>x.To) (λx v=>{x with To:=v}):=(aY.snd (aY.snd (aY.fst aY.id))).via _ _ _ 2 rfl (λ_ =>rfl) (λ_ _ =>rfl)
theorem Bt:aY j9 LB 3 (λx=>x.bF) (λx v=>{x with bF:=v}):=(aY.snd (aY.snd (aY.snd (aY.fst aY.id)))).via _ _ _ 3 rfl (λ_ =>rfl) (λ_ _ =>rfl)
theorem DQ:aY j9 (LI .i64) 4 (λx=>x.bh) (λx v=>{x with bh:=v}):=(aY.snd (aY.snd (aY.snd (aY.snd aY.id)))).via _ _ _ 4 rfl (λ_ =>rfl) (λ_ _ =>rfl)
structure az where
 B:aD
 T:(Nat->cB)
abbrev od:dI az:=dI.via (LP nD (LA j9 32)) (λx=>(x.B,x.T))
abbrev je:az:=⟨oH,(λ_ =>oU)⟩
instance:Inhabited az:=⟨je⟩
def vp:List Value:=uk++((flat (λ_ =>wS) 32))
theorem AX{A:World->Prop}:od.fz A vp je:=⟨_,_,rfl,yG,⟨_,rfl,λ_ _ =>BF⟩⟩
theorem IK:aY od nD 0 (λx=>x.B) (λx v=>{x with B:=v}):=(aY.fst aY.id).via _ _ _ 0 rfl (λ_ =>rfl) (λ_ _ =>rfl)
theorem IJ:aY od (LA j9 32) 64 (λx=>x.T) (λx v=>{x with T:=v}):=(aY.snd aY.id).via _ _ _ 64 rfl (λ_ =>rfl) (λ_ _ =>rfl)
structure jI where
 T:ai
 O:aR
 K:az
abbrev qb:dI jI:=dI.via (LP oW (LP qy od)) (λx=>(x.T,x.O,x.K))
abbrev CB:jI:=⟨gQ,iF,je⟩
def Fv:List Value:=wT++(fV++(vp))
theorem Oa{A:World->Prop}:qb.fz A Fv CB:=⟨_,_,rfl,BG,⟨_,_,rfl,lH,AX⟩⟩
theorem Nc:aY qb oW 0 (λx=>x.T) (λx v=>{x with T:=v}):=(aY.fst aY.id).via _ _ _ 0 rfl (λ_ =>rfl) (λ_ _ =>rfl)
theorem Nd:aY qb qy 448 (λx=>x.O) (λx v=>{x with O:=v}):=(aY.snd (aY.fst aY.id)).via _ _ _ 448 rfl (λ_ =>rfl) (λ_ _ =>rfl)
theorem Nf:aY qb od 450 (λx=>x.K) (λx v=>{x with K:=v}):=(aY.snd (aY.snd aY.id)).via _ _ _ 450 rfl (λ_ =>rfl) (λ_ _ =>rfl)
structure bq where
 mA:Int
 u7:Int
 Region:Int
 iz:Bool
abbrev jv:dI bq:=dI.via (LP (LI .i64) (LP (LI .u64) (LP (LI .i64) LB))) (λx=>(x.mA,x.u7,x.Region,x.iz))
abbrev lf:bq:=⟨0,0,0,false⟩
instance:Inhabited bq:=⟨lf⟩
def yZ:List Value:=[.int .i64 0]++([.int .u64 0]++([.int .i64 0]++([.bool false])))
theorem Hf{A:World->Prop}:jv.fz A yZ lf:=⟨_,_,rfl,rfl,⟨_,_,rfl,rfl,⟨_,_,rfl,rfl,rfl⟩⟩⟩
theorem CN:aY jv (LI .i64) 0 (λx=>x.mA) (λx v=>{x with mA:=v}):=(aY.fst aY.id).via _ _ _ 0 rfl (λ_ =>rfl) (λ_ _ =>rfl)
theorem CM:aY jv (LI .u64) 1 (λx=>x.u7) (λx v=>{x with u7:=v}):=(aY.snd (aY.fst aY.id)).via _ _ _ 1 rfl (λ_ =>rfl) (λ_ _ =>rfl)
theorem AR:aY jv (LI .i64) 2 (λx=>x.Region) (λx v=>{x with Region:=v}):=(aY.snd (aY.snd (aY.fst aY.id))).via _ _ _ 2 rfl (λ_ =>rfl) (λ_ _ =>rfl)
theorem Bs:aY jv LB 3 (λx=>x.iz) (λx v=>{x with iz:=v}):=(aY.snd (aY.snd (aY.snd aY.id))).via _ _ _ 3 rfl (λ_ =>rfl) (λ_ _ =>rfl)
structure cM where
 L:(List bq)
 mO:Bool
abbrev rX:dI cM:=dI.via (LP (@Qc bq ⟨lf⟩ jv) LB) (λx=>(x.L,x.mO))
abbrev rV:cM:=⟨[],false⟩
instance:Inhabited cM:=⟨rV⟩
def zI:List Value:=[.slice none 0 0]++([.bool false])
theorem Fu{A:World->Prop}:rX.fz A zI rV:=⟨_,_,rfl,⟨_,_,rfl,DZ.nil⟩,rfl⟩
theorem Nb:aY rX (@Qc bq ⟨lf⟩ jv) 0 (λx=>x.L) (λx v=>{x with L:=v}):=(aY.fst aY.id).via _ _ _ 0 rfl (λ_ =>rfl) (λ_ _ =>rfl)
theorem Fc:aY rX LB 1 (λx=>x.mO) (λx v=>{x with mO:=v}):=(aY.snd aY.id).via _ _ _ 1 rfl (λ_ =>rfl) (λ_ _ =>rfl)
structure aj where
 aC:jI
 tw:(Nat->cM)
 cH:(Nat->Bool)
 nE:(Nat->Bool)
 fD:(Nat->(List Int))
 lz:(List (Nat->Int))
abbrev lQ:dI aj:=dI.via (LP qb (LP (LA rX 8) (LP (LA LB 8) (LP (LA LB 8) (LP (LA (@Qc Int ⟨0⟩ (LI .u8)) 32) (@Qc (Nat->Int) ⟨(λ_ =>0)⟩ (LA (LI .i64) 2))))))) (λx=>(x.aC,x.tw,x.cH,x.nE,x.fD,x.lz))
abbrev fX:aj:=⟨CB,(λ_ =>rV),(λ_ =>false),(λ_ =>false),(λ_ =>[]),[]⟩
instance:Inhabited aj:=⟨fX⟩
def BJ:List Value:=Fv++((flat (λ_ =>zI) 8)++((flat (λ_ =>[.bool false]) 8)++((flat (λ_ =>[.bool false]) 8)++((flat (λ_ =>[.slice none 0 0]) 32)++([.slice none 0 0])))))
theorem KB{A:World->Prop}:lQ.fz A BJ fX:=⟨_,_,rfl,Oa,⟨_,_,rfl,⟨_,rfl,λ_ _ =>Fu⟩,⟨_,_,rfl,⟨_,rfl,λ_ _ =>rfl⟩,⟨_,_,rfl,⟨_,rfl,λ_ _ =>rfl⟩,⟨_,_,rfl,⟨_,rfl,λ_ _ =>⟨_,_,rfl,DZ.nil⟩⟩,⟨_,_,rfl,DZ.nil⟩⟩⟩⟩⟩⟩
theorem GY:aY lQ qb 0 (λx=>x.aC) (λx v=>{x with aC:=v}):=(aY.fst aY.id).via _ _ _ 0 rfl (λ_ =>rfl) (λ_ _ =>rfl)
theorem GZ:aY lQ (LA rX 8) 674 (λx=>x.tw) (λx v=>{x with tw:=v}):=(aY.snd (aY.fst aY.id)).via _ _ _ 674 rfl (λ_ =>rfl) (λ_ _ =>rfl)
theorem DP:aY lQ (LA LB 8) 690 (λx=>x.cH) (λx v=>{x with cH:=v}):=(aY.snd (aY.snd (aY.fst aY.id))).via _ _ _ 690 rfl (λ_ =>rfl) (λ_ _ =>rfl)
theorem Fa:aY lQ (LA LB 8) 698 (λx=>x.nE) (λx v=>{x with nE:=v}):=(aY.snd (aY.snd (aY.snd (aY.fst aY.id)))).via _ _ _ 698 rfl (λ_ =>rfl) (λ_ _ =>rfl)
theorem DO:aY lQ (LA (@Qc Int ⟨0⟩ (LI .u8)) 32) 706 (λx=>x.fD) (λx v=>{x with fD:=v}):=(aY.snd (aY.snd (aY.snd (aY.snd (aY.fst aY.id))))).via _ _ _ 706 rfl (λ_ =>rfl) (λ_ _ =>rfl)
theorem Fb:aY lQ (@Qc (Nat->Int) ⟨(λ_ =>0)⟩ (LA (LI .i64) 2)) 738 (λx=>x.lz) (λx v=>{x with lz:=v}):=(aY.snd (aY.snd (aY.snd (aY.snd (aY.snd aY.id))))).via _ _ _ 738 rfl (λ_ =>rfl) (λ_ _ =>rfl)
structure cL where
 l:(List aB)
abbrev vl:dI cL:=dI.via (@Qc aB ⟨gi⟩ cQ) (λx=>x.l)
abbrev oo:cL:=⟨[]⟩
instance:Inhabited cL:=⟨oo⟩
def zH:List Value:=[.slice none 0 0]
theorem Ft{A:World->Prop}:vl.fz A zH oo:=⟨_,_,rfl,DZ.nil⟩
theorem M9:aY vl (@Qc aB ⟨gi⟩ cQ) 0 (λx=>x.l) (λx v=>{x with l:=v}):=aY.id.via _ _ _ 0 rfl (λ_ =>rfl) (λ_ _ =>rfl)
structure dc where
 qu:cL
abbrev yX:dI dc:=dI.via vl (λx=>x.qu)
abbrev qY:dc:=⟨oo⟩
instance:Inhabited dc:=⟨qY⟩
def BN:List Value:=zH
theorem KD{A:World->Prop}:yX.fz A BN qY:=Ft
theorem Fg:aY yX vl 0 (λx=>x.qu) (λx v=>{x with qu:=v}):=aY.id.via _ _ _ 0 rfl (λ_ =>rfl) (λ_ _ =>rfl)
structure bQ where
 Do:Int
 R:Int
 S:Int
 A:Int
 B:Int
 V:Int
abbrev nC:dI bQ:=dI.via (LP (LI .i64) (LP (LI .i64) (LP (LI .i64) (LP (LI .i64) (LP (LI .i64) (LI .u64)))))) (λx=>(x.Do,x.R,x.S,x.A,x.B,x.V))
abbrev s7:bQ:=⟨0,0,0,0,0,0⟩
instance:Inhabited bQ:=⟨s7⟩
def D3:List Value:=[.int .i64 0]++([.int .i64 0]++([.int .i64 0]++([.int .i64 0]++([.int .i64 0]++([.int .u64 0])))))
theorem MI{A:World->Prop}:nC.fz A D3 s7:=⟨_,_,rfl,rfl,⟨_,_,rfl,rfl,⟨_,_,rfl,rfl,⟨_,_,rfl,rfl,⟨_,_,rfl,rfl,rfl⟩⟩⟩⟩⟩
theorem J6:aY nC (LI .i64) 0 (λx=>x.Do) (λx v=>{x with Do:=v}):=(aY.fst aY.id).via _ _ _ 0 rfl (λ_ =>rfl) (λ_ _ =>rfl)
theorem Mi:aY nC (LI .i64) 1 (λx=>x.R) (λx v=>{x with R:=v}):=(aY.snd (aY.fst aY.id)).via _ _ _ 1 rfl (λ_ =>rfl) (λ_ _ =>rfl)
theorem Mh:aY nC (LI .i64) 2 (λx=>x.S) (λx v=>{x with S:=v}):=(aY.snd (aY.snd (aY.fst aY.id))).via _ _ _ 2 rfl (λ_ =>rfl) (λ_ _ =>rfl)
theorem Mk:aY nC (LI .i64) 3 (λx=>x.A) (λx v=>{x with A:=v}):=(aY.snd (aY.snd (aY.snd (aY.fst aY.id)))).via _ _ _ 3 rfl (λ_ =>rfl) (λ_ _ =>rfl)
theorem Mj:aY nC (LI .i64) 4 (λx=>x.B) (λx v=>{x with B:=v}):=(aY.snd (aY.snd (aY.snd (aY.snd (aY.fst aY.id))))).via _ _ _ 4 rfl (λ_ =>rfl) (λ_ _ =>rfl)
theorem Mg:aY nC (LI .u64) 5 (λx=>x.V) (λx v=>{x with V:=v}):=(aY.snd (aY.snd (aY.snd (aY.snd (aY.snd aY.id))))).via _ _ _ 5 rfl (λ_ =>rfl) (λ_ _ =>rfl)
structure aA where
 E:Int
 V:Int
 W:Int
abbrev eJ:dI aA:=dI.via (LP (LI .i64) (LP (LI .u64) (LI .u32))) (λx=>(x.E,x.V,x.W))
abbrev oa:aA:=⟨0,0,0⟩
def vu:List Value:=[.int .i64 0]++([.int .u64 0]++([.int .u32 0]))
theorem JB{A:World->Prop}:eJ.fz A vu oa:=⟨_,_,rfl,rfl,⟨_,_,rfl,rfl,rfl⟩⟩
theorem IY:aY eJ (LI .i64) 0 (λx=>x.E) (λx v=>{x with E:=v}):=(aY.fst aY.id).via _ _ _ 0 rfl (λ_ =>rfl) (λ_ _ =>rfl)
theorem IX:aY eJ (LI .u64) 1 (λx=>x.V) (λx v=>{x with V:=v}):=(aY.snd (aY.fst aY.id)).via _ _ _ 1 rfl (λ_ =>rfl) (λ_ _ =>rfl)
theorem IW:aY eJ (LI .u32) 2 (λx=>x.W) (λx v=>{x with W:=v}):=(aY.snd (aY.snd aY.id)).via _ _ _ 2 rfl (λ_ =>rfl) (λ_ _ =>rfl)
structure aH where
 E:Int
 V:Int
 W:Int
abbrev p9:dI aH:=dI.via (LP (LI .i64) (LP (LI .u64) (LI .i64))) (λx=>(x.E,x.V,x.W))
abbrev pY:aH:=⟨0,0,0⟩
instance:Inhabited aH:=⟨pY⟩
def A1:List Value:=[.int .i64 0]++([.int .u64 0]++([.int .i64 0]))
theorem JA{A:World->Prop}:p9.fz A A1 pY:=⟨_,_,rfl,rfl,⟨_,_,rfl,rfl,rfl⟩⟩
theorem II:aY p9 (LI .i64) 0 (λx=>x.E) (λx v=>{x with E:=v}):=(aY.fst aY.id).via _ _ _ 0 rfl (λ_ =>rfl) (λ_ _ =>rfl)
theorem IG:aY p9 (LI .u64) 1 (λx=>x.V) (λx v=>{x with V:=v}):=(aY.snd (aY.fst aY.id)).via _ _ _ 1 rfl (λ_ =>rfl) (λ_ _ =>rfl)
theorem IF:aY p9 (LI .i64) 2 (λx=>x.W) (λx v=>{x with W:=v}):=(aY.snd (aY.snd aY.id)).via _ _ _ 2 rfl (λ_ =>rfl) (λ_ _ =>rfl)
structure aq where
 ax:bw
 aE:Int
 c:aV
 run:aB
 pS:Int
 GJ:Bool
 gX:(List aB)
abbrev L9:aq:=⟨ef,0,lE,gi,0,false,[]⟩
instance:Inhabited aq:=⟨L9⟩
structure Bu where
 A:Type
 z:A
 L:dI A
def bu:List Bu:=[⟨aV,lE,gZ⟩,⟨jl,Js,rY⟩,⟨eX,qZ,dg⟩,⟨bn,lP,bA⟩,⟨pK,AI,td⟩,⟨aB,gi,cQ⟩,⟨bg,dJ,mS⟩,⟨aS,nZ,kA⟩,⟨av,iT,oV⟩,⟨cK,wN,uh⟩,⟨pP,xR,ug⟩,⟨bN,p7,xU⟩,⟨bE,lK,cq⟩,⟨ay,eI,aF⟩,⟨dm,AJ,iG⟩,⟨aX,fU,iE⟩,⟨bU,uc,qc⟩,⟨bw,ef,oX⟩,⟨aD,oH,nD⟩,⟨bR,bD,oe⟩,⟨bL,n9,kB⟩,⟨ai,gQ,oW⟩,⟨bT,pZ,aK⟩,⟨aR,iF,qy⟩,⟨cB,oU,j9⟩,⟨az,je,od⟩,⟨jI,CB,qb⟩,⟨bq,lf,jv⟩,⟨cM,rV,rX⟩,⟨aj,fX,lQ⟩,⟨cL,oo,vl⟩,⟨dc,qY,yX⟩,⟨bQ,s7,nC⟩,⟨aA,oa,eJ⟩,⟨aH,pY,p9⟩]
def b0:Bu:=⟨Bool,false,LB⟩
def nth:List Bu->Nat->Bu
 |[],_ =>b0
 |b::r,i=>match i with
  |0=>b
  |i+1=>nth r i
def sg:Sg:=⟨λi=>(nth bu i).A,λi=>(nth bu i).z,λi=>(nth bu i).L,some (.u8,[(1,157),(2,158),(3,159),(4,160),(5,161),(6,162),(7,163),(8,164),(9,165),(10,166),(11,167),(12,168),(13,169),(14,170),(15,171),(16,171),(17,172),(18,173),(19,174),(20,175),(21,176),(22,177)])⟩
def fds:UN sg
 |0=>[⟨(.int .u8),0,λ(x:aV)=>x.Do,λ(x:aV) v=>({x with Do:=v}:aV),Kb⟩,⟨(.int .u32),1,λ(x:aV)=>x.R,λ(x:aV) v=>({x with R:=v}:aV),Ms⟩,⟨(.int .u32),2,λ(x:aV)=>x.S,λ(x:aV) v=>({x with S:=v}:aV),Mr⟩,⟨(.int .u32),3,λ(x:aV)=>x.A,λ(x:aV) v=>({x with A:=v}:aV),Mu⟩,⟨(.int .u32),4,λ(x:aV)=>x.B,λ(x:aV) v=>({x with B:=v}:aV),Mt⟩,⟨(.int .u64),5,λ(x:aV)=>x.V,λ(x:aV) v=>({x with V:=v}:aV),Mq⟩]
 |1=>[⟨(.int .u8),0,λ(x:jl)=>x.gj,λ(x:jl) v=>({x with gj:=v}:jl),I1⟩,⟨(.st 0),1,λ(x:jl)=>x.C,λ(x:jl) v=>({x with C:=v}:jl),Ng⟩]
 |2=>[⟨(.int .u32),0,λ(x:eX)=>x.gen,λ(x:eX) v=>({x with gen:=v}:eX),nB⟩,⟨.bool,1,λ(x:eX)=>x.ox,λ(x:eX) v=>({x with ox:=v}:eX),p8⟩,⟨.bool,2,λ(x:eX)=>x.mZ,λ(x:eX) v=>({x with mZ:=v}:eX),tI⟩]
 |3=>[⟨(.oE 32 (.st 2)),0,λ(x:bn)=>x.aI,λ(x:bn) v=>({x with aI:=v}:bn),fg⟩]
 |4=>[⟨(.st 3),0,λ(x:pK)=>x.og,λ(x:pK) v=>({x with og:=v}:pK),GV⟩]
 |5=>[⟨(.int .i64),0,λ(x:aB)=>x.At,λ(x:aB) v=>({x with At:=v}:aB),Na⟩,⟨(.int .i64),1,λ(x:aB)=>x.N,λ(x:aB) v=>({x with N:=v}:aB),Qa⟩]
 |6=>[⟨(.sl (.st 5)),0,λ(x:bg)=>x.aP,λ(x:bg) v=>({x with aP:=v}:bg),CS⟩,⟨(.int .i64),1,λ(x:bg)=>x.lu,λ(x:bg) v=>({x with lu:=v}:bg),DY⟩]
 |7=>[⟨(.int .u32),0,λ(x:aS)=>x.Up,λ(x:aS) v=>({x with Up:=v}:aS),GX⟩,⟨(.int .i64),1,λ(x:aS)=>x.cu,λ(x:aS) v=>({x with cu:=v}:aS),CK⟩,⟨(.st 6),2,λ(x:aS)=>x.E,λ(x:aS) v=>({x with E:=v}:aS),IE⟩,⟨(.oE 8 (.int .u32)),4,λ(x:aS)=>x.bC,λ(x:aS) v=>({x with bC:=v}:aS),CL⟩]
 |8=>[⟨(.st 4),0,λ(x:av)=>x.bj,λ(x:av) v=>({x with bj:=v}:av),E9⟩,⟨(.oE 32 (.st 7)),96,λ(x:av)=>x.cP,λ(x:av) v=>({x with cP:=v}:av),Br⟩]
 |9=>[⟨(.int .u8),0,λ(x:cK)=>x.dx,λ(x:cK) v=>({x with dx:=v}:cK),Mn⟩,⟨(.int .u8),1,λ(x:cK)=>x.gj,λ(x:cK) v=>({x with gj:=v}:cK),Mm⟩,⟨(.int .u8),2,λ(x:cK)=>x.dU,λ(x:cK) v=>({x with dU:=v}:cK),G4⟩]
 |10=>[⟨(.int .u32),0,λ(x:pP)=>x.root,λ(x:pP) v=>({x with root:=v}:pP),Ka⟩,⟨(.st 9),1,λ(x:pP)=>x.own,λ(x:pP) v=>({x with own:=v}:pP),Ml⟩]
 |11=>[⟨(.oE 32 (.st 10)),0,λ(x:bN)=>x.aI,λ(x:bN) v=>({x with aI:=v}:bN),IV⟩]
 |12=>[⟨(.int .u32),0,λ(x:bE)=>x.Region,λ(x:bE) v=>({x with Region:=v}:bE),CJ⟩,⟨(.int .u8),1,λ(x:bE)=>x.By,λ(x:bE) v=>({x with By:=v}:bE),ID⟩,⟨(.int .u8),2,λ(x:bE)=>x.To,λ(x:bE) v=>({x with To:=v}:bE),IC⟩,⟨.bool,3,λ(x:bE)=>x.bF,λ(x:bE) v=>({x with bF:=v}:bE),Bq⟩,⟨(.int .u32),4,λ(x:bE)=>x.bh,λ(x:bE) v=>({x with bh:=v}:bE),wj⟩]
 |13=>[⟨(.st 3),0,λ(x:ay)=>x.bj,λ(x:ay) v=>({x with bj:=v}:ay),ig⟩,⟨(.oE 16 (.st 12)),96,λ(x:ay)=>x.aI,λ(x:ay) v=>({x with aI:=v}:ay),vh⟩]
 |14=>[⟨(.st 8),0,λ(x:dm)=>x.T,λ(x:dm) v=>({x with T:=v}:dm),Mw⟩,⟨(.st 11),480,λ(x:dm)=>x.O,λ(x:dm) v=>({x with O:=v}:dm),Mx⟩,⟨(.st 13),608,λ(x:dm)=>x.K,λ(x:dm) v=>({x with K:=v}:dm),My⟩]
 |15=>[⟨(.int .u8),0,λ(x:aX)=>x.mA,λ(x:aX) v=>({x with mA:=v}:aX),DX⟩,⟨(.int .u64),1,λ(x:aX)=>x.u7,λ(x:aX) v=>({x with u7:=v}:aX),DW⟩,⟨(.int .u32),2,λ(x:aX)=>x.Region,λ(x:aX) v=>({x with Region:=v}:aX),Bv⟩,⟨.bool,3,λ(x:aX)=>x.iz,λ(x:aX) v=>({x with iz:=v}:aX),CR⟩]
 |16=>[⟨(.oE 4 (.st 15)),0,λ(x:bU)=>x.ring,λ(x:bU) v=>({x with ring:=v}:bU),Kc⟩,⟨(.int .i64),16,λ(x:bU)=>x.iS,λ(x:bU) v=>({x with iS:=v}:bU),IZ⟩,⟨(.int .i64),17,λ(x:bU)=>x.n,λ(x:bU) v=>({x with n:=v}:bU),Qb⟩,⟨.bool,18,λ(x:bU)=>x.closed,λ(x:bU) v=>({x with closed:=v}:bU),G6⟩]
 |17=>[⟨(.st 14),0,λ(x:bw)=>x.aC,λ(x:bw) v=>({x with aC:=v}:bw),G5⟩,⟨(.oE 8 (.st 16)),784,λ(x:bw)=>x.fQ,λ(x:bw) v=>({x with fQ:=v}:bw),DU⟩,⟨(.oE 8 .bool),936,λ(x:bw)=>x.cH,λ(x:bw) v=>({x with cH:=v}:bw),DV⟩,⟨(.oE 8 .bool),944,λ(x:bw)=>x.nE,λ(x:bw) v=>({x with nE:=v}:bw),Ff⟩]
 |18=>[⟨(.oE 32 (.int .i64)),0,λ(x:aD)=>x.gE,λ(x:aD) v=>({x with gE:=v}:aD),IU⟩,⟨(.oE 32 (.int .i64)),32,λ(x:aD)=>x.Is,λ(x:aD) v=>({x with Is:=v}:aD),J9⟩]
 |19=>[⟨(.sl (.oE 2 (.int .i64))),0,λ(x:bR)=>x.aP,λ(x:bR) v=>({x with aP:=v}:bR),DT⟩,⟨(.int .i64),1,λ(x:bR)=>x.lu,λ(x:bR) v=>({x with lu:=v}:bR),Fe⟩]
 |20=>[⟨(.int .i64),0,λ(x:bL)=>x.Up,λ(x:bL) v=>({x with Up:=v}:bL),G3⟩,⟨(.int .i64),1,λ(x:bL)=>x.cu,λ(x:bL) v=>({x with cu:=v}:bL),CP⟩,⟨(.st 19),2,λ(x:bL)=>x.E,λ(x:bL) v=>({x with E:=v}:bL),IT⟩,⟨(.oE 8 (.int .i64)),4,λ(x:bL)=>x.bC,λ(x:bL) v=>({x with bC:=v}:bL),CQ⟩]
 |21=>[⟨(.st 18),0,λ(x:ai)=>x.B,λ(x:ai) v=>({x with B:=v}:ai),J8⟩,⟨(.oE 32 (.st 20)),64,λ(x:ai)=>x.R,λ(x:ai) v=>({x with R:=v}:ai),J7⟩]
 |22=>[⟨(.int .i64),0,λ(x:bT)=>x.dx,λ(x:bT) v=>({x with dx:=v}:bT),IS⟩,⟨(.int .i64),1,λ(x:bT)=>x.gj,λ(x:bT) v=>({x with gj:=v}:bT),IQ⟩,⟨(.oE 8 .bool),2,λ(x:bT)=>x.kR,λ(x:bT) v=>({x with kR:=v}:bT),G2⟩]
 |23=>[⟨(.sl (.int .i64)),0,λ(x:aR)=>x.cS,λ(x:aR) v=>({x with cS:=v}:aR),G1⟩,⟨(.sl (.st 22)),1,λ(x:aR)=>x.tJ,λ(x:aR) v=>({x with tJ:=v}:aR),IP⟩]
 |24=>[⟨(.int .i64),0,λ(x:cB)=>x.Region,λ(x:cB) v=>({x with Region:=v}:cB),CO⟩,⟨(.int .i64),1,λ(x:cB)=>x.By,λ(x:cB) v=>({x with By:=v}:cB),IN⟩,⟨(.int .i64),2,λ(x:cB)=>x.To,λ(x:cB) v=>({x with To:=v}:cB),IM⟩,⟨.bool,3,λ(x:cB)=>x.bF,λ(x:cB) v=>({x with bF:=v}:cB),Bt⟩,⟨(.int .i64),4,λ(x:cB)=>x.bh,λ(x:cB) v=>({x with bh:=v}:cB),DQ⟩]
 |25=>[⟨(.st 18),0,λ(x:az)=>x.B,λ(x:az) v=>({x with B:=v}:az),IK⟩,⟨(.oE 32 (.st 24)),64,λ(x:az)=>x.T,λ(x:az) v=>({x with T:=v}:az),IJ⟩]
 |26=>[⟨(.st 21),0,λ(x:jI)=>x.T,λ(x:jI) v=>({x with T:=v}:jI),Nc⟩,⟨(.st 23),448,λ(x:jI)=>x.O,λ(x:jI) v=>({x with O:=v}:jI),Nd⟩,⟨(.st 25),450,λ(x:jI)=>x.K,λ(x:jI) v=>({x with K:=v}:jI),Nf⟩]
 |27=>[⟨(.int .i64),0,λ(x:bq)=>x.mA,λ(x:bq) v=>({x with mA:=v}:bq),CN⟩,⟨(.int .u64),1,λ(x:bq)=>x.u7,λ(x:bq) v=>({x with u7:=v}:bq),CM⟩,⟨(.int .i64),2,λ(x:bq)=>x.Region,λ(x:bq) v=>({x with Region:=v}:bq),AR⟩,⟨.bool,3,λ(x:bq)=>x.iz,λ(x:bq) v=>({x with iz:=v}:bq),Bs⟩]
 |28=>[⟨(.sl (.st 27)),0,λ(x:cM)=>x.L,λ(x:cM) v=>({x with L:=v}:cM),Nb⟩,⟨.bool,1,λ(x:cM)=>x.mO,λ(x:cM) v=>({x with mO:=v}:cM),Fc⟩]
 |29=>[⟨(.st 26),0,λ(x:aj)=>x.aC,λ(x:aj) v=>({x with aC:=v}:aj),GY⟩,⟨(.oE 8 (.st 28)),674,λ(x:aj)=>x.tw,λ(x:aj) v=>({x with tw:=v}:aj),GZ⟩,⟨(.oE 8 .bool),690,λ(x:aj)=>x.cH,λ(x:aj) v=>({x with cH:=v}:aj),DP⟩,⟨(.oE 8 .bool),698,λ(x:aj)=>x.nE,λ(x:aj) v=>({x with nE:=v}:aj),Fa⟩,⟨(.oE 32 (.sl (.int .u8))),706,λ(x:aj)=>x.fD,λ(x:aj) v=>({x with fD:=v}:aj),DO⟩,⟨(.sl (.oE 2 (.int .i64))),738,λ(x:aj)=>x.lz,λ(x:aj) v=>({x with lz:=v}:aj),Fb⟩]
 |30=>[⟨(.sl (.st 5)),0,λ(x:cL)=>x.l,λ(x:cL) v=>({x with l:=v}:cL),M9⟩]
 |31=>[⟨(.st 30),0,λ(x:dc)=>x.qu,λ(x:dc) v=>({x with qu:=v}:dc),Fg⟩]
 |32=>[⟨(.int .i64),0,λ(x:bQ)=>x.Do,λ(x:bQ) v=>({x with Do:=v}:bQ),J6⟩,⟨(.int .i64),1,λ(x:bQ)=>x.R,λ(x:bQ) v=>({x with R:=v}:bQ),Mi⟩,⟨(.int .i64),2,λ(x:bQ)=>x.S,λ(x:bQ) v=>({x with S:=v}:bQ),Mh⟩,⟨(.int .i64),3,λ(x:bQ)=>x.A,λ(x:bQ) v=>({x with A:=v}:bQ),Mk⟩,⟨(.int .i64),4,λ(x:bQ)=>x.B,λ(x:bQ) v=>({x with B:=v}:bQ),Mj⟩,⟨(.int .u64),5,λ(x:bQ)=>x.V,λ(x:bQ) v=>({x with V:=v}:bQ),Mg⟩]
 |33=>[⟨(.int .i64),0,λ(x:aA)=>x.E,λ(x:aA) v=>({x with E:=v}:aA),IY⟩,⟨(.int .u64),1,λ(x:aA)=>x.V,λ(x:aA) v=>({x with V:=v}:aA),IX⟩,⟨(.int .u32),2,λ(x:aA)=>x.W,λ(x:aA) v=>({x with W:=v}:aA),IW⟩]
 |34=>[⟨(.int .i64),0,λ(x:aH)=>x.E,λ(x:aH) v=>({x with E:=v}:aH),II⟩,⟨(.int .u64),1,λ(x:aH)=>x.V,λ(x:aH) v=>({x with V:=v}:aH),IG⟩,⟨(.int .i64),2,λ(x:aH)=>x.W,λ(x:aH) v=>({x with W:=v}:aH),IF⟩]
 |_ =>[]
def teT:Sc TE:=(.gD 87 (.st [(0,some 64),(64,some 160)] 224) (.gD 50 (.st [(0,none),(1,none),(2,none),(3,none),(4,none)] 5) (.gD 31 (.st [(0,some 96)] 96) (.gD 22 (.sl 107 7 40) (.gD 5 (.int .u8) (.gD 3 (.int .i64) (.gD 1 .one .gA .gA) (.gD 4 .bool .gA .gA)) (.gD 20 .one (.gD 9 .one .gA .gA) .gA)) (.gD 26 (.st [(0,none),(1,none),(2,none)] 3) (.gD 24 (.int .u32) (.gD 23 .one .gA .gA) .gA) (.gD 29 (.st [(0,some 96)] 96) (.gD 27 (.oE 32 26 3 96) .gA .gA) .gA))) (.gD 39 (.oE 32 38 12 384) (.gD 35 (.st [(0,none),(1,none)] 2) (.gD 33 (.sl 115 2 16) (.gD 32 (.int .u32) .gA .gA) .gA) (.gD 38 (.st [(0,none),(1,none),(2,some 2),(4,some 8)] 12) (.gD 36 (.oE 8 32 1 8) .gA .gA) .gA)) (.gD 45 (.st [(0,none),(1,some 3)] 4) (.gD 43 (.st [(0,none),(1,none),(2,none)] 3) (.gD 41 (.st [(0,some 96),(96,some 384)] 480) .gA .gA) .gA) (.gD 48 (.st [(0,some 128)] 128) (.gD 46 (.oE 32 45 4 128) .gA .gA) .gA)))) (.gD 69 (.st [(0,some 32),(32,some 32)] 64) (.gD 59 (.oE 4 58 4 16) (.gD 55 (.st [(0,some 480),(480,some 128),(608,some 176)] 784) (.gD 53 (.st [(0,some 96),(96,some 80)] 176) (.gD 51 (.oE 16 50 5 80) .gA .gA) .gA) (.gD 58 (.st [(0,none),(1,none),(2,none),(3,none)] 4) (.gD 56 (.int .u64) .gA .gA) .gA)) (.gD 63 (.oE 8 4 1 8) (.gD 62 (.oE 8 61 19 152) (.gD 61 (.st [(0,some 16),(16,none),(17,none),(18,none)] 19) .gA .gA) .gA) (.gD 67 (.oE 32 3 1 32) (.gD 65 (.st [(0,some 784),(784,some 152),(936,some 8),(944,some 8)] 952) .gA .gA) .gA))) (.gD 78 (.st [(0,some 64),(64,some 384)] 448) (.gD 73 (.oE 8 3 1 8) (.gD 72 (.st [(0,none),(1,none)] 2) (.gD 70 (.sl 127 2 16) .gA .gA) .gA) (.gD 76 (.oE 32 75 12 384) (.gD 75 (.st [(0,none),(1,none),(2,some 2),(4,some 8)] 12) .gA .gA) .gA)) (.gD 82 (.st [(0,none),(1,none)] 2) (.gD 80 (.sl 194 10 24) (.gD 79 (.sl 3 1 8) .gA .gA) .gA) (.gD 85 (.oE 32 84 5 160) (.gD 84 (.st [(0,none),(1,none),(2,none),(3,none),(4,none)] 5) .gA .gA) .gA))))) (.gD 162 .one (.gD 112 (.st [(0,none),(1,none),(2,none),(3,none),(4,none),(5,none)] 6) (.gD 95 (.oE 32 94 1 32) (.gD 92 (.st [(0,none),(1,none)] 2) (.gD 90 (.sl 201 4 32) (.gD 89 (.st [(0,some 448),(448,some 2),(450,some 224)] 674) .gA .gA) .gA) (.gD 94 (.sl 5 1 1) (.gD 93 (.oE 8 92 2 16) .gA .gA) .gA)) (.gD 103 (.st [(0,some 1)] 1) (.gD 100 (.st [(0,none)] 1) (.gD 97 (.st [(0,some 674),(674,some 16),(690,some 8),(698,some 8),(706,some 32),(738,none)] 739) .gA .gA) .gA) (.gD 107 (.st [(0,none),(1,some 6)] 7) (.gD 105 (.st [(0,none),(1,none),(2,none),(3,none),(4,none),(5,none)] 6) .gA .gA) .gA))) (.gD 133 .one (.gD 120 (.st [(0,none),(1,none),(2,none)] 3) (.gD 118 (.int .i64) (.gD 115 (.st [(0,none),(1,none)] 2) .gA .gA) .gA) (.gD 127 (.oE 2 3 1 2) (.gD 124 (.st [(0,none),(1,none),(2,none)] 3) .gA .gA) .gA)) (.gD 137 (.st [(0,some 952),(952,none),(953,some 6),(959,some 2),(961,none),(962,none),(963,none)] 964) (.gD 135 .ptr (.gD 134 .one .gA .gA) .gA) (.gD 160 .one (.gD 142 .ptr .gA .gA) .gA)))) (.gD 246 .one (.gD 207 (.sl 32 1 4) (.gD 171 .one (.gD 169 .one (.gD 168 .one .gA .gA) .gA) (.gD 201 (.st [(0,none),(1,none),(2,none),(3,none)] 4) (.gD 194 (.st [(0,none),(1,none),(2,some 8)] 10) .gA .gA) .gA)) (.gD 225 (.sl 33 1 24) (.gD 223 (.oE 64 4 1 64) (.gD 218 (.sl 58 4 24) .gA .gA) .gA) (.gD 245 .one (.gD 236 (.oE 32 4 1 32) .gA .gA) .gA))) (.gD 292 .one (.gD 254 .one (.gD 253 .one (.gD 249 .one .gA .gA) .gA) (.gD 258 .one (.gD 257 .one .gA .gA) .gA)) (.gD 339 .ptr (.gD 336 .one (.gD 315 .one .gA .gA) .gA) (.gD 356 .ptr (.gD 344 .one .gA .gA) .gA))))))
def tt:TT Tryz.prog sg:=⟨fds,teT,by kernel_rfl⟩
theorem zt3(J:World->Prop)(ρ:bV):∃u:Value,cR Tryz.prog 3=some u.cells.toList/\rv (G:=sg) J ρ (.int .i64 0) u:=⟨.int .i64 0,by kernel_rfl,rfl⟩
theorem zt4(J:World->Prop)(ρ:bV):∃u:Value,cR Tryz.prog 4=some u.cells.toList/\rv (G:=sg) J ρ (.bool false) u:=⟨.bool false,by kernel_rfl,rfl⟩
theorem zt5(J:World->Prop)(ρ:bV):∃u:Value,cR Tryz.prog 5=some u.cells.toList/\rv (G:=sg) J ρ (.int .u8 0) u:=⟨.int .u8 0,by kernel_rfl,rfl⟩
theorem anl(J:World->Prop)(ρ:bV):∃u:Value,cR Tryz.prog 26=some u.cells.toList/\rv (G:=sg) J ρ (.dat (.st 2) qZ) u:=⟨.agg (wU).toArray,by kernel_rfl,_,rfl,BI,λ_ =>⟨_,rfl⟩,nofun⟩
theorem ank(J:World->Prop)(ρ:bV):∃u:Value,cR Tryz.prog 29=some u.cells.toList/\rv (G:=sg) J ρ (.dat (.st 3) lP) u:=⟨.agg (so).toArray,by kernel_rfl,_,rfl,wP,λ_ =>⟨_,rfl⟩,nofun⟩
theorem anj(J:World->Prop)(ρ:bV):∃u:Value,cR Tryz.prog 32=some u.cells.toList/\rv (G:=sg) J ρ (.int .u32 0) u:=⟨.int .u32 0,by kernel_rfl,rfl⟩
theorem ani(J:World->Prop)(ρ:bV):∃u:Value,cR Tryz.prog 33=some u.cells.toList/\rv (G:=sg) J ρ .pR u:=⟨.slice none 0 0,by kernel_rfl,rfl⟩
theorem anh(J:World->Prop)(ρ:bV):∃u:Value,cR Tryz.prog 35=some u.cells.toList/\rv (G:=sg) J ρ (.dat (.st 6) dJ) u:=⟨.agg (lR).toArray,by kernel_rfl,_,rfl,qg,λ_ =>⟨_,rfl⟩,nofun⟩
theorem ang(J:World->Prop)(ρ:bV):∃u:Value,cR Tryz.prog 38=some u.cells.toList/\rv (G:=sg) J ρ (.dat (.st 7) nZ) u:=⟨.agg (vo).toArray,by kernel_rfl,_,rfl,AW,λ_ =>⟨_,rfl⟩,nofun⟩
theorem anf(J:World->Prop)(ρ:bV):∃u:Value,cR Tryz.prog 41=some u.cells.toList/\rv (G:=sg) J ρ (.dat (.st 8) iT) u:=⟨.agg (wR).toArray,by kernel_rfl,_,rfl,BE,λ_ =>⟨_,rfl⟩,nofun⟩
theorem ane(J:World->Prop)(ρ:bV):∃u:Value,cR Tryz.prog 43=some u.cells.toList/\rv (G:=sg) J ρ (.dat (.st 9) wN) u:=⟨.agg (El).toArray,by kernel_rfl,_,rfl,KC,λ_ =>⟨_,rfl⟩,nofun⟩
theorem anb(J:World->Prop)(ρ:bV):∃u:Value,cR Tryz.prog 45=some u.cells.toList/\rv (G:=sg) J ρ (.dat (.st 10) xR) u:=⟨.agg (BK).toArray,by kernel_rfl,_,rfl,I3,λ_ =>⟨_,rfl⟩,nofun⟩
theorem ana(J:World->Prop)(ρ:bV):∃u:Value,cR Tryz.prog 48=some u.cells.toList/\rv (G:=sg) J ρ (.dat (.st 11) p7) u:=⟨.agg (BL).toArray,by kernel_rfl,_,rfl,I4,λ_ =>⟨_,rfl⟩,nofun⟩
theorem am9(J:World->Prop)(ρ:bV):∃u:Value,cR Tryz.prog 50=some u.cells.toList/\rv (G:=sg) J ρ (.dat (.st 12) lK) u:=⟨.agg (wQ).toArray,by kernel_rfl,_,rfl,BD,λ_ =>⟨_,rfl⟩,nofun⟩
theorem am8(J:World->Prop)(ρ:bV):∃u:Value,cR Tryz.prog 53=some u.cells.toList/\rv (G:=sg) J ρ (.dat (.st 13) eI) u:=⟨.agg (vn).toArray,by kernel_rfl,_,rfl,AU,λ_ =>⟨_,rfl⟩,nofun⟩
theorem am7(J:World->Prop)(ρ:bV):∃u:Value,cR Tryz.prog 58=some u.cells.toList/\rv (G:=sg) J ρ (.dat (.st 15) fU) u:=⟨.agg (vx).toArray,by kernel_rfl,_,rfl,A0,λ_ =>⟨_,rfl⟩,nofun⟩
theorem am6(J:World->Prop)(ρ:bV):∃u:Value,cR Tryz.prog 61=some u.cells.toList/\rv (G:=sg) J ρ (.dat (.st 16) uc) u:=⟨.agg (BM).toArray,by kernel_rfl,_,rfl,I5,λ_ =>⟨_,rfl⟩,nofun⟩
theorem am5(J:World->Prop)(ρ:bV):∃u:Value,cR Tryz.prog 65=some u.cells.toList/\rv (G:=sg) J ρ (.dat (.st 17) ef) u:=⟨.agg (pD).toArray,by kernel_rfl,_,rfl,BH,λ_ =>⟨_,rfl⟩,nofun⟩
theorem am4(J:World->Prop)(ρ:bV):∃u:Value,cR Tryz.prog 69=some u.cells.toList/\rv (G:=sg) J ρ (.dat (.st 18) oH) u:=⟨.agg (uk).toArray,by kernel_rfl,_,rfl,yG,λ_ =>⟨_,rfl⟩,nofun⟩
theorem am3(J:World->Prop)(ρ:bV):∃u:Value,cR Tryz.prog 72=some u.cells.toList/\rv (G:=sg) J ρ (.dat (.st 19) bD) u:=⟨.agg (vt).toArray,by kernel_rfl,_,rfl,AZ,λ_ =>⟨_,rfl⟩,nofun⟩
theorem am2(J:World->Prop)(ρ:bV):∃u:Value,cR Tryz.prog 75=some u.cells.toList/\rv (G:=sg) J ρ (.dat (.st 20) n9) u:=⟨.agg (vq).toArray,by kernel_rfl,_,rfl,AY,λ_ =>⟨_,rfl⟩,nofun⟩
theorem am1(J:World->Prop)(ρ:bV):∃u:Value,cR Tryz.prog 78=some u.cells.toList/\rv (G:=sg) J ρ (.dat (.st 21) gQ) u:=⟨.agg (wT).toArray,by kernel_rfl,_,rfl,BG,λ_ =>⟨_,rfl⟩,nofun⟩
theorem am0(J:World->Prop)(ρ:bV):∃u:Value,cR Tryz.prog 82=some u.cells.toList/\rv (G:=sg) J ρ (.dat (.st 23) iF) u:=⟨.agg (fV).toArray,by kernel_rfl,_,rfl,lH,λ_ =>⟨_,rfl⟩,nofun⟩
theorem amZ(J:World->Prop)(ρ:bV):∃u:Value,cR Tryz.prog 84=some u.cells.toList/\rv (G:=sg) J ρ (.dat (.st 24) oU) u:=⟨.agg (wS).toArray,by kernel_rfl,_,rfl,BF,λ_ =>⟨_,rfl⟩,nofun⟩
theorem amY(J:World->Prop)(ρ:bV):∃u:Value,cR Tryz.prog 87=some u.cells.toList/\rv (G:=sg) J ρ (.dat (.st 25) je) u:=⟨.agg (vp).toArray,by kernel_rfl,_,rfl,AX,λ_ =>⟨_,rfl⟩,nofun⟩
theorem amX(J:World->Prop)(ρ:bV):∃u:Value,cR Tryz.prog 92=some u.cells.toList/\rv (G:=sg) J ρ (.dat (.st 28) rV) u:=⟨.agg (zI).toArray,by kernel_rfl,_,rfl,Fu,λ_ =>⟨_,rfl⟩,nofun⟩
theorem amW(J:World->Prop)(ρ:bV):∃u:Value,cR Tryz.prog 97=some u.cells.toList/\rv (G:=sg) J ρ (.dat (.st 29) fX) u:=⟨.agg (BJ).toArray,by kernel_rfl,_,rfl,KB,λ_ =>⟨_,rfl⟩,nofun⟩
theorem aj8(J:World->Prop)(ρ:bV):∃u:Value,cR Tryz.prog 100=some u.cells.toList/\rv (G:=sg) J ρ (.dat (.st 30) oo) u:=⟨.agg (zH).toArray,by kernel_rfl,_,rfl,Ft,λ_ =>⟨_,rfl⟩,nofun⟩
theorem aj7(J:World->Prop)(ρ:bV):∃u:Value,cR Tryz.prog 103=some u.cells.toList/\rv (G:=sg) J ρ (.dat (.st 31) qY) u:=⟨.agg (BN).toArray,by kernel_rfl,_,rfl,KD,λ_ =>⟨_,rfl⟩,nofun⟩
theorem aj6(J:World->Prop)(ρ:bV):∃u:Value,cR Tryz.prog 105=some u.cells.toList/\rv (G:=sg) J ρ (.dat (.st 0) lE) u:=⟨.agg (qI).toArray,by kernel_rfl,_,rfl,D1,λ_ =>⟨_,rfl⟩,nofun⟩
theorem aj5(J:World->Prop)(ρ:bV):∃u:Value,cR Tryz.prog 112=some u.cells.toList/\rv (G:=sg) J ρ (.dat (.st 32) s7) u:=⟨.agg (D3).toArray,by kernel_rfl,_,rfl,MI,λ_ =>⟨_,rfl⟩,nofun⟩
theorem aj4(J:World->Prop)(ρ:bV):∃u:Value,cR Tryz.prog 115=some u.cells.toList/\rv (G:=sg) J ρ (.dat (.st 5) gi) u:=⟨.agg (uy).toArray,by kernel_rfl,_,rfl,I2,λ_ =>⟨_,rfl⟩,nofun⟩
theorem aj3(J:World->Prop)(ρ:bV):∃u:Value,cR Tryz.prog 118=some u.cells.toList/\rv (G:=sg) J ρ (.int .i64 0) u:=⟨.int .i64 0,by kernel_rfl,rfl⟩
theorem aj2(J:World->Prop)(ρ:bV):∃u:Value,cR Tryz.prog 120=some u.cells.toList/\rv (G:=sg) J ρ (.dat (.st 33) oa) u:=⟨.agg (vu).toArray,by kernel_rfl,_,rfl,JB,λ_ =>⟨_,rfl⟩,nofun⟩
theorem aj1(J:World->Prop)(ρ:bV):∃u:Value,cR Tryz.prog 124=some u.cells.toList/\rv (G:=sg) J ρ (.dat (.st 34) pY) u:=⟨.agg (A1).toArray,by kernel_rfl,_,rfl,JA,λ_ =>⟨_,rfl⟩,nofun⟩
theorem aj0(J:World->Prop)(ρ:bV):∃u:Value,cR Tryz.prog 127=some u.cells.toList/\rv (G:=sg) J ρ (.dat (.oE 2 (.int .i64)) (λ_ =>(0:Int))) u:=⟨.agg ((flat (λ_ =>[.int .i64 0]) 2)).toArray,by kernel_rfl,_,rfl,⟨_,rfl,λ_ _ =>rfl⟩,λ_ =>⟨_,rfl⟩,nofun⟩
theorem ajZ(J:World->Prop)(ρ:bV):∃u:Value,cR Tryz.prog 133=some u.cells.toList/\rv (G:=sg) J ρ .Ce u:=⟨.nilFunc,by kernel_rfl,rfl⟩
theorem ajY(J:World->Prop)(ρ:bV):∃u:Value,cR Tryz.prog 137=some u.cells.toList/\rv (G:=sg) J ρ (.st (.part 952 (.dat (.st 17) ef) (.part 1 (.int .i64 0) (.part 6 (.dat (.st 0) lE) (.part 2 (.dat (.st 5) gi) (.part 1 (.int .i64 0) (.part 1 (.bool false) (.part 1 .pR .nil)))))))) u:=⟨.agg (((pD:List Value)++(([.int .i64 0]:List Value)++((qI:List Value)++((uy:List Value)++(([.int .i64 0]:List Value)++(([.bool false]:List Value)++(([.slice none 0 0]:List Value)++([]:List Value))))))))).toArray,by kernel_rfl,_,rfl,⟨pD,_, .agg (pD).toArray,rfl,by kernel_rfl,⟨_,rfl,BH,λ_ =>⟨_,rfl⟩,nofun⟩,rfl,⟨[.int .i64 0],_, .int .i64 0,rfl,rfl,rfl,rfl,⟨qI,_, .agg (qI).toArray,rfl,by kernel_rfl,⟨_,rfl,D1,λ_ =>⟨_,rfl⟩,nofun⟩,rfl,⟨uy,_, .agg (uy).toArray,rfl,by kernel_rfl,⟨_,rfl,I2,λ_ =>⟨_,rfl⟩,nofun⟩,rfl,⟨[.int .i64 0],_, .int .i64 0,rfl,rfl,rfl,rfl,⟨[.bool false],_, .bool false,rfl,rfl,rfl,rfl,⟨[.slice none 0 0],_, .slice none 0 0,rfl,rfl,rfl,rfl,rfl⟩⟩⟩⟩⟩⟩⟩,AT (by kernel_rfl)⟩
theorem ajX(J:World->Prop)(ρ:bV):∃u:Value,cR Tryz.prog 194=some u.cells.toList/\rv (G:=sg) J ρ (.dat (.st 22) pZ) u:=⟨.agg (Fw).toArray,by kernel_rfl,_,rfl,Oc,λ_ =>⟨_,rfl⟩,nofun⟩
theorem ajW(J:World->Prop)(ρ:bV):∃u:Value,cR Tryz.prog 201=some u.cells.toList/\rv (G:=sg) J ρ (.dat (.st 27) lf) u:=⟨.agg (yZ).toArray,by kernel_rfl,_,rfl,Hf,λ_ =>⟨_,rfl⟩,nofun⟩
theorem ajV(J:World->Prop)(ρ:bV):∃u:Value,cR Tryz.prog 218=some u.cells.toList/\rv (G:=sg) J ρ .pR u:=⟨.slice none 0 0,by kernel_rfl,rfl⟩
theorem ajU(J:World->Prop)(ρ:bV):∃u:Value,cR Tryz.prog 223=some u.cells.toList/\rv (G:=sg) J ρ (.dat (.oE 64 .bool) (λ_ =>false)) u:=⟨.agg ((flat (λ_ =>[.bool false]) 64)).toArray,by kernel_rfl,_,rfl,⟨_,rfl,λ_ _ =>rfl⟩,λ_ =>⟨_,rfl⟩,nofun⟩
theorem ajT(J:World->Prop)(ρ:bV):∃u:Value,cR Tryz.prog 236=some u.cells.toList/\rv (G:=sg) J ρ (.dat (.oE 32 .bool) (λ_ =>false)) u:=⟨.agg ((flat (λ_ =>[.bool false]) 32)).toArray,by kernel_rfl,_,rfl,⟨_,rfl,λ_ _ =>rfl⟩,λ_ =>⟨_,rfl⟩,nofun⟩
theorem ajS(J:World->Prop)(ρ:bV):∃u:Value,cR Tryz.prog 292=some u.cells.toList/\rv (G:=sg) J ρ .Ce u:=⟨.nilFunc,by kernel_rfl,rfl⟩
theorem ajR(J:World->Prop)(ρ:bV):∃u:Value,cR Tryz.prog 336=some u.cells.toList/\rv (G:=sg) J ρ .Ge u:=⟨.map none,by kernel_rfl,rfl⟩
def ztT:Sc (AV sg):=(.gD 82 (.dat (.st 23) iF) (.gD 45 (.dat (.st 10) xR) (.gD 32 (.int .u32 0) (.gD 5 (.int .u8 0) (.gD 4 (.bool false) (.gD 3 (.int .i64 0) .gA .gA) .gA) (.gD 29 (.dat (.st 3) lP) (.gD 26 (.dat (.st 2) qZ) .gA .gA) .gA)) (.gD 38 (.dat (.st 7) nZ) (.gD 35 (.dat (.st 6) dJ) (.gD 33 .pR .gA .gA) .gA) (.gD 43 (.dat (.st 9) wN) (.gD 41 (.dat (.st 8) iT) .gA .gA) .gA))) (.gD 65 (.dat (.st 17) ef) (.gD 53 (.dat (.st 13) eI) (.gD 50 (.dat (.st 12) lK) (.gD 48 (.dat (.st 11) p7) .gA .gA) .gA) (.gD 61 (.dat (.st 16) uc) (.gD 58 (.dat (.st 15) fU) .gA .gA) .gA)) (.gD 75 (.dat (.st 20) n9) (.gD 72 (.dat (.st 19) bD) (.gD 69 (.dat (.st 18) oH) .gA .gA) .gA) (.gD 78 (.dat (.st 21) gQ) .gA .gA)))) (.gD 124 (.dat (.st 34) pY) (.gD 103 (.dat (.st 31) qY) (.gD 92 (.dat (.st 28) rV) (.gD 87 (.dat (.st 25) je) (.gD 84 (.dat (.st 24) oU) .gA .gA) .gA) (.gD 100 (.dat (.st 30) oo) (.gD 97 (.dat (.st 29) fX) .gA .gA) .gA)) (.gD 115 (.dat (.st 5) gi) (.gD 112 (.dat (.st 32) s7) (.gD 105 (.dat (.st 0) lE) .gA .gA) .gA) (.gD 120 (.dat (.st 33) oa) (.gD 118 (.int .i64 0) .gA .gA) .gA))) (.gD 218 .pR (.gD 137 (.st (.part 952 (.dat (.st 17) ef) (.part 1 (.int .i64 0) (.part 6 (.dat (.st 0) lE) (.part 2 (.dat (.st 5) gi) (.part 1 (.int .i64 0) (.part 1 (.bool false) (.part 1 .pR .nil)))))))) (.gD 133 .Ce (.gD 127 (.dat (.oE 2 (.int .i64)) (λ_ =>(0:Int))) .gA .gA) .gA) (.gD 201 (.dat (.st 27) lf) (.gD 194 (.dat (.st 22) pZ) .gA .gA) .gA)) (.gD 292 .Ce (.gD 236 (.dat (.oE 32 .bool) (λ_ =>false)) (.gD 223 (.dat (.oE 64 .bool) (λ_ =>false)) .gA .gA) .gA) (.gD 336 .Ge .gA .gA)))))
def zt:ZT Tryz.prog sg:=⟨ztT,ai3 ⟨am0,⟨anb,⟨anj,⟨zt5,⟨zt4,⟨zt3,trivial,trivial⟩,trivial⟩,⟨ank,⟨anl,trivial,trivial⟩,trivial⟩⟩,⟨ang,⟨anh,⟨ani,trivial,trivial⟩,trivial⟩,⟨ane,⟨anf,trivial,trivial⟩,trivial⟩⟩⟩,⟨am5,⟨am8,⟨am9,⟨ana,trivial,trivial⟩,trivial⟩,⟨am6,⟨am7,trivial,trivial⟩,trivial⟩⟩,⟨am2,⟨am3,⟨am4,trivial,trivial⟩,trivial⟩,⟨am1,trivial,trivial⟩⟩⟩⟩,⟨aj1,⟨aj7,⟨amX,⟨amY,⟨amZ,trivial,trivial⟩,trivial⟩,⟨aj8,⟨amW,trivial,trivial⟩,trivial⟩⟩,⟨aj4,⟨aj5,⟨aj6,trivial,trivial⟩,trivial⟩,⟨aj2,⟨aj3,trivial,trivial⟩,trivial⟩⟩⟩,⟨ajV,⟨ajY,⟨ajZ,⟨aj0,trivial,trivial⟩,trivial⟩,⟨ajW,⟨ajX,trivial,trivial⟩,trivial⟩⟩,⟨ajS,⟨ajT,⟨ajU,trivial,trivial⟩,trivial⟩,⟨ajR,trivial,trivial⟩⟩⟩⟩⟩⟩
end Go.Proofs.Z
namespace Go.Rw
open Go Go.Bw Go.RowKit
variable {G:Sg} {P:Program} {Z:Type}
def W2:AV G->List Nat->Option (AV G)
 |v,[]=>some v
 | .fn _ _ c,i::r=>match Xp c i with
  |some x=>W2 x r
  |none=>none
 |_,_ =>none
theorem adq{J:World->Prop}{ρ:bV}:∀{p:List Nat} {v x:AV G} {u:Value},W2 v p=some x->rv J ρ v u->∃u',rv J ρ x u':=by
 intro p
 induction p with
 |nil=>intro v x u h hv;unfold W2 at h;obtain rfl:=Option.some.inj h;exact⟨u,hv⟩
 |cons i r ih=>
  intro v x u h hv;cases v<;>(try (simp[W2]at h;done))
  case fn f a c=>
   simp only[W2]at h;split at h
   ·rename_i y hy
    obtain⟨fs,cs,_,_,h2⟩:=hv;obtain⟨u',_,k2⟩:=O4 hy h2;exact ih h k2
   ·cases h
def ads(apr:AV G):List (List Nat)->Option (AV G)
 |[]=>some .nil
 |(i::p)::r=>match Xp apr i,ads apr r with
  |some v,some l=>match W2 v p with
   |some x=>some (.cons x l)
   |none=>none
  |_,_ =>none
 |_ =>none
theorem adr{J:World->Prop}{ρ:bV}{apr:AV G}{vs:List Value}(h:rl J ρ apr vs):∀{bi:List (List Nat)} {bk:AV G},ads apr bi=some bk->∃us,rl J ρ bk us:=by
 intro bi
 induction bi with
 |nil=>intro bk e;cases e;exact⟨[],rfl⟩
 |cons q r ih=>
  intro bk e;cases q with
  |nil=>cases e
  |cons i p=>
   simp only[ads]at e;split at e
   ·rename_i v l h1 h2
    split at e
    ·rename_i x hx
     cases e;obtain⟨u,_,k2⟩:=O4 h1 h;obtain⟨u',k4⟩:=adq hx k2;obtain⟨us,k3⟩:=ih h2;exact⟨u'::us,u',us,rfl,k4,k3⟩
    ·cases e
   ·cases e
def PF(dZ:Sh)(nm:List (Option Nat))(base:Nat)(bk v:AV G)(S1:AS G)(k:HL G (bz dZ)->Option Z):Option Z:=
 match Co (AG S1.O dZ (.cons v bk)) ⟨[(0,v)],S1.O,S1.nx,[]⟩with
 |S3=>match gw S3.F 0 with
  |some v'=>match qU dZ (.cons v' bk) ⟨[],S3.O,S3.nx⟩with
   |some (x,g')=>bif Ed v'&&(Ad nm g'.th&&Ae base nm)then k x else none
   |none=>none
  |none=>none
theorem abz{dZ:Sh}{nm:List (Option Nat)}{bk v:AV G}{S1:AS G}{k:HL G (bz dZ)->Option Z}{z:Z}{base:Nat}(h:PF dZ nm base bk v S1 k=some z):∃y,PF dZ nm base bk v S1 some=some y/\k y=some z:=by
 unfold PF at h ⊢;dsimp only at h ⊢;split at h
 ·rename_i v' Rq
  split at h
  ·rename_i x g' hg
   cases hc:(Ed v'&&(Ad nm g'.th&&Ae base nm))with
   |false=>rw[hc]at h;cases h
   |true=>rw[hc]at h;exact⟨x,rfl,h⟩
  ·cases h
 ·cases h
theorem V0{dZ:Sh}{nm:List (Option Nat)}{bk v:AV G}{S1:AS G}{y:HL G (bz dZ)}{ρ ρ':bV}{J J':World->Prop}{HK X Y H:List aO}{w w':World}{a:Act}{u:Value}{us:List Value}{base:Nat}
  (h:PF dZ nm base bk v S1 some=some y)(hb:rl J ρ bk us)(hto:ρ.to ρ' base)(hf:ρ.fr base)(hn:base<=S1.nx)(hJ:∀w,J' w->J w)(hv:rv J' ρ' v u)(hr:Rl ⟨none,w,cy H⟩ 0 ρ' J' HK (Y++X) [] ⟨[],S1.O,S1.nx,[]⟩ a w'):
  Fm dZ nm y ρ J H HK X w u w':=by
 unfold PF at h;have h2:Rl ⟨none,w,cy H⟩ 1 ρ' J' HK (Y++X) [] ⟨[(0,v)],S1.O,S1.nx,[]⟩ {a with tmps:= #[u]} w':=by
  refine⟨rfl,hr.df,hr.si,λd x e=>?_,λy hy=>(by cases hy),hr.kc,hr.hp,hr.kn,hr.fr⟩;simp only[gw]at e;cases hd:Nat.beq 0 d with
  |true=>rw[hd]at e;cases e;obtain rfl:=apu hd;exact⟨u,rfl,U5 hv _⟩
  |false=>rw[hd]at e;cases e
 obtain⟨J3,Y3,mJ,h3⟩:=h2.Co (AG S1.O dZ (.cons v bk));have SB:(Co (AG S1.O dZ (.cons v bk)) (⟨[(0,v)],S1.O,S1.nx,[]⟩:AS G)).nx=S1.nx:=Au _ _;revert h h3 SB;generalize Co (AG S1.O dZ (.cons v bk)) (⟨[(0,v)],S1.O,S1.nx,[]⟩:AS G)=S3;intro h h3 SB;dsimp only at h;split at h
 ·rename_i v' Rq
  split at h
  ·rename_i x g' hg
   cases hc:(Ed v'&&(Ad nm g'.th&&Ae base nm))with
   |false=>rw[hc]at h;cases h
   |true=>
    rw[hc]at h;cases h;simp only[apv]at hc;obtain⟨hc0,hc⟩:=hc;obtain⟨u0,e0,hrf⟩:=h3.fs 0 _ Rq;have e0:u0=u:=by have:(#[u]:Array Value)[0]? =some u0:=e0;simpa using this.symm
    subst e0;have hv2:rv J3 ρ' v' u0:=by
     cases v' with
     |gd j ww vv=>cases hc0
     |_ =>exact hrf
    have hle:=hto.le hf;have hb':rl J3 ρ' bk us:=(hb.ext hle).mono λw q=>hJ w (mJ w q);obtain⟨HS,q1,q3⟩:=h3.hp;obtain⟨ρ2,HB,H',hG⟩:=LF (l:=u0::us) (ρ:=ρ') hg ⟨u0,us,rfl,hv2,hb'⟩ q1 h3.fr;obtain⟨n1,n2⟩:=aao hc.1;have n3:=aap hc.2;refine⟨cmp ρ2 g'.th,J3,Y3++Y,HB,us,λw q=>hJ w (mJ w q),hG.val,hG.eW,?_,h3.si.s,?_,λi j e=>?_,λi hi=>?_⟩
    ·have:=hG.hp _ _ _ _ q3
     refine(this.sub (List.Sublist.append_left (List.sublist_append_right H' _) HB)).qt ?_;rw[List.append_assoc]
    ·rw[List.append_assoc];exact h3.kn
    ·have ht:=n2 i j e
     have hj:=n3 i j e;unfold cmp;rw[ht];dsimp only;rw[hG.to j (by show j<S3.nx;omega),hto j hj]
    ·unfold cmp
     rw[List.getElem?_eq_none (by rw[← n1];exact hi)]
  ·cases h
 ·cases h
def al3(ek:Nat->List (Ek P G))(tt:TT P G)(C:CC G)(JM:List ResultVar)(bk:AV G)(base:Nat)(dZ:Sh)(nm:List (Option Nat))(mI:Sh)(Z9:List (Option Nat))(fo:HL G (bz dZ)->Option Z)(fp:HL G (bz mI)->Option Z):Ex G->AS G->Option Z:=λe S=>match sX ek e S.D S.O with
 |some (.z9 v,O2)=>PF mI Z9 base .nil v ⟨S.F,O2,S.nx,[]⟩ fp
 |some (.pB,O2)=>(match JL tt C ⟨S.F,O2,S.nx,[]⟩ JM with
  |some v=>PF dZ nm base bk v ⟨S.F,O2,S.nx,[]⟩ fo
  |none=>none)
 |some (.ret,O2)=>(match JL tt C ⟨S.F,O2,S.nx,[]⟩ JM with
  |some v=>PF dZ nm base bk v ⟨S.F,O2,S.nx,[]⟩ fo
  |none=>none)
 |_ =>none
noncomputable def Wf(tb:Bp P G)(n:Nat)(s:Fs)(fo:HL G (bz s.dZ)->Option Z)(fp:HL G (bz s.mI)->Option Z)(i:HI G s):Option Z:=match LH P s.k with
 |some fi=>match s.bl i with
  |(apr,O,m)=>match ads apr s.bi with
   |some bk=>bif uU apr&&Nat.ble (HY apr) fi.N then W tb n fi.N [] [⟨[],s.ro i++[],[]⟩] (.code fi.code) ⟨Cp 0 apr,O,m,[]⟩ (al3 tb.ek tb.tt [⟨[],s.ro i++[],[]⟩] fi.JM bk m s.dZ s.nm s.mI s.Z9 fo fp)else none
   |none=>none
 |none=>none
theorem Rl.amv{c:Cx}{N:Nat}{ρ:bV}{J:World->Prop}{HK X:List aO}{O:Os G}{S:AS G}{a:Act}{w:World}(h:Rl c N ρ J HK X [⟨[],O,[]⟩] S a w)(hro:c.ro=none):Rl c N ρ J HK X [] S a w:=
 ⟨h.tm,h.df,⟨h.si.s,λ_ =>hro⟩,h.fs,λy hy=>(by cases hy),λr o e=>(by cases e),h.hp,h.kn,h.fr⟩
theorem acg{tb:Bp P G}{n:Nat}{s:Fs}{fo:HL G (bz s.dZ)->Option Z}{fp:HL G (bz s.mI)->Option Z}{x:HI G s}{z:Z}(h:Wf tb n s fo fp x=some z)
  {ρ:bV}{J:World->Prop}{HS HK X:List aO}{w:World}{vs:List Value}(hv:rl J ρ (s.bl x).1 vs)(hO:RO J ρ (s.bl x).2.1 HS)(hrd:∀r o,gw (s.ro x) r=some o->∃y∈HK,ro J ρ r o y)
  (hp:cI (cy (HS++(HK++X))) w.heap.size (HS++(HK++X)) w)(hk:Yz G X J)(hf:ρ.fr (s.bl x).2.2):
  (∃y,fo y=some z/\Calls P s.k vs.toArray w λen w'=>∃u,en= .returned u/\Fm s.dZ s.nm y ρ J (HS++(HK++X)) HK X w u w')\/
  (∃y,fp y=some z/\Calls P s.k vs.toArray w λen w'=>∃u,en= .panicked [{v:=u,recovered:=false}]/\Fm s.mI s.Z9 y ρ J (HS++(HK++X)) HK X w u w'):=by
 unfold Wf at h;split at h
 ·rename_i fi Qm
  revert h hv hO hf;generalize s.bl x=b;obtain⟨apr,O,m⟩:=b;intro hv hO hf h;dsimp only at h hv hO hf;split at h
  ·rename_i bk hbk
   cases hc:(uU apr&&Nat.ble (HY apr) fi.N)with
   |false=>rw[hc]at h;cases h
   |true=>
    rw[hc]at h;simp only[apv]at hc;obtain⟨e1,S1,k1,k2,k3⟩:=amD _ _ _ _ _ _ _ _ h;have k2:m<=S1.nx:=k2;obtain⟨us,hus⟩:=adr hv hbk;have hr:Rl ⟨none,w,cy (HS++(HK++X))⟩ 0 ρ J HK X [⟨[],s.ro x,[]⟩] (⟨[],O,m,[]⟩:AS G) ⟨#[],[]⟩ w:=by
     refine⟨rfl, .nil,⟨bI.refl _ _,λ_ =>rfl⟩,λd x e=>(by cases e),λy hy=>?_,λr o e=>hrd r o ?_,⟨HS,hO,hp⟩,hk,hf⟩
     ·simp at hy;subst hy;exactλd v e=>by cases e
     ·have e:gw (s.ro x++[]) r=some o:=e
      rwa[List.append_nil]at e
    have go:=λe2 O2 hX he=>L5 (tt:=tb.tt) (ek:=tb.ek) (e2:=e2) (O2:=O2) hr Qm hc.1 (Nat.le_of_ble_eq_true hc.2) hv k3 hX rfl he;have ret:∀v e2 O2,sX tb.ek e1 S1.D S1.O=some (e2,O2)->(e2= .pB\/e2= .ret)->JL tb.tt [⟨[],s.ro x++[],[]⟩] ⟨S1.F,O2,S1.nx,[]⟩ fi.JM=some v->PF s.dZ s.nm m bk v ⟨S1.F,O2,S1.nx,[]⟩ fo=some z->(∃y,fo y=some z/\Calls P s.k vs.toArray w λen w'=>∃u,en= .returned u/\Fm s.dZ s.nm y ρ J (HS++(HK++X)) HK X w u w'):=by
     intro v e2 O2 hX he hres alO;obtain⟨y,y1,y2⟩:=abz alO;refine⟨y,y2,?_⟩;have zv:=go e2 O2 hX (.inr ⟨he,v,hres⟩);intro cs';obtain⟨en,w',fr,⟨ρ',J',Y,j1,j2,j3,j4⟩,rest⟩:=zv cs';refine⟨en,w',fr,?_,rest⟩;rcases j4 with⟨v',u,q1,_⟩|⟨_,v',u,q1,rfl,q3⟩
     ·rcases he with he|he<;>rw[he]at q1<;>cases q1
     ·have q1:JL tb.tt [⟨[],s.ro x++[],[]⟩] ⟨S1.F,O2,S1.nx,[]⟩ fi.JM=some v':=q1
      rw[hres]at q1;cases q1;exact⟨u,rfl,V0 (S1:=⟨S1.F,O2,S1.nx,[]⟩) y1 hus j1 hf k2 j2 q3 (j3.amv rfl)⟩
    unfold al3 at k1;split at k1
    ·rename_i v O2 hX
     obtain⟨y,y1,y2⟩:=abz k1;refine .inr ⟨y,y2,?_⟩;have zv:=go _ O2 hX (.inl ⟨v,rfl⟩);intro cs';obtain⟨en,w',fr,⟨ρ',J',Y,j1,j2,j3,j4⟩,rest⟩:=zv cs';refine⟨en,w',fr,?_,rest⟩;rcases j4 with⟨v',u,q1,rfl,q3⟩|⟨q1,_⟩
     ·cases q1
      exact⟨u,rfl,V0 (S1:=⟨S1.F,O2,S1.nx,[]⟩) (us:=[]) y1 rfl j1 hf k2 j2 q3 (j3.amv rfl)⟩
     ·rcases q1 with q1|q1<;>cases q1
    ·rename_i O2 hX
     split at k1
     ·rename_i v hres;exact .inl (ret v _ O2 hX (.inl rfl) hres k1)
     ·cases k1
    ·rename_i O2 hX
     split at k1
     ·rename_i v hres;exact .inl (ret v _ O2 hX (.inr rfl) hres k1)
     ·cases k1
    ·cases k1
  ·cases h
 ·cases h
def RV(s:Fs)(f:HI G s->Option Z)(mu:Z->HL G (bz s.dZ))(x:HI G s)(y:HL G (bz s.dZ)):Prop:=∃z,f x=some z/\mu z=y
theorem RC{tb:Bp P G}{n:Nat}{s:Fs}{f:HI G s->Option Z}{um:HL G (bz s.dZ)->Z}{mu:Z->HL G (bz s.dZ)}(e1:∀y,mu (um y)=y)(hW:∀x,Wf tb n s (λy=>some (um y)) (λ_ =>none) x=f x):UO P s (RV s f mu) (λ_ _ =>False):=by
 intro ρ J HS HK X w vs x hv hO hrd hp hk hfr;refine⟨λy h=>?_,λy h=>h.elim⟩;obtain⟨z,h,hz⟩:=h;rw[← hW]at h;rcases acg h hv hO hrd hp hk hfr with⟨y',h1,h2⟩|⟨y',h1,_⟩
 ·have h1:=Option.some.inj h1
  have:y'=y:=by rw[← hz, ← h1,e1]
  subst this;exact h2
 ·cases h1
def XV(s:Fs)(f:HI G s->Option Z)(mu:Z->HL G (bz s.dZ))(zz:Z)(hf:(LH P s.k).isSome=true)(ok:UO P s (RV s f mu) (λ_ _ =>False)):Ct P G where
 s:=s
 R:=RV s f mu
 Rp:=λ_ _ =>False
 cp:=λx ko _ =>bd (f x) λz=>ko (mu z)
 cg:=λg x ko=>cl g (f x) zz λz=>ko (mu z)
 cps:=λx ko kp z h=>by obtain⟨y,h1,h2⟩:=vG h;exact .inl ⟨mu y,⟨y,h1,rfl⟩,h2⟩
 cgs:=λg x k z h=>by obtain⟨y,h1,_,h2⟩:=aeU h;exact⟨mu y,λq=>⟨y,h1 q,rfl⟩,h2⟩
 fn:=by
  cases h:LH P s.k with
  |none=>rw[h]at hf;cases hf
  |some fi=>exact Ib h
 ok:=ok
def RE(s:Fs)(f:HI G s->Option (Except Int Z))(mu:Z->HL G (bz s.dZ))(x:HI G s)(y:HL G (bz s.dZ)):Prop:=∃z,f x=some (.ok z)/\mu z=y
def RX(s:Fs)(f:HI G s->Option (Except Int Z))(me:Int->HL G (bz s.mI))(x:HI G s)(y:HL G (bz s.mI)):Prop:=∃e,f x=some (.error e)/\me e=y
theorem abr{tb:Bp P G}{n:Nat}{s:Fs}{f:HI G s->Option (Except Int Z)}{um:HL G (bz s.dZ)->Z}{mu:Z->HL G (bz s.dZ)}{ue:HL G (bz s.mI)->Int}{me:Int->HL G (bz s.mI)}(e1:∀y,mu (um y)=y)(e2:∀y,me (ue y)=y)(hW:∀x,Wf tb n s (λy=>some (.ok (um y))) (λy=>some (.error (ue y))) x=f x):UO P s (RE s f mu) (RX s f me):=by
 intro ρ J HS HK X w vs x hv hO hrd hp hk hfr;refine⟨λy h=>?_,λy h=>?_⟩
 ·obtain⟨z,h,hz⟩:=h
  rw[← hW]at h;rcases acg h hv hO hrd hp hk hfr with⟨y',h1,h2⟩|⟨y',h1,_⟩
  ·have h1:=Except.ok.inj (Option.some.inj h1)
   have:y'=y:=by rw[← hz, ← h1,e1]
   subst this;exact h2
  ·cases Option.some.inj h1
 ·obtain⟨z,h,hz⟩:=h
  rw[← hW]at h;rcases acg h hv hO hrd hp hk hfr with⟨y',h1,h2⟩|⟨y',h1,h2⟩
  ·cases Option.some.inj h1
  ·have h1:=Except.error.inj (Option.some.inj h1)
   have:y'=y:=by rw[← hz, ← h1,e2]
   subst this;exact h2
def abQ(s:Fs)(f:HI G s->Option (Except Int Z))(mu:Z->HL G (bz s.dZ))(me:Int->HL G (bz s.mI))(hf:(LH P s.k).isSome=true)(ok:UO P s (RE s f mu) (RX s f me)):Ct P G where
 s:=s
 R:=RE s f mu
 Rp:=RX s f me
 cp:=λx ko kp=>bd (f x) λr=>match r with
  | .ok z=>ko (mu z)
  | .error e=>kp (me e)
 cg:=λ_ _ _ =>none
 cps:=λx ko kp z h=>by
  obtain⟨r,h1,h2⟩:=vG h;cases r with
  |ok y=>exact .inl ⟨mu y,⟨y,h1,rfl⟩,h2⟩
  |error e=>exact .inr ⟨me e,⟨e,h1,rfl⟩,h2⟩
 cgs:=λg x k z h=>by cases h
 fn:=by
  cases h:LH P s.k with
  |none=>rw[h]at hf;cases hf
  |some fi=>exact Ib h
 ok:=ok
def ctX(s:Fs)(f:HI G s->Option (Except Int Z))(mu:Z->HL G (bz s.dZ))(me:Int->HL G (bz s.mI))(hf:(LH P s.k).isSome=true)(ok:UO P s (RE s f mu) (RX s f me))(cp:{Y:Type}->HI G s->(HL G (bz s.dZ)->Option Y)->(HL G (bz s.mI)->Option Y)->Option Y)
  (hc:∀{Y:Type} (x:HI G s) (ko:HL G (bz s.dZ)->Option Y) (kp:HL G (bz s.mI)->Option Y),cp x ko kp=(abQ s f mu me hf ok).cp x ko kp):Ct P G where
 s:=s
 R:=RE s f mu
 Rp:=RX s f me
 cp:=cp
 cg:=λ_ _ _ =>none
 cps:=λx ko kp z h=>(abQ s f mu me hf ok).cps x ko kp z (by rw[← hc];exact h)
 cgs:=λg x k z h=>by cases h
 fn:=(abQ s f mu me hf ok).fn
 ok:=ok
abbrev Sh.i:Sh:= .v (.int .i64)
abbrev Sh.b:Sh:= .v .bool
abbrev Sh.s(n:Nat):Sh:= .v (.st n)
abbrev Sh.w:Sh:= .v (.int .u32)
def lS:List Sh->Sh
 |[]=> .nil
 |a::r=> .cons a (lS r)
abbrev Sh.t(l:List Sh):Sh:= .sE (lS l)
abbrev gy(k:Nat)(i o:List Sh):Fs:=⟨k,[],lS i,lS o,[], .nil,[],[]⟩
abbrev fsT(k:Nat)(i o:List Sh)(T:Nat):Fs:=⟨k,[],lS i,lS o,[], .cons (.om T (.v (.int .i64))) .nil,[],[]⟩
section
variable {A B C D:Type}
def u1(y:A×Unit):A:=y.1
def u2(y:A×B×Unit):A×B:=(y.1,y.2.1)
def u3(y:A×B×C×Unit):A×B×C:=(y.1,y.2.1,y.2.2.1)
def m1(z:A):A×Unit:=(z,())
def m2(z:A×B):A×B×Unit:=(z.1,z.2,())
def m3(z:A×B×C):A×B×C×Unit:=(z.1,z.2.1,z.2.2,())
def a1(f:A->Z)(x:A×Unit):Z:=f x.1
def a2(f:A->B->Z)(x:A×B×Unit):Z:=f x.1 x.2.1
def a3(f:A->B->C->Z)(x:A×B×C×Unit):Z:=f x.1 x.2.1 x.2.2.1
def a4(f:A->B->C->D->Z)(x:A×B×C×D×Unit):Z:=f x.1 x.2.1 x.2.2.1 x.2.2.2.1
end
def cV[Inhabited Z](tb:Bp P G)(s:Fs)(f:HI G s->Option Z)(um:HL G (bz s.dZ)->Z)(mu:Z->HL G (bz s.dZ))(e1:∀y,mu (um y)=y:=by exactλ_ =>rfl)(hf:(LH P s.k).isSome=true:=by kernel_rfl)(hW:∀x,Wf tb 3000 s (λy=>some (um y)) (λ_ =>none) x=f x:=by intro _;kernel_rfl):Ct P G:=
 XV s f mu default hf (RC e1 hW)
def cX(tb:Bp P G)(s:Fs)(f:HI G s->Option (Except Int Z))(um:HL G (bz s.dZ)->Z)(mu:Z->HL G (bz s.dZ))(ue:HL G (bz s.mI)->Int)(me:Int->HL G (bz s.mI))(e1:∀y,mu (um y)=y:=by exactλ_ =>rfl)(e2:∀y,me (ue y)=y:=by exactλ_ =>rfl)(hf:(LH P s.k).isSome=true:=by kernel_rfl)
  (hW:∀x,Wf tb 3000 s (λy=>some (.ok (um y))) (λy=>some (.error (ue y))) x=f x:=by intro _;kernel_rfl):Ct P G:=abQ s f mu me hf (abr e1 e2 hW)
def cT(tb:Bp P G)(k:Nat)(i o:List Sh)(T:Nat)(f:HI G (fsT k i o T)->Option (Except Int Z))(um:HL G (bz (fsT k i o T).dZ)->Z)(mu:Z->HL G (bz (fsT k i o T).dZ))(e1:∀y,mu (um y)=y:=by exactλ_ =>rfl)(hf:(LH P k).isSome=true:=by kernel_rfl)
  (hW:∀x,Wf tb 3000 (fsT k i o T) (λy=>some (.ok (um y))) (λy=>some (.error (u1 y))) x=f x:=by intro _;kernel_rfl):Ct P G:=abQ (fsT k i o T) f mu m1 hf (abr e1 (λ_ =>rfl) hW)
def X3(k T:Nat):Fs:=⟨k,[], .cons (.v .bool) (.cons (.v (.int .i64)) .nil), .cons (.sE .nil) .nil,[], .cons (.om T (.v (.int .i64))) .nil,[],[]⟩
def aiW{k T:Nat}(x:HI G (X3 k T)):Bool:=x.1
def amz{k T:Nat}(x:HI G (X3 k T)):Int:=x.2.1
def ae4{k T:Nat}(x:HI G (X3 k T)):Option (Except Int Unit):=cn (!aiW x) (some (.error (amz x))) (some (.ok ()))
def amA{k T:Nat}(y:HL G (bz (X3 k T).mI)):Int:=y.1
def afQ(tb:Bp P G)(k T:Nat)(hf:(LH P k).isSome=true)(hW:∀x,Wf tb 300 (X3 k T) (λ_ =>some (.ok ())) (λy=>some (.error (amA y))) x=ae4 x):Ct P G:=
 ctX (X3 k T) ae4 (λ_ =>()) (λe=>(e,())) hf (abr (tb:=tb) (n:=300) (um:=λ_ =>()) (ue:=amA) (λ_ =>rfl) (λ_ =>rfl) hW)
  (λx ko kp=>bif aiW x then ko ()else kp (amz x,())) (λx ko kp=>by
   show _ =bd (ae4 x) _;unfold ae4;cases aiW x<;>rfl)
theorem abu{s:Fs}{f:HI G s->Option Z}{mu:Z->HL G (bz s.dZ)}(h:∀x,f x=none):UO P s (RV s f mu) (λ_ _ =>False):=by intro ρ J HS HK X w vs x _ _ _ _ _ _;refine⟨λy hy=>?_,λy h=>h.elim⟩;obtain⟨z,h1,_⟩:=hy;rw[h]at h1;cases h1
def lkH{α:Type}:List (Nat×α)->Nat->Option α
 |[],_ =>none
 |(k,v)::r,d=>bif Nat.beq k d then some v else lkH r d
def ahy:List (Ct P G)->Nat->List (Ct P G)
 |[],_ =>[]
 |c::r,k=>bif Nat.beq c.s.k k then c::ahy r k else ahy r k
def OJ:List Ty->List Ty->Bool
 |[],[]=>true
 |a::r,b::q=>a.cW b&&OJ r q
 |_,_ =>false
theorem Zw:∀{l m:List Ty},OJ l m=true->l=m:=by
 intro l
 induction l with
 |nil=>intro m h;cases m with
  |nil=>rfl
  |cons _ _ =>cases h
 |cons a r ih=>intro m h;cases m with
  |nil=>cases h
  |cons b q=>simp only[OJ,apv]at h;rw[Ty.yN h.1,ih h.2]
structure VwA(G:Sg) where
 L:List Ty
 v:Vw G L
def lkV:List (Nat×VwA G)->Nat->(L:List Ty)->Option (Vw G L)
 |[],_,_ =>none
 |(k,a)::r,i,L=>bif Nat.beq k i then(if h:OJ a.L L=true then some (Zw h▸a.v)else none)else lkV r i L
def ahw:List (It P G)->Nat->List (It P G)
 |[],_ =>[]
 |c::r,k=>bif Nat.beq c.k k then c::ahw r k else ahw r k
def ahx:List (Ek P G)->Nat->List (Ek P G)
 |[],_ =>[]
 |c::r,k=>bif Nat.beq c.k k then c::ahx r k else ahx r k
def aki(tt:TT P G)(zt:ZT P G)(n:Nat)(h:List (Nat×Hn))(cs:List (Ct P G))(vs:List (Nat×VwA G))(its:List (It P G))(es:List (Ek P G)):Bp P G:=⟨tt,zt,λ_ i=>lkH h i,ahy cs,n,lkV vs,ahw its,ahx es,false⟩
def anC(t:Bp P G):Bp P G:={t with jw:=true}
end Go.Rw
namespace Go.Rw
open Go Go.Bw Go.RowKit
variable {G:Sg} {P:Program} {N:Nat} {C:CC G} {B:Type}
def ylY(y:B)(t f:Option (List B)):Option (List B):=match f with
 |some []=>yl y t
 |_ =>none
theorem aj9{y:B}{t f:Option (List B)}{r:List B}(h:ylY y t f=some r):f=some []/\∃r',t=some r'/\r=y::r':=by
 unfold ylY at h;split at h
 ·obtain⟨r',h1,h2⟩:=anm h
  exact⟨rfl,r',h2,h1⟩
 ·cases h
def yOp(C:CC G)(S:AS G)(o:Oper):Option (AV G):=match o.op with
 | .call ⟨.value _,args,_⟩=>Ug (mR C S []) args.toList
 |_ =>none
def isY(yn:Nat)(C:CC G)(S:AS G)(ch:List (Nat×Bool))(o:Oper):Bool:=match o.op with
 | .call ⟨.value f,_,_⟩=>match mR C S ch f with
  |some (.mp k)=>Nat.beq k yn
  |_ =>false
 |_ =>false
def an2(yn:Nat)(C:CC G)(S:AS G)(all:Array Oper)(o:Oper):Bool:=match o.guard with
 |none=>isY yn C S [] o
 |some (j,w)=>match LW all j with
  |some dj=>isY yn C S (chain C S 8 dj w) o
  |none=>false
abbrev WB(G:Sg)(B:Type):=WT G (List B)
def Qo(ys:Sh)(de:HL G (bz ys)->B)(z7:WB G B)(N:Nat)(cp:List Nat)(C:CC G)(all:Array Oper)(r:List Oper)(d:Option Tmp)(v:AV G)(S:AS G)(K:Ex G->AS G->Option (List B)):Option (List B):=match qU ys v ⟨[],[],S.nx⟩with
 |some (x,_)=>match yP N C d (.kb true) S,yP N C d (.kb false) S with
  |some S1,some S2=>ylY (de x) (z7 N cp C (.ops all r) S1 K) (z7 N cp C (.ops all r) S2 K)
  |_,_ =>none
 |none=>none
def Zm(tb:Bp P G)(yn:Nat)(ys:Sh)(de:HL G (bz ys)->B)(Wn z7:WB G B):WB G B:=λN cp C cf S K=>match cf with
 | .ops _ []=>K .pB S
 | .ops all (o::r)=>match an2 yn C S all o with
  |false=>Wn N cp C (.ops all [o]) S λe S1=>match e with
   | .pB=>z7 N cp C (.ops all r) S1 K
   |_ =>none
  |true=>match o.guard with
   |none=>bif isY yn C S [] o then(match yOp C S o with
    |some v=>Qo ys de z7 N cp C all r o.dst v S K
    |none=>none)else none
   |some (j,w)=>match LW all j with
    |some dj=>(match gkn C S 8 dj w with
     |some true=>bif isY yn C S [] o then(match yOp C S o with
      |some v=>Qo ys de z7 N cp C all r o.dst v S K
      |none=>none)else none
     |some false=>Wn N cp C (.ops all [o]) S λe S1=>match e with
      | .pB=>z7 N cp C (.ops all r) S1 K
      |_ =>none
     |none=>(match NO C S 8 dj with
      |some (k,b)=>bif w then cn b (z7 N cp C (.ops all (o::r)) {S with F:=(k, .kb true)::S.F} K) (z7 N cp C (.ops all (o::r)) {S with F:=(k, .kb false)::S.F} K)else cn (b==false) (z7 N cp C (.ops all (o::r)) {S with F:=(k, .kb false)::S.F} K) (z7 N cp C (.ops all (o::r)) {S with F:=(k, .kb true)::S.F} K)
      |none=>none))
    |none=>none
 | .code c=>match c with
  | .skip=>K .pB S
  | .label _ =>K .pB S
  | .ret=>K .ret S
  | .exit i=>K (.exit i) S
  | .region _ ops false=>z7 N cp C (.ops ops ops.toList) S K
  | .region i ops true=>Wn N cp C (.code (.region i ops true)) S λe S1=>match e with
   | .pB=>K .pB S1
   |_ =>none
  | .block i x=>z7 N cp C (.code x) S λe S'=>match e with
   | .exit j=>bif Nat.beq i j then K .pB S' else K (.exit j) S'
   |e=>K e S'
  | .cond x a b=>match mR C S [] x with
   |some (.bool t)=>cn t (z7 N cp C (.code a) S K) (z7 N cp C (.code b) S K)
   |some (.kb t)=>z7 N cp C (.code (bif t then a else b)) S K
   |_ =>none
  | .seq x y=>z7 N cp C (.code x) S λe S'=>match e with
   | .pB=>z7 N cp C (.code y) S' K
   |e=>K e S'
  | .loop x=>(match(match W6 x with
    |some i=>tb.hint cp (i+i+1)
    |none=>none)with
   |some (.loop gl)=>(match rsv C S gl with
    |none=>none
    |some g=>match pO C S g.l with
    |S=>match HC C S g.l with
    |some v=>match qU (wo g.l) v ⟨[],S.O,S.nx⟩with
     |some (x0,g')=>bif Ad g.nm g'.th&&Ae S.nx g.nm then
       (match(⟨nG (λd=> !(fk (Nl x) d||Ck g.l d)) S.F,g'.O,S.D⟩:Ly G)with
       |ly=>bif BA S.nx (ly::C)then lpV (tb.vw (match W6 x with
        |some i=>i
        |none=>0) (bz (wo g.l))) (λgo e=>z7 N cp (ly::C) (.code x) (MZ g S.nx e) λe1 S1=>match e1 with
         | .pB=>match Lz (ly::C) (pO (ly::C) S1 g.l) g S.nx with
          |some e=>go e
          |none=>none
         |e1=>K e1 (Qi ly S1)) tb.fu x0
        else none)
      else none
     |none=>none
    |none=>none)
   |_ =>none)
  |_ =>none
noncomputable def WY(tb:Bp P G)(yn:Nat)(ys:Sh)(de:HL G (bz ys)->B):Nat->WB G B
 |0=>λ_ _ _ _ _ _ =>none
 |n+1=>Zm tb yn ys de (W tb n) (WY tb yn ys de n)
theorem Xu{F:Fence}{n:Nat}{all:Array Oper}{o:Oper}{r:List Oper}{a:Act}{w:World}{Q Q1:Exit->Act->World->Prop}(h:wpListIn F n P all Q1 [o] a w)(hk:∀a' w',Q1 .normal a' w'->wpListIn F n P all Q r a' w')(hq:∀e a w,e≠ .normal->Q1 e a w->Q e a w):
  wpListIn F n P all Q (o::r) a w:=by
 refine wpListIn_step λK hK=>?_;unfold wpListIn at h;split
 ·rename_i hw
  rw[aps hw]at h;exact KJ hq (Oper.wpIn_mono (λa' w' q=>hK _ _ (hk a' w' q)) h)
 ·rename_i hw
  rw[apt hw]at h;exact⟨h.1,hK _ _ (hk _ _ h.2)⟩
inductive Ky(G:Sg):Sh->Type where
 |nil:Ky G .nil
 |int {k:IntKind} {s:Sh} (h:Ky G s):Ky G (.cons (.v (.int k)) s)
 |bool {s:Sh} (h:Ky G s):Ky G (.cons (.v .bool) s)
 |st {i:Nat} {s:Sh} (enc:G.S i->List Value) (ok:∀J cs x,(G.L i).fz J cs x↔cs=enc x) (h:Ky G s):Ky G (.cons (.v (.st i)) s)
def Ky.us:{s:Sh}->Ky G s->HL G (bz s)->List Value
 |_, .nil,_ =>[]
 |_, .int (k:=k) h,x=> .int k x.1::h.us x.2
 |_, .bool h,x=> .bool x.1::h.us x.2
 |_, .st enc _ h,x=> .agg (enc x.1).toArray::h.us x.2
def Ky.n:{s:Sh}->Ky G s->Nat
 |_, .nil=>0
 |_, .int h=>h.n+1
 |_, .bool h=>h.n+1
 |_, .st _ _ h=>h.n+1
theorem Ky.len:∀{s:Sh} (q:Ky G s) (x:HL G (bz s)),(q.us x).length=q.n
 |_, .nil,_ =>rfl
 |_, .int h,x=>by simp[Ky.us,Ky.n,h.len x.2]
 |_, .bool h,x=>by simp[Ky.us,Ky.n,h.len x.2]
 |_, .st _ _ h,x=>by simp[Ky.us,Ky.n,h.len x.2]
theorem Ky.ok{J:World->Prop}{σ:bV}{f:Nat->Nat}:∀{s:Sh} (q:Ky G s) (x:HL G (bz s)) (m:Nat) (us:List Value),rl J σ (iL f s x m).1 us↔us=q.us x
 |_, .nil,_,_,us=>Iff.rfl
 |_, .int (k:=k) h,x,m,us=>by
  show(∃u r,us=u::r/\[u]=[.int k x.1]/\rl J σ (iL f _ x.2 m).1 r)↔_;constructor
  ·rintro⟨u,r,rfl,h1,h2⟩
   cases h1;rw[(h.ok x.2 m r).1 h2];rfl
  ·intro e
   exact⟨_,_,e,rfl,(h.ok x.2 m _).2 rfl⟩
 |_, .bool h,x,m,us=>by
  show(∃u r,us=u::r/\[u]=[.bool x.1]/\rl J σ (iL f _ x.2 m).1 r)↔_;constructor
  ·rintro⟨u,r,rfl,h1,h2⟩
   cases h1;rw[(h.ok x.2 m r).1 h2];rfl
  ·intro e
   exact⟨_,_,e,rfl,(h.ok x.2 m _).2 rfl⟩
 |_, .st (i:=i) enc ok h,x,m,us=>by
  show(∃u r,us=u::r/\(∃u',[u]=[u']/\zY J (.st i) x.1 u')/\rl J σ (iL f _ x.2 m).1 r)↔_;constructor
  ·rintro⟨u,r,rfl,⟨u',e,h1,h3,_⟩,h2⟩
   cases e;obtain⟨cs,rfl⟩:=h3 rfl;have:(Value.agg cs.toArray).cells.toList=cs:=by simp[Value.cells]
   rw[this]at h1;rw[(h.ok x.2 m r).1 h2,(ok J cs x.1).1 h1];rfl
  ·intro e
   refine⟨_,_,e,⟨_,rfl,?_,λ_ =>⟨_,rfl⟩,nofun⟩,(h.ok x.2 m _).2 rfl⟩;have:(Value.agg (enc x.1).toArray).cells.toList=enc x.1:=by simp[Value.cells]
   rw[this];exact(ok J _ x.1).2 rfl
structure YC(P:Program)(G:Sg)(ys:Sh)(B:Type) where
 de:HL G (bz ys)->B
 en:B->HL G (bz ys)
 uq:Ky G ys
 l:List B
 yb:Nat->List Value
 yn:Nat
 ly:Nat
 Jy:Nat->List Nat->World->Prop
 Jx:List Nat->World->Prop
 bs0:List Nat
 w1:World
 X0:List aO
 hR:Rnd P ly bs0 w1 Jy Jx yb l.length
 he:∀x,en (de x)=x
 enc:∀i x,l[i]? =some x->yb i=uq.us (en x)
def YC.md{ys:Sh}(q:YC P G ys B)(m:Bool×Nat)(bs:List Nat):aO:= .ext bs (bif m.1 then q.Jy m.2 bs else q.Jx bs)
def YC.mok{ys:Sh}(q:YC P G ys B)(m:Bool×Nat)(r:List B):Prop:=(m.1=true/\q.l.drop m.2=r/\m.2<=q.l.length)\/(m.1=false/\r=[])
structure YC.at {ys:Sh}(q:YC P G ys B)(c:Cx)(ρ:bV)(X:List aO)(n:Nat):Prop where
 lt:q.yn<n
 ro:c.ro=none
 own:∀b,(b∈c.bs\/c.w0.heap.size<=b)->b∉cy q.X0->(b∈q.bs0\/q.w1.heap.size<=b)
 si:∀w',bI c.bs c.w0 w'->Hs q.X0 w'->bI q.bs0 q.w1 w'
 sub:∀r∈q.X0,r∈X
 yv:ρ q.yn=some (.func (.yield q.ly) #[] #[])
theorem YC.at.fA{ys:Sh}{q:YC P G ys B}{c:Cx}{ρ ρ':bV}{X:List aO}{n n':Nat}(h:q.at c ρ X n)(m:ρ.to ρ' n)(Y:List aO)(hn:n<=n'):q.at c ρ' (Y++X) n':=⟨Nat.lt_of_lt_of_le h.lt hn,h.ro,h.own,h.si,λr hr=>apy _ (h.sub r hr),(m _ h.lt).trans h.yv⟩
def Ma{ys:Sh}(q:YC P G ys B)(c:Cx)(N:Nat)(C:CC G)(ρ:bV)(J:World->Prop)(HK X:List aO)(n:Nat)(K:Ex G->AS G->Option (List B))(Q:Exit->Act->World->Prop):Prop:=∀(e:Ex G) (S':AS G) (r':List B),K e S'=some r'->∀(ρ':bV) (J':World->Prop) (Y:List aO) (a':Act) (w':World) (me:Exit) (m':Bool×Nat) (bs':List Nat),q.mok m' r'->ρ.to ρ' n->(∀w,J' w->J w)->exR J' ρ' e me->n<=S'.nx-> Rl c N ρ' J' (q.md m' bs'::HK) (Y++X) C S' a' w'->Q me a' w'
theorem Ma.fA{ys:Sh}{q:YC P G ys B}{c:Cx}{ρ ρ1:bV}{J J1:World->Prop}{HK X Y:List aO}{n m:Nat}{K:Ex G->AS G->Option (List B)}{Q:Exit->Act->World->Prop}(h:Ma q c N C ρ J HK X n K Q)(h1:ρ.to ρ1 n)(h2:∀w,J1 w->J w)(hn:n<=m):Ma q c N C ρ1 J1 HK (Y++X) m K Q:=
 λe S' r' hK ρ' J' Y' a' w' me m' bs' k0 k1 k2 k3 k5 k4=>h e S' r' hK ρ' J' (Y'++Y) a' w' me m' bs' k0 (h1.trans k1 hn) (λw q=>h2 w (k2 w q)) k3 (Nat.le_trans hn k5) (by rw[List.append_assoc];exact k4)
def CH(P:Program){ys:Sh}(q:YC P G ys B)(rec:WB G B):Prop:=∀(N:Nat) (cp:List Nat) (C:CC G) (cf:Cf) (S:AS G) (K:Ex G->AS G->Option (List B)) (r:List B),rec N cp C cf S K=some r-> ∀(c:Cx) (ρ:bV) (J:World->Prop) (HK X:List aO) (a:Act) (w:World) (Q:Exit->Act->World->Prop) (m:Bool×Nat) (bs:List Nat),q.at c ρ X S.nx->q.mok m r->Rl c N ρ J (q.md m bs::HK) X C S a w->Ma q c N C ρ J HK X S.nx K Q->Rn P c cf Q a w
theorem Ma.here{ys:Sh}{q:YC P G ys B}{c:Cx}{ρ:bV}{J:World->Prop}{HK X:List aO}{S:AS G}{e:Ex G}{K:Ex G->AS G->Option (List B)}{Q:Exit->Act->World->Prop}{a:Act}{w:World}{me:Exit}{r:List B}{m:Bool×Nat}{bs:List Nat}(h:Ma q c N C ρ J HK X S.nx K Q)(hK:K e S=some r)(hm:q.mok m r)
  (hr:Rl c N ρ J (q.md m bs::HK) X C S a w)(he:exR J ρ e me):Q me a w:=
 h e S r hK ρ J [] a w me m bs hm (bV.gU _ _) (λ_ h=>h) he (Nat.le_refl _) hr
theorem Rl.hk{c:Cx}{ρ:bV}{J:World->Prop}{HK HK' X:List aO}{S:AS G}{a:Act}{w:World}(h:Rl c N ρ J HK X C S a w)(p:HK.Perm HK'):Rl c N ρ J HK' X C S a w:=by obtain⟨HS,q1,q3⟩:=h.hp;refine⟨h.tm,h.df,h.si,h.fs,h.fc,λr o e=>?_,⟨HS,q1,q3.qt (List.Perm.append_left _ (p.append_right _))⟩,h.kn,h.fr⟩;obtain⟨y,y1,y2⟩:=h.kc r o e;exact⟨y,p.mem_iff.1 y1,y2⟩
section
variable {ys:Sh} {q:YC P G ys B} {tb:Bp P G} {rec:WB G B} {c:Cx} {ρ:bV} {J:World->Prop} {HK X:List aO} {S:AS G} {a:Act} {w:World} {Q:Exit->Act->World->Prop} {m:Bool×Nat} {bs:List Nat} {K:Ex G->AS G->Option (List B)} {r:List B}
theorem YB{Wn:WB G B}(hW:tG P Wn){cp:List Nat}{cf:Cf}{K1:AS G->Option (List B)}(h:Wn N cp C cf S (λe S1=>match e with
   | .pB=>K1 S1
   |_ =>none)=some r):∃S1,K1 S1=some r/\S.nx<=S1.nx/\US P N C cf S S1 .pB:=by
 obtain⟨e,S1,k1,k2,k3⟩:=hW _ _ _ _ _ _ _ h;cases e with
 |pB=>exact⟨S1,k1,k2,k3⟩
 |_ =>cases k1
theorem ann(dB:CH P q rec){cp:List Nat}{all:Array Oper}{o:Oper}{rs:List Oper}{S1:AS G}(h:rec N cp C (.ops all rs) S1 K=some r)(hn:S.nx<=S1.nx)(hu:US P N C (.ops all [o]) S S1 .pB)(ha:q.at c ρ X S.nx)(hm:q.mok m r)(hr:Rl c N ρ J (q.md m bs::HK) X C S a w)(hq:Ma q c N C ρ J HK X S.nx K Q):
  Rn P c (.ops all (o::rs)) Q a w:=by
 refine Xu (hu c ρ J (q.md m bs::HK) X a w (λe a w=>e= .normal/\wpListIn (FA c.ro) 0 P all Q rs a w) hr λρ' J' Y a' w' me k1 k2 k3 k4=>⟨po k3,?_⟩) (λa w h=>h.2) (λe a w he h=>absurd h.1 he);exact dB _ _ _ _ _ _ _ h c ρ' J' HK (Y++X) a' w' Q m bs (ha.fA k1 Y hn) hm k4 (hq.fA k1 k2 hn)
theorem akB{J:World->Prop}{ρ:bV}{s:Sh}{v:AV G}{g':GS G}{n:Nat}{x:HL G (bz s)}{l:List Value}(h:qU s v ⟨[],[],n⟩=some (x,g'))(hf:ρ.fr n)(hv:rl J ρ v l):∃τ,rl J τ (iL (λm=>m) s x 0).1 l:=by obtain⟨ρ2,HB,H',k⟩:=LF h hv .nil hf;exact⟨_,k.val⟩
theorem acZ(dB:CH P q rec){cp:List Nat}{all:Array Oper}{rs:List Oper}{f:Operand}{args:Array Operand}{ats:Array TypeId}{d:Option Tmp}{ty:TypeId}{ps:String}{af:Array Edge}{g:Option (Nat×Bool)}{v:AV G}
  (hw:SF N all C S ⟨d, .call ⟨.value f,args,ats⟩,ty,ps,af,g⟩)(hf:mR C S [] f=some (.mp q.yn))(hv:Ug (mR C S []) args.toList=some v)(h:Qo ys q.de rec N cp C all rs d v S K=some r)
  (ha:q.at c ρ X S.nx)(hm:q.mok m r)(hr:Rl c N ρ J (q.md m bs::HK) X C S a w)(hq:Ma q c N C ρ J HK X S.nx K Q):Rn P c (.ops all (⟨d, .call ⟨.value f,args,ats⟩,ty,ps,af,g⟩::rs)) Q a w:=by
 unfold Qo at h;split at h
 ·rename_i x g' hg
  split at h
  ·rename_i S1 S2 h1 h2
   obtain⟨hf0,r',ht,rfl⟩:=aj9 h;have hE:=gB hr (ch:=[]) (by simp);obtain⟨u,u1,u2,_⟩:=hE.ok _ _ hf;have e1:a.eval f= .func (.yield q.ly) #[] #[]:=by rw[ha.yv]at u1;cases u1;exact(List.cons.inj u2).1
   obtain⟨r2,_⟩:=AA hE hv;obtain⟨τ,hτ⟩:=akB hg hr.fr r2;rcases hm with⟨m1,m2,m3⟩|⟨_,m2⟩
   ·obtain⟨mb,k⟩:=m
    dsimp only at m1 m2 m3;subst m1;have hk:q.l[k]? =some (q.de x):=by
     have:(q.l.drop k)[0]? =some (q.de x):=by rw[m2];rfl
     simpa using this
    have hlt:k<q.l.length:=(List.getElem?_eq_some_iff.1 hk).1;have aot:args.toList.map a.eval=q.yb k:=by rw[q.enc k _ hk,q.he, ← (q.uq.ok x 0 _).1 hτ]
    obtain⟨HS,q1,q3⟩:=hr.hp;have pm:∀x:aO,(HS++((x::HK)++X)).Perm (x::(HS++(HK++X))):=λx=>List.perm_middle;have q4:=q3.qt (pm _);have hXh:Hs q.X0 w:=Jm q3 λr hr'=>apy _ (apy _ (ha.sub r hr'));have qT:∀b∈bs,(b∈q.bs0\/q.w1.heap.size<=b)/\b<w.heap.size:=λb hb=>by obtain⟨o1,o2⟩:=q4.own _ List.mem_cons_self b hb;refine⟨ha.own b o1 λhx=>?_,o2⟩;obtain⟨s,s1,s2⟩:=bO.1 hx;exact(List.pairwise_cons.1 q4.apart).1 s (by simp[ha.sub s s1]) b hb s2
    obtain⟨fn,tmps,assign,body,hy,hF,hrun⟩:=q.hR k hlt w bs (ha.si w hr.si.s hXh) qT (q4.holds _ List.mem_cons_self);refine wpListIn_step λK1 hK=>?_;rw[aps (hw c ρ J _ X a w hr)];refine⟨λ_ _ =>trivial,?_⟩;have hs:Oper.semAt (FA c.ro).round a.eval (⟨d, .call ⟨.value f,args,ats⟩,ty,ps,af,g⟩:Oper)=execOp a.eval ⟨d, .call ⟨.value f,args,ats⟩,ty,ps,af,g⟩:=Oper.semAt_eq _ _ _ (by simp);have hrn:(execOp a.eval ⟨d, .call ⟨.value f,args,ats⟩,ty,ps,af,g⟩).run P w= .ok (.round q.ly fn tmps assign body) w:=by
     have e4: #[]++(args.map a.eval)=(q.yb k).toArray:=by rw[← aot];exact Array.ext' (by simp)
     simp only[execOp,resolve,e1,Deferred.ofValue,Sem.run_bind,Sem.run_pure,Result.andThen_ok,invoke,e4];exact hy
    rw[hs,hrn];refine⟨λh=>by simp at h,⟨trivial,λcf cs hroom=>?_⟩⟩;have hfa:FA c.ro=FA none:=by rw[ha.ro]
    rw[hfa];obtain⟨e,W',hpost,aia⟩:=hrun cf cs (by rw[← hfa];exact hroom);refine⟨e,W',?_,aia⟩;obtain⟨bs',hb',hsi,Jn⟩:=hpost;have fin:∀(b:Bool) (S3:AS G) (r2:List B),yP N C d (.kb b) S=some S3->rec N cp C (.ops all rs) S3 K=some r2->q.mok (b,k+1) r2->(aO.ext bs' (bif b then q.Jy (k+1) bs' else q.Jx bs')).holds W'->K1 (a.put d (.bool b)) W':=λb S3 r2 hp hw2 hmk hh=>by
     have q5:=q4.set (k:=0) (r':= .ext bs' (bif b then q.Jy (k+1) bs' else q.Jx bs')) rfl hsi.size (λj hj hn=>hsi.block j hj hn) hh hr.si.s.size (λb hb=>hb' b hb);have hr':Rl c N ρ J (q.md (b,k+1) bs'::HK) X C S a W':=by
      refine⟨hr.tm,hr.df,⟨hr.si.s.trans hsi λb hb=>(q4.own _ List.mem_cons_self b hb).1,hr.si.n⟩,hr.fs,hr.fc,λr o e=>?_,⟨HS,q1,q5.qt (pm _).symm⟩,hr.kn,hr.fr⟩;obtain⟨y,y1,y2⟩:=hr.kc r o e;rcases List.mem_cons.1 y1 with rfl|y1
      ·cases o with
       |eW T c=>obtain⟨_,_,_,e,_⟩:=y2;cases e
       |row _ _ _ _ =>obtain⟨_,_,_,e,_⟩:=y2;cases e
       |aux b=>obtain⟨_,_,_,e,_⟩:=y2;cases e
       |gm=>obtain⟨_,e⟩:=y2;cases e
      ·exact⟨y,apE _ y1,y2⟩
     refine hK _ _ ?_;refine dB _ _ _ _ _ _ _ hw2 c ρ J HK X _ W' Q (b,k+1) bs' (by rw[rj hp];exact ha) hmk (hr'.put hp rfl) ?_;rw[rj hp];exact hq
    rcases Jn with⟨rfl,hh⟩|⟨rfl,hh⟩
    ·refine fin true S1 r' h1 ht (.inl ⟨rfl,?_,hlt⟩) hh
     show q.l.drop (k+1)=r';rw[← List.drop_drop,m2];rfl
    ·exact fin false S2 [] h2 hf0 (.inr ⟨rfl,rfl⟩) hh
   ·cases m2
  ·cases h
 ·cases h
theorem alh{yn:Nat}{o:Oper}(h:isY yn C S [] o=true):∃d f args ats ty ps af g,o=⟨d, .call ⟨.value f,args,ats⟩,ty,ps,af,g⟩/\mR C S [] f=some (.mp yn):=by
 obtain⟨d,op,ty,ps,af,g⟩:=o;unfold isY at h;dsimp only at h;split at h
 ·split at h
  ·rename_i hf
   obtain rfl:=apu h;exact⟨d,_,_,_,ty,ps,af,g,rfl,hf⟩
  ·cases h
 ·cases h
theorem YD(dB:CH P q rec){cp:List Nat}{all:Array Oper}{rs:List Oper}{o:Oper}(hw:SF N all C S o)(h:(bif isY q.yn C S [] o then(match yOp C S o with
   |some v=>Qo ys q.de rec N cp C all rs o.dst v S K
   |none=>none)else none)=some r)(ha:q.at c ρ X S.nx)(hm:q.mok m r)(hr:Rl c N ρ J (q.md m bs::HK) X C S a w)(hq:Ma q c N C ρ J HK X S.nx K Q):Rn P c (.ops all (o::rs)) Q a w:=by
 cases hY:isY q.yn C S [] o with
 |false=>rw[hY]at h;cases h
 |true=>
 rw[hY]at h;simp only[cond_true]at h;obtain⟨d,f,args,ats,ty,ps,af,g,rfl,hf⟩:=alh hY;split at h
 ·rename_i v hv
  exact acZ dB hw hf hv h ha hm hr hq
 ·cases h
theorem agk(dB:CH P q rec){cp:List Nat}{x:Code}{g:gE}{base:Nat}{ly:Ly G}(hl:BA base (ly::C)=true){vw:Option (Vw G (bz (wo g.l)))}:∀(n:Nat) (e:HL G (bz (wo g.l))) (r:List B),lpV vw (λgo e=>rec N cp (ly::C) (.code x) (MZ g base e) λe1 S1=>match e1 with
   | .pB=>match Lz (ly::C) (pO (ly::C) S1 g.l) g base with
    |some e=>go e
    |none=>none
   |e1=>K e1 (Qi ly S1)) n e=some r->
  ∀(ρ:bV) (J:World->Prop) (HK X:List aO) (a:Act) (w:World) (m:Bool×Nat) (bs:List Nat),q.at c ρ X base->q.mok m r->Rl c N ρ J (q.md m bs::HK) X (ly::C) (MZ g base e) a w->
   Ma q c N (ly::C) ρ J HK X base (λe1 S1=>match e1 with
    | .pB=>none
    |e1=>K e1 (Qi ly S1)) Q->LPr P c x Q a w:=by
 intro n
 induction n with
 |zero=>intro e r h;obtain⟨m,h1,_⟩:=Vv h;cases h1
 |succ n ih=>
  intro e r h ρ J HK X a w m bs ha hm hr hq;obtain⟨m',h1,h2⟩:=Vv h;cases h1;refine Pc (dB _ _ _ _ _ _ _ h2 c ρ J HK X a w _ m bs ⟨Nat.lt_of_lt_of_le ha.lt (Nat.le_add_right _ _),ha.ro,ha.own,ha.si,ha.sub,ha.yv⟩ hm hr ?_);intro e1 S1 r' hK ρ' J' Y a' w' me m1 N3 k0 k1 k2 k3 k5 k4;have Sv:ρ.to ρ' base:=λr hr'=>k1 r (by show r<base+_;omega);cases e1 with
  |pB=>
   rw[po k3];dsimp only at hK;split at hK
   ·rename_i e' hg
    obtain⟨J2,Y2,j1,z4⟩:=k4.pO g.l;obtain⟨ρ2,t2,z5⟩:=ad8 z4 hg hl;rw[← List.append_assoc]at z5;have hto:ρ.to ρ2 base:=λr hr'=>(t2 r hr').trans (Sv r hr');exact ih e' r' hK ρ2 J2 HK ((Y2++Y)++X) a' w' m1 N3 (ha.fA hto _ (Nat.le_refl _)) k0 z5 (hq.fA hto (λw h=>k2 w (j1 w h)) (Nat.le_refl _))
   ·cases hK
  |exit i=>refine rL (sW (by simp) k3) ?_;exact hq (.exit i) S1 r' hK ρ' J' Y a' w' me m1 N3 k0 Sv k2 k3 (Nat.le_trans (Nat.le_add_right _ _) k5) k4
  |ret=>refine rL (sW (by simp) k3) ?_;exact hq (.ret) S1 r' hK ρ' J' Y a' w' me m1 N3 k0 Sv k2 k3 (Nat.le_trans (Nat.le_add_right _ _) k5) k4
  |z9 v=>refine rL (sW (by simp) k3) ?_;exact hq (.z9 v) S1 r' hK ρ' J' Y a' w' me m1 N3 k0 Sv k2 k3 (Nat.le_trans (Nat.le_add_right _ _) k5) k4
theorem afz{Wn:WB G B}(hW:tG P Wn)(dB:CH P q rec){cp:List Nat}{all:Array Oper}{o:Oper}{rs:List Oper}(h:Wn N cp C (.ops all [o]) S (λe S1=>match e with
   | .pB=>rec N cp C (.ops all rs) S1 K
   |_ =>none)=some r)(ha:q.at c ρ X S.nx)(hm:q.mok m r)(hr:Rl c N ρ J (q.md m bs::HK) X C S a w)(hq:Ma q c N C ρ J HK X S.nx K Q):Rn P c (.ops all (o::rs)) Q a w:=by
 obtain⟨S1,k1,k2,k3⟩:=YB hW (K1:=λS1=>rec N cp C (.ops all rs) S1 K) h;exact ann dB k1 k2 k3 ha hm hr hq
theorem Zl{Wn:WB G B}(hW:tG P Wn)(dB:CH P q rec):CH P q (Zm tb q.yn ys q.de Wn rec):=by
 intro N cp C cf S K r h c ρ J HK X a w Q m bs ha hm hr hq;unfold Zm at h;dsimp only at h;split at h
 ·exact hq.here h hm hr trivial
 ·rename_i all o rs
  split at h
  ·exact afz hW dB h ha hm hr hq
  ·rename_i hY
   split at h
   ·rename_i hg;exact YD dB (.none hg) h ha hm hr hq
   ·rename_i j wb hg
    split at h
    ·rename_i dj hd
     split at h
     ·rename_i hk;exact YD dB (.afT hg hd hk) h ha hm hr hq
     ·exact afz hW dB h ha hm hr hq
     ·split at h
      ·rename_i k b hk
       have hb:=Rz hr 8 dj k b hk;have know:Rl c N ρ J (q.md m bs::HK) X C {S with F:=(k, .kb b)::S.F} a w:=by
        refine⟨hr.tm,hr.df,hr.si,λd v e=>?_,hr.fc,hr.kc,hr.hp,hr.kn,hr.fr⟩;simp only[gw]at e;cases hd:Nat.beq k d with
        |true=>rw[hd]at e;cases e;obtain rfl:=apu hd;exact⟨_,hb,rfl⟩
        |false=>rw[hd]at e;exact hr.fs d v e
       cases wb with
       |true=>cases b with
        |true=>exact dB N cp C (.ops all (o::rs)) {S with F:=(k, .kb true)::S.F} K r h c ρ J HK X a w Q m bs ha hm know hq
        |false=>exact dB N cp C (.ops all (o::rs)) {S with F:=(k, .kb false)::S.F} K r h c ρ J HK X a w Q m bs ha hm know hq
       |false=>cases b with
        |true=>exact dB N cp C (.ops all (o::rs)) {S with F:=(k, .kb true)::S.F} K r h c ρ J HK X a w Q m bs ha hm know hq
        |false=>exact dB N cp C (.ops all (o::rs)) {S with F:=(k, .kb false)::S.F} K r h c ρ J HK X a w Q m bs ha hm know hq
      ·cases h
    ·cases h
 ·split at h
  ·exact wpIn_skip (hq.here h hm hr trivial)
  ·exact wpIn_label (hq.here h hm hr trivial)
  ·exact wpIn_ret (hq.here h hm hr trivial)
  ·exact wpIn_exit (hq.here h hm hr rfl)
  ·exact wpIn_region_list (dB _ _ _ _ _ _ _ h c ρ J HK X a w Q m bs ha hm hr hq)
  ·obtain⟨S1,k1,k2,k3⟩:=YB hW h
   refine k3 c ρ J (q.md m bs::HK) X a w Q hr λρ' J' Y a' w' me t1 t2 t3 t4=>?_;rw[po t3];exact hq _ S1 _ k1 ρ' J' Y a' w' .normal m bs hm t1 t2 trivial k2 t4
  ·rename_i i x
   refine wpIn_block (dB _ _ _ _ _ _ _ h c ρ J HK X a w _ m bs ha hm hr ?_);intro e1 S1 r' hK ρ' J' Y a' w' me m1 N3 k0 k1 k2 k3 k5 k4;cases e1 with
   |exit j=>
    dsimp only at hK;rw[LU k3];cases hb:Nat.beq i j with
    |true=>rw[hb]at hK;obtain rfl:=apu hb;simpa[Exit.inBlock]using hq _ S1 _ hK ρ' J' Y a' w' .normal m1 N3 k0 k1 k2 trivial k5 k4
    |false=>
     rw[hb]at hK;have hne:i≠j:=λq=>by rw[q,Nat.beq_refl]at hb;cases hb
     have:=hq _ S1 _ hK ρ' J' Y a' w' (.exit j) m1 N3 k0 k1 k2 rfl k5 k4;simpa[Exit.inBlock,hne,Ne.symm hne]using this
   |pB=>rw[po k3];simpa[Exit.inBlock]using hq _ S1 _ hK ρ' J' Y a' w' .normal m1 N3 k0 k1 k2 trivial k5 k4
   |ret=>rw[Ku k3];simpa[Exit.inBlock]using hq _ S1 _ hK ρ' J' Y a' w' .ret m1 N3 k0 k1 k2 trivial k5 k4
   |z9 v=>obtain⟨u,rfl,hu⟩:=V5 k3;simpa[Exit.inBlock]using hq _ S1 _ hK ρ' J' Y a' w' (.panic [{v:=u,recovered:=false}]) m1 N3 k0 k1 k2 ⟨u,rfl,hu⟩ k5 k4
  ·split at h
   ·rename_i t hx
    have ex:=C4 ((gB hr (ch:=[]) (by simp)).ok _ _ hx);cases t with
    |true=>exact wpIn_cond_true ex (dB _ _ _ _ _ _ _ (Um rfl h) c ρ J HK X a w Q m bs ha hm hr hq)
    |false=>exact wpIn_cond_false ex (dB _ _ _ _ _ _ _ (Un rfl h) c ρ J HK X a w Q m bs ha hm hr hq)
   ·rename_i t hx
    have ex:=Ns ((gB hr (ch:=[]) (by simp)).ok _ _ hx);cases t with
    |true=>exact wpIn_cond_true ex (dB _ _ _ _ _ _ _ h c ρ J HK X a w Q m bs ha hm hr hq)
    |false=>exact wpIn_cond_false ex (dB _ _ _ _ _ _ _ h c ρ J HK X a w Q m bs ha hm hr hq)
   ·cases h
  ·refine wpIn_seq (dB _ _ _ _ _ _ _ h c ρ J HK X a w _ m bs ha hm hr ?_)
   intro e1 S1 r' hK ρ' J' Y a' w' me m1 N3 k0 k1 k2 k3 k5 k4;cases e1 with
   |pB=>rw[po k3];exact dB _ _ _ _ _ _ _ hK c ρ' J' HK (Y++X) a' w' Q m1 N3 (ha.fA k1 Y k5) k0 k4 (hq.fA k1 k2 k5)
   |exit i=>exact rL (sW (by simp) k3) (hq _ S1 _ hK ρ' J' Y a' w' me m1 N3 k0 k1 k2 k3 k5 k4)
   |ret=>exact rL (sW (by simp) k3) (hq _ S1 _ hK ρ' J' Y a' w' me m1 N3 k0 k1 k2 k3 k5 k4)
   |z9 v=>exact rL (sW (by simp) k3) (hq _ S1 _ hK ρ' J' Y a' w' me m1 N3 k0 k1 k2 k3 k5 k4)
  ·rename_i x
   split at h
   ·rename_i gl _
    split at h
    ·cases h
    ·rename_i g _
     obtain⟨J0,Y0,mJ0,hr⟩:=hr.pO g.l;have SB:=F7 (C:=C) (S:=S) (l:=g.l);have ha:=ha.fA (bV.gU ρ S.nx) Y0 (Nat.le_refl _);have hq:=hq.fA (Y:=Y0) (bV.gU ρ S.nx) mJ0 (Nat.le_refl _);rw[← SB]at ha hq;revert h hr ha hq;generalize pO C S g.l=S;intro h hr ha hq;split at h
     ·rename_i v hv
      split at h
      ·rename_i x0 g' Lw
       cases hb:(Ad g.nm g'.th&&Ae S.nx g.nm)with
       |false=>rw[hb]at h;cases h
       |true=>
        rw[hb]at h;simp only[apv]at hb;simp only[cond_true]at h;cases hl:BA S.nx ((⟨nG (λd=> !(fk (Nl x) d||Ck g.l d)) S.F,g'.O,S.D⟩:Ly G)::C)with
        |false=>rw[hl]at h;cases h
        |true=>
         rw[hl]at h;simp only[cond_true]at h;refine Rb ?_;have hl':=hl;simp only[BA,apv]at hl';have hlC:BA S.nx C=true:=hl'.2.2.2;obtain⟨ρ',ρ2,HB,H',hto,ht2,Lx,hleft,hC,hp,hF,hfc,hfr⟩:=Vr hr hv Lw hb.1 hb.2 (Nat.le_refl _) hlC;have hag:∀r,r<S.nx->ρ' r=ρ2 r:=λr hr'=>(hto r hr').trans (ht2 r hr').symm;have hleft:=hleft.jd hag hl'.2.1;have hr':Rl c N ρ' J0 (q.md m bs::(H'++HK)) (Y0++X) (⟨nG (λd=> !(fk (Nl x) d||Ck g.l d)) S.F,g'.O,S.D⟩::C) (MZ g S.nx x0) a w:=by
          refine Rl.hk (HK:=H'++(q.md m bs::HK)) ⟨hr.tm,?_,⟨hr.si.s,λq=>hr.si.n (Gb q)⟩,hF,λy hy=>?_,λr o e=>?_,⟨HB,Lx,by simpa using hp⟩,hr.kn,hfr⟩ List.perm_middle
          ·exact hr.df.jd hto (Pb hl'.2.2.1 (Ji hlC).2)
          ·rcases List.mem_cons.1 hy with rfl|hy
           ·exact(hr.fs.fil).jd hto hl'.1
           ·exact hfc y hy
          ·have e:gw (g'.O++zk C) r=some o:=e
           rw[ow]at e;split at e
           ·rename_i v' Rq
            cases e;obtain⟨x,h1,h2⟩:=hleft.lk Rq;exact⟨x,apz _ h1,h2⟩
           ·obtain⟨x,h1,h2⟩:=hC r o e
            exact⟨x,apy _ h1,h2⟩
         refine agk (C:=C) (K:=K) dB hl _ _ _ h ρ' J0 (H'++HK) (Y0++X) a w m bs (ha.fA (Y:=[]) hto (Nat.le_refl _)) hm hr' ?_;intro e1 S1 r' hK ρ3 J3 Y a' w' me m1 N3 k0 k1 k2 k3 k5 k4;have Sv:ρ.to ρ3 S.nx:=λr q=>(k1 r q).trans (hto r q);have ah0:Rl c N ρ3 J3 (q.md m1 N3::HK) (Y++(Y0++X)) C (Qi ⟨nG (λd=> !(fk (Nl x) d||Ck g.l d)) S.F,g'.O,S.D⟩ S1) a' w':=by
          refine Rl.Qi (H2:=H') (k4.hk List.perm_middle.symm) ((hleft.jd k1 hl'.2.1).up k2 (bV.le_refl _)) ?_ hr.si.n;intro r o e;obtain⟨y,y1,y2⟩:=hr.Yp k2 (Sv.le hr.fr) r o e;rcases List.mem_cons.1 y1 with rfl|y1
          ·cases o with
           |eW T c=>obtain⟨_,_,_,e,_⟩:=y2;cases e
           |row _ _ _ _ =>obtain⟨_,_,_,e,_⟩:=y2;cases e
           |aux b=>obtain⟨_,_,_,e,_⟩:=y2;cases e
           |gm=>obtain⟨_,e⟩:=y2;cases e
          ·exact⟨y,apE _ y1,y2⟩
         cases e1 with
         |pB=>cases hK
         |exit i=>exact hq (.exit i) _ r' hK ρ3 J3 Y a' w' me m1 N3 k0 Sv k2 k3 k5 ah0
         |ret=>exact hq .ret _ r' hK ρ3 J3 Y a' w' me m1 N3 k0 Sv k2 k3 k5 ah0
         |z9 v=>exact hq (.z9 v) _ r' hK ρ3 J3 Y a' w' me m1 N3 k0 Sv k2 k3 k5 ah0
      ·cases h
     ·cases h
   ·cases h
  ·cases h
theorem amE:∀n:Nat,CH P q (WY tb q.yn ys q.de n):=by
 intro n
 induction n with
 |zero=>intro N cp C cf S K r h;cases h
 |succ n ih=>exact Zl (amD n) ih
end
def al2(JM:List ResultVar):Ex G->AS G->Option (List B):=λe S=>match JM,(match e with
  | .pB=>true
  | .ret=>true
  |_ =>false)with
 |[],true=>match aiB S with
  |some _ =>some []
  |none=>none
 |_,_ =>none
noncomputable def WYf(tb:Bp P G)(n k:Nat)(yU ys:Sh)(de:HL G (bz ys)->B)(x:HL G (bz yU)):Option (List B):=match LH P k with
 |some fi=>match iL (λm=>m) yU x 0 with
  |(apr,O,m)=>bif uU apr&&Nat.ble (HY apr+1) fi.N then WY tb m ys de n fi.N [] [] (.code fi.code) ⟨Cp 0 (.cons (.mp m) apr),O,m+1,[]⟩ (al2 fi.JM)else none
 |none=>none
theorem ai4{tb:Bp P G}{n k:Nat}{yU ys:Sh}{de:HL G (bz ys)->B}{en:B->HL G (bz ys)}(uq:Ky G ys)(he:∀x,en (de x)=x){f:HL G (bz yU)->Option (List B)}(hW:∀x,WYf tb n k yU ys de x=f x):amL P k yU uq.n ys en f:=by
 intro ρ J HB X vs x l hf hv hO hk hfr;rw[← hW]at hf;refine⟨λi=>match l[i]? with
  |some y=>uq.us (en y)
  |none=>List.replicate uq.n undef,λσ i y hy=>?_,λi=>?_,λly Jy Jx bs w hp hR=>?_⟩
 ·dsimp only
  rw[hy];exact(uq.ok _ _ _).2 rfl
 ·dsimp only
  split
  ·exact uq.len _
  ·exact List.length_replicate
 unfold WYf at hf;split at hf
 ·rename_i fi Qm
  revert hf hv hO hfr;generalize iL (λm=>m) yU x 0=b;obtain⟨apr,O,m⟩:=b;intro hv hO hfr hf;dsimp only at hf hv hO hfr;cases hc:(uU apr&&Nat.ble (HY apr+1) fi.N)with
  |false=>rw[hc]at hf;cases hf
  |true=>
   rw[hc]at hf;simp only[apv]at hc;simp only[cond_true]at hf;obtain⟨fn,f1,f2,f3,f4,f5⟩:=abo Qm;have hXw:Hs X w:=Jm hp λr hr'=>by simp[hr']
   have apX:∀b,b∈bs\/b∈cy HB->b∉cy X:=λb hb hx=>by
    have h1:=hp.apart;have e1:(aO.ext bs (Jy 0 bs)::(HB++X))=(aO.ext bs (Jy 0 bs)::HB)++X:=rfl;rw[e1]at h1;obtain⟨s,s1,s2⟩:=bO.1 hx;rcases hb with hb|hb
    ·exact(List.pairwise_append.1 h1).2.2 _ List.mem_cons_self s s1 b hb s2
    ·obtain⟨r,r1,r2⟩:=bO.1 hb
     exact(List.pairwise_append.1 h1).2.2 _ (apE _ r1) s s1 b r2 s2
   have akq:∀w',bI (bs++(cy HB++cy X)) w w'->Hs X w'->bI (bs++cy HB) w w':=λw' hs hx=>⟨hs.os,hs.tape,hs.output,hs.size,λb h1 h2=>by
    rcases Classical.em (b∈cy X)with h3|h3
    ·exact hk.ex w w' hXw hx b h3
    ·refine hs.block b h1 λh4=>?_
     simp only[List.mem_append]at h4 h2;rcases h4 with h4|h4|h4
     ·exact h2 (.inl h4)
     ·exact h2 (.inr h4)
     ·exact h3 h4⟩
   let q:YC P G ys B:={de:=de,en:=en,uq:=uq,l:=l,yb:=λi=>match l[i]? with
    |some y=>uq.us (en y)
    |none=>List.replicate uq.n undef,yn:=m,ly:=ly,Jy:=Jy,Jx:=Jx,bs0:=bs++cy HB,w1:=w,X0:=X,hR:=hR,he:=he,enc:=λi y hy=>by rw[hy]}
   have alM:ρ.fr m:=hfr;have hle:ρ.le (ρ.set m (.func (.yield ly) #[] #[])):=(bV.sJ ρ m _).le alM;have hva:rl J (ρ.set m (.func (.yield ly) #[] #[])) (.cons (.mp m) apr) (.func (.yield ly) #[] #[]::vs):=⟨_,_,rfl,⟨_,bV.ou _ _ _,rfl,rfl,rfl⟩,hv.ext hle⟩;have hlen:=VD (v:= .cons (.mp m) apr) hc.1 hva;refine(callsIn_wide (n:=0)).1 (callsIn_of_wp_marks (F:=Fence.wide) f1 f2 trivial ?_);have hsz:((Value.func (.yield ly) #[] #[]::vs).toArray++Array.replicate (fn.ntmps-(Value.func (.yield ly) #[] #[]::vs).toArray.size) undef).size=fi.N:=by have h1:=Nat.le_of_ble_eq_true hc.2;have h2:(Value.func (.yield ly) #[] #[]::vs).length=HY apr+1:=hlen;simp only[List.length_cons]at h2;simp;omega
   have hR0:Rl ⟨none,w,bs++(cy HB++cy X)⟩ fi.N (ρ.set m (.func (.yield ly) #[] #[])) J (q.md (true,0) bs::[]) X [] (⟨Cp 0 (.cons (.mp m) apr),O,m+1,[]⟩:AS G) ⟨(Value.func (.yield ly) #[] #[]::vs).toArray++Array.replicate (fn.ntmps-(Value.func (.yield ly) #[] #[]::vs).toArray.size) undef,[]⟩ w:=by refine⟨hsz, .nil,⟨bI.refl _ _,λ_ =>rfl⟩,λd x e=>?_,λy hy=>(by cases hy),λr o e=>(by cases e),⟨HB,hO.up (λ_ h=>h) hle,hp.qt List.perm_middle.symm⟩,hk,bV.EI alM _⟩;obtain⟨u,_,k2,k3⟩:=VW hva e;refine⟨u,?_,U5 k3 _⟩;rw[Nat.sub_zero]at k2;have hlt:=(List.getElem?_eq_some_iff.1 k2).1;rw[Array.getElem?_append_left (by simpa using hlt)];simpa using k2
   refine amE (q:=q) n _ _ _ _ _ _ _ hf ⟨none,w,bs++(cy HB++cy X)⟩ _ J [] X _ w _ (true,0) bs ⟨Nat.lt_succ_self _,rfl,λb h1 h2=>?_,akq,λr hr'=>hr',bV.ou _ _ _⟩ (.inl ⟨rfl,rfl,Nat.zero_le _⟩) hR0 ?_
   ·rcases h1 with h1|h1
    ·left
     show b∈bs++cy HB;simp only[List.mem_append]at h1 ⊢;rcases h1 with h1|h1|h1
     ·exact .inl h1
     ·exact .inr h1
     ·exact absurd h1 h2
    ·exact .inr h1
   ·intro e S' r' hK ρ' J' Y a' w' me m' bs' k0 k1 k2 k3 k5 k4
    unfold al2 at hK;split at hK
    ·rename_i hres hx
     split at hK
     ·rename_i S2 hS
      cases hK;obtain⟨O2,hO2,rfl⟩:=aiA hS;have Yu:LeavesInM (FA none) 0 P fn a'.tmps (λen w'=>∃x:Bool×List Nat,en= .returned (.tuple #[])/\bI (bs++cy HB) w w'/\cI (bs++cy HB) w.heap.size (.ext x.2 (bif x.1 then Jy l.length x.2 else Jx x.2)::[]) w') a'.defers .returning w':=by
       refine Re rfl S'.D hO2 k4 λw2 h2=>?_;obtain⟨u,r1,r2⟩:=Vb (fn:=fn) (tt:=tb.tt) (v:= .sE .nil) h2 f4 (by rw[hres];rfl);obtain⟨ws,e1,e2⟩:=r2;have e2:ws=[]:=e2;subst e2;cases e1;refine⟨_,r1,(m'.1,bs'),rfl,?_⟩;obtain⟨HS,s1,s3⟩:=h2.hp;have hX2:Hs X w2:=Jm s3 λr hr'=>by simp[hr']
       have NN:q.md m' bs'∈HS++((q.md m' bs'::[])++(Y++X)):=by simp
       have s4:cI _ _ (q.md m' bs'::(HS++(Y++X))) w2:=s3.qt (List.perm_middle (a:=q.md m' bs') (l₁:=HS) (l₂:=Y++X));have hmd:q.md m' bs'= .ext bs' (bif m'.1 then Jy l.length bs' else Jx bs'):=by
        rcases k0 with⟨j1,j2,j3⟩|⟨j1,_⟩
        ·have j2:l.drop m'.2=[]:=j2
         have j3:m'.2<=l.length:=j3;have:=List.drop_eq_nil_iff.1 j2;have e:m'.2=l.length:=by omega
         show aO.ext bs' (bif m'.1 then Jy m'.2 bs' else Jx bs')=_;rw[e]
        ·show aO.ext bs' (bif m'.1 then Jy m'.2 bs' else Jx bs')=_
         rw[j1];rfl
       refine⟨akq w2 h2.si.s hX2,?_⟩;rw[← hmd];refine⟨λr hr'=>?_,λr hr' b hb=>?_,List.pairwise_singleton _ _⟩
       ·obtain rfl:=List.mem_singleton.1 hr';exact s3.holds _ NN
       ·obtain rfl:=List.mem_singleton.1 hr'
        obtain⟨o1,o2⟩:=s3.own _ NN b hb;refine⟨?_,o2⟩;rcases o1 with o1|o1
        ·left
         have o1:b∈bs++(cy HB++cy X):=o1;simp only[List.mem_append]at o1 ⊢;rcases o1 with o1|o1|o1
         ·exact .inl o1
         ·exact .inr o1
         ·exfalso
          obtain⟨s,t1,t2⟩:=bO.1 o1;exact(List.pairwise_cons.1 s4.apart).1 s (by simp[t1]) b hb t2
        ·exact .inr o1
      cases e with
      |pB=>rw[po k3];exact Yu
      |ret=>rw[Ku k3];exact Yu
      |exit i=>cases hx
      |z9 v=>cases hx
     ·cases hK
    ·cases hK
 ·cases hf
noncomputable def mkI(tb:Bp P G)(n k:Nat)(yU:Sh)(ys:Sh){B:Type}(uq:Ky G ys)(en:B->HL G (bz ys))(de:HL G (bz ys)->B)(f:HL G (bz yU)->Option (List B))(he:∀x,en (de x)=x)(hf:(LH P k).isSome=true)(hW:∀x,WYf tb n k yU ys de x=f x):It P G where
 k:=k
 yU:=yU
 n:=uq.n
 ys:=ys
 B:=B
 en:=en
 f:=f
 fn:=by
  cases h:LH P k with
  |none=>rw[h]at hf;cases hf
  |some fi=>exact Ib h
 ok:=ai4 uq he hW
theorem Pd{α β ζ:Type}(B:β->(α->Option ζ)->α->Option ζ):∀(n:Nat) (i:α) (b:β),cJ (λkk x b=>B b (λx=>kk x b) x) n i b=eU (B b) n i
 |0,_,_ =>rfl
 |n+1,i,b=>by show B b (λx=>cJ (λkk x b=>B b (λx=>kk x b) x) n x b) i=B b (eU (B b) n) i;have:(λx=>cJ (λkk x b=>B b (λx=>kk x b) x) n x b)=eU (B b) n:=funext λx=>Pd B n x b;rw[this]
theorem aiS{b:Bool}{m:Option Bool}:cn b (bd m λx=>some x) (some false)=cl (b==true) m default λx=>some (b&&x):=by
 cases b with
 |false=>rfl
 |true=>cases m<;>rfl
theorem VP{α:Type}{i:Int}{k:Option α}:gu (i==i) k=k:=by simp[gu]
theorem aeK{Z:Type}{tb:Bp P G}{n:Nat}{s:Fs}{f v:HI G s->Option Z}{um:HL G (bz s.dZ)->Z}{mu:Z->HL G (bz s.dZ)}(e1:∀y,mu (um y)=y)(hW:∀x,Wf tb n s (λy=>some (um y)) (λ_ =>none) x=v x)(hle:∀x z,f x=some z->v x=some z):UO P s (RV s f mu) (λ_ _ =>False):=by have h0:=RC (P:=P) (mu:=mu) e1 hW;intro ρ J HS HK X w vs x hv hO hrd hp hk hfr;obtain⟨a1,_⟩:=h0 ρ J HS HK X w vs x hv hO hrd hp hk hfr;refine⟨λy h=>?_,λy h=>h.elim⟩;obtain⟨z,h,hz⟩:=h;exact a1 y ⟨z,hle x z h,hz⟩
def afP{Z:Type}(tb:Bp P G)(n:Nat)(s:Fs)(f v:HI G s->Option Z)(um:HL G (bz s.dZ)->Z)(mu:Z->HL G (bz s.dZ))(zz:Z)(e1:∀y,mu (um y)=y)(hf:(LH P s.k).isSome=true)(hW:∀x,Wf tb n s (λy=>some (um y)) (λ_ =>none) x=v x)(hle:∀x z,f x=some z->v x=some z):Ct P G:=XV s f mu zz hf (aeK e1 hW hle)
end Go.Rw
