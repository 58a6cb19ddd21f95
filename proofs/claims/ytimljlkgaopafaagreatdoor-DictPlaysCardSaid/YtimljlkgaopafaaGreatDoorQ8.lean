/- Part 8 of what a proof leans on; pruned and shortened by a program out of longer texts. -/
import Derived.Test.YtimljlkgaopafaaGreatDoorQ7
namespace Go.Rw
open Go Go.Bw Go.RowKit
variable {G:Sg} {P:Program} {N:Nat} {C:CC G}
def exR(J:World->Prop)(ρ:bh):Ex G->Exit->Prop
 | .jK, .normal=>True
 | .exit i, .exit j=>i=j
 | .ret, .ret=>True
 | .wY v, .panic ch=>∃u,ch=[{v:=u,recovered:=false}]/\rv J ρ v u
 |_,_ =>False
def LPr(P:Program)(c:Cx)(x:Code)(Q:Exit->Act->World->Prop)(a:Act)(w:World):Prop:=∀(b:Frame) (k:List Item) (cs:List Frame),b.roundOf=(FA c.ro).round->(FA c.ro).fn b.fn->(FA c.ro).room (cs.length+1+0)-> ∃e a' w',Q e a' w'/\ArrivesIn (Machine.fenced P (FA c.ro)) P (lone (b.atR a (.code x:: .inLoop x::k)) cs w) b k cs e a' w'
def Rn(P:Program)(c:Cx):Cf->(Exit->Act->World->Prop)->Act->World->Prop
 | .code x,Q,a,w=>x.wpIn (FA c.ro) 0 P Q a w
 | .ops all l,Q,a,w=>wpListIn (FA c.ro) 0 P all Q l a w
 | .lp x,Q,a,w=>LPr P c x Q a w
def Aft(c:Cx)(N:Nat)(C:CC G)(ρ:bh)(J:World->Prop)(HK X:List aE)(n:Nat)(S':AS G)(e:Ex G)(Q:Exit->Act->World->Prop):Prop:=∀(ρ':bh) (J':World->Prop) (Y:List aE) (a':Act) (w':World) (me:Exit),ρ.to ρ' n->(∀w,J' w->J w)->exR J' ρ' e me->Rl c N ρ' J' HK (Y++X) C S' a' w'->Q me a' w'
def US(P:Program)(N:Nat)(C:CC G)(cf:Cf)(S S':AS G)(e:Ex G):Prop:=∀(c:Cx) (ρ:bh) (J:World->Prop) (HK X:List aE) (a:Act) (w:World) (Q:Exit->Act->World->Prop),Rl c N ρ J HK X C S a w->Aft c N C ρ J HK X S.nx S' e Q->Rn P c cf Q a w
theorem Aft.here{c:Cx}{ρ:bh}{J:World->Prop}{HK X:List aE}{S:AS G}{e:Ex G}{Q:Exit->Act->World->Prop}{a:Act}{w:World}{me:Exit}{n:Nat}(h:Aft c N C ρ J HK X n S e Q)(hr:Rl c N ρ J HK X C S a w)(he:exR J ρ e me):Q me a w:=
 h ρ J [] a w me (bh.ef _ _) (λ_ h=>h) he hr
theorem Aft.iH{c:Cx}{ρ ρ1:bh}{J J1:World->Prop}{HK X Y:List aE}{S:AS G}{e:Ex G}{Q:Exit->Act->World->Prop}{n m:Nat}(h:Aft c N C ρ J HK X n S e Q)(h1:ρ.to ρ1 n)(h2:∀w,J1 w->J w)(hn:n<=m):Aft c N C ρ1 J1 HK (Y++X) m S e Q:=
 λρ' J' Y' a' w' me k1 k2 k3 k4=>h ρ' J' (Y'++Y) a' w' me (h1.trans k1 hn) (λw q=>h2 w (k2 w q)) k3 (by rw[List.append_assoc];exact k4)
theorem jE{J:World->Prop}{ρ:bh}{me:Exit}(h:exR (G:=G) J ρ .jK me):me= .normal:=by cases me<;>first|rfl|exact h.elim
theorem G9{J:World->Prop}{ρ:bh}{me:Exit}(h:exR (G:=G) J ρ .ret me):me= .ret:=by cases me<;>first|rfl|exact h.elim
theorem IK{J:World->Prop}{ρ:bh}{i:Nat}{me:Exit}(h:exR (G:=G) J ρ (.exit i) me):me= .exit i:=by cases me<;>first|exact h.elim|(have h:i=_ :=h;rw[h])
theorem Ry{J:World->Prop}{ρ:bh}{v:AV G}{me:Exit}(h:exR J ρ (.wY v) me):∃u,me= .panic [{v:=u,recovered:=false}]/\rv J ρ v u:=by cases me<;>first|exact h.elim|(obtain⟨u,rfl,h⟩:=h;exact⟨u,rfl,h⟩)
theorem nZ{J:World->Prop}{ρ:bh}{e:Ex G}{me:Exit}(he:e≠ .jK)(h:exR J ρ e me):me≠ .normal:=by
 intro q;subst q;cases e with
 |jK=>exact he rfl
 |_ =>exact h.elim
theorem nh{K:Act->World->Prop}{Q:Exit->Act->World->Prop}{me:Exit}{a:Act}{w:World}(hm:me≠ .normal)(h:Q me a w):Exit.then K Q me a w:=by cases me<;>first|exact absurd rfl hm|exact h
theorem acr{x y:Code}{S S1 S2:AS G}{e:Ex G}(h1:US P N C (.code x) S S1 .jK)(h2:US P N C (.code y) S1 S2 e)(hn:S.nx<=S1.nx):US P N C (.code (.seq x y)) S S2 e:=by intro c ρ J HK X a w Q hr hq;refine wpIn_seq (h1 c ρ J HK X a w _ hr λρ' J' Y a' w' me k1 k2 k3 k4=>?_);rw[jE k3];exact h2 c ρ' J' HK (Y++X) a' w' Q k4 (hq.iH k1 k2 hn)
theorem oS{x y:Code}{S S1:AS G}{e:Ex G}(h1:US P N C (.code x) S S1 e)(he:e≠ .jK):US P N C (.code (.seq x y)) S S1 e:=by intro c ρ J HK X a w Q hr hq;refine wpIn_seq (h1 c ρ J HK X a w _ hr λρ' J' Y a' w' me k1 k2 k3 k4=>?_);exact nh (nZ he k3) (hq ρ' J' Y a' w' me k1 k2 k3 k4)
theorem oT{P:Program}{b:Frame}{a:Act}{k:List Item}{cs:List Frame}{w:World}{c:Code}:Go.step P (lone (b.atR a (.code (.scope c)::k)) cs w)= .next (lone (b.atR a (.code c:: .inScope c::k)) cs w):=
 step_lone_go (by simp[stepG,stepG.exec,Frame.atR])
theorem JO{P:Program}{b:Frame}{a:Act}{k:List Item}{cs:List Frame}{w:World}{c:Code}:Go.step P (lone (b.atR a (.inScope c::k)) cs w)= .next (lone (b.atR a k) cs w):=
 step_lone_go (by simp[stepG,stepG.exec,Frame.atR])
theorem OF{F:Fence}{n:Nat}{P:Program}{Q:Exit->Act->World->Prop}{a:Act}{w:World}{c:Code}(h:c.wpIn F n P (λe a w=>(∀l,e≠ .goto l)/\Q e a w) a w):(Code.scope c).wpIn F n P Q a w:=by
 intro b k cs hro hb hr;have h0:(lone (b.atR a (.code (.scope c)::k)) cs w).fenced P F:=fenced_calm hb hr rfl;obtain⟨e,a₁,w₁,⟨hg,hq⟩,ta⟩:=h b (.inScope c::k) cs hro hb hr;cases e with
 |normal=>exact⟨.normal,a₁,w₁,hq, .head h0 oT (StepsIn.trans ta (.one (fenced_calm hb hr rfl) JO))⟩
 |exit id'=>
  have hx:exitTo id' (.inScope c::k)=exitTo id' k:=by simp[exitTo]
  exact⟨.exit id',a₁,w₁,hq,λk' hk=> .head h0 oT (ta.1 k' (by rw[hx];exact hk)),
   λhr' hk=>let⟨k₁,h1,h2⟩:=ta.2 hr' (by rw[hx];exact hk);⟨k₁,h1, .head h0 oT h2⟩⟩
 |goto l=>exact absurd rfl (hg l)
 |ret=>exact⟨_,a₁,w₁,hq, .of_steps (.one h0 oT) ta⟩
 |panic ch=>exact⟨_,a₁,w₁,hq, .of_steps (.one h0 oT) ta⟩
 |outgrown=>exact⟨_,a₁,w₁,hq, .of_steps (.one h0 oT) ta⟩
theorem UC{x:Code}{S S1:AS G}{e:Ex G}(h1:US P N C (.code x) S S1 e):US P N C (.code (.scope x)) S S1 e:=by intro c ρ J HK X a w Q hr hq;refine OF (h1 c ρ J HK X a w _ hr λρ' J' Y a' w' me k1 k2 k3 k4=>⟨λl q=>?_,hq ρ' J' Y a' w' me k1 k2 k3 k4⟩);subst q;cases e<;>exact k3.elim
theorem zh{x:Code}{i:Nat}{S S1:AS G}{e e':Ex G}(h1:US P N C (.code x) S S1 e)(he:(e= .exit i/\e'= .jK)\/(e'=e/\e≠ .exit i)):US P N C (.code (.block i x)) S S1 e':=by
 intro c ρ J HK X a w Q hr hq;refine wpIn_block (h1 c ρ J HK X a w _ hr λρ' J' Y a' w' me k1 k2 k3 k4=>?_);rcases he with⟨rfl,rfl⟩|⟨rfl,hne⟩
 ·rw[IK k3]
  simpa[Exit.inBlock]using hq ρ' J' Y a' w' .normal k1 k2 trivial k4
 ·have:=hq ρ' J' Y a' w' me k1 k2 k3 k4
  cases me with
  |exit j=>
   cases e' with
   |exit i'=>have e:i'=j:=k3;subst e;have:¬i'=i:=λq=>hne (by rw[q]);simpa[Exit.inBlock,this]using hq ρ' J' Y a' w' _ k1 k2 k3 k4
   |_ =>exact k3.elim
  |_ =>exact this
theorem Ie{c:Cx}{x:Code}{Q:Exit->Act->World->Prop}{a:Act}{w:World}(h:LPr P c x Q a w):(Code.loop x).wpIn (FA c.ro) 0 P Q a w:=λb k cs hro hb hr=>by obtain⟨e,a',w',hq,ta⟩:=h b k cs hro hb hr;exact⟨e,a',w',hq, .of_steps (.one (fenced_calm hb hr rfl) stepR_loop) ta⟩
theorem Dq{c:Cx}{x:Code}{Q:Exit->Act->World->Prop}{a:Act}{w:World}(h:x.wpIn (FA c.ro) 0 P (Exit.then (LPr P c x Q) Q) a w):LPr P c x Q a w:=λb k cs hro hb hr=>by
 obtain⟨e,a₁,w₁,hq,ta⟩:=h b (.inLoop x::k) cs hro hb hr;cases e with
 |normal=>obtain⟨e₂,a₂,w₂,hq₂,W3⟩:=hq b k cs hro hb hr;exact⟨e₂,a₂,w₂,hq₂, .of_steps (StepsIn.trans ta (.one (fenced_calm hb hr rfl) stepR_inLoop)) W3⟩
 |exit id=>exact⟨_,a₁,w₁,hq, .pass (x:= .inLoop x) rfl (λ_ _ => .inl (by simp)) ta⟩
 |goto l=>exact⟨_,a₁,w₁,hq, .pass (x:= .inLoop x) rfl (λ_ _ => .inl (by simp)) ta⟩
 |ret=>exact⟨_,a₁,w₁,hq, .pass (x:= .inLoop x) rfl (λ_ _ => .inl (by simp)) ta⟩
 |panic ch=>exact⟨_,a₁,w₁,hq, .pass (x:= .inLoop x) rfl (λ_ _ => .inl (by simp)) ta⟩
 |outgrown=>exact⟨_,a₁,w₁,hq, .pass (x:= .inLoop x) rfl (λ_ _ => .inl (by simp)) ta⟩
theorem afQ{x:Code}{S S1:AS G}{e:Ex G}(h:US P N C (.lp x) S S1 e):US P N C (.code (.loop x)) S S1 e:=λc ρ J HK X a w Q hr hq=>Ie (h c ρ J HK X a w Q hr hq)
theorem OM{x:Code}{S S1 S2:AS G}{e:Ex G}(h1:US P N C (.code x) S S1 .jK)(h2:US P N C (.lp x) S1 S2 e)(hn:S.nx<=S1.nx):US P N C (.lp x) S S2 e:=by intro c ρ J HK X a w Q hr hq;refine Dq (h1 c ρ J HK X a w _ hr λρ' J' Y a' w' me k1 k2 k3 k4=>?_);rw[jE k3];exact h2 c ρ' J' HK (Y++X) a' w' Q k4 (hq.iH k1 k2 hn)
theorem BP{x:Code}{S S1:AS G}{e:Ex G}(h1:US P N C (.code x) S S1 e)(he:e≠ .jK):US P N C (.lp x) S S1 e:=by intro c ρ J HK X a w Q hr hq;refine Dq (h1 c ρ J HK X a w _ hr λρ' J' Y a' w' me k1 k2 k3 k4=>?_);exact nh (nZ he k3) (hq ρ' J' Y a' w' me k1 k2 k3 k4)
theorem acs{all:Array Oper}{S:AS G}:US P N C (.ops all []) S S .jK:=λ_ _ _ _ _ _ _ _ hr hq=>hq.here hr trivial
def Oy(N:Nat)(all:Array Oper)(C:CC G)(S:AS G)(o:Oper):Prop:=∀(c:Cx) (ρ:bh) (J:World->Prop) (HK X:List aE) (a:Act) (w:World),Rl c N ρ J HK X C S a w->Region.wanted o (yielded all a.tmps)=true
theorem Oy.none{all:Array Oper}{o:Oper}{S:AS G}(h:o.guard=none):Oy N all C S o:=λ_ _ _ _ _ _ _ _ =>by simp[Region.wanted,h]
theorem Zh{all:Array Oper}{r:List Oper}{o:Oper}{S S1 S2 S3:AS G}{v:AV G}{e:Ex G}(hg:Oy N all C S o)(h:SK P o C S S1 v)(hp:vO N C o.dst v S1=some S2)(h2:US P N C (.ops all r) S2 S3 e)(hn:S.nx<=S1.nx)(hv:∀j w x,v≠ .gd j w x):US P N C (.ops all (o::r)) S S3 e:=by
 intro c ρ J HK X a w Q hr hq;refine wpListIn_step λK hK=>?_;rw[akd (hg c ρ J HK X a w hr)];refine h c N ρ J HK X a w K Q hr λρ' J' Y w' u k1 k0 k2 k3=>hK _ _ ?_;refine h2 c ρ' J' HK (Y++X) _ w' Q (k3.put hp ?_) ?_
 ·cases v with
  |gd j w x=>exact absurd rfl (hv j w x)
  |_ =>exact k2
 ·have:S2.nx=S1.nx:=by
   cases hd:o.dst with
   |none=>rw[hd]at hp;cases hp;rfl
   |some d=>
    rw[hd]at hp;simp only[vO]at hp;cases hb:(Nat.blt d N&&(LR d S1.F&&Nl d C)&&KX d v)with
    |false=>rw[hb]at hp;cases hp
    |true=>rw[hb]at hp;cases hp;rfl
  exact hq.iH k1 k0 (by omega)
theorem oh{d:Option Tmp}{v:AV G}{S S':AS G}(hp:vO N C d v S=some S'):S'.nx=S.nx:=by
 cases d with
 |none=>cases hp;rfl
 |some d=>
  simp only[vO]at hp;cases hb:(Nat.blt d N&&(LR d S.F&&Nl d C)&&KX d v)with
  |false=>rw[hb]at hp;cases hp
  |true=>rw[hb]at hp;cases hp;rfl
theorem ahp{Z:Type}:∀{gs:List Bool} {k:Option Z} {z:Z},guW gs k=some z->(∀b∈gs,b=true)/\k=some z:=by
 intro gs
 induction gs with
 |nil=>intro k z h;exact⟨by simp,h⟩
 |cons b r ih=>intro k z h;obtain⟨h1,h2⟩:=qo h;obtain⟨h3,h4⟩:=ih h2;exact⟨by simpa[h1]using h3,h4⟩
theorem ahq{Z:Type}{g:Bool}:∀{gs:List Bool} {k:Option Z} {z:Z},guG g gs k=some z->(g=true->∀b∈gs,b=true)/\k=some z:=by
 intro gs
 induction gs with
 |nil=>intro k z h;exact⟨by simp,h⟩
 |cons b r ih=>intro k z h;obtain⟨h1,h2⟩:=qo h;obtain⟨h3,h4⟩:=ih h2;exact⟨λhg=>by have:=Im h1 hg;simpa[this]using h3 hg,h4⟩
theorem O8{c:Cx}{ρ:bh}{J:World->Prop}{HK X:List aE}{S:AS G}{a:Act}{w:World}{ch:List (Nat×Bool)}{y z:Operand}{v:AV G}{d:Option Tmp}{ty:TypeId}{ps:String}{af:Array Edge}{g:Option (Nat×Bool)}{j:Nat}{b:Bool}
  (h:Rl c N ρ J HK X C S a w)(hc:∀q∈ch,a.tmps[q.1]? =some (.bool q.2))(ex:a.eval (.tmp j)= .bool b)(hj:a.tmps[j]? =some (.bool b))(hp:LD C S ch j b y z=some v):Ch P c J ρ ⟨d, .pick (.tmp j) y z,ty,ps,af,g⟩ a w v:=by
 have hE:=dk h hc;have hcb:∀b:Bool,a.eval (.const (.bool b))= .bool b:=λ_ =>rfl;unfold LD at hp;split at hp
 ·split at hp
  ·rename_i k x hy _
   split at hp
   ·rename_i u hu
    cases hb:Nat.beq k j with
    |false=>rw[hb]at hp;cases hp
    |true=>
     rw[hb]at hp;cases hp;obtain rfl:=akf hb;refine⟨.bool (b&&u),rfl,VK.run (by simp) ?_⟩;have hr:=h.ev hy;cases b with
     |false=>simp[execOp,ex,hcb,asBool]
     |true=>have:=Cc hu (hr.1 hj);simp[execOp,ex,this,asBool]
   ·cases hp
  ·rename_i x _ hy
   split at hp
   ·rename_i u hu
    cases hp;have ey:=Cc hu (hE.ok _ _ hy);refine⟨.bool (b&&u),rfl,VK.run (by simp) ?_⟩;cases b<;>simp[execOp,ex,ey,hcb,asBool]
   ·cases hp
  ·cases hp
 ·split at hp
  ·rename_i k x hy _
   split at hp
   ·rename_i u hu
    cases hb:Nat.beq k j with
    |false=>rw[hb]at hp;cases hp
    |true=>
     rw[hb]at hp;cases hp;obtain rfl:=akf hb;refine⟨.bool (b||u),rfl,VK.run (by simp) ?_⟩;have hr:=h.ev hy;cases b with
     |true=>simp[execOp,ex,hcb,asBool]
     |false=>have:=Cc hu (hr.1 hj);simp[execOp,ex,this,asBool]
   ·cases hp
  ·rename_i x _ hy
   split at hp
   ·rename_i u hu
    cases hp;have ey:=Cc hu (hE.ok _ _ hy);refine⟨.bool (b||u),rfl,VK.run (by simp) ?_⟩;cases b<;>simp[execOp,ex,ey,hcb,asBool]
   ·cases hp
  ·cases hp
 ·cases hp
theorem SM{tt:TT P G}{c:Cx}{ρ:bh}{J:World->Prop}{HK X:List aE}{S:AS G}{a:Act}{w:World}{ch:List (Nat×Bool)}{x y z:Operand}{v:AV G}{d:Option Tmp}{ty:TypeId}{ps:String}{af:Array Edge}{g:Option (Nat×Bool)}
  (h:Rl c N ρ J HK X C S a w)(hc:∀q∈ch,a.tmps[q.1]? =some (.bool q.2))(hp:O9 C S ch x y z=some v):Ch P c J ρ ⟨d, .pick x y z,ty,ps,af,g⟩ a w v:=by
 have hE:=dk h hc;unfold O9 at hp;split at hp
 ·rename_i b hx
  have ex:=Ks (hE.ok _ _ hx);refine⟨_,hE.ok _ _ hp,VK.run (by simp) ?_⟩;cases b<;>simp[execOp,ex,asBool]
 ·rename_i b j hx
  have ex:=As (hE.ok _ _ hx);have hj:a.tmps[j]? =some (a.eval (.tmp j)):=G7 a j _ (hE.ev _ _ hx);rw[ex]at hj;exact O8 h hc ex hj hp
 ·cases hp
theorem VR{tt:TT P G}{zt:ZT P G}{c:Cx}{ρ:bh}{J:World->Prop}{HK X:List aE}{S:AS G}{a:Act}{w:World}{ch:List (Nat×Bool)}{op:Op}{v:AV G}{gs:List Bool}{d:Option Tmp}{ty:TypeId}{ps:String}{af:Array Edge}{g:Option (Nat×Bool)}
  (h:Rl c N ρ J HK X C S a w)(hc:∀q∈ch,a.tmps[q.1]? =some (.bool q.2))(hp:pvA tt zt C S ch op=some (gs,v))(hg:∀b∈gs,b=true):Ch P c J ρ ⟨d,op,ty,ps,af,g⟩ a w v:=by
 unfold pvA at hp;split at hp
 ·split at hp
  ·rename_i v' hv;cases hp;exact SM (tt:=tt) h hc hv
  ·cases hp
 ·obtain⟨HS,_,_,hm⟩:=h.st
  have:=VM (d:=d) (ty:=ty) (ps:=ps) (af:=af) (g:=g) hm (dk h hc) hp;exact this
 ·obtain⟨HS,_,_,hm⟩:=h.st
  split at hp
  ·rename_i r hr
   cases hp;exact ZD (d:=d) (ty:=ty) (ps:=ps) (af:=af) (g:=g) hm (dk h hc) hr hg
  ·exact VA (d:=d) (ty:=ty) (ps:=ps) (af:=af) (g:=g) hm (dk h hc) hp hg
 ·obtain⟨HS,_,_,hm⟩:=h.st
  split at hp
  ·rename_i r' hr;cases hp;exact VE (d:=d) (ty:=ty) (ps:=ps) (af:=af) (g:=g) hm (dk h hc) hr hg
  ·exact Vz hm (dk h hc) hp hg
 ·obtain⟨HS,_,_,hm⟩:=h.st
  split at hp
  ·rename_i r' hr;cases hp;exact Vz hm (dk h hc) hr hg
  ·split at hp
   ·rename_i va vb hx hy;exact VJ hm (dk h hc) hp hx hy
   ·cases hp
 ·obtain⟨HS,_,_,hm⟩:=h.st
  exact Vz hm (dk h hc) hp hg
theorem Rl.since{c:Cx}{ρ:bh}{J:World->Prop}{HK X:List aE}{S:AS G}{a:Act}{w w':World}(h:Rl c N ρ J HK X C S a w)(hs:aQ [] w w'):Rl c N ρ J HK X C S a w':=by obtain⟨HS,q1,q3⟩:=h.hp;exact⟨h.tm,h.df,h.si.ext hs,h.fs,h.fc,h.kc,⟨HS,q1,q3.ext hs⟩,h.kn,h.fr⟩
theorem af1{tt:TT P G}{zt:ZT P G}{S:AS G}{op:Op}{v:AV G}{gs:List Bool}{d:Option Tmp}{ty:TypeId}{ps:String}{af:Array Edge}{g:Option (Nat×Bool)}(hp:pvA tt zt C S [] op=some (gs,v))(hg:∀b∈gs,b=true):SK P ⟨d,op,ty,ps,af,g⟩ C S S v:=by
 intro c N ρ J HK X a w next Q h hk
 obtain⟨u,h1,h2⟩:=VR (tt:=tt) (zt:=zt) (d:=d) (ty:=ty) (ps:=ps) (af:=af) (g:=g) h (by simp) hp hg;exact h2 next Q λw' hs=>hk ρ J [] w' u (bh.ef _ _) (λ_ h=>h) h1 (h.since hs)
theorem w7{all:Array Oper}{o:Oper}{a:Act}{j dj:Nat}{w:Bool}(hg:o.guard=some (j,w))(hd:IP all j=some dj):(Region.wanted o (yielded all a.tmps)=true)↔a.tmps[dj]? =some (.bool w):=by
 have:yielded all a.tmps j=match a.tmps[dj]? with
   |some (.bool b)=>some b
   |_ =>none:=by
  unfold IP at hd;simp only[yielded,hd];rfl
 simp only[Region.wanted,hg,this];cases h:a.tmps[dj]? with
 |none=>simp
 |some v=>cases v<;>simp
theorem UG{tt:TT P G}{zt:ZT P G}{all:Array Oper}{r:List Oper}{o:Oper}{S S2 S3:AS G}{v:AV G}{e:Ex G}{j dj:Nat}{w g:Bool}{gs:List Bool}(hg:o.guard=some (j,w))(hd:IP all j=some dj)(he:PE C S 8 dj w=some g)(hp:pvA tt zt C S (chain C S 8 dj w) o.op=some (gs,v))(hgs:g=true->∀b∈gs,b=true)
  (hq:vO N C o.dst (.gd dj w v) S=some S2)(h2:US P N C (.ops all r) S2 S3 e):US P N C (.ops all (o::r)) S S3 e:=by
 intro c ρ J HK X a wd Q hr hQ;refine wpListIn_step λK hK=>?_;have hwi:=w7 (a:=a) hg hd;have hge:=Rh hr 8 dj w g he;have Nz:=oh hq;have hQ':∀a' w',Rl c N ρ J HK X C S2 a' w'->wpListIn (FA c.ro) 0 P all Q r a' w':=λa' w' h3=>h2 c ρ J HK X a' w' Q h3 (hQ.iH (Y:=[]) (bh.ef _ _) (λ_ h=>h) (by omega));obtain⟨d,op,ty,ps,af,gg⟩:=o;by_cases hw:a.tmps[dj]? =some (.bool w)
 ·rw[akd (hwi.2 hw)]
  have hch:=N1 hr 8 dj w hw;obtain⟨u,k1,k2⟩:=VR (tt:=tt) (zt:=zt) (d:=d) (ty:=ty) (ps:=ps) (af:=af) (g:=gg) hr hch hp (hgs (hge.1 hw));refine k2 K Q λw' hs=>hK _ _ (hQ' _ _ ((hr.since hs).put hq ⟨λ_ =>k1,λh=>absurd hw h⟩))
 ·have:Region.wanted (⟨d,op,ty,ps,af,gg⟩:Oper) (yielded all a.tmps)=false:=by
   cases hb:Region.wanted (⟨d,op,ty,ps,af,gg⟩:Oper) (yielded all a.tmps)with
   |true=>exact absurd (hwi.1 hb) hw
   |false=>rfl
  rw[ake (by rw[this];simp)];exact⟨λ_ _ =>trivial,hK _ _ (hQ' _ _ (hr.put hq ⟨λh=>absurd h hw,λ_ =>rfl⟩))⟩
theorem Oy.abP{all:Array Oper}{o:Oper}{S:AS G}{j dj:Nat}{w:Bool}(hg:o.guard=some (j,w))(hd:IP all j=some dj)(hk:YR C S 8 dj w=some true):Oy N all C S o:=λ_ _ _ _ _ _ _ h=>(w7 hg hd).2 ((Mh h 8 dj w true hk).2 rfl)
theorem Zd{all:Array Oper}{r:List Oper}{o:Oper}{S S2 S3:AS G}{e:Ex G}{j dj:Nat}{w:Bool}(hg:o.guard=some (j,w))(hd:IP all j=some dj)(hk:YR C S 8 dj w=some false)(hq:vO N C o.dst (.gd dj w .QA) S=some S2)(h2:US P N C (.ops all r) S2 S3 e):US P N C (.ops all (o::r)) S S3 e:=by
 intro c ρ J HK X a wd Q hr hQ;refine wpListIn_step λK hK=>?_;have Nz:=oh hq;have hw:¬a.tmps[dj]? =some (.bool w):=λq=>by have:=(Mh hr 8 dj w false hk).1 q;cases this
 have:Region.wanted o (yielded all a.tmps)=false:=by
  cases hb:Region.wanted o (yielded all a.tmps)with
  |true=>exact absurd ((w7 hg hd).1 hb) hw
  |false=>rfl
 rw[ake (by rw[this];simp)];exact⟨λ_ _ =>trivial,hK _ _ (h2 c ρ J HK X _ _ Q (hr.put hq ⟨λh=>absurd h hw,λ_ =>rfl⟩) (hQ.iH (Y:=[]) (bh.ef _ _) (λ_ h=>h) (by omega)))⟩
theorem Qy{cf:Cf}{S S3:AS G}{e:Ex G}{j k:Nat}{b:Bool}(hk:KW C S 8 j=some (k,b))(h:US P N C cf {S with F:=(k, .kb b)::S.F} S3 e):US P N C cf S S3 e:=by
 intro c ρ J HK X a w Q hr hq;have hb:=NF hr 8 j k b hk;refine h c ρ J HK X a w Q ⟨hr.tm,hr.df,hr.si,λd v e=>?_,hr.fc,hr.kc,hr.hp,hr.kn,hr.fr⟩ hq;simp only[dm]at e;cases hd:Nat.beq k d with
 |true=>rw[hd]at e;cases e;obtain rfl:=akf hd;exact⟨_,hb,rfl⟩
 |false=>rw[hd]at e;exact hr.fs d v e
def qe(P:Program){Z:Type}(rec:WT G Z):Prop:=∀(N:Nat) (cp:List Nat) (C:CC G) (cf:Cf) (S:AS G) (K:Ex G->AS G->Option Z) (z:Z),rec N cp C cf S K=some z->∃e S',K e S'=some z/\S.nx<=S'.nx/\US P N C cf S S' e
section
variable {Z:Type} {tb:wS P G} {rec:WT G Z} {cp:List Nat} {all:Array Oper} {r:List Oper} {K:Ex G->AS G->Option Z} {z:Z}
theorem dF(bJ:qe P rec){o:Oper}{S S1:AS G}{v:AV G}(hg:Oy N all C S o)(hk:SK P o C S S1 v)(hn:S.nx<=S1.nx)(h:gF rec N cp C all r o.dst v S1 K=some z):∃e S',K e S'=some z/\S.nx<=S'.nx/\US P N C (.ops all (o::r)) S S' e:=by
 unfold gF at h;split at h
 ·rename_i S2 hp
  cases hb:wF v with
  |false=>rw[hb]at h;cases h
  |true=>rw[hb]at h;obtain⟨e,S3,h1,h2,h3⟩:=bJ _ _ _ _ _ _ _ h;have:=oh hp;exact⟨e,S3,h1,by omega,Zh hg hk hp h3 hn λj w x q=>by rw[q]at hb;cases hb⟩
 ·cases h
theorem Rj{J:World->Prop}{ρ:bh}:∀{v:AV G} {i:Nat} {us:List Value} {d:Nat} {x:AV G},rl J ρ v us->dm (wO i v) d=some x->∃u,i<=d/\us[d-i]? =some u/\rv J ρ x u:=by
 intro v
 induction v with
 |cons a b _ sB=>
  intro i us d x hr h;obtain⟨u,q,rfl,h1,h2⟩:=hr;simp only[wO,dm]at h;cases hb:Nat.beq i d with
  |true=>rw[hb]at h;cases h;obtain rfl:=akf hb;exact⟨u,Nat.le_refl _,by simp,h1⟩
  |false=>rw[hb]at h;obtain⟨u',k1,k2,k3⟩:=sB h2 h;refine⟨u',by omega,?_,k3⟩;rw[show d-i=(d-(i+1))+1 from by omega];simpa using k2
 |_ =>intro i us d x _ h;cases h
theorem Q4{J:World->Prop}{ρ:bh}:∀{v:AV G} {us:List Value},pb v=true->rl J ρ v us->us.length=zD v:=by
 intro v
 induction v with
 |cons x y _ sB=>intro us hl h;obtain⟨u,q,rfl,_,k2⟩:=h;simp[zD,sB hl k2]
 |nil=>intro us _ h;have:us=[]:=h;subst this;rfl
 |_ =>intro us hl;cases hl
theorem M7{J:World->Prop}{ρ:bh}{v:AV G}{u:Value}(h:rv J ρ v u)(t:Array Value):rf J ρ t v u:=by
 cases v with
 |gd j w v=>exact h.elim
 |_ =>exact h
theorem Xg{k:Nat}{fi:FI}(h:D1 P k=some fi):∃fn,P.funcs[k]? =some fn/\fn.body=some fi.code/\fn.ntmps=fi.N/\fn.results.toList=fi.Bq/\(fn.name== "runtime.NumGoroutine")=false:=by
 unfold D1 at h;split at h
 ·rename_i fn h1
  split at h
  ·rename_i code h2
   cases hb:(fn.name== "runtime.NumGoroutine")with
   |true=>rw[hb]at h;cases h
   |false=>rw[hb]at h;cases h;exact⟨fn,h1,h2,rfl,rfl,hb⟩
  ·cases h
 ·cases h
theorem QH{tt:TT P G}{c:Cx}{ρ:bh}{J:World->Prop}{HK X:List aE}{S:AS G}{a:Act}{w:World}{r:ResultVar}{v:AV G}(h:Rl c N ρ J HK X C S a w)(e:Zz tt C S r=some v):∃u,(ux a.tmps r).run P w= .ok u w/\rv J ρ v u:=by
 have hE:=dk h (ch:=[]) (by simp);have aj6:∀{t:Nat} {x:AV G},gv C S [] (.tmp t)=some x->a.tmps.getD t undef=a.eval (.tmp t):=λ_ =>rfl;cases r with
 |tmp t=>exact⟨a.eval (.tmp t),rfl,hE.ok _ _ e⟩
 |cell t ty=>
  simp only[Zz]at e;split at e
  ·rename_i r hx
   split at e
   ·rename_i T cc ho
    cases hb:wP tt ty cc with
    |false=>rw[hb]at e;cases e
    |true=>
     rw[hb]at e;cases e;obtain⟨HS,_,hst,hm⟩:=h.st;obtain⟨y,hy,b,u,m1,rfl,m3⟩:=hm.ob _ _ ho;obtain⟨b',o',e1,e2,_⟩:=pO (hE.ok _ _ hx);have eb:b'=b/\o'=0:=by rcases e1 with h1|⟨n,cap,_,_,_,_,h1,_⟩<;>rw[h1]at m1<;>simp[dO]at m1;exact m1
     obtain⟨rfl,rfl⟩:=eb;have hcell:=λj=>q7 (hst.hp.holds _ hy) j;have hrun:∀u',(loadVar ty ⟨b',0,none⟩).run P w= .ok u' w->(ux a.tmps (.cell t ty)).run P w= .ok u' w:=λu' hu=>by have e3:a.tmps.getD t undef=dO b' 0:=e2;simp only[ux,e3,asAddr,Sem.run_bind,Sem.run_pure,Result.andThen_ok,hu]
     rcases EV hb m3 with⟨k1,k2,_⟩|⟨n,k1,k2,_,k4⟩
     ·haveI:=k1
      refine⟨u,hrun u (lq ?_),m3⟩;rw[hcell,k2];rfl
     ·haveI:=k1
      have e4:u= .agg u.cells.toList.toArray:=by rw[Array.toArray_toList];exact k4
      refine⟨.agg u.cells.toList.toArray,hrun _ (lu (n:=n) (by simpa using k2) λj v hv=>?_),by rw[← e4];exact m3⟩;rw[Nat.zero_add,hcell];exact hv
   ·cases e
  ·cases e
theorem ZA{tt:TT P G}{c:Cx}{ρ:bh}{J:World->Prop}{HK X:List aE}{S:AS G}{a:Act}{w:World}(h:Rl c N ρ J HK X C S a w):∀{l:List ResultVar} {v:AV G},ZB tt C S l=some v->∃us,(l.mapM (ux a.tmps)).run P w= .ok us w/\rl J ρ v us/\us.length=l.length:=by
 intro l
 induction l with
 |nil=>intro v e;cases e;exact⟨[],by simp,rfl,rfl⟩
 |cons r q ih=>
  intro v e;simp only[ZB]at e;split at e
  ·rename_i v1 l1 h1 h2
   cases e;obtain⟨u,k1,k2⟩:=QH h h1;obtain⟨us,k3,k4,k5⟩:=ih h2;exact⟨u::us,by simp only[List.mapM_cons,Sem.run_bind,k1,Sem.run_pure,Result.andThen_ok,k3],⟨_,_,rfl,k2,k4⟩,by simp[k5]⟩
  ·cases e
theorem QI{tt:TT P G}{c:Cx}{ρ:bh}{J:World->Prop}{HK X:List aE}{S:AS G}{a:Act}{w:World}{fn:Func}{l:List ResultVar}{v:AV G}(h:Rl c N ρ J HK X C S a w)(hf:fn.results.toList=l)(e:ED tt C S l=some v):∃u,(results fn a.tmps).run P w= .ok u w/\rv J ρ v u:=by
 unfold ED at e;have key:∀us,(l.mapM (ux a.tmps)).run P w= .ok us w->(results fn a.tmps).run P w= .ok (BT us) w:=λus hk=>by
  have hr:fn.results=l.toArray:=by rw[← hf]
  show(do let vs ← fn.results.mapM (ux a.tmps);pure (if h:vs.size=1 then vs[0]else .tuple vs):Sem Value).run P w=_;rw[hr,List.mapM_toArray];simp only[Sem.run_bind,Sem.run_map,hk,Result.andThen_ok]
  match us with
  |[]=>simp[BT]
  |[v]=>simp[BT]
  |u::v::r=>simp[BT]
 split at e
 ·rename_i r
  obtain⟨u,k1,k2⟩:=QH h e;exact⟨u,key [u] (by simp only[List.mapM_cons,List.mapM_nil,Sem.run_bind,k1,Sem.run_pure,Result.andThen_ok]),k2⟩
 ·rename_i hne
  split at e
  ·rename_i x hx
   cases e;obtain⟨us,k1,k2,k3⟩:=ZA h hx;refine⟨BT us,key _ k1,us,?_,k2⟩
   match us,k3 with
   |[],_ =>rfl
   |[v],k3=>
    exfalso
    match l,k3,hne with
    |[r],_,hne=>exact hne r rfl
   |u::v::r,_ =>rfl
  ·cases e
theorem V6{D:List (AV G)}(h:V7 D=true):D=[]:=by cases D with
 |nil=>rfl
 |cons _ _ =>cases h
theorem Nu{fn:Func}{R:Ending->World->Prop}{c:Cx}{ρ:bh}{J:World->Prop}{HK X:List aE}{F:Fr G}{nx:Nat}{C:CC G}{N:Nat}(hC:dfC C=[]):∀(D:List (AV G)) {O O2:Os G} {a:Act} {w:World},Xu D O=some O2->Rl c N ρ J HK X C ⟨F,O,nx,D⟩ a w->
  (∀w2,Rl c N ρ J HK X C ⟨F,O2,nx,[]⟩ {a with defers:=[]} w2->LeavesInM (FA none) 0 P fn a.tmps R [] .returning w2)->LeavesInM (FA none) 0 P fn a.tmps R a.defers .returning w:=by
 intro D
 induction D with
 |nil=>intro O O2 a w e h k;have df:=h.df;rw[hC]at df;cases e;obtain⟨t,d⟩:=a;cases df;exact k w h
 |cons v D ih=>
  intro O O2 a w e h k;unfold Xu at e;split at e
  ·rename_i h0;cases h0
  ·rename_i O' r D' h0
   obtain⟨rfl,rfl⟩:=List.cons.inj h0;split at e
   ·rename_i ho
    obtain⟨tm,df,si,fs,fc,kc,⟨HS,q1,q3⟩,kn,fr⟩:=h;rw[hC]at df;obtain⟨t,d⟩:=a;cases df with
    |cons hd k2=>
    rename_i D0;obtain⟨_,b,hb,rfl⟩:=hd;obtain⟨kk,x,k1,⟨n,o,m1,rfl,m3⟩,k3⟩:=q1.del ho;rw[hb]at m1;have m1:b=n:=by cases m1;rfl
    subst m1;have m3:o= .deferred (some []):=m3;subst m3;have q4:=q3.j9 (pP k1 _);have hm:aE.obj b (.deferred (some []))∈(aE.obj b (.deferred (some []))::(HS.eraseIdx kk++(HK++X))):=List.mem_cons_self;have hd:w.heap[b]? =some (.deferred (some [])):=q4.holds _ hm;have hlt:=(akl.1 hd).1;have jb:aQ [b] w (w.putObj b (.deferred none)):=⟨rfl,rfl,rfl,by simp[World.putObj],λk _ hk=>World.putObj_heap_other (by simpa using hk)⟩;refine⟨by simp, .inl ⟨b,_,rfl,run_takeDeferred hd,?_⟩⟩;refine ih (a:=⟨t,D0⟩) e ⟨tm,by rw[hC];exact k2,⟨si.s.store q4 hm (by simp[aE.cI]) jb,si.n⟩,fs,fc,kc,⟨HS.eraseIdx kk,k3,?_⟩,kn,fr⟩ k;have q5:=q4.set (k:=0) (r':= .obj b (.deferred none)) rfl jb.size (λj hj hne=>jb.block j hj hne) (World.putObj_heap_same hlt) si.s.size (λb' hb'=>by
     have e:b'=b:=by simpa[aE.cI]using hb'
     subst e;exact⟨.inl (by simp[aE.cI]),by rw[World.putObj];simpa using hlt⟩)
    exact q5.sub (List.sublist_cons_self _ _)
   ·cases e
  ·cases e
theorem aec{S S2:AS G}(h:aed S=some S2):∃O2,Xu S.D S.O=some O2/\S2=⟨S.F,O2,S.nx,[]⟩:=by
 unfold aed at h;split at h
 ·rename_i O hO;cases h;exact⟨O,hO,rfl⟩
 ·cases h
def exU(J:World->Prop)(ρ:bh):Ex G->FrameMode->Prop
 | .jK, .returning=>True
 | .ret, .returning=>True
 | .wY v, .panicking ch=>∃u,ch=[{v:=u,recovered:=false}]/\rv J ρ v u
 |_,_ =>False
theorem Rx{J:World->Prop}{ρ:bh}{e:Ex G}{uw:FrameMode}(h:exU J ρ e uw)(he:exE e=true):uw= .returning:=by
 cases e<;>first|cases he|skip
 all_goals (cases uw<;>first|rfl|exact h.elim)
theorem Z9{fn:Func}{R:Ending->World->Prop}{c:Cx}{ρ:bh}{J:World->Prop}{HK X:List aE}{F:Fr G}{nx:Nat}{C:CC G}{N:Nat}{ek:Nat->List (Ek P G)}(hC:dfC C=[]):∀(D:List (AV G)) {e e':Ex G} {O O2:Os G} {a:Act} {w:World} {uw:FrameMode},oK ek e D O=some (e',O2)->
  Rl c N ρ J HK X C ⟨F,O,nx,D⟩ a w->exU J ρ e uw->(∀w2 uw2,exU J ρ e' uw2->Rl c N ρ J HK X C ⟨F,O2,nx,[]⟩ {a with defers:=[]} w2->LeavesInM (FA none) 0 P fn a.tmps R [] uw2 w2)->LeavesInM (FA none) 0 P fn a.tmps R a.defers uw w:=by
 intro D
 induction D with
 |nil=>
  intro e e' O O2 a w uw h hr hu k;have df:=hr.df;rw[hC]at df;have h:some (e,O)=some (e',O2):=by unfold oK at h;exact h
  cases h;obtain⟨t,d⟩:=a;cases df;exact k w uw hu hr
 |cons v D ih=>
  intro e e' O O2 a w uw h hr hu k;cases v<;>first|(simp[oK]at h;done)|skip
  case ptr r p=>
   cases p with
   |cons _ _ =>simp[oK]at h
   |nil=>
   simp only[oK]at h;split at h
   ·rename_i ho he
    have huw:=Rx hu he;subst huw;obtain⟨tm,df,si,fs,fc,kc,⟨HS,q1,q3⟩,kn,fr⟩:=hr;rw[hC]at df;obtain⟨t,d⟩:=a;cases df with
    |cons hd k2=>
    rename_i D0;obtain⟨_,b,hb,rfl⟩:=hd;obtain⟨kk,x,k1,⟨n,o,m1,rfl,m3⟩,k3⟩:=q1.del ho;rw[hb]at m1;have m1:b=n:=by cases m1;rfl
    subst m1;have m3:o= .deferred (some []):=m3;subst m3;have q4:=q3.j9 (pP k1 _);have hm:aE.obj b (.deferred (some []))∈(aE.obj b (.deferred (some []))::(HS.eraseIdx kk++(HK++X))):=List.mem_cons_self;have hd:w.heap[b]? =some (.deferred (some [])):=q4.holds _ hm;have hlt:=(akl.1 hd).1;have jb:aQ [b] w (w.putObj b (.deferred none)):=⟨rfl,rfl,rfl,by simp[World.putObj],λk _ hk=>World.putObj_heap_other (by simpa using hk)⟩;refine⟨by simp, .inl ⟨b,_,rfl,run_takeDeferred hd,?_⟩⟩;refine ih (a:=⟨t,D0⟩) h ⟨tm,by rw[hC];exact k2,⟨si.s.store q4 hm (by simp[aE.cI]) jb,si.n⟩,fs,fc,kc,⟨HS.eraseIdx kk,k3,?_⟩,kn,fr⟩ hu k;have q5:=q4.set (k:=0) (r':= .obj b (.deferred none)) rfl jb.size (λj hj hne=>jb.block j hj hne) (World.putObj_heap_same hlt) si.s.size (λb' hb'=>by
     have e:b'=b:=by simpa[aE.cI]using hb'
     subst e;exact⟨.inl (by simp[aE.cI]),by rw[World.putObj];simpa using hlt⟩)
    exact q5.sub (List.sublist_cons_self _ _)
   ·cases h
  case cons vf l=>
   cases vf<;>first|(simp[oK]at h;done)|skip
   rename_i ff fa cc;cases ff<;>first|(simp[oK]at h;done)|skip
   rename_i kf;cases fa<;>first|(simp[oK]at h;done)|skip
   simp only[oK]at h;split at h
   ·rename_i q qs r hek aho
    split at h
    ·rename_i T' c0 ho
     cases hb:(Nat.beq q.k kf&&(pb l&&pb cc))with
     |false=>rw[hb]at h;cases h
     |true=>
      rw[hb]at h;simp only[akg]at hb;obtain⟨Tg,hl1,hl2⟩:=hb;obtain rfl:=akf Tg;simp only[cond_true]at h;obtain⟨tm,df,si,fs,fc,kc,⟨HS,q1,q3⟩,kn,fr⟩:=hr;rw[hC]at df;obtain⟨t,d⟩:=a;cases df with
      |cons hd k2=>
      rename_i D0;obtain⟨f1,c1,l1,hf1,Tf,hl3,rfl⟩:=hd;have hf1:f1=[]:=hf1;subst hf1;have hv:=ot hl1 hl3 Tf;rw[aho]at hv;obtain⟨u,us,e1,hpu,WK⟩:=hv;have WK:us=[]:=WK;subst WK;obtain⟨⟨b0,o0,hpb,e2⟩,_⟩:=hpu;obtain⟨kk,x,k1,⟨b,u0,m1,rfl,m3⟩,k3⟩:=q1.set ho;have hub:u=dO b 0:=by
       have e2:=(List.cons.inj e2).1;rcases hpb with hpb|⟨_,_,_,_,_,_,_,hp,_⟩
       ·rw[m1]at hpb
        cases hpb;rw[e2];rfl
       ·cases hp
      subst hub;have hent:∀w,(invoke (Deferred.target {target:= .fn (.func q.k) c1.toArray,args:=([]++l1).toArray}) (Deferred.args {target:= .fn (.func q.k) c1.toArray,args:=([]++l1).toArray})).run P w= .ok (.enter q.k #[dO b 0]) w:=λw=>by
       have:([]++l1).toArray++c1.toArray= #[dO b 0]:=by rw[show(#[dO b 0]:Array Value)=[dO b 0].toArray from rfl, ← e1];simp
       simp only[invoke,this];exact q.ok.enter _ _
      have NA:aE.cells b T' u0.cells.toList∈HS++(HK++X):=akk _ (List.mem_of_getElem? k1);have hcell:w.heap[b]? =some (.cells u0.cells.toList.toArray T' (0,0)):=q3.holds _ NA;have ret:∀{e2:Ex G},oK ek e2 D O=some (e',O2)->exU J ρ e2 .returning->LeavesInM (FA none) 0 P fn t R ({target:= .fn (.func q.k) c1.toArray,args:=([]++l1).toArray}::D0) .returning w:=λ{e2} h2 hu2=>by refine⟨by simp, .inr ⟨by simp,_,_,q.k, #[dO b 0],rfl,hent w,λ_ _ =>trivial,?_⟩⟩;refine(q.ok.ret b w).mono λen u' w'=>?_;rintro⟨⟨v,rfl⟩,rfl,hs⟩;exact ih (a:=⟨t,D0⟩) h2 ⟨tm,by rw[hC];exact k2,si.ext hs,fs,fc,kc,⟨HS,q1,q3.ext hs⟩,kn,fr⟩ hu2 k
      split at h
      ·obtain rfl:=Rx hu rfl;exact ret h hu
      ·obtain rfl:=Rx hu rfl;exact ret h hu
      ·rename_i v
       split at h
       ·rename_i T x hpn
        cases hc:(Nat.beq q.T T&&isN c0.ncl q.n)with
        |false=>rw[hc]at h;cases h
        |true=>
         rw[hc]at h;simp only[akg]at hc;obtain⟨Tf,YQ⟩:=hc;obtain rfl:=akf Tf;simp only[cond_true]at h;have hlen:u0.cells.toList.length=q.n:=by
          cases hm:c0.ncl with
          |none=>rw[hm]at YQ;cases YQ
          |some m=>rw[hm]at YQ;obtain⟨u1,e3,h4,_⟩:=Ph hm m3;cases e3;rw[Array.length_toList,h4];exact akf YQ
         cases uw<;>first|exact hu.elim|skip
         rename_i ch;obtain⟨up,rfl,hup⟩:=hu;have hup:up= .iface q.T (.int .i64 x):=by
          unfold agk at hpn;split at hpn
          ·cases hpn
           obtain⟨w1,e3,h4⟩:=hup;cases e3;have h4:[w1]=[.int .i64 x]:=h4;cases h4;rfl
          ·cases hpn
           obtain⟨w1,e3,h4⟩:=hup;cases e3;have h4:[w1]=[.int .i64 x]:=h4;cases h4;rfl
          ·cases hpn
         subst hup;refine⟨by simp, .inr ⟨by simp,_,_,q.k, #[dO b 0],rfl,hent w,λ_ _ =>trivial,?_⟩⟩;refine(q.ok.wY b T' _ x w hlen hcell).mono λen u' w'=>?_;rintro⟨⟨v,rfl⟩,hu,hsi,hb'⟩;obtain⟨u2,g1,g2⟩:=q.hv J ρ x;show LeavesInM (FA none) 0 P fn t R D0 (settle u') w';rw[hu];refine ih (e:= .ret) (a:=⟨t,D0⟩) h ⟨tm,by rw[hC];exact k2,⟨si.s.store q3 NA (by simp[aE.cI]) hsi,si.n⟩,fs,fc,kc,⟨HS.set kk (.cells b T' u2.cells.toList),k3 _ _ ⟨b,u2,m1,rfl,g1⟩,?_⟩,kn,fr⟩ trivial k;have q5:=q3.set (k:=kk) (r':= .cells b T' u2.cells.toList) (qX k1) hsi.size (λj hj hn=>hsi.block j hj (by simpa[aE.cI]using hn)) (by rw[g2];exact hb') si.s.size (λb' KV=>by
          have e2:b'=b:=by simpa[aE.cI]using KV
          subst e2;exact⟨.inl (by simp[aE.cI]),Nat.lt_of_lt_of_le (akl.1 hcell).1 hsi.size⟩)
         have hkl:kk<HS.length:=(List.getElem?_eq_some_iff.1 k1).1;rwa[List.set_append_left _ _ hkl]at q5
       ·cases h
      ·cases h
    ·cases h
   ·cases h
theorem Tx{ek:Nat->List (Ek P G)}{i:Nat}{D:List (AV G)}{O O2:Os G}{e2:Ex G}(h:oK ek (.exit i) D O=some (e2,O2)):e2= .exit i:=by
 cases D with
 |nil=>
  have h:some ((.exit i:Ex G),O)=some (e2,O2):=by unfold oK at h;exact h
  cases h;rfl
 |cons v D=>
  exfalso;cases v<;>first|(simp[oK]at h;done)|skip
  case ptr r p=>
   cases p with
   |cons _ _ =>simp[oK]at h
   |nil=>simp only[oK,exE]at h;split at h<;>first|cases h|(rename_i he;cases he)
  case cons vf l=>
   cases vf<;>first|(simp[oK]at h;done)|skip
   rename_i ff fa cc;cases ff<;>first|(simp[oK]at h;done)|skip
   rename_i kf;cases fa<;>first|(simp[oK]at h;done)|skip
   simp only[oK]at h;split at h
   ·rename_i q qs r hek aho
    split at h
    ·cases hb:(Nat.beq q.k kf&&(pb l&&pb cc))with
     |false=>rw[hb]at h;cases h
     |true=>rw[hb]at h;cases h
    ·cases h
   ·cases h
theorem DH{tt:TT P G}{c:Cx}{ρ:bh}{J:World->Prop}{HK X:List aE}{S S1 S2:AS G}{ek:Nat->List (Ek P G)}{e2:Ex G}{O2:Os G}{a:Act}{w:World}{k:Nat}{fi:FI}{akc:AV G}{vs:List Value}{e1:Ex G}(hr:Rl c N ρ J HK X C S a w)(Ir:D1 P k=some fi)(hl:pb akc=true)(hn:zD akc<=fi.N)(hv:rl J ρ akc vs)
  (hU:US P fi.N [⟨[],my C,[]⟩] (.code fi.code) ⟨wO 0 akc,S.O,S.nx,[]⟩ S1 e1)(hX:oK ek e1 S1.D S1.O=some (e2,O2))(hS2:S2=⟨S1.F,O2,S1.nx,[]⟩)(he:(∃v,e2= .wY v)\/((e2= .jK\/e2= .ret)/\∃v,ED tt [⟨[],my C,[]⟩] S2 fi.Bq=some v)):
  Calls P k vs.toArray w λen w'=>∃(ρ':bh) (J':World->Prop) (Y:List aE),ρ.to ρ' S.nx/\(∀w,J' w->J w)/\Rl c N ρ' J' HK (Y++X) C {S with O:=S2.O,nx:=S2.nx} a w'/\
   ((∃v u,e2= .wY v/\en= .panicked [{v:=u,recovered:=false}]/\rv J' ρ' v u)\/((e2= .jK\/e2= .ret)/\∃v u,ED tt [⟨[],my C,[]⟩] S2 fi.Bq=some v/\en= .returned u/\rv J' ρ' v u)):=by
 obtain⟨fn,f1,f2,f3,f4,f5⟩:=Xg Ir;obtain⟨HS,q1,q3⟩:=hr.hp;have hlen:=Q4 hl hv;refine(callsIn_wide (n:=0)).1 (callsIn_of_wp_marks (F:=Fence.wide) f1 f2 trivial ?_);have hsz:(vs.toArray++Array.replicate (fn.ntmps-vs.toArray.size) undef).size=fi.N:=by simp;omega
 refine hU ⟨none,w,bF (HS++(HK++X))⟩ ρ J HK X _ w _ ⟨hsz, .nil,⟨aQ.refl _ _,λ_ =>rfl⟩,λd x e=>?_,λy hy=>?_,λr o e=>?_,⟨HS,q1,?_⟩,hr.kn,hr.fr⟩ ?_
 ·obtain⟨u,_,k2,k3⟩:=Rj hv e
  refine⟨u,?_,M7 k3 _⟩;rw[Nat.sub_zero]at k2;have hlt:=(List.getElem?_eq_some_iff.1 k2).1;rw[Array.getElem?_append_left (by simpa using hlt)];simpa using k2
 ·simp at hy
  subst hy
  exactλd v e=>by cases e
 ·have e:dm (my C++[]) r=some o:=e
  rw[List.append_nil]at e;exact hr.kc r o e
 ·exact⟨q3.holds,λr hm b hb=>⟨.inl (bg.2 ⟨r,hm,hb⟩),(q3.own r hm b hb).2⟩,q3.apart⟩
 ·intro ρ' J' Y a' w' me k1 k2 k3 k4
  have hle:=k1.le hr.fr;have Rc:∀w',Rl ⟨none,w,bF (HS++(HK++X))⟩ fi.N ρ' J' HK (Y++X) [⟨[],my C,[]⟩] S2 {a' with defers:=[]} w'->Rl c N ρ' J' HK (Y++X) C {S with O:=S2.O,nx:=S2.nx} a w':=λw' k4=>by obtain⟨OA,p1,p3⟩:=k4.hp;refine⟨hr.tm,hr.df.up k2 hle,⟨hr.si.s.trans k4.si.s λb hb=>?_,hr.si.n⟩,hr.fs.up k2 hle,hr.fc.up k2 hle,hr.Oo k2 hle,⟨OA,p1,Ma q3 hr.si.size p3⟩,k4.kn,k4.fr⟩;obtain⟨q,hq,hqb⟩:=bg.1 hb;exact(q3.own q hq b hqb).1
  subst hS2;have fin:∀(uw:FrameMode),exU J' ρ' e1 uw->LeavesInM (FA none) 0 P fn a'.tmps (λen w'=>∃(ρ':bh) (J':World->Prop) (Y:List aE),ρ.to ρ' S.nx/\(∀w,J' w->J w)/\Rl c N ρ' J' HK (Y++X) C {S with O:=O2,nx:=S1.nx} a w'/\
    ((∃v u,e2= .wY v/\en= .panicked [{v:=u,recovered:=false}]/\rv J' ρ' v u)\/((e2= .jK\/e2= .ret)/\∃v u,ED tt [⟨[],my C,[]⟩] ⟨S1.F,O2,S1.nx,[]⟩ fi.Bq=some v/\en= .returned u/\rv J' ρ' v u))) a'.defers uw w':=λuw hu=>by
   refine Z9 rfl S1.D hX k4 hu λw2 uw2 hu2 h2=>?_;rcases he with⟨v,rfl⟩|⟨he,v,hres⟩
   ·cases uw2<;>first|exact hu2.elim|skip
    obtain⟨u,rfl,hu3⟩:=hu2;exact⟨ρ',J',Y,k1,k2,Rc w2 h2, .inl ⟨v,u,rfl,rfl,hu3⟩⟩
   ·have:uw2= .returning:=by rcases he with rfl|rfl<;>exact Rx hu2 rfl
    subst this;obtain⟨u,r1,r2⟩:=QI (fn:=fn) h2 f4 hres;exact⟨u,r1,ρ',J',Y,k1,k2,Rc w2 h2, .inr ⟨he,v,u,hres,rfl,r2⟩⟩
  cases e1 with
  |jK=>rw[jE k3];exact fin _ trivial
  |ret=>rw[G9 k3];exact fin _ trivial
  |wY v=>obtain⟨u,rfl,hu⟩:=Ry k3;exact fin _ ⟨u,rfl,hu⟩
  |exit i=>have:=Tx hX;subst this;rcases he with⟨v,h⟩|⟨h|h,_⟩<;>cases h
theorem uK{a:Act}{w:World}{k:Nat}{f:Operand}{args:List Operand}{ats:Array TypeId}{fs cs us:List Value}{d:Option Tmp}{ty:TypeId}{ps:String}{af:Array Edge}{g:Option (Nat×Bool)}(hfn:∃fn,P.funcs[k]? =some fn/\fn.body.isSome=true/\(fn.name== "runtime.NumGoroutine")=false)(hf:a.eval f= .func (.func k) fs.toArray cs.toArray)(ha:args.map a.eval=us):
  (execOp a.eval ⟨d, .call ⟨.value f,args.toArray,ats⟩,ty,ps,af,g⟩).run P w= .ok (.enter k (fs++(us++cs)).toArray) w:=by
 obtain⟨fn,f1,f2,f5⟩:=hfn;have e3:fs.toArray++(args.toArray.map a.eval)++cs.toArray=(fs++(us++cs)).toArray:=by rw[← ha];simp
 have h1:fn.name≠ "runtime.NumGoroutine" :=by simpa using f5
 obtain⟨code,f2⟩:=Option.isSome_iff_exists.1 f2;simp only[execOp,resolve,hf,Deferred.ofValue,Sem.run_bind,Sem.run_pure,Result.andThen_ok,invoke,e3];simp[callFunc,f1,h1,f2,Go.mark]
theorem B0{k:Nat}{fi:FI}(h:D1 P k=some fi):∃fn,P.funcs[k]? =some fn/\fn.body.isSome=true/\(fn.name== "runtime.NumGoroutine")=false:=by obtain⟨fn,f1,f2,_,_,f5⟩:=Xg h;exact⟨fn,f1,by rw[f2];rfl,f5⟩
theorem vu{J:World->Prop}{ρ:bh}{k:Fn}{x y:AV G}{u:Value}(h:rv J ρ (.fn k x y) u):∃fs cs:List Value,u= .func k fs.toArray cs.toArray/\rl J ρ x fs/\rl J ρ y cs:=by obtain⟨fs,cs,e,h1,h2⟩:=h;cases e;exact⟨fs,cs,rfl,h1,h2⟩
theorem G4:∀{a b:AV G},pb a=true->pb b=true->pb (n7 a b)=true:=by
 intro a
 induction a with
 |cons x y _ ih=>intro b h1 h2;exact ih h1 h2
 |nil=>intro b _ h2;exact h2
 |_ =>intro b h1;cases h1
theorem QC{tt:TT P G}{S S1:AS G}{ek:Nat->List (Ek P G)}{e2:Ex G}{O2:Os G}{f:Operand}{args:Array Operand}{ats:Array TypeId}{k:Nat}{fst l cap v:AV G}{fi:FI}{e1:Ex G}{d:Option Tmp}{ty:TypeId}{ps:String}{af:Array Edge}{g:Option (Nat×Bool)}
  (hf:gv C S [] f=some (.fn (.func k) fst cap))(ha:Ou (gv C S []) args.toList=some l)(Ir:D1 P k=some fi)(h1:pb fst=true)(h2:pb l=true)(h3:pb cap=true)(hn:zD (n7 fst (n7 l cap))<=fi.N)
  (hU:US P fi.N [⟨[],my C,[]⟩] (.code fi.code) ⟨wO 0 (n7 fst (n7 l cap)),S.O,S.nx,[]⟩ S1 e1)(hX:oK ek e1 S1.D S1.O=some (e2,O2))(he:e2= .jK\/e2= .ret)(hres:ED tt [⟨[],my C,[]⟩] ⟨S1.F,O2,S1.nx,[]⟩ fi.Bq=some v):
  SK P ⟨d, .call ⟨.value f,args,ats⟩,ty,ps,af,g⟩ C S {S with O:=O2,nx:=S1.nx} v:=by
 intro c N ρ J HK X a w next Q hr hk
 have hE:=dk hr (ch:=[]) (by simp);obtain⟨fs,cs,e2,r1,r3⟩:=vu (hE.ok _ _ hf);obtain⟨r2,_⟩:=vW hE ha;have hv:=ot h1 r1 (ot h2 r2 r3);have hent:=uK (P:=P) (w:=w) (d:=d) (ty:=ty) (ps:=ps) (af:=af) (g:=g) (ats:=ats) (B0 Ir) e2 (rfl:args.toList.map a.eval=_);have hl:pb (n7 fst (n7 l cap))=true:=G4 h1 (G4 h2 h3);refine⟨λ_ _ =>trivial,?_⟩;rw[Oper.semAt_eq _ _ _ (by simp)];rw[show args.toList.toArray=args from Array.toArray_toList]at hent;rw[hent];refine⟨λh=>by simp at h,jN c.ro ?_⟩;have uF:=DH (tt:=tt) hr Ir hl hn hv hU hX rfl (.inr ⟨he,v,hres⟩);intro cs';obtain⟨en,w',fr,⟨ρ',J',Y,k1,k2,k3,k4⟩,rest⟩:=uF cs';refine⟨en,w',fr,?_,rest⟩;rcases k4 with⟨v',u,q1,_⟩|⟨_,v',u,q1,rfl,q3⟩
 ·rcases he with he|he<;>rw[he]at q1<;>cases q1
 ·rw[hres]at q1
  cases q1;exact hk ρ' J' Y w' u k1 k2 q3 k3
theorem UJ{tt:TT P G}{all:Array Oper}{r:List Oper}{S S1:AS G}{ek:Nat->List (Ek P G)}{e1:Ex G}{O2:Os G}{f:Operand}{args:Array Operand}{ats:Array TypeId}{k:Nat}{fst l cap v:AV G}{fi:FI}{d:Option Tmp}{ty:TypeId}{ps:String}{af:Array Edge}{g:Option (Nat×Bool)}
  (hw:Oy N all C S ⟨d, .call ⟨.value f,args,ats⟩,ty,ps,af,g⟩)(hf:gv C S [] f=some (.fn (.func k) fst cap))(ha:Ou (gv C S []) args.toList=some l)(Ir:D1 P k=some fi)(h1:pb fst=true)(h2:pb l=true)(h3:pb cap=true)(hn:zD (n7 fst (n7 l cap))<=fi.N)
  (hU:US P fi.N [⟨[],my C,[]⟩] (.code fi.code) ⟨wO 0 (n7 fst (n7 l cap)),S.O,S.nx,[]⟩ S1 e1)(hX:oK ek e1 S1.D S1.O=some (.wY v,O2)):
  US P N C (.ops all (⟨d, .call ⟨.value f,args,ats⟩,ty,ps,af,g⟩::r)) S {S with O:=O2,nx:=S1.nx} (.wY v):=by
 intro c ρ J HK X a w Q hr hq;refine wpListIn_step λK hK=>?_;rw[akd (hw c ρ J HK X a w hr)];have hE:=dk hr (ch:=[]) (by simp);obtain⟨fs,cs,e2,r1,r3⟩:=vu (hE.ok _ _ hf);obtain⟨r2,_⟩:=vW hE ha;have hv:=ot h1 r1 (ot h2 r2 r3);have hent:=uK (P:=P) (w:=w) (d:=d) (ty:=ty) (ps:=ps) (af:=af) (g:=g) (ats:=ats) (B0 Ir) e2 (rfl:args.toList.map a.eval=_);have hl:pb (n7 fst (n7 l cap))=true:=G4 h1 (G4 h2 h3);refine⟨λ_ _ =>trivial,?_⟩;rw[Oper.semAt_eq _ _ _ (by simp)];rw[show args.toList.toArray=args from Array.toArray_toList]at hent;rw[hent];refine⟨λh=>by simp at h,jN c.ro ?_⟩;have uF:=DH (tt:=tt) hr Ir hl hn hv hU hX rfl (.inl ⟨v,rfl⟩);intro cs';obtain⟨en,w',fr,⟨ρ',J',Y,k1,k2,k3,k4⟩,rest⟩:=uF cs';refine⟨en,w',fr,?_,rest⟩;rcases k4 with⟨v',u,q1,rfl,q3⟩|⟨q1,_⟩
 ·cases q1
  exact hq ρ' J' Y a w' _ k1 k2 ⟨u,rfl,q3⟩ k3
 ·rcases q1 with q1|q1<;>cases q1
theorem UF{all:Array Oper}{r:List Oper}{S S3:AS G}{f:Operand}{args:Array Operand}{ats:Array TypeId}{k:Nat}{x y l:AV G}{e:Ex G}{ty:TypeId}{ps:String}{af:Array Edge}{g:Option (Nat×Bool)}(hw:Oy N all C S ⟨none, .defer ⟨.value f,args,ats⟩,ty,ps,af,g⟩)(hf:gv C S [] f=some (.fn (.func k) x y))(ha:Ou (gv C S []) args.toList=some l)(hro:yC (my C)=true)
  (h2:US P N C (.ops all r) {S with D:= .cons (.fn (.func k) x y) l::S.D} S3 e):US P N C (.ops all (⟨none, .defer ⟨.value f,args,ats⟩,ty,ps,af,g⟩::r)) S S3 e:=by
 intro c ρ J HK X a w Q hr hq;refine wpListIn_step λK hK=>?_;rw[akd (hw c ρ J HK X a w hr)];have hE:=dk hr (ch:=[]) (by simp);obtain⟨fs,cs,e2,r1,r3⟩:=vu (hE.ok _ _ hf);obtain⟨r2,_⟩:=vW hE ha;refine⟨λ_ _ =>trivial,?_⟩;have e0:(FA c.ro).round=none:=by rw[hr.si.n hro]
 rw[e0,Oper.semAt_none];have hrun:(execOp a.eval ⟨none, .defer ⟨.value f,args,ats⟩,ty,ps,af,g⟩).run P w= .ok (.defer {target:= .fn (.func k) cs.toArray,args:=(fs++args.toList.map a.eval).toArray}) w:=by simp[execOp,resolve,e2,Deferred.ofValue]
 rw[hrun];exact hK _ _ (h2 c ρ J HK X {a with defers:=_ ::a.defers} w Q ⟨hr.tm, .cons ⟨fs,cs,_,r1,r3,r2,rfl⟩ hr.df,hr.si,hr.fs,hr.fc,hr.kc,hr.hp,hr.kn,hr.fr⟩ hq)
theorem UE{all:Array Oper}{r:List Oper}{S:AS G}{x:Operand}{t:Nat}{v:AV G}{d:Option Tmp}{ty:TypeId}{ps:String}{af:Array Edge}{g:Option (Nat×Bool)}(hw:Oy N all C S ⟨d, .panic x,ty,ps,af,g⟩)(hx:gv C S [] x=some (.iQ t v)):US P N C (.ops all (⟨d, .panic x,ty,ps,af,g⟩::r)) S S (.wY (.iQ t v)):=by
 intro c ρ J HK X a w Q hr hq;refine wpListIn_step λK hK=>?_;rw[akd (hw c ρ J HK X a w hr)];have hE:=dk hr (ch:=[]) (by simp);obtain⟨u,e,h1⟩:=hE.ok _ _ hx;have e:=(List.cons.inj e).1;refine⟨λ_ _ =>trivial,?_⟩;rw[Oper.semAt_eq _ _ _ (by simp)];have:(execOp a.eval ⟨d, .panic x,ty,ps,af,g⟩).run P w= .halt (.panic (.iface t u)) w:=by simp[execOp,e,Instr.panic]
 rw[this];exact hq.here hr ⟨_,rfl,u,rfl,h1⟩
theorem Xb{s:Sh}{v:AV G}{g g':GS G}{x:HL G (aL s)}(h:nW s v g=some (x,g')):g.nx<=g'.nx:=by
 induction s generalizing v g g' with
 |v t=>obtain⟨y,_,_,rfl⟩:=Xa h;exact Nat.le_refl _
 |unk n=>rw[(Mj h).1];exact Nat.le_refl _
 |row e sz t=>
  cases v<;>unfold nW at h<;>(try dsimp only at h)<;>try (cases h;done)
  case row r=>
   split at h
   ·rename_i e' sz' t' xs ho
    cases hb:(Nat.beq e e'&&Nat.beq sz sz')with
    |false=>rw[hb]at h;cases h
    |true=>
     rw[hb]at h;simp only[cond_true]at h;by_cases hs:t'.bS t=true
     ·rw[dif_pos hs]at h;obtain⟨_,rfl⟩:=bV h;exact Nat.le_refl _
     ·rw[dif_neg hs]at h;cases h
   ·cases h
  case kz=>
   cases hb:Nat.beq (t.L G).n sz with
   |false=>rw[hb]at h;cases h
   |true=>rw[hb]at h;obtain⟨_,rfl⟩:=bV h;exact Nat.le_succ _
 |box T s ih=>
  cases v<;>unfold nW at h<;>(try dsimp only at h)<;>try (cases h;done)
  case ptr r p=>
   cases p with
   |cons _ _ =>simp at h
   |nil=>
    simp only at h;split at h
    ·rename_i T' cc ho
     cases hb:Nat.beq T T' with
     |false=>rw[hb]at h;cases h
     |true=>rw[hb]at h;exact ih (g:=⟨g.th++[r],xH g.O r,g.nx⟩) h
    ·cases h
 |bS i=>
  cases v<;>unfold nW at h<;>(try dsimp only at h)<;>try (cases h;done)
  case ptr r p=>
   cases p with
   |cons _ _ =>simp at h
   |nil=>
    simp only at h;split at h
    ·rename_i r' ht
     cases hb:Nat.beq r r' with
     |false=>rw[hb]at h;cases h
     |true=>rw[hb]at h;rw[(bV h).2];exact Nat.le_refl _
    ·cases h
 |fn f a c mz AX=>
  cases v<;>unfold nW at h<;>(try dsimp only at h)<;>try (cases h;done)
  case fn f' y z=>
   cases hb:zM f f' with
   |false=>rw[hb]at h;cases h
   |true=>
    rw[hb]at h;simp only[cond_true]at h;split at h
    ·rename_i p g1 h1
     split at h
     ·rename_i q g2 h2
      obtain⟨_,rfl⟩:=bV h;exact Nat.le_trans (mz h1) (AX h2)
     ·cases h
    ·cases h
 |cons a b mz sB=>
  cases v<;>unfold nW at h<;>(try dsimp only at h)<;>try (cases h;done)
  case cons y z=>
   split at h
   ·rename_i p g1 h1
    split at h
    ·rename_i q g2 h2
     obtain⟨_,rfl⟩:=bV h;exact Nat.le_trans (mz h1) (sB h2)
    ·cases h
   ·cases h
 |part w a b mz sB=>
  cases v<;>unfold nW at h<;>(try dsimp only at h)<;>try (cases h;done)
  case part w' y z=>
   cases hb:Nat.beq w w' with
   |false=>rw[hb]at h;cases h
   |true=>
    rw[hb]at h;simp only[cond_true]at h;split at h
    ·rename_i p g1 h1
     split at h
     ·rename_i q g2 h2
      obtain⟨_,rfl⟩:=bV h;exact Nat.le_trans (mz h1) (sB h2)
     ·cases h
    ·cases h
 |jc a ih=>
  cases v<;>unfold nW at h<;>(try dsimp only at h)<;>try (cases h;done)
  exact ih h
 |st a ih=>
  cases v<;>unfold nW at h<;>(try dsimp only at h)<;>try (cases h;done)
  exact ih h
 |iQ t a ih=>
  cases v<;>unfold nW at h<;>(try dsimp only at h)<;>try (cases h;done)
  case iQ t' y=>
   cases hb:Nat.beq t t' with
   |false=>rw[hb]at h;cases h
   |true=>rw[hb]at h;exact ih (g:=g) h
 |_ =>
  cases v<;>unfold nW at h<;>(try dsimp only at h)<;>try (cases h;done)
  rw[(bV h).2];exact Nat.le_refl _
theorem CY{cf:Cf}{S S3:AS G}{e:Ex G}(b:List Nat)(h:US P N C cf (zK b S) S3 e):US P N C cf S S3 e:=by intro c ρ J HK X a w Q hr hq;obtain⟨J',Y,m,h1⟩:=hr.zK b;refine h c ρ J' HK (Y++X) a w Q h1 ?_;rw[xy];exact hq.iH (bh.ef _ _) m (Nat.le_refl _)
theorem MY{cf:Cf}{S S3:AS G}{e:Ex G}(l:List (Nat×Sh))(h:US P N C cf (C7 l S) S3 e):US P N C cf S S3 e:=by intro c ρ J HK X a w Q hr hq;obtain⟨ρ',m1,m2,h1⟩:=hr.C7 l;exact h c ρ' J HK X a w Q h1 (hq.iH (Y:=[]) m1 (λ_ h=>h) m2)
theorem M9:∀(l:List (Nat×Sh)) (S:AS G),S.nx<=(C7 l S).nx:=by
 have hw:∀(s:Sh) (v:AV G) (nx:Nat),nx<=(MN s v nx).2.2:=by
  intro s
  induction s with
  |row e sz t=>
   intro v nx;cases v<;>unfold MN<;>try exact Nat.le_refl _
   cases Nat.beq (t.L G).n sz with
   |false=>exact Nat.le_refl _
   |true=>exact Nat.le_succ _
  |st a ih=>intro v nx;cases v<;>unfold MN<;>first|exact ih _ _ |exact Nat.le_refl _
  |part w a b mz sB=>intro v nx;cases v<;>unfold MN<;>first|exact Nat.le_trans (mz _ _) (sB _ _)|exact Nat.le_refl _
  |_ =>intro v nx;cases v<;>unfold MN<;>exact Nat.le_refl _
 intro l
 induction l with
 |nil=>intro S;exact Nat.le_refl _
 |cons p r ih=>
  obtain⟨q,s⟩:=p;intro S;refine Nat.le_trans ?_ (ih _);unfold OY;split
  ·exact hw _ _ _
  ·exact Nat.le_refl _
theorem abw{C:CC G}{O:Os G}{nx:Nat}{akc:AV G}{fit:(ct:Ct P G)->HI G ct.s->GS G->Option Z}{frz:List Nat->List (Nat×Sh)->Option Z}{no:Option Z}:∀{l:List (Ct P G)},wCt C O nx akc fit frz no l=some z->(∃ct x g',ET C O nx ct.s akc=some (x,g')/\fit ct x g'=some z)\/(∃b l,frz b l=some z)\/no=some z:=by
 intro l
 induction l with
 |nil=>intro h;exact .inr (.inr h)
 |cons ct r ih=>
  intro h;simp only[wCt]at h;split at h
  ·rename_i x g' hg;exact .inl ⟨ct,x,g',hg,h⟩
  ·split at h
   ·exact ih h
   ·exact .inr (.inl ⟨_,_,h⟩)
theorem Mt{c:Cx}{ρ:bh}{J:World->Prop}{HK X:List aE}{S:AS G}{a:Act}{w:World}{akc:AV G}{vs:List Value}(ct:Ct P G){x:HI G ct.s}{g':GS G}(hr:Rl c N ρ J HK X C S a w)(hv:rl J ρ akc vs)(hg:ET C S.O S.nx ct.s akc=some (x,g')):
  S.nx<=g'.nx/\(∀y v,ct.R x y->YP (fQ (Pe g'.th g'.nx ct.s.nm) ct.s.cP y 0).1=some v->Calls P ct.s.k vs.toArray w λen w'=>∃(ρ':bh) (J':World->Prop) (Y:List aE) (u:Value),en= .returned u/\ρ.to ρ' S.nx/\(∀w,J' w->J w)/\rv J' ρ' v u/\Rl c N ρ' J' HK (Y++X) C (ctS g' ct.s.cP ct.s.nm y S) a w')/\
  (∀y v,ct.Rp x y->YP (fQ (Pe g'.th g'.nx ct.s.VU) ct.s.gR y 0).1=some v->Calls P ct.s.k vs.toArray w λen w'=>∃(ρ':bh) (J':World->Prop) (Y:List aE) (u:Value),en= .panicked [{v:=u,recovered:=false}]/\ρ.to ρ' S.nx/\(∀w,J' w->J w)/\rv J' ρ' v u/\Rl c N ρ' J' HK (Y++X) C (ctS g' ct.s.gR ct.s.VU y S) a w'):=by
 obtain⟨th,ρ2,HS,HB,H',hlen,q3,k,_,hkc⟩:=aaA hr hv hg;have hp:=k.hp (HK++X) _ _ _ q3;have kv:=k.val;have kb:=k.cI;have kc:=k.Jz;simp only[hlen]at kv kb kc;have hfr:(cmp ρ2 g'.th).fr (ct.s.bl x).2.2:=λr hr'=>by unfold Fs.bl at hr';unfold cmp;rw[List.getElem?_eq_none (by omega)]
 have AY:bH (bF (HB++((H'++HK)++X))) w.heap.size (HB++((H'++HK)++X)) w:=by
  have hp:bH c.bs c.w0.heap.size (HB++((H'++HK)++X)) w:=by simpa using hp
  exact⟨hp.holds,λr hm b hb=>⟨.inl (bg.2 ⟨r,hm,hb⟩),(hp.own r hm b hb).2⟩,hp.apart⟩
 obtain⟨o1,o2⟩:=ct.ok (cmp ρ2 g'.th) J HB (H'++HK) X w vs x kv kb hkc AY hr.kn hfr;refine⟨k.nx,λy v hR hd cs=>?_,λy v hR hd cs=>?_⟩
 ·obtain⟨en,w',fr,⟨u,rfl,h⟩,rest⟩:=o1 y hR cs
  obtain⟨ρ',J',Y,m1,m2,m3,m4⟩:=RI hr hp k hd h;exact⟨_,w',fr,⟨ρ',J',Y,u,rfl,m1,m2,m3,m4⟩,rest⟩
 ·obtain⟨en,w',fr,⟨u,rfl,h⟩,rest⟩:=o2 y hR cs
  obtain⟨ρ',J',Y,m1,m2,m3,m4⟩:=RI hr hp k hd h;exact⟨_,w',fr,⟨ρ',J',Y,u,rfl,m1,m2,m3,m4⟩,rest⟩
theorem Xd{s:Fs}{akc:AV G}{O:Os G}{nx:Nat}{x:HI G s}{g':GS G}(h:ET C O nx s akc=some (x,g')):∃th xi,nW s.vS akc ⟨th,O,nx⟩=some (xi,g'):=by
 unfold ET at h;split at h
 ·split at h
  ·split at h
   ·rename_i xi g1 hg
    split at h
    ·rename_i y zk _
     revert h;generalize Kq _ zk=b;intro h;cases b with
     |false=>cases h
     |true=>obtain⟨_,rfl⟩:=bV h;exact⟨_,_,hg⟩
    ·cases h
   ·cases h
  ·cases h
 ·cases h
theorem Xc{s:Fs}{akc:AV G}{O:Os G}{nx:Nat}{x:HI G s}{g':GS G}(hn:GZ true s.vS=true)(h:ET C O nx s akc=some (x,g')):g'.O=O/\g'.nx=nx:=by obtain⟨th,xi,hg⟩:=Xd h;rw[aay hn hg];exact⟨rfl,rfl⟩
theorem aaB{s:Fs}{akc:AV G}{O:Os G}{nx:Nat}{x:HI G s}{g':GS G}(h:ET C O nx s akc=some (x,g')):nx<=g'.nx:=by obtain⟨th,xi,hg⟩:=Xd h;exact Xb hg
theorem XB(ct:Ct P G):∃fn,P.funcs[ct.s.k]? =some fn/\fn.body.isSome=true/\(fn.name== "runtime.NumGoroutine")=false:=by obtain⟨f,h1,h2,h3⟩:=ct.fn;exact⟨f,h1,h2,h3⟩
section
variable {S:AS G} {f:Operand} {args:Array Operand} {ats:Array TypeId} {fst l cap v:AV G} {d:Option Tmp} {ty:TypeId} {ps:String} {af:Array Edge} {g:Option (Nat×Bool)} {ct:Ct P G} {x:HI G ct.s} {g':GS G}
theorem af2{y:HL G (aL ct.s.cP)}(hf:gv C S [] f=some (.fn (.func ct.s.k) fst cap))(ha:Ou (gv C S []) args.toList=some l)(h1:pb fst=true)(h2:pb l=true)(hg:ET C S.O S.nx ct.s (n7 fst (n7 l cap))=some (x,g'))(hR:ct.R x y)(hd:YP (fQ (Pe g'.th g'.nx ct.s.nm) ct.s.cP y 0).1=some v):
  SK P ⟨d, .call ⟨.value f,args,ats⟩,ty,ps,af,g⟩ C S (ctS g' ct.s.cP ct.s.nm y S) v:=by
 intro c N ρ J HK X a w next Q hr hk
 have hE:=dk hr (ch:=[]) (by simp);obtain⟨fs,cs,e2,r1,r3⟩:=vu (hE.ok _ _ hf);obtain⟨r2,_⟩:=vW hE ha;have hv:=ot h1 r1 (ot h2 r2 r3);have hent:=uK (P:=P) (w:=w) (d:=d) (ty:=ty) (ps:=ps) (af:=af) (g:=g) (ats:=ats) (XB ct) e2 (rfl:args.toList.map a.eval=_);refine⟨λ_ _ =>trivial,?_⟩;rw[Oper.semAt_eq _ _ _ (by simp)];rw[show args.toList.toArray=args from Array.toArray_toList]at hent;rw[hent];refine⟨λh=>by simp at h,jN c.ro ?_⟩;intro cs';obtain⟨en,w',fr,⟨ρ',J',Y,u,rfl,k1,k2,k3,k4⟩,rest⟩:=(Mt ct hr hv hg).2.1 y v hR hd cs';exact⟨_,w',fr,hk ρ' J' Y w' u k1 k2 k3 k4,rest⟩
theorem acu{all:Array Oper}{r:List Oper}{y:HL G (aL ct.s.gR)}(hw:Oy N all C S ⟨d, .call ⟨.value f,args,ats⟩,ty,ps,af,g⟩)(hf:gv C S [] f=some (.fn (.func ct.s.k) fst cap))(ha:Ou (gv C S []) args.toList=some l)(h1:pb fst=true)(h2:pb l=true)(hg:ET C S.O S.nx ct.s (n7 fst (n7 l cap))=some (x,g'))(hR:ct.Rp x y)(hd:YP (fQ (Pe g'.th g'.nx ct.s.VU) ct.s.gR y 0).1=some v):
  US P N C (.ops all (⟨d, .call ⟨.value f,args,ats⟩,ty,ps,af,g⟩::r)) S (ctS g' ct.s.gR ct.s.VU y S) (.wY v):=by
 intro c ρ J HK X a w Q hr hq;refine wpListIn_step λK hK=>?_;rw[akd (hw c ρ J HK X a w hr)];have hE:=dk hr (ch:=[]) (by simp);obtain⟨fs,cs,e2,r1,r3⟩:=vu (hE.ok _ _ hf);obtain⟨r2,_⟩:=vW hE ha;have hv:=ot h1 r1 (ot h2 r2 r3);have hent:=uK (P:=P) (w:=w) (d:=d) (ty:=ty) (ps:=ps) (af:=af) (g:=g) (ats:=ats) (XB ct) e2 (rfl:args.toList.map a.eval=_);refine⟨λ_ _ =>trivial,?_⟩;rw[Oper.semAt_eq _ _ _ (by simp)];rw[show args.toList.toArray=args from Array.toArray_toList]at hent;rw[hent];refine⟨λh=>by simp at h,jN c.ro ?_⟩;intro cs';obtain⟨en,w',fr,⟨ρ',J',Y,u,rfl,k1,k2,k3,k4⟩,rest⟩:=(Mt ct hr hv hg).2.2 y v hR hd cs';exact⟨_,w',fr,hq ρ' J' Y a w' (.panic _) k1 k2 ⟨u,rfl,k3⟩ k4,rest⟩
theorem acv{all:Array Oper}{r:List Oper}{y:HL G (aL ct.s.cP)}{o:Oper}{S2 S3:AS G}{e:Ex G}{j dj k:Nat}{w gb:Bool}{akc:AV G}(Md:o.guard=some (j,w))(hd:IP all j=some dj)(he:PE C S 8 dj w=some gb)(hc:N7 C S (chain C S 8 dj w) o.op=some (k,akc))(hk:ct.s.k=k)(hg:ET C S.O S.nx ct.s akc=some (x,g'))(hnm:ct.s.nm=[])(hn1:GZ true ct.s.vS=true)(hn2:GZ false ct.s.cP=true)(hR:gb=true->ct.R x y)(hv:YP (fQ (λm=>m) ct.s.cP y 0).1=some v)
  (hq:vO N C o.dst (.gd dj w v) S=some S2)(h2:US P N C (.ops all r) S2 S3 e):US P N C (.ops all (o::r)) S S3 e:=by
 intro c ρ J HK X a wd Q hr hQ;refine wpListIn_step λK hK=>?_;have hwi:=w7 (a:=a) Md hd;have hge:=Rh hr 8 dj w gb he;have Nz:=oh hq;by_cases hw:a.tmps[dj]? =some (.bool w)
 ·rw[akd (hwi.2 hw)]
  have hch:=N1 hr 8 dj w hw;have hE:=dk hr hch;obtain⟨d,op,ty,ps,af,gg⟩:=o;unfold N7 at hc;dsimp only at hc;split at hc
  ·rename_i f args ats
   split at hc
   ·rename_i k' fst cap l hf ha
    cases hb:((pb fst&&pb l)&&pb cap)with
    |false=>rw[hb]at hc;cases hc
    |true=>
     rw[hb]at hc;obtain⟨rfl,rfl⟩:=Prod.mk.inj (Option.some.inj hc);simp only[akg]at hb;subst hk;obtain⟨fs,cs,e2,r1,r3⟩:=vu (hE.ok _ _ hf);obtain⟨r2,_⟩:=vW hE ha;have hvs:=ot hb.1.1 r1 (ot hb.1.2 r2 r3);have hent:=uK (P:=P) (w:=wd) (d:=d) (ty:=ty) (ps:=ps) (af:=af) (g:=gg) (ats:=ats) (XB ct) e2 (rfl:args.toList.map a.eval=_);refine⟨λ_ _ =>trivial,?_⟩;rw[Oper.semAt_eq _ _ _ (by simp)];rw[show args.toList.toArray=args from Array.toArray_toList]at hent;rw[hent];refine⟨λh=>by simp at h,jN c.ro ?_⟩;intro cs';obtain⟨eO,eN⟩:=Xc hn1 hg;have KV:=aaV (f:=Pe g'.th g'.nx ct.s.nm) hn2 y 0;obtain⟨en,w',fr,⟨ρ',J',Y,u,rfl,k1,k2,k3,k4⟩,rest⟩:=(Mt ct hr hvs hg).2.1 y v (hR (hge.1 hw)) (by rw[KV.1];exact hv) cs';refine⟨_,w',fr,?_,rest⟩;have e3:ctS g' ct.s.cP ct.s.nm y S=S:=by unfold ctS;rw[KV.2,hnm,eO,eN];rfl
     rw[e3]at k4;refine hK _ _ (h2 c ρ' J' HK (Y++X) _ w' Q (k4.put hq ⟨λ_ =>k3,λh=>absurd hw h⟩) (hQ.iH k1 k2 (by omega)))
   ·cases hc
  ·cases hc
 ·have:Region.wanted o (yielded all a.tmps)=false:=by
   cases hb:Region.wanted o (yielded all a.tmps)with
   |true=>exact absurd (hwi.1 hb) hw
   |false=>rfl
  rw[ake (by rw[this];simp)];exact⟨λ_ _ =>trivial,hK _ _ (h2 c ρ J HK X _ _ Q (hr.put hq ⟨λh=>absurd h hw,λ_ =>rfl⟩) (hQ.iH (Y:=[]) (bh.ef _ _) (λ_ h=>h) (by omega)))⟩
end
end
end Go.Rw
namespace Go.Rw
open Go Go.Bw Go.RowKit
variable {G:Sg} {P:Program} {N:Nat} {C:CC G}
theorem Uv{F:Fence}{n:Nat}{o:Oper}{a:Act}{w:World}{K:Act->World->Prop}{Q:Exit->Act->World->Prop}(hh:o.wpIn F n P a w K Q):o.wpIn F n P a w (λa' w'=>K a' w'/\∃u Df,a'=({a with defers:=Df}:Act).put o.dst u) Q:=by
 have e:∀u,a.put o.dst u=({a with defers:=a.defers}:Act).put o.dst u:=λ_ =>rfl;unfold Oper.wpIn at *;refine⟨hh.1,?_⟩;have hh:=hh.2;generalize(o.semAt F.round a.eval).run P w=r at *;cases r with
 |ok x w'=>
  cases x<;>simp only[Oper.uponIn]at hh ⊢<;>
   first
    |exact⟨hh,_,_,e _⟩
    |exact⟨hh,_,_,rfl⟩
    |exact⟨hh.1,CallsIn.mono hh.2 (λe' w'' he=>by cases e'<;>first|exact⟨he,_,_,e _⟩|exact he)⟩
    |exact⟨hh.1,RowsIn.mono hh.2 (λ_ _ he=>⟨he,_,_,e _⟩)⟩
    |exact⟨hh.1,RoundIn.mono hh.2 (λe' w'' he=>by cases e'<;>first|exact⟨he,_,_,e _⟩|exact he)⟩
 |halt x w'=>cases x<;>simp only[Oper.uponIn]at hh ⊢<;>exact hh
theorem LetsOut.mono{Q Q':Exit->Act->World->Prop}(h:∀e a w,e≠ .normal->Q e a w->Q' e a w)(q:LetsOut Q):LetsOut Q':=by obtain⟨a,w,q⟩:=q;exact⟨a,w,h _ _ _ (by simp) q⟩
theorem Hv{F:Fence}{n:Nat}{o:Oper}{a:Act}{w:World}{K:Act->World->Prop}{Q Q':Exit->Act->World->Prop}(h:∀e a w,e≠ .normal->Q e a w->Q' e a w)(hh:o.wpIn F n P a w K Q):o.wpIn F n P a w K Q':=by
 unfold Oper.wpIn at *;refine⟨hh.1,?_⟩;have hh:=hh.2;generalize(o.semAt F.round a.eval).run P w=r at *;cases r with
 |ok x w'=>
  cases x<;>simp only[Oper.uponIn]at hh ⊢<;>
   first
    |exact hh
    |exact⟨hh.1,CallsIn.mono hh.2 (λe' w'' he=>by cases e'<;>first|exact h _ _ _ (by simp) he|exact LetsOut.mono h he|exact he)⟩
    |exact⟨hh.1,RoundIn.mono hh.2 (λe' w'' he=>by cases e'<;>first|exact h _ _ _ (by simp) he|exact LetsOut.mono h he|exact he)⟩
 |halt x w'=>cases x<;>simp only[Oper.uponIn]at hh ⊢<;>first|exact h _ _ _ (by simp) hh|exact LetsOut.mono h hh|exact hh
theorem VY{F:Fence}{n:Nat}{ops:Array Oper}{i:Nat}{o:Oper}{a:Act}{w:World}{K:Act->World->Prop}{Q Q1:Exit->Act->World->Prop}(ho:ops[i]? =some o)(h:wpListIn F n P ops Q1 [o] a w)
  (hk:∀a' w',Q1 .normal a' w'->(∃u Df,a'=({a with defers:=Df}:Act).put o.dst u)->K a' w')(hq:∀e a w,e≠ .normal->Q1 e a w->Q e a w):wpOpIn F n P ops Q i K a w:=by
 unfold wpOpIn;rw[ho];unfold wpListIn at h;dsimp only;split
 ·rename_i hw
  rw[akd hw]at h;exact Hv hq (Oper.wpIn_mono (λa' w' q=>hk a' w' q.1 q.2) (Uv h))
 ·rename_i hw
  rw[ake hw]at h;exact⟨h.1,hk _ _ h.2 ⟨undef,a.defers,rfl⟩⟩
theorem z7(ops:Array Oper):∀k,(Gs ops k).length=k:=by
 intro k
 induction k with
 |zero=>rfl
 |succ k ih=>show(Gs ops k++[_]).length=_;simp[ih]
theorem I4(ops:Array Oper):∀{k i:Nat},i<k->(Gs ops k).getD i 0=Qh (Gs ops i) (A3 ops i):=by
 intro k
 induction k with
 |zero=>intro i h;omega
 |succ k ih=>
  intro i h;show(Gs ops k++[Qh (Gs ops k) (A3 ops k)]).getD i 0=_;by_cases e:i<k
  ·rw[List.getD_eq_getElem?_getD,List.getElem?_append_left (by rw[z7];exact e), ← List.getD_eq_getElem?_getD];exact ih e
  ·have:i=k:=by omega
   subst this;rw[List.getD_eq_getElem?_getD,List.getElem?_append_right (by rw[z7];exact Nat.le_refl _),z7];simp
theorem XQ{A:List Nat}{j:Nat}:∀{l:List Nat},(Qh A l).testBit j=true->∃k∈l,j=k\/(A.getD k 0).testBit j=true:=by
 intro l
 induction l with
 |nil=>intro h;simp[Qh]at h
 |cons k r ih=>
  intro h;simp only[Qh,Nat.testBit_or,Bool.or_eq_true,Nat.testBit_two_pow,decide_eq_true_eq]at h;rcases h with(h|h)|h
  ·exact⟨k,by simp, .inl h.symm⟩
  ·exact⟨k,by simp, .inr h⟩
  ·obtain⟨k',h1,h2⟩:=ih h;exact⟨k',by simp[h1],h2⟩
theorem aex{ops:Array Oper}{l:Array Bool}(rX:∀j,dn l j->∀k∈A3 ops j,dn l k):∀(m i j:Nat),n6 (Gs ops m) i j=true->(∀k∈A3 ops i,dn l k)->dn l j:=by
 intro m i
 induction i using Nat.strongRecOn with
 |ind i ih=>
  intro j h hi;unfold n6 at h;by_cases hm:i<m
  ·rw[I4 ops hm]at h
   obtain⟨k,h1,h2⟩:=XQ h;rcases h2 with rfl|h2
   ·exact hi _ h1
   ·by_cases hk:k<i
    ·refine ih k hk j ?_ (rX _ (hi _ h1))
     unfold n6;rw[I4 ops (Nat.lt_trans hk hm), ← I4 ops hk];exact h2
    ·rw[List.getD_eq_getElem?_getD,List.getElem?_eq_none (by rw[z7];omega)]at h2
     simp at h2
  ·rw[List.getD_eq_getElem?_getD,List.getElem?_eq_none (by rw[z7];omega)]at h
   simp at h
theorem Xw:∀{l:List Oper} {i q d:Nat},(q,d)∈zR i l↔i<=q/\∃o,l[q-i]? =some o/\o.dst=some d:=by
 intro l
 induction l with
 |nil=>intro i q d;simp[zR]
 |cons o r ih=>
  intro i q d;have key:(q,d)∈zR (i+1) r↔i<q/\∃o',(o::r)[q-i]? =some o'/\o'.dst=some d:=by
   rw[ih];constructor
   ·rintro⟨h1,o',h2,h3⟩
    refine⟨by omega,o',?_,h3⟩;rw[show q-i=(q-(i+1))+1 from by omega];exact h2
   ·rintro⟨h1,o',h2,h3⟩
    refine⟨by omega,o',?_,h3⟩;rw[show q-i=(q-(i+1))+1 from by omega]at h2;exact h2
  unfold zR;split
  ·rename_i d' hd
   rw[List.mem_cons,key];constructor
   ·rintro(h|⟨h1,h2⟩)
    ·cases h;exact⟨Nat.le_refl _,o,by simp,hd⟩
    ·exact⟨by omega,h2⟩
   ·rintro⟨h1,o',h2,h3⟩
    by_cases e:q=i
    ·subst e
     rw[Nat.sub_self]at h2;cases h2;rw[hd]at h3;cases h3;exact .inl rfl
    ·exact .inr ⟨by omega,o',h2,h3⟩
  ·rename_i hd
   rw[key];constructor
   ·rintro⟨h1,h2⟩;exact⟨by omega,h2⟩
   ·rintro⟨h1,o',h2,h3⟩
    by_cases e:q=i
    ·subst e
     rw[Nat.sub_self]at h2;cases h2;rw[hd]at h3;cases h3
    ·exact⟨by omega,o',h2,h3⟩
theorem ac4{A:List Nat}{q d:Nat}:∀{l:List (Nat×Nat)},ZP A q d l=true->∀i,(i,d)∈l->i<q->n6 A q i=true:=by
 intro l
 induction l with
 |nil=>intro _ i h;cases h
 |cons x r ih=>
  obtain⟨j,e⟩:=x;intro h i hi hq;simp only[ZP,akg,Bool.or_eq_true,Bool.not_eq_true']at h;rcases List.mem_cons.1 hi with hi|hi
  ·cases hi
   rcases h.1 with h1|h1
   ·rw[Nat.beq_refl,show Nat.blt j q=true from by rw[Nat.blt_eq];exact hq]at h1;cases h1
   ·exact h1
  ·exact ih h.2 i hi hq
theorem agm{A:List Nat}{ws:List (Nat×Nat)}:∀{l:List (Nat×Nat)},(SR A ws l)=true->∀q d,(q,d)∈l->∀i,(i,d)∈ws->i<q->n6 A q i=true:=by
 intro l
 induction l with
 |nil=>intro _ q d h;cases h
 |cons x r ih=>
  obtain⟨j,e⟩:=x;intro h q d hm i hi hq;simp only[SR,akg]at h;rcases List.mem_cons.1 hm with hm|hm
  ·cases hm;exact ac4 h.1 i hi hq
  ·exact ih h.2 q d hm i hi hq
theorem UA{A:List Nat}{i d:Nat}:∀{l:List (Nat×Nat)},BO A i d l=true->∀q,(q,d)∈l->q=i\/(q<i/\n6 A i q=true)\/(i<q/\n6 A q i=true):=by
 intro l
 induction l with
 |nil=>intro _ q h;cases h
 |cons x r ih=>
  obtain⟨j,e⟩:=x;intro h q hq;simp only[BO,akg,Bool.or_eq_true,Bool.not_eq_true']at h;rcases List.mem_cons.1 hq with hq|hq
  ·cases hq
   rcases h.1 with h1|h1|h1
   ·rw[Nat.beq_refl]at h1;cases h1
   ·exact .inl (akf h1)
   ·cases hb:Nat.blt j i with
    |true=>rw[hb]at h1;exact .inr (.inl ⟨by simpa[Nat.blt_eq]using hb,h1⟩)
    |false=>
     rw[hb]at h1;by_cases e:j=i
     ·exact .inl e
     ·have:¬j<i:=by rw[← Nat.blt_eq,hb];simp
      exact .inr (.inr ⟨by omega,h1⟩)
  ·exact ih h.2 q hq
theorem aeu{A:List Nat}{i d:Nat}:∀{l:List (Nat×Nat)},TL A i d l=true->∀q,(q,d)∈l->n6 A i q=true:=by
 intro l
 induction l with
 |nil=>intro _ q h;cases h
 |cons x r ih=>
  obtain⟨j,e⟩:=x;intro h q hq;simp only[TL,akg,Bool.or_eq_true,Bool.not_eq_true']at h;rcases List.mem_cons.1 hq with hq|hq
  ·cases hq
   rcases h.1 with h1|h1
   ·rw[Nat.beq_refl]at h1;cases h1
   ·exact h1
  ·exact ih h.2 q hq
theorem afO{d:Nat}:∀{l:List (Nat×Nat)},Y9 d l=false->∀q,(q,d)∉l:=by
 intro l
 induction l with
 |nil=>intro _ q h;cases h
 |cons x r ih=>
  obtain⟨j,e⟩:=x;intro h q hq;simp only[Y9,Bool.or_eq_false_iff]at h;rcases List.mem_cons.1 hq with hq|hq
  ·cases hq;have:=h.1;rw[Nat.beq_refl]at this;cases this
  ·exact ih h.2 q hq
theorem nM:∀{l:List Nat} {d:Nat},cv l d=true↔d∈l:=by
 intro l
 induction l with
 |nil=>intro d;simp[cv]
 |cons k r ih=>
  intro d;simp only[cv,Bool.or_eq_true,List.mem_cons,ih];constructor
  ·rintro(h|h)
   ·exact .inl (akf h).symm
   ·exact .inr h
  ·rintro(rfl|h)
   ·exact .inl (Nat.beq_refl _)
   ·exact .inr h
theorem PW:∀{a b:List Nat},PX a b=true->∀x∈a,x∉b:=by
 intro a
 induction a with
 |nil=>intro b _ x h;cases h
 |cons k r ih=>
  intro b h x hx;simp only[PX,akg,Bool.not_eq_true']at h;rcases List.mem_cons.1 hx with rfl|hx
  ·intro hb;rw[nM.2 hb]at h;cases h.1
  ·exact ih h.2 x hx
theorem abH{A:List Nat}{i:Nat}{rd ac nw:List Nat}:∀{l:List Lg},ZQ A i rd ac nw l=true->∀y∈l,n6 A i y.i=true\/((∀x∈y.a++y.o,x∉rd++ac)/\∀x∈ac++nw,x∉y.r++y.a):=by
 intro l
 induction l with
 |nil=>intro _ y h;cases h
 |cons z r ih=>
  intro h y hy;simp only[ZQ,akg,Bool.or_eq_true]at h;rcases List.mem_cons.1 hy with rfl|hy
  ·rcases h.1 with h1|h1
   ·exact .inl h1
   ·exact .inr ⟨PW h1.1,PW h1.2⟩
  ·exact ih h.2 y hy
theorem agn{A:List Nat}{i:Nat}:∀{l:List Lg},okU A i l=true->∀y∈l,n6 A i y.i=true\/y.a=[]:=by
 intro l
 induction l with
 |nil=>intro _ y h;cases h
 |cons z r ih=>
  intro h y hy;simp only[okU,akg,Bool.or_eq_true]at h;rcases List.mem_cons.1 hy with rfl|hy
  ·rcases h.1 with h1|h1
   ·exact .inl h1
   ·refine .inr ?_
    split at h1
    ·assumption
    ·cases h1
  ·exact ih h.2 y hy
theorem afS{A:List Nat}{i:Nat}:∀{l:List Lg},∀y∈l,n6 A i y.i=false->∀x∈y.o,x∈unN A i l:=by
 intro l
 induction l with
 |nil=>intro y h;cases h
 |cons z r ih=>
  intro y hy hb x hx;unfold unN;rcases List.mem_cons.1 hy with rfl|hy
  ·rw[hb];exact akk _ hx
  ·cases n6 A i z.i with
   |true=>exact ih y hy hb x hx
   |false=>exact akj _ (ih y hy hb x hx)
theorem Mn{p:Nat->Bool}:∀{O:Os G} {r:Nat},dm (bK p O) r=bif p r then dm O r else none:=by
 intro O
 induction O with
 |nil=>intro r;simp only[bK,dm];cases p r<;>rfl
 |cons q t ih=>
  obtain⟨k,v⟩:=q;intro r;simp only[bK];cases hp:p k with
  |true=>
   simp only[cond_true,dm];cases hb:Nat.beq k r with
   |true=>obtain rfl:=akf hb;rw[hp];rfl
   |false=>exact ih
  |false=>
   simp only[cond_false,dm];cases hb:Nat.beq k r with
   |true=>obtain rfl:=akf hb;rw[ih,hp];rfl
   |false=>exact ih
theorem Rv{p:Nat->Bool}:∀{F:Fr G} {d:Nat},dm (jM p F) d=bif p d then dm F d else none:=by
 intro F
 induction F with
 |nil=>intro d;simp only[jM,dm];cases p d<;>rfl
 |cons q t ih=>
  obtain⟨k,v⟩:=q;intro d;simp only[jM];cases hp:p k with
  |true=>
   simp only[cond_true,dm];cases hb:Nat.beq k d with
   |true=>obtain rfl:=akf hb;rw[hp];rfl
   |false=>exact ih
  |false=>
   simp only[cond_false,dm];cases hb:Nat.beq k d with
   |true=>obtain rfl:=akf hb;rw[ih,hp];rfl
   |false=>exact ih
end Go.Rw
namespace Go.Rw
open Go Go.Bw Go.RowKit
variable {G:Sg} {P:Program} {N:Nat} {C:CC G} {ops:Array Oper} {A:List Nat} {ws:List (Nat×Nat)} {F0:Fr G} {D0:List (AV G)}
theorem ahB:∀{a b:AV G},Rz a b=true->a=b:=by
 intro a
 induction a with
 |ptr r p=>
  intro b h;cases p with
  |nil=>
   cases b with
   |ptr q s=>cases s with
    |nil=>rw[akf (show Nat.beq r q=true from h)]
    |cons _ _ =>cases h
   |_ =>cases h
  |cons _ _ =>cases b<;>cases h
 |fn f a c mz AX=>
  intro b h;cases b with
  |fn g u v=>
   cases f<;>cases g<;>first|(cases h;done)|skip
   rename_i m n;have h:(Nat.beq m n&&(Rz a u&&Rz c v))=true:=h;simp only[akg]at h;rw[akf h.1,mz h.2.1,AX h.2.2]
  |_ =>cases f<;>cases h
 |nil=>intro b h;cases b<;>first|rfl|cases h
 |cons a c mz AX=>
  intro b h;cases b with
  |cons u v=>have h:(Rz a u&&Rz c v)=true:=h;simp only[akg]at h;rw[mz h.1,AX h.2]
  |_ =>cases h
 |_ =>intro b h;cases h
theorem Lt{M O:Os G}:∀{l:List Nat} {x:Nat},x∈smN M O l->x∈l
 |q::r,x,h=>by
  unfold smN at h;cases hb:abB M O q with
  |true=>
   rw[hb]at h;rcases List.mem_cons.1 h with rfl|h
   ·exact List.mem_cons_self
   ·exact akp _ (Lt h)
  |false=>rw[hb]at h;exact akp _ (Lt h)
theorem zn{s:List Nat}:∀{l:List Nat} {x:Nat},x∈HP s l↔x∈l/\x∉s
 |[],x=>by simp[HP]
 |q::r,x=>by
  unfold HP;cases hb:cv s q with
  |true=>have hq:q∈s:=nM.1 hb;show x∈HP s r↔_;rw[zn,List.mem_cons];exact⟨λh=>⟨.inr h.1,h.2⟩,λh=>⟨h.1.resolve_left λe=>h.2 (e▸hq),h.2⟩⟩
  |false=>
   have hq:q∉s:=λh=>by rw[nM.2 h]at hb;cases hb
   show x∈q::HP s r↔_;rw[List.mem_cons,List.mem_cons,zn];exact⟨λh=>h.elim (λe=>⟨.inl e,e▸hq⟩) λh=>⟨.inr h.1,h.2⟩,λh=>h.1.elim .inl λe=> .inr ⟨e,h.2⟩⟩
theorem abD{q T:Nat}{c:AV G}:∀{l m:Os G},Zw q T c l=some m->l.Perm ((q, .cI T c)::m)
 |[],m,h=>by cases h
 |(k,o)::r,m,h=>by
  have skip:∀{o:Ob G},(match Zw q T c r with
    |some l=>some ((k,o)::l)
    |none=>none)=some m->((k,o)::r).Perm ((q, .cI T c)::m):=λ{o} h=>by
   cases hr:Zw q T c r with
   |none=>rw[hr]at h;cases h
   |some l=>rw[hr]at h;cases h;exact(List.Perm.cons _ (abD hr)).trans (List.Perm.swap _ _ _)
  cases o with
  |cI U d=>
   have h:(bif Nat.beq q k&&(Nat.beq T U&&Rz c d)then some r else(match Zw q T c r with
    |some l=>some ((k, .cI U d)::l)
    |none=>none))=some m:=h
   cases hb:(Nat.beq q k&&(Nat.beq T U&&Rz c d))with
   |true=>rw[hb]at h;cases h;simp only[akg]at hb;rw[akf hb.1,akf hb.2.1,ahB hb.2.2]
   |false=>rw[hb]at h;exact skip h
  |row _ _ _ _ =>exact skip h
  |aux _ =>exact skip h
  |gm=>exact skip h
  |fm _ _ _ =>exact skip h
  |_ =>exact skip h
theorem QN:∀{a b:Os G},Nf a b=true->a.Perm b
 |[],[],_ => .refl _
 |[],_ ::_,h=>by cases h
 |(q, .cI T c)::r,l,h=>by
  have h:(match Zw q T c l with
   |some m=>Nf r m
   |none=>false)=true:=h
  cases hr:Zw q T c l with
  |none=>rw[hr]at h;cases h
  |some m=>rw[hr]at h;exact(List.Perm.cons _ (QN h)).trans (abD hr).symm
 |(_, .row _ _ _ _)::_,_,h=>by cases h
 |(_, .aux _)::_,_,h=>by cases h
 |(_, .gm)::_,_,h=>by cases h
 |(_, .fm _ _ _)::_,_,h=>by cases h
theorem xC{p:Nat->Bool}:∀{O:Os G},O.Perm (bK (λq=> !p q) O++bK p O)
 |[]=> .refl _
 |(k,v)::r=>by
  unfold bK;cases hb:p k with
  |true=>exact(List.Perm.cons _ xC).trans List.perm_middle.symm
  |false=>exact List.Perm.cons _ xC
inductive Kd where
 |d|p|s
def ae1(A:List Nat)(ws:List (Nat×Nat))(o:Oper)(i nx:Nat)(pr:Fr G):Prop:=(o.dst=none/\pr=[])\/∃d v,o.dst=some d/\pr=[(d,v)]/\v.lt nx=true/\∀j w x,v= .gd j w x->TL A i j ws=true
def lyD(F0:Fr G)(D0:List (AV G))(M:Os G)(rd ac:List Nat):Ly G:=⟨F0,bK (λq=>cv rd q&& !cv ac q) M,D0⟩
structure StD(P:Program)(N:Nat)(C:CC G)(ops:Array Oper)(A:List Nat)(ws:List (Nat×Nat))(F0:Fr G)(D0:List (AV G))(o:Oper)(i:Nat)(rd ac:List Nat)(on:Os G)(pr:Fr G)(T T':DS G):Prop where
 RM:ZQ A i rd ac (jd on) T.lg=true
 lF:Wk T.nx (jM (λd=>BO A i d ws) T.F)=true
 run:∃(r0 sm a0:List Nat) (S1:AS G),((∀x∈r0,x∈rd)/\(∀x∈sm,x∈rd/\x∉ac)/\∀x,x∈a0↔x∈ac\/x∈sm)/\yP T.nx (lyD F0 D0 T.M r0 a0::C)=true/\uY T.nx (bK (cv a0) T.M)=true/\uY S1.nx S1.O=true/\
  US P N (lyD F0 D0 T.M r0 a0::C) (.ops ops [o]) ⟨jM (λd=>BO A i d ws) T.F,bK (cv a0) T.M,T.nx,[]⟩ S1 .jK/\S1.D=[]/\S1.O.Perm (on++bK (cv sm) T.M)/\T.nx<=S1.nx/\T'.nx=S1.nx/\∀d v,(d,v)∈pr->dm S1.F d=some v
 pk:ae1 A ws o i T'.nx pr
 F':T'.F=pr++T.F
 M':T'.M=on++bK (λq=> !cv ac q) T.M
 lg':T'.lg=⟨i,rd,ac,jd on⟩::T.lg
structure StP(P:Program)(N:Nat)(C:CC G)(ops:Array Oper)(A:List Nat)(ws:List (Nat×Nat))(F0:Fr G)(D0:List (AV G))(o:Oper)(i:Nat)(rd ac:List Nat)(v:AV G)(T:DS G)(S':AS G):Prop where
 RM:ZQ A i rd ac [] T.lg=true
 chu:okU A i T.lg=true
 lC:yP T.nx (lyD F0 D0 T.M rd ac::C)=true
 lF:Wk T.nx (jM (λd=>BO A i d ws) T.F)=true
 lO:uY T.nx (bK (cv ac) T.M)=true
 lM:uY T.nx T.M=true
 run:∃S1,US P N (lyD F0 D0 T.M rd ac::C) (.ops ops [o]) ⟨jM (λd=>BO A i d ws) T.F,bK (cv ac) T.M,T.nx,[]⟩ S1 (.wY v)/\S1.D=[]/\T.nx<=S1.nx/\
  S'=⟨F0,S1.O++bK (λq=> !cv ac q) (bK (λq=> !cv (unN A i T.lg) q) T.M),S1.nx,D0⟩
structure Tc(G:Sg) where
 T:Nat->DS G
 kd:Nat->Kd
 rd:Nat->List Nat
 ac:Nat->List Nat
 on:Nat->Os G
 pr:Nat->Fr G
def jh(P:Program)(N:Nat)(C:CC G)(ops:Array Oper)(A:List Nat)(ws:List (Nat×Nat))(F0:Fr G)(D0:List (AV G))(t:Tc G)(o:Oper)(q:Nat):Prop:=match t.kd q with
 | .d=>StD P N C ops A ws F0 D0 o q (t.rd q) (t.ac q) (t.on q) (t.pr q) (t.T q) (t.T (q+1))
 |_ =>t.T (q+1)=t.T q/\t.pr q=[]
theorem jh.congr{t t':Tc G}{o:Oper}{q:Nat}(h:jh P N C ops A ws F0 D0 t o q)(e1:t'.T q=t.T q)(e2:t'.T (q+1)=t.T (q+1))(e3:t'.kd q=t.kd q)(e4:t'.ac q=t.ac q)(e5:t'.rd q=t.rd q)(e6:t'.pr q=t.pr q)(e7:t'.on q=t.on q):jh P N C ops A ws F0 D0 t' o q:=by unfold jh at h ⊢;rw[e1,e2,e3,e4,e5,e6,e7];exact h
def Tc.put(t:Tc G)(i:Nat)(T:DS G)(k:Kd)(rd ac:List Nat)(on:Os G)(pr:Fr G):Tc G:=⟨λx=>if x=i then T else t.T x,λx=>if x=i then k else t.kd x,λx=>if x=i then rd else t.rd x,λx=>if x=i then ac else t.ac x,λx=>if x=i then on else t.on x,λx=>if x=i then pr else t.pr x⟩
section
variable (t:Tc G) (i:Nat) (T:DS G) (k:Kd) (rd ac:List Nat) (on:Os G) (pr:Fr G)
theorem Tc.sy:(t.put i T k rd ac on pr).T i=T/\(t.put i T k rd ac on pr).kd i=k/\(t.put i T k rd ac on pr).rd i=rd/\(t.put i T k rd ac on pr).ac i=ac/\(t.put i T k rd ac on pr).on i=on/\(t.put i T k rd ac on pr).pr i=pr:=by simp[Tc.put]
theorem Tc.uy{x:Nat}(h:x≠i):(t.put i T k rd ac on pr).T x=t.T x/\(t.put i T k rd ac on pr).kd x=t.kd x/\(t.put i T k rd ac on pr).rd x=t.rd x/\(t.put i T k rd ac on pr).ac x=t.ac x/\(t.put i T k rd ac on pr).on x=t.on x/\(t.put i T k rd ac on pr).pr x=t.pr x:=by simp[Tc.put,h]
end
theorem jh.ac1{t:Tc G}{o:Oper}{q i:Nat}{T:DS G}{k:Kd}{rd ac:List Nat}{on:Os G}{pr:Fr G}(h:jh P N C ops A ws F0 D0 t o q)(hq:i<q):jh P N C ops A ws F0 D0 (t.put i T k rd ac on pr) o q:=by obtain⟨a1,a2,a3,a4,a5,a6⟩:=t.uy i T k rd ac on pr (show q≠i from by omega);obtain⟨b1,_⟩:=t.uy i T k rd ac on pr (show q+1≠i from by omega);exact h.congr a1 b1 a2 a4 a3 a6 a5
theorem jh.first{t:Tc G}{o:Oper}{i:Nat}{T T1:DS G}{k:Kd}{rd ac:List Nat}{on:Os G}{pr:Fr G}(hT:t.T (i+1)=T1)(h:match k with
 | .d=>StD P N C ops A ws F0 D0 o i rd ac on pr T T1
 |_ =>T1=T/\pr=[]):jh P N C ops A ws F0 D0 (t.put i T k rd ac on pr) o i:=by
 obtain⟨a1,a2,a3,a4,a5,a6⟩:=t.sy i T k rd ac on pr;obtain⟨b1,_⟩:=t.uy i T k rd ac on pr (x:=i+1) (by omega);unfold jh;rw[a1,a2,a3,a4,a5,a6,b1,hT];exact h
def Tc.one(T:DS G):Tc G:=⟨λ_ =>T,λ_ => .s,λ_ =>[],λ_ =>[],λ_ =>[],λ_ =>[]⟩
theorem acY{o:Oper}{i nx:Nat}{F S F':Fr G}(h:acZ A ws i nx o.dst F S=some F'):∃pr,ae1 A ws o i nx pr/\F'=pr++F/\∀d v,(d,v)∈pr->dm S d=some v:=by
 unfold acZ at h;split at h
 ·rename_i hd;cases h;exact⟨[], .inl ⟨hd,rfl⟩,rfl,by simp⟩
 ·rename_i d hd
  split at h
  ·rename_i v hv
   cases hb:(v.lt nx&&aht A ws i v)with
   |false=>rw[hb]at h;cases h
   |true=>
    rw[hb]at h;cases h;rw[akg]at hb;refine⟨[(d,v)], .inr ⟨d,v,hd,rfl,hb.1,λj w x e=>?_⟩,rfl,λd' v' hm=>?_⟩
    ·subst e;exact hb.2
    ·simp at hm;rw[hm.1,hm.2];exact hv
  ·cases h
section
variable {Z:Type} {rec:WT G Z} {cp:List Nat} {z:Z} {tb:wS P G}
theorem ab0(bJ:qe P rec){o:Oper}{i:Nat}{T:DS G}{kn:DS G->List Nat->List Nat->Option Z}{kp:AV G->AS G->List Nat->List Nat->Option Z}(h:drS tb rec N cp C ops A ws F0 D0 o i T kn kp=some z):
  (∃rd ac on pr T',StD P N C ops A ws F0 D0 o i rd ac on pr T T'/\kn T' ac (jd on)=some z)\/∃rd ac v S',StP P N C ops A ws F0 D0 o i rd ac v T S'/\kp v S' rd ac=some z:=by
 unfold drS at h;dsimp only at h;revert h;generalize ahQ tb (⟨F0,[],[]⟩::C) ⟨jM (λd=>BO A i d ws) T.F,T.M,T.nx,[]⟩ ops o=ra;obtain⟨rd,ac⟩:=ra;intro h;dsimp only at h;cases hb:(yP T.nx ((⟨F0,bK (λq=>cv rd q&& !cv ac q) T.M,D0⟩:Ly G)::C)&&(Wk T.nx (jM (λd=>BO A i d ws) T.F)&&uY T.nx (bK (cv ac) T.M)))with
 |false=>rw[hb]at h;cases h
 |true=>
  rw[hb]at h;simp only[akg]at hb;obtain⟨e,S1,k1,k2,k3⟩:=bJ _ _ _ _ _ _ _ h;have k2:T.nx<=S1.nx:=k2;split at k1
  ·rename_i hD
   generalize KT:smN T.M S1.O ac=sm at k1;have hs1:∀x∈sm,x∈ac:=λx hx=>Lt (KT▸hx);cases hn:(Nat.ble T.nx S1.nx&&(uY S1.nx S1.O&&(Nf (bK (cv sm) T.M) (bK (cv sm) S1.O)&&ZQ A i (rd++sm) (HP sm ac) (jd (bK (λq=> !cv sm q) S1.O)) T.lg)))with
   |false=>rw[hn]at k1;cases k1
   |true=>
    rw[hn]at k1;simp only[akg]at hn;simp only[cond_true]at k1;split at k1
    ·rename_i F' hF
     obtain⟨pr,p1,p2,p3⟩:=acY hF;refine .inl ⟨rd++sm,HP sm ac,bK (λq=> !cv sm q) S1.O,pr,_,⟨hn.2.2.2,hb.2.1,⟨rd,sm,ac,S1,⟨λx hx=>akk _ hx,λx hx=>⟨akj _ hx,λh=>(zn.1 h).2 hx⟩,λx=>⟨λhx=>?_,λhx=>?_⟩⟩,hb.1,hb.2.2,hn.2.1,k3,hD,?_,k2,rfl,p3⟩,p1,p2,rfl,rfl⟩,k1⟩
     ·cases hm:cv sm x with
      |true=>exact .inr (nM.1 hm)
      |false=>exact .inl (zn.2 ⟨hx,λh=>by rw[nM.2 h]at hm;cases hm⟩)
     ·rcases hx with hx|hx
      ·exact(zn.1 hx).1
      ·exact hs1 x hx
     ·exact(xC (p:=cv sm)).trans (List.Perm.append_left _ (QN hn.2.2.1).symm)
    ·cases k1
  ·rename_i v hD
   cases hn:(Nat.ble T.nx S1.nx&&(ZQ A i rd ac [] T.lg&&(okU A i T.lg&&uY T.nx T.M)))with
   |false=>rw[hn]at k1;cases k1
   |true=>rw[hn]at k1;simp only[akg]at hn;exact .inr ⟨rd,ac,v,_,⟨hn.2.1,hn.2.2.1,hb.1,hb.2.1,hb.2.2,hn.2.2.2,S1,k3,hD,k2,rfl⟩,k1⟩
  ·cases k1
def DX(A:List Nat)(j:Nat)(zj:List Nat)(t:Tc G)(q:Nat):Prop:=(t.kd q= .d/\t.ac q=[]/\∀x∈jd (t.on q),x∉zj)\/(t.kd q= .s/\n6 A q j=true)
theorem ahD(bJ:qe P rec){j:Nat}{zj:List Nat}{k:Option Z}:∀{l:List Oper} {i:Nat} {T:DS G},drP tb rec N cp C ops A ws F0 D0 j zj k l i T=some z->k=some z/\∃t:Tc G,t.T i=T/\∀q o,i<=q->l[q-i]? =some o->jh P N C ops A ws F0 D0 t o q/\DX A j zj t q:=by
 intro l
 induction l with
 |nil=>intro i T h;exact⟨h,Tc.one T,rfl,λq o _ e=>by simp at e⟩
 |cons o r ih=>
  intro i T h;unfold drP at h;have iH:∀{T1:DS G} {kd:Kd} {rd ac:List Nat} {on:Os G} {pr:Fr G} {t:Tc G},t.T (i+1)=T1->(∀q o,i+1<=q->r[q-(i+1)]? =some o->jh P N C ops A ws F0 D0 t o q/\DX A j zj t q)->
    (match kd with
     | .d=>StD P N C ops A ws F0 D0 o i rd ac on pr T T1
     |_ =>T1=T/\pr=[])->((kd= .d/\ac=[]/\∀x∈jd on,x∉zj)\/(kd= .s/\n6 A i j=true))->∃t:Tc G,t.T i=T/\∀q o',i<=q->(o::r)[q-i]? =some o'->jh P N C ops A ws F0 D0 t o' q/\DX A j zj t q:=by
   intro T1 kd rd ac on pr t hT hs h1 h2;refine⟨t.put i T kd rd ac on pr,(t.sy i T kd rd ac on pr).1,λq o' hq ho=>?_⟩;by_cases e:q=i
   ·subst e
    rw[Nat.sub_self]at ho;cases ho;refine⟨jh.first hT h1,?_⟩;obtain⟨_,a2,_,a4,a5,_⟩:=t.sy q T kd rd ac on pr;unfold DX;rw[a2,a4,a5];exact h2
   ·rw[show q-i=(q-(i+1))+1 from by omega]at ho
    obtain⟨s1,s2⟩:=hs q o' (by omega) ho;refine⟨s1.ac1 (by omega),?_⟩;obtain⟨_,a2,_,a4,a5,_⟩:=t.uy i T kd rd ac on pr e;unfold DX;rw[a2,a4,a5];exact s2
  cases hb:n6 A i j with
  |true=>rw[hb]at h;obtain⟨k1,t,k2,k3⟩:=ih h;exact⟨k1,iH (kd:= .s) (rd:=[]) (ac:=[]) (on:=[]) k2 k3 ⟨rfl,rfl⟩ (.inr ⟨rfl,hb⟩)⟩
  |false=>
   rw[hb]at h;simp only[cond_false]at h;rcases ab0 bJ h with⟨rd,ac,on,pr,T',s1,s2⟩|⟨rd,ac,v,S',_,s2⟩
   ·cases hc:(agq ac&&PX (jd on) zj)with
    |false=>rw[hc]at s2;cases s2
    |true=>
     rw[hc]at s2;simp only[akg]at hc;obtain⟨k1,t,k2,k3⟩:=ih s2;refine⟨k1,iH (kd:= .d) k2 k3 s1 (.inl ⟨rfl,?_,PW hc.2⟩)⟩;cases ac with
     |nil=>rfl
     |cons _ _ =>cases hc.1
   ·cases s2
def ab9(P:Program)(N:Nat)(C:CC G)(ops:Array Oper)(A:List Nat)(ws:List (Nat×Nat))(F0:Fr G)(D0:List (AV G))(l:List Oper)(i:Nat)(t:Tc G)(e:Ex G)(S':AS G):Prop:=(∀q o,i<=q->l[q-i]? =some o->jh P N C ops A ws F0 D0 t o q)/\ ((e= .jK/\S'=⟨(t.T (i+l.length)).F++F0,(t.T (i+l.length)).M,(t.T (i+l.length)).nx,D0⟩/\∀q,i<=q->q<i+l.length->t.kd q= .d)\/ ∃j o v rd ac,i<=j/\l[j-i]? =some o/\t.kd j= .p/\e= .wY v/\StP P N C ops A ws F0 D0 o j rd ac v (t.T j) S'/\(∀q,i<=q->q<j->t.kd q= .d)/\∀q,j<q->q<i+l.length->DX A j (rd++ac) t q)
theorem ahC(bJ:qe P rec){K:Ex G->AS G->Option Z}:∀{l:List Oper} {i:Nat} {T:DS G},drW tb rec N cp C ops A ws F0 D0 K l i T=some z->∃(t:Tc G) (e:Ex G) (S':AS G),K e S'=some z/\t.T i=T/\ab9 P N C ops A ws F0 D0 l i t e S':=by
 intro l
 induction l with
 |nil=>intro i T h;exact⟨Tc.one T, .jK,_,h,rfl,λq o _ e=>by simp at e, .inl ⟨rfl,rfl,λq h1 h2=>by simp at h2;omega⟩⟩
 |cons o r ih=>
  intro i T h;unfold drW at h;rcases ab0 bJ h with⟨rd,ac,on,pr,T1,h1,hw⟩|⟨rd,ac,v,S',h1,hw⟩
  ·obtain⟨t,e,S',k1,k2,k3,k4⟩:=ih hw
   refine⟨t.put i T .d rd ac on pr,e,S',k1,(t.sy i T .d rd ac on pr).1,λq o' hq ho=>?_,?_⟩
   ·by_cases e:q=i
    ·subst e
     rw[Nat.sub_self]at ho;cases ho;exact jh.first k2 h1
    ·rw[show q-i=(q-(i+1))+1 from by omega]at ho
     exact(k3 q o' (by omega) ho).ac1 (by omega)
   ·have hlen:i+(o::r).length=i+1+r.length:=by simp;omega
    rcases k4 with⟨e1,e2,e3⟩|⟨j,oj,v,rdj,acj,j1,j2,j3,j4,j5,j6,j7⟩
    ·refine .inl ⟨e1,?_,λq q1 q2=>?_⟩
     ·rw[hlen,(t.uy i T .d rd ac on pr (show i+1+r.length≠i from by omega)).1];exact e2
     ·by_cases e:q=i
      ·subst e;exact(t.sy q T .d rd ac on pr).2.1
      ·rw[(t.uy i T .d rd ac on pr e).2.1];exact e3 q (by omega) (by omega)
    ·have jne:j≠i:=by omega
     refine .inr ⟨j,oj,v,rdj,acj,by omega,?_,?_,j4,?_,λq q1 q2=>?_,λq q1 q2=>?_⟩
     ·rw[show j-i=(j-(i+1))+1 from by omega];exact j2
     ·rw[(t.uy i T .d rd ac on pr jne).2.1];exact j3
     ·rw[(t.uy i T .d rd ac on pr jne).1];exact j5
     ·by_cases e:q=i
      ·subst e;exact(t.sy q T .d rd ac on pr).2.1
      ·rw[(t.uy i T .d rd ac on pr e).2.1];exact j6 q (by omega) q2
     ·obtain⟨_,a2,_,a4,a5,_⟩:=t.uy i T .d rd ac on pr (show q≠i from by omega)
      unfold DX;rw[a2,a4,a5];exact j7 q q1 (by omega)
  ·obtain⟨m1,t,m2,m3⟩:=ahD bJ hw
   refine⟨t.put i T .p [] [] [] [], .wY v,_,m1,(t.sy i T .p [] [] [] []).1,λq o' hq ho=>?_, .inr ⟨i,o,v,rd,ac,Nat.le_refl _,by simp,(t.sy i T .p [] [] [] []).2.1,rfl,?_,λq q1 q2=>by omega,λq q1 q2=>?_⟩⟩
   ·by_cases e:q=i
    ·subst e
     rw[Nat.sub_self]at ho;cases ho;exact jh.first m2 ⟨rfl,rfl⟩
    ·rw[show q-i=(q-(i+1))+1 from by omega]at ho
     exact(m3 q o' (by omega) ho).1.ac1 (by omega)
   ·rw[(t.sy i T .p [] [] [] []).1];exact h1
   ·have hlt:q-(i+1)<r.length:=by simp at q2;omega
    obtain⟨_,a2,_,a4,a5,_⟩:=t.uy i T .p [] [] [] [] (show q≠i from by omega);unfold DX;rw[a2,a4,a5];exact(m3 q _ (by omega) (akm hlt)).2
end
end Go.Rw
