/- Part 11 of what a proof leans on; pruned and shortened by a program out of longer texts. -/
import Derived.Test.YtioeklchieeebaaGreatDoorQ10
namespace Go.Rw
open Go Go.Bw Go.RowKit
variable {G:Sg} {P:Program} {N:Nat} {C:CC G} {B:Type}
def ylY(y:B)(t f:Option (List B)):Option (List B):=match f with
 |some []=>yl y t
 |_ =>none
theorem YO{y:B}{t f:Option (List B)}{r:List B}(h:ylY y t f=some r):f=some []/\∃r',t=some r'/\r=y::r':=by
 unfold ylY at h;split at h
 ·obtain⟨r',h1,h2⟩:=acT h
  exact⟨rfl,r',h2,h1⟩
 ·cases h
def yOp(C:CC G)(S:AS G)(o:Oper):Option (AV G):=match o.op with
 | .call ⟨.value _,args,_⟩=>IJ (ei C S []) args.toList
 |_ =>none
def Um(yn:Nat)(C:CC G)(S:AS G)(ch:List (Nat×Bool))(o:Oper):Bool:=match o.op with
 | .call ⟨.value f,_,_⟩=>match ei C S ch f with
  |some (.mp k)=>Nat.beq k yn
  |_ =>false
 |_ =>false
def afP(yn:Nat)(C:CC G)(S:AS G)(all:Array Oper)(o:Oper):Bool:=match o.guard with
 |none=>Um yn C S [] o
 |some (j,w)=>match D4 all j with
  |some dj=>Um yn C S (chain C S 8 dj w) o
  |none=>false
abbrev WB(G:Sg)(B:Type):=WT G (List B)
def He(ys:Sh)(de:HL G (aK ys)->B)(sY:WB G B)(N:Nat)(cp:List Nat)(C:CC G)(all:Array Oper)(r:List Oper)(d:Option Tmp)(v:AV G)(S:AS G)(K:Ex G->AS G->Option (List B)):Option (List B):=match j0 ys v ⟨[],[],S.nx⟩with
 |some (x,_)=>match rE N C d (.kb true) S,rE N C d (.kb false) S with
  |some S1,some S2=>ylY (de x) (sY N cp C (.ops all r) S1 K) (sY N cp C (.ops all r) S2 K)
  |_,_ =>none
 |none=>none
def N9(tb:uo P G)(yn:Nat)(ys:Sh)(de:HL G (aK ys)->B)(Wn sY:WB G B):WB G B:=λN cp C cf S K=>match cf with
 | .ops _ []=>K .gq S
 | .ops all (o::r)=>match afP yn C S all o with
  |false=>Wn N cp C (.ops all [o]) S λe S1=>match e with
   | .gq=>sY N cp C (.ops all r) S1 K
   |_ =>none
  |true=>match o.guard with
   |none=>bif Um yn C S [] o then(match yOp C S o with
    |some v=>He ys de sY N cp C all r o.dst v S K
    |none=>none)else none
   |some (j,w)=>match D4 all j with
    |some dj=>(match Q9 C S 8 dj w with
     |some true=>bif Um yn C S [] o then(match yOp C S o with
      |some v=>He ys de sY N cp C all r o.dst v S K
      |none=>none)else none
     |some false=>Wn N cp C (.ops all [o]) S λe S1=>match e with
      | .gq=>sY N cp C (.ops all r) S1 K
      |_ =>none
     |none=>(match FD C S 8 dj with
      |some (k,b)=>bif w then cn b (sY N cp C (.ops all (o::r)) {S with F:=(k, .kb true)::S.F} K) (sY N cp C (.ops all (o::r)) {S with F:=(k, .kb false)::S.F} K)else cn (b==false) (sY N cp C (.ops all (o::r)) {S with F:=(k, .kb false)::S.F} K) (sY N cp C (.ops all (o::r)) {S with F:=(k, .kb true)::S.F} K)
      |none=>none))
    |none=>none
 | .code c=>match c with
  | .skip=>K .gq S
  | .label _ =>K .gq S
  | .ret=>K .ret S
  | .exit i=>K (.exit i) S
  | .region _ ops false=>sY N cp C (.ops ops ops.toList) S K
  | .region i ops true=>Wn N cp C (.code (.region i ops true)) S λe S1=>match e with
   | .gq=>K .gq S1
   |_ =>none
  | .block i x=>sY N cp C (.code x) S λe S'=>match e with
   | .exit j=>bif Nat.beq i j then K .gq S' else K (.exit j) S'
   |e=>K e S'
  | .cond x a b=>match ei C S [] x with
   |some (.bool t)=>cn t (sY N cp C (.code a) S K) (sY N cp C (.code b) S K)
   |some (.kb t)=>sY N cp C (.code (bif t then a else b)) S K
   |_ =>none
  | .seq x y=>sY N cp C (.code x) S λe S'=>match e with
   | .gq=>sY N cp C (.code y) S' K
   |e=>K e S'
  | .loop x=>(match(match Mc x with
    |some i=>tb.hint cp (i+i+1)
    |none=>none)with
   |some (.loop gl)=>(match T4 C S gl with
    |none=>none
    |some g=>match jg C S g.l with
    |S=>match AU C S g.l with
    |some v=>match j0 (o7 g.l) v ⟨[],S.O,S.nx⟩with
     |some (x0,g')=>bif s0 g.nm g'.th&&s5 S.nx g.nm then
       (match(⟨gw (λd=> !(cv (E8 x) d||vJ g.l d)) S.F,g'.O,S.D⟩:Ly G)with
       |ly=>bif uN S.nx (ly::C)then Uf (tb.vw (match Mc x with
        |some i=>i
        |none=>0) (aK (o7 g.l))) (λgo e=>sY N cp (ly::C) (.code x) (EP g S.nx e) λe1 S1=>match e1 with
         | .gq=>match DP (ly::C) (jg (ly::C) S1 g.l) g S.nx with
          |some e=>go e
          |none=>none
         |e1=>K e1 (G8 ly S1)) tb.fu x0
        else none)
      else none
     |none=>none
    |none=>none)
   |_ =>none)
  |_ =>none
 | .lp _ =>none
noncomputable def WY(tb:uo P G)(yn:Nat)(ys:Sh)(de:HL G (aK ys)->B):Nat->WB G B
 |0=>λ_ _ _ _ _ _ =>none
 |n+1=>N9 tb yn ys de (W tb n) (WY tb yn ys de n)
theorem Ml{F:Fence}{n:Nat}{all:Array Oper}{o:Oper}{r:List Oper}{a:Act}{w:World}{Q Q1:Exit->Act->World->Prop}(h:wpListIn F n P all Q1 [o] a w)(hk:∀a' w',Q1 .normal a' w'->wpListIn F n P all Q r a' w')(hq:∀e a w,e≠ .normal->Q1 e a w->Q e a w):
  wpListIn F n P all Q (o::r) a w:=by
 refine wpListIn_step λK hK=>?_;unfold wpListIn at h;split
 ·rename_i hw
  rw[aiz hw]at h;exact Da hq (Oper.wpIn_mono (λa' w' q=>hK _ _ (hk a' w' q)) h)
 ·rename_i hw
  rw[aiA hw]at h;exact⟨h.1,hK _ _ (hk _ _ h.2)⟩
inductive CK(G:Sg):Sh->Type where
 |nil:CK G .nil
 |int {k:IntKind} {s:Sh} (h:CK G s):CK G (.cons (.v (.int k)) s)
 |bool {s:Sh} (h:CK G s):CK G (.cons (.v .bool) s)
 |st {i:Nat} {s:Sh} (enc:G.S i->List Value) (ok:∀J cs x,(G.L i).ef J cs x↔cs=enc x) (h:CK G s):CK G (.cons (.v (.st i)) s)
def CK.us:{s:Sh}->CK G s->HL G (aK s)->List Value
 |_, .nil,_ =>[]
 |_, .int (k:=k) h,x=> .int k x.1::h.us x.2
 |_, .bool h,x=> .bool x.1::h.us x.2
 |_, .st enc _ h,x=> .agg (enc x.1).toArray::h.us x.2
def CK.n:{s:Sh}->CK G s->Nat
 |_, .nil=>0
 |_, .int h=>h.n+1
 |_, .bool h=>h.n+1
 |_, .st _ _ h=>h.n+1
theorem CK.len:∀{s:Sh} (q:CK G s) (x:HL G (aK s)),(q.us x).length=q.n
 |_, .nil,_ =>rfl
 |_, .int h,x=>by simp[CK.us,CK.n,h.len x.2]
 |_, .bool h,x=>by simp[CK.us,CK.n,h.len x.2]
 |_, .st _ _ h,x=>by simp[CK.us,CK.n,h.len x.2]
theorem CK.ok{J:World->Prop}{σ:aX}{f:Nat->Nat}:∀{s:Sh} (q:CK G s) (x:HL G (aK s)) (m:Nat) (us:List Value),rl J σ (dP f s x m).1 us↔us=q.us x
 |_, .nil,_,_,us=>Iff.rfl
 |_, .int (k:=k) h,x,m,us=>by
  show(∃u r,us=u::r/\[u]=[.int k x.1]/\rl J σ (dP f _ x.2 m).1 r)↔_;constructor
  ·rintro⟨u,r,rfl,h1,h2⟩
   cases h1;rw[(h.ok x.2 m r).1 h2];rfl
  ·intro e
   exact⟨_,_,e,rfl,(h.ok x.2 m _).2 rfl⟩
 |_, .bool h,x,m,us=>by
  show(∃u r,us=u::r/\[u]=[.bool x.1]/\rl J σ (dP f _ x.2 m).1 r)↔_;constructor
  ·rintro⟨u,r,rfl,h1,h2⟩
   cases h1;rw[(h.ok x.2 m r).1 h2];rfl
  ·intro e
   exact⟨_,_,e,rfl,(h.ok x.2 m _).2 rfl⟩
 |_, .st (i:=i) enc ok h,x,m,us=>by
  show(∃u r,us=u::r/\(∃u',[u]=[u']/\sX J (.st i) x.1 u')/\rl J σ (dP f _ x.2 m).1 r)↔_;constructor
  ·rintro⟨u,r,rfl,⟨u',e,h1,h3,_⟩,h2⟩
   cases e;obtain⟨cs,rfl⟩:=h3 rfl;have:(Value.agg cs.toArray).cells.toList=cs:=by simp[Value.cells]
   rw[this]at h1;rw[(h.ok x.2 m r).1 h2,(ok J cs x.1).1 h1];rfl
  ·intro e
   refine⟨_,_,e,⟨_,rfl,?_,λ_ =>⟨_,rfl⟩,nofun⟩,(h.ok x.2 m _).2 rfl⟩;have:(Value.agg (enc x.1).toArray).cells.toList=enc x.1:=by simp[Value.cells]
   rw[this];exact(ok J _ x.1).2 rfl
structure YC(P:Program)(G:Sg)(ys:Sh)(B:Type) where
 de:HL G (aK ys)->B
 en:B->HL G (aK ys)
 uq:CK G ys
 l:List B
 qK:Nat->List Value
 yn:Nat
 ly:Nat
 Jy:Nat->List Nat->World->Prop
 Jx:List Nat->World->Prop
 UD:List Nat
 w1:World
 X0:List aF
 hR:Rnd P ly UD w1 Jy Jx qK l.length
 he:∀x,en (de x)=x
 enc:∀i x,l[i]? =some x->qK i=uq.us (en x)
def YC.md{ys:Sh}(q:YC P G ys B)(m:Bool×Nat)(bs:List Nat):aF:= .ext bs (bif m.1 then q.Jy m.2 bs else q.Jx bs)
def YC.Sb{ys:Sh}(q:YC P G ys B)(m:Bool×Nat)(r:List B):Prop:=(m.1=true/\q.l.drop m.2=r/\m.2<=q.l.length)\/(m.1=false/\r=[])
structure YC.at {ys:Sh}(q:YC P G ys B)(c:Cx)(ρ:aX)(X:List aF)(n:Nat):Prop where
 lt:q.yn<n
 ro:c.ro=none
 own:∀b,(b∈c.bs\/c.w0.heap.size<=b)->b∉bn q.X0->(b∈q.UD\/q.w1.heap.size<=b)
 si:∀w',aO c.bs c.w0 w'->Hs q.X0 w'->aO q.UD q.w1 w'
 sub:∀r∈q.X0,r∈X
 yv:ρ q.yn=some (.func (.yield q.ly) #[] #[])
theorem YC.at.fA{ys:Sh}{q:YC P G ys B}{c:Cx}{ρ ρ':aX}{X:List aF}{n n':Nat}(h:q.at c ρ X n)(m:ρ.to ρ' n)(Y:List aF)(hn:n<=n'):q.at c ρ' (Y++X) n':=⟨Nat.lt_of_lt_of_le h.lt hn,h.ro,h.own,h.si,λr hr=>aiF _ (h.sub r hr),(m _ h.lt).trans h.yv⟩
def Eg{ys:Sh}(q:YC P G ys B)(c:Cx)(N:Nat)(C:CC G)(ρ:aX)(J:World->Prop)(HK X:List aF)(n:Nat)(K:Ex G->AS G->Option (List B))(Q:Exit->Act->World->Prop):Prop:=∀(e:Ex G) (S':AS G) (r':List B),K e S'=some r'->∀(ρ':aX) (J':World->Prop) (Y:List aF) (a':Act) (w':World) (me:Exit) (m':Bool×Nat) (bs':List Nat),q.Sb m' r'->ρ.to ρ' n->(∀w,J' w->J w)->S5 J' ρ' e me->n<=S'.nx-> Rl c N ρ' J' (q.md m' bs'::HK) (Y++X) C S' a' w'->Q me a' w'
theorem Eg.fA{ys:Sh}{q:YC P G ys B}{c:Cx}{ρ ρ1:aX}{J J1:World->Prop}{HK X Y:List aF}{n m:Nat}{K:Ex G->AS G->Option (List B)}{Q:Exit->Act->World->Prop}(h:Eg q c N C ρ J HK X n K Q)(h1:ρ.to ρ1 n)(h2:∀w,J1 w->J w)(hn:n<=m):Eg q c N C ρ1 J1 HK (Y++X) m K Q:=
 λe S' r' hK ρ' J' Y' a' w' me m' bs' k0 k1 k2 k3 k5 k4=>h e S' r' hK ρ' J' (Y'++Y) a' w' me m' bs' k0 (h1.trans k1 hn) (λw q=>h2 w (k2 w q)) k3 (Nat.le_trans hn k5) (by rw[List.append_assoc];exact k4)
def wc(P:Program){ys:Sh}(q:YC P G ys B)(rec:WB G B):Prop:=∀(N:Nat) (cp:List Nat) (C:CC G) (cf:Cf) (S:AS G) (K:Ex G->AS G->Option (List B)) (r:List B),rec N cp C cf S K=some r-> ∀(c:Cx) (ρ:aX) (J:World->Prop) (HK X:List aF) (a:Act) (w:World) (Q:Exit->Act->World->Prop) (m:Bool×Nat) (bs:List Nat),q.at c ρ X S.nx->q.Sb m r->Rl c N ρ J (q.md m bs::HK) X C S a w->Eg q c N C ρ J HK X S.nx K Q->Rn P c cf Q a w
theorem Eg.here{ys:Sh}{q:YC P G ys B}{c:Cx}{ρ:aX}{J:World->Prop}{HK X:List aF}{S:AS G}{e:Ex G}{K:Ex G->AS G->Option (List B)}{Q:Exit->Act->World->Prop}{a:Act}{w:World}{me:Exit}{r:List B}{m:Bool×Nat}{bs:List Nat}(h:Eg q c N C ρ J HK X S.nx K Q)(hK:K e S=some r)(hm:q.Sb m r)
  (hr:Rl c N ρ J (q.md m bs::HK) X C S a w)(he:S5 J ρ e me):Q me a w:=
 h e S r hK ρ J [] a w me m bs hm (aX.cL _ _) (λ_ h=>h) he (Nat.le_refl _) hr
theorem Rl.hk{c:Cx}{ρ:aX}{J:World->Prop}{HK HK' X:List aF}{S:AS G}{a:Act}{w:World}(h:Rl c N ρ J HK X C S a w)(p:HK.Perm HK'):Rl c N ρ J HK' X C S a w:=by obtain⟨HS,q1,q3⟩:=h.hp;refine⟨h.tm,h.df,h.si,h.fs,h.fc,λr o e=>?_,⟨HS,q1,q3.gK (List.Perm.append_left _ (p.append_right _))⟩,h.kn,h.fr⟩;obtain⟨y,y1,y2⟩:=h.kc r o e;exact⟨y,p.mem_iff.1 y1,y2⟩
section
variable {ys:Sh} {q:YC P G ys B} {tb:uo P G} {rec:WB G B} {c:Cx} {ρ:aX} {J:World->Prop} {HK X:List aF} {S:AS G} {a:Act} {w:World} {Q:Exit->Act->World->Prop} {m:Bool×Nat} {bs:List Nat} {K:Ex G->AS G->Option (List B)} {r:List B}
theorem M9{Wn:WB G B}(hW:mT P Wn){cp:List Nat}{cf:Cf}{K1:AS G->Option (List B)}(h:Wn N cp C cf S (λe S1=>match e with
   | .gq=>K1 S1
   |_ =>none)=some r):∃S1,K1 S1=some r/\S.nx<=S1.nx/\US P N C cf S S1 .gq:=by
 obtain⟨e,S1,k1,k2,k3⟩:=hW _ _ _ _ _ _ _ h;cases e with
 |gq=>exact⟨S1,k1,k2,k3⟩
 |_ =>cases k1
theorem acU(br:wc P q rec){cp:List Nat}{all:Array Oper}{o:Oper}{rs:List Oper}{S1:AS G}(h:rec N cp C (.ops all rs) S1 K=some r)(hn:S.nx<=S1.nx)(hu:US P N C (.ops all [o]) S S1 .gq)(ha:q.at c ρ X S.nx)(hm:q.Sb m r)(hr:Rl c N ρ J (q.md m bs::HK) X C S a w)(hq:Eg q c N C ρ J HK X S.nx K Q):
  Rn P c (.ops all (o::rs)) Q a w:=by
 refine Ml (hu c ρ J (q.md m bs::HK) X a w (λe a w=>e= .normal/\wpListIn (FA c.ro) 0 P all Q rs a w) hr λρ' J' Y a' w' me k1 k2 k3 k4=>⟨gh k3,?_⟩) (λa w h=>h.2) (λe a w he h=>absurd h.1 he);exact br _ _ _ _ _ _ _ h c ρ' J' HK (Y++X) a' w' Q m bs (ha.fA k1 Y hn) hm k4 (hq.fA k1 k2 hn)
theorem aaG{J:World->Prop}{ρ:aX}{s:Sh}{v:AV G}{g':GS G}{n:Nat}{x:HL G (aK s)}{l:List Value}(h:j0 s v ⟨[],[],n⟩=some (x,g'))(hf:ρ.fr n)(hv:rl J ρ v l):∃τ,rl J τ (dP (λm=>m) s x 0).1 l:=by obtain⟨ρ2,HB,H',k⟩:=DQ h hv .nil hf;exact⟨_,k.val⟩
theorem Re(br:wc P q rec){cp:List Nat}{all:Array Oper}{rs:List Oper}{f:Operand}{args:Array Operand}{ats:Array TypeId}{d:Option Tmp}{ty:TypeId}{ps:String}{af:Array Edge}{g:Option (Nat×Bool)}{v:AV G}
  (hw:IN N all C S ⟨d, .call ⟨.value f,args,ats⟩,ty,ps,af,g⟩)(hf:ei C S [] f=some (.mp q.yn))(hv:IJ (ei C S []) args.toList=some v)(h:He ys q.de rec N cp C all rs d v S K=some r)
  (ha:q.at c ρ X S.nx)(hm:q.Sb m r)(hr:Rl c N ρ J (q.md m bs::HK) X C S a w)(hq:Eg q c N C ρ J HK X S.nx K Q):Rn P c (.ops all (⟨d, .call ⟨.value f,args,ats⟩,ty,ps,af,g⟩::rs)) Q a w:=by
 unfold He at h;split at h
 ·rename_i x g' hg
  split at h
  ·rename_i S1 S2 h1 h2
   obtain⟨hf0,r',ht,rfl⟩:=YO h;have hE:=bX hr (ch:=[]) (by simp);obtain⟨u,u1,u2,_⟩:=hE.ok _ _ hf;have e1:a.eval f= .func (.yield q.ly) #[] #[]:=by rw[ha.yv]at u1;cases u1;exact(List.cons.inj u2).1
   obtain⟨r2,_⟩:=rL hE hv;obtain⟨τ,hτ⟩:=aaG hg hr.fr r2;rcases hm with⟨m1,m2,m3⟩|⟨_,m2⟩
   ·obtain⟨mb,k⟩:=m
    dsimp only at m1 m2 m3;subst m1;have hk:q.l[k]? =some (q.de x):=by
     have:(q.l.drop k)[0]? =some (q.de x):=by rw[m2];rfl
     simpa using this
    have hlt:k<q.l.length:=(List.getElem?_eq_some_iff.1 hk).1;have af8:args.toList.map a.eval=q.qK k:=by rw[q.enc k _ hk,q.he, ← (q.uq.ok x 0 _).1 hτ]
    obtain⟨HS,q1,q3⟩:=hr.hp;have pm:∀x:aF,(HS++((x::HK)++X)).Perm (x::(HS++(HK++X))):=λx=>List.perm_middle;have q4:=q3.gK (pm _);have hXh:Hs q.X0 w:=BP q3 λr hr'=>aiF _ (aiF _ (ha.sub r hr'));have jZ:∀b∈bs,(b∈q.UD\/q.w1.heap.size<=b)/\b<w.heap.size:=λb hb=>by obtain⟨o1,o2⟩:=q4.own _ List.mem_cons_self b hb;refine⟨ha.own b o1 λhx=>?_,o2⟩;obtain⟨s,s1,s2⟩:=aV.1 hx;exact(List.pairwise_cons.1 q4.apart).1 s (by simp[ha.sub s s1]) b hb s2
    obtain⟨fn,tmps,assign,body,hy,hF,hrun⟩:=q.hR k hlt w bs (ha.si w hr.si.s hXh) jZ (q4.holds _ List.mem_cons_self);refine wpListIn_step λK1 hK=>?_;rw[aiz (hw c ρ J _ X a w hr)];refine⟨λ_ _ =>trivial,?_⟩;have hs:Oper.semAt (FA c.ro).round a.eval (⟨d, .call ⟨.value f,args,ats⟩,ty,ps,af,g⟩:Oper)=execOp a.eval ⟨d, .call ⟨.value f,args,ats⟩,ty,ps,af,g⟩:=Oper.semAt_eq _ _ _ (by simp);have hrn:(execOp a.eval ⟨d, .call ⟨.value f,args,ats⟩,ty,ps,af,g⟩).run P w= .ok (.round q.ly fn tmps assign body) w:=by
     have e4: #[]++(args.map a.eval)=(q.qK k).toArray:=by rw[← af8];exact Array.ext' (by simp)
     simp only[execOp,resolve,e1,Deferred.ofValue,Sem.run_bind,Sem.run_pure,Result.andThen_ok,invoke,e4];exact hy
    rw[hs,hrn];refine⟨λh=>by simp at h,⟨trivial,λcf cs hroom=>?_⟩⟩;have hfa:FA c.ro=FA none:=by rw[ha.ro]
    rw[hfa];obtain⟨e,W',hpost,JG⟩:=hrun cf cs (by rw[← hfa];exact hroom);refine⟨e,W',?_,JG⟩;obtain⟨bs',hb',hsi,BQ⟩:=hpost;have fin:∀(b:Bool) (S3:AS G) (r2:List B),rE N C d (.kb b) S=some S3->rec N cp C (.ops all rs) S3 K=some r2->q.Sb (b,k+1) r2->(aF.ext bs' (bif b then q.Jy (k+1) bs' else q.Jx bs')).holds W'->K1 (a.put d (.bool b)) W':=λb S3 r2 hp hw2 hmk hh=>by
     have q5:=q4.set (k:=0) (r':= .ext bs' (bif b then q.Jy (k+1) bs' else q.Jx bs')) rfl hsi.size (λj hj hn=>hsi.block j hj hn) hh hr.si.s.size (λb hb=>hb' b hb);have hr':Rl c N ρ J (q.md (b,k+1) bs'::HK) X C S a W':=by
      refine⟨hr.tm,hr.df,⟨hr.si.s.trans hsi λb hb=>(q4.own _ List.mem_cons_self b hb).1,hr.si.n⟩,hr.fs,hr.fc,λr o e=>?_,⟨HS,q1,q5.gK (pm _).symm⟩,hr.kn,hr.fr⟩;obtain⟨y,y1,y2⟩:=hr.kc r o e;rcases List.mem_cons.1 y1 with rfl|y1
      ·cases o with
       |bT T c=>obtain⟨_,_,_,e,_⟩:=y2;cases e
       |row _ _ _ _ =>obtain⟨_,_,_,e,_⟩:=y2;cases e
       |aux b=>obtain⟨_,_,_,e,_⟩:=y2;cases e
       |gm=>obtain⟨_,e⟩:=y2;cases e
       |fm _ _ _ =>obtain⟨_,_,_,_,_,e,_⟩:=y2;cases e
       |lp _ _ _ _ _ _ =>obtain⟨_,_,_,_,e,_⟩:=y2;cases e
      ·exact⟨y,aiL _ y1,y2⟩
     refine hK _ _ ?_;refine br _ _ _ _ _ _ _ hw2 c ρ J HK X _ W' Q (b,k+1) bs' (by rw[kB hp];exact ha) hmk (hr'.put hp rfl) ?_;rw[kB hp];exact hq
    rcases BQ with⟨rfl,hh⟩|⟨rfl,hh⟩
    ·refine fin true S1 r' h1 ht (.inl ⟨rfl,?_,hlt⟩) hh
     show q.l.drop (k+1)=r';rw[← List.drop_drop,m2];rfl
    ·exact fin false S2 [] h2 hf0 (.inr ⟨rfl,rfl⟩) hh
   ·cases m2
  ·cases h
 ·cases h
theorem abh{yn:Nat}{o:Oper}(h:Um yn C S [] o=true):∃d f args ats ty ps af g,o=⟨d, .call ⟨.value f,args,ats⟩,ty,ps,af,g⟩/\ei C S [] f=some (.mp yn):=by
 obtain⟨d,op,ty,ps,af,g⟩:=o;unfold Um at h;dsimp only at h;split at h
 ·split at h
  ·rename_i hf
   obtain rfl:=aiB h;exact⟨d,_,_,_,ty,ps,af,g,rfl,hf⟩
  ·cases h
 ·cases h
theorem Na(br:wc P q rec){cp:List Nat}{all:Array Oper}{rs:List Oper}{o:Oper}(hw:IN N all C S o)(h:(bif Um q.yn C S [] o then(match yOp C S o with
   |some v=>He ys q.de rec N cp C all rs o.dst v S K
   |none=>none)else none)=some r)(ha:q.at c ρ X S.nx)(hm:q.Sb m r)(hr:Rl c N ρ J (q.md m bs::HK) X C S a w)(hq:Eg q c N C ρ J HK X S.nx K Q):Rn P c (.ops all (o::rs)) Q a w:=by
 cases hY:Um q.yn C S [] o with
 |false=>rw[hY]at h;cases h
 |true=>
 rw[hY]at h;simp only[cond_true]at h;obtain⟨d,f,args,ats,ty,ps,af,g,rfl,hf⟩:=abh hY;split at h
 ·rename_i v hv
  exact Re br hw hf hv h ha hm hr hq
 ·cases h
theorem UN(br:wc P q rec){cp:List Nat}{x:Code}{g:IA}{base:Nat}{ly:Ly G}(hl:uN base (ly::C)=true){vw:Option (Vw G (aK (o7 g.l)))}:∀(n:Nat) (e:HL G (aK (o7 g.l))) (r:List B),Uf vw (λgo e=>rec N cp (ly::C) (.code x) (EP g base e) λe1 S1=>match e1 with
   | .gq=>match DP (ly::C) (jg (ly::C) S1 g.l) g base with
    |some e=>go e
    |none=>none
   |e1=>K e1 (G8 ly S1)) n e=some r->
  ∀(ρ:aX) (J:World->Prop) (HK X:List aF) (a:Act) (w:World) (m:Bool×Nat) (bs:List Nat),q.at c ρ X base->q.Sb m r->Rl c N ρ J (q.md m bs::HK) X (ly::C) (EP g base e) a w->
   Eg q c N (ly::C) ρ J HK X base (λe1 S1=>match e1 with
    | .gq=>none
    |e1=>K e1 (G8 ly S1)) Q->Yp P c x Q a w:=by
 intro n
 induction n with
 |zero=>intro e r h;obtain⟨m,h1,_⟩:=KG h;cases h1
 |succ n ih=>
  intro e r h ρ J HK X a w m bs ha hm hr hq;obtain⟨m',h1,h2⟩:=KG h;cases h1;refine zG (br _ _ _ _ _ _ _ h2 c ρ J HK X a w _ m bs ⟨Nat.lt_of_lt_of_le ha.lt (Nat.le_add_right _ _),ha.ro,ha.own,ha.si,ha.sub,ha.yv⟩ hm hr ?_);intro e1 S1 r' hK ρ' J' Y a' w' me m1 FH k0 k1 k2 k3 k5 k4;have IF:ρ.to ρ' base:=λr hr'=>k1 r (by show r<base+_;omega);cases e1 with
  |gq=>
   rw[gh k3];dsimp only at hK;split at hK
   ·rename_i e' hg
    obtain⟨J2,Y2,j1,z4⟩:=k4.jg g.l;obtain⟨ρ2,t2,z5⟩:=Sc z4 hg hl;rw[← List.append_assoc]at z5;have hto:ρ.to ρ2 base:=λr hr'=>(t2 r hr').trans (IF r hr');exact ih e' r' hK ρ2 J2 HK ((Y2++Y)++X) a' w' m1 FH (ha.fA hto _ (Nat.le_refl _)) k0 z5 (hq.fA hto (λw h=>k2 w (j1 w h)) (Nat.le_refl _))
   ·cases hK
  |exit i=>refine jB (ke (by simp) k3) ?_;exact hq (.exit i) S1 r' hK ρ' J' Y a' w' me m1 FH k0 IF k2 k3 (Nat.le_trans (Nat.le_add_right _ _) k5) k4
  |ret=>refine jB (ke (by simp) k3) ?_;exact hq (.ret) S1 r' hK ρ' J' Y a' w' me m1 FH k0 IF k2 k3 (Nat.le_trans (Nat.le_add_right _ _) k5) k4
  |sH v=>refine jB (ke (by simp) k3) ?_;exact hq (.sH v) S1 r' hK ρ' J' Y a' w' me m1 FH k0 IF k2 k3 (Nat.le_trans (Nat.le_add_right _ _) k5) k4
theorem TS{Wn:WB G B}(hW:mT P Wn)(br:wc P q rec){cp:List Nat}{all:Array Oper}{o:Oper}{rs:List Oper}(h:Wn N cp C (.ops all [o]) S (λe S1=>match e with
   | .gq=>rec N cp C (.ops all rs) S1 K
   |_ =>none)=some r)(ha:q.at c ρ X S.nx)(hm:q.Sb m r)(hr:Rl c N ρ J (q.md m bs::HK) X C S a w)(hq:Eg q c N C ρ J HK X S.nx K Q):Rn P c (.ops all (o::rs)) Q a w:=by
 obtain⟨S1,k1,k2,k3⟩:=M9 hW (K1:=λS1=>rec N cp C (.ops all rs) S1 K) h;exact acU br k1 k2 k3 ha hm hr hq
theorem N8{Wn:WB G B}(hW:mT P Wn)(br:wc P q rec):wc P q (N9 tb q.yn ys q.de Wn rec):=by
 intro N cp C cf S K r h c ρ J HK X a w Q m bs ha hm hr hq;unfold N9 at h;dsimp only at h;split at h
 ·exact hq.here h hm hr trivial
 ·rename_i all o rs
  split at h
  ·exact TS hW br h ha hm hr hq
  ·rename_i hY
   split at h
   ·rename_i hg;exact Na br (.none hg) h ha hm hr hq
   ·rename_i j wb hg
    split at h
    ·rename_i dj hd
     split at h
     ·rename_i hk;exact Na br (.Uh hg hd hk) h ha hm hr hq
     ·exact TS hW br h ha hm hr hq
     ·split at h
      ·rename_i k b hk
       have hb:=HV hr 8 dj k b hk;have know:Rl c N ρ J (q.md m bs::HK) X C {S with F:=(k, .kb b)::S.F} a w:=by
        refine⟨hr.tm,hr.df,hr.si,λd v e=>?_,hr.fc,hr.kc,hr.hp,hr.kn,hr.fr⟩;simp only[bY]at e;cases hd:Nat.beq k d with
        |true=>rw[hd]at e;cases e;obtain rfl:=aiB hd;exact⟨_,hb,rfl⟩
        |false=>rw[hd]at e;exact hr.fs d v e
       cases wb with
       |true=>cases b with
        |true=>exact br N cp C (.ops all (o::rs)) {S with F:=(k, .kb true)::S.F} K r h c ρ J HK X a w Q m bs ha hm know hq
        |false=>exact br N cp C (.ops all (o::rs)) {S with F:=(k, .kb false)::S.F} K r h c ρ J HK X a w Q m bs ha hm know hq
       |false=>cases b with
        |true=>exact br N cp C (.ops all (o::rs)) {S with F:=(k, .kb true)::S.F} K r h c ρ J HK X a w Q m bs ha hm know hq
        |false=>exact br N cp C (.ops all (o::rs)) {S with F:=(k, .kb false)::S.F} K r h c ρ J HK X a w Q m bs ha hm know hq
      ·cases h
    ·cases h
 ·split at h
  ·exact wpIn_skip (hq.here h hm hr trivial)
  ·exact wpIn_label (hq.here h hm hr trivial)
  ·exact wpIn_ret (hq.here h hm hr trivial)
  ·exact wpIn_exit (hq.here h hm hr rfl)
  ·exact wpIn_region_list (br _ _ _ _ _ _ _ h c ρ J HK X a w Q m bs ha hm hr hq)
  ·obtain⟨S1,k1,k2,k3⟩:=M9 hW h
   refine k3 c ρ J (q.md m bs::HK) X a w Q hr λρ' J' Y a' w' me t1 t2 t3 t4=>?_;rw[gh t3];exact hq _ S1 _ k1 ρ' J' Y a' w' .normal m bs hm t1 t2 trivial k2 t4
  ·rename_i i x
   refine wpIn_block (br _ _ _ _ _ _ _ h c ρ J HK X a w _ m bs ha hm hr ?_);intro e1 S1 r' hK ρ' J' Y a' w' me m1 FH k0 k1 k2 k3 k5 k4;cases e1 with
   |exit j=>
    dsimp only at hK;rw[D1 k3];cases hb:Nat.beq i j with
    |true=>rw[hb]at hK;obtain rfl:=aiB hb;simpa[Exit.inBlock]using hq _ S1 _ hK ρ' J' Y a' w' .normal m1 FH k0 k1 k2 trivial k5 k4
    |false=>
     rw[hb]at hK;have hne:i≠j:=λq=>by rw[q,Nat.beq_refl]at hb;cases hb
     have:=hq _ S1 _ hK ρ' J' Y a' w' (.exit j) m1 FH k0 k1 k2 rfl k5 k4;simpa[Exit.inBlock,hne,Ne.symm hne]using this
   |gq=>rw[gh k3];simpa[Exit.inBlock]using hq _ S1 _ hK ρ' J' Y a' w' .normal m1 FH k0 k1 k2 trivial k5 k4
   |ret=>rw[CG k3];simpa[Exit.inBlock]using hq _ S1 _ hK ρ' J' Y a' w' .ret m1 FH k0 k1 k2 trivial k5 k4
   |sH v=>obtain⟨u,rfl,hu⟩:=K5 k3;simpa[Exit.inBlock]using hq _ S1 _ hK ρ' J' Y a' w' (.panic [{v:=u,recovered:=false}]) m1 FH k0 k1 k2 ⟨u,rfl,hu⟩ k5 k4
  ·split at h
   ·rename_i t hx
    have ex:=wF ((bX hr (ch:=[]) (by simp)).ok _ _ hx);cases t with
    |true=>exact wpIn_cond_true ex (br _ _ _ _ _ _ _ (JS rfl h) c ρ J HK X a w Q m bs ha hm hr hq)
    |false=>exact wpIn_cond_false ex (br _ _ _ _ _ _ _ (JU rfl h) c ρ J HK X a w Q m bs ha hm hr hq)
   ·rename_i t hx
    have ex:=Fh ((bX hr (ch:=[]) (by simp)).ok _ _ hx);cases t with
    |true=>exact wpIn_cond_true ex (br _ _ _ _ _ _ _ h c ρ J HK X a w Q m bs ha hm hr hq)
    |false=>exact wpIn_cond_false ex (br _ _ _ _ _ _ _ h c ρ J HK X a w Q m bs ha hm hr hq)
   ·cases h
  ·refine wpIn_seq (br _ _ _ _ _ _ _ h c ρ J HK X a w _ m bs ha hm hr ?_)
   intro e1 S1 r' hK ρ' J' Y a' w' me m1 FH k0 k1 k2 k3 k5 k4;cases e1 with
   |gq=>rw[gh k3];exact br _ _ _ _ _ _ _ hK c ρ' J' HK (Y++X) a' w' Q m1 FH (ha.fA k1 Y k5) k0 k4 (hq.fA k1 k2 k5)
   |exit i=>exact jB (ke (by simp) k3) (hq _ S1 _ hK ρ' J' Y a' w' me m1 FH k0 k1 k2 k3 k5 k4)
   |ret=>exact jB (ke (by simp) k3) (hq _ S1 _ hK ρ' J' Y a' w' me m1 FH k0 k1 k2 k3 k5 k4)
   |sH v=>exact jB (ke (by simp) k3) (hq _ S1 _ hK ρ' J' Y a' w' me m1 FH k0 k1 k2 k3 k5 k4)
  ·rename_i x
   split at h
   ·rename_i gl _
    split at h
    ·cases h
    ·rename_i g _
     obtain⟨J0,Y0,mJ0,hr⟩:=hr.jg g.l;have HR:=zq (C:=C) (S:=S) (l:=g.l);have ha:=ha.fA (aX.cL ρ S.nx) Y0 (Nat.le_refl _);have hq:=hq.fA (Y:=Y0) (aX.cL ρ S.nx) mJ0 (Nat.le_refl _);rw[← HR]at ha hq;revert h hr ha hq;generalize jg C S g.l=S;intro h hr ha hq;split at h
     ·rename_i v hv
      split at h
      ·rename_i x0 g' Fy
       cases hb:(s0 g.nm g'.th&&s5 S.nx g.nm)with
       |false=>rw[hb]at h;cases h
       |true=>
        rw[hb]at h;simp only[aiC]at hb;simp only[cond_true]at h;cases hl:uN S.nx ((⟨gw (λd=> !(cv (E8 x) d||vJ g.l d)) S.F,g'.O,S.D⟩:Ly G)::C)with
        |false=>rw[hl]at h;cases h
        |true=>
         rw[hl]at h;simp only[cond_true]at h;refine DC ?_;have hl':=hl;simp only[uN,aiC]at hl';have SF:uN S.nx C=true:=hl'.2.2.2;obtain⟨ρ',ρ2,HB,H',hto,ht2,DO,hleft,hC,hp,hF,hfc,hfr⟩:=KF hr hv Fy hb.1 hb.2 (Nat.le_refl _) SF;have hag:∀r,r<S.nx->ρ' r=ρ2 r:=λr hr'=>(hto r hr').trans (ht2 r hr').symm;have hleft:=hleft.dI hag hl'.2.1;have hr':Rl c N ρ' J0 (q.md m bs::(H'++HK)) (Y0++X) (⟨gw (λd=> !(cv (E8 x) d||vJ g.l d)) S.F,g'.O,S.D⟩::C) (EP g S.nx x0) a w:=by
          refine Rl.hk (HK:=H'++(q.md m bs::HK)) ⟨hr.tm,?_,⟨hr.si.s,λq=>hr.si.n (zB q)⟩,hF,λy hy=>?_,λr o e=>?_,⟨HB,DO,by simpa using hp⟩,hr.kn,hfr⟩ List.perm_middle
          ·exact hr.df.dI hto (Gm hl'.2.2.1 (BM SF).2)
          ·rcases List.mem_cons.1 hy with rfl|hy
           ·exact(hr.fs.Ra).dI hto hl'.1
           ·exact hfc y hy
          ·have e:bY (g'.O++iV C) r=some o:=e
           rw[ic]at e;split at e
           ·rename_i v' HQ
            cases e;obtain⟨x,h1,h2⟩:=hleft.lk HQ;exact⟨x,aiG _ h1,h2⟩
           ·obtain⟨x,h1,h2⟩:=hC r o e
            exact⟨x,aiF _ h1,h2⟩
         refine UN (C:=C) (K:=K) br hl _ _ _ h ρ' J0 (H'++HK) (Y0++X) a w m bs (ha.fA (Y:=[]) hto (Nat.le_refl _)) hm hr' ?_;intro e1 S1 r' hK ρ3 J3 Y a' w' me m1 FH k0 k1 k2 k3 k5 k4;have IF:ρ.to ρ3 S.nx:=λr q=>(k1 r q).trans (hto r q);have V9:Rl c N ρ3 J3 (q.md m1 FH::HK) (Y++(Y0++X)) C (G8 ⟨gw (λd=> !(cv (E8 x) d||vJ g.l d)) S.F,g'.O,S.D⟩ S1) a' w':=by
          refine Rl.G8 (H2:=H') (k4.hk List.perm_middle.symm) ((hleft.dI k1 hl'.2.1).up k2 (aX.le_refl _)) ?_ hr.si.n;intro r o e;obtain⟨y,y1,y2⟩:=hr.IE k2 (IF.le hr.fr) r o e;rcases List.mem_cons.1 y1 with rfl|y1
          ·cases o with
           |bT T c=>obtain⟨_,_,_,e,_⟩:=y2;cases e
           |row _ _ _ _ =>obtain⟨_,_,_,e,_⟩:=y2;cases e
           |aux b=>obtain⟨_,_,_,e,_⟩:=y2;cases e
           |gm=>obtain⟨_,e⟩:=y2;cases e
           |fm _ _ _ =>obtain⟨_,_,_,_,_,e,_⟩:=y2;cases e
           |lp _ _ _ _ _ _ =>obtain⟨_,_,_,_,e,_⟩:=y2;cases e
          ·exact⟨y,aiL _ y1,y2⟩
         cases e1 with
         |gq=>cases hK
         |exit i=>exact hq (.exit i) _ r' hK ρ3 J3 Y a' w' me m1 FH k0 IF k2 k3 k5 V9
         |ret=>exact hq .ret _ r' hK ρ3 J3 Y a' w' me m1 FH k0 IF k2 k3 k5 V9
         |sH v=>exact hq (.sH v) _ r' hK ρ3 J3 Y a' w' me m1 FH k0 IF k2 k3 k5 V9
      ·cases h
     ·cases h
   ·cases h
  ·cases h
 ·cases h
theorem ab4:∀n:Nat,wc P q (WY tb q.yn ys q.de n):=by
 intro n
 induction n with
 |zero=>intro N cp C cf S K r h;cases h
 |succ n ih=>exact N8 (ab3 n) ih
end
def abO(xw:List ResultVar):Ex G->AS G->Option (List B):=λe S=>match xw,(match e with
  | .gq=>true
  | .ret=>true
  |_ =>false)with
 |[],true=>match WK S with
  |some _ =>some []
  |none=>none
 |_,_ =>none
noncomputable def WYf(tb:uo P G)(n k:Nat)(rI ys:Sh)(de:HL G (aK ys)->B)(x:HL G (aK rI)):Option (List B):=match Ch P k with
 |some fi=>match dP (λm=>m) rI x 0 with
  |(aiy,O,m)=>bif lR aiy&&Nat.ble (vH aiy+1) fi.N then WY tb m ys de n fi.N [] [] (.code fi.code) ⟨sy 0 (.cons (.mp m) aiy),O,m+1,[]⟩ (abO fi.xw)else none
 |none=>none
theorem Xc{tb:uo P G}{n k:Nat}{rI ys:Sh}{de:HL G (aK ys)->B}{en:B->HL G (aK ys)}(uq:CK G ys)(he:∀x,en (de x)=x){f:HL G (aK rI)->Option (List B)}(hW:∀x,WYf tb n k rI ys de x=f x):acg P k rI uq.n ys en f:=by
 intro ρ J HB X vs x l hf hv hO hk hfr;rw[← hW]at hf;refine⟨λi=>match l[i]? with
  |some y=>uq.us (en y)
  |none=>List.replicate uq.n undef,λσ i y hy=>?_,λi=>?_,λly Jy Jx bs w hp hR=>?_⟩
 ·dsimp only
  rw[hy];exact(uq.ok _ _ _).2 rfl
 ·dsimp only
  split
  ·exact uq.len _
  ·exact List.length_replicate
 unfold WYf at hf;split at hf
 ·rename_i fi EU
  revert hf hv hO hfr;generalize dP (λm=>m) rI x 0=b;obtain⟨aiy,O,m⟩:=b;intro hv hO hfr hf;dsimp only at hf hv hO hfr;cases hc:(lR aiy&&Nat.ble (vH aiy+1) fi.N)with
  |false=>rw[hc]at hf;cases hf
  |true=>
   rw[hc]at hf;simp only[aiC]at hc;simp only[cond_true]at hf;obtain⟨fn,f1,f2,f3,f4,f5⟩:=PG EU;have hXw:Hs X w:=BP hp λr hr'=>by simp[hr']
   have apX:∀b,b∈bs\/b∈bn HB->b∉bn X:=λb hb hx=>by
    have h1:=hp.apart;have e1:(aF.ext bs (Jy 0 bs)::(HB++X))=(aF.ext bs (Jy 0 bs)::HB)++X:=rfl;rw[e1]at h1;obtain⟨s,s1,s2⟩:=aV.1 hx;rcases hb with hb|hb
    ·exact(List.pairwise_append.1 h1).2.2 _ List.mem_cons_self s s1 b hb s2
    ·obtain⟨r,r1,r2⟩:=aV.1 hb
     exact(List.pairwise_append.1 h1).2.2 _ (aiL _ r1) s s1 b r2 s2
   have aaA:∀w',aO (bs++(bn HB++bn X)) w w'->Hs X w'->aO (bs++bn HB) w w':=λw' hs hx=>⟨hs.os,hs.tape,hs.output,hs.size,λb h1 h2=>by
    rcases Classical.em (b∈bn X)with h3|h3
    ·exact hk.ex w w' hXw hx b h3
    ·refine hs.block b h1 λh4=>?_
     simp only[List.mem_append]at h4 h2;rcases h4 with h4|h4|h4
     ·exact h2 (.inl h4)
     ·exact h2 (.inr h4)
     ·exact h3 h4⟩
   let q:YC P G ys B:={de:=de,en:=en,uq:=uq,l:=l,qK:=λi=>match l[i]? with
    |some y=>uq.us (en y)
    |none=>List.replicate uq.n undef,yn:=m,ly:=ly,Jy:=Jy,Jx:=Jx,UD:=bs++bn HB,w1:=w,X0:=X,hR:=hR,he:=he,enc:=λi y hy=>by rw[hy]}
   have abE:ρ.fr m:=hfr;have hle:ρ.le (ρ.set m (.func (.yield ly) #[] #[])):=(aX.g6 ρ m _).le abE;have hva:rl J (ρ.set m (.func (.yield ly) #[] #[])) (.cons (.mp m) aiy) (.func (.yield ly) #[] #[]::vs):=⟨_,_,rfl,⟨_,aX.eP _ _ _,rfl,rfl,rfl⟩,hv.ext hle⟩;have hlen:=KP (v:= .cons (.mp m) aiy) hc.1 hva;refine(callsIn_wide (n:=0)).1 (callsIn_of_wp_marks (F:=Fence.wide) f1 f2 trivial ?_);have hsz:((Value.func (.yield ly) #[] #[]::vs).toArray++Array.replicate (fn.ntmps-(Value.func (.yield ly) #[] #[]::vs).toArray.size) undef).size=fi.N:=by have h1:=Nat.le_of_ble_eq_true hc.2;have h2:(Value.func (.yield ly) #[] #[]::vs).length=vH aiy+1:=hlen;simp only[List.length_cons]at h2;simp;omega
   have hR0:Rl ⟨none,w,bs++(bn HB++bn X)⟩ fi.N (ρ.set m (.func (.yield ly) #[] #[])) J (q.md (true,0) bs::[]) X [] (⟨sy 0 (.cons (.mp m) aiy),O,m+1,[]⟩:AS G) ⟨(Value.func (.yield ly) #[] #[]::vs).toArray++Array.replicate (fn.ntmps-(Value.func (.yield ly) #[] #[]::vs).toArray.size) undef,[]⟩ w:=by refine⟨hsz, .nil,⟨aO.refl _ _,λ_ =>rfl⟩,λd x e=>?_,λy hy=>(by cases hy),λr o e=>(by cases e),⟨HB,hO.up (λ_ h=>h) hle,hp.gK List.perm_middle.symm⟩,hk,aX.sW abE _⟩;obtain⟨u,_,k2,k3⟩:=KY hva e;refine⟨u,?_,Hj k3 _⟩;rw[Nat.sub_zero]at k2;have hlt:=(List.getElem?_eq_some_iff.1 k2).1;rw[Array.getElem?_append_left (by simpa using hlt)];simpa using k2
   refine ab4 (q:=q) n _ _ _ _ _ _ _ hf ⟨none,w,bs++(bn HB++bn X)⟩ _ J [] X _ w _ (true,0) bs ⟨Nat.lt_succ_self _,rfl,λb h1 h2=>?_,aaA,λr hr'=>hr',aX.eP _ _ _⟩ (.inl ⟨rfl,rfl,Nat.zero_le _⟩) hR0 ?_
   ·rcases h1 with h1|h1
    ·left
     show b∈bs++bn HB;simp only[List.mem_append]at h1 ⊢;rcases h1 with h1|h1|h1
     ·exact .inl h1
     ·exact .inr h1
     ·exact absurd h1 h2
    ·exact .inr h1
   ·intro e S' r' hK ρ' J' Y a' w' me m' bs' k0 k1 k2 k3 k5 k4
    unfold abO at hK;split at hK
    ·rename_i hres hx
     split at hK
     ·rename_i S2 hS
      cases hK;obtain⟨O2,hO2,rfl⟩:=WJ hS;have Gx:LeavesInM (FA none) 0 P fn a'.tmps (λen w'=>∃x:Bool×List Nat,en= .returned (.tuple #[])/\aO (bs++bn HB) w w'/\bq (bs++bn HB) w.heap.size (.ext x.2 (bif x.1 then Jy l.length x.2 else Jx x.2)::[]) w') a'.defers .returning w':=by
       refine HG rfl S'.D hO2 k4 λw2 h2=>?_;obtain⟨u,r1,r2⟩:=Kv (fn:=fn) (tt:=tb.tt) (v:= .gS .nil) h2 f4 (by rw[hres];rfl);obtain⟨ws,e1,e2⟩:=r2;have e2:ws=[]:=e2;subst e2;cases e1;refine⟨_,r1,(m'.1,bs'),rfl,?_⟩;obtain⟨HS,s1,s3⟩:=h2.hp;have hX2:Hs X w2:=BP s3 λr hr'=>by simp[hr']
       have HT:q.md m' bs'∈HS++((q.md m' bs'::[])++(Y++X)):=by simp
       have s4:bq _ _ (q.md m' bs'::(HS++(Y++X))) w2:=s3.gK (List.perm_middle (a:=q.md m' bs') (l₁:=HS) (l₂:=Y++X));have hmd:q.md m' bs'= .ext bs' (bif m'.1 then Jy l.length bs' else Jx bs'):=by
        rcases k0 with⟨j1,j2,j3⟩|⟨j1,_⟩
        ·have j2:l.drop m'.2=[]:=j2
         have j3:m'.2<=l.length:=j3;have:=List.drop_eq_nil_iff.1 j2;have e:m'.2=l.length:=by omega
         show aF.ext bs' (bif m'.1 then Jy m'.2 bs' else Jx bs')=_;rw[e]
        ·show aF.ext bs' (bif m'.1 then Jy m'.2 bs' else Jx bs')=_
         rw[j1];rfl
       refine⟨aaA w2 h2.si.s hX2,?_⟩;rw[← hmd];refine⟨λr hr'=>?_,λr hr' b hb=>?_,List.pairwise_singleton _ _⟩
       ·obtain rfl:=List.mem_singleton.1 hr';exact s3.holds _ HT
       ·obtain rfl:=List.mem_singleton.1 hr'
        obtain⟨o1,o2⟩:=s3.own _ HT b hb;refine⟨?_,o2⟩;rcases o1 with o1|o1
        ·left
         have o1:b∈bs++(bn HB++bn X):=o1;simp only[List.mem_append]at o1 ⊢;rcases o1 with o1|o1|o1
         ·exact .inl o1
         ·exact .inr o1
         ·exfalso
          obtain⟨s,t1,t2⟩:=aV.1 o1;exact(List.pairwise_cons.1 s4.apart).1 s (by simp[t1]) b hb t2
        ·exact .inr o1
      cases e with
      |gq=>rw[gh k3];exact Gx
      |ret=>rw[CG k3];exact Gx
      |exit i=>cases hx
      |sH v=>cases hx
     ·cases hK
    ·cases hK
 ·cases hf
noncomputable def mkI(tb:uo P G)(n k:Nat)(rI:Sh)(ys:Sh){B:Type}(uq:CK G ys)(en:B->HL G (aK ys))(de:HL G (aK ys)->B)(f:HL G (aK rI)->Option (List B))(he:∀x,en (de x)=x)(hf:(Ch P k).isSome=true)(hW:∀x,WYf tb n k rI ys de x=f x):It P G where
 k:=k
 rI:=rI
 n:=uq.n
 ys:=ys
 B:=B
 en:=en
 f:=f
 fn:=by
  cases h:Ch P k with
  |none=>rw[h]at hf;cases hf
  |some fi=>exact yj h
 ok:=Xc uq he hW
theorem KH{α β ζ:Type}(B:β->(α->Option ζ)->α->Option ζ):∀(n:Nat) (i:α) (b:β),dH (λkk x b=>B b (λx=>kk x b) x) n i b=gL (B b) n i
 |0,_,_ =>rfl
 |n+1,i,b=>by show B b (λx=>dH (λkk x b=>B b (λx=>kk x b) x) n x b) i=B b (gL (B b) n) i;have:(λx=>dH (λkk x b=>B b (λx=>kk x b) x) n x b)=gL (B b) n:=funext λx=>KH B n x b;rw[this]
theorem WZ{b:Bool}{m:Option Bool}:cn b (bd m λx=>some x) (some false)=cl (b==true) m default λx=>some (b&&x):=by
 cases b with
 |false=>rfl
 |true=>cases m<;>rfl
theorem KV{α:Type}{i:Int}{k:Option α}:gu (i==i) k=k:=by simp[gu]
theorem SW{Z:Type}{tb:uo P G}{n:Nat}{s:Fs}{f v:HI G s->Option Z}{um:HL G (aK s.bV)->Z}{mu:Z->HL G (aK s.bV)}(e1:∀y,mu (um y)=y)(hW:∀x,Wf tb n s (λy=>some (um y)) (λ_ =>none) x=v x)(hle:∀x z,f x=some z->v x=some z):M8 P s (RV s f mu) (λ_ _ =>False):=by have h0:=Uv (P:=P) (mu:=mu) e1 hW;intro ρ J HS HK X w vs x hv hO hrd hp hk hfr;obtain⟨a1,_⟩:=h0 ρ J HS HK X w vs x hv hO hrd hp hk hfr;refine⟨λy h=>?_,λy h=>h.elim⟩;obtain⟨z,h,hz⟩:=h;exact a1 y ⟨z,hle x z h,hz⟩
def Ua{Z:Type}(tb:uo P G)(n:Nat)(s:Fs)(f v:HI G s->Option Z)(um:HL G (aK s.bV)->Z)(mu:Z->HL G (aK s.bV))(zz:Z)(e1:∀y,mu (um y)=y)(hf:(Ch P s.k).isSome=true)(hW:∀x,Wf tb n s (λy=>some (um y)) (λ_ =>none) x=v x)(hle:∀x z,f x=some z->v x=some z):Ct P G:=WR s f mu zz hf (SW e1 hW hle)
end Go.Rw
namespace Go.Rw
open Go Go.Bw Go.RowKit
variable {G:Sg} {P:Program}
theorem zV{α:Type}{k:Nat}{vs:List Value}{pre:World->Prop}{jv R:List aF}{p:α->Prop}{fv:α->Value}{fH:α->List aF}{w:World}(hc:Bw.Fn P k vs pre jv p fv fH)(hp:bq (bn (jv++R)) w.heap.size (jv++R) w)(hpre:pre w){Q:Ending->World->Prop}
  (h:∀i w',p i->aO (bn (jv++R)) w w'->bq (bn (jv++R)) w.heap.size (fH i++R) w'->Q (.returned (fv i)) w'):Calls P k vs.toArray w Q:=by
 have hap:=List.pairwise_append.1 hp.apart;have hin:bq (bn jv) w.heap.size jv w:=⟨λr hr=>hp.holds r (aiG _ hr),λr hr b hb=>⟨.inl (aV.2 ⟨r,hr,hb⟩),(hp.own r (aiG _ hr) b hb).2⟩,hap.1⟩;have hkeep:∀{w':World},aO (bn jv) w w'->∀r∈R,r.holds w'/\∀b∈r.bT,b<w'.heap.size:=λhsi r hr=>by have hlt:∀b∈r.bT,b<w.heap.size:=λb hb=>(hp.own r (aiF _ hr) b hb).2;refine⟨aF.ig (hp.holds r (aiF _ hr)) hsi.size λb hb=>hsi.block b (hlt b hb) λhm=>?_,λb hb=>Nat.lt_of_lt_of_le (hlt b hb) hsi.size⟩;obtain⟨q,hq,Pt⟩:=aV.1 hm;exact hap.2.2 q hq r hr b Pt hb
 have hown:∀b∈bn jv,b∈bn (jv++R)\/w.heap.size<=b:=λb hb=>by obtain⟨q,hq,Pt⟩:=aV.1 hb;exact .inl (aV.2 ⟨q,aiG _ hq,Pt⟩)
 refine(hc.calls w hpre hin).mono λe w' hq=>?_;obtain⟨i,SD,he,hsi,hh⟩:=hq;subst he;have DM:=hkeep hsi;refine h i w' SD ((aO.refl _ _).trans hsi hown) ⟨λr hm=>?_,λr hm b hb=>?_,List.pairwise_append.2 ⟨hh.apart,hap.2.1,λr h1 s h2 b hb KS=>?_⟩⟩
 ·rcases List.mem_append.1 hm with h1|h1
  ·exact hh.holds r h1
  ·exact(DM r h1).1
 ·rcases List.mem_append.1 hm with h1|h1
  ·obtain⟨o,l⟩:=hh.own r h1 b hb
   refine⟨?_,l⟩;rcases o with o|o
   ·exact hown b o
   ·exact .inr o
  ·exact⟨(hp.own r (aiF _ h1) b hb).1,(DM r h1).2 b hb⟩
 ·obtain⟨o,_⟩:=hh.own r h1 b hb
  rcases o with o|o
  ·obtain⟨q,hq,Pt⟩:=aV.1 o
   exact hap.2.2 q hq s h2 b Pt KS
  ·exact absurd ((hp.own s (aiF _ h2) b KS).2) (by omega)
theorem Mv{k e sz:Nat}{t:Ty}[bf (t.L G)]{f:List (t.T G)->Option (List (t.T G))}(hn:(t.L G).n=sz)(hc:∀v0 a0 r,pJ v0 a0.length->f a0=some r->Bw.Fn (α:=Value) P k [v0] (M7 (bn [mY v0 e sz (t.L G) a0]) (λ_ =>True)) [mY v0 e sz (t.L G) a0] (λv=>v=v0/\pJ v r.length) (λ_ => .tuple #[]) (λv=>[mY v e sz (t.L G) r])):
  M8 P ⟨k,[], .cons (.row e sz t) .nil, .cons (.gS .nil) (.cons (.row e sz t) .nil),[some 0], .nil,[],[[0]]⟩ (RV _ (λx=>f x.1) (λz=>(z,()))) (λ_ _ =>False):=by
 intro ρ J HS HK X w vs x hv hO hrd hp hk hfr;refine⟨λy ⟨z,hz,e1⟩=>?_,λy h=>h.elim⟩;subst e1;obtain⟨v0,r0,rfl,h0,hr⟩:=hv;obtain rfl:r0=[]:=hr;cases hO with
 |cons ho hO2=>
  cases hO2;obtain⟨v1,ws,h1,rfl,h3,h4,h5⟩:=ho;have hv1:=o9 h0 h1;subst hv1;have V0:ws=cR (t.L G) x.1:=by exact(bf.iff.1 h4).trans (eu (t.L G) (x.1:List (t.T G))).symm
  subst V0;refine zV (jv:=[mY v0 e sz (t.L G) x.1]) (R:=HK++X) (hc v0 x.1 z h3 hz) hp (λ_ _ =>trivial) λi w' ⟨e2,h6⟩ hs wW=>?_;subst e2;refine⟨_,rfl,(aX.set (λ_ =>none) 0 i),J,[],_,[i],λ_ h=>h,?_, .cons ⟨i,_,aX.eP _ _ _,rfl,h6,bf.iff.2 (eu _ _),hn⟩ .nil,wW,hs,hk,λa b hab=>?_,λr hr=>by have hr:1<=r:=hr;simp[aX.set];omega⟩
  ·obtain⟨a0,cp,rfl⟩:=h6
   exact⟨_,_,rfl,⟨_,rfl,rfl⟩,_,_,rfl,⟨_,_,_,aX.eP _ _ _,rfl⟩,rfl⟩
  ·cases a with
   |zero=>cases hab;rw[aX.eP];exact h1.symm
   |succ a=>simp at hab
theorem PK{k e sz:Nat}{t:Ty}[bf (t.L G)]{β:Type}{f:Int->Option β}(hn:(t.L G).n=sz)(hc:∀a1 r,f a1=some r->Bw.Fn (α:=Value) P k [.slice none 0 0, .int .i64 a1] (λ_ =>True) [] (λv=>pJ v 0) (λv=>v) (λv=>[mY v e sz (t.L G) []])):
  M8 (G:=G) P ⟨k,[], .cons .iC (.cons (.v (.int .i64)) .nil), .cons (.row e sz t) .nil,[none], .nil,[],[]⟩ (RV _ (λx=>bd (f x.1) λ_ =>some []) (λz=>(z,()))) (λ_ _ =>False):=by
 intro ρ J HS HK X w vs x hv hO hrd hp hk hfr;refine⟨λy ⟨z,hz,e1⟩=>?_,λy h=>h.elim⟩;subst e1;obtain⟨r,hr,hz⟩:=pq hz;cases hz;obtain⟨u0,r0,rfl,h0,u1,r1,rfl,h1,h2⟩:=hv;cases h0;obtain rfl:r1=[]:=h2;have h1:[u1]=[Value.int .i64 x.1]:=h1;cases h1;cases hO;refine zV (jv:=[]) (R:=HK++X) (hc x.1 r hr) hp trivial λi w' hi hs wW=>?_;refine⟨_,rfl,(aX.set (λ_ =>none) 0 i),J,[],_,[],λ_ h=>h,?_, .cons ⟨i,_,aX.eP _ _ _,rfl,hi,bf.iff.2 (eu _ _),hn⟩ .nil,wW,hs,hk,λa b hab=>?_,λr hr=>by have hr:1<=r:=hr;simp[aX.set];omega⟩
 ·obtain⟨a0,cp,rfl⟩:=hi
  exact⟨_,_,rfl,⟨_,_,_,aX.eP _ _ _,rfl⟩,rfl⟩
 ·cases a with
  |zero=>cases hab
  |succ a=>simp at hab
def agv{k e sz:Nat}{t:Ty}{β:Type}(f:Int->Option β)(hf:(Ch P k).isSome=true)(ok:M8 (G:=G) P ⟨k,[], .cons .iC (.cons (.v (.int .i64)) .nil), .cons (.row e sz t) .nil,[none], .nil,[],[]⟩ (RV _ (λx=>bd (f x.1) λ_ =>some []) (λz=>(z,()))) (λ_ _ =>False)):Ct P G where
 s:=⟨k,[], .cons .iC (.cons (.v (.int .i64)) .nil), .cons (.row e sz t) .nil,[none], .nil,[],[]⟩
 R:=RV _ (λx=>bd (f x.1) λ_ =>some []) (λz=>(z,()))
 Rp:=λ_ _ =>False
 cp:=λx ko _ =>bd (f x.1) λ_ =>ko ([],())
 cg:=λ_ _ _ =>none
 Yh:=λx ko kp z h=>by obtain⟨y,h1,h2⟩:=pq h;exact .inl ⟨([],()),⟨[],by show bd (f x.1) _ =_;rw[h1];rfl,rfl⟩,h2⟩
 cgs:=λg x k z h=>by cases h
 fn:=by
  cases h:Ch P k with
  |none=>rw[h]at hf;cases hf
  |some fi=>exact yj h
 ok:=ok
theorem PN{Z:Type}{s:Fs}{f:HI G s->Option Z}{mu:Z->HL G (aK s.bV)}(h0:∀x:HI G s,(s.bl x).2.1=[])(h1:∀y:HL G (aK s.bV),(dP (λm=>m) s.bV y 0).2.1=[])(h2:s.nm=[])
  (hc:∀(ρ:aX) (R:List aF) (x:HI G s) (z:Z) (vs:List Value),M6 G (Hs R)->f x=some z->rl (Hs R) ρ (s.bl x).1 vs->∃p,Yy P s.k vs (Hs R) p/\∀J v,p J v->rl (λw=>Hs R w/\J w) (λ_ =>none) (dP (λm=>m) s.bV (mu z) 0).1 [v]):M8 P s (RV s f mu) (λ_ _ =>False):=by
 intro ρ J HS HK X w vs x hv hO hrd hp hk hfr;refine⟨λy ⟨z,hz,e1⟩=>?_,λy h=>h.elim⟩;subst e1;rw[h0]at hO;cases hO;obtain⟨p,hF,hp1⟩:=hc ρ X x z vs (hk.gl.mono hk.to) hz (hv.mono hk.to);have hX:Hs X w:=λr hr=>⟨hp.holds r (aiF _ (aiF _ hr)),λb hb=>(hp.own r (aiF _ (aiF _ hr)) b hb).2⟩;refine zV (jv:=[]) (R:=HK++X) hF hp hX λi w' hi hs wW=>?_;obtain⟨q,q1,q2,q3⟩:=M4.one (J:=λw=>J w/\Hs X w) ⟨λw' hw=>⟨hk.to w' hw,hw⟩,hk.ex,hk.gl.mono λ_ h=>h.1⟩ (x:= .ext i.2.1 i.2.2) (w:=w') (wW.holds _ List.mem_cons_self) λb hb=>(wW.own _ List.mem_cons_self b hb).2;refine⟨_,rfl,λ_ =>none,_,[q],[],[],λ_ h=>h.1.1,(hp1 _ _ hi).mono λw h=>⟨h.1.2,h.2⟩,?_,?_,hs,q3,λa b hab=>(by rw[h2]at hab;cases hab),λ_ _ =>rfl⟩
 ·rw[h1];exact .nil
 ·have hx:=List.pairwise_cons.1 wW.apart
  have ht:bq _ w.heap.size (HK++X) w':=⟨λr hr=>wW.holds r (aiL _ hr),λr hr=>wW.own r (aiL _ hr),hx.2⟩;have:=ht.cons (r:=q) q1 (λb hb=>wW.own _ List.mem_cons_self b (by rw[← q2];exact hb)) λs hs b hb=>hx.1 s hs b (by rw[← q2];exact hb);exact this.gK List.perm_middle.symm
theorem vL{ct:Ct P G}{R jv:List aF}{ρ:aX}{x:HI G ct.s}{y:HL G (aK ct.s.bV)}{v:Value}{vs:List Value}(hz:ct.R x y)(hgl:M6 G (Hs R))(hv:∀J:World->Prop,(∀w,J w->Hs R w)->rl J ρ (ct.s.bl x).1 vs)(h0:(ct.s.bl x).2.1=[])(h1:(dP (λm=>m) ct.s.bV y 0).2.1=[])
  (hro:∀J:World->Prop,(∀w,J w->Hs R w)->∀r o,bY (ct.s.ro x) r=some o->∃z∈jv,ro J ρ r o z)(hfr:ρ.fr (ct.s.bl x).2.2)(hout:∀(J:World->Prop) (σ:aX) u us,rl J σ (dP (λm=>m) ct.s.bV y 0).1 (u::us)->u=v):
  Bw.Fn (α:=Unit) P ct.s.k vs (M7 (bn jv) (Hs R)) jv (λ_ =>True) (λ_ =>v) (λ_ =>jv):=by
 refine⟨λargs w=>?_,λw hpre hp=>?_⟩
 ·obtain⟨fn,k1,k2,k3⟩:=ct.fn
  obtain⟨code,k2⟩:=Option.isSome_iff_exists.1 k2;have k3:fn.name≠ "runtime.NumGoroutine" :=λe=>by rw[e]at k3;simp at k3
  simp[callFunc,k1,k2,k3,Go.mark]
 ·have jZ:∀b,b∈(List.range w.heap.size).filter (λb=> !decide (b∈bn jv))↔b<w.heap.size/\b∉bn jv:=λb=>by simp
  generalize(List.range w.heap.size).filter (λb=> !decide (b∈bn jv))=bs at jZ;have st:∀w1:World,(aF.ext bs λw'=>w.heap.size<=w'.heap.size/\∀b∈bs,w'.heap[b]? =w.heap[b]?).holds w1->w.heap.size<=w1.heap.size/\∀b∈bs,w1.heap[b]? =w.heap[b]? :=λw1 h=>h w1 (Nat.le_refl _) λ_ _ =>rfl;have hx:(aF.ext bs λw'=>w.heap.size<=w'.heap.size/\∀b∈bs,w'.heap[b]? =w.heap[b]?).holds w:=λw' h1 h2=>⟨h1,h2⟩;have hxb:(aF.ext bs λw'=>w.heap.size<=w'.heap.size/\∀b∈bs,w'.heap[b]? =w.heap[b]?).bT=bs:=rfl;generalize(aF.ext bs λw'=>w.heap.size<=w'.heap.size/\∀b∈bs,w'.heap[b]? =w.heap[b]?)=x0 at st hx hxb;have key:∀w',Hs [x0] w'->Hs R w':=λw' h=>by
   have h1:=st w' (h _ List.mem_cons_self).1;have h2:=hpre {w with heap:=w'.heap} ⟨rfl,rfl,rfl,h1.1,λk hk hn=>h1.2 k ((jZ k).2 ⟨hk,hn⟩)⟩
   exactλr hr=>⟨aF.ig (h2 r hr).1 (Nat.le_refl _) λ_ _ =>rfl,(h2 r hr).2⟩
  have hk:M4 G [x0] (Hs [x0]):=⟨λ_ h=>h,λw1 w2 h1 h2 b hb=>by
   have hb:b∈bs:=by simpa[bn,hxb]using hb
   rw[(st w1 (h1 _ List.mem_cons_self).1).2 b hb,(st w2 (h2 _ List.mem_cons_self).1).2 b hb],hgl.mono key⟩
  have hin:∀b∈bn jv,b∈bn ([]++(jv++[x0])):=λb hb=>by simp[bn]at hb ⊢;exact .inl hb
  have wW:bq (bn ([]++(jv++[x0]))) w.heap.size ([]++(jv++[x0])) w:=by
   refine(bq.cons (r:=x0) (⟨hp.holds,λr hr b hb=>⟨.inl (hin b (aV.2 ⟨r,hr,hb⟩)),(hp.own r hr b hb).2⟩,hp.apart⟩:bq (bn ([]++(jv++[x0]))) w.heap.size jv w) hx (λb hb=>?_) λs hs b hb KS=>?_).gK (List.perm_append_comm (l₁:=[x0]))
   ·exact⟨.inl (aV.2 ⟨x0,by simp,hb⟩),((jZ b).1 (hxb▸hb)).1⟩
   ·exact((jZ b).1 (hxb▸hb)).2 (aV.2 ⟨s,hs,KS⟩)
  refine((ct.ok ρ (Hs [x0]) [] jv [x0] w vs x (hv _ key) (by rw[h0];exact .nil) (hro _ key) wW hk hfr).1 y hz).mono λen w' hq=>?_;obtain⟨u,e1,σ,J',Y,M5,us,mJ,hr,hO,Wa,hsi,hkn,_,_⟩:=hq;rw[h1]at hO;cases hO;have hsub:jv.Sublist ([]++(jv++(Y++[x0]))):=by simp
  refine⟨(),trivial,e1.trans (by rw[hout _ _ _ _ hr]),⟨hsi.os,hsi.tape,hsi.output,hsi.size,λk hk hn=>?_⟩,⟨λr hr=>Wa.holds r (hsub.subset hr),λr hr b hb=>⟨.inl (aV.2 ⟨r,hr,hb⟩),(Wa.own r (hsub.subset hr) b hb).2⟩,Wa.apart.sublist hsub⟩⟩;exact(st w' (Wa.holds x0 (by simp))).2 k ((jZ k).2 ⟨hk,hn⟩)
theorem PF{α:Type}[Inhabited α]{A:World->Prop}{v:Value}{L:cj α}[bf L]{xs:List α}(h:Fz A v L xs):yH A v L (cR L xs) xs:=⟨h.sl,bf.iff.2 (eu L xs),h.ro⟩
theorem abM{α:Type}[Inhabited α]{A:World->Prop}{v:Value}{L:cj α}[bf L]{ws:List Value}{xs:List α}(h:yH A v L ws xs):Fz A v L xs:=by have e:ws=cR L xs:=(bf.iff.1 h.ef).trans (eu L xs).symm;subst e;exact⟨h.sl,h.ro⟩
theorem aaT{α:Type}[Inhabited α]{A:World->Prop}{L:cj α}[bf L]{cs:List Value}{xs:List α}(h:(Yo L).ef A cs xs):(QW L).ef A cs xs:=by obtain⟨v,e,h⟩:=h;exact⟨v,_,e,PF h⟩
theorem aa3{α:Type}[Inhabited α]{A:World->Prop}{L:cj α}[bf L]{cs:List Value}{xs:List α}(h:(QW L).ef A cs xs):(Yo L).ef A cs xs:=by obtain⟨v,_,e,h⟩:=h;exact⟨v,e,abM h⟩
theorem PJ{k e sz:Nat}{t:Ty}[bf (t.L G)]{f:List (t.T G)->Option (List (t.T G))}(hn:(t.L G).n=sz)(hc:∀(R:List aF) (v0:Value) (a0 r:List (t.T G)),Fz (Hs R) v0 (t.L G) a0->f a0=some r->Bw.Fn (α:=Value) P k [v0] (Hs R) [] (λv=>pJ v r.length) (λv=>v) (λv=>[mY v e sz (t.L G) r])):
  M8 (G:=G) P ⟨k,[], .cons (.v (.sl t)) .nil, .cons (.row e sz t) .nil,[none], .nil,[],[]⟩ (RV _ (λx=>f x.1) (λz=>(z,()))) (λ_ _ =>False):=by
 intro ρ J HS HK X w vs x hv hO hrd hp hk hfr;refine⟨λy ⟨z,hz,e1⟩=>?_,λy h=>h.elim⟩;subst e1;cases hO;have hv:=hv.mono hk.to;obtain⟨u0,r0,rfl,⟨u1,e1,h0⟩,h2⟩:=hv;cases e1;obtain rfl:r0=[]:=h2;have hX:Hs X w:=λr hr=>⟨hp.holds r (aiF _ (aiF _ hr)),λb hb=>(hp.own r (aiF _ (aiF _ hr)) b hb).2⟩;obtain⟨hA,_,hB⟩:=h0;obtain⟨v1,hC,fz⟩:=aa3 (L:=t.L G) hA;have hB:u0.cells= #[u0]:=hB rfl;have hD:u0=v1:=by simpa[hB]using hC
 subst hD;refine zV (jv:=[]) (R:=HK++X) (hc X u0 x.1 z fz hz) hp hX λi w' hi hs wW=>?_;refine⟨_,rfl,(aX.set (λ_ =>none) 0 i),J,[],_,[],λ_ h=>h,?_, .cons ⟨i,_,aX.eP _ _ _,rfl,hi,bf.iff.2 (eu _ _),hn⟩ .nil,wW,hs,hk,λa b hab=>?_,λr hr=>by have hr:1<=r:=hr;simp[aX.set];omega⟩
 ·obtain⟨a0,cp,rfl⟩:=hi
  exact⟨_,_,rfl,⟨_,_,_,aX.eP _ _ _,rfl⟩,rfl⟩
 ·cases a with
  |zero=>cases hab
  |succ a=>simp at hab
theorem Wx{k:Nat}{vs:List Value}{K:World->Prop}{v:Value}(h:UM P k vs K v):Yy P k vs K λ_ u=>u=v:=⟨h.enter,λw hw hp=>(h.calls w hw hp).mono λe w' hq=>by
 obtain⟨_,_,e1,h2,h3⟩:=hq;exact⟨(v,[],λ_ =>True),rfl,e1,h2,(h3:bq _ _ [] w').cons (r:= .ext [] λ_ =>True) (λ_ _ _ =>trivial) (λb hb=>by cases hb) λs hs=>by cases hs⟩⟩
theorem Fn.pre{α:Type}{k:Nat}{vs:List Value}{K K':World->Prop}{jv:List aF}{p:α->Prop}{fv:α->Value}{fH:α->List aF}(h:Bw.Fn P k vs K jv p fv fH)(m:∀w,K' w->K w):Bw.Fn P k vs K' jv p fv fH:=⟨h.enter,λw hw hp=>h.calls w (m w hw) hp⟩
theorem SY{k:Nat}{vs vs':List Value}{K K':World->Prop}{p:(World->Prop)->Value->Prop}(h:Yy P k vs K p)(m:∀w,K' w->K w)(e:vs=vs'):Yy P k vs' K' p:=by subst e;exact⟨h.enter,λw hw hp=>h.calls w (m w hw) hp⟩
theorem F7{J:World->Prop}{ρ:aX}{b:AV G}{t:Ty}{x:t.T G}{vs:List Value}(h:rl J ρ (.cons (.dat t x) b) vs)(ha:t.ag=true):∃(cs r:List Value),vs= .agg cs.toArray::r/\(t.L G).ef J cs x/\rl J ρ b r:=by obtain⟨u,r,rfl,⟨u',e,h1,h2,_⟩,h3⟩:=h;cases e;obtain⟨cs,rfl⟩:=h2 ha;exact⟨cs,r,rfl,h1,h3⟩
theorem Jg{J:World->Prop}{ρ:aX}{b:AV G}{k:IntKind}{i:Int}{vs:List Value}(h:rl J ρ (.cons (.int k i) b) vs):∃r:List Value,vs= .int k i::r/\rl J ρ b r:=by obtain⟨u,r,rfl,h1,h3⟩:=h;have h1:[u]=[.int k i]:=h1;cases h1;exact⟨r,rfl,h3⟩
theorem GJ{J:World->Prop}{ρ:aX}{t:Ty}{x:t.T G}{cs:List Value}(h:(t.L G).ef J cs x)(ha:t.ag=true):rl J ρ (.dat t x) [.agg cs.toArray]:=⟨_,rfl,h,λ_ =>⟨_,rfl⟩,λq=>by rw[ha]at q;cases q⟩
theorem aav{J:World->Prop}{ρ:aX}{e:Ty}[bf (e.L G)]{xs:List (e.T G)}{u:Value}(h:Fz J u (e.L G) xs):rl (G:=G) J ρ (.dat (.sl e) xs) [u]:=by obtain⟨a,cp,rfl⟩:=h.sl;exact⟨_,rfl,⟨_,_,rfl,PF h⟩,nofun,λ_ =>rfl⟩
theorem UE{α β γ:Type}{a:Option α}{f:α->Option β}{h:β->Option γ}:bd (bd a f) h=bd a λy=>bd (f y) h:=by cases a<;>rfl
theorem abW{α β:Type}{c:Bool}{a b:Option α}{h:α->Option β}:bd (cn c a b) h=cn c (bd a h) (bd b h):=by cases c<;>rfl
theorem abV{α β:Type}{c:Bool}{a:Option α}{h:α->Option β}:bd (gu c a) h=gu c (bd a h):=by cases c<;>rfl
theorem HF{α β:Type}{F:(Int->Option α)->Int->Option α}{F':(Int->Option β)->Int->Option β}{h:α->Option β}(k:∀K i,bd (F K i) h=F' (λi=>bd (K i) h) i):∀(n:Nat) (i:Int),bd (gL F n i) h=gL F' n i
 |0,_ =>rfl
 |n+1,i=>by show bd (F (gL F n) i) h=F' (gL F' n) i;rw[k,funext λi=>HF k n i]
end Go.Rw
namespace Go.Proofs.Z
open Go Go.Bw
instance:nG Tryz.prog 4:=⟨by kernel_rfl⟩
instance:nG Tryz.prog 24:=⟨by kernel_rfl⟩
instance:nG Tryz.prog 25:=⟨by kernel_rfl⟩
instance:gj Tryz.prog 25 ([.int .u32 0]):=⟨by kernel_rfl⟩
instance:pC Tryz.prog 45 25 1:=⟨by kernel_rfl⟩
instance:G9 Tryz.prog 45 25 1 4:=⟨by kernel_rfl⟩
instance:qM Tryz.prog 47 3:=⟨by kernel_rfl⟩
instance:Cn Tryz.prog 47 0 0:=⟨by kernel_rfl⟩
instance:Cn Tryz.prog 47 1 1:=⟨by kernel_rfl⟩
instance:Xu Tryz.prog 47 [(0,1),(1,1),(2,1)]:=⟨by kernel_rfl⟩
instance:Kb Tryz.prog 47 [(0,some .u32),(1,none),(2,none)]:=⟨by kernel_rfl⟩
instance:gj Tryz.prog 47 ([.int .u32 0, .bool false, .bool false]):=⟨by kernel_rfl⟩
instance:pD Tryz.prog 48 32 47 3:=⟨by kernel_rfl⟩
instance:qM Tryz.prog 50 96:=⟨by kernel_rfl⟩
instance:Cn Tryz.prog 50 0 0:=⟨by kernel_rfl⟩
instance:nG Tryz.prog 53:=⟨by kernel_rfl⟩
instance:pC Tryz.prog 53 131 2:=⟨by kernel_rfl⟩
instance:G9 Tryz.prog 53 131 2 16:=⟨by kernel_rfl⟩
instance:qM Tryz.prog 55 2:=⟨by kernel_rfl⟩
instance:Xu Tryz.prog 55 [(0,1),(1,1)]:=⟨by kernel_rfl⟩
instance:gj Tryz.prog 55 ([.slice none 0 0, .int .i64 0]):=⟨by kernel_rfl⟩
instance:qM Tryz.prog 70 5:=⟨by kernel_rfl⟩
instance:Xu Tryz.prog 70 [(0,1),(1,1),(2,1),(3,1),(4,1)]:=⟨by kernel_rfl⟩
instance:gj Tryz.prog 70 ([.int .u32 0, .int .u8 0, .int .u8 0, .bool false, .int .u32 0]):=⟨by kernel_rfl⟩
instance:pD Tryz.prog 71 16 70 5:=⟨by kernel_rfl⟩
instance:qM Tryz.prog 73 176:=⟨by kernel_rfl⟩
instance:pC Tryz.prog 92 3 1:=⟨by kernel_rfl⟩
instance:G9 Tryz.prog 92 3 1 8:=⟨by kernel_rfl⟩
instance:qM Tryz.prog 131 2:=⟨by kernel_rfl⟩
instance:gj Tryz.prog 131 ([.int .i64 0, .int .i64 0]):=⟨by kernel_rfl⟩
instance:nG Tryz.prog 267:=⟨by kernel_rfl⟩
instance:nG Tryz.prog 315:=⟨by kernel_rfl⟩
theorem Uc:Tryz.prog.follows .mixedOrders=true:=by kernel_rfl
end Go.Proofs.Z
namespace Go.Proofs.Z
open Go Go.Bw
def tb:Tb:=⟨[(7,[(0,0),(1,1),(2,2),(3,3)]),(8,[(0,0),(1,1),(2,2),(3,3)]),(13,[(0,0),(1,1)]),(14,[(0,0),(1,1)]),(18,[(0,0)]),(19,[(0,0)]),(26,[(0,0),(1,1)]),(27,[(0,0),(1,1)]),(46,[(0,0),(1,1),(2,2)]),(47,[(0,0),(1,1),(2,2)]),(49,[(0,0)]),(50,[(0,0)]),(51,[(0,0)]),(52,[(0,0)]),(54,[(0,0),(1,1)]),(55,[(0,0),(1,1)]),(57,[(0,0),(1,1),(2,2),(3,4)]),(58,[(0,0),(1,1),(2,2),(3,4)]),(60,[(0,0),(1,96)]),(61,[(0,0),(1,96)]),(62,[(0,0),(1,1),(2,2)]),(63,[(0,0),(1,1),(2,2)]),(64,[(0,0),(1,1)]),(65,[(0,0),(1,1)]),(67,[(0,0)]),(68,[(0,0)]),(69,[(0,0),(1,1),(2,2),(3,3),(4,4)]),(70,[(0,0),(1,1),(2,2),(3,3),(4,4)]),(72,[(0,0),(1,96)]),(73,[(0,0),(1,96)]),(74,[(0,0),(1,480),(2,608)]),(75,[(0,0),(1,480),(2,608)]),(76,[(0,0),(1,1),(2,2),(3,3)]),(77,[(0,0),(1,1),(2,2),(3,3)]),(79,[(0,0),(1,16),(2,17),(3,18)]),(80,[(0,0),(1,16),(2,17),(3,18)]),(83,[(0,0),(1,784),(2,936),(3,944)]),(84,[(0,0),(1,784),(2,936),(3,944)]),(87,[(0,0),(1,1),(2,2)]),(88,[(0,0),(1,1),(2,2)]),(90,[(0,0)]),(91,[(0,0)]),(93,[(0,0),(1,952),(2,953),(3,1273)]),(94,[(0,0),(1,952),(2,953),(3,1273)]),(97,[(0,0)]),(98,[(0,0)]),(103,[(0,0),(1,1),(2,2)]),(104,[(0,0),(1,1),(2,2)]),(106,[(0,0),(1,1),(2,2),(3,3),(4,4),(5,5)]),(107,[(0,0),(1,1),(2,2),(3,3),(4,4),(5,5)]),(120,[(0,0),(1,1)]),(121,[(0,0),(1,1)]),(125,[(0,0),(1,1),(2,2)]),(126,[(0,0),(1,1),(2,2)]),(130,[(0,0),(1,1)]),(131,[(0,0),(1,1)]),(135,[(0,0),(1,1)]),(136,[(0,0),(1,1)]),(149,[(0,0),(1,1),(2,7),(3,8),(4,9),(5,11)]),(150,[(0,0),(1,1),(2,7),(3,8),(4,9),(5,11)]),(167,[(0,0),(1,1),(2,13),(3,16)]),(168,[(0,0),(1,1),(2,13),(3,16)]),(199,[(0,0),(1,952),(2,953),(3,959),(4,961),(5,962),(6,963)]),(200,[(0,0),(1,952),(2,953),(3,959),(4,961),(5,962),(6,963)]),(237,[(0,0),(1,1),(2,2),(3,3)]),(238,[(0,0),(1,1),(2,2),(3,3)]),(247,[(0,0),(1,1),(2,2),(3,3),(4,4),(5,5),(6,6),(7,7),(8,8),(9,9),(10,10)]),(248,[(0,0),(1,1),(2,2),(3,3),(4,4),(5,5),(6,6),(7,7),(8,8),(9,9),(10,10)])],[(2, .i64),(3, .i64),(5, .u8),(6, .u8),(12, .u64),(21, .i32),(22, .u64),(24, .u32),(25, .u32),(28, .i64),(178, .u64),(242, .u8),(243, .u8),(245, .i32),(246, .i32)]⟩
instance:Is Tryz.prog tb:=⟨by kernel_rfl⟩
end Go.Proofs.Z
