/- Part 5 of what a proof leans on; pruned and shortened by a program out of longer texts. -/
import Derived.Test.YtdoilgdknefccaaGreatDoorQ4
namespace Go.Proofs.Z
open Go Go.Bw
def G8(x a:Int):Int:=(x+a-1)/a*a
def al4(a:Int):Prop:=a=1\/a=2\/a=4\/a=8
theorem qF{s a:Int}:vq s a=true↔(1<=s/\s<=128)/\al4 a:=by unfold vq al4;simp[or_assoc]
theorem CO{x a:Int}(ha:al4 a):x<=G8 x a/\G8 x a<=x+a-1/\G8 x a%a=0/\∀y,x<=y->y<=G8 x a->y%a=0->y=G8 x a:=by unfold G8;rcases ha with rfl|rfl|rfl|rfl<;>exact⟨by omega,by omega,by omega,λy _ _ _ =>by omega⟩
theorem ajI{n:Nat}{x a:Int}(h0:0<=x)(h1:x<=100000)(ha:al4 a):ng n x a=some (G8 x a):=by
 unfold ng G8;obtain⟨x,rfl⟩:=Int.eq_ofNat_of_zero_le h0;rcases ha with rfl|rfl|rfl|rfl
 ·have:=C1 (x:=x) (m:=0) (by omega) (by omega)
  rw[aL (x:=(x:Int)+1) (by omega) (by omega),aL (x:=(x:Int)+1-1) (by omega) (by omega),show wr .i64 (1-1)=((2^0-1:Nat):Int)by decide,show(x:Int)+1-1=((x:Nat):Int)by omega,this];congr 1
 ·have:=C1 (x:=x+1) (m:=1) (by omega) (by omega)
  rw[aL (x:=(x:Int)+2) (by omega) (by omega),aL (x:=(x:Int)+2-1) (by omega) (by omega),show wr .i64 (2-1)=((2^1-1:Nat):Int)by decide,show(x:Int)+2-1=((x+1:Nat):Int)by omega,this];congr 1
 ·have:=C1 (x:=x+3) (m:=2) (by omega) (by omega)
  rw[aL (x:=(x:Int)+4) (by omega) (by omega),aL (x:=(x:Int)+4-1) (by omega) (by omega),show wr .i64 (4-1)=((2^2-1:Nat):Int)by decide,show(x:Int)+4-1=((x+3:Nat):Int)by omega,this];congr 1
 ·have:=C1 (x:=x+7) (m:=3) (by omega) (by omega)
  rw[aL (x:=(x:Int)+8) (by omega) (by omega),aL (x:=(x:Int)+8-1) (by omega) (by omega),show wr .i64 (8-1)=((2^3-1:Nat):Int)by decide,show(x:Int)+8-1=((x+7:Nat):Int)by omega,this];congr 1
structure GD(e:aT):Prop where
 gx:Gx e.aU
 lo:0<=e.jW
 hi:e.jW<=32*dV e.aU
def vW(e:aT)(s a:Int):Bool:=vq s a&&decide (G8 e.jW a+s<=32*dV e.aU)
def Vu(e:aT)(s a:Int):Int×Bool:=if vW e s a=true then(G8 e.jW a,true)else(0,false)
theorem SV{n:Nat}(hn:110<=n){e:aT}(h:GD e):eW n e=some (dV e.aU):=by have:=h.gx.len;have:=h.gx.sum;exact Qz (by omega) (by omega) h.gx.gd.UU (by omega)
theorem Vt{n:Nat}(hn:110<=n){e:aT}(h:GD e)(s a:Int):mj n e s a=some (Vu e s a):=by
 unfold mj;have h1:=h.lo;have h2:=h.hi;have h3:=h.gx.sum;have h4:=h.gx.pos;rw[ah (Nl (by omega) s a)];unfold Vu vW;cases ho:vq s a with
 |false=>rfl
 |true=>
  obtain⟨⟨o1,o2⟩,o3⟩:=qF.1 ho;obtain⟨u1,u2,_⟩:=CO (x:=e.jW) o3;have ha:a<=8:=by rcases o3 with rfl|rfl|rfl|rfl<;>omega
  rw[ae (b:= !true) rfl,ah (ajI h1 (by omega) o3),ah (SV hn h),aL (by omega) (by omega),aL (by omega) (by omega)];by_cases c:dV e.aU*32<G8 e.jW a+s
  ·rw[ak (by simpa using c),aoV (by simp;omega)]
  ·rw[ae (by simpa using c),aoU (by simp;omega)]
theorem adh{n:Nat}(hn:110<=n){e:aT}(h:GD e)(s a:Int):nf n e s a=some (if vW e s a=true then(⟨e.aU,G8 e.jW a+s⟩,G8 e.jW a,true)else(e,0,false)):=by
 unfold nf;rw[ah (Vt hn h s a)];unfold Vu;have h1:=h.lo;have h2:=h.hi;have h3:=h.gx.sum;have h4:=h.gx.pos;cases hf:vW e s a with
 |false=>rfl
 |true=>have hf':=hf;unfold vW at hf;rw[aoX,decide_eq_true_iff,qF]at hf;obtain⟨⟨⟨o1,o2⟩,o3⟩,o4⟩:=hf;obtain⟨u1,u2,_⟩:=CO (x:=e.jW) o3;rw[aoU rfl,aoU rfl,ak rfl,aJ];dsimp only;rw[aL (by omega) (by omega)]
theorem SM{n:Nat}(hn:2100<=n){x:bP}{e:aT}(h:GD e)(he:e.aU=x.aU.map jM)(hl:e.jW=x.jW)(s a:Int):oV n x s a=some (if vW e s a=true then G8 e.jW a else -1):=by
 unfold oV;have h1:=h.lo;have h2:=h.hi;have h3:=h.gx.sum;have h4:=h.gx.pos;rw[ah (Aj hn (by rw[← he];exact h.gx)), ← he];have hb:=tT h.gx.gd.UU;cases ho:vq s a with
 |false=>obtain⟨m,rfl⟩:∃m,n=m+1:=⟨n-1,by omega⟩;simp only[fK];rw[ah (wc _ s a),ho];unfold vW;rw[ho];rfl
 |true=>
  obtain⟨⟨o1,o2⟩,o3⟩:=qF.1 ho;obtain⟨u1,u2,u3,u4⟩:=CO (x:=e.jW) o3;have ha:1<=a/\a<=8:=by rcases o3 with rfl|rfl|rfl|rfl<;>omega
  rw[← hl];refine je (λ(p:Int)=>e.jW<=p/\p<=G8 e.jW a) (λp=>(G8 e.jW a-p).toNat) (λo=>o=some (if vW e s a=true then G8 e.jW a else -1)) ?_ n e.jW ⟨by omega,by omega⟩ (by omega);rintro kk p ⟨p0,p1⟩ ih;rw[ah (wc _ s a),ho,aL (x:=p+s) (by omega) (by omega),hb,Bool.true_and];unfold vW;rw[ho,Bool.true_and];by_cases c:p+s<=32*dV e.aU
  ·rw[ak (by simpa using c),ax (by simp;omega),KF (by omega)]
   by_cases d:p%a=0
   ·obtain rfl:=u4 p p0 p1 d
    rw[ak (by simpa using d),aoU (by simpa using c)]
   ·rw[ae (by simpa using d),aL (by omega) (by omega)]
    have:p≠G8 e.jW a:=λhp=>d (hp▸u3);have:=ih (p+1) ⟨by omega,by omega⟩ (by omega);unfold vW at this;rw[ho,Bool.true_and]at this;exact this
  ·rw[ae (by simpa using c),aoV (by simp;omega)]
def plV(l:List Rn)(b at_:Int):Int×Bool:=if b<=at_/\at_<b+32*dV l then((ny l).getD (at_-b).toNat 0,true)else(0,false)
theorem TC{α:Type}(l m:List α)(i:Nat)(d:α)(h:i<l.length):(l++m).getD i d=l.getD i d:=by rw[List.getD,List.getD,List.getElem?_append_left h]
theorem TB{α:Type}(l m:List α)(i:Nat)(d:α)(h:l.length<=i):(l++m).getD i d=m.getD (i-l.length) d:=by rw[List.getD,List.getD,List.getElem?_append_right h]
theorem TW(y:Rn){i:Nat}(h:i<(32*y.N).toNat):(Cm y).getD i 0=32*y.At+i:=by unfold Cm;rw[List.getD,List.getElem?_map,List.getElem?_range h];rfl
theorem ZD{at_:Int}(ha:A0 at_):∀(l:List Rn) (b:Int),(∀y∈l,Jt y.At y.N)->0<=b->b+32*dV l<=100000->
  sH (λ(P4:Int×aB) k28 (u27:Unit)=>lt (P4.1:Int) λew=>lt (P4.2:aB) λjN=>cn ((decide (ew<=at_)&&decide (at_<(wr .i64 (ew+(wr .i64 (jN.N*32))))))) (lt (wr .i64 ((wr .i64 ((wr .i64 (jN.At*32))+at_))-ew):Int) λkX=>some (kX,true)) (k28 ())) (λ(u27:Unit)=>some (0,false)) (VL b l) ()=some (plV l b at_):=by
 intro l
 induction l with
 |nil=>intro b _ _ _;show some ((0:Int),false)=_;unfold plV;rw[aoV];simp only[dV,List.map_nil,List.sum_nil];omega
 |cons y r ih=>
  intro b h0 h1 h2;have hy:=h0 y (by simp);have hr:BN r:=λz hz=>(h0 z (by simp[hz])).1;have hr0:=se hr;have hbl:=xB y;rw[iZ]at h2;obtain⟨y1,y2,y3⟩:=hy;rw[VL];simp only[sH,aJ];rw[aL (x:=y.N*32) (by omega) (by omega),aL (x:=b+y.N*32) (by omega) (by omega)];by_cases c:b<=at_/\at_<b+y.N*32
  ·rw[ak (by simpa using c),aL (x:=y.At*32) (by omega) (by omega),aL (x:=y.At*32+at_) (by omega) (by omega),aL (by omega) (by omega)]
   unfold plV;rw[aoU (by rw[iZ];omega),Cn,TC _ _ _ _ (by rw[xB];omega),TW y (by omega)];congr 2;omega
  ·rw[ae (by simpa using c)]
   refine(ih (b+32*y.N) (λz hz=>h0 z (by simp[hz])) (by omega) (by omega)).trans ?_;unfold plV;by_cases d:b+32*y.N<=at_/\at_<b+32*y.N+32*dV r
   ·rw[aoU d,aoU (by rw[iZ];omega),Cn,TB _ _ _ _ (by rw[xB];omega),xB]
    congr 3;omega
   ·rw[aoV d,aoV (by rw[iZ];omega)]
theorem ZE{n:Nat}(hn:110<=n){e:aT}(h:GD e){at_:Int}(ha:A0 at_):ld n e at_=some (plV e.aU 0 at_):=by unfold ld;have:=h.gx.len;have:=h.gx.sum;rw[ah (show j8 n e=some e from rfl),ah (NG (by omega) (by omega) h.gx.gd.UU (by omega))];exact ZD ha e.aU 0 h.gx.gd.nW (by omega) (by omega)
theorem ad6{n:Nat}(hn:110<=n){e:aT}(h:GD e)(r:Rn):jK n e r=some ⟨e.aU++[r],32*dV e.aU⟩:=by unfold jK;have:=h.gx.len;have:=h.gx.sum;have:=h.gx.pos;rw[ax (eM (by omega) (by omega)),aJ,ah (SV hn h),aJ,aL (by omega) (by omega),Int.mul_comm]
theorem acK(a b:Int):jM (dm (dm (λ_ =>0) 0 a) 1 b)=⟨a,b⟩:=rfl
end Go.Proofs.Z
namespace Go.Proofs.Z
open Go Go.Bw
theorem gh{w:aD}{h:Int}(hg:aM w h=true):h<4294967296:=KH (lU.1 hg).1
theorem Nx(w:aD):aM w 0=false:=rfl
theorem oJ{w:aD}{h:Int}(hg:aQ w h):0<h:=by
 have:=hg.1;rcases Int.lt_or_eq_of_le this with h1|h1
 ·exact h1
 ·subst h1;have:=hg.2;rw[Nx]at this;cases this
structure JG(p:aR)(x:bL):Prop where
 q:p.cE=x.cE
 e:p.E=⟨x.E.aU.map jM,x.E.jW⟩
 n:x.E.aU.length<=80
 r:∀y∈x.E.aU.map jM,A0 y.At/\A0 y.N
 c:∀i,i<8->p.bC i=x.bC i
 c0:∀i,i<8->0<=x.bC i/\x.bC i<=4294967295
theorem JG.ajX{p:aR}{x:bL}(h:JG p x)(u v:Int):JG {p with Up:=u} {x with Up:=v}:=⟨h.q,h.e,h.n,h.r,h.c,h.c0⟩
def Us(B:aD)(h:Int):Int:=if aM B h=true then h else 0
structure gI(t:au)(w:ai):Prop where
 bj:RB t.bj.oz w.B
 reg:∀i,i<32->w.B.Is i=1->JG (t.cL i) (w.R i)
 up:∀i,i<32->w.B.Is i=1->(w.R i).Up=Us w.B (t.cL i).Up
 old:∀i,i<32->w.B.Is i=1->(t.cL i).Up=0\/sB w.B (t.cL i).Up
def Rk5(w:ai)(ρ:Nat->Nat):Prop:=∀i,i<32->w.B.Is i=1->(w.R i).Up≠0->ρ (aY (w.R i).Up)<ρ i
def jV(w:ai):Prop:=∃ρ:Nat->Nat,Rk5 w ρ
theorem gI.up0{t:au}{w:ai}(r:gI t w){i:Nat}(hi:i<32)(h1:w.B.Is i=1):(w.R i).Up=0\/aQ w.B (w.R i).Up:=by
 rw[r.up i hi h1];unfold Us;split
 ·rename_i h
  rcases r.old i hi h1 with h2|h2
  ·exact .inl h2
  ·exact .inr ⟨h2.1,h⟩
 ·exact .inl rfl
theorem fg{w:aD}{x:Int}(h:aQ w x):aY x<32/\w.Is (aY x)=1:=⟨iO x,(gM h.2).2.1⟩
theorem gI.ups{t:au}{w:ai}(r:gI t w){x:Int}(hx:aQ w.B x):(w.R (aY x)).Up=0\/aQ w.B (w.R (aY x)).Up:=r.up0 (fg hx).1 (fg hx).2
theorem gR(h:Int):bQ (mz h) 32=true:=bK (fG h).1 (by have:=fG h;omega)
theorem Yx{n:Nat}{t:au}{w:ai}(r:gI t w){x:Int}(hx:aQ w.B x):lZ n t x=some (w.R (aY x)).Up:=by
 unfold lZ;obtain⟨l1,l2⟩:=fg hx;have ho:=r.old _ l1 l2;have hu:0<=(t.cL (aY x)).Up/\(t.cL (aY x)).Up<4294967296:=by
  rcases ho with h|h
  ·rw[h];decide
  ·exact⟨h.1,KH h.2.1⟩
 rw[ah (qb hx.1 (gh hx.2)),ax (gR x)];show bd (aV n t.bj.oz (t.cL (aY x)).Up) _ =_;rw[ah (nZ r.bj hu.1 hu.2),r.up _ l1 l2];unfold Us;show cn (aM w.B (t.cL (aY x)).Up) (some (t.cL (aY x)).Up) (some 0)=_;cases hg:aM w.B (t.cL (aY x)).Up with
 |true=>rw[ak rfl,aoU rfl]
 |false=>rw[ae rfl,aoV (by decide)]
def p8(t:au)(w:ai)(h:Int):aR:={t.cL (aY h)with Up:=(w.R (aY h)).Up}
def agO:aR:={Up:=0,cE:=0,E:=dG,bC:=(λ_ =>0)}
theorem z8{n:Nat}{t:au}{w:ai}(r:gI t w){h:Int}(h0:0<=h)(h1:h<4294967296):eY n t h=some (if aM w.B h=true then(p8 t w h,0)else(agO,4)):=by
 unfold eY;rw[ah (nZ r.bj h0 h1)];cases hg:aM w.B h with
 |false=>rfl
 |true=>rw[ae (b:= !true) rfl,ah (qb h0 h1),ax (gR h),aJ,ah (Yx r ⟨h0,hg⟩),aJ,aoU rfl];rfl
theorem KQ{n:Nat}(hn:40<=n){t:au}{w:ai}(r:gI t w){h:Int}(hg:aQ w.B h):kS n w h=some (w.R (aY h),0):=by unfold kS;have hr:=fG h;rw[ah (cW hn r.bj hg.1),hg.2,aoU rfl,ae (by simp;omega),ax (gR h),aJ];rfl
theorem cj{n:Nat}(hn:40<=n){t:au}{w:ai}(r:gI t w){h:Int}(h0:0<=h):bH n w h=some (aM w.B h):=by
 unfold bH;have hr:=fG h;rw[ah (cW hn r.bj h0)];cases aM w.B h with
 |false=>rfl
 |true=>rw[aoU rfl];simpa using hr.1
structure Kp5(t:au)(w:ai)(t':au)(w':ai)(who e:Int)(dr:Bool):Prop where
 rt:gI t' w'
 tt:jV w'
 kp:∀g,aQ w.B g->¬(g=who/\e=0)->aQ w'.B g/\(t'.cL (aY g)).cE=(t.cL (aY g)).cE/\(t'.cL (aY g)).E=(t.cL (aY g)).E/\(t'.cL (aY g)).bC=(t.cL (aY g)).bC/\
  ((w'.R (aY g)).Up=(w.R (aY g)).Up\/(dr=true/\e=0/\(w.R (aY g)).Up=who/\who≠0/\(w'.R (aY g)).Up=0))
theorem Kp5.cQ{t:au}{w:ai}(r:gI t w)(tt:jV w)(who e:Int)(dr:Bool):Kp5 t w t w who e dr:=⟨r,tt,λ_ hg _ =>⟨hg,rfl,rfl,rfl, .inl rfl⟩⟩
theorem Od{b:bn}{w:aD}(r:RB b w){h:Int}(h0:0<=h)(x:Int):aQ (Bi w h) x↔aQ w x/\x≠h:=Xe r h0 x
theorem af8{b:bn}{w:aD}(r:RB b w){h u:Int}(hg:aQ w h)(hu:0<=u):Us (Bi w h) u=if Us w u=h then 0 else Us w u:=by
 have hv:=Od r hg.1 u;have hp:=oJ hg;unfold Us;cases h1:aM w u with
 |false=>
  have:aM (Bi w h) u≠true:=λh2=>by have:=(hv.1 ⟨hu,h2⟩).1.2;rw[h1]at this;cases this
  rw[aoV this];simp
 |true=>
  rw[aoU rfl];by_cases e:u=h
  ·rw[aoU e,aoV (λh2=>(hv.1 ⟨hu,h2⟩).2 e)]
  ·rw[aoV e,aoU (hv.2 ⟨⟨hu,h1⟩,e⟩).2]
theorem WG{n:Nat}(hn:40<=n)(h:Int)(w:ai):∃w':ai,cH (λk51 (my:Int) (vB:ai)=>cn (decide (my<32)) (gu (bQ my 32)<|cn ((((vB.R (Int.toNat my)).Up)==h)) (gu (bQ my 32)<|lt ({vB with R:=(dm vB.R (Int.toNat my) ({(vB.R (Int.toNat my))with Up:=0}))}:ai) λDT=>k51 (wr .i64 (my+1)) DT) (k51 (wr .i64 (my+1)) vB)) (some (vB,(0:Int)))) n 0 w=some (w',0)/\w'.B=w.B/\∀i,i<32->w'.R i=if(w.R i).Up=h then{w.R i with Up:=0}else w.R i:=by
 refine dU (λ(i:Int) (v:ai)=>0<=i/\i<=32/\v.B=w.B/\∀j,v.R j=if j<i.toNat/\(w.R j).Up=h then{w.R j with Up:=0}else w.R j) (λi _ =>(32-i).toNat)
  (λo=>∃w':ai,o=some (w',0)/\w'.B=w.B/\∀i,i<32->w'.R i=if(w.R i).Up=h then{w.R i with Up:=0}else w.R i) ?_ n 0 w ⟨by omega,by omega,rfl,λj=>by simp⟩ (by omega)
 rintro kk i v ⟨i0,i1,hb,hv⟩ ih;by_cases c:i<32
 ·have hi:=hv i.toNat
  rw[aoV (λhh=>absurd hh.1 (Nat.lt_irrefl _))]at hi;rw[ak (by simpa using c),ax (bK i0 (by omega)),hi,aL (x:=i+1) (by omega) (by omega)];have e1:(i+1).toNat=i.toNat+1:=by omega
  by_cases hu:(w.R i.toNat).Up=h
  ·rw[ak (by simpa using hu),ax (bK i0 (by omega)),aJ]
   refine ih _ _ ⟨by omega,by omega,hb,λj=>?_⟩ (by omega);show dm v.R i.toNat _ j=_;rw[bI];by_cases ej:j=i.toNat
   ·subst ej;rw[aoU rfl,aoU ⟨by omega,hu⟩]
   ·rw[aoV ej,hv j]
    by_cases hj:(w.R j).Up=h
    ·by_cases hl:j<i.toNat
     ·rw[aoU ⟨hl,hj⟩,aoU ⟨by omega,hj⟩]
     ·rw[aoV (λhh=>hl hh.1),aoV (λhh=>by omega)]
    ·rw[aoV (λhh=>hj hh.2),aoV (λhh=>hj hh.2)]
  ·rw[ae (by simpa using hu)]
   refine ih _ _ ⟨by omega,by omega,hb,λj=>?_⟩ (by omega);rw[hv j];by_cases ej:j=i.toNat
   ·subst ej;rw[aoV (λhh=>hu hh.2),aoV (λhh=>hu hh.2)]
   ·by_cases hj:(w.R j).Up=h
    ·by_cases hl:j<i.toNat
     ·rw[aoU ⟨hl,hj⟩,aoU ⟨by omega,hj⟩]
     ·rw[aoV (λhh=>hl hh.1),aoV (λhh=>by omega)]
    ·rw[aoV (λhh=>hj hh.2),aoV (λhh=>hj hh.2)]
 ·rw[ae (by simpa using c)]
  refine⟨v,rfl,hb,λj hj=>?_⟩;rw[hv j];by_cases hu:(w.R j).Up=h
  ·rw[aoU ⟨by omega,hu⟩,aoU hu]
  ·rw[aoV (λhh=>hu hh.2),aoV hu]
theorem alB{n:Nat}(hn:40<=n){t:au}{w:ai}(r:gI t w)(tt:jV w){h:Int}(h0:0<=h)(h1:h<4294967296):
  ∃t' w' e,jx n t h=some (t',e)/\iD n w h=some (w',e)/\Kp5 t w t' w' h e true:=by
 obtain⟨b',e1,r'⟩:=Uo (n:=n) r.bj h0 h1;cases hg:aM w.B h with
 |false=>
  refine⟨t,w,4,?_,?_, .cQ r tt _ _ _⟩
  ·unfold jx;rw[ah e1,hg];rfl
  ·unfold iD;rw[ah (cW hn r.bj h0),hg];rfl
 |true=>
  have GK:aQ w.B h:=⟨h0,hg⟩;obtain⟨w',c1,c2,c3⟩:=WG (n:=n) hn h {B:=Bi w.B h,R:=dm w.R (aY h) {Up:=0,cE:=0,E:=bA,bC:=(λ_ =>0)}};have hpos:=oJ GK;refine⟨{bj:={t.bj with oz:=b'},cL:=dm t.cL (aY h) agO},w',0,?_,?_,?_⟩
  ·unfold jx;rw[ah e1,hg,ae (b:= !true) rfl,aJ,ah (qb h0 h1),aJ,ax (gR h),aJ];rfl
  ·unfold iD
   have hr:=fG h;rw[ah (cW hn r.bj h0),hg,aoU rfl,ae (by simp;omega),ah (FG hn r.bj h0),aJ,aJ,ax (gR h),aJ];exact c1
  have hb:w'.B=Bi w.B h:=c2;have Q6:∀i,i<32->w'.B.Is i=1->w.B.Is i=1/\i≠aY h:=λi hi hs=>by rw[hb]at hs;refine⟨(Oc hs).1,λe=>?_⟩;subst e;unfold Bi at hs;rw[hg,aoU rfl]at hs;exact Ky w.B h hs
  have hR:∀i,i<32->i≠aY h->w'.R i=if(w.R i).Up=h then{w.R i with Up:=0}else w.R i:=λi hi hne=>by have q:=c3 i hi;simp only[jo _ _ hne]at q;exact q
  have hT:∀i,i≠aY h->dm t.cL (aY h) agO i=t.cL i:=λi hne=>jo _ _ hne;have hU:∀i,i<32->i≠aY h->(w'.R i).Up=if(w.R i).Up=h then 0 else(w.R i).Up:=λi hi hne=>by rw[hR i hi hne];split<;>rfl
  refine⟨⟨?_,λi hi hs=>?_,λi hi hs=>?_,λi hi hs=>?_⟩,?_,λg P1 hne=>?_⟩
  ·rw[hb];exact r'
  ·obtain⟨l1,l2⟩:=Q6 i hi hs
   have:=r.reg i hi l1;rw[hR i hi l2];dsimp only;rw[hT i l2];split
   ·exact⟨this.q,this.e,this.n,this.r,this.c,this.c0⟩
   ·exact this
  ·obtain⟨l1,l2⟩:=Q6 i hi hs
   dsimp only;rw[hT i l2,hU i hi l2,hb];rw[af8 r.bj GK,r.up i hi l1];rcases r.old i hi l1 with h|h
   ·rw[h];decide
   ·exact h.1
  ·obtain⟨l1,l2⟩:=Q6 i hi hs
   dsimp only;rw[hT i l2,hb];exact(r.old i hi l1).imp _root_.id λhp=>Hj (h:=h) _ hp
  ·obtain⟨ρ,hρ⟩:=tt
   refine⟨ρ,λi hi hs hu=>?_⟩;obtain⟨l1,l2⟩:=Q6 i hi hs;rw[hU i hi l2]at hu ⊢;by_cases e:(w.R i).Up=h
   ·rw[aoU e]at hu;exact absurd rfl hu
   ·rw[aoV e]at hu ⊢;exact hρ i hi l1 hu
  ·have aaE:g≠h:=λe=>hne ⟨e,rfl⟩
   have hg':aQ w'.B g:=by rw[hb];exact(Od r.bj h0 g).2 ⟨P1,aaE⟩
   obtain⟨l1,l2⟩:=Q6 (aY g) (iO g) (fg hg').2;refine⟨hg',?_,?_,?_,?_⟩
   ·dsimp only;rw[hT _ l2]
   ·dsimp only;rw[hT _ l2]
   ·dsimp only;rw[hT _ l2]
   ·rw[hU _ (iO g) l2]
    by_cases e:(w.R (aY g)).Up=h
    ·rw[aoU e];exact .inr ⟨rfl,rfl,e,by omega,rfl⟩
    ·rw[aoV e];exact .inl rfl
end Go.Proofs.Z
namespace Go.Proofs.Z
open Go Go.Bw
theorem af9{b:bn}{w:aD}(r:RB b w){f:Nat}(hf:CM w f)(hl:f<32){u:Int}(hu:u=0\/sB w u):Us (mg w f) u=Us w u:=by
 rcases hu with h|h
 ·subst h;rfl
 ·have hv:=mh r hf hl u
  have hne:u≠fL f (w.gA f):=λe=>by rw[e]at h;exact KX r hf hl h
  unfold Us;by_cases h1:aM w u=true
  ·rw[aoU h1,aoU (hv.2 (.inl ⟨h.1,h1⟩)).2]
  ·rw[aoV h1,aoV (λh2=>(hv.1 ⟨h.1,h2⟩).elim (λh3=>h1 h3.2) hne)]
def ZN(B:aD)(a:Int):Bool:=(a==0)||aM B a
theorem FX{n:Nat}{t:au}{w:ai}(r:gI t w){a:Int}(h0:0<=a)(h1:a<4294967296){ρ:Type}{f:Bool->Option ρ}{g:Bool}:
  cl g (aV n t.bj.oz a) default f=f (bif g then aM w.B a else default):=cK (nZ r.bj h0 h1)
theorem ug(B:aD)(a:Int):((a !=0)&&(!(bif ((a !=0)==true)then aM B a else default)))= !ZN B a:=by
 unfold ZN;by_cases h0:a=0
 ·subst h0;rfl
 ·have h1:(a !=0)=true:=by simpa using h0
  have h2:(a==0)=false:=by simpa using h0
  rw[h1,h2];rfl
theorem S5{B:aD}{a:Int}(h0:0<=a)(h:ZN B a=true):a=0\/aQ B a:=by unfold ZN at h;rw[Bool.or_eq_true,beq_iff_eq]at h;exact h.imp _root_.id λhg=>⟨h0,hg⟩
theorem anj{n:Nat}(hn:40<=n){t:au}{w:ai}(r:gI t w)(tt:jV w){a q:Int}(a0:0<=a)(a1:a<4294967296):
  ∃t' w' m e,kP n t a q=some (t',m,e)/\fM n w a q=some (w',m,e)/\0<=m/\m<4294967296/\Kp5 t w t' w' m e false:=by
 cases ha:ZN w.B a with
 |false=>
  refine⟨t,w,0,4,?_,?_,by decide,by decide, .cQ r tt _ _ _⟩
  ·unfold kP;rw[FX r a0 a1,ug,ha];rfl
  ·unfold fM;rw[cK (cj hn r a0),ug,ha];rfl
 |true=>
 rcases Decidable.em (¬(0<=q/\q<=64))with hq|hq
 ·refine⟨t,w,0,2,?_,?_,by decide,by decide, .cQ r tt _ _ _⟩
  ·unfold kP;rw[FX r a0 a1,ug,ha,ae (b:= !true) rfl];unfold rA;rw[ah rfl,ak (by simp;omega)]
  ·unfold fM;rw[cK (cj hn r a0),ug,ha,ae (b:= !true) rfl,ak (by simp;omega)]
 have hq:=Decidable.not_not.1 hq;obtain⟨f,hf⟩:=Lp w.B;obtain⟨b',i1,i2⟩:=K8 (n:=n) hn r.bj hf;have i3:=BV (n:=n) hn r.bj hf;have hP:kP n t a q=(bd (iU n t.bj.oz) λjl=>
 cn ((!jl.2.2)) (
 some (t,0,7)) (
 bd (bW n jl.2.1) λnt=>
 gu (bQ nt.1 32)<|
 some (⟨⟨jl.1⟩,dm t.cL (Int.toNat nt.1) ⟨a,q,dG,λ_ =>0⟩⟩,jl.2.1,0))):=by unfold kP;rw[FX r a0 a1,ug,ha,ae (b:= !true) rfl];unfold rA;rw[ah rfl,ae (by simpa using hq)];rfl
 have hR:fM n w a q=(bd (iE n w.B) λgj=>
 cn ((gj.2==0)) (
 some (w,0,7)) (
 bd (bq n gj.1 gj.2) λjN=>
 gu (bQ jN 32)<|
 some (⟨gj.1,dm w.R (Int.toNat jN) ⟨a,q,bA,λ_ =>0⟩⟩,gj.2,0))):=by unfold fM;rw[cK (cj hn r a0),ug,ha,ae (b:= !true) rfl,ae (by simp;omega)];rfl
 rcases Decidable.em (¬f<32)with hl|hl
 ·refine⟨t,w,0,7,?_,?_,by decide,by decide, .cQ r tt _ _ _⟩
  ·rw[hP,ah i1,ak (by simpa using hl)]
  ·rw[hR,ah i3,aoV hl];rfl
 have hl:=Decidable.not_not.1 hl;simp only[hl,if_true,decide_true]at i1 i2 i3;have hr:=r.bj.nW f hl;obtain⟨q1,q2,q3,q4,q5⟩:=pB (i:=f) (g:=w.B.gA f) (by omega) (by omega) hr.1 hr.2;have hnew:aQ (mg w.B f) (fL f (w.B.gA f)):=(mh r.bj hf hl _).2 (.inr rfl);have hfn:(mz (fL f (w.B.gA f))).toNat=f:=by rw[q2];omega
 have P3:bQ (mz (fL f (w.B.gA f))) 32=true:=gR _;refine⟨⟨⟨b'⟩,dm t.cL f ⟨a,q,dG,λ_ =>0⟩⟩,⟨mg w.B f,dm w.R f ⟨a,q,bA,λ_ =>0⟩⟩,fL f (w.B.gA f),0,?_,?_,by omega,q5,?_⟩
 ·rw[hP,ah i1,ae (b:= !true) rfl]
  dsimp only;rw[ah (qb (by omega) q5),ax P3,hfn]
 ·rw[hR,ah i3,ae (by simp;omega),ah (cW hn i2 (by omega)),hnew.2,aoU rfl,ax P3,hfn]
 have hax:=S5 a0 ha;have hfree:=hf.2.2 hl;have hold:∀i,i≠f->(mg w.B f).Is i=1->w.B.Is i=1:=λi hi hs=>by have:dm w.B.Is f 1 i=1:=hs;rwa[jo _ _ hi]at this
 have hne:∀x,aQ w.B x->aY x≠f:=λx hx e=>by have:=(fg hx).2;rw[e,hfree]at this;cases this
 refine⟨⟨i2,λi hi hs=>?_,λi hi hs=>?_,λi hi hs=>?_⟩,?_,λg hg _ =>?_⟩
 ·dsimp only
  rw[bI,bI];by_cases e:i=f
  ·rw[aoU e,aoU e]
   exact⟨rfl,rfl,(by show(0:Nat)<=80;omega),(λy hy=>by cases hy),λ_ _ =>rfl,λ_ _ =>by show(0:Int)<=0/\(0:Int)<=4294967295;decide⟩
  ·rw[aoV e,aoV e];exact r.reg i hi (hold i e hs)
 ·dsimp only
  simp only[bI];by_cases e:i=f
  ·rw[aoU e,aoU e]
   show a=Us (mg w.B f) a;rcases hax with h|h
   ·subst h;rfl
   ·unfold Us;rw[aoU ((mh r.bj hf hl a).2 (.inl h)).2]
  ·rw[aoV e,aoV e]
   have h1:=hold i e hs;rw[af9 r.bj hf hl (r.old i hi h1)];exact r.up i hi h1
 ·dsimp only
  simp only[bI];by_cases e:i=f
  ·rw[aoU e]
   exact hax.imp _root_.id λh=>xn _ (tP h)
  ·rw[aoV e]
   exact(r.old i hi (hold i e hs)).imp _root_.id (xn _)
 ·obtain⟨ρ,hρ⟩:=tt
  refine⟨dm ρ f (1+YM ρ 32),λi hi hs hu=>?_⟩;dsimp only at hu ⊢;simp only[bI]at hu ⊢;by_cases e:i=f
  ·rw[aoU e]at hu
   rw[aoU e,aoU e];change a≠0 at hu;show(if aY a=f then _ else ρ (aY a))<_;have hag:=hax.resolve_left hu;rw[aoV (hne a hag)];have:=Oj ρ (j:=aY a) 32 (iO a);omega
  ·rw[aoV e]at hu
   rw[aoV e,aoV e];have h1:=hold i e hs;rw[aoV (hne _ ((r.up0 hi h1).resolve_left hu))];exact hρ i hi h1 hu
 ·have:=hne g hg
  refine⟨(mh r.bj hf hl g).2 (.inl hg),?_,?_,?_, .inl ?_⟩
  all_goals (dsimp only;rw[jo _ _ this])
theorem anl{n:Nat}(hn:110<=n){p:aR}{x:bL}(h:JG p x):∃b,kM n p.E=some b/\dP n x.E=some b:=by
 have hl:(x.E.aU.map jM).length<=80:=by rw[List.length_map];exact h.n
 obtain⟨b,b1,b2⟩:=QL (n:=n) hn (e:=p.E) (by rw[h.e];exact hl) (by rw[h.e];exact h.r);obtain⟨c,c1,c2⟩:=wz (n:=n) hn h.n h.r;refine⟨b,b1,?_⟩;rw[c1];rw[h.e]at b2;dsimp only at b2;have:b=true↔c=true:=b2.trans ⟨λ⟨q1,_,q3⟩=>c2.2 ⟨q1,q3⟩,λh=>by
  obtain⟨q1,q3⟩:=c2.1 h;exact⟨q1,Vo q1,q3⟩⟩
 cases b<;>cases c<;>simp_all
theorem am5{n:Nat}(hn:110<=n){t:au}{w:ai}(r:gI t w)(tt:jV w){h:Int}(h0:0<=h)(h1:h<4294967296){p:aR}{x:bL}(hx:JG p x):
  ∃t' w' e,gF n t h p=some (t',e)/\jg n w h x=some (w',e)/\Kp5 t w t' w' h e false:=by
 obtain⟨b,b1,b2⟩:=anl hn hx;have hsr:=fG h;unfold gF jg;rw[ah (nZ r.bj h0 h1),ah (cW (by omega) r.bj h0)];cases hg:aM w.B h with
 |false=>exact⟨t,w,4,rfl,rfl, .cQ r tt _ _ _⟩
 |true=>
 have GK:aQ w.B h:=⟨h0,hg⟩;obtain⟨l1,l2⟩:=fg GK;unfold rA;rw[aoU rfl,ae (b:= !true) rfl,ae (by simp;omega),ah rfl,cK b1,cK b2,hx.q];rcases Decidable.em (¬((0<=x.cE/\x.cE<=64)/\b=true))with hq|hq
 ·refine⟨t,w,2,?_,?_, .cQ r tt _ _ _⟩
  ·rw[ak]
   by_cases h3:0<=x.cE/\x.cE<=64
   ·have:b=false:=by cases b with
     |false=>rfl
     |true=>exact absurd ⟨h3,rfl⟩ hq
    rw[this];simp
   ·have:(decide (0<=x.cE)&&decide (x.cE<=64))=false:=by rw[Bool.and_eq_false_iff,decide_eq_false_iff_not,decide_eq_false_iff_not];omega
    rw[this];rfl
  ·rw[ak]
   by_cases h3:0<=x.cE/\x.cE<=64
   ·have:b=false:=by cases b with
     |false=>rfl
     |true=>exact absurd ⟨h3,rfl⟩ hq
    rw[this];simp
   ·have:(decide (x.cE<0)||decide (64<x.cE))=true:=by rw[Bool.or_eq_true,decide_eq_true_eq,decide_eq_true_eq];omega
    rw[this];rfl
 obtain⟨⟨q1,q2⟩,rfl⟩:=Decidable.not_not.1 hq;have e1:(decide (0<=x.cE)&&decide (x.cE<=64))=true:=by simp[q1,q2]
 have e2:(decide (x.cE<0)||decide (64<x.cE))=false:=by rw[Bool.or_eq_false_iff,decide_eq_false_iff_not,decide_eq_false_iff_not];omega
 rw[e1,e2,ae (by rfl),ae (by rfl),ah (qb h0 h1),ax (gR h),ax (gR h),aJ,ax (gR h),aJ,aJ,ax (gR h),aJ];refine⟨_,_,0,rfl,rfl,?_⟩;show Kp5 t w ⟨t.bj,dm t.cL (aY h) {p with Up:=(t.cL (aY h)).Up,cE:=x.cE}⟩ ⟨w.B,dm w.R (aY h) {x with Up:=(w.R (aY h)).Up}⟩ h 0 false;have hT:∀i,(dm t.cL (aY h) {p with Up:=(t.cL (aY h)).Up,cE:=x.cE} i).Up=(t.cL i).Up:=λi=>by
  rw[bI];split
  ·rename_i e;rw[e]
  ·rfl
 have hW:∀i,(dm w.R (aY h) {x with Up:=(w.R (aY h)).Up} i).Up=(w.R i).Up:=λi=>by
  rw[bI];split
  ·rename_i e;rw[e]
  ·rfl
 refine⟨⟨r.bj,λi hi hs=>?_,λi hi hs=>?_,λi hi hs=>?_⟩,?_,λg P1 hne=>?_⟩
 ·dsimp only
  rw[bI,bI];by_cases e:i=aY h
  ·rw[aoU e,aoU e];exact⟨rfl,hx.e,hx.n,hx.r,hx.c,hx.c0⟩
  ·rw[aoV e,aoV e];exact r.reg i hi hs
 ·dsimp only;rw[hT,hW];exact r.up i hi hs
 ·dsimp only;rw[hT];exact r.old i hi hs
 ·obtain⟨ρ,hρ⟩:=tt
  refine⟨ρ,λi hi hs hu=>?_⟩;dsimp only at hu ⊢;rw[hW]at hu ⊢;exact hρ i hi hs hu
 ·have aaE:aY g≠aY h:=λe=>hne ⟨by rw[← iG P1, ← iG GK,e],rfl⟩
  refine⟨P1,?_,?_,?_, .inl ?_⟩
  all_goals (dsimp only;rw[jo _ _ aaE])
end Go.Proofs.Z
namespace Go.Proofs.Z
open Go Go.Bw
inductive uW(w:ai)(s:Nat):Nat->Prop
 |self:uW w s s
 |down {i:Nat}:i<32->w.B.Is i=1->(w.R i).Up≠0->uW w s (aY (w.R i).Up)->uW w s i
theorem uW.iff{w:ai}{s i:Nat}(hi:i<32)(h1:w.B.Is i=1):uW w s i↔i=s\/((w.R i).Up≠0/\uW w s (aY (w.R i).Up)):=by
 constructor
 ·intro h
  cases h with
  |self=>exact .inl rfl
  |down _ _ a b=>exact .inr ⟨a,b⟩
 ·rintro(h|⟨a,b⟩)
  ·subst h;exact .self
  ·exact .down hi h1 a b
def EM(w:ai)(ρ:Nat->Nat)(x:Int):Nat:=if x=0 then 0 else Dx (λj=>decide (ρ j<ρ (aY x))) 32+1
theorem NJ{t:au}{w:ai}(r:gI t w){ρ:Nat->Nat}(hρ:Rk5 w ρ){x:Int}(hx:aQ w.B x):EM w ρ (w.R (aY x)).Up<EM w ρ x:=by
 have hp:=oJ hx;obtain⟨l1,l2⟩:=fg hx;unfold EM;rw[aoV (show¬x=0 by omega)];split
 ·omega
 ·rename_i hu
  have h2:=hρ _ l1 l2 hu;have:=yo (p:=λj=>decide (ρ j<ρ (aY (w.R (aY x)).Up))) (q:=λj=>decide (ρ j<ρ (aY x))) (λj hj=>by simp at hj ⊢;omega) (c:=aY (w.R (aY x)).Up) (by simp) (by simpa using h2) 32 (iO _);omega
theorem NK(w:ai)(ρ:Nat->Nat)(x:Int):EM w ρ x<=32:=by
 unfold EM;split
 ·omega
 ·have:=yo (p:=λj=>decide (ρ j<ρ (aY x))) (q:=λ_ =>true) (λ_ _ =>rfl) (c:=aY x) (by simp) rfl 32 (iO _)
  have:=F8 (λ_ =>true) 32;omega
theorem WH{n:Nat}(hn:40<=n){t:au}{w:ai}(r:gI t w)(tt:jV w){h:Int}(hh:aQ w.B h){x0:Int}(hx0:aQ w.B x0):
  ∃b,dO n w h x0=some b/\(b=true↔(w.R (aY x0)).Up≠0/\uW w (aY h) (aY (w.R (aY x0)).Up)):=by
 obtain⟨ρ,hρ⟩:=tt;unfold dO;have hhp:=oJ hh;refine je (λ(x:Int)=>(x=0\/aQ w.B x)/\(((w.R (aY x0)).Up≠0/\uW w (aY h) (aY (w.R (aY x0)).Up))↔(x≠0/\(w.R (aY x)).Up≠0/\uW w (aY h) (aY (w.R (aY x)).Up)))) (λx=>EM w ρ x)
  (λo=>∃b,o=some b/\(b=true↔(w.R (aY x0)).Up≠0/\uW w (aY h) (aY (w.R (aY x0)).Up))) ?_ n x0 ⟨.inr hx0,?_⟩ (by have:=NK w ρ x0;omega)
 ·rintro kk x ⟨hx,hw⟩ ih
  by_cases h0:x=0
  ·subst h0
   rw[ae (by rfl)];exact⟨false,rfl,by rw[hw];simp⟩
  ·have hg:=hx.resolve_left h0
   have hsr:=fG x;obtain⟨l1,l2⟩:=fg hg;rw[ak (by simpa using h0),ah (cW hn r.bj hg.1),hg.2,aoU rfl,ax (gR x)];show∃b,cn ((w.R (aY x)).Up==h) (some (h !=0)) (kk (w.R (aY x)).Up)=some b/\_;by_cases hu:(w.R (aY x)).Up=h
   ·rw[ak (by simpa using hu)]
    refine⟨_,rfl,?_⟩;rw[hw,hu];exact⟨λ_ =>⟨h0,by omega, .self⟩,λ_ =>by simp;omega⟩
   ·rw[ae (by simpa using hu)]
    refine ih _ ⟨r.ups hg,hw.trans ?_⟩ (NJ r hρ hg);constructor
    ·rintro⟨_,a,b⟩
     have hgu:=(r.ups hg).resolve_left a;obtain⟨m1,m2⟩:=fg hgu;refine⟨a,?_⟩;rcases(uW.iff m1 m2).1 b with e|e
     ·exact absurd (by rw[← iG hgu, ← iG hh,e]) hu
     ·exact e
    ·rintro⟨a,b,c⟩
     have hgu:=(r.ups hg).resolve_left a;obtain⟨m1,m2⟩:=fg hgu;exact⟨h0,a, .down m1 m2 b c⟩
 ·have:=oJ hx0
  exact⟨λa=>⟨by omega,a⟩,λa=>a.2⟩
theorem aiw{n:Nat}(hn:40<=n){t:au}{w:ai}(r:gI t w)(tt:jV w){h:Int}(hh:aQ w.B h){x0:Int}(hx0:x0=0\/aQ w.B x0)(z:Option (au×Int)):
  (x0≠0/\uW w (aY h) (aY x0)->fK (λk30 (eP:Int)=>
 cn ((eP !=0)) (
 cn ((eP==h)) (
 some (t,12)) (
 bd (lZ n t eP) λew=>
 k30 ew)) z) n x0=some (t,12))/\(¬(x0≠0/\uW w (aY h) (aY x0))->fK (λk30 (eP:Int)=>
 cn ((eP !=0)) (
 cn ((eP==h)) (
 some (t,12)) (
 bd (lZ n t eP) λew=>
 k30 ew)) z) n x0=z):=by
 obtain⟨ρ,hρ⟩:=tt;have hhp:=oJ hh;refine je (λ(x:Int)=>(x=0\/aQ w.B x)/\((x0≠0/\uW w (aY h) (aY x0))↔(x≠0/\uW w (aY h) (aY x)))) (λx=>EM w ρ x)
  (λo=>(x0≠0/\uW w (aY h) (aY x0)->o=some (t,12))/\(¬(x0≠0/\uW w (aY h) (aY x0))->o=z)) ?_ n x0 ⟨hx0,Iff.rfl⟩ (by have:=NK w ρ x0;omega)
 rintro kk x ⟨hx,hw⟩ ih;by_cases h0:x=0
 ·subst h0
  rw[ae (by rfl)];exact⟨λhq=>absurd rfl (hw.1 hq).1,λ_ =>rfl⟩
 ·have hg:=hx.resolve_left h0
  obtain⟨l1,l2⟩:=fg hg;rw[ak (by simpa using h0)];by_cases hu:x=h
  ·rw[ak (by simpa using hu)]
   exact⟨λ_ =>rfl,λhq=>absurd (hw.2 ⟨h0,by rw[hu];exact .self⟩) hq⟩
  ·rw[ae (by simpa using hu),ah (Yx r hg)]
   refine ih _ ⟨r.ups hg,hw.trans ?_⟩ (NJ r hρ hg);constructor
   ·rintro⟨_,b⟩
    rcases(uW.iff l1 l2).1 b with e|e
    ·exact absurd (by rw[← iG hg, ← iG hh,e]) hu
    ·exact e
   ·rintro⟨a,b⟩
    exact⟨h0, .down l1 l2 a b⟩
theorem agz{n:Nat}(hn:40<=n){t:au}{w:ai}(r:gI t w)(tt:jV w){h a:Int}(h0:0<=h)(h1:h<4294967296)(a0:0<=a)(a1:a<4294967296):
  ∃t' w' e,iN n t h a=some (t',e)/\kF n w h a=some (w',e)/\Kp5 t w t' w' h e false:=by
 unfold iN kF;rw[ah (nZ r.bj h0 h1),ah (cj hn r h0),FX r a0 a1,cK (cj hn r a0)];cases hg:aM w.B h with
 |false=>exact⟨t,w,4,rfl,rfl, .cQ r tt _ _ _⟩
 |true=>
 have GK:aQ w.B h:=⟨h0,hg⟩;obtain⟨l1,l2⟩:=fg GK;have hpos:=oJ GK;have e0:∀v:Bool,(((!true)==false)&&v)=v:=λv=>by cases v<;>rfl
 rw[e0,ug];cases ha:ZN w.B a with
 |false=>exact⟨t,w,4,rfl,rfl, .cQ r tt _ _ _⟩
 |true=>
 rw[ae (by rfl),ae (by rfl)];have hax:=S5 a0 ha;obtain⟨p1,p2⟩:=aiw (n:=n) hn r tt GK hax (bd (bW n h) λjN=>
 gu (bQ jN.1 32)<|
 lt ({t with cL:=(dm t.cL (Int.toNat jN.1) ({(t.cL (Int.toNat jN.1))with Up:=a}))}:au) λkX=>
 some (kX,0))
 have hR:∃b,(b=true↔a≠0/\uW w (aY h) (aY a))/\∀(F:Bool->Option (ai×Int)),(cl (((a !=0)==true)&&((a==h)==false)) (dO n w h a) default λiB=>F ((a !=0)&&((a==h)||iB)))=F b:=by
  rcases hax with e|e
  ·subst e
   exact⟨false,by simp,λF=>rfl⟩
  ·have hp:=oJ e
   obtain⟨b,b1,b2⟩:=WH (n:=n) hn r tt GK e;obtain⟨m1,m2⟩:=fg e;refine⟨(a==h)||b,?_,λF=>?_⟩
   ·rw[Bool.or_eq_true,beq_iff_eq,b2,uW.iff m1 m2]
    constructor
    ·rintro(q|q)
     ·exact⟨by omega, .inl (by rw[q])⟩
     ·exact⟨by omega, .inr q⟩
    ·rintro⟨_,q|q⟩
     ·exact .inl (by rw[← iG e, ← iG GK,q])
     ·exact .inr q
   ·have e1:(a !=0)=true:=by simp;omega
    rw[cK b1,e1];cases a==h<;>rfl
 obtain⟨b,b1,b2⟩:=hR;rw[b2 (λv=>cn v (some (w,12)) (bd (bq n w.B h) λdZ=>
 gu (bQ dZ 32)<|
 lt ({w with R:=(dm w.R (Int.toNat dZ) ({(w.R (Int.toNat dZ))with Up:=a}))}:ai) λg8=>
 some (g8,0)))]
 cases b with
 |true=>exact⟨t,w,12,p1 (b1.1 rfl),rfl, .cQ r tt _ _ _⟩
 |false=>
 have hns:¬(a≠0/\uW w (aY h) (aY a)):=λq=>by have:=b1.2 q;cases this
 rw[p2 hns];rw[ah (qb h0 h1),ae rfl,ah (cW hn r.bj h0),hg,aoU rfl];refine⟨⟨t.bj,dm t.cL (aY h) {t.cL (aY h)with Up:=a}⟩,⟨w.B,dm w.R (aY h) {w.R (aY h)with Up:=a}⟩,0,?_,?_,?_⟩
 ·rw[ax (gR h)];rfl
 ·rw[ax (gR h)];rfl
 refine⟨⟨r.bj,λi hi hs=>?_,λi hi hs=>?_,λi hi hs=>?_⟩,?_,λg P1 hne=>?_⟩
 ·dsimp only
  rw[bI,bI];by_cases e:i=aY h
  ·rw[aoU e,aoU e];exact(r.reg _ l1 l2).ajX _ _
  ·rw[aoV e,aoV e];exact r.reg i hi hs
 ·dsimp only
  simp only[bI];by_cases e:i=aY h
  ·rw[aoU e,aoU e]
   show a=Us w.B a;rcases hax with q|q
   ·subst q;rfl
   ·unfold Us;rw[aoU q.2]
  ·rw[aoV e,aoV e];exact r.up i hi hs
 ·dsimp only
  simp only[bI];by_cases e:i=aY h
  ·rw[aoU e];exact hax.imp _root_.id tP
  ·rw[aoV e];exact r.old i hi hs
 ·obtain⟨ρ,hρ⟩:=tt
  obtain⟨f,f1,f2⟩:∃f:Nat->Nat,(∀i,uW w (aY h) i->f i=ρ i+ρ (aY a)+1)/\∀i,¬uW w (aY h) i->f i=ρ i:=by
   classical
   exact⟨λi=>if uW w (aY h) i then ρ i+ρ (aY a)+1 else ρ i,λi q=>aoU q,λi q=>aoV q⟩
  refine⟨f,λi hi hs hu=>?_⟩;have hU:(dm w.R (aY h) {w.R (aY h)with Up:=a} i).Up=if i=aY h then a else(w.R i).Up:=by rw[bI];split<;>rfl
  dsimp only at hu hs ⊢;rw[hU]at hu ⊢;by_cases e:i=aY h
  ·rw[aoU e]at hu ⊢
   rw[f2 _ (λq=>hns ⟨hu,q⟩),e,f1 _ .self];omega
  ·rw[aoV e]at hu ⊢
   have h2:=hρ i hi hs hu;have h3:=uW.iff (s:=aY h) hi hs;by_cases q:uW w (aY h) (aY (w.R i).Up)
   ·rw[f1 _ q,f1 _ (h3.2 (.inr ⟨hu,q⟩))];omega
   ·rw[f2 _ q,f2 _ (λc=>(h3.1 c).elim e λc=>q c.2)];exact h2
 ·have aaE:aY g≠aY h:=λe=>hne ⟨by rw[← iG P1, ← iG GK,e],rfl⟩
  refine⟨P1,?_,?_,?_, .inl ?_⟩
  all_goals (dsimp only;rw[jo _ _ aaE])
end Go.Proofs.Z
namespace Go.Proofs.Z
open Go Go.Bw
theorem UJ{n:Nat}(hn:40<=n){t:au}{w:ai}(r:gI t w):oF n w=some (aX w.B 32):=by
 unfold oF;refine dU (λ(l:List Int) (x:Int)=>∃k:Nat,x=k/\k<=32/\l=aX w.B k) (λ_ (x:Int)=>(32-x).toNat) (λo=>o=some (aX w.B 32)) ?_ n [] 0 ⟨0,rfl,by omega,rfl⟩ (by omega);rintro kk l x ⟨k,rfl,hk,rfl⟩ ih;by_cases hc:k<32
 ·rw[ak (by simp;omega),ax (bK (by omega) (by omega))]
  have hr:=r.bj.nW k hc;by_cases e:w.B.Is k=1
  ·rw[ak (by simpa using e),ah (tH (by omega) (by omega) hr.1 hr.2),ax (eM (by have:=gZ w.B k;omega) (by have:=gZ w.B k;omega)),aJ,aL (by omega) (by omega)]
   exact ih _ _ ⟨k+1,by omega,by omega,by simp[aX,e]⟩ (by omega)
  ·rw[ae (by simpa using e),aL (by omega) (by omega)]
   exact ih _ _ ⟨k+1,by omega,by omega,by simp[aX,e]⟩ (by omega)
 ·rw[ae (by simp;omega)]
  obtain rfl:k=32:=by omega
  rfl
theorem ais{n:Nat}(hn:40<=n){t:au}{w:ai}(r:gI t w):nH n t.bj=some (aX w.B 32):=by unfold nH;rw[ah (wB hn r.bj)]
theorem gP{α:Type}[Inhabited α]{l:List α}{i:Nat}(h:i<l.length):l.getD i default∈l:=by rw[List.getD,ao3 h];exact List.getElem_mem _
end Go.Proofs.Z
namespace Go.Proofs.Z
open Go Go.Bw
theorem Nm{i:Nat}(h:gG.B.Is i=1):False:=absurd (show(0:Int)=1 from h) (by decide)
theorem ae3:gI iL gG/\jV gG:=
 ⟨⟨⟨λi _ =>rfl,λi _ =>rfl,λi _ =>rfl,λi _ => .inl rfl,λi _ =>⟨Int.le_refl 0,show(0:Int)<=8388607 by decide⟩⟩,λi _ h=>(Nm h).elim,λi _ h=>(Nm h).elim,λi _ h=>(Nm h).elim⟩,λ_ =>0,λi _ h=>(Nm h).elim⟩
end Go.Proofs.Z
namespace Go.Proofs.Z
open Go Go.Bw
structure Fo(G:List Int)(up:Int->Int)(ρ:Int->Nat):Prop where
 nd:G.Nodup
 len:G.length<=32
 pos:∀x∈G,x≠0
 up0:∀x∈G,up x=0\/up x∈G
 rk:∀x∈G,ρ x<32
 dn:∀x∈G,up x≠0->ρ (up x)<ρ x
def Qc(up:Int->Int):Nat->Int->List Int
 |0,_ =>[]
 |k+1,x=>if up x=0 then[]else up x::Qc up k (up x)
def nK(G:List Int)(up:Int->Int)(x:Int):List Int:=G.filter λy=>up y==x
def Qd(G:List Int)(up:Int->Int):Nat->Int->List Int
 |0,_ =>[]
 |k+1,x=>x::(nK G up x).flatMap (Qd G up k)
abbrev U6(up:Int->Int)(x:Int):List Int:=Qc up 32 x
abbrev V6(G:List Int)(up:Int->Int)(x:Int):List Int:=Qd G up 32 x
theorem pK{G:List Int}{up:Int->Int}{x y:Int}:y∈nK G up x↔y∈G/\up y=x:=by simp[nK]
theorem EG{α β:Type}{l:List α}{f g:α->List β}(h:∀x∈l,f x=g x):l.flatMap f=l.flatMap g:=by
 induction l with
 |nil=>rfl
 |cons a l ih=>rw[List.flatMap_cons,List.flatMap_cons,h a (by simp),ih λx hx=>h x (by simp[hx])]
section
variable {G:List Int} {up:Int->Int} {ρ:Int->Nat}
theorem Fo.Yw(f:Fo G up ρ){x:Int}(hx:x∈G)(h:up x≠0):up x∈G:=(f.up0 x hx).resolve_left h
theorem Fo.Qe(f:Fo G up ρ)(P:Int->Prop)(h:∀x∈G,(up x≠0->P (up x))->P x):∀x∈G,P x:=by
 have key:∀k x,x∈G->ρ x<k->P x:=by
  intro k
  induction k with
  |zero=>intro x _ h;omega
  |succ k ih=>intro x hx hk;exact h x hx λhu=>ih _ (f.Yw hx hu) (by have:=f.dn x hx hu;omega)
 exactλx hx=>key _ x hx (Nat.lt_succ_self _)
theorem Fo.kup(f:Fo G up ρ){x y:Int}(hx:x∈G)(hy:y∈G)(h:up y=x):ρ x<ρ y:=by have:=f.dn y hy (by rw[h];exact f.pos x hx);rwa[h]at this
theorem Fo.aib(f:Fo G up ρ)(P:Int->Prop)(h:∀x∈G,(∀y∈G,up y=x->P y)->P x):∀x∈G,P x:=by
 have key:∀k x,x∈G->32-ρ x<k->P x:=by
  intro k
  induction k with
  |zero=>intro x _ h;omega
  |succ k ih=>intro x hx hk;exact h x hx λy hy hu=>ih _ hy (by have:=f.kup hx hy hu;have:=f.rk y hy;omega)
 exactλx hx=>key _ x hx (Nat.lt_succ_self _)
theorem Fo.ust(f:Fo G up ρ):∀k x,x∈G->ρ x<k->Qc up (k+1) x=Qc up k x:=by
 intro k
 induction k with
 |zero=>intro x _ h;omega
 |succ k ih=>
  intro x hx hk;show(if up x=0 then[]else up x::Qc up (k+1) (up x))=(if up x=0 then[]else up x::Qc up k (up x));split
  ·rfl
  ·rename_i hu
   rw[ih _ (f.Yw hx hu) (by have:=f.dn x hx hu;omega)]
theorem Fo.ajL(f:Fo G up ρ){x:Int}(hx:x∈G):U6 up x=if up x=0 then[]else up x::U6 up (up x):=by
 show Qc up (31+1) x=_;rw[Qc];split
 ·rfl
 ·rename_i hu
  have:=f.dn x hx hu;have:=f.rk x hx;rw[← f.ust 31 _ (f.Yw hx hu) (by omega)]
theorem Fo.u0(f:Fo G up ρ){x:Int}(hx:x∈G)(h:up x=0):U6 up x=[]:=by rw[f.ajL hx,aoU h]
theorem Fo.u1(f:Fo G up ρ){x:Int}(hx:x∈G)(h:up x≠0):U6 up x=up x::U6 up (up x):=by rw[f.ajL hx,aoV h]
theorem Fo.vst(f:Fo G up ρ):∀k x,x∈G->32-ρ x<=k->Qd G up (k+1) x=Qd G up k x:=by
 intro k
 induction k with
 |zero=>intro x hx h;have:=f.rk x hx;omega
 |succ k ih=>intro x hx hk;rw[Qd,Qd];congr 1;refine EG λy hy=>?_;obtain⟨hy,hu⟩:=pK.1 hy;exact ih y hy (by have:=f.kup hx hy hu;have:=f.rk y hy;omega)
theorem Fo.Oe(f:Fo G up ρ){x:Int}(hx:x∈G):V6 G up x=x::(nK G up x).flatMap (V6 G up):=by show Qd G up (31+1) x=_;rw[Qd];congr 1;refine EG λy hy=>?_;obtain⟨hy,hu⟩:=pK.1 hy;have:=f.kup hx hy hu;exact(f.vst 31 y hy (by have:=f.rk y hy;omega)).symm
theorem Fo.IM(f:Fo G up ρ){x:Int}(hx:x∈G):∀y∈U6 up x,y∈G/\ρ y<ρ x:=by
 refine f.Qe (λx=>∀y∈U6 up x,y∈G/\ρ y<ρ x) (λx hx ih y hy=>?_) x hx;by_cases hu:up x=0
 ·rw[f.u0 hx hu]at hy;cases hy
 ·rw[f.u1 hx hu]at hy
  have:=f.dn x hx hu;rcases List.mem_cons.1 hy with h|h
  ·rw[h];exact⟨f.Yw hx hu,this⟩
  ·obtain⟨h1,h2⟩:=ih hu y h;exact⟨h1,by omega⟩
theorem Fo.ae8(f:Fo G up ρ){x:Int}(hx:x∈G):x∉U6 up x:=λh=>by have:=(f.IM hx x h).2;omega
theorem Fo.ajK(f:Fo G up ρ){x y z:Int}(hx:x∈G)(hy:y∈U6 up x)(hz:z∈U6 up y):z∈U6 up x:=by
 revert hy;refine f.Qe (λx=>y∈U6 up x->z∈U6 up x) (λx hx ih hy=>?_) x hx;by_cases hu:up x=0
 ·rw[f.u0 hx hu]at hy;cases hy
 ·rw[f.u1 hx hu]at hy ⊢
  rcases List.mem_cons.1 hy with h|h
  ·rw[← h];exact ao6 _ hz
  ·exact ao6 _ (ih hu h)
theorem Fo.am0(f:Fo G up ρ){x y:Int}(hx:x∈G)(hy:y=x\/y∈U6 up x)(hu:up y≠0):up y∈U6 up x:=by
 rcases hy with h|h
 ·subst h;rw[f.u1 hx hu];exact List.mem_cons_self
 ·exact f.ajK hx h (by rw[f.u1 (f.IM hx y h).1 hu];exact List.mem_cons_self)
theorem Fo.agc(f:Fo G up ρ){x y:Int}(hy:y∈G)(h:x∈U6 up y):∃k∈G,up k=x/\(k=y\/k∈U6 up y):=by
 revert h;refine f.Qe (λy=>x∈U6 up y->∃k∈G,up k=x/\(k=y\/k∈U6 up y)) (λy hy ih h=>?_) y hy;by_cases hu:up y=0
 ·rw[f.u0 hy hu]at h;cases h
 ·rw[f.u1 hy hu]at h
  rcases List.mem_cons.1 h with h|h
  ·exact⟨y,hy,h.symm, .inl rfl⟩
  ·obtain⟨k,k1,k2,k3⟩:=ih hu h
   refine⟨k,k1,k2, .inr ?_⟩;rw[f.u1 hy hu];rcases k3 with k3|k3
   ·rw[k3];exact List.mem_cons_self
   ·exact ao6 _ k3
theorem Fo.lin(f:Fo G up ρ){a b y:Int}(hy:y∈G)(ha:a=y\/a∈U6 up y)(hb:b=y\/b∈U6 up y):a=b\/a∈U6 up b\/b∈U6 up a:=by
 revert ha hb;refine f.Qe (λy=>(a=y\/a∈U6 up y)->(b=y\/b∈U6 up y)->a=b\/a∈U6 up b\/b∈U6 up a) (λy hy ih ha hb=>?_) y hy;by_cases hu:up y=0
 ·rw[f.u0 hy hu]at ha hb
  have e1:a=y:=ha.resolve_right (by simp);have e2:b=y:=hb.resolve_right (by simp);exact .inl (e1.trans e2.symm)
 ·rcases ha with ha|ha
  ·rcases hb with hb|hb
   ·exact .inl (ha.trans hb.symm)
   ·subst ha;exact .inr (.inr hb)
  ·rcases hb with hb|hb
   ·subst hb;exact .inr (.inl ha)
   ·rw[f.u1 hy hu]at ha hb
    exact ih hu (List.mem_cons.1 ha) (List.mem_cons.1 hb)
theorem Fo.yU(f:Fo G up ρ){x:Int}(hx:x∈G):∀y,y∈V6 G up x↔y∈G/\(y=x\/x∈U6 up y):=by
 refine f.aib (λx=>∀y,y∈V6 G up x↔y∈G/\(y=x\/x∈U6 up y)) (λx hx ih y=>?_) x hx;rw[f.Oe hx,List.mem_cons,List.mem_flatMap];constructor
 ·rintro(h|⟨k,hk,h⟩)
  ·subst h;exact⟨hx, .inl rfl⟩
  ·obtain⟨k1,k2⟩:=pK.1 hk
   obtain⟨h1,h2⟩:=(ih k k1 k2 y).1 h;refine⟨h1, .inr ?_⟩;rw[← k2];exact f.am0 h1 (h2.imp Eq.symm _root_.id) (by rw[k2];exact f.pos x hx)
 ·rintro⟨h1,h|h⟩
  ·exact .inl h
  ·obtain⟨k,k1,k2,k3⟩:=f.agc h1 h
   exact .inr ⟨k,pK.2 ⟨k1,k2⟩,(ih k k1 k2 y).2 ⟨h1,k3.imp Eq.symm _root_.id⟩⟩
theorem MJ{α β:Type}{l:List α}{g:α->List β}(hl:l.Nodup)(h1:∀x∈l,(g x).Nodup)(h2:∀x∈l,∀y∈l,x≠y->∀z∈g x,z∉g y):(l.flatMap g).Nodup:=by
 induction l with
 |nil=>simp
 |cons a l ih=>obtain⟨ha,hl⟩:=List.nodup_cons.1 hl;rw[List.flatMap_cons];refine List.nodup_append.2 ⟨h1 a (by simp),ih hl (λx hx=>h1 x (by simp[hx])) (λx hx y hy=>h2 x (by simp[hx]) y (by simp[hy])),λz hz w hw e=>?_⟩;subst e;obtain⟨b,hb,hzb⟩:=List.mem_flatMap.1 hw;exact h2 a (by simp) b (by simp[hb]) (λe=>ha (e▸hb)) z hz hzb
theorem Fo.af3(f:Fo G up ρ){x:Int}(hx:x∈G):(V6 G up x).Nodup:=by
 refine f.aib (λx=>(V6 G up x).Nodup) (λx hx ih=>?_) x hx;rw[f.Oe hx];refine List.nodup_cons.2 ⟨λh=>?_,MJ (f.nd.filter _) (λk hk=>?_) (λa ha b hb hne z hz hz2=>?_)⟩
 ·obtain⟨k,hk,h⟩:=List.mem_flatMap.1 h
  obtain⟨k1,k2⟩:=pK.1 hk;have h3:=((f.yU k1 x).1 h).2;have:=f.kup hx k1 k2;rcases h3 with h3|h3
  ·rw[h3]at this;omega
  ·have:=(f.IM hx k h3).2;omega
 ·obtain⟨k1,k2⟩:=pK.1 hk;exact ih k k1 k2
 ·obtain⟨a1,a2⟩:=pK.1 ha
  obtain⟨b1,b2⟩:=pK.1 hb;obtain⟨z1,z2⟩:=(f.yU a1 z).1 hz;obtain⟨_,z3⟩:=(f.yU b1 z).1 hz2;have ra:=f.kup hx a1 a2;have rb:=f.kup hx b1 b2;have x0:=f.pos x hx;have no:∀{p q:Int},p∈G->up p=x->ρ x<ρ q->q∉U6 up p:=λhp hu hr hq=>by
   rw[f.u1 hp (by rw[hu];exact x0),hu]at hq;rcases List.mem_cons.1 hq with h|h
   ·rw[h]at hr;omega
   ·have:=(f.IM hx _ h).2;omega
  rcases f.lin z1 (z2.imp Eq.symm _root_.id) (z3.imp Eq.symm _root_.id)with h|h|h
  ·exact hne h
  ·exact no b1 b2 ra h
  ·exact no a1 a2 rb h
theorem UR{l m:List Int}(hl:l.Nodup)(hs:∀x∈l,x∈m):l.length<=m.length:=by
 induction l generalizing m with
 |nil=>simp
 |cons a l ih=>obtain⟨ha,hl⟩:=List.nodup_cons.1 hl;have hm:=hs a (by simp);have:=ih (m:=m.erase a) hl (λx hx=>(List.mem_erase_of_ne (λ(e:x=a)=>ha (by rw[← e];exact hx))).2 (hs x (by simp[hx])));rw[List.length_erase_of_mem hm]at this;have h0:0<m.length:=List.length_pos_of_mem hm;rw[List.length_cons];omega
theorem Fo.M3(f:Fo G up ρ){x:Int}(hx:x∈G):(V6 G up x).length<=32:=Nat.le_trans (UR (f.af3 hx) λy hy=>((f.yU hx y).1 hy).1) f.len
theorem Fo.am1(f:Fo G up ρ){x:Int}(hx:x∈G):(U6 up x).Nodup:=by
 refine f.Qe (λx=>(U6 up x).Nodup) (λx hx ih=>?_) x hx;by_cases hu:up x=0
 ·rw[f.u0 hx hu];exact .nil
 ·rw[f.u1 hx hu];exact List.nodup_cons.2 ⟨f.ae8 (f.Yw hx hu),ih hu⟩
theorem Fo.YB(f:Fo G up ρ){x:Int}(hx:x∈G):(U6 up x).length<=32:=Nat.le_trans (UR (f.am1 hx) λy hy=>(f.IM hx y hy).1) f.len
def Na(up:Int->Int)(x:Int):Int:=(U6 up x).getLastD x
theorem Fo.UA(f:Fo G up ρ){x:Int}(hx:x∈G):Na up x=if up x=0 then x else Na up (up x):=by
 unfold Na;by_cases hu:up x=0
 ·rw[f.u0 hx hu,aoU hu];rfl
 ·rw[f.u1 hx hu,aoV hu]
  cases h:U6 up (up x)with
  |nil=>rfl
  |cons a l=>simp[List.getLastD]
theorem Fo.SB(f:Fo G up ρ){x:Int}(hx:x∈G):Na up x∈G/\(Na up x=x\/Na up x∈U6 up x)/\up (Na up x)=0:=by
 refine f.Qe (λx=>Na up x∈G/\(Na up x=x\/Na up x∈U6 up x)/\up (Na up x)=0) (λx hx ih=>?_) x hx;rw[f.UA hx];by_cases hu:up x=0
 ·rw[aoU hu];exact⟨hx, .inl rfl,hu⟩
 ·rw[aoV hu]
  obtain⟨h1,h2,h3⟩:=ih hu;refine⟨h1, .inr ?_,h3⟩;rw[f.u1 hx hu];rcases h2 with h2|h2
  ·rw[h2];exact List.mem_cons_self
  ·exact ao6 _ h2
theorem Fo.Oo(f:Fo G up ρ){x:Int}(hx:x∈G):Na up x=x↔up x=0:=by
 rw[f.UA hx];by_cases hu:up x=0
 ·rw[aoU hu];exact⟨λ_ =>hu,λ_ =>rfl⟩
 ·rw[aoV hu]
  refine⟨λh=>?_,λh=>absurd h hu⟩;have h1:=f.dn x hx hu;obtain⟨_,h2,_⟩:=f.SB (f.Yw hx hu);rw[h]at h2;rcases h2 with h2|h2
  ·rw[← h2]at h1;omega
  ·have:=(f.IM (f.Yw hx hu) x h2).2;omega
theorem Fo.agq(f:Fo G up ρ){x z:Int}(hx:x∈G)(hz:z=x\/z∈U6 up x)(h0:up z=0):Na up x=z:=by
 revert hz;refine f.Qe (λx=>(z=x\/z∈U6 up x)->Na up x=z) (λx hx ih hz=>?_) x hx;rw[f.UA hx];by_cases hu:up x=0
 ·rw[aoU hu]
  rw[f.u0 hx hu]at hz;exact(hz.resolve_right (by simp)).symm
 ·rw[aoV hu]
  rcases hz with h|h
  ·subst h;exact absurd h0 hu
  ·rw[f.u1 hx hu]at h
   exact ih hu (List.mem_cons.1 h)
end
end Go.Proofs.Z
namespace Go.Proofs.Z
open Go Go.Bw
def dM(w:ai)(x:Int):Int:=(w.R (aY x)).Up
abbrev Gw(w:ai):List Int:=aX w.B 32
theorem Lm{t:au}{w:ai}(r:gI t w)(tt:jV w):∃ρ,Fo (Gw w) (dM w) ρ:=by
 obtain⟨q,hq⟩:=tt;have hm:=bY r.bj;refine⟨λx=>Dx (λj=>decide (q j<q (aY x))) 32,⟨zY r.bj 32 (by omega),gZ _ _,λx hx=>?_,λx hx=>?_,λx hx=>?_,λx hx hu=>?_⟩⟩
 ·have:=oJ ((hm x).1 hx);omega
 ·exact(r.ups ((hm x).1 hx)).imp _root_.id (hm _).2
 ·have:=yo (p:=λj=>decide (q j<q (aY x))) (q:=λ_ =>true) (λ_ _ =>rfl) (c:=aY x) (by simp) rfl 32 (iO _)
  have:=F8 (λ_ =>true) 32;omega
 ·obtain⟨l1,l2⟩:=fg ((hm x).1 hx)
  have h2:=hq _ l1 l2 hu;exact yo (p:=λj=>decide (q j<q (aY (w.R (aY x)).Up))) (q:=λj=>decide (q j<q (aY x))) (λj hj=>by simp at hj ⊢;omega) (c:=aY (w.R (aY x)).Up) (by simp) (by simpa using h2) 32 (iO _)
section
universe u1 u2 u3
theorem CW{α1 ρ:Type}{B:(α1->Option ρ)->α1->Option ρ}(g:α1->ρ)(I:α1->Prop)(μ:α1->Nat)(hB:∀k a,I a->(∀b,I b->μ b<μ a->k b=some (g b))->B k a=some (g a)):∀n a,I a->μ a<n->fK B n a=some (g a):=by
 intro n
 induction n with
 |zero=>intro a _ h;exact absurd h (Nat.not_lt_zero _)
 |succ n ih=>intro a hi hm;exact hB _ a hi λb hj hl=>ih b hj (by omega)
end
theorem T7{n:Nat}(hn:40<=n){t:au}{w:ai}(r:gI t w)(tt:jV w){h:Int}(hh:aQ w.B h):nN n t h=some (U6 (dM w) h):=by
 obtain⟨ρ,f⟩:=Lm r tt;have hm:=bY r.bj;unfold nN;refine CW (λx=>U6 (dM w) x) (λx=>aQ w.B x) ρ (λk x hx ih=>?_) n h hh (by have:=f.rk h ((hm h).2 hh);omega);have hG:=(hm x).2 hx;rw[ah (z8 r hx.1 (gh hx.2)),aoU hx.2];show cn (((0:Int)!=0||(dM w x==0))==false) (yl (dM w x) (k (dM w x))) (some [])=_;by_cases hu:dM w x=0
 ·rw[f.u0 hG hu,ae (by simp[hu])]
 ·rw[f.u1 hG hu,ak (by simp[hu]),ih _ ((hm _).1 (f.Yw hG hu)) (f.dn x hG hu)];rfl
def nO(w:ai)(a:Int):Int:=if aM w.B a=true then 1+((U6 (dM w) a).length:Int)else 0
def dc(w:ai)(a:Int):Int:=if aM w.B a=true then Na (dM w) a else 0
def yD(w:ai)(a b:Int):Bool:=aM w.B a&&aM w.B b&&((a==b)||(U6 (dM w) b).contains a)
def O0(w:ai)(a:Int):List Int:=if aM w.B a=true then nK (Gw w) (dM w) a else[]
def fY(w:ai)(a:Int):List Int:=if aM w.B a=true then V6 (Gw w) (dM w) a else[]
section
variable {n:Nat} {t:au} {w:ai}
theorem adV(l:List Int)(x:Int)(h0:0<=x)(h1:x+(l.length:Int)<=1000000):sH (λ(P4:Int) k31 (dZ:Int)=>lt (P4:Int) λ_ =>lt (wr .i64 (dZ+1):Int) λkX=>k31 kX) (λ(dZ:Int)=>some dZ) l x=some (x+(l.length:Int)):=by
 induction l generalizing x with
 |nil=>simp[sH]
 |cons a l ih=>rw[List.length_cons]at h1;have e:wr .i64 (x+1)=x+1:=aL (by omega) (by omega);refine(ih (wr .i64 (x+1)) (by rw[e];omega) (by rw[e];omega)).trans ?_;rw[e,List.length_cons];congr 1;omega
theorem Pq(hn:40<=n)(r:gI t w)(tt:jV w){a:Int}(h0:0<=a)(h1:a<4294967296):jT n t a=some (nO w a):=by
 unfold jT nO;rw[ah (nZ r.bj h0 h1)];cases hg:aM w.B a with
 |false=>rfl
 |true=>obtain⟨ρ,f⟩:=Lm r tt;have hG:=(bY r.bj a).2 ⟨h0,hg⟩;rw[ae (b:= !true) rfl,aoU rfl];unfold oq;rw[ah rfl,ah (T7 hn r tt ⟨h0,hg⟩)];have:=f.YB hG;exact adV _ 1 (by omega) (by omega)
theorem aam(l:List Int)(x:Int):sH (λ(P4:Int) k31 (_ :Int)=>lt (P4:Int) λjN=>k31 jN) (λ(dZ:Int)=>some dZ) l x=some (l.getLastD x):=by
 induction l generalizing x with
 |nil=>rfl
 |cons a l ih=>exact(ih a).trans (by cases l<;>rfl)
theorem Ew(hn:40<=n)(r:gI t w)(tt:jV w){a:Int}(h0:0<=a)(h1:a<4294967296):jj n t a=some (dc w a):=by
 unfold jj dc;rw[ah (nZ r.bj h0 h1)];cases hg:aM w.B a with
 |false=>rfl
 |true=>rw[ae (b:= !true) rfl,aoU rfl];unfold oq;rw[ah rfl,ah (T7 hn r tt ⟨h0,hg⟩)];exact aam _ a
theorem ahg(a1:Int)(l:List Int)(x:Bool):sH (λ(e38:Int) Nt (g8:Bool)=>lt (e38:Int) λkX=>lt ((g8||(kX==a1)):Bool) λrL=>Nt rL) (λ(g8:Bool)=>some g8) l x=some (x||l.contains a1):=by
 induction l generalizing x with
 |nil=>simp[sH]
 |cons a l ih=>refine(ih (x||(a==a1))).trans ?_;rw[List.contains_cons,Bool.or_assoc,Bool.beq_comm (a:=a)]
theorem OE(hn:40<=n)(r:gI t w)(tt:jV w){a b:Int}(h0:0<=a)(h1:a<4294967296)(k0:0<=b)(k1:b<4294967296):mI n t a b=some (yD w a b):=by
 unfold mI yD;rw[ah (nZ r.bj h0 h1),cK (nZ r.bj k0 k1)];cases hg:aM w.B a with
 |false=>rfl
 |true=>
  cases hk:aM w.B b with
  |false=>rfl
  |true=>rw[ae (by rfl),aJ];unfold oq;rw[ah rfl,ah (T7 hn r tt ⟨k0,hk⟩)];exact ahg a _ _
end
end Go.Proofs.Z
namespace Go.Proofs.Z
open Go Go.Bw
theorem QI{α:Type}(l:List α):l=[]\/∃i x,l=i++[x]:=by
 rcases l with _ |⟨a,l⟩
 ·exact .inl rfl
 ·exact .inr ⟨(a::l).dropLast,(a::l).getLast (by simp),(List.dropLast_concat_getLast (by simp)).symm⟩
theorem fq{α:Type}[Inhabited α]{l:List α}{i:Nat}(h:i<l.length):l.getD i default=l[i]:=by rw[List.getD,ao3 h];rfl
theorem anv(d:Int->Option Bool)(p:Int->Bool)(l:List Int)(hd:∀x∈l,d x=some (p x))(hl:l.length<1000)(z:Option Int){n:Nat}(hn:l.length<n):
  ∃i:Nat,i<=l.length/\(∀x∈l.take i,p x=false)/\((i<l.length/\p (l.getD i default)=true/\fK (λzX (bV:Int)=>
 cn (decide (bV<(l.length:Int))) (
 gu (bQ bV l.length)<|
 bd (d (l.getD (Int.toNat bV) default)) λeP=>
 cn (eP) (
 some bV) (
 zX (wr .i64 (bV+1)))) z) n 0=some (i:Int))\/(i=l.length/\fK (λzX (bV:Int)=>
 cn (decide (bV<(l.length:Int))) (
 gu (bQ bV l.length)<|
 bd (d (l.getD (Int.toNat bV) default)) λeP=>
 cn (eP) (
 some bV) (
 zX (wr .i64 (bV+1)))) z) n 0=z)):=by
 refine je (λ(x:Int)=>∃k:Nat,x=k/\k<=l.length/\∀x∈l.take k,p x=false) (λx=>l.length-x.toNat) (λo=>∃i:Nat,i<=l.length/\(∀x∈l.take i,p x=false)/\((i<l.length/\p (l.getD i default)=true/\o=some (i:Int))\/(i=l.length/\o=z))) ?_ n 0 ⟨0,rfl,by omega,by simp⟩ (by omega);rintro kk x ⟨k,rfl,hk,hp⟩ ih;by_cases c:k<l.length
 ·have hm:l.getD k default∈l:=gP c
  rw[ak (aoY (by omega)),ax (bK (by omega) (by omega)),aoZ,ah (hd _ hm)];cases hb:p (l.getD k default)with
  |true=>rw[ak rfl];exact⟨k,hk,hp, .inl ⟨c,hb,rfl⟩⟩
  |false=>
   rw[ae rfl,aL (by omega) (by omega)];refine ih _ ⟨k+1,by omega,by omega,λy hy=>?_⟩ (by omega);rw[ao4 c,List.mem_append,List.mem_singleton]at hy;rcases hy with hy|hy
   ·exact hp y hy
   ·rw[hy, ← fq c];exact hb
 ·rw[ae (ao5 (by omega))]
  exact⟨k,hk,hp, .inr ⟨by omega,rfl⟩⟩
theorem aoi(d:Int->Option Bool)(p:Int->Bool)(l:List Int)(hd:∀x∈l,d x=some (p x))(hl:l.length<1000){i:Nat}(hi:i<l.length)(hp:p (l.getD i default)=true)(h0:∀x∈l.take i,p x=false){n:Nat}(hn:l.length<n):
  sF (λk34 (gj:(List Int)) (dZ:Int) (eJ:Int)=>
 cn (decide (eJ<(gj.length:Int))) (
 gu (bQ eJ gj.length)<|
 bd (d (gj.getD (Int.toNat eJ) default)) λnt=>
 cn ((!nt)) (
 gu (bQ dZ gj.length)<|
 lt ((gj.set (Int.toNat dZ) (gj.getD (Int.toNat eJ) default)):List Int) λqn=>
 k34 qn (wr .i64 (dZ+1)) (wr .i64 (eJ+1))) (
 k34 gj dZ (wr .i64 (eJ+1)))) (
 gu (bQ dZ (gj.length+1))<|
 lt (gj.take (Int.toNat dZ)++List.replicate (gj.length-(Int.toNat dZ)) 0:List Int) λgy=>
 gu (bQ dZ (gy.length+1))<|
 lt (gy.take (Int.toNat dZ):List Int) λxN=>
 some xN)) n l (i:Int) (wr .i64 ((i:Int)+1))=some (l.filter λx=> !p x):=by
 rw[aL (by omega) (by omega)];have hf0:(l.take i).filter (λx=> !p x)=l.take i:=List.filter_eq_self.2 λx hx=>by rw[h0 x hx];rfl
 have hf1:(l.take (i+1)).filter (λx=> !p x)=l.take i:=by rw[ao4 hi,List.filter_append,hf0, ← fq hi];generalize l.getD i default=y at hp;simp[hp]
 refine rE (λ(s:List Int) (a b:Int)=>∃u v:Nat,a=u/\b=v/\u<v/\v<=l.length/\s.length=l.length/\s.drop v=l.drop v/\s.take u=(l.take v).filter λx=> !p x) (λ_ _ b=>l.length-b.toNat) (λo=>o=some (l.filter λx=> !p x)) ?_ n l i ((i:Int)+1) ⟨i,i+1,rfl,by omega,by omega,by omega,rfl,rfl,hf1.symm⟩ (by omega);rintro kk s a b ⟨u,v,rfl,rfl,huv,hv,hs,h1,h2⟩ ih;by_cases c:v<l.length
 ·have e1:s.getD v default=l.getD v default:=by
   have:=congrArg (λq:List Int=>q[0]?) h1;simp only[List.getElem?_drop,Nat.add_zero]at this;rw[List.getD,List.getD,this]
  have hm:l.getD v default∈l:=gP c;rw[ak (aoY (by omega)),ax (bK (by omega) (by omega)),aoZ,e1,ah (hd _ hm),aL (x:=(v:Int)+1) (by omega) (by omega)];have hd1:∀q:List Int,q.drop v=l.drop v->q.drop (v+1)=l.drop (v+1):=λq hq=>by rw[← List.drop_drop, ← List.drop_drop,hq]
  have ht:(l.take (v+1)).filter (λx=> !p x)=(l.take v).filter (λx=> !p x)++(if p (l.getD v default)=true then[]else[l.getD v default]):=by rw[ao4 c,List.filter_append, ← fq c];generalize l.getD v default=y;cases hy:p y<;>simp[hy]
  cases hb:p (l.getD v default)with
  |true=>rw[ae (b:= !true) rfl];exact ih _ _ _ ⟨u,v+1,rfl,by omega,by omega,by omega,hs,hd1 _ h1,by rw[ht,hb,h2];simp⟩ (by omega)
  |false=>
   rw[ak (b:= !false) rfl,ax (bK (by omega) (by omega)),aJ,aoZ,aL (x:=(u:Int)+1) (by omega) (by omega)];refine ih _ _ _ ⟨u+1,v+1,by omega,by omega,by omega,by omega,by rw[List.length_set];exact hs,hd1 _ (by rw[List.drop_set_of_lt huv];exact h1),?_⟩ (by omega);rw[ht,hb, ← h2];have hus:u<(s.set u (l.getD v default)).length:=by rw[List.length_set];omega
   rw[ao4 hus,List.getElem_set_self,List.take_set_of_le (Nat.le_refl u)];rfl
 ·obtain rfl:v=l.length:=by omega
  have hul:(s.take u).length=u:=by rw[List.length_take];omega
  rw[ae (ao5 (by omega)),ax (bK (by omega) (by omega)),aJ,aoZ,ax (bK (by omega) (by simp;omega)),aJ];rw[List.take_append_of_le_length (by omega),List.take_of_length_le (by omega),h2,List.take_length]
section
variable {n:Nat} {t:au} {w:ai}
theorem aky(hn:100<=n)(r:gI t w){a:Int}(h0:0<=a)(h1:a<4294967296):yj n t a=some (O0 w a):=by
 unfold yj O0;rw[ah (nZ r.bj h0 h1)];cases hg:aM w.B a with
 |false=>rfl
 |true=>
  have hm:=bY r.bj;have hlen:=gZ w.B 32;rw[ae (b:= !true) rfl,aoU rfl,ah (ais (by omega) r)];have hd:∀x∈Gw w,jS n x t a=some (dM w x !=a):=λx hx=>by have hx:=(hm x).1 hx;unfold jS;rw[ah (z8 r hx.1 (gh hx.2)),aoU hx.2];rfl
  have hk:nK (Gw w) (dM w) a=(Gw w).filter λx=> !(dM w x !=a):=by unfold nK;congr 1;funext x;simp[bne]
  unfold eI gQ;obtain⟨i,i1,i2,i3⟩:=anv (n:=n) (λx=>jS n x t a) (λx=>dM w x !=a) (Gw w) hd (by show(aX w.B 32).length<1000;omega) (some (-1)) (by show(aX w.B 32).length<n;omega);rcases i3 with⟨q1,q2,q3⟩|⟨q1,q3⟩
  ·have:=aoi (n:=n) (λx=>jS n x t a) (λx=>dM w x !=a) (Gw w) hd (by show(aX w.B 32).length<1000;omega) q1 q2 i2 (by show(aX w.B 32).length<n;omega)
   rw[ah q3,ae (by simp)];refine(ah this).trans ?_;rw[hk]
  ·rw[ah q3,ak (by rfl)]
   refine(ah rfl).trans ?_;rw[hk];rw[q1,List.take_length]at i2;exact congrArg some (List.filter_eq_self.2 λx hx=>by have:=i2 x hx;simp only[this];rfl).symm
theorem ana{l:List Int}(hl:l.length<1000)(hn:l.length<n):ja n l=some l.reverse:=by
 unfold ja;rw[aL (by omega) (by omega)];refine rE (λ(s:List Int) (a b:Int)=>∃u:Nat,a=u/\b=(l.length:Int)-1-u/\s.length=l.length/\u<=l.length/\∀k,k<l.length->s.getD k default=if k<u\/l.length<=k+u then l.getD (l.length-1-k) default else l.getD k default) (λ_ _ b=>(b+1).toNat) (λo=>o=some l.reverse) ?_ n l 0 ((l.length:Int)-1) ⟨0,rfl,by omega,rfl,by omega,λk hk=>by rw[aoV (by omega)]⟩ (by omega);rintro kk s a b ⟨u,rfl,rfl,hs,hu,hq⟩ ih;by_cases c:2*u+1<l.length
 ·have e2:((l.length:Int)-1-u).toNat=l.length-1-u:=by omega
  rw[ak (aoY (by omega)),ax (bK (by omega) (by omega)),ax (bK (by omega) (by omega)),ax (bK (by omega) (by omega)),aJ,ax (bK (by omega) (by rw[List.length_set];omega)),aJ,aL (x:=(u:Int)+1) (by omega) (by omega),aL (x:=(l.length:Int)-1-u-1) (by omega) (by omega),aoZ,e2];refine ih _ _ _ ⟨u+1,by omega,by omega,by rw[List.length_set,List.length_set];exact hs,by omega,λk hk=>?_⟩ (by omega);have gs:∀(q:List Int) (i:Nat) (x:Int) (k:Nat),q.length=l.length->k<l.length->(q.set i x).getD k default=if i=k then x else q.getD k default:=λq i x k h1 h2=>by
   rw[List.getD,List.getElem?_set];by_cases e:i=k
   ·subst e;rw[aoU rfl,aoU (by omega),aoU rfl];rfl
   ·rw[aoV e,aoV e,List.getD]
  have a1:=hq u (by omega);have a2:=hq (l.length-1-u) (by omega);rw[aoV (by omega)]at a1 a2;rw[gs _ _ _ _ (by rw[List.length_set];exact hs) hk,gs _ _ _ _ hs hk,a1,a2,hq k hk];by_cases k1:l.length-1-u=k
  ·rw[aoU k1,aoU (by omega)];congr 1;omega
  ·rw[aoV k1]
   by_cases k2:u=k
   ·rw[aoU k2,aoU (by omega)];congr 1;omega
   ·rw[aoV k2]
    by_cases k3:k<u\/l.length<=k+u
    ·rw[aoU k3,aoU (by omega)]
    ·rw[aoV k3,aoV (by omega)]
 ·rw[ae (ao5 (by omega))]
  congr 1;refine List.ext_getElem (by simp[hs]) λk h1 h2=>?_;have hk:k<l.length:=by omega
  rw[List.getElem_reverse, ← fq h1, ← fq (by omega),hq k hk];split
  ·rfl
  ·congr 1;omega
theorem KC(hn:100<=n)(r:gI t w)(tt:jV w){a:Int}(ha:aQ w.B a):nM n a t=some (V6 (Gw w) (dM w) a):=by
 obtain⟨ρ,f⟩:=Lm r tt;have hm:=bY r.bj;unfold nM;have hv:=f.M3 ((hm a).2 ha);refine(CW (λs:List Int=>s.reverse.flatMap (V6 (Gw w) (dM w))) (λs=>(∀x∈s,x∈Gw w)/\(s.reverse.flatMap (V6 (Gw w) (dM w))).length<=32) (λs=>(s.reverse.flatMap (V6 (Gw w) (dM w))).length) (λk s hs ih=>?_) n [a] ⟨by simpa using(hm a).2 ha,by simpa using hv⟩ (by simp;omega)).trans (by simp);obtain⟨hs,hlen⟩:=hs;rcases QI s with rfl|⟨i,x,rfl⟩
 ·rfl
 ·have hx:x∈Gw w:=hs x (by simp)
  have hxs:=(hm x).1 hx;have e1:(i++[x]).reverse.flatMap (V6 (Gw w) (dM w))=V6 (Gw w) (dM w) x++i.reverse.flatMap (V6 (Gw w) (dM w)):=by rw[List.reverse_append,List.reverse_singleton,List.singleton_append,List.flatMap_cons]
  have hge:∀q:List Int,(∀x∈q,x∈Gw w)->q.length<=(q.flatMap (V6 (Gw w) (dM w))).length:=λq=>by
   induction q with
   |nil=>intro _;simp
   |cons b q ih=>intro hq;have h1:=ih λx hx=>hq x (by simp[hx]);have h2:=f.Oe (hq b (by simp));rw[List.flatMap_cons,List.length_append,h2,List.length_cons,List.length_cons];omega
  have hi:=hge i.reverse λy hy=>hs y (by simp at hy;simp[hy]);rw[e1,List.length_append]at hlen;have zZ:i.length<=32:=by rw[List.length_reverse]at hi;omega
  have ex:wr .i64 (((i++[x]).length:Int)-1)=i.length:=by rw[List.length_append,List.length_singleton,aL (by omega) (by omega)];omega
  have eg:(i++[x]).getD (Int.toNat (i.length:Int)) default=x:=by simp[List.getD]
  have hkn:O0 w x=nK (Gw w) (dM w) x:=by unfold O0;rw[aoU hxs.2]
  have hkl:(nK (Gw w) (dM w) x).length<=32:=Nat.le_trans (List.length_filter_le _ _) f.len;have hpos:0<((i++[x]).length:Int):=by rw[List.length_append,List.length_singleton];omega
  rw[ak (aoY hpos),ex,ax (bK (by omega) (by simp;omega)),eg,ah (aky hn r hxs.1 (gh hxs.2)),hkn,ah (ana (by omega) (by omega)),ax (bK (by omega) (by simp;omega)),aJ];have et:(i++[x]).take (Int.toNat (i.length:Int))=i:=by simp
  rw[et,ax (eM (by simp;omega) (by simp;omega)),aJ,e1,f.Oe hx];have e2:(i++(nK (Gw w) (dM w) x).reverse).reverse.flatMap (V6 (Gw w) (dM w))=(nK (Gw w) (dM w) x).flatMap (V6 (Gw w) (dM w))++i.reverse.flatMap (V6 (Gw w) (dM w)):=by rw[List.reverse_append,List.reverse_reverse,List.flatMap_append]
  have e3:=congrArg List.length (f.Oe hx);rw[List.length_cons]at e3;rw[ih _ ⟨λy hy=>?_,by rw[e2,List.length_append];omega⟩ (by rw[e2,e1,List.length_append,List.length_append];omega),e2]
  ·rfl
  ·rcases List.mem_append.1 hy with h|h
   ·exact hs y (by simp[h])
   ·exact(pK.1 (List.mem_reverse.1 h)).1
theorem adW(l x:List Int)(h:x.length+l.length<=1000):sH (λ(e34:Int) k29 (iB:(List Int))=>lt (e34:Int) λs9=>gu (gw iB.length 1 4)<|lt (iB++([s9]):List Int) λnt=>k29 nt) (λ(iB:(List Int))=>some iB) l x=some (x++l):=by
 induction l generalizing x with
 |nil=>simp[sH]
 |cons a l ih=>rw[List.length_cons]at h;have e:gw x.length 1 4=true:=eM (by omega) (by omega);have:=ih (x++[a]) (by simp;omega);refine Eq.trans ?_ (this.trans (by simp));show gu (gw x.length 1 4) _ =_;rw[ax e];rfl
theorem Sr(hn:100<=n)(r:gI t w)(tt:jV w){a:Int}(h0:0<=a)(h1:a<4294967296):qh n t a=some (fY w a):=by
 unfold qh fY;rw[ah (nZ r.bj h0 h1)];cases hg:aM w.B a with
 |false=>rfl
 |true=>obtain⟨ρ,f⟩:=Lm r tt;have hv:=f.M3 ((bY r.bj a).2 ⟨h0,hg⟩);rw[ae (b:= !true) rfl,aoU rfl];unfold oo ic fC;rw[ah rfl,ah (KC hn r tt ⟨h0,hg⟩),ah (adW _ [] (by simp;omega))];rfl
end
end Go.Proofs.Z
namespace Go.Proofs.Z
open Go Go.Bw
section
variable {n:Nat} {t:au} {w:ai}
theorem KL(hn:40<=n)(r:gI t w){x:Int}(hx:aQ w.B x):uK n w x=some (dM w x):=by unfold uK;rw[ah (KQ hn r hx)];rfl
theorem Ze(hn:100<=n)(r:gI t w){a:Int}(h0:0<=a):zL n w a=some (O0 w a):=by
 unfold zL;have hm:=bY r.bj;have hlen:=gZ w.B 32;rw[ah (UJ (by omega) r)];refine dU (λ(s:List Int) (i:Int)=>∃k:Nat,i=k/\k<=(Gw w).length/\s=if aM w.B a=true then((Gw w).take k).filter (λy=>dM w y==a)else[]) (λ_ i=>(Gw w).length-i.toNat) (λo=>o=some (O0 w a)) ?_ n [] 0 ⟨0,rfl,by omega,by simp⟩ (by show(Gw w).length-(0:Int).toNat<n;have:(Gw w).length<=32:=hlen;omega);rintro kk s i ⟨k,rfl,hk,rfl⟩ ih;have hl:(Gw w).length<=32:=hlen;have hl':(aX w.B 32).length=(Gw w).length:=rfl;by_cases c:k<(Gw w).length
 ·have hx:=(hm _).1 (gP (l:=Gw w) (i:=k) c)
  have PZ:∀q:Bool,(if q=true then((Gw w).take k).filter (λy=>dM w y==a)else[]).length<=32:=λq=>by
   split
   ·exact Nat.le_trans (List.length_filter_le _ _) (by rw[List.length_take];omega)
   ·simp
  rw[ak (aoY (by omega)),ah (cj (by omega) r h0),ax (by rw[bK (i:=(k:Int)) (n:=(aX w.B 32).length) (by omega) (by omega)];simp),aoZ,cK (KL (by omega) r hx),aL (x:=(k:Int)+1) (by omega) (by omega)];have ht:((Gw w).take (k+1)).filter (λy=>dM w y==a)=((Gw w).take k).filter (λy=>dM w y==a)++(if dM w ((Gw w).getD k default)=a then[(Gw w).getD k default]else[]):=by rw[ao4 c,List.filter_append, ← fq c];generalize(Gw w).getD k default=y;by_cases hy:dM w y=a<;>simp[hy]
  have hs:=PZ (aM w.B a);cases hg:aM w.B a with
  |false=>rw[ae (by rfl)];exact ih _ _ ⟨k+1,by omega,by omega,by rw[hg,aoV (by decide),aoV (by decide)]⟩ (by omega)
  |true=>
   rw[hg]at hs;by_cases hu:dM w ((Gw w).getD k default)=a
   ·rw[ak (show(true&&((bif true==true then dM w ((Gw w).getD k default)else default)==a))=true by rw[hu];simp),ax (bK (by omega) (by omega)),ax (eM (by omega) (by omega)),aJ]
    exact ih _ _ ⟨k+1,by omega,by omega,by rw[hg,aoU rfl,aoU rfl,ht,aoU hu]⟩ (by omega)
   ·rw[ae (show(true&&((bif true==true then dM w ((Gw w).getD k default)else default)==a))=false by simpa using hu)]
    exact ih _ _ ⟨k+1,by omega,by omega,by rw[hg,aoU rfl,aoU rfl,ht,aoV hu,List.append_nil]⟩ (by omega)
 ·rw[ae (ao5 (by omega))]
  unfold O0 nK;rw[List.take_of_length_le (by omega)]
theorem Wy(r:gI t w)(tt:jV w):∀(m:Nat) {ρ:Int->Nat},Fo (Gw w) (dM w) ρ->∀a,a∈Gw w->132-ρ a<m->gX m w a=some (V6 (Gw w) (dM w) a):=by
 have hm:=bY r.bj;intro m
 induction m with
 |zero=>intro ρ f a ha h;omega
 |succ m ih=>
  intro ρ f a ha Nv;have hr:=f.rk a ha;have hg:=(hm a).1 ha;unfold gX;have hkn:O0 w a=nK (Gw w) (dM w) a:=by unfold O0;rw[aoU hg.2]
  rw[ah (cj (by omega) r hg.1),hg.2,ae (b:= !true) rfl,ah (Ze (by omega) r hg.1),hkn];have hv:=f.Oe ha;have hvl:=f.M3 ha;have hkl:(nK (Gw w) (dM w) a).length<=32:=Nat.le_trans (List.length_filter_le _ _) f.len;refine dU (λ(s:List Int) (i:Int)=>∃k:Nat,i=k/\k<=(nK (Gw w) (dM w) a).length/\s=a::((nK (Gw w) (dM w) a).take k).flatMap (V6 (Gw w) (dM w))) (λ_ i=>(nK (Gw w) (dM w) a).length-i.toNat) (λo=>o=some (V6 (Gw w) (dM w) a)) ?_ m [a] 0 ⟨0,rfl,by omega,rfl⟩ (by omega);rintro kk s i ⟨k,rfl,hk,rfl⟩ Ve;by_cases c:k<(nK (Gw w) (dM w) a).length
  ·have hx:=pK.1 (gP (l:=nK (Gw w) (dM w) a) (i:=k) c)
   have hrk:=f.kup ha hx.1 hx.2;have:=f.rk _ hx.1;have ht:((nK (Gw w) (dM w) a).take (k+1)).flatMap (V6 (Gw w) (dM w))=((nK (Gw w) (dM w) a).take k).flatMap (V6 (Gw w) (dM w))++V6 (Gw w) (dM w) ((nK (Gw w) (dM w) a).getD k default):=by rw[ao4 c,List.flatMap_append, ← fq c];simp
   have hle:(((nK (Gw w) (dM w) a).take (k+1)).flatMap (V6 (Gw w) (dM w))).length+1<=32:=by have e:=congrArg List.length hv;rw[List.length_cons, ← List.take_append_drop (k+1) (nK (Gw w) (dM w) a),List.flatMap_append,List.length_append]at e;omega
   rw[ht,List.length_append]at hle;rw[ak (aoY (by omega)),ax (bK (by omega) (by omega)),aoZ,ah (ih f _ hx.1 (by omega)),ax (eM (by rw[List.length_cons];omega) (by rw[List.length_cons];omega)),aJ,aL (by omega) (by omega)];exact Ve _ _ ⟨k+1,by omega,by omega,by rw[ht];rfl⟩ (by omega)
  ·rw[ae (ao5 (by omega)),List.take_of_length_le (by omega),hv]
theorem FH(hn:200<=n)(r:gI t w)(tt:jV w){a:Int}(h0:0<=a):gX n w a=some (fY w a):=by
 unfold fY;cases hg:aM w.B a with
 |false=>obtain⟨m,rfl⟩:∃m,n=m+1:=⟨n-1,by omega⟩;unfold gX;rw[ah (cj (by omega) r h0),hg];rfl
 |true=>obtain⟨ρ,f⟩:=Lm r tt;have ha:=(bY r.bj a).2 ⟨h0,hg⟩;rw[aoU rfl];exact Wy r tt n f a ha (by omega)
theorem adb(r:gI t w)(tt:jV w):∀(m:Nat) {ρ:Int->Nat},Fo (Gw w) (dM w) ρ->∀a,a∈Gw w->ρ a+100<m->gY m w a=some (1+((U6 (dM w) a).length:Int)):=by
 have hm:=bY r.bj;intro m
 induction m with
 |zero=>intro ρ f a ha h;omega
 |succ m ih=>
  intro ρ f a ha Nv;have hg:=(hm a).1 ha;have hl:=f.YB ha;unfold gY;rw[ah (cj (by omega) r hg.1),hg.2,ae (b:= !true) rfl,ah (KL (by omega) r hg)];by_cases hu:dM w a=0
  ·have h0:gY m w 0=some 0:=by
    obtain⟨m,rfl⟩:∃k,m=k+1:=⟨m-1,by omega⟩;unfold gY;rw[ah (cj (by omega) r (by omega)),Nx];rfl
   rw[hu,ah h0,f.u0 ha hu];rfl
  ·rw[ah (ih f _ (f.Yw ha hu) (by have:=f.dn a ha hu;omega))]
   rw[f.u1 ha hu,List.length_cons]at hl ⊢;rw[aL (by omega) (by omega)];congr 1;omega
theorem Ng(hn:200<=n)(r:gI t w)(tt:jV w){a:Int}(h0:0<=a):gY n w a=some (nO w a):=by
 unfold nO;cases hg:aM w.B a with
 |false=>obtain⟨m,rfl⟩:∃m,n=m+1:=⟨n-1,by omega⟩;unfold gY;rw[ah (cj (by omega) r h0),hg];rfl
 |true=>obtain⟨ρ,f⟩:=Lm r tt;have ha:=(bY r.bj a).2 ⟨h0,hg⟩;rw[aoU rfl];exact adb r tt n f a ha (by have:=f.rk a ha;omega)
theorem agx(r:gI t w)(tt:jV w):∀(m:Nat) {ρ:Int->Nat},Fo (Gw w) (dM w) ρ->∀a,a∈Gw w->ρ a+100<m->iQ m w a=some (Na (dM w) a):=by
 have hm:=bY r.bj;intro m
 induction m with
 |zero=>intro ρ f a ha h;omega
 |succ m ih=>
  intro ρ f a ha Nv;have hg:=(hm a).1 ha;have gg:=cj (n:=m) (by omega) r hg.1;unfold iQ;rw[ah gg,hg.2,cK (KL (by omega) r hg),f.UA ha];by_cases hu:dM w a=0
  ·rw[ae (by rw[show(true==true)=true from rfl,cond_true,hu];rfl),ah gg,hg.2,ak rfl,aoU hu]
  ·rw[ak (by rw[show(true==true)=true from rfl,cond_true];simpa using hu),ah (KL (by omega) r hg),ah (ih f _ (f.Yw ha hu) (by have:=f.dn a ha hu;omega)),aoV hu]
theorem BT(hn:200<=n)(r:gI t w)(tt:jV w){a:Int}(h0:0<=a):iQ n w a=some (dc w a):=by
 unfold dc;cases hg:aM w.B a with
 |false=>obtain⟨m,rfl⟩:∃m,n=m+1:=⟨n-1,by omega⟩;have gg:=cj (n:=m) (by omega) r h0;rw[hg]at gg;unfold iQ;rw[ah gg,F9 (by rfl),ae (by rfl),ah gg];rfl
 |true=>obtain⟨ρ,f⟩:=Lm r tt;have ha:=(bY r.bj a).2 ⟨h0,hg⟩;rw[aoU rfl];exact agx r tt n f a ha (by have:=f.rk a ha;omega)
theorem OA(hn:40<=n)(r:gI t w)(tt:jV w)(a:Int){b:Int}(hb:aQ w.B b):dO n w a b=some ((U6 (dM w) b).contains a):=by
 obtain⟨ρ,f⟩:=Lm r tt;have hm:=bY r.bj;unfold dO;refine(CW (λx=>if x=0 then false else(U6 (dM w) x).contains a) (λx=>x=0\/aQ w.B x) (λx=>if x=0 then 0 else ρ x+1) (λk x hx ih=>?_) n b (.inr hb) ?_).trans (by rw[aoV (f.pos b ((hm b).2 hb))])
 ·by_cases h0:x=0
  ·subst h0;rw[ae (by rfl)];rfl
  ·have hg:=hx.resolve_left h0
   have hG:=(hm x).2 hg;have hsr:=fG x;rw[ak (by simpa using h0),ah (cW hn r.bj hg.1),hg.2,aoU rfl,ax (gR x),aoV h0];show cn (dM w x==a) (some (a !=0)) (k (dM w x))=_;by_cases hu:dM w x=0
   ·rw[hu,f.u0 hG hu]
    by_cases ha:a=0
    ·subst ha;rw[ak (by rfl)];rfl
    ·rw[ae (by simpa using Ne.symm ha),ih 0 (.inl rfl) (by rw[aoU rfl,aoV h0];omega)];rfl
   ·rw[f.u1 hG hu]
    by_cases ha:dM w x=a
    ·rw[ak (by simpa using ha)]
     have:a≠0:=ha▸hu;rw[List.contains_cons,ha];simp[this]
    ·rw[ae (by simpa using ha),ih _ (.inr ((hm _).1 (f.Yw hG hu))) (by rw[aoV hu,aoV h0];have:=f.dn x hG hu;omega),aoV hu,List.contains_cons]
     congr 1;have:(a==dM w x)=false:=by simpa using Ne.symm ha
     rw[this,Bool.false_or]
 ·have hp:=f.pos b ((hm b).2 hb)
  rw[aoV hp];have:=f.rk b ((hm b).2 hb);omega
theorem UH(hn:200<=n)(r:gI t w)(tt:jV w){a b:Int}(h0:0<=a)(k0:0<=b):pE n w a b=some (yD w a b):=by
 unfold pE yD;rw[ah (cj (by omega) r h0),cK (cj (by omega) r k0)];cases hg:aM w.B a with
 |false=>rfl
 |true=>
  cases hk:aM w.B b with
  |false=>rfl
  |true=>
   by_cases e:a=b
   ·subst e;rw[F9 (by simp)];simp
   ·refine(uj (by simpa using e) (OA (by omega) r tt a ⟨k0,hk⟩)).trans ?_
    rfl
theorem adU(d:Int->Option Int)(e:Option Int)(v:Int->Int)(c:Int)(hc:0<=c/\c<=1000)(he:e=some c)(l:List Int)(hd:∀x∈l,d x=some (v x)/\0<=v x/\v x<=1000)(x:Int)(h0:0<=x/\x<=5000):
  sH (λ(e35:Int) k30 (jl:Int)=>
 lt (e35:Int) λew=>
 bd (d ew) λnt=>
 bd e λkX=>
 lt ((if jl<wr .i64 ((wr .i64 (nt-kX))+1)then wr .i64 ((wr .i64 (nt-kX))+1)else jl):Int) λqn=>
 k30 qn) (λ(jl:Int)=>
 some jl) l x=some (l.foldl (λm y=>max m (v y-c+1)) x):=by
 subst he
 induction l generalizing x with
 |nil=>rfl
 |cons a l ih=>obtain⟨a1,a2,a3⟩:=hd a (by simp);have e1:wr .i64 (v a-c)=v a-c:=aL (by omega) (by omega);have e2:wr .i64 (v a-c+1)=v a-c+1:=aL (by omega) (by omega);have key:=ih (λy hy=>hd y (by simp[hy])) (max x (v a-c+1)) (by omega);rw[List.foldl_cons, ← key];show bd (d a) _ =_;rw[ah a1,ah rfl,e1,e2];show sH _ _ l _ =_;congr 1;simp only[Int.max_def];split<;>split<;>omega
theorem aaW(v:Int->Int)(c:Int)(l:List Int)(x k:Int):k<l.foldl (λm y=>max m (v y-c+1)) x↔k<x\/∃y∈l,k<v y-c+1:=by
 induction l generalizing x with
 |nil=>simp
 |cons a l ih=>
  rw[List.foldl_cons,ih];constructor
  ·rintro(h|⟨y,hy,h⟩)
   ·rcases Int.lt_or_le k x with h1|h1
    ·exact .inl h1
    ·exact .inr ⟨a,by simp,by omega⟩
   ·exact .inr ⟨y,by simp[hy],h⟩
  ·rintro(h|⟨y,hy,h⟩)
   ·exact .inl (by omega)
   ·rcases List.mem_cons.1 hy with e|hy
    ·subst e;exact .inl (by omega)
    ·exact .inr ⟨y,hy,h⟩
end
end Go.Proofs.Z
namespace Go.Proofs.Z
open Go Go.Bw
def zn(w:ai):Prop:=∀g,aQ w.B g->(0<=(w.R (aY g)).cE/\(w.R (aY g)).cE<=64)/\∀n,110<=n->dP n (w.R (aY g)).E=some true
def adz:bL:={Up:=0,cE:=0,E:=bA,bC:=(λ_ =>0)}
def Lx(w:ai)(h:Int):ai:=if aM w.B h=true then⟨Bi w.B h,λj=>if j<32/\(dm w.R (aY h) adz j).Up=h then{dm w.R (aY h) adz j with Up:=0}else dm w.R (aY h) adz j⟩else w
theorem WE{n:Nat}(hn:40<=n)(h:Int)(w:ai):cH (λk51 (my:Int) (vB:ai)=>cn (decide (my<32)) (gu (bQ my 32)<|cn ((((vB.R (Int.toNat my)).Up)==h)) (gu (bQ my 32)<|lt ({vB with R:=(dm vB.R (Int.toNat my) ({(vB.R (Int.toNat my))with Up:=0}))}:ai) λDT=>k51 (wr .i64 (my+1)) DT) (k51 (wr .i64 (my+1)) vB)) (some (vB,(0:Int)))) n 0 w=some (({B:=w.B,R:=λj=>if j<32/\(w.R j).Up=h then{w.R j with Up:=0}else w.R j}:ai),0):=by
 refine dU (λ(i:Int) (v:ai)=>0<=i/\i<=32/\v.B=w.B/\∀j,v.R j=if j<i.toNat/\(w.R j).Up=h then{w.R j with Up:=0}else w.R j) (λi _ =>(32-i).toNat)
  (λo=>o=some (({B:=w.B,R:=λj=>if j<32/\(w.R j).Up=h then{w.R j with Up:=0}else w.R j}:ai),0)) ?_ n 0 w ⟨by omega,by omega,rfl,λj=>by simp⟩ (by omega)
 rintro kk i v ⟨i0,i1,hb,hv⟩ ih;by_cases c:i<32
 ·have hi:=hv i.toNat
  rw[aoV (λhh=>absurd hh.1 (Nat.lt_irrefl _))]at hi;rw[ak (by simpa using c),ax (bK i0 (by omega)),hi,aL (x:=i+1) (by omega) (by omega)];have e1:(i+1).toNat=i.toNat+1:=by omega
  have step:∀j,j≠i.toNat->(if j<i.toNat/\(w.R j).Up=h then{w.R j with Up:=0}else w.R j)=(if j<(i+1).toNat/\(w.R j).Up=h then{w.R j with Up:=0}else w.R j):=λj hj=>by
   by_cases hu:(w.R j).Up=h
   ·by_cases hl:j<i.toNat
    ·rw[aoU ⟨hl,hu⟩,aoU ⟨by omega,hu⟩]
    ·rw[aoV (λhh=>hl hh.1),aoV (λhh=>by omega)]
   ·rw[aoV (λhh=>hu hh.2),aoV (λhh=>hu hh.2)]
  by_cases hu:(w.R i.toNat).Up=h
  ·rw[ak (by simpa using hu),ax (bK i0 (by omega)),aJ]
   refine ih _ _ ⟨by omega,by omega,hb,λj=>?_⟩ (by omega);show dm v.R i.toNat _ j=_;rw[bI];by_cases ej:j=i.toNat
   ·subst ej;rw[aoU rfl,aoU ⟨by omega,hu⟩]
   ·rw[aoV ej,hv j,step j ej]
  ·rw[ae (by simpa using hu)]
   refine ih _ _ ⟨by omega,by omega,hb,λj=>?_⟩ (by omega);rw[hv j];by_cases ej:j=i.toNat
   ·subst ej;rw[aoV (λhh=>hu hh.2),aoV (λhh=>hu hh.2)]
   ·exact step j ej
 ·rw[ae (by simpa using c)]
  have e:v=({B:=w.B,R:=λj=>if j<32/\(w.R j).Up=h then{w.R j with Up:=0}else w.R j}:ai):=by obtain⟨vb,vr⟩:=v;congr 1;funext j;rw[show vr j=_ from hv j,show i.toNat=32 by omega]
  rw[e]
section
variable {n:Nat} {t:au} {w:ai}
theorem Qt(hn:40<=n)(r:gI t w){h:Int}(h0:0<=h):iD n w h=some (Lx w h,if aM w.B h=true then 0 else 4):=by
 unfold iD Lx;have hr:=fG h;rw[ah (cW hn r.bj h0)];cases hg:aM w.B h with
 |false=>rfl
 |true=>rw[aoU rfl,ae (by simp;omega),ah (FG hn r.bj h0),aJ,aJ,ax (gR h),aJ,aoU rfl,aoU rfl];exact WE (n:=n) hn h ⟨Bi w.B h,dm w.R (aY h) adz⟩
theorem abf(hn:40<=n)(r:gI t w)(tt:jV w){h:Int}(h0:0<=h)(h1:h<4294967296):
  ∃t',jx n t h=some (t',if aM w.B h=true then 0 else 4)/\gI t' (Lx w h)/\jV (Lx w h):=by
 obtain⟨t',w',e,e1,e2,k⟩:=alB hn r tt h0 h1;obtain⟨rfl,rfl⟩:=Prod.mk.inj (Option.some.inj (e2.symm.trans (Qt hn r h0)));exact⟨t',e1,k.rt,k.tt⟩
theorem Lw(r:gI t w){h:Int}(h0:0<=h)(x:Int):aQ (Lx w h).B x↔aQ w.B x/\x≠h:=by
 unfold Lx;cases hg:aM w.B h with
 |false=>rw[aoV (by decide)];exact⟨λhx=>⟨hx,λe=>by subst e;have:=hx.2;rw[hg]at this;cases this⟩,λhx=>hx.1⟩
 |true=>rw[aoU rfl];exact Od r.bj h0 x
theorem Pp(r:gI t w){h:Int}(h0:0<=h){x:Int}(hx:aQ (Lx w h).B x):(Lx w h).R (aY x)=if dM w x=h then{w.R (aY x)with Up:=0}else w.R (aY x):=by
 obtain⟨x1,x2⟩:=(Lw r h0 x).1 hx;unfold Lx;cases hg:aM w.B h with
 |false=>
  rw[aoV (by decide)];split
  ·rename_i hu
   have:h=0\/aQ w.B h:=by rw[← hu];exact r.ups x1
   rcases this with e|e
   ·have:(w.R (aY x)).Up=0:=hu.trans e
    rw[← this]
   ·have:=e.2;rw[hg]at this;cases this
  ·rfl
 |true=>
  rw[aoU rfl];have hne:aY x≠aY h:=λe=>x2 (by rw[← iG x1, ← iG ⟨h0,hg⟩,e]);dsimp only;rw[jo _ _ hne];by_cases hu:dM w x=h
  ·rw[aoU hu,aoU ⟨iO x,hu⟩]
  ·rw[aoV hu,aoV (λhh=>hu hh.2)]
theorem ah9(r:gI t w){h:Int}(h0:0<=h){x:Int}(hx:aQ (Lx w h).B x):dM (Lx w h) x=if dM w x=h then 0 else dM w x:=by unfold dM;rw[Pp r h0 hx];show(if(w.R (aY x)).Up=h then _ else _ :bL).Up=_;split<;>rfl
theorem zn.drop(i:zn w)(r:gI t w){h:Int}(h0:0<=h):zn (Lx w h):=λg hg=>by
 have:=i g ((Lw r h0 g).1 hg).1;rw[Pp r h0 hg];split
 ·exact this
 ·exact this
def Jp(w:ai)(h a:Int):ai:={w with R:=dm w.R (aY h) {w.R (aY h)with Up:=a}}
theorem Nf(hn:40<=n)(r:gI t w)(tt:jV w){h a:Int}(hh:aQ w.B h)(ha:a=0\/aQ w.B a)(hno:¬(a≠0/\(a=h\/h∈U6 (dM w) a))):kF n w h a=some (Jp w h a,0):=by
 unfold kF Jp;have a0:0<=a:=by rcases ha with e|e;omega;exact e.1
 have ok:ZN w.B a=true:=by
  unfold ZN;rcases ha with e|e
  ·rw[e];rfl
  ·rw[e.2,Bool.or_true]
 have e0:∀v:Bool,(((!true)==false)&&v)=v:=λv=>by cases v<;>rfl
 rw[ah (cj hn r hh.1),cK (cj hn r a0),hh.2,e0,ug,ok,ae (by rfl)];have key:∀F:Bool->Option (ai×Int),(cl (((a !=0)==true)&&((a==h)==false)) (dO n w h a) default λiB=>F ((a !=0)&&((a==h)||iB)))=F false:=λF=>by
  by_cases e:a=0
  ·subst e;rfl
  ·have hg:=ha.resolve_left e
   have h1:a≠h:=λq=>hno ⟨e, .inl q⟩;have h2:(U6 (dM w) a).contains h=false:=by rw[← Bool.not_eq_true,List.contains_iff_mem];exactλq=>hno ⟨e, .inr q⟩
   have e1:(a==h)=false:=by simpa using h1
   rw[uj (by simp[e,h1]) (OA hn r tt h hg),h2,e1];simp
 rw[key (λv=>cn v (some (w,12)) (bd (bq n w.B h) λdZ=>
 gu (bQ dZ 32)<|
 lt ({w with R:=(dm w.R (Int.toNat dZ) ({(w.R (Int.toNat dZ))with Up:=a}))}:ai) λg8=>
 some (g8,0))),ae rfl,ah (cW hn r.bj hh.1),hh.2,aoU rfl,ax (gR h)]
 rfl
theorem Zk(hn:40<=n)(r:gI t w)(tt:jV w){h a:Int}(hh:aQ w.B h)(ha:a=0\/aQ w.B a)(hno:¬(a≠0/\(a=h\/h∈U6 (dM w) a))):
  ∃t',iN n t h a=some (t',0)/\gI t' (Jp w h a)/\jV (Jp w h a):=by
 have a0:0<=a/\a<4294967296:=by rcases ha with e|e;omega;exact⟨e.1,gh e.2⟩
 obtain⟨t',w',e,e1,e2,k⟩:=agz hn r tt hh.1 (gh hh.2) a0.1 a0.2;obtain⟨rfl,rfl⟩:=Prod.mk.inj (Option.some.inj (e2.symm.trans (Nf hn r tt hh ha hno)));exact⟨t',e1,k.rt,k.tt⟩
theorem Sq{h a x:Int}(hh:aQ w.B h)(hx:aQ w.B x):dM (Jp w h a) x=if x=h then a else dM w x:=by
 unfold dM Jp;dsimp only;rw[bI];by_cases e:x=h
 ·rw[aoU e,aoU (by rw[e])]
 ·rw[aoV e,aoV (λq=>e (by rw[← iG hx, ← iG hh,q]))]
theorem zn.up(i:zn w)(h a:Int):zn (Jp w h a):=λg hg=>by
 have:=i g hg;unfold Jp;dsimp only;rw[bI];split
 ·rename_i e;rw[e]at this;exact this
 ·exact this
def AU(w:ai)(h:Int)(x:bL):ai:={w with R:=dm w.R (aY h) {x with Up:=(w.R (aY h)).Up}}
theorem Ox(hn:40<=n)(r:gI t w){h:Int}(hh:aQ w.B h){x:bL}(hq:0<=x.cE/\x.cE<=64)(hm:dP n x.E=some true):jg n w h x=some (AU w h x,0):=by
 unfold jg AU;have hsr:=fG h;rw[ah (cW (by omega) r.bj hh.1),hh.2,aoU rfl,ae (by simp;omega),cK hm];have e2:(decide (x.cE<0)||decide (64<x.cE))=false:=by rw[Bool.or_eq_false_iff,decide_eq_false_iff_not,decide_eq_false_iff_not];omega
 rw[e2,ae (by rfl),ax (gR h),aJ,ax (gR h),aJ];rfl
theorem acV(hn:110<=n)(r:gI t w)(tt:jV w){h:Int}(hh:aQ w.B h){p:aR}{x:bL}(hx:JG p x)(hq:0<=x.cE/\x.cE<=64)(hm:dP n x.E=some true):
  ∃t',gF n t h p=some (t',0)/\gI t' (AU w h x)/\jV (AU w h x):=by
 obtain⟨t',w',e,e1,e2,k⟩:=am5 hn r tt hh.1 (gh hh.2) hx;obtain⟨rfl,rfl⟩:=Prod.mk.inj (Option.some.inj (e2.symm.trans (Ox (by omega) r hh hq hm)));exact⟨t',e1,k.rt,k.tt⟩
theorem Sw(h:Int)(x:bL)(y:Int):dM (AU w h x) y=dM w y:=by
 unfold dM AU;dsimp only;rw[bI];split
 ·rename_i e;rw[e]
 ·rfl
theorem zn.set(i:zn w){h:Int}(hh:aQ w.B h){x:bL}(hq:x.cE=(w.R (aY h)).cE)(he:x.E=(w.R (aY h)).E):zn (AU w h x):=λg hg=>by
 have h1:=i g hg;have h2:=i h hh;unfold AU;dsimp only;rw[bI];split
 ·dsimp only;rw[hq,he];exact h2
 ·exact h1
theorem ada(hn:40<=n)(r:gI t w){a q:Int}(ha:a=0\/aQ w.B a)(hq:0<=q/\q<=64){f:Nat}(hf:CM w.B f):
  fM n w a q=some (if f<32 then(⟨mg w.B f,dm w.R f ⟨a,q,bA,λ_ =>0⟩⟩,fL f (w.B.gA f),0)else(w,0,7)):=by
 have a0:0<=a:=by rcases ha with e|e;omega;exact e.1
 have ok:ZN w.B a=true:=by
  unfold ZN;rcases ha with e|e
  ·rw[e];rfl
  ·rw[e.2,Bool.or_true]
 unfold fM;rw[cK (cj hn r a0),ug,ok,ae (b:= !true) rfl,ae (by simp;omega),ah (BV hn r.bj hf)];by_cases hl:f<32
 ·rw[aoU hl,aoU hl]
  have hr:=r.bj.nW f hl;obtain⟨q1,q2,q3,q4,q5⟩:=pB (i:=f) (g:=w.B.gA f) (by omega) (by omega) hr.1 hr.2;obtain⟨b',i1,i2⟩:=K8 (n:=n) hn r.bj hf;rw[aoU hl]at i2;have hnew:aQ (mg w.B f) (fL f (w.B.gA f)):=(mh r.bj hf hl _).2 (.inr rfl);have hfn:(mz (fL f (w.B.gA f))).toNat=f:=by rw[q2];omega
  rw[ae (by simp;omega),aJ];dsimp only;rw[ah (cW hn i2 (by omega)),hnew.2,aoU rfl];show gu (bQ (mz (fL f (w.B.gA f))) 32) _ =_;rw[ax (gR _),hfn];rfl
 ·rw[aoV hl,aoV hl];rfl
end
end Go.Proofs.Z
namespace Go.Proofs.Z
open Go Go.Bw
abbrev eo(w:ai)(l:List Int):ai:=l.foldl Lx w
section
variable {n:Nat} {t:au} {w:ai}
theorem Po(l:List Int):∀{t:au} {w:ai},gI t w->jV w->zn w->(∀x∈l,0<=x/\x<4294967296)->(∃t',gI t' (eo w l))/\jV (eo w l)/\zn (eo w l)/\(∀y,aQ (eo w l).B y↔aQ w.B y/\y∉l)/\(∀y,aQ (eo w l).B y->dM (eo w l) y=if dM w y∈l then 0 else dM w y):=by
 induction l with
 |nil=>intro t w r tt i _;exact⟨⟨t,r⟩,tt,i,λy=>by simp,λy _ =>by simp⟩
 |cons x l ih=>
  intro t w r tt i hl;have hx:=hl x (by simp);obtain⟨t1,_,r1,tt1⟩:=abf (n:=40) (by omega) r tt hx.1 hx.2;obtain⟨a1,a2,a3,a4,a5⟩:=ih r1 tt1 (i.drop r hx.1) λy hy=>hl y (by simp[hy]);refine⟨a1,a2,a3,λy=>?_,λy hy=>?_⟩
  ·refine(a4 y).trans ?_
   rw[Lw r hx.1,List.mem_cons,not_or,and_assoc]
  ·refine(a5 y hy).trans ?_
   rw[ah9 r hx.1 ((a4 y).1 hy).1];by_cases e:dM w y=x
   ·rw[aoU e,aoU (List.mem_cons.2 (.inl e))];split<;>rfl
   ·rw[aoV e]
    by_cases e2:dM w y∈l
    ·rw[aoU e2,aoU (ao6 _ e2)]
    ·rw[aoV e2,aoV (λh=>(List.mem_cons.1 h).elim e e2)]
theorem ah7(hn:100<=n)(r:gI t w)(tt:jV w){l:List Int}(hl:∀x∈l,0<=x/\x<4294967296)(hlen:l.length<=40):∃t',cH (λk47 (gy:Int) (vC:au)=>cn (decide (gy<(l.length:Int))) (gu (bQ gy l.length)<|bd (jx n vC (l.getD (Int.toNat gy) default)) λBh=>k47 (wr .i64 (gy+1)) Bh.1) (some (vC,l,(0:Int)))) n 0 t=some (t',l,0)/\gI t' (eo w l)/\jV (eo w l):=by
 refine dU (λ(i:Int) (t:au)=>∃k:Nat,i=k/\k<=l.length/\gI t (eo w (l.take k))/\jV (eo w (l.take k))) (λi _ =>l.length-i.toNat) (λo=>∃t',o=some (t',l,0)/\gI t' (eo w l)/\jV (eo w l)) ?_ n 0 t ⟨0,rfl,by omega,r,tt⟩ (by omega);rintro kk i t ⟨k,rfl,hk,r,tt⟩ ih;by_cases c:k<l.length
 ·have hx:=hl _ (gP (l:=l) (i:=k) c)
  obtain⟨t1,e1,r1,tt1⟩:=abf (n:=n) (by omega) r tt hx.1 hx.2;have et:Lx (eo w (l.take k)) (l.getD k default)=eo w (l.take (k+1)):=by rw[ao4 c, ← fq c,eo,eo,List.foldl_append];rfl
  rw[et]at r1 tt1;rw[ak (aoY (by omega)),ax (bK (by omega) (by omega)),aoZ,ah e1,aL (by omega) (by omega)];exact ih _ _ ⟨k+1,by omega,by omega,r1,tt1⟩ (by omega)
 ·rw[ae (ao5 (by omega))]
  rw[List.take_of_length_le (by omega)]at r tt;exact⟨t,rfl,r,tt⟩
theorem ah6(hn:100<=n)(r:gI t w)(tt:jV w)(i:zn w){l:List Int}(hl:∀x∈l,0<=x/\x<4294967296)(hlen:l.length<=40){ρ:Type}(F:ai->Option ρ):cH (λk40 (ew:Int) (jN:ai)=>cn (decide (ew<(l.length:Int))) (gu (bQ ew l.length)<|bd (iD n jN (l.getD (Int.toNat ew) default)) λvC=>k40 (wr .i64 (ew+1)) vC.1) (F jN)) n 0 w=F (eo w l):=by
 refine dU (λ(i:Int) (v:ai)=>∃k:Nat,i=k/\k<=l.length/\v=eo w (l.take k)) (λi _ =>l.length-i.toNat) (λo=>o=F (eo w l)) ?_ n 0 w ⟨0,rfl,by omega,rfl⟩ (by omega);rintro kk x v ⟨k,rfl,hk,rfl⟩ ih;by_cases c:k<l.length
 ·have hx:=hl _ (gP (l:=l) (i:=k) c)
  obtain⟨⟨t1,r1⟩,_⟩:=Po (l.take k) r tt i λy hy=>hl y (List.mem_of_mem_take hy);rw[ak (aoY (by omega)),ax (bK (by omega) (by omega)),aoZ,ah (Qt (by omega) r1 hx.1),aL (by omega) (by omega)];exact ih _ _ ⟨k+1,by omega,by omega,by rw[ao4 c, ← fq c,eo,eo,List.foldl_append];rfl⟩ (by omega)
 ·rw[ae (ao5 (by omega)),List.take_of_length_le (by omega)]
theorem xW(r:gI t w)(tt:jV w)(a:Int):(∀x∈fY w a,aQ w.B x)/\(fY w a).length<=32:=by
 unfold fY;cases hg:aM w.B a with
 |false=>exact⟨λx hx=>(by rw[aoV (by decide)]at hx;cases hx),by simp⟩
 |true=>
  rw[aoU rfl];by_cases h0:0<=a
  ·obtain⟨ρ,f⟩:=Lm r tt
   have ha:=(bY r.bj a).2 ⟨h0,hg⟩;exact⟨λx hx=>(bY r.bj x).1 ((f.yU ha x).1 hx).1,f.M3 ha⟩
  ·exact absurd hg (by
    intro h;have h3:=(lU.1 h).2.2;have h4:=r.bj.nW (aY a) (iO a);unfold aY at h4;omega)
theorem Ft(r:gI t w)(tt:jV w)(a:Int):∀x∈fY w a,0<=x/\x<4294967296:=λx hx=>by have:=(xW r tt a).1 x hx;exact⟨this.1,gh this.2⟩
theorem acI(r:gI t w)(tt:jV w){a:Int}(h0:0<=a):(fY w a).length=0↔aM w.B a=false:=by
 unfold fY;cases hg:aM w.B a with
 |false=>simp
 |true=>obtain⟨ρ,f⟩:=Lm r tt;rw[aoU rfl,f.Oe ((bY r.bj a).2 ⟨h0,hg⟩)];simp
theorem afB(hn:200<=n)(r:gI t w)(tt:jV w)(i:zn w){a:Int}(h0:0<=a)(h1:a<4294967296):
  ∃t',ym n t a=some (t',fY w a,if aM w.B a=true then 0 else 4)/\zM n w a=some (eo w (fY w a),fY w a,if aM w.B a=true then 0 else 4)/\gI t' (eo w (fY w a))/\jV (eo w (fY w a)):=by
 have hr:=Ft r tt a;have hl:=(xW r tt a).2;have hz:=acI r tt h0;unfold ym zM;rw[ah (Sr (by omega) r tt h0 h1),ah (FH (by omega) r tt h0)];have hR:=ah6 (n:=n) (by omega) r tt i hr (by omega) λv=>cn (((fY w a).length:Int)==0) (some (v,([]:List Int),(4:Int))) (some (v,fY w a,0));cases hg:aM w.B a with
 |false=>have e:=List.length_eq_zero_iff.1 (hz.2 hg);rw[e]at hR ⊢;exact⟨t,by rw[ak (by rfl)];rfl,hR,r,tt⟩
 |true=>
  have e:(((fY w a).length:Int)==0)=false:=by
   have:(fY w a).length≠0:=λq=>by have:=hz.1 q;rw[hg]at this;cases this
   simpa using this
  obtain⟨t',e1,e2,e3⟩:=ah7 (n:=n) (by omega) r tt hr (by omega);rw[ae e];refine⟨t',e1,?_,e2,e3⟩;rw[hR,ae e];rfl
def clr(L:List Int)(c0 c:Nat->Int):Nat->Int:=λi=>if i<8/\L.contains (c0 i)=true then 0 else c i
theorem alL{α ρ:Type}(get:α->Nat->Int)(put:α->Nat->α)(p:α)(c:Nat->Int)(d:Int->Option Bool)(L:List Int)(hd:∀i,i<8->d (c i)=some (L.contains (c i)))(fin:(Nat->Int)->α)(h0:fin (get p)=p)
  (hput:∀g i,put (fin g) i=fin (dm g i 0))(F:α->Option ρ){m:Nat}(hm:10<=m):cH (λk74 (xS:Int) (AH:α)=>
 cn (decide (xS<8)) (
 gu (bQ xS 8)<|
 bd (d (c (Int.toNat xS))) λMs=>
 cn (Ms) (
 gu (bQ xS 8)<|
 lt (put AH (Int.toNat xS)) λPO=>
 k74 (wr .i64 (xS+1)) PO) (
 k74 (wr .i64 (xS+1)) AH)) (
 F AH)) m 0 p=F (fin (clr L c (get p))):=by
 refine dU (λ(i:Int) (v:α)=>∃k:Nat,i=k/\k<=8/\v=fin (λj=>if j<k/\L.contains (c j)=true then 0 else get p j)) (λi _ =>8-i.toNat) (λo=>o=F (fin (clr L c (get p)))) ?_ m 0 p ⟨0,rfl,by omega,by simp[h0]⟩ (by omega);rintro kk x v ⟨k,rfl,hk,rfl⟩ ih;by_cases q:k<8
 ·rw[ak (aoY (by omega)),ax (bK (by omega) (by omega)),aoZ,ah (hd k q),aL (by omega) (by omega)]
  have st:∀j,j≠k->(if j<k+1/\L.contains (c j)=true then(0:Int)else get p j)=if j<k/\L.contains (c j)=true then 0 else get p j:=λj hj=>by
   by_cases h1:L.contains (c j)=true
   ·by_cases h2:j<k
    ·rw[aoU ⟨by omega,h1⟩,aoU ⟨h2,h1⟩]
    ·rw[aoV (λh=>by omega),aoV (λh=>h2 h.1)]
   ·rw[aoV (λh=>h1 h.2),aoV (λh=>h1 h.2)]
  cases hc:L.contains (c k)with
  |true=>
   rw[ak rfl,ax (bK (by omega) (by omega)),aJ,hput];refine ih _ _ ⟨k+1,by omega,by omega,?_⟩ (by omega);congr 1;funext j;rw[bI];by_cases e:j=k
   ·subst e;rw[aoU rfl,aoU ⟨by omega,hc⟩]
   ·rw[aoV e,st j e]
  |false=>
   rw[ae rfl];refine ih _ _ ⟨k+1,by omega,by omega,?_⟩ (by omega);congr 1;funext j;by_cases e:j=k
   ·subst e;rw[aoV (λh=>by rw[hc]at h;exact absurd h.2 (by decide)),aoV (λh=>by rw[hc]at h;exact absurd h.2 (by decide))]
   ·rw[st j e]
 ·rw[ae (ao5 (by omega))]
  obtain rfl:k=8:=by omega
  rfl
def MM(w0:ai)(L:List Int)(v:ai)(x:Int):ai:={v with R:=dm v.R (aY x) {v.R (aY x)with bC:=clr L (w0.R (aY x)).bC (v.R (aY x)).bC}}
abbrev F6(w:ai)(L l:List Int):ai:=l.foldl (MM w L) w
theorem aif(w0:ai)(L:List Int)(v:ai)(x y:Int):dM (MM w0 L v x) y=dM v y:=by
 unfold dM MM;dsimp only;rw[bI];split
 ·rename_i e;rw[e]
 ·rfl
theorem HV(w0:ai)(L l:List Int):∀v:ai,(l.foldl (MM w0 L) v).B=v.B:=by
 induction l with
 |nil=>intro v;rfl
 |cons x l ih=>intro v;exact ih _
theorem aep(w0:ai)(L l:List Int)(y:Int):∀v:ai,dM (l.foldl (MM w0 L) v) y=dM v y:=by
 induction l with
 |nil=>intro v;rfl
 |cons x l ih=>intro v;exact(ih _).trans (aif _ _ _ _ _)
theorem z6{B:aD}{x y:Int}(hx:aQ B x)(hy:aQ B y)(e:aY x=aY y):x=y:=by rw[← iG hx, ← iG hy,e]
end
end Go.Proofs.Z
namespace Go.Proofs.Z
open Go Go.Bw
section
variable {n:Nat} {t:au} {w:ai}
theorem adr(r:gI t w)(tt:jV w){h:Int}(hh:aQ w.B h){c:Int}(c0:0<=c):((c !=h)&&yD w c h)=(U6 (dM w) h).contains c:=by
 obtain⟨ρ,f⟩:=Lm r tt;have hG:=(bY r.bj h).2 hh;unfold yD;by_cases e:c=h
 ·subst e
  have:(U6 (dM w) c).contains c=false:=by rw[← Bool.not_eq_true,List.contains_iff_mem];exact f.ae8 hG
  rw[this];simp
 ·have e1:(c !=h)=true:=by simpa using e
  have e2:(c==h)=false:=by simpa using e
  rw[e1,e2,hh.2];cases hc:(U6 (dM w) h).contains c with
  |false=>simp
  |true=>have:=(bY r.bj c).1 (f.IM hG c (List.contains_iff_mem.1 hc)).1;rw[this.2];rfl
theorem aie(hn:100<=n)(r:gI t w)(tt:jV w){h:Int}(hh:aQ w.B h)(s:Int)(hs:0<=s/\s<32)(v:ai){ρ:Type}(F:ai->Option ρ):
  cH (λk64 (zv:Int) (uo:ai)=>
 cn (decide (zv<8)) (
 gu (bQ s 32)<|
 gu (bQ zv 8)<|
 cl ((((w.R (Int.toNat s)).bC (Int.toNat zv))!=0)==true) (dO n w ((w.R (Int.toNat s)).bC (Int.toNat zv)) h) default λDQ=>
 cn (((((w.R (Int.toNat s)).bC (Int.toNat zv))!=0)&&DQ)) (
 gu (bQ s 32)<|
 gu (bQ zv 8)<|
 lt ({uo with R:=(dm uo.R (Int.toNat s) ({(uo.R (Int.toNat s))with bC:=(dm ((uo.R (Int.toNat s)).bC) (Int.toNat zv) 0)}))}:ai) λNZ=>
 k64 (wr .i64 (zv+1)) NZ) (
 k64 (wr .i64 (zv+1)) uo)) (
 F uo)) n 0 v=F {v with R:=dm v.R s.toNat {v.R s.toNat with bC:=clr (U6 (dM w) h) (w.R s.toNat).bC (v.R s.toNat).bC}}:=by
 obtain⟨ρ',f⟩:=Lm r tt;have hG:=(bY r.bj h).2 hh;have Q5:bQ s 32=true:=bK hs.1 (by omega);have key:∀(c:Int) (G:Bool->Option ρ),(cl ((c !=0)==true) (dO n w c h) default λDQ=>G ((c !=0)&&DQ))=G ((U6 (dM w) h).contains c):=λc G=>by
  by_cases e:c=0
  ·subst e
   have:(U6 (dM w) h).contains 0=false:=by rw[← Bool.not_eq_true,List.contains_iff_mem];exactλq=>f.pos 0 (f.IM hG 0 q).1 rfl
   rw[this];rfl
  ·have e1:(c !=0)=true:=by simpa using e
   rw[uj (by rw[e1];rfl) (OA (by omega) r tt c hh),e1,Bool.true_and]
 refine dU (λ(i:Int) (x:ai)=>∃k:Nat,i=k/\k<=8/\x={v with R:=dm v.R s.toNat {v.R s.toNat with bC:=λj=>if j<k/\(U6 (dM w) h).contains ((w.R s.toNat).bC j)=true then 0 else(v.R s.toNat).bC j}}) (λi _ =>8-i.toNat)
  (λo=>o=F {v with R:=dm v.R s.toNat {v.R s.toNat with bC:=clr (U6 (dM w) h) (w.R s.toNat).bC (v.R s.toNat).bC}}) ?_ n 0 v ⟨0,rfl,by omega,?_⟩ (by omega)
 ·rintro kk x y ⟨k,rfl,hk,rfl⟩ ih
  by_cases q:k<8
  ·have XP:bQ (k:Int) 8=true:=bK (by omega) (by omega)
   have st:∀j,j≠k->(if j<k+1/\(U6 (dM w) h).contains ((w.R s.toNat).bC j)=true then(0:Int)else(v.R s.toNat).bC j)=if j<k/\(U6 (dM w) h).contains ((w.R s.toNat).bC j)=true then 0 else(v.R s.toNat).bC j:=λj hj=>by
    by_cases h1:(U6 (dM w) h).contains ((w.R s.toNat).bC j)=true
    ·by_cases h2:j<k
     ·rw[aoU ⟨by omega,h1⟩,aoU ⟨h2,h1⟩]
     ·rw[aoV (λh=>by omega),aoV (λh=>h2 h.1)]
    ·rw[aoV (λh=>h1 h.2),aoV (λh=>h1 h.2)]
   rw[ak (aoY (by omega)),ax Q5,ax XP,aoZ,aL (x:=(k:Int)+1) (by omega) (by omega)];refine(key _ (λb=>cn b _ _)).trans ?_;cases hc:(U6 (dM w) h).contains ((w.R s.toNat).bC k)with
   |true=>
    rw[ak rfl,ax Q5,ax XP,aJ];refine ih _ _ ⟨k+1,by omega,by omega,?_⟩ (by omega);dsimp only;rw[Oh,pq];congr 2;congr 1;funext j;rw[bI];by_cases e:j=k
    ·subst e;rw[aoU rfl,aoU ⟨by omega,hc⟩]
    ·rw[aoV e,st j e]
   |false=>
    rw[ae rfl];refine ih _ _ ⟨k+1,by omega,by omega,?_⟩ (by omega);dsimp only;congr 2;congr 1;funext j;by_cases e:j=k
    ·subst e;rw[aoV (λh=>by rw[hc]at h;exact absurd h.2 (by decide)),aoV (λh=>by rw[hc]at h;exact absurd h.2 (by decide))]
    ·rw[st j e]
  ·rw[ae (ao5 (by omega))]
   obtain rfl:k=8:=by omega
   rfl
 ·have:(λj=>if j<0/\(U6 (dM w) h).contains ((w.R s.toNat).bC j)=true then(0:Int)else(v.R s.toNat).bC j)=(v.R s.toNat).bC:=by funext j;simp
  rw[this];obtain⟨vb,vr⟩:=v;congr 1;funext j;rw[bI];split
  ·rename_i e;rw[e]
  ·rfl
theorem alJ(hn:200<=n){t0:au}{w0:ai}(r0:gI t0 w0)(tt0:jV w0)(i0:zn w0){h:Int}(hh:aQ w0.B h)(fin:au->Option (au×Int))(l:List Int):∀{t:au} {w:ai},gI t w->jV w->zn w->w.B=w0.B->(∀x∈l,aQ w.B x/\w.R (aY x)=w0.R (aY x))->l.Nodup->
  ∃t',sH (λ(e49:Int) k44 (gy:au)=>
 lt (e49:Int) λBx=>
 bd (eY n gy Bx) λtC=>
 cH (λk74 (xS:Int) (AH:aR)=>
 cn (decide (xS<8)) (
 gu (bQ xS 8)<|
 bd (qj n (tC.1.bC (Int.toNat xS)) h t0) λMs=>
 cn (Ms) (
 gu (bQ xS 8)<|
 lt ({AH with bC:=(dm AH.bC (Int.toNat xS) 0)}:aR) λPO=>
 k74 (wr .i64 (xS+1)) PO) (
 k74 (wr .i64 (xS+1)) AH)) (
 bd (gF n gy Bx AH) λGO=>
 k44 GO.1)) n 0 tC.1) fin l t=fin t'/\gI t' (l.foldl (MM w0 (U6 (dM w0) h)) w)/\jV (l.foldl (MM w0 (U6 (dM w0) h)) w)/\zn (l.foldl (MM w0 (U6 (dM w0) h)) w):=by
 induction l with
 |nil=>intro t w r tt i _ _ _;exact⟨t,rfl,r,tt,i⟩
 |cons x l ih=>
  intro t w r tt i hb hl hd;obtain⟨hx,hd⟩:=List.nodup_cons.1 hd;obtain⟨hg,hr⟩:=hl x (by simp);obtain⟨l1,l2⟩:=fg hg;have hR:=r.reg _ l1 l2;have hq:=i x hg;have hc:∀k,k<8->qj n ((p8 t w x).bC k) h t0=some ((U6 (dM w0) h).contains ((p8 t w x).bC k)):=λk hk=>by have e1:(p8 t w x).bC k=(w.R (aY x)).bC k:=hR.c k hk;have e2:=hR.c0 k hk;rw[e1];unfold qj;rw[cK (OE (by omega) r0 tt0 e2.1 (by omega) hh.1 (gh hh.2)), ← adr r0 tt0 hh e2.1];cases h3:((w.R (aY x)).bC k !=h)<;>rfl
  have hin:=λF:aR->Option (au×Int)=>alL (λv:aR=>v.bC) (λv k=>{v with bC:=dm v.bC k 0}) (p8 t w x) (p8 t w x).bC (λc=>qj n c h t0) (U6 (dM w0) h) hc (λg=>{p8 t w x with bC:=g}) rfl (λ_ _ =>rfl) F (m:=n) (by omega);have hp:JG {p8 t w x with bC:=clr (U6 (dM w0) h) (p8 t w x).bC (p8 t w x).bC} {w.R (aY x)with bC:=clr (U6 (dM w0) h) (w0.R (aY x)).bC (w.R (aY x)).bC}:=by
   refine⟨hR.q,hR.e,hR.n,hR.r,λk hk=>?_,λk hk=>?_⟩
   ·show(if k<8/\(U6 (dM w0) h).contains ((p8 t w x).bC k)=true then 0 else(p8 t w x).bC k)=if k<8/\(U6 (dM w0) h).contains ((w0.R (aY x)).bC k)=true then 0 else(w.R (aY x)).bC k
    have e1:(p8 t w x).bC k=(w.R (aY x)).bC k:=hR.c k hk;rw[e1, ← hr]
   ·have:=hR.c0 k hk
    show 0<=(if k<8/\(U6 (dM w0) h).contains ((w0.R (aY x)).bC k)=true then 0 else(w.R (aY x)).bC k)/\(if k<8/\(U6 (dM w0) h).contains ((w0.R (aY x)).bC k)=true then 0 else(w.R (aY x)).bC k)<=4294967295;split
    ·decide
    ·exact this
  obtain⟨t1,s1,s2,s3⟩:=acV (n:=n) (by omega) r tt hg hp hq.1 (hq.2 n (by omega));have et:AU w x {w.R (aY x)with bC:=clr (U6 (dM w0) h) (w0.R (aY x)).bC (w.R (aY x)).bC}=MM w0 (U6 (dM w0) h) w x:=rfl;rw[et]at s2 s3;have si:zn (MM w0 (U6 (dM w0) h) w x):=i.set hg (x:={w.R (aY x)with bC:=clr (U6 (dM w0) h) (w0.R (aY x)).bC (w.R (aY x)).bC}) rfl rfl;have AY:∀y∈l,aQ (MM w0 (U6 (dM w0) h) w x).B y/\(MM w0 (U6 (dM w0) h) w x).R (aY y)=w0.R (aY y):=λy hy=>by obtain⟨y1,y2⟩:=hl y (by simp[hy]);refine⟨y1,?_⟩;rw[← y2];unfold MM;exact jo _ _ (λq=>hx (by rw[z6 hg y1 q.symm];exact hy))
  obtain⟨t',q1,q2,q3,q4⟩:=ih s2 s3 si hb AY hd;refine⟨t',?_,q2,q3,q4⟩;refine Eq.trans ?_ q1;show bd (eY n t x) _ =_;rw[ah (z8 r hg.1 (gh hg.2)),aoU hg.2];refine(hin _).trans ?_;rw[ah s1]
theorem alI(hn:200<=n)(r:gI t w)(tt:jV w){h:Int}(hh:aQ w.B h){l:List Int}(hl:∀x∈l,aQ w.B x)(hlen:l.length<=40){ρ:Type}(F:ai->Option ρ):
  cH (λk46 (lJ:Int) (gy:ai)=>
 cn (decide (lJ<(l.length:Int))) (
 gu (bQ lJ l.length)<|
 bd (bq n w.B (l.getD (Int.toNat lJ) default)) λBx=>
 cH (λk64 (zv:Int) (uo:ai)=>
 cn (decide (zv<8)) (
 gu (bQ Bx 32)<|
 gu (bQ zv 8)<|
 cl ((((w.R (Int.toNat Bx)).bC (Int.toNat zv))!=0)==true) (dO n w ((w.R (Int.toNat Bx)).bC (Int.toNat zv)) h) default λDQ=>
 cn (((((w.R (Int.toNat Bx)).bC (Int.toNat zv))!=0)&&DQ)) (
 gu (bQ Bx 32)<|
 gu (bQ zv 8)<|
 lt ({uo with R:=(dm uo.R (Int.toNat Bx) ({(uo.R (Int.toNat Bx))with bC:=(dm ((uo.R (Int.toNat Bx)).bC) (Int.toNat zv) 0)}))}:ai) λNZ=>
 k64 (wr .i64 (zv+1)) NZ) (
 k64 (wr .i64 (zv+1)) uo)) (
 k46 (wr .i64 (lJ+1)) uo)) n 0 gy) (
 F gy)) n 0 w=F (F6 w (U6 (dM w) h) l):=by
 refine dU (λ(i:Int) (v:ai)=>∃k:Nat,i=k/\k<=l.length/\v=F6 w (U6 (dM w) h) (l.take k)) (λi _ =>l.length-i.toNat) (λo=>o=F (F6 w (U6 (dM w) h) l)) ?_ n 0 w ⟨0,rfl,by omega,rfl⟩ (by omega);rintro kk x v ⟨k,rfl,hk,rfl⟩ ih;by_cases c:k<l.length
 ·have hx:=hl _ (gP (l:=l) (i:=k) c)
  rw[ak (aoY (by omega)),ax (bK (by omega) (by omega)),aoZ,ah (cW (by omega) r.bj hx.1),hx.2,aoU rfl,aie (by omega) r tt hh _ (by have:=fG (l.getD k default);omega),aL (by omega) (by omega)];exact ih _ _ ⟨k+1,by omega,by omega,by rw[ao4 c, ← fq c,F6,F6,List.foldl_append];rfl⟩ (by omega)
 ·rw[ae (ao5 (by omega)),List.take_of_length_le (by omega)]
def EL(w:ai)(h:Int):ai:=if aM w.B h=true then Jp (F6 w (U6 (dM w) h) (V6 (Gw w) (dM w) h)) h 0 else w
theorem aoj(hn:200<=n)(r:gI t w)(tt:jV w)(i:zn w){h:Int}(h0:0<=h)(h1:h<4294967296):
  ∃t',tQ n t h=some (t',if aM w.B h=true then 0 else 4)/\wA n w h=some (EL w h,if aM w.B h=true then 0 else 4)/\gI t' (EL w h)/\jV (EL w h)/\zn (EL w h):=by
 unfold tQ wA EL;rw[ah (nZ r.bj h0 h1),ah (cj (by omega) r h0)];cases hg:aM w.B h with
 |false=>simp only[Bool.false_eq_true,if_false];exact⟨t,rfl,rfl,r,tt,i⟩
 |true=>
  rw[aoU rfl,aoU rfl];have hh:aQ w.B h:=⟨h0,hg⟩;obtain⟨ρ,f⟩:=Lm r tt;have hm:=bY r.bj;have hG:=(hm h).2 hh;have hu:fY w h=V6 (Gw w) (dM w) h:=by unfold fY;rw[aoU hg]
  have hl:∀x∈V6 (Gw w) (dM w) h,aQ w.B x:=λx hx=>(hm x).1 ((f.yU hG x).1 hx).1;rw[ae (b:= !true) rfl,ae (b:= !true) rfl];unfold oo;rw[ah rfl,ah (KC (by omega) r tt hh),ah (FH (by omega) r tt h0),hu];obtain⟨t1,a1,a2,a3,a4⟩:=alJ (n:=n) hn r tt i hh (λgy=>bd (iN n gy h 0) λNU=>some (NU.1,NU.2)) (V6 (Gw w) (dM w) h) r tt i rfl (λx hx=>⟨hl x hx,rfl⟩) (f.af3 hG);have hb:(F6 w (U6 (dM w) h) (V6 (Gw w) (dM w) h)).B=w.B:=HV _ _ _ _;have hh':aQ (F6 w (U6 (dM w) h) (V6 (Gw w) (dM w) h)).B h:=by rw[hb];exact hh
  obtain⟨t2,b1,b2,b3⟩:=Zk (n:=n) (by omega) a2 a3 hh' (a:=0) (.inl rfl) (λq=>q.1 rfl);refine⟨t2,?_,?_,b2,b3,a4.up h 0⟩
  ·refine a1.trans ?_
   rw[ah b1]
  ·refine(alI (n:=n) hn r tt hh hl (by have:=f.M3 hG;omega) _).trans ?_
   generalize F6 w (U6 (dM w) h) (V6 (Gw w) (dM w) h)=v;rw[ah (cW (by omega) r.bj h0),hg,aoU rfl,ax (gR h)];rfl
end
end Go.Proofs.Z
namespace Go.Proofs.Z
open Go Go.Bw
section
variable {G:List Int} {up up':Int->Int} {ρ ρ':Int->Nat}
theorem Fo.an8(f:Fo G up ρ)(f':Fo G up' ρ'){h a:Int}(PY:∀x∈G,up' x=if x=h then a else up x)(ha:a≠0)(h0:up h=0):∀y∈G,U6 up' y=if y=h\/h∈U6 up y then U6 up y++(a::U6 up' a)else U6 up y:=by
 refine f.Qe _ λy hy ih=>?_;have hu:=PY y hy;by_cases e:y=h
 ·subst e
  rw[aoU rfl]at hu;rw[aoU (.inl rfl),f.u0 hy h0,f'.u1 hy (by rw[hu];exact ha),hu];rfl
 ·rw[aoV e]at hu
  by_cases e0:up y=0
  ·rw[f'.u0 hy (hu.trans e0),f.u0 hy e0,aoV (λq=>q.elim e (by simp))]
  ·have hi:=ih e0
   rw[f'.u1 hy (by rw[hu];exact e0),hu,hi,f.u1 hy e0];by_cases q:up y=h\/h∈U6 up (up y)
   ·rw[aoU q,aoU (.inr (List.mem_cons.2 (q.imp Eq.symm _root_.id)))];rfl
   ·rw[aoV q,aoV (λp=>p.elim e λp=>q ((List.mem_cons.1 p).imp Eq.symm _root_.id))]
theorem Fo.an7(f:Fo G up ρ)(f':Fo G up' ρ'){h a:Int}(PY:∀x∈G,up' x=if x=h then a else up x)(hh:h∈G)(h0:up h=0)(hno:¬(a=h\/h∈U6 up a)):∀x∈G,(x=h\/h∈U6 up x)->V6 G up' x=V6 G up x:=by
 refine f.aib _ λx hx ih hv=>?_;have hk:nK G up' x=nK G up x:=by
  unfold nK;refine List.filter_congr λy hy=>?_;rw[PY y hy];by_cases e:y=h
  ·subst e
   have e1:(a==x)=false:=by
    simp only[beq_eq_false_iff_ne,ne_eq]
    exactλq=>hno (by rw[q];exact hv)
   have e2:(up y==x)=false:=by rw[h0];simp only[beq_eq_false_iff_ne,ne_eq];exactλq=>f.pos x hx q.symm
   rw[aoU rfl,e1,e2]
  ·rw[aoV e]
 rw[f.Oe hx,f'.Oe hx,hk];congr 1;refine EG λy hy=>?_;obtain⟨y1,y2⟩:=pK.1 hy;refine ih y y1 y2 (.inr ?_);rw[f.u1 y1 (by rw[y2];exact f.pos x hx),y2];exact List.mem_cons.2 (hv.imp Eq.symm _root_.id)
end
section
variable {n:Nat} {t:au} {w:ai}
theorem Pr(r:gI t w)(tt:jV w)(x:Int):0<=nO w x/\nO w x<=33:=by
 unfold nO;by_cases hg:aM w.B x=true
 ·rw[aoU hg]
  by_cases h0:0<=x
  ·obtain⟨ρ,f⟩:=Lm r tt
   have:=f.YB ((bY r.bj x).2 ⟨h0,hg⟩);omega
  ·have h3:=(lU.1 hg).2.2
   have h4:=r.bj.nW (aY x) (iO x);unfold aY at h4;omega
 ·rw[aoV hg];omega
theorem ajM(hn:200<=n)(r:gI t w)(tt:jV w){h:Int}(hh:aQ w.B h):∃m,yh n t h=some m/\0<=m/\m<=34/\∀k,0<=k->(k<m↔∃y∈V6 (Gw w) (dM w) h,k<nO w y-nO w h+1):=by
 obtain⟨ρ,f⟩:=Lm r tt;have hm:=bY r.bj;have hG:=(hm h).2 hh;have hd:=λx=>Pr r tt x;unfold yh oo;rw[ah rfl,ah (KC (by omega) r tt hh)];have hl:∀x∈V6 (Gw w) (dM w) h,jT n t x=some (nO w x)/\0<=nO w x/\nO w x<=1000:=λx hx=>by have hx:=(hm x).1 ((f.yU hG x).1 hx).1;have:=hd x;exact⟨Pq (by omega) r tt hx.1 (gh hx.2),by omega,by omega⟩
 have key:=adU (λx=>jT n t x) (jT n t h) (nO w) (nO w h) (by have:=hd h;omega) (Pq (by omega) r tt hh.1 (gh hh.2)) (V6 (Gw w) (dM w) h) hl 0 (by omega);have hf:=aaW (nO w) (nO w h) (V6 (Gw w) (dM w) h) 0;have hh1:1<=nO w h:=by unfold nO;rw[aoU hh.2];omega
 refine⟨_,key,?_,?_,λk hk=>(hf k).trans ⟨λq=>q.resolve_left (by omega), .inr⟩⟩
 ·have:=(hf (-1)).2 (.inl (by omega));omega
 ·rcases Int.lt_or_le 34 ((V6 (Gw w) (dM w) h).foldl (λm y=>max m (nO w y-nO w h+1)) 0)with q|q
  ·rcases(hf 34).1 q with q|⟨y,_,q⟩
   ·omega
   ·have:=hd y;omega
  ·exact q
theorem anm(d:Int->Option Int)(v:Int->Int)(l:List Int)(hd:∀x∈l,d x=some (v x))(hlen:l.length<=40){ρ:Type}(A B:Option ρ)(hn:100<=n):
  ((∃y∈l,6<v y)->fK (λk48 (my:Int)=>
 cn (decide (my<(l.length:Int))) (
 gu (bQ my l.length)<|
 bd (d (l.getD (Int.toNat my) default)) λtC=>
 cn (decide (6<tC)) A (
 k48 (wr .i64 (my+1)))) B) n 0=A)/\((∀y∈l,v y<=6)->fK (λk48 (my:Int)=>
 cn (decide (my<(l.length:Int))) (
 gu (bQ my l.length)<|
 bd (d (l.getD (Int.toNat my) default)) λtC=>
 cn (decide (6<tC)) A (
 k48 (wr .i64 (my+1)))) B) n 0=B):=by
 refine je (λ(i:Int)=>∃k:Nat,i=k/\k<=l.length/\∀y∈l.take k,v y<=6) (λi=>l.length-i.toNat) (λo=>((∃y∈l,6<v y)->o=A)/\((∀y∈l,v y<=6)->o=B)) ?_ n 0 ⟨0,rfl,by omega,by simp⟩ (by omega);rintro kk x ⟨k,rfl,hk,hp⟩ ih;by_cases c:k<l.length
 ·have hm:l.getD k default∈l:=gP c
  rw[ak (aoY (by omega)),ax (bK (by omega) (by omega)),aoZ,ah (hd _ hm)];by_cases q:6<v (l.getD k default)
  ·rw[ak (aoY q)]
   exact⟨λ_ =>rfl,λh=>by have:=h _ hm;omega⟩
  ·rw[ae (ao5 q),aL (by omega) (by omega)]
   refine ih _ ⟨k+1,by omega,by omega,λy hy=>?_⟩ (by omega);rw[ao4 c,List.mem_append,List.mem_singleton]at hy;rcases hy with hy|hy
   ·exact hp y hy
   ·rw[hy, ← fq c];omega
 ·rw[ae (ao5 (by omega))]
  rw[List.take_of_length_le (by omega)]at hp;exact⟨λ⟨y,hy,q⟩=>by have:=hp y hy;omega,λ_ =>rfl⟩
structure Gr6(w:ai)(h a:Int)(w':ai)(e:Int):Prop where
 no:e≠0->w'=w
 is:e=0->w'=Jp w h a/\aQ w.B h/\aQ w.B a/\dM w h=0/\¬(a=h\/h∈U6 (dM w) a)/\∀y∈V6 (Gw w) (dM w) h,nO w' y<=6
theorem ahL(hn:200<=n)(r:gI t w)(tt:jV w)(i:zn w){h a:Int}(h0:0<=h)(h1:h<4294967296)(a0:0<=a)(a1:a<4294967296):
  ∃t' w' e,wj n t h a=some (t',e)/\ya n w h a=some (w',e)/\gI t' w'/\jV w'/\zn w'/\Gr6 w h a w' e:=by
 unfold wj ya;rw[ah (nZ r.bj h0 h1),ah (cj (by omega) r h0),cK (nZ r.bj a0 a1),cK (cj (by omega) r a0)];cases hg:aM w.B h with
 |false=>exact⟨t,w,4,rfl,rfl,r,tt,i,⟨λ_ =>rfl,λh=>absurd h (by decide)⟩⟩
 |true=>
 cases hk:aM w.B a with
 |false=>exact⟨t,w,4,rfl,rfl,r,tt,i,⟨λ_ =>rfl,λh=>absurd h (by decide)⟩⟩
 |true=>
 have hh:aQ w.B h:=⟨h0,hg⟩;have ha:aQ w.B a:=⟨a0,hk⟩;obtain⟨ρ,f⟩:=Lm r tt;have hm:=bY r.bj;have hG:=(hm h).2 hh;have aG:=(hm a).2 ha;have hrt:dc w h=Na (dM w) h:=by unfold dc;rw[aoU hg]
 have hou:yD w h a=((h==a)||(U6 (dM w) a).contains h):=by unfold yD;rw[hg,hk];rfl
 rw[ae (by rfl),ae (by rfl),ah (Ew (by omega) r tt h0 h1),ah (KL (by omega) r hh),cK (OE (by omega) r tt h0 h1 a0 a1),cK (UH (by omega) r tt h0 a0),hrt];by_cases hu:dM w h=0
 ·have e1:(Na (dM w) h !=h)=false:=by simpa using(f.Oo hG).2 hu
  have e2:(dM w h !=0)=false:=by simpa using hu
  rw[e1,e2];by_cases ho:a=h\/h∈U6 (dM w) a
  ·have e3:yD w h a=true:=by
    rw[hou,Bool.or_eq_true,beq_iff_eq,List.contains_iff_mem];exact ho.imp Eq.symm _root_.id
   rw[e3];exact⟨t,w,12,rfl,rfl,r,tt,i,⟨λ_ =>rfl,λh=>absurd h (by decide)⟩⟩
  ·have e3:yD w h a=false:=by
    rw[hou,Bool.or_eq_false_iff,beq_eq_false_iff_ne, ← Bool.not_eq_true,List.contains_iff_mem];exact⟨λq=>ho (.inl q.symm),λq=>ho (.inr q)⟩
   have an:a≠0:=f.pos a aG;obtain⟨t',b1,b2,b3⟩:=Zk (n:=n) (by omega) r tt hh (.inr ha) (λq=>ho q.2);obtain⟨ρ',f'⟩:=Lm b2 b3;have PY:∀x∈Gw w,dM (Jp w h a) x=if x=h then a else dM w x:=λx hx=>Sq hh ((hm x).1 hx)
   have f':Fo (Gw w) (dM (Jp w h a)) ρ':=f';have gu:=f.an8 f' PY an hu;have gv:=f.an7 f' PY hG hu ho h hG (.inl rfl);have ua:U6 (dM (Jp w h a)) a=U6 (dM w) a:=by rw[gu a aG,aoV ho]
   have anH:fY (Jp w h a) h=V6 (Gw w) (dM w) h:=by unfold fY;rw[aoU (show aM (Jp w h a).B h=true from hg)];exact gv
   have ahA:∀y∈V6 (Gw w) (dM w) h,nO (Jp w h a) y=nO w y+nO w a:=λy hy=>by obtain⟨y1,y2⟩:=(f.yU hG y).1 hy;have yg:aM w.B y=true:=((hm y).1 y1).2;unfold nO;rw[aoU (show aM (Jp w h a).B y=true from yg),aoU yg,aoU hk,gu y y1,aoU y2,List.length_append,List.length_cons,ua];omega
   obtain⟨m,m1,m2,m3,m4⟩:=ajM (n:=n) hn r tt hh;have dh:nO w h=1:=by unfold nO;rw[aoU hg,f.u0 hG hu];rfl
   have da:=Pr r tt a;have d1:wr .i64 (nO w a+m)=nO w a+m:=aL (by omega) (by omega);rw[e3,ae (by rfl),ae (by rfl),ah (Pq (by omega) r tt a0 a1),ah m1,d1,ah (Nf (by omega) r tt hh (.inr ha) (λq=>ho q.2))];dsimp only;rw[ah (FH hn b2 b3 h0),anH];obtain⟨q1,q2⟩:=anm (n:=n) (λx=>gY n (Jp w h a) x) (nO (Jp w h a)) (V6 (Gw w) (dM w) h) (λx hx=>Ng hn b2 b3 ((hm x).1 ((f.yU hG x).1 hx).1).1) (by have:=f.M3 hG;omega) (some (w,(8:Int))) (some (Jp w h a,(0:Int))) (by omega);by_cases hq:∃y∈V6 (Gw w) (dM w) h,6<nO (Jp w h a) y
   ·have:6<nO w a+m:=by
     obtain⟨y,hy,hq⟩:=hq;rw[ahA y hy]at hq;rcases Int.lt_or_le 6 (nO w a)with h6|h6
     ·omega
     ·have:=(m4 (6-nO w a) (by omega)).2 ⟨y,hy,by omega⟩
      omega
    rw[ak (aoY this)];exact⟨t,w,8,rfl,q1 hq,r,tt,i,⟨λ_ =>rfl,λh=>absurd h (by decide)⟩⟩
   ·have xq:∀y∈V6 (Gw w) (dM w) h,nO (Jp w h a) y<=6:=λy hy=>Int.not_lt.1 λq=>hq ⟨y,hy,q⟩
    have hV:h∈V6 (Gw w) (dM w) h:=(f.yU hG h).2 ⟨hG, .inl rfl⟩;have:¬6<nO w a+m:=λq=>by have h6:=xq h hV;rw[ahA h hV]at h6;obtain⟨y,hy,hq⟩:=(m4 (6-nO w a) (by omega)).1 (by omega);have:=xq y hy;rw[ahA y hy]at this;omega
    rw[ae (ao5 this),ah b1];exact⟨t',Jp w h a,0,rfl,q2 xq,b2,b3,i.up h a,⟨λh=>absurd rfl h,λ_ =>⟨rfl,hh,ha,hu,ho,xq⟩⟩⟩
 ·have e1:(Na (dM w) h !=h)=true:=by simpa usingλq=>hu ((f.Oo hG).1 q)
  have e2:(dM w h !=0)=true:=by simpa using hu
  rw[e1,e2];exact⟨t,w,12,rfl,rfl,r,tt,i,⟨λ_ =>rfl,λh=>absurd h (by decide)⟩⟩
structure Nw6(w:ai)(a q:Int)(w':ai)(m e:Int):Prop where
 no:e≠0->w'=w
 is:e=0->∃f,CM w.B f/\f<32/\(a=0\/aQ w.B a)/\(0<=q/\q<=64)/\nO w a<=5/\m=fL f (w.B.gA f)/\w'=⟨mg w.B f,dm w.R f ⟨a,q,bA,λ_ =>0⟩⟩
theorem agR{n:Nat}(hn:110<=n):dP n bA=some true:=by obtain⟨b,b1,b2⟩:=wz (n:=n) hn (x:=bA) (by show(0:Nat)<=80;omega) (λy hy=>by cases hy);rw[b1,b2.2 ⟨CL.nil,by show(0:Int)<=0;decide,by show(0:Int)<=32*0;decide⟩]
theorem ani(hn:200<=n)(r:gI t w)(tt:jV w)(i:zn w){a q:Int}(a0:0<=a)(a1:a<4294967296):
  ∃t' w' m e,xu n t a q=some (t',m,e)/\qe n w a q=some (w',m,e)/\0<=m/\m<4294967296/\gI t' w'/\jV w'/\zn w'/\Nw6 w a q w' m e:=by
 obtain⟨t',w',m,e,e1,e2,m0,m1,k⟩:=anj (n:=n) (by omega) r tt (q:=q) a0 a1;have hd:=Pr r tt a;unfold xu qe;rw[ah e1,cK (Pq (by omega) r tt a0 a1),cK (cj (by omega) r a0),cK (Ng hn r tt a0),ah e2];dsimp only;by_cases hok:(a=0\/aQ w.B a)/\0<=q/\q<=64
 ·obtain⟨ha,hq⟩:=hok
  obtain⟨f,hf⟩:=Lp w.B;have hx:=ada (n:=n) (by omega) r ha hq hf;rw[e2]at hx;have c1:((((a==0)||(bif (a==0)==false then aM w.B a else default))&&decide (0<=q))&&decide (q<=64))=true:=by
   have:((a==0)||(bif (a==0)==false then aM w.B a else default))=true:=by
    rcases ha with e|e
    ·subst e;rfl
    ·rw[e.2];cases a==0<;>rfl
   rw[this,aoY hq.1,aoY hq.2];rfl
  have c2:((e==0)||(e==7))=true:=by
   have:=Option.some.inj hx;by_cases hl:f<32
   ·rw[aoU hl]at this;rw[(Prod.mk.inj (Prod.mk.inj this).2).2];rfl
   ·rw[aoV hl]at this;rw[(Prod.mk.inj (Prod.mk.inj this).2).2];rfl
  rw[c1,c2];by_cases h6:6<=nO w a
  ·have h5:(5:Int)<nO w a:=by omega
   rw[ak (by simpa using h6),ak (by simpa using h5)];exact⟨t,w,0,8,rfl,rfl,by decide,by decide,r,tt,i,⟨λ_ =>rfl,λh=>absurd h (by decide)⟩⟩
  ·have h5:¬(5:Int)<nO w a:=by omega
   rw[ae (by simpa using h6),ae (by simpa using h5)];refine⟨t',w',m,e,rfl,rfl,m0,m1,k.rt,k.tt,?_,?_⟩
   ·have:=Option.some.inj hx
    by_cases hl:f<32
    ·rw[aoU hl]at this
     obtain⟨rfl,h2⟩:=Prod.mk.inj this;intro g P1;dsimp only;rw[bI];split
     ·exact⟨hq,λn hn=>agR hn⟩
     ·rename_i hne
      refine i g (((mh r.bj hf hl g).1 P1).resolve_right λe=>?_);have hr:=r.bj.nW f hl;obtain⟨q1,q2,q3,q4,q5⟩:=pB (i:=f) (g:=w.B.gA f) (by omega) (by omega) hr.1 hr.2;exact hne (by rw[e];unfold aY;rw[q2];omega)
    ·rw[aoV hl]at this
     rw[(Prod.mk.inj this).1];exact i
   ·have:=Option.some.inj hx
    by_cases hl:f<32
    ·rw[aoU hl]at this
     obtain⟨h1,h2⟩:=Prod.mk.inj this;obtain⟨h2,h3⟩:=Prod.mk.inj h2;exact⟨λh=>absurd h3 h,λ_ =>⟨f,hf,hl,ha,hq,by omega,h2,h1⟩⟩
    ·rw[aoV hl]at this
     obtain⟨h1,h2⟩:=Prod.mk.inj this;obtain⟨h2,h3⟩:=Prod.mk.inj h2;exact⟨λ_ =>h1,λh=>absurd (h3.symm.trans h) (by decide)⟩
 ·have hw:w'=w/\e≠0/\e≠7:=by
   unfold fM at e2;rw[cK (cj (by omega) r a0),ug]at e2;cases hx:ZN w.B a with
   |false=>rw[hx,ak (b:= !false) rfl]at e2;obtain⟨h1,h2⟩:=Prod.mk.inj (Option.some.inj e2);exact⟨h1.symm,by rw[← (Prod.mk.inj h2).2];decide,by rw[← (Prod.mk.inj h2).2];decide⟩
   |true=>have hq:¬(0<=q/\q<=64):=λh=>hok ⟨S5 a0 hx,h⟩;rw[hx,ae (b:= !true) rfl,ak (by simp;omega)]at e2;obtain⟨h1,h2⟩:=Prod.mk.inj (Option.some.inj e2);exact⟨h1.symm,by rw[← (Prod.mk.inj h2).2];decide,by rw[← (Prod.mk.inj h2).2];decide⟩
  obtain⟨rfl,n0,n7⟩:=hw;have c1:((((a==0)||(bif (a==0)==false then aM w'.B a else default))&&decide (0<=q))&&decide (q<=64))=false:=by
   by_cases hq:0<=q/\q<=64
   ·have ha:¬(a=0\/aQ w'.B a):=λh=>hok ⟨h,hq⟩
    have e1:(a==0)=false:=by simpa usingλh=>ha (.inl h)
    have e2:aM w'.B a=false:=by
     cases h:aM w'.B a with
     |false=>rfl
     |true=>exact absurd (.inr ⟨a0,h⟩) ha
    rw[e1,e2];rfl
   ·have:(decide (0<=q)&&decide (q<=64))=false:=by rw[Bool.and_eq_false_iff,decide_eq_false_iff_not,decide_eq_false_iff_not];omega
    rw[Bool.and_assoc,this,Bool.and_false]
  have c2:((e==0)||(e==7))=false:=by rw[Bool.or_eq_false_iff,beq_eq_false_iff_ne,beq_eq_false_iff_ne];exact⟨n0,n7⟩
  rw[c1,c2,ae (by rfl),ae (by rfl)];exact⟨t',w',m,e,rfl,rfl,m0,m1,k.rt,k.tt,i,⟨λ_ =>rfl,λh=>absurd h n0⟩⟩
end
end Go.Proofs.Z
namespace Go.Proofs.Z
open Go Go.Bw
section
variable {n:Nat} {t:au} {w:ai}
theorem Zf(hn:40<=n)(r:gI t w){h:Int}(h0:0<=h)(hg:aM w.B h=false):∃x,kS n w h=some (x,4):=by unfold kS;rw[ah (cW hn r.bj h0),hg];exact⟨_,rfl⟩
theorem alO(hn:200<=n)(r:gI t w)(tt:jV w)(i:zn w){h z:Int}(hh:aQ w.B h)(z0:0<=z)(z1:z<4294967296){k:Nat}(hk:k<8):
  ∃t',gF n t h {p8 t w h with bC:=dm (p8 t w h).bC k z}=some (t',0)/\jg n w h {w.R (aY h)with bC:=dm (w.R (aY h)).bC k z}=some (AU w h {w.R (aY h)with bC:=dm (w.R (aY h)).bC k z},0)/\
   gI t' (AU w h {w.R (aY h)with bC:=dm (w.R (aY h)).bC k z})/\jV (AU w h {w.R (aY h)with bC:=dm (w.R (aY h)).bC k z})/\zn (AU w h {w.R (aY h)with bC:=dm (w.R (aY h)).bC k z}):=by
 obtain⟨l1,l2⟩:=fg hh;have hR:=r.reg _ l1 l2;have hq:=i h hh;have hp:JG {p8 t w h with bC:=dm (p8 t w h).bC k z} {w.R (aY h)with bC:=dm (w.R (aY h)).bC k z}:=by
  refine⟨hR.q,hR.e,hR.n,hR.r,λj hj=>?_,λj hj=>?_⟩
  ·dsimp only
   rw[bI,bI];split
   ·rfl
   ·exact hR.c j hj
  ·dsimp only
   rw[bI];split
   ·omega
   ·exact hR.c0 j hj
 obtain⟨t1,s1,s2,s3⟩:=acV (n:=n) (by omega) r tt hh hp hq.1 (hq.2 n (by omega));exact⟨t1,s1,Ox (by omega) r hh hq.1 (hq.2 n (by omega)),s2,s3,i.set hh rfl rfl⟩
end
theorem aas:zn gG:=λg hg=>by have:=(fg hg).2;exact(Nm this).elim
theorem abk(w:ai)(h:Int):(EL w h).B=w.B:=by
 unfold EL;split
 ·generalize V6 (Gw w) (dM w) h=l
  generalize U6 (dM w) h=L;exact HV w L l w
 ·rfl
end Go.Proofs.Z
namespace Go.Proofs.Z
open Go Go.Bw
structure RN(x:cF):Prop where
 k:0<=x.dx/\x.dx<=3
 h:x.dx≠3->x.dR=0
 t:x.dx≠1->x.gT=0
 hr:0<=x.dR/\x.dR<=255
 tr:0<=x.gT/\x.gT<=7
def K3:cF:={dx:=0,gT:=0,dR:=0}
theorem UP:RN K3:=⟨by decide,λ_ =>rfl,λ_ =>rfl,by decide,by decide⟩
structure OwR(w:ai)(o:bM)(S:Int->Prop):Prop where
 g:∀i,i<32->RN (o.aI i).own
 p:∀i,i<32->(o.aI i).root=0\/(sB w.B (o.aI i).root/\S (o.aI i).root)
def lK(w:ai)(o:bM)(h:Int):cF:=if aM w.B h=true/\(o.aI (aY (dc w h))).root=dc w h then(o.aI (aY (dc w h))).own else K3
theorem YD(x:Int):0<=wr .u8 x/\wr .u8 x<=255:=by
 have h:wr .u8 x=x%256:=by simp[wr,IntKind.wrap,IntKind.signed,IntKind.bits]
 rw[h];omega
theorem T5(x:Int):0<=lV .i64 x 7/\lV .i64 x 7<=7:=by
 unfold lV;have h:((BitVec.ofInt (IntKind.bits .i64) x&&& BitVec.ofInt (IntKind.bits .i64) 7).toNat)<=7:=by rw[BitVec.toNat_and];exact Nat.le_trans Nat.and_le_right (by decide)
 generalize((BitVec.ofInt (IntKind.bits .i64) x&&& BitVec.ofInt (IntKind.bits .i64) 7).toNat)=k at h;have e:IntKind.wrap .i64 (k:Int)=k:=aL (by omega) (by omega);rw[e];omega
theorem SS(l:List Int):∀(w:ai) (x:Int),sB w.B x->sB (eo w l).B x:=by
 induction l with
 |nil=>intro w x h;exact h
 |cons y l ih=>
  intro w x h;refine ih _ _ ?_;unfold Lx;split
  ·unfold Bi;exact Hj (h:=y) x h
  ·exact h
section
variable {n:Nat} {t:au} {w:ai} {o:bM}
theorem Nd(r:gI t w)(tt:jV w){h:Int}(hh:aQ w.B h):aQ w.B (dc w h)/\dc w (dc w h)=dc w h:=by
 obtain⟨ρ,f⟩:=Lm r tt;have hG:=(bY r.bj h).2 hh;obtain⟨a,b,c⟩:=f.SB hG;have e:dc w h=Na (dM w) h:=by unfold dc;rw[aoU hh.2]
 have g:=(bY r.bj _).1 a;rw[e];refine⟨g,?_⟩;unfold dc;rw[aoU g.2];exact(f.Oo a).2 c
theorem Hp(hn:40<=n)(r:gI t w)(tt:jV w){h:Int}(h0:0<=h)(h1:h<4294967296):jh n o t h=some (lK w o h):=by
 unfold jh lK;rw[ah (Ew hn r tt h0 h1)];cases hg:aM w.B h with
 |false=>
  have e:dc w h=0:=by unfold dc;rw[hg];rfl
  rw[e,ah (qb (by omega) (by omega)),aoV (λq=>by cases q.1)];rfl
 |true=>
  obtain⟨g,_⟩:=Nd r tt ⟨h0,hg⟩;have gs:=(gM g.2).1;rw[ah (qb g.1 (gh g.2)),gs,ax (by rw[gR];simp)];show cn ((!true)||((o.aI (aY (dc w h))).root !=dc w h)) _ _ =_;by_cases e:(o.aI (aY (dc w h))).root=dc w h
  ·rw[ae (by simpa using e),ax (gR _),aJ,aoU ⟨rfl,e⟩];rfl
  ·rw[ak (by simpa using e),aJ,aoV (λq=>e q.2)];rfl
theorem sC{S:Int->Prop}(q:OwR w o S)(h:Int):RN (lK w o h):=by
 unfold lK;split
 ·exact q.g _ (iO _)
 ·exact UP
def yZ(w:ai)(h aE:Int):Int:=if aM w.B h=false then 4 else if dc w h≠h then 12 else if aE<0\/8<=aE then 2 else 0
def sX(o:bM)(h:Int)(x:cF):bM:={o with aI:=dm o.aI (aY h) {root:=h,own:=x}}
theorem Ol(hn:40<=n)(r:gI t w)(tt:jV w){h aE:Int}(h0:0<=h)(h1:h<4294967296)(x:cF):jQ n o t h aE x=some (if yZ w h aE=0 then sX o h x else o,yZ w h aE):=by
 unfold jQ;rw[ah (nZ r.bj h0 h1)];cases hg:aM w.B h with
 |false=>
  have he:yZ w h aE=4:=by unfold yZ;rw[aoU hg]
  rw[he,aoV (by decide)];rfl
 |true=>
  have hn:¬aM w.B h=false:=by rw[hg];decide
  rw[ae (b:= !true) rfl,ah (Ew (by omega) r tt h0 h1)];by_cases hr:dc w h=h
  ·rw[ae (by simpa using hr)]
   by_cases ht:aE<0\/8<=aE
   ·have he:yZ w h aE=2:=by unfold yZ;rw[aoV hn,aoV (λq=>q hr),aoU ht]
    rw[ak (by simpa using ht),he,aoV (by decide)]
   ·have he:yZ w h aE=0:=by unfold yZ;rw[aoV hn,aoV (λq=>q hr),aoV ht]
    rw[ae (by rw[Bool.or_eq_false_iff,decide_eq_false_iff_not,decide_eq_false_iff_not];omega),he,aoU rfl,ah (qb h0 h1),aJ,ax (gR h),aJ];rfl
  ·have he:yZ w h aE=12:=by unfold yZ;rw[aoV hn,aoU hr]
   rw[ak (by simpa using hr),he,aoV (by decide)]
theorem ago{h aE:Int}(h0:0<=h)(e:yZ w h aE=0):aQ w.B h/\dc w h=h/\0<=aE/\aE<8:=by
 unfold yZ at e;split at e
 ·cases e
 ·rename_i h1
  split at e
  ·cases e
  ·rename_i h2
   split at e
   ·cases e
   ·rename_i h3
    exact⟨⟨h0,by simpa using h1⟩,Decidable.not_not.1 h2,by omega,by omega⟩
theorem OwR.say{S:Int->Prop}(q:OwR w o S){h:Int}(hh:aQ w.B h)(hS:S h){x:cF}(hx:RN x):OwR w (sX o h x) S:=by
 refine⟨λi hi=>?_,λi hi=>?_⟩
 ·unfold sX;dsimp only;rw[bI];split
  ·exact hx
  ·exact q.g i hi
 ·unfold sX;dsimp only;rw[bI];split
  ·exact .inr ⟨tP hh,hS⟩
  ·exact q.p i hi
theorem adx{h:Int}(hh:aQ w.B h)(hr:dc w h=h)(x:cF):lK w (sX o h x) h=x:=by unfold lK sX;rw[hr];simp only[pq];rw[aoU ⟨hh.2,trivial⟩]
theorem agF{v:Int}(h0:0<=v)(h1:v<=255):mY n v=some (wr .i64 (Lib.pop8 v)):=by unfold mY;rw[ax (bK h0 (by omega))]
def D5(k b:Int)(x:cF):Bool:=(((x.dx==3)&&decide (0<=k))&&decide (k<8))&&((lV .u8 x.dR (bif (((x.dx==3)&&decide (0<=k))&&decide (k<8))==true then b else default))!=0)
theorem YJ(hn:100<=n)(r:gI t w)(tt:jV w)(d:cF->Option Bool)(p:cF->Bool)(hd:∀x,d x=some (p x)):
  cH (λFT (eJ:(List Int)) (ew:Int)=>
 cn (decide (ew<((aX w.B 32).length:Int))) (
 gu (bQ ew (aX w.B 32).length)<|
 bd (jj n t ((aX w.B 32).getD (Int.toNat ew) default)) λrL=>
 cl ((rL==((aX w.B 32).getD (Int.toNat ew) default))==true) (jh n o t ((aX w.B 32).getD (Int.toNat ew) default)) default λlJ=>
 cl ((rL==((aX w.B 32).getD (Int.toNat ew) default))==true) (d lJ) default λgy=>
 cn (((rL==((aX w.B 32).getD (Int.toNat ew) default))&&gy)) (
 gu (gw eJ.length 1 4)<|
 lt (eJ++([((aX w.B 32).getD (Int.toNat ew) default)]):List Int) λoT=>
 FT oT (wr .i64 (ew+1))) (
 FT eJ (wr .i64 (ew+1)))) (
 some eJ)) n [] 0=some ((Gw w).filter λh=>(dc w h==h)&&p (lK w o h)):=by
 have hm:=bY r.bj;have hlen:=gZ w.B 32;have hGw:Gw w=aX w.B 32:=rfl;rw[hGw];generalize aX w.B 32=G at hm hlen ⊢;refine dU (λ(s:List Int) (i:Int)=>∃k:Nat,i=k/\k<=G.length/\s=(G.take k).filter λh=>(dc w h==h)&&p (lK w o h)) (λ_ i=>G.length-i.toNat) (λq=>q=some (G.filter λh=>(dc w h==h)&&p (lK w o h))) ?_ n [] 0 ⟨0,rfl,by omega,by simp⟩ (by omega);rintro kk s i ⟨k,rfl,hk,rfl⟩ ih;by_cases c:k<G.length
 ·have hx:=(hm _).1 (gP (l:=G) (i:=k) c)
  have ht:(G.take (k+1)).filter (λh=>(dc w h==h)&&p (lK w o h))=(G.take k).filter (λh=>(dc w h==h)&&p (lK w o h))++(if((dc w (G.getD k default)==G.getD k default)&&p (lK w o (G.getD k default)))=true then[G.getD k default]else[]):=by rw[ao4 c,List.filter_append, ← fq c];generalize G.getD k default=y;cases hy:((dc w y==y)&&p (lK w o y))<;>simp[hy]
  have PZ:((G.take k).filter (λh=>(dc w h==h)&&p (lK w o h))).length<=32:=Nat.le_trans (List.length_filter_le _ _) (by rw[List.length_take];omega);simp only[aoZ];generalize G.getD k default=y at hx ht ⊢;have hl:=gh hx.2;rw[ak (aoY (by omega)),ax (bK (by omega) (by omega)),ah (Ew (by omega) r tt hx.1 hl),aL (x:=(k:Int)+1) (by omega) (by omega)];cases hr:(dc w y==y)with
  |false=>rw[hr]at ht;rw[F9 (by rfl),F9 (by rfl),ae (by rfl)];exact ih _ _ ⟨k+1,by omega,by omega,by rw[ht];simp⟩ (by omega)
  |true=>
   rw[hr]at ht;refine(uj (by rfl) (Hp (by omega) r tt hx.1 hl)).trans ((uj (by rfl) (hd _)).trans ?_);cases hp:p (lK w o y)with
   |true=>rw[hp]at ht;rw[ak (by rfl),ax (eM (by omega) (by omega)),aJ];exact ih _ _ ⟨k+1,by omega,by omega,by rw[ht];simp⟩ (by omega)
   |false=>rw[hp]at ht;rw[ae (by rfl)];exact ih _ _ ⟨k+1,by omega,by omega,by rw[ht];simp⟩ (by omega)
 ·rw[ae (ao5 (by omega)),List.take_of_length_le (by omega)]
theorem Y7(hn:100<=n)(r:gI t w)(tt:jV w)(k:Int):pH n o t k=some ((Gw w).filter λh=>(dc w h==h)&&(((lK w o h).dx==1)&&((wr .i64 (lK w o h).gT)==k))):=by unfold pH iR;rw[ah (ais (by omega) r)];exact ah (YJ (o:=o) hn r tt (λx=>tJ n x k) (λx=>(x.dx==1)&&((wr .i64 x.gT)==k)) (λx=>rfl))
end
end Go.Proofs.Z
namespace Go.Proofs.Z
open Go Go.Bw
def AR(v:Int)(k:Nat):Bool:=v.toNat.testBit k
theorem VO{v:Int}(h:0<=v/\v<=255):∃u:Fin 256,v=(u.val:Int):=⟨⟨v.toNat,by omega⟩,by show v=(v.toNat:Int);omega⟩
theorem Qh{v:Int}(h:0<=v/\v<8):∃u:Fin 8,v=(u.val:Int):=⟨⟨v.toNat,by omega⟩,by show v=(v.toNat:Int);omega⟩
def Xw(p:Nat->Nat->Nat->Bool):Bool:=(List.range 256).all λv=>(List.range 8).all λa=>(List.range 8).all λb=>p v a b
theorem Pv{p:Nat->Nat->Nat->Bool}(h:Xw p=true)(v:Fin 256)(a b:Fin 8):p v.val a.val b.val=true:=by unfold Xw at h;simp only[List.all_eq_true,List.mem_range]at h;exact h _ v.2 _ a.2 _ b.2
def s6(a:Int):Int:=KI .u8 1 (lV .i64 a 7)
set_option maxRecDepth 100000 in
theorem aby:Xw (λv a _ =>((lV .u8 (v:Int) (s6 a)!=0)==v.testBit a))=true:=by kernel_rfl
set_option maxRecDepth 100000 in
theorem abA:Xw (λv a b=>if v=0 then(AR (s6 a) b==decide (b=a))else true)=true:=by kernel_rfl
set_option maxRecDepth 100000 in
theorem abw:Xw (λv a b=>(AR (Jg .u8 (v:Int) (s6 a)) b==(if b=a then !v.testBit b else v.testBit b)))=true:=by kernel_rfl
theorem ahF{v a:Int}(hv:0<=v/\v<=255)(ha:0<=a/\a<8):(lV .u8 v (s6 a)!=0)=AR v a.toNat:=by obtain⟨u,rfl⟩:=VO hv;obtain⟨c,rfl⟩:=Qh ha;have:=Pv aby u c c;simp only[beq_iff_eq]at this;rw[this];rfl
theorem aoo{a:Int}(ha:0<=a/\a<8){k:Nat}(hk:k<8):AR (s6 a) k=decide (k=a.toNat):=by obtain⟨c,rfl⟩:=Qh ha;have:=Pv abA 0 c ⟨k,hk⟩;simpa using this
theorem amO{v a:Int}(hv:0<=v/\v<=255)(ha:0<=a/\a<8){k:Nat}(hk:k<8):AR (Jg .u8 v (s6 a)) k=if k=a.toNat then !AR v k else AR v k:=by obtain⟨u,rfl⟩:=VO hv;obtain⟨c,rfl⟩:=Qh ha;have:=Pv abw u c ⟨k,hk⟩;simp only[beq_iff_eq]at this;exact this
theorem J7{n:Nat}(a:Int):zQ n a=some (s6 a):=by unfold zQ;rw[ax (aoY (T5 a).1)];rfl
theorem abB(a:Int):0<=s6 a/\s6 a<=255:=by unfold s6 KI;exact YD _
def tS(f:Nat->Bool):Nat->Int
 |0=>0
 |k+1=>if f k then tS f k+1 else tS f k
theorem abo(f:Nat->Bool)(k:Nat):0<=tS f k/\tS f k<=k:=by
 induction k with
 |zero=>exact⟨Int.le_refl _,Int.le_refl _⟩
 |succ k ih=>unfold tS;split<;>omega
theorem TP{f g:Nat->Bool}(k:Nat)(h:∀j,j<k->f j=g j):tS f k=tS g k:=by
 induction k with
 |zero=>rfl
 |succ k ih=>unfold tS;rw[h k (by omega),ih λj hj=>h j (by omega)]
def orS(f:Nat->Bool):Nat->Int
 |0=>0
 |k+1=>if f k then orI .u8 (orS f k) (KI .u8 1 (k:Int))else orS f k
set_option maxRecDepth 100000 in
theorem abz:(List.range 256).all (λv=>(wr .i64 (Lib.pop8 (v:Int))==tS (λk=>AR (v:Int) k) 8)&&(orS (λk=>AR (v:Int) k) 8==(v:Int)))=true:=by kernel_rfl
theorem adl{v:Int}(hv:0<=v/\v<=255):wr .i64 (Lib.pop8 v)=tS (AR v) 8:=by obtain⟨u,rfl⟩:=VO hv;have:=List.all_eq_true.1 abz u.val (List.mem_range.2 u.2);simp only[aoX,beq_iff_eq]at this;exact this.1
def acw:bS:={dx:=0,gT:=0,lH:=λ_ =>false}
def sY(v:aS)(h:Int):Nat:=v.cR.findIdx (· ==h)
def Hl(v:aS)(h:Int):bS:=if sY v h<v.cR.length then v.tA.getD (sY v h) default else acw
def AJ(v:aS)(h:Int)(x:bS):aS:=if sY v h<v.cR.length then{v with tA:=v.tA.set (sY v h) x}else{cR:=v.cR++[h],tA:=v.tA++[x]}
theorem O4{v:aS}{h:Int}(hl:sY v h<v.cR.length):v.cR.getD (sY v h) default=h:=by have:=List.findIdx_getElem (w:=hl);rw[fq hl];exact eq_of_beq this
theorem aat{v:aS}{h:Int}{k:Nat}(hl:k<sY v h)(hk:k<v.cR.length):v.cR.getD k default≠h:=by have:=List.not_of_lt_findIdx hl;rw[fq hk];simpa using this
theorem O3{v:aS}{h:Int}:sY v h<v.cR.length↔h∈v.cR:=by unfold sY;rw[List.findIdx_lt_length];simp
theorem at8{n:Nat}(hn:200<=n){v:aS}(hl:v.cR.length+90<=n/\v.cR.length<=100010)(h:Int):oH n v h=some (if sY v h<v.cR.length then(sY v h:Int)else -1):=by
 unfold oH;refine je (λ(i:Int)=>∃k:Nat,i=k/\k<=v.cR.length/\k<=sY v h) (λi=>((v.cR.length:Int)-i).toNat) (λo=>o=some (if sY v h<v.cR.length then(sY v h:Int)else -1)) ?_ n 0 ⟨0,rfl,by omega,by omega⟩ (by omega);rintro kk i ⟨k,rfl,hk,hi⟩ ih;by_cases c:k<v.cR.length
 ·rw[ak (aoY (by omega)),ax (bK (by omega) (by omega)),aoZ]
  by_cases e:v.cR.getD k default=h
  ·have:k=sY v h:=by
    by_cases q:k<sY v h
    ·exact absurd e (aat q c)
    ·omega
   rw[ak (by simpa using e),aoU (by omega),this]
  ·rw[ae (by simpa using e),aL (x:=(k:Int)+1) (by omega) (by omega)]
   have:k≠sY v h:=λq=>e (by rw[q];exact O4 (by omega));exact ih _ ⟨k+1,by omega,by omega,by omega⟩ (by omega)
 ·rw[ae (ao5 (by omega)),aoV (by omega)]
theorem Nk{v:aS}(hl:v.tA.length=v.cR.length)(h:Int)(x:bS)(g:Int):Hl (AJ v h x) g=if g=h then x else Hl v g:=by
 unfold AJ;by_cases c:sY v h<v.cR.length
 ·rw[aoU c]
  have e:sY {v with tA:=v.tA.set (sY v h) x} g=sY v g:=rfl;unfold Hl;rw[e];dsimp only;by_cases q:g=h
  ·subst q
   rw[aoU c,aoU rfl,fq (by rw[List.length_set];omega),List.getElem_set_self]
  ·rw[aoV q]
   by_cases d:sY v g<v.cR.length
   ·have hne:sY v h≠sY v g:=λe2=>q (by rw[← O4 d, ← e2,O4 c])
    rw[aoU d,aoU d,fq (by rw[List.length_set];omega),List.getElem_set_ne hne, ← fq]
   ·rw[aoV d,aoV d]
 ·rw[aoV c]
  have hno:h∉v.cR:=λq=>c (O3.2 q);unfold Hl sY;dsimp only;rw[List.findIdx_append];have hle:∀g,List.findIdx (λy=>y==g) v.cR<=v.cR.length:=λg=>List.findIdx_le_length;by_cases d:List.findIdx (λy=>y==g) v.cR<v.cR.length
  ·have:g∈v.cR:=O3.1 d
   have q:g≠h:=λe=>hno (e▸this);rw[aoU d,aoV q,aoU (by rw[List.length_append];omega),fq (by rw[List.length_append];omega),List.getElem_append_left (by omega),aoU d, ← fq]
  ·have hg:=hle g
   rw[aoV d,aoV d];by_cases q:g=h
   ·subst q
    rw[aoU rfl,aoU (by simp),fq (by simp[hl])];simp[hl]
   ·have q2:h≠g:=λe=>q e.symm
    rw[aoV q,aoV (by simp[q2];omega)]
theorem GR{v:aS}(hl:v.tA.length=v.cR.length)(h:Int)(x:bS):(AJ v h x).tA.length=(AJ v h x).cR.length/\(AJ v h x).cR.length<=v.cR.length+1/\∀y∈(AJ v h x).cR,y∈v.cR\/y=h:=by
 unfold AJ;split
 ·exact⟨by rw[List.length_set];exact hl,by dsimp only;omega,λy hy=> .inl hy⟩
 ·exact⟨by simp[hl],by simp,λy hy=>by simpa using hy⟩
theorem Un{n:Nat}(hn:200<=n){v:aS}(hl:v.tA.length=v.cR.length)(hr:v.cR.length+100<=n/\v.cR.length<=100000)(h:Int)(x:bS):kR n v h x=some (AJ v h x):=by
 unfold kR AJ;rw[ax (eM (by simp;omega) (by simp;omega)),aJ,ax (eM (by simp;omega) (by simp;omega)),aJ,aJ,ah (at8 hn (by omega) h)];simp only[List.nil_append];by_cases c:sY v h<v.cR.length
 ·rw[aoU c,aoU c,ae (ao5 (by omega)),ax (bK (by omega) (by omega)),aJ,aJ,aoZ]
 ·rw[aoV c,aoV c,ak (by decide),ax (eM (by omega) (by omega)),aJ,aJ,ax (eM (by omega) (by omega)),aJ,aJ,aJ]
end Go.Proofs.Z
namespace Go.Proofs.Z
open Go Go.Bw
structure ROo(x:cF)(y:bS):Prop where
 k:x.dx=y.dx
 t:x.gT=y.gT
 h:∀j,j<8->y.lH j=AR x.dR j
theorem acL(j:Nat):AR 0 j=false:=by unfold AR;simp
theorem Y9:ROo K3 acw:=⟨rfl,rfl,λj _ =>(acL j).symm⟩
def Js(o:bM)(h:Int):cF:=if(o.aI (aY h)).root=h then(o.aI (aY h)).own else K3
structure DK(w:ai)(o:bM)(v:aS):Prop where
 q:OwR w o (λ_ =>True)
 l:v.tA.length=v.cR.length
 pv:∀x∈v.cR,sB w.B x
 rel:∀h,aQ w.B h->ROo (Js o h) (Hl v h)
structure Mv(w w':ai):Prop where
 p:∀x,sB w.B x->sB w'.B x
 g:∀x,aQ w'.B x->aQ w.B x\/¬sB w.B x
def D1(w:ai)(v:aS)(h:Int):bS:=if aM w.B h=true then Hl v (dc w h)else acw
theorem DK.mv{w w':ai}{o:bM}{v:aS}(p:DK w o v)(m:Mv w w'):DK w' o v:=by
 refine⟨⟨p.q.g,λi hi=>(p.q.p i hi).imp _root_.id λh=>⟨m.p _ h.1,trivial⟩⟩,p.l,λx hx=>m.p _ (p.pv x hx),λh hh=>?_⟩;rcases m.g h hh with a|a
 ·exact p.rel h a
 ·have h1:Js o h=K3:=by
   unfold Js;rw[aoV];intro e;rcases p.q.p (aY h) (iO _)with b|b
   ·rw[e]at b;have:=oJ hh;omega
   ·rw[e]at b;exact a b.1
  have h2:Hl v h=acw:=by unfold Hl;rw[aoV (λc=>a (p.pv h (O3.1 c)))]
  rw[h1,h2];exact Y9
theorem DK.say{w:ai}{o:bM}{v v':aS}(p:DK w o v){h:Int}(hh:aQ w.B h){x:cF}(hx:RN x)(hl:v'.tA.length=v'.cR.length)(hpv:∀z∈v'.cR,z∈v.cR\/z=h)(hv:ROo x (Hl v' h))(hne:∀g,g≠h->Hl v' g=Hl v g):DK w (sX o h x) v':=by
 refine⟨p.q.say hh trivial hx,hl,λz hz=>(hpv z hz).elim (p.pv z) (λe=>e▸tP hh),λg hg=>?_⟩;by_cases e:g=h
 ·subst e
  have hs:(sX o g x).aI (aY g)={root:=g,own:=x}:=pq _ _ _;have:Js (sX o g x) g=x:=by unfold Js;simp[hs]
  rw[this];exact hv
 ·have hs:aY g≠aY h:=λq=>e (z6 hg hh q)
  have Q5:(sX o h x).aI (aY g)=o.aI (aY g):=by unfold sX;dsimp only;rw[bI,aoV hs]
  have:Js (sX o h x) g=Js o g:=by unfold Js;simp only[Q5]
  rw[this,hne g e];exact p.rel g hg
theorem DK.with {w:ai}{o:bM}{v:aS}(p:DK w o v){h:Int}(hh:aQ w.B h){x:cF}{y:bS}(hx:RN x)(hv:ROo x y):DK w (sX o h x) (AJ v h y):=by obtain⟨a,_,c⟩:=GR p.l h y;exact p.say hh hx a c (by rw[Nk p.l,aoU rfl];exact hv) (λg e=>by rw[Nk p.l,aoV e])
section
variable {n:Nat} {t:au} {w:ai} {o:bM} {v:aS}
theorem Hi(hn:200<=n)(r:gI t w)(tt:jV w)(hl:v.tA.length=v.cR.length)(hr:v.cR.length+100<=n/\v.cR.length<=100000){h:Int}(h0:0<=h):iK n v w h=some (D1 w v h):=by
 unfold iK D1 Hl;rw[ah (BT hn r tt h0),ah (at8 hn (by omega) _),cK (cj (by omega) r h0)];by_cases c:sY v (dc w h)<v.cR.length
 ·simp only[aoU c]
  have e:decide (((sY v (dc w h):Nat):Int)<0)=false:=ao5 (by omega);rw[e];cases hg:aM w.B h with
  |false=>rw[ak (by rfl),aJ,aoV (by decide)];rfl
  |true=>rw[ae (by rfl),ax (bK (by omega) (by omega)),aJ,aoZ,aoU rfl]
 ·simp only[aoV c]
  rw[ak (by rfl),aJ];split<;>rfl
theorem zI(r:gI t w)(tt:jV w)(p:DK w o v){h:Int}(h0:0<=h):ROo (lK w o h) (D1 w v h):=by
 unfold D1;by_cases hg:aM w.B h=true
 ·obtain⟨g,_⟩:=Nd r tt ⟨h0,hg⟩
  have:=p.rel _ g;rw[aoU hg];have e:lK w o h=Js o (dc w h):=by
   unfold lK Js;by_cases e:(o.aI (aY (dc w h))).root=dc w h
   ·rw[aoU ⟨hg,e⟩,aoU e]
   ·rw[aoV (λq=>e q.2),aoV e]
  rw[e];exact this
 ·rw[aoV hg]
  unfold lK;rw[aoV (λq=>hg q.1)];exact Y9
def pD(w:ai)(h:Int):Int:=if aM w.B h=false then 4 else if dc w h≠h then 12 else 0
theorem Ux(h aE:Int):yZ w h aE=if pD w h=0 then(if aE<0\/8<=aE then 2 else 0)else pD w h:=by
 unfold yZ pD;cases aM w.B h with
 |false=>rfl
 |true=>
  by_cases e:dc w h=h
  ·simp[e]
  ·simp[e]
theorem afc(hn:200<=n)(r:gI t w)(tt:jV w){h:Int}(h0:0<=h):xh n w h=some (pD w h):=by
 unfold xh pD;rw[ah (cj (by omega) r h0)];cases aM w.B h with
 |false=>rw[ak (by rfl),aoU rfl]
 |true=>
  rw[ae (by rfl),ah (BT hn r tt h0),aoV (by decide)];by_cases e:dc w h=h
  ·rw[ae (by simpa using e),aoV (λq=>q e)]
  ·rw[ak (by simpa using e),aoU e]
theorem Ot{h:Int}(h0:0<=h)(e:pD w h=0):aQ w.B h/\dc w h=h:=by
 unfold pD at e;split at e
 ·cases e
 ·rename_i h1
  split at e
  ·cases e
  ·rename_i h2
   exact⟨⟨h0,by simpa using h1⟩,Decidable.not_not.1 h2⟩
def yK(kind aE:Int):bS:=if kind=1 then{dx:=1,gT:=aE,lH:=λ_ =>false}else if kind=3 then{dx:=3,gT:=0,lH:=dm (λ_ =>false) aE.toNat true}else{dx:=kind,gT:=0,lH:=λ_ =>false}
theorem ac8(hn:200<=n)(r:gI t w)(tt:jV w)(hl:v.tA.length=v.cR.length)(hr:v.cR.length+100<=n/\v.cR.length<=100000){h aE kind tk:Int}(h0:0<=h)(hk:kind=1\/kind=2\/kind=3)(IW:tk=if kind=2 then 0 else aE):
  dI n v w h aE kind=some (if yZ w h tk=0 then AJ v h (yK kind aE)else v,yZ w h tk):=by
 unfold dI;rw[ah (afc hn r tt h0),aJ,Ux];by_cases e0:pD w h=0
 ·rw[e0,aoU rfl]
  by_cases bad:tk<0\/8<=tk
  ·have XP:kind≠2:=λq=>by rw[aoU q]at IW;omega
   rw[aoV XP]at IW;subst IW;rw[aoU bad,aoV (by decide),ak (by simp;exact⟨XP,by omega⟩)];exact ak (by rfl)
  ·rw[aoV bad,aoU rfl,ae (by
    by_cases XP:kind=2
    ·rw[XP];rfl
    ·rw[aoV XP]at IW
     subst IW;have:(decide (tk<0)||decide (7<tk))=false:=by rw[Bool.or_eq_false_iff,decide_eq_false_iff_not,decide_eq_false_iff_not];omega
     rw[this,Bool.and_false])]
   refine(ae (by rfl)).trans ?_;rw[aJ,aJ];rcases hk with rfl|rfl|rfl
   ·refine(ak (by rfl)).trans ?_
    rw[aJ];dsimp only;rw[aJ];refine(ae (by rfl)).trans (ah (Un hn hl hr h _))
   ·refine(ae (by rfl)).trans ?_
    dsimp only;rw[aJ];refine(ae (by rfl)).trans (ah (Un hn hl hr h _))
   ·rw[aoV (by decide)]at IW
    subst IW;refine(ae (by rfl)).trans ?_;dsimp only;rw[aJ];refine(ak (by rfl)).trans ?_;rw[ax (bK (by omega) (by omega)),aJ];exact ah (Un hn hl hr h _)
 ·rw[aoV e0,aoV e0,ae (by simp[e0])]
  exact ak (by simpa using e0)
theorem aj0(hn:200<=n)(r:gI t w)(tt:jV w)(p:DK w o v)(hr:v.cR.length+100<=n/\v.cR.length<=100000){h aE kind tk:Int}(h0:0<=h)(h1:h<4294967296)(hk:kind=1\/kind=2\/kind=3)(IW:tk=if kind=2 then 0 else aE){x:cF}(hx:0<=tk/\tk<8->RN x/\ROo x (yK kind aE)):
  ∃o' v' e,jQ n o t h tk x=some (o',e)/\dI n v w h aE kind=some (v',e)/\DK w o' v'/\v'.cR.length<=v.cR.length+1:=by
 refine⟨_,_,_,Ol (by omega) r tt h0 h1 x,ac8 hn r tt p.l hr h0 hk IW,?_⟩;by_cases e:yZ w h tk=0
 ·obtain⟨s1,s2,s3⟩:=ago h0 e
  rw[aoU e,aoU e];exact⟨p.with s1 (hx s3).1 (hx s3).2,(GR p.l h _).2.1⟩
 ·rw[aoV e,aoV e];exact⟨p,by omega⟩
theorem aii{ρ:Type}(f:Nat->Bool)(C:Int->Option ρ)(hn:20<=n):cH (λk41 (kX:Int) (qn:Int)=>cn (decide (qn<8)) (gu (bQ qn 8)<|cn (f (Int.toNat qn)) (k41 (wr .i64 (kX+1)) (wr .i64 (qn+1))) (k41 kX (wr .i64 (qn+1)))) (C kX)) n 0 0=C (tS f 8):=by
 refine dU (λ(c i:Int)=>∃k:Nat,i=k/\k<=8/\c=tS f k) (λ_ i=>(8-i).toNat) (λq=>q=C (tS f 8)) ?_ n 0 0 ⟨0,rfl,by omega,rfl⟩ (by omega);rintro kk c i ⟨k,rfl,hk,rfl⟩ ih;by_cases q:k<8
 ·have hc:=abo f k
  have hs:tS f (k+1)=if f k then tS f k+1 else tS f k:=rfl
  rw[ak (aoY (by omega)),ax (bK (by omega) (by omega)),aoZ,aL (x:=(k:Int)+1) (by omega) (by omega)];cases hf:f k with
  |true=>rw[ak rfl];rw[hf]at hs;exact ih _ _ ⟨k+1,by omega,by omega,by rw[hs,aL (by omega) (by omega)];rfl⟩ (by omega)
  |false=>rw[ae rfl];rw[hf]at hs;exact ih _ _ ⟨k+1,by omega,by omega,by rw[hs];rfl⟩ (by omega)
 ·rw[ae (ao5 (by omega))]
  have:k=8:=by omega
  subst this;rfl
end
end Go.Proofs.Z
namespace Go.Proofs.Z
open Go Go.Bw
theorem aom:tS (AR 0) 8=0:=by simp[tS,acL]
def mB(re:Int)(y:bS)(aE:Int)(hold:Bool):Int:=if re≠0 then re else if y.dx≠3 then 12 else if aE<0\/8<=aE then 2 else if y.lH aE.toNat=hold then(if hold=true then 7 else 5)else 0
theorem O6{re:Int}{y:bS}{aE:Int}{hold:Bool}(h:mB re y aE hold=0):re=0/\y.dx=3/\(0<=aE/\aE<8)/\y.lH aE.toNat= !hold:=by
 unfold mB at h;split at h
 ·contradiction
 ·rename_i h1
  split at h
  ·cases h
  ·rename_i h2
   split at h
   ·cases h
   ·rename_i h3
    split at h
    ·split at h<;>cases h
    ·rename_i h4
     refine⟨Decidable.not_not.1 h1,Decidable.not_not.1 h2,by omega,?_⟩;cases hold<;>simpa using h4
section
variable {n:Nat} {t:au} {w:ai} {o:bM} {v:aS}
theorem Qs(hn:200<=n)(r:gI t w)(tt:jV w)(hl:v.tA.length=v.cR.length)(hr:v.cR.length+100<=n/\v.cR.length<=100000){h aE:Int}(h0:0<=h)(hold:Bool):
  jf n v w h aE hold=some (if mB (pD w h) (D1 w v h) aE hold=0 then(AJ v h {D1 w v h with lH:=dm (D1 w v h).lH aE.toNat hold},tS (dm (D1 w v h).lH aE.toNat hold) 8,0)else(v,0,mB (pD w h) (D1 w v h) aE hold)):=by
 unfold jf;rw[ah (afc hn r tt h0),ah (Hi hn r tt hl hr h0)];generalize D1 w v h=y;rw[aJ];by_cases e0:pD w h=0
 ·rw[e0]
  by_cases k3:y.dx=3
  ·refine(ae (by simp[k3])).trans ?_
   dsimp only;rw[aJ];by_cases bad:aE<0\/8<=aE
   ·have he:mB 0 y aE hold=2:=by simp[mB,k3,bad]
    refine(ak (by simp;omega)).trans ?_;dsimp only;rw[aJ,he];refine(ax (by rfl)).trans ?_;refine(ae (by rfl)).trans ?_;exact ak (by rfl)
   ·refine(ae (by simp;omega)).trans ?_
    dsimp only;rw[aJ];have hi:bQ aE 8=true:=bK (by omega) (by omega);refine(ax (by rw[hi];rfl)).trans ?_;by_cases hh:y.lH aE.toNat=hold
    ·have he:mB 0 y aE hold=if hold=true then 7 else 5:=by simp[mB,k3,bad,hh]
     refine(ak (by simp[hh])).trans ?_;rw[he];cases hold with
     |true=>exact(ak rfl).trans (ak (by rfl))
     |false=>exact(ae rfl).trans (ak (by rfl))
    ·have he:mB 0 y aE hold=0:=by simp[mB,k3,bad,hh]
     refine(ae (by simp[hh])).trans ?_;dsimp only;rw[he,aoU rfl];refine(ae (by rfl)).trans ?_;rw[ax hi,aJ];refine(aii (dm y.lH aE.toNat hold) _ (by omega)).trans ?_;exact ah (Un hn hl hr h _)
  ·have he:mB 0 y aE hold=12:=by simp[mB,k3]
   refine(ak (by simp[k3])).trans ?_;dsimp only;rw[aJ,he];refine(ae (by rfl)).trans ?_;dsimp only;rw[aJ];refine(ax (by rfl)).trans ?_;refine(ae (by rfl)).trans ?_;exact ak (by rfl)
 ·have he:mB (pD w h) y aE hold=pD w h:=by simp[mB,e0]
  rw[he,aoV e0];refine(ae (by simp[e0])).trans ?_;dsimp only;rw[aJ];refine(ae (by simp[e0])).trans ?_;dsimp only;rw[aJ];refine(ax (by simp[e0])).trans ?_;refine(ae (by simp[e0])).trans ?_;exact ak (by simpa using e0)
theorem QA(hn:200<=n)(r:gI t w)(tt:jV w)(p:DK w o v){h aE:Int}(h0:0<=h)(h1:h<4294967296)(hold:Bool):
  jR n o t h aE hold=some (if mB (pD w h) (D1 w v h) aE hold=0 then(sX (sX o h (lK w o h)) h {lK w o h with dR:=Jg .u8 (lK w o h).dR (s6 aE)},Jg .u8 (lK w o h).dR (s6 aE),0)else(o,0,mB (pD w h) (D1 w v h) aE hold)):=by
 have hx:=sC p.q h;have IY:=zI r tt p h0;unfold jR;rw[ah (Hp (by omega) r tt h0 h1),ah (Ol (by omega) r tt h0 h1 _),ah (J7 aE)];dsimp only;generalize lK w o h=x at hx IY;generalize D1 w v h=y at IY;rw[cK (nZ r.bj h0 h1),cK (Ew (by omega) r tt h0 h1)];have hse:=Ux (w:=w) h aE;by_cases e0:pD w h=0
 ·obtain⟨s1,s2⟩:=Ot h0 e0
  rw[aoU e0]at hse;have h4:(yZ w h aE==4)=false:=by rw[hse];split<;>rfl
  rw[h4,e0];refine(ae (by rw[s1.2,s2];simp)).trans ?_;by_cases k3:x.dx=3
  ·have k3':y.dx=3:=IY.k▸k3
   rw[ae (by simpa using k3)];by_cases bad:aE<0\/8<=aE
   ·have he:mB 0 y aE hold=2:=by simp[mB,k3',bad]
    rw[aoU bad]at hse;rw[he,hse];exact ak (by rfl)
   ·rw[aoV bad]at hse
    have ht:0<=aE/\aE<8:=by omega
    have hy:=IY.h aE.toNat (by omega);rw[hse,ae (by rfl),ahF hx.hr ht, ← hy,aoU rfl];by_cases hh:y.lH aE.toNat=hold
    ·have he:mB 0 y aE hold=if hold=true then 7 else 5:=by simp[mB,k3',bad,hh]
     rw[he,hh];cases hold with
     |true=>exact ak (by rfl)
     |false=>exact(ae (by rfl)).trans (ak (by rfl))
    ·have he:mB 0 y aE hold=0:=by simp[mB,k3',bad,hh]
     have hb:y.lH aE.toNat= !hold:=(O6 he).2.2.2;rw[he,hb,aoU rfl];refine(ae (by cases hold<;>rfl)).trans ((ae (by cases hold<;>rfl)).trans ?_);rw[ah (J7 aE),aJ,ah (Ol (by omega) r tt h0 h1 _),hse,aoU rfl]
  ·have k3':y.dx≠3:=IY.k▸k3
   have he:mB 0 y aE hold=12:=by simp[mB,k3']
   rw[ak (by simpa using k3),he];rfl
 ·have he:mB (pD w h) y aE hold=pD w h:=by simp[mB,e0]
  rw[aoV e0]at hse;rw[he,aoV e0,hse];refine ak ?_;unfold pD at e0 ⊢;cases hg:aM w.B h with
  |false=>rfl
  |true=>
   rw[hg]at e0;by_cases e:dc w h=h
   ·exact absurd (by simp[e]) e0
   ·simp[e]
theorem alf(hn:200<=n)(r:gI t w)(tt:jV w)(p:DK w o v)(hr:v.cR.length+100<=n/\v.cR.length<=100000){h aE:Int}(h0:0<=h)(h1:h<4294967296)(hold:Bool):
  ∃o' m v' e,jR n o t h aE hold=some (o',m,e)/\jf n v w h aE hold=some (v',tS (AR m) 8,e)/\(0<=m/\m<=255)/\DK w o' v'/\v'.cR.length<=v.cR.length+1:=by
 have hx:=sC p.q h;have IY:=zI r tt p h0;have e1:=QA hn r tt p h0 h1 (aE:=aE) hold;have e2:=Qs hn r tt p.l hr h0 (aE:=aE) hold;by_cases e:mB (pD w h) (D1 w v h) aE hold=0
 ·rw[aoU e]at e1 e2
  obtain⟨a,b,c,d⟩:=O6 e;obtain⟨s1,s2⟩:=Ot h0 a;have hu:0<=Jg .u8 (lK w o h).dR (s6 aE)/\Jg .u8 (lK w o h).dR (s6 aE)<=255:=by unfold Jg;exact YD _
  have hv:D1 w v h=Hl v h:=by unfold D1;rw[aoU s1.2,s2]
  have hb:∀j,j<8->dm (D1 w v h).lH aE.toNat hold j=AR (Jg .u8 (lK w o h).dR (s6 aE)) j:=λj hj=>by
   rw[amO hx.hr c hj,bI];by_cases q:j=aE.toNat
   ·rw[aoU q,aoU q, ← IY.h j hj,q,d,Bool.not_not]
   ·rw[aoV q,aoV q, ← IY.h j hj]
  rw[TP 8 hb]at e2;refine⟨_,_,_,_,e1,e2,hu,?_,(GR p.l h _).2.1⟩;have p1:DK w (sX o h (lK w o h)) v:=p.say s1 hx p.l (λz hz=> .inl hz) (hv▸IY) (λg _ =>rfl);exact p1.with s1 ⟨hx.k,λq=>absurd (IY.k.trans b) q,hx.t,hu,hx.tr⟩ ⟨IY.k,IY.t,hb⟩
 ·rw[aoV e]at e1 e2
  exact⟨_,_,_,_,e1,by rw[aom];exact e2,by decide,p,by omega⟩
end
end Go.Proofs.Z
namespace Go.Proofs.Z
open Go Go.Bw
section
variable {n:Nat} {t:au} {w:ai} {o:bM} {v:aS}
def pV(aE:Int)(holds:Bool)(y:bS):Bool:=((!holds)&&((y.dx==1)&&(y.gT==aE)))||(holds&&((((y.dx==3)&&decide (0<=aE))&&decide (aE<8))&&(y.lH (Int.toNat (lV .i64 aE 7)))))
theorem YK(hn:200<=n)(r:gI t w)(tt:jV w)(p:DK w o v)(hr:v.cR.length+100<=n/\v.cR.length<=100000)(aE:Int)(holds:Bool):
  jB n v w aE holds=some ((Gw w).filter λh=>(dc w h==h)&&pV aE holds (D1 w v h)):=by
 have hm:=bY r.bj;have hlen:=gZ w.B 32;have hGw:Gw w=aX w.B 32:=rfl;unfold jB;rw[ah (UJ (by omega) r),hGw];generalize aX w.B 32=G at hm hlen ⊢;refine dU (λ(s:List Int) (i:Int)=>∃k:Nat,i=k/\k<=G.length/\s=(G.take k).filter λh=>(dc w h==h)&&pV aE holds (D1 w v h)) (λ_ i=>G.length-i.toNat) (λq=>q=some (G.filter λh=>(dc w h==h)&&pV aE holds (D1 w v h))) ?_ n [] 0 ⟨0,rfl,by omega,by simp⟩ (by omega);rintro kk s i ⟨k,rfl,hk,rfl⟩ ih;by_cases c:k<G.length
 ·have hx:=(hm _).1 (gP (l:=G) (i:=k) c)
  have ht:(G.take (k+1)).filter (λh=>(dc w h==h)&&pV aE holds (D1 w v h))=(G.take k).filter (λh=>(dc w h==h)&&pV aE holds (D1 w v h))++(if((dc w (G.getD k default)==G.getD k default)&&pV aE holds (D1 w v (G.getD k default)))=true then[G.getD k default]else[]):=by rw[ao4 c,List.filter_append, ← fq c];generalize G.getD k default=y;cases hy:((dc w y==y)&&pV aE holds (D1 w v y))<;>simp[hy]
  have PZ:((G.take k).filter (λh=>(dc w h==h)&&pV aE holds (D1 w v h))).length<=32:=Nat.le_trans (List.length_filter_le _ _) (by rw[List.length_take];omega);have g1:bQ (k:Int) G.length=true:=bK (by omega) (by omega);simp only[aoZ];generalize G.getD k default=y at hx ht ⊢;have a7:=T5 aE;have g2:bQ (lV .i64 aE 7) 8=true:=bK a7.1 (by omega);rw[ak (aoY (by omega)),ax g1,ah (Hi hn r tt p.l hr hx.1),ax (by rw[g2];simp),ax g1,ah (BT hn r tt hx.1),ax g1,aL (x:=(k:Int)+1) (by omega) (by omega)];cases hp:((dc w y==y)&&pV aE holds (D1 w v y))with
  |true=>rw[hp]at ht;refine(ak hp).trans ?_;rw[ax g1,ax (eM (by omega) (by omega)),aJ];exact ih _ _ ⟨k+1,by omega,by omega,by rw[ht];simp⟩ (by omega)
  |false=>rw[hp]at ht;refine(ae hp).trans ?_;exact ih _ _ ⟨k+1,by omega,by omega,by rw[ht];simp⟩ (by omega)
 ·rw[ae (ao5 (by omega)),List.take_of_length_le (by omega)]
theorem ahx(hn:100<=n)(r:gI t w)(tt:jV w)(k:Int):qE n o t k=some ((Gw w).filter λh=>(dc w h==h)&&D5 k (s6 k) (lK w o h)):=by unfold qE jq;rw[ah (ais (by omega) r)];exact ah (YJ (o:=o) hn r tt (λx=>qT n x k) (D5 k (s6 k)) (λx=>by unfold qT D5;rw[cK (J7 k)]))
theorem LL{k:Int}(h:0<=k/\k<8):lV .i64 k 7=k:=by obtain⟨c,rfl⟩:=Qh h;revert c;decide
theorem agr(r:gI t w)(tt:jV w)(p:DK w o v)(k:Int):((Gw w).filter λh=>(dc w h==h)&&pV k false (D1 w v h))=(Gw w).filter λh=>(dc w h==h)&&(((lK w o h).dx==1)&&((wr .i64 (lK w o h).gT)==k)):=by refine List.filter_congr λh hh=>?_;have hx:=(bY r.bj _).1 hh;have IY:=zI r tt p hx.1;have hg:=(sC p.q h).tr;unfold pV;rw[IY.k,IY.t,aL (x:=(D1 w v h).gT) (by rw[← IY.t];omega) (by rw[← IY.t];omega)];simp
theorem ahy(r:gI t w)(tt:jV w)(p:DK w o v)(k:Int):((Gw w).filter λh=>(dc w h==h)&&pV k true (D1 w v h))=(Gw w).filter λh=>(dc w h==h)&&D5 k (s6 k) (lK w o h):=by
 refine List.filter_congr λh hh=>?_;have hx:=(bY r.bj _).1 hh;have IY:=zI r tt p hx.1;have hg:=(sC p.q h).hr;unfold pV D5;rw[← IY.k];by_cases hc:((((lK w o h).dx==3)&&decide (0<=k))&&decide (k<8))=true
 ·have hk:0<=k/\k<8:=by simp at hc;omega
  rw[hc,show(bif (true==true)then s6 k else default)=s6 k from rfl,ahF hg hk,LL hk,IY.h k.toNat (by omega)];simp
 ·have hc:((((lK w o h).dx==3)&&decide (0<=k))&&decide (k<8))=false:=by simpa using hc
  rw[hc];simp
end
theorem ZF:DK gG pQ iq:=by
 refine⟨⟨λi _ =>UP,λi _ => .inl rfl⟩,rfl,λx h=>(by cases h),λh _ =>?_⟩;have:Js pQ h=K3:=by unfold Js;split<;>rfl
 rw[this];exact Y9
end Go.Proofs.Z
namespace Go.Proofs.Z
open Go Go.Bw Go.Rw Go.RowKit
noncomputable section
def qR(n:Nat)(a0:jA)(a1:Int)(a2:Int):Option Bool:=cn ((a2==0)) (bd (eG n a0.K a1 0) λbg=>some bg) (cn ((a2==1)) (bd (eu n a0.K a1 0) λbV=>some bV) (bd (gX n a0.T a1) λfX=>fK (λNt (dZ:Int)=>cn (decide (dZ<(fX.length:Int))) (gu (bQ dZ fX.length)<|bd (dA n a0.K (fX.getD (Int.toNat dZ) default) (-1)) λjN=>cn (decide (0<(jN.length:Int))) (some false) (Nt (wr .i64 (dZ+1)))) (some (a2==2))) n 0))
def Fc(n:Nat):CT:=cV (tW n [(15, .loop [(.slot 8,(.v (.int .i64)))])] [pc n,oP n,qA n,mM n]) (gN 79 [.s 26, .i, .i] [.b]) (a3 (qR n)) u1 m1
def eF(n:Nat)(a0:jA)(a1:Int)(a2:Int)(a3:Int):Option Int:=bd (bH n a0.T a2) λgH=>cn ((!gH)) (some 4) (bd (iK n a0.O a0.T a2) λgj=>gu (!(((((gj.dx==3)&&(a3==0))&&decide (0<=a1))&&decide (a1<8))==true)||bQ (lV .i64 a1 7) 8)<|cn ((((((gj.dx==3)&&(a3==0))&&decide (0<=a1))&&decide (a1<8))&&(gj.lH (Int.toNat (lV .i64 a1 7))))) (some 0) (cn ((gj.dx !=1)) (some 5) (cl ((gj.gT==a1)==true) (qR n a0 a2 a3) default λdZ=>cn (((gj.gT==a1)&&dZ)) (some 0) (bd (dA n a0.K a2 (-1)) λeJ=>fK (λk39 (nt:Int)=>cn (decide (nt<(eJ.length:Int))) (gu (bQ nt eJ.length)<|bd (iC n a0.K (eJ.getD (Int.toNat nt) default)) λgy=>gu (!(((gy.1.To==a1)==true)&&((a3==0)==true))||bQ nt eJ.length)<|cl (((gy.1.To==a1)==true)&&((a3==0)==true)) (eG n a0.K a2 (eJ.getD (Int.toNat nt) default)) default λoT=>gu (!((((gy.1.To==a1)==true)&&(((a3==0)&&oT)==false))&&(((a3==1)&&gy.1.bF)==true))||bQ nt eJ.length)<|cl ((((gy.1.To==a1)==true)&&(((a3==0)&&oT)==false))&&(((a3==1)&&gy.1.bF)==true)) (eu n a0.K a2 (eJ.getD (Int.toNat nt) default)) default λmy=>cn (((gy.1.To==a1)&&(((a3==0)&&oT)||(((a3==1)&&gy.1.bF)&&my)))) (some 0) (k39 (wr .i64 (nt+1)))) (some 5)) n 0))))
def oB(n:Nat):CT:=cV (tW n [(25, .loop [(.slot 11,(.v (.int .i64)))])] [cq n,mG n,Fc n,mM n,wM n,pc n,oP n]) (gN 50 [.s 26, .i, .i, .i] [.i]) (a4 (eF n)) u1 m1
def ox(n:Nat)(a0:dg)(a1:Int):Option Bool:=bd (lX n a0.K a1 0) λbg=>some bg
def BK(n:Nat):CT:=cV (tW n [] [ur n]) ⟨223,[(58, .v (.st 14)),(24, .v (.int .u32))], .cons (.cQ 0) (.cons (.cQ 1) .nil), .cons (.v .bool) .nil,[], .nil,[],[]⟩ (λx=>ox n x.1 x.2.1) u1 m1
def ow(n:Nat)(a0:dg)(a1:Int):Option Bool:=bd (kZ n a0.K a1 0) λbg=>some bg
def BJ(n:Nat):CT:=cV (tW n [] [ta n]) ⟨225,[(58, .v (.st 14)),(24, .v (.int .u32))], .cons (.cQ 0) (.cons (.cQ 1) .nil), .cons (.v .bool) .nil,[], .nil,[],[]⟩ (λx=>ow n x.1 x.2.1) u1 m1
def nh(n:Nat)(a0:Int)(a1:dg):Option Bool:=bd (kO n a1.K a0) λbg=>some (decide (0<(bg.length:Int)))
def zF(n:Nat):CT:=cV (tW n [] [rR n]) ⟨229,[(58, .v (.st 14))], .cons (.v (.int .u32)) (.cons (.cQ 0) .nil), .cons (.v .bool) .nil,[], .nil,[],[]⟩ (λx=>nh n x.2.1 x.1) u1 m1
def fA(n:Nat)(a0:(List Int))(mE:dg):Option Int:=fK (λzX (bV:Int)=>cn (decide (bV<(a0.length:Int))) (gu (bQ bV a0.length)<|bd (nh n (a0.getD (Int.toNat bV) default) mE) λeP=>cn (eP) (some bV) (zX (wr .i64 (bV+1)))) (some (-1))) n 0
def nC(n:Nat):CT:=cV (tW n [(5, .loop [(.slot 8,(.v (.int .i64)))])] [zF n]) ⟨246,[(58, .v (.st 14))], .cons (.v (.sl (.int .u32))) (.cons (.fn (.func 229) .nil (.cons (.cQ 0) .nil)) .nil), .cons (.v (.int .i64)) .nil,[], .nil,[],[]⟩ (λx=>fA n x.2.1 x.1) u1 m1
def eE(n:Nat)(a0:(List Int))(mE:dg):Option Bool:=bd (fA n a0 mE) λbg=>some (decide (0<=bg))
def mD(n:Nat):CT:=cV (tW n [] [nC n]) ⟨228,[(58, .v (.st 14))], .cons (.v (.sl (.int .u32))) (.cons (.fn (.func 229) .nil (.cons (.cQ 0) .nil)) .nil), .cons (.v .bool) .nil,[], .nil,[],[]⟩ (λx=>eE n x.2.1 x.1) u1 m1
def mm(n:Nat)(a0:dg)(a1:Int):Option Bool:=bd (qh n a0.T a1) λgH=>bd (eE n gH a0) λdZ=>some (!dZ)
def BI(n:Nat):CT:=cV (tW n [] [wW n,mD n]) ⟨227,[(58, .v (.st 14)),(24, .v (.int .u32))], .cons (.cQ 0) (.cons (.cQ 1) .nil), .cons (.v .bool) .nil,[], .nil,[],[]⟩ (λx=>mm n x.1 x.2.1) u1 m1
def lW(n:Nat)(a0:dg)(a1:Int)(a2:Int):Option Bool:=cn (a2==0) (cl (true==true) (ox n a0 a1) default λeJ=>some (true&&eJ)) (cn (a2==1) (cl (true==true) (ow n a0 a1) default λeJ=>some (true&&eJ)) (cn (a2==2) (cl (true==true) (mm n a0 a1) default λeJ=>some (true&&eJ)) (some false)))
namespace H
theorem SW{J:World->Prop}{T0 T1 q0 q1 r:Nat}{vX:List Value}{a0:dg}{a1:Int}{o:Ob sg}(f0:iu.eZ J vX a0)(e:ga [(0, .eL T0 (.dat (.st 14) a0)),(1, .eL T1 (.int .u32 a1))] r=some o):
  ∃z∈([.cells q0 T0 vX, .cells q1 T1 ((LI .u32).enc a1)]:List aO),ro (G:=sg) J (bT.set (bT.set (λ_ =>none) 0 (fW q0 0)) 1 (fW q1 0)) r o z:=by
 match r,e with
 |0,e=>cases e;exact⟨_,List.mem_cons_self,q0, .agg vX.toArray,rfl,rfl,EK (t:= .st 14) f0 rfl⟩
 |1,e=>cases e;exact⟨_,ao6 _ List.mem_cons_self,q1, .int .u32 a1,rfl,rfl,rfl⟩
 |r+2,e=>cases e
theorem Ck{n:Nat}{a0:dg}{a1:Int}{r:Bool}{R:List aO}(hg:Wa sg (Hs R)){q0:Nat}{vX:List Value}(f0:iu.eZ (Hs R) vX a0){q1:Nat}(h:ox n a0 a1=some r):Bw.Fn (α:=Unit) Tryz.prog 223 [fW q0 0,fW q1 0] (XY (cm [.cells q0 58 vX, .cells q1 24 ((LI .u32).enc a1)]) (Hs R)) [.cells q0 58 vX, .cells q1 24 ((LI .u32).enc a1)] (λ_ =>True) (λ_ => .bool r) (λ_ =>[.cells q0 58 vX, .cells q1 24 ((LI .u32).enc a1)]):=
 zf (ct:=BK n) (x:=(a0,a1,())) (y:=(r,())) (ρ:=bT.set (bT.set (λ_ =>none) 0 (fW q0 0)) 1 (fW q1 0)) ⟨r,h,rfl⟩ hg (λ_ _ =>⟨_,_,rfl,⟨⟨q0,0, .inl rfl,rfl⟩,nofun⟩,_,_,rfl,⟨⟨q1,0, .inl rfl,rfl⟩,nofun⟩,rfl⟩) rfl rfl
  (λJ hJ r o e=>SW (T0:=58) (T1:=24) (dB.mono _ hJ f0) e) (λr (hr:2<=r)=>match r,hr with|r+2,_ =>rfl) λJ σ u us ⟨_,_,e,h1,_⟩=>by cases e;have h1:[u]=[.bool _]:=h1;cases h1;rfl
theorem Cj{n:Nat}{a0:dg}{a1:Int}{r:Bool}{R:List aO}(hg:Wa sg (Hs R)){q0:Nat}{vX:List Value}(f0:iu.eZ (Hs R) vX a0){q1:Nat}(h:ow n a0 a1=some r):Bw.Fn (α:=Unit) Tryz.prog 225 [fW q0 0,fW q1 0] (XY (cm [.cells q0 58 vX, .cells q1 24 ((LI .u32).enc a1)]) (Hs R)) [.cells q0 58 vX, .cells q1 24 ((LI .u32).enc a1)] (λ_ =>True) (λ_ => .bool r) (λ_ =>[.cells q0 58 vX, .cells q1 24 ((LI .u32).enc a1)]):=
 zf (ct:=BJ n) (x:=(a0,a1,())) (y:=(r,())) (ρ:=bT.set (bT.set (λ_ =>none) 0 (fW q0 0)) 1 (fW q1 0)) ⟨r,h,rfl⟩ hg (λ_ _ =>⟨_,_,rfl,⟨⟨q0,0, .inl rfl,rfl⟩,nofun⟩,_,_,rfl,⟨⟨q1,0, .inl rfl,rfl⟩,nofun⟩,rfl⟩) rfl rfl
  (λJ hJ r o e=>SW (T0:=58) (T1:=24) (dB.mono _ hJ f0) e) (λr (hr:2<=r)=>match r,hr with|r+2,_ =>rfl) λJ σ u us ⟨_,_,e,h1,_⟩=>by cases e;have h1:[u]=[.bool _]:=h1;cases h1;rfl
theorem Ci{n:Nat}{a0:dg}{a1:Int}{r:Bool}{R:List aO}(hg:Wa sg (Hs R)){q0:Nat}{vX:List Value}(f0:iu.eZ (Hs R) vX a0){q1:Nat}(h:mm n a0 a1=some r):Bw.Fn (α:=Unit) Tryz.prog 227 [fW q0 0,fW q1 0] (XY (cm [.cells q0 58 vX, .cells q1 24 ((LI .u32).enc a1)]) (Hs R)) [.cells q0 58 vX, .cells q1 24 ((LI .u32).enc a1)] (λ_ =>True) (λ_ => .bool r) (λ_ =>[.cells q0 58 vX, .cells q1 24 ((LI .u32).enc a1)]):=
 zf (ct:=BI n) (x:=(a0,a1,())) (y:=(r,())) (ρ:=bT.set (bT.set (λ_ =>none) 0 (fW q0 0)) 1 (fW q1 0)) ⟨r,h,rfl⟩ hg (λ_ _ =>⟨_,_,rfl,⟨⟨q0,0, .inl rfl,rfl⟩,nofun⟩,_,_,rfl,⟨⟨q1,0, .inl rfl,rfl⟩,nofun⟩,rfl⟩) rfl rfl
  (λJ hJ r o e=>SW (T0:=58) (T1:=24) (dB.mono _ hJ f0) e) (λr (hr:2<=r)=>match r,hr with|r+2,_ =>rfl) λJ σ u us ⟨_,_,e,h1,_⟩=>by cases e;have h1:[u]=[.bool _]:=h1;cases h1;rfl
theorem EP{n a0 a1 a2 r}{R:List aO}(hg:Wa sg (Hs R)){vX}(f0:(iu).eZ (Hs R) vX a0)(h:lW n a0 a1 a2=some r):FnW Tryz.prog 124 [A vX, .int .u32 a1, .int .u8 a2] (Hs R) (.bool r):=by
 unfold lW at h;refine fo Tryz.func124 (by kernel_rfl) rfl Tryz.ntmps124 rfl λcx _ hro qJ hpre=>?_;refine SC 2 rf ?_;refine W1 rf (PI rfl) λb3=>?_;refine W1 rf (qk (LI .u32) a1 rfl rfl) λb4=>?_;refine SL 5 rf ?_;refine zh rfl (LX .u8 (λv:Value=>v)) (λb10 _ =>?_);refine cJ rfl (uV rfl) ?_;refine I8 (H9 (E:=λv:Value=>v) (.func (.func 223) #[] #[fW b3 0,fW b4 0]) rfl rfl rfl rfl) (λ_ _ =>?_);refine cJ rfl (uV rfl) ?_;refine I8 (H9 (E:=λv:Value=>v) (.func (.func 225) #[] #[fW b3 0,fW b4 0]) rfl rfl rfl rfl) (λ_ _ =>?_);refine cJ rfl (uV rfl) ?_;refine I8 (H9 (E:=λv:Value=>v) (.func (.func 227) #[] #[fW b3 0,fW b4 0]) rfl rfl rfl rfl) (λ_ _ =>?_);refine SL 5 rf ?_;rcases Decidable.em (a2=0)with ED|ED
 ·replace h:=TQ (by simpa using ED) h;refine SC 3 rf ?_;refine cJ rfl (Aq .nilFunc (.func (.func 223) #[] #[fW b3 0,fW b4 0]) true rfl rfl (by rw[ED];rfl) (by rw[ED];rfl)) ?_;obtain⟨eJ,Tl,_,h⟩:=aer h;refine SL 11 rf ?_;refine GB rf rf rf (λhb=>dH rfl) ?_;refine H6 (acu rfl rfl) rfl (λhb=>Ck (R:=R) hg (mo f0) (Tl hb)) (λhb=>(Pd rfl hb)) (λhb=>rfl) rfl (pW:=[.cells b3 58 vX, .cells b4 24 ((LI .u32).enc a1)]) (rst:=[Mp b10 .u8 (λv:Value=>v) (qw (qw (qw ([]:List (Int×Value)) 0 (.func (.func 223) #[] #[fW b3 0,fW b4 0])) 1 (.func (.func 225) #[] #[fW b3 0,fW b4 0])) 2 (.func (.func 227) #[] #[fW b3 0,fW b4 0]))]) (ks:=[2,1,0]) rfl (by decide) (λhb=>inferInstance) ?_;dsimp only[List.cons_append,List.nil_append];refine cJ rfl (LU rfl rfl) ?_;refine SL 4 rf ?_;have h:=sj h;subst h;exact RV rf (rt rf rn) rf
 replace h:=TR (by simpa using ED) h;rcases Decidable.em (a2=1)with EC|EC
 ·replace h:=TQ (by simpa using EC) h;refine SC 3 rf ?_;refine cJ rfl (Aq .nilFunc (.func (.func 225) #[] #[fW b3 0,fW b4 0]) true rfl rfl (by rw[EC];rfl) (by rw[EC];rfl)) ?_;obtain⟨eJ,Tl,_,h⟩:=aer h;refine SL 11 rf ?_;refine GB rf rf rf (λhb=>dH rfl) ?_;refine H6 (acu rfl rfl) rfl (λhb=>Cj (R:=R) hg (mo f0) (Tl hb)) (λhb=>(Pd rfl hb)) (λhb=>rfl) rfl (pW:=[.cells b3 58 vX, .cells b4 24 ((LI .u32).enc a1)]) (rst:=[Mp b10 .u8 (λv:Value=>v) (qw (qw (qw ([]:List (Int×Value)) 0 (.func (.func 223) #[] #[fW b3 0,fW b4 0])) 1 (.func (.func 225) #[] #[fW b3 0,fW b4 0])) 2 (.func (.func 227) #[] #[fW b3 0,fW b4 0]))]) (ks:=[2,1,0]) rfl (by decide) (λhb=>inferInstance) ?_;dsimp only[List.cons_append,List.nil_append];refine cJ rfl (LU rfl rfl) ?_;refine SL 4 rf ?_;have h:=sj h;subst h;exact RV rf (rt rf rn) rf
 replace h:=TR (by simpa using EC) h;rcases Decidable.em (a2=2)with EB|EB
 ·replace h:=TQ (by simpa using EB) h;refine SC 3 rf ?_;refine cJ rfl (Aq .nilFunc (.func (.func 227) #[] #[fW b3 0,fW b4 0]) true rfl rfl (by rw[EB];rfl) (by rw[EB];rfl)) ?_;obtain⟨eJ,Tl,_,h⟩:=aer h;refine SL 11 rf ?_;refine GB rf rf rf (λhb=>dH rfl) ?_;refine H6 (acu rfl rfl) rfl (λhb=>Ci (R:=R) hg (mo f0) (Tl hb)) (λhb=>(Pd rfl hb)) (λhb=>rfl) rfl (pW:=[.cells b3 58 vX, .cells b4 24 ((LI .u32).enc a1)]) (rst:=[Mp b10 .u8 (λv:Value=>v) (qw (qw (qw ([]:List (Int×Value)) 0 (.func (.func 223) #[] #[fW b3 0,fW b4 0])) 1 (.func (.func 225) #[] #[fW b3 0,fW b4 0])) 2 (.func (.func 227) #[] #[fW b3 0,fW b4 0]))]) (ks:=[2,1,0]) rfl (by decide) (λhb=>inferInstance) ?_;dsimp only[List.cons_append,List.nil_append];refine cJ rfl (LU rfl rfl) ?_;refine SL 4 rf ?_;have h:=sj h;subst h;exact RV rf (rt rf rn) rf
 replace h:=TR (by simpa using EB) h;refine SC 3 rf ?_;refine cJ rfl (Aq .nilFunc .nilFunc false rfl rfl (UY (z:= .nilFunc) ED EC EB).1 (UY (z:= .nilFunc) ED EC EB).2) ?_;refine SL 11 rf ?_;refine GB rf rf rf (λhb=>dH rfl) ?_;refine al5 (v:= .bool false) (acu rfl rfl) (by rfl) rfl ?_;refine cJ rfl (LU rfl rfl) ?_;refine SL 4 rf ?_;have h:=sj h;subst h;exact RV rf (rt rf rn) rf
end H
def Ep(n:Nat):Ct Tryz.prog sg:=Xr (G:=sg) ⟨124,[], .cons (.v (.st 14)) (.cons (.v (.int .u32)) (.cons (.v (.int .u8)) .nil)), .cons (.v .bool) .nil,[], .nil,[],[]⟩ (λx=>lW n x.1 x.2.1 x.2.2.1) (λz=>(z,())) (false) (by kernel_rfl) (Vr (λ_ =>rfl) (λ_ =>rfl) rfl λρ R x z vs hg hz hv=>by
 obtain⟨cs,r1,e_1,h0,v1⟩:=Hh hv rfl;obtain⟨r2,e_2,v2⟩:=Ou v1;obtain⟨r3,e_3,v3⟩:=Ou v2;have e_0:r3=[]:=v3;subst e_0 e_3 e_2 e_1;exact⟨_,ahQ (H.EP hg h0 hz),λJ v e=>by
  subst e;exact⟨_,_,rfl,rfl,rfl⟩⟩)
def ni(n:Nat)(a0:Int)(a1:dg)(a2:Int)(a3:Int)(a4:Int):Option Bool:=bd (dz n a1.K a0) λbg=>cl ((((wr .i64 bg.1.To)==a2)==true)&&((a3==0)==true)) (lX n a1.K a4 a0) default λbV=>cl (((((wr .i64 bg.1.To)==a2)==true)&&(((a3==0)&&bV)==false))&&(((a3==1)&&bg.1.bF)==true)) (kZ n a1.K a4 a0) default λgH=>some (((wr .i64 bg.1.To)==a2)&&(((a3==0)&&bV)||(((a3==1)&&bg.1.bF)&&gH)))
def Dq(n:Nat):CT:=cV (tW n [] [iw n,ur n,ta n]) ⟨245,[(58, .v (.st 14)),(3, .v (.int .i64)),(5, .v (.int .u8)),(24, .v (.int .u32))], .cons (.v (.int .u32)) (.cons (.cQ 0) (.cons (.cQ 1) (.cons (.cQ 2) (.cons (.cQ 3) .nil)))), .cons (.v .bool) .nil,[], .nil,[],[]⟩ (λx=>ni n x.2.2.2.2.1 x.1 x.2.1 x.2.2.1 x.2.2.2.1) u1 m1
def fU(n:Nat)(a0:(List Int))(mE:dg)(vA:Int)(abL:Int)(aiy:Int):Option Int:=fK (λzX (bV:Int)=>cn (decide (bV<(a0.length:Int))) (gu (bQ bV a0.length)<|bd (ni n (a0.getD (Int.toNat bV) default) mE vA abL aiy) λeP=>cn (eP) (some bV) (zX (wr .i64 (bV+1)))) (some (-1))) n 0
def od(n:Nat):CT:=cV (tW n [(5, .loop [(.slot 8,(.v (.int .i64)))])] [Dq n]) ⟨246,[(58, .v (.st 14)),(3, .v (.int .i64)),(5, .v (.int .u8)),(24, .v (.int .u32))], .cons (.v (.sl (.int .u32))) (.cons (.fn (.func 245) .nil (.cons (.cQ 0) (.cons (.cQ 1) (.cons (.cQ 2) (.cons (.cQ 3) .nil))))) .nil), .cons (.v (.int .i64)) .nil,[], .nil,[],[]⟩ (λx=>fU n x.2.2.2.2.1 x.1 x.2.1 x.2.2.1 x.2.2.2.1) u1 m1
def fB(n:Nat)(a0:(List Int))(mE:dg)(vA:Int)(abL:Int)(aiy:Int):Option Bool:=bd (fU n a0 mE vA abL aiy) λbg=>some (decide (0<=bg))
def nD(n:Nat):CT:=cV (tW n [] [od n]) ⟨228,[(58, .v (.st 14)),(3, .v (.int .i64)),(5, .v (.int .u8)),(24, .v (.int .u32))], .cons (.v (.sl (.int .u32))) (.cons (.fn (.func 245) .nil (.cons (.cQ 0) (.cons (.cQ 1) (.cons (.cQ 2) (.cons (.cQ 3) .nil))))) .nil), .cons (.v .bool) .nil,[], .nil,[],[]⟩ (λx=>fB n x.2.2.2.2.1 x.1 x.2.1 x.2.2.1 x.2.2.2.1) u1 m1
def qX(n:Nat)(a0:dg)(a1:Int)(a2:Int)(a3:Int):Option Bool:=bd (kO n a0.K a2) λbg=>bd (fB n bg a0 a1 a3 a2) λgj=>some gj
def Fm(n:Nat):CT:=cV (tW n [] [rR n,nD n]) (gN 222 [.s 14, .i, .w, .v (.int .u8)] [.b]) (a4 (qX n)) u1 m1
def sO(n:Nat)(a0:dg)(a1:Int)(a2:Int)(a3:Int):Option Int:=bd (aV n a0.T.bj.oz a2) λbg=>cn ((!bg)) (some 4) (bd (jh n a0.O a0.T a2) λiv=>cn ((iv.dx==3)) (gu (!((((a3==0)&&decide (0<=a1))&&decide (a1<8))==true)||decide (0<=a1))<|cn ((!((((a3==0)&&decide (0<=a1))&&decide (a1<8))&&((lV .u8 (Fw .u8 iv.dR a1) 1)==1)))) (some 5) (some 0)) (cn ((iv.dx==1)) (cl (((wr .i64 iv.gT)==a1)==true) (lW n a0 a2 a3) default λiB=>cl ((((wr .i64 iv.gT)==a1)&&iB)==false) (qX n a0 a1 a2 a3) default λeP=>cn ((!((((wr .i64 iv.gT)==a1)&&iB)||eP))) (some 5) (some 0)) (some 5)))
def G6(n:Nat):CT:=cV (tW n [] [bJ n,nu n,Ep n,Fm n]) (gN 190 [.s 14, .i, .w, .v (.int .u8)] [.i]) (a4 (sO n)) u1 m1
def xZ(n:Nat)(a0:ai)(a1:Int)(a2:Int):Option (Int×Int):=bd (bH n a0 a1) λbg=>cn ((!bg)) (some (0,4)) (cn ((decide (a2<0)||decide (7<a2))) (some (0,2)) (bd (bq n a0.B a1) λbV=>gu (bQ bV 32)<|gu (bQ a2 8)<|cn ((((a0.R (Int.toNat bV)).bC (Int.toNat a2))==0)) (some (0,10)) (bd (bH n a0 ((a0.R (Int.toNat bV)).bC (Int.toNat a2))) λfX=>cn ((!fX)) (some (0,4)) (some (((a0.R (Int.toNat bV)).bC (Int.toNat a2)),0)))))
def Mu(n:Nat):CT:=cV (tW n [] [cq n,cu n]) (gN 71 [.s 21, .i, .i] [.t [.i, .i]]) (a3 (xZ n)) u2 m2
def y5(n:Nat)(a0:ai)(a1:Int)(a2:Int)(a3:Int)(a4:Bool):Option (ai×Int):=bd (bH n a0 a1) λbg=>cl (((!bg)==false)&&((a3 !=0)==true)) (bH n a0 a3) default λbV=>cn (((!bg)||((a3 !=0)&&(!bV)))) (some (a0,4)) (cn ((decide (a2<0)||decide (7<a2))) (some (a0,2)) (cl (((a3 !=0)&&(!a4))==true) (pE n a0 a3 a1) default λjl=>cn ((((a3 !=0)&&(!a4))&&(!jl))) (some (a0,5)) (bd (bq n a0.B a1) λs9=>gu (bQ s9 32)<|gu (bQ a2 8)<|lt ({a0 with R:=(dm a0.R (Int.toNat s9) ({(a0.R (Int.toNat s9))with bC:=(dm ((a0.R (Int.toNat s9)).bC) (Int.toNat a2) a3)}))}:ai) λnt=>some (nt,0))))
def P8(n:Nat):CT:=cV (tW n [] [cq n,yR n,cu n]) (gN 72 [.s 21, .i, .i, .i, .b] [.t [.s 21, .i]]) (λx=>y5 n x.1 x.2.1 x.2.2.1 x.2.2.2.1 x.2.2.2.2.1) u2 m2
def uR(n:Nat)(a0:au)(a1:Int)(a2:Int):Option (Except Int aR):=bd (eY n a0 a1) λbg=>tc (bg.2==0) (.error bg.2)<|tc (decide (0<=a2)&&decide (a2<8)) (.error 2)<|some (.ok bg.1)
def DZ(n:Nat):CT:=cT (tW n [] [bZ n,bO n,iM n]) 218 [.s 8, .w, .i] [.s 7] 114 (a3 (uR n)) u1 m1
def Ga(n:Nat)(a0:au)(a1:Int)(a2:Int)(a3:Int)(a4:Bool):Option (au×Int):=bd (aV n a0.bj.oz a1) λbg=>cl ((bg==true)&&((a3==0)==false)) (aV n a0.bj.oz a3) default λbV=>tc (bg&&((a3==0)||bV)) (iL,4)<|tr (uR n a0 a1 a2) (λah1=>(iL,ah1)) λfX=>cl (((a3==0)||a4)==false) (mI n a0 a3 a1) default λjN=>tc (((a3==0)||a4)||jN) (iL,5)<|gu (bQ a2 8)<|lt ({fX with bC:=(dm fX.bC (Int.toNat a2) a3)}:aR) λrL=>bd (gF n a0 a1 rL) λvC=>some (vC.1,vC.2)
def Sj(n:Nat):CT:=cV (tW n [] [bZ n,bO n,bJ n,DZ n,rX n,rS n]) (gN 216 [.s 8, .w, .i, .w, .b] [.t [.s 8, .i]]) (λx=>Ga n x.1 x.2.1 x.2.2.1 x.2.2.2.1 x.2.2.2.2.1) u2 m2
def Cg(n:Nat)(a0:au)(a1:Int)(a2:Int)(a3:Int)(a4:Bool):Option (au×Int):=bd (Ga n a0 a1 a2 a3 a4) λbg=>cn ((bg.2!=0)) (some (a0,bg.2)) (some (bg.1,0))
def Sk(n:Nat):CT:=cV (tW n [] [Sj n]) (gN 181 [.s 8, .w, .i, .w, .b] [.t [.s 8, .i]]) (λx=>Cg n x.1 x.2.1 x.2.2.1 x.2.2.2.1 x.2.2.2.2.1) u2 m2
def Ah(n:Nat)(a0:au)(a1:Int)(a2:Int):Option (Int×Int):=tr (uR n a0 a1 a2) (λqy=>(0,qy)) λbg=>gu (bQ a2 8)<|tc ((bg.bC (Int.toNat a2))!=0) (0,10)<|bd (aV n a0.bj.oz (bg.bC (Int.toNat a2))) λdZ=>tc dZ (0,4)<|some ((bg.bC (Int.toNat a2)),0)
def Oa(n:Nat):CT:=cV (tW n [] [bZ n,bO n,DZ n,bJ n]) (gN 182 [.s 8, .w, .i] [.t [.w, .i]]) (a3 (Ah n)) u2 m2
def ye(n:Nat):Option bB:=lt ({dX with di:=(dm dX.di 0 true)}:bB) λbg=>lt ({bg with qm:=(dm bg.qm 0 true)}:bB) λiv=>some iv
def DY(n:Nat):CT:=cV (tW n [] []) (gN 5 [] [.s 17]) (λx=>ye n) u1 m1
def fm(n:Nat)(a0:aq)(a1:Int):Option aq:=bd (qh n a0.av.aC.T a1) λgH=>cH (λk51 (vC:Int) (oT:aq)=>cn (decide (vC<(gH.length:Int))) (gu (bQ vC gH.length)<|bd (eY n oT.av.aC.T (gH.getD (Int.toNat vC) default)) λAI=>gu (gw oT.gO.length AI.1.E.aU.length 16)<|lt (oT.gO++AI.1.E.aU:List aB) λDQ=>bd (lY n (({oT with gO:=DQ}).av.aC.K) (gH.getD (Int.toNat vC) default)) λJh=>k51 (wr .i64 (vC+1)) ({({oT with gO:=DQ})with av:={({oT with gO:=DQ}).av with aC:={(({oT with gO:=DQ}).av).aC with K:=Jh}}})) (bd (ym n oT.av.aC.T a1) λKh=>some ({oT with av:={oT.av with aC:={oT.av.aC with T:=Kh.1}}}))) n 0 a0
def qu(n:Nat):CT:=cV (tX n [(3, .loop [(.slot 17,(.v (.int .i64))),(.via 0,eK)])] [wW n,iM n,Bz n,MC n] [(1,vw0)] []) ⟨164,[], .cons eK (.cons (.v (.int .u32)) .nil), .cons (.rZ .nil) (.cons eK .nil),[some 0,none], .nil,[],[[0]]⟩ (λx=>fm n (g7 x) x.2.2.2.2.2.2.2.1) (λy=>g7 y) (λz=>(h7 z ()))
def dJ(n:Nat)(a0:Int):Option (Except Int Unit):=tc (a0==0) (.error a0)<|some (.ok ())
def ez(n:Nat):CT:=cT (tW n [] [bZ n,bO n]) 153 [.i] [.rZ .nil] 114 (a1 (dJ n)) (λ_ =>()) (λ_ =>())
def jG(n:Nat)(a0:aq)(a1:Int)(a2:Int):Option (Except Int aq):=bd (uf n a0.av.aC.O a0.av.aC.T a1 a2) λgH=>tr (dJ n gH.2.2) (λPm=>(.error Pm)) λiv=>cn ((gH.2.1==0)) (bd (fm n ({a0 with av:={a0.av with aC:={a0.av.aC with O:=gH.1}}}) a1) λgj=>some (.ok gj)) (some (.ok ({a0 with av:={a0.av with aC:={a0.av.aC with O:=gH.1}}})))
def uD(n:Nat):CT:=cX (tW n [] [bZ n,bO n,Jm n,ez n,qu n]) ⟨172,[], .cons eK (.cons (.v (.int .u32)) (.cons (.v (.int .i64)) .nil)), .cons (.rZ .nil) (.cons eK .nil),[some 0,none],(.cons (.nY 114 (.v (.int .i64))) .nil),[],[[0]]⟩ (λx=>jG n (g7 x) x.2.2.2.2.2.2.2.1 x.2.2.2.2.2.2.2.2.1) (λy=>g7 y) (λz=>(h7 z ())) u1 m1
def eB(n:Nat)(a0:aq)(a1:Int)(a2:Int):Option (Except Int aq):=bd (oI n a0.av.aC.O a0.av.aC.T a1 a2) λgH=>tr (dJ n gH.2) (λPm=>(.error Pm)) λiv=>some (.ok ({a0 with av:={a0.av with aC:={a0.av.aC with O:=gH.1}}}))
def nG(n:Nat):CT:=cX (tW n [] [bZ n,bO n,Jl n,ez n]) ⟨154,[], .cons eK (.cons (.v (.int .u32)) (.cons (.v (.int .i64)) .nil)), .cons (.rZ .nil) (.cons eK .nil),[some 0,none],(.cons (.nY 114 (.v (.int .i64))) .nil),[],[[0]]⟩ (λx=>eB n (g7 x) x.2.2.2.2.2.2.2.1 x.2.2.2.2.2.2.2.2.1) (λy=>g7 y) (λz=>(h7 z ())) u1 m1
def D4(n:Nat)(a0:bX):Option bX:=some a0
def Jn(n:Nat):CT:=cV (tW n [] []) ⟨243,[], .cons (.v (.st 16)) .nil, .cons (.fn (.func 254) .nil (.cons (.box 63 (.v (.st 16))) .nil)) .nil,[none], .nil,[],[]⟩ (a1 (D4 n)) u1 m1
def yX(n:Nat)(a0:(List aZ)):Option (List aZ):=some a0
def wY(n:Nat)(a0:(List aZ)):Option (List aZ):=gu ((a0.length:Int)==(a0.length:Int))<|gu ((a0.length:Int)==(a0.length:Int))<|some a0
theorem EH(n:Nat)(a0:(List aZ)):wY n a0=yX n a0:=Vk.trans Vk
def Eg(n:Nat):CT:=cV (tW n [] []) (gN 244 [.v (.sl (.st 15))] [.v (.sl (.st 15))]) (a1 (yX n)) u1 m1 (hW:=λx=>Eq.trans (b:=wY n x.1) (by kernel_rfl) (EH ..))
def rD(n:Nat)(a0:bX)(a1:Int):Option Int:=some (Int.tmod (wr .i64 (a0.iH+a1)) 4)
def yy(n:Nat):CT:=cV (tW n [] []) (gN 215 [.s 16, .i] [.i]) (a2 (rD n)) u1 m1
def qV(n:Nat)(a1:bX):Option (List aZ):=fK (λk35 (eP:Int)=>cn (decide (eP<a1.n)) (bd (rD n a1 eP) λnt=>gu (bQ nt 4)<|yl (a1.ring (Int.toNat nt))<|k35 (wr .i64 (eP+1))) (some [])) n 0
def FV(n:Nat):It Tryz.prog sg:=mkI (tX n [(3, .loop [(.slot 6,(.v (.int .i64)))])] [yy n] [] []) 3000 254 (.cons (.box 63 (.v (.st 16))) .nil) (.cons (.v (.st 15)) .nil) (.st (G:=sg) (i:=15) (λ(x:aZ)=>dB.enc ij x) (λJ cs x=>bR.iff (L:=ij)) .nil) (B:=aZ) (λy=>(y,())) (λx=>(x.1)) (λx=>qV n x.1) (λ_ =>rfl) (by kernel_rfl) (λx=>by kernel_rfl)
def wh(n:Nat)(a0:bX):Option (List aZ):=bd (D4 n a0) λbg=>bd (qV n bg) λgH=>sH (λ(P4:aZ) k31 (gj:(List aZ))=>lt (P4:aZ) λjN=>gu (gw gj.length 1 24)<|lt (gj++([jN]):List aZ) λqn=>k31 qn) (λ(gj:(List aZ))=>some gj) gH ([]:List aZ)
def Kt(n:Nat):CT:=cV (tX n [(7, .loop [(.via 3, .box 285 (.row 60 4 (.st 15)))])] [Jn n,Eg n] [] [FV n]) (gN 220 [.s 16] [.v (.sl (.st 15))]) (a1 (wh n)) u1 m1
def sE(n:Nat)(a0:bX):Option (bX×(List aZ)):=lt ({ring:=(λ_ =>fN),iH:=0,n:=0,closed:=true}:bX) λbg=>bd (wh n a0) λbV=>some (bg,bV)
def G3(n:Nat):CT:=cV (tW n [] [Kt n]) (gN 183 [.s 16] [.t [.s 16, .v (.sl (.st 15))]]) (a1 (sE n)) u2 m2
def mU(n:Nat)(a0:aq)(a1:Int):Option (Except Int aq):=gu (bQ a1 8)<|bd (sE n (a0.av.fO (Int.toNat a1))) λbV=>gu (bQ a1 8)<|gu (bQ a1 8)<|cH (λk58 (Bh:Int) (tC:aq)=>cn (decide (Bh<(bV.2.length:Int))) (gu (bQ Bh bV.2.length)<|lt ((bV.2.getD (Int.toNat Bh) default):aZ) λEc=>cn (((Ec.Region==0)||Ec.iI)) (k58 (wr .i64 (Bh+1)) tC) (gu (bQ Ec.nB 8)<|cn ((tC.av.di (Int.toNat Ec.nB))) (tr (eB n tC Ec.Region (wr .i64 Ec.nB)) (λahX=>(.error ahX)) λSb=>k58 (wr .i64 (Bh+1)) Sb) (bd (fm n tC Ec.Region) λJh=>k58 (wr .i64 (Bh+1)) Jh))) (bd (oC n tC.av.aC.K a1) λKg=>cH (λahe (Kl:Int) (GQ:aq)=>cn (decide (Kl<(Kg.length:Int))) (gu (bQ Kl Kg.length)<|bd (eU n GQ.av.aC.K (Kg.getD (Int.toNat Kl) default)) λafX=>ahe (wr .i64 (Kl+1)) ({GQ with av:={GQ.av with aC:={GQ.av.aC with K:=afX.1}}})) (bd (pH n GQ.av.aC.O GQ.av.aC.T a1) λtD=>cH (λahc (E8:Int) (Ed:aq)=>cn (decide (E8<(tD.length:Int))) (gu (bQ E8 tD.length)<|bd (fm n Ed (tD.getD (Int.toNat E8) default)) λafT=>ahc (wr .i64 (E8+1)) afT) (bd (qE n Ed.av.aC.O Ed.av.aC.T a1) λSc=>cH (λag9 (N0:Int) (X5:aq)=>cn (decide (N0<(Sc.length:Int))) (gu (bQ N0 Sc.length)<|tr (jG n X5 (Sc.getD (Int.toNat N0) default) a1) (λaa9=>(.error aa9)) λafQ=>ag9 (wr .i64 (N0+1)) afQ) (some (.ok X5))) n 0 Ed)) n 0 GQ)) n 0 tC)) n 0 ({({a0 with av:={a0.av with fO:=(dm a0.av.fO (Int.toNat a1) bV.1)}})with av:={({a0 with av:={a0.av with fO:=(dm a0.av.fO (Int.toNat a1) bV.1)}}).av with di:=(dm ((({a0 with av:={a0.av with fO:=(dm a0.av.fO (Int.toNat a1) bV.1)}}).av).di) (Int.toNat a1) false)}})
def vN(n:Nat):CT:=cX (tX n [(9, .loop [(.slot 40,(.v (.int .i64))),(.via 0,eK)]),(25, .loop [(.slot 82,(.v (.int .i64))),(.via 0,eK)]),(35, .loop [(.slot 119,(.v (.int .i64))),(.via 0,eK)]),(45, .loop [(.slot 142,(.v (.int .i64))),(.via 0,eK)])] [bZ n,bO n,G3 n,nG n,qu n,E9 n,td n,G2 n,Jk n,uD n] [(4,vw0),(12,vw0),(17,vw0),(22,vw0)] []) ⟨128,[], .cons eK (.cons (.v (.int .i64)) .nil), .cons (.rZ .nil) (.cons eK .nil),[some 0,none],(.cons (.nY 114 (.v (.int .i64))) .nil),[],[[0]]⟩ (λx=>mU n (g7 x) x.2.2.2.2.2.2.2.1) (λy=>g7 y) (λz=>(h7 z ())) u1 m1
def cz(n:Nat)(a0:aq)(a1:Int)(a2:Int):Option (Except Int Unit):=bd (sO n a0.av.aC a0.aE a1 a2) λgH=>tr (dJ n gH) (λPm=>(.error Pm)) λiv=>some (.ok ())
def dQ(n:Nat):CT:=cX (tW n [] [bZ n,bO n,G6 n,ez n]) ⟨151,[(143, .st (.part 952 (.v (.st 17)) (.part 1 (.v (.int .i64)) (.part 6 (.v (.st 0)) (.part 2 (.v (.st 5)) (.part 1 (.v (.int .i64)) (.part 1 (.v .bool) (.part 1 (.row 110 2 (.st 5)) .nil))))))))], .cons (.cQ 0) (.cons (.v (.int .u32)) (.cons (.v (.int .u8)) .nil)), .cons (.rZ .nil) .nil,[],(.cons (.nY 114 (.v (.int .i64))) .nil),[],[]⟩ (λx=>cz n (g7 x) x.2.2.2.2.2.2.2.1 x.2.2.2.2.2.2.2.2.1) (λ_ =>()) (λ_ =>()) u1 m1
def lR(n:Nat)(a0:aq):Option (Except Int (aA×aq)):=lt (λ(u21:Unit)=>bd (xu n a0.av.aC.T a0.c.R (wr .i64 (if 65<a0.c.A then 65 else a0.c.A))) λiB=>tr (dJ n iB.2.2) (λahZ=>(.error ahZ)) λjN=>cn (((({a0 with av:={a0.av with aC:={a0.av.aC with T:=iB.1}}}).c.R)==0)) (tr (eB n ({a0 with av:={a0.av with aC:={a0.av.aC with T:=iB.1}}}) iB.2.1 (({a0 with av:={a0.av with aC:={a0.av.aC with T:=iB.1}}}).aE)) (λTJ=>(.error TJ)) λrL=>lt ({E:=0,V:=0,W:=iB.2.1}:aA) λtC=>some (.ok (tC,rL))) (lt ({E:=0,V:=0,W:=iB.2.1}:aA) λyN=>some (.ok (yN,{a0 with av:={a0.av with aC:={a0.av.aC with T:=iB.1}}})))) λR2=>cn ((a0.c.R !=0)) (tr (cz n a0 a0.c.R 1) (λHO=>(.error HO)) λgH=>R2 ()) (R2 ())
def wR(n:Nat):CT:=cX (tW n [(6, .join [(.via 0,eK)] [])] [bZ n,bO n,dQ n,N8 n,ez n,nG n]) ⟨130,[], .cons eK .nil, .cons (.v (.st 32)) (.cons eK .nil),[some 0,none],(.cons (.nY 114 (.v (.int .i64))) .nil),[],[[0]]⟩ (λx=>lR n (g7 x)) (λy=>(y.1,g7 y.2)) (λz=>(z.1,(h7 z.2 ()))) u1 m1
def eV(n:Nat)(a0:aq)(a1:Int):Option (Except Int aR):=bd (eY n a0.av.aC.T a1) λgH=>tr (dJ n gH.2) (λTK=>(.error TK)) λg8=>some (.ok gH.1)
def mq(n:Nat):CT:=cX (tW n [] [bZ n,bO n,iM n,ez n]) ⟨156,[(143, .st (.part 952 (.v (.st 17)) (.part 1 (.v (.int .i64)) (.part 6 (.v (.st 0)) (.part 2 (.v (.st 5)) (.part 1 (.v (.int .i64)) (.part 1 (.v .bool) (.part 1 (.row 110 2 (.st 5)) .nil))))))))], .cons (.cQ 0) (.cons (.v (.int .u32)) .nil), .cons (.v (.st 7)) .nil,[],(.cons (.nY 114 (.v (.int .i64))) .nil),[],[]⟩ (λx=>eV n (g7 x) x.2.2.2.2.2.2.2.1) u1 m1 u1 m1
def lP(n:Nat)(a0:aq)(a1:Int)(a2:aR):Option (Except Int aq):=bd (gF n a0.av.aC.T a1 a2) λgH=>tr (dJ n gH.2) (λTK=>(.error TK)) λg8=>some (.ok ({a0 with av:={a0.av with aC:={a0.av.aC with T:=gH.1}}}))
def wP(n:Nat):CT:=cX (tW n [] [bZ n,bO n,rS n,ez n]) ⟨161,[], .cons eK (.cons (.v (.int .u32)) (.cons (.v (.st 7)) .nil)), .cons (.rZ .nil) (.cons eK .nil),[some 0,none],(.cons (.nY 114 (.v (.int .i64))) .nil),[],[[0]]⟩ (λx=>lP n (g7 x) x.2.2.2.2.2.2.2.1 x.2.2.2.2.2.2.2.2.1) (λy=>g7 y) (λz=>(h7 z ())) u1 m1
def fI(n:Nat)(a0:aq):Option (Except Int (aA×aq)):=bd (wk n (wr .i64 (if 129<a0.c.A then 129 else a0.c.A)) (wr .i64 (if 9<a0.c.B then 9 else a0.c.B))) λbg=>tc bg.2 (.error 2)<|tr (cz n a0 a0.c.R 1) (λHO=>(.error HO)) λgH=>tr (eV n a0 a0.c.R) (λPm=>(.error Pm)) λiv=>lt (λ(nt:aR) (rL:aq)=>bd (nf n nt.E (wr .i64 (if 129<a0.c.A then 129 else a0.c.A)) (wr .i64 (if 9<a0.c.B then 9 else a0.c.B))) λMs=>lt ({nt with E:=Ms.1}:aR) λUl=>tr (lP n rL rL.c.R Ul) (λahW=>(.error ahW)) λx88=>lt ({E:=0,V:=wr .u64 Ms.2.1,W:=0}:aA) λx99=>some (.ok (x99,x88))) λj45=>bd (mj n iv.E (wr .i64 (if 129<a0.c.A then 129 else a0.c.A)) (wr .i64 (if 9<a0.c.B then 9 else a0.c.B))) λBx=>cn ((!Bx.2)) (bd (eW n iv.E) λx51=>tc (decide ((wr .i64 (x51+bg.1))<=iv.cE)) (.error 6)<|cn (({a0 with pJ:=bg.1}).Gf) (lt ({E:=0,V:=0,W:=0}:aA) λWc=>some (.ok (Wc,{a0 with pJ:=bg.1}))) (bd (jK n iv.E (({a0 with pJ:=bg.1}).run)) λEc=>lt ({iv with E:=Ec}:aR) λDQ=>cl (((({a0 with pJ:=bg.1}).run.N)==bg.1)==true) (kM n DQ.E) default λx72=>tc (((({a0 with pJ:=bg.1}).run.N)==bg.1)&&x72) (.error 2)<|j45 DQ ({a0 with pJ:=bg.1}))) (j45 iv a0)
def uG(n:Nat):CT:=cX (tW n [(28, .join [(.via 7, .box 41 (.v (.st 7))),(.via 0,eK),(.via 2, .box 116 (.v (.st 32)))] [])] [bZ n,bO n,Kw n,dQ n,mq n,uH n,mw n,BH n,vR n,Dp n,wP n]) ⟨131,[], .cons eK .nil, .cons (.v (.st 32)) (.cons eK .nil),[some 0,none],(.cons (.nY 114 (.v (.int .i64))) .nil),[],[[0]]⟩ (λx=>fI n (g7 x)) (λy=>(y.1,g7 y.2)) (λz=>(z.1,(h7 z.2 ()))) u1 m1
def rC(n:Nat)(a0:aR)(a1:aN):Option (Except Int Unit):=tc (decide ((wr .i64 a1.A)<=(wr .i64 (a0.E.jW-(wr .i64 a1.B))))) (.error 9)<|some (.ok ())
def DX(n:Nat):CT:=cT (tW n [] [bZ n,bO n]) 163 [.s 7, .s 0] [.rZ .nil] 114 (a2 (rC n)) (λ_ =>()) (λ_ =>())
def rB(n:Nat)(a0:aN):Option (Except Int Unit):=tc (decide (1<=a0.B)&&decide (a0.B<=8)) (.error 2)<|some (.ok ())
def DW(n:Nat):CT:=cT (tW n [] [bZ n,bO n]) 162 [.s 0] [.rZ .nil] 114 (a1 (rB n)) (λ_ =>()) (λ_ =>())
def mT(n:Nat)(a0:aq):Option (Except Int aA):=tr (rB n a0.c) (λqy=>(.error qy)) λbg=>tr (cz n a0 a0.c.R 0) (λAe=>(.error Ae)) λbV=>tr (eV n a0 a0.c.R) (λHO=>(.error HO)) λgH=>tr (rC n gH a0.c) (λaa8=>(.error aa8)) λeJ=>lt ({E:=0,V:=0,W:=0}:aA) λg8=>some (.ok g8)
def vI(n:Nat):CT:=cX (tW n [] [bZ n,bO n,DW n,dQ n,mq n,DX n]) ⟨132,[(143, .st (.part 952 (.v (.st 17)) (.part 1 (.v (.int .i64)) (.part 6 (.v (.st 0)) (.part 2 (.v (.st 5)) (.part 1 (.v (.int .i64)) (.part 1 (.v .bool) (.part 1 (.row 110 2 (.st 5)) .nil))))))))], .cons (.cQ 0) .nil, .cons (.v (.st 32)) .nil,[],(.cons (.nY 114 (.v (.int .i64))) .nil),[],[]⟩ (λx=>mT n (g7 x)) u1 m1 u1 m1
def l9(n:Nat)(a0:aq):Option (Except Int aA):=tr (rB n a0.c) (λqy=>(.error qy)) λbg=>tr (cz n a0 a0.c.R 1) (λAe=>(.error Ae)) λbV=>tr (eV n a0 a0.c.R) (λHO=>(.error HO)) λgH=>tr (rC n gH a0.c) (λaa8=>(.error aa8)) λeJ=>lt ({E:=0,V:=0,W:=0}:aA) λg8=>some (.ok g8)
def uy(n:Nat):CT:=cX (tW n [] [bZ n,bO n,DW n,dQ n,mq n,DX n]) ⟨133,[(143, .st (.part 952 (.v (.st 17)) (.part 1 (.v (.int .i64)) (.part 6 (.v (.st 0)) (.part 2 (.v (.st 5)) (.part 1 (.v (.int .i64)) (.part 1 (.v .bool) (.part 1 (.row 110 2 (.st 5)) .nil))))))))], .cons (.cQ 0) .nil, .cons (.v (.st 32)) .nil,[],(.cons (.nY 114 (.v (.int .i64))) .nil),[],[]⟩ (λx=>l9 n (g7 x)) u1 m1 u1 m1
def jE(n:Nat)(a0:aq):Option (Except Int (aA×aq)):=tr (cz n a0 a0.c.R 1) (λqy=>(.error qy)) λbg=>tr (eV n a0 a0.c.R) (λAe=>(.error Ae)) λbV=>gu (gw a0.gO.length bV.E.aU.length 16)<|lt (a0.gO++bV.E.aU:List aB) λjN=>lt ({Up:=0,cE:=bV.cE,E:=dG,bC:=(λ_ =>0)}:aR) λgy=>tr (lP n ({a0 with gO:=jN}) (({a0 with gO:=jN}).c.R) gy) (λaoa=>(.error aoa)) λxN=>lt ({E:=0,V:=0,W:=0}:aA) λAI=>some (.ok (AI,xN))
def uB(n:Nat):CT:=cX (tW n [] [bZ n,bO n,dQ n,mq n,wP n]) ⟨134,[], .cons eK .nil, .cons (.v (.st 32)) (.cons eK .nil),[some 0,none],(.cons (.nY 114 (.v (.int .i64))) .nil),[],[[0]]⟩ (λx=>jE n (g7 x)) (λy=>(y.1,g7 y.2)) (λz=>(z.1,(h7 z.2 ()))) u1 m1
def jd(n:Nat)(a0:aq):Option (Except Int (aA×aq)):=tr (cz n a0 a0.c.R 2) (λqy=>(.error qy)) λbg=>bd (fm n a0 a0.c.R) λbV=>lt ({E:=0,V:=0,W:=0}:aA) λs9=>some (.ok (s9,bV))
def tj(n:Nat):CT:=cX (tW n [] [bZ n,bO n,dQ n,qu n]) ⟨135,[], .cons eK .nil, .cons (.v (.st 32)) (.cons eK .nil),[some 0,none],(.cons (.nY 114 (.v (.int .i64))) .nil),[],[[0]]⟩ (λx=>jd n (g7 x)) (λy=>(y.1,g7 y.2)) (λz=>(z.1,(h7 z.2 ()))) u1 m1
def iS(n:Nat)(a0:aq)(a1:Int):Option (Except Int aq):=bd (tQ n a0.av.aC.T a1) λgH=>tr (dJ n gH.2) (λTK=>(.error TK)) λg8=>some (.ok ({a0 with av:={a0.av with aC:={a0.av.aC with T:=gH.1}}}))
def qt(n:Nat):CT:=cX (tW n [] [bZ n,bO n,N9 n,ez n]) ⟨166,[], .cons eK (.cons (.v (.int .u32)) .nil), .cons (.rZ .nil) (.cons eK .nil),[some 0,none],(.cons (.nY 114 (.v (.int .i64))) .nil),[],[[0]]⟩ (λx=>iS n (g7 x) x.2.2.2.2.2.2.2.1) (λy=>g7 y) (λz=>(h7 z ())) u1 m1
def lT(n:Nat)(a0:aq):Option (Except Int (aA×aq)):=tr (cz n a0 a0.c.R 2) (λqy=>(.error qy)) λbg=>bd (jj n a0.av.aC.T a0.c.R) λiv=>tc (iv !=a0.c.R) (.error 12)<|tr (iS n a0 a0.c.R) (λah0=>(.error ah0)) λiB=>tr (eB n iB iB.c.R iB.aE) (λaod=>(.error aod)) λkX=>lt ({E:=0,V:=0,W:=0}:aA) λBx=>some (.ok (Bx,kX))
def wS(n:Nat):CT:=cX (tW n [] [bZ n,bO n,dQ n,lB n,qt n,nG n]) ⟨136,[], .cons eK .nil, .cons (.v (.st 32)) (.cons eK .nil),[some 0,none],(.cons (.nY 114 (.v (.int .i64))) .nil),[],[[0]]⟩ (λx=>lT n (g7 x)) (λy=>(y.1,g7 y.2)) (λz=>(z.1,(h7 z.2 ()))) u1 m1
def jF(n:Nat)(a0:aq):Option (Except Int (aA×aq)):=tr (cz n a0 a0.c.R 2) (λqy=>(.error qy)) λbg=>tr (cz n a0 a0.c.S 1) (λAe=>(.error Ae)) λbV=>bd (wj n a0.av.aC.T a0.c.R a0.c.S) λfX=>tr (dJ n fX.2) (λaoe=>(.error aoe)) λew=>lt ({E:=0,V:=0,W:=0}:aA) λqn=>some (.ok (qn,{a0 with av:={a0.av with aC:={a0.av.aC with T:=fX.1}}}))
def uC(n:Nat):CT:=cX (tW n [] [bZ n,bO n,dQ n,Ku n,ez n]) ⟨137,[], .cons eK .nil, .cons (.v (.st 32)) (.cons eK .nil),[some 0,none],(.cons (.nY 114 (.v (.int .i64))) .nil),[],[[0]]⟩ (λx=>jF n (g7 x)) (λy=>(y.1,g7 y.2)) (λz=>(z.1,(h7 z.2 ()))) u1 m1
def jc(n:Nat)(a0:aq):Option (Except Int (aA×aq)):=tr (cz n a0 a0.c.R 2) (λqy=>(.error qy)) λbg=>tr (iS n a0 a0.c.R) (λAe=>(.error Ae)) λbV=>bd (qU n bV.av.aC.O bV.av.aC.T bV.c.R bV.aE) λjN=>tr (dJ n jN.2) (λaa7=>(.error aa7)) λnt=>lt ({E:=0,V:=0,W:=0}:aA) λlJ=>some (.ok (lJ,{bV with av:={bV.av with aC:={bV.av.aC with O:=jN.1}}}))
def tg(n:Nat):CT:=cX (tW n [] [bZ n,bO n,dQ n,qt n,Fj n,ez n]) ⟨138,[], .cons eK .nil, .cons (.v (.st 32)) (.cons eK .nil),[some 0,none],(.cons (.nY 114 (.v (.int .i64))) .nil),[],[[0]]⟩ (λx=>jc n (g7 x)) (λy=>(y.1,g7 y.2)) (λz=>(z.1,(h7 z.2 ()))) u1 m1
def iz(n:Nat)(a0:aq)(a1:Int):Option (Except Int Unit):=bd (aV n a0.av.aC.T.bj.oz a1) λbg=>tc bg (.error 4)<|bd (jh n a0.av.aC.O a0.av.aC.T a1) λfX=>bd (jj n a0.av.aC.T a1) λgj=>tc ((gj==a1)&&(fX.dx==3)) (.error 12)<|gu (decide (0<=a0.aE))<|tc ((lV .u8 (Fw .u8 fX.dR a0.aE) 1)==1) (.error 5)<|some (.ok ())
def po(n:Nat):CT:=cX (tW n [] [bZ n,bO n,bJ n,nu n,lB n]) ⟨170,[(143, .st (.part 952 (.v (.st 17)) (.part 1 (.v (.int .i64)) (.part 6 (.v (.st 0)) (.part 2 (.v (.st 5)) (.part 1 (.v (.int .i64)) (.part 1 (.v .bool) (.part 1 (.row 110 2 (.st 5)) .nil))))))))], .cons (.cQ 0) (.cons (.v (.int .u32)) .nil), .cons (.rZ .nil) .nil,[],(.cons (.nY 114 (.v (.int .i64))) .nil),[],[]⟩ (λx=>iz n (g7 x) x.2.2.2.2.2.2.2.1) (λ_ =>()) (λ_ =>()) u1 m1
def iy(n:Nat)(a0:aq)(a1:Int):Option (Except Int Unit):=gu (!((decide (a1<8))==true)||bQ a1 8)<|tc (decide (a1<8)&&(a0.av.di (Int.toNat a1))) (.error 2)<|some (.ok ())
def mN(n:Nat):CT:=cX (tW n [] [bZ n,bO n]) ⟨169,[(143, .st (.part 952 (.v (.st 17)) (.part 1 (.v (.int .i64)) (.part 6 (.v (.st 0)) (.part 2 (.v (.st 5)) (.part 1 (.v (.int .i64)) (.part 1 (.v .bool) (.part 1 (.row 110 2 (.st 5)) .nil))))))))], .cons (.cQ 0) (.cons (.v (.int .u32)) .nil), .cons (.rZ .nil) .nil,[],(.cons (.nY 114 (.v (.int .i64))) .nil),[],[]⟩ (λx=>iy n (g7 x) x.2.2.2.2.2.2.2.1) (λ_ =>()) (λ_ =>()) u1 m1
def jD(n:Nat)(a0:aq):Option (Except Int (aA×aq)):=tr (iy n a0 a0.c.A) (λqy=>(.error qy)) λbg=>tr (iz n a0 a0.c.R) (λAe=>(.error Ae)) λbV=>bd (qD n a0.av.aC.O a0.av.aC.T a0.c.R (wr .i64 a0.c.A)) λfX=>tr (dJ n fX.2) (λah0=>(.error ah0)) λiB=>lt ({E:=0,V:=0,W:=0}:aA) λdZ=>some (.ok (dZ,{a0 with av:={a0.av with aC:={a0.av.aC with O:=fX.1}}}))
def uA(n:Nat):CT:=cX (tW n [] [bZ n,bO n,mN n,po n,AN n,ez n]) ⟨139,[], .cons eK .nil, .cons (.v (.st 32)) (.cons eK .nil),[some 0,none],(.cons (.nY 114 (.v (.int .i64))) .nil),[],[[0]]⟩ (λx=>jD n (g7 x)) (λy=>(y.1,g7 y.2)) (λz=>(z.1,(h7 z.2 ()))) u1 m1
def kK(n:Nat)(a0:aq):Option (Except Int (aA×aq)):=tr (iz n a0 a0.c.R) (λqy=>(.error qy)) λbg=>tr (jG n a0 a0.c.R a0.aE) (λAe=>(.error Ae)) λbV=>lt ({E:=0,V:=0,W:=0}:aA) λs9=>some (.ok (s9,bV))
def vM(n:Nat):CT:=cX (tW n [] [bZ n,bO n,po n,uD n]) ⟨140,[], .cons eK .nil, .cons (.v (.st 32)) (.cons eK .nil),[some 0,none],(.cons (.nY 114 (.v (.int .i64))) .nil),[],[[0]]⟩ (λx=>kK n (g7 x)) (λy=>(y.1,g7 y.2)) (λz=>(z.1,(h7 z.2 ()))) u1 m1
def kH(n:Nat)(a0:aq):Option (Except Int (aA×aq)):=tr (iy n a0 a0.c.A) (λqy=>(.error qy)) λbg=>tc (decide (a0.c.B<=1)) (.error 2)<|bd (aV n a0.av.aC.T.bj.oz a0.c.R) λgH=>tc gH (.error 4)<|lt (λ(u25:Unit)=>lt ({Region:=a0.c.R,By:=wr .u8 a0.aE,To:=wr .u8 a0.c.A,bF:=(a0.c.B==1),bh:=a0.c.S}:bE) λew=>bd (kz n a0.av.aC.K ew) λjN=>tr (dJ n jN.2.2) (λaa7=>(.error aa7)) λnt=>lt ({E:=0,V:=0,W:=jN.2.1}:aA) λlJ=>some (.ok (lJ,{a0 with av:={a0.av with aC:={a0.av.aC with K:=jN.1}}}))) λj26=>cn ((a0.c.S==0)) (bd (jh n a0.av.aC.O a0.av.aC.T a0.c.R) λjl=>tc ((jl.dx==1)&&((wr .i64 jl.gT)==a0.aE)) (.error 5)<|j26 ()) (bd (dz n a0.av.aC.K a0.c.S) λeJ=>tr (dJ n eJ.2) (λTK=>(.error TK)) λg8=>tc (((wr .i64 eJ.1.To)==a0.aE)&&(eJ.1.Region==a0.c.R)) (.error 5)<|j26 ())
def vJ(n:Nat):CT:=cX (tW n [(20, .join [] [])] [bZ n,bO n,mN n,bJ n,nu n,iw n,ez n,Db n]) ⟨141,[], .cons eK .nil, .cons (.v (.st 32)) (.cons eK .nil),[some 0,none],(.cons (.nY 114 (.v (.int .i64))) .nil),[],[[0]]⟩ (λx=>kH n (g7 x)) (λy=>(y.1,g7 y.2)) (λz=>(z.1,(h7 z.2 ()))) u1 m1
def g9(n:Nat)(a0:aq):Option (Except Int (aA×aq)):=bd (dz n a0.av.aC.K a0.c.S) λbg=>tr (dJ n bg.2) (λAe=>(.error Ae)) λbV=>tc ((wr .i64 bg.1.To)==a0.aE) (.error 5)<|bd (eU n a0.av.aC.K a0.c.S) λiv=>lt ({E:=0,V:=0,W:=0}:aA) λew=>some (.ok (ew,{a0 with av:={a0.av with aC:={a0.av.aC with K:=iv.1}}}))
def ru(n:Nat):CT:=cX (tW n [] [bZ n,bO n,iw n,ez n,td n]) ⟨142,[], .cons eK .nil, .cons (.v (.st 32)) (.cons eK .nil),[some 0,none],(.cons (.nY 114 (.v (.int .i64))) .nil),[],[[0]]⟩ (λx=>g9 n (g7 x)) (λy=>(y.1,g7 y.2)) (λz=>(z.1,(h7 z.2 ()))) u1 m1
def sD(n:Nat)(a0:bX)(a1:aZ):Option (bX×Int):=cn (a0.closed) (some (a0,11)) (cn ((a0.n==4)) (some (a0,7)) (bd (rD n a0 a0.n) λbg=>gu (bQ bg 4)<|lt ({a0 with ring:=(dm a0.ring (Int.toNat bg) a1)}:bX) λgH=>lt ({gH with n:=wr .i64 (gH.n+1)}:bX) λiv=>some (iv,0)))
def Ks(n:Nat):CT:=cV (tW n [] [yy n]) (gN 178 [.s 16, .s 15] [.t [.s 16, .i]]) (a2 (sD n)) u2 m2
def kG(n:Nat)(a0:aq):Option (Except Int (aA×aq)):=tr (iy n a0 a0.c.A) (λqy=>(.error qy)) λbg=>tc (decide (a0.c.B<=1)) (.error 2)<|lt ({nB:=wr .u8 a0.aE,xR:=a0.c.V,Region:=a0.c.R,iI:=((a0.c.R !=0)&&(a0.c.B==1))}:aZ) λgH=>lt (λ(iB:aq)=>gu (bQ iB.c.A 8)<|bd (sD n (iB.av.fO (Int.toNat iB.c.A)) gH) λEc=>tr (dJ n Ec.2) (λahY=>(.error ahY)) λx61=>gu (bQ iB.c.A 8)<|lt ({E:=0,V:=0,W:=0}:aA) λRS=>some (.ok (RS,{iB with av:={iB.av with fO:=(dm iB.av.fO (Int.toNat iB.c.A) Ec.1)}}))) λj32=>cn (gH.iI) (tr (iz n a0 a0.c.R) (λaof=>(.error aof)) λs9=>bd (qD n a0.av.aC.O a0.av.aC.T a0.c.R (wr .i64 a0.c.A)) λnt=>cn ((nt.2==0)) (j32 ({a0 with av:={a0.av with aC:={a0.av.aC with O:=nt.1}}})) (j32 a0)) (cn ((a0.c.R !=0)) (tr (cz n a0 a0.c.R 2) (λaoc=>(.error aoc)) λlJ=>tr (iS n a0 a0.c.R) (λaob=>(.error aob)) λgy=>bd (wg n gy.av.aC.O gy.av.aC.T gy.c.R) λDT=>tr (dJ n DT.2) (λan9=>(.error an9)) λAI=>j32 ({gy with av:={gy.av with aC:={gy.av.aC with O:=DT.1}}})) (j32 a0))
def vG(n:Nat):CT:=cX (tW n [(30, .join [(.via 0,eK)] [])] [bZ n,bO n,mN n,po n,AN n,dQ n,qt n,Kr n,ez n,Ks n]) ⟨143,[], .cons eK .nil, .cons (.v (.st 32)) (.cons eK .nil),[some 0,none],(.cons (.nY 114 (.v (.int .i64))) .nil),[],[[0]]⟩ (λx=>kG n (g7 x)) (λy=>(y.1,g7 y.2)) (λz=>(z.1,(h7 z.2 ()))) u1 m1
def uh(n:Nat)(a0:bX):Option (bX×aZ×Int):=cn (((a0.n==0)&&a0.closed)) (lt ({nB:=0,xR:=0,Region:=0,iI:=false}:aZ) λbg=>some (a0,bg,11)) (cn ((a0.n==0)) (lt ({nB:=0,xR:=0,Region:=0,iI:=false}:aZ) λbV=>some (a0,bV,10)) (gu (bQ a0.iH 4)<|lt ((a0.ring (Int.toNat a0.iH)):aZ) λiv=>bd (rD n a0 1) λfX=>lt ({a0 with iH:=fX}:bX) λiB=>lt ({iB with n:=wr .i64 (a0.n-1)}:bX) λeP=>some (eP,iv,0)))
def Jo(n:Nat):CT:=cV (tW n [] [yy n]) (gN 179 [.s 16] [.t [.s 16, .s 15, .i]]) (a1 (uh n)) u3 m3
def fZ(n:Nat)(a0:aq):Option (Except Int (aA×aq)):=gu (bQ a0.aE 8)<|bd (uh n (a0.av.fO (Int.toNat a0.aE))) λbV=>tr (dJ n bV.2.2) (λHO=>(.error HO)) λgH=>gu (bQ a0.aE 8)<|cn (((bV.2.1.Region !=0)&&(!bV.2.1.iI))) (tr (eB n ({a0 with av:={a0.av with fO:=(dm a0.av.fO (Int.toNat a0.aE) bV.1)}}) bV.2.1.Region (({a0 with av:={a0.av with fO:=(dm a0.av.fO (Int.toNat a0.aE) bV.1)}}).aE)) (λaog=>(.error aog)) λgj=>lt ({E:=0,V:=bV.2.1.xR,W:=bV.2.1.Region}:aA) λrL=>some (.ok (rL,gj))) (lt ({E:=0,V:=bV.2.1.xR,W:=bV.2.1.Region}:aA) λgy=>some (.ok (gy,{a0 with av:={a0.av with fO:=(dm a0.av.fO (Int.toNat a0.aE) bV.1)}})))
def vH(n:Nat):CT:=cX (tW n [] [bZ n,bO n,Jo n,ez n,nG n]) ⟨144,[], .cons eK .nil, .cons (.v (.st 32)) (.cons eK .nil),[some 0,none],(.cons (.nY 114 (.v (.int .i64))) .nil),[],[[0]]⟩ (λx=>fZ n (g7 x)) (λy=>(y.1,g7 y.2)) (λz=>(z.1,(h7 z.2 ()))) u1 m1
def xo(n:Nat)(a0:bX):Option (bX×Int):=cn (a0.closed) (some (a0,11)) (lt ({a0 with closed:=true}:bX) λbg=>some (bg,0))
def G4(n:Nat):CT:=cV (tW n [] []) (gN 180 [.s 16] [.t [.s 16, .i]]) (a1 (xo n)) u2 m2
def jI(n:Nat)(a0:aq):Option (Except Int (aA×aq)):=gu (bQ a0.aE 8)<|bd (xo n (a0.av.fO (Int.toNat a0.aE))) λbV=>tr (dJ n bV.2) (λHO=>(.error HO)) λgH=>gu (bQ a0.aE 8)<|lt ({E:=0,V:=0,W:=0}:aA) λgj=>some (.ok (gj,{a0 with av:={a0.av with fO:=(dm a0.av.fO (Int.toNat a0.aE) bV.1)}}))
def uF(n:Nat):CT:=cX (tW n [] [bZ n,bO n,G4 n,ez n]) ⟨145,[], .cons eK .nil, .cons (.v (.st 32)) (.cons eK .nil),[some 0,none],(.cons (.nY 114 (.v (.int .i64))) .nil),[],[[0]]⟩ (λx=>jI n (g7 x)) (λy=>(y.1,g7 y.2)) (λz=>(z.1,(h7 z.2 ()))) u1 m1
def lQ(n:Nat)(a0:aq):Option (Except Int (aA×aq)):=tr (cz n a0 a0.c.R 1) (λqy=>(.error qy)) λbg=>lt (λ(u22:Unit)=>bd (jh n a0.av.aC.O a0.av.aC.T a0.c.S) λjl=>bd (Cg n a0.av.aC.T a0.c.R (wr .i64 (if 8<a0.c.A then 8 else a0.c.A)) a0.c.S (jl.dx==3)) λdZ=>tr (dJ n dZ.2) (λTJ=>(.error TJ)) λrL=>lt ({E:=0,V:=0,W:=0}:aA) λoT=>some (.ok (oT,{a0 with av:={a0.av with aC:={a0.av.aC with T:=dZ.1}}}))) λj23=>cn ((a0.c.S !=0)) (tr (cz n a0 a0.c.S 0) (λPm=>(.error Pm)) λiv=>j23 ()) (j23 ())
def wQ(n:Nat):CT:=cX (tW n [(8, .join [(.via 0,eK)] [])] [bZ n,bO n,dQ n,nu n,Sk n,ez n]) ⟨146,[], .cons eK .nil, .cons (.v (.st 32)) (.cons eK .nil),[some 0,none],(.cons (.nY 114 (.v (.int .i64))) .nil),[],[[0]]⟩ (λx=>lQ n (g7 x)) (λy=>(y.1,g7 y.2)) (λz=>(z.1,(h7 z.2 ()))) u1 m1
def jH(n:Nat)(a0:aq):Option (Except Int aA):=tr (cz n a0 a0.c.R 0) (λqy=>(.error qy)) λbg=>bd (Ah n a0.av.aC.T a0.c.R (wr .i64 (if 8<a0.c.A then 8 else a0.c.A))) λiv=>tr (dJ n iv.2) (λah1=>(.error ah1)) λfX=>lt ({E:=0,V:=0,W:=iv.1}:aA) λiB=>some (.ok iB)
def uE(n:Nat):CT:=cX (tW n [] [bZ n,bO n,dQ n,Oa n,ez n]) ⟨147,[(143, .st (.part 952 (.v (.st 17)) (.part 1 (.v (.int .i64)) (.part 6 (.v (.st 0)) (.part 2 (.v (.st 5)) (.part 1 (.v (.int .i64)) (.part 1 (.v .bool) (.part 1 (.row 110 2 (.st 5)) .nil))))))))], .cons (.cQ 0) .nil, .cons (.v (.st 32)) .nil,[],(.cons (.nY 114 (.v (.int .i64))) .nil),[],[]⟩ (λx=>jH n (g7 x)) u1 m1 u1 m1
def kJ(n:Nat)(a0:aq):Option (Except Int (aA×aq)):=tr (mU n a0 a0.aE) (λqy=>(.error qy)) λbg=>lt ({E:=0,V:=0,W:=0}:aA) λg8=>some (.ok (g8,bg))
def vL(n:Nat):CT:=cX (tW n [] [bZ n,bO n,vN n]) ⟨148,[], .cons eK .nil, .cons (.v (.st 32)) (.cons eK .nil),[some 0,none],(.cons (.nY 114 (.v (.int .i64))) .nil),[],[[0]]⟩ (λx=>kJ n (g7 x)) (λy=>(y.1,g7 y.2)) (λz=>(z.1,(h7 z.2 ()))) u1 m1
def kI(n:Nat)(a0:aq):Option (Except Int (aA×aq)):=tr (iy n a0 a0.c.A) (λqy=>(.error qy)) λbg=>tr (mU n a0 (wr .i64 a0.c.A)) (λAe=>(.error Ae)) λbV=>lt ({E:=0,V:=0,W:=0}:aA) λs9=>some (.ok (s9,bV))
def vK(n:Nat):CT:=cX (tW n [] [bZ n,bO n,mN n,vN n]) ⟨149,[], .cons eK .nil, .cons (.v (.st 32)) (.cons eK .nil),[some 0,none],(.cons (.nY 114 (.v (.int .i64))) .nil),[],[[0]]⟩ (λx=>kI n (g7 x)) (λy=>(y.1,g7 y.2)) (λz=>(z.1,(h7 z.2 ()))) u1 m1
def jC(n:Nat)(a0:aq):Option (Except Int (aA×aq)):=gu (!((decide (a0.c.A<8))==true)||bQ (Int.tmod a0.c.A 8) 8)<|tc (decide (a0.c.A<8)&&(!(a0.av.qm (Int.toNat (Int.tmod a0.c.A 8))))) (.error 2)<|gu (bQ a0.c.A 8)<|gu (bQ a0.c.A 8)<|lt ({E:=0,V:=0,W:=0}:aA) λeJ=>some (.ok (eJ,{({a0 with av:={a0.av with di:=(dm a0.av.di (Int.toNat a0.c.A) true)}})with av:={({a0 with av:={a0.av with di:=(dm a0.av.di (Int.toNat a0.c.A) true)}}).av with qm:=(dm ((({a0 with av:={a0.av with di:=(dm a0.av.di (Int.toNat a0.c.A) true)}}).av).qm) (Int.toNat a0.c.A) true)}}))
def uz(n:Nat):CT:=cX (tW n [] [bZ n,bO n]) ⟨150,[], .cons eK .nil, .cons (.v (.st 32)) (.cons eK .nil),[some 0,none],(.cons (.nY 114 (.v (.int .i64))) .nil),[],[[0]]⟩ (λx=>jC n (g7 x)) (λy=>(y.1,g7 y.2)) (λz=>(z.1,(h7 z.2 ()))) u1 m1
end
end Go.Proofs.Z
namespace Go.Proofs.Z
open Go Go.Bw
def OF(k:ay)(z:az)(g:Int):List Int:=dk z.B (λi=>(k.aI i).Region==g) 32
def SY(w:ai)(k:ay)(z:az)(h what:Int):Bool:=if what=0 then tI k z h 0 else if what=1 then qQ k z h 0 else if what=2 then(fY w h).all λx=>(OF k z x).isEmpty else false
def Wj(k:ay)(z:az)(aE h what t:Int):Bool:=((k.aI (aY t)).To==aE)&&(((what==0)&&tI k z h t)||(((what==1)&&(k.aI (aY t)).bF)&&qQ k z h t))
def K6(k:ay)(z:az)(aE h what:Int):Bool:=(OF k z h).any (Wj k z aE h what)
section
variable {k:ay} {z:az}
theorem SZ(r:RT k z){g x:Int}:x∈OF k z g↔aQ z.B x/\(k.aI (aY x)).Region=g:=by unfold OF;rw[y8 r.bj,beq_iff_eq]
end
end Go.Proofs.Z
namespace Go.Proofs.Z
open Go Go.Bw
set_option maxRecDepth 100000 in
theorem abx:Xw (λv a _ =>((lV .u8 (Fw .u8 (v:Int) (a:Int)) 1==1)==v.testBit a))=true:=by kernel_rfl
theorem ajW{v a:Int}(hv:0<=v/\v<=255)(ha:0<=a/\a<8):(lV .u8 (Fw .u8 v a) 1==1)=AR v a.toNat:=by
 obtain⟨u,rfl⟩:=VO hv;obtain⟨c,rfl⟩:=Qh ha;have:=Pv abx u c c;simp only[beq_iff_eq]at this;have e:(((c.val:Nat):Int)).toNat=c.val:=aoZ _;rw[e];have h2:AR (u.val:Int) c.val=u.val.testBit c.val:=by unfold AR;rw[aoZ]
 rw[h2, ← this]
theorem afs{n:Nat}{l:List Int}(f:Int->Option Bool)(p:Int->Bool)(hf:∀x∈l,f x=some (p x))(hl:l.length<=100):∀m,110<=m->∃i,fK (λzX (bV:Int)=>cn (decide (bV<(l.length:Int))) (gu (bQ bV l.length)<|bd (f (l.getD (Int.toNat bV) default)) λeP=>cn (eP) (some bV) (zX (wr .i64 (bV+1)))) (some (-1))) m 0=some i/\decide (0<=i)=l.any p:=by
 intro m hm;refine je (λ(i:Int)=>∃k:Nat,i=k/\k<=l.length/\(l.take k).any p=false) (λi=>((l.length:Int)-i).toNat) (λo=>∃i,o=some i/\decide (0<=i)=l.any p) ?_ m 0 ⟨0,rfl,by omega,by simp⟩ (by omega);rintro kk i ⟨k,rfl,hk,hp⟩ ih;by_cases c:k<l.length
 ·have hx:=gP (l:=l) (i:=k) c
  rw[ak (aoY (by omega)),ax (bK (by omega) (by omega)),aoZ,ah (hf _ hx),aL (by omega) (by omega)];cases hq:p (l.getD k default)with
  |true=>rw[ak rfl];exact⟨_,rfl,by rw[aoY (by omega),List.any_eq_true.2 ⟨_,hx,hq⟩]⟩
  |false=>rw[ae rfl];refine ih _ ⟨k+1,by omega,by omega,?_⟩ (by omega);rw[ao4 c, ← fq c,List.any_append,hp,Bool.false_or,List.any_cons,hq];rfl
 ·rw[ae (ao5 (by omega))]
  rw[List.take_of_length_le (by omega)]at hp;exact⟨_,rfl,by rw[hp];rfl⟩
theorem afI{l:List Int}{ρ:Type}(f:Int->(Bool->Option ρ)->Option ρ)(p:Int->Bool)(hf:∀k:Nat,k<l.length->∀F,f (k:Int) F=F (p (l.getD k default)))(hl:l.length<=100)(A B:Option ρ):∀m,110<=m->fK (λzX (bV:Int)=>cn (decide (bV<(l.length:Int))) (f bV λb=>cn b A (zX (wr .i64 (bV+1)))) B) m 0=if l.any p=true then A else B:=by
 intro m hm;refine je (λ(i:Int)=>∃k:Nat,i=k/\k<=l.length/\(l.take k).any p=false) (λi=>((l.length:Int)-i).toNat) (λo=>o=if l.any p=true then A else B) ?_ m 0 ⟨0,rfl,by omega,by simp⟩ (by omega);rintro kk i ⟨k,rfl,hk,hp⟩ ih;by_cases c:k<l.length
 ·have hx:=gP (l:=l) (i:=k) c
  rw[ak (aoY (by omega)),hf k c,aL (by omega) (by omega)];cases hq:p (l.getD k default)with
  |true=>rw[ak rfl,aoU (List.any_eq_true.2 ⟨_,hx,hq⟩)]
  |false=>rw[ae rfl];refine ih _ ⟨k+1,by omega,by omega,?_⟩ (by omega);rw[ao4 c, ← fq c,List.any_append,hp,Bool.false_or,List.any_cons,hq];rfl
 ·rw[ae (ao5 (by omega))]
  rw[List.take_of_length_le (by omega)]at hp;rw[hp];rfl
def Ta(w:ai)(o:bM)(k:ay)(z:az)(aE h what:Int):Int:=if aM w.B h=true then(if(lK w o h).dx=3 then(if what=0/\(0<=aE/\aE<8)/\AR (lK w o h).dR aE.toNat=true then 0 else 5) else if(lK w o h).dx=1 then(if((((lK w o h).gT==aE)&&SY w k z h what)||K6 k z aE h what)=true then 0 else 5) else 5) else 4
section
variable {n:Nat} {t:au} {w:ai} {o:bM} {v:aS} {k:ay} {z:az}
theorem ZK(z:az)(k:ay)(g:Int):(OF k z g).length<=32:=pz _ _ _
theorem ZJ(rk:RT k z){g x:Int}(h:x∈OF k z g):0<=x/\x<4294967296:=by have:=((SZ rk).1 h).1;exact⟨this.1,gh this.2⟩
theorem VC{l:List Int}:decide (0<(l.length:Int))= !l.isEmpty:=by
 cases l with
 |nil=>rfl
 |cons x l=>simp
theorem VT{l:List Int}{p:Int->Bool}:(!l.any λx=> !p x)=l.all p:=by
 induction l with
 |nil=>rfl
 |cons x l ih=>rw[List.any_cons,List.all_cons,Bool.not_or,ih,Bool.not_not]
theorem agH(hn:200<=n)(r:gI t w)(tt:jV w)(rk:RT k z){h:Int}(h0:0<=h)(h1:h<4294967296)(what:Int):lW n ⟨t,o,k⟩ h what=some (SY w k z h what):=by
 unfold lW SY;by_cases w0:what=0
 ·rw[ak (by simpa using w0),aoU w0]
  unfold ox;rw[ah (Qu (by omega) rk h (a:=0) (by omega) (by omega))];exact(uj (by rfl) rfl).trans (by simp)
 rw[ae (by simpa using w0),aoV w0];by_cases w1:what=1
 ·rw[ak (by simpa using w1),aoU w1]
  unfold ow;rw[ah (M0 (by omega) rk h (a:=0) (by omega) (by omega))];exact(uj (by rfl) rfl).trans (by simp)
 rw[ae (by simpa using w1),aoV w1];by_cases w2:what=2
 ·rw[ak (by simpa using w2),aoU w2]
  have hl:=(xW r tt h).2;obtain⟨i,i1,i2⟩:=afs (n:=n) (l:=fY w h) (λx=>nh n x ⟨t,o,k⟩) (λx=> !(OF k z x).isEmpty) (λx hx=>by
   unfold nh;rw[ah (ZL (by omega) rk x),VC];rfl) (by omega) n (by omega)
  have e3:mm n ⟨t,o,k⟩ h=some ((fY w h).all λx=>(OF k z x).isEmpty):=by unfold mm eE fA;rw[ah (Sr (by omega) r tt h0 h1),ah (ah (f:=λj=>some (decide (0<=j))) i1),i2,VT]
  exact(uj (by rfl) e3).trans (by simp)
 ·rw[ae (by simpa using w2),aoV w2]
theorem aag(hn:200<=n)(rk:RT k z){x aE h what:Int}(hx:x∈OF k z h):ni n x ⟨t,o,k⟩ aE what h=some (Wj k z aE h what x):=by
 have hg:=((SZ rk).1 hx).1;have hr:=ZJ rk hx;unfold ni Wj;have hT:A4 k z x=k.aI (aY x):=by unfold A4;rw[hg.2];rfl
 have hto:=(rk.RY _ (rk.Jv (iO x) (gM hg.2).2.1) (gM hg.2).2.1).2.to;rw[ah (ahN rk hr.1 hr.2),hT];dsimp only;rw[aL (by omega) (by omega),cK (Qu (by omega) rk h hr.1 hr.2),cK (M0 (by omega) rk h hr.1 hr.2)];cases(k.aI (aY x)).To==aE<;>cases what==0<;>cases tI k z h x<;>cases what==1<;>cases(k.aI (aY x)).bF<;>cases qQ k z h x<;>rfl
theorem W2(hn:200<=n)(rk:RT k z)(aE h what:Int):qX n ⟨t,o,k⟩ aE h what=some (K6 k z aE h what):=by unfold qX fB fU K6;have hl:=ZK z k h;have e:kO n k h=some (OF k z h):=ZL (by omega) rk h;obtain⟨i,i1,i2⟩:=afs (n:=n) (l:=OF k z h) (λx=>ni n x ⟨t,o,k⟩ aE what h) (Wj k z aE h what) (λx hx=>aag hn rk hx) (by omega) n (by omega);dsimp only;rw[ah e,ah (ah (f:=λj=>some (decide (0<=j))) i1),i2]
theorem Z9(hn:200<=n)(r:gI t w)(tt:jV w)(q:OwR w o λ_ =>True)(rk:RT k z){h:Int}(h0:0<=h)(h1:h<4294967296)(aE what:Int):sO n ⟨t,o,k⟩ aE h what=some (Ta w o k z aE h what):=by
 unfold sO Ta;dsimp only;rw[ah (nZ r.bj h0 h1)];cases hg:aM w.B h with
 |false=>rfl
 |true=>
  have hG:=sC q h;rw[ae (b:= !true) rfl,aoU rfl,ah (Hp (by omega) r tt h0 h1)];generalize lK w o h=x at hG;by_cases k3:x.dx=3
  ·rw[ak (by simpa using k3),aoU k3]
   by_cases hc:what=0/\0<=aE/\aE<8
   ·obtain⟨w0,t0,t1⟩:=hc
    have e1:(((what==0)&&decide (0<=aE))&&decide (aE<8))=true:=by rw[aoY t0,aoY t1,w0];rfl
    rw[e1,aoY t0,ax (by rfl),ajW hG.hr ⟨t0,t1⟩];by_cases hb:AR x.dR aE.toNat=true
    ·rw[hb,aoU ⟨w0,⟨t0,t1⟩,rfl⟩];rfl
    ·rw[aoV (λhh=>hb hh.2.2)]
     have:AR x.dR aE.toNat=false:=by simpa using hb
     rw[this];rfl
   ·have e1:(((what==0)&&decide (0<=aE))&&decide (aE<8))=false:=by
     rw[Bool.and_eq_false_iff,Bool.and_eq_false_iff,beq_eq_false_iff_ne,decide_eq_false_iff_not,decide_eq_false_iff_not];by_cases a:what=0
     ·by_cases b:0<=aE
      ·exact .inr λd=>hc ⟨a,b,d⟩
      ·exact .inl (.inr b)
     ·exact .inl (.inl a)
    rw[e1,ax (by rfl),aoV (λhh=>hc ⟨hh.1,hh.2.1⟩)];rfl
  ·rw[ae (by simpa using k3),aoV k3]
   by_cases k1:x.dx=1
   ·have ht:=hG.tr
    rw[ak (by simpa using k1),aoU k1,aL (by omega) (by omega),cK (agH hn r tt rk h0 h1 what),cK (W2 hn rk aE h what)];cases x.gT==aE<;>cases SY w k z h what<;>cases K6 k z aE h what<;>rfl
   ·rw[ae (by simpa using k1),aoV k1]
theorem UI(hn:40<=n)(rk:RT k z){g:Int}(hg:0<=g):dA n z g (-1)=some (OF k z g):=by
 refine(BS hn rk g (-1)).trans (congrArg some (v5 (λi _ _ =>?_) 32 (Nat.le_refl _)));have:decide (g<0)=false:=by simpa using hg
 simp[this]
theorem WA(hn:200<=n)(r:gI t w)(tt:jV w)(rk:RT k z){h:Int}(h0:0<=h)(what:Int):qR n ⟨w,v,z⟩ h what=some (SY w k z h what):=by
 unfold qR SY;dsimp only;by_cases w0:what=0
 ·rw[ak (by simpa using w0),aoU w0,ah (BU (by omega) rk h (a:=0) (by omega))]
 rw[ae (by simpa using w0),aoV w0];by_cases w1:what=1
 ·rw[ak (by simpa using w1),aoU w1,ah (zK (by omega) rk h (a:=0) (by omega))]
 rw[ae (by simpa using w1),aoV w1,ah (FH hn r tt h0)];have hu:=Ft r tt h;have hl:=(xW r tt h).2;generalize fY w h=l at hu hl;have key:=afI (l:=l) (ρ:=Bool) (λi F=>gu (bQ i l.length)<|bd (dA n z (l.getD i.toNat default) (-1)) λjN=>F (decide (0<(jN.length:Int)))) (λx=> !(OF k z x).isEmpty) (λi hi F=>by
  rw[ax (bK (by omega) (by omega)),aoZ,ah (UI (by omega) rk (hu _ (gP hi)).1),VC]) (by omega) (some false) (some (what==2)) n (by omega)
 refine key.trans ?_;rw[← VT (p:=λx=>(OF k z x).isEmpty)];by_cases w2:what=2
 ·rw[aoU w2,w2]
  cases l.any λx=> !(OF k z x).isEmpty<;>rfl
 ·rw[aoV w2]
  have:(what==2)=false:=by simpa using w2
  rw[this];cases l.any λx=> !(OF k z x).isEmpty<;>rfl
theorem Zd(hn:200<=n)(r:gI t w)(tt:jV w)(p:DK w o v)(hr:v.cR.length+100<=n/\v.cR.length<=100000)(rk:RT k z){h:Int}(h0:0<=h)(aE what:Int):eF n ⟨w,v,z⟩ aE h what=some (Ta w o k z aE h what):=by
 unfold eF Ta;dsimp only;rw[ah (cj (by omega) r h0)];cases hg:aM w.B h with
 |false=>rfl
 |true=>
  have hG:=sC p.q h;have hR:=zI r tt p h0;rw[ae (b:= !true) rfl,aoU rfl,ah (Hi hn r tt p.l hr h0)];generalize lK w o h=x at hG hR;generalize D1 w v h=y at hR;rw[← hR.k, ← hR.t];have ha7:=T5 aE;rw[bK (i:=lV .i64 aE 7) (by omega) (by omega),Bool.or_true,ax rfl];by_cases k3:x.dx=3
  ·rw[aoU k3]
   have k1:(x.dx !=1)=true:=by rw[k3];rfl
   by_cases hc:what=0/\0<=aE/\aE<8
   ·obtain⟨w0,t0,t1⟩:=hc
    have e1:((((x.dx==3)&&(what==0))&&decide (0<=aE))&&decide (aE<8))=true:=by rw[aoY t0,aoY t1,w0,k3];rfl
    rw[e1,LL ⟨t0,t1⟩,hR.h _ (by omega),Bool.true_and];by_cases hb:AR x.dR aE.toNat=true
    ·rw[hb,aoU ⟨w0,⟨t0,t1⟩,rfl⟩];rfl
    ·rw[aoV (λhh=>hb hh.2.2)]
     have:AR x.dR aE.toNat=false:=by simpa using hb
     rw[this,k1];rfl
   ·have e1:((((x.dx==3)&&(what==0))&&decide (0<=aE))&&decide (aE<8))=false:=by
     rw[Bool.and_eq_false_iff,Bool.and_eq_false_iff,Bool.and_eq_false_iff,beq_eq_false_iff_ne,beq_eq_false_iff_ne,decide_eq_false_iff_not,decide_eq_false_iff_not];by_cases a:what=0
     ·by_cases b:0<=aE
      ·exact .inr λd=>hc ⟨a,b,d⟩
      ·exact .inl (.inr b)
     ·exact .inl (.inl (.inr a))
    rw[e1,k1,aoV (λhh=>hc ⟨hh.1,hh.2.1⟩)];rfl
  ·have e3:(x.dx==3)=false:=by simpa using k3
   rw[aoV k3,e3,Bool.false_and,Bool.false_and,Bool.false_and,Bool.false_and,ae rfl];by_cases k1:x.dx=1
   ·have e1:(x.dx !=1)=false:=by simpa using k1
    rw[e1,ae rfl,aoU k1,cK (WA hn r tt rk h0 what)];have hto:∀a∈OF k z h,aQ z.B a/\A4 k z a=k.aI (aY a):=λa ha=>by have Ld:=((SZ rk).1 ha).1;exact⟨Ld,by unfold A4;rw[Ld.2];rfl⟩
    have hl:=ZK z k h;have hrn:∀a∈OF k z h,0<=a/\a<4294967296:=λa ha=>ZJ rk ha;have key:∀F:Int->Option Int,(bd (dA n z h (-1)) λeJ=>fK (λk39 (nt:Int)=>cn (decide (nt<(eJ.length:Int))) (gu (bQ nt eJ.length)<|bd (iC n z (eJ.getD (Int.toNat nt) default)) λgy=>gu (!(((gy.1.To==aE)==true)&&((what==0)==true))||bQ nt eJ.length)<|cl (((gy.1.To==aE)==true)&&((what==0)==true)) (eG n z h (eJ.getD (Int.toNat nt) default)) default λoT=>gu (!((((gy.1.To==aE)==true)&&(((what==0)&&oT)==false))&&(((what==1)&&gy.1.bF)==true))||bQ nt eJ.length)<|cl ((((gy.1.To==aE)==true)&&(((what==0)&&oT)==false))&&(((what==1)&&gy.1.bF)==true)) (eu n z h (eJ.getD (Int.toNat nt) default)) default λmy=>cn (((gy.1.To==aE)&&(((what==0)&&oT)||(((what==1)&&gy.1.bF)&&my)))) (some (0:Int)) (k39 (wr .i64 (nt+1)))) (some 5)) n 0)=some (if K6 k z aE h what=true then(0:Int)else 5):=λ_ =>by
     rw[ah (UI (by omega) rk h0)];unfold K6;generalize OF k z h=l at hto hl hrn;refine(afI (l:=l) (ρ:=Int) (λi F=>gu (bQ i l.length)<|bd (iC n z (l.getD (Int.toNat i) default)) λgy=>gu (!(((gy.1.To==aE)==true)&&((what==0)==true))||bQ i l.length)<|cl (((gy.1.To==aE)==true)&&((what==0)==true)) (eG n z h (l.getD (Int.toNat i) default)) default λoT=>gu (!((((gy.1.To==aE)==true)&&(((what==0)&&oT)==false))&&(((what==1)&&gy.1.bF)==true))||bQ i l.length)<|cl ((((gy.1.To==aE)==true)&&(((what==0)&&oT)==false))&&(((what==1)&&gy.1.bF)==true)) (eu n z h (l.getD (Int.toNat i) default)) default λmy=>F (((gy.1.To==aE)&&(((what==0)&&oT)||(((what==1)&&gy.1.bF)&&my))))) (Wj k z aE h what) (λi hi F=>?_) (by omega) (some 0) (some 5) n (by omega)).trans (apply_ite some _ _ _).symm
     have hm:=gP (l:=l) (i:=i) hi;have hin:bQ (i:Int) l.length=true:=bK (by omega) (by omega);rw[aoZ,hin,ax rfl];generalize l.getD i default=a at hm;have hT:=(hto a hm).2;have har:=hrn a hm;have hgd:=(hto a hm).1;rw[ah (Oz (by omega) rk har.1),hT];dsimp only;rw[Bool.or_true,ax rfl,cK (BU (by omega) rk h har.1),Bool.or_true,ax rfl,cK (zK (by omega) rk h har.1)];unfold Wj D2;dsimp only;congr 1;cases(k.aI (aY a)).To==aE<;>cases what==0<;>cases tI k z h a<;>cases what==1<;>cases(k.aI (aY a)).bF<;>cases qQ k z h a<;>rfl
    rw[key (λ_ =>none)];cases x.gT==aE<;>cases SY w k z h what<;>cases K6 k z aE h what<;>rfl
   ·have e1:(x.dx !=1)=true:=by simpa using k1
    rw[e1,aoV k1];rfl
end
end Go.Proofs.Z
namespace Go.Proofs.Z
open Go Go.Bw
def D7(w:ai)(x c:Int):Int×Int:=if aM w.B x=true then(if 0<=c/\c<8 then(if(w.R (aY x)).bC c.toNat=0 then(0,10)else if aM w.B ((w.R (aY x)).bC c.toNat)=true then((w.R (aY x)).bC c.toNat,0)else(0,4))else(0,2))else(0,4)
def E7(w:ai)(x c z:Int)(pM:Bool):Int:=if aM w.B x=true/\(z=0\/aM w.B z=true)then(if 0<=c/\c<8 then(if z=0\/pM=true\/yD w z x=true then 0 else 5)else 2)else 4
def C7(w:ai)(x c z:Int):ai:=AU w x {w.R (aY x)with bC:=dm (w.R (aY x)).bC c.toNat z}
section
variable {n:Nat} {t:au} {w:ai}
theorem UG(r:gI t w){x:Int}(x0:0<=x)(x1:x<4294967296)(c:Int):uR n t x c=some (if aM w.B x=true then(if 0<=c/\c<8 then .ok (p8 t w x)else .error 2)else .error 4):=by
 unfold uR;rw[ah (z8 r x0 x1)];cases hg:aM w.B x with
 |false=>rfl
 |true=>
  rw[aoU rfl,aoU rfl];by_cases hc:0<=c/\c<8
  ·have e:(decide (0<=c)&&decide (c<8))=true:=by simpa using hc
   rw[aoU hc,e];rfl
  ·have e:(decide (0<=c)&&decide (c<8))=false:=by rw[Bool.and_eq_false_iff,decide_eq_false_iff_not,decide_eq_false_iff_not];omega
   rw[aoV hc,e];rfl
theorem YF{α β:Type}{x:Option (Except Int α)}{a:α}{f:Int->β}{k:α->Option β}(h:x=some (.ok a)):tr x f k=k a:=by rw[h];rfl
theorem Ss{α β:Type}{x:Option (Except Int α)}{e:Int}{f:Int->β}{k:α->Option β}(h:x=some (.error e)):tr x f k=some (f e):=by rw[h];rfl
theorem aic(r:gI t w){x:Int}(x0:0<=x)(x1:x<4294967296)(c:Int):Ah n t x c=some (D7 w x c):=by
 unfold Ah D7;have hR:=UG (n:=n) r x0 x1 c;cases hg:aM w.B x with
 |false=>rw[hg,aoV (by decide)]at hR;rw[aoV (by decide),Ss hR]
 |true=>
  rw[hg,aoU rfl]at hR;rw[aoU rfl];by_cases hc:0<=c/\c<8
  ·rw[aoU hc]at hR
   rw[aoU hc,YF hR,ax (bK hc.1 hc.2)];obtain⟨l1,l2⟩:=fg ⟨x0,hg⟩;have hr:=r.reg _ l1 l2;have hk:c.toNat<8:=by omega
   have hcell:(p8 t w x).bC c.toNat=(w.R (aY x)).bC c.toNat:=hr.c _ hk;have Dt:=hr.c0 _ hk;rw[hcell];generalize(w.R (aY x)).bC c.toNat=z at Dt;rw[ah (nZ r.bj Dt.1 (by omega))];by_cases hz:z=0
   ·subst hz;rfl
   ·have e:(z !=0)=true:=by simpa using hz
    rw[aoV hz,e];cases aM w.B z<;>rfl
  ·rw[aoV hc]at hR;rw[aoV hc,Ss hR]
theorem WD(hn:40<=n)(r:gI t w){x:Int}(x0:0<=x)(c:Int):xZ n w x c=some (D7 w x c):=by
 unfold xZ D7;rw[ah (cj hn r x0)];cases hg:aM w.B x with
 |false=>rfl
 |true=>
  rw[ae (b:= !true) rfl,aoU rfl];by_cases hc:0<=c/\c<8
  ·have e:(decide (c<0)||decide (7<c))=false:=by rw[Bool.or_eq_false_iff,decide_eq_false_iff_not,decide_eq_false_iff_not];omega
   obtain⟨l1,l2⟩:=fg ⟨x0,hg⟩;have Dt:=(r.reg _ l1 l2).c0 c.toNat (by omega);rw[aoU hc,e,ae rfl,ah (cW hn r.bj x0),hg,aoU rfl,ax (gR x),ax (bK hc.1 hc.2)];show cn ((w.R (aY x)).bC c.toNat==0) (some (0,10)) (bd (bH n w ((w.R (aY x)).bC c.toNat)) λfX=>cn (!fX) (some (0,4)) (some ((w.R (aY x)).bC c.toNat,0)))=_;generalize(w.R (aY x)).bC c.toNat=z at Dt;rw[ah (cj hn r Dt.1)];by_cases hz:z=0
   ·subst hz;rfl
   ·have e:(z==0)=false:=by simpa using hz
    rw[aoV hz,e,ae rfl];cases aM w.B z<;>rfl
  ·have e:(decide (c<0)||decide (7<c))=true:=by rw[Bool.or_eq_true,decide_eq_true_eq,decide_eq_true_eq];omega
   rw[aoV hc,e];rfl
theorem aem{x c z:Int}{pM:Bool}(h:¬(aM w.B x=true/\(z=0\/aM w.B z=true))):E7 w x c z pM=4:=aoV h
theorem alz{x c z:Int}{pM:Bool}(h:aM w.B x=true/\(z=0\/aM w.B z=true))(hc:¬(0<=c/\c<8)):E7 w x c z pM=2:=(aoU h).trans (aoV hc)
theorem aly{x c z:Int}{pM:Bool}(h:aM w.B x=true/\(z=0\/aM w.B z=true))(hc:0<=c/\c<8)(ho:¬(z=0\/pM=true\/yD w z x=true)):E7 w x c z pM=5:=(aoU h).trans ((aoU hc).trans (aoV ho))
theorem alA{x c z:Int}{pM:Bool}(h:aM w.B x=true/\(z=0\/aM w.B z=true))(hc:0<=c/\c<8)(ho:z=0\/pM=true\/yD w z x=true):E7 w x c z pM=0:=(aoU h).trans ((aoU hc).trans (aoU ho))
theorem or7{z:Int}{a:Bool}:((z==0)||a)=true↔z=0\/a=true:=by rw[Bool.or_eq_true,beq_iff_eq]
theorem ads{z:Int}{a:Bool}(h:¬(z=0\/a=true)):((z==0)||a)=false:=by rw[← Bool.not_eq_true,or7];exact h
theorem ac9(hn:200<=n)(r:gI t w)(tt:jV w){x z:Int}(x0:0<=x)(z0:0<=z)(c:Int)(pM:Bool):y5 n w x c z pM=some (if E7 w x c z pM=0 then C7 w x c z else w,E7 w x c z pM):=by
 unfold y5;rw[ah (cj (by omega) r x0),cK (cj (by omega) r z0)];cases hg:aM w.B x with
 |false=>rw[aem (λh=>by rw[hg]at h;exact absurd h.1 (by decide))];rfl
 |true=>
  have e0:((!true)||((z !=0)&&(!(bif ((!true)==false)&&((z !=0)==true)then aM w.B z else default))))= !((z==0)||aM w.B z):=by
   by_cases hz:z=0
   ·subst hz;rfl
   ·have e1:(z !=0)=true:=by simpa using hz
    have e2:(z==0)=false:=by simpa using hz
    rw[e1,e2];cases aM w.B z<;>rfl
  rw[e0];by_cases QZ:z=0\/aM w.B z=true
  ·rw[or7.2 QZ,ae (b:= !true) rfl]
   by_cases hc:0<=c/\c<8
   ·have e:(decide (c<0)||decide (7<c))=false:=by rw[Bool.or_eq_false_iff,decide_eq_false_iff_not,decide_eq_false_iff_not];omega
    rw[e,ae rfl,cK (UH hn r tt z0 x0)];have e2:(((z !=0)&&(!pM))&&(!(bif ((z !=0)&&(!pM))==true then yD w z x else default)))= !((z==0)||(pM||yD w z x)):=by
     by_cases hz:z=0
     ·subst hz;rfl
     ·have e1:(z !=0)=true:=by simpa using hz
      have e2:(z==0)=false:=by simpa using hz
      rw[e1,e2];cases pM<;>cases yD w z x<;>rfl
    rw[e2];by_cases ho:z=0\/pM=true\/yD w z x=true
    ·rw[or7.2 (by rw[Bool.or_eq_true];exact ho),ae (b:= !true) rfl,alA ⟨hg,QZ⟩ hc ho,aoU rfl,ah (cW (by omega) r.bj x0),aoU hg,ax (gR x),ax (bK hc.1 hc.2),aJ]
     rfl
    ·rw[ads (by rw[Bool.or_eq_true];exact ho),ak (b:= !false) rfl,aly ⟨hg,QZ⟩ hc ho];rfl
   ·have e:(decide (c<0)||decide (7<c))=true:=by rw[Bool.or_eq_true,decide_eq_true_eq,decide_eq_true_eq];omega
    rw[e,alz ⟨hg,QZ⟩ hc];rfl
  ·rw[ads QZ,ak (b:= !false) rfl,aem (λh=>QZ h.2)];rfl
theorem ane(hn:200<=n)(r:gI t w)(tt:jV w)(i:zn w){x z:Int}(x0:0<=x)(x1:x<4294967296)(z0:0<=z)(z1:z<4294967296)(c:Int)(pM:Bool):
  ∃t',Cg n t x c z pM=some (t',E7 w x c z pM)/\gI t' (if E7 w x c z pM=0 then C7 w x c z else w)/\jV (if E7 w x c z pM=0 then C7 w x c z else w)/\zn (if E7 w x c z pM=0 then C7 w x c z else w):=by
 have hP:∃t',Ga n t x c z pM=some (t',E7 w x c z pM)/\(E7 w x c z pM=0->gI t' (C7 w x c z)/\jV (C7 w x c z)/\zn (C7 w x c z)):=by
  unfold Ga;have hR:=UG (n:=n) r x0 x1 c;rw[ah (nZ r.bj x0 x1),cK (nZ r.bj z0 z1)];cases hg:aM w.B x with
  |false=>rw[aem (λh=>by rw[hg]at h;exact absurd h.1 (by decide))];exact⟨_,rfl,λh=>absurd h (by decide)⟩
  |true=>
   rw[hg,aoU rfl]at hR;have e0:(true&&((z==0)||(bif (true==true)&&((z==0)==false)then aM w.B z else default)))=((z==0)||aM w.B z):=by
    by_cases hz:z=0
    ·subst hz;rfl
    ·have e2:(z==0)=false:=by simpa using hz
     rw[e2];rfl
   rw[e0];by_cases QZ:z=0\/aM w.B z=true
   ·rw[or7.2 QZ]
    show∃t',tr _ _ _ =some (t',_)/\_;by_cases hc:0<=c/\c<8
    ·rw[aoU hc]at hR
     rw[YF hR,cK (OE (by omega) r tt z0 z1 x0 x1)];have e2:(((z==0)||pM)||(bif (((z==0)||pM)==false)then yD w z x else default))=((z==0)||(pM||yD w z x)):=by cases z==0<;>cases pM<;>cases yD w z x<;>rfl
     rw[e2];by_cases ho:z=0\/pM=true\/yD w z x=true
     ·obtain⟨t',s1,s2,s3,s4,s5⟩:=alO (n:=n) hn r tt i ⟨x0,hg⟩ z0 z1 (k:=c.toNat) (by omega)
      rw[or7.2 (by rw[Bool.or_eq_true];exact ho),alA ⟨hg,QZ⟩ hc ho];refine⟨t',?_,λ_ =>⟨s3,s4,s5⟩⟩;show gu (bQ c 8) _ =_;rw[ax (bK hc.1 hc.2),aJ,ah s1]
     ·rw[ads (by rw[Bool.or_eq_true];exact ho),aly ⟨hg,QZ⟩ hc ho]
      exact⟨_,rfl,λh=>absurd h (by decide)⟩
    ·rw[aoV hc]at hR
     rw[Ss hR,alz ⟨hg,QZ⟩ hc];exact⟨_,rfl,λh=>absurd h (by decide)⟩
   ·rw[ads QZ,aem (λh=>QZ h.2)]
    exact⟨_,rfl,λh=>absurd h (by decide)⟩
 obtain⟨t',p1,p2⟩:=hP;unfold Cg;rw[ah p1];by_cases he:E7 w x c z pM=0
 ·rw[aoU he]
  obtain⟨a,b,d⟩:=p2 he;exact⟨t',by rw[ae (by simpa using he),he],a,b,d⟩
 ·rw[aoV he]
  exact⟨t,by rw[ak (by simpa using he)],r,tt,i⟩
end
end Go.Proofs.Z
namespace Go.Proofs.Z
open Go Go.Bw Go.Rw Go.RowKit
noncomputable section
abbrev aco:=Nat->aq->Option (Except Int (aA×aq))
def yf(g:Nat->aq->Option (Except Int aA)):aco:=λn a=>match g n a with
 |some (.ok r)=>some (.ok (r,a))
 |some (.error e)=>some (.error e)
 |none=>none
def F4:List (Int×Nat×aco):=[(1,130,lR),(2,131,fI),(3,132,yf mT),(4,133,yf l9),(5,134,jE),(6,135,jd),(7,136,lT),(8,137,jF),(9,138,jc),(10,139,jD),(11,140,kK),(12,141,kH),(13,142,g9),(14,143,kG),(15,144,fZ),(16,144,fZ),(17,145,jI),(18,146,lQ),(19,147,yf jH),(20,148,kJ),(21,149,kI),(22,150,jC)]
def NB(k:Int):Option (Int×Nat×aco):=F4.find? λx=>k==x.1
def jJ(n:Nat)(a0:aq):Option (aA×Option aq):=
 gu (!((decide (0<=a0.aE)&&decide (a0.aE<8))==true)||bQ (lV .i64 a0.aE 7) 8)<|
 tc ((decide (0<=a0.aE)&&decide (a0.aE<8))&&(a0.av.di (Int.toNat (lV .i64 a0.aE 7)))) (⟨12,0,0⟩,none)<|
 match NB a0.c.Do with
 |none=>some (⟨2,0,0⟩,none)
 |some x=>tr (x.2.2 n a0) (λe=>(⟨e,0,0⟩,none)) λy=>some (y.1,some y.2)
def mC{Z:Type}(m:Option (Except Int (aA×aq)))(KO:aA->aq->Option Z)(KE:Int->Option Z):Option Z:=bd m λr=>match r with
 | .ok z=>KO z.1 z.2
 | .error e=>KE e
def kC{Z:Type}(m:Option (Except Int aA))(a:aq)(KO:aA->aq->Option Z)(KE:Int->Option Z):Option Z:=bd m λr=>match r with
 | .ok z=>KO z a
 | .error e=>KE e
def cD{Z:Type}(n:Nat)(a:aq)(KO:aA->aq->Option Z)(KM KK:Int->Option Z)(KN:Option Z):Option Z:=cn (a.c.Do==1) (mC (lR n a) KO KM)<|cn (a.c.Do==2) (mC (fI n a) KO KM)<|cn (a.c.Do==3) (kC (mT n a) a KO KK)<|cn (a.c.Do==4) (kC (l9 n a) a KO KK)<|cn (a.c.Do==5) (mC (jE n a) KO KM)<|cn (a.c.Do==6) (mC (jd n a) KO KM)<|cn (a.c.Do==7) (mC (lT n a) KO KM)<|cn (a.c.Do==8) (mC (jF n a) KO KM)<|cn (a.c.Do==9) (mC (jc n a) KO KM)<|cn (a.c.Do==10) (mC (jD n a) KO KM)<|cn (a.c.Do==11) (mC (kK n a) KO KM)<|cn (a.c.Do==12) (mC (kH n a) KO KM)<|cn (a.c.Do==13) (mC (g9 n a) KO KM)<|cn (a.c.Do==14) (mC (kG n a) KO KM)<|cn (a.c.Do==15) (mC (fZ n a) KO KM)<|cn (a.c.Do==16) (mC (fZ n a) KO KM)<|cn (a.c.Do==17) (mC (jI n a) KO KM)<|cn (a.c.Do==18) (mC (lQ n a) KO KM)<|cn (a.c.Do==19) (kC (jH n a) a KO KK)<|cn (a.c.Do==20) (mC (kJ n a) KO KM)<|cn (a.c.Do==21) (mC (kI n a) KO KM)<|cn (a.c.Do==22) (mC (jC n a) KO KM)<|KN
def cA{Z:Type}(n:Nat)(a:aq)(KO:aA->aq->Option Z)(KM KK:Int->Option Z)(KN KA:Option Z):Option Z:=gu (!((decide (0<=a.aE)&&decide (a.aE<8))==true)||bQ (lV .i64 a.aE 7) 8)<|cn ((decide (0<=a.aE)&&decide (a.aE<8))&&(a.av.di (Int.toNat (lV .i64 a.aE 7)))) (cD n a KO KM KK KN) KA
theorem r7{Z:Type}{m:Option (Except Int (aA×aq))}{K:aA×Option aq->Option Z}{z:Z}(h:bd (tr m (λe=>(⟨e,0,0⟩,none)) λy=>some (y.1,some y.2)) K=some z):mC m (λr c=>K (r,some c)) (λe=>K (⟨e,0,0⟩,none))=some z:=by
 cases m with
 |none=>cases h
 |some r=>cases r<;>exact h
theorem YG{Z:Type}{g:Nat->aq->Option (Except Int aA)}{n:Nat}{a:aq}{K:aA×Option aq->Option Z}{KK:Int->Option Z}{z:Z}(hk:∀e,K (⟨e,0,0⟩,none)=some z->KK e=some z)(h:bd (tr (yf g n a) (λe=>(⟨e,0,0⟩,none)) λy=>some (y.1,some y.2)) K=some z):kC (g n a) a (λr c=>K (r,some c)) KK=some z:=by
 unfold yf at h;cases hm:g n a with
 |none=>rw[hm]at h;cases h
 |some r=>rw[hm]at h;cases r with
  |ok r=>exact h
  |error e=>exact hk e h
theorem alQ{Z:Type}{n:Nat}{a:aq}{K:aA×Option aq->Option Z}{KK:Int->Option Z}{z:Z}(hk:∀e,K (⟨e,0,0⟩,none)=some z->KK e=some z)(h:bd (match NB a.c.Do with
  |none=>some (⟨2,0,0⟩,none)
  |some x=>tr (x.2.2 n a) (λe=>(⟨e,0,0⟩,none)) λy=>some (y.1,some y.2)) K=some z):cD n a (λr c=>K (r,some c)) (λe=>K (⟨e,0,0⟩,none)) KK (K (⟨2,0,0⟩,none))=some z:=by
 unfold NB F4 at h;unfold cD;rw[List.find?_cons]at h;dsimp only at h;cases h0:(a.c.Do==1)with
 |true=>rw[h0]at h;exact r7 h
 |false=>
 rw[h0]at h;refine(rfl:cn false _ _ =_).trans ?_;rw[List.find?_cons]at h;dsimp only at h;cases h1:(a.c.Do==2)with
 |true=>rw[h1]at h;exact r7 h
 |false=>
 rw[h1]at h;refine(rfl:cn false _ _ =_).trans ?_;rw[List.find?_cons]at h;dsimp only at h;cases h2:(a.c.Do==3)with
 |true=>rw[h2]at h;exact YG hk h
 |false=>
 rw[h2]at h;refine(rfl:cn false _ _ =_).trans ?_;rw[List.find?_cons]at h;dsimp only at h;cases h3:(a.c.Do==4)with
 |true=>rw[h3]at h;exact YG hk h
 |false=>
 rw[h3]at h;refine(rfl:cn false _ _ =_).trans ?_;rw[List.find?_cons]at h;dsimp only at h;cases h4:(a.c.Do==5)with
 |true=>rw[h4]at h;exact r7 h
 |false=>
 rw[h4]at h;refine(rfl:cn false _ _ =_).trans ?_;rw[List.find?_cons]at h;dsimp only at h;cases h5:(a.c.Do==6)with
 |true=>rw[h5]at h;exact r7 h
 |false=>
 rw[h5]at h;refine(rfl:cn false _ _ =_).trans ?_;rw[List.find?_cons]at h;dsimp only at h;cases h6:(a.c.Do==7)with
 |true=>rw[h6]at h;exact r7 h
 |false=>
 rw[h6]at h;refine(rfl:cn false _ _ =_).trans ?_;rw[List.find?_cons]at h;dsimp only at h;cases h7:(a.c.Do==8)with
 |true=>rw[h7]at h;exact r7 h
 |false=>
 rw[h7]at h;refine(rfl:cn false _ _ =_).trans ?_;rw[List.find?_cons]at h;dsimp only at h;cases h8:(a.c.Do==9)with
 |true=>rw[h8]at h;exact r7 h
 |false=>
 rw[h8]at h;refine(rfl:cn false _ _ =_).trans ?_;rw[List.find?_cons]at h;dsimp only at h;cases h9:(a.c.Do==10)with
 |true=>rw[h9]at h;exact r7 h
 |false=>
 rw[h9]at h;refine(rfl:cn false _ _ =_).trans ?_;rw[List.find?_cons]at h;dsimp only at h;cases h10:(a.c.Do==11)with
 |true=>rw[h10]at h;exact r7 h
 |false=>
 rw[h10]at h;refine(rfl:cn false _ _ =_).trans ?_;rw[List.find?_cons]at h;dsimp only at h;cases h11:(a.c.Do==12)with
 |true=>rw[h11]at h;exact r7 h
 |false=>
 rw[h11]at h;refine(rfl:cn false _ _ =_).trans ?_;rw[List.find?_cons]at h;dsimp only at h;cases h12:(a.c.Do==13)with
 |true=>rw[h12]at h;exact r7 h
 |false=>
 rw[h12]at h;refine(rfl:cn false _ _ =_).trans ?_;rw[List.find?_cons]at h;dsimp only at h;cases h13:(a.c.Do==14)with
 |true=>rw[h13]at h;exact r7 h
 |false=>
 rw[h13]at h;refine(rfl:cn false _ _ =_).trans ?_;rw[List.find?_cons]at h;dsimp only at h;cases h14:(a.c.Do==15)with
 |true=>rw[h14]at h;exact r7 h
 |false=>
 rw[h14]at h;refine(rfl:cn false _ _ =_).trans ?_;rw[List.find?_cons]at h;dsimp only at h;cases h15:(a.c.Do==16)with
 |true=>rw[h15]at h;exact r7 h
 |false=>
 rw[h15]at h;refine(rfl:cn false _ _ =_).trans ?_;rw[List.find?_cons]at h;dsimp only at h;cases Ra:(a.c.Do==17)with
 |true=>rw[Ra]at h;exact r7 h
 |false=>
 rw[Ra]at h;refine(rfl:cn false _ _ =_).trans ?_;rw[List.find?_cons]at h;dsimp only at h;cases h17:(a.c.Do==18)with
 |true=>rw[h17]at h;exact r7 h
 |false=>
 rw[h17]at h;refine(rfl:cn false _ _ =_).trans ?_;rw[List.find?_cons]at h;dsimp only at h;cases h18:(a.c.Do==19)with
 |true=>rw[h18]at h;exact YG hk h
 |false=>
 rw[h18]at h;refine(rfl:cn false _ _ =_).trans ?_;rw[List.find?_cons]at h;dsimp only at h;cases h19:(a.c.Do==20)with
 |true=>rw[h19]at h;exact r7 h
 |false=>
 rw[h19]at h;refine(rfl:cn false _ _ =_).trans ?_;rw[List.find?_cons]at h;dsimp only at h;cases h20:(a.c.Do==21)with
 |true=>rw[h20]at h;exact r7 h
 |false=>
 rw[h20]at h;refine(rfl:cn false _ _ =_).trans ?_;rw[List.find?_cons]at h;dsimp only at h;cases h21:(a.c.Do==22)with
 |true=>rw[h21]at h;exact r7 h
 |false=>
 rw[h21]at h;refine(rfl:cn false _ _ =_).trans ?_;exact h
theorem afG{Z:Type}{n:Nat}{a:aq}{K:aA×Option aq->Option Z}{KK:Int->Option Z}{z:Z}(hk:∀e,K (⟨e,0,0⟩,none)=some z->KK e=some z)(h:bd (jJ n a) K=some z):cA n a (λr c=>K (r,some c)) (λe=>K (⟨e,0,0⟩,none)) KK (K (⟨2,0,0⟩,none)) (K (⟨12,0,0⟩,none))=some z:=by
 unfold jJ at h;unfold cA;cases h1:(!((decide (0<=a.aE)&&decide (a.aE<8))==true)||bQ (lV .i64 a.aE 7) 8)with
 |false=>rw[h1]at h;cases h
 |true=>
  rw[h1]at h;cases h2:((decide (0<=a.aE)&&decide (a.aE<8))&&(a.av.di (Int.toNat (lV .i64 a.aE 7))))with
  |false=>rw[h2]at h;exact h
  |true=>rw[h2]at h;exact alQ hk h
def iT(n:Nat)(a0:bB)(a1:Int)(a2:aN):Option Int:=lt ({av:=a0,aE:=a1,c:=a2,run:=fV,pJ:=0,Gf:=true,gO:=[]}:aq) λbg=>cn ((a2.Do !=2)==false) (bd (jJ n ({av:=a0,aE:=a1,c:=a2,run:=fV,pJ:=0,Gf:=true,gO:=[]}:aq)) λeP=>oc eP.2 (cn (((a2.Do !=2)||(eP.1.E !=0))) (some 0) (none)) λSP=>cn (((a2.Do !=2)||(eP.1.E !=0))) (some 0) (some SP.pJ)) (cn (((a2.Do !=2)||(nS.E !=0))) (some 0) (some (({av:=a0,aE:=a1,c:=a2,run:=fV,pJ:=0,Gf:=true,gO:=[]}:aq).pJ)))
def qv(n:Nat)(a0:bB)(a1:Int)(a2:aN):Option Int:=cn (a2.Do !=2) (some 0) (cA n ({av:=a0,aE:=a1,c:=a2,run:=fV,pJ:=0,Gf:=true,gO:=[]}:aq) (λr c=>cn (r.E !=0) (some 0) (some c.pJ)) (λe=>cn (e !=0) (some 0) none) (λe=>cn (e !=0) (some 0) (some 0)) (some 0) (some 0))
theorem Du(n:Nat)(a0:bB)(a1:Int)(a2:aN)(z:Int)(h:iT n a0 a1 a2=some z):qv n a0 a1 a2=some z:=by
 unfold iT at h;unfold qv;cases h1:(a2.Do !=2)with
 |true=>rw[h1]at h;exact h
 |false=>
  rw[h1]at h;have:=afG (a:=({av:=a0,aE:=a1,c:=a2,run:=fV,pJ:=0,Gf:=true,gO:=[]}:aq)) (KK:=λe=>cn (e !=0) (some 0) (some 0)) (λe h=>by
   have h:cn (e !=0) (some 0) none=some z:=h;cases hb:(e !=0)with
   |true=>rw[hb]at h;exact h
   |false=>rw[hb]at h;cases h) h
  exact this
def vP(n:Nat):Ct Tryz.prog sg:=afk (tW n [] [bZ n,bO n,wR n,uG n,vI n,uy n,uB n,tj n,wS n,uC n,tg n,uA n,vM n,vJ n,ru n,vG n,vH n,uF n,wQ n,uE n,vL n,vK n,uz n]) 3000 ⟨10,[], .cons (.v (.st 17)) (.cons (.v (.int .i64)) (.cons (.v (.st 0)) .nil)), .cons (.v (.int .i64)) .nil,[], .nil,[],[]⟩ (λx=>iT n x.1 x.2.1 x.2.2.1) (λx=>qv n x.1 x.2.1 x.2.2.1) (λy=>y.1) (λz=>(z,())) (0) (λ_ =>rfl) (by kernel_rfl) (λx=>by kernel_rfl) (λx z h=>by apply Du;exact h)
def ig(n:Nat)(a0:bB)(a1:Int)(a2:aN)(a3:aB):Option (bB×aA×(List aB)):=lt ({av:=a0,aE:=a1,c:=a2,run:=a3,pJ:=0,Gf:=false,gO:=[]}:aq) λbg=>bd (jJ n ({av:=a0,aE:=a1,c:=a2,run:=a3,pJ:=0,Gf:=false,gO:=[]}:aq)) λeP=>oc eP.2 (cn ((eP.1.E !=0)) (some (a0,eP.1,([]:List aB))) (none)) λSP=>cn ((eP.1.E !=0)) (some (a0,eP.1,([]:List aB))) (some (SP.av,eP.1,SP.gO))
def yT(n:Nat)(a0:bB)(a1:Int)(a2:aN)(a3:aB):Option (bB×aA×(List aB)):=cA n ({av:=a0,aE:=a1,c:=a2,run:=a3,pJ:=0,Gf:=false,gO:=[]}:aq) (λr c=>cn (r.E !=0) (some (a0,r,[])) (some (c.av,r,c.gO))) (λe=>cn (e !=0) (some (a0,⟨e,0,0⟩,[])) none) (λe=>cn (e !=0) (some (a0,⟨e,0,0⟩,[])) (some (a0,⟨e,0,0⟩,[]))) (some (a0,⟨2,0,0⟩,[])) (some (a0,⟨12,0,0⟩,[]))
theorem HU(n:Nat)(a0:bB)(a1:Int)(a2:aN)(a3:aB)(z:bB×aA×(List aB))(h:ig n a0 a1 a2 a3=some z):yT n a0 a1 a2 a3=some z:=by
 have:=afG (a:=({av:=a0,aE:=a1,c:=a2,run:=a3,pJ:=0,Gf:=false,gO:=[]}:aq)) (KK:=λe=>cn (e !=0) (some (a0,⟨e,0,0⟩,[])) (some (a0,⟨e,0,0⟩,[]))) (λe h=>by
  have h:cn (e !=0) (some (a0,⟨e,0,0⟩,([]:List aB))) none=some z:=h;cases hb:(e !=0)with
  |true=>rw[hb]at h;exact h
  |false=>rw[hb]at h;cases h) h
 exact this
def yS(n:Nat):Ct Tryz.prog sg:=afk (tW n [] [bZ n,bO n,wR n,uG n,vI n,uy n,uB n,tj n,wS n,uC n,tg n,uA n,vM n,vJ n,ru n,vG n,vH n,uF n,wQ n,uE n,vL n,vK n,uz n]) 3000 ⟨11,[], .cons (.v (.st 17)) (.cons (.v (.int .i64)) (.cons (.v (.st 0)) (.cons (.v (.st 5)) .nil))), .cons (.rZ (.cons (.v (.st 17)) (.cons (.v (.st 32)) (.cons (.v (.sl (.st 5))) .nil)))) .nil,[], .nil,[],[]⟩ (λx=>ig n x.1 x.2.1 x.2.2.1 x.2.2.2.1) (λx=>yT n x.1 x.2.1 x.2.2.1 x.2.2.2.1) (λy=>(y.1,y.2.1,y.2.2.1)) (λz=>(z.1,(z.2.1,(z.2.2,())))) (dX,nS,[]) (λ_ =>rfl) (by kernel_rfl) (λx=>by kernel_rfl) (λx z h=>by apply HU;exact h)
def yY(n:Nat)(a0:(List Int)):Option (List Int):=some a0
def wZ(n:Nat)(a0:(List Int)):Option (List Int):=gu ((a0.length:Int)==(a0.length:Int))<|gu ((a0.length:Int)==(a0.length:Int))<|some a0
theorem EI(n:Nat)(a0:(List Int)):wZ n a0=yY n a0:=Vk.trans Vk
def Eh(n:Nat):CT:=cV (tW n [] []) (gN 37 [.v (.sl (.int .i64))] [.v (.sl (.int .i64))]) (a1 (yY n)) u1 m1 (hW:=λx=>Eq.trans (b:=wZ n x.1) (by kernel_rfl) (EI ..))
def mV(n:Nat)(a0:bB)(a1:aN):Option ((List Int)×Int):=bd (eY n a0.aC.T a1.R) λgH=>cn ((gH.2!=0)) (some (([]:List Int),gH.2)) (cn (((((a1.Do !=3)&&(a1.Do !=4))||decide (a1.B<1))||decide (8<a1.B))) (some (([]:List Int),2)) (cn (decide ((wr .i64 (gH.1.E.jW-(wr .i64 a1.B)))<(wr .i64 a1.A))) (some (([]:List Int),9)) (cH (λk47 (gy:(List Int)) (xN:Int)=>cn (decide (xN<(wr .i64 a1.B))) (bd (ld n gH.1.E (wr .i64 ((wr .i64 a1.A)+xN))) λtC=>gu (gw gy.length 1 8)<|lt (gy++([tC.1]):List Int) λyN=>k47 yN (wr .i64 (xN+1))) (some (gy,0))) n ([]) 0)))
def vO(n:Nat):CT:=cV (tW n [(21, .loop [(.slot 8,(.row 3 1 (.int .i64))),(.slot 59,(.v (.int .i64)))])] [iM n,A3 n,Eh n]) (gN 15 [.s 17, .s 0] [.t [.v (.sl (.int .i64)), .i]]) (a2 (mV n)) u2 m2
def qg(n:Nat)(a0:dK)(a1:(List aB)):Option (Bool×dK):=cH (λk36 (dZ:Int) (eJ:dK)=>cn (decide (dZ<(a1.length:Int))) (gu (bQ dZ a1.length)<|gu (bQ dZ a1.length)<|bd (pC n eJ.qx ((a1.getD (Int.toNat dZ) default).At) ((a1.getD (Int.toNat dZ) default).N)) λgy=>cn ((!gy.2)) (some (false,eJ)) (lt ({eJ with qx:=gy.1}:dK) λx51=>k36 (wr .i64 (dZ+1)) x51)) (some (true,eJ))) n 0 a0
def Eo(n:Nat):CT:=cV (tW n [(5, .loop [(.slot 5,(.v (.int .i64))),(.via 0, .box 105 (.v (.st 31)))])] [yQ n]) ⟨14,[], .cons (.box 105 (.v (.st 31))) (.cons (.v (.sl (.st 5))) .nil), .cons (.v .bool) (.cons (.box 105 (.v (.st 31))) .nil),[some 0], .nil,[],[[0]]⟩ (a2 (qg n)) u2 m2
def qW(n:Nat)(a0:dK)(a1:Int):Option (aB×Bool×dK):=cn (decide (a1<1)) (lt ({At:=0,N:=0}:aB) λbg=>some (bg,(a1==0),a0)) (bd (sw n a0.qx a1) λfX=>cn (fX.2) (bd (nI n a0.qx fX.1 a1) λgj=>lt ({a0 with qx:=gj.1}:dK) λjN=>lt ({At:=fX.1,N:=a1}:aB) λqn=>some (qn,fX.2,jN)) (lt ({At:=fX.1,N:=a1}:aB) λlJ=>some (lJ,fX.2,a0)))
def Fk(n:Nat):CT:=cV (tW n [] [GV n,GU n]) ⟨9,[], .cons (.box 105 (.v (.st 31))) (.cons (.v (.int .i64)) .nil), .cons (.rZ (.cons (.v (.st 5)) (.cons (.v .bool) .nil))) (.cons (.box 105 (.v (.st 31))) .nil),[some 0], .nil,[],[[0]]⟩ (a2 (qW n)) u3 m3
def gD(n:Nat)(a0:aj)(a1:Int):Option (bP×Int):=bd (bq n a0.aC.T.B a1) λbg=>gu (bQ bg 32)<|lt ((a0.aC.T.R (Int.toNat bg)).E:bP) λfX=>some (fX,bg)
def pb(n:Nat):CT:=cV (tW n [] [cu n]) (gN 51 [.s 29, .i] [.t [.s 19, .i]]) (a2 (gD n)) u2 m2
def iP(n:Nat)(a0:aj)(a1:Int)(a2:bU)(a3:(Nat->Int)):Option (aj×aH×Int):=bd (yb n a2.A a2.B) λbg=>bd (eF n a0.aC a1 a2.R 1) λiv=>lt (λ(fX:Int)=>cn ((fX !=0)) (lt ({E:=fX,V:=0,W:=0}:aH) λeP=>some (a0,eP,0)) (bd (gD n a0 a2.R) λeJ=>bd (oV n eJ.1 a2.A a2.B) λvC=>lt (λ(my:Int) (vB:Int) (RU:bP)=>lt ({RU with jW:=0}:bP) λPO=>cl (((decide (0<vB))==true)&&(((a3 1)!=bg)==false)) (dP n PO) default λGO=>cn ((decide (0<vB)&&(((a3 1)!=bg)||(!GO)))) (lt ({E:=2,V:=0,W:=0}:aH) λA1=>some (a0,A1,vB)) (lt ({PO with jW:=wr .i64 (my+a2.A)}:bP) λx86=>gu (bQ eJ.2 32)<|lt ({a0 with aC:={a0.aC with T:={a0.aC.T with R:=(dm a0.aC.T.R (Int.toNat eJ.2) ({(a0.aC.T.R (Int.toNat eJ.2))with E:=x86}))}}}:aj) λNW=>bd (eH n x86) λMZ=>gu (decide (0<=(MZ.length:Int)))<|gu (gw 0 (Int.toNat (MZ.length:Int)) 1)<|lt (List.replicate (Int.toNat (MZ.length:Int)) 0:List Int) λx99=>gu (bQ eJ.2 32)<|lt ((NW.fz (Int.toNat eJ.2)).take x99.length++x99.drop (NW.fz (Int.toNat eJ.2)).length:List Int) λYi=>gu (bQ eJ.2 32)<|lt ({NW with fz:=(dm NW.fz (Int.toNat eJ.2) Yi)}:aj) λN4=>lt ({E:=0,V:=wr .u64 my,W:=0}:aH) λKk=>some (N4,Kk,vB))) λj50=>cn (decide (vC<0)) (bd (eH n eJ.1) λx51=>gu (bQ eJ.2 32)<|cn (decide (((a0.aC.T.R (Int.toNat eJ.2)).cE)<(wr .i64 ((wr .i64 (Int.tdiv (x51.length:Int) 32))+bg)))) (lt ({E:=6,V:=0,W:=0}:aH) λWc=>some (a0,Wc,0)) (bd (eH n eJ.1) λEc=>gu (gw ([]:List (Nat->Int)).length eJ.1.aU.length 16)<|lt (([]:List (Nat->Int))++eJ.1.aU:List (Nat->Int)) λxS=>gu (gw xS.length 1 16)<|lt (xS++([a3]):List (Nat->Int)) λx72=>lt ({eJ.1 with aU:=x72}:bP) λX4=>j50 (Ec.length:Int) bg X4)) (j50 vC 0 eJ.1))) λj26=>cn ((bg==0)) (j26 2) (j26 iv)
def Dj(n:Nat):CT:=cV (tW n [(10, .join [(.slot 12,(.v (.int .i64)))] []),(34, .join [(.slot 16,(.v (.int .i64))),(.slot 17,(.v (.int .i64))),(.via 13, .box 74 (.v (.st 19))),(.via 8, .box 99 (.v (.st 29))),(.via 9, .box 120 (.v (.st 33)))] [])] [Mx n,oB n,pb n,Dm n,pe n,wN n]) (gN 25 [.s 29, .i, .s 34, .v (.ou 2 (.int .i64))] [.t [.s 29, .s 33, .i]]) (a4 (iP n)) u3 m3
def aP(n:Nat)(a0:aj)(a1:Int):Option (aj×aH):=lt ({E:=a1,V:=0,W:=0}:aH) λbg=>some (a0,bg)
def eS(n:Nat):CT:=cV (tW n [] []) (gN 24 [.s 29, .i] [.t [.s 29, .s 33]]) (a2 (aP n)) u2 m2
def dY(n:Nat)(a0:aj)(a1:Int)(a2:bU):Option (aj×aH):=lt (λ(bg:Int)=>cn ((decide (a2.B<1)||decide (8<a2.B))) (bd (aP n a0 2) λgH=>some (gH.1,gH.2)) (bd (eF n a0.aC a1 a2.R bg) λjN=>cn ((jN !=0)) (bd (aP n a0 jN) λnt=>some (nt.1,nt.2)) (bd (gD n a0 a2.R) λvB=>cn (decide (vB.1.jW<(wr .i64 (a2.A+a2.B)))) (bd (aP n a0 9) λAI=>some (AI.1,AI.2)) (gu (bQ vB.2 32)<|gu (gw ([]:List Int).length (a0.fz (Int.toNat vB.2)).length 1)<|lt (([]:List Int)++(a0.fz (Int.toNat vB.2)):List Int) λNZ=>sF (λk85 (Kh:(List Int)) (GO:Int) (A1:Int)=>cn (decide (A1<a2.B)) (cn ((a2.Do==4)) (gu (decide (0<=(wr .i64 (8*A1))))<|gu (bQ (wr .i64 (a2.A+A1)) Kh.length)<|lt ((Kh.set (Int.toNat (wr .i64 (a2.A+A1))) (wr .u8 (Fw .u64 a2.V (wr .i64 (8*A1))))):List Int) λx88=>k85 x88 GO (wr .i64 (A1+1))) (gu (bQ (wr .i64 (a2.A+A1)) Kh.length)<|gu (decide (0<=(wr .i64 (8*A1))))<|k85 Kh (wr .u64 (GO+(KI .u64 (wr .u64 (Kh.getD (Int.toNat (wr .i64 (a2.A+A1))) default)) (wr .i64 (8*A1))))) (wr .i64 (A1+1)))) (gu (bQ vB.2 32)<|lt ({a0 with fz:=(dm a0.fz (Int.toNat vB.2) Kh)}:aj) λMZ=>lt ({E:=0,V:=GO,W:=0}:aH) λMr=>some (MZ,Mr))) n NZ 0 0)))) λR2=>cn ((a2.Do==4)) (R2 1) (R2 0)
def Di(n:Nat):CT:=cV (tW n [(8, .join [(.slot 8,(.v (.int .i64)))] []),(31, .loop [(.slot 12,(.row 5 1 (.int .u8))),(.slot 13,(.v (.int .u64))),(.slot 14,(.v (.int .i64)))])] [eS n,oB n,pb n]) (gN 26 [.s 29, .i, .s 34] [.t [.s 29, .s 33]]) (a3 (dY n)) u2 m2
def gW(n:Nat)(a0:aj)(a1:Int)(a2:bU):Option (aj×aH):=cn ((a2.Do==19)) (bd (eF n a0.aC a1 a2.R 0) λgH=>cn ((gH !=0)) (bd (aP n a0 gH) λiv=>some (iv.1,iv.2)) (bd (xZ n a0.aC.T a2.R a2.A) λnt=>lt ({E:=nt.2,V:=0,W:=nt.1}:aH) λkX=>some (a0,kX))) (bd (eF n a0.aC a1 a2.R 1) λoT=>lt (λ(xN:Int)=>cn ((xN !=0)) (bd (aP n a0 xN) λBh=>some (Bh.1,Bh.2)) (bd (iK n a0.aC.O a0.aC.T a2.S) λx65=>bd (y5 n a0.aC.T a2.R a2.A a2.S (x65.dx==3)) λRS=>cn ((RS.2!=0)) (bd (aP n a0 RS.2) λX4=>some (X4.1,X4.2)) (lt ({a0 with aC:={a0.aC with T:=RS.1}}:aj) λUl=>lt ({E:=0,V:=0,W:=0}:aH) λx88=>some (Ul,x88)))) λj45=>cn (((oT==0)&&(a2.S !=0))) (bd (eF n a0.aC a1 a2.S 0) λBx=>j45 Bx) (j45 oT))
def Dh(n:Nat):CT:=cV (tW n [(20, .join [(.slot 11,(.v (.int .i64)))] [])] [oB n,eS n,Mu n,mG n,P8 n]) (gN 32 [.s 29, .i, .s 34] [.t [.s 29, .s 33]]) (a3 (gW n)) u2 m2
def dN(n:Nat)(a0:aj)(a1:Int):Option Bool:=gu (!((decide (0<=a1)&&decide (a1<8))==true)||bQ (lV .i64 a1 7) 8)<|some ((decide (0<=a1)&&decide (a1<8))&&(a0.di (Int.toNat (lV .i64 a1 7))))
def kY(n:Nat):CT:=cV (tW n [] []) (gN 23 [.s 29, .i] [.b]) (a2 (dN n)) u1 m1
def gV(n:Nat)(a0:aj)(a1:Int)(a2:bU):Option (aj×aH):=bd (iC n a0.aC.K a2.S) λbg=>cn ((a2.Do==13)) (cn ((bg.2!=0)) (bd (aP n a0 bg.2) λbV=>some (bV.1,bV.2)) (cn ((bg.1.To !=a1)) (bd (aP n a0 5) λg8=>some (g8.1,g8.2)) (bd (fS n a0.aC.K a2.S) λvC=>lt ({a0 with aC:={a0.aC with K:=vC.1}}:aj) λBh=>lt ({E:=0,V:=0,W:=0}:aH) λyN=>some (Bh,yN)))) (bd (dN n a0 a2.A) λWc=>cn (((!Wc)||decide (1<a2.B))) (bd (aP n a0 2) λXI=>some (XI.1,XI.2)) (bd (bH n a0.aC.T a2.R) λAH=>cn (((!AH)||((a2.S !=0)&&(bg.2!=0)))) (bd (aP n a0 4) λNZ=>some (NZ.1,NZ.2)) (bd (iK n a0.aC.O a0.aC.T a2.R) λKg=>cn ((((a2.S==0)&&((Kg.dx !=1)||(Kg.gT !=a1)))||((a2.S !=0)&&((bg.1.To !=a1)||(bg.1.Region !=a2.R))))) (bd (aP n a0 5) λUl=>some (Ul.1,Ul.2)) (lt ({Region:=a2.R,By:=a1,To:=a2.A,bF:=(a2.B==1),bh:=a2.S}:cS) λx95=>bd (kE n a0.aC.K x95) λMr=>cn ((Mr.2.2!=0)) (bd (aP n a0 Mr.2.2) λx97=>some (x97.1,x97.2)) (lt ({a0 with aC:={a0.aC with K:=Mr.1}}:aj) λJi=>lt ({E:=0,V:=0,W:=Mr.2.1}:aH) λN3=>some (Ji,N3))))))
def Dg(n:Nat):CT:=cV (tW n [] [wM n,eS n,tf n,kY n,cq n,mG n,Dk n]) (gN 29 [.s 29, .i, .s 34] [.t [.s 29, .s 33]]) (a3 (gV n)) u2 m2
def fb(n:Nat)(a0:aj)(a1:Int):Option aj:=bd (gX n a0.aC.T a1) λgH=>gu (gw ([]:List (Nat->Int)).length a0.o7.length 16)<|lt (([]:List (Nat->Int))++a0.o7:List (Nat->Int)) λeJ=>sF (λk58 (Bh:(List (Nat->Int))) (yN:Int) (x53:aj)=>cn (decide (yN<(gH.length:Int))) (gu (bQ yN gH.length)<|bd (bq n x53.aC.T.B (gH.getD (Int.toNat yN) default)) λEc=>gu (bQ Ec 32)<|gu (gw Bh.length ((x53.aC.T.R (Int.toNat Ec)).E.aU).length 16)<|lt (Bh++((x53.aC.T.R (Int.toNat Ec)).E.aU):List (Nat->Int)) λx65=>gu (bQ Ec 32)<|lt ({x53 with fz:=(dm x53.fz (Int.toNat Ec) ([]:List Int))}:aj) λAH=>gu (bQ yN gH.length)<|bd (l8 n AH.aC.K (gH.getD (Int.toNat yN) default)) λJh=>lt ({AH with aC:={AH.aC with K:=Jh}}:aj) λXH=>k58 x65 (wr .i64 (yN+1)) XH) (lt ({x53 with o7:=Bh}:aj) λNY=>bd (zM n NY.aC.T a1) λA1=>lt ({NY with aC:={NY.aC with T:=A1.1}}:aj) λNU=>some NU)) n eJ 0 a0
def qY(n:Nat):CT:=cV (tW n [(9, .loop [(.slot 6,(.row 126 2 (.ou 2 (.int .i64)))),(.slot 7,(.v (.int .i64))),(.via 2, .box 99 (.v (.st 29)))])] [qA n,cu n,BF n,N7 n]) (gN 58 [.s 29, .i] [.s 29]) (a2 (fb n)) u1 m1
def kD(n:Nat)(a0:aj)(a1:Int)(a2:Int):Option aj:=bd (jf n a0.aC.O a0.aC.T a1 a2 false) λfX=>lt ({a0 with aC:={a0.aC with O:=fX.1}}:aj) λg8=>cn ((fX.2.1==0)) (bd (fb n g8 a1) λjN=>some jN) (some g8)
def vF(n:Nat):CT:=cV (tW n [] [rT n,qY n]) (gN 62 [.s 29, .i, .i] [.s 29]) (a3 (kD n)) u1 m1
def nJ(n:Nat)(a0:aj)(a1:Int):Option aj:=gu (bQ a1 8)<|lt ({L:=[],nV:=true}:cP) λiv=>gu (bQ a1 8)<|lt ({a0 with tB:=(dm a0.tB (Int.toNat a1) iv)}:aj) λgj=>gu (bQ a1 8)<|lt ({gj with di:=(dm gj.di (Int.toNat a1) false)}:aj) λg8=>cH (λk50 (xN:Int) (my:aj)=>cn (decide (xN<(((a0.tB (Int.toNat a1)).L).length:Int))) (gu (bQ xN ((a0.tB (Int.toNat a1)).L).length)<|lt ((((a0.tB (Int.toNat a1)).L).getD (Int.toNat xN) default):bD) λyN=>cn (((yN.Region==0)||yN.iI)) (k50 (wr .i64 (xN+1)) my) (gu (bQ yN.nB 8)<|cn ((my.di (Int.toNat yN.nB))) (bd (dI n my.aC.O my.aC.T yN.Region yN.nB 1) λzv=>lt ({my with aC:={my.aC with O:=zv.1}}:aj) λx65=>k50 (wr .i64 (xN+1)) x65) (bd (fb n my yN.Region) λxS=>k50 (wr .i64 (xN+1)) xS))) (bd (dA n my.aC.K (-1) a1) λNY=>cH (λk96 (NW:Int) (NU:aj)=>cn (decide (NW<(NY.length:Int))) (gu (bQ NW NY.length)<|bd (fS n NU.aC.K (NY.getD (Int.toNat NW) default)) λx98=>lt ({NU with aC:={NU.aC with K:=x98.1}}:aj) λSe=>k96 (wr .i64 (NW+1)) Se) (bd (jB n NU.aC.O NU.aC.T a1 false) λKk=>cH (λahd (N2:Int) (tD:aj)=>cn (decide (N2<(Kk.length:Int))) (gu (bQ N2 Kk.length)<|bd (fb n tD (Kk.getD (Int.toNat N2) default)) λSd=>ahd (wr .i64 (N2+1)) Sd) (bd (jB n tD.aC.O tD.aC.T a1 true) λEd=>cH (λaha (N1:Int) (X6:aj)=>cn (decide (N1<(Ed.length:Int))) (gu (bQ N1 Ed.length)<|bd (kD n X6 (Ed.getD (Int.toNat N1) default) a1) λafR=>aha (wr .i64 (N1+1)) afR) (some X6)) n 0 tD)) n 0 NU)) n 0 my)) n 0 g8
def Ej(n:Nat):CT:=cV (tW n [(11, .loop [(.slot 6,(.v (.int .i64))),(.via 2, .box 99 (.v (.st 29)))]),(29, .loop [(.slot 9,(.v (.int .i64))),(.via 2, .box 99 (.v (.st 29)))]),(39, .loop [(.slot 11,(.v (.int .i64))),(.via 2, .box 99 (.v (.st 29)))]),(49, .loop [(.slot 13,(.v (.int .i64))),(.via 2, .box 99 (.v (.st 29)))])] [p7 n,qY n,mM n,tf n,El n,vF n]) (gN 73 [.s 29, .i] [.s 29]) (a2 (nJ n)) u1 m1
def fj(n:Nat)(a0:aj)(a1:Int)(a2:bU):Option (aj×aH):=cn ((a2.Do==20)) (bd (nJ n a0 a1) λbg=>lt ({E:=0,V:=0,W:=0}:aH) λgj=>some (bg,gj)) (cn ((a2.Do==21)) (bd (dN n a0 a2.A) λg8=>cn ((!g8)) (bd (aP n a0 2) λs9=>some (s9.1,s9.2)) (bd (nJ n a0 a2.A) λoT=>lt ({E:=0,V:=0,W:=0}:aH) λtC=>some (oT,tC))) (gu (!((decide (7<a2.A))==false)||bQ (lV .i64 a2.A 7) 8)<|cn ((decide (7<a2.A)||(a0.qm (Int.toNat (lV .i64 a2.A 7))))) (bd (aP n a0 2) λAI=>some (AI.1,AI.2)) (gu (bQ a2.A 8)<|lt ({a0 with di:=(dm a0.di (Int.toNat a2.A) true)}:aj) λRS=>gu (bQ a2.A 8)<|lt ({RS with qm:=(dm RS.qm (Int.toNat a2.A) true)}:aj) λNZ=>lt ({E:=0,V:=0,W:=0}:aH) λJh=>some (NZ,Jh))))
def De(n:Nat):CT:=cV (tW n [] [Ej n,kY n,eS n]) (gN 33 [.s 29, .i, .s 34] [.t [.s 29, .s 33]]) (a3 (fj n)) u2 m2
def sA(n:Nat)(a0:cP):Option (cP×bD×Int):=cn (decide (0<(a0.L.length:Int))) (gu (bQ 1 (a0.L.length+1))<|lt ({L:=(a0.L.drop (Int.toNat 1)),nV:=a0.nV}:cP) λiB=>gu (bQ 0 a0.L.length)<|lt ((a0.L.getD (Int.toNat 0) default):bD) λew=>some (iB,ew,0)) (cn (a0.nV) (lt ({nB:=0,xR:=0,Region:=0,iI:=false}:bD) λnt=>some (a0,nt,11)) (lt ({nB:=0,xR:=0,Region:=0,iI:=false}:bD) λlJ=>some (a0,lJ,10)))
def GZ(n:Nat):CT:=cV (tW n [] []) (gN 70 [.s 28] [.t [.s 28, .s 27, .i]]) (a1 (sA n)) u3 m3
def fD(n:Nat)(a0:aj)(a1:Int)(a2:bU):Option (aj×aH):=cn ((a2.Do==17)) (gu (bQ a1 8)<|cn ((a0.tB (Int.toNat a1)).nV) (bd (aP n a0 11) λbV=>some (bV.1,bV.2)) (gu (bQ a1 8)<|lt ({a0 with tB:=(dm a0.tB (Int.toNat a1) ({(a0.tB (Int.toNat a1))with nV:=true}))}:aj) λs9=>lt ({E:=0,V:=0,W:=0}:aH) λnt=>some (s9,nt))) (gu (bQ a1 8)<|bd (sA n (a0.tB (Int.toNat a1))) λoT=>cn ((oT.2.2!=0)) (bd (aP n a0 oT.2.2) λyN=>some (yN.1,yN.2)) (gu (bQ a1 8)<|lt ({a0 with tB:=(dm a0.tB (Int.toNat a1) oT.1)}:aj) λUm=>cn (((oT.2.1.Region !=0)&&(!oT.2.1.iI))) (bd (dI n Um.aC.O Um.aC.T oT.2.1.Region a1 1) λNZ=>lt ({Um with aC:={Um.aC with O:=NZ.1}}:aj) λNY=>lt ({E:=0,V:=oT.2.1.xR,W:=oT.2.1.Region}:aH) λx80=>some (NY,x80)) (lt ({E:=0,V:=oT.2.1.xR,W:=oT.2.1.Region}:aH) λKg=>some (Um,Kg))))
def zB(n:Nat):CT:=cV (tW n [] [eS n,GZ n,p7 n]) (gN 31 [.s 29, .i, .s 34] [.t [.s 29, .s 33]]) (a3 (fD n)) u2 m2
def qC(n:Nat)(a0:cP)(a1:bD):Option (cP×Int):=cn (a0.nV) (some (a0,11)) (cn (decide (3<(a0.L.length:Int))) (some (a0,7)) (gu (gw ([]:List bD).length a0.L.length 32)<|lt (([]:List bD)++a0.L:List bD) λs9=>gu (gw s9.length 1 32)<|lt (s9++([a1]):List bD) λkX=>lt ({L:=kX,nV:=false}:cP) λlJ=>some (lJ,0)))
def Jj(n:Nat):CT:=cV (tW n [] []) (gN 69 [.s 28, .s 27] [.t [.s 28, .i]]) (a2 (qC n)) u2 m2
def mS(n:Nat)(a0:aj)(a1:Int)(a2:Int):Option Int:=bd (iK n a0.aC.O a0.aC.T a2) λfX=>bd (bH n a0.aC.T a2) λgj=>cn ((!gj)) (some 4) (bd (iQ n a0.aC.T a2) λeJ=>cn (((eJ !=a2)||(fX.dx !=3))) (some 12) (gu (bQ a1 8)<|cn ((!(fX.lH (Int.toNat a1)))) (some 5) (some 0)))
def vE(n:Nat):CT:=cV (tW n [] [mG n,cq n,rU n]) (gN 61 [.s 29, .i, .i] [.i]) (a3 (mS n)) u1 m1
def kB(n:Nat)(a0:aj)(a1:Int)(a2:bU):Option (aj×aH):=bd (dN n a0 a2.A) λgH=>cn (((!gH)||decide (1<a2.B))) (bd (aP n a0 2) λiv=>some (iv.1,iv.2)) (lt (λ(nt:aj)=>gu (bQ a2.A 8)<|lt ({nB:=a1,xR:=a2.V,Region:=a2.R,iI:=((a2.R !=0)&&(a2.B==1))}:bD) λN4=>bd (qC n (nt.tB (Int.toNat a2.A)) N4) λN3=>cn ((N3.2!=0)) (bd (aP n a0 N3.2) λKj=>some (Kj.1,Kj.2)) (gu (bQ a2.A 8)<|lt ({nt with tB:=(dm nt.tB (Int.toNat a2.A) N3.1)}:aj) λYf=>lt ({E:=0,V:=0,W:=0}:aH) λSd=>some (Yf,Sd))) λj39=>cn (((a2.R !=0)&&(a2.B==1))) (bd (mS n a0 a1 a2.R) λlJ=>cn ((lJ !=0)) (bd (aP n a0 lJ) λgy=>some (gy.1,gy.2)) (bd (jf n a0.aC.O a0.aC.T a2.R a2.A true) λAI=>cn ((AI.2.2==0)) (lt ({a0 with aC:={a0.aC with O:=AI.1}}:aj) λx64=>j39 x64) (j39 a0))) (cn ((a2.R !=0)) (bd (eF n a0.aC a1 a2.R 2) λAH=>cn ((AH !=0)) (bd (aP n a0 AH) λNZ=>some (NZ.1,NZ.2)) (bd (wA n a0.aC.T a2.R) λA1=>lt ({a0 with aC:={a0.aC with T:=A1.1}}:aj) λx89=>bd (dI n x89.aC.O x89.aC.T a2.R 0 2) λMr=>lt ({x89 with aC:={x89.aC with O:=Mr.1}}:aj) λKl=>j39 Kl)) (j39 a0)))
def Dd(n:Nat):CT:=cV (tW n [(36, .join [(.via 3, .box 99 (.v (.st 29))),(.via 6, .box 99 (.v (.st 29))),(.via 7, .box 120 (.v (.st 33)))] [])] [kY n,eS n,vE n,rT n,oB n,II n,p7 n,Jj n]) (gN 30 [.s 29, .i, .s 34] [.t [.s 29, .s 33]]) (a3 (kB n)) u2 m2
def cI(n:Nat)(a0:aj)(a1:Int)(a2:bU):Option (aj×aH):=lt (λ(bg:Int)=>bd (eF n a0.aC a1 a2.R bg) λfX=>lt (λ(iB:Int)=>lt (λ(gj:Int)=>lt (λ(s9:Int)=>cn ((s9 !=0)) (bd (aP n a0 s9) λqn=>some (qn.1,qn.2)) (cn ((a2.Do==1)) (bd (qe n a0.aC.T a2.R (if 1000<a2.A then 1000 else a2.A)) λtC=>cn ((tC.2.2!=0)) (bd (aP n a0 tC.2.2) λuo=>some (uo.1,uo.2)) (lt ({a0 with aC:={a0.aC with T:=tC.1}}:aj) λAH=>lt (λ(XH:aj)=>lt ({E:=0,V:=0,W:=tC.2.1}:aH) λx92=>some (XH,x92)) λj77=>cn ((a2.R==0)) (bd (dI n AH.aC.O AH.aC.T tC.2.1 a1 1) λA1=>lt ({AH with aC:={AH.aC with O:=A1.1}}:aj) λx89=>j77 x89) (j77 AH))) (cn ((a2.Do==5)) (bd (gD n a0 a2.R) λMr=>lt ({a0 with o7:=Mr.1.aU}:aj) λJi=>gu (bQ Mr.2 32)<|lt ({Ji with fz:=(dm Ji.fz (Int.toNat Mr.2) ([]:List Int))}:aj) λacA=>gu (bQ Mr.2 32)<|lt ({Up:=0,cE:=(acA.aC.T.R (Int.toNat Mr.2)).cE,E:=bA,bC:=(λ_ =>0)}:bL) λYg=>bd (jg n acA.aC.T a2.R Yg) λamY=>lt ({acA with aC:={acA.aC with T:=amY.1}}:aj) λKi=>lt ({E:=0,V:=0,W:=0}:aH) λYf=>some (Ki,Yf)) (cn ((a2.Do==6)) (bd (fb n a0 a2.R) λamX=>lt ({E:=0,V:=0,W:=0}:aH) λamW=>some (amX,amW)) (cn ((a2.Do==8)) (bd (ya n a0.aC.T a2.R a2.S) λafV=>cn ((afV.2!=0)) (bd (aP n a0 afV.2) λC8=>some (C8.1,C8.2)) (lt ({a0 with aC:={a0.aC with T:=afV.1}}:aj) λamV=>lt ({E:=0,V:=0,W:=0}:aH) λamU=>some (amV,amU))) (lt (λ(amT:Int)=>bd (wA n a0.aC.T a2.R) λamS=>lt ({a0 with aC:={a0.aC with T:=amS.1}}:aj) λacz=>bd (dI n acz.aC.O acz.aC.T a2.R a1 amT) λamR=>lt ({acz with aC:={acz.aC with O:=amR.1}}:aj) λamQ=>lt ({E:=0,V:=0,W:=0}:aH) λamP=>some (amQ,amP)) λakD=>cn ((a2.Do==9)) (akD 3) (akD 1))))))) λj34=>cl (((gj==0)&&(a2.Do==7))==true) (iQ n a0.aC.T a2.R) default λkX=>cn ((((gj==0)&&(a2.Do==7))&&(kX==a2.R))) (j34 12) (j34 gj)) λj29=>cn (((iB==0)&&(a2.Do==8))) (bd (eF n a0.aC a1 a2.S 1) λg8=>j29 g8) (j29 iB)) λj27=>cn (((a2.Do==1)&&(a2.R==0))) (j27 0) (j27 fX)) λR2=>cn (((a2.Do==1)||(a2.Do==5))) (R2 1) (R2 2)
def BE(n:Nat):CT:=cV (tW n [(8, .join [(.slot 8,(.v (.int .i64)))] []),(14, .join [(.slot 9,(.v (.int .i64)))] []),(18, .join [(.slot 9,(.v (.int .i64)))] []),(22, .join [(.slot 9,(.v (.int .i64)))] []),(52, .join [(.via 3, .box 99 (.v (.st 29)))] []),(34, .join [(.slot 17,(.v (.int .i64)))] [])] [oB n,rU n,eS n,P9 n,p7 n,pb n,Ff n,qY n,Mw n,II n]) (gN 27 [.s 29, .i, .s 34] [.t [.s 29, .s 33]]) (a3 (cI n)) u2 m2
def gC(n:Nat)(a0:aj)(a1:Int)(a2:bU):Option (aj×aH):=cl ((a2.Do==10)==true) (dN n a0 a2.A) default λbg=>cn (((a2.Do==10)&&(!bg))) (bd (aP n a0 2) λbV=>some (bV.1,bV.2)) (bd (mS n a0 a1 a2.R) λg8=>cn ((g8 !=0)) (bd (aP n a0 g8) λs9=>some (s9.1,s9.2)) (cn ((a2.Do==11)) (bd (kD n a0 a2.R a1) λoT=>lt ({E:=0,V:=0,W:=0}:aH) λtC=>some (oT,tC)) (bd (jf n a0.aC.O a0.aC.T a2.R a2.A true) λzv=>cn ((zv.2.2!=0)) (bd (aP n a0 zv.2.2) λDQ=>some (DQ.1,DQ.2)) (lt ({a0 with aC:={a0.aC with O:=zv.1}}:aj) λNY=>lt ({E:=0,V:=0,W:=0}:aH) λx80=>some (NY,x80)))))
def BD(n:Nat):CT:=cV (tW n [] [kY n,eS n,vE n,vF n,rT n]) (gN 28 [.s 29, .i, .s 34] [.t [.s 29, .s 33]]) (a3 (gC n)) u2 m2
def l6(n:Nat)(a0:aj)(a1:Int)(a2:bU)(a3:(Nat->Int)):Option (aj×aH):=lt ({a0 with o7:=([]:List (Nat->Int))}:aj) λbg=>bd (dN n bg a1) λiv=>cn ((!iv)) (bd (aP n bg 12) λfX=>some (fX.1,fX.2)) (cn ((a2.Do==2)) (bd (iP n bg a1 a2 a3) λjN=>some (jN.1,jN.2.1)) (lt (λ(RU:Bool)=>cn (RU) (bd (dY n bg a1 a2) λBh=>some (Bh.1,Bh.2)) (lt (λ(uo:Bool)=>cn (uo) (bd (cI n bg a1 a2) λx61=>some (x61.1,x61.2)) (lt (λ(x71:Bool)=>cn (x71) (bd (gC n bg a1 a2) λJh=>some (Jh.1,Jh.2)) (lt (λ(x83:Bool)=>cn (x83) (bd (gV n bg a1 a2) λUl=>some (Ul.1,Ul.2)) (cn ((a2.Do==14)) (bd (kB n bg a1 a2) λx95=>some (x95.1,x95.2)) (lt (λ(Se:Bool)=>cn (Se) (bd (fD n bg a1 a2) λJi=>some (Ji.1,Ji.2)) (lt (λ(Yg:Bool)=>cn (Yg) (bd (gW n bg a1 a2) λKj=>some (Kj.1,Kj.2)) (lt (λ(afW:Bool)=>cn (afW) (bd (fj n bg a1 a2) λYe=>some (Ye.1,Ye.2)) (bd (aP n bg 2) λX9=>some (X9.1,X9.2))) λTi=>cn ((a2.Do==20)) (Ti (a2.Do==20)) (cn ((a2.Do==21)) (Ti (a2.Do==21)) (Ti (a2.Do==22))))) λaak=>cn ((a2.Do==18)) (aak (a2.Do==18)) (aak (a2.Do==19)))) λTj=>cn ((a2.Do==15)) (Tj (a2.Do==15)) (cn ((a2.Do==16)) (Tj (a2.Do==16)) (Tj (a2.Do==17)))))) λj84=>cn ((a2.Do==12)) (j84 (a2.Do==12)) (j84 (a2.Do==13)))) λj72=>cn ((a2.Do==10)) (j72 (a2.Do==10)) (j72 (a2.Do==11)))) λW4=>cn ((a2.Do==1)) (W4 (a2.Do==1)) (cn ((a2.Do==5)) (W4 (a2.Do==5)) (cn ((a2.Do==6)) (W4 (a2.Do==6)) (cn ((a2.Do==7)) (W4 (a2.Do==7)) (cn ((a2.Do==8)) (W4 (a2.Do==8)) (W4 (a2.Do==9)))))))) λj48=>cn ((a2.Do==3)) (j48 (a2.Do==3)) (j48 (a2.Do==4))))
def tG(n:Nat)(a0:aj)(a1:Int)(a2:bU)(a3:(Nat->Int)):Option (aj×aH):=lt ({a0 with o7:=([]:List (Nat->Int))}:aj) λbg=>bd (dN n bg a1) λiv=>cn ((!iv)) (bd (aP n bg 12) λfX=>some (fX.1,fX.2)) (cn ((a2.Do==2)) (bd (iP n bg a1 a2 a3) λjN=>some (jN.1,jN.2.1)) (jn (λ(RU:Bool)=>cn (RU) (bd (dY n bg a1 a2) λBh=>some (Bh.1,Bh.2)) (jn (λ(uo:Bool)=>cn (uo) (bd (cI n bg a1 a2) λx61=>some (x61.1,x61.2)) (jn (λ(x71:Bool)=>cn (x71) (bd (gC n bg a1 a2) λJh=>some (Jh.1,Jh.2)) (jn (λ(x83:Bool)=>cn (x83) (bd (gV n bg a1 a2) λUl=>some (Ul.1,Ul.2)) (cn ((a2.Do==14)) (bd (kB n bg a1 a2) λx95=>some (x95.1,x95.2)) (jn (λ(Se:Bool)=>cn (Se) (bd (fD n bg a1 a2) λJi=>some (Ji.1,Ji.2)) (jn (λ(Yg:Bool)=>cn (Yg) (bd (gW n bg a1 a2) λKj=>some (Kj.1,Kj.2)) (jn (λ(afW:Bool)=>cn (afW) (bd (fj n bg a1 a2) λYe=>some (Ye.1,Ye.2)) (bd (aP n bg 2) λX9=>some (X9.1,X9.2))) λTi=>cn ((a2.Do==20)) (Ti (a2.Do==20)) (cn ((a2.Do==21)) (Ti (a2.Do==21)) (Ti (a2.Do==22))))) λaak=>cn ((a2.Do==18)) (aak (a2.Do==18)) (aak (a2.Do==19)))) λTj=>cn ((a2.Do==15)) (Tj (a2.Do==15)) (cn ((a2.Do==16)) (Tj (a2.Do==16)) (Tj (a2.Do==17)))))) λj84=>cn ((a2.Do==12)) (j84 (a2.Do==12)) (j84 (a2.Do==13)))) λj72=>cn ((a2.Do==10)) (j72 (a2.Do==10)) (j72 (a2.Do==11)))) λW4=>cn ((a2.Do==1)) (W4 (a2.Do==1)) (cn ((a2.Do==5)) (W4 (a2.Do==5)) (cn ((a2.Do==6)) (W4 (a2.Do==6)) (cn ((a2.Do==7)) (W4 (a2.Do==7)) (cn ((a2.Do==8)) (W4 (a2.Do==8)) (W4 (a2.Do==9)))))))) λj48=>cn ((a2.Do==3)) (j48 (a2.Do==3)) (j48 (a2.Do==4))))
theorem HT(n:Nat)(a0:aj)(a1:Int)(a2:bU)(a3:(Nat->Int)):tG n a0 a1 a2 a3=l6 n a0 a1 a2 a3:=by unfold tG l6;simp only[akA]
def GY(n:Nat):CT:=cV (am2 (tW n [(20, .join [(.slot 37,(.v .bool))] []),(34, .join [(.slot 46,(.v .bool))] []),(40, .join [(.slot 59,(.v .bool))] []),(46, .join [(.slot 68,(.v .bool))] []),(58, .join [(.slot 85,(.v .bool))] []),(64, .join [(.slot 95,(.v .bool))] []),(72, .join [(.slot 104,(.v .bool))] [])] [kY n,eS n,Dj n,Di n,BE n,BD n,Dg n,Dd n,zB n,Dh n,De n])) (gN 12 [.s 29, .i, .s 34, .v (.ou 2 (.int .i64))] [.t [.s 29, .s 33]]) (a4 (l6 n)) u2 m2 (hW:=λx=>Eq.trans (b:=tG n x.1 x.2.1 x.2.2.1 x.2.2.2.1) (by kernel_rfl) (HT ..))
def uM(n:Nat)(a0:aj)(a1:aN):Option aN:=lt (λ(bg:aN)=>lt (λ(iB:aD)=>gu (!((decide (1<=(wr .i64 a1.S))&&decide ((wr .i64 a1.S)<=32))==true)||bQ (wr .i64 ((wr .i64 a1.S)-1)) 32)<|cn (((decide (1<=(wr .i64 a1.S))&&decide ((wr .i64 a1.S)<=32))&&((iB.Is (Int.toNat (wr .i64 ((wr .i64 a1.S)-1))))==1))) (bd (fk n iB (wr .i64 ((wr .i64 a1.S)-1))) λjl=>lt ({bg with S:=wr .u32 jl}:aN) λdZ=>some dZ) (some bg)) λj27=>cn (((bg.Do==12)||(bg.Do==13))) (j27 a0.aC.K.B) (j27 a0.aC.T.B)) λR2=>gu (!((decide (1<=(wr .i64 a1.R))&&decide ((wr .i64 a1.R)<=32))==true)||bQ (wr .i64 ((wr .i64 a1.R)-1)) 32)<|cn (((decide (1<=(wr .i64 a1.R))&&decide ((wr .i64 a1.R)<=32))&&((a0.aC.T.B.Is (Int.toNat (wr .i64 ((wr .i64 a1.R)-1))))==1))) (bd (fk n a0.aC.T.B (wr .i64 ((wr .i64 a1.R)-1))) λiv=>lt ({a1 with R:=wr .u32 iv}:aN) λfX=>R2 fX) (R2 a1)
def Mz(n:Nat):CT:=cV (tW n [(8, .join [(.via 3, .box 27 (.v (.st 0)))] []),(14, .join [(.via 7, .box 71 (.v (.st 18)))] [])] [mH n]) (gN 8 [.s 29, .s 0] [.s 0]) (a2 (uM n)) u1 m1
def FR(n:Nat)(a0:aN):Option bU:=lt ({Do:=wr .i64 a0.Do,R:=wr .i64 a0.R,S:=wr .i64 a0.S,A:=wr .i64 a0.A,B:=wr .i64 a0.B,V:=a0.V}:bU) λbg=>some bg
def Si(n:Nat):CT:=cV (tW n [] []) (gN 13 [.s 0] [.s 34]) (a1 (FR n)) u1 m1
def nX(n:Nat):Option Bool:=bd (ye n) λbg=>lt ({Do:=1,R:=0,S:=0,A:=4,B:=0,V:=0}:aN) λdZ=>lt ({At:=0,N:=0}:aB) λeJ=>bd (ig n bg 0 dZ eJ) λg8=>lt ({Do:=2,R:=1,S:=0,A:=8,B:=8,V:=0}:aN) λoT=>bd (iT n g8.1 0 oT) λxN=>lt ({Do:=2,R:=1,S:=0,A:=8,B:=8,V:=0}:aN) λmy=>lt ({At:=0,N:=1}:aB) λvB=>bd (ig n g8.1 0 my vB) λRU=>lt ({Do:=3,R:=1,S:=0,A:=6,B:=2,V:=0}:aN) λzv=>bd (mV n RU.1 zv) λuo=>lt ({Do:=9,R:=1,S:=0,A:=0,B:=0,V:=0}:aN) λRS=>lt ({At:=0,N:=0}:aB) λDQ=>bd (ig n RU.1 0 RS DQ) λxS=>lt ({Do:=4,R:=1,S:=0,A:=0,B:=1,V:=5}:aN) λKh=>lt ({At:=0,N:=0}:aB) λx80=>bd (ig n xS.1 0 Kh x80) λGO=>lt ({Do:=20,R:=0,S:=0,A:=0,B:=0,V:=0}:aN) λx92=>lt ({At:=0,N:=0}:aB) λMZ=>bd (ig n GO.1 0 x92 MZ) λx94=>gu (!(((((((g8.2.1.W==1)&&(xN==1))&&(RU.2.1.E==0))&&(RU.2.1.V==0))&&(uo.2==0))&&((uo.1.length:Int)==2))==true)||bQ 1 uo.1.length)<|cl (((((((((((((g8.2.1.W==1)&&(xN==1))&&(RU.2.1.E==0))&&(RU.2.1.V==0))&&(uo.2==0))&&((uo.1.length:Int)==2))&&((uo.1.getD (Int.toNat 1) default)==7))&&(xS.2.1.E==0))&&(GO.2.1.E==5))&&(x94.2.1.E==0))&&((x94.2.2.length:Int)==1))&&(!(x94.1.di 0)))==true) (aV n x94.1.aC.T.bj.oz 1) default λYi=>some (((((((((((((g8.2.1.W==1)&&(xN==1))&&(RU.2.1.E==0))&&(RU.2.1.V==0))&&(uo.2==0))&&((uo.1.length:Int)==2))&&((uo.1.getD (Int.toNat 1) default)==7))&&(xS.2.1.E==0))&&(GO.2.1.E==5))&&(x94.2.1.E==0))&&((x94.2.2.length:Int)==1))&&(!(x94.1.di 0)))&&(!Yi))
def My(n:Nat):CT:=cV (tW n [] [DY n,yS n,vP n,vO n,bJ n]) (gN 4 [] [.b]) (λx=>nX n) u1 m1
def BW(n:Nat):Option aj:=lt ({fR with di:=(dm fR.di 0 true)}:aj) λbg=>lt ({bg with qm:=(dm bg.qm 0 true)}:aj) λiv=>some iv
def Mt(n:Nat):CT:=cV (tW n [] []) (gN 6 [] [.s 29]) (λx=>BW n) u1 m1
def sG(n:Nat)(a0:(List kL))(a1:aN):Option Bool:=cn (decide (60<(a0.length:Int))) (bd (nX n) λbg=>some bg) (bd (ye n) λbV=>bd (BW n) λjl=>bd (JS n 64) λlJ=>lt ({qx:=lJ}:dK) λRU=>Nq (λk79 (DQ:Int) (xS:dK) (x71:aj) (XH:bB)=>cn (decide (DQ<(a0.length:Int))) (gu (bQ DQ a0.length)<|bd (uM n x71 ((a0.getD (Int.toNat DQ) default).C)) λGO=>gu (bQ DQ a0.length)<|bd (iT n XH (wr .i64 ((a0.getD (Int.toNat DQ) default).gT)) GO) λx83=>bd (qW n xS x83) λKg=>cn ((!Kg.2.1)) (k79 (wr .i64 (DQ+1)) Kg.2.2 x71 XH) (gu (bQ DQ a0.length)<|bd (ig n XH (wr .i64 ((a0.getD (Int.toNat DQ) default).gT)) GO Kg.1) λMZ=>gu (bQ DQ a0.length)<|bd (FR n GO) λJi=>lt ((dm (dm (λ_ =>0) 0 Kg.1.At) 1 Kg.1.N):(Nat->Int)) λamZ=>bd (l6 n x71 (wr .i64 ((a0.getD (Int.toNat DQ) default).gT)) Ji amZ) λN4=>bd (qg n Kg.2.2 MZ.2.2) λajF=>cn ((!ajF.1)) (some false) (k79 (wr .i64 (DQ+1)) ajF.2 N4.1 MZ.1))) (bd (uM n x71 a1) λtD=>bd (mV n XH tD) λKi=>bd (kS n x71.aC.T (wr .i64 tD.R)) λYd=>lt (λ(E8:Int)=>cn (((Ki.2!=E8)||(E8 !=0))) (cl (((Ki.2==E8)&&((Ki.1.length:Int)==0))==true) (nX n) default λX8=>some (((Ki.2==E8)&&((Ki.1.length:Int)==0))&&X8)) (lt ({aU:=Yd.1.E.aU,jW:=Yd.1.E.jW}:bP) λafU=>bd (eH n afU) λX7=>cn (((Ki.1.length:Int)!=(wr .i64 tD.B))) (some false) (fK (λahb (C8:Int)=>cn (decide (C8<(Ki.1.length:Int))) (gu (bQ C8 Ki.1.length)<|gu (bQ (wr .i64 ((wr .i64 tD.A)+C8)) X7.length)<|cn (((Ki.1.getD (Int.toNat C8) default)!=(X7.getD (Int.toNat (wr .i64 ((wr .i64 tD.A)+C8))) default))) (some false) (ahb (wr .i64 (C8+1)))) (bd (nX n) λafS=>some afS)) n 0))) λadT=>cn ((Yd.2!=0)) (adT Yd.2) (cn (((((tD.Do !=3)&&(tD.Do !=4))||decide (tD.B<1))||decide (8<tD.B))) (adT 2) (cn (decide (Yd.1.E.jW<(wr .i64 ((wr .i64 tD.A)+(wr .i64 tD.B))))) (adT 9) (adT 0))))) n 0 RU jl bV)
def Dn(n:Nat):CT:=cV (tW n [(13, .loop [(.slot 8,(.v (.int .i64))),(.via 7, .box 105 (.v (.st 31))),(.via 6, .box 99 (.v (.st 29))),(.via 5, .box 67 (.v (.st 17)))]),(52, .join [(.slot 19,(.v (.int .i64)))] []),(65, .loop [(.slot 21,(.v (.int .i64)))])] [My n,DY n,Mt n,Wg n,Mz n,vP n,Fk n,yS n,Si n,GY n,Eo n,vO n,xU n,pe n]) (gN 3 [.v (.sl (.st 1)), .s 0] [.b]) (a2 (sG n)) u1 m1
end
end Go.Proofs.Z
namespace Go.Proofs.Z
open Go Go.Bw
def BZ(m:aZ):bD:=⟨m.nB,m.xR,m.Region,m.iI⟩
structure XE(m:aZ):Prop where
 f:0<=m.nB/\m.nB<8
 r:0<=m.Region/\m.Region<4294967296
def kA(b:bX)(k:Nat):List aZ:=(List.range k).map λi=>b.ring ((b.iH.toNat+i)%4)
structure GH(b:bX)(v:cP):Prop where
 f:0<=b.iH/\b.iH<4
 n:b.n=v.L.length
 l:v.L.length<=4
 c:b.closed=v.nV
 m:v.L=(kA b v.L.length).map BZ
 r:∀x∈kA b v.L.length,XE x
theorem FE(b:bX)(k:Nat):(kA b k).length=k:=by simp[kA]
theorem Qq(b:bX){k i:Nat}(h:i<k):(kA b k)[i]? =some (b.ring ((b.iH.toNat+i)%4)):=by simp[kA,h]
theorem Td{n:Nat}{b:bX}{i:Int}(h:0<=b.iH/\b.iH<4)(h0:0<=i)(h1:i<100):rD n b i=some ((b.iH+i)%4):=by unfold rD;rw[aL (by omega) (by omega),KF (by omega)]
theorem U0{b:bX}{i:Nat}(h:0<=b.iH/\b.iH<4):((b.iH+(i:Int))%4).toNat=(b.iH.toNat+i)%4:=by omega
theorem aal{α:Type}(sz:Nat)(hs:sz<=100)(l x:List α)(h:x.length+l.length<=1000):sH (λ(e:α) k (y:List α)=>lt (e:α) λz=>gu (gw y.length 1 sz)<|lt (y++([z]):List α) λu=>k u) (λ(y:List α)=>some y) l x=some (x++l):=by
 induction l generalizing x with
 |nil=>simp[sH]
 |cons a l ih=>rw[List.length_cons]at h;have e:gw x.length 1 sz=true:=eM (Nat.le_trans (Nat.mul_le_mul (show x.length+1<=1000 by omega) hs) (by decide)) (by omega);have:=ih (x++[a]) (by simp;omega);refine Eq.trans ?_ (this.trans (by simp));show gu (gw x.length 1 sz) _ =_;rw[ax e];rfl
theorem Z6{n:Nat}(hn:10<=n){b:bX}{v:cP}(r:GH b v):qV n b=some (kA b v.L.length):=by
 have hl:=r.l;unfold qV;refine CW (λ(i:Int)=>(kA b v.L.length).drop i.toNat) (λi=>0<=i/\i<=v.L.length) (λi=>((v.L.length:Int)-i).toNat) ?_ n 0 ⟨by omega,by omega⟩ (by omega);rintro k i ⟨i0,i1⟩ ih;have hf:=r.f;rw[r.n];by_cases c:i<v.L.length
 ·have e1:((i.toNat:Nat):Int)=i:=by omega
  have e2:=U0 (b:=b) (i:=i.toNat) hf;rw[e1]at e2;rw[ak (aoY c),ah (Td hf i0 (by omega)),ax (bK (by omega) (by omega)),aL (by omega) (by omega),ih (i+1) ⟨by omega,by omega⟩ (by omega),e2];have hc:i.toNat<(kA b v.L.length).length:=by rw[FE];omega
  rw[List.drop_eq_getElem_cons hc,show(i+1).toNat=i.toNat+1 by omega];unfold yl;have:(kA b v.L.length)[i.toNat]=b.ring ((b.iH.toNat+i.toNat)%4):=by have:=Qq b (k:=v.L.length) (i:=i.toNat) (by omega);rw[ao3 hc]at this;exact Option.some.inj this
  rw[this];rfl
 ·rw[ae (ao5 c),List.drop_of_length_le (by rw[FE];omega)]
theorem adH{n:Nat}(hn:10<=n){b:bX}{v:cP}(r:GH b v):wh n b=some (kA b v.L.length):=by have hl:=r.l;have h:=aal 24 (by decide) (kA b v.L.length) [] (by rw[FE];simp;omega);rw[List.nil_append]at h;unfold wh;exact(ah rfl).trans ((ah (Z6 hn r)).trans h)
theorem Wv(b:bX)(k:Nat):kA b (k+1)=kA b k++[b.ring ((b.iH.toNat+k)%4)]:=by unfold kA;rw[List.range_succ,List.map_append];rfl
theorem SH{b b':bX}{k:Nat}(h:∀i,i<k->b.ring ((b.iH.toNat+i)%4)=b'.ring ((b'.iH.toNat+i)%4)):kA b k=kA b' k:=by unfold kA;refine List.map_congr_left λi hi=>h i ?_;simpa using hi
theorem adC{n:Nat}{b:bX}{v:cP}(r:GH b v){m:aZ}(hm:XE m):
  ∃b' v' e,sD n b m=some (b',e)/\qC n v (BZ m)=some (v',e)/\(e≠0->b'=b/\v'=v)/\(e=0->GH b' v'/\v'.L=v.L++[BZ m])/\(0<=e/\e<100):=by
 have hl:=r.l;unfold sD qC;rw[r.c];cases hc:v.nV with
 |true=>exact⟨b,v,11,rfl,rfl,λ_ =>⟨rfl,rfl⟩,λh=>absurd h (by decide),by decide⟩
 |false=>
  rw[ae rfl,ae rfl,r.n];by_cases h4:v.L.length=4
  ·rw[ak (by rw[h4];rfl),ak (aoY (by omega))]
   exact⟨b,v,7,rfl,rfl,λ_ =>⟨rfl,rfl⟩,λh=>absurd h (by decide),by decide⟩
  ·have hf:=r.f
   rw[ae (by simp;omega),ae (ao5 (by omega)),ah (Td hf (by omega) (by omega)),ax (bK (by omega) (by omega)),aJ,aJ,List.nil_append,
    ax (eM (by simp;omega) (by simp;omega)),aJ,ax (eM (by omega) (by omega)),aJ,aJ]
   refine⟨_,_,0,rfl,rfl,λh=>absurd rfl h,λ_ =>⟨?_,rfl⟩,by decide⟩;have e2:=U0 (b:=b) (i:=v.L.length) hf;have key:kA ⟨dm b.ring ((b.iH+(v.L.length:Int))%4).toNat m,b.iH,wr .i64 (b.n+1),b.closed⟩ (v.L.length+1)=kA b v.L.length++[m]:=by rw[Wv,e2];exact congr (congrArg _ (SH λi hi=>jo _ _ (by dsimp only;omega))) (congrArg (λx=>[x]) (pq _ _ _))
   have hlen:(v.L++[BZ m]).length=v.L.length+1:=by simp
   refine⟨hf,?_,?_,?_,?_,?_⟩
   ·show wr .i64 ((v.L.length:Int)+1)=(v.L++[BZ m]).length
    rw[aL (by omega) (by omega),hlen];rfl
   ·show(v.L++[BZ m]).length<=4
    omega
   ·rfl
   ·show v.L++[BZ m]=(kA _ (v.L++[BZ m]).length).map BZ
    rw[hlen];refine Eq.trans ?_ (congrArg (List.map BZ) key).symm;rw[List.map_append, ← r.m];rfl
   ·show∀x∈kA _ (v.L++[BZ m]).length,_
    rw[hlen];intro x hx;have hx:x∈kA b v.L.length++[m]:=key▸hx;rcases List.mem_append.1 hx with h|h
    ·exact r.r x h
    ·rw[List.mem_singleton.1 h];exact hm
theorem Z2{n:Nat}{b:bX}{v:cP}(r:GH b v):
  ∃b' v' m e,uh n b=some (b',m,e)/\sA n v=some (v',BZ m,e)/\XE m/\(e≠0->b'=b/\v'=v)/\(e=0->GH b' v'/\v.L=BZ m::v'.L)/\(0<=e/\e<100):=by
 have hl:=r.l;have hf:=r.f;unfold uh sA;rw[r.c,r.n];by_cases h0:v.L.length=0
 ·rw[ae (x:=gu _ _) (ao5 (by omega))]
  have e0:(((v.L.length:Nat):Int)==0)=true:=by rw[h0];rfl
  rw[e0];cases hc:v.nV with
  |true=>exact⟨b,v,⟨0,0,0,false⟩,11,rfl,rfl,⟨by decide,by decide⟩,λ_ =>⟨rfl,rfl⟩,λh=>absurd h (by decide),by decide⟩
  |false=>exact⟨b,v,⟨0,0,0,false⟩,10,rfl,rfl,⟨by decide,by decide⟩,λ_ =>⟨rfl,rfl⟩,λh=>absurd h (by decide),by decide⟩
 ·have e0:(((v.L.length:Nat):Int)==0)=false:=by rw[beq_eq_false_iff_ne];omega
  obtain⟨x,l,hx⟩:∃x l,v.L=x::l:=by
   cases h:v.L with
   |nil=>rw[h]at h0;exact absurd rfl h0
   |cons x l=>exact⟨x,l,rfl⟩
  have hlen:v.L.length=l.length+1:=by rw[hx];rfl
  rw[e0,ae (by rfl),ae (by rfl),ax (bK hf.1 hf.2),aJ,ah (Td hf (by omega) (by omega)),aJ,aJ,ak (aoY (by omega)),ax (bK (by omega) (by rw[hlen];omega)),aJ,ax (bK (by omega) (by omega)),aJ];have hm0:b.ring b.iH.toNat∈kA b v.L.length:=by have:=Qq b (k:=v.L.length) (i:=0) (by omega);rw[show(b.iH.toNat+0)%4=b.iH.toNat by omega]at this;exact List.mem_of_getElem? this
  have afv:kA b v.L.length=b.ring b.iH.toNat::kA ⟨b.ring,(b.iH+1)%4,wr .i64 ((v.L.length:Int)-1),b.closed⟩ l.length:=by
   rw[hlen];unfold kA;rw[List.range_succ_eq_map,List.map_cons,List.map_map];refine congr (congrArg _ (congrArg _ (by omega))) (List.map_congr_left λi hi=>?_)
   ·show b.ring ((b.iH.toNat+(i+1))%4)=b.ring ((((b.iH+1)%4).toNat+i)%4)
    congr 1;omega
  have hv:=r.m;rw[afv,hx,List.map_cons]at hv;obtain⟨hv1,hv2⟩:=List.cons.inj hv;have ed:(v.L.drop (Int.toNat 1))=l:=by rw[hx];rfl
  have eg:(v.L.getD (Int.toNat 0) default)=BZ (b.ring b.iH.toNat):=by rw[hx];exact hv1
  refine⟨_,⟨l,v.nV⟩,b.ring b.iH.toNat,0,rfl,by rw[ed,eg],r.r _ hm0,λh=>absurd rfl h,λ_ =>⟨⟨?_,?_,?_,?_,?_,?_⟩,?_⟩,by decide⟩
  ·show 0<=(b.iH+1)%4/\_
   exact⟨by omega,by dsimp only;omega⟩
  ·show wr .i64 ((v.L.length:Int)-1)=l.length
   rw[aL (by omega) (by omega)];omega
  ·show l.length<=4
   omega
  ·rfl
  ·exact hv2
  ·intro y hy
   exact r.r y (afv▸ao6 _ hy)
  ·rw[hx];exact congrArg (· ::l) hv1
theorem Z8{b:bX}{v:cP}(r:GH b v):GH {b with closed:=true} {v with nV:=true}:=⟨r.f,r.n,r.l,rfl,r.m,r.r⟩
theorem WV{n:Nat}(hn:10<=n){b:bX}{v:cP}(r:GH b v):sE n b=some (⟨λ_ =>fN,0,0,true⟩,kA b v.L.length):=by unfold sE;rw[aJ,ah (adH hn r)]
theorem Z7:GH ⟨λ_ =>fN,0,0,true⟩ ⟨[],true⟩:=⟨by decide,rfl,by decide,rfl,rfl,λx h=>by cases h⟩
theorem abu:GH ⟨λ_ =>fN,0,0,false⟩ ⟨[],false⟩:=⟨by decide,rfl,by decide,rfl,rfl,λx h=>by cases h⟩
end Go.Proofs.Z
namespace Go.Proofs.Z
open Go Go.Bw
def IS(w:ai)(h p:Int):Prop:=dL ((w.R (aY h)).E.aU.map jM) p
structure Pg(w:ai)(bk fr:List Rn):Prop where
 can:rP fr
 f:∀h p,aQ w.B h->IS w h p->¬dL fr p
 d:∀h k p,aQ w.B h->aQ w.B k->IS w h p->IS w k p->h=k
 b:CL bk
 bf:∀p,dL bk p->¬dL fr p
 bd:∀h p,aQ w.B h->dL bk p->¬IS w h p
def RR(X:Nat->cP)(i j:Nat)(m:bD):Prop:=i<8/\(X i).L[j]? =some m/\m.Region≠0/\m.iI=false
structure E0(w:ai)(o:bM)(X:Nat->cP):Prop where
 k:∀i j m,RR X i j m->aQ w.B m.Region/\dM w m.Region=0/\(lK w o m.Region).dx=2
 u:∀i j m i' j' m',RR X i j m->RR X i' j' m'->m.Region=m'.Region->i=i'/\j=j'
structure sV(c:Nat)(s:bB)(w:aj)(bk fr:List Rn):Prop where
 rt:gI s.aC.T w.aC.T
 tt:jV w.aC.T
 i6:zn w.aC.T
 op:DK w.aC.T s.aC.O w.aC.O
 rl:w.aC.O.cR.length<=c
 rk:RT s.aC.K w.aC.K
 tk:TT s.aC.K w.aC.K
 bx:∀i,i<8->GH (s.fO i) (w.tB i)
 al:∀i,i<8->s.di i=w.di i
 bo:∀i,i<8->s.qm i=w.qm i
 ly:∀h,aQ w.aC.T.B h->(w.aC.T.R (aY h)).E.jW<=(w.fz (aY h)).length
 b2:∀i,(w.fz i).length<=3000
 fl:E0 w.aC.T s.aC.O w.tB
 pg:Pg w.aC.T bk fr
 bl:w.o7.length=bk.length
section
variable {n:Nat} {t:au} {w:ai} {o:bM}
theorem FF(r:gI t w){h:Int}(hg:aQ w.B h):JG (t.cL (aY h)) (w.R (aY h)):=r.reg _ (fg hg).1 (fg hg).2
theorem Ls(r:gI t w)(i:zn w){h:Int}(hg:aQ w.B h):GD ⟨(w.R (aY h)).E.aU.map jM,(w.R (aY h)).E.jW⟩:=by have q:=FF r hg;obtain⟨b,b1,b2⟩:=wz (n:=110) (by omega) q.n q.r;have:=((i h hg).2 110 (by omega));rw[b1]at this;obtain⟨h1,h2,h3⟩:=b2.1 (Option.some.inj this);exact⟨Vj h1,h2,h3⟩
theorem Ey(r:gI t w)(tt:jV w){x:Int}(hx:aQ w.B x):dc w x=x↔dM w x=0:=by obtain⟨ρ,f⟩:=Lm r tt;unfold dc;rw[aoU hx.2];exact f.Oo ((bY r.bj x).2 hx)
theorem yV(r:gI t w)(tt:jV w){x h:Int}(hx:dM w x=0)(hm:x∈fY w h)(h0:0<=h):x=h:=by
 obtain⟨ρ,f⟩:=Lm r tt;unfold fY at hm;split at hm
 ·rename_i hg
  have:=(f.yU ((bY r.bj h).2 ⟨h0,hg⟩) x).1 hm;rcases this.2 with e|e
  ·exact e
  ·rw[f.u0 this.1 hx]at e;cases e
 ·cases hm
theorem Yz(r:gI t w)(tt:jV w){h:Int}(hg:aQ w.B h):h∈fY w h:=by obtain⟨ρ,f⟩:=Lm r tt;unfold fY;rw[aoU hg.2];exact(f.yU ((bY r.bj h).2 hg) h).2 ⟨(bY r.bj h).2 hg, .inl rfl⟩
theorem aga(r:gI t w)(tt:jV w){x h:Int}(hm:x∈fY w h)(h0:0<=h):dc w x=dc w h:=by
 obtain⟨ρ,f⟩:=Lm r tt;unfold fY at hm;split at hm
 ·rename_i hg
  have hh:=(bY r.bj h).2 ⟨h0,hg⟩;obtain⟨h1,h2⟩:=(f.yU hh x).1 hm;have hx:=(bY r.bj x).1 h1;unfold dc;rw[aoU hg,aoU hx.2];obtain⟨m1,m2,m3⟩:=f.SB hh;refine f.agq h1 ?_ m3;rcases h2 with rfl|h2
  ·exact m2
  ·rcases m2 with e|e
   ·rw[e];exact .inr h2
   ·exact .inr (f.ajK h1 h2 e)
 ·cases hm
theorem agb(r:gI t w)(tt:jV w){h:Int}(h0:0<=h):(fY w h).Nodup:=by
 obtain⟨ρ,f⟩:=Lm r tt;unfold fY;split
 ·rename_i hg;exact f.af3 ((bY r.bj h).2 ⟨h0,hg⟩)
 ·exact List.nodup_nil
theorem yc(r:gI t w)(tt:jV w){x:Int}(hx:aQ w.B x)(hu:dM w x=0):lK w o x=if(o.aI (aY x)).root=x then(o.aI (aY x)).own else K3:=by
 have:=(Ey r tt hx).2 hu;unfold lK;rw[this];by_cases e:(o.aI (aY x)).root=x
 ·rw[aoU ⟨hx.2,e⟩,aoU e]
 ·rw[aoV (λh=>e h.2),aoV e]
end
def TU(sl:Nat->bE)(z:az)(g:Int):az:={z with B:=(dk z.B (λi=>(sl i).Region==g) 32).foldl Bi z.B}
theorem abp{n:Nat}(hn:200<=n){k:ay}{z:az}(r:RT k z)(tk:TT k z){g:Int}(hg:0<=g):∃k',lY n k g=some k'/\l8 n z g=some (TU k.aI z g)/\RT k' (TU k.aI z g)/\TT k' (TU k.aI z g)/\k'.aI=k.aI:=by obtain⟨k',e1,e2,e3,e4⟩:=abq hn r hg;exact⟨k',e1,e2,e3,tk.ae6 _ e4,e4⟩
def Mj(w:ai)(l:List Int):List Rn:=l.flatMap λy=>(w.R (aY y)).E.aU.map jM
def XK(w:ai)(l:List Int):List (Nat->Int):=l.flatMap λy=>(w.R (aY y)).E.aU
theorem Uy(w:ai)(l:List Int):(XK w l).length=(Mj w l).length:=by
 induction l with
 |nil=>rfl
 |cons y l ih=>unfold XK Mj at ih ⊢;rw[List.flatMap_cons,List.flatMap_cons,List.length_append,List.length_append,ih,List.length_map]
theorem aey{w:ai}{l:List Int}{k:Nat}(hk:k<l.length):Mj w (l.take (k+1))=Mj w (l.take k)++(w.R (aY (l.getD k default))).E.aU.map jM:=by rw[ao4 hk, ← fq hk];simp[Mj]
theorem ac0{w:ai}{l:List Int}{k:Nat}(hk:k<l.length):XK w (l.take (k+1))=XK w (l.take k)++(w.R (aY (l.getD k default))).E.aU:=by rw[ao4 hk, ← fq hk];simp[XK]
theorem wC{α:Type}(f:α->Int->α)(a:α){l:List Int}{k:Nat}(hk:k<l.length):(l.take (k+1)).foldl f a=f ((l.take k).foldl f a) (l.getD k default):=by rw[ao4 hk, ← fq hk,List.foldl_append];rfl
theorem abv{w:ai}{l:List Int}(k:Nat):(Mj w (l.take k)).length<=(Mj w l).length:=by
 have:Mj w l=Mj w (l.take k)++Mj w (l.drop k):=by
  conv=>lhs;rw[← List.take_append_drop k l]
  exact List.flatMap_append
 rw[this,List.length_append];omega
def byL(b:Nat->List Int)(l:List Int):Nat->List Int:=l.foldl (λb y=>dm b (aY y) []) b
section
variable {n:Nat} {t:au} {w:ai}
theorem aln(hn:200<=n)(r:gI t w)(tt:jV w)(i:zn w){h:Int}(h0:0<=h)(h1:h<4294967296)(x:aq)(hT:x.av.aC.T=t){z:az}(rk:RT x.av.aC.K z)(tk:TT x.av.aC.K z)(hb:(x.gO++Mj w (fY w h)).length<=1000):
  ∃k' t',fm n x h=some {x with av:={x.av with aC:={x.av.aC with K:=k',T:=t'}},gO:=x.gO++Mj w (fY w h)}/\gI t' (eo w (fY w h))/\jV (eo w (fY w h))/\
   RT k' ((fY w h).foldl (TU x.av.aC.K.aI) z)/\TT k' ((fY w h).foldl (TU x.av.aC.K.aI) z)/\k'.aI=x.av.aC.K.aI:=by
 subst hT;obtain⟨hu,hul⟩:=xW r tt h;obtain⟨t',f1,_,f3,f4⟩:=afB (n:=n) hn r tt i h0 h1;unfold fm;rw[ah (Sr (by omega) r tt h0 h1)];generalize hL:fY w h=l at *;refine dU (λ(q:Int) (y:aq)=>∃(m:Nat) (k':ay),q=m/\m<=l.length/\y={x with av:={x.av with aC:={x.av.aC with K:=k'}},gO:=x.gO++Mj w (l.take m)}/\RT k' ((l.take m).foldl (TU x.av.aC.K.aI) z)/\TT k' ((l.take m).foldl (TU x.av.aC.K.aI) z)/\k'.aI=x.av.aC.K.aI)
  (λq _ =>((l.length:Int)-q).toNat) (λv=>∃k' t',v=some {x with av:={x.av with aC:={x.av.aC with K:=k',T:=t'}},gO:=x.gO++Mj w l}/\gI t' (eo w l)/\jV (eo w l)/\
   RT k' (l.foldl (TU x.av.aC.K.aI) z)/\TT k' (l.foldl (TU x.av.aC.K.aI) z)/\k'.aI=x.av.aC.K.aI) ?_ n 0 x ⟨0,x.av.aC.K,rfl,by omega,by simp[Mj],rk,tk,rfl⟩ (by omega)
 rintro kk q y ⟨m,k',rfl,hm,rfl,rk',tk',hs⟩ ih;by_cases c:m<l.length
 ·have hx:=hu _ (gP (l:=l) (i:=m) c)
  have hlt:=gh hx.2;have e1:=(FF r hx).e;have hbk:=aey (w:=w) c;have hpre:=abv (w:=w) (l:=l) (m+1);rw[List.length_append]at hb;rw[hbk,List.length_append]at hpre;rw[ak (aoY (by omega)),ax (bK (by omega) (by omega)),aoZ];dsimp only;rw[ah (z8 r hx.1 hlt),aoU hx.2];have e2:(p8 x.av.aC.T w (l.getD m default),(0:Int)).1.E.aU=(w.R (aY (l.getD m default))).E.aU.map jM:=congrArg aT.aU e1;rw[e2,ax (eM (by rw[List.length_append];omega) (by rw[List.length_append];omega)),aJ];obtain⟨k2,q1,_,q3,q4,q5⟩:=abp (n:=n) hn rk' tk' (g:=l.getD m default) hx.1;rw[ah q1,aL (by omega) (by omega)];rw[hs]at q3 q4;refine ih _ _ ⟨m+1,k2,by omega,by omega,?_,?_,?_,q5.trans hs⟩ (by omega)
  ·rw[hbk,List.append_assoc]
  ·rw[wC _ _ c];exact q3
  ·rw[wC _ _ c];exact q4
 ·rw[List.take_of_length_le (by omega)]at *
  rw[ae (ao5 (by omega))];dsimp only;rw[ah f1];exact⟨k',t',rfl,f3,f4,rk',tk',hs⟩
theorem alm(hn:200<=n)(r:gI t w)(tt:jV w)(i:zn w){h:Int}(h0:0<=h)(h1:h<4294967296)(x:aj)(hT:x.aC.T=w){k:ay}(rk:RT k x.aC.K)(tk:TT k x.aC.K)(hb:(x.o7++XK w (fY w h)).length<=1000):
  fb n x h=some {x with aC:={x.aC with K:=(fY w h).foldl (TU k.aI) x.aC.K,T:=eo w (fY w h)},fz:=byL x.fz (fY w h),o7:=x.o7++XK w (fY w h)}:=by
 subst hT;obtain⟨hu,hul⟩:=xW r tt h;obtain⟨t',_,f2,_,_⟩:=afB (n:=n) hn r tt i h0 h1;unfold fb;rw[ah (FH (by omega) r tt h0),List.nil_append,ax (eM (by rw[List.length_append]at hb;simp;omega) (by rw[List.length_append]at hb;simp;omega)),aJ];generalize hL:fY x.aC.T h=l at *;refine rE (λ(u:List (Nat->Int)) (q:Int) (y:aj)=>∃(m:Nat) (k':ay),q=m/\m<=l.length/\u=x.o7++XK x.aC.T (l.take m)/\y={x with aC:={x.aC with K:=(l.take m).foldl (TU k.aI) x.aC.K},fz:=byL x.fz (l.take m)}/\RT k' ((l.take m).foldl (TU k.aI) x.aC.K)/\TT k' ((l.take m).foldl (TU k.aI) x.aC.K)/\k'.aI=k.aI)
  (λ_ q _ =>((l.length:Int)-q).toNat) (λv=>v=some {x with aC:={x.aC with K:=l.foldl (TU k.aI) x.aC.K,T:=eo x.aC.T l},fz:=byL x.fz l,o7:=x.o7++XK x.aC.T l}) ?_ n x.o7 0 x ⟨0,k,rfl,by omega,by simp[XK],rfl,rk,tk,rfl⟩ (by omega)
 rintro kk u q y ⟨m,k',rfl,hm,rfl,rfl,rk',tk',hs⟩ ih;by_cases c:m<l.length
 ·have hx:=hu _ (gP (l:=l) (i:=m) c)
  have hlt:=gh hx.2;have hbk:=ac0 (w:=x.aC.T) c;have hpre:=abv (w:=x.aC.T) (l:=l) (m+1);rw[← Uy, ← Uy,hbk,List.length_append]at hpre;rw[List.length_append]at hb;have hin:bQ (m:Int) l.length=true:=bK (by omega) (by omega);have PZ:=gR (l.getD m default);rw[ak (aoY (by omega)),ax hin,aoZ];dsimp only;rw[ah (cW (by omega) r.bj hx.1),aoU hx.2,ax PZ];show gu (gw _ ((x.aC.T.R (aY (l.getD m default))).E.aU).length 16) _ =_;rw[ax (eM (by rw[List.length_append];omega) (by rw[List.length_append];omega)),aJ,ax PZ,aJ,ax hin];obtain⟨k2,_,q2,q3,q4,q5⟩:=abp (n:=n) hn rk' tk' (g:=l.getD m default) hx.1;rw[hs]at q2 q3 q4;dsimp only;rw[ah q2,aJ,aL (by omega) (by omega)];refine ih _ _ _ ⟨m+1,k2,by omega,by omega,?_,?_,?_,?_,q5.trans hs⟩ (by omega)
  ·show _ ++(x.aC.T.R (aY (l.getD m default))).E.aU=_
   rw[hbk,List.append_assoc]
  ·unfold byL;rw[wC _ _ c,wC _ _ c];rfl
  ·rw[wC _ _ c];exact q3
  ·rw[wC _ _ c];exact q4
 ·rw[List.take_of_length_le (by omega)]at *
  rw[ae (ao5 (by omega)),aJ];dsimp only;rw[ah f2,aJ]
end
end Go.Proofs.Z
namespace Go.Proofs.Z
open Go Go.Bw
theorem JZ{a b:List Rn}:CL (a++b)↔CL a/\CL b/\∀p,dL a p->¬dL b p:=by
 constructor
 ·intro h
  obtain⟨h1,h2,h3⟩:=List.pairwise_append.1 h.pw;exact⟨⟨λy hy=>h.nW y (ao1 _ hy),h1⟩,⟨λy hy=>h.nW y (ao0 _ hy),h2⟩,λp ⟨y,hy,a1,a2⟩ ⟨z,hz,b1⟩=>h3 y hy z hz p a1 a2 b1⟩
 ·rintro⟨h1,h2,h3⟩
  refine⟨λy hy=>?_,List.pairwise_append.2 ⟨h1.pw,h2.pw,λy hy z hz p a1 a2 b1=>h3 p ⟨y,hy,a1,a2⟩ ⟨z,hz,b1⟩⟩⟩;rcases List.mem_append.1 hy with e|e
  ·exact h1.nW y e
  ·exact h2.nW y e
theorem ON{w:ai}{l:List Int}{p:Int}:dL (Mj w l) p↔∃y∈l,IS w y p:=by
 constructor
 ·rintro⟨z,hz,h⟩
  obtain⟨y,hy,h2⟩:=List.mem_flatMap.1 hz;exact⟨y,hy,z,h2,h⟩
 ·rintro⟨y,hy,z,hz,h⟩
  exact⟨z,List.mem_flatMap.2 ⟨y,hy,hz⟩,h⟩
section
variable {n:Nat} {t:au} {w:ai}
theorem afz(r:gI t w)(i:zn w){bk fr:List Rn}(q:Pg w bk fr):∀(l:List Int),(∀y∈l,aQ w.B y)->l.Nodup->CL (Mj w l)
 |[],_,_ =>⟨λy hy=>(by cases hy),List.Pairwise.nil⟩
 |y::l,hl,hn=>by obtain⟨hn1,hn2⟩:=List.nodup_cons.1 hn;have hy:=hl y List.mem_cons_self;show CL ((w.R (aY y)).E.aU.map jM++Mj w l);refine JZ.2 ⟨(Ls r i hy).gx.gd,afz r i q l (λz hz=>hl z (ao6 _ hz)) hn2,λp h1 h2=>?_⟩;obtain⟨z,hz,h3⟩:=ON.1 h2;have:=q.d y z p hy (hl z (ao6 _ hz)) h1 h3;exact hn1 (this▸hz)
theorem Xq(l:List Int):∀{t:au} {w:ai},gI t w->jV w->zn w->(∀x∈l,0<=x/\x<4294967296)->∀y,aQ (eo w l).B y->((eo w l).R (aY y)).E=(w.R (aY y)).E/\((eo w l).R (aY y)).bC=(w.R (aY y)).bC/\((eo w l).R (aY y)).cE=(w.R (aY y)).cE:=by
 induction l with
 |nil=>intro t w _ _ _ _ y _;exact⟨rfl,rfl,rfl⟩
 |cons x l ih=>intro t w r tt i hl y hy;have hx:=hl x List.mem_cons_self;obtain⟨t1,_,r1,tt1⟩:=abf (n:=100) (by omega) r tt hx.1 hx.2;have i1:=i.drop r hx.1;obtain⟨e1,e2,e3⟩:=ih r1 tt1 i1 (λz hz=>hl z (ao6 _ hz)) y hy;have hg:=((Po l r1 tt1 i1 (λz hz=>hl z (ao6 _ hz))).2.2.2.1 y).1 hy;have e4:=Pp r hx.1 hg.1;show((eo (Lx w x) l).R (aY y)).E=_ /\((eo (Lx w x) l).R (aY y)).bC=_ /\((eo (Lx w x) l).R (aY y)).cE=_;rw[e1,e2,e3,e4];split<;>exact⟨rfl,rfl,rfl⟩
theorem VP:∀(l:List Int) (b:Nat->List Int) (k:Nat),(∀x∈l,aY x≠k)->byL b l k=b k
 |[],_,_,_ =>rfl
 |x::l,b,k,h=>by have:=VP l (dm b (aY x) []) k λz hz=>h z (ao6 _ hz);exact this.trans (jo _ _ (Ne.symm (h x List.mem_cons_self)))
theorem VQ{m:Nat}:∀(l:List Int) (b:Nat->List Int),(∀k,(b k).length<=m)->∀k,(byL b l k).length<=m
 |[],_,h,k=>h k
 |x::l,b,h,k=>by
  refine VQ l (dm b (aY x) []) (λj=>?_) k;rw[bI];split
  ·exact Nat.zero_le _
  ·exact h j
end
def goX(x:aq)(k':ay)(t':au)(bk:List Rn):aq:={x with av:={x.av with aC:={x.av.aC with K:=k',T:=t'}},gO:=bk}
def goW(sl:Nat->bE)(w:aj)(h:Int):aj:={w with aC:={w.aC with K:=(fY w.aC.T h).foldl (TU sl) w.aC.K,T:=eo w.aC.T (fY w.aC.T h)},fz:=byL w.fz (fY w.aC.T h),o7:=w.o7++XK w.aC.T (fY w.aC.T h)}
theorem Ok{t:au}{w:ai}(r:gI t w)(tt:jV w)(i:zn w){h x:Int}(hx:aQ w.B x)(hu:dM w x=0)(hn:x∉fY w h):
  aQ (eo w (fY w h)).B x/\dM (eo w (fY w h)) x=0/\∀o,lK (eo w (fY w h)) o x=lK w o x:=by
 obtain⟨⟨t',r'⟩,tt',i',d1,d2⟩:=Po (fY w h) r tt i (Ft r tt h);have hg:=(d1 x).2 ⟨hx,hn⟩;have hu':dM (eo w (fY w h)) x=0:=by rw[d2 x hg,hu];split<;>rfl
 exact⟨hg,hu',λo=>(yc r' tt' hg hu').trans (yc r tt hx hu).symm⟩
theorem Pa{n c:Nat}(hn:200<=n){s:bB}{w:aj}{bk fr:List Rn}(j:sV c s w bk fr){h:Int}(h0:0<=h)(h1:h<4294967296)(hf:∀i k m,RR w.tB i k m->m.Region∉fY w.aC.T h)(x:aq)(hs:x.av=s)(hb:x.gO=bk):
  ∃k' t',fm n x h=some (goX x k' t' (bk++Mj w.aC.T (fY w.aC.T h)))/\fb n w h=some (goW s.aC.K.aI w h)/\sV c (goX x k' t' (bk++Mj w.aC.T (fY w.aC.T h))).av (goW s.aC.K.aI w h) (bk++Mj w.aC.T (fY w.aC.T h)) fr:=by
 subst hs hb;have hu:=(xW j.rt j.tt h).1;have Dt:=Ft j.rt j.tt h;have vt:=agb j.rt j.tt h0;have hgd:CL (x.gO++Mj w.aC.T (fY w.aC.T h)):=JZ.2 ⟨j.pg.b,afz j.rt j.i6 j.pg _ hu vt,λp a b=>by
  obtain⟨y,hy,h2⟩:=ON.1 b;exact j.pg.bd y p (hu y hy) a h2⟩
 have hlen:=(Vj hgd).len;obtain⟨k',t',p1,p2,p3,p4,p5,p6⟩:=aln (n:=n) hn j.rt j.tt j.i6 h0 h1 x rfl j.rk j.tk (by omega);have q1:=alm (n:=n) hn j.rt j.tt j.i6 h0 h1 w rfl j.rk j.tk (by
  rw[List.length_append,Uy,j.bl, ← List.length_append];omega)
 obtain⟨_,_,i',d1,d2⟩:=Po (fY w.aC.T h) j.rt j.tt j.i6 Dt;have dr:=Xq (fY w.aC.T h) j.rt j.tt j.i6 Dt;have pg':∀y p,aQ (eo w.aC.T (fY w.aC.T h)).B y->(IS (eo w.aC.T (fY w.aC.T h)) y p↔IS w.aC.T y p):=λy p hy=>by unfold IS;rw[(dr y hy).1]
 refine⟨k',t',p1,q1,p2,p3,i',j.op.mv ⟨SS _ _,λy hy=> .inl ((d1 y).1 hy).1⟩,j.rl,p4,p5,j.bx,j.al,j.bo,λy hy=>?_,λk=>?_,⟨λi k m hm=>?_,j.fl.u⟩,⟨j.pg.can,λy p hy hp=>?_,λy z p hy hz a b=>?_,hgd,λp hp=>?_,λy p hy hp hq=>?_⟩,?_⟩
 ·have hy:aQ (eo w.aC.T (fY w.aC.T h)).B y:=hy
  obtain⟨g1,g2⟩:=(d1 y).1 hy;show((eo w.aC.T (fY w.aC.T h)).R (aY y)).E.jW<=(byL w.fz (fY w.aC.T h) (aY y)).length;rw[(dr y hy).1,VP _ _ _ λz hz e=>g2 (z6 (hu z hz) g1 e▸hz)];exact j.ly y g1
 ·exact VQ _ _ j.b2 k
 ·obtain⟨f1,f2,f3⟩:=j.fl.k i k m hm
  obtain⟨e1,e2,e3⟩:=Ok j.rt j.tt j.i6 f1 f2 (hf i k m hm);exact⟨e1,e2,(congrArg cF.dx (e3 _)).trans f3⟩
 ·exact j.pg.f y p ((d1 y).1 hy).1 ((pg' y p hy).1 hp)
 ·exact j.pg.d y z p ((d1 y).1 hy).1 ((d1 z).1 hz).1 ((pg' y p hy).1 a) ((pg' z p hz).1 b)
 ·rcases jZ.1 hp with e|e
  ·exact j.pg.bf p e
  ·obtain⟨y,hy,e⟩:=ON.1 e
   exact j.pg.f y p (hu y hy) e
 ·have hq:=(pg' y p hy).1 hq
  obtain⟨g1,g2⟩:=(d1 y).1 hy;rcases jZ.1 hp with e|e
  ·exact j.pg.bd y p g1 e hq
  ·obtain⟨z,hz,e⟩:=ON.1 e
   exact g2 (j.pg.d y z p g1 (hu z hz) hq e▸hz)
 ·show(w.o7++XK w.aC.T (fY w.aC.T h)).length=_
  rw[List.length_append,List.length_append,Uy,j.bl]
end Go.Proofs.Z
