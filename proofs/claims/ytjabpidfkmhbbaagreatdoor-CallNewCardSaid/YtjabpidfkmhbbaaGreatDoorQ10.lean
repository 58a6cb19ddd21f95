/- Part 10 of what a proof leans on; pruned and shortened by a program out of longer texts. -/
import Derived.Test.YtjabpidfkmhbbaaGreatDoorQ9
namespace Go.Proofs.Z
open Go Go.Bw Go.Rw Go.RowKit
structure bV where
 gen:Int
 gY:Bool
 gv:Bool
abbrev bw:bP bV:=bP.via (LP (LI .u32) (LP LB LB)) (λx=>(x.gen,x.gY,x.gv))
abbrev jD:bV:=⟨0,false,false⟩
def oS:List Value:=[.int .u32 0]++([.bool false]++([.bool false]))
theorem tN{A:World->Prop}:bw.dJ A oS jD:=⟨_,_,rfl,rfl,⟨_,_,rfl,rfl,rfl⟩⟩
theorem fF:aM bw (LI .u32) 0 (λx=>x.gen) (λx v=>{x with gen:=v}):=(aM.fst aM.id).via _ _ _ 0 rfl (λ_ =>rfl) (λ_ _ =>rfl)
theorem iO:aM bw LB 1 (λx=>x.gY) (λx v=>{x with gY:=v}):=(aM.snd (aM.fst aM.id)).via _ _ _ 1 rfl (λ_ =>rfl) (λ_ _ =>rfl)
theorem mG:aM bw LB 2 (λx=>x.gv) (λx v=>{x with gv:=v}):=(aM.snd (aM.snd aM.id)).via _ _ _ 2 rfl (λ_ =>rfl) (λ_ _ =>rfl)
structure bh where
 bj:(Nat->bV)
abbrev aE:bP bh:=bP.via (LA bw 32) (λx=>x.bj)
abbrev eE:bh:=⟨(λ_ =>jD)⟩
instance:Inhabited bh:=⟨eE⟩
def kR:List Value:=(flat (λ_ =>oS) 32)
theorem oP{A:World->Prop}:aE.dJ A kR eE:=⟨_,rfl,λ_ _ =>tN⟩
theorem bW:aM aE (LA bw 32) 0 (λx=>x.bj) (λx v=>{x with bj:=v}):=aM.id.via _ _ _ 0 rfl (λ_ =>rfl) (λ_ _ =>rfl)
structure iC where
 iw:bh
abbrev l8:bP iC:=bP.via aE (λx=>x.iw)
abbrev sy:iC:=⟨eE⟩
def wg:List Value:=kR
theorem Cz{A:World->Prop}:l8.dJ A wg sy:=oP
theorem yJ:aM l8 aE 0 (λx=>x.iw) (λx v=>{x with iw:=v}):=aM.id.via _ _ _ 0 rfl (λ_ =>rfl) (λ_ _ =>rfl)
structure ai where
 At:Int
 N:Int
abbrev aY:bP ai:=bP.via (LP (LI .i64) (LI .i64)) (λx=>(x.At,x.N))
abbrev bQ:ai:=⟨0,0⟩
instance:Inhabited ai:=⟨bQ⟩
def kA:List Value:=[.int .i64 0]++([.int .i64 0])
theorem tM{A:World->Prop}:aY.dJ A kA bQ:=⟨_,_,rfl,rfl,rfl⟩
theorem CS:aM aY (LI .i64) 0 (λx=>x.At) (λx v=>{x with At:=v}):=(aM.fst aM.id).via _ _ _ 0 rfl (λ_ =>rfl) (λ_ _ =>rfl)
theorem ED:aM aY (LI .i64) 1 (λx=>x.N) (λx v=>{x with N:=v}):=(aM.snd aM.id).via _ _ _ 1 rfl (λ_ =>rfl) (λ_ _ =>rfl)
structure aS where
 p6:(List ai)
 IN:Int
abbrev fg:bP aS:=bP.via (LP (@PW ai ⟨bQ⟩ aY) (LI .i64)) (λx=>(x.p6,x.IN))
abbrev bX:aS:=⟨[],0⟩
instance:Inhabited aS:=⟨bX⟩
def eG:List Value:=[.slice none 0 0]++([.int .i64 0])
theorem iS{A:World->Prop}:fg.dJ A eG bX:=⟨_,_,rfl,⟨_,_,rfl,yP.nil⟩,rfl⟩
theorem vp:aM fg (@PW ai ⟨bQ⟩ aY) 0 (λx=>x.p6) (λx v=>{x with p6:=v}):=(aM.fst aM.id).via _ _ _ 0 rfl (λ_ =>rfl) (λ_ _ =>rfl)
theorem vZ:aM fg (LI .i64) 1 (λx=>x.IN) (λx v=>{x with IN:=v}):=(aM.snd aM.id).via _ _ _ 1 rfl (λ_ =>rfl) (λ_ _ =>rfl)
structure aL where
 Up:Int
 td:Int
 E:aS
 nM:(Nat->Int)
abbrev dS:bP aL:=bP.via (LP (LI .u32) (LP (LI .i64) (LP fg (LA (LI .u32) 8)))) (λx=>(x.Up,x.td,x.E,x.nM))
abbrev fV:aL:=⟨0,0,bX,(λ_ =>0)⟩
instance:Inhabited aL:=⟨fV⟩
def nP:List Value:=[.int .u32 0]++([.int .i64 0]++(eG++((flat (λ_ =>[.int .u32 0]) 8))))
theorem sH{A:World->Prop}:dS.dJ A nP fV:=⟨_,_,rfl,rfl,⟨_,_,rfl,rfl,⟨_,_,rfl,iS,⟨_,rfl,λ_ _ =>rfl⟩⟩⟩⟩
theorem yK:aM dS (LI .u32) 0 (λx=>x.Up) (λx v=>{x with Up:=v}):=(aM.fst aM.id).via _ _ _ 0 rfl (λ_ =>rfl) (λ_ _ =>rfl)
theorem vm:aM dS (LI .i64) 1 (λx=>x.td) (λx v=>{x with td:=v}):=(aM.snd (aM.fst aM.id)).via _ _ _ 1 rfl (λ_ =>rfl) (λ_ _ =>rfl)
theorem zO:aM dS fg 2 (λx=>x.E) (λx v=>{x with E:=v}):=(aM.snd (aM.snd (aM.fst aM.id))).via _ _ _ 2 rfl (λ_ =>rfl) (λ_ _ =>rfl)
theorem vn:aM dS (LA (LI .u32) 8) 4 (λx=>x.nM) (λx v=>{x with nM:=v}):=(aM.snd (aM.snd (aM.snd aM.id))).via _ _ _ 4 rfl (λ_ =>rfl) (λ_ _ =>rfl)
structure aj where
 dA:iC
 eU:(Nat->aL)
abbrev gR:bP aj:=bP.via (LP l8 (LA dS 32)) (λx=>(x.dA,x.eU))
abbrev dM:aj:=⟨sy,(λ_ =>fV)⟩
instance:Inhabited aj:=⟨dM⟩
def oR:List Value:=wg++((flat (λ_ =>nP) 32))
theorem tL{A:World->Prop}:gR.dJ A oR dM:=⟨_,_,rfl,Cz,⟨_,rfl,λ_ _ =>sH⟩⟩
theorem xo:aM gR l8 0 (λx=>x.dA) (λx v=>{x with dA:=v}):=(aM.fst aM.id).via _ _ _ 0 rfl (λ_ =>rfl) (λ_ _ =>rfl)
theorem tF:aM gR (LA dS 32) 96 (λx=>x.eU) (λx v=>{x with eU:=v}):=(aM.snd aM.id).via _ _ _ 96 rfl (λ_ =>rfl) (λ_ _ =>rfl)
structure dg where
 tH:Int
 mm:Int
 fG:Int
abbrev mX:bP dg:=bP.via (LP (LI .u8) (LP (LI .u8) (LI .u8))) (λx=>(x.tH,x.mm,x.fG))
abbrev oM:dg:=⟨0,0,0⟩
instance:Inhabited dg:=⟨oM⟩
def wI:List Value:=[.int .u8 0]++([.int .u8 0]++([.int .u8 0]))
theorem Ba{A:World->Prop}:mX.dJ A wI oM:=⟨_,_,rfl,rfl,⟨_,_,rfl,rfl,rfl⟩⟩
theorem Cj:aM mX (LI .u8) 0 (λx=>x.tH) (λx v=>{x with tH:=v}):=(aM.fst aM.id).via _ _ _ 0 rfl (λ_ =>rfl) (λ_ _ =>rfl)
theorem Ci:aM mX (LI .u8) 1 (λx=>x.mm) (λx v=>{x with mm:=v}):=(aM.snd (aM.fst aM.id)).via _ _ _ 1 rfl (λ_ =>rfl) (λ_ _ =>rfl)
theorem yM:aM mX (LI .u8) 2 (λx=>x.fG) (λx v=>{x with fG:=v}):=(aM.snd (aM.snd aM.id)).via _ _ _ 2 rfl (λ_ =>rfl) (λ_ _ =>rfl)
structure iF where
 root:Int
 own:dg
abbrev mW:bP iF:=bP.via (LP (LI .u32) mX) (λx=>(x.root,x.own))
abbrev pS:iF:=⟨0,oM⟩
def tO:List Value:=[.int .u32 0]++(wI)
theorem zX{A:World->Prop}:mW.dJ A tO pS:=⟨_,_,rfl,rfl,Ba⟩
theorem AP:aM mW (LI .u32) 0 (λx=>x.root) (λx v=>{x with root:=v}):=(aM.fst aM.id).via _ _ _ 0 rfl (λ_ =>rfl) (λ_ _ =>rfl)
theorem Ch:aM mW mX 1 (λx=>x.own) (λx v=>{x with own:=v}):=(aM.snd aM.id).via _ _ _ 1 rfl (λ_ =>rfl) (λ_ _ =>rfl)
structure bS where
 bj:(Nat->iF)
abbrev pU:bP bS:=bP.via (LA mW 32) (λx=>x.bj)
abbrev mS:bS:=⟨(λ_ =>pS)⟩
instance:Inhabited bS:=⟨mS⟩
def tP:List Value:=(flat (λ_ =>tO) 32)
theorem zY{A:World->Prop}:pU.dJ A tP mS:=⟨_,rfl,λ_ _ =>zX⟩
theorem zQ:aM pU (LA mW 32) 0 (λx=>x.bj) (λx v=>{x with bj:=v}):=aM.id.via _ _ _ 0 rfl (λ_ =>rfl) (λ_ _ =>rfl)
structure aV where
 Region:Int
 By:Int
 To:Int
 jb:Bool
 qw:Int
abbrev aT:bP aV:=bP.via (LP (LI .u32) (LP (LI .u8) (LP (LI .u8) (LP LB (LI .u32))))) (λx=>(x.Region,x.By,x.To,x.jb,x.qw))
abbrev eD:aV:=⟨0,0,0,false,0⟩
instance:Inhabited aV:=⟨eD⟩
def oQ:List Value:=[.int .u32 0]++([.int .u8 0]++([.int .u8 0]++([.bool false]++([.int .u32 0]))))
theorem tK{A:World->Prop}:aT.dJ A oQ eD:=⟨_,_,rfl,rfl,⟨_,_,rfl,rfl,⟨_,_,rfl,rfl,⟨_,_,rfl,rfl,rfl⟩⟩⟩⟩
theorem vl:aM aT (LI .u32) 0 (λx=>x.Region) (λx v=>{x with Region:=v}):=(aM.fst aM.id).via _ _ _ 0 rfl (λ_ =>rfl) (λ_ _ =>rfl)
theorem zN:aM aT (LI .u8) 1 (λx=>x.By) (λx v=>{x with By:=v}):=(aM.snd (aM.fst aM.id)).via _ _ _ 1 rfl (λ_ =>rfl) (λ_ _ =>rfl)
theorem zM:aM aT (LI .u8) 2 (λx=>x.To) (λx v=>{x with To:=v}):=(aM.snd (aM.snd (aM.fst aM.id))).via _ _ _ 2 rfl (λ_ =>rfl) (λ_ _ =>rfl)
theorem tE:aM aT LB 3 (λx=>x.jb) (λx v=>{x with jb:=v}):=(aM.snd (aM.snd (aM.snd (aM.fst aM.id)))).via _ _ _ 3 rfl (λ_ =>rfl) (λ_ _ =>rfl)
theorem oy:aM aT (LI .u32) 4 (λx=>x.qw) (λx v=>{x with qw:=v}):=(aM.snd (aM.snd (aM.snd (aM.snd aM.id)))).via _ _ _ 4 rfl (λ_ =>rfl) (λ_ _ =>rfl)
structure aK where
 dA:bh
 bj:(Nat->aV)
abbrev ak:bP aK:=bP.via (LP aE (LA aT 16)) (λx=>(x.dA,x.bj))
abbrev cy:aK:=⟨eE,(λ_ =>eD)⟩
instance:Inhabited aK:=⟨cy⟩
def nO:List Value:=kR++((flat (λ_ =>oQ) 16))
theorem sG{A:World->Prop}:ak.dJ A nO cy:=⟨_,_,rfl,oP,⟨_,rfl,λ_ _ =>tK⟩⟩
theorem cN:aM ak aE 0 (λx=>x.dA) (λx v=>{x with dA:=v}):=(aM.fst aM.id).via _ _ _ 0 rfl (λ_ =>rfl) (λ_ _ =>rfl)
theorem nI:aM ak (LA aT 16) 96 (λx=>x.bj) (λx v=>{x with bj:=v}):=(aM.snd aM.id).via _ _ _ 96 rfl (λ_ =>rfl) (λ_ _ =>rfl)
structure bx where
 T:aj
 O:bS
 K:aK
abbrev cW:bP bx:=bP.via (LP gR (LP pU ak)) (λx=>(x.T,x.O,x.K))
abbrev sA:bx:=⟨dM,mS,cy⟩
def wh:List Value:=oR++(tP++(nO))
theorem CA{A:World->Prop}:cW.dJ A wh sA:=⟨_,_,rfl,tL,⟨_,_,rfl,zY,sG⟩⟩
theorem Cq:aM cW gR 0 (λx=>x.T) (λx v=>{x with T:=v}):=(aM.fst aM.id).via _ _ _ 0 rfl (λ_ =>rfl) (λ_ _ =>rfl)
theorem Cr:aM cW pU 480 (λx=>x.O) (λx v=>{x with O:=v}):=(aM.snd (aM.fst aM.id)).via _ _ _ 480 rfl (λ_ =>rfl) (λ_ _ =>rfl)
theorem Cs:aM cW ak 608 (λx=>x.K) (λx v=>{x with K:=v}):=(aM.snd (aM.snd aM.id)).via _ _ _ 608 rfl (λ_ =>rfl) (λ_ _ =>rfl)
structure aI where
 Cu:Int
 CO:Int
 Region:Int
 vh:Bool
abbrev cR:bP aI:=bP.via (LP (LI .u8) (LP (LI .u64) (LP (LI .u32) LB))) (λx=>(x.Cu,x.CO,x.Region,x.vh))
abbrev eL:aI:=⟨0,0,0,false⟩
instance:Inhabited aI:=⟨eL⟩
def nQ:List Value:=[.int .u8 0]++([.int .u64 0]++([.int .u32 0]++([.bool false])))
theorem sJ{A:World->Prop}:cR.dJ A nQ eL:=⟨_,_,rfl,rfl,⟨_,_,rfl,rfl,⟨_,_,rfl,rfl,rfl⟩⟩⟩
theorem vY:aM cR (LI .u8) 0 (λx=>x.Cu) (λx v=>{x with Cu:=v}):=(aM.fst aM.id).via _ _ _ 0 rfl (λ_ =>rfl) (λ_ _ =>rfl)
theorem vX:aM cR (LI .u64) 1 (λx=>x.CO) (λx v=>{x with CO:=v}):=(aM.snd (aM.fst aM.id)).via _ _ _ 1 rfl (λ_ =>rfl) (λ_ _ =>rfl)
theorem tG:aM cR (LI .u32) 2 (λx=>x.Region) (λx v=>{x with Region:=v}):=(aM.snd (aM.snd (aM.fst aM.id))).via _ _ _ 2 rfl (λ_ =>rfl) (λ_ _ =>rfl)
theorem vo:aM cR LB 3 (λx=>x.vh) (λx v=>{x with vh:=v}):=(aM.snd (aM.snd (aM.snd aM.id))).via _ _ _ 3 rfl (λ_ =>rfl) (λ_ _ =>rfl)
structure bC where
 ring:(Nat->aI)
 s8:Int
 n:Int
 closed:Bool
abbrev iQ:bP bC:=bP.via (LP (LA cR 4) (LP (LI .i64) (LP (LI .i64) LB))) (λx=>(x.ring,x.s8,x.n,x.closed))
abbrev mT:bC:=⟨(λ_ =>eL),0,0,false⟩
instance:Inhabited bC:=⟨mT⟩
def tQ:List Value:=(flat (λ_ =>nQ) 4)++([.int .i64 0]++([.int .i64 0]++([.bool false])))
theorem zZ{A:World->Prop}:iQ.dJ A tQ mT:=⟨_,_,rfl,⟨_,rfl,λ_ _ =>sJ⟩,⟨_,_,rfl,rfl,⟨_,_,rfl,rfl,rfl⟩⟩⟩
theorem AT:aM iQ (LA cR 4) 0 (λx=>x.ring) (λx v=>{x with ring:=v}):=(aM.fst aM.id).via _ _ _ 0 rfl (λ_ =>rfl) (λ_ _ =>rfl)
theorem zV:aM iQ (LI .i64) 16 (λx=>x.s8) (λx v=>{x with s8:=v}):=(aM.snd (aM.fst aM.id)).via _ _ _ 16 rfl (λ_ =>rfl) (λ_ _ =>rfl)
theorem EE:aM iQ (LI .i64) 17 (λx=>x.n) (λx v=>{x with n:=v}):=(aM.snd (aM.snd (aM.fst aM.id))).via _ _ _ 17 rfl (λ_ =>rfl) (λ_ _ =>rfl)
theorem yO:aM iQ LB 18 (λx=>x.closed) (λx v=>{x with closed:=v}):=(aM.snd (aM.snd (aM.snd aM.id))).via _ _ _ 18 rfl (λ_ =>rfl) (λ_ _ =>rfl)
structure aq where
 ez:bx
 gP:(Nat->bC)
 eF:(Nat->Bool)
 C0:(Nat->Bool)
abbrev gS:bP aq:=bP.via (LP cW (LP (LA iQ 8) (LP (LA LB 8) (LA LB 8)))) (λx=>(x.ez,x.gP,x.eF,x.C0))
abbrev cz:aq:=⟨sA,(λ_ =>mT),(λ_ =>false),(λ_ =>false)⟩
instance:Inhabited aq:=⟨cz⟩
def dO:List Value:=wh++((flat (λ_ =>tQ) 8)++((flat (λ_ =>[.bool false]) 8)++((flat (λ_ =>[.bool false]) 8))))
theorem oO{A:World->Prop}:gS.dJ A dO cz:=⟨_,_,rfl,CA,⟨_,_,rfl,⟨_,rfl,λ_ _ =>zZ⟩,⟨_,_,rfl,⟨_,rfl,λ_ _ =>rfl⟩,⟨_,rfl,λ_ _ =>rfl⟩⟩⟩⟩
theorem yN:aM gS cW 0 (λx=>x.ez) (λx v=>{x with ez:=v}):=(aM.fst aM.id).via _ _ _ 0 rfl (λ_ =>rfl) (λ_ _ =>rfl)
theorem vV:aM gS (LA iQ 8) 784 (λx=>x.gP) (λx v=>{x with gP:=v}):=(aM.snd (aM.fst aM.id)).via _ _ _ 784 rfl (λ_ =>rfl) (λ_ _ =>rfl)
theorem vW:aM gS (LA LB 8) 936 (λx=>x.eF) (λx v=>{x with eF:=v}):=(aM.snd (aM.snd (aM.fst aM.id))).via _ _ _ 936 rfl (λ_ =>rfl) (λ_ _ =>rfl)
theorem xp:aM gS (LA LB 8) 944 (λx=>x.C0) (λx v=>{x with C0:=v}):=(aM.snd (aM.snd (aM.snd aM.id))).via _ _ _ 944 rfl (λ_ =>rfl) (λ_ _ =>rfl)
structure bE where
 Ny:Int
 n:Int
 Ar:(Nat->Int)
abbrev iP:bP bE:=bP.via (LP (LI .u8) (LP (LI .i64) (LA (LI .u8) 8))) (λx=>(x.Ny,x.n,x.Ar))
abbrev kI:bE:=⟨0,0,(λ_ =>0)⟩
instance:Inhabited bE:=⟨kI⟩
def rH:List Value:=[.int .u8 0]++([.int .i64 0]++((flat (λ_ =>[.int .u8 0]) 8)))
theorem xy{A:World->Prop}:iP.dJ A rH kI:=⟨_,_,rfl,rfl,⟨_,_,rfl,rfl,⟨_,rfl,λ_ _ =>rfl⟩⟩⟩
theorem AR:aM iP (LI .u8) 0 (λx=>x.Ny) (λx v=>{x with Ny:=v}):=(aM.fst aM.id).via _ _ _ 0 rfl (λ_ =>rfl) (λ_ _ =>rfl)
theorem CX:aM iP (LI .i64) 1 (λx=>x.n) (λx v=>{x with n:=v}):=(aM.snd (aM.fst aM.id)).via _ _ _ 1 rfl (λ_ =>rfl) (λ_ _ =>rfl)
theorem zU:aM iP (LA (LI .u8) 8) 2 (λx=>x.Ar) (λx v=>{x with Ar:=v}):=(aM.snd (aM.snd aM.id)).via _ _ _ 2 rfl (λ_ =>rfl) (λ_ _ =>rfl)
structure au where
 bj:(Nat->bE)
abbrev sF:bP au:=bP.via (LA iP 32) (λx=>x.bj)
abbrev cU:au:=⟨(λ_ =>kI)⟩
instance:Inhabited au:=⟨cU⟩
def jo:List Value:=(flat (λ_ =>rH) 32)
theorem wc{A:World->Prop}:sF.dJ A jo cU:=⟨_,rfl,λ_ _ =>xy⟩
theorem xq:aM sF (LA iP 32) 0 (λx=>x.bj) (λx v=>{x with bj:=v}):=aM.id.via _ _ _ 0 rfl (λ_ =>rfl) (λ_ _ =>rfl)
structure bA where
 l:(List ai)
abbrev nK:bP bA:=bP.via (@PW ai ⟨bQ⟩ aY) (λx=>x.l)
abbrev iN:bA:=⟨[]⟩
instance:Inhabited bA:=⟨iN⟩
def rG:List Value:=[.slice none 0 0]
theorem xx{A:World->Prop}:nK.dJ A rG iN:=⟨_,_,rfl,yP.nil⟩
theorem CR:aM nK (@PW ai ⟨bQ⟩ aY) 0 (λx=>x.l) (λx v=>{x with l:=v}):=aM.id.via _ _ _ 0 rfl (λ_ =>rfl) (λ_ _ =>rfl)
structure ae where
 E:Int
 V:Int
 W:Int
abbrev bO:bP ae:=bP.via (LP (LI .i64) (LP (LI .u64) (LI .u32))) (λx=>(x.E,x.V,x.W))
abbrev bJ:ae:=⟨0,0,0⟩
instance:Inhabited ae:=⟨bJ⟩
def fe:List Value:=[.int .i64 0]++([.int .u64 0]++([.int .u32 0]))
theorem sI{A:World->Prop}:bO.dJ A fe bJ:=⟨_,_,rfl,rfl,⟨_,_,rfl,rfl,rfl⟩⟩
theorem zT:aM bO (LI .i64) 0 (λx=>x.E) (λx v=>{x with E:=v}):=(aM.fst aM.id).via _ _ _ 0 rfl (λ_ =>rfl) (λ_ _ =>rfl)
theorem zS:aM bO (LI .u64) 1 (λx=>x.V) (λx v=>{x with V:=v}):=(aM.snd (aM.fst aM.id)).via _ _ _ 1 rfl (λ_ =>rfl) (λ_ _ =>rfl)
theorem zR:aM bO (LI .u32) 2 (λx=>x.W) (λx v=>{x with W:=v}):=(aM.snd (aM.snd aM.id)).via _ _ _ 2 rfl (λ_ =>rfl) (λ_ _ =>rfl)
structure aC where
 Do:Int
 R:Int
 S:Int
 A:Int
 B:Int
 V:Int
abbrev dN:bP aC:=bP.via (LP (LI .u8) (LP (LI .u32) (LP (LI .u32) (LP (LI .u32) (LP (LI .u32) (LI .u64)))))) (λx=>(x.Do,x.R,x.S,x.A,x.B,x.V))
abbrev cK:aC:=⟨0,0,0,0,0,0⟩
def gQ:List Value:=[.int .u8 0]++([.int .u32 0]++([.int .u32 0]++([.int .u32 0]++([.int .u32 0]++([.int .u64 0])))))
theorem qx{A:World->Prop}:dN.dJ A gQ cK:=⟨_,_,rfl,rfl,⟨_,_,rfl,rfl,⟨_,_,rfl,rfl,⟨_,_,rfl,rfl,⟨_,_,rfl,rfl,rfl⟩⟩⟩⟩⟩
theorem AQ:aM dN (LI .u8) 0 (λx=>x.Do) (λx v=>{x with Do:=v}):=(aM.fst aM.id).via _ _ _ 0 rfl (λ_ =>rfl) (λ_ _ =>rfl)
theorem Cn:aM dN (LI .u32) 1 (λx=>x.R) (λx v=>{x with R:=v}):=(aM.snd (aM.fst aM.id)).via _ _ _ 1 rfl (λ_ =>rfl) (λ_ _ =>rfl)
theorem Cm:aM dN (LI .u32) 2 (λx=>x.S) (λx v=>{x with S:=v}):=(aM.snd (aM.snd (aM.fst aM.id))).via _ _ _ 2 rfl (λ_ =>rfl) (λ_ _ =>rfl)
theorem Cp:aM dN (LI .u32) 3 (λx=>x.A) (λx v=>{x with A:=v}):=(aM.snd (aM.snd (aM.snd (aM.fst aM.id)))).via _ _ _ 3 rfl (λ_ =>rfl) (λ_ _ =>rfl)
theorem Co:aM dN (LI .u32) 4 (λx=>x.B) (λx v=>{x with B:=v}):=(aM.snd (aM.snd (aM.snd (aM.snd (aM.fst aM.id))))).via _ _ _ 4 rfl (λ_ =>rfl) (λ_ _ =>rfl)
theorem Ck:aM dN (LI .u64) 5 (λx=>x.V) (λx v=>{x with V:=v}):=(aM.snd (aM.snd (aM.snd (aM.snd (aM.snd aM.id))))).via _ _ _ 5 rfl (λ_ =>rfl) (λ_ _ =>rfl)
structure aA where
 n:Int
 pX:bA
 bytes:(Nat->(Nat->Int))
abbrev nL:bP aA:=bP.via (LP (LI .i64) (LP nK (LA (LA (LI .u8) 32) 64))) (λx=>(x.n,x.pX,x.bytes))
abbrev dF:aA:=⟨0,iN,(λ_ =>(λ_ =>0))⟩
instance:Inhabited aA:=⟨dF⟩
def xB:List Value:=[.int .i64 0]++(rG++((flat (λ_ =>(flat (λ_ =>[.int .u8 0]) 32)) 64)))
theorem DD{A:World->Prop}:nL.dJ A xB dF:=⟨_,_,rfl,rfl,⟨_,_,rfl,xx,⟨_,rfl,λ_ _ =>⟨_,rfl,λ_ _ =>rfl⟩⟩⟩⟩
theorem CW:aM nL (LI .i64) 0 (λx=>x.n) (λx v=>{x with n:=v}):=(aM.fst aM.id).via _ _ _ 0 rfl (λ_ =>rfl) (λ_ _ =>rfl)
theorem zP:aM nL nK 1 (λx=>x.pX) (λx v=>{x with pX:=v}):=(aM.snd (aM.fst aM.id)).via _ _ _ 1 rfl (λ_ =>rfl) (λ_ _ =>rfl)
theorem yL:aM nL (LA (LA (LI .u8) 32) 64) 2 (λx=>x.bytes) (λx v=>{x with bytes:=v}):=(aM.snd (aM.snd aM.id)).via _ _ _ 2 rfl (λ_ =>rfl) (λ_ _ =>rfl)
structure aF where
 mm:Int
 C:aC
 Checked:Bool
 jO:(List Int)
 FP:ai
 oK:Int
abbrev gi:bP aF:=bP.via (LP (LI .i64) (LP dN (LP LB (LP (@PW Int ⟨0⟩ (LI .u32)) (LP aY (LI .i64)))))) (λx=>(x.mm,x.C,x.Checked,x.jO,x.FP,x.oK))
abbrev gh:aF:=⟨0,cK,false,[],bQ,0⟩
instance:Inhabited aF:=⟨gh⟩
def kS:List Value:=[.int .i64 0]++(gQ++([.bool false]++([.slice none 0 0]++(kA++([.int .i64 0])))))
theorem xA{A:World->Prop}:gi.dJ A kS gh:=⟨_,_,rfl,rfl,⟨_,_,rfl,qx,⟨_,_,rfl,rfl,⟨_,_,rfl,⟨_,_,rfl,yP.nil⟩,⟨_,_,rfl,tM,rfl⟩⟩⟩⟩⟩
theorem zW:aM gi (LI .i64) 0 (λx=>x.mm) (λx v=>{x with mm:=v}):=(aM.fst aM.id).via _ _ _ 0 rfl (λ_ =>rfl) (λ_ _ =>rfl)
theorem CY:aM gi dN 1 (λx=>x.C) (λx v=>{x with C:=v}):=(aM.snd (aM.fst aM.id)).via _ _ _ 1 rfl (λ_ =>rfl) (λ_ _ =>rfl)
theorem v8:aM gi LB 7 (λx=>x.Checked) (λx v=>{x with Checked:=v}):=(aM.snd (aM.snd (aM.fst aM.id))).via _ _ _ 7 rfl (λ_ =>rfl) (λ_ _ =>rfl)
theorem v5:aM gi (@PW Int ⟨0⟩ (LI .u32)) 8 (λx=>x.jO) (λx v=>{x with jO:=v}):=(aM.snd (aM.snd (aM.snd (aM.fst aM.id)))).via _ _ _ 8 rfl (λ_ =>rfl) (λ_ _ =>rfl)
theorem AU:aM gi aY 9 (λx=>x.FP) (λx v=>{x with FP:=v}):=(aM.snd (aM.snd (aM.snd (aM.snd (aM.fst aM.id))))).via _ _ _ 9 rfl (λ_ =>rfl) (λ_ _ =>rfl)
theorem v7:aM gi (LI .i64) 11 (λx=>x.oK) (λx v=>{x with oK:=v}):=(aM.snd (aM.snd (aM.snd (aM.snd (aM.snd aM.id))))).via _ _ _ 11 rfl (λ_ =>rfl) (λ_ _ =>rfl)
structure ah where
 az:aq
 dU:Int
 c:aC
 run:ai
 lG:Int
 B8:Bool
 kO:(List ai)
abbrev Ca:ah:=⟨cz,0,cK,bQ,0,false,[]⟩
instance:Inhabited ah:=⟨Ca⟩
structure Bu where
 A:Type
 z:A
 L:bP A
def bu:List Bu:=[⟨bV,jD,bw⟩,⟨bh,eE,aE⟩,⟨iC,sy,l8⟩,⟨ai,bQ,aY⟩,⟨aS,bX,fg⟩,⟨aL,fV,dS⟩,⟨aj,dM,gR⟩,⟨dg,oM,mX⟩,⟨iF,pS,mW⟩,⟨bS,mS,pU⟩,⟨aV,eD,aT⟩,⟨aK,cy,ak⟩,⟨bx,sA,cW⟩,⟨aI,eL,cR⟩,⟨bC,mT,iQ⟩,⟨aq,cz,gS⟩,⟨bE,kI,iP⟩,⟨au,cU,sF⟩,⟨bA,iN,nK⟩,⟨ae,bJ,bO⟩,⟨aC,cK,dN⟩,⟨aA,dF,nL⟩,⟨aF,gh,gi⟩]
def b0:Bu:=⟨Bool,false,LB⟩
def X4:List Bu->Nat->Bu
 |[],_ =>b0
 |b::r,i=>match i with
  |0=>b
  |i+1=>X4 r i
def sg:Sg:=⟨λi=>(X4 bu i).A,λi=>(X4 bu i).z,λi=>(X4 bu i).L,some (.u8,[(1,125),(2,126),(3,127),(4,128),(5,129),(6,130),(7,131),(8,132),(9,133),(10,134),(11,135),(12,136),(13,137),(14,138),(15,139),(16,139),(17,140),(18,141),(19,142),(20,143),(21,144),(22,145)])⟩
def fds:Hv sg
 |0=>[⟨(.int .u32),0,λ(x:bV)=>x.gen,λ(x:bV) v=>({x with gen:=v}:bV),fF⟩,⟨.bool,1,λ(x:bV)=>x.gY,λ(x:bV) v=>({x with gY:=v}:bV),iO⟩,⟨.bool,2,λ(x:bV)=>x.gv,λ(x:bV) v=>({x with gv:=v}:bV),mG⟩]
 |1=>[⟨(.iK 32 (.st 0)),0,λ(x:bh)=>x.bj,λ(x:bh) v=>({x with bj:=v}:bh),bW⟩]
 |2=>[⟨(.st 1),0,λ(x:iC)=>x.iw,λ(x:iC) v=>({x with iw:=v}:iC),yJ⟩]
 |3=>[⟨(.int .i64),0,λ(x:ai)=>x.At,λ(x:ai) v=>({x with At:=v}:ai),CS⟩,⟨(.int .i64),1,λ(x:ai)=>x.N,λ(x:ai) v=>({x with N:=v}:ai),ED⟩]
 |4=>[⟨(.sl (.st 3)),0,λ(x:aS)=>x.p6,λ(x:aS) v=>({x with p6:=v}:aS),vp⟩,⟨(.int .i64),1,λ(x:aS)=>x.IN,λ(x:aS) v=>({x with IN:=v}:aS),vZ⟩]
 |5=>[⟨(.int .u32),0,λ(x:aL)=>x.Up,λ(x:aL) v=>({x with Up:=v}:aL),yK⟩,⟨(.int .i64),1,λ(x:aL)=>x.td,λ(x:aL) v=>({x with td:=v}:aL),vm⟩,⟨(.st 4),2,λ(x:aL)=>x.E,λ(x:aL) v=>({x with E:=v}:aL),zO⟩,⟨(.iK 8 (.int .u32)),4,λ(x:aL)=>x.nM,λ(x:aL) v=>({x with nM:=v}:aL),vn⟩]
 |6=>[⟨(.st 2),0,λ(x:aj)=>x.dA,λ(x:aj) v=>({x with dA:=v}:aj),xo⟩,⟨(.iK 32 (.st 5)),96,λ(x:aj)=>x.eU,λ(x:aj) v=>({x with eU:=v}:aj),tF⟩]
 |7=>[⟨(.int .u8),0,λ(x:dg)=>x.tH,λ(x:dg) v=>({x with tH:=v}:dg),Cj⟩,⟨(.int .u8),1,λ(x:dg)=>x.mm,λ(x:dg) v=>({x with mm:=v}:dg),Ci⟩,⟨(.int .u8),2,λ(x:dg)=>x.fG,λ(x:dg) v=>({x with fG:=v}:dg),yM⟩]
 |8=>[⟨(.int .u32),0,λ(x:iF)=>x.root,λ(x:iF) v=>({x with root:=v}:iF),AP⟩,⟨(.st 7),1,λ(x:iF)=>x.own,λ(x:iF) v=>({x with own:=v}:iF),Ch⟩]
 |9=>[⟨(.iK 32 (.st 8)),0,λ(x:bS)=>x.bj,λ(x:bS) v=>({x with bj:=v}:bS),zQ⟩]
 |10=>[⟨(.int .u32),0,λ(x:aV)=>x.Region,λ(x:aV) v=>({x with Region:=v}:aV),vl⟩,⟨(.int .u8),1,λ(x:aV)=>x.By,λ(x:aV) v=>({x with By:=v}:aV),zN⟩,⟨(.int .u8),2,λ(x:aV)=>x.To,λ(x:aV) v=>({x with To:=v}:aV),zM⟩,⟨.bool,3,λ(x:aV)=>x.jb,λ(x:aV) v=>({x with jb:=v}:aV),tE⟩,⟨(.int .u32),4,λ(x:aV)=>x.qw,λ(x:aV) v=>({x with qw:=v}:aV),oy⟩]
 |11=>[⟨(.st 1),0,λ(x:aK)=>x.dA,λ(x:aK) v=>({x with dA:=v}:aK),cN⟩,⟨(.iK 16 (.st 10)),96,λ(x:aK)=>x.bj,λ(x:aK) v=>({x with bj:=v}:aK),nI⟩]
 |12=>[⟨(.st 6),0,λ(x:bx)=>x.T,λ(x:bx) v=>({x with T:=v}:bx),Cq⟩,⟨(.st 9),480,λ(x:bx)=>x.O,λ(x:bx) v=>({x with O:=v}:bx),Cr⟩,⟨(.st 11),608,λ(x:bx)=>x.K,λ(x:bx) v=>({x with K:=v}:bx),Cs⟩]
 |13=>[⟨(.int .u8),0,λ(x:aI)=>x.Cu,λ(x:aI) v=>({x with Cu:=v}:aI),vY⟩,⟨(.int .u64),1,λ(x:aI)=>x.CO,λ(x:aI) v=>({x with CO:=v}:aI),vX⟩,⟨(.int .u32),2,λ(x:aI)=>x.Region,λ(x:aI) v=>({x with Region:=v}:aI),tG⟩,⟨.bool,3,λ(x:aI)=>x.vh,λ(x:aI) v=>({x with vh:=v}:aI),vo⟩]
 |14=>[⟨(.iK 4 (.st 13)),0,λ(x:bC)=>x.ring,λ(x:bC) v=>({x with ring:=v}:bC),AT⟩,⟨(.int .i64),16,λ(x:bC)=>x.s8,λ(x:bC) v=>({x with s8:=v}:bC),zV⟩,⟨(.int .i64),17,λ(x:bC)=>x.n,λ(x:bC) v=>({x with n:=v}:bC),EE⟩,⟨.bool,18,λ(x:bC)=>x.closed,λ(x:bC) v=>({x with closed:=v}:bC),yO⟩]
 |15=>[⟨(.st 12),0,λ(x:aq)=>x.ez,λ(x:aq) v=>({x with ez:=v}:aq),yN⟩,⟨(.iK 8 (.st 14)),784,λ(x:aq)=>x.gP,λ(x:aq) v=>({x with gP:=v}:aq),vV⟩,⟨(.iK 8 .bool),936,λ(x:aq)=>x.eF,λ(x:aq) v=>({x with eF:=v}:aq),vW⟩,⟨(.iK 8 .bool),944,λ(x:aq)=>x.C0,λ(x:aq) v=>({x with C0:=v}:aq),xp⟩]
 |16=>[⟨(.int .u8),0,λ(x:bE)=>x.Ny,λ(x:bE) v=>({x with Ny:=v}:bE),AR⟩,⟨(.int .i64),1,λ(x:bE)=>x.n,λ(x:bE) v=>({x with n:=v}:bE),CX⟩,⟨(.iK 8 (.int .u8)),2,λ(x:bE)=>x.Ar,λ(x:bE) v=>({x with Ar:=v}:bE),zU⟩]
 |17=>[⟨(.iK 32 (.st 16)),0,λ(x:au)=>x.bj,λ(x:au) v=>({x with bj:=v}:au),xq⟩]
 |18=>[⟨(.sl (.st 3)),0,λ(x:bA)=>x.l,λ(x:bA) v=>({x with l:=v}:bA),CR⟩]
 |19=>[⟨(.int .i64),0,λ(x:ae)=>x.E,λ(x:ae) v=>({x with E:=v}:ae),zT⟩,⟨(.int .u64),1,λ(x:ae)=>x.V,λ(x:ae) v=>({x with V:=v}:ae),zS⟩,⟨(.int .u32),2,λ(x:ae)=>x.W,λ(x:ae) v=>({x with W:=v}:ae),zR⟩]
 |20=>[⟨(.int .u8),0,λ(x:aC)=>x.Do,λ(x:aC) v=>({x with Do:=v}:aC),AQ⟩,⟨(.int .u32),1,λ(x:aC)=>x.R,λ(x:aC) v=>({x with R:=v}:aC),Cn⟩,⟨(.int .u32),2,λ(x:aC)=>x.S,λ(x:aC) v=>({x with S:=v}:aC),Cm⟩,⟨(.int .u32),3,λ(x:aC)=>x.A,λ(x:aC) v=>({x with A:=v}:aC),Cp⟩,⟨(.int .u32),4,λ(x:aC)=>x.B,λ(x:aC) v=>({x with B:=v}:aC),Co⟩,⟨(.int .u64),5,λ(x:aC)=>x.V,λ(x:aC) v=>({x with V:=v}:aC),Ck⟩]
 |21=>[⟨(.int .i64),0,λ(x:aA)=>x.n,λ(x:aA) v=>({x with n:=v}:aA),CW⟩,⟨(.st 18),1,λ(x:aA)=>x.pX,λ(x:aA) v=>({x with pX:=v}:aA),zP⟩,⟨(.iK 64 (.iK 32 (.int .u8))),2,λ(x:aA)=>x.bytes,λ(x:aA) v=>({x with bytes:=v}:aA),yL⟩]
 |22=>[⟨(.int .i64),0,λ(x:aF)=>x.mm,λ(x:aF) v=>({x with mm:=v}:aF),zW⟩,⟨(.st 20),1,λ(x:aF)=>x.C,λ(x:aF) v=>({x with C:=v}:aF),CY⟩,⟨.bool,7,λ(x:aF)=>x.Checked,λ(x:aF) v=>({x with Checked:=v}:aF),v8⟩,⟨(.sl (.int .u32)),8,λ(x:aF)=>x.jO,λ(x:aF) v=>({x with jO:=v}:aF),v5⟩,⟨(.st 3),9,λ(x:aF)=>x.FP,λ(x:aF) v=>({x with FP:=v}:aF),AU⟩,⟨(.int .i64),11,λ(x:aF)=>x.oK,λ(x:aF) v=>({x with oK:=v}:aF),v7⟩]
 |_ =>[]
def teT:FN TE:=(.cS 88 (.st [(0,none),(1,none),(2,none)] 3) (.cS 48 (.st [(0,none),(1,some 3)] 4) (.cS 30 (.iK 32 29 3 96) (.cS 20 .one (.cS 4 .bool (.cS 3 (.int .i64) (.cS 1 .one .cO .cO) .cO) (.cS 9 .one (.cS 5 (.int .u8) .cO .cO) .cO)) (.cS 26 .one (.cS 23 (.int .i64) (.cS 22 .ptr .cO .cO) .cO) (.cS 29 (.st [(0,none),(1,none),(2,none)] 3) (.cS 27 (.int .u32) .cO .cO) .cO))) (.cS 39 (.iK 8 35 1 8) (.cS 35 (.int .u32) (.cS 34 (.st [(0,some 96)] 96) (.cS 32 (.st [(0,some 96)] 96) .cO .cO) .cO) (.cS 38 (.st [(0,none),(1,none)] 2) (.cS 36 (.sl 101 2 16) .cO .cO) .cO)) (.cS 44 (.st [(0,some 96),(96,some 384)] 480) (.cS 42 (.iK 32 41 12 384) (.cS 41 (.st [(0,none),(1,none),(2,some 2),(4,some 8)] 12) .cO .cO) .cO) (.cS 46 (.st [(0,none),(1,none),(2,none)] 3) .cO .cO)))) (.cS 65 (.iK 8 64 19 152) (.cS 58 (.st [(0,some 480),(480,some 128),(608,some 176)] 784) (.cS 53 (.st [(0,none),(1,none),(2,none),(3,none),(4,none)] 5) (.cS 51 (.st [(0,some 128)] 128) (.cS 49 (.iK 32 48 4 128) .cO .cO) .cO) (.cS 56 (.st [(0,some 96),(96,some 80)] 176) (.cS 54 (.iK 16 53 5 80) .cO .cO) .cO)) (.cS 62 (.iK 4 61 4 16) (.cS 61 (.st [(0,none),(1,none),(2,none),(3,none)] 4) (.cS 59 (.int .u64) .cO .cO) .cO) (.cS 64 (.st [(0,some 16),(16,none),(17,none),(18,none)] 19) .cO .cO))) (.cS 73 (.iK 32 72 10 320) (.cS 69 .ptr (.cS 68 (.st [(0,some 784),(784,some 152),(936,some 8),(944,some 8)] 952) (.cS 66 (.iK 8 4 1 8) .cO .cO) .cO) (.cS 72 (.st [(0,none),(1,none),(2,some 8)] 10) (.cS 70 (.iK 8 5 1 8) .cO .cO) .cO)) (.cS 78 (.st [(0,some 952),(952,none),(953,some 320),(1273,none)] 1274) (.cS 76 (.sl 3 1 8) (.cS 75 (.st [(0,some 320)] 320) .cO .cO) .cO) (.cS 81 (.st [(0,none)] 1) .cO .cO))))) (.cS 156 .one (.cS 114 .one (.cS 98 .one (.cS 94 (.iK 64 93 32 2048) (.cS 93 (.iK 32 5 1 32) (.cS 92 (.st [(0,none),(1,none),(2,none),(3,none),(4,none),(5,none)] 6) .cO .cO) .cO) (.cS 97 .one (.cS 96 (.st [(0,none),(1,some 1),(2,some 2048)] 2050) .cO .cO) .cO)) (.cS 106 (.st [(0,none),(1,some 6),(7,none),(8,none),(9,some 2),(11,none)] 12) (.cS 104 (.sl 35 1 4) (.cS 101 (.st [(0,none),(1,none)] 2) .cO .cO) .cO) (.cS 111 .ptr .cO .cO))) (.cS 142 .one (.cS 118 (.iK 5 26 1 5) (.cS 117 (.st [(0,none),(1,some 12),(13,some 3),(16,none)] 17) (.cS 115 .ptr .cO .cO) .cO) (.cS 138 .one (.cS 119 .one .cO .cO) .cO)) (.cS 151 .one (.cS 147 .one (.cS 145 .one .cO .cO) .cO) (.cS 155 .ptr .cO .cO)))) (.cS 226 .one (.cS 173 .one (.cS 163 (.sl 5 1 1) (.cS 160 (.st [(0,some 952),(952,none),(953,some 6),(959,some 2),(961,none),(962,none),(963,none)] 964) (.cS 158 .ptr .cO .cO) .cO) (.cS 169 .one (.cS 168 .ptr .cO .cO) .cO)) (.cS 182 .one (.cS 180 .one (.cS 174 .one .cO .cO) .cO) (.cS 188 (.sl 36 1 24) .cO .cO))) (.cS 284 .one (.cS 254 .one (.cS 252 .one (.cS 247 (.sl 61 4 24) .cO .cO) .cO) (.cS 277 .ptr (.cS 274 .one .cO .cO) .cO)) (.cS 297 .ptr (.cS 293 .one (.cS 292 .one .cO .cO) .cO) (.cS 298 .one .cO .cO))))))
def tt:TT Tryz.prog sg:=⟨fds,teT,by kernel_rfl⟩
theorem zt3(J:World->Prop)(ρ:aP):∃u:Value,bD Tryz.prog 3=some u.cells.toList/\rv (G:=sg) J ρ (.int .i64 0) u:=⟨.int .i64 0,by kernel_rfl,rfl⟩
theorem zt4(J:World->Prop)(ρ:aP):∃u:Value,bD Tryz.prog 4=some u.cells.toList/\rv (G:=sg) J ρ (.bool false) u:=⟨.bool false,by kernel_rfl,rfl⟩
theorem zt5(J:World->Prop)(ρ:aP):∃u:Value,bD Tryz.prog 5=some u.cells.toList/\rv (G:=sg) J ρ (.int .u8 0) u:=⟨.int .u8 0,by kernel_rfl,rfl⟩
theorem Y6(J:World->Prop)(ρ:aP):∃u:Value,bD Tryz.prog 23=some u.cells.toList/\rv (G:=sg) J ρ (.int .i64 0) u:=⟨.int .i64 0,by kernel_rfl,rfl⟩
theorem Y5(J:World->Prop)(ρ:aP):∃u:Value,bD Tryz.prog 29=some u.cells.toList/\rv (G:=sg) J ρ (.dat (.st 0) jD) u:=⟨.agg (oS).toArray,by kernel_rfl,_,rfl,tN,λ_ =>⟨_,rfl⟩,nofun⟩
theorem Y4(J:World->Prop)(ρ:aP):∃u:Value,bD Tryz.prog 32=some u.cells.toList/\rv (G:=sg) J ρ (.dat (.st 1) eE) u:=⟨.agg (kR).toArray,by kernel_rfl,_,rfl,oP,λ_ =>⟨_,rfl⟩,nofun⟩
theorem YZ(J:World->Prop)(ρ:aP):∃u:Value,bD Tryz.prog 35=some u.cells.toList/\rv (G:=sg) J ρ (.int .u32 0) u:=⟨.int .u32 0,by kernel_rfl,rfl⟩
theorem YY(J:World->Prop)(ρ:aP):∃u:Value,bD Tryz.prog 36=some u.cells.toList/\rv (G:=sg) J ρ .gW u:=⟨.slice none 0 0,by kernel_rfl,rfl⟩
theorem YX(J:World->Prop)(ρ:aP):∃u:Value,bD Tryz.prog 38=some u.cells.toList/\rv (G:=sg) J ρ (.dat (.st 4) bX) u:=⟨.agg (eG).toArray,by kernel_rfl,_,rfl,iS,λ_ =>⟨_,rfl⟩,nofun⟩
theorem YW(J:World->Prop)(ρ:aP):∃u:Value,bD Tryz.prog 41=some u.cells.toList/\rv (G:=sg) J ρ (.dat (.st 5) fV) u:=⟨.agg (nP).toArray,by kernel_rfl,_,rfl,sH,λ_ =>⟨_,rfl⟩,nofun⟩
theorem YV(J:World->Prop)(ρ:aP):∃u:Value,bD Tryz.prog 44=some u.cells.toList/\rv (G:=sg) J ρ (.dat (.st 6) dM) u:=⟨.agg (oR).toArray,by kernel_rfl,_,rfl,tL,λ_ =>⟨_,rfl⟩,nofun⟩
theorem YU(J:World->Prop)(ρ:aP):∃u:Value,bD Tryz.prog 46=some u.cells.toList/\rv (G:=sg) J ρ (.dat (.st 7) oM) u:=⟨.agg (wI).toArray,by kernel_rfl,_,rfl,Ba,λ_ =>⟨_,rfl⟩,nofun⟩
theorem YT(J:World->Prop)(ρ:aP):∃u:Value,bD Tryz.prog 48=some u.cells.toList/\rv (G:=sg) J ρ (.dat (.st 8) pS) u:=⟨.agg (tO).toArray,by kernel_rfl,_,rfl,zX,λ_ =>⟨_,rfl⟩,nofun⟩
theorem YS(J:World->Prop)(ρ:aP):∃u:Value,bD Tryz.prog 51=some u.cells.toList/\rv (G:=sg) J ρ (.dat (.st 9) mS) u:=⟨.agg (tP).toArray,by kernel_rfl,_,rfl,zY,λ_ =>⟨_,rfl⟩,nofun⟩
theorem YR(J:World->Prop)(ρ:aP):∃u:Value,bD Tryz.prog 53=some u.cells.toList/\rv (G:=sg) J ρ (.dat (.st 10) eD) u:=⟨.agg (oQ).toArray,by kernel_rfl,_,rfl,tK,λ_ =>⟨_,rfl⟩,nofun⟩
theorem YQ(J:World->Prop)(ρ:aP):∃u:Value,bD Tryz.prog 56=some u.cells.toList/\rv (G:=sg) J ρ (.dat (.st 11) cy) u:=⟨.agg (nO).toArray,by kernel_rfl,_,rfl,sG,λ_ =>⟨_,rfl⟩,nofun⟩
theorem YP(J:World->Prop)(ρ:aP):∃u:Value,bD Tryz.prog 61=some u.cells.toList/\rv (G:=sg) J ρ (.dat (.st 13) eL) u:=⟨.agg (nQ).toArray,by kernel_rfl,_,rfl,sJ,λ_ =>⟨_,rfl⟩,nofun⟩
theorem YO(J:World->Prop)(ρ:aP):∃u:Value,bD Tryz.prog 64=some u.cells.toList/\rv (G:=sg) J ρ (.dat (.st 14) mT) u:=⟨.agg (tQ).toArray,by kernel_rfl,_,rfl,zZ,λ_ =>⟨_,rfl⟩,nofun⟩
theorem YN(J:World->Prop)(ρ:aP):∃u:Value,bD Tryz.prog 68=some u.cells.toList/\rv (G:=sg) J ρ (.dat (.st 15) cz) u:=⟨.agg (dO).toArray,by kernel_rfl,_,rfl,oO,λ_ =>⟨_,rfl⟩,nofun⟩
theorem YM(J:World->Prop)(ρ:aP):∃u:Value,bD Tryz.prog 72=some u.cells.toList/\rv (G:=sg) J ρ (.dat (.st 16) kI) u:=⟨.agg (rH).toArray,by kernel_rfl,_,rfl,xy,λ_ =>⟨_,rfl⟩,nofun⟩
theorem YL(J:World->Prop)(ρ:aP):∃u:Value,bD Tryz.prog 75=some u.cells.toList/\rv (G:=sg) J ρ (.dat (.st 17) cU) u:=⟨.agg (jo).toArray,by kernel_rfl,_,rfl,wc,λ_ =>⟨_,rfl⟩,nofun⟩
theorem YK(J:World->Prop)(ρ:aP):∃u:Value,bD Tryz.prog 78=some u.cells.toList/\rv (G:=sg) J ρ (.st (.part 952 (.dat (.st 15) cz) (.part 1 .tv (.part 320 (.dat (.st 17) cU) (.part 1 .gW .nil))))) u:=⟨.agg (((dO:List Value)++(([.pointer none]:List Value)++((jo:List Value)++(([.slice none 0 0]:List Value)++([]:List Value)))))).toArray,by kernel_rfl,⟨_,rfl,⟨dO,_, .agg (dO).toArray,rfl,by kernel_rfl,⟨_,rfl,oO,λ_ =>⟨_,rfl⟩,nofun⟩,rfl,⟨[.pointer none],_, .pointer none,rfl,by kernel_rfl,rfl,rfl,⟨jo,_, .agg (jo).toArray,rfl,by kernel_rfl,⟨_,rfl,wc,λ_ =>⟨_,rfl⟩,nofun⟩,rfl,⟨[.slice none 0 0],_, .slice none 0 0,rfl,by kernel_rfl,rfl,rfl,rfl⟩⟩⟩⟩,m9 (by kernel_rfl)⟩⟩
theorem YJ(J:World->Prop)(ρ:aP):∃u:Value,bD Tryz.prog 81=some u.cells.toList/\rv (G:=sg) J ρ (.dat (.st 18) iN) u:=⟨.agg (rG).toArray,by kernel_rfl,_,rfl,xx,λ_ =>⟨_,rfl⟩,nofun⟩
theorem YI(J:World->Prop)(ρ:aP):∃u:Value,bD Tryz.prog 88=some u.cells.toList/\rv (G:=sg) J ρ (.dat (.st 19) bJ) u:=⟨.agg (fe).toArray,by kernel_rfl,_,rfl,sI,λ_ =>⟨_,rfl⟩,nofun⟩
theorem YH(J:World->Prop)(ρ:aP):∃u:Value,bD Tryz.prog 92=some u.cells.toList/\rv (G:=sg) J ρ (.dat (.st 20) cK) u:=⟨.agg (gQ).toArray,by kernel_rfl,_,rfl,qx,λ_ =>⟨_,rfl⟩,nofun⟩
theorem YG(J:World->Prop)(ρ:aP):∃u:Value,bD Tryz.prog 96=some u.cells.toList/\rv (G:=sg) J ρ (.dat (.st 21) dF) u:=⟨.agg (xB).toArray,by kernel_rfl,_,rfl,DD,λ_ =>⟨_,rfl⟩,nofun⟩
theorem UX(J:World->Prop)(ρ:aP):∃u:Value,bD Tryz.prog 101=some u.cells.toList/\rv (G:=sg) J ρ (.dat (.st 3) bQ) u:=⟨.agg (kA).toArray,by kernel_rfl,_,rfl,tM,λ_ =>⟨_,rfl⟩,nofun⟩
theorem UW(J:World->Prop)(ρ:aP):∃u:Value,bD Tryz.prog 106=some u.cells.toList/\rv (G:=sg) J ρ (.dat (.st 22) gh) u:=⟨.agg (kS).toArray,by kernel_rfl,_,rfl,xA,λ_ =>⟨_,rfl⟩,nofun⟩
theorem UU(J:World->Prop)(ρ:aP):∃u:Value,bD Tryz.prog 117=some u.cells.toList/\rv (G:=sg) J ρ (.st (.part 1 .tv (.part 12 (.dat (.st 22) gh) (.part 3 (.dat (.st 19) bJ) (.part 1 (.bool false) .nil))))) u:=⟨.agg ((([.pointer none]:List Value)++((kS:List Value)++((fe:List Value)++(([.bool false]:List Value)++([]:List Value)))))).toArray,by kernel_rfl,⟨_,rfl,⟨[.pointer none],_, .pointer none,rfl,by kernel_rfl,rfl,rfl,⟨kS,_, .agg (kS).toArray,rfl,by kernel_rfl,⟨_,rfl,xA,λ_ =>⟨_,rfl⟩,nofun⟩,rfl,⟨fe,_, .agg (fe).toArray,rfl,by kernel_rfl,⟨_,rfl,sI,λ_ =>⟨_,rfl⟩,nofun⟩,rfl,⟨[.bool false],_, .bool false,rfl,by kernel_rfl,rfl,rfl,rfl⟩⟩⟩⟩,m9 (by kernel_rfl)⟩⟩
theorem UT(J:World->Prop)(ρ:aP):∃u:Value,bD Tryz.prog 118=some u.cells.toList/\rv (G:=sg) J ρ (.st (.part 1 .kL (.part 1 .kL (.part 1 .kL (.part 1 .kL (.part 1 .kL .nil)))))) u:=⟨.agg ((([.nilFunc]:List Value)++(([.nilFunc]:List Value)++(([.nilFunc]:List Value)++(([.nilFunc]:List Value)++(([.nilFunc]:List Value)++([]:List Value))))))).toArray,by kernel_rfl,⟨_,rfl,⟨[.nilFunc],_, .nilFunc,rfl,by kernel_rfl,rfl,rfl,⟨[.nilFunc],_, .nilFunc,rfl,by kernel_rfl,rfl,rfl,⟨[.nilFunc],_, .nilFunc,rfl,by kernel_rfl,rfl,rfl,⟨[.nilFunc],_, .nilFunc,rfl,by kernel_rfl,rfl,rfl,⟨[.nilFunc],_, .nilFunc,rfl,by kernel_rfl,rfl,rfl,rfl⟩⟩⟩⟩⟩,m9 (by kernel_rfl)⟩⟩
theorem UR(J:World->Prop)(ρ:aP):∃u:Value,bD Tryz.prog 145=some u.cells.toList/\rv (G:=sg) J ρ .kL u:=⟨.nilFunc,by kernel_rfl,rfl⟩
theorem UQ(J:World->Prop)(ρ:aP):∃u:Value,bD Tryz.prog 147=some u.cells.toList/\rv (G:=sg) J ρ .kL u:=⟨.nilFunc,by kernel_rfl,rfl⟩
theorem UP(J:World->Prop)(ρ:aP):∃u:Value,bD Tryz.prog 160=some u.cells.toList/\rv (G:=sg) J ρ (.st (.part 952 (.dat (.st 15) cz) (.part 1 (.int .i64 0) (.part 6 (.dat (.st 20) cK) (.part 2 (.dat (.st 3) bQ) (.part 1 (.int .i64 0) (.part 1 (.bool false) (.part 1 .gW .nil)))))))) u:=⟨.agg (((dO:List Value)++(([.int .i64 0]:List Value)++((gQ:List Value)++((kA:List Value)++(([.int .i64 0]:List Value)++(([.bool false]:List Value)++(([.slice none 0 0]:List Value)++([]:List Value))))))))).toArray,by kernel_rfl,⟨_,rfl,⟨dO,_, .agg (dO).toArray,rfl,by kernel_rfl,⟨_,rfl,oO,λ_ =>⟨_,rfl⟩,nofun⟩,rfl,⟨[.int .i64 0],_, .int .i64 0,rfl,by kernel_rfl,rfl,rfl,⟨gQ,_, .agg (gQ).toArray,rfl,by kernel_rfl,⟨_,rfl,qx,λ_ =>⟨_,rfl⟩,nofun⟩,rfl,⟨kA,_, .agg (kA).toArray,rfl,by kernel_rfl,⟨_,rfl,tM,λ_ =>⟨_,rfl⟩,nofun⟩,rfl,⟨[.int .i64 0],_, .int .i64 0,rfl,by kernel_rfl,rfl,rfl,⟨[.bool false],_, .bool false,rfl,by kernel_rfl,rfl,rfl,⟨[.slice none 0 0],_, .slice none 0 0,rfl,by kernel_rfl,rfl,rfl,rfl⟩⟩⟩⟩⟩⟩⟩,m9 (by kernel_rfl)⟩⟩
theorem UO(J:World->Prop)(ρ:aP):∃u:Value,bD Tryz.prog 226=some u.cells.toList/\rv (G:=sg) J ρ .kL u:=⟨.nilFunc,by kernel_rfl,rfl⟩
theorem UN(J:World->Prop)(ρ:aP):∃u:Value,bD Tryz.prog 247=some u.cells.toList/\rv (G:=sg) J ρ .gW u:=⟨.slice none 0 0,by kernel_rfl,rfl⟩
theorem UM(J:World->Prop)(ρ:aP):∃u:Value,bD Tryz.prog 274=some u.cells.toList/\rv (G:=sg) J ρ .ye u:=⟨.map none,by kernel_rfl,rfl⟩
def ztT:FN (AV sg):=(.cS 68 (.dat (.st 15) cz) (.cS 41 (.dat (.st 5) fV) (.cS 29 (.dat (.st 0) jD) (.cS 5 (.int .u8 0) (.cS 4 (.bool false) (.cS 3 (.int .i64 0) .cO .cO) .cO) (.cS 23 (.int .i64 0) .cO .cO)) (.cS 36 .gW (.cS 35 (.int .u32 0) (.cS 32 (.dat (.st 1) eE) .cO .cO) .cO) (.cS 38 (.dat (.st 4) bX) .cO .cO))) (.cS 53 (.dat (.st 10) eD) (.cS 48 (.dat (.st 8) pS) (.cS 46 (.dat (.st 7) oM) (.cS 44 (.dat (.st 6) dM) .cO .cO) .cO) (.cS 51 (.dat (.st 9) mS) .cO .cO)) (.cS 61 (.dat (.st 13) eL) (.cS 56 (.dat (.st 11) cy) .cO .cO) (.cS 64 (.dat (.st 14) mT) .cO .cO)))) (.cS 106 (.dat (.st 22) gh) (.cS 88 (.dat (.st 19) bJ) (.cS 78 (.st (.part 952 (.dat (.st 15) cz) (.part 1 .tv (.part 320 (.dat (.st 17) cU) (.part 1 .gW .nil))))) (.cS 75 (.dat (.st 17) cU) (.cS 72 (.dat (.st 16) kI) .cO .cO) .cO) (.cS 81 (.dat (.st 18) iN) .cO .cO)) (.cS 96 (.dat (.st 21) dF) (.cS 92 (.dat (.st 20) cK) .cO .cO) (.cS 101 (.dat (.st 3) bQ) .cO .cO))) (.cS 160 (.st (.part 952 (.dat (.st 15) cz) (.part 1 (.int .i64 0) (.part 6 (.dat (.st 20) cK) (.part 2 (.dat (.st 3) bQ) (.part 1 (.int .i64 0) (.part 1 (.bool false) (.part 1 .gW .nil)))))))) (.cS 145 .kL (.cS 118 (.st (.part 1 .kL (.part 1 .kL (.part 1 .kL (.part 1 .kL (.part 1 .kL .nil)))))) (.cS 117 (.st (.part 1 .tv (.part 12 (.dat (.st 22) gh) (.part 3 (.dat (.st 19) bJ) (.part 1 (.bool false) .nil))))) .cO .cO) .cO) (.cS 147 .kL .cO .cO)) (.cS 247 .gW (.cS 226 .kL .cO .cO) (.cS 274 .ye .cO .cO)))))
def zt:ZT Tryz.prog sg:=⟨ztT,Ti ⟨YN,⟨YW,⟨Y5,⟨zt5,⟨zt4,⟨zt3,trivial,trivial⟩,trivial⟩,⟨Y6,trivial,trivial⟩⟩,⟨YY,⟨YZ,⟨Y4,trivial,trivial⟩,trivial⟩,⟨YX,trivial,trivial⟩⟩⟩,⟨YR,⟨YT,⟨YU,⟨YV,trivial,trivial⟩,trivial⟩,⟨YS,trivial,trivial⟩⟩,⟨YP,⟨YQ,trivial,trivial⟩,⟨YO,trivial,trivial⟩⟩⟩⟩,⟨UW,⟨YI,⟨YK,⟨YL,⟨YM,trivial,trivial⟩,trivial⟩,⟨YJ,trivial,trivial⟩⟩,⟨YG,⟨YH,trivial,trivial⟩,⟨UX,trivial,trivial⟩⟩⟩,⟨UP,⟨UR,⟨UT,⟨UU,trivial,trivial⟩,trivial⟩,⟨UQ,trivial,trivial⟩⟩,⟨UN,⟨UO,trivial,trivial⟩,⟨UM,trivial,trivial⟩⟩⟩⟩⟩⟩
end Go.Proofs.Z
namespace Go.Rw
open Go Go.Bw Go.RowKit
variable {G:Sg} {P:Program} {Z:Type}
def I3:AV G->List Nat->Option (AV G)
 |v,[]=>some v
 | .fn _ _ c,i::r=>match Je c i with
  |some x=>I3 x r
  |none=>none
 |_,_ =>none
theorem N5{J:World->Prop}{ρ:aP}:∀{p:List Nat} {v x:AV G} {u:Value},I3 v p=some x->rv J ρ v u->∃u',rv J ρ x u':=by
 intro p
 induction p with
 |nil=>intro v x u h hv;unfold I3 at h;obtain rfl:=Option.some.inj h;exact⟨u,hv⟩
 |cons i r ih=>
  intro v x u h hv;cases v<;>(try (simp[I3]at h;done))
  case fn f a c=>
   simp only[I3]at h;split at h
   ·rename_i y hy
    obtain⟨fs,cs,_,_,h2⟩:=hv;obtain⟨u',_,k2⟩:=DZ hy h2;exact ih h k2
   ·cases h
def N7(aa4:AV G):List (List Nat)->Option (AV G)
 |[]=>some .nil
 |(i::p)::r=>match Je aa4 i,N7 aa4 r with
  |some v,some l=>match I3 v p with
   |some x=>some (.cons x l)
   |none=>none
  |_,_ =>none
 |_ =>none
theorem N6{J:World->Prop}{ρ:aP}{aa4:AV G}{vs:List Value}(h:rl J ρ aa4 vs):∀{bi:List (List Nat)} {bk:AV G},N7 aa4 bi=some bk->∃us,rl J ρ bk us:=by
 intro bi
 induction bi with
 |nil=>intro bk e;cases e;exact⟨[],rfl⟩
 |cons q r ih=>
  intro bk e;cases q with
  |nil=>cases e
  |cons i p=>
   simp only[N7]at e;split at e
   ·rename_i v l h1 h2
    split at e
    ·rename_i x hx
     cases e;obtain⟨u,_,k2⟩:=DZ h1 h;obtain⟨u',k4⟩:=N5 hx k2;obtain⟨us,k3⟩:=ih h2;exact⟨u'::us,u',us,rfl,k4,k3⟩
    ·cases e
   ·cases e
def Eg(bI:Sh)(nm:List (Option Nat))(base:Nat)(bk v:AV G)(S1:AS G)(k:HL G (aD bI)->Option Z):Option Z:=
 match uK (su S1.O bI (.cons v bk)) ⟨[(0,v)],S1.O,S1.nx,[]⟩with
 |S3=>match cu S3.F 0 with
  |some v'=>match jx bI (.cons v' bk) ⟨[],S3.O,S3.nx⟩with
   |some (x,g')=>bif wA v'&&(rV nm g'.th&&rW base nm)then k x else none
   |none=>none
  |none=>none
theorem Mm{bI:Sh}{nm:List (Option Nat)}{bk v:AV G}{S1:AS G}{k:HL G (aD bI)->Option Z}{z:Z}{base:Nat}(h:Eg bI nm base bk v S1 k=some z):∃y,Eg bI nm base bk v S1 some=some y/\k y=some z:=by
 unfold Eg at h ⊢;dsimp only at h ⊢;split at h
 ·rename_i v' Fe
  split at h
  ·rename_i x g' hg
   cases hc:(wA v'&&(rV nm g'.th&&rW base nm))with
   |false=>rw[hc]at h;cases h
   |true=>rw[hc]at h;exact⟨x,rfl,h⟩
  ·cases h
 ·cases h
theorem Il{bI:Sh}{nm:List (Option Nat)}{bk v:AV G}{S1:AS G}{y:HL G (aD bI)}{ρ ρ':aP}{J J':World->Prop}{HK X Y H:List av}{w w':World}{a:Act}{u:Value}{us:List Value}{base:Nat}
  (h:Eg bI nm base bk v S1 some=some y)(hb:rl J ρ bk us)(hto:ρ.to ρ' base)(hf:ρ.fr base)(hn:base<=S1.nx)(hJ:∀w,J' w->J w)(hv:rv J' ρ' v u)(hr:Rl ⟨none,w,aU H⟩ 0 ρ' J' HK (Y++X) [] ⟨[],S1.O,S1.nx,[]⟩ a w'):
  xw bI nm y ρ J H HK X w u w':=by
 unfold Eg at h;have h2:Rl ⟨none,w,aU H⟩ 1 ρ' J' HK (Y++X) [] ⟨[(0,v)],S1.O,S1.nx,[]⟩ {a with tmps:= #[u]} w':=by
  refine⟨rfl,hr.df,hr.si,λd x e=>?_,λy hy=>(by cases hy),hr.kc,hr.hp,hr.kn,hr.fr⟩;simp only[cu]at e;cases hd:Nat.beq 0 d with
  |true=>rw[hd]at e;cases e;obtain rfl:=aa7 hd;exact⟨u,rfl,HD hv _⟩
  |false=>rw[hd]at e;cases e
 obtain⟨J3,Y3,mJ,h3⟩:=h2.uK (su S1.O bI (.cons v bk));have FW:(uK (su S1.O bI (.cons v bk)) (⟨[(0,v)],S1.O,S1.nx,[]⟩:AS G)).nx=S1.nx:=rZ _ _;revert h h3 FW;generalize uK (su S1.O bI (.cons v bk)) (⟨[(0,v)],S1.O,S1.nx,[]⟩:AS G)=S3;intro h h3 FW;dsimp only at h;split at h
 ·rename_i v' Fe
  split at h
  ·rename_i x g' hg
   cases hc:(wA v'&&(rV nm g'.th&&rW base nm))with
   |false=>rw[hc]at h;cases h
   |true=>
    rw[hc]at h;cases h;simp only[aa8]at hc;obtain⟨hc0,hc⟩:=hc;obtain⟨u0,e0,Yj⟩:=h3.fs 0 _ Fe;have e0:u0=u:=by have:(#[u]:Array Value)[0]? =some u0:=e0;simpa using this.symm
    subst e0;have hv2:rv J3 ρ' v' u0:=by
     cases v' with
     |gd j ww vv=>cases hc0
     |_ =>exact Yj
    have hle:=hto.le hf;have hb':rl J3 ρ' bk us:=(hb.ext hle).mono λw q=>hJ w (mJ w q);obtain⟨HS,q1,q3⟩:=h3.hp;obtain⟨ρ2,HB,H',hG⟩:=BL (l:=u0::us) (ρ:=ρ') hg ⟨u0,us,rfl,hv2,hb'⟩ q1 h3.fr;obtain⟨n1,n2⟩:=Ln hc.1;have n3:=Lo hc.2;refine⟨cmp ρ2 g'.th,J3,Y3++Y,HB,us,λw q=>hJ w (mJ w q),hG.val,hG.bK,?_,h3.si.s,?_,λi j e=>?_,λi hi=>?_⟩
    ·have:=hG.hp _ _ _ _ q3
     refine(this.sub (List.Sublist.append_left (List.sublist_append_right H' _) HB)).iu ?_;rw[List.append_assoc]
    ·rw[List.append_assoc];exact h3.kn
    ·have ht:=n2 i j e
     have hj:=n3 i j e;unfold cmp;rw[ht];dsimp only;rw[hG.to j (by show j<S3.nx;omega),hto j hj]
    ·unfold cmp
     rw[List.getElem?_eq_none (by rw[← n1];exact hi)]
  ·cases h
 ·cases h
def Xi(ek:Nat->List (Ek P G))(tt:TT P G)(C:CC G)(zf:List ResultVar)(bk:AV G)(base:Nat)(bI:Sh)(nm:List (Option Nat))(eX:Sh)(Lf:List (Option Nat))(fo:HL G (aD bI)->Option Z)(fp:HL G (aD eX)->Option Z):Ex G->AS G->Option Z:=λe S=>match l6 ek e S.D S.O with
 |some (.rE v,O2)=>Eg eX Lf base .nil v ⟨S.F,O2,S.nx,[]⟩ fp
 |some (.gM,O2)=>(match AB tt C ⟨S.F,O2,S.nx,[]⟩ zf with
  |some v=>Eg bI nm base bk v ⟨S.F,O2,S.nx,[]⟩ fo
  |none=>none)
 |some (.ret,O2)=>(match AB tt C ⟨S.F,O2,S.nx,[]⟩ zf with
  |some v=>Eg bI nm base bk v ⟨S.F,O2,S.nx,[]⟩ fo
  |none=>none)
 |_ =>none
noncomputable def Wf(tb:tD P G)(n:Nat)(s:Fs)(fo:HL G (aD s.bI)->Option Z)(fp:HL G (aD s.eX)->Option Z)(i:HI G s):Option Z:=match BN P s.k with
 |some fi=>match s.bl i with
  |(aa4,O,m)=>match N7 aa4 s.bi with
   |some bk=>bif mB aa4&&Nat.ble (zo aa4) fi.N then W tb n fi.N [] [⟨[],s.ro i++[],[]⟩] (.code fi.code) ⟨uL 0 aa4,O,m,[]⟩ (Xi tb.ek tb.tt [⟨[],s.ro i++[],[]⟩] fi.zf bk m s.bI s.nm s.eX s.Lf fo fp)else none
   |none=>none
 |none=>none
theorem Rl.Xv{c:Cx}{N:Nat}{ρ:aP}{J:World->Prop}{HK X:List av}{O:Os G}{S:AS G}{a:Act}{w:World}(h:Rl c N ρ J HK X [⟨[],O,[]⟩] S a w)(hro:c.ro=none):Rl c N ρ J HK X [] S a w:=
 ⟨h.tm,h.df,⟨h.si.s,λ_ =>hro⟩,h.fs,λy hy=>(by cases hy),λr o e=>(by cases e),h.hp,h.kn,h.fr⟩
theorem MJ{tb:tD P G}{n:Nat}{s:Fs}{fo:HL G (aD s.bI)->Option Z}{fp:HL G (aD s.eX)->Option Z}{x:HI G s}{z:Z}(h:Wf tb n s fo fp x=some z)
  {ρ:aP}{J:World->Prop}{HS HK X:List av}{w:World}{vs:List Value}(hv:rl J ρ (s.bl x).1 vs)(hO:RO J ρ (s.bl x).2.1 HS)(hrd:∀r o,cu (s.ro x) r=some o->∃y∈HK,ro J ρ r o y)
  (hp:aX (aU (HS++(HK++X))) w.heap.size (HS++(HK++X)) w)(hk:JY G X J)(hf:ρ.fr (s.bl x).2.2):
  (∃y,fo y=some z/\Calls P s.k vs.toArray w λen w'=>∃u,en= .returned u/\xw s.bI s.nm y ρ J (HS++(HK++X)) HK X w u w')\/
  (∃y,fp y=some z/\Calls P s.k vs.toArray w λen w'=>∃u,en= .panicked [{v:=u,recovered:=false}]/\xw s.eX s.Lf y ρ J (HS++(HK++X)) HK X w u w'):=by
 unfold Wf at h;split at h
 ·rename_i fi GQ
  revert h hv hO hf;generalize s.bl x=b;obtain⟨aa4,O,m⟩:=b;intro hv hO hf h;dsimp only at h hv hO hf;split at h
  ·rename_i bk W7
   cases hc:(mB aa4&&Nat.ble (zo aa4) fi.N)with
   |false=>rw[hc]at h;cases h
   |true=>
    rw[hc]at h;simp only[aa8]at hc;obtain⟨e1,S1,k1,k2,k3⟩:=XE _ _ _ _ _ _ _ _ h;have k2:m<=S1.nx:=k2;obtain⟨us,hus⟩:=N6 hv W7;have hr:Rl ⟨none,w,aU (HS++(HK++X))⟩ 0 ρ J HK X [⟨[],s.ro x,[]⟩] (⟨[],O,m,[]⟩:AS G) ⟨#[],[]⟩ w:=by
     refine⟨rfl, .nil,⟨aJ.refl _ _,λ_ =>rfl⟩,λd x e=>(by cases e),λy hy=>?_,λr o e=>hrd r o ?_,⟨HS,hO,hp⟩,hk,hf⟩
     ·simp at hy;subst hy;exactλd v e=>by cases e
     ·have e:cu (s.ro x++[]) r=some o:=e
      rwa[List.append_nil]at e
    have go:=λe2 O2 hX he=>B7 (tt:=tb.tt) (ek:=tb.ek) (e2:=e2) (O2:=O2) hr GQ hc.1 (Nat.le_of_ble_eq_true hc.2) hv k3 hX rfl he;have ret:∀v e2 O2,l6 tb.ek e1 S1.D S1.O=some (e2,O2)->(e2= .gM\/e2= .ret)->AB tb.tt [⟨[],s.ro x++[],[]⟩] ⟨S1.F,O2,S1.nx,[]⟩ fi.zf=some v->Eg s.bI s.nm m bk v ⟨S1.F,O2,S1.nx,[]⟩ fo=some z->(∃y,fo y=some z/\Calls P s.k vs.toArray w λen w'=>∃u,en= .returned u/\xw s.bI s.nm y ρ J (HS++(HK++X)) HK X w u w'):=by
     intro v e2 O2 hX he hres aam;obtain⟨y,y1,y2⟩:=Mm aam;refine⟨y,y2,?_⟩;have ru:=go e2 O2 hX (.inr ⟨he,v,hres⟩);intro cs';obtain⟨en,w',fr,⟨ρ',J',Y,j1,j2,j3,j4⟩,rest⟩:=ru cs';refine⟨en,w',fr,?_,rest⟩;rcases j4 with⟨v',u,q1,_⟩|⟨_,v',u,q1,rfl,q3⟩
     ·rcases he with he|he<;>rw[he]at q1<;>cases q1
     ·have q1:AB tb.tt [⟨[],s.ro x++[],[]⟩] ⟨S1.F,O2,S1.nx,[]⟩ fi.zf=some v':=q1
      rw[hres]at q1;cases q1;exact⟨u,rfl,Il (S1:=⟨S1.F,O2,S1.nx,[]⟩) y1 hus j1 hf k2 j2 q3 (j3.Xv rfl)⟩
    unfold Xi at k1;split at k1
    ·rename_i v O2 hX
     obtain⟨y,y1,y2⟩:=Mm k1;refine .inr ⟨y,y2,?_⟩;have ru:=go _ O2 hX (.inl ⟨v,rfl⟩);intro cs';obtain⟨en,w',fr,⟨ρ',J',Y,j1,j2,j3,j4⟩,rest⟩:=ru cs';refine⟨en,w',fr,?_,rest⟩;rcases j4 with⟨v',u,q1,rfl,q3⟩|⟨q1,_⟩
     ·cases q1
      exact⟨u,rfl,Il (S1:=⟨S1.F,O2,S1.nx,[]⟩) (us:=[]) y1 rfl j1 hf k2 j2 q3 (j3.Xv rfl)⟩
     ·rcases q1 with q1|q1<;>cases q1
    ·rename_i O2 hX
     split at k1
     ·rename_i v hres;exact .inl (ret v _ O2 hX (.inl rfl) hres k1)
     ·cases k1
    ·rename_i O2 hX
     split at k1
     ·rename_i v hres;exact .inl (ret v _ O2 hX (.inr rfl) hres k1)
     ·cases k1
    ·cases k1
  ·cases h
 ·cases h
def RV(s:Fs)(f:HI G s->Option Z)(mu:Z->HL G (aD s.bI))(x:HI G s)(y:HL G (aD s.bI)):Prop:=∃z,f x=some z/\mu z=y
theorem Qw{tb:tD P G}{n:Nat}{s:Fs}{f:HI G s->Option Z}{um:HL G (aD s.bI)->Z}{mu:Z->HL G (aD s.bI)}(e1:∀y,mu (um y)=y)(hW:∀x,Wf tb n s (λy=>some (um y)) (λ_ =>none) x=f x):Np P s (RV s f mu) (λ_ _ =>False):=by
 intro ρ J HS HK X w vs x hv hO hrd hp hk hfr;refine⟨λy h=>?_,λy h=>h.elim⟩;obtain⟨z,h,hz⟩:=h;rw[← hW]at h;rcases MJ h hv hO hrd hp hk hfr with⟨y',h1,h2⟩|⟨y',h1,_⟩
 ·have h1:=Option.some.inj h1
  have:y'=y:=by rw[← hz, ← h1,e1]
  subst this;exact h2
 ·cases h1
def Ut(s:Fs)(f:HI G s->Option Z)(mu:Z->HL G (aD s.bI))(zz:Z)(hf:(BN P s.k).isSome=true)(ok:Np P s (RV s f mu) (λ_ _ =>False)):Ct P G where
 s:=s
 R:=RV s f mu
 Rp:=λ_ _ =>False
 cp:=λx ko _ =>bd (f x) λz=>ko (mu z)
 cg:=λg x ko=>cl g (f x) zz λz=>ko (mu z)
 Uu:=λx ko kp z h=>by obtain⟨y,h1,h2⟩:=oE h;exact .inl ⟨mu y,⟨y,h1,rfl⟩,h2⟩
 Xq:=λg x k z h=>by obtain⟨y,h1,_,h2⟩:=Pe h;exact⟨mu y,λq=>⟨y,h1 q,rfl⟩,h2⟩
 fn:=by
  cases h:BN P s.k with
  |none=>rw[h]at hf;cases hf
  |some fi=>exact zw h
 ok:=ok
def RE(s:Fs)(f:HI G s->Option (Except Int Z))(mu:Z->HL G (aD s.bI))(x:HI G s)(y:HL G (aD s.bI)):Prop:=∃z,f x=some (.ok z)/\mu z=y
def RX(s:Fs)(f:HI G s->Option (Except Int Z))(me:Int->HL G (aD s.eX))(x:HI G s)(y:HL G (aD s.eX)):Prop:=∃e,f x=some (.error e)/\me e=y
theorem Mf{tb:tD P G}{n:Nat}{s:Fs}{f:HI G s->Option (Except Int Z)}{um:HL G (aD s.bI)->Z}{mu:Z->HL G (aD s.bI)}{ue:HL G (aD s.eX)->Int}{me:Int->HL G (aD s.eX)}(e1:∀y,mu (um y)=y)(e2:∀y,me (ue y)=y)(hW:∀x,Wf tb n s (λy=>some (.ok (um y))) (λy=>some (.error (ue y))) x=f x):Np P s (RE s f mu) (RX s f me):=by
 intro ρ J HS HK X w vs x hv hO hrd hp hk hfr;refine⟨λy h=>?_,λy h=>?_⟩
 ·obtain⟨z,h,hz⟩:=h
  rw[← hW]at h;rcases MJ h hv hO hrd hp hk hfr with⟨y',h1,h2⟩|⟨y',h1,_⟩
  ·have h1:=Except.ok.inj (Option.some.inj h1)
   have:y'=y:=by rw[← hz, ← h1,e1]
   subst this;exact h2
  ·cases Option.some.inj h1
 ·obtain⟨z,h,hz⟩:=h
  rw[← hW]at h;rcases MJ h hv hO hrd hp hk hfr with⟨y',h1,h2⟩|⟨y',h1,h2⟩
  ·cases Option.some.inj h1
  ·have h1:=Except.error.inj (Option.some.inj h1)
   have:y'=y:=by rw[← hz, ← h1,e2]
   subst this;exact h2
def My(s:Fs)(f:HI G s->Option (Except Int Z))(mu:Z->HL G (aD s.bI))(me:Int->HL G (aD s.eX))(hf:(BN P s.k).isSome=true)(ok:Np P s (RE s f mu) (RX s f me)):Ct P G where
 s:=s
 R:=RE s f mu
 Rp:=RX s f me
 cp:=λx ko kp=>bd (f x) λr=>match r with
  | .ok z=>ko (mu z)
  | .error e=>kp (me e)
 cg:=λ_ _ _ =>none
 Uu:=λx ko kp z h=>by
  obtain⟨r,h1,h2⟩:=oE h;cases r with
  |ok y=>exact .inl ⟨mu y,⟨y,h1,rfl⟩,h2⟩
  |error e=>exact .inr ⟨me e,⟨e,h1,rfl⟩,h2⟩
 Xq:=λg x k z h=>by cases h
 fn:=by
  cases h:BN P s.k with
  |none=>rw[h]at hf;cases hf
  |some fi=>exact zw h
 ok:=ok
def ctX(s:Fs)(f:HI G s->Option (Except Int Z))(mu:Z->HL G (aD s.bI))(me:Int->HL G (aD s.eX))(hf:(BN P s.k).isSome=true)(ok:Np P s (RE s f mu) (RX s f me))(cp:{Y:Type}->HI G s->(HL G (aD s.bI)->Option Y)->(HL G (aD s.eX)->Option Y)->Option Y)
  (hc:∀{Y:Type} (x:HI G s) (ko:HL G (aD s.bI)->Option Y) (kp:HL G (aD s.eX)->Option Y),cp x ko kp=(My s f mu me hf ok).cp x ko kp):Ct P G where
 s:=s
 R:=RE s f mu
 Rp:=RX s f me
 cp:=cp
 cg:=λ_ _ _ =>none
 Uu:=λx ko kp z h=>(My s f mu me hf ok).Uu x ko kp z (by rw[← hc];exact h)
 Xq:=λg x k z h=>by cases h
 fn:=(My s f mu me hf ok).fn
 ok:=ok
abbrev Sh.i:Sh:= .v (.int .i64)
abbrev Sh.b:Sh:= .v .bool
abbrev Sh.s(n:Nat):Sh:= .v (.st n)
abbrev Sh.w:Sh:= .v (.int .u32)
def lS:List Sh->Sh
 |[]=> .nil
 |a::r=> .cons a (lS r)
abbrev Sh.t(l:List Sh):Sh:= .iy (lS l)
abbrev ga(k:Nat)(i o:List Sh):Fs:=⟨k,[],lS i,lS o,[], .nil,[],[]⟩
abbrev Xf(k:Nat)(i o:List Sh)(T:Nat):Fs:=⟨k,[],lS i,lS o,[], .cons (.fW T (.v (.int .i64))) .nil,[],[]⟩
section
variable {A B C D:Type}
def u1(y:A×Unit):A:=y.1
def u2(y:A×B×Unit):A×B:=(y.1,y.2.1)
def u3(y:A×B×C×Unit):A×B×C:=(y.1,y.2.1,y.2.2.1)
def m1(z:A):A×Unit:=(z,())
def m2(z:A×B):A×B×Unit:=(z.1,z.2,())
def m3(z:A×B×C):A×B×C×Unit:=(z.1,z.2.1,z.2.2,())
def a1(f:A->Z)(x:A×Unit):Z:=f x.1
def a2(f:A->B->Z)(x:A×B×Unit):Z:=f x.1 x.2.1
def a3(f:A->B->C->Z)(x:A×B×C×Unit):Z:=f x.1 x.2.1 x.2.2.1
def a4(f:A->B->C->D->Z)(x:A×B×C×D×Unit):Z:=f x.1 x.2.1 x.2.2.1 x.2.2.2.1
end
def cV[Inhabited Z](tb:tD P G)(s:Fs)(f:HI G s->Option Z)(um:HL G (aD s.bI)->Z)(mu:Z->HL G (aD s.bI))(e1:∀y,mu (um y)=y:=by exactλ_ =>rfl)(hf:(BN P s.k).isSome=true:=by kernel_rfl)(hW:∀x,Wf tb 3000 s (λy=>some (um y)) (λ_ =>none) x=f x:=by intro _;kernel_rfl):Ct P G:=
 Ut s f mu default hf (Qw e1 hW)
def cX(tb:tD P G)(s:Fs)(f:HI G s->Option (Except Int Z))(um:HL G (aD s.bI)->Z)(mu:Z->HL G (aD s.bI))(ue:HL G (aD s.eX)->Int)(me:Int->HL G (aD s.eX))(e1:∀y,mu (um y)=y:=by exactλ_ =>rfl)(e2:∀y,me (ue y)=y:=by exactλ_ =>rfl)(hf:(BN P s.k).isSome=true:=by kernel_rfl)
  (hW:∀x,Wf tb 3000 s (λy=>some (.ok (um y))) (λy=>some (.error (ue y))) x=f x:=by intro _;kernel_rfl):Ct P G:=My s f mu me hf (Mf e1 e2 hW)
def cT(tb:tD P G)(k:Nat)(i o:List Sh)(T:Nat)(f:HI G (Xf k i o T)->Option (Except Int Z))(um:HL G (aD (Xf k i o T).bI)->Z)(mu:Z->HL G (aD (Xf k i o T).bI))(e1:∀y,mu (um y)=y:=by exactλ_ =>rfl)(hf:(BN P k).isSome=true:=by kernel_rfl)
  (hW:∀x,Wf tb 3000 (Xf k i o T) (λy=>some (.ok (um y))) (λy=>some (.error (u1 y))) x=f x:=by intro _;kernel_rfl):Ct P G:=My (Xf k i o T) f mu m1 hf (Mf e1 (λ_ =>rfl) hW)
def JC(k T:Nat):Fs:=⟨k,[], .cons (.v .bool) (.cons (.v (.int .i64)) .nil), .cons (.iy .nil) .nil,[], .cons (.fW T (.v (.int .i64))) .nil,[],[]⟩
def S9{k T:Nat}(x:HI G (JC k T)):Bool:=x.1
def Xz{k T:Nat}(x:HI G (JC k T)):Int:=x.2.1
def Po{k T:Nat}(x:HI G (JC k T)):Option (Except Int Unit):=cn (!S9 x) (some (.error (Xz x))) (some (.ok ()))
def XA{k T:Nat}(y:HL G (aD (JC k T).eX)):Int:=y.1
def Qf(tb:tD P G)(k T:Nat)(hf:(BN P k).isSome=true)(hW:∀x,Wf tb 300 (JC k T) (λ_ =>some (.ok ())) (λy=>some (.error (XA y))) x=Po x):Ct P G:=
 ctX (JC k T) Po (λ_ =>()) (λe=>(e,())) hf (Mf (tb:=tb) (n:=300) (um:=λ_ =>()) (ue:=XA) (λ_ =>rfl) (λ_ =>rfl) hW)
  (λx ko kp=>bif S9 x then ko ()else kp (Xz x,())) (λx ko kp=>by
   show _ =bd (Po x) _;unfold Po;cases S9 x<;>rfl)
def ZC{α:Type}:List (Nat×α)->Nat->Option α
 |[],_ =>none
 |(k,v)::r,d=>bif Nat.beq k d then some v else ZC r d
def OH:List (Ct P G)->Nat->List (Ct P G)
 |[],_ =>[]
 |c::r,k=>bif Nat.beq c.s.k k then c::OH r k else OH r k
def DL:List Ty->List Ty->Bool
 |[],[]=>true
 |a::r,b::q=>a.bp b&&DL r q
 |_,_ =>false
theorem KJ:∀{l m:List Ty},DL l m=true->l=m:=by
 intro l
 induction l with
 |nil=>intro m h;cases m with
  |nil=>rfl
  |cons _ _ =>cases h
 |cons a r ih=>intro m h;cases m with
  |nil=>cases h
  |cons b q=>simp only[DL,aa8]at h;rw[Ty.qC h.1,ih h.2]
structure Yy(G:Sg) where
 L:List Ty
 v:Vw G L
def lkV:List (Nat×Yy G)->Nat->(L:List Ty)->Option (Vw G L)
 |[],_,_ =>none
 |(k,a)::r,i,L=>bif Nat.beq k i then(if h:DL a.L L=true then some (KJ h▸a.v)else none)else lkV r i L
def OF:List (It P G)->Nat->List (It P G)
 |[],_ =>[]
 |c::r,k=>bif Nat.beq c.k k then c::OF r k else OF r k
def OG:List (Ek P G)->Nat->List (Ek P G)
 |[],_ =>[]
 |c::r,k=>bif Nat.beq c.k k then c::OG r k else OG r k
def Vb(tt:TT P G)(zt:ZT P G)(n:Nat)(h:List (Nat×Hn))(cs:List (Ct P G))(vs:List (Nat×Yy G))(ON:List (It P G))(es:List (Ek P G)):tD P G:=⟨tt,zt,λ_ i=>ZC h i,OH cs,n,lkV vs,OF ON,OG es,false⟩
def W4(cp:List Nat)(i:Nat):Nat:=cp.foldr (λd k=>k*1000+d+1) 0*10000000+i
def Zk(tt:TT P G)(zt:ZT P G)(n:Nat)(h:List (Nat×Hn))(cs:List (Ct P G))(ON:List (It P G))(es:List (Ek P G)):tD P G:=⟨tt,zt,λcp i=>ZC h (W4 cp i),OH cs,n,λ_ _ =>none,OF ON,OG es,false⟩
end Go.Rw
namespace Go.Rw
open Go Go.Bw Go.RowKit
variable {G:Sg} {P:Program} {N:Nat} {C:CC G} {B:Type}
def Y8(y:B)(t f:Option (List B)):Option (List B):=match f with
 |some []=>yl y t
 |_ =>none
theorem UY{y:B}{t f:Option (List B)}{r:List B}(h:Y8 y t f=some r):f=some []/\∃r',t=some r'/\r=y::r':=by
 unfold Y8 at h;split at h
 ·obtain⟨r',h1,h2⟩:=Y7 h
  exact⟨rfl,r',h2,h1⟩
 ·cases h
def Za(C:CC G)(S:AS G)(o:Oper):Option (AV G):=match o.op with
 | .call ⟨.value _,args,_⟩=>G1 (dV C S []) args.toList
 |_ =>none
def Qo(yn:Nat)(C:CC G)(S:AS G)(ch:List (Nat×Bool))(o:Oper):Bool:=match o.op with
 | .call ⟨.value f,_,_⟩=>match dV C S ch f with
  |some (.mp k)=>Nat.beq k yn
  |_ =>false
 |_ =>false
def ZU(yn:Nat)(C:CC G)(S:AS G)(all:Array Oper)(o:Oper):Bool:=match o.guard with
 |none=>Qo yn C S [] o
 |some (j,w)=>match BW all j with
  |some dj=>Qo yn C S (chain C S 8 dj w) o
  |none=>false
abbrev WB(G:Sg)(B:Type):=WT G (List B)
def EJ(ys:Sh)(de:HL G (aD ys)->B)(rS:WB G B)(N:Nat)(cp:List Nat)(C:CC G)(all:Array Oper)(r:List Oper)(d:Option Tmp)(v:AV G)(S:AS G)(K:Ex G->AS G->Option (List B)):Option (List B):=match jx ys v ⟨[],[],S.nx⟩with
 |some (x,_)=>match qD N C d (.kb true) S,qD N C d (.kb false) S with
  |some S1,some S2=>Y8 (de x) (rS N cp C (.ops all r) S1 K) (rS N cp C (.ops all r) S2 K)
  |_,_ =>none
 |none=>none
def Kx(tb:tD P G)(yn:Nat)(ys:Sh)(de:HL G (aD ys)->B)(Wn rS:WB G B):WB G B:=λN cp C cf S K=>match cf with
 | .ops _ []=>K .gM S
 | .ops all (o::r)=>match ZU yn C S all o with
  |false=>Wn N cp C (.ops all [o]) S λe S1=>match e with
   | .gM=>rS N cp C (.ops all r) S1 K
   |_ =>none
  |true=>match o.guard with
   |none=>bif Qo yn C S [] o then(match Za C S o with
    |some v=>EJ ys de rS N cp C all r o.dst v S K
    |none=>none)else none
   |some (j,w)=>match BW all j with
    |some dj=>(match Nz C S 8 dj w with
     |some true=>bif Qo yn C S [] o then(match Za C S o with
      |some v=>EJ ys de rS N cp C all r o.dst v S K
      |none=>none)else none
     |some false=>Wn N cp C (.ops all [o]) S λe S1=>match e with
      | .gM=>rS N cp C (.ops all r) S1 K
      |_ =>none
     |none=>(match Dq C S 8 dj with
      |some (k,b)=>bif w then cn b (rS N cp C (.ops all (o::r)) {S with F:=(k, .kb true)::S.F} K) (rS N cp C (.ops all (o::r)) {S with F:=(k, .kb false)::S.F} K)else cn (b==false) (rS N cp C (.ops all (o::r)) {S with F:=(k, .kb false)::S.F} K) (rS N cp C (.ops all (o::r)) {S with F:=(k, .kb true)::S.F} K)
      |none=>none))
    |none=>none
 | .code c=>match c with
  | .skip=>K .gM S
  | .label _ =>K .gM S
  | .ret=>K .ret S
  | .exit i=>K (.exit i) S
  | .region _ ops false=>rS N cp C (.ops ops ops.toList) S K
  | .region i ops true=>Wn N cp C (.code (.region i ops true)) S λe S1=>match e with
   | .gM=>K .gM S1
   |_ =>none
  | .block i x=>rS N cp C (.code x) S λe S'=>match e with
   | .exit j=>bif Nat.beq i j then K .gM S' else K (.exit j) S'
   |e=>K e S'
  | .cond x a b=>match dV C S [] x with
   |some (.bool t)=>cn t (rS N cp C (.code a) S K) (rS N cp C (.code b) S K)
   |some (.kb t)=>rS N cp C (.code (bif t then a else b)) S K
   |_ =>none
  | .seq x y=>rS N cp C (.code x) S λe S'=>match e with
   | .gM=>rS N cp C (.code y) S' K
   |e=>K e S'
  | .loop x=>(match(match I5 x with
    |some i=>tb.hint cp (i+i+1)
    |none=>none)with
   |some (.loop gl)=>(match Rj C S gl with
    |none=>none
    |some g=>match iE C S g.l with
    |S=>match y9 C S g.l with
    |some v=>match jx (oA g.l) v ⟨[],S.O,S.nx⟩with
     |some (x0,g')=>bif rV g.nm g'.th&&rW S.nx g.nm then
       (match(⟨fK (λd=> !(bZ (C2 x) d||uI g.l d)) S.F,g'.O,S.D⟩:Ly G)with
       |ly=>bif tJ S.nx (ly::C)then Qj (tb.vw (match I5 x with
        |some i=>i
        |none=>0) (aD (oA g.l))) (λgo e=>rS N cp (ly::C) (.code x) (CK g S.nx e) λe1 S1=>match e1 with
         | .gM=>match BK (ly::C) (iE (ly::C) S1 g.l) g S.nx with
          |some e=>go e
          |none=>none
         |e1=>K e1 (EH ly S1)) tb.fu x0
        else none)
      else none
     |none=>none
    |none=>none)
   |_ =>none)
  |_ =>none
 | .lp _ =>none
noncomputable def WY(tb:tD P G)(yn:Nat)(ys:Sh)(de:HL G (aD ys)->B):Nat->WB G B
 |0=>λ_ _ _ _ _ _ =>none
 |n+1=>Kx tb yn ys de (W tb n) (WY tb yn ys de n)
theorem Jg{F:Fence}{n:Nat}{all:Array Oper}{o:Oper}{r:List Oper}{a:Act}{w:World}{Q Q1:Exit->Act->World->Prop}(h:wpListIn F n P all Q1 [o] a w)(hk:∀a' w',Q1 .normal a' w'->wpListIn F n P all Q r a' w')(hq:∀e a w,e≠ .normal->Q1 e a w->Q e a w):
  wpListIn F n P all Q (o::r) a w:=by
 refine wpListIn_step λK hK=>?_;unfold wpListIn at h;split
 ·rename_i hw
  rw[aa5 hw]at h;exact Bb hq (Oper.wpIn_mono (λa' w' q=>hK _ _ (hk a' w' q)) h)
 ·rename_i hw
  rw[aa6 hw]at h;exact⟨h.1,hK _ _ (hk _ _ h.2)⟩
inductive A8(G:Sg):Sh->Type where
 |nil:A8 G .nil
 |int {k:IntKind} {s:Sh} (h:A8 G s):A8 G (.cons (.v (.int k)) s)
 |bool {s:Sh} (h:A8 G s):A8 G (.cons (.v .bool) s)
 |st {i:Nat} {s:Sh} (enc:G.S i->List Value) (ok:∀J cs x,(G.L i).dJ J cs x↔cs=enc x) (h:A8 G s):A8 G (.cons (.v (.st i)) s)
def A8.us:{s:Sh}->A8 G s->HL G (aD s)->List Value
 |_, .nil,_ =>[]
 |_, .int (k:=k) h,x=> .int k x.1::h.us x.2
 |_, .bool h,x=> .bool x.1::h.us x.2
 |_, .st enc _ h,x=> .agg (enc x.1).toArray::h.us x.2
def A8.n:{s:Sh}->A8 G s->Nat
 |_, .nil=>0
 |_, .int h=>h.n+1
 |_, .bool h=>h.n+1
 |_, .st _ _ h=>h.n+1
theorem A8.len:∀{s:Sh} (q:A8 G s) (x:HL G (aD s)),(q.us x).length=q.n
 |_, .nil,_ =>rfl
 |_, .int h,x=>by simp[A8.us,A8.n,h.len x.2]
 |_, .bool h,x=>by simp[A8.us,A8.n,h.len x.2]
 |_, .st _ _ h,x=>by simp[A8.us,A8.n,h.len x.2]
theorem A8.ok{J:World->Prop}{σ:aP}{f:Nat->Nat}:∀{s:Sh} (q:A8 G s) (x:HL G (aD s)) (m:Nat) (us:List Value),rl J σ (cZ f s x m).1 us↔us=q.us x
 |_, .nil,_,_,us=>Iff.rfl
 |_, .int (k:=k) h,x,m,us=>by
  show(∃u r,us=u::r/\[u]=[.int k x.1]/\rl J σ (cZ f _ x.2 m).1 r)↔_;constructor
  ·rintro⟨u,r,rfl,h1,h2⟩
   cases h1;rw[(h.ok x.2 m r).1 h2];rfl
  ·intro e
   exact⟨_,_,e,rfl,(h.ok x.2 m _).2 rfl⟩
 |_, .bool h,x,m,us=>by
  show(∃u r,us=u::r/\[u]=[.bool x.1]/\rl J σ (cZ f _ x.2 m).1 r)↔_;constructor
  ·rintro⟨u,r,rfl,h1,h2⟩
   cases h1;rw[(h.ok x.2 m r).1 h2];rfl
  ·intro e
   exact⟨_,_,e,rfl,(h.ok x.2 m _).2 rfl⟩
 |_, .st (i:=i) enc ok h,x,m,us=>by
  show(∃u r,us=u::r/\(∃u',[u]=[u']/\rR J (.st i) x.1 u')/\rl J σ (cZ f _ x.2 m).1 r)↔_;constructor
  ·rintro⟨u,r,rfl,⟨u',e,h1,h3,_⟩,h2⟩
   cases e;obtain⟨cs,rfl⟩:=h3 rfl;have:(Value.agg cs.toArray).cells.toList=cs:=by simp[Value.cells]
   rw[this]at h1;rw[(h.ok x.2 m r).1 h2,(ok J cs x.1).1 h1];rfl
  ·intro e
   refine⟨_,_,e,⟨_,rfl,?_,λ_ =>⟨_,rfl⟩,nofun⟩,(h.ok x.2 m _).2 rfl⟩;have:(Value.agg (enc x.1).toArray).cells.toList=enc x.1:=by simp[Value.cells]
   rw[this];exact(ok J _ x.1).2 rfl
structure YC(P:Program)(G:Sg)(ys:Sh)(B:Type) where
 de:HL G (aD ys)->B
 en:B->HL G (aD ys)
 uq:A8 G ys
 l:List B
 pY:Nat->List Value
 yn:Nat
 ly:Nat
 Jy:Nat->List Nat->World->Prop
 Jx:List Nat->World->Prop
 QE:List Nat
 w1:World
 X0:List av
 hR:Rnd P ly QE w1 Jy Jx pY l.length
 he:∀x,en (de x)=x
 enc:∀i x,l[i]? =some x->pY i=uq.us (en x)
def YC.md{ys:Sh}(q:YC P G ys B)(m:Bool×Nat)(bs:List Nat):av:= .ext bs (bif m.1 then q.Jy m.2 bs else q.Jx bs)
def YC.Oy{ys:Sh}(q:YC P G ys B)(m:Bool×Nat)(r:List B):Prop:=(m.1=true/\q.l.drop m.2=r/\m.2<=q.l.length)\/(m.1=false/\r=[])
structure YC.at {ys:Sh}(q:YC P G ys B)(c:Cx)(ρ:aP)(X:List av)(n:Nat):Prop where
 lt:q.yn<n
 ro:c.ro=none
 own:∀b,(b∈c.bs\/c.w0.heap.size<=b)->b∉aU q.X0->(b∈q.QE\/q.w1.heap.size<=b)
 si:∀w',aJ c.bs c.w0 w'->Hs q.X0 w'->aJ q.QE q.w1 w'
 sub:∀r∈q.X0,r∈X
 yv:ρ q.yn=some (.func (.yield q.ly) #[] #[])
theorem YC.at.eH{ys:Sh}{q:YC P G ys B}{c:Cx}{ρ ρ':aP}{X:List av}{n n':Nat}(h:q.at c ρ X n)(m:ρ.to ρ' n)(Y:List av)(hn:n<=n'):q.at c ρ' (Y++X) n':=⟨Nat.lt_of_lt_of_le h.lt hn,h.ro,h.own,h.si,λr hr=>abd _ (h.sub r hr),(m _ h.lt).trans h.yv⟩
def Cb{ys:Sh}(q:YC P G ys B)(c:Cx)(N:Nat)(C:CC G)(ρ:aP)(J:World->Prop)(HK X:List av)(n:Nat)(K:Ex G->AS G->Option (List B))(Q:Exit->Act->World->Prop):Prop:=∀(e:Ex G) (S':AS G) (r':List B),K e S'=some r'->∀(ρ':aP) (J':World->Prop) (Y:List av) (a':Act) (w':World) (me:Exit) (m':Bool×Nat) (bs':List Nat),q.Oy m' r'->ρ.to ρ' n->(∀w,J' w->J w)->Pc J' ρ' e me->n<=S'.nx-> Rl c N ρ' J' (q.md m' bs'::HK) (Y++X) C S' a' w'->Q me a' w'
theorem Cb.eH{ys:Sh}{q:YC P G ys B}{c:Cx}{ρ ρ1:aP}{J J1:World->Prop}{HK X Y:List av}{n m:Nat}{K:Ex G->AS G->Option (List B)}{Q:Exit->Act->World->Prop}(h:Cb q c N C ρ J HK X n K Q)(h1:ρ.to ρ1 n)(h2:∀w,J1 w->J w)(hn:n<=m):Cb q c N C ρ1 J1 HK (Y++X) m K Q:=
 λe S' r' hK ρ' J' Y' a' w' me m' bs' k0 k1 k2 k3 k5 k4=>h e S' r' hK ρ' J' (Y'++Y) a' w' me m' bs' k0 (h1.trans k1 hn) (λw q=>h2 w (k2 w q)) k3 (Nat.le_trans hn k5) (by rw[List.append_assoc];exact k4)
def vg(P:Program){ys:Sh}(q:YC P G ys B)(rec:WB G B):Prop:=∀(N:Nat) (cp:List Nat) (C:CC G) (cf:Cf) (S:AS G) (K:Ex G->AS G->Option (List B)) (r:List B),rec N cp C cf S K=some r-> ∀(c:Cx) (ρ:aP) (J:World->Prop) (HK X:List av) (a:Act) (w:World) (Q:Exit->Act->World->Prop) (m:Bool×Nat) (bs:List Nat),q.at c ρ X S.nx->q.Oy m r->Rl c N ρ J (q.md m bs::HK) X C S a w->Cb q c N C ρ J HK X S.nx K Q->Rn P c cf Q a w
theorem Cb.here{ys:Sh}{q:YC P G ys B}{c:Cx}{ρ:aP}{J:World->Prop}{HK X:List av}{S:AS G}{e:Ex G}{K:Ex G->AS G->Option (List B)}{Q:Exit->Act->World->Prop}{a:Act}{w:World}{me:Exit}{r:List B}{m:Bool×Nat}{bs:List Nat}(h:Cb q c N C ρ J HK X S.nx K Q)(hK:K e S=some r)(hm:q.Oy m r)
  (hr:Rl c N ρ J (q.md m bs::HK) X C S a w)(he:Pc J ρ e me):Q me a w:=
 h e S r hK ρ J [] a w me m bs hm (aP.b5 _ _) (λ_ h=>h) he (Nat.le_refl _) hr
theorem Rl.hk{c:Cx}{ρ:aP}{J:World->Prop}{HK HK' X:List av}{S:AS G}{a:Act}{w:World}(h:Rl c N ρ J HK X C S a w)(p:HK.Perm HK'):Rl c N ρ J HK' X C S a w:=by obtain⟨HS,q1,q3⟩:=h.hp;refine⟨h.tm,h.df,h.si,h.fs,h.fc,λr o e=>?_,⟨HS,q1,q3.iu (List.Perm.append_left _ (p.append_right _))⟩,h.kn,h.fr⟩;obtain⟨y,y1,y2⟩:=h.kc r o e;exact⟨y,p.mem_iff.1 y1,y2⟩
section
variable {ys:Sh} {q:YC P G ys B} {tb:tD P G} {rec:WB G B} {c:Cx} {ρ:aP} {J:World->Prop} {HK X:List av} {S:AS G} {a:Act} {w:World} {Q:Exit->Act->World->Prop} {m:Bool×Nat} {bs:List Nat} {K:Ex G->AS G->Option (List B)} {r:List B}
theorem J6{Wn:WB G B}(hW:mE P Wn){cp:List Nat}{cf:Cf}{K1:AS G->Option (List B)}(h:Wn N cp C cf S (λe S1=>match e with
   | .gM=>K1 S1
   |_ =>none)=some r):∃S1,K1 S1=some r/\S.nx<=S1.nx/\US P N C cf S S1 .gM:=by
 obtain⟨e,S1,k1,k2,k3⟩:=hW _ _ _ _ _ _ _ h;cases e with
 |gM=>exact⟨S1,k1,k2,k3⟩
 |_ =>cases k1
theorem Y9(bq:vg P q rec){cp:List Nat}{all:Array Oper}{o:Oper}{rs:List Oper}{S1:AS G}(h:rec N cp C (.ops all rs) S1 K=some r)(hn:S.nx<=S1.nx)(hu:US P N C (.ops all [o]) S S1 .gM)(ha:q.at c ρ X S.nx)(hm:q.Oy m r)(hr:Rl c N ρ J (q.md m bs::HK) X C S a w)(hq:Cb q c N C ρ J HK X S.nx K Q):
  Rn P c (.ops all (o::rs)) Q a w:=by
 refine Jg (hu c ρ J (q.md m bs::HK) X a w (λe a w=>e= .normal/\wpListIn (FA c.ro) 0 P all Q rs a w) hr λρ' J' Y a' w' me k1 k2 k3 k4=>⟨gE k3,?_⟩) (λa w h=>h.2) (λe a w he h=>absurd h.1 he);exact bq _ _ _ _ _ _ _ h c ρ' J' HK (Y++X) a' w' Q m bs (ha.eH k1 Y hn) hm k4 (hq.eH k1 k2 hn)
theorem Vo{J:World->Prop}{ρ:aP}{s:Sh}{v:AV G}{g':GS G}{n:Nat}{x:HL G (aD s)}{l:List Value}(h:jx s v ⟨[],[],n⟩=some (x,g'))(hf:ρ.fr n)(hv:rl J ρ v l):∃τ,rl J τ (cZ (λm=>m) s x 0).1 l:=by obtain⟨ρ2,HB,H',k⟩:=BL h hv .nil hf;exact⟨_,k.val⟩
theorem NH(bq:vg P q rec){cp:List Nat}{all:Array Oper}{rs:List Oper}{f:Operand}{args:Array Operand}{ats:Array TypeId}{d:Option Tmp}{ty:TypeId}{ps:String}{af:Array Edge}{g:Option (Nat×Bool)}{v:AV G}
  (hw:F1 N all C S ⟨d, .call ⟨.value f,args,ats⟩,ty,ps,af,g⟩)(hf:dV C S [] f=some (.mp q.yn))(hv:G1 (dV C S []) args.toList=some v)(h:EJ ys q.de rec N cp C all rs d v S K=some r)
  (ha:q.at c ρ X S.nx)(hm:q.Oy m r)(hr:Rl c N ρ J (q.md m bs::HK) X C S a w)(hq:Cb q c N C ρ J HK X S.nx K Q):Rn P c (.ops all (⟨d, .call ⟨.value f,args,ats⟩,ty,ps,af,g⟩::rs)) Q a w:=by
 unfold EJ at h;split at h
 ·rename_i x g' hg
  split at h
  ·rename_i S1 S2 h1 h2
   obtain⟨hf0,r',ht,rfl⟩:=UY h;have hE:=bU hr (ch:=[]) (by simp);obtain⟨u,u1,u2,_⟩:=hE.ok _ _ hf;have e1:a.eval f= .func (.yield q.ly) #[] #[]:=by rw[ha.yv]at u1;cases u1;exact(List.cons.inj u2).1
   obtain⟨r2,_⟩:=se hE hv;obtain⟨τ,hτ⟩:=Vo hg hr.fr r2;rcases hm with⟨m1,m2,m3⟩|⟨_,m2⟩
   ·obtain⟨mb,k⟩:=m
    dsimp only at m1 m2 m3;subst m1;have hk:q.l[k]? =some (q.de x):=by
     have:(q.l.drop k)[0]? =some (q.de x):=by rw[m2];rfl
     simpa using this
    have hlt:k<q.l.length:=(List.getElem?_eq_some_iff.1 hk).1;have aao:args.toList.map a.eval=q.pY k:=by rw[q.enc k _ hk,q.he, ← (q.uq.ok x 0 _).1 hτ]
    obtain⟨HS,q1,q3⟩:=hr.hp;have pm:∀x:av,(HS++((x::HK)++X)).Perm (x::(HS++(HK++X))):=λx=>List.perm_middle;have q4:=q3.iu (pm _);have hXh:Hs q.X0 w:=Ab q3 λr hr'=>abd _ (abd _ (ha.sub r hr'));have jK:∀b∈bs,(b∈q.QE\/q.w1.heap.size<=b)/\b<w.heap.size:=λb hb=>by obtain⟨o1,o2⟩:=q4.own _ List.mem_cons_self b hb;refine⟨ha.own b o1 λhx=>?_,o2⟩;obtain⟨s,s1,s2⟩:=aN.1 hx;exact(List.pairwise_cons.1 q4.apart).1 s (by simp[ha.sub s s1]) b hb s2
    obtain⟨fn,tmps,assign,body,hy,hF,hrun⟩:=q.hR k hlt w bs (ha.si w hr.si.s hXh) jK (q4.holds _ List.mem_cons_self);refine wpListIn_step λK1 hK=>?_;rw[aa5 (hw c ρ J _ X a w hr)];refine⟨λ_ _ =>trivial,?_⟩;have hs:Oper.semAt (FA c.ro).round a.eval (⟨d, .call ⟨.value f,args,ats⟩,ty,ps,af,g⟩:Oper)=execOp a.eval ⟨d, .call ⟨.value f,args,ats⟩,ty,ps,af,g⟩:=Oper.semAt_eq _ _ _ (by simp);have hrn:(execOp a.eval ⟨d, .call ⟨.value f,args,ats⟩,ty,ps,af,g⟩).run P w= .ok (.round q.ly fn tmps assign body) w:=by
     have e4: #[]++(args.map a.eval)=(q.pY k).toArray:=by rw[← aao];exact Array.ext' (by simp)
     simp only[execOp,resolve,e1,Deferred.ofValue,Sem.run_bind,Sem.run_pure,Result.andThen_ok,invoke,e4];exact hy
    rw[hs,hrn];refine⟨λh=>by simp at h,⟨trivial,λcf cs hroom=>?_⟩⟩;have hfa:FA c.ro=FA none:=by rw[ha.ro]
    rw[hfa];obtain⟨e,W',hpost,Sr⟩:=hrun cf cs (by rw[← hfa];exact hroom);refine⟨e,W',?_,Sr⟩;obtain⟨bs',hb',hsi,Ac⟩:=hpost;have fin:∀(b:Bool) (S3:AS G) (r2:List B),qD N C d (.kb b) S=some S3->rec N cp C (.ops all rs) S3 K=some r2->q.Oy (b,k+1) r2->(av.ext bs' (bif b then q.Jy (k+1) bs' else q.Jx bs')).holds W'->K1 (a.put d (.bool b)) W':=λb S3 r2 hp hw2 hmk hh=>by
     have q5:=q4.set (k:=0) (r':= .ext bs' (bif b then q.Jy (k+1) bs' else q.Jx bs')) rfl hsi.size (λj hj hn=>hsi.block j hj hn) hh hr.si.s.size (λb hb=>hb' b hb);have hr':Rl c N ρ J (q.md (b,k+1) bs'::HK) X C S a W':=by
      refine⟨hr.tm,hr.df,⟨hr.si.s.trans hsi λb hb=>(q4.own _ List.mem_cons_self b hb).1,hr.si.n⟩,hr.fs,hr.fc,λr o e=>?_,⟨HS,q1,q5.iu (pm _).symm⟩,hr.kn,hr.fr⟩;obtain⟨y,y1,y2⟩:=hr.kc r o e;rcases List.mem_cons.1 y1 with rfl|y1
      ·cases o with
       |bK T c=>obtain⟨_,_,_,e,_⟩:=y2;cases e
       |row _ _ _ _ =>obtain⟨_,_,_,e,_⟩:=y2;cases e
       |aux b=>obtain⟨_,_,_,e,_⟩:=y2;cases e
       |gm=>obtain⟨_,e⟩:=y2;cases e
       |fm _ _ _ =>obtain⟨_,_,_,_,_,e,_⟩:=y2;cases e
      ·exact⟨y,abj _ y1,y2⟩
     refine hK _ _ ?_;refine bq _ _ _ _ _ _ _ hw2 c ρ J HK X _ W' Q (b,k+1) bs' (by rw[jJ hp];exact ha) hmk (hr'.put hp rfl) ?_;rw[jJ hp];exact hq
    rcases Ac with⟨rfl,hh⟩|⟨rfl,hh⟩
    ·refine fin true S1 r' h1 ht (.inl ⟨rfl,?_,hlt⟩) hh
     show q.l.drop (k+1)=r';rw[← List.drop_drop,m2];rfl
    ·exact fin false S2 [] h2 hf0 (.inr ⟨rfl,rfl⟩) hh
   ·cases m2
  ·cases h
 ·cases h
theorem Wh{yn:Nat}{o:Oper}(h:Qo yn C S [] o=true):∃d f args ats ty ps af g,o=⟨d, .call ⟨.value f,args,ats⟩,ty,ps,af,g⟩/\dV C S [] f=some (.mp yn):=by
 obtain⟨d,op,ty,ps,af,g⟩:=o;unfold Qo at h;dsimp only at h;split at h
 ·split at h
  ·rename_i hf
   obtain rfl:=aa7 h;exact⟨d,_,_,_,ty,ps,af,g,rfl,hf⟩
  ·cases h
 ·cases h
theorem J7(bq:vg P q rec){cp:List Nat}{all:Array Oper}{rs:List Oper}{o:Oper}(hw:F1 N all C S o)(h:(bif Qo q.yn C S [] o then(match Za C S o with
   |some v=>EJ ys q.de rec N cp C all rs o.dst v S K
   |none=>none)else none)=some r)(ha:q.at c ρ X S.nx)(hm:q.Oy m r)(hr:Rl c N ρ J (q.md m bs::HK) X C S a w)(hq:Cb q c N C ρ J HK X S.nx K Q):Rn P c (.ops all (o::rs)) Q a w:=by
 cases hY:Qo q.yn C S [] o with
 |false=>rw[hY]at h;cases h
 |true=>
 rw[hY]at h;simp only[cond_true]at h;obtain⟨d,f,args,ats,ty,ps,af,g,rfl,hf⟩:=Wh hY;split at h
 ·rename_i v hv
  exact NH bq hw hf hv h ha hm hr hq
 ·cases h
theorem QS(bq:vg P q rec){cp:List Nat}{x:Code}{g:FU}{base:Nat}{ly:Ly G}(hl:tJ base (ly::C)=true){vw:Option (Vw G (aD (oA g.l)))}:∀(n:Nat) (e:HL G (aD (oA g.l))) (r:List B),Qj vw (λgo e=>rec N cp (ly::C) (.code x) (CK g base e) λe1 S1=>match e1 with
   | .gM=>match BK (ly::C) (iE (ly::C) S1 g.l) g base with
    |some e=>go e
    |none=>none
   |e1=>K e1 (EH ly S1)) n e=some r->
  ∀(ρ:aP) (J:World->Prop) (HK X:List av) (a:Act) (w:World) (m:Bool×Nat) (bs:List Nat),q.at c ρ X base->q.Oy m r->Rl c N ρ J (q.md m bs::HK) X (ly::C) (CK g base e) a w->
   Cb q c N (ly::C) ρ J HK X base (λe1 S1=>match e1 with
    | .gM=>none
    |e1=>K e1 (EH ly S1)) Q->UB P c x Q a w:=by
 intro n
 induction n with
 |zero=>intro e r h;obtain⟨m,h1,_⟩:=HX h;cases h1
 |succ n ih=>
  intro e r h ρ J HK X a w m bs ha hm hr hq;obtain⟨m',h1,h2⟩:=HX h;cases h1;refine yj (bq _ _ _ _ _ _ _ h2 c ρ J HK X a w _ m bs ⟨Nat.lt_of_lt_of_le ha.lt (Nat.le_add_right _ _),ha.ro,ha.own,ha.si,ha.sub,ha.yv⟩ hm hr ?_);intro e1 S1 r' hK ρ' J' Y a' w' me m1 Du k0 k1 k2 k3 k5 k4;have FV:ρ.to ρ' base:=λr hr'=>k1 r (by show r<base+_;omega);cases e1 with
  |gM=>
   rw[gE k3];dsimp only at hK;split at hK
   ·rename_i e' hg
    obtain⟨J2,Y2,j1,z4⟩:=k4.iE g.l;obtain⟨ρ2,t2,z5⟩:=Oz z4 hg hl;rw[← List.append_assoc]at z5;have hto:ρ.to ρ2 base:=λr hr'=>(t2 r hr').trans (FV r hr');exact ih e' r' hK ρ2 J2 HK ((Y2++Y)++X) a' w' m1 Du (ha.eH hto _ (Nat.le_refl _)) k0 z5 (hq.eH hto (λw h=>k2 w (j1 w h)) (Nat.le_refl _))
   ·cases hK
  |exit i=>refine iU (jA (by simp) k3) ?_;exact hq (.exit i) S1 r' hK ρ' J' Y a' w' me m1 Du k0 FV k2 k3 (Nat.le_trans (Nat.le_add_right _ _) k5) k4
  |ret=>refine iU (jA (by simp) k3) ?_;exact hq (.ret) S1 r' hK ρ' J' Y a' w' me m1 Du k0 FV k2 k3 (Nat.le_trans (Nat.le_add_right _ _) k5) k4
  |rE v=>refine iU (jA (by simp) k3) ?_;exact hq (.rE v) S1 r' hK ρ' J' Y a' w' me m1 Du k0 FV k2 k3 (Nat.le_trans (Nat.le_add_right _ _) k5) k4
theorem P1{Wn:WB G B}(hW:mE P Wn)(bq:vg P q rec){cp:List Nat}{all:Array Oper}{o:Oper}{rs:List Oper}(h:Wn N cp C (.ops all [o]) S (λe S1=>match e with
   | .gM=>rec N cp C (.ops all rs) S1 K
   |_ =>none)=some r)(ha:q.at c ρ X S.nx)(hm:q.Oy m r)(hr:Rl c N ρ J (q.md m bs::HK) X C S a w)(hq:Cb q c N C ρ J HK X S.nx K Q):Rn P c (.ops all (o::rs)) Q a w:=by
 obtain⟨S1,k1,k2,k3⟩:=J6 hW (K1:=λS1=>rec N cp C (.ops all rs) S1 K) h;exact Y9 bq k1 k2 k3 ha hm hr hq
theorem Kw{Wn:WB G B}(hW:mE P Wn)(bq:vg P q rec):vg P q (Kx tb q.yn ys q.de Wn rec):=by
 intro N cp C cf S K r h c ρ J HK X a w Q m bs ha hm hr hq;unfold Kx at h;dsimp only at h;split at h
 ·exact hq.here h hm hr trivial
 ·rename_i all o rs
  split at h
  ·exact P1 hW bq h ha hm hr hq
  ·rename_i hY
   split at h
   ·rename_i hg;exact J7 bq (.none hg) h ha hm hr hq
   ·rename_i j wb hg
    split at h
    ·rename_i dj hd
     split at h
     ·rename_i hk;exact J7 bq (.Ql hg hd hk) h ha hm hr hq
     ·exact P1 hW bq h ha hm hr hq
     ·split at h
      ·rename_i k b hk
       have hb:=Fh hr 8 dj k b hk;have know:Rl c N ρ J (q.md m bs::HK) X C {S with F:=(k, .kb b)::S.F} a w:=by
        refine⟨hr.tm,hr.df,hr.si,λd v e=>?_,hr.fc,hr.kc,hr.hp,hr.kn,hr.fr⟩;simp only[cu]at e;cases hd:Nat.beq k d with
        |true=>rw[hd]at e;cases e;obtain rfl:=aa7 hd;exact⟨_,hb,rfl⟩
        |false=>rw[hd]at e;exact hr.fs d v e
       cases wb with
       |true=>cases b with
        |true=>exact bq N cp C (.ops all (o::rs)) {S with F:=(k, .kb true)::S.F} K r h c ρ J HK X a w Q m bs ha hm know hq
        |false=>exact bq N cp C (.ops all (o::rs)) {S with F:=(k, .kb false)::S.F} K r h c ρ J HK X a w Q m bs ha hm know hq
       |false=>cases b with
        |true=>exact bq N cp C (.ops all (o::rs)) {S with F:=(k, .kb true)::S.F} K r h c ρ J HK X a w Q m bs ha hm know hq
        |false=>exact bq N cp C (.ops all (o::rs)) {S with F:=(k, .kb false)::S.F} K r h c ρ J HK X a w Q m bs ha hm know hq
      ·cases h
    ·cases h
 ·split at h
  ·exact wpIn_skip (hq.here h hm hr trivial)
  ·exact wpIn_label (hq.here h hm hr trivial)
  ·exact wpIn_ret (hq.here h hm hr trivial)
  ·exact wpIn_exit (hq.here h hm hr rfl)
  ·exact wpIn_region_list (bq _ _ _ _ _ _ _ h c ρ J HK X a w Q m bs ha hm hr hq)
  ·obtain⟨S1,k1,k2,k3⟩:=J6 hW h
   refine k3 c ρ J (q.md m bs::HK) X a w Q hr λρ' J' Y a' w' me t1 t2 t3 t4=>?_;rw[gE t3];exact hq _ S1 _ k1 ρ' J' Y a' w' .normal m bs hm t1 t2 trivial k2 t4
  ·rename_i i x
   refine wpIn_block (bq _ _ _ _ _ _ _ h c ρ J HK X a w _ m bs ha hm hr ?_);intro e1 S1 r' hK ρ' J' Y a' w' me m1 Du k0 k1 k2 k3 k5 k4;cases e1 with
   |exit j=>
    dsimp only at hK;rw[BT k3];cases hb:Nat.beq i j with
    |true=>rw[hb]at hK;obtain rfl:=aa7 hb;simpa[Exit.inBlock]using hq _ S1 _ hK ρ' J' Y a' w' .normal m1 Du k0 k1 k2 trivial k5 k4
    |false=>
     rw[hb]at hK;have hne:i≠j:=λq=>by rw[q,Nat.beq_refl]at hb;cases hb
     have:=hq _ S1 _ hK ρ' J' Y a' w' (.exit j) m1 Du k0 k1 k2 rfl k5 k4;simpa[Exit.inBlock,hne,Ne.symm hne]using this
   |gM=>rw[gE k3];simpa[Exit.inBlock]using hq _ S1 _ hK ρ' J' Y a' w' .normal m1 Du k0 k1 k2 trivial k5 k4
   |ret=>rw[A4 k3];simpa[Exit.inBlock]using hq _ S1 _ hK ρ' J' Y a' w' .ret m1 Du k0 k1 k2 trivial k5 k4
   |rE v=>obtain⟨u,rfl,hu⟩:=Iq k3;simpa[Exit.inBlock]using hq _ S1 _ hK ρ' J' Y a' w' (.panic [{v:=u,recovered:=false}]) m1 Du k0 k1 k2 ⟨u,rfl,hu⟩ k5 k4
  ·split at h
   ·rename_i t hx
    have ex:=vA ((bU hr (ch:=[]) (by simp)).ok _ _ hx);cases t with
    |true=>exact wpIn_cond_true ex (bq _ _ _ _ _ _ _ (G6 rfl h) c ρ J HK X a w Q m bs ha hm hr hq)
    |false=>exact wpIn_cond_false ex (bq _ _ _ _ _ _ _ (G7 rfl h) c ρ J HK X a w Q m bs ha hm hr hq)
   ·rename_i t hx
    have ex:=C9 ((bU hr (ch:=[]) (by simp)).ok _ _ hx);cases t with
    |true=>exact wpIn_cond_true ex (bq _ _ _ _ _ _ _ h c ρ J HK X a w Q m bs ha hm hr hq)
    |false=>exact wpIn_cond_false ex (bq _ _ _ _ _ _ _ h c ρ J HK X a w Q m bs ha hm hr hq)
   ·cases h
  ·refine wpIn_seq (bq _ _ _ _ _ _ _ h c ρ J HK X a w _ m bs ha hm hr ?_)
   intro e1 S1 r' hK ρ' J' Y a' w' me m1 Du k0 k1 k2 k3 k5 k4;cases e1 with
   |gM=>rw[gE k3];exact bq _ _ _ _ _ _ _ hK c ρ' J' HK (Y++X) a' w' Q m1 Du (ha.eH k1 Y k5) k0 k4 (hq.eH k1 k2 k5)
   |exit i=>exact iU (jA (by simp) k3) (hq _ S1 _ hK ρ' J' Y a' w' me m1 Du k0 k1 k2 k3 k5 k4)
   |ret=>exact iU (jA (by simp) k3) (hq _ S1 _ hK ρ' J' Y a' w' me m1 Du k0 k1 k2 k3 k5 k4)
   |rE v=>exact iU (jA (by simp) k3) (hq _ S1 _ hK ρ' J' Y a' w' me m1 Du k0 k1 k2 k3 k5 k4)
  ·rename_i x
   split at h
   ·rename_i gl _
    split at h
    ·cases h
    ·rename_i g _
     obtain⟨J0,Y0,mJ0,hr⟩:=hr.iE g.l;have FW:=xW (C:=C) (S:=S) (l:=g.l);have ha:=ha.eH (aP.b5 ρ S.nx) Y0 (Nat.le_refl _);have hq:=hq.eH (Y:=Y0) (aP.b5 ρ S.nx) mJ0 (Nat.le_refl _);rw[← FW]at ha hq;revert h hr ha hq;generalize iE C S g.l=S;intro h hr ha hq;split at h
     ·rename_i v hv
      split at h
      ·rename_i x0 g' Dn
       cases hb:(rV g.nm g'.th&&rW S.nx g.nm)with
       |false=>rw[hb]at h;cases h
       |true=>
        rw[hb]at h;simp only[aa8]at hb;simp only[cond_true]at h;cases hl:tJ S.nx ((⟨fK (λd=> !(bZ (C2 x) d||uI g.l d)) S.F,g'.O,S.D⟩:Ly G)::C)with
        |false=>rw[hl]at h;cases h
        |true=>
         rw[hl]at h;simp only[cond_true]at h;refine Bz ?_;have hl':=hl;simp only[tJ,aa8]at hl';have OV:tJ S.nx C=true:=hl'.2.2.2;obtain⟨ρ',ρ2,HB,H',hto,ht2,BJ,hleft,hC,hp,hF,WZ,hfr⟩:=HW hr hv Dn hb.1 hb.2 (Nat.le_refl _) OV;have hag:∀r,r<S.nx->ρ' r=ρ2 r:=λr hr'=>(hto r hr').trans (ht2 r hr').symm;have hleft:=hleft.da hag hl'.2.1;have hr':Rl c N ρ' J0 (q.md m bs::(H'++HK)) (Y0++X) (⟨fK (λd=> !(bZ (C2 x) d||uI g.l d)) S.F,g'.O,S.D⟩::C) (CK g S.nx x0) a w:=by
          refine Rl.hk (HK:=H'++(q.md m bs::HK)) ⟨hr.tm,?_,⟨hr.si.s,λq=>hr.si.n (yd q)⟩,hF,λy hy=>?_,λr o e=>?_,⟨HB,BJ,by simpa using hp⟩,hr.kn,hfr⟩ List.perm_middle
          ·exact hr.df.da hto (D4 hl'.2.2.1 (z9 OV).2)
          ·rcases List.mem_cons.1 hy with rfl|hy
           ·exact(hr.fs.NA).da hto hl'.1
           ·exact WZ y hy
          ·have e:cu (g'.O++rh C) r=some o:=e
           rw[gA]at e;split at e
           ·rename_i v' Fe
            cases e;obtain⟨x,h1,h2⟩:=hleft.lk Fe;exact⟨x,abe _ h1,h2⟩
           ·obtain⟨x,h1,h2⟩:=hC r o e
            exact⟨x,abd _ h1,h2⟩
         refine QS (C:=C) (K:=K) bq hl _ _ _ h ρ' J0 (H'++HK) (Y0++X) a w m bs (ha.eH (Y:=[]) hto (Nat.le_refl _)) hm hr' ?_;intro e1 S1 r' hK ρ3 J3 Y a' w' me m1 Du k0 k1 k2 k3 k5 k4;have FV:ρ.to ρ3 S.nx:=λr q=>(k1 r q).trans (hto r q);have Sb:Rl c N ρ3 J3 (q.md m1 Du::HK) (Y++(Y0++X)) C (EH ⟨fK (λd=> !(bZ (C2 x) d||uI g.l d)) S.F,g'.O,S.D⟩ S1) a' w':=by
          refine Rl.EH (H2:=H') (k4.hk List.perm_middle.symm) ((hleft.da k1 hl'.2.1).up k2 (aP.le_refl _)) ?_ hr.si.n;intro r o e;obtain⟨y,y1,y2⟩:=hr.Jh k2 (FV.le hr.fr) r o e;rcases List.mem_cons.1 y1 with rfl|y1
          ·cases o with
           |bK T c=>obtain⟨_,_,_,e,_⟩:=y2;cases e
           |row _ _ _ _ =>obtain⟨_,_,_,e,_⟩:=y2;cases e
           |aux b=>obtain⟨_,_,_,e,_⟩:=y2;cases e
           |gm=>obtain⟨_,e⟩:=y2;cases e
           |fm _ _ _ =>obtain⟨_,_,_,_,_,e,_⟩:=y2;cases e
          ·exact⟨y,abj _ y1,y2⟩
         cases e1 with
         |gM=>cases hK
         |exit i=>exact hq (.exit i) _ r' hK ρ3 J3 Y a' w' me m1 Du k0 FV k2 k3 k5 Sb
         |ret=>exact hq .ret _ r' hK ρ3 J3 Y a' w' me m1 Du k0 FV k2 k3 k5 Sb
         |rE v=>exact hq (.rE v) _ r' hK ρ3 J3 Y a' w' me m1 Du k0 FV k2 k3 k5 Sb
      ·cases h
     ·cases h
   ·cases h
  ·cases h
 ·cases h
theorem XF:∀n:Nat,vg P q (WY tb q.yn ys q.de n):=by
 intro n
 induction n with
 |zero=>intro N cp C cf S K r h;cases h
 |succ n ih=>exact Kw (XE n) ih
end
def Xh(zf:List ResultVar):Ex G->AS G->Option (List B):=λe S=>match zf,(match e with
  | .gM=>true
  | .ret=>true
  |_ =>false)with
 |[],true=>match SP S with
  |some _ =>some []
  |none=>none
 |_,_ =>none
noncomputable def WYf(tb:tD P G)(n k:Nat)(qH ys:Sh)(de:HL G (aD ys)->B)(x:HL G (aD qH)):Option (List B):=match BN P k with
 |some fi=>match cZ (λm=>m) qH x 0 with
  |(aa4,O,m)=>bif mB aa4&&Nat.ble (zo aa4+1) fi.N then WY tb m ys de n fi.N [] [] (.code fi.code) ⟨uL 0 (.cons (.mp m) aa4),O,m+1,[]⟩ (Xh fi.zf)else none
 |none=>none
theorem Tj{tb:tD P G}{n k:Nat}{qH ys:Sh}{de:HL G (aD ys)->B}{en:B->HL G (aD ys)}(uq:A8 G ys)(he:∀x,en (de x)=x){f:HL G (aD qH)->Option (List B)}(hW:∀x,WYf tb n k qH ys de x=f x):XQ P k qH uq.n ys en f:=by
 intro ρ J HB X vs x l hf hv hO hk hfr;rw[← hW]at hf;refine⟨λi=>match l[i]? with
  |some y=>uq.us (en y)
  |none=>List.replicate uq.n undef,λσ i y hy=>?_,λi=>?_,λly Jy Jx bs w hp hR=>?_⟩
 ·dsimp only
  rw[hy];exact(uq.ok _ _ _).2 rfl
 ·dsimp only
  split
  ·exact uq.len _
  ·exact List.length_replicate
 unfold WYf at hf;split at hf
 ·rename_i fi GQ
  revert hf hv hO hfr;generalize cZ (λm=>m) qH x 0=b;obtain⟨aa4,O,m⟩:=b;intro hv hO hfr hf;dsimp only at hf hv hO hfr;cases hc:(mB aa4&&Nat.ble (zo aa4+1) fi.N)with
  |false=>rw[hc]at hf;cases hf
  |true=>
   rw[hc]at hf;simp only[aa8]at hc;simp only[cond_true]at hf;obtain⟨fn,f1,f2,f3,f4,f5⟩:=Me GQ;have hXw:Hs X w:=Ab hp λr hr'=>by simp[hr']
   have XC:∀b,b∈bs\/b∈aU HB->b∉aU X:=λb hb hx=>by
    have h1:=hp.apart;have e1:(av.ext bs (Jy 0 bs)::(HB++X))=(av.ext bs (Jy 0 bs)::HB)++X:=rfl;rw[e1]at h1;obtain⟨s,s1,s2⟩:=aN.1 hx;rcases hb with hb|hb
    ·exact(List.pairwise_append.1 h1).2.2 _ List.mem_cons_self s s1 b hb s2
    ·obtain⟨r,r1,r2⟩:=aN.1 hb
     exact(List.pairwise_append.1 h1).2.2 _ (abj _ r1) s s1 b r2 s2
   have Vi:∀w',aJ (bs++(aU HB++aU X)) w w'->Hs X w'->aJ (bs++aU HB) w w':=λw' hs hx=>⟨hs.os,hs.tape,hs.output,hs.size,λb h1 h2=>by
    rcases Classical.em (b∈aU X)with h3|h3
    ·exact hk.ex w w' hXw hx b h3
    ·refine hs.block b h1 λh4=>?_
     simp only[List.mem_append]at h4 h2;rcases h4 with h4|h4|h4
     ·exact h2 (.inl h4)
     ·exact h2 (.inr h4)
     ·exact h3 h4⟩
   let q:YC P G ys B:={de:=de,en:=en,uq:=uq,l:=l,pY:=λi=>match l[i]? with
    |some y=>uq.us (en y)
    |none=>List.replicate uq.n undef,yn:=m,ly:=ly,Jy:=Jy,Jx:=Jx,QE:=bs++aU HB,w1:=w,X0:=X,hR:=hR,he:=he,enc:=λi y hy=>by rw[hy]}
   have WX:ρ.fr m:=hfr;have hle:ρ.le (ρ.set m (.func (.yield ly) #[] #[])):=(aP.jT ρ m _).le WX;have hva:rl J (ρ.set m (.func (.yield ly) #[] #[])) (.cons (.mp m) aa4) (.func (.yield ly) #[] #[]::vs):=⟨_,_,rfl,⟨_,aP.fJ _ _ _,rfl,rfl,rfl⟩,hv.ext hle⟩;have hlen:=H8 (v:= .cons (.mp m) aa4) hc.1 hva;refine(callsIn_wide (n:=0)).1 (callsIn_of_wp_marks (F:=Fence.wide) f1 f2 trivial ?_);have hsz:((Value.func (.yield ly) #[] #[]::vs).toArray++Array.replicate (fn.ntmps-(Value.func (.yield ly) #[] #[]::vs).toArray.size) undef).size=fi.N:=by have h1:=Nat.le_of_ble_eq_true hc.2;have h2:(Value.func (.yield ly) #[] #[]::vs).length=zo aa4+1:=hlen;simp only[List.length_cons]at h2;simp;omega
   have hR0:Rl ⟨none,w,bs++(aU HB++aU X)⟩ fi.N (ρ.set m (.func (.yield ly) #[] #[])) J (q.md (true,0) bs::[]) X [] (⟨uL 0 (.cons (.mp m) aa4),O,m+1,[]⟩:AS G) ⟨(Value.func (.yield ly) #[] #[]::vs).toArray++Array.replicate (fn.ntmps-(Value.func (.yield ly) #[] #[]::vs).toArray.size) undef,[]⟩ w:=by refine⟨hsz, .nil,⟨aJ.refl _ _,λ_ =>rfl⟩,λd x e=>?_,λy hy=>(by cases hy),λr o e=>(by cases e),⟨HB,hO.up (λ_ h=>h) hle,hp.iu List.perm_middle.symm⟩,hk,aP.wU WX _⟩;obtain⟨u,_,k2,k3⟩:=Ik hva e;refine⟨u,?_,HD k3 _⟩;rw[Nat.sub_zero]at k2;have hlt:=(List.getElem?_eq_some_iff.1 k2).1;rw[Array.getElem?_append_left (by simpa using hlt)];simpa using k2
   refine XF (q:=q) n _ _ _ _ _ _ _ hf ⟨none,w,bs++(aU HB++aU X)⟩ _ J [] X _ w _ (true,0) bs ⟨Nat.lt_succ_self _,rfl,λb h1 h2=>?_,Vi,λr hr'=>hr',aP.fJ _ _ _⟩ (.inl ⟨rfl,rfl,Nat.zero_le _⟩) hR0 ?_
   ·rcases h1 with h1|h1
    ·left
     show b∈bs++aU HB;simp only[List.mem_append]at h1 ⊢;rcases h1 with h1|h1|h1
     ·exact .inl h1
     ·exact .inr h1
     ·exact absurd h1 h2
    ·exact .inr h1
   ·intro e S' r' hK ρ' J' Y a' w' me m' bs' k0 k1 k2 k3 k5 k4
    unfold Xh at hK;split at hK
    ·rename_i hres hx
     split at hK
     ·rename_i S2 hS
      cases hK;obtain⟨O2,hO2,rfl⟩:=SO hS;have JS:LeavesInM (FA none) 0 P fn a'.tmps (λen w'=>∃x:Bool×List Nat,en= .returned (.tuple #[])/\aJ (bs++aU HB) w w'/\aX (bs++aU HB) w.heap.size (.ext x.2 (bif x.1 then Jy l.length x.2 else Jx x.2)::[]) w') a'.defers .returning w':=by
       refine E7 rfl S'.D hO2 k4 λw2 h2=>?_;obtain⟨u,r1,r2⟩:=HH (fn:=fn) (tt:=tb.tt) (v:= .iy .nil) h2 f4 (by rw[hres];rfl);obtain⟨ws,e1,e2⟩:=r2;have e2:ws=[]:=e2;subst e2;cases e1;refine⟨_,r1,(m'.1,bs'),rfl,?_⟩;obtain⟨HS,s1,s3⟩:=h2.hp;have hX2:Hs X w2:=Ab s3 λr hr'=>by simp[hr']
       have GL:q.md m' bs'∈HS++((q.md m' bs'::[])++(Y++X)):=by simp
       have s4:aX _ _ (q.md m' bs'::(HS++(Y++X))) w2:=s3.iu (List.perm_middle (a:=q.md m' bs') (l₁:=HS) (l₂:=Y++X));have hmd:q.md m' bs'= .ext bs' (bif m'.1 then Jy l.length bs' else Jx bs'):=by
        rcases k0 with⟨j1,j2,j3⟩|⟨j1,_⟩
        ·have j2:l.drop m'.2=[]:=j2
         have j3:m'.2<=l.length:=j3;have:=List.drop_eq_nil_iff.1 j2;have e:m'.2=l.length:=by omega
         show av.ext bs' (bif m'.1 then Jy m'.2 bs' else Jx bs')=_;rw[e]
        ·show av.ext bs' (bif m'.1 then Jy m'.2 bs' else Jx bs')=_
         rw[j1];rfl
       refine⟨Vi w2 h2.si.s hX2,?_⟩;rw[← hmd];refine⟨λr hr'=>?_,λr hr' b hb=>?_,List.pairwise_singleton _ _⟩
       ·obtain rfl:=List.mem_singleton.1 hr';exact s3.holds _ GL
       ·obtain rfl:=List.mem_singleton.1 hr'
        obtain⟨o1,o2⟩:=s3.own _ GL b hb;refine⟨?_,o2⟩;rcases o1 with o1|o1
        ·left
         have o1:b∈bs++(aU HB++aU X):=o1;simp only[List.mem_append]at o1 ⊢;rcases o1 with o1|o1|o1
         ·exact .inl o1
         ·exact .inr o1
         ·exfalso
          obtain⟨s,t1,t2⟩:=aN.1 o1;exact(List.pairwise_cons.1 s4.apart).1 s (by simp[t1]) b hb t2
        ·exact .inr o1
      cases e with
      |gM=>rw[gE k3];exact JS
      |ret=>rw[A4 k3];exact JS
      |exit i=>cases hx
      |rE v=>cases hx
     ·cases hK
    ·cases hK
 ·cases hf
noncomputable def VD(tb:tD P G)(n k:Nat)(qH:Sh)(ys:Sh){B:Type}(uq:A8 G ys)(en:B->HL G (aD ys))(de:HL G (aD ys)->B)(f:HL G (aD qH)->Option (List B))(he:∀x,en (de x)=x)(hf:(BN P k).isSome=true)(hW:∀x,WYf tb n k qH ys de x=f x):It P G where
 k:=k
 qH:=qH
 n:=uq.n
 ys:=ys
 B:=B
 en:=en
 f:=f
 fn:=by
  cases h:BN P k with
  |none=>rw[h]at hf;cases hf
  |some fi=>exact zw h
 ok:=Tj uq he hW
theorem HY{α β ζ:Type}(B:β->(α->Option ζ)->α->Option ζ):∀(n:Nat) (i:α) (b:β),dy (λkk x b=>B b (λx=>kk x b) x) n i b=fZ (B b) n i
 |0,_,_ =>rfl
 |n+1,i,b=>by show B b (λx=>dy (λkk x b=>B b (λx=>kk x b) x) n x b) i=B b (fZ (B b) n) i;have:(λx=>dy (λkk x b=>B b (λx=>kk x b) x) n x b)=fZ (B b) n:=funext λx=>HY B n x b;rw[this]
theorem S5{b:Bool}{m:Option Bool}:cn b (bd m λx=>some x) (some false)=cl (b==true) m default λx=>some (b&&x):=by
 cases b with
 |false=>rfl
 |true=>cases m<;>rfl
theorem Ih{α:Type}{i:Int}{k:Option α}:gu (i==i) k=k:=by simp[gu]
theorem O9{Z:Type}{tb:tD P G}{n:Nat}{s:Fs}{f v:HI G s->Option Z}{um:HL G (aD s.bI)->Z}{mu:Z->HL G (aD s.bI)}(e1:∀y,mu (um y)=y)(hW:∀x,Wf tb n s (λy=>some (um y)) (λ_ =>none) x=v x)(hle:∀x z,f x=some z->v x=some z):Np P s (RV s f mu) (λ_ _ =>False):=by have h0:=Qw (P:=P) (mu:=mu) e1 hW;intro ρ J HS HK X w vs x hv hO hrd hp hk hfr;obtain⟨a1,_⟩:=h0 ρ J HS HK X w vs x hv hO hrd hp hk hfr;refine⟨λy h=>?_,λy h=>h.elim⟩;obtain⟨z,h,hz⟩:=h;exact a1 y ⟨z,hle x z h,hz⟩
def Qe{Z:Type}(tb:tD P G)(n:Nat)(s:Fs)(f v:HI G s->Option Z)(um:HL G (aD s.bI)->Z)(mu:Z->HL G (aD s.bI))(zz:Z)(e1:∀y,mu (um y)=y)(hf:(BN P s.k).isSome=true)(hW:∀x,Wf tb n s (λy=>some (um y)) (λ_ =>none) x=v x)(hle:∀x z,f x=some z->v x=some z):Ct P G:=Ut s f mu zz hf (O9 e1 hW hle)
end Go.Rw
