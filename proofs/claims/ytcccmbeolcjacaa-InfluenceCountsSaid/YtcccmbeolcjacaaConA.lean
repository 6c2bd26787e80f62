/-
  Closed facts of this seat's types. Laid by a program of ours.
-/
import Derived.Test.YtcccmbeolcjacaaProg
import Derived.Test.YtcccmbeolcjacaaLibC
import Derived.Test.YtcccmbeolcjacaaLibB
set_option linter.all false
set_option maxHeartbeats 8000000
namespace Go.Proofs
open Go.Hx
variable {i z:Nat}{α:Type}
def Try.mixed:Try.prog.follows .mixedOrders=true:=Tw
def Try.dC:Try.prog.cellsOf 3=1:=Tw
def Try.eR:Try.prog.bytesOf 3=8:=Tw
def Try.eb:bC Try.prog 3=some [.lit (.int .i64 0)]:=Tw
def Try.AQ:Try.prog.cellsOf 4=1:=Tw
def Try.LI:bC Try.prog 4=some [.lit (.bool false)]:=Tw
def Try.lV:Try.prog.cellsOf 5=1:=Tw
def Try.LJ:Try.prog.bytesOf 5=1:=Tw
def Try.LK:bC Try.prog 5=some [.lit (.int .u8 0)]:=Tw
def Try.AR:Try.prog.cellsOf 22=1:=Tw
def Try.wE:Try.prog.cellsOf 23=1:=Tw
def Try.AS:Try.prog.cellsOf 25=3:=Tw
def Try.LL:bz Try.prog 25 0=some (0,5):=Tw
def Try.LM:bz Try.prog 25 1=some (1,22):=Tw
def Try.LN:bz Try.prog 25 2=some (2,23):=Tw
def Try.AT:Try.prog.cellsOf 26=1:=Tw
def Try.LO:Try.prog.cellsOf 28=6:=Tw
def Try.LP:bz Try.prog 28 0=some (0,25):=Tw
def Try.LQ:bz Try.prog 28 1=some (3,5):=Tw
def Try.LR:bz Try.prog 28 2=some (4,4):=Tw
def Try.LS:bz Try.prog 28 3=some (5,26):=Tw
def Try.AU:Try.prog.cellsOf 30=4:=Tw
def Try.LU:bC Try.prog 30=some [.lit (.int .u8 0),.lit (.int .u8 0),.lit (.int .u8 0),.lit (.int .i64 0)]:=Tw
def Try.LV:ir Try.prog 30=some [(0,1),(1,1),(2,1),(3,1)]:=Tw
def Try.LW:bz Try.prog 30 0=some (0,5):=Tw
def Try.LX:bz Try.prog 30 1=some (1,5):=Tw
def Try.LY:bz Try.prog 30 2=some (2,5):=Tw
def Try.LZ:bz Try.prog 30 3=some (3,3):=Tw
def Try.L3:Try.prog.cellsOf 32=6:=Tw
def Try.L4:bz Try.prog 32 0=some (0,5):=Tw
def Try.L5:bz Try.prog 32 1=some (1,30):=Tw
def Try.L6:bz Try.prog 32 2=some (5,3):=Tw
def Try.L7:Try.prog.cellsOf 35=1:=Tw
def Try.AV:Try.prog.cellsOf 36=1:=Tw
def Try.AW:Try.prog.bytesOf 36=8:=Tw
def Try.AY:bC Try.prog 36=some [.lit (.int .u64 0)]:=Tw
def Try.L8:Try.prog.cellsOf 37=1:=Tw
def Try.L9:Try.prog.cellsOf 39=4:=Tw
def Try.Ma:bC Try.prog 39=some [.lit (.int .i64 0),.lit (.slice none 0 0),.lit (.int .u64 0),.lit (.slice none 0 0)]:=Tw
def Try.Mb:ir Try.prog 39=some [(0,1),(1,1),(2,1),(3,1)]:=Tw
def Try.Mc:bz Try.prog 39 0=some (0,3):=Tw
def Try.Md:bz Try.prog 39 1=some (1,35):=Tw
def Try.Me:bz Try.prog 39 2=some (2,36):=Tw
def Try.Mf:bz Try.prog 39 3=some (3,37):=Tw
def Try.Mg:bC Try.prog 42=some [.lit (.int .i64 0),.lit (.slice none 0 0),.lit (.int .u64 0),.lit (.slice none 0 0),.lit (.int .i64 0),.lit (.slice none 0 0),.lit (.int .u64 0),.lit (.slice none 0 0),.lit (.int .i64 0),.lit (.slice none 0 0),.lit (.int .u64 0),.lit (.slice none 0 0)]:=Tw
def Try.Mh:Try.prog.cellsOf 43=1:=Tw
def Try.Mi:bC Try.prog 43=some [.lit (.int .i64 0)]:=Tw
def Try.Mj:Try.prog.cellsOf 48=1:=Tw
def Try.Mk:bC Try.prog 48=some [.lit (.slice none 0 0)]:=Tw
def Try.Ml:bC Try.prog 52=some [.lit (.int .i64 0),.lit (.int .i64 0),.lit (.int .i64 0)]:=Tw
def Try.jQ:Try.prog.cellsOf 59=1:=Tw
def Try.jR:Try.prog.bytesOf 59=24:=Tw
def Try.jS:bC Try.prog 59=some [.lit (.slice none 0 0)]:=Tw
def Try.Mm:Try.prog.cellsOf 64=2:=Tw
def Try.Mn:bC Try.prog 64=some [.lit (.int .i64 0),.lit (.slice none 0 0)]:=Tw
def Try.Mo:ir Try.prog 64=some [(0,1),(1,1)]:=Tw
def Try.Mp:bz Try.prog 64 0=some (0,3):=Tw
def Try.Mq:bz Try.prog 64 1=some (1,35):=Tw
def Try.nJ:Try.prog.cellsOf 83=3:=Tw
def Try.nK:Try.prog.bytesOf 83=56:=Tw
def Try.nL:bC Try.prog 83=some [.lit (.int .i64 0),.lit (.slice none 0 0),.lit (.slice none 0 0)]:=Tw
def Try.Mr:ir Try.prog 83=some [(0,1),(1,1),(2,1)]:=Tw
def Try.Ms:bz Try.prog 83 0=some (0,3):=Tw
def Try.Mt:bz Try.prog 83 1=some (1,59):=Tw
def Try.Mu:bz Try.prog 83 2=some (2,48):=Tw
def Try.sX:Try.prog.cellsOf 85=2:=Tw
def Try.sY:Try.prog.bytesOf 85=48:=Tw
def Try.sZ:bC Try.prog 85=some [.lit (.slice none 0 0),.lit (.slice none 0 0)]:=Tw
def Try.Mv:ir Try.prog 85=some [(0,1),(1,1)]:=Tw
def Try.Mw:bz Try.prog 85 0=some (0,59):=Tw
def Try.Mx:bz Try.prog 85 1=some (1,59):=Tw
def Try.My:Try.prog.cellsOf 98=1:=Tw
def Try.AZ:Try.prog.cellsOf 101=1:=Tw
def Try.A0:Try.prog.cellsOf 103=2:=Tw
def Try.Mz:bz Try.prog 103 0=some (0,5):=Tw
def Try.MA:bz Try.prog 103 1=some (1,101):=Tw
def Try.MB:Try.prog.cellsOf 108=1:=Tw
def Try.wG:Try.prog.cellsOf 118=2:=Tw
def Try.wH:Try.prog.bytesOf 118=16:=Tw
def Try.wI:bC Try.prog 118=some [.lit (.int .i64 0),.lit (.int .i64 0)]:=Tw
def Try.MC:Try.prog.cellsOf 139=3:=Tw
def Try.MD:bC Try.prog 139=some [.lit (.slice none 0 0),.lit (.int .u16 0),.lit (.slice none 0 0)]:=Tw
def Try.ME:ir Try.prog 139=some [(0,1),(1,1),(2,1)]:=Tw
def Try.MF:bz Try.prog 139 0=some (0,23):=Tw
def Try.MG:bz Try.prog 139 2=some (2,23):=Tw
def Try.A1:Try.prog.cellsOf 142=3:=Tw
def Try.MH:bC Try.prog 142=some [.lit (.int .u8 0),.lit (.int .u8 0),.lit (.slice none 0 0)]:=Tw
def Try.MI:bz Try.prog 142 0=some (0,5):=Tw
def Try.MJ:bz Try.prog 142 1=some (1,5):=Tw
def Try.MK:bz Try.prog 142 2=some (2,23):=Tw
def Try.A2:Try.prog.cellsOf 145=1:=Tw
def Try.ML:Try.prog.cellsOf 148=5:=Tw
def Try.MM:bC Try.prog 148=some [.lit (.int .i64 0),.lit (.slice none 0 0),.lit (.slice none 0 0),.lit (.slice none 0 0),.lit (.slice none 0 0)]:=Tw
def Try.MN:ir Try.prog 148=some [(0,2),(2,1),(3,1),(4,1)]:=Tw
def Try.MO:bz Try.prog 148 0=some (0,64):=Tw
def Try.MP:bz Try.prog 148 1=some (2,59):=Tw
def Try.MQ:bz Try.prog 148 2=some (3,98):=Tw
theorem Try.MR:bz Try.prog 148 3=some (4,59):=Tw
attribute [go_sem] Try.underlying3 Try.dC Try.eR Try.eb Try.underlying4 Try.AQ Try.LI Try.underlying5 Try.lV Try.LJ Try.LK
attribute [go_sem] Try.underlying9 Try.underlying22 Try.AR Try.underlying23 Try.wE
attribute [go_sem] Try.underlying24 Try.underlying25 Try.AS
attribute [go_sem] Try.LL Try.LM Try.LN Try.underlying26 Try.AT Try.underlying27
attribute [go_sem] Try.underlying28 Try.LO Try.LP Try.LQ
attribute [go_sem] Try.LR Try.LS Try.underlying29 Try.underlying30
attribute [go_sem] Try.AU Try.LU Try.LV Try.LW Try.LX Try.LY Try.LZ Try.underlying31
attribute [go_sem] Try.underlying32 Try.L3 Try.L4 Try.L5 Try.L6
attribute [go_sem] Try.underlying33 Try.underlying34 Try.underlying35 Try.L7
attribute [go_sem] Try.underlying36 Try.AV Try.AW Try.AY Try.underlying37 Try.L8 Try.underlying38
attribute [go_sem] Try.underlying39 Try.L9 Try.Ma Try.Mb Try.Mc Try.Md
attribute [go_sem] Try.Me Try.Mf Try.underlying42 Try.Mg Try.underlying43 Try.Mh Try.Mi Try.underlying48 Try.Mj
attribute [go_sem] Try.Mk Try.underlying52 Try.Ml Try.underlying59 Try.jQ Try.jR Try.jS Try.underlying60
attribute [go_sem] Try.underlying61 Try.underlying63
attribute [go_sem] Try.underlying64 Try.Mm Try.Mn Try.Mo Try.Mp Try.Mq Try.underlying67
attribute [go_sem] Try.underlying68 Try.underlying82
attribute [go_sem] Try.underlying83 Try.nJ Try.nK Try.nL Try.Mr Try.Ms
attribute [go_sem] Try.Mt Try.Mu Try.underlying84 Try.underlying85 Try.sX Try.sY
attribute [go_sem] Try.sZ Try.Mv Try.Mw Try.Mx Try.underlying98 Try.My Try.underlying101 Try.AZ
attribute [go_sem] Try.underlying102 Try.underlying103 Try.A0
attribute [go_sem] Try.Mz Try.MA Try.underlying108 Try.MB Try.underlying116 Try.underlying118 Try.wG
attribute [go_sem] Try.wH Try.wI Try.underlying119 Try.underlying123
attribute [go_sem] Try.underlying124 Try.underlying127
attribute [go_sem] Try.underlying138 Try.underlying139 Try.MC Try.MD
attribute [go_sem] Try.ME Try.MF Try.MG Try.underlying141
attribute [go_sem] Try.underlying142 Try.A1 Try.MH Try.MI Try.MJ Try.MK Try.underlying145 Try.A2
attribute [go_sem] Try.underlying147 Try.underlying148 Try.ML
attribute [go_sem] Try.MM Try.MN Try.MO Try.MP Try.MQ Try.MR
def av (l:List (List Int)):Ty:=.M l.length (l.map ag)
structure TA where
 J:Int
 F:List Int
 O:List (List Int)
structure TI where
 vars:List Int
 w:List Int
def TA.cells (x:TA):List Ty:=[aa x.J,ag x.F,av x.O]
def TI.cells (x:TI):List Ty:=[ag x.vars,ag x.w]
def aI (l:List TA):List Ty:=(l.map TA.cells).flatten
def aL (l:List TI):List Ty:=(l.map TI.cells).flatten
def cz (l:List TA):Ty:=.M l.length (aI l)
def s7 (l:List TI):Ty:=.M l.length (aL l)
def bR (g:Int)(l:List TA):Ty:=.agg [aa g,cz l]
structure TD where
 X:Int
 I:List TA
 nn:Nat
 Q:List TI
def gh (d:TD):Ty:=.agg [aa d.X,cz d.I,.lit (.int .u64 (d.nn:Int)),s7 d.Q]
def fN {f:α->List Ty}(hz:∀a,(f a).length=z):∀(l:List α) (i j:Nat) (a:α),l[i]?=some a->j<z->((l.map f).flatten)[i*z+j]?=(f a)[j]?:=by
 intro l
 induction l with
 |nil=>intro i j a h;simp at h
 |cons x l ih =>
  intro i j a h hj;simp only[List.map_cons,List.flatten_cons];cases i with
  |zero =>
   simp only[List.getElem?_cons_zero,Option.some.injEq]at h;subst h;rw[RF,Nat.zero_add,P3 (by rw[hz];exact hj)]
  |succ i =>
   have:(i+1)*z+j=z+(i*z+j):=(by rw[Q7];omega);rw[this,Qc (by rw[hz];omega),hz];have:z+(i*z+j)-z=i*z+j:=U;rw[this];exact ih i j a (by simpa using h) hj
def jj {f:α->List Ty}(hz:∀a,(f a).length=z)(l:List α):((l.map f).flatten).length=l.length*z:=by
 induction l with
 |nil=>simp
 |cons x l ih=>simp only[List.map_cons,List.flatten_cons,List.length_append,ih,hz,List.length_cons];rw[Q7];omega
def kU {f:α->List Ty}(hz:∀a,(f a).length=z):∀(l:List α) (i:Nat) (a:α),l[i]?=some a->(((l.map f).flatten).drop (i*z)).take z=f a:=by
 intro l i a h;apply QC;intro j;by_cases hj:j<z
 ·rw[Qz hj,RL,fN hz l i j a h hj]
 ·rw[P7 (by simp;omega),P7 (by rw[hz];omega)]
def gM (l:List TA):(aI l).length=l.length*3:=jj (f:=TA.cells) (fun _=>rfl) l
variable {l:List TA}{x:TA}
def gO (h:l[i]?=some x):(aI l)[i*3]?=some (aa x.J):=fN (f:=TA.cells) (z:=3) (fun _=>rfl) l i 0 x h (U)
def jT (h:l[i]?=some x):(aI l)[i*3+1]?=some (ag x.F):=fN (f:=TA.cells) (z:=3) (fun _=>rfl) l i 1 x h (U)
def nM (h:l[i]?=some x):(aI l)[i*3+2]?=some (av x.O):=fN (f:=TA.cells) (z:=3) (fun _=>rfl) l i 2 x h (U)
def nO (h:l[i]?=some x):((aI l).drop (i*3)).take 3=[aa x.J,ag x.F,av x.O]:=kU (f:=TA.cells) (z:=3) (fun _=>rfl) l i x h
def dN (h:l[i]?=some x):¬aI l=[]:=fun e=>by
 have:=gO h;rw[e]at this;simp at this
def jU (l:List TI):(aL l).length=l.length*2:=jj (f:=TI.cells) (fun _=>rfl) l
def A4 {l:List TI}{x:TI}(h:l[i]?=some x):(aL l)[i*2]?=some (ag x.vars):=fN (f:=TI.cells) (z:=2) (fun _=>rfl) l i 0 x h (U)
def MU {l:List TI}{x:TI}(h:l[i]?=some x):(aL l)[i*2+1]?=some (ag x.w):=fN (f:=TI.cells) (z:=2) (fun _=>rfl) l i 1 x h (U)
def wJ {l:List TI}{x:TI}(h:l[i]?=some x):((aL l).drop (i*2)).take 2=[ag x.vars,ag x.w]:=kU (f:=TI.cells) (z:=2) (fun _=>rfl) l i x h
def s8 {l:List TI}{x:TI}(h:l[i]?=some x):¬aL l=[]:=fun e=>by
 have:=A4 h;rw[e]at this;simp at this
def aG {l:List α}{x:α}(h:l[i]?=some x):i<l.length:=by
 rcases Ql i l.length with h'|h'
 ·exact h'
 ·rw[P7 h']at h;cases h
def az {l:List α}(h:i<l.length):∃x,l[i]?=some x:=⟨_,PV h⟩
def nP {l:List α}{i:Int}(h0:0<=i)(h:i<l.length):∃k:Nat,i=k/\∃x,l[k]?=some x:=⟨i.toNat,U,az U⟩
def au (l:List Int):Int:=l.foldl (·*·) 1
def A5 (l:List Int)(a:Int):l.foldl (·*·) a=a*au l:=by
 unfold au
 induction l generalizing a with
 |nil=>simp
 |cons x l ih=>simp only[Q9];rw[ih,ih (1*x),Tt,Sv]
def jV:au []=1:=rfl
def lW (x:Int)(l:List Int):au (x :: l)=x*au l:=by
 show List.foldl _ (1*x) l=_;rw[A5,Tt]
def kV (l l':List Int):au (l++l')=au l*au l':=by
 unfold au;rw[Rf,A5];rfl
def fO (l:List Int)(x:Int):au (l++[x])=au l*x:=by rw[kV,lW,jV,Su]
def aO {l:List α}{k:Nat}{x:α}(h:l[k]?=some x):l.take (k+1)=l.take k++[x]:=by
 rw[List.take_add_one,h];rfl
def fB {l:List Int}(h:∀x∈l,1<=x):1<=au l:=by
 induction l with
 |nil=>decide
 |cons x l ih =>
  rw[lW];have h1:=ih fun y hy=>h y (by simp[hy]);have h2:=h x Tu;have:=QI h2 h1 U U;simpa using this
def wK {b:Int}{l:List Int}(hb:0<=b)(h:∀x∈l,0<=x/\x<=b):0<=au l/\au l<=b ^ l.length:=by
 induction l with
 |nil=>exact⟨Tv,by simp[au]⟩
 |cons x l ih =>
  rw[lW];have h1:=ih fun y hy=>h y (by simp[hy]);have h2:=h x Tu;refine⟨Ry h2.1 h1.1,?_⟩;have:=QI h2.2 h1.2 h1.1 hb;rw[List.length_cons,Sp,Sa (b ^ l.length)];exact this
def aA (l:List TA):List Int:=l.map (·.J)
def bc (l places:List Int):List Int:=places.map fun p=>l.getD p.toNat 0
def bI (places:List Int)(n:Int):Prop:=places.Pairwise (·<·)/\∀p∈places,0<=p/\p<n
end Go.Proofs
set_option maxRecDepth 100000
namespace Go.Proofs
open Go.Hx
def G0:Nat->Option (List Ty):=nC
def aT:dJ G0:=wj
end Go.Proofs
namespace Go.Hx
variable {P:Program} {G:Nat->Option (List Ty)} {Γ Γ':ar} {H H':Tz} {w w':World}
variable {Q:AX->St->Prop}{c:Code}{ρ:Env}{n:Nat}{rd:Option Nat}
def W.env {H:Tz}(h:∀E,E=ρ->W P G n rd c Q ⟨E,H⟩):W P G n rd c Q ⟨ρ,H⟩:=h ρ rfl
def W.en {H:Tz}(p:Env->Prop)(hp:p ρ)(h:∀E,p E->W P G n rd c Q ⟨E,H⟩):W P G n rd c Q ⟨ρ,H⟩:=h ρ hp
def Below.mono {m:Nat}{v:Ty}(h:Below n v)(hm:n<=m):Below m v:=by
 induction h with
 |lit v=>exact .lit v
 |M h ih=>exact .M ih
 |nc h ih=>exact .nc ih
 |agg h ih=>exact .agg ih
 |nf h ih=>exact .nf ih
 |nl h1 h2 ih1 ih2=>exact .nl ih1 ih2
 |V h=>exact .V (U)
 |Y h=>exact .Y (U)
 |ng h=>exact .ng (U)
def dm {l:List Ty}{i:Nat}{x:Ty}(h:i<l.length):setAt l i [x]=l.set i x:=by
 unfold setAt;rw[SJ,PZ h];simp
section
variable {t:TypeId} {x y:Operand} {k k':IntKind} {a b:Int}
def tL (hb:0<=b):bg P .shr t x y (.lit (.int k a)) (.lit (.int k' b))=some (.lit (.int k (a.fdiv (2 ^ (min b.toNat k.bits))))):=by
 have h:¬b<0:=U
 simp[bg,Ty.bS,eqGuard,binOp,Op.shift,h,b9,bind,Sem.bind,pure]
def xu (hb:0<=b):bg P .shl t x y (.lit (.int k a)) (.lit (.int k' b))=some (.lit (.int k (k.wrap (a*2 ^ (min b.toNat k.bits))))):=by
 have h:¬b<0:=U
 simp[bg,Ty.bS,eqGuard,binOp,Op.shift,h,b9,bind,Sem.bind,pure]
def tM:bg P .and t x y (.lit (.int k a)) (.lit (.int k b))=some (.lit (.int k (k.wrap ((BitVec.ofInt k.bits a &&& BitVec.ofInt k.bits b).toNat:Nat)))):=by
 simp[bg,Ty.bS,eqGuard,binOp,Op.intBits,b9,bind,Sem.bind,pure]
def Pb:bg P .or t x y (.lit (.int k a)) (.lit (.int k b))=some (.lit (.int k (k.wrap ((BitVec.ofInt k.bits a |||BitVec.ofInt k.bits b).toNat:Nat)))):=by
 simp[bg,Ty.bS,eqGuard,binOp,Op.intBits,b9,bind,Sem.bind,pure]
def Pc:bg P .xor t x y (.lit (.int k a)) (.lit (.int k b))=some (.lit (.int k (k.wrap ((BitVec.ofInt k.bits a ^^^ BitVec.ofInt k.bits b).toNat:Nat)))):=by
 simp[bg,Ty.bS,eqGuard,binOp,Op.intBits,b9,bind,Sem.bind,pure]
def Pd:bg P .andNot t x y (.lit (.int k a)) (.lit (.int k b))=some (.lit (.int k (k.wrap ((BitVec.ofInt k.bits a &&& ~~~ BitVec.ofInt k.bits b).toNat:Nat)))):=by
 simp[bg,Ty.bS,eqGuard,binOp,Op.intBits,b9,bind,Sem.bind,pure]
def bj (m:Nat):Ty:=.lit (.int .u64 (m:Int))
def fH (a b:Nat):Nat:=(BitVec.ofNat 64 a &&& ~~~ BitVec.ofNat 64 b).toNat
def n9 {m:Nat}(h:m<2 ^ 64):(BitVec.ofInt 64 (m:Int)).toNat=m:=by rw[BitVec.ofInt_natCast,BitVec.toNat_ofNat,Nat.mod_eq_of_lt h]
def Cl (a b:Nat):fH a b<2 ^ 64:=(BitVec.isLt _)
def xw {a b i:Nat}(ha:a<2 ^ 64):(fH a b).testBit i=(a.testBit i && !b.testBit i):=by
 unfold fH;by_cases hi:i<64
 ·rw[<- BitVec.getLsbD,BitVec.getLsbD_and,BitVec.getLsbD_not,BitVec.getLsbD_ofNat,BitVec.getLsbD_ofNat];simp[hi]
 ·have h1:a.testBit i=false:=Sz (P5 ha (Qu Tv U));rw[h1,<- BitVec.getLsbD,BitVec.getLsbD_of_ge _ _ U];rfl
def qx {m:Nat}(h:m<2 ^ 64):IntKind.u64.wrap (m:Int)=m:=RY _ (U)
def Pe {a b:Nat}(ha:a<2 ^ 64)(hb:b<2 ^ 64):bg P .and t x y (.lit (.int .u64 (a:Int))) (.lit (.int .u64 (b:Int)))=some (.lit (.int .u64 ((a &&& b:Nat):Int))):=by
 rw[tM];have e:(BitVec.ofInt (IntKind.bits .u64) (a:Int) &&& BitVec.ofInt (IntKind.bits .u64) (b:Int)).toNat=a &&& b:=by
  show (BitVec.ofInt 64 _ &&& BitVec.ofInt 64 _).toNat=_;rw[BitVec.toNat_and,n9 ha,n9 hb]
 rw[e,qx (SI Nat.and_le_left ha)]
def js {a b:Nat}(ha:a<2 ^ 64)(hb:b<2 ^ 64):bg P .or t x y (.lit (.int .u64 (a:Int))) (.lit (.int .u64 (b:Int)))=some (.lit (.int .u64 ((a |||b:Nat):Int))):=by
 rw[Pb];have e:(BitVec.ofInt (IntKind.bits .u64) (a:Int) |||BitVec.ofInt (IntKind.bits .u64) (b:Int)).toNat=a |||b:=by
  show (BitVec.ofInt 64 _ |||BitVec.ofInt 64 _).toNat=_;rw[BitVec.toNat_or,n9 ha,n9 hb]
 rw[e,qx (RC ha hb)]
def Pf {a b:Nat}(ha:a<2 ^ 64)(hb:b<2 ^ 64):bg P .xor t x y (.lit (.int .u64 (a:Int))) (.lit (.int .u64 (b:Int)))=some (.lit (.int .u64 ((a ^^^ b:Nat):Int))):=by
 rw[Pc];have e:(BitVec.ofInt (IntKind.bits .u64) (a:Int) ^^^ BitVec.ofInt (IntKind.bits .u64) (b:Int)).toNat=a ^^^ b:=by
  show (BitVec.ofInt 64 _ ^^^ BitVec.ofInt 64 _).toNat=_;rw[BitVec.toNat_xor,n9 ha,n9 hb]
 rw[e,qx (SH ha hb)]
def xx {a b:Nat}:bg P .andNot t x y (.lit (.int .u64 (a:Int))) (.lit (.int .u64 (b:Int)))=some (.lit (.int .u64 ((fH a b:Nat):Int))):=by
 rw[Pd];have e:(BitVec.ofInt (IntKind.bits .u64) (a:Int) &&& ~~~ BitVec.ofInt (IntKind.bits .u64) (b:Int)).toNat=fH a b:=by
  show (BitVec.ofInt 64 _ &&& ~~~ BitVec.ofInt 64 _).toNat=_;rw[BitVec.ofInt_natCast,BitVec.ofInt_natCast];rfl
 rw[e,qx (Cl a b)]
def mg {a s:Nat}(ha:a<2 ^ 64):bg P .shr t x y (.lit (.int .u64 (a:Int))) (.lit (.int k' (s:Int)))=some (.lit (.int .u64 ((a >>> s:Nat):Int))):=by
 rw[tL U,Int.toNat_natCast];have e:(a:Int).fdiv (2 ^ (min s (IntKind.bits .u64)))=((a >>> s:Nat):Int):=by
  rw[Int.fdiv_eq_ediv_of_nonneg _ (by exact_mod_cast Ss _),Sq];show (a:Int) / 2 ^ (min s 64)=_;rcases Nat.le_total s 64 with h|h
  ·rw[Sd h];push_cast;rfl
  ·rw[Nat.min_eq_right h];have h1:a / 2 ^ s=0:=Nat.div_eq_of_lt (P5 ha (Qu Tv h));rw[h1];exact Tg U (U)
 rw[e]
def mh {s:Nat}(hs:s<64):bg P .shl t x y (.lit (.int .u64 1)) (.lit (.int k' (s:Int)))=some (.lit (.int .u64 ((2 ^ s:Nat):Int))):=by
 rw[xu U,Int.toNat_natCast];have e:min s (IntKind.bits .u64)=s:=Sd (by show s<=64;omega);have h2:2 ^ s<2 ^ 64:=Ra Tv hs;rw[e,Tt];have h3:((2:Int) ^ s)=((2 ^ s:Nat):Int):=by push_cast;rfl
 rw[h3,qx h2]
def tO {a s:Nat}(ha:a<2 ^ 64):bg P .and t x y (.lit (.int .u64 ((a >>> s:Nat):Int))) (.lit (.int .u64 1))=some (.lit (.int .u64 (if a.testBit s then 1 else 0))):=by
 have h1:a >>> s<2 ^ 64:=SI (Nat.shiftRight_le _ _) ha;have:=Pe (P:=P) (t:=t) (x:=x) (y:=y) (a:=a >>> s) (b:=1) h1 Tv;rw[show (((1:Nat):Int))=1 from rfl]at this;rw[this,Nat.and_one_is_mod];congr 3;rw[Nat.testBit,Nat.and_comm,Nat.and_one_is_mod];rcases QZ (a >>> s) with h|h<;>rw[h]<;>rfl
end
end Go.Hx
namespace Go.Proofs
open Go.Hx
variable {a b c n v:Int}{l:List Int}{i j:Nat}{α:Type}
def cW (H:Tz)(b:TE)(L:List TE):(ext H (b :: L)).get H.C=some b:=dV H (b :: L) 0 (Tu)
def Cm (l:List Int)(n:Nat):(ints l).take n=ints (l.take n):=by simp[ints]
def Cn (l:List Int)(n:Nat):(ints l).drop n=ints (l.drop n):=by simp[ints]
def bb {l:List α}{a:α}(h:l[i]?=some a):¬l=[]:=by rintro rfl;simp at h
def ij {x:Int}(h:i<l.length):setAt (ints l) i [.lit (.int .i64 x)]=ints (l.set i x):=by
 rw[dm (by simpa[ints] using h)];simp[ints,aa]
def tP (w:Bool):oV w (some (.lit undef))=some false:=rfl
def aY (ns:List TA)(x:TA):List Int:=bc (aA ns) x.F
def pU:List Int->List Int->Int
 |_ :: cs,v :: vs=>v*au cs+pU cs vs
 |_,_=>0
def ic:List Int->Int->List Int
 | [],_=>[]
 |c :: cs,i=>i / au cs % c :: ic cs i
def A6 (cs:List Int)(i:Int):(ic cs i).length=cs.length:=by
 induction cs with
 |nil=>rfl
 |cons c cs ih=>simp[ic,ih]
def pV {l:List α}{k:Nat}{a:α}(h:l[k]?=some a):l.drop k=a :: l.drop (k+1):=by
 rw[Qw (aG h)];congr 1;have:=PV (aG h);rw[h]at this;exact(Option.some.inj this).symm
def lX (cs vs:List Int):Prop:=vs.length=cs.length/\∀(k:Nat) (c v:Int),cs[k]?=some c->vs[k]?=some v->0<=v/\v<c
def lX.tail {cs vs:List Int}(h:lX (c :: cs) (v :: vs)):lX cs vs:=⟨by simpa using h.1,fun k c v h1 h2=>h.2 (k+1) c v (by simpa using h1) (by simpa using h2)⟩
def lX.head {cs vs:List Int}(h:lX (c :: cs) (v :: vs)):0<=v/\v<c:=h.2 0 c v Tu (Tu)
def lX.pos {cs vs:List Int}(h:lX cs vs):∀c∈cs,1<=c:=fun c hc=>by
 obtain⟨k,hk⟩:=Qd.1 hc;obtain⟨v,hv⟩:=az (l:=vs) (i:=k) (by rw[h.1];exact aG hk);have:=h.2 k c v hk hv;omega
def MV (i m n:Int)(hm:0<m)(hn:0<n):i % (m*n)=i % m+m*(i / m % n):=by
 have h1:=SD i (m*n);have h2:=SD i m;have h3:=SD (i / m) n;have h4:i / m / n=i / (m*n):=Td U;rw[h4]at h3;have h5:m*(i / m)=m*(i / m % n)+m*n*(i / (m*n)):=by
  conv=>lhs;rw[<- h3]
  rw[Sw,Sv]
 omega
def eH (l:List Int):Prop:=l.length<=12/\∀x∈l,0<=x/\x<=8
def eH.prod (h:eH l):0<=au l/\au l<=68719476736:=by
 have h1:=wK (b:=8) U h.2;have h2:(8:Int) ^ l.length<=8 ^ 12:=by
  have:(8:Nat) ^ l.length<=8 ^ 12:=Qu Tv h.1
  exact_mod_cast this
 exact⟨h1.1,Int.le_trans h1.2 h2⟩
theorem eH.take (h:eH l)(k:Nat):eH (l.take k):=⟨by have:=h.1;simp;omega,fun x hx=>h.2 x (Qk hx)⟩
theorem eH.drop (h:eH l)(k:Nat):eH (l.drop k):=⟨by have:=h.1;simp;omega,fun x hx=>h.2 x (QV hx)⟩
def xe (l:List Int)(hl:eH l)(H:Tz)(K:TF->Tz->Prop)(hK:K (.ret (aa (au l))) H):af Try.prog G0 76 [ag l] H K:=by
 have l12:=hl.1;refine af.st (n:=18) (rs:=[.tmp 2]) Try.func76 ?_;simp only[go_sem];refine W.aM 131064 (by rfl) (fun ρ H'=>H'=H/\∃k:Nat,ρ 4=aa k/\k<=l.length/\ρ 3=aa (au (l.take k))) (fun ρ H=>l.length-(iv (ρ 4)).toNat) ?_ ?_
 ·simp only[go_sem];exact⟨0,rfl,U,by simp[jV]⟩
 rintro ρ H' ⟨rfl,k,h4,hk,h3⟩;refine W.vs ?_;by_cases hb:(k:Int)<l.length
 ·obtain⟨c,hc⟩:=az (l:=l) (i:=k) U;have hne:=bb hc;have b1:=(hl.take (k+1)).prod;rw[aO hc,fO]at b1;simp only[go_sem,h4,h3,hb,hc,hne];rw[PW ((k:Int)+1) U,PW (_*c) U];exact⟨⟨k+1,Tu,U,by rw[aO hc,fO]⟩,U⟩
 ·simp only[go_sem,h4,h3,hb];rw[PY U];exact aw.mk Tx hK
def B1 (x:List Int)(hx:(x.length:Int)<2 ^ 40)(H:Tz)(K:TF->Tz->Prop)(hK:K (.ret (ag x)) H):af Try.prog G0 61 [ag x] H K:=by
 refine af.nl ⟨_,Try.func61,rfl,rfl⟩ fun hc=>?_;refine af.st (n:=8) (rs:=[.tmp 2]) Try.func61 ?_;simp only[go_sem];intro b hlen;cases b with
 |true =>
  have hx0:x=[]:=P1 (by
   by_cases h:0<x.length
   ·have:=hlen (by simpa using h);cases this
   ·omega)
  simp only[go_sem];subst hx0;exact aw.Hf aT hc .uT hK
 |false =>
  by_cases h0:x.length=0
  ·have hx0:x=[]:=P1 h0;subst hx0;simp only[go_sem,db];refine⟨⟨rfl,rfl⟩,aw.drop (v':=ag []) aT hc ?_ hK⟩;exact .ints Tx (cW ..) rfl fun i hi=>absurd hi (Qf _)
  ·simp only[go_sem,h0,db];refine⟨⟨rfl,U,U,jJ x⟩,aw.drop aT hc ?_ hK⟩;exact .ints Tx (cW ..) rfl fun i hi=>by simp[gF,hi]
instance placesDec (l:List Int)(n:Int):Decidable (bI l n):=by unfold bI;infer_instance
theorem bI.nil :bI [] n:=⟨.nil,fun _ h=>by cases h⟩
theorem bI.take (h:bI l n)(k:Nat):bI (l.take k) n:=⟨h.1.sublist (List.take_sublist k l),fun p hp=>h.2 p (Qk hp)⟩
def bI.snoc (h:bI l n)(ha:0<=a/\a<n)(hl:∀b,l.getLast?=some b->b<a):bI (l++[a]) n:=by
 refine⟨Rz.2 ⟨h.1,Tu,fun x hx y hy=>?_⟩,fun p hp=>?_⟩
 ·obtain rfl:=List.mem_singleton.1 hy;rcases Tj l with rfl|⟨l',b,rfl⟩
  ·cases hx
  ·have hb:=hl b Tu;simp only[Tk]at hx h;rcases Qe.1 hx with hx|hx
   ·have:=(Rz.1 h.1).2.2 x hx b Tu;omega
   ·obtain rfl:=List.mem_singleton.1 hx;exact hb
 ·rcases Qe.1 hp with hp|hp
  ·exact h.2 p hp
  ·obtain rfl:=List.mem_singleton.1 hp;exact ha
def bI.lt (h:bI l n)(ha:l[i]?=some a)(hb:l[j]?=some b)(hij:i<j):a<b:=by
 have:=Sr.1 h.1 i j (aG ha) (aG hb) hij;have e1:=PV (aG ha);have e2:=PV (aG hb);rw[ha]at e1;rw[hb]at e2;rw[Option.some.inj e1,Option.some.inj e2];exact this
def bI.len (h:bI l n):(l.length:Int)<=max n 0:=by
  -- the k-th place is at least k
 have key:∀(k:Nat) (a:Int),l[k]?=some a->(k:Int)<=a:=by
  intro k
  induction k with
  |zero=>intro a ha;have:=h.2 a (an ha);omega
  |succ k ih =>
   intro a ha;obtain⟨b,hb⟩:=az (l:=l) (i:=k) (by have:=aG ha;omega);have:=ih b hb;have:=h.lt hb ha U;omega
 rcases Q6 l.length with h0|h0
 ·omega
 ·obtain⟨a,ha⟩:=az (l:=l) (i:=l.length-1) U;have h1:=key _ a ha;have h2:=h.2 a (an ha);omega
def qp (h:l[j]?=some b):(l.take (j+1)).getLast?=some b:=by rw[aO h];simp
def B2 (l:List Int)(n:Int)(hl:(l.length:Int)<2 ^ 62)(H:Tz)(K:TF->Tz->Prop)(hK:K (.ret (.lit (.bool (decide (bI l n))))) H):af Try.prog G0 74 [ag l,aa n] H K:=by
 have no:¬bI l n->aw Try.prog G0 H K (.lit (.bool false)) H:=fun h=>aw.mk Tx (by rw[RM h]at hK;exact hK);refine af.st (n:=41) (rs:=[.tmp 4]) Try.func74 ?_;simp only[go_sem];refine W.aM 2199023255536 (by rfl) (fun ρ H'=>H'=H/\∃k:Nat,ρ 5=aa k/\k<=l.length/\bI (l.take k) n) (fun ρ H=>l.length-(iv (ρ 5)).toNat) ?_ ?_
 ·simp only[go_sem];exact⟨0,rfl,U,.nil⟩
 rintro ρ H' ⟨rfl,k,h5,hk,hp⟩;refine W.vs ?_;by_cases hb:(k:Int)<l.length
 ·obtain⟨a,ha⟩:=az (l:=l) (i:=k) U;have hne:=bb ha;have ham:=an ha;simp only[go_sem,h5,hb];refine W.dr 26 [0,0,3,7,15,31,63,63,255,511,63,2047,4095,8191,16383,32767,65535,131071,131071,524287,1048575,131071,131071,4325375,14811135,31588351] Try.mixed ?_;by_cases c1:a<0
  ·simp only[go_sem,h5,hb,ha,hne,c1,tP];exact no fun h=>by have:=h.2 a ham;omega
  by_cases c2:a >= n
  ·simp only[go_sem,h5,hb,ha,hne,c1,c2,tP];exact no fun h=>by have:=h.2 a ham;omega
  by_cases c3:(k:Int) > 0
  ·obtain⟨j,rfl⟩:∃j,k=j+1:=⟨k-1,U⟩
   obtain⟨b,hbj⟩:=az (l:=l) (i:=j) U;have w1:=PW (j:Int) U;have w2:=PW (((j+1:Nat):Int)+1) U;have e1:((j+1:Nat):Int)-1=j:=U;have hb1:(j:Int)<l.length:=U;have hbj':=hbj;by_cases c4:a<=b
   ·simp only[go_sem,h5,hb,ha,hne,c1,c2,c3,c4,w1,e1,hb1,hbj];exact no fun h=>by have:=h.lt hbj ha U;omega
   ·simp only[go_sem,h5,hb,ha,hne,c1,c2,c3,c4,w1,w2,e1,hb1,hbj];refine⟨⟨j+1+1,Tu,U,?_⟩,U⟩;rw[aO ha];exact hp.snoc U fun b' hb'=>by
     rw[qp hbj]at hb';cases hb';omega
  ·simp only[go_sem,h5,hb,ha,hne,c1,c2,c3];rw[PW ((k:Int)+1) U];obtain rfl:k=0:=U;refine⟨⟨1,Tu,U,?_⟩,U⟩;rw[aO ha];exact hp.snoc U fun b' hb'=>by simp at hb'
 ·simp only[go_sem,h5,hb];rw[PY U]at hp;rw[Rx hp]at hK;exact aw.mk Tx hK
def B3 (l:List Int)(n:Int)(hl:(l.length:Int)<2 ^ 62)(H:Tz)(K:TF->Tz->Prop)(hK:K (.ret (.lit (.bool (decide (bI l n))))) H):af Try.prog G0 86 [ag l,aa n] H K:=by
 have no:¬bI l n->aw Try.prog G0 H K (.lit (.bool false)) H:=fun h=>aw.mk Tx (by rw[RM h]at hK;exact hK);refine af.st (n:=24) (rs:=[.tmp 4]) Try.func86 ?_;simp only[go_sem];refine W.aM 16776368 (by rfl) (fun ρ H'=>H'=H/\∃(k:Nat) (b:Int),ρ 10=aa k/\k<=l.length/\ρ 5=aa b/\bI (l.take k) n/\(l.take k).getLast?.getD (-1)=b) (fun ρ H=>l.length-(iv (ρ 10)).toNat) ?_ ?_
 ·simp only[go_sem];exact⟨0,-1,rfl,U,rfl,.nil,rfl⟩
 rintro ρ H' ⟨rfl,k,b,h10,hk,h5,hp,hbl⟩;refine W.vs ?_;by_cases hb:(k:Int)<l.length
 ·obtain⟨a,ha⟩:=az (l:=l) (i:=k) U;have hne:=bb ha;have ham:=an ha;by_cases c1:a<=b
  ·simp only[go_sem,h10,h5,hb,ha,hne,c1];refine no fun h=>?_;have h0:=h.2 a ham;rcases Q6 k with rfl|hk0
   ·simp at hbl;omega
   ·obtain⟨j,rfl⟩:∃j,k=j+1:=⟨k-1,U⟩
    obtain⟨b',hbj⟩:=az (l:=l) (i:=j) U;rw[qp hbj]at hbl;have:=h.lt hbj ha U;simp at hbl;omega
  by_cases c2:a >= n
  ·simp only[go_sem,h10,h5,hb,ha,hne,c1,c2];exact no fun h=>by have:=h.2 a ham;omega
  have w1:=PW ((k:Int)+1) U;simp only[go_sem,h10,h5,hb,ha,hne,c1,c2,w1];have h0:0<=a:=by
   rcases hg:(l.take k).getLast? with _|b'
   ·rw[hg]at hbl;simp at hbl;omega
   ·rw[hg]at hbl;have:=hp.2 b' (Tl hg);simp at hbl;omega
  refine⟨⟨k+1,a,Tu,U,rfl,?_,by rw[qp ha];rfl⟩,U⟩;rw[aO ha];exact hp.snoc ⟨h0,U⟩ fun b' hb'=>by rw[hb']at hbl;simp at hbl;omega
 ·simp only[go_sem,h10,hb];rw[PY U]at hp;rw[Rx hp]at hK;exact aw.mk Tx hK
end Go.Proofs
namespace Go.Hx
variable {g id:Nat}{H H':Tz}
theorem TC.Z (h:TC H H')(hi:id<H.C):H'.Z id g=H.Z id g:=by
 unfold Tz.Z;rw[h.nb id hi]
theorem TC.upd (h:TC H H')(hi:H.C<=id)(b:TE):TC H (H'.upd id b):=⟨h.C,fun j hj=>by rw[ab,PX U];exact h.nb j hj⟩
def oa {e:TypeId}{c:List Ty}:(H.upd id (.L g e c)).Z id g=some (e,c):=ae (by rw[ab,PZ rfl])
def eS {j:Nat}{b:TE}(h:j≠id):(H.upd id b).Z j g=H.Z j g:=by unfold Tz.Z;rw[ab,PX h]
attribute [go_sem] oa
@[go_sem] theorem PT (a b:Array TypeId)(c:Bool)(n:Nat)(cells:List Ty)(off:Nat):jK (some (.func a b c)) n cells off=cells[off]?:=rfl
end Go.Hx
namespace Go.Proofs
open Go.Hx
variable {c l:List Int}{ps:List Nat}{a done i id k m n t:Nat}{v:Ty}{H H':Tz}
def mb {H2:Tz}{e:TypeId}{cs:List Ty}(ov:TC H H')(h:ay H.C H' e v cs)(hn:H'.C<=H2.C)(hp:∀k,k<H'.C->(∀g n,v≠.V k g 0 n 1)->H2.get k=H'.get k):TC H H2 :=
 ⟨QH ov.C hn,fun id hi=>by
  rw[hp id (P5 hi ov.C) fun g n he=>?_,ov.nb id hi];rcases h with ⟨h,_⟩|⟨i2,g2,a1,_,h,_⟩
  ·rw[h]at he;cases he
  ·rw[h]at he;have:=Ty.V.inj he;omega⟩
def il (x:Int)(ov:TC H H')(h:ay H.C H' 3 v (ints l))(hl:l.length<2 ^ 40):
  ∃v' H2,bd Try.prog (ext H' [.L 0 3 [.lit (.int .i64 x)]]) (H'.C+1) 59 59 v (.V H'.C 0 0 1 1)=some (v',H2)/\TC H H2/\ay H.C H2 3 v' (ints (l++[x]))/\H'.C<=H2.C/\(∀k,k<H'.C->(∀g n,v≠.V k g 0 n 1)->H2.get k=H'.get k):=by
 obtain⟨v',H2,hA,hO,hn2,hp⟩:=gG (P:=Try.prog) (H:=H') (t:=59) (x:=aa x) (n:=H'.C+1) Try.underlying59 Try.dC Try.eb rfl (by rw[Try.eR,aR];omega) h ov.C rfl;simp only[aa]at hA;exact⟨v',H2,hA,mb ov h hn2 hp,by simpa[ints,aa] using hO,hn2,hp⟩
def Pg (l:List (List Int)):(av l).one=true:=rfl
def Ph (l:List (List Int)):(av l).cells=[av l]:=rfl
def Pi (l:List TA):(cz l).one=true:=rfl
def Pj (l:List TA):(cz l).cells=[cz l]:=rfl
def Pk (l:List TI):(s7 l).one=true:=rfl
theorem Pl (l:List TI):(s7 l).cells=[s7 l]:=rfl
attribute [go_sem] Pg Ph Pi Pj Pk Pl
structure T4 (H H':Tz)(id:Nat)(c:List Int):Prop where
 ov:TC H H'
 lo:H.C<=id
 hi:id<H'.C
 get:H'.get id=some (.L 0 3 (ints c))
theorem T4.Z (h:T4 H H' id c):H'.Z id 0=some (3,ints c):=ae h.get
def T4.ne (h:T4 H H' id c):¬id=H'.C:=by have:=h.hi;omega
def T4.over {H2:Tz}(h:T4 H H' id c)(o:TC H' H2):T4 H H2 id c:=⟨h.ov.trans o,h.lo,P5 h.hi o.C,(o.nb id h.hi).trans h.get⟩
def T4.store (h:T4 H H' id c)(hk:k<c.length)(x:Int):T4 H (H'.upd id (.L 0 3 (setAt (ints c) k [.lit (.int .i64 x)]))) id (c.set k x) :=
 ⟨⟨h.ov.C,fun i hi=>by rw[ab,PX (by have:=h.lo;omega)];exact h.ov.nb i hi⟩,h.lo,h.hi,by rw[ab,PZ rfl,ij hk]⟩
def T4.new (L:List TE)(n:Nat):T4 H (ext H (.L 0 3 (List.replicate n (.lit (.int .i64 0))) :: L)) H.C (List.replicate n 0) :=
 ⟨.ext _ _,Tx,by simp[bh],by rw[cW];simp[ints,aa]⟩
def T4.fin {K:TF->Tz->Prop}(hcl:Ue H)(h:T4 H H' id c)(hn:n=c.length)(hK:K (.ret (ag c)) H):aw Try.prog G0 H K (.V id 0 0 n 1) H':=by
 subst hn;refine aw.bJ aT hcl h.ov ?_ hK;exact .ints h.lo h.get Tu fun i hi=>by simp[gF,hi]
def Pm {m:List Int}{x:Int}(h:l.take k=m.take k)(hk:k<l.length)(hx:m[k]?=some x):(l.set k x).take (k+1)=m.take (k+1):=by
 rw[aO hx,aO (show (l.set k x)[k]?=some x by rw[Qa hk]),Sl (Nat.le_refl k),h]
def cB {α:Type}{l:List α}{a d:α}(h:l[i]?=some a):l.getD i d=a:=by rw[QD,h];rfl
def B4 {places:List Int}{p:Int}(h:places[k]?=some p):bc l (places.take (k+1))=bc l (places.take k)++[l.getD p.toNat 0]:=by
 unfold bc;rw[aO h];simp
def dk {ns:List TA}{x:TA}(h:ns[k]?=some x):(aA ns)[k]?=some x.J:=by unfold aA;rw[List.getElem?_map,h];rfl
def fS (ns:List TA):(aA ns).length=ns.length:=by simp[aA]
def B5 (l p:List Int)(hl:(l.length:Int)<2 ^ 40)(hp:(p.length:Int)<2 ^ 39)(hin:∀q∈p,0<=q/\q<l.length)(H:Tz)(K:TF->Tz->Prop)(hK:K (.ret (ag (bc l p))) H):af Try.prog G0 90 [ag l,ag p] H K:=by
 refine af.nl ⟨_,Try.func90,rfl,rfl⟩ fun hcl=>?_;refine af.st (n:=24) (rs:=[.tmp 4]) Try.func90 ?_;simp only[go_sem];refine W.aM 8388576 (by rfl) (fun ρ H'=>∃k:Nat,ρ 6=aa k/\k<=p.length/\TC H H'/\ay H.C H' 3 (ρ 5) (ints (bc l (p.take k)))) (fun ρ H=>p.length-(iv (ρ 6)).toNat) ?_ ?_
 ·simp only[go_sem];exact⟨0,rfl,U,.refl _,.nil⟩
 rintro ρ H' ⟨k,h6,hk,ov,h5⟩;refine W.vs ?_;by_cases hb:(k:Int)<p.length
 ·obtain⟨q,hq⟩:=az (l:=p) (i:=k) U;obtain⟨j,rfl,a,ha⟩:=nP (hin q (an hq)).1 (hin q (an hq)).2;have hne:=bb hq;have hne2:=bb ha;have hj:=aG ha;have hj':(j:Int)<l.length:=U
  obtain⟨v',H2,hA,ov2,hO,hn2,_⟩:=il a ov h5 (by simp[bc];omega);have w1:=PW ((k:Int)+1) U;simp only[go_sem,h6,hb,hq,hne,ha,hne2,hj',w1,hA];refine⟨by have:=ov2.C;omega,⟨k+1,Tu,U,ov2,?_⟩,U⟩;rw[B4 hq,Int.toNat_natCast,cB ha];exact hO
 ·simp only[go_sem,h6,hb];rw[PY U]at h5;exact aw.bJ aT hcl ov (h5.dW fun i hi=>hi) hK
def tG (g:Int)(ns:List TA)(hl:(ns.length:Int)<2 ^ 39)(H:Tz)(K:TF->Tz->Prop)(hK:K (.ret (ag (aA ns))) H):af Try.prog G0 56 [bR g ns] H K:=by
 refine af.nl ⟨_,Try.func56,rfl,rfl⟩ fun hcl=>?_;refine af.st (n:=22) (rs:=[.tmp 2]) Try.func56 ?_;simp only[go_sem,bR,cz];obtain⟨H1,hH1⟩:∃H1,H1=ext H [.L 0 64 [.lit (.int .i64 g),.M ns.length (aI ns)]]:=⟨_,rfl⟩
 have l1:H1.Z H.C 0=some (64,[.lit (.int .i64 g),.M ns.length (aI ns)]):=by rw[hH1];exact ae (cW ..)
 have n1:H1.C=H.C+1:=hH1▸rfl
 have o1:TC H H1:=hH1▸.ext _ _
 rw[<- hH1];refine W.aM 2097144 (by rfl) (fun ρ H'=>∃k:Nat,ρ 4=aa k/\k<=ns.length/\ρ 1=.Y H.C 0 0/\TC H1 H'/\ay H1.C H' 3 (ρ 3) (ints ((aA ns).take k))) (fun ρ H=>ns.length-(iv (ρ 4)).toNat) ?_ ?_
 ·simp only[go_sem];exact⟨0,rfl,U,.refl _,.nil⟩
 rintro ρ H' ⟨k,h4,hk,h1,ov,h3⟩;refine W.vs ?_;have l2:=(ov.Z (g:=0) (by omega:H.C<H1.C)).trans l1;by_cases hb:(k:Int)<ns.length
 ·obtain⟨x,hx⟩:=az (l:=ns) (i:=k) U;have hne:=dN hx;have e0:=gO hx;obtain⟨v',H2,hA,ov2,hO,hn2,_⟩:=il x.J ov h3 (by simp[aA];omega);have w1:=PW ((k:Int)+1) U;simp only[go_sem,h4,h1,l2,hb,hne,e0,w1,hA];refine⟨by have:=ov2.C;omega,⟨k+1,Tu,U,ov2,?_⟩,U⟩;rw[aO (dk hx)];exact hO
 ·simp only[go_sem,h4,h1,l2,hb];rw[PY (by rw[fS];omega)]at h3;exact aw.bJ aT hcl (o1.trans ov) (h3.dW fun i hi=>U) hK
def jq (l:List Int)(n:Nat):Prop:=∀q∈l,0<=q/\q<n
def kg (l p:List Int):(bc l p).length=p.length:=by simp[bc]
def xf {p:List Int}{q:Int}(h:p[k]?=some q):(bc l p)[k]?=some (l.getD q.toNat 0):=by unfold bc;rw[List.getElem?_map,h];rfl
def OM (g:Int)(ns:List TA)(v:Nat)(x:TA)(hx:ns[v]?=some x)(hl:(ns.length:Int)<2 ^ 39)(hp:(x.F.length:Int)<2 ^ 39)(hin:jq x.F ns.length)(H:Tz)(K:TF->Tz->Prop)
  (hK:K (.ret (ag (aY ns x))) H):af Try.prog G0 77 [bR g ns,aa v] H K:=by
 refine af.nl ⟨_,Try.func77,rfl,rfl⟩ fun hcl=>?_;have hne:=dN hx;have e1:=jT hx;have hv:(v:Int)<ns.length:=by have:=aG hx;omega
 refine af.st (n:=14) (rs:=[.tmp 4]) Try.func77 ?_;simp only[go_sem,bR,cz];refine W.dr 8 [0,1,0,4,0,28,60,124] Try.mixed ?_;simp only[go_sem];refine⟨ag (aA ns),[],cF.pure fun H2=>tG g ns hl H2 _ ⟨rfl,rfl⟩,?_⟩;simp only[go_sem,hv,hne,e1];refine aE.nl (B5 (aA ns) x.F (by rw[fS];omega) hp (by rw[fS];exact hin) _ _ ⟨trivial,?_⟩);simp only[go_sem];exact aw.bJ aT hcl (.ext _ _) (.cK _) hK
def xg (ns:List TA)(v:Nat)(x:TA)(hx:ns[v]?=some x)(hin:jq x.F ns.length)(hs:eH (aY ns x))(H:Tz)(K:TF->Tz->Prop)
  (hK:K (.ret (aa (au (aY ns x)))) H):af Try.prog G0 52 [cz ns,aa v] H K:=by
 have hne:=dN hx;have e1:=jT hx;have hv:(v:Int)<ns.length:=by have:=aG hx;omega
 have l12:=hs.1;have pl:(aY ns x).length=x.F.length:=kg _ _;refine af.st (n:=27) (rs:=[.tmp 4]) Try.func52 ?_;simp only[go_sem,cz,hv,hne,e1];refine W.aM 67092640 (by rfl) (fun ρ H'=>H'=H/\∃k:Nat,ρ 14=aa k/\k<=x.F.length/\ρ 5=aa (au ((aY ns x).take k))) (fun ρ H=>x.F.length-(iv (ρ 14)).toNat) ?_ ?_
 ·simp only[go_sem];exact⟨0,rfl,U,by simp[jV]⟩
 rintro ρ H' ⟨rfl,k,h14,hk,h5⟩;refine W.vs ?_;by_cases hb:(k:Int)<x.F.length
 ·obtain⟨q,hq⟩:=az (l:=x.F) (i:=k) U;obtain⟨j,rfl,y,hy⟩:=nP (l:=ns) (hin q (an hq)).1 (hin q (an hq)).2;have hne2:=bb hq;have hj:(j:Int)<ns.length:=by have:=aG hy;omega
  have e0:=gO hy;have pk:(aY ns x)[k]?=some y.J:=by
   rw[show (aY ns x)[k]?=_ from xf hq,Int.toNat_natCast,cB (dk hy)]
  have b1:=(hs.take (k+1)).prod;rw[aO pk,fO]at b1;have w1:=PW ((k:Int)+1) U;have w2:=PW (au ((aY ns x).take k)*y.J) U;simp only[go_sem,h14,h5,hb,hq,hne,hne2,hj,e0,w1,w2];exact⟨⟨k+1,Tu,U,by rw[aO pk,fO]⟩,U⟩
 ·simp only[go_sem,h14,h5,hb];rw[PY U];exact aw.mk Tx hK
def bV (l:List Int):Nat:=l.foldl (fun s p=>s |||2 ^ p.toNat) 0
def MW (l:List Int):∀(s i:Nat),(l.foldl (fun s p=>s |||2 ^ p.toNat) s).testBit i=(s.testBit i ||l.any fun p=>p.toNat == i):=by
 induction l with
 |nil=>intro s i;simp
 |cons p l ih =>
  intro s i;simp only[Q9,ih,Rm,SG,List.any_cons];rw[Bool.or_assoc];congr 1
def jW (h:∀p∈l,0<=p)(i:Nat):(bV l).testBit i=decide ((i:Int)∈l):=by
 unfold bV;rw[MW];simp only[Q5,Te];rw[RQ];simp only[List.any_eq_true,beq_iff_eq,decide_eq_true_eq];constructor
 ·rintro⟨p,hp,rfl⟩;have:=h p hp;rw[Int.toNat_of_nonneg this];exact hp
 ·intro hi;exact⟨_,hi,Tu⟩
def wL (l:List Int)(p:Int):bV (l++[p])=bV l |||2 ^ p.toNat:=by unfold bV;rw[Rf];rfl
def wM (h:∀i,m.testBit i=true->i<n):m<2 ^ n:=by
 apply S8;intro i hi;rcases QX (m.testBit i) with e|e
 ·exact absurd (h i e) (U)
 ·exact e
def pW (h:∀p∈l,0<=p/\p<n):bV l<2 ^ n:=wM fun i hi=>by
 rw[jW fun p hp=>(h p hp).1]at hi;have:=(h _ (of_decide_eq_true hi)).2;omega
def kW (h:m<2 ^ n)(hi:m.testBit i=true):i<n:=by
 rcases Ql i n with h'|h'
 ·exact h'
 ·rw[Sz (P5 h (Qu Tv h'))]at hi;cases hi
def Sub (s t:Nat):Prop:=∀i,s.testBit i=true->t.testBit i=true
def Sub.refl (s:Nat):Sub s s:=fun _ h=>h
def Sub.trans {s u:Nat}(h:Sub s t)(h':Sub t u):Sub s u:=fun i hi=>h' i (h i hi)
def Sub.or {s u:Nat}(h:Sub s u)(h':Sub t u):Sub (s |||t) u:=fun i hi=>by
 rw[Rm,Q4]at hi;exact hi.elim (h i) (h' i)
def Sub.left (s t:Nat):Sub s (s |||t):=fun i hi=>by rw[Rm,hi];rfl
def Sub.right (s t:Nat):Sub t (s |||t):=fun i hi=>by rw[Rm,hi];simp
def Sub.antisymm {s:Nat}(h:Sub s t)(h':Sub t s):s=t:=Rl fun i=>by
 rw[RQ];exact⟨h i,h' i⟩
def A7 {b:Nat}(ha:a<2 ^ 64):fH a b=0↔Sub a b:=by
 constructor
 ·intro h i hi;have:=xw (a:=a) (b:=b) (i:=i) ha;rw[h,Q5,hi]at this;simpa using this.symm
 ·intro h;apply Rl;intro i;rw[xw ha,Q5];cases hi:a.testBit i
  ·rfl
  ·rw[h i hi];rfl
def eF (ps:List Nat)(s v:Nat):Nat:=if s.testBit v=true then s |||ps.getD v 0 else s
def ed (ps:List Nat)(s:Nat):Nat:=(List.range ps.length).foldl (eF ps) s
def dD (ps:List Nat):Nat->Nat->Nat
 |0,s=>s
 |k+1,s=>ed ps (dD ps k s)
def fC (ps:List Nat)(s:Nat):Nat:=dD ps ps.length s
def jX (ps:List Nat):Prop:=∀v,v<ps.length->(fC ps (ps.getD v 0)).testBit v=false
def kX (ps:List Nat)(t:Nat):Prop:=∀v,v<ps.length->t.testBit v=true->Sub (ps.getD v 0) t
def A8 (ps:List Nat)(s v:Nat):Sub s (eF ps s v):=by unfold eF;split;exact .left _ _;exact .refl _
def A9 (ps:List Nat)(l:List Nat):∀s,Sub s (l.foldl (eF ps) s):=by
 induction l with
 |nil=>exact fun s=>.refl s
 |cons v l ih=>exact fun s=>(A8 ps s v).trans (ih _)
def wN (ps:List Nat)(s:Nat):Sub s (ed ps s):=A9 ps _ s
def MX (hc:kX ps t)(l:List Nat)(hl:∀v∈l,v<ps.length):∀s,Sub s t->Sub (l.foldl (eF ps) s) t:=by
 induction l with
 |nil=>exact fun s h=>h
 |cons v l ih =>
  intro s h;refine ih (fun v hv=>hl v (by simp[hv])) _ ?_;unfold eF;split
  ·rename_i hv;exact h.or (hc v (hl v Tu) (h v hv))
  ·exact h
def MY (hc:kX ps t){s:Nat}(h:Sub s t):Sub (ed ps s) t:=MX hc _ (fun v hv=>QN.1 hv) s h
def s9 (hc:kX ps t)(k:Nat){s:Nat}(h:Sub s t):Sub (dD ps k s) t:=by
 induction k with
 |zero=>exact h
 |succ k ih=>exact MY hc ih
def wO (ps:List Nat)(k s:Nat):Sub s (dD ps k s):=by
 induction k with
 |zero=>exact .refl _
 |succ k ih=>exact ih.trans (wN _ _)
def MZ {s:Nat}(h:ed ps s=s):kX ps s:=by
 intro v hv hs;have key:∀(l:List Nat) (s0:Nat),v∈l->s0.testBit v=true->Sub (ps.getD v 0) (l.foldl (eF ps) s0):=by
  intro l
  induction l with
  |nil=>intro s0 h;cases h
  |cons u l ih =>
   intro s0 hm hb;rcases List.mem_cons.1 hm with rfl|hm
   ·refine Sub.trans ?_ (A9 ps l _);unfold eF;rw[PZ hb];exact .right _ _
   ·exact ih _ hm (A8 ps s0 u v hb)
 have:=key (List.range ps.length) s (QN.2 hv) hs;unfold ed at h
 rwa [h]at this
def cM (n s:Nat):Nat:=(List.range n).countP fun i=>s.testBit i
def Ba (n s:Nat):cM n s<=n:=by have:=List.countP_le_length (p:=fun i=>s.testBit i) (l:=List.range n);simpa[cM] using this
def M1 {l:List Nat}{p q:Nat->Bool}(h:∀x∈l,p x=true->q x=true)(ha:a∈l)(hp:p a=false)(hq:q a=true):l.countP p<l.countP q:=by
 induction l with
 |nil=>cases ha
 |cons x l ih =>
  have hm:l.countP p<=l.countP q:=List.countP_mono_left fun y hy=>h y (by simp[hy]);rcases List.mem_cons.1 ha with rfl|ha
  ·rw[Rs,Rs,hp,hq];simp;omega
  ·have:=ih (fun y hy=>h y (by simp[hy])) ha;have hx:=h x Tu;rw[Rs,Rs];cases hpx:p x
   ·simp;omega
   ·rw[hx hpx];simp;omega
def pX {s:Nat}(h:Sub s t)(hi:i<n)(h0:s.testBit i=false)(h1:t.testBit i=true):cM n s<cM n t :=
 M1 (fun x _ hx=>h x hx) (QN.2 hi) h0 h1
def M3 (hp:∀p∈ps,p<2 ^ ps.length){s:Nat}(hs:s<2 ^ ps.length):kX ps (fC ps s):=by
 have hb:∀k,dD ps k s<2 ^ ps.length:=fun k=>by
  have ht:kX ps (2 ^ ps.length-1):=fun v _ _ i hi=>by
   rw[Ro];have:ps.getD v 0<2 ^ ps.length:=by
    rw[QD];cases h:ps[v]? with
    |none=>exact S3 _
    |some p=>exact hp p (an h)
   simpa using kW this hi
  have:=s9 ht k (s:=s) fun i hi=>by rw[Ro];simpa using kW hs hi
  exact wM fun i hi=>by have:=this i hi;rw[Ro]at this;simpa using this
 have key:∀k,ed ps (dD ps k s)=dD ps k s\/k+1<=cM ps.length (dD ps k s):=by
  have grow:∀t,t<2 ^ ps.length->ed ps t<2 ^ ps.length->ed ps t≠t->cM ps.length t<cM ps.length (ed ps t):=fun t ht ht' hne=>by
   have:∃i,(ed ps t).testBit i=true/\t.testBit i=false:=by
    refine QA fun hno=>hne (Sub.antisymm (fun i hi=>?_) (wN ps t));rcases QX (t.testBit i) with e|e
    ·exact e
    ·exact absurd ⟨i,hi,e⟩ hno
   obtain⟨i,h1,h0⟩:=this;exact pX (wN ps t) (kW ht' h1) h0 h1
  intro k
  induction k with
  |zero =>
   by_cases h0:s=0
   ·left;subst h0;show ed ps 0=0;unfold ed;have:∀l:List Nat,l.foldl (eF ps) 0=0:=fun l=>by
     induction l with
     |nil=>rfl
     |cons v l ih=>simp only[Q9,eF,Q5,Bool.false_eq_true,if_false];exact ih
    exact this _
   ·right;obtain⟨i,hi⟩:=Nat.exists_testBit_of_ne_zero h0;have:cM ps.length 0<cM ps.length s:=pX (fun j hj=>by rw[Q5]at hj;cases hj) (kW hs hi) (Q5 i) hi;show 0+1<=cM ps.length s;omega
  |succ k ih =>
   rcases ih with ih|ih
   ·left;show ed ps (ed ps (dD ps k s))=ed ps (dD ps k s);rw[ih];exact ih
   ·by_cases hf:ed ps (dD ps k s)=dD ps k s
    ·left;show ed ps (ed ps (dD ps k s))=ed ps (dD ps k s);rw[hf];exact hf
    ·right;have:=grow _ (hb k) (hb (k+1)) hf;show k+1+1<=cM ps.length (ed ps (dD ps k s));omega
 rcases key ps.length with h|h
 ·exact MZ h
 ·have:=Ba ps.length (dD ps ps.length s);omega
def gQ (ps:List Nat)(done v:Nat):Bool:=!done.testBit v && decide (fH (ps.getD v 0) done=0)
def iL (ps:List Nat)(done:Nat):Option Nat:=(List.range ps.length).find? (gQ ps done)
def fD (ps:List Nat):Nat->List Nat->Nat->Option (List Nat)
 |0,out,_=>some out
 |k+1,out,done=>match iL ps done with
  |none=>none
  |some v=>fD ps k (out++[v]) (done |||2 ^ v)
def dO (ps:List Nat):Option (List Nat):=fD ps ps.length [] 0
def wQ {v:Nat}(hp:∀p∈ps,p<2 ^ 64)(h:iL ps done=some v):v<ps.length/\done.testBit v=false/\Sub (ps.getD v 0) done:=by
 unfold iL at h;have h1:=List.mem_of_find?_eq_some h;have h2:=List.find?_some h;unfold gQ at h2;simp only[Qj,SQ,decide_eq_true_eq]at h2;have hv:=QN.1 h1;refine⟨hv,h2.1,(A7 ?_).1 h2.2⟩;rw[QD];cases h:ps[v]? with
 |none=>decide
 |some p=>exact hp p (an h)
def M4 (hp:∀p∈ps,p<2 ^ 64)(h:iL ps done=none):∀v,v<ps.length->done.testBit v=true\/¬Sub (ps.getD v 0) done:=by
 intro v hv;unfold iL at h;rw[List.find?_eq_none]at h;have:=h v (QN.2 hv);unfold gQ at this;rcases QX (done.testBit v) with e|e
 ·exact .inl e
 ·right;intro hs;refine this ?_;rw[e,(A7 ?_).2 hs]
  ·simp
  ·rw[QD];cases h:ps[v]? with
   |none=>decide
   |some p=>exact hp p (an h)
def fP (d v i:Nat):(d |||2 ^ v).testBit i=(d.testBit i ||decide (v=i)):=by rw[Rm,SG]
def M5 (hp:∀p∈ps,p<2 ^ 64):∀(k:Nat) (out:List Nat) (done:Nat) (r:List Nat),fD ps k out done=some r->k+cM ps.length done=ps.length ->
  kX ps done->(∀v,v<ps.length->done.testBit v=true->(fC ps (ps.getD v 0)).testBit v=false)->jX ps:=by
 intro k
 induction k with
 |zero =>
  intro out done r _ hc hcl hall v hv;refine hall v hv ?_;rcases QX (done.testBit v) with e|e
  ·exact e
  ·have:cM ps.length done<cM ps.length (2 ^ ps.length-1 |||done):=pX (.right _ _) hv e (by rw[Rm,Ro];simp[hv]);have:=Ba ps.length (2 ^ ps.length-1 |||done);omega
 |succ k ih =>
  intro out done r h hc hcl hall;unfold fD at h;split at h
  ·cases h
  ·rename_i v hn;obtain⟨h1,h2,h3⟩:=wQ hp hn;refine ih _ _ _ h ?_ ?_ ?_
   ·have:cM ps.length (done |||2 ^ v)=cM ps.length done+1:=by
     unfold cM;have:∀l:List Nat,l.Nodup->v∈l->l.countP (fun i=>(done |||2 ^ v).testBit i)=l.countP (fun i=>done.testBit i)+1:=by
      intro l
      induction l with
      |nil=>intro _ h;cases h
      |cons x l ihl =>
       intro hnd hmem;obtain⟨g1,g2⟩:=Sm.1 hnd;rw[Rs,Rs];rcases List.mem_cons.1 hmem with rfl|hm2
       ·have:l.countP (fun i=>(done |||2 ^ v).testBit i)=l.countP (fun i=>done.testBit i):=List.countP_congr fun y hy=>by
         have:¬v=y:=(by rintro rfl;exact g1 hy);simp[fP,this]
        rw[this];simp[fP,h2]
       ·have hx:¬v=x:=(by rintro rfl;exact g1 hm2);rw[ihl g2 hm2];simp[fP,hx];omega
     exact this _ SZ (QN.2 h1)
    omega
   ·intro u hu hb;rw[fP,Q4,decide_eq_true_eq]at hb;rcases hb with hb|rfl
    ·exact(hcl u hu hb).trans (.left _ _)
    ·exact h3.trans (.left _ _)
   ·intro u hu hb;rw[fP,Q4,decide_eq_true_eq]at hb;rcases hb with hb|rfl
    ·exact hall u hu hb
    ·have:=s9 hcl ps.length h3;rcases QX ((fC ps (ps.getD v 0)).testBit v) with e|e
     ·have:=this v e;rw[h2]at this;cases this
     ·exact e
def M6 (hp:∀p∈ps,p<2 ^ ps.length)(h64:ps.length<=64)(ha:jX ps):∀(k:Nat) (out:List Nat) (done:Nat),k+cM ps.length done=ps.length->∃r,fD ps k out done=some r:=by
 have hp64:∀p∈ps,p<2 ^ 64:=fun p h=>P5 (hp p h) (Qu Tv h64);have hpd:∀v,ps.getD v 0<2 ^ ps.length:=fun v=>by
  rw[QD];cases h:ps[v]? with
  |none=>exact S3 _
  |some p=>exact hp p (an h)
 intro k
 induction k with
 |zero=>exact fun out done _=>⟨out,rfl⟩
 |succ k ih =>
  intro out done hc;unfold fD;cases hn:iL ps done with
  |none =>
   exfalso;have hno:=M4 hp64 hn
      -- every node that is left has a parent that is left
   have step:∀m v,v<ps.length->done.testBit v=false->cM ps.length (fC ps (ps.getD v 0))<=m->False:=by
    intro m
    induction m with
    |zero =>
     intro v hv hd hm;obtain⟨i,h1,h2⟩:∃i,(ps.getD v 0).testBit i=true/\done.testBit i=false:=by
      rcases hno v hv with h|h
      ·rw[hd]at h;cases h
      ·refine QA fun hc=>h fun i hi=>?_;rcases QX (done.testBit i) with e|e
       ·exact e
       ·exact absurd ⟨i,hi,e⟩ hc
     have:cM ps.length 0<cM ps.length (fC ps (ps.getD v 0)):=pX (fun j hj=>by rw[Q5]at hj;cases hj) (kW (hpd v) h1) (Q5 i) (wO ps _ _ i h1);omega
    |succ m ihm =>
     intro v hv hd hm;obtain⟨u,h1,h2⟩:∃i,(ps.getD v 0).testBit i=true/\done.testBit i=false:=by
      rcases hno v hv with h|h
      ·rw[hd]at h;cases h
      ·refine QA fun hc=>h fun i hi=>?_;rcases QX (done.testBit i) with e|e
       ·exact e
       ·exact absurd ⟨i,hi,e⟩ hc
     have hu:=kW (hpd v) h1;have hcl:=M3 hp (hpd v);have hin:(fC ps (ps.getD v 0)).testBit u=true:=wO ps _ _ u h1;have hsub:Sub (fC ps (ps.getD u 0)) (fC ps (ps.getD v 0)):=s9 hcl _ (hcl u hu hin);have:=pX hsub hu (ha u hu) hin;exact ihm u hu h2 (U)
   obtain⟨v,hv,hd⟩:∃v,v<ps.length/\done.testBit v=false:=by
    refine QA fun hno=>?_;have:cM ps.length done=ps.length:=by
     unfold cM
     conv=>rhs;rw[<- RD (n:=ps.length)]
     rw[List.countP_eq_length];intro x hx;rcases QX (done.testBit x) with e|e
     ·exact e
     ·exact absurd ⟨x,QN.1 hx,e⟩ hno
    omega
   exact step _ v hv hd (Nat.le_refl _)
  |some v =>
   obtain⟨h1,h2,h3⟩:=wQ hp64 hn;refine ih _ _ ?_;have:cM ps.length (done |||2 ^ v)=cM ps.length done+1:=by
    unfold cM;have:∀l:List Nat,l.Nodup->v∈l->l.countP (fun i=>(done |||2 ^ v).testBit i)=l.countP (fun i=>done.testBit i)+1:=by
     intro l
     induction l with
     |nil=>intro _ h;cases h
     |cons x l ihl =>
      intro hnd hmem;obtain⟨g1,g2⟩:=Sm.1 hnd;rw[Rs,Rs];rcases List.mem_cons.1 hmem with rfl|hm2
      ·have:l.countP (fun i=>(done |||2 ^ v).testBit i)=l.countP (fun i=>done.testBit i):=List.countP_congr fun y hy=>by
        have:¬v=y:=(by rintro rfl;exact g1 hy);simp[fP,this]
       rw[this];simp[fP,h2]
      ·have hx:¬v=x:=(by rintro rfl;exact g1 hm2);rw[ihl g2 hm2];simp[fP,hx];omega
    exact this _ SZ (QN.2 h1)
   omega
def Bc (n:Nat):cM n 0=0:=by
 unfold cM;rw[List.countP_eq_zero];intro x _;simp
def Bd (hp:∀p∈ps,p<2 ^ ps.length)(h64:ps.length<=64):(dO ps).isSome=true↔jX ps:=by
 have hp64:∀p∈ps,p<2 ^ 64:=fun p h=>P5 (hp p h) (Qu Tv h64);constructor
 ·intro h;obtain⟨r,hr⟩:=Qy.1 h;exact M5 hp64 _ _ _ r hr (by rw[Bc];omega) (fun v _ h=>by rw[Q5]at h;cases h) (fun v _ h=>by rw[Q5]at h;cases h)
 ·intro h;obtain⟨r,hr⟩:=M6 hp h64 h ps.length [] 0 (by rw[Bc];omega);unfold dO;rw[hr];rfl
end Go.Proofs
namespace Go.Hx
def fj (l:List Nat):Ty:=.M l.length (l.map bj)
attribute [go_sem] bj fj
def ay.ON {S:Nat->Prop}{lo nx:Nat}{H:Tz}{e:TypeId}{v:Ty}{l:List Nat}(h:ay lo H e v (l.map bj))(hS:∀i,lo<=i->S i):Fz S H nx v (fj l):=by
 have:=h.fz (S:=S) (nx:=nx) (cs':=l.map bj) hS rfl fun i hi _=>by simp only[P4];exact .lit _
 rw[P8]at this;exact this
end Go.Hx
namespace Go.Proofs
open Go.Hx
variable {g:Int}{ps:List Nat}{ns:List TA}{x:TA}
def B6 {H H':Tz}{v:Ty}{l:List Nat}(x:Nat)(ov:TC H H')(h:ay H.C H' 36 v (l.map bj))(hl:l.length<2 ^ 40):
  ∃v' H2,bd Try.prog (ext H' [.L 0 36 [.lit (.int .u64 (x:Int))]]) (H'.C+1) 98 98 v (.V H'.C 0 0 1 1)=some (v',H2)/\TC H H2/\ay H.C H2 36 v' ((l++[x]).map bj)/\H'.C<=H2.C/\(∀k,k<H'.C->(∀g n,v≠.V k g 0 n 1)->H2.get k=H'.get k):=by
 obtain⟨v',H2,hA,hO,hn2,hp⟩:=gG (P:=Try.prog) (H:=H') (t:=98) (x:=bj x) (n:=H'.C+1) Try.underlying98 Try.AV Try.AY rfl (by rw[Try.AW,P8];omega) h ov.C rfl;simp only[bj]at hA;exact⟨v',H2,hA,mb ov h hn2 hp,by rw[Q2];exact hO,hn2,hp⟩
def xi (m v:Nat)(hm:m<2 ^ 64)(hv:v<2 ^ 62)(H:Tz)(K:TF->Tz->Prop)(hK:K (.ret (.lit (.bool (m.testBit v)))) H):af Try.prog G0 95 [bj m,aa v] H K:=by
 refine af.st (n:=11) (rs:=[.tmp 4]) Try.func95 ?_;have w1:=RY (v:Int) U;have s1:=fun t x y=>mg (P:=Try.prog) (t:=t) (x:=x) (y:=y) (k':=.u64) (s:=v) hm;have s2:=fun t x y=>tO (P:=Try.prog) (t:=t) (x:=x) (y:=y) (s:=v) hm;cases hb:m.testBit v
 ·rw[hb]at hK;simp only[go_sem,w1,s1,s2,hb];exact aw.mk Tx hK
 ·rw[hb]at hK;simp only[go_sem,w1,s1,s2,hb];exact aw.mk Tx hK
def aX (ns:List TA):List Nat:=ns.map fun x=>bV x.F
def kh {k:Nat}(h:ns[k]?=some x):(aX ns)[k]?=some (bV x.F):=by unfold aX;rw[List.getElem?_map,h];rfl
def B7 (g:Int)(ns:List TA)(hl:(ns.length:Int)<2 ^ 39)(hp:∀x∈ns,(x.F.length:Int)<2 ^ 39/\∀q∈x.F,0<=q/\q<64)(H:Tz)(K:TF->Tz->Prop)
  (hK:K (.ret (fj (aX ns))) H):af Try.prog G0 42 [bR g ns] H K:=by
 refine af.nl ⟨_,Try.func42,rfl,rfl⟩ fun hcl=>?_;refine af.st (n:=43) (rs:=[.tmp 2]) Try.func42 ?_;simp only[go_sem,bR,cz];obtain⟨H1,hH1⟩:∃H1,H1=ext H [.L 0 64 [.lit (.int .i64 g),.M ns.length (aI ns)]]:=⟨_,rfl⟩
 have l1:H1.Z H.C 0=some (64,[.lit (.int .i64 g),.M ns.length (aI ns)]):=by rw[hH1];exact ae (cW ..)
 have n1:H1.C=H.C+1:=hH1▸rfl
 have o1:TC H H1:=hH1▸.ext _ _
 rw[<- hH1];refine W.aM 4398046511096 (by rfl) (fun ρ H'=>∃k:Nat,ρ 4=aa k/\k<=ns.length/\ρ 1=.Y H.C 0 0/\TC H1 H'/\ay H1.C H' 36 (ρ 3) (((aX ns).take k).map bj)) (fun ρ H=>ns.length-(iv (ρ 4)).toNat) ?_ ?_
 ·simp only[go_sem];exact⟨0,rfl,U,.refl _,.nil⟩
 rintro ρ H' ⟨k,h4,hk,h1,ov,h3⟩;refine W.vs ?_;have l2:=(ov.Z (g:=0) (by omega:H.C<H1.C)).trans l1;by_cases hb:(k:Int)<ns.length
 ·obtain⟨x,hx⟩:=az (l:=ns) (i:=k) U;have hne:=dN hx;have e1:=jT hx;obtain⟨xl,xr⟩:=hp x (an hx);simp only[go_sem,h4,h1,l2,hb];refine W.aM 274877890656 (by rfl) (fun ρ' H2=>H2=H'/\∃j:Nat,ρ' 6=aa j/\j<=x.F.length/\ρ' 5=bj (bV (x.F.take j))) (fun ρ' H=>x.F.length-(iv (ρ' 6)).toNat) ?_ ?_
  ·simp only[go_sem];exact⟨0,rfl,U,rfl⟩
  rintro ρ' H2 ⟨rfl,j,h6,hj,h5⟩;refine W.vs ?_;by_cases hb2:(j:Int)<x.F.length
  ·obtain⟨q,hq⟩:=az (l:=x.F) (i:=j) U;obtain⟨q0,q1⟩:=xr q (an hq);obtain⟨u,rfl⟩:=Qb q0;have hne2:=bb hq;have w1:=RY (u:Int) U;have w2:=PW ((j:Int)+1) U;have b1:bV (x.F.take j)<2 ^ 64:=pW fun p hp=>by have:=xr p (Qk hp);omega
   have s1:=fun t x y=>mh (P:=Try.prog) (t:=t) (x:=x) (y:=y) (k':=.u64) (s:=u) U;have s2:=fun t x y=>js (P:=Try.prog) (t:=t) (x:=x) (y:=y) (b:=2 ^ u) b1 (Ra Tv U);simp only[go_sem,h4,h1,l2,hb,hne,e1,h6,h5,hb2,hq,hne2,w1,w2,s1,s2];exact⟨⟨j+1,Tu,U,by rw[aO hq,wL];rfl⟩,U⟩
  ·obtain⟨v',H3,hA,ov2,hO,hn2,_⟩:=B6 (bV x.F) ov h3 (by simp[aX];omega);have w1:=PW ((k:Int)+1) U;rw[PY U]at h5;simp only[go_sem,h4,h1,l2,hb,hne,e1,h6,h5,hb2,w1,hA];refine⟨by have:=ov2.C;omega,⟨k+1,Tu,U,ov2,?_⟩,U⟩;rw[aO (kh hx)];exact hO
 ·simp only[go_sem,h4,h1,l2,hb];rw[PY (by simp[aX];omega)]at h3;exact aw.bJ aT hcl (o1.trans ov) (h3.ON fun i hi=>U) hK
def B8 (hp:∀p∈ps,p<2 ^ 64)(l:List Nat):∀s,s<2 ^ 64->l.foldl (eF ps) s<2 ^ 64:=by
 induction l with
 |nil=>exact fun s h=>h
 |cons v l ih =>
  intro s h;refine ih _ ?_;unfold eF;split
  ·refine RC h ?_;rw[QD];cases h:ps[v]? with
   |none=>decide
   |some p=>exact hp p (an h)
  ·exact h
theorem xj (hp:∀p∈ps,p<2 ^ 64){s:Nat}(hs:s<2 ^ 64):∀k,dD ps k s<2 ^ 64
 |0=>hs
 |k+1=>B8 hp _ _ (xj hp hs k)
def OO (ps:List Nat)(s:Nat)(hl:(ps.length:Int)<2 ^ 39)(hp:∀p∈ps,p<2 ^ 64)(hs:s<2 ^ 64)(H:Tz)(K:TF->Tz->Prop)(hK:K (.ret (bj (fC ps s))) H):af Try.prog G0 96 [fj ps,bj s] H K:=by
 refine af.st (n:=29) (rs:=[.tmp 4]) Try.func96 ?_;simp only[go_sem];refine W.aM 268435426 (by rfl) (fun ρ H'=>H'=H/\∃k:Nat,ρ 5=aa k/\k<=ps.length/\ρ 1=bj (dD ps k s)) (fun ρ H=>ps.length-(iv (ρ 5)).toNat) ?_ ?_
 ·simp only[go_sem];exact⟨0,rfl,U,rfl⟩
 rintro ρ H' ⟨rfl,k,h5,hk,h1⟩;refine W.vs ?_;by_cases hb:(k:Int)<ps.length
 ·simp only[go_sem,h5,hb];refine W.aM 268427330 (by rfl) (fun ρ' H2=>H2=H'/\∃j:Nat,ρ' 6=aa j/\j<=ps.length/\ρ' 1=bj ((List.range j).foldl (eF ps) (dD ps k s))) (fun ρ' H=>ps.length-(iv (ρ' 6)).toNat) ?_ ?_
  ·simp only[go_sem,h1];exact⟨0,rfl,U,rfl⟩
  rintro ρ' H2 ⟨rfl,j,h6,hj,h1'⟩;refine W.vs ?_;by_cases hb2:(j:Int)<ps.length
  ·obtain⟨p,hpj⟩:=az (l:=ps) (i:=j) U;have hne:=bb hpj;have b1:=B8 hp (List.range j) _ (xj hp hs k);have w2:=PW ((j:Int)+1) U;have hst:(List.range (j+1)).foldl (eF ps) (dD ps k s)=eF ps ((List.range j).foldl (eF ps) (dD ps k s)) j:=(by rw[Rg,Rf];rfl);have s2:=fun t x y=>js (P:=Try.prog) (t:=t) (x:=x) (y:=y) b1 (hp p (an hpj));obtain⟨m,hm⟩:∃m,m=(List.range j).foldl (eF ps) (dD ps k s):=⟨_,rfl⟩
   rw[<- hm]at b1 h1' hst s2;simp only[go_sem,h6,h1',hb2];refine aE.nl (xi m j b1 U _ _ ⟨trivial,?_⟩);cases hbit:m.testBit j
   ·simp only[go_sem,h6,h1',w2];exact⟨⟨j+1,Tu,U,by rw[hst];unfold eF;rw[hbit];rfl⟩,U⟩
   ·simp only[go_sem,h6,h1',w2,hb2,hpj,hne,s2];exact⟨⟨j+1,Tu,U,by rw[hst];unfold eF;rw[hbit,PZ rfl,cB hpj]⟩,U⟩
  ·have w2:=PW ((k:Int)+1) U;have ej:j=ps.length:=U;subst ej;simp only[go_sem,h6,h1',hb2,h5,w2];exact⟨⟨k+1,Tu,U,rfl⟩,U⟩
 ·simp only[go_sem,h5,h1,hb];have ek:k=ps.length:=U
  subst ek;exact aw.mk Tx hK
def qq (ps:List Nat):Bool:=(List.range ps.length).all fun v=>!(fC ps (ps.getD v 0)).testBit v
def tH (ps:List Nat):qq ps=true↔jX ps:=by
 unfold qq jX;simp only[Qt,QN,SQ]
def OP (ps:List Nat)(hl:(ps.length:Int)<2 ^ 39)(hp:∀p∈ps,p<2 ^ 64)(H:Tz)(K:TF->Tz->Prop)(hK:K (.ret (.lit (.bool (qq ps)))) H):af Try.prog G0 75 [fj ps] H K:=by
 have no:¬qq ps=true->aw Try.prog G0 H K (.lit (.bool false)) H:=fun h=>aw.mk Tx (by rw[Bool.eq_false_iff.2 h]at hK;exact hK);refine af.st (n:=18) (rs:=[.tmp 2]) Try.func75 ?_;simp only[go_sem];refine W.aM 262140 (by rfl) (fun ρ H'=>H'=H/\∃k:Nat,ρ 3=aa k/\k<=ps.length/\∀v,v<k->(fC ps (ps.getD v 0)).testBit v=false) (fun ρ H=>ps.length-(iv (ρ 3)).toNat) ?_ ?_
 ·simp only[go_sem];exact⟨0,rfl,U,fun v h=>absurd h (Qf _)⟩
 rintro ρ H' ⟨rfl,k,h3,hk,ha⟩;refine W.vs ?_;by_cases hb:(k:Int)<ps.length
 ·obtain⟨p,hpk⟩:=az (l:=ps) (i:=k) U;have hne:=bb hpk;have hp1:=hp p (an hpk);simp only[go_sem,h3,hb,hpk,hne];refine aE.nl (OO ps p hl hp hp1 _ _ ⟨trivial,?_⟩);simp only[go_sem,h3];refine aE.nl (xi (fC ps p) k (xj hp hp1 _) U _ _ ⟨trivial,?_⟩);have w2:=PW ((k:Int)+1) U;cases hbit:(fC ps p).testBit k
  ·simp only[go_sem,h3,w2];refine⟨⟨k+1,Tu,U,fun v hv=>?_⟩,U⟩;rcases Ql v k with h|h
   ·exact ha v h
   ·obtain rfl:v=k:=U;rw[cB hpk];exact hbit
  ·simp only[go_sem];refine no fun h=>?_;have:=(tH ps).1 h k U;rw[cB hpk,hbit]at this;cases this
 ·simp only[go_sem,h3,hb];rw[(tH ps).2 fun v hv=>ha v U]at hK;exact aw.mk Tx hK
def ik (g J:Int)(r:List Int):Prop:=(r.length:Int)=J/\(∀w∈r,0<=w/\w<=g)/\r.sum=g
def fk (g:Int)(ns:List TA)(x:TA):Prop:=(x.O.length:Int)=au (aY ns x)/\∀r∈x.O,ik g x.J r
structure TX (g:Int)(ns:List TA):Prop where
 g1:1<=g/\g<=60
 n1:1<=ns.length/\ns.length<=8
 node:∀x∈ns,(1<=x.J/\x.J<=4)/\bI x.F ns.length
 size:au (aA ns)<=1024
 acyc:jX (aX ns)
 O:∀x∈ns,fk g ns x
noncomputable def lb (g:Int)(ns:List TA):Bool:=@decide (TX g ns) (Classical.propDecidable _)
def qt (h:TX g ns):lb g ns=true:=by unfold lb;exact @decide_eq_true _ (Classical.propDecidable _) h
def qu (h:¬TX g ns):lb g ns=false:=by unfold lb;exact @decide_eq_false _ (Classical.propDecidable _) h
def nZ (ns:List TA):Prop:=(ns.length:Int)<2 ^ 38/\∀x∈ns,(x.F.length:Int)<2 ^ 38/\(x.O.length:Int)<2 ^ 38/\∀r∈x.O,(r.length:Int)<2 ^ 38
def qv {l:List Int}(h:l.length<=12)(h2:∀x∈l,1<=x/\x<=4):eH l:=⟨h,fun x hx=>by have:=h2 x hx;omega⟩
def me (hin:jq x.F ns.length)(hc:∀y∈ns,1<=y.J/\y.J<=4):∀c∈aY ns x,1<=c/\c<=4:=fun c h=>by
 unfold aY bc at h;obtain⟨q,hq,rfl⟩:=Qm.1 h;obtain⟨j,rfl,y,hy⟩:=nP (l:=ns) (hin q hq).1 (hin q hq).2;rw[Int.toNat_natCast,cB (dk hy)];exact hc y (an hy)
def ki (h8:ns.length<=8)(hp:bI x.F ns.length)(hc:∀y∈ns,1<=y.J/\y.J<=4):eH (aY ns x):=by
 refine qv ?_ (me (fun q hq=>by have:=hp.2 q hq;omega) hc);rw[show (aY ns x).length=_ from kg _ _];have:=hp.len;omega
def tI {n:Nat}(h:∀x∈ns,∀q∈x.F,0<=q/\q<(n:Int)):∀p∈aX ns,p<2 ^ n:=fun p hp=>by
 obtain⟨x,hx,rfl⟩:=Qm.1 hp;exact pW fun q hq=>by have:=h x hx q hq;omega
def tJ (l:List Int)(x:Int):(l++[x]).sum=l.sum+x:=Tu
def B9 (g:Int)(ns:List TA)(hf:nZ ns)(H:Tz)(K:TF->Tz->Prop)(hK:K (.ret (.lit (.bool (lb g ns)))) H):af Try.prog G0 31 [bR g ns] H K:=by
 refine af.nl ⟨_,Try.func31,rfl,rfl⟩ fun hcl=>?_;have no:¬TX g ns->∀H',TC H H'->aw Try.prog G0 H K (.lit (.bool false)) H':=fun h H' ov=>aw.bJ aT hcl ov (.lit _) (by rw[qu h]at hK;exact hK);refine af.st (n:=154) (rs:=[.tmp 2]) Try.func31 ?_;simp only[go_sem,bR,cz];obtain⟨H1,hH1⟩:∃H1,H1=ext H [.L 0 64 [.lit (.int .i64 g),.M ns.length (aI ns)]]:=⟨_,rfl⟩
 have l1:H1.Z H.C 0=some (64,[.lit (.int .i64 g),.M ns.length (aI ns)]):=by rw[hH1];exact ae (cW ..)
 have n1:H1.C=H.C+1:=hH1▸rfl
 have o1:TC H H1:=hH1▸.ext _ _
 rw[<- hH1];by_cases c1:g<1
 ·simp only[go_sem,c1];exact no (fun h=>by have:=h.g1;omega) _ o1
 by_cases c2:g > 60
 ·simp only[go_sem,l1,c1,c2];exact no (fun h=>by have:=h.g1;omega) _ o1
 by_cases c3:(ns.length:Int)<1
 ·simp only[go_sem,l1,c1,c2,c3];exact no (fun h=>by have:=h.n1;omega) _ o1
 by_cases c4:(ns.length:Int) > 8
 ·simp only[go_sem,l1,c1,c2,c3,c4];exact no (fun h=>by have:=h.n1;omega) _ o1
 simp only[go_sem,l1,c1,c2,c3,c4];refine W.aM 18446744071562068028 (by rfl) (fun ρ H'=>∃k:Nat,ρ 4=aa k/\k<=ns.length/\TC H1 H'/\(∀x∈ns.take k,(1<=x.J/\x.J<=4)/\bI x.F ns.length)/\ρ 3=aa (au ((aA ns).take k))) (fun ρ H=>ns.length-(iv (ρ 4)).toNat) ?_ ?_
 ·simp only[go_sem];exact⟨0,rfl,U,.refl _,Tu,by simp[jV]⟩
 ·rintro ρ H' ⟨k,h4,hk,ov,hall,h3⟩;refine W.vs ?_;have l2:=(ov.Z (g:=0) (by omega:H.C<H1.C)).trans l1;have hlt:H.C<H'.C:=by have:=ov.C;omega
  have l3:∀L,(ext H' L).Z H.C 0=_:=fun L=>(dB hlt).trans l2;by_cases hb:(k:Int)<ns.length
  ·obtain⟨x,hx⟩:=az (l:=ns) (i:=k) U;have hxm:=an hx;have hne:=dN hx;have e0:=nO hx;have e1:k*3+3<=(aI ns).length:=(by rw[gM];omega);have nb:¬H.C=H'.C:=U;have ove:∀L,TC H (ext H' L):=fun L=>(o1.trans ov).trans (.ext _ _);by_cases d1:x.J<1
   ·simp only[go_sem,h4,l2,hb,hne,e0,e1,d1];exact no (fun h=>by have:=(h.node x hxm).1;omega) _ (ove _)
   by_cases d2:x.J > 4
   ·simp only[go_sem,h4,l2,hb,hne,e0,e1,d1,d2];exact no (fun h=>by have:=(h.node x hxm).1;omega) _ (ove _)
   simp only[go_sem,h4,l2,l3,hb,hne,e0,e1,d1,d2];refine aE.nl (B2 x.F ns.length (by have:=(hf.2 x hxm).1;omega) _ _ ⟨trivial,?_⟩);by_cases d3:bI x.F ns.length;rotate_left
   ·simp only[go_sem,d3];exact no (fun h=>d3 (h.node x hxm).2) _ (ove _)
   have hall':∀y∈ns.take (k+1),(1<=y.J/\y.J<=4)/\bI y.F ns.length:=fun y hy=>by
    rw[aO hx]at hy;rcases Qe.1 hy with hy|hy
    ·exact hall y hy
    ·obtain rfl:=List.mem_singleton.1 hy;exact⟨U,d3⟩
   have b1:eH ((aA ns).take (k+1)):=qv (by simp[aA];omega) fun c hc=>by
    rw[show (aA ns).take (k+1)=aA (ns.take (k+1)) by simp[aA]]at hc;obtain⟨y,hy,rfl⟩:=Qm.1 hc;exact(hall' y hy).1
   have b2:=b1.prod;rw[aO (dk hx),fO]at b2;have w1:=PW ((k:Int)+1) U;have w2:=PW (au ((aA ns).take k)*x.J) U;simp only[go_sem,h4,h3,d3,w1,w2];exact⟨by have:=ov.C;omega,⟨k+1,Tu,U,ov.trans (.ext _ _),fun y hy=>hall' y hy,by rw[aO (dk hx),fO]⟩,U⟩
  ·have ek:k=ns.length:=U;subst ek;rw[PY Tx]at hall;rw[PY (by rw[fS];omega)]at h3;have hcards:∀y∈ns,1<=y.J/\y.J<=4:=fun y hy=>(hall y hy).1;have ov0:=o1.trans ov;by_cases c5:au (aA ns) > 1024
   ·simp only[go_sem,h4,h3,l2,hb,c5];exact no (fun h=>by have:=h.size;omega) _ ov0
   simp only[go_sem,h4,h3,l2,hb,c5];have hpl:∀x∈ns,(x.F.length:Int)<2 ^ 39/\∀q∈x.F,0<=q/\q<64:=fun x hx=>⟨by have:=(hf.2 x hx).1;omega,fun q hq=>by have:=(hall x hx).2.2 q hq;omega⟩
   refine aE.nl (B7 g ns (by have:=hf.1;omega) hpl _ _ ⟨trivial,?_⟩);simp only[go_sem];refine aE.nl (OP (aX ns) (by simp[aX];omega) (fun p hp=>P5 (tI (n:=64) (fun x hx q hq=>by have:=(hpl x hx).2 q hq;omega) p hp) Tx) _ _ ⟨trivial,?_⟩);cases hac:qq (aX ns)
   ·simp only[go_sem];exact no (fun h=>by rw[(tH _).2 h.acyc]at hac;cases hac) _ ov0
   simp only[go_sem];refine W.aM 22835963083295358096932570788825439312478734276 (by rfl) (fun ρ' H2=>∃k:Nat,ρ' 6=aa k/\k<=ns.length/\TC H' H2/\∀x∈ns.take k,fk g ns x) (fun ρ' H=>ns.length-(iv (ρ' 6)).toNat) ?_ ?_
   ·simp only[go_sem];exact⟨0,rfl,U,.refl _,Tu⟩
   rintro ρ' H2 ⟨k,h6,hk,ov2',hrows⟩;have ov2:=ov.trans ov2';refine W.vs ?_;have l2:=(ov2.Z (g:=0) (by omega:H.C<H1.C)).trans l1;have hlt:H.C<H2.C:=(by have:=ov2.C;omega);by_cases hb:(k:Int)<ns.length;rotate_left
   ·simp only[go_sem,h6,l2,hb];rw[PY U]at hrows;rw[qt ⟨U,U,hall,U,(tH _).1 hac,hrows⟩]at hK;exact aw.bJ aT hcl (o1.trans ov2) (.lit _) hK
   obtain⟨x,hx⟩:=az (l:=ns) (i:=k) U;have hxm:=an hx;have hne:=dN hx;have e0:=nO hx;have e1:k*3+3<=(aI ns).length:=(by rw[gM];omega);obtain⟨x1,x2⟩:=hall x hxm;obtain⟨f1,f2,f3⟩:=hf.2 x hxm;have sm:=ki U x2 hcards;simp only[go_sem,h6,l2,hb,hne,e0,e1];obtain⟨H3,hH3⟩:∃H3,H3=ext H2 [.L 0 83 [.lit (.int .i64 x.J),.M x.F.length (ints x.F),av x.O]]:=⟨_,rfl⟩
   have m1:H3.Z H2.C 0=some (83,[.lit (.int .i64 x.J),.M x.F.length (ints x.F),av x.O]):=(by rw[hH3];exact ae (cW ..));have m2:H3.Z H.C 0=some (64,[.lit (.int .i64 g),.M ns.length (aI ns)]):=(by rw[hH3,dB hlt];exact l2);have m3:H3.C=H2.C+1:=(by rw[hH3];rfl);have ov3:TC H1 H3:=(by rw[hH3];exact ov2.trans (.ext _ _));have ov4:TC H H3:=o1.trans ov3;rw[<- hH3];refine W.dr 7 [0,1,3,0,0,24,56] Try.mixed ?_;simp only[go_sem,h6,m1,m2,av];refine⟨ag (aY ns x),[],cF.pure fun H2=>OM g ns k x hx (by have:=hf.1;omega) U (fun q hq=>by have:=x2.2 q hq;omega) H2 _ ⟨rfl,rfl⟩,?_⟩;simp only[go_sem];refine⟨aa (au (aY ns x)),[],cF.pure fun H2=>xe (aY ns x) sm H2 _ ⟨rfl,rfl⟩,?_⟩;by_cases d1:(x.O.length:Int)=au (aY ns x);rotate_left
   ·simp only[go_sem,d1];exact no (fun h=>d1 (h.O x hxm).1) _ ov4
   simp only[go_sem,d1];refine W.aM 22835963083295358091980815354050401082527450884 (by rfl) (fun ρ2 H4=>H4=H3/\∃j:Nat,ρ2 8=aa j/\j<=x.O.length/\∀r∈x.O.take j,ik g x.J r) (fun ρ2 H=>x.O.length-(iv (ρ2 8)).toNat) ?_ ?_
   ·simp only[go_sem];exact⟨0,rfl,U,Tu⟩
   rintro ρ2 H4 ⟨rfl,j,h8,hj,hrj⟩;refine W.vs ?_;by_cases hb2:(j:Int)<x.O.length;rotate_left
   ·have w1:=PW ((k:Int)+1) U;have hb2':¬(j:Int)<au (aY ns x):=U;simp only[go_sem,h6,h8,m1,hb2',d1,w1,av];rw[PY U]at hrj;refine⟨by have:=ov2'.C;omega,⟨k+1,Tu,U,by rw[hH3];exact ov2'.trans (.ext _ _),fun y hy=>?_⟩,U⟩;rw[aO hx]at hy;rcases Qe.1 hy with hy|hy
    ·exact hrows y hy
    ·obtain rfl:=List.mem_singleton.1 hy;exact⟨d1,hrj⟩
   obtain⟨r,hr⟩:=az (l:=x.O) (i:=j) U;have hrm:=an hr;have hrne:=bb hr;have hb2':(j:Int)<au (aY ns x):=U;have nope:¬ik g x.J r->¬TX g ns:=fun h h'=>h ((h'.O x hxm).2 r hrm);simp only[go_sem,h8,m1,hb2',d1,av];refine W.dr 8 [0,1,0,7,15,31,0,64] Try.mixed ?_;by_cases d2:(r.length:Int)=x.J;rotate_left
   ·simp only[go_sem,h8,m1,hb2',d1,d2,hr,hrne,av];exact no (nope fun h=>d2 h.1) _ ov4
   simp only[go_sem,h8,m1,hb2',d1,d2,hr,hrne,av];refine W.aM 1427247692705635362504627542722711980362171908 (by rfl) (fun ρ3 H5=>H5=H4/\∃i:Nat,ρ3 10=aa i/\i<=r.length/\ρ3 9=aa (r.take i).sum/\∀w∈r.take i,0<=w/\w<=g) (fun ρ3 H=>r.length-(iv (ρ3 10)).toNat) ?_ ?_
   ·simp only[go_sem];exact⟨0,rfl,U,Tu,Tu⟩
   rintro ρ3 H5 ⟨rfl,i,h10,hi,h9,hw⟩;refine W.vs ?_;have sb:0<=(r.take i).sum/\(r.take i).sum<=60*i:=by
    have key:∀l:List Int,(∀w∈l,0<=w/\w<=g)->0<=l.sum/\l.sum<=60*l.length:=by
     intro l
     induction l with
     |nil=>intro _;simp
     |cons a l ih =>
      intro h;have h1:=ih fun w hw=>h w (by simp[hw]);have h2:=h a Tu;simp only[RT,List.length_cons]
      push_cast
      omega
    have:=key _ hw;rw[P9,Sd U]at this;exact this
   have r4:r.length<=4:=U;by_cases hb3:(i:Int)<r.length<;>have hb3':=hb3<;>rw[d2]at hb3'
   rotate_left
   ·rw[PY U]at h9 hw;by_cases d3:r.sum=g;rotate_left
    ·simp only[go_sem,h8,h9,h10,m1,m2,hb3',hr,hrne,hb2',d1,d2,d3,av];exact no (nope fun h=>d3 h.2.2) _ ov4
    have w1:=PW ((j:Int)+1) (by have:=(hf.2 x hxm).2.1;omega);simp only[go_sem,h8,h9,h10,m1,m2,hb3',hr,hrne,hb2',d1,d2,d3,w1,av];refine⟨⟨j+1,Tu,U,fun y hy=>?_⟩,U⟩;rw[aO hr]at hy;rcases Qe.1 hy with hy|hy
    ·exact hrj y hy
    ·obtain rfl:=List.mem_singleton.1 hy;exact⟨d2,hw,d3⟩
   obtain⟨a,ha⟩:=az (l:=r) (i:=i) U;have ham:=an ha;have hane:=bb ha;simp only[go_sem,h8,h10,m1,hr,hrne,hb2',hb3',d1,d2,av];refine W.dr 20 [0,1,0,7,15,0,63,127,255,511,1023,2047,1023,8191,16383,1023,65535,131071,1023,263167] Try.mixed ?_;by_cases d3:a<0
   ·simp only[go_sem,h8,h10,m1,hr,hrne,hb2',hb3',ha,hane,d1,d2,d3,av];exact no (nope fun h=>by have:=h.2.1 a ham;omega) _ ov4
   by_cases d4:a > g
   ·simp only[go_sem,h8,h10,m1,m2,hr,hrne,hb2',hb3',ha,hane,d1,d2,d3,d4,av];exact no (nope fun h=>by have:=h.2.1 a ham;omega) _ ov4
   have w1:=PW ((i:Int)+1) U;have w2:=PW ((r.take i).sum+a) U;simp only[go_sem,h8,h9,h10,m1,m2,hr,hrne,hb2',hb3',ha,hane,d1,d2,d3,d4,w1,w2,av];refine⟨⟨i+1,Tu,U,by rw[aO ha,tJ],fun w hw'=>?_⟩,U⟩;rw[aO ha]at hw';rcases Qe.1 hw' with hw'|hw'
   ·exact hw w hw'
   ·obtain rfl:=List.mem_singleton.1 hw';exact⟨U,U⟩
end Go.Proofs
namespace Go.Hx
variable {P:Program} {G:Nat->Option (List Ty)} {n:Nat} {rd:Option Nat} {Q:AX->St->Prop}
def xy (P:Program)(G:Nat->Option (List Ty))(f:FuncId)(first cap:List Ty)(xs:List (List Ty))(S:Tz->Prop):Prop :=
 ∀(idy:Nat) (J:Nat->Tz->Prop) (Stop:Tz->Prop) (H:Tz) (K:TF->Tz->Prop),
  (∀k H1,J k H1->S H1)->J 0 H ->
  (∀k x H1 K1,xs[k]?=some x->J k H1->H.C<=H1.C->(∀H',J (k+1) H'->H1.C<=H'.C->K1 (.ret (.lit (.bool true))) H')->(∀H',Stop H'->H1.C<=H'.C->K1 (.ret (.lit (.bool false))) H')->aE P G (.ng idy) x H1 K1) ->
  (∀H',J xs.length H'->H.C<=H'.C->K (.ret (.nf [])) H') ->
  (∀H',Stop H'->H.C<=H'.C->K (.ret (.nf [])) H') ->
  af P G f (first++[.ng idy]++cap) H K
def gV (idy:Nat)(B:TE)(lo:Nat)(J:Tz->Prop)(Stop:AX->Tz->Prop):AX->St->Prop
 |.normal,s=>s.H.get idy=some B/\lo<=s.H.C/\J s.H
 |.ret,s=>s.H.get idy=some B/\lo<=s.H.C/\Stop .ret s.H
 |.exit i,s=>s.H.get idy=some B/\lo<=s.H.C/\Stop (.exit i) s.H
 |_,_=>False
def mi (P:Program)(G:Nat->Option (List Ty))(n idy:Nat)(B Bb:TE)(lo:Nat)(body:Code)(J:Tz->Prop)(Stop:AX->Tz->Prop):AX->St->Prop
 |.normal,s=>s.H.get idy=some B/\W P G n (some idy) body (gV idy Bb lo J Stop) ⟨s.ρ,s.H.upd idy Bb⟩
 |_,_=>False
def W.oh {g:Operand}{ps:Array Tmp}{asg body:Code}{ρ:Env}{H:Tz}{f:FuncId}{first cap:List Ty}{xs:List (List Ty)}{S:Tz->Prop}(hg:aj G ρ g=.nl f first cap)
  (hit:xy P G f first cap xs S) (J:Nat->Tz->Prop) (Stop:AX->Tz->Prop) (hS:∀k H1,J k H1->S H1)
  (hJu:∀k H1 b,J k H1->J k (H1.upd H.C b)) (hSu:∀c H1 b,Stop c H1->Stop c (H1.upd H.C b))
  (hJ0:∀b,J 0 (ext H [b])) (hps:ps.toList.all (fun t=>decide (t<n))=true) (hxl:∀x∈xs,x.length=ps.size)
  (hrd:∀k H1,J k H1->dT H1 rd) (hrd2:∀c H1,Stop c H1->dT H1 rd)
  (hround:∀k x H1 B Bb,xs[k]?=some x->J k H1->H.C+1<=H1.C->H1.get H.C=some B->(∃st pd n' en ps' as' bo,Bb=TE.loop st pd n' en ps' as' bo) ->
   W P G n (some H.C) asg (mi P G n H.C B Bb H1.C body (J (k+1)) Stop) ⟨iE (cr ρ n) (ps.toList.zip x),H1⟩)
  (hend:∀H',J xs.length H'->H.C+1<=H'.C->Q .normal ⟨ρ,H'⟩)
  (hret:∀H',Stop .ret H'->H.C+1<=H'.C->Q .ret ⟨ρ,H'⟩) (hexit:∀i H',Stop (.exit i) H'->H.C+1<=H'.C->Q (.exit i) ⟨ρ,H'⟩):
  W P G n rd (.rangeFunc g ps asg body) Q ⟨ρ,H⟩:=by
 refine W.rangeFunc (s:=⟨ρ,H⟩) hg ⟨_,uP _ _,?_⟩;obtain⟨B,hB⟩:∃B,B=TE.loop .ready none n ρ ps asg body:=⟨_,rfl⟩
 obtain⟨Bb,hBb⟩:∃B,B=TE.loop .busy none n ρ ps asg body:=⟨_,rfl⟩
 have nx:(ext H [B]).C=H.C+1:=rfl;show af P G f (first++[.ng H.C]++cap) (ext H [TE.loop .ready none n ρ ps asg body]) (uX rd Q ρ H.C);rw[<- hB];refine hit H.C (fun k H1=>H1.get H.C=some B/\J k H1) (fun H1=>∃c pend,H1.get H.C=some (.loop .done (some pend) n ρ ps asg body)/\Stop c H1/\((c=.ret/\pend=.ret)\/∃i,c=.exit i/\pend=.exit i)) _ _
  (fun k H1 h=>hS k H1 h.2) ⟨bX,hJ0 B⟩ (fun k x H1 K1 hx hj hn hgo hst=>?_) (fun H' hj hn=>?_) (fun H' hj hn=>?_)
 ·have hxm:=hxl x (an hx);refine aE.ng (hj.1.trans (congrArg some hB)) hxm hps ?_;refine(hround k x H1 B Bb hx hj.2 hn hj.1 ⟨_,_,_,_,_,_,_,hBb⟩).mono fun e s1 h1=>?_;cases e with
  |normal =>
   obtain⟨a1,a2⟩:=h1;refine⟨Bb,by rw[a1,hB,hBb];rfl,?_⟩;refine a2.mono fun e2 s2 h2=>?_;cases e2 with
   |normal =>
    obtain⟨b1,b2,b3⟩:=h2;exact⟨B,by rw[b1,hB,hBb];rfl,hgo _ ⟨by rw[ab,PZ rfl],hJu _ _ _ b3⟩ b2⟩
   |ret =>
    obtain⟨b1,b2,b3⟩:=h2;exact⟨.loop .done (some .ret) n ρ ps asg body,by rw[b1,hBb];rfl,hst _ ⟨.ret,.ret,by rw[ab,PZ rfl],hSu _ _ _ b3,.inl ⟨rfl,rfl⟩⟩ b2⟩
   |exit i =>
    obtain⟨b1,b2,b3⟩:=h2;exact⟨.loop .done (some (.exit i)) n ρ ps asg body,by rw[b1,hBb];rfl,hst _ ⟨.exit i,.exit i,by rw[ab,PZ rfl],hSu _ _ _ b3,.inr ⟨i,rfl,rfl⟩⟩ b2⟩
   |_=>exact h2.elim
  |_=>exact h1.elim
 ·refine⟨hrd _ _ hj.2,(none,.loop .exhausted none n ρ ps asg body),by rw[hj.1,hB];rfl,?_⟩;exact hend _ (hJu _ _ _ hj.2) hn
 ·obtain⟨c,pend,h1,h2,h3⟩:=hj;refine⟨hrd2 _ _ h2,(some pend,.loop .exhausted (some pend) n ρ ps asg body),by rw[h1];rfl,?_⟩;rcases h3 with ⟨rfl,rfl⟩|⟨i,rfl,rfl⟩
  ·exact hret _ (hSu _ _ _ h2) hn
  ·exact hexit i _ (hSu _ _ _ h2) hn
end Go.Hx
namespace Go.Proofs
open Go.Hx
variable {g:Int}{O:List (List Int)}{l:List Int}{ns:List TA}{k:Nat}{x:TA}
def qw (x:TA):Ty:=.agg [.lit (.int .i64 x.J),.M x.F.length (ints x.F),av x.O]
def ld (O:List (List Int)):List (List Ty):=O.zipIdx.map fun p=>[aa p.2,ag p.1]
def Ca {x:List Ty}(h:(ld O)[k]?=some x):∃r,O[k]?=some r/\x=[aa k,ag r]:=by
 unfold ld at h;rw[List.getElem?_map,RB]at h;cases hr:O[k]? with
 |none=>rw[hr]at h;simp at h
 |some r=>rw[hr]at h;simp at h;exact⟨r,rfl,h.symm⟩
def OQ {r:List Int}(h:O[k]?=some r):(ld O)[k]?=some [aa k,ag r]:=by
 unfold ld;rw[List.getElem?_map,RB,h];simp
def Cb (O:List (List Int)):(ld O).length=O.length:=by simp[ld]
def OS (x:TA)(hl:(x.O.length:Int)<2 ^ 40)(b:Nat):xy Try.prog G0 115 [] [.Y b 0 0] (ld x.O) (fun H=>H.get b=some (.L 0 83 [.lit (.int .i64 x.J),.M x.F.length (ints x.F),av x.O])):=by
 intro idy J Stop H K hS hJ0 hY hK hSt;have l0:=ae (hS 0 H hJ0);show af _ _ _ ([.ng idy]++[.Y b 0 0]) _ _;refine af.st (n:=19) (rs:=[]) Try.func115 ?_;simp only[go_sem,l0,av];refine W.aM 524056 (by rfl) (fun ρ H'=>∃k:Nat,ρ 8=aa k/\k<=x.O.length/\J k H'/\H.C<=H'.C) (fun ρ H=>x.O.length-(iv (ρ 8)).toNat) ?_ ?_
 ·simp only[go_sem];exact⟨0,rfl,U,hJ0⟩
 rintro ρ H' ⟨k,h8,hk,hj,hn⟩;refine W.vs ?_;by_cases hb:(k:Int)<x.O.length
 ·obtain⟨r,hr⟩:=az (l:=x.O) (i:=k) U;have hne:=bb hr;have w1:=PW ((k:Int)+1) U;simp only[go_sem,h8,hb,hr,hne];refine hY k [aa k,ag r] H' _ (OQ hr) hj hn (fun H2 hj2 hn2=>⟨trivial,?_⟩) (fun H2 hs2 hn2=>⟨trivial,?_⟩)
  ·simp only[go_sem,h8,w1];exact⟨U,⟨k+1,Tu,U,hj2,U⟩,U⟩
  ·simp only[go_sem];exact aw.mk U (hSt H2 hs2 U)
 ·simp only[go_sem,h8,hb];have ek:k=(ld x.O).length:=by rw[Cb];omega
  subst ek;exact aw.mk U (hK H' hj hn)
def OT (x:TA)(H:Tz)(K:TF->Tz->Prop)(hK:K (.ret (.nl 115 [] [.Y H.C 0 0])) (ext H [.L 0 83 [.lit (.int .i64 x.J),.M x.F.length (ints x.F),av x.O]])):
  af Try.prog G0 110 [qw x] H K:=by
 refine af.st (n:=4) (rs:=[.tmp 2]) Try.func110 ?_;simp only[go_sem,qw];exact aw.mk (by simp[bh]) hK
def xk {g:Int}(h:∀w∈l,0<=w):0<=l.sum:=by
 induction l with
 |nil=>simp
 |cons a l ih =>
  have h1:=ih fun w hw=>h w (by simp[hw]);have h2:=h a Tu;simp only[RT];omega
def xm (h:∀w∈l,0<=w):∀w∈l,w<=l.sum:=by
 induction l with
 |nil=>intro w hw;cases hw
 |cons a l ih =>
  intro w hw;have h1:=xk (g:=0) fun w hw=>h w (QP a hw);have h2:=h a Tu;simp only[RT];rcases List.mem_cons.1 hw with rfl|hw
  ·omega
  ·have:=ih (fun w hw=>h w (by simp[hw])) w hw;omega
noncomputable def jr (g:Int)(ns:List TA)(x:TA):Bool:=@decide (fk g ns x) (Classical.propDecidable _)
def Cc (h:fk g ns x):jr g ns x=true:=by unfold jr;exact @decide_eq_true _ (Classical.propDecidable _) h
def OU (h:¬fk g ns x):jr g ns x=false:=by unfold jr;exact @decide_eq_false _ (Classical.propDecidable _) h
def OV :jr g ns x=true↔fk g ns x:=by unfold jr;exact @decide_eq_true_iff _ (Classical.propDecidable _)
def OW (g:Int)(hg:1<=g/\g<=60)(ns:List TA)(sets:List Nat)(x:TA)(hin:jq x.F ns.length)(hsm:eH (aY ns x))(hx1:(x.O.length:Int)<2 ^ 38)(hx2:∀r∈x.O,(r.length:Int)<2 ^ 38)(H:Tz)(K:TF->Tz->Prop)
  (hK:K (.ret (.lit (.bool (jr g ns x)))) H):af Try.prog G0 102 [.agg [.lit (.int .i64 g),cz ns,ag (aA ns),fj sets,.lit (.slice none 0 0)],qw x] H K:=by
 refine af.nl ⟨_,Try.func102,rfl,rfl⟩ fun hcl=>?_;have l12:=hsm.1;have pl:(aY ns x).length=x.F.length:=kg _ _;have no:¬fk g ns x->∀H',TC H H'->aw Try.prog G0 H K (.lit (.bool false)) H':=fun h H' ov=>aw.bJ aT hcl ov (.lit _) (by rw[OU h]at hK;exact hK);refine af.st (n:=66) (rs:=[.cell 4 4]) Try.func102 ?_;simp only[go_sem,cz,qw];obtain⟨H1,hH1⟩:∃H1,H1=ext H [.L 0 148 [.lit (.int .i64 g),.M ns.length (aI ns),.M (aA ns).length (ints (aA ns)),.M sets.length (sets.map bj),.lit (.slice none 0 0)],.L 0 83 [.lit (.int .i64 x.J),.M x.F.length (ints x.F),av x.O],.L 0 4 [.lit (.bool false)]]:=⟨_,rfl⟩
 have l1:H1.Z H.C 0=some (148,[.lit (.int .i64 g),.M ns.length (aI ns),.M (aA ns).length (ints (aA ns)),.M sets.length (sets.map bj),.lit (.slice none 0 0)]):=by rw[hH1];exact ae (cW ..)
 have l2:H1.Z (H.C+1) 0=some (83,[.lit (.int .i64 x.J),.M x.F.length (ints x.F),av x.O]):=by rw[hH1];exact ae (dV H _ 1 Tu)
 have g3:=gE hH1 2 rfl
 have n1:H1.C=H.C+3:=hH1▸rfl
 have o1:TC H H1:=hH1▸.ext _ _
 rw[<- hH1];refine W.aM 268370080 (by rfl) (fun ρ H'=>H'=H1/\∃k:Nat,ρ 16=aa k/\k<=x.F.length/\ρ 5=aa (au ((aY ns x).take k))) (fun ρ H=>x.F.length-(iv (ρ 16)).toNat) ?_ ?_
 ·simp only[go_sem];exact⟨0,rfl,U,by simp[jV]⟩
 rintro ρ H' ⟨rfl,k,h16,hk,h5⟩;refine W.vs ?_;by_cases hb:(k:Int)<x.F.length
 ·obtain⟨q,hq⟩:=az (l:=x.F) (i:=k) U;obtain⟨j,rfl,y,hy⟩:=nP (l:=ns) (hin q (an hq)).1 (hin q (an hq)).2;have hne2:=bb hq;have hyc:=dk hy;have hne3:=bb hyc;have hj:(j:Int)<(aA ns).length:=by have:=aG hyc;omega
  have pk:(aY ns x)[k]?=some y.J:=by
   rw[show (aY ns x)[k]?=_ from xf hq,Int.toNat_natCast,cB hyc]
  have b1:=(hsm.take (k+1)).prod;rw[aO pk,fO]at b1;have w1:=PW ((k:Int)+1) U;have w2:=PW (au ((aY ns x).take k)*y.J) U;simp only[go_sem,h16,h5,l1,hb,hq,hne2,hj,hyc,hne3,w1,w2];exact⟨⟨k+1,Tu,U,by rw[aO pk,fO]⟩,U⟩
 rw[PY U]at h5;by_cases c1:(x.O.length:Int)=au (aY ns x);rotate_left
 ·simp only[go_sem,h16,h5,l2,hb,c1,av];have l3:=ae g3;simp only[go_sem,l3];exact no (fun h=>c1 h.1) _ (o1.upd U _)
 simp only[go_sem,h16,h5,l2,hb,c1,av];refine aE.nl (OT x _ _ ⟨trivial,?_⟩);simp only[go_sem];obtain⟨H2,hH2⟩:∃H2,H2=ext H' [.L 0 83 [.lit (.int .i64 x.J),.M x.F.length (ints x.F),av x.O]]:=⟨_,rfl⟩
 rw[<- hH2];have o2:TC H' H2:=by rw[hH2];exact .ext _ _
 have n2:H2.C=H.C+4:=by rw[hH2,bh,n1];rfl
 have hbx:H2.get H'.C=some (.L 0 83 [.lit (.int .i64 x.J),.M x.F.length (ints x.F),av x.O]):=by rw[hH2];exact bX
 refine W.env fun E hE=>?_;have e2:E 2=.Y H.C 0 0:=by rw[hE];simp only[go_sem]
 have e3:E 3=.Y (H.C+1) 0 0:=by rw[hE];simp only[go_sem]
 have e4:E 4=.Y (H.C+2) 0 0:=by rw[hE];simp only[go_sem]
 have i1:H2.Z H.C 0=some (148,[.lit (.int .i64 g),.M ns.length (aI ns),.M (aA ns).length (ints (aA ns)),.M sets.length (sets.map bj),.lit (.slice none 0 0)]):=(o2.Z U).trans l1;have i2:H2.Z (H.C+1) 0=some (83,[.lit (.int .i64 x.J),.M x.F.length (ints x.F),av x.O]):=(o2.Z U).trans l2;have i3:H2.get (H.C+2)=some (.L 0 4 [.lit (.bool false)]):=(o2.nb _ U).trans g3;refine W.oh (f:=115) (first:=[]) (cap:=[.Y H'.C 0 0]) (by show E 34=_;rw[hE];rfl) (OS x U H'.C)
  (fun k Hx=>TC H2 Hx/\∀r∈x.O.take k,ik g x.J r) (fun c Hx=>c=.ret/\TC H Hx/\H.C+4<=Hx.C/\Hx.get (H.C+2)=some (.L 0 4 [.lit (.bool false)])/\¬fk g ns x)
  (fun k Hx h=>by rw[h.1.nb _ U];exact hbx) (fun k Hx b h=>⟨h.1.upd Tx b,h.2⟩) (fun c Hx b h=>⟨h.1,h.2.1.upd U b,h.2.2.1,by rw[ab,PX U];exact h.2.2.2.1,h.2.2.2.2⟩)
  (fun b=>⟨.ext _ _,Tu⟩) Tv (fun y hy=>by
   obtain⟨k,hk⟩:=Qd.1 hy;obtain⟨r,_,rfl⟩:=Ca hk;rfl) (fun _ _ _=>trivial) (fun _ _ _=>trivial) (fun k y Hx B Bb hy hj hn hB hBb=>?_) (fun Hx hj hn=>?_) (fun Hx hs hn=>?_) (fun i Hx hs hn=>by cases hs.1)
 ·obtain⟨r,hr,rfl⟩:=Ca hy;refine W.vs ?_;simp only[go_sem,iE,cr,mi,Q9,Sg,Rw,RJ,hB];obtain⟨H3,hH3⟩:∃H3,H3=Hx.upd H2.C Bb:=⟨_,rfl⟩
  rw[<- hH3];obtain⟨st,pd,n',en,ps',as',bo,hBe⟩:=hBb;have o3:TC H2 H3:=by rw[hH3];exact hj.1.upd Tx Bb
  have o4:TC H H3:=(o1.trans o2).trans o3;have n3:H3.C=Hx.C:=by rw[hH3];rfl
  have j1:=(o3.Z (g:=0) (by omega:H.C<H2.C)).trans i1;have j2:=(o3.Z (g:=0) (by omega:H.C+1<H2.C)).trans i2;have j3:=(o3.nb _ (by omega:H.C+2<H2.C)).trans i3;have j4:=ae j3;have jB:H3.get H2.C=some Bb:=by rw[hH3,ab,PZ rfl]
  have nB:¬H2.C=H.C+2:=U
  have hrm:=an hr;have hrl:=hx2 r hrm;have nope:¬ik g x.J r->¬fk g ns x:=fun h h'=>h (h'.2 r hrm);have stop:¬ik g x.J r->(H3.upd (H.C+2) (TE.L 0 4 [.lit (.bool false)])).get H2.C=some Bb/\Hx.C<=(H3.upd (H.C+2) (TE.L 0 4 [.lit (.bool false)])).C/\TC H (H3.upd (H.C+2) (TE.L 0 4 [.lit (.bool false)])) /\
    H.C+4<=(H3.upd (H.C+2) (TE.L 0 4 [.lit (.bool false)])).C/\(H3.upd (H.C+2) (TE.L 0 4 [.lit (.bool false)])).get (H.C+2)=some (.L 0 4 [.lit (.bool false)])/\¬fk g ns x:=fun h =>
   ⟨by rw[ab,PX nB];exact jB,by rw[aq];omega,o4.upd U _,by rw[aq];omega,by rw[ab,PZ rfl],nope h⟩
  refine W.vs ?_;simp only[go_sem,cr,e2,j1];refine W.aM 144110790029349888 (by rfl) (fun ρ2 H4=>H4=H3/\∃i:Nat,ρ2 42=aa i/\i<=r.length/\(∀w∈r.take i,0<=w)/\(r.take i).sum<=g/\ρ2 10=aa (g-(r.take i).sum)) (fun ρ2 H=>r.length-(iv (ρ2 42)).toNat) ?_ ?_
  ·simp only[go_sem];exact⟨0,rfl,U,Tu,by simp;omega,Tu⟩
  rintro ρ2 H4 ⟨rfl,i,h42,hi,hw0,hws,h10⟩;refine W.vs ?_;have s0:=xk (g:=g) hw0;by_cases hb2:(i:Int)<r.length
  ·obtain⟨a,ha⟩:=az (l:=r) (i:=i) U;have ham:=an ha;have hane:=bb ha;by_cases d1:a<0
   ·simp only[go_sem,h42,hb2,ha,hane,d1,cr,e4,j4,gV];exact stop fun h=>by have:=h.2.1 a ham;omega
   by_cases d2:a > g-(r.take i).sum
   ·simp only[go_sem,h42,h10,hb2,ha,hane,d1,d2,cr,e4,j4,gV];refine stop fun h=>?_;have h1:r.sum=(r.take (i+1)).sum+(r.drop (i+1)).sum:=(by rw[<- S4,Qq]);rw[aO ha,tJ]at h1;have h2:=xk (g:=g) (l:=r.drop (i+1)) fun w hw=>(h.2.1 w (QV hw)).1;have:=h.2.2;omega
   have w1:=PW ((i:Int)+1) U;have w2:=PW (g-(r.take i).sum-a) U;simp only[go_sem,h42,h10,hb2,ha,hane,d1,d2,w1,w2,cr];refine⟨⟨_,_,_,_,_,_,_,by rw[jB,hBe]⟩,⟨i+1,Tu,U,fun w hw=>?_,by rw[aO ha,tJ];omega,?_⟩,U⟩
   ·rw[aO ha]at hw;rcases Qe.1 hw with hw|hw
    ·exact hw0 w hw
    ·obtain rfl:=List.mem_singleton.1 hw;omega
   ·rw[aO ha,tJ];show aa _=aa _;congr 1;omega
  ·rw[PY U]at hw0 hws h10 s0;by_cases d1:(r.length:Int)=x.J;rotate_left
   ·simp only[go_sem,h42,hb2,d1,cr,e3,e4,j2,j4,gV];exact stop fun h=>d1 h.1
   have hb2':¬(i:Int)<x.J:=U;by_cases d2:g-r.sum=0;rotate_left
   ·simp only[go_sem,h42,h10,hb2',d1,d2,cr,e3,e4,j2,j4,gV];exact stop fun h=>by have:=h.2.2;omega
   simp only[go_sem,h42,h10,hb2',d1,d2,cr,e3,j2,gV];refine⟨jB,U,o3,fun y hy=>?_⟩;rw[aO hr]at hy;rcases Qe.1 hy with hy|hy
   ·exact hj.2 y hy
   ·obtain rfl:=List.mem_singleton.1 hy;exact⟨d1,fun w hw=>⟨hw0 w hw,by have:=xm hw0 w hw;omega⟩,U⟩
 ·have hok:fk g ns x:=⟨c1,by
   have:=hj.2;rw[Cb,Rb]at this;exact this⟩
  have j4:=ae ((hj.1.nb _ (by omega:H.C+2<H2.C)).trans i3);rw[Cc hok]at hK;simp only[go_sem,e4,j4];exact aw.bJ aT hcl (((o1.trans o2).trans hj.1).upd U _) (.lit _) hK
 ·obtain⟨_,o4,n4,g4,hno⟩:=hs;have j4:=ae g4;simp only[go_sem,e4,j4];exact no hno _ o4
end Go.Proofs
namespace Go.Hx
variable {e:TypeId}{H:Tz}
def ay.mf {lo:Nat}{v:Ty}{l:List Int}(h:ay lo H e v (ints l)):TP H v (ag l):=by
 rcases h with ⟨rfl,h⟩|⟨id,g,h1,h2,rfl,h4⟩
 ·have:l=[]:=by cases l with
   |nil=>rfl
   |cons a l=>simp[ints]at h
  subst this;exact .nil
 ·have e:ag l=.M (ints l).length (ints l):=by rw[aR];rfl
  rw[e];refine .V h4 Tu fun j hj h2 h'=>?_;simp only[Nat.zero_add,ints,P4];exact .lit _
def Fz.tK {id g n nx:Nat}{cs:List Ty}(hg:H.get id=some (.L g e cs))(hn:n=cs.length)(hl:∀c∈cs,∃v,c=.lit v):Fz (fun _=>True) H nx (.V id g 0 n 1) (.M n cs):=by
 refine .np trivial hg U fun j hj h2 h'=>?_;simp only[Nat.zero_add];obtain⟨v,hv⟩:=hl _ (Qn h');rw[hv];exact .lit _
end Go.Hx
namespace Go.Proofs
open Go.Hx
variable {n:Nat}{p:Nat->Bool}
def bf (l:List Nat):List Int:=l.map fun (v:Nat)=>(v:Int)
def Cd {j:Nat}(hj:j<n)(h1:∀v,v<j->p v=false)(h2:p j=true):(List.range n).find? p=some j:=by
 rw[List.find?_eq_some_iff_getElem];refine⟨h2,j,by simpa using hj,Tu,fun k hk=>?_⟩;simp only[List.getElem_range];simp[h1 k hk]
def Ce (h1:∀v,v<n->p v=false):(List.range n).find? p=none:=by
 rw[List.find?_eq_none];intro x hx;simp[h1 x (QN.1 hx)]
def OX (ps:List Nat)(hl:ps.length<=60)(hp:∀p∈ps,p<2 ^ 64)(H:Tz)(K:TF->Tz->Prop)
  (hK:∀v H',TC H H'->(match dO ps with|some o=>ay H.C H' 3 v (ints (bf o))|none=>v=.lit (.slice none 0 0))->K (.ret (.nf [v,.lit (.bool (dO ps).isSome)])) H'):af Try.prog G0 103 [fj ps] H K:=by
 have no:∀H',dO ps=none->TC H H'->aw Try.prog G0 H K (.nf [.lit (.slice none 0 0),.lit (.bool false)]) H':=fun H' h ov=>aw.mk ov.C (by
  have:=hK (.lit (.slice none 0 0)) H' ov;rw[h]at this;exact this rfl)
 refine af.st (n:=44) (rs:=[.tmp 2,.tmp 3]) Try.func103 ?_;simp only[go_sem];refine⟨U,?_⟩;refine W.aM 8796093020412 (by rfl) (fun ρ H'=>∃(out:List Nat) (done:Nat),ρ 5=bj done/\done<2 ^ 64/\out.length<=ps.length/\H.C+1<=H'.C/\TC H H'/\ay H.C H' 3 (ρ 4) (ints (bf out))/\(∃id g,ρ 4=.V id g 0 out.length 1)/\fD ps (ps.length-out.length) out done=dO ps)
  (fun ρ H=>ps.length-(match ρ 4 with|.V _ _ _ n _=>n|_=>0)) ?_ ?_
 ·simp only[go_sem];exact⟨[],0,Tu,Tv,Ss _,.ext _ _,.inr ⟨H.C,0,Tx,by simp[bh],rfl,cW H _ []⟩,⟨_,_,rfl⟩,rfl⟩
 rintro ρ H' ⟨out,done,h5,hd,ho,hn0,ov,h4,⟨id,gn,h4e⟩,ht⟩;refine W.vs ?_;have lv:H'.Z id gn=some (3,ints (bf out)):=by
  rcases h4 with ⟨h,_⟩|⟨i,g,h1,h2,h3,h4⟩
  ·rw[h4e]at h;cases h
  ·rw[h4e]at h3;have:=Ty.V.inj h3;obtain⟨rfl,rfl,_⟩:=this;exact ae h4
 by_cases hb:(out.length:Int)<ps.length
 ·simp only[go_sem,h4e,lv,hb];have hk1:ps.length-out.length=(ps.length-(out.length+1))+1:=U
  refine W.aM 8796092760304 (by rfl) (fun ρ2 H2=>H2=H'/\∃j:Nat,ρ2 18=aa j/\j<=ps.length/\ρ2 4=.V id gn 0 out.length 1/\ρ2 5=bj done/\∀v,v<j->gQ ps done v=false) (fun ρ2 H=>ps.length-(iv (ρ2 18)).toNat) ?_ ?_
  ·simp only[go_sem,h4e,h5];exact⟨0,rfl,U,fun v h=>absurd h (Qf _)⟩
  rintro ρ2 H2 ⟨rfl,j,h18,hj,h4',h5',hno⟩;refine W.vs ?_;by_cases hb2:(j:Int)<ps.length
  ·obtain⟨p,hpj⟩:=az (l:=ps) (i:=j) U;have hp1:=hp p (an hpj);have hne:=bb hpj;have s1:=fun t x y=>mg (P:=Try.prog) (t:=t) (x:=x) (y:=y) (k':=.i64) (s:=j) hd;have s2:=fun t x y=>tO (P:=Try.prog) (t:=t) (x:=x) (y:=y) (s:=j) hd;have s3:=fun t x y=>xx (P:=Try.prog) (t:=t) (x:=x) (y:=y) (a:=p) (b:=done);have w1:=PW ((j:Int)+1) U;have cont:gQ ps done j=false->∀v,v<j+1->gQ ps done v=false:=fun h v hv=>by
    rcases Ql v j with h'|h'
    ·exact hno v h'
    ·obtain rfl:v=j:=U;exact h
   have fe:gQ ps done j=(!done.testBit j && decide (fH p done=0)):=(by unfold gQ;rw[cB hpj]);cases hbit:done.testBit j;rotate_left
   ·simp only[go_sem,h18,h4',h5',hb2,hpj,hne,s1,s2,hbit,w1];exact⟨⟨j+1,Tu,U,cont (by rw[fe,hbit];rfl)⟩,U⟩
   by_cases hz:fH p done=0;rotate_left
   ·have hz':¬((fH p done:Nat):Int)=0:=U;simp only[go_sem,h18,h4',h5',hb2,hpj,hne,s1,s2,s3,hbit,hz',w1];exact⟨⟨j+1,Tu,U,cont (by rw[fe,hbit];simp[hz])⟩,U⟩
   have hz':((fH p done:Nat):Int)=0:=U;have hnx:iL ps done=some j:=Cd U hno (by rw[fe,hbit];simp[hz]);obtain⟨v',H3,hA,ov2,hO,hn2,_⟩:=il (j:Int) ov h4 (by simp[bf];omega);rw[h4e]at hA;have b2:(2:Nat) ^ j<2 ^ 64:=Ra Tv U;have s4:=fun t x y=>mh (P:=Try.prog) (t:=t) (x:=x) (y:=y) (k':=.i64) (s:=j) U;have s5:=fun t x y=>js (P:=Try.prog) (t:=t) (x:=x) (y:=y) hd b2;simp only[go_sem,h18,h4',h5',hb2,hpj,hne,s1,s2,s3,s4,s5,hbit,hz',hA];have hO':ay H.C H3 3 v' (ints (bf (out++[j]))):=by
    have e:bf (out++[j])=bf out++[(j:Int)]:=(by simp[bf]);rw[e];exact hO
   have hv':∃id g,v'=.V id g 0 (out.length+1) 1:=by
    rcases hO' with ⟨_,h⟩|⟨i,g,_,_,h3,_⟩
    ·simp[ints,bf]at h
    ·exact⟨i,g,by rw[h3,aR];simp[bf]⟩
   obtain⟨i2,g2,rfl⟩:=hv';refine⟨U,⟨out++[j],done |||2 ^ j,rfl,RC hd b2,by simp;omega,U,ov2,hO',⟨i2,g2,Tu⟩,?_⟩,by simp only;omega⟩;rw[<- ht,hk1]
   conv=>rhs;unfold fD
   rw[hnx];simp
  ·simp only[go_sem,h18,hb2];refine no _ ?_ ov;rw[<- ht,hk1];unfold fD;have:iL ps done=none:=Ce fun v hv=>hno v U;rw[this]
 ·simp only[go_sem,h4e,lv,hb];have hz:ps.length-out.length=0:=U
  rw[hz]at ht;have ht':dO ps=some out:=ht.symm;have:=hK (.V id gn 0 out.length 1) H' ov;rw[ht']at this;refine aw.mk ov.C (this ?_);rw[h4e]at h4;exact h4
def OY (ps:List Nat)(hl:ps.length<=60)(hp:∀p∈ps,p<2 ^ 64)(H:Tz)(v:Ty)(hv:Fz (fun _=>True) H 0 v (fj ps))(K:TF->Tz->Prop)
  (hK:K (.ret (.nf [ag (bf ((dO ps).getD [])),.lit (.bool (dO ps).isSome)])) H):af Try.prog G0 103 [v] H K:=by
 refine(af.frame (H:=H) (args:=[v]) (args':=[fj ps]) (v':=.nf [ag (bf ((dO ps).getD [])),.lit (.bool (dO ps).isSome)]) aT rfl (fun i hi _=>match i,hi with|0,_=>hv) (OX ps hl hp cj _ fun u H' ov hu=>⟨_,rfl,?_⟩)).mono ?_
 ·refine .nf rfl fun i hi _=>?_
  match i,hi with
  |0,_ =>
   show TP H' u _;cases ht:dO ps with
   |none=>rw[ht]at hu;simp only at hu;rw[hu];show TP H' _ (ag []);exact .nil
   |some o=>rw[ht]at hu;exact ay.mf hu
  |1,_=>exact .lit _
 ·rintro r H' ⟨rfl,rfl⟩;exact hK
end Go.Proofs
