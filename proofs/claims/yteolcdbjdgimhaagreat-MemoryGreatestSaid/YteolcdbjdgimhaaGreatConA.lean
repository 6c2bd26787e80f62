/-
  Closed facts of this seat's types. Laid by a program of ours.
-/
import Derived.Test.YteolcdbjdgimhaaGreatProg
import Derived.Test.YteolcdbjdgimhaaGreatLibC
import Derived.Test.YteolcdbjdgimhaaGreatLibB
set_option linter.all false
set_option maxHeartbeats 8000000
namespace Go.Proofs
open Go.Hx
variable {i z:Nat}{α:Type}
def Tryz.mixed:Tryz.prog.follows .mixedOrders=true:=ZH
def Tryz.fE:Tryz.prog.cellsOf 3=1:=ZH
def Tryz.gG:Tryz.prog.bytesOf 3=8:=ZH
def Tryz.fF:cw Tryz.prog 3=some [.lit (.int .i64 0)]:=ZH
def Tryz.CN:Tryz.prog.cellsOf 4=1:=ZH
def Tryz.NK:Tryz.prog.bytesOf 4=1:=ZH
def Tryz.NL:cw Tryz.prog 4=some [.lit (.bool false)]:=ZH
def Tryz.sf:Tryz.prog.cellsOf 5=1:=ZH
def Tryz.NM:Tryz.prog.bytesOf 5=1:=ZH
def Tryz.NN:cw Tryz.prog 5=some [.lit (.int .u8 0)]:=ZH
def Tryz.CO:Tryz.prog.cellsOf 22=1:=ZH
def Tryz.zm:Tryz.prog.cellsOf 23=1:=ZH
def Tryz.CP:Tryz.prog.cellsOf 25=3:=ZH
def Tryz.NO:bU Tryz.prog 25 0=some (0,5):=ZH
def Tryz.NP:bU Tryz.prog 25 1=some (1,22):=ZH
def Tryz.NQ:bU Tryz.prog 25 2=some (2,23):=ZH
def Tryz.CQ:Tryz.prog.cellsOf 26=1:=ZH
def Tryz.NR:Tryz.prog.cellsOf 28=6:=ZH
def Tryz.NS:bU Tryz.prog 28 0=some (0,25):=ZH
def Tryz.NT:bU Tryz.prog 28 1=some (3,5):=ZH
def Tryz.NU:bU Tryz.prog 28 2=some (4,4):=ZH
def Tryz.NV:bU Tryz.prog 28 3=some (5,26):=ZH
def Tryz.NW:Tryz.prog.cellsOf 33=1:=ZH
def Tryz.NX:cw Tryz.prog 33=some [.lit (.slice none 0 0)]:=ZH
def Tryz.NY:Tryz.prog.cellsOf 34=1:=ZH
def Tryz.CR:Tryz.prog.cellsOf 35=1:=ZH
def Tryz.CS:Tryz.prog.bytesOf 35=8:=ZH
def Tryz.CT:cw Tryz.prog 35=some [.lit (.int .u64 0)]:=ZH
def Tryz.NZ:Tryz.prog.cellsOf 36=1:=ZH
def Tryz.N0:Tryz.prog.cellsOf 38=4:=ZH
def Tryz.N1:cw Tryz.prog 38=some [.lit (.int .i64 0),.lit (.slice none 0 0),.lit (.int .u64 0),.lit (.slice none 0 0)]:=ZH
def Tryz.N2:jw Tryz.prog 38=some [(0,1),(1,1),(2,1),(3,1)]:=ZH
def Tryz.N3:bU Tryz.prog 38 0=some (0,3):=ZH
def Tryz.N4:bU Tryz.prog 38 1=some (1,34):=ZH
def Tryz.N5:bU Tryz.prog 38 2=some (2,35):=ZH
def Tryz.N6:bU Tryz.prog 38 3=some (3,36):=ZH
def Tryz.nW:Tryz.prog.cellsOf 42=1:=ZH
def Tryz.nX:Tryz.prog.bytesOf 42=24:=ZH
def Tryz.nY:cw Tryz.prog 42=some [.lit (.slice none 0 0)]:=ZH
def Tryz.N7:Tryz.prog.cellsOf 46=1:=ZH
def Tryz.N8:cw Tryz.prog 46=some [.lit (.int .i64 0)]:=ZH
def Tryz.N9:Tryz.prog.cellsOf 50=2:=ZH
def Tryz.Oa:cw Tryz.prog 50=some [.lit (.int .i64 0),.lit (.int .i64 0)]:=ZH
def Tryz.Ob:jw Tryz.prog 50=some [(0,1),(1,1)]:=ZH
def Tryz.Oc:bU Tryz.prog 50 0=some (0,3):=ZH
def Tryz.Od:bU Tryz.prog 50 1=some (1,3):=ZH
def Tryz.Oe:Tryz.prog.cellsOf 81=2:=ZH
def Tryz.Of:cw Tryz.prog 81=some [.lit (.int .i64 0),.lit (.slice none 0 0)]:=ZH
def Tryz.Og:jw Tryz.prog 81=some [(0,1),(1,1)]:=ZH
def Tryz.Oh:bU Tryz.prog 81 0=some (0,3):=ZH
def Tryz.Oi:bU Tryz.prog 81 1=some (1,34):=ZH
def Tryz.Oj:Tryz.prog.cellsOf 84=1:=ZH
def Tryz.zn:Tryz.prog.cellsOf 87=3:=ZH
def Tryz.zo:Tryz.prog.bytesOf 87=56:=ZH
def Tryz.zp:cw Tryz.prog 87=some [.lit (.int .i64 0),.lit (.slice none 0 0),.lit (.slice none 0 0)]:=ZH
def Tryz.Ol:jw Tryz.prog 87=some [(0,1),(1,1),(2,1)]:=ZH
def Tryz.Om:bU Tryz.prog 87 0=some (0,3):=ZH
def Tryz.On:bU Tryz.prog 87 1=some (1,42):=ZH
def Tryz.Oo:bU Tryz.prog 87 2=some (2,33):=ZH
def Tryz.CU:Tryz.prog.cellsOf 90=2:=ZH
def Tryz.CV:Tryz.prog.bytesOf 90=48:=ZH
def Tryz.CW:cw Tryz.prog 90=some [.lit (.slice none 0 0),.lit (.slice none 0 0)]:=ZH
def Tryz.Oq:jw Tryz.prog 90=some [(0,1),(1,1)]:=ZH
def Tryz.Ot:bU Tryz.prog 90 0=some (0,42):=ZH
def Tryz.Ou:bU Tryz.prog 90 1=some (1,42):=ZH
def Tryz.CX:Tryz.prog.cellsOf 91=1:=ZH
def Tryz.CY:Tryz.prog.cellsOf 93=2:=ZH
def Tryz.Ov:bU Tryz.prog 93 0=some (0,5):=ZH
def Tryz.Ow:bU Tryz.prog 93 1=some (1,91):=ZH
def Tryz.CZ:Tryz.prog.cellsOf 95=1:=ZH
def Tryz.C0:Tryz.prog.bytesOf 95=24:=ZH
def Tryz.C2:cw Tryz.prog 95=some [.lit (.slice none 0 0)]:=ZH
def Tryz.zq:Tryz.prog.cellsOf 97=2:=ZH
def Tryz.zt:Tryz.prog.bytesOf 97=16:=ZH
def Tryz.zu:cw Tryz.prog 97=some [.lit (.int .i64 0),.lit (.int .i64 0)]:=ZH
def Tryz.Ox:Tryz.prog.cellsOf 115=1:=ZH
def Tryz.Oy:cw Tryz.prog 115=some [.lit (.pointer none)]:=ZH
def Tryz.Oz:Tryz.prog.cellsOf 117=1:=ZH
def Tryz.OA:cw Tryz.prog 119=some [.lit (.slice none 0 0),.lit (.slice none 0 0),.lit (.slice none 0 0)]:=ZH
def Tryz.OB:jw Tryz.prog 119=some [(0,1),(1,1),(2,1)]:=ZH
def Tryz.OC:bU Tryz.prog 119 0=some (0,117):=ZH
def Tryz.OD:bU Tryz.prog 119 1=some (1,42):=ZH
def Tryz.OE:bU Tryz.prog 119 2=some (2,42):=ZH
def Tryz.OF:Tryz.prog.cellsOf 122=1:=ZH
def Tryz.OG:Tryz.prog.cellsOf 128=3:=ZH
def Tryz.OH:cw Tryz.prog 128=some [.lit (.int .i64 0),.lit (.slice none 0 0),.lit (.slice none 0 0)]:=ZH
def Tryz.OI:jw Tryz.prog 128=some [(0,2),(2,1)]:=ZH
def Tryz.OJ:bU Tryz.prog 128 0=some (0,81):=ZH
def Tryz.OK:bU Tryz.prog 128 1=some (2,36):=ZH
def Tryz.OL:Tryz.prog.cellsOf 130=1:=ZH
def Tryz.OM:Tryz.prog.cellsOf 134=1:=ZH
def Tryz.ON:cw Tryz.prog 134=some [.lit (.pointer none)]:=ZH
def Tryz.OO:Tryz.prog.cellsOf 140=3:=ZH
def Tryz.OP:cw Tryz.prog 140=some [.lit (.slice none 0 0),.lit (.int .u16 0),.lit (.slice none 0 0)]:=ZH
def Tryz.OQ:jw Tryz.prog 140=some [(0,1),(1,1),(2,1)]:=ZH
def Tryz.OS:bU Tryz.prog 140 0=some (0,23):=ZH
def Tryz.OT:bU Tryz.prog 140 2=some (2,23):=ZH
def Tryz.C3:Tryz.prog.cellsOf 143=3:=ZH
def Tryz.OU:cw Tryz.prog 143=some [.lit (.int .u8 0),.lit (.int .u8 0),.lit (.slice none 0 0)]:=ZH
def Tryz.OV:bU Tryz.prog 143 0=some (0,5):=ZH
def Tryz.OW:bU Tryz.prog 143 1=some (1,5):=ZH
def Tryz.OX:bU Tryz.prog 143 2=some (2,23):=ZH
def Tryz.C4:Tryz.prog.cellsOf 147=1:=ZH
def Tryz.OY:Tryz.prog.cellsOf 164=1:=ZH
def Tryz.OZ:cw Tryz.prog 164=some [.lit (.map none)]:=ZH
def Tryz.O0:Tryz.prog.cellsOf 176=1:=ZH
def Tryz.O1:cw Tryz.prog 178=some [.lit (.int .i64 0),.lit (.slice none 0 0),.lit (.int .u64 0),.lit (.slice none 0 0),.lit (.slice none 0 0),.lit (.slice none 0 0),.lit (.slice none 0 0),.lit (.int .i64 0)]:=ZH
def Tryz.O2:jw Tryz.prog 178=some [(0,4),(4,1),(5,1),(6,1),(7,1)]:=ZH
def Tryz.O3:bU Tryz.prog 178 0=some (0,38):=ZH
def Tryz.O4:bU Tryz.prog 178 1=some (4,176):=ZH
def Tryz.O5:bU Tryz.prog 178 2=some (5,42):=ZH
def Tryz.O6:bU Tryz.prog 178 3=some (6,42):=ZH
def Tryz.O7:bU Tryz.prog 178 4=some (7,3):=ZH
def Tryz.C5:Tryz.prog.cellsOf 179=1:=ZH
def Tryz.C6:Tryz.prog.bytesOf 179=8:=ZH
def Tryz.C7:cw Tryz.prog 179=some [.lit (.pointer none)]:=ZH
def Tryz.O8:Tryz.prog.cellsOf 180=1:=ZH
def Tryz.O9:cw Tryz.prog 180=some [.lit (.slice none 0 0)]:=ZH
def Tryz.Pa:cw Tryz.prog 182=some [.lit (.int .i64 0),.lit (.int .i64 0),.lit (.slice none 0 0),.lit (.slice none 0 0),.lit (.slice none 0 0),.lit (.slice none 0 0),.lit (.slice none 0 0)]:=ZH
def Tryz.Pb:jw Tryz.prog 182=some [(0,1),(1,1),(2,1),(3,1),(4,1),(5,1),(6,1)]:=ZH
def Tryz.Pc:bU Tryz.prog 182 0=some (0,3):=ZH
def Tryz.Pd:bU Tryz.prog 182 1=some (1,3):=ZH
def Tryz.Pe:bU Tryz.prog 182 2=some (2,42):=ZH
def Tryz.Pf:bU Tryz.prog 182 3=some (3,180):=ZH
def Tryz.Pg:bU Tryz.prog 182 4=some (4,42):=ZH
def Tryz.Ph:bU Tryz.prog 182 5=some (5,42):=ZH
def Tryz.Pi:bU Tryz.prog 182 6=some (6,42):=ZH
def Tryz.Pj:Tryz.prog.cellsOf 184=1:=ZH
def Tryz.Pk:Tryz.prog.cellsOf 201=5:=ZH
def Tryz.Pl:cw Tryz.prog 201=some [.lit (.int .i64 0),.lit (.slice none 0 0),.lit (.slice none 0 0),.lit (.slice none 0 0),.lit (.slice none 0 0)]:=ZH
def Tryz.Pm:jw Tryz.prog 201=some [(0,2),(2,1),(3,1),(4,1)]:=ZH
def Tryz.Pn:bU Tryz.prog 201 0=some (0,81):=ZH
def Tryz.Po:bU Tryz.prog 201 1=some (2,42):=ZH
def Tryz.Pp:bU Tryz.prog 201 2=some (3,84):=ZH
theorem Tryz.Pq:bU Tryz.prog 201 3=some (4,42):=ZH
attribute [go_sem] Tryz.underlying3 Tryz.fE Tryz.gG Tryz.fF Tryz.underlying4 Tryz.CN Tryz.NK Tryz.NL Tryz.underlying5 Tryz.sf Tryz.NM Tryz.NN
attribute [go_sem] Tryz.underlying9 Tryz.underlying22 Tryz.CO Tryz.underlying23 Tryz.zm
attribute [go_sem] Tryz.underlying24 Tryz.underlying25 Tryz.CP
attribute [go_sem] Tryz.NO Tryz.NP Tryz.NQ Tryz.underlying26 Tryz.CQ Tryz.underlying27
attribute [go_sem] Tryz.underlying28 Tryz.NR Tryz.NS Tryz.NT
attribute [go_sem] Tryz.NU Tryz.NV Tryz.underlying29 Tryz.underlying30
attribute [go_sem] Tryz.underlying31
attribute [go_sem] Tryz.underlying32
attribute [go_sem] Tryz.underlying33 Tryz.NW Tryz.NX Tryz.underlying34 Tryz.NY Tryz.underlying35 Tryz.CR Tryz.CS Tryz.CT
attribute [go_sem] Tryz.underlying36 Tryz.NZ Tryz.underlying37
attribute [go_sem] Tryz.underlying38 Tryz.N0 Tryz.N1 Tryz.N2 Tryz.N3 Tryz.N4 Tryz.N5 Tryz.N6 Tryz.underlying42 Tryz.nW
attribute [go_sem] Tryz.nX Tryz.nY Tryz.underlying44 Tryz.underlying45 Tryz.underlying46 Tryz.N7
attribute [go_sem] Tryz.N8 Tryz.underlying49 Tryz.underlying50 Tryz.N9
attribute [go_sem] Tryz.Oa Tryz.Ob Tryz.Oc Tryz.Od Tryz.underlying61 Tryz.underlying62
attribute [go_sem] Tryz.underlying68 Tryz.underlying80 Tryz.underlying81
attribute [go_sem] Tryz.Oe Tryz.Of Tryz.Og Tryz.Oh Tryz.Oi Tryz.underlying84 Tryz.Oj Tryz.underlying86
attribute [go_sem] Tryz.underlying87 Tryz.zn Tryz.zo Tryz.zp Tryz.Ol Tryz.Om
attribute [go_sem] Tryz.On Tryz.Oo Tryz.underlying89 Tryz.underlying90 Tryz.CU Tryz.CV
attribute [go_sem] Tryz.CW Tryz.Oq Tryz.Ot Tryz.Ou Tryz.underlying91 Tryz.CX Tryz.underlying92
attribute [go_sem] Tryz.underlying93 Tryz.CY Tryz.Ov Tryz.Ow Tryz.underlying95 Tryz.CZ
attribute [go_sem] Tryz.C0 Tryz.C2 Tryz.underlying97 Tryz.zq Tryz.zt Tryz.zu Tryz.underlying115 Tryz.Ox Tryz.Oy Tryz.underlying117 Tryz.Oz
attribute [go_sem] Tryz.underlying118 Tryz.underlying119
attribute [go_sem] Tryz.OA Tryz.OB Tryz.OC Tryz.OD Tryz.OE Tryz.underlying122 Tryz.OF Tryz.underlying127
attribute [go_sem] Tryz.underlying128 Tryz.OG Tryz.OH Tryz.OI Tryz.OJ Tryz.OK
attribute [go_sem] Tryz.underlying130 Tryz.OL Tryz.underlying134 Tryz.OM Tryz.ON Tryz.underlying139
attribute [go_sem] Tryz.underlying140 Tryz.OO Tryz.OP Tryz.OQ Tryz.OS Tryz.OT
attribute [go_sem] Tryz.underlying142 Tryz.underlying143 Tryz.C3 Tryz.OU
attribute [go_sem] Tryz.OV Tryz.OW Tryz.OX Tryz.underlying147 Tryz.C4 Tryz.underlying164 Tryz.OY Tryz.OZ
attribute [go_sem] Tryz.underlying176 Tryz.O0 Tryz.underlying177
attribute [go_sem] Tryz.underlying178 Tryz.O1 Tryz.O2 Tryz.O3 Tryz.O4 Tryz.O5 Tryz.O6 Tryz.O7
attribute [go_sem] Tryz.underlying179 Tryz.C5 Tryz.C6 Tryz.C7 Tryz.underlying180 Tryz.O8 Tryz.O9 Tryz.underlying181
attribute [go_sem] Tryz.underlying182 Tryz.Pa
attribute [go_sem] Tryz.Pb Tryz.Pc Tryz.Pd Tryz.Pe Tryz.Pf Tryz.Pg Tryz.Ph Tryz.Pi Tryz.underlying184 Tryz.Pj
attribute [go_sem] Tryz.underlying200 Tryz.underlying201 Tryz.Pk
attribute [go_sem] Tryz.Pl Tryz.Pm Tryz.Pn Tryz.Po Tryz.Pp Tryz.Pq Tryz.underlying212 Tryz.underlying215
attribute [go_sem] Tryz.underlying221 Tryz.underlying231
def aE (l:List (List Int)):ZK:=.Q l.length (l.map ah)
structure ZL where
 L:Int
 F:List Int
 na:List (List Int)
structure ZY where
 vars:List Int
 w:List Int
def ZL.cells (x:ZL):List ZK:=[aa x.L,ah x.F,aE x.na]
def ZY.cells (x:ZY):List ZK:=[ah x.vars,ah x.w]
def aG (l:List ZL):List ZK:=(l.map ZL.cells).flatten
def bj (l:List ZY):List ZK:=(l.map ZY.cells).flatten
def dX (l:List ZL):ZK:=.Q l.length (aG l)
def wJ (l:List ZY):ZK:=.Q l.length (bj l)
def dJ (g:Int)(l:List ZL):ZK:=.agg [aa g,dX l]
structure ZM where
 X:Int
 C:List ZL
 Y:Nat
 nn:List ZY
def cM (d:ZM):ZK:=.agg [aa d.X,dX d.C,.lit (.int .u64 (d.Y:Int)),wJ d.nn]
def jW {f:α->List ZK}(hz:∀a,(f a).length=z):∀(l:List α) (i j:Nat) (a:α),l[i]?=some a->j<z->((l.map f).flatten)[i*z+j]?=(f a)[j]?:=by
 intro l
 induction l with
 |nil=>intro i j a h;simp at h
 |cons x l ih =>
  intro i j a h hj;simp only[List.map_cons,List.flatten_cons];cases i with
  |zero =>
   simp only[List.getElem?_cons_zero,Option.some.injEq]at h;subst h;rw[XB,Nat.zero_add,VH (by rw[hz];exact hj)]
  |succ i =>
   have:(i+1)*z+j=z+(i*z+j):=(by rw[Wx];omega);rw[this,VS (by rw[hz];omega),hz];have:z+(i*z+j)-z=i*z+j:=O;rw[this];exact ih i j a (by simpa using h) hj
def mh {f:α->List ZK}(hz:∀a,(f a).length=z)(l:List α):((l.map f).flatten).length=l.length*z:=by
 induction l with
 |nil=>simp
 |cons x l ih=>simp only[List.map_cons,List.flatten_cons,List.length_append,ih,hz,List.length_cons];rw[Wx];omega
def pD {f:α->List ZK}(hz:∀a,(f a).length=z):∀(l:List α) (i:Nat) (a:α),l[i]?=some a->(((l.map f).flatten).drop (i*z)).take z=f a:=by
 intro l i a h;apply V9;intro j;by_cases hj:j<z
 ·rw[V4 hj,WJ,jW hz l i j a h hj]
 ·rw[VD (by simp;omega),VD (by rw[hz];omega)]
def kV (l:List ZL):(aG l).length=l.length*3:=mh (f:=ZL.cells) (fun _=>rfl) l
variable {l:List ZL}{x:ZL}
def iS (h:l[i]?=some x):(aG l)[i*3]?=some (aa x.L):=jW (f:=ZL.cells) (z:=3) (fun _=>rfl) l i 0 x h (O)
def mR (h:l[i]?=some x):(aG l)[i*3+1]?=some (ah x.F):=jW (f:=ZL.cells) (z:=3) (fun _=>rfl) l i 1 x h (O)
def wK (h:l[i]?=some x):(aG l)[i*3+2]?=some (aE x.na):=jW (f:=ZL.cells) (z:=3) (fun _=>rfl) l i 2 x h (O)
def qE (h:l[i]?=some x):((aG l).drop (i*3)).take 3=[aa x.L,ah x.F,aE x.na]:=pD (f:=ZL.cells) (z:=3) (fun _=>rfl) l i x h
def eT (h:l[i]?=some x):¬aG l=[]:=fun e=>by
 have:=iS h;rw[e]at this;simp at this
def zB (l:List ZY):(bj l).length=l.length*2:=mh (f:=ZY.cells) (fun _=>rfl) l
def PP {l:List ZY}{x:ZY}(h:l[i]?=some x):(bj l)[i*2]?=some (ah x.vars):=jW (f:=ZY.cells) (z:=2) (fun _=>rfl) l i 0 x h (O)
def zC {l:List ZY}{x:ZY}(h:l[i]?=some x):((bj l).drop (i*2)).take 2=[ah x.vars,ah x.w]:=pD (f:=ZY.cells) (z:=2) (fun _=>rfl) l i x h
def zD {l:List ZY}{x:ZY}(h:l[i]?=some x):¬bj l=[]:=fun e=>by
 have:=PP h;rw[e]at this;simp at this
def aI {l:List α}{x:α}(h:l[i]?=some x):i<l.length:=by
 rcases VV i l.length with h'|h'
 ·exact h'
 ·rw[VD h']at h;cases h
def ao {l:List α}(h:i<l.length):∃x,l[i]?=some x:=⟨_,Vz h⟩
def n9 {l:List α}{i:Int}(h0:0<=i)(h:i<l.length):∃k:Nat,i=k/\∃x,l[k]?=some x:=⟨i.toNat,O,ao O⟩
def aj (l:List Int):Int:=l.foldl (·*·) 1
def Dk (l:List Int)(a:Int):l.foldl (·*·) a=a*aj l:=by
 unfold aj
 induction l generalizing a with
 |nil=>simp
 |cons x l ih=>simp only[V6];rw[ih,ih (1*x),Yh,X1]
def iT:aj []=1:=rfl
def je (x:Int)(l:List Int):aj (x :: l)=x*aj l:=by
 show List.foldl _ (1*x) l=_;rw[Dk,Yh]
def sh (l l':List Int):aj (l++l')=aj l*aj l':=by
 unfold aj;rw[WD,Dk];rfl
def gQ (l:List Int)(x:Int):aj (l++[x])=aj l*x:=by rw[sh,je,iT,Yi]
def aU {l:List α}{k:Nat}{x:α}(h:l[k]?=some x):l.take (k+1)=l.take k++[x]:=by
 rw[YN,h];rfl
def dY {l:List Int}(h:∀x∈l,1<=x):1<=aj l:=by
 induction l with
 |nil=>decide
 |cons x l ih =>
  rw[je];have h1:=ih fun y hy=>h y (by simp[hy]);have h2:=h x ZF;have:=Ww h2 h1 O O;simpa using this
def oa {b:Int}{l:List Int}(hb:0<=b)(h:∀x∈l,0<=x/\x<=b):0<=aj l/\aj l<=b ^ l.length:=by
 induction l with
 |nil=>exact⟨ZG,by simp[aj]⟩
 |cons x l ih =>
  rw[je];have h1:=ih fun y hy=>h y (by simp[hy]);have h2:=h x ZF;refine⟨WT h2.1 h1.1,?_⟩;have:=Ww h2.2 h1.2 h1.1 hb;rw[List.length_cons,W4,W5 (b ^ l.length)];exact this
def ak (l:List ZL):List Int:=l.map (·.L)
def aK (l places:List Int):List Int:=places.map fun p=>l.getD p.toNat 0
def cQ (places:List Int)(n:Int):Prop:=places.Pairwise (·<·)/\∀p∈places,0<=p/\p<n
end Go.Proofs
set_option maxRecDepth 100000
namespace Go.Proofs
open Go.Hx
def G0:Nat->Option (List ZK):=ze
def aJ:gD G0:=MP
end Go.Proofs
namespace Go.Hx
variable {P:Program} {G:Nat->Option (List ZK)} {Γ Γ':aH} {H H':ZJ} {w w':World}
variable {Q:AX->St->Prop}{c:Code}{ρ:Env}{n:Nat}{rd:Option Nat}
def W.env {H:ZJ}(h:∀E,E=ρ->W P G n rd c Q ⟨E,H⟩):W P G n rd c Q ⟨ρ,H⟩:=h ρ rfl
def W.en {H:ZJ}(p:Env->Prop)(hp:p ρ)(h:∀E,p E->W P G n rd c Q ⟨E,H⟩):W P G n rd c Q ⟨ρ,H⟩:=h ρ hp
def Below.mono {m:Nat}{v:ZK}(h:Below n v)(hm:n<=m):Below m v:=by
 induction h with
 |lit v=>exact .lit v
 |Q h ih=>exact .Q ih
 |ni h ih=>exact .ni ih
 |agg h ih=>exact .agg ih
 |nf h ih=>exact .nf ih
 |Z h1 h2 ih1 ih2=>exact .Z ih1 ih2
 |U h=>exact .U (O)
 |M h=>exact .M (O)
 |np h=>exact .np (O)
theorem Gn (H:ZJ)(op:BinOp)(a:List ZK)(y:ZK):lV H op (.agg a) y=none:=by unfold lV;split<;>rfl
attribute [go_sem] Gn
def iK {l:List ZK}{i:Nat}{x:ZK}(h:i<l.length):setAt l i [x]=l.set i x:=by
 unfold setAt;rw[YI,VA h];simp
def ZN.qh {B H:ZJ}(h:ZN B H)(hn:B.A<=n):ZN B (H.cut n):=⟨h.A,fun id hi=>(wA O).trans (h.nb id hi)⟩
section
variable {t:TypeId} {x y:Operand} {k k':IntKind} {a b:Int}
def vk (hb:0<=b):bI P .shr t x y (.lit (.int k a)) (.lit (.int k' b))=some (.lit (.int k (a.fdiv (2 ^ (min b.toNat k.bits))))):=by
 have h:¬b<0:=O
 simp[bI,ZK.dG,eqGuard,binOp,Op.shift,h,bQ,bind,Sem.bind,pure]
def AV (hb:0<=b):bI P .shl t x y (.lit (.int k a)) (.lit (.int k' b))=some (.lit (.int k (k.wrap (a*2 ^ (min b.toNat k.bits))))):=by
 have h:¬b<0:=O
 simp[bI,ZK.dG,eqGuard,binOp,Op.shift,h,bQ,bind,Sem.bind,pure]
def vm:bI P .and t x y (.lit (.int k a)) (.lit (.int k b))=some (.lit (.int k (k.wrap ((BitVec.ofInt k.bits a &&& BitVec.ofInt k.bits b).toNat:Nat)))):=by
 simp[bI,ZK.dG,eqGuard,binOp,Op.intBits,bQ,bind,Sem.bind,pure]
def UR:bI P .or t x y (.lit (.int k a)) (.lit (.int k b))=some (.lit (.int k (k.wrap ((BitVec.ofInt k.bits a |||BitVec.ofInt k.bits b).toNat:Nat)))):=by
 simp[bI,ZK.dG,eqGuard,binOp,Op.intBits,bQ,bind,Sem.bind,pure]
def US:bI P .andNot t x y (.lit (.int k a)) (.lit (.int k b))=some (.lit (.int k (k.wrap ((BitVec.ofInt k.bits a &&& ~~~ BitVec.ofInt k.bits b).toNat:Nat)))):=by
 simp[bI,ZK.dG,eqGuard,binOp,Op.intBits,bQ,bind,Sem.bind,pure]
def bY (m:Nat):ZK:=.lit (.int .u64 (m:Int))
def ju (a b:Nat):Nat:=(BitVec.ofNat 64 a &&& ~~~ BitVec.ofNat 64 b).toNat
def xX {m:Nat}(h:m<2 ^ 64):(BitVec.ofInt 64 (m:Int)).toNat=m:=by rw[BitVec.ofInt_natCast,BitVec.toNat_ofNat,X7 h]
def Gp (a b:Nat):ju a b<2 ^ 64:=(BitVec.isLt _)
def AW {a b i:Nat}(ha:a<2 ^ 64):(ju a b).testBit i=(a.testBit i && !b.testBit i):=by
 unfold ju;by_cases hi:i<64
 ·rw[<- BitVec.getLsbD,BitVec.getLsbD_and,BitVec.getLsbD_not,BitVec.getLsbD_ofNat,BitVec.getLsbD_ofNat];simp[hi]
 ·have h1:a.testBit i=false:=Yw (VM ha (V0 ZG O));rw[h1,<- BitVec.getLsbD,BitVec.getLsbD_of_ge _ _ O];rfl
def xY {m:Nat}(h:m<2 ^ 64):IntKind.u64.wrap (m:Int)=m:=W8 _ (O)
def xZ {a b:Nat}(ha:a<2 ^ 64)(hb:b<2 ^ 64):bI P .and t x y (.lit (.int .u64 (a:Int))) (.lit (.int .u64 (b:Int)))=some (.lit (.int .u64 ((a &&& b:Nat):Int))):=by
 rw[vm];have e:(BitVec.ofInt (IntKind.bits .u64) (a:Int) &&& BitVec.ofInt (IntKind.bits .u64) (b:Int)).toNat=a &&& b:=by
  show (BitVec.ofInt 64 _ &&& BitVec.ofInt 64 _).toNat=_;rw[BitVec.toNat_and,xX ha,xX hb]
 rw[e,xY (YH Nat.and_le_left ha)]
def lO {a b:Nat}(ha:a<2 ^ 64)(hb:b<2 ^ 64):bI P .or t x y (.lit (.int .u64 (a:Int))) (.lit (.int .u64 (b:Int)))=some (.lit (.int .u64 ((a |||b:Nat):Int))):=by
 rw[UR];have e:(BitVec.ofInt (IntKind.bits .u64) (a:Int) |||BitVec.ofInt (IntKind.bits .u64) (b:Int)).toNat=a |||b:=by
  show (BitVec.ofInt 64 _ |||BitVec.ofInt 64 _).toNat=_;rw[BitVec.toNat_or,xX ha,xX hb]
 rw[e,xY (Xx ha hb)]
def AY {a b:Nat}:bI P .andNot t x y (.lit (.int .u64 (a:Int))) (.lit (.int .u64 (b:Int)))=some (.lit (.int .u64 ((ju a b:Nat):Int))):=by
 rw[US];have e:(BitVec.ofInt (IntKind.bits .u64) (a:Int) &&& ~~~ BitVec.ofInt (IntKind.bits .u64) (b:Int)).toNat=ju a b:=by
  show (BitVec.ofInt 64 _ &&& ~~~ BitVec.ofInt 64 _).toNat=_;rw[BitVec.ofInt_natCast,BitVec.ofInt_natCast];rfl
 rw[e,xY (Gp a b)]
def nE {a s:Nat}(ha:a<2 ^ 64):bI P .shr t x y (.lit (.int .u64 (a:Int))) (.lit (.int k' (s:Int)))=some (.lit (.int .u64 ((a >>> s:Nat):Int))):=by
 rw[vk O,Int.toNat_natCast];have e:(a:Int).fdiv (2 ^ (min s (IntKind.bits .u64)))=((a >>> s:Nat):Int):=by
  rw[Y5 _ (by exact_mod_cast WO _),Yo];show (a:Int) / 2 ^ (min s 64)=_;rcases Nat.le_total s 64 with h|h
  ·rw[Xk h];push_cast;rfl
  ·rw[Nat.min_eq_right h];have h1:a / 2 ^ s=0:=Xb (VM ha (V0 ZG h));rw[h1];exact XH O (O)
 rw[e]
def oU {s:Nat}(hs:s<64):bI P .shl t x y (.lit (.int .u64 1)) (.lit (.int k' (s:Int)))=some (.lit (.int .u64 ((2 ^ s:Nat):Int))):=by
 rw[AV O,Int.toNat_natCast];have e:min s (IntKind.bits .u64)=s:=Xk (by show s<=64;omega);have h2:2 ^ s<2 ^ 64:=WY ZG hs;rw[e,Yh];have h3:((2:Int) ^ s)=((2 ^ s:Nat):Int):=by push_cast;rfl
 rw[h3,xY h2]
def oV {a s:Nat}(ha:a<2 ^ 64):bI P .and t x y (.lit (.int .u64 ((a >>> s:Nat):Int))) (.lit (.int .u64 1))=some (.lit (.int .u64 (if a.testBit s then 1 else 0))):=by
 have h1:a >>> s<2 ^ 64:=YH (Nat.shiftRight_le _ _) ha;have:=xZ (P:=P) (t:=t) (x:=x) (y:=y) (a:=a >>> s) (b:=1) h1 ZG;rw[show (((1:Nat):Int))=1 from rfl]at this;rw[this,Nat.and_one_is_mod];congr 3;rw[Nat.testBit,Nat.and_comm,Nat.and_one_is_mod];rcases Nat.mod_two_eq_zero_or_one (a >>> s) with h|h<;>rw[h]<;>rfl
end
end Go.Hx
namespace Go.Proofs
open Go.Hx
variable {a b c n v:Int}{cs l:List Int}{i j k:Nat}{α:Type}
def dA (H:ZJ)(b:ZQ)(L:List ZQ):(ext H (b :: L)).get H.A=some b:=bH H (b :: L) 0 (ZF)
def AZ (l:List Int)(n:Nat):(ints l).take n=ints (l.take n):=by simp[ints]
def A0 (l:List Int)(n:Nat):(ints l).drop n=ints (l.drop n):=by simp[ints]
def aO {l:List α}{a:α}(h:l[i]?=some a):¬l=[]:=by rintro rfl;simp at h
def gJ {x:Int}(h:i<l.length):setAt (ints l) i [.lit (.int .i64 x)]=ints (l.set i x):=by
 rw[iK (by simpa[ints] using h)];simp[ints,aa]
def A1 (w:Bool):rZ w (some (.lit undef))=some false:=rfl
def aV (ns:List ZL)(x:ZL):List Int:=aK (ak ns) x.F
def bW:List Int->List Int->Int
 |_ :: cs,v :: vs=>v*aj cs+bW cs vs
 |_,_=>0
def aS:List Int->Int->List Int
 | [],_=>[]
 |c :: cs,i=>i / aj cs % c :: aS cs i
def mi (cs:List Int)(i:Int):(aS cs i).length=cs.length:=by
 induction cs with
 |nil=>rfl
 |cons c cs ih=>simp[aS,ih]
def pE {l:List α}{a:α}(h:l[k]?=some a):l.drop k=a :: l.drop (k+1):=by
 rw[Wt (aI h)];congr 1;have:=Vz (aI h);rw[h]at this;exact(Option.some.inj this).symm
def zE (h:∀c∈cs,1<=c)(i:Int):∀(k:Nat) (c v:Int),cs[k]?=some c->(aS cs i)[k]?=some v->0<=v/\v<c:=by
 induction cs with
 |nil=>intro k c v h;simp at h
 |cons a cs ih =>
  intro k c v h1 h2;cases k with
  |zero =>
   simp only[aS,List.getElem?_cons_zero,Option.some.injEq]at h1 h2;subst h1;subst h2;have:=h a ZF;exact⟨WS _ O,WB _ O⟩
  |succ k =>
   simp only[aS,List.getElem?_cons_succ]at h1 h2;exact ih (fun c hc=>h c (by simp[hc])) k c v h1 h2
def bZ (cs vs:List Int):Prop:=vs.length=cs.length/\∀(k:Nat) (c v:Int),cs[k]?=some c->vs[k]?=some v->0<=v/\v<c
def bZ.tail {vs:List Int}(h:bZ (c :: cs) (v :: vs)):bZ cs vs:=⟨by simpa using h.1,fun k c v h1 h2=>h.2 (k+1) c v (by simpa using h1) (by simpa using h2)⟩
def bZ.head {vs:List Int}(h:bZ (c :: cs) (v :: vs)):0<=v/\v<c:=h.2 0 c v ZF (ZF)
def bZ.pos {vs:List Int}(h:bZ cs vs):∀c∈cs,1<=c:=fun c hc=>by
 obtain⟨k,hk⟩:=VG.1 hc;obtain⟨v,hv⟩:=ao (l:=vs) (i:=k) (by rw[h.1];exact aI hk);have:=h.2 k c v hk hv;omega
def pF (h:∀c∈cs,1<=c)(i:Int):bZ cs (aS cs i):=⟨mi cs i,zE h i⟩
def mS:∀ {cs vs:List Int},bZ cs vs->0<=bW cs vs/\bW cs vs<aj cs:=by
 intro cs
 induction cs with
 |nil=>intro vs _;cases vs<;>(simp[bW,iT])
 |cons c cs ih =>
  intro vs h;cases vs with
  |nil=>exact absurd h.1 (ZF)
  |cons v vs =>
   have h1:=ih h.tail;have h2:=h.head;have hp:1<=aj cs:=dY fun x hx=>h.pos x (by simp[hx]);rw[je];simp only[bW];have h3:0<=v*aj cs:=WT h2.1 O;have h4:(v+1)*aj cs<=c*aj cs:=W9 O O;rw[Y4,Yh]at h4;omega
def sj:∀ {cs vs:List Int},bZ cs vs->aS cs (bW cs vs)=vs:=by
 have key:∀(cs:List Int) (i a c:Int),(∀x∈cs,1<=x)->aS cs (a*aj cs*c+i)=aS cs i:=by
  intro cs
  induction cs with
  |nil=>intros;rfl
  |cons x cs ih =>
   intro i a c h;have hx:=h x ZF;have hp:1<=aj cs:=dY fun y hy=>h y (by simp[hy]);simp only[aS,je];have e1:a*(x*aj cs)*c+i=i+aj cs*(x*(a*c)):=by
    rw[Zo];congr 1;ac_rfl
   have e2:a*(x*aj cs)*c+i=a*aj cs*(x*c)+i:=(by congr 1;ac_rfl);congr 1
   ·rw[e1,Zn _ _ O,Y6]
   ·rw[e2];exact ih i a (x*c) fun y hy=>h y (by simp[hy])
 intro cs
 induction cs with
 |nil=>intro vs h;cases vs with
  |nil=>rfl
  |cons=>exact absurd h.1 (ZF)
 |cons c cs ih =>
  intro vs h;cases vs with
  |nil=>exact absurd h.1 (ZF)
  |cons v vs =>
   have hp:1<=aj cs:=dY fun x hx=>h.pos x (by simp[hx]);have hr:=mS h.tail;have h2:=h.head;simp only[bW,aS];congr 1
   ·rw[Zo,Zh _ _ O,XH hr.1 hr.2,YB,Xz h2.1 h2.2]
   ·have:=key cs (bW cs vs) v 1 fun x hx=>h.pos x (by simp[hx]);rw[Yi]at this;rw[this];exact ih h.tail
def Dl (i m n:Int)(hm:0<m)(hn:0<n):i % (m*n)=i % m+m*(i / m % n):=by
 have h1:=XO i (m*n);have h2:=XO i m;have h3:=XO (i / m) n;have h4:i / m / n=i / (m*n):=Int.ediv_ediv_of_nonneg O;rw[h4]at h3;have h5:m*(i / m)=m*(i / m % n)+m*n*(i / (m*n)):=by
  conv=>lhs;rw[<- h3]
  rw[Yj,X1]
 omega
def um (h:∀c∈cs,1<=c):∀ {i:Int},0<=i->i<aj cs->bW cs (aS cs i)=i:=by
 have:∀(cs:List Int) (i:Int),(∀c∈cs,1<=c)->bW cs (aS cs i)=i % aj cs:=by
  intro cs
  induction cs with
  |nil=>intro i _;simp[bW,aS,iT]
  |cons c cs ih =>
   intro i h;have hp:1<=aj cs:=dY fun x hx=>h x (by simp[hx]);simp only[bW,aS];rw[ih i fun x hx=>h x (by simp[hx]),je,W5 c,Dl _ _ _ (by omega:0<aj cs) (by have:=h c ZF;omega)];rw[W5];omega
 intro i h0 h1;rw[this cs i h,Xz h0 h1]
def fG (cs vs:List Int):Int:=(cs.zip vs).foldl (fun a p=>a*p.1+p.2) 0
def PQ:∀(cs vs:List Int),vs.length=cs.length->∀a,(cs.zip vs).foldl (fun a p=>a*p.1+p.2) a=a*aj cs+bW cs vs:=by
 intro cs
 induction cs with
 |nil=>intro vs _ a;simp[iT,bW]
 |cons c cs ih =>
  intro vs h a;cases vs with
  |nil=>simp at h
  |cons v vs =>
   simp only[V7,V6];rw[ih vs (by simpa using h),je];simp only[bW];rw[Y4,X1];omega
def sk {vs:List Int}(h:vs.length=cs.length):fG cs vs=bW cs vs:=by
 unfold fG;rw[PQ cs vs h];omega
def sr {vs:List Int}(h1:cs[k]?=some c)(h2:vs[k]?=some v):fG (cs.take (k+1)) (vs.take (k+1))=fG (cs.take k) (vs.take k)*c+v:=by
 unfold fG;rw[aU h1,aU h2,List.zip_append (by have:=aI h1;have:=aI h2;simp;omega),WD];rfl
def mj:List Int->List Int->Option (List Int)
 |c :: cs,v :: vs=>match mj cs vs with
  |some ws=>some (v :: ws)
  |none=>if v+1<c then some ((v+1) :: cs.map fun _=>0) else none
 |_,_=>none
def zF (h:∀c∈cs,1<=c):aS cs 0=cs.map fun _=>0:=by
 induction cs with
 |nil=>rfl
 |cons c cs ih=>simp[aS,ih fun x hx=>h x (by simp[hx])]
def Dm:∀ {cs vs:List Int},bZ cs vs->mj cs vs=if bW cs vs+1<aj cs then some (aS cs (bW cs vs+1)) else none:=by
 intro cs
 induction cs with
 |nil=>intro vs h;cases vs with
  |nil=>simp[mj,bW,iT]
  |cons=>exact absurd h.1 (ZF)
 |cons c cs ih =>
  intro vs h;cases vs with
  |nil=>exact absurd h.1 (ZF)
  |cons v vs =>
   have hpos:∀x∈cs,1<=x:=fun x hx=>h.pos x (by simp[hx]);have hp:1<=aj cs:=dY hpos;have hr:=mS h.tail;have h2:=h.head;have hv:=sj h.tail;simp only[mj,ih h.tail,bW,je];by_cases hb:bW cs vs+1<aj cs
   ·rw[VA hb];have h4:(v+1)*aj cs<=c*aj cs:=W9 O O;rw[Y4,Yh]at h4;have hlt:v*aj cs+bW cs vs+1<c*aj cs:=O;rw[VA hlt];simp only[aS];have g1:v=(v*aj cs+bW cs vs+1) / aj cs % c:=by
     rw[Int.add_assoc,Zo,Zh _ _ O,XH O hb,YB,Xz h2.1 h2.2]
    have g2:aS cs (bW cs vs+1)=aS cs (v*aj cs+bW cs vs+1):=by
     have e:bW cs vs+1=bW cs (aS cs (bW cs vs+1)):=(um hpos O hb).symm;have f:bZ (c :: cs) (v :: aS cs (bW cs vs+1)):=⟨by simp[mi],fun k c' v' h1 h3=>by
      cases k with
      |zero=>simp at h1 h3;subst h1;subst h3;exact h2
      |succ k=>exact zE hpos _ k c' v' (by simpa using h1) (by simpa using h3)⟩
     have:=sj f;simp only[bW,aS,List.cons.injEq]at this;rw[<- e]at this;rw[Int.add_assoc];exact this.2.symm
    rw[<- g1,<- g2]
   ·rw[Vx hb];have hi:bW cs vs+1=aj cs:=O;have e1:v*aj cs+bW cs vs+1=(v+1)*aj cs:=(by rw[Y4];omega);rw[e1];by_cases hc:v+1<c
    ·rw[VA hc];have h4:(v+1)*aj cs<c*aj cs:=Int.mul_lt_mul_of_pos_right hc O;rw[VA h4];simp only[aS];congr 1;congr 1
     ·rw[Int.mul_ediv_cancel _ O,Xz O hc]
     ·have f:bZ (c :: cs) ((v+1) :: aS cs 0):=⟨by simp[mi],fun k c' v' h1 h3=>by
       cases k with
       |zero=>simp at h1 h3;subst h1;subst h3;omega
       |succ k=>exact zE hpos _ k c' v' (by simpa using h1) (by simpa using h3)⟩
      have:=sj f;simp only[bW,aS,List.cons.injEq]at this;rw[um hpos (Int.le_refl 0) O,XP]at this;rw[this.2,zF hpos]
    ·rw[Vx hc];have h4:c*aj cs<=(v+1)*aj cs:=W9 O O;rw[Vx O]
def dV (l:List Int):Prop:=l.length<=12/\∀x∈l,0<=x/\x<=8
def dV.prod (h:dV l):0<=aj l/\aj l<=68719476736:=by
 have h1:=oa (b:=8) O h.2;have h2:(8:Int) ^ l.length<=8 ^ 12:=by
  have:(8:Nat) ^ l.length<=8 ^ 12:=V0 ZG h.1
  exact_mod_cast this
 exact⟨h1.1,X5 h1.2 h2⟩
theorem dV.take (h:dV l)(k:Nat):dV (l.take k):=⟨by have:=h.1;simp;omega,fun x hx=>h.2 x (VU hx)⟩
theorem dV.drop (h:dV l)(k:Nat):dV (l.drop k):=⟨by have:=h.1;simp;omega,fun x hx=>h.2 x (WZ hx)⟩
def SQ (l:List Int)(hl:dV l)(H:ZJ)(K:ZP->ZJ->Prop)(hK:K (.ret (aa (aj l))) H):ag Tryz.prog G0 75 [ah l] H K:=by
 have l12:=hl.1;refine ag.st (n:=18) (rs:=[.tmp 2]) Tryz.func75 ?_;simp only[go_sem];refine W.aP 131064 (by rfl) (fun ρ H'=>H'=H/\∃k:Nat,ρ 4=aa k/\k<=l.length/\ρ 3=aa (aj (l.take k))) (fun ρ H=>l.length-(iv (ρ 4)).toNat) ?_ ?_
 ·simp only[go_sem];exact⟨0,rfl,O,by simp[iT]⟩
 rintro ρ H' ⟨rfl,k,h4,hk,h3⟩;refine W.vs ?_;by_cases hb:(k:Int)<l.length
 ·obtain⟨c,hc⟩:=ao (l:=l) (i:=k) O;have hne:=aO hc;have b1:=(hl.take (k+1)).prod;rw[aU hc,gQ]at b1;simp only[go_sem,h4,h3,hb,hc,hne];rw[Vv ((k:Int)+1) O,Vv (_*c) O];exact⟨⟨k+1,ZF,O,by rw[aU hc,gQ]⟩,O⟩
 ·simp only[go_sem,h4,h3,hb];rw[Vy O];exact aq.mk ZI hK
def sX (x:List Int)(hx:(x.length:Int)<2 ^ 40)(H:ZJ)(K:ZP->ZJ->Prop)(hK:K (.ret (ah x)) H):ag Tryz.prog G0 36 [ah x] H K:=by
 refine ag.Z ⟨_,Tryz.func36,rfl,rfl⟩ fun hc=>?_;refine ag.st (n:=8) (rs:=[.tmp 2]) Tryz.func36 ?_;simp only[go_sem];intro b hlen;cases b with
 |true =>
  have hx0:x=[]:=VF (by
   by_cases h:0<x.length
   ·have:=hlen (by simpa using h);cases this
   ·omega)
  simp only[go_sem];subst hx0;exact aq.K3 aJ hc .yS hK
 |false =>
  by_cases h0:x.length=0
  ·have hx0:x=[]:=VF h0;subst hx0;simp only[go_sem,bf];refine⟨⟨rfl,rfl⟩,aq.drop (v':=ah []) aJ hc ?_ hK⟩;exact .ints ZI (dA ..) rfl fun i hi=>absurd hi (VN _)
  ·simp only[go_sem,h0,bf];refine⟨⟨rfl,O,O,ko x⟩,aq.drop aJ hc ?_ hK⟩;exact .ints ZI (dA ..) rfl fun i hi=>by simp[fa,hi]
instance placesDec (l:List Int)(n:Int):Decidable (cQ l n):=by unfold cQ;infer_instance
theorem cQ.nil :cQ [] n:=⟨.nil,fun _ h=>by cases h⟩
theorem cQ.take (h:cQ l n)(k:Nat):cQ (l.take k) n:=⟨h.1.sublist (List.take_sublist k l),fun p hp=>h.2 p (VU hp)⟩
def cQ.snoc (h:cQ l n)(ha:0<=a/\a<n)(hl:∀b,l.getLast?=some b->b<a):cQ (l++[a]) n:=by
 refine⟨Xu.2 ⟨h.1,ZF,fun x hx y hy=>?_⟩,fun p hp=>?_⟩
 ·obtain rfl:=List.mem_singleton.1 hy;rcases XL l with rfl|⟨l',b,rfl⟩
  ·cases hx
  ·have hb:=hl b ZF;simp only[XM]at hx h;rcases V3.1 hx with hx|hx
   ·have:=(Xu.1 h.1).2.2 x hx b ZF;omega
   ·obtain rfl:=List.mem_singleton.1 hx;exact hb
 ·rcases V3.1 hp with hp|hp
  ·exact h.2 p hp
  ·obtain rfl:=List.mem_singleton.1 hp;exact ha
def cQ.lt (h:cQ l n)(ha:l[i]?=some a)(hb:l[j]?=some b)(hij:i<j):a<b:=by
 have:=Yp.1 h.1 i j (aI ha) (aI hb) hij;have e1:=Vz (aI ha);have e2:=Vz (aI hb);rw[ha]at e1;rw[hb]at e2;rw[Option.some.inj e1,Option.some.inj e2];exact this
def cQ.len (h:cQ l n):(l.length:Int)<=max n 0:=by
  -- the k-th place is at least k
 have key:∀(k:Nat) (a:Int),l[k]?=some a->(k:Int)<=a:=by
  intro k
  induction k with
  |zero=>intro a ha;have:=h.2 a (an ha);omega
  |succ k ih =>
   intro a ha;obtain⟨b,hb⟩:=ao (l:=l) (i:=k) (by have:=aI ha;omega);have:=ih b hb;have:=h.lt hb ha O;omega
 rcases WM l.length with h0|h0
 ·omega
 ·obtain⟨a,ha⟩:=ao (l:=l) (i:=l.length-1) O;have h1:=key _ a ha;have h2:=h.2 a (an ha);omega
def xF (h:l[j]?=some b):(l.take (j+1)).getLast?=some b:=by rw[aU h];simp
def Fo (l:List Int)(n:Int)(hl:(l.length:Int)<2 ^ 62)(H:ZJ)(K:ZP->ZJ->Prop)(hK:K (.ret (.lit (.bool (decide (cQ l n))))) H):ag Tryz.prog G0 132 [ah l,aa n] H K:=by
 have no:¬cQ l n->aq Tryz.prog G0 H K (.lit (.bool false)) H:=fun h=>aq.mk ZI (by rw[W2 h]at hK;exact hK);refine ag.st (n:=24) (rs:=[.tmp 4]) Tryz.func132 ?_;simp only[go_sem];refine W.aP 16776368 (by rfl) (fun ρ H'=>H'=H/\∃(k:Nat) (b:Int),ρ 10=aa k/\k<=l.length/\ρ 5=aa b/\cQ (l.take k) n/\(l.take k).getLast?.getD (-1)=b) (fun ρ H=>l.length-(iv (ρ 10)).toNat) ?_ ?_
 ·simp only[go_sem];exact⟨0,-1,rfl,O,rfl,.nil,rfl⟩
 rintro ρ H' ⟨rfl,k,b,h10,hk,h5,hp,hbl⟩;refine W.vs ?_;by_cases hb:(k:Int)<l.length
 ·obtain⟨a,ha⟩:=ao (l:=l) (i:=k) O;have hne:=aO ha;have ham:=an ha;by_cases c1:a<=b
  ·simp only[go_sem,h10,h5,hb,ha,hne,c1];refine no fun h=>?_;have h0:=h.2 a ham;rcases WM k with rfl|hk0
   ·simp at hbl;omega
   ·obtain⟨j,rfl⟩:∃j,k=j+1:=⟨k-1,O⟩
    obtain⟨b',hbj⟩:=ao (l:=l) (i:=j) O;rw[xF hbj]at hbl;have:=h.lt hbj ha O;simp at hbl;omega
  by_cases c2:a >= n
  ·simp only[go_sem,h10,h5,hb,ha,hne,c1,c2];exact no fun h=>by have:=h.2 a ham;omega
  have w1:=Vv ((k:Int)+1) O;simp only[go_sem,h10,h5,hb,ha,hne,c1,c2,w1];have h0:0<=a:=by
   rcases hg:(l.take k).getLast? with _|b'
   ·rw[hg]at hbl;simp at hbl;omega
   ·rw[hg]at hbl;have:=hp.2 b' (Zq hg);simp at hbl;omega
  refine⟨⟨k+1,a,ZF,O,rfl,?_,by rw[xF ha];rfl⟩,O⟩;rw[aU ha];exact hp.snoc ⟨h0,O⟩ fun b' hb'=>by rw[hb']at hbl;simp at hbl;omega
 ·simp only[go_sem,h10,hb];rw[Vy O]at hp;rw[V8 hp]at hK;exact aq.mk ZI hK
end Go.Proofs
namespace Go.Hx
variable {g id:Nat}{H H':ZJ}
theorem ZN.V (h:ZN H H')(hi:id<H.A):H'.V id g=H.V id g:=by
 unfold ZJ.V;rw[h.nb id hi]
theorem ZN.upd (h:ZN H H')(hi:H.A<=id)(b:ZQ):ZN H (H'.upd id b):=⟨h.A,fun j hj=>by rw[af,Vx O];exact h.nb j hj⟩
def lP {e:TypeId}{c:List ZK}:(H.upd id (.J g e c)).V id g=some (e,c):=ae (by rw[af,VA rfl])
def cH {j:Nat}{b:ZQ}(h:j≠id):(H.upd id b).V j g=H.V j g:=by unfold ZJ.V;rw[af,Vx h]
attribute [go_sem] lP
@[go_sem] theorem Vu (a b:Array TypeId)(c:Bool)(n:Nat)(cells:List ZK)(off:Nat):mJ (some (.func a b c)) n cells off=cells[off]?:=rfl
end Go.Hx
namespace Go.Proofs
open Go.Hx
variable {c l:List Int}{ps:List Nat}{a i id k m n t:Nat}{H H':ZJ}{v:ZK}
def oC {H2:ZJ}{e:TypeId}{cs:List ZK}(ov:ZN H H')(h:aD H.A H' e v cs)(hn:H'.A<=H2.A)(hp:∀k,k<H'.A->(∀g n,v≠.U k g 0 n 1)->H2.get k=H'.get k):ZN H H2 :=
 ⟨Wm ov.A hn,fun id hi=>by
  rw[hp id (VM hi ov.A) fun g n he=>?_,ov.nb id hi];rcases h with ⟨h,_⟩|⟨i2,g2,a1,_,h,_⟩
  ·rw[h]at he;cases he
  ·rw[h]at he;have:=ZK.U.inj he;omega⟩
def kL (x:Int)(ov:ZN H H')(h:aD H.A H' 3 v (ints l))(hl:l.length<2 ^ 40):
  ∃v' H2,cr Tryz.prog (ext H' [.J 0 3 [.lit (.int .i64 x)]]) (H'.A+1) 42 42 v (.U H'.A 0 0 1 1)=some (v',H2)/\ZN H H2/\aD H.A H2 3 v' (ints (l++[x]))/\H'.A<=H2.A/\(∀k,k<H'.A->(∀g n,v≠.U k g 0 n 1)->H2.get k=H'.get k):=by
 obtain⟨v',H2,hA,hO,hn2,hp⟩:=iR (P:=Tryz.prog) (H:=H') (t:=42) (x:=aa x) (n:=H'.A+1) Tryz.underlying42 Tryz.fE Tryz.fF rfl (by rw[Tryz.gG,aR];omega) h ov.A rfl;simp only[aa]at hA;exact⟨v',H2,hA,oC ov h hn2 hp,by simpa[ints,aa] using hO,hn2,hp⟩
def UT (l:List (List Int)):(aE l).one=true:=rfl
def UU (l:List (List Int)):(aE l).cells=[aE l]:=rfl
def UV (l:List ZL):(dX l).one=true:=rfl
def UW (l:List ZL):(dX l).cells=[dX l]:=rfl
def UX (l:List ZY):(wJ l).one=true:=rfl
theorem UY (l:List ZY):(wJ l).cells=[wJ l]:=rfl
attribute [go_sem] UT UU UV UW UX UY
structure nnl (H H':ZJ)(id:Nat)(c:List Int):Prop where
 ov:ZN H H'
 lo:H.A<=id
 hi:id<H'.A
 get:H'.get id=some (.J 0 3 (ints c))
theorem nnl.V (h:nnl H H' id c):H'.V id 0=some (3,ints c):=ae h.get
def nnl.UZ (h:nnl H H' id c)(L:List ZQ):(ext H' L).V id 0=some (3,ints c):=by rw[ea h.hi];exact h.V
def nnl.ne (h:nnl H H' id c):¬id=H'.A:=by have:=h.hi;omega
def nnl.over {H2:ZJ}(h:nnl H H' id c)(o:ZN H' H2):nnl H H2 id c:=⟨h.ov.trans o,h.lo,VM h.hi o.A,(o.nb id h.hi).trans h.get⟩
def nnl.store (h:nnl H H' id c)(hk:k<c.length)(x:Int):nnl H (H'.upd id (.J 0 3 (setAt (ints c) k [.lit (.int .i64 x)]))) id (c.set k x) :=
 ⟨⟨h.ov.A,fun i hi=>by rw[af,Vx (by have:=h.lo;omega)];exact h.ov.nb i hi⟩,h.lo,h.hi,by rw[af,VA rfl,gJ hk]⟩
def nnl.U0 (h:nnl H H' id c)(L:List ZQ)(hk:k<c.length)(x:Int):nnl H ((ext H' L).upd id (.J 0 3 (setAt (ints c) k [.lit (.int .i64 x)]))) id (c.set k x) :=
 (h.over (.ext H' L)).store hk x
def nnl.new (L:List ZQ)(n:Nat):nnl H (ext H (.J 0 3 (List.replicate n (.lit (.int .i64 0))) :: L)) H.A (List.replicate n 0) :=
 ⟨.ext _ _,ZI,by simp[aM],by rw[dA];simp[ints,aa]⟩
def nnl.fin {K:ZP->ZJ->Prop}(hcl:Clo H)(h:nnl H H' id c)(hn:n=c.length)(hK:K (.ret (ah c)) H):aq Tryz.prog G0 H K (.U id 0 0 n 1) H':=by
 subst hn;refine aq.bC aJ hcl h.ov ?_ hK;exact .ints h.lo h.get ZF fun i hi=>by simp[fa,hi]
def Gq {m:List Int}{x:Int}(h:l.take k=m.take k)(hk:k<l.length)(hx:m[k]?=some x):(l.set k x).take (k+1)=m.take (k+1):=by
 rw[aU hx,aU (show (l.set k x)[k]?=some x by rw[VQ hk]),Ye (Nat.le_refl k),h]
def bM {α:Type}{l:List α}{a d:α}(h:l[i]?=some a):l.getD i d=a:=by rw[VB,h];rfl
def SR {places:List Int}{p:Int}(h:places[k]?=some p):aK l (places.take (k+1))=aK l (places.take k)++[l.getD p.toNat 0]:=by
 unfold aK;rw[aU h];simp
def dw {ns:List ZL}{x:ZL}(h:ns[k]?=some x):(ak ns)[k]?=some x.L:=by unfold ak;rw[List.getElem?_map,h];rfl
def dk (ns:List ZL):(ak ns).length=ns.length:=by simp[ak]
def SU (g:Int)(ns:List ZL)(hl:(ns.length:Int)<2 ^ 39)(H:ZJ)(K:ZP->ZJ->Prop)(hK:K (.ret (ah (ak ns))) H):ag Tryz.prog G0 45 [dJ g ns] H K:=by
 refine ag.Z ⟨_,Tryz.func45,rfl,rfl⟩ fun hcl=>?_;refine ag.st (n:=22) (rs:=[.tmp 2]) Tryz.func45 ?_;simp only[go_sem,dJ,dX];obtain⟨H1,hH1⟩:∃H1,H1=ext H [.J 0 81 [.lit (.int .i64 g),.Q ns.length (aG ns)]]:=⟨_,rfl⟩
 have l1:H1.V H.A 0=some (81,[.lit (.int .i64 g),.Q ns.length (aG ns)]):=by rw[hH1];exact ae (dA ..)
 have n1:H1.A=H.A+1:=hH1▸rfl
 have o1:ZN H H1:=hH1▸.ext _ _
 rw[<- hH1];refine W.aP 2097144 (by rfl) (fun ρ H'=>∃k:Nat,ρ 4=aa k/\k<=ns.length/\ρ 1=.M H.A 0 0/\ZN H1 H'/\aD H1.A H' 3 (ρ 3) (ints ((ak ns).take k))) (fun ρ H=>ns.length-(iv (ρ 4)).toNat) ?_ ?_
 ·simp only[go_sem];exact⟨0,rfl,O,.refl _,.nil⟩
 rintro ρ H' ⟨k,h4,hk,h1,ov,h3⟩;refine W.vs ?_;have l2:=(ov.V (g:=0) (by omega:H.A<H1.A)).trans l1;by_cases hb:(k:Int)<ns.length
 ·obtain⟨x,hx⟩:=ao (l:=ns) (i:=k) O;have hne:=eT hx;have e0:=iS hx;obtain⟨v',H2,hA,ov2,hO,hn2,_⟩:=kL x.L ov h3 (by simp[ak];omega);have w1:=Vv ((k:Int)+1) O;simp only[go_sem,h4,h1,l2,hb,hne,e0,w1,hA];refine⟨by have:=ov2.A;omega,⟨k+1,ZF,O,ov2,?_⟩,O⟩;rw[aU (dw hx)];exact hO
 ·simp only[go_sem,h4,h1,l2,hb];rw[Vy (by rw[dk];omega)]at h3;exact aq.bC aJ hcl (o1.trans ov) (h3.hJ fun i hi=>O) hK
def sY (ns:List ZL)(hl:(ns.length:Int)<2 ^ 39)(H:ZJ)(K:ZP->ZJ->Prop)(hK:K (.ret (ah (ak ns))) H):ag Tryz.prog G0 97 [dX ns] H K:=by
 refine ag.Z ⟨_,Tryz.func97,rfl,rfl⟩ fun hcl=>?_;refine ag.st (n:=23) (rs:=[.tmp 2]) Tryz.func97 ?_;simp only[go_sem,dX];refine⟨O,?_⟩;refine W.aP 4192304 (by rfl) (fun ρ H'=>∃(k:Nat) (c:List Int),ρ 11=aa k/\k<=ns.length/\nnl H H' H.A c/\c.length=ns.length/\c.take k=(ak ns).take k) (fun ρ H=>ns.length-(iv (ρ 11)).toNat) ?_ ?_
 ·simp only[go_sem];exact⟨0,_,rfl,O,.new [] ns.length,ZF,rfl⟩
 rintro ρ H' ⟨k,c,h11,hk,ho,hcl',hc⟩;refine W.vs ?_;by_cases hb:(k:Int)<ns.length
 ·obtain⟨x,hx⟩:=ao (l:=ns) (i:=k) O;have hne:=eT hx;have e0:=qE hx;have e1:k*3+3<=(aG ns).length:=by rw[kV];omega
  have w1:=Vv ((k:Int)+1) O;have l3:=ho.UZ;have nb:=ho.ne;simp only[go_sem,h11,l3,hb,hne,e0,e1,w1];have hkc:k<c.length:=O
  have ho2:=ho.U0 [.J 0 87 [.lit (.int .i64 x.L),.Q x.F.length (ints x.F),aE x.na]] hkc x.L;exact⟨O,by have:=ho2.hi;omega,⟨k+1,_,rfl,O,ho2,by simpa using hcl',Gq hc hkc (dw hx)⟩,O⟩
 ·simp only[go_sem,h11,hb];have e:c=ak ns:=by
   rw[Vy O,Vy (by rw[dk];omega)]at hc;exact hc
  subst e;exact ho.fin hcl (by rw[dk]) hK
def fm (l:List Int)(n:Nat):Prop:=∀q∈l,0<=q/\q<n
def iG (l p:List Int):(aK l p).length=p.length:=by simp[aK]
def kF {p:List Int}{q:Int}(h:p[k]?=some q):(aK l p)[k]?=some (l.getD q.toNat 0):=by unfold aK;rw[List.getElem?_map,h];rfl
def SV (l:List Int)(hl:dV l)(H:ZJ)(K:ZP->ZJ->Prop)(hK:K (.ret (aa (aj l))) H):ag Tryz.prog G0 135 [ah l] H K:=by
 have l12:=hl.1;refine ag.st (n:=17) (rs:=[.tmp 2]) Tryz.func135 ?_;simp only[go_sem];refine W.aP 65320 (by rfl) (fun ρ H'=>H'=H/\∃k:Nat,ρ 8=aa k/\k<=l.length/\ρ 3=aa (aj (l.take k))) (fun ρ H=>l.length-(iv (ρ 8)).toNat) ?_ ?_
 ·simp only[go_sem];exact⟨0,rfl,O,by simp[iT]⟩
 rintro ρ H' ⟨rfl,k,h4,hk,h3⟩;refine W.vs ?_;by_cases hb:(k:Int)<l.length
 ·obtain⟨c,hc⟩:=ao (l:=l) (i:=k) O;have hne:=aO hc;have b1:=(hl.take (k+1)).prod;rw[aU hc,gQ]at b1;have w1:=Vv ((k:Int)+1) O;have w2:=Vv (aj (l.take k)*c) O;simp only[go_sem,h4,h3,hb,hc,hne,w1,w2];exact⟨⟨k+1,ZF,O,by rw[aU hc,gQ]⟩,O⟩
 ·simp only[go_sem,h4,h3,hb];rw[Vy O];exact aq.mk ZI hK
def pX (ns:List ZL)(v:Nat)(x:ZL)(hx:ns[v]?=some x)(hin:fm x.F ns.length)(hs:dV (aV ns x))(H:ZJ)(K:ZP->ZJ->Prop)
  (hK:K (.ret (aa (aj (aV ns x)))) H):ag Tryz.prog G0 55 [dX ns,aa v] H K:=by
 have hne:=eT hx;have e1:=mR hx;have hv:(v:Int)<ns.length:=by have:=aI hx;omega
 have l12:=hs.1;have pl:(aV ns x).length=x.F.length:=iG _ _;refine ag.st (n:=27) (rs:=[.tmp 4]) Tryz.func55 ?_;simp only[go_sem,dX,hv,hne,e1];refine W.aP 67092640 (by rfl) (fun ρ H'=>H'=H/\∃k:Nat,ρ 14=aa k/\k<=x.F.length/\ρ 5=aa (aj ((aV ns x).take k))) (fun ρ H=>x.F.length-(iv (ρ 14)).toNat) ?_ ?_
 ·simp only[go_sem];exact⟨0,rfl,O,by simp[iT]⟩
 rintro ρ H' ⟨rfl,k,h14,hk,h5⟩;refine W.vs ?_;by_cases hb:(k:Int)<x.F.length
 ·obtain⟨q,hq⟩:=ao (l:=x.F) (i:=k) O;obtain⟨j,rfl,y,hy⟩:=n9 (l:=ns) (hin q (an hq)).1 (hin q (an hq)).2;have hne2:=aO hq;have hj:(j:Int)<ns.length:=by have:=aI hy;omega
  have e0:=iS hy;have pk:(aV ns x)[k]?=some y.L:=by
   rw[show (aV ns x)[k]?=_ from kF hq,Int.toNat_natCast,bM (dw hy)]
  have b1:=(hs.take (k+1)).prod;rw[aU pk,gQ]at b1;have w1:=Vv ((k:Int)+1) O;have w2:=Vv (aj ((aV ns x).take k)*y.L) O;simp only[go_sem,h14,h5,hb,hq,hne,hne2,hj,e0,w1,w2];exact⟨⟨k+1,ZF,O,by rw[aU pk,gQ]⟩,O⟩
 ·simp only[go_sem,h14,h5,hb];rw[Vy O];exact aq.mk ZI hK
def SW (ns:List ZL)(v:Nat)(x:ZL)(vals:List Int)(hx:ns[v]?=some x)(hin:fm x.F ns.length)(hs:dV (aV ns x))(hf:bZ (ak ns) vals)(H:ZJ)(K:ZP->ZJ->Prop)
  (hK:K (.ret (aa (bW (aV ns x) (aK vals x.F)))) H):ag Tryz.prog G0 98 [dX ns,aa v,ah vals] H K:=by
 have hne:=eT hx;have e1:=mR hx;have hv:(v:Int)<ns.length:=by have:=aI hx;omega
 have l12:=hs.1;have pl:(aV ns x).length=x.F.length:=iG _ _;have vl:(aK vals x.F).length=x.F.length:=iG _ _;have hfl:vals.length=ns.length:=by rw[hf.1,dk]
 have at_get:∀(k:Nat) (q:Int),x.F[k]?=some q->∃(j:Nat) (y:ZL) (b:Int),q=j/\ns[j]?=some y/\vals[j]?=some b/\(aV ns x)[k]?=some y.L/\(aK vals x.F)[k]?=some b/\0<=b/\b<y.L:=fun k q hq=>by
  obtain⟨j,rfl,y,hy⟩:=n9 (l:=ns) (hin q (an hq)).1 (hin q (an hq)).2;obtain⟨b,hb⟩:=ao (l:=vals) (i:=j) (by rw[hfl];exact aI hy);have r:=hf.2 j y.L b (dw hy) hb;exact⟨j,y,b,rfl,hy,hb,by rw[show (aV ns x)[k]?=_ from kF hq,Int.toNat_natCast,bM (dw hy)],by rw[kF hq,Int.toNat_natCast,bM hb],r⟩
 have ft:∀k,bZ ((aV ns x).take k) ((aK vals x.F).take k):=fun k=>⟨by simp[pl,vl],fun i c b h1 h2=>by
  rw[Yn]at h1 h2;split at h1
  ·rename_i hik;rw[VA hik]at h2;obtain⟨q,hq⟩:=ao (l:=x.F) (i:=i) (by rw[<- pl];exact aI h1);obtain⟨j,y,b',_,_,_,a1,a2,a3⟩:=at_get i q hq;rw[h1]at a1;rw[h2]at a2;cases a1;cases a2;exact a3
  ·cases h1⟩
 have hr:∀k,0<=fG ((aV ns x).take k) ((aK vals x.F).take k)/\fG ((aV ns x).take k) ((aK vals x.F).take k)<68719476737:=fun k=>by
  rw[sk (ft k).1];have a:=mS (ft k);have b:=(hs.take k).prod;omega
 refine ag.st (n:=34) (rs:=[.tmp 6]) Tryz.func98 ?_;simp only[go_sem,dX,hv,hne,e1];refine W.aP 8589869696 (by rfl) (fun ρ H'=>H'=H/\∃k:Nat,ρ 16=aa k/\k<=x.F.length/\ρ 7=aa (fG ((aV ns x).take k) ((aK vals x.F).take k))) (fun ρ H=>x.F.length-(iv (ρ 16)).toNat) ?_ ?_
 ·simp only[go_sem];exact⟨0,rfl,O,rfl⟩
 rintro ρ H' ⟨rfl,k,h16,hk,h7⟩;refine W.vs ?_;by_cases hb:(k:Int)<x.F.length
 ·obtain⟨q,hq⟩:=ao (l:=x.F) (i:=k) O;obtain⟨j,y,b,rfl,hy,hbv,a1,a2,a3⟩:=at_get k q hq;have hne2:=aO hq;have hne3:=aO hbv;have hj:(j:Int)<ns.length:=by have:=aI hy;omega
  have hj2:(j:Int)<vals.length:=O
  have e0:=iS hy;have w1:=Vv ((k:Int)+1) O;have r1:=hr (k+1);rw[sr a1 a2]at r1;have r0:=hr k;have m0:0<=fG ((aV ns x).take k) ((aK vals x.F).take k)*y.L:=WT r0.1 O;have w2:=Vv (fG ((aV ns x).take k) ((aK vals x.F).take k)*y.L) O;have w3:=Vv (fG ((aV ns x).take k) ((aK vals x.F).take k)*y.L+b) O;simp only[go_sem,h16,hb,hq,hne2];refine W.dr 11 [0,0,0,6,14,30,63,0,0,384,896] Tryz.mixed ?_;simp only[go_sem,h16,h7,hne,hne3,hj,hj2,hbv,e0,w1,w2,w3];exact⟨⟨k+1,ZF,O,by rw[sr a1 a2]⟩,O⟩
 ·simp only[go_sem,h16,h7,hb];rw[Vy O,Vy O,sk (by rw[pl,vl])];exact aq.mk ZI hK
def cJ (l:List Int):Nat:=l.foldl (fun s p=>s |||2 ^ p.toNat) 0
def PR (l:List Int):∀(s i:Nat),(l.foldl (fun s p=>s |||2 ^ p.toNat) s).testBit i=(s.testBit i ||l.any fun p=>p.toNat == i):=by
 induction l with
 |nil=>intro s i;simp
 |cons p l ih =>
  intro s i;simp only[V6,ih,WK,Yc,List.any_cons];rw[Bool.or_assoc];congr 1
def mT (h:∀p∈l,0<=p)(i:Nat):(cJ l).testBit i=decide ((i:Int)∈l):=by
 unfold cJ;rw[PR];simp only[W7,Bool.false_or];rw[Xl];simp only[XT,beq_iff_eq,decide_eq_true_eq];constructor
 ·rintro⟨p,hp,rfl⟩;have:=h p hp;rw[Yg this];exact hp
 ·intro hi;exact⟨_,hi,ZF⟩
def wL (l:List Int)(p:Int):cJ (l++[p])=cJ l |||2 ^ p.toNat:=by unfold cJ;rw[WD];rfl
def zG (h:∀i,m.testBit i=true->i<n):m<2 ^ n:=by
 apply Nat.lt_pow_two_of_testBit;intro i hi;rcases WN (m.testBit i) with e|e
 ·exact absurd (h i e) (O)
 ·exact e
def pG (h:∀p∈l,0<=p/\p<n):cJ l<2 ^ n:=zG fun i hi=>by
 rw[mT fun p hp=>(h p hp).1]at hi;have:=(h _ (of_decide_eq_true hi)).2;omega
def pH (h:m<2 ^ n)(hi:m.testBit i=true):i<n:=by
 rcases VV i n with h'|h'
 ·exact h'
 ·rw[Yw (VM h (V0 ZG h'))]at hi;cases hi
def Sub (s t:Nat):Prop:=∀i,s.testBit i=true->t.testBit i=true
def Sub.refl (s:Nat):Sub s s:=fun _ h=>h
def Sub.trans {s u:Nat}(h:Sub s t)(h':Sub t u):Sub s u:=fun i hi=>h' i (h i hi)
def Sub.or {s u:Nat}(h:Sub s u)(h':Sub t u):Sub (s |||t) u:=fun i hi=>by
 rw[WK,Wr]at hi;exact hi.elim (h i) (h' i)
def Sub.left (s t:Nat):Sub s (s |||t):=fun i hi=>by rw[WK,hi];rfl
def Sub.right (s t:Nat):Sub t (s |||t):=fun i hi=>by rw[WK,hi];simp
def Sub.antisymm {s:Nat}(h:Sub s t)(h':Sub t s):s=t:=Xd fun i=>by
 rw[Xl];exact⟨h i,h' i⟩
def Dn {b:Nat}(ha:a<2 ^ 64):ju a b=0↔Sub a b:=by
 constructor
 ·intro h i hi;have:=AW (a:=a) (b:=b) (i:=i) ha;rw[h,W7,hi]at this;simpa using this.symm
 ·intro h;apply Xd;intro i;rw[AW ha,W7];cases hi:a.testBit i
  ·rfl
  ·rw[h i hi];rfl
def mU (ps:List Nat)(s v:Nat):Nat:=if s.testBit v=true then s |||ps.getD v 0 else s
def gR (ps:List Nat)(s:Nat):Nat:=(List.range ps.length).foldl (mU ps) s
def jf (ps:List Nat):Nat->Nat->Nat
 |0,s=>s
 |k+1,s=>gR ps (jf ps k s)
def ml (ps:List Nat)(s:Nat):Nat:=jf ps ps.length s
def mV (ps:List Nat):Prop:=∀v,v<ps.length->(ml ps (ps.getD v 0)).testBit v=false
def pI (ps:List Nat)(t:Nat):Prop:=∀v,v<ps.length->t.testBit v=true->Sub (ps.getD v 0) t
def Do (ps:List Nat)(s v:Nat):Sub s (mU ps s v):=by unfold mU;split;exact .left _ _;exact .refl _
def Dp (ps:List Nat)(l:List Nat):∀s,Sub s (l.foldl (mU ps) s):=by
 induction l with
 |nil=>exact fun s=>.refl s
 |cons v l ih=>exact fun s=>(Do ps s v).trans (ih _)
def zH (ps:List Nat)(s:Nat):Sub s (gR ps s):=Dp ps _ s
def PS (hc:pI ps t)(l:List Nat)(hl:∀v∈l,v<ps.length):∀s,Sub s t->Sub (l.foldl (mU ps) s) t:=by
 induction l with
 |nil=>exact fun s h=>h
 |cons v l ih =>
  intro s h;refine ih (fun v hv=>hl v (by simp[hv])) _ ?_;unfold mU;split
  ·rename_i hv;exact h.or (hc v (hl v ZF) (h v hv))
  ·exact h
def PT (hc:pI ps t){s:Nat}(h:Sub s t):Sub (gR ps s) t:=PS hc _ (fun v hv=>VP.1 hv) s h
def wM (hc:pI ps t)(k:Nat){s:Nat}(h:Sub s t):Sub (jf ps k s) t:=by
 induction k with
 |zero=>exact h
 |succ k ih=>exact PT hc ih
def zI (ps:List Nat)(k s:Nat):Sub s (jf ps k s):=by
 induction k with
 |zero=>exact .refl _
 |succ k ih=>exact ih.trans (zH _ _)
def PU {s:Nat}(h:gR ps s=s):pI ps s:=by
 intro v hv hs;have key:∀(l:List Nat) (s0:Nat),v∈l->s0.testBit v=true->Sub (ps.getD v 0) (l.foldl (mU ps) s0):=by
  intro l
  induction l with
  |nil=>intro s0 h;cases h
  |cons u l ih =>
   intro s0 hm hb;rcases List.mem_cons.1 hm with rfl|hm
   ·refine Sub.trans ?_ (Dp ps l _);unfold mU;rw[VA hb];exact .right _ _
   ·exact ih _ hm (Do ps s0 u v hb)
 have:=key (List.range ps.length) s (VP.2 hv) hs;unfold gR at h
 rwa [h]at this
def eG (n s:Nat):Nat:=(List.range n).countP fun i=>s.testBit i
def Dq (n s:Nat):eG n s<=n:=by have:=List.countP_le_length (p:=fun i=>s.testBit i) (l:=List.range n);simpa[eG] using this
def PV {l:List Nat}{p q:Nat->Bool}(h:∀x∈l,p x=true->q x=true)(ha:a∈l)(hp:p a=false)(hq:q a=true):l.countP p<l.countP q:=by
 induction l with
 |nil=>cases ha
 |cons x l ih =>
  have hm:l.countP p<=l.countP q:=List.countP_mono_left fun y hy=>h y (by simp[hy]);rcases List.mem_cons.1 ha with rfl|ha
  ·rw[Xq,Xq,hp,hq];simp;omega
  ·have:=ih (fun y hy=>h y (by simp[hy])) ha;have hx:=h x ZF;rw[Xq,Xq];cases hpx:p x
   ·simp;omega
   ·rw[hx hpx];simp;omega
def uq {s:Nat}(h:Sub s t)(hi:i<n)(h0:s.testBit i=false)(h1:t.testBit i=true):eG n s<eG n t :=
 PV (fun x _ hx=>h x hx) (VP.2 hi) h0 h1
def PW (hp:∀p∈ps,p<2 ^ ps.length){s:Nat}(hs:s<2 ^ ps.length):pI ps (ml ps s):=by
 have hb:∀k,jf ps k s<2 ^ ps.length:=fun k=>by
  have ht:pI ps (2 ^ ps.length-1):=fun v _ _ i hi=>by
   rw[Xj];have:ps.getD v 0<2 ^ ps.length:=by
    rw[VB];cases h:ps[v]? with
    |none=>exact YW _
    |some p=>exact hp p (an h)
   simpa using pH this hi
  have:=wM ht k (s:=s) fun i hi=>by rw[Xj];simpa using pH hs hi
  exact zG fun i hi=>by have:=this i hi;rw[Xj]at this;simpa using this
 have key:∀k,gR ps (jf ps k s)=jf ps k s\/k+1<=eG ps.length (jf ps k s):=by
  have grow:∀t,t<2 ^ ps.length->gR ps t<2 ^ ps.length->gR ps t≠t->eG ps.length t<eG ps.length (gR ps t):=fun t ht ht' hne=>by
   have:∃i,(gR ps t).testBit i=true/\t.testBit i=false:=by
    refine V2 fun hno=>hne (Sub.antisymm (fun i hi=>?_) (zH ps t));rcases WN (t.testBit i) with e|e
    ·exact e
    ·exact absurd ⟨i,hi,e⟩ hno
   obtain⟨i,h1,h0⟩:=this;exact uq (zH ps t) (pH ht' h1) h0 h1
  intro k
  induction k with
  |zero =>
   by_cases h0:s=0
   ·left;subst h0;show gR ps 0=0;unfold gR;have:∀l:List Nat,l.foldl (mU ps) 0=0:=fun l=>by
     induction l with
     |nil=>rfl
     |cons v l ih=>simp only[V6,mU,W7,Bool.false_eq_true,if_false];exact ih
    exact this _
   ·right;obtain⟨i,hi⟩:=Nat.exists_testBit_of_ne_zero h0;have:eG ps.length 0<eG ps.length s:=uq (fun j hj=>by rw[W7]at hj;cases hj) (pH hs hi) (W7 i) hi;show 0+1<=eG ps.length s;omega
  |succ k ih =>
   rcases ih with ih|ih
   ·left;show gR ps (gR ps (jf ps k s))=gR ps (jf ps k s);rw[ih];exact ih
   ·by_cases hf:gR ps (jf ps k s)=jf ps k s
    ·left;show gR ps (gR ps (jf ps k s))=gR ps (jf ps k s);rw[hf];exact hf
    ·right;have:=grow _ (hb k) (hb (k+1)) hf;show k+1+1<=eG ps.length (gR ps (jf ps k s));omega
 rcases key ps.length with h|h
 ·exact PU h
 ·have:=Dq ps.length (jf ps ps.length s);omega
def ku (ps:List Nat)(done v:Nat):Bool:=!done.testBit v && decide (ju (ps.getD v 0) done=0)
def mn (ps:List Nat)(done:Nat):Option Nat:=(List.range ps.length).find? (ku ps done)
def jg (ps:List Nat):Nat->List Nat->Nat->Option (List Nat)
 |0,out,_=>some out
 |k+1,out,done=>match mn ps done with
  |none=>none
  |some v=>jg ps k (out++[v]) (done |||2 ^ v)
def gI (ps:List Nat):Option (List Nat):=jg ps ps.length [] 0
def zJ {done v:Nat}(hp:∀p∈ps,p<2 ^ 64)(h:mn ps done=some v):v<ps.length/\done.testBit v=false/\Sub (ps.getD v 0) done:=by
 unfold mn at h;have h1:=Y8 h;have h2:=List.find?_some h;unfold ku at h2;simp only[Wh,XA,decide_eq_true_eq]at h2;have hv:=VP.1 h1;refine⟨hv,h2.1,(Dn ?_).1 h2.2⟩;rw[VB];cases h:ps[v]? with
 |none=>decide
 |some p=>exact hp p (an h)
def PX {done:Nat}(hp:∀p∈ps,p<2 ^ 64)(h:mn ps done=none):∀v,v<ps.length->done.testBit v=true\/¬Sub (ps.getD v 0) done:=by
 intro v hv;unfold mn at h;rw[YM]at h;have:=h v (VP.2 hv);unfold ku at this;rcases WN (done.testBit v) with e|e
 ·exact .inl e
 ·right;intro hs;refine this ?_;rw[e,(Dn ?_).2 hs]
  ·simp
  ·rw[VB];cases h:ps[v]? with
   |none=>decide
   |some p=>exact hp p (an h)
def jC (d v i:Nat):(d |||2 ^ v).testBit i=(d.testBit i ||decide (v=i)):=by rw[WK,Yc]
def PY (hp:∀p∈ps,p<2 ^ 64):∀(k:Nat) (out:List Nat) (done:Nat) (r:List Nat),jg ps k out done=some r->k+eG ps.length done=ps.length ->
  pI ps done->(∀v,v<ps.length->done.testBit v=true->(ml ps (ps.getD v 0)).testBit v=false)->mV ps:=by
 intro k
 induction k with
 |zero =>
  intro out done r _ hc hcl hall v hv;refine hall v hv ?_;rcases WN (done.testBit v) with e|e
  ·exact e
  ·have:eG ps.length done<eG ps.length (2 ^ ps.length-1 |||done):=uq (.right _ _) hv e (by rw[WK,Xj];simp[hv]);have:=Dq ps.length (2 ^ ps.length-1 |||done);omega
 |succ k ih =>
  intro out done r h hc hcl hall;unfold jg at h;split at h
  ·cases h
  ·rename_i v hn;obtain⟨h1,h2,h3⟩:=zJ hp hn;refine ih _ _ _ h ?_ ?_ ?_
   ·have:eG ps.length (done |||2 ^ v)=eG ps.length done+1:=by
     unfold eG;have:∀l:List Nat,l.Nodup->v∈l->l.countP (fun i=>(done |||2 ^ v).testBit i)=l.countP (fun i=>done.testBit i)+1:=by
      intro l
      induction l with
      |nil=>intro _ h;cases h
      |cons x l ihl =>
       intro hnd hmem;obtain⟨g1,g2⟩:=XZ.1 hnd;rw[Xq,Xq];rcases List.mem_cons.1 hmem with rfl|hm2
       ·have:l.countP (fun i=>(done |||2 ^ v).testBit i)=l.countP (fun i=>done.testBit i):=List.countP_congr fun y hy=>by
         have:¬v=y:=(by rintro rfl;exact g1 hy);simp[jC,this]
        rw[this];simp[jC,h2]
       ·have hx:¬v=x:=(by rintro rfl;exact g1 hm2);rw[ihl g2 hm2];simp[jC,hx];omega
     exact this _ Xp (VP.2 h1)
    omega
   ·intro u hu hb;rw[jC,Wr,decide_eq_true_eq]at hb;rcases hb with hb|rfl
    ·exact(hcl u hu hb).trans (.left _ _)
    ·exact h3.trans (.left _ _)
   ·intro u hu hb;rw[jC,Wr,decide_eq_true_eq]at hb;rcases hb with hb|rfl
    ·exact hall u hu hb
    ·have:=wM hcl ps.length h3;rcases WN ((ml ps (ps.getD v 0)).testBit v) with e|e
     ·have:=this v e;rw[h2]at this;cases this
     ·exact e
def PZ (hp:∀p∈ps,p<2 ^ ps.length)(h64:ps.length<=64)(ha:mV ps):∀(k:Nat) (out:List Nat) (done:Nat),k+eG ps.length done=ps.length->∃r,jg ps k out done=some r:=by
 have hp64:∀p∈ps,p<2 ^ 64:=fun p h=>VM (hp p h) (V0 ZG h64);have hpd:∀v,ps.getD v 0<2 ^ ps.length:=fun v=>by
  rw[VB];cases h:ps[v]? with
  |none=>exact YW _
  |some p=>exact hp p (an h)
 intro k
 induction k with
 |zero=>exact fun out done _=>⟨out,rfl⟩
 |succ k ih =>
  intro out done hc;unfold jg;cases hn:mn ps done with
  |none =>
   exfalso;have hno:=PX hp64 hn
      -- every node that is left has a parent that is left
   have step:∀m v,v<ps.length->done.testBit v=false->eG ps.length (ml ps (ps.getD v 0))<=m->False:=by
    intro m
    induction m with
    |zero =>
     intro v hv hd hm;obtain⟨i,h1,h2⟩:∃i,(ps.getD v 0).testBit i=true/\done.testBit i=false:=by
      rcases hno v hv with h|h
      ·rw[hd]at h;cases h
      ·refine V2 fun hc=>h fun i hi=>?_;rcases WN (done.testBit i) with e|e
       ·exact e
       ·exact absurd ⟨i,hi,e⟩ hc
     have:eG ps.length 0<eG ps.length (ml ps (ps.getD v 0)):=uq (fun j hj=>by rw[W7]at hj;cases hj) (pH (hpd v) h1) (W7 i) (zI ps _ _ i h1);omega
    |succ m ihm =>
     intro v hv hd hm;obtain⟨u,h1,h2⟩:∃i,(ps.getD v 0).testBit i=true/\done.testBit i=false:=by
      rcases hno v hv with h|h
      ·rw[hd]at h;cases h
      ·refine V2 fun hc=>h fun i hi=>?_;rcases WN (done.testBit i) with e|e
       ·exact e
       ·exact absurd ⟨i,hi,e⟩ hc
     have hu:=pH (hpd v) h1;have hcl:=PW hp (hpd v);have hin:(ml ps (ps.getD v 0)).testBit u=true:=zI ps _ _ u h1;have hsub:Sub (ml ps (ps.getD u 0)) (ml ps (ps.getD v 0)):=wM hcl _ (hcl u hu hin);have:=uq hsub hu (ha u hu) hin;exact ihm u hu h2 (O)
   obtain⟨v,hv,hd⟩:∃v,v<ps.length/\done.testBit v=false:=by
    refine V2 fun hno=>?_;have:eG ps.length done=ps.length:=by
     unfold eG
     conv=>rhs;rw[<- WG (n:=ps.length)]
     rw[List.countP_eq_length];intro x hx;rcases WN (done.testBit x) with e|e
     ·exact e
     ·exact absurd ⟨x,VP.1 hx,e⟩ hno
    omega
   exact step _ v hv hd (Nat.le_refl _)
  |some v =>
   obtain⟨h1,h2,h3⟩:=zJ hp64 hn;refine ih _ _ ?_;have:eG ps.length (done |||2 ^ v)=eG ps.length done+1:=by
    unfold eG;have:∀l:List Nat,l.Nodup->v∈l->l.countP (fun i=>(done |||2 ^ v).testBit i)=l.countP (fun i=>done.testBit i)+1:=by
     intro l
     induction l with
     |nil=>intro _ h;cases h
     |cons x l ihl =>
      intro hnd hmem;obtain⟨g1,g2⟩:=XZ.1 hnd;rw[Xq,Xq];rcases List.mem_cons.1 hmem with rfl|hm2
      ·have:l.countP (fun i=>(done |||2 ^ v).testBit i)=l.countP (fun i=>done.testBit i):=List.countP_congr fun y hy=>by
        have:¬v=y:=(by rintro rfl;exact g1 hy);simp[jC,this]
       rw[this];simp[jC,h2]
      ·have hx:¬v=x:=(by rintro rfl;exact g1 hm2);rw[ihl g2 hm2];simp[jC,hx];omega
    exact this _ Xp (VP.2 h1)
   omega
def Dr (n:Nat):eG n 0=0:=by
 unfold eG;rw[List.countP_eq_zero];intro x _;simp
def Ds (hp:∀p∈ps,p<2 ^ ps.length)(h64:ps.length<=64):(gI ps).isSome=true↔mV ps:=by
 have hp64:∀p∈ps,p<2 ^ 64:=fun p h=>VM (hp p h) (V0 ZG h64);constructor
 ·intro h;obtain⟨r,hr⟩:=Wj.1 h;exact PY hp64 _ _ _ r hr (by rw[Dr];omega) (fun v _ h=>by rw[W7]at h;cases h) (fun v _ h=>by rw[W7]at h;cases h)
 ·intro h;obtain⟨r,hr⟩:=PZ hp h64 h ps.length [] 0 (by rw[Dr];omega);unfold gI;rw[hr];rfl
end Go.Proofs
namespace Go.Hx
def jJ (l:List Nat):ZK:=.Q l.length (l.map bY)
attribute [go_sem] bY jJ
def aD.SX {S:Nat->Prop}{lo nx:Nat}{H:ZJ}{e:TypeId}{v:ZK}{l:List Nat}(h:aD lo H e v (l.map bY))(hS:∀i,lo<=i->S i):Fz S H nx v (jJ l):=by
 have:=h.fz (S:=S) (nx:=nx) (cs':=l.map bY) hS rfl fun i hi _=>by simp only[VO];exact .lit _
 rw[VJ]at this;exact this
end Go.Hx
namespace Go.Proofs
open Go.Hx
variable {g:Int}{ns:List ZL}{x:ZL}
def Fp {H H':ZJ}{v:ZK}{l:List Nat}(x:Nat)(ov:ZN H H')(h:aD H.A H' 35 v (l.map bY))(hl:l.length<2 ^ 40):
  ∃v' H2,cr Tryz.prog (ext H' [.J 0 35 [.lit (.int .u64 (x:Int))]]) (H'.A+1) 84 84 v (.U H'.A 0 0 1 1)=some (v',H2)/\ZN H H2/\aD H.A H2 35 v' ((l++[x]).map bY)/\H'.A<=H2.A/\(∀k,k<H'.A->(∀g n,v≠.U k g 0 n 1)->H2.get k=H'.get k):=by
 obtain⟨v',H2,hA,hO,hn2,hp⟩:=iR (P:=Tryz.prog) (H:=H') (t:=84) (x:=bY x) (n:=H'.A+1) Tryz.underlying84 Tryz.CR Tryz.CT rfl (by rw[Tryz.CS,VJ];omega) h ov.A rfl;simp only[bY]at hA;exact⟨v',H2,hA,oC ov h hn2 hp,by rw[Wk];exact hO,hn2,hp⟩
def SY (m v:Nat)(hm:m<2 ^ 64)(hv:v<2 ^ 62)(H:ZJ)(K:ZP->ZJ->Prop)(hK:K (.ret (.lit (.bool (m.testBit v)))) H):ag Tryz.prog G0 121 [bY m,aa v] H K:=by
 refine ag.st (n:=11) (rs:=[.tmp 4]) Tryz.func121 ?_;have w1:=W8 (v:Int) O;have s1:=fun t x y=>nE (P:=Tryz.prog) (t:=t) (x:=x) (y:=y) (k':=.u64) (s:=v) hm;have s2:=fun t x y=>oV (P:=Tryz.prog) (t:=t) (x:=x) (y:=y) (s:=v) hm;cases hb:m.testBit v
 ·rw[hb]at hK;simp only[go_sem,w1,s1,s2,hb];exact aq.mk ZI hK
 ·rw[hb]at hK;simp only[go_sem,w1,s1,s2,hb];exact aq.mk ZI hK
def bF (ns:List ZL):List Nat:=ns.map fun x=>cJ x.F
def oJ {k:Nat}(h:ns[k]?=some x):(bF ns)[k]?=some (cJ x.F):=by unfold bF;rw[List.getElem?_map,h];rfl
def SZ (g:Int)(ns:List ZL)(hl:(ns.length:Int)<2 ^ 39)(hp:∀x∈ns,(x.F.length:Int)<2 ^ 39/\∀q∈x.F,0<=q/\q<64)(H:ZJ)(K:ZP->ZJ->Prop)
  (hK:K (.ret (jJ (bF ns))) H):ag Tryz.prog G0 32 [dJ g ns] H K:=by
 refine ag.Z ⟨_,Tryz.func32,rfl,rfl⟩ fun hcl=>?_;refine ag.st (n:=43) (rs:=[.tmp 2]) Tryz.func32 ?_;simp only[go_sem,dJ,dX];obtain⟨H1,hH1⟩:∃H1,H1=ext H [.J 0 81 [.lit (.int .i64 g),.Q ns.length (aG ns)]]:=⟨_,rfl⟩
 have l1:H1.V H.A 0=some (81,[.lit (.int .i64 g),.Q ns.length (aG ns)]):=by rw[hH1];exact ae (dA ..)
 have n1:H1.A=H.A+1:=hH1▸rfl
 have o1:ZN H H1:=hH1▸.ext _ _
 rw[<- hH1];refine W.aP 4398046511096 (by rfl) (fun ρ H'=>∃k:Nat,ρ 4=aa k/\k<=ns.length/\ρ 1=.M H.A 0 0/\ZN H1 H'/\aD H1.A H' 35 (ρ 3) (((bF ns).take k).map bY)) (fun ρ H=>ns.length-(iv (ρ 4)).toNat) ?_ ?_
 ·simp only[go_sem];exact⟨0,rfl,O,.refl _,.nil⟩
 rintro ρ H' ⟨k,h4,hk,h1,ov,h3⟩;refine W.vs ?_;have l2:=(ov.V (g:=0) (by omega:H.A<H1.A)).trans l1;by_cases hb:(k:Int)<ns.length
 ·obtain⟨x,hx⟩:=ao (l:=ns) (i:=k) O;have hne:=eT hx;have e1:=mR hx;obtain⟨xl,xr⟩:=hp x (an hx);simp only[go_sem,h4,h1,l2,hb];refine W.aP 274877890656 (by rfl) (fun ρ' H2=>H2=H'/\∃j:Nat,ρ' 6=aa j/\j<=x.F.length/\ρ' 5=bY (cJ (x.F.take j))) (fun ρ' H=>x.F.length-(iv (ρ' 6)).toNat) ?_ ?_
  ·simp only[go_sem];exact⟨0,rfl,O,rfl⟩
  rintro ρ' H2 ⟨rfl,j,h6,hj,h5⟩;refine W.vs ?_;by_cases hb2:(j:Int)<x.F.length
  ·obtain⟨q,hq⟩:=ao (l:=x.F) (i:=j) O;obtain⟨q0,q1⟩:=xr q (an hq);obtain⟨u,rfl⟩:=VE q0;have hne2:=aO hq;have w1:=W8 (u:Int) O;have w2:=Vv ((j:Int)+1) O;have b1:cJ (x.F.take j)<2 ^ 64:=pG fun p hp=>by have:=xr p (VU hp);omega
   have s1:=fun t x y=>oU (P:=Tryz.prog) (t:=t) (x:=x) (y:=y) (k':=.u64) (s:=u) O;have s2:=fun t x y=>lO (P:=Tryz.prog) (t:=t) (x:=x) (y:=y) (b:=2 ^ u) b1 (WY ZG O);simp only[go_sem,h4,h1,l2,hb,hne,e1,h6,h5,hb2,hq,hne2,w1,w2,s1,s2];exact⟨⟨j+1,ZF,O,by rw[aU hq,wL];rfl⟩,O⟩
  ·obtain⟨v',H3,hA,ov2,hO,hn2,_⟩:=Fp (cJ x.F) ov h3 (by simp[bF];omega);have w1:=Vv ((k:Int)+1) O;rw[Vy O]at h5;simp only[go_sem,h4,h1,l2,hb,hne,e1,h6,h5,hb2,w1,hA];refine⟨by have:=ov2.A;omega,⟨k+1,ZF,O,ov2,?_⟩,O⟩;rw[aU (oJ hx)];exact hO
 ·simp only[go_sem,h4,h1,l2,hb];rw[Vy (by simp[bF];omega)]at h3;exact aq.bC aJ hcl (o1.trans ov) (h3.SX fun i hi=>O) hK
def lI (g L:Int)(r:List Int):Prop:=(r.length:Int)=L/\(∀w∈r,0<=w/\w<=g)/\r.sum=g
def im (g:Int)(ns:List ZL)(x:ZL):Prop:=(x.na.length:Int)=aj (aV ns x)/\∀r∈x.na,lI g x.L r
structure Z5 (g:Int)(ns:List ZL):Prop where
 g1:1<=g/\g<=60
 n1:1<=ns.length/\ns.length<=8
 node:∀x∈ns,(1<=x.L/\x.L<=4)/\cQ x.F ns.length
 size:aj (ak ns)<=1024
 acyc:mV (bF ns)
 na:∀x∈ns,im g ns x
noncomputable def q7 (g:Int)(ns:List ZL):Bool:=@decide (Z5 g ns) (Classical.propDecidable _)
def Fq (h:Z5 g ns):q7 g ns=true:=by unfold q7;exact @decide_eq_true _ (Classical.propDecidable _) h
def Fs (h:¬Z5 g ns):q7 g ns=false:=by unfold q7;exact @decide_eq_false _ (Classical.propDecidable _) h
def xG (ns:List ZL):Prop:=(ns.length:Int)<2 ^ 38/\∀x∈ns,(x.F.length:Int)<2 ^ 38/\(x.na.length:Int)<2 ^ 38/\∀r∈x.na,(r.length:Int)<2 ^ 38
def nu {l:List Int}(h:l.length<=12)(h2:∀x∈l,1<=x/\x<=4):dV l:=⟨h,fun x hx=>by have:=h2 x hx;omega⟩
def oL (hin:fm x.F ns.length)(hc:∀y∈ns,1<=y.L/\y.L<=4):∀c∈aV ns x,1<=c/\c<=4:=fun c h=>by
 unfold aV aK at h;obtain⟨q,hq,rfl⟩:=VI.1 h;obtain⟨j,rfl,y,hy⟩:=n9 (l:=ns) (hin q hq).1 (hin q hq).2;rw[Int.toNat_natCast,bM (dw hy)];exact hc y (an hy)
def jK (h8:ns.length<=8)(hp:cQ x.F ns.length)(hc:∀y∈ns,1<=y.L/\y.L<=4):dV (aV ns x):=by
 refine nu ?_ (oL (fun q hq=>by have:=hp.2 q hq;omega) hc);rw[show (aV ns x).length=_ from iG _ _];have:=hp.len;omega
def AD {n:Nat}(h:∀x∈ns,∀q∈x.F,0<=q/\q<(n:Int)):∀p∈bF ns,p<2 ^ n:=fun p hp=>by
 obtain⟨x,hx,rfl⟩:=VI.1 hp;exact pG fun q hq=>by have:=h x hx q hq;omega
def AE (l:List Int)(x:Int):(l++[x]).sum=l.sum+x:=ZF
end Go.Proofs
namespace Go.Hx
variable {P:Program} {G:Nat->Option (List ZK)} {n:Nat} {rd:Option Nat} {Q:AX->St->Prop}
def vo (P:Program)(G:Nat->Option (List ZK))(f:FuncId)(first cap:List ZK)(xs:List (List ZK))(S:ZJ->Prop):Prop :=
 ∀(idy:Nat) (J:Nat->ZJ->Prop) (Stop:ZJ->Prop) (H:ZJ) (K:ZP->ZJ->Prop),
  (∀k H1,J k H1->S H1)->J 0 H ->
  (∀k x H1 K1,xs[k]?=some x->J k H1->H.A<=H1.A->(∀H',J (k+1) H'->H1.A<=H'.A->K1 (.ret (.lit (.bool true))) H')->(∀H',Stop H'->H1.A<=H'.A->K1 (.ret (.lit (.bool false))) H')->au P G (.np idy) x H1 K1) ->
  (∀H',J xs.length H'->H.A<=H'.A->K (.ret (.nf [])) H') ->
  (∀H',Stop H'->H.A<=H'.A->K (.ret (.nf [])) H') ->
  ag P G f (first++[.np idy]++cap) H K
def dE (idy:Nat)(B:ZQ)(lo:Nat)(J:ZJ->Prop)(Stop:AX->ZJ->Prop):AX->St->Prop
 |.normal,s=>s.H.get idy=some B/\lo<=s.H.A/\J s.H
 |.ret,s=>s.H.get idy=some B/\lo<=s.H.A/\Stop .ret s.H
 |.exit i,s=>s.H.get idy=some B/\lo<=s.H.A/\Stop (.exit i) s.H
 |_,_=>False
def fO (P:Program)(G:Nat->Option (List ZK))(n idy:Nat)(B Bb:ZQ)(lo:Nat)(body:Code)(J:ZJ->Prop)(Stop:AX->ZJ->Prop):AX->St->Prop
 |.normal,s=>s.H.get idy=some B/\W P G n (some idy) body (dE idy Bb lo J Stop) ⟨s.ρ,s.H.upd idy Bb⟩
 |_,_=>False
def W.jN {g:Operand}{ps:Array Tmp}{asg body:Code}{ρ:Env}{H:ZJ}{f:FuncId}{first cap:List ZK}{xs:List (List ZK)}{S:ZJ->Prop}(hg:ay G ρ g=.Z f first cap)
  (hit:vo P G f first cap xs S) (J:Nat->ZJ->Prop) (Stop:AX->ZJ->Prop) (hS:∀k H1,J k H1->S H1)
  (hJu:∀k H1 b,J k H1->J k (H1.upd H.A b)) (hSu:∀c H1 b,Stop c H1->Stop c (H1.upd H.A b))
  (hJ0:∀b,J 0 (ext H [b])) (hps:ps.toList.all (fun t=>decide (t<n))=true) (hxl:∀x∈xs,x.length=ps.size)
  (hrd:∀k H1,J k H1->fZ H1 rd) (hrd2:∀c H1,Stop c H1->fZ H1 rd)
  (hround:∀k x H1 B Bb,xs[k]?=some x->J k H1->H.A+1<=H1.A->H1.get H.A=some B->(∃st pd n' en ps' as' bo,Bb=ZQ.loop st pd n' en ps' as' bo) ->
   W P G n (some H.A) asg (fO P G n H.A B Bb H1.A body (J (k+1)) Stop) ⟨eZ (bb ρ n) (ps.toList.zip x),H1⟩)
  (hend:∀H',J xs.length H'->H.A+1<=H'.A->Q .normal ⟨ρ,H'⟩)
  (hret:∀H',Stop .ret H'->H.A+1<=H'.A->Q .ret ⟨ρ,H'⟩) (hexit:∀i H',Stop (.exit i) H'->H.A+1<=H'.A->Q (.exit i) ⟨ρ,H'⟩):
  W P G n rd (.rangeFunc g ps asg body) Q ⟨ρ,H⟩:=by
 refine W.rangeFunc (s:=⟨ρ,H⟩) hg ⟨_,tR _ _,?_⟩;obtain⟨B,hB⟩:∃B,B=ZQ.loop .ready none n ρ ps asg body:=⟨_,rfl⟩
 obtain⟨Bb,hBb⟩:∃B,B=ZQ.loop .busy none n ρ ps asg body:=⟨_,rfl⟩
 have nx:(ext H [B]).A=H.A+1:=rfl;show ag P G f (first++[.np H.A]++cap) (ext H [ZQ.loop .ready none n ρ ps asg body]) (yW rd Q ρ H.A);rw[<- hB];refine hit H.A (fun k H1=>H1.get H.A=some B/\J k H1) (fun H1=>∃c pend,H1.get H.A=some (.loop .done (some pend) n ρ ps asg body)/\Stop c H1/\((c=.ret/\pend=.ret)\/∃i,c=.exit i/\pend=.exit i)) _ _
  (fun k H1 h=>hS k H1 h.2) ⟨cI,hJ0 B⟩ (fun k x H1 K1 hx hj hn hgo hst=>?_) (fun H' hj hn=>?_) (fun H' hj hn=>?_)
 ·have hxm:=hxl x (an hx);refine au.np (hj.1.trans (congrArg some hB)) hxm hps ?_;refine(hround k x H1 B Bb hx hj.2 hn hj.1 ⟨_,_,_,_,_,_,_,hBb⟩).mono fun e s1 h1=>?_;cases e with
  |normal =>
   obtain⟨a1,a2⟩:=h1;refine⟨Bb,by rw[a1,hB,hBb];rfl,?_⟩;refine a2.mono fun e2 s2 h2=>?_;cases e2 with
   |normal =>
    obtain⟨b1,b2,b3⟩:=h2;exact⟨B,by rw[b1,hB,hBb];rfl,hgo _ ⟨by rw[af,VA rfl],hJu _ _ _ b3⟩ b2⟩
   |ret =>
    obtain⟨b1,b2,b3⟩:=h2;exact⟨.loop .done (some .ret) n ρ ps asg body,by rw[b1,hBb];rfl,hst _ ⟨.ret,.ret,by rw[af,VA rfl],hSu _ _ _ b3,.inl ⟨rfl,rfl⟩⟩ b2⟩
   |exit i =>
    obtain⟨b1,b2,b3⟩:=h2;exact⟨.loop .done (some (.exit i)) n ρ ps asg body,by rw[b1,hBb];rfl,hst _ ⟨.exit i,.exit i,by rw[af,VA rfl],hSu _ _ _ b3,.inr ⟨i,rfl,rfl⟩⟩ b2⟩
   |_=>exact h2.elim
  |_=>exact h1.elim
 ·refine⟨hrd _ _ hj.2,(none,.loop .exhausted none n ρ ps asg body),by rw[hj.1,hB];rfl,?_⟩;exact hend _ (hJu _ _ _ hj.2) hn
 ·obtain⟨c,pend,h1,h2,h3⟩:=hj;refine⟨hrd2 _ _ h2,(some pend,.loop .exhausted (some pend) n ρ ps asg body),by rw[h1];rfl,?_⟩;rcases h3 with ⟨rfl,rfl⟩|⟨i,rfl,rfl⟩
  ·exact hret _ (hSu _ _ _ h2) hn
  ·exact hexit i _ (hSu _ _ _ h2) hn
end Go.Hx
namespace Go.Proofs
open Go.Hx
variable {g:Int}{l:List Int}{ns:List ZL}{k:Nat}{x:ZL}
def uR (x:ZL):ZK:=.agg [.lit (.int .i64 x.L),.Q x.F.length (ints x.F),aE x.na]
def pY (na:List (List Int)):List (List ZK):=na.zipIdx.map fun p=>[aa p.2,ah p.1]
def Ft {na:List (List Int)}{x:List ZK}(h:(pY na)[k]?=some x):∃r,na[k]?=some r/\x=[aa k,ah r]:=by
 unfold pY at h;rw[List.getElem?_map,Xw]at h;cases hr:na[k]? with
 |none=>rw[hr]at h;simp at h
 |some r=>rw[hr]at h;simp at h;exact⟨r,rfl,h.symm⟩
def S3 {na:List (List Int)}{r:List Int}(h:na[k]?=some r):(pY na)[k]?=some [aa k,ah r]:=by
 unfold pY;rw[List.getElem?_map,Xw,h];simp
def Fu (na:List (List Int)):(pY na).length=na.length:=by simp[pY]
def S4 (x:ZL)(hl:(x.na.length:Int)<2 ^ 40)(b:Nat):vo Tryz.prog G0 165 [] [.M b 0 0] (pY x.na) (fun H=>H.get b=some (.J 0 87 [.lit (.int .i64 x.L),.Q x.F.length (ints x.F),aE x.na])):=by
 intro idy J Stop H K hS hJ0 hY hK hSt;have l0:=ae (hS 0 H hJ0);show ag _ _ _ ([.np idy]++[.M b 0 0]) _ _;refine ag.st (n:=19) (rs:=[]) Tryz.func165 ?_;simp only[go_sem,l0,aE];refine W.aP 524056 (by rfl) (fun ρ H'=>∃k:Nat,ρ 8=aa k/\k<=x.na.length/\J k H'/\H.A<=H'.A) (fun ρ H=>x.na.length-(iv (ρ 8)).toNat) ?_ ?_
 ·simp only[go_sem];exact⟨0,rfl,O,hJ0⟩
 rintro ρ H' ⟨k,h8,hk,hj,hn⟩;refine W.vs ?_;by_cases hb:(k:Int)<x.na.length
 ·obtain⟨r,hr⟩:=ao (l:=x.na) (i:=k) O;have hne:=aO hr;have w1:=Vv ((k:Int)+1) O;simp only[go_sem,h8,hb,hr,hne];refine hY k [aa k,ah r] H' _ (S3 hr) hj hn (fun H2 hj2 hn2=>⟨trivial,?_⟩) (fun H2 hs2 hn2=>⟨trivial,?_⟩)
  ·simp only[go_sem,h8,w1];exact⟨O,⟨k+1,ZF,O,hj2,O⟩,O⟩
  ·simp only[go_sem];exact aq.mk O (hSt H2 hs2 O)
 ·simp only[go_sem,h8,hb];have ek:k=(pY x.na).length:=by rw[Fu];omega
  subst ek;exact aq.mk O (hK H' hj hn)
def S5 (x:ZL)(H:ZJ)(K:ZP->ZJ->Prop)(hK:K (.ret (.Z 165 [] [.M H.A 0 0])) (ext H [.J 0 87 [.lit (.int .i64 x.L),.Q x.F.length (ints x.F),aE x.na]])):
  ag Tryz.prog G0 159 [uR x] H K:=by
 refine ag.st (n:=4) (rs:=[.tmp 2]) Tryz.func159 ?_;simp only[go_sem,uR];exact aq.mk (by simp[aM]) hK
def AF {g:Int}(h:∀w∈l,0<=w):0<=l.sum:=by
 induction l with
 |nil=>simp
 |cons a l ih =>
  have h1:=ih fun w hw=>h w (by simp[hw]);have h2:=h a ZF;simp only[XF];omega
def AG (h:∀w∈l,0<=w):∀w∈l,w<=l.sum:=by
 induction l with
 |nil=>intro w hw;cases hw
 |cons a l ih =>
  intro w hw;have h1:=AF (g:=0) fun w hw=>h w (Xv a hw);have h2:=h a ZF;simp only[XF];rcases List.mem_cons.1 hw with rfl|hw
  ·omega
  ·have:=ih (fun w hw=>h w (by simp[hw])) w hw;omega
noncomputable def ny (g:Int)(ns:List ZL)(x:ZL):Bool:=@decide (im g ns x) (Classical.propDecidable _)
def Fv (h:im g ns x):ny g ns x=true:=by unfold ny;exact @decide_eq_true _ (Classical.propDecidable _) h
def S6 (h:¬im g ns x):ny g ns x=false:=by unfold ny;exact @decide_eq_false _ (Classical.propDecidable _) h
def S7 :ny g ns x=true↔im g ns x:=by unfold ny;exact @decide_eq_true_iff _ (Classical.propDecidable _)
def S8 (g:Int)(hg:1<=g/\g<=60)(ns:List ZL)(sets:List Nat)(x:ZL)(hin:fm x.F ns.length)(hsm:dV (aV ns x))(hx1:(x.na.length:Int)<2 ^ 38)(hx2:∀r∈x.na,(r.length:Int)<2 ^ 38)(H:ZJ)(K:ZP->ZJ->Prop)
  (hK:K (.ret (.lit (.bool (ny g ns x)))) H):ag Tryz.prog G0 146 [.agg [.lit (.int .i64 g),dX ns,ah (ak ns),jJ sets,.lit (.slice none 0 0)],uR x] H K:=by
 refine ag.Z ⟨_,Tryz.func146,rfl,rfl⟩ fun hcl=>?_;have l12:=hsm.1;have pl:(aV ns x).length=x.F.length:=iG _ _;have no:¬im g ns x->∀H',ZN H H'->aq Tryz.prog G0 H K (.lit (.bool false)) H':=fun h H' ov=>aq.bC aJ hcl ov (.lit _) (by rw[S6 h]at hK;exact hK);refine ag.st (n:=66) (rs:=[.cell 4 4]) Tryz.func146 ?_;simp only[go_sem,dX,uR];obtain⟨H1,hH1⟩:∃H1,H1=ext H [.J 0 201 [.lit (.int .i64 g),.Q ns.length (aG ns),.Q (ak ns).length (ints (ak ns)),.Q sets.length (sets.map bY),.lit (.slice none 0 0)],.J 0 87 [.lit (.int .i64 x.L),.Q x.F.length (ints x.F),aE x.na],.J 0 4 [.lit (.bool false)]]:=⟨_,rfl⟩
 have l1:H1.V H.A 0=some (201,[.lit (.int .i64 g),.Q ns.length (aG ns),.Q (ak ns).length (ints (ak ns)),.Q sets.length (sets.map bY),.lit (.slice none 0 0)]):=by rw[hH1];exact ae (dA ..)
 have l2:H1.V (H.A+1) 0=some (87,[.lit (.int .i64 x.L),.Q x.F.length (ints x.F),aE x.na]):=by rw[hH1];exact ae (bH H _ 1 ZF)
 have g3:=gE hH1 2 rfl
 have n1:H1.A=H.A+3:=hH1▸rfl
 have o1:ZN H H1:=hH1▸.ext _ _
 rw[<- hH1];refine W.aP 268370080 (by rfl) (fun ρ H'=>H'=H1/\∃k:Nat,ρ 16=aa k/\k<=x.F.length/\ρ 5=aa (aj ((aV ns x).take k))) (fun ρ H=>x.F.length-(iv (ρ 16)).toNat) ?_ ?_
 ·simp only[go_sem];exact⟨0,rfl,O,by simp[iT]⟩
 rintro ρ H' ⟨rfl,k,h16,hk,h5⟩;refine W.vs ?_;by_cases hb:(k:Int)<x.F.length
 ·obtain⟨q,hq⟩:=ao (l:=x.F) (i:=k) O;obtain⟨j,rfl,y,hy⟩:=n9 (l:=ns) (hin q (an hq)).1 (hin q (an hq)).2;have hne2:=aO hq;have hyc:=dw hy;have hne3:=aO hyc;have hj:(j:Int)<(ak ns).length:=by have:=aI hyc;omega
  have pk:(aV ns x)[k]?=some y.L:=by
   rw[show (aV ns x)[k]?=_ from kF hq,Int.toNat_natCast,bM hyc]
  have b1:=(hsm.take (k+1)).prod;rw[aU pk,gQ]at b1;have w1:=Vv ((k:Int)+1) O;have w2:=Vv (aj ((aV ns x).take k)*y.L) O;simp only[go_sem,h16,h5,l1,hb,hq,hne2,hj,hyc,hne3,w1,w2];exact⟨⟨k+1,ZF,O,by rw[aU pk,gQ]⟩,O⟩
 rw[Vy O]at h5;by_cases c1:(x.na.length:Int)=aj (aV ns x);rotate_left
 ·simp only[go_sem,h16,h5,l2,hb,c1,aE];have l3:=ae g3;simp only[go_sem,l3];exact no (fun h=>c1 h.1) _ (o1.upd O _)
 simp only[go_sem,h16,h5,l2,hb,c1,aE];refine au.Z (S5 x _ _ ⟨trivial,?_⟩);simp only[go_sem];obtain⟨H2,hH2⟩:∃H2,H2=ext H' [.J 0 87 [.lit (.int .i64 x.L),.Q x.F.length (ints x.F),aE x.na]]:=⟨_,rfl⟩
 rw[<- hH2];have o2:ZN H' H2:=by rw[hH2];exact .ext _ _
 have n2:H2.A=H.A+4:=by rw[hH2,aM,n1];rfl
 have hbx:H2.get H'.A=some (.J 0 87 [.lit (.int .i64 x.L),.Q x.F.length (ints x.F),aE x.na]):=by rw[hH2];exact cI
 refine W.env fun E hE=>?_;have e2:E 2=.M H.A 0 0:=by rw[hE];simp only[go_sem]
 have e3:E 3=.M (H.A+1) 0 0:=by rw[hE];simp only[go_sem]
 have e4:E 4=.M (H.A+2) 0 0:=by rw[hE];simp only[go_sem]
 have i1:H2.V H.A 0=some (201,[.lit (.int .i64 g),.Q ns.length (aG ns),.Q (ak ns).length (ints (ak ns)),.Q sets.length (sets.map bY),.lit (.slice none 0 0)]):=(o2.V O).trans l1;have i2:H2.V (H.A+1) 0=some (87,[.lit (.int .i64 x.L),.Q x.F.length (ints x.F),aE x.na]):=(o2.V O).trans l2;have i3:H2.get (H.A+2)=some (.J 0 4 [.lit (.bool false)]):=(o2.nb _ O).trans g3;refine W.jN (f:=165) (first:=[]) (cap:=[.M H'.A 0 0]) (by show E 34=_;rw[hE];rfl) (S4 x O H'.A)
  (fun k Hx=>ZN H2 Hx/\∀r∈x.na.take k,lI g x.L r) (fun c Hx=>c=.ret/\ZN H Hx/\H.A+4<=Hx.A/\Hx.get (H.A+2)=some (.J 0 4 [.lit (.bool false)])/\¬im g ns x)
  (fun k Hx h=>by rw[h.1.nb _ O];exact hbx) (fun k Hx b h=>⟨h.1.upd ZI b,h.2⟩) (fun c Hx b h=>⟨h.1,h.2.1.upd O b,h.2.2.1,by rw[af,Vx O];exact h.2.2.2.1,h.2.2.2.2⟩)
  (fun b=>⟨.ext _ _,ZF⟩) ZG (fun y hy=>by
   obtain⟨k,hk⟩:=VG.1 hy;obtain⟨r,_,rfl⟩:=Ft hk;rfl) (fun _ _ _=>trivial) (fun _ _ _=>trivial) (fun k y Hx B Bb hy hj hn hB hBb=>?_) (fun Hx hj hn=>?_) (fun Hx hs hn=>?_) (fun i Hx hs hn=>by cases hs.1)
 ·obtain⟨r,hr,rfl⟩:=Ft hy;refine W.vs ?_;simp only[go_sem,eZ,bb,fO,V6,Ws,V7,Wb,hB];obtain⟨H3,hH3⟩:∃H3,H3=Hx.upd H2.A Bb:=⟨_,rfl⟩
  rw[<- hH3];obtain⟨st,pd,n',en,ps',as',bo,hBe⟩:=hBb;have o3:ZN H2 H3:=by rw[hH3];exact hj.1.upd ZI Bb
  have o4:ZN H H3:=(o1.trans o2).trans o3;have n3:H3.A=Hx.A:=by rw[hH3];rfl
  have j1:=(o3.V (g:=0) (by omega:H.A<H2.A)).trans i1;have j2:=(o3.V (g:=0) (by omega:H.A+1<H2.A)).trans i2;have j3:=(o3.nb _ (by omega:H.A+2<H2.A)).trans i3;have j4:=ae j3;have jB:H3.get H2.A=some Bb:=by rw[hH3,af,VA rfl]
  have nB:¬H2.A=H.A+2:=O
  have hrm:=an hr;have hrl:=hx2 r hrm;have nope:¬lI g x.L r->¬im g ns x:=fun h h'=>h (h'.2 r hrm);have stop:¬lI g x.L r->(H3.upd (H.A+2) (ZQ.J 0 4 [.lit (.bool false)])).get H2.A=some Bb/\Hx.A<=(H3.upd (H.A+2) (ZQ.J 0 4 [.lit (.bool false)])).A/\ZN H (H3.upd (H.A+2) (ZQ.J 0 4 [.lit (.bool false)])) /\
    H.A+4<=(H3.upd (H.A+2) (ZQ.J 0 4 [.lit (.bool false)])).A/\(H3.upd (H.A+2) (ZQ.J 0 4 [.lit (.bool false)])).get (H.A+2)=some (.J 0 4 [.lit (.bool false)])/\¬im g ns x:=fun h =>
   ⟨by rw[af,Vx nB];exact jB,by rw[aA];omega,o4.upd O _,by rw[aA];omega,by rw[af,VA rfl],nope h⟩
  refine W.vs ?_;simp only[go_sem,bb,e2,j1];refine W.aP 144110790029349888 (by rfl) (fun ρ2 H4=>H4=H3/\∃i:Nat,ρ2 42=aa i/\i<=r.length/\(∀w∈r.take i,0<=w)/\(r.take i).sum<=g/\ρ2 10=aa (g-(r.take i).sum)) (fun ρ2 H=>r.length-(iv (ρ2 42)).toNat) ?_ ?_
  ·simp only[go_sem];exact⟨0,rfl,O,ZF,by simp;omega,ZF⟩
  rintro ρ2 H4 ⟨rfl,i,h42,hi,hw0,hws,h10⟩;refine W.vs ?_;have s0:=AF (g:=g) hw0;by_cases hb2:(i:Int)<r.length
  ·obtain⟨a,ha⟩:=ao (l:=r) (i:=i) O;have ham:=an ha;have hane:=aO ha;by_cases d1:a<0
   ·simp only[go_sem,h42,hb2,ha,hane,d1,bb,e4,j4,dE];exact stop fun h=>by have:=h.2.1 a ham;omega
   by_cases d2:a > g-(r.take i).sum
   ·simp only[go_sem,h42,h10,hb2,ha,hane,d1,d2,bb,e4,j4,dE];refine stop fun h=>?_;have h1:r.sum=(r.take (i+1)).sum+(r.drop (i+1)).sum:=(by rw[<- YZ,V5]);rw[aU ha,AE]at h1;have h2:=AF (g:=g) (l:=r.drop (i+1)) fun w hw=>(h.2.1 w (WZ hw)).1;have:=h.2.2;omega
   have w1:=Vv ((i:Int)+1) O;have w2:=Vv (g-(r.take i).sum-a) O;simp only[go_sem,h42,h10,hb2,ha,hane,d1,d2,w1,w2,bb];refine⟨⟨_,_,_,_,_,_,_,by rw[jB,hBe]⟩,⟨i+1,ZF,O,fun w hw=>?_,by rw[aU ha,AE];omega,?_⟩,O⟩
   ·rw[aU ha]at hw;rcases V3.1 hw with hw|hw
    ·exact hw0 w hw
    ·obtain rfl:=List.mem_singleton.1 hw;omega
   ·rw[aU ha,AE];show aa _=aa _;congr 1;omega
  ·rw[Vy O]at hw0 hws h10 s0;by_cases d1:(r.length:Int)=x.L;rotate_left
   ·simp only[go_sem,h42,hb2,d1,bb,e3,e4,j2,j4,dE];exact stop fun h=>d1 h.1
   have hb2':¬(i:Int)<x.L:=O;by_cases d2:g-r.sum=0;rotate_left
   ·simp only[go_sem,h42,h10,hb2',d1,d2,bb,e3,e4,j2,j4,dE];exact stop fun h=>by have:=h.2.2;omega
   simp only[go_sem,h42,h10,hb2',d1,d2,bb,e3,j2,dE];refine⟨jB,O,o3,fun y hy=>?_⟩;rw[aU hr]at hy;rcases V3.1 hy with hy|hy
   ·exact hj.2 y hy
   ·obtain rfl:=List.mem_singleton.1 hy;exact⟨d1,fun w hw=>⟨hw0 w hw,by have:=AG hw0 w hw;omega⟩,O⟩
 ·have hok:im g ns x:=⟨c1,by
   have:=hj.2;rw[Fu,XG]at this;exact this⟩
  have j4:=ae ((hj.1.nb _ (by omega:H.A+2<H2.A)).trans i3);rw[Fv hok]at hK;simp only[go_sem,e4,j4];exact aq.bC aJ hcl (((o1.trans o2).trans hj.1).upd O _) (.lit _) hK
 ·obtain⟨_,o4,n4,g4,hno⟩:=hs;have j4:=ae g4;simp only[go_sem,e4,j4];exact no hno _ o4
end Go.Proofs
namespace Go.Hx
variable {e:TypeId}{H:ZJ}
def aD.mB {lo:Nat}{v:ZK}{l:List Int}(h:aD lo H e v (ints l)):Z7 H v (ah l):=by
 rcases h with ⟨rfl,h⟩|⟨id,g,h1,h2,rfl,h4⟩
 ·have:l=[]:=by cases l with
   |nil=>rfl
   |cons a l=>simp[ints]at h
  subst this;exact .nil
 ·have e:ah l=.Q (ints l).length (ints l):=by rw[aR];rfl
  rw[e];refine .U h4 ZF fun j hj h2 h'=>?_;simp only[Nat.zero_add,ints,VO];exact .lit _
def Fz.pZ {id g n nx:Nat}{cs:List ZK}(hg:H.get id=some (.J g e cs))(hn:n=cs.length)(hl:∀c∈cs,∃v,c=.lit v):Fz (fun _=>True) H nx (.U id g 0 n 1) (.Q n cs):=by
 refine .nz trivial hg O fun j hj h2 h'=>?_;simp only[Nat.zero_add];obtain⟨v,hv⟩:=hl _ (Wo h');rw[hv];exact .lit _
end Go.Hx
namespace Go.Proofs
open Go.Hx
variable {n:Nat}{p:Nat->Bool}
def bp (l:List Nat):List Int:=l.map fun (v:Nat)=>(v:Int)
def Fw {j:Nat}(hj:j<n)(h1:∀v,v<j->p v=false)(h2:p j=true):(List.range n).find? p=some j:=by
 rw[List.find?_eq_some_iff_getElem];refine⟨h2,j,by simpa using hj,ZF,fun k hk=>?_⟩;simp only[List.getElem_range];simp[h1 k hk]
def Fx (h1:∀v,v<n->p v=false):(List.range n).find? p=none:=by
 rw[YM];intro x hx;simp[h1 x (VP.1 hx)]
def S9 (ps:List Nat)(hl:ps.length<=60)(hp:∀p∈ps,p<2 ^ 64)(H:ZJ)(K:ZP->ZJ->Prop)
  (hK:∀v H',ZN H H'->(match gI ps with|some o=>aD H.A H' 3 v (ints (bp o))|none=>v=.lit (.slice none 0 0))->K (.ret (.nf [v,.lit (.bool (gI ps).isSome)])) H'):ag Tryz.prog G0 147 [jJ ps] H K:=by
 have no:∀H',gI ps=none->ZN H H'->aq Tryz.prog G0 H K (.nf [.lit (.slice none 0 0),.lit (.bool false)]) H':=fun H' h ov=>aq.mk ov.A (by
  have:=hK (.lit (.slice none 0 0)) H' ov;rw[h]at this;exact this rfl)
 refine ag.st (n:=44) (rs:=[.tmp 2,.tmp 3]) Tryz.func147 ?_;simp only[go_sem];refine⟨O,?_⟩;refine W.aP 8796093020412 (by rfl) (fun ρ H'=>∃(out:List Nat) (done:Nat),ρ 5=bY done/\done<2 ^ 64/\out.length<=ps.length/\H.A+1<=H'.A/\ZN H H'/\aD H.A H' 3 (ρ 4) (ints (bp out))/\(∃id g,ρ 4=.U id g 0 out.length 1)/\jg ps (ps.length-out.length) out done=gI ps)
  (fun ρ H=>ps.length-(match ρ 4 with|.U _ _ _ n _=>n|_=>0)) ?_ ?_
 ·simp only[go_sem];exact⟨[],0,ZF,ZG,WO _,.ext _ _,.inr ⟨H.A,0,ZI,by simp[aM],rfl,dA H _ []⟩,⟨_,_,rfl⟩,rfl⟩
 rintro ρ H' ⟨out,done,h5,hd,ho,hn0,ov,h4,⟨id,gn,h4e⟩,ht⟩;refine W.vs ?_;have lv:H'.V id gn=some (3,ints (bp out)):=by
  rcases h4 with ⟨h,_⟩|⟨i,g,h1,h2,h3,h4⟩
  ·rw[h4e]at h;cases h
  ·rw[h4e]at h3;have:=ZK.U.inj h3;obtain⟨rfl,rfl,_⟩:=this;exact ae h4
 by_cases hb:(out.length:Int)<ps.length
 ·simp only[go_sem,h4e,lv,hb];have hk1:ps.length-out.length=(ps.length-(out.length+1))+1:=O
  refine W.aP 8796092760304 (by rfl) (fun ρ2 H2=>H2=H'/\∃j:Nat,ρ2 18=aa j/\j<=ps.length/\ρ2 4=.U id gn 0 out.length 1/\ρ2 5=bY done/\∀v,v<j->ku ps done v=false) (fun ρ2 H=>ps.length-(iv (ρ2 18)).toNat) ?_ ?_
  ·simp only[go_sem,h4e,h5];exact⟨0,rfl,O,fun v h=>absurd h (VN _)⟩
  rintro ρ2 H2 ⟨rfl,j,h18,hj,h4',h5',hno⟩;refine W.vs ?_;by_cases hb2:(j:Int)<ps.length
  ·obtain⟨p,hpj⟩:=ao (l:=ps) (i:=j) O;have hp1:=hp p (an hpj);have hne:=aO hpj;have s1:=fun t x y=>nE (P:=Tryz.prog) (t:=t) (x:=x) (y:=y) (k':=.i64) (s:=j) hd;have s2:=fun t x y=>oV (P:=Tryz.prog) (t:=t) (x:=x) (y:=y) (s:=j) hd;have s3:=fun t x y=>AY (P:=Tryz.prog) (t:=t) (x:=x) (y:=y) (a:=p) (b:=done);have w1:=Vv ((j:Int)+1) O;have cont:ku ps done j=false->∀v,v<j+1->ku ps done v=false:=fun h v hv=>by
    rcases VV v j with h'|h'
    ·exact hno v h'
    ·obtain rfl:v=j:=O;exact h
   have fe:ku ps done j=(!done.testBit j && decide (ju p done=0)):=(by unfold ku;rw[bM hpj]);cases hbit:done.testBit j;rotate_left
   ·simp only[go_sem,h18,h4',h5',hb2,hpj,hne,s1,s2,hbit,w1];exact⟨⟨j+1,ZF,O,cont (by rw[fe,hbit];rfl)⟩,O⟩
   by_cases hz:ju p done=0;rotate_left
   ·have hz':¬((ju p done:Nat):Int)=0:=O;simp only[go_sem,h18,h4',h5',hb2,hpj,hne,s1,s2,s3,hbit,hz',w1];exact⟨⟨j+1,ZF,O,cont (by rw[fe,hbit];simp[hz])⟩,O⟩
   have hz':((ju p done:Nat):Int)=0:=O;have hnx:mn ps done=some j:=Fw O hno (by rw[fe,hbit];simp[hz]);obtain⟨v',H3,hA,ov2,hO,hn2,_⟩:=kL (j:Int) ov h4 (by simp[bp];omega);rw[h4e]at hA;have b2:(2:Nat) ^ j<2 ^ 64:=WY ZG O;have s4:=fun t x y=>oU (P:=Tryz.prog) (t:=t) (x:=x) (y:=y) (k':=.i64) (s:=j) O;have s5:=fun t x y=>lO (P:=Tryz.prog) (t:=t) (x:=x) (y:=y) hd b2;simp only[go_sem,h18,h4',h5',hb2,hpj,hne,s1,s2,s3,s4,s5,hbit,hz',hA];have hO':aD H.A H3 3 v' (ints (bp (out++[j]))):=by
    have e:bp (out++[j])=bp out++[(j:Int)]:=(by simp[bp]);rw[e];exact hO
   have hv':∃id g,v'=.U id g 0 (out.length+1) 1:=by
    rcases hO' with ⟨_,h⟩|⟨i,g,_,_,h3,_⟩
    ·simp[ints,bp]at h
    ·exact⟨i,g,by rw[h3,aR];simp[bp]⟩
   obtain⟨i2,g2,rfl⟩:=hv';refine⟨O,⟨out++[j],done |||2 ^ j,rfl,Xx hd b2,by simp;omega,O,ov2,hO',⟨i2,g2,ZF⟩,?_⟩,by simp only;omega⟩;rw[<- ht,hk1]
   conv=>rhs;unfold jg
   rw[hnx];simp
  ·simp only[go_sem,h18,hb2];refine no _ ?_ ov;rw[<- ht,hk1];unfold jg;have:mn ps done=none:=Fx fun v hv=>hno v O;rw[this]
 ·simp only[go_sem,h4e,lv,hb];have hz:ps.length-out.length=0:=O
  rw[hz]at ht;have ht':gI ps=some out:=ht.symm;have:=hK (.U id gn 0 out.length 1) H' ov;rw[ht']at this;refine aq.mk ov.A (this ?_);rw[h4e]at h4;exact h4
def Ta (ps:List Nat)(hl:ps.length<=60)(hp:∀p∈ps,p<2 ^ 64)(H:ZJ)(v:ZK)(hv:Fz (fun _=>True) H 0 v (jJ ps))(K:ZP->ZJ->Prop)
  (hK:K (.ret (.nf [ah (bp ((gI ps).getD [])),.lit (.bool (gI ps).isSome)])) H):ag Tryz.prog G0 147 [v] H K:=by
 refine(ag.frame (H:=H) (args:=[v]) (args':=[jJ ps]) (v':=.nf [ah (bp ((gI ps).getD [])),.lit (.bool (gI ps).isSome)]) aJ rfl (fun i hi _=>match i,hi with|0,_=>hv) (S9 ps hl hp cZ _ fun u H' ov hu=>⟨_,rfl,?_⟩)).mono ?_
 ·refine .nf rfl fun i hi _=>?_
  match i,hi with
  |0,_ =>
   show Z7 H' u _;cases ht:gI ps with
   |none=>rw[ht]at hu;simp only at hu;rw[hu];show Z7 H' _ (ah []);exact .nil
   |some o=>rw[ht]at hu;exact aD.mB hu
  |1,_=>exact .lit _
 ·rintro r H' ⟨rfl,rfl⟩;exact hK
end Go.Proofs
