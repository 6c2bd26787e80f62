/-
  Closed facts of this seat's types. Laid by a program of ours.
-/
import Derived.Test.YtebhdkihcdmmjaaGreatProg
import Derived.Test.YtebhdkihcdmmjaaGreatLibC
import Derived.Test.YtebhdkihcdmmjaaGreatLibB
set_option linter.all false
set_option maxHeartbeats 8000000
namespace Go.Proofs
open Go.Hx
variable {i z:Nat}{α:Type}
def Tryz.mixed:Tryz.prog.follows .mixedOrders=true:=Zl
def Tryz.fK:Tryz.prog.cellsOf 3=1:=Zl
def Tryz.gI:Tryz.prog.bytesOf 3=8:=Zl
def Tryz.fy:bS Tryz.prog 3=some [.lit (.int .i64 0)]:=Zl
def Tryz.CD:Tryz.prog.cellsOf 4=1:=Zl
def Tryz.Nf:Tryz.prog.bytesOf 4=1:=Zl
def Tryz.Ng:bS Tryz.prog 4=some [.lit (.bool false)]:=Zl
def Tryz.tc:Tryz.prog.cellsOf 5=1:=Zl
def Tryz.Nh:Tryz.prog.bytesOf 5=1:=Zl
def Tryz.Ni:bS Tryz.prog 5=some [.lit (.int .u8 0)]:=Zl
def Tryz.CE:Tryz.prog.cellsOf 22=1:=Zl
def Tryz.yU:Tryz.prog.cellsOf 23=1:=Zl
def Tryz.CF:Tryz.prog.cellsOf 25=3:=Zl
def Tryz.Nj:bL Tryz.prog 25 0=some (0,5):=Zl
def Tryz.Nk:bL Tryz.prog 25 1=some (1,22):=Zl
def Tryz.Nm:bL Tryz.prog 25 2=some (2,23):=Zl
def Tryz.CG:Tryz.prog.cellsOf 26=1:=Zl
def Tryz.No:Tryz.prog.cellsOf 28=6:=Zl
def Tryz.Np:bL Tryz.prog 28 0=some (0,25):=Zl
def Tryz.Nq:bL Tryz.prog 28 1=some (3,5):=Zl
def Tryz.Nr:bL Tryz.prog 28 2=some (4,4):=Zl
def Tryz.Ns:bL Tryz.prog 28 3=some (5,26):=Zl
def Tryz.CH:Tryz.prog.cellsOf 34=1:=Zl
def Tryz.CI:Tryz.prog.bytesOf 34=8:=Zl
def Tryz.CJ:bS Tryz.prog 34=some [.lit (.int .u64 0)]:=Zl
def Tryz.Nt:Tryz.prog.cellsOf 35=1:=Zl
def Tryz.Nu:Tryz.prog.cellsOf 36=1:=Zl
def Tryz.Nv:Tryz.prog.cellsOf 38=4:=Zl
def Tryz.Nw:bS Tryz.prog 38=some [.lit (.int .i64 0),.lit (.slice none 0 0),.lit (.int .u64 0),.lit (.slice none 0 0)]:=Zl
def Tryz.Nx:ja Tryz.prog 38=some [(0,1),(1,1),(2,1),(3,1)]:=Zl
def Tryz.Ny:bL Tryz.prog 38 0=some (0,3):=Zl
def Tryz.Nz:bL Tryz.prog 38 1=some (1,35):=Zl
def Tryz.NA:bL Tryz.prog 38 2=some (2,34):=Zl
def Tryz.NB:bL Tryz.prog 38 3=some (3,36):=Zl
def Tryz.NC:Tryz.prog.cellsOf 44=1:=Zl
def Tryz.ND:bS Tryz.prog 44=some [.lit (.int .i64 0)]:=Zl
def Tryz.NF:Tryz.prog.cellsOf 58=2:=Zl
def Tryz.NG:bS Tryz.prog 58=some [.lit (.int .i64 0),.lit (.int .i64 0)]:=Zl
def Tryz.NH:ja Tryz.prog 58=some [(0,1),(1,1)]:=Zl
def Tryz.NI:bL Tryz.prog 58 0=some (0,3):=Zl
def Tryz.NJ:bL Tryz.prog 58 1=some (1,3):=Zl
def Tryz.NK:Tryz.prog.cellsOf 68=1:=Zl
def Tryz.yV:Tryz.prog.cellsOf 72=1:=Zl
def Tryz.yW:Tryz.prog.bytesOf 72=24:=Zl
def Tryz.yX:bS Tryz.prog 72=some [.lit (.slice none 0 0)]:=Zl
def Tryz.NL:Tryz.prog.cellsOf 74=1:=Zl
def Tryz.CK:Tryz.prog.cellsOf 76=3:=Zl
def Tryz.CL:Tryz.prog.bytesOf 76=56:=Zl
def Tryz.CM:bS Tryz.prog 76=some [.lit (.int .i64 0),.lit (.slice none 0 0),.lit (.slice none 0 0)]:=Zl
def Tryz.NM:ja Tryz.prog 76=some [(0,1),(1,1),(2,1)]:=Zl
def Tryz.NN:bL Tryz.prog 76 0=some (0,3):=Zl
def Tryz.NO:bL Tryz.prog 76 1=some (1,72):=Zl
def Tryz.NP:bL Tryz.prog 76 2=some (2,74):=Zl
def Tryz.CN:Tryz.prog.cellsOf 87=2:=Zl
def Tryz.CO:Tryz.prog.bytesOf 87=48:=Zl
def Tryz.CP:bS Tryz.prog 87=some [.lit (.slice none 0 0),.lit (.slice none 0 0)]:=Zl
def Tryz.NQ:ja Tryz.prog 87=some [(0,1),(1,1)]:=Zl
def Tryz.NR:bL Tryz.prog 87 0=some (0,72):=Zl
def Tryz.NS:bL Tryz.prog 87 1=some (1,72):=Zl
def Tryz.NT:Tryz.prog.cellsOf 90=2:=Zl
def Tryz.NU:bS Tryz.prog 90=some [.lit (.int .i64 0),.lit (.slice none 0 0)]:=Zl
def Tryz.NV:ja Tryz.prog 90=some [(0,1),(1,1)]:=Zl
def Tryz.NW:bL Tryz.prog 90 0=some (0,3):=Zl
def Tryz.NX:bL Tryz.prog 90 1=some (1,35):=Zl
def Tryz.NY:Tryz.prog.cellsOf 93=1:=Zl
def Tryz.CQ:Tryz.prog.cellsOf 96=1:=Zl
def Tryz.CR:Tryz.prog.cellsOf 98=2:=Zl
def Tryz.NZ:bL Tryz.prog 98 0=some (0,5):=Zl
def Tryz.N0:bL Tryz.prog 98 1=some (1,96):=Zl
def Tryz.N1:Tryz.prog.cellsOf 101=1:=Zl
def Tryz.N2:bS Tryz.prog 101=some [.lit (.pointer none)]:=Zl
def Tryz.N3:Tryz.prog.cellsOf 122=1:=Zl
def Tryz.N4:bS Tryz.prog 122=some [.lit .nilFunc]:=Zl
def Tryz.N5:Tryz.prog.cellsOf 134=1:=Zl
def Tryz.N6:bS Tryz.prog 134=some [.lit (.pointer none)]:=Zl
def Tryz.N7:Tryz.prog.cellsOf 142=1:=Zl
def Tryz.N8:Tryz.prog.cellsOf 145=3:=Zl
def Tryz.N9:bS Tryz.prog 145=some [.lit (.slice none 0 0),.lit (.int .u16 0),.lit (.slice none 0 0)]:=Zl
def Tryz.Oa:ja Tryz.prog 145=some [(0,1),(1,1),(2,1)]:=Zl
def Tryz.Ob:bL Tryz.prog 145 0=some (0,23):=Zl
def Tryz.Oc:bL Tryz.prog 145 2=some (2,23):=Zl
def Tryz.CS:Tryz.prog.cellsOf 148=3:=Zl
def Tryz.Od:bS Tryz.prog 148=some [.lit (.int .u8 0),.lit (.int .u8 0),.lit (.slice none 0 0)]:=Zl
def Tryz.Oe:bL Tryz.prog 148 0=some (0,5):=Zl
def Tryz.Of:bL Tryz.prog 148 1=some (1,5):=Zl
def Tryz.Og:bL Tryz.prog 148 2=some (2,23):=Zl
def Tryz.CT:Tryz.prog.cellsOf 153=1:=Zl
def Tryz.Oh:bS Tryz.prog 157=some [.lit (.int .i64 0),.lit (.slice none 0 0),.lit (.int .u64 0),.lit (.slice none 0 0),.lit (.slice none 0 0),.lit (.int .i64 0)]:=Zl
def Tryz.Oi:ja Tryz.prog 157=some [(0,4),(4,1),(5,1)]:=Zl
def Tryz.Oj:bL Tryz.prog 157 0=some (0,38):=Zl
def Tryz.Ol:bL Tryz.prog 157 1=some (4,72):=Zl
def Tryz.Om:bL Tryz.prog 157 2=some (5,3):=Zl
def Tryz.On:Tryz.prog.cellsOf 173=2:=Zl
def Tryz.Oo:bS Tryz.prog 173=some [.lit (.int .u64 0),.lit (.int .u64 0)]:=Zl
def Tryz.Oq:Tryz.prog.cellsOf 180=1:=Zl
def Tryz.Ot:Tryz.prog.cellsOf 182=1:=Zl
def Tryz.Ou:bS Tryz.prog 184=some [.lit (.int .i64 0),.lit (.slice none 0 0),.lit (.int .u64 0),.lit (.slice none 0 0),.lit (.slice none 0 0),.lit (.slice none 0 0),.lit (.slice none 0 0),.lit (.int .i64 0)]:=Zl
def Tryz.Ov:ja Tryz.prog 184=some [(0,4),(4,1),(5,1),(6,1),(7,1)]:=Zl
def Tryz.Ow:bL Tryz.prog 184 0=some (0,38):=Zl
def Tryz.Ox:bL Tryz.prog 184 1=some (4,182):=Zl
def Tryz.Oy:bL Tryz.prog 184 2=some (5,72):=Zl
def Tryz.Oz:bL Tryz.prog 184 3=some (6,72):=Zl
def Tryz.OA:bL Tryz.prog 184 4=some (7,3):=Zl
def Tryz.CU:Tryz.prog.cellsOf 187=1:=Zl
def Tryz.CV:Tryz.prog.bytesOf 187=8:=Zl
def Tryz.CW:bS Tryz.prog 187=some [.lit (.pointer none)]:=Zl
def Tryz.OB:Tryz.prog.cellsOf 188=1:=Zl
def Tryz.OC:bS Tryz.prog 191=some [.lit (.int .i64 0),.lit (.int .i64 0),.lit (.slice none 0 0),.lit (.slice none 0 0),.lit (.slice none 0 0),.lit (.slice none 0 0),.lit (.slice none 0 0)]:=Zl
def Tryz.OD:ja Tryz.prog 191=some [(0,1),(1,1),(2,1),(3,1),(4,1),(5,1),(6,1)]:=Zl
def Tryz.OE:bL Tryz.prog 191 0=some (0,3):=Zl
def Tryz.OF:bL Tryz.prog 191 1=some (1,3):=Zl
def Tryz.OG:bL Tryz.prog 191 2=some (2,72):=Zl
def Tryz.OH:bL Tryz.prog 191 3=some (3,188):=Zl
def Tryz.OI:bL Tryz.prog 191 4=some (4,72):=Zl
def Tryz.OJ:bL Tryz.prog 191 5=some (5,72):=Zl
def Tryz.OK:Tryz.prog.cellsOf 193=1:=Zl
def Tryz.OL:Tryz.prog.cellsOf 197=1:=Zl
def Tryz.OM:bS Tryz.prog 197=some [.lit .nilFunc]:=Zl
def Tryz.ON:Tryz.prog.cellsOf 203=1:=Zl
def Tryz.OO:Tryz.prog.cellsOf 214=5:=Zl
def Tryz.OP:bS Tryz.prog 214=some [.lit (.int .i64 0),.lit (.slice none 0 0),.lit (.slice none 0 0),.lit (.slice none 0 0),.lit (.slice none 0 0)]:=Zl
def Tryz.OQ:ja Tryz.prog 214=some [(0,2),(2,1),(3,1),(4,1)]:=Zl
def Tryz.OS:bL Tryz.prog 214 0=some (0,90):=Zl
def Tryz.OT:bL Tryz.prog 214 1=some (2,72):=Zl
def Tryz.OU:bL Tryz.prog 214 2=some (3,93):=Zl
def Tryz.OV:bL Tryz.prog 214 3=some (4,72):=Zl
theorem Tryz.OW:bS Tryz.prog 255=some []:=Zl
attribute [go_sem] Tryz.underlying3 Tryz.fK Tryz.gI Tryz.fy Tryz.underlying4 Tryz.CD Tryz.Nf Tryz.Ng Tryz.underlying5 Tryz.tc Tryz.Nh Tryz.Ni
attribute [go_sem] Tryz.underlying9 Tryz.underlying20 Tryz.underlying22 Tryz.CE
attribute [go_sem] Tryz.underlying23 Tryz.yU Tryz.underlying24
attribute [go_sem] Tryz.underlying25 Tryz.CF Tryz.Nj Tryz.Nk Tryz.Nm Tryz.underlying26 Tryz.CG
attribute [go_sem] Tryz.underlying27 Tryz.underlying28 Tryz.No
attribute [go_sem] Tryz.Np Tryz.Nq Tryz.Nr Tryz.Ns Tryz.underlying29
attribute [go_sem] Tryz.underlying30
attribute [go_sem] Tryz.underlying31 Tryz.underlying32
attribute [go_sem] Tryz.underlying33 Tryz.underlying34 Tryz.CH Tryz.CI Tryz.CJ
attribute [go_sem] Tryz.underlying35 Tryz.Nt Tryz.underlying36 Tryz.Nu Tryz.underlying37
attribute [go_sem] Tryz.underlying38 Tryz.Nv Tryz.Nw Tryz.Nx Tryz.Ny Tryz.Nz
attribute [go_sem] Tryz.NA Tryz.NB Tryz.underlying41 Tryz.underlying43 Tryz.underlying44 Tryz.NC
attribute [go_sem] Tryz.ND Tryz.underlying49 Tryz.underlying56 Tryz.underlying57
attribute [go_sem] Tryz.underlying58 Tryz.NF Tryz.NG Tryz.NH Tryz.NI Tryz.NJ
attribute [go_sem] Tryz.underlying63 Tryz.underlying65 Tryz.underlying68 Tryz.NK
attribute [go_sem] Tryz.underlying72 Tryz.yV Tryz.yW Tryz.yX Tryz.underlying74 Tryz.NL Tryz.underlying75
attribute [go_sem] Tryz.underlying76 Tryz.CK Tryz.CL Tryz.CM Tryz.NM Tryz.NN Tryz.NO Tryz.NP
attribute [go_sem] Tryz.underlying86 Tryz.underlying87 Tryz.CN Tryz.CO Tryz.CP Tryz.NQ
attribute [go_sem] Tryz.NR Tryz.NS Tryz.underlying89 Tryz.underlying90 Tryz.NT
attribute [go_sem] Tryz.NU Tryz.NV Tryz.NW Tryz.NX Tryz.underlying93 Tryz.NY Tryz.underlying96 Tryz.CQ
attribute [go_sem] Tryz.underlying97 Tryz.underlying98 Tryz.CR
attribute [go_sem] Tryz.NZ Tryz.N0 Tryz.underlying101 Tryz.N1 Tryz.N2 Tryz.underlying122 Tryz.N3 Tryz.N4 Tryz.underlying134 Tryz.N5
attribute [go_sem] Tryz.N6 Tryz.underlying140 Tryz.underlying142 Tryz.N7 Tryz.underlying143
attribute [go_sem] Tryz.underlying144 Tryz.underlying145 Tryz.N8
attribute [go_sem] Tryz.N9 Tryz.Oa Tryz.Ob Tryz.Oc Tryz.underlying147
attribute [go_sem] Tryz.underlying148 Tryz.CS Tryz.Od Tryz.Oe Tryz.Of Tryz.Og Tryz.underlying153 Tryz.CT
attribute [go_sem] Tryz.underlying156 Tryz.underlying157
attribute [go_sem] Tryz.Oh Tryz.Oi Tryz.Oj Tryz.Ol Tryz.Om Tryz.underlying172 Tryz.underlying173 Tryz.On
attribute [go_sem] Tryz.Oo Tryz.underlying180 Tryz.Oq Tryz.underlying182 Tryz.Ot Tryz.underlying183
attribute [go_sem] Tryz.underlying184 Tryz.Ou
attribute [go_sem] Tryz.Ov Tryz.Ow Tryz.Ox Tryz.Oy Tryz.Oz Tryz.OA Tryz.underlying187 Tryz.CU Tryz.CV Tryz.CW Tryz.underlying188 Tryz.OB
attribute [go_sem] Tryz.underlying190
attribute [go_sem] Tryz.underlying191 Tryz.OC Tryz.OD Tryz.OE Tryz.OF Tryz.OG Tryz.OH Tryz.OI
attribute [go_sem] Tryz.OJ Tryz.underlying193 Tryz.OK Tryz.underlying197 Tryz.OL Tryz.OM Tryz.underlying203 Tryz.ON
attribute [go_sem] Tryz.underlying213 Tryz.underlying214
attribute [go_sem] Tryz.OO Tryz.OP Tryz.OQ Tryz.OS Tryz.OT Tryz.OU Tryz.OV Tryz.underlying228
attribute [go_sem] Tryz.underlying239 Tryz.underlying247 Tryz.underlying254
attribute [go_sem] Tryz.underlying255 Tryz.OW Tryz.underlying260 Tryz.underlying261
def aZ (l:List (List Int)):Zo:=.Q l.length (l.map af)
structure Zp where
 L:Int
 F:List Int
 nb:List (List Int)
structure ZC where
 vars:List Int
 w:List Int
def Zp.cells (x:Zp):List Zo:=[aa x.L,af x.F,aZ x.nb]
def ZC.cells (x:ZC):List Zo:=[af x.vars,af x.w]
def aH (l:List Zp):List Zo:=(l.map Zp.cells).flatten
def bB (l:List ZC):List Zo:=(l.map ZC.cells).flatten
def eM (l:List Zp):Zo:=.Q l.length (aH l)
def vw (l:List ZC):Zo:=.Q l.length (bB l)
def eQ (g:Int)(l:List Zp):Zo:=.agg [aa g,eM l]
structure Zq where
 nl:Int
 C:List Zp
 X:Nat
 Y:List ZC
def dk (d:Zq):Zo:=.agg [aa d.nl,eM d.C,.lit (.int .u64 (d.X:Int)),vw d.Y]
def ko {f:α->List Zo}(hz:∀a,(f a).length=z):∀(l:List α) (i j:Nat) (a:α),l[i]?=some a->j<z->((l.map f).flatten)[i*z+j]?=(f a)[j]?:=by
 intro l
 induction l with
 |nil=>intro i j a h;simp at h
 |cons x l ih =>
  intro i j a h hj;simp only[List.map_cons,List.flatten_cons];cases i with
  |zero =>
   simp only[List.getElem?_cons_zero,Option.some.injEq]at h;subst h;rw[Xb,Nat.zero_add,Vf (by rw[hz];exact hj)]
  |succ i =>
   have:(i+1)*z+j=z+(i*z+j):=(by rw[VD];omega);rw[this,VA (by rw[hz];omega),hz];have:z+(i*z+j)-z=i*z+j:=V;rw[this];exact ih i j a (by simpa using h) hj
def mb {f:α->List Zo}(hz:∀a,(f a).length=z)(l:List α):((l.map f).flatten).length=l.length*z:=by
 induction l with
 |nil=>simp
 |cons x l ih=>simp only[List.map_cons,List.flatten_cons,List.length_append,ih,hz,List.length_cons];rw[VD];omega
def oq {f:α->List Zo}(hz:∀a,(f a).length=z):∀(l:List α) (i:Nat) (a:α),l[i]?=some a->(((l.map f).flatten).drop (i*z)).take z=f a:=by
 intro l i a h;apply VG;intro j;by_cases hj:j<z
 ·rw[Vg hj,We,ko hz l i j a h hj]
 ·rw[U3 (by simp;omega),U3 (by rw[hz];omega)]
def kq (l:List Zp):(aH l).length=l.length*3:=mb (f:=Zp.cells) (fun _=>rfl) l
variable {l:List Zp}{x:Zp}
def mO (h:l[i]?=some x):(aH l)[i*3]?=some (aa x.L):=ko (f:=Zp.cells) (z:=3) (fun _=>rfl) l i 0 x h (V)
def mP (h:l[i]?=some x):(aH l)[i*3+1]?=some (af x.F):=ko (f:=Zp.cells) (z:=3) (fun _=>rfl) l i 1 x h (V)
def DI (h:l[i]?=some x):(aH l)[i*3+2]?=some (aZ x.nb):=ko (f:=Zp.cells) (z:=3) (fun _=>rfl) l i 2 x h (V)
def ot (h:l[i]?=some x):((aH l).drop (i*3)).take 3=[aa x.L,af x.F,aZ x.nb]:=oq (f:=Zp.cells) (z:=3) (fun _=>rfl) l i x h
def fM (h:l[i]?=some x):¬aH l=[]:=fun e=>by
 have:=mO h;rw[e]at this;simp at this
def zj (l:List ZC):(bB l).length=l.length*2:=mb (f:=ZC.cells) (fun _=>rfl) l
def Qg {l:List ZC}{x:ZC}(h:l[i]?=some x):(bB l)[i*2]?=some (af x.vars):=ko (f:=ZC.cells) (z:=2) (fun _=>rfl) l i 0 x h (V)
def zk {l:List ZC}{x:ZC}(h:l[i]?=some x):((bB l).drop (i*2)).take 2=[af x.vars,af x.w]:=oq (f:=ZC.cells) (z:=2) (fun _=>rfl) l i x h
def zm {l:List ZC}{x:ZC}(h:l[i]?=some x):¬bB l=[]:=fun e=>by
 have:=Qg h;rw[e]at this;simp at this
def aO {l:List α}{x:α}(h:l[i]?=some x):i<l.length:=by
 rcases Vj i l.length with h'|h'
 ·exact h'
 ·rw[U3 h']at h;cases h
def aw {l:List α}(h:i<l.length):∃x,l[i]?=some x:=⟨_,UV h⟩
def mQ {l:List α}{i:Int}(h0:0<=i)(h:i<l.length):∃k:Nat,i=k/\∃x,l[k]?=some x:=⟨i.toNat,V,aw V⟩
def aB (l:List Int):Int:=l.foldl (·*·) 1
def DJ (l:List Int)(a:Int):l.foldl (·*·) a=a*aB l:=by
 unfold aB
 induction l generalizing a with
 |nil=>simp
 |cons x l ih=>simp only[V1];rw[ih,ih (1*x),XX,W0]
def iK:aB []=1:=rfl
def iL (x:Int)(l:List Int):aB (x :: l)=x*aB l:=by
 show List.foldl _ (1*x) l=_;rw[DJ,XX]
def vz (l l':List Int):aB (l++l')=aB l*aB l':=by
 unfold aB;rw[V5,DJ];rfl
def ji (l:List Int)(x:Int):aB (l++[x])=aB l*x:=by rw[vz,iL,iK,Zh]
def bd {l:List α}{k:Nat}{x:α}(h:l[k]?=some x):l.take (k+1)=l.take k++[x]:=by
 rw[List.take_add_one,h];rfl
def fV {l:List Int}(h:∀x∈l,1<=x):1<=aB l:=by
 induction l with
 |nil=>decide
 |cons x l ih =>
  rw[iL];have h1:=ih fun y hy=>h y (by simp[hy]);have h2:=h x Zj;have:=Wy h2 h1 V V;simpa using this
def pB {b:Int}{l:List Int}(hb:0<=b)(h:∀x∈l,0<=x/\x<=b):0<=aB l/\aB l<=b ^ l.length:=by
 induction l with
 |nil=>exact⟨Zk,by simp[aB]⟩
 |cons x l ih =>
  rw[iL];have h1:=ih fun y hy=>h y (by simp[hy]);have h2:=h x Zj;refine⟨WG h2.1 h1.1,?_⟩;have:=Wy h2.2 h1.2 h1.1 hb;rw[List.length_cons,Xc,Wb (b ^ l.length)];exact this
def au (l:List Zp):List Int:=l.map (·.L)
def aL (l places:List Int):List Int:=places.map fun p=>l.getD p.toNat 0
def bV (places:List Int)(n:Int):Prop:=places.Pairwise (·<·)/\∀p∈places,0<=p/\p<n
end Go.Proofs
set_option maxRecDepth 100000
namespace Go.Proofs
open Go.Hx
def G0:Nat->Option (List Zo):=yA
def aF:fu G0:=Mm
end Go.Proofs
namespace Go.Hx
variable {P:Program} {G:Nat->Option (List Zo)} {Γ Γ':aC} {H H':Zn} {w w':World}
variable {Q:AX->St->Prop}{c:Code}{ρ:Env}{n:Nat}{rd:Option Nat}
def W.env {H:Zn}(h:∀E,E=ρ->W P G n rd c Q ⟨E,H⟩):W P G n rd c Q ⟨ρ,H⟩:=h ρ rfl
def W.en {H:Zn}(p:Env->Prop)(hp:p ρ)(h:∀E,p E->W P G n rd c Q ⟨E,H⟩):W P G n rd c Q ⟨ρ,H⟩:=h ρ hp
def Below.mono {m:Nat}{v:Zo}(h:Below n v)(hm:n<=m):Below m v:=by
 induction h with
 |lit v=>exact .lit v
 |Q h ih=>exact .Q ih
 |ni h ih=>exact .ni ih
 |agg h ih=>exact .agg ih
 |nf h ih=>exact .nf ih
 |Z h1 h2 ih1 ih2=>exact .Z ih1 ih2
 |U h=>exact .U (V)
 |O h=>exact .O (V)
 |np h=>exact .np (V)
theorem F8 (H:Zn)(op:BinOp)(a:List Zo)(y:Zo):lV H op (.agg a) y=none:=by unfold lV;split<;>rfl
attribute [go_sem] F8
def iW {l:List Zo}{i:Nat}{x:Zo}(h:i<l.length):setAt l i [x]=l.set i x:=by
 unfold setAt;rw[Yx,UX h];simp
def Zs.wW {B H:Zn}(h:Zs B H)(hn:B.A<=n):Zs B (H.cut n):=⟨h.A,fun id hi=>(uQ V).trans (h.nc id hi)⟩
section
variable {t:TypeId} {x y:Operand} {k k':IntKind} {a b:Int}
def xa (n:Int):IntKind.u64.wrap n=n % 18446744073709551616:=by simp[IntKind.wrap,IntKind.bits,IntKind.signed]
def rS (hb:0<=b):aU P .shr t x y (.lit (.int k a)) (.lit (.int k' b))=some (.lit (.int k (a.fdiv (2 ^ (min b.toNat k.bits))))):=by
 have h:¬b<0:=V
 simp[aU,Zo.cU,eqGuard,binOp,Op.shift,h,aQ,bind,Sem.bind,pure]
def AA (hb:0<=b):aU P .shl t x y (.lit (.int k a)) (.lit (.int k' b))=some (.lit (.int k (k.wrap (a*2 ^ (min b.toNat k.bits))))):=by
 have h:¬b<0:=V
 simp[aU,Zo.cU,eqGuard,binOp,Op.shift,h,aQ,bind,Sem.bind,pure]
def pZ:aU P .and t x y (.lit (.int k a)) (.lit (.int k b))=some (.lit (.int k (k.wrap ((BitVec.ofInt k.bits a &&& BitVec.ofInt k.bits b).toNat:Nat)))):=by
 simp[aU,Zo.cU,eqGuard,binOp,Op.intBits,aQ,bind,Sem.bind,pure]
def Ui:aU P .or t x y (.lit (.int k a)) (.lit (.int k b))=some (.lit (.int k (k.wrap ((BitVec.ofInt k.bits a |||BitVec.ofInt k.bits b).toNat:Nat)))):=by
 simp[aU,Zo.cU,eqGuard,binOp,Op.intBits,aQ,bind,Sem.bind,pure]
def Uj:aU P .andNot t x y (.lit (.int k a)) (.lit (.int k b))=some (.lit (.int k (k.wrap ((BitVec.ofInt k.bits a &&& ~~~ BitVec.ofInt k.bits b).toNat:Nat)))):=by
 simp[aU,Zo.cU,eqGuard,binOp,Op.intBits,aQ,bind,Sem.bind,pure]
def aK (m:Nat):Zo:=.lit (.int .u64 (m:Int))
def dE (a b:Nat):Nat:=(BitVec.ofNat 64 a &&& ~~~ BitVec.ofNat 64 b).toNat
def rT {m:Nat}(h:m<2 ^ 64):(BitVec.ofInt 64 (m:Int)).toNat=m:=by rw[BitVec.ofInt_natCast,BitVec.toNat_ofNat,Xg h]
def xb (a b:Nat):dE a b<2 ^ 64:=(BitVec.isLt _)
def kL {a b i:Nat}(ha:a<2 ^ 64):(dE a b).testBit i=(a.testBit i && !b.testBit i):=by
 unfold dE;by_cases hi:i<64
 ·rw[<- BitVec.getLsbD,BitVec.getLsbD_and,BitVec.getLsbD_not,BitVec.getLsbD_ofNat,BitVec.getLsbD_ofNat];simp[hi]
 ·have h1:a.testBit i=false:=Wc (U4 ha (U7 Zk V));rw[h1,<- BitVec.getLsbD,BitVec.getLsbD_of_ge _ _ V];rfl
def qc {m:Nat}(h:m<2 ^ 64):IntKind.u64.wrap (m:Int)=m:=Vt _ (V)
def j5 {a b:Nat}(ha:a<2 ^ 64)(hb:b<2 ^ 64):aU P .and t x y (.lit (.int .u64 (a:Int))) (.lit (.int .u64 (b:Int)))=some (.lit (.int .u64 ((a &&& b:Nat):Int))):=by
 rw[pZ];have e:(BitVec.ofInt (IntKind.bits .u64) (a:Int) &&& BitVec.ofInt (IntKind.bits .u64) (b:Int)).toNat=a &&& b:=by
  show (BitVec.ofInt 64 _ &&& BitVec.ofInt 64 _).toNat=_;rw[BitVec.toNat_and,rT ha,rT hb]
 rw[e,qc (WI Yj ha)]
def iX {a b:Nat}(ha:a<2 ^ 64)(hb:b<2 ^ 64):aU P .or t x y (.lit (.int .u64 (a:Int))) (.lit (.int .u64 (b:Int)))=some (.lit (.int .u64 ((a |||b:Nat):Int))):=by
 rw[Ui];have e:(BitVec.ofInt (IntKind.bits .u64) (a:Int) |||BitVec.ofInt (IntKind.bits .u64) (b:Int)).toNat=a |||b:=by
  show (BitVec.ofInt 64 _ |||BitVec.ofInt 64 _).toNat=_;rw[BitVec.toNat_or,rT ha,rT hb]
 rw[e,qc (V8 ha hb)]
def mu {a b:Nat}:aU P .andNot t x y (.lit (.int .u64 (a:Int))) (.lit (.int .u64 (b:Int)))=some (.lit (.int .u64 ((dE a b:Nat):Int))):=by
 rw[Uj];have e:(BitVec.ofInt (IntKind.bits .u64) (a:Int) &&& ~~~ BitVec.ofInt (IntKind.bits .u64) (b:Int)).toNat=dE a b:=by
  show (BitVec.ofInt 64 _ &&& ~~~ BitVec.ofInt 64 _).toNat=_;rw[BitVec.ofInt_natCast,BitVec.ofInt_natCast];rfl
 rw[e,qc (xb a b)]
def iY {a s:Nat}(ha:a<2 ^ 64):aU P .shr t x y (.lit (.int .u64 (a:Int))) (.lit (.int k' (s:Int)))=some (.lit (.int .u64 ((a >>> s:Nat):Int))):=by
 rw[rS V,Int.toNat_natCast];have e:(a:Int).fdiv (2 ^ (min s (IntKind.bits .u64)))=((a >>> s:Nat):Int):=by
  rw[XZ _ (by exact_mod_cast Wo _),W1];show (a:Int) / 2 ^ (min s 64)=_;rcases Nat.le_total s 64 with h|h
  ·rw[Xq h];push_cast;rfl
  ·rw[Nat.min_eq_right h];have h1:a / 2 ^ s=0:=WK (U4 ha (U7 Zk h));rw[h1];exact Xm V (V)
 rw[e]
def kM {s:Nat}(hs:s<64):aU P .shl t x y (.lit (.int .u64 1)) (.lit (.int k' (s:Int)))=some (.lit (.int .u64 ((2 ^ s:Nat):Int))):=by
 rw[AA V,Int.toNat_natCast];have e:min s (IntKind.bits .u64)=s:=Xq (by show s<=64;omega);have h2:2 ^ s<2 ^ 64:=V3 Zk hs;rw[e,XX];have h3:((2:Int) ^ s)=((2 ^ s:Nat):Int):=by push_cast;rfl
 rw[h3,qc h2]
def oO {a s:Nat}(ha:a<2 ^ 64):aU P .and t x y (.lit (.int .u64 ((a >>> s:Nat):Int))) (.lit (.int .u64 1))=some (.lit (.int .u64 (if a.testBit s then 1 else 0))):=by
 have h1:a >>> s<2 ^ 64:=WI (X7 _ _) ha;have:=j5 (P:=P) (t:=t) (x:=x) (y:=y) (a:=a >>> s) (b:=1) h1 Zk;rw[show (((1:Nat):Int))=1 from rfl]at this;rw[this,Nat.and_one_is_mod];congr 3;rw[Nat.testBit,Nat.and_comm,Nat.and_one_is_mod];rcases Nat.mod_two_eq_zero_or_one (a >>> s) with h|h<;>rw[h]<;>rfl
end
end Go.Hx
namespace Go.Proofs
open Go.Hx
variable {a b c n v:Int}{cs l:List Int}{i j k:Nat}{α:Type}
def cM (H:Zn)(b:Zu)(L:List Zu):(ext H (b :: L)).get H.A=some b:=bO H (b :: L) 0 (Zj)
def AB (l:List Int)(n:Nat):(ints l).take n=ints (l.take n):=by simp[ints]
def AC (l:List Int)(n:Nat):(ints l).drop n=ints (l.drop n):=by simp[ints]
def bf {l:List α}{a:α}(h:l[i]?=some a):¬l=[]:=by rintro rfl;simp at h
def iQ {x:Int}(h:i<l.length):setAt (ints l) i [.lit (.int .i64 x)]=ints (l.set i x):=by
 rw[iW (by simpa[ints] using h)];simp[ints,aa]
def mv (w:Bool):sI w (some (.lit undef))=some false:=rfl
def aT (ns:List Zp)(x:Zp):List Int:=aL (au ns) x.F
def bN:List Int->List Int->Int
 |_ :: cs,v :: vs=>v*aB cs+bN cs vs
 |_,_=>0
def bW:List Int->Int->List Int
 | [],_=>[]
 |c :: cs,i=>i / aB cs % c :: bW cs i
def vA (cs:List Int)(i:Int):(bW cs i).length=cs.length:=by
 induction cs with
 |nil=>rfl
 |cons c cs ih=>simp[bW,ih]
def Qh {l:List α}{a:α}(h:l[k]?=some a):l.drop k=a :: l.drop (k+1):=by
 rw[VT (aO h)];congr 1;have:=UV (aO h);rw[h]at this;exact(Option.some.inj this).symm
def zn (h:∀c∈cs,1<=c)(i:Int):∀(k:Nat) (c v:Int),cs[k]?=some c->(bW cs i)[k]?=some v->0<=v/\v<c:=by
 induction cs with
 |nil=>intro k c v h;simp at h
 |cons a cs ih =>
  intro k c v h1 h2;cases k with
  |zero =>
   simp only[bW,List.getElem?_cons_zero,Option.some.injEq]at h1 h2;subst h1;subst h2;have:=h a Zj;exact⟨XY _ V,Xp _ V⟩
  |succ k =>
   simp only[bW,List.getElem?_cons_succ]at h1 h2;exact ih (fun c hc=>h c (by simp[hc])) k c v h1 h2
def cK (cs vs:List Int):Prop:=vs.length=cs.length/\∀(k:Nat) (c v:Int),cs[k]?=some c->vs[k]?=some v->0<=v/\v<c
def cK.tail {vs:List Int}(h:cK (c :: cs) (v :: vs)):cK cs vs:=⟨by simpa using h.1,fun k c v h1 h2=>h.2 (k+1) c v (by simpa using h1) (by simpa using h2)⟩
def cK.head {vs:List Int}(h:cK (c :: cs) (v :: vs)):0<=v/\v<c:=h.2 0 c v Zj (Zj)
def cK.pos {vs:List Int}(h:cK cs vs):∀c∈cs,1<=c:=fun c hc=>by
 obtain⟨k,hk⟩:=U1.1 hc;obtain⟨v,hv⟩:=aw (l:=vs) (i:=k) (by rw[h.1];exact aO hk);have:=h.2 k c v hk hv;omega
def tu (h:∀c∈cs,1<=c)(i:Int):cK cs (bW cs i):=⟨vA cs i,zn h i⟩
def ou:∀ {cs vs:List Int},cK cs vs->0<=bN cs vs/\bN cs vs<aB cs:=by
 intro cs
 induction cs with
 |nil=>intro vs _;cases vs<;>(simp[bN,iK])
 |cons c cs ih =>
  intro vs h;cases vs with
  |nil=>exact absurd h.1 (Zj)
  |cons v vs =>
   have h1:=ih h.tail;have h2:=h.head;have hp:1<=aB cs:=fV fun x hx=>h.pos x (by simp[hx]);rw[iL];simp only[bN];have h3:0<=v*aB cs:=WG h2.1 V;have h4:(v+1)*aB cs<=c*aB cs:=WH V V;rw[Yu,XX]at h4;omega
def tv:∀ {cs vs:List Int},cK cs vs->bW cs (bN cs vs)=vs:=by
 have key:∀(cs:List Int) (i a c:Int),(∀x∈cs,1<=x)->bW cs (a*aB cs*c+i)=bW cs i:=by
  intro cs
  induction cs with
  |nil=>intros;rfl
  |cons x cs ih =>
   intro i a c h;have hx:=h x Zj;have hp:1<=aB cs:=fV fun y hy=>h y (by simp[hy]);simp only[bW,iL];have e1:a*(x*aB cs)*c+i=i+aB cs*(x*(a*c)):=by
    rw[X5];congr 1;ac_rfl
   have e2:a*(x*aB cs)*c+i=a*aB cs*(x*c)+i:=(by congr 1;ac_rfl);congr 1
   ·rw[e1,Int.add_mul_ediv_left _ _ V,Int.add_mul_emod_self_left]
   ·rw[e2];exact ih i a (x*c) fun y hy=>h y (by simp[hy])
 intro cs
 induction cs with
 |nil=>intro vs h;cases vs with
  |nil=>rfl
  |cons=>exact absurd h.1 (Zj)
 |cons c cs ih =>
  intro vs h;cases vs with
  |nil=>exact absurd h.1 (Zj)
  |cons v vs =>
   have hp:1<=aB cs:=fV fun x hx=>h.pos x (by simp[hx]);have hr:=ou h.tail;have h2:=h.head;simp only[bN,bW];congr 1
   ·rw[X5,XF _ _ V,Xm hr.1 hr.2,Yo,XI h2.1 h2.2]
   ·have:=key cs (bN cs vs) v 1 fun x hx=>h.pos x (by simp[hx]);rw[Zh]at this;rw[this];exact ih h.tail
def Qi (i m n:Int)(hm:0<m)(hn:0<n):i % (m*n)=i % m+m*(i / m % n):=by
 have h1:=Yp i (m*n);have h2:=Yp i m;have h3:=Yp (i / m) n;have h4:i / m / n=i / (m*n):=Int.ediv_ediv_of_nonneg V;rw[h4]at h3;have h5:m*(i / m)=m*(i / m % n)+m*n*(i / (m*n)):=by
  conv=>lhs;rw[<- h3]
  rw[XH,W0]
 omega
def zo (h:∀c∈cs,1<=c):∀ {i:Int},0<=i->i<aB cs->bN cs (bW cs i)=i:=by
 have:∀(cs:List Int) (i:Int),(∀c∈cs,1<=c)->bN cs (bW cs i)=i % aB cs:=by
  intro cs
  induction cs with
  |nil=>intro i _;simp[bN,bW,iK]
  |cons c cs ih =>
   intro i h;have hp:1<=aB cs:=fV fun x hx=>h x (by simp[hx]);simp only[bN,bW];rw[ih i fun x hx=>h x (by simp[hx]),iL,Wb c,Qi _ _ _ (by omega:0<aB cs) (by have:=h c Zj;omega)];rw[Wb];omega
 intro i h0 h1;rw[this cs i h,XI h0 h1]
def iB (cs vs:List Int):Int:=(cs.zip vs).foldl (fun a p=>a*p.1+p.2) 0
def Qj:∀(cs vs:List Int),vs.length=cs.length->∀a,(cs.zip vs).foldl (fun a p=>a*p.1+p.2) a=a*aB cs+bN cs vs:=by
 intro cs
 induction cs with
 |nil=>intro vs _ a;simp[iK,bN]
 |cons c cs ih =>
  intro vs h a;cases vs with
  |nil=>simp at h
  |cons v vs =>
   simp only[WA,V1];rw[ih vs (by simpa using h),iL];simp only[bN];rw[Yu,W0];omega
def vB {vs:List Int}(h:vs.length=cs.length):iB cs vs=bN cs vs:=by
 unfold iB;rw[Qj cs vs h];omega
def vC {vs:List Int}(h1:cs[k]?=some c)(h2:vs[k]?=some v):iB (cs.take (k+1)) (vs.take (k+1))=iB (cs.take k) (vs.take k)*c+v:=by
 unfold iB;rw[bd h1,bd h2,List.zip_append (by have:=aO h1;have:=aO h2;simp;omega),V5];rfl
def lg:List Int->List Int->Option (List Int)
 |c :: cs,v :: vs=>match lg cs vs with
  |some ws=>some (v :: ws)
  |none=>if v+1<c then some ((v+1) :: cs.map fun _=>0) else none
 |_,_=>none
def DK (h:∀c∈cs,1<=c):bW cs 0=cs.map fun _=>0:=by
 induction cs with
 |nil=>rfl
 |cons c cs ih=>simp[bW,ih fun x hx=>h x (by simp[hx])]
def Qk:∀ {cs vs:List Int},cK cs vs->lg cs vs=if bN cs vs+1<aB cs then some (bW cs (bN cs vs+1)) else none:=by
 intro cs
 induction cs with
 |nil=>intro vs h;cases vs with
  |nil=>simp[lg,bN,iK]
  |cons=>exact absurd h.1 (Zj)
 |cons c cs ih =>
  intro vs h;cases vs with
  |nil=>exact absurd h.1 (Zj)
  |cons v vs =>
   have hpos:∀x∈cs,1<=x:=fun x hx=>h.pos x (by simp[hx]);have hp:1<=aB cs:=fV hpos;have hr:=ou h.tail;have h2:=h.head;have hv:=tv h.tail;simp only[lg,ih h.tail,bN,iL];by_cases hb:bN cs vs+1<aB cs
   ·rw[UX hb];have h4:(v+1)*aB cs<=c*aB cs:=WH V V;rw[Yu,XX]at h4;have hlt:v*aB cs+bN cs vs+1<c*aB cs:=V;rw[UX hlt];simp only[bW];have g1:v=(v*aB cs+bN cs vs+1) / aB cs % c:=by
     rw[Int.add_assoc,X5,XF _ _ V,Xm V hb,Yo,XI h2.1 h2.2]
    have g2:bW cs (bN cs vs+1)=bW cs (v*aB cs+bN cs vs+1):=by
     have e:bN cs vs+1=bN cs (bW cs (bN cs vs+1)):=(zo hpos V hb).symm;have f:cK (c :: cs) (v :: bW cs (bN cs vs+1)):=⟨by simp[vA],fun k c' v' h1 h3=>by
      cases k with
      |zero=>simp at h1 h3;subst h1;subst h3;exact h2
      |succ k=>exact zn hpos _ k c' v' (by simpa using h1) (by simpa using h3)⟩
     have:=tv f;simp only[bN,bW,List.cons.injEq]at this;rw[<- e]at this;rw[Int.add_assoc];exact this.2.symm
    rw[<- g1,<- g2]
   ·rw[UW hb];have hi:bN cs vs+1=aB cs:=V;have e1:v*aB cs+bN cs vs+1=(v+1)*aB cs:=(by rw[Yu];omega);rw[e1];by_cases hc:v+1<c
    ·rw[UX hc];have h4:(v+1)*aB cs<c*aB cs:=Int.mul_lt_mul_of_pos_right hc V;rw[UX h4];simp only[bW];congr 1;congr 1
     ·rw[Int.mul_ediv_cancel _ V,XI V hc]
     ·have f:cK (c :: cs) ((v+1) :: bW cs 0):=⟨by simp[vA],fun k c' v' h1 h3=>by
       cases k with
       |zero=>simp at h1 h3;subst h1;subst h3;omega
       |succ k=>exact zn hpos _ k c' v' (by simpa using h1) (by simpa using h3)⟩
      have:=tv f;simp only[bN,bW,List.cons.injEq]at this;rw[zo hpos (Int.le_refl 0) V,Xt]at this;rw[this.2,DK hpos]
    ·rw[UW hc];have h4:c*aB cs<=(v+1)*aB cs:=WH V V;rw[UW V]
def eW (l:List Int):Prop:=l.length<=12/\∀x∈l,0<=x/\x<=8
def eW.prod (h:eW l):0<=aB l/\aB l<=68719476736:=by
 have h1:=pB (b:=8) V h.2;have h2:(8:Int) ^ l.length<=8 ^ 12:=by
  have:(8:Nat) ^ l.length<=8 ^ 12:=U7 Zk h.1
  exact_mod_cast this
 exact⟨h1.1,X4 h1.2 h2⟩
theorem eW.take (h:eW l)(k:Nat):eW (l.take k):=⟨by have:=h.1;simp;omega,fun x hx=>h.2 x (Vk hx)⟩
theorem eW.drop (h:eW l)(k:Nat):eW (l.drop k):=⟨by have:=h.1;simp;omega,fun x hx=>h.2 x (W4 hx)⟩
def SQ (l:List Int)(hl:eW l)(H:Zn)(K:Zt->Zn->Prop)(hK:K (.ret (aa (aB l))) H):ae Tryz.prog G0 75 [af l] H K:=by
 have l12:=hl.1;refine ae.st (n:=18) (rs:=[.tmp 2]) Tryz.func75 ?_;simp only[go_sem];refine W.aS 131064 (by rfl) (fun ρ H'=>H'=H/\∃k:Nat,ρ 4=aa k/\k<=l.length/\ρ 3=aa (aB (l.take k))) (fun ρ H=>l.length-(iv (ρ 4)).toNat) ?_ ?_
 ·simp only[go_sem];exact⟨0,rfl,V,by simp[iK]⟩
 rintro ρ H' ⟨rfl,k,h4,hk,h3⟩;refine W.vs ?_;by_cases hb:(k:Int)<l.length
 ·obtain⟨c,hc⟩:=aw (l:=l) (i:=k) V;have hne:=bf hc;have b1:=(hl.take (k+1)).prod;rw[bd hc,ji]at b1;simp only[go_sem,h4,h3,hb,hc,hne];rw[UU ((k:Int)+1) V,UU (_*c) V];exact⟨⟨k+1,Zj,V,by rw[bd hc,ji]⟩,V⟩
 ·simp only[go_sem,h4,h3,hb];rw[UY V];exact aj.mk Zm hK
def oI (x:List Int)(hx:(x.length:Int)<2 ^ 40)(H:Zn)(K:Zt->Zn->Prop)(hK:K (.ret (af x)) H):ae Tryz.prog G0 88 [af x] H K:=by
 refine ae.Z ⟨_,Tryz.func88,rfl,rfl⟩ fun hc=>?_;refine ae.st (n:=8) (rs:=[.tmp 2]) Tryz.func88 ?_;simp only[go_sem];intro b hlen;cases b with
 |true =>
  have hx0:x=[]:=U5 (by
   by_cases h:0<x.length
   ·have:=hlen (by simpa using h);cases this
   ·omega)
  simp only[go_sem];subst hx0;exact aj.KH aF hc .yj hK
 |false =>
  by_cases h0:x.length=0
  ·have hx0:x=[]:=U5 h0;subst hx0;simp only[go_sem,aA];refine⟨⟨rfl,rfl⟩,aj.drop (v':=af []) aF hc ?_ hK⟩;exact .ints Zm (cM ..) rfl fun i hi=>absurd hi (Va _)
  ·simp only[go_sem,h0,aA];refine⟨⟨rfl,V,V,kW x⟩,aj.drop aF hc ?_ hK⟩;exact .ints Zm (cM ..) rfl fun i hi=>by simp[gX,hi]
instance placesDec (l:List Int)(n:Int):Decidable (bV l n):=by unfold bV;infer_instance
theorem bV.nil :bV [] n:=⟨.nil,fun _ h=>by cases h⟩
theorem bV.take (h:bV l n)(k:Nat):bV (l.take k) n:=⟨h.1.sublist (List.take_sublist k l),fun p hp=>h.2 p (Vk hp)⟩
def bV.snoc (h:bV l n)(ha:0<=a/\a<n)(hl:∀b,l.getLast?=some b->b<a):bV (l++[a]) n:=by
 refine⟨W3.2 ⟨h.1,Zj,fun x hx y hy=>?_⟩,fun p hp=>?_⟩
 ·obtain rfl:=List.mem_singleton.1 hy;rcases XN l with rfl|⟨l',b,rfl⟩
  ·cases hx
  ·have hb:=hl b Zj;simp only[XO]at hx h;rcases Vp.1 hx with hx|hx
   ·have:=(W3.1 h.1).2.2 x hx b Zj;omega
   ·obtain rfl:=List.mem_singleton.1 hx;exact hb
 ·rcases Vp.1 hp with hp|hp
  ·exact h.2 p hp
  ·obtain rfl:=List.mem_singleton.1 hp;exact ha
def bV.lt (h:bV l n)(ha:l[i]?=some a)(hb:l[j]?=some b)(hij:i<j):a<b:=by
 have:=Wu.1 h.1 i j (aO ha) (aO hb) hij;have e1:=UV (aO ha);have e2:=UV (aO hb);rw[ha]at e1;rw[hb]at e2;rw[Option.some.inj e1,Option.some.inj e2];exact this
def bV.len (h:bV l n):(l.length:Int)<=max n 0:=by
  -- the k-th place is at least k
 have key:∀(k:Nat) (a:Int),l[k]?=some a->(k:Int)<=a:=by
  intro k
  induction k with
  |zero=>intro a ha;have:=h.2 a (an ha);omega
  |succ k ih =>
   intro a ha;obtain⟨b,hb⟩:=aw (l:=l) (i:=k) (by have:=aO ha;omega);have:=ih b hb;have:=h.lt hb ha V;omega
 rcases V6 l.length with h0|h0
 ·omega
 ·obtain⟨a,ha⟩:=aw (l:=l) (i:=l.length-1) V;have h1:=key _ a ha;have h2:=h.2 a (an ha);omega
def wG (h:l[j]?=some b):(l.take (j+1)).getLast?=some b:=by rw[bd h];simp
def Fu (l:List Int)(n:Int)(hl:(l.length:Int)<2 ^ 62)(H:Zn)(K:Zt->Zn->Prop)(hK:K (.ret (.lit (.bool (decide (bV l n))))) H):ae Tryz.prog G0 142 [af l,aa n] H K:=by
 have no:¬bV l n->aj Tryz.prog G0 H K (.lit (.bool false)) H:=fun h=>aj.mk Zm (by rw[VP h]at hK;exact hK);refine ae.st (n:=24) (rs:=[.tmp 4]) Tryz.func142 ?_;simp only[go_sem];refine W.aS 16776368 (by rfl) (fun ρ H'=>H'=H/\∃(k:Nat) (b:Int),ρ 10=aa k/\k<=l.length/\ρ 5=aa b/\bV (l.take k) n/\(l.take k).getLast?.getD (-1)=b) (fun ρ H=>l.length-(iv (ρ 10)).toNat) ?_ ?_
 ·simp only[go_sem];exact⟨0,-1,rfl,V,rfl,.nil,rfl⟩
 rintro ρ H' ⟨rfl,k,b,h10,hk,h5,hp,hbl⟩;refine W.vs ?_;by_cases hb:(k:Int)<l.length
 ·obtain⟨a,ha⟩:=aw (l:=l) (i:=k) V;have hne:=bf ha;have ham:=an ha;by_cases c1:a<=b
  ·simp only[go_sem,h10,h5,hb,ha,hne,c1];refine no fun h=>?_;have h0:=h.2 a ham;rcases V6 k with rfl|hk0
   ·simp at hbl;omega
   ·obtain⟨j,rfl⟩:∃j,k=j+1:=⟨k-1,V⟩
    obtain⟨b',hbj⟩:=aw (l:=l) (i:=j) V;rw[wG hbj]at hbl;have:=h.lt hbj ha V;simp at hbl;omega
  by_cases c2:a >= n
  ·simp only[go_sem,h10,h5,hb,ha,hne,c1,c2];exact no fun h=>by have:=h.2 a ham;omega
  have w1:=UU ((k:Int)+1) V;simp only[go_sem,h10,h5,hb,ha,hne,c1,c2,w1];have h0:0<=a:=by
   rcases hg:(l.take k).getLast? with _|b'
   ·rw[hg]at hbl;simp at hbl;omega
   ·rw[hg]at hbl;have:=hp.2 b' (Y5 hg);simp at hbl;omega
  refine⟨⟨k+1,a,Zj,V,rfl,?_,by rw[wG ha];rfl⟩,V⟩;rw[bd ha];exact hp.snoc ⟨h0,V⟩ fun b' hb'=>by rw[hb']at hbl;simp at hbl;omega
 ·simp only[go_sem,h10,hb];rw[UY V]at hp;rw[Vl hp]at hK;exact aj.mk Zm hK
end Go.Proofs
namespace Go.Hx
variable {g id:Nat}{H H':Zn}
theorem Zs.na (h:Zs H H')(hi:id<H.A):H'.na id g=H.na id g:=by
 unfold Zn.na;rw[h.nc id hi]
theorem Zs.upd (h:Zs H H')(hi:H.A<=id)(b:Zu):Zs H (H'.upd id b):=⟨h.A,fun j hj=>by rw[ah,UW V];exact h.nc j hj⟩
def F9 {e:TypeId}{c:List Zo}:(H.upd id (.J g e c)).na id g=some (e,c):=ag (by rw[ah,UX rfl])
def lM {j:Nat}{b:Zu}(h:j≠id):(H.upd id b).na j g=H.na j g:=by unfold Zn.na;rw[ah,UW h]
attribute [go_sem] F9
@[go_sem] theorem US (a b:Array TypeId)(c:Bool)(n:Nat)(cells:List Zo)(off:Nat):mI (some (.func a b c)) n cells off=cells[off]?:=rfl
end Go.Hx
namespace Go.Proofs
open Go.Hx
variable {c l:List Int}{ps:List Nat}{a i id k m n t:Nat}{H H':Zn}
def nf {H H' H2:Zn}{e:TypeId}{v:Zo}{cs:List Zo}(ov:Zs H H')(h:aJ H.A H' e v cs)(hn:H'.A<=H2.A)(hp:∀k,k<H'.A->(∀g n,v≠.U k g 0 n 1)->H2.get k=H'.get k):Zs H H2 :=
 ⟨VC ov.A hn,fun id hi=>by
  rw[hp id (U4 hi ov.A) fun g n he=>?_,ov.nc id hi];rcases h with ⟨h,_⟩|⟨i2,g2,a1,_,h,_⟩
  ·rw[h]at he;cases he
  ·rw[h]at he;have:=Zo.U.inj he;omega⟩
def lO {v:Zo}(x:Int)(ov:Zs H H')(h:aJ H.A H' 3 v (ints l))(hl:l.length<2 ^ 40):
  ∃v' H2,bU Tryz.prog (ext H' [.J 0 3 [.lit (.int .i64 x)]]) (H'.A+1) 72 72 v (.U H'.A 0 0 1 1)=some (v',H2)/\Zs H H2/\aJ H.A H2 3 v' (ints (l++[x]))/\H'.A<=H2.A/\(∀k,k<H'.A->(∀g n,v≠.U k g 0 n 1)->H2.get k=H'.get k):=by
 obtain⟨v',H2,hA,hO,hn2,hp⟩:=jL (P:=Tryz.prog) (H:=H') (t:=72) (x:=aa x) (n:=H'.A+1) Tryz.underlying72 Tryz.fK Tryz.fy rfl (by rw[Tryz.gI,bG];omega) h ov.A rfl;simp only[aa]at hA;exact⟨v',H2,hA,nf ov h hn2 hp,by simpa[ints,aa] using hO,hn2,hp⟩
def Uk (l:List (List Int)):(aZ l).one=true:=rfl
def Ul (l:List (List Int)):(aZ l).cells=[aZ l]:=rfl
def Um (l:List Zp):(eM l).one=true:=rfl
def Un (l:List Zp):(eM l).cells=[eM l]:=rfl
def Uo (l:List ZC):(vw l).one=true:=rfl
theorem Up (l:List ZC):(vw l).cells=[vw l]:=rfl
attribute [go_sem] Uk Ul Um Un Uo Up
structure ZL (H H':Zn)(id:Nat)(c:List Int):Prop where
 ov:Zs H H'
 lo:H.A<=id
 hi:id<H'.A
 get:H'.get id=some (.J 0 3 (ints c))
theorem ZL.na (h:ZL H H' id c):H'.na id 0=some (3,ints c):=ag h.get
def ZL.Uq (h:ZL H H' id c)(L:List Zu):(ext H' L).na id 0=some (3,ints c):=by rw[eo h.hi];exact h.na
def ZL.ne (h:ZL H H' id c):¬id=H'.A:=by have:=h.hi;omega
def ZL.over {H2:Zn}(h:ZL H H' id c)(o:Zs H' H2):ZL H H2 id c:=⟨h.ov.trans o,h.lo,U4 h.hi o.A,(o.nc id h.hi).trans h.get⟩
def ZL.store (h:ZL H H' id c)(hk:k<c.length)(x:Int):ZL H (H'.upd id (.J 0 3 (setAt (ints c) k [.lit (.int .i64 x)]))) id (c.set k x) :=
 ⟨⟨h.ov.A,fun i hi=>by rw[ah,UW (by have:=h.lo;omega)];exact h.ov.nc i hi⟩,h.lo,h.hi,by rw[ah,UX rfl,iQ hk]⟩
def ZL.Ur (h:ZL H H' id c)(L:List Zu)(hk:k<c.length)(x:Int):ZL H ((ext H' L).upd id (.J 0 3 (setAt (ints c) k [.lit (.int .i64 x)]))) id (c.set k x) :=
 (h.over (.ext H' L)).store hk x
def ZL.new (L:List Zu)(n:Nat):ZL H (ext H (.J 0 3 (List.replicate n (.lit (.int .i64 0))) :: L)) H.A (List.replicate n 0) :=
 ⟨.ext _ _,Zm,by simp[aV],by rw[cM];simp[ints,aa]⟩
def ZL.fin {K:Zt->Zn->Prop}(hcl:Z6 H)(h:ZL H H' id c)(hn:n=c.length)(hK:K (.ret (af c)) H):aj Tryz.prog G0 H K (.U id 0 0 n 1) H':=by
 subst hn;refine aj.bH aF hcl h.ov ?_ hK;exact .ints h.lo h.get Zj fun i hi=>by simp[gX,hi]
def Ga {m:List Int}{x:Int}(h:l.take k=m.take k)(hk:k<l.length)(hx:m[k]?=some x):(l.set k x).take (k+1)=m.take (k+1):=by
 rw[bd hx,bd (show (l.set k x)[k]?=some x by rw[Vi hk]),XW (Nat.le_refl k),h]
def bK {α:Type}{l:List α}{a d:α}(h:l[i]?=some a):l.getD i d=a:=by rw[UZ,h];rfl
def SR {places:List Int}{p:Int}(h:places[k]?=some p):aL l (places.take (k+1))=aL l (places.take k)++[l.getD p.toNat 0]:=by
 unfold aL;rw[bd h];simp
def cS {ns:List Zp}{x:Zp}(h:ns[k]?=some x):(au ns)[k]?=some x.L:=by unfold au;rw[List.getElem?_map,h];rfl
def eO (ns:List Zp):(au ns).length=ns.length:=by simp[au]
def SU (g:Int)(ns:List Zp)(hl:(ns.length:Int)<2 ^ 39)(H:Zn)(K:Zt->Zn->Prop)(hK:K (.ret (af (au ns))) H):ae Tryz.prog G0 84 [eQ g ns] H K:=by
 refine ae.Z ⟨_,Tryz.func84,rfl,rfl⟩ fun hcl=>?_;refine ae.st (n:=22) (rs:=[.tmp 2]) Tryz.func84 ?_;simp only[go_sem,eQ,eM];obtain⟨H1,hH1⟩:∃H1,H1=ext H [.J 0 90 [.lit (.int .i64 g),.Q ns.length (aH ns)]]:=⟨_,rfl⟩
 have l1:H1.na H.A 0=some (90,[.lit (.int .i64 g),.Q ns.length (aH ns)]):=by rw[hH1];exact ag (cM ..)
 have n1:H1.A=H.A+1:=hH1▸rfl
 have o1:Zs H H1:=hH1▸.ext _ _
 rw[<- hH1];refine W.aS 2097144 (by rfl) (fun ρ H'=>∃k:Nat,ρ 4=aa k/\k<=ns.length/\ρ 1=.O H.A 0 0/\Zs H1 H'/\aJ H1.A H' 3 (ρ 3) (ints ((au ns).take k))) (fun ρ H=>ns.length-(iv (ρ 4)).toNat) ?_ ?_
 ·simp only[go_sem];exact⟨0,rfl,V,.refl _,.nil⟩
 rintro ρ H' ⟨k,h4,hk,h1,ov,h3⟩;refine W.vs ?_;have l2:=(ov.na (g:=0) (by omega:H.A<H1.A)).trans l1;by_cases hb:(k:Int)<ns.length
 ·obtain⟨x,hx⟩:=aw (l:=ns) (i:=k) V;have hne:=fM hx;have e0:=mO hx;obtain⟨v',H2,hA,ov2,hO,hn2,_⟩:=lO x.L ov h3 (by simp[au];omega);have w1:=UU ((k:Int)+1) V;simp only[go_sem,h4,h1,l2,hb,hne,e0,w1,hA];refine⟨by have:=ov2.A;omega,⟨k+1,Zj,V,ov2,?_⟩,V⟩;rw[bd (cS hx)];exact hO
 ·simp only[go_sem,h4,h1,l2,hb];rw[UY (by rw[eO];omega)]at h3;exact aj.bH aF hcl (o1.trans ov) (h3.iz fun i hi=>V) hK
def Fv (ns:List Zp)(hl:(ns.length:Int)<2 ^ 39)(H:Zn)(K:Zt->Zn->Prop)(hK:K (.ret (af (au ns))) H):ae Tryz.prog G0 145 [eM ns] H K:=by
 refine ae.Z ⟨_,Tryz.func145,rfl,rfl⟩ fun hcl=>?_;refine ae.st (n:=23) (rs:=[.tmp 2]) Tryz.func145 ?_;simp only[go_sem,eM];refine⟨V,?_⟩;refine W.aS 4192304 (by rfl) (fun ρ H'=>∃(k:Nat) (c:List Int),ρ 11=aa k/\k<=ns.length/\ZL H H' H.A c/\c.length=ns.length/\c.take k=(au ns).take k) (fun ρ H=>ns.length-(iv (ρ 11)).toNat) ?_ ?_
 ·simp only[go_sem];exact⟨0,_,rfl,V,.new [] ns.length,Zj,rfl⟩
 rintro ρ H' ⟨k,c,h11,hk,ho,hcl',hc⟩;refine W.vs ?_;by_cases hb:(k:Int)<ns.length
 ·obtain⟨x,hx⟩:=aw (l:=ns) (i:=k) V;have hne:=fM hx;have e0:=ot hx;have e1:k*3+3<=(aH ns).length:=by rw[kq];omega
  have w1:=UU ((k:Int)+1) V;have l3:=ho.Uq;have nb:=ho.ne;simp only[go_sem,h11,l3,hb,hne,e0,e1,w1];have hkc:k<c.length:=V
  have ho2:=ho.Ur [.J 0 76 [.lit (.int .i64 x.L),.Q x.F.length (ints x.F),aZ x.nb]] hkc x.L;exact⟨V,by have:=ho2.hi;omega,⟨k+1,_,rfl,V,ho2,by simpa using hcl',Ga hc hkc (cS hx)⟩,V⟩
 ·simp only[go_sem,h11,hb];have e:c=au ns:=by
   rw[UY V,UY (by rw[eO];omega)]at hc;exact hc
  subst e;exact ho.fin hcl (by rw[eO]) hK
def iG (l:List Int)(n:Nat):Prop:=∀q∈l,0<=q/\q<n
def jk (l p:List Int):(aL l p).length=p.length:=by simp[aL]
def jY {p:List Int}{q:Int}(h:p[k]?=some q):(aL l p)[k]?=some (l.getD q.toNat 0):=by unfold aL;rw[List.getElem?_map,h];rfl
def Fw (ns:List Zp)(v:Nat)(x:Zp)(hx:ns[v]?=some x)(hin:iG x.F ns.length)(hs:eW (aT ns x))(H:Zn)(K:Zt->Zn->Prop)
  (hK:K (.ret (aa (aB (aT ns x)))) H):ae Tryz.prog G0 111 [eM ns,aa v] H K:=by
 have hne:=fM hx;have e1:=mP hx;have hv:(v:Int)<ns.length:=by have:=aO hx;omega
 have l12:=hs.1;have pl:(aT ns x).length=x.F.length:=jk _ _;refine ae.st (n:=27) (rs:=[.tmp 4]) Tryz.func111 ?_;simp only[go_sem,eM,hv,hne,e1];refine W.aS 67092640 (by rfl) (fun ρ H'=>H'=H/\∃k:Nat,ρ 14=aa k/\k<=x.F.length/\ρ 5=aa (aB ((aT ns x).take k))) (fun ρ H=>x.F.length-(iv (ρ 14)).toNat) ?_ ?_
 ·simp only[go_sem];exact⟨0,rfl,V,by simp[iK]⟩
 rintro ρ H' ⟨rfl,k,h14,hk,h5⟩;refine W.vs ?_;by_cases hb:(k:Int)<x.F.length
 ·obtain⟨q,hq⟩:=aw (l:=x.F) (i:=k) V;obtain⟨j,rfl,y,hy⟩:=mQ (l:=ns) (hin q (an hq)).1 (hin q (an hq)).2;have hne2:=bf hq;have hj:(j:Int)<ns.length:=by have:=aO hy;omega
  have e0:=mO hy;have pk:(aT ns x)[k]?=some y.L:=by
   rw[show (aT ns x)[k]?=_ from jY hq,Int.toNat_natCast,bK (cS hy)]
  have b1:=(hs.take (k+1)).prod;rw[bd pk,ji]at b1;have w1:=UU ((k:Int)+1) V;have w2:=UU (aB ((aT ns x).take k)*y.L) V;simp only[go_sem,h14,h5,hb,hq,hne,hne2,hj,e0,w1,w2];exact⟨⟨k+1,Zj,V,by rw[bd pk,ji]⟩,V⟩
 ·simp only[go_sem,h14,h5,hb];rw[UY V];exact aj.mk Zm hK
def SV (ns:List Zp)(v:Nat)(x:Zp)(vals:List Int)(hx:ns[v]?=some x)(hin:iG x.F ns.length)(hs:eW (aT ns x))(hf:cK (au ns) vals)(H:Zn)(K:Zt->Zn->Prop)
  (hK:K (.ret (aa (bN (aT ns x) (aL vals x.F)))) H):ae Tryz.prog G0 147 [eM ns,aa v,af vals] H K:=by
 have hne:=fM hx;have e1:=mP hx;have hv:(v:Int)<ns.length:=by have:=aO hx;omega
 have l12:=hs.1;have pl:(aT ns x).length=x.F.length:=jk _ _;have vl:(aL vals x.F).length=x.F.length:=jk _ _;have hfl:vals.length=ns.length:=by rw[hf.1,eO]
 have at_get:∀(k:Nat) (q:Int),x.F[k]?=some q->∃(j:Nat) (y:Zp) (b:Int),q=j/\ns[j]?=some y/\vals[j]?=some b/\(aT ns x)[k]?=some y.L/\(aL vals x.F)[k]?=some b/\0<=b/\b<y.L:=fun k q hq=>by
  obtain⟨j,rfl,y,hy⟩:=mQ (l:=ns) (hin q (an hq)).1 (hin q (an hq)).2;obtain⟨b,hb⟩:=aw (l:=vals) (i:=j) (by rw[hfl];exact aO hy);have r:=hf.2 j y.L b (cS hy) hb;exact⟨j,y,b,rfl,hy,hb,by rw[show (aT ns x)[k]?=_ from jY hq,Int.toNat_natCast,bK (cS hy)],by rw[jY hq,Int.toNat_natCast,bK hb],r⟩
 have ft:∀k,cK ((aT ns x).take k) ((aL vals x.F).take k):=fun k=>⟨by simp[pl,vl],fun i c b h1 h2=>by
  rw[Yy]at h1 h2;split at h1
  ·rename_i hik;rw[UX hik]at h2;obtain⟨q,hq⟩:=aw (l:=x.F) (i:=i) (by rw[<- pl];exact aO h1);obtain⟨j,y,b',_,_,_,a1,a2,a3⟩:=at_get i q hq;rw[h1]at a1;rw[h2]at a2;cases a1;cases a2;exact a3
  ·cases h1⟩
 have hr:∀k,0<=iB ((aT ns x).take k) ((aL vals x.F).take k)/\iB ((aT ns x).take k) ((aL vals x.F).take k)<68719476737:=fun k=>by
  rw[vB (ft k).1];have a:=ou (ft k);have b:=(hs.take k).prod;omega
 refine ae.st (n:=34) (rs:=[.tmp 6]) Tryz.func147 ?_;simp only[go_sem,eM,hv,hne,e1];refine W.aS 8589869696 (by rfl) (fun ρ H'=>H'=H/\∃k:Nat,ρ 16=aa k/\k<=x.F.length/\ρ 7=aa (iB ((aT ns x).take k) ((aL vals x.F).take k))) (fun ρ H=>x.F.length-(iv (ρ 16)).toNat) ?_ ?_
 ·simp only[go_sem];exact⟨0,rfl,V,rfl⟩
 rintro ρ H' ⟨rfl,k,h16,hk,h7⟩;refine W.vs ?_;by_cases hb:(k:Int)<x.F.length
 ·obtain⟨q,hq⟩:=aw (l:=x.F) (i:=k) V;obtain⟨j,y,b,rfl,hy,hbv,a1,a2,a3⟩:=at_get k q hq;have hne2:=bf hq;have hne3:=bf hbv;have hj:(j:Int)<ns.length:=by have:=aO hy;omega
  have hj2:(j:Int)<vals.length:=V
  have e0:=mO hy;have w1:=UU ((k:Int)+1) V;have r1:=hr (k+1);rw[vC a1 a2]at r1;have r0:=hr k;have m0:0<=iB ((aT ns x).take k) ((aL vals x.F).take k)*y.L:=WG r0.1 V;have w2:=UU (iB ((aT ns x).take k) ((aL vals x.F).take k)*y.L) V;have w3:=UU (iB ((aT ns x).take k) ((aL vals x.F).take k)*y.L+b) V;simp only[go_sem,h16,hb,hq,hne2];refine W.dr 11 [0,0,0,6,14,30,63,0,0,384,896] Tryz.mixed ?_;simp only[go_sem,h16,h7,hne,hne3,hj,hj2,hbv,e0,w1,w2,w3];exact⟨⟨k+1,Zj,V,by rw[vC a1 a2]⟩,V⟩
 ·simp only[go_sem,h16,h7,hb];rw[UY V,UY V,vB (by rw[pl,vl])];exact aj.mk Zm hK
def bt (l:List Int):Nat:=l.foldl (fun s p=>s |||2 ^ p.toNat) 0
def Ql (l:List Int):∀(s i:Nat),(l.foldl (fun s p=>s |||2 ^ p.toNat) s).testBit i=(s.testBit i ||l.any fun p=>p.toNat == i):=by
 induction l with
 |nil=>intro s i;simp
 |cons p l ih =>
  intro s i;simp only[V1,ih,Vc,Xd,List.any_cons];rw[Bool.or_assoc];congr 1
def gK (h:∀p∈l,0<=p)(i:Nat):(bt l).testBit i=decide ((i:Int)∈l):=by
 unfold bt;rw[Ql];simp only[VF,Bool.false_or];rw[Wk];simp only[XQ,beq_iff_eq,decide_eq_true_eq];constructor
 ·rintro⟨p,hp,rfl⟩;have:=h p hp;rw[WR this];exact hp
 ·intro hi;exact⟨_,hi,Zj⟩
def tw (l:List Int)(p:Int):bt (l++[p])=bt l |||2 ^ p.toNat:=by unfold bt;rw[V5];rfl
def vD (h:∀i,m.testBit i=true->i<n):m<2 ^ n:=by
 apply Nat.lt_pow_two_of_testBit;intro i hi;rcases Wg (m.testBit i) with e|e
 ·exact absurd (h i e) (V)
 ·exact e
def jR (h:∀p∈l,0<=p/\p<n):bt l<2 ^ n:=vD fun i hi=>by
 rw[gK fun p hp=>(h p hp).1]at hi;have:=(h _ (of_decide_eq_true hi)).2;omega
def mR (h:m<2 ^ n)(hi:m.testBit i=true):i<n:=by
 rcases Vj i n with h'|h'
 ·exact h'
 ·rw[Wc (U4 h (U7 Zk h'))]at hi;cases hi
def Sub (s t:Nat):Prop:=∀i,s.testBit i=true->t.testBit i=true
def Sub.refl (s:Nat):Sub s s:=fun _ h=>h
def Sub.trans {s u:Nat}(h:Sub s t)(h':Sub t u):Sub s u:=fun i hi=>h' i (h i hi)
def Sub.or {s u:Nat}(h:Sub s u)(h':Sub t u):Sub (s |||t) u:=fun i hi=>by
 rw[Vc,Vu]at hi;exact hi.elim (h i) (h' i)
def Sub.left (s t:Nat):Sub s (s |||t):=fun i hi=>by rw[Vc,hi];rfl
def Sub.right (s t:Nat):Sub t (s |||t):=fun i hi=>by rw[Vc,hi];simp
def Sub.antisymm {s:Nat}(h:Sub s t)(h':Sub t s):s=t:=Vq fun i=>by
 rw[Wk];exact⟨h i,h' i⟩
def DL {b:Nat}(ha:a<2 ^ 64):dE a b=0↔Sub a b:=by
 constructor
 ·intro h i hi;have:=kL (a:=a) (b:=b) (i:=i) ha;rw[h,VF,hi]at this;simpa using this.symm
 ·intro h;apply Vq;intro i;rw[kL ha,VF];cases hi:a.testBit i
  ·rfl
  ·rw[h i hi];rfl
def mc (ps:List Nat)(s v:Nat):Nat:=if s.testBit v=true then s |||ps.getD v 0 else s
def fW (ps:List Nat)(s:Nat):Nat:=(List.range ps.length).foldl (mc ps) s
def iM (ps:List Nat):Nat->Nat->Nat
 |0,s=>s
 |k+1,s=>fW ps (iM ps k s)
def dJ (ps:List Nat)(s:Nat):Nat:=iM ps ps.length s
def jS (ps:List Nat):Prop:=∀v,v<ps.length->(dJ ps (ps.getD v 0)).testBit v=false
def me (ps:List Nat)(t:Nat):Prop:=∀v,v<ps.length->t.testBit v=true->Sub (ps.getD v 0) t
def DM (ps:List Nat)(s v:Nat):Sub s (mc ps s v):=by unfold mc;split;exact .left _ _;exact .refl _
def DN (ps:List Nat)(l:List Nat):∀s,Sub s (l.foldl (mc ps) s):=by
 induction l with
 |nil=>exact fun s=>.refl s
 |cons v l ih=>exact fun s=>(DM ps s v).trans (ih _)
def zp (ps:List Nat)(s:Nat):Sub s (fW ps s):=DN ps _ s
def Qm (hc:me ps t)(l:List Nat)(hl:∀v∈l,v<ps.length):∀s,Sub s t->Sub (l.foldl (mc ps) s) t:=by
 induction l with
 |nil=>exact fun s h=>h
 |cons v l ih =>
  intro s h;refine ih (fun v hv=>hl v (by simp[hv])) _ ?_;unfold mc;split
  ·rename_i hv;exact h.or (hc v (hl v Zj) (h v hv))
  ·exact h
def Qn (hc:me ps t){s:Nat}(h:Sub s t):Sub (fW ps s) t:=Qm hc _ (fun v hv=>U9.1 hv) s h
def pC (hc:me ps t)(k:Nat){s:Nat}(h:Sub s t):Sub (iM ps k s) t:=by
 induction k with
 |zero=>exact h
 |succ k ih=>exact Qn hc ih
def qZ (ps:List Nat)(k s:Nat):Sub s (iM ps k s):=by
 induction k with
 |zero=>exact .refl _
 |succ k ih=>exact ih.trans (zp _ _)
def Qo {s:Nat}(h:fW ps s=s):me ps s:=by
 intro v hv hs;have key:∀(l:List Nat) (s0:Nat),v∈l->s0.testBit v=true->Sub (ps.getD v 0) (l.foldl (mc ps) s0):=by
  intro l
  induction l with
  |nil=>intro s0 h;cases h
  |cons u l ih =>
   intro s0 hm hb;rcases List.mem_cons.1 hm with rfl|hm
   ·refine Sub.trans ?_ (DN ps l _);unfold mc;rw[UX hb];exact .right _ _
   ·exact ih _ hm (DM ps s0 u v hb)
 have:=key (List.range ps.length) s (U9.2 hv) hs;unfold fW at h
 rwa [h]at this
def dK (n s:Nat):Nat:=(List.range n).countP fun i=>s.testBit i
def zq (n s:Nat):dK n s<=n:=by have:=List.countP_le_length (p:=fun i=>s.testBit i) (l:=List.range n);simpa[dK] using this
def Qp {l:List Nat}{p q:Nat->Bool}(h:∀x∈l,p x=true->q x=true)(ha:a∈l)(hp:p a=false)(hq:q a=true):l.countP p<l.countP q:=by
 induction l with
 |nil=>cases ha
 |cons x l ih =>
  have hm:l.countP p<=l.countP q:=List.countP_mono_left fun y hy=>h y (by simp[hy]);rcases List.mem_cons.1 ha with rfl|ha
  ·rw[WV,WV,hp,hq];simp;omega
  ·have:=ih (fun y hy=>h y (by simp[hy])) ha;have hx:=h x Zj;rw[WV,WV];cases hpx:p x
   ·simp;omega
   ·rw[hx hpx];simp;omega
def q7 {s:Nat}(h:Sub s t)(hi:i<n)(h0:s.testBit i=false)(h1:t.testBit i=true):dK n s<dK n t :=
 Qp (fun x _ hx=>h x hx) (U9.2 hi) h0 h1
def zr (hp:∀p∈ps,p<2 ^ ps.length){s:Nat}(hs:s<2 ^ ps.length):me ps (dJ ps s):=by
 have hb:∀k,iM ps k s<2 ^ ps.length:=fun k=>by
  have ht:me ps (2 ^ ps.length-1):=fun v _ _ i hi=>by
   rw[Wz];have:ps.getD v 0<2 ^ ps.length:=by
    rw[UZ];cases h:ps[v]? with
    |none=>exact W6 _
    |some p=>exact hp p (an h)
   simpa using mR this hi
  have:=pC ht k (s:=s) fun i hi=>by rw[Wz];simpa using mR hs hi
  exact vD fun i hi=>by have:=this i hi;rw[Wz]at this;simpa using this
 have key:∀k,fW ps (iM ps k s)=iM ps k s\/k+1<=dK ps.length (iM ps k s):=by
  have grow:∀t,t<2 ^ ps.length->fW ps t<2 ^ ps.length->fW ps t≠t->dK ps.length t<dK ps.length (fW ps t):=fun t ht ht' hne=>by
   have:∃i,(fW ps t).testBit i=true/\t.testBit i=false:=by
    refine VI fun hno=>hne (Sub.antisymm (fun i hi=>?_) (zp ps t));rcases Wg (t.testBit i) with e|e
    ·exact e
    ·exact absurd ⟨i,hi,e⟩ hno
   obtain⟨i,h1,h0⟩:=this;exact q7 (zp ps t) (mR ht' h1) h0 h1
  intro k
  induction k with
  |zero =>
   by_cases h0:s=0
   ·left;subst h0;show fW ps 0=0;unfold fW;have:∀l:List Nat,l.foldl (mc ps) 0=0:=fun l=>by
     induction l with
     |nil=>rfl
     |cons v l ih=>simp only[V1,mc,VF,Bool.false_eq_true,if_false];exact ih
    exact this _
   ·right;obtain⟨i,hi⟩:=Nat.exists_testBit_of_ne_zero h0;have:dK ps.length 0<dK ps.length s:=q7 (fun j hj=>by rw[VF]at hj;cases hj) (mR hs hi) (VF i) hi;show 0+1<=dK ps.length s;omega
  |succ k ih =>
   rcases ih with ih|ih
   ·left;show fW ps (fW ps (iM ps k s))=fW ps (iM ps k s);rw[ih];exact ih
   ·by_cases hf:fW ps (iM ps k s)=iM ps k s
    ·left;show fW ps (fW ps (iM ps k s))=fW ps (iM ps k s);rw[hf];exact hf
    ·right;have:=grow _ (hb k) (hb (k+1)) hf;show k+1+1<=dK ps.length (fW ps (iM ps k s));omega
 rcases key ps.length with h|h
 ·exact Qo h
 ·have:=zq ps.length (iM ps ps.length s);omega
def jT (ps:List Nat)(done v:Nat):Bool:=!done.testBit v && decide (dE (ps.getD v 0) done=0)
def kr (ps:List Nat)(done:Nat):Option Nat:=(List.range ps.length).find? (jT ps done)
def hJ (ps:List Nat):Nat->List Nat->Nat->Option (List Nat)
 |0,out,_=>some out
 |k+1,out,done=>match kr ps done with
  |none=>none
  |some v=>hJ ps k (out++[v]) (done |||2 ^ v)
def fB (ps:List Nat):Option (List Nat):=hJ ps ps.length [] 0
def vE {done v:Nat}(hp:∀p∈ps,p<2 ^ 64)(h:kr ps done=some v):v<ps.length/\done.testBit v=false/\Sub (ps.getD v 0) done:=by
 unfold kr at h;have h1:=YS h;have h2:=List.find?_some h;unfold jT at h2;simp only[Vr,W9,decide_eq_true_eq]at h2;have hv:=U9.1 h1;refine⟨hv,h2.1,(DL ?_).1 h2.2⟩;rw[UZ];cases h:ps[v]? with
 |none=>decide
 |some p=>exact hp p (an h)
def Qq {done:Nat}(hp:∀p∈ps,p<2 ^ 64)(h:kr ps done=none):∀v,v<ps.length->done.testBit v=true\/¬Sub (ps.getD v 0) done:=by
 intro v hv;unfold kr at h;rw[Xo]at h;have:=h v (U9.2 hv);unfold jT at this;rcases Wg (done.testBit v) with e|e
 ·exact .inl e
 ·right;intro hs;refine this ?_;rw[e,(DL ?_).2 hs]
  ·simp
  ·rw[UZ];cases h:ps[v]? with
   |none=>decide
   |some p=>exact hp p (an h)
def gL (d v i:Nat):(d |||2 ^ v).testBit i=(d.testBit i ||decide (v=i)):=by rw[Vc,Xd]
def Qr (hp:∀p∈ps,p<2 ^ 64):∀(k:Nat) (out:List Nat) (done:Nat) (r:List Nat),hJ ps k out done=some r->k+dK ps.length done=ps.length ->
  me ps done->(∀v,v<ps.length->done.testBit v=true->(dJ ps (ps.getD v 0)).testBit v=false)->jS ps:=by
 intro k
 induction k with
 |zero =>
  intro out done r _ hc hcl hall v hv;refine hall v hv ?_;rcases Wg (done.testBit v) with e|e
  ·exact e
  ·have:dK ps.length done<dK ps.length (2 ^ ps.length-1 |||done):=q7 (.right _ _) hv e (by rw[Vc,Wz];simp[hv]);have:=zq ps.length (2 ^ ps.length-1 |||done);omega
 |succ k ih =>
  intro out done r h hc hcl hall;unfold hJ at h;split at h
  ·cases h
  ·rename_i v hn;obtain⟨h1,h2,h3⟩:=vE hp hn;refine ih _ _ _ h ?_ ?_ ?_
   ·have:dK ps.length (done |||2 ^ v)=dK ps.length done+1:=by
     unfold dK;have:∀l:List Nat,l.Nodup->v∈l->l.countP (fun i=>(done |||2 ^ v).testBit i)=l.countP (fun i=>done.testBit i)+1:=by
      intro l
      induction l with
      |nil=>intro _ h;cases h
      |cons x l ihl =>
       intro hnd hmem;obtain⟨g1,g2⟩:=Xs.1 hnd;rw[WV,WV];rcases List.mem_cons.1 hmem with rfl|hm2
       ·have:l.countP (fun i=>(done |||2 ^ v).testBit i)=l.countP (fun i=>done.testBit i):=List.countP_congr fun y hy=>by
         have:¬v=y:=(by rintro rfl;exact g1 hy);simp[gL,this]
        rw[this];simp[gL,h2]
       ·have hx:¬v=x:=(by rintro rfl;exact g1 hm2);rw[ihl g2 hm2];simp[gL,hx];omega
     exact this _ Xh (U9.2 h1)
    omega
   ·intro u hu hb;rw[gL,Vu,decide_eq_true_eq]at hb;rcases hb with hb|rfl
    ·exact(hcl u hu hb).trans (.left _ _)
    ·exact h3.trans (.left _ _)
   ·intro u hu hb;rw[gL,Vu,decide_eq_true_eq]at hb;rcases hb with hb|rfl
    ·exact hall u hu hb
    ·have:=pC hcl ps.length h3;rcases Wg ((dJ ps (ps.getD v 0)).testBit v) with e|e
     ·have:=this v e;rw[h2]at this;cases this
     ·exact e
def Qs (hp:∀p∈ps,p<2 ^ ps.length)(h64:ps.length<=64)(ha:jS ps):∀(k:Nat) (out:List Nat) (done:Nat),k+dK ps.length done=ps.length->∃r,hJ ps k out done=some r:=by
 have hp64:∀p∈ps,p<2 ^ 64:=fun p h=>U4 (hp p h) (U7 Zk h64);have hpd:∀v,ps.getD v 0<2 ^ ps.length:=fun v=>by
  rw[UZ];cases h:ps[v]? with
  |none=>exact W6 _
  |some p=>exact hp p (an h)
 intro k
 induction k with
 |zero=>exact fun out done _=>⟨out,rfl⟩
 |succ k ih =>
  intro out done hc;unfold hJ;cases hn:kr ps done with
  |none =>
   exfalso;have hno:=Qq hp64 hn
      -- every node that is left has a parent that is left
   have step:∀m v,v<ps.length->done.testBit v=false->dK ps.length (dJ ps (ps.getD v 0))<=m->False:=by
    intro m
    induction m with
    |zero =>
     intro v hv hd hm;obtain⟨i,h1,h2⟩:∃i,(ps.getD v 0).testBit i=true/\done.testBit i=false:=by
      rcases hno v hv with h|h
      ·rw[hd]at h;cases h
      ·refine VI fun hc=>h fun i hi=>?_;rcases Wg (done.testBit i) with e|e
       ·exact e
       ·exact absurd ⟨i,hi,e⟩ hc
     have:dK ps.length 0<dK ps.length (dJ ps (ps.getD v 0)):=q7 (fun j hj=>by rw[VF]at hj;cases hj) (mR (hpd v) h1) (VF i) (qZ ps _ _ i h1);omega
    |succ m ihm =>
     intro v hv hd hm;obtain⟨u,h1,h2⟩:∃i,(ps.getD v 0).testBit i=true/\done.testBit i=false:=by
      rcases hno v hv with h|h
      ·rw[hd]at h;cases h
      ·refine VI fun hc=>h fun i hi=>?_;rcases Wg (done.testBit i) with e|e
       ·exact e
       ·exact absurd ⟨i,hi,e⟩ hc
     have hu:=mR (hpd v) h1;have hcl:=zr hp (hpd v);have hin:(dJ ps (ps.getD v 0)).testBit u=true:=qZ ps _ _ u h1;have hsub:Sub (dJ ps (ps.getD u 0)) (dJ ps (ps.getD v 0)):=pC hcl _ (hcl u hu hin);have:=q7 hsub hu (ha u hu) hin;exact ihm u hu h2 (V)
   obtain⟨v,hv,hd⟩:∃v,v<ps.length/\done.testBit v=false:=by
    refine VI fun hno=>?_;have:dK ps.length done=ps.length:=by
     unfold dK
     conv=>rhs;rw[<- Ww (n:=ps.length)]
     rw[Y2];intro x hx;rcases Wg (done.testBit x) with e|e
     ·exact e
     ·exact absurd ⟨x,U9.1 hx,e⟩ hno
    omega
   exact step _ v hv hd (Nat.le_refl _)
  |some v =>
   obtain⟨h1,h2,h3⟩:=vE hp64 hn;refine ih _ _ ?_;have:dK ps.length (done |||2 ^ v)=dK ps.length done+1:=by
    unfold dK;have:∀l:List Nat,l.Nodup->v∈l->l.countP (fun i=>(done |||2 ^ v).testBit i)=l.countP (fun i=>done.testBit i)+1:=by
     intro l
     induction l with
     |nil=>intro _ h;cases h
     |cons x l ihl =>
      intro hnd hmem;obtain⟨g1,g2⟩:=Xs.1 hnd;rw[WV,WV];rcases List.mem_cons.1 hmem with rfl|hm2
      ·have:l.countP (fun i=>(done |||2 ^ v).testBit i)=l.countP (fun i=>done.testBit i):=List.countP_congr fun y hy=>by
        have:¬v=y:=(by rintro rfl;exact g1 hy);simp[gL,this]
       rw[this];simp[gL,h2]
      ·have hx:¬v=x:=(by rintro rfl;exact g1 hm2);rw[ihl g2 hm2];simp[gL,hx];omega
    exact this _ Xh (U9.2 h1)
   omega
def DO (n:Nat):dK n 0=0:=by
 unfold dK;rw[List.countP_eq_zero];intro x _;simp
def vF (hp:∀p∈ps,p<2 ^ ps.length)(h64:ps.length<=64):(fB ps).isSome=true↔jS ps:=by
 have hp64:∀p∈ps,p<2 ^ 64:=fun p h=>U4 (hp p h) (U7 Zk h64);constructor
 ·intro h;obtain⟨r,hr⟩:=Vx.1 h;exact Qr hp64 _ _ _ r hr (by rw[DO];omega) (fun v _ h=>by rw[VF]at h;cases h) (fun v _ h=>by rw[VF]at h;cases h)
 ·intro h;obtain⟨r,hr⟩:=Qs hp h64 h ps.length [] 0 (by rw[DO];omega);unfold fB;rw[hr];rfl
end Go.Proofs
namespace Go.Hx
def jm (l:List Nat):Zo:=.Q l.length (l.map aK)
attribute [go_sem] aK jm
def aJ.SW {S:Nat->Prop}{lo nx:Nat}{H:Zn}{e:TypeId}{v:Zo}{l:List Nat}(h:aJ lo H e v (l.map aK))(hS:∀i,lo<=i->S i):Fz S H nx v (jm l):=by
 have:=h.fz (S:=S) (nx:=nx) (cs':=l.map aK) hS rfl fun i hi _=>by simp only[Ve];exact .lit _
 rw[Vh]at this;exact this
end Go.Hx
namespace Go.Proofs
open Go.Hx
variable {g:Int}{ns:List Zp}{x:Zp}
def Fx {H H':Zn}{v:Zo}{l:List Nat}(x:Nat)(ov:Zs H H')(h:aJ H.A H' 34 v (l.map aK))(hl:l.length<2 ^ 40):
  ∃v' H2,bU Tryz.prog (ext H' [.J 0 34 [.lit (.int .u64 (x:Int))]]) (H'.A+1) 93 93 v (.U H'.A 0 0 1 1)=some (v',H2)/\Zs H H2/\aJ H.A H2 34 v' ((l++[x]).map aK)/\H'.A<=H2.A/\(∀k,k<H'.A->(∀g n,v≠.U k g 0 n 1)->H2.get k=H'.get k):=by
 obtain⟨v',H2,hA,hO,hn2,hp⟩:=jL (P:=Tryz.prog) (H:=H') (t:=93) (x:=aK x) (n:=H'.A+1) Tryz.underlying93 Tryz.CH Tryz.CJ rfl (by rw[Tryz.CI,Vh];omega) h ov.A rfl;simp only[aK]at hA;exact⟨v',H2,hA,nf ov h hn2 hp,by rw[VQ];exact hO,hn2,hp⟩
def SX (m v:Nat)(hm:m<2 ^ 64)(hv:v<2 ^ 62)(H:Zn)(K:Zt->Zn->Prop)(hK:K (.ret (.lit (.bool (m.testBit v)))) H):ae Tryz.prog G0 122 [aK m,aa v] H K:=by
 refine ae.st (n:=11) (rs:=[.tmp 4]) Tryz.func122 ?_;have w1:=Vt (v:Int) V;have s1:=fun t x y=>iY (P:=Tryz.prog) (t:=t) (x:=x) (y:=y) (k':=.u64) (s:=v) hm;have s2:=fun t x y=>oO (P:=Tryz.prog) (t:=t) (x:=x) (y:=y) (s:=v) hm;cases hb:m.testBit v
 ·rw[hb]at hK;simp only[go_sem,w1,s1,s2,hb];exact aj.mk Zm hK
 ·rw[hb]at hK;simp only[go_sem,w1,s1,s2,hb];exact aj.mk Zm hK
def az (ns:List Zp):List Nat:=ns.map fun x=>bt x.F
def kH {k:Nat}(h:ns[k]?=some x):(az ns)[k]?=some (bt x.F):=by unfold az;rw[List.getElem?_map,h];rfl
def SY (g:Int)(ns:List Zp)(hl:(ns.length:Int)<2 ^ 39)(hp:∀x∈ns,(x.F.length:Int)<2 ^ 39/\∀q∈x.F,0<=q/\q<64)(H:Zn)(K:Zt->Zn->Prop)
  (hK:K (.ret (jm (az ns))) H):ae Tryz.prog G0 36 [eQ g ns] H K:=by
 refine ae.Z ⟨_,Tryz.func36,rfl,rfl⟩ fun hcl=>?_;refine ae.st (n:=43) (rs:=[.tmp 2]) Tryz.func36 ?_;simp only[go_sem,eQ,eM];obtain⟨H1,hH1⟩:∃H1,H1=ext H [.J 0 90 [.lit (.int .i64 g),.Q ns.length (aH ns)]]:=⟨_,rfl⟩
 have l1:H1.na H.A 0=some (90,[.lit (.int .i64 g),.Q ns.length (aH ns)]):=by rw[hH1];exact ag (cM ..)
 have n1:H1.A=H.A+1:=hH1▸rfl
 have o1:Zs H H1:=hH1▸.ext _ _
 rw[<- hH1];refine W.aS 4398046511096 (by rfl) (fun ρ H'=>∃k:Nat,ρ 4=aa k/\k<=ns.length/\ρ 1=.O H.A 0 0/\Zs H1 H'/\aJ H1.A H' 34 (ρ 3) (((az ns).take k).map aK)) (fun ρ H=>ns.length-(iv (ρ 4)).toNat) ?_ ?_
 ·simp only[go_sem];exact⟨0,rfl,V,.refl _,.nil⟩
 rintro ρ H' ⟨k,h4,hk,h1,ov,h3⟩;refine W.vs ?_;have l2:=(ov.na (g:=0) (by omega:H.A<H1.A)).trans l1;by_cases hb:(k:Int)<ns.length
 ·obtain⟨x,hx⟩:=aw (l:=ns) (i:=k) V;have hne:=fM hx;have e1:=mP hx;obtain⟨xl,xr⟩:=hp x (an hx);simp only[go_sem,h4,h1,l2,hb];refine W.aS 274877890656 (by rfl) (fun ρ' H2=>H2=H'/\∃j:Nat,ρ' 6=aa j/\j<=x.F.length/\ρ' 5=aK (bt (x.F.take j))) (fun ρ' H=>x.F.length-(iv (ρ' 6)).toNat) ?_ ?_
  ·simp only[go_sem];exact⟨0,rfl,V,rfl⟩
  rintro ρ' H2 ⟨rfl,j,h6,hj,h5⟩;refine W.vs ?_;by_cases hb2:(j:Int)<x.F.length
  ·obtain⟨q,hq⟩:=aw (l:=x.F) (i:=j) V;obtain⟨q0,q1⟩:=xr q (an hq);obtain⟨u,rfl⟩:=U2 q0;have hne2:=bf hq;have w1:=Vt (u:Int) V;have w2:=UU ((j:Int)+1) V;have b1:bt (x.F.take j)<2 ^ 64:=jR fun p hp=>by have:=xr p (Vk hp);omega
   have s1:=fun t x y=>kM (P:=Tryz.prog) (t:=t) (x:=x) (y:=y) (k':=.u64) (s:=u) V;have s2:=fun t x y=>iX (P:=Tryz.prog) (t:=t) (x:=x) (y:=y) (b:=2 ^ u) b1 (V3 Zk V);simp only[go_sem,h4,h1,l2,hb,hne,e1,h6,h5,hb2,hq,hne2,w1,w2,s1,s2];exact⟨⟨j+1,Zj,V,by rw[bd hq,tw];rfl⟩,V⟩
  ·obtain⟨v',H3,hA,ov2,hO,hn2,_⟩:=Fx (bt x.F) ov h3 (by simp[az];omega);have w1:=UU ((k:Int)+1) V;rw[UY V]at h5;simp only[go_sem,h4,h1,l2,hb,hne,e1,h6,h5,hb2,w1,hA];refine⟨by have:=ov2.A;omega,⟨k+1,Zj,V,ov2,?_⟩,V⟩;rw[bd (kH hx)];exact hO
 ·simp only[go_sem,h4,h1,l2,hb];rw[UY (by simp[az];omega)]at h3;exact aj.bH aF hcl (o1.trans ov) (h3.SW fun i hi=>V) hK
def kI (g L:Int)(r:List Int):Prop:=(r.length:Int)=L/\(∀w∈r,0<=w/\w<=g)/\r.sum=g
def gh (g:Int)(ns:List Zp)(x:Zp):Prop:=(x.nb.length:Int)=aB (aT ns x)/\∀r∈x.nb,kI g x.L r
structure ZH (g:Int)(ns:List Zp):Prop where
 g1:1<=g/\g<=60
 n1:1<=ns.length/\ns.length<=8
 node:∀x∈ns,(1<=x.L/\x.L<=4)/\bV x.F ns.length
 size:aB (au ns)<=1024
 nL:jS (az ns)
 nb:∀x∈ns,gh g ns x
noncomputable def pU (g:Int)(ns:List Zp):Bool:=@decide (ZH g ns) (Classical.propDecidable _)
def Fy (h:ZH g ns):pU g ns=true:=by unfold pU;exact @decide_eq_true _ (Classical.propDecidable _) h
def FA (h:¬ZH g ns):pU g ns=false:=by unfold pU;exact @decide_eq_false _ (Classical.propDecidable _) h
def wH (ns:List Zp):Prop:=(ns.length:Int)<2 ^ 38/\∀x∈ns,(x.F.length:Int)<2 ^ 38/\(x.nb.length:Int)<2 ^ 38/\∀r∈x.nb,(r.length:Int)<2 ^ 38
def rL {l:List Int}(h:l.length<=12)(h2:∀x∈l,1<=x/\x<=4):eW l:=⟨h,fun x hx=>by have:=h2 x hx;omega⟩
def rM (hin:iG x.F ns.length)(hc:∀y∈ns,1<=y.L/\y.L<=4):∀c∈aT ns x,1<=c/\c<=4:=fun c h=>by
 unfold aT aL at h;obtain⟨q,hq,rfl⟩:=Vb.1 h;obtain⟨j,rfl,y,hy⟩:=mQ (l:=ns) (hin q hq).1 (hin q hq).2;rw[Int.toNat_natCast,bK (cS hy)];exact hc y (an hy)
def oJ (h8:ns.length<=8)(hp:bV x.F ns.length)(hc:∀y∈ns,1<=y.L/\y.L<=4):eW (aT ns x):=by
 refine rL ?_ (rM (fun q hq=>by have:=hp.2 q hq;omega) hc);rw[show (aT ns x).length=_ from jk _ _];have:=hp.len;omega
def rN {n:Nat}(h:∀x∈ns,∀q∈x.F,0<=q/\q<(n:Int)):∀p∈az ns,p<2 ^ n:=fun p hp=>by
 obtain⟨x,hx,rfl⟩:=Vb.1 hp;exact jR fun q hq=>by have:=h x hx q hq;omega
def Aj (l:List Int)(x:Int):(l++[x]).sum=l.sum+x:=Zj
end Go.Proofs
namespace Go.Hx
variable {P:Program} {G:Nat->Option (List Zo)} {n:Nat} {rd:Option Nat} {Q:AX->St->Prop}
def tV (P:Program)(G:Nat->Option (List Zo))(f:FuncId)(first cap:List Zo)(xs:List (List Zo))(S:Zn->Prop):Prop :=
 ∀(idy:Nat) (J:Nat->Zn->Prop) (Stop:Zn->Prop) (H:Zn) (K:Zt->Zn->Prop),
  (∀k H1,J k H1->S H1)->J 0 H ->
  (∀k x H1 K1,xs[k]?=some x->J k H1->H.A<=H1.A->(∀H',J (k+1) H'->H1.A<=H'.A->K1 (.ret (.lit (.bool true))) H')->(∀H',Stop H'->H1.A<=H'.A->K1 (.ret (.lit (.bool false))) H')->ao P G (.np idy) x H1 K1) ->
  (∀H',J xs.length H'->H.A<=H'.A->K (.ret (.nf [])) H') ->
  (∀H',Stop H'->H.A<=H'.A->K (.ret (.nf [])) H') ->
  ae P G f (first++[.np idy]++cap) H K
def ij (idy:Nat)(B:Zu)(lo:Nat)(J:Zn->Prop)(Stop:AX->Zn->Prop):AX->St->Prop
 |.normal,s=>s.H.get idy=some B/\lo<=s.H.A/\J s.H
 |.ret,s=>s.H.get idy=some B/\lo<=s.H.A/\Stop .ret s.H
 |.exit i,s=>s.H.get idy=some B/\lo<=s.H.A/\Stop (.exit i) s.H
 |_,_=>False
def mw (P:Program)(G:Nat->Option (List Zo))(n idy:Nat)(B Bb:Zu)(lo:Nat)(body:Code)(J:Zn->Prop)(Stop:AX->Zn->Prop):AX->St->Prop
 |.normal,s=>s.H.get idy=some B/\W P G n (some idy) body (ij idy Bb lo J Stop) ⟨s.ρ,s.H.upd idy Bb⟩
 |_,_=>False
def W.rU {g:Operand}{ps:Array Tmp}{asg body:Code}{ρ:Env}{H:Zn}{f:FuncId}{first cap:List Zo}{xs:List (List Zo)}{S:Zn->Prop}(hg:ar G ρ g=.Z f first cap)
  (hit:tV P G f first cap xs S) (J:Nat->Zn->Prop) (Stop:AX->Zn->Prop) (hS:∀k H1,J k H1->S H1)
  (hJu:∀k H1 b,J k H1->J k (H1.upd H.A b)) (hSu:∀c H1 b,Stop c H1->Stop c (H1.upd H.A b))
  (hJ0:∀b,J 0 (ext H [b])) (hps:ps.toList.all (fun t=>decide (t<n))=true) (hxl:∀x∈xs,x.length=ps.size)
  (hrd:∀k H1,J k H1->fG H1 rd) (hrd2:∀c H1,Stop c H1->fG H1 rd)
  (hround:∀k x H1 B Bb,xs[k]?=some x->J k H1->H.A+1<=H1.A->H1.get H.A=some B->(∃st pd n' en ps' as' bo,Bb=Zu.loop st pd n' en ps' as' bo) ->
   W P G n (some H.A) asg (mw P G n H.A B Bb H1.A body (J (k+1)) Stop) ⟨jK (dq ρ n) (ps.toList.zip x),H1⟩)
  (hend:∀H',J xs.length H'->H.A+1<=H'.A->Q .normal ⟨ρ,H'⟩)
  (hret:∀H',Stop .ret H'->H.A+1<=H'.A->Q .ret ⟨ρ,H'⟩) (hexit:∀i H',Stop (.exit i) H'->H.A+1<=H'.A->Q (.exit i) ⟨ρ,H'⟩):
  W P G n rd (.rangeFunc g ps asg body) Q ⟨ρ,H⟩:=by
 refine W.rangeFunc (s:=⟨ρ,H⟩) hg ⟨_,uE _ _,?_⟩;obtain⟨B,hB⟩:∃B,B=Zu.loop .ready none n ρ ps asg body:=⟨_,rfl⟩
 obtain⟨Bb,hBb⟩:∃B,B=Zu.loop .busy none n ρ ps asg body:=⟨_,rfl⟩
 have nx:(ext H [B]).A=H.A+1:=rfl;show ae P G f (first++[.np H.A]++cap) (ext H [Zu.loop .ready none n ρ ps asg body]) (yo rd Q ρ H.A);rw[<- hB];refine hit H.A (fun k H1=>H1.get H.A=some B/\J k H1) (fun H1=>∃c pend,H1.get H.A=some (.loop .done (some pend) n ρ ps asg body)/\Stop c H1/\((c=.ret/\pend=.ret)\/∃i,c=.exit i/\pend=.exit i)) _ _
  (fun k H1 h=>hS k H1 h.2) ⟨dZ,hJ0 B⟩ (fun k x H1 K1 hx hj hn hgo hst=>?_) (fun H' hj hn=>?_) (fun H' hj hn=>?_)
 ·have hxm:=hxl x (an hx);refine ao.np (hj.1.trans (congrArg some hB)) hxm hps ?_;refine(hround k x H1 B Bb hx hj.2 hn hj.1 ⟨_,_,_,_,_,_,_,hBb⟩).mono fun e s1 h1=>?_;cases e with
  |normal =>
   obtain⟨a1,a2⟩:=h1;refine⟨Bb,by rw[a1,hB,hBb];rfl,?_⟩;refine a2.mono fun e2 s2 h2=>?_;cases e2 with
   |normal =>
    obtain⟨b1,b2,b3⟩:=h2;exact⟨B,by rw[b1,hB,hBb];rfl,hgo _ ⟨by rw[ah,UX rfl],hJu _ _ _ b3⟩ b2⟩
   |ret =>
    obtain⟨b1,b2,b3⟩:=h2;exact⟨.loop .done (some .ret) n ρ ps asg body,by rw[b1,hBb];rfl,hst _ ⟨.ret,.ret,by rw[ah,UX rfl],hSu _ _ _ b3,.inl ⟨rfl,rfl⟩⟩ b2⟩
   |exit i =>
    obtain⟨b1,b2,b3⟩:=h2;exact⟨.loop .done (some (.exit i)) n ρ ps asg body,by rw[b1,hBb];rfl,hst _ ⟨.exit i,.exit i,by rw[ah,UX rfl],hSu _ _ _ b3,.inr ⟨i,rfl,rfl⟩⟩ b2⟩
   |_=>exact h2.elim
  |_=>exact h1.elim
 ·refine⟨hrd _ _ hj.2,(none,.loop .exhausted none n ρ ps asg body),by rw[hj.1,hB];rfl,?_⟩;exact hend _ (hJu _ _ _ hj.2) hn
 ·obtain⟨c,pend,h1,h2,h3⟩:=hj;refine⟨hrd2 _ _ h2,(some pend,.loop .exhausted (some pend) n ρ ps asg body),by rw[h1];rfl,?_⟩;rcases h3 with ⟨rfl,rfl⟩|⟨i,rfl,rfl⟩
  ·exact hret _ (hSu _ _ _ h2) hn
  ·exact hexit i _ (hSu _ _ _ h2) hn
end Go.Hx
namespace Go.Proofs
open Go.Hx
variable {g:Int}{nb:List (List Int)}{l:List Int}{ns:List Zp}{k:Nat}{x:Zp}
def tM (x:Zp):Zo:=.agg [.lit (.int .i64 x.L),.Q x.F.length (ints x.F),aZ x.nb]
def oK (nb:List (List Int)):List (List Zo):=nb.zipIdx.map fun p=>[aa p.2,af p.1]
def FB {x:List Zo}(h:(oK nb)[k]?=some x):∃r,nb[k]?=some r/\x=[aa k,af r]:=by
 unfold oK at h;rw[List.getElem?_map,WC]at h;cases hr:nb[k]? with
 |none=>rw[hr]at h;simp at h
 |some r=>rw[hr]at h;simp at h;exact⟨r,rfl,h.symm⟩
def SZ {r:List Int}(h:nb[k]?=some r):(oK nb)[k]?=some [aa k,af r]:=by
 unfold oK;rw[List.getElem?_map,WC,h];simp
def FC (nb:List (List Int)):(oK nb).length=nb.length:=by simp[oK]
def S3 (x:Zp)(hl:(x.nb.length:Int)<2 ^ 40)(b:Nat):tV Tryz.prog G0 191 [] [.O b 0 0] (oK x.nb) (fun H=>H.get b=some (.J 0 76 [.lit (.int .i64 x.L),.Q x.F.length (ints x.F),aZ x.nb])):=by
 intro idy J Stop H K hS hJ0 hY hK hSt;have l0:=ag (hS 0 H hJ0);show ae _ _ _ ([.np idy]++[.O b 0 0]) _ _;refine ae.st (n:=19) (rs:=[]) Tryz.func191 ?_;simp only[go_sem,l0,aZ];refine W.aS 524056 (by rfl) (fun ρ H'=>∃k:Nat,ρ 8=aa k/\k<=x.nb.length/\J k H'/\H.A<=H'.A) (fun ρ H=>x.nb.length-(iv (ρ 8)).toNat) ?_ ?_
 ·simp only[go_sem];exact⟨0,rfl,V,hJ0⟩
 rintro ρ H' ⟨k,h8,hk,hj,hn⟩;refine W.vs ?_;by_cases hb:(k:Int)<x.nb.length
 ·obtain⟨r,hr⟩:=aw (l:=x.nb) (i:=k) V;have hne:=bf hr;have w1:=UU ((k:Int)+1) V;simp only[go_sem,h8,hb,hr,hne];refine hY k [aa k,af r] H' _ (SZ hr) hj hn (fun H2 hj2 hn2=>⟨trivial,?_⟩) (fun H2 hs2 hn2=>⟨trivial,?_⟩)
  ·simp only[go_sem,h8,w1];exact⟨V,⟨k+1,Zj,V,hj2,V⟩,V⟩
  ·simp only[go_sem];exact aj.mk V (hSt H2 hs2 V)
 ·simp only[go_sem,h8,hb];have ek:k=(oK x.nb).length:=by rw[FC];omega
  subst ek;exact aj.mk V (hK H' hj hn)
def S4 (x:Zp)(H:Zn)(K:Zt->Zn->Prop)(hK:K (.ret (.Z 191 [] [.O H.A 0 0])) (ext H [.J 0 76 [.lit (.int .i64 x.L),.Q x.F.length (ints x.F),aZ x.nb]])):
  ae Tryz.prog G0 188 [tM x] H K:=by
 refine ae.st (n:=4) (rs:=[.tmp 2]) Tryz.func188 ?_;simp only[go_sem,tM];exact aj.mk (by simp[aV]) hK
def Ak {g:Int}(h:∀w∈l,0<=w):0<=l.sum:=by
 induction l with
 |nil=>simp
 |cons a l ih =>
  have h1:=ih fun w hw=>h w (by simp[hw]);have h2:=h a Zj;simp only[Wm];omega
def Al (h:∀w∈l,0<=w):∀w∈l,w<=l.sum:=by
 induction l with
 |nil=>intro w hw;cases hw
 |cons a l ih =>
  intro w hw;have h1:=Ak (g:=0) fun w hw=>h w (W5 a hw);have h2:=h a Zj;simp only[Wm];rcases List.mem_cons.1 hw with rfl|hw
  ·omega
  ·have:=ih (fun w hw=>h w (by simp[hw])) w hw;omega
noncomputable def mn (g:Int)(ns:List Zp)(x:Zp):Bool:=@decide (gh g ns x) (Classical.propDecidable _)
def FD (h:gh g ns x):mn g ns x=true:=by unfold mn;exact @decide_eq_true _ (Classical.propDecidable _) h
def S5 (h:¬gh g ns x):mn g ns x=false:=by unfold mn;exact @decide_eq_false _ (Classical.propDecidable _) h
def S6 :mn g ns x=true↔gh g ns x:=by unfold mn;exact @decide_eq_true_iff _ (Classical.propDecidable _)
def S7 (g:Int)(hg:1<=g/\g<=60)(ns:List Zp)(sets:List Nat)(x:Zp)(hin:iG x.F ns.length)(hsm:eW (aT ns x))(hx1:(x.nb.length:Int)<2 ^ 38)(hx2:∀r∈x.nb,(r.length:Int)<2 ^ 38)(H:Zn)(K:Zt->Zn->Prop)
  (hK:K (.ret (.lit (.bool (mn g ns x)))) H):ae Tryz.prog G0 174 [.agg [.lit (.int .i64 g),eM ns,af (au ns),jm sets,.lit (.slice none 0 0)],tM x] H K:=by
 refine ae.Z ⟨_,Tryz.func174,rfl,rfl⟩ fun hcl=>?_;have l12:=hsm.1;have pl:(aT ns x).length=x.F.length:=jk _ _;have no:¬gh g ns x->∀H',Zs H H'->aj Tryz.prog G0 H K (.lit (.bool false)) H':=fun h H' ov=>aj.bH aF hcl ov (.lit _) (by rw[S5 h]at hK;exact hK);refine ae.st (n:=66) (rs:=[.cell 4 4]) Tryz.func174 ?_;simp only[go_sem,eM,tM];obtain⟨H1,hH1⟩:∃H1,H1=ext H [.J 0 214 [.lit (.int .i64 g),.Q ns.length (aH ns),.Q (au ns).length (ints (au ns)),.Q sets.length (sets.map aK),.lit (.slice none 0 0)],.J 0 76 [.lit (.int .i64 x.L),.Q x.F.length (ints x.F),aZ x.nb],.J 0 4 [.lit (.bool false)]]:=⟨_,rfl⟩
 have l1:H1.na H.A 0=some (214,[.lit (.int .i64 g),.Q ns.length (aH ns),.Q (au ns).length (ints (au ns)),.Q sets.length (sets.map aK),.lit (.slice none 0 0)]):=by rw[hH1];exact ag (cM ..)
 have l2:H1.na (H.A+1) 0=some (76,[.lit (.int .i64 x.L),.Q x.F.length (ints x.F),aZ x.nb]):=by rw[hH1];exact ag (bO H _ 1 Zj)
 have g3:=gE hH1 2 rfl
 have n1:H1.A=H.A+3:=hH1▸rfl
 have o1:Zs H H1:=hH1▸.ext _ _
 rw[<- hH1];refine W.aS 268370080 (by rfl) (fun ρ H'=>H'=H1/\∃k:Nat,ρ 16=aa k/\k<=x.F.length/\ρ 5=aa (aB ((aT ns x).take k))) (fun ρ H=>x.F.length-(iv (ρ 16)).toNat) ?_ ?_
 ·simp only[go_sem];exact⟨0,rfl,V,by simp[iK]⟩
 rintro ρ H' ⟨rfl,k,h16,hk,h5⟩;refine W.vs ?_;by_cases hb:(k:Int)<x.F.length
 ·obtain⟨q,hq⟩:=aw (l:=x.F) (i:=k) V;obtain⟨j,rfl,y,hy⟩:=mQ (l:=ns) (hin q (an hq)).1 (hin q (an hq)).2;have hne2:=bf hq;have hyc:=cS hy;have hne3:=bf hyc;have hj:(j:Int)<(au ns).length:=by have:=aO hyc;omega
  have pk:(aT ns x)[k]?=some y.L:=by
   rw[show (aT ns x)[k]?=_ from jY hq,Int.toNat_natCast,bK hyc]
  have b1:=(hsm.take (k+1)).prod;rw[bd pk,ji]at b1;have w1:=UU ((k:Int)+1) V;have w2:=UU (aB ((aT ns x).take k)*y.L) V;simp only[go_sem,h16,h5,l1,hb,hq,hne2,hj,hyc,hne3,w1,w2];exact⟨⟨k+1,Zj,V,by rw[bd pk,ji]⟩,V⟩
 rw[UY V]at h5;by_cases c1:(x.nb.length:Int)=aB (aT ns x);rotate_left
 ·simp only[go_sem,h16,h5,l2,hb,c1,aZ];have l3:=ag g3;simp only[go_sem,l3];exact no (fun h=>c1 h.1) _ (o1.upd V _)
 simp only[go_sem,h16,h5,l2,hb,c1,aZ];refine ao.Z (S4 x _ _ ⟨trivial,?_⟩);simp only[go_sem];obtain⟨H2,hH2⟩:∃H2,H2=ext H' [.J 0 76 [.lit (.int .i64 x.L),.Q x.F.length (ints x.F),aZ x.nb]]:=⟨_,rfl⟩
 rw[<- hH2];have o2:Zs H' H2:=by rw[hH2];exact .ext _ _
 have n2:H2.A=H.A+4:=by rw[hH2,aV,n1];rfl
 have hbx:H2.get H'.A=some (.J 0 76 [.lit (.int .i64 x.L),.Q x.F.length (ints x.F),aZ x.nb]):=by rw[hH2];exact dZ
 refine W.env fun E hE=>?_;have e2:E 2=.O H.A 0 0:=by rw[hE];simp only[go_sem]
 have e3:E 3=.O (H.A+1) 0 0:=by rw[hE];simp only[go_sem]
 have e4:E 4=.O (H.A+2) 0 0:=by rw[hE];simp only[go_sem]
 have i1:H2.na H.A 0=some (214,[.lit (.int .i64 g),.Q ns.length (aH ns),.Q (au ns).length (ints (au ns)),.Q sets.length (sets.map aK),.lit (.slice none 0 0)]):=(o2.na V).trans l1;have i2:H2.na (H.A+1) 0=some (76,[.lit (.int .i64 x.L),.Q x.F.length (ints x.F),aZ x.nb]):=(o2.na V).trans l2;have i3:H2.get (H.A+2)=some (.J 0 4 [.lit (.bool false)]):=(o2.nc _ V).trans g3;refine W.rU (f:=191) (first:=[]) (cap:=[.O H'.A 0 0]) (by show E 34=_;rw[hE];rfl) (S3 x V H'.A)
  (fun k Hx=>Zs H2 Hx/\∀r∈x.nb.take k,kI g x.L r) (fun c Hx=>c=.ret/\Zs H Hx/\H.A+4<=Hx.A/\Hx.get (H.A+2)=some (.J 0 4 [.lit (.bool false)])/\¬gh g ns x)
  (fun k Hx h=>by rw[h.1.nc _ V];exact hbx) (fun k Hx b h=>⟨h.1.upd Zm b,h.2⟩) (fun c Hx b h=>⟨h.1,h.2.1.upd V b,h.2.2.1,by rw[ah,UW V];exact h.2.2.2.1,h.2.2.2.2⟩)
  (fun b=>⟨.ext _ _,Zj⟩) Zk (fun y hy=>by
   obtain⟨k,hk⟩:=U1.1 hy;obtain⟨r,_,rfl⟩:=FB hk;rfl) (fun _ _ _=>trivial) (fun _ _ _=>trivial) (fun k y Hx B Bb hy hj hn hB hBb=>?_) (fun Hx hj hn=>?_) (fun Hx hs hn=>?_) (fun i Hx hs hn=>by cases hs.1)
 ·obtain⟨r,hr,rfl⟩:=FB hy;refine W.vs ?_;simp only[go_sem,jK,dq,mw,V1,Xj,WA,WJ,hB];obtain⟨H3,hH3⟩:∃H3,H3=Hx.upd H2.A Bb:=⟨_,rfl⟩
  rw[<- hH3];obtain⟨st,pd,n',en,ps',as',bo,hBe⟩:=hBb;have o3:Zs H2 H3:=by rw[hH3];exact hj.1.upd Zm Bb
  have o4:Zs H H3:=(o1.trans o2).trans o3;have n3:H3.A=Hx.A:=by rw[hH3];rfl
  have j1:=(o3.na (g:=0) (by omega:H.A<H2.A)).trans i1;have j2:=(o3.na (g:=0) (by omega:H.A+1<H2.A)).trans i2;have j3:=(o3.nc _ (by omega:H.A+2<H2.A)).trans i3;have j4:=ag j3;have jB:H3.get H2.A=some Bb:=by rw[hH3,ah,UX rfl]
  have nB:¬H2.A=H.A+2:=V
  have hrm:=an hr;have hrl:=hx2 r hrm;have nope:¬kI g x.L r->¬gh g ns x:=fun h h'=>h (h'.2 r hrm);have stop:¬kI g x.L r->(H3.upd (H.A+2) (Zu.J 0 4 [.lit (.bool false)])).get H2.A=some Bb/\Hx.A<=(H3.upd (H.A+2) (Zu.J 0 4 [.lit (.bool false)])).A/\Zs H (H3.upd (H.A+2) (Zu.J 0 4 [.lit (.bool false)])) /\
    H.A+4<=(H3.upd (H.A+2) (Zu.J 0 4 [.lit (.bool false)])).A/\(H3.upd (H.A+2) (Zu.J 0 4 [.lit (.bool false)])).get (H.A+2)=some (.J 0 4 [.lit (.bool false)])/\¬gh g ns x:=fun h =>
   ⟨by rw[ah,UW nB];exact jB,by rw[aP];omega,o4.upd V _,by rw[aP];omega,by rw[ah,UX rfl],nope h⟩
  refine W.vs ?_;simp only[go_sem,dq,e2,j1];refine W.aS 144110790029349888 (by rfl) (fun ρ2 H4=>H4=H3/\∃i:Nat,ρ2 42=aa i/\i<=r.length/\(∀w∈r.take i,0<=w)/\(r.take i).sum<=g/\ρ2 10=aa (g-(r.take i).sum)) (fun ρ2 H=>r.length-(iv (ρ2 42)).toNat) ?_ ?_
  ·simp only[go_sem];exact⟨0,rfl,V,Zj,by simp;omega,Zj⟩
  rintro ρ2 H4 ⟨rfl,i,h42,hi,hw0,hws,h10⟩;refine W.vs ?_;have s0:=Ak (g:=g) hw0;by_cases hb2:(i:Int)<r.length
  ·obtain⟨a,ha⟩:=aw (l:=r) (i:=i) V;have ham:=an ha;have hane:=bf ha;by_cases d1:a<0
   ·simp only[go_sem,h42,hb2,ha,hane,d1,dq,e4,j4,ij];exact stop fun h=>by have:=h.2.1 a ham;omega
   by_cases d2:a > g-(r.take i).sum
   ·simp only[go_sem,h42,h10,hb2,ha,hane,d1,d2,dq,e4,j4,ij];refine stop fun h=>?_;have h1:r.sum=(r.take (i+1)).sum+(r.drop (i+1)).sum:=(by rw[<- Yk,VL]);rw[bd ha,Aj]at h1;have h2:=Ak (g:=g) (l:=r.drop (i+1)) fun w hw=>(h.2.1 w (W4 hw)).1;have:=h.2.2;omega
   have w1:=UU ((i:Int)+1) V;have w2:=UU (g-(r.take i).sum-a) V;simp only[go_sem,h42,h10,hb2,ha,hane,d1,d2,w1,w2,dq];refine⟨⟨_,_,_,_,_,_,_,by rw[jB,hBe]⟩,⟨i+1,Zj,V,fun w hw=>?_,by rw[bd ha,Aj];omega,?_⟩,V⟩
   ·rw[bd ha]at hw;rcases Vp.1 hw with hw|hw
    ·exact hw0 w hw
    ·obtain rfl:=List.mem_singleton.1 hw;omega
   ·rw[bd ha,Aj];show aa _=aa _;congr 1;omega
  ·rw[UY V]at hw0 hws h10 s0;by_cases d1:(r.length:Int)=x.L;rotate_left
   ·simp only[go_sem,h42,hb2,d1,dq,e3,e4,j2,j4,ij];exact stop fun h=>d1 h.1
   have hb2':¬(i:Int)<x.L:=V;by_cases d2:g-r.sum=0;rotate_left
   ·simp only[go_sem,h42,h10,hb2',d1,d2,dq,e3,e4,j2,j4,ij];exact stop fun h=>by have:=h.2.2;omega
   simp only[go_sem,h42,h10,hb2',d1,d2,dq,e3,j2,ij];refine⟨jB,V,o3,fun y hy=>?_⟩;rw[bd hr]at hy;rcases Vp.1 hy with hy|hy
   ·exact hj.2 y hy
   ·obtain rfl:=List.mem_singleton.1 hy;exact⟨d1,fun w hw=>⟨hw0 w hw,by have:=Al hw0 w hw;omega⟩,V⟩
 ·have hok:gh g ns x:=⟨c1,by
   have:=hj.2;rw[FC,Xy]at this;exact this⟩
  have j4:=ag ((hj.1.nc _ (by omega:H.A+2<H2.A)).trans i3);rw[FD hok]at hK;simp only[go_sem,e4,j4];exact aj.bH aF hcl (((o1.trans o2).trans hj.1).upd V _) (.lit _) hK
 ·obtain⟨_,o4,n4,g4,hno⟩:=hs;have j4:=ag g4;simp only[go_sem,e4,j4];exact no hno _ o4
end Go.Proofs
namespace Go.Hx
variable {e:TypeId}{H:Zn}
def aJ.pV {lo:Nat}{v:Zo}{l:List Int}(h:aJ lo H e v (ints l)):ZJ H v (af l):=by
 rcases h with ⟨rfl,h⟩|⟨id,g,h1,h2,rfl,h4⟩
 ·have:l=[]:=by cases l with
   |nil=>rfl
   |cons a l=>simp[ints]at h
  subst this;exact .nil
 ·have e:af l=.Q (ints l).length (ints l):=by rw[bG];rfl
  rw[e];refine .U h4 Zj fun j hj h2 h'=>?_;simp only[Nat.zero_add,ints,Ve];exact .lit _
def Fz.tO {id g n nx:Nat}{cs:List Zo}(hg:H.get id=some (.J g e cs))(hn:n=cs.length)(hl:∀c∈cs,∃v,c=.lit v):Fz (fun _=>True) H nx (.U id g 0 n 1) (.Q n cs):=by
 refine .nA trivial hg V fun j hj h2 h'=>?_;simp only[Nat.zero_add];obtain⟨v,hv⟩:=hl _ (VU h');rw[hv];exact .lit _
end Go.Hx
namespace Go.Proofs
open Go.Hx
variable {n:Nat}{p:Nat->Bool}
def aG (l:List Nat):List Int:=l.map fun (v:Nat)=>(v:Int)
def FE {j:Nat}(hj:j<n)(h1:∀v,v<j->p v=false)(h2:p j=true):(List.range n).find? p=some j:=by
 rw[List.find?_eq_some_iff_getElem];refine⟨h2,j,by simpa using hj,Zj,fun k hk=>?_⟩;simp only[List.getElem_range];simp[h1 k hk]
def FF (h1:∀v,v<n->p v=false):(List.range n).find? p=none:=by
 rw[Xo];intro x hx;simp[h1 x (U9.1 hx)]
def S8 (ps:List Nat)(hl:ps.length<=60)(hp:∀p∈ps,p<2 ^ 64)(H:Zn)(K:Zt->Zn->Prop)
  (hK:∀v H',Zs H H'->(match fB ps with|some o=>aJ H.A H' 3 v (ints (aG o))|none=>v=.lit (.slice none 0 0))->K (.ret (.nf [v,.lit (.bool (fB ps).isSome)])) H'):ae Tryz.prog G0 175 [jm ps] H K:=by
 have no:∀H',fB ps=none->Zs H H'->aj Tryz.prog G0 H K (.nf [.lit (.slice none 0 0),.lit (.bool false)]) H':=fun H' h ov=>aj.mk ov.A (by
  have:=hK (.lit (.slice none 0 0)) H' ov;rw[h]at this;exact this rfl)
 refine ae.st (n:=44) (rs:=[.tmp 2,.tmp 3]) Tryz.func175 ?_;simp only[go_sem];refine⟨V,?_⟩;refine W.aS 8796093020412 (by rfl) (fun ρ H'=>∃(out:List Nat) (done:Nat),ρ 5=aK done/\done<2 ^ 64/\out.length<=ps.length/\H.A+1<=H'.A/\Zs H H'/\aJ H.A H' 3 (ρ 4) (ints (aG out))/\(∃id g,ρ 4=.U id g 0 out.length 1)/\hJ ps (ps.length-out.length) out done=fB ps)
  (fun ρ H=>ps.length-(match ρ 4 with|.U _ _ _ n _=>n|_=>0)) ?_ ?_
 ·simp only[go_sem];exact⟨[],0,Zj,Zk,Wo _,.ext _ _,.inr ⟨H.A,0,Zm,by simp[aV],rfl,cM H _ []⟩,⟨_,_,rfl⟩,rfl⟩
 rintro ρ H' ⟨out,done,h5,hd,ho,hn0,ov,h4,⟨id,gn,h4e⟩,ht⟩;refine W.vs ?_;have lv:H'.na id gn=some (3,ints (aG out)):=by
  rcases h4 with ⟨h,_⟩|⟨i,g,h1,h2,h3,h4⟩
  ·rw[h4e]at h;cases h
  ·rw[h4e]at h3;have:=Zo.U.inj h3;obtain⟨rfl,rfl,_⟩:=this;exact ag h4
 by_cases hb:(out.length:Int)<ps.length
 ·simp only[go_sem,h4e,lv,hb];have hk1:ps.length-out.length=(ps.length-(out.length+1))+1:=V
  refine W.aS 8796092760304 (by rfl) (fun ρ2 H2=>H2=H'/\∃j:Nat,ρ2 18=aa j/\j<=ps.length/\ρ2 4=.U id gn 0 out.length 1/\ρ2 5=aK done/\∀v,v<j->jT ps done v=false) (fun ρ2 H=>ps.length-(iv (ρ2 18)).toNat) ?_ ?_
  ·simp only[go_sem,h4e,h5];exact⟨0,rfl,V,fun v h=>absurd h (Va _)⟩
  rintro ρ2 H2 ⟨rfl,j,h18,hj,h4',h5',hno⟩;refine W.vs ?_;by_cases hb2:(j:Int)<ps.length
  ·obtain⟨p,hpj⟩:=aw (l:=ps) (i:=j) V;have hp1:=hp p (an hpj);have hne:=bf hpj;have s1:=fun t x y=>iY (P:=Tryz.prog) (t:=t) (x:=x) (y:=y) (k':=.i64) (s:=j) hd;have s2:=fun t x y=>oO (P:=Tryz.prog) (t:=t) (x:=x) (y:=y) (s:=j) hd;have s3:=fun t x y=>mu (P:=Tryz.prog) (t:=t) (x:=x) (y:=y) (a:=p) (b:=done);have w1:=UU ((j:Int)+1) V;have cont:jT ps done j=false->∀v,v<j+1->jT ps done v=false:=fun h v hv=>by
    rcases Vj v j with h'|h'
    ·exact hno v h'
    ·obtain rfl:v=j:=V;exact h
   have fe:jT ps done j=(!done.testBit j && decide (dE p done=0)):=(by unfold jT;rw[bK hpj]);cases hbit:done.testBit j;rotate_left
   ·simp only[go_sem,h18,h4',h5',hb2,hpj,hne,s1,s2,hbit,w1];exact⟨⟨j+1,Zj,V,cont (by rw[fe,hbit];rfl)⟩,V⟩
   by_cases hz:dE p done=0;rotate_left
   ·have hz':¬((dE p done:Nat):Int)=0:=V;simp only[go_sem,h18,h4',h5',hb2,hpj,hne,s1,s2,s3,hbit,hz',w1];exact⟨⟨j+1,Zj,V,cont (by rw[fe,hbit];simp[hz])⟩,V⟩
   have hz':((dE p done:Nat):Int)=0:=V;have hnx:kr ps done=some j:=FE V hno (by rw[fe,hbit];simp[hz]);obtain⟨v',H3,hA,ov2,hO,hn2,_⟩:=lO (j:Int) ov h4 (by simp[aG];omega);rw[h4e]at hA;have b2:(2:Nat) ^ j<2 ^ 64:=V3 Zk V;have s4:=fun t x y=>kM (P:=Tryz.prog) (t:=t) (x:=x) (y:=y) (k':=.i64) (s:=j) V;have s5:=fun t x y=>iX (P:=Tryz.prog) (t:=t) (x:=x) (y:=y) hd b2;simp only[go_sem,h18,h4',h5',hb2,hpj,hne,s1,s2,s3,s4,s5,hbit,hz',hA];have hO':aJ H.A H3 3 v' (ints (aG (out++[j]))):=by
    have e:aG (out++[j])=aG out++[(j:Int)]:=(by simp[aG]);rw[e];exact hO
   have hv':∃id g,v'=.U id g 0 (out.length+1) 1:=by
    rcases hO' with ⟨_,h⟩|⟨i,g,_,_,h3,_⟩
    ·simp[ints,aG]at h
    ·exact⟨i,g,by rw[h3,bG];simp[aG]⟩
   obtain⟨i2,g2,rfl⟩:=hv';refine⟨V,⟨out++[j],done |||2 ^ j,rfl,V8 hd b2,by simp;omega,V,ov2,hO',⟨i2,g2,Zj⟩,?_⟩,by simp only;omega⟩;rw[<- ht,hk1]
   conv=>rhs;unfold hJ
   rw[hnx];simp
  ·simp only[go_sem,h18,hb2];refine no _ ?_ ov;rw[<- ht,hk1];unfold hJ;have:kr ps done=none:=FF fun v hv=>hno v V;rw[this]
 ·simp only[go_sem,h4e,lv,hb];have hz:ps.length-out.length=0:=V
  rw[hz]at ht;have ht':fB ps=some out:=ht.symm;have:=hK (.U id gn 0 out.length 1) H' ov;rw[ht']at this;refine aj.mk ov.A (this ?_);rw[h4e]at h4;exact h4
def S9 (ps:List Nat)(hl:ps.length<=60)(hp:∀p∈ps,p<2 ^ 64)(H:Zn)(v:Zo)(hv:Fz (fun _=>True) H 0 v (jm ps))(K:Zt->Zn->Prop)
  (hK:K (.ret (.nf [af (aG ((fB ps).getD [])),.lit (.bool (fB ps).isSome)])) H):ae Tryz.prog G0 175 [v] H K:=by
 refine(ae.frame (H:=H) (args:=[v]) (args':=[jm ps]) (v':=.nf [af (aG ((fB ps).getD [])),.lit (.bool (fB ps).isSome)]) aF rfl (fun i hi _=>match i,hi with|0,_=>hv) (S8 ps hl hp cW _ fun u H' ov hu=>⟨_,rfl,?_⟩)).mono ?_
 ·refine .nf rfl fun i hi _=>?_
  match i,hi with
  |0,_ =>
   show ZJ H' u _;cases ht:fB ps with
   |none=>rw[ht]at hu;simp only at hu;rw[hu];show ZJ H' _ (af []);exact .nil
   |some o=>rw[ht]at hu;exact aJ.pV hu
  |1,_=>exact .lit _
 ·rintro r H' ⟨rfl,rfl⟩;exact hK
end Go.Proofs
