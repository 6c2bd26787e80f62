/-
  Closed facts of this seat's types. Laid by a program of ours.
-/
import Derived.Test.YtebhdkihcdmmjaaGreatProg
import Derived.Test.YtebhdkihcdmmjaaGreatLibC
import Derived.Test.YtebhdkihcdmmjaaGreatLibB
set_option linter.all false
set_option maxHeartbeats 8000000
namespace Go.Proofs
open Go.Hx
variable {i z:Nat}{α:Type}
def Tryz.mixed:Tryz.prog.follows .mixedOrders=true:=ZF
def Tryz.fR:Tryz.prog.cellsOf 3=1:=ZF
def Tryz.gM:Tryz.prog.bytesOf 3=8:=ZF
def Tryz.fD:bQ Tryz.prog 3=some [.lit (.int .i64 0)]:=ZF
def Tryz.CO:Tryz.prog.cellsOf 4=1:=ZF
def Tryz.Nw:Tryz.prog.bytesOf 4=1:=ZF
def Tryz.Nx:bQ Tryz.prog 4=some [.lit (.bool false)]:=ZF
def Tryz.qP:Tryz.prog.cellsOf 5=1:=ZF
def Tryz.Ny:Tryz.prog.bytesOf 5=1:=ZF
def Tryz.Nz:bQ Tryz.prog 5=some [.lit (.int .u8 0)]:=ZF
def Tryz.CP:Tryz.prog.cellsOf 22=1:=ZF
def Tryz.zb:Tryz.prog.cellsOf 23=1:=ZF
def Tryz.CQ:Tryz.prog.cellsOf 25=3:=ZF
def Tryz.NA:bK Tryz.prog 25 0=some (0,5):=ZF
def Tryz.NB:bK Tryz.prog 25 1=some (1,22):=ZF
def Tryz.NC:bK Tryz.prog 25 2=some (2,23):=ZF
def Tryz.CR:Tryz.prog.cellsOf 26=1:=ZF
def Tryz.ND:Tryz.prog.cellsOf 28=6:=ZF
def Tryz.NF:bK Tryz.prog 28 0=some (0,25):=ZF
def Tryz.NG:bK Tryz.prog 28 1=some (3,5):=ZF
def Tryz.NH:bK Tryz.prog 28 2=some (4,4):=ZF
def Tryz.NI:bK Tryz.prog 28 3=some (5,26):=ZF
def Tryz.CS:Tryz.prog.cellsOf 34=1:=ZF
def Tryz.CT:Tryz.prog.bytesOf 34=8:=ZF
def Tryz.CU:bQ Tryz.prog 34=some [.lit (.int .u64 0)]:=ZF
def Tryz.NJ:Tryz.prog.cellsOf 35=1:=ZF
def Tryz.NK:Tryz.prog.cellsOf 36=1:=ZF
def Tryz.NL:Tryz.prog.cellsOf 38=4:=ZF
def Tryz.NM:bQ Tryz.prog 38=some [.lit (.int .i64 0),.lit (.slice none 0 0),.lit (.int .u64 0),.lit (.slice none 0 0)]:=ZF
def Tryz.NN:ja Tryz.prog 38=some [(0,1),(1,1),(2,1),(3,1)]:=ZF
def Tryz.NO:bK Tryz.prog 38 0=some (0,3):=ZF
def Tryz.NP:bK Tryz.prog 38 1=some (1,35):=ZF
def Tryz.NQ:bK Tryz.prog 38 2=some (2,34):=ZF
def Tryz.NR:bK Tryz.prog 38 3=some (3,36):=ZF
def Tryz.NS:Tryz.prog.cellsOf 44=1:=ZF
def Tryz.NT:bQ Tryz.prog 44=some [.lit (.int .i64 0)]:=ZF
def Tryz.NU:Tryz.prog.cellsOf 58=2:=ZF
def Tryz.NV:bQ Tryz.prog 58=some [.lit (.int .i64 0),.lit (.int .i64 0)]:=ZF
def Tryz.NW:ja Tryz.prog 58=some [(0,1),(1,1)]:=ZF
def Tryz.NX:bK Tryz.prog 58 0=some (0,3):=ZF
def Tryz.NY:bK Tryz.prog 58 1=some (1,3):=ZF
def Tryz.CV:Tryz.prog.cellsOf 63=2:=ZF
def Tryz.NZ:Tryz.prog.cellsOf 68=1:=ZF
def Tryz.zc:Tryz.prog.cellsOf 72=1:=ZF
def Tryz.zd:Tryz.prog.bytesOf 72=24:=ZF
def Tryz.ze:bQ Tryz.prog 72=some [.lit (.slice none 0 0)]:=ZF
def Tryz.N0:Tryz.prog.cellsOf 74=1:=ZF
def Tryz.CW:Tryz.prog.cellsOf 76=3:=ZF
def Tryz.CX:Tryz.prog.bytesOf 76=56:=ZF
def Tryz.CY:bQ Tryz.prog 76=some [.lit (.int .i64 0),.lit (.slice none 0 0),.lit (.slice none 0 0)]:=ZF
def Tryz.N1:ja Tryz.prog 76=some [(0,1),(1,1),(2,1)]:=ZF
def Tryz.N2:bK Tryz.prog 76 0=some (0,3):=ZF
def Tryz.N3:bK Tryz.prog 76 1=some (1,72):=ZF
def Tryz.N4:bK Tryz.prog 76 2=some (2,74):=ZF
def Tryz.CZ:Tryz.prog.cellsOf 87=2:=ZF
def Tryz.C0:Tryz.prog.bytesOf 87=48:=ZF
def Tryz.C2:bQ Tryz.prog 87=some [.lit (.slice none 0 0),.lit (.slice none 0 0)]:=ZF
def Tryz.N5:ja Tryz.prog 87=some [(0,1),(1,1)]:=ZF
def Tryz.N6:bK Tryz.prog 87 0=some (0,72):=ZF
def Tryz.N7:bK Tryz.prog 87 1=some (1,72):=ZF
def Tryz.N8:Tryz.prog.cellsOf 90=2:=ZF
def Tryz.N9:bQ Tryz.prog 90=some [.lit (.int .i64 0),.lit (.slice none 0 0)]:=ZF
def Tryz.Oa:ja Tryz.prog 90=some [(0,1),(1,1)]:=ZF
def Tryz.Ob:bK Tryz.prog 90 0=some (0,3):=ZF
def Tryz.Oc:bK Tryz.prog 90 1=some (1,35):=ZF
def Tryz.Od:Tryz.prog.cellsOf 93=1:=ZF
def Tryz.C3:Tryz.prog.cellsOf 96=1:=ZF
def Tryz.C4:Tryz.prog.cellsOf 98=2:=ZF
def Tryz.Oe:bK Tryz.prog 98 0=some (0,5):=ZF
def Tryz.Of:bK Tryz.prog 98 1=some (1,96):=ZF
def Tryz.Og:Tryz.prog.cellsOf 101=1:=ZF
def Tryz.Oh:bQ Tryz.prog 101=some [.lit (.pointer none)]:=ZF
def Tryz.Oi:Tryz.prog.cellsOf 122=1:=ZF
def Tryz.Oj:bQ Tryz.prog 122=some [.lit .nilFunc]:=ZF
def Tryz.Ol:Tryz.prog.cellsOf 134=1:=ZF
def Tryz.Om:bQ Tryz.prog 134=some [.lit (.pointer none)]:=ZF
def Tryz.On:Tryz.prog.cellsOf 142=1:=ZF
def Tryz.Oo:Tryz.prog.cellsOf 145=3:=ZF
def Tryz.Oq:bQ Tryz.prog 145=some [.lit (.slice none 0 0),.lit (.int .u16 0),.lit (.slice none 0 0)]:=ZF
def Tryz.Ot:ja Tryz.prog 145=some [(0,1),(1,1),(2,1)]:=ZF
def Tryz.Ou:bK Tryz.prog 145 0=some (0,23):=ZF
def Tryz.Ov:bK Tryz.prog 145 2=some (2,23):=ZF
def Tryz.C5:Tryz.prog.cellsOf 148=3:=ZF
def Tryz.Ow:bQ Tryz.prog 148=some [.lit (.int .u8 0),.lit (.int .u8 0),.lit (.slice none 0 0)]:=ZF
def Tryz.Ox:bK Tryz.prog 148 0=some (0,5):=ZF
def Tryz.Oy:bK Tryz.prog 148 1=some (1,5):=ZF
def Tryz.Oz:bK Tryz.prog 148 2=some (2,23):=ZF
def Tryz.C6:Tryz.prog.cellsOf 153=1:=ZF
def Tryz.OA:bQ Tryz.prog 157=some [.lit (.int .i64 0),.lit (.slice none 0 0),.lit (.int .u64 0),.lit (.slice none 0 0),.lit (.slice none 0 0),.lit (.int .i64 0)]:=ZF
def Tryz.OB:ja Tryz.prog 157=some [(0,4),(4,1),(5,1)]:=ZF
def Tryz.OC:bK Tryz.prog 157 0=some (0,38):=ZF
def Tryz.OD:bK Tryz.prog 157 1=some (4,72):=ZF
def Tryz.OE:bK Tryz.prog 157 2=some (5,3):=ZF
def Tryz.OF:Tryz.prog.cellsOf 173=2:=ZF
def Tryz.OG:bQ Tryz.prog 173=some [.lit (.int .u64 0),.lit (.int .u64 0)]:=ZF
def Tryz.OH:Tryz.prog.cellsOf 180=1:=ZF
def Tryz.OI:Tryz.prog.cellsOf 182=1:=ZF
def Tryz.OJ:bQ Tryz.prog 184=some [.lit (.int .i64 0),.lit (.slice none 0 0),.lit (.int .u64 0),.lit (.slice none 0 0),.lit (.slice none 0 0),.lit (.slice none 0 0),.lit (.slice none 0 0),.lit (.int .i64 0)]:=ZF
def Tryz.OK:ja Tryz.prog 184=some [(0,4),(4,1),(5,1),(6,1),(7,1)]:=ZF
def Tryz.OL:bK Tryz.prog 184 0=some (0,38):=ZF
def Tryz.OM:bK Tryz.prog 184 1=some (4,182):=ZF
def Tryz.ON:bK Tryz.prog 184 2=some (5,72):=ZF
def Tryz.OO:bK Tryz.prog 184 3=some (6,72):=ZF
def Tryz.OP:bK Tryz.prog 184 4=some (7,3):=ZF
def Tryz.C7:Tryz.prog.cellsOf 187=1:=ZF
def Tryz.C8:Tryz.prog.bytesOf 187=8:=ZF
def Tryz.C9:bQ Tryz.prog 187=some [.lit (.pointer none)]:=ZF
def Tryz.OQ:Tryz.prog.cellsOf 188=1:=ZF
def Tryz.OS:bQ Tryz.prog 191=some [.lit (.int .i64 0),.lit (.int .i64 0),.lit (.slice none 0 0),.lit (.slice none 0 0),.lit (.slice none 0 0),.lit (.slice none 0 0),.lit (.slice none 0 0)]:=ZF
def Tryz.OT:ja Tryz.prog 191=some [(0,1),(1,1),(2,1),(3,1),(4,1),(5,1),(6,1)]:=ZF
def Tryz.OU:bK Tryz.prog 191 0=some (0,3):=ZF
def Tryz.OV:bK Tryz.prog 191 1=some (1,3):=ZF
def Tryz.OW:bK Tryz.prog 191 2=some (2,72):=ZF
def Tryz.OX:bK Tryz.prog 191 3=some (3,188):=ZF
def Tryz.OY:bK Tryz.prog 191 4=some (4,72):=ZF
def Tryz.OZ:bK Tryz.prog 191 5=some (5,72):=ZF
def Tryz.O0:Tryz.prog.cellsOf 193=1:=ZF
def Tryz.O1:Tryz.prog.cellsOf 197=1:=ZF
def Tryz.O2:bQ Tryz.prog 197=some [.lit .nilFunc]:=ZF
def Tryz.O3:Tryz.prog.cellsOf 203=1:=ZF
def Tryz.O4:Tryz.prog.cellsOf 214=5:=ZF
def Tryz.O5:bQ Tryz.prog 214=some [.lit (.int .i64 0),.lit (.slice none 0 0),.lit (.slice none 0 0),.lit (.slice none 0 0),.lit (.slice none 0 0)]:=ZF
def Tryz.O6:ja Tryz.prog 214=some [(0,2),(2,1),(3,1),(4,1)]:=ZF
def Tryz.O7:bK Tryz.prog 214 0=some (0,90):=ZF
def Tryz.O8:bK Tryz.prog 214 1=some (2,72):=ZF
def Tryz.O9:bK Tryz.prog 214 2=some (3,93):=ZF
def Tryz.Pa:bK Tryz.prog 214 3=some (4,72):=ZF
theorem Tryz.Pb:bQ Tryz.prog 255=some []:=ZF
attribute [go_sem] Tryz.underlying3 Tryz.fR Tryz.gM Tryz.fD Tryz.underlying4 Tryz.CO Tryz.Nw Tryz.Nx Tryz.underlying5 Tryz.qP Tryz.Ny Tryz.Nz
attribute [go_sem] Tryz.underlying9 Tryz.underlying20 Tryz.underlying22 Tryz.CP
attribute [go_sem] Tryz.underlying23 Tryz.zb Tryz.underlying24
attribute [go_sem] Tryz.underlying25 Tryz.CQ Tryz.NA Tryz.NB Tryz.NC Tryz.underlying26 Tryz.CR
attribute [go_sem] Tryz.underlying27 Tryz.underlying28 Tryz.ND
attribute [go_sem] Tryz.NF Tryz.NG Tryz.NH Tryz.NI Tryz.underlying29
attribute [go_sem] Tryz.underlying30
attribute [go_sem] Tryz.underlying31 Tryz.underlying32
attribute [go_sem] Tryz.underlying33 Tryz.underlying34 Tryz.CS Tryz.CT Tryz.CU
attribute [go_sem] Tryz.underlying35 Tryz.NJ Tryz.underlying36 Tryz.NK Tryz.underlying37
attribute [go_sem] Tryz.underlying38 Tryz.NL Tryz.NM Tryz.NN Tryz.NO Tryz.NP
attribute [go_sem] Tryz.NQ Tryz.NR Tryz.underlying41 Tryz.underlying43 Tryz.underlying44 Tryz.NS
attribute [go_sem] Tryz.NT Tryz.underlying49 Tryz.underlying56 Tryz.underlying57
attribute [go_sem] Tryz.underlying58 Tryz.NU Tryz.NV Tryz.NW Tryz.NX Tryz.NY
attribute [go_sem] Tryz.underlying63 Tryz.CV Tryz.underlying65 Tryz.underlying68 Tryz.NZ
attribute [go_sem] Tryz.underlying72 Tryz.zc Tryz.zd Tryz.ze Tryz.underlying74 Tryz.N0 Tryz.underlying75
attribute [go_sem] Tryz.underlying76 Tryz.CW Tryz.CX Tryz.CY Tryz.N1 Tryz.N2 Tryz.N3 Tryz.N4
attribute [go_sem] Tryz.underlying86 Tryz.underlying87 Tryz.CZ Tryz.C0 Tryz.C2 Tryz.N5
attribute [go_sem] Tryz.N6 Tryz.N7 Tryz.underlying89 Tryz.underlying90 Tryz.N8
attribute [go_sem] Tryz.N9 Tryz.Oa Tryz.Ob Tryz.Oc Tryz.underlying93 Tryz.Od Tryz.underlying96 Tryz.C3
attribute [go_sem] Tryz.underlying97 Tryz.underlying98 Tryz.C4
attribute [go_sem] Tryz.Oe Tryz.Of Tryz.underlying101 Tryz.Og Tryz.Oh Tryz.underlying122 Tryz.Oi Tryz.Oj Tryz.underlying134 Tryz.Ol
attribute [go_sem] Tryz.Om Tryz.underlying140 Tryz.underlying142 Tryz.On Tryz.underlying143
attribute [go_sem] Tryz.underlying144 Tryz.underlying145 Tryz.Oo
attribute [go_sem] Tryz.Oq Tryz.Ot Tryz.Ou Tryz.Ov Tryz.underlying147
attribute [go_sem] Tryz.underlying148 Tryz.C5 Tryz.Ow Tryz.Ox Tryz.Oy Tryz.Oz Tryz.underlying153 Tryz.C6
attribute [go_sem] Tryz.underlying156 Tryz.underlying157
attribute [go_sem] Tryz.OA Tryz.OB Tryz.OC Tryz.OD Tryz.OE Tryz.underlying172 Tryz.underlying173 Tryz.OF
attribute [go_sem] Tryz.OG Tryz.underlying180 Tryz.OH Tryz.underlying182 Tryz.OI Tryz.underlying183
attribute [go_sem] Tryz.underlying184 Tryz.OJ
attribute [go_sem] Tryz.OK Tryz.OL Tryz.OM Tryz.ON Tryz.OO Tryz.OP Tryz.underlying187 Tryz.C7 Tryz.C8 Tryz.C9 Tryz.underlying188 Tryz.OQ
attribute [go_sem] Tryz.underlying190
attribute [go_sem] Tryz.underlying191 Tryz.OS Tryz.OT Tryz.OU Tryz.OV Tryz.OW Tryz.OX Tryz.OY
attribute [go_sem] Tryz.OZ Tryz.underlying193 Tryz.O0 Tryz.underlying197 Tryz.O1 Tryz.O2 Tryz.underlying203 Tryz.O3
attribute [go_sem] Tryz.underlying213 Tryz.underlying214
attribute [go_sem] Tryz.O4 Tryz.O5 Tryz.O6 Tryz.O7 Tryz.O8 Tryz.O9 Tryz.Pa Tryz.underlying228
attribute [go_sem] Tryz.underlying239 Tryz.underlying247 Tryz.underlying254
attribute [go_sem] Tryz.underlying255 Tryz.Pb Tryz.underlying260 Tryz.underlying261
def ba (l:List (List Int)):ZI:=.Q l.length (l.map af)
structure ZJ where
 L:Int
 F:List Int
 nb:List (List Int)
structure ZV where
 vars:List Int
 w:List Int
def ZJ.cells (x:ZJ):List ZI:=[aa x.L,af x.F,ba x.nb]
def ZV.cells (x:ZV):List ZI:=[af x.vars,af x.w]
def aI (l:List ZJ):List ZI:=(l.map ZJ.cells).flatten
def bt (l:List ZV):List ZI:=(l.map ZV.cells).flatten
def eU (l:List ZJ):ZI:=.Q l.length (aI l)
def vA (l:List ZV):ZI:=.Q l.length (bt l)
def fa (g:Int)(l:List ZJ):ZI:=.agg [aa g,eU l]
structure ZK where
 nl:Int
 C:List ZJ
 Y:Nat
 Z:List ZV
def dh (d:ZK):ZI:=.agg [aa d.nl,eU d.C,.lit (.int .u64 (d.Y:Int)),vA d.Z]
def ko {f:α->List ZI}(hz:∀a,(f a).length=z):∀(l:List α) (i j:Nat) (a:α),l[i]?=some a->j<z->((l.map f).flatten)[i*z+j]?=(f a)[j]?:=by
 intro l
 induction l with
 |nil=>intro i j a h;simp at h
 |cons x l ih =>
  intro i j a h hj;simp only[List.map_cons,List.flatten_cons];cases i with
  |zero =>
   simp only[List.getElem?_cons_zero,Option.some.injEq]at h;subst h;rw[Xq,Nat.zero_add,Vv (by rw[hz];exact hj)]
  |succ i =>
   have:(i+1)*z+j=z+(i*z+j):=(by rw[VU];omega);rw[this,VR (by rw[hz];omega),hz];have:z+(i*z+j)-z=i*z+j:=V;rw[this];exact ih i j a (by simpa using h) hj
def mh {f:α->List ZI}(hz:∀a,(f a).length=z)(l:List α):((l.map f).flatten).length=l.length*z:=by
 induction l with
 |nil=>simp
 |cons x l ih=>simp only[List.map_cons,List.flatten_cons,List.length_append,ih,hz,List.length_cons];rw[VU];omega
def ow {f:α->List ZI}(hz:∀a,(f a).length=z):∀(l:List α) (i:Nat) (a:α),l[i]?=some a->(((l.map f).flatten).drop (i*z)).take z=f a:=by
 intro l i a h;apply V2;intro j;by_cases hj:j<z
 ·rw[Vy hj,Wv,ko hz l i j a h hj]
 ·rw[Vm (by simp;omega),Vm (by rw[hz];omega)]
def kq (l:List ZJ):(aI l).length=l.length*3:=mh (f:=ZJ.cells) (fun _=>rfl) l
variable {l:List ZJ}{x:ZJ}
def mS (h:l[i]?=some x):(aI l)[i*3]?=some (aa x.L):=ko (f:=ZJ.cells) (z:=3) (fun _=>rfl) l i 0 x h (V)
def mT (h:l[i]?=some x):(aI l)[i*3+1]?=some (af x.F):=ko (f:=ZJ.cells) (z:=3) (fun _=>rfl) l i 1 x h (V)
def DW (h:l[i]?=some x):(aI l)[i*3+2]?=some (ba x.nb):=ko (f:=ZJ.cells) (z:=3) (fun _=>rfl) l i 2 x h (V)
def ox (h:l[i]?=some x):((aI l).drop (i*3)).take 3=[aa x.L,af x.F,ba x.nb]:=ow (f:=ZJ.cells) (z:=3) (fun _=>rfl) l i x h
def fU (h:l[i]?=some x):¬aI l=[]:=fun e=>by
 have:=mS h;rw[e]at this;simp at this
def zt (l:List ZV):(bt l).length=l.length*2:=mh (f:=ZV.cells) (fun _=>rfl) l
def Qu {l:List ZV}{x:ZV}(h:l[i]?=some x):(bt l)[i*2]?=some (af x.vars):=ko (f:=ZV.cells) (z:=2) (fun _=>rfl) l i 0 x h (V)
def zu {l:List ZV}{x:ZV}(h:l[i]?=some x):((bt l).drop (i*2)).take 2=[af x.vars,af x.w]:=ow (f:=ZV.cells) (z:=2) (fun _=>rfl) l i x h
def zw {l:List ZV}{x:ZV}(h:l[i]?=some x):¬bt l=[]:=fun e=>by
 have:=Qu h;rw[e]at this;simp at this
def aP {l:List α}{x:α}(h:l[i]?=some x):i<l.length:=by
 rcases VA i l.length with h'|h'
 ·exact h'
 ·rw[Vm h']at h;cases h
def ay {l:List α}(h:i<l.length):∃x,l[i]?=some x:=⟨_,Vd h⟩
def mU {l:List α}{i:Int}(h0:0<=i)(h:i<l.length):∃k:Nat,i=k/\∃x,l[k]?=some x:=⟨i.toNat,V,ay V⟩
def aD (l:List Int):Int:=l.foldl (·*·) 1
def DX (l:List Int)(a:Int):l.foldl (·*·) a=a*aD l:=by
 unfold aD
 induction l generalizing a with
 |nil=>simp
 |cons x l ih=>simp only[Wi];rw[ih,ih (1*x),Yl,XP]
def iM:aD []=1:=rfl
def iN (x:Int)(l:List Int):aD (x :: l)=x*aD l:=by
 show List.foldl _ (1*x) l=_;rw[DX,Yl]
def vB (l l':List Int):aD (l++l')=aD l*aD l':=by
 unfold aD;rw[Wl,DX];rfl
def jj (l:List Int)(x:Int):aD (l++[x])=aD l*x:=by rw[vB,iN,iM,ZB]
def bb {l:List α}{k:Nat}{x:α}(h:l[k]?=some x):l.take (k+1)=l.take k++[x]:=by
 rw[List.take_add_one,h];rfl
def fZ {l:List Int}(h:∀x∈l,1<=x):1<=aD l:=by
 induction l with
 |nil=>decide
 |cons x l ih =>
  rw[iN];have h1:=ih fun y hy=>h y (by simp[hy]);have h2:=h x ZD;have:=W4 h2 h1 V V;simpa using this
def pF {b:Int}{l:List Int}(hb:0<=b)(h:∀x∈l,0<=x/\x<=b):0<=aD l/\aD l<=b ^ l.length:=by
 induction l with
 |nil=>exact⟨ZE,by simp[aD]⟩
 |cons x l ih =>
  rw[iN];have h1:=ih fun y hy=>h y (by simp[hy]);have h2:=h x ZD;refine⟨W3 h2.1 h1.1,?_⟩;have:=W4 h2.2 h1.2 h1.1 hb;rw[List.length_cons,Xr,WL (b ^ l.length)];exact this
def aw (l:List ZJ):List Int:=l.map (·.L)
def aL (l places:List Int):List Int:=places.map fun p=>l.getD p.toNat 0
def bZ (places:List Int)(n:Int):Prop:=places.Pairwise (·<·)/\∀p∈places,0<=p/\p<n
end Go.Proofs
set_option maxRecDepth 100000
namespace Go.Proofs
open Go.Hx
def G0:Nat->Option (List ZI):=yJ
def aF:fB G0:=MA
end Go.Proofs
namespace Go.Hx
variable {P:Program} {G:Nat->Option (List ZI)} {Γ Γ':aE} {H H':ZH} {w w':World}
variable {Q:AX->St->Prop}{c:Code}{ρ:Env}{n:Nat}{rd:Option Nat}
def W.env {H:ZH}(h:∀E,E=ρ->W P G n rd c Q ⟨E,H⟩):W P G n rd c Q ⟨ρ,H⟩:=h ρ rfl
def W.en {H:ZH}(p:Env->Prop)(hp:p ρ)(h:∀E,p E->W P G n rd c Q ⟨E,H⟩):W P G n rd c Q ⟨ρ,H⟩:=h ρ hp
def Below.mono {m:Nat}{v:ZI}(h:Below n v)(hm:n<=m):Below m v:=by
 induction h with
 |lit v=>exact .lit v
 |Q h ih=>exact .Q ih
 |ni h ih=>exact .ni ih
 |agg h ih=>exact .agg ih
 |nc h ih=>exact .nc ih
 |X h1 h2 ih1 ih2=>exact .X ih1 ih2
 |U h=>exact .U (V)
 |O h=>exact .O (V)
 |nk h=>exact .nk (V)
theorem Gn (H:ZH)(op:BinOp)(a:List ZI)(y:ZI):lZ H op (.agg a) y=none:=by unfold lZ;split<;>rfl
attribute [go_sem] Gn
def iY {l:List ZI}{i:Nat}{x:ZI}(h:i<l.length):setAt l i [x]=l.set i x:=by
 unfold setAt;rw[YQ,Vf h];simp
def ZM.xi {B H:ZH}(h:ZM B H)(hn:B.A<=n):ZM B (H.cut n):=⟨h.A,fun id hi=>(uT V).trans (h.nf id hi)⟩
section
variable {t:TypeId} {x y:Operand} {k k':IntKind} {a b:Int}
def xj (n:Int):IntKind.u64.wrap n=n % 18446744073709551616:=by simp[IntKind.wrap,IntKind.bits,IntKind.signed]
def rW (hb:0<=b):aV P .shr t x y (.lit (.int k a)) (.lit (.int k' b))=some (.lit (.int k (a.fdiv (2 ^ (min b.toNat k.bits))))):=by
 have h:¬b<0:=V
 simp[aV,ZI.cX,eqGuard,binOp,Op.shift,h,aR,bind,Sem.bind,pure]
def AK (hb:0<=b):aV P .shl t x y (.lit (.int k a)) (.lit (.int k' b))=some (.lit (.int k (k.wrap (a*2 ^ (min b.toNat k.bits))))):=by
 have h:¬b<0:=V
 simp[aV,ZI.cX,eqGuard,binOp,Op.shift,h,aR,bind,Sem.bind,pure]
def qd:aV P .and t x y (.lit (.int k a)) (.lit (.int k b))=some (.lit (.int k (k.wrap ((BitVec.ofInt k.bits a &&& BitVec.ofInt k.bits b).toNat:Nat)))):=by
 simp[aV,ZI.cX,eqGuard,binOp,Op.intBits,aR,bind,Sem.bind,pure]
def Ux:aV P .or t x y (.lit (.int k a)) (.lit (.int k b))=some (.lit (.int k (k.wrap ((BitVec.ofInt k.bits a |||BitVec.ofInt k.bits b).toNat:Nat)))):=by
 simp[aV,ZI.cX,eqGuard,binOp,Op.intBits,aR,bind,Sem.bind,pure]
def Uy:aV P .andNot t x y (.lit (.int k a)) (.lit (.int k b))=some (.lit (.int k (k.wrap ((BitVec.ofInt k.bits a &&& ~~~ BitVec.ofInt k.bits b).toNat:Nat)))):=by
 simp[aV,ZI.cX,eqGuard,binOp,Op.intBits,aR,bind,Sem.bind,pure]
def aM (m:Nat):ZI:=.lit (.int .u64 (m:Int))
def dV (a b:Nat):Nat:=(BitVec.ofNat 64 a &&& ~~~ BitVec.ofNat 64 b).toNat
def rX {m:Nat}(h:m<2 ^ 64):(BitVec.ofInt 64 (m:Int)).toNat=m:=by rw[BitVec.ofInt_natCast,BitVec.toNat_ofNat,Xw h]
def AL (a b:Nat):dV a b<2 ^ 64:=(BitVec.isLt _)
def lP {a b i:Nat}(ha:a<2 ^ 64):(dV a b).testBit i=(a.testBit i && !b.testBit i):=by
 unfold dV;by_cases hi:i<64
 ·rw[<- BitVec.getLsbD,BitVec.getLsbD_and,BitVec.getLsbD_not,BitVec.getLsbD_ofNat,BitVec.getLsbD_ofNat];simp[hi]
 ·have h1:a.testBit i=false:=Wu (Vl ha (Vq ZE V));rw[h1,<- BitVec.getLsbD,BitVec.getLsbD_of_ge _ _ V];rfl
def qe {m:Nat}(h:m<2 ^ 64):IntKind.u64.wrap (m:Int)=m:=VL _ (V)
def nJ {a b:Nat}(ha:a<2 ^ 64)(hb:b<2 ^ 64):aV P .and t x y (.lit (.int .u64 (a:Int))) (.lit (.int .u64 (b:Int)))=some (.lit (.int .u64 ((a &&& b:Nat):Int))):=by
 rw[qd];have e:(BitVec.ofInt (IntKind.bits .u64) (a:Int) &&& BitVec.ofInt (IntKind.bits .u64) (b:Int)).toNat=a &&& b:=by
  show (BitVec.ofInt 64 _ &&& BitVec.ofInt 64 _).toNat=_;rw[BitVec.toNat_and,rX ha,rX hb]
 rw[e,qe (W5 YE ha)]
def j5 {a b:Nat}(ha:a<2 ^ 64)(hb:b<2 ^ 64):aV P .or t x y (.lit (.int .u64 (a:Int))) (.lit (.int .u64 (b:Int)))=some (.lit (.int .u64 ((a |||b:Nat):Int))):=by
 rw[Ux];have e:(BitVec.ofInt (IntKind.bits .u64) (a:Int) |||BitVec.ofInt (IntKind.bits .u64) (b:Int)).toNat=a |||b:=by
  show (BitVec.ofInt 64 _ |||BitVec.ofInt 64 _).toNat=_;rw[BitVec.toNat_or,rX ha,rX hb]
 rw[e,qe (WR ha hb)]
def nK {a b:Nat}:aV P .andNot t x y (.lit (.int .u64 (a:Int))) (.lit (.int .u64 (b:Int)))=some (.lit (.int .u64 ((dV a b:Nat):Int))):=by
 rw[Uy];have e:(BitVec.ofInt (IntKind.bits .u64) (a:Int) &&& ~~~ BitVec.ofInt (IntKind.bits .u64) (b:Int)).toNat=dV a b:=by
  show (BitVec.ofInt 64 _ &&& ~~~ BitVec.ofInt 64 _).toNat=_;rw[BitVec.ofInt_natCast,BitVec.ofInt_natCast];rfl
 rw[e,qe (AL a b)]
def jo {a s:Nat}(ha:a<2 ^ 64):aV P .shr t x y (.lit (.int .u64 (a:Int))) (.lit (.int k' (s:Int)))=some (.lit (.int .u64 ((a >>> s:Nat):Int))):=by
 rw[rW V,Int.toNat_natCast];have e:(a:Int).fdiv (2 ^ (min s (IntKind.bits .u64)))=((a >>> s:Nat):Int):=by
  rw[Ym _ (by exact_mod_cast WH _),XR];show (a:Int) / 2 ^ (min s 64)=_;rcases Nat.le_total s 64 with h|h
  ·rw[XI h];push_cast;rfl
  ·rw[Nat.min_eq_right h];have h1:a / 2 ^ s=0:=W8 (Vl ha (Vq ZE h));rw[h1];exact XD V (V)
 rw[e]
def lQ {s:Nat}(hs:s<64):aV P .shl t x y (.lit (.int .u64 1)) (.lit (.int k' (s:Int)))=some (.lit (.int .u64 ((2 ^ s:Nat):Int))):=by
 rw[AK V,Int.toNat_natCast];have e:min s (IntKind.bits .u64)=s:=XI (by show s<=64;omega);have h2:2 ^ s<2 ^ 64:=Wt ZE hs;rw[e,Yl];have h3:((2:Int) ^ s)=((2 ^ s:Nat):Int):=by push_cast;rfl
 rw[h3,qe h2]
def oU {a s:Nat}(ha:a<2 ^ 64):aV P .and t x y (.lit (.int .u64 ((a >>> s:Nat):Int))) (.lit (.int .u64 1))=some (.lit (.int .u64 (if a.testBit s then 1 else 0))):=by
 have h1:a >>> s<2 ^ 64:=W5 (Yt _ _) ha;have:=nJ (P:=P) (t:=t) (x:=x) (y:=y) (a:=a >>> s) (b:=1) h1 ZE;rw[show (((1:Nat):Int))=1 from rfl]at this;rw[this,Nat.and_one_is_mod];congr 3;rw[Nat.testBit,Nat.and_comm,Nat.and_one_is_mod];rcases Nat.mod_two_eq_zero_or_one (a >>> s) with h|h<;>rw[h]<;>rfl
end
end Go.Hx
namespace Go.Proofs
open Go.Hx
variable {a b c n v:Int}{cs l:List Int}{i j k:Nat}{α:Type}
def cH (H:ZH)(b:ZO)(L:List ZO):(ext H (b :: L)).get H.A=some b:=bN H (b :: L) 0 (ZD)
def AM (l:List Int)(n:Nat):(ints l).take n=ints (l.take n):=by simp[ints]
def AN (l:List Int)(n:Nat):(ints l).drop n=ints (l.drop n):=by simp[ints]
def bd {l:List α}{a:α}(h:l[i]?=some a):¬l=[]:=by rintro rfl;simp at h
def iS {x:Int}(h:i<l.length):setAt (ints l) i [.lit (.int .i64 x)]=ints (l.set i x):=by
 rw[iY (by simpa[ints] using h)];simp[ints,aa]
def kL (w:Bool):sN w (some (.lit undef))=some false:=rfl
def aU (ns:List ZJ)(x:ZJ):List Int:=aL (aw ns) x.F
def bM:List Int->List Int->Int
 |_ :: cs,v :: vs=>v*aD cs+bM cs vs
 |_,_=>0
def bV:List Int->Int->List Int
 | [],_=>[]
 |c :: cs,i=>i / aD cs % c :: bV cs i
def vC (cs:List Int)(i:Int):(bV cs i).length=cs.length:=by
 induction cs with
 |nil=>rfl
 |cons c cs ih=>simp[bV,ih]
def Qv {l:List α}{a:α}(h:l[k]?=some a):l.drop k=a :: l.drop (k+1):=by
 rw[V9 (aP h)];congr 1;have:=Vd (aP h);rw[h]at this;exact(Option.some.inj this).symm
def zx (h:∀c∈cs,1<=c)(i:Int):∀(k:Nat) (c v:Int),cs[k]?=some c->(bV cs i)[k]?=some v->0<=v/\v<c:=by
 induction cs with
 |nil=>intro k c v h;simp at h
 |cons a cs ih =>
  intro k c v h1 h2;cases k with
  |zero =>
   simp only[bV,List.getElem?_cons_zero,Option.some.injEq]at h1 h2;subst h1;subst h2;have:=h a ZD;exact⟨XL _ V,W7 _ V⟩
  |succ k =>
   simp only[bV,List.getElem?_cons_succ]at h1 h2;exact ih (fun c hc=>h c (by simp[hc])) k c v h1 h2
def cM (cs vs:List Int):Prop:=vs.length=cs.length/\∀(k:Nat) (c v:Int),cs[k]?=some c->vs[k]?=some v->0<=v/\v<c
def cM.tail {vs:List Int}(h:cM (c :: cs) (v :: vs)):cM cs vs:=⟨by simpa using h.1,fun k c v h1 h2=>h.2 (k+1) c v (by simpa using h1) (by simpa using h2)⟩
def cM.head {vs:List Int}(h:cM (c :: cs) (v :: vs)):0<=v/\v<c:=h.2 0 c v ZD (ZD)
def cM.pos {vs:List Int}(h:cM cs vs):∀c∈cs,1<=c:=fun c hc=>by
 obtain⟨k,hk⟩:=Vj.1 hc;obtain⟨v,hv⟩:=ay (l:=vs) (i:=k) (by rw[h.1];exact aP hk);have:=h.2 k c v hk hv;omega
def tz (h:∀c∈cs,1<=c)(i:Int):cM cs (bV cs i):=⟨vC cs i,zx h i⟩
def oy:∀ {cs vs:List Int},cM cs vs->0<=bM cs vs/\bM cs vs<aD cs:=by
 intro cs
 induction cs with
 |nil=>intro vs _;cases vs<;>(simp[bM,iM])
 |cons c cs ih =>
  intro vs h;cases vs with
  |nil=>exact absurd h.1 (ZD)
  |cons v vs =>
   have h1:=ih h.tail;have h2:=h.head;have hp:1<=aD cs:=fZ fun x hx=>h.pos x (by simp[hx]);rw[iN];simp only[bM];have h3:0<=v*aD cs:=W3 h2.1 V;have h4:(v+1)*aD cs<=c*aD cs:=WK V V;rw[YO,Yl]at h4;omega
def tA:∀ {cs vs:List Int},cM cs vs->bV cs (bM cs vs)=vs:=by
 have key:∀(cs:List Int) (i a c:Int),(∀x∈cs,1<=x)->bV cs (a*aD cs*c+i)=bV cs i:=by
  intro cs
  induction cs with
  |nil=>intros;rfl
  |cons x cs ih =>
   intro i a c h;have hx:=h x ZD;have hp:1<=aD cs:=fZ fun y hy=>h y (by simp[hy]);simp only[bV,iN];have e1:a*(x*aD cs)*c+i=i+aD cs*(x*(a*c)):=by
    rw[Yr];congr 1;ac_rfl
   have e2:a*(x*aD cs)*c+i=a*aD cs*(x*c)+i:=(by congr 1;ac_rfl);congr 1
   ·rw[e1,Int.add_mul_ediv_left _ _ V,Int.add_mul_emod_self_left]
   ·rw[e2];exact ih i a (x*c) fun y hy=>h y (by simp[hy])
 intro cs
 induction cs with
 |nil=>intro vs h;cases vs with
  |nil=>rfl
  |cons=>exact absurd h.1 (ZD)
 |cons c cs ih =>
  intro vs h;cases vs with
  |nil=>exact absurd h.1 (ZD)
  |cons v vs =>
   have hp:1<=aD cs:=fZ fun x hx=>h.pos x (by simp[hx]);have hr:=oy h.tail;have h2:=h.head;simp only[bM,bV];congr 1
   ·rw[Yr,X2 _ _ V,XD hr.1 hr.2,YJ,X5 h2.1 h2.2]
   ·have:=key cs (bM cs vs) v 1 fun x hx=>h.pos x (by simp[hx]);rw[ZB]at this;rw[this];exact ih h.tail
def Qw (i m n:Int)(hm:0<m)(hn:0<n):i % (m*n)=i % m+m*(i / m % n):=by
 have h1:=YK i (m*n);have h2:=YK i m;have h3:=YK (i / m) n;have h4:i / m / n=i / (m*n):=Int.ediv_ediv_of_nonneg V;rw[h4]at h3;have h5:m*(i / m)=m*(i / m % n)+m*n*(i / (m*n)):=by
  conv=>lhs;rw[<- h3]
  rw[X4,XP]
 omega
def zy (h:∀c∈cs,1<=c):∀ {i:Int},0<=i->i<aD cs->bM cs (bV cs i)=i:=by
 have:∀(cs:List Int) (i:Int),(∀c∈cs,1<=c)->bM cs (bV cs i)=i % aD cs:=by
  intro cs
  induction cs with
  |nil=>intro i _;simp[bM,bV,iM]
  |cons c cs ih =>
   intro i h;have hp:1<=aD cs:=fZ fun x hx=>h x (by simp[hx]);simp only[bM,bV];rw[ih i fun x hx=>h x (by simp[hx]),iN,WL c,Qw _ _ _ (by omega:0<aD cs) (by have:=h c ZD;omega)];rw[WL];omega
 intro i h0 h1;rw[this cs i h,X5 h0 h1]
def iD (cs vs:List Int):Int:=(cs.zip vs).foldl (fun a p=>a*p.1+p.2) 0
def Qx:∀(cs vs:List Int),vs.length=cs.length->∀a,(cs.zip vs).foldl (fun a p=>a*p.1+p.2) a=a*aD cs+bM cs vs:=by
 intro cs
 induction cs with
 |nil=>intro vs _ a;simp[iM,bM]
 |cons c cs ih =>
  intro vs h a;cases vs with
  |nil=>simp at h
  |cons v vs =>
   simp only[WY,Wi];rw[ih vs (by simpa using h),iN];simp only[bM];rw[YO,XP];omega
def vD {vs:List Int}(h:vs.length=cs.length):iD cs vs=bM cs vs:=by
 unfold iD;rw[Qx cs vs h];omega
def vE {vs:List Int}(h1:cs[k]?=some c)(h2:vs[k]?=some v):iD (cs.take (k+1)) (vs.take (k+1))=iD (cs.take k) (vs.take k)*c+v:=by
 unfold iD;rw[bb h1,bb h2,List.zip_append (by have:=aP h1;have:=aP h2;simp;omega),Wl];rfl
def lf:List Int->List Int->Option (List Int)
 |c :: cs,v :: vs=>match lf cs vs with
  |some ws=>some (v :: ws)
  |none=>if v+1<c then some ((v+1) :: cs.map fun _=>0) else none
 |_,_=>none
def DY (h:∀c∈cs,1<=c):bV cs 0=cs.map fun _=>0:=by
 induction cs with
 |nil=>rfl
 |cons c cs ih=>simp[bV,ih fun x hx=>h x (by simp[hx])]
def Qy:∀ {cs vs:List Int},cM cs vs->lf cs vs=if bM cs vs+1<aD cs then some (bV cs (bM cs vs+1)) else none:=by
 intro cs
 induction cs with
 |nil=>intro vs h;cases vs with
  |nil=>simp[lf,bM,iM]
  |cons=>exact absurd h.1 (ZD)
 |cons c cs ih =>
  intro vs h;cases vs with
  |nil=>exact absurd h.1 (ZD)
  |cons v vs =>
   have hpos:∀x∈cs,1<=x:=fun x hx=>h.pos x (by simp[hx]);have hp:1<=aD cs:=fZ hpos;have hr:=oy h.tail;have h2:=h.head;have hv:=tA h.tail;simp only[lf,ih h.tail,bM,iN];by_cases hb:bM cs vs+1<aD cs
   ·rw[Vf hb];have h4:(v+1)*aD cs<=c*aD cs:=WK V V;rw[YO,Yl]at h4;have hlt:v*aD cs+bM cs vs+1<c*aD cs:=V;rw[Vf hlt];simp only[bV];have g1:v=(v*aD cs+bM cs vs+1) / aD cs % c:=by
     rw[Int.add_assoc,Yr,X2 _ _ V,XD V hb,YJ,X5 h2.1 h2.2]
    have g2:bV cs (bM cs vs+1)=bV cs (v*aD cs+bM cs vs+1):=by
     have e:bM cs vs+1=bM cs (bV cs (bM cs vs+1)):=(zy hpos V hb).symm;have f:cM (c :: cs) (v :: bV cs (bM cs vs+1)):=⟨by simp[vC],fun k c' v' h1 h3=>by
      cases k with
      |zero=>simp at h1 h3;subst h1;subst h3;exact h2
      |succ k=>exact zx hpos _ k c' v' (by simpa using h1) (by simpa using h3)⟩
     have:=tA f;simp only[bM,bV,List.cons.injEq]at this;rw[<- e]at this;rw[Int.add_assoc];exact this.2.symm
    rw[<- g1,<- g2]
   ·rw[Ve hb];have hi:bM cs vs+1=aD cs:=V;have e1:v*aD cs+bM cs vs+1=(v+1)*aD cs:=(by rw[YO];omega);rw[e1];by_cases hc:v+1<c
    ·rw[Vf hc];have h4:(v+1)*aD cs<c*aD cs:=Int.mul_lt_mul_of_pos_right hc V;rw[Vf h4];simp only[bV];congr 1;congr 1
     ·rw[Int.mul_ediv_cancel _ V,X5 V hc]
     ·have f:cM (c :: cs) ((v+1) :: bV cs 0):=⟨by simp[vC],fun k c' v' h1 h3=>by
       cases k with
       |zero=>simp at h1 h3;subst h1;subst h3;omega
       |succ k=>exact zx hpos _ k c' v' (by simpa using h1) (by simpa using h3)⟩
      have:=tA f;simp only[bM,bV,List.cons.injEq]at this;rw[zy hpos (Int.le_refl 0) V,XM]at this;rw[this.2,DY hpos]
    ·rw[Ve hc];have h4:c*aD cs<=(v+1)*aD cs:=WK V V;rw[Ve V]
def fh (l:List Int):Prop:=l.length<=12/\∀x∈l,0<=x/\x<=8
def fh.prod (h:fh l):0<=aD l/\aD l<=68719476736:=by
 have h1:=pF (b:=8) V h.2;have h2:(8:Int) ^ l.length<=8 ^ 12:=by
  have:(8:Nat) ^ l.length<=8 ^ 12:=Vq ZE h.1
  exact_mod_cast this
 exact⟨h1.1,Yq h1.2 h2⟩
theorem fh.take (h:fh l)(k:Nat):fh (l.take k):=⟨by have:=h.1;simp;omega,fun x hx=>h.2 x (VD hx)⟩
theorem fh.drop (h:fh l)(k:Nat):fh (l.drop k):=⟨by have:=h.1;simp;omega,fun x hx=>h.2 x (Xi hx)⟩
def Tb (l:List Int)(hl:fh l)(H:ZH)(K:ZN->ZH->Prop)(hK:K (.ret (aa (aD l))) H):ae Tryz.prog G0 75 [af l] H K:=by
 have l12:=hl.1;refine ae.st (n:=18) (rs:=[.tmp 2]) Tryz.func75 ?_;simp only[go_sem];refine W.aT 131064 (by rfl) (fun ρ H'=>H'=H/\∃k:Nat,ρ 4=aa k/\k<=l.length/\ρ 3=aa (aD (l.take k))) (fun ρ H=>l.length-(iv (ρ 4)).toNat) ?_ ?_
 ·simp only[go_sem];exact⟨0,rfl,V,by simp[iM]⟩
 rintro ρ H' ⟨rfl,k,h4,hk,h3⟩;refine W.vs ?_;by_cases hb:(k:Int)<l.length
 ·obtain⟨c,hc⟩:=ay (l:=l) (i:=k) V;have hne:=bd hc;have b1:=(hl.take (k+1)).prod;rw[bb hc,jj]at b1;simp only[go_sem,h4,h3,hb,hc,hne];rw[Vb ((k:Int)+1) V,Vb (_*c) V];exact⟨⟨k+1,ZD,V,by rw[bb hc,jj]⟩,V⟩
 ·simp only[go_sem,h4,h3,hb];rw[Vg V];exact ak.mk ZG hK
def oL (x:List Int)(hx:(x.length:Int)<2 ^ 40)(H:ZH)(K:ZN->ZH->Prop)(hK:K (.ret (af x)) H):ae Tryz.prog G0 88 [af x] H K:=by
 refine ae.X ⟨_,Tryz.func88,rfl,rfl⟩ fun hc=>?_;refine ae.st (n:=8) (rs:=[.tmp 2]) Tryz.func88 ?_;simp only[go_sem];intro b hlen;cases b with
 |true =>
  have hx0:x=[]:=Vn (by
   by_cases h:0<x.length
   ·have:=hlen (by simpa using h);cases this
   ·omega)
  simp only[go_sem];subst hx0;exact ak.KV aF hc .yu hK
 |false =>
  by_cases h0:x.length=0
  ·have hx0:x=[]:=Vn h0;subst hx0;simp only[go_sem,aB];refine⟨⟨rfl,rfl⟩,ak.drop (v':=af []) aF hc ?_ hK⟩;exact .ints ZG (cH ..) rfl fun i hi=>absurd hi (Vs _)
  ·simp only[go_sem,h0,aB];refine⟨⟨rfl,V,V,kV x⟩,ak.drop aF hc ?_ hK⟩;exact .ints ZG (cH ..) rfl fun i hi=>by simp[gY,hi]
instance placesDec (l:List Int)(n:Int):Decidable (bZ l n):=by unfold bZ;infer_instance
theorem bZ.nil :bZ [] n:=⟨.nil,fun _ h=>by cases h⟩
theorem bZ.take (h:bZ l n)(k:Nat):bZ (l.take k) n:=⟨h.1.sublist (List.take_sublist k l),fun p hp=>h.2 p (VD hp)⟩
def bZ.snoc (h:bZ l n)(ha:0<=a/\a<n)(hl:∀b,l.getLast?=some b->b<a):bZ (l++[a]) n:=by
 refine⟨Xh.2 ⟨h.1,ZD,fun x hx y hy=>?_⟩,fun p hp=>?_⟩
 ·obtain rfl:=List.mem_singleton.1 hy;rcases Ya l with rfl|⟨l',b,rfl⟩
  ·cases hx
  ·have hb:=hl b ZD;simp only[Yb]at hx h;rcases VC.1 hx with hx|hx
   ·have:=(Xh.1 h.1).2.2 x hx b ZD;omega
   ·obtain rfl:=List.mem_singleton.1 hx;exact hb
 ·rcases VC.1 hp with hp|hp
  ·exact h.2 p hp
  ·obtain rfl:=List.mem_singleton.1 hp;exact ha
def bZ.lt (h:bZ l n)(ha:l[i]?=some a)(hb:l[j]?=some b)(hij:i<j):a<b:=by
 have:=WN.1 h.1 i j (aP ha) (aP hb) hij;have e1:=Vd (aP ha);have e2:=Vd (aP hb);rw[ha]at e1;rw[hb]at e2;rw[Option.some.inj e1,Option.some.inj e2];exact this
def bZ.len (h:bZ l n):(l.length:Int)<=max n 0:=by
  -- the k-th place is at least k
 have key:∀(k:Nat) (a:Int),l[k]?=some a->(k:Int)<=a:=by
  intro k
  induction k with
  |zero=>intro a ha;have:=h.2 a (Va ha);omega
  |succ k ih =>
   intro a ha;obtain⟨b,hb⟩:=ay (l:=l) (i:=k) (by have:=aP ha;omega);have:=ih b hb;have:=h.lt hb ha V;omega
 rcases Wm l.length with h0|h0
 ·omega
 ·obtain⟨a,ha⟩:=ay (l:=l) (i:=l.length-1) V;have h1:=key _ a ha;have h2:=h.2 a (Va ha);omega
def wN (h:l[j]?=some b):(l.take (j+1)).getLast?=some b:=by rw[bb h];simp
def FK (l:List Int)(n:Int)(hl:(l.length:Int)<2 ^ 62)(H:ZH)(K:ZN->ZH->Prop)(hK:K (.ret (.lit (.bool (decide (bZ l n))))) H):ae Tryz.prog G0 142 [af l,aa n] H K:=by
 have no:¬bZ l n->ak Tryz.prog G0 H K (.lit (.bool false)) H:=fun h=>ak.mk ZG (by rw[V1 h]at hK;exact hK);refine ae.st (n:=24) (rs:=[.tmp 4]) Tryz.func142 ?_;simp only[go_sem];refine W.aT 16776368 (by rfl) (fun ρ H'=>H'=H/\∃(k:Nat) (b:Int),ρ 10=aa k/\k<=l.length/\ρ 5=aa b/\bZ (l.take k) n/\(l.take k).getLast?.getD (-1)=b) (fun ρ H=>l.length-(iv (ρ 10)).toNat) ?_ ?_
 ·simp only[go_sem];exact⟨0,-1,rfl,V,rfl,.nil,rfl⟩
 rintro ρ H' ⟨rfl,k,b,h10,hk,h5,hp,hbl⟩;refine W.vs ?_;by_cases hb:(k:Int)<l.length
 ·obtain⟨a,ha⟩:=ay (l:=l) (i:=k) V;have hne:=bd ha;have ham:=Va ha;by_cases c1:a<=b
  ·simp only[go_sem,h10,h5,hb,ha,hne,c1];refine no fun h=>?_;have h0:=h.2 a ham;rcases Wm k with rfl|hk0
   ·simp at hbl;omega
   ·obtain⟨j,rfl⟩:∃j,k=j+1:=⟨k-1,V⟩
    obtain⟨b',hbj⟩:=ay (l:=l) (i:=j) V;rw[wN hbj]at hbl;have:=h.lt hbj ha V;simp at hbl;omega
  by_cases c2:a >= n
  ·simp only[go_sem,h10,h5,hb,ha,hne,c1,c2];exact no fun h=>by have:=h.2 a ham;omega
  have w1:=Vb ((k:Int)+1) V;simp only[go_sem,h10,h5,hb,ha,hne,c1,c2,w1];have h0:0<=a:=by
   rcases hg:(l.take k).getLast? with _|b'
   ·rw[hg]at hbl;simp at hbl;omega
   ·rw[hg]at hbl;have:=hp.2 b' (Zo hg);simp at hbl;omega
  refine⟨⟨k+1,a,ZD,V,rfl,?_,by rw[wN ha];rfl⟩,V⟩;rw[bb ha];exact hp.snoc ⟨h0,V⟩ fun b' hb'=>by rw[hb']at hbl;simp at hbl;omega
 ·simp only[go_sem,h10,hb];rw[Vg V]at hp;rw[VB hp]at hK;exact ak.mk ZG hK
end Go.Proofs
namespace Go.Hx
variable {g id:Nat}{H H':ZH}
theorem ZM.na (h:ZM H H')(hi:id<H.A):H'.na id g=H.na id g:=by
 unfold ZH.na;rw[h.nf id hi]
theorem ZM.upd (h:ZM H H')(hi:H.A<=id)(b:ZO):ZM H (H'.upd id b):=⟨h.A,fun j hj=>by rw[aj,Ve V];exact h.nf j hj⟩
def Gp {e:TypeId}{c:List ZI}:(H.upd id (.J g e c)).na id g=some (e,c):=ah (by rw[aj,Vf rfl])
def lS {j:Nat}{b:ZO}(h:j≠id):(H.upd id b).na j g=H.na j g:=by unfold ZH.na;rw[aj,Ve h]
attribute [go_sem] Gp
@[go_sem] theorem U9 (a b:Array TypeId)(c:Bool)(n:Nat)(cells:List ZI)(off:Nat):mO (some (.func a b c)) n cells off=cells[off]?:=rfl
end Go.Hx
namespace Go.Proofs
open Go.Hx
variable {c l:List Int}{ps:List Nat}{a i id k m n t:Nat}{H H':ZH}{v:ZI}
def nj {H2:ZH}{e:TypeId}{cs:List ZI}(ov:ZM H H')(h:aK H.A H' e v cs)(hn:H'.A<=H2.A)(hp:∀k,k<H'.A->(∀g n,v≠.U k g 0 n 1)->H2.get k=H'.get k):ZM H H2 :=
 ⟨VO ov.A hn,fun id hi=>by
  rw[hp id (Vl hi ov.A) fun g n he=>?_,ov.nf id hi];rcases h with ⟨h,_⟩|⟨i2,g2,a1,_,h,_⟩
  ·rw[h]at he;cases he
  ·rw[h]at he;have:=ZI.U.inj he;omega⟩
def lT (x:Int)(ov:ZM H H')(h:aK H.A H' 3 v (ints l))(hl:l.length<2 ^ 40):
  ∃v' H2,bU Tryz.prog (ext H' [.J 0 3 [.lit (.int .i64 x)]]) (H'.A+1) 72 72 v (.U H'.A 0 0 1 1)=some (v',H2)/\ZM H H2/\aK H.A H2 3 v' (ints (l++[x]))/\H'.A<=H2.A/\(∀k,k<H'.A->(∀g n,v≠.U k g 0 n 1)->H2.get k=H'.get k):=by
 obtain⟨v',H2,hA,hO,hn2,hp⟩:=jN (P:=Tryz.prog) (H:=H') (t:=72) (x:=aa x) (n:=H'.A+1) Tryz.underlying72 Tryz.fR Tryz.fD rfl (by rw[Tryz.gM,bE];omega) h ov.A rfl;simp only[aa]at hA;exact⟨v',H2,hA,nj ov h hn2 hp,by simpa[ints,aa] using hO,hn2,hp⟩
def Uz (l:List (List Int)):(ba l).one=true:=rfl
def UA (l:List (List Int)):(ba l).cells=[ba l]:=rfl
def UB (l:List ZJ):(eU l).one=true:=rfl
def UC (l:List ZJ):(eU l).cells=[eU l]:=rfl
def UD (l:List ZV):(vA l).one=true:=rfl
theorem UE (l:List ZV):(vA l).cells=[vA l]:=rfl
attribute [go_sem] Uz UA UB UC UD UE
structure Z5 (H H':ZH)(id:Nat)(c:List Int):Prop where
 ov:ZM H H'
 lo:H.A<=id
 hi:id<H'.A
 get:H'.get id=some (.J 0 3 (ints c))
theorem Z5.na (h:Z5 H H' id c):H'.na id 0=some (3,ints c):=ah h.get
def Z5.UF (h:Z5 H H' id c)(L:List ZO):(ext H' L).na id 0=some (3,ints c):=by rw[eF h.hi];exact h.na
def Z5.ne (h:Z5 H H' id c):¬id=H'.A:=by have:=h.hi;omega
def Z5.over {H2:ZH}(h:Z5 H H' id c)(o:ZM H' H2):Z5 H H2 id c:=⟨h.ov.trans o,h.lo,Vl h.hi o.A,(o.nf id h.hi).trans h.get⟩
def Z5.store (h:Z5 H H' id c)(hk:k<c.length)(x:Int):Z5 H (H'.upd id (.J 0 3 (setAt (ints c) k [.lit (.int .i64 x)]))) id (c.set k x) :=
 ⟨⟨h.ov.A,fun i hi=>by rw[aj,Ve (by have:=h.lo;omega)];exact h.ov.nf i hi⟩,h.lo,h.hi,by rw[aj,Vf rfl,iS hk]⟩
def Z5.UG (h:Z5 H H' id c)(L:List ZO)(hk:k<c.length)(x:Int):Z5 H ((ext H' L).upd id (.J 0 3 (setAt (ints c) k [.lit (.int .i64 x)]))) id (c.set k x) :=
 (h.over (.ext H' L)).store hk x
def Z5.new (L:List ZO)(n:Nat):Z5 H (ext H (.J 0 3 (List.replicate n (.lit (.int .i64 0))) :: L)) H.A (List.replicate n 0) :=
 ⟨.ext _ _,ZG,by simp[aX],by rw[cH];simp[ints,aa]⟩
def Z5.fin {K:ZN->ZH->Prop}(hcl:Clo H)(h:Z5 H H' id c)(hn:n=c.length)(hK:K (.ret (af c)) H):ak Tryz.prog G0 H K (.U id 0 0 n 1) H':=by
 subst hn;refine ak.bB aF hcl h.ov ?_ hK;exact .ints h.lo h.get ZD fun i hi=>by simp[gY,hi]
def Gq {m:List Int}{x:Int}(h:l.take k=m.take k)(hk:k<l.length)(hx:m[k]?=some x):(l.set k x).take (k+1)=m.take (k+1):=by
 rw[bb hx,bb (show (l.set k x)[k]?=some x by rw[Vz hk]),Yj (Nat.le_refl k),h]
def bJ {α:Type}{l:List α}{a d:α}(h:l[i]?=some a):l.getD i d=a:=by rw[Vh,h];rfl
def Tc {places:List Int}{p:Int}(h:places[k]?=some p):aL l (places.take (k+1))=aL l (places.take k)++[l.getD p.toNat 0]:=by
 unfold aL;rw[bb h];simp
def cW {ns:List ZJ}{x:ZJ}(h:ns[k]?=some x):(aw ns)[k]?=some x.L:=by unfold aw;rw[List.getElem?_map,h];rfl
def eW (ns:List ZJ):(aw ns).length=ns.length:=by simp[aw]
def Td (g:Int)(ns:List ZJ)(hl:(ns.length:Int)<2 ^ 39)(H:ZH)(K:ZN->ZH->Prop)(hK:K (.ret (af (aw ns))) H):ae Tryz.prog G0 84 [fa g ns] H K:=by
 refine ae.X ⟨_,Tryz.func84,rfl,rfl⟩ fun hcl=>?_;refine ae.st (n:=22) (rs:=[.tmp 2]) Tryz.func84 ?_;simp only[go_sem,fa,eU];obtain⟨H1,hH1⟩:∃H1,H1=ext H [.J 0 90 [.lit (.int .i64 g),.Q ns.length (aI ns)]]:=⟨_,rfl⟩
 have l1:H1.na H.A 0=some (90,[.lit (.int .i64 g),.Q ns.length (aI ns)]):=by rw[hH1];exact ah (cH ..)
 have n1:H1.A=H.A+1:=hH1▸rfl
 have o1:ZM H H1:=hH1▸.ext _ _
 rw[<- hH1];refine W.aT 2097144 (by rfl) (fun ρ H'=>∃k:Nat,ρ 4=aa k/\k<=ns.length/\ρ 1=.O H.A 0 0/\ZM H1 H'/\aK H1.A H' 3 (ρ 3) (ints ((aw ns).take k))) (fun ρ H=>ns.length-(iv (ρ 4)).toNat) ?_ ?_
 ·simp only[go_sem];exact⟨0,rfl,V,.refl _,.nil⟩
 rintro ρ H' ⟨k,h4,hk,h1,ov,h3⟩;refine W.vs ?_;have l2:=(ov.na (g:=0) (by omega:H.A<H1.A)).trans l1;by_cases hb:(k:Int)<ns.length
 ·obtain⟨x,hx⟩:=ay (l:=ns) (i:=k) V;have hne:=fU hx;have e0:=mS hx;obtain⟨v',H2,hA,ov2,hO,hn2,_⟩:=lT x.L ov h3 (by simp[aw];omega);have w1:=Vb ((k:Int)+1) V;simp only[go_sem,h4,h1,l2,hb,hne,e0,w1,hA];refine⟨by have:=ov2.A;omega,⟨k+1,ZD,V,ov2,?_⟩,V⟩;rw[bb (cW hx)];exact hO
 ·simp only[go_sem,h4,h1,l2,hb];rw[Vg (by rw[eW];omega)]at h3;exact ak.bB aF hcl (o1.trans ov) (h3.iB fun i hi=>V) hK
def FL (ns:List ZJ)(hl:(ns.length:Int)<2 ^ 39)(H:ZH)(K:ZN->ZH->Prop)(hK:K (.ret (af (aw ns))) H):ae Tryz.prog G0 145 [eU ns] H K:=by
 refine ae.X ⟨_,Tryz.func145,rfl,rfl⟩ fun hcl=>?_;refine ae.st (n:=23) (rs:=[.tmp 2]) Tryz.func145 ?_;simp only[go_sem,eU];refine⟨V,?_⟩;refine W.aT 4192304 (by rfl) (fun ρ H'=>∃(k:Nat) (c:List Int),ρ 11=aa k/\k<=ns.length/\Z5 H H' H.A c/\c.length=ns.length/\c.take k=(aw ns).take k) (fun ρ H=>ns.length-(iv (ρ 11)).toNat) ?_ ?_
 ·simp only[go_sem];exact⟨0,_,rfl,V,.new [] ns.length,ZD,rfl⟩
 rintro ρ H' ⟨k,c,h11,hk,ho,hcl',hc⟩;refine W.vs ?_;by_cases hb:(k:Int)<ns.length
 ·obtain⟨x,hx⟩:=ay (l:=ns) (i:=k) V;have hne:=fU hx;have e0:=ox hx;have e1:k*3+3<=(aI ns).length:=by rw[kq];omega
  have w1:=Vb ((k:Int)+1) V;have l3:=ho.UF;have nb:=ho.ne;simp only[go_sem,h11,l3,hb,hne,e0,e1,w1];have hkc:k<c.length:=V
  have ho2:=ho.UG [.J 0 76 [.lit (.int .i64 x.L),.Q x.F.length (ints x.F),ba x.nb]] hkc x.L;exact⟨V,by have:=ho2.hi;omega,⟨k+1,_,rfl,V,ho2,by simpa using hcl',Gq hc hkc (cW hx)⟩,V⟩
 ·simp only[go_sem,h11,hb];have e:c=aw ns:=by
   rw[Vg V,Vg (by rw[eW];omega)]at hc;exact hc
  subst e;exact ho.fin hcl (by rw[eW]) hK
def iI (l:List Int)(n:Nat):Prop:=∀q∈l,0<=q/\q<n
def jm (l p:List Int):(aL l p).length=p.length:=by simp[aL]
def jY {p:List Int}{q:Int}(h:p[k]?=some q):(aL l p)[k]?=some (l.getD q.toNat 0):=by unfold aL;rw[List.getElem?_map,h];rfl
def FM (ns:List ZJ)(v:Nat)(x:ZJ)(hx:ns[v]?=some x)(hin:iI x.F ns.length)(hs:fh (aU ns x))(H:ZH)(K:ZN->ZH->Prop)
  (hK:K (.ret (aa (aD (aU ns x)))) H):ae Tryz.prog G0 111 [eU ns,aa v] H K:=by
 have hne:=fU hx;have e1:=mT hx;have hv:(v:Int)<ns.length:=by have:=aP hx;omega
 have l12:=hs.1;have pl:(aU ns x).length=x.F.length:=jm _ _;refine ae.st (n:=27) (rs:=[.tmp 4]) Tryz.func111 ?_;simp only[go_sem,eU,hv,hne,e1];refine W.aT 67092640 (by rfl) (fun ρ H'=>H'=H/\∃k:Nat,ρ 14=aa k/\k<=x.F.length/\ρ 5=aa (aD ((aU ns x).take k))) (fun ρ H=>x.F.length-(iv (ρ 14)).toNat) ?_ ?_
 ·simp only[go_sem];exact⟨0,rfl,V,by simp[iM]⟩
 rintro ρ H' ⟨rfl,k,h14,hk,h5⟩;refine W.vs ?_;by_cases hb:(k:Int)<x.F.length
 ·obtain⟨q,hq⟩:=ay (l:=x.F) (i:=k) V;obtain⟨j,rfl,y,hy⟩:=mU (l:=ns) (hin q (Va hq)).1 (hin q (Va hq)).2;have hne2:=bd hq;have hj:(j:Int)<ns.length:=by have:=aP hy;omega
  have e0:=mS hy;have pk:(aU ns x)[k]?=some y.L:=by
   rw[show (aU ns x)[k]?=_ from jY hq,Int.toNat_natCast,bJ (cW hy)]
  have b1:=(hs.take (k+1)).prod;rw[bb pk,jj]at b1;have w1:=Vb ((k:Int)+1) V;have w2:=Vb (aD ((aU ns x).take k)*y.L) V;simp only[go_sem,h14,h5,hb,hq,hne,hne2,hj,e0,w1,w2];exact⟨⟨k+1,ZD,V,by rw[bb pk,jj]⟩,V⟩
 ·simp only[go_sem,h14,h5,hb];rw[Vg V];exact ak.mk ZG hK
def Te (ns:List ZJ)(v:Nat)(x:ZJ)(vals:List Int)(hx:ns[v]?=some x)(hin:iI x.F ns.length)(hs:fh (aU ns x))(hf:cM (aw ns) vals)(H:ZH)(K:ZN->ZH->Prop)
  (hK:K (.ret (aa (bM (aU ns x) (aL vals x.F)))) H):ae Tryz.prog G0 147 [eU ns,aa v,af vals] H K:=by
 have hne:=fU hx;have e1:=mT hx;have hv:(v:Int)<ns.length:=by have:=aP hx;omega
 have l12:=hs.1;have pl:(aU ns x).length=x.F.length:=jm _ _;have vl:(aL vals x.F).length=x.F.length:=jm _ _;have hfl:vals.length=ns.length:=by rw[hf.1,eW]
 have at_get:∀(k:Nat) (q:Int),x.F[k]?=some q->∃(j:Nat) (y:ZJ) (b:Int),q=j/\ns[j]?=some y/\vals[j]?=some b/\(aU ns x)[k]?=some y.L/\(aL vals x.F)[k]?=some b/\0<=b/\b<y.L:=fun k q hq=>by
  obtain⟨j,rfl,y,hy⟩:=mU (l:=ns) (hin q (Va hq)).1 (hin q (Va hq)).2;obtain⟨b,hb⟩:=ay (l:=vals) (i:=j) (by rw[hfl];exact aP hy);have r:=hf.2 j y.L b (cW hy) hb;exact⟨j,y,b,rfl,hy,hb,by rw[show (aU ns x)[k]?=_ from jY hq,Int.toNat_natCast,bJ (cW hy)],by rw[jY hq,Int.toNat_natCast,bJ hb],r⟩
 have ft:∀k,cM ((aU ns x).take k) ((aL vals x.F).take k):=fun k=>⟨by simp[pl,vl],fun i c b h1 h2=>by
  rw[YR]at h1 h2;split at h1
  ·rename_i hik;rw[Vf hik]at h2;obtain⟨q,hq⟩:=ay (l:=x.F) (i:=i) (by rw[<- pl];exact aP h1);obtain⟨j,y,b',_,_,_,a1,a2,a3⟩:=at_get i q hq;rw[h1]at a1;rw[h2]at a2;cases a1;cases a2;exact a3
  ·cases h1⟩
 have hr:∀k,0<=iD ((aU ns x).take k) ((aL vals x.F).take k)/\iD ((aU ns x).take k) ((aL vals x.F).take k)<68719476737:=fun k=>by
  rw[vD (ft k).1];have a:=oy (ft k);have b:=(hs.take k).prod;omega
 refine ae.st (n:=34) (rs:=[.tmp 6]) Tryz.func147 ?_;simp only[go_sem,eU,hv,hne,e1];refine W.aT 8589869696 (by rfl) (fun ρ H'=>H'=H/\∃k:Nat,ρ 16=aa k/\k<=x.F.length/\ρ 7=aa (iD ((aU ns x).take k) ((aL vals x.F).take k))) (fun ρ H=>x.F.length-(iv (ρ 16)).toNat) ?_ ?_
 ·simp only[go_sem];exact⟨0,rfl,V,rfl⟩
 rintro ρ H' ⟨rfl,k,h16,hk,h7⟩;refine W.vs ?_;by_cases hb:(k:Int)<x.F.length
 ·obtain⟨q,hq⟩:=ay (l:=x.F) (i:=k) V;obtain⟨j,y,b,rfl,hy,hbv,a1,a2,a3⟩:=at_get k q hq;have hne2:=bd hq;have hne3:=bd hbv;have hj:(j:Int)<ns.length:=by have:=aP hy;omega
  have hj2:(j:Int)<vals.length:=V
  have e0:=mS hy;have w1:=Vb ((k:Int)+1) V;have r1:=hr (k+1);rw[vE a1 a2]at r1;have r0:=hr k;have m0:0<=iD ((aU ns x).take k) ((aL vals x.F).take k)*y.L:=W3 r0.1 V;have w2:=Vb (iD ((aU ns x).take k) ((aL vals x.F).take k)*y.L) V;have w3:=Vb (iD ((aU ns x).take k) ((aL vals x.F).take k)*y.L+b) V;simp only[go_sem,h16,hb,hq,hne2];refine W.dr 11 [0,0,0,6,14,30,63,0,0,384,896] Tryz.mixed ?_;simp only[go_sem,h16,h7,hne,hne3,hj,hj2,hbv,e0,w1,w2,w3];exact⟨⟨k+1,ZD,V,by rw[vE a1 a2]⟩,V⟩
 ·simp only[go_sem,h16,h7,hb];rw[Vg V,Vg V,vD (by rw[pl,vl])];exact ak.mk ZG hK
def bG (l:List Int):Nat:=l.foldl (fun s p=>s |||2 ^ p.toNat) 0
def Qz (l:List Int):∀(s i:Nat),(l.foldl (fun s p=>s |||2 ^ p.toNat) s).testBit i=(s.testBit i ||l.any fun p=>p.toNat == i):=by
 induction l with
 |nil=>intro s i;simp
 |cons p l ih =>
  intro s i;simp only[Wi,ih,Vw,Xs,List.any_cons];rw[Bool.or_assoc];congr 1
def iE (h:∀p∈l,0<=p)(i:Nat):(bG l).testBit i=decide ((i:Int)∈l):=by
 unfold bG;rw[Qz];simp only[V3,Bool.false_or];rw[WC];simp only[Yd,beq_iff_eq,decide_eq_true_eq];constructor
 ·rintro⟨p,hp,rfl⟩;have:=h p hp;rw[Xv this];exact hp
 ·intro hi;exact⟨_,hi,ZD⟩
def vF (l:List Int)(p:Int):bG (l++[p])=bG l |||2 ^ p.toNat:=by unfold bG;rw[Wl];rfl
def vG (h:∀i,m.testBit i=true->i<n):m<2 ^ n:=by
 apply Nat.lt_pow_two_of_testBit;intro i hi;rcases Wx (m.testBit i) with e|e
 ·exact absurd (h i e) (V)
 ·exact e
def lg (h:∀p∈l,0<=p/\p<n):bG l<2 ^ n:=vG fun i hi=>by
 rw[iE fun p hp=>(h p hp).1]at hi;have:=(h _ (of_decide_eq_true hi)).2;omega
def mV (h:m<2 ^ n)(hi:m.testBit i=true):i<n:=by
 rcases VA i n with h'|h'
 ·exact h'
 ·rw[Wu (Vl h (Vq ZE h'))]at hi;cases hi
def Sub (s t:Nat):Prop:=∀i,s.testBit i=true->t.testBit i=true
def Sub.refl (s:Nat):Sub s s:=fun _ h=>h
def Sub.trans {s u:Nat}(h:Sub s t)(h':Sub t u):Sub s u:=fun i hi=>h' i (h i hi)
def Sub.or {s u:Nat}(h:Sub s u)(h':Sub t u):Sub (s |||t) u:=fun i hi=>by
 rw[Vw,VM]at hi;exact hi.elim (h i) (h' i)
def Sub.left (s t:Nat):Sub s (s |||t):=fun i hi=>by rw[Vw,hi];rfl
def Sub.right (s t:Nat):Sub t (s |||t):=fun i hi=>by rw[Vw,hi];simp
def Sub.antisymm {s:Nat}(h:Sub s t)(h':Sub t s):s=t:=VP fun i=>by
 rw[WC];exact⟨h i,h' i⟩
def DZ {b:Nat}(ha:a<2 ^ 64):dV a b=0↔Sub a b:=by
 constructor
 ·intro h i hi;have:=lP (a:=a) (b:=b) (i:=i) ha;rw[h,V3,hi]at this;simpa using this.symm
 ·intro h;apply VP;intro i;rw[lP ha,V3];cases hi:a.testBit i
  ·rfl
  ·rw[h i hi];rfl
def mi (ps:List Nat)(s v:Nat):Nat:=if s.testBit v=true then s |||ps.getD v 0 else s
def gf (ps:List Nat)(s:Nat):Nat:=(List.range ps.length).foldl (mi ps) s
def iO (ps:List Nat):Nat->Nat->Nat
 |0,s=>s
 |k+1,s=>gf ps (iO ps k s)
def dQ (ps:List Nat)(s:Nat):Nat:=iO ps ps.length s
def jS (ps:List Nat):Prop:=∀v,v<ps.length->(dQ ps (ps.getD v 0)).testBit v=false
def mj (ps:List Nat)(t:Nat):Prop:=∀v,v<ps.length->t.testBit v=true->Sub (ps.getD v 0) t
def D0 (ps:List Nat)(s v:Nat):Sub s (mi ps s v):=by unfold mi;split;exact .left _ _;exact .refl _
def D1 (ps:List Nat)(l:List Nat):∀s,Sub s (l.foldl (mi ps) s):=by
 induction l with
 |nil=>exact fun s=>.refl s
 |cons v l ih=>exact fun s=>(D0 ps s v).trans (ih _)
def zz (ps:List Nat)(s:Nat):Sub s (gf ps s):=D1 ps _ s
def QA (hc:mj ps t)(l:List Nat)(hl:∀v∈l,v<ps.length):∀s,Sub s t->Sub (l.foldl (mi ps) s) t:=by
 induction l with
 |nil=>exact fun s h=>h
 |cons v l ih =>
  intro s h;refine ih (fun v hv=>hl v (by simp[hv])) _ ?_;unfold mi;split
  ·rename_i hv;exact h.or (hc v (hl v ZD) (h v hv))
  ·exact h
def QB (hc:mj ps t){s:Nat}(h:Sub s t):Sub (gf ps s) t:=QA hc _ (fun v hv=>Vp.1 hv) s h
def pG (hc:mj ps t)(k:Nat){s:Nat}(h:Sub s t):Sub (iO ps k s) t:=by
 induction k with
 |zero=>exact h
 |succ k ih=>exact QB hc ih
def q8 (ps:List Nat)(k s:Nat):Sub s (iO ps k s):=by
 induction k with
 |zero=>exact .refl _
 |succ k ih=>exact ih.trans (zz _ _)
def QC {s:Nat}(h:gf ps s=s):mj ps s:=by
 intro v hv hs;have key:∀(l:List Nat) (s0:Nat),v∈l->s0.testBit v=true->Sub (ps.getD v 0) (l.foldl (mi ps) s0):=by
  intro l
  induction l with
  |nil=>intro s0 h;cases h
  |cons u l ih =>
   intro s0 hm hb;rcases List.mem_cons.1 hm with rfl|hm
   ·refine Sub.trans ?_ (D1 ps l _);unfold mi;rw[Vf hb];exact .right _ _
   ·exact ih _ hm (D0 ps s0 u v hb)
 have:=key (List.range ps.length) s (Vp.2 hv) hs;unfold gf at h
 rwa [h]at this
def dL (n s:Nat):Nat:=(List.range n).countP fun i=>s.testBit i
def zA (n s:Nat):dL n s<=n:=by have:=List.countP_le_length (p:=fun i=>s.testBit i) (l:=List.range n);simpa[dL] using this
def QD {l:List Nat}{p q:Nat->Bool}(h:∀x∈l,p x=true->q x=true)(ha:a∈l)(hp:p a=false)(hq:q a=true):l.countP p<l.countP q:=by
 induction l with
 |nil=>cases ha
 |cons x l ih =>
  have hm:l.countP p<=l.countP q:=Zk fun y hy=>h y (by simp[hy]);rcases List.mem_cons.1 ha with rfl|ha
  ·rw[Xc,Xc,hp,hq];simp;omega
  ·have:=ih (fun y hy=>h y (by simp[hy])) ha;have hx:=h x ZD;rw[Xc,Xc];cases hpx:p x
   ·simp;omega
   ·rw[hx hpx];simp;omega
def rf {s:Nat}(h:Sub s t)(hi:i<n)(h0:s.testBit i=false)(h1:t.testBit i=true):dL n s<dL n t :=
 QD (fun x _ hx=>h x hx) (Vp.2 hi) h0 h1
def zB (hp:∀p∈ps,p<2 ^ ps.length){s:Nat}(hs:s<2 ^ ps.length):mj ps (dQ ps s):=by
 have hb:∀k,iO ps k s<2 ^ ps.length:=fun k=>by
  have ht:mj ps (2 ^ ps.length-1):=fun v _ _ i hi=>by
   rw[WX];have:ps.getD v 0<2 ^ ps.length:=by
    rw[Vh];cases h:ps[v]? with
    |none=>exact Xl _
    |some p=>exact hp p (Va h)
   simpa using mV this hi
  have:=pG ht k (s:=s) fun i hi=>by rw[WX];simpa using mV hs hi
  exact vG fun i hi=>by have:=this i hi;rw[WX]at this;simpa using this
 have key:∀k,gf ps (iO ps k s)=iO ps k s\/k+1<=dL ps.length (iO ps k s):=by
  have grow:∀t,t<2 ^ ps.length->gf ps t<2 ^ ps.length->gf ps t≠t->dL ps.length t<dL ps.length (gf ps t):=fun t ht ht' hne=>by
   have:∃i,(gf ps t).testBit i=true/\t.testBit i=false:=by
    refine VZ fun hno=>hne (Sub.antisymm (fun i hi=>?_) (zz ps t));rcases Wx (t.testBit i) with e|e
    ·exact e
    ·exact absurd ⟨i,hi,e⟩ hno
   obtain⟨i,h1,h0⟩:=this;exact rf (zz ps t) (mV ht' h1) h0 h1
  intro k
  induction k with
  |zero =>
   by_cases h0:s=0
   ·left;subst h0;show gf ps 0=0;unfold gf;have:∀l:List Nat,l.foldl (mi ps) 0=0:=fun l=>by
     induction l with
     |nil=>rfl
     |cons v l ih=>simp only[Wi,mi,V3,Bool.false_eq_true,if_false];exact ih
    exact this _
   ·right;obtain⟨i,hi⟩:=Nat.exists_testBit_of_ne_zero h0;have:dL ps.length 0<dL ps.length s:=rf (fun j hj=>by rw[V3]at hj;cases hj) (mV hs hi) (V3 i) hi;show 0+1<=dL ps.length s;omega
  |succ k ih =>
   rcases ih with ih|ih
   ·left;show gf ps (gf ps (iO ps k s))=gf ps (iO ps k s);rw[ih];exact ih
   ·by_cases hf:gf ps (iO ps k s)=iO ps k s
    ·left;show gf ps (gf ps (iO ps k s))=gf ps (iO ps k s);rw[hf];exact hf
    ·right;have:=grow _ (hb k) (hb (k+1)) hf;show k+1+1<=dL ps.length (gf ps (iO ps k s));omega
 rcases key ps.length with h|h
 ·exact QC h
 ·have:=zA ps.length (iO ps ps.length s);omega
def jT (ps:List Nat)(done v:Nat):Bool:=!done.testBit v && decide (dV (ps.getD v 0) done=0)
def kr (ps:List Nat)(done:Nat):Option Nat:=(List.range ps.length).find? (jT ps done)
def ia (ps:List Nat):Nat->List Nat->Nat->Option (List Nat)
 |0,out,_=>some out
 |k+1,out,done=>match kr ps done with
  |none=>none
  |some v=>ia ps k (out++[v]) (done |||2 ^ v)
def fF (ps:List Nat):Option (List Nat):=ia ps ps.length [] 0
def vI {done v:Nat}(hp:∀p∈ps,p<2 ^ 64)(h:kr ps done=some v):v<ps.length/\done.testBit v=false/\Sub (ps.getD v 0) done:=by
 unfold kr at h;have h1:=XS h;have h2:=Y7 h;unfold jT at h2;simp only[VI,Xo,decide_eq_true_eq]at h2;have hv:=Vp.1 h1;refine⟨hv,h2.1,(DZ ?_).1 h2.2⟩;rw[Vh];cases h:ps[v]? with
 |none=>decide
 |some p=>exact hp p (Va h)
def QE {done:Nat}(hp:∀p∈ps,p<2 ^ 64)(h:kr ps done=none):∀v,v<ps.length->done.testBit v=true\/¬Sub (ps.getD v 0) done:=by
 intro v hv;unfold kr at h;rw[XG]at h;have:=h v (Vp.2 hv);unfold jT at this;rcases Wx (done.testBit v) with e|e
 ·exact .inl e
 ·right;intro hs;refine this ?_;rw[e,(DZ ?_).2 hs]
  ·simp
  ·rw[Vh];cases h:ps[v]? with
   |none=>decide
   |some p=>exact hp p (Va h)
def gO (d v i:Nat):(d |||2 ^ v).testBit i=(d.testBit i ||decide (v=i)):=by rw[Vw,Xs]
def QG (hp:∀p∈ps,p<2 ^ 64):∀(k:Nat) (out:List Nat) (done:Nat) (r:List Nat),ia ps k out done=some r->k+dL ps.length done=ps.length ->
  mj ps done->(∀v,v<ps.length->done.testBit v=true->(dQ ps (ps.getD v 0)).testBit v=false)->jS ps:=by
 intro k
 induction k with
 |zero =>
  intro out done r _ hc hcl hall v hv;refine hall v hv ?_;rcases Wx (done.testBit v) with e|e
  ·exact e
  ·have:dL ps.length done<dL ps.length (2 ^ ps.length-1 |||done):=rf (.right _ _) hv e (by rw[Vw,WX];simp[hv]);have:=zA ps.length (2 ^ ps.length-1 |||done);omega
 |succ k ih =>
  intro out done r h hc hcl hall;unfold ia at h;split at h
  ·cases h
  ·rename_i v hn;obtain⟨h1,h2,h3⟩:=vI hp hn;refine ih _ _ _ h ?_ ?_ ?_
   ·have:dL ps.length (done |||2 ^ v)=dL ps.length done+1:=by
     unfold dL;have:∀l:List Nat,l.Nodup->v∈l->l.countP (fun i=>(done |||2 ^ v).testBit i)=l.countP (fun i=>done.testBit i)+1:=by
      intro l
      induction l with
      |nil=>intro _ h;cases h
      |cons x l ihl =>
       intro hnd hmem;obtain⟨g1,g2⟩:=XK.1 hnd;rw[Xc,Xc];rcases List.mem_cons.1 hmem with rfl|hm2
       ·have:l.countP (fun i=>(done |||2 ^ v).testBit i)=l.countP (fun i=>done.testBit i):=List.countP_congr fun y hy=>by
         have:¬v=y:=(by rintro rfl;exact g1 hy);simp[gO,this]
        rw[this];simp[gO,h2]
       ·have hx:¬v=x:=(by rintro rfl;exact g1 hm2);rw[ihl g2 hm2];simp[gO,hx];omega
     exact this _ Xx (Vp.2 h1)
    omega
   ·intro u hu hb;rw[gO,VM,decide_eq_true_eq]at hb;rcases hb with hb|rfl
    ·exact(hcl u hu hb).trans (.left _ _)
    ·exact h3.trans (.left _ _)
   ·intro u hu hb;rw[gO,VM,decide_eq_true_eq]at hb;rcases hb with hb|rfl
    ·exact hall u hu hb
    ·have:=pG hcl ps.length h3;rcases Wx ((dQ ps (ps.getD v 0)).testBit v) with e|e
     ·have:=this v e;rw[h2]at this;cases this
     ·exact e
def QH (hp:∀p∈ps,p<2 ^ ps.length)(h64:ps.length<=64)(ha:jS ps):∀(k:Nat) (out:List Nat) (done:Nat),k+dL ps.length done=ps.length->∃r,ia ps k out done=some r:=by
 have hp64:∀p∈ps,p<2 ^ 64:=fun p h=>Vl (hp p h) (Vq ZE h64);have hpd:∀v,ps.getD v 0<2 ^ ps.length:=fun v=>by
  rw[Vh];cases h:ps[v]? with
  |none=>exact Xl _
  |some p=>exact hp p (Va h)
 intro k
 induction k with
 |zero=>exact fun out done _=>⟨out,rfl⟩
 |succ k ih =>
  intro out done hc;unfold ia;cases hn:kr ps done with
  |none =>
   exfalso;have hno:=QE hp64 hn
      -- every node that is left has a parent that is left
   have step:∀m v,v<ps.length->done.testBit v=false->dL ps.length (dQ ps (ps.getD v 0))<=m->False:=by
    intro m
    induction m with
    |zero =>
     intro v hv hd hm;obtain⟨i,h1,h2⟩:∃i,(ps.getD v 0).testBit i=true/\done.testBit i=false:=by
      rcases hno v hv with h|h
      ·rw[hd]at h;cases h
      ·refine VZ fun hc=>h fun i hi=>?_;rcases Wx (done.testBit i) with e|e
       ·exact e
       ·exact absurd ⟨i,hi,e⟩ hc
     have:dL ps.length 0<dL ps.length (dQ ps (ps.getD v 0)):=rf (fun j hj=>by rw[V3]at hj;cases hj) (mV (hpd v) h1) (V3 i) (q8 ps _ _ i h1);omega
    |succ m ihm =>
     intro v hv hd hm;obtain⟨u,h1,h2⟩:∃i,(ps.getD v 0).testBit i=true/\done.testBit i=false:=by
      rcases hno v hv with h|h
      ·rw[hd]at h;cases h
      ·refine VZ fun hc=>h fun i hi=>?_;rcases Wx (done.testBit i) with e|e
       ·exact e
       ·exact absurd ⟨i,hi,e⟩ hc
     have hu:=mV (hpd v) h1;have hcl:=zB hp (hpd v);have hin:(dQ ps (ps.getD v 0)).testBit u=true:=q8 ps _ _ u h1;have hsub:Sub (dQ ps (ps.getD u 0)) (dQ ps (ps.getD v 0)):=pG hcl _ (hcl u hu hin);have:=rf hsub hu (ha u hu) hin;exact ihm u hu h2 (V)
   obtain⟨v,hv,hd⟩:∃v,v<ps.length/\done.testBit v=false:=by
    refine VZ fun hno=>?_;have:dL ps.length done=ps.length:=by
     unfold dL
     conv=>rhs;rw[<- WT (n:=ps.length)]
     rw[Zl];intro x hx;rcases Wx (done.testBit x) with e|e
     ·exact e
     ·exact absurd ⟨x,Vp.1 hx,e⟩ hno
    omega
   exact step _ v hv hd (Nat.le_refl _)
  |some v =>
   obtain⟨h1,h2,h3⟩:=vI hp64 hn;refine ih _ _ ?_;have:dL ps.length (done |||2 ^ v)=dL ps.length done+1:=by
    unfold dL;have:∀l:List Nat,l.Nodup->v∈l->l.countP (fun i=>(done |||2 ^ v).testBit i)=l.countP (fun i=>done.testBit i)+1:=by
     intro l
     induction l with
     |nil=>intro _ h;cases h
     |cons x l ihl =>
      intro hnd hmem;obtain⟨g1,g2⟩:=XK.1 hnd;rw[Xc,Xc];rcases List.mem_cons.1 hmem with rfl|hm2
      ·have:l.countP (fun i=>(done |||2 ^ v).testBit i)=l.countP (fun i=>done.testBit i):=List.countP_congr fun y hy=>by
        have:¬v=y:=(by rintro rfl;exact g1 hy);simp[gO,this]
       rw[this];simp[gO,h2]
      ·have hx:¬v=x:=(by rintro rfl;exact g1 hm2);rw[ihl g2 hm2];simp[gO,hx];omega
    exact this _ Xx (Vp.2 h1)
   omega
def D2 (n:Nat):dL n 0=0:=by
 unfold dL;rw[List.countP_eq_zero];intro x _;simp
def vJ (hp:∀p∈ps,p<2 ^ ps.length)(h64:ps.length<=64):(fF ps).isSome=true↔jS ps:=by
 have hp64:∀p∈ps,p<2 ^ 64:=fun p h=>Vl (hp p h) (Vq ZE h64);constructor
 ·intro h;obtain⟨r,hr⟩:=VJ.1 h;exact QG hp64 _ _ _ r hr (by rw[D2];omega) (fun v _ h=>by rw[V3]at h;cases h) (fun v _ h=>by rw[V3]at h;cases h)
 ·intro h;obtain⟨r,hr⟩:=QH hp h64 h ps.length [] 0 (by rw[D2];omega);unfold fF;rw[hr];rfl
end Go.Proofs
namespace Go.Hx
def jn (l:List Nat):ZI:=.Q l.length (l.map aM)
attribute [go_sem] aM jn
def aK.Tf {S:Nat->Prop}{lo nx:Nat}{H:ZH}{e:TypeId}{v:ZI}{l:List Nat}(h:aK lo H e v (l.map aM))(hS:∀i,lo<=i->S i):Fz S H nx v (jn l):=by
 have:=h.fz (S:=S) (nx:=nx) (cs':=l.map aM) hS rfl fun i hi _=>by simp only[Vt];exact .lit _
 rw[Vx]at this;exact this
end Go.Hx
namespace Go.Proofs
open Go.Hx
variable {g:Int}{ns:List ZJ}{x:ZJ}
def FN {H H':ZH}{v:ZI}{l:List Nat}(x:Nat)(ov:ZM H H')(h:aK H.A H' 34 v (l.map aM))(hl:l.length<2 ^ 40):
  ∃v' H2,bU Tryz.prog (ext H' [.J 0 34 [.lit (.int .u64 (x:Int))]]) (H'.A+1) 93 93 v (.U H'.A 0 0 1 1)=some (v',H2)/\ZM H H2/\aK H.A H2 34 v' ((l++[x]).map aM)/\H'.A<=H2.A/\(∀k,k<H'.A->(∀g n,v≠.U k g 0 n 1)->H2.get k=H'.get k):=by
 obtain⟨v',H2,hA,hO,hn2,hp⟩:=jN (P:=Tryz.prog) (H:=H') (t:=93) (x:=aM x) (n:=H'.A+1) Tryz.underlying93 Tryz.CS Tryz.CU rfl (by rw[Tryz.CT,Vx];omega) h ov.A rfl;simp only[aM]at hA;exact⟨v',H2,hA,nj ov h hn2 hp,by rw[V5];exact hO,hn2,hp⟩
def Tg (m v:Nat)(hm:m<2 ^ 64)(hv:v<2 ^ 62)(H:ZH)(K:ZN->ZH->Prop)(hK:K (.ret (.lit (.bool (m.testBit v)))) H):ae Tryz.prog G0 122 [aM m,aa v] H K:=by
 refine ae.st (n:=11) (rs:=[.tmp 4]) Tryz.func122 ?_;have w1:=VL (v:Int) V;have s1:=fun t x y=>jo (P:=Tryz.prog) (t:=t) (x:=x) (y:=y) (k':=.u64) (s:=v) hm;have s2:=fun t x y=>oU (P:=Tryz.prog) (t:=t) (x:=x) (y:=y) (s:=v) hm;cases hb:m.testBit v
 ·rw[hb]at hK;simp only[go_sem,w1,s1,s2,hb];exact ak.mk ZG hK
 ·rw[hb]at hK;simp only[go_sem,w1,s1,s2,hb];exact ak.mk ZG hK
def aC (ns:List ZJ):List Nat:=ns.map fun x=>bG x.F
def kH {k:Nat}(h:ns[k]?=some x):(aC ns)[k]?=some (bG x.F):=by unfold aC;rw[List.getElem?_map,h];rfl
def Th (g:Int)(ns:List ZJ)(hl:(ns.length:Int)<2 ^ 39)(hp:∀x∈ns,(x.F.length:Int)<2 ^ 39/\∀q∈x.F,0<=q/\q<64)(H:ZH)(K:ZN->ZH->Prop)
  (hK:K (.ret (jn (aC ns))) H):ae Tryz.prog G0 36 [fa g ns] H K:=by
 refine ae.X ⟨_,Tryz.func36,rfl,rfl⟩ fun hcl=>?_;refine ae.st (n:=43) (rs:=[.tmp 2]) Tryz.func36 ?_;simp only[go_sem,fa,eU];obtain⟨H1,hH1⟩:∃H1,H1=ext H [.J 0 90 [.lit (.int .i64 g),.Q ns.length (aI ns)]]:=⟨_,rfl⟩
 have l1:H1.na H.A 0=some (90,[.lit (.int .i64 g),.Q ns.length (aI ns)]):=by rw[hH1];exact ah (cH ..)
 have n1:H1.A=H.A+1:=hH1▸rfl
 have o1:ZM H H1:=hH1▸.ext _ _
 rw[<- hH1];refine W.aT 4398046511096 (by rfl) (fun ρ H'=>∃k:Nat,ρ 4=aa k/\k<=ns.length/\ρ 1=.O H.A 0 0/\ZM H1 H'/\aK H1.A H' 34 (ρ 3) (((aC ns).take k).map aM)) (fun ρ H=>ns.length-(iv (ρ 4)).toNat) ?_ ?_
 ·simp only[go_sem];exact⟨0,rfl,V,.refl _,.nil⟩
 rintro ρ H' ⟨k,h4,hk,h1,ov,h3⟩;refine W.vs ?_;have l2:=(ov.na (g:=0) (by omega:H.A<H1.A)).trans l1;by_cases hb:(k:Int)<ns.length
 ·obtain⟨x,hx⟩:=ay (l:=ns) (i:=k) V;have hne:=fU hx;have e1:=mT hx;obtain⟨xl,xr⟩:=hp x (Va hx);simp only[go_sem,h4,h1,l2,hb];refine W.aT 274877890656 (by rfl) (fun ρ' H2=>H2=H'/\∃j:Nat,ρ' 6=aa j/\j<=x.F.length/\ρ' 5=aM (bG (x.F.take j))) (fun ρ' H=>x.F.length-(iv (ρ' 6)).toNat) ?_ ?_
  ·simp only[go_sem];exact⟨0,rfl,V,rfl⟩
  rintro ρ' H2 ⟨rfl,j,h6,hj,h5⟩;refine W.vs ?_;by_cases hb2:(j:Int)<x.F.length
  ·obtain⟨q,hq⟩:=ay (l:=x.F) (i:=j) V;obtain⟨q0,q1⟩:=xr q (Va hq);obtain⟨u,rfl⟩:=Vk q0;have hne2:=bd hq;have w1:=VL (u:Int) V;have w2:=Vb ((j:Int)+1) V;have b1:bG (x.F.take j)<2 ^ 64:=lg fun p hp=>by have:=xr p (VD hp);omega
   have s1:=fun t x y=>lQ (P:=Tryz.prog) (t:=t) (x:=x) (y:=y) (k':=.u64) (s:=u) V;have s2:=fun t x y=>j5 (P:=Tryz.prog) (t:=t) (x:=x) (y:=y) (b:=2 ^ u) b1 (Wt ZE V);simp only[go_sem,h4,h1,l2,hb,hne,e1,h6,h5,hb2,hq,hne2,w1,w2,s1,s2];exact⟨⟨j+1,ZD,V,by rw[bb hq,vF];rfl⟩,V⟩
  ·obtain⟨v',H3,hA,ov2,hO,hn2,_⟩:=FN (bG x.F) ov h3 (by simp[aC];omega);have w1:=Vb ((k:Int)+1) V;rw[Vg V]at h5;simp only[go_sem,h4,h1,l2,hb,hne,e1,h6,h5,hb2,w1,hA];refine⟨by have:=ov2.A;omega,⟨k+1,ZD,V,ov2,?_⟩,V⟩;rw[bb (kH hx)];exact hO
 ·simp only[go_sem,h4,h1,l2,hb];rw[Vg (by simp[aC];omega)]at h3;exact ak.bB aF hcl (o1.trans ov) (h3.Tf fun i hi=>V) hK
def kI (g L:Int)(r:List Int):Prop:=(r.length:Int)=L/\(∀w∈r,0<=w/\w<=g)/\r.sum=g
def gG (g:Int)(ns:List ZJ)(x:ZJ):Prop:=(x.nb.length:Int)=aD (aU ns x)/\∀r∈x.nb,kI g x.L r
structure Z1 (g:Int)(ns:List ZJ):Prop where
 g1:1<=g/\g<=60
 n1:1<=ns.length/\ns.length<=8
 node:∀x∈ns,(1<=x.L/\x.L<=4)/\bZ x.F ns.length
 size:aD (aw ns)<=1024
 nL:jS (aC ns)
 nb:∀x∈ns,gG g ns x
noncomputable def pX (g:Int)(ns:List ZJ):Bool:=@decide (Z1 g ns) (Classical.propDecidable _)
def FO (h:Z1 g ns):pX g ns=true:=by unfold pX;exact @decide_eq_true _ (Classical.propDecidable _) h
def FQ (h:¬Z1 g ns):pX g ns=false:=by unfold pX;exact @decide_eq_false _ (Classical.propDecidable _) h
def wO (ns:List ZJ):Prop:=(ns.length:Int)<2 ^ 38/\∀x∈ns,(x.F.length:Int)<2 ^ 38/\(x.nb.length:Int)<2 ^ 38/\∀r∈x.nb,(r.length:Int)<2 ^ 38
def rP {l:List Int}(h:l.length<=12)(h2:∀x∈l,1<=x/\x<=4):fh l:=⟨h,fun x hx=>by have:=h2 x hx;omega⟩
def rQ (hin:iI x.F ns.length)(hc:∀y∈ns,1<=y.L/\y.L<=4):∀c∈aU ns x,1<=c/\c<=4:=fun c h=>by
 unfold aU aL at h;obtain⟨q,hq,rfl⟩:=Vu.1 h;obtain⟨j,rfl,y,hy⟩:=mU (l:=ns) (hin q hq).1 (hin q hq).2;rw[Int.toNat_natCast,bJ (cW hy)];exact hc y (Va hy)
def oM (h8:ns.length<=8)(hp:bZ x.F ns.length)(hc:∀y∈ns,1<=y.L/\y.L<=4):fh (aU ns x):=by
 refine rP ?_ (rQ (fun q hq=>by have:=hp.2 q hq;omega) hc);rw[show (aU ns x).length=_ from jm _ _];have:=hp.len;omega
def rR {n:Nat}(h:∀x∈ns,∀q∈x.F,0<=q/\q<(n:Int)):∀p∈aC ns,p<2 ^ n:=fun p hp=>by
 obtain⟨x,hx,rfl⟩:=Vu.1 hp;exact lg fun q hq=>by have:=h x hx q hq;omega
def At (l:List Int)(x:Int):(l++[x]).sum=l.sum+x:=ZD
end Go.Proofs
namespace Go.Hx
variable {P:Program} {G:Nat->Option (List ZI)} {n:Nat} {rd:Option Nat} {Q:AX->St->Prop}
def tZ (P:Program)(G:Nat->Option (List ZI))(f:FuncId)(first cap:List ZI)(xs:List (List ZI))(S:ZH->Prop):Prop :=
 ∀(idy:Nat) (J:Nat->ZH->Prop) (Stop:ZH->Prop) (H:ZH) (K:ZN->ZH->Prop),
  (∀k H1,J k H1->S H1)->J 0 H ->
  (∀k x H1 K1,xs[k]?=some x->J k H1->H.A<=H1.A->(∀H',J (k+1) H'->H1.A<=H'.A->K1 (.ret (.lit (.bool true))) H')->(∀H',Stop H'->H1.A<=H'.A->K1 (.ret (.lit (.bool false))) H')->ao P G (.nk idy) x H1 K1) ->
  (∀H',J xs.length H'->H.A<=H'.A->K (.ret (.nc [])) H') ->
  (∀H',Stop H'->H.A<=H'.A->K (.ret (.nc [])) H') ->
  ae P G f (first++[.nk idy]++cap) H K
def im (idy:Nat)(B:ZO)(lo:Nat)(J:ZH->Prop)(Stop:AX->ZH->Prop):AX->St->Prop
 |.normal,s=>s.H.get idy=some B/\lo<=s.H.A/\J s.H
 |.ret,s=>s.H.get idy=some B/\lo<=s.H.A/\Stop .ret s.H
 |.exit i,s=>s.H.get idy=some B/\lo<=s.H.A/\Stop (.exit i) s.H
 |_,_=>False
def mC (P:Program)(G:Nat->Option (List ZI))(n idy:Nat)(B Bb:ZO)(lo:Nat)(body:Code)(J:ZH->Prop)(Stop:AX->ZH->Prop):AX->St->Prop
 |.normal,s=>s.H.get idy=some B/\W P G n (some idy) body (im idy Bb lo J Stop) ⟨s.ρ,s.H.upd idy Bb⟩
 |_,_=>False
def W.rY {g:Operand}{ps:Array Tmp}{asg body:Code}{ρ:Env}{H:ZH}{f:FuncId}{first cap:List ZI}{xs:List (List ZI)}{S:ZH->Prop}(hg:au G ρ g=.X f first cap)
  (hit:tZ P G f first cap xs S) (J:Nat->ZH->Prop) (Stop:AX->ZH->Prop) (hS:∀k H1,J k H1->S H1)
  (hJu:∀k H1 b,J k H1->J k (H1.upd H.A b)) (hSu:∀c H1 b,Stop c H1->Stop c (H1.upd H.A b))
  (hJ0:∀b,J 0 (ext H [b])) (hps:ps.toList.all (fun t=>decide (t<n))=true) (hxl:∀x∈xs,x.length=ps.size)
  (hrd:∀k H1,J k H1->fK H1 rd) (hrd2:∀c H1,Stop c H1->fK H1 rd)
  (hround:∀k x H1 B Bb,xs[k]?=some x->J k H1->H.A+1<=H1.A->H1.get H.A=some B->(∃st pd n' en ps' as' bo,Bb=ZO.loop st pd n' en ps' as' bo) ->
   W P G n (some H.A) asg (mC P G n H.A B Bb H1.A body (J (k+1)) Stop) ⟨jM (dw ρ n) (ps.toList.zip x),H1⟩)
  (hend:∀H',J xs.length H'->H.A+1<=H'.A->Q .normal ⟨ρ,H'⟩)
  (hret:∀H',Stop .ret H'->H.A+1<=H'.A->Q .ret ⟨ρ,H'⟩) (hexit:∀i H',Stop (.exit i) H'->H.A+1<=H'.A->Q (.exit i) ⟨ρ,H'⟩):
  W P G n rd (.rangeFunc g ps asg body) Q ⟨ρ,H⟩:=by
 refine W.rangeFunc (s:=⟨ρ,H⟩) hg ⟨_,uH _ _,?_⟩;obtain⟨B,hB⟩:∃B,B=ZO.loop .ready none n ρ ps asg body:=⟨_,rfl⟩
 obtain⟨Bb,hBb⟩:∃B,B=ZO.loop .busy none n ρ ps asg body:=⟨_,rfl⟩
 have nx:(ext H [B]).A=H.A+1:=rfl;show ae P G f (first++[.nk H.A]++cap) (ext H [ZO.loop .ready none n ρ ps asg body]) (yz rd Q ρ H.A);rw[<- hB];refine hit H.A (fun k H1=>H1.get H.A=some B/\J k H1) (fun H1=>∃c pend,H1.get H.A=some (.loop .done (some pend) n ρ ps asg body)/\Stop c H1/\((c=.ret/\pend=.ret)\/∃i,c=.exit i/\pend=.exit i)) _ _
  (fun k H1 h=>hS k H1 h.2) ⟨eh,hJ0 B⟩ (fun k x H1 K1 hx hj hn hgo hst=>?_) (fun H' hj hn=>?_) (fun H' hj hn=>?_)
 ·have hxm:=hxl x (Va hx);refine ao.nk (hj.1.trans (congrArg some hB)) hxm hps ?_;refine(hround k x H1 B Bb hx hj.2 hn hj.1 ⟨_,_,_,_,_,_,_,hBb⟩).mono fun e s1 h1=>?_;cases e with
  |normal =>
   obtain⟨a1,a2⟩:=h1;refine⟨Bb,by rw[a1,hB,hBb];rfl,?_⟩;refine a2.mono fun e2 s2 h2=>?_;cases e2 with
   |normal =>
    obtain⟨b1,b2,b3⟩:=h2;exact⟨B,by rw[b1,hB,hBb];rfl,hgo _ ⟨by rw[aj,Vf rfl],hJu _ _ _ b3⟩ b2⟩
   |ret =>
    obtain⟨b1,b2,b3⟩:=h2;exact⟨.loop .done (some .ret) n ρ ps asg body,by rw[b1,hBb];rfl,hst _ ⟨.ret,.ret,by rw[aj,Vf rfl],hSu _ _ _ b3,.inl ⟨rfl,rfl⟩⟩ b2⟩
   |exit i =>
    obtain⟨b1,b2,b3⟩:=h2;exact⟨.loop .done (some (.exit i)) n ρ ps asg body,by rw[b1,hBb];rfl,hst _ ⟨.exit i,.exit i,by rw[aj,Vf rfl],hSu _ _ _ b3,.inr ⟨i,rfl,rfl⟩⟩ b2⟩
   |_=>exact h2.elim
  |_=>exact h1.elim
 ·refine⟨hrd _ _ hj.2,(none,.loop .exhausted none n ρ ps asg body),by rw[hj.1,hB];rfl,?_⟩;exact hend _ (hJu _ _ _ hj.2) hn
 ·obtain⟨c,pend,h1,h2,h3⟩:=hj;refine⟨hrd2 _ _ h2,(some pend,.loop .exhausted (some pend) n ρ ps asg body),by rw[h1];rfl,?_⟩;rcases h3 with ⟨rfl,rfl⟩|⟨i,rfl,rfl⟩
  ·exact hret _ (hSu _ _ _ h2) hn
  ·exact hexit i _ (hSu _ _ _ h2) hn
end Go.Hx
namespace Go.Proofs
open Go.Hx
variable {g:Int}{nb:List (List Int)}{l:List Int}{ns:List ZJ}{k:Nat}{x:ZJ}
def tR (x:ZJ):ZI:=.agg [.lit (.int .i64 x.L),.Q x.F.length (ints x.F),ba x.nb]
def oN (nb:List (List Int)):List (List ZI):=nb.zipIdx.map fun p=>[aa p.2,af p.1]
def FR {x:List ZI}(h:(oN nb)[k]?=some x):∃r,nb[k]?=some r/\x=[aa k,af r]:=by
 unfold oN at h;rw[List.getElem?_map,Xk]at h;cases hr:nb[k]? with
 |none=>rw[hr]at h;simp at h
 |some r=>rw[hr]at h;simp at h;exact⟨r,rfl,h.symm⟩
def Ti {r:List Int}(h:nb[k]?=some r):(oN nb)[k]?=some [aa k,af r]:=by
 unfold oN;rw[List.getElem?_map,Xk,h];simp
def FS (nb:List (List Int)):(oN nb).length=nb.length:=by simp[oN]
def Tj (x:ZJ)(hl:(x.nb.length:Int)<2 ^ 40)(b:Nat):tZ Tryz.prog G0 191 [] [.O b 0 0] (oN x.nb) (fun H=>H.get b=some (.J 0 76 [.lit (.int .i64 x.L),.Q x.F.length (ints x.F),ba x.nb])):=by
 intro idy J Stop H K hS hJ0 hY hK hSt;have l0:=ah (hS 0 H hJ0);show ae _ _ _ ([.nk idy]++[.O b 0 0]) _ _;refine ae.st (n:=19) (rs:=[]) Tryz.func191 ?_;simp only[go_sem,l0,ba];refine W.aT 524056 (by rfl) (fun ρ H'=>∃k:Nat,ρ 8=aa k/\k<=x.nb.length/\J k H'/\H.A<=H'.A) (fun ρ H=>x.nb.length-(iv (ρ 8)).toNat) ?_ ?_
 ·simp only[go_sem];exact⟨0,rfl,V,hJ0⟩
 rintro ρ H' ⟨k,h8,hk,hj,hn⟩;refine W.vs ?_;by_cases hb:(k:Int)<x.nb.length
 ·obtain⟨r,hr⟩:=ay (l:=x.nb) (i:=k) V;have hne:=bd hr;have w1:=Vb ((k:Int)+1) V;simp only[go_sem,h8,hb,hr,hne];refine hY k [aa k,af r] H' _ (Ti hr) hj hn (fun H2 hj2 hn2=>⟨trivial,?_⟩) (fun H2 hs2 hn2=>⟨trivial,?_⟩)
  ·simp only[go_sem,h8,w1];exact⟨V,⟨k+1,ZD,V,hj2,V⟩,V⟩
  ·simp only[go_sem];exact ak.mk V (hSt H2 hs2 V)
 ·simp only[go_sem,h8,hb];have ek:k=(oN x.nb).length:=by rw[FS];omega
  subst ek;exact ak.mk V (hK H' hj hn)
def Tk (x:ZJ)(H:ZH)(K:ZN->ZH->Prop)(hK:K (.ret (.X 191 [] [.O H.A 0 0])) (ext H [.J 0 76 [.lit (.int .i64 x.L),.Q x.F.length (ints x.F),ba x.nb]])):
  ae Tryz.prog G0 188 [tR x] H K:=by
 refine ae.st (n:=4) (rs:=[.tmp 2]) Tryz.func188 ?_;simp only[go_sem,tR];exact ak.mk (by simp[aX]) hK
def Au {g:Int}(h:∀w∈l,0<=w):0<=l.sum:=by
 induction l with
 |nil=>simp
 |cons a l ih =>
  have h1:=ih fun w hw=>h w (by simp[hw]);have h2:=h a ZD;simp only[WE];omega
def Av (h:∀w∈l,0<=w):∀w∈l,w<=l.sum:=by
 induction l with
 |nil=>intro w hw;cases hw
 |cons a l ih =>
  intro w hw;have h1:=Au (g:=0) fun w hw=>h w (Xj a hw);have h2:=h a ZD;simp only[WE];rcases List.mem_cons.1 hw with rfl|hw
  ·omega
  ·have:=ih (fun w hw=>h w (by simp[hw])) w hw;omega
noncomputable def my (g:Int)(ns:List ZJ)(x:ZJ):Bool:=@decide (gG g ns x) (Classical.propDecidable _)
def FT (h:gG g ns x):my g ns x=true:=by unfold my;exact @decide_eq_true _ (Classical.propDecidable _) h
def Tl (h:¬gG g ns x):my g ns x=false:=by unfold my;exact @decide_eq_false _ (Classical.propDecidable _) h
def Tm :my g ns x=true↔gG g ns x:=by unfold my;exact @decide_eq_true_iff _ (Classical.propDecidable _)
def Tn (g:Int)(hg:1<=g/\g<=60)(ns:List ZJ)(sets:List Nat)(x:ZJ)(hin:iI x.F ns.length)(hsm:fh (aU ns x))(hx1:(x.nb.length:Int)<2 ^ 38)(hx2:∀r∈x.nb,(r.length:Int)<2 ^ 38)(H:ZH)(K:ZN->ZH->Prop)
  (hK:K (.ret (.lit (.bool (my g ns x)))) H):ae Tryz.prog G0 174 [.agg [.lit (.int .i64 g),eU ns,af (aw ns),jn sets,.lit (.slice none 0 0)],tR x] H K:=by
 refine ae.X ⟨_,Tryz.func174,rfl,rfl⟩ fun hcl=>?_;have l12:=hsm.1;have pl:(aU ns x).length=x.F.length:=jm _ _;have no:¬gG g ns x->∀H',ZM H H'->ak Tryz.prog G0 H K (.lit (.bool false)) H':=fun h H' ov=>ak.bB aF hcl ov (.lit _) (by rw[Tl h]at hK;exact hK);refine ae.st (n:=66) (rs:=[.cell 4 4]) Tryz.func174 ?_;simp only[go_sem,eU,tR];obtain⟨H1,hH1⟩:∃H1,H1=ext H [.J 0 214 [.lit (.int .i64 g),.Q ns.length (aI ns),.Q (aw ns).length (ints (aw ns)),.Q sets.length (sets.map aM),.lit (.slice none 0 0)],.J 0 76 [.lit (.int .i64 x.L),.Q x.F.length (ints x.F),ba x.nb],.J 0 4 [.lit (.bool false)]]:=⟨_,rfl⟩
 have l1:H1.na H.A 0=some (214,[.lit (.int .i64 g),.Q ns.length (aI ns),.Q (aw ns).length (ints (aw ns)),.Q sets.length (sets.map aM),.lit (.slice none 0 0)]):=by rw[hH1];exact ah (cH ..)
 have l2:H1.na (H.A+1) 0=some (76,[.lit (.int .i64 x.L),.Q x.F.length (ints x.F),ba x.nb]):=by rw[hH1];exact ah (bN H _ 1 ZD)
 have g3:=gE hH1 2 rfl
 have n1:H1.A=H.A+3:=hH1▸rfl
 have o1:ZM H H1:=hH1▸.ext _ _
 rw[<- hH1];refine W.aT 268370080 (by rfl) (fun ρ H'=>H'=H1/\∃k:Nat,ρ 16=aa k/\k<=x.F.length/\ρ 5=aa (aD ((aU ns x).take k))) (fun ρ H=>x.F.length-(iv (ρ 16)).toNat) ?_ ?_
 ·simp only[go_sem];exact⟨0,rfl,V,by simp[iM]⟩
 rintro ρ H' ⟨rfl,k,h16,hk,h5⟩;refine W.vs ?_;by_cases hb:(k:Int)<x.F.length
 ·obtain⟨q,hq⟩:=ay (l:=x.F) (i:=k) V;obtain⟨j,rfl,y,hy⟩:=mU (l:=ns) (hin q (Va hq)).1 (hin q (Va hq)).2;have hne2:=bd hq;have hyc:=cW hy;have hne3:=bd hyc;have hj:(j:Int)<(aw ns).length:=by have:=aP hyc;omega
  have pk:(aU ns x)[k]?=some y.L:=by
   rw[show (aU ns x)[k]?=_ from jY hq,Int.toNat_natCast,bJ hyc]
  have b1:=(hsm.take (k+1)).prod;rw[bb pk,jj]at b1;have w1:=Vb ((k:Int)+1) V;have w2:=Vb (aD ((aU ns x).take k)*y.L) V;simp only[go_sem,h16,h5,l1,hb,hq,hne2,hj,hyc,hne3,w1,w2];exact⟨⟨k+1,ZD,V,by rw[bb pk,jj]⟩,V⟩
 rw[Vg V]at h5;by_cases c1:(x.nb.length:Int)=aD (aU ns x);rotate_left
 ·simp only[go_sem,h16,h5,l2,hb,c1,ba];have l3:=ah g3;simp only[go_sem,l3];exact no (fun h=>c1 h.1) _ (o1.upd V _)
 simp only[go_sem,h16,h5,l2,hb,c1,ba];refine ao.X (Tk x _ _ ⟨trivial,?_⟩);simp only[go_sem];obtain⟨H2,hH2⟩:∃H2,H2=ext H' [.J 0 76 [.lit (.int .i64 x.L),.Q x.F.length (ints x.F),ba x.nb]]:=⟨_,rfl⟩
 rw[<- hH2];have o2:ZM H' H2:=by rw[hH2];exact .ext _ _
 have n2:H2.A=H.A+4:=by rw[hH2,aX,n1];rfl
 have hbx:H2.get H'.A=some (.J 0 76 [.lit (.int .i64 x.L),.Q x.F.length (ints x.F),ba x.nb]):=by rw[hH2];exact eh
 refine W.env fun E hE=>?_;have e2:E 2=.O H.A 0 0:=by rw[hE];simp only[go_sem]
 have e3:E 3=.O (H.A+1) 0 0:=by rw[hE];simp only[go_sem]
 have e4:E 4=.O (H.A+2) 0 0:=by rw[hE];simp only[go_sem]
 have i1:H2.na H.A 0=some (214,[.lit (.int .i64 g),.Q ns.length (aI ns),.Q (aw ns).length (ints (aw ns)),.Q sets.length (sets.map aM),.lit (.slice none 0 0)]):=(o2.na V).trans l1;have i2:H2.na (H.A+1) 0=some (76,[.lit (.int .i64 x.L),.Q x.F.length (ints x.F),ba x.nb]):=(o2.na V).trans l2;have i3:H2.get (H.A+2)=some (.J 0 4 [.lit (.bool false)]):=(o2.nf _ V).trans g3;refine W.rY (f:=191) (first:=[]) (cap:=[.O H'.A 0 0]) (by show E 34=_;rw[hE];rfl) (Tj x V H'.A)
  (fun k Hx=>ZM H2 Hx/\∀r∈x.nb.take k,kI g x.L r) (fun c Hx=>c=.ret/\ZM H Hx/\H.A+4<=Hx.A/\Hx.get (H.A+2)=some (.J 0 4 [.lit (.bool false)])/\¬gG g ns x)
  (fun k Hx h=>by rw[h.1.nf _ V];exact hbx) (fun k Hx b h=>⟨h.1.upd ZG b,h.2⟩) (fun c Hx b h=>⟨h.1,h.2.1.upd V b,h.2.2.1,by rw[aj,Ve V];exact h.2.2.2.1,h.2.2.2.2⟩)
  (fun b=>⟨.ext _ _,ZD⟩) ZE (fun y hy=>by
   obtain⟨k,hk⟩:=Vj.1 hy;obtain⟨r,_,rfl⟩:=FR hk;rfl) (fun _ _ _=>trivial) (fun _ _ _=>trivial) (fun k y Hx B Bb hy hj hn hB hBb=>?_) (fun Hx hj hn=>?_) (fun Hx hs hn=>?_) (fun i Hx hs hn=>by cases hs.1)
 ·obtain⟨r,hr,rfl⟩:=FR hy;refine W.vs ?_;simp only[go_sem,jM,dw,mC,Wi,XA,WY,W6,hB];obtain⟨H3,hH3⟩:∃H3,H3=Hx.upd H2.A Bb:=⟨_,rfl⟩
  rw[<- hH3];obtain⟨st,pd,n',en,ps',as',bo,hBe⟩:=hBb;have o3:ZM H2 H3:=by rw[hH3];exact hj.1.upd ZG Bb
  have o4:ZM H H3:=(o1.trans o2).trans o3;have n3:H3.A=Hx.A:=by rw[hH3];rfl
  have j1:=(o3.na (g:=0) (by omega:H.A<H2.A)).trans i1;have j2:=(o3.na (g:=0) (by omega:H.A+1<H2.A)).trans i2;have j3:=(o3.nf _ (by omega:H.A+2<H2.A)).trans i3;have j4:=ah j3;have jB:H3.get H2.A=some Bb:=by rw[hH3,aj,Vf rfl]
  have nB:¬H2.A=H.A+2:=V
  have hrm:=Va hr;have hrl:=hx2 r hrm;have nope:¬kI g x.L r->¬gG g ns x:=fun h h'=>h (h'.2 r hrm);have stop:¬kI g x.L r->(H3.upd (H.A+2) (ZO.J 0 4 [.lit (.bool false)])).get H2.A=some Bb/\Hx.A<=(H3.upd (H.A+2) (ZO.J 0 4 [.lit (.bool false)])).A/\ZM H (H3.upd (H.A+2) (ZO.J 0 4 [.lit (.bool false)])) /\
    H.A+4<=(H3.upd (H.A+2) (ZO.J 0 4 [.lit (.bool false)])).A/\(H3.upd (H.A+2) (ZO.J 0 4 [.lit (.bool false)])).get (H.A+2)=some (.J 0 4 [.lit (.bool false)])/\¬gG g ns x:=fun h =>
   ⟨by rw[aj,Ve nB];exact jB,by rw[aQ];omega,o4.upd V _,by rw[aQ];omega,by rw[aj,Vf rfl],nope h⟩
  refine W.vs ?_;simp only[go_sem,dw,e2,j1];refine W.aT 144110790029349888 (by rfl) (fun ρ2 H4=>H4=H3/\∃i:Nat,ρ2 42=aa i/\i<=r.length/\(∀w∈r.take i,0<=w)/\(r.take i).sum<=g/\ρ2 10=aa (g-(r.take i).sum)) (fun ρ2 H=>r.length-(iv (ρ2 42)).toNat) ?_ ?_
  ·simp only[go_sem];exact⟨0,rfl,V,ZD,by simp;omega,ZD⟩
  rintro ρ2 H4 ⟨rfl,i,h42,hi,hw0,hws,h10⟩;refine W.vs ?_;have s0:=Au (g:=g) hw0;by_cases hb2:(i:Int)<r.length
  ·obtain⟨a,ha⟩:=ay (l:=r) (i:=i) V;have ham:=Va ha;have hane:=bd ha;by_cases d1:a<0
   ·simp only[go_sem,h42,hb2,ha,hane,d1,dw,e4,j4,im];exact stop fun h=>by have:=h.2.1 a ham;omega
   by_cases d2:a > g-(r.take i).sum
   ·simp only[go_sem,h42,h10,hb2,ha,hane,d1,d2,dw,e4,j4,im];refine stop fun h=>?_;have h1:r.sum=(r.take (i+1)).sum+(r.drop (i+1)).sum:=(by rw[<- YF,VX]);rw[bb ha,At]at h1;have h2:=Au (g:=g) (l:=r.drop (i+1)) fun w hw=>(h.2.1 w (Xi hw)).1;have:=h.2.2;omega
   have w1:=Vb ((i:Int)+1) V;have w2:=Vb (g-(r.take i).sum-a) V;simp only[go_sem,h42,h10,hb2,ha,hane,d1,d2,w1,w2,dw];refine⟨⟨_,_,_,_,_,_,_,by rw[jB,hBe]⟩,⟨i+1,ZD,V,fun w hw=>?_,by rw[bb ha,At];omega,?_⟩,V⟩
   ·rw[bb ha]at hw;rcases VC.1 hw with hw|hw
    ·exact hw0 w hw
    ·obtain rfl:=List.mem_singleton.1 hw;omega
   ·rw[bb ha,At];show aa _=aa _;congr 1;omega
  ·rw[Vg V]at hw0 hws h10 s0;by_cases d1:(r.length:Int)=x.L;rotate_left
   ·simp only[go_sem,h42,hb2,d1,dw,e3,e4,j2,j4,im];exact stop fun h=>d1 h.1
   have hb2':¬(i:Int)<x.L:=V;by_cases d2:g-r.sum=0;rotate_left
   ·simp only[go_sem,h42,h10,hb2',d1,d2,dw,e3,e4,j2,j4,im];exact stop fun h=>by have:=h.2.2;omega
   simp only[go_sem,h42,h10,hb2',d1,d2,dw,e3,j2,im];refine⟨jB,V,o3,fun y hy=>?_⟩;rw[bb hr]at hy;rcases VC.1 hy with hy|hy
   ·exact hj.2 y hy
   ·obtain rfl:=List.mem_singleton.1 hy;exact⟨d1,fun w hw=>⟨hw0 w hw,by have:=Av hw0 w hw;omega⟩,V⟩
 ·have hok:gG g ns x:=⟨c1,by
   have:=hj.2;rw[FS,XU]at this;exact this⟩
  have j4:=ah ((hj.1.nf _ (by omega:H.A+2<H2.A)).trans i3);rw[FT hok]at hK;simp only[go_sem,e4,j4];exact ak.bB aF hcl (((o1.trans o2).trans hj.1).upd V _) (.lit _) hK
 ·obtain⟨_,o4,n4,g4,hno⟩:=hs;have j4:=ah g4;simp only[go_sem,e4,j4];exact no hno _ o4
end Go.Proofs
namespace Go.Hx
variable {e:TypeId}{H:ZH}
def aK.pY {lo:Nat}{v:ZI}{l:List Int}(h:aK lo H e v (ints l)):Z3 H v (af l):=by
 rcases h with ⟨rfl,h⟩|⟨id,g,h1,h2,rfl,h4⟩
 ·have:l=[]:=by cases l with
   |nil=>rfl
   |cons a l=>simp[ints]at h
  subst this;exact .nil
 ·have e:af l=.Q (ints l).length (ints l):=by rw[bE];rfl
  rw[e];refine .U h4 ZD fun j hj h2 h'=>?_;simp only[Nat.zero_add,ints,Vt];exact .lit _
def Fz.tS {id g n nx:Nat}{cs:List ZI}(hg:H.get id=some (.J g e cs))(hn:n=cs.length)(hl:∀c∈cs,∃v,c=.lit v):Fz (fun _=>True) H nx (.U id g 0 n 1) (.Q n cs):=by
 refine .nz trivial hg V fun j hj h2 h'=>?_;simp only[Nat.zero_add];obtain⟨v,hv⟩:=hl _ (Wb h');rw[hv];exact .lit _
end Go.Hx
namespace Go.Proofs
open Go.Hx
variable {n:Nat}{p:Nat->Bool}
def aH (l:List Nat):List Int:=l.map fun (v:Nat)=>(v:Int)
def FU {j:Nat}(hj:j<n)(h1:∀v,v<j->p v=false)(h2:p j=true):(List.range n).find? p=some j:=by
 rw[List.find?_eq_some_iff_getElem];refine⟨h2,j,by simpa using hj,ZD,fun k hk=>?_⟩;simp only[List.getElem_range];simp[h1 k hk]
def FV (h1:∀v,v<n->p v=false):(List.range n).find? p=none:=by
 rw[XG];intro x hx;simp[h1 x (Vp.1 hx)]
def To (ps:List Nat)(hl:ps.length<=60)(hp:∀p∈ps,p<2 ^ 64)(H:ZH)(K:ZN->ZH->Prop)
  (hK:∀v H',ZM H H'->(match fF ps with|some o=>aK H.A H' 3 v (ints (aH o))|none=>v=.lit (.slice none 0 0))->K (.ret (.nc [v,.lit (.bool (fF ps).isSome)])) H'):ae Tryz.prog G0 175 [jn ps] H K:=by
 have no:∀H',fF ps=none->ZM H H'->ak Tryz.prog G0 H K (.nc [.lit (.slice none 0 0),.lit (.bool false)]) H':=fun H' h ov=>ak.mk ov.A (by
  have:=hK (.lit (.slice none 0 0)) H' ov;rw[h]at this;exact this rfl)
 refine ae.st (n:=44) (rs:=[.tmp 2,.tmp 3]) Tryz.func175 ?_;simp only[go_sem];refine⟨V,?_⟩;refine W.aT 8796093020412 (by rfl) (fun ρ H'=>∃(out:List Nat) (done:Nat),ρ 5=aM done/\done<2 ^ 64/\out.length<=ps.length/\H.A+1<=H'.A/\ZM H H'/\aK H.A H' 3 (ρ 4) (ints (aH out))/\(∃id g,ρ 4=.U id g 0 out.length 1)/\ia ps (ps.length-out.length) out done=fF ps)
  (fun ρ H=>ps.length-(match ρ 4 with|.U _ _ _ n _=>n|_=>0)) ?_ ?_
 ·simp only[go_sem];exact⟨[],0,ZD,ZE,WH _,.ext _ _,.inr ⟨H.A,0,ZG,by simp[aX],rfl,cH H _ []⟩,⟨_,_,rfl⟩,rfl⟩
 rintro ρ H' ⟨out,done,h5,hd,ho,hn0,ov,h4,⟨id,gn,h4e⟩,ht⟩;refine W.vs ?_;have lv:H'.na id gn=some (3,ints (aH out)):=by
  rcases h4 with ⟨h,_⟩|⟨i,g,h1,h2,h3,h4⟩
  ·rw[h4e]at h;cases h
  ·rw[h4e]at h3;have:=ZI.U.inj h3;obtain⟨rfl,rfl,_⟩:=this;exact ah h4
 by_cases hb:(out.length:Int)<ps.length
 ·simp only[go_sem,h4e,lv,hb];have hk1:ps.length-out.length=(ps.length-(out.length+1))+1:=V
  refine W.aT 8796092760304 (by rfl) (fun ρ2 H2=>H2=H'/\∃j:Nat,ρ2 18=aa j/\j<=ps.length/\ρ2 4=.U id gn 0 out.length 1/\ρ2 5=aM done/\∀v,v<j->jT ps done v=false) (fun ρ2 H=>ps.length-(iv (ρ2 18)).toNat) ?_ ?_
  ·simp only[go_sem,h4e,h5];exact⟨0,rfl,V,fun v h=>absurd h (Vs _)⟩
  rintro ρ2 H2 ⟨rfl,j,h18,hj,h4',h5',hno⟩;refine W.vs ?_;by_cases hb2:(j:Int)<ps.length
  ·obtain⟨p,hpj⟩:=ay (l:=ps) (i:=j) V;have hp1:=hp p (Va hpj);have hne:=bd hpj;have s1:=fun t x y=>jo (P:=Tryz.prog) (t:=t) (x:=x) (y:=y) (k':=.i64) (s:=j) hd;have s2:=fun t x y=>oU (P:=Tryz.prog) (t:=t) (x:=x) (y:=y) (s:=j) hd;have s3:=fun t x y=>nK (P:=Tryz.prog) (t:=t) (x:=x) (y:=y) (a:=p) (b:=done);have w1:=Vb ((j:Int)+1) V;have cont:jT ps done j=false->∀v,v<j+1->jT ps done v=false:=fun h v hv=>by
    rcases VA v j with h'|h'
    ·exact hno v h'
    ·obtain rfl:v=j:=V;exact h
   have fe:jT ps done j=(!done.testBit j && decide (dV p done=0)):=(by unfold jT;rw[bJ hpj]);cases hbit:done.testBit j;rotate_left
   ·simp only[go_sem,h18,h4',h5',hb2,hpj,hne,s1,s2,hbit,w1];exact⟨⟨j+1,ZD,V,cont (by rw[fe,hbit];rfl)⟩,V⟩
   by_cases hz:dV p done=0;rotate_left
   ·have hz':¬((dV p done:Nat):Int)=0:=V;simp only[go_sem,h18,h4',h5',hb2,hpj,hne,s1,s2,s3,hbit,hz',w1];exact⟨⟨j+1,ZD,V,cont (by rw[fe,hbit];simp[hz])⟩,V⟩
   have hz':((dV p done:Nat):Int)=0:=V;have hnx:kr ps done=some j:=FU V hno (by rw[fe,hbit];simp[hz]);obtain⟨v',H3,hA,ov2,hO,hn2,_⟩:=lT (j:Int) ov h4 (by simp[aH];omega);rw[h4e]at hA;have b2:(2:Nat) ^ j<2 ^ 64:=Wt ZE V;have s4:=fun t x y=>lQ (P:=Tryz.prog) (t:=t) (x:=x) (y:=y) (k':=.i64) (s:=j) V;have s5:=fun t x y=>j5 (P:=Tryz.prog) (t:=t) (x:=x) (y:=y) hd b2;simp only[go_sem,h18,h4',h5',hb2,hpj,hne,s1,s2,s3,s4,s5,hbit,hz',hA];have hO':aK H.A H3 3 v' (ints (aH (out++[j]))):=by
    have e:aH (out++[j])=aH out++[(j:Int)]:=(by simp[aH]);rw[e];exact hO
   have hv':∃id g,v'=.U id g 0 (out.length+1) 1:=by
    rcases hO' with ⟨_,h⟩|⟨i,g,_,_,h3,_⟩
    ·simp[ints,aH]at h
    ·exact⟨i,g,by rw[h3,bE];simp[aH]⟩
   obtain⟨i2,g2,rfl⟩:=hv';refine⟨V,⟨out++[j],done |||2 ^ j,rfl,WR hd b2,by simp;omega,V,ov2,hO',⟨i2,g2,ZD⟩,?_⟩,by simp only;omega⟩;rw[<- ht,hk1]
   conv=>rhs;unfold ia
   rw[hnx];simp
  ·simp only[go_sem,h18,hb2];refine no _ ?_ ov;rw[<- ht,hk1];unfold ia;have:kr ps done=none:=FV fun v hv=>hno v V;rw[this]
 ·simp only[go_sem,h4e,lv,hb];have hz:ps.length-out.length=0:=V
  rw[hz]at ht;have ht':fF ps=some out:=ht.symm;have:=hK (.U id gn 0 out.length 1) H' ov;rw[ht']at this;refine ak.mk ov.A (this ?_);rw[h4e]at h4;exact h4
def Tp (ps:List Nat)(hl:ps.length<=60)(hp:∀p∈ps,p<2 ^ 64)(H:ZH)(v:ZI)(hv:Fz (fun _=>True) H 0 v (jn ps))(K:ZN->ZH->Prop)
  (hK:K (.ret (.nc [af (aH ((fF ps).getD [])),.lit (.bool (fF ps).isSome)])) H):ae Tryz.prog G0 175 [v] H K:=by
 refine(ae.frame (H:=H) (args:=[v]) (args':=[jn ps]) (v':=.nc [af (aH ((fF ps).getD [])),.lit (.bool (fF ps).isSome)]) aF rfl (fun i hi _=>match i,hi with|0,_=>hv) (To ps hl hp cR _ fun u H' ov hu=>⟨_,rfl,?_⟩)).mono ?_
 ·refine .nc rfl fun i hi _=>?_
  match i,hi with
  |0,_ =>
   show Z3 H' u _;cases ht:fF ps with
   |none=>rw[ht]at hu;simp only at hu;rw[hu];show Z3 H' _ (af []);exact .nil
   |some o=>rw[ht]at hu;exact aK.pY hu
  |1,_=>exact .lit _
 ·rintro r H' ⟨rfl,rfl⟩;exact hK
end Go.Proofs
