/-
  Closed facts of this seat's types. Laid by a program of ours.
-/
import Derived.Test.YtebhdkihcdmmjaaGreatProg
import Derived.Test.YtebhdkihcdmmjaaGreatLibC
import Derived.Test.YtebhdkihcdmmjaaGreatLibB
set_option linter.all false
set_option maxHeartbeats 8000000
namespace Go.Proofs
open Go.Hx
variable {i z:Nat}{α:Type}
def Tryz.mixed:Tryz.prog.follows .mixedOrders=true:=ZI
def Tryz.fC:Tryz.prog.cellsOf 3=1:=ZI
def Tryz.fV:Tryz.prog.bytesOf 3=8:=ZI
def Tryz.fm:bQ Tryz.prog 3=some [.lit (.int .i64 0)]:=ZI
def Tryz.C5:Tryz.prog.cellsOf 4=1:=ZI
def Tryz.NH:Tryz.prog.bytesOf 4=1:=ZI
def Tryz.NI:bQ Tryz.prog 4=some [.lit (.bool false)]:=ZI
def Tryz.tD:Tryz.prog.cellsOf 5=1:=ZI
def Tryz.NJ:Tryz.prog.bytesOf 5=1:=ZI
def Tryz.NK:bQ Tryz.prog 5=some [.lit (.int .u8 0)]:=ZI
def Tryz.C6:Tryz.prog.cellsOf 22=1:=ZI
def Tryz.zq:Tryz.prog.cellsOf 23=1:=ZI
def Tryz.C7:Tryz.prog.cellsOf 25=3:=ZI
def Tryz.NL:bJ Tryz.prog 25 0=some (0,5):=ZI
def Tryz.NM:bJ Tryz.prog 25 1=some (1,22):=ZI
def Tryz.NN:bJ Tryz.prog 25 2=some (2,23):=ZI
def Tryz.C8:Tryz.prog.cellsOf 26=1:=ZI
def Tryz.NO:Tryz.prog.cellsOf 28=6:=ZI
def Tryz.NP:bJ Tryz.prog 28 0=some (0,25):=ZI
def Tryz.NQ:bJ Tryz.prog 28 1=some (3,5):=ZI
def Tryz.NR:bJ Tryz.prog 28 2=some (4,4):=ZI
def Tryz.NS:bJ Tryz.prog 28 3=some (5,26):=ZI
def Tryz.C9:Tryz.prog.cellsOf 34=1:=ZI
def Tryz.Da:Tryz.prog.bytesOf 34=8:=ZI
def Tryz.Db:bQ Tryz.prog 34=some [.lit (.int .u64 0)]:=ZI
def Tryz.NT:Tryz.prog.cellsOf 35=1:=ZI
def Tryz.NU:Tryz.prog.cellsOf 36=1:=ZI
def Tryz.NV:Tryz.prog.cellsOf 38=4:=ZI
def Tryz.NW:bQ Tryz.prog 38=some [.lit (.int .i64 0),.lit (.slice none 0 0),.lit (.int .u64 0),.lit (.slice none 0 0)]:=ZI
def Tryz.NX:iZ Tryz.prog 38=some [(0,1),(1,1),(2,1),(3,1)]:=ZI
def Tryz.NY:bJ Tryz.prog 38 0=some (0,3):=ZI
def Tryz.NZ:bJ Tryz.prog 38 1=some (1,35):=ZI
def Tryz.N0:bJ Tryz.prog 38 2=some (2,34):=ZI
def Tryz.N1:bJ Tryz.prog 38 3=some (3,36):=ZI
def Tryz.N2:Tryz.prog.cellsOf 44=1:=ZI
def Tryz.N3:bQ Tryz.prog 44=some [.lit (.int .i64 0)]:=ZI
def Tryz.N4:Tryz.prog.cellsOf 58=2:=ZI
def Tryz.N5:bQ Tryz.prog 58=some [.lit (.int .i64 0),.lit (.int .i64 0)]:=ZI
def Tryz.N6:iZ Tryz.prog 58=some [(0,1),(1,1)]:=ZI
def Tryz.N7:bJ Tryz.prog 58 0=some (0,3):=ZI
def Tryz.N8:bJ Tryz.prog 58 1=some (1,3):=ZI
def Tryz.N9:Tryz.prog.cellsOf 68=1:=ZI
def Tryz.zr:Tryz.prog.cellsOf 72=1:=ZI
def Tryz.zt:Tryz.prog.bytesOf 72=24:=ZI
def Tryz.zu:bQ Tryz.prog 72=some [.lit (.slice none 0 0)]:=ZI
def Tryz.Oa:Tryz.prog.cellsOf 74=1:=ZI
def Tryz.Dc:Tryz.prog.cellsOf 76=3:=ZI
def Tryz.Dd:Tryz.prog.bytesOf 76=56:=ZI
def Tryz.De:bQ Tryz.prog 76=some [.lit (.int .i64 0),.lit (.slice none 0 0),.lit (.slice none 0 0)]:=ZI
def Tryz.Ob:iZ Tryz.prog 76=some [(0,1),(1,1),(2,1)]:=ZI
def Tryz.Oc:bJ Tryz.prog 76 0=some (0,3):=ZI
def Tryz.Od:bJ Tryz.prog 76 1=some (1,72):=ZI
def Tryz.Oe:bJ Tryz.prog 76 2=some (2,74):=ZI
def Tryz.Df:Tryz.prog.cellsOf 87=2:=ZI
def Tryz.Dh:Tryz.prog.bytesOf 87=48:=ZI
def Tryz.Di:bQ Tryz.prog 87=some [.lit (.slice none 0 0),.lit (.slice none 0 0)]:=ZI
def Tryz.Of:iZ Tryz.prog 87=some [(0,1),(1,1)]:=ZI
def Tryz.Og:bJ Tryz.prog 87 0=some (0,72):=ZI
def Tryz.Oh:bJ Tryz.prog 87 1=some (1,72):=ZI
def Tryz.Oi:Tryz.prog.cellsOf 90=2:=ZI
def Tryz.Oj:bQ Tryz.prog 90=some [.lit (.int .i64 0),.lit (.slice none 0 0)]:=ZI
def Tryz.Ol:iZ Tryz.prog 90=some [(0,1),(1,1)]:=ZI
def Tryz.Om:bJ Tryz.prog 90 0=some (0,3):=ZI
def Tryz.On:bJ Tryz.prog 90 1=some (1,35):=ZI
def Tryz.Oo:Tryz.prog.cellsOf 93=1:=ZI
def Tryz.Dj:Tryz.prog.cellsOf 96=1:=ZI
def Tryz.Dk:Tryz.prog.cellsOf 98=2:=ZI
def Tryz.Oq:bJ Tryz.prog 98 0=some (0,5):=ZI
def Tryz.Ot:bJ Tryz.prog 98 1=some (1,96):=ZI
def Tryz.Ou:Tryz.prog.cellsOf 101=1:=ZI
def Tryz.Ov:bQ Tryz.prog 101=some [.lit (.pointer none)]:=ZI
def Tryz.Ow:Tryz.prog.cellsOf 122=1:=ZI
def Tryz.Ox:bQ Tryz.prog 122=some [.lit .nilFunc]:=ZI
def Tryz.Oy:Tryz.prog.cellsOf 134=1:=ZI
def Tryz.Oz:bQ Tryz.prog 134=some [.lit (.pointer none)]:=ZI
def Tryz.OA:Tryz.prog.cellsOf 142=1:=ZI
def Tryz.OB:Tryz.prog.cellsOf 145=3:=ZI
def Tryz.OC:bQ Tryz.prog 145=some [.lit (.slice none 0 0),.lit (.int .u16 0),.lit (.slice none 0 0)]:=ZI
def Tryz.OD:iZ Tryz.prog 145=some [(0,1),(1,1),(2,1)]:=ZI
def Tryz.OE:bJ Tryz.prog 145 0=some (0,23):=ZI
def Tryz.OF:bJ Tryz.prog 145 2=some (2,23):=ZI
def Tryz.Dl:Tryz.prog.cellsOf 148=3:=ZI
def Tryz.OG:bQ Tryz.prog 148=some [.lit (.int .u8 0),.lit (.int .u8 0),.lit (.slice none 0 0)]:=ZI
def Tryz.OH:bJ Tryz.prog 148 0=some (0,5):=ZI
def Tryz.OI:bJ Tryz.prog 148 1=some (1,5):=ZI
def Tryz.OJ:bJ Tryz.prog 148 2=some (2,23):=ZI
def Tryz.Dm:Tryz.prog.cellsOf 153=1:=ZI
def Tryz.OK:bQ Tryz.prog 157=some [.lit (.int .i64 0),.lit (.slice none 0 0),.lit (.int .u64 0),.lit (.slice none 0 0),.lit (.slice none 0 0),.lit (.int .i64 0)]:=ZI
def Tryz.OL:iZ Tryz.prog 157=some [(0,4),(4,1),(5,1)]:=ZI
def Tryz.OM:bJ Tryz.prog 157 0=some (0,38):=ZI
def Tryz.ON:bJ Tryz.prog 157 1=some (4,72):=ZI
def Tryz.OO:bJ Tryz.prog 157 2=some (5,3):=ZI
def Tryz.OP:Tryz.prog.cellsOf 173=2:=ZI
def Tryz.OQ:bQ Tryz.prog 173=some [.lit (.int .u64 0),.lit (.int .u64 0)]:=ZI
def Tryz.OS:Tryz.prog.cellsOf 180=1:=ZI
def Tryz.OT:Tryz.prog.cellsOf 182=1:=ZI
def Tryz.OU:bQ Tryz.prog 184=some [.lit (.int .i64 0),.lit (.slice none 0 0),.lit (.int .u64 0),.lit (.slice none 0 0),.lit (.slice none 0 0),.lit (.slice none 0 0),.lit (.slice none 0 0),.lit (.int .i64 0)]:=ZI
def Tryz.OV:iZ Tryz.prog 184=some [(0,4),(4,1),(5,1),(6,1),(7,1)]:=ZI
def Tryz.OW:bJ Tryz.prog 184 0=some (0,38):=ZI
def Tryz.OX:bJ Tryz.prog 184 1=some (4,182):=ZI
def Tryz.OY:bJ Tryz.prog 184 2=some (5,72):=ZI
def Tryz.OZ:bJ Tryz.prog 184 3=some (6,72):=ZI
def Tryz.O0:bJ Tryz.prog 184 4=some (7,3):=ZI
def Tryz.Dn:Tryz.prog.cellsOf 187=1:=ZI
def Tryz.Do:Tryz.prog.bytesOf 187=8:=ZI
def Tryz.Dp:bQ Tryz.prog 187=some [.lit (.pointer none)]:=ZI
def Tryz.O1:Tryz.prog.cellsOf 188=1:=ZI
def Tryz.O3:bQ Tryz.prog 191=some [.lit (.int .i64 0),.lit (.int .i64 0),.lit (.slice none 0 0),.lit (.slice none 0 0),.lit (.slice none 0 0),.lit (.slice none 0 0),.lit (.slice none 0 0)]:=ZI
def Tryz.O4:iZ Tryz.prog 191=some [(0,1),(1,1),(2,1),(3,1),(4,1),(5,1),(6,1)]:=ZI
def Tryz.O5:bJ Tryz.prog 191 0=some (0,3):=ZI
def Tryz.O6:bJ Tryz.prog 191 1=some (1,3):=ZI
def Tryz.O7:bJ Tryz.prog 191 2=some (2,72):=ZI
def Tryz.O8:bJ Tryz.prog 191 3=some (3,188):=ZI
def Tryz.O9:bJ Tryz.prog 191 4=some (4,72):=ZI
def Tryz.Pa:bJ Tryz.prog 191 5=some (5,72):=ZI
def Tryz.Pb:Tryz.prog.cellsOf 193=1:=ZI
def Tryz.Pc:Tryz.prog.cellsOf 197=1:=ZI
def Tryz.Pd:bQ Tryz.prog 197=some [.lit .nilFunc]:=ZI
def Tryz.Pe:Tryz.prog.cellsOf 203=1:=ZI
def Tryz.Pf:Tryz.prog.cellsOf 214=5:=ZI
def Tryz.Pg:bQ Tryz.prog 214=some [.lit (.int .i64 0),.lit (.slice none 0 0),.lit (.slice none 0 0),.lit (.slice none 0 0),.lit (.slice none 0 0)]:=ZI
def Tryz.Ph:iZ Tryz.prog 214=some [(0,2),(2,1),(3,1),(4,1)]:=ZI
def Tryz.Pi:bJ Tryz.prog 214 0=some (0,90):=ZI
def Tryz.Pj:bJ Tryz.prog 214 1=some (2,72):=ZI
def Tryz.Pk:bJ Tryz.prog 214 2=some (3,93):=ZI
def Tryz.Pl:bJ Tryz.prog 214 3=some (4,72):=ZI
theorem Tryz.Pm:bQ Tryz.prog 255=some []:=ZI
attribute [go_sem] Tryz.underlying3 Tryz.fC Tryz.fV Tryz.fm Tryz.underlying4 Tryz.C5 Tryz.NH Tryz.NI Tryz.underlying5 Tryz.tD Tryz.NJ Tryz.NK
attribute [go_sem] Tryz.underlying9 Tryz.underlying20 Tryz.underlying22 Tryz.C6
attribute [go_sem] Tryz.underlying23 Tryz.zq Tryz.underlying24
attribute [go_sem] Tryz.underlying25 Tryz.C7 Tryz.NL Tryz.NM Tryz.NN Tryz.underlying26 Tryz.C8
attribute [go_sem] Tryz.underlying27 Tryz.underlying28 Tryz.NO
attribute [go_sem] Tryz.NP Tryz.NQ Tryz.NR Tryz.NS Tryz.underlying29
attribute [go_sem] Tryz.underlying30
attribute [go_sem] Tryz.underlying31 Tryz.underlying32
attribute [go_sem] Tryz.underlying33 Tryz.underlying34 Tryz.C9 Tryz.Da Tryz.Db
attribute [go_sem] Tryz.underlying35 Tryz.NT Tryz.underlying36 Tryz.NU Tryz.underlying37
attribute [go_sem] Tryz.underlying38 Tryz.NV Tryz.NW Tryz.NX Tryz.NY Tryz.NZ
attribute [go_sem] Tryz.N0 Tryz.N1 Tryz.underlying41 Tryz.underlying43 Tryz.underlying44 Tryz.N2
attribute [go_sem] Tryz.N3 Tryz.underlying49 Tryz.underlying56 Tryz.underlying57
attribute [go_sem] Tryz.underlying58 Tryz.N4 Tryz.N5 Tryz.N6 Tryz.N7 Tryz.N8
attribute [go_sem] Tryz.underlying63 Tryz.underlying65 Tryz.underlying68 Tryz.N9
attribute [go_sem] Tryz.underlying72 Tryz.zr Tryz.zt Tryz.zu Tryz.underlying74 Tryz.Oa Tryz.underlying75
attribute [go_sem] Tryz.underlying76 Tryz.Dc Tryz.Dd Tryz.De Tryz.Ob Tryz.Oc Tryz.Od Tryz.Oe
attribute [go_sem] Tryz.underlying86 Tryz.underlying87 Tryz.Df Tryz.Dh Tryz.Di Tryz.Of
attribute [go_sem] Tryz.Og Tryz.Oh Tryz.underlying89 Tryz.underlying90 Tryz.Oi
attribute [go_sem] Tryz.Oj Tryz.Ol Tryz.Om Tryz.On Tryz.underlying93 Tryz.Oo Tryz.underlying96 Tryz.Dj
attribute [go_sem] Tryz.underlying97 Tryz.underlying98 Tryz.Dk
attribute [go_sem] Tryz.Oq Tryz.Ot Tryz.underlying101 Tryz.Ou Tryz.Ov Tryz.underlying122 Tryz.Ow Tryz.Ox Tryz.underlying134 Tryz.Oy
attribute [go_sem] Tryz.Oz Tryz.underlying140 Tryz.underlying142 Tryz.OA Tryz.underlying143
attribute [go_sem] Tryz.underlying144 Tryz.underlying145 Tryz.OB
attribute [go_sem] Tryz.OC Tryz.OD Tryz.OE Tryz.OF Tryz.underlying147
attribute [go_sem] Tryz.underlying148 Tryz.Dl Tryz.OG Tryz.OH Tryz.OI Tryz.OJ Tryz.underlying153 Tryz.Dm
attribute [go_sem] Tryz.underlying156 Tryz.underlying157
attribute [go_sem] Tryz.OK Tryz.OL Tryz.OM Tryz.ON Tryz.OO Tryz.underlying172 Tryz.underlying173 Tryz.OP
attribute [go_sem] Tryz.OQ Tryz.underlying180 Tryz.OS Tryz.underlying182 Tryz.OT Tryz.underlying183
attribute [go_sem] Tryz.underlying184 Tryz.OU
attribute [go_sem] Tryz.OV Tryz.OW Tryz.OX Tryz.OY Tryz.OZ Tryz.O0 Tryz.underlying187 Tryz.Dn Tryz.Do Tryz.Dp Tryz.underlying188 Tryz.O1
attribute [go_sem] Tryz.underlying190
attribute [go_sem] Tryz.underlying191 Tryz.O3 Tryz.O4 Tryz.O5 Tryz.O6 Tryz.O7 Tryz.O8 Tryz.O9
attribute [go_sem] Tryz.Pa Tryz.underlying193 Tryz.Pb Tryz.underlying197 Tryz.Pc Tryz.Pd Tryz.underlying203 Tryz.Pe
attribute [go_sem] Tryz.underlying213 Tryz.underlying214
attribute [go_sem] Tryz.Pf Tryz.Pg Tryz.Ph Tryz.Pi Tryz.Pj Tryz.Pk Tryz.Pl Tryz.underlying228
attribute [go_sem] Tryz.underlying239 Tryz.underlying247 Tryz.underlying254
attribute [go_sem] Tryz.underlying255 Tryz.Pm Tryz.underlying260 Tryz.underlying261
def bb (l:List (List Int)):ZL:=.Q l.length (l.map af)
structure ZM where
 L:Int
 F:List Int
 nb:List (List Int)
structure ZY where
 vars:List Int
 w:List Int
def ZM.cells (x:ZM):List ZL:=[aa x.L,af x.F,bb x.nb]
def ZY.cells (x:ZY):List ZL:=[af x.vars,af x.w]
def aG (l:List ZM):List ZL:=(l.map ZM.cells).flatten
def bA (l:List ZY):List ZL:=(l.map ZY.cells).flatten
def eQ (l:List ZM):ZL:=.Q l.length (aG l)
def vS (l:List ZY):ZL:=.Q l.length (bA l)
def eZ (g:Int)(l:List ZM):ZL:=.agg [aa g,eQ l]
structure ZN where
 Z:Int
 C:List ZM
 nl:Nat
 Y:List ZY
def da (d:ZN):ZL:=.agg [aa d.Z,eQ d.C,.lit (.int .u64 (d.nl:Int)),vS d.Y]
def ko {f:α->List ZL}(hz:∀a,(f a).length=z):∀(l:List α) (i j:Nat) (a:α),l[i]?=some a->j<z->((l.map f).flatten)[i*z+j]?=(f a)[j]?:=by
 intro l
 induction l with
 |nil=>intro i j a h;simp at h
 |cons x l ih =>
  intro i j a h hj;simp only[List.map_cons,List.flatten_cons];cases i with
  |zero =>
   simp only[List.getElem?_cons_zero,Option.some.injEq]at h;subst h;rw[Xs,Nat.zero_add,Vx (by rw[hz];exact hj)]
  |succ i =>
   have:(i+1)*z+j=z+(i*z+j):=(by rw[VT];omega);rw[this,VS (by rw[hz];omega),hz];have:z+(i*z+j)-z=i*z+j:=V;rw[this];exact ih i j a (by simpa using h) hj
def mg {f:α->List ZL}(hz:∀a,(f a).length=z)(l:List α):((l.map f).flatten).length=l.length*z:=by
 induction l with
 |nil=>simp
 |cons x l ih=>simp only[List.map_cons,List.flatten_cons,List.length_append,ih,hz,List.length_cons];rw[VT];omega
def oB {f:α->List ZL}(hz:∀a,(f a).length=z):∀(l:List α) (i:Nat) (a:α),l[i]?=some a->(((l.map f).flatten).drop (i*z)).take z=f a:=by
 intro l i a h;apply V3;intro j;by_cases hj:j<z
 ·rw[Vz hj,Wz,ko hz l i j a h hj]
 ·rw[Vo (by simp;omega),Vo (by rw[hz];omega)]
def kq (l:List ZM):(aG l).length=l.length*3:=mg (f:=ZM.cells) (fun _=>rfl) l
variable {l:List ZM}{x:ZM}
def mV (h:l[i]?=some x):(aG l)[i*3]?=some (aa x.L):=ko (f:=ZM.cells) (z:=3) (fun _=>rfl) l i 0 x h (V)
def mW (h:l[i]?=some x):(aG l)[i*3+1]?=some (af x.F):=ko (f:=ZM.cells) (z:=3) (fun _=>rfl) l i 1 x h (V)
def Ea (h:l[i]?=some x):(aG l)[i*3+2]?=some (bb x.nb):=ko (f:=ZM.cells) (z:=3) (fun _=>rfl) l i 2 x h (V)
def oC (h:l[i]?=some x):((aG l).drop (i*3)).take 3=[aa x.L,af x.F,bb x.nb]:=oB (f:=ZM.cells) (z:=3) (fun _=>rfl) l i x h
def fQ (h:l[i]?=some x):¬aG l=[]:=fun e=>by
 have:=mV h;rw[e]at this;simp at this
def zJ (l:List ZY):(bA l).length=l.length*2:=mg (f:=ZY.cells) (fun _=>rfl) l
def QA {l:List ZY}{x:ZY}(h:l[i]?=some x):(bA l)[i*2]?=some (af x.vars):=ko (f:=ZY.cells) (z:=2) (fun _=>rfl) l i 0 x h (V)
def zK {l:List ZY}{x:ZY}(h:l[i]?=some x):((bA l).drop (i*2)).take 2=[af x.vars,af x.w]:=oB (f:=ZY.cells) (z:=2) (fun _=>rfl) l i x h
def zL {l:List ZY}{x:ZY}(h:l[i]?=some x):¬bA l=[]:=fun e=>by
 have:=QA h;rw[e]at this;simp at this
def aO {l:List α}{x:α}(h:l[i]?=some x):i<l.length:=by
 rcases VC i l.length with h'|h'
 ·exact h'
 ·rw[Vo h']at h;cases h
def ay {l:List α}(h:i<l.length):∃x,l[i]?=some x:=⟨_,Vf h⟩
def mX {l:List α}{i:Int}(h0:0<=i)(h:i<l.length):∃k:Nat,i=k/\∃x,l[k]?=some x:=⟨i.toNat,V,ay V⟩
def aC (l:List Int):Int:=l.foldl (·*·) 1
def Eb (l:List Int)(a:Int):l.foldl (·*·) a=a*aC l:=by
 unfold aC
 induction l generalizing a with
 |nil=>simp
 |cons x l ih=>simp only[Wk];rw[ih,ih (1*x),Yi,Xh]
def iM:aC []=1:=rfl
def iN (x:Int)(l:List Int):aC (x :: l)=x*aC l:=by
 show List.foldl _ (1*x) l=_;rw[Eb,Yi]
def vU (l l':List Int):aC (l++l')=aC l*aC l':=by
 unfold aC;rw[Wn,Eb];rfl
def jh (l:List Int)(x:Int):aC (l++[x])=aC l*x:=by rw[vU,iN,iM,ZE]
def bd {l:List α}{k:Nat}{x:α}(h:l[k]?=some x):l.take (k+1)=l.take k++[x]:=by
 rw[List.take_add_one,h];rfl
def fX {l:List Int}(h:∀x∈l,1<=x):1<=aC l:=by
 induction l with
 |nil=>decide
 |cons x l ih =>
  rw[iN];have h1:=ih fun y hy=>h y (by simp[hy]);have h2:=h x ZG;have:=WV h2 h1 V V;simpa using this
def pS {b:Int}{l:List Int}(hb:0<=b)(h:∀x∈l,0<=x/\x<=b):0<=aC l/\aC l<=b ^ l.length:=by
 induction l with
 |nil=>exact⟨ZH,by simp[aC]⟩
 |cons x l ih =>
  rw[iN];have h1:=ih fun y hy=>h y (by simp[hy]);have h2:=h x ZG;refine⟨W2 h2.1 h1.1,?_⟩;have:=WV h2.2 h1.2 h1.1 hb;rw[List.length_cons,Xt,Wx (b ^ l.length)];exact this
def au (l:List ZM):List Int:=l.map (·.L)
def aK (l places:List Int):List Int:=places.map fun p=>l.getD p.toNat 0
def bW (places:List Int)(n:Int):Prop:=places.Pairwise (·<·)/\∀p∈places,0<=p/\p<n
end Go.Proofs
set_option maxRecDepth 100000
namespace Go.Proofs
open Go.Hx
def G0:Nat->Option (List ZL):=yX
def aF:fB G0:=MK
end Go.Proofs
namespace Go.Hx
variable {P:Program} {G:Nat->Option (List ZL)} {Γ Γ':aD} {H H':ZK} {w w':World}
variable {Q:AX->St->Prop}{c:Code}{ρ:Env}{n:Nat}{rd:Option Nat}
def W.env {H:ZK}(h:∀E,E=ρ->W P G n rd c Q ⟨E,H⟩):W P G n rd c Q ⟨ρ,H⟩:=h ρ rfl
def W.en {H:ZK}(p:Env->Prop)(hp:p ρ)(h:∀E,p E->W P G n rd c Q ⟨E,H⟩):W P G n rd c Q ⟨ρ,H⟩:=h ρ hp
def Below.mono {m:Nat}{v:ZL}(h:Below n v)(hm:n<=m):Below m v:=by
 induction h with
 |lit v=>exact .lit v
 |Q h ih=>exact .Q ih
 |ni h ih=>exact .ni ih
 |agg h ih=>exact .agg ih
 |nc h ih=>exact .nc ih
 |X h1 h2 ih1 ih2=>exact .X ih1 ih2
 |U h=>exact .U (V)
 |O h=>exact .O (V)
 |nk h=>exact .nk (V)
theorem Gz (H:ZK)(op:BinOp)(a:List ZL)(y:ZL):lY H op (.agg a) y=none:=by unfold lY;split<;>rfl
attribute [go_sem] Gz
def iX {l:List ZL}{i:Nat}{x:ZL}(h:i<l.length):setAt l i [x]=l.set i x:=by
 unfold setAt;rw[YR,Vh h];simp
def ZP.xD {B H:ZK}(h:ZP B H)(hn:B.A<=n):ZP B (H.cut n):=⟨h.A,fun id hi=>(ve V).trans (h.nf id hi)⟩
section
variable {t:TypeId} {x y:Operand} {k k':IntKind} {a b:Int}
def xE (n:Int):IntKind.u64.wrap n=n % 18446744073709551616:=by simp[IntKind.wrap,IntKind.bits,IntKind.signed]
def su (hb:0<=b):aU P .shr t x y (.lit (.int k a)) (.lit (.int k' b))=some (.lit (.int k (a.fdiv (2 ^ (min b.toNat k.bits))))):=by
 have h:¬b<0:=V
 simp[aU,ZL.cU,eqGuard,binOp,Op.shift,h,aP,bind,Sem.bind,pure]
def AY (hb:0<=b):aU P .shl t x y (.lit (.int k a)) (.lit (.int k' b))=some (.lit (.int k (k.wrap (a*2 ^ (min b.toNat k.bits))))):=by
 have h:¬b<0:=V
 simp[aU,ZL.cU,eqGuard,binOp,Op.shift,h,aP,bind,Sem.bind,pure]
def qt:aU P .and t x y (.lit (.int k a)) (.lit (.int k b))=some (.lit (.int k (k.wrap ((BitVec.ofInt k.bits a &&& BitVec.ofInt k.bits b).toNat:Nat)))):=by
 simp[aU,ZL.cU,eqGuard,binOp,Op.intBits,aP,bind,Sem.bind,pure]
def UB:aU P .or t x y (.lit (.int k a)) (.lit (.int k b))=some (.lit (.int k (k.wrap ((BitVec.ofInt k.bits a |||BitVec.ofInt k.bits b).toNat:Nat)))):=by
 simp[aU,ZL.cU,eqGuard,binOp,Op.intBits,aP,bind,Sem.bind,pure]
def UC:aU P .andNot t x y (.lit (.int k a)) (.lit (.int k b))=some (.lit (.int k (k.wrap ((BitVec.ofInt k.bits a &&& ~~~ BitVec.ofInt k.bits b).toNat:Nat)))):=by
 simp[aU,ZL.cU,eqGuard,binOp,Op.intBits,aP,bind,Sem.bind,pure]
def aL (m:Nat):ZL:=.lit (.int .u64 (m:Int))
def eE (a b:Nat):Nat:=(BitVec.ofNat 64 a &&& ~~~ BitVec.ofNat 64 b).toNat
def sv {m:Nat}(h:m<2 ^ 64):(BitVec.ofInt 64 (m:Int)).toNat=m:=by rw[BitVec.ofInt_natCast,BitVec.toNat_ofNat,Xy h]
def AZ (a b:Nat):eE a b<2 ^ 64:=(BitVec.isLt _)
def mA {a b i:Nat}(ha:a<2 ^ 64):(eE a b).testBit i=(a.testBit i && !b.testBit i):=by
 unfold eE;by_cases hi:i<64
 ·rw[<- BitVec.getLsbD,BitVec.getLsbD_and,BitVec.getLsbD_not,BitVec.getLsbD_ofNat,BitVec.getLsbD_ofNat];simp[hi]
 ·have h1:a.testBit i=false:=Wy (Vn ha (Vr ZH V));rw[h1,<- BitVec.getLsbD,BitVec.getLsbD_of_ge _ _ V];rfl
def qu {m:Nat}(h:m<2 ^ 64):IntKind.u64.wrap (m:Int)=m:=VK _ (V)
def mB {a b:Nat}(ha:a<2 ^ 64)(hb:b<2 ^ 64):aU P .and t x y (.lit (.int .u64 (a:Int))) (.lit (.int .u64 (b:Int)))=some (.lit (.int .u64 ((a &&& b:Nat):Int))):=by
 rw[qt];have e:(BitVec.ofInt (IntKind.bits .u64) (a:Int) &&& BitVec.ofInt (IntKind.bits .u64) (b:Int)).toNat=a &&& b:=by
  show (BitVec.ofInt 64 _ &&& BitVec.ofInt 64 _).toNat=_;rw[BitVec.toNat_and,sv ha,sv hb]
 rw[e,qu (W4 YE ha)]
def j5 {a b:Nat}(ha:a<2 ^ 64)(hb:b<2 ^ 64):aU P .or t x y (.lit (.int .u64 (a:Int))) (.lit (.int .u64 (b:Int)))=some (.lit (.int .u64 ((a |||b:Nat):Int))):=by
 rw[UB];have e:(BitVec.ofInt (IntKind.bits .u64) (a:Int) |||BitVec.ofInt (IntKind.bits .u64) (b:Int)).toNat=a |||b:=by
  show (BitVec.ofInt 64 _ |||BitVec.ofInt 64 _).toNat=_;rw[BitVec.toNat_or,sv ha,sv hb]
 rw[e,qu (WR ha hb)]
def pe {a b:Nat}:aU P .andNot t x y (.lit (.int .u64 (a:Int))) (.lit (.int .u64 (b:Int)))=some (.lit (.int .u64 ((eE a b:Nat):Int))):=by
 rw[UC];have e:(BitVec.ofInt (IntKind.bits .u64) (a:Int) &&& ~~~ BitVec.ofInt (IntKind.bits .u64) (b:Int)).toNat=eE a b:=by
  show (BitVec.ofInt 64 _ &&& ~~~ BitVec.ofInt 64 _).toNat=_;rw[BitVec.ofInt_natCast,BitVec.ofInt_natCast];rfl
 rw[e,qu (AZ a b)]
def jm {a s:Nat}(ha:a<2 ^ 64):aU P .shr t x y (.lit (.int .u64 (a:Int))) (.lit (.int k' (s:Int)))=some (.lit (.int .u64 ((a >>> s:Nat):Int))):=by
 rw[su V,Int.toNat_natCast];have e:(a:Int).fdiv (2 ^ (min s (IntKind.bits .u64)))=((a >>> s:Nat):Int):=by
  rw[Yk _ (by exact_mod_cast WK _),XP];show (a:Int) / 2 ^ (min s 64)=_;rcases Nat.le_total s 64 with h|h
  ·rw[XJ h];push_cast;rfl
  ·rw[Nat.min_eq_right h];have h1:a / 2 ^ s=0:=W6 (Vn ha (Vr ZH h));rw[h1];exact XE V (V)
 rw[e]
def lP {s:Nat}(hs:s<64):aU P .shl t x y (.lit (.int .u64 1)) (.lit (.int k' (s:Int)))=some (.lit (.int .u64 ((2 ^ s:Nat):Int))):=by
 rw[AY V,Int.toNat_natCast];have e:min s (IntKind.bits .u64)=s:=XJ (by show s<=64;omega);have h2:2 ^ s<2 ^ 64:=Ww ZH hs;rw[e,Yi];have h3:((2:Int) ^ s)=((2 ^ s:Nat):Int):=by push_cast;rfl
 rw[h3,qu h2]
def pf {a s:Nat}(ha:a<2 ^ 64):aU P .and t x y (.lit (.int .u64 ((a >>> s:Nat):Int))) (.lit (.int .u64 1))=some (.lit (.int .u64 (if a.testBit s then 1 else 0))):=by
 have h1:a >>> s<2 ^ 64:=W4 (Ys _ _) ha;have:=mB (P:=P) (t:=t) (x:=x) (y:=y) (a:=a >>> s) (b:=1) h1 ZH;rw[show (((1:Nat):Int))=1 from rfl]at this;rw[this,Nat.and_one_is_mod];congr 3;rw[Nat.testBit,Nat.and_comm,Nat.and_one_is_mod];rcases Nat.mod_two_eq_zero_or_one (a >>> s) with h|h<;>rw[h]<;>rfl
end
end Go.Hx
namespace Go.Proofs
open Go.Hx
variable {a b c n v:Int}{cs l:List Int}{i j k:Nat}{α:Type}
def cL (H:ZK)(b:ZR)(L:List ZR):(ext H (b :: L)).get H.A=some b:=bM H (b :: L) 0 (ZG)
def A0 (l:List Int)(n:Nat):(ints l).take n=ints (l.take n):=by simp[ints]
def A1 (l:List Int)(n:Nat):(ints l).drop n=ints (l.drop n):=by simp[ints]
def aZ {l:List α}{a:α}(h:l[i]?=some a):¬l=[]:=by rintro rfl;simp at h
def iR {x:Int}(h:i<l.length):setAt (ints l) i [.lit (.int .i64 x)]=ints (l.set i x):=by
 rw[iX (by simpa[ints] using h)];simp[ints,aa]
def mC (w:Bool):sZ w (some (.lit undef))=some false:=rfl
def aT (ns:List ZM)(x:ZM):List Int:=aK (au ns) x.F
def bL:List Int->List Int->Int
 |_ :: cs,v :: vs=>v*aC cs+bL cs vs
 |_,_=>0
def bU:List Int->Int->List Int
 | [],_=>[]
 |c :: cs,i=>i / aC cs % c :: bU cs i
def vV (cs:List Int)(i:Int):(bU cs i).length=cs.length:=by
 induction cs with
 |nil=>rfl
 |cons c cs ih=>simp[bU,ih]
def QB {l:List α}{a:α}(h:l[k]?=some a):l.drop k=a :: l.drop (k+1):=by
 rw[Wb (aO h)];congr 1;have:=Vf (aO h);rw[h]at this;exact(Option.some.inj this).symm
def zM (h:∀c∈cs,1<=c)(i:Int):∀(k:Nat) (c v:Int),cs[k]?=some c->(bU cs i)[k]?=some v->0<=v/\v<c:=by
 induction cs with
 |nil=>intro k c v h;simp at h
 |cons a cs ih =>
  intro k c v h1 h2;cases k with
  |zero =>
   simp only[bU,List.getElem?_cons_zero,Option.some.injEq]at h1 h2;subst h1;subst h2;have:=h a ZG;exact⟨Yj _ V,XI _ V⟩
  |succ k =>
   simp only[bU,List.getElem?_cons_succ]at h1 h2;exact ih (fun c hc=>h c (by simp[hc])) k c v h1 h2
def cJ (cs vs:List Int):Prop:=vs.length=cs.length/\∀(k:Nat) (c v:Int),cs[k]?=some c->vs[k]?=some v->0<=v/\v<c
def cJ.tail {vs:List Int}(h:cJ (c :: cs) (v :: vs)):cJ cs vs:=⟨by simpa using h.1,fun k c v h1 h2=>h.2 (k+1) c v (by simpa using h1) (by simpa using h2)⟩
def cJ.head {vs:List Int}(h:cJ (c :: cs) (v :: vs)):0<=v/\v<c:=h.2 0 c v ZG (ZG)
def cJ.pos {vs:List Int}(h:cJ cs vs):∀c∈cs,1<=c:=fun c hc=>by
 obtain⟨k,hk⟩:=Vl.1 hc;obtain⟨v,hv⟩:=ay (l:=vs) (i:=k) (by rw[h.1];exact aO hk);have:=h.2 k c v hk hv;omega
def tL (h:∀c∈cs,1<=c)(i:Int):cJ cs (bU cs i):=⟨vV cs i,zM h i⟩
def oD:∀ {cs vs:List Int},cJ cs vs->0<=bL cs vs/\bL cs vs<aC cs:=by
 intro cs
 induction cs with
 |nil=>intro vs _;cases vs<;>(simp[bL,iM])
 |cons c cs ih =>
  intro vs h;cases vs with
  |nil=>exact absurd h.1 (ZG)
  |cons v vs =>
   have h1:=ih h.tail;have h2:=h.head;have hp:1<=aC cs:=fX fun x hx=>h.pos x (by simp[hx]);rw[iN];simp only[bL];have h3:0<=v*aC cs:=W2 h2.1 V;have h4:(v+1)*aC cs<=c*aC cs:=W3 V V;rw[YP,Yi]at h4;omega
def tM:∀ {cs vs:List Int},cJ cs vs->bU cs (bL cs vs)=vs:=by
 have key:∀(cs:List Int) (i a c:Int),(∀x∈cs,1<=x)->bU cs (a*aC cs*c+i)=bU cs i:=by
  intro cs
  induction cs with
  |nil=>intros;rfl
  |cons x cs ih =>
   intro i a c h;have hx:=h x ZG;have hp:1<=aC cs:=fX fun y hy=>h y (by simp[hy]);simp only[bU,iN];have e1:a*(x*aC cs)*c+i=i+aC cs*(x*(a*c)):=by
    rw[Yq];congr 1;ac_rfl
   have e2:a*(x*aC cs)*c+i=a*aC cs*(x*c)+i:=(by congr 1;ac_rfl);congr 1
   ·rw[e1,Int.add_mul_ediv_left _ _ V,Int.add_mul_emod_self_left]
   ·rw[e2];exact ih i a (x*c) fun y hy=>h y (by simp[hy])
 intro cs
 induction cs with
 |nil=>intro vs h;cases vs with
  |nil=>rfl
  |cons=>exact absurd h.1 (ZG)
 |cons c cs ih =>
  intro vs h;cases vs with
  |nil=>exact absurd h.1 (ZG)
  |cons v vs =>
   have hp:1<=aC cs:=fX fun x hx=>h.pos x (by simp[hx]);have hr:=oD h.tail;have h2:=h.head;simp only[bL,bU];congr 1
   ·rw[Yq,XZ _ _ V,XE hr.1 hr.2,YJ,X2 h2.1 h2.2]
   ·have:=key cs (bL cs vs) v 1 fun x hx=>h.pos x (by simp[hx]);rw[ZE]at this;rw[this];exact ih h.tail
def QC (i m n:Int)(hm:0<m)(hn:0<n):i % (m*n)=i % m+m*(i / m % n):=by
 have h1:=YK i (m*n);have h2:=YK i m;have h3:=YK (i / m) n;have h4:i / m / n=i / (m*n):=Int.ediv_ediv_of_nonneg V;rw[h4]at h3;have h5:m*(i / m)=m*(i / m % n)+m*n*(i / (m*n)):=by
  conv=>lhs;rw[<- h3]
  rw[X1,Xh]
 omega
def zQ (h:∀c∈cs,1<=c):∀ {i:Int},0<=i->i<aC cs->bL cs (bU cs i)=i:=by
 have:∀(cs:List Int) (i:Int),(∀c∈cs,1<=c)->bL cs (bU cs i)=i % aC cs:=by
  intro cs
  induction cs with
  |nil=>intro i _;simp[bL,bU,iM]
  |cons c cs ih =>
   intro i h;have hp:1<=aC cs:=fX fun x hx=>h x (by simp[hx]);simp only[bL,bU];rw[ih i fun x hx=>h x (by simp[hx]),iN,Wx c,QC _ _ _ (by omega:0<aC cs) (by have:=h c ZG;omega)];rw[Wx];omega
 intro i h0 h1;rw[this cs i h,X2 h0 h1]
def iC (cs vs:List Int):Int:=(cs.zip vs).foldl (fun a p=>a*p.1+p.2) 0
def QD:∀(cs vs:List Int),vs.length=cs.length->∀a,(cs.zip vs).foldl (fun a p=>a*p.1+p.2) a=a*aC cs+bL cs vs:=by
 intro cs
 induction cs with
 |nil=>intro vs _ a;simp[iM,bL]
 |cons c cs ih =>
  intro vs h a;cases vs with
  |nil=>simp at h
  |cons v vs =>
   simp only[WX,Wk];rw[ih vs (by simpa using h),iN];simp only[bL];rw[YP,Xh];omega
def vW {vs:List Int}(h:vs.length=cs.length):iC cs vs=bL cs vs:=by
 unfold iC;rw[QD cs vs h];omega
def vX {vs:List Int}(h1:cs[k]?=some c)(h2:vs[k]?=some v):iC (cs.take (k+1)) (vs.take (k+1))=iC (cs.take k) (vs.take k)*c+v:=by
 unfold iC;rw[bd h1,bd h2,List.zip_append (by have:=aO h1;have:=aO h2;simp;omega),Wn];rfl
def lg:List Int->List Int->Option (List Int)
 |c :: cs,v :: vs=>match lg cs vs with
  |some ws=>some (v :: ws)
  |none=>if v+1<c then some ((v+1) :: cs.map fun _=>0) else none
 |_,_=>none
def Ec (h:∀c∈cs,1<=c):bU cs 0=cs.map fun _=>0:=by
 induction cs with
 |nil=>rfl
 |cons c cs ih=>simp[bU,ih fun x hx=>h x (by simp[hx])]
def QE:∀ {cs vs:List Int},cJ cs vs->lg cs vs=if bL cs vs+1<aC cs then some (bU cs (bL cs vs+1)) else none:=by
 intro cs
 induction cs with
 |nil=>intro vs h;cases vs with
  |nil=>simp[lg,bL,iM]
  |cons=>exact absurd h.1 (ZG)
 |cons c cs ih =>
  intro vs h;cases vs with
  |nil=>exact absurd h.1 (ZG)
  |cons v vs =>
   have hpos:∀x∈cs,1<=x:=fun x hx=>h.pos x (by simp[hx]);have hp:1<=aC cs:=fX hpos;have hr:=oD h.tail;have h2:=h.head;have hv:=tM h.tail;simp only[lg,ih h.tail,bL,iN];by_cases hb:bL cs vs+1<aC cs
   ·rw[Vh hb];have h4:(v+1)*aC cs<=c*aC cs:=W3 V V;rw[YP,Yi]at h4;have hlt:v*aC cs+bL cs vs+1<c*aC cs:=V;rw[Vh hlt];simp only[bU];have g1:v=(v*aC cs+bL cs vs+1) / aC cs % c:=by
     rw[Int.add_assoc,Yq,XZ _ _ V,XE V hb,YJ,X2 h2.1 h2.2]
    have g2:bU cs (bL cs vs+1)=bU cs (v*aC cs+bL cs vs+1):=by
     have e:bL cs vs+1=bL cs (bU cs (bL cs vs+1)):=(zQ hpos V hb).symm;have f:cJ (c :: cs) (v :: bU cs (bL cs vs+1)):=⟨by simp[vV],fun k c' v' h1 h3=>by
      cases k with
      |zero=>simp at h1 h3;subst h1;subst h3;exact h2
      |succ k=>exact zM hpos _ k c' v' (by simpa using h1) (by simpa using h3)⟩
     have:=tM f;simp only[bL,bU,List.cons.injEq]at this;rw[<- e]at this;rw[Int.add_assoc];exact this.2.symm
    rw[<- g1,<- g2]
   ·rw[Vg hb];have hi:bL cs vs+1=aC cs:=V;have e1:v*aC cs+bL cs vs+1=(v+1)*aC cs:=(by rw[YP];omega);rw[e1];by_cases hc:v+1<c
    ·rw[Vh hc];have h4:(v+1)*aC cs<c*aC cs:=Int.mul_lt_mul_of_pos_right hc V;rw[Vh h4];simp only[bU];congr 1;congr 1
     ·rw[Int.mul_ediv_cancel _ V,X2 V hc]
     ·have f:cJ (c :: cs) ((v+1) :: bU cs 0):=⟨by simp[vV],fun k c' v' h1 h3=>by
       cases k with
       |zero=>simp at h1 h3;subst h1;subst h3;omega
       |succ k=>exact zM hpos _ k c' v' (by simpa using h1) (by simpa using h3)⟩
      have:=tM f;simp only[bL,bU,List.cons.injEq]at this;rw[zQ hpos (Int.le_refl 0) V,XL]at this;rw[this.2,Ec hpos]
    ·rw[Vg hc];have h4:c*aC cs<=(v+1)*aC cs:=W3 V V;rw[Vg V]
def fb (l:List Int):Prop:=l.length<=12/\∀x∈l,0<=x/\x<=8
def fb.prod (h:fb l):0<=aC l/\aC l<=68719476736:=by
 have h1:=pS (b:=8) V h.2;have h2:(8:Int) ^ l.length<=8 ^ 12:=by
  have:(8:Nat) ^ l.length<=8 ^ 12:=Vr ZH h.1
  exact_mod_cast this
 exact⟨h1.1,Yp h1.2 h2⟩
theorem fb.take (h:fb l)(k:Nat):fb (l.take k):=⟨by have:=h.1;simp;omega,fun x hx=>h.2 x (VE hx)⟩
theorem fb.drop (h:fb l)(k:Nat):fb (l.drop k):=⟨by have:=h.1;simp;omega,fun x hx=>h.2 x (Xk hx)⟩
def Te (l:List Int)(hl:fb l)(H:ZK)(K:ZQ->ZK->Prop)(hK:K (.ret (aa (aC l))) H):ae Tryz.prog G0 75 [af l] H K:=by
 have l12:=hl.1;refine ae.st (n:=18) (rs:=[.tmp 2]) Tryz.func75 ?_;simp only[go_sem];refine W.aS 131064 (by rfl) (fun ρ H'=>H'=H/\∃k:Nat,ρ 4=aa k/\k<=l.length/\ρ 3=aa (aC (l.take k))) (fun ρ H=>l.length-(iv (ρ 4)).toNat) ?_ ?_
 ·simp only[go_sem];exact⟨0,rfl,V,by simp[iM]⟩
 rintro ρ H' ⟨rfl,k,h4,hk,h3⟩;refine W.vs ?_;by_cases hb:(k:Int)<l.length
 ·obtain⟨c,hc⟩:=ay (l:=l) (i:=k) V;have hne:=aZ hc;have b1:=(hl.take (k+1)).prod;rw[bd hc,jh]at b1;simp only[go_sem,h4,h3,hb,hc,hne];rw[Vd ((k:Int)+1) V,Vd (_*c) V];exact⟨⟨k+1,ZG,V,by rw[bd hc,jh]⟩,V⟩
 ·simp only[go_sem,h4,h3,hb];rw[Vi V];exact aj.mk ZJ hK
def oU (x:List Int)(hx:(x.length:Int)<2 ^ 40)(H:ZK)(K:ZQ->ZK->Prop)(hK:K (.ret (af x)) H):ae Tryz.prog G0 88 [af x] H K:=by
 refine ae.X ⟨_,Tryz.func88,rfl,rfl⟩ fun hc=>?_;refine ae.st (n:=8) (rs:=[.tmp 2]) Tryz.func88 ?_;simp only[go_sem];intro b hlen;cases b with
 |true =>
  have hx0:x=[]:=Vp (by
   by_cases h:0<x.length
   ·have:=hlen (by simpa using h);cases this
   ·omega)
  simp only[go_sem];subst hx0;exact aj.K6 aF hc .yH hK
 |false =>
  by_cases h0:x.length=0
  ·have hx0:x=[]:=Vp h0;subst hx0;simp only[go_sem,az];refine⟨⟨rfl,rfl⟩,aj.drop (v':=af []) aF hc ?_ hK⟩;exact .ints ZJ (cL ..) rfl fun i hi=>absurd hi (Vt _)
  ·simp only[go_sem,h0,az];refine⟨⟨rfl,V,V,kW x⟩,aj.drop aF hc ?_ hK⟩;exact .ints ZJ (cL ..) rfl fun i hi=>by simp[gZ,hi]
instance placesDec (l:List Int)(n:Int):Decidable (bW l n):=by unfold bW;infer_instance
theorem bW.nil :bW [] n:=⟨.nil,fun _ h=>by cases h⟩
theorem bW.take (h:bW l n)(k:Nat):bW (l.take k) n:=⟨h.1.sublist (List.take_sublist k l),fun p hp=>h.2 p (VE hp)⟩
def bW.snoc (h:bW l n)(ha:0<=a/\a<n)(hl:∀b,l.getLast?=some b->b<a):bW (l++[a]) n:=by
 refine⟨Xj.2 ⟨h.1,ZG,fun x hx y hy=>?_⟩,fun p hp=>?_⟩
 ·obtain rfl:=List.mem_singleton.1 hy;rcases X7 l with rfl|⟨l',b,rfl⟩
  ·cases hx
  ·have hb:=hl b ZG;simp only[X8]at hx h;rcases VH.1 hx with hx|hx
   ·have:=(Xj.1 h.1).2.2 x hx b ZG;omega
   ·obtain rfl:=List.mem_singleton.1 hx;exact hb
 ·rcases VH.1 hp with hp|hp
  ·exact h.2 p hp
  ·obtain rfl:=List.mem_singleton.1 hp;exact ha
def bW.lt (h:bW l n)(ha:l[i]?=some a)(hb:l[j]?=some b)(hij:i<j):a<b:=by
 have:=Ws.1 h.1 i j (aO ha) (aO hb) hij;have e1:=Vf (aO ha);have e2:=Vf (aO hb);rw[ha]at e1;rw[hb]at e2;rw[Option.some.inj e1,Option.some.inj e2];exact this
def bW.len (h:bW l n):(l.length:Int)<=max n 0:=by
  -- the k-th place is at least k
 have key:∀(k:Nat) (a:Int),l[k]?=some a->(k:Int)<=a:=by
  intro k
  induction k with
  |zero=>intro a ha;have:=h.2 a (an ha);omega
  |succ k ih =>
   intro a ha;obtain⟨b,hb⟩:=ay (l:=l) (i:=k) (by have:=aO ha;omega);have:=ih b hb;have:=h.lt hb ha V;omega
 rcases Wo l.length with h0|h0
 ·omega
 ·obtain⟨a,ha⟩:=ay (l:=l) (i:=l.length-1) V;have h1:=key _ a ha;have h2:=h.2 a (an ha);omega
def xe (h:l[j]?=some b):(l.take (j+1)).getLast?=some b:=by rw[bd h];simp
def FX (l:List Int)(n:Int)(hl:(l.length:Int)<2 ^ 62)(H:ZK)(K:ZQ->ZK->Prop)(hK:K (.ret (.lit (.bool (decide (bW l n))))) H):ae Tryz.prog G0 142 [af l,aa n] H K:=by
 have no:¬bW l n->aj Tryz.prog G0 H K (.lit (.bool false)) H:=fun h=>aj.mk ZJ (by rw[V7 h]at hK;exact hK);refine ae.st (n:=24) (rs:=[.tmp 4]) Tryz.func142 ?_;simp only[go_sem];refine W.aS 16776368 (by rfl) (fun ρ H'=>H'=H/\∃(k:Nat) (b:Int),ρ 10=aa k/\k<=l.length/\ρ 5=aa b/\bW (l.take k) n/\(l.take k).getLast?.getD (-1)=b) (fun ρ H=>l.length-(iv (ρ 10)).toNat) ?_ ?_
 ·simp only[go_sem];exact⟨0,-1,rfl,V,rfl,.nil,rfl⟩
 rintro ρ H' ⟨rfl,k,b,h10,hk,h5,hp,hbl⟩;refine W.vs ?_;by_cases hb:(k:Int)<l.length
 ·obtain⟨a,ha⟩:=ay (l:=l) (i:=k) V;have hne:=aZ ha;have ham:=an ha;by_cases c1:a<=b
  ·simp only[go_sem,h10,h5,hb,ha,hne,c1];refine no fun h=>?_;have h0:=h.2 a ham;rcases Wo k with rfl|hk0
   ·simp at hbl;omega
   ·obtain⟨j,rfl⟩:∃j,k=j+1:=⟨k-1,V⟩
    obtain⟨b',hbj⟩:=ay (l:=l) (i:=j) V;rw[xe hbj]at hbl;have:=h.lt hbj ha V;simp at hbl;omega
  by_cases c2:a >= n
  ·simp only[go_sem,h10,h5,hb,ha,hne,c1,c2];exact no fun h=>by have:=h.2 a ham;omega
  have w1:=Vd ((k:Int)+1) V;simp only[go_sem,h10,h5,hb,ha,hne,c1,c2,w1];have h0:0<=a:=by
   rcases hg:(l.take k).getLast? with _|b'
   ·rw[hg]at hbl;simp at hbl;omega
   ·rw[hg]at hbl;have:=hp.2 b' (Zp hg);simp at hbl;omega
  refine⟨⟨k+1,a,ZG,V,rfl,?_,by rw[xe ha];rfl⟩,V⟩;rw[bd ha];exact hp.snoc ⟨h0,V⟩ fun b' hb'=>by rw[hb']at hbl;simp at hbl;omega
 ·simp only[go_sem,h10,hb];rw[Vi V]at hp;rw[VD hp]at hK;exact aj.mk ZJ hK
end Go.Proofs
namespace Go.Hx
variable {g id:Nat}{H H':ZK}
theorem ZP.na (h:ZP H H')(hi:id<H.A):H'.na id g=H.na id g:=by
 unfold ZK.na;rw[h.nf id hi]
theorem ZP.upd (h:ZP H H')(hi:H.A<=id)(b:ZR):ZP H (H'.upd id b):=⟨h.A,fun j hj=>by rw[ah,Vg V];exact h.nf j hj⟩
def GA {e:TypeId}{c:List ZL}:(H.upd id (.J g e c)).na id g=some (e,c):=ag (by rw[ah,Vh rfl])
def lQ {j:Nat}{b:ZR}(h:j≠id):(H.upd id b).na j g=H.na j g:=by unfold ZK.na;rw[ah,Vg h]
attribute [go_sem] GA
@[go_sem] theorem Vc (a b:Array TypeId)(c:Bool)(n:Nat)(cells:List ZL)(off:Nat):mQ (some (.func a b c)) n cells off=cells[off]?:=rfl
end Go.Hx
namespace Go.Proofs
open Go.Hx
variable {c l:List Int}{ps:List Nat}{a i id k m n t:Nat}{H H':ZK}{v:ZL}
def mo {H2:ZK}{e:TypeId}{cs:List ZL}(ov:ZP H H')(h:aI H.A H' e v cs)(hn:H'.A<=H2.A)(hp:∀k,k<H'.A->(∀g n,v≠.U k g 0 n 1)->H2.get k=H'.get k):ZP H H2 :=
 ⟨VM ov.A hn,fun id hi=>by
  rw[hp id (Vn hi ov.A) fun g n he=>?_,ov.nf id hi];rcases h with ⟨h,_⟩|⟨i2,g2,a1,_,h,_⟩
  ·rw[h]at he;cases he
  ·rw[h]at he;have:=ZL.U.inj he;omega⟩
def mD (x:Int)(ov:ZP H H')(h:aI H.A H' 3 v (ints l))(hl:l.length<2 ^ 40):
  ∃v' H2,bS Tryz.prog (ext H' [.J 0 3 [.lit (.int .i64 x)]]) (H'.A+1) 72 72 v (.U H'.A 0 0 1 1)=some (v',H2)/\ZP H H2/\aI H.A H2 3 v' (ints (l++[x]))/\H'.A<=H2.A/\(∀k,k<H'.A->(∀g n,v≠.U k g 0 n 1)->H2.get k=H'.get k):=by
 obtain⟨v',H2,hA,hO,hn2,hp⟩:=jv (P:=Tryz.prog) (H:=H') (t:=72) (x:=aa x) (n:=H'.A+1) Tryz.underlying72 Tryz.fC Tryz.fm rfl (by rw[Tryz.fV,bD];omega) h ov.A rfl;simp only[aa]at hA;exact⟨v',H2,hA,mo ov h hn2 hp,by simpa[ints,aa] using hO,hn2,hp⟩
def UD (l:List (List Int)):(bb l).one=true:=rfl
def UE (l:List (List Int)):(bb l).cells=[bb l]:=rfl
def UF (l:List ZM):(eQ l).one=true:=rfl
def UG (l:List ZM):(eQ l).cells=[eQ l]:=rfl
def UH (l:List ZY):(vS l).one=true:=rfl
theorem UI (l:List ZY):(vS l).cells=[vS l]:=rfl
attribute [go_sem] UD UE UF UG UH UI
structure Z8 (H H':ZK)(id:Nat)(c:List Int):Prop where
 ov:ZP H H'
 lo:H.A<=id
 hi:id<H'.A
 get:H'.get id=some (.J 0 3 (ints c))
theorem Z8.na (h:Z8 H H' id c):H'.na id 0=some (3,ints c):=ag h.get
def Z8.UJ (h:Z8 H H' id c)(L:List ZR):(ext H' L).na id 0=some (3,ints c):=by rw[eF h.hi];exact h.na
def Z8.ne (h:Z8 H H' id c):¬id=H'.A:=by have:=h.hi;omega
def Z8.over {H2:ZK}(h:Z8 H H' id c)(o:ZP H' H2):Z8 H H2 id c:=⟨h.ov.trans o,h.lo,Vn h.hi o.A,(o.nf id h.hi).trans h.get⟩
def Z8.store (h:Z8 H H' id c)(hk:k<c.length)(x:Int):Z8 H (H'.upd id (.J 0 3 (setAt (ints c) k [.lit (.int .i64 x)]))) id (c.set k x) :=
 ⟨⟨h.ov.A,fun i hi=>by rw[ah,Vg (by have:=h.lo;omega)];exact h.ov.nf i hi⟩,h.lo,h.hi,by rw[ah,Vh rfl,iR hk]⟩
def Z8.UK (h:Z8 H H' id c)(L:List ZR)(hk:k<c.length)(x:Int):Z8 H ((ext H' L).upd id (.J 0 3 (setAt (ints c) k [.lit (.int .i64 x)]))) id (c.set k x) :=
 (h.over (.ext H' L)).store hk x
def Z8.new (L:List ZR)(n:Nat):Z8 H (ext H (.J 0 3 (List.replicate n (.lit (.int .i64 0))) :: L)) H.A (List.replicate n 0) :=
 ⟨.ext _ _,ZJ,by simp[aW],by rw[cL];simp[ints,aa]⟩
def Z8.fin {K:ZQ->ZK->Prop}(hcl:Clo H)(h:Z8 H H' id c)(hn:n=c.length)(hK:K (.ret (af c)) H):aj Tryz.prog G0 H K (.U id 0 0 n 1) H':=by
 subst hn;refine aj.bB aF hcl h.ov ?_ hK;exact .ints h.lo h.get ZG fun i hi=>by simp[gZ,hi]
def GB {m:List Int}{x:Int}(h:l.take k=m.take k)(hk:k<l.length)(hx:m[k]?=some x):(l.set k x).take (k+1)=m.take (k+1):=by
 rw[bd hx,bd (show (l.set k x)[k]?=some x by rw[VB hk]),Yg (Nat.le_refl k),h]
def bI {α:Type}{l:List α}{a d:α}(h:l[i]?=some a):l.getD i d=a:=by rw[Vj,h];rfl
def Tf {places:List Int}{p:Int}(h:places[k]?=some p):aK l (places.take (k+1))=aK l (places.take k)++[l.getD p.toNat 0]:=by
 unfold aK;rw[bd h];simp
def cS {ns:List ZM}{x:ZM}(h:ns[k]?=some x):(au ns)[k]?=some x.L:=by unfold au;rw[List.getElem?_map,h];rfl
def eU (ns:List ZM):(au ns).length=ns.length:=by simp[au]
def Tg (g:Int)(ns:List ZM)(hl:(ns.length:Int)<2 ^ 39)(H:ZK)(K:ZQ->ZK->Prop)(hK:K (.ret (af (au ns))) H):ae Tryz.prog G0 84 [eZ g ns] H K:=by
 refine ae.X ⟨_,Tryz.func84,rfl,rfl⟩ fun hcl=>?_;refine ae.st (n:=22) (rs:=[.tmp 2]) Tryz.func84 ?_;simp only[go_sem,eZ,eQ];obtain⟨H1,hH1⟩:∃H1,H1=ext H [.J 0 90 [.lit (.int .i64 g),.Q ns.length (aG ns)]]:=⟨_,rfl⟩
 have l1:H1.na H.A 0=some (90,[.lit (.int .i64 g),.Q ns.length (aG ns)]):=by rw[hH1];exact ag (cL ..)
 have n1:H1.A=H.A+1:=hH1▸rfl
 have o1:ZP H H1:=hH1▸.ext _ _
 rw[<- hH1];refine W.aS 2097144 (by rfl) (fun ρ H'=>∃k:Nat,ρ 4=aa k/\k<=ns.length/\ρ 1=.O H.A 0 0/\ZP H1 H'/\aI H1.A H' 3 (ρ 3) (ints ((au ns).take k))) (fun ρ H=>ns.length-(iv (ρ 4)).toNat) ?_ ?_
 ·simp only[go_sem];exact⟨0,rfl,V,.refl _,.nil⟩
 rintro ρ H' ⟨k,h4,hk,h1,ov,h3⟩;refine W.vs ?_;have l2:=(ov.na (g:=0) (by omega:H.A<H1.A)).trans l1;by_cases hb:(k:Int)<ns.length
 ·obtain⟨x,hx⟩:=ay (l:=ns) (i:=k) V;have hne:=fQ hx;have e0:=mV hx;obtain⟨v',H2,hA,ov2,hO,hn2,_⟩:=mD x.L ov h3 (by simp[au];omega);have w1:=Vd ((k:Int)+1) V;simp only[go_sem,h4,h1,l2,hb,hne,e0,w1,hA];refine⟨by have:=ov2.A;omega,⟨k+1,ZG,V,ov2,?_⟩,V⟩;rw[bd (cS hx)];exact hO
 ·simp only[go_sem,h4,h1,l2,hb];rw[Vi (by rw[eU];omega)]at h3;exact aj.bB aF hcl (o1.trans ov) (h3.iB fun i hi=>V) hK
def FY (ns:List ZM)(hl:(ns.length:Int)<2 ^ 39)(H:ZK)(K:ZQ->ZK->Prop)(hK:K (.ret (af (au ns))) H):ae Tryz.prog G0 145 [eQ ns] H K:=by
 refine ae.X ⟨_,Tryz.func145,rfl,rfl⟩ fun hcl=>?_;refine ae.st (n:=23) (rs:=[.tmp 2]) Tryz.func145 ?_;simp only[go_sem,eQ];refine⟨V,?_⟩;refine W.aS 4192304 (by rfl) (fun ρ H'=>∃(k:Nat) (c:List Int),ρ 11=aa k/\k<=ns.length/\Z8 H H' H.A c/\c.length=ns.length/\c.take k=(au ns).take k) (fun ρ H=>ns.length-(iv (ρ 11)).toNat) ?_ ?_
 ·simp only[go_sem];exact⟨0,_,rfl,V,.new [] ns.length,ZG,rfl⟩
 rintro ρ H' ⟨k,c,h11,hk,ho,hcl',hc⟩;refine W.vs ?_;by_cases hb:(k:Int)<ns.length
 ·obtain⟨x,hx⟩:=ay (l:=ns) (i:=k) V;have hne:=fQ hx;have e0:=oC hx;have e1:k*3+3<=(aG ns).length:=by rw[kq];omega
  have w1:=Vd ((k:Int)+1) V;have l3:=ho.UJ;have nb:=ho.ne;simp only[go_sem,h11,l3,hb,hne,e0,e1,w1];have hkc:k<c.length:=V
  have ho2:=ho.UK [.J 0 76 [.lit (.int .i64 x.L),.Q x.F.length (ints x.F),bb x.nb]] hkc x.L;exact⟨V,by have:=ho2.hi;omega,⟨k+1,_,rfl,V,ho2,by simpa using hcl',GB hc hkc (cS hx)⟩,V⟩
 ·simp only[go_sem,h11,hb];have e:c=au ns:=by
   rw[Vi V,Vi (by rw[eU];omega)]at hc;exact hc
  subst e;exact ho.fin hcl (by rw[eU]) hK
def iI (l:List Int)(n:Nat):Prop:=∀q∈l,0<=q/\q<n
def jj (l p:List Int):(aK l p).length=p.length:=by simp[aK]
def jY {p:List Int}{q:Int}(h:p[k]?=some q):(aK l p)[k]?=some (l.getD q.toNat 0):=by unfold aK;rw[List.getElem?_map,h];rfl
def FZ (ns:List ZM)(v:Nat)(x:ZM)(hx:ns[v]?=some x)(hin:iI x.F ns.length)(hs:fb (aT ns x))(H:ZK)(K:ZQ->ZK->Prop)
  (hK:K (.ret (aa (aC (aT ns x)))) H):ae Tryz.prog G0 111 [eQ ns,aa v] H K:=by
 have hne:=fQ hx;have e1:=mW hx;have hv:(v:Int)<ns.length:=by have:=aO hx;omega
 have l12:=hs.1;have pl:(aT ns x).length=x.F.length:=jj _ _;refine ae.st (n:=27) (rs:=[.tmp 4]) Tryz.func111 ?_;simp only[go_sem,eQ,hv,hne,e1];refine W.aS 67092640 (by rfl) (fun ρ H'=>H'=H/\∃k:Nat,ρ 14=aa k/\k<=x.F.length/\ρ 5=aa (aC ((aT ns x).take k))) (fun ρ H=>x.F.length-(iv (ρ 14)).toNat) ?_ ?_
 ·simp only[go_sem];exact⟨0,rfl,V,by simp[iM]⟩
 rintro ρ H' ⟨rfl,k,h14,hk,h5⟩;refine W.vs ?_;by_cases hb:(k:Int)<x.F.length
 ·obtain⟨q,hq⟩:=ay (l:=x.F) (i:=k) V;obtain⟨j,rfl,y,hy⟩:=mX (l:=ns) (hin q (an hq)).1 (hin q (an hq)).2;have hne2:=aZ hq;have hj:(j:Int)<ns.length:=by have:=aO hy;omega
  have e0:=mV hy;have pk:(aT ns x)[k]?=some y.L:=by
   rw[show (aT ns x)[k]?=_ from jY hq,Int.toNat_natCast,bI (cS hy)]
  have b1:=(hs.take (k+1)).prod;rw[bd pk,jh]at b1;have w1:=Vd ((k:Int)+1) V;have w2:=Vd (aC ((aT ns x).take k)*y.L) V;simp only[go_sem,h14,h5,hb,hq,hne,hne2,hj,e0,w1,w2];exact⟨⟨k+1,ZG,V,by rw[bd pk,jh]⟩,V⟩
 ·simp only[go_sem,h14,h5,hb];rw[Vi V];exact aj.mk ZJ hK
def Th (ns:List ZM)(v:Nat)(x:ZM)(vals:List Int)(hx:ns[v]?=some x)(hin:iI x.F ns.length)(hs:fb (aT ns x))(hf:cJ (au ns) vals)(H:ZK)(K:ZQ->ZK->Prop)
  (hK:K (.ret (aa (bL (aT ns x) (aK vals x.F)))) H):ae Tryz.prog G0 147 [eQ ns,aa v,af vals] H K:=by
 have hne:=fQ hx;have e1:=mW hx;have hv:(v:Int)<ns.length:=by have:=aO hx;omega
 have l12:=hs.1;have pl:(aT ns x).length=x.F.length:=jj _ _;have vl:(aK vals x.F).length=x.F.length:=jj _ _;have hfl:vals.length=ns.length:=by rw[hf.1,eU]
 have at_get:∀(k:Nat) (q:Int),x.F[k]?=some q->∃(j:Nat) (y:ZM) (b:Int),q=j/\ns[j]?=some y/\vals[j]?=some b/\(aT ns x)[k]?=some y.L/\(aK vals x.F)[k]?=some b/\0<=b/\b<y.L:=fun k q hq=>by
  obtain⟨j,rfl,y,hy⟩:=mX (l:=ns) (hin q (an hq)).1 (hin q (an hq)).2;obtain⟨b,hb⟩:=ay (l:=vals) (i:=j) (by rw[hfl];exact aO hy);have r:=hf.2 j y.L b (cS hy) hb;exact⟨j,y,b,rfl,hy,hb,by rw[show (aT ns x)[k]?=_ from jY hq,Int.toNat_natCast,bI (cS hy)],by rw[jY hq,Int.toNat_natCast,bI hb],r⟩
 have ft:∀k,cJ ((aT ns x).take k) ((aK vals x.F).take k):=fun k=>⟨by simp[pl,vl],fun i c b h1 h2=>by
  rw[YS]at h1 h2;split at h1
  ·rename_i hik;rw[Vh hik]at h2;obtain⟨q,hq⟩:=ay (l:=x.F) (i:=i) (by rw[<- pl];exact aO h1);obtain⟨j,y,b',_,_,_,a1,a2,a3⟩:=at_get i q hq;rw[h1]at a1;rw[h2]at a2;cases a1;cases a2;exact a3
  ·cases h1⟩
 have hr:∀k,0<=iC ((aT ns x).take k) ((aK vals x.F).take k)/\iC ((aT ns x).take k) ((aK vals x.F).take k)<68719476737:=fun k=>by
  rw[vW (ft k).1];have a:=oD (ft k);have b:=(hs.take k).prod;omega
 refine ae.st (n:=34) (rs:=[.tmp 6]) Tryz.func147 ?_;simp only[go_sem,eQ,hv,hne,e1];refine W.aS 8589869696 (by rfl) (fun ρ H'=>H'=H/\∃k:Nat,ρ 16=aa k/\k<=x.F.length/\ρ 7=aa (iC ((aT ns x).take k) ((aK vals x.F).take k))) (fun ρ H=>x.F.length-(iv (ρ 16)).toNat) ?_ ?_
 ·simp only[go_sem];exact⟨0,rfl,V,rfl⟩
 rintro ρ H' ⟨rfl,k,h16,hk,h7⟩;refine W.vs ?_;by_cases hb:(k:Int)<x.F.length
 ·obtain⟨q,hq⟩:=ay (l:=x.F) (i:=k) V;obtain⟨j,y,b,rfl,hy,hbv,a1,a2,a3⟩:=at_get k q hq;have hne2:=aZ hq;have hne3:=aZ hbv;have hj:(j:Int)<ns.length:=by have:=aO hy;omega
  have hj2:(j:Int)<vals.length:=V
  have e0:=mV hy;have w1:=Vd ((k:Int)+1) V;have r1:=hr (k+1);rw[vX a1 a2]at r1;have r0:=hr k;have m0:0<=iC ((aT ns x).take k) ((aK vals x.F).take k)*y.L:=W2 r0.1 V;have w2:=Vd (iC ((aT ns x).take k) ((aK vals x.F).take k)*y.L) V;have w3:=Vd (iC ((aT ns x).take k) ((aK vals x.F).take k)*y.L+b) V;simp only[go_sem,h16,hb,hq,hne2];refine W.dr 11 [0,0,0,6,14,30,63,0,0,384,896] Tryz.mixed ?_;simp only[go_sem,h16,h7,hne,hne3,hj,hj2,hbv,e0,w1,w2,w3];exact⟨⟨k+1,ZG,V,by rw[vX a1 a2]⟩,V⟩
 ·simp only[go_sem,h16,h7,hb];rw[Vi V,Vi V,vW (by rw[pl,vl])];exact aj.mk ZJ hK
def bF (l:List Int):Nat:=l.foldl (fun s p=>s |||2 ^ p.toNat) 0
def QG (l:List Int):∀(s i:Nat),(l.foldl (fun s p=>s |||2 ^ p.toNat) s).testBit i=(s.testBit i ||l.any fun p=>p.toNat == i):=by
 induction l with
 |nil=>intro s i;simp
 |cons p l ih =>
  intro s i;simp only[Wk,ih,Vy,Xu,List.any_cons];rw[Bool.or_assoc];congr 1
def iD (h:∀p∈l,0<=p)(i:Nat):(bF l).testBit i=decide ((i:Int)∈l):=by
 unfold bF;rw[QG];simp only[V4,Bool.false_or];rw[WG];simp only[Ya,beq_iff_eq,decide_eq_true_eq];constructor
 ·rintro⟨p,hp,rfl⟩;have:=h p hp;rw[Xx this];exact hp
 ·intro hi;exact⟨_,hi,ZG⟩
def vY (l:List Int)(p:Int):bF (l++[p])=bF l |||2 ^ p.toNat:=by unfold bF;rw[Wn];rfl
def vZ (h:∀i,m.testBit i=true->i<n):m<2 ^ n:=by
 apply Nat.lt_pow_two_of_testBit;intro i hi;rcases WB (m.testBit i) with e|e
 ·exact absurd (h i e) (V)
 ·exact e
def lh (h:∀p∈l,0<=p/\p<n):bF l<2 ^ n:=vZ fun i hi=>by
 rw[iD fun p hp=>(h p hp).1]at hi;have:=(h _ (of_decide_eq_true hi)).2;omega
def mY (h:m<2 ^ n)(hi:m.testBit i=true):i<n:=by
 rcases VC i n with h'|h'
 ·exact h'
 ·rw[Wy (Vn h (Vr ZH h'))]at hi;cases hi
def Sub (s t:Nat):Prop:=∀i,s.testBit i=true->t.testBit i=true
def Sub.refl (s:Nat):Sub s s:=fun _ h=>h
def Sub.trans {s u:Nat}(h:Sub s t)(h':Sub t u):Sub s u:=fun i hi=>h' i (h i hi)
def Sub.or {s u:Nat}(h:Sub s u)(h':Sub t u):Sub (s |||t) u:=fun i hi=>by
 rw[Vy,VN]at hi;exact hi.elim (h i) (h' i)
def Sub.left (s t:Nat):Sub s (s |||t):=fun i hi=>by rw[Vy,hi];rfl
def Sub.right (s t:Nat):Sub t (s |||t):=fun i hi=>by rw[Vy,hi];simp
def Sub.antisymm {s:Nat}(h:Sub s t)(h':Sub t s):s=t:=VW fun i=>by
 rw[WG];exact⟨h i,h' i⟩
def Ed {b:Nat}(ha:a<2 ^ 64):eE a b=0↔Sub a b:=by
 constructor
 ·intro h i hi;have:=mA (a:=a) (b:=b) (i:=i) ha;rw[h,V4,hi]at this;simpa using this.symm
 ·intro h;apply VW;intro i;rw[mA ha,V4];cases hi:a.testBit i
  ·rfl
  ·rw[h i hi];rfl
def mh (ps:List Nat)(s v:Nat):Nat:=if s.testBit v=true then s |||ps.getD v 0 else s
def fY (ps:List Nat)(s:Nat):Nat:=(List.range ps.length).foldl (mh ps) s
def iO (ps:List Nat):Nat->Nat->Nat
 |0,s=>s
 |k+1,s=>fY ps (iO ps k s)
def dP (ps:List Nat)(s:Nat):Nat:=iO ps ps.length s
def jR (ps:List Nat):Prop:=∀v,v<ps.length->(dP ps (ps.getD v 0)).testBit v=false
def mi (ps:List Nat)(t:Nat):Prop:=∀v,v<ps.length->t.testBit v=true->Sub (ps.getD v 0) t
def Ee (ps:List Nat)(s v:Nat):Sub s (mh ps s v):=by unfold mh;split;exact .left _ _;exact .refl _
def Ef (ps:List Nat)(l:List Nat):∀s,Sub s (l.foldl (mh ps) s):=by
 induction l with
 |nil=>exact fun s=>.refl s
 |cons v l ih=>exact fun s=>(Ee ps s v).trans (ih _)
def zR (ps:List Nat)(s:Nat):Sub s (fY ps s):=Ef ps _ s
def QH (hc:mi ps t)(l:List Nat)(hl:∀v∈l,v<ps.length):∀s,Sub s t->Sub (l.foldl (mh ps) s) t:=by
 induction l with
 |nil=>exact fun s h=>h
 |cons v l ih =>
  intro s h;refine ih (fun v hv=>hl v (by simp[hv])) _ ?_;unfold mh;split
  ·rename_i hv;exact h.or (hc v (hl v ZG) (h v hv))
  ·exact h
def QI (hc:mi ps t){s:Nat}(h:Sub s t):Sub (fY ps s) t:=QH hc _ (fun v hv=>Vs.1 hv) s h
def pT (hc:mi ps t)(k:Nat){s:Nat}(h:Sub s t):Sub (iO ps k s) t:=by
 induction k with
 |zero=>exact h
 |succ k ih=>exact QI hc ih
def rC (ps:List Nat)(k s:Nat):Sub s (iO ps k s):=by
 induction k with
 |zero=>exact .refl _
 |succ k ih=>exact ih.trans (zR _ _)
def QJ {s:Nat}(h:fY ps s=s):mi ps s:=by
 intro v hv hs;have key:∀(l:List Nat) (s0:Nat),v∈l->s0.testBit v=true->Sub (ps.getD v 0) (l.foldl (mh ps) s0):=by
  intro l
  induction l with
  |nil=>intro s0 h;cases h
  |cons u l ih =>
   intro s0 hm hb;rcases List.mem_cons.1 hm with rfl|hm
   ·refine Sub.trans ?_ (Ef ps l _);unfold mh;rw[Vh hb];exact .right _ _
   ·exact ih _ hm (Ee ps s0 u v hb)
 have:=key (List.range ps.length) s (Vs.2 hv) hs;unfold fY at h
 rwa [h]at this
def dK (n s:Nat):Nat:=(List.range n).countP fun i=>s.testBit i
def zT (n s:Nat):dK n s<=n:=by have:=List.countP_le_length (p:=fun i=>s.testBit i) (l:=List.range n);simpa[dK] using this
def QK {l:List Nat}{p q:Nat->Bool}(h:∀x∈l,p x=true->q x=true)(ha:a∈l)(hp:p a=false)(hq:q a=true):l.countP p<l.countP q:=by
 induction l with
 |nil=>cases ha
 |cons x l ih =>
  have hm:l.countP p<=l.countP q:=List.countP_mono_left fun y hy=>h y (by simp[hy]);rcases List.mem_cons.1 ha with rfl|ha
  ·rw[Xd,Xd,hp,hq];simp;omega
  ·have:=ih (fun y hy=>h y (by simp[hy])) ha;have hx:=h x ZG;rw[Xd,Xd];cases hpx:p x
   ·simp;omega
   ·rw[hx hpx];simp;omega
def rD {s:Nat}(h:Sub s t)(hi:i<n)(h0:s.testBit i=false)(h1:t.testBit i=true):dK n s<dK n t :=
 QK (fun x _ hx=>h x hx) (Vs.2 hi) h0 h1
def zU (hp:∀p∈ps,p<2 ^ ps.length){s:Nat}(hs:s<2 ^ ps.length):mi ps (dP ps s):=by
 have hb:∀k,iO ps k s<2 ^ ps.length:=fun k=>by
  have ht:mi ps (2 ^ ps.length-1):=fun v _ _ i hi=>by
   rw[WW];have:ps.getD v 0<2 ^ ps.length:=by
    rw[Vj];cases h:ps[v]? with
    |none=>exact Xn _
    |some p=>exact hp p (an h)
   simpa using mY this hi
  have:=pT ht k (s:=s) fun i hi=>by rw[WW];simpa using mY hs hi
  exact vZ fun i hi=>by have:=this i hi;rw[WW]at this;simpa using this
 have key:∀k,fY ps (iO ps k s)=iO ps k s\/k+1<=dK ps.length (iO ps k s):=by
  have grow:∀t,t<2 ^ ps.length->fY ps t<2 ^ ps.length->fY ps t≠t->dK ps.length t<dK ps.length (fY ps t):=fun t ht ht' hne=>by
   have:∃i,(fY ps t).testBit i=true/\t.testBit i=false:=by
    refine VZ fun hno=>hne (Sub.antisymm (fun i hi=>?_) (zR ps t));rcases WB (t.testBit i) with e|e
    ·exact e
    ·exact absurd ⟨i,hi,e⟩ hno
   obtain⟨i,h1,h0⟩:=this;exact rD (zR ps t) (mY ht' h1) h0 h1
  intro k
  induction k with
  |zero =>
   by_cases h0:s=0
   ·left;subst h0;show fY ps 0=0;unfold fY;have:∀l:List Nat,l.foldl (mh ps) 0=0:=fun l=>by
     induction l with
     |nil=>rfl
     |cons v l ih=>simp only[Wk,mh,V4,Bool.false_eq_true,if_false];exact ih
    exact this _
   ·right;obtain⟨i,hi⟩:=Nat.exists_testBit_of_ne_zero h0;have:dK ps.length 0<dK ps.length s:=rD (fun j hj=>by rw[V4]at hj;cases hj) (mY hs hi) (V4 i) hi;show 0+1<=dK ps.length s;omega
  |succ k ih =>
   rcases ih with ih|ih
   ·left;show fY ps (fY ps (iO ps k s))=fY ps (iO ps k s);rw[ih];exact ih
   ·by_cases hf:fY ps (iO ps k s)=iO ps k s
    ·left;show fY ps (fY ps (iO ps k s))=fY ps (iO ps k s);rw[hf];exact hf
    ·right;have:=grow _ (hb k) (hb (k+1)) hf;show k+1+1<=dK ps.length (fY ps (iO ps k s));omega
 rcases key ps.length with h|h
 ·exact QJ h
 ·have:=zT ps.length (iO ps ps.length s);omega
def jS (ps:List Nat)(done v:Nat):Bool:=!done.testBit v && decide (eE (ps.getD v 0) done=0)
def kr (ps:List Nat)(done:Nat):Option Nat:=(List.range ps.length).find? (jS ps done)
def ic (ps:List Nat):Nat->List Nat->Nat->Option (List Nat)
 |0,out,_=>some out
 |k+1,out,done=>match kr ps done with
  |none=>none
  |some v=>ic ps k (out++[v]) (done |||2 ^ v)
def fD (ps:List Nat):Option (List Nat):=ic ps ps.length [] 0
def v9 {done v:Nat}(hp:∀p∈ps,p<2 ^ 64)(h:kr ps done=some v):v<ps.length/\done.testBit v=false/\Sub (ps.getD v 0) done:=by
 unfold kr at h;have h1:=Zc h;have h2:=List.find?_some h;unfold jS at h2;simp only[VL,Xq,decide_eq_true_eq]at h2;have hv:=Vs.1 h1;refine⟨hv,h2.1,(Ed ?_).1 h2.2⟩;rw[Vj];cases h:ps[v]? with
 |none=>decide
 |some p=>exact hp p (an h)
def QL {done:Nat}(hp:∀p∈ps,p<2 ^ 64)(h:kr ps done=none):∀v,v<ps.length->done.testBit v=true\/¬Sub (ps.getD v 0) done:=by
 intro v hv;unfold kr at h;rw[XH]at h;have:=h v (Vs.2 hv);unfold jS at this;rcases WB (done.testBit v) with e|e
 ·exact .inl e
 ·right;intro hs;refine this ?_;rw[e,(Ed ?_).2 hs]
  ·simp
  ·rw[Vj];cases h:ps[v]? with
   |none=>decide
   |some p=>exact hp p (an h)
def gM (d v i:Nat):(d |||2 ^ v).testBit i=(d.testBit i ||decide (v=i)):=by rw[Vy,Xu]
def QM (hp:∀p∈ps,p<2 ^ 64):∀(k:Nat) (out:List Nat) (done:Nat) (r:List Nat),ic ps k out done=some r->k+dK ps.length done=ps.length ->
  mi ps done->(∀v,v<ps.length->done.testBit v=true->(dP ps (ps.getD v 0)).testBit v=false)->jR ps:=by
 intro k
 induction k with
 |zero =>
  intro out done r _ hc hcl hall v hv;refine hall v hv ?_;rcases WB (done.testBit v) with e|e
  ·exact e
  ·have:dK ps.length done<dK ps.length (2 ^ ps.length-1 |||done):=rD (.right _ _) hv e (by rw[Vy,WW];simp[hv]);have:=zT ps.length (2 ^ ps.length-1 |||done);omega
 |succ k ih =>
  intro out done r h hc hcl hall;unfold ic at h;split at h
  ·cases h
  ·rename_i v hn;obtain⟨h1,h2,h3⟩:=v9 hp hn;refine ih _ _ _ h ?_ ?_ ?_
   ·have:dK ps.length (done |||2 ^ v)=dK ps.length done+1:=by
     unfold dK;have:∀l:List Nat,l.Nodup->v∈l->l.countP (fun i=>(done |||2 ^ v).testBit i)=l.countP (fun i=>done.testBit i)+1:=by
      intro l
      induction l with
      |nil=>intro _ h;cases h
      |cons x l ihl =>
       intro hnd hmem;obtain⟨g1,g2⟩:=W9.1 hnd;rw[Xd,Xd];rcases List.mem_cons.1 hmem with rfl|hm2
       ·have:l.countP (fun i=>(done |||2 ^ v).testBit i)=l.countP (fun i=>done.testBit i):=List.countP_congr fun y hy=>by
         have:¬v=y:=(by rintro rfl;exact g1 hy);simp[gM,this]
        rw[this];simp[gM,h2]
       ·have hx:¬v=x:=(by rintro rfl;exact g1 hm2);rw[ihl g2 hm2];simp[gM,hx];omega
     exact this _ Xz (Vs.2 h1)
    omega
   ·intro u hu hb;rw[gM,VN,decide_eq_true_eq]at hb;rcases hb with hb|rfl
    ·exact(hcl u hu hb).trans (.left _ _)
    ·exact h3.trans (.left _ _)
   ·intro u hu hb;rw[gM,VN,decide_eq_true_eq]at hb;rcases hb with hb|rfl
    ·exact hall u hu hb
    ·have:=pT hcl ps.length h3;rcases WB ((dP ps (ps.getD v 0)).testBit v) with e|e
     ·have:=this v e;rw[h2]at this;cases this
     ·exact e
def QN (hp:∀p∈ps,p<2 ^ ps.length)(h64:ps.length<=64)(ha:jR ps):∀(k:Nat) (out:List Nat) (done:Nat),k+dK ps.length done=ps.length->∃r,ic ps k out done=some r:=by
 have hp64:∀p∈ps,p<2 ^ 64:=fun p h=>Vn (hp p h) (Vr ZH h64);have hpd:∀v,ps.getD v 0<2 ^ ps.length:=fun v=>by
  rw[Vj];cases h:ps[v]? with
  |none=>exact Xn _
  |some p=>exact hp p (an h)
 intro k
 induction k with
 |zero=>exact fun out done _=>⟨out,rfl⟩
 |succ k ih =>
  intro out done hc;unfold ic;cases hn:kr ps done with
  |none =>
   exfalso;have hno:=QL hp64 hn
      -- every node that is left has a parent that is left
   have step:∀m v,v<ps.length->done.testBit v=false->dK ps.length (dP ps (ps.getD v 0))<=m->False:=by
    intro m
    induction m with
    |zero =>
     intro v hv hd hm;obtain⟨i,h1,h2⟩:∃i,(ps.getD v 0).testBit i=true/\done.testBit i=false:=by
      rcases hno v hv with h|h
      ·rw[hd]at h;cases h
      ·refine VZ fun hc=>h fun i hi=>?_;rcases WB (done.testBit i) with e|e
       ·exact e
       ·exact absurd ⟨i,hi,e⟩ hc
     have:dK ps.length 0<dK ps.length (dP ps (ps.getD v 0)):=rD (fun j hj=>by rw[V4]at hj;cases hj) (mY (hpd v) h1) (V4 i) (rC ps _ _ i h1);omega
    |succ m ihm =>
     intro v hv hd hm;obtain⟨u,h1,h2⟩:∃i,(ps.getD v 0).testBit i=true/\done.testBit i=false:=by
      rcases hno v hv with h|h
      ·rw[hd]at h;cases h
      ·refine VZ fun hc=>h fun i hi=>?_;rcases WB (done.testBit i) with e|e
       ·exact e
       ·exact absurd ⟨i,hi,e⟩ hc
     have hu:=mY (hpd v) h1;have hcl:=zU hp (hpd v);have hin:(dP ps (ps.getD v 0)).testBit u=true:=rC ps _ _ u h1;have hsub:Sub (dP ps (ps.getD u 0)) (dP ps (ps.getD v 0)):=pT hcl _ (hcl u hu hin);have:=rD hsub hu (ha u hu) hin;exact ihm u hu h2 (V)
   obtain⟨v,hv,hd⟩:∃v,v<ps.length/\done.testBit v=false:=by
    refine VZ fun hno=>?_;have:dK ps.length done=ps.length:=by
     unfold dK
     conv=>rhs;rw[<- WT (n:=ps.length)]
     rw[Zm];intro x hx;rcases WB (done.testBit x) with e|e
     ·exact e
     ·exact absurd ⟨x,Vs.1 hx,e⟩ hno
    omega
   exact step _ v hv hd (Nat.le_refl _)
  |some v =>
   obtain⟨h1,h2,h3⟩:=v9 hp64 hn;refine ih _ _ ?_;have:dK ps.length (done |||2 ^ v)=dK ps.length done+1:=by
    unfold dK;have:∀l:List Nat,l.Nodup->v∈l->l.countP (fun i=>(done |||2 ^ v).testBit i)=l.countP (fun i=>done.testBit i)+1:=by
     intro l
     induction l with
     |nil=>intro _ h;cases h
     |cons x l ihl =>
      intro hnd hmem;obtain⟨g1,g2⟩:=W9.1 hnd;rw[Xd,Xd];rcases List.mem_cons.1 hmem with rfl|hm2
      ·have:l.countP (fun i=>(done |||2 ^ v).testBit i)=l.countP (fun i=>done.testBit i):=List.countP_congr fun y hy=>by
        have:¬v=y:=(by rintro rfl;exact g1 hy);simp[gM,this]
       rw[this];simp[gM,h2]
      ·have hx:¬v=x:=(by rintro rfl;exact g1 hm2);rw[ihl g2 hm2];simp[gM,hx];omega
    exact this _ Xz (Vs.2 h1)
   omega
def Eg (n:Nat):dK n 0=0:=by
 unfold dK;rw[List.countP_eq_zero];intro x _;simp
def we (hp:∀p∈ps,p<2 ^ ps.length)(h64:ps.length<=64):(fD ps).isSome=true↔jR ps:=by
 have hp64:∀p∈ps,p<2 ^ 64:=fun p h=>Vn (hp p h) (Vr ZH h64);constructor
 ·intro h;obtain⟨r,hr⟩:=VQ.1 h;exact QM hp64 _ _ _ r hr (by rw[Eg];omega) (fun v _ h=>by rw[V4]at h;cases h) (fun v _ h=>by rw[V4]at h;cases h)
 ·intro h;obtain⟨r,hr⟩:=QN hp h64 h ps.length [] 0 (by rw[Eg];omega);unfold fD;rw[hr];rfl
end Go.Proofs
namespace Go.Hx
def jk (l:List Nat):ZL:=.Q l.length (l.map aL)
attribute [go_sem] aL jk
def aI.Ti {S:Nat->Prop}{lo nx:Nat}{H:ZK}{e:TypeId}{v:ZL}{l:List Nat}(h:aI lo H e v (l.map aL))(hS:∀i,lo<=i->S i):Fz S H nx v (jk l):=by
 have:=h.fz (S:=S) (nx:=nx) (cs':=l.map aL) hS rfl fun i hi _=>by simp only[Vw];exact .lit _
 rw[VA]at this;exact this
end Go.Hx
namespace Go.Proofs
open Go.Hx
variable {g:Int}{ns:List ZM}{x:ZM}
def F1 {H H':ZK}{v:ZL}{l:List Nat}(x:Nat)(ov:ZP H H')(h:aI H.A H' 34 v (l.map aL))(hl:l.length<2 ^ 40):
  ∃v' H2,bS Tryz.prog (ext H' [.J 0 34 [.lit (.int .u64 (x:Int))]]) (H'.A+1) 93 93 v (.U H'.A 0 0 1 1)=some (v',H2)/\ZP H H2/\aI H.A H2 34 v' ((l++[x]).map aL)/\H'.A<=H2.A/\(∀k,k<H'.A->(∀g n,v≠.U k g 0 n 1)->H2.get k=H'.get k):=by
 obtain⟨v',H2,hA,hO,hn2,hp⟩:=jv (P:=Tryz.prog) (H:=H') (t:=93) (x:=aL x) (n:=H'.A+1) Tryz.underlying93 Tryz.C9 Tryz.Db rfl (by rw[Tryz.Da,VA];omega) h ov.A rfl;simp only[aL]at hA;exact⟨v',H2,hA,mo ov h hn2 hp,by rw[V8];exact hO,hn2,hp⟩
def Tj (m v:Nat)(hm:m<2 ^ 64)(hv:v<2 ^ 62)(H:ZK)(K:ZQ->ZK->Prop)(hK:K (.ret (.lit (.bool (m.testBit v)))) H):ae Tryz.prog G0 122 [aL m,aa v] H K:=by
 refine ae.st (n:=11) (rs:=[.tmp 4]) Tryz.func122 ?_;have w1:=VK (v:Int) V;have s1:=fun t x y=>jm (P:=Tryz.prog) (t:=t) (x:=x) (y:=y) (k':=.u64) (s:=v) hm;have s2:=fun t x y=>pf (P:=Tryz.prog) (t:=t) (x:=x) (y:=y) (s:=v) hm;cases hb:m.testBit v
 ·rw[hb]at hK;simp only[go_sem,w1,s1,s2,hb];exact aj.mk ZJ hK
 ·rw[hb]at hK;simp only[go_sem,w1,s1,s2,hb];exact aj.mk ZJ hK
def aB (ns:List ZM):List Nat:=ns.map fun x=>bF x.F
def kI {k:Nat}(h:ns[k]?=some x):(aB ns)[k]?=some (bF x.F):=by unfold aB;rw[List.getElem?_map,h];rfl
def Tk (g:Int)(ns:List ZM)(hl:(ns.length:Int)<2 ^ 39)(hp:∀x∈ns,(x.F.length:Int)<2 ^ 39/\∀q∈x.F,0<=q/\q<64)(H:ZK)(K:ZQ->ZK->Prop)
  (hK:K (.ret (jk (aB ns))) H):ae Tryz.prog G0 36 [eZ g ns] H K:=by
 refine ae.X ⟨_,Tryz.func36,rfl,rfl⟩ fun hcl=>?_;refine ae.st (n:=43) (rs:=[.tmp 2]) Tryz.func36 ?_;simp only[go_sem,eZ,eQ];obtain⟨H1,hH1⟩:∃H1,H1=ext H [.J 0 90 [.lit (.int .i64 g),.Q ns.length (aG ns)]]:=⟨_,rfl⟩
 have l1:H1.na H.A 0=some (90,[.lit (.int .i64 g),.Q ns.length (aG ns)]):=by rw[hH1];exact ag (cL ..)
 have n1:H1.A=H.A+1:=hH1▸rfl
 have o1:ZP H H1:=hH1▸.ext _ _
 rw[<- hH1];refine W.aS 4398046511096 (by rfl) (fun ρ H'=>∃k:Nat,ρ 4=aa k/\k<=ns.length/\ρ 1=.O H.A 0 0/\ZP H1 H'/\aI H1.A H' 34 (ρ 3) (((aB ns).take k).map aL)) (fun ρ H=>ns.length-(iv (ρ 4)).toNat) ?_ ?_
 ·simp only[go_sem];exact⟨0,rfl,V,.refl _,.nil⟩
 rintro ρ H' ⟨k,h4,hk,h1,ov,h3⟩;refine W.vs ?_;have l2:=(ov.na (g:=0) (by omega:H.A<H1.A)).trans l1;by_cases hb:(k:Int)<ns.length
 ·obtain⟨x,hx⟩:=ay (l:=ns) (i:=k) V;have hne:=fQ hx;have e1:=mW hx;obtain⟨xl,xr⟩:=hp x (an hx);simp only[go_sem,h4,h1,l2,hb];refine W.aS 274877890656 (by rfl) (fun ρ' H2=>H2=H'/\∃j:Nat,ρ' 6=aa j/\j<=x.F.length/\ρ' 5=aL (bF (x.F.take j))) (fun ρ' H=>x.F.length-(iv (ρ' 6)).toNat) ?_ ?_
  ·simp only[go_sem];exact⟨0,rfl,V,rfl⟩
  rintro ρ' H2 ⟨rfl,j,h6,hj,h5⟩;refine W.vs ?_;by_cases hb2:(j:Int)<x.F.length
  ·obtain⟨q,hq⟩:=ay (l:=x.F) (i:=j) V;obtain⟨q0,q1⟩:=xr q (an hq);obtain⟨u,rfl⟩:=Vm q0;have hne2:=aZ hq;have w1:=VK (u:Int) V;have w2:=Vd ((j:Int)+1) V;have b1:bF (x.F.take j)<2 ^ 64:=lh fun p hp=>by have:=xr p (VE hp);omega
   have s1:=fun t x y=>lP (P:=Tryz.prog) (t:=t) (x:=x) (y:=y) (k':=.u64) (s:=u) V;have s2:=fun t x y=>j5 (P:=Tryz.prog) (t:=t) (x:=x) (y:=y) (b:=2 ^ u) b1 (Ww ZH V);simp only[go_sem,h4,h1,l2,hb,hne,e1,h6,h5,hb2,hq,hne2,w1,w2,s1,s2];exact⟨⟨j+1,ZG,V,by rw[bd hq,vY];rfl⟩,V⟩
  ·obtain⟨v',H3,hA,ov2,hO,hn2,_⟩:=F1 (bF x.F) ov h3 (by simp[aB];omega);have w1:=Vd ((k:Int)+1) V;rw[Vi V]at h5;simp only[go_sem,h4,h1,l2,hb,hne,e1,h6,h5,hb2,w1,hA];refine⟨by have:=ov2.A;omega,⟨k+1,ZG,V,ov2,?_⟩,V⟩;rw[bd (kI hx)];exact hO
 ·simp only[go_sem,h4,h1,l2,hb];rw[Vi (by simp[aB];omega)]at h3;exact aj.bB aF hcl (o1.trans ov) (h3.Ti fun i hi=>V) hK
def kJ (g L:Int)(r:List Int):Prop:=(r.length:Int)=L/\(∀w∈r,0<=w/\w<=g)/\r.sum=g
def gF (g:Int)(ns:List ZM)(x:ZM):Prop:=(x.nb.length:Int)=aC (aT ns x)/\∀r∈x.nb,kJ g x.L r
structure Z4 (g:Int)(ns:List ZM):Prop where
 g1:1<=g/\g<=60
 n1:1<=ns.length/\ns.length<=8
 node:∀x∈ns,(1<=x.L/\x.L<=4)/\bW x.F ns.length
 size:aC (au ns)<=1024
 nL:jR (aB ns)
 nb:∀x∈ns,gF g ns x
noncomputable def qj (g:Int)(ns:List ZM):Bool:=@decide (Z4 g ns) (Classical.propDecidable _)
def F2 (h:Z4 g ns):qj g ns=true:=by unfold qj;exact @decide_eq_true _ (Classical.propDecidable _) h
def F3 (h:¬Z4 g ns):qj g ns=false:=by unfold qj;exact @decide_eq_false _ (Classical.propDecidable _) h
def xf (ns:List ZM):Prop:=(ns.length:Int)<2 ^ 38/\∀x∈ns,(x.F.length:Int)<2 ^ 38/\(x.nb.length:Int)<2 ^ 38/\∀r∈x.nb,(r.length:Int)<2 ^ 38
def se {l:List Int}(h:l.length<=12)(h2:∀x∈l,1<=x/\x<=4):fb l:=⟨h,fun x hx=>by have:=h2 x hx;omega⟩
def sf (hin:iI x.F ns.length)(hc:∀y∈ns,1<=y.L/\y.L<=4):∀c∈aT ns x,1<=c/\c<=4:=fun c h=>by
 unfold aT aK at h;obtain⟨q,hq,rfl⟩:=Vu.1 h;obtain⟨j,rfl,y,hy⟩:=mX (l:=ns) (hin q hq).1 (hin q hq).2;rw[Int.toNat_natCast,bI (cS hy)];exact hc y (an hy)
def oV (h8:ns.length<=8)(hp:bW x.F ns.length)(hc:∀y∈ns,1<=y.L/\y.L<=4):fb (aT ns x):=by
 refine se ?_ (sf (fun q hq=>by have:=hp.2 q hq;omega) hc);rw[show (aT ns x).length=_ from jj _ _];have:=hp.len;omega
def sh {n:Nat}(h:∀x∈ns,∀q∈x.F,0<=q/\q<(n:Int)):∀p∈aB ns,p<2 ^ n:=fun p hp=>by
 obtain⟨x,hx,rfl⟩:=Vu.1 hp;exact lh fun q hq=>by have:=h x hx q hq;omega
def AH (l:List Int)(x:Int):(l++[x]).sum=l.sum+x:=ZG
end Go.Proofs
namespace Go.Hx
variable {P:Program} {G:Nat->Option (List ZL)} {n:Nat} {rd:Option Nat} {Q:AX->St->Prop}
def um (P:Program)(G:Nat->Option (List ZL))(f:FuncId)(first cap:List ZL)(xs:List (List ZL))(S:ZK->Prop):Prop :=
 ∀(idy:Nat) (J:Nat->ZK->Prop) (Stop:ZK->Prop) (H:ZK) (K:ZQ->ZK->Prop),
  (∀k H1,J k H1->S H1)->J 0 H ->
  (∀k x H1 K1,xs[k]?=some x->J k H1->H.A<=H1.A->(∀H',J (k+1) H'->H1.A<=H'.A->K1 (.ret (.lit (.bool true))) H')->(∀H',Stop H'->H1.A<=H'.A->K1 (.ret (.lit (.bool false))) H')->ak P G (.nk idy) x H1 K1) ->
  (∀H',J xs.length H'->H.A<=H'.A->K (.ret (.nc [])) H') ->
  (∀H',Stop H'->H.A<=H'.A->K (.ret (.nc [])) H') ->
  ae P G f (first++[.nk idy]++cap) H K
def im (idy:Nat)(B:ZR)(lo:Nat)(J:ZK->Prop)(Stop:AX->ZK->Prop):AX->St->Prop
 |.normal,s=>s.H.get idy=some B/\lo<=s.H.A/\J s.H
 |.ret,s=>s.H.get idy=some B/\lo<=s.H.A/\Stop .ret s.H
 |.exit i,s=>s.H.get idy=some B/\lo<=s.H.A/\Stop (.exit i) s.H
 |_,_=>False
def mE (P:Program)(G:Nat->Option (List ZL))(n idy:Nat)(B Bb:ZR)(lo:Nat)(body:Code)(J:ZK->Prop)(Stop:AX->ZK->Prop):AX->St->Prop
 |.normal,s=>s.H.get idy=some B/\W P G n (some idy) body (im idy Bb lo J Stop) ⟨s.ρ,s.H.upd idy Bb⟩
 |_,_=>False
def W.sy {g:Operand}{ps:Array Tmp}{asg body:Code}{ρ:Env}{H:ZK}{f:FuncId}{first cap:List ZL}{xs:List (List ZL)}{S:ZK->Prop}(hg:ar G ρ g=.X f first cap)
  (hit:um P G f first cap xs S) (J:Nat->ZK->Prop) (Stop:AX->ZK->Prop) (hS:∀k H1,J k H1->S H1)
  (hJu:∀k H1 b,J k H1->J k (H1.upd H.A b)) (hSu:∀c H1 b,Stop c H1->Stop c (H1.upd H.A b))
  (hJ0:∀b,J 0 (ext H [b])) (hps:ps.toList.all (fun t=>decide (t<n))=true) (hxl:∀x∈xs,x.length=ps.size)
  (hrd:∀k H1,J k H1->fI H1 rd) (hrd2:∀c H1,Stop c H1->fI H1 rd)
  (hround:∀k x H1 B Bb,xs[k]?=some x->J k H1->H.A+1<=H1.A->H1.get H.A=some B->(∃st pd n' en ps' as' bo,Bb=ZR.loop st pd n' en ps' as' bo) ->
   W P G n (some H.A) asg (mE P G n H.A B Bb H1.A body (J (k+1)) Stop) ⟨jL (dq ρ n) (ps.toList.zip x),H1⟩)
  (hend:∀H',J xs.length H'->H.A+1<=H'.A->Q .normal ⟨ρ,H'⟩)
  (hret:∀H',Stop .ret H'->H.A+1<=H'.A->Q .ret ⟨ρ,H'⟩) (hexit:∀i H',Stop (.exit i) H'->H.A+1<=H'.A->Q (.exit i) ⟨ρ,H'⟩):
  W P G n rd (.rangeFunc g ps asg body) Q ⟨ρ,H⟩:=by
 refine W.rangeFunc (s:=⟨ρ,H⟩) hg ⟨_,uT _ _,?_⟩;obtain⟨B,hB⟩:∃B,B=ZR.loop .ready none n ρ ps asg body:=⟨_,rfl⟩
 obtain⟨Bb,hBb⟩:∃B,B=ZR.loop .busy none n ρ ps asg body:=⟨_,rfl⟩
 have nx:(ext H [B]).A=H.A+1:=rfl;show ae P G f (first++[.nk H.A]++cap) (ext H [ZR.loop .ready none n ρ ps asg body]) (yL rd Q ρ H.A);rw[<- hB];refine hit H.A (fun k H1=>H1.get H.A=some B/\J k H1) (fun H1=>∃c pend,H1.get H.A=some (.loop .done (some pend) n ρ ps asg body)/\Stop c H1/\((c=.ret/\pend=.ret)\/∃i,c=.exit i/\pend=.exit i)) _ _
  (fun k H1 h=>hS k H1 h.2) ⟨ef,hJ0 B⟩ (fun k x H1 K1 hx hj hn hgo hst=>?_) (fun H' hj hn=>?_) (fun H' hj hn=>?_)
 ·have hxm:=hxl x (an hx);refine ak.nk (hj.1.trans (congrArg some hB)) hxm hps ?_;refine(hround k x H1 B Bb hx hj.2 hn hj.1 ⟨_,_,_,_,_,_,_,hBb⟩).mono fun e s1 h1=>?_;cases e with
  |normal =>
   obtain⟨a1,a2⟩:=h1;refine⟨Bb,by rw[a1,hB,hBb];rfl,?_⟩;refine a2.mono fun e2 s2 h2=>?_;cases e2 with
   |normal =>
    obtain⟨b1,b2,b3⟩:=h2;exact⟨B,by rw[b1,hB,hBb];rfl,hgo _ ⟨by rw[ah,Vh rfl],hJu _ _ _ b3⟩ b2⟩
   |ret =>
    obtain⟨b1,b2,b3⟩:=h2;exact⟨.loop .done (some .ret) n ρ ps asg body,by rw[b1,hBb];rfl,hst _ ⟨.ret,.ret,by rw[ah,Vh rfl],hSu _ _ _ b3,.inl ⟨rfl,rfl⟩⟩ b2⟩
   |exit i =>
    obtain⟨b1,b2,b3⟩:=h2;exact⟨.loop .done (some (.exit i)) n ρ ps asg body,by rw[b1,hBb];rfl,hst _ ⟨.exit i,.exit i,by rw[ah,Vh rfl],hSu _ _ _ b3,.inr ⟨i,rfl,rfl⟩⟩ b2⟩
   |_=>exact h2.elim
  |_=>exact h1.elim
 ·refine⟨hrd _ _ hj.2,(none,.loop .exhausted none n ρ ps asg body),by rw[hj.1,hB];rfl,?_⟩;exact hend _ (hJu _ _ _ hj.2) hn
 ·obtain⟨c,pend,h1,h2,h3⟩:=hj;refine⟨hrd2 _ _ h2,(some pend,.loop .exhausted (some pend) n ρ ps asg body),by rw[h1];rfl,?_⟩;rcases h3 with ⟨rfl,rfl⟩|⟨i,rfl,rfl⟩
  ·exact hret _ (hSu _ _ _ h2) hn
  ·exact hexit i _ (hSu _ _ _ h2) hn
end Go.Hx
namespace Go.Proofs
open Go.Hx
variable {g:Int}{nb:List (List Int)}{l:List Int}{ns:List ZM}{k:Nat}{x:ZM}
def uc (x:ZM):ZL:=.agg [.lit (.int .i64 x.L),.Q x.F.length (ints x.F),bb x.nb]
def oW (nb:List (List Int)):List (List ZL):=nb.zipIdx.map fun p=>[aa p.2,af p.1]
def F4 {x:List ZL}(h:(oW nb)[k]?=some x):∃r,nb[k]?=some r/\x=[aa k,af r]:=by
 unfold oW at h;rw[List.getElem?_map,Xm]at h;cases hr:nb[k]? with
 |none=>rw[hr]at h;simp at h
 |some r=>rw[hr]at h;simp at h;exact⟨r,rfl,h.symm⟩
def Tl {r:List Int}(h:nb[k]?=some r):(oW nb)[k]?=some [aa k,af r]:=by
 unfold oW;rw[List.getElem?_map,Xm,h];simp
def F5 (nb:List (List Int)):(oW nb).length=nb.length:=by simp[oW]
def Tm (x:ZM)(hl:(x.nb.length:Int)<2 ^ 40)(b:Nat):um Tryz.prog G0 191 [] [.O b 0 0] (oW x.nb) (fun H=>H.get b=some (.J 0 76 [.lit (.int .i64 x.L),.Q x.F.length (ints x.F),bb x.nb])):=by
 intro idy J Stop H K hS hJ0 hY hK hSt;have l0:=ag (hS 0 H hJ0);show ae _ _ _ ([.nk idy]++[.O b 0 0]) _ _;refine ae.st (n:=19) (rs:=[]) Tryz.func191 ?_;simp only[go_sem,l0,bb];refine W.aS 524056 (by rfl) (fun ρ H'=>∃k:Nat,ρ 8=aa k/\k<=x.nb.length/\J k H'/\H.A<=H'.A) (fun ρ H=>x.nb.length-(iv (ρ 8)).toNat) ?_ ?_
 ·simp only[go_sem];exact⟨0,rfl,V,hJ0⟩
 rintro ρ H' ⟨k,h8,hk,hj,hn⟩;refine W.vs ?_;by_cases hb:(k:Int)<x.nb.length
 ·obtain⟨r,hr⟩:=ay (l:=x.nb) (i:=k) V;have hne:=aZ hr;have w1:=Vd ((k:Int)+1) V;simp only[go_sem,h8,hb,hr,hne];refine hY k [aa k,af r] H' _ (Tl hr) hj hn (fun H2 hj2 hn2=>⟨trivial,?_⟩) (fun H2 hs2 hn2=>⟨trivial,?_⟩)
  ·simp only[go_sem,h8,w1];exact⟨V,⟨k+1,ZG,V,hj2,V⟩,V⟩
  ·simp only[go_sem];exact aj.mk V (hSt H2 hs2 V)
 ·simp only[go_sem,h8,hb];have ek:k=(oW x.nb).length:=by rw[F5];omega
  subst ek;exact aj.mk V (hK H' hj hn)
def Tn (x:ZM)(H:ZK)(K:ZQ->ZK->Prop)(hK:K (.ret (.X 191 [] [.O H.A 0 0])) (ext H [.J 0 76 [.lit (.int .i64 x.L),.Q x.F.length (ints x.F),bb x.nb]])):
  ae Tryz.prog G0 188 [uc x] H K:=by
 refine ae.st (n:=4) (rs:=[.tmp 2]) Tryz.func188 ?_;simp only[go_sem,uc];exact aj.mk (by simp[aW]) hK
def AI {g:Int}(h:∀w∈l,0<=w):0<=l.sum:=by
 induction l with
 |nil=>simp
 |cons a l ih =>
  have h1:=ih fun w hw=>h w (by simp[hw]);have h2:=h a ZG;simp only[WI];omega
def AJ (h:∀w∈l,0<=w):∀w∈l,w<=l.sum:=by
 induction l with
 |nil=>intro w hw;cases hw
 |cons a l ih =>
  intro w hw;have h1:=AI (g:=0) fun w hw=>h w (Xl a hw);have h2:=h a ZG;simp only[WI];rcases List.mem_cons.1 hw with rfl|hw
  ·omega
  ·have:=ih (fun w hw=>h w (by simp[hw])) w hw;omega
noncomputable def mw (g:Int)(ns:List ZM)(x:ZM):Bool:=@decide (gF g ns x) (Classical.propDecidable _)
def F6 (h:gF g ns x):mw g ns x=true:=by unfold mw;exact @decide_eq_true _ (Classical.propDecidable _) h
def To (h:¬gF g ns x):mw g ns x=false:=by unfold mw;exact @decide_eq_false _ (Classical.propDecidable _) h
def Tp :mw g ns x=true↔gF g ns x:=by unfold mw;exact @decide_eq_true_iff _ (Classical.propDecidable _)
def Tq (g:Int)(hg:1<=g/\g<=60)(ns:List ZM)(sets:List Nat)(x:ZM)(hin:iI x.F ns.length)(hsm:fb (aT ns x))(hx1:(x.nb.length:Int)<2 ^ 38)(hx2:∀r∈x.nb,(r.length:Int)<2 ^ 38)(H:ZK)(K:ZQ->ZK->Prop)
  (hK:K (.ret (.lit (.bool (mw g ns x)))) H):ae Tryz.prog G0 174 [.agg [.lit (.int .i64 g),eQ ns,af (au ns),jk sets,.lit (.slice none 0 0)],uc x] H K:=by
 refine ae.X ⟨_,Tryz.func174,rfl,rfl⟩ fun hcl=>?_;have l12:=hsm.1;have pl:(aT ns x).length=x.F.length:=jj _ _;have no:¬gF g ns x->∀H',ZP H H'->aj Tryz.prog G0 H K (.lit (.bool false)) H':=fun h H' ov=>aj.bB aF hcl ov (.lit _) (by rw[To h]at hK;exact hK);refine ae.st (n:=66) (rs:=[.cell 4 4]) Tryz.func174 ?_;simp only[go_sem,eQ,uc];obtain⟨H1,hH1⟩:∃H1,H1=ext H [.J 0 214 [.lit (.int .i64 g),.Q ns.length (aG ns),.Q (au ns).length (ints (au ns)),.Q sets.length (sets.map aL),.lit (.slice none 0 0)],.J 0 76 [.lit (.int .i64 x.L),.Q x.F.length (ints x.F),bb x.nb],.J 0 4 [.lit (.bool false)]]:=⟨_,rfl⟩
 have l1:H1.na H.A 0=some (214,[.lit (.int .i64 g),.Q ns.length (aG ns),.Q (au ns).length (ints (au ns)),.Q sets.length (sets.map aL),.lit (.slice none 0 0)]):=by rw[hH1];exact ag (cL ..)
 have l2:H1.na (H.A+1) 0=some (76,[.lit (.int .i64 x.L),.Q x.F.length (ints x.F),bb x.nb]):=by rw[hH1];exact ag (bM H _ 1 ZG)
 have g3:=gE hH1 2 rfl
 have n1:H1.A=H.A+3:=hH1▸rfl
 have o1:ZP H H1:=hH1▸.ext _ _
 rw[<- hH1];refine W.aS 268370080 (by rfl) (fun ρ H'=>H'=H1/\∃k:Nat,ρ 16=aa k/\k<=x.F.length/\ρ 5=aa (aC ((aT ns x).take k))) (fun ρ H=>x.F.length-(iv (ρ 16)).toNat) ?_ ?_
 ·simp only[go_sem];exact⟨0,rfl,V,by simp[iM]⟩
 rintro ρ H' ⟨rfl,k,h16,hk,h5⟩;refine W.vs ?_;by_cases hb:(k:Int)<x.F.length
 ·obtain⟨q,hq⟩:=ay (l:=x.F) (i:=k) V;obtain⟨j,rfl,y,hy⟩:=mX (l:=ns) (hin q (an hq)).1 (hin q (an hq)).2;have hne2:=aZ hq;have hyc:=cS hy;have hne3:=aZ hyc;have hj:(j:Int)<(au ns).length:=by have:=aO hyc;omega
  have pk:(aT ns x)[k]?=some y.L:=by
   rw[show (aT ns x)[k]?=_ from jY hq,Int.toNat_natCast,bI hyc]
  have b1:=(hsm.take (k+1)).prod;rw[bd pk,jh]at b1;have w1:=Vd ((k:Int)+1) V;have w2:=Vd (aC ((aT ns x).take k)*y.L) V;simp only[go_sem,h16,h5,l1,hb,hq,hne2,hj,hyc,hne3,w1,w2];exact⟨⟨k+1,ZG,V,by rw[bd pk,jh]⟩,V⟩
 rw[Vi V]at h5;by_cases c1:(x.nb.length:Int)=aC (aT ns x);rotate_left
 ·simp only[go_sem,h16,h5,l2,hb,c1,bb];have l3:=ag g3;simp only[go_sem,l3];exact no (fun h=>c1 h.1) _ (o1.upd V _)
 simp only[go_sem,h16,h5,l2,hb,c1,bb];refine ak.X (Tn x _ _ ⟨trivial,?_⟩);simp only[go_sem];obtain⟨H2,hH2⟩:∃H2,H2=ext H' [.J 0 76 [.lit (.int .i64 x.L),.Q x.F.length (ints x.F),bb x.nb]]:=⟨_,rfl⟩
 rw[<- hH2];have o2:ZP H' H2:=by rw[hH2];exact .ext _ _
 have n2:H2.A=H.A+4:=by rw[hH2,aW,n1];rfl
 have hbx:H2.get H'.A=some (.J 0 76 [.lit (.int .i64 x.L),.Q x.F.length (ints x.F),bb x.nb]):=by rw[hH2];exact ef
 refine W.env fun E hE=>?_;have e2:E 2=.O H.A 0 0:=by rw[hE];simp only[go_sem]
 have e3:E 3=.O (H.A+1) 0 0:=by rw[hE];simp only[go_sem]
 have e4:E 4=.O (H.A+2) 0 0:=by rw[hE];simp only[go_sem]
 have i1:H2.na H.A 0=some (214,[.lit (.int .i64 g),.Q ns.length (aG ns),.Q (au ns).length (ints (au ns)),.Q sets.length (sets.map aL),.lit (.slice none 0 0)]):=(o2.na V).trans l1;have i2:H2.na (H.A+1) 0=some (76,[.lit (.int .i64 x.L),.Q x.F.length (ints x.F),bb x.nb]):=(o2.na V).trans l2;have i3:H2.get (H.A+2)=some (.J 0 4 [.lit (.bool false)]):=(o2.nf _ V).trans g3;refine W.sy (f:=191) (first:=[]) (cap:=[.O H'.A 0 0]) (by show E 34=_;rw[hE];rfl) (Tm x V H'.A)
  (fun k Hx=>ZP H2 Hx/\∀r∈x.nb.take k,kJ g x.L r) (fun c Hx=>c=.ret/\ZP H Hx/\H.A+4<=Hx.A/\Hx.get (H.A+2)=some (.J 0 4 [.lit (.bool false)])/\¬gF g ns x)
  (fun k Hx h=>by rw[h.1.nf _ V];exact hbx) (fun k Hx b h=>⟨h.1.upd ZJ b,h.2⟩) (fun c Hx b h=>⟨h.1,h.2.1.upd V b,h.2.2.1,by rw[ah,Vg V];exact h.2.2.2.1,h.2.2.2.2⟩)
  (fun b=>⟨.ext _ _,ZG⟩) ZH (fun y hy=>by
   obtain⟨k,hk⟩:=Vl.1 hy;obtain⟨r,_,rfl⟩:=F4 hk;rfl) (fun _ _ _=>trivial) (fun _ _ _=>trivial) (fun k y Hx B Bb hy hj hn hB hBb=>?_) (fun Hx hj hn=>?_) (fun Hx hs hn=>?_) (fun i Hx hs hn=>by cases hs.1)
 ·obtain⟨r,hr,rfl⟩:=F4 hy;refine W.vs ?_;simp only[go_sem,jL,dq,mE,Wk,XB,WX,W5,hB];obtain⟨H3,hH3⟩:∃H3,H3=Hx.upd H2.A Bb:=⟨_,rfl⟩
  rw[<- hH3];obtain⟨st,pd,n',en,ps',as',bo,hBe⟩:=hBb;have o3:ZP H2 H3:=by rw[hH3];exact hj.1.upd ZJ Bb
  have o4:ZP H H3:=(o1.trans o2).trans o3;have n3:H3.A=Hx.A:=by rw[hH3];rfl
  have j1:=(o3.na (g:=0) (by omega:H.A<H2.A)).trans i1;have j2:=(o3.na (g:=0) (by omega:H.A+1<H2.A)).trans i2;have j3:=(o3.nf _ (by omega:H.A+2<H2.A)).trans i3;have j4:=ag j3;have jB:H3.get H2.A=some Bb:=by rw[hH3,ah,Vh rfl]
  have nB:¬H2.A=H.A+2:=V
  have hrm:=an hr;have hrl:=hx2 r hrm;have nope:¬kJ g x.L r->¬gF g ns x:=fun h h'=>h (h'.2 r hrm);have stop:¬kJ g x.L r->(H3.upd (H.A+2) (ZR.J 0 4 [.lit (.bool false)])).get H2.A=some Bb/\Hx.A<=(H3.upd (H.A+2) (ZR.J 0 4 [.lit (.bool false)])).A/\ZP H (H3.upd (H.A+2) (ZR.J 0 4 [.lit (.bool false)])) /\
    H.A+4<=(H3.upd (H.A+2) (ZR.J 0 4 [.lit (.bool false)])).A/\(H3.upd (H.A+2) (ZR.J 0 4 [.lit (.bool false)])).get (H.A+2)=some (.J 0 4 [.lit (.bool false)])/\¬gF g ns x:=fun h =>
   ⟨by rw[ah,Vg nB];exact jB,by rw[aQ];omega,o4.upd V _,by rw[aQ];omega,by rw[ah,Vh rfl],nope h⟩
  refine W.vs ?_;simp only[go_sem,dq,e2,j1];refine W.aS 144110790029349888 (by rfl) (fun ρ2 H4=>H4=H3/\∃i:Nat,ρ2 42=aa i/\i<=r.length/\(∀w∈r.take i,0<=w)/\(r.take i).sum<=g/\ρ2 10=aa (g-(r.take i).sum)) (fun ρ2 H=>r.length-(iv (ρ2 42)).toNat) ?_ ?_
  ·simp only[go_sem];exact⟨0,rfl,V,ZG,by simp;omega,ZG⟩
  rintro ρ2 H4 ⟨rfl,i,h42,hi,hw0,hws,h10⟩;refine W.vs ?_;have s0:=AI (g:=g) hw0;by_cases hb2:(i:Int)<r.length
  ·obtain⟨a,ha⟩:=ay (l:=r) (i:=i) V;have ham:=an ha;have hane:=aZ ha;by_cases d1:a<0
   ·simp only[go_sem,h42,hb2,ha,hane,d1,dq,e4,j4,im];exact stop fun h=>by have:=h.2.1 a ham;omega
   by_cases d2:a > g-(r.take i).sum
   ·simp only[go_sem,h42,h10,hb2,ha,hane,d1,d2,dq,e4,j4,im];refine stop fun h=>?_;have h1:r.sum=(r.take (i+1)).sum+(r.drop (i+1)).sum:=(by rw[<- YF,V2]);rw[bd ha,AH]at h1;have h2:=AI (g:=g) (l:=r.drop (i+1)) fun w hw=>(h.2.1 w (Xk hw)).1;have:=h.2.2;omega
   have w1:=Vd ((i:Int)+1) V;have w2:=Vd (g-(r.take i).sum-a) V;simp only[go_sem,h42,h10,hb2,ha,hane,d1,d2,w1,w2,dq];refine⟨⟨_,_,_,_,_,_,_,by rw[jB,hBe]⟩,⟨i+1,ZG,V,fun w hw=>?_,by rw[bd ha,AH];omega,?_⟩,V⟩
   ·rw[bd ha]at hw;rcases VH.1 hw with hw|hw
    ·exact hw0 w hw
    ·obtain rfl:=List.mem_singleton.1 hw;omega
   ·rw[bd ha,AH];show aa _=aa _;congr 1;omega
  ·rw[Vi V]at hw0 hws h10 s0;by_cases d1:(r.length:Int)=x.L;rotate_left
   ·simp only[go_sem,h42,hb2,d1,dq,e3,e4,j2,j4,im];exact stop fun h=>d1 h.1
   have hb2':¬(i:Int)<x.L:=V;by_cases d2:g-r.sum=0;rotate_left
   ·simp only[go_sem,h42,h10,hb2',d1,d2,dq,e3,e4,j2,j4,im];exact stop fun h=>by have:=h.2.2;omega
   simp only[go_sem,h42,h10,hb2',d1,d2,dq,e3,j2,im];refine⟨jB,V,o3,fun y hy=>?_⟩;rw[bd hr]at hy;rcases VH.1 hy with hy|hy
   ·exact hj.2 y hy
   ·obtain rfl:=List.mem_singleton.1 hy;exact⟨d1,fun w hw=>⟨hw0 w hw,by have:=AJ hw0 w hw;omega⟩,V⟩
 ·have hok:gF g ns x:=⟨c1,by
   have:=hj.2;rw[F5,XR]at this;exact this⟩
  have j4:=ag ((hj.1.nf _ (by omega:H.A+2<H2.A)).trans i3);rw[F6 hok]at hK;simp only[go_sem,e4,j4];exact aj.bB aF hcl (((o1.trans o2).trans hj.1).upd V _) (.lit _) hK
 ·obtain⟨_,o4,n4,g4,hno⟩:=hs;have j4:=ag g4;simp only[go_sem,e4,j4];exact no hno _ o4
end Go.Proofs
namespace Go.Hx
variable {e:TypeId}{H:ZK}
def aI.qk {lo:Nat}{v:ZL}{l:List Int}(h:aI lo H e v (ints l)):Z6 H v (af l):=by
 rcases h with ⟨rfl,h⟩|⟨id,g,h1,h2,rfl,h4⟩
 ·have:l=[]:=by cases l with
   |nil=>rfl
   |cons a l=>simp[ints]at h
  subst this;exact .nil
 ·have e:af l=.Q (ints l).length (ints l):=by rw[bD];rfl
  rw[e];refine .U h4 ZG fun j hj h2 h'=>?_;simp only[Nat.zero_add,ints,Vw];exact .lit _
def Fz.ud {id g n nx:Nat}{cs:List ZL}(hg:H.get id=some (.J g e cs))(hn:n=cs.length)(hl:∀c∈cs,∃v,c=.lit v):Fz (fun _=>True) H nx (.U id g 0 n 1) (.Q n cs):=by
 refine .ny trivial hg V fun j hj h2 h'=>?_;simp only[Nat.zero_add];obtain⟨v,hv⟩:=hl _ (We h');rw[hv];exact .lit _
end Go.Hx
namespace Go.Proofs
open Go.Hx
variable {n:Nat}{p:Nat->Bool}
def aE (l:List Nat):List Int:=l.map fun (v:Nat)=>(v:Int)
def F7 {j:Nat}(hj:j<n)(h1:∀v,v<j->p v=false)(h2:p j=true):(List.range n).find? p=some j:=by
 rw[List.find?_eq_some_iff_getElem];refine⟨h2,j,by simpa using hj,ZG,fun k hk=>?_⟩;simp only[List.getElem_range];simp[h1 k hk]
def F8 (h1:∀v,v<n->p v=false):(List.range n).find? p=none:=by
 rw[XH];intro x hx;simp[h1 x (Vs.1 hx)]
def Tr (ps:List Nat)(hl:ps.length<=60)(hp:∀p∈ps,p<2 ^ 64)(H:ZK)(K:ZQ->ZK->Prop)
  (hK:∀v H',ZP H H'->(match fD ps with|some o=>aI H.A H' 3 v (ints (aE o))|none=>v=.lit (.slice none 0 0))->K (.ret (.nc [v,.lit (.bool (fD ps).isSome)])) H'):ae Tryz.prog G0 175 [jk ps] H K:=by
 have no:∀H',fD ps=none->ZP H H'->aj Tryz.prog G0 H K (.nc [.lit (.slice none 0 0),.lit (.bool false)]) H':=fun H' h ov=>aj.mk ov.A (by
  have:=hK (.lit (.slice none 0 0)) H' ov;rw[h]at this;exact this rfl)
 refine ae.st (n:=44) (rs:=[.tmp 2,.tmp 3]) Tryz.func175 ?_;simp only[go_sem];refine⟨V,?_⟩;refine W.aS 8796093020412 (by rfl) (fun ρ H'=>∃(out:List Nat) (done:Nat),ρ 5=aL done/\done<2 ^ 64/\out.length<=ps.length/\H.A+1<=H'.A/\ZP H H'/\aI H.A H' 3 (ρ 4) (ints (aE out))/\(∃id g,ρ 4=.U id g 0 out.length 1)/\ic ps (ps.length-out.length) out done=fD ps)
  (fun ρ H=>ps.length-(match ρ 4 with|.U _ _ _ n _=>n|_=>0)) ?_ ?_
 ·simp only[go_sem];exact⟨[],0,ZG,ZH,WK _,.ext _ _,.inr ⟨H.A,0,ZJ,by simp[aW],rfl,cL H _ []⟩,⟨_,_,rfl⟩,rfl⟩
 rintro ρ H' ⟨out,done,h5,hd,ho,hn0,ov,h4,⟨id,gn,h4e⟩,ht⟩;refine W.vs ?_;have lv:H'.na id gn=some (3,ints (aE out)):=by
  rcases h4 with ⟨h,_⟩|⟨i,g,h1,h2,h3,h4⟩
  ·rw[h4e]at h;cases h
  ·rw[h4e]at h3;have:=ZL.U.inj h3;obtain⟨rfl,rfl,_⟩:=this;exact ag h4
 by_cases hb:(out.length:Int)<ps.length
 ·simp only[go_sem,h4e,lv,hb];have hk1:ps.length-out.length=(ps.length-(out.length+1))+1:=V
  refine W.aS 8796092760304 (by rfl) (fun ρ2 H2=>H2=H'/\∃j:Nat,ρ2 18=aa j/\j<=ps.length/\ρ2 4=.U id gn 0 out.length 1/\ρ2 5=aL done/\∀v,v<j->jS ps done v=false) (fun ρ2 H=>ps.length-(iv (ρ2 18)).toNat) ?_ ?_
  ·simp only[go_sem,h4e,h5];exact⟨0,rfl,V,fun v h=>absurd h (Vt _)⟩
  rintro ρ2 H2 ⟨rfl,j,h18,hj,h4',h5',hno⟩;refine W.vs ?_;by_cases hb2:(j:Int)<ps.length
  ·obtain⟨p,hpj⟩:=ay (l:=ps) (i:=j) V;have hp1:=hp p (an hpj);have hne:=aZ hpj;have s1:=fun t x y=>jm (P:=Tryz.prog) (t:=t) (x:=x) (y:=y) (k':=.i64) (s:=j) hd;have s2:=fun t x y=>pf (P:=Tryz.prog) (t:=t) (x:=x) (y:=y) (s:=j) hd;have s3:=fun t x y=>pe (P:=Tryz.prog) (t:=t) (x:=x) (y:=y) (a:=p) (b:=done);have w1:=Vd ((j:Int)+1) V;have cont:jS ps done j=false->∀v,v<j+1->jS ps done v=false:=fun h v hv=>by
    rcases VC v j with h'|h'
    ·exact hno v h'
    ·obtain rfl:v=j:=V;exact h
   have fe:jS ps done j=(!done.testBit j && decide (eE p done=0)):=(by unfold jS;rw[bI hpj]);cases hbit:done.testBit j;rotate_left
   ·simp only[go_sem,h18,h4',h5',hb2,hpj,hne,s1,s2,hbit,w1];exact⟨⟨j+1,ZG,V,cont (by rw[fe,hbit];rfl)⟩,V⟩
   by_cases hz:eE p done=0;rotate_left
   ·have hz':¬((eE p done:Nat):Int)=0:=V;simp only[go_sem,h18,h4',h5',hb2,hpj,hne,s1,s2,s3,hbit,hz',w1];exact⟨⟨j+1,ZG,V,cont (by rw[fe,hbit];simp[hz])⟩,V⟩
   have hz':((eE p done:Nat):Int)=0:=V;have hnx:kr ps done=some j:=F7 V hno (by rw[fe,hbit];simp[hz]);obtain⟨v',H3,hA,ov2,hO,hn2,_⟩:=mD (j:Int) ov h4 (by simp[aE];omega);rw[h4e]at hA;have b2:(2:Nat) ^ j<2 ^ 64:=Ww ZH V;have s4:=fun t x y=>lP (P:=Tryz.prog) (t:=t) (x:=x) (y:=y) (k':=.i64) (s:=j) V;have s5:=fun t x y=>j5 (P:=Tryz.prog) (t:=t) (x:=x) (y:=y) hd b2;simp only[go_sem,h18,h4',h5',hb2,hpj,hne,s1,s2,s3,s4,s5,hbit,hz',hA];have hO':aI H.A H3 3 v' (ints (aE (out++[j]))):=by
    have e:aE (out++[j])=aE out++[(j:Int)]:=(by simp[aE]);rw[e];exact hO
   have hv':∃id g,v'=.U id g 0 (out.length+1) 1:=by
    rcases hO' with ⟨_,h⟩|⟨i,g,_,_,h3,_⟩
    ·simp[ints,aE]at h
    ·exact⟨i,g,by rw[h3,bD];simp[aE]⟩
   obtain⟨i2,g2,rfl⟩:=hv';refine⟨V,⟨out++[j],done |||2 ^ j,rfl,WR hd b2,by simp;omega,V,ov2,hO',⟨i2,g2,ZG⟩,?_⟩,by simp only;omega⟩;rw[<- ht,hk1]
   conv=>rhs;unfold ic
   rw[hnx];simp
  ·simp only[go_sem,h18,hb2];refine no _ ?_ ov;rw[<- ht,hk1];unfold ic;have:kr ps done=none:=F8 fun v hv=>hno v V;rw[this]
 ·simp only[go_sem,h4e,lv,hb];have hz:ps.length-out.length=0:=V
  rw[hz]at ht;have ht':fD ps=some out:=ht.symm;have:=hK (.U id gn 0 out.length 1) H' ov;rw[ht']at this;refine aj.mk ov.A (this ?_);rw[h4e]at h4;exact h4
def Ts (ps:List Nat)(hl:ps.length<=60)(hp:∀p∈ps,p<2 ^ 64)(H:ZK)(v:ZL)(hv:Fz (fun _=>True) H 0 v (jk ps))(K:ZQ->ZK->Prop)
  (hK:K (.ret (.nc [af (aE ((fD ps).getD [])),.lit (.bool (fD ps).isSome)])) H):ae Tryz.prog G0 175 [v] H K:=by
 refine(ae.frame (H:=H) (args:=[v]) (args':=[jk ps]) (v':=.nc [af (aE ((fD ps).getD [])),.lit (.bool (fD ps).isSome)]) aF rfl (fun i hi _=>match i,hi with|0,_=>hv) (Tr ps hl hp cW _ fun u H' ov hu=>⟨_,rfl,?_⟩)).mono ?_
 ·refine .nc rfl fun i hi _=>?_
  match i,hi with
  |0,_ =>
   show Z6 H' u _;cases ht:fD ps with
   |none=>rw[ht]at hu;simp only at hu;rw[hu];show Z6 H' _ (af []);exact .nil
   |some o=>rw[ht]at hu;exact aI.qk hu
  |1,_=>exact .lit _
 ·rintro r H' ⟨rfl,rfl⟩;exact hK
end Go.Proofs
