/-
  Closed facts of this seat's types. Laid by a program of ours.
-/
import Derived.Test.YteolcdbjdgimhaaGreatProg
import Derived.Test.YteolcdbjdgimhaaGreatLibB
set_option linter.all false
set_option maxHeartbeats 8000000
namespace Go.Proofs
open Go.Hx
theorem Tryz.mixed:Tryz.prog.follows .mixedOrders=true:=by kernel_rfl
theorem Tryz.dz:Tryz.prog.cellsOf 3=1:=by kernel_rfl
theorem Tryz.dL:Tryz.prog.bytesOf 3=8:=by kernel_rfl
theorem Tryz.dH:bR Tryz.prog 3=some [.lit (.int .i64 0)]:=by kernel_rfl
theorem Tryz.Bx:Tryz.prog.cellsOf 4=1:=by kernel_rfl
theorem Tryz.LZ:bR Tryz.prog 4=some [.lit (.bool false)]:=by kernel_rfl
theorem Tryz.nH:Tryz.prog.cellsOf 5=1:=by kernel_rfl
theorem Tryz.L5:Tryz.prog.bytesOf 5=1:=by kernel_rfl
theorem Tryz.L6:bR Tryz.prog 5=some [.lit (.int .u8 0)]:=by kernel_rfl
theorem Tryz.By:Tryz.prog.cellsOf 22=1:=by kernel_rfl
theorem Tryz.xJ:Tryz.prog.cellsOf 23=1:=by kernel_rfl
theorem Tryz.Bz:Tryz.prog.cellsOf 25=3:=by kernel_rfl
theorem Tryz.L7:bU Tryz.prog 25 0=some (0,5):=by kernel_rfl
theorem Tryz.L8:bU Tryz.prog 25 1=some (1,22):=by kernel_rfl
theorem Tryz.L9:bU Tryz.prog 25 2=some (2,23):=by kernel_rfl
theorem Tryz.BA:Tryz.prog.cellsOf 26=1:=by kernel_rfl
theorem Tryz.Ma:Tryz.prog.cellsOf 28=6:=by kernel_rfl
theorem Tryz.Mb:bU Tryz.prog 28 0=some (0,25):=by kernel_rfl
theorem Tryz.Mc:bU Tryz.prog 28 1=some (3,5):=by kernel_rfl
theorem Tryz.Md:bU Tryz.prog 28 2=some (4,4):=by kernel_rfl
theorem Tryz.Me:bU Tryz.prog 28 3=some (5,26):=by kernel_rfl
theorem Tryz.BB:Tryz.prog.cellsOf 30=4:=by kernel_rfl
theorem Tryz.Mf:bR Tryz.prog 30=some [.lit (.int .u8 0),.lit (.int .u8 0),.lit (.int .u8 0),.lit (.int .i64 0)]:=by kernel_rfl
theorem Tryz.Mg:iV Tryz.prog 30=some [(0,1),(1,1),(2,1),(3,1)]:=by kernel_rfl
theorem Tryz.Mh:bU Tryz.prog 30 0=some (0,5):=by kernel_rfl
theorem Tryz.Mi:bU Tryz.prog 30 1=some (1,5):=by kernel_rfl
theorem Tryz.Mj:bU Tryz.prog 30 2=some (2,5):=by kernel_rfl
theorem Tryz.Mk:bU Tryz.prog 30 3=some (3,3):=by kernel_rfl
theorem Tryz.Ml:Tryz.prog.cellsOf 32=6:=by kernel_rfl
theorem Tryz.Mm:bU Tryz.prog 32 0=some (0,5):=by kernel_rfl
theorem Tryz.Mn:bU Tryz.prog 32 1=some (1,30):=by kernel_rfl
theorem Tryz.Mo:bU Tryz.prog 32 2=some (5,3):=by kernel_rfl
theorem Tryz.Mp:Tryz.prog.cellsOf 33=1:=by kernel_rfl
theorem Tryz.Mq:bR Tryz.prog 33=some [.lit (.slice none 0 0)]:=by kernel_rfl
theorem Tryz.Mr:Tryz.prog.cellsOf 34=1:=by kernel_rfl
theorem Tryz.BC:Tryz.prog.cellsOf 35=1:=by kernel_rfl
theorem Tryz.BD:Tryz.prog.bytesOf 35=8:=by kernel_rfl
theorem Tryz.BE:bR Tryz.prog 35=some [.lit (.int .u64 0)]:=by kernel_rfl
theorem Tryz.Ms:Tryz.prog.cellsOf 36=1:=by kernel_rfl
theorem Tryz.Mt:Tryz.prog.cellsOf 38=4:=by kernel_rfl
theorem Tryz.Mu:bR Tryz.prog 38=some [.lit (.int .i64 0),.lit (.slice none 0 0),.lit (.int .u64 0),.lit (.slice none 0 0)]:=by kernel_rfl
theorem Tryz.Mv:iV Tryz.prog 38=some [(0,1),(1,1),(2,1),(3,1)]:=by kernel_rfl
theorem Tryz.Mw:bU Tryz.prog 38 0=some (0,3):=by kernel_rfl
theorem Tryz.Mx:bU Tryz.prog 38 1=some (1,34):=by kernel_rfl
theorem Tryz.My:bU Tryz.prog 38 2=some (2,35):=by kernel_rfl
theorem Tryz.Mz:bU Tryz.prog 38 3=some (3,36):=by kernel_rfl
theorem Tryz.jv:Tryz.prog.cellsOf 42=1:=by kernel_rfl
theorem Tryz.jG:Tryz.prog.bytesOf 42=24:=by kernel_rfl
theorem Tryz.jH:bR Tryz.prog 42=some [.lit (.slice none 0 0)]:=by kernel_rfl
theorem Tryz.MA:bR Tryz.prog 44=some [.lit (.int .i64 0),.lit (.slice none 0 0),.lit (.int .u64 0),.lit (.slice none 0 0),.lit (.int .i64 0),.lit (.slice none 0 0),.lit (.int .u64 0),.lit (.slice none 0 0)]:=by kernel_rfl
theorem Tryz.MB:bR Tryz.prog 45=some [.lit (.slice none 0 0),.lit (.slice none 0 0),.lit (.slice none 0 0)]:=by kernel_rfl
theorem Tryz.MC:Tryz.prog.cellsOf 46=1:=by kernel_rfl
theorem Tryz.MD:bR Tryz.prog 46=some [.lit (.int .i64 0)]:=by kernel_rfl
theorem Tryz.ME:Tryz.prog.cellsOf 50=2:=by kernel_rfl
theorem Tryz.MF:bR Tryz.prog 50=some [.lit (.int .i64 0),.lit (.int .i64 0)]:=by kernel_rfl
theorem Tryz.MG:iV Tryz.prog 50=some [(0,1),(1,1)]:=by kernel_rfl
theorem Tryz.MH:Tryz.prog.cellsOf 81=2:=by kernel_rfl
theorem Tryz.MI:bR Tryz.prog 81=some [.lit (.int .i64 0),.lit (.slice none 0 0)]:=by kernel_rfl
theorem Tryz.MJ:iV Tryz.prog 81=some [(0,1),(1,1)]:=by kernel_rfl
theorem Tryz.MK:bU Tryz.prog 81 0=some (0,3):=by kernel_rfl
theorem Tryz.ML:bU Tryz.prog 81 1=some (1,34):=by kernel_rfl
theorem Tryz.MM:Tryz.prog.cellsOf 84=1:=by kernel_rfl
theorem Tryz.sf:Tryz.prog.cellsOf 87=3:=by kernel_rfl
theorem Tryz.sh:Tryz.prog.bytesOf 87=56:=by kernel_rfl
theorem Tryz.sj:bR Tryz.prog 87=some [.lit (.int .i64 0),.lit (.slice none 0 0),.lit (.slice none 0 0)]:=by kernel_rfl
theorem Tryz.MN:iV Tryz.prog 87=some [(0,1),(1,1),(2,1)]:=by kernel_rfl
theorem Tryz.MO:bU Tryz.prog 87 0=some (0,3):=by kernel_rfl
theorem Tryz.MP:bU Tryz.prog 87 1=some (1,42):=by kernel_rfl
theorem Tryz.MQ:bU Tryz.prog 87 2=some (2,33):=by kernel_rfl
theorem Tryz.uD:Tryz.prog.cellsOf 90=2:=by kernel_rfl
theorem Tryz.uE:Tryz.prog.bytesOf 90=48:=by kernel_rfl
theorem Tryz.uF:bR Tryz.prog 90=some [.lit (.slice none 0 0),.lit (.slice none 0 0)]:=by kernel_rfl
theorem Tryz.MR:iV Tryz.prog 90=some [(0,1),(1,1)]:=by kernel_rfl
theorem Tryz.MS:bU Tryz.prog 90 0=some (0,42):=by kernel_rfl
theorem Tryz.MT:bU Tryz.prog 90 1=some (1,42):=by kernel_rfl
theorem Tryz.BF:Tryz.prog.cellsOf 91=1:=by kernel_rfl
theorem Tryz.BG:Tryz.prog.cellsOf 93=2:=by kernel_rfl
theorem Tryz.MU:bU Tryz.prog 93 0=some (0,5):=by kernel_rfl
theorem Tryz.MV:bU Tryz.prog 93 1=some (1,91):=by kernel_rfl
theorem Tryz.BH:Tryz.prog.cellsOf 95=1:=by kernel_rfl
theorem Tryz.BI:Tryz.prog.bytesOf 95=24:=by kernel_rfl
theorem Tryz.BJ:bR Tryz.prog 95=some [.lit (.slice none 0 0)]:=by kernel_rfl
theorem Tryz.xK:Tryz.prog.cellsOf 97=2:=by kernel_rfl
theorem Tryz.xL:Tryz.prog.bytesOf 97=16:=by kernel_rfl
theorem Tryz.xM:bR Tryz.prog 97=some [.lit (.int .i64 0),.lit (.int .i64 0)]:=by kernel_rfl
theorem Tryz.MW:Tryz.prog.cellsOf 115=1:=by kernel_rfl
theorem Tryz.MX:bR Tryz.prog 115=some [.lit (.pointer none)]:=by kernel_rfl
theorem Tryz.MY:Tryz.prog.cellsOf 117=1:=by kernel_rfl
theorem Tryz.MZ:bR Tryz.prog 119=some [.lit (.slice none 0 0),.lit (.slice none 0 0),.lit (.slice none 0 0)]:=by kernel_rfl
theorem Tryz.M0:iV Tryz.prog 119=some [(0,1),(1,1),(2,1)]:=by kernel_rfl
theorem Tryz.M1:bU Tryz.prog 119 0=some (0,117):=by kernel_rfl
theorem Tryz.M3:bU Tryz.prog 119 1=some (1,42):=by kernel_rfl
theorem Tryz.M4:bU Tryz.prog 119 2=some (2,42):=by kernel_rfl
theorem Tryz.M5:Tryz.prog.cellsOf 122=1:=by kernel_rfl
theorem Tryz.M6:Tryz.prog.cellsOf 128=3:=by kernel_rfl
theorem Tryz.M7:bR Tryz.prog 128=some [.lit (.int .i64 0),.lit (.slice none 0 0),.lit (.slice none 0 0)]:=by kernel_rfl
theorem Tryz.M8:iV Tryz.prog 128=some [(0,2),(2,1)]:=by kernel_rfl
theorem Tryz.M9:bU Tryz.prog 128 0=some (0,81):=by kernel_rfl
theorem Tryz.Na:bU Tryz.prog 128 1=some (2,36):=by kernel_rfl
theorem Tryz.Nb:Tryz.prog.cellsOf 130=1:=by kernel_rfl
theorem Tryz.Nc:Tryz.prog.cellsOf 134=1:=by kernel_rfl
theorem Tryz.Nd:bR Tryz.prog 134=some [.lit (.pointer none)]:=by kernel_rfl
theorem Tryz.Nf:Tryz.prog.cellsOf 140=3:=by kernel_rfl
theorem Tryz.Ng:bR Tryz.prog 140=some [.lit (.slice none 0 0),.lit (.int .u16 0),.lit (.slice none 0 0)]:=by kernel_rfl
theorem Tryz.Nh:iV Tryz.prog 140=some [(0,1),(1,1),(2,1)]:=by kernel_rfl
theorem Tryz.Ni:bU Tryz.prog 140 0=some (0,23):=by kernel_rfl
theorem Tryz.Nj:bU Tryz.prog 140 2=some (2,23):=by kernel_rfl
theorem Tryz.BK:Tryz.prog.cellsOf 143=3:=by kernel_rfl
theorem Tryz.Nk:bR Tryz.prog 143=some [.lit (.int .u8 0),.lit (.int .u8 0),.lit (.slice none 0 0)]:=by kernel_rfl
theorem Tryz.Nm:bU Tryz.prog 143 0=some (0,5):=by kernel_rfl
theorem Tryz.No:bU Tryz.prog 143 1=some (1,5):=by kernel_rfl
theorem Tryz.Np:bU Tryz.prog 143 2=some (2,23):=by kernel_rfl
theorem Tryz.BL:Tryz.prog.cellsOf 147=1:=by kernel_rfl
theorem Tryz.Nq:Tryz.prog.cellsOf 164=1:=by kernel_rfl
theorem Tryz.Nr:bR Tryz.prog 164=some [.lit (.map none)]:=by kernel_rfl
theorem Tryz.Ns:bR Tryz.prog 178=some [.lit (.int .i64 0),.lit (.slice none 0 0),.lit (.int .u64 0),.lit (.slice none 0 0),.lit (.slice none 0 0),.lit (.slice none 0 0),.lit (.slice none 0 0),.lit (.int .i64 0)]:=by kernel_rfl
theorem Tryz.Nt:iV Tryz.prog 178=some [(0,4),(4,1),(5,1),(6,1),(7,1)]:=by kernel_rfl
theorem Tryz.Nu:bU Tryz.prog 178 0=some (0,38):=by kernel_rfl
theorem Tryz.Nv:bU Tryz.prog 178 2=some (5,42):=by kernel_rfl
theorem Tryz.Nw:bU Tryz.prog 178 3=some (6,42):=by kernel_rfl
theorem Tryz.Nx:Tryz.prog.cellsOf 184=1:=by kernel_rfl
theorem Tryz.Ny:Tryz.prog.cellsOf 201=5:=by kernel_rfl
theorem Tryz.Nz:bR Tryz.prog 201=some [.lit (.int .i64 0),.lit (.slice none 0 0),.lit (.slice none 0 0),.lit (.slice none 0 0),.lit (.slice none 0 0)]:=by kernel_rfl
theorem Tryz.NA:iV Tryz.prog 201=some [(0,2),(2,1),(3,1),(4,1)]:=by kernel_rfl
theorem Tryz.NB:bU Tryz.prog 201 0=some (0,81):=by kernel_rfl
theorem Tryz.NC:bU Tryz.prog 201 1=some (2,42):=by kernel_rfl
theorem Tryz.ND:bU Tryz.prog 201 2=some (3,84):=by kernel_rfl
theorem Tryz.NF:bU Tryz.prog 201 3=some (4,42):=by kernel_rfl
attribute [go_sem] Tryz.underlying3 Tryz.dz Tryz.dL Tryz.dH Tryz.underlying4 Tryz.Bx Tryz.LZ Tryz.underlying5 Tryz.nH Tryz.L5 Tryz.L6
attribute [go_sem] Tryz.underlying9 Tryz.underlying22 Tryz.By Tryz.underlying23 Tryz.xJ
attribute [go_sem] Tryz.underlying24 Tryz.underlying25 Tryz.Bz
attribute [go_sem] Tryz.L7 Tryz.L8 Tryz.L9 Tryz.underlying26 Tryz.BA Tryz.underlying27
attribute [go_sem] Tryz.underlying28 Tryz.Ma Tryz.Mb Tryz.Mc
attribute [go_sem] Tryz.Md Tryz.Me Tryz.underlying29 Tryz.underlying30
attribute [go_sem] Tryz.BB Tryz.Mf Tryz.Mg Tryz.Mh Tryz.Mi Tryz.Mj Tryz.Mk Tryz.underlying31
attribute [go_sem] Tryz.underlying32 Tryz.Ml Tryz.Mm Tryz.Mn Tryz.Mo
attribute [go_sem] Tryz.underlying33 Tryz.Mp Tryz.Mq Tryz.underlying34 Tryz.Mr Tryz.underlying35 Tryz.BC Tryz.BD Tryz.BE
attribute [go_sem] Tryz.underlying36 Tryz.Ms Tryz.underlying37
attribute [go_sem] Tryz.underlying38 Tryz.Mt Tryz.Mu Tryz.Mv Tryz.Mw Tryz.Mx Tryz.My Tryz.Mz Tryz.underlying42 Tryz.jv
attribute [go_sem] Tryz.jG Tryz.jH Tryz.underlying44 Tryz.MA Tryz.underlying45 Tryz.MB Tryz.underlying46 Tryz.MC
attribute [go_sem] Tryz.MD Tryz.underlying49 Tryz.underlying50 Tryz.ME
attribute [go_sem] Tryz.MF Tryz.MG Tryz.underlying61 Tryz.underlying62
attribute [go_sem] Tryz.underlying68 Tryz.underlying80 Tryz.underlying81
attribute [go_sem] Tryz.MH Tryz.MI Tryz.MJ Tryz.MK Tryz.ML Tryz.underlying84 Tryz.MM Tryz.underlying86
attribute [go_sem] Tryz.underlying87 Tryz.sf Tryz.sh Tryz.sj Tryz.MN Tryz.MO
attribute [go_sem] Tryz.MP Tryz.MQ Tryz.underlying89 Tryz.underlying90 Tryz.uD Tryz.uE
attribute [go_sem] Tryz.uF Tryz.MR Tryz.MS Tryz.MT Tryz.underlying91 Tryz.BF Tryz.underlying92
attribute [go_sem] Tryz.underlying93 Tryz.BG Tryz.MU Tryz.MV Tryz.underlying95 Tryz.BH
attribute [go_sem] Tryz.BI Tryz.BJ Tryz.underlying97 Tryz.xK Tryz.xL Tryz.xM Tryz.underlying115 Tryz.MW Tryz.MX Tryz.underlying117 Tryz.MY
attribute [go_sem] Tryz.underlying118 Tryz.underlying119
attribute [go_sem] Tryz.MZ Tryz.M0 Tryz.M1 Tryz.M3 Tryz.M4 Tryz.underlying122 Tryz.M5 Tryz.underlying127
attribute [go_sem] Tryz.underlying128 Tryz.M6 Tryz.M7 Tryz.M8 Tryz.M9 Tryz.Na
attribute [go_sem] Tryz.underlying130 Tryz.Nb Tryz.underlying134 Tryz.Nc Tryz.Nd Tryz.underlying139
attribute [go_sem] Tryz.underlying140 Tryz.Nf Tryz.Ng Tryz.Nh Tryz.Ni Tryz.Nj
attribute [go_sem] Tryz.underlying142 Tryz.underlying143 Tryz.BK Tryz.Nk
attribute [go_sem] Tryz.Nm Tryz.No Tryz.Np Tryz.underlying147 Tryz.BL Tryz.underlying164 Tryz.Nq Tryz.Nr
attribute [go_sem] Tryz.underlying176 Tryz.underlying177
attribute [go_sem] Tryz.underlying178 Tryz.Ns Tryz.Nt Tryz.Nu Tryz.Nv Tryz.Nw
attribute [go_sem] Tryz.underlying179 Tryz.underlying180 Tryz.underlying181
attribute [go_sem] Tryz.underlying182
attribute [go_sem] Tryz.underlying184 Tryz.Nx
attribute [go_sem] Tryz.underlying200 Tryz.underlying201 Tryz.Ny
attribute [go_sem] Tryz.Nz Tryz.NA Tryz.NB Tryz.NC Tryz.ND Tryz.NF Tryz.underlying212 Tryz.underlying215
attribute [go_sem] Tryz.underlying221 Tryz.underlying231
def aj (l:List (List Int)):AVal:=.vec l.length (l.map af)
structure NodeP where
 card:Int
 parents:List Int
 rows:List (List Int)
structure UtilP where
 vars:List Int
 w:List Int
def NodeP.cells (x:NodeP):List AVal:=[aa x.card,af x.parents,aj x.rows]
def UtilP.cells (x:UtilP):List AVal:=[af x.vars,af x.w]
def aF (l:List NodeP):List AVal:=(l.map NodeP.cells).flatten
def aO (l:List UtilP):List AVal:=(l.map UtilP.cells).flatten
def cE (l:List NodeP):AVal:=.vec l.length (aF l)
def uG (l:List UtilP):AVal:=.vec l.length (aO l)
def bL (g:Int)(l:List NodeP):AVal:=.agg [aa g,cE l]
structure InfP where
 grain:Int
 nodes:List NodeP
 decs:Nat
 utils:List UtilP
def cW (d:InfP):AVal:=.agg [aa d.grain,cE d.nodes,.lit (.int .u64 (d.decs:Int)),uG d.utils]
theorem je {α:Type}{f:α->List AVal}{z:Nat}(hz:∀a,(f a).length=z):∀(l:List α) (i j:Nat) (a:α),l[i]?=some a->j<z->((l.map f).flatten)[i*z+j]?=(f a)[j]?:=by
 intro l
 induction l with
 |nil=>intro i j a h;simp at h
 |cons x l ih =>
  intro i j a h hj;simp only[List.map_cons,List.flatten_cons];cases i with
  |zero =>
   simp only[List.getElem?_cons_zero,Option.some.injEq]at h;subst h;rw[UB,Nat.zero_add,SU (by rw[hz];exact hj)]
  |succ i =>
   have:(i+1)*z+j=z+(i*z+j):=(by rw[T2];omega);rw[this,SZ (by rw[hz];omega),hz];have:z+(i*z+j)-z=i*z+j:=(by omega);rw[this];exact ih i j a (by simpa using h) hj
theorem kJ {α:Type}{f:α->List AVal}{z:Nat}(hz:∀a,(f a).length=z)(l:List α):((l.map f).flatten).length=l.length*z:=by
 induction l with
 |nil=>simp
 |cons x l ih=>simp only[List.map_cons,List.flatten_cons,List.length_append,ih,hz,List.length_cons];rw[T2];omega
theorem nK {α:Type}{f:α->List AVal}{z:Nat}(hz:∀a,(f a).length=z):∀(l:List α) (i:Nat) (a:α),l[i]?=some a->(((l.map f).flatten).drop (i*z)).take z=f a:=by
 intro l i a h;apply Ti;intro j;by_cases hj:j<z
 ·rw[Tf hj,TN,je hz l i j a h hj]
 ·rw[SQ (by simp;omega),SQ (by rw[hz];omega)]
theorem iI (l:List NodeP):(aF l).length=l.length*3:=kJ (f:=NodeP.cells) (fun _=>rfl) l
theorem iJ {l:List NodeP}{i:Nat}{x:NodeP}(h:l[i]?=some x):(aF l)[i*3]?=some (aa x.card):=je (f:=NodeP.cells) (z:=3) (fun _=>rfl) l i 0 x h (by omega)
theorem jY {l:List NodeP}{i:Nat}{x:NodeP}(h:l[i]?=some x):(aF l)[i*3+1]?=some (af x.parents):=je (f:=NodeP.cells) (z:=3) (fun _=>rfl) l i 1 x h (by omega)
theorem qf {l:List NodeP}{i:Nat}{x:NodeP}(h:l[i]?=some x):(aF l)[i*3+2]?=some (aj x.rows):=je (f:=NodeP.cells) (z:=3) (fun _=>rfl) l i 2 x h (by omega)
theorem my {l:List NodeP}{i:Nat}{x:NodeP}(h:l[i]?=some x):((aF l).drop (i*3)).take 3=[aa x.card,af x.parents,aj x.rows]:=nK (f:=NodeP.cells) (z:=3) (fun _=>rfl) l i x h
theorem dJ {l:List NodeP}{i:Nat}{x:NodeP}(h:l[i]?=some x):¬aF l=[]:=fun e=>by
 have:=iJ h;rw[e]at this;simp at this
theorem kK (l:List UtilP):(aO l).length=l.length*2:=kJ (f:=UtilP.cells) (fun _=>rfl) l
theorem B1 {l:List UtilP}{i:Nat}{x:UtilP}(h:l[i]?=some x):(aO l)[i*2]?=some (af x.vars):=je (f:=UtilP.cells) (z:=2) (fun _=>rfl) l i 0 x h (by omega)
theorem Om {l:List UtilP}{i:Nat}{x:UtilP}(h:l[i]?=some x):(aO l)[i*2+1]?=some (af x.w):=je (f:=UtilP.cells) (z:=2) (fun _=>rfl) l i 1 x h (by omega)
theorem sr {l:List UtilP}{i:Nat}{x:UtilP}(h:l[i]?=some x):((aO l).drop (i*2)).take 2=[af x.vars,af x.w]:=nK (f:=UtilP.cells) (z:=2) (fun _=>rfl) l i x h
theorem qg {l:List UtilP}{i:Nat}{x:UtilP}(h:l[i]?=some x):¬aO l=[]:=fun e=>by
 have:=B1 h;rw[e]at this;simp at this
theorem get_lt {α:Type}{l:List α}{i:Nat}{x:α}(h:l[i]?=some x):i<l.length:=by
 rcases S9 i l.length with h'|h'
 ·exact h'
 ·rw[SQ h']at h;cases h
theorem get_of_lt {α:Type}{l:List α}{i:Nat}(h:i<l.length):∃x,l[i]?=some x:=⟨_,SJ h⟩
theorem lO {α:Type}{l:List α}{i:Int}(h0:0<=i)(h:i<l.length):∃k:Nat,i=k/\∃x,l[k]?=some x:=⟨i.toNat,by omega,get_of_lt (by omega)⟩
def ao (l:List Int):Int:=l.foldl (·*·) 1
theorem B3 (l:List Int)(a:Int):l.foldl (·*·) a=a*ao l:=by
 unfold ao
 induction l generalizing a with
 |nil=>simp
 |cons x l ih=>simp only[Ts];rw[ih,ih (1*x),U4,Vf]
theorem gm:ao []=1:=rfl
theorem jf (x:Int)(l:List Int):ao (x :: l)=x*ao l:=by
 show List.foldl _ (1*x) l=_;rw[B3,U4]
theorem su (l l':List Int):ao (l++l')=ao l*ao l':=by
 unfold ao;rw[TT,B3];rfl
theorem eQ (l:List Int)(x:Int):ao (l++[x])=ao l*x:=by rw[su,jf,gm,U5]
theorem aL {α:Type}{l:List α}{k:Nat}{x:α}(h:l[k]?=some x):l.take (k+1)=l.take k++[x]:=by
 rw[List.take_add_one,h];rfl
theorem eD {l:List Int}(h:∀x∈l,1<=x):1<=ao l:=by
 induction l with
 |nil=>decide
 |cons x l ih =>
  rw[jf];have h1:=ih fun y hy=>h y (by simp[hy]);have h2:=h x (by simp);have:=TJ h2 h1 (by omega) (by omega);simpa using this
theorem nL {b:Int}{l:List Int}(hb:0<=b)(h:∀x∈l,0<=x/\x<=b):0<=ao l/\ao l<=b ^ l.length:=by
 induction l with
 |nil=>exact⟨by decide,by simp[ao]⟩
 |cons x l ih =>
  rw[jf];have h1:=ih fun y hy=>h y (by simp[hy]);have h2:=h x (by simp);refine⟨T8 h2.1 h1.1,?_⟩;have:=TJ h2.2 h1.2 h1.1 hb;rw[List.length_cons,T4,Uf (b ^ l.length)];exact this
def ak (l:List NodeP):List Int:=l.map (·.card)
def aI (l places:List Int):List Int:=places.map fun p=>l.getD p.toNat 0
def bO (places:List Int)(n:Int):Prop:=places.Pairwise (·<·)/\∀p∈places,0<=p/\p<n
end Go.Proofs
set_option maxRecDepth 100000
namespace Go.Proofs
open Go.Hx
def G0:Nat->Option (List AVal):=xx
theorem aE:fm G0:=K4
end Go.Proofs
namespace Go.Hx
variable {P:Program} {G:Nat->Option (List AVal)} {Γ Γ':aK} {H H':AHeap} {w w':World}
theorem W.env {n:Nat}{rd:Option Nat}{Q:AX->St->Prop}{c:Code}{ρ:Env}{H:AHeap}(h:∀E,E=ρ->W P G n rd c Q ⟨E,H⟩):W P G n rd c Q ⟨ρ,H⟩:=h ρ rfl
theorem W.en {n:Nat}{rd:Option Nat}{Q:AX->St->Prop}{c:Code}{ρ:Env}{H:AHeap}(p:Env->Prop)(hp:p ρ)(h:∀E,p E->W P G n rd c Q ⟨E,H⟩):W P G n rd c Q ⟨ρ,H⟩:=h ρ hp
theorem Below.mono {n m:Nat}{v:AVal}(h:Below n v)(hm:n<=m):Below m v:=by
 induction h with
 |lit v=>exact .lit v
 |vec h ih=>exact .vec ih
 |vptr h ih=>exact .vptr ih
 |agg h ih=>exact .agg ih
 |tup h ih=>exact .tup ih
 |clo h1 h2 ih1 ih2=>exact .clo ih1 ih2
 |own h=>exact .own (by omega)
 |ptr h=>exact .ptr (by omega)
 |yld h=>exact .yld (by omega)
theorem D3 (H:AHeap)(op:BinOp)(a:List AVal)(y:AVal):lF H op (.agg a) y=none:=by unfold lF;split<;>rfl
attribute [go_sem] D3
theorem eM {l:List AVal}{i:Nat}{x:AVal}(h:i<l.length):setAt l i [x]=l.set i x:=by
 unfold setAt;rw[Vw,SK h];simp
theorem Over.mQ {B H:AHeap}(h:Over B H){n:Nat}(hn:B.next<=n):Over B (H.cut n):=⟨h.next,fun id hi=>(ur (by omega)).trans (h.old id hi)⟩
section
variable {t:TypeId} {x y:Operand} {k k':IntKind} {a b:Int}
theorem tq (hb:0<=b):bx P .shr t x y (.lit (.int k a)) (.lit (.int k' b))=some (.lit (.int k (a.fdiv (2 ^ (min b.toNat k.bits))))):=by
 have h:¬b<0:=by omega
 simp[bx,AVal.cZ,eqGuard,binOp,Op.shift,h,bF,bind,Sem.bind,pure]
theorem zd (hb:0<=b):bx P .shl t x y (.lit (.int k a)) (.lit (.int k' b))=some (.lit (.int k (k.wrap (a*2 ^ (min b.toNat k.bits))))):=by
 have h:¬b<0:=by omega
 simp[bx,AVal.cZ,eqGuard,binOp,Op.shift,h,bF,bind,Sem.bind,pure]
theorem tt:bx P .and t x y (.lit (.int k a)) (.lit (.int k b))=some (.lit (.int k (k.wrap ((BitVec.ofInt k.bits a &&& BitVec.ofInt k.bits b).toNat:Nat)))):=by
 simp[bx,AVal.cZ,eqGuard,binOp,Op.intBits,bF,bind,Sem.bind,pure]
theorem Rv:bx P .or t x y (.lit (.int k a)) (.lit (.int k b))=some (.lit (.int k (k.wrap ((BitVec.ofInt k.bits a |||BitVec.ofInt k.bits b).toNat:Nat)))):=by
 simp[bx,AVal.cZ,eqGuard,binOp,Op.intBits,bF,bind,Sem.bind,pure]
theorem Rw:bx P .xor t x y (.lit (.int k a)) (.lit (.int k b))=some (.lit (.int k (k.wrap ((BitVec.ofInt k.bits a ^^^ BitVec.ofInt k.bits b).toNat:Nat)))):=by
 simp[bx,AVal.cZ,eqGuard,binOp,Op.intBits,bF,bind,Sem.bind,pure]
theorem Rx:bx P .andNot t x y (.lit (.int k a)) (.lit (.int k b))=some (.lit (.int k (k.wrap ((BitVec.ofInt k.bits a &&& ~~~ BitVec.ofInt k.bits b).toNat:Nat)))):=by
 simp[bx,AVal.cZ,eqGuard,binOp,Op.intBits,bF,bind,Sem.bind,pure]
def bP (m:Nat):AVal:=.lit (.int .u64 (m:Int))
def iT (a b:Nat):Nat:=(BitVec.ofNat 64 a &&& ~~~ BitVec.ofNat 64 b).toNat
theorem qO {m:Nat}(h:m<2 ^ 64):(BitVec.ofInt 64 (m:Int)).toNat=m:=by rw[BitVec.ofInt_natCast,BitVec.toNat_ofNat,UY h]
theorem D4 (a b:Nat):iT a b<2 ^ 64:=(BitVec.isLt _)
theorem ze {a b i:Nat}(ha:a<2 ^ 64):(iT a b).testBit i=(a.testBit i && !b.testBit i):=by
 unfold iT;by_cases hi:i<64
 ·rw[<- BitVec.getLsbD,BitVec.getLsbD_and,BitVec.getLsbD_not,BitVec.getLsbD_ofNat,BitVec.getLsbD_ofNat];simp[hi]
 ·have h1:a.testBit i=false:=Vi (S1 ha (Te (by decide) (by omega)));rw[h1,<- BitVec.getLsbD,BitVec.getLsbD_of_ge _ _ (by omega)];rfl
theorem tu {m:Nat}(h:m<2 ^ 64):IntKind.u64.wrap (m:Int)=m:=Ue _ (by omega)
theorem Ry {a b:Nat}(ha:a<2 ^ 64)(hb:b<2 ^ 64):bx P .and t x y (.lit (.int .u64 (a:Int))) (.lit (.int .u64 (b:Int)))=some (.lit (.int .u64 ((a &&& b:Nat):Int))):=by
 rw[tt];have e:(BitVec.ofInt (IntKind.bits .u64) (a:Int) &&& BitVec.ofInt (IntKind.bits .u64) (b:Int)).toNat=a &&& b:=by
  show (BitVec.ofInt 64 _ &&& BitVec.ofInt 64 _).toNat=_;rw[BitVec.toNat_and,qO ha,qO hb]
 rw[e,tu (Vv Nat.and_le_left ha)]
theorem ma {a b:Nat}(ha:a<2 ^ 64)(hb:b<2 ^ 64):bx P .or t x y (.lit (.int .u64 (a:Int))) (.lit (.int .u64 (b:Int)))=some (.lit (.int .u64 ((a |||b:Nat):Int))):=by
 rw[Rv];have e:(BitVec.ofInt (IntKind.bits .u64) (a:Int) |||BitVec.ofInt (IntKind.bits .u64) (b:Int)).toNat=a |||b:=by
  show (BitVec.ofInt 64 _ |||BitVec.ofInt 64 _).toNat=_;rw[BitVec.toNat_or,qO ha,qO hb]
 rw[e,tu (UU ha hb)]
theorem Rz {a b:Nat}(ha:a<2 ^ 64)(hb:b<2 ^ 64):bx P .xor t x y (.lit (.int .u64 (a:Int))) (.lit (.int .u64 (b:Int)))=some (.lit (.int .u64 ((a ^^^ b:Nat):Int))):=by
 rw[Rw];have e:(BitVec.ofInt (IntKind.bits .u64) (a:Int) ^^^ BitVec.ofInt (IntKind.bits .u64) (b:Int)).toNat=a ^^^ b:=by
  show (BitVec.ofInt 64 _ ^^^ BitVec.ofInt 64 _).toNat=_;rw[BitVec.toNat_xor,qO ha,qO hb]
 rw[e,tu (Vu ha hb)]
theorem zf {a b:Nat}:bx P .andNot t x y (.lit (.int .u64 (a:Int))) (.lit (.int .u64 (b:Int)))=some (.lit (.int .u64 ((iT a b:Nat):Int))):=by
 rw[Rx];have e:(BitVec.ofInt (IntKind.bits .u64) (a:Int) &&& ~~~ BitVec.ofInt (IntKind.bits .u64) (b:Int)).toNat=iT a b:=by
  show (BitVec.ofInt 64 _ &&& ~~~ BitVec.ofInt 64 _).toNat=_;rw[BitVec.ofInt_natCast,BitVec.ofInt_natCast];rfl
 rw[e,tu (D4 a b)]
theorem mb {a s:Nat}(ha:a<2 ^ 64):bx P .shr t x y (.lit (.int .u64 (a:Int))) (.lit (.int k' (s:Int)))=some (.lit (.int .u64 ((a >>> s:Nat):Int))):=by
 rw[tq (by omega),Int.toNat_natCast];have e:(a:Int).fdiv (2 ^ (min s (IntKind.bits .u64)))=((a >>> s:Nat):Int):=by
  rw[VR _ (by exact_mod_cast UF _),Vb];show (a:Int) / 2 ^ (min s 64)=_;rcases Nat.le_total s 64 with h|h
  ·rw[TY h];push_cast;rfl
  ·rw[Nat.min_eq_right h];have h1:a / 2 ^ s=0:=UH (S1 ha (Te (by decide) h));rw[h1];exact UT (by omega) (by omega)
 rw[e]
theorem py {s:Nat}(hs:s<64):bx P .shl t x y (.lit (.int .u64 1)) (.lit (.int k' (s:Int)))=some (.lit (.int .u64 ((2 ^ s:Nat):Int))):=by
 rw[zd (by omega),Int.toNat_natCast];have e:min s (IntKind.bits .u64)=s:=TY (by show s<=64;omega);have h2:2 ^ s<2 ^ 64:=Ui (by decide) hs;rw[e,U4];have h3:((2:Int) ^ s)=((2 ^ s:Nat):Int):=by push_cast;rfl
 rw[h3,tu h2]
theorem oB {a s:Nat}(ha:a<2 ^ 64):bx P .and t x y (.lit (.int .u64 ((a >>> s:Nat):Int))) (.lit (.int .u64 1))=some (.lit (.int .u64 (if a.testBit s then 1 else 0))):=by
 have h1:a >>> s<2 ^ 64:=Vv (Nat.shiftRight_le _ _) ha;have:=Ry (P:=P) (t:=t) (x:=x) (y:=y) (a:=a >>> s) (b:=1) h1 (by decide);rw[show (((1:Nat):Int))=1 from rfl]at this;rw[this,Nat.and_one_is_mod];congr 3;rw[Nat.testBit,Nat.and_comm,Nat.and_one_is_mod];rcases Nat.mod_two_eq_zero_or_one (a >>> s) with h|h<;>rw[h]<;>rfl
end
end Go.Hx
namespace Go.Proofs
open Go.Hx
theorem cq (H:AHeap)(b:Blk)(L:List Blk):(ext H (b :: L)).get H.next=some b:=bD H (b :: L) 0 (by simp)
theorem zg (l:List Int)(n:Nat):(ints l).take n=ints (l.take n):=by simp[ints]
theorem zh (l:List Int)(n:Nat):(ints l).drop n=ints (l.drop n):=by simp[ints]
theorem aJ {α:Type}{l:List α}{i:Nat}{a:α}(h:l[i]?=some a):¬l=[]:=by rintro rfl;simp at h
theorem fD {l:List Int}{i:Nat}{x:Int}(h:i<l.length):setAt (ints l) i [.lit (.int .i64 x)]=ints (l.set i x):=by
 rw[eM (by simpa[ints] using h)];simp[ints,aa]
theorem zj (w:Bool):rF w (some (.lit undef))=some false:=rfl
def aP (ns:List NodeP)(x:NodeP):List Int:=aI (ak ns) x.parents
def bJ:List Int->List Int->Int
 |_ :: cs,v :: vs=>v*ao cs+bJ cs vs
 |_,_=>0
def aR:List Int->Int->List Int
 | [],_=>[]
 |c :: cs,i=>i / ao cs % c :: aR cs i
theorem kL (cs:List Int)(i:Int):(aR cs i).length=cs.length:=by
 induction cs with
 |nil=>rfl
 |cons c cs ih=>simp[aR,ih]
theorem On {cs:List Int}{k:Nat}{c:Int}(h:cs[k]?=some c)(i:Int):aR (cs.drop k) i=(i / ao (cs.drop (k+1)) % c) :: aR (cs.drop (k+1)) i:=by
 have:cs.drop k=c :: cs.drop (k+1):=by
  rw[TB (get_lt h)];congr 1;have:=SJ (get_lt h);rw[h]at this;exact(Option.some.inj this).symm
 rw[this];rfl
theorem jw {α:Type}{l:List α}{k:Nat}{a:α}(h:l[k]?=some a):l.drop k=a :: l.drop (k+1):=by
 rw[TB (get_lt h)];congr 1;have:=SJ (get_lt h);rw[h]at this;exact(Option.some.inj this).symm
theorem xV {cs:List Int}(h:∀c∈cs,1<=c)(i:Int):∀(k:Nat) (c v:Int),cs[k]?=some c->(aR cs i)[k]?=some v->0<=v/\v<c:=by
 induction cs with
 |nil=>intro k c v h;simp at h
 |cons a cs ih =>
  intro k c v h1 h2;cases k with
  |zero =>
   simp only[aR,List.getElem?_cons_zero,Option.some.injEq]at h1 h2;subst h1;subst h2;have:=h a (by simp);exact⟨TP _ (by omega),TO _ (by omega)⟩
  |succ k =>
   simp only[aR,List.getElem?_cons_succ]at h1 h2;exact ih (fun c hc=>h c (by simp[hc])) k c v h1 h2
def bH (cs vs:List Int):Prop:=vs.length=cs.length/\∀(k:Nat) (c v:Int),cs[k]?=some c->vs[k]?=some v->0<=v/\v<c
theorem bH.tail {c v:Int}{cs vs:List Int}(h:bH (c :: cs) (v :: vs)):bH cs vs:=⟨by simpa using h.1,fun k c v h1 h2=>h.2 (k+1) c v (by simpa using h1) (by simpa using h2)⟩
theorem bH.head {c v:Int}{cs vs:List Int}(h:bH (c :: cs) (v :: vs)):0<=v/\v<c:=h.2 0 c v (by simp) (by simp)
theorem bH.pos {cs vs:List Int}(h:bH cs vs):∀c∈cs,1<=c:=fun c hc=>by
 obtain⟨k,hk⟩:=SW.1 hc;obtain⟨v,hv⟩:=get_of_lt (l:=vs) (i:=k) (by rw[h.1];exact get_lt hk);have:=h.2 k c v hk hv;omega
theorem kM {cs:List Int}(h:∀c∈cs,1<=c)(i:Int):bH cs (aR cs i):=⟨kL cs i,xV h i⟩
theorem jZ:∀ {cs vs:List Int},bH cs vs->0<=bJ cs vs/\bJ cs vs<ao cs:=by
 intro cs
 induction cs with
 |nil=>intro vs _;cases vs<;>(simp[bJ,gm])
 |cons c cs ih =>
  intro vs h;cases vs with
  |nil=>exact absurd h.1 (by simp)
  |cons v vs =>
   have h1:=ih h.tail;have h2:=h.head;have hp:1<=ao cs:=eD fun x hx=>h.pos x (by simp[hx]);rw[jf];simp only[bJ];have h3:0<=v*ao cs:=T8 h2.1 (by omega);have h4:(v+1)*ao cs<=c*ao cs:=UE (by omega) (by omega);rw[VQ,U4]at h4;omega
theorem xW:∀ {cs vs:List Int},bH cs vs->aR cs (bJ cs vs)=vs:=by
 have key:∀(cs:List Int) (i a c:Int),(∀x∈cs,1<=x)->aR cs (a*ao cs*c+i)=aR cs i:=by
  intro cs
  induction cs with
  |nil=>intros;rfl
  |cons x cs ih =>
   intro i a c h;have hx:=h x (by simp);have hp:1<=ao cs:=eD fun y hy=>h y (by simp[hy]);simp only[aR,jf];have e1:a*(x*ao cs)*c+i=i+ao cs*(x*(a*c)):=by
    rw[VF];congr 1;ac_rfl
   have e2:a*(x*ao cs)*c+i=a*ao cs*(x*c)+i:=(by congr 1;ac_rfl);congr 1
   ·rw[e1,Int.add_mul_ediv_left _ _ (by omega),Int.add_mul_emod_self_left]
   ·rw[e2];exact ih i a (x*c) fun y hy=>h y (by simp[hy])
 intro cs
 induction cs with
 |nil=>intro vs h;cases vs with
  |nil=>rfl
  |cons=>exact absurd h.1 (by simp)
 |cons c cs ih =>
  intro vs h;cases vs with
  |nil=>exact absurd h.1 (by simp)
  |cons v vs =>
   have hp:1<=ao cs:=eD fun x hx=>h.pos x (by simp[hx]);have hr:=jZ h.tail;have h2:=h.head;simp only[bJ,aR];congr 1
   ·rw[VF,V0 _ _ (by omega),UT hr.1 hr.2,Int.zero_add,Vd h2.1 h2.2]
   ·have:=key cs (bJ cs vs) v 1 fun x hx=>h.pos x (by simp[hx]);rw[U5]at this;rw[this];exact ih h.tail
theorem Oo (i m n:Int)(hm:0<m)(hn:0<n):i % (m*n)=i % m+m*(i / m % n):=by
 have h1:=Vp i (m*n);have h2:=Vp i m;have h3:=Vp (i / m) n;have h4:i / m / n=i / (m*n):=VY (by omega);rw[h4]at h3;have h5:m*(i / m)=m*(i / m % n)+m*n*(i / (m*n)):=by
  conv=>lhs;rw[<- h3]
  rw[U6,Vf]
 omega
theorem sv {cs:List Int}(h:∀c∈cs,1<=c):∀ {i:Int},0<=i->i<ao cs->bJ cs (aR cs i)=i:=by
 have:∀(cs:List Int) (i:Int),(∀c∈cs,1<=c)->bJ cs (aR cs i)=i % ao cs:=by
  intro cs
  induction cs with
  |nil=>intro i _;simp[bJ,aR,gm]
  |cons c cs ih =>
   intro i h;have hp:1<=ao cs:=eD fun x hx=>h x (by simp[hx]);simp only[bJ,aR];rw[ih i fun x hx=>h x (by simp[hx]),jf,Uf c,Oo _ _ _ (by omega:0<ao cs) (by have:=h c (by simp);omega)];rw[Uf];omega
 intro i h0 h1;rw[this cs i h,Vd h0 h1]
def eZ (cs vs:List Int):Int:=(cs.zip vs).foldl (fun a p=>a*p.1+p.2) 0
theorem Oq:∀(cs vs:List Int),vs.length=cs.length->∀a,(cs.zip vs).foldl (fun a p=>a*p.1+p.2) a=a*ao cs+bJ cs vs:=by
 intro cs
 induction cs with
 |nil=>intro vs _ a;simp[gm,bJ]
 |cons c cs ih =>
  intro vs h a;cases vs with
  |nil=>simp at h
  |cons v vs =>
   simp only[Tx,Ts];rw[ih vs (by simpa using h),jf];simp only[bJ];rw[VQ,Vf];omega
theorem qh {cs vs:List Int}(h:vs.length=cs.length):eZ cs vs=bJ cs vs:=by
 unfold eZ;rw[Oq cs vs h];omega
theorem qi {cs vs:List Int}{k:Nat}{c v:Int}(h1:cs[k]?=some c)(h2:vs[k]?=some v):eZ (cs.take (k+1)) (vs.take (k+1))=eZ (cs.take k) (vs.take k)*c+v:=by
 unfold eZ;rw[aL h1,aL h2,List.zip_append (by have:=get_lt h1;have:=get_lt h2;simp;omega),TT];rfl
def kO:List Int->List Int->Option (List Int)
 |c :: cs,v :: vs=>match kO cs vs with
  |some ws=>some (v :: ws)
  |none=>if v+1<c then some ((v+1) :: cs.map fun _=>0) else none
 |_,_=>none
theorem xX {cs:List Int}(h:∀c∈cs,1<=c):aR cs 0=cs.map fun _=>0:=by
 induction cs with
 |nil=>rfl
 |cons c cs ih=>simp[aR,ih fun x hx=>h x (by simp[hx])]
theorem B4:∀ {cs vs:List Int},bH cs vs->kO cs vs=if bJ cs vs+1<ao cs then some (aR cs (bJ cs vs+1)) else none:=by
 intro cs
 induction cs with
 |nil=>intro vs h;cases vs with
  |nil=>simp[kO,bJ,gm]
  |cons=>exact absurd h.1 (by simp)
 |cons c cs ih =>
  intro vs h;cases vs with
  |nil=>exact absurd h.1 (by simp)
  |cons v vs =>
   have hpos:∀x∈cs,1<=x:=fun x hx=>h.pos x (by simp[hx]);have hp:1<=ao cs:=eD hpos;have hr:=jZ h.tail;have h2:=h.head;have hv:=xW h.tail;simp only[kO,ih h.tail,bJ,jf];by_cases hb:bJ cs vs+1<ao cs
   ·rw[SK hb];have h4:(v+1)*ao cs<=c*ao cs:=UE (by omega) (by omega);rw[VQ,U4]at h4;have hlt:v*ao cs+bJ cs vs+1<c*ao cs:=(by omega);rw[SK hlt];simp only[aR];have g1:v=(v*ao cs+bJ cs vs+1) / ao cs % c:=by
     rw[Int.add_assoc,VF,V0 _ _ (by omega),UT (by omega) hb,Int.zero_add,Vd h2.1 h2.2]
    have g2:aR cs (bJ cs vs+1)=aR cs (v*ao cs+bJ cs vs+1):=by
     have e:bJ cs vs+1=bJ cs (aR cs (bJ cs vs+1)):=(sv hpos (by omega) hb).symm;have f:bH (c :: cs) (v :: aR cs (bJ cs vs+1)):=⟨by simp[kL],fun k c' v' h1 h3=>by
      cases k with
      |zero=>simp at h1 h3;subst h1;subst h3;exact h2
      |succ k=>exact xV hpos _ k c' v' (by simpa using h1) (by simpa using h3)⟩
     have:=xW f;simp only[bJ,aR,List.cons.injEq]at this;rw[<- e]at this;rw[Int.add_assoc];exact this.2.symm
    rw[<- g1,<- g2]
   ·rw[SI hb];have hi:bJ cs vs+1=ao cs:=(by omega);have e1:v*ao cs+bJ cs vs+1=(v+1)*ao cs:=(by rw[VQ];omega);rw[e1];by_cases hc:v+1<c
    ·rw[SK hc];have h4:(v+1)*ao cs<c*ao cs:=Int.mul_lt_mul_of_pos_right hc (by omega);rw[SK h4];simp only[aR];congr 1;congr 1
     ·rw[Int.mul_ediv_cancel _ (by omega),Vd (by omega) hc]
     ·have f:bH (c :: cs) ((v+1) :: aR cs 0):=⟨by simp[kL],fun k c' v' h1 h3=>by
       cases k with
       |zero=>simp at h1 h3;subst h1;subst h3;omega
       |succ k=>exact xV hpos _ k c' v' (by simpa using h1) (by simpa using h3)⟩
      have:=xW f;simp only[bJ,aR,List.cons.injEq]at this;rw[sv hpos (Int.le_refl 0) (by omega),Ug]at this;rw[this.2,xX hpos]
    ·rw[SI hc];have h4:c*ao cs<=(v+1)*ao cs:=UE (by omega) (by omega);rw[SI (by omega)]
def cY (l:List Int):Prop:=l.length<=12/\∀x∈l,0<=x/\x<=8
theorem cY.prod {l:List Int}(h:cY l):0<=ao l/\ao l<=68719476736:=by
 have h1:=nL (b:=8) (by omega) h.2;have h2:(8:Int) ^ l.length<=8 ^ 12:=by
  have:(8:Nat) ^ l.length<=8 ^ 12:=Te (by decide) h.1
  exact_mod_cast this
 exact⟨h1.1,VE h1.2 h2⟩
theorem cY.take {l:List Int}(h:cY l)(k:Nat):cY (l.take k):=⟨by have:=h.1;simp;omega,fun x hx=>h.2 x (S8 hx)⟩
theorem cY.drop {l:List Int}(h:cY l)(k:Nat):cY (l.drop k):=⟨by have:=h.1;simp;omega,fun x hx=>h.2 x (T3 hx)⟩
theorem vA (l:List Int)(hl:cY l)(H:AHeap)(K:ARes->AHeap->Prop)(hK:K (.ret (aa (ao l))) H):ag Tryz.prog G0 75 [af l] H K:=by
 have l12:=hl.1;refine ag.st (n:=18) (rs:=[.tmp 2]) Tryz.func75 ?_;simp only[go_sem];refine W.aG 131064 (by rfl) (fun ρ H'=>H'=H/\∃k:Nat,ρ 4=aa k/\k<=l.length/\ρ 3=aa (ao (l.take k))) (fun ρ H=>l.length-(iv (ρ 4)).toNat) ?_ ?_
 ·simp only[go_sem];exact⟨0,rfl,by omega,by simp[gm]⟩
 rintro ρ H' ⟨rfl,k,h4,hk,h3⟩;refine W.vs ?_;by_cases hb:(k:Int)<l.length
 ·obtain⟨c,hc⟩:=get_of_lt (l:=l) (i:=k) (by omega);have hne:=aJ hc;have b1:=(hl.take (k+1)).prod;rw[aL hc,eQ]at b1;simp only[go_sem,h4,h3,hb,hc,hne];rw[SF ((k:Int)+1) (by omega),SF (_*c) (by omega)];exact⟨⟨k+1,by simp,by omega,by rw[aL hc,eQ]⟩,by omega⟩
 ·simp only[go_sem,h4,h3,hb];rw[SH (by omega)];exact ar.mk (Nat.le_refl _) hK
theorem yF (cs vs:List Int)(hc:cY cs)(hf:bH cs vs)(H:AHeap)(K:ARes->AHeap->Prop)(hK:K (.ret (aa (bJ cs vs))) H):ag Tryz.prog G0 126 [af cs,af vs] H K:=by
 have l12:=hc.1;have hl:=hf.1;refine ag.st (n:=30) (rs:=[.tmp 4]) Tryz.func126 ?_;simp only[go_sem];have w0:=SF ((cs.length:Int)-1) (by omega);rw[w0];refine W.aG 536869088 (by rfl) (fun ρ H'=>H'=H/\∃k:Nat,ρ 7=aa ((k:Int)-1)/\k<=cs.length/\ρ 5=aa (bJ (cs.drop k) (vs.drop k))/\ρ 6=aa (ao (cs.drop k))) (fun ρ H=>(iv (ρ 7)+1).toNat) ?_ ?_
 ·simp only[go_sem];exact⟨cs.length,rfl,by omega,by simp[bJ],by simp[gm]⟩
 rintro ρ H' ⟨rfl,k,h7,hk,h5,h6⟩;refine W.vs ?_;by_cases hb:(k:Int)-1 >= 0
 ·obtain⟨j,rfl⟩:∃j,k=j+1:=⟨k-1,by omega⟩
  obtain⟨c,hcj⟩:=get_of_lt (l:=cs) (i:=j) (by omega);obtain⟨v,hvj⟩:=get_of_lt (l:=vs) (i:=j) (by omega);have hne:=aJ hcj;have hne2:=aJ hvj;have e1:((j+1:Nat):Int)-1=j:=by omega
  rw[e1]at h7;have hb':(j:Int) >= 0:=by omega
  have hj1:(j:Int)<cs.length:=by omega
  have hj2:(j:Int)<vs.length:=by omega
  have b0:=hc.drop j;have b1:=b0.prod;have fd:bH (cs.drop j) (vs.drop j):=⟨by simp[hl],fun i c v h1 h2=>hf.2 (j+i) c v (by rw[TN]at h1;exact h1) (by rw[TN]at h2;exact h2)⟩
  rw[jw hcj,jw hvj]at fd;rw[jw hcj,jf]at b1;have r1:=jZ fd;have r2:=jZ fd.tail;have r3:=fd.head;simp only[bJ,jf]at r1;have p1:0<=ao (cs.drop (j+1)):=(hc.drop (j+1)).prod.1;have m1:0<=v*ao (cs.drop (j+1)):=T8 r3.1 p1;have cc:ao (cs.drop (j+1))*c=c*ao (cs.drop (j+1)):=Uf _ _;have w1:=SF ((j:Int)-1) (by omega);have w2:=SF (v*ao (cs.drop (j+1))) (by omega);have w3:=SF (bJ (cs.drop (j+1)) (vs.drop (j+1))+v*ao (cs.drop (j+1))) (by omega);have w4:=SF (ao (cs.drop (j+1))*c) (by omega);simp only[go_sem,h7,h5,h6,hb',hcj,hvj,hne,hne2,hj1,hj2,w1,w2,w3,w4];refine⟨⟨j,rfl,by omega,?_,?_⟩,by omega⟩
  ·rw[jw hcj,jw hvj];simp only[bJ];show aa _=aa _;rw[VF]
  ·rw[jw hcj,jf];show aa _=aa _;rw[Uf]
 ·have h0:k=0:=by omega
  subst h0;have hb':¬((0:Nat):Int)-1 >= 0:=hb;simp only[List.drop_zero]at h5 h6;have h7':ρ 7=aa (-1):=h7;simp only[go_sem,h7',h5];exact ar.mk (Nat.le_refl _) hK
theorem qF (x:List Int)(hx:(x.length:Int)<2 ^ 40)(H:AHeap)(K:ARes->AHeap->Prop)(hK:K (.ret (af x)) H):ag Tryz.prog G0 36 [af x] H K:=by
 refine ag.clo ⟨_,Tryz.func36,rfl,rfl⟩ fun hc=>?_;refine ag.st (n:=8) (rs:=[.tmp 2]) Tryz.func36 ?_;simp only[go_sem];intro b hlen;cases b with
 |true =>
  have hx0:x=[]:=SP (by
   by_cases h:0<x.length
   ·have:=hlen (by simpa using h);cases this
   ·omega)
  simp only[go_sem];subst hx0;exact ar.A8 aE hc .ug hK
 |false =>
  by_cases h0:x.length=0
  ·have hx0:x=[]:=SP h0;subst hx0;simp only[go_sem,bd];refine⟨⟨rfl,rfl⟩,ar.drop (v':=af []) aE hc ?_ hK⟩;exact .ints (Nat.le_refl _) (cq ..) rfl fun i hi=>absurd hi (S4 _)
  ·simp only[go_sem,h0,bd];refine⟨⟨rfl,by omega,by omega,gQ x⟩,ar.drop aE hc ?_ hK⟩;exact .ints (Nat.le_refl _) (cq ..) rfl fun i hi=>by simp[ij,hi]
instance placesDec (l:List Int)(n:Int):Decidable (bO l n):=by unfold bO;infer_instance
theorem bO.nil {n:Int}:bO [] n:=⟨.nil,fun _ h=>by cases h⟩
theorem bO.take {l:List Int}{n:Int}(h:bO l n)(k:Nat):bO (l.take k) n:=⟨h.1.sublist (List.take_sublist k l),fun p hp=>h.2 p (S8 hp)⟩
theorem bO.snoc {l:List Int}{n a:Int}(h:bO l n)(ha:0<=a/\a<n)(hl:∀b,l.getLast?=some b->b<a):bO (l++[a]) n:=by
 refine⟨Uy.2 ⟨h.1,by simp,fun x hx y hy=>?_⟩,fun p hp=>?_⟩
 ·obtain rfl:=List.mem_singleton.1 hy;rcases V4 l with rfl|⟨l',b,rfl⟩
  ·cases hx
  ·have hb:=hl b (by simp);simp only[V5]at hx h;rcases S5.1 hx with hx|hx
   ·have:=(Uy.1 h.1).2.2 x hx b (by simp);omega
   ·obtain rfl:=List.mem_singleton.1 hx;exact hb
 ·rcases S5.1 hp with hp|hp
  ·exact h.2 p hp
  ·obtain rfl:=List.mem_singleton.1 hp;exact ha
theorem bO.lt {l:List Int}{n:Int}(h:bO l n){i j:Nat}{a b:Int}(ha:l[i]?=some a)(hb:l[j]?=some b)(hij:i<j):a<b:=by
 have:=List.pairwise_iff_getElem.1 h.1 i j (get_lt ha) (get_lt hb) hij;have e1:=SJ (get_lt ha);have e2:=SJ (get_lt hb);rw[ha]at e1;rw[hb]at e2;rw[Option.some.inj e1,Option.some.inj e2];exact this
theorem bO.len {l:List Int}{n:Int}(h:bO l n):(l.length:Int)<=max n 0:=by
  -- the k-th place is at least k
 have key:∀(k:Nat) (a:Int),l[k]?=some a->(k:Int)<=a:=by
  intro k
  induction k with
  |zero=>intro a ha;have:=h.2 a (SE ha);omega
  |succ k ih =>
   intro a ha;obtain⟨b,hb⟩:=get_of_lt (l:=l) (i:=k) (by have:=get_lt ha;omega);have:=ih b hb;have:=h.lt hb ha (by omega);omega
 rcases TG l.length with h0|h0
 ·omega
 ·obtain⟨a,ha⟩:=get_of_lt (l:=l) (i:=l.length-1) (by omega);have h1:=key _ a ha;have h2:=h.2 a (SE ha);omega
theorem sZ {l:List Int}{j:Nat}{b:Int}(h:l[j]?=some b):(l.take (j+1)).getLast?=some b:=by rw[aL h];simp
theorem Dx (l:List Int)(n:Int)(hl:(l.length:Int)<2 ^ 62)(H:AHeap)(K:ARes->AHeap->Prop)(hK:K (.ret (.lit (.bool (decide (bO l n))))) H):ag Tryz.prog G0 84 [af l,aa n] H K:=by
 have no:¬bO l n->ar Tryz.prog G0 H K (.lit (.bool false)) H:=fun h=>ar.mk (Nat.le_refl _) (by rw[TD h]at hK;exact hK);refine ag.st (n:=41) (rs:=[.tmp 4]) Tryz.func84 ?_;simp only[go_sem];refine W.aG 2199023255536 (by rfl) (fun ρ H'=>H'=H/\∃k:Nat,ρ 5=aa k/\k<=l.length/\bO (l.take k) n) (fun ρ H=>l.length-(iv (ρ 5)).toNat) ?_ ?_
 ·simp only[go_sem];exact⟨0,rfl,by omega,.nil⟩
 rintro ρ H' ⟨rfl,k,h5,hk,hp⟩;refine W.vs ?_;by_cases hb:(k:Int)<l.length
 ·obtain⟨a,ha⟩:=get_of_lt (l:=l) (i:=k) (by omega);have hne:=aJ ha;have ham:=SE ha;simp only[go_sem,h5,hb];refine W.dr 26 [0,0,3,7,15,31,63,63,255,511,63,2047,4095,8191,16383,32767,65535,131071,131071,524287,1048575,131071,131071,4325375,14811135,31588351] Tryz.mixed ?_;by_cases c1:a<0
  ·simp only[go_sem,h5,hb,ha,hne,c1,zj];exact no fun h=>by have:=h.2 a ham;omega
  by_cases c2:a >= n
  ·simp only[go_sem,h5,hb,ha,hne,c1,c2,zj];exact no fun h=>by have:=h.2 a ham;omega
  by_cases c3:(k:Int) > 0
  ·obtain⟨j,rfl⟩:∃j,k=j+1:=⟨k-1,by omega⟩
   obtain⟨b,hbj⟩:=get_of_lt (l:=l) (i:=j) (by omega);have w1:=SF (j:Int) (by omega);have w2:=SF (((j+1:Nat):Int)+1) (by omega);have e1:((j+1:Nat):Int)-1=j:=(by omega);have hb1:(j:Int)<l.length:=(by omega);have hbj':=hbj;by_cases c4:a<=b
   ·simp only[go_sem,h5,hb,ha,hne,c1,c2,c3,c4,w1,e1,hb1,hbj];exact no fun h=>by have:=h.lt hbj ha (by omega);omega
   ·simp only[go_sem,h5,hb,ha,hne,c1,c2,c3,c4,w1,w2,e1,hb1,hbj];refine⟨⟨j+1+1,by simp,by omega,?_⟩,by omega⟩;rw[aL ha];exact hp.snoc (by omega) fun b' hb'=>by
     rw[sZ hbj]at hb';cases hb';omega
  ·simp only[go_sem,h5,hb,ha,hne,c1,c2,c3];rw[SF ((k:Int)+1) (by omega)];obtain rfl:k=0:=(by omega);refine⟨⟨1,by simp,by omega,?_⟩,by omega⟩;rw[aL ha];exact hp.snoc (by omega) fun b' hb'=>by simp at hb'
 ·simp only[go_sem,h5,hb];rw[SH (by omega)]at hp;rw[Tm hp]at hK;exact ar.mk (Nat.le_refl _) hK
theorem Dy (l:List Int)(n:Int)(hl:(l.length:Int)<2 ^ 62)(H:AHeap)(K:ARes->AHeap->Prop)(hK:K (.ret (.lit (.bool (decide (bO l n))))) H):ag Tryz.prog G0 132 [af l,aa n] H K:=by
 have no:¬bO l n->ar Tryz.prog G0 H K (.lit (.bool false)) H:=fun h=>ar.mk (Nat.le_refl _) (by rw[TD h]at hK;exact hK);refine ag.st (n:=24) (rs:=[.tmp 4]) Tryz.func132 ?_;simp only[go_sem];refine W.aG 16776368 (by rfl) (fun ρ H'=>H'=H/\∃(k:Nat) (b:Int),ρ 10=aa k/\k<=l.length/\ρ 5=aa b/\bO (l.take k) n/\(l.take k).getLast?.getD (-1)=b) (fun ρ H=>l.length-(iv (ρ 10)).toNat) ?_ ?_
 ·simp only[go_sem];exact⟨0,-1,rfl,by omega,rfl,.nil,rfl⟩
 rintro ρ H' ⟨rfl,k,b,h10,hk,h5,hp,hbl⟩;refine W.vs ?_;by_cases hb:(k:Int)<l.length
 ·obtain⟨a,ha⟩:=get_of_lt (l:=l) (i:=k) (by omega);have hne:=aJ ha;have ham:=SE ha;by_cases c1:a<=b
  ·simp only[go_sem,h10,h5,hb,ha,hne,c1];refine no fun h=>?_;have h0:=h.2 a ham;rcases TG k with rfl|hk0
   ·simp at hbl;omega
   ·obtain⟨j,rfl⟩:∃j,k=j+1:=⟨k-1,by omega⟩
    obtain⟨b',hbj⟩:=get_of_lt (l:=l) (i:=j) (by omega);rw[sZ hbj]at hbl;have:=h.lt hbj ha (by omega);simp at hbl;omega
  by_cases c2:a >= n
  ·simp only[go_sem,h10,h5,hb,ha,hne,c1,c2];exact no fun h=>by have:=h.2 a ham;omega
  have w1:=SF ((k:Int)+1) (by omega);simp only[go_sem,h10,h5,hb,ha,hne,c1,c2,w1];have h0:0<=a:=by
   rcases hg:(l.take k).getLast? with _|b'
   ·rw[hg]at hbl;simp at hbl;omega
   ·rw[hg]at hbl;have:=hp.2 b' (V7 hg);simp at hbl;omega
  refine⟨⟨k+1,a,by simp,by omega,rfl,?_,by rw[sZ ha];rfl⟩,by omega⟩;rw[aL ha];exact hp.snoc ⟨h0,by omega⟩ fun b' hb'=>by rw[hb']at hbl;simp at hbl;omega
 ·simp only[go_sem,h10,hb];rw[SH (by omega)]at hp;rw[Tm hp]at hK;exact ar.mk (Nat.le_refl _) hK
end Go.Proofs
namespace Go.Hx
theorem Over.live {H H':AHeap}(h:Over H H'){id g:Nat}(hi:id<H.next):H'.live id g=H.live id g:=by
 unfold AHeap.live;rw[h.old id hi]
theorem Over.upd {H H':AHeap}(h:Over H H'){id:Nat}(hi:H.next<=id)(b:Blk):Over H (H'.upd id b):=⟨h.next,fun j hj=>by rw[ae,SI (by omega)];exact h.old j hj⟩
theorem jj {H:AHeap}{id g:Nat}{e:TypeId}{c:List AVal}:(H.upd id (.arr g e c)).live id g=some (e,c):=ah (by rw[ae,SK rfl])
theorem bQ {H:AHeap}{id j g:Nat}{b:Blk}(h:j≠id):(H.upd id b).live j g=H.live j g:=by unfold AHeap.live;rw[ae,SI h]
attribute [go_sem] jj
@[go_sem] theorem SD (a b:Array TypeId)(c:Bool)(n:Nat)(cells:List AVal)(off:Nat):lI (some (.func a b c)) n cells off=cells[off]?:=rfl
end Go.Hx
namespace Go.Proofs
open Go.Hx
theorem lV {H H' H2:AHeap}{e:TypeId}{v:AVal}{cs:List AVal}(ov:Over H H')(h:ay H.next H' e v cs)(hn:H'.next<=H2.next)(hp:∀k,k<H'.next->(∀g n,v≠.own k g 0 n 1)->H2.get k=H'.get k):Over H H2 :=
 ⟨Tt ov.next hn,fun id hi=>by
  rw[hp id (S1 hi ov.next) fun g n he=>?_,ov.old id hi];rcases h with ⟨h,_⟩|⟨i2,g2,a1,_,h,_⟩
  ·rw[h]at he;cases he
  ·rw[h]at he;have:=AVal.own.inj he;omega⟩
theorem jk {H H':AHeap}{v:AVal}{l:List Int}(x:Int)(ov:Over H H')(h:ay H.next H' 3 v (ints l))(hl:l.length<2 ^ 40):
  ∃v' H2,bM Tryz.prog (ext H' [.arr 0 3 [.lit (.int .i64 x)]]) (H'.next+1) 42 42 v (.own H'.next 0 0 1 1)=some (v',H2)/\Over H H2/\ay H.next H2 3 v' (ints (l++[x]))/\H'.next<=H2.next/\(∀k,k<H'.next->(∀g n,v≠.own k g 0 n 1)->H2.get k=H'.get k):=by
 obtain⟨v',H2,hA,hO,hn2,hp⟩:=fW (P:=Tryz.prog) (H:=H') (t:=42) (x:=aa x) (n:=H'.next+1) Tryz.underlying42 Tryz.dz Tryz.dH rfl (by rw[Tryz.dL,aH];omega) h ov.next rfl;simp only[aa]at hA;exact⟨v',H2,hA,lV ov h hn2 hp,by simpa[ints,aa] using hO,hn2,hp⟩
theorem D5 {H H':AHeap}{v:AVal}{l:List AVal}(x:AVal)(hx:x.one=true)(ov:Over H H')(h:ay H.next H' 42 v l)(hl:l.length<2 ^ 40):
  ∃v' H2,bM Tryz.prog (ext H' [.arr 0 42 [x]]) (H'.next+1) 33 33 v (.own H'.next 0 0 1 1)=some (v',H2)/\Over H H2/\ay H.next H2 42 v' (l++[x])/\H'.next<=H2.next/\(∀k,k<H'.next->(∀g n,v≠.own k g 0 n 1)->H2.get k=H'.get k):=by
 obtain⟨v',H2,hA,hO,hn2,hp⟩:=fW (P:=Tryz.prog) (H:=H') (t:=33) (x:=x) (n:=H'.next+1) Tryz.underlying33 Tryz.jv Tryz.jH hx (by rw[Tryz.jG];omega) h ov.next rfl;exact⟨v',H2,hA,lV ov h hn2 hp,hO,hn2,hp⟩
theorem RA (l:List (List Int)):(aj l).one=true:=rfl
theorem RB (l:List (List Int)):(aj l).cells=[aj l]:=rfl
theorem RC (l:List NodeP):(cE l).one=true:=rfl
theorem RD (l:List NodeP):(cE l).cells=[cE l]:=rfl
theorem RE (l:List UtilP):(uG l).one=true:=rfl
theorem RF (l:List UtilP):(uG l).cells=[uG l]:=rfl
attribute [go_sem] RA RB RC RD RE RF
structure OwnI (H H':AHeap)(id:Nat)(c:List Int):Prop where
 ov:Over H H'
 lo:H.next<=id
 hi:id<H'.next
 get:H'.get id=some (.arr 0 3 (ints c))
theorem OwnI.live {H H':AHeap}{id:Nat}{c:List Int}(h:OwnI H H' id c):H'.live id 0=some (3,ints c):=ah h.get
theorem OwnI.RG {H H':AHeap}{id:Nat}{c:List Int}(h:OwnI H H' id c)(L:List Blk):(ext H' L).live id 0=some (3,ints c):=by rw[dh h.hi];exact h.live
theorem OwnI.ne {H H':AHeap}{id:Nat}{c:List Int}(h:OwnI H H' id c):¬id=H'.next:=by have:=h.hi;omega
theorem OwnI.over {H H' H2:AHeap}{id:Nat}{c:List Int}(h:OwnI H H' id c)(o:Over H' H2):OwnI H H2 id c:=⟨h.ov.trans o,h.lo,S1 h.hi o.next,(o.old id h.hi).trans h.get⟩
theorem OwnI.store {H H':AHeap}{id:Nat}{c:List Int}(h:OwnI H H' id c){k:Nat}(hk:k<c.length)(x:Int):OwnI H (H'.upd id (.arr 0 3 (setAt (ints c) k [.lit (.int .i64 x)]))) id (c.set k x) :=
 ⟨⟨h.ov.next,fun i hi=>by rw[ae,SI (by have:=h.lo;omega)];exact h.ov.old i hi⟩,h.lo,h.hi,by rw[ae,SK rfl,fD hk]⟩
theorem OwnI.RH {H H':AHeap}{id:Nat}{c:List Int}(h:OwnI H H' id c)(L:List Blk){k:Nat}(hk:k<c.length)(x:Int):OwnI H ((ext H' L).upd id (.arr 0 3 (setAt (ints c) k [.lit (.int .i64 x)]))) id (c.set k x) :=
 (h.over (.ext H' L)).store hk x
theorem OwnI.new {H:AHeap}(L:List Blk)(n:Nat):OwnI H (ext H (.arr 0 3 (List.replicate n (.lit (.int .i64 0))) :: L)) H.next (List.replicate n 0) :=
 ⟨.ext _ _,Nat.le_refl _,by simp[aS],by rw[cq];simp[ints,aa]⟩
theorem OwnI.fin {H H':AHeap}{id:Nat}{c:List Int}{K:ARes->AHeap->Prop}(hcl:Clo H)(h:OwnI H H' id c){n:Nat}(hn:n=c.length)(hK:K (.ret (af c)) H):ar Tryz.prog G0 H K (.own id 0 0 n 1) H':=by
 subst hn;refine ar.aV aE hcl h.ov ?_ hK;exact .ints h.lo h.get (by simp) fun i hi=>by simp[ij,hi]
theorem D6 {l m:List Int}{k:Nat}{x:Int}(h:l.take k=m.take k)(hk:k<l.length)(hx:m[k]?=some x):(l.set k x).take (k+1)=m.take (k+1):=by
 rw[aL hx,aL (show (l.set k x)[k]?=some x by rw[SX hk]),U3 (Nat.le_refl k),h]
theorem bp {α:Type}{l:List α}{i:Nat}{a d:α}(h:l[i]?=some a):l.getD i d=a:=by rw[S2,h];rfl
theorem Dz {l places:List Int}{k:Nat}{p:Int}(h:places[k]?=some p):aI l (places.take (k+1))=aI l (places.take k)++[l.getD p.toNat 0]:=by
 unfold aI;rw[aL h];simp
theorem dm {ns:List NodeP}{k:Nat}{x:NodeP}(h:ns[k]?=some x):(ak ns)[k]?=some x.card:=by unfold ak;rw[List.getElem?_map,h];rfl
theorem cC (ns:List NodeP):(ak ns).length=ns.length:=by simp[ak]
theorem qG (l p:List Int)(hl:(l.length:Int)<2 ^ 40)(hp:(p.length:Int)<2 ^ 39)(hin:∀q∈p,0<=q/\q<l.length)(H:AHeap)(K:ARes->AHeap->Prop)(hK:K (.ret (af (aI l p))) H):ag Tryz.prog G0 86 [af l,af p] H K:=by
 refine ag.clo ⟨_,Tryz.func86,rfl,rfl⟩ fun hcl=>?_;refine ag.st (n:=24) (rs:=[.tmp 4]) Tryz.func86 ?_;simp only[go_sem];refine W.aG 8388576 (by rfl) (fun ρ H'=>∃k:Nat,ρ 6=aa k/\k<=p.length/\Over H H'/\ay H.next H' 3 (ρ 5) (ints (aI l (p.take k)))) (fun ρ H=>p.length-(iv (ρ 6)).toNat) ?_ ?_
 ·simp only[go_sem];exact⟨0,rfl,by omega,.refl _,.nil⟩
 rintro ρ H' ⟨k,h6,hk,ov,h5⟩;refine W.vs ?_;by_cases hb:(k:Int)<p.length
 ·obtain⟨q,hq⟩:=get_of_lt (l:=p) (i:=k) (by omega);obtain⟨j,rfl,a,ha⟩:=lO (hin q (SE hq)).1 (hin q (SE hq)).2;have hne:=aJ hq;have hne2:=aJ ha;have hj:=get_lt ha;have hj':(j:Int)<l.length:=by omega
  obtain⟨v',H2,hA,ov2,hO,hn2,_⟩:=jk a ov h5 (by simp[aI];omega);have w1:=SF ((k:Int)+1) (by omega);simp only[go_sem,h6,hb,hq,hne,ha,hne2,hj',w1,hA];refine⟨by have:=ov2.next;omega,⟨k+1,by simp,by omega,ov2,?_⟩,by omega⟩;rw[Dz hq,Int.toNat_natCast,bp ha];exact hO
 ·simp only[go_sem,h6,hb];rw[SH (by omega)]at h5;exact ar.aV aE hcl ov (h5.dG fun i hi=>hi) hK
theorem pt (g:Int)(ns:List NodeP)(hl:(ns.length:Int)<2 ^ 39)(H:AHeap)(K:ARes->AHeap->Prop)(hK:K (.ret (af (ak ns))) H):ag Tryz.prog G0 45 [bL g ns] H K:=by
 refine ag.clo ⟨_,Tryz.func45,rfl,rfl⟩ fun hcl=>?_;refine ag.st (n:=22) (rs:=[.tmp 2]) Tryz.func45 ?_;simp only[go_sem,bL,cE];obtain⟨H1,hH1⟩:∃H1,H1=ext H [.arr 0 81 [.lit (.int .i64 g),.vec ns.length (aF ns)]]:=⟨_,rfl⟩
 have l1:H1.live H.next 0=some (81,[.lit (.int .i64 g),.vec ns.length (aF ns)]):=by rw[hH1];exact ah (cq ..)
 have n1:H1.next=H.next+1:=hH1▸rfl
 have o1:Over H H1:=hH1▸.ext _ _
 rw[<- hH1];refine W.aG 2097144 (by rfl) (fun ρ H'=>∃k:Nat,ρ 4=aa k/\k<=ns.length/\ρ 1=.ptr H.next 0 0/\Over H1 H'/\ay H1.next H' 3 (ρ 3) (ints ((ak ns).take k))) (fun ρ H=>ns.length-(iv (ρ 4)).toNat) ?_ ?_
 ·simp only[go_sem];exact⟨0,rfl,by omega,.refl _,.nil⟩
 rintro ρ H' ⟨k,h4,hk,h1,ov,h3⟩;refine W.vs ?_;have l2:=(ov.live (g:=0) (by omega:H.next<H1.next)).trans l1;by_cases hb:(k:Int)<ns.length
 ·obtain⟨x,hx⟩:=get_of_lt (l:=ns) (i:=k) (by omega);have hne:=dJ hx;have e0:=iJ hx;obtain⟨v',H2,hA,ov2,hO,hn2,_⟩:=jk x.card ov h3 (by simp[ak];omega);have w1:=SF ((k:Int)+1) (by omega);simp only[go_sem,h4,h1,l2,hb,hne,e0,w1,hA];refine⟨by have:=ov2.next;omega,⟨k+1,by simp,by omega,ov2,?_⟩,by omega⟩;rw[aL (dm hx)];exact hO
 ·simp only[go_sem,h4,h1,l2,hb];rw[SH (by rw[cC];omega)]at h3;exact ar.aV aE hcl (o1.trans ov) (h3.dG fun i hi=>by omega) hK
theorem ta (ns:List NodeP)(hl:(ns.length:Int)<2 ^ 39)(H:AHeap)(K:ARes->AHeap->Prop)(hK:K (.ret (af (ak ns))) H):ag Tryz.prog G0 97 [cE ns] H K:=by
 refine ag.clo ⟨_,Tryz.func97,rfl,rfl⟩ fun hcl=>?_;refine ag.st (n:=23) (rs:=[.tmp 2]) Tryz.func97 ?_;simp only[go_sem,cE];refine⟨by omega,?_⟩;refine W.aG 4192304 (by rfl) (fun ρ H'=>∃(k:Nat) (c:List Int),ρ 11=aa k/\k<=ns.length/\OwnI H H' H.next c/\c.length=ns.length/\c.take k=(ak ns).take k) (fun ρ H=>ns.length-(iv (ρ 11)).toNat) ?_ ?_
 ·simp only[go_sem];exact⟨0,_,rfl,by omega,.new [] ns.length,by simp,rfl⟩
 rintro ρ H' ⟨k,c,h11,hk,ho,hcl',hc⟩;refine W.vs ?_;by_cases hb:(k:Int)<ns.length
 ·obtain⟨x,hx⟩:=get_of_lt (l:=ns) (i:=k) (by omega);have hne:=dJ hx;have e0:=my hx;have e1:k*3+3<=(aF ns).length:=by rw[iI];omega
  have w1:=SF ((k:Int)+1) (by omega);have l3:=ho.RG;have nb:=ho.ne;simp only[go_sem,h11,l3,hb,hne,e0,e1,w1];have hkc:k<c.length:=by omega
  have ho2:=ho.RH [.arr 0 87 [.lit (.int .i64 x.card),.vec x.parents.length (ints x.parents),aj x.rows]] hkc x.card;exact⟨by omega,by have:=ho2.hi;omega,⟨k+1,_,rfl,by omega,ho2,by simpa using hcl',D6 hc hkc (dm hx)⟩,by omega⟩
 ·simp only[go_sem,h11,hb];have e:c=ak ns:=by
   rw[SH (by omega),SH (by rw[cC];omega)]at hc;exact hc
  subst e;exact ho.fin hcl (by rw[cC]) hK
def eF (l:List Int)(n:Nat):Prop:=∀q∈l,0<=q/\q<n
theorem gJ (l p:List Int):(aI l p).length=p.length:=by simp[aI]
theorem lj {l p:List Int}{k:Nat}{q:Int}(h:p[k]?=some q):(aI l p)[k]?=some (l.getD q.toNat 0):=by unfold aI;rw[List.getElem?_map,h];rfl
theorem yG (g:Int)(ns:List NodeP)(v:Nat)(x:NodeP)(hx:ns[v]?=some x)(hl:(ns.length:Int)<2 ^ 39)(hp:(x.parents.length:Int)<2 ^ 39)(hin:eF x.parents ns.length)(H:AHeap)(K:ARes->AHeap->Prop)
  (hK:K (.ret (af (aP ns x))) H):ag Tryz.prog G0 76 [bL g ns,aa v] H K:=by
 refine ag.clo ⟨_,Tryz.func76,rfl,rfl⟩ fun hcl=>?_;have hne:=dJ hx;have e1:=jY hx;have hv:(v:Int)<ns.length:=by have:=get_lt hx;omega
 refine ag.st (n:=14) (rs:=[.tmp 4]) Tryz.func76 ?_;simp only[go_sem,bL,cE];refine W.dr 8 [0,1,0,4,0,28,60,124] Tryz.mixed ?_;simp only[go_sem];refine⟨af (ak ns),[],bf.pure fun H2=>pt g ns hl H2 _ ⟨rfl,rfl⟩,?_⟩;simp only[go_sem,hv,hne,e1];refine aw.clo (qG (ak ns) x.parents (by rw[cC];omega) hp (by rw[cC];exact hin) _ _ ⟨trivial,?_⟩);simp only[go_sem];exact ar.aV aE hcl (.ext _ _) (.cI _) hK
theorem QD (l:List Int)(hl:cY l)(H:AHeap)(K:ARes->AHeap->Prop)(hK:K (.ret (aa (ao l))) H):ag Tryz.prog G0 135 [af l] H K:=by
 have l12:=hl.1;refine ag.st (n:=17) (rs:=[.tmp 2]) Tryz.func135 ?_;simp only[go_sem];refine W.aG 65320 (by rfl) (fun ρ H'=>H'=H/\∃k:Nat,ρ 8=aa k/\k<=l.length/\ρ 3=aa (ao (l.take k))) (fun ρ H=>l.length-(iv (ρ 8)).toNat) ?_ ?_
 ·simp only[go_sem];exact⟨0,rfl,by omega,by simp[gm]⟩
 rintro ρ H' ⟨rfl,k,h4,hk,h3⟩;refine W.vs ?_;by_cases hb:(k:Int)<l.length
 ·obtain⟨c,hc⟩:=get_of_lt (l:=l) (i:=k) (by omega);have hne:=aJ hc;have b1:=(hl.take (k+1)).prod;rw[aL hc,eQ]at b1;have w1:=SF ((k:Int)+1) (by omega);have w2:=SF (ao (l.take k)*c) (by omega);simp only[go_sem,h4,h3,hb,hc,hne,w1,w2];exact⟨⟨k+1,by simp,by omega,by rw[aL hc,eQ]⟩,by omega⟩
 ·simp only[go_sem,h4,h3,hb];rw[SH (by omega)];exact ar.mk (Nat.le_refl _) hK
theorem qH (ns:List NodeP)(v:Nat)(x:NodeP)(hx:ns[v]?=some x)(hin:eF x.parents ns.length)(hs:cY (aP ns x))(H:AHeap)(K:ARes->AHeap->Prop)
  (hK:K (.ret (aa (ao (aP ns x)))) H):ag Tryz.prog G0 55 [cE ns,aa v] H K:=by
 have hne:=dJ hx;have e1:=jY hx;have hv:(v:Int)<ns.length:=by have:=get_lt hx;omega
 have l12:=hs.1;have pl:(aP ns x).length=x.parents.length:=gJ _ _;refine ag.st (n:=27) (rs:=[.tmp 4]) Tryz.func55 ?_;simp only[go_sem,cE,hv,hne,e1];refine W.aG 67092640 (by rfl) (fun ρ H'=>H'=H/\∃k:Nat,ρ 14=aa k/\k<=x.parents.length/\ρ 5=aa (ao ((aP ns x).take k))) (fun ρ H=>x.parents.length-(iv (ρ 14)).toNat) ?_ ?_
 ·simp only[go_sem];exact⟨0,rfl,by omega,by simp[gm]⟩
 rintro ρ H' ⟨rfl,k,h14,hk,h5⟩;refine W.vs ?_;by_cases hb:(k:Int)<x.parents.length
 ·obtain⟨q,hq⟩:=get_of_lt (l:=x.parents) (i:=k) (by omega);obtain⟨j,rfl,y,hy⟩:=lO (l:=ns) (hin q (SE hq)).1 (hin q (SE hq)).2;have hne2:=aJ hq;have hj:(j:Int)<ns.length:=by have:=get_lt hy;omega
  have e0:=iJ hy;have pk:(aP ns x)[k]?=some y.card:=by
   rw[show (aP ns x)[k]?=_ from lj hq,Int.toNat_natCast,bp (dm hy)]
  have b1:=(hs.take (k+1)).prod;rw[aL pk,eQ]at b1;have w1:=SF ((k:Int)+1) (by omega);have w2:=SF (ao ((aP ns x).take k)*y.card) (by omega);simp only[go_sem,h14,h5,hb,hq,hne,hne2,hj,e0,w1,w2];exact⟨⟨k+1,by simp,by omega,by rw[aL pk,eQ]⟩,by omega⟩
 ·simp only[go_sem,h14,h5,hb];rw[SH (by omega)];exact ar.mk (Nat.le_refl _) hK
theorem QE (ns:List NodeP)(v:Nat)(x:NodeP)(vals:List Int)(hx:ns[v]?=some x)(hin:eF x.parents ns.length)(hs:cY (aP ns x))(hf:bH (ak ns) vals)(H:AHeap)(K:ARes->AHeap->Prop)
  (hK:K (.ret (aa (bJ (aP ns x) (aI vals x.parents)))) H):ag Tryz.prog G0 98 [cE ns,aa v,af vals] H K:=by
 have hne:=dJ hx;have e1:=jY hx;have hv:(v:Int)<ns.length:=by have:=get_lt hx;omega
 have l12:=hs.1;have pl:(aP ns x).length=x.parents.length:=gJ _ _;have vl:(aI vals x.parents).length=x.parents.length:=gJ _ _;have hfl:vals.length=ns.length:=by rw[hf.1,cC]
 have at_get:∀(k:Nat) (q:Int),x.parents[k]?=some q->∃(j:Nat) (y:NodeP) (b:Int),q=j/\ns[j]?=some y/\vals[j]?=some b/\(aP ns x)[k]?=some y.card/\(aI vals x.parents)[k]?=some b/\0<=b/\b<y.card:=fun k q hq=>by
  obtain⟨j,rfl,y,hy⟩:=lO (l:=ns) (hin q (SE hq)).1 (hin q (SE hq)).2;obtain⟨b,hb⟩:=get_of_lt (l:=vals) (i:=j) (by rw[hfl];exact get_lt hy);have r:=hf.2 j y.card b (dm hy) hb;exact⟨j,y,b,rfl,hy,hb,by rw[show (aP ns x)[k]?=_ from lj hq,Int.toNat_natCast,bp (dm hy)],by rw[lj hq,Int.toNat_natCast,bp hb],r⟩
 have ft:∀k,bH ((aP ns x).take k) ((aI vals x.parents).take k):=fun k=>⟨by simp[pl,vl],fun i c b h1 h2=>by
  rw[Va]at h1 h2;split at h1
  ·rename_i hik;rw[SK hik]at h2;obtain⟨q,hq⟩:=get_of_lt (l:=x.parents) (i:=i) (by rw[<- pl];exact get_lt h1);obtain⟨j,y,b',_,_,_,a1,a2,a3⟩:=at_get i q hq;rw[h1]at a1;rw[h2]at a2;cases a1;cases a2;exact a3
  ·cases h1⟩
 have hr:∀k,0<=eZ ((aP ns x).take k) ((aI vals x.parents).take k)/\eZ ((aP ns x).take k) ((aI vals x.parents).take k)<68719476737:=fun k=>by
  rw[qh (ft k).1];have a:=jZ (ft k);have b:=(hs.take k).prod;omega
 refine ag.st (n:=34) (rs:=[.tmp 6]) Tryz.func98 ?_;simp only[go_sem,cE,hv,hne,e1];refine W.aG 8589869696 (by rfl) (fun ρ H'=>H'=H/\∃k:Nat,ρ 16=aa k/\k<=x.parents.length/\ρ 7=aa (eZ ((aP ns x).take k) ((aI vals x.parents).take k))) (fun ρ H=>x.parents.length-(iv (ρ 16)).toNat) ?_ ?_
 ·simp only[go_sem];exact⟨0,rfl,by omega,rfl⟩
 rintro ρ H' ⟨rfl,k,h16,hk,h7⟩;refine W.vs ?_;by_cases hb:(k:Int)<x.parents.length
 ·obtain⟨q,hq⟩:=get_of_lt (l:=x.parents) (i:=k) (by omega);obtain⟨j,y,b,rfl,hy,hbv,a1,a2,a3⟩:=at_get k q hq;have hne2:=aJ hq;have hne3:=aJ hbv;have hj:(j:Int)<ns.length:=by have:=get_lt hy;omega
  have hj2:(j:Int)<vals.length:=by omega
  have e0:=iJ hy;have w1:=SF ((k:Int)+1) (by omega);have r1:=hr (k+1);rw[qi a1 a2]at r1;have r0:=hr k;have m0:0<=eZ ((aP ns x).take k) ((aI vals x.parents).take k)*y.card:=T8 r0.1 (by omega);have w2:=SF (eZ ((aP ns x).take k) ((aI vals x.parents).take k)*y.card) (by omega);have w3:=SF (eZ ((aP ns x).take k) ((aI vals x.parents).take k)*y.card+b) (by omega);simp only[go_sem,h16,hb,hq,hne2];refine W.dr 11 [0,0,0,6,14,30,63,0,0,384,896] Tryz.mixed ?_;simp only[go_sem,h16,h7,hne,hne3,hj,hj2,hbv,e0,w1,w2,w3];exact⟨⟨k+1,by simp,by omega,by rw[qi a1 a2]⟩,by omega⟩
 ·simp only[go_sem,h16,h7,hb];rw[SH (by omega),SH (by omega),qh (by rw[pl,vl])];exact ar.mk (Nat.le_refl _) hK
def cS (l:List Int):Nat:=l.foldl (fun s p=>s |||2 ^ p.toNat) 0
theorem Ot (l:List Int):∀(s i:Nat),(l.foldl (fun s p=>s |||2 ^ p.toNat) s).testBit i=(s.testBit i ||l.any fun p=>p.toNat == i):=by
 induction l with
 |nil=>intro s i;simp
 |cons p l ih =>
  intro s i;simp only[Ts,ih,Ul,Vs,List.any_cons];rw[Bool.or_assoc];congr 1
theorem nM {l:List Int}(h:∀p∈l,0<=p)(i:Nat):(cS l).testBit i=decide ((i:Int)∈l):=by
 unfold cS;rw[Ot];simp only[T9,Bool.false_or];rw[UR];simp only[List.any_eq_true,beq_iff_eq,decide_eq_true_eq];constructor
 ·rintro⟨p,hp,rfl⟩;have:=h p hp;rw[Int.toNat_of_nonneg this];exact hp
 ·intro hi;exact⟨_,hi,by simp⟩
theorem xY (l:List Int)(p:Int):cS (l++[p])=cS l |||2 ^ p.toNat:=by unfold cS;rw[TT];rfl
theorem xZ {m n:Nat}(h:∀i,m.testBit i=true->i<n):m<2 ^ n:=by
 apply Nat.lt_pow_two_of_testBit;intro i hi;rcases TW (m.testBit i) with e|e
 ·exact absurd (h i e) (by omega)
 ·exact e
theorem sy {l:List Int}{n:Nat}(h:∀p∈l,0<=p/\p<n):cS l<2 ^ n:=xZ fun i hi=>by
 rw[nM fun p hp=>(h p hp).1]at hi;have:=(h _ (of_decide_eq_true hi)).2;omega
theorem oU {m n i:Nat}(h:m<2 ^ n)(hi:m.testBit i=true):i<n:=by
 rcases S9 i n with h'|h'
 ·exact h'
 ·rw[Vi (S1 h (Te (by decide) h'))]at hi;cases hi
def Sub (s t:Nat):Prop:=∀i,s.testBit i=true->t.testBit i=true
theorem Sub.refl (s:Nat):Sub s s:=fun _ h=>h
theorem Sub.trans {s t u:Nat}(h:Sub s t)(h':Sub t u):Sub s u:=fun i hi=>h' i (h i hi)
theorem Sub.or {s t u:Nat}(h:Sub s u)(h':Sub t u):Sub (s |||t) u:=fun i hi=>by
 rw[Ul,T7]at hi;exact hi.elim (h i) (h' i)
theorem Sub.left (s t:Nat):Sub s (s |||t):=fun i hi=>by rw[Ul,hi];rfl
theorem Sub.right (s t:Nat):Sub t (s |||t):=fun i hi=>by rw[Ul,hi];simp
theorem Sub.antisymm {s t:Nat}(h:Sub s t)(h':Sub t s):s=t:=Ux fun i=>by
 rw[UR];exact⟨h i,h' i⟩
theorem B5 {a b:Nat}(ha:a<2 ^ 64):iT a b=0↔Sub a b:=by
 constructor
 ·intro h i hi;have:=ze (a:=a) (b:=b) (i:=i) ha;rw[h,T9,hi]at this;simpa using this.symm
 ·intro h;apply Ux;intro i;rw[ze ha,T9];cases hi:a.testBit i
  ·rfl
  ·rw[h i hi];rfl
def gz (ps:List Nat)(s v:Nat):Nat:=if s.testBit v=true then s |||ps.getD v 0 else s
def fX (ps:List Nat)(s:Nat):Nat:=(List.range ps.length).foldl (gz ps) s
def fw (ps:List Nat):Nat->Nat->Nat
 |0,s=>s
 |k+1,s=>fX ps (fw ps k s)
def iK (ps:List Nat)(s:Nat):Nat:=fw ps ps.length s
def j7 (ps:List Nat):Prop:=∀v,v<ps.length->(iK ps (ps.getD v 0)).testBit v=false
def nO (ps:List Nat)(t:Nat):Prop:=∀v,v<ps.length->t.testBit v=true->Sub (ps.getD v 0) t
theorem B6 (ps:List Nat)(s v:Nat):Sub s (gz ps s v):=by unfold gz;split;exact .left _ _;exact .refl _
theorem B7 (ps:List Nat)(l:List Nat):∀s,Sub s (l.foldl (gz ps) s):=by
 induction l with
 |nil=>exact fun s=>.refl s
 |cons v l ih=>exact fun s=>(B6 ps s v).trans (ih _)
theorem x6 (ps:List Nat)(s:Nat):Sub s (fX ps s):=B7 ps _ s
theorem Ou {ps:List Nat}{t:Nat}(hc:nO ps t)(l:List Nat)(hl:∀v∈l,v<ps.length):∀s,Sub s t->Sub (l.foldl (gz ps) s) t:=by
 induction l with
 |nil=>exact fun s h=>h
 |cons v l ih =>
  intro s h;refine ih (fun v hv=>hl v (by simp[hv])) _ ?_;unfold gz;split
  ·rename_i hv;exact h.or (hc v (hl v (by simp)) (h v hv))
  ·exact h
theorem Ov {ps:List Nat}{t:Nat}(hc:nO ps t){s:Nat}(h:Sub s t):Sub (fX ps s) t:=Ou hc _ (fun v hv=>Tn.1 hv) s h
theorem uH {ps:List Nat}{t:Nat}(hc:nO ps t)(k:Nat){s:Nat}(h:Sub s t):Sub (fw ps k s) t:=by
 induction k with
 |zero=>exact h
 |succ k ih=>exact Ov hc ih
theorem x7 (ps:List Nat)(k s:Nat):Sub s (fw ps k s):=by
 induction k with
 |zero=>exact .refl _
 |succ k ih=>exact ih.trans (x6 _ _)
theorem Ow {ps:List Nat}{s:Nat}(h:fX ps s=s):nO ps s:=by
 intro v hv hs;have key:∀(l:List Nat) (s0:Nat),v∈l->s0.testBit v=true->Sub (ps.getD v 0) (l.foldl (gz ps) s0):=by
  intro l
  induction l with
  |nil=>intro s0 h;cases h
  |cons u l ih =>
   intro s0 hm hb;rcases List.mem_cons.1 hm with rfl|hm
   ·refine Sub.trans ?_ (B7 ps l _);unfold gz;rw[SK hb];exact .right _ _
   ·exact ih _ hm (B6 ps s0 u v hb)
 have:=key (List.range ps.length) s (Tn.2 hv) hs;unfold fX at h
 rwa [h]at this
def dM (n s:Nat):Nat:=(List.range n).countP fun i=>s.testBit i
theorem B8 (n s:Nat):dM n s<=n:=by have:=List.countP_le_length (p:=fun i=>s.testBit i) (l:=List.range n);simpa[dM] using this
theorem Ox {l:List Nat}{p q:Nat->Bool}(h:∀x∈l,p x=true->q x=true){a:Nat}(ha:a∈l)(hp:p a=false)(hq:q a=true):l.countP p<l.countP q:=by
 induction l with
 |nil=>cases ha
 |cons x l ih =>
  have hm:l.countP p<=l.countP q:=List.countP_mono_left fun y hy=>h y (by simp[hy]);rcases List.mem_cons.1 ha with rfl|ha
  ·rw[Us,Us,hp,hq];simp;omega
  ·have:=ih (fun y hy=>h y (by simp[hy])) ha;have hx:=h x (by simp);rw[Us,Us];cases hpx:p x
   ·simp;omega
   ·rw[hx hpx];simp;omega
theorem sA {n s t i:Nat}(h:Sub s t)(hi:i<n)(h0:s.testBit i=false)(h1:t.testBit i=true):dM n s<dM n t :=
 Ox (fun x _ hx=>h x hx) (Tn.2 hi) h0 h1
theorem Oy {ps:List Nat}(hp:∀p∈ps,p<2 ^ ps.length){s:Nat}(hs:s<2 ^ ps.length):nO ps (iK ps s):=by
 have hb:∀k,fw ps k s<2 ^ ps.length:=fun k=>by
  have ht:nO ps (2 ^ ps.length-1):=fun v _ _ i hi=>by
   rw[Up];have:ps.getD v 0<2 ^ ps.length:=by
    rw[S2];cases h:ps[v]? with
    |none=>exact VK _
    |some p=>exact hp p (SE h)
   simpa using oU this hi
  have:=uH ht k (s:=s) fun i hi=>by rw[Up];simpa using oU hs hi
  exact xZ fun i hi=>by have:=this i hi;rw[Up]at this;simpa using this
 have key:∀k,fX ps (fw ps k s)=fw ps k s\/k+1<=dM ps.length (fw ps k s):=by
  have grow:∀t,t<2 ^ ps.length->fX ps t<2 ^ ps.length->fX ps t≠t->dM ps.length t<dM ps.length (fX ps t):=fun t ht ht' hne=>by
   have:∃i,(fX ps t).testBit i=true/\t.testBit i=false:=by
    refine Ty fun hno=>hne (Sub.antisymm (fun i hi=>?_) (x6 ps t));rcases TW (t.testBit i) with e|e
    ·exact e
    ·exact absurd ⟨i,hi,e⟩ hno
   obtain⟨i,h1,h0⟩:=this;exact sA (x6 ps t) (oU ht' h1) h0 h1
  intro k
  induction k with
  |zero =>
   by_cases h0:s=0
   ·left;subst h0;show fX ps 0=0;unfold fX;have:∀l:List Nat,l.foldl (gz ps) 0=0:=fun l=>by
     induction l with
     |nil=>rfl
     |cons v l ih=>simp only[Ts,gz,T9,Bool.false_eq_true,if_false];exact ih
    exact this _
   ·right;obtain⟨i,hi⟩:=Nat.exists_testBit_of_ne_zero h0;have:dM ps.length 0<dM ps.length s:=sA (fun j hj=>by rw[T9]at hj;cases hj) (oU hs hi) (T9 i) hi;show 0+1<=dM ps.length s;omega
  |succ k ih =>
   rcases ih with ih|ih
   ·left;show fX ps (fX ps (fw ps k s))=fX ps (fw ps k s);rw[ih];exact ih
   ·by_cases hf:fX ps (fw ps k s)=fw ps k s
    ·left;show fX ps (fX ps (fw ps k s))=fX ps (fw ps k s);rw[hf];exact hf
    ·right;have:=grow _ (hb k) (hb (k+1)) hf;show k+1+1<=dM ps.length (fX ps (fw ps k s));omega
 rcases key ps.length with h|h
 ·exact Ow h
 ·have:=B8 ps.length (fw ps ps.length s);omega
def jI (ps:List Nat)(done v:Nat):Bool:=!done.testBit v && decide (iT (ps.getD v 0) done=0)
def kP (ps:List Nat)(done:Nat):Option Nat:=(List.range ps.length).find? (jI ps done)
def iL (ps:List Nat):Nat->List Nat->Nat->Option (List Nat)
 |0,out,_=>some out
 |k+1,out,done=>match kP ps done with
  |none=>none
  |some v=>iL ps k (out++[v]) (done |||2 ^ v)
def fJ (ps:List Nat):Option (List Nat):=iL ps ps.length [] 0
theorem x8 {ps:List Nat}{done v:Nat}(hp:∀p∈ps,p<2 ^ 64)(h:kP ps done=some v):v<ps.length/\done.testBit v=false/\Sub (ps.getD v 0) done:=by
 unfold kP at h;have h1:=List.mem_of_find?_eq_some h;have h2:=List.find?_some h;unfold jI at h2;simp only[TQ,Bool.not_eq_true',decide_eq_true_eq]at h2;have hv:=Tn.1 h1;refine⟨hv,h2.1,(B5 ?_).1 h2.2⟩;rw[S2];cases h:ps[v]? with
 |none=>decide
 |some p=>exact hp p (SE h)
theorem Oz {ps:List Nat}{done:Nat}(hp:∀p∈ps,p<2 ^ 64)(h:kP ps done=none):∀v,v<ps.length->done.testBit v=true\/¬Sub (ps.getD v 0) done:=by
 intro v hv;unfold kP at h;rw[List.find?_eq_none]at h;have:=h v (Tn.2 hv);unfold jI at this;rcases TW (done.testBit v) with e|e
 ·exact .inl e
 ·right;intro hs;refine this ?_;rw[e,(B5 ?_).2 hs]
  ·simp
  ·rw[S2];cases h:ps[v]? with
   |none=>decide
   |some p=>exact hp p (SE h)
theorem jx (d v i:Nat):(d |||2 ^ v).testBit i=(d.testBit i ||decide (v=i)):=by rw[Ul,Vs]
theorem OA {ps:List Nat}(hp:∀p∈ps,p<2 ^ 64):∀(k:Nat) (out:List Nat) (done:Nat) (r:List Nat),iL ps k out done=some r->k+dM ps.length done=ps.length ->
  nO ps done->(∀v,v<ps.length->done.testBit v=true->(iK ps (ps.getD v 0)).testBit v=false)->j7 ps:=by
 intro k
 induction k with
 |zero =>
  intro out done r _ hc hcl hall v hv;refine hall v hv ?_;rcases TW (done.testBit v) with e|e
  ·exact e
  ·have:dM ps.length done<dM ps.length (2 ^ ps.length-1 |||done):=sA (.right _ _) hv e (by rw[Ul,Up];simp[hv]);have:=B8 ps.length (2 ^ ps.length-1 |||done);omega
 |succ k ih =>
  intro out done r h hc hcl hall;unfold iL at h;split at h
  ·cases h
  ·rename_i v hn;obtain⟨h1,h2,h3⟩:=x8 hp hn;refine ih _ _ _ h ?_ ?_ ?_
   ·have:dM ps.length (done |||2 ^ v)=dM ps.length done+1:=by
     unfold dM;have:∀l:List Nat,l.Nodup->v∈l->l.countP (fun i=>(done |||2 ^ v).testBit i)=l.countP (fun i=>done.testBit i)+1:=by
      intro l
      induction l with
      |nil=>intro _ h;cases h
      |cons x l ihl =>
       intro hnd hmem;obtain⟨g1,g2⟩:=Vm.1 hnd;rw[Us,Us];rcases List.mem_cons.1 hmem with rfl|hm2
       ·have:l.countP (fun i=>(done |||2 ^ v).testBit i)=l.countP (fun i=>done.testBit i):=List.countP_congr fun y hy=>by
         have:¬v=y:=(by rintro rfl;exact g1 hy);simp[jx,this]
        rw[this];simp[jx,h2]
       ·have hx:¬v=x:=(by rintro rfl;exact g1 hm2);rw[ihl g2 hm2];simp[jx,hx];omega
     exact this _ Vh (Tn.2 h1)
    omega
   ·intro u hu hb;rw[jx,T7,decide_eq_true_eq]at hb;rcases hb with hb|rfl
    ·exact(hcl u hu hb).trans (.left _ _)
    ·exact h3.trans (.left _ _)
   ·intro u hu hb;rw[jx,T7,decide_eq_true_eq]at hb;rcases hb with hb|rfl
    ·exact hall u hu hb
    ·have:=uH hcl ps.length h3;rcases TW ((iK ps (ps.getD v 0)).testBit v) with e|e
     ·have:=this v e;rw[h2]at this;cases this
     ·exact e
theorem OB {ps:List Nat}(hp:∀p∈ps,p<2 ^ ps.length)(h64:ps.length<=64)(ha:j7 ps):∀(k:Nat) (out:List Nat) (done:Nat),k+dM ps.length done=ps.length->∃r,iL ps k out done=some r:=by
 have hp64:∀p∈ps,p<2 ^ 64:=fun p h=>S1 (hp p h) (Te (by decide) h64);have hpd:∀v,ps.getD v 0<2 ^ ps.length:=fun v=>by
  rw[S2];cases h:ps[v]? with
  |none=>exact VK _
  |some p=>exact hp p (SE h)
 intro k
 induction k with
 |zero=>exact fun out done _=>⟨out,rfl⟩
 |succ k ih =>
  intro out done hc;unfold iL;cases hn:kP ps done with
  |none =>
   exfalso;have hno:=Oz hp64 hn
      -- every node that is left has a parent that is left
   have step:∀m v,v<ps.length->done.testBit v=false->dM ps.length (iK ps (ps.getD v 0))<=m->False:=by
    intro m
    induction m with
    |zero =>
     intro v hv hd hm;obtain⟨i,h1,h2⟩:∃i,(ps.getD v 0).testBit i=true/\done.testBit i=false:=by
      rcases hno v hv with h|h
      ·rw[hd]at h;cases h
      ·refine Ty fun hc=>h fun i hi=>?_;rcases TW (done.testBit i) with e|e
       ·exact e
       ·exact absurd ⟨i,hi,e⟩ hc
     have:dM ps.length 0<dM ps.length (iK ps (ps.getD v 0)):=sA (fun j hj=>by rw[T9]at hj;cases hj) (oU (hpd v) h1) (T9 i) (x7 ps _ _ i h1);omega
    |succ m ihm =>
     intro v hv hd hm;obtain⟨u,h1,h2⟩:∃i,(ps.getD v 0).testBit i=true/\done.testBit i=false:=by
      rcases hno v hv with h|h
      ·rw[hd]at h;cases h
      ·refine Ty fun hc=>h fun i hi=>?_;rcases TW (done.testBit i) with e|e
       ·exact e
       ·exact absurd ⟨i,hi,e⟩ hc
     have hu:=oU (hpd v) h1;have hcl:=Oy hp (hpd v);have hin:(iK ps (ps.getD v 0)).testBit u=true:=x7 ps _ _ u h1;have hsub:Sub (iK ps (ps.getD u 0)) (iK ps (ps.getD v 0)):=uH hcl _ (hcl u hu hin);have:=sA hsub hu (ha u hu) hin;exact ihm u hu h2 (by omega)
   obtain⟨v,hv,hd⟩:∃v,v<ps.length/\done.testBit v=false:=by
    refine Ty fun hno=>?_;have:dM ps.length done=ps.length:=by
     unfold dM
     conv=>rhs;rw[<- TK (n:=ps.length)]
     rw[List.countP_eq_length];intro x hx;rcases TW (done.testBit x) with e|e
     ·exact e
     ·exact absurd ⟨x,Tn.1 hx,e⟩ hno
    omega
   exact step _ v hv hd (Nat.le_refl _)
  |some v =>
   obtain⟨h1,h2,h3⟩:=x8 hp64 hn;refine ih _ _ ?_;have:dM ps.length (done |||2 ^ v)=dM ps.length done+1:=by
    unfold dM;have:∀l:List Nat,l.Nodup->v∈l->l.countP (fun i=>(done |||2 ^ v).testBit i)=l.countP (fun i=>done.testBit i)+1:=by
     intro l
     induction l with
     |nil=>intro _ h;cases h
     |cons x l ihl =>
      intro hnd hmem;obtain⟨g1,g2⟩:=Vm.1 hnd;rw[Us,Us];rcases List.mem_cons.1 hmem with rfl|hm2
      ·have:l.countP (fun i=>(done |||2 ^ v).testBit i)=l.countP (fun i=>done.testBit i):=List.countP_congr fun y hy=>by
        have:¬v=y:=(by rintro rfl;exact g1 hy);simp[jx,this]
       rw[this];simp[jx,h2]
      ·have hx:¬v=x:=(by rintro rfl;exact g1 hm2);rw[ihl g2 hm2];simp[jx,hx];omega
    exact this _ Vh (Tn.2 h1)
   omega
theorem B9 (n:Nat):dM n 0=0:=by
 unfold dM;rw[List.countP_eq_zero];intro x _;simp
theorem Ca {ps:List Nat}(hp:∀p∈ps,p<2 ^ ps.length)(h64:ps.length<=64):(fJ ps).isSome=true↔j7 ps:=by
 have hp64:∀p∈ps,p<2 ^ 64:=fun p h=>S1 (hp p h) (Te (by decide) h64);constructor
 ·intro h;obtain⟨r,hr⟩:=Tv.1 h;exact OA hp64 _ _ _ r hr (by rw[B9];omega) (fun v _ h=>by rw[T9]at h;cases h) (fun v _ h=>by rw[T9]at h;cases h)
 ·intro h;obtain⟨r,hr⟩:=OB hp h64 h ps.length [] 0 (by rw[B9];omega);unfold fJ;rw[hr];rfl
end Go.Proofs
namespace Go.Hx
def iq (l:List Nat):AVal:=.vec l.length (l.map bP)
attribute [go_sem] bP iq
theorem ay.QG {S:Nat->Prop}{lo nx:Nat}{H:AHeap}{e:TypeId}{v:AVal}{l:List Nat}(h:ay lo H e v (l.map bP))(hS:∀i,lo<=i->S i):Fz S H nx v (iq l):=by
 have:=h.fz (S:=S) (nx:=nx) (cs':=l.map bP) hS rfl fun i hi _=>by simp only[SV];exact .lit _
 rw[SM]at this;exact this
end Go.Hx
namespace Go.Proofs
open Go.Hx
theorem DA {H H':AHeap}{v:AVal}{l:List Nat}(x:Nat)(ov:Over H H')(h:ay H.next H' 35 v (l.map bP))(hl:l.length<2 ^ 40):
  ∃v' H2,bM Tryz.prog (ext H' [.arr 0 35 [.lit (.int .u64 (x:Int))]]) (H'.next+1) 84 84 v (.own H'.next 0 0 1 1)=some (v',H2)/\Over H H2/\ay H.next H2 35 v' ((l++[x]).map bP)/\H'.next<=H2.next/\(∀k,k<H'.next->(∀g n,v≠.own k g 0 n 1)->H2.get k=H'.get k):=by
 obtain⟨v',H2,hA,hO,hn2,hp⟩:=fW (P:=Tryz.prog) (H:=H') (t:=84) (x:=bP x) (n:=H'.next+1) Tryz.underlying84 Tryz.BC Tryz.BE rfl (by rw[Tryz.BD,SM];omega) h ov.next rfl;simp only[bP]at hA;exact⟨v',H2,hA,lV ov h hn2 hp,by rw[Tq];exact hO,hn2,hp⟩
theorem yH (m v:Nat)(hm:m<2 ^ 64)(hv:v<2 ^ 62)(H:AHeap)(K:ARes->AHeap->Prop)(hK:K (.ret (.lit (.bool (m.testBit v)))) H):ag Tryz.prog G0 121 [bP m,aa v] H K:=by
 refine ag.st (n:=11) (rs:=[.tmp 4]) Tryz.func121 ?_;have w1:=Ue (v:Int) (by omega);have s1:=fun t x y=>mb (P:=Tryz.prog) (t:=t) (x:=x) (y:=y) (k':=.u64) (s:=v) hm;have s2:=fun t x y=>oB (P:=Tryz.prog) (t:=t) (x:=x) (y:=y) (s:=v) hm;cases hb:m.testBit v
 ·rw[hb]at hK;simp only[go_sem,w1,s1,s2,hb];exact ar.mk (Nat.le_refl _) hK
 ·rw[hb]at hK;simp only[go_sem,w1,s1,s2,hb];exact ar.mk (Nat.le_refl _) hK
def bj (ns:List NodeP):List Nat:=ns.map fun x=>cS x.parents
theorem mO {ns:List NodeP}{k:Nat}{x:NodeP}(h:ns[k]?=some x):(bj ns)[k]?=some (cS x.parents):=by unfold bj;rw[List.getElem?_map,h];rfl
theorem DB (g:Int)(ns:List NodeP)(hl:(ns.length:Int)<2 ^ 39)(hp:∀x∈ns,(x.parents.length:Int)<2 ^ 39/\∀q∈x.parents,0<=q/\q<64)(H:AHeap)(K:ARes->AHeap->Prop)
  (hK:K (.ret (iq (bj ns))) H):ag Tryz.prog G0 32 [bL g ns] H K:=by
 refine ag.clo ⟨_,Tryz.func32,rfl,rfl⟩ fun hcl=>?_;refine ag.st (n:=43) (rs:=[.tmp 2]) Tryz.func32 ?_;simp only[go_sem,bL,cE];obtain⟨H1,hH1⟩:∃H1,H1=ext H [.arr 0 81 [.lit (.int .i64 g),.vec ns.length (aF ns)]]:=⟨_,rfl⟩
 have l1:H1.live H.next 0=some (81,[.lit (.int .i64 g),.vec ns.length (aF ns)]):=by rw[hH1];exact ah (cq ..)
 have n1:H1.next=H.next+1:=hH1▸rfl
 have o1:Over H H1:=hH1▸.ext _ _
 rw[<- hH1];refine W.aG 4398046511096 (by rfl) (fun ρ H'=>∃k:Nat,ρ 4=aa k/\k<=ns.length/\ρ 1=.ptr H.next 0 0/\Over H1 H'/\ay H1.next H' 35 (ρ 3) (((bj ns).take k).map bP)) (fun ρ H=>ns.length-(iv (ρ 4)).toNat) ?_ ?_
 ·simp only[go_sem];exact⟨0,rfl,by omega,.refl _,.nil⟩
 rintro ρ H' ⟨k,h4,hk,h1,ov,h3⟩;refine W.vs ?_;have l2:=(ov.live (g:=0) (by omega:H.next<H1.next)).trans l1;by_cases hb:(k:Int)<ns.length
 ·obtain⟨x,hx⟩:=get_of_lt (l:=ns) (i:=k) (by omega);have hne:=dJ hx;have e1:=jY hx;obtain⟨xl,xr⟩:=hp x (SE hx);simp only[go_sem,h4,h1,l2,hb];refine W.aG 274877890656 (by rfl) (fun ρ' H2=>H2=H'/\∃j:Nat,ρ' 6=aa j/\j<=x.parents.length/\ρ' 5=bP (cS (x.parents.take j))) (fun ρ' H=>x.parents.length-(iv (ρ' 6)).toNat) ?_ ?_
  ·simp only[go_sem];exact⟨0,rfl,by omega,rfl⟩
  rintro ρ' H2 ⟨rfl,j,h6,hj,h5⟩;refine W.vs ?_;by_cases hb2:(j:Int)<x.parents.length
  ·obtain⟨q,hq⟩:=get_of_lt (l:=x.parents) (i:=j) (by omega);obtain⟨q0,q1⟩:=xr q (SE hq);obtain⟨u,rfl⟩:=SR q0;have hne2:=aJ hq;have w1:=Ue (u:Int) (by omega);have w2:=SF ((j:Int)+1) (by omega);have b1:cS (x.parents.take j)<2 ^ 64:=sy fun p hp=>by have:=xr p (S8 hp);omega
   have s1:=fun t x y=>py (P:=Tryz.prog) (t:=t) (x:=x) (y:=y) (k':=.u64) (s:=u) (by omega);have s2:=fun t x y=>ma (P:=Tryz.prog) (t:=t) (x:=x) (y:=y) (b:=2 ^ u) b1 (Ui (by decide) (by omega));simp only[go_sem,h4,h1,l2,hb,hne,e1,h6,h5,hb2,hq,hne2,w1,w2,s1,s2];exact⟨⟨j+1,by simp,by omega,by rw[aL hq,xY];rfl⟩,by omega⟩
  ·obtain⟨v',H3,hA,ov2,hO,hn2,_⟩:=DA (cS x.parents) ov h3 (by simp[bj];omega);have w1:=SF ((k:Int)+1) (by omega);rw[SH (by omega)]at h5;simp only[go_sem,h4,h1,l2,hb,hne,e1,h6,h5,hb2,w1,hA];refine⟨by have:=ov2.next;omega,⟨k+1,by simp,by omega,ov2,?_⟩,by omega⟩;rw[aL (mO hx)];exact hO
 ·simp only[go_sem,h4,h1,l2,hb];rw[SH (by simp[bj];omega)]at h3;exact ar.aV aE hcl (o1.trans ov) (h3.QG fun i hi=>by omega) hK
theorem DC {ps:List Nat}(hp:∀p∈ps,p<2 ^ 64)(l:List Nat):∀s,s<2 ^ 64->l.foldl (gz ps) s<2 ^ 64:=by
 induction l with
 |nil=>exact fun s h=>h
 |cons v l ih =>
  intro s h;refine ih _ ?_;unfold gz;split
  ·refine UU h ?_;rw[S2];cases h:ps[v]? with
   |none=>decide
   |some p=>exact hp p (SE h)
  ·exact h
theorem yJ {ps:List Nat}(hp:∀p∈ps,p<2 ^ 64){s:Nat}(hs:s<2 ^ 64):∀k,fw ps k s<2 ^ 64
 |0=>hs
 |k+1=>DC hp _ _ (yJ hp hs k)
theorem QH (ps:List Nat)(s:Nat)(hl:(ps.length:Int)<2 ^ 39)(hp:∀p∈ps,p<2 ^ 64)(hs:s<2 ^ 64)(H:AHeap)(K:ARes->AHeap->Prop)(hK:K (.ret (bP (iK ps s))) H):ag Tryz.prog G0 123 [iq ps,bP s] H K:=by
 refine ag.st (n:=29) (rs:=[.tmp 4]) Tryz.func123 ?_;simp only[go_sem];refine W.aG 268435426 (by rfl) (fun ρ H'=>H'=H/\∃k:Nat,ρ 5=aa k/\k<=ps.length/\ρ 1=bP (fw ps k s)) (fun ρ H=>ps.length-(iv (ρ 5)).toNat) ?_ ?_
 ·simp only[go_sem];exact⟨0,rfl,by omega,rfl⟩
 rintro ρ H' ⟨rfl,k,h5,hk,h1⟩;refine W.vs ?_;by_cases hb:(k:Int)<ps.length
 ·simp only[go_sem,h5,hb];refine W.aG 268427330 (by rfl) (fun ρ' H2=>H2=H'/\∃j:Nat,ρ' 6=aa j/\j<=ps.length/\ρ' 1=bP ((List.range j).foldl (gz ps) (fw ps k s))) (fun ρ' H=>ps.length-(iv (ρ' 6)).toNat) ?_ ?_
  ·simp only[go_sem,h1];exact⟨0,rfl,by omega,rfl⟩
  rintro ρ' H2 ⟨rfl,j,h6,hj,h1'⟩;refine W.vs ?_;by_cases hb2:(j:Int)<ps.length
  ·obtain⟨p,hpj⟩:=get_of_lt (l:=ps) (i:=j) (by omega);have hne:=aJ hpj;have b1:=DC hp (List.range j) _ (yJ hp hs k);have w2:=SF ((j:Int)+1) (by omega);have hst:(List.range (j+1)).foldl (gz ps) (fw ps k s)=gz ps ((List.range j).foldl (gz ps) (fw ps k s)) j:=(by rw[TZ,TT];rfl);have s2:=fun t x y=>ma (P:=Tryz.prog) (t:=t) (x:=x) (y:=y) b1 (hp p (SE hpj));obtain⟨m,hm⟩:∃m,m=(List.range j).foldl (gz ps) (fw ps k s):=⟨_,rfl⟩
   rw[<- hm]at b1 h1' hst s2;simp only[go_sem,h6,h1',hb2];refine aw.clo (yH m j b1 (by omega) _ _ ⟨trivial,?_⟩);cases hbit:m.testBit j
   ·simp only[go_sem,h6,h1',w2];exact⟨⟨j+1,by simp,by omega,by rw[hst];unfold gz;rw[hbit];rfl⟩,by omega⟩
   ·simp only[go_sem,h6,h1',w2,hb2,hpj,hne,s2];exact⟨⟨j+1,by simp,by omega,by rw[hst];unfold gz;rw[hbit,SK rfl,bp hpj]⟩,by omega⟩
  ·have w2:=SF ((k:Int)+1) (by omega);have ej:j=ps.length:=(by omega);subst ej;simp only[go_sem,h6,h1',hb2,h5,w2];exact⟨⟨k+1,by simp,by omega,rfl⟩,by omega⟩
 ·simp only[go_sem,h5,h1,hb];have ek:k=ps.length:=by omega
  subst ek;exact ar.mk (Nat.le_refl _) hK
def te (ps:List Nat):Bool:=(List.range ps.length).all fun v=>!(iK ps (ps.getD v 0)).testBit v
theorem vB (ps:List Nat):te ps=true↔j7 ps:=by
 unfold te j7;simp only[Td,Tn,Bool.not_eq_true']
theorem QI (ps:List Nat)(hl:(ps.length:Int)<2 ^ 39)(hp:∀p∈ps,p<2 ^ 64)(H:AHeap)(K:ARes->AHeap->Prop)(hK:K (.ret (.lit (.bool (te ps)))) H):ag Tryz.prog G0 85 [iq ps] H K:=by
 have no:¬te ps=true->ar Tryz.prog G0 H K (.lit (.bool false)) H:=fun h=>ar.mk (Nat.le_refl _) (by rw[Bool.eq_false_iff.2 h]at hK;exact hK);refine ag.st (n:=18) (rs:=[.tmp 2]) Tryz.func85 ?_;simp only[go_sem];refine W.aG 262140 (by rfl) (fun ρ H'=>H'=H/\∃k:Nat,ρ 3=aa k/\k<=ps.length/\∀v,v<k->(iK ps (ps.getD v 0)).testBit v=false) (fun ρ H=>ps.length-(iv (ρ 3)).toNat) ?_ ?_
 ·simp only[go_sem];exact⟨0,rfl,by omega,fun v h=>absurd h (S4 _)⟩
 rintro ρ H' ⟨rfl,k,h3,hk,ha⟩;refine W.vs ?_;by_cases hb:(k:Int)<ps.length
 ·obtain⟨p,hpk⟩:=get_of_lt (l:=ps) (i:=k) (by omega);have hne:=aJ hpk;have hp1:=hp p (SE hpk);simp only[go_sem,h3,hb,hpk,hne];refine aw.clo (QH ps p hl hp hp1 _ _ ⟨trivial,?_⟩);simp only[go_sem,h3];refine aw.clo (yH (iK ps p) k (yJ hp hp1 _) (by omega) _ _ ⟨trivial,?_⟩);have w2:=SF ((k:Int)+1) (by omega);cases hbit:(iK ps p).testBit k
  ·simp only[go_sem,h3,w2];refine⟨⟨k+1,by simp,by omega,fun v hv=>?_⟩,by omega⟩;rcases S9 v k with h|h
   ·exact ha v h
   ·obtain rfl:v=k:=(by omega);rw[bp hpk];exact hbit
  ·simp only[go_sem];refine no fun h=>?_;have:=(vB ps).1 h k (by omega);rw[bp hpk,hbit]at this;cases this
 ·simp only[go_sem,h3,hb];rw[(vB ps).2 fun v hv=>ha v (by omega)]at hK;exact ar.mk (Nat.le_refl _) hK
def jz (g card:Int)(r:List Int):Prop:=(r.length:Int)=card/\(∀w∈r,0<=w/\w<=g)/\r.sum=g
def fO (g:Int)(ns:List NodeP)(x:NodeP):Prop:=(x.rows.length:Int)=ao (aP ns x)/\∀r∈x.rows,jz g x.card r
structure NetOk (g:Int)(ns:List NodeP):Prop where
 g1:1<=g/\g<=60
 n1:1<=ns.length/\ns.length<=8
 node:∀x∈ns,(1<=x.card/\x.card<=4)/\bO x.parents ns.length
 size:ao (ak ns)<=1024
 acyc:j7 (bj ns)
 rows:∀x∈ns,fO g ns x
noncomputable def oh (g:Int)(ns:List NodeP):Bool:=@decide (NetOk g ns) (Classical.propDecidable _)
theorem vC {g:Int}{ns:List NodeP}(h:NetOk g ns):oh g ns=true:=by unfold oh;exact @decide_eq_true _ (Classical.propDecidable _) h
theorem vD {g:Int}{ns:List NodeP}(h:¬NetOk g ns):oh g ns=false:=by unfold oh;exact @decide_eq_false _ (Classical.propDecidable _) h
def qI (ns:List NodeP):Prop:=(ns.length:Int)<2 ^ 38/\∀x∈ns,(x.parents.length:Int)<2 ^ 38/\(x.rows.length:Int)<2 ^ 38/\∀r∈x.rows,(r.length:Int)<2 ^ 38
theorem ki {l:List Int}(h:l.length<=12)(h2:∀x∈l,1<=x/\x<=4):cY l:=⟨h,fun x hx=>by have:=h2 x hx;omega⟩
theorem oo {ns:List NodeP}{x:NodeP}(hin:eF x.parents ns.length)(hc:∀y∈ns,1<=y.card/\y.card<=4):∀c∈aP ns x,1<=c/\c<=4:=fun c h=>by
 unfold aP aI at h;obtain⟨q,hq,rfl⟩:=SY.1 h;obtain⟨j,rfl,y,hy⟩:=lO (l:=ns) (hin q hq).1 (hin q hq).2;rw[Int.toNat_natCast,bp (dm hy)];exact hc y (SE hy)
theorem iQ {ns:List NodeP}{x:NodeP}(h8:ns.length<=8)(hp:bO x.parents ns.length)(hc:∀y∈ns,1<=y.card/\y.card<=4):cY (aP ns x):=by
 refine ki ?_ (oo (fun q hq=>by have:=hp.2 q hq;omega) hc);rw[show (aP ns x).length=_ from gJ _ _];have:=hp.len;omega
theorem vE {ns:List NodeP}{n:Nat}(h:∀x∈ns,∀q∈x.parents,0<=q/\q<(n:Int)):∀p∈bj ns,p<2 ^ n:=fun p hp=>by
 obtain⟨x,hx,rfl⟩:=SY.1 hp;exact sy fun q hq=>by have:=h x hx q hq;omega
theorem vF (l:List Int)(x:Int):(l++[x]).sum=l.sum+x:=by simp
theorem QJ (g:Int)(ns:List NodeP)(hf:qI ns)(H:AHeap)(K:ARes->AHeap->Prop)(hK:K (.ret (.lit (.bool (oh g ns)))) H):ag Tryz.prog G0 43 [bL g ns] H K:=by
 refine ag.clo ⟨_,Tryz.func43,rfl,rfl⟩ fun hcl=>?_;have no:¬NetOk g ns->∀H',Over H H'->ar Tryz.prog G0 H K (.lit (.bool false)) H':=fun h H' ov=>ar.aV aE hcl ov (.lit _) (by rw[vD h]at hK;exact hK);refine ag.st (n:=154) (rs:=[.tmp 2]) Tryz.func43 ?_;simp only[go_sem,bL,cE];obtain⟨H1,hH1⟩:∃H1,H1=ext H [.arr 0 81 [.lit (.int .i64 g),.vec ns.length (aF ns)]]:=⟨_,rfl⟩
 have l1:H1.live H.next 0=some (81,[.lit (.int .i64 g),.vec ns.length (aF ns)]):=by rw[hH1];exact ah (cq ..)
 have n1:H1.next=H.next+1:=hH1▸rfl
 have o1:Over H H1:=hH1▸.ext _ _
 rw[<- hH1];by_cases c1:g<1
 ·simp only[go_sem,c1];exact no (fun h=>by have:=h.g1;omega) _ o1
 by_cases c2:g > 60
 ·simp only[go_sem,l1,c1,c2];exact no (fun h=>by have:=h.g1;omega) _ o1
 by_cases c3:(ns.length:Int)<1
 ·simp only[go_sem,l1,c1,c2,c3];exact no (fun h=>by have:=h.n1;omega) _ o1
 by_cases c4:(ns.length:Int) > 8
 ·simp only[go_sem,l1,c1,c2,c3,c4];exact no (fun h=>by have:=h.n1;omega) _ o1
 simp only[go_sem,l1,c1,c2,c3,c4];refine W.aG 18446744071562068028 (by rfl) (fun ρ H'=>∃k:Nat,ρ 4=aa k/\k<=ns.length/\Over H1 H'/\(∀x∈ns.take k,(1<=x.card/\x.card<=4)/\bO x.parents ns.length)/\ρ 3=aa (ao ((ak ns).take k))) (fun ρ H=>ns.length-(iv (ρ 4)).toNat) ?_ ?_
 ·simp only[go_sem];exact⟨0,rfl,by omega,.refl _,by simp,by simp[gm]⟩
 ·rintro ρ H' ⟨k,h4,hk,ov,hall,h3⟩;refine W.vs ?_;have l2:=(ov.live (g:=0) (by omega:H.next<H1.next)).trans l1;have hlt:H.next<H'.next:=by have:=ov.next;omega
  have l3:∀L,(ext H' L).live H.next 0=_:=fun L=>(dh hlt).trans l2;by_cases hb:(k:Int)<ns.length
  ·obtain⟨x,hx⟩:=get_of_lt (l:=ns) (i:=k) (by omega);have hxm:=SE hx;have hne:=dJ hx;have e0:=my hx;have e1:k*3+3<=(aF ns).length:=(by rw[iI];omega);have nb:¬H.next=H'.next:=(by omega);have ove:∀L,Over H (ext H' L):=fun L=>(o1.trans ov).trans (.ext _ _);by_cases d1:x.card<1
   ·simp only[go_sem,h4,l2,hb,hne,e0,e1,d1];exact no (fun h=>by have:=(h.node x hxm).1;omega) _ (ove _)
   by_cases d2:x.card > 4
   ·simp only[go_sem,h4,l2,hb,hne,e0,e1,d1,d2];exact no (fun h=>by have:=(h.node x hxm).1;omega) _ (ove _)
   simp only[go_sem,h4,l2,l3,hb,hne,e0,e1,d1,d2];refine aw.clo (Dx x.parents ns.length (by have:=(hf.2 x hxm).1;omega) _ _ ⟨trivial,?_⟩);by_cases d3:bO x.parents ns.length;rotate_left
   ·simp only[go_sem,d3];exact no (fun h=>d3 (h.node x hxm).2) _ (ove _)
   have hall':∀y∈ns.take (k+1),(1<=y.card/\y.card<=4)/\bO y.parents ns.length:=fun y hy=>by
    rw[aL hx]at hy;rcases S5.1 hy with hy|hy
    ·exact hall y hy
    ·obtain rfl:=List.mem_singleton.1 hy;exact⟨by omega,d3⟩
   have b1:cY ((ak ns).take (k+1)):=ki (by simp[ak];omega) fun c hc=>by
    rw[show (ak ns).take (k+1)=ak (ns.take (k+1)) by simp[ak]]at hc;obtain⟨y,hy,rfl⟩:=SY.1 hc;exact(hall' y hy).1
   have b2:=b1.prod;rw[aL (dm hx),eQ]at b2;have w1:=SF ((k:Int)+1) (by omega);have w2:=SF (ao ((ak ns).take k)*x.card) (by omega);simp only[go_sem,h4,h3,d3,w1,w2];exact⟨by have:=ov.next;omega,⟨k+1,by simp,by omega,ov.trans (.ext _ _),fun y hy=>hall' y hy,by rw[aL (dm hx),eQ]⟩,by omega⟩
  ·have ek:k=ns.length:=(by omega);subst ek;rw[SH (Nat.le_refl _)]at hall;rw[SH (by rw[cC];omega)]at h3;have hcards:∀y∈ns,1<=y.card/\y.card<=4:=fun y hy=>(hall y hy).1;have ov0:=o1.trans ov;by_cases c5:ao (ak ns) > 1024
   ·simp only[go_sem,h4,h3,l2,hb,c5];exact no (fun h=>by have:=h.size;omega) _ ov0
   simp only[go_sem,h4,h3,l2,hb,c5];have hpl:∀x∈ns,(x.parents.length:Int)<2 ^ 39/\∀q∈x.parents,0<=q/\q<64:=fun x hx=>⟨by have:=(hf.2 x hx).1;omega,fun q hq=>by have:=(hall x hx).2.2 q hq;omega⟩
   refine aw.clo (DB g ns (by have:=hf.1;omega) hpl _ _ ⟨trivial,?_⟩);simp only[go_sem];refine aw.clo (QI (bj ns) (by simp[bj];omega) (fun p hp=>S1 (vE (n:=64) (fun x hx q hq=>by have:=(hpl x hx).2 q hq;omega) p hp) (Nat.le_refl _)) _ _ ⟨trivial,?_⟩);cases hac:te (bj ns)
   ·simp only[go_sem];exact no (fun h=>by rw[(vB _).2 h.acyc]at hac;cases hac) _ ov0
   simp only[go_sem];refine W.aG 22835963083295358096932570788825439312478734276 (by rfl) (fun ρ' H2=>∃k:Nat,ρ' 6=aa k/\k<=ns.length/\Over H' H2/\∀x∈ns.take k,fO g ns x) (fun ρ' H=>ns.length-(iv (ρ' 6)).toNat) ?_ ?_
   ·simp only[go_sem];exact⟨0,rfl,by omega,.refl _,by simp⟩
   rintro ρ' H2 ⟨k,h6,hk,ov2',hrows⟩;have ov2:=ov.trans ov2';refine W.vs ?_;have l2:=(ov2.live (g:=0) (by omega:H.next<H1.next)).trans l1;have hlt:H.next<H2.next:=(by have:=ov2.next;omega);by_cases hb:(k:Int)<ns.length;rotate_left
   ·simp only[go_sem,h6,l2,hb];rw[SH (by omega)]at hrows;rw[vC ⟨by omega,by omega,hall,by omega,(vB _).1 hac,hrows⟩]at hK;exact ar.aV aE hcl (o1.trans ov2) (.lit _) hK
   obtain⟨x,hx⟩:=get_of_lt (l:=ns) (i:=k) (by omega);have hxm:=SE hx;have hne:=dJ hx;have e0:=my hx;have e1:k*3+3<=(aF ns).length:=(by rw[iI];omega);obtain⟨x1,x2⟩:=hall x hxm;obtain⟨f1,f2,f3⟩:=hf.2 x hxm;have sm:=iQ (by omega) x2 hcards;simp only[go_sem,h6,l2,hb,hne,e0,e1];obtain⟨H3,hH3⟩:∃H3,H3=ext H2 [.arr 0 87 [.lit (.int .i64 x.card),.vec x.parents.length (ints x.parents),aj x.rows]]:=⟨_,rfl⟩
   have m1:H3.live H2.next 0=some (87,[.lit (.int .i64 x.card),.vec x.parents.length (ints x.parents),aj x.rows]):=(by rw[hH3];exact ah (cq ..));have m2:H3.live H.next 0=some (81,[.lit (.int .i64 g),.vec ns.length (aF ns)]):=(by rw[hH3,dh hlt];exact l2);have m3:H3.next=H2.next+1:=(by rw[hH3];rfl);have ov3:Over H1 H3:=(by rw[hH3];exact ov2.trans (.ext _ _));have ov4:Over H H3:=o1.trans ov3;rw[<- hH3];refine W.dr 7 [0,1,3,0,0,24,56] Tryz.mixed ?_;simp only[go_sem,h6,m1,m2,aj];refine⟨af (aP ns x),[],bf.pure fun H2=>yG g ns k x hx (by have:=hf.1;omega) (by omega) (fun q hq=>by have:=x2.2 q hq;omega) H2 _ ⟨rfl,rfl⟩,?_⟩;simp only[go_sem];refine⟨aa (ao (aP ns x)),[],bf.pure fun H2=>vA (aP ns x) sm H2 _ ⟨rfl,rfl⟩,?_⟩;by_cases d1:(x.rows.length:Int)=ao (aP ns x);rotate_left
   ·simp only[go_sem,d1];exact no (fun h=>d1 (h.rows x hxm).1) _ ov4
   simp only[go_sem,d1];refine W.aG 22835963083295358091980815354050401082527450884 (by rfl) (fun ρ2 H4=>H4=H3/\∃j:Nat,ρ2 8=aa j/\j<=x.rows.length/\∀r∈x.rows.take j,jz g x.card r) (fun ρ2 H=>x.rows.length-(iv (ρ2 8)).toNat) ?_ ?_
   ·simp only[go_sem];exact⟨0,rfl,by omega,by simp⟩
   rintro ρ2 H4 ⟨rfl,j,h8,hj,hrj⟩;refine W.vs ?_;by_cases hb2:(j:Int)<x.rows.length;rotate_left
   ·have w1:=SF ((k:Int)+1) (by omega);have hb2':¬(j:Int)<ao (aP ns x):=(by omega);simp only[go_sem,h6,h8,m1,hb2',d1,w1,aj];rw[SH (by omega)]at hrj;refine⟨by have:=ov2'.next;omega,⟨k+1,by simp,by omega,by rw[hH3];exact ov2'.trans (.ext _ _),fun y hy=>?_⟩,by omega⟩;rw[aL hx]at hy;rcases S5.1 hy with hy|hy
    ·exact hrows y hy
    ·obtain rfl:=List.mem_singleton.1 hy;exact⟨d1,hrj⟩
   obtain⟨r,hr⟩:=get_of_lt (l:=x.rows) (i:=j) (by omega);have hrm:=SE hr;have hrne:=aJ hr;have hb2':(j:Int)<ao (aP ns x):=(by omega);have nope:¬jz g x.card r->¬NetOk g ns:=fun h h'=>h ((h'.rows x hxm).2 r hrm);simp only[go_sem,h8,m1,hb2',d1,aj];refine W.dr 8 [0,1,0,7,15,31,0,64] Tryz.mixed ?_;by_cases d2:(r.length:Int)=x.card;rotate_left
   ·simp only[go_sem,h8,m1,hb2',d1,d2,hr,hrne,aj];exact no (nope fun h=>d2 h.1) _ ov4
   simp only[go_sem,h8,m1,hb2',d1,d2,hr,hrne,aj];refine W.aG 1427247692705635362504627542722711980362171908 (by rfl) (fun ρ3 H5=>H5=H4/\∃i:Nat,ρ3 10=aa i/\i<=r.length/\ρ3 9=aa (r.take i).sum/\∀w∈r.take i,0<=w/\w<=g) (fun ρ3 H=>r.length-(iv (ρ3 10)).toNat) ?_ ?_
   ·simp only[go_sem];exact⟨0,rfl,by omega,by simp,by simp⟩
   rintro ρ3 H5 ⟨rfl,i,h10,hi,h9,hw⟩;refine W.vs ?_;have sb:0<=(r.take i).sum/\(r.take i).sum<=60*i:=by
    have key:∀l:List Int,(∀w∈l,0<=w/\w<=g)->0<=l.sum/\l.sum<=60*l.length:=by
     intro l
     induction l with
     |nil=>intro _;simp
     |cons a l ih =>
      intro h;have h1:=ih fun w hw=>h w (by simp[hw]);have h2:=h a (by simp);simp only[Uv,List.length_cons]
      push_cast
      omega
    have:=key _ hw;rw[SN,TY (by omega)]at this;exact this
   have r4:r.length<=4:=(by omega);by_cases hb3:(i:Int)<r.length<;>have hb3':=hb3<;>rw[d2]at hb3'
   rotate_left
   ·rw[SH (by omega)]at h9 hw;by_cases d3:r.sum=g;rotate_left
    ·simp only[go_sem,h8,h9,h10,m1,m2,hb3',hr,hrne,hb2',d1,d2,d3,aj];exact no (nope fun h=>d3 h.2.2) _ ov4
    have w1:=SF ((j:Int)+1) (by have:=(hf.2 x hxm).2.1;omega);simp only[go_sem,h8,h9,h10,m1,m2,hb3',hr,hrne,hb2',d1,d2,d3,w1,aj];refine⟨⟨j+1,by simp,by omega,fun y hy=>?_⟩,by omega⟩;rw[aL hr]at hy;rcases S5.1 hy with hy|hy
    ·exact hrj y hy
    ·obtain rfl:=List.mem_singleton.1 hy;exact⟨d2,hw,d3⟩
   obtain⟨a,ha⟩:=get_of_lt (l:=r) (i:=i) (by omega);have ham:=SE ha;have hane:=aJ ha;simp only[go_sem,h8,h10,m1,hr,hrne,hb2',hb3',d1,d2,aj];refine W.dr 20 [0,1,0,7,15,0,63,127,255,511,1023,2047,1023,8191,16383,1023,65535,131071,1023,263167] Tryz.mixed ?_;by_cases d3:a<0
   ·simp only[go_sem,h8,h10,m1,hr,hrne,hb2',hb3',ha,hane,d1,d2,d3,aj];exact no (nope fun h=>by have:=h.2.1 a ham;omega) _ ov4
   by_cases d4:a > g
   ·simp only[go_sem,h8,h10,m1,m2,hr,hrne,hb2',hb3',ha,hane,d1,d2,d3,d4,aj];exact no (nope fun h=>by have:=h.2.1 a ham;omega) _ ov4
   have w1:=SF ((i:Int)+1) (by omega);have w2:=SF ((r.take i).sum+a) (by omega);simp only[go_sem,h8,h9,h10,m1,m2,hr,hrne,hb2',hb3',ha,hane,d1,d2,d3,d4,w1,w2,aj];refine⟨⟨i+1,by simp,by omega,by rw[aL ha,vF],fun w hw'=>?_⟩,by omega⟩;rw[aL ha]at hw';rcases S5.1 hw' with hw'|hw'
   ·exact hw w hw'
   ·obtain rfl:=List.mem_singleton.1 hw';exact⟨by omega,by omega⟩
end Go.Proofs
namespace Go.Hx
variable {P:Program} {G:Nat->Option (List AVal)} {n:Nat} {rd:Option Nat} {Q:AX->St->Prop}
def vT (P:Program)(G:Nat->Option (List AVal))(f:FuncId)(first cap:List AVal)(xs:List (List AVal))(S:AHeap->Prop):Prop :=
 ∀(idy:Nat) (J:Nat->AHeap->Prop) (Stop:AHeap->Prop) (H:AHeap) (K:ARes->AHeap->Prop),
  (∀k H1,J k H1->S H1)->J 0 H ->
  (∀k x H1 K1,xs[k]?=some x->J k H1->H.next<=H1.next->(∀H',J (k+1) H'->H1.next<=H'.next->K1 (.ret (.lit (.bool true))) H')->(∀H',Stop H'->H1.next<=H'.next->K1 (.ret (.lit (.bool false))) H')->aw P G (.yld idy) x H1 K1) ->
  (∀H',J xs.length H'->H.next<=H'.next->K (.ret (.tup [])) H') ->
  (∀H',Stop H'->H.next<=H'.next->K (.ret (.tup [])) H') ->
  ag P G f (first++[.yld idy]++cap) H K
def ep (idy:Nat)(B:Blk)(lo:Nat)(J:AHeap->Prop)(Stop:AX->AHeap->Prop):AX->St->Prop
 |.normal,s=>s.H.get idy=some B/\lo<=s.H.next/\J s.H
 |.ret,s=>s.H.get idy=some B/\lo<=s.H.next/\Stop .ret s.H
 |.exit i,s=>s.H.get idy=some B/\lo<=s.H.next/\Stop (.exit i) s.H
 |_,_=>False
def ir (P:Program)(G:Nat->Option (List AVal))(n idy:Nat)(B Bb:Blk)(lo:Nat)(body:Code)(J:AHeap->Prop)(Stop:AX->AHeap->Prop):AX->St->Prop
 |.normal,s=>s.H.get idy=some B/\W P G n (some idy) body (ep idy Bb lo J Stop) ⟨s.ρ,s.H.upd idy Bb⟩
 |_,_=>False
theorem W.mc {g:Operand}{ps:Array Tmp}{asg body:Code}{ρ:Env}{H:AHeap}{f:FuncId}{first cap:List AVal}{xs:List (List AVal)}{S:AHeap->Prop}(hg:aB G ρ g=.clo f first cap)
  (hit:vT P G f first cap xs S) (J:Nat->AHeap->Prop) (Stop:AX->AHeap->Prop) (hS:∀k H1,J k H1->S H1)
  (hJu:∀k H1 b,J k H1->J k (H1.upd H.next b)) (hSu:∀c H1 b,Stop c H1->Stop c (H1.upd H.next b))
  (hJ0:∀b,J 0 (ext H [b])) (hps:ps.toList.all (fun t=>decide (t<n))=true) (hxl:∀x∈xs,x.length=ps.size)
  (hrd:∀k H1,J k H1->fT H1 rd) (hrd2:∀c H1,Stop c H1->fT H1 rd)
  (hround:∀k x H1 B Bb,xs[k]?=some x->J k H1->H.next+1<=H1.next->H1.get H.next=some B->(∃st pd n' en ps' as' bo,Bb=Blk.loop st pd n' en ps' as' bo) ->
   W P G n (some H.next) asg (ir P G n H.next B Bb H1.next body (J (k+1)) Stop) ⟨fV (bA ρ n) (ps.toList.zip x),H1⟩)
  (hend:∀H',J xs.length H'->H.next+1<=H'.next->Q .normal ⟨ρ,H'⟩)
  (hret:∀H',Stop .ret H'->H.next+1<=H'.next->Q .ret ⟨ρ,H'⟩) (hexit:∀i H',Stop (.exit i) H'->H.next+1<=H'.next->Q (.exit i) ⟨ρ,H'⟩):
  W P G n rd (.rangeFunc g ps asg body) Q ⟨ρ,H⟩:=by
 refine W.rangeFunc (s:=⟨ρ,H⟩) hg ⟨_,ue _ _,?_⟩;obtain⟨B,hB⟩:∃B,B=Blk.loop .ready none n ρ ps asg body:=⟨_,rfl⟩
 obtain⟨Bb,hBb⟩:∃B,B=Blk.loop .busy none n ρ ps asg body:=⟨_,rfl⟩
 have nx:(ext H [B]).next=H.next+1:=rfl;show ag P G f (first++[.yld H.next]++cap) (ext H [Blk.loop .ready none n ρ ps asg body]) (xj rd Q ρ H.next);rw[<- hB];refine hit H.next (fun k H1=>H1.get H.next=some B/\J k H1) (fun H1=>∃c pend,H1.get H.next=some (.loop .done (some pend) n ρ ps asg body)/\Stop c H1/\((c=.ret/\pend=.ret)\/∃i,c=.exit i/\pend=.exit i)) _ _
  (fun k H1 h=>hS k H1 h.2) ⟨bX,hJ0 B⟩ (fun k x H1 K1 hx hj hn hgo hst=>?_) (fun H' hj hn=>?_) (fun H' hj hn=>?_)
 ·have hxm:=hxl x (SE hx);refine aw.yld (hj.1.trans (congrArg some hB)) hxm hps ?_;refine(hround k x H1 B Bb hx hj.2 hn hj.1 ⟨_,_,_,_,_,_,_,hBb⟩).mono fun e s1 h1=>?_;cases e with
  |normal =>
   obtain⟨a1,a2⟩:=h1;refine⟨Bb,by rw[a1,hB,hBb];rfl,?_⟩;refine a2.mono fun e2 s2 h2=>?_;cases e2 with
   |normal =>
    obtain⟨b1,b2,b3⟩:=h2;exact⟨B,by rw[b1,hB,hBb];rfl,hgo _ ⟨by rw[ae,SK rfl],hJu _ _ _ b3⟩ b2⟩
   |ret =>
    obtain⟨b1,b2,b3⟩:=h2;exact⟨.loop .done (some .ret) n ρ ps asg body,by rw[b1,hBb];rfl,hst _ ⟨.ret,.ret,by rw[ae,SK rfl],hSu _ _ _ b3,.inl ⟨rfl,rfl⟩⟩ b2⟩
   |exit i =>
    obtain⟨b1,b2,b3⟩:=h2;exact⟨.loop .done (some (.exit i)) n ρ ps asg body,by rw[b1,hBb];rfl,hst _ ⟨.exit i,.exit i,by rw[ae,SK rfl],hSu _ _ _ b3,.inr ⟨i,rfl,rfl⟩⟩ b2⟩
   |_=>exact h2.elim
  |_=>exact h1.elim
 ·refine⟨hrd _ _ hj.2,(none,.loop .exhausted none n ρ ps asg body),by rw[hj.1,hB];rfl,?_⟩;exact hend _ (hJu _ _ _ hj.2) hn
 ·obtain⟨c,pend,h1,h2,h3⟩:=hj;refine⟨hrd2 _ _ h2,(some pend,.loop .exhausted (some pend) n ρ ps asg body),by rw[h1];rfl,?_⟩;rcases h3 with ⟨rfl,rfl⟩|⟨i,rfl,rfl⟩
  ·exact hret _ (hSu _ _ _ h2) hn
  ·exact hexit i _ (hSu _ _ _ h2) hn
end Go.Hx
namespace Go.Proofs
open Go.Hx
def tf (x:NodeP):AVal:=.agg [.lit (.int .i64 x.card),.vec x.parents.length (ints x.parents),aj x.rows]
def ot (rows:List (List Int)):List (List AVal):=rows.zipIdx.map fun p=>[aa p.2,af p.1]
theorem DD {rows:List (List Int)}{k:Nat}{x:List AVal}(h:(ot rows)[k]?=some x):∃r,rows[k]?=some r/\x=[aa k,af r]:=by
 unfold ot at h;rw[List.getElem?_map,Uz]at h;cases hr:rows[k]? with
 |none=>rw[hr]at h;simp at h
 |some r=>rw[hr]at h;simp at h;exact⟨r,rfl,h.symm⟩
theorem QK {rows:List (List Int)}{k:Nat}{r:List Int}(h:rows[k]?=some r):(ot rows)[k]?=some [aa k,af r]:=by
 unfold ot;rw[List.getElem?_map,Uz,h];simp
theorem DE (rows:List (List Int)):(ot rows).length=rows.length:=by simp[ot]
theorem QL (x:NodeP)(hl:(x.rows.length:Int)<2 ^ 40)(b:Nat):vT Tryz.prog G0 165 [] [.ptr b 0 0] (ot x.rows) (fun H=>H.get b=some (.arr 0 87 [.lit (.int .i64 x.card),.vec x.parents.length (ints x.parents),aj x.rows])):=by
 intro idy J Stop H K hS hJ0 hY hK hSt;have l0:=ah (hS 0 H hJ0);show ag _ _ _ ([.yld idy]++[.ptr b 0 0]) _ _;refine ag.st (n:=19) (rs:=[]) Tryz.func165 ?_;simp only[go_sem,l0,aj];refine W.aG 524056 (by rfl) (fun ρ H'=>∃k:Nat,ρ 8=aa k/\k<=x.rows.length/\J k H'/\H.next<=H'.next) (fun ρ H=>x.rows.length-(iv (ρ 8)).toNat) ?_ ?_
 ·simp only[go_sem];exact⟨0,rfl,by omega,hJ0⟩
 rintro ρ H' ⟨k,h8,hk,hj,hn⟩;refine W.vs ?_;by_cases hb:(k:Int)<x.rows.length
 ·obtain⟨r,hr⟩:=get_of_lt (l:=x.rows) (i:=k) (by omega);have hne:=aJ hr;have w1:=SF ((k:Int)+1) (by omega);simp only[go_sem,h8,hb,hr,hne];refine hY k [aa k,af r] H' _ (QK hr) hj hn (fun H2 hj2 hn2=>⟨trivial,?_⟩) (fun H2 hs2 hn2=>⟨trivial,?_⟩)
  ·simp only[go_sem,h8,w1];exact⟨by omega,⟨k+1,by simp,by omega,hj2,by omega⟩,by omega⟩
  ·simp only[go_sem];exact ar.mk (by omega) (hSt H2 hs2 (by omega))
 ·simp only[go_sem,h8,hb];have ek:k=(ot x.rows).length:=by rw[DE];omega
  subst ek;exact ar.mk (by omega) (hK H' hj hn)
theorem QM (x:NodeP)(H:AHeap)(K:ARes->AHeap->Prop)(hK:K (.ret (.clo 165 [] [.ptr H.next 0 0])) (ext H [.arr 0 87 [.lit (.int .i64 x.card),.vec x.parents.length (ints x.parents),aj x.rows]])):
  ag Tryz.prog G0 159 [tf x] H K:=by
 refine ag.st (n:=4) (rs:=[.tmp 2]) Tryz.func159 ?_;simp only[go_sem,tf];exact ar.mk (by simp[aS]) hK
theorem yK {l:List Int}{g:Int}(h:∀w∈l,0<=w):0<=l.sum:=by
 induction l with
 |nil=>simp
 |cons a l ih =>
  have h1:=ih fun w hw=>h w (by simp[hw]);have h2:=h a (by simp);simp only[Uv];omega
theorem yL {l:List Int}(h:∀w∈l,0<=w):∀w∈l,w<=l.sum:=by
 induction l with
 |nil=>intro w hw;cases hw
 |cons a l ih =>
  intro w hw;have h1:=yK (g:=0) fun w hw=>h w (UN a hw);have h2:=h a (by simp);simp only[Uv];rcases List.mem_cons.1 hw with rfl|hw
  ·omega
  ·have:=ih (fun w hw=>h w (by simp[hw])) w hw;omega
noncomputable def lZ (g:Int)(ns:List NodeP)(x:NodeP):Bool:=@decide (fO g ns x) (Classical.propDecidable _)
theorem DF {g:Int}{ns:List NodeP}{x:NodeP}(h:fO g ns x):lZ g ns x=true:=by unfold lZ;exact @decide_eq_true _ (Classical.propDecidable _) h
theorem QN {g:Int}{ns:List NodeP}{x:NodeP}(h:¬fO g ns x):lZ g ns x=false:=by unfold lZ;exact @decide_eq_false _ (Classical.propDecidable _) h
theorem QO {g:Int}{ns:List NodeP}{x:NodeP}:lZ g ns x=true↔fO g ns x:=by unfold lZ;exact @decide_eq_true_iff _ (Classical.propDecidable _)
theorem QP (g:Int)(hg:1<=g/\g<=60)(ns:List NodeP)(sets:List Nat)(x:NodeP)(hin:eF x.parents ns.length)(hsm:cY (aP ns x))(hx1:(x.rows.length:Int)<2 ^ 38)(hx2:∀r∈x.rows,(r.length:Int)<2 ^ 38)(H:AHeap)(K:ARes->AHeap->Prop)
  (hK:K (.ret (.lit (.bool (lZ g ns x)))) H):ag Tryz.prog G0 146 [.agg [.lit (.int .i64 g),cE ns,af (ak ns),iq sets,.lit (.slice none 0 0)],tf x] H K:=by
 refine ag.clo ⟨_,Tryz.func146,rfl,rfl⟩ fun hcl=>?_;have l12:=hsm.1;have pl:(aP ns x).length=x.parents.length:=gJ _ _;have no:¬fO g ns x->∀H',Over H H'->ar Tryz.prog G0 H K (.lit (.bool false)) H':=fun h H' ov=>ar.aV aE hcl ov (.lit _) (by rw[QN h]at hK;exact hK);refine ag.st (n:=66) (rs:=[.cell 4 4]) Tryz.func146 ?_;simp only[go_sem,cE,tf];obtain⟨H1,hH1⟩:∃H1,H1=ext H [.arr 0 201 [.lit (.int .i64 g),.vec ns.length (aF ns),.vec (ak ns).length (ints (ak ns)),.vec sets.length (sets.map bP),.lit (.slice none 0 0)],.arr 0 87 [.lit (.int .i64 x.card),.vec x.parents.length (ints x.parents),aj x.rows],.arr 0 4 [.lit (.bool false)]]:=⟨_,rfl⟩
 have l1:H1.live H.next 0=some (201,[.lit (.int .i64 g),.vec ns.length (aF ns),.vec (ak ns).length (ints (ak ns)),.vec sets.length (sets.map bP),.lit (.slice none 0 0)]):=by rw[hH1];exact ah (cq ..)
 have l2:H1.live (H.next+1) 0=some (87,[.lit (.int .i64 x.card),.vec x.parents.length (ints x.parents),aj x.rows]):=by rw[hH1];exact ah (bD H _ 1 (by simp))
 have g3:=gE hH1 2 rfl
 have n1:H1.next=H.next+3:=hH1▸rfl
 have o1:Over H H1:=hH1▸.ext _ _
 rw[<- hH1];refine W.aG 268370080 (by rfl) (fun ρ H'=>H'=H1/\∃k:Nat,ρ 16=aa k/\k<=x.parents.length/\ρ 5=aa (ao ((aP ns x).take k))) (fun ρ H=>x.parents.length-(iv (ρ 16)).toNat) ?_ ?_
 ·simp only[go_sem];exact⟨0,rfl,by omega,by simp[gm]⟩
 rintro ρ H' ⟨rfl,k,h16,hk,h5⟩;refine W.vs ?_;by_cases hb:(k:Int)<x.parents.length
 ·obtain⟨q,hq⟩:=get_of_lt (l:=x.parents) (i:=k) (by omega);obtain⟨j,rfl,y,hy⟩:=lO (l:=ns) (hin q (SE hq)).1 (hin q (SE hq)).2;have hne2:=aJ hq;have hyc:=dm hy;have hne3:=aJ hyc;have hj:(j:Int)<(ak ns).length:=by have:=get_lt hyc;omega
  have pk:(aP ns x)[k]?=some y.card:=by
   rw[show (aP ns x)[k]?=_ from lj hq,Int.toNat_natCast,bp hyc]
  have b1:=(hsm.take (k+1)).prod;rw[aL pk,eQ]at b1;have w1:=SF ((k:Int)+1) (by omega);have w2:=SF (ao ((aP ns x).take k)*y.card) (by omega);simp only[go_sem,h16,h5,l1,hb,hq,hne2,hj,hyc,hne3,w1,w2];exact⟨⟨k+1,by simp,by omega,by rw[aL pk,eQ]⟩,by omega⟩
 rw[SH (by omega)]at h5;by_cases c1:(x.rows.length:Int)=ao (aP ns x);rotate_left
 ·simp only[go_sem,h16,h5,l2,hb,c1,aj];have l3:=ah g3;simp only[go_sem,l3];exact no (fun h=>c1 h.1) _ (o1.upd (by omega) _)
 simp only[go_sem,h16,h5,l2,hb,c1,aj];refine aw.clo (QM x _ _ ⟨trivial,?_⟩);simp only[go_sem];obtain⟨H2,hH2⟩:∃H2,H2=ext H' [.arr 0 87 [.lit (.int .i64 x.card),.vec x.parents.length (ints x.parents),aj x.rows]]:=⟨_,rfl⟩
 rw[<- hH2];have o2:Over H' H2:=by rw[hH2];exact .ext _ _
 have n2:H2.next=H.next+4:=by rw[hH2,aS,n1];rfl
 have hbx:H2.get H'.next=some (.arr 0 87 [.lit (.int .i64 x.card),.vec x.parents.length (ints x.parents),aj x.rows]):=by rw[hH2];exact bX
 refine W.env fun E hE=>?_;have e2:E 2=.ptr H.next 0 0:=by rw[hE];simp only[go_sem]
 have e3:E 3=.ptr (H.next+1) 0 0:=by rw[hE];simp only[go_sem]
 have e4:E 4=.ptr (H.next+2) 0 0:=by rw[hE];simp only[go_sem]
 have i1:H2.live H.next 0=some (201,[.lit (.int .i64 g),.vec ns.length (aF ns),.vec (ak ns).length (ints (ak ns)),.vec sets.length (sets.map bP),.lit (.slice none 0 0)]):=(o2.live (by omega)).trans l1;have i2:H2.live (H.next+1) 0=some (87,[.lit (.int .i64 x.card),.vec x.parents.length (ints x.parents),aj x.rows]):=(o2.live (by omega)).trans l2;have i3:H2.get (H.next+2)=some (.arr 0 4 [.lit (.bool false)]):=(o2.old _ (by omega)).trans g3;refine W.mc (f:=165) (first:=[]) (cap:=[.ptr H'.next 0 0]) (by show E 34=_;rw[hE];rfl) (QL x (by omega) H'.next)
  (fun k Hx=>Over H2 Hx/\∀r∈x.rows.take k,jz g x.card r) (fun c Hx=>c=.ret/\Over H Hx/\H.next+4<=Hx.next/\Hx.get (H.next+2)=some (.arr 0 4 [.lit (.bool false)])/\¬fO g ns x)
  (fun k Hx h=>by rw[h.1.old _ (by omega)];exact hbx) (fun k Hx b h=>⟨h.1.upd (Nat.le_refl _) b,h.2⟩) (fun c Hx b h=>⟨h.1,h.2.1.upd (by omega) b,h.2.2.1,by rw[ae,SI (by omega)];exact h.2.2.2.1,h.2.2.2.2⟩)
  (fun b=>⟨.ext _ _,by simp⟩) (by decide) (fun y hy=>by
   obtain⟨k,hk⟩:=SW.1 hy;obtain⟨r,_,rfl⟩:=DD hk;rfl) (fun _ _ _=>trivial) (fun _ _ _=>trivial) (fun k y Hx B Bb hy hj hn hB hBb=>?_) (fun Hx hj hn=>?_) (fun Hx hs hn=>?_) (fun i Hx hs hn=>by cases hs.1)
 ·obtain⟨r,hr,rfl⟩:=DD hy;refine W.vs ?_;simp only[go_sem,fV,bA,ir,Ts,TS,Tx,Tz,hB];obtain⟨H3,hH3⟩:∃H3,H3=Hx.upd H2.next Bb:=⟨_,rfl⟩
  rw[<- hH3];obtain⟨st,pd,n',en,ps',as',bo,hBe⟩:=hBb;have o3:Over H2 H3:=by rw[hH3];exact hj.1.upd (Nat.le_refl _) Bb
  have o4:Over H H3:=(o1.trans o2).trans o3;have n3:H3.next=Hx.next:=by rw[hH3];rfl
  have j1:=(o3.live (g:=0) (by omega:H.next<H2.next)).trans i1;have j2:=(o3.live (g:=0) (by omega:H.next+1<H2.next)).trans i2;have j3:=(o3.old _ (by omega:H.next+2<H2.next)).trans i3;have j4:=ah j3;have jB:H3.get H2.next=some Bb:=by rw[hH3,ae,SK rfl]
  have nB:¬H2.next=H.next+2:=by omega
  have hrm:=SE hr;have hrl:=hx2 r hrm;have nope:¬jz g x.card r->¬fO g ns x:=fun h h'=>h (h'.2 r hrm);have stop:¬jz g x.card r->(H3.upd (H.next+2) (Blk.arr 0 4 [.lit (.bool false)])).get H2.next=some Bb/\Hx.next<=(H3.upd (H.next+2) (Blk.arr 0 4 [.lit (.bool false)])).next/\Over H (H3.upd (H.next+2) (Blk.arr 0 4 [.lit (.bool false)])) /\
    H.next+4<=(H3.upd (H.next+2) (Blk.arr 0 4 [.lit (.bool false)])).next/\(H3.upd (H.next+2) (Blk.arr 0 4 [.lit (.bool false)])).get (H.next+2)=some (.arr 0 4 [.lit (.bool false)])/\¬fO g ns x:=fun h =>
   ⟨by rw[ae,SI nB];exact jB,by rw[au];omega,o4.upd (by omega) _,by rw[au];omega,by rw[ae,SK rfl],nope h⟩
  refine W.vs ?_;simp only[go_sem,bA,e2,j1];refine W.aG 144110790029349888 (by rfl) (fun ρ2 H4=>H4=H3/\∃i:Nat,ρ2 42=aa i/\i<=r.length/\(∀w∈r.take i,0<=w)/\(r.take i).sum<=g/\ρ2 10=aa (g-(r.take i).sum)) (fun ρ2 H=>r.length-(iv (ρ2 42)).toNat) ?_ ?_
  ·simp only[go_sem];exact⟨0,rfl,by omega,by simp,by simp;omega,by simp⟩
  rintro ρ2 H4 ⟨rfl,i,h42,hi,hw0,hws,h10⟩;refine W.vs ?_;have s0:=yK (g:=g) hw0;by_cases hb2:(i:Int)<r.length
  ·obtain⟨a,ha⟩:=get_of_lt (l:=r) (i:=i) (by omega);have ham:=SE ha;have hane:=aJ ha;by_cases d1:a<0
   ·simp only[go_sem,h42,hb2,ha,hane,d1,bA,e4,j4,ep];exact stop fun h=>by have:=h.2.1 a ham;omega
   by_cases d2:a > g-(r.take i).sum
   ·simp only[go_sem,h42,h10,hb2,ha,hane,d1,d2,bA,e4,j4,ep];refine stop fun h=>?_;have h1:r.sum=(r.take (i+1)).sum+(r.drop (i+1)).sum:=(by rw[<- Vl,Tl]);rw[aL ha,vF]at h1;have h2:=yK (g:=g) (l:=r.drop (i+1)) fun w hw=>(h.2.1 w (T3 hw)).1;have:=h.2.2;omega
   have w1:=SF ((i:Int)+1) (by omega);have w2:=SF (g-(r.take i).sum-a) (by omega);simp only[go_sem,h42,h10,hb2,ha,hane,d1,d2,w1,w2,bA];refine⟨⟨_,_,_,_,_,_,_,by rw[jB,hBe]⟩,⟨i+1,by simp,by omega,fun w hw=>?_,by rw[aL ha,vF];omega,?_⟩,by omega⟩
   ·rw[aL ha]at hw;rcases S5.1 hw with hw|hw
    ·exact hw0 w hw
    ·obtain rfl:=List.mem_singleton.1 hw;omega
   ·rw[aL ha,vF];show aa _=aa _;congr 1;omega
  ·rw[SH (by omega)]at hw0 hws h10 s0;by_cases d1:(r.length:Int)=x.card;rotate_left
   ·simp only[go_sem,h42,hb2,d1,bA,e3,e4,j2,j4,ep];exact stop fun h=>d1 h.1
   have hb2':¬(i:Int)<x.card:=(by omega);by_cases d2:g-r.sum=0;rotate_left
   ·simp only[go_sem,h42,h10,hb2',d1,d2,bA,e3,e4,j2,j4,ep];exact stop fun h=>by have:=h.2.2;omega
   simp only[go_sem,h42,h10,hb2',d1,d2,bA,e3,j2,ep];refine⟨jB,by omega,o3,fun y hy=>?_⟩;rw[aL hr]at hy;rcases S5.1 hy with hy|hy
   ·exact hj.2 y hy
   ·obtain rfl:=List.mem_singleton.1 hy;exact⟨d1,fun w hw=>⟨hw0 w hw,by have:=yL hw0 w hw;omega⟩,by omega⟩
 ·have hok:fO g ns x:=⟨c1,by
   have:=hj.2;rw[DE,TC]at this;exact this⟩
  have j4:=ah ((hj.1.old _ (by omega:H.next+2<H2.next)).trans i3);rw[DF hok]at hK;simp only[go_sem,e4,j4];exact ar.aV aE hcl (((o1.trans o2).trans hj.1).upd (by omega) _) (.lit _) hK
 ·obtain⟨_,o4,n4,g4,hno⟩:=hs;have j4:=ah g4;simp only[go_sem,e4,j4];exact no hno _ o4
end Go.Proofs
