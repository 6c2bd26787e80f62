/-
  Closed facts of this seat's types. Laid by a program of ours.
-/
import Derived.Test.YtjhbjbninamhnaaGreatProg
import Derived.Test.YtjhbjbninamhnaaGreatLibC
import Derived.Test.YtjhbjbninamhnaaGreatLibB
set_option linter.all false
set_option maxHeartbeats 8000000
namespace Go.Proofs
open Go.Hx
variable {i z:Nat}{α:Type}
def Tryz.mixed:Tryz.prog.follows .mixedOrders=true:=W7
def Tryz.fm:Tryz.prog.cellsOf 3=1:=W7
def Tryz.fM:Tryz.prog.bytesOf 3=8:=W7
def Tryz.fq:bU Tryz.prog 3=some [.lit (.int .i64 0)]:=W7
def Tryz.Bn:Tryz.prog.cellsOf 4=1:=W7
def Tryz.LG:Tryz.prog.bytesOf 4=1:=W7
def Tryz.LH:bU Tryz.prog 4=some [.lit (.bool false)]:=W7
def Tryz.sr:Tryz.prog.cellsOf 5=1:=W7
def Tryz.LI:Tryz.prog.bytesOf 5=1:=W7
def Tryz.LJ:bU Tryz.prog 5=some [.lit (.int .u8 0)]:=W7
def Tryz.Bo:Tryz.prog.cellsOf 22=1:=W7
def Tryz.yb:Tryz.prog.cellsOf 23=1:=W7
def Tryz.Bp:Tryz.prog.cellsOf 25=3:=W7
def Tryz.LK:bK Tryz.prog 25 0=some (0,5):=W7
def Tryz.LL:bK Tryz.prog 25 1=some (1,22):=W7
def Tryz.LM:bK Tryz.prog 25 2=some (2,23):=W7
def Tryz.Bq:Tryz.prog.cellsOf 26=1:=W7
def Tryz.LN:Tryz.prog.cellsOf 28=6:=W7
def Tryz.LO:bK Tryz.prog 28 0=some (0,25):=W7
def Tryz.LP:bK Tryz.prog 28 1=some (3,5):=W7
def Tryz.LR:bK Tryz.prog 28 2=some (4,4):=W7
def Tryz.LS:bK Tryz.prog 28 3=some (5,26):=W7
def Tryz.LU:Tryz.prog.cellsOf 33=1:=W7
def Tryz.LV:bU Tryz.prog 33=some [.lit (.slice none 0 0)]:=W7
def Tryz.LW:Tryz.prog.cellsOf 34=1:=W7
def Tryz.Br:Tryz.prog.cellsOf 35=1:=W7
def Tryz.Bs:Tryz.prog.bytesOf 35=8:=W7
def Tryz.Bt:bU Tryz.prog 35=some [.lit (.int .u64 0)]:=W7
def Tryz.LX:Tryz.prog.cellsOf 36=1:=W7
def Tryz.LY:Tryz.prog.cellsOf 38=4:=W7
def Tryz.LZ:bU Tryz.prog 38=some [.lit (.int .i64 0),.lit (.slice none 0 0),.lit (.int .u64 0),.lit (.slice none 0 0)]:=W7
def Tryz.L3:iR Tryz.prog 38=some [(0,1),(1,1),(2,1),(3,1)]:=W7
def Tryz.L4:bK Tryz.prog 38 0=some (0,3):=W7
def Tryz.L5:bK Tryz.prog 38 1=some (1,34):=W7
def Tryz.L6:bK Tryz.prog 38 2=some (2,35):=W7
def Tryz.L7:bK Tryz.prog 38 3=some (3,36):=W7
def Tryz.L8:Tryz.prog.cellsOf 41=2:=W7
def Tryz.L9:bU Tryz.prog 41=some [.lit (.int .i64 0),.lit (.int .i64 0)]:=W7
def Tryz.Ma:iR Tryz.prog 41=some [(0,1),(1,1)]:=W7
def Tryz.Mb:bK Tryz.prog 41 0=some (0,3):=W7
def Tryz.Mc:bK Tryz.prog 41 1=some (1,3):=W7
def Tryz.Md:Tryz.prog.cellsOf 42=1:=W7
def Tryz.Me:bU Tryz.prog 42=some [.lit (.int .i64 0)]:=W7
def Tryz.uH:Tryz.prog.cellsOf 46=1:=W7
def Tryz.uI:Tryz.prog.bytesOf 46=24:=W7
def Tryz.uJ:bU Tryz.prog 46=some [.lit (.slice none 0 0)]:=W7
def Tryz.Bu:Tryz.prog.cellsOf 73=3:=W7
def Tryz.Bv:Tryz.prog.bytesOf 73=56:=W7
def Tryz.Bw:bU Tryz.prog 73=some [.lit (.int .i64 0),.lit (.slice none 0 0),.lit (.slice none 0 0)]:=W7
def Tryz.Mf:iR Tryz.prog 73=some [(0,1),(1,1),(2,1)]:=W7
def Tryz.Mg:bK Tryz.prog 73 0=some (0,3):=W7
def Tryz.Mh:bK Tryz.prog 73 1=some (1,46):=W7
def Tryz.Mi:bK Tryz.prog 73 2=some (2,33):=W7
def Tryz.Bx:Tryz.prog.cellsOf 77=1:=W7
def Tryz.Mj:Tryz.prog.bytesOf 77=1:=W7
def Tryz.Mk:bU Tryz.prog 77=some [.lit (.int .i8 0)]:=W7
def Tryz.By:Tryz.prog.cellsOf 78=1:=W7
def Tryz.yc:Tryz.prog.cellsOf 80=2:=W7
def Tryz.Ml:bU Tryz.prog 80=some [.lit (.int .u8 0),.lit (.slice none 0 0)]:=W7
def Tryz.Mm:iR Tryz.prog 80=some [(0,1),(1,1)]:=W7
def Tryz.Mn:bK Tryz.prog 80 0=some (0,5):=W7
def Tryz.Mo:bK Tryz.prog 80 1=some (1,78):=W7
def Tryz.Bz:Tryz.prog.cellsOf 82=2:=W7
def Tryz.BA:Tryz.prog.bytesOf 82=48:=W7
def Tryz.BB:bU Tryz.prog 82=some [.lit (.slice none 0 0),.lit (.slice none 0 0)]:=W7
def Tryz.Mp:iR Tryz.prog 82=some [(0,1),(1,1)]:=W7
def Tryz.Mq:bK Tryz.prog 82 0=some (0,46):=W7
def Tryz.Mr:bK Tryz.prog 82 1=some (1,46):=W7
def Tryz.Ms:Tryz.prog.cellsOf 103=2:=W7
def Tryz.Mt:bU Tryz.prog 103=some [.lit (.int .i64 0),.lit (.slice none 0 0)]:=W7
def Tryz.Mu:iR Tryz.prog 103=some [(0,1),(1,1)]:=W7
def Tryz.Mv:bK Tryz.prog 103 0=some (0,3):=W7
def Tryz.Mw:bK Tryz.prog 103 1=some (1,34):=W7
def Tryz.Mx:Tryz.prog.cellsOf 106=1:=W7
def Tryz.My:Tryz.prog.cellsOf 110=1:=W7
def Tryz.Mz:bU Tryz.prog 110=some [.lit (.pointer none)]:=W7
def Tryz.MA:Tryz.prog.cellsOf 128=1:=W7
def Tryz.MB:bU Tryz.prog 130=some [.lit (.int .i64 0),.lit (.slice none 0 0),.lit (.int .u64 0),.lit (.slice none 0 0),.lit (.slice none 0 0),.lit (.slice none 0 0),.lit (.slice none 0 0),.lit (.int .i64 0)]:=W7
def Tryz.MC:iR Tryz.prog 130=some [(0,4),(4,1),(5,1),(6,1),(7,1)]:=W7
def Tryz.MD:bK Tryz.prog 130 0=some (0,38):=W7
def Tryz.ME:bK Tryz.prog 130 1=some (4,128):=W7
def Tryz.MF:bK Tryz.prog 130 2=some (5,46):=W7
def Tryz.MG:bK Tryz.prog 130 3=some (6,46):=W7
def Tryz.MH:bK Tryz.prog 130 4=some (7,3):=W7
def Tryz.MI:Tryz.prog.cellsOf 136=1:=W7
def Tryz.MJ:Tryz.prog.cellsOf 147=3:=W7
def Tryz.MK:bU Tryz.prog 147=some [.lit (.int .i64 0),.lit (.slice none 0 0),.lit (.slice none 0 0)]:=W7
def Tryz.ML:iR Tryz.prog 147=some [(0,2),(2,1)]:=W7
def Tryz.MM:bK Tryz.prog 147 0=some (0,103):=W7
def Tryz.MN:bK Tryz.prog 147 1=some (2,36):=W7
def Tryz.MO:Tryz.prog.cellsOf 149=1:=W7
def Tryz.MP:Tryz.prog.cellsOf 150=1:=W7
def Tryz.MQ:Tryz.prog.cellsOf 162=3:=W7
def Tryz.MR:bU Tryz.prog 162=some [.lit (.slice none 0 0),.lit (.int .u16 0),.lit (.slice none 0 0)]:=W7
def Tryz.MS:iR Tryz.prog 162=some [(0,1),(1,1),(2,1)]:=W7
def Tryz.MT:bK Tryz.prog 162 0=some (0,23):=W7
def Tryz.MU:bK Tryz.prog 162 2=some (2,23):=W7
def Tryz.BC:Tryz.prog.cellsOf 165=3:=W7
def Tryz.MV:bU Tryz.prog 165=some [.lit (.int .u8 0),.lit (.int .u8 0),.lit (.slice none 0 0)]:=W7
def Tryz.MW:bK Tryz.prog 165 0=some (0,5):=W7
def Tryz.MX:bK Tryz.prog 165 1=some (1,5):=W7
def Tryz.MY:bK Tryz.prog 165 2=some (2,23):=W7
def Tryz.BD:Tryz.prog.cellsOf 170=1:=W7
def Tryz.BE:Tryz.prog.bytesOf 170=8:=W7
def Tryz.BG:bU Tryz.prog 170=some [.lit (.pointer none)]:=W7
def Tryz.MZ:Tryz.prog.cellsOf 171=1:=W7
def Tryz.M0:bU Tryz.prog 171=some [.lit (.slice none 0 0)]:=W7
def Tryz.M1:bU Tryz.prog 173=some [.lit (.int .i64 0),.lit (.int .i64 0),.lit (.slice none 0 0),.lit (.slice none 0 0),.lit (.slice none 0 0),.lit (.slice none 0 0),.lit (.slice none 0 0)]:=W7
def Tryz.M3:iR Tryz.prog 173=some [(0,1),(1,1),(2,1),(3,1),(4,1),(5,1),(6,1)]:=W7
def Tryz.M4:bK Tryz.prog 173 0=some (0,3):=W7
def Tryz.M5:bK Tryz.prog 173 1=some (1,3):=W7
def Tryz.M6:bK Tryz.prog 173 2=some (2,46):=W7
def Tryz.M7:bK Tryz.prog 173 3=some (3,171):=W7
def Tryz.M8:bK Tryz.prog 173 4=some (4,46):=W7
def Tryz.M9:bK Tryz.prog 173 5=some (5,46):=W7
def Tryz.Na:bK Tryz.prog 173 6=some (6,46):=W7
def Tryz.Nb:Tryz.prog.cellsOf 209=5:=W7
def Tryz.Nc:bU Tryz.prog 209=some [.lit (.int .i64 0),.lit (.slice none 0 0),.lit (.slice none 0 0),.lit (.slice none 0 0),.lit (.slice none 0 0)]:=W7
def Tryz.Nd:iR Tryz.prog 209=some [(0,2),(2,1),(3,1),(4,1)]:=W7
def Tryz.Nf:bK Tryz.prog 209 0=some (0,103):=W7
def Tryz.Ng:bK Tryz.prog 209 1=some (2,46):=W7
def Tryz.Nh:bK Tryz.prog 209 2=some (3,106):=W7
theorem Tryz.Ni:bK Tryz.prog 209 3=some (4,46):=W7
attribute [go_sem] Tryz.underlying3 Tryz.fm Tryz.fM Tryz.fq Tryz.underlying4 Tryz.Bn Tryz.LG Tryz.LH Tryz.underlying5 Tryz.sr Tryz.LI Tryz.LJ
attribute [go_sem] Tryz.underlying9 Tryz.underlying22 Tryz.Bo Tryz.underlying23 Tryz.yb
attribute [go_sem] Tryz.underlying24 Tryz.underlying25 Tryz.Bp
attribute [go_sem] Tryz.LK Tryz.LL Tryz.LM Tryz.underlying26 Tryz.Bq Tryz.underlying27
attribute [go_sem] Tryz.underlying28 Tryz.LN Tryz.LO Tryz.LP
attribute [go_sem] Tryz.LR Tryz.LS Tryz.underlying29 Tryz.underlying30
attribute [go_sem] Tryz.underlying31
attribute [go_sem] Tryz.underlying32
attribute [go_sem] Tryz.underlying33 Tryz.LU Tryz.LV Tryz.underlying34 Tryz.LW Tryz.underlying35 Tryz.Br Tryz.Bs Tryz.Bt
attribute [go_sem] Tryz.underlying36 Tryz.LX Tryz.underlying37
attribute [go_sem] Tryz.underlying38 Tryz.LY Tryz.LZ Tryz.L3 Tryz.L4 Tryz.L5 Tryz.L6 Tryz.L7 Tryz.underlying40
attribute [go_sem] Tryz.underlying41 Tryz.L8 Tryz.L9 Tryz.Ma Tryz.Mb Tryz.Mc
attribute [go_sem] Tryz.underlying42 Tryz.Md Tryz.Me Tryz.underlying46 Tryz.uH Tryz.uI Tryz.uJ Tryz.underlying48
attribute [go_sem] Tryz.underlying50 Tryz.underlying61 Tryz.underlying63
attribute [go_sem] Tryz.underlying72 Tryz.underlying73 Tryz.Bu Tryz.Bv Tryz.Bw
attribute [go_sem] Tryz.Mf Tryz.Mg Tryz.Mh Tryz.Mi Tryz.underlying77 Tryz.Bx Tryz.Mj Tryz.Mk Tryz.underlying78 Tryz.By
attribute [go_sem] Tryz.underlying79 Tryz.underlying80 Tryz.yc Tryz.Ml Tryz.Mm
attribute [go_sem] Tryz.Mn Tryz.Mo Tryz.underlying81 Tryz.underlying82 Tryz.Bz Tryz.BA
attribute [go_sem] Tryz.BB Tryz.Mp Tryz.Mq Tryz.Mr Tryz.underlying87 Tryz.underlying88
attribute [go_sem] Tryz.underlying98 Tryz.underlying102 Tryz.underlying103
attribute [go_sem] Tryz.Ms Tryz.Mt Tryz.Mu Tryz.Mv Tryz.Mw Tryz.underlying106 Tryz.Mx Tryz.underlying110 Tryz.My
attribute [go_sem] Tryz.Mz Tryz.underlying117 Tryz.underlying128 Tryz.MA Tryz.underlying129
attribute [go_sem] Tryz.underlying130 Tryz.MB
attribute [go_sem] Tryz.MC Tryz.MD Tryz.ME Tryz.MF Tryz.MG Tryz.MH Tryz.underlying136 Tryz.MI Tryz.underlying146
attribute [go_sem] Tryz.underlying147 Tryz.MJ Tryz.MK Tryz.ML Tryz.MM Tryz.MN
attribute [go_sem] Tryz.underlying149 Tryz.MO Tryz.underlying150 Tryz.MP Tryz.underlying160
attribute [go_sem] Tryz.underlying161 Tryz.underlying162 Tryz.MQ Tryz.MR
attribute [go_sem] Tryz.MS Tryz.MT Tryz.MU Tryz.underlying164
attribute [go_sem] Tryz.underlying165 Tryz.BC Tryz.MV Tryz.MW Tryz.MX Tryz.MY Tryz.underlying170 Tryz.BD Tryz.BE Tryz.BG
attribute [go_sem] Tryz.underlying171 Tryz.MZ Tryz.M0 Tryz.underlying172
attribute [go_sem] Tryz.underlying173 Tryz.M1 Tryz.M3 Tryz.M4 Tryz.M5 Tryz.M6
attribute [go_sem] Tryz.M7 Tryz.M8 Tryz.M9 Tryz.Na Tryz.underlying208
attribute [go_sem] Tryz.underlying209 Tryz.Nb Tryz.Nc Tryz.Nd Tryz.Nf Tryz.Ng Tryz.Nh Tryz.Ni Tryz.underlying212
attribute [go_sem] Tryz.underlying215 Tryz.underlying219 Tryz.underlying230
def aO (l:List (List Int)):W9:=.M l.length (l.map ah)
structure Xl where
 L:Int
 F:List Int
 nn:List (List Int)
structure Xm where
 vars:List Int
 w:List Int
def Xl.cells (x:Xl):List W9:=[aa x.L,ah x.F,aO x.nn]
def Xm.cells (x:Xm):List W9:=[ah x.vars,ah x.w]
def aE (l:List Xl):List W9:=(l.map Xl.cells).flatten
def aZ (l:List Xm):List W9:=(l.map Xm.cells).flatten
def dL (l:List Xl):W9:=.M l.length (aE l)
def uK (l:List Xm):W9:=.M l.length (aZ l)
def dk (g:Int)(l:List Xl):W9:=.agg [aa g,dL l]
structure Xa where
 Y:Int
 C:List Xl
 U:Nat
 V:List Xm
def eC (d:Xa):W9:=.agg [aa d.Y,dL d.C,.lit (.int .u64 (d.U:Int)),uK d.V]
def jU {f:α->List W9}(hz:∀a,(f a).length=z):∀(l:List α) (i j:Nat) (a:α),l[i]?=some a->j<z->((l.map f).flatten)[i*z+j]?=(f a)[j]?:=by
 intro l
 induction l with
 |nil=>intro i j a h;simp at h
 |cons x l ih =>
  intro i j a h hj;simp only[List.map_cons,List.flatten_cons];cases i with
  |zero =>
   simp only[List.getElem?_cons_zero,Option.some.injEq]at h;subst h;rw[UR,Nat.zero_add,Ta (by rw[hz];exact hj)]
  |succ i =>
   have:(i+1)*z+j=z+(i*z+j):=(by rw[TJ];omega);rw[this,Tu (by rw[hz];omega),hz];have:z+(i*z+j)-z=i*z+j:=O;rw[this];exact ih i j a (by simpa using h) hj
def kK {f:α->List W9}(hz:∀a,(f a).length=z)(l:List α):((l.map f).flatten).length=l.length*z:=by
 induction l with
 |nil=>simp
 |cons x l ih=>simp only[List.map_cons,List.flatten_cons,List.length_append,ih,hz,List.length_cons];rw[TJ];omega
def nS {f:α->List W9}(hz:∀a,(f a).length=z):∀(l:List α) (i:Nat) (a:α),l[i]?=some a->(((l.map f).flatten).drop (i*z)).take z=f a:=by
 intro l i a h;apply Ts;intro j;by_cases hj:j<z
 ·rw[TL hj,T9,jU hz l i j a h hj]
 ·rw[SX (by simp;omega),SX (by rw[hz];omega)]
def kL (l:List Xl):(aE l).length=l.length*3:=kK (f:=Xl.cells) (fun _=>rfl) l
variable {l:List Xl}{x:Xl}
def jV (h:l[i]?=some x):(aE l)[i*3]?=some (aa x.L):=jU (f:=Xl.cells) (z:=3) (fun _=>rfl) l i 0 x h (O)
def mB (h:l[i]?=some x):(aE l)[i*3+1]?=some (ah x.F):=jU (f:=Xl.cells) (z:=3) (fun _=>rfl) l i 1 x h (O)
def BH (h:l[i]?=some x):(aE l)[i*3+2]?=some (aO x.nn):=jU (f:=Xl.cells) (z:=3) (fun _=>rfl) l i 2 x h (O)
def oY (h:l[i]?=some x):((aE l).drop (i*3)).take 3=[aa x.L,ah x.F,aO x.nn]:=nS (f:=Xl.cells) (z:=3) (fun _=>rfl) l i x h
def eV (h:l[i]?=some x):¬aE l=[]:=fun e=>by
 have:=jV h;rw[e]at this;simp at this
def yd (l:List Xm):(aZ l).length=l.length*2:=kK (f:=Xm.cells) (fun _=>rfl) l
def Nj {l:List Xm}{x:Xm}(h:l[i]?=some x):(aZ l)[i*2]?=some (ah x.vars):=jU (f:=Xm.cells) (z:=2) (fun _=>rfl) l i 0 x h (O)
def ye {l:List Xm}{x:Xm}(h:l[i]?=some x):((aZ l).drop (i*2)).take 2=[ah x.vars,ah x.w]:=nS (f:=Xm.cells) (z:=2) (fun _=>rfl) l i x h
def yg {l:List Xm}{x:Xm}(h:l[i]?=some x):¬aZ l=[]:=fun e=>by
 have:=Nj h;rw[e]at this;simp at this
def aI {l:List α}{x:α}(h:l[i]?=some x):i<l.length:=by
 rcases Tg i l.length with h'|h'
 ·exact h'
 ·rw[SX h']at h;cases h
def aq {l:List α}(h:i<l.length):∃x,l[i]?=some x:=⟨_,SP h⟩
def lP {l:List α}{i:Int}(h0:0<=i)(h:i<l.length):∃k:Nat,i=k/\∃x,l[k]?=some x:=⟨i.toNat,O,aq O⟩
def aA (l:List Int):Int:=l.foldl (·*·) 1
def BI (l:List Int)(a:Int):l.foldl (·*·) a=a*aA l:=by
 unfold aA
 induction l generalizing a with
 |nil=>simp
 |cons x l ih=>simp only[TF];rw[ih,ih (1*x),VG,UA]
def gQ:aA []=1:=rfl
def iD (x:Int)(l:List Int):aA (x :: l)=x*aA l:=by
 show List.foldl _ (1*x) l=_;rw[BI,VG]
def uL (l l':List Int):aA (l++l')=aA l*aA l':=by
 unfold aA;rw[TZ,BI];rfl
def fZ (l:List Int)(x:Int):aA (l++[x])=aA l*x:=by rw[uL,iD,gQ,W3]
def aU {l:List α}{k:Nat}{x:α}(h:l[k]?=some x):l.take (k+1)=l.take k++[x]:=by
 rw[V9,h];rfl
def fu {l:List Int}(h:∀x∈l,1<=x):1<=aA l:=by
 induction l with
 |nil=>decide
 |cons x l ih =>
  rw[iD];have h1:=ih fun y hy=>h y (by simp[hy]);have h2:=h x W5;have:=Uu h2 h1 O O;simpa using this
def nU {b:Int}{l:List Int}(hb:0<=b)(h:∀x∈l,0<=x/\x<=b):0<=aA l/\aA l<=b ^ l.length:=by
 induction l with
 |nil=>exact⟨W6,by simp[aA]⟩
 |cons x l ih =>
  rw[iD];have h1:=ih fun y hy=>h y (by simp[hy]);have h2:=h x W5;refine⟨Um h2.1 h1.1,?_⟩;have:=Uu h2.2 h1.2 h1.1 hb;rw[List.length_cons,US,TN (b ^ l.length)];exact this
def aj (l:List Xl):List Int:=l.map (·.L)
def aB (l places:List Int):List Int:=places.map fun p=>l.getD p.toNat 0
def cw (places:List Int)(n:Int):Prop:=places.Pairwise (·<·)/\∀p∈places,0<=p/\p<n
end Go.Proofs
set_option maxRecDepth 100000
namespace Go.Proofs
open Go.Hx
def G0:Nat->Option (List W9):=xX
def aH:fK G0:=K8
end Go.Proofs
namespace Go.Hx
variable {P:Program} {G:Nat->Option (List W9)} {Γ Γ':aC} {H H':Xn} {w w':World}
variable {c:Code}{ρ:Env}{n:Nat}{rd:Option Nat}
def W.env {Q:AX->St->Prop}{H:Xn}(h:∀E,E=ρ->W P G n rd c Q ⟨E,H⟩):W P G n rd c Q ⟨ρ,H⟩:=h ρ rfl
def W.en {Q:AX->St->Prop}{H:Xn}(p:Env->Prop)(hp:p ρ)(h:∀E,p E->W P G n rd c Q ⟨E,H⟩):W P G n rd c Q ⟨ρ,H⟩:=h ρ hp
def Below.mono {m:Nat}{v:W9}(h:Below n v)(hm:n<=m):Below m v:=by
 induction h with
 |lit v=>exact .lit v
 |M h ih=>exact .M ih
 |nf h ih=>exact .nf ih
 |agg h ih=>exact .agg ih
 |na h ih=>exact .na ih
 |Z h1 h2 ih1 ih2=>exact .Z ih1 ih2
 |Q h=>exact .Q (O)
 |R h=>exact .R (O)
 |ni h=>exact .ni (O)
theorem Ef (H:Xn)(op:BinOp)(a:List W9)(y:W9):kD H op (.agg a) y=none:=by unfold kD;split<;>rfl
attribute [go_sem] Ef
def iw {l:List W9}{i:Nat}{x:W9}(h:i<l.length):setAt l i [x]=l.set i x:=by
 unfold setAt;rw[V4,SU h];simp
def Xb.iO {B H:Xn}(h:Xb B H)(hn:B.A<=n):Xb B (H.cut n):=⟨h.A,fun id hi=>(uD O).trans (h.nl id hi)⟩
section
variable {t:TypeId} {x y:Operand} {k k':IntKind} {a b:Int}
def tv (hb:0<=b):bn P .shr t x y (.lit (.int k a)) (.lit (.int k' b))=some (.lit (.int k (a.fdiv (2 ^ (min b.toNat k.bits))))):=by
 have h:¬b<0:=O
 simp[bn,W9.cW,eqGuard,binOp,Op.shift,h,bC,bind,Sem.bind,pure]
def zB (hb:0<=b):bn P .shl t x y (.lit (.int k a)) (.lit (.int k' b))=some (.lit (.int k (k.wrap (a*2 ^ (min b.toNat k.bits))))):=by
 have h:¬b<0:=O
 simp[bn,W9.cW,eqGuard,binOp,Op.shift,h,bC,bind,Sem.bind,pure]
def tw:bn P .and t x y (.lit (.int k a)) (.lit (.int k b))=some (.lit (.int k (k.wrap ((BitVec.ofInt k.bits a &&& BitVec.ofInt k.bits b).toNat:Nat)))):=by
 simp[bn,W9.cW,eqGuard,binOp,Op.intBits,bC,bind,Sem.bind,pure]
def Rz:bn P .or t x y (.lit (.int k a)) (.lit (.int k b))=some (.lit (.int k (k.wrap ((BitVec.ofInt k.bits a |||BitVec.ofInt k.bits b).toNat:Nat)))):=by
 simp[bn,W9.cW,eqGuard,binOp,Op.intBits,bC,bind,Sem.bind,pure]
def RA:bn P .andNot t x y (.lit (.int k a)) (.lit (.int k b))=some (.lit (.int k (k.wrap ((BitVec.ofInt k.bits a &&& ~~~ BitVec.ofInt k.bits b).toNat:Nat)))):=by
 simp[bn,W9.cW,eqGuard,binOp,Op.intBits,bC,bind,Sem.bind,pure]
def bJ (m:Nat):W9:=.lit (.int .u64 (m:Int))
def iP (a b:Nat):Nat:=(BitVec.ofNat 64 a &&& ~~~ BitVec.ofNat 64 b).toNat
def wu {m:Nat}(h:m<2 ^ 64):(BitVec.ofInt 64 (m:Int)).toNat=m:=by rw[BitVec.ofInt_natCast,BitVec.toNat_ofNat,Vh h]
def Eg (a b:Nat):iP a b<2 ^ 64:=(BitVec.isLt _)
def zC {a b i:Nat}(ha:a<2 ^ 64):(iP a b).testBit i=(a.testBit i && !b.testBit i):=by
 unfold iP;by_cases hi:i<64
 ·rw[<- BitVec.getLsbD,BitVec.getLsbD_and,BitVec.getLsbD_not,BitVec.getLsbD_ofNat,BitVec.getLsbD_ofNat];simp[hi]
 ·have h1:a.testBit i=false:=VT (SZ ha (Ti W6 O));rw[h1,<- BitVec.getLsbD,BitVec.getLsbD_of_ge _ _ O];rfl
def wy {m:Nat}(h:m<2 ^ 64):IntKind.u64.wrap (m:Int)=m:=Ut _ (O)
def wz {a b:Nat}(ha:a<2 ^ 64)(hb:b<2 ^ 64):bn P .and t x y (.lit (.int .u64 (a:Int))) (.lit (.int .u64 (b:Int)))=some (.lit (.int .u64 ((a &&& b:Nat):Int))):=by
 rw[tw];have e:(BitVec.ofInt (IntKind.bits .u64) (a:Int) &&& BitVec.ofInt (IntKind.bits .u64) (b:Int)).toNat=a &&& b:=by
  show (BitVec.ofInt 64 _ &&& BitVec.ofInt 64 _).toNat=_;rw[BitVec.toNat_and,wu ha,wu hb]
 rw[e,wy (V3 Nat.and_le_left ha)]
def kv {a b:Nat}(ha:a<2 ^ 64)(hb:b<2 ^ 64):bn P .or t x y (.lit (.int .u64 (a:Int))) (.lit (.int .u64 (b:Int)))=some (.lit (.int .u64 ((a |||b:Nat):Int))):=by
 rw[Rz];have e:(BitVec.ofInt (IntKind.bits .u64) (a:Int) |||BitVec.ofInt (IntKind.bits .u64) (b:Int)).toNat=a |||b:=by
  show (BitVec.ofInt 64 _ |||BitVec.ofInt 64 _).toNat=_;rw[BitVec.toNat_or,wu ha,wu hb]
 rw[e,wy (UO ha hb)]
def zD {a b:Nat}:bn P .andNot t x y (.lit (.int .u64 (a:Int))) (.lit (.int .u64 (b:Int)))=some (.lit (.int .u64 ((iP a b:Nat):Int))):=by
 rw[RA];have e:(BitVec.ofInt (IntKind.bits .u64) (a:Int) &&& ~~~ BitVec.ofInt (IntKind.bits .u64) (b:Int)).toNat=iP a b:=by
  show (BitVec.ofInt 64 _ &&& ~~~ BitVec.ofInt 64 _).toNat=_;rw[BitVec.ofInt_natCast,BitVec.ofInt_natCast];rfl
 rw[e,wy (Eg a b)]
def mi {a s:Nat}(ha:a<2 ^ 64):bn P .shr t x y (.lit (.int .u64 (a:Int))) (.lit (.int k' (s:Int)))=some (.lit (.int .u64 ((a >>> s:Nat):Int))):=by
 rw[tv O,Int.toNat_natCast];have e:(a:Int).fdiv (2 ^ (min s (IntKind.bits .u64)))=((a >>> s:Nat):Int):=by
  rw[Wr _ (by exact_mod_cast Uh _),VN];show (a:Int) / 2 ^ (min s 64)=_;rcases Nat.le_total s 64 with h|h
  ·rw[U0 h];push_cast;rfl
  ·rw[Nat.min_eq_right h];have h1:a / 2 ^ s=0:=Ux (SZ ha (Ti W6 h));rw[h1];exact UY O (O)
 rw[e]
def ni {s:Nat}(hs:s<64):bn P .shl t x y (.lit (.int .u64 1)) (.lit (.int k' (s:Int)))=some (.lit (.int .u64 ((2 ^ s:Nat):Int))):=by
 rw[zB O,Int.toNat_natCast];have e:min s (IntKind.bits .u64)=s:=U0 (by show s<=64;omega);have h2:2 ^ s<2 ^ 64:=Ui W6 hs;rw[e,VG];have h3:((2:Int) ^ s)=((2 ^ s:Nat):Int):=by push_cast;rfl
 rw[h3,wy h2]
def nj {a s:Nat}(ha:a<2 ^ 64):bn P .and t x y (.lit (.int .u64 ((a >>> s:Nat):Int))) (.lit (.int .u64 1))=some (.lit (.int .u64 (if a.testBit s then 1 else 0))):=by
 have h1:a >>> s<2 ^ 64:=V3 (Nat.shiftRight_le _ _) ha;have:=wz (P:=P) (t:=t) (x:=x) (y:=y) (a:=a >>> s) (b:=1) h1 W6;rw[show (((1:Nat):Int))=1 from rfl]at this;rw[this,Nat.and_one_is_mod];congr 3;rw[Nat.testBit,Nat.and_comm,Nat.and_one_is_mod];rcases Nat.mod_two_eq_zero_or_one (a >>> s) with h|h<;>rw[h]<;>rfl
end
end Go.Hx
namespace Go.Proofs
open Go.Hx
variable {a b c n v:Int}{cs l:List Int}{i j k:Nat}{α:Type}
def cV (H:Xn)(b:Xe)(L:List Xe):(ext H (b :: L)).get H.A=some b:=bL H (b :: L) 0 (W5)
def zE (l:List Int)(n:Nat):(ints l).take n=ints (l.take n):=by simp[ints]
def zF (l:List Int)(n:Nat):(ints l).drop n=ints (l.drop n):=by simp[ints]
def aM {l:List α}{a:α}(h:l[i]?=some a):¬l=[]:=by rintro rfl;simp at h
def gU {x:Int}(h:i<l.length):setAt (ints l) i [.lit (.int .i64 x)]=ints (l.set i x):=by
 rw[iw (by simpa[ints] using h)];simp[ints,aa]
def zG (w:Bool):rW w (some (.lit undef))=some false:=rfl
def aV (ns:List Xl)(x:Xl):List Int:=aB (aj ns) x.F
def bG:List Int->List Int->Int
 |_ :: cs,v :: vs=>v*aA cs+bG cs vs
 |_,_=>0
def bH:List Int->Int->List Int
 | [],_=>[]
 |c :: cs,i=>i / aA cs % c :: bH cs i
def uM (cs:List Int)(i:Int):(bH cs i).length=cs.length:=by
 induction cs with
 |nil=>rfl
 |cons c cs ih=>simp[bH,ih]
def Nk {l:List α}{a:α}(h:l[k]?=some a):l.drop k=a :: l.drop (k+1):=by
 rw[TI (aI h)];congr 1;have:=SP (aI h);rw[h]at this;exact(Option.some.inj this).symm
def yh (h:∀c∈cs,1<=c)(i:Int):∀(k:Nat) (c v:Int),cs[k]?=some c->(bH cs i)[k]?=some v->0<=v/\v<c:=by
 induction cs with
 |nil=>intro k c v h;simp at h
 |cons a cs ih =>
  intro k c v h1 h2;cases k with
  |zero =>
   simp only[bH,List.getElem?_cons_zero,Option.some.injEq]at h1 h2;subst h1;subst h2;have:=h a W5;exact⟨VH _ O,UZ _ O⟩
  |succ k =>
   simp only[bH,List.getElem?_cons_succ]at h1 h2;exact ih (fun c hc=>h c (by simp[hc])) k c v h1 h2
def bI (cs vs:List Int):Prop:=vs.length=cs.length/\∀(k:Nat) (c v:Int),cs[k]?=some c->vs[k]?=some v->0<=v/\v<c
def bI.tail {vs:List Int}(h:bI (c :: cs) (v :: vs)):bI cs vs:=⟨by simpa using h.1,fun k c v h1 h2=>h.2 (k+1) c v (by simpa using h1) (by simpa using h2)⟩
def bI.head {vs:List Int}(h:bI (c :: cs) (v :: vs)):0<=v/\v<c:=h.2 0 c v W5 (W5)
def bI.pos {vs:List Int}(h:bI cs vs):∀c∈cs,1<=c:=fun c hc=>by
 obtain⟨k,hk⟩:=SY.1 hc;obtain⟨v,hv⟩:=aq (l:=vs) (i:=k) (by rw[h.1];exact aI hk);have:=h.2 k c v hk hv;omega
def oZ (h:∀c∈cs,1<=c)(i:Int):bI cs (bH cs i):=⟨uM cs i,yh h i⟩
def kM:∀ {cs vs:List Int},bI cs vs->0<=bG cs vs/\bG cs vs<aA cs:=by
 intro cs
 induction cs with
 |nil=>intro vs _;cases vs<;>(simp[bG,gQ])
 |cons c cs ih =>
  intro vs h;cases vs with
  |nil=>exact absurd h.1 (W5)
  |cons v vs =>
   have h1:=ih h.tail;have h2:=h.head;have hp:1<=aA cs:=fu fun x hx=>h.pos x (by simp[hx]);rw[iD];simp only[bG];have h3:0<=v*aA cs:=Um h2.1 O;have h4:(v+1)*aA cs<=c*aA cs:=UT O O;rw[V2,VG]at h4;omega
def ss:∀ {cs vs:List Int},bI cs vs->bH cs (bG cs vs)=vs:=by
 have key:∀(cs:List Int) (i a c:Int),(∀x∈cs,1<=x)->bH cs (a*aA cs*c+i)=bH cs i:=by
  intro cs
  induction cs with
  |nil=>intros;rfl
  |cons x cs ih =>
   intro i a c h;have hx:=h x W5;have hp:1<=aA cs:=fu fun y hy=>h y (by simp[hy]);simp only[bH,iD];have e1:a*(x*aA cs)*c+i=i+aA cs*(x*(a*c)):=by
    rw[VM];congr 1;ac_rfl
   have e2:a*(x*aA cs)*c+i=a*aA cs*(x*c)+i:=(by congr 1;ac_rfl);congr 1
   ·rw[e1,Int.add_mul_ediv_left _ _ O,Int.add_mul_emod_self_left]
   ·rw[e2];exact ih i a (x*c) fun y hy=>h y (by simp[hy])
 intro cs
 induction cs with
 |nil=>intro vs h;cases vs with
  |nil=>rfl
  |cons=>exact absurd h.1 (W5)
 |cons c cs ih =>
  intro vs h;cases vs with
  |nil=>exact absurd h.1 (W5)
  |cons v vs =>
   have hp:1<=aA cs:=fu fun x hx=>h.pos x (by simp[hx]);have hr:=kM h.tail;have h2:=h.head;simp only[bG,bH];congr 1
   ·rw[VM,Vt _ _ O,UY hr.1 hr.2,VY,Vw h2.1 h2.2]
   ·have:=key cs (bG cs vs) v 1 fun x hx=>h.pos x (by simp[hx]);rw[W3]at this;rw[this];exact ih h.tail
def Nm (i m n:Int)(hm:0<m)(hn:0<n):i % (m*n)=i % m+m*(i / m % n):=by
 have h1:=VZ i (m*n);have h2:=VZ i m;have h3:=VZ (i / m) n;have h4:i / m / n=i / (m*n):=Int.ediv_ediv_of_nonneg O;rw[h4]at h3;have h5:m*(i / m)=m*(i / m % n)+m*n*(i / (m*n)):=by
  conv=>lhs;rw[<- h3]
  rw[U7,UA]
 omega
def yi (h:∀c∈cs,1<=c):∀ {i:Int},0<=i->i<aA cs->bG cs (bH cs i)=i:=by
 have:∀(cs:List Int) (i:Int),(∀c∈cs,1<=c)->bG cs (bH cs i)=i % aA cs:=by
  intro cs
  induction cs with
  |nil=>intro i _;simp[bG,bH,gQ]
  |cons c cs ih =>
   intro i h;have hp:1<=aA cs:=fu fun x hx=>h x (by simp[hx]);simp only[bG,bH];rw[ih i fun x hx=>h x (by simp[hx]),iD,TN c,Nm _ _ _ (by omega:0<aA cs) (by have:=h c W5;omega)];rw[TN];omega
 intro i h0 h1;rw[this cs i h,Vw h0 h1]
def eW (cs vs:List Int):Int:=(cs.zip vs).foldl (fun a p=>a*p.1+p.2) 0
def No:∀(cs vs:List Int),vs.length=cs.length->∀a,(cs.zip vs).foldl (fun a p=>a*p.1+p.2) a=a*aA cs+bG cs vs:=by
 intro cs
 induction cs with
 |nil=>intro vs _ a;simp[gQ,bG]
 |cons c cs ih =>
  intro vs h a;cases vs with
  |nil=>simp at h
  |cons v vs =>
   simp only[TV,TF];rw[ih vs (by simpa using h),iD];simp only[bG];rw[V2,UA];omega
def qw {vs:List Int}(h:vs.length=cs.length):eW cs vs=bG cs vs:=by
 unfold eW;rw[No cs vs h];omega
def qx {vs:List Int}(h1:cs[k]?=some c)(h2:vs[k]?=some v):eW (cs.take (k+1)) (vs.take (k+1))=eW (cs.take k) (vs.take k)*c+v:=by
 unfold eW;rw[aU h1,aU h2,List.zip_append (by have:=aI h1;have:=aI h2;simp;omega),TZ];rfl
def kO:List Int->List Int->Option (List Int)
 |c :: cs,v :: vs=>match kO cs vs with
  |some ws=>some (v :: ws)
  |none=>if v+1<c then some ((v+1) :: cs.map fun _=>0) else none
 |_,_=>none
def BJ (h:∀c∈cs,1<=c):bH cs 0=cs.map fun _=>0:=by
 induction cs with
 |nil=>rfl
 |cons c cs ih=>simp[bH,ih fun x hx=>h x (by simp[hx])]
def Np:∀ {cs vs:List Int},bI cs vs->kO cs vs=if bG cs vs+1<aA cs then some (bH cs (bG cs vs+1)) else none:=by
 intro cs
 induction cs with
 |nil=>intro vs h;cases vs with
  |nil=>simp[kO,bG,gQ]
  |cons=>exact absurd h.1 (W5)
 |cons c cs ih =>
  intro vs h;cases vs with
  |nil=>exact absurd h.1 (W5)
  |cons v vs =>
   have hpos:∀x∈cs,1<=x:=fun x hx=>h.pos x (by simp[hx]);have hp:1<=aA cs:=fu hpos;have hr:=kM h.tail;have h2:=h.head;have hv:=ss h.tail;simp only[kO,ih h.tail,bG,iD];by_cases hb:bG cs vs+1<aA cs
   ·rw[SU hb];have h4:(v+1)*aA cs<=c*aA cs:=UT O O;rw[V2,VG]at h4;have hlt:v*aA cs+bG cs vs+1<c*aA cs:=O;rw[SU hlt];simp only[bH];have g1:v=(v*aA cs+bG cs vs+1) / aA cs % c:=by
     rw[Int.add_assoc,VM,Vt _ _ O,UY O hb,VY,Vw h2.1 h2.2]
    have g2:bH cs (bG cs vs+1)=bH cs (v*aA cs+bG cs vs+1):=by
     have e:bG cs vs+1=bG cs (bH cs (bG cs vs+1)):=(yi hpos O hb).symm;have f:bI (c :: cs) (v :: bH cs (bG cs vs+1)):=⟨by simp[uM],fun k c' v' h1 h3=>by
      cases k with
      |zero=>simp at h1 h3;subst h1;subst h3;exact h2
      |succ k=>exact yh hpos _ k c' v' (by simpa using h1) (by simpa using h3)⟩
     have:=ss f;simp only[bG,bH,List.cons.injEq]at this;rw[<- e]at this;rw[Int.add_assoc];exact this.2.symm
    rw[<- g1,<- g2]
   ·rw[SQ hb];have hi:bG cs vs+1=aA cs:=O;have e1:v*aA cs+bG cs vs+1=(v+1)*aA cs:=(by rw[V2];omega);rw[e1];by_cases hc:v+1<c
    ·rw[SU hc];have h4:(v+1)*aA cs<c*aA cs:=Int.mul_lt_mul_of_pos_right hc O;rw[SU h4];simp only[bH];congr 1;congr 1
     ·rw[Int.mul_ediv_cancel _ O,Vw O hc]
     ·have f:bI (c :: cs) ((v+1) :: bH cs 0):=⟨by simp[uM],fun k c' v' h1 h3=>by
       cases k with
       |zero=>simp at h1 h3;subst h1;subst h3;omega
       |succ k=>exact yh hpos _ k c' v' (by simpa using h1) (by simpa using h3)⟩
      have:=ss f;simp only[bG,bH,List.cons.injEq]at this;rw[yi hpos (Int.le_refl 0) O,UU]at this;rw[this.2,BJ hpos]
    ·rw[SQ hc];have h4:c*aA cs<=(v+1)*aA cs:=UT O O;rw[SQ O]
def dR (l:List Int):Prop:=l.length<=12/\∀x∈l,0<=x/\x<=8
def dR.prod (h:dR l):0<=aA l/\aA l<=68719476736:=by
 have h1:=nU (b:=8) O h.2;have h2:(8:Int) ^ l.length<=8 ^ 12:=by
  have:(8:Nat) ^ l.length<=8 ^ 12:=Ti W6 h.1
  exact_mod_cast this
 exact⟨h1.1,VL h1.2 h2⟩
theorem dR.take (h:dR l)(k:Nat):dR (l.take k):=⟨by have:=h.1;simp;omega,fun x hx=>h.2 x (Tj hx)⟩
theorem dR.drop (h:dR l)(k:Nat):dR (l.drop k):=⟨by have:=h.1;simp;omega,fun x hx=>h.2 x (UM hx)⟩
def PP (l:List Int)(hl:dR l)(H:Xn)(K:Xd->Xn->Prop)(hK:K (.ret (aa (aA l))) H):ae Tryz.prog G0 100 [ah l] H K:=by
 have l12:=hl.1;refine ae.st (n:=18) (rs:=[.tmp 2]) Tryz.func100 ?_;simp only[go_sem];refine W.aP 131064 (by rfl) (fun ρ H'=>H'=H/\∃k:Nat,ρ 4=aa k/\k<=l.length/\ρ 3=aa (aA (l.take k))) (fun ρ H=>l.length-(iv (ρ 4)).toNat) ?_ ?_
 ·simp only[go_sem];exact⟨0,rfl,O,by simp[gQ]⟩
 rintro ρ H' ⟨rfl,k,h4,hk,h3⟩;refine W.vs ?_;by_cases hb:(k:Int)<l.length
 ·obtain⟨c,hc⟩:=aq (l:=l) (i:=k) O;have hne:=aM hc;have b1:=(hl.take (k+1)).prod;rw[aU hc,fZ]at b1;simp only[go_sem,h4,h3,hb,hc,hne];rw[SN ((k:Int)+1) O,SN (_*c) O];exact⟨⟨k+1,W5,O,by rw[aU hc,fZ]⟩,O⟩
 ·simp only[go_sem,h4,h3,hb];rw[SR O];exact ar.mk W8 hK
def Dp (x:List Int)(hx:(x.length:Int)<2 ^ 40)(H:Xn)(K:Xd->Xn->Prop)(hK:K (.ret (ah x)) H):ae Tryz.prog G0 49 [ah x] H K:=by
 refine ae.Z ⟨_,Tryz.func49,rfl,rfl⟩ fun hc=>?_;refine ae.st (n:=8) (rs:=[.tmp 2]) Tryz.func49 ?_;simp only[go_sem];intro b hlen;cases b with
 |true =>
  have hx0:x=[]:=S3 (by
   by_cases h:0<x.length
   ·have:=hlen (by simpa using h);cases this
   ·omega)
  simp only[go_sem];subst hx0;exact ar.Jt aH hc .xK hK
 |false =>
  by_cases h0:x.length=0
  ·have hx0:x=[]:=S3 h0;subst hx0;simp only[go_sem,aJ];refine⟨⟨rfl,rfl⟩,ar.drop (v':=ah []) aH hc ?_ hK⟩;exact .ints W8 (cV ..) rfl fun i hi=>absurd hi (Tb _)
  ·simp only[go_sem,h0,aJ];refine⟨⟨rfl,O,O,lK x⟩,ar.drop aH hc ?_ hK⟩;exact .ints W8 (cV ..) rfl fun i hi=>by simp[eG,hi]
instance placesDec (l:List Int)(n:Int):Decidable (cw l n):=by unfold cw;infer_instance
theorem cw.nil :cw [] n:=⟨.nil,fun _ h=>by cases h⟩
theorem cw.take (h:cw l n)(k:Nat):cw (l.take k) n:=⟨h.1.sublist (List.take_sublist k l),fun p hp=>h.2 p (Tj hp)⟩
def cw.snoc (h:cw l n)(ha:0<=a/\a<n)(hl:∀b,l.getLast?=some b->b<a):cw (l++[a]) n:=by
 refine⟨UL.2 ⟨h.1,W5,fun x hx y hy=>?_⟩,fun p hp=>?_⟩
 ·obtain rfl:=List.mem_singleton.1 hy;rcases U4 l with rfl|⟨l',b,rfl⟩
  ·cases hx
  ·have hb:=hl b W5;simp only[U5]at hx h;rcases Tk.1 hx with hx|hx
   ·have:=(UL.1 h.1).2.2 x hx b W5;omega
   ·obtain rfl:=List.mem_singleton.1 hx;exact hb
 ·rcases Tk.1 hp with hp|hp
  ·exact h.2 p hp
  ·obtain rfl:=List.mem_singleton.1 hp;exact ha
def cw.lt (h:cw l n)(ha:l[i]?=some a)(hb:l[j]?=some b)(hij:i<j):a<b:=by
 have:=UK.1 h.1 i j (aI ha) (aI hb) hij;have e1:=SP (aI ha);have e2:=SP (aI hb);rw[ha]at e1;rw[hb]at e2;rw[Option.some.inj e1,Option.some.inj e2];exact this
def cw.len (h:cw l n):(l.length:Int)<=max n 0:=by
  -- the k-th place is at least k
 have key:∀(k:Nat) (a:Int),l[k]?=some a->(k:Int)<=a:=by
  intro k
  induction k with
  |zero=>intro a ha;have:=h.2 a (an ha);omega
  |succ k ih =>
   intro a ha;obtain⟨b,hb⟩:=aq (l:=l) (i:=k) (by have:=aI ha;omega);have:=ih b hb;have:=h.lt hb ha O;omega
 rcases T7 l.length with h0|h0
 ·omega
 ·obtain⟨a,ha⟩:=aq (l:=l) (i:=l.length-1) O;have h1:=key _ a ha;have h2:=h.2 a (an ha);omega
def vG (h:l[j]?=some b):(l.take (j+1)).getLast?=some b:=by rw[aU h];simp
def Dq (l:List Int)(n:Int)(hl:(l.length:Int)<2 ^ 62)(H:Xn)(K:Xd->Xn->Prop)(hK:K (.ret (.lit (.bool (decide (cw l n))))) H):ae Tryz.prog G0 146 [ah l,aa n] H K:=by
 have no:¬cw l n->ar Tryz.prog G0 H K (.lit (.bool false)) H:=fun h=>ar.mk W8 (by rw[T4 h]at hK;exact hK);refine ae.st (n:=24) (rs:=[.tmp 4]) Tryz.func146 ?_;simp only[go_sem];refine W.aP 16776368 (by rfl) (fun ρ H'=>H'=H/\∃(k:Nat) (b:Int),ρ 10=aa k/\k<=l.length/\ρ 5=aa b/\cw (l.take k) n/\(l.take k).getLast?.getD (-1)=b) (fun ρ H=>l.length-(iv (ρ 10)).toNat) ?_ ?_
 ·simp only[go_sem];exact⟨0,-1,rfl,O,rfl,.nil,rfl⟩
 rintro ρ H' ⟨rfl,k,b,h10,hk,h5,hp,hbl⟩;refine W.vs ?_;by_cases hb:(k:Int)<l.length
 ·obtain⟨a,ha⟩:=aq (l:=l) (i:=k) O;have hne:=aM ha;have ham:=an ha;by_cases c1:a<=b
  ·simp only[go_sem,h10,h5,hb,ha,hne,c1];refine no fun h=>?_;have h0:=h.2 a ham;rcases T7 k with rfl|hk0
   ·simp at hbl;omega
   ·obtain⟨j,rfl⟩:∃j,k=j+1:=⟨k-1,O⟩
    obtain⟨b',hbj⟩:=aq (l:=l) (i:=j) O;rw[vG hbj]at hbl;have:=h.lt hbj ha O;simp at hbl;omega
  by_cases c2:a >= n
  ·simp only[go_sem,h10,h5,hb,ha,hne,c1,c2];exact no fun h=>by have:=h.2 a ham;omega
  have w1:=SN ((k:Int)+1) O;simp only[go_sem,h10,h5,hb,ha,hne,c1,c2,w1];have h0:0<=a:=by
   rcases hg:(l.take k).getLast? with _|b'
   ·rw[hg]at hbl;simp at hbl;omega
   ·rw[hg]at hbl;have:=hp.2 b' (WM hg);simp at hbl;omega
  refine⟨⟨k+1,a,W5,O,rfl,?_,by rw[vG ha];rfl⟩,O⟩;rw[aU ha];exact hp.snoc ⟨h0,O⟩ fun b' hb'=>by rw[hb']at hbl;simp at hbl;omega
 ·simp only[go_sem,h10,hb];rw[SR O]at hp;rw[Ty hp]at hK;exact ar.mk W8 hK
end Go.Proofs
namespace Go.Hx
variable {g id:Nat}{H H':Xn}
theorem Xb.X (h:Xb H H')(hi:id<H.A):H'.X id g=H.X id g:=by
 unfold Xn.X;rw[h.nl id hi]
theorem Xb.upd (h:Xb H H')(hi:H.A<=id)(b:Xe):Xb H (H'.upd id b):=⟨h.A,fun j hj=>by rw[ag,SQ O];exact h.nl j hj⟩
def Eh {e:TypeId}{c:List W9}:(H.upd id (.J g e c)).X id g=some (e,c):=af (by rw[ag,SU rfl])
def kx {j:Nat}{b:Xe}(h:j≠id):(H.upd id b).X j g=H.X j g:=by unfold Xn.X;rw[ag,SQ h]
attribute [go_sem] Eh
@[go_sem] theorem SM (a b:Array TypeId)(c:Bool)(n:Nat)(cells:List W9)(off:Nat):mA (some (.func a b c)) n cells off=cells[off]?:=rfl
end Go.Hx
namespace Go.Proofs
open Go.Hx
variable {c l:List Int}{ps:List Nat}{a i id k m n t:Nat}{v:W9}{H H':Xn}
def lX {H2:Xn}{e:TypeId}{cs:List W9}(ov:Xb H H')(h:aD H.A H' e v cs)(hn:H'.A<=H2.A)(hp:∀k,k<H'.A->(∀g n,v≠.Q k g 0 n 1)->H2.get k=H'.get k):Xb H H2 :=
 ⟨Tw ov.A hn,fun id hi=>by
  rw[hp id (SZ hi ov.A) fun g n he=>?_,ov.nl id hi];rcases h with ⟨h,_⟩|⟨i2,g2,a1,_,h,_⟩
  ·rw[h]at he;cases he
  ·rw[h]at he;have:=W9.Q.inj he;omega⟩
def mj (x:Int)(ov:Xb H H')(h:aD H.A H' 3 v (ints l))(hl:l.length<2 ^ 40):
  ∃v' H2,bT Tryz.prog (ext H' [.J 0 3 [.lit (.int .i64 x)]]) (H'.A+1) 46 46 v (.Q H'.A 0 0 1 1)=some (v',H2)/\Xb H H2/\aD H.A H2 3 v' (ints (l++[x]))/\H'.A<=H2.A/\(∀k,k<H'.A->(∀g n,v≠.Q k g 0 n 1)->H2.get k=H'.get k):=by
 obtain⟨v',H2,hA,hO,hn2,hp⟩:=iT (P:=Tryz.prog) (H:=H') (t:=46) (x:=aa x) (n:=H'.A+1) Tryz.underlying46 Tryz.fm Tryz.fq rfl (by rw[Tryz.fM,aS];omega) h ov.A rfl;simp only[aa]at hA;exact⟨v',H2,hA,lX ov h hn2 hp,by simpa[ints,aa] using hO,hn2,hp⟩
def RB (l:List (List Int)):(aO l).one=true:=rfl
def RC (l:List (List Int)):(aO l).cells=[aO l]:=rfl
def RD (l:List Xl):(dL l).one=true:=rfl
def RE (l:List Xl):(dL l).cells=[dL l]:=rfl
def RF (l:List Xm):(uK l).one=true:=rfl
theorem RG (l:List Xm):(uK l).cells=[uK l]:=rfl
attribute [go_sem] RB RC RD RE RF RG
structure XB (H H':Xn)(id:Nat)(c:List Int):Prop where
 ov:Xb H H'
 lo:H.A<=id
 hi:id<H'.A
 get:H'.get id=some (.J 0 3 (ints c))
theorem XB.X (h:XB H H' id c):H'.X id 0=some (3,ints c):=af h.get
def XB.RH (h:XB H H' id c)(L:List Xe):(ext H' L).X id 0=some (3,ints c):=by rw[c9 h.hi];exact h.X
def XB.ne (h:XB H H' id c):¬id=H'.A:=by have:=h.hi;omega
def XB.over {H2:Xn}(h:XB H H' id c)(o:Xb H' H2):XB H H2 id c:=⟨h.ov.trans o,h.lo,SZ h.hi o.A,(o.nl id h.hi).trans h.get⟩
def XB.store (h:XB H H' id c)(hk:k<c.length)(x:Int):XB H (H'.upd id (.J 0 3 (setAt (ints c) k [.lit (.int .i64 x)]))) id (c.set k x) :=
 ⟨⟨h.ov.A,fun i hi=>by rw[ag,SQ (by have:=h.lo;omega)];exact h.ov.nl i hi⟩,h.lo,h.hi,by rw[ag,SU rfl,gU hk]⟩
def XB.RI (h:XB H H' id c)(L:List Xe)(hk:k<c.length)(x:Int):XB H ((ext H' L).upd id (.J 0 3 (setAt (ints c) k [.lit (.int .i64 x)]))) id (c.set k x) :=
 (h.over (.ext H' L)).store hk x
def XB.new (L:List Xe)(n:Nat):XB H (ext H (.J 0 3 (List.replicate n (.lit (.int .i64 0))) :: L)) H.A (List.replicate n 0) :=
 ⟨.ext _ _,W8,by simp[aX],by rw[cV];simp[ints,aa]⟩
def XB.fin {K:Xd->Xn->Prop}(hcl:XN H)(h:XB H H' id c)(hn:n=c.length)(hK:K (.ret (ah c)) H):ar Tryz.prog G0 H K (.Q id 0 0 n 1) H':=by
 subst hn;refine ar.bE aH hcl h.ov ?_ hK;exact .ints h.lo h.get W5 fun i hi=>by simp[eG,hi]
def Ei {m:List Int}{x:Int}(h:l.take k=m.take k)(hk:k<l.length)(hx:m[k]?=some x):(l.set k x).take (k+1)=m.take (k+1):=by
 rw[aU hx,aU (show (l.set k x)[k]?=some x by rw[Te hk]),VE (Nat.le_refl k),h]
def bq {α:Type}{l:List α}{a d:α}(h:l[i]?=some a):l.getD i d=a:=by rw[SV,h];rfl
def PQ {places:List Int}{p:Int}(h:places[k]?=some p):aB l (places.take (k+1))=aB l (places.take k)++[l.getD p.toNat 0]:=by
 unfold aB;rw[aU h];simp
def cC {ns:List Xl}{x:Xl}(h:ns[k]?=some x):(aj ns)[k]?=some x.L:=by unfold aj;rw[List.getElem?_map,h];rfl
def cZ (ns:List Xl):(aj ns).length=ns.length:=by simp[aj]
def PR (g:Int)(ns:List Xl)(hl:(ns.length:Int)<2 ^ 39)(H:Xn)(K:Xd->Xn->Prop)(hK:K (.ret (ah (aj ns))) H):ae Tryz.prog G0 56 [dk g ns] H K:=by
 refine ae.Z ⟨_,Tryz.func56,rfl,rfl⟩ fun hcl=>?_;refine ae.st (n:=22) (rs:=[.tmp 2]) Tryz.func56 ?_;simp only[go_sem,dk,dL];obtain⟨H1,hH1⟩:∃H1,H1=ext H [.J 0 103 [.lit (.int .i64 g),.M ns.length (aE ns)]]:=⟨_,rfl⟩
 have l1:H1.X H.A 0=some (103,[.lit (.int .i64 g),.M ns.length (aE ns)]):=by rw[hH1];exact af (cV ..)
 have n1:H1.A=H.A+1:=hH1▸rfl
 have o1:Xb H H1:=hH1▸.ext _ _
 rw[<- hH1];refine W.aP 2097144 (by rfl) (fun ρ H'=>∃k:Nat,ρ 4=aa k/\k<=ns.length/\ρ 1=.R H.A 0 0/\Xb H1 H'/\aD H1.A H' 3 (ρ 3) (ints ((aj ns).take k))) (fun ρ H=>ns.length-(iv (ρ 4)).toNat) ?_ ?_
 ·simp only[go_sem];exact⟨0,rfl,O,.refl _,.nil⟩
 rintro ρ H' ⟨k,h4,hk,h1,ov,h3⟩;refine W.vs ?_;have l2:=(ov.X (g:=0) (by omega:H.A<H1.A)).trans l1;by_cases hb:(k:Int)<ns.length
 ·obtain⟨x,hx⟩:=aq (l:=ns) (i:=k) O;have hne:=eV hx;have e0:=jV hx;obtain⟨v',H2,hA,ov2,hO,hn2,_⟩:=mj x.L ov h3 (by simp[aj];omega);have w1:=SN ((k:Int)+1) O;simp only[go_sem,h4,h1,l2,hb,hne,e0,w1,hA];refine⟨by have:=ov2.A;omega,⟨k+1,W5,O,ov2,?_⟩,O⟩;rw[aU (cC hx)];exact hO
 ·simp only[go_sem,h4,h1,l2,hb];rw[SR (by rw[cZ];omega)]at h3;exact ar.bE aH hcl (o1.trans ov) (h3.ie fun i hi=>O) hK
def sV (ns:List Xl)(hl:(ns.length:Int)<2 ^ 39)(H:Xn)(K:Xd->Xn->Prop)(hK:K (.ret (ah (aj ns))) H):ae Tryz.prog G0 117 [dL ns] H K:=by
 refine ae.Z ⟨_,Tryz.func117,rfl,rfl⟩ fun hcl=>?_;refine ae.st (n:=23) (rs:=[.tmp 2]) Tryz.func117 ?_;simp only[go_sem,dL];refine⟨O,?_⟩;refine W.aP 4192304 (by rfl) (fun ρ H'=>∃(k:Nat) (c:List Int),ρ 11=aa k/\k<=ns.length/\XB H H' H.A c/\c.length=ns.length/\c.take k=(aj ns).take k) (fun ρ H=>ns.length-(iv (ρ 11)).toNat) ?_ ?_
 ·simp only[go_sem];exact⟨0,_,rfl,O,.new [] ns.length,W5,rfl⟩
 rintro ρ H' ⟨k,c,h11,hk,ho,hcl',hc⟩;refine W.vs ?_;by_cases hb:(k:Int)<ns.length
 ·obtain⟨x,hx⟩:=aq (l:=ns) (i:=k) O;have hne:=eV hx;have e0:=oY hx;have e1:k*3+3<=(aE ns).length:=by rw[kL];omega
  have w1:=SN ((k:Int)+1) O;have l3:=ho.RH;have nb:=ho.ne;simp only[go_sem,h11,l3,hb,hne,e0,e1,w1];have hkc:k<c.length:=O
  have ho2:=ho.RI [.J 0 73 [.lit (.int .i64 x.L),.M x.F.length (ints x.F),aO x.nn]] hkc x.L;exact⟨O,by have:=ho2.hi;omega,⟨k+1,_,rfl,O,ho2,by simpa using hcl',Ei hc hkc (cC hx)⟩,O⟩
 ·simp only[go_sem,h11,hb];have e:c=aj ns:=by
   rw[SR O,SR (by rw[cZ];omega)]at hc;exact hc
  subst e;exact ho.fin hcl (by rw[cZ]) hK
def fR (l:List Int)(n:Nat):Prop:=∀q∈l,0<=q/\q<n
def iq (l p:List Int):(aB l p).length=p.length:=by simp[aB]
def jJ {p:List Int}{q:Int}(h:p[k]?=some q):(aB l p)[k]?=some (l.getD q.toNat 0):=by unfold aB;rw[List.getElem?_map,h];rfl
def PS (l:List Int)(hl:dR l)(H:Xn)(K:Xd->Xn->Prop)(hK:K (.ret (aa (aA l))) H):ae Tryz.prog G0 145 [ah l] H K:=by
 have l12:=hl.1;refine ae.st (n:=17) (rs:=[.tmp 2]) Tryz.func145 ?_;simp only[go_sem];refine W.aP 65320 (by rfl) (fun ρ H'=>H'=H/\∃k:Nat,ρ 8=aa k/\k<=l.length/\ρ 3=aa (aA (l.take k))) (fun ρ H=>l.length-(iv (ρ 8)).toNat) ?_ ?_
 ·simp only[go_sem];exact⟨0,rfl,O,by simp[gQ]⟩
 rintro ρ H' ⟨rfl,k,h4,hk,h3⟩;refine W.vs ?_;by_cases hb:(k:Int)<l.length
 ·obtain⟨c,hc⟩:=aq (l:=l) (i:=k) O;have hne:=aM hc;have b1:=(hl.take (k+1)).prod;rw[aU hc,fZ]at b1;have w1:=SN ((k:Int)+1) O;have w2:=SN (aA (l.take k)*c) O;simp only[go_sem,h4,h3,hb,hc,hne,w1,w2];exact⟨⟨k+1,W5,O,by rw[aU hc,fZ]⟩,O⟩
 ·simp only[go_sem,h4,h3,hb];rw[SR O];exact ar.mk W8 hK
def vI (ns:List Xl)(v:Nat)(x:Xl)(hx:ns[v]?=some x)(hin:fR x.F ns.length)(hs:dR (aV ns x))(H:Xn)(K:Xd->Xn->Prop)
  (hK:K (.ret (aa (aA (aV ns x)))) H):ae Tryz.prog G0 66 [dL ns,aa v] H K:=by
 have hne:=eV hx;have e1:=mB hx;have hv:(v:Int)<ns.length:=by have:=aI hx;omega
 have l12:=hs.1;have pl:(aV ns x).length=x.F.length:=iq _ _;refine ae.st (n:=27) (rs:=[.tmp 4]) Tryz.func66 ?_;simp only[go_sem,dL,hv,hne,e1];refine W.aP 67092640 (by rfl) (fun ρ H'=>H'=H/\∃k:Nat,ρ 14=aa k/\k<=x.F.length/\ρ 5=aa (aA ((aV ns x).take k))) (fun ρ H=>x.F.length-(iv (ρ 14)).toNat) ?_ ?_
 ·simp only[go_sem];exact⟨0,rfl,O,by simp[gQ]⟩
 rintro ρ H' ⟨rfl,k,h14,hk,h5⟩;refine W.vs ?_;by_cases hb:(k:Int)<x.F.length
 ·obtain⟨q,hq⟩:=aq (l:=x.F) (i:=k) O;obtain⟨j,rfl,y,hy⟩:=lP (l:=ns) (hin q (an hq)).1 (hin q (an hq)).2;have hne2:=aM hq;have hj:(j:Int)<ns.length:=by have:=aI hy;omega
  have e0:=jV hy;have pk:(aV ns x)[k]?=some y.L:=by
   rw[show (aV ns x)[k]?=_ from jJ hq,Int.toNat_natCast,bq (cC hy)]
  have b1:=(hs.take (k+1)).prod;rw[aU pk,fZ]at b1;have w1:=SN ((k:Int)+1) O;have w2:=SN (aA ((aV ns x).take k)*y.L) O;simp only[go_sem,h14,h5,hb,hq,hne,hne2,hj,e0,w1,w2];exact⟨⟨k+1,W5,O,by rw[aU pk,fZ]⟩,O⟩
 ·simp only[go_sem,h14,h5,hb];rw[SR O];exact ar.mk W8 hK
def PT (ns:List Xl)(v:Nat)(x:Xl)(vals:List Int)(hx:ns[v]?=some x)(hin:fR x.F ns.length)(hs:dR (aV ns x))(hf:bI (aj ns) vals)(H:Xn)(K:Xd->Xn->Prop)
  (hK:K (.ret (aa (bG (aV ns x) (aB vals x.F)))) H):ae Tryz.prog G0 69 [dL ns,aa v,ah vals] H K:=by
 have hne:=eV hx;have e1:=mB hx;have hv:(v:Int)<ns.length:=by have:=aI hx;omega
 have l12:=hs.1;have pl:(aV ns x).length=x.F.length:=iq _ _;have vl:(aB vals x.F).length=x.F.length:=iq _ _;have hfl:vals.length=ns.length:=by rw[hf.1,cZ]
 have at_get:∀(k:Nat) (q:Int),x.F[k]?=some q->∃(j:Nat) (y:Xl) (b:Int),q=j/\ns[j]?=some y/\vals[j]?=some b/\(aV ns x)[k]?=some y.L/\(aB vals x.F)[k]?=some b/\0<=b/\b<y.L:=fun k q hq=>by
  obtain⟨j,rfl,y,hy⟩:=lP (l:=ns) (hin q (an hq)).1 (hin q (an hq)).2;obtain⟨b,hb⟩:=aq (l:=vals) (i:=j) (by rw[hfl];exact aI hy);have r:=hf.2 j y.L b (cC hy) hb;exact⟨j,y,b,rfl,hy,hb,by rw[show (aV ns x)[k]?=_ from jJ hq,Int.toNat_natCast,bq (cC hy)],by rw[jJ hq,Int.toNat_natCast,bq hb],r⟩
 have ft:∀k,bI ((aV ns x).take k) ((aB vals x.F).take k):=fun k=>⟨by simp[pl,vl],fun i c b h1 h2=>by
  rw[VJ]at h1 h2;split at h1
  ·rename_i hik;rw[SU hik]at h2;obtain⟨q,hq⟩:=aq (l:=x.F) (i:=i) (by rw[<- pl];exact aI h1);obtain⟨j,y,b',_,_,_,a1,a2,a3⟩:=at_get i q hq;rw[h1]at a1;rw[h2]at a2;cases a1;cases a2;exact a3
  ·cases h1⟩
 have hr:∀k,0<=eW ((aV ns x).take k) ((aB vals x.F).take k)/\eW ((aV ns x).take k) ((aB vals x.F).take k)<68719476737:=fun k=>by
  rw[qw (ft k).1];have a:=kM (ft k);have b:=(hs.take k).prod;omega
 refine ae.st (n:=34) (rs:=[.tmp 6]) Tryz.func69 ?_;simp only[go_sem,dL,hv,hne,e1];refine W.aP 8589869696 (by rfl) (fun ρ H'=>H'=H/\∃k:Nat,ρ 16=aa k/\k<=x.F.length/\ρ 7=aa (eW ((aV ns x).take k) ((aB vals x.F).take k))) (fun ρ H=>x.F.length-(iv (ρ 16)).toNat) ?_ ?_
 ·simp only[go_sem];exact⟨0,rfl,O,rfl⟩
 rintro ρ H' ⟨rfl,k,h16,hk,h7⟩;refine W.vs ?_;by_cases hb:(k:Int)<x.F.length
 ·obtain⟨q,hq⟩:=aq (l:=x.F) (i:=k) O;obtain⟨j,y,b,rfl,hy,hbv,a1,a2,a3⟩:=at_get k q hq;have hne2:=aM hq;have hne3:=aM hbv;have hj:(j:Int)<ns.length:=by have:=aI hy;omega
  have hj2:(j:Int)<vals.length:=O
  have e0:=jV hy;have w1:=SN ((k:Int)+1) O;have r1:=hr (k+1);rw[qx a1 a2]at r1;have r0:=hr k;have m0:0<=eW ((aV ns x).take k) ((aB vals x.F).take k)*y.L:=Um r0.1 O;have w2:=SN (eW ((aV ns x).take k) ((aB vals x.F).take k)*y.L) O;have w3:=SN (eW ((aV ns x).take k) ((aB vals x.F).take k)*y.L+b) O;simp only[go_sem,h16,hb,hq,hne2];refine W.dr 11 [0,0,0,6,14,30,63,0,0,384,896] Tryz.mixed ?_;simp only[go_sem,h16,h7,hne,hne3,hj,hj2,hbv,e0,w1,w2,w3];exact⟨⟨k+1,W5,O,by rw[qx a1 a2]⟩,O⟩
 ·simp only[go_sem,h16,h7,hb];rw[SR O,SR O,qw (by rw[pl,vl])];exact ar.mk W8 hK
def bV (l:List Int):Nat:=l.foldl (fun s p=>s |||2 ^ p.toNat) 0
def Nq (l:List Int):∀(s i:Nat),(l.foldl (fun s p=>s |||2 ^ p.toNat) s).testBit i=(s.testBit i ||l.any fun p=>p.toNat == i):=by
 induction l with
 |nil=>intro s i;simp
 |cons p l ih =>
  intro s i;simp only[TF,ih,Tz,Vk,List.any_cons];rw[Bool.or_assoc];congr 1
def kP (h:∀p∈l,0<=p)(i:Nat):(bV l).testBit i=decide ((i:Int)∈l):=by
 unfold bV;rw[Nq];simp only[Uf,Bool.false_or];rw[U9];simp only[Vj,beq_iff_eq,decide_eq_true_eq];constructor
 ·rintro⟨p,hp,rfl⟩;have:=h p hp;rw[VF this];exact hp
 ·intro hi;exact⟨_,hi,W5⟩
def uN (l:List Int)(p:Int):bV (l++[p])=bV l |||2 ^ p.toNat:=by unfold bV;rw[TZ];rfl
def yj (h:∀i,m.testBit i=true->i<n):m<2 ^ n:=by
 apply Nat.lt_pow_two_of_testBit;intro i hi;rcases Uc (m.testBit i) with e|e
 ·exact absurd (h i e) (O)
 ·exact e
def nV (h:∀p∈l,0<=p/\p<n):bV l<2 ^ n:=yj fun i hi=>by
 rw[kP fun p hp=>(h p hp).1]at hi;have:=(h _ (of_decide_eq_true hi)).2;omega
def mC (h:m<2 ^ n)(hi:m.testBit i=true):i<n:=by
 rcases Tg i n with h'|h'
 ·exact h'
 ·rw[VT (SZ h (Ti W6 h'))]at hi;cases hi
def Sub (s t:Nat):Prop:=∀i,s.testBit i=true->t.testBit i=true
def Sub.refl (s:Nat):Sub s s:=fun _ h=>h
def Sub.trans {s u:Nat}(h:Sub s t)(h':Sub t u):Sub s u:=fun i hi=>h' i (h i hi)
def Sub.or {s u:Nat}(h:Sub s u)(h':Sub t u):Sub (s |||t) u:=fun i hi=>by
 rw[Tz,Tx]at hi;exact hi.elim (h i) (h' i)
def Sub.left (s t:Nat):Sub s (s |||t):=fun i hi=>by rw[Tz,hi];rfl
def Sub.right (s t:Nat):Sub t (s |||t):=fun i hi=>by rw[Tz,hi];simp
def Sub.antisymm {s:Nat}(h:Sub s t)(h':Sub t s):s=t:=Uj fun i=>by
 rw[U9];exact⟨h i,h' i⟩
def BK {b:Nat}(ha:a<2 ^ 64):iP a b=0↔Sub a b:=by
 constructor
 ·intro h i hi;have:=zC (a:=a) (b:=b) (i:=i) ha;rw[h,Uf,hi]at this;simpa using this.symm
 ·intro h;apply Uj;intro i;rw[zC ha,Uf];cases hi:a.testBit i
  ·rfl
  ·rw[h i hi];rfl
def lQ (ps:List Nat)(s v:Nat):Nat:=if s.testBit v=true then s |||ps.getD v 0 else s
def fO (ps:List Nat)(s:Nat):Nat:=(List.range ps.length).foldl (lQ ps) s
def iE (ps:List Nat):Nat->Nat->Nat
 |0,s=>s
 |k+1,s=>fO ps (iE ps k s)
def kQ (ps:List Nat)(s:Nat):Nat:=iE ps ps.length s
def kR (ps:List Nat):Prop:=∀v,v<ps.length->(kQ ps (ps.getD v 0)).testBit v=false
def nW (ps:List Nat)(t:Nat):Prop:=∀v,v<ps.length->t.testBit v=true->Sub (ps.getD v 0) t
def BL (ps:List Nat)(s v:Nat):Sub s (lQ ps s v):=by unfold lQ;split;exact .left _ _;exact .refl _
def BM (ps:List Nat)(l:List Nat):∀s,Sub s (l.foldl (lQ ps) s):=by
 induction l with
 |nil=>exact fun s=>.refl s
 |cons v l ih=>exact fun s=>(BL ps s v).trans (ih _)
def yk (ps:List Nat)(s:Nat):Sub s (fO ps s):=BM ps _ s
def Nr (hc:nW ps t)(l:List Nat)(hl:∀v∈l,v<ps.length):∀s,Sub s t->Sub (l.foldl (lQ ps) s) t:=by
 induction l with
 |nil=>exact fun s h=>h
 |cons v l ih =>
  intro s h;refine ih (fun v hv=>hl v (by simp[hv])) _ ?_;unfold lQ;split
  ·rename_i hv;exact h.or (hc v (hl v W5) (h v hv))
  ·exact h
def Ns (hc:nW ps t){s:Nat}(h:Sub s t):Sub (fO ps s) t:=Nr hc _ (fun v hv=>S7.1 hv) s h
def uO (hc:nW ps t)(k:Nat){s:Nat}(h:Sub s t):Sub (iE ps k s) t:=by
 induction k with
 |zero=>exact h
 |succ k ih=>exact Ns hc ih
def yl (ps:List Nat)(k s:Nat):Sub s (iE ps k s):=by
 induction k with
 |zero=>exact .refl _
 |succ k ih=>exact ih.trans (yk _ _)
def Nt {s:Nat}(h:fO ps s=s):nW ps s:=by
 intro v hv hs;have key:∀(l:List Nat) (s0:Nat),v∈l->s0.testBit v=true->Sub (ps.getD v 0) (l.foldl (lQ ps) s0):=by
  intro l
  induction l with
  |nil=>intro s0 h;cases h
  |cons u l ih =>
   intro s0 hm hb;rcases List.mem_cons.1 hm with rfl|hm
   ·refine Sub.trans ?_ (BM ps l _);unfold lQ;rw[SU hb];exact .right _ _
   ·exact ih _ hm (BL ps s0 u v hb)
 have:=key (List.range ps.length) s (S7.2 hv) hs;unfold fO at h
 rwa [h]at this
def dw (n s:Nat):Nat:=(List.range n).countP fun i=>s.testBit i
def ym (n s:Nat):dw n s<=n:=by have:=List.countP_le_length (p:=fun i=>s.testBit i) (l:=List.range n);simpa[dw] using this
def Nu {l:List Nat}{p q:Nat->Bool}(h:∀x∈l,p x=true->q x=true)(ha:a∈l)(hp:p a=false)(hq:q a=true):l.countP p<l.countP q:=by
 induction l with
 |nil=>cases ha
 |cons x l ih =>
  have hm:l.countP p<=l.countP q:=List.countP_mono_left fun y hy=>h y (by simp[hy]);rcases List.mem_cons.1 ha with rfl|ha
  ·rw[UH,UH,hp,hq];simp;omega
  ·have:=ih (fun y hy=>h y (by simp[hy])) ha;have hx:=h x W5;rw[UH,UH];cases hpx:p x
   ·simp;omega
   ·rw[hx hpx];simp;omega
def qy {s:Nat}(h:Sub s t)(hi:i<n)(h0:s.testBit i=false)(h1:t.testBit i=true):dw n s<dw n t :=
 Nu (fun x _ hx=>h x hx) (S7.2 hi) h0 h1
def Nv (hp:∀p∈ps,p<2 ^ ps.length){s:Nat}(hs:s<2 ^ ps.length):nW ps (kQ ps s):=by
 have hb:∀k,iE ps k s<2 ^ ps.length:=fun k=>by
  have ht:nW ps (2 ^ ps.length-1):=fun v _ _ i hi=>by
   rw[UD];have:ps.getD v 0<2 ^ ps.length:=by
    rw[SV];cases h:ps[v]? with
    |none=>exact Wj _
    |some p=>exact hp p (an h)
   simpa using mC this hi
  have:=uO ht k (s:=s) fun i hi=>by rw[UD];simpa using mC hs hi
  exact yj fun i hi=>by have:=this i hi;rw[UD]at this;simpa using this
 have key:∀k,fO ps (iE ps k s)=iE ps k s\/k+1<=dw ps.length (iE ps k s):=by
  have grow:∀t,t<2 ^ ps.length->fO ps t<2 ^ ps.length->fO ps t≠t->dw ps.length t<dw ps.length (fO ps t):=fun t ht ht' hne=>by
   have:∃i,(fO ps t).testBit i=true/\t.testBit i=false:=by
    refine TS fun hno=>hne (Sub.antisymm (fun i hi=>?_) (yk ps t));rcases Uc (t.testBit i) with e|e
    ·exact e
    ·exact absurd ⟨i,hi,e⟩ hno
   obtain⟨i,h1,h0⟩:=this;exact qy (yk ps t) (mC ht' h1) h0 h1
  intro k
  induction k with
  |zero =>
   by_cases h0:s=0
   ·left;subst h0;show fO ps 0=0;unfold fO;have:∀l:List Nat,l.foldl (lQ ps) 0=0:=fun l=>by
     induction l with
     |nil=>rfl
     |cons v l ih=>simp only[TF,lQ,Uf,Bool.false_eq_true,if_false];exact ih
    exact this _
   ·right;obtain⟨i,hi⟩:=Nat.exists_testBit_of_ne_zero h0;have:dw ps.length 0<dw ps.length s:=qy (fun j hj=>by rw[Uf]at hj;cases hj) (mC hs hi) (Uf i) hi;show 0+1<=dw ps.length s;omega
  |succ k ih =>
   rcases ih with ih|ih
   ·left;show fO ps (fO ps (iE ps k s))=fO ps (iE ps k s);rw[ih];exact ih
   ·by_cases hf:fO ps (iE ps k s)=iE ps k s
    ·left;show fO ps (fO ps (iE ps k s))=fO ps (iE ps k s);rw[hf];exact hf
    ·right;have:=grow _ (hb k) (hb (k+1)) hf;show k+1+1<=dw ps.length (fO ps (iE ps k s));omega
 rcases key ps.length with h|h
 ·exact Nt h
 ·have:=ym ps.length (iE ps ps.length s);omega
def jw (ps:List Nat)(done v:Nat):Bool:=!done.testBit v && decide (iP (ps.getD v 0) done=0)
def jW (ps:List Nat)(done:Nat):Option Nat:=(List.range ps.length).find? (jw ps done)
def gR (ps:List Nat):Nat->List Nat->Nat->Option (List Nat)
 |0,out,_=>some out
 |k+1,out,done=>match jW ps done with
  |none=>none
  |some v=>gR ps k (out++[v]) (done |||2 ^ v)
def fw (ps:List Nat):Option (List Nat):=gR ps ps.length [] 0
def uP {done v:Nat}(hp:∀p∈ps,p<2 ^ 64)(h:jW ps done=some v):v<ps.length/\done.testBit v=false/\Sub (ps.getD v 0) done:=by
 unfold jW at h;have h1:=Wt h;have h2:=List.find?_some h;unfold jw at h2;simp only[Tv,UQ,decide_eq_true_eq]at h2;have hv:=S7.1 h1;refine⟨hv,h2.1,(BK ?_).1 h2.2⟩;rw[SV];cases h:ps[v]? with
 |none=>decide
 |some p=>exact hp p (an h)
def Nw {done:Nat}(hp:∀p∈ps,p<2 ^ 64)(h:jW ps done=none):∀v,v<ps.length->done.testBit v=true\/¬Sub (ps.getD v 0) done:=by
 intro v hv;unfold jW at h;rw[VK]at h;have:=h v (S7.2 hv);unfold jw at this;rcases Uc (done.testBit v) with e|e
 ·exact .inl e
 ·right;intro hs;refine this ?_;rw[e,(BK ?_).2 hs]
  ·simp
  ·rw[SV];cases h:ps[v]? with
   |none=>decide
   |some p=>exact hp p (an h)
def gi (d v i:Nat):(d |||2 ^ v).testBit i=(d.testBit i ||decide (v=i)):=by rw[Tz,Vk]
def Nx (hp:∀p∈ps,p<2 ^ 64):∀(k:Nat) (out:List Nat) (done:Nat) (r:List Nat),gR ps k out done=some r->k+dw ps.length done=ps.length ->
  nW ps done->(∀v,v<ps.length->done.testBit v=true->(kQ ps (ps.getD v 0)).testBit v=false)->kR ps:=by
 intro k
 induction k with
 |zero =>
  intro out done r _ hc hcl hall v hv;refine hall v hv ?_;rcases Uc (done.testBit v) with e|e
  ·exact e
  ·have:dw ps.length done<dw ps.length (2 ^ ps.length-1 |||done):=qy (.right _ _) hv e (by rw[Tz,UD];simp[hv]);have:=ym ps.length (2 ^ ps.length-1 |||done);omega
 |succ k ih =>
  intro out done r h hc hcl hall;unfold gR at h;split at h
  ·cases h
  ·rename_i v hn;obtain⟨h1,h2,h3⟩:=uP hp hn;refine ih _ _ _ h ?_ ?_ ?_
   ·have:dw ps.length (done |||2 ^ v)=dw ps.length done+1:=by
     unfold dw;have:∀l:List Nat,l.Nodup->v∈l->l.countP (fun i=>(done |||2 ^ v).testBit i)=l.countP (fun i=>done.testBit i)+1:=by
      intro l
      induction l with
      |nil=>intro _ h;cases h
      |cons x l ihl =>
       intro hnd hmem;obtain⟨g1,g2⟩:=U3.1 hnd;rw[UH,UH];rcases List.mem_cons.1 hmem with rfl|hm2
       ·have:l.countP (fun i=>(done |||2 ^ v).testBit i)=l.countP (fun i=>done.testBit i):=List.countP_congr fun y hy=>by
         have:¬v=y:=(by rintro rfl;exact g1 hy);simp[gi,this]
        rw[this];simp[gi,h2]
       ·have hx:¬v=x:=(by rintro rfl;exact g1 hm2);rw[ihl g2 hm2];simp[gi,hx];omega
     exact this _ Uy (S7.2 h1)
    omega
   ·intro u hu hb;rw[gi,Tx,decide_eq_true_eq]at hb;rcases hb with hb|rfl
    ·exact(hcl u hu hb).trans (.left _ _)
    ·exact h3.trans (.left _ _)
   ·intro u hu hb;rw[gi,Tx,decide_eq_true_eq]at hb;rcases hb with hb|rfl
    ·exact hall u hu hb
    ·have:=uO hcl ps.length h3;rcases Uc ((kQ ps (ps.getD v 0)).testBit v) with e|e
     ·have:=this v e;rw[h2]at this;cases this
     ·exact e
def Ny (hp:∀p∈ps,p<2 ^ ps.length)(h64:ps.length<=64)(ha:kR ps):∀(k:Nat) (out:List Nat) (done:Nat),k+dw ps.length done=ps.length->∃r,gR ps k out done=some r:=by
 have hp64:∀p∈ps,p<2 ^ 64:=fun p h=>SZ (hp p h) (Ti W6 h64);have hpd:∀v,ps.getD v 0<2 ^ ps.length:=fun v=>by
  rw[SV];cases h:ps[v]? with
  |none=>exact Wj _
  |some p=>exact hp p (an h)
 intro k
 induction k with
 |zero=>exact fun out done _=>⟨out,rfl⟩
 |succ k ih =>
  intro out done hc;unfold gR;cases hn:jW ps done with
  |none =>
   exfalso;have hno:=Nw hp64 hn
      -- every node that is left has a parent that is left
   have step:∀m v,v<ps.length->done.testBit v=false->dw ps.length (kQ ps (ps.getD v 0))<=m->False:=by
    intro m
    induction m with
    |zero =>
     intro v hv hd hm;obtain⟨i,h1,h2⟩:∃i,(ps.getD v 0).testBit i=true/\done.testBit i=false:=by
      rcases hno v hv with h|h
      ·rw[hd]at h;cases h
      ·refine TS fun hc=>h fun i hi=>?_;rcases Uc (done.testBit i) with e|e
       ·exact e
       ·exact absurd ⟨i,hi,e⟩ hc
     have:dw ps.length 0<dw ps.length (kQ ps (ps.getD v 0)):=qy (fun j hj=>by rw[Uf]at hj;cases hj) (mC (hpd v) h1) (Uf i) (yl ps _ _ i h1);omega
    |succ m ihm =>
     intro v hv hd hm;obtain⟨u,h1,h2⟩:∃i,(ps.getD v 0).testBit i=true/\done.testBit i=false:=by
      rcases hno v hv with h|h
      ·rw[hd]at h;cases h
      ·refine TS fun hc=>h fun i hi=>?_;rcases Uc (done.testBit i) with e|e
       ·exact e
       ·exact absurd ⟨i,hi,e⟩ hc
     have hu:=mC (hpd v) h1;have hcl:=Nv hp (hpd v);have hin:(kQ ps (ps.getD v 0)).testBit u=true:=yl ps _ _ u h1;have hsub:Sub (kQ ps (ps.getD u 0)) (kQ ps (ps.getD v 0)):=uO hcl _ (hcl u hu hin);have:=qy hsub hu (ha u hu) hin;exact ihm u hu h2 (O)
   obtain⟨v,hv,hd⟩:∃v,v<ps.length/\done.testBit v=false:=by
    refine TS fun hno=>?_;have:dw ps.length done=ps.length:=by
     unfold dw
     conv=>rhs;rw[<- TU (n:=ps.length)]
     rw[WH];intro x hx;rcases Uc (done.testBit x) with e|e
     ·exact e
     ·exact absurd ⟨x,S7.1 hx,e⟩ hno
    omega
   exact step _ v hv hd (Nat.le_refl _)
  |some v =>
   obtain⟨h1,h2,h3⟩:=uP hp64 hn;refine ih _ _ ?_;have:dw ps.length (done |||2 ^ v)=dw ps.length done+1:=by
    unfold dw;have:∀l:List Nat,l.Nodup->v∈l->l.countP (fun i=>(done |||2 ^ v).testBit i)=l.countP (fun i=>done.testBit i)+1:=by
     intro l
     induction l with
     |nil=>intro _ h;cases h
     |cons x l ihl =>
      intro hnd hmem;obtain⟨g1,g2⟩:=U3.1 hnd;rw[UH,UH];rcases List.mem_cons.1 hmem with rfl|hm2
      ·have:l.countP (fun i=>(done |||2 ^ v).testBit i)=l.countP (fun i=>done.testBit i):=List.countP_congr fun y hy=>by
        have:¬v=y:=(by rintro rfl;exact g1 hy);simp[gi,this]
       rw[this];simp[gi,h2]
      ·have hx:¬v=x:=(by rintro rfl;exact g1 hm2);rw[ihl g2 hm2];simp[gi,hx];omega
    exact this _ Uy (S7.2 h1)
   omega
def BN (n:Nat):dw n 0=0:=by
 unfold dw;rw[List.countP_eq_zero];intro x _;simp
def uQ (hp:∀p∈ps,p<2 ^ ps.length)(h64:ps.length<=64):(fw ps).isSome=true↔kR ps:=by
 have hp64:∀p∈ps,p<2 ^ 64:=fun p h=>SZ (hp p h) (Ti W6 h64);constructor
 ·intro h;obtain⟨r,hr⟩:=Tp.1 h;exact Nx hp64 _ _ _ r hr (by rw[BN];omega) (fun v _ h=>by rw[Uf]at h;cases h) (fun v _ h=>by rw[Uf]at h;cases h)
 ·intro h;obtain⟨r,hr⟩:=Ny hp h64 h ps.length [] 0 (by rw[BN];omega);unfold fw;rw[hr];rfl
end Go.Proofs
namespace Go.Hx
def iW (l:List Nat):W9:=.M l.length (l.map bJ)
attribute [go_sem] bJ iW
def aD.PU {S:Nat->Prop}{lo nx:Nat}{H:Xn}{e:TypeId}{v:W9}{l:List Nat}(h:aD lo H e v (l.map bJ))(hS:∀i,lo<=i->S i):Fz S H nx v (iW l):=by
 have:=h.fz (S:=S) (nx:=nx) (cs':=l.map bJ) hS rfl fun i hi _=>by simp only[S9];exact .lit _
 rw[S8]at this;exact this
end Go.Hx
namespace Go.Proofs
open Go.Hx
variable {g:Int}{ns:List Xl}{x:Xl}
def Dr {H H':Xn}{v:W9}{l:List Nat}(x:Nat)(ov:Xb H H')(h:aD H.A H' 35 v (l.map bJ))(hl:l.length<2 ^ 40):
  ∃v' H2,bT Tryz.prog (ext H' [.J 0 35 [.lit (.int .u64 (x:Int))]]) (H'.A+1) 106 106 v (.Q H'.A 0 0 1 1)=some (v',H2)/\Xb H H2/\aD H.A H2 35 v' ((l++[x]).map bJ)/\H'.A<=H2.A/\(∀k,k<H'.A->(∀g n,v≠.Q k g 0 n 1)->H2.get k=H'.get k):=by
 obtain⟨v',H2,hA,hO,hn2,hp⟩:=iT (P:=Tryz.prog) (H:=H') (t:=106) (x:=bJ x) (n:=H'.A+1) Tryz.underlying106 Tryz.Br Tryz.Bt rfl (by rw[Tryz.Bs,S8];omega) h ov.A rfl;simp only[bJ]at hA;exact⟨v',H2,hA,lX ov h hn2 hp,by rw[TT];exact hO,hn2,hp⟩
def PV (m v:Nat)(hm:m<2 ^ 64)(hv:v<2 ^ 62)(H:Xn)(K:Xd->Xn->Prop)(hK:K (.ret (.lit (.bool (m.testBit v)))) H):ae Tryz.prog G0 134 [bJ m,aa v] H K:=by
 refine ae.st (n:=11) (rs:=[.tmp 4]) Tryz.func134 ?_;have w1:=Ut (v:Int) O;have s1:=fun t x y=>mi (P:=Tryz.prog) (t:=t) (x:=x) (y:=y) (k':=.u64) (s:=v) hm;have s2:=fun t x y=>nj (P:=Tryz.prog) (t:=t) (x:=x) (y:=y) (s:=v) hm;cases hb:m.testBit v
 ·rw[hb]at hK;simp only[go_sem,w1,s1,s2,hb];exact ar.mk W8 hK
 ·rw[hb]at hK;simp only[go_sem,w1,s1,s2,hb];exact ar.mk W8 hK
def aR (ns:List Xl):List Nat:=ns.map fun x=>bV x.F
def lu {k:Nat}(h:ns[k]?=some x):(aR ns)[k]?=some (bV x.F):=by unfold aR;rw[List.getElem?_map,h];rfl
def PW (g:Int)(ns:List Xl)(hl:(ns.length:Int)<2 ^ 39)(hp:∀x∈ns,(x.F.length:Int)<2 ^ 39/\∀q∈x.F,0<=q/\q<64)(H:Xn)(K:Xd->Xn->Prop)
  (hK:K (.ret (iW (aR ns))) H):ae Tryz.prog G0 43 [dk g ns] H K:=by
 refine ae.Z ⟨_,Tryz.func43,rfl,rfl⟩ fun hcl=>?_;refine ae.st (n:=43) (rs:=[.tmp 2]) Tryz.func43 ?_;simp only[go_sem,dk,dL];obtain⟨H1,hH1⟩:∃H1,H1=ext H [.J 0 103 [.lit (.int .i64 g),.M ns.length (aE ns)]]:=⟨_,rfl⟩
 have l1:H1.X H.A 0=some (103,[.lit (.int .i64 g),.M ns.length (aE ns)]):=by rw[hH1];exact af (cV ..)
 have n1:H1.A=H.A+1:=hH1▸rfl
 have o1:Xb H H1:=hH1▸.ext _ _
 rw[<- hH1];refine W.aP 4398046511096 (by rfl) (fun ρ H'=>∃k:Nat,ρ 4=aa k/\k<=ns.length/\ρ 1=.R H.A 0 0/\Xb H1 H'/\aD H1.A H' 35 (ρ 3) (((aR ns).take k).map bJ)) (fun ρ H=>ns.length-(iv (ρ 4)).toNat) ?_ ?_
 ·simp only[go_sem];exact⟨0,rfl,O,.refl _,.nil⟩
 rintro ρ H' ⟨k,h4,hk,h1,ov,h3⟩;refine W.vs ?_;have l2:=(ov.X (g:=0) (by omega:H.A<H1.A)).trans l1;by_cases hb:(k:Int)<ns.length
 ·obtain⟨x,hx⟩:=aq (l:=ns) (i:=k) O;have hne:=eV hx;have e1:=mB hx;obtain⟨xl,xr⟩:=hp x (an hx);simp only[go_sem,h4,h1,l2,hb];refine W.aP 274877890656 (by rfl) (fun ρ' H2=>H2=H'/\∃j:Nat,ρ' 6=aa j/\j<=x.F.length/\ρ' 5=bJ (bV (x.F.take j))) (fun ρ' H=>x.F.length-(iv (ρ' 6)).toNat) ?_ ?_
  ·simp only[go_sem];exact⟨0,rfl,O,rfl⟩
  rintro ρ' H2 ⟨rfl,j,h6,hj,h5⟩;refine W.vs ?_;by_cases hb2:(j:Int)<x.F.length
  ·obtain⟨q,hq⟩:=aq (l:=x.F) (i:=j) O;obtain⟨q0,q1⟩:=xr q (an hq);obtain⟨u,rfl⟩:=S5 q0;have hne2:=aM hq;have w1:=Ut (u:Int) O;have w2:=SN ((j:Int)+1) O;have b1:bV (x.F.take j)<2 ^ 64:=nV fun p hp=>by have:=xr p (Tj hp);omega
   have s1:=fun t x y=>ni (P:=Tryz.prog) (t:=t) (x:=x) (y:=y) (k':=.u64) (s:=u) O;have s2:=fun t x y=>kv (P:=Tryz.prog) (t:=t) (x:=x) (y:=y) (b:=2 ^ u) b1 (Ui W6 O);simp only[go_sem,h4,h1,l2,hb,hne,e1,h6,h5,hb2,hq,hne2,w1,w2,s1,s2];exact⟨⟨j+1,W5,O,by rw[aU hq,uN];rfl⟩,O⟩
  ·obtain⟨v',H3,hA,ov2,hO,hn2,_⟩:=Dr (bV x.F) ov h3 (by simp[aR];omega);have w1:=SN ((k:Int)+1) O;rw[SR O]at h5;simp only[go_sem,h4,h1,l2,hb,hne,e1,h6,h5,hb2,w1,hA];refine⟨by have:=ov2.A;omega,⟨k+1,W5,O,ov2,?_⟩,O⟩;rw[aU (lu hx)];exact hO
 ·simp only[go_sem,h4,h1,l2,hb];rw[SR (by simp[aR];omega)]at h3;exact ar.bE aH hcl (o1.trans ov) (h3.PU fun i hi=>O) hK
def km (g L:Int)(r:List Int):Prop:=(r.length:Int)=L/\(∀w∈r,0<=w/\w<=g)/\r.sum=g
def gI (g:Int)(ns:List Xl)(x:Xl):Prop:=(x.nn.length:Int)=aA (aV ns x)/\∀r∈x.nn,km g x.L r
structure Xq (g:Int)(ns:List Xl):Prop where
 g1:1<=g/\g<=60
 n1:1<=ns.length/\ns.length<=8
 node:∀x∈ns,(1<=x.L/\x.L<=4)/\cw x.F ns.length
 size:aA (aj ns)<=1024
 nH:kR (aR ns)
 nn:∀x∈ns,gI g ns x
noncomputable def pF (g:Int)(ns:List Xl):Bool:=@decide (Xq g ns) (Classical.propDecidable _)
def Ds (h:Xq g ns):pF g ns=true:=by unfold pF;exact @decide_eq_true _ (Classical.propDecidable _) h
def Du (h:¬Xq g ns):pF g ns=false:=by unfold pF;exact @decide_eq_false _ (Classical.propDecidable _) h
def vJ (ns:List Xl):Prop:=(ns.length:Int)<2 ^ 38/\∀x∈ns,(x.F.length:Int)<2 ^ 38/\(x.nn.length:Int)<2 ^ 38/\∀r∈x.nn,(r.length:Int)<2 ^ 38
def mU {l:List Int}(h:l.length<=12)(h2:∀x∈l,1<=x/\x<=4):dR l:=⟨h,fun x hx=>by have:=h2 x hx;omega⟩
def qX (hin:fR x.F ns.length)(hc:∀y∈ns,1<=y.L/\y.L<=4):∀c∈aV ns x,1<=c/\c<=4:=fun c h=>by
 unfold aV aB at h;obtain⟨q,hq,rfl⟩:=S4.1 h;obtain⟨j,rfl,y,hy⟩:=lP (l:=ns) (hin q hq).1 (hin q hq).2;rw[Int.toNat_natCast,bq (cC hy)];exact hc y (an hy)
def mf (h8:ns.length<=8)(hp:cw x.F ns.length)(hc:∀y∈ns,1<=y.L/\y.L<=4):dR (aV ns x):=by
 refine mU ?_ (qX (fun q hq=>by have:=hp.2 q hq;omega) hc);rw[show (aV ns x).length=_ from iq _ _];have:=hp.len;omega
def qY {n:Nat}(h:∀x∈ns,∀q∈x.F,0<=q/\q<(n:Int)):∀p∈aR ns,p<2 ^ n:=fun p hp=>by
 obtain⟨x,hx,rfl⟩:=S4.1 hp;exact nV fun q hq=>by have:=h x hx q hq;omega
def zf (l:List Int)(x:Int):(l++[x]).sum=l.sum+x:=W5
end Go.Proofs
namespace Go.Hx
variable {P:Program} {G:Nat->Option (List W9)} {n:Nat} {rd:Option Nat} {Q:AX->St->Prop}
def wA (P:Program)(G:Nat->Option (List W9))(f:FuncId)(first cap:List W9)(xs:List (List W9))(S:Xn->Prop):Prop :=
 ∀(idy:Nat) (J:Nat->Xn->Prop) (Stop:Xn->Prop) (H:Xn) (K:Xd->Xn->Prop),
  (∀k H1,J k H1->S H1)->J 0 H ->
  (∀k x H1 K1,xs[k]?=some x->J k H1->H.A<=H1.A->(∀H',J (k+1) H'->H1.A<=H'.A->K1 (.ret (.lit (.bool true))) H')->(∀H',Stop H'->H1.A<=H'.A->K1 (.ret (.lit (.bool false))) H')->az P G (.ni idy) x H1 K1) ->
  (∀H',J xs.length H'->H.A<=H'.A->K (.ret (.na [])) H') ->
  (∀H',Stop H'->H.A<=H'.A->K (.ret (.na [])) H') ->
  ae P G f (first++[.ni idy]++cap) H K
def eM (idy:Nat)(B:Xe)(lo:Nat)(J:Xn->Prop)(Stop:AX->Xn->Prop):AX->St->Prop
 |.normal,s=>s.H.get idy=some B/\lo<=s.H.A/\J s.H
 |.ret,s=>s.H.get idy=some B/\lo<=s.H.A/\Stop .ret s.H
 |.exit i,s=>s.H.get idy=some B/\lo<=s.H.A/\Stop (.exit i) s.H
 |_,_=>False
def jn (P:Program)(G:Nat->Option (List W9))(n idy:Nat)(B Bb:Xe)(lo:Nat)(body:Code)(J:Xn->Prop)(Stop:AX->Xn->Prop):AX->St->Prop
 |.normal,s=>s.H.get idy=some B/\W P G n (some idy) body (eM idy Bb lo J Stop) ⟨s.ρ,s.H.upd idy Bb⟩
 |_,_=>False
def W.pK {g:Operand}{ps:Array Tmp}{asg body:Code}{ρ:Env}{H:Xn}{f:FuncId}{first cap:List W9}{xs:List (List W9)}{S:Xn->Prop}(hg:aw G ρ g=.Z f first cap)
  (hit:wA P G f first cap xs S) (J:Nat->Xn->Prop) (Stop:AX->Xn->Prop) (hS:∀k H1,J k H1->S H1)
  (hJu:∀k H1 b,J k H1->J k (H1.upd H.A b)) (hSu:∀c H1 b,Stop c H1->Stop c (H1.upd H.A b))
  (hJ0:∀b,J 0 (ext H [b])) (hps:ps.toList.all (fun t=>decide (t<n))=true) (hxl:∀x∈xs,x.length=ps.size)
  (hrd:∀k H1,J k H1->fD H1 rd) (hrd2:∀c H1,Stop c H1->fD H1 rd)
  (hround:∀k x H1 B Bb,xs[k]?=some x->J k H1->H.A+1<=H1.A->H1.get H.A=some B->(∃st pd n' en ps' as' bo,Bb=Xe.loop st pd n' en ps' as' bo) ->
   W P G n (some H.A) asg (jn P G n H.A B Bb H1.A body (J (k+1)) Stop) ⟨ic (cG ρ n) (ps.toList.zip x),H1⟩)
  (hend:∀H',J xs.length H'->H.A+1<=H'.A->Q .normal ⟨ρ,H'⟩)
  (hret:∀H',Stop .ret H'->H.A+1<=H'.A->Q .ret ⟨ρ,H'⟩) (hexit:∀i H',Stop (.exit i) H'->H.A+1<=H'.A->Q (.exit i) ⟨ρ,H'⟩):
  W P G n rd (.rangeFunc g ps asg body) Q ⟨ρ,H⟩:=by
 refine W.rangeFunc (s:=⟨ρ,H⟩) hg ⟨_,uk _ _,?_⟩;obtain⟨B,hB⟩:∃B,B=Xe.loop .ready none n ρ ps asg body:=⟨_,rfl⟩
 obtain⟨Bb,hBb⟩:∃B,B=Xe.loop .busy none n ρ ps asg body:=⟨_,rfl⟩
 have nx:(ext H [B]).A=H.A+1:=rfl;show ae P G f (first++[.ni H.A]++cap) (ext H [Xe.loop .ready none n ρ ps asg body]) (xO rd Q ρ H.A);rw[<- hB];refine hit H.A (fun k H1=>H1.get H.A=some B/\J k H1) (fun H1=>∃c pend,H1.get H.A=some (.loop .done (some pend) n ρ ps asg body)/\Stop c H1/\((c=.ret/\pend=.ret)\/∃i,c=.exit i/\pend=.exit i)) _ _
  (fun k H1 h=>hS k H1 h.2) ⟨da,hJ0 B⟩ (fun k x H1 K1 hx hj hn hgo hst=>?_) (fun H' hj hn=>?_) (fun H' hj hn=>?_)
 ·have hxm:=hxl x (an hx);refine az.ni (hj.1.trans (congrArg some hB)) hxm hps ?_;refine(hround k x H1 B Bb hx hj.2 hn hj.1 ⟨_,_,_,_,_,_,_,hBb⟩).mono fun e s1 h1=>?_;cases e with
  |normal =>
   obtain⟨a1,a2⟩:=h1;refine⟨Bb,by rw[a1,hB,hBb];rfl,?_⟩;refine a2.mono fun e2 s2 h2=>?_;cases e2 with
   |normal =>
    obtain⟨b1,b2,b3⟩:=h2;exact⟨B,by rw[b1,hB,hBb];rfl,hgo _ ⟨by rw[ag,SU rfl],hJu _ _ _ b3⟩ b2⟩
   |ret =>
    obtain⟨b1,b2,b3⟩:=h2;exact⟨.loop .done (some .ret) n ρ ps asg body,by rw[b1,hBb];rfl,hst _ ⟨.ret,.ret,by rw[ag,SU rfl],hSu _ _ _ b3,.inl ⟨rfl,rfl⟩⟩ b2⟩
   |exit i =>
    obtain⟨b1,b2,b3⟩:=h2;exact⟨.loop .done (some (.exit i)) n ρ ps asg body,by rw[b1,hBb];rfl,hst _ ⟨.exit i,.exit i,by rw[ag,SU rfl],hSu _ _ _ b3,.inr ⟨i,rfl,rfl⟩⟩ b2⟩
   |_=>exact h2.elim
  |_=>exact h1.elim
 ·refine⟨hrd _ _ hj.2,(none,.loop .exhausted none n ρ ps asg body),by rw[hj.1,hB];rfl,?_⟩;exact hend _ (hJu _ _ _ hj.2) hn
 ·obtain⟨c,pend,h1,h2,h3⟩:=hj;refine⟨hrd2 _ _ h2,(some pend,.loop .exhausted (some pend) n ρ ps asg body),by rw[h1];rfl,?_⟩;rcases h3 with ⟨rfl,rfl⟩|⟨i,rfl,rfl⟩
  ·exact hret _ (hSu _ _ _ h2) hn
  ·exact hexit i _ (hSu _ _ _ h2) hn
end Go.Hx
namespace Go.Proofs
open Go.Hx
variable {g:Int}{nn:List (List Int)}{l:List Int}{ns:List Xl}{k:Nat}{x:Xl}
def sW (x:Xl):W9:=.agg [.lit (.int .i64 x.L),.M x.F.length (ints x.F),aO x.nn]
def ou (nn:List (List Int)):List (List W9):=nn.zipIdx.map fun p=>[aa p.2,ah p.1]
def Dv {x:List W9}(h:(ou nn)[k]?=some x):∃r,nn[k]?=some r/\x=[aa k,ah r]:=by
 unfold ou at h;rw[List.getElem?_map,Vf]at h;cases hr:nn[k]? with
 |none=>rw[hr]at h;simp at h
 |some r=>rw[hr]at h;simp at h;exact⟨r,rfl,h.symm⟩
def PY {r:List Int}(h:nn[k]?=some r):(ou nn)[k]?=some [aa k,ah r]:=by
 unfold ou;rw[List.getElem?_map,Vf,h];simp
def Dw (nn:List (List Int)):(ou nn).length=nn.length:=by simp[ou]
def PZ (x:Xl)(hl:(x.nn.length:Int)<2 ^ 40)(b:Nat):wA Tryz.prog G0 170 [] [.R b 0 0] (ou x.nn) (fun H=>H.get b=some (.J 0 73 [.lit (.int .i64 x.L),.M x.F.length (ints x.F),aO x.nn])):=by
 intro idy J Stop H K hS hJ0 hY hK hSt;have l0:=af (hS 0 H hJ0);show ae _ _ _ ([.ni idy]++[.R b 0 0]) _ _;refine ae.st (n:=19) (rs:=[]) Tryz.func170 ?_;simp only[go_sem,l0,aO];refine W.aP 524056 (by rfl) (fun ρ H'=>∃k:Nat,ρ 8=aa k/\k<=x.nn.length/\J k H'/\H.A<=H'.A) (fun ρ H=>x.nn.length-(iv (ρ 8)).toNat) ?_ ?_
 ·simp only[go_sem];exact⟨0,rfl,O,hJ0⟩
 rintro ρ H' ⟨k,h8,hk,hj,hn⟩;refine W.vs ?_;by_cases hb:(k:Int)<x.nn.length
 ·obtain⟨r,hr⟩:=aq (l:=x.nn) (i:=k) O;have hne:=aM hr;have w1:=SN ((k:Int)+1) O;simp only[go_sem,h8,hb,hr,hne];refine hY k [aa k,ah r] H' _ (PY hr) hj hn (fun H2 hj2 hn2=>⟨trivial,?_⟩) (fun H2 hs2 hn2=>⟨trivial,?_⟩)
  ·simp only[go_sem,h8,w1];exact⟨O,⟨k+1,W5,O,hj2,O⟩,O⟩
  ·simp only[go_sem];exact ar.mk O (hSt H2 hs2 O)
 ·simp only[go_sem,h8,hb];have ek:k=(ou x.nn).length:=by rw[Dw];omega
  subst ek;exact ar.mk O (hK H' hj hn)
def P0 (x:Xl)(H:Xn)(K:Xd->Xn->Prop)(hK:K (.ret (.Z 170 [] [.R H.A 0 0])) (ext H [.J 0 73 [.lit (.int .i64 x.L),.M x.F.length (ints x.F),aO x.nn]])):
  ae Tryz.prog G0 168 [sW x] H K:=by
 refine ae.st (n:=4) (rs:=[.tmp 2]) Tryz.func168 ?_;simp only[go_sem,sW];exact ar.mk (by simp[aX]) hK
def zg {g:Int}(h:∀w∈l,0<=w):0<=l.sum:=by
 induction l with
 |nil=>simp
 |cons a l ih =>
  have h1:=ih fun w hw=>h w (by simp[hw]);have h2:=h a W5;simp only[T8];omega
def zh (h:∀w∈l,0<=w):∀w∈l,w<=l.sum:=by
 induction l with
 |nil=>intro w hw;cases hw
 |cons a l ih =>
  intro w hw;have h1:=zg (g:=0) fun w hw=>h w (UN a hw);have h2:=h a W5;simp only[T8];rcases List.mem_cons.1 hw with rfl|hw
  ·omega
  ·have:=ih (fun w hw=>h w (by simp[hw])) w hw;omega
noncomputable def mg (g:Int)(ns:List Xl)(x:Xl):Bool:=@decide (gI g ns x) (Classical.propDecidable _)
def Dx (h:gI g ns x):mg g ns x=true:=by unfold mg;exact @decide_eq_true _ (Classical.propDecidable _) h
def P8 (h:¬gI g ns x):mg g ns x=false:=by unfold mg;exact @decide_eq_false _ (Classical.propDecidable _) h
def P9 :mg g ns x=true↔gI g ns x:=by unfold mg;exact @decide_eq_true_iff _ (Classical.propDecidable _)
def Qa (g:Int)(hg:1<=g/\g<=60)(ns:List Xl)(sets:List Nat)(x:Xl)(hin:fR x.F ns.length)(hsm:dR (aV ns x))(hx1:(x.nn.length:Int)<2 ^ 38)(hx2:∀r∈x.nn,(r.length:Int)<2 ^ 38)(H:Xn)(K:Xd->Xn->Prop)
  (hK:K (.ret (.lit (.bool (mg g ns x)))) H):ae Tryz.prog G0 161 [.agg [.lit (.int .i64 g),dL ns,ah (aj ns),iW sets,.lit (.slice none 0 0)],sW x] H K:=by
 refine ae.Z ⟨_,Tryz.func161,rfl,rfl⟩ fun hcl=>?_;have l12:=hsm.1;have pl:(aV ns x).length=x.F.length:=iq _ _;have no:¬gI g ns x->∀H',Xb H H'->ar Tryz.prog G0 H K (.lit (.bool false)) H':=fun h H' ov=>ar.bE aH hcl ov (.lit _) (by rw[P8 h]at hK;exact hK);refine ae.st (n:=66) (rs:=[.cell 4 4]) Tryz.func161 ?_;simp only[go_sem,dL,sW];obtain⟨H1,hH1⟩:∃H1,H1=ext H [.J 0 209 [.lit (.int .i64 g),.M ns.length (aE ns),.M (aj ns).length (ints (aj ns)),.M sets.length (sets.map bJ),.lit (.slice none 0 0)],.J 0 73 [.lit (.int .i64 x.L),.M x.F.length (ints x.F),aO x.nn],.J 0 4 [.lit (.bool false)]]:=⟨_,rfl⟩
 have l1:H1.X H.A 0=some (209,[.lit (.int .i64 g),.M ns.length (aE ns),.M (aj ns).length (ints (aj ns)),.M sets.length (sets.map bJ),.lit (.slice none 0 0)]):=by rw[hH1];exact af (cV ..)
 have l2:H1.X (H.A+1) 0=some (73,[.lit (.int .i64 x.L),.M x.F.length (ints x.F),aO x.nn]):=by rw[hH1];exact af (bL H _ 1 W5)
 have g3:=gE hH1 2 rfl
 have n1:H1.A=H.A+3:=hH1▸rfl
 have o1:Xb H H1:=hH1▸.ext _ _
 rw[<- hH1];refine W.aP 268370080 (by rfl) (fun ρ H'=>H'=H1/\∃k:Nat,ρ 16=aa k/\k<=x.F.length/\ρ 5=aa (aA ((aV ns x).take k))) (fun ρ H=>x.F.length-(iv (ρ 16)).toNat) ?_ ?_
 ·simp only[go_sem];exact⟨0,rfl,O,by simp[gQ]⟩
 rintro ρ H' ⟨rfl,k,h16,hk,h5⟩;refine W.vs ?_;by_cases hb:(k:Int)<x.F.length
 ·obtain⟨q,hq⟩:=aq (l:=x.F) (i:=k) O;obtain⟨j,rfl,y,hy⟩:=lP (l:=ns) (hin q (an hq)).1 (hin q (an hq)).2;have hne2:=aM hq;have hyc:=cC hy;have hne3:=aM hyc;have hj:(j:Int)<(aj ns).length:=by have:=aI hyc;omega
  have pk:(aV ns x)[k]?=some y.L:=by
   rw[show (aV ns x)[k]?=_ from jJ hq,Int.toNat_natCast,bq hyc]
  have b1:=(hsm.take (k+1)).prod;rw[aU pk,fZ]at b1;have w1:=SN ((k:Int)+1) O;have w2:=SN (aA ((aV ns x).take k)*y.L) O;simp only[go_sem,h16,h5,l1,hb,hq,hne2,hj,hyc,hne3,w1,w2];exact⟨⟨k+1,W5,O,by rw[aU pk,fZ]⟩,O⟩
 rw[SR O]at h5;by_cases c1:(x.nn.length:Int)=aA (aV ns x);rotate_left
 ·simp only[go_sem,h16,h5,l2,hb,c1,aO];have l3:=af g3;simp only[go_sem,l3];exact no (fun h=>c1 h.1) _ (o1.upd O _)
 simp only[go_sem,h16,h5,l2,hb,c1,aO];refine az.Z (P0 x _ _ ⟨trivial,?_⟩);simp only[go_sem];obtain⟨H2,hH2⟩:∃H2,H2=ext H' [.J 0 73 [.lit (.int .i64 x.L),.M x.F.length (ints x.F),aO x.nn]]:=⟨_,rfl⟩
 rw[<- hH2];have o2:Xb H' H2:=by rw[hH2];exact .ext _ _
 have n2:H2.A=H.A+4:=by rw[hH2,aX,n1];rfl
 have hbx:H2.get H'.A=some (.J 0 73 [.lit (.int .i64 x.L),.M x.F.length (ints x.F),aO x.nn]):=by rw[hH2];exact da
 refine W.env fun E hE=>?_;have e2:E 2=.R H.A 0 0:=by rw[hE];simp only[go_sem]
 have e3:E 3=.R (H.A+1) 0 0:=by rw[hE];simp only[go_sem]
 have e4:E 4=.R (H.A+2) 0 0:=by rw[hE];simp only[go_sem]
 have i1:H2.X H.A 0=some (209,[.lit (.int .i64 g),.M ns.length (aE ns),.M (aj ns).length (ints (aj ns)),.M sets.length (sets.map bJ),.lit (.slice none 0 0)]):=(o2.X O).trans l1;have i2:H2.X (H.A+1) 0=some (73,[.lit (.int .i64 x.L),.M x.F.length (ints x.F),aO x.nn]):=(o2.X O).trans l2;have i3:H2.get (H.A+2)=some (.J 0 4 [.lit (.bool false)]):=(o2.nl _ O).trans g3;refine W.pK (f:=170) (first:=[]) (cap:=[.R H'.A 0 0]) (by show E 34=_;rw[hE];rfl) (PZ x O H'.A)
  (fun k Hx=>Xb H2 Hx/\∀r∈x.nn.take k,km g x.L r) (fun c Hx=>c=.ret/\Xb H Hx/\H.A+4<=Hx.A/\Hx.get (H.A+2)=some (.J 0 4 [.lit (.bool false)])/\¬gI g ns x)
  (fun k Hx h=>by rw[h.1.nl _ O];exact hbx) (fun k Hx b h=>⟨h.1.upd W8 b,h.2⟩) (fun c Hx b h=>⟨h.1,h.2.1.upd O b,h.2.2.1,by rw[ag,SQ O];exact h.2.2.2.1,h.2.2.2.2⟩)
  (fun b=>⟨.ext _ _,W5⟩) W6 (fun y hy=>by
   obtain⟨k,hk⟩:=SY.1 hy;obtain⟨r,_,rfl⟩:=Dv hk;rfl) (fun _ _ _=>trivial) (fun _ _ _=>trivial) (fun k y Hx B Bb hy hj hn hB hBb=>?_) (fun Hx hj hn=>?_) (fun Hx hs hn=>?_) (fun i Hx hs hn=>by cases hs.1)
 ·obtain⟨r,hr,rfl⟩:=Dv hy;refine W.vs ?_;simp only[go_sem,ic,cG,jn,TF,Ur,TV,T1,hB];obtain⟨H3,hH3⟩:∃H3,H3=Hx.upd H2.A Bb:=⟨_,rfl⟩
  rw[<- hH3];obtain⟨st,pd,n',en,ps',as',bo,hBe⟩:=hBb;have o3:Xb H2 H3:=by rw[hH3];exact hj.1.upd W8 Bb
  have o4:Xb H H3:=(o1.trans o2).trans o3;have n3:H3.A=Hx.A:=by rw[hH3];rfl
  have j1:=(o3.X (g:=0) (by omega:H.A<H2.A)).trans i1;have j2:=(o3.X (g:=0) (by omega:H.A+1<H2.A)).trans i2;have j3:=(o3.nl _ (by omega:H.A+2<H2.A)).trans i3;have j4:=af j3;have jB:H3.get H2.A=some Bb:=by rw[hH3,ag,SU rfl]
  have nB:¬H2.A=H.A+2:=O
  have hrm:=an hr;have hrl:=hx2 r hrm;have nope:¬km g x.L r->¬gI g ns x:=fun h h'=>h (h'.2 r hrm);have stop:¬km g x.L r->(H3.upd (H.A+2) (Xe.J 0 4 [.lit (.bool false)])).get H2.A=some Bb/\Hx.A<=(H3.upd (H.A+2) (Xe.J 0 4 [.lit (.bool false)])).A/\Xb H (H3.upd (H.A+2) (Xe.J 0 4 [.lit (.bool false)])) /\
    H.A+4<=(H3.upd (H.A+2) (Xe.J 0 4 [.lit (.bool false)])).A/\(H3.upd (H.A+2) (Xe.J 0 4 [.lit (.bool false)])).get (H.A+2)=some (.J 0 4 [.lit (.bool false)])/\¬gI g ns x:=fun h =>
   ⟨by rw[ag,SQ nB];exact jB,by rw[aF];omega,o4.upd O _,by rw[aF];omega,by rw[ag,SU rfl],nope h⟩
  refine W.vs ?_;simp only[go_sem,cG,e2,j1];refine W.aP 144110790029349888 (by rfl) (fun ρ2 H4=>H4=H3/\∃i:Nat,ρ2 42=aa i/\i<=r.length/\(∀w∈r.take i,0<=w)/\(r.take i).sum<=g/\ρ2 10=aa (g-(r.take i).sum)) (fun ρ2 H=>r.length-(iv (ρ2 42)).toNat) ?_ ?_
  ·simp only[go_sem];exact⟨0,rfl,O,W5,by simp;omega,W5⟩
  rintro ρ2 H4 ⟨rfl,i,h42,hi,hw0,hws,h10⟩;refine W.vs ?_;have s0:=zg (g:=g) hw0;by_cases hb2:(i:Int)<r.length
  ·obtain⟨a,ha⟩:=aq (l:=r) (i:=i) O;have ham:=an ha;have hane:=aM ha;by_cases d1:a<0
   ·simp only[go_sem,h42,hb2,ha,hane,d1,cG,e4,j4,eM];exact stop fun h=>by have:=h.2.1 a ham;omega
   by_cases d2:a > g-(r.take i).sum
   ·simp only[go_sem,h42,h10,hb2,ha,hane,d1,d2,cG,e4,j4,eM];refine stop fun h=>?_;have h1:r.sum=(r.take (i+1)).sum+(r.drop (i+1)).sum:=(by rw[<- VV,TA]);rw[aU ha,zf]at h1;have h2:=zg (g:=g) (l:=r.drop (i+1)) fun w hw=>(h.2.1 w (UM hw)).1;have:=h.2.2;omega
   have w1:=SN ((i:Int)+1) O;have w2:=SN (g-(r.take i).sum-a) O;simp only[go_sem,h42,h10,hb2,ha,hane,d1,d2,w1,w2,cG];refine⟨⟨_,_,_,_,_,_,_,by rw[jB,hBe]⟩,⟨i+1,W5,O,fun w hw=>?_,by rw[aU ha,zf];omega,?_⟩,O⟩
   ·rw[aU ha]at hw;rcases Tk.1 hw with hw|hw
    ·exact hw0 w hw
    ·obtain rfl:=List.mem_singleton.1 hw;omega
   ·rw[aU ha,zf];show aa _=aa _;congr 1;omega
  ·rw[SR O]at hw0 hws h10 s0;by_cases d1:(r.length:Int)=x.L;rotate_left
   ·simp only[go_sem,h42,hb2,d1,cG,e3,e4,j2,j4,eM];exact stop fun h=>d1 h.1
   have hb2':¬(i:Int)<x.L:=O;by_cases d2:g-r.sum=0;rotate_left
   ·simp only[go_sem,h42,h10,hb2',d1,d2,cG,e3,e4,j2,j4,eM];exact stop fun h=>by have:=h.2.2;omega
   simp only[go_sem,h42,h10,hb2',d1,d2,cG,e3,j2,eM];refine⟨jB,O,o3,fun y hy=>?_⟩;rw[aU hr]at hy;rcases Tk.1 hy with hy|hy
   ·exact hj.2 y hy
   ·obtain rfl:=List.mem_singleton.1 hy;exact⟨d1,fun w hw=>⟨hw0 w hw,by have:=zh hw0 w hw;omega⟩,O⟩
 ·have hok:gI g ns x:=⟨c1,by
   have:=hj.2;rw[Dw,Vi]at this;exact this⟩
  have j4:=af ((hj.1.nl _ (by omega:H.A+2<H2.A)).trans i3);rw[Dx hok]at hK;simp only[go_sem,e4,j4];exact ar.bE aH hcl (((o1.trans o2).trans hj.1).upd O _) (.lit _) hK
 ·obtain⟨_,o4,n4,g4,hno⟩:=hs;have j4:=af g4;simp only[go_sem,e4,j4];exact no hno _ o4
end Go.Proofs
namespace Go.Hx
variable {e:TypeId}{H:Xn}
def aD.pG {lo:Nat}{v:W9}{l:List Int}(h:aD lo H e v (ints l)):Xx H v (ah l):=by
 rcases h with ⟨rfl,h⟩|⟨id,g,h1,h2,rfl,h4⟩
 ·have:l=[]:=by cases l with
   |nil=>rfl
   |cons a l=>simp[ints]at h
  subst this;exact .nil
 ·have e:ah l=.M (ints l).length (ints l):=by rw[aS];rfl
  rw[e];refine .Q h4 W5 fun j hj h2 h'=>?_;simp only[Nat.zero_add,ints,S9];exact .lit _
def Fz.qZ {id g n nx:Nat}{cs:List W9}(hg:H.get id=some (.J g e cs))(hn:n=cs.length)(hl:∀c∈cs,∃v,c=.lit v):Fz (fun _=>True) H nx (.Q id g 0 n 1) (.M n cs):=by
 refine .ny trivial hg O fun j hj h2 h'=>?_;simp only[Nat.zero_add];obtain⟨v,hv⟩:=hl _ (TC h');rw[hv];exact .lit _
end Go.Hx
namespace Go.Proofs
open Go.Hx
variable {n:Nat}{p:Nat->Bool}
def bf (l:List Nat):List Int:=l.map fun (v:Nat)=>(v:Int)
def Dy {j:Nat}(hj:j<n)(h1:∀v,v<j->p v=false)(h2:p j=true):(List.range n).find? p=some j:=by
 rw[List.find?_eq_some_iff_getElem];refine⟨h2,j,by simpa using hj,W5,fun k hk=>?_⟩;simp only[List.getElem_range];simp[h1 k hk]
def Dz (h1:∀v,v<n->p v=false):(List.range n).find? p=none:=by
 rw[VK];intro x hx;simp[h1 x (S7.1 hx)]
def Qb (ps:List Nat)(hl:ps.length<=60)(hp:∀p∈ps,p<2 ^ 64)(H:Xn)(K:Xd->Xn->Prop)
  (hK:∀v H',Xb H H'->(match fw ps with|some o=>aD H.A H' 3 v (ints (bf o))|none=>v=.lit (.slice none 0 0))->K (.ret (.na [v,.lit (.bool (fw ps).isSome)])) H'):ae Tryz.prog G0 162 [iW ps] H K:=by
 have no:∀H',fw ps=none->Xb H H'->ar Tryz.prog G0 H K (.na [.lit (.slice none 0 0),.lit (.bool false)]) H':=fun H' h ov=>ar.mk ov.A (by
  have:=hK (.lit (.slice none 0 0)) H' ov;rw[h]at this;exact this rfl)
 refine ae.st (n:=44) (rs:=[.tmp 2,.tmp 3]) Tryz.func162 ?_;simp only[go_sem];refine⟨O,?_⟩;refine W.aP 8796093020412 (by rfl) (fun ρ H'=>∃(out:List Nat) (done:Nat),ρ 5=bJ done/\done<2 ^ 64/\out.length<=ps.length/\H.A+1<=H'.A/\Xb H H'/\aD H.A H' 3 (ρ 4) (ints (bf out))/\(∃id g,ρ 4=.Q id g 0 out.length 1)/\gR ps (ps.length-out.length) out done=fw ps)
  (fun ρ H=>ps.length-(match ρ 4 with|.Q _ _ _ n _=>n|_=>0)) ?_ ?_
 ·simp only[go_sem];exact⟨[],0,W5,W6,Uh _,.ext _ _,.inr ⟨H.A,0,W8,by simp[aX],rfl,cV H _ []⟩,⟨_,_,rfl⟩,rfl⟩
 rintro ρ H' ⟨out,done,h5,hd,ho,hn0,ov,h4,⟨id,gn,h4e⟩,ht⟩;refine W.vs ?_;have lv:H'.X id gn=some (3,ints (bf out)):=by
  rcases h4 with ⟨h,_⟩|⟨i,g,h1,h2,h3,h4⟩
  ·rw[h4e]at h;cases h
  ·rw[h4e]at h3;have:=W9.Q.inj h3;obtain⟨rfl,rfl,_⟩:=this;exact af h4
 by_cases hb:(out.length:Int)<ps.length
 ·simp only[go_sem,h4e,lv,hb];have hk1:ps.length-out.length=(ps.length-(out.length+1))+1:=O
  refine W.aP 8796092760304 (by rfl) (fun ρ2 H2=>H2=H'/\∃j:Nat,ρ2 18=aa j/\j<=ps.length/\ρ2 4=.Q id gn 0 out.length 1/\ρ2 5=bJ done/\∀v,v<j->jw ps done v=false) (fun ρ2 H=>ps.length-(iv (ρ2 18)).toNat) ?_ ?_
  ·simp only[go_sem,h4e,h5];exact⟨0,rfl,O,fun v h=>absurd h (Tb _)⟩
  rintro ρ2 H2 ⟨rfl,j,h18,hj,h4',h5',hno⟩;refine W.vs ?_;by_cases hb2:(j:Int)<ps.length
  ·obtain⟨p,hpj⟩:=aq (l:=ps) (i:=j) O;have hp1:=hp p (an hpj);have hne:=aM hpj;have s1:=fun t x y=>mi (P:=Tryz.prog) (t:=t) (x:=x) (y:=y) (k':=.i64) (s:=j) hd;have s2:=fun t x y=>nj (P:=Tryz.prog) (t:=t) (x:=x) (y:=y) (s:=j) hd;have s3:=fun t x y=>zD (P:=Tryz.prog) (t:=t) (x:=x) (y:=y) (a:=p) (b:=done);have w1:=SN ((j:Int)+1) O;have cont:jw ps done j=false->∀v,v<j+1->jw ps done v=false:=fun h v hv=>by
    rcases Tg v j with h'|h'
    ·exact hno v h'
    ·obtain rfl:v=j:=O;exact h
   have fe:jw ps done j=(!done.testBit j && decide (iP p done=0)):=(by unfold jw;rw[bq hpj]);cases hbit:done.testBit j;rotate_left
   ·simp only[go_sem,h18,h4',h5',hb2,hpj,hne,s1,s2,hbit,w1];exact⟨⟨j+1,W5,O,cont (by rw[fe,hbit];rfl)⟩,O⟩
   by_cases hz:iP p done=0;rotate_left
   ·have hz':¬((iP p done:Nat):Int)=0:=O;simp only[go_sem,h18,h4',h5',hb2,hpj,hne,s1,s2,s3,hbit,hz',w1];exact⟨⟨j+1,W5,O,cont (by rw[fe,hbit];simp[hz])⟩,O⟩
   have hz':((iP p done:Nat):Int)=0:=O;have hnx:jW ps done=some j:=Dy O hno (by rw[fe,hbit];simp[hz]);obtain⟨v',H3,hA,ov2,hO,hn2,_⟩:=mj (j:Int) ov h4 (by simp[bf];omega);rw[h4e]at hA;have b2:(2:Nat) ^ j<2 ^ 64:=Ui W6 O;have s4:=fun t x y=>ni (P:=Tryz.prog) (t:=t) (x:=x) (y:=y) (k':=.i64) (s:=j) O;have s5:=fun t x y=>kv (P:=Tryz.prog) (t:=t) (x:=x) (y:=y) hd b2;simp only[go_sem,h18,h4',h5',hb2,hpj,hne,s1,s2,s3,s4,s5,hbit,hz',hA];have hO':aD H.A H3 3 v' (ints (bf (out++[j]))):=by
    have e:bf (out++[j])=bf out++[(j:Int)]:=(by simp[bf]);rw[e];exact hO
   have hv':∃id g,v'=.Q id g 0 (out.length+1) 1:=by
    rcases hO' with ⟨_,h⟩|⟨i,g,_,_,h3,_⟩
    ·simp[ints,bf]at h
    ·exact⟨i,g,by rw[h3,aS];simp[bf]⟩
   obtain⟨i2,g2,rfl⟩:=hv';refine⟨O,⟨out++[j],done |||2 ^ j,rfl,UO hd b2,by simp;omega,O,ov2,hO',⟨i2,g2,W5⟩,?_⟩,by simp only;omega⟩;rw[<- ht,hk1]
   conv=>rhs;unfold gR
   rw[hnx];simp
  ·simp only[go_sem,h18,hb2];refine no _ ?_ ov;rw[<- ht,hk1];unfold gR;have:jW ps done=none:=Dz fun v hv=>hno v O;rw[this]
 ·simp only[go_sem,h4e,lv,hb];have hz:ps.length-out.length=0:=O
  rw[hz]at ht;have ht':fw ps=some out:=ht.symm;have:=hK (.Q id gn 0 out.length 1) H' ov;rw[ht']at this;refine ar.mk ov.A (this ?_);rw[h4e]at h4;exact h4
def Qc (ps:List Nat)(hl:ps.length<=60)(hp:∀p∈ps,p<2 ^ 64)(H:Xn)(v:W9)(hv:Fz (fun _=>True) H 0 v (iW ps))(K:Xd->Xn->Prop)
  (hK:K (.ret (.na [ah (bf ((fw ps).getD [])),.lit (.bool (fw ps).isSome)])) H):ae Tryz.prog G0 162 [v] H K:=by
 refine(ae.frame (H:=H) (args:=[v]) (args':=[iW ps]) (v':=.na [ah (bf ((fw ps).getD [])),.lit (.bool (fw ps).isSome)]) aH rfl (fun i hi _=>match i,hi with|0,_=>hv) (Qb ps hl hp dp _ fun u H' ov hu=>⟨_,rfl,?_⟩)).mono ?_
 ·refine .na rfl fun i hi _=>?_
  match i,hi with
  |0,_ =>
   show Xx H' u _;cases ht:fw ps with
   |none=>rw[ht]at hu;simp only at hu;rw[hu];show Xx H' _ (ah []);exact .nil
   |some o=>rw[ht]at hu;exact aD.pG hu
  |1,_=>exact .lit _
 ·rintro r H' ⟨rfl,rfl⟩;exact hK
end Go.Proofs
