/-
  Closed facts of this seat's types. Laid by a program of ours.
-/
import Derived.Test.YtjhbjbninamhnaaGreatProg
import Derived.Test.YtjhbjbninamhnaaGreatLibC
import Derived.Test.YtjhbjbninamhnaaGreatLibB
set_option linter.all false
namespace Go.Proofs
open Go.Hx
theorem Tryz.mixed:Tryz.prog.follows .mixedOrders=true:=by kernel_rfl
theorem Tryz.eU:Tryz.prog.cellsOf 3=1:=by kernel_rfl
theorem Tryz.fG:Tryz.prog.bytesOf 3=8:=by kernel_rfl
theorem Tryz.eV:bZ Tryz.prog 3=some [.lit (.int .i64 0)]:=by kernel_rfl
theorem Tryz.A6:Tryz.prog.cellsOf 4=1:=by kernel_rfl
theorem Tryz.Lh:Tryz.prog.bytesOf 4=1:=by kernel_rfl
theorem Tryz.Li:bZ Tryz.prog 4=some [.lit (.bool false)]:=by kernel_rfl
theorem Tryz.qj:Tryz.prog.cellsOf 5=1:=by kernel_rfl
theorem Tryz.Lj:Tryz.prog.bytesOf 5=1:=by kernel_rfl
theorem Tryz.Lk:bZ Tryz.prog 5=some [.lit (.int .u8 0)]:=by kernel_rfl
theorem Tryz.A7:Tryz.prog.cellsOf 22=1:=by kernel_rfl
theorem Tryz.uu:Tryz.prog.cellsOf 23=1:=by kernel_rfl
theorem Tryz.A8:Tryz.prog.cellsOf 25=3:=by kernel_rfl
theorem Tryz.Ll:bK Tryz.prog 25 0=some (0,5):=by kernel_rfl
theorem Tryz.Lm:bK Tryz.prog 25 1=some (1,22):=by kernel_rfl
theorem Tryz.Ln:bK Tryz.prog 25 2=some (2,23):=by kernel_rfl
theorem Tryz.A9:Tryz.prog.cellsOf 26=1:=by kernel_rfl
theorem Tryz.Lo:Tryz.prog.cellsOf 28=6:=by kernel_rfl
theorem Tryz.Lp:bK Tryz.prog 28 0=some (0,25):=by kernel_rfl
theorem Tryz.Lq:bK Tryz.prog 28 1=some (3,5):=by kernel_rfl
theorem Tryz.Lr:bK Tryz.prog 28 2=some (4,4):=by kernel_rfl
theorem Tryz.Ls:bK Tryz.prog 28 3=some (5,26):=by kernel_rfl
theorem Tryz.Lt:Tryz.prog.cellsOf 33=1:=by kernel_rfl
theorem Tryz.Lu:bZ Tryz.prog 33=some [.lit (.slice none 0 0)]:=by kernel_rfl
theorem Tryz.Lv:Tryz.prog.cellsOf 34=1:=by kernel_rfl
theorem Tryz.Ba:Tryz.prog.cellsOf 35=1:=by kernel_rfl
theorem Tryz.Bc:Tryz.prog.bytesOf 35=8:=by kernel_rfl
theorem Tryz.Bd:bZ Tryz.prog 35=some [.lit (.int .u64 0)]:=by kernel_rfl
theorem Tryz.Lw:Tryz.prog.cellsOf 36=1:=by kernel_rfl
theorem Tryz.Lx:Tryz.prog.cellsOf 38=4:=by kernel_rfl
theorem Tryz.Ly:bZ Tryz.prog 38=some [.lit (.int .i64 0),.lit (.slice none 0 0),.lit (.int .u64 0),.lit (.slice none 0 0)]:=by kernel_rfl
theorem Tryz.Lz:iZ Tryz.prog 38=some [(0,1),(1,1),(2,1),(3,1)]:=by kernel_rfl
theorem Tryz.LA:bK Tryz.prog 38 0=some (0,3):=by kernel_rfl
theorem Tryz.LB:bK Tryz.prog 38 1=some (1,34):=by kernel_rfl
theorem Tryz.LC:bK Tryz.prog 38 2=some (2,35):=by kernel_rfl
theorem Tryz.LD:bK Tryz.prog 38 3=some (3,36):=by kernel_rfl
theorem Tryz.LF:Tryz.prog.cellsOf 41=2:=by kernel_rfl
theorem Tryz.LG:bZ Tryz.prog 41=some [.lit (.int .i64 0),.lit (.int .i64 0)]:=by kernel_rfl
theorem Tryz.LH:iZ Tryz.prog 41=some [(0,1),(1,1)]:=by kernel_rfl
theorem Tryz.LI:bK Tryz.prog 41 0=some (0,3):=by kernel_rfl
theorem Tryz.LJ:bK Tryz.prog 41 1=some (1,3):=by kernel_rfl
theorem Tryz.LK:Tryz.prog.cellsOf 42=1:=by kernel_rfl
theorem Tryz.LL:bZ Tryz.prog 42=some [.lit (.int .i64 0)]:=by kernel_rfl
theorem Tryz.qk:Tryz.prog.cellsOf 46=1:=by kernel_rfl
theorem Tryz.qm:Tryz.prog.bytesOf 46=24:=by kernel_rfl
theorem Tryz.qo:bZ Tryz.prog 46=some [.lit (.slice none 0 0)]:=by kernel_rfl
theorem Tryz.Be:Tryz.prog.cellsOf 63=2:=by kernel_rfl
theorem Tryz.Bf:Tryz.prog.bytesOf 63=16:=by kernel_rfl
theorem Tryz.Bg:bZ Tryz.prog 63=some [.lit (.int .i64 0),.lit (.int .i64 0)]:=by kernel_rfl
theorem Tryz.xN:Tryz.prog.cellsOf 73=3:=by kernel_rfl
theorem Tryz.xO:Tryz.prog.bytesOf 73=56:=by kernel_rfl
theorem Tryz.xP:bZ Tryz.prog 73=some [.lit (.int .i64 0),.lit (.slice none 0 0),.lit (.slice none 0 0)]:=by kernel_rfl
theorem Tryz.LM:iZ Tryz.prog 73=some [(0,1),(1,1),(2,1)]:=by kernel_rfl
theorem Tryz.LN:bK Tryz.prog 73 0=some (0,3):=by kernel_rfl
theorem Tryz.LO:bK Tryz.prog 73 1=some (1,46):=by kernel_rfl
theorem Tryz.LP:bK Tryz.prog 73 2=some (2,33):=by kernel_rfl
theorem Tryz.Bh:Tryz.prog.cellsOf 77=1:=by kernel_rfl
theorem Tryz.Bi:Tryz.prog.cellsOf 78=1:=by kernel_rfl
theorem Tryz.Bj:Tryz.prog.cellsOf 80=2:=by kernel_rfl
theorem Tryz.LR:bK Tryz.prog 80 0=some (0,5):=by kernel_rfl
theorem Tryz.LS:bK Tryz.prog 80 1=some (1,78):=by kernel_rfl
theorem Tryz.Bk:Tryz.prog.cellsOf 82=2:=by kernel_rfl
theorem Tryz.Bl:Tryz.prog.bytesOf 82=48:=by kernel_rfl
theorem Tryz.Bm:bZ Tryz.prog 82=some [.lit (.slice none 0 0),.lit (.slice none 0 0)]:=by kernel_rfl
theorem Tryz.LU:iZ Tryz.prog 82=some [(0,1),(1,1)]:=by kernel_rfl
theorem Tryz.LV:bK Tryz.prog 82 0=some (0,46):=by kernel_rfl
theorem Tryz.LW:bK Tryz.prog 82 1=some (1,46):=by kernel_rfl
theorem Tryz.Bn:Tryz.prog.cellsOf 98=4:=by kernel_rfl
theorem Tryz.LX:Tryz.prog.cellsOf 103=2:=by kernel_rfl
theorem Tryz.LY:bZ Tryz.prog 103=some [.lit (.int .i64 0),.lit (.slice none 0 0)]:=by kernel_rfl
theorem Tryz.LZ:iZ Tryz.prog 103=some [(0,1),(1,1)]:=by kernel_rfl
theorem Tryz.L1:bK Tryz.prog 103 0=some (0,3):=by kernel_rfl
theorem Tryz.L3:bK Tryz.prog 103 1=some (1,34):=by kernel_rfl
theorem Tryz.L4:Tryz.prog.cellsOf 106=1:=by kernel_rfl
theorem Tryz.L5:Tryz.prog.cellsOf 110=1:=by kernel_rfl
theorem Tryz.L6:bZ Tryz.prog 110=some [.lit (.pointer none)]:=by kernel_rfl
theorem Tryz.L7:Tryz.prog.cellsOf 128=1:=by kernel_rfl
theorem Tryz.L8:bZ Tryz.prog 130=some [.lit (.int .i64 0),.lit (.slice none 0 0),.lit (.int .u64 0),.lit (.slice none 0 0),.lit (.slice none 0 0),.lit (.slice none 0 0),.lit (.slice none 0 0),.lit (.int .i64 0)]:=by kernel_rfl
theorem Tryz.L9:iZ Tryz.prog 130=some [(0,4),(4,1),(5,1),(6,1),(7,1)]:=by kernel_rfl
theorem Tryz.Ma:bK Tryz.prog 130 0=some (0,38):=by kernel_rfl
theorem Tryz.Mb:bK Tryz.prog 130 1=some (4,128):=by kernel_rfl
theorem Tryz.Mc:bK Tryz.prog 130 2=some (5,46):=by kernel_rfl
theorem Tryz.Md:bK Tryz.prog 130 3=some (6,46):=by kernel_rfl
theorem Tryz.Me:bK Tryz.prog 130 4=some (7,3):=by kernel_rfl
theorem Tryz.Mf:Tryz.prog.cellsOf 136=1:=by kernel_rfl
theorem Tryz.Mg:Tryz.prog.cellsOf 147=3:=by kernel_rfl
theorem Tryz.Mh:bZ Tryz.prog 147=some [.lit (.int .i64 0),.lit (.slice none 0 0),.lit (.slice none 0 0)]:=by kernel_rfl
theorem Tryz.Mi:iZ Tryz.prog 147=some [(0,2),(2,1)]:=by kernel_rfl
theorem Tryz.Mj:bK Tryz.prog 147 0=some (0,103):=by kernel_rfl
theorem Tryz.Mk:bK Tryz.prog 147 1=some (2,36):=by kernel_rfl
theorem Tryz.Ml:Tryz.prog.cellsOf 149=1:=by kernel_rfl
theorem Tryz.Mm:Tryz.prog.cellsOf 150=1:=by kernel_rfl
theorem Tryz.Mn:Tryz.prog.cellsOf 162=3:=by kernel_rfl
theorem Tryz.Mo:bZ Tryz.prog 162=some [.lit (.slice none 0 0),.lit (.int .u16 0),.lit (.slice none 0 0)]:=by kernel_rfl
theorem Tryz.Mp:iZ Tryz.prog 162=some [(0,1),(1,1),(2,1)]:=by kernel_rfl
theorem Tryz.Mq:bK Tryz.prog 162 0=some (0,23):=by kernel_rfl
theorem Tryz.Mr:bK Tryz.prog 162 2=some (2,23):=by kernel_rfl
theorem Tryz.Bo:Tryz.prog.cellsOf 165=3:=by kernel_rfl
theorem Tryz.Ms:bZ Tryz.prog 165=some [.lit (.int .u8 0),.lit (.int .u8 0),.lit (.slice none 0 0)]:=by kernel_rfl
theorem Tryz.Mt:bK Tryz.prog 165 0=some (0,5):=by kernel_rfl
theorem Tryz.Mu:bK Tryz.prog 165 1=some (1,5):=by kernel_rfl
theorem Tryz.Mv:bK Tryz.prog 165 2=some (2,23):=by kernel_rfl
theorem Tryz.Bp:Tryz.prog.cellsOf 170=1:=by kernel_rfl
theorem Tryz.Bq:Tryz.prog.bytesOf 170=8:=by kernel_rfl
theorem Tryz.Br:bZ Tryz.prog 170=some [.lit (.pointer none)]:=by kernel_rfl
theorem Tryz.Mw:Tryz.prog.cellsOf 171=1:=by kernel_rfl
theorem Tryz.Mx:bZ Tryz.prog 171=some [.lit (.slice none 0 0)]:=by kernel_rfl
theorem Tryz.My:bZ Tryz.prog 173=some [.lit (.int .i64 0),.lit (.int .i64 0),.lit (.slice none 0 0),.lit (.slice none 0 0),.lit (.slice none 0 0),.lit (.slice none 0 0),.lit (.slice none 0 0)]:=by kernel_rfl
theorem Tryz.Mz:iZ Tryz.prog 173=some [(0,1),(1,1),(2,1),(3,1),(4,1),(5,1),(6,1)]:=by kernel_rfl
theorem Tryz.MA:bK Tryz.prog 173 0=some (0,3):=by kernel_rfl
theorem Tryz.MB:bK Tryz.prog 173 1=some (1,3):=by kernel_rfl
theorem Tryz.MC:bK Tryz.prog 173 2=some (2,46):=by kernel_rfl
theorem Tryz.MD:bK Tryz.prog 173 3=some (3,171):=by kernel_rfl
theorem Tryz.ME:bK Tryz.prog 173 4=some (4,46):=by kernel_rfl
theorem Tryz.MF:bK Tryz.prog 173 5=some (5,46):=by kernel_rfl
theorem Tryz.MG:bK Tryz.prog 173 6=some (6,46):=by kernel_rfl
theorem Tryz.MH:Tryz.prog.cellsOf 209=5:=by kernel_rfl
theorem Tryz.MI:bZ Tryz.prog 209=some [.lit (.int .i64 0),.lit (.slice none 0 0),.lit (.slice none 0 0),.lit (.slice none 0 0),.lit (.slice none 0 0)]:=by kernel_rfl
theorem Tryz.MJ:iZ Tryz.prog 209=some [(0,2),(2,1),(3,1),(4,1)]:=by kernel_rfl
theorem Tryz.MK:bK Tryz.prog 209 0=some (0,103):=by kernel_rfl
theorem Tryz.ML:bK Tryz.prog 209 1=some (2,46):=by kernel_rfl
theorem Tryz.MM:bK Tryz.prog 209 2=some (3,106):=by kernel_rfl
theorem Tryz.MN:bK Tryz.prog 209 3=some (4,46):=by kernel_rfl
attribute [go_sem] Tryz.underlying3 Tryz.eU Tryz.fG Tryz.eV Tryz.underlying4 Tryz.A6 Tryz.Lh Tryz.Li Tryz.underlying5 Tryz.qj Tryz.Lj Tryz.Lk
attribute [go_sem] Tryz.underlying9 Tryz.underlying22 Tryz.A7 Tryz.underlying23 Tryz.uu
attribute [go_sem] Tryz.underlying24 Tryz.underlying25 Tryz.A8
attribute [go_sem] Tryz.Ll Tryz.Lm Tryz.Ln Tryz.underlying26 Tryz.A9 Tryz.underlying27
attribute [go_sem] Tryz.underlying28 Tryz.Lo Tryz.Lp Tryz.Lq
attribute [go_sem] Tryz.Lr Tryz.Ls Tryz.underlying29 Tryz.underlying30
attribute [go_sem] Tryz.underlying31
attribute [go_sem] Tryz.underlying32
attribute [go_sem] Tryz.underlying33 Tryz.Lt Tryz.Lu Tryz.underlying34 Tryz.Lv Tryz.underlying35 Tryz.Ba Tryz.Bc Tryz.Bd
attribute [go_sem] Tryz.underlying36 Tryz.Lw Tryz.underlying37
attribute [go_sem] Tryz.underlying38 Tryz.Lx Tryz.Ly Tryz.Lz Tryz.LA Tryz.LB Tryz.LC Tryz.LD Tryz.underlying40
attribute [go_sem] Tryz.underlying41 Tryz.LF Tryz.LG Tryz.LH Tryz.LI Tryz.LJ
attribute [go_sem] Tryz.underlying42 Tryz.LK Tryz.LL Tryz.underlying46 Tryz.qk Tryz.qm Tryz.qo Tryz.underlying48
attribute [go_sem] Tryz.underlying50 Tryz.underlying61 Tryz.underlying63 Tryz.Be Tryz.Bf Tryz.Bg
attribute [go_sem] Tryz.underlying72 Tryz.underlying73 Tryz.xN Tryz.xO Tryz.xP
attribute [go_sem] Tryz.LM Tryz.LN Tryz.LO Tryz.LP Tryz.underlying77 Tryz.Bh Tryz.underlying78 Tryz.Bi
attribute [go_sem] Tryz.underlying79 Tryz.underlying80 Tryz.Bj
attribute [go_sem] Tryz.LR Tryz.LS Tryz.underlying81 Tryz.underlying82 Tryz.Bk Tryz.Bl
attribute [go_sem] Tryz.Bm Tryz.LU Tryz.LV Tryz.LW Tryz.underlying87 Tryz.underlying88
attribute [go_sem] Tryz.underlying98 Tryz.Bn Tryz.underlying102 Tryz.underlying103
attribute [go_sem] Tryz.LX Tryz.LY Tryz.LZ Tryz.L1 Tryz.L3 Tryz.underlying106 Tryz.L4 Tryz.underlying110 Tryz.L5
attribute [go_sem] Tryz.L6 Tryz.underlying117 Tryz.underlying128 Tryz.L7 Tryz.underlying129
attribute [go_sem] Tryz.underlying130 Tryz.L8
attribute [go_sem] Tryz.L9 Tryz.Ma Tryz.Mb Tryz.Mc Tryz.Md Tryz.Me Tryz.underlying136 Tryz.Mf Tryz.underlying146
attribute [go_sem] Tryz.underlying147 Tryz.Mg Tryz.Mh Tryz.Mi Tryz.Mj Tryz.Mk
attribute [go_sem] Tryz.underlying149 Tryz.Ml Tryz.underlying150 Tryz.Mm Tryz.underlying160
attribute [go_sem] Tryz.underlying161 Tryz.underlying162 Tryz.Mn Tryz.Mo
attribute [go_sem] Tryz.Mp Tryz.Mq Tryz.Mr Tryz.underlying164
attribute [go_sem] Tryz.underlying165 Tryz.Bo Tryz.Ms Tryz.Mt Tryz.Mu Tryz.Mv Tryz.underlying170 Tryz.Bp Tryz.Bq Tryz.Br
attribute [go_sem] Tryz.underlying171 Tryz.Mw Tryz.Mx Tryz.underlying172
attribute [go_sem] Tryz.underlying173 Tryz.My Tryz.Mz Tryz.MA Tryz.MB Tryz.MC
attribute [go_sem] Tryz.MD Tryz.ME Tryz.MF Tryz.MG Tryz.underlying208
attribute [go_sem] Tryz.underlying209 Tryz.MH Tryz.MI Tryz.MJ Tryz.MK Tryz.ML Tryz.MM Tryz.MN Tryz.underlying212
attribute [go_sem] Tryz.underlying215 Tryz.underlying219 Tryz.underlying230
def aA (l:List (List Int)):AVal:=.vec l.length (l.map ah)
structure NodeP where
 card:Int
 parents:List Int
 rows:List (List Int)
structure UtilP where
 vars:List Int
 w:List Int
def NodeP.cells (x:NodeP):List AVal:=[aa x.card,ah x.parents,aA x.rows]
def UtilP.cells (x:UtilP):List AVal:=[ah x.vars,ah x.w]
def aB (l:List NodeP):List AVal:=(l.map NodeP.cells).flatten
def aS (l:List UtilP):List AVal:=(l.map UtilP.cells).flatten
def dB (l:List NodeP):AVal:=.vec l.length (aB l)
def uw (l:List UtilP):AVal:=.vec l.length (aS l)
def da (g:Int)(l:List NodeP):AVal:=.agg [aa g,dB l]
structure InfP where
 grain:Int
 nodes:List NodeP
 decs:Nat
 utils:List UtilP
def dW (d:InfP):AVal:=.agg [aa d.grain,dB d.nodes,.lit (.int .u64 (d.decs:Int)),uw d.utils]
theorem je {α:Type}{f:α->List AVal}{z:Nat}(hz:∀ a,(f a).length=z):∀ (l:List α) (i j:Nat) (a:α),l[i]?=some a->j<z->((l.map f).flatten)[i*z+j]?=(f a)[j]?:=by
 intro l
 induction l with
 | nil=>intro i j a h;simp at h
 | cons x l ih =>
  intro i j a h hj;simp only[List.map_cons,List.flatten_cons];cases i with
  | zero =>
   simp only[List.getElem?_cons_zero,Option.some.injEq]at h;subst h;rw[Nat.zero_mul,Nat.zero_add,List.getElem?_append_left (by rw[hz];exact hj)]
  | succ i =>
   have:(i+1)*z+j=z+(i*z+j):=(by rw[Nat.add_mul];omega);rw[this,List.getElem?_append_right (by rw[hz];omega),hz];have:z+(i*z+j) - z=i*z+j:=(by omega);rw[this];exact ih i j a (by simpa using h) hj
theorem lC {α:Type}{f:α->List AVal}{z:Nat}(hz:∀ a,(f a).length=z)(l:List α):((l.map f).flatten).length=l.length*z:=by
 induction l with
 | nil=>simp
 | cons x l ih=>simp only[List.map_cons,List.flatten_cons,List.length_append,ih,hz,List.length_cons];rw[Nat.add_mul];omega
theorem nH {α:Type}{f:α->List AVal}{z:Nat}(hz:∀ a,(f a).length=z):∀ (l:List α) (i:Nat) (a:α),l[i]?=some a->(((l.map f).flatten).drop (i*z)).take z=f a:=by
 intro l i a h;apply List.ext_getElem?;intro j;by_cases hj:j<z
 ·rw[List.getElem?_take_of_lt hj,List.getElem?_drop,je hz l i j a h hj]
 ·rw[List.getElem?_eq_none (by simp;omega),List.getElem?_eq_none (by rw[hz];omega)]
theorem jS (l:List NodeP):(aB l).length=l.length*3:=lC (f:=NodeP.cells) (fun _=>rfl) l
theorem jf {l:List NodeP}{i:Nat}{x:NodeP}(h:l[i]?=some x):(aB l)[i*3]?=some (aa x.card):=je (f:=NodeP.cells) (z:=3) (fun _=>rfl) l i 0 x h (by omega)
theorem lD {l:List NodeP}{i:Nat}{x:NodeP}(h:l[i]?=some x):(aB l)[i*3+1]?=some (ah x.parents):=je (f:=NodeP.cells) (z:=3) (fun _=>rfl) l i 1 x h (by omega)
theorem ux {l:List NodeP}{i:Nat}{x:NodeP}(h:l[i]?=some x):(aB l)[i*3+2]?=some (aA x.rows):=je (f:=NodeP.cells) (z:=3) (fun _=>rfl) l i 2 x h (by omega)
theorem oS {l:List NodeP}{i:Nat}{x:NodeP}(h:l[i]?=some x):((aB l).drop (i*3)).take 3=[aa x.card,ah x.parents,aA x.rows]:=nH (f:=NodeP.cells) (z:=3) (fun _=>rfl) l i x h
theorem eA {l:List NodeP}{i:Nat}{x:NodeP}(h:l[i]?=some x):¬ aB l=[]:=fun e=>by
 have:=jf h;rw[e]at this;simp at this
theorem xQ (l:List UtilP):(aS l).length=l.length*2:=lC (f:=UtilP.cells) (fun _=>rfl) l
theorem MO {l:List UtilP}{i:Nat}{x:UtilP}(h:l[i]?=some x):(aS l)[i*2]?=some (ah x.vars):=je (f:=UtilP.cells) (z:=2) (fun _=>rfl) l i 0 x h (by omega)
theorem xR {l:List UtilP}{i:Nat}{x:UtilP}(h:l[i]?=some x):((aS l).drop (i*2)).take 2=[ah x.vars,ah x.w]:=nH (f:=UtilP.cells) (z:=2) (fun _=>rfl) l i x h
theorem xS {l:List UtilP}{i:Nat}{x:UtilP}(h:l[i]?=some x):¬ aS l=[]:=fun e=>by
 have:=MO h;rw[e]at this;simp at this
theorem get_lt {α:Type}{l:List α}{i:Nat}{x:α}(h:l[i]?=some x):i<l.length:=by
 rcases Nat.lt_or_ge i l.length with h'|h'
 ·exact h'
 ·rw[List.getElem?_eq_none h']at h;cases h
theorem get_of_lt {α:Type}{l:List α}{i:Nat}(h:i<l.length):∃ x,l[i]?=some x:=⟨_,List.getElem?_eq_getElem h⟩
theorem mo {α:Type}{l:List α}{i:Int}(h0:0<=i)(h:i<l.length):∃ k:Nat,i=k/\∃ x,l[k]?=some x:=⟨i.toNat,by omega,get_of_lt (by omega)⟩
def az (l:List Int):Int:=l.foldl (·*·) 1
theorem Bs (l:List Int)(a:Int):l.foldl (·*·) a=a*az l:=by
 unfold az
 induction l generalizing a with
 | nil=>simp
 | cons x l ih=>simp only[List.foldl_cons];rw[ih,ih (1*x),Int.one_mul,Int.mul_assoc]
theorem iL:az []=1:=rfl
theorem jT (x:Int)(l:List Int):az (x :: l)=x*az l:=by
 show List.foldl _ (1*x) l=_;rw[Bs,Int.one_mul]
theorem xT (l l':List Int):az (l++l')=az l*az l':=by
 unfold az;rw[List.foldl_append,Bs];rfl
theorem fH (l:List Int)(x:Int):az (l++[x])=az l*x:=by rw[xT,jT,iL,Int.mul_one]
theorem aT {α:Type}{l:List α}{k:Nat}{x:α}(h:l[k]?=some x):l.take (k+1)=l.take k++[x]:=by
 rw[List.take_add_one,h];rfl
theorem fI {l:List Int}(h:∀ x∈l,1<=x):1<=az l:=by
 induction l with
 | nil=>decide
 | cons x l ih =>
  rw[jT];have h1:=ih fun y hy=>h y (by simp [hy]);have h2:=h x (by simp);have:=Int.mul_le_mul h2 h1 (by omega) (by omega);simpa using this
theorem nI {b:Int}{l:List Int}(hb:0<=b)(h:∀ x∈l,0<=x/\x<=b):0<=az l/\az l<=b ^ l.length:=by
 induction l with
 | nil=>exact⟨by decide,by simp [az]⟩
 | cons x l ih =>
  rw[jT];have h1:=ih fun y hy=>h y (by simp [hy]);have h2:=h x (by simp);refine⟨Int.mul_nonneg h2.1 h1.1,?_⟩;have:=Int.mul_le_mul h2.2 h1.2 h1.1 hb;rw[List.length_cons,Int.pow_succ,Int.mul_comm (b ^ l.length)];exact this
def ak (l:List NodeP):List Int:=l.map (·.card)
def aH (l places:List Int):List Int:=places.map fun p=>l.getD p.toNat 0
def cH (places:List Int)(n:Int):Prop:=places.Pairwise (·<·)/\∀ p∈places,0<=p/\p<n
end Go.Proofs
set_option maxRecDepth 100000
namespace Go.Proofs
open Go.Hx
def G0:Nat->Option (List AVal):=xI
theorem aI:fu G0:=KN
end Go.Proofs
namespace Go.Hx
variable {P:Program} {G:Nat->Option (List AVal)} {Γ Γ':aF} {H H':AHeap} {w w':World}
theorem W.env {n:Nat}{rd:Option Nat}{Q:AX->St->Prop}{c:Code}{ρ:Env}{H:AHeap}(h:∀ E,E=ρ->W P G n rd c Q ⟨E,H⟩):W P G n rd c Q ⟨ρ,H⟩:=h ρ rfl
theorem Below.mono {n m:Nat}{v:AVal}(h:Below n v)(hm:n<=m):Below m v:=by
 induction h with
 | lit v=>exact .lit v
 | vec h ih=>exact .vec ih
 | vptr h ih=>exact .vptr ih
 | agg h ih=>exact .agg ih
 | tup h ih=>exact .tup ih
 | clo h1 h2 ih1 ih2=>exact .clo ih1 ih2
 | own h=>exact .own (by omega)
 | ptr h=>exact .ptr (by omega)
 | yld h=>exact .yld (by omega)
theorem D4 (H:AHeap)(op:BinOp)(a:List AVal)(y:AVal):kr H op (.agg a) y=none:=by unfold kr;split<;>rfl
attribute [go_sem] D4
theorem ic {l:List AVal}{i:Nat}{x:AVal}(h:i<l.length):setAt l i [x]=l.set i x:=by
 unfold setAt;rw[List.set_eq_take_append_cons_drop,if_pos h];simp
theorem Over.iX {B H:AHeap}(h:Over B H){n:Nat}(hn:B.next<=n):Over B (H.cut n):=⟨h.next,fun id hi=>(ui (by omega)).trans (h.old id hi)⟩
section
variable {t:TypeId} {x y:Operand} {k k':IntKind} {a b:Int}
theorem tn (hb:0<=b):bp P .shr t x y (.lit (.int k a)) (.lit (.int k' b))=some (.lit (.int k (a.fdiv (2 ^ (min b.toNat k.bits))))):=by
 have h:¬ b<0:=by omega
 simp [bp,AVal.cY,eqGuard,binOp,Op.shift,h,bC,bind,Sem.bind,pure]
theorem zj (hb:0<=b):bp P .shl t x y (.lit (.int k a)) (.lit (.int k' b))=some (.lit (.int k (k.wrap (a*2 ^ (min b.toNat k.bits))))):=by
 have h:¬ b<0:=by omega
 simp [bp,AVal.cY,eqGuard,binOp,Op.shift,h,bC,bind,Sem.bind,pure]
theorem tp:bp P .and t x y (.lit (.int k a)) (.lit (.int k b))=some (.lit (.int k (k.wrap ((BitVec.ofInt k.bits a &&& BitVec.ofInt k.bits b).toNat:Nat)))):=by
 simp [bp,AVal.cY,eqGuard,binOp,Op.intBits,bC,bind,Sem.bind,pure]
theorem Ru:bp P .or t x y (.lit (.int k a)) (.lit (.int k b))=some (.lit (.int k (k.wrap ((BitVec.ofInt k.bits a ||| BitVec.ofInt k.bits b).toNat:Nat)))):=by
 simp [bp,AVal.cY,eqGuard,binOp,Op.intBits,bC,bind,Sem.bind,pure]
theorem Rv:bp P .andNot t x y (.lit (.int k a)) (.lit (.int k b))=some (.lit (.int k (k.wrap ((BitVec.ofInt k.bits a &&& ~~~ BitVec.ofInt k.bits b).toNat:Nat)))):=by
 simp [bp,AVal.cY,eqGuard,binOp,Op.intBits,bC,bind,Sem.bind,pure]
def bJ (m:Nat):AVal:=.lit (.int .u64 (m:Int))
def iF (a b:Nat):Nat:=(BitVec.ofNat 64 a &&& ~~~ BitVec.ofNat 64 b).toNat
theorem vR {m:Nat}(h:m<2 ^ 64):(BitVec.ofInt 64 (m:Int)).toNat=m:=by rw[BitVec.ofInt_natCast,BitVec.toNat_ofNat,Nat.mod_eq_of_lt h]
theorem D5 (a b:Nat):iF a b<2 ^ 64:=(BitVec.isLt _)
theorem zk {a b i:Nat}(ha:a<2 ^ 64):(iF a b).testBit i=(a.testBit i && !b.testBit i):=by
 unfold iF;by_cases hi:i<64
 ·rw[<- BitVec.getLsbD,BitVec.getLsbD_and,BitVec.getLsbD_not,BitVec.getLsbD_ofNat,BitVec.getLsbD_ofNat];simp [hi]
 ·have h1:a.testBit i=false:=Nat.testBit_lt_two_pow (Nat.lt_of_lt_of_le ha (Nat.pow_le_pow_right (by decide) (by omega)));rw[h1,<- BitVec.getLsbD,BitVec.getLsbD_of_ge _ _ (by omega)];rfl
theorem vS {m:Nat}(h:m<2 ^ 64):IntKind.u64.wrap (m:Int)=m:=IntWalk.u64_in _ (by omega)
theorem vT {a b:Nat}(ha:a<2 ^ 64)(hb:b<2 ^ 64):bp P .and t x y (.lit (.int .u64 (a:Int))) (.lit (.int .u64 (b:Int)))=some (.lit (.int .u64 ((a &&& b:Nat):Int))):=by
 rw[tp];have e:(BitVec.ofInt (IntKind.bits .u64) (a:Int) &&& BitVec.ofInt (IntKind.bits .u64) (b:Int)).toNat=a &&& b:=by
  show (BitVec.ofInt 64 _ &&& BitVec.ofInt 64 _).toNat=_;rw[BitVec.toNat_and,vR ha,vR hb]
 rw[e,vS (Nat.lt_of_le_of_lt Nat.and_le_left ha)]
theorem kg {a b:Nat}(ha:a<2 ^ 64)(hb:b<2 ^ 64):bp P .or t x y (.lit (.int .u64 (a:Int))) (.lit (.int .u64 (b:Int)))=some (.lit (.int .u64 ((a ||| b:Nat):Int))):=by
 rw[Ru];have e:(BitVec.ofInt (IntKind.bits .u64) (a:Int) ||| BitVec.ofInt (IntKind.bits .u64) (b:Int)).toNat=a ||| b:=by
  show (BitVec.ofInt 64 _ ||| BitVec.ofInt 64 _).toNat=_;rw[BitVec.toNat_or,vR ha,vR hb]
 rw[e,vS (Nat.or_lt_two_pow ha hb)]
theorem zl {a b:Nat}:bp P .andNot t x y (.lit (.int .u64 (a:Int))) (.lit (.int .u64 (b:Int)))=some (.lit (.int .u64 ((iF a b:Nat):Int))):=by
 rw[Rv];have e:(BitVec.ofInt (IntKind.bits .u64) (a:Int) &&& ~~~ BitVec.ofInt (IntKind.bits .u64) (b:Int)).toNat=iF a b:=by
  show (BitVec.ofInt 64 _ &&& ~~~ BitVec.ofInt 64 _).toNat=_;rw[BitVec.ofInt_natCast,BitVec.ofInt_natCast];rfl
 rw[e,vS (D5 a b)]
theorem lY {a s:Nat}(ha:a<2 ^ 64):bp P .shr t x y (.lit (.int .u64 (a:Int))) (.lit (.int k' (s:Int)))=some (.lit (.int .u64 ((a >>> s:Nat):Int))):=by
 rw[tn (by omega),Int.toNat_natCast];have e:(a:Int).fdiv (2 ^ (min s (IntKind.bits .u64)))=((a >>> s:Nat):Int):=by
  rw[Int.fdiv_eq_ediv_of_nonneg _ (by exact_mod_cast Nat.zero_le _),Nat.shiftRight_eq_div_pow];show (a:Int) / 2 ^ (min s 64)=_;rcases Nat.le_total s 64 with h|h
  ·rw[Nat.min_eq_left h];push_cast;rfl
  ·rw[Nat.min_eq_right h];have h1:a / 2 ^ s=0:=Nat.div_eq_of_lt (Nat.lt_of_lt_of_le ha (Nat.pow_le_pow_right (by decide) h));rw[h1];exact Int.ediv_eq_zero_of_lt (by omega) (by omega)
 rw[e]
theorem mV {s:Nat}(hs:s<64):bp P .shl t x y (.lit (.int .u64 1)) (.lit (.int k' (s:Int)))=some (.lit (.int .u64 ((2 ^ s:Nat):Int))):=by
 rw[zj (by omega),Int.toNat_natCast];have e:min s (IntKind.bits .u64)=s:=Nat.min_eq_left (by show s<=64;omega);have h2:2 ^ s<2 ^ 64:=Nat.pow_lt_pow_right (by decide) hs;rw[e,Int.one_mul];have h3:((2:Int) ^ s)=((2 ^ s:Nat):Int):=by push_cast;rfl
 rw[h3,vS h2]
theorem mW {a s:Nat}(ha:a<2 ^ 64):bp P .and t x y (.lit (.int .u64 ((a >>> s:Nat):Int))) (.lit (.int .u64 1))=some (.lit (.int .u64 (if a.testBit s then 1 else 0))):=by
 have h1:a >>> s<2 ^ 64:=Nat.lt_of_le_of_lt (Nat.shiftRight_le _ _) ha;have:=vT (P:=P) (t:=t) (x:=x) (y:=y) (a:=a >>> s) (b:=1) h1 (by decide);rw[show (((1:Nat):Int))=1 from rfl]at this;rw[this,Nat.and_one_is_mod];congr 3;rw[Nat.testBit,Nat.and_comm,Nat.and_one_is_mod];rcases Nat.mod_two_eq_zero_or_one (a >>> s) with h|h<;>rw[h]<;>rfl
end
end Go.Hx
namespace Go.Proofs
open Go.Hx
theorem bR (H:AHeap)(b:Blk)(L:List Blk):(ext H (b :: L)).get H.next=some b:=aZ H (b :: L) 0 (by simp)
theorem zm (l:List Int)(n:Nat):(ints l).take n=ints (l.take n):=by simp [ints]
theorem zn (l:List Int)(n:Nat):(ints l).drop n=ints (l.drop n):=by simp [ints]
theorem aL {α:Type}{l:List α}{i:Nat}{a:α}(h:l[i]?=some a):¬ l=[]:=by rintro rfl;simp at h
theorem fV {l:List Int}{i:Nat}{x:Int}(h:i<l.length):setAt (ints l) i [.lit (.int .i64 x)]=ints (l.set i x):=by
 rw[ic (by simpa [ints] using h)];simp [ints,aa]
theorem zo (w:Bool):rP w (some (.lit undef))=some false:=rfl
def aQ (ns:List NodeP)(x:NodeP):List Int:=aH (ak ns) x.parents
def bP:List Int->List Int->Int
 | _ :: cs,v :: vs=>v*az cs+bP cs vs
 | _,_=>0
def bQ:List Int->Int->List Int
 | [],_=>[]
 | c :: cs,i=>i / az cs % c :: bQ cs i
theorem uy (cs:List Int)(i:Int):(bQ cs i).length=cs.length:=by
 induction cs with
 | nil=>rfl
 | cons c cs ih=>simp [bQ,ih]
theorem MP {α:Type}{l:List α}{k:Nat}{a:α}(h:l[k]?=some a):l.drop k=a :: l.drop (k+1):=by
 rw[List.drop_eq_getElem_cons (get_lt h)];congr 1;have:=List.getElem?_eq_getElem (get_lt h);rw[h]at this;exact(Option.some.inj this).symm
theorem xU {cs:List Int}(h:∀ c∈cs,1<=c)(i:Int):∀ (k:Nat) (c v:Int),cs[k]?=some c->(bQ cs i)[k]?=some v->0<=v/\v<c:=by
 induction cs with
 | nil=>intro k c v h;simp at h
 | cons a cs ih =>
  intro k c v h1 h2;cases k with
  | zero =>
   simp only[bQ,List.getElem?_cons_zero,Option.some.injEq]at h1 h2;subst h1;subst h2;have:=h a (by simp);exact⟨Int.emod_nonneg _ (by omega),Int.emod_lt_of_pos _ (by omega)⟩
  | succ k =>
   simp only[bQ,List.getElem?_cons_succ]at h1 h2;exact ih (fun c hc=>h c (by simp [hc])) k c v h1 h2
def bV (cs vs:List Int):Prop:=vs.length=cs.length/\∀ (k:Nat) (c v:Int),cs[k]?=some c->vs[k]?=some v->0<=v/\v<c
theorem bV.tail {c v:Int}{cs vs:List Int}(h:bV (c :: cs) (v :: vs)):bV cs vs:=⟨by simpa using h.1,fun k c v h1 h2=>h.2 (k+1) c v (by simpa using h1) (by simpa using h2)⟩
theorem bV.head {c v:Int}{cs vs:List Int}(h:bV (c :: cs) (v :: vs)):0<=v/\v<c:=h.2 0 c v (by simp) (by simp)
theorem bV.pos {cs vs:List Int}(h:bV cs vs):∀ c∈cs,1<=c:=fun c hc=>by
 obtain⟨k,hk⟩:=List.mem_iff_getElem?.1 hc;obtain⟨v,hv⟩:=get_of_lt (l:=vs) (i:=k) (by rw[h.1];exact get_lt hk);have:=h.2 k c v hk hv;omega
theorem qp {cs:List Int}(h:∀ c∈cs,1<=c)(i:Int):bV cs (bQ cs i):=⟨uy cs i,xU h i⟩
theorem mq:∀ {cs vs:List Int},bV cs vs->0<=bP cs vs/\bP cs vs<az cs:=by
 intro cs
 induction cs with
 | nil=>intro vs _;cases vs<;>(simp [bP,iL])
 | cons c cs ih =>
  intro vs h;cases vs with
  | nil=>exact absurd h.1 (by simp)
  | cons v vs =>
   have h1:=ih h.tail;have h2:=h.head;have hp:1<=az cs:=fI fun x hx=>h.pos x (by simp [hx]);rw[jT];simp only[bP];have h3:0<=v*az cs:=Int.mul_nonneg h2.1 (by omega);have h4:(v+1)*az cs<=c*az cs:=Int.mul_le_mul_of_nonneg_right (by omega) (by omega);rw[Int.add_mul,Int.one_mul]at h4;omega
theorem sd:∀ {cs vs:List Int},bV cs vs->bQ cs (bP cs vs)=vs:=by
 have key:∀ (cs:List Int) (i a c:Int),(∀ x∈cs,1<=x)->bQ cs (a*az cs*c+i)=bQ cs i:=by
  intro cs
  induction cs with
  | nil=>intros;rfl
  | cons x cs ih =>
   intro i a c h;have hx:=h x (by simp);have hp:1<=az cs:=fI fun y hy=>h y (by simp [hy]);simp only[bQ,jT];have e1:a*(x*az cs)*c+i=i+az cs*(x*(a*c)):=by
    rw[Int.add_comm];congr 1;ac_rfl
   have e2:a*(x*az cs)*c+i=a*az cs*(x*c)+i:=(by congr 1;ac_rfl);congr 1
   ·rw[e1,Int.add_mul_ediv_left _ _ (by omega),Int.add_mul_emod_self_left]
   ·rw[e2];exact ih i a (x*c) fun y hy=>h y (by simp [hy])
 intro cs
 induction cs with
 | nil=>intro vs h;cases vs with
  | nil=>rfl
  | cons=>exact absurd h.1 (by simp)
 | cons c cs ih =>
  intro vs h;cases vs with
  | nil=>exact absurd h.1 (by simp)
  | cons v vs =>
   have hp:1<=az cs:=fI fun x hx=>h.pos x (by simp [hx]);have hr:=mq h.tail;have h2:=h.head;simp only[bP,bQ];congr 1
   ·rw[Int.add_comm,Int.add_mul_ediv_right _ _ (by omega),Int.ediv_eq_zero_of_lt hr.1 hr.2,Int.zero_add,Int.emod_eq_of_lt h2.1 h2.2]
   ·have:=key cs (bP cs vs) v 1 fun x hx=>h.pos x (by simp [hx]);rw[Int.mul_one]at this;rw[this];exact ih h.tail
theorem MQ (i m n:Int)(hm:0<m)(hn:0<n):i % (m*n)=i % m+m*(i / m % n):=by
 have h1:=Int.emod_add_mul_ediv i (m*n);have h2:=Int.emod_add_mul_ediv i m;have h3:=Int.emod_add_mul_ediv (i / m) n;have h4:i / m / n=i / (m*n):=Int.ediv_ediv_of_nonneg (by omega);rw[h4]at h3;have h5:m*(i / m)=m*(i / m % n)+m*n*(i / (m*n)):=by
  conv=>lhs;rw[<- h3]
  rw[Int.mul_add,Int.mul_assoc]
 omega
theorem xV {cs:List Int}(h:∀ c∈cs,1<=c):∀ {i:Int},0<=i->i<az cs->bP cs (bQ cs i)=i:=by
 have:∀ (cs:List Int) (i:Int),(∀ c∈cs,1<=c)->bP cs (bQ cs i)=i % az cs:=by
  intro cs
  induction cs with
  | nil=>intro i _;simp [bP,bQ,iL]
  | cons c cs ih =>
   intro i h;have hp:1<=az cs:=fI fun x hx=>h x (by simp [hx]);simp only[bP,bQ];rw[ih i fun x hx=>h x (by simp [hx]),jT,Int.mul_comm c,MQ _ _ _ (by omega:0<az cs) (by have:=h c (by simp);omega)];rw[Int.mul_comm];omega
 intro i h0 h1;rw[this cs i h,Int.emod_eq_of_lt h0 h1]
def eK (cs vs:List Int):Int:=(cs.zip vs).foldl (fun a p=>a*p.1+p.2) 0
theorem MR:∀ (cs vs:List Int),vs.length=cs.length->∀ a,(cs.zip vs).foldl (fun a p=>a*p.1+p.2) a=a*az cs+bP cs vs:=by
 intro cs
 induction cs with
 | nil=>intro vs _ a;simp [iL,bP]
 | cons c cs ih =>
  intro vs h a;cases vs with
  | nil=>simp at h
  | cons v vs =>
   simp only[List.zip_cons_cons,List.foldl_cons];rw[ih vs (by simpa using h),jT];simp only[bP];rw[Int.add_mul,Int.mul_assoc];omega
theorem qq {cs vs:List Int}(h:vs.length=cs.length):eK cs vs=bP cs vs:=by
 unfold eK;rw[MR cs vs h];omega
theorem qt {cs vs:List Int}{k:Nat}{c v:Int}(h1:cs[k]?=some c)(h2:vs[k]?=some v):eK (cs.take (k+1)) (vs.take (k+1))=eK (cs.take k) (vs.take k)*c+v:=by
 unfold eK;rw[aT h1,aT h2,List.zip_append (by have:=get_lt h1;have:=get_lt h2;simp;omega),List.foldl_append];rfl
def kD:List Int->List Int->Option (List Int)
 | c :: cs,v :: vs=>match kD cs vs with
  | some ws=>some (v :: ws)
  | none=>if v+1<c then some ((v+1) :: cs.map fun _=>0) else none
 | _,_=>none
theorem Bt {cs:List Int}(h:∀ c∈cs,1<=c):bQ cs 0=cs.map fun _=>0:=by
 induction cs with
 | nil=>rfl
 | cons c cs ih=>simp [bQ,ih fun x hx=>h x (by simp [hx])]
theorem MS:∀ {cs vs:List Int},bV cs vs->kD cs vs=if bP cs vs+1<az cs then some (bQ cs (bP cs vs+1)) else none:=by
 intro cs
 induction cs with
 | nil=>intro vs h;cases vs with
  | nil=>simp [kD,bP,iL]
  | cons=>exact absurd h.1 (by simp)
 | cons c cs ih =>
  intro vs h;cases vs with
  | nil=>exact absurd h.1 (by simp)
  | cons v vs =>
   have hpos:∀ x∈cs,1<=x:=fun x hx=>h.pos x (by simp [hx]);have hp:1<=az cs:=fI hpos;have hr:=mq h.tail;have h2:=h.head;have hv:=sd h.tail;simp only[kD,ih h.tail,bP,jT];by_cases hb:bP cs vs+1<az cs
   ·rw[if_pos hb];have h4:(v+1)*az cs<=c*az cs:=Int.mul_le_mul_of_nonneg_right (by omega) (by omega);rw[Int.add_mul,Int.one_mul]at h4;have hlt:v*az cs+bP cs vs+1<c*az cs:=(by omega);rw[if_pos hlt];simp only[bQ];have g1:v=(v*az cs+bP cs vs+1) / az cs % c:=by
     rw[Int.add_assoc,Int.add_comm,Int.add_mul_ediv_right _ _ (by omega),Int.ediv_eq_zero_of_lt (by omega) hb,Int.zero_add,Int.emod_eq_of_lt h2.1 h2.2]
    have g2:bQ cs (bP cs vs+1)=bQ cs (v*az cs+bP cs vs+1):=by
     have e:bP cs vs+1=bP cs (bQ cs (bP cs vs+1)):=(xV hpos (by omega) hb).symm;have f:bV (c :: cs) (v :: bQ cs (bP cs vs+1)):=⟨by simp [uy],fun k c' v' h1 h3=>by
      cases k with
      | zero=>simp at h1 h3;subst h1;subst h3;exact h2
      | succ k=>exact xU hpos _ k c' v' (by simpa using h1) (by simpa using h3)⟩
     have:=sd f;simp only[bP,bQ,List.cons.injEq]at this;rw[<- e]at this;rw[Int.add_assoc];exact this.2.symm
    rw[<- g1,<- g2]
   ·rw[if_neg hb];have hi:bP cs vs+1=az cs:=(by omega);have e1:v*az cs+bP cs vs+1=(v+1)*az cs:=(by rw[Int.add_mul];omega);rw[e1];by_cases hc:v+1<c
    ·rw[if_pos hc];have h4:(v+1)*az cs<c*az cs:=Int.mul_lt_mul_of_pos_right hc (by omega);rw[if_pos h4];simp only[bQ];congr 1;congr 1
     ·rw[Int.mul_ediv_cancel _ (by omega),Int.emod_eq_of_lt (by omega) hc]
     ·have f:bV (c :: cs) ((v+1) :: bQ cs 0):=⟨by simp [uy],fun k c' v' h1 h3=>by
       cases k with
       | zero=>simp at h1 h3;subst h1;subst h3;omega
       | succ k=>exact xU hpos _ k c' v' (by simpa using h1) (by simpa using h3)⟩
      have:=sd f;simp only[bP,bQ,List.cons.injEq]at this;rw[xV hpos (Int.le_refl 0) (by omega),Int.add_zero]at this;rw[this.2,Bt hpos]
    ·rw[if_neg hc];have h4:c*az cs<=(v+1)*az cs:=Int.mul_le_mul_of_nonneg_right (by omega) (by omega);rw[if_neg (by omega)]
def dS (l:List Int):Prop:=l.length<=12/\∀ x∈l,0<=x/\x<=8
theorem dS.prod {l:List Int}(h:dS l):0<=az l/\az l<=68719476736:=by
 have h1:=nI (b:=8) (by omega) h.2;have h2:(8:Int) ^ l.length<=8 ^ 12:=by
  have:(8:Nat) ^ l.length<=8 ^ 12:=Nat.pow_le_pow_right (by decide) h.1
  exact_mod_cast this
 exact⟨h1.1,Int.le_trans h1.2 h2⟩
theorem dS.take {l:List Int}(h:dS l)(k:Nat):dS (l.take k):=⟨by have:=h.1;simp;omega,fun x hx=>h.2 x (List.mem_of_mem_take hx)⟩
theorem dS.drop {l:List Int}(h:dS l)(k:Nat):dS (l.drop k):=⟨by have:=h.1;simp;omega,fun x hx=>h.2 x (List.mem_of_mem_drop hx)⟩
theorem Pq (l:List Int)(hl:dS l)(H:AHeap)(K:ARes->AHeap->Prop)(hK:K (.ret (aa (az l))) H):ae Tryz.prog G0 100 [ah l] H K:=by
 have l12:=hl.1;refine ae.aP (n:=18) (rs:=[.tmp 2]) Tryz.func100 rfl rfl rfl (by decide) (by kernel_rfl) (by simp) ?_;simp only[go_sem];refine W.aK 131064 (by rfl) (fun ρ H'=>H'=H/\∃ k:Nat,ρ 4=aa k/\k<=l.length/\ρ 3=aa (az (l.take k))) (fun ρ H=>l.length - (iv (ρ 4)).toNat) ?_ ?_
 ·simp only[go_sem];exact⟨0,rfl,by omega,by simp [iL]⟩
 rintro ρ H' ⟨rfl,k,h4,hk,h3⟩;refine af _ _ _ (by rfl) ?_;by_cases hb:(k:Int)<l.length
 ·obtain⟨c,hc⟩:=get_of_lt (l:=l) (i:=k) (by omega);have hne:=aL hc;have b1:=(hl.take (k+1)).prod;rw[aT hc,fH]at b1;simp only[go_sem,h4,h3,hb,hc,hne];rw[IntWalk.i64_in ((k:Int)+1) (by omega),IntWalk.i64_in (_*c) (by omega)];exact⟨⟨k+1,by simp,by omega,by rw[aT hc,fH]⟩,by omega⟩
 ·simp only[go_sem,h4,h3,hb];rw[List.take_of_length_le (by omega)];exact ar.mk (Nat.le_refl _) hK
theorem Da (x:List Int)(hx:(x.length:Int)<2 ^ 40)(H:AHeap)(K:ARes->AHeap->Prop)(hK:K (.ret (ah x)) H):ae Tryz.prog G0 49 [ah x] H K:=by
 refine ae.clo ⟨_,Tryz.func49,rfl,rfl⟩ fun hc=>?_;refine ae.aP (n:=8) (rs:=[.tmp 2]) Tryz.func49 rfl rfl rfl (by decide) (by kernel_rfl) (by simp) ?_;simp only[go_sem];intro b hlen;cases b with
 | true =>
  have hx0:x=[]:=List.eq_nil_of_length_eq_zero (by
   by_cases h:0<x.length
   ·have:=hlen (by simpa using h);cases this
   ·omega)
  simp only[go_sem];subst hx0;exact ar.I9 aI hc .xq hK
 | false =>
  by_cases h0:x.length=0
  ·have hx0:x=[]:=List.eq_nil_of_length_eq_zero h0;subst hx0;simp only[go_sem,aW];refine⟨⟨rfl,rfl⟩,ar.drop (v':=ah []) aI hc ?_ hK⟩;exact .ints (Nat.le_refl _) (bR ..) rfl fun i hi=>absurd hi (Nat.not_lt_zero _)
  ·simp only[go_sem,h0,aW];refine⟨⟨rfl,by omega,by omega,kA x⟩,ar.drop aI hc ?_ hK⟩;exact .ints (Nat.le_refl _) (bR ..) rfl fun i hi=>by simp [d9,hi]
instance placesDec (l:List Int)(n:Int):Decidable (cH l n):=by unfold cH;infer_instance
theorem cH.nil {n:Int}:cH [] n:=⟨.nil,fun _ h=>by cases h⟩
theorem cH.take {l:List Int}{n:Int}(h:cH l n)(k:Nat):cH (l.take k) n:=⟨h.1.sublist (List.take_sublist k l),fun p hp=>h.2 p (List.mem_of_mem_take hp)⟩
theorem cH.snoc {l:List Int}{n a:Int}(h:cH l n)(ha:0<=a/\a<n)(hl:∀ b,l.getLast?=some b->b<a):cH (l++[a]) n:=by
 refine⟨List.pairwise_append.2 ⟨h.1,by simp,fun x hx y hy=>?_⟩,fun p hp=>?_⟩
 ·obtain rfl:=List.mem_singleton.1 hy;rcases List.eq_nil_or_concat l with rfl|⟨l',b,rfl⟩
  ·cases hx
  ·have hb:=hl b (by simp);simp only[List.concat_eq_append]at hx h;rcases List.mem_append.1 hx with hx|hx
   ·have:=(List.pairwise_append.1 h.1).2.2 x hx b (by simp);omega
   ·obtain rfl:=List.mem_singleton.1 hx;exact hb
 ·rcases List.mem_append.1 hp with hp|hp
  ·exact h.2 p hp
  ·obtain rfl:=List.mem_singleton.1 hp;exact ha
theorem cH.lt {l:List Int}{n:Int}(h:cH l n){i j:Nat}{a b:Int}(ha:l[i]?=some a)(hb:l[j]?=some b)(hij:i<j):a<b:=by
 have:=List.pairwise_iff_getElem.1 h.1 i j (get_lt ha) (get_lt hb) hij;have e1:=List.getElem?_eq_getElem (get_lt ha);have e2:=List.getElem?_eq_getElem (get_lt hb);rw[ha]at e1;rw[hb]at e2;rw[Option.some.inj e1,Option.some.inj e2];exact this
theorem cH.len {l:List Int}{n:Int}(h:cH l n):(l.length:Int)<=max n 0:=by
  -- the k-th place is at least k
 have key:∀ (k:Nat) (a:Int),l[k]?=some a->(k:Int)<=a:=by
  intro k
  induction k with
  | zero=>intro a ha;have:=h.2 a (List.mem_of_getElem? ha);omega
  | succ k ih =>
   intro a ha;obtain⟨b,hb⟩:=get_of_lt (l:=l) (i:=k) (by have:=get_lt ha;omega);have:=ih b hb;have:=h.lt hb ha (by omega);omega
 rcases Nat.eq_zero_or_pos l.length with h0|h0
 ·omega
 ·obtain⟨a,ha⟩:=get_of_lt (l:=l) (i:=l.length - 1) (by omega);have h1:=key _ a ha;have h2:=h.2 a (List.mem_of_getElem? ha);omega
theorem vk {l:List Int}{j:Nat}{b:Int}(h:l[j]?=some b):(l.take (j+1)).getLast?=some b:=by rw[aT h];simp
theorem Db (l:List Int)(n:Int)(hl:(l.length:Int)<2 ^ 62)(H:AHeap)(K:ARes->AHeap->Prop)(hK:K (.ret (.lit (.bool (decide (cH l n))))) H):ae Tryz.prog G0 146 [ah l,aa n] H K:=by
 have no:¬ cH l n->ar Tryz.prog G0 H K (.lit (.bool false)) H:=fun h=>ar.mk (Nat.le_refl _) (by rw[decide_eq_false h]at hK;exact hK);refine ae.aP (n:=24) (rs:=[.tmp 4]) Tryz.func146 rfl rfl rfl (by decide) (by kernel_rfl) (by simp) ?_;simp only[go_sem];refine W.aK 16776368 (by rfl) (fun ρ H'=>H'=H/\∃ (k:Nat) (b:Int),ρ 10=aa k/\k<=l.length/\ρ 5=aa b/\cH (l.take k) n/\(l.take k).getLast?.getD (-1)=b) (fun ρ H=>l.length - (iv (ρ 10)).toNat) ?_ ?_
 ·simp only[go_sem];exact⟨0,-1,rfl,by omega,rfl,.nil,rfl⟩
 rintro ρ H' ⟨rfl,k,b,h10,hk,h5,hp,hbl⟩;refine af _ _ _ (by rfl) ?_;by_cases hb:(k:Int)<l.length
 ·obtain⟨a,ha⟩:=get_of_lt (l:=l) (i:=k) (by omega);have hne:=aL ha;have ham:=List.mem_of_getElem? ha;by_cases c1:a<=b
  ·simp only[go_sem,h10,h5,hb,ha,hne,c1];refine no fun h=>?_;have h0:=h.2 a ham;rcases Nat.eq_zero_or_pos k with rfl|hk0
   ·simp at hbl;omega
   ·obtain⟨j,rfl⟩:∃ j,k=j+1:=⟨k - 1,by omega⟩
    obtain⟨b',hbj⟩:=get_of_lt (l:=l) (i:=j) (by omega);rw[vk hbj]at hbl;have:=h.lt hbj ha (by omega);simp at hbl;omega
  by_cases c2:a >= n
  ·simp only[go_sem,h10,h5,hb,ha,hne,c1,c2];exact no fun h=>by have:=h.2 a ham;omega
  have w1:=IntWalk.i64_in ((k:Int)+1) (by omega);simp only[go_sem,h10,h5,hb,ha,hne,c1,c2,w1];have h0:0<=a:=by
   rcases hg:(l.take k).getLast? with _|b'
   ·rw[hg]at hbl;simp at hbl;omega
   ·rw[hg]at hbl;have:=hp.2 b' (List.mem_of_getLast? hg);simp at hbl;omega
  refine⟨⟨k+1,a,by simp,by omega,rfl,?_,by rw[vk ha];rfl⟩,by omega⟩;rw[aT ha];exact hp.snoc ⟨h0,by omega⟩ fun b' hb'=>by rw[hb']at hbl;simp at hbl;omega
 ·simp only[go_sem,h10,hb];rw[List.take_of_length_le (by omega)]at hp;rw[decide_eq_true hp]at hK;exact ar.mk (Nat.le_refl _) hK
end Go.Proofs
namespace Go.Hx
theorem Over.live {H H':AHeap}(h:Over H H'){id g:Nat}(hi:id<H.next):H'.live id g=H.live id g:=by
 unfold AHeap.live;rw[h.old id hi]
theorem Over.upd {H H':AHeap}(h:Over H H'){id:Nat}(hi:H.next<=id)(b:Blk):Over H (H'.upd id b):=⟨h.next,fun j hj=>by rw[aj,if_neg (by omega)];exact h.old j hj⟩
theorem D6 {H:AHeap}{id g:Nat}{e:TypeId}{c:List AVal}:(H.upd id (.arr g e c)).live id g=some (e,c):=ag (by rw[aj,if_pos rfl])
theorem om {H:AHeap}{id j g:Nat}{b:Blk}(h:j≠id):(H.upd id b).live j g=H.live j g:=by unfold AHeap.live;rw[aj,if_neg h]
attribute [go_sem] D6
@[go_sem] theorem Si (a b:Array TypeId)(c:Bool)(n:Nat)(cells:List AVal)(off:Nat):ml (some (.func a b c)) n cells off=cells[off]?:=rfl
end Go.Hx
namespace Go.Proofs
open Go.Hx
theorem mD {H H' H2:AHeap}{e:TypeId}{v:AVal}{cs:List AVal}(ov:Over H H')(h:aD H.next H' e v cs)(hn:H'.next<=H2.next)(hp:∀ k,k<H'.next->(∀ g n,v≠.own k g 0 n 1)->H2.get k=H'.get k):Over H H2 :=
 ⟨Nat.le_trans ov.next hn,fun id hi=>by
  rw[hp id (Nat.lt_of_lt_of_le hi ov.next) fun g n he=>?_,ov.old id hi];rcases h with ⟨h,_⟩|⟨i2,g2,a1,_,h,_⟩
  ·rw[h]at he;cases he
  ·rw[h]at he;have:=AVal.own.inj he;omega⟩
theorem kh {H H':AHeap}{v:AVal}{l:List Int}(x:Int)(ov:Over H H')(h:aD H.next H' 3 v (ints l))(hl:l.length<2 ^ 40):
  ∃ v' H2,bO Tryz.prog (ext H' [.arr 0 3 [.lit (.int .i64 x)]]) (H'.next+1) 46 46 v (.own H'.next 0 0 1 1)=some (v',H2)/\Over H H2/\aD H.next H2 3 v' (ints (l++[x]))/\H'.next<=H2.next/\(∀ k,k<H'.next->(∀ g n,v≠.own k g 0 n 1)->H2.get k=H'.get k):=by
 obtain⟨v',H2,hA,hO,hn2,hp⟩:=iK (P:=Tryz.prog) (H:=H') (t:=46) (x:=aa x) (n:=H'.next+1) Tryz.underlying46 Tryz.eU Tryz.eV rfl (by rw[Tryz.fG,aR];omega) h ov.next rfl;simp only[aa]at hA;exact⟨v',H2,hA,mD ov h hn2 hp,by simpa [ints,aa] using hO,hn2,hp⟩
theorem Rw (l:List (List Int)):(aA l).one=true:=rfl
theorem Rx (l:List (List Int)):(aA l).cells=[aA l]:=rfl
theorem Ry (l:List NodeP):(dB l).one=true:=rfl
theorem Rz (l:List NodeP):(dB l).cells=[dB l]:=rfl
theorem RA (l:List UtilP):(uw l).one=true:=rfl
theorem RB (l:List UtilP):(uw l).cells=[uw l]:=rfl
attribute [go_sem] Rw Rx Ry Rz RA RB
structure OwnI (H H':AHeap)(id:Nat)(c:List Int):Prop where
 ov:Over H H'
 lo:H.next<=id
 hi:id<H'.next
 get:H'.get id=some (.arr 0 3 (ints c))
theorem OwnI.live {H H':AHeap}{id:Nat}{c:List Int}(h:OwnI H H' id c):H'.live id 0=some (3,ints c):=ag h.get
theorem OwnI.RC {H H':AHeap}{id:Nat}{c:List Int}(h:OwnI H H' id c)(L:List Blk):(ext H' L).live id 0=some (3,ints c):=by rw[eT h.hi];exact h.live
theorem OwnI.ne {H H':AHeap}{id:Nat}{c:List Int}(h:OwnI H H' id c):¬ id=H'.next:=by have:=h.hi;omega
theorem OwnI.over {H H' H2:AHeap}{id:Nat}{c:List Int}(h:OwnI H H' id c)(o:Over H' H2):OwnI H H2 id c:=⟨h.ov.trans o,h.lo,Nat.lt_of_lt_of_le h.hi o.next,(o.old id h.hi).trans h.get⟩
theorem OwnI.store {H H':AHeap}{id:Nat}{c:List Int}(h:OwnI H H' id c){k:Nat}(hk:k<c.length)(x:Int):OwnI H (H'.upd id (.arr 0 3 (setAt (ints c) k [.lit (.int .i64 x)]))) id (c.set k x) :=
 ⟨⟨h.ov.next,fun i hi=>by rw[aj,if_neg (by have:=h.lo;omega)];exact h.ov.old i hi⟩,h.lo,h.hi,by rw[aj,if_pos rfl,fV hk]⟩
theorem OwnI.RD {H H':AHeap}{id:Nat}{c:List Int}(h:OwnI H H' id c)(L:List Blk){k:Nat}(hk:k<c.length)(x:Int):OwnI H ((ext H' L).upd id (.arr 0 3 (setAt (ints c) k [.lit (.int .i64 x)]))) id (c.set k x) :=
 (h.over (.ext H' L)).store hk x
theorem OwnI.new {H:AHeap}(L:List Blk)(n:Nat):OwnI H (ext H (.arr 0 3 (List.replicate n (.lit (.int .i64 0))) :: L)) H.next (List.replicate n 0) :=
 ⟨.ext _ _,Nat.le_refl _,by simp [aY],by rw[bR];simp [ints,aa]⟩
theorem OwnI.fin {H H':AHeap}{id:Nat}{c:List Int}{K:ARes->AHeap->Prop}(hcl:Clo H)(h:OwnI H H' id c){n:Nat}(hn:n=c.length)(hK:K (.ret (ah c)) H):ar Tryz.prog G0 H K (.own id 0 0 n 1) H':=by
 subst hn;refine ar.bB aI hcl h.ov ?_ hK;exact .ints h.lo h.get (by simp) fun i hi=>by simp [d9,hi]
theorem D7 {l m:List Int}{k:Nat}{x:Int}(h:l.take k=m.take k)(hk:k<l.length)(hx:m[k]?=some x):(l.set k x).take (k+1)=m.take (k+1):=by
 rw[aT hx,aT (show (l.set k x)[k]?=some x by rw[List.getElem?_set_self hk]),List.take_set_of_le (Nat.le_refl k),h]
theorem bI {α:Type}{l:List α}{i:Nat}{a d:α}(h:l[i]?=some a):l.getD i d=a:=by rw[List.getD_eq_getElem?_getD,h];rfl
theorem Pr {l places:List Int}{k:Nat}{p:Int}(h:places[k]?=some p):aH l (places.take (k+1))=aH l (places.take k)++[l.getD p.toNat 0]:=by
 unfold aH;rw[aT h];simp
theorem cU {ns:List NodeP}{k:Nat}{x:NodeP}(h:ns[k]?=some x):(ak ns)[k]?=some x.card:=by unfold ak;rw[List.getElem?_map,h];rfl
theorem dc (ns:List NodeP):(ak ns).length=ns.length:=by simp [ak]
theorem Ps (g:Int)(ns:List NodeP)(hl:(ns.length:Int)<2 ^ 39)(H:AHeap)(K:ARes->AHeap->Prop)(hK:K (.ret (ah (ak ns))) H):ae Tryz.prog G0 56 [da g ns] H K:=by
 refine ae.clo ⟨_,Tryz.func56,rfl,rfl⟩ fun hcl=>?_;refine ae.aP (n:=22) (rs:=[.tmp 2]) Tryz.func56 rfl rfl rfl (by decide) (by kernel_rfl) (by simp) ?_;simp only[go_sem,da,dB];obtain⟨H1,hH1⟩:∃ H1,H1=ext H [.arr 0 103 [.lit (.int .i64 g),.vec ns.length (aB ns)]]:=⟨_,rfl⟩
 have l1:H1.live H.next 0=some (103,[.lit (.int .i64 g),.vec ns.length (aB ns)]):=by rw[hH1];exact ag (bR ..)
 have n1:H1.next=H.next+1:=by rw[hH1];rfl
 have o1:Over H H1:=by rw[hH1];exact .ext _ _
 rw[<- hH1];refine W.aK 2097144 (by rfl) (fun ρ H'=>∃ k:Nat,ρ 4=aa k/\k<=ns.length/\ρ 1=.ptr H.next 0 0/\Over H1 H'/\aD H1.next H' 3 (ρ 3) (ints ((ak ns).take k))) (fun ρ H=>ns.length - (iv (ρ 4)).toNat) ?_ ?_
 ·simp only[go_sem];exact⟨0,rfl,by omega,.refl _,.nil⟩
 rintro ρ H' ⟨k,h4,hk,h1,ov,h3⟩;refine af _ _ _ (by rfl) ?_;have l2:=(ov.live (g:=0) (by omega:H.next<H1.next)).trans l1;by_cases hb:(k:Int)<ns.length
 ·obtain⟨x,hx⟩:=get_of_lt (l:=ns) (i:=k) (by omega);have hne:=eA hx;have e0:=jf hx;obtain⟨v',H2,hA,ov2,hO,hn2,_⟩:=kh x.card ov h3 (by simp [ak];omega);have w1:=IntWalk.i64_in ((k:Int)+1) (by omega);simp only[go_sem,h4,h1,l2,hb,hne,e0,w1,hA];refine⟨by have:=ov2.next;omega,⟨k+1,by simp,by omega,ov2,?_⟩,by omega⟩;rw[aT (cU hx)];exact hO
 ·simp only[go_sem,h4,h1,l2,hb];rw[List.take_of_length_le (by rw[dc];omega)]at h3;exact ar.bB aI hcl (o1.trans ov) (h3.gE fun i hi=>by omega) hK
theorem sT (ns:List NodeP)(hl:(ns.length:Int)<2 ^ 39)(H:AHeap)(K:ARes->AHeap->Prop)(hK:K (.ret (ah (ak ns))) H):ae Tryz.prog G0 117 [dB ns] H K:=by
 refine ae.clo ⟨_,Tryz.func117,rfl,rfl⟩ fun hcl=>?_;refine ae.aP (n:=23) (rs:=[.tmp 2]) Tryz.func117 rfl rfl rfl (by decide) (by kernel_rfl) (by simp) ?_;simp only[go_sem,dB];refine⟨by omega,?_⟩;refine W.aK 4192304 (by rfl) (fun ρ H'=>∃ (k:Nat) (c:List Int),ρ 11=aa k/\k<=ns.length/\OwnI H H' H.next c/\c.length=ns.length/\c.take k=(ak ns).take k) (fun ρ H=>ns.length - (iv (ρ 11)).toNat) ?_ ?_
 ·simp only[go_sem];exact⟨0,_,rfl,by omega,.new [] ns.length,by simp,rfl⟩
 rintro ρ H' ⟨k,c,h11,hk,ho,hcl',hc⟩;refine af _ _ _ (by rfl) ?_;by_cases hb:(k:Int)<ns.length
 ·obtain⟨x,hx⟩:=get_of_lt (l:=ns) (i:=k) (by omega);have hne:=eA hx;have e0:=oS hx;have e1:k*3+3<=(aB ns).length:=by rw[jS];omega
  have w1:=IntWalk.i64_in ((k:Int)+1) (by omega);have l3:=ho.RC;have nb:=ho.ne;simp only[go_sem,h11,l3,hb,hne,e0,e1,w1];have hkc:k<c.length:=by omega
  have ho2:=ho.RD [.arr 0 73 [.lit (.int .i64 x.card),.vec x.parents.length (ints x.parents),aA x.rows]] hkc x.card;exact⟨by omega,by have:=ho2.hi;omega,⟨k+1,_,rfl,by omega,ho2,by simpa using hcl',D7 hc hkc (cU hx)⟩,by omega⟩
 ·simp only[go_sem,h11,hb];have e:c=ak ns:=by
   rw[List.take_of_length_le (by omega),List.take_of_length_le (by rw[dc];omega)]at hc;exact hc
  subst e;exact ho.fin hcl (by rw[dc]) hK
def fO (l:List Int)(n:Nat):Prop:=∀ q∈l,0<=q/\q<n
theorem gL (l p:List Int):(aH l p).length=p.length:=by simp [aH]
theorem jF {l p:List Int}{k:Nat}{q:Int}(h:p[k]?=some q):(aH l p)[k]?=some (l.getD q.toNat 0):=by unfold aH;rw[List.getElem?_map,h];rfl
theorem Pt (l:List Int)(hl:dS l)(H:AHeap)(K:ARes->AHeap->Prop)(hK:K (.ret (aa (az l))) H):ae Tryz.prog G0 145 [ah l] H K:=by
 have l12:=hl.1;refine ae.aP (n:=17) (rs:=[.tmp 2]) Tryz.func145 rfl rfl rfl (by decide) (by kernel_rfl) (by simp) ?_;simp only[go_sem];refine W.aK 65320 (by rfl) (fun ρ H'=>H'=H/\∃ k:Nat,ρ 8=aa k/\k<=l.length/\ρ 3=aa (az (l.take k))) (fun ρ H=>l.length - (iv (ρ 8)).toNat) ?_ ?_
 ·simp only[go_sem];exact⟨0,rfl,by omega,by simp [iL]⟩
 rintro ρ H' ⟨rfl,k,h4,hk,h3⟩;refine af _ _ _ (by rfl) ?_;by_cases hb:(k:Int)<l.length
 ·obtain⟨c,hc⟩:=get_of_lt (l:=l) (i:=k) (by omega);have hne:=aL hc;have b1:=(hl.take (k+1)).prod;rw[aT hc,fH]at b1;have w1:=IntWalk.i64_in ((k:Int)+1) (by omega);have w2:=IntWalk.i64_in (az (l.take k)*c) (by omega);simp only[go_sem,h4,h3,hb,hc,hne,w1,w2];exact⟨⟨k+1,by simp,by omega,by rw[aT hc,fH]⟩,by omega⟩
 ·simp only[go_sem,h4,h3,hb];rw[List.take_of_length_le (by omega)];exact ar.mk (Nat.le_refl _) hK
theorem vm (ns:List NodeP)(v:Nat)(x:NodeP)(hx:ns[v]?=some x)(hin:fO x.parents ns.length)(hs:dS (aQ ns x))(H:AHeap)(K:ARes->AHeap->Prop)
  (hK:K (.ret (aa (az (aQ ns x)))) H):ae Tryz.prog G0 66 [dB ns,aa v] H K:=by
 have hne:=eA hx;have e1:=lD hx;have hv:(v:Int)<ns.length:=by have:=get_lt hx;omega
 have l12:=hs.1;have pl:(aQ ns x).length=x.parents.length:=gL _ _;refine ae.aP (n:=27) (rs:=[.tmp 4]) Tryz.func66 rfl rfl rfl (by decide) (by kernel_rfl) (by simp) ?_;simp only[go_sem,dB,hv,hne,e1];refine W.aK 67092640 (by rfl) (fun ρ H'=>H'=H/\∃ k:Nat,ρ 14=aa k/\k<=x.parents.length/\ρ 5=aa (az ((aQ ns x).take k))) (fun ρ H=>x.parents.length - (iv (ρ 14)).toNat) ?_ ?_
 ·simp only[go_sem];exact⟨0,rfl,by omega,by simp [iL]⟩
 rintro ρ H' ⟨rfl,k,h14,hk,h5⟩;refine af _ _ _ (by rfl) ?_;by_cases hb:(k:Int)<x.parents.length
 ·obtain⟨q,hq⟩:=get_of_lt (l:=x.parents) (i:=k) (by omega);obtain⟨j,rfl,y,hy⟩:=mo (l:=ns) (hin q (List.mem_of_getElem? hq)).1 (hin q (List.mem_of_getElem? hq)).2;have hne2:=aL hq;have hj:(j:Int)<ns.length:=by have:=get_lt hy;omega
  have e0:=jf hy;have pk:(aQ ns x)[k]?=some y.card:=by
   rw[show (aQ ns x)[k]?=_ from jF hq,Int.toNat_natCast,bI (cU hy)]
  have b1:=(hs.take (k+1)).prod;rw[aT pk,fH]at b1;have w1:=IntWalk.i64_in ((k:Int)+1) (by omega);have w2:=IntWalk.i64_in (az ((aQ ns x).take k)*y.card) (by omega);simp only[go_sem,h14,h5,hb,hq,hne,hne2,hj,e0,w1,w2];exact⟨⟨k+1,by simp,by omega,by rw[aT pk,fH]⟩,by omega⟩
 ·simp only[go_sem,h14,h5,hb];rw[List.take_of_length_le (by omega)];exact ar.mk (Nat.le_refl _) hK
theorem Pu (ns:List NodeP)(v:Nat)(x:NodeP)(vals:List Int)(hx:ns[v]?=some x)(hin:fO x.parents ns.length)(hs:dS (aQ ns x))(hf:bV (ak ns) vals)(H:AHeap)(K:ARes->AHeap->Prop)
  (hK:K (.ret (aa (bP (aQ ns x) (aH vals x.parents)))) H):ae Tryz.prog G0 69 [dB ns,aa v,ah vals] H K:=by
 have hne:=eA hx;have e1:=lD hx;have hv:(v:Int)<ns.length:=by have:=get_lt hx;omega
 have l12:=hs.1;have pl:(aQ ns x).length=x.parents.length:=gL _ _;have vl:(aH vals x.parents).length=x.parents.length:=gL _ _;have hfl:vals.length=ns.length:=by rw[hf.1,dc]
 have at_get:∀ (k:Nat) (q:Int),x.parents[k]?=some q->∃ (j:Nat) (y:NodeP) (b:Int),q=j/\ns[j]?=some y/\vals[j]?=some b/\(aQ ns x)[k]?=some y.card/\(aH vals x.parents)[k]?=some b/\0<=b/\b<y.card:=fun k q hq=>by
  obtain⟨j,rfl,y,hy⟩:=mo (l:=ns) (hin q (List.mem_of_getElem? hq)).1 (hin q (List.mem_of_getElem? hq)).2;obtain⟨b,hb⟩:=get_of_lt (l:=vals) (i:=j) (by rw[hfl];exact get_lt hy);have r:=hf.2 j y.card b (cU hy) hb;exact⟨j,y,b,rfl,hy,hb,by rw[show (aQ ns x)[k]?=_ from jF hq,Int.toNat_natCast,bI (cU hy)],by rw[jF hq,Int.toNat_natCast,bI hb],r⟩
 have ft:∀ k,bV ((aQ ns x).take k) ((aH vals x.parents).take k):=fun k=>⟨by simp [pl,vl],fun i c b h1 h2=>by
  rw[List.getElem?_take]at h1 h2;split at h1
  ·rename_i hik;rw[if_pos hik]at h2;obtain⟨q,hq⟩:=get_of_lt (l:=x.parents) (i:=i) (by rw[<- pl];exact get_lt h1);obtain⟨j,y,b',_,_,_,a1,a2,a3⟩:=at_get i q hq;rw[h1]at a1;rw[h2]at a2;cases a1;cases a2;exact a3
  ·cases h1⟩
 have hr:∀ k,0<=eK ((aQ ns x).take k) ((aH vals x.parents).take k)/\eK ((aQ ns x).take k) ((aH vals x.parents).take k)<68719476737:=fun k=>by
  rw[qq (ft k).1];have a:=mq (ft k);have b:=(hs.take k).prod;omega
 refine ae.aP (n:=34) (rs:=[.tmp 6]) Tryz.func69 rfl rfl rfl (by decide) (by kernel_rfl) (by simp) ?_;simp only[go_sem,dB,hv,hne,e1];refine W.aK 8589869696 (by rfl) (fun ρ H'=>H'=H/\∃ k:Nat,ρ 16=aa k/\k<=x.parents.length/\ρ 7=aa (eK ((aQ ns x).take k) ((aH vals x.parents).take k))) (fun ρ H=>x.parents.length - (iv (ρ 16)).toNat) ?_ ?_
 ·simp only[go_sem];exact⟨0,rfl,by omega,rfl⟩
 rintro ρ H' ⟨rfl,k,h16,hk,h7⟩;refine af _ _ _ (by rfl) ?_;by_cases hb:(k:Int)<x.parents.length
 ·obtain⟨q,hq⟩:=get_of_lt (l:=x.parents) (i:=k) (by omega);obtain⟨j,y,b,rfl,hy,hbv,a1,a2,a3⟩:=at_get k q hq;have hne2:=aL hq;have hne3:=aL hbv;have hj:(j:Int)<ns.length:=by have:=get_lt hy;omega
  have hj2:(j:Int)<vals.length:=by omega
  have e0:=jf hy;have w1:=IntWalk.i64_in ((k:Int)+1) (by omega);have r1:=hr (k+1);rw[qt a1 a2]at r1;have r0:=hr k;have m0:0<=eK ((aQ ns x).take k) ((aH vals x.parents).take k)*y.card:=Int.mul_nonneg r0.1 (by omega);have w2:=IntWalk.i64_in (eK ((aQ ns x).take k) ((aH vals x.parents).take k)*y.card) (by omega);have w3:=IntWalk.i64_in (eK ((aQ ns x).take k) ((aH vals x.parents).take k)*y.card+b) (by omega);simp only[go_sem,h16,hb,hq,hne2];refine W.draw 11 [0,0,0,6,14,30,63,0,0,384,896] Tryz.mixed (by kernel_rfl) (by kernel_rfl) ?_;simp only[go_sem,h16,h7,hne,hne3,hj,hj2,hbv,e0,w1,w2,w3];exact⟨⟨k+1,by simp,by omega,by rw[qt a1 a2]⟩,by omega⟩
 ·simp only[go_sem,h16,h7,hb];rw[List.take_of_length_le (by omega),List.take_of_length_le (by omega),qq (by rw[pl,vl])];exact ar.mk (Nat.le_refl _) hK
def cq (l:List Int):Nat:=l.foldl (fun s p=>s ||| 2 ^ p.toNat) 0
theorem MT (l:List Int):∀ (s i:Nat),(l.foldl (fun s p=>s ||| 2 ^ p.toNat) s).testBit i=(s.testBit i || l.any fun p=>p.toNat == i):=by
 induction l with
 | nil=>intro s i;simp
 | cons p l ih =>
  intro s i;simp only[List.foldl_cons,ih,Nat.testBit_or,Nat.testBit_two_pow,List.any_cons];rw[Bool.or_assoc];congr 1
theorem lE {l:List Int}(h:∀ p∈l,0<=p)(i:Nat):(cq l).testBit i=decide ((i:Int)∈l):=by
 unfold cq;rw[MT];simp only[Nat.zero_testBit,Bool.false_or];rw[Bool.eq_iff_iff];simp only[List.any_eq_true,beq_iff_eq,decide_eq_true_eq];constructor
 ·rintro⟨p,hp,rfl⟩;have:=h p hp;rw[Int.toNat_of_nonneg this];exact hp
 ·intro hi;exact⟨_,hi,by simp⟩
theorem uz (l:List Int)(p:Int):cq (l++[p])=cq l ||| 2 ^ p.toNat:=by unfold cq;rw[List.foldl_append];rfl
theorem xW {m n:Nat}(h:∀ i,m.testBit i=true->i<n):m<2 ^ n:=by
 apply Nat.lt_pow_two_of_testBit;intro i hi;rcases Bool.eq_false_or_eq_true (m.testBit i) with e|e
 ·exact absurd (h i e) (by omega)
 ·exact e
theorem nJ {l:List Int}{n:Nat}(h:∀ p∈l,0<=p/\p<n):cq l<2 ^ n:=xW fun i hi=>by
 rw[lE fun p hp=>(h p hp).1]at hi;have:=(h _ (of_decide_eq_true hi)).2;omega
theorem mr {m n i:Nat}(h:m<2 ^ n)(hi:m.testBit i=true):i<n:=by
 rcases Nat.lt_or_ge i n with h'|h'
 ·exact h'
 ·rw[Nat.testBit_lt_two_pow (Nat.lt_of_lt_of_le h (Nat.pow_le_pow_right (by decide) h'))]at hi;cases hi
def Sub (s t:Nat):Prop:=∀ i,s.testBit i=true->t.testBit i=true
theorem Sub.refl (s:Nat):Sub s s:=fun _ h=>h
theorem Sub.trans {s t u:Nat}(h:Sub s t)(h':Sub t u):Sub s u:=fun i hi=>h' i (h i hi)
theorem Sub.or {s t u:Nat}(h:Sub s u)(h':Sub t u):Sub (s ||| t) u:=fun i hi=>by
 rw[Nat.testBit_or,Bool.or_eq_true]at hi;exact hi.elim (h i) (h' i)
theorem Sub.left (s t:Nat):Sub s (s ||| t):=fun i hi=>by rw[Nat.testBit_or,hi];rfl
theorem Sub.right (s t:Nat):Sub t (s ||| t):=fun i hi=>by rw[Nat.testBit_or,hi];simp
theorem Sub.antisymm {s t:Nat}(h:Sub s t)(h':Sub t s):s=t:=Nat.eq_of_testBit_eq fun i=>by
 rw[Bool.eq_iff_iff];exact⟨h i,h' i⟩
theorem Bu {a b:Nat}(ha:a<2 ^ 64):iF a b=0↔Sub a b:=by
 constructor
 ·intro h i hi;have:=zk (a:=a) (b:=b) (i:=i) ha;rw[h,Nat.zero_testBit,hi]at this;simpa using this.symm
 ·intro h;apply Nat.eq_of_testBit_eq;intro i;rw[zk ha,Nat.zero_testBit];cases hi:a.testBit i
  ·rfl
  ·rw[h i hi];rfl
def lF (ps:List Nat)(s v:Nat):Nat:=if s.testBit v=true then s ||| ps.getD v 0 else s
def fJ (ps:List Nat)(s:Nat):Nat:=(List.range ps.length).foldl (lF ps) s
def im (ps:List Nat):Nat->Nat->Nat
 | 0,s=>s
 | k+1,s=>fJ ps (im ps k s)
def kE (ps:List Nat)(s:Nat):Nat:=im ps ps.length s
def kF (ps:List Nat):Prop:=∀ v,v<ps.length->(kE ps (ps.getD v 0)).testBit v=false
def nK (ps:List Nat)(t:Nat):Prop:=∀ v,v<ps.length->t.testBit v=true->Sub (ps.getD v 0) t
theorem Bv (ps:List Nat)(s v:Nat):Sub s (lF ps s v):=by unfold lF;split;exact .left _ _;exact .refl _
theorem Bw (ps:List Nat)(l:List Nat):∀ s,Sub s (l.foldl (lF ps) s):=by
 induction l with
 | nil=>exact fun s=>.refl s
 | cons v l ih=>exact fun s=>(Bv ps s v).trans (ih _)
theorem xX (ps:List Nat)(s:Nat):Sub s (fJ ps s):=Bw ps _ s
theorem MU {ps:List Nat}{t:Nat}(hc:nK ps t)(l:List Nat)(hl:∀ v∈l,v<ps.length):∀ s,Sub s t->Sub (l.foldl (lF ps) s) t:=by
 induction l with
 | nil=>exact fun s h=>h
 | cons v l ih =>
  intro s h;refine ih (fun v hv=>hl v (by simp [hv])) _ ?_;unfold lF;split
  ·rename_i hv;exact h.or (hc v (hl v (by simp)) (h v hv))
  ·exact h
theorem MV {ps:List Nat}{t:Nat}(hc:nK ps t){s:Nat}(h:Sub s t):Sub (fJ ps s) t:=MU hc _ (fun v hv=>List.mem_range.1 hv) s h
theorem uA {ps:List Nat}{t:Nat}(hc:nK ps t)(k:Nat){s:Nat}(h:Sub s t):Sub (im ps k s) t:=by
 induction k with
 | zero=>exact h
 | succ k ih=>exact MV hc ih
theorem xY (ps:List Nat)(k s:Nat):Sub s (im ps k s):=by
 induction k with
 | zero=>exact .refl _
 | succ k ih=>exact ih.trans (xX _ _)
theorem MW {ps:List Nat}{s:Nat}(h:fJ ps s=s):nK ps s:=by
 intro v hv hs;have key:∀ (l:List Nat) (s0:Nat),v∈l->s0.testBit v=true->Sub (ps.getD v 0) (l.foldl (lF ps) s0):=by
  intro l
  induction l with
  | nil=>intro s0 h;cases h
  | cons u l ih =>
   intro s0 hm hb;rcases List.mem_cons.1 hm with rfl|hm
   ·refine Sub.trans ?_ (Bw ps l _);unfold lF;rw[if_pos hb];exact .right _ _
   ·exact ih _ hm (Bv ps s0 u v hb)
 have:=key (List.range ps.length) s (List.mem_range.2 hv) hs;unfold fJ at h
 rwa [h]at this
def dO (n s:Nat):Nat:=(List.range n).countP fun i=>s.testBit i
theorem Bx (n s:Nat):dO n s<=n:=by have:=List.countP_le_length (p:=fun i=>s.testBit i) (l:=List.range n);simpa [dO] using this
theorem MX {l:List Nat}{p q:Nat->Bool}(h:∀ x∈l,p x=true->q x=true){a:Nat}(ha:a∈l)(hp:p a=false)(hq:q a=true):l.countP p<l.countP q:=by
 induction l with
 | nil=>cases ha
 | cons x l ih =>
  have hm:l.countP p<=l.countP q:=List.countP_mono_left fun y hy=>h y (by simp [hy]);rcases List.mem_cons.1 ha with rfl|ha
  ·rw[List.countP_cons,List.countP_cons,hp,hq];simp;omega
  ·have:=ih (fun y hy=>h y (by simp [hy])) ha;have hx:=h x (by simp);rw[List.countP_cons,List.countP_cons];cases hpx:p x
   ·simp;omega
   ·rw[hx hpx];simp;omega
theorem se {n s t i:Nat}(h:Sub s t)(hi:i<n)(h0:s.testBit i=false)(h1:t.testBit i=true):dO n s<dO n t :=
 MX (fun x _ hx=>h x hx) (List.mem_range.2 hi) h0 h1
theorem MY {ps:List Nat}(hp:∀ p∈ps,p<2 ^ ps.length){s:Nat}(hs:s<2 ^ ps.length):nK ps (kE ps s):=by
 have hb:∀ k,im ps k s<2 ^ ps.length:=fun k=>by
  have ht:nK ps (2 ^ ps.length - 1):=fun v _ _ i hi=>by
   rw[Nat.testBit_two_pow_sub_one];have:ps.getD v 0<2 ^ ps.length:=by
    rw[List.getD_eq_getElem?_getD];cases h:ps[v]? with
    | none=>exact Nat.two_pow_pos _
    | some p=>exact hp p (List.mem_of_getElem? h)
   simpa using mr this hi
  have:=uA ht k (s:=s) fun i hi=>by rw[Nat.testBit_two_pow_sub_one];simpa using mr hs hi
  exact xW fun i hi=>by have:=this i hi;rw[Nat.testBit_two_pow_sub_one]at this;simpa using this
 have key:∀ k,fJ ps (im ps k s)=im ps k s\/k+1<=dO ps.length (im ps k s):=by
  have grow:∀ t,t<2 ^ ps.length->fJ ps t<2 ^ ps.length->fJ ps t≠t->dO ps.length t<dO ps.length (fJ ps t):=fun t ht ht' hne=>by
   have:∃ i,(fJ ps t).testBit i=true/\t.testBit i=false:=by
    refine Classical.byContradiction fun hno=>hne (Sub.antisymm (fun i hi=>?_) (xX ps t));rcases Bool.eq_false_or_eq_true (t.testBit i) with e|e
    ·exact e
    ·exact absurd ⟨i,hi,e⟩ hno
   obtain⟨i,h1,h0⟩:=this;exact se (xX ps t) (mr ht' h1) h0 h1
  intro k
  induction k with
  | zero =>
   by_cases h0:s=0
   ·left;subst h0;show fJ ps 0=0;unfold fJ;have:∀ l:List Nat,l.foldl (lF ps) 0=0:=fun l=>by
     induction l with
     | nil=>rfl
     | cons v l ih=>simp only[List.foldl_cons,lF,Nat.zero_testBit,Bool.false_eq_true,if_false];exact ih
    exact this _
   ·right;obtain⟨i,hi⟩:=Nat.exists_testBit_of_ne_zero h0;have:dO ps.length 0<dO ps.length s:=se (fun j hj=>by rw[Nat.zero_testBit]at hj;cases hj) (mr hs hi) (Nat.zero_testBit i) hi;show 0+1<=dO ps.length s;omega
  | succ k ih =>
   rcases ih with ih|ih
   ·left;show fJ ps (fJ ps (im ps k s))=fJ ps (im ps k s);rw[ih];exact ih
   ·by_cases hf:fJ ps (im ps k s)=im ps k s
    ·left;show fJ ps (fJ ps (im ps k s))=fJ ps (im ps k s);rw[hf];exact hf
    ·right;have:=grow _ (hb k) (hb (k+1)) hf;show k+1+1<=dO ps.length (fJ ps (im ps k s));omega
 rcases key ps.length with h|h
 ·exact MW h
 ·have:=Bx ps.length (im ps ps.length s);omega
def jx (ps:List Nat)(done v:Nat):Bool:=!done.testBit v && decide (iF (ps.getD v 0) done=0)
def kG (ps:List Nat)(done:Nat):Option Nat:=(List.range ps.length).find? (jx ps done)
def iq (ps:List Nat):Nat->List Nat->Nat->Option (List Nat)
 | 0,out,_=>some out
 | k+1,out,done=>match kG ps done with
  | none=>none
  | some v=>iq ps k (out++[v]) (done ||| 2 ^ v)
def fw (ps:List Nat):Option (List Nat):=iq ps ps.length [] 0
theorem xZ {ps:List Nat}{done v:Nat}(hp:∀ p∈ps,p<2 ^ 64)(h:kG ps done=some v):v<ps.length/\done.testBit v=false/\Sub (ps.getD v 0) done:=by
 unfold kG at h;have h1:=List.mem_of_find?_eq_some h;have h2:=List.find?_some h;unfold jx at h2;simp only[Bool.and_eq_true,Bool.not_eq_true',decide_eq_true_eq]at h2;have hv:=List.mem_range.1 h1;refine⟨hv,h2.1,(Bu ?_).1 h2.2⟩;rw[List.getD_eq_getElem?_getD];cases h:ps[v]? with
 | none=>decide
 | some p=>exact hp p (List.mem_of_getElem? h)
theorem MZ {ps:List Nat}{done:Nat}(hp:∀ p∈ps,p<2 ^ 64)(h:kG ps done=none):∀ v,v<ps.length->done.testBit v=true\/¬ Sub (ps.getD v 0) done:=by
 intro v hv;unfold kG at h;rw[List.find?_eq_none]at h;have:=h v (List.mem_range.2 hv);unfold jx at this;rcases Bool.eq_false_or_eq_true (done.testBit v) with e|e
 ·exact .inl e
 ·right;intro hs;refine this ?_;rw[e,(Bu ?_).2 hs]
  ·simp
  ·rw[List.getD_eq_getElem?_getD];cases h:ps[v]? with
   | none=>decide
   | some p=>exact hp p (List.mem_of_getElem? h)
theorem iM (d v i:Nat):(d ||| 2 ^ v).testBit i=(d.testBit i || decide (v=i)):=by rw[Nat.testBit_or,Nat.testBit_two_pow]
theorem M0 {ps:List Nat}(hp:∀ p∈ps,p<2 ^ 64):∀ (k:Nat) (out:List Nat) (done:Nat) (r:List Nat),iq ps k out done=some r->k+dO ps.length done=ps.length ->
  nK ps done->(∀ v,v<ps.length->done.testBit v=true->(kE ps (ps.getD v 0)).testBit v=false)->kF ps:=by
 intro k
 induction k with
 | zero =>
  intro out done r _ hc hcl hall v hv;refine hall v hv ?_;rcases Bool.eq_false_or_eq_true (done.testBit v) with e|e
  ·exact e
  ·have:dO ps.length done<dO ps.length (2 ^ ps.length - 1 ||| done):=se (.right _ _) hv e (by rw[Nat.testBit_or,Nat.testBit_two_pow_sub_one];simp [hv]);have:=Bx ps.length (2 ^ ps.length - 1 ||| done);omega
 | succ k ih =>
  intro out done r h hc hcl hall;unfold iq at h;split at h
  ·cases h
  ·rename_i v hn;obtain⟨h1,h2,h3⟩:=xZ hp hn;refine ih _ _ _ h ?_ ?_ ?_
   ·have:dO ps.length (done ||| 2 ^ v)=dO ps.length done+1:=by
     unfold dO;have:∀ l:List Nat,l.Nodup->v∈l->l.countP (fun i=>(done ||| 2 ^ v).testBit i)=l.countP (fun i=>done.testBit i)+1:=by
      intro l
      induction l with
      | nil=>intro _ h;cases h
      | cons x l ihl =>
       intro hnd hmem;obtain⟨g1,g2⟩:=List.nodup_cons.1 hnd;rw[List.countP_cons,List.countP_cons];rcases List.mem_cons.1 hmem with rfl|hm2
       ·have:l.countP (fun i=>(done ||| 2 ^ v).testBit i)=l.countP (fun i=>done.testBit i):=List.countP_congr fun y hy=>by
         have:¬ v=y:=(by rintro rfl;exact g1 hy);simp [iM,this]
        rw[this];simp [iM,h2]
       ·have hx:¬ v=x:=(by rintro rfl;exact g1 hm2);rw[ihl g2 hm2];simp [iM,hx];omega
     exact this _ List.nodup_range (List.mem_range.2 h1)
    omega
   ·intro u hu hb;rw[iM,Bool.or_eq_true,decide_eq_true_eq]at hb;rcases hb with hb|rfl
    ·exact(hcl u hu hb).trans (.left _ _)
    ·exact h3.trans (.left _ _)
   ·intro u hu hb;rw[iM,Bool.or_eq_true,decide_eq_true_eq]at hb;rcases hb with hb|rfl
    ·exact hall u hu hb
    ·have:=uA hcl ps.length h3;rcases Bool.eq_false_or_eq_true ((kE ps (ps.getD v 0)).testBit v) with e|e
     ·have:=this v e;rw[h2]at this;cases this
     ·exact e
theorem M1 {ps:List Nat}(hp:∀ p∈ps,p<2 ^ ps.length)(h64:ps.length<=64)(ha:kF ps):∀ (k:Nat) (out:List Nat) (done:Nat),k+dO ps.length done=ps.length->∃ r,iq ps k out done=some r:=by
 have hp64:∀ p∈ps,p<2 ^ 64:=fun p h=>Nat.lt_of_lt_of_le (hp p h) (Nat.pow_le_pow_right (by decide) h64);have hpd:∀ v,ps.getD v 0<2 ^ ps.length:=fun v=>by
  rw[List.getD_eq_getElem?_getD];cases h:ps[v]? with
  | none=>exact Nat.two_pow_pos _
  | some p=>exact hp p (List.mem_of_getElem? h)
 intro k
 induction k with
 | zero=>exact fun out done _=>⟨out,rfl⟩
 | succ k ih =>
  intro out done hc;unfold iq;cases hn:kG ps done with
  | none =>
   exfalso;have hno:=MZ hp64 hn
      -- every node that is left has a parent that is left
   have step:∀ m v,v<ps.length->done.testBit v=false->dO ps.length (kE ps (ps.getD v 0))<=m->False:=by
    intro m
    induction m with
    | zero =>
     intro v hv hd hm;obtain⟨i,h1,h2⟩:∃ i,(ps.getD v 0).testBit i=true/\done.testBit i=false:=by
      rcases hno v hv with h|h
      ·rw[hd]at h;cases h
      ·refine Classical.byContradiction fun hc=>h fun i hi=>?_;rcases Bool.eq_false_or_eq_true (done.testBit i) with e|e
       ·exact e
       ·exact absurd ⟨i,hi,e⟩ hc
     have:dO ps.length 0<dO ps.length (kE ps (ps.getD v 0)):=se (fun j hj=>by rw[Nat.zero_testBit]at hj;cases hj) (mr (hpd v) h1) (Nat.zero_testBit i) (xY ps _ _ i h1);omega
    | succ m ihm =>
     intro v hv hd hm;obtain⟨u,h1,h2⟩:∃ i,(ps.getD v 0).testBit i=true/\done.testBit i=false:=by
      rcases hno v hv with h|h
      ·rw[hd]at h;cases h
      ·refine Classical.byContradiction fun hc=>h fun i hi=>?_;rcases Bool.eq_false_or_eq_true (done.testBit i) with e|e
       ·exact e
       ·exact absurd ⟨i,hi,e⟩ hc
     have hu:=mr (hpd v) h1;have hcl:=MY hp (hpd v);have hin:(kE ps (ps.getD v 0)).testBit u=true:=xY ps _ _ u h1;have hsub:Sub (kE ps (ps.getD u 0)) (kE ps (ps.getD v 0)):=uA hcl _ (hcl u hu hin);have:=se hsub hu (ha u hu) hin;exact ihm u hu h2 (by omega)
   obtain⟨v,hv,hd⟩:∃ v,v<ps.length/\done.testBit v=false:=by
    refine Classical.byContradiction fun hno=>?_;have:dO ps.length done=ps.length:=by
     unfold dO
     conv=>rhs;rw[<- List.length_range (n:=ps.length)]
     rw[List.countP_eq_length];intro x hx;rcases Bool.eq_false_or_eq_true (done.testBit x) with e|e
     ·exact e
     ·exact absurd ⟨x,List.mem_range.1 hx,e⟩ hno
    omega
   exact step _ v hv hd (Nat.le_refl _)
  | some v =>
   obtain⟨h1,h2,h3⟩:=xZ hp64 hn;refine ih _ _ ?_;have:dO ps.length (done ||| 2 ^ v)=dO ps.length done+1:=by
    unfold dO;have:∀ l:List Nat,l.Nodup->v∈l->l.countP (fun i=>(done ||| 2 ^ v).testBit i)=l.countP (fun i=>done.testBit i)+1:=by
     intro l
     induction l with
     | nil=>intro _ h;cases h
     | cons x l ihl =>
      intro hnd hmem;obtain⟨g1,g2⟩:=List.nodup_cons.1 hnd;rw[List.countP_cons,List.countP_cons];rcases List.mem_cons.1 hmem with rfl|hm2
      ·have:l.countP (fun i=>(done ||| 2 ^ v).testBit i)=l.countP (fun i=>done.testBit i):=List.countP_congr fun y hy=>by
        have:¬ v=y:=(by rintro rfl;exact g1 hy);simp [iM,this]
       rw[this];simp [iM,h2]
      ·have hx:¬ v=x:=(by rintro rfl;exact g1 hm2);rw[ihl g2 hm2];simp [iM,hx];omega
    exact this _ List.nodup_range (List.mem_range.2 h1)
   omega
theorem By (n:Nat):dO n 0=0:=by
 unfold dO;rw[List.countP_eq_zero];intro x _;simp
theorem x8 {ps:List Nat}(hp:∀ p∈ps,p<2 ^ ps.length)(h64:ps.length<=64):(fw ps).isSome=true↔kF ps:=by
 have hp64:∀ p∈ps,p<2 ^ 64:=fun p h=>Nat.lt_of_lt_of_le (hp p h) (Nat.pow_le_pow_right (by decide) h64);constructor
 ·intro h;obtain⟨r,hr⟩:=Option.isSome_iff_exists.1 h;exact M0 hp64 _ _ _ r hr (by rw[By];omega) (fun v _ h=>by rw[Nat.zero_testBit]at h;cases h) (fun v _ h=>by rw[Nat.zero_testBit]at h;cases h)
 ·intro h;obtain⟨r,hr⟩:=M1 hp h64 h ps.length [] 0 (by rw[By];omega);unfold fw;rw[hr];rfl
end Go.Proofs
namespace Go.Hx
def iT (l:List Nat):AVal:=.vec l.length (l.map bJ)
attribute [go_sem] bJ iT
theorem aD.Pv {S:Nat->Prop}{lo nx:Nat}{H:AHeap}{e:TypeId}{v:AVal}{l:List Nat}(h:aD lo H e v (l.map bJ))(hS:∀ i,lo<=i->S i):Fz S H nx v (iT l):=by
 have:=h.fz (S:=S) (nx:=nx) (cs':=l.map bJ) hS rfl fun i hi _=>by simp only[List.getElem_map];exact .lit _
 rw[List.length_map]at this;exact this
end Go.Hx
namespace Go.Proofs
open Go.Hx
theorem Dc {H H':AHeap}{v:AVal}{l:List Nat}(x:Nat)(ov:Over H H')(h:aD H.next H' 35 v (l.map bJ))(hl:l.length<2 ^ 40):
  ∃ v' H2,bO Tryz.prog (ext H' [.arr 0 35 [.lit (.int .u64 (x:Int))]]) (H'.next+1) 106 106 v (.own H'.next 0 0 1 1)=some (v',H2)/\Over H H2/\aD H.next H2 35 v' ((l++[x]).map bJ)/\H'.next<=H2.next/\(∀ k,k<H'.next->(∀ g n,v≠.own k g 0 n 1)->H2.get k=H'.get k):=by
 obtain⟨v',H2,hA,hO,hn2,hp⟩:=iK (P:=Tryz.prog) (H:=H') (t:=106) (x:=bJ x) (n:=H'.next+1) Tryz.underlying106 Tryz.Ba Tryz.Bd rfl (by rw[Tryz.Bc,List.length_map];omega) h ov.next rfl;simp only[bJ]at hA;exact⟨v',H2,hA,mD ov h hn2 hp,by rw[List.map_append];exact hO,hn2,hp⟩
theorem Pw (m v:Nat)(hm:m<2 ^ 64)(hv:v<2 ^ 62)(H:AHeap)(K:ARes->AHeap->Prop)(hK:K (.ret (.lit (.bool (m.testBit v)))) H):ae Tryz.prog G0 134 [bJ m,aa v] H K:=by
 refine ae.aP (n:=11) (rs:=[.tmp 4]) Tryz.func134 rfl rfl rfl (by decide) (by kernel_rfl) (by simp) ?_;have w1:=IntWalk.u64_in (v:Int) (by omega);have s1:=fun t x y=>lY (P:=Tryz.prog) (t:=t) (x:=x) (y:=y) (k':=.u64) (s:=v) hm;have s2:=fun t x y=>mW (P:=Tryz.prog) (t:=t) (x:=x) (y:=y) (s:=v) hm;cases hb:m.testBit v
 ·rw[hb]at hK;simp only[go_sem,w1,s1,s2,hb];exact ar.mk (Nat.le_refl _) hK
 ·rw[hb]at hK;simp only[go_sem,w1,s1,s2,hb];exact ar.mk (Nat.le_refl _) hK
def bd (ns:List NodeP):List Nat:=ns.map fun x=>cq x.parents
theorem lT {ns:List NodeP}{k:Nat}{x:NodeP}(h:ns[k]?=some x):(bd ns)[k]?=some (cq x.parents):=by unfold bd;rw[List.getElem?_map,h];rfl
theorem Px (g:Int)(ns:List NodeP)(hl:(ns.length:Int)<2 ^ 39)(hp:∀ x∈ns,(x.parents.length:Int)<2 ^ 39/\∀ q∈x.parents,0<=q/\q<64)(H:AHeap)(K:ARes->AHeap->Prop)
  (hK:K (.ret (iT (bd ns))) H):ae Tryz.prog G0 43 [da g ns] H K:=by
 refine ae.clo ⟨_,Tryz.func43,rfl,rfl⟩ fun hcl=>?_;refine ae.aP (n:=43) (rs:=[.tmp 2]) Tryz.func43 rfl rfl rfl (by decide) (by kernel_rfl) (by simp) ?_;simp only[go_sem,da,dB];obtain⟨H1,hH1⟩:∃ H1,H1=ext H [.arr 0 103 [.lit (.int .i64 g),.vec ns.length (aB ns)]]:=⟨_,rfl⟩
 have l1:H1.live H.next 0=some (103,[.lit (.int .i64 g),.vec ns.length (aB ns)]):=by rw[hH1];exact ag (bR ..)
 have n1:H1.next=H.next+1:=by rw[hH1];rfl
 have o1:Over H H1:=by rw[hH1];exact .ext _ _
 rw[<- hH1];refine W.aK 4398046511096 (by rfl) (fun ρ H'=>∃ k:Nat,ρ 4=aa k/\k<=ns.length/\ρ 1=.ptr H.next 0 0/\Over H1 H'/\aD H1.next H' 35 (ρ 3) (((bd ns).take k).map bJ)) (fun ρ H=>ns.length - (iv (ρ 4)).toNat) ?_ ?_
 ·simp only[go_sem];exact⟨0,rfl,by omega,.refl _,.nil⟩
 rintro ρ H' ⟨k,h4,hk,h1,ov,h3⟩;refine af _ _ _ (by rfl) ?_;have l2:=(ov.live (g:=0) (by omega:H.next<H1.next)).trans l1;by_cases hb:(k:Int)<ns.length
 ·obtain⟨x,hx⟩:=get_of_lt (l:=ns) (i:=k) (by omega);have hne:=eA hx;have e1:=lD hx;obtain⟨xl,xr⟩:=hp x (List.mem_of_getElem? hx);simp only[go_sem,h4,h1,l2,hb];refine W.aK 274877890656 (by rfl) (fun ρ' H2=>H2=H'/\∃ j:Nat,ρ' 6=aa j/\j<=x.parents.length/\ρ' 5=bJ (cq (x.parents.take j))) (fun ρ' H=>x.parents.length - (iv (ρ' 6)).toNat) ?_ ?_
  ·simp only[go_sem];exact⟨0,rfl,by omega,rfl⟩
  rintro ρ' H2 ⟨rfl,j,h6,hj,h5⟩;refine af _ _ _ (by rfl) ?_;by_cases hb2:(j:Int)<x.parents.length
  ·obtain⟨q,hq⟩:=get_of_lt (l:=x.parents) (i:=j) (by omega);obtain⟨q0,q1⟩:=xr q (List.mem_of_getElem? hq);obtain⟨u,rfl⟩:=Int.eq_ofNat_of_zero_le q0;have hne2:=aL hq;have w1:=IntWalk.u64_in (u:Int) (by omega);have w2:=IntWalk.i64_in ((j:Int)+1) (by omega);have b1:cq (x.parents.take j)<2 ^ 64:=nJ fun p hp=>by have:=xr p (List.mem_of_mem_take hp);omega
   have s1:=fun t x y=>mV (P:=Tryz.prog) (t:=t) (x:=x) (y:=y) (k':=.u64) (s:=u) (by omega);have s2:=fun t x y=>kg (P:=Tryz.prog) (t:=t) (x:=x) (y:=y) (b:=2 ^ u) b1 (Nat.pow_lt_pow_right (by decide) (by omega));simp only[go_sem,h4,h1,l2,hb,hne,e1,h6,h5,hb2,hq,hne2,w1,w2,s1,s2];exact⟨⟨j+1,by simp,by omega,by rw[aT hq,uz];rfl⟩,by omega⟩
  ·obtain⟨v',H3,hA,ov2,hO,hn2,_⟩:=Dc (cq x.parents) ov h3 (by simp [bd];omega);have w1:=IntWalk.i64_in ((k:Int)+1) (by omega);rw[List.take_of_length_le (by omega)]at h5;simp only[go_sem,h4,h1,l2,hb,hne,e1,h6,h5,hb2,w1,hA];refine⟨by have:=ov2.next;omega,⟨k+1,by simp,by omega,ov2,?_⟩,by omega⟩;rw[aT (lT hx)];exact hO
 ·simp only[go_sem,h4,h1,l2,hb];rw[List.take_of_length_le (by simp [bd];omega)]at h3;exact ar.bB aI hcl (o1.trans ov) (h3.Pv fun i hi=>by omega) hK
def j9 (g card:Int)(r:List Int):Prop:=(r.length:Int)=card/\(∀ w∈r,0<=w/\w<=g)/\r.sum=g
def fX (g:Int)(ns:List NodeP)(x:NodeP):Prop:=(x.rows.length:Int)=az (aQ ns x)/\∀ r∈x.rows,j9 g x.card r
structure NetOk (g:Int)(ns:List NodeP):Prop where
 g1:1<=g/\g<=60
 n1:1<=ns.length/\ns.length<=8
 node:∀ x∈ns,(1<=x.card/\x.card<=4)/\cH x.parents ns.length
 size:az (ak ns)<=1024
 acyc:kF (bd ns)
 rows:∀ x∈ns,fX g ns x
noncomputable def pr (g:Int)(ns:List NodeP):Bool:=@decide (NetOk g ns) (Classical.propDecidable _)
theorem Dd {g:Int}{ns:List NodeP}(h:NetOk g ns):pr g ns=true:=by unfold pr;exact @decide_eq_true _ (Classical.propDecidable _) h
theorem De {g:Int}{ns:List NodeP}(h:¬ NetOk g ns):pr g ns=false:=by unfold pr;exact @decide_eq_false _ (Classical.propDecidable _) h
def vo (ns:List NodeP):Prop:=(ns.length:Int)<2 ^ 38/\∀ x∈ns,(x.parents.length:Int)<2 ^ 38/\(x.rows.length:Int)<2 ^ 38/\∀ r∈x.rows,(r.length:Int)<2 ^ 38
theorem mL {l:List Int}(h:l.length<=12)(h2:∀ x∈l,1<=x/\x<=4):dS l:=⟨h,fun x hx=>by have:=h2 x hx;omega⟩
theorem mM {ns:List NodeP}{x:NodeP}(hin:fO x.parents ns.length)(hc:∀ y∈ns,1<=y.card/\y.card<=4):∀ c∈aQ ns x,1<=c/\c<=4:=fun c h=>by
 unfold aQ aH at h;obtain⟨q,hq,rfl⟩:=List.mem_map.1 h;obtain⟨j,rfl,y,hy⟩:=mo (l:=ns) (hin q hq).1 (hin q hq).2;rw[Int.toNat_natCast,bI (cU hy)];exact hc y (List.mem_of_getElem? hy)
theorem lU {ns:List NodeP}{x:NodeP}(h8:ns.length<=8)(hp:cH x.parents ns.length)(hc:∀ y∈ns,1<=y.card/\y.card<=4):dS (aQ ns x):=by
 refine mL ?_ (mM (fun q hq=>by have:=hp.2 q hq;omega) hc);rw[show (aQ ns x).length=_ from gL _ _];have:=hp.len;omega
theorem vp {ns:List NodeP}{n:Nat}(h:∀ x∈ns,∀ q∈x.parents,0<=q/\q<(n:Int)):∀ p∈bd ns,p<2 ^ n:=fun p hp=>by
 obtain⟨x,hx,rfl⟩:=List.mem_map.1 hp;exact nJ fun q hq=>by have:=h x hx q hq;omega
theorem yU (l:List Int)(x:Int):(l++[x]).sum=l.sum+x:=by simp
end Go.Proofs
namespace Go.Hx
variable {P:Program} {G:Nat->Option (List AVal)} {n:Nat} {rd:Option Nat} {Q:AX->St->Prop}
def vU (P:Program)(G:Nat->Option (List AVal))(f:FuncId)(first cap:List AVal)(xs:List (List AVal))(S:AHeap->Prop):Prop :=
 ∀ (idy:Nat) (J:Nat->AHeap->Prop) (Stop:AHeap->Prop) (H:AHeap) (K:ARes->AHeap->Prop),
  (∀ k H1,J k H1->S H1)->J 0 H ->
  (∀ k x H1 K1,xs[k]?=some x->J k H1->H.next<=H1.next->(∀ H',J (k+1) H'->H1.next<=H'.next->K1 (.ret (.lit (.bool true))) H')->(∀ H',Stop H'->H1.next<=H'.next->K1 (.ret (.lit (.bool false))) H')->ay P G (.yld idy) x H1 K1) ->
  (∀ H',J xs.length H'->H.next<=H'.next->K (.ret (.tup [])) H') ->
  (∀ H',Stop H'->H.next<=H'.next->K (.ret (.tup [])) H') ->
  ae P G f (first++[.yld idy]++cap) H K
def eE (idy:Nat)(B:Blk)(lo:Nat)(J:AHeap->Prop)(Stop:AX->AHeap->Prop):AX->St->Prop
 | .normal,s=>s.H.get idy=some B/\lo<=s.H.next/\J s.H
 | .ret,s=>s.H.get idy=some B/\lo<=s.H.next/\Stop .ret s.H
 | .exit i,s=>s.H.get idy=some B/\lo<=s.H.next/\Stop (.exit i) s.H
 | _,_=>False
def jr (P:Program)(G:Nat->Option (List AVal))(n idy:Nat)(B Bb:Blk)(lo:Nat)(body:Code)(J:AHeap->Prop)(Stop:AX->AHeap->Prop):AX->St->Prop
 | .normal,s=>s.H.get idy=some B/\W P G n (some idy) body (eE idy Bb lo J Stop) ⟨s.ρ,s.H.upd idy Bb⟩
 | _,_=>False
theorem W.pA {g:Operand}{ps:Array Tmp}{asg body:Code}{ρ:Env}{H:AHeap}{f:FuncId}{first cap:List AVal}{xs:List (List AVal)}{S:AHeap->Prop}(hg:aw G ρ g=.clo f first cap)
  (hit:vU P G f first cap xs S) (J:Nat->AHeap->Prop) (Stop:AX->AHeap->Prop) (hS:∀ k H1,J k H1->S H1)
  (hJu:∀ k H1 b,J k H1->J k (H1.upd H.next b)) (hSu:∀ c H1 b,Stop c H1->Stop c (H1.upd H.next b))
  (hJ0:∀ b,J 0 (ext H [b])) (hps:ps.toList.all (fun t=>decide (t<n))=true) (hxl:∀ x∈xs,x.length=ps.size)
  (hrd:∀ k H1,J k H1->fm H1 rd) (hrd2:∀ c H1,Stop c H1->fm H1 rd)
  (hround:∀ k x H1 B Bb,xs[k]?=some x->J k H1->H.next+1<=H1.next->H1.get H.next=some B->(∃ st pd n' en ps' as' bo,Bb=Blk.loop st pd n' en ps' as' bo) ->
   W P G n (some H.next) asg (jr P G n H.next B Bb H1.next body (J (k+1)) Stop) ⟨gX (bh ρ n) (ps.toList.zip x),H1⟩)
  (hend:∀ H',J xs.length H'->H.next+1<=H'.next->Q .normal ⟨ρ,H'⟩)
  (hret:∀ H',Stop .ret H'->H.next+1<=H'.next->Q .ret ⟨ρ,H'⟩) (hexit:∀ i H',Stop (.exit i) H'->H.next+1<=H'.next->Q (.exit i) ⟨ρ,H'⟩):
  W P G n rd (.rangeFunc g ps asg body) Q ⟨ρ,H⟩:=by
 refine W.rangeFunc (s:=⟨ρ,H⟩) hg ⟨_,rM _ _,?_⟩;obtain⟨B,hB⟩:∃ B,B=Blk.loop .ready none n ρ ps asg body:=⟨_,rfl⟩
 obtain⟨Bb,hBb⟩:∃ B,B=Blk.loop .busy none n ρ ps asg body:=⟨_,rfl⟩
 have nx:(ext H [B]).next=H.next+1:=rfl;show ae P G f (first++[.yld H.next]++cap) (ext H [Blk.loop .ready none n ρ ps asg body]) (xx rd Q ρ H.next);rw[<- hB];refine hit H.next (fun k H1=>H1.get H.next=some B/\J k H1) (fun H1=>∃ c pend,H1.get H.next=some (.loop .done (some pend) n ρ ps asg body)/\Stop c H1/\((c=.ret/\pend=.ret)\/∃ i,c=.exit i/\pend=.exit i)) _ _
  (fun k H1 h=>hS k H1 h.2) ⟨bL,hJ0 B⟩ (fun k x H1 K1 hx hj hn hgo hst=>?_) (fun H' hj hn=>?_) (fun H' hj hn=>?_)
 ·have hxm:=hxl x (List.mem_of_getElem? hx);refine ay.yld (hj.1.trans (congrArg some hB)) hxm hps ?_;refine(hround k x H1 B Bb hx hj.2 hn hj.1 ⟨_,_,_,_,_,_,_,hBb⟩).mono fun e s1 h1=>?_;cases e with
  | normal =>
   obtain⟨a1,a2⟩:=h1;refine⟨Bb,by rw[a1,hB,hBb];rfl,?_⟩;refine a2.mono fun e2 s2 h2=>?_;cases e2 with
   | normal =>
    obtain⟨b1,b2,b3⟩:=h2;exact⟨B,by rw[b1,hB,hBb];rfl,hgo _ ⟨by rw[aj,if_pos rfl],hJu _ _ _ b3⟩ b2⟩
   | ret =>
    obtain⟨b1,b2,b3⟩:=h2;exact⟨.loop .done (some .ret) n ρ ps asg body,by rw[b1,hBb];rfl,hst _ ⟨.ret,.ret,by rw[aj,if_pos rfl],hSu _ _ _ b3,.inl ⟨rfl,rfl⟩⟩ b2⟩
   | exit i =>
    obtain⟨b1,b2,b3⟩:=h2;exact⟨.loop .done (some (.exit i)) n ρ ps asg body,by rw[b1,hBb];rfl,hst _ ⟨.exit i,.exit i,by rw[aj,if_pos rfl],hSu _ _ _ b3,.inr ⟨i,rfl,rfl⟩⟩ b2⟩
   | _=>exact h2.elim
  | _=>exact h1.elim
 ·refine⟨hrd _ _ hj.2,(none,.loop .exhausted none n ρ ps asg body),by rw[hj.1,hB];rfl,?_⟩;exact hend _ (hJu _ _ _ hj.2) hn
 ·obtain⟨c,pend,h1,h2,h3⟩:=hj;refine⟨hrd2 _ _ h2,(some pend,.loop .exhausted (some pend) n ρ ps asg body),by rw[h1];rfl,?_⟩;rcases h3 with ⟨rfl,rfl⟩|⟨i,rfl,rfl⟩
  ·exact hret _ (hSu _ _ _ h2) hn
  ·exact hexit i _ (hSu _ _ _ h2) hn
end Go.Hx
namespace Go.Proofs
open Go.Hx
def sU (x:NodeP):AVal:=.agg [.lit (.int .i64 x.card),.vec x.parents.length (ints x.parents),aA x.rows]
def n9 (rows:List (List Int)):List (List AVal):=rows.zipIdx.map fun p=>[aa p.2,ah p.1]
theorem Df {rows:List (List Int)}{k:Nat}{x:List AVal}(h:(n9 rows)[k]?=some x):∃ r,rows[k]?=some r/\x=[aa k,ah r]:=by
 unfold n9 at h;rw[List.getElem?_map,List.getElem?_zipIdx]at h;cases hr:rows[k]? with
 | none=>rw[hr]at h;simp at h
 | some r=>rw[hr]at h;simp at h;exact⟨r,rfl,h.symm⟩
theorem Py {rows:List (List Int)}{k:Nat}{r:List Int}(h:rows[k]?=some r):(n9 rows)[k]?=some [aa k,ah r]:=by
 unfold n9;rw[List.getElem?_map,List.getElem?_zipIdx,h];simp
theorem Dh (rows:List (List Int)):(n9 rows).length=rows.length:=by simp [n9]
theorem Pz (x:NodeP)(hl:(x.rows.length:Int)<2 ^ 40)(b:Nat):vU Tryz.prog G0 170 [] [.ptr b 0 0] (n9 x.rows) (fun H=>H.get b=some (.arr 0 73 [.lit (.int .i64 x.card),.vec x.parents.length (ints x.parents),aA x.rows])):=by
 intro idy J Stop H K hS hJ0 hY hK hSt;have l0:=ag (hS 0 H hJ0);show ae _ _ _ ([.yld idy]++[.ptr b 0 0]) _ _;refine ae.aP (n:=19) (rs:=[]) Tryz.func170 rfl rfl rfl (by decide) (by kernel_rfl) (by simp) ?_;simp only[go_sem,l0,aA];refine W.aK 524056 (by rfl) (fun ρ H'=>∃ k:Nat,ρ 8=aa k/\k<=x.rows.length/\J k H'/\H.next<=H'.next) (fun ρ H=>x.rows.length - (iv (ρ 8)).toNat) ?_ ?_
 ·simp only[go_sem];exact⟨0,rfl,by omega,hJ0⟩
 rintro ρ H' ⟨k,h8,hk,hj,hn⟩;refine af _ _ _ (by rfl) ?_;by_cases hb:(k:Int)<x.rows.length
 ·obtain⟨r,hr⟩:=get_of_lt (l:=x.rows) (i:=k) (by omega);have hne:=aL hr;have w1:=IntWalk.i64_in ((k:Int)+1) (by omega);simp only[go_sem,h8,hb,hr,hne];refine hY k [aa k,ah r] H' _ (Py hr) hj hn (fun H2 hj2 hn2=>⟨trivial,?_⟩) (fun H2 hs2 hn2=>⟨trivial,?_⟩)
  ·simp only[go_sem,h8,w1];exact⟨by omega,⟨k+1,by simp,by omega,hj2,by omega⟩,by omega⟩
  ·simp only[go_sem];exact ar.mk (by omega) (hSt H2 hs2 (by omega))
 ·simp only[go_sem,h8,hb];have ek:k=(n9 x.rows).length:=by rw[Dh];omega
  subst ek;exact ar.mk (by omega) (hK H' hj hn)
theorem PA (x:NodeP)(H:AHeap)(K:ARes->AHeap->Prop)(hK:K (.ret (.clo 170 [] [.ptr H.next 0 0])) (ext H [.arr 0 73 [.lit (.int .i64 x.card),.vec x.parents.length (ints x.parents),aA x.rows]])):
  ae Tryz.prog G0 168 [sU x] H K:=by
 refine ae.aP (n:=4) (rs:=[.tmp 2]) Tryz.func168 rfl rfl rfl (by decide) (by kernel_rfl) (by simp) ?_;simp only[go_sem,sU];exact ar.mk (by simp [aY]) hK
theorem yV {l:List Int}{g:Int}(h:∀ w∈l,0<=w):0<=l.sum:=by
 induction l with
 | nil=>simp
 | cons a l ih =>
  have h1:=ih fun w hw=>h w (by simp [hw]);have h2:=h a (by simp);simp only[List.sum_cons];omega
theorem yW {l:List Int}(h:∀ w∈l,0<=w):∀ w∈l,w<=l.sum:=by
 induction l with
 | nil=>intro w hw;cases hw
 | cons a l ih =>
  intro w hw;have h1:=yV (g:=0) fun w hw=>h w (List.mem_cons_of_mem a hw);have h2:=h a (by simp);simp only[List.sum_cons];rcases List.mem_cons.1 hw with rfl|hw
  ·omega
  ·have:=ih (fun w hw=>h w (by simp [hw])) w hw;omega
noncomputable def lV (g:Int)(ns:List NodeP)(x:NodeP):Bool:=@decide (fX g ns x) (Classical.propDecidable _)
theorem Di {g:Int}{ns:List NodeP}{x:NodeP}(h:fX g ns x):lV g ns x=true:=by unfold lV;exact @decide_eq_true _ (Classical.propDecidable _) h
theorem PB {g:Int}{ns:List NodeP}{x:NodeP}(h:¬ fX g ns x):lV g ns x=false:=by unfold lV;exact @decide_eq_false _ (Classical.propDecidable _) h
theorem PC {g:Int}{ns:List NodeP}{x:NodeP}:lV g ns x=true↔fX g ns x:=by unfold lV;exact @decide_eq_true_iff _ (Classical.propDecidable _)
set_option maxHeartbeats 2000000 in
theorem PD (g:Int)(hg:1<=g/\g<=60)(ns:List NodeP)(sets:List Nat)(x:NodeP)(hin:fO x.parents ns.length)(hsm:dS (aQ ns x))(hx1:(x.rows.length:Int)<2 ^ 38)(hx2:∀ r∈x.rows,(r.length:Int)<2 ^ 38)(H:AHeap)(K:ARes->AHeap->Prop)
  (hK:K (.ret (.lit (.bool (lV g ns x)))) H):ae Tryz.prog G0 161 [.agg [.lit (.int .i64 g),dB ns,ah (ak ns),iT sets,.lit (.slice none 0 0)],sU x] H K:=by
 refine ae.clo ⟨_,Tryz.func161,rfl,rfl⟩ fun hcl=>?_;have l12:=hsm.1;have pl:(aQ ns x).length=x.parents.length:=gL _ _;have no:¬ fX g ns x->∀ H',Over H H'->ar Tryz.prog G0 H K (.lit (.bool false)) H':=fun h H' ov=>ar.bB aI hcl ov (.lit _) (by rw[PB h]at hK;exact hK);refine ae.aP (n:=66) (rs:=[.cell 4 4]) Tryz.func161 rfl rfl rfl (by decide) (by kernel_rfl) (by simp) ?_;simp only[go_sem,dB,sU];obtain⟨H1,hH1⟩:∃ H1,H1=ext H [.arr 0 209 [.lit (.int .i64 g),.vec ns.length (aB ns),.vec (ak ns).length (ints (ak ns)),.vec sets.length (sets.map bJ),.lit (.slice none 0 0)],.arr 0 73 [.lit (.int .i64 x.card),.vec x.parents.length (ints x.parents),aA x.rows],.arr 0 4 [.lit (.bool false)]]:=⟨_,rfl⟩
 have l1:H1.live H.next 0=some (209,[.lit (.int .i64 g),.vec ns.length (aB ns),.vec (ak ns).length (ints (ak ns)),.vec sets.length (sets.map bJ),.lit (.slice none 0 0)]):=by rw[hH1];exact ag (bR ..)
 have l2:H1.live (H.next+1) 0=some (73,[.lit (.int .i64 x.card),.vec x.parents.length (ints x.parents),aA x.rows]):=by rw[hH1];exact ag (aZ H _ 1 (by simp))
 have g3:H1.get (H.next+2)=some (.arr 0 4 [.lit (.bool false)]):=by rw[hH1];exact aZ H _ 2 (by simp)
 have n1:H1.next=H.next+3:=by rw[hH1];rfl
 have o1:Over H H1:=by rw[hH1];exact .ext _ _
 rw[<- hH1];refine W.aK 268370080 (by rfl) (fun ρ H'=>H'=H1/\∃ k:Nat,ρ 16=aa k/\k<=x.parents.length/\ρ 5=aa (az ((aQ ns x).take k))) (fun ρ H=>x.parents.length - (iv (ρ 16)).toNat) ?_ ?_
 ·simp only[go_sem];exact⟨0,rfl,by omega,by simp [iL]⟩
 rintro ρ H' ⟨rfl,k,h16,hk,h5⟩;refine af _ _ _ (by rfl) ?_;by_cases hb:(k:Int)<x.parents.length
 ·obtain⟨q,hq⟩:=get_of_lt (l:=x.parents) (i:=k) (by omega);obtain⟨j,rfl,y,hy⟩:=mo (l:=ns) (hin q (List.mem_of_getElem? hq)).1 (hin q (List.mem_of_getElem? hq)).2;have hne2:=aL hq;have hyc:=cU hy;have hne3:=aL hyc;have hj:(j:Int)<(ak ns).length:=by have:=get_lt hyc;omega
  have pk:(aQ ns x)[k]?=some y.card:=by
   rw[show (aQ ns x)[k]?=_ from jF hq,Int.toNat_natCast,bI hyc]
  have b1:=(hsm.take (k+1)).prod;rw[aT pk,fH]at b1;have w1:=IntWalk.i64_in ((k:Int)+1) (by omega);have w2:=IntWalk.i64_in (az ((aQ ns x).take k)*y.card) (by omega);simp only[go_sem,h16,h5,l1,hb,hq,hne2,hj,hyc,hne3,w1,w2];exact⟨⟨k+1,by simp,by omega,by rw[aT pk,fH]⟩,by omega⟩
 rw[List.take_of_length_le (by omega)]at h5;by_cases c1:(x.rows.length:Int)=az (aQ ns x);rotate_left
 ·simp only[go_sem,h16,h5,l2,hb,c1,aA];have l3:=ag g3;simp only[go_sem,l3];exact no (fun h=>c1 h.1) _ (o1.upd (by omega) _)
 simp only[go_sem,h16,h5,l2,hb,c1,aA];refine ay.clo (PA x _ _ ⟨trivial,?_⟩);simp only[go_sem];obtain⟨H2,hH2⟩:∃ H2,H2=ext H' [.arr 0 73 [.lit (.int .i64 x.card),.vec x.parents.length (ints x.parents),aA x.rows]]:=⟨_,rfl⟩
 rw[<- hH2];have o2:Over H' H2:=by rw[hH2];exact .ext _ _
 have n2:H2.next=H.next+4:=by rw[hH2,aY,n1];rfl
 have hbx:H2.get H'.next=some (.arr 0 73 [.lit (.int .i64 x.card),.vec x.parents.length (ints x.parents),aA x.rows]):=by rw[hH2];exact bL
 refine W.env fun E hE=>?_;have e2:E 2=.ptr H.next 0 0:=by rw[hE];simp only[go_sem]
 have e3:E 3=.ptr (H.next+1) 0 0:=by rw[hE];simp only[go_sem]
 have e4:E 4=.ptr (H.next+2) 0 0:=by rw[hE];simp only[go_sem]
 have i1:H2.live H.next 0=some (209,[.lit (.int .i64 g),.vec ns.length (aB ns),.vec (ak ns).length (ints (ak ns)),.vec sets.length (sets.map bJ),.lit (.slice none 0 0)]):=(o2.live (by omega)).trans l1;have i2:H2.live (H.next+1) 0=some (73,[.lit (.int .i64 x.card),.vec x.parents.length (ints x.parents),aA x.rows]):=(o2.live (by omega)).trans l2;have i3:H2.get (H.next+2)=some (.arr 0 4 [.lit (.bool false)]):=(o2.old _ (by omega)).trans g3;refine W.pA (f:=170) (first:=[]) (cap:=[.ptr H'.next 0 0]) (by show E 34=_;rw[hE];rfl) (Pz x (by omega) H'.next)
  (fun k Hx=>Over H2 Hx/\∀ r∈x.rows.take k,j9 g x.card r) (fun c Hx=>c=.ret/\Over H Hx/\H.next+4<=Hx.next/\Hx.get (H.next+2)=some (.arr 0 4 [.lit (.bool false)])/\¬ fX g ns x)
  (fun k Hx h=>by rw[h.1.old _ (by omega)];exact hbx) (fun k Hx b h=>⟨h.1.upd (Nat.le_refl _) b,h.2⟩) (fun c Hx b h=>⟨h.1,h.2.1.upd (by omega) b,h.2.2.1,by rw[aj,if_neg (by omega)];exact h.2.2.2.1,h.2.2.2.2⟩)
  (fun b=>⟨.ext _ _,by simp⟩) (by decide) (fun y hy=>by
   obtain⟨k,hk⟩:=List.mem_iff_getElem?.1 hy;obtain⟨r,_,rfl⟩:=Df hk;rfl) (fun _ _ _=>trivial) (fun _ _ _=>trivial) (fun k y Hx B Bb hy hj hn hB hBb=>?_) (fun Hx hj hn=>?_) (fun Hx hs hn=>?_) (fun i Hx hs hn=>by cases hs.1)
 ·obtain⟨r,hr,rfl⟩:=Df hy;refine af _ _ _ (by rfl) ?_;simp only[go_sem,gX,bh,jr,List.foldl_cons,List.foldl_nil,List.zip_cons_cons,List.zip_nil_right,hB];obtain⟨H3,hH3⟩:∃ H3,H3=Hx.upd H2.next Bb:=⟨_,rfl⟩
  rw[<- hH3];obtain⟨st,pd,n',en,ps',as',bo,hBe⟩:=hBb;have o3:Over H2 H3:=by rw[hH3];exact hj.1.upd (Nat.le_refl _) Bb
  have o4:Over H H3:=(o1.trans o2).trans o3;have n3:H3.next=Hx.next:=by rw[hH3];rfl
  have j1:=(o3.live (g:=0) (by omega:H.next<H2.next)).trans i1;have j2:=(o3.live (g:=0) (by omega:H.next+1<H2.next)).trans i2;have j3:=(o3.old _ (by omega:H.next+2<H2.next)).trans i3;have j4:=ag j3;have jB:H3.get H2.next=some Bb:=by rw[hH3,aj,if_pos rfl]
  have nB:¬ H2.next=H.next+2:=by omega
  have hrm:=List.mem_of_getElem? hr;have hrl:=hx2 r hrm;have nope:¬ j9 g x.card r->¬ fX g ns x:=fun h h'=>h (h'.2 r hrm);have stop:¬ j9 g x.card r->(H3.upd (H.next+2) (Blk.arr 0 4 [.lit (.bool false)])).get H2.next=some Bb/\Hx.next<=(H3.upd (H.next+2) (Blk.arr 0 4 [.lit (.bool false)])).next/\Over H (H3.upd (H.next+2) (Blk.arr 0 4 [.lit (.bool false)])) /\
    H.next+4<=(H3.upd (H.next+2) (Blk.arr 0 4 [.lit (.bool false)])).next/\(H3.upd (H.next+2) (Blk.arr 0 4 [.lit (.bool false)])).get (H.next+2)=some (.arr 0 4 [.lit (.bool false)])/\¬ fX g ns x:=fun h =>
   ⟨by rw[aj,if_neg nB];exact jB,by rw[aG];omega,o4.upd (by omega) _,by rw[aG];omega,by rw[aj,if_pos rfl],nope h⟩
  refine af _ _ _ (by rfl) ?_;simp only[go_sem,bh,e2,j1];refine W.aK 144110790029349888 (by rfl) (fun ρ2 H4=>H4=H3/\∃ i:Nat,ρ2 42=aa i/\i<=r.length/\(∀ w∈r.take i,0<=w)/\(r.take i).sum<=g/\ρ2 10=aa (g - (r.take i).sum)) (fun ρ2 H=>r.length - (iv (ρ2 42)).toNat) ?_ ?_
  ·simp only[go_sem];exact⟨0,rfl,by omega,by simp,by simp;omega,by simp⟩
  rintro ρ2 H4 ⟨rfl,i,h42,hi,hw0,hws,h10⟩;refine af _ _ _ (by rfl) ?_;have s0:=yV (g:=g) hw0;by_cases hb2:(i:Int)<r.length
  ·obtain⟨a,ha⟩:=get_of_lt (l:=r) (i:=i) (by omega);have ham:=List.mem_of_getElem? ha;have hane:=aL ha;by_cases d1:a<0
   ·simp only[go_sem,h42,hb2,ha,hane,d1,bh,e4,j4,eE];exact stop fun h=>by have:=h.2.1 a ham;omega
   by_cases d2:a > g - (r.take i).sum
   ·simp only[go_sem,h42,h10,hb2,ha,hane,d1,d2,bh,e4,j4,eE];refine stop fun h=>?_;have h1:r.sum=(r.take (i+1)).sum+(r.drop (i+1)).sum:=(by rw[<- List.sum_append,List.take_append_drop]);rw[aT ha,yU]at h1;have h2:=yV (g:=g) (l:=r.drop (i+1)) fun w hw=>(h.2.1 w (List.mem_of_mem_drop hw)).1;have:=h.2.2;omega
   have w1:=IntWalk.i64_in ((i:Int)+1) (by omega);have w2:=IntWalk.i64_in (g - (r.take i).sum - a) (by omega);simp only[go_sem,h42,h10,hb2,ha,hane,d1,d2,w1,w2,bh];refine⟨⟨_,_,_,_,_,_,_,by rw[jB,hBe]⟩,⟨i+1,by simp,by omega,fun w hw=>?_,by rw[aT ha,yU];omega,?_⟩,by omega⟩
   ·rw[aT ha]at hw;rcases List.mem_append.1 hw with hw|hw
    ·exact hw0 w hw
    ·obtain rfl:=List.mem_singleton.1 hw;omega
   ·rw[aT ha,yU];show aa _=aa _;congr 1;omega
  ·rw[List.take_of_length_le (by omega)]at hw0 hws h10 s0;by_cases d1:(r.length:Int)=x.card;rotate_left
   ·simp only[go_sem,h42,hb2,d1,bh,e3,e4,j2,j4,eE];exact stop fun h=>d1 h.1
   have hb2':¬ (i:Int)<x.card:=(by omega);by_cases d2:g - r.sum=0;rotate_left
   ·simp only[go_sem,h42,h10,hb2',d1,d2,bh,e3,e4,j2,j4,eE];exact stop fun h=>by have:=h.2.2;omega
   simp only[go_sem,h42,h10,hb2',d1,d2,bh,e3,j2,eE];refine⟨jB,by omega,o3,fun y hy=>?_⟩;rw[aT hr]at hy;rcases List.mem_append.1 hy with hy|hy
   ·exact hj.2 y hy
   ·obtain rfl:=List.mem_singleton.1 hy;exact⟨d1,fun w hw=>⟨hw0 w hw,by have:=yW hw0 w hw;omega⟩,by omega⟩
 ·have hok:fX g ns x:=⟨c1,by
   have:=hj.2;rw[Dh,List.take_length]at this;exact this⟩
  have j4:=ag ((hj.1.old _ (by omega:H.next+2<H2.next)).trans i3);rw[Di hok]at hK;simp only[go_sem,e4,j4];exact ar.bB aI hcl (((o1.trans o2).trans hj.1).upd (by omega) _) (.lit _) hK
 ·obtain⟨_,o4,n4,g4,hno⟩:=hs;have j4:=ag g4;simp only[go_sem,e4,j4];exact no hno _ o4
end Go.Proofs
namespace Go.Hx
theorem aD.pt {lo:Nat}{H:AHeap}{e:TypeId}{v:AVal}{l:List Int}(h:aD lo H e v (ints l)):Fresh H v (ah l):=by
 rcases h with ⟨rfl,h⟩|⟨id,g,h1,h2,rfl,h4⟩
 ·have:l=[]:=by cases l with
   | nil=>rfl
   | cons a l=>simp [ints]at h
  subst this;exact .nil
 ·have e:ah l=.vec (ints l).length (ints l):=by rw[aR];rfl
  rw[e];refine .own h4 (by simp) fun j hj h2 h'=>?_;simp only[Nat.zero_add,ints,List.getElem_map];exact .lit _
theorem Fz.qQ {H:AHeap}{id g n nx:Nat}{e:TypeId}{cs:List AVal}(hg:H.get id=some (.arr g e cs))(hn:n=cs.length)(hl:∀ c∈cs,∃ v,c=.lit v):Fz (fun _=>True) H nx (.own id g 0 n 1) (.vec n cs):=by
 refine .frz trivial hg (by omega) fun j hj h2 h'=>?_;simp only[Nat.zero_add];obtain⟨v,hv⟩:=hl _ (List.getElem_mem h');rw[hv];exact .lit _
end Go.Hx
namespace Go.Proofs
open Go.Hx
def aX (l:List Nat):List Int:=l.map fun (v:Nat)=>(v:Int)
theorem Dj {n j:Nat}{p:Nat->Bool}(hj:j<n)(h1:∀ v,v<j->p v=false)(h2:p j=true):(List.range n).find? p=some j:=by
 rw[List.find?_eq_some_iff_getElem];refine⟨h2,j,by simpa using hj,by simp,fun k hk=>?_⟩;simp only[List.getElem_range];simp [h1 k hk]
theorem Dk {n:Nat}{p:Nat->Bool}(h1:∀ v,v<n->p v=false):(List.range n).find? p=none:=by
 rw[List.find?_eq_none];intro x hx;simp [h1 x (List.mem_range.1 hx)]
set_option maxHeartbeats 1000000 in
theorem PE (ps:List Nat)(hl:ps.length<=60)(hp:∀ p∈ps,p<2 ^ 64)(H:AHeap)(K:ARes->AHeap->Prop)
  (hK:∀ v H',Over H H'->(match fw ps with|some o=>aD H.next H' 3 v (ints (aX o))|none=>v=.lit (.slice none 0 0))->K (.ret (.tup [v,.lit (.bool (fw ps).isSome)])) H'):ae Tryz.prog G0 162 [iT ps] H K:=by
 have no:∀ H',fw ps=none->Over H H'->ar Tryz.prog G0 H K (.tup [.lit (.slice none 0 0),.lit (.bool false)]) H':=fun H' h ov=>ar.mk ov.next (by
  have:=hK (.lit (.slice none 0 0)) H' ov;rw[h]at this;exact this rfl)
 refine ae.aP (n:=44) (rs:=[.tmp 2,.tmp 3]) Tryz.func162 rfl rfl rfl (by decide) (by kernel_rfl) (by simp) ?_;simp only[go_sem];refine⟨by omega,?_⟩;refine W.aK 8796093020412 (by rfl) (fun ρ H'=>∃ (out:List Nat) (done:Nat),ρ 5=bJ done/\done<2 ^ 64/\out.length<=ps.length/\H.next+1<=H'.next/\Over H H'/\aD H.next H' 3 (ρ 4) (ints (aX out))/\(∃ id g,ρ 4=.own id g 0 out.length 1)/\iq ps (ps.length - out.length) out done=fw ps)
  (fun ρ H=>ps.length - (match ρ 4 with|.own _ _ _ n _=>n|_=>0)) ?_ ?_
 ·simp only[go_sem];exact⟨[],0,by simp,by decide,Nat.zero_le _,.ext _ _,.inr ⟨H.next,0,Nat.le_refl _,by simp [aY],rfl,bR H _ []⟩,⟨_,_,rfl⟩,rfl⟩
 rintro ρ H' ⟨out,done,h5,hd,ho,hn0,ov,h4,⟨id,gn,h4e⟩,ht⟩;refine af _ _ _ (by rfl) ?_;have lv:H'.live id gn=some (3,ints (aX out)):=by
  rcases h4 with ⟨h,_⟩|⟨i,g,h1,h2,h3,h4⟩
  ·rw[h4e]at h;cases h
  ·rw[h4e]at h3;have:=AVal.own.inj h3;obtain⟨rfl,rfl,_⟩:=this;exact ag h4
 by_cases hb:(out.length:Int)<ps.length
 ·simp only[go_sem,h4e,lv,hb];have hk1:ps.length - out.length=(ps.length - (out.length+1))+1:=by omega
  refine W.aK 8796092760304 (by rfl) (fun ρ2 H2=>H2=H'/\∃ j:Nat,ρ2 18=aa j/\j<=ps.length/\ρ2 4=.own id gn 0 out.length 1/\ρ2 5=bJ done/\∀ v,v<j->jx ps done v=false) (fun ρ2 H=>ps.length - (iv (ρ2 18)).toNat) ?_ ?_
  ·simp only[go_sem,h4e,h5];exact⟨0,rfl,by omega,fun v h=>absurd h (Nat.not_lt_zero _)⟩
  rintro ρ2 H2 ⟨rfl,j,h18,hj,h4',h5',hno⟩;refine af _ _ _ (by rfl) ?_;by_cases hb2:(j:Int)<ps.length
  ·obtain⟨p,hpj⟩:=get_of_lt (l:=ps) (i:=j) (by omega);have hp1:=hp p (List.mem_of_getElem? hpj);have hne:=aL hpj;have s1:=fun t x y=>lY (P:=Tryz.prog) (t:=t) (x:=x) (y:=y) (k':=.i64) (s:=j) hd;have s2:=fun t x y=>mW (P:=Tryz.prog) (t:=t) (x:=x) (y:=y) (s:=j) hd;have s3:=fun t x y=>zl (P:=Tryz.prog) (t:=t) (x:=x) (y:=y) (a:=p) (b:=done);have w1:=IntWalk.i64_in ((j:Int)+1) (by omega);have cont:jx ps done j=false->∀ v,v<j+1->jx ps done v=false:=fun h v hv=>by
    rcases Nat.lt_or_ge v j with h'|h'
    ·exact hno v h'
    ·obtain rfl:v=j:=(by omega);exact h
   have fe:jx ps done j=(!done.testBit j && decide (iF p done=0)):=(by unfold jx;rw[bI hpj]);cases hbit:done.testBit j;rotate_left
   ·simp only[go_sem,h18,h4',h5',hb2,hpj,hne,s1,s2,hbit,w1];exact⟨⟨j+1,by simp,by omega,cont (by rw[fe,hbit];rfl)⟩,by omega⟩
   by_cases hz:iF p done=0;rotate_left
   ·have hz':¬ ((iF p done:Nat):Int)=0:=(by omega);simp only[go_sem,h18,h4',h5',hb2,hpj,hne,s1,s2,s3,hbit,hz',w1];exact⟨⟨j+1,by simp,by omega,cont (by rw[fe,hbit];simp [hz])⟩,by omega⟩
   have hz':((iF p done:Nat):Int)=0:=(by omega);have hnx:kG ps done=some j:=Dj (by omega) hno (by rw[fe,hbit];simp [hz]);obtain⟨v',H3,hA,ov2,hO,hn2,_⟩:=kh (j:Int) ov h4 (by simp [aX];omega);rw[h4e]at hA;have b2:(2:Nat) ^ j<2 ^ 64:=Nat.pow_lt_pow_right (by decide) (by omega);have s4:=fun t x y=>mV (P:=Tryz.prog) (t:=t) (x:=x) (y:=y) (k':=.i64) (s:=j) (by omega);have s5:=fun t x y=>kg (P:=Tryz.prog) (t:=t) (x:=x) (y:=y) hd b2;simp only[go_sem,h18,h4',h5',hb2,hpj,hne,s1,s2,s3,s4,s5,hbit,hz',hA];have hO':aD H.next H3 3 v' (ints (aX (out++[j]))):=by
    have e:aX (out++[j])=aX out++[(j:Int)]:=(by simp [aX]);rw[e];exact hO
   have hv':∃ id g,v'=.own id g 0 (out.length+1) 1:=by
    rcases hO' with ⟨_,h⟩|⟨i,g,_,_,h3,_⟩
    ·simp [ints,aX]at h
    ·exact⟨i,g,by rw[h3,aR];simp [aX]⟩
   obtain⟨i2,g2,rfl⟩:=hv';refine⟨by omega,⟨out++[j],done ||| 2 ^ j,rfl,Nat.or_lt_two_pow hd b2,by simp;omega,by omega,ov2,hO',⟨i2,g2,by simp⟩,?_⟩,by simp only;omega⟩;rw[<- ht,hk1]
   conv=>rhs;unfold iq
   rw[hnx];simp
  ·simp only[go_sem,h18,hb2];refine no _ ?_ ov;rw[<- ht,hk1];unfold iq;have:kG ps done=none:=Dk fun v hv=>hno v (by omega);rw[this]
 ·simp only[go_sem,h4e,lv,hb];have hz:ps.length - out.length=0:=by omega
  rw[hz]at ht;have ht':fw ps=some out:=ht.symm;have:=hK (.own id gn 0 out.length 1) H' ov;rw[ht']at this;refine ar.mk ov.next (this ?_);rw[h4e]at h4;exact h4
theorem PF (ps:List Nat)(hl:ps.length<=60)(hp:∀ p∈ps,p<2 ^ 64)(H:AHeap)(v:AVal)(hv:Fz (fun _=>True) H 0 v (iT ps))(K:ARes->AHeap->Prop)
  (hK:K (.ret (.tup [ah (aX ((fw ps).getD [])),.lit (.bool (fw ps).isSome)])) H):ae Tryz.prog G0 162 [v] H K:=by
 refine(ae.frame (H:=H) (args:=[v]) (args':=[iT ps]) (v':=.tup [ah (aX ((fw ps).getD [])),.lit (.bool (fw ps).isSome)]) aI rfl (fun i hi _=>match i,hi with|0,_=>hv) (PE ps hl hp dw _ fun u H' ov hu=>⟨_,rfl,?_⟩)).mono ?_
 ·refine .tup rfl fun i hi _=>?_
  match i,hi with
  | 0,_ =>
   show Fresh H' u _;cases ht:fw ps with
   | none=>rw[ht]at hu;simp only at hu;rw[hu];show Fresh H' _ (ah []);exact .nil
   | some o=>rw[ht]at hu;exact aD.pt hu
  | 1,_=>exact .lit _
 ·rintro r H' ⟨rfl,rfl⟩;exact hK
def yX:AVal:=.agg [.lit (.int .i64 0),ah [],ah [],ah [],ah []]
def yY (g:Int)(ns:List NodeP):AVal:=.agg [.lit (.int .i64 g),dB ns,ah (ak ns),iT (bd ns),ah (aX ((fw (bd ns)).getD []))]
structure RdS (g:Int)(ns:List NodeP)(H H':AHeap)(c:List Int)(s:List Nat):Prop where
 nx:H.next+5<=H'.next
 ov:Over H H'
 b0:H'.get H.next=some (.arr 0 103 [.lit (.int .i64 g),.vec ns.length (aB ns)])
 b1:H'.get (H.next+1)=some (.arr 0 209 [.lit (.int .i64 0),.lit (.slice none 0 0),.lit (.slice none 0 0),.lit (.slice none 0 0),.lit (.slice none 0 0)])
 b2:H'.get (H.next+2)=some (.arr 0 3 (ints c))
 b3:H'.get (H.next+3)=some (.arr 0 35 (s.map bJ))
 b4:H'.get (H.next+4)=some (.arr 0 209 [.lit (.int .i64 g),.vec ns.length (aB ns),.own (H.next+2) 0 0 ns.length 1,.own (H.next+3) 0 0 ns.length 1,.lit (.slice none 0 0)])
 cl:c.length=ns.length
 sl:s.length=ns.length
theorem RdS.over {g:Int}{ns:List NodeP}{H H' H2:AHeap}{c:List Int}{s:List Nat}(h:RdS g ns H H' c s)(o:Over H' H2):RdS g ns H H2 c s where
 nx:=Nat.le_trans h.nx o.next
 ov:=h.ov.trans o
 b0:=(o.old _ (by have:=h.nx;omega)).trans h.b0
 b1:=(o.old _ (by have:=h.nx;omega)).trans h.b1
 b2:=(o.old _ (by have:=h.nx;omega)).trans h.b2
 b3:=(o.old _ (by have:=h.nx;omega)).trans h.b3
 b4:=(o.old _ (by have:=h.nx;omega)).trans h.b4
 cl:=h.cl
 sl:=h.sl
theorem RdS.PG {g:Int}{ns:List NodeP}{H H':AHeap}{c:List Int}{s:List Nat}(h:RdS g ns H H' c s){k:Nat}(hk:k<c.length)(x:Int):RdS g ns H (H'.upd (H.next+2) (.arr 0 3 (setAt (ints c) k [.lit (.int .i64 x)]))) (c.set k x) s where
 nx:=h.nx
 ov:=h.ov.upd (by omega) _
 b0:=by rw[aj,if_neg (by omega)];exact h.b0
 b1:=by rw[aj,if_neg (by omega)];exact h.b1
 b2:=by rw[aj,if_pos rfl,fV hk]
 b3:=by rw[aj,if_neg (by omega)];exact h.b3
 b4:=by rw[aj,if_neg (by omega)];exact h.b4
 cl:=by simpa using h.cl
 sl:=h.sl
theorem PH {l:List Nat}{i:Nat}{x:Nat}(h:i<l.length):setAt (l.map bJ) i [.lit (.int .u64 (x:Int))]=(l.set i x).map bJ:=by
 rw[ic (by simpa using h)];simp [bJ]
theorem RdS.PI {g:Int}{ns:List NodeP}{H H':AHeap}{c:List Int}{s:List Nat}(h:RdS g ns H H' c s){k:Nat}(hk:k<s.length)(x:Nat):RdS g ns H (H'.upd (H.next+3) (.arr 0 35 (setAt (s.map bJ) k [.lit (.int .u64 (x:Int))]))) c (s.set k x) where
 nx:=h.nx
 ov:=h.ov.upd (by omega) _
 b0:=by rw[aj,if_neg (by omega)];exact h.b0
 b1:=by rw[aj,if_neg (by omega)];exact h.b1
 b2:=by rw[aj,if_neg (by omega)];exact h.b2
 b3:=by rw[aj,if_pos rfl,PH hk]
 b4:=by rw[aj,if_neg (by omega)];exact h.b4
 cl:=h.cl
 sl:=by simpa using h.sl
theorem RdS.l0 {g:Int}{ns:List NodeP}{H H':AHeap}{c:List Int}{s:List Nat}(h:RdS g ns H H' c s):H'.live H.next 0=some (103,[.lit (.int .i64 g),.vec ns.length (aB ns)]):=ag h.b0
theorem RdS.l1 {g:Int}{ns:List NodeP}{H H':AHeap}{c:List Int}{s:List Nat}(h:RdS g ns H H' c s):H'.live (H.next+1) 0=some (209,[.lit (.int .i64 0),.lit (.slice none 0 0),.lit (.slice none 0 0),.lit (.slice none 0 0),.lit (.slice none 0 0)]):=ag h.b1
theorem RdS.l2 {g:Int}{ns:List NodeP}{H H':AHeap}{c:List Int}{s:List Nat}(h:RdS g ns H H' c s):H'.live (H.next+2) 0=some (3,ints c):=ag h.b2
theorem RdS.l3 {g:Int}{ns:List NodeP}{H H':AHeap}{c:List Int}{s:List Nat}(h:RdS g ns H H' c s):H'.live (H.next+3) 0=some (35,s.map bJ):=ag h.b3
theorem RdS.l4 {g:Int}{ns:List NodeP}{H H':AHeap}{c:List Int}{s:List Nat}(h:RdS g ns H H' c s):H'.live (H.next+4) 0=some (209,[.lit (.int .i64 g),.vec ns.length (aB ns),.own (H.next+2) 0 0 ns.length 1,.own (H.next+3) 0 0 ns.length 1,.lit (.slice none 0 0)]):=ag h.b4
theorem qR {S:Nat->Prop}{H:AHeap}{nx:Nat}(ns:List NodeP):Fz S H nx (.vec ns.length (aB ns)) (.vec ns.length (aB ns)):=by
 refine .vec rfl fun i hi _=>?_;have:∀ (l:List NodeP) (c:AVal),c∈aB l->Fz S H nx c c:=by
  intro l c hc;unfold aB at hc;obtain⟨r,hr,hc⟩:=List.mem_flatten.1 hc;obtain⟨x,_,rfl⟩:=List.mem_map.1 hr;unfold NodeP.cells at hc;simp only[List.mem_cons,List.not_mem_nil,or_false]at hc;rcases hc with rfl|rfl|rfl
  ·exact .lit _
  ·exact .dG _
  ·exact .aA _
 exact this ns _ (List.getElem_mem _)
theorem PJ (g:Int)(hg:1<=g/\g<=60)(ns:List NodeP)(sets:List Nat)(x:NodeP)(hin:fO x.parents ns.length)(hsm:dS (aQ ns x))(hx1:(x.rows.length:Int)<2 ^ 38)(hx2:∀ r∈x.rows,(r.length:Int)<2 ^ 38)(H:AHeap)(ci si:Nat)
  (h2:H.get ci=some (.arr 0 3 (ints (ak ns)))) (h3:H.get si=some (.arr 0 35 (sets.map bJ))) (hs:sets.length=ns.length) (K:ARes->AHeap->Prop)
  (hK:K (.ret (.lit (.bool (lV g ns x)))) H):ae Tryz.prog G0 161 [.agg [.lit (.int .i64 g),.vec ns.length (aB ns),.own ci 0 0 ns.length 1,.own si 0 0 ns.length 1,.lit (.slice none 0 0)],.agg [.lit (.int .i64 x.card),.vec x.parents.length (ints x.parents),aA x.rows]] H K:=by
 refine(ae.frame (H:=H) (args:=[.agg [.lit (.int .i64 g),.vec ns.length (aB ns),.own ci 0 0 ns.length 1,.own si 0 0 ns.length 1,.lit (.slice none 0 0)],.agg [.lit (.int .i64 x.card),.vec x.parents.length (ints x.parents),aA x.rows]]) (args':=[.agg [.lit (.int .i64 g),dB ns,ah (ak ns),iT sets,.lit (.slice none 0 0)],sU x]) (v':=.lit (.bool (lV g ns x))) aI rfl (fun i hi _=>?_) (PD g hg ns sets x hin hsm hx1 hx2 dw _ ⟨_,rfl,.lit _⟩)).mono ?_
 ·match i,hi with
  | 0,_ =>
   refine .agg rfl fun i hi _=>?_
   match i,hi with
   | 0,_=>exact .lit _
   | 1,_=>exact qR _
   | 2,_ =>
    have:=Fz.qQ (nx:=0) h2 (n:=ns.length) (by rw[aR,dc]) (fun c hc=>by
     obtain⟨z,_,rfl⟩:=List.mem_map.1 hc;exact⟨_,rfl⟩)
    show Fz _ _ _ _ (.vec (ak ns).length (ints (ak ns)));rw[dc];exact this
   | 3,_ =>
    have:=Fz.qQ (nx:=0) h3 (n:=ns.length) (by simp [hs]) (fun c hc=>by
     obtain⟨z,_,rfl⟩:=List.mem_map.1 hc;exact⟨_,rfl⟩)
    show Fz _ _ _ _ (.vec sets.length (sets.map bJ));rw[hs];exact this
   | 4,_=>exact .lit _
  | 1,_ =>
   refine .agg rfl fun i hi _=>?_
   match i,hi with
   | 0,_=>exact .lit _
   | 1,_=>exact .dG _
   | 2,_=>exact .aA _
 ·rintro r H' ⟨rfl,rfl⟩;exact hK
theorem PK {ns:List NodeP}{k:Nat}{x:NodeP}(hx:ns[k]?=some x)(h0:∀ q∈x.parents,0<=q)(hm:(k:Int)∈x.parents):¬ kF (bd ns):=fun h=>by
 have hk:=get_lt (lT hx);have:=h k hk;rw[bI (lT hx)]at this;have h1:=xY (bd ns) (bd ns).length (cq x.parents) k (by rw[lE h0];exact decide_eq_true hm);unfold kE at this;rw[h1]at this;cases this
set_option maxHeartbeats 4000000 in
theorem PL (g:Int)(ns:List NodeP)(hf:vo ns)(H:AHeap)(K:ARes->AHeap->Prop)(hK:K (.ret (if pr g ns then .tup [yY g ns,aa 0] else .tup [yX,aa 50])) H):ae Tryz.prog G0 147 [da g ns] H K:=by
 refine ae.clo ⟨_,Tryz.func147,rfl,rfl⟩ fun hcl=>?_;have no:¬ NetOk g ns->∀ H',Over H H'->ar Tryz.prog G0 H K (.tup [.agg [.lit (.int .i64 0),.lit (.slice none 0 0),.lit (.slice none 0 0),.lit (.slice none 0 0),.lit (.slice none 0 0)],.lit (.int .i64 50)]) H':=fun h H' ov=>by
  rw[De h]at hK;refine ar.bB (v':=.tup [yX,aa 50]) aI hcl ov (.tup rfl fun i hi _=>?_) hK
  match i,hi with
  | 0,_ =>
   refine .agg rfl fun i hi _=>?_
   match i,hi with
   | 0,_=>exact .lit _
   | 1,_=>exact .nil
   | 2,_=>exact .nil
   | 3,_=>exact .nil
   | 4,_=>exact .nil
  | 1,_=>exact .lit _
 refine ae.aP (n:=140) (rs:=[.cell 2 209,.tmp 3]) Tryz.func147 rfl rfl rfl (by decide) (by kernel_rfl) (by simp) ?_;simp only[go_sem,da,dB];have l1:=ag (bR H (.arr 0 103 [.lit (.int .i64 g),.vec ns.length (aB ns)]) [.arr 0 209 [.lit (.int .i64 0),.lit (.slice none 0 0),.lit (.slice none 0 0),.lit (.slice none 0 0),.lit (.slice none 0 0)]]);by_cases c1:g<1
 ·simp only[go_sem,c1];exact no (fun h=>by have:=h.g1;omega) _ (.ext _ _)
 by_cases c2:g > 60
 ·simp only[go_sem,l1,c1,c2];exact no (fun h=>by have:=h.g1;omega) _ (.ext _ _)
 by_cases c3:(ns.length:Int)<1
 ·simp only[go_sem,l1,c1,c2,c3];exact no (fun h=>by have:=h.n1;omega) _ (.ext _ _)
 by_cases c4:(ns.length:Int) > 8
 ·simp only[go_sem,l1,c1,c2,c3,c4];exact no (fun h=>by have:=h.n1;omega) _ (.ext _ _)
 simp only[go_sem,l1,c1,c2,c3,c4];refine W.draw 11 [0,0,2,6,14,0,32,96,224,511,0] Tryz.mixed (by kernel_rfl) (by kernel_rfl) ?_;simp only[go_sem,l1]
 repeat (refine And.intro (by first|omega|(simp;done)|(simp;omega)|(intros;omega)|exact⟨rfl,by omega,by omega,kA _⟩) ?_)
 obtain⟨Hb,hHb⟩:∃ Hb,Hb=ext (ext H [.arr 0 103 [.lit (.int .i64 g),.vec ns.length (aB ns)],.arr 0 209 [.lit (.int .i64 0),.lit (.slice none 0 0),.lit (.slice none 0 0),.lit (.slice none 0 0),.lit (.slice none 0 0)],.arr 0 3 (List.replicate ns.length (.lit (.int .i64 0))),.arr 0 35 (List.replicate ns.length (.lit (.int .u64 0)))]) [.arr 0 209 [.lit (.int .i64 g),.vec ns.length (aB ns),.own (H.next+2) 0 0 ns.length 1,.own (H.next+3) 0 0 ns.length 1,.lit (.slice none 0 0)]]:=⟨_,rfl⟩
 rw[<- hHb];have R0:RdS g ns H Hb (List.replicate ns.length 0) (List.replicate ns.length 0):=by
  rw[hHb,dH];exact⟨by simp [aY],.ext _ _,bR ..,aZ H _ 1 (by simp),by rw[aZ H _ 2 (by simp)];simp [ints,aa],by rw[aZ H _ 3 (by simp)];simp [bJ],aZ H _ 4 (by simp),by simp,by simp⟩
 have hcard:∀ {k:Nat},(∀ x∈ns.take k,1<=x.card/\x.card<=4)->dS ((ak ns).take k):=fun {k} h=>mL (by simp [ak];omega) fun c hc=>by
  rw[show (ak ns).take k=ak (ns.take k) by simp [ak]]at hc;obtain⟨y,hy,rfl⟩:=List.mem_map.1 hc;exact h y hy
 refine W.aK 37778930737057254867176 (by rfl) (fun ρ H'=>∃ (k:Nat) (c:List Int),ρ 50=aa k/\k<=ns.length/\ρ 5=aa (az ((ak ns).take k))/\RdS g ns H H' c (List.replicate ns.length 0)/\Hb.next<=H'.next/\c.take k=(ak ns).take k/\∀ x∈ns.take k,1<=x.card/\x.card<=4) (fun ρ H=>ns.length - (iv (ρ 50)).toNat) ?_ ?_
 ·simp only[go_sem];exact⟨0,_,rfl,by omega,by simp [iL],R0,by simp⟩
 rintro ρ H' ⟨k,c,h50,hk,h5,R,hn,hc,hall⟩;refine af _ _ _ (by rfl) ?_;have q0:=R.l0;have q1:=R.l1;have q2:=R.l2;have q4:=R.l4;have rn:=R.nx;by_cases hb:(k:Int)<ns.length
 ·obtain⟨x,hx⟩:=get_of_lt (l:=ns) (i:=k) (by omega);have hxm:=List.mem_of_getElem? hx;have hne:=eA hx;have e0:=oS hx;have e1:k*3+3<=(aB ns).length:=by rw[jS];omega
  have R2:=R.over (.ext H' [.arr 0 73 [.lit (.int .i64 x.card),.vec x.parents.length (ints x.parents),aA x.rows]]);have p1:=R2.l1;have p2:=R2.l2;have p4:=R2.l4;have nb1:¬ H.next+1=H'.next:=by omega
  have nb2:¬ H.next+2=H'.next:=by omega
  have nb4:¬ H.next+4=H'.next:=by omega
  by_cases d1:x.card<1
  ·simp only[go_sem,h50,p1,hb,hne,e0,e1,d1];exact no (fun h=>by have:=(h.node x hxm).1;omega) _ (R2.ov.upd (by omega) _)
  by_cases d2:x.card > 4
  ·simp only[go_sem,h50,p1,hb,hne,e0,e1,d1,d2];exact no (fun h=>by have:=(h.node x hxm).1;omega) _ (R2.ov.upd (by omega) _)
  have hall':∀ y∈ns.take (k+1),1<=y.card/\y.card<=4:=fun y hy=>by
   rw[aT hx]at hy;rcases List.mem_append.1 hy with hy|hy
   ·exact hall y hy
   ·obtain rfl:=List.mem_singleton.1 hy;exact⟨by omega,by omega⟩
  have b2:=(hcard hall').prod;rw[aT (cU hx),fH]at b2;have w1:=IntWalk.i64_in ((k:Int)+1) (by omega);have w2:=IntWalk.i64_in (az ((ak ns).take k)*x.card) (by omega);have hkc:k<c.length:=by rw[R.cl];omega
  have p0:∀ b,((ext H' [.arr 0 73 [.lit (.int .i64 x.card),.vec x.parents.length (ints x.parents),aA x.rows]]).upd (H.next+2) b).live H'.next 0=some (73,[.lit (.int .i64 x.card),.vec x.parents.length (ints x.parents),aA x.rows]):=fun b=>by
   rw[om (by omega)];exact ag bL
  simp only[go_sem,h50,h5,p2,p4,p0,hb,hne,e0,e1,d1,d2,w1,w2];exact⟨by omega,by rw[aG,aY];omega,⟨k+1,_,by simp,by omega,by rw[aT (cU hx),fH],R2.PG hkc x.card,by rw[aG,aY];omega,D7 hc hkc (cU hx),fun y hy=>hall' y hy⟩,by omega⟩
 have ek:k=ns.length:=by omega
 subst ek;rw[List.take_of_length_le (Nat.le_refl _)]at hall;rw[List.take_of_length_le (by rw[dc];omega)]at h5;have ec:c=ak ns:=by
  rw[List.take_of_length_le (by rw[R.cl];omega),List.take_of_length_le (by rw[dc];omega)]at hc;exact hc
 subst ec;by_cases c5:az (ak ns) > 1024
 ·simp only[go_sem,h50,h5,q1,hb,c5];exact no (fun h=>by have:=h.size;omega) _ (R.ov.upd (by omega) _)
 simp only[go_sem,h50,h5,q4,hb,c5];refine W.aK 340282366920933627760096148915069392648 (by rfl) (fun ρ' H2=>∃ (k:Nat) (s:List Nat),ρ' 82=aa k/\k<=ns.length/\RdS g ns H H2 (ak ns) s/\H'.next<=H2.next/\s.take k=(bd ns).take k/\(∀ j,k<=j->s.getD j 0=0)/\∀ x∈ns.take k,cH x.parents ns.length/\fX g ns x) (fun ρ' H=>ns.length - (iv (ρ' 82)).toNat) ?_ ?_
 ·simp only[go_sem];refine⟨0,_,rfl,by omega,R,rfl,fun j _=>?_,by simp⟩;rw[List.getD_eq_getElem?_getD,List.getElem?_replicate];split<;>rfl
 rintro ρ' H2 ⟨k,s,h82,hk2,R2,hn2,hs,hs0,hall2⟩;refine af _ _ _ (by rfl) ?_;have r2:=R2.nx;have q4:=R2.l4;by_cases hb2:(k:Int)<ns.length;rotate_left
 ·have es:s=bd ns:=by
   rw[List.take_of_length_le (by rw[R2.sl];omega),List.take_of_length_le (by simp [bd];omega)]at hs;exact hs
  subst es;rw[List.take_of_length_le (by omega)]at hall2;have hlt:∀ p∈bd ns,p<2 ^ ns.length:=vp fun x hx q hq=>(hall2 x hx).1.2 q hq;have hsl:(bd ns).length=ns.length:=by simp [bd]
  have hlt64:∀ p∈bd ns,p<2 ^ 64:=fun p hp=>Nat.lt_of_lt_of_le (hlt p hp) (Nat.pow_le_pow_right (by decide) (by omega));have hto:=x8 (ps:=bd ns) (by rw[hsl];exact hlt) (by omega);simp only[go_sem,h82,q4,hb2];have fzs:=Fz.qQ (nx:=0) R2.b3 (n:=ns.length) (by simp [R2.sl]) (fun c hc=>by
   obtain⟨z,_,rfl⟩:=List.mem_map.1 hc;exact⟨_,rfl⟩)
  refine ay.clo (PF (bd ns) (by omega) hlt64 _ _ (by show Fz _ _ _ _ (.vec (bd ns).length _);rw[hsl];exact fzs) _ ⟨trivial,?_⟩);have q1:=R2.l1;cases hso:(fw (bd ns)).isSome
  ·simp only[go_sem,q1];exact no (fun h=>by rw[hto.2 h.acyc]at hso;cases hso) _ (R2.ov.upd (by omega) _)
  have hok:NetOk g ns:=⟨by omega,by omega,fun x hx=>⟨hall x hx,(hall2 x hx).1⟩,by omega,hto.1 hso,fun x hx=>(hall2 x hx).2⟩
  rw[Dd hok]at hK;have q1b:∀ b,(H2.upd (H.next+4) b).live (H.next+1) 0=_:=fun b=>(om (by omega)).trans q1;simp only[go_sem,q1b,q4];have ovf:Over H ((H2.upd (H.next+4) (.arr 0 209 [.lit (.int .i64 g),.vec ns.length (aB ns),.own (H.next+2) 0 0 ns.length 1,.own (H.next+3) 0 0 ns.length 1,.vec (aX ((fw (bd ns)).getD [])).length (ints (aX ((fw (bd ns)).getD [])))])).upd (H.next+1) (.arr 0 209 [.lit (.int .i64 g),.vec ns.length (aB ns),.own (H.next+2) 0 0 ns.length 1,.own (H.next+3) 0 0 ns.length 1,.vec (aX ((fw (bd ns)).getD [])).length (ints (aX ((fw (bd ns)).getD [])))])):=(R2.ov.upd (by omega) _).upd (by omega) _;refine ar.bB (v':=.tup [yY g ns,aa 0]) aI hcl ovf (.tup rfl fun i hi _=>?_) hK
  match i,hi with
  | 1,_=>exact .lit _
  | 0,_ =>
   refine .agg rfl fun i hi _=>?_
   match i,hi with
   | 0,_=>exact .lit _
   | 1,_=>exact qR _
   | 2,_ =>
    have hg2:∀ b b',((H2.upd (H.next+4) b).upd (H.next+1) b').get (H.next+2)=some (.arr 0 3 (ints (ak ns))):=fun b b'=>by rw[aj,if_neg (by omega),aj,if_neg (by omega)];exact R2.b2
    show Fz _ _ _ (.own (H.next+2) 0 0 ns.length 1) (.vec (ak ns).length (ints (ak ns)));rw[<- dc ns];exact .ints (by show H.next<=_;omega) (hg2 _ _) (by simp) fun i hi=>by simp [d9,hi]
   | 3,_ =>
    have hg3:∀ b b',((H2.upd (H.next+4) b).upd (H.next+1) b').get (H.next+3)=some (.arr 0 35 ((bd ns).map bJ)):=fun b b'=>by rw[aj,if_neg (by omega),aj,if_neg (by omega)];exact R2.b3
    show Fz _ _ _ (.own (H.next+3) 0 0 ns.length 1) (.vec (bd ns).length ((bd ns).map bJ));rw[<- hsl];refine .frz (by show H.next<=_;omega) (hg3 _ _) (by simp) fun j hj h2 h'=>?_;simp only[Nat.zero_add,List.getElem_map];exact .lit _
   | 4,_=>exact .dG _
 obtain⟨x,hx⟩:=get_of_lt (l:=ns) (i:=k) (by omega);have hxm:=List.mem_of_getElem? hx;have hne:=eA hx;have e0:=oS hx;have e1:k*3+3<=(aB ns).length:=by rw[jS];omega
 obtain⟨f1,f2,f3⟩:=hf.2 x hxm;simp only[go_sem,h82,hb2,hne,e0,e1];obtain⟨H3,hH3⟩:∃ H3,H3=ext H2 [.arr 0 73 [.lit (.int .i64 x.card),.vec x.parents.length (ints x.parents),aA x.rows]]:=⟨_,rfl⟩
 have R3:RdS g ns H H3 (ak ns) s:=by rw[hH3];exact R2.over (.ext _ _)
 have nn:H3.next=H2.next+1:=by rw[hH3];rfl
 have gN:H3.get H2.next=some (.arr 0 73 [.lit (.int .i64 x.card),.vec x.parents.length (ints x.parents),aA x.rows]):=by rw[hH3];exact bL
 rw[<- hH3];have hks:k<s.length:=by rw[R2.sl];omega
 have s0:s.set k 0=s:=by
  apply List.ext_getElem?;intro i;rw[List.getElem?_set];split
  ·rename_i h;subst h;have:=hs0 k (Nat.le_refl _);rw[List.getD_eq_getElem?_getD,List.getElem?_eq_getElem hks]at this;simp only[Option.getD_some]at this;rw[List.getElem?_eq_getElem hks,this]
  ·rfl
 refine W.aK 5316911981901723452329847966222259208 (by rfl) (fun ρ2 H4=>∃ (j:Nat) (b:Int),ρ2 90=aa j/\j<=x.parents.length/\ρ2 10=aa b/\cH (x.parents.take j) ns.length/\(x.parents.take j).getLast?.getD (-1)=b/\RdS g ns H H4 (ak ns) (s.set k (cq (x.parents.take j)))/\H3.next<=H4.next/\H4.get H2.next=some (.arr 0 73 [.lit (.int .i64 x.card),.vec x.parents.length (ints x.parents),aA x.rows])/\¬ (k:Int)∈x.parents.take j)
  (fun ρ2 H=>x.parents.length - (iv (ρ2 90)).toNat) ?_ ?_
 ·simp only[go_sem];exact⟨0,-1,rfl,by omega,rfl,.nil,rfl,by rw[show cq (x.parents.take 0)=0 from rfl,s0];exact R3,gN,by simp⟩
 rintro ρ2 H4 ⟨j,b,h90,hj,h10,hp,hbl,R4,hn4,gN4,hself⟩;refine af _ _ _ (by rfl) ?_;have r4:=R4.nx;have t1:=R4.l1;have t3:=R4.l3;have t4:=R4.l4;have tN:=ag gN4;by_cases hb3:(j:Int)<x.parents.length
 ·obtain⟨a,ha⟩:=get_of_lt (l:=x.parents) (i:=j) (by omega);have ham:=List.mem_of_getElem? ha;have hane:=aL ha;by_cases d1:a<=b
  ·simp only[go_sem,h90,h10,hb3,ha,hane,d1,t1];refine no (fun h=>?_) _ (R4.ov.upd (by omega) _);have hpl:=(h.node x hxm).2;have h0:=hpl.2 a ham;rcases Nat.eq_zero_or_pos j with rfl|hk0
   ·simp at hbl;omega
   ·obtain⟨i,rfl⟩:∃ i,j=i+1:=⟨j - 1,by omega⟩
    obtain⟨b',hbj⟩:=get_of_lt (l:=x.parents) (i:=i) (by omega);rw[vk hbj]at hbl;have:=hpl.lt hbj ha (by omega);simp at hbl;omega
  by_cases d2:a >= ns.length
  ·simp only[go_sem,h90,h10,hb3,ha,hane,d1,d2,t1,t4];exact no (fun h=>by have:=(h.node x hxm).2.2 a ham;omega) _ (R4.ov.upd (by omega) _)
  have h0:0<=a:=by
   rcases hg:(x.parents.take j).getLast? with _|b'
   ·rw[hg]at hbl;simp at hbl;omega
   ·rw[hg]at hbl;have:=hp.2 b' (List.mem_of_getLast? hg);simp at hbl;omega
  by_cases d3:a=k
  ·have d1':¬ (k:Int)<=b:=(by omega);have d2':¬ (k:Int) >= ns.length:=(by omega);simp only[go_sem,h90,h10,hb3,ha,hane,d1',d2',d3,t1,t4];exact no (fun h=>PK hx (fun q hq=>((h.node x hxm).2.2 q hq).1) (by rw[<- d3];exact ham) h.acyc) _ (R4.ov.upd (id:=H.next+1) (by omega) _)
  obtain⟨u,rfl⟩:=Int.eq_ofNat_of_zero_le h0;have w1:=IntWalk.i64_in ((j:Int)+1) (by omega);have bm:cq (x.parents.take j)<2 ^ 64:=nJ fun p hp'=>by have:=hp.2 p hp';omega
  have v1:=fun t x y=>mV (P:=Tryz.prog) (t:=t) (x:=x) (y:=y) (k':=.i64) (s:=u) (by omega);have v2:=fun t x y=>kg (P:=Tryz.prog) (t:=t) (x:=x) (y:=y) (b:=2 ^ u) bm (Nat.pow_lt_pow_right (by decide) (by omega));have gs:(s.set k (cq (x.parents.take j)))[k]?=some (cq (x.parents.take j)):=List.getElem?_set_self hks;simp only[go_sem,h90,h10,hb3,ha,hane,d1,d2,d3,t4];refine W.draw 7 [0,1,0,7,15,0,32] Tryz.mixed (by kernel_rfl) (by kernel_rfl) ?_;simp only[go_sem,h90,hb2,t3,t4,gs,v1,v2,w1]
  repeat (refine And.intro (by first|omega|(simp;done)|(simp;omega)|(intros;omega)|exact⟨rfl,by omega,by omega,kA _⟩) ?_)
  have R5:=R4.PI (k:=k) (by simpa using hks) (cq (x.parents.take j) ||| 2 ^ u);rw[List.set_set]at R5;have esn:cq (x.parents.take (j+1))=cq (x.parents.take j) ||| 2 ^ u:=by rw[aT ha,uz];rfl
  refine⟨by rw[aG];omega,⟨j+1,u,by simp,by omega,rfl,?_,by rw[vk ha];rfl,by rw[esn];exact R5,by rw[aG];omega,by rw[aj,if_neg (by omega)];exact gN4,fun hm=>?_⟩,by omega⟩
  ·rw[aT ha];exact hp.snoc ⟨by omega,by omega⟩ fun b' hb'=>by rw[hb']at hbl;simp at hbl;omega
  ·rw[aT ha]at hm;rcases List.mem_append.1 hm with hm|hm
   ·exact hself hm
   ·exact d3 (List.mem_singleton.1 hm).symm
 ·have hb3':=hb3;rw[List.take_of_length_le (by omega)]at hp hself R4;simp only[go_sem,h90,hb3,t4,tN];have hin:fO x.parents ns.length:=fun q hq=>by have:=hp.2 q hq;omega
  refine ay.clo (PJ g ⟨by omega,by omega⟩ ns _ x hin (lU (by omega) hp hall) f2 f3 _ (H.next+2) (H.next+3) R4.b2 R4.b3 R4.sl _ ⟨trivial,?_⟩);cases hnb:lV g ns x
  ·simp only[go_sem,t1];exact no (fun h=>by rw[Di (h.rows x hxm)]at hnb;cases hnb) _ (R4.ov.upd (by omega) _)
  have w1:=IntWalk.i64_in ((k:Int)+1) (by omega);simp only[go_sem,h82,w1];refine⟨by omega,⟨k+1,_,by simp,by omega,R4,by omega,?_,fun i hi=>?_,fun y hy=>?_⟩,by omega⟩
  ·have h1:=lT hx;rw[aT h1,aT (List.getElem?_set_self hks),List.take_set_of_le (Nat.le_refl k),hs]
  ·rw[List.getD_eq_getElem?_getD,List.getElem?_set_ne (by omega),<- List.getD_eq_getElem?_getD];exact hs0 i (by omega)
  ·rw[aT hx]at hy;rcases List.mem_append.1 hy with hy|hy
   ·exact hall2 y hy
   ·obtain rfl:=List.mem_singleton.1 hy;exact⟨hp,PC.1 hnb⟩
theorem PM (g:Int)(ns:List NodeP)(hf:vo ns)(H:AHeap)(K:ARes->AHeap->Prop)(hK:K (.ret (aa (if pr g ns then 0 else 50))) H):ae Tryz.prog G0 128 [da g ns] H K:=by
 refine ae.clo ⟨_,Tryz.func128,rfl,rfl⟩ fun hcl=>?_;refine ae.aP (n:=11) (rs:=[.tmp 2]) Tryz.func128 rfl rfl rfl (by decide) (by kernel_rfl) (by simp) ?_;simp only[go_sem,da,dB];refine ay.clo (PL g ns hf _ _ ⟨trivial,?_⟩);cases hb:pr g ns
 ·rw[hb]at hK;simp only[go_sem,yX,List.length_nil];exact ar.bB aI hcl (.ext _ _) (.lit _) hK
 ·rw[hb]at hK;simp only[go_sem,yY,dB];exact ar.bB aI hcl (.ext _ _) (.lit _) hK
def dX (D v:Nat):List Nat := (List.range v).filter fun v => D.testBit v
def bA (D v:Nat):Nat := (dX D v).length
def aE (d:InfP):List Nat := dX d.decs d.nodes.length
theorem uB (D v:Nat):dX D (v + 1) = if D.testBit v then dX D v ++ [v] else dX D v := by
  unfold dX; rw[List.range_succ, List.filter_append];cases h:D.testBit v <;> simp [h]
theorem M3 {D v:Nat}:∀ {n:Nat}, v <= n -> ∃ r, dX D n = dX D v ++ r := by
  intro n
  induction n with
  | zero => intro h; obtain rfl : v = 0 := by omega
            exact⟨[], by simp⟩
  | succ n ih =>
    intro h;by_cases hv:v = n + 1
    · subst hv; exact⟨[], by simp⟩
    · obtain⟨r, hr⟩ := ih (by omega);rw[uB];split
      · exact⟨r ++ [n], by rw[hr, List.append_assoc]⟩
      · exact⟨r, hr⟩
theorem nL {D v n:Nat}(hv:v < n)(hb:D.testBit v = true):(dX D n)[bA D v]? = some v := by
  obtain⟨r, hr⟩ := M3 (D := D) (v := v + 1) (n := n) hv;rw[hr, uB, if_pos hb, List.append_assoc];unfold bA;simp
theorem oT (D v:Nat):bA D (v + 1) = if D.testBit v then bA D v + 1 else bA D v := by
  unfold bA; rw[uB]; split <;> simp
theorem fK {D v n:Nat}:v ∈ dX D n ↔ v < n /\ D.testBit v = true := by unfold dX; simp
theorem kH {D n k v:Nat}(h:(dX D n)[k]? = some v):v < n /\ D.testBit v = true /\ bA D v = k := by
  have hm := fK.1 (List.mem_of_getElem? h);refine⟨hm.1, hm.2, ?_⟩;have h2 := nL hm.1 hm.2;have hnd:(dX D n).Nodup := List.nodup_range.filter _;have a := get_lt h;have b := get_lt h2;rw[List.getElem?_eq_getElem a]at h;rw[List.getElem?_eq_getElem b]at h2;have e:(dX D n)[bA D v] = (dX D n)[k] := by rw[Option.some.inj h, Option.some.inj h2]
  exact(List.getElem_inj hnd).1 e
theorem jg {D n:Nat}:(dX D n).length <= n := by
  have := List.length_filter_le (fun v => D.testBit v) (List.range n);unfold dX; simpa using this
def bS (g card x:Int):List Int := (List.replicate card.toNat 0).set x.toNat g
def bF (ns:List NodeP)(x:NodeP):Nat := (az (aQ ns x)).toNat
def dP (g:Int)(ns:List NodeP)(c:Nat -> Nat -> Int)(p:Nat)(x:NodeP):List (List Int) := (List.range (bF ns x)).map fun r => bS g x.card (c p r)
def eW (d:InfP)(c:Nat -> Nat -> Int)(k v:Nat)(x:NodeP):NodeP := if d.decs.testBit v = true /\ bA d.decs v < k then { x with rows := x.rows ++ dP d.grain d.nodes c (bA d.decs v) x } else x
def dQ (d:InfP)(c:Nat -> Nat -> Int)(k:Nat):List NodeP := d.nodes.zipIdx.map fun p => eW d c k p.2 p.1
def bY (d:InfP)(c:Nat -> Nat -> Int):List NodeP := dQ d c (aE d).length
theorem kI (d:InfP)(c:Nat -> Nat -> Int)(k:Nat):(dQ d c k).length = d.nodes.length := by simp [dQ]
theorem nM {d:InfP}{c:Nat -> Nat -> Int}{k v:Nat}{x:NodeP}(h:d.nodes[v]? = some x):(dQ d c k)[v]? = some (eW d c k v x) := by
  unfold dQ; rw[List.getElem?_map, List.getElem?_zipIdx, h]; simp
theorem M4 (d:InfP)(c:Nat -> Nat -> Int):dQ d c 0 = d.nodes := by
  apply List.ext_getElem?;intro v;cases h:d.nodes[v]? with
  | none => rw[List.getElem?_eq_none]; rw[kI]; exact List.getElem?_eq_none_iff.1 h
  | some x => rw[nM h]; simp [eW]
theorem M5 {d:InfP}{c:Nat -> Nat -> Int}{k v:Nat}{x:NodeP}(hd:(aE d)[k]? = some v)(hx:d.nodes[v]? = some x):dQ d c (k + 1) = (dQ d c k).set v { x with rows := x.rows ++ dP d.grain d.nodes c k x } := by
  obtain⟨h1, h2, h3⟩ := kH hd;apply List.ext_getElem?;intro u;rw[List.getElem?_set];split
  · rename_i h;subst h;rw[nM hx, if_pos (by rw[kI]; exact h1)];unfold eW;rw[if_pos ⟨h2, by omega⟩, h3]
  · rename_i h;cases hu:d.nodes[u]? with
    | none => rw[List.getElem?_eq_none (by rw[kI]; exact List.getElem?_eq_none_iff.1 hu), List.getElem?_eq_none (by rw[kI]; exact List.getElem?_eq_none_iff.1 hu)]
    | some y =>
      rw[nM hu, nM hu];unfold eW;by_cases hb:d.decs.testBit u = true
      · have : bA d.decs u ≠ k := fun e => by
          have h4 := nL (get_lt hu) hb;rw[e]at h4;have h5:(dX d.decs d.nodes.length)[k]? = some v := hd;rw[h4]at h5;exact h (Option.some.inj h5).symm
        have e:(bA d.decs u < k + 1) = (bA d.decs u < k) :=(by apply propext; omega);simp only[e]
      · simp [hb]
theorem M6 {d:InfP}{c:Nat -> Nat -> Int}{k:Nat}:ak (dQ d c k) = ak d.nodes := by
  apply List.ext_getElem?;intro v;unfold ak;rw[List.getElem?_map, List.getElem?_map];cases h:d.nodes[v]? with
  | none => rw[List.getElem?_eq_none (by rw[kI]; exact List.getElem?_eq_none_iff.1 h)]
  | some x =>
    rw[nM h];simp only[Option.map_some, eW];split <;> rfl
theorem jy (d:InfP)(c:Nat -> Nat -> Int)(k v:Nat)(x:NodeP):(eW d c k v x).card = x.card /\ (eW d c k v x).parents = x.parents := by unfold eW; split <;> exact⟨rfl, rfl⟩
def cw (d:InfP):List AVal:=[.lit (.int .i64 d.grain),.vec d.nodes.length (aB d.nodes),.lit (.int .u64 (d.decs:Int)),.vec d.utils.length (aS d.utils)]
theorem iA (d:InfP):dW d=.agg (cw d):=rfl
def j5 (d:InfP):Blk:=.arr 0 38 (cw d)
def mK (d:InfP):List (List AVal):=(aE d).zipIdx.map fun p=>[aa p.2,aa p.1]
theorem sC {d:InfP}{k:Nat}{x:List AVal}(h:(mK d)[k]?=some x):∃ v,(aE d)[k]?=some v/\x=[aa k,aa v]:=by
 unfold mK at h;rw[List.getElem?_map,List.getElem?_zipIdx]at h;cases hr:(aE d)[k]? with
 | none=>rw[hr]at h;simp at h
 | some r=>rw[hr]at h;simp at h;exact⟨r,rfl,h.symm⟩
theorem O3 {d:InfP}{k v:Nat}(h:(aE d)[k]?=some v):(mK d)[k]?=some [aa k,aa v]:=by
 unfold mK;rw[List.getElem?_map,List.getElem?_zipIdx,h];simp
theorem sD (d:InfP):(mK d).length=(aE d).length:=by simp [mK]
theorem uX {d:InfP}:∀ x∈mK d,x.length=2:=fun x hx=>by
 obtain⟨k,hk⟩:=List.mem_iff_getElem?.1 hx;obtain⟨v,_,rfl⟩:=sC hk;rfl
theorem uY (d:InfP)(hl:(d.nodes.length:Int)<2 ^ 40)(hD:d.decs<2 ^ 64)(b:Nat):vU Tryz.prog G0 131 [] [.ptr b 0 0] (mK d) (fun H=>H.get b=some (j5 d)):=by
 intro idy J Stop H K hS hJ0 hY hK hSt;have l0:=ag (hS 0 H hJ0);show ae _ _ _ ([.yld idy]++[.ptr b 0 0]) _ _;refine ae.aP (n:=25) (rs:=[]) Tryz.func131 rfl rfl rfl (by decide) (by kernel_rfl) (by simp) ?_;simp only[go_sem,l0,cw];refine W.aK 33554200 (by rfl) (fun ρ H'=>∃ v:Nat,ρ 8=aa v/\v<=d.nodes.length/\ρ 3=aa (bA d.decs v)/\J (bA d.decs v) H'/\H.next<=H'.next) (fun ρ H=>d.nodes.length - (iv (ρ 8)).toNat) ?_ ?_
 ·simp only[go_sem];exact⟨0,rfl,by omega,rfl,hJ0⟩
 rintro ρ H' ⟨v,h8,hv,h3,hj,hn⟩;refine af _ _ _ (by rfl) ?_;by_cases hb:(v:Int)<d.nodes.length
 ·have l1:=ag (hS _ _ hj);have s1:=fun t x y=>lY (P:=Tryz.prog) (t:=t) (x:=x) (y:=y) (k':=.i64) (s:=v) hD;have s2:=fun t x y=>mW (P:=Tryz.prog) (t:=t) (x:=x) (y:=y) (s:=v) hD;have w1:=IntWalk.i64_in ((v:Int)+1) (by omega);have hp:bA d.decs v<=v:=by
   have:(dX d.decs v).length<=v:=jg;exact this
  have w2:=IntWalk.i64_in ((bA d.decs v:Int)+1) (by omega);cases hbit:d.decs.testBit v
  ·simp only[go_sem,h8,h3,hb,l1,cw,s1,s2,hbit,w1];exact⟨hn,⟨v+1,by simp,by omega,by rw[oT,hbit];rfl,by rw[oT,hbit];exact hj,hn⟩,by omega⟩
  ·have hdx:(mK d)[bA d.decs v]?=some [aa (bA d.decs v),aa v]:=O3 (nL (by omega) hbit);simp only[go_sem,h8,h3,hb,l1,cw,s1,s2,hbit];refine hY _ _ H' _ hdx hj hn (fun H2 hj2 hn2=>⟨trivial,?_⟩) (fun H2 hs2 hn2=>⟨trivial,?_⟩)
   ·simp only[go_sem,h8,h3,w1,w2];exact⟨by omega,⟨v+1,by simp,by omega,by rw[oT,hbit];simp,by rw[oT,hbit];exact hj2,by omega⟩,by omega⟩
   ·simp only[go_sem];exact ar.mk (by omega) (hSt H2 hs2 (by omega))
 ·simp only[go_sem,h8,hb];have ek:v=d.nodes.length:=by omega
  subst ek;exact ar.mk (by omega) (hK H' (by rw[sD];exact hj) hn)
theorem uZ (d:InfP)(H:AHeap)(K:ARes->AHeap->Prop)(hK:K (.ret (.clo 131 [] [.ptr H.next 0 0])) (ext H [j5 d])):
  ae Tryz.prog G0 96 [dW d] H K:=by
 refine ae.aP (n:=4) (rs:=[.tmp 2]) Tryz.func96 rfl rfl rfl (by decide) (by kernel_rfl) (by simp) ?_;simp only[go_sem,iA,cw];exact ar.mk (by simp [aY]) hK
theorem O4 {g card x:Int}(hc:0<=card)(h:0<=x/\x<card):setAt (ints (List.replicate card.toNat 0)) x.toNat [.lit (.int .i64 g)]=ints (bS g card x):=by
 rw[fV (by simp;omega)];rfl
theorem O5 (g card x:Int)(hc:card<=2 ^ 40)(h:0<=x/\x<card)(H:AHeap)(K:ARes->AHeap->Prop)(hK:K (.ret (ah (bS g card x))) H):ae Tryz.prog G0 144 [aa g,aa card,aa x] H K:=by
 refine ae.clo ⟨_,Tryz.func144,rfl,rfl⟩ fun hcl=>?_;obtain⟨n,rfl⟩:=Int.eq_ofNat_of_zero_le (show 0<=card by omega);obtain⟨k,rfl⟩:=Int.eq_ofNat_of_zero_le h.1;have h0:((n:Int)) >= 0:=by omega
 have hk:(k:Int)<n:=h.2;have hk2:k+1<=n:=by omega
 refine ae.aP (n:=15) (rs:=[.tmp 6]) Tryz.func144 rfl rfl rfl (by decide) (by kernel_rfl) (by simp) ?_;simp only[go_sem,hk]
 repeat (refine And.intro (by first|omega|(simp;done)|(simp;omega)|(intros;omega)|exact⟨rfl,by omega,by omega,kA _⟩) ?_)
 have e:=O4 (g:=g) (card:=n) (x:=k) (by omega) h;simp only[Int.toNat_natCast]at e;rw[show (List.replicate n (AVal.lit (Value.int IntKind.i64 0)))=ints (List.replicate n 0) by simp [ints,aa],e];refine ar.bB aI hcl (.ext _ _) ?_ hK;exact .ints (Nat.le_refl _) (bR ..) (by simp [bS]) fun i hi=>by simp [d9,hi]
theorem O6 (a b:AVal)(H:AHeap)(K:ARes->AHeap->Prop)(hK:K (.ret (aa 0)) H):ae Tryz.prog G0 129 [a,b] H K:=by
 refine ae.aP (n:=5) (rs:=[.tmp 4]) Tryz.func129 rfl rfl rfl (by decide) (by kernel_rfl) (by simp) ?_;simp only[go_sem];exact ar.mk (Nat.le_refl _) hK
noncomputable def kP (p:Prop):Bool:=@decide p (Classical.propDecidable p)
theorem eM {p:Prop}(h:p):kP p=true:=@decide_eq_true _ (Classical.propDecidable _) h
theorem jE {p:Prop}(h:¬ p):kP p=false:=@decide_eq_false _ (Classical.propDecidable _) h
theorem sE {p:Prop}:kP p=true↔p:=@decide_eq_true_iff _ (Classical.propDecidable _)
structure RightN (d:InfP):Prop where
 n1:1<=d.nodes.length/\d.nodes.length<=8
 decs:d.decs >>> d.nodes.length=0
 card:∀ x∈d.nodes,1<=x.card/\x.card<=4
 dec:∀ v x,d.nodes[v]?=some x->d.decs.testBit v=true->x.rows=[]/\cH x.parents d.nodes.length
structure InfFit (d:InfP):Prop where
 nodes:vo d.nodes
 decs:d.decs<2 ^ 64
 utils:(d.utils.length:Int)<2 ^ 38/\∀ u∈d.utils,(u.vars.length:Int)<2 ^ 38/\(u.w.length:Int)<2 ^ 38
set_option maxHeartbeats 2000000 in
theorem O7 (d:InfP)(hf:InfFit d)(H:AHeap)(K:ARes->AHeap->Prop)(hK:K (.ret (.lit (.bool (kP (RightN d))))) H):ae Tryz.prog G0 127 [dW d] H K:=by
 refine ae.clo ⟨_,Tryz.func127,rfl,rfl⟩ fun hcl=>?_;have hl:=hf.nodes.1;have no:¬ RightN d->∀ H',Over H H'->ar Tryz.prog G0 H K (.lit (.bool false)) H':=fun h H' ov=>ar.bB aI hcl ov (.lit _) (by rw[jE h]at hK;exact hK);refine ae.aP (n:=67) (rs:=[.cell 2 4]) Tryz.func127 rfl rfl rfl (by decide) (by kernel_rfl) (by simp) ?_;simp only[go_sem,iA,cw];obtain⟨H1,hH1⟩:∃ H1,H1=ext H [.arr 0 38 (cw d),.arr 0 4 [.lit (.bool false)]]:=⟨_,rfl⟩
 have g1:H1.get H.next=some (.arr 0 38 (cw d)):=by rw[hH1];exact bR ..
 have g2:H1.get (H.next+1)=some (.arr 0 4 [.lit (.bool false)]):=by rw[hH1];exact aZ H _ 1 (by simp)
 have l1:=ag g1;have l2:=ag g2;have n1:H1.next=H.next+2:=by rw[hH1];rfl
 have o1:Over H H1:=by rw[hH1];exact .ext _ _
 unfold cw at hH1 l1;rw[<- hH1];have s1:=fun t x y=>lY (P:=Tryz.prog) (t:=t) (x:=x) (y:=y) (k':=.i64) (s:=d.nodes.length) hf.decs;by_cases c1:(d.nodes.length:Int)<1
 ·simp only[go_sem,l2,c1];exact no (fun h=>by have:=h.n1;omega) _ (o1.upd (by omega) _)
 by_cases c2:(d.nodes.length:Int) > 8
 ·simp only[go_sem,l1,l2,c1,c2];exact no (fun h=>by have:=h.n1;omega) _ (o1.upd (by omega) _)
 by_cases c3:d.decs >>> d.nodes.length=0;rotate_left
 ·have c3':¬ ((d.decs >>> d.nodes.length:Nat):Int)=0:=by omega
  simp only[go_sem,l1,l2,c1,c2,c3',s1];exact no (fun h=>c3 h.decs) _ (o1.upd (by omega) _)
 have c3':((d.decs >>> d.nodes.length:Nat):Int)=0:=by omega
 simp only[go_sem,l1,c1,c2,c3',s1];refine W.aK 4397509640208 (by rfl) (fun ρ H'=>∃ k:Nat,ρ 29=aa k/\k<=d.nodes.length/\Over H1 H'/\∀ x∈d.nodes.take k,1<=x.card/\x.card<=4) (fun ρ H=>d.nodes.length - (iv (ρ 29)).toNat) ?_ ?_
 ·simp only[go_sem];exact⟨0,rfl,by omega,.refl _,by simp⟩
 rintro ρ H' ⟨k,h29,hk,ov,hall⟩;refine af _ _ _ (by rfl) ?_;have ovn:=ov.next;have m1:=(ov.live (g:=0) (by omega:H.next<H1.next)).trans l1;have m2:=(ov.live (g:=0) (by omega:H.next+1<H1.next)).trans l2;by_cases hb:(k:Int)<d.nodes.length
 ·obtain⟨x,hx⟩:=get_of_lt (l:=d.nodes) (i:=k) (by omega);have hxm:=List.mem_of_getElem? hx;have hne:=eA hx;have e0:=oS hx;have e1:k*3+3<=(aB d.nodes).length:=by rw[jS];omega
  have nb:¬ H.next+1=H'.next:=by omega
  have m3:∀ L,(ext H' L).live (H.next+1) 0=_:=fun L=>(eT (by omega)).trans m2;by_cases d1:x.card<1
  ·simp only[go_sem,h29,m3,hb,hne,e0,e1,d1];exact no (fun h=>by have:=h.card x hxm;omega) _ (((o1.trans ov).trans (.ext _ _)).upd (by omega) _)
  by_cases d2:x.card > 4
  ·simp only[go_sem,h29,m3,hb,hne,e0,e1,d1,d2];exact no (fun h=>by have:=h.card x hxm;omega) _ (((o1.trans ov).trans (.ext _ _)).upd (by omega) _)
  have w1:=IntWalk.i64_in ((k:Int)+1) (by omega);simp only[go_sem,h29,hb,hne,e0,e1,d1,d2,w1];exact⟨by omega,⟨k+1,by simp,by omega,ov.trans (.ext _ _),fun y hy=>by
   rw[aT hx]at hy;rcases List.mem_append.1 hy with hy|hy
   ·exact hall y hy
   ·obtain rfl:=List.mem_singleton.1 hy;exact⟨by omega,by omega⟩⟩,by omega⟩
 rw[List.take_of_length_le (by omega)]at hall;simp only[go_sem,h29,hb,m1];refine ay.clo (uZ d _ _ ⟨trivial,?_⟩);simp only[go_sem];obtain⟨H2,hH2⟩:∃ H2,H2=ext H' [j5 d]:=⟨_,rfl⟩
 rw[<- hH2];have o2:Over H' H2:=by rw[hH2];exact .ext _ _
 have n2:H2.next=H'.next+1:=by rw[hH2];rfl
 have hbx:H2.get H'.next=some (j5 d):=by rw[hH2];exact bL
 refine W.env fun E hE=>?_;have e1:E 1=.ptr H.next 0 0:=by rw[hE];simp only[go_sem]
 have e2:E 2=.ptr (H.next+1) 0 0:=by rw[hE];simp only[go_sem]
 have i1:=(o2.live (g:=0) (by omega:H.next<H'.next)).trans m1;have i2:=(o2.old _ (by omega:H.next+1<H'.next)).trans ((ov.old _ (by omega)).trans g2);have o02:=(o1.trans ov).trans o2;refine W.pA (f:=131) (first:=[]) (cap:=[.ptr H'.next 0 0]) (by show E 43=_;rw[hE];rfl) (uY d (by omega) hf.decs H'.next)
  (fun k Hx=>Over H2 Hx/\∀ v x,v∈(aE d).take k->d.nodes[v]?=some x->x.rows=[]/\cH x.parents d.nodes.length) (fun c Hx=>c=.ret/\Over H Hx/\H2.next<=Hx.next/\Hx.get (H.next+1)=some (.arr 0 4 [.lit (.bool false)])/\¬ RightN d)
  (fun k Hx h=>by rw[h.1.old _ (by omega)];exact hbx) (fun k Hx b h=>⟨h.1.upd (Nat.le_refl _) b,h.2⟩) (fun c Hx b h=>⟨h.1,h.2.1.upd (by omega) b,h.2.2.1,by rw[aj,if_neg (by omega)];exact h.2.2.2.1,h.2.2.2.2⟩)
  (fun b=>⟨.ext _ _,by simp⟩) (by decide) uX (fun _ _ _=>trivial) (fun _ _ _=>trivial) (fun k y Hx B Bb hy hj hn hB hBb=>?_) (fun Hx hj hn=>?_) (fun Hx hs hn=>?_) (fun i Hx hs hn=>by cases hs.1)
 ·obtain⟨v,hv,rfl⟩:=sC hy;obtain⟨v1,v2,v3⟩:=kH hv;obtain⟨x,hx⟩:=get_of_lt (l:=d.nodes) (i:=v) v1;refine af _ _ _ (by rfl) ?_;simp only[go_sem,gX,bh,jr,List.foldl_cons,List.foldl_nil,List.zip_cons_cons,List.zip_nil_right,hB];obtain⟨H3,hH3⟩:∃ H3,H3=Hx.upd H2.next Bb:=⟨_,rfl⟩
  rw[<- hH3];obtain⟨st,pd,n',en,ps',as',bo,hBe⟩:=hBb;have o3:Over H2 H3:=by rw[hH3];exact hj.1.upd (Nat.le_refl _) Bb
  have o4:Over H H3:=o02.trans o3;have n3:H3.next=Hx.next:=by rw[hH3];rfl
  have j1:=(o3.live (g:=0) (by omega:H.next<H2.next)).trans i1;have j2:=ag ((o3.old _ (by omega:H.next+1<H2.next)).trans i2);have jB:H3.get H2.next=some Bb:=by rw[hH3,aj,if_pos rfl]
  have hxm:=List.mem_of_getElem? hx;obtain⟨f1,f2,f3⟩:=hf.nodes.2 x hxm;have hne:=eA hx;have e1':=lD hx;have e2':=ux hx;have hvn:(v:Int)<d.nodes.length:=by omega
  have stop:¬ RightN d->(H3.upd (H.next+1) (Blk.arr 0 4 [.lit (.bool false)])).get H2.next=some Bb/\Hx.next<=(H3.upd (H.next+1) (Blk.arr 0 4 [.lit (.bool false)])).next/\Over H (H3.upd (H.next+1) (Blk.arr 0 4 [.lit (.bool false)])) /\
    H2.next<=(H3.upd (H.next+1) (Blk.arr 0 4 [.lit (.bool false)])).next/\(H3.upd (H.next+1) (Blk.arr 0 4 [.lit (.bool false)])).get (H.next+1)=some (.arr 0 4 [.lit (.bool false)])/\¬ RightN d:=fun h =>
   ⟨by rw[aj,if_neg (by omega)];exact jB,by rw[aG];omega,o4.upd (by omega) _,by rw[aG];omega,by rw[aj,if_pos rfl],h⟩
  refine af _ _ _ (by rfl) ?_;simp only[go_sem];refine W.draw 18 [0,1,0,7,15,31,63,127,255,511,1023,511,4095,8191,16383,511,33279,98815] Tryz.mixed (by kernel_rfl) (by kernel_rfl) ?_;by_cases c4:(x.rows.length:Int) > 0
  ·simp only[go_sem,bh,e1,e2,j1,j2,hvn,hne,e2',c4,aA,eE];exact stop fun h=>by have:=(h.dec v x hx v2).1;rw[this]at c4;simp at c4
  simp only[go_sem,bh,e1,j1,hvn,hne,e1',e2',c4,aA];refine ay.clo (Db x.parents d.nodes.length (by omega) _ _ ⟨⟨_,_,_,_,_,_,_,by rw[jB,hBe]⟩,?_⟩);by_cases c5:cH x.parents d.nodes.length;rotate_left
  ·simp only[go_sem,bh,e2,j2,c5,eE];exact stop fun h=>c5 (h.dec v x hx v2).2
  simp only[go_sem,bh,c5,eE];refine⟨jB,by omega,o3,fun u y hu hy2=>?_⟩;rw[aT hv]at hu;rcases List.mem_append.1 hu with hu|hu
  ·exact hj.2 u y hu hy2
  ·obtain rfl:=List.mem_singleton.1 hu;rw[hx]at hy2;cases hy2;exact⟨List.eq_nil_of_length_eq_zero (by omega),c5⟩
 ·have hok:RightN d:=⟨by omega,c3,hall,fun v x hx hb=>hj.2 v x (by
   rw[sD,List.take_length];exact fK.2 ⟨get_lt hx,hb⟩) hx⟩
  rw[eM hok]at hK;have j2:=ag ((hj.1.old _ (by omega:H.next+1<H2.next)).trans i2);simp only[go_sem,e2,j2];exact ar.bB aI hcl ((o02.trans hj.1).upd (by omega) _) (.lit _) hK
 ·obtain⟨_,o4,n4,g4,hno⟩:=hs;have j2:=ag g4;simp only[go_sem,e2,j2];exact no hno _ o4
end Go.Proofs
namespace Go.Hx
variable {P:Program} {G:Nat->Option (List AVal)}
def AHeap.fj (H:AHeap)(rk ob:Nat)(b:Blk):AHeap:=⟨fun id=>if id=rk then none else if id=ob then some b else H.get id,H.next⟩
theorem RE {H:AHeap}(hc:Clo H){rk ob g:Nat}{e:TypeId}{cells cells':List AVal}(hob:H.get ob=some (.arr g e cells))(hne:ob≠rk)(hl:cells'.length=cells.length)
  (hcell:∀ i (h:i<cells.length) (h':i<cells'.length),Fz (fun id=>id=rk) H H.next cells[i] cells'[i]):FzH (fun id=>id=rk) H (H.fj rk ob (.arr g e cells')) where
 gone id hs:=by simp [AHeap.fj,hs]
 kept id b hs hb:=by
  have hbb:=hc.below id b hb;refine⟨hc.lt id b hb,?_⟩;by_cases h:id=ob
  ·subst h;rw[hob]at hb;cases hb;exact⟨.arr g e cells',by simp [AHeap.fj,hs],rfl,rfl,hl,hcell⟩
  ·refine⟨b,by simp [AHeap.fj,hs,h,hb],?_⟩;cases b with
   | rsv=>trivial
   | mp=>rfl
   | arr g e cells=>exact⟨rfl,rfl,rfl,fun i h _=>.dead (hbb i h)⟩
   | loop st pend n env ps asg body=>exact⟨rfl,rfl,rfl,rfl,rfl,rfl,rfl,fun t ht=>.dead (hbb t ht)⟩
 none id hs hb:=by
  by_cases h:id=ob
  ·subst h;rw[hob]at hb;cases hb
  ·simp [AHeap.fj,hs,h,hb]
theorem dM.fj (hG:fu G){s:St}{rk ob g:Nat}{e:TypeId}{cells cells':List AVal}(hob:s.H.get ob=some (.arr g e cells))(hne:ob≠rk)(hl:cells'.length=cells.length)
  (hcell:∀ i (h:i<cells.length) (h':i<cells'.length),Fz (fun id=>id=rk) s.H s.H.next cells[i] cells'[i]):dM P G s ⟨s.ρ,s.H.fj rk ob (.arr g e cells')⟩:=by
 intro n wb Γ a w hs;exact dM.freeze (s:=s) (s':=⟨s.ρ,s.H.fj rk ob (.arr g e cells')⟩) hG (RE hs.heap.clo hob hne hl hcell) (fun t=>.dead (hs.env t).qf) n wb Γ a w hs
theorem RF {S:Nat->Prop}{H:AHeap}{nx:Nat}{A B:List AVal}{o o':AVal}(hA:∀ v,v∈A->Fz S H nx v v)(ho:Fz S H nx o o')(hB:∀ v,v∈B->Fz S H nx v v):
  ∀ i (h:i<(A++o :: B).length) (h':i<(A++o' :: B).length),Fz S H nx (A++o :: B)[i] (A++o' :: B)[i]:=by
 induction A with
 | nil =>
  intro i h h';cases i with
  | zero=>exact ho
  | succ i=>exact hB _ (List.getElem_mem (l:=B) (by simpa using h))
 | cons a A ih =>
  intro i h h';cases i with
  | zero=>exact hA a (by simp)
  | succ i=>exact ih (fun v hv=>hA v (by simp [hv])) i (by simpa using h) (by simpa using h')
theorem RG {A B:List AVal}{o o':AVal}{i:Nat}(h:A.length=i):setAt (A++o :: B) i [o']=A++o' :: B:=by
 subst h;simp [setAt]
theorem vV {H:AHeap}{rk ob:Nat}{b:Blk}(h:ob≠rk):(H.fj rk ob b).get ob=some b:=by simp [AHeap.fj,h]
theorem lZ {H:AHeap}{rk ob id:Nat}{b:Blk}(h:id≠rk)(h2:id≠ob):(H.fj rk ob b).get id=H.get id:=by simp [AHeap.fj,h,h2]
theorem zp {S:Nat->Prop}{H:AHeap}{nx:Nat}{l:List AVal}{i:Nat}{a b:AVal}(hl:∀ v,v∈l->Fz S H nx v v)(hab:Fz S H nx a b):∀ j (h:j<(l.set i a).length) (h':j<(l.set i b).length),Fz S H nx (l.set i a)[j] (l.set i b)[j]:=by
 intro j h h';rw[List.getElem_set,List.getElem_set];split
 ·exact hab
 ·exact hl _ (List.getElem_mem _)
theorem W.qY {n:Nat}{rd:Option Nat}{Q Q':AX->St->Prop}{c:Code}{s:St}(h:W P G n rd c Q' s)(hw:∀ e s2,Q' e s2->∃ s3,dM P G s2 s3/\s2.H.next<=s3.H.next/\fm s3.H rd/\Q e s3):W P G n rd c Q s:=by
 intro wb Γ a w rb hs hr;refine wpIn_mono (h wb Γ a w rb hs hr) fun e a' w' hp=>?_;obtain⟨x,s',Γ',hx,hq,hrel,E,hn,hrd,hfr⟩:=hp;obtain⟨s3,hw3,hn3,hri,hq3⟩:=hw x s' hq;obtain⟨Γ3,hs3,E3,hrd3⟩:=hw3 n wb Γ' a' w' hrel;exact⟨x,s3,Γ3,hx,hq3,hs3,E.trans hn E3,Nat.le_trans hn hn3,hrd3 rd rb hrd hri,hfr⟩
theorem aD.ne {lo:Nat}{H:AHeap}{e:TypeId}{v:AVal}{cs:List AVal}(h:aD lo H e v cs){k:Nat}(hk:k<lo):∀ g n,v≠.own k g 0 n 1:=fun g n he=>by
 rcases h with ⟨h,_⟩|⟨i2,g2,a1,_,h,_⟩
 ·rw[h]at he;cases he
 ·rw[h]at he;have:=AVal.own.inj he;omega
def ee (lo:Nat)(H:AHeap)(e:TypeId)(z:Nat)(v:AVal)(n:Nat)(cs:List AVal):Prop :=
 (v=.lit (.slice none 0 0)/\n=0/\cs=[])\/∃ id g,lo<=id/\id<H.next/\v=.own id g 0 n z/\cs.length=n*z/\H.get id=some (.arr g e cs)
theorem ee.nil {lo:Nat}{H:AHeap}{e:TypeId}{z:Nat}:ee lo H e z (.lit (.slice none 0 0)) 0 []:=.inl ⟨rfl,rfl,rfl⟩
theorem ee.keep {lo:Nat}{H H':AHeap}{e:TypeId}{z n:Nat}{v:AVal}{cs:List AVal}(h:ee lo H e z v n cs)(hn:H.next<=H'.next)(hk:∀ id g,lo<=id->id<H.next->v=.own id g 0 n z->H'.get id=H.get id):ee lo H' e z v n cs:=by
 rcases h with h|⟨id,g,h1,h2,h3,h4,h5⟩
 ·exact .inl h
 ·exact .inr ⟨id,g,h1,by omega,h3,h4,(hk id g h1 h2 h3).trans h5⟩
theorem ee.over {lo:Nat}{H H':AHeap}{e:TypeId}{z n:Nat}{v:AVal}{cs:List AVal}(h:ee lo H e z v n cs)(ho:Over H H'):ee lo H' e z v n cs:=h.keep ho.next fun id _ _ h2 _=>ho.old id h2
theorem ee.one {lo:Nat}{H:AHeap}{e:TypeId}{z n:Nat}{v:AVal}{cs:List AVal}(h:ee lo H e z v n cs):v.one=true:=by
 rcases h with ⟨rfl,_⟩|⟨_,_,_,_,rfl,_⟩<;>rfl
theorem ee.cells {lo:Nat}{H:AHeap}{e:TypeId}{z n:Nat}{v:AVal}{cs:List AVal}(h:ee lo H e z v n cs):v.cells=[v]:=by
 rcases h with ⟨rfl,_⟩|⟨_,_,_,_,rfl,_⟩<;>rfl
theorem ee.ne {lo:Nat}{H:AHeap}{e:TypeId}{z m:Nat}{v:AVal}{cs:List AVal}(h:ee lo H e z v m cs){k:Nat}(hk:k<lo):∀ g n,v≠.own k g 0 n z:=fun g n he=>by
 rcases h with ⟨h,_⟩|⟨i2,g2,a1,_,h,_⟩
 ·rw[h]at he;cases he
 ·rw[h]at he;have:=AVal.own.inj he;omega
theorem vW {H:AHeap}{t e:TypeId}{lo n z m:Nat}{v:AVal}{cs xs:List AVal}{zs:List AVal}(ht:P.underlying t=some (.slice e))(hz:P.cellsOf e=z)(hzero:bZ P e=some zs)(hx:xs.all AVal.one=true)(hxl:xs.length=z)
  (hb:(n+1)*P.bytesOf e<=2 ^ 46/\n+1<=2 ^ 46) (ho:ee lo H e z v n cs) (hlo:lo<=H.next) (hn:m=H.next+1):
  ∃ v' H',bO P (ext H [.arr 0 e xs]) m t t v (.own H.next 0 0 1 z)=some (v',H')/\ee lo H' e z v' (n+1) (cs++xs)/\H.next<=H'.next/\(∀ k,k<H.next->(∀ g n,v≠.own k g 0 n z)->H'.get k=H.get k):=by
 have hne:(ext H [.arr 0 e xs]).next=H.next+1:=rfl;have hsrc:cZ (ext H [.arr 0 e xs]) z (.own H.next 0 0 1 z)=some (1,xs):=by
  unfold cZ;have:=ag (H:=ext H [.arr 0 e xs]) (g:=0) (bL (b:=.arr 0 e xs));simp [this,<- hxl]
 rcases ho with ⟨rfl,rfl,rfl⟩|⟨i,g,h1,h2,rfl,h4,h5⟩
 ·refine⟨.own m 0 0 1 z,ext (ext H [.arr 0 e xs]) [.arr 0 e xs],?_,.inr ⟨m,0,by omega,by rw[aY,hne,hn];simp,by simp,by simp [hxl],?_⟩,by rw[aY,hne];omega,fun k hk _=>?_⟩
  ·unfold bO;rw[ht];simp only[hzero,hz,Option.bind_some];rw[hsrc];simp only[Option.bind_some];rw[if_neg (by decide),if_pos (by simpa using hb),uj (by rw[hn,hne])];rfl
  ·rw[hn,<- hne];exact bL
  ·rw[bE (by rw[hne];omega),bE hk]
 ·have h5':(ext H [.arr 0 e xs]).get i=some (.arr g e cs):=by rw[bE h2];exact h5
  refine⟨.own i (g+1) 0 (n+1) z,(ext H [.arr 0 e xs]).upd i (.arr (g+1) e (cs++xs)),?_,.inr ⟨i,g+1,h1,by rw[aG,hne];omega,rfl,by simp [h4,hxl,Nat.add_mul],by rw[aj,if_pos rfl]⟩,by rw[aG,hne];omega,fun k hk hne2=>?_⟩
  ·unfold bO;rw[ht];have hl:=ag h5';simp only[hzero,hz,Option.bind_some];rw[hsrc];simp only[Option.bind_some,hl];rw[if_pos ⟨trivial,trivial,by omega,hb.1,hb.2,hx⟩];simp
  ·rw[aj,if_neg,bE hk];rintro rfl;exact hne2 _ _ rfl
end Go.Hx
namespace Go.Proofs
open Go.Hx
def eo (x:NodeP):AVal:=if x.rows=[] then .lit (.slice none 0 0) else aA x.rows
def NodeP.fS (x:NodeP):List AVal:=[aa x.card,ah x.parents,eo x]
def bb (l:List NodeP):List AVal:=(l.map NodeP.fS).flatten
theorem lG (l:List NodeP):(bb l).length=l.length*3:=lC (f:=NodeP.fS) (fun _=>rfl) l
theorem oU {l:List NodeP}{i:Nat}{x:NodeP}(h:l[i]?=some x):(bb l)[i*3]?=some (aa x.card):=je (f:=NodeP.fS) (z:=3) (fun _=>rfl) l i 0 x h (by omega)
theorem oV {l:List NodeP}{i:Nat}{x:NodeP}(h:l[i]?=some x):(bb l)[i*3+1]?=some (ah x.parents):=je (f:=NodeP.fS) (z:=3) (fun _=>rfl) l i 1 x h (by omega)
theorem sf {l:List NodeP}{i:Nat}{x:NodeP}(h:l[i]?=some x):(bb l)[i*3+2]?=some (eo x):=je (f:=NodeP.fS) (z:=3) (fun _=>rfl) l i 2 x h (by omega)
theorem M7 (l:List NodeP)(x:NodeP):bb (l++[x])=bb l++[aa x.card,ah x.parents,eo x]:=by unfold bb;simp [NodeP.fS]
theorem M8 {l:List NodeP}{i:Nat}{x:NodeP}(h:l[i]?=some x):¬ bb l=[]:=fun e=>by
 have:=oU h;rw[e]at this;simp at this
theorem M9 (l:List (List Int)):aA l=.vec l.length (l.map ah):=rfl
theorem Bz {x:NodeP}(h:x.rows=[]):eo x=.lit (.slice none 0 0):=if_pos h
theorem x9 {x:NodeP}(h:x.rows≠[]):eo x=aA x.rows:=if_neg h
theorem BA {l:List NodeP}{i:Nat}{x y:NodeP}(h:l[i]?=some x)(hy:y.card=x.card/\y.parents=x.parents):bb (l.set i y)=setAt (bb l) (i*3+2) [eo y]:=by
 have hi:=get_lt h;have hl:=lG l;rw[ic (by omega)];apply List.ext_getElem?;intro p;rw[List.getElem?_set];have hp:p=(p / 3)*3+p % 3:=by omega
 by_cases hb:p / 3<l.length
 ·by_cases hpi:p / 3=i
  ·have e0:(l.set i y)[p / 3]?=some y:=(by rw[hpi,List.getElem?_set_self hi]);have c3:p % 3=0\/p % 3=1\/p % 3=2:=(by omega);rcases c3 with c|c|c
   ·rw[if_neg (by omega),hp,c,Nat.add_zero,oU e0,oU (by rw[hpi];exact h),hy.1]
   ·rw[if_neg (by omega),hp,c,oV e0,oV (by rw[hpi];exact h),hy.2]
   ·rw[if_pos (by omega),if_pos (by omega),hp,c,sf e0]
  ·obtain⟨z,hz⟩:=get_of_lt hb;have e0:(l.set i y)[p / 3]?=some z:=(by rw[List.getElem?_set_ne (by omega)];exact hz);have c3:p % 3=0\/p % 3=1\/p % 3=2:=(by omega);rcases c3 with c|c|c
   ·rw[if_neg (by omega),hp,c,Nat.add_zero,oU e0,oU hz]
   ·rw[if_neg (by omega),hp,c,oV e0,oV hz]
   ·rw[if_neg (by omega),hp,c,sf e0,sf hz]
 ·rw[List.getElem?_eq_none (by rw[lG,List.length_set];omega),if_neg (by omega),List.getElem?_eq_none (by omega)]
theorem BB {S:Nat->Prop}{H:AHeap}{nx:Nat}(x:NodeP):Fz S H nx (eo x) (aA x.rows):=by
 unfold eo;split
 ·rename_i h;rw[h];exact .nil
 ·exact .aA _
theorem Na {S:Nat->Prop}{H:AHeap}{nx:Nat}(x:NodeP):Fz S H nx (eo x) (eo x):=by
 unfold eo;split
 ·exact .lit _
 ·exact .aA _
theorem ya {S:Nat->Prop}{H:AHeap}{nx:Nat}:∀ (l:List NodeP) (i:Nat) (h:i<(bb l).length) (h':i<(aB l).length),Fz S H nx (bb l)[i] (aB l)[i]:=by
 intro l i h h';have hb:i / 3<l.length:=by rw[lG]at h;omega
 obtain⟨x,hx⟩:=get_of_lt hb;have hp:i=(i / 3)*3+i % 3:=by omega
 have g1:(bb l)[i]?=some (bb l)[i]:=List.getElem?_eq_getElem h;have g2:(aB l)[i]?=some (aB l)[i]:=List.getElem?_eq_getElem h';generalize (bb l)[i]=a at g1 ⊢;generalize (aB l)[i]=b at g2 ⊢;have c3:i % 3=0\/i % 3=1\/i % 3=2:=by omega
 rcases c3 with c|c|c
 ·rw[hp,c,Nat.add_zero,oU hx]at g1;rw[hp,c,Nat.add_zero,jf hx]at g2;cases g1;cases g2;exact .lit _
 ·rw[hp,c,oV hx]at g1;rw[hp,c,lD hx]at g2;cases g1;cases g2;exact .dG _
 ·rw[hp,c,sf hx]at g1;rw[hp,c,ux hx]at g2;cases g1;cases g2;exact BB x
theorem yb {S:Nat->Prop}{H:AHeap}{nx:Nat}(l:List NodeP):∀ c∈bb l,Fz S H nx c c:=by
 intro c hc;unfold bb at hc;obtain⟨r,hr,hc⟩:=List.mem_flatten.1 hc;obtain⟨x,_,rfl⟩:=List.mem_map.1 hr;unfold NodeP.fS at hc;simp only[List.mem_cons,List.not_mem_nil,or_false]at hc;rcases hc with rfl|rfl|rfl
 ·exact .lit _
 ·exact .dG _
 ·exact Na x
structure NodesQ (e:Nat->Prop)(ns:List NodeP)(cs:List AVal):Prop where
 len:cs.length=ns.length*3
 node:∀ (v:Nat) (x:NodeP),ns[v]?=some x->∃ rv,cs[v*3]?=some (aa x.card)/\cs[v*3+1]?=some (ah x.parents)/\cs[v*3+2]?=some rv/\(rv=aA x.rows\/rv=eo x)/\(e v->rv=eo x)
theorem Nb (e:Nat->Prop)(ns:List NodeP):NodesQ e ns (bb ns):=⟨lG ns,fun v x hx=>⟨_,oU hx,oV hx,sf hx,.inr rfl,fun _=>rfl⟩⟩
theorem NodesQ.c0 {e:Nat->Prop}{ns:List NodeP}{cs:List AVal}(h:NodesQ e ns cs){v:Nat}{x:NodeP}(hx:ns[v]?=some x):cs[v*3]?=some (aa x.card):=(h.node v x hx).elim fun _ h=>h.1
theorem NodesQ.c1 {e:Nat->Prop}{ns:List NodeP}{cs:List AVal}(h:NodesQ e ns cs){v:Nat}{x:NodeP}(hx:ns[v]?=some x):cs[v*3+1]?=some (ah x.parents):=(h.node v x hx).elim fun _ h=>h.2.1
theorem NodesQ.ne {e:Nat->Prop}{ns:List NodeP}{cs:List AVal}(h:NodesQ e ns cs){v:Nat}{x:NodeP}(hx:ns[v]?=some x):¬ cs=[]:=fun he=>by
 have:=h.c0 hx;rw[he]at this;simp at this
theorem NodesQ.part {e:Nat->Prop}{ns:List NodeP}{cs:List AVal}(h:NodesQ e ns cs){v:Nat}{x:NodeP}(hx:ns[v]?=some x):∃ rv,(cs.drop (v*3)).take 3=[aa x.card,ah x.parents,rv]/\cs[v*3+2]?=some rv/\(rv=aA x.rows\/rv=eo x)/\(e v->rv=eo x):=by
 obtain⟨rv,a,b,c,d,f⟩:=h.node v x hx;refine⟨rv,?_,c,d,f⟩;have h3:=get_lt c;rw[List.drop_eq_getElem_cons (by omega),List.drop_eq_getElem_cons (by omega),List.drop_eq_getElem_cons (by omega)];simp only[List.take_succ_cons,List.take_zero];rw[List.getElem?_eq_getElem (by omega)]at a b c;rw[Option.some.inj a,Option.some.inj b,Option.some.inj c]
theorem NodesQ.nil {e:Nat->Prop}:NodesQ e [] []:=⟨rfl,fun v x hx=>by simp at hx⟩
theorem NodesQ.snoc {e:Nat->Prop}{ns:List NodeP}{cs:List AVal}(h:NodesQ e ns cs){x:NodeP}{rv:AVal}(h1:rv=aA x.rows\/rv=eo x)(h2:e ns.length->rv=eo x):NodesQ e (ns++[x]) (cs++[aa x.card,ah x.parents,rv]):=by
 have hl:=h.len;refine⟨by simp [hl];omega,fun v y hy=>?_⟩;by_cases hv:v<ns.length
 ·rw[List.getElem?_append_left hv]at hy;obtain⟨r,a,b,c,d⟩:=h.node v y hy;exact⟨r,by rw[List.getElem?_append_left (by omega)];exact a,by rw[List.getElem?_append_left (by omega)];exact b,by rw[List.getElem?_append_left (by omega)];exact c,d⟩
 ·have:v=ns.length:=by have:=get_lt hy;simp at this;omega
  subst this;rw[List.getElem?_append_right (by omega),Nat.sub_self]at hy;cases hy;refine⟨rv,?_,?_,?_,h1,h2⟩
  ·rw[List.getElem?_append_right (by omega),show ns.length*3 - cs.length=0 by omega];rfl
  ·rw[List.getElem?_append_right (by omega),show ns.length*3+1 - cs.length=1 by omega];rfl
  ·rw[List.getElem?_append_right (by omega),show ns.length*3+2 - cs.length=2 by omega];rfl
theorem NodesQ.mono {e e':Nat->Prop}{ns:List NodeP}{cs:List AVal}(h:NodesQ e ns cs)(he:∀ v,e' v->e v):NodesQ e' ns cs:=⟨h.len,fun v x hx=>by
 obtain⟨r,a,b,c,d,f⟩:=h.node v x hx;exact⟨r,a,b,c,d,fun h=>f (he v h)⟩⟩
theorem NodesQ.Nc {e:Nat->Prop}{ns:List NodeP}{cs:List AVal}(h:NodesQ e ns cs){S:Nat->Prop}{H:AHeap}{nx:Nat}:∀ (i:Nat) (h1:i<cs.length) (h2:i<(aB ns).length),Fz S H nx cs[i] (aB ns)[i]:=by
 intro i h1 h2;have hb:i / 3<ns.length:=by rw[h.len]at h1;omega
 obtain⟨x,hx⟩:=get_of_lt hb;obtain⟨rv,a,b,c,d,_⟩:=h.node _ x hx;have hp:i=(i / 3)*3+i % 3:=by omega
 have g1:cs[i]?=some cs[i]:=List.getElem?_eq_getElem h1;have g2:(aB ns)[i]?=some (aB ns)[i]:=List.getElem?_eq_getElem h2;generalize cs[i]=u at g1 ⊢;generalize (aB ns)[i]=w at g2 ⊢;have c3:i % 3=0\/i % 3=1\/i % 3=2:=by omega
 rcases c3 with c0|c0|c0
 ·rw[hp,c0,Nat.add_zero,a]at g1;rw[hp,c0,Nat.add_zero,jf hx]at g2;cases g1;cases g2;exact .lit _
 ·rw[hp,c0,b]at g1;rw[hp,c0,lD hx]at g2;cases g1;cases g2;exact .dG _
 ·rw[hp,c0,c]at g1;rw[hp,c0,ux hx]at g2;cases g1;cases g2;rcases d with d|d<;>rw[d]
  ·exact .aA _
  ·exact BB x
theorem sH {α:Type}{l:List α}{i:Nat}{x:α}(h:l[i]?=some x):l.set i x=l:=by
 apply List.ext_getElem?;intro j;rw[List.getElem?_set];split
 ·rename_i hj;subst hj;rw[if_pos (get_lt h),h]
 ·rfl
structure FiS (d:InfP)(fv:AVal)(H H':AHeap)(nh:AVal)(n:Nat)(cs:List AVal):Prop where
 nx:H.next+4<=H'.next
 ov:Over H H'
 b0:H'.get H.next=some (.arr 0 38 [.lit (.int .i64 d.grain),.vec d.nodes.length (aB d.nodes),.lit (.int .u64 (d.decs:Int)),.vec d.utils.length (aS d.utils)])
 b1:H'.get (H.next+1)=some (.arr 0 150 [fv])
 b2:H'.get (H.next+2)=some (.arr 0 103 [.lit (.int .i64 0),.lit (.slice none 0 0)])
 b3:H'.get (H.next+3)=some (.arr 0 103 [.lit (.int .i64 d.grain),nh])
 nd:ee (H.next+4) H' 73 3 nh n cs
theorem FiS.over {d:InfP}{fv:AVal}{H H' H2:AHeap}{nh:AVal}{n:Nat}{cs:List AVal}(h:FiS d fv H H' nh n cs)(o:Over H' H2):FiS d fv H H2 nh n cs where
 nx:=Nat.le_trans h.nx o.next
 ov:=h.ov.trans o
 b0:=(o.old _ (by have:=h.nx;omega)).trans h.b0
 b1:=(o.old _ (by have:=h.nx;omega)).trans h.b1
 b2:=(o.old _ (by have:=h.nx;omega)).trans h.b2
 b3:=(o.old _ (by have:=h.nx;omega)).trans h.b3
 nd:=h.nd.over o
theorem Pd {H H':AHeap}{v:AVal}{n:Nat}{cs xs:List AVal}(hx:xs.all AVal.one=true)(hxl:xs.length=3)(hn:n<2 ^ 38)(ho:ee (H.next+4) H' 73 3 v n cs)(hlo:H.next+4<=H'.next):
  ∃ v' H2,bO Tryz.prog (ext H' [.arr 0 73 xs]) (H'.next+1) 34 34 v (.own H'.next 0 0 1 3)=some (v',H2)/\ee (H.next+4) H2 73 3 v' (n+1) (cs++xs)/\H'.next<=H2.next/\(∀ k,k<H'.next->(∀ g n,v≠.own k g 0 n 3)->H2.get k=H'.get k) :=
 vW Tryz.underlying34 Tryz.xN Tryz.xP hx hxl (by rw[Tryz.xO];omega) ho hlo rfl
theorem C5 {lo:Nat}{H':AHeap}{v:AVal}{l:List AVal}(x:AVal)(hx:x.one=true)(h:aD lo H' 46 v l)(hlo:lo<=H'.next)(hl:l.length<2 ^ 40):
  ∃ v' H2,bO Tryz.prog (ext H' [.arr 0 46 [x]]) (H'.next+1) 33 33 v (.own H'.next 0 0 1 1)=some (v',H2)/\aD lo H2 46 v' (l++[x])/\H'.next<=H2.next/\(∀ k,k<H'.next->(∀ g n,v≠.own k g 0 n 1)->H2.get k=H'.get k) :=
 iK (P:=Tryz.prog) (H:=H') (t:=33) (x:=x) (n:=H'.next+1) Tryz.underlying33 Tryz.qk Tryz.qo hx (by rw[Tryz.qm];omega) h hlo rfl
set_option maxHeartbeats 4000000 in
theorem C6 (d:InfP)(hf:InfFit d)(hR:RightN d)(c:Nat->Nat->Int)(fv:AVal)(rs:List Nat)(H:AHeap)(hrs:∀ i∈rs,i<H.next)(hfc:fv.cells=[fv])(hfo:fv.one=true)
  (hfv:∀ p r v x H1,(aE d)[p]?=some v->d.nodes[v]?=some x->r<bF d.nodes x->Over H H1->(0<=c p r/\c p r<x.card)/\bX Tryz.prog G0 fv [.lit (.int .i64 p),.lit (.int .i64 r)] H1 (.lit (.int .i64 (c p r))) rs)
  (K:ARes->AHeap->Prop) (hK:K (.ret (da d.grain (bY d c))) H):ae Tryz.prog G0 120 [dW d,fv] H K:=by
 refine ae.clo ⟨_,Tryz.func120,rfl,rfl⟩ fun hcl=>?_;have hl:=hf.nodes.1;have hn8:=hR.n1.2;refine ae.aP (n:=91) (rs:=[.cell 4 103]) Tryz.func120 rfl rfl rfl (by decide) (by kernel_rfl) (by simp) ?_;simp only[go_sem,iA,cw,hfc];obtain⟨Hb,hHb⟩:∃ Hb,Hb=ext H [.arr 0 38 [.lit (.int .i64 d.grain),.vec d.nodes.length (aB d.nodes),.lit (.int .u64 (d.decs:Int)),.vec d.utils.length (aS d.utils)],.arr 0 150 [fv],.arr 0 103 [.lit (.int .i64 0),.lit (.slice none 0 0)],.arr 0 103 [.lit (.int .i64 d.grain),.lit (.slice none 0 0)]]:=⟨_,rfl⟩
 rw[<- hHb];have R0:FiS d fv H Hb (.lit (.slice none 0 0)) 0 []:=by
  rw[hHb];exact⟨by simp [aY],.ext _ _,bR ..,aZ H _ 1 (by simp),aZ H _ 2 (by simp),aZ H _ 3 (by simp),.nil⟩
 have nb:Hb.next=H.next+4:=by rw[hHb];rfl
 refine W.loop 4503599626323328 (by rfl) (fun ρ H'=>∃ (k:Nat) (nh:AVal),ρ 20=aa k/\k<=d.nodes.length/\FiS d fv H H' nh k (bb (d.nodes.take k))) (fun ρ H=>d.nodes.length - (iv (ρ 20)).toNat) ?_ ?_
 ·simp only[go_sem];exact⟨0,_,rfl,by omega,R0⟩
 rintro ρ H' ⟨k,nh,h20,hk,R⟩;refine af _ _ _ (by rfl) ?_;have rn:=R.nx;have q0:=ag R.b0;have q3:=ag R.b3;by_cases hb:(k:Int)<d.nodes.length
 ·obtain⟨x,hx⟩:=get_of_lt (l:=d.nodes) (i:=k) (by omega);have hxm:=List.mem_of_getElem? hx;obtain⟨f1,f2,f3⟩:=hf.nodes.2 x hxm;have hne:=eA hx;have e0:=oS hx;have e1:k*3+3<=(aB d.nodes).length:=by rw[jS];omega
  simp only[go_sem,h20,hb,hne,e0,e1];refine W.draw 7 [0,1,0,4,12,31,0] Tryz.mixed (by kernel_rfl) (by kernel_rfl) ?_;simp only[go_sem];refine⟨ah x.parents,[],bX.pure fun H2=>Da x.parents (by omega) H2 _ ⟨rfl,rfl⟩,?_⟩;simp only[go_sem,M9]
  repeat (refine And.intro (by first|omega|(simp;done)|(simp;omega)|(intros;omega)|exact⟨rfl,by omega,by omega,kA _⟩) ?_)
  obtain⟨H1,hH1⟩:∃ H1,H1=ext (ext H' [.arr 0 73 [.lit (.int .i64 x.card),.vec x.parents.length (ints x.parents),.vec x.rows.length (x.rows.map ah)]]) [.arr 0 73 [.lit (.int .i64 x.card),.vec x.parents.length (ints x.parents),.lit (.slice none 0 0)]]:=⟨_,rfl⟩
  have n1:H1.next=H'.next+2:=by rw[hH1];rfl
  have gA:H1.get H'.next=some (.arr 0 73 [.lit (.int .i64 x.card),.vec x.parents.length (ints x.parents),.vec x.rows.length (x.rows.map ah)]):=by rw[hH1,bE (by simp [aY])];exact bL
  have gB:H1.get (H'.next+1)=some (.arr 0 73 [.lit (.int .i64 x.card),.vec x.parents.length (ints x.parents),.lit (.slice none 0 0)]):=by rw[hH1];exact bL (H:=ext H' [_])
  have o1:Over H' H1:=by rw[hH1];exact(Over.ext _ _).trans (.ext _ _)
  have lA:=ag gA;rw[hH1]at lA;simp only[go_sem,lA];rw[<- hH1];refine W.aK 35175782155264 (by rfl) (fun ρ' H2=>∃ (j:Nat) (rh:AVal),ρ' 33=aa j/\j<=x.rows.length/\Over H' H2/\H1.next<=H2.next/\H2.get (H'.next+1)=some (.arr 0 73 [.lit (.int .i64 x.card),.vec x.parents.length (ints x.parents),rh])/\aD (H'.next+2) H2 46 rh ((x.rows.take j).map ah)/\(j=0->rh=.lit (.slice none 0 0))) (fun ρ' H=>x.rows.length - (iv (ρ' 33)).toNat) ?_ ?_
  ·simp only[go_sem];exact⟨0,_,rfl,by omega,o1,gB,.nil,fun _=>rfl⟩
  rintro ρ' H2 ⟨j,rh,h33,hj,o2,hn2,gB2,hrh,hrh0⟩;refine af _ _ _ (by rfl) ?_;have o2n:=o2.next;have lB:=ag gB2;by_cases hb2:(j:Int)<x.rows.length
  ·obtain⟨r,hr⟩:=get_of_lt (l:=x.rows) (i:=j) (by omega);have hrm:=List.mem_of_getElem? hr;have hrne:=aL hr;have w1:=IntWalk.i64_in ((j:Int)+1) (by omega);simp only[go_sem,h33,hb2,hr,hrne];obtain⟨rh2,H3,hA,hO,hn3,hp⟩:=C5 (ah r) rfl hrh (by omega) (by simp;omega);simp only[ah]at hA;have hcells:=hO.cells;have hone:=hO.one;have g3:H3.get (H'.next+1)=some (.arr 0 73 [.lit (.int .i64 x.card),.vec x.parents.length (ints x.parents),rh]):=(hp _ (by omega) (hrh.ne (by omega))).trans gB2;have l3:=ag g3;refine W.draw 5 [0,1,0,4,12] Tryz.mixed (by kernel_rfl) (by kernel_rfl) ?_;simp only[go_sem,lB];refine⟨ah r,[],bX.pure fun H2=>Da r (by have:=f3 r hrm;omega) H2 _ ⟨rfl,rfl⟩,?_⟩;simp only[go_sem,h33,hA,l3,hcells,hone,w1]
   repeat (refine And.intro (by first|omega|(simp;done)|(simp;omega)|(intros;omega)|exact⟨rfl,by omega,by omega,kA _⟩) ?_)
   have o3:Over H' H3:=⟨by omega,fun id h=>(hp id (by omega) (hrh.ne (by omega))).trans (o2.old id h)⟩
   refine⟨by rw[aG];omega,⟨j+1,rh2,by simp,by omega,o3.upd (by omega) _,by rw[aG];omega,by rw[aj,if_pos rfl],?_,by omega⟩,by omega⟩;have e:(x.rows.take (j+1)).map ah=(x.rows.take j).map ah++[ah r]:=(by rw[aT hr];simp);rw[e];exact hO.keep (Nat.le_refl _) (by rw[aG];omega) fun id g h1 _ _ _=>by rw[aj,if_neg (by omega)]
  ·rw[List.take_of_length_le (by omega)]at hrh;have R2:=R.over o2;have q3b:=ag R2.b3;obtain⟨nh2,H3,hA,hO,hn3,hp⟩:=Pd (H:=H) (H':=H2) (v:=nh) (n:=k) (xs:=[.lit (.int .i64 x.card),.vec x.parents.length (ints x.parents),rh]) (by rw[List.all_cons,List.all_cons,List.all_cons,hrh.one];rfl) rfl (by omega) R2.nd (by have:=R2.nx;omega);have r2n:=R2.nx;have fr:∀ id,id<H.next+4->H3.get id=H2.get id:=fun id h=>hp id (by omega) (R2.nd.ne h);have g3:H3.live (H.next+3) 0=some (103,[.lit (.int .i64 d.grain),nh]):=ag ((fr _ (by omega)).trans R2.b3);have hcells:=hO.cells;have hone:=hO.one;have hrc:=hrh.cells;have hro:=hrh.one;have w1:=IntWalk.i64_in ((k:Int)+1) (by omega);simp only[go_sem,h20,h33,hb2,lB,q3b,hA,g3,hcells,hone,w1];obtain⟨H4,hH4⟩:∃ H4,H4=H3.upd (H.next+3) (.arr 0 103 [.lit (.int .i64 d.grain),nh2]):=⟨_,rfl⟩
   rw[<- hH4];refine(fun (h:∀ E:Env,E 20=aa ((k:Int)+1)->∃ s₃:St,dM Tryz.prog G0 ⟨E,H4⟩ s₃/\Hb.next<=s₃.H.next/\(∃ (k:Nat) (nh:AVal),s₃.ρ 20=aa k/\k<=d.nodes.length/\FiS d fv H s₃.H nh k (bb (d.nodes.take k)))/\d.nodes.length - (iv (s₃.ρ 20)).toNat<d.nodes.length - k)=>h _ (by simp only[go_sem])) fun E hE20=>?_;have n4:H4.next=H3.next:=(by rw[hH4];rfl);obtain⟨nb2,gn,b1,b2,rfl,b4,b5⟩:∃ id g,H.next+4<=id/\id<H3.next/\nh2=.own id g 0 (k+1) 3/\(bb (d.nodes.take k)++[.lit (.int .i64 x.card),.vec x.parents.length (ints x.parents),rh]).length=(k+1)*3/\H3.get id=some (.arr g 73 (bb (d.nodes.take k)++[.lit (.int .i64 x.card),.vec x.parents.length (ints x.parents),rh])):=by
    rcases hO with ⟨_,h,_⟩|h
    ·omega
    ·exact h
   have c0:∀ id,id<H.next+3->H4.get id=H2.get id:=fun id h=>by rw[hH4,aj,if_neg (by omega)];exact fr id (by omega)
   have c3:H4.get (H.next+3)=some (.arr 0 103 [.lit (.int .i64 d.grain),.own nb2 gn 0 (k+1) 3]):=(by rw[hH4,aj,if_pos rfl]);have c5:H4.get nb2=some (.arr gn 73 (bb (d.nodes.take k)++[.lit (.int .i64 x.card),.vec x.parents.length (ints x.parents),rh])):=(by rw[hH4,aj,if_neg (by omega)];exact b5);have e5:bb (d.nodes.take (k+1))=bb (d.nodes.take k)++[aa x.card,ah x.parents,eo x]:=(by rw[aT hx,M7]);by_cases hr0:x.rows=[]
   ·have hrn:rh=.lit (.slice none 0 0):=hrh0 (by rw[hr0]at hj;simpa using hj);subst hrn;refine⟨⟨E,H4⟩,dM.refl _,by show Hb.next<=H4.next;omega,⟨k+1,.own nb2 gn 0 (k+1) 3,hE20.trans (by simp),by omega,⟨by show _<=H4.next;omega,⟨by have:=R2.ov.next;show _<=H4.next;omega,fun id h=>(c0 id (by omega)).trans (R2.ov.old id h)⟩,(c0 _ (by omega)).trans R2.b0,(c0 _ (by omega)).trans R2.b1,(c0 _ (by omega)).trans R2.b2,c3,.inr ⟨nb2,gn,b1,by show _<H4.next;omega,rfl,?_,?_⟩⟩⟩,?_⟩
    ·rw[lG];simp;omega
    ·show H4.get nb2=_;rw[e5,Bz hr0];exact c5
    ·show _ - (iv (E 20)).toNat<_;rw[hE20];simp only[aa,aU];omega
   ·obtain⟨rk,gr,r1,r2,rfl,r4⟩:∃ id g,H'.next+2<=id/\id<H2.next/\rh=.own id g 0 (x.rows.map ah).length 1/\H2.get id=some (.arr g 46 (x.rows.map ah)):=by
     rcases hrh with ⟨_,h⟩|h
     ·simp at h;exact absurd h hr0
     ·exact h
    have nhne:∀ g n,nh≠.own rk g 0 n 3:=fun g n he=>by
     rcases R.nd with ⟨h,_⟩|⟨i,g2,_,h,h2,_⟩
     ·rw[h]at he;cases he
     ·rw[h2]at he;have:=AVal.own.inj he;omega
    have c6:H4.get rk=some (.arr gr 46 (x.rows.map ah)):=(by rw[hH4,aj,if_neg (by omega),hp rk r2 nhne];exact r4);have hne2:nb2≠rk:=by
     rintro rfl;rw[c5]at c6;have:=(Blk.arr.inj (Option.some.inj c6)).2.1;exact absurd this (by decide)
    have e6:∀ c:AVal,bb (d.nodes.take k)++[.lit (.int .i64 x.card),.vec x.parents.length (ints x.parents),c]=(bb (d.nodes.take k)++[.lit (.int .i64 x.card),.vec x.parents.length (ints x.parents)])++c :: []:=fun c=>by simp
    rw[e6]at c5;have e7:bb (d.nodes.take (k+1))=(bb (d.nodes.take k)++[.lit (.int .i64 x.card),.vec x.parents.length (ints x.parents)])++aA x.rows :: []:=(by rw[e5,x9 hr0,<- e6];rfl);refine⟨⟨E,H4.fj rk nb2 (.arr gn 73 ((bb (d.nodes.take k)++[.lit (.int .i64 x.card),.vec x.parents.length (ints x.parents)])++aA x.rows :: []))⟩,dM.fj (s:=⟨E,H4⟩) aI c5 hne2 (by simp) (RF (fun c hc=>?_) ?_ fun c hc=>by cases hc),by show Hb.next<=H4.next;omega,
     ⟨k+1,.own nb2 gn 0 (k+1) 3,hE20.trans (by simp),by omega,⟨by show _<=H4.next;omega,⟨by have:=R2.ov.next;show _<=H4.next;omega,fun id h=>(lZ (by omega) (by omega)).trans ((c0 id (by omega)).trans (R2.ov.old id h))⟩,(lZ (by omega) (by omega)).trans ((c0 _ (by omega)).trans R2.b0),(lZ (by omega) (by omega)).trans ((c0 _ (by omega)).trans R2.b1),(lZ (by omega) (by omega)).trans ((c0 _ (by omega)).trans R2.b2),(lZ (by omega) (by omega)).trans c3,.inr ⟨nb2,gn,b1,by show _<H4.next;omega,rfl,?_,?_⟩⟩⟩,?_⟩
    ·rcases List.mem_append.1 hc with hc|hc
     ·exact yb _ c hc
     ·simp only[List.mem_cons,List.not_mem_nil,or_false]at hc;rcases hc with rfl|rfl
      ·exact .lit _
      ·exact .dG _
    ·show Fz (fun id=>id=rk) H4 _ _ _;rw[show aA x.rows=.vec (x.rows.map ah).length (x.rows.map ah) by simp [aA]];refine .frz (S:=fun id=>id=rk) rfl c6 (by rw[Nat.mul_one]) fun j hj h2 h'=>?_;simp only[Nat.zero_add,List.getElem_map];exact .dG _
    ·rw[lG];simp;omega
    ·rw[e7];exact vV hne2
    ·show _ - (iv (E 20)).toNat<_;rw[hE20];simp only[aa,aU];omega
 have ek:k=d.nodes.length:=by omega
 subst ek;rw[List.take_of_length_le (Nat.le_refl _)]at R;obtain⟨nbk,gn,b1,b2,rfl,b4,b5⟩:∃ id g,H.next+4<=id/\id<H'.next/\nh=.own id g 0 d.nodes.length 3/\(bb d.nodes).length=d.nodes.length*3/\H'.get id=some (.arr g 73 (bb d.nodes)):=by
  rcases R.nd with ⟨_,h,_⟩|h
  ·have:=hR.n1.1;omega
  ·exact h
 simp only[go_sem,h20,hb,q0];refine ay.clo (uZ d _ _ ⟨trivial,?_⟩);simp only[go_sem];obtain⟨H2,hH2⟩:∃ H2,H2=ext H' [j5 d]:=⟨_,rfl⟩
 rw[<- hH2];have o2:Over H' H2:=by rw[hH2];exact .ext _ _
 have n2:H2.next=H'.next+1:=by rw[hH2];rfl
 have hbx:H2.get H'.next=some (j5 d):=by rw[hH2];exact bL
 refine W.env fun E hE=>?_;have e2:E 2=.ptr H.next 0 0:=by rw[hE];simp only[go_sem]
 have e3:E 3=.ptr (H.next+1) 0 0:=by rw[hE];simp only[go_sem]
 have e4:E 4=.ptr (H.next+2) 0 0:=by rw[hE];simp only[go_sem]
 have e5:E 5=.ptr (H.next+3) 0 0:=by rw[hE];simp only[go_sem]
 let F:Nat->List AVal->AHeap->Prop:=fun lo cs Hx=>lo<=Hx.next/\(∀ id,id<H2.next->id≠nbk->Hx.get id=H2.get id)/\Hx.get nbk=some (.arr gn 73 cs)
 refine W.pA (f:=131) (first:=[]) (cap:=[.ptr H'.next 0 0]) (by show E 53=_;rw[hE];rfl) (uY d (by omega) hf.decs H'.next)
  (fun k Hx=>F H2.next (bb (dQ d c k)) Hx) (fun _ _=>False)
  (fun k Hx h=>by rw[h.2.1 _ (by omega) (by omega)];exact hbx) (fun k Hx b h=>⟨h.1,fun id h1 h2=>by rw[aj,if_neg (by omega)];exact h.2.1 id h1 h2,by rw[aj,if_neg (by omega)];exact h.2.2⟩) (fun _ _ _ h=>h)
  (fun b=>⟨by rw[aY];omega,fun id h1 h2=>bE h1,by rw[bE (by omega),M4];exact(o2.old _ b2).trans b5⟩) (by decide) uX (fun _ _ _=>trivial) (fun _ _ _=>trivial) (fun k y Hx B Bb hy hj hn hB hBb=>?_) (fun Hx hj hn=>?_) (fun Hx hs hn=>hs.elim) (fun i Hx hs hn=>hs.elim)
 ·obtain⟨v,hv,rfl⟩:=sC hy;obtain⟨v1,v2,v3⟩:=kH hv;obtain⟨x,hx⟩:=get_of_lt (l:=d.nodes) (i:=v) v1;have hxm:=List.mem_of_getElem? hx;obtain⟨x1,x2⟩:=hR.dec v x hx v2;refine af _ _ _ (by rfl) ?_;simp only[go_sem,gX,bh,jr,List.foldl_cons,List.foldl_nil,List.zip_cons_cons,List.zip_nil_right,hB];obtain⟨H3,hH3⟩:∃ H3,H3=Hx.upd H2.next Bb:=⟨_,rfl⟩
  rw[<- hH3];obtain⟨st,pd,n',en,ps',as',bo,hBe⟩:=hBb;have n3:H3.next=Hx.next:=by rw[hH3];rfl
  have hj3:F H2.next (bb (dQ d c k)) H3:=by rw[hH3];exact⟨hj.1,fun id h1 h2=>by rw[aj,if_neg (by omega)];exact hj.2.1 id h1 h2,by rw[aj,if_neg (by omega)];exact hj.2.2⟩
  have jB:H3.get H2.next=some Bb:=by rw[hH3,aj,if_pos rfl]
  refine W.env fun E1 hE1=>?_;have m2:E1 2=.ptr H.next 0 0:=by rw[hE1];simp only[go_sem,bh,e2]
  have m3:E1 3=.ptr (H.next+1) 0 0:=by rw[hE1];simp only[go_sem,bh,e3]
  have m5:E1 5=.ptr (H.next+3) 0 0:=by rw[hE1];simp only[go_sem,bh,e5]
  have m11:E1 11=aa k:=by rw[hE1];simp only[go_sem,bh]
  have m12:E1 12=aa v:=by rw[hE1];simp only[go_sem,bh]
  clear hE1;have hvn:(v:Int)<d.nodes.length:=by omega
  have s2:=R.over o2;have oldH:∀ {Hy:AHeap},(∀ id,id<H2.next->id≠nbk->Hy.get id=H2.get id)->Hy.live H.next 0=some (38,[.lit (.int .i64 d.grain),.vec d.nodes.length (aB d.nodes),.lit (.int .u64 (d.decs:Int)),.vec d.utils.length (aS d.utils)])/\Hy.live (H.next+1) 0=some (150,[fv])/\Hy.live (H.next+3) 0=some (103,[.lit (.int .i64 d.grain),.own nbk gn 0 d.nodes.length 3]):=fun h =>
   ⟨ag ((h _ (by omega) (by omega)).trans s2.b0),ag ((h _ (by omega) (by omega)).trans s2.b1),ag ((h _ (by omega) (by omega)).trans s2.b3)⟩
  obtain⟨k0,k1,k3⟩:=oldH hj3.2.1;have ps:=lU hn8 x2 hR.card;have hpm:=mM (ns:=d.nodes) (x:=x) (fun q hq=>by have:=x2.2 q hq;omega) hR.card;have hpp:1<=az (aQ d.nodes x):=fI fun c hc=>(hpm c hc).1;have hpb:=ps.prod;have hrn:((bF d.nodes x:Nat):Int)=az (aQ d.nodes x):=by unfold bF;omega
  have hlk:(dQ d c k)[v]?=some x:=by rw[nM hx];unfold eW;rw[if_neg (by omega)]
  have el:=lG (dQ d c k);have hvk:v*3+2<(bb (dQ d c k)).length:=by rw[el,kI];omega
  refine W.qY (Q':=fun e s2=>e=.normal/\∃ rh,F H3.next (setAt (bb (dQ d c k)) (v*3+2) [rh]) s2.H/\s2.H.get H2.next=some Bb/\aD H3.next s2.H 46 rh ((List.range (bF d.nodes x)).map fun r=>ah (bS d.grain x.card (c k r)))) ?_ ?_;rotate_left
  ·rintro e sx ⟨rfl,rh,hF,jBx,hrh⟩;obtain⟨rk,gr,r1,r2,rfl,r4⟩:∃ id g,H3.next<=id/\id<sx.H.next/\rh=.own id g 0 ((List.range (bF d.nodes x)).map fun r=>ah (bS d.grain x.card (c k r))).length 1/\sx.H.get id=some (.arr g 46 ((List.range (bF d.nodes x)).map fun r=>ah (bS d.grain x.card (c k r)))):=by
    rcases hrh with ⟨_,h⟩|h
    ·have:bF d.nodes x=0:=(by simpa using h);omega
    ·exact h
   have hfs:=M5 (c:=c) hv hx;have edr:dP d.grain d.nodes c k x=(List.range (bF d.nodes x)).map fun r=>bS d.grain x.card (c k r):=rfl;have ey:eo { x with rows:=x.rows++dP d.grain d.nodes c k x }=.vec ((List.range (bF d.nodes x)).map fun r=>ah (bS d.grain x.card (c k r))).length ((List.range (bF d.nodes x)).map fun r=>ah (bS d.grain x.card (c k r))):=by
    have hne:x.rows++dP d.grain d.nodes c k x≠[]:=by
     rw[x1,edr,List.nil_append];intro h;have:bF d.nodes x=0:=(by simpa using h);omega
    rw[x9 hne];show aA (x.rows++_)=_;rw[x1,edr,List.nil_append];simp [aA,List.map_map,Function.comp_def]
   have hob:=hF.2.2;rw[ic hvk]at hob;have hc2:bb (dQ d c (k+1))=(bb (dQ d c k)).set (v*3+2) (.vec ((List.range (bF d.nodes x)).map fun r=>ah (bS d.grain x.card (c k r))).length ((List.range (bF d.nodes x)).map fun r=>ah (bS d.grain x.card (c k r)))):=by
    rw[hfs,BA (y:={ x with rows:=x.rows++dP d.grain d.nodes c k x }) hlk ⟨rfl,rfl⟩,ey,ic hvk]
   have hne2:nbk≠rk:=(by have:=hj3.1;omega);refine⟨⟨sx.ρ,sx.H.fj rk nbk (.arr gn 73 (bb (dQ d c (k+1))))⟩,dM.fj aI hob hne2 (by rw[hc2,List.length_set,List.length_set]) ?_,Nat.le_refl _,⟨_,_,_,_,_,_,_,by rw[lZ (by omega) (by omega),jBx,hBe]⟩,by rw[lZ (by omega) (by omega)];exact jBx,by show Hx.next<=sx.H.next;have:=hF.1;omega,
    ⟨by show H2.next<=sx.H.next;have:=hF.1;omega,fun id h1 h2=>(lZ (by omega) h2).trans (hF.2.1 id h1 h2),vV hne2⟩⟩
   rw[hc2];refine zp (yb _) ?_;refine .frz (S:=fun id=>id=rk) rfl r4 (by rw[Nat.mul_one]) fun j hj h2 h'=>?_;simp only[Nat.zero_add,List.getElem_map];exact .dG _
  refine af _ _ _ (by rfl) ?_;simp only[go_sem,m2,m12,k0];refine ay.clo (vm d.nodes v x hx (fun q hq=>by have:=x2.2 q hq;omega) ps _ _ ⟨⟨_,_,_,_,_,_,_,by rw[jB,hBe]⟩,?_⟩);rw[<- hrn];simp only[go_sem];refine W.aK 1237940038132458770292285440 (by rfl) (fun ρ2 H4=>∃ (r:Nat) (rh:AVal),ρ2 60=aa r/\r<=bF d.nodes x/\F H3.next (setAt (bb (dQ d c k)) (v*3+2) [rh]) H4/\H4.get H2.next=some Bb/\aD H3.next H4 46 rh ((List.range r).map fun r=>ah (bS d.grain x.card (c k r)))/\(r=0->rh=.lit (.slice none 0 0)))
   (fun ρ2 H=>bF d.nodes x - (iv (ρ2 60)).toNat) ?_ ?_
  ·simp only[go_sem];refine⟨0,.lit (.slice none 0 0),rfl,by omega,⟨Nat.le_refl _,hj3.2.1,?_⟩,jB,.nil,fun _=>rfl⟩;rw[show setAt (bb (dQ d c k)) (v*3+2) [.lit (.slice none 0 0)]=bb (dQ d c k) from by
    have:=BA (y:=x) hlk ⟨rfl,rfl⟩;rw[Bz x1]at this;rw[<- this];congr 1;exact sH hlk]
   exact hj3.2.2
  rintro ρ2 H4 ⟨r,rh,h60,hr,hF,jB4,hrh,hrh0⟩;refine W.env fun E2 hE2=>?_;have i2:E2 2=.ptr H.next 0 0:=by rw[hE2];simp only[go_sem,m2]
  have i3:E2 3=.ptr (H.next+1) 0 0:=by rw[hE2];simp only[go_sem,m3]
  have i5:E2 5=.ptr (H.next+3) 0 0:=by rw[hE2];simp only[go_sem,m5]
  have i11:E2 11=aa k:=by rw[hE2];simp only[go_sem,m11]
  have i12:E2 12=aa v:=by rw[hE2];simp only[go_sem,m12]
  have i59:E2 59=aa (bF d.nodes x):=by rw[hE2];simp only[go_sem]
  have i60:E2 60=aa r:=by rw[hE2];simp only[go_sem,h60]
  clear hE2;refine af _ _ _ (by rfl) ?_;by_cases hb2:(r:Int)<bF d.nodes x
  ·obtain⟨k0,k1,k3⟩:=oldH hF.2.1;have kn:=ag hF.2.2;have hne:=eA hx;have ec:=jf hx;have w1:=IntWalk.i64_in ((r:Int)+1) (by omega);obtain⟨cb,hpc⟩:=hfv k r v x H4 hv hx (by omega) ⟨by omega,fun id h=>(hF.2.1 id (by omega) (by omega)).trans (s2.ov.old id h)⟩;have hs:(setAt (bb (dQ d c k)) (v*3+2) [rh])[v*3+2]?=some rh:=(by rw[ic hvk,List.getElem?_set_self hvk]);obtain⟨rh2,H5,hA,hO,hn5,hp⟩:=C5 (ah (bS d.grain x.card (c k r))) rfl hrh hF.1 (by rw[List.length_map,List.length_range];omega);simp only[ah]at hA;have hcells:=hO.cells;have hone:=hO.one;have hpr:bX Tryz.prog G0 (.clo 144 [] []) [.lit (.int .i64 d.grain),.lit (.int .i64 x.card),.lit (.int .i64 (c k r))] H4 (ah (bS d.grain x.card (c k r))) []:=bX.pure fun H2=>O5 d.grain x.card (c k r) (by have:=hR.card x hxm;omega) cb H2 _ ⟨rfl,rfl⟩;have hrhs:rh=.lit (.slice none 0 0)\/∃ i g n,rh=.own i g 0 n 1/\H3.next<=i/\i<H4.next:=by
    rcases hrh with ⟨h,_⟩|⟨i,g,h1,h2,h3,_⟩
    ·exact .inl h
    ·exact .inr ⟨i,g,_,h3,h1,h2⟩
   have hset:∀ a b,setAt (setAt (bb (dQ d c k)) (v*3+2) [a]) (v*3+2) [b]=setAt (bb (dQ d c k)) (v*3+2) [b]:=fun a b=>by rw[ic hvk,ic (by rw[List.length_set];exact hvk),ic hvk,List.set_set]
   have hslen:∀ a,(setAt (bb (dQ d c k)) (v*3+2) [a]).length=(bb (dQ d c k)).length:=fun a=>by rw[ic hvk,List.length_set]
   have hg5:H5.get nbk=some (.arr gn 73 (setAt (bb (dQ d c k)) (v*3+2) [rh])):=(hp _ (by have:=hF.1;omega) (hrh.ne (by omega))).trans hF.2.2;have kn5:=ag hg5;have ho5:∀ id,id<H2.next->id≠nbk->H5.get id=H2.get id:=fun id h1 h2=>(hp _ (by have:=hF.1;omega) (hrh.ne (by omega))).trans (hF.2.1 id h1 h2);have jB5:H5.get H2.next=some Bb:=(hp _ (by have:=hF.1;omega) (hrh.ne (by omega))).trans jB4;obtain⟨hn34,-,-⟩:=hF;rcases rs with _|⟨b0,rs⟩<;>rcases hrhs with rfl|⟨i,g,n,rfl,hi1,hi2⟩
   all_goals
    simp only[go_sem,i60,i59,hb2];refine W.draw 24 [0,1,0,0,8,0,56,120,248,0,512,0,2048,0,14336,30720,63488,0,0,0,917504,2096640,4193792,8388600] Tryz.mixed (by kernel_rfl) (by kernel_rfl) ?_;simp only[go_sem,i2,i3,i5,i11,i12,k0,k1,k3,kn,hvn,hne,ec,hs];refine⟨.lit (.int .i64 (c k r)),_,hpc,ah (bS d.grain x.card (c k r)),[],hpr,?_⟩;simp only[go_sem,i2,i3,i5,i11,i12,i60,hvn,kn5,hA,hcells,hone,w1];refine⟨by repeat' (first|refine And.intro ?_ ?_|(intro x hx;omega)),by repeat' (first|refine And.intro ?_ ?_|(intro x hx;omega)),by rw[hslen];omega,by rw[aG];omega,⟨_,_,_,_,_,_,_,by rw[aj,if_neg (by omega),jB5,hBe]⟩,
     ⟨r+1,rh2,by simp,by omega,⟨by rw[aG];omega,fun id h1 h2=>by rw[aj,if_neg h2];exact ho5 id h1 h2,by rw[aj,if_pos rfl,hset]⟩,by rw[aj,if_neg (by omega)];exact jB5,?_,by omega⟩,by rw[h60];simp only[aa,aU];omega⟩
    have e:((List.range (r+1)).map fun r=>ah (bS d.grain x.card (c k r)))=((List.range r).map fun r=>ah (bS d.grain x.card (c k r)))++[ah (bS d.grain x.card (c k r))]:=(by rw[List.range_succ];simp);show aD _ _ _ _ ((List.range (r+1)).map fun r=>ah (bS d.grain x.card (c k r)));rw[e];exact hO.keep (Nat.le_refl _) (by rw[aG];omega) fun id g h1 _ _ _=>by rw[aj,if_neg (by omega)]
  ·have er:r=bF d.nodes x:=(by omega);subst er;simp only[go_sem,i59,i60,hb2];exact⟨rh,hF,jB4,hrh⟩
 ·have s2:=R.over o2;have f4:=ag ((hj.2.1 _ (by omega) (by omega)).trans s2.b2);have f5:=ag ((hj.2.1 _ (by omega) (by omega)).trans s2.b3);simp only[go_sem,e4,e5,f4,f5];have ovx:Over H Hx:=⟨by omega,fun id h=>(hj.2.1 id (by omega) (by omega)).trans (s2.ov.old id h)⟩
  refine ar.bB (v':=da d.grain (bY d c)) aI hcl (ovx.upd (by omega) _) (.agg rfl fun i hi _=>?_) hK
  match i,hi with
  | 0,_=>exact .lit _
  | 1,_ =>
   have hg:∀ b,(Hx.upd (H.next+2) b).get nbk=some (.arr gn 73 (bb (bY d c))):=fun b=>by
    rw[aj,if_neg (by omega)];have:=hj.2.2;rw[sD]at this;exact this
   show Fz _ _ _ (.own nbk gn 0 d.nodes.length 3) (.vec (bY d c).length (aB (bY d c)));rw[show (bY d c).length=d.nodes.length from kI _ _ _];refine .frz (by show H.next<=_;omega) (hg _) (by rw[jS];congr 1;exact kI _ _ _) fun j hj h2 h'=>?_;simp only[Nat.zero_add];exact ya _ j _ _
structure UtilOk (ns:List NodeP)(u:UtilP):Prop where
 vars:cH u.vars ns.length
 size:(u.w.length:Int)=az (aH (ak ns) u.vars)
 w:∀ x∈u.w,-100<=x/\x<=100
def vh (d:InfP):Prop:=d.utils.length<=4/\∀ u∈d.utils,UtilOk d.nodes u
theorem sI {ns:List NodeP}{vars:List Int}(h8:ns.length<=8)(hp:cH vars ns.length)(hc:∀ y∈ns,1<=y.card/\y.card<=4):dS (aH (ak ns) vars) :=
 lU (x:=⟨0,vars,[]⟩) h8 hp hc
set_option maxHeartbeats 2000000 in
theorem Pe (d:InfP)(hf:InfFit d)(h8:d.nodes.length<=8)(hc:∀ y∈d.nodes,1<=y.card/\y.card<=4)(H:AHeap)(K:ARes->AHeap->Prop)(hK:K (.ret (.lit (.bool (kP (vh d))))) H):ae Tryz.prog G0 130 [dW d] H K:=by
 refine ae.clo ⟨_,Tryz.func130,rfl,rfl⟩ fun hcl=>?_;have hul:=hf.utils.1;have no:¬ vh d->∀ H',Over H H'->ar Tryz.prog G0 H K (.lit (.bool false)) H':=fun h H' ov=>ar.bB aI hcl ov (.lit _) (by rw[jE h]at hK;exact hK);refine ae.aP (n:=74) (rs:=[.tmp 2]) Tryz.func130 rfl rfl rfl (by decide) (by kernel_rfl) (by simp) ?_;simp only[go_sem,iA,cw];obtain⟨H1,hH1⟩:∃ H1,H1=ext H [.arr 0 38 [.lit (.int .i64 d.grain),.vec d.nodes.length (aB d.nodes),.lit (.int .u64 (d.decs:Int)),.vec d.utils.length (aS d.utils)]]:=⟨_,rfl⟩
 have l1:H1.live H.next 0=some (38,[.lit (.int .i64 d.grain),.vec d.nodes.length (aB d.nodes),.lit (.int .u64 (d.decs:Int)),.vec d.utils.length (aS d.utils)]):=by rw[hH1];exact ag (bR ..)
 have n1:H1.next=H.next+1:=by rw[hH1];rfl
 have o1:Over H H1:=by rw[hH1];exact .ext _ _
 rw[<- hH1];refine W.aK 9444732965739290166632 (by rfl) (fun ρ H'=>∃ k:Nat,ρ 18=aa k/\k<=d.utils.length/\Over H1 H'/\ρ 3=.lit (.bool (decide ((d.utils.length:Int)<=4)))/\(0<k->d.utils.length<=4)/\∀ u∈d.utils.take k,UtilOk d.nodes u) (fun ρ H=>d.utils.length - (iv (ρ 18)).toNat) ?_ ?_
 ·simp only[go_sem];exact⟨0,rfl,by omega,.refl _,by omega,by simp⟩
 rintro ρ H' ⟨k,h18,hk,ov,h3,hk4,hall⟩;refine W.env fun E hE=>?_;have e1:E 1=.ptr H.next 0 0:=by rw[hE];simp only[go_sem]
 have e3:E 3=.lit (.bool (decide ((d.utils.length:Int)<=4))):=by rw[hE];simp only[go_sem,h3]
 have e16:E 16=.vec d.utils.length (aS d.utils):=by rw[hE];simp only[go_sem]
 have e17:E 17=aa d.utils.length:=by rw[hE];simp only[go_sem]
 have e18:E 18=aa k:=by rw[hE];simp only[go_sem,h18]
 clear hE;refine af _ _ _ (by rfl) ?_;have ovn:=ov.next;have l2:=(ov.live (g:=0) (by omega:H.next<H1.next)).trans l1;by_cases hb:(k:Int)<d.utils.length;rotate_left
 ·rw[List.take_of_length_le (by omega)]at hall;by_cases h4:(d.utils.length:Int)<=4
  ·simp only[go_sem,e3,e17,e18,hb,h4];rw[eM ⟨by omega,hall⟩]at hK;exact ar.bB aI hcl (o1.trans ov) (.lit _) hK
  ·simp only[go_sem,e3,e17,e18,hb,h4];exact no (fun h=>by have:=h.1;omega) _ (o1.trans ov)
 obtain⟨u,hu⟩:=get_of_lt (l:=d.utils) (i:=k) (by omega);have hum:=List.mem_of_getElem? hu;obtain⟨f1,f2⟩:=hf.utils.2 u hum;have hne:=xS hu;have p0:=xR hu;have p1:k*2+2<=(aS d.utils).length:=by rw[xQ];omega
 have ove:∀ L,Over H (ext H' L):=fun L=>(o1.trans ov).trans (.ext _ _);by_cases h4:(d.utils.length:Int)<=4;rotate_left
 ·simp only[go_sem,e3,e16,e17,e18,hb,h4,hne,p0,p1];exact no (fun h=>by have:=h.1;omega) _ (ove _)
 have l3:∀ L,(ext H' L).live H.next 0=_:=fun L=>(eT (by omega)).trans l2;simp only[go_sem,e1,e3,e16,e17,e18,hb,h4,hne,p0,p1,l3];obtain⟨H2,hH2⟩:∃ H2,H2=ext H' [.arr 0 82 [.vec u.vars.length (ints u.vars),.vec u.w.length (ints u.w)]]:=⟨_,rfl⟩
 have m1:H2.live H'.next 0=some (82,[.vec u.vars.length (ints u.vars),.vec u.w.length (ints u.w)]):=by rw[hH2];exact ag bL
 have m2:=l3 [.arr 0 82 [.vec u.vars.length (ints u.vars),.vec u.w.length (ints u.w)]];rw[<- hH2]at m2;have n2:H2.next=H'.next+1:=by rw[hH2];rfl
 have ov2:Over H H2:=by rw[hH2];exact ove _
 rw[<- hH2];refine ay.clo (Db u.vars d.nodes.length (by omega) _ _ ⟨trivial,?_⟩);by_cases c1:cH u.vars d.nodes.length;rotate_left
 ·simp only[go_sem,c1];exact no (fun h=>c1 (h.2 u hum).vars) _ ov2
 have sm:=sI h8 c1 hc;have pl:(aH (ak d.nodes) u.vars).length=u.vars.length:=gL _ _;have v8:=c1.len;simp only[go_sem,c1,m1];refine W.aK 562881233944896 (by rfl) (fun ρ' H3=>H3=H2/\∃ j:Nat,ρ' 36=aa j/\j<=u.vars.length/\ρ' 6=aa (az ((aH (ak d.nodes) u.vars).take j))) (fun ρ' H=>u.vars.length - (iv (ρ' 36)).toNat) ?_ ?_
 ·simp only[go_sem];exact⟨0,rfl,by omega,by simp [iL]⟩
 rintro ρ' H3 ⟨rfl,j,h36,hj,h6⟩;refine af _ _ _ (by rfl) ?_;by_cases hb2:(j:Int)<u.vars.length
 ·obtain⟨q,hq⟩:=get_of_lt (l:=u.vars) (i:=j) (by omega);obtain⟨i,rfl,y,hy⟩:=mo (l:=d.nodes) (c1.2 q (List.mem_of_getElem? hq)).1 (c1.2 q (List.mem_of_getElem? hq)).2;have hne2:=aL hq;have hne3:=eA hy;have ey:=jf hy;have hi:(i:Int)<d.nodes.length:=by have:=get_lt hy;omega
  have pk:(aH (ak d.nodes) u.vars)[j]?=some y.card:=by rw[jF hq,Int.toNat_natCast,bI (cU hy)]
  have b1:=(sm.take (j+1)).prod;rw[aT pk,fH]at b1;have w1:=IntWalk.i64_in ((j:Int)+1) (by omega);have w2:=IntWalk.i64_in (az ((aH (ak d.nodes) u.vars).take j)*y.card) (by omega);simp only[go_sem,h36,h6,e1,m2,hb2,hq,hne2,hne3,hi,ey,w1,w2];exact⟨⟨j+1,by simp,by omega,by rw[aT pk,fH]⟩,by omega⟩
 rw[List.take_of_length_le (by omega)]at h6;by_cases c2:(u.w.length:Int)=az (aH (ak d.nodes) u.vars);rotate_left
 ·simp only[go_sem,h36,h6,m1,hb2,c2];exact no (fun h=>c2 (h.2 u hum).size) _ ov2
 simp only[go_sem,h36,h6,m1,hb2,c2];refine W.aK 4721790022117341791240 (by rfl) (fun ρ2 H4=>H4=H3/\∃ i:Nat,ρ2 59=aa i/\i<=u.w.length/\ρ2 3=.lit (.bool true)/\∀ w∈u.w.take i,-100<=w/\w<=100) (fun ρ2 H=>u.w.length - (iv (ρ2 59)).toNat) ?_ ?_
 ·simp only[go_sem];exact⟨0,rfl,by omega,by simp⟩
 rintro ρ2 H4 ⟨rfl,i,h59,hi,h3',hw⟩;refine af _ _ _ (by rfl) ?_;have hpr:=sm.prod;by_cases hb3:(i:Int)<u.w.length<;>have hb3':=hb3<;>rw[c2]at hb3'
 ·obtain⟨a,ha⟩:=get_of_lt (l:=u.w) (i:=i) (by omega);have ham:=List.mem_of_getElem? ha;have hane:=aL ha;by_cases d1:a >= -100;rotate_left
  ·simp only[go_sem,h59,h3',hb3,hb3',ha,hane,d1];exact no (fun h=>by have:=(h.2 u hum).w a ham;omega) _ ov2
  by_cases d2:a<=100;rotate_left
  ·simp only[go_sem,h59,h3',hb3,hb3',ha,hane,d1,d2];exact no (fun h=>by have:=(h.2 u hum).w a ham;omega) _ ov2
  have w1:=IntWalk.i64_in ((i:Int)+1) (by omega);simp only[go_sem,h59,h3',hb3,hb3',ha,hane,d1,d2,w1];refine⟨⟨i+1,by simp,by omega,fun w hw'=>?_⟩,by omega⟩;rw[aT ha]at hw';rcases List.mem_append.1 hw' with hw'|hw'
  ·exact hw w hw'
  ·obtain rfl:=List.mem_singleton.1 hw';exact⟨by omega,by omega⟩
 ·have w1:=IntWalk.i64_in ((k:Int)+1) (by omega);rw[List.take_of_length_le (by omega)]at hw;simp only[go_sem,h59,h3',e18,hb3',w1];refine⟨by omega,⟨k+1,by simp,by omega,by rw[hH2];exact ov.trans (.ext _ _),fun _=>by omega,fun y hy=>?_⟩,by rw[h18];simp only[aa,aU];omega⟩;rw[aT hu]at hy;rcases List.mem_append.1 hy with hy|hy
  ·exact hall y hy
  ·obtain rfl:=List.mem_singleton.1 hy;exact⟨c1,c2,hw⟩
structure InfOk (d:InfP):Prop where
 n:RightN d
 net:NetOk d.grain (bY d fun _ _=>0)
 utils:vh d
theorem yR (g card x:Int):(bS g card x).length=card.toNat:=by simp [bS]
theorem sJ {d:InfP}{c:Nat->Nat->Int}{y:NodeP}(h:y∈bY d c):∃ v x,d.nodes[v]?=some x/\y=eW d c (aE d).length v x:=by
 obtain⟨v,hv⟩:=List.mem_iff_getElem?.1 h;have hl:=get_lt hv;rw[show (bY d c).length=d.nodes.length from kI _ _ _]at hl;obtain⟨x,hx⟩:=get_of_lt hl;have:=nM (c:=c) (k:=(aE d).length) hx;rw[show dQ d c (aE d).length=bY d c from rfl,hv]at this;exact⟨v,x,hx,Option.some.inj this⟩
theorem Pf {d:InfP}(hf:InfFit d)(hR:RightN d)(c:Nat->Nat->Int):vo (bY d c):=by
 refine⟨by rw[show (bY d c).length=d.nodes.length from kI _ _ _];exact hf.nodes.1,fun y hy=>?_⟩;obtain⟨v,x,hx,rfl⟩:=sJ hy;have hxm:=List.mem_of_getElem? hx;obtain⟨f1,f2,f3⟩:=hf.nodes.2 x hxm;unfold eW;split
 ·rename_i h;obtain⟨x1,x2⟩:=hR.dec v x hx h.1;have ps:=(lU hR.n1.2 x2 hR.card).prod;have hc:=hR.card x hxm;refine⟨f1,?_,fun r hr=>?_⟩
  ·show ((x.rows++dP d.grain d.nodes c (bA d.decs v) x).length:Int)<_;rw[x1];simp only[dP,List.nil_append,List.length_map,List.length_range,bF];omega
  ·rw[show ({ x with rows:=x.rows++dP d.grain d.nodes c (bA d.decs v) x }:NodeP).rows=x.rows++dP d.grain d.nodes c (bA d.decs v) x from rfl,x1,List.nil_append]at hr;obtain⟨i,_,rfl⟩:=List.mem_map.1 hr;rw[yR];omega
 ·exact⟨f1,f2,f3⟩
theorem C7 (d:InfP)(hf:InfFit d)(H:AHeap)(K:ARes->AHeap->Prop)(hK:K (.ret (aa (if kP (InfOk d) then 0 else 200))) H):ae Tryz.prog G0 95 [dW d] H K:=by
 refine ae.clo ⟨_,Tryz.func95,rfl,rfl⟩ fun hcl=>?_;have no:¬ InfOk d->∀ H',Over H H'->ar Tryz.prog G0 H K (.lit (.int .i64 200)) H':=fun h H' ov=>ar.bB aI hcl ov (.lit _) (by rw[jE h]at hK;exact hK);have hg:InfOk d->1<=d.grain/\d.grain<=60:=fun h=>h.net.g1;refine ae.aP (n:=25) (rs:=[.tmp 2]) Tryz.func95 rfl rfl rfl (by decide) (by kernel_rfl) (by simp) ?_;simp only[go_sem,iA,cw];obtain⟨H1,hH1⟩:∃ H1,H1=ext H [.arr 0 38 [.lit (.int .i64 d.grain),.vec d.nodes.length (aB d.nodes),.lit (.int .u64 (d.decs:Int)),.vec d.utils.length (aS d.utils)]]:=⟨_,rfl⟩
 have l1:H1.live H.next 0=some (38,[.lit (.int .i64 d.grain),.vec d.nodes.length (aB d.nodes),.lit (.int .u64 (d.decs:Int)),.vec d.utils.length (aS d.utils)]):=by rw[hH1];exact ag (bR ..)
 have o1:Over H H1:=by rw[hH1];exact .ext _ _
 rw[<- hH1];by_cases c1:d.grain<1
 ·simp only[go_sem,c1];exact no (fun h=>by have:=hg h;omega) _ o1
 by_cases c2:d.grain > 60
 ·simp only[go_sem,l1,c1,c2];exact no (fun h=>by have:=hg h;omega) _ o1
 simp only[go_sem,l1,c1,c2];refine ay.clo (O7 d hf _ _ ⟨trivial,?_⟩);by_cases c3:RightN d;rotate_left
 ·rw[jE c3];simp only[go_sem];exact no (fun h=>c3 h.n) _ o1
 rw[eM c3];simp only[go_sem,l1];refine ay.clo (C6 d hf c3 (fun _ _=>0) _ [] _ (fun i h=>by cases h) rfl rfl (fun p r v x H2 _ hx _ _=>⟨⟨Int.le_refl 0,by have:=c3.card x (List.mem_of_getElem? hx);omega⟩,bX.pure fun H3=>O6 _ _ H3 _ ⟨rfl,rfl⟩⟩) _ ⟨trivial,?_⟩);simp only[go_sem];refine ay.clo (PM d.grain _ (Pf hf c3 _) _ _ ⟨trivial,?_⟩);by_cases c4:NetOk d.grain (bY d fun _ _=>0);rotate_left
 ·rw[De c4];simp only[go_sem];exact no (fun h=>c4 h.net) _ o1
 rw[Dd c4];simp only[go_sem,l1];refine ay.clo (Pe d hf c3.n1.2 c3.card _ _ ⟨trivial,?_⟩);by_cases c5:vh d;rotate_left
 ·rw[jE c5];simp only[go_sem];exact no (fun h=>c5 h.utils) _ o1
 rw[eM c5];simp only[go_sem];rw[eM (⟨c3,c4,c5⟩:InfOk d)]at hK;exact ar.bB aI hcl o1 (.lit _) hK
structure PolOk (d:InfP)(p:List (List Int)):Prop where
 len:p.length=(aE d).length
 row:∀ (k v:Nat) (x:NodeP) (l:List Int),(aE d)[k]?=some v->d.nodes[v]?=some x->p[k]?=some l->l.length=bF d.nodes x/\∀ a∈l,0<=a/\a<x.card
def po (p:List (List Int)):Prop:=(p.length:Int)<2 ^ 38/\∀ r∈p,(r.length:Int)<2 ^ 38
noncomputable def eC (d:InfP)(p:List (List Int)):Int:=if kP (InfOk d) then (if kP (PolOk d p) then 0 else 201) else 200
set_option maxHeartbeats 2000000 in
theorem yS (d:InfP)(hf:InfFit d)(p:List (List Int))(hp:po p)(H:AHeap)(K:ARes->AHeap->Prop)(hK:K (.ret (aa (eC d p))) H):ae Tryz.prog G0 64 [dW d,aA p] H K:=by
 refine ae.clo ⟨_,Tryz.func64,rfl,rfl⟩ fun hcl=>?_;refine ae.aP (n:=64) (rs:=[.cell 4 42]) Tryz.func64 rfl rfl rfl (by decide) (by kernel_rfl) (by simp) ?_;simp only[go_sem,iA,cw];obtain⟨H1,hH1⟩:∃ H1,H1=ext H [.arr 0 38 (cw d),.arr 0 33 [aA p],.arr 0 42 [.lit (.int .i64 0)]]:=⟨_,rfl⟩
 have g1:H1.get H.next=some (.arr 0 38 (cw d)):=by rw[hH1];exact bR ..
 have g2:H1.get (H.next+1)=some (.arr 0 33 [aA p]):=by rw[hH1];exact aZ H _ 1 (by simp)
 have g3:H1.get (H.next+2)=some (.arr 0 42 [.lit (.int .i64 0)]):=by rw[hH1];exact aZ H _ 2 (by simp)
 have l1:=ag g1;have l3:=ag g3;have n1:H1.next=H.next+3:=by rw[hH1];rfl
 have o1:Over H H1:=by rw[hH1];exact .ext _ _
 unfold cw at hH1 l1;rw[<- hH1];refine ay.clo (C7 d hf _ _ ⟨trivial,?_⟩);by_cases hok:InfOk d;rotate_left
 ·rw[jE hok];simp only[go_sem,l3];unfold eC at hK;rw[jE hok]at hK;exact ar.bB aI hcl (o1.upd (by omega) _) (.lit _) hK
 rw[eM hok];have hR:=hok.n;have no:¬ PolOk d p->∀ H',Over H H'->ar Tryz.prog G0 H K (.lit (.int .i64 201)) H':=fun h H' ov=>ar.bB aI hcl ov (.lit _) (by unfold eC at hK;rw[eM hok,jE h]at hK;exact hK);have nb0:H.next≠H1.next:=by omega
 have l1e:∀ L,(ext H1 L).live H.next 0=_:=fun L=>(eT (by omega)).trans l1;simp only[go_sem,l1e];refine ay.clo (uZ d _ _ ⟨trivial,?_⟩);simp only[go_sem];obtain⟨H2,hH2⟩:∃ H2,H2=ext (ext H1 [.arr 0 3 [.lit (.int .i64 0)]]) [j5 d]:=⟨_,rfl⟩
 rw[<- hH2];have o2:Over H1 H2:=by rw[hH2];exact(Over.ext _ _).trans (.ext _ _)
 have n2:H2.next=H.next+5:=by rw[hH2,aY,aY,n1];rfl
 have hbx:H2.get (H.next+4)=some (j5 d):=by rw[hH2,show H.next+4=(ext H1 [.arr 0 3 [.lit (.int .i64 0)]]).next by rw[aY,n1];rfl];exact bL
 have g6:H2.get (H.next+3)=some (.arr 0 3 [.lit (.int .i64 0)]):=by rw[hH2,dD _ _ _ (by rw[aY,n1];simp),show H.next+3=H1.next by omega];exact bL
 have o02:=o1.trans o2;refine W.env fun E hE=>?_;have e2:E 2=.ptr H.next 0 0:=by rw[hE];simp only[go_sem]
 have e3:E 3=.ptr (H.next+1) 0 0:=by rw[hE];simp only[go_sem]
 have e4:E 4=.ptr (H.next+2) 0 0:=by rw[hE];simp only[go_sem]
 have e6:E 6=.ptr (H.next+3) 0 0:=by rw[hE,<- n1];simp only[go_sem]
 have eN:(ext H1 [.arr 0 3 [.lit (.int .i64 0)]]).next=H.next+4:=by rw[aY,n1];rfl
 have e17:E 17=.clo 131 [] [.ptr (H.next+4) 0 0]:=by rw[hE,<- eN];rfl
 clear hE
  -- what stays as it is
 let S:AHeap->Prop:=fun Hx=>H2.next<=Hx.next/\∀ id,id<H2.next->id≠H.next+3->id≠H.next+2->Hx.get id=H2.get id
 have ovS:∀ {Hx},S Hx->Over H Hx:=fun h=>⟨by have:=h.1;omega,fun id hi=>(h.2 id (by omega) (by omega) (by omega)).trans (o02.old id hi)⟩
 refine W.pA (f:=131) (first:=[]) (cap:=[.ptr (H.next+4) 0 0]) (by show E 17=_;exact e17) (uY d (by have:=hf.nodes.1;omega) hf.decs (H.next+4))
  (fun k Hx=>S Hx/\Hx.get (H.next+2)=some (.arr 0 42 [.lit (.int .i64 0)])/\Hx.get (H.next+3)=some (.arr 0 3 [.lit (.int .i64 k)])/\∀ j v x,j<k->(aE d)[j]?=some v->d.nodes[v]?=some x->∃ l,p[j]?=some l/\l.length=bF d.nodes x/\∀ a∈l,0<=a/\a<x.card)
  (fun c Hx=>c=.ret/\S Hx/\Hx.get (H.next+2)=some (.arr 0 42 [.lit (.int .i64 201)])/\¬ PolOk d p)
  (fun k Hx h=>by rw[h.1.2 _ (by omega) (by omega) (by omega)];exact hbx)
  (fun k Hx b h=>⟨⟨h.1.1,fun id h1 h2 h3=>by rw[aj,if_neg (by omega)];exact h.1.2 id h1 h2 h3⟩,by rw[aj,if_neg (by omega)];exact h.2.1,by rw[aj,if_neg (by omega)];exact h.2.2.1,h.2.2.2⟩)
  (fun c Hx b h=>⟨h.1,⟨h.2.1.1,fun id h1 h2 h3=>by rw[aj,if_neg (by omega)];exact h.2.1.2 id h1 h2 h3⟩,by rw[aj,if_neg (by omega)];exact h.2.2.1,h.2.2.2⟩)
  (fun b=>⟨⟨by rw[aY];omega,fun id h1 h2 h3=>bE h1⟩,by rw[bE (by omega),o2.old _ (by omega)];exact g3,by rw[bE (by omega)];exact g6,fun j v x h=>absurd h (Nat.not_lt_zero _)⟩)
  (by decide) uX (fun _ _ _=>trivial) (fun _ _ _=>trivial) (fun k y Hx B Bb hy hj hn hB hBb=>?_) (fun Hx hj hn=>?_) (fun Hx hs hn=>?_) (fun i Hx hs hn=>by cases hs.1)
 ·obtain⟨v,hv,rfl⟩:=sC hy;obtain⟨v1,v2,v3⟩:=kH hv;obtain⟨x,hx⟩:=get_of_lt (l:=d.nodes) (i:=v) v1;obtain⟨x1,x2⟩:=hR.dec v x hx v2;refine af _ _ _ (by rfl) ?_;simp only[go_sem,gX,bh,jr,List.foldl_cons,List.foldl_nil,List.zip_cons_cons,List.zip_nil_right,hB];obtain⟨H3,hH3⟩:∃ H3,H3=Hx.upd H2.next Bb:=⟨_,rfl⟩
  rw[<- hH3];obtain⟨st,pd,n',en,ps',as',bo,hBe⟩:=hBb;have n3:H3.next=Hx.next:=by rw[hH3];rfl
  have o3:∀ id,id≠H2.next->H3.get id=Hx.get id:=fun id h=>by rw[hH3,aj,if_neg h]
  have jB:H3.get H2.next=some Bb:=by rw[hH3,aj,if_pos rfl]
  have hS3:S H3:=⟨by rw[n3];exact hj.1.1,fun id h1 h2 h3=>(o3 id (by omega)).trans (hj.1.2 id h1 h2 h3)⟩
  have j1:=ag ((hS3.2 _ (by omega) (by omega) (by omega)).trans ((o2.old _ (by omega)).trans g1));have j2:=ag ((hS3.2 _ (by omega) (by omega) (by omega)).trans ((o2.old _ (by omega)).trans g2));have j4:=ag ((o3 _ (by omega)).trans hj.2.1);have j6:=ag ((o3 _ (by omega)).trans hj.2.2.1);unfold cw at j1;have ps:=lU hR.n1.2 x2 hR.card;have hin:fO x.parents d.nodes.length:=fun q hq=>by have:=x2.2 q hq;omega
  have hpp:1<=az (aQ d.nodes x):=fI fun c hc=>(mM hin hR.card c hc).1;have hpb:=ps.prod;have hrn:((bF d.nodes x:Nat):Int)=az (aQ d.nodes x):=by unfold bF;omega
  have hvn:(v:Int)<d.nodes.length:=by omega
  have hne:=eA hx;have ec:=jf hx;have hkl:=get_lt hv;have hk8:k<8:=by
   have h1:=jg (D:=d.decs) (n:=d.nodes.length);have h2:=hR.n1.2;have h3:k<(dX d.decs d.nodes.length).length:=hkl;omega
  refine W.env fun E1 hE1=>?_;have m2:E1 2=.ptr H.next 0 0:=by rw[hE1];simp only[go_sem,bh,e2]
  have m3:E1 3=.ptr (H.next+1) 0 0:=by rw[hE1];simp only[go_sem,bh,e3]
  have m4:E1 4=.ptr (H.next+2) 0 0:=by rw[hE1];simp only[go_sem,bh,e4]
  have m6:E1 6=.ptr (H.next+3) 0 0:=by rw[hE1];simp only[go_sem,bh,e6]
  have m7:E1 7=aa k:=by rw[hE1];simp only[go_sem,bh]
  have m8:E1 8=aa v:=by rw[hE1];simp only[go_sem,bh]
  clear hE1;have stop:¬ PolOk d p->(H3.upd (H.next+2) (Blk.arr 0 42 [.lit (.int .i64 201)])).get H2.next=some Bb/\Hx.next<=(H3.upd (H.next+2) (Blk.arr 0 42 [.lit (.int .i64 201)])).next/\S (H3.upd (H.next+2) (Blk.arr 0 42 [.lit (.int .i64 201)])) /\
    (H3.upd (H.next+2) (Blk.arr 0 42 [.lit (.int .i64 201)])).get (H.next+2)=some (.arr 0 42 [.lit (.int .i64 201)])/\¬ PolOk d p:=fun h =>
   ⟨by rw[aj,if_neg (by omega)];exact jB,by rw[aG];omega,⟨by rw[aG];exact hS3.1,fun id h1 h2 h3=>by rw[aj,if_neg h3];exact hS3.2 id h1 h2 h3⟩,by rw[aj,if_pos rfl],h⟩
  refine af _ _ _ (by rfl) ?_;simp only[go_sem];refine W.draw 14 [0,0,2,7,15,31,31,127,255,511,31,1055,31,7199] Tryz.mixed (by kernel_rfl) (by kernel_rfl) ?_;by_cases c1:(k:Int) >= p.length
  ·simp only[go_sem,m3,m4,m7,j2,j4,c1,aA,eE];exact stop fun h=>by have:=h.len;omega
  obtain⟨l,hl⟩:=get_of_lt (l:=p) (i:=k) (by omega);have hlm:=List.mem_of_getElem? hl;have hlne:=aL hl;have hkp:(k:Int)<p.length:=by omega
  have hll:=hp.2 l hlm;simp only[go_sem,m2,m3,m7,m8,j1,j2,c1,hkp,hl,hlne,aA];refine⟨.lit (.int .i64 (bF d.nodes x:Nat)),[],bX.pure fun H2=>vm d.nodes v x hx hin ps H2 _ ⟨by rw[hrn];rfl,rfl⟩,?_⟩;by_cases c2:(l.length:Int)=bF d.nodes x;rotate_left
  ·simp only[go_sem,c2,m4,j4,eE];exact stop fun h=>c2 (by have:=(h.row k v x l hv hx hl).1;omega)
  simp only[go_sem,c2,m3,m7,j2,hkp,hl,hlne,aA];refine W.aK 288228177128457216 (by rfl) (fun ρ2 H4=>H4=H3/\∃ i:Nat,ρ2 41=aa i/\i<=l.length/\∀ a∈l.take i,0<=a/\a<x.card) (fun ρ2 H=>l.length - (iv (ρ2 41)).toNat) ?_ ?_
  ·simp only[go_sem];exact⟨0,rfl,by omega,by simp⟩
  rintro ρ2 H4 ⟨rfl,i,h41,hi,hw⟩;refine af _ _ _ (by rfl) ?_;by_cases hb2:(i:Int)<l.length<;>have hb2':=hb2<;>rw[c2]at hb2'
  ·obtain⟨a,ha⟩:=get_of_lt (l:=l) (i:=i) (by omega);have ham:=List.mem_of_getElem? ha;have hane:=aL ha;by_cases d1:a<0
   ·simp only[go_sem,h41,hb2,hb2',ha,hane,d1,m4,j4,eE];exact stop fun h=>by have:=(h.row k v x l hv hx hl).2 a ham;omega
   by_cases d2:a >= x.card
   ·simp only[go_sem,h41,hb2,hb2',ha,hane,d1,d2,m2,m4,m8,j1,j4,hvn,hne,ec,eE];exact stop fun h=>by have:=(h.row k v x l hv hx hl).2 a ham;omega
   have w1:=IntWalk.i64_in ((i:Int)+1) (by omega);simp only[go_sem,h41,hb2,hb2',ha,hane,d1,d2,w1,m2,m8,j1,hvn,hne,ec];refine⟨⟨_,_,_,_,_,_,_,by rw[jB,hBe]⟩,⟨i+1,by simp,by omega,fun w hw'=>?_⟩,by omega⟩;rw[aT ha]at hw';rcases List.mem_append.1 hw' with hw'|hw'
   ·exact hw w hw'
   ·obtain rfl:=List.mem_singleton.1 hw';exact⟨by omega,by omega⟩
  ·rw[List.take_of_length_le (by omega)]at hw;have w1:=IntWalk.i64_in ((k:Int)+1) (by omega);simp only[go_sem,h41,hb2',m6,j6,w1,eE];refine⟨by rw[aj,if_neg (by omega)];exact jB,by rw[aG];omega,⟨by rw[aG];exact hS3.1,fun id h1 h2 h3=>by rw[aj,if_neg h2];exact hS3.2 id h1 h2 h3⟩,by rw[aj,if_neg (by omega),o3 _ (by omega)];exact hj.2.1,by rw[aj,if_pos rfl];simp,fun j u z hj2 hu hz=>?_⟩;rcases Nat.lt_or_ge j k with hjk|hjk
   ·exact hj.2.2.2 j u z hjk hu hz
   ·obtain rfl:j=k:=(by omega);rw[hv]at hu;cases hu;rw[hx]at hz;cases hz;exact⟨l,hl,by omega,hw⟩
 ·rw[sD]at hj;have j2:=ag ((hj.1.2 _ (by omega) (by omega) (by omega)).trans ((o2.old _ (by omega)).trans g2));have j4:=ag hj.2.1;have j6:=ag hj.2.2.1;by_cases c3:(p.length:Int)=(aE d).length;rotate_left
  ·simp only[go_sem,e3,e4,e6,j2,j4,j6,c3,aA];exact no (fun h=>c3 (by have:=h.len;omega)) _ ((ovS hj.1).upd (by omega) _)
  have hpo:PolOk d p:=⟨by omega,fun k v x l h1 h2 h3=>by
   obtain⟨l',h4,h5⟩:=hj.2.2.2 k v x (get_lt h1) h1 h2;rw[h3]at h4;cases h4;exact h5⟩
  simp only[go_sem,e3,e4,e6,j2,j4,j6,c3,aA];unfold eC at hK;rw[eM hok,eM hpo]at hK;exact ar.bB aI hcl ((ovS hj.1).upd (by omega) _) (.lit _) hK
 ·obtain⟨_,hS,h4,hno⟩:=hs;have j4:=ag h4;simp only[go_sem,e4,j4];exact no hno _ (ovS hS)
def fixC (p:List (List Int))(k r:Nat):Int:=(p.getD k []).getD r 0
theorem Pg (p:List (List Int))(k r b:Nat)(l:List Int)(a:Int)(hl:p[k]?=some l)(ha:l[r]?=some a)(H:AHeap)(hb:H.get b=some (.arr 0 33 [aA p]))(K:ARes->AHeap->Prop)(hK:K (.ret (.lit (.int .i64 a))) H):
  ae Tryz.prog G0 121 [.lit (.int .i64 k),.lit (.int .i64 r),.ptr b 0 0] H K:=by
 have l0:=ag hb;have h1:(k:Int)<p.length:=by have:=get_lt hl;omega
 have h2:(r:Int)<l.length:=by have:=get_lt ha;omega
 have n1:=aL hl;have n2:=aL ha;refine ae.aP (n:=13) (rs:=[.tmp 5]) Tryz.func121 rfl rfl rfl (by decide) (by kernel_rfl) (by simp) ?_;simp only[go_sem,l0,aA,h1,h2,hl,ha,n1,n2];exact ar.mk (Nat.le_refl _) hK
theorem Ph (p:List (List Int))(k r b:Nat)(l:List Int)(a:Int)(hl:p[k]?=some l)(ha:l[r]?=some a)(H:AHeap)(hlt:b<H.next)(hb:H.get b=some (.arr 0 33 [aA p])):
  bX Tryz.prog G0 (.clo 121 [] [.ptr b 0 0]) [.lit (.int .i64 k),.lit (.int .i64 r)] H (.lit (.int .i64 a)) [b] :=
 bX.mk (fun i hi=>by obtain rfl:=List.mem_singleton.1 hi;exact hlt) fun H2 h2 _=>Pg p k r b l a hl ha H2 ((h2 b (by simp)).trans hb) _ ⟨rfl,rfl⟩
theorem C8 {d:InfP}{p:List (List Int)}(h:PolOk d p){k v r:Nat}{x:NodeP}(hv:(aE d)[k]?=some v)(hx:d.nodes[v]?=some x)(hr:r<bF d.nodes x):
  ∃ l a,p[k]?=some l/\l[r]?=some a/\fixC p k r=a/\0<=a/\a<x.card:=by
 obtain⟨l,hl⟩:=get_of_lt (l:=p) (i:=k) (by rw[h.len];exact get_lt hv);obtain⟨h1,h2⟩:=h.row k v x l hv hx hl;obtain⟨a,ha⟩:=get_of_lt (l:=l) (i:=r) (by omega);exact⟨l,a,hl,ha,by unfold fixC;rw[bI hl,bI ha],h2 a (List.mem_of_getElem? ha)⟩
def sK:AVal:=.agg [.lit (.int .i64 0),.vec 0 []]
noncomputable def sL (d:InfP)(p:List (List Int)):AVal:=if eC d p=0 then da d.grain (bY d (fixC p)) else sK
theorem yT {d:InfP}{p:List (List Int)}:eC d p=0↔InfOk d/\PolOk d p:=by
 unfold eC;by_cases h1:InfOk d
 ·by_cases h2:PolOk d p
  ·rw[eM h1,eM h2];exact⟨fun _=>⟨h1,h2⟩,fun _=>rfl⟩
  ·rw[eM h1,jE h2];exact⟨fun h=>by simp at h,fun h=>absurd h.2 h2⟩
 ·rw[jE h1];exact⟨fun h=>by simp at h,fun h=>absurd h.1 h1⟩
theorem Pi (d:InfP)(hf:InfFit d)(p:List (List Int))(hp:po p)(H:AHeap)(K:ARes->AHeap->Prop)(hK:K (.ret (.tup [sL d p,aa (eC d p)])) H):ae Tryz.prog G0 80 [dW d,aA p] H K:=by
 refine ae.clo ⟨_,Tryz.func80,rfl,rfl⟩ fun hcl=>?_;refine ae.aP (n:=17) (rs:=[.cell 4 103,.tmp 5]) Tryz.func80 rfl rfl rfl (by decide) (by kernel_rfl) (by simp) ?_;simp only[go_sem,iA,cw];obtain⟨H1,hH1⟩:∃ H1,H1=ext H [.arr 0 38 [.lit (.int .i64 d.grain),.vec d.nodes.length (aB d.nodes),.lit (.int .u64 (d.decs:Int)),.vec d.utils.length (aS d.utils)],.arr 0 33 [aA p],.arr 0 103 [.lit (.int .i64 0),.lit (.slice none 0 0)]]:=⟨_,rfl⟩
 have g1:H1.get H.next=some (.arr 0 38 [.lit (.int .i64 d.grain),.vec d.nodes.length (aB d.nodes),.lit (.int .u64 (d.decs:Int)),.vec d.utils.length (aS d.utils)]):=by rw[hH1];exact bR ..
 have g2:H1.get (H.next+1)=some (.arr 0 33 [aA p]):=by rw[hH1];exact aZ H _ 1 (by simp)
 have g3:H1.get (H.next+2)=some (.arr 0 103 [.lit (.int .i64 0),.lit (.slice none 0 0)]):=by rw[hH1];exact aZ H _ 2 (by simp)
 have l1:=ag g1;have l2:=ag g2;have l3:=ag g3;have n1:H1.next=H.next+3:=by rw[hH1];rfl
 have o1:Over H H1:=by rw[hH1];exact .ext _ _
 rw[<- hH1];refine ay.clo (yS d hf p hp _ _ ⟨trivial,?_⟩);by_cases hz:eC d p=0;rotate_left
 ·have hcell:(AVal.lit (.int .i64 (eC d p))).cells=[.lit (.int .i64 (eC d p))]:=rfl;simp only[go_sem,hz,l3];have ef:sL d p=sK:=if_neg hz;rw[ef]at hK;refine ar.bB (v':=.tup [sK,aa (eC d p)]) aI hcl (o1.upd (by omega) _) (.tup rfl fun i hi _=>?_) hK
  match i,hi with
  | 0,_ =>
   refine .agg rfl fun i hi _=>?_
   match i,hi with
   | 0,_=>exact .lit _
   | 1,_=>exact .nil
  | 1,_=>exact .lit _
 obtain⟨hok,hpo⟩:=yT.1 hz;rw[hz]at hK ⊢;simp only[go_sem,l1];refine ay.clo (C6 d hf hok.n (fixC p) _ [H.next+1] _ (fun i hi=>by obtain rfl:=List.mem_singleton.1 hi;omega) rfl rfl (fun k r v x H2 hv hx hr ov=>?_) _ ⟨trivial,?_⟩)
 ·obtain⟨l,a,hl,ha,he,hb⟩:=C8 hpo hv hx hr;rw[he];exact⟨hb,Ph p k r (H.next+1) l a hl ha H2 (by have:=ov.next;omega) ((ov.old _ (by omega)).trans g2)⟩
 ·simp only[go_sem,l3,da,dB];have ef:sL d p=da d.grain (bY d (fixC p)):=if_pos hz;rw[ef]at hK;refine ar.bB (v':=.tup [da d.grain (bY d (fixC p)),aa 0]) aI hcl (o1.upd (by omega) _) (.tup rfl fun i hi _=>?_) hK
  match i,hi with
  | 0,_ =>
   refine .agg rfl fun i hi _=>?_
   match i,hi with
   | 0,_=>exact .lit _
   | 1,_=>exact qR _
  | 1,_=>exact .lit _
end Go.Proofs
namespace Go.Hx
variable {P:Program} {G:Nat->Option (List AVal)} {n:Nat} {rd:Option Nat} {Q:AX->St->Prop}
def vX (N:Nat)(H1 H2:AHeap):Prop:=H1.next<=H2.next/\∀ id,id≠N->id<H1.next->H2.get id=H1.get id
def D8 (P:Program)(G:Nat->Option (List AVal))(f:FuncId)(first cap:List AVal)(xs:List (List AVal))(N:Nat)(S0:AHeap->Prop)(S:Nat->AHeap->Prop):Prop :=
 ∀ (idy:Nat) (J:Nat->AHeap->Prop) (Stop:AHeap->Prop) (H:AHeap) (K:ARes->AHeap->Prop),H.next=N ->
  (∀ k H1,J k H1->S0 H1)->(∀ k H1 H2,J k H1->vX N H1 H2->J k H2)->J 0 H ->
  (∀ k x H1 K1,xs[k]?=some x->J k H1->S k H1->N<H1.next->(∀ H',J (k+1) H'->S k H'->H1.next<=H'.next->K1 (.ret (.lit (.bool true))) H')->(∀ H',Stop H'->H1.next<=H'.next->K1 (.ret (.lit (.bool false))) H')->ay P G (.yld idy) x H1 K1) ->
  (∀ H',J xs.length H'->N<=H'.next->K (.ret (.tup [])) H') ->
  (∀ H',Stop H'->N<=H'.next->K (.ret (.tup [])) H') ->
  ae P G f (first++[.yld idy]++cap) H K
theorem W.tq {g:Operand}{ps:Array Tmp}{asg body:Code}{ρ:Env}{H:AHeap}{f:FuncId}{first cap:List AVal}{xs:List (List AVal)}{S0:AHeap->Prop}{S:Nat->AHeap->Prop}(hg:aw G ρ g=.clo f first cap)
  (hit:D8 P G f first cap xs (H.next+1) S0 S) (J:Nat->AHeap->Prop) (Stop:AX->AHeap->Prop) (hS:∀ k H1,J k H1->S0 H1) (hJw:∀ k H1 H2,J k H1->vX (H.next+1) H1 H2->J k H2) (hlow:∀ k H1,J k H1->H.next<H1.next)
  (hJu:∀ k H1 b,J k H1->J k (H1.upd H.next b)) (hSu:∀ c H1 b,Stop c H1->Stop c (H1.upd H.next b)) (hSk:∀ k H1 b,S k H1->S k (H1.upd H.next b))
  (hJ0:∀ b,J 0 (ext H [b])) (hps:ps.toList.all (fun t=>decide (t<n))=true) (hxl:∀ x∈xs,x.length=ps.size)
  (hrd:∀ k H1,J k H1->fm H1 rd) (hrd2:∀ c H1,Stop c H1->fm H1 rd)
  (hround:∀ k x H1 B Bb,xs[k]?=some x->J k H1->S k H1->H.next+1<H1.next->H1.get H.next=some B->(∃ st pd n' en ps' as' bo,Bb=Blk.loop st pd n' en ps' as' bo) ->
   W P G n (some H.next) asg (jr P G n H.next B Bb H1.next body (fun H'=>J (k+1) H'/\S k H') Stop) ⟨gX (bh ρ n) (ps.toList.zip x),H1⟩)
  (hend:∀ H',J xs.length H'->H.next+1<=H'.next->Q .normal ⟨ρ,H'⟩)
  (hret:∀ H',Stop .ret H'->H.next+1<=H'.next->Q .ret ⟨ρ,H'⟩) (hexit:∀ i H',Stop (.exit i) H'->H.next+1<=H'.next->Q (.exit i) ⟨ρ,H'⟩):
  W P G n rd (.rangeFunc g ps asg body) Q ⟨ρ,H⟩:=by
 refine W.rangeFunc (s:=⟨ρ,H⟩) hg ⟨_,rM _ _,?_⟩;obtain⟨B,hB⟩:∃ B,B=Blk.loop .ready none n ρ ps asg body:=⟨_,rfl⟩
 obtain⟨Bb,hBb⟩:∃ B,B=Blk.loop .busy none n ρ ps asg body:=⟨_,rfl⟩
 have nx:(ext H [B]).next=H.next+1:=rfl;show ae P G f (first++[.yld H.next]++cap) (ext H [Blk.loop .ready none n ρ ps asg body]) (xx rd Q ρ H.next);rw[<- hB];refine hit H.next (fun k H1=>H1.get H.next=some B/\J k H1) (fun H1=>∃ c pend,H1.get H.next=some (.loop .done (some pend) n ρ ps asg body)/\Stop c H1/\((c=.ret/\pend=.ret)\/∃ i,c=.exit i/\pend=.exit i)) _ _ nx
  (fun k H1 h=>hS k H1 h.2) (fun k H1 H2 h hw=>⟨(hw.2 _ (by omega) (hlow _ _ h.2)).trans h.1,hJw _ _ _ h.2 hw⟩) ⟨bL,hJ0 B⟩ (fun k x H1 K1 hx hj hs hn hgo hst=>?_) (fun H' hj hn=>?_) (fun H' hj hn=>?_)
 ·have hxm:=hxl x (List.mem_of_getElem? hx);refine ay.yld (hj.1.trans (congrArg some hB)) hxm hps ?_;refine(hround k x H1 B Bb hx hj.2 hs hn hj.1 ⟨_,_,_,_,_,_,_,hBb⟩).mono fun e s1 h1=>?_;cases e with
  | normal =>
   obtain⟨a1,a2⟩:=h1;refine⟨Bb,by rw[a1,hB,hBb];rfl,?_⟩;refine a2.mono fun e2 s2 h2=>?_;cases e2 with
   | normal =>
    obtain⟨b1,b2,b3,b4⟩:=h2;exact⟨B,by rw[b1,hB,hBb];rfl,hgo _ ⟨by rw[aj,if_pos rfl],hJu _ _ _ b3⟩ (hSk _ _ _ b4) b2⟩
   | ret =>
    obtain⟨b1,b2,b3⟩:=h2;exact⟨.loop .done (some .ret) n ρ ps asg body,by rw[b1,hBb];rfl,hst _ ⟨.ret,.ret,by rw[aj,if_pos rfl],hSu _ _ _ b3,.inl ⟨rfl,rfl⟩⟩ b2⟩
   | exit i =>
    obtain⟨b1,b2,b3⟩:=h2;exact⟨.loop .done (some (.exit i)) n ρ ps asg body,by rw[b1,hBb];rfl,hst _ ⟨.exit i,.exit i,by rw[aj,if_pos rfl],hSu _ _ _ b3,.inr ⟨i,rfl,rfl⟩⟩ b2⟩
   | _=>exact h2.elim
  | _=>exact h1.elim
 ·refine⟨hrd _ _ hj.2,(none,.loop .exhausted none n ρ ps asg body),by rw[hj.1,hB];rfl,?_⟩;exact hend _ (hJu _ _ _ hj.2) hn
 ·obtain⟨c,pend,h1,h2,h3⟩:=hj;refine⟨hrd2 _ _ h2,(some pend,.loop .exhausted (some pend) n ρ ps asg body),by rw[h1];rfl,?_⟩;rcases h3 with ⟨rfl,rfl⟩|⟨i,rfl,rfl⟩
  ·exact hret _ (hSu _ _ _ h2) hn
  ·exact hexit i _ (hSu _ _ _ h2) hn
end Go.Hx
namespace Go.Proofs
open Go.Hx
theorem Pj:∀ {cs vs:List Int} {k:Nat} {c v:Int},vs.length=cs.length->cs[k]?=some c->vs[k]?=some v->v+1<c->(∀ (j:Nat) (a b:Int),k<j->cs[j]?=some a->vs[j]?=some b->b=a - 1) ->
  kD cs vs=some (vs.take k++(v+1) :: (cs.drop (k+1)).map fun _=>0):=by
 have none_of:∀ {cs vs:List Int},vs.length=cs.length->(∀ (j:Nat) (a b:Int),cs[j]?=some a->vs[j]?=some b->b=a - 1)->kD cs vs=none:=by
  intro cs
  induction cs with
  | nil=>intro vs _ _;cases vs<;>rfl
  | cons c cs ih =>
   intro vs hl h;cases vs with
   | nil=>rfl
   | cons v vs =>
    have h1:=ih (vs:=vs) (by simpa using hl) fun j a b ha hb=>h (j+1) a b (by simpa using ha) (by simpa using hb);have h2:=h 0 c v rfl rfl;simp only[kD,h1];rw[if_neg (by omega)]
 intro cs
 induction cs with
 | nil=>intro vs k c v _ h;simp at h
 | cons x cs ih =>
  intro vs k c v hl hc hv hlt hmax;cases vs with
  | nil=>simp at hv
  | cons y vs =>
   cases k with
   | zero =>
    simp only[List.getElem?_cons_zero,Option.some.injEq]at hc hv;subst hc;subst hv;have h1:=none_of (cs:=cs) (vs:=vs) (by simpa using hl) fun j a b ha hb=>hmax (j+1) a b (by omega) (by simpa using ha) (by simpa using hb);simp only[kD,h1];rw[if_pos hlt];simp
   | succ k =>
    have h1:=ih (vs:=vs) (k:=k) (by simpa using hl) (by simpa using hc) (by simpa using hv) hlt fun j a b hj ha hb=>hmax (j+1) a b (by omega) (by simpa using ha) (by simpa using hb);simp only[kD,h1];simp
theorem Pk:∀ {cs vs:List Int},vs.length=cs.length->(∀ (j:Nat) (a b:Int),cs[j]?=some a->vs[j]?=some b->b=a - 1)->kD cs vs=none:=by
 intro cs
 induction cs with
 | nil=>intro vs _ _;cases vs<;>rfl
 | cons c cs ih =>
  intro vs hl h;cases vs with
  | nil=>rfl
  | cons v vs =>
   have h1:=ih (vs:=vs) (by simpa using hl) fun j a b ha hb=>h (j+1) a b (by simpa using ha) (by simpa using hb);have h2:=h 0 c v rfl rfl;simp only[kD,h1];rw[if_neg (by omega)]
def lQ (cards:List Int)(N:Nat):List (List AVal):=(List.range (az cards).toNat).map fun (i:Nat)=>[aa (i:Int),.own N 0 0 cards.length 1]
theorem lS {cards:List Int}{N k:Nat}{x:List AVal}(h:(lQ cards N)[k]?=some x):k<(az cards).toNat/\x=[aa k,.own N 0 0 cards.length 1]:=by
 unfold lQ at h;rw[List.getElem?_map]at h;have hk:k<(az cards).toNat:=by
  rcases Nat.lt_or_ge k (az cards).toNat with h1|h1
  ·exact h1
  ·rw[List.getElem?_eq_none (by simpa using h1)]at h;simp at h
 rw[List.getElem?_range hk]at h;simp at h;exact⟨hk,h.symm⟩
theorem Pl {cards:List Int}{N k:Nat}(h:k<(az cards).toNat):(lQ cards N)[k]?=some [aa k,.own N 0 0 cards.length 1]:=by
 unfold lQ;rw[List.getElem?_map,List.getElem?_range h];rfl
theorem qO (cards:List Int)(N:Nat):(lQ cards N).length=(az cards).toNat:=by simp [lQ]
def kQ (cards:List Int)(N k:Nat)(H:AHeap):Prop:=H.get N=some (.arr 0 3 (ints (bQ cards k)))
set_option maxHeartbeats 1000000 in
theorem sM (cards:List Int)(hc1:∀ c∈cards,1<=c)(hs:dS cards)(b N:Nat)(hbN:b<N):
  D8 Tryz.prog G0 143 [] [.ptr b 0 0] (lQ cards N) N (fun H=>H.get b=some (.arr 0 46 [ah cards])) (kQ cards N):=by
 intro idy J Stop H K hN hS0 hJw hJ0 hY hK hSt;have l0:=ag (hS0 0 H hJ0);have h12:=hs.1;have hpp:=hs.prod;have hp1:=fI hc1;show ae _ _ _ ([.yld idy]++[.ptr b 0 0]) _ _;refine ae.aP (n:=45) (rs:=[]) Tryz.func143 rfl rfl rfl (by decide) (by kernel_rfl) (by simp) ?_;simp only[go_sem,l0];refine⟨by omega,?_⟩;have fitI:∀ i:Nat,bV cards (bQ cards i):=fun i=>qp hc1 _;have idxI:∀ i:Nat,i<(az cards).toNat->bP cards (bQ cards i)=i:=fun i hi=>xV hc1 (by omega) (by omega);subst hN;refine W.aK 35184372088368 (by rfl) (fun ρ H'=>∃ i:Nat,ρ 4=aa i/\i<(az cards).toNat/\J i H'/\kQ cards H.next i H'/\H.next+1<=H'.next) (fun ρ H=>(az cards).toNat - (iv (ρ 4)).toNat) ?_ ?_
 ·simp only[go_sem];refine⟨0,rfl,by omega,hJw 0 H _ hJ0 ⟨by rw[aY];omega,fun id _ h=>dD _ _ _ h⟩,?_⟩;show (ext H _).get H.next=_;rw[bR];have:bQ cards ((0:Nat):Int)=List.replicate cards.length 0:=by
   rw[show ((0:Nat):Int)=0 from rfl,Bt hc1];exact List.map_const' ..
  rw[this];simp [ints,aa]
 rintro ρ H' ⟨i,h4,hi,hj,hcs,hn⟩;refine W.env fun E hE=>?_;have e1:E 1=.ptr b 0 0:=by rw[hE];simp only[go_sem]
 have e0:E 0=.yld idy:=by rw[hE];simp only[go_sem]
 have e3:E 3=.own H.next 0 0 cards.length 1:=by rw[hE];simp only[go_sem]
 have e4:E 4=aa i:=by rw[hE];simp only[go_sem,h4]
 clear hE;refine af _ _ _ (by rfl) ?_;simp only[go_sem,e0,e3,e4];refine hY i [aa i,.own H.next 0 0 cards.length 1] H' _ (Pl hi) hj hcs (by omega) (fun H2 hj2 hcs2 hn2=>⟨trivial,?_⟩) (fun H2 hs2 hn2=>⟨trivial,?_⟩);rotate_left
 ·simp only[go_sem];exact ar.mk (by omega) (hSt H2 hs2 (by omega))
 have hb2:=hS0 _ _ hj2;have lb:=ag hb2;have w0:=IntWalk.i64_in ((cards.length:Int) - 1) (by omega);obtain⟨vs,hvs⟩:∃ vs,vs=bQ cards i:=⟨_,rfl⟩
 have hvl:vs.length=cards.length:=by rw[hvs,uy]
 have hfit:bV cards vs:=by rw[hvs];exact fitI i
 have hsucc:=MS hfit;rw[show bP cards vs=i from by rw[hvs];exact idxI i hi]at hsucc;simp only[go_sem,e1,lb,w0];refine W.aK 137438691360 (by rfl) (fun ρ2 H4=>∃ m:Nat,ρ2 5=aa ((m:Int) - 1)/\m<=cards.length/\vX H.next H2 H4/\H4.get H.next=some (.arr 0 3 (ints (vs.take m++(cards.drop m).map fun _=>0)))/\(∀ (j:Nat) (a b:Int),m<=j->cards[j]?=some a->vs[j]?=some b->b=a - 1))
  (fun ρ2 H=>(iv (ρ2 5)+1).toNat) ?_ ?_
 ·simp only[go_sem];refine⟨cards.length,rfl,by omega,⟨Nat.le_refl _,fun _ _ _=>rfl⟩,?_,fun j a b hm ha=>?_⟩
  ·have hg:H2.get H.next=_:=hcs2;rw[<- hvs]at hg;rw[hg,List.take_of_length_le (by omega),List.drop_of_length_le (by omega)];simp
  ·have:=get_lt ha;omega
 rintro ρ2 H4 ⟨m,h5,hm,hw,hg,hmax⟩;refine W.env fun E2 hE2=>?_;have f1:E2 1=.ptr b 0 0:=by rw[hE2];simp only[go_sem,e1]
 have f3:E2 3=.own H.next 0 0 cards.length 1:=by rw[hE2];simp only[go_sem,e3]
 have f4:E2 4=aa i:=by rw[hE2];simp only[go_sem,e4]
 have f5:E2 5=aa ((m:Int) - 1):=by rw[hE2];simp only[go_sem,h5]
 clear hE2;refine af _ _ _ (by rfl) ?_;have hw1:=hw.1;have lN:=ag hg;have lb4:=ag ((hw.2 b (by omega) (by omega)).trans hb2);have hj4:J (i+1) H4:=hJw _ _ _ hj2 hw;have clen:(vs.take m++(cards.drop m).map fun _=>(0:Int)).length=cards.length:=by simp;omega
 by_cases hm0:m=0
 ·subst hm0;have f5':E2 5=aa (-1):=f5;have hnone:=Pk hvl fun j a b ha hb=>hmax j a b (Nat.zero_le _) ha hb;rw[hnone]at hsucc;have htot:¬ (i:Int)+1<az cards:=fun h=>by rw[if_pos h]at hsucc;cases hsucc
  have hti:i+1=(lQ cards H.next).length:=by rw[qO];omega
  simp only[go_sem];refine W.draw 12 [0,1,3,7,7,31,63,7,7,391,903,1927] Tryz.mixed (by kernel_rfl) (by kernel_rfl) ?_;simp only[go_sem,f5'];exact ar.mk (by omega) (hK H4 (by rw[<- hti];exact hj4) (by omega))
 obtain⟨k,rfl⟩:∃ k,m=k+1:=⟨m - 1,by omega⟩
 have f5':E2 5=aa k:=by rw[f5];congr 1;omega
 obtain⟨c,hck⟩:=get_of_lt (l:=cards) (i:=k) (by omega);obtain⟨v,hvk⟩:=get_of_lt (l:=vs) (i:=k) (by omega);have hne:=aL hck;have hr:=hfit.2 k c v hck hvk;have hcs8:=hs.2 c (List.mem_of_getElem? hck);have hvk':(vs.take (k+1)++(cards.drop (k+1)).map fun _=>(0:Int))[k]?=some v:=by
  rw[List.getElem?_append_left (by simp;omega),List.getElem?_take_of_lt (by omega)];exact hvk
 have hk0:(k:Int) >= 0:=by omega
 have hkc:(k:Int)<cards.length:=by omega
 have w1:=IntWalk.i64_in (c - 1) (by omega);have w2:=IntWalk.i64_in ((k:Int) - 1) (by omega);have w3:=IntWalk.i64_in (v+1) (by omega);have w4:=IntWalk.i64_in ((i:Int)+1) (by omega);have hk1:¬ (k:Int)<0:=by omega
 by_cases hv:v=c - 1
 ·simp only[go_sem];refine W.draw 12 [0,1,3,7,7,31,63,7,7,391,903,1927] Tryz.mixed (by kernel_rfl) (by kernel_rfl) ?_;simp only[go_sem,f1,f3,f5',hk0,hkc,lN,lb4,hvk',hck,hne,w1,w2,hv];refine⟨by rw[<- List.length_append,clen];omega,by rw[aG];omega,⟨k,rfl,by omega,⟨by rw[aG];exact hw.1,fun id h1 h2=>by rw[aj,if_neg h1];exact hw.2 id h1 h2⟩,?_,fun j a b hj ha hb=>?_⟩,?_⟩
  ·rw[aj,if_pos rfl,fV (by rw[clen];omega)];congr 3;rw[aT hvk,List.append_assoc,List.set_append_right _ _ (by simp;omega),MP hck];simp;rw[show k - min k vs.length=0 by omega];rfl
  ·rcases Nat.lt_or_ge k j with h|h
   ·exact hmax j a b (by omega) ha hb
   ·obtain rfl:j=k:=(by omega);rw[hck]at ha;rw[hvk]at hb;cases ha;cases hb;exact hv
  ·rw[h5];simp only[aa,aU];omega
 ·simp only[go_sem];refine W.draw 12 [0,1,3,7,7,31,63,7,7,391,903,1927] Tryz.mixed (by kernel_rfl) (by kernel_rfl) ?_;simp only[go_sem,f1,f3,f4,f5',hk0,hk1,hkc,lN,lb4,hvk',hck,hne,w1,w3,w4,hv];have hat:=Pj hvl hck hvk (by omega) fun j a b hj ha hb=>hmax j a b (by omega) ha hb;rw[hat]at hsucc;have hlt:(i:Int)+1<az cards:=by
   refine Classical.byContradiction fun h=>?_;rw[if_neg h]at hsucc;cases hsucc
  rw[if_pos hlt]at hsucc;have hw5:vX H.next H2 (H4.upd H.next (.arr 0 3 (setAt (ints (vs.take (k+1)++(cards.drop (k+1)).map fun _=>(0:Int))) k [.lit (.int .i64 (v+1))]))):=⟨by rw[aG];exact hw.1,fun id h1 h2=>by rw[aj,if_neg h1];exact hw.2 id h1 h2⟩
  refine⟨by rw[<- List.length_append,clen];omega,by rw[aG];omega,⟨i+1,by simp,by omega,hJw _ _ _ hj2 hw5,?_,by rw[aG];omega⟩,?_⟩
  ·show (H4.upd H.next _).get H.next=_;rw[aj,if_pos rfl,fV (by rw[clen];omega)];congr 3;have e:bQ cards ((i+1:Nat):Int)=vs.take k++(v+1) :: (cards.drop (k+1)).map fun _=>0:=by
    have:=Option.some.inj hsucc;rw[show ((i+1:Nat):Int)=(i:Int)+1 by omega];exact this.symm
   rw[e,aT hvk,List.append_assoc,List.set_append_right _ _ (by simp;omega)];simp;rw[show k - min k vs.length=0 by omega];rfl
  ·rw[h4];simp only[aa,aU];omega
theorem sN (cards:List Int)(H:AHeap)(K:ARes->AHeap->Prop)(hK:K (.ret (.clo 143 [] [.ptr H.next 0 0])) (ext H [.arr 0 46 [ah cards]])):
  ae Tryz.prog G0 118 [ah cards] H K:=by
 refine ae.aP (n:=4) (rs:=[.tmp 2]) Tryz.func118 rfl rfl rfl (by decide) (by kernel_rfl) (by simp) ?_;simp only[go_sem];exact ar.mk (by simp [aY]) hK
def nN (ns:List NodeP)(x:NodeP)(vals:List Int):List Int:=x.rows.getD (bP (aQ ns x) (aH vals x.parents)).toNat []
def lH (ns:List NodeP)(vals:List Int)(v:Nat):Int:=match ns[v]? with
 | some x=>(nN ns x vals).getD (vals.getD v 0).toNat 0
 | none=>1
def fU (ns:List NodeP)(vals:List Int):List Int:=(List.range ns.length).map (lH ns vals)
def weight (ns:List NodeP)(vals:List Int):Int:=az (fU ns vals)
def bH (ns:List NodeP):Nat:=(az (ak ns)).toNat
def eY (ns:List NodeP):List Int:=(List.range (bH ns)).map fun (i:Nat)=>weight ns (bQ (ak ns) (i:Int))
def mu (ns:List NodeP)(vals:List Int)(u:UtilP):Int:=u.w.getD (bP (aH (ak ns) u.vars) (aH vals u.vars)).toNat 0
def bM (ns:List NodeP)(us:List UtilP)(vals:List Int):Int:=(us.map (mu ns vals)).sum
def gY (ns:List NodeP)(us:List UtilP)(k:Nat):Int:=((List.range k).map fun (i:Nat)=>weight ns (bQ (ak ns) i)*bM ns us (bQ (ak ns) i)).sum
theorem BC (ns:List NodeP)(us:List UtilP)(k:Nat):gY ns us (k+1)=gY ns us k+weight ns (bQ (ak ns) k)*bM ns us (bQ (ak ns) k):=by
 unfold gY;rw[List.range_succ];simp
theorem uC (ns:List NodeP)(vals:List Int):(fU ns vals).length=ns.length:=by simp [fU]
theorem BD {ns:List NodeP}{vals:List Int}{v:Nat}(h:v<ns.length):(fU ns vals)[v]?=some (lH ns vals v):=by
 unfold fU;rw[List.getElem?_map,List.getElem?_range h];rfl
theorem qP {ns:List NodeP}{x:NodeP}{vals:List Int}(hin:fO x.parents ns.length)(hf:bV (ak ns) vals):bV (aQ ns x) (aH vals x.parents):=by
 refine⟨by unfold aQ;rw[gL,gL],fun k c v h1 h2=>?_⟩;obtain⟨q,hq⟩:=get_of_lt (l:=x.parents) (i:=k) (by have:=get_lt h2;rw[gL]at this;exact this);obtain⟨j,rfl,y,hy⟩:=mo (l:=ns) (hin q (List.mem_of_getElem? hq)).1 (hin q (List.mem_of_getElem? hq)).2;obtain⟨b,hb⟩:=get_of_lt (l:=vals) (i:=j) (by rw[hf.1,dc];exact get_lt hy);have e1:(aQ ns x)[k]?=some y.card:=by rw[show (aQ ns x)[k]?=_ from jF hq,Int.toNat_natCast,bI (cU hy)]
 have e2:(aH vals x.parents)[k]?=some b:=by rw[jF hq,Int.toNat_natCast,bI hb]
 rw[h1]at e1;rw[h2]at e2;cases e1;cases e2;exact hf.2 j y.card _ (cU hy) hb
structure RowAtW (g:Int)(ns:List NodeP)(x:NodeP)(vals:List Int)(v:Nat)(i:Nat)(r:List Int)(a w:Int):Prop where
 idx:bP (aQ ns x) (aH vals x.parents)=i
 row:x.rows[i]?=some r
 val:vals[v]?=some a
 a0:0<=a
 hw:r[a.toNat]?=some w
 wb:0<=w/\w<=g
 eq:lH ns vals v=w
 rv:nN ns x vals=r
 len:(r.length:Int)=x.card
 al:a<r.length
theorem vj {g:Int}{ns:List NodeP}(h:NetOk g ns){v:Nat}{x:NodeP}(hx:ns[v]?=some x){vals:List Int}(hf:bV (ak ns) vals):∃ i r a w,RowAtW g ns x vals v i r a w:=by
 have hxm:=List.mem_of_getElem? hx;have hin:fO x.parents ns.length:=fun q hq=>by have:=(h.node x hxm).2.2 q hq;omega
 have hr:=mq (qP hin hf);obtain⟨r1,r2⟩:=h.rows x hxm;obtain⟨i,hi⟩:=Int.eq_ofNat_of_zero_le hr.1;obtain⟨r,hrr⟩:=get_of_lt (l:=x.rows) (i:=i) (by rw[<- r1,hi]at hr;omega);obtain⟨s1,s2,s3⟩:=r2 r (List.mem_of_getElem? hrr);obtain⟨a,ha⟩:=get_of_lt (l:=vals) (i:=v) (by rw[hf.1,dc];exact get_lt hx);have hb:=hf.2 v x.card a (cU hx) ha;obtain⟨w,hw⟩:=get_of_lt (l:=r) (i:=a.toNat) (by omega);have rv:nN ns x vals=r:=by unfold nN;rw[hi,Int.toNat_natCast,bI hrr]
 exact⟨i,r,a,w,hi,hrr,ha,hb.1,hw,s2 w (List.mem_of_getElem? hw),by unfold lH;rw[hx];simp only;rw[rv,bI ha,bI hw],rv,s1,by omega⟩
theorem sO (k:Nat)(h:k<=8):(60:Int) ^ k<=167961600000000:=by
 have h1:(60:Nat) ^ k<=60 ^ 8:=Nat.pow_le_pow_right (by decide) h;have h2:(60:Nat) ^ 8=167961600000000:=by decide
 rw[h2]at h1;have h3:=Int.ofNat_le.2 h1;rw[Int.natCast_pow]at h3;exact h3
theorem C9 {g:Int}{ns:List NodeP}(h:NetOk g ns){vals:List Int}(hf:bV (ak ns) vals)(k:Nat):0<=az ((fU ns vals).take k)/\az ((fU ns vals).take k)<=167961600000000:=by
 have hb:∀ w∈fU ns vals,0<=w/\w<=60:=fun w hw=>by
  obtain⟨v,hv,rfl⟩:=List.mem_map.1 hw;obtain⟨x,hx⟩:=get_of_lt (List.mem_range.1 hv);obtain⟨i,r,a,w,hR⟩:=vj h hx hf;rw[hR.eq];have:=hR.wb;have:=h.g1;omega
 have h1:=nI (b:=60) (by omega) (l:=(fU ns vals).take k) fun x hx=>hb x (List.mem_of_mem_take hx);have h2:=sO ((fU ns vals).take k).length (by have:=h.n1;rw[List.length_take,uC];omega);omega
theorem sR (ns:List NodeP)(v:Nat)(x:NodeP)(vals:List Int)(hx:ns[v]?=some x)(hin:fO x.parents ns.length)(hs:dS (aQ ns x))(hf:bV (ak ns) vals)(H:AHeap)(N n:Nat)(hN:N<H.next)
  (hg:H.get N=some (.arr 0 3 (ints vals))) (hn:n=vals.length):bX Tryz.prog G0 (.clo 69 [] []) [.vec ns.length (aB ns),.lit (.int .i64 v),.own N 0 0 n 1] H (.lit (.int .i64 (bP (aQ ns x) (aH vals x.parents)))) [N]:=by
 subst hn;refine bX.mk (fun i hi=>by obtain rfl:=List.mem_singleton.1 hi;exact hN) fun H2 h2 _=>?_;refine(ae.frame (H:=H2) (args:=[.vec ns.length (aB ns),.lit (.int .i64 v),.own N 0 0 vals.length 1]) (args':=[dB ns,.lit (.int .i64 v),ah vals]) (v':=.lit (.int .i64 (bP (aQ ns x) (aH vals x.parents)))) aI rfl (fun i hi _=>?_) (Pu ns v x vals hx hin hs hf dw _ ⟨_,rfl,.lit _⟩))
 match i,hi with
 | 0,_=>exact qR _
 | 1,_=>exact .lit _
 | 2,_=>exact Fz.qQ ((h2 N (by simp)).trans hg) (by rw[aR]) fun c hc=>by obtain⟨z,_,rfl⟩:=List.mem_map.1 hc;exact⟨_,rfl⟩
set_option maxHeartbeats 2000000 in
theorem Pm (g:Int)(ns:List NodeP)(h:NetOk g ns)(H:AHeap)(K:ARes->AHeap->Prop)(hK:K (.ret (ah (eY ns))) H):ae Tryz.prog G0 122 [da g ns] H K:=by
 refine ae.clo ⟨_,Tryz.func122,rfl,rfl⟩ fun hcl=>?_;have n8:=h.n1;have hcards:∀ c∈ak ns,1<=c/\c<=4:=fun c hc=>by
  obtain⟨x,hx,rfl⟩:=List.mem_map.1 hc;exact(h.node x hx).1
 have sm:dS (ak ns):=mL (by rw[dc];omega) hcards;have hp:=fI fun c hc=>(hcards c hc).1;have hsz:=h.size;have hw:((bH ns:Nat):Int)=az (ak ns):=by unfold bH;omega
 refine ae.aP (n:=51) (rs:=[.tmp 2]) Tryz.func122 rfl rfl rfl (by decide) (by kernel_rfl) (by simp) ?_;simp only[go_sem,da,dB];refine ay.clo (sT ns (by omega) _ _ ⟨trivial,?_⟩);simp only[go_sem];refine ay.clo (Pt (ak ns) sm _ _ ⟨trivial,?_⟩);rw[<- hw];simp only[go_sem];refine⟨by omega,?_⟩;refine ay.clo (sN (ak ns) _ _ ⟨trivial,?_⟩);simp only[go_sem];obtain⟨H2,hH2⟩:∃ H2,H2=ext (ext H [.arr 0 103 [.lit (.int .i64 g),.vec ns.length (aB ns)],.arr 0 3 (List.replicate 0 (.lit (.int .i64 0))),.arr 0 46 [.own (H.next+1) 0 0 0 1]]) [.arr 0 46 [ah (ak ns)]]:=⟨_,rfl⟩
 have n2:H2.next=H.next+4:=by rw[hH2];rfl
 have o2:Over H H2:=by rw[hH2];exact(Over.ext _ _).trans (.ext _ _)
 have g0:H2.get H.next=some (.arr 0 103 [.lit (.int .i64 g),.vec ns.length (aB ns)]):=by rw[hH2,dH];exact aZ H _ 0 (by simp)
 have g1:H2.get (H.next+1)=some (.arr 0 3 []):=by rw[hH2,dH];exact aZ H _ 1 (by simp)
 have g2:H2.get (H.next+2)=some (.arr 0 46 [.own (H.next+1) 0 0 0 1]):=by rw[hH2,dH];exact aZ H _ 2 (by simp)
 have g3:H2.get (H.next+3)=some (.arr 0 46 [ah (ak ns)]):=by rw[hH2,dH];exact aZ H _ 3 (by simp)
 refine W.env fun E hE=>?_;have e1:E 1=.ptr H.next 0 0:=by rw[hE];simp only[go_sem]
 have e4:E 4=.ptr (H.next+2) 0 0:=by rw[hE];simp only[go_sem]
 have e17:E 17=.clo 143 [] [.ptr (H.next+3) 0 0]:=by rw[hE];rfl
 clear hE;show W _ _ _ _ _ _ ⟨E,ext (ext H [.arr 0 103 [.lit (.int .i64 g),.vec ns.length (aB ns)],.arr 0 3 (List.replicate 0 (.lit (.int .i64 0))),.arr 0 46 [.own (H.next+1) 0 0 0 1]]) [.arr 0 46 [ah (ak ns)]]⟩;rw[<- hH2];have hit:=sM (ak ns) (fun c hc=>(hcards c hc).1) sm (H.next+3) (H2.next+1) (by omega);refine W.tq (f:=143) (first:=[]) (cap:=[.ptr (H.next+3) 0 0]) (by show E 17=_;exact e17) hit
  (fun k Hx=>H2.next<Hx.next/\(∀ id,id<H2.next->id≠H.next+1->id≠H.next+2->Hx.get id=H2.get id)/\∃ gn,Hx.get (H.next+2)=some (.arr 0 46 [.own (H.next+1) gn 0 k 1])/\Hx.get (H.next+1)=some (.arr gn 3 (ints ((eY ns).take k))))
  (fun _ _=>False)
  (fun k Hx h=>(h.2.1 _ (by omega) (by omega) (by omega)).trans g3)
  (fun k H1 H3 h hw=>⟨by have:=hw.1;omega,fun id h1 h2 h3=>(hw.2 _ (by omega) (by have:=h.1;omega)).trans (h.2.1 id h1 h2 h3),by
   obtain⟨gn,a1,a2⟩:=h.2.2;exact⟨gn,(hw.2 _ (by omega) (by have:=h.1;omega)).trans a1,(hw.2 _ (by omega) (by have:=h.1;omega)).trans a2⟩⟩)
  (fun k Hx h=>h.1)
  (fun k H1 b h=>⟨h.1,fun id h1 h2 h3=>by rw[aj,if_neg (by omega)];exact h.2.1 id h1 h2 h3,by
   obtain⟨gn,a1,a2⟩:=h.2.2;exact⟨gn,by rw[aj,if_neg (by omega)];exact a1,by rw[aj,if_neg (by omega)];exact a2⟩⟩)
  (fun _ _ _ h=>h) (fun k H1 b h=>by unfold kQ at h ⊢;rw[aj,if_neg (by omega)];exact h)
  (fun b=>⟨by rw[aY];simp,fun id h1 h2 h3=>bE h1,0,by rw[bE (by omega)];exact g2,by rw[bE (by omega)];exact g1⟩) (by decide)
  (fun x hx=>by
   obtain⟨k,hk⟩:=List.mem_iff_getElem?.1 hx;obtain⟨_,rfl⟩:=lS hk;rfl) (fun _ _ _=>trivial) (fun _ _ _=>trivial) (fun k y Hx B Bb hy hj hcs hn hB hBb=>?_) (fun Hx hj hn=>?_) (fun _ hs _=>hs.elim) (fun _ _ hs _=>hs.elim)
 ·obtain⟨hk,rfl⟩:=lS hy;refine af _ _ _ (by rfl) ?_;simp only[go_sem,gX,bh,jr,List.foldl_cons,List.foldl_nil,List.zip_cons_cons,List.zip_nil_right,hB];obtain⟨H3,hH3⟩:∃ H3,H3=Hx.upd H2.next Bb:=⟨_,rfl⟩
  rw[<- hH3];obtain⟨st,pd,n',en,ps',as',bo,hBe⟩:=hBb;have n3:H3.next=Hx.next:=by rw[hH3];rfl
  have o3:∀ id,id≠H2.next->H3.get id=Hx.get id:=fun id h=>by rw[hH3,aj,if_neg h]
  have jB:H3.get H2.next=some Bb:=by rw[hH3,aj,if_pos rfl]
  obtain⟨gn,a1,a2⟩:=hj.2.2;have k0:=(o3 _ (by omega)).trans ((hj.2.1 H.next (by omega) (by omega) (by omega)).trans g0);have k1:=(o3 _ (by omega)).trans a2;have k2:=(o3 _ (by omega)).trans a1;have kN:H3.get (H2.next+1)=some (.arr 0 3 (ints (bQ (ak ns) k))):=(o3 _ (by omega)).trans hcs;obtain⟨vals,hvals⟩:∃ vals,vals=bQ (ak ns) k:=⟨_,rfl⟩
  have hfit:bV (ak ns) vals:=by rw[hvals];exact qp (fun c hc=>(hcards c hc).1) _
  rw[<- hvals]at kN;have hvl:vals.length=ns.length:=by rw[hfit.1,dc]
  refine W.env fun E1 hE1=>?_;have m1:E1 1=.ptr H.next 0 0:=by rw[hE1];simp only[go_sem,bh,e1]
  have m4:E1 4=.ptr (H.next+2) 0 0:=by rw[hE1];simp only[go_sem,bh,e4]
  have m6:E1 6=.own (H2.next+1) 0 0 ns.length 1:=by rw[hE1];simp only[go_sem,bh,dc]
  clear hE1;have l0:=ag k0;refine af _ _ _ (by rfl) ?_;simp only[go_sem,m1,l0];refine W.aK 70368735789952 (by rfl) (fun ρ2 H4=>∃ v:Nat,ρ2 23=aa v/\v<=ns.length/\Over H3 H4/\ρ2 7=aa (az ((fU ns vals).take v))) (fun ρ2 H=>ns.length - (iv (ρ2 23)).toNat) ?_ ?_
  ·simp only[go_sem];exact⟨0,rfl,by omega,.refl _,by simp [iL]⟩
  rintro ρ2 H4 ⟨v,h23,hv,o4,h7⟩;refine W.env fun E2 hE2=>?_;have p1:E2 1=.ptr H.next 0 0:=by rw[hE2];simp only[go_sem,m1]
  have p4:E2 4=.ptr (H.next+2) 0 0:=by rw[hE2];simp only[go_sem,m4]
  have p6:E2 6=.own (H2.next+1) 0 0 ns.length 1:=by rw[hE2];simp only[go_sem,m6]
  have p7:E2 7=aa (az ((fU ns vals).take v)):=by rw[hE2];simp only[go_sem,h7]
  have p21:E2 21=.vec ns.length (aB ns):=by rw[hE2];simp only[go_sem]
  have p22:E2 22=aa ns.length:=by rw[hE2];simp only[go_sem]
  have p23:E2 23=aa v:=by rw[hE2];simp only[go_sem,h23]
  clear hE2;have o4n:=o4.next;have q0:=ag ((o4.old _ (by omega)).trans k0);have q1:=ag ((o4.old _ (by omega)).trans k1);have q2:=ag ((o4.old _ (by omega)).trans k2);have gN4:=(o4.old _ (by omega)).trans kN;refine af _ _ _ (by rfl) ?_;by_cases hb:(v:Int)<ns.length
  ·obtain⟨x,hx⟩:=get_of_lt (l:=ns) (i:=v) (by omega);have hxm:=List.mem_of_getElem? hx;obtain⟨i,r,a,w,hR⟩:=vj h hx hfit;obtain⟨a',rfl⟩:=Int.eq_ofNat_of_zero_le hR.a0;have hin:fO x.parents ns.length:=fun q hq=>by have:=(h.node x hxm).2.2 q hq;omega
   have hne:=eA hx;have c0:=oS hx;have c1:v*3+3<=(aB ns).length:=(by rw[jS];omega);obtain⟨H5,hH5⟩:∃ H5,H5=ext H4 [.arr 0 73 [.lit (.int .i64 x.card),.vec x.parents.length (ints x.parents),aA x.rows]]:=⟨_,rfl⟩
   have hpc:bX Tryz.prog G0 (.clo 69 [] []) [.vec ns.length (aB ns),.lit (.int .i64 v),.own (H2.next+1) 0 0 ns.length 1] H5 (.lit (.int .i64 i)) [H2.next+1]:=by
    have:=sR ns v x vals hx hin (lU n8.2 (h.node x hxm).2 fun y hy=>(h.node y hy).1) hfit H5 (H2.next+1) ns.length (by rw[hH5,aY];omega) (by rw[hH5,dD _ _ _ (by omega)];exact gN4) hvl.symm;rw[hR.idx]at this;exact this
   have f0:=ag (show H5.get H.next=some (.arr 0 103 [.lit (.int .i64 g),.vec ns.length (aB ns)]) by rw[hH5,dD _ _ _ (by omega)];exact(o4.old _ (by omega)).trans k0);have f4:=ag (show H5.get H4.next=some (.arr 0 73 [.lit (.int .i64 x.card),.vec x.parents.length (ints x.parents),aA x.rows]) by rw[hH5];exact bL);have fN:=ag (show H5.get (H2.next+1)=some (.arr 0 3 (ints vals)) by rw[hH5,dD _ _ _ (by omega)];exact gN4);have hri:=hR.row;have hrne:=aL hri;have hrl:(i:Int)<x.rows.length:=(by have:=get_lt hri;omega);have hva:=hR.val;have hvne:=aL hva;have hra:r[a']?=some w:=(by have:=hR.hw;rw[Int.toNat_natCast]at this;exact this);have hrane:=aL hra;have hal:=hR.al;have wt:=C9 h hfit (v+1);rw[aT (BD (vals:=vals) (v:=v) (by omega)),fH,hR.eq]at wt;have w1:=IntWalk.i64_in ((v:Int)+1) (by omega);have w2:=IntWalk.i64_in (az ((fU ns vals).take v)*w) (by omega);simp only[go_sem,p21,p22,p23,hb,hne,c0,c1];rw[<- hH5];refine W.draw 16 [0,0,2,0,8,0,0,120,254,510,0,0,3072,7168,16382,32766] Tryz.mixed (by kernel_rfl) (by kernel_rfl) ?_;simp only[go_sem,p1,p6,p7,f0,f4,aA];refine⟨.lit (.int .i64 i),[H2.next+1],hpc,?_⟩;have hvn:(v:Int)<ns.length:=hb;simp only[go_sem,p1,p6,p7,p23,fN,hri,hrne,hrl,hra,hrane,hva,hal,hvn,w1,w2];have n5:H5.next=H4.next+1:=(by rw[hH5];rfl);exact⟨by omega,⟨_,_,_,_,_,_,_,by rw[hH5,dD _ _ _ (by omega),o4.old _ (by omega),jB,hBe]⟩,⟨v+1,by simp,by omega,by rw[hH5];exact o4.trans (.ext _ _),by rw[aT (BD (vals:=vals) (v:=v) (by omega)),fH,hR.eq]⟩,by rw[h23];simp only[aa,aU];omega⟩
  ·rw[List.take_of_length_le (by rw[uC];omega)]at p7;have hwk:(eY ns)[k]?=some (weight ns vals):=by
    unfold eY;rw[List.getElem?_map,List.getElem?_range (show k<bH ns from hk),hvals];rfl
   have hkl:((eY ns).take k).length=k:=by
    have:(eY ns).length=bH ns:=(by simp [eY]);have:k<bH ns:=hk;simp;omega
   have hkw:k<bH ns:=hk;have nn:¬ H.next+1=H4.next:=(by omega);have nn2:¬ H.next+2=H4.next:=(by omega);have hbd:(k+1)*8<=2 ^ 46/\k+1<=2 ^ 46:=(by omega);have q1e:∀ L,(ext H4 L).live (H.next+1) gn=some (3,ints ((eY ns).take k)):=fun L=>(eT (by omega)).trans q1;have q2e:∀ L b,((ext H4 L).upd (H.next+1) b).live (H.next+2) 0=some (46,[.own (H.next+1) gn 0 k 1]):=fun L b=>(om (by omega)).trans ((eT (by omega)).trans q2);simp only[go_sem,p4,p7,p22,p23,hb,q2,q1e,q2e,hkl,hbd,eE,aW];obtain⟨Hf,hHf⟩:∃ Hf,Hf=((ext H4 [.arr 0 3 [.lit (.int .i64 (az (fU ns vals)))]]).upd (H.next+1) (.arr (gn+1) 3 (ints ((eY ns).take k)++[.lit (.int .i64 (az (fU ns vals)))]))).upd (H.next+2) (.arr 0 46 [.own (H.next+1) (gn+1) 0 (k+1) 1]):=⟨_,rfl⟩
   rw[<- hHf];have hget:∀ id,id<H4.next->id≠H.next+1->id≠H.next+2->Hf.get id=H4.get id:=fun id h1 h2 h3=>by rw[hHf,aj,if_neg h3,aj,if_neg h2,bE h1]
   have nf:Hf.next=H4.next+1:=(by rw[hHf];rfl);have eint:ints ((eY ns).take (k+1))=ints ((eY ns).take k)++[.lit (.int .i64 (az (fU ns vals)))]:=(by rw[aT hwk];simp [ints,aa,weight]);refine⟨by rw[hget _ (by omega) (by omega) (by omega),o4.old _ (by omega)];exact jB,by omega,⟨by omega,fun id h1 h2 h3=>by rw[hget _ (by omega) h2 h3,o4.old _ (by omega),o3 _ (by omega)];exact hj.2.1 id h1 h2 h3,gn+1,by rw[hHf,aj,if_pos rfl],by rw[hHf,aj,if_neg (by omega),aj,if_pos rfl,eint]⟩,?_⟩;show Hf.get (H2.next+1)=_;rw[hget _ (by omega) (by omega) (by omega),gN4,hvals]
 ·rw[qO]at hj;obtain⟨gn,a1,a2⟩:=hj.2.2;have l2:=ag a1;simp only[go_sem,e4,l2];have ovx:Over H Hx:=⟨by omega,fun id hi=>(hj.2.1 id (by omega) (by omega) (by omega)).trans (o2.old id hi)⟩
  have hlen:(eY ns).length=(az (ak ns)).toNat:=by simp [eY,bH]
  rw[List.take_of_length_le (by omega)]at a2;refine ar.bB aI hcl ovx ?_ hK;show Fz (fun id=>H.next<=id) Hx H.next (.own (H.next+1) gn 0 (az (ak ns)).toNat 1) (ah (eY ns));exact .ints (S:=fun id=>H.next<=id) (o:=0) (by show H.next<=_;omega) a2 hlen.symm fun i hi=>by simp [d9,hi]
end Go.Proofs
