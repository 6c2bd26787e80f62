/-
  Closed facts of this seat's types. Laid by a program of ours.
-/
import Derived.Test.YtjhbjbninamhnaaGreatProg
import Derived.Test.YtjhbjbninamhnaaGreatLibC
import Derived.Test.YtjhbjbninamhnaaGreatLibB
set_option linter.all false
namespace Go.Proofs
open Go.Hx
theorem Tryz.mixed:Tryz.prog.follows .mixedOrders=true:=by kernel_rfl
theorem Tryz.fk:Tryz.prog.cellsOf 3=1:=by kernel_rfl
theorem Tryz.fR:Tryz.prog.bytesOf 3=8:=by kernel_rfl
theorem Tryz.fm:cq Tryz.prog 3=some [.lit (.int .i64 0)]:=by kernel_rfl
theorem Tryz.AM:Tryz.prog.cellsOf 4=1:=by kernel_rfl
theorem Tryz.KS:Tryz.prog.bytesOf 4=1:=by kernel_rfl
theorem Tryz.KT:cq Tryz.prog 4=some [.lit (.bool false)]:=by kernel_rfl
theorem Tryz.qa:Tryz.prog.cellsOf 5=1:=by kernel_rfl
theorem Tryz.KU:Tryz.prog.bytesOf 5=1:=by kernel_rfl
theorem Tryz.KV:cq Tryz.prog 5=some [.lit (.int .u8 0)]:=by kernel_rfl
theorem Tryz.AN:Tryz.prog.cellsOf 22=1:=by kernel_rfl
theorem Tryz.xt:Tryz.prog.cellsOf 23=1:=by kernel_rfl
theorem Tryz.AO:Tryz.prog.cellsOf 25=3:=by kernel_rfl
theorem Tryz.KW:bP Tryz.prog 25 0=some (0,5):=by kernel_rfl
theorem Tryz.KX:bP Tryz.prog 25 1=some (1,22):=by kernel_rfl
theorem Tryz.KY:bP Tryz.prog 25 2=some (2,23):=by kernel_rfl
theorem Tryz.AP:Tryz.prog.cellsOf 26=1:=by kernel_rfl
theorem Tryz.KZ:Tryz.prog.cellsOf 28=6:=by kernel_rfl
theorem Tryz.K0:bP Tryz.prog 28 0=some (0,25):=by kernel_rfl
theorem Tryz.K2:bP Tryz.prog 28 1=some (3,5):=by kernel_rfl
theorem Tryz.K3:bP Tryz.prog 28 2=some (4,4):=by kernel_rfl
theorem Tryz.K4:bP Tryz.prog 28 3=some (5,26):=by kernel_rfl
theorem Tryz.K5:Tryz.prog.cellsOf 33=1:=by kernel_rfl
theorem Tryz.K6:cq Tryz.prog 33=some [.lit (.slice none 0 0)]:=by kernel_rfl
theorem Tryz.K7:Tryz.prog.cellsOf 34=1:=by kernel_rfl
theorem Tryz.AQ:Tryz.prog.cellsOf 35=1:=by kernel_rfl
theorem Tryz.AR:Tryz.prog.bytesOf 35=8:=by kernel_rfl
theorem Tryz.AS:cq Tryz.prog 35=some [.lit (.int .u64 0)]:=by kernel_rfl
theorem Tryz.K8:Tryz.prog.cellsOf 36=1:=by kernel_rfl
theorem Tryz.K9:Tryz.prog.cellsOf 38=4:=by kernel_rfl
theorem Tryz.La:cq Tryz.prog 38=some [.lit (.int .i64 0),.lit (.slice none 0 0),.lit (.int .u64 0),.lit (.slice none 0 0)]:=by kernel_rfl
theorem Tryz.Lb:iW Tryz.prog 38=some [(0,1),(1,1),(2,1),(3,1)]:=by kernel_rfl
theorem Tryz.Lc:bP Tryz.prog 38 0=some (0,3):=by kernel_rfl
theorem Tryz.Ld:bP Tryz.prog 38 1=some (1,34):=by kernel_rfl
theorem Tryz.Le:bP Tryz.prog 38 2=some (2,35):=by kernel_rfl
theorem Tryz.Lf:bP Tryz.prog 38 3=some (3,36):=by kernel_rfl
theorem Tryz.Lg:Tryz.prog.cellsOf 41=2:=by kernel_rfl
theorem Tryz.Lh:cq Tryz.prog 41=some [.lit (.int .i64 0),.lit (.int .i64 0)]:=by kernel_rfl
theorem Tryz.Li:iW Tryz.prog 41=some [(0,1),(1,1)]:=by kernel_rfl
theorem Tryz.Lj:Tryz.prog.cellsOf 42=1:=by kernel_rfl
theorem Tryz.Lk:cq Tryz.prog 42=some [.lit (.int .i64 0)]:=by kernel_rfl
theorem Tryz.qb:Tryz.prog.cellsOf 46=1:=by kernel_rfl
theorem Tryz.qc:Tryz.prog.bytesOf 46=24:=by kernel_rfl
theorem Tryz.qd:cq Tryz.prog 46=some [.lit (.slice none 0 0)]:=by kernel_rfl
theorem Tryz.Ll:cq Tryz.prog 61=some [.lit (.slice none 0 0),.lit (.slice none 0 0)]:=by kernel_rfl
theorem Tryz.AT:Tryz.prog.cellsOf 63=2:=by kernel_rfl
theorem Tryz.AU:Tryz.prog.bytesOf 63=16:=by kernel_rfl
theorem Tryz.AV:cq Tryz.prog 63=some [.lit (.int .i64 0),.lit (.int .i64 0)]:=by kernel_rfl
theorem Tryz.xu:Tryz.prog.cellsOf 73=3:=by kernel_rfl
theorem Tryz.xw:Tryz.prog.bytesOf 73=56:=by kernel_rfl
theorem Tryz.xx:cq Tryz.prog 73=some [.lit (.int .i64 0),.lit (.slice none 0 0),.lit (.slice none 0 0)]:=by kernel_rfl
theorem Tryz.Lm:iW Tryz.prog 73=some [(0,1),(1,1),(2,1)]:=by kernel_rfl
theorem Tryz.Ln:bP Tryz.prog 73 0=some (0,3):=by kernel_rfl
theorem Tryz.Lo:bP Tryz.prog 73 1=some (1,46):=by kernel_rfl
theorem Tryz.Lp:bP Tryz.prog 73 2=some (2,33):=by kernel_rfl
theorem Tryz.AW:Tryz.prog.cellsOf 77=1:=by kernel_rfl
theorem Tryz.AY:Tryz.prog.cellsOf 78=1:=by kernel_rfl
theorem Tryz.AZ:Tryz.prog.cellsOf 80=2:=by kernel_rfl
theorem Tryz.Lq:bP Tryz.prog 80 0=some (0,5):=by kernel_rfl
theorem Tryz.Lr:bP Tryz.prog 80 1=some (1,78):=by kernel_rfl
theorem Tryz.A0:Tryz.prog.cellsOf 82=2:=by kernel_rfl
theorem Tryz.A1:Tryz.prog.bytesOf 82=48:=by kernel_rfl
theorem Tryz.A2:cq Tryz.prog 82=some [.lit (.slice none 0 0),.lit (.slice none 0 0)]:=by kernel_rfl
theorem Tryz.Ls:iW Tryz.prog 82=some [(0,1),(1,1)]:=by kernel_rfl
theorem Tryz.Lt:bP Tryz.prog 82 0=some (0,46):=by kernel_rfl
theorem Tryz.Lu:bP Tryz.prog 82 1=some (1,46):=by kernel_rfl
theorem Tryz.Lv:Tryz.prog.cellsOf 103=2:=by kernel_rfl
theorem Tryz.Lw:cq Tryz.prog 103=some [.lit (.int .i64 0),.lit (.slice none 0 0)]:=by kernel_rfl
theorem Tryz.Lx:iW Tryz.prog 103=some [(0,1),(1,1)]:=by kernel_rfl
theorem Tryz.Ly:bP Tryz.prog 103 0=some (0,3):=by kernel_rfl
theorem Tryz.Lz:bP Tryz.prog 103 1=some (1,34):=by kernel_rfl
theorem Tryz.LA:Tryz.prog.cellsOf 106=1:=by kernel_rfl
theorem Tryz.LB:Tryz.prog.cellsOf 110=1:=by kernel_rfl
theorem Tryz.LC:cq Tryz.prog 110=some [.lit (.pointer none)]:=by kernel_rfl
theorem Tryz.LD:Tryz.prog.cellsOf 128=1:=by kernel_rfl
theorem Tryz.LF:cq Tryz.prog 130=some [.lit (.int .i64 0),.lit (.slice none 0 0),.lit (.int .u64 0),.lit (.slice none 0 0),.lit (.slice none 0 0),.lit (.slice none 0 0),.lit (.slice none 0 0),.lit (.int .i64 0)]:=by kernel_rfl
theorem Tryz.LG:iW Tryz.prog 130=some [(0,4),(4,1),(5,1),(6,1),(7,1)]:=by kernel_rfl
theorem Tryz.LH:bP Tryz.prog 130 0=some (0,38):=by kernel_rfl
theorem Tryz.LI:bP Tryz.prog 130 1=some (4,128):=by kernel_rfl
theorem Tryz.LJ:bP Tryz.prog 130 2=some (5,46):=by kernel_rfl
theorem Tryz.LK:bP Tryz.prog 130 3=some (6,46):=by kernel_rfl
theorem Tryz.LL:bP Tryz.prog 130 4=some (7,3):=by kernel_rfl
theorem Tryz.LM:Tryz.prog.cellsOf 136=1:=by kernel_rfl
theorem Tryz.LN:Tryz.prog.cellsOf 147=3:=by kernel_rfl
theorem Tryz.LO:cq Tryz.prog 147=some [.lit (.int .i64 0),.lit (.slice none 0 0),.lit (.slice none 0 0)]:=by kernel_rfl
theorem Tryz.LP:iW Tryz.prog 147=some [(0,2),(2,1)]:=by kernel_rfl
theorem Tryz.LR:bP Tryz.prog 147 0=some (0,103):=by kernel_rfl
theorem Tryz.LS:bP Tryz.prog 147 1=some (2,36):=by kernel_rfl
theorem Tryz.LU:Tryz.prog.cellsOf 149=1:=by kernel_rfl
theorem Tryz.LV:Tryz.prog.cellsOf 150=1:=by kernel_rfl
theorem Tryz.LW:Tryz.prog.cellsOf 162=3:=by kernel_rfl
theorem Tryz.LX:cq Tryz.prog 162=some [.lit (.slice none 0 0),.lit (.int .u16 0),.lit (.slice none 0 0)]:=by kernel_rfl
theorem Tryz.LY:iW Tryz.prog 162=some [(0,1),(1,1),(2,1)]:=by kernel_rfl
theorem Tryz.LZ:bP Tryz.prog 162 0=some (0,23):=by kernel_rfl
theorem Tryz.L1:bP Tryz.prog 162 2=some (2,23):=by kernel_rfl
theorem Tryz.A3:Tryz.prog.cellsOf 165=3:=by kernel_rfl
theorem Tryz.L3:cq Tryz.prog 165=some [.lit (.int .u8 0),.lit (.int .u8 0),.lit (.slice none 0 0)]:=by kernel_rfl
theorem Tryz.L4:bP Tryz.prog 165 0=some (0,5):=by kernel_rfl
theorem Tryz.L5:bP Tryz.prog 165 1=some (1,5):=by kernel_rfl
theorem Tryz.L6:bP Tryz.prog 165 2=some (2,23):=by kernel_rfl
theorem Tryz.A4:Tryz.prog.cellsOf 170=1:=by kernel_rfl
theorem Tryz.A5:Tryz.prog.bytesOf 170=8:=by kernel_rfl
theorem Tryz.A6:cq Tryz.prog 170=some [.lit (.pointer none)]:=by kernel_rfl
theorem Tryz.L7:Tryz.prog.cellsOf 171=1:=by kernel_rfl
theorem Tryz.L8:cq Tryz.prog 171=some [.lit (.slice none 0 0)]:=by kernel_rfl
theorem Tryz.L9:cq Tryz.prog 173=some [.lit (.int .i64 0),.lit (.int .i64 0),.lit (.slice none 0 0),.lit (.slice none 0 0),.lit (.slice none 0 0),.lit (.slice none 0 0),.lit (.slice none 0 0)]:=by kernel_rfl
theorem Tryz.Ma:iW Tryz.prog 173=some [(0,1),(1,1),(2,1),(3,1),(4,1),(5,1),(6,1)]:=by kernel_rfl
theorem Tryz.Mb:bP Tryz.prog 173 0=some (0,3):=by kernel_rfl
theorem Tryz.Mc:bP Tryz.prog 173 1=some (1,3):=by kernel_rfl
theorem Tryz.Md:bP Tryz.prog 173 2=some (2,46):=by kernel_rfl
theorem Tryz.Me:bP Tryz.prog 173 3=some (3,171):=by kernel_rfl
theorem Tryz.Mf:bP Tryz.prog 173 4=some (4,46):=by kernel_rfl
theorem Tryz.Mg:bP Tryz.prog 173 5=some (5,46):=by kernel_rfl
theorem Tryz.Mh:bP Tryz.prog 173 6=some (6,46):=by kernel_rfl
theorem Tryz.Mi:Tryz.prog.cellsOf 209=5:=by kernel_rfl
theorem Tryz.Mj:cq Tryz.prog 209=some [.lit (.int .i64 0),.lit (.slice none 0 0),.lit (.slice none 0 0),.lit (.slice none 0 0),.lit (.slice none 0 0)]:=by kernel_rfl
theorem Tryz.Mk:iW Tryz.prog 209=some [(0,2),(2,1),(3,1),(4,1)]:=by kernel_rfl
theorem Tryz.Ml:bP Tryz.prog 209 0=some (0,103):=by kernel_rfl
theorem Tryz.Mm:bP Tryz.prog 209 1=some (2,46):=by kernel_rfl
theorem Tryz.Mn:bP Tryz.prog 209 2=some (3,106):=by kernel_rfl
theorem Tryz.Mo:bP Tryz.prog 209 3=some (4,46):=by kernel_rfl
attribute [go_sem] Tryz.underlying3 Tryz.fk Tryz.fR Tryz.fm Tryz.underlying4 Tryz.AM Tryz.KS Tryz.KT Tryz.underlying5 Tryz.qa Tryz.KU Tryz.KV
attribute [go_sem] Tryz.underlying9 Tryz.underlying22 Tryz.AN Tryz.underlying23 Tryz.xt
attribute [go_sem] Tryz.underlying24 Tryz.underlying25 Tryz.AO
attribute [go_sem] Tryz.KW Tryz.KX Tryz.KY Tryz.underlying26 Tryz.AP Tryz.underlying27
attribute [go_sem] Tryz.underlying28 Tryz.KZ Tryz.K0 Tryz.K2
attribute [go_sem] Tryz.K3 Tryz.K4 Tryz.underlying29 Tryz.underlying30
attribute [go_sem] Tryz.underlying31
attribute [go_sem] Tryz.underlying32
attribute [go_sem] Tryz.underlying33 Tryz.K5 Tryz.K6 Tryz.underlying34 Tryz.K7 Tryz.underlying35 Tryz.AQ Tryz.AR Tryz.AS
attribute [go_sem] Tryz.underlying36 Tryz.K8 Tryz.underlying37
attribute [go_sem] Tryz.underlying38 Tryz.K9 Tryz.La Tryz.Lb Tryz.Lc Tryz.Ld Tryz.Le Tryz.Lf Tryz.underlying40
attribute [go_sem] Tryz.underlying41 Tryz.Lg Tryz.Lh Tryz.Li
attribute [go_sem] Tryz.underlying42 Tryz.Lj Tryz.Lk Tryz.underlying46 Tryz.qb Tryz.qc Tryz.qd Tryz.underlying48
attribute [go_sem] Tryz.underlying50 Tryz.underlying61 Tryz.Ll Tryz.underlying63 Tryz.AT Tryz.AU Tryz.AV
attribute [go_sem] Tryz.underlying72 Tryz.underlying73 Tryz.xu Tryz.xw Tryz.xx
attribute [go_sem] Tryz.Lm Tryz.Ln Tryz.Lo Tryz.Lp Tryz.underlying77 Tryz.AW Tryz.underlying78 Tryz.AY
attribute [go_sem] Tryz.underlying79 Tryz.underlying80 Tryz.AZ
attribute [go_sem] Tryz.Lq Tryz.Lr Tryz.underlying81 Tryz.underlying82 Tryz.A0 Tryz.A1
attribute [go_sem] Tryz.A2 Tryz.Ls Tryz.Lt Tryz.Lu Tryz.underlying87 Tryz.underlying88
attribute [go_sem] Tryz.underlying98 Tryz.underlying102 Tryz.underlying103
attribute [go_sem] Tryz.Lv Tryz.Lw Tryz.Lx Tryz.Ly Tryz.Lz Tryz.underlying106 Tryz.LA Tryz.underlying110 Tryz.LB
attribute [go_sem] Tryz.LC Tryz.underlying117 Tryz.underlying128 Tryz.LD Tryz.underlying129
attribute [go_sem] Tryz.underlying130 Tryz.LF
attribute [go_sem] Tryz.LG Tryz.LH Tryz.LI Tryz.LJ Tryz.LK Tryz.LL Tryz.underlying136 Tryz.LM Tryz.underlying146
attribute [go_sem] Tryz.underlying147 Tryz.LN Tryz.LO Tryz.LP Tryz.LR Tryz.LS
attribute [go_sem] Tryz.underlying149 Tryz.LU Tryz.underlying150 Tryz.LV Tryz.underlying160
attribute [go_sem] Tryz.underlying161 Tryz.underlying162 Tryz.LW Tryz.LX
attribute [go_sem] Tryz.LY Tryz.LZ Tryz.L1 Tryz.underlying164
attribute [go_sem] Tryz.underlying165 Tryz.A3 Tryz.L3 Tryz.L4 Tryz.L5 Tryz.L6 Tryz.underlying170 Tryz.A4 Tryz.A5 Tryz.A6
attribute [go_sem] Tryz.underlying171 Tryz.L7 Tryz.L8 Tryz.underlying172
attribute [go_sem] Tryz.underlying173 Tryz.L9 Tryz.Ma Tryz.Mb Tryz.Mc Tryz.Md
attribute [go_sem] Tryz.Me Tryz.Mf Tryz.Mg Tryz.Mh Tryz.underlying208
attribute [go_sem] Tryz.underlying209 Tryz.Mi Tryz.Mj Tryz.Mk Tryz.Ml Tryz.Mm Tryz.Mn Tryz.Mo Tryz.underlying212
attribute [go_sem] Tryz.underlying215 Tryz.underlying219 Tryz.underlying230
end Go.Proofs
/-
  Networks and diagrams as plain data, and as abstract values. Plain: no program stands in this text. No conditions.
-/
namespace Go.Proofs
open Go.Hx
def aD (l:List (List Int)):AVal:=.vec l.length (l.map ah)
structure NodeP where
 card:Int
 parents:List Int
 rows:List (List Int)
structure UtilP where
 vars:List Int
 w:List Int
def NodeP.cells (x:NodeP):List AVal:=[aa x.card,ah x.parents,aD x.rows]
def UtilP.cells (x:UtilP):List AVal:=[ah x.vars,ah x.w]
def aC (l:List NodeP):List AVal:=(l.map NodeP.cells).flatten
def aS (l:List UtilP):List AVal:=(l.map UtilP.cells).flatten
def dw (l:List NodeP):AVal:=.vec l.length (aC l)
def uc (l:List UtilP):AVal:=.vec l.length (aS l)
def da (g:Int)(l:List NodeP):AVal:=.agg [aa g,dw l]
structure InfP where
 grain:Int
 nodes:List NodeP
 decs:Nat
 utils:List UtilP
def dI (d:InfP):AVal:=.agg [aa d.grain,dw d.nodes,.lit (.int .u64 (d.decs:Int)),uc d.utils]
theorem jd {α:Type}{f:α->List AVal}{z:Nat}(hz:∀ a,(f a).length=z):∀ (l:List α) (i j:Nat) (a:α),l[i]?=some a->j<z->((l.map f).flatten)[i*z+j]?=(f a)[j]?:=by
 intro l
 induction l with
 | nil=>intro i j a h;simp at h
 | cons x l ih =>
  intro i j a h hj;simp only[List.map_cons,List.flatten_cons];cases i with
  | zero =>
   simp only[List.getElem?_cons_zero,Option.some.injEq]at h;subst h;rw[Nat.zero_mul,Nat.zero_add,List.getElem?_append_left (by rw[hz];exact hj)]
  | succ i =>
   have:(i+1)*z+j=z+(i*z+j):=(by rw[Nat.add_mul];omega);rw[this,List.getElem?_append_right (by rw[hz];omega),hz];have:z+(i*z+j) - z=i*z+j:=(by omega);rw[this];exact ih i j a (by simpa using h) hj
theorem ly {α:Type}{f:α->List AVal}{z:Nat}(hz:∀ a,(f a).length=z)(l:List α):((l.map f).flatten).length=l.length*z:=by
 induction l with
 | nil=>simp
 | cons x l ih=>simp only[List.map_cons,List.flatten_cons,List.length_append,ih,hz,List.length_cons];rw[Nat.add_mul];omega
theorem nA {α:Type}{f:α->List AVal}{z:Nat}(hz:∀ a,(f a).length=z):∀ (l:List α) (i:Nat) (a:α),l[i]?=some a->(((l.map f).flatten).drop (i*z)).take z=f a:=by
 intro l i a h;apply List.ext_getElem?;intro j;by_cases hj:j<z
 ·rw[List.getElem?_take_of_lt hj,List.getElem?_drop,jd hz l i j a h hj]
 ·rw[List.getElem?_eq_none (by simp;omega),List.getElem?_eq_none (by rw[hz];omega)]
theorem jS (l:List NodeP):(aC l).length=l.length*3:=ly (f:=NodeP.cells) (fun _=>rfl) l
theorem je {l:List NodeP}{i:Nat}{x:NodeP}(h:l[i]?=some x):(aC l)[i*3]?=some (aa x.card):=jd (f:=NodeP.cells) (z:=3) (fun _=>rfl) l i 0 x h (by omega)
theorem lC {l:List NodeP}{i:Nat}{x:NodeP}(h:l[i]?=some x):(aC l)[i*3+1]?=some (ah x.parents):=jd (f:=NodeP.cells) (z:=3) (fun _=>rfl) l i 1 x h (by omega)
theorem ud {l:List NodeP}{i:Nat}{x:NodeP}(h:l[i]?=some x):(aC l)[i*3+2]?=some (aD x.rows):=jd (f:=NodeP.cells) (z:=3) (fun _=>rfl) l i 2 x h (by omega)
theorem oI {l:List NodeP}{i:Nat}{x:NodeP}(h:l[i]?=some x):((aC l).drop (i*3)).take 3=[aa x.card,ah x.parents,aD x.rows]:=nA (f:=NodeP.cells) (z:=3) (fun _=>rfl) l i x h
theorem ep {l:List NodeP}{i:Nat}{x:NodeP}(h:l[i]?=some x):¬ aC l=[]:=fun e=>by
 have:=je h;rw[e]at this;simp at this
theorem xy (l:List UtilP):(aS l).length=l.length*2:=ly (f:=UtilP.cells) (fun _=>rfl) l
theorem Mp {l:List UtilP}{i:Nat}{x:UtilP}(h:l[i]?=some x):(aS l)[i*2]?=some (ah x.vars):=jd (f:=UtilP.cells) (z:=2) (fun _=>rfl) l i 0 x h (by omega)
theorem xz {l:List UtilP}{i:Nat}{x:UtilP}(h:l[i]?=some x):((aS l).drop (i*2)).take 2=[ah x.vars,ah x.w]:=nA (f:=UtilP.cells) (z:=2) (fun _=>rfl) l i x h
theorem xA {l:List UtilP}{i:Nat}{x:UtilP}(h:l[i]?=some x):¬ aS l=[]:=fun e=>by
 have:=Mp h;rw[e]at this;simp at this
theorem aM {α:Type}{l:List α}{i:Nat}{x:α}(h:l[i]?=some x):i<l.length:=by
 rcases Nat.lt_or_ge i l.length with h'|h'
 ·exact h'
 ·rw[List.getElem?_eq_none h']at h;cases h
theorem aq {α:Type}{l:List α}{i:Nat}(h:i<l.length):∃ x,l[i]?=some x:=⟨_,List.getElem?_eq_getElem h⟩
theorem mm {α:Type}{l:List α}{i:Int}(h0:0<=i)(h:i<l.length):∃ k:Nat,i=k/\∃ x,l[k]?=some x:=⟨i.toNat,by omega,aq (by omega)⟩
def aA (l:List Int):Int:=l.foldl (·*·) 1
theorem A7 (l:List Int)(a:Int):l.foldl (·*·) a=a*aA l:=by
 unfold aA
 induction l generalizing a with
 | nil=>simp
 | cons x l ih=>simp only[List.foldl_cons];rw[ih,ih (1*x),Int.one_mul,Int.mul_assoc]
theorem iG:aA []=1:=rfl
theorem jT (x:Int)(l:List Int):aA (x :: l)=x*aA l:=by
 show List.foldl _ (1*x) l=_;rw[A7,Int.one_mul]
theorem xB (l l':List Int):aA (l++l')=aA l*aA l':=by
 unfold aA;rw[List.foldl_append,A7];rfl
theorem fF (l:List Int)(x:Int):aA (l++[x])=aA l*x:=by rw[xB,jT,iG,Int.mul_one]
theorem aV {α:Type}{l:List α}{k:Nat}{x:α}(h:l[k]?=some x):l.take (k+1)=l.take k++[x]:=by
 rw[List.take_add_one,h];rfl
theorem fG {l:List Int}(h:∀ x∈l,1<=x):1<=aA l:=by
 induction l with
 | nil=>decide
 | cons x l ih =>
  rw[jT];have h1:=ih fun y hy=>h y (by simp [hy]);have h2:=h x (by simp);have:=Int.mul_le_mul h2 h1 (by omega) (by omega);simpa using this
theorem nC {b:Int}{l:List Int}(hb:0<=b)(h:∀ x∈l,0<=x/\x<=b):0<=aA l/\aA l<=b ^ l.length:=by
 induction l with
 | nil=>exact⟨by decide,by simp [aA]⟩
 | cons x l ih =>
  rw[jT];have h1:=ih fun y hy=>h y (by simp [hy]);have h2:=h x (by simp);refine⟨Int.mul_nonneg h2.1 h1.1,?_⟩;have:=Int.mul_le_mul h2.2 h1.2 h1.1 hb;rw[List.length_cons,Int.pow_succ,Int.mul_comm (b ^ l.length)];exact this
def ak (l:List NodeP):List Int:=l.map (·.card)
def aI (l places:List Int):List Int:=places.map fun p=>l.getD p.toNat 0
def cJ (places:List Int)(n:Int):Prop:=places.Pairwise (·<·)/\∀ p∈places,0<=p/\p<n
end Go.Proofs
set_option maxRecDepth 100000
namespace Go.Proofs
open Go.Hx
def G0:Nat->Option (List AVal):=xi
theorem aK:fD G0:=Kv
end Go.Proofs
namespace Go.Hx
variable {P:Program} {G:Nat->Option (List AVal)} {Γ Γ':aF} {H H':AHeap} {w w':World}
theorem W.env {n:Nat}{rd:Option Nat}{Q:AX->St->Prop}{c:Code}{ρ:Env}{H:AHeap}(h:∀ E,E=ρ->W P G n rd c Q ⟨E,H⟩):W P G n rd c Q ⟨ρ,H⟩:=h ρ rfl
theorem Below.mono {n m:Nat}{v:AVal}(h:Below n v)(hm:n<=m):Below m v:=by
 induction h with
 | lit v=>exact .lit v
 | vec h ih=>exact .vec ih
 | vptr h ih=>exact .vptr ih
 | agg h ih=>exact .agg ih
 | tup h ih=>exact .tup ih
 | clo h1 h2 ih1 ih2=>exact .clo ih1 ih2
 | own h=>exact .own (by omega)
 | ptr h=>exact .ptr (by omega)
 | yld h=>exact .yld (by omega)
theorem DL (H:AHeap)(op:BinOp)(a:List AVal)(y:AVal):kq H op (.agg a) y=none:=by unfold kq;split<;>rfl
attribute [go_sem] DL
theorem g9 {l:List AVal}{i:Nat}{x:AVal}(h:i<l.length):setAt l i [x]=l.set i x:=by
 unfold setAt;rw[List.set_eq_take_append_cons_drop,if_pos h];simp
theorem Over.iU {B H:AHeap}(h:Over B H){n:Nat}(hn:B.next<=n):Over B (H.cut n):=⟨h.next,fun id hi=>(tV (by omega)).trans (h.old id hi)⟩
section
variable {t:TypeId} {x y:Operand} {k k':IntKind} {a b:Int}
theorem sR (hb:0<=b):bq P .shr t x y (.lit (.int k a)) (.lit (.int k' b))=some (.lit (.int k (a.fdiv (2 ^ (min b.toNat k.bits))))):=by
 have h:¬ b<0:=by omega
 simp [bq,AVal.cY,eqGuard,binOp,Op.shift,h,bB,bind,Sem.bind,pure]
theorem yW (hb:0<=b):bq P .shl t x y (.lit (.int k a)) (.lit (.int k' b))=some (.lit (.int k (k.wrap (a*2 ^ (min b.toNat k.bits))))):=by
 have h:¬ b<0:=by omega
 simp [bq,AVal.cY,eqGuard,binOp,Op.shift,h,bB,bind,Sem.bind,pure]
theorem sS:bq P .and t x y (.lit (.int k a)) (.lit (.int k b))=some (.lit (.int k (k.wrap ((BitVec.ofInt k.bits a &&& BitVec.ofInt k.bits b).toNat:Nat)))):=by
 simp [bq,AVal.cY,eqGuard,binOp,Op.intBits,bB,bind,Sem.bind,pure]
theorem Q4:bq P .or t x y (.lit (.int k a)) (.lit (.int k b))=some (.lit (.int k (k.wrap ((BitVec.ofInt k.bits a ||| BitVec.ofInt k.bits b).toNat:Nat)))):=by
 simp [bq,AVal.cY,eqGuard,binOp,Op.intBits,bB,bind,Sem.bind,pure]
theorem Q5:bq P .andNot t x y (.lit (.int k a)) (.lit (.int k b))=some (.lit (.int k (k.wrap ((BitVec.ofInt k.bits a &&& ~~~ BitVec.ofInt k.bits b).toNat:Nat)))):=by
 simp [bq,AVal.cY,eqGuard,binOp,Op.intBits,bB,bind,Sem.bind,pure]
def bK (m:Nat):AVal:=.lit (.int .u64 (m:Int))
def iC (a b:Nat):Nat:=(BitVec.ofNat 64 a &&& ~~~ BitVec.ofNat 64 b).toNat
theorem vA {m:Nat}(h:m<2 ^ 64):(BitVec.ofInt 64 (m:Int)).toNat=m:=by rw[BitVec.ofInt_natCast,BitVec.toNat_ofNat,Nat.mod_eq_of_lt h]
theorem DM (a b:Nat):iC a b<2 ^ 64:=(BitVec.isLt _)
theorem yX {a b i:Nat}(ha:a<2 ^ 64):(iC a b).testBit i=(a.testBit i && !b.testBit i):=by
 unfold iC;by_cases hi:i<64
 ·rw[<- BitVec.getLsbD,BitVec.getLsbD_and,BitVec.getLsbD_not,BitVec.getLsbD_ofNat,BitVec.getLsbD_ofNat];simp [hi]
 ·have h1:a.testBit i=false:=Nat.testBit_lt_two_pow (Nat.lt_of_lt_of_le ha (Nat.pow_le_pow_right (by decide) (by omega)));rw[h1,<- BitVec.getLsbD,BitVec.getLsbD_of_ge _ _ (by omega)];rfl
theorem vB {m:Nat}(h:m<2 ^ 64):IntKind.u64.wrap (m:Int)=m:=IntWalk.u64_in _ (by omega)
theorem vC {a b:Nat}(ha:a<2 ^ 64)(hb:b<2 ^ 64):bq P .and t x y (.lit (.int .u64 (a:Int))) (.lit (.int .u64 (b:Int)))=some (.lit (.int .u64 ((a &&& b:Nat):Int))):=by
 rw[sS];have e:(BitVec.ofInt (IntKind.bits .u64) (a:Int) &&& BitVec.ofInt (IntKind.bits .u64) (b:Int)).toNat=a &&& b:=by
  show (BitVec.ofInt 64 _ &&& BitVec.ofInt 64 _).toNat=_;rw[BitVec.toNat_and,vA ha,vA hb]
 rw[e,vB (Nat.lt_of_le_of_lt Nat.and_le_left ha)]
theorem kh {a b:Nat}(ha:a<2 ^ 64)(hb:b<2 ^ 64):bq P .or t x y (.lit (.int .u64 (a:Int))) (.lit (.int .u64 (b:Int)))=some (.lit (.int .u64 ((a ||| b:Nat):Int))):=by
 rw[Q4];have e:(BitVec.ofInt (IntKind.bits .u64) (a:Int) ||| BitVec.ofInt (IntKind.bits .u64) (b:Int)).toNat=a ||| b:=by
  show (BitVec.ofInt 64 _ ||| BitVec.ofInt 64 _).toNat=_;rw[BitVec.toNat_or,vA ha,vA hb]
 rw[e,vB (Nat.or_lt_two_pow ha hb)]
theorem yY {a b:Nat}:bq P .andNot t x y (.lit (.int .u64 (a:Int))) (.lit (.int .u64 (b:Int)))=some (.lit (.int .u64 ((iC a b:Nat):Int))):=by
 rw[Q5];have e:(BitVec.ofInt (IntKind.bits .u64) (a:Int) &&& ~~~ BitVec.ofInt (IntKind.bits .u64) (b:Int)).toNat=iC a b:=by
  show (BitVec.ofInt 64 _ &&& ~~~ BitVec.ofInt 64 _).toNat=_;rw[BitVec.ofInt_natCast,BitVec.ofInt_natCast];rfl
 rw[e,vB (DM a b)]
theorem lU {a s:Nat}(ha:a<2 ^ 64):bq P .shr t x y (.lit (.int .u64 (a:Int))) (.lit (.int k' (s:Int)))=some (.lit (.int .u64 ((a >>> s:Nat):Int))):=by
 rw[sR (by omega),Int.toNat_natCast];have e:(a:Int).fdiv (2 ^ (min s (IntKind.bits .u64)))=((a >>> s:Nat):Int):=by
  rw[Int.fdiv_eq_ediv_of_nonneg _ (by exact_mod_cast Nat.zero_le _),Nat.shiftRight_eq_div_pow];show (a:Int) / 2 ^ (min s 64)=_;rcases Nat.le_total s 64 with h|h
  ·rw[Nat.min_eq_left h];push_cast;rfl
  ·rw[Nat.min_eq_right h];have h1:a / 2 ^ s=0:=Nat.div_eq_of_lt (Nat.lt_of_lt_of_le ha (Nat.pow_le_pow_right (by decide) h));rw[h1];exact Int.ediv_eq_zero_of_lt (by omega) (by omega)
 rw[e]
theorem mO {s:Nat}(hs:s<64):bq P .shl t x y (.lit (.int .u64 1)) (.lit (.int k' (s:Int)))=some (.lit (.int .u64 ((2 ^ s:Nat):Int))):=by
 rw[yW (by omega),Int.toNat_natCast];have e:min s (IntKind.bits .u64)=s:=Nat.min_eq_left (by show s<=64;omega);have h2:2 ^ s<2 ^ 64:=Nat.pow_lt_pow_right (by decide) hs;rw[e,Int.one_mul];have h3:((2:Int) ^ s)=((2 ^ s:Nat):Int):=by push_cast;rfl
 rw[h3,vB h2]
theorem mQ {a s:Nat}(ha:a<2 ^ 64):bq P .and t x y (.lit (.int .u64 ((a >>> s:Nat):Int))) (.lit (.int .u64 1))=some (.lit (.int .u64 (if a.testBit s then 1 else 0))):=by
 have h1:a >>> s<2 ^ 64:=Nat.lt_of_le_of_lt (Nat.shiftRight_le _ _) ha;have:=vC (P:=P) (t:=t) (x:=x) (y:=y) (a:=a >>> s) (b:=1) h1 (by decide);rw[show (((1:Nat):Int))=1 from rfl]at this;rw[this,Nat.and_one_is_mod];congr 3;rw[Nat.testBit,Nat.and_comm,Nat.and_one_is_mod];rcases Nat.mod_two_eq_zero_or_one (a >>> s) with h|h<;>rw[h]<;>rfl
end
end Go.Hx
namespace Go.Proofs
open Go.Hx
theorem cu (H:AHeap)(b:Blk)(L:List Blk):(ext H (b :: L)).get H.next=some b:=aZ H (b :: L) 0 (by simp)
theorem yZ (l:List Int)(n:Nat):(ints l).take n=ints (l.take n):=by simp [ints]
theorem y8 (l:List Int)(n:Nat):(ints l).drop n=ints (l.drop n):=by simp [ints]
theorem aL {α:Type}{l:List α}{i:Nat}{a:α}(h:l[i]?=some a):¬ l=[]:=by rintro rfl;simp at h
theorem gH {l:List Int}{i:Nat}{x:Int}(h:i<l.length):setAt (ints l) i [.lit (.int .i64 x)]=ints (l.set i x):=by
 rw[g9 (by simpa [ints] using h)];simp [ints,aa]
theorem y9 (w:Bool):rF w (some (.lit undef))=some false:=rfl
end Go.Proofs
/-
  Mixed radix: numbers of combinations. Plain: no program stands in this text. No conditions.
-/
namespace Go.Proofs
open Go.Hx
def aR (ns:List NodeP)(x:NodeP):List Int:=aI (ak ns) x.parents
def bS:List Int->List Int->Int
 | _ :: cs,v :: vs=>v*aA cs+bS cs vs
 | _,_=>0
def bT:List Int->Int->List Int
 | [],_=>[]
 | c :: cs,i=>i / aA cs % c :: bT cs i
theorem ue (cs:List Int)(i:Int):(bT cs i).length=cs.length:=by
 induction cs with
 | nil=>rfl
 | cons c cs ih=>simp [bT,ih]
theorem Mq {α:Type}{l:List α}{k:Nat}{a:α}(h:l[k]?=some a):l.drop k=a :: l.drop (k+1):=by
 rw[List.drop_eq_getElem_cons (aM h)];congr 1;have:=List.getElem?_eq_getElem (aM h);rw[h]at this;exact(Option.some.inj this).symm
theorem xC {cs:List Int}(h:∀ c∈cs,1<=c)(i:Int):∀ (k:Nat) (c v:Int),cs[k]?=some c->(bT cs i)[k]?=some v->0<=v/\v<c:=by
 induction cs with
 | nil=>intro k c v h;simp at h
 | cons a cs ih =>
  intro k c v h1 h2;cases k with
  | zero =>
   simp only[bT,List.getElem?_cons_zero,Option.some.injEq]at h1 h2;subst h1;subst h2;have:=h a (by simp);exact⟨Int.emod_nonneg _ (by omega),Int.emod_lt_of_pos _ (by omega)⟩
  | succ k =>
   simp only[bT,List.getElem?_cons_succ]at h1 h2;exact ih (fun c hc=>h c (by simp [hc])) k c v h1 h2
def bY (cs vs:List Int):Prop:=vs.length=cs.length/\∀ (k:Nat) (c v:Int),cs[k]?=some c->vs[k]?=some v->0<=v/\v<c
theorem bY.tail {c v:Int}{cs vs:List Int}(h:bY (c :: cs) (v :: vs)):bY cs vs:=⟨by simpa using h.1,fun k c v h1 h2=>h.2 (k+1) c v (by simpa using h1) (by simpa using h2)⟩
theorem bY.head {c v:Int}{cs vs:List Int}(h:bY (c :: cs) (v :: vs)):0<=v/\v<c:=h.2 0 c v (by simp) (by simp)
theorem bY.pos {cs vs:List Int}(h:bY cs vs):∀ c∈cs,1<=c:=fun c hc=>by
 obtain⟨k,hk⟩:=List.mem_iff_getElem?.1 hc;obtain⟨v,hv⟩:=aq (l:=vs) (i:=k) (by rw[h.1];exact aM hk);have:=h.2 k c v hk hv;omega
theorem qe {cs:List Int}(h:∀ c∈cs,1<=c)(i:Int):bY cs (bT cs i):=⟨ue cs i,xC h i⟩
theorem mn:∀ {cs vs:List Int},bY cs vs->0<=bS cs vs/\bS cs vs<aA cs:=by
 intro cs
 induction cs with
 | nil=>intro vs _;cases vs<;>(simp [bS,iG])
 | cons c cs ih =>
  intro vs h;cases vs with
  | nil=>exact absurd h.1 (by simp)
  | cons v vs =>
   have h1:=ih h.tail;have h2:=h.head;have hp:1<=aA cs:=fG fun x hx=>h.pos x (by simp [hx]);rw[jT];simp only[bS];have h3:0<=v*aA cs:=Int.mul_nonneg h2.1 (by omega);have h4:(v+1)*aA cs<=c*aA cs:=Int.mul_le_mul_of_nonneg_right (by omega) (by omega);rw[Int.add_mul,Int.one_mul]at h4;omega
theorem rQ:∀ {cs vs:List Int},bY cs vs->bT cs (bS cs vs)=vs:=by
 have key:∀ (cs:List Int) (i a c:Int),(∀ x∈cs,1<=x)->bT cs (a*aA cs*c+i)=bT cs i:=by
  intro cs
  induction cs with
  | nil=>intros;rfl
  | cons x cs ih =>
   intro i a c h;have hx:=h x (by simp);have hp:1<=aA cs:=fG fun y hy=>h y (by simp [hy]);simp only[bT,jT];have e1:a*(x*aA cs)*c+i=i+aA cs*(x*(a*c)):=by
    rw[Int.add_comm];congr 1;ac_rfl
   have e2:a*(x*aA cs)*c+i=a*aA cs*(x*c)+i:=(by congr 1;ac_rfl);congr 1
   ·rw[e1,Int.add_mul_ediv_left _ _ (by omega),Int.add_mul_emod_self_left]
   ·rw[e2];exact ih i a (x*c) fun y hy=>h y (by simp [hy])
 intro cs
 induction cs with
 | nil=>intro vs h;cases vs with
  | nil=>rfl
  | cons=>exact absurd h.1 (by simp)
 | cons c cs ih =>
  intro vs h;cases vs with
  | nil=>exact absurd h.1 (by simp)
  | cons v vs =>
   have hp:1<=aA cs:=fG fun x hx=>h.pos x (by simp [hx]);have hr:=mn h.tail;have h2:=h.head;simp only[bS,bT];congr 1
   ·rw[Int.add_comm,Int.add_mul_ediv_right _ _ (by omega),Int.ediv_eq_zero_of_lt hr.1 hr.2,Int.zero_add,Int.emod_eq_of_lt h2.1 h2.2]
   ·have:=key cs (bS cs vs) v 1 fun x hx=>h.pos x (by simp [hx]);rw[Int.mul_one]at this;rw[this];exact ih h.tail
theorem Mr (i m n:Int)(hm:0<m)(hn:0<n):i % (m*n)=i % m+m*(i / m % n):=by
 have h1:=Int.emod_add_mul_ediv i (m*n);have h2:=Int.emod_add_mul_ediv i m;have h3:=Int.emod_add_mul_ediv (i / m) n;have h4:i / m / n=i / (m*n):=Int.ediv_ediv_of_nonneg (by omega);rw[h4]at h3;have h5:m*(i / m)=m*(i / m % n)+m*n*(i / (m*n)):=by
  conv=>lhs;rw[<- h3]
  rw[Int.mul_add,Int.mul_assoc]
 omega
theorem xD {cs:List Int}(h:∀ c∈cs,1<=c):∀ {i:Int},0<=i->i<aA cs->bS cs (bT cs i)=i:=by
 have:∀ (cs:List Int) (i:Int),(∀ c∈cs,1<=c)->bS cs (bT cs i)=i % aA cs:=by
  intro cs
  induction cs with
  | nil=>intro i _;simp [bS,bT,iG]
  | cons c cs ih =>
   intro i h;have hp:1<=aA cs:=fG fun x hx=>h x (by simp [hx]);simp only[bS,bT];rw[ih i fun x hx=>h x (by simp [hx]),jT,Int.mul_comm c,Mr _ _ _ (by omega:0<aA cs) (by have:=h c (by simp);omega)];rw[Int.mul_comm];omega
 intro i h0 h1;rw[this cs i h,Int.emod_eq_of_lt h0 h1]
def eK (cs vs:List Int):Int:=(cs.zip vs).foldl (fun a p=>a*p.1+p.2) 0
theorem Ms:∀ (cs vs:List Int),vs.length=cs.length->∀ a,(cs.zip vs).foldl (fun a p=>a*p.1+p.2) a=a*aA cs+bS cs vs:=by
 intro cs
 induction cs with
 | nil=>intro vs _ a;simp [iG,bS]
 | cons c cs ih =>
  intro vs h a;cases vs with
  | nil=>simp at h
  | cons v vs =>
   simp only[List.zip_cons_cons,List.foldl_cons];rw[ih vs (by simpa using h),jT];simp only[bS];rw[Int.add_mul,Int.mul_assoc];omega
theorem qf {cs vs:List Int}(h:vs.length=cs.length):eK cs vs=bS cs vs:=by
 unfold eK;rw[Ms cs vs h];omega
theorem qg {cs vs:List Int}{k:Nat}{c v:Int}(h1:cs[k]?=some c)(h2:vs[k]?=some v):eK (cs.take (k+1)) (vs.take (k+1))=eK (cs.take k) (vs.take k)*c+v:=by
 unfold eK;rw[aV h1,aV h2,List.zip_append (by have:=aM h1;have:=aM h2;simp;omega),List.foldl_append];rfl
def kB:List Int->List Int->Option (List Int)
 | c :: cs,v :: vs=>match kB cs vs with
  | some ws=>some (v :: ws)
  | none=>if v+1<c then some ((v+1) :: cs.map fun _=>0) else none
 | _,_=>none
theorem A8 {cs:List Int}(h:∀ c∈cs,1<=c):bT cs 0=cs.map fun _=>0:=by
 induction cs with
 | nil=>rfl
 | cons c cs ih=>simp [bT,ih fun x hx=>h x (by simp [hx])]
theorem Mt:∀ {cs vs:List Int},bY cs vs->kB cs vs=if bS cs vs+1<aA cs then some (bT cs (bS cs vs+1)) else none:=by
 intro cs
 induction cs with
 | nil=>intro vs h;cases vs with
  | nil=>simp [kB,bS,iG]
  | cons=>exact absurd h.1 (by simp)
 | cons c cs ih =>
  intro vs h;cases vs with
  | nil=>exact absurd h.1 (by simp)
  | cons v vs =>
   have hpos:∀ x∈cs,1<=x:=fun x hx=>h.pos x (by simp [hx]);have hp:1<=aA cs:=fG hpos;have hr:=mn h.tail;have h2:=h.head;have hv:=rQ h.tail;simp only[kB,ih h.tail,bS,jT];by_cases hb:bS cs vs+1<aA cs
   ·rw[if_pos hb];have h4:(v+1)*aA cs<=c*aA cs:=Int.mul_le_mul_of_nonneg_right (by omega) (by omega);rw[Int.add_mul,Int.one_mul]at h4;have hlt:v*aA cs+bS cs vs+1<c*aA cs:=(by omega);rw[if_pos hlt];simp only[bT];have g1:v=(v*aA cs+bS cs vs+1) / aA cs % c:=by
     rw[Int.add_assoc,Int.add_comm,Int.add_mul_ediv_right _ _ (by omega),Int.ediv_eq_zero_of_lt (by omega) hb,Int.zero_add,Int.emod_eq_of_lt h2.1 h2.2]
    have g2:bT cs (bS cs vs+1)=bT cs (v*aA cs+bS cs vs+1):=by
     have e:bS cs vs+1=bS cs (bT cs (bS cs vs+1)):=(xD hpos (by omega) hb).symm;have f:bY (c :: cs) (v :: bT cs (bS cs vs+1)):=⟨by simp [ue],fun k c' v' h1 h3=>by
      cases k with
      | zero=>simp at h1 h3;subst h1;subst h3;exact h2
      | succ k=>exact xC hpos _ k c' v' (by simpa using h1) (by simpa using h3)⟩
     have:=rQ f;simp only[bS,bT,List.cons.injEq]at this;rw[<- e]at this;rw[Int.add_assoc];exact this.2.symm
    rw[<- g1,<- g2]
   ·rw[if_neg hb];have hi:bS cs vs+1=aA cs:=(by omega);have e1:v*aA cs+bS cs vs+1=(v+1)*aA cs:=(by rw[Int.add_mul];omega);rw[e1];by_cases hc:v+1<c
    ·rw[if_pos hc];have h4:(v+1)*aA cs<c*aA cs:=Int.mul_lt_mul_of_pos_right hc (by omega);rw[if_pos h4];simp only[bT];congr 1;congr 1
     ·rw[Int.mul_ediv_cancel _ (by omega),Int.emod_eq_of_lt (by omega) hc]
     ·have f:bY (c :: cs) ((v+1) :: bT cs 0):=⟨by simp [ue],fun k c' v' h1 h3=>by
       cases k with
       | zero=>simp at h1 h3;subst h1;subst h3;omega
       | succ k=>exact xC hpos _ k c' v' (by simpa using h1) (by simpa using h3)⟩
      have:=rQ f;simp only[bS,bT,List.cons.injEq]at this;rw[xD hpos (Int.le_refl 0) (by omega),Int.add_zero]at this;rw[this.2,A8 hpos]
    ·rw[if_neg hc];have h4:c*aA cs<=(v+1)*aA cs:=Int.mul_le_mul_of_nonneg_right (by omega) (by omega);rw[if_neg (by omega)]
end Go.Proofs
namespace Go.Proofs
open Go.Hx
def dS (l:List Int):Prop:=l.length<=12/\∀ x∈l,0<=x/\x<=8
theorem dS.prod {l:List Int}(h:dS l):0<=aA l/\aA l<=68719476736:=by
 have h1:=nC (b:=8) (by omega) h.2;have h2:(8:Int) ^ l.length<=8 ^ 12:=by
  have:(8:Nat) ^ l.length<=8 ^ 12:=Nat.pow_le_pow_right (by decide) h.1
  exact_mod_cast this
 exact⟨h1.1,Int.le_trans h1.2 h2⟩
theorem dS.take {l:List Int}(h:dS l)(k:Nat):dS (l.take k):=⟨by have:=h.1;simp;omega,fun x hx=>h.2 x (List.mem_of_mem_take hx)⟩
theorem dS.drop {l:List Int}(h:dS l)(k:Nat):dS (l.drop k):=⟨by have:=h.1;simp;omega,fun x hx=>h.2 x (List.mem_of_mem_drop hx)⟩
theorem O6 (l:List Int)(hl:dS l)(H:AHeap)(K:ARes->AHeap->Prop)(hK:K (.ret (aa (aA l))) H):ae Tryz.prog G0 100 [ah l] H K:=by
 have l12:=hl.1;refine ae.aT (n:=18) (rs:=[.tmp 2]) Tryz.func100 rfl rfl rfl (by decide) (by kernel_rfl) (by simp) ?_;simp only[go_sem];refine W.aO 131064 (by rfl) (fun ρ H'=>H'=H/\∃ k:Nat,ρ 4=aa k/\k<=l.length/\ρ 3=aa (aA (l.take k))) (fun ρ H=>l.length - (iv (ρ 4)).toNat) ?_ ?_
 ·simp only[go_sem];exact⟨0,rfl,by omega,by simp [iG]⟩
 rintro ρ H' ⟨rfl,k,h4,hk,h3⟩;refine af _ _ _ (by rfl) ?_;by_cases hb:(k:Int)<l.length
 ·obtain⟨c,hc⟩:=aq (l:=l) (i:=k) (by omega);have hne:=aL hc;have b1:=(hl.take (k+1)).prod;rw[aV hc,fF]at b1;simp only[go_sem,h4,h3,hb,hc,hne];rw[IntWalk.i64_in ((k:Int)+1) (by omega),IntWalk.i64_in (_*c) (by omega)];exact⟨⟨k+1,by simp,by omega,by rw[aV hc,fF]⟩,by omega⟩
 ·simp only[go_sem,h4,h3,hb];rw[List.take_of_length_le (by omega)];exact au.mk (Nat.le_refl _) hK
end Go.Proofs
namespace Go.Proofs
open Go.Hx
theorem CS (x:List Int)(hx:(x.length:Int)<2 ^ 40)(H:AHeap)(K:ARes->AHeap->Prop)(hK:K (.ret (ah x)) H):ae Tryz.prog G0 49 [ah x] H K:=by
 refine ae.clo ⟨_,Tryz.func49,rfl,rfl⟩ fun hc=>?_;refine ae.aT (n:=8) (rs:=[.tmp 2]) Tryz.func49 rfl rfl rfl (by decide) (by kernel_rfl) (by simp) ?_;simp only[go_sem];intro b hlen;cases b with
 | true =>
  have hx0:x=[]:=List.eq_nil_of_length_eq_zero (by
   by_cases h:0<x.length
   ·have:=hlen (by simpa using h);cases this
   ·omega)
  simp only[go_sem];subst hx0;exact au.IN aK hc .wR hK
 | false =>
  by_cases h0:x.length=0
  ·have hx0:x=[]:=List.eq_nil_of_length_eq_zero h0;subst hx0;simp only[go_sem,bI];refine⟨⟨rfl,rfl⟩,au.drop (v':=ah []) aK hc ?_ hK⟩;exact .ints (Nat.le_refl _) (cu ..) rfl fun i hi=>absurd hi (Nat.not_lt_zero _)
  ·simp only[go_sem,h0,bI];refine⟨⟨rfl,by omega,by omega,lh x⟩,au.drop aK hc ?_ hK⟩;exact .ints (Nat.le_refl _) (cu ..) rfl fun i hi=>by simp [d6,hi]
end Go.Proofs
namespace Go.Proofs
open Go.Hx
instance placesDec (l:List Int)(n:Int):Decidable (cJ l n):=by unfold cJ;infer_instance
theorem cJ.nil {n:Int}:cJ [] n:=⟨.nil,fun _ h=>by cases h⟩
theorem cJ.take {l:List Int}{n:Int}(h:cJ l n)(k:Nat):cJ (l.take k) n:=⟨h.1.sublist (List.take_sublist k l),fun p hp=>h.2 p (List.mem_of_mem_take hp)⟩
theorem cJ.snoc {l:List Int}{n a:Int}(h:cJ l n)(ha:0<=a/\a<n)(hl:∀ b,l.getLast?=some b->b<a):cJ (l++[a]) n:=by
 refine⟨List.pairwise_append.2 ⟨h.1,by simp,fun x hx y hy=>?_⟩,fun p hp=>?_⟩
 ·obtain rfl:=List.mem_singleton.1 hy;rcases List.eq_nil_or_concat l with rfl|⟨l',b,rfl⟩
  ·cases hx
  ·have hb:=hl b (by simp);simp only[List.concat_eq_append]at hx h;rcases List.mem_append.1 hx with hx|hx
   ·have:=(List.pairwise_append.1 h.1).2.2 x hx b (by simp);omega
   ·obtain rfl:=List.mem_singleton.1 hx;exact hb
 ·rcases List.mem_append.1 hp with hp|hp
  ·exact h.2 p hp
  ·obtain rfl:=List.mem_singleton.1 hp;exact ha
theorem cJ.lt {l:List Int}{n:Int}(h:cJ l n){i j:Nat}{a b:Int}(ha:l[i]?=some a)(hb:l[j]?=some b)(hij:i<j):a<b:=by
 have:=List.pairwise_iff_getElem.1 h.1 i j (aM ha) (aM hb) hij;have e1:=List.getElem?_eq_getElem (aM ha);have e2:=List.getElem?_eq_getElem (aM hb);rw[ha]at e1;rw[hb]at e2;rw[Option.some.inj e1,Option.some.inj e2];exact this
theorem cJ.len {l:List Int}{n:Int}(h:cJ l n):(l.length:Int)<=max n 0:=by
  -- the k-th place is at least k
 have key:∀ (k:Nat) (a:Int),l[k]?=some a->(k:Int)<=a:=by
  intro k
  induction k with
  | zero=>intro a ha;have:=h.2 a (List.mem_of_getElem? ha);omega
  | succ k ih =>
   intro a ha;obtain⟨b,hb⟩:=aq (l:=l) (i:=k) (by have:=aM ha;omega);have:=ih b hb;have:=h.lt hb ha (by omega);omega
 rcases Nat.eq_zero_or_pos l.length with h0|h0
 ·omega
 ·obtain⟨a,ha⟩:=aq (l:=l) (i:=l.length - 1) (by omega);have h1:=key _ a ha;have h2:=h.2 a (List.mem_of_getElem? ha);omega
theorem uU {l:List Int}{j:Nat}{b:Int}(h:l[j]?=some b):(l.take (j+1)).getLast?=some b:=by rw[aV h];simp
theorem CT (l:List Int)(n:Int)(hl:(l.length:Int)<2 ^ 62)(H:AHeap)(K:ARes->AHeap->Prop)(hK:K (.ret (.lit (.bool (decide (cJ l n))))) H):ae Tryz.prog G0 146 [ah l,aa n] H K:=by
 have no:¬ cJ l n->au Tryz.prog G0 H K (.lit (.bool false)) H:=fun h=>au.mk (Nat.le_refl _) (by rw[decide_eq_false h]at hK;exact hK);refine ae.aT (n:=24) (rs:=[.tmp 4]) Tryz.func146 rfl rfl rfl (by decide) (by kernel_rfl) (by simp) ?_;simp only[go_sem];refine W.aO 16776368 (by rfl) (fun ρ H'=>H'=H/\∃ (k:Nat) (b:Int),ρ 10=aa k/\k<=l.length/\ρ 5=aa b/\cJ (l.take k) n/\(l.take k).getLast?.getD (-1)=b) (fun ρ H=>l.length - (iv (ρ 10)).toNat) ?_ ?_
 ·simp only[go_sem];exact⟨0,-1,rfl,by omega,rfl,.nil,rfl⟩
 rintro ρ H' ⟨rfl,k,b,h10,hk,h5,hp,hbl⟩;refine af _ _ _ (by rfl) ?_;by_cases hb:(k:Int)<l.length
 ·obtain⟨a,ha⟩:=aq (l:=l) (i:=k) (by omega);have hne:=aL ha;have ham:=List.mem_of_getElem? ha;by_cases c1:a<=b
  ·simp only[go_sem,h10,h5,hb,ha,hne,c1];refine no fun h=>?_;have h0:=h.2 a ham;rcases Nat.eq_zero_or_pos k with rfl|hk0
   ·simp at hbl;omega
   ·obtain⟨j,rfl⟩:∃ j,k=j+1:=⟨k - 1,by omega⟩
    obtain⟨b',hbj⟩:=aq (l:=l) (i:=j) (by omega);rw[uU hbj]at hbl;have:=h.lt hbj ha (by omega);simp at hbl;omega
  by_cases c2:a >= n
  ·simp only[go_sem,h10,h5,hb,ha,hne,c1,c2];exact no fun h=>by have:=h.2 a ham;omega
  have w1:=IntWalk.i64_in ((k:Int)+1) (by omega);simp only[go_sem,h10,h5,hb,ha,hne,c1,c2,w1];have h0:0<=a:=by
   rcases hg:(l.take k).getLast? with _|b'
   ·rw[hg]at hbl;simp at hbl;omega
   ·rw[hg]at hbl;have:=hp.2 b' (List.mem_of_getLast? hg);simp at hbl;omega
  refine⟨⟨k+1,a,by simp,by omega,rfl,?_,by rw[uU ha];rfl⟩,by omega⟩;rw[aV ha];exact hp.snoc ⟨h0,by omega⟩ fun b' hb'=>by rw[hb']at hbl;simp at hbl;omega
 ·simp only[go_sem,h10,hb];rw[List.take_of_length_le (by omega)]at hp;rw[decide_eq_true hp]at hK;exact au.mk (Nat.le_refl _) hK
end Go.Proofs
namespace Go.Hx
theorem Over.live {H H':AHeap}(h:Over H H'){id g:Nat}(hi:id<H.next):H'.live id g=H.live id g:=by
 unfold AHeap.live;rw[h.old id hi]
theorem Over.upd {H H':AHeap}(h:Over H H'){id:Nat}(hi:H.next<=id)(b:Blk):Over H (H'.upd id b):=⟨h.next,fun j hj=>by rw[aj,if_neg (by omega)];exact h.old j hj⟩
theorem DN {H:AHeap}{id g:Nat}{e:TypeId}{c:List AVal}:(H.upd id (.arr g e c)).live id g=some (e,c):=ag (by rw[aj,if_pos rfl])
theorem n9 {H:AHeap}{id j g:Nat}{b:Blk}(h:j≠id):(H.upd id b).live j g=H.live j g:=by unfold AHeap.live;rw[aj,if_neg h]
attribute [go_sem] DN
@[go_sem] theorem RG (a b:Array TypeId)(c:Bool)(n:Nat)(cells:List AVal)(off:Nat):mh (some (.func a b c)) n cells off=cells[off]?:=rfl
end Go.Hx
namespace Go.Proofs
open Go.Hx
theorem mz {H H' H2:AHeap}{e:TypeId}{v:AVal}{cs:List AVal}(ov:Over H H')(h:aG H.next H' e v cs)(hn:H'.next<=H2.next)(hp:∀ k,k<H'.next->(∀ g n,v≠.own k g 0 n 1)->H2.get k=H'.get k):Over H H2 :=
 ⟨Nat.le_trans ov.next hn,fun id hi=>by
  rw[hp id (Nat.lt_of_lt_of_le hi ov.next) fun g n he=>?_,ov.old id hi];rcases h with ⟨h,_⟩|⟨i2,g2,a1,_,h,_⟩
  ·rw[h]at he;cases he
  ·rw[h]at he;have:=AVal.own.inj he;omega⟩
theorem ki {H H':AHeap}{v:AVal}{l:List Int}(x:Int)(ov:Over H H')(h:aG H.next H' 3 v (ints l))(hl:l.length<2 ^ 40):
  ∃ v' H2,bQ Tryz.prog (ext H' [.arr 0 3 [.lit (.int .i64 x)]]) (H'.next+1) 46 46 v (.own H'.next 0 0 1 1)=some (v',H2)/\Over H H2/\aG H.next H2 3 v' (ints (l++[x]))/\H'.next<=H2.next/\(∀ k,k<H'.next->(∀ g n,v≠.own k g 0 n 1)->H2.get k=H'.get k):=by
 obtain⟨v',H2,hA,hO,hn2,hp⟩:=jc (P:=Tryz.prog) (H:=H') (t:=46) (x:=aa x) (n:=H'.next+1) Tryz.underlying46 Tryz.fk Tryz.fm rfl (by rw[Tryz.fR,aX];omega) h ov.next rfl;simp only[aa]at hA;exact⟨v',H2,hA,mz ov h hn2 hp,by simpa [ints,aa] using hO,hn2,hp⟩
theorem Q6 (l:List (List Int)):(aD l).one=true:=rfl
theorem Q7 (l:List (List Int)):(aD l).cells=[aD l]:=rfl
theorem Q8 (l:List NodeP):(dw l).one=true:=rfl
theorem Ra (l:List NodeP):(dw l).cells=[dw l]:=rfl
theorem Rb (l:List UtilP):(uc l).one=true:=rfl
theorem Rc (l:List UtilP):(uc l).cells=[uc l]:=rfl
attribute [go_sem] Q6 Q7 Q8 Ra Rb Rc
structure OwnI (H H':AHeap)(id:Nat)(c:List Int):Prop where
 ov:Over H H'
 lo:H.next<=id
 hi:id<H'.next
 get:H'.get id=some (.arr 0 3 (ints c))
theorem OwnI.live {H H':AHeap}{id:Nat}{c:List Int}(h:OwnI H H' id c):H'.live id 0=some (3,ints c):=ag h.get
theorem OwnI.Rd {H H':AHeap}{id:Nat}{c:List Int}(h:OwnI H H' id c)(L:List Blk):(ext H' L).live id 0=some (3,ints c):=by rw[eU h.hi];exact h.live
theorem OwnI.ne {H H':AHeap}{id:Nat}{c:List Int}(h:OwnI H H' id c):¬ id=H'.next:=by have:=h.hi;omega
theorem OwnI.over {H H' H2:AHeap}{id:Nat}{c:List Int}(h:OwnI H H' id c)(o:Over H' H2):OwnI H H2 id c:=⟨h.ov.trans o,h.lo,Nat.lt_of_lt_of_le h.hi o.next,(o.old id h.hi).trans h.get⟩
theorem OwnI.store {H H':AHeap}{id:Nat}{c:List Int}(h:OwnI H H' id c){k:Nat}(hk:k<c.length)(x:Int):OwnI H (H'.upd id (.arr 0 3 (setAt (ints c) k [.lit (.int .i64 x)]))) id (c.set k x) :=
 ⟨⟨h.ov.next,fun i hi=>by rw[aj,if_neg (by have:=h.lo;omega)];exact h.ov.old i hi⟩,h.lo,h.hi,by rw[aj,if_pos rfl,gH hk]⟩
theorem OwnI.Re {H H':AHeap}{id:Nat}{c:List Int}(h:OwnI H H' id c)(L:List Blk){k:Nat}(hk:k<c.length)(x:Int):OwnI H ((ext H' L).upd id (.arr 0 3 (setAt (ints c) k [.lit (.int .i64 x)]))) id (c.set k x) :=
 (h.over (.ext H' L)).store hk x
theorem OwnI.new {H:AHeap}(L:List Blk)(n:Nat):OwnI H (ext H (.arr 0 3 (List.replicate n (.lit (.int .i64 0))) :: L)) H.next (List.replicate n 0) :=
 ⟨.ext _ _,Nat.le_refl _,by simp [bf],by rw[cu];simp [ints,aa]⟩
theorem OwnI.fin {H H':AHeap}{id:Nat}{c:List Int}{K:ARes->AHeap->Prop}(hcl:Clo H)(h:OwnI H H' id c){n:Nat}(hn:n=c.length)(hK:K (.ret (ah c)) H):au Tryz.prog G0 H K (.own id 0 0 n 1) H':=by
 subst hn;refine au.bE aK hcl h.ov ?_ hK;exact .ints h.lo h.get (by simp) fun i hi=>by simp [d6,hi]
theorem DO {l m:List Int}{k:Nat}{x:Int}(h:l.take k=m.take k)(hk:k<l.length)(hx:m[k]?=some x):(l.set k x).take (k+1)=m.take (k+1):=by
 rw[aV hx,aV (show (l.set k x)[k]?=some x by rw[List.getElem?_set_self hk]),List.take_set_of_le (Nat.le_refl k),h]
end Go.Proofs
namespace Go.Proofs
open Go.Hx
theorem bJ {α:Type}{l:List α}{i:Nat}{a d:α}(h:l[i]?=some a):l.getD i d=a:=by rw[List.getD_eq_getElem?_getD,h];rfl
theorem O7 {l places:List Int}{k:Nat}{p:Int}(h:places[k]?=some p):aI l (places.take (k+1))=aI l (places.take k)++[l.getD p.toNat 0]:=by
 unfold aI;rw[aV h];simp
theorem cU {ns:List NodeP}{k:Nat}{x:NodeP}(h:ns[k]?=some x):(ak ns)[k]?=some x.card:=by unfold ak;rw[List.getElem?_map,h];rfl
theorem dc (ns:List NodeP):(ak ns).length=ns.length:=by simp [ak]
theorem O8 (g:Int)(ns:List NodeP)(hl:(ns.length:Int)<2 ^ 39)(H:AHeap)(K:ARes->AHeap->Prop)(hK:K (.ret (ah (ak ns))) H):ae Tryz.prog G0 56 [da g ns] H K:=by
 refine ae.clo ⟨_,Tryz.func56,rfl,rfl⟩ fun hcl=>?_;refine ae.aT (n:=22) (rs:=[.tmp 2]) Tryz.func56 rfl rfl rfl (by decide) (by kernel_rfl) (by simp) ?_;simp only[go_sem,da,dw];obtain⟨H1,hH1⟩:∃ H1,H1=ext H [.arr 0 103 [.lit (.int .i64 g),.vec ns.length (aC ns)]]:=⟨_,rfl⟩
 have l1:H1.live H.next 0=some (103,[.lit (.int .i64 g),.vec ns.length (aC ns)]):=by rw[hH1];exact ag (cu ..)
 have n1:H1.next=H.next+1:=by rw[hH1];rfl
 have o1:Over H H1:=by rw[hH1];exact .ext _ _
 rw[<- hH1];refine W.aO 2097144 (by rfl) (fun ρ H'=>∃ k:Nat,ρ 4=aa k/\k<=ns.length/\ρ 1=.ptr H.next 0 0/\Over H1 H'/\aG H1.next H' 3 (ρ 3) (ints ((ak ns).take k))) (fun ρ H=>ns.length - (iv (ρ 4)).toNat) ?_ ?_
 ·simp only[go_sem];exact⟨0,rfl,by omega,.refl _,.nil⟩
 rintro ρ H' ⟨k,h4,hk,h1,ov,h3⟩;refine af _ _ _ (by rfl) ?_;have l2:=(ov.live (g:=0) (by omega:H.next<H1.next)).trans l1;by_cases hb:(k:Int)<ns.length
 ·obtain⟨x,hx⟩:=aq (l:=ns) (i:=k) (by omega);have hne:=ep hx;have e0:=je hx;obtain⟨v',H2,hA,ov2,hO,hn2,_⟩:=ki x.card ov h3 (by simp [ak];omega);have w1:=IntWalk.i64_in ((k:Int)+1) (by omega);simp only[go_sem,h4,h1,l2,hb,hne,e0,w1,hA];refine⟨by have:=ov2.next;omega,⟨k+1,by simp,by omega,ov2,?_⟩,by omega⟩;rw[aV (cU hx)];exact hO
 ·simp only[go_sem,h4,h1,l2,hb];rw[List.take_of_length_le (by rw[dc];omega)]at h3;exact au.bE aK hcl (o1.trans ov) (h3.ic fun i hi=>by omega) hK
theorem sF (ns:List NodeP)(hl:(ns.length:Int)<2 ^ 39)(H:AHeap)(K:ARes->AHeap->Prop)(hK:K (.ret (ah (ak ns))) H):ae Tryz.prog G0 117 [dw ns] H K:=by
 refine ae.clo ⟨_,Tryz.func117,rfl,rfl⟩ fun hcl=>?_;refine ae.aT (n:=23) (rs:=[.tmp 2]) Tryz.func117 rfl rfl rfl (by decide) (by kernel_rfl) (by simp) ?_;simp only[go_sem,dw];refine⟨by omega,?_⟩;refine W.aO 4192304 (by rfl) (fun ρ H'=>∃ (k:Nat) (c:List Int),ρ 11=aa k/\k<=ns.length/\OwnI H H' H.next c/\c.length=ns.length/\c.take k=(ak ns).take k) (fun ρ H=>ns.length - (iv (ρ 11)).toNat) ?_ ?_
 ·simp only[go_sem];exact⟨0,_,rfl,by omega,.new [] ns.length,by simp,rfl⟩
 rintro ρ H' ⟨k,c,h11,hk,ho,hcl',hc⟩;refine af _ _ _ (by rfl) ?_;by_cases hb:(k:Int)<ns.length
 ·obtain⟨x,hx⟩:=aq (l:=ns) (i:=k) (by omega);have hne:=ep hx;have e0:=oI hx;have e1:k*3+3<=(aC ns).length:=by rw[jS];omega
  have w1:=IntWalk.i64_in ((k:Int)+1) (by omega);have l3:=ho.Rd;have nb:=ho.ne;simp only[go_sem,h11,l3,hb,hne,e0,e1,w1];have hkc:k<c.length:=by omega
  have ho2:=ho.Re [.arr 0 73 [.lit (.int .i64 x.card),.vec x.parents.length (ints x.parents),aD x.rows]] hkc x.card;exact⟨by omega,by have:=ho2.hi;omega,⟨k+1,_,rfl,by omega,ho2,by simpa using hcl',DO hc hkc (cU hx)⟩,by omega⟩
 ·simp only[go_sem,h11,hb];have e:c=ak ns:=by
   rw[List.take_of_length_le (by omega),List.take_of_length_le (by rw[dc];omega)]at hc;exact hc
  subst e;exact ho.fin hcl (by rw[dc]) hK
end Go.Proofs
namespace Go.Proofs
open Go.Hx
def fK (l:List Int)(n:Nat):Prop:=∀ q∈l,0<=q/\q<n
theorem gJ (l p:List Int):(aI l p).length=p.length:=by simp [aI]
theorem jF {l p:List Int}{k:Nat}{q:Int}(h:p[k]?=some q):(aI l p)[k]?=some (l.getD q.toNat 0):=by unfold aI;rw[List.getElem?_map,h];rfl
theorem O9 (l:List Int)(hl:dS l)(H:AHeap)(K:ARes->AHeap->Prop)(hK:K (.ret (aa (aA l))) H):ae Tryz.prog G0 145 [ah l] H K:=by
 have l12:=hl.1;refine ae.aT (n:=17) (rs:=[.tmp 2]) Tryz.func145 rfl rfl rfl (by decide) (by kernel_rfl) (by simp) ?_;simp only[go_sem];refine W.aO 65320 (by rfl) (fun ρ H'=>H'=H/\∃ k:Nat,ρ 8=aa k/\k<=l.length/\ρ 3=aa (aA (l.take k))) (fun ρ H=>l.length - (iv (ρ 8)).toNat) ?_ ?_
 ·simp only[go_sem];exact⟨0,rfl,by omega,by simp [iG]⟩
 rintro ρ H' ⟨rfl,k,h4,hk,h3⟩;refine af _ _ _ (by rfl) ?_;by_cases hb:(k:Int)<l.length
 ·obtain⟨c,hc⟩:=aq (l:=l) (i:=k) (by omega);have hne:=aL hc;have b1:=(hl.take (k+1)).prod;rw[aV hc,fF]at b1;have w1:=IntWalk.i64_in ((k:Int)+1) (by omega);have w2:=IntWalk.i64_in (aA (l.take k)*c) (by omega);simp only[go_sem,h4,h3,hb,hc,hne,w1,w2];exact⟨⟨k+1,by simp,by omega,by rw[aV hc,fF]⟩,by omega⟩
 ·simp only[go_sem,h4,h3,hb];rw[List.take_of_length_le (by omega)];exact au.mk (Nat.le_refl _) hK
theorem uV (ns:List NodeP)(v:Nat)(x:NodeP)(hx:ns[v]?=some x)(hin:fK x.parents ns.length)(hs:dS (aR ns x))(H:AHeap)(K:ARes->AHeap->Prop)
  (hK:K (.ret (aa (aA (aR ns x)))) H):ae Tryz.prog G0 66 [dw ns,aa v] H K:=by
 have hne:=ep hx;have e1:=lC hx;have hv:(v:Int)<ns.length:=by have:=aM hx;omega
 have l12:=hs.1;have pl:(aR ns x).length=x.parents.length:=gJ _ _;refine ae.aT (n:=27) (rs:=[.tmp 4]) Tryz.func66 rfl rfl rfl (by decide) (by kernel_rfl) (by simp) ?_;simp only[go_sem,dw,hv,hne,e1];refine W.aO 67092640 (by rfl) (fun ρ H'=>H'=H/\∃ k:Nat,ρ 14=aa k/\k<=x.parents.length/\ρ 5=aa (aA ((aR ns x).take k))) (fun ρ H=>x.parents.length - (iv (ρ 14)).toNat) ?_ ?_
 ·simp only[go_sem];exact⟨0,rfl,by omega,by simp [iG]⟩
 rintro ρ H' ⟨rfl,k,h14,hk,h5⟩;refine af _ _ _ (by rfl) ?_;by_cases hb:(k:Int)<x.parents.length
 ·obtain⟨q,hq⟩:=aq (l:=x.parents) (i:=k) (by omega);obtain⟨j,rfl,y,hy⟩:=mm (l:=ns) (hin q (List.mem_of_getElem? hq)).1 (hin q (List.mem_of_getElem? hq)).2;have hne2:=aL hq;have hj:(j:Int)<ns.length:=by have:=aM hy;omega
  have e0:=je hy;have pk:(aR ns x)[k]?=some y.card:=by
   rw[show (aR ns x)[k]?=_ from jF hq,Int.toNat_natCast,bJ (cU hy)]
  have b1:=(hs.take (k+1)).prod;rw[aV pk,fF]at b1;have w1:=IntWalk.i64_in ((k:Int)+1) (by omega);have w2:=IntWalk.i64_in (aA ((aR ns x).take k)*y.card) (by omega);simp only[go_sem,h14,h5,hb,hq,hne,hne2,hj,e0,w1,w2];exact⟨⟨k+1,by simp,by omega,by rw[aV pk,fF]⟩,by omega⟩
 ·simp only[go_sem,h14,h5,hb];rw[List.take_of_length_le (by omega)];exact au.mk (Nat.le_refl _) hK
theorem Pa (ns:List NodeP)(v:Nat)(x:NodeP)(vals:List Int)(hx:ns[v]?=some x)(hin:fK x.parents ns.length)(hs:dS (aR ns x))(hf:bY (ak ns) vals)(H:AHeap)(K:ARes->AHeap->Prop)
  (hK:K (.ret (aa (bS (aR ns x) (aI vals x.parents)))) H):ae Tryz.prog G0 69 [dw ns,aa v,ah vals] H K:=by
 have hne:=ep hx;have e1:=lC hx;have hv:(v:Int)<ns.length:=by have:=aM hx;omega
 have l12:=hs.1;have pl:(aR ns x).length=x.parents.length:=gJ _ _;have vl:(aI vals x.parents).length=x.parents.length:=gJ _ _;have hfl:vals.length=ns.length:=by rw[hf.1,dc]
 have at_get:∀ (k:Nat) (q:Int),x.parents[k]?=some q->∃ (j:Nat) (y:NodeP) (b:Int),q=j/\ns[j]?=some y/\vals[j]?=some b/\(aR ns x)[k]?=some y.card/\(aI vals x.parents)[k]?=some b/\0<=b/\b<y.card:=fun k q hq=>by
  obtain⟨j,rfl,y,hy⟩:=mm (l:=ns) (hin q (List.mem_of_getElem? hq)).1 (hin q (List.mem_of_getElem? hq)).2;obtain⟨b,hb⟩:=aq (l:=vals) (i:=j) (by rw[hfl];exact aM hy);have r:=hf.2 j y.card b (cU hy) hb;exact⟨j,y,b,rfl,hy,hb,by rw[show (aR ns x)[k]?=_ from jF hq,Int.toNat_natCast,bJ (cU hy)],by rw[jF hq,Int.toNat_natCast,bJ hb],r⟩
 have ft:∀ k,bY ((aR ns x).take k) ((aI vals x.parents).take k):=fun k=>⟨by simp [pl,vl],fun i c b h1 h2=>by
  rw[List.getElem?_take]at h1 h2;split at h1
  ·rename_i hik;rw[if_pos hik]at h2;obtain⟨q,hq⟩:=aq (l:=x.parents) (i:=i) (by rw[<- pl];exact aM h1);obtain⟨j,y,b',_,_,_,a1,a2,a3⟩:=at_get i q hq;rw[h1]at a1;rw[h2]at a2;cases a1;cases a2;exact a3
  ·cases h1⟩
 have hr:∀ k,0<=eK ((aR ns x).take k) ((aI vals x.parents).take k)/\eK ((aR ns x).take k) ((aI vals x.parents).take k)<68719476737:=fun k=>by
  rw[qf (ft k).1];have a:=mn (ft k);have b:=(hs.take k).prod;omega
 refine ae.aT (n:=34) (rs:=[.tmp 6]) Tryz.func69 rfl rfl rfl (by decide) (by kernel_rfl) (by simp) ?_;simp only[go_sem,dw,hv,hne,e1];refine W.aO 8589869696 (by rfl) (fun ρ H'=>H'=H/\∃ k:Nat,ρ 16=aa k/\k<=x.parents.length/\ρ 7=aa (eK ((aR ns x).take k) ((aI vals x.parents).take k))) (fun ρ H=>x.parents.length - (iv (ρ 16)).toNat) ?_ ?_
 ·simp only[go_sem];exact⟨0,rfl,by omega,rfl⟩
 rintro ρ H' ⟨rfl,k,h16,hk,h7⟩;refine af _ _ _ (by rfl) ?_;by_cases hb:(k:Int)<x.parents.length
 ·obtain⟨q,hq⟩:=aq (l:=x.parents) (i:=k) (by omega);obtain⟨j,y,b,rfl,hy,hbv,a1,a2,a3⟩:=at_get k q hq;have hne2:=aL hq;have hne3:=aL hbv;have hj:(j:Int)<ns.length:=by have:=aM hy;omega
  have hj2:(j:Int)<vals.length:=by omega
  have e0:=je hy;have w1:=IntWalk.i64_in ((k:Int)+1) (by omega);have r1:=hr (k+1);rw[qg a1 a2]at r1;have r0:=hr k;have m0:0<=eK ((aR ns x).take k) ((aI vals x.parents).take k)*y.card:=Int.mul_nonneg r0.1 (by omega);have w2:=IntWalk.i64_in (eK ((aR ns x).take k) ((aI vals x.parents).take k)*y.card) (by omega);have w3:=IntWalk.i64_in (eK ((aR ns x).take k) ((aI vals x.parents).take k)*y.card+b) (by omega);simp only[go_sem,h16,hb,hq,hne2];refine W.draw 11 [0,0,0,6,14,30,63,0,0,384,896] Tryz.mixed (by kernel_rfl) (by kernel_rfl) ?_;simp only[go_sem,h16,h7,hne,hne3,hj,hj2,hbv,e0,w1,w2,w3];exact⟨⟨k+1,by simp,by omega,by rw[qg a1 a2]⟩,by omega⟩
 ·simp only[go_sem,h16,h7,hb];rw[List.take_of_length_le (by omega),List.take_of_length_le (by omega),qf (by rw[pl,vl])];exact au.mk (Nat.le_refl _) hK
end Go.Proofs
/-
  Sets of nodes as bits; orders in which parents come first. Plain: no program stands in this text. No conditions.
-/
namespace Go.Proofs
open Go.Hx
def cr (l:List Int):Nat:=l.foldl (fun s p=>s ||| 2 ^ p.toNat) 0
theorem Mu (l:List Int):∀ (s i:Nat),(l.foldl (fun s p=>s ||| 2 ^ p.toNat) s).testBit i=(s.testBit i || l.any fun p=>p.toNat == i):=by
 induction l with
 | nil=>intro s i;simp
 | cons p l ih =>
  intro s i;simp only[List.foldl_cons,ih,Nat.testBit_or,Nat.testBit_two_pow,List.any_cons];rw[Bool.or_assoc];congr 1
theorem lD {l:List Int}(h:∀ p∈l,0<=p)(i:Nat):(cr l).testBit i=decide ((i:Int)∈l):=by
 unfold cr;rw[Mu];simp only[Nat.zero_testBit,Bool.false_or];rw[Bool.eq_iff_iff];simp only[List.any_eq_true,beq_iff_eq,decide_eq_true_eq];constructor
 ·rintro⟨p,hp,rfl⟩;have:=h p hp;rw[Int.toNat_of_nonneg this];exact hp
 ·intro hi;exact⟨_,hi,by simp⟩
theorem uf (l:List Int)(p:Int):cr (l++[p])=cr l ||| 2 ^ p.toNat:=by unfold cr;rw[List.foldl_append];rfl
theorem xE {m n:Nat}(h:∀ i,m.testBit i=true->i<n):m<2 ^ n:=by
 apply Nat.lt_pow_two_of_testBit;intro i hi;rcases Bool.eq_false_or_eq_true (m.testBit i) with e|e
 ·exact absurd (h i e) (by omega)
 ·exact e
theorem nD {l:List Int}{n:Nat}(h:∀ p∈l,0<=p/\p<n):cr l<2 ^ n:=xE fun i hi=>by
 rw[lD fun p hp=>(h p hp).1]at hi;have:=(h _ (of_decide_eq_true hi)).2;omega
theorem mo {m n i:Nat}(h:m<2 ^ n)(hi:m.testBit i=true):i<n:=by
 rcases Nat.lt_or_ge i n with h'|h'
 ·exact h'
 ·rw[Nat.testBit_lt_two_pow (Nat.lt_of_lt_of_le h (Nat.pow_le_pow_right (by decide) h'))]at hi;cases hi
def Sub (s t:Nat):Prop:=∀ i,s.testBit i=true->t.testBit i=true
theorem Sub.refl (s:Nat):Sub s s:=fun _ h=>h
theorem Sub.trans {s t u:Nat}(h:Sub s t)(h':Sub t u):Sub s u:=fun i hi=>h' i (h i hi)
theorem Sub.or {s t u:Nat}(h:Sub s u)(h':Sub t u):Sub (s ||| t) u:=fun i hi=>by
 rw[Nat.testBit_or,Bool.or_eq_true]at hi;exact hi.elim (h i) (h' i)
theorem Sub.left (s t:Nat):Sub s (s ||| t):=fun i hi=>by rw[Nat.testBit_or,hi];rfl
theorem Sub.right (s t:Nat):Sub t (s ||| t):=fun i hi=>by rw[Nat.testBit_or,hi];simp
theorem Sub.antisymm {s t:Nat}(h:Sub s t)(h':Sub t s):s=t:=Nat.eq_of_testBit_eq fun i=>by
 rw[Bool.eq_iff_iff];exact⟨h i,h' i⟩
theorem A9 {a b:Nat}(ha:a<2 ^ 64):iC a b=0↔Sub a b:=by
 constructor
 ·intro h i hi;have:=yX (a:=a) (b:=b) (i:=i) ha;rw[h,Nat.zero_testBit,hi]at this;simpa using this.symm
 ·intro h;apply Nat.eq_of_testBit_eq;intro i;rw[yX ha,Nat.zero_testBit];cases hi:a.testBit i
  ·rfl
  ·rw[h i hi];rfl
def lE (ps:List Nat)(s v:Nat):Nat:=if s.testBit v=true then s ||| ps.getD v 0 else s
def fH (ps:List Nat)(s:Nat):Nat:=(List.range ps.length).foldl (lE ps) s
def ig (ps:List Nat):Nat->Nat->Nat
 | 0,s=>s
 | k+1,s=>fH ps (ig ps k s)
def kC (ps:List Nat)(s:Nat):Nat:=ig ps ps.length s
def kD (ps:List Nat):Prop:=∀ v,v<ps.length->(kC ps (ps.getD v 0)).testBit v=false
def nE (ps:List Nat)(t:Nat):Prop:=∀ v,v<ps.length->t.testBit v=true->Sub (ps.getD v 0) t
theorem Ba (ps:List Nat)(s v:Nat):Sub s (lE ps s v):=by unfold lE;split;exact .left _ _;exact .refl _
theorem Bc (ps:List Nat)(l:List Nat):∀ s,Sub s (l.foldl (lE ps) s):=by
 induction l with
 | nil=>exact fun s=>.refl s
 | cons v l ih=>exact fun s=>(Ba ps s v).trans (ih _)
theorem xF (ps:List Nat)(s:Nat):Sub s (fH ps s):=Bc ps _ s
theorem Mv {ps:List Nat}{t:Nat}(hc:nE ps t)(l:List Nat)(hl:∀ v∈l,v<ps.length):∀ s,Sub s t->Sub (l.foldl (lE ps) s) t:=by
 induction l with
 | nil=>exact fun s h=>h
 | cons v l ih =>
  intro s h;refine ih (fun v hv=>hl v (by simp [hv])) _ ?_;unfold lE;split
  ·rename_i hv;exact h.or (hc v (hl v (by simp)) (h v hv))
  ·exact h
theorem Mw {ps:List Nat}{t:Nat}(hc:nE ps t){s:Nat}(h:Sub s t):Sub (fH ps s) t:=Mv hc _ (fun v hv=>List.mem_range.1 hv) s h
theorem ui {ps:List Nat}{t:Nat}(hc:nE ps t)(k:Nat){s:Nat}(h:Sub s t):Sub (ig ps k s) t:=by
 induction k with
 | zero=>exact h
 | succ k ih=>exact Mw hc ih
theorem xG (ps:List Nat)(k s:Nat):Sub s (ig ps k s):=by
 induction k with
 | zero=>exact .refl _
 | succ k ih=>exact ih.trans (xF _ _)
theorem Mx {ps:List Nat}{s:Nat}(h:fH ps s=s):nE ps s:=by
 intro v hv hs;have key:∀ (l:List Nat) (s0:Nat),v∈l->s0.testBit v=true->Sub (ps.getD v 0) (l.foldl (lE ps) s0):=by
  intro l
  induction l with
  | nil=>intro s0 h;cases h
  | cons u l ih =>
   intro s0 hm hb;rcases List.mem_cons.1 hm with rfl|hm
   ·refine Sub.trans ?_ (Bc ps l _);unfold lE;rw[if_pos hb];exact .right _ _
   ·exact ih _ hm (Ba ps s0 u v hb)
 have:=key (List.range ps.length) s (List.mem_range.2 hv) hs;unfold fH at h
 rwa [h]at this
def dO (n s:Nat):Nat:=(List.range n).countP fun i=>s.testBit i
theorem Bd (n s:Nat):dO n s<=n:=by have:=List.countP_le_length (p:=fun i=>s.testBit i) (l:=List.range n);simpa [dO] using this
theorem My {l:List Nat}{p q:Nat->Bool}(h:∀ x∈l,p x=true->q x=true){a:Nat}(ha:a∈l)(hp:p a=false)(hq:q a=true):l.countP p<l.countP q:=by
 induction l with
 | nil=>cases ha
 | cons x l ih =>
  have hm:l.countP p<=l.countP q:=List.countP_mono_left fun y hy=>h y (by simp [hy]);rcases List.mem_cons.1 ha with rfl|ha
  ·rw[List.countP_cons,List.countP_cons,hp,hq];simp;omega
  ·have:=ih (fun y hy=>h y (by simp [hy])) ha;have hx:=h x (by simp);rw[List.countP_cons,List.countP_cons];cases hpx:p x
   ·simp;omega
   ·rw[hx hpx];simp;omega
theorem rR {n s t i:Nat}(h:Sub s t)(hi:i<n)(h0:s.testBit i=false)(h1:t.testBit i=true):dO n s<dO n t :=
 My (fun x _ hx=>h x hx) (List.mem_range.2 hi) h0 h1
theorem Mz {ps:List Nat}(hp:∀ p∈ps,p<2 ^ ps.length){s:Nat}(hs:s<2 ^ ps.length):nE ps (kC ps s):=by
 have hb:∀ k,ig ps k s<2 ^ ps.length:=fun k=>by
  have ht:nE ps (2 ^ ps.length - 1):=fun v _ _ i hi=>by
   rw[Nat.testBit_two_pow_sub_one];have:ps.getD v 0<2 ^ ps.length:=by
    rw[List.getD_eq_getElem?_getD];cases h:ps[v]? with
    | none=>exact Nat.two_pow_pos _
    | some p=>exact hp p (List.mem_of_getElem? h)
   simpa using mo this hi
  have:=ui ht k (s:=s) fun i hi=>by rw[Nat.testBit_two_pow_sub_one];simpa using mo hs hi
  exact xE fun i hi=>by have:=this i hi;rw[Nat.testBit_two_pow_sub_one]at this;simpa using this
 have key:∀ k,fH ps (ig ps k s)=ig ps k s\/k+1<=dO ps.length (ig ps k s):=by
  have grow:∀ t,t<2 ^ ps.length->fH ps t<2 ^ ps.length->fH ps t≠t->dO ps.length t<dO ps.length (fH ps t):=fun t ht ht' hne=>by
   have:∃ i,(fH ps t).testBit i=true/\t.testBit i=false:=by
    refine Classical.byContradiction fun hno=>hne (Sub.antisymm (fun i hi=>?_) (xF ps t));rcases Bool.eq_false_or_eq_true (t.testBit i) with e|e
    ·exact e
    ·exact absurd ⟨i,hi,e⟩ hno
   obtain⟨i,h1,h0⟩:=this;exact rR (xF ps t) (mo ht' h1) h0 h1
  intro k
  induction k with
  | zero =>
   by_cases h0:s=0
   ·left;subst h0;show fH ps 0=0;unfold fH;have:∀ l:List Nat,l.foldl (lE ps) 0=0:=fun l=>by
     induction l with
     | nil=>rfl
     | cons v l ih=>simp only[List.foldl_cons,lE,Nat.zero_testBit,Bool.false_eq_true,if_false];exact ih
    exact this _
   ·right;obtain⟨i,hi⟩:=Nat.exists_testBit_of_ne_zero h0;have:dO ps.length 0<dO ps.length s:=rR (fun j hj=>by rw[Nat.zero_testBit]at hj;cases hj) (mo hs hi) (Nat.zero_testBit i) hi;show 0+1<=dO ps.length s;omega
  | succ k ih =>
   rcases ih with ih|ih
   ·left;show fH ps (fH ps (ig ps k s))=fH ps (ig ps k s);rw[ih];exact ih
   ·by_cases hf:fH ps (ig ps k s)=ig ps k s
    ·left;show fH ps (fH ps (ig ps k s))=fH ps (ig ps k s);rw[hf];exact hf
    ·right;have:=grow _ (hb k) (hb (k+1)) hf;show k+1+1<=dO ps.length (fH ps (ig ps k s));omega
 rcases key ps.length with h|h
 ·exact Mx h
 ·have:=Bd ps.length (ig ps ps.length s);omega
def jv (ps:List Nat)(done v:Nat):Bool:=!done.testBit v && decide (iC (ps.getD v 0) done=0)
def kE (ps:List Nat)(done:Nat):Option Nat:=(List.range ps.length).find? (jv ps done)
def ij (ps:List Nat):Nat->List Nat->Nat->Option (List Nat)
 | 0,out,_=>some out
 | k+1,out,done=>match kE ps done with
  | none=>none
  | some v=>ij ps k (out++[v]) (done ||| 2 ^ v)
def fq (ps:List Nat):Option (List Nat):=ij ps ps.length [] 0
theorem xH {ps:List Nat}{done v:Nat}(hp:∀ p∈ps,p<2 ^ 64)(h:kE ps done=some v):v<ps.length/\done.testBit v=false/\Sub (ps.getD v 0) done:=by
 unfold kE at h;have h1:=List.mem_of_find?_eq_some h;have h2:=List.find?_some h;unfold jv at h2;simp only[Bool.and_eq_true,Bool.not_eq_true',decide_eq_true_eq]at h2;have hv:=List.mem_range.1 h1;refine⟨hv,h2.1,(A9 ?_).1 h2.2⟩;rw[List.getD_eq_getElem?_getD];cases h:ps[v]? with
 | none=>decide
 | some p=>exact hp p (List.mem_of_getElem? h)
theorem MA {ps:List Nat}{done:Nat}(hp:∀ p∈ps,p<2 ^ 64)(h:kE ps done=none):∀ v,v<ps.length->done.testBit v=true\/¬ Sub (ps.getD v 0) done:=by
 intro v hv;unfold kE at h;rw[List.find?_eq_none]at h;have:=h v (List.mem_range.2 hv);unfold jv at this;rcases Bool.eq_false_or_eq_true (done.testBit v) with e|e
 ·exact .inl e
 ·right;intro hs;refine this ?_;rw[e,(A9 ?_).2 hs]
  ·simp
  ·rw[List.getD_eq_getElem?_getD];cases h:ps[v]? with
   | none=>decide
   | some p=>exact hp p (List.mem_of_getElem? h)
theorem iH (d v i:Nat):(d ||| 2 ^ v).testBit i=(d.testBit i || decide (v=i)):=by rw[Nat.testBit_or,Nat.testBit_two_pow]
theorem MB {ps:List Nat}(hp:∀ p∈ps,p<2 ^ 64):∀ (k:Nat) (out:List Nat) (done:Nat) (r:List Nat),ij ps k out done=some r->k+dO ps.length done=ps.length ->
  nE ps done->(∀ v,v<ps.length->done.testBit v=true->(kC ps (ps.getD v 0)).testBit v=false)->kD ps:=by
 intro k
 induction k with
 | zero =>
  intro out done r _ hc hcl hall v hv;refine hall v hv ?_;rcases Bool.eq_false_or_eq_true (done.testBit v) with e|e
  ·exact e
  ·have:dO ps.length done<dO ps.length (2 ^ ps.length - 1 ||| done):=rR (.right _ _) hv e (by rw[Nat.testBit_or,Nat.testBit_two_pow_sub_one];simp [hv]);have:=Bd ps.length (2 ^ ps.length - 1 ||| done);omega
 | succ k ih =>
  intro out done r h hc hcl hall;unfold ij at h;split at h
  ·cases h
  ·rename_i v hn;obtain⟨h1,h2,h3⟩:=xH hp hn;refine ih _ _ _ h ?_ ?_ ?_
   ·have:dO ps.length (done ||| 2 ^ v)=dO ps.length done+1:=by
     unfold dO;have:∀ l:List Nat,l.Nodup->v∈l->l.countP (fun i=>(done ||| 2 ^ v).testBit i)=l.countP (fun i=>done.testBit i)+1:=by
      intro l
      induction l with
      | nil=>intro _ h;cases h
      | cons x l ihl =>
       intro hnd hmem;obtain⟨g1,g2⟩:=List.nodup_cons.1 hnd;rw[List.countP_cons,List.countP_cons];rcases List.mem_cons.1 hmem with rfl|hm2
       ·have:l.countP (fun i=>(done ||| 2 ^ v).testBit i)=l.countP (fun i=>done.testBit i):=List.countP_congr fun y hy=>by
         have:¬ v=y:=(by rintro rfl;exact g1 hy);simp [iH,this]
        rw[this];simp [iH,h2]
       ·have hx:¬ v=x:=(by rintro rfl;exact g1 hm2);rw[ihl g2 hm2];simp [iH,hx];omega
     exact this _ List.nodup_range (List.mem_range.2 h1)
    omega
   ·intro u hu hb;rw[iH,Bool.or_eq_true,decide_eq_true_eq]at hb;rcases hb with hb|rfl
    ·exact(hcl u hu hb).trans (.left _ _)
    ·exact h3.trans (.left _ _)
   ·intro u hu hb;rw[iH,Bool.or_eq_true,decide_eq_true_eq]at hb;rcases hb with hb|rfl
    ·exact hall u hu hb
    ·have:=ui hcl ps.length h3;rcases Bool.eq_false_or_eq_true ((kC ps (ps.getD v 0)).testBit v) with e|e
     ·have:=this v e;rw[h2]at this;cases this
     ·exact e
theorem MC {ps:List Nat}(hp:∀ p∈ps,p<2 ^ ps.length)(h64:ps.length<=64)(ha:kD ps):∀ (k:Nat) (out:List Nat) (done:Nat),k+dO ps.length done=ps.length->∃ r,ij ps k out done=some r:=by
 have hp64:∀ p∈ps,p<2 ^ 64:=fun p h=>Nat.lt_of_lt_of_le (hp p h) (Nat.pow_le_pow_right (by decide) h64);have hpd:∀ v,ps.getD v 0<2 ^ ps.length:=fun v=>by
  rw[List.getD_eq_getElem?_getD];cases h:ps[v]? with
  | none=>exact Nat.two_pow_pos _
  | some p=>exact hp p (List.mem_of_getElem? h)
 intro k
 induction k with
 | zero=>exact fun out done _=>⟨out,rfl⟩
 | succ k ih =>
  intro out done hc;unfold ij;cases hn:kE ps done with
  | none =>
   exfalso;have hno:=MA hp64 hn
      -- every node that is left has a parent that is left
   have step:∀ m v,v<ps.length->done.testBit v=false->dO ps.length (kC ps (ps.getD v 0))<=m->False:=by
    intro m
    induction m with
    | zero =>
     intro v hv hd hm;obtain⟨i,h1,h2⟩:∃ i,(ps.getD v 0).testBit i=true/\done.testBit i=false:=by
      rcases hno v hv with h|h
      ·rw[hd]at h;cases h
      ·refine Classical.byContradiction fun hc=>h fun i hi=>?_;rcases Bool.eq_false_or_eq_true (done.testBit i) with e|e
       ·exact e
       ·exact absurd ⟨i,hi,e⟩ hc
     have:dO ps.length 0<dO ps.length (kC ps (ps.getD v 0)):=rR (fun j hj=>by rw[Nat.zero_testBit]at hj;cases hj) (mo (hpd v) h1) (Nat.zero_testBit i) (xG ps _ _ i h1);omega
    | succ m ihm =>
     intro v hv hd hm;obtain⟨u,h1,h2⟩:∃ i,(ps.getD v 0).testBit i=true/\done.testBit i=false:=by
      rcases hno v hv with h|h
      ·rw[hd]at h;cases h
      ·refine Classical.byContradiction fun hc=>h fun i hi=>?_;rcases Bool.eq_false_or_eq_true (done.testBit i) with e|e
       ·exact e
       ·exact absurd ⟨i,hi,e⟩ hc
     have hu:=mo (hpd v) h1;have hcl:=Mz hp (hpd v);have hin:(kC ps (ps.getD v 0)).testBit u=true:=xG ps _ _ u h1;have hsub:Sub (kC ps (ps.getD u 0)) (kC ps (ps.getD v 0)):=ui hcl _ (hcl u hu hin);have:=rR hsub hu (ha u hu) hin;exact ihm u hu h2 (by omega)
   obtain⟨v,hv,hd⟩:∃ v,v<ps.length/\done.testBit v=false:=by
    refine Classical.byContradiction fun hno=>?_;have:dO ps.length done=ps.length:=by
     unfold dO
     conv=>rhs;rw[<- List.length_range (n:=ps.length)]
     rw[List.countP_eq_length];intro x hx;rcases Bool.eq_false_or_eq_true (done.testBit x) with e|e
     ·exact e
     ·exact absurd ⟨x,List.mem_range.1 hx,e⟩ hno
    omega
   exact step _ v hv hd (Nat.le_refl _)
  | some v =>
   obtain⟨h1,h2,h3⟩:=xH hp64 hn;refine ih _ _ ?_;have:dO ps.length (done ||| 2 ^ v)=dO ps.length done+1:=by
    unfold dO;have:∀ l:List Nat,l.Nodup->v∈l->l.countP (fun i=>(done ||| 2 ^ v).testBit i)=l.countP (fun i=>done.testBit i)+1:=by
     intro l
     induction l with
     | nil=>intro _ h;cases h
     | cons x l ihl =>
      intro hnd hmem;obtain⟨g1,g2⟩:=List.nodup_cons.1 hnd;rw[List.countP_cons,List.countP_cons];rcases List.mem_cons.1 hmem with rfl|hm2
      ·have:l.countP (fun i=>(done ||| 2 ^ v).testBit i)=l.countP (fun i=>done.testBit i):=List.countP_congr fun y hy=>by
        have:¬ v=y:=(by rintro rfl;exact g1 hy);simp [iH,this]
       rw[this];simp [iH,h2]
      ·have hx:¬ v=x:=(by rintro rfl;exact g1 hm2);rw[ihl g2 hm2];simp [iH,hx];omega
    exact this _ List.nodup_range (List.mem_range.2 h1)
   omega
theorem Be (n:Nat):dO n 0=0:=by
 unfold dO;rw[List.countP_eq_zero];intro x _;simp
theorem xI {ps:List Nat}(hp:∀ p∈ps,p<2 ^ ps.length)(h64:ps.length<=64):(fq ps).isSome=true↔kD ps:=by
 have hp64:∀ p∈ps,p<2 ^ 64:=fun p h=>Nat.lt_of_lt_of_le (hp p h) (Nat.pow_le_pow_right (by decide) h64);constructor
 ·intro h;obtain⟨r,hr⟩:=Option.isSome_iff_exists.1 h;exact MB hp64 _ _ _ r hr (by rw[Be];omega) (fun v _ h=>by rw[Nat.zero_testBit]at h;cases h) (fun v _ h=>by rw[Nat.zero_testBit]at h;cases h)
 ·intro h;obtain⟨r,hr⟩:=MC hp h64 h ps.length [] 0 (by rw[Be];omega);unfold fq;rw[hr];rfl
end Go.Proofs
namespace Go.Hx
def iQ (l:List Nat):AVal:=.vec l.length (l.map bK)
attribute [go_sem] bK iQ
theorem aG.Pb {S:Nat->Prop}{lo nx:Nat}{H:AHeap}{e:TypeId}{v:AVal}{l:List Nat}(h:aG lo H e v (l.map bK))(hS:∀ i,lo<=i->S i):Fz S H nx v (iQ l):=by
 have:=h.fz (S:=S) (nx:=nx) (cs':=l.map bK) hS rfl fun i hi _=>by simp only[List.getElem_map];exact .lit _
 rw[List.length_map]at this;exact this
end Go.Hx
namespace Go.Proofs
open Go.Hx
theorem CU {H H':AHeap}{v:AVal}{l:List Nat}(x:Nat)(ov:Over H H')(h:aG H.next H' 35 v (l.map bK))(hl:l.length<2 ^ 40):
  ∃ v' H2,bQ Tryz.prog (ext H' [.arr 0 35 [.lit (.int .u64 (x:Int))]]) (H'.next+1) 106 106 v (.own H'.next 0 0 1 1)=some (v',H2)/\Over H H2/\aG H.next H2 35 v' ((l++[x]).map bK)/\H'.next<=H2.next/\(∀ k,k<H'.next->(∀ g n,v≠.own k g 0 n 1)->H2.get k=H'.get k):=by
 obtain⟨v',H2,hA,hO,hn2,hp⟩:=jc (P:=Tryz.prog) (H:=H') (t:=106) (x:=bK x) (n:=H'.next+1) Tryz.underlying106 Tryz.AQ Tryz.AS rfl (by rw[Tryz.AR,List.length_map];omega) h ov.next rfl;simp only[bK]at hA;exact⟨v',H2,hA,mz ov h hn2 hp,by rw[List.map_append];exact hO,hn2,hp⟩
theorem Pc (m v:Nat)(hm:m<2 ^ 64)(hv:v<2 ^ 62)(H:AHeap)(K:ARes->AHeap->Prop)(hK:K (.ret (.lit (.bool (m.testBit v)))) H):ae Tryz.prog G0 134 [bK m,aa v] H K:=by
 refine ae.aT (n:=11) (rs:=[.tmp 4]) Tryz.func134 rfl rfl rfl (by decide) (by kernel_rfl) (by simp) ?_;have w1:=IntWalk.u64_in (v:Int) (by omega);have s1:=fun t x y=>lU (P:=Tryz.prog) (t:=t) (x:=x) (y:=y) (k':=.u64) (s:=v) hm;have s2:=fun t x y=>mQ (P:=Tryz.prog) (t:=t) (x:=x) (y:=y) (s:=v) hm;cases hb:m.testBit v
 ·rw[hb]at hK;simp only[go_sem,w1,s1,s2,hb];exact au.mk (Nat.le_refl _) hK
 ·rw[hb]at hK;simp only[go_sem,w1,s1,s2,hb];exact au.mk (Nat.le_refl _) hK
def bb (ns:List NodeP):List Nat:=ns.map fun x=>cr x.parents
theorem lQ {ns:List NodeP}{k:Nat}{x:NodeP}(h:ns[k]?=some x):(bb ns)[k]?=some (cr x.parents):=by unfold bb;rw[List.getElem?_map,h];rfl
theorem Pd (g:Int)(ns:List NodeP)(hl:(ns.length:Int)<2 ^ 39)(hp:∀ x∈ns,(x.parents.length:Int)<2 ^ 39/\∀ q∈x.parents,0<=q/\q<64)(H:AHeap)(K:ARes->AHeap->Prop)
  (hK:K (.ret (iQ (bb ns))) H):ae Tryz.prog G0 43 [da g ns] H K:=by
 refine ae.clo ⟨_,Tryz.func43,rfl,rfl⟩ fun hcl=>?_;refine ae.aT (n:=43) (rs:=[.tmp 2]) Tryz.func43 rfl rfl rfl (by decide) (by kernel_rfl) (by simp) ?_;simp only[go_sem,da,dw];obtain⟨H1,hH1⟩:∃ H1,H1=ext H [.arr 0 103 [.lit (.int .i64 g),.vec ns.length (aC ns)]]:=⟨_,rfl⟩
 have l1:H1.live H.next 0=some (103,[.lit (.int .i64 g),.vec ns.length (aC ns)]):=by rw[hH1];exact ag (cu ..)
 have n1:H1.next=H.next+1:=by rw[hH1];rfl
 have o1:Over H H1:=by rw[hH1];exact .ext _ _
 rw[<- hH1];refine W.aO 4398046511096 (by rfl) (fun ρ H'=>∃ k:Nat,ρ 4=aa k/\k<=ns.length/\ρ 1=.ptr H.next 0 0/\Over H1 H'/\aG H1.next H' 35 (ρ 3) (((bb ns).take k).map bK)) (fun ρ H=>ns.length - (iv (ρ 4)).toNat) ?_ ?_
 ·simp only[go_sem];exact⟨0,rfl,by omega,.refl _,.nil⟩
 rintro ρ H' ⟨k,h4,hk,h1,ov,h3⟩;refine af _ _ _ (by rfl) ?_;have l2:=(ov.live (g:=0) (by omega:H.next<H1.next)).trans l1;by_cases hb:(k:Int)<ns.length
 ·obtain⟨x,hx⟩:=aq (l:=ns) (i:=k) (by omega);have hne:=ep hx;have e1:=lC hx;obtain⟨xl,xr⟩:=hp x (List.mem_of_getElem? hx);simp only[go_sem,h4,h1,l2,hb];refine W.aO 274877890656 (by rfl) (fun ρ' H2=>H2=H'/\∃ j:Nat,ρ' 6=aa j/\j<=x.parents.length/\ρ' 5=bK (cr (x.parents.take j))) (fun ρ' H=>x.parents.length - (iv (ρ' 6)).toNat) ?_ ?_
  ·simp only[go_sem];exact⟨0,rfl,by omega,rfl⟩
  rintro ρ' H2 ⟨rfl,j,h6,hj,h5⟩;refine af _ _ _ (by rfl) ?_;by_cases hb2:(j:Int)<x.parents.length
  ·obtain⟨q,hq⟩:=aq (l:=x.parents) (i:=j) (by omega);obtain⟨q0,q1⟩:=xr q (List.mem_of_getElem? hq);obtain⟨u,rfl⟩:=Int.eq_ofNat_of_zero_le q0;have hne2:=aL hq;have w1:=IntWalk.u64_in (u:Int) (by omega);have w2:=IntWalk.i64_in ((j:Int)+1) (by omega);have b1:cr (x.parents.take j)<2 ^ 64:=nD fun p hp=>by have:=xr p (List.mem_of_mem_take hp);omega
   have s1:=fun t x y=>mO (P:=Tryz.prog) (t:=t) (x:=x) (y:=y) (k':=.u64) (s:=u) (by omega);have s2:=fun t x y=>kh (P:=Tryz.prog) (t:=t) (x:=x) (y:=y) (b:=2 ^ u) b1 (Nat.pow_lt_pow_right (by decide) (by omega));simp only[go_sem,h4,h1,l2,hb,hne,e1,h6,h5,hb2,hq,hne2,w1,w2,s1,s2];exact⟨⟨j+1,by simp,by omega,by rw[aV hq,uf];rfl⟩,by omega⟩
  ·obtain⟨v',H3,hA,ov2,hO,hn2,_⟩:=CU (cr x.parents) ov h3 (by simp [bb];omega);have w1:=IntWalk.i64_in ((k:Int)+1) (by omega);rw[List.take_of_length_le (by omega)]at h5;simp only[go_sem,h4,h1,l2,hb,hne,e1,h6,h5,hb2,w1,hA];refine⟨by have:=ov2.next;omega,⟨k+1,by simp,by omega,ov2,?_⟩,by omega⟩;rw[aV (lQ hx)];exact hO
 ·simp only[go_sem,h4,h1,l2,hb];rw[List.take_of_length_le (by simp [bb];omega)]at h3;exact au.bE aK hcl (o1.trans ov) (h3.Pb fun i hi=>by omega) hK
end Go.Proofs
namespace Go.Proofs
open Go.Hx
def ka (g card:Int)(r:List Int):Prop:=(r.length:Int)=card/\(∀ w∈r,0<=w/\w<=g)/\r.sum=g
def fW (g:Int)(ns:List NodeP)(x:NodeP):Prop:=(x.rows.length:Int)=aA (aR ns x)/\∀ r∈x.rows,ka g x.card r
structure NetOk (g:Int)(ns:List NodeP):Prop where
 g1:1<=g/\g<=60
 n1:1<=ns.length/\ns.length<=8
 node:∀ x∈ns,(1<=x.card/\x.card<=4)/\cJ x.parents ns.length
 size:aA (ak ns)<=1024
 acyc:kD (bb ns)
 rows:∀ x∈ns,fW g ns x
noncomputable def oZ (g:Int)(ns:List NodeP):Bool:=@decide (NetOk g ns) (Classical.propDecidable _)
theorem CV {g:Int}{ns:List NodeP}(h:NetOk g ns):oZ g ns=true:=by unfold oZ;exact @decide_eq_true _ (Classical.propDecidable _) h
theorem CW {g:Int}{ns:List NodeP}(h:¬ NetOk g ns):oZ g ns=false:=by unfold oZ;exact @decide_eq_false _ (Classical.propDecidable _) h
def uW (ns:List NodeP):Prop:=(ns.length:Int)<2 ^ 38/\∀ x∈ns,(x.parents.length:Int)<2 ^ 38/\(x.rows.length:Int)<2 ^ 38/\∀ r∈x.rows,(r.length:Int)<2 ^ 38
theorem mG {l:List Int}(h:l.length<=12)(h2:∀ x∈l,1<=x/\x<=4):dS l:=⟨h,fun x hx=>by have:=h2 x hx;omega⟩
theorem mH {ns:List NodeP}{x:NodeP}(hin:fK x.parents ns.length)(hc:∀ y∈ns,1<=y.card/\y.card<=4):∀ c∈aR ns x,1<=c/\c<=4:=fun c h=>by
 unfold aR aI at h;obtain⟨q,hq,rfl⟩:=List.mem_map.1 h;obtain⟨j,rfl,y,hy⟩:=mm (l:=ns) (hin q hq).1 (hin q hq).2;rw[Int.toNat_natCast,bJ (cU hy)];exact hc y (List.mem_of_getElem? hy)
theorem lS {ns:List NodeP}{x:NodeP}(h8:ns.length<=8)(hp:cJ x.parents ns.length)(hc:∀ y∈ns,1<=y.card/\y.card<=4):dS (aR ns x):=by
 refine mG ?_ (mH (fun q hq=>by have:=hp.2 q hq;omega) hc);rw[show (aR ns x).length=_ from gJ _ _];have:=hp.len;omega
theorem uX {ns:List NodeP}{n:Nat}(h:∀ x∈ns,∀ q∈x.parents,0<=q/\q<(n:Int)):∀ p∈bb ns,p<2 ^ n:=fun p hp=>by
 obtain⟨x,hx,rfl⟩:=List.mem_map.1 hp;exact nD fun q hq=>by have:=h x hx q hq;omega
theorem yC (l:List Int)(x:Int):(l++[x]).sum=l.sum+x:=by simp
end Go.Proofs
namespace Go.Hx
variable {P:Program} {G:Nat->Option (List AVal)} {n:Nat} {rd:Option Nat} {Q:AX->St->Prop}
def vD (P:Program)(G:Nat->Option (List AVal))(f:FuncId)(first cap:List AVal)(xs:List (List AVal))(S:AHeap->Prop):Prop :=
 ∀ (idy:Nat) (J:Nat->AHeap->Prop) (Stop:AHeap->Prop) (H:AHeap) (K:ARes->AHeap->Prop),
  (∀ k H1,J k H1->S H1)->J 0 H ->
  (∀ k x H1 K1,xs[k]?=some x->J k H1->H.next<=H1.next->(∀ H',J (k+1) H'->H1.next<=H'.next->K1 (.ret (.lit (.bool true))) H')->(∀ H',Stop H'->H1.next<=H'.next->K1 (.ret (.lit (.bool false))) H')->az P G (.yld idy) x H1 K1) ->
  (∀ H',J xs.length H'->H.next<=H'.next->K (.ret (.tup [])) H') ->
  (∀ H',Stop H'->H.next<=H'.next->K (.ret (.tup [])) H') ->
  ae P G f (first++[.yld idy]++cap) H K
def eE (idy:Nat)(B:Blk)(lo:Nat)(J:AHeap->Prop)(Stop:AX->AHeap->Prop):AX->St->Prop
 | .normal,s=>s.H.get idy=some B/\lo<=s.H.next/\J s.H
 | .ret,s=>s.H.get idy=some B/\lo<=s.H.next/\Stop .ret s.H
 | .exit i,s=>s.H.get idy=some B/\lo<=s.H.next/\Stop (.exit i) s.H
 | _,_=>False
def jn (P:Program)(G:Nat->Option (List AVal))(n idy:Nat)(B Bb:Blk)(lo:Nat)(body:Code)(J:AHeap->Prop)(Stop:AX->AHeap->Prop):AX->St->Prop
 | .normal,s=>s.H.get idy=some B/\W P G n (some idy) body (eE idy Bb lo J Stop) ⟨s.ρ,s.H.upd idy Bb⟩
 | _,_=>False
theorem W.pj {g:Operand}{ps:Array Tmp}{asg body:Code}{ρ:Env}{H:AHeap}{f:FuncId}{first cap:List AVal}{xs:List (List AVal)}{S:AHeap->Prop}(hg:ay G ρ g=.clo f first cap)
  (hit:vD P G f first cap xs S) (J:Nat->AHeap->Prop) (Stop:AX->AHeap->Prop) (hS:∀ k H1,J k H1->S H1)
  (hJu:∀ k H1 b,J k H1->J k (H1.upd H.next b)) (hSu:∀ c H1 b,Stop c H1->Stop c (H1.upd H.next b))
  (hJ0:∀ b,J 0 (ext H [b])) (hps:ps.toList.all (fun t=>decide (t<n))=true) (hxl:∀ x∈xs,x.length=ps.size)
  (hrd:∀ k H1,J k H1->fh H1 rd) (hrd2:∀ c H1,Stop c H1->fh H1 rd)
  (hround:∀ k x H1 B Bb,xs[k]?=some x->J k H1->H.next+1<=H1.next->H1.get H.next=some B->(∃ st pd n' en ps' as' bo,Bb=Blk.loop st pd n' en ps' as' bo) ->
   W P G n (some H.next) asg (jn P G n H.next B Bb H1.next body (J (k+1)) Stop) ⟨gV (bh ρ n) (ps.toList.zip x),H1⟩)
  (hend:∀ H',J xs.length H'->H.next+1<=H'.next->Q .normal ⟨ρ,H'⟩)
  (hret:∀ H',Stop .ret H'->H.next+1<=H'.next->Q .ret ⟨ρ,H'⟩) (hexit:∀ i H',Stop (.exit i) H'->H.next+1<=H'.next->Q (.exit i) ⟨ρ,H'⟩):
  W P G n rd (.rangeFunc g ps asg body) Q ⟨ρ,H⟩:=by
 refine W.rangeFunc (s:=⟨ρ,H⟩) hg ⟨_,tJ _ _,?_⟩;obtain⟨B,hB⟩:∃ B,B=Blk.loop .ready none n ρ ps asg body:=⟨_,rfl⟩
 obtain⟨Bb,hBb⟩:∃ B,B=Blk.loop .busy none n ρ ps asg body:=⟨_,rfl⟩
 have nx:(ext H [B]).next=H.next+1:=rfl;show ae P G f (first++[.yld H.next]++cap) (ext H [Blk.loop .ready none n ρ ps asg body]) (wV rd Q ρ H.next);rw[<- hB];refine hit H.next (fun k H1=>H1.get H.next=some B/\J k H1) (fun H1=>∃ c pend,H1.get H.next=some (.loop .done (some pend) n ρ ps asg body)/\Stop c H1/\((c=.ret/\pend=.ret)\/∃ i,c=.exit i/\pend=.exit i)) _ _
  (fun k H1 h=>hS k H1 h.2) ⟨bR,hJ0 B⟩ (fun k x H1 K1 hx hj hn hgo hst=>?_) (fun H' hj hn=>?_) (fun H' hj hn=>?_)
 ·have hxm:=hxl x (List.mem_of_getElem? hx);refine az.yld (hj.1.trans (congrArg some hB)) hxm hps ?_;refine(hround k x H1 B Bb hx hj.2 hn hj.1 ⟨_,_,_,_,_,_,_,hBb⟩).mono fun e s1 h1=>?_;cases e with
  | normal =>
   obtain⟨a1,a2⟩:=h1;refine⟨Bb,by rw[a1,hB,hBb];rfl,?_⟩;refine a2.mono fun e2 s2 h2=>?_;cases e2 with
   | normal =>
    obtain⟨b1,b2,b3⟩:=h2;exact⟨B,by rw[b1,hB,hBb];rfl,hgo _ ⟨by rw[aj,if_pos rfl],hJu _ _ _ b3⟩ b2⟩
   | ret =>
    obtain⟨b1,b2,b3⟩:=h2;exact⟨.loop .done (some .ret) n ρ ps asg body,by rw[b1,hBb];rfl,hst _ ⟨.ret,.ret,by rw[aj,if_pos rfl],hSu _ _ _ b3,.inl ⟨rfl,rfl⟩⟩ b2⟩
   | exit i =>
    obtain⟨b1,b2,b3⟩:=h2;exact⟨.loop .done (some (.exit i)) n ρ ps asg body,by rw[b1,hBb];rfl,hst _ ⟨.exit i,.exit i,by rw[aj,if_pos rfl],hSu _ _ _ b3,.inr ⟨i,rfl,rfl⟩⟩ b2⟩
   | _=>exact h2.elim
  | _=>exact h1.elim
 ·refine⟨hrd _ _ hj.2,(none,.loop .exhausted none n ρ ps asg body),by rw[hj.1,hB];rfl,?_⟩;exact hend _ (hJu _ _ _ hj.2) hn
 ·obtain⟨c,pend,h1,h2,h3⟩:=hj;refine⟨hrd2 _ _ h2,(some pend,.loop .exhausted (some pend) n ρ ps asg body),by rw[h1];rfl,?_⟩;rcases h3 with ⟨rfl,rfl⟩|⟨i,rfl,rfl⟩
  ·exact hret _ (hSu _ _ _ h2) hn
  ·exact hexit i _ (hSu _ _ _ h2) hn
end Go.Hx
namespace Go.Proofs
open Go.Hx
def sG (x:NodeP):AVal:=.agg [.lit (.int .i64 x.card),.vec x.parents.length (ints x.parents),aD x.rows]
def nV (rows:List (List Int)):List (List AVal):=rows.zipIdx.map fun p=>[aa p.2,ah p.1]
theorem CX {rows:List (List Int)}{k:Nat}{x:List AVal}(h:(nV rows)[k]?=some x):∃ r,rows[k]?=some r/\x=[aa k,ah r]:=by
 unfold nV at h;rw[List.getElem?_map,List.getElem?_zipIdx]at h;cases hr:rows[k]? with
 | none=>rw[hr]at h;simp at h
 | some r=>rw[hr]at h;simp at h;exact⟨r,rfl,h.symm⟩
theorem Pe {rows:List (List Int)}{k:Nat}{r:List Int}(h:rows[k]?=some r):(nV rows)[k]?=some [aa k,ah r]:=by
 unfold nV;rw[List.getElem?_map,List.getElem?_zipIdx,h];simp
theorem CY (rows:List (List Int)):(nV rows).length=rows.length:=by simp [nV]
theorem Pf (x:NodeP)(hl:(x.rows.length:Int)<2 ^ 40)(b:Nat):vD Tryz.prog G0 170 [] [.ptr b 0 0] (nV x.rows) (fun H=>H.get b=some (.arr 0 73 [.lit (.int .i64 x.card),.vec x.parents.length (ints x.parents),aD x.rows])):=by
 intro idy J Stop H K hS hJ0 hY hK hSt;have l0:=ag (hS 0 H hJ0);show ae _ _ _ ([.yld idy]++[.ptr b 0 0]) _ _;refine ae.aT (n:=19) (rs:=[]) Tryz.func170 rfl rfl rfl (by decide) (by kernel_rfl) (by simp) ?_;simp only[go_sem,l0,aD];refine W.aO 524056 (by rfl) (fun ρ H'=>∃ k:Nat,ρ 8=aa k/\k<=x.rows.length/\J k H'/\H.next<=H'.next) (fun ρ H=>x.rows.length - (iv (ρ 8)).toNat) ?_ ?_
 ·simp only[go_sem];exact⟨0,rfl,by omega,hJ0⟩
 rintro ρ H' ⟨k,h8,hk,hj,hn⟩;refine af _ _ _ (by rfl) ?_;by_cases hb:(k:Int)<x.rows.length
 ·obtain⟨r,hr⟩:=aq (l:=x.rows) (i:=k) (by omega);have hne:=aL hr;have w1:=IntWalk.i64_in ((k:Int)+1) (by omega);simp only[go_sem,h8,hb,hr,hne];refine hY k [aa k,ah r] H' _ (Pe hr) hj hn (fun H2 hj2 hn2=>⟨trivial,?_⟩) (fun H2 hs2 hn2=>⟨trivial,?_⟩)
  ·simp only[go_sem,h8,w1];exact⟨by omega,⟨k+1,by simp,by omega,hj2,by omega⟩,by omega⟩
  ·simp only[go_sem];exact au.mk (by omega) (hSt H2 hs2 (by omega))
 ·simp only[go_sem,h8,hb];have ek:k=(nV x.rows).length:=by rw[CY];omega
  subst ek;exact au.mk (by omega) (hK H' hj hn)
theorem Pg (x:NodeP)(H:AHeap)(K:ARes->AHeap->Prop)(hK:K (.ret (.clo 170 [] [.ptr H.next 0 0])) (ext H [.arr 0 73 [.lit (.int .i64 x.card),.vec x.parents.length (ints x.parents),aD x.rows]])):
  ae Tryz.prog G0 168 [sG x] H K:=by
 refine ae.aT (n:=4) (rs:=[.tmp 2]) Tryz.func168 rfl rfl rfl (by decide) (by kernel_rfl) (by simp) ?_;simp only[go_sem,sG];exact au.mk (by simp [bf]) hK
theorem yD {l:List Int}{g:Int}(h:∀ w∈l,0<=w):0<=l.sum:=by
 induction l with
 | nil=>simp
 | cons a l ih =>
  have h1:=ih fun w hw=>h w (by simp [hw]);have h2:=h a (by simp);simp only[List.sum_cons];omega
theorem yE {l:List Int}(h:∀ w∈l,0<=w):∀ w∈l,w<=l.sum:=by
 induction l with
 | nil=>intro w hw;cases hw
 | cons a l ih =>
  intro w hw;have h1:=yD (g:=0) fun w hw=>h w (List.mem_cons_of_mem a hw);have h2:=h a (by simp);simp only[List.sum_cons];rcases List.mem_cons.1 hw with rfl|hw
  ·omega
  ·have:=ih (fun w hw=>h w (by simp [hw])) w hw;omega
noncomputable def lT (g:Int)(ns:List NodeP)(x:NodeP):Bool:=@decide (fW g ns x) (Classical.propDecidable _)
theorem CZ {g:Int}{ns:List NodeP}{x:NodeP}(h:fW g ns x):lT g ns x=true:=by unfold lT;exact @decide_eq_true _ (Classical.propDecidable _) h
theorem Ph {g:Int}{ns:List NodeP}{x:NodeP}(h:¬ fW g ns x):lT g ns x=false:=by unfold lT;exact @decide_eq_false _ (Classical.propDecidable _) h
theorem Pi {g:Int}{ns:List NodeP}{x:NodeP}:lT g ns x=true↔fW g ns x:=by unfold lT;exact @decide_eq_true_iff _ (Classical.propDecidable _)
set_option maxHeartbeats 2000000 in
theorem Pj (g:Int)(hg:1<=g/\g<=60)(ns:List NodeP)(sets:List Nat)(x:NodeP)(hin:fK x.parents ns.length)(hsm:dS (aR ns x))(hx1:(x.rows.length:Int)<2 ^ 38)(hx2:∀ r∈x.rows,(r.length:Int)<2 ^ 38)(H:AHeap)(K:ARes->AHeap->Prop)
  (hK:K (.ret (.lit (.bool (lT g ns x)))) H):ae Tryz.prog G0 161 [.agg [.lit (.int .i64 g),dw ns,ah (ak ns),iQ sets,.lit (.slice none 0 0)],sG x] H K:=by
 refine ae.clo ⟨_,Tryz.func161,rfl,rfl⟩ fun hcl=>?_;have l12:=hsm.1;have pl:(aR ns x).length=x.parents.length:=gJ _ _;have no:¬ fW g ns x->∀ H',Over H H'->au Tryz.prog G0 H K (.lit (.bool false)) H':=fun h H' ov=>au.bE aK hcl ov (.lit _) (by rw[Ph h]at hK;exact hK);refine ae.aT (n:=66) (rs:=[.cell 4 4]) Tryz.func161 rfl rfl rfl (by decide) (by kernel_rfl) (by simp) ?_;simp only[go_sem,dw,sG];obtain⟨H1,hH1⟩:∃ H1,H1=ext H [.arr 0 209 [.lit (.int .i64 g),.vec ns.length (aC ns),.vec (ak ns).length (ints (ak ns)),.vec sets.length (sets.map bK),.lit (.slice none 0 0)],.arr 0 73 [.lit (.int .i64 x.card),.vec x.parents.length (ints x.parents),aD x.rows],.arr 0 4 [.lit (.bool false)]]:=⟨_,rfl⟩
 have l1:H1.live H.next 0=some (209,[.lit (.int .i64 g),.vec ns.length (aC ns),.vec (ak ns).length (ints (ak ns)),.vec sets.length (sets.map bK),.lit (.slice none 0 0)]):=by rw[hH1];exact ag (cu ..)
 have l2:H1.live (H.next+1) 0=some (73,[.lit (.int .i64 x.card),.vec x.parents.length (ints x.parents),aD x.rows]):=by rw[hH1];exact ag (aZ H _ 1 (by simp))
 have g3:H1.get (H.next+2)=some (.arr 0 4 [.lit (.bool false)]):=by rw[hH1];exact aZ H _ 2 (by simp)
 have n1:H1.next=H.next+3:=by rw[hH1];rfl
 have o1:Over H H1:=by rw[hH1];exact .ext _ _
 rw[<- hH1];refine W.aO 268370080 (by rfl) (fun ρ H'=>H'=H1/\∃ k:Nat,ρ 16=aa k/\k<=x.parents.length/\ρ 5=aa (aA ((aR ns x).take k))) (fun ρ H=>x.parents.length - (iv (ρ 16)).toNat) ?_ ?_
 ·simp only[go_sem];exact⟨0,rfl,by omega,by simp [iG]⟩
 rintro ρ H' ⟨rfl,k,h16,hk,h5⟩;refine af _ _ _ (by rfl) ?_;by_cases hb:(k:Int)<x.parents.length
 ·obtain⟨q,hq⟩:=aq (l:=x.parents) (i:=k) (by omega);obtain⟨j,rfl,y,hy⟩:=mm (l:=ns) (hin q (List.mem_of_getElem? hq)).1 (hin q (List.mem_of_getElem? hq)).2;have hne2:=aL hq;have hyc:=cU hy;have hne3:=aL hyc;have hj:(j:Int)<(ak ns).length:=by have:=aM hyc;omega
  have pk:(aR ns x)[k]?=some y.card:=by
   rw[show (aR ns x)[k]?=_ from jF hq,Int.toNat_natCast,bJ hyc]
  have b1:=(hsm.take (k+1)).prod;rw[aV pk,fF]at b1;have w1:=IntWalk.i64_in ((k:Int)+1) (by omega);have w2:=IntWalk.i64_in (aA ((aR ns x).take k)*y.card) (by omega);simp only[go_sem,h16,h5,l1,hb,hq,hne2,hj,hyc,hne3,w1,w2];exact⟨⟨k+1,by simp,by omega,by rw[aV pk,fF]⟩,by omega⟩
 rw[List.take_of_length_le (by omega)]at h5;by_cases c1:(x.rows.length:Int)=aA (aR ns x);rotate_left
 ·simp only[go_sem,h16,h5,l2,hb,c1,aD];have l3:=ag g3;simp only[go_sem,l3];exact no (fun h=>c1 h.1) _ (o1.upd (by omega) _)
 simp only[go_sem,h16,h5,l2,hb,c1,aD];refine az.clo (Pg x _ _ ⟨trivial,?_⟩);simp only[go_sem];obtain⟨H2,hH2⟩:∃ H2,H2=ext H' [.arr 0 73 [.lit (.int .i64 x.card),.vec x.parents.length (ints x.parents),aD x.rows]]:=⟨_,rfl⟩
 rw[<- hH2];have o2:Over H' H2:=by rw[hH2];exact .ext _ _
 have n2:H2.next=H.next+4:=by rw[hH2,bf,n1];rfl
 have hbx:H2.get H'.next=some (.arr 0 73 [.lit (.int .i64 x.card),.vec x.parents.length (ints x.parents),aD x.rows]):=by rw[hH2];exact bR
 refine W.env fun E hE=>?_;have e2:E 2=.ptr H.next 0 0:=by rw[hE];simp only[go_sem]
 have e3:E 3=.ptr (H.next+1) 0 0:=by rw[hE];simp only[go_sem]
 have e4:E 4=.ptr (H.next+2) 0 0:=by rw[hE];simp only[go_sem]
 have i1:H2.live H.next 0=some (209,[.lit (.int .i64 g),.vec ns.length (aC ns),.vec (ak ns).length (ints (ak ns)),.vec sets.length (sets.map bK),.lit (.slice none 0 0)]):=(o2.live (by omega)).trans l1;have i2:H2.live (H.next+1) 0=some (73,[.lit (.int .i64 x.card),.vec x.parents.length (ints x.parents),aD x.rows]):=(o2.live (by omega)).trans l2;have i3:H2.get (H.next+2)=some (.arr 0 4 [.lit (.bool false)]):=(o2.old _ (by omega)).trans g3;refine W.pj (f:=170) (first:=[]) (cap:=[.ptr H'.next 0 0]) (by show E 34=_;rw[hE];rfl) (Pf x (by omega) H'.next)
  (fun k Hx=>Over H2 Hx/\∀ r∈x.rows.take k,ka g x.card r) (fun c Hx=>c=.ret/\Over H Hx/\H.next+4<=Hx.next/\Hx.get (H.next+2)=some (.arr 0 4 [.lit (.bool false)])/\¬ fW g ns x)
  (fun k Hx h=>by rw[h.1.old _ (by omega)];exact hbx) (fun k Hx b h=>⟨h.1.upd (Nat.le_refl _) b,h.2⟩) (fun c Hx b h=>⟨h.1,h.2.1.upd (by omega) b,h.2.2.1,by rw[aj,if_neg (by omega)];exact h.2.2.2.1,h.2.2.2.2⟩)
  (fun b=>⟨.ext _ _,by simp⟩) (by decide) (fun y hy=>by
   obtain⟨k,hk⟩:=List.mem_iff_getElem?.1 hy;obtain⟨r,_,rfl⟩:=CX hk;rfl) (fun _ _ _=>trivial) (fun _ _ _=>trivial) (fun k y Hx B Bb hy hj hn hB hBb=>?_) (fun Hx hj hn=>?_) (fun Hx hs hn=>?_) (fun i Hx hs hn=>by cases hs.1)
 ·obtain⟨r,hr,rfl⟩:=CX hy;refine af _ _ _ (by rfl) ?_;simp only[go_sem,gV,bh,jn,List.foldl_cons,List.foldl_nil,List.zip_cons_cons,List.zip_nil_right,hB];obtain⟨H3,hH3⟩:∃ H3,H3=Hx.upd H2.next Bb:=⟨_,rfl⟩
  rw[<- hH3];obtain⟨st,pd,n',en,ps',as',bo,hBe⟩:=hBb;have o3:Over H2 H3:=by rw[hH3];exact hj.1.upd (Nat.le_refl _) Bb
  have o4:Over H H3:=(o1.trans o2).trans o3;have n3:H3.next=Hx.next:=by rw[hH3];rfl
  have j1:=(o3.live (g:=0) (by omega:H.next<H2.next)).trans i1;have j2:=(o3.live (g:=0) (by omega:H.next+1<H2.next)).trans i2;have j3:=(o3.old _ (by omega:H.next+2<H2.next)).trans i3;have j4:=ag j3;have jB:H3.get H2.next=some Bb:=by rw[hH3,aj,if_pos rfl]
  have nB:¬ H2.next=H.next+2:=by omega
  have hrm:=List.mem_of_getElem? hr;have hrl:=hx2 r hrm;have nope:¬ ka g x.card r->¬ fW g ns x:=fun h h'=>h (h'.2 r hrm);have stop:¬ ka g x.card r->(H3.upd (H.next+2) (Blk.arr 0 4 [.lit (.bool false)])).get H2.next=some Bb/\Hx.next<=(H3.upd (H.next+2) (Blk.arr 0 4 [.lit (.bool false)])).next/\Over H (H3.upd (H.next+2) (Blk.arr 0 4 [.lit (.bool false)])) /\
    H.next+4<=(H3.upd (H.next+2) (Blk.arr 0 4 [.lit (.bool false)])).next/\(H3.upd (H.next+2) (Blk.arr 0 4 [.lit (.bool false)])).get (H.next+2)=some (.arr 0 4 [.lit (.bool false)])/\¬ fW g ns x:=fun h =>
   ⟨by rw[aj,if_neg nB];exact jB,by rw[aH];omega,o4.upd (by omega) _,by rw[aH];omega,by rw[aj,if_pos rfl],nope h⟩
  refine af _ _ _ (by rfl) ?_;simp only[go_sem,bh,e2,j1];refine W.aO 144110790029349888 (by rfl) (fun ρ2 H4=>H4=H3/\∃ i:Nat,ρ2 42=aa i/\i<=r.length/\(∀ w∈r.take i,0<=w)/\(r.take i).sum<=g/\ρ2 10=aa (g - (r.take i).sum)) (fun ρ2 H=>r.length - (iv (ρ2 42)).toNat) ?_ ?_
  ·simp only[go_sem];exact⟨0,rfl,by omega,by simp,by simp;omega,by simp⟩
  rintro ρ2 H4 ⟨rfl,i,h42,hi,hw0,hws,h10⟩;refine af _ _ _ (by rfl) ?_;have s0:=yD (g:=g) hw0;by_cases hb2:(i:Int)<r.length
  ·obtain⟨a,ha⟩:=aq (l:=r) (i:=i) (by omega);have ham:=List.mem_of_getElem? ha;have hane:=aL ha;by_cases d1:a<0
   ·simp only[go_sem,h42,hb2,ha,hane,d1,bh,e4,j4,eE];exact stop fun h=>by have:=h.2.1 a ham;omega
   by_cases d2:a > g - (r.take i).sum
   ·simp only[go_sem,h42,h10,hb2,ha,hane,d1,d2,bh,e4,j4,eE];refine stop fun h=>?_;have h1:r.sum=(r.take (i+1)).sum+(r.drop (i+1)).sum:=(by rw[<- List.sum_append,List.take_append_drop]);rw[aV ha,yC]at h1;have h2:=yD (g:=g) (l:=r.drop (i+1)) fun w hw=>(h.2.1 w (List.mem_of_mem_drop hw)).1;have:=h.2.2;omega
   have w1:=IntWalk.i64_in ((i:Int)+1) (by omega);have w2:=IntWalk.i64_in (g - (r.take i).sum - a) (by omega);simp only[go_sem,h42,h10,hb2,ha,hane,d1,d2,w1,w2,bh];refine⟨⟨_,_,_,_,_,_,_,by rw[jB,hBe]⟩,⟨i+1,by simp,by omega,fun w hw=>?_,by rw[aV ha,yC];omega,?_⟩,by omega⟩
   ·rw[aV ha]at hw;rcases List.mem_append.1 hw with hw|hw
    ·exact hw0 w hw
    ·obtain rfl:=List.mem_singleton.1 hw;omega
   ·rw[aV ha,yC];show aa _=aa _;congr 1;omega
  ·rw[List.take_of_length_le (by omega)]at hw0 hws h10 s0;by_cases d1:(r.length:Int)=x.card;rotate_left
   ·simp only[go_sem,h42,hb2,d1,bh,e3,e4,j2,j4,eE];exact stop fun h=>d1 h.1
   have hb2':¬ (i:Int)<x.card:=(by omega);by_cases d2:g - r.sum=0;rotate_left
   ·simp only[go_sem,h42,h10,hb2',d1,d2,bh,e3,e4,j2,j4,eE];exact stop fun h=>by have:=h.2.2;omega
   simp only[go_sem,h42,h10,hb2',d1,d2,bh,e3,j2,eE];refine⟨jB,by omega,o3,fun y hy=>?_⟩;rw[aV hr]at hy;rcases List.mem_append.1 hy with hy|hy
   ·exact hj.2 y hy
   ·obtain rfl:=List.mem_singleton.1 hy;exact⟨d1,fun w hw=>⟨hw0 w hw,by have:=yE hw0 w hw;omega⟩,by omega⟩
 ·have hok:fW g ns x:=⟨c1,by
   have:=hj.2;rw[CY,List.take_length]at this;exact this⟩
  have j4:=ag ((hj.1.old _ (by omega:H.next+2<H2.next)).trans i3);rw[CZ hok]at hK;simp only[go_sem,e4,j4];exact au.bE aK hcl (((o1.trans o2).trans hj.1).upd (by omega) _) (.lit _) hK
 ·obtain⟨_,o4,n4,g4,hno⟩:=hs;have j4:=ag g4;simp only[go_sem,e4,j4];exact no hno _ o4
end Go.Proofs
namespace Go.Hx
theorem aG.pe {lo:Nat}{H:AHeap}{e:TypeId}{v:AVal}{l:List Int}(h:aG lo H e v (ints l)):Fresh H v (ah l):=by
 rcases h with ⟨rfl,h⟩|⟨id,g,h1,h2,rfl,h4⟩
 ·have:l=[]:=by cases l with
   | nil=>rfl
   | cons a l=>simp [ints]at h
  subst this;exact .nil
 ·have e:ah l=.vec (ints l).length (ints l):=by rw[aX];rfl
  rw[e];refine .own h4 (by simp) fun j hj h2 h'=>?_;simp only[Nat.zero_add,ints,List.getElem_map];exact .lit _
theorem Fz.qK {H:AHeap}{id g n nx:Nat}{e:TypeId}{cs:List AVal}(hg:H.get id=some (.arr g e cs))(hn:n=cs.length)(hl:∀ c∈cs,∃ v,c=.lit v):Fz (fun _=>True) H nx (.own id g 0 n 1) (.vec n cs):=by
 refine .frz trivial hg (by omega) fun j hj h2 h'=>?_;simp only[Nat.zero_add];obtain⟨v,hv⟩:=hl _ (List.getElem_mem h');rw[hv];exact .lit _
end Go.Hx
namespace Go.Proofs
open Go.Hx
def aU (l:List Nat):List Int:=l.map fun (v:Nat)=>(v:Int)
theorem C0 {n j:Nat}{p:Nat->Bool}(hj:j<n)(h1:∀ v,v<j->p v=false)(h2:p j=true):(List.range n).find? p=some j:=by
 rw[List.find?_eq_some_iff_getElem];refine⟨h2,j,by simpa using hj,by simp,fun k hk=>?_⟩;simp only[List.getElem_range];simp [h1 k hk]
theorem C2 {n:Nat}{p:Nat->Bool}(h1:∀ v,v<n->p v=false):(List.range n).find? p=none:=by
 rw[List.find?_eq_none];intro x hx;simp [h1 x (List.mem_range.1 hx)]
set_option maxHeartbeats 1000000 in
theorem Pk (ps:List Nat)(hl:ps.length<=60)(hp:∀ p∈ps,p<2 ^ 64)(H:AHeap)(K:ARes->AHeap->Prop)
  (hK:∀ v H',Over H H'->(match fq ps with|some o=>aG H.next H' 3 v (ints (aU o))|none=>v=.lit (.slice none 0 0))->K (.ret (.tup [v,.lit (.bool (fq ps).isSome)])) H'):ae Tryz.prog G0 162 [iQ ps] H K:=by
 have no:∀ H',fq ps=none->Over H H'->au Tryz.prog G0 H K (.tup [.lit (.slice none 0 0),.lit (.bool false)]) H':=fun H' h ov=>au.mk ov.next (by
  have:=hK (.lit (.slice none 0 0)) H' ov;rw[h]at this;exact this rfl)
 refine ae.aT (n:=44) (rs:=[.tmp 2,.tmp 3]) Tryz.func162 rfl rfl rfl (by decide) (by kernel_rfl) (by simp) ?_;simp only[go_sem];refine⟨by omega,?_⟩;refine W.aO 8796093020412 (by rfl) (fun ρ H'=>∃ (out:List Nat) (done:Nat),ρ 5=bK done/\done<2 ^ 64/\out.length<=ps.length/\H.next+1<=H'.next/\Over H H'/\aG H.next H' 3 (ρ 4) (ints (aU out))/\(∃ id g,ρ 4=.own id g 0 out.length 1)/\ij ps (ps.length - out.length) out done=fq ps)
  (fun ρ H=>ps.length - (match ρ 4 with|.own _ _ _ n _=>n|_=>0)) ?_ ?_
 ·simp only[go_sem];exact⟨[],0,by simp,by decide,Nat.zero_le _,.ext _ _,.inr ⟨H.next,0,Nat.le_refl _,by simp [bf],rfl,cu H _ []⟩,⟨_,_,rfl⟩,rfl⟩
 rintro ρ H' ⟨out,done,h5,hd,ho,hn0,ov,h4,⟨id,gn,h4e⟩,ht⟩;refine af _ _ _ (by rfl) ?_;have lv:H'.live id gn=some (3,ints (aU out)):=by
  rcases h4 with ⟨h,_⟩|⟨i,g,h1,h2,h3,h4⟩
  ·rw[h4e]at h;cases h
  ·rw[h4e]at h3;have:=AVal.own.inj h3;obtain⟨rfl,rfl,_⟩:=this;exact ag h4
 by_cases hb:(out.length:Int)<ps.length
 ·simp only[go_sem,h4e,lv,hb];have hk1:ps.length - out.length=(ps.length - (out.length+1))+1:=by omega
  refine W.aO 8796092760304 (by rfl) (fun ρ2 H2=>H2=H'/\∃ j:Nat,ρ2 18=aa j/\j<=ps.length/\ρ2 4=.own id gn 0 out.length 1/\ρ2 5=bK done/\∀ v,v<j->jv ps done v=false) (fun ρ2 H=>ps.length - (iv (ρ2 18)).toNat) ?_ ?_
  ·simp only[go_sem,h4e,h5];exact⟨0,rfl,by omega,fun v h=>absurd h (Nat.not_lt_zero _)⟩
  rintro ρ2 H2 ⟨rfl,j,h18,hj,h4',h5',hno⟩;refine af _ _ _ (by rfl) ?_;by_cases hb2:(j:Int)<ps.length
  ·obtain⟨p,hpj⟩:=aq (l:=ps) (i:=j) (by omega);have hp1:=hp p (List.mem_of_getElem? hpj);have hne:=aL hpj;have s1:=fun t x y=>lU (P:=Tryz.prog) (t:=t) (x:=x) (y:=y) (k':=.i64) (s:=j) hd;have s2:=fun t x y=>mQ (P:=Tryz.prog) (t:=t) (x:=x) (y:=y) (s:=j) hd;have s3:=fun t x y=>yY (P:=Tryz.prog) (t:=t) (x:=x) (y:=y) (a:=p) (b:=done);have w1:=IntWalk.i64_in ((j:Int)+1) (by omega);have cont:jv ps done j=false->∀ v,v<j+1->jv ps done v=false:=fun h v hv=>by
    rcases Nat.lt_or_ge v j with h'|h'
    ·exact hno v h'
    ·obtain rfl:v=j:=(by omega);exact h
   have fe:jv ps done j=(!done.testBit j && decide (iC p done=0)):=(by unfold jv;rw[bJ hpj]);cases hbit:done.testBit j;rotate_left
   ·simp only[go_sem,h18,h4',h5',hb2,hpj,hne,s1,s2,hbit,w1];exact⟨⟨j+1,by simp,by omega,cont (by rw[fe,hbit];rfl)⟩,by omega⟩
   by_cases hz:iC p done=0;rotate_left
   ·have hz':¬ ((iC p done:Nat):Int)=0:=(by omega);simp only[go_sem,h18,h4',h5',hb2,hpj,hne,s1,s2,s3,hbit,hz',w1];exact⟨⟨j+1,by simp,by omega,cont (by rw[fe,hbit];simp [hz])⟩,by omega⟩
   have hz':((iC p done:Nat):Int)=0:=(by omega);have hnx:kE ps done=some j:=C0 (by omega) hno (by rw[fe,hbit];simp [hz]);obtain⟨v',H3,hA,ov2,hO,hn2,_⟩:=ki (j:Int) ov h4 (by simp [aU];omega);rw[h4e]at hA;have b2:(2:Nat) ^ j<2 ^ 64:=Nat.pow_lt_pow_right (by decide) (by omega);have s4:=fun t x y=>mO (P:=Tryz.prog) (t:=t) (x:=x) (y:=y) (k':=.i64) (s:=j) (by omega);have s5:=fun t x y=>kh (P:=Tryz.prog) (t:=t) (x:=x) (y:=y) hd b2;simp only[go_sem,h18,h4',h5',hb2,hpj,hne,s1,s2,s3,s4,s5,hbit,hz',hA];have hO':aG H.next H3 3 v' (ints (aU (out++[j]))):=by
    have e:aU (out++[j])=aU out++[(j:Int)]:=(by simp [aU]);rw[e];exact hO
   have hv':∃ id g,v'=.own id g 0 (out.length+1) 1:=by
    rcases hO' with ⟨_,h⟩|⟨i,g,_,_,h3,_⟩
    ·simp [ints,aU]at h
    ·exact⟨i,g,by rw[h3,aX];simp [aU]⟩
   obtain⟨i2,g2,rfl⟩:=hv';refine⟨by omega,⟨out++[j],done ||| 2 ^ j,rfl,Nat.or_lt_two_pow hd b2,by simp;omega,by omega,ov2,hO',⟨i2,g2,by simp⟩,?_⟩,by simp only;omega⟩;rw[<- ht,hk1]
   conv=>rhs;unfold ij
   rw[hnx];simp
  ·simp only[go_sem,h18,hb2];refine no _ ?_ ov;rw[<- ht,hk1];unfold ij;have:kE ps done=none:=C2 fun v hv=>hno v (by omega);rw[this]
 ·simp only[go_sem,h4e,lv,hb];have hz:ps.length - out.length=0:=by omega
  rw[hz]at ht;have ht':fq ps=some out:=ht.symm;have:=hK (.own id gn 0 out.length 1) H' ov;rw[ht']at this;refine au.mk ov.next (this ?_);rw[h4e]at h4;exact h4
theorem Pl (ps:List Nat)(hl:ps.length<=60)(hp:∀ p∈ps,p<2 ^ 64)(H:AHeap)(v:AVal)(hv:Fz (fun _=>True) H 0 v (iQ ps))(K:ARes->AHeap->Prop)
  (hK:K (.ret (.tup [ah (aU ((fq ps).getD [])),.lit (.bool (fq ps).isSome)])) H):ae Tryz.prog G0 162 [v] H K:=by
 refine(ae.frame (H:=H) (args:=[v]) (args':=[iQ ps]) (v':=.tup [ah (aU ((fq ps).getD [])),.lit (.bool (fq ps).isSome)]) aK rfl (fun i hi _=>match i,hi with|0,_=>hv) (Pk ps hl hp dh _ fun u H' ov hu=>⟨_,rfl,?_⟩)).mono ?_
 ·refine .tup rfl fun i hi _=>?_
  match i,hi with
  | 0,_ =>
   show Fresh H' u _;cases ht:fq ps with
   | none=>rw[ht]at hu;simp only at hu;rw[hu];show Fresh H' _ (ah []);exact .nil
   | some o=>rw[ht]at hu;exact aG.pe hu
  | 1,_=>exact .lit _
 ·rintro r H' ⟨rfl,rfl⟩;exact hK
end Go.Proofs
namespace Go.Proofs
open Go.Hx
def yF:AVal:=.agg [.lit (.int .i64 0),ah [],ah [],ah [],ah []]
def yG (g:Int)(ns:List NodeP):AVal:=.agg [.lit (.int .i64 g),dw ns,ah (ak ns),iQ (bb ns),ah (aU ((fq (bb ns)).getD []))]
structure RdS (g:Int)(ns:List NodeP)(H H':AHeap)(c:List Int)(s:List Nat):Prop where
 nx:H.next+5<=H'.next
 ov:Over H H'
 b0:H'.get H.next=some (.arr 0 103 [.lit (.int .i64 g),.vec ns.length (aC ns)])
 b1:H'.get (H.next+1)=some (.arr 0 209 [.lit (.int .i64 0),.lit (.slice none 0 0),.lit (.slice none 0 0),.lit (.slice none 0 0),.lit (.slice none 0 0)])
 b2:H'.get (H.next+2)=some (.arr 0 3 (ints c))
 b3:H'.get (H.next+3)=some (.arr 0 35 (s.map bK))
 b4:H'.get (H.next+4)=some (.arr 0 209 [.lit (.int .i64 g),.vec ns.length (aC ns),.own (H.next+2) 0 0 ns.length 1,.own (H.next+3) 0 0 ns.length 1,.lit (.slice none 0 0)])
 cl:c.length=ns.length
 sl:s.length=ns.length
theorem RdS.over {g:Int}{ns:List NodeP}{H H' H2:AHeap}{c:List Int}{s:List Nat}(h:RdS g ns H H' c s)(o:Over H' H2):RdS g ns H H2 c s where
 nx:=Nat.le_trans h.nx o.next
 ov:=h.ov.trans o
 b0:=(o.old _ (by have:=h.nx;omega)).trans h.b0
 b1:=(o.old _ (by have:=h.nx;omega)).trans h.b1
 b2:=(o.old _ (by have:=h.nx;omega)).trans h.b2
 b3:=(o.old _ (by have:=h.nx;omega)).trans h.b3
 b4:=(o.old _ (by have:=h.nx;omega)).trans h.b4
 cl:=h.cl
 sl:=h.sl
theorem RdS.Pm {g:Int}{ns:List NodeP}{H H':AHeap}{c:List Int}{s:List Nat}(h:RdS g ns H H' c s){k:Nat}(hk:k<c.length)(x:Int):RdS g ns H (H'.upd (H.next+2) (.arr 0 3 (setAt (ints c) k [.lit (.int .i64 x)]))) (c.set k x) s where
 nx:=h.nx
 ov:=h.ov.upd (by omega) _
 b0:=by rw[aj,if_neg (by omega)];exact h.b0
 b1:=by rw[aj,if_neg (by omega)];exact h.b1
 b2:=by rw[aj,if_pos rfl,gH hk]
 b3:=by rw[aj,if_neg (by omega)];exact h.b3
 b4:=by rw[aj,if_neg (by omega)];exact h.b4
 cl:=by simpa using h.cl
 sl:=h.sl
theorem Pn {l:List Nat}{i:Nat}{x:Nat}(h:i<l.length):setAt (l.map bK) i [.lit (.int .u64 (x:Int))]=(l.set i x).map bK:=by
 rw[g9 (by simpa using h)];simp [bK]
theorem RdS.Po {g:Int}{ns:List NodeP}{H H':AHeap}{c:List Int}{s:List Nat}(h:RdS g ns H H' c s){k:Nat}(hk:k<s.length)(x:Nat):RdS g ns H (H'.upd (H.next+3) (.arr 0 35 (setAt (s.map bK) k [.lit (.int .u64 (x:Int))]))) c (s.set k x) where
 nx:=h.nx
 ov:=h.ov.upd (by omega) _
 b0:=by rw[aj,if_neg (by omega)];exact h.b0
 b1:=by rw[aj,if_neg (by omega)];exact h.b1
 b2:=by rw[aj,if_neg (by omega)];exact h.b2
 b3:=by rw[aj,if_pos rfl,Pn hk]
 b4:=by rw[aj,if_neg (by omega)];exact h.b4
 cl:=h.cl
 sl:=by simpa using h.sl
theorem RdS.l0 {g:Int}{ns:List NodeP}{H H':AHeap}{c:List Int}{s:List Nat}(h:RdS g ns H H' c s):H'.live H.next 0=some (103,[.lit (.int .i64 g),.vec ns.length (aC ns)]):=ag h.b0
theorem RdS.l1 {g:Int}{ns:List NodeP}{H H':AHeap}{c:List Int}{s:List Nat}(h:RdS g ns H H' c s):H'.live (H.next+1) 0=some (209,[.lit (.int .i64 0),.lit (.slice none 0 0),.lit (.slice none 0 0),.lit (.slice none 0 0),.lit (.slice none 0 0)]):=ag h.b1
theorem RdS.l2 {g:Int}{ns:List NodeP}{H H':AHeap}{c:List Int}{s:List Nat}(h:RdS g ns H H' c s):H'.live (H.next+2) 0=some (3,ints c):=ag h.b2
theorem RdS.l3 {g:Int}{ns:List NodeP}{H H':AHeap}{c:List Int}{s:List Nat}(h:RdS g ns H H' c s):H'.live (H.next+3) 0=some (35,s.map bK):=ag h.b3
theorem RdS.l4 {g:Int}{ns:List NodeP}{H H':AHeap}{c:List Int}{s:List Nat}(h:RdS g ns H H' c s):H'.live (H.next+4) 0=some (209,[.lit (.int .i64 g),.vec ns.length (aC ns),.own (H.next+2) 0 0 ns.length 1,.own (H.next+3) 0 0 ns.length 1,.lit (.slice none 0 0)]):=ag h.b4
theorem qL {S:Nat->Prop}{H:AHeap}{nx:Nat}(ns:List NodeP):Fz S H nx (.vec ns.length (aC ns)) (.vec ns.length (aC ns)):=by
 refine .vec rfl fun i hi _=>?_;have:∀ (l:List NodeP) (c:AVal),c∈aC l->Fz S H nx c c:=by
  intro l c hc;unfold aC at hc;obtain⟨r,hr,hc⟩:=List.mem_flatten.1 hc;obtain⟨x,_,rfl⟩:=List.mem_map.1 hr;unfold NodeP.cells at hc;simp only[List.mem_cons,List.not_mem_nil,or_false]at hc;rcases hc with rfl|rfl|rfl
  ·exact .lit _
  ·exact .dH _
  ·exact .aD _
 exact this ns _ (List.getElem_mem _)
theorem Pp (g:Int)(hg:1<=g/\g<=60)(ns:List NodeP)(sets:List Nat)(x:NodeP)(hin:fK x.parents ns.length)(hsm:dS (aR ns x))(hx1:(x.rows.length:Int)<2 ^ 38)(hx2:∀ r∈x.rows,(r.length:Int)<2 ^ 38)(H:AHeap)(ci si:Nat)
  (h2:H.get ci=some (.arr 0 3 (ints (ak ns)))) (h3:H.get si=some (.arr 0 35 (sets.map bK))) (hs:sets.length=ns.length) (K:ARes->AHeap->Prop)
  (hK:K (.ret (.lit (.bool (lT g ns x)))) H):ae Tryz.prog G0 161 [.agg [.lit (.int .i64 g),.vec ns.length (aC ns),.own ci 0 0 ns.length 1,.own si 0 0 ns.length 1,.lit (.slice none 0 0)],.agg [.lit (.int .i64 x.card),.vec x.parents.length (ints x.parents),aD x.rows]] H K:=by
 refine(ae.frame (H:=H) (args:=[.agg [.lit (.int .i64 g),.vec ns.length (aC ns),.own ci 0 0 ns.length 1,.own si 0 0 ns.length 1,.lit (.slice none 0 0)],.agg [.lit (.int .i64 x.card),.vec x.parents.length (ints x.parents),aD x.rows]]) (args':=[.agg [.lit (.int .i64 g),dw ns,ah (ak ns),iQ sets,.lit (.slice none 0 0)],sG x]) (v':=.lit (.bool (lT g ns x))) aK rfl (fun i hi _=>?_) (Pj g hg ns sets x hin hsm hx1 hx2 dh _ ⟨_,rfl,.lit _⟩)).mono ?_
 ·match i,hi with
  | 0,_ =>
   refine .agg rfl fun i hi _=>?_
   match i,hi with
   | 0,_=>exact .lit _
   | 1,_=>exact qL _
   | 2,_ =>
    have:=Fz.qK (nx:=0) h2 (n:=ns.length) (by rw[aX,dc]) (fun c hc=>by
     obtain⟨z,_,rfl⟩:=List.mem_map.1 hc;exact⟨_,rfl⟩)
    show Fz _ _ _ _ (.vec (ak ns).length (ints (ak ns)));rw[dc];exact this
   | 3,_ =>
    have:=Fz.qK (nx:=0) h3 (n:=ns.length) (by simp [hs]) (fun c hc=>by
     obtain⟨z,_,rfl⟩:=List.mem_map.1 hc;exact⟨_,rfl⟩)
    show Fz _ _ _ _ (.vec sets.length (sets.map bK));rw[hs];exact this
   | 4,_=>exact .lit _
  | 1,_ =>
   refine .agg rfl fun i hi _=>?_
   match i,hi with
   | 0,_=>exact .lit _
   | 1,_=>exact .dH _
   | 2,_=>exact .aD _
 ·rintro r H' ⟨rfl,rfl⟩;exact hK
theorem Pq {ns:List NodeP}{k:Nat}{x:NodeP}(hx:ns[k]?=some x)(h0:∀ q∈x.parents,0<=q)(hm:(k:Int)∈x.parents):¬ kD (bb ns):=fun h=>by
 have hk:=aM (lQ hx);have:=h k hk;rw[bJ (lQ hx)]at this;have h1:=xG (bb ns) (bb ns).length (cr x.parents) k (by rw[lD h0];exact decide_eq_true hm);unfold kC at this;rw[h1]at this;cases this
set_option maxHeartbeats 4000000 in
theorem Pr (g:Int)(ns:List NodeP)(hf:uW ns)(H:AHeap)(K:ARes->AHeap->Prop)(hK:K (.ret (if oZ g ns then .tup [yG g ns,aa 0] else .tup [yF,aa 50])) H):ae Tryz.prog G0 147 [da g ns] H K:=by
 refine ae.clo ⟨_,Tryz.func147,rfl,rfl⟩ fun hcl=>?_;have no:¬ NetOk g ns->∀ H',Over H H'->au Tryz.prog G0 H K (.tup [.agg [.lit (.int .i64 0),.lit (.slice none 0 0),.lit (.slice none 0 0),.lit (.slice none 0 0),.lit (.slice none 0 0)],.lit (.int .i64 50)]) H':=fun h H' ov=>by
  rw[CW h]at hK;refine au.bE (v':=.tup [yF,aa 50]) aK hcl ov (.tup rfl fun i hi _=>?_) hK
  match i,hi with
  | 0,_ =>
   refine .agg rfl fun i hi _=>?_
   match i,hi with
   | 0,_=>exact .lit _
   | 1,_=>exact .nil
   | 2,_=>exact .nil
   | 3,_=>exact .nil
   | 4,_=>exact .nil
  | 1,_=>exact .lit _
 refine ae.aT (n:=140) (rs:=[.cell 2 209,.tmp 3]) Tryz.func147 rfl rfl rfl (by decide) (by kernel_rfl) (by simp) ?_;simp only[go_sem,da,dw];have l1:=ag (cu H (.arr 0 103 [.lit (.int .i64 g),.vec ns.length (aC ns)]) [.arr 0 209 [.lit (.int .i64 0),.lit (.slice none 0 0),.lit (.slice none 0 0),.lit (.slice none 0 0),.lit (.slice none 0 0)]]);by_cases c1:g<1
 ·simp only[go_sem,c1];exact no (fun h=>by have:=h.g1;omega) _ (.ext _ _)
 by_cases c2:g > 60
 ·simp only[go_sem,l1,c1,c2];exact no (fun h=>by have:=h.g1;omega) _ (.ext _ _)
 by_cases c3:(ns.length:Int)<1
 ·simp only[go_sem,l1,c1,c2,c3];exact no (fun h=>by have:=h.n1;omega) _ (.ext _ _)
 by_cases c4:(ns.length:Int) > 8
 ·simp only[go_sem,l1,c1,c2,c3,c4];exact no (fun h=>by have:=h.n1;omega) _ (.ext _ _)
 simp only[go_sem,l1,c1,c2,c3,c4];refine W.draw 11 [0,0,2,6,14,0,32,96,224,511,0] Tryz.mixed (by kernel_rfl) (by kernel_rfl) ?_;simp only[go_sem,l1]
 repeat (refine And.intro (by first|omega|(simp;done)|(simp;omega)|(intros;omega)|exact⟨rfl,by omega,by omega,lh _⟩) ?_)
 obtain⟨Hb,hHb⟩:∃ Hb,Hb=ext (ext H [.arr 0 103 [.lit (.int .i64 g),.vec ns.length (aC ns)],.arr 0 209 [.lit (.int .i64 0),.lit (.slice none 0 0),.lit (.slice none 0 0),.lit (.slice none 0 0),.lit (.slice none 0 0)],.arr 0 3 (List.replicate ns.length (.lit (.int .i64 0))),.arr 0 35 (List.replicate ns.length (.lit (.int .u64 0)))]) [.arr 0 209 [.lit (.int .i64 g),.vec ns.length (aC ns),.own (H.next+2) 0 0 ns.length 1,.own (H.next+3) 0 0 ns.length 1,.lit (.slice none 0 0)]]:=⟨_,rfl⟩
 rw[<- hHb];have R0:RdS g ns H Hb (List.replicate ns.length 0) (List.replicate ns.length 0):=by
  rw[hHb,dD];exact⟨by simp [bf],.ext _ _,cu ..,aZ H _ 1 (by simp),by rw[aZ H _ 2 (by simp)];simp [ints,aa],by rw[aZ H _ 3 (by simp)];simp [bK],aZ H _ 4 (by simp),by simp,by simp⟩
 have hcard:∀ {k:Nat},(∀ x∈ns.take k,1<=x.card/\x.card<=4)->dS ((ak ns).take k):=fun {k} h=>mG (by simp [ak];omega) fun c hc=>by
  rw[show (ak ns).take k=ak (ns.take k) by simp [ak]]at hc;obtain⟨y,hy,rfl⟩:=List.mem_map.1 hc;exact h y hy
 refine W.aO 37778930737057254867176 (by rfl) (fun ρ H'=>∃ (k:Nat) (c:List Int),ρ 50=aa k/\k<=ns.length/\ρ 5=aa (aA ((ak ns).take k))/\RdS g ns H H' c (List.replicate ns.length 0)/\Hb.next<=H'.next/\c.take k=(ak ns).take k/\∀ x∈ns.take k,1<=x.card/\x.card<=4) (fun ρ H=>ns.length - (iv (ρ 50)).toNat) ?_ ?_
 ·simp only[go_sem];exact⟨0,_,rfl,by omega,by simp [iG],R0,by simp⟩
 rintro ρ H' ⟨k,c,h50,hk,h5,R,hn,hc,hall⟩;refine af _ _ _ (by rfl) ?_;have q0:=R.l0;have q1:=R.l1;have q2:=R.l2;have q4:=R.l4;have rn:=R.nx;by_cases hb:(k:Int)<ns.length
 ·obtain⟨x,hx⟩:=aq (l:=ns) (i:=k) (by omega);have hxm:=List.mem_of_getElem? hx;have hne:=ep hx;have e0:=oI hx;have e1:k*3+3<=(aC ns).length:=by rw[jS];omega
  have R2:=R.over (.ext H' [.arr 0 73 [.lit (.int .i64 x.card),.vec x.parents.length (ints x.parents),aD x.rows]]);have p1:=R2.l1;have p2:=R2.l2;have p4:=R2.l4;have nb1:¬ H.next+1=H'.next:=by omega
  have nb2:¬ H.next+2=H'.next:=by omega
  have nb4:¬ H.next+4=H'.next:=by omega
  by_cases d1:x.card<1
  ·simp only[go_sem,h50,p1,hb,hne,e0,e1,d1];exact no (fun h=>by have:=(h.node x hxm).1;omega) _ (R2.ov.upd (by omega) _)
  by_cases d2:x.card > 4
  ·simp only[go_sem,h50,p1,hb,hne,e0,e1,d1,d2];exact no (fun h=>by have:=(h.node x hxm).1;omega) _ (R2.ov.upd (by omega) _)
  have hall':∀ y∈ns.take (k+1),1<=y.card/\y.card<=4:=fun y hy=>by
   rw[aV hx]at hy;rcases List.mem_append.1 hy with hy|hy
   ·exact hall y hy
   ·obtain rfl:=List.mem_singleton.1 hy;exact⟨by omega,by omega⟩
  have b2:=(hcard hall').prod;rw[aV (cU hx),fF]at b2;have w1:=IntWalk.i64_in ((k:Int)+1) (by omega);have w2:=IntWalk.i64_in (aA ((ak ns).take k)*x.card) (by omega);have hkc:k<c.length:=by rw[R.cl];omega
  have p0:∀ b,((ext H' [.arr 0 73 [.lit (.int .i64 x.card),.vec x.parents.length (ints x.parents),aD x.rows]]).upd (H.next+2) b).live H'.next 0=some (73,[.lit (.int .i64 x.card),.vec x.parents.length (ints x.parents),aD x.rows]):=fun b=>by
   rw[n9 (by omega)];exact ag bR
  simp only[go_sem,h50,h5,p2,p4,p0,hb,hne,e0,e1,d1,d2,w1,w2];exact⟨by omega,by rw[aH,bf];omega,⟨k+1,_,by simp,by omega,by rw[aV (cU hx),fF],R2.Pm hkc x.card,by rw[aH,bf];omega,DO hc hkc (cU hx),fun y hy=>hall' y hy⟩,by omega⟩
 have ek:k=ns.length:=by omega
 subst ek;rw[List.take_of_length_le (Nat.le_refl _)]at hall;rw[List.take_of_length_le (by rw[dc];omega)]at h5;have ec:c=ak ns:=by
  rw[List.take_of_length_le (by rw[R.cl];omega),List.take_of_length_le (by rw[dc];omega)]at hc;exact hc
 subst ec;by_cases c5:aA (ak ns) > 1024
 ·simp only[go_sem,h50,h5,q1,hb,c5];exact no (fun h=>by have:=h.size;omega) _ (R.ov.upd (by omega) _)
 simp only[go_sem,h50,h5,q4,hb,c5];refine W.aO 340282366920933627760096148915069392648 (by rfl) (fun ρ' H2=>∃ (k:Nat) (s:List Nat),ρ' 82=aa k/\k<=ns.length/\RdS g ns H H2 (ak ns) s/\H'.next<=H2.next/\s.take k=(bb ns).take k/\(∀ j,k<=j->s.getD j 0=0)/\∀ x∈ns.take k,cJ x.parents ns.length/\fW g ns x) (fun ρ' H=>ns.length - (iv (ρ' 82)).toNat) ?_ ?_
 ·simp only[go_sem];refine⟨0,_,rfl,by omega,R,rfl,fun j _=>?_,by simp⟩;rw[List.getD_eq_getElem?_getD,List.getElem?_replicate];split<;>rfl
 rintro ρ' H2 ⟨k,s,h82,hk2,R2,hn2,hs,hs0,hall2⟩;refine af _ _ _ (by rfl) ?_;have r2:=R2.nx;have q4:=R2.l4;by_cases hb2:(k:Int)<ns.length;rotate_left
 ·have es:s=bb ns:=by
   rw[List.take_of_length_le (by rw[R2.sl];omega),List.take_of_length_le (by simp [bb];omega)]at hs;exact hs
  subst es;rw[List.take_of_length_le (by omega)]at hall2;have hlt:∀ p∈bb ns,p<2 ^ ns.length:=uX fun x hx q hq=>(hall2 x hx).1.2 q hq;have hsl:(bb ns).length=ns.length:=by simp [bb]
  have hlt64:∀ p∈bb ns,p<2 ^ 64:=fun p hp=>Nat.lt_of_lt_of_le (hlt p hp) (Nat.pow_le_pow_right (by decide) (by omega));have hto:=xI (ps:=bb ns) (by rw[hsl];exact hlt) (by omega);simp only[go_sem,h82,q4,hb2];have fzs:=Fz.qK (nx:=0) R2.b3 (n:=ns.length) (by simp [R2.sl]) (fun c hc=>by
   obtain⟨z,_,rfl⟩:=List.mem_map.1 hc;exact⟨_,rfl⟩)
  refine az.clo (Pl (bb ns) (by omega) hlt64 _ _ (by show Fz _ _ _ _ (.vec (bb ns).length _);rw[hsl];exact fzs) _ ⟨trivial,?_⟩);have q1:=R2.l1;cases hso:(fq (bb ns)).isSome
  ·simp only[go_sem,q1];exact no (fun h=>by rw[hto.2 h.acyc]at hso;cases hso) _ (R2.ov.upd (by omega) _)
  have hok:NetOk g ns:=⟨by omega,by omega,fun x hx=>⟨hall x hx,(hall2 x hx).1⟩,by omega,hto.1 hso,fun x hx=>(hall2 x hx).2⟩
  rw[CV hok]at hK;have q1b:∀ b,(H2.upd (H.next+4) b).live (H.next+1) 0=_:=fun b=>(n9 (by omega)).trans q1;simp only[go_sem,q1b,q4];have ovf:Over H ((H2.upd (H.next+4) (.arr 0 209 [.lit (.int .i64 g),.vec ns.length (aC ns),.own (H.next+2) 0 0 ns.length 1,.own (H.next+3) 0 0 ns.length 1,.vec (aU ((fq (bb ns)).getD [])).length (ints (aU ((fq (bb ns)).getD [])))])).upd (H.next+1) (.arr 0 209 [.lit (.int .i64 g),.vec ns.length (aC ns),.own (H.next+2) 0 0 ns.length 1,.own (H.next+3) 0 0 ns.length 1,.vec (aU ((fq (bb ns)).getD [])).length (ints (aU ((fq (bb ns)).getD [])))])):=(R2.ov.upd (by omega) _).upd (by omega) _;refine au.bE (v':=.tup [yG g ns,aa 0]) aK hcl ovf (.tup rfl fun i hi _=>?_) hK
  match i,hi with
  | 1,_=>exact .lit _
  | 0,_ =>
   refine .agg rfl fun i hi _=>?_
   match i,hi with
   | 0,_=>exact .lit _
   | 1,_=>exact qL _
   | 2,_ =>
    have hg2:∀ b b',((H2.upd (H.next+4) b).upd (H.next+1) b').get (H.next+2)=some (.arr 0 3 (ints (ak ns))):=fun b b'=>by rw[aj,if_neg (by omega),aj,if_neg (by omega)];exact R2.b2
    show Fz _ _ _ (.own (H.next+2) 0 0 ns.length 1) (.vec (ak ns).length (ints (ak ns)));rw[<- dc ns];exact .ints (by show H.next<=_;omega) (hg2 _ _) (by simp) fun i hi=>by simp [d6,hi]
   | 3,_ =>
    have hg3:∀ b b',((H2.upd (H.next+4) b).upd (H.next+1) b').get (H.next+3)=some (.arr 0 35 ((bb ns).map bK)):=fun b b'=>by rw[aj,if_neg (by omega),aj,if_neg (by omega)];exact R2.b3
    show Fz _ _ _ (.own (H.next+3) 0 0 ns.length 1) (.vec (bb ns).length ((bb ns).map bK));rw[<- hsl];refine .frz (by show H.next<=_;omega) (hg3 _ _) (by simp) fun j hj h2 h'=>?_;simp only[Nat.zero_add,List.getElem_map];exact .lit _
   | 4,_=>exact .dH _
 obtain⟨x,hx⟩:=aq (l:=ns) (i:=k) (by omega);have hxm:=List.mem_of_getElem? hx;have hne:=ep hx;have e0:=oI hx;have e1:k*3+3<=(aC ns).length:=by rw[jS];omega
 obtain⟨f1,f2,f3⟩:=hf.2 x hxm;simp only[go_sem,h82,hb2,hne,e0,e1];obtain⟨H3,hH3⟩:∃ H3,H3=ext H2 [.arr 0 73 [.lit (.int .i64 x.card),.vec x.parents.length (ints x.parents),aD x.rows]]:=⟨_,rfl⟩
 have R3:RdS g ns H H3 (ak ns) s:=by rw[hH3];exact R2.over (.ext _ _)
 have nn:H3.next=H2.next+1:=by rw[hH3];rfl
 have gN:H3.get H2.next=some (.arr 0 73 [.lit (.int .i64 x.card),.vec x.parents.length (ints x.parents),aD x.rows]):=by rw[hH3];exact bR
 rw[<- hH3];have hks:k<s.length:=by rw[R2.sl];omega
 have s0:s.set k 0=s:=by
  apply List.ext_getElem?;intro i;rw[List.getElem?_set];split
  ·rename_i h;subst h;have:=hs0 k (Nat.le_refl _);rw[List.getD_eq_getElem?_getD,List.getElem?_eq_getElem hks]at this;simp only[Option.getD_some]at this;rw[List.getElem?_eq_getElem hks,this]
  ·rfl
 refine W.aO 5316911981901723452329847966222259208 (by rfl) (fun ρ2 H4=>∃ (j:Nat) (b:Int),ρ2 90=aa j/\j<=x.parents.length/\ρ2 10=aa b/\cJ (x.parents.take j) ns.length/\(x.parents.take j).getLast?.getD (-1)=b/\RdS g ns H H4 (ak ns) (s.set k (cr (x.parents.take j)))/\H3.next<=H4.next/\H4.get H2.next=some (.arr 0 73 [.lit (.int .i64 x.card),.vec x.parents.length (ints x.parents),aD x.rows])/\¬ (k:Int)∈x.parents.take j)
  (fun ρ2 H=>x.parents.length - (iv (ρ2 90)).toNat) ?_ ?_
 ·simp only[go_sem];exact⟨0,-1,rfl,by omega,rfl,.nil,rfl,by rw[show cr (x.parents.take 0)=0 from rfl,s0];exact R3,gN,by simp⟩
 rintro ρ2 H4 ⟨j,b,h90,hj,h10,hp,hbl,R4,hn4,gN4,hself⟩;refine af _ _ _ (by rfl) ?_;have r4:=R4.nx;have t1:=R4.l1;have t3:=R4.l3;have t4:=R4.l4;have tN:=ag gN4;by_cases hb3:(j:Int)<x.parents.length
 ·obtain⟨a,ha⟩:=aq (l:=x.parents) (i:=j) (by omega);have ham:=List.mem_of_getElem? ha;have hane:=aL ha;by_cases d1:a<=b
  ·simp only[go_sem,h90,h10,hb3,ha,hane,d1,t1];refine no (fun h=>?_) _ (R4.ov.upd (by omega) _);have hpl:=(h.node x hxm).2;have h0:=hpl.2 a ham;rcases Nat.eq_zero_or_pos j with rfl|hk0
   ·simp at hbl;omega
   ·obtain⟨i,rfl⟩:∃ i,j=i+1:=⟨j - 1,by omega⟩
    obtain⟨b',hbj⟩:=aq (l:=x.parents) (i:=i) (by omega);rw[uU hbj]at hbl;have:=hpl.lt hbj ha (by omega);simp at hbl;omega
  by_cases d2:a >= ns.length
  ·simp only[go_sem,h90,h10,hb3,ha,hane,d1,d2,t1,t4];exact no (fun h=>by have:=(h.node x hxm).2.2 a ham;omega) _ (R4.ov.upd (by omega) _)
  have h0:0<=a:=by
   rcases hg:(x.parents.take j).getLast? with _|b'
   ·rw[hg]at hbl;simp at hbl;omega
   ·rw[hg]at hbl;have:=hp.2 b' (List.mem_of_getLast? hg);simp at hbl;omega
  by_cases d3:a=k
  ·have d1':¬ (k:Int)<=b:=(by omega);have d2':¬ (k:Int) >= ns.length:=(by omega);simp only[go_sem,h90,h10,hb3,ha,hane,d1',d2',d3,t1,t4];exact no (fun h=>Pq hx (fun q hq=>((h.node x hxm).2.2 q hq).1) (by rw[<- d3];exact ham) h.acyc) _ (R4.ov.upd (id:=H.next+1) (by omega) _)
  obtain⟨u,rfl⟩:=Int.eq_ofNat_of_zero_le h0;have w1:=IntWalk.i64_in ((j:Int)+1) (by omega);have bm:cr (x.parents.take j)<2 ^ 64:=nD fun p hp'=>by have:=hp.2 p hp';omega
  have v1:=fun t x y=>mO (P:=Tryz.prog) (t:=t) (x:=x) (y:=y) (k':=.i64) (s:=u) (by omega);have v2:=fun t x y=>kh (P:=Tryz.prog) (t:=t) (x:=x) (y:=y) (b:=2 ^ u) bm (Nat.pow_lt_pow_right (by decide) (by omega));have gs:(s.set k (cr (x.parents.take j)))[k]?=some (cr (x.parents.take j)):=List.getElem?_set_self hks;simp only[go_sem,h90,h10,hb3,ha,hane,d1,d2,d3,t4];refine W.draw 7 [0,1,0,7,15,0,32] Tryz.mixed (by kernel_rfl) (by kernel_rfl) ?_;simp only[go_sem,h90,hb2,t3,t4,gs,v1,v2,w1]
  repeat (refine And.intro (by first|omega|(simp;done)|(simp;omega)|(intros;omega)|exact⟨rfl,by omega,by omega,lh _⟩) ?_)
  have R5:=R4.Po (k:=k) (by simpa using hks) (cr (x.parents.take j) ||| 2 ^ u);rw[List.set_set]at R5;have esn:cr (x.parents.take (j+1))=cr (x.parents.take j) ||| 2 ^ u:=by rw[aV ha,uf];rfl
  refine⟨by rw[aH];omega,⟨j+1,u,by simp,by omega,rfl,?_,by rw[uU ha];rfl,by rw[esn];exact R5,by rw[aH];omega,by rw[aj,if_neg (by omega)];exact gN4,fun hm=>?_⟩,by omega⟩
  ·rw[aV ha];exact hp.snoc ⟨by omega,by omega⟩ fun b' hb'=>by rw[hb']at hbl;simp at hbl;omega
  ·rw[aV ha]at hm;rcases List.mem_append.1 hm with hm|hm
   ·exact hself hm
   ·exact d3 (List.mem_singleton.1 hm).symm
 ·have hb3':=hb3;rw[List.take_of_length_le (by omega)]at hp hself R4;simp only[go_sem,h90,hb3,t4,tN];have hin:fK x.parents ns.length:=fun q hq=>by have:=hp.2 q hq;omega
  refine az.clo (Pp g ⟨by omega,by omega⟩ ns _ x hin (lS (by omega) hp hall) f2 f3 _ (H.next+2) (H.next+3) R4.b2 R4.b3 R4.sl _ ⟨trivial,?_⟩);cases hnb:lT g ns x
  ·simp only[go_sem,t1];exact no (fun h=>by rw[CZ (h.rows x hxm)]at hnb;cases hnb) _ (R4.ov.upd (by omega) _)
  have w1:=IntWalk.i64_in ((k:Int)+1) (by omega);simp only[go_sem,h82,w1];refine⟨by omega,⟨k+1,_,by simp,by omega,R4,by omega,?_,fun i hi=>?_,fun y hy=>?_⟩,by omega⟩
  ·have h1:=lQ hx;rw[aV h1,aV (List.getElem?_set_self hks),List.take_set_of_le (Nat.le_refl k),hs]
  ·rw[List.getD_eq_getElem?_getD,List.getElem?_set_ne (by omega),<- List.getD_eq_getElem?_getD];exact hs0 i (by omega)
  ·rw[aV hx]at hy;rcases List.mem_append.1 hy with hy|hy
   ·exact hall2 y hy
   ·obtain rfl:=List.mem_singleton.1 hy;exact⟨hp,Pi.1 hnb⟩
theorem Ps (g:Int)(ns:List NodeP)(hf:uW ns)(H:AHeap)(K:ARes->AHeap->Prop)(hK:K (.ret (aa (if oZ g ns then 0 else 50))) H):ae Tryz.prog G0 128 [da g ns] H K:=by
 refine ae.clo ⟨_,Tryz.func128,rfl,rfl⟩ fun hcl=>?_;refine ae.aT (n:=11) (rs:=[.tmp 2]) Tryz.func128 rfl rfl rfl (by decide) (by kernel_rfl) (by simp) ?_;simp only[go_sem,da,dw];refine az.clo (Pr g ns hf _ _ ⟨trivial,?_⟩);cases hb:oZ g ns
 ·rw[hb]at hK;simp only[go_sem,yF,List.length_nil];exact au.bE aK hcl (.ext _ _) (.lit _) hK
 ·rw[hb]at hK;simp only[go_sem,yG,dw];exact au.bE aK hcl (.ext _ _) (.lit _) hK
end Go.Proofs
/-
  Diagrams: their decisions, and what fills them. Plain: no program stands in this text. No conditions.
-/
namespace Go.Proofs
open Go.Hx
def dW (D v:Nat):List Nat := (List.range v).filter fun v => D.testBit v
def bn (D v:Nat):Nat := (dW D v).length
def aE (d:InfP):List Nat := dW d.decs d.nodes.length
theorem uj (D v:Nat):dW D (v + 1) = if D.testBit v then dW D v ++ [v] else dW D v := by
  unfold dW; rw[List.range_succ, List.filter_append];cases h:D.testBit v <;> simp [h]
theorem MD {D v:Nat}:∀ {n:Nat}, v <= n -> ∃ r, dW D n = dW D v ++ r := by
  intro n
  induction n with
  | zero => intro h; obtain rfl : v = 0 := by omega
            exact⟨[], by simp⟩
  | succ n ih =>
    intro h;by_cases hv:v = n + 1
    · subst hv; exact⟨[], by simp⟩
    · obtain⟨r, hr⟩ := ih (by omega);rw[uj];split
      · exact⟨r ++ [n], by rw[hr, List.append_assoc]⟩
      · exact⟨r, hr⟩
theorem nG {D v n:Nat}(hv:v < n)(hb:D.testBit v = true):(dW D n)[bn D v]? = some v := by
  obtain⟨r, hr⟩ := MD (D := D) (v := v + 1) (n := n) hv;rw[hr, uj, if_pos hb, List.append_assoc];unfold bn;simp
theorem oJ (D v:Nat):bn D (v + 1) = if D.testBit v then bn D v + 1 else bn D v := by
  unfold bn; rw[uj]; split <;> simp
theorem fS {D v n:Nat}:v ∈ dW D n ↔ v < n /\ D.testBit v = true := by unfold dW; simp
theorem kF {D n k v:Nat}(h:(dW D n)[k]? = some v):v < n /\ D.testBit v = true /\ bn D v = k := by
  have hm := fS.1 (List.mem_of_getElem? h);refine⟨hm.1, hm.2, ?_⟩;have h2 := nG hm.1 hm.2;have hnd:(dW D n).Nodup := List.nodup_range.filter _;have a := aM h;have b := aM h2;rw[List.getElem?_eq_getElem a]at h;rw[List.getElem?_eq_getElem b]at h2;have e:(dW D n)[bn D v] = (dW D n)[k] := by rw[Option.some.inj h, Option.some.inj h2]
  exact(List.getElem_inj hnd).1 e
theorem jw {D n:Nat}:(dW D n).length <= n := by
  have := List.length_filter_le (fun v => D.testBit v) (List.range n);unfold dW; simpa using this
def bV (g card x:Int):List Int := (List.replicate card.toNat 0).set x.toNat g
def bG (ns:List NodeP)(x:NodeP):Nat := (aA (aR ns x)).toNat
def dP (g:Int)(ns:List NodeP)(c:Nat -> Nat -> Int)(p:Nat)(x:NodeP):List (List Int) := (List.range (bG ns x)).map fun r => bV g x.card (c p r)
def eV (d:InfP)(c:Nat -> Nat -> Int)(k v:Nat)(x:NodeP):NodeP := if d.decs.testBit v = true /\ bn d.decs v < k then { x with rows := x.rows ++ dP d.grain d.nodes c (bn d.decs v) x } else x
def dQ (d:InfP)(c:Nat -> Nat -> Int)(k:Nat):List NodeP := d.nodes.zipIdx.map fun p => eV d c k p.2 p.1
def b7 (d:InfP)(c:Nat -> Nat -> Int):List NodeP := dQ d c (aE d).length
theorem kG (d:InfP)(c:Nat -> Nat -> Int)(k:Nat):(dQ d c k).length = d.nodes.length := by simp [dQ]
theorem nH {d:InfP}{c:Nat -> Nat -> Int}{k v:Nat}{x:NodeP}(h:d.nodes[v]? = some x):(dQ d c k)[v]? = some (eV d c k v x) := by
  unfold dQ; rw[List.getElem?_map, List.getElem?_zipIdx, h]; simp
theorem ME (d:InfP)(c:Nat -> Nat -> Int):dQ d c 0 = d.nodes := by
  apply List.ext_getElem?;intro v;cases h:d.nodes[v]? with
  | none => rw[List.getElem?_eq_none]; rw[kG]; exact List.getElem?_eq_none_iff.1 h
  | some x => rw[nH h]; simp [eV]
theorem MF {d:InfP}{c:Nat -> Nat -> Int}{k v:Nat}{x:NodeP}(hd:(aE d)[k]? = some v)(hx:d.nodes[v]? = some x):dQ d c (k + 1) = (dQ d c k).set v { x with rows := x.rows ++ dP d.grain d.nodes c k x } := by
  obtain⟨h1, h2, h3⟩ := kF hd;apply List.ext_getElem?;intro u;rw[List.getElem?_set];split
  · rename_i h;subst h;rw[nH hx, if_pos (by rw[kG]; exact h1)];unfold eV;rw[if_pos ⟨h2, by omega⟩, h3]
  · rename_i h;cases hu:d.nodes[u]? with
    | none => rw[List.getElem?_eq_none (by rw[kG]; exact List.getElem?_eq_none_iff.1 hu), List.getElem?_eq_none (by rw[kG]; exact List.getElem?_eq_none_iff.1 hu)]
    | some y =>
      rw[nH hu, nH hu];unfold eV;by_cases hb:d.decs.testBit u = true
      · have : bn d.decs u ≠ k := fun e => by
          have h4 := nG (aM hu) hb;rw[e]at h4;have h5:(dW d.decs d.nodes.length)[k]? = some v := hd;rw[h4]at h5;exact h (Option.some.inj h5).symm
        have e:(bn d.decs u < k + 1) = (bn d.decs u < k) :=(by apply propext; omega);simp only[e]
      · simp [hb]
theorem MG {d:InfP}{c:Nat -> Nat -> Int}{k:Nat}:ak (dQ d c k) = ak d.nodes := by
  apply List.ext_getElem?;intro v;unfold ak;rw[List.getElem?_map, List.getElem?_map];cases h:d.nodes[v]? with
  | none => rw[List.getElem?_eq_none (by rw[kG]; exact List.getElem?_eq_none_iff.1 h)]
  | some x =>
    rw[nH h];simp only[Option.map_some, eV];split <;> rfl
theorem jx (d:InfP)(c:Nat -> Nat -> Int)(k v:Nat)(x:NodeP):(eV d c k v x).card = x.card /\ (eV d c k v x).parents = x.parents := by unfold eV; split <;> exact⟨rfl, rfl⟩
end Go.Proofs
namespace Go.Proofs
open Go.Hx
def cz (d:InfP):List AVal:=[.lit (.int .i64 d.grain),.vec d.nodes.length (aC d.nodes),.lit (.int .u64 (d.decs:Int)),.vec d.utils.length (aS d.utils)]
theorem iu (d:InfP):dI d=.agg (cz d):=rfl
def j8 (d:InfP):Blk:=.arr 0 38 (cz d)
def mF (d:InfP):List (List AVal):=(aE d).zipIdx.map fun p=>[aa p.2,aa p.1]
theorem sj {d:InfP}{k:Nat}{x:List AVal}(h:(mF d)[k]?=some x):∃ v,(aE d)[k]?=some v/\x=[aa k,aa v]:=by
 unfold mF at h;rw[List.getElem?_map,List.getElem?_zipIdx]at h;cases hr:(aE d)[k]? with
 | none=>rw[hr]at h;simp at h
 | some r=>rw[hr]at h;simp at h;exact⟨r,rfl,h.symm⟩
theorem OI {d:InfP}{k v:Nat}(h:(aE d)[k]?=some v):(mF d)[k]?=some [aa k,aa v]:=by
 unfold mF;rw[List.getElem?_map,List.getElem?_zipIdx,h];simp
theorem sk (d:InfP):(mF d).length=(aE d).length:=by simp [mF]
theorem uM {d:InfP}:∀ x∈mF d,x.length=2:=fun x hx=>by
 obtain⟨k,hk⟩:=List.mem_iff_getElem?.1 hx;obtain⟨v,_,rfl⟩:=sj hk;rfl
theorem uN (d:InfP)(hl:(d.nodes.length:Int)<2 ^ 40)(hD:d.decs<2 ^ 64)(b:Nat):vD Tryz.prog G0 131 [] [.ptr b 0 0] (mF d) (fun H=>H.get b=some (j8 d)):=by
 intro idy J Stop H K hS hJ0 hY hK hSt;have l0:=ag (hS 0 H hJ0);show ae _ _ _ ([.yld idy]++[.ptr b 0 0]) _ _;refine ae.aT (n:=25) (rs:=[]) Tryz.func131 rfl rfl rfl (by decide) (by kernel_rfl) (by simp) ?_;simp only[go_sem,l0,cz];refine W.aO 33554200 (by rfl) (fun ρ H'=>∃ v:Nat,ρ 8=aa v/\v<=d.nodes.length/\ρ 3=aa (bn d.decs v)/\J (bn d.decs v) H'/\H.next<=H'.next) (fun ρ H=>d.nodes.length - (iv (ρ 8)).toNat) ?_ ?_
 ·simp only[go_sem];exact⟨0,rfl,by omega,rfl,hJ0⟩
 rintro ρ H' ⟨v,h8,hv,h3,hj,hn⟩;refine af _ _ _ (by rfl) ?_;by_cases hb:(v:Int)<d.nodes.length
 ·have l1:=ag (hS _ _ hj);have s1:=fun t x y=>lU (P:=Tryz.prog) (t:=t) (x:=x) (y:=y) (k':=.i64) (s:=v) hD;have s2:=fun t x y=>mQ (P:=Tryz.prog) (t:=t) (x:=x) (y:=y) (s:=v) hD;have w1:=IntWalk.i64_in ((v:Int)+1) (by omega);have hp:bn d.decs v<=v:=by
   have:(dW d.decs v).length<=v:=jw;exact this
  have w2:=IntWalk.i64_in ((bn d.decs v:Int)+1) (by omega);cases hbit:d.decs.testBit v
  ·simp only[go_sem,h8,h3,hb,l1,cz,s1,s2,hbit,w1];exact⟨hn,⟨v+1,by simp,by omega,by rw[oJ,hbit];rfl,by rw[oJ,hbit];exact hj,hn⟩,by omega⟩
  ·have hdx:(mF d)[bn d.decs v]?=some [aa (bn d.decs v),aa v]:=OI (nG (by omega) hbit);simp only[go_sem,h8,h3,hb,l1,cz,s1,s2,hbit];refine hY _ _ H' _ hdx hj hn (fun H2 hj2 hn2=>⟨trivial,?_⟩) (fun H2 hs2 hn2=>⟨trivial,?_⟩)
   ·simp only[go_sem,h8,h3,w1,w2];exact⟨by omega,⟨v+1,by simp,by omega,by rw[oJ,hbit];simp,by rw[oJ,hbit];exact hj2,by omega⟩,by omega⟩
   ·simp only[go_sem];exact au.mk (by omega) (hSt H2 hs2 (by omega))
 ·simp only[go_sem,h8,hb];have ek:v=d.nodes.length:=by omega
  subst ek;exact au.mk (by omega) (hK H' (by rw[sk];exact hj) hn)
theorem uO (d:InfP)(H:AHeap)(K:ARes->AHeap->Prop)(hK:K (.ret (.clo 131 [] [.ptr H.next 0 0])) (ext H [j8 d])):
  ae Tryz.prog G0 96 [dI d] H K:=by
 refine ae.aT (n:=4) (rs:=[.tmp 2]) Tryz.func96 rfl rfl rfl (by decide) (by kernel_rfl) (by simp) ?_;simp only[go_sem,iu,cz];exact au.mk (by simp [bf]) hK
theorem OJ {g card x:Int}(hc:0<=card)(h:0<=x/\x<card):setAt (ints (List.replicate card.toNat 0)) x.toNat [.lit (.int .i64 g)]=ints (bV g card x):=by
 rw[gH (by simp;omega)];rfl
theorem OK (g card x:Int)(hc:card<=2 ^ 40)(h:0<=x/\x<card)(H:AHeap)(K:ARes->AHeap->Prop)(hK:K (.ret (ah (bV g card x))) H):ae Tryz.prog G0 144 [aa g,aa card,aa x] H K:=by
 refine ae.clo ⟨_,Tryz.func144,rfl,rfl⟩ fun hcl=>?_;obtain⟨n,rfl⟩:=Int.eq_ofNat_of_zero_le (show 0<=card by omega);obtain⟨k,rfl⟩:=Int.eq_ofNat_of_zero_le h.1;have h0:((n:Int)) >= 0:=by omega
 have hk:(k:Int)<n:=h.2;have hk2:k+1<=n:=by omega
 refine ae.aT (n:=15) (rs:=[.tmp 6]) Tryz.func144 rfl rfl rfl (by decide) (by kernel_rfl) (by simp) ?_;simp only[go_sem,hk]
 repeat (refine And.intro (by first|omega|(simp;done)|(simp;omega)|(intros;omega)|exact⟨rfl,by omega,by omega,lh _⟩) ?_)
 have e:=OJ (g:=g) (card:=n) (x:=k) (by omega) h;simp only[Int.toNat_natCast]at e;rw[show (List.replicate n (AVal.lit (Value.int IntKind.i64 0)))=ints (List.replicate n 0) by simp [ints,aa],e];refine au.bE aK hcl (.ext _ _) ?_ hK;exact .ints (Nat.le_refl _) (cu ..) (by simp [bV]) fun i hi=>by simp [d6,hi]
theorem OL (a b:AVal)(H:AHeap)(K:ARes->AHeap->Prop)(hK:K (.ret (aa 0)) H):ae Tryz.prog G0 129 [a,b] H K:=by
 refine ae.aT (n:=5) (rs:=[.tmp 4]) Tryz.func129 rfl rfl rfl (by decide) (by kernel_rfl) (by simp) ?_;simp only[go_sem];exact au.mk (Nat.le_refl _) hK
end Go.Proofs
namespace Go.Proofs
open Go.Hx
noncomputable def kO (p:Prop):Bool:=@decide p (Classical.propDecidable p)
theorem eO {p:Prop}(h:p):kO p=true:=@decide_eq_true _ (Classical.propDecidable _) h
theorem jE {p:Prop}(h:¬ p):kO p=false:=@decide_eq_false _ (Classical.propDecidable _) h
theorem sq {p:Prop}:kO p=true↔p:=@decide_eq_true_iff _ (Classical.propDecidable _)
structure RightN (d:InfP):Prop where
 n1:1<=d.nodes.length/\d.nodes.length<=8
 decs:d.decs >>> d.nodes.length=0
 card:∀ x∈d.nodes,1<=x.card/\x.card<=4
 dec:∀ v x,d.nodes[v]?=some x->d.decs.testBit v=true->x.rows=[]/\cJ x.parents d.nodes.length
structure InfFit (d:InfP):Prop where
 nodes:uW d.nodes
 decs:d.decs<2 ^ 64
 utils:(d.utils.length:Int)<2 ^ 38/\∀ u∈d.utils,(u.vars.length:Int)<2 ^ 38/\(u.w.length:Int)<2 ^ 38
set_option maxHeartbeats 2000000 in
theorem OM (d:InfP)(hf:InfFit d)(H:AHeap)(K:ARes->AHeap->Prop)(hK:K (.ret (.lit (.bool (kO (RightN d))))) H):ae Tryz.prog G0 127 [dI d] H K:=by
 refine ae.clo ⟨_,Tryz.func127,rfl,rfl⟩ fun hcl=>?_;have hl:=hf.nodes.1;have no:¬ RightN d->∀ H',Over H H'->au Tryz.prog G0 H K (.lit (.bool false)) H':=fun h H' ov=>au.bE aK hcl ov (.lit _) (by rw[jE h]at hK;exact hK);refine ae.aT (n:=67) (rs:=[.cell 2 4]) Tryz.func127 rfl rfl rfl (by decide) (by kernel_rfl) (by simp) ?_;simp only[go_sem,iu,cz];obtain⟨H1,hH1⟩:∃ H1,H1=ext H [.arr 0 38 (cz d),.arr 0 4 [.lit (.bool false)]]:=⟨_,rfl⟩
 have g1:H1.get H.next=some (.arr 0 38 (cz d)):=by rw[hH1];exact cu ..
 have g2:H1.get (H.next+1)=some (.arr 0 4 [.lit (.bool false)]):=by rw[hH1];exact aZ H _ 1 (by simp)
 have l1:=ag g1;have l2:=ag g2;have n1:H1.next=H.next+2:=by rw[hH1];rfl
 have o1:Over H H1:=by rw[hH1];exact .ext _ _
 unfold cz at hH1 l1;rw[<- hH1];have s1:=fun t x y=>lU (P:=Tryz.prog) (t:=t) (x:=x) (y:=y) (k':=.i64) (s:=d.nodes.length) hf.decs;by_cases c1:(d.nodes.length:Int)<1
 ·simp only[go_sem,l2,c1];exact no (fun h=>by have:=h.n1;omega) _ (o1.upd (by omega) _)
 by_cases c2:(d.nodes.length:Int) > 8
 ·simp only[go_sem,l1,l2,c1,c2];exact no (fun h=>by have:=h.n1;omega) _ (o1.upd (by omega) _)
 by_cases c3:d.decs >>> d.nodes.length=0;rotate_left
 ·have c3':¬ ((d.decs >>> d.nodes.length:Nat):Int)=0:=by omega
  simp only[go_sem,l1,l2,c1,c2,c3',s1];exact no (fun h=>c3 h.decs) _ (o1.upd (by omega) _)
 have c3':((d.decs >>> d.nodes.length:Nat):Int)=0:=by omega
 simp only[go_sem,l1,c1,c2,c3',s1];refine W.aO 4397509640208 (by rfl) (fun ρ H'=>∃ k:Nat,ρ 29=aa k/\k<=d.nodes.length/\Over H1 H'/\∀ x∈d.nodes.take k,1<=x.card/\x.card<=4) (fun ρ H=>d.nodes.length - (iv (ρ 29)).toNat) ?_ ?_
 ·simp only[go_sem];exact⟨0,rfl,by omega,.refl _,by simp⟩
 rintro ρ H' ⟨k,h29,hk,ov,hall⟩;refine af _ _ _ (by rfl) ?_;have ovn:=ov.next;have m1:=(ov.live (g:=0) (by omega:H.next<H1.next)).trans l1;have m2:=(ov.live (g:=0) (by omega:H.next+1<H1.next)).trans l2;by_cases hb:(k:Int)<d.nodes.length
 ·obtain⟨x,hx⟩:=aq (l:=d.nodes) (i:=k) (by omega);have hxm:=List.mem_of_getElem? hx;have hne:=ep hx;have e0:=oI hx;have e1:k*3+3<=(aC d.nodes).length:=by rw[jS];omega
  have nb:¬ H.next+1=H'.next:=by omega
  have m3:∀ L,(ext H' L).live (H.next+1) 0=_:=fun L=>(eU (by omega)).trans m2;by_cases d1:x.card<1
  ·simp only[go_sem,h29,m3,hb,hne,e0,e1,d1];exact no (fun h=>by have:=h.card x hxm;omega) _ (((o1.trans ov).trans (.ext _ _)).upd (by omega) _)
  by_cases d2:x.card > 4
  ·simp only[go_sem,h29,m3,hb,hne,e0,e1,d1,d2];exact no (fun h=>by have:=h.card x hxm;omega) _ (((o1.trans ov).trans (.ext _ _)).upd (by omega) _)
  have w1:=IntWalk.i64_in ((k:Int)+1) (by omega);simp only[go_sem,h29,hb,hne,e0,e1,d1,d2,w1];exact⟨by omega,⟨k+1,by simp,by omega,ov.trans (.ext _ _),fun y hy=>by
   rw[aV hx]at hy;rcases List.mem_append.1 hy with hy|hy
   ·exact hall y hy
   ·obtain rfl:=List.mem_singleton.1 hy;exact⟨by omega,by omega⟩⟩,by omega⟩
 rw[List.take_of_length_le (by omega)]at hall;simp only[go_sem,h29,hb,m1];refine az.clo (uO d _ _ ⟨trivial,?_⟩);simp only[go_sem];obtain⟨H2,hH2⟩:∃ H2,H2=ext H' [j8 d]:=⟨_,rfl⟩
 rw[<- hH2];have o2:Over H' H2:=by rw[hH2];exact .ext _ _
 have n2:H2.next=H'.next+1:=by rw[hH2];rfl
 have hbx:H2.get H'.next=some (j8 d):=by rw[hH2];exact bR
 refine W.env fun E hE=>?_;have e1:E 1=.ptr H.next 0 0:=by rw[hE];simp only[go_sem]
 have e2:E 2=.ptr (H.next+1) 0 0:=by rw[hE];simp only[go_sem]
 have i1:=(o2.live (g:=0) (by omega:H.next<H'.next)).trans m1;have i2:=(o2.old _ (by omega:H.next+1<H'.next)).trans ((ov.old _ (by omega)).trans g2);have o02:=(o1.trans ov).trans o2;refine W.pj (f:=131) (first:=[]) (cap:=[.ptr H'.next 0 0]) (by show E 43=_;rw[hE];rfl) (uN d (by omega) hf.decs H'.next)
  (fun k Hx=>Over H2 Hx/\∀ v x,v∈(aE d).take k->d.nodes[v]?=some x->x.rows=[]/\cJ x.parents d.nodes.length) (fun c Hx=>c=.ret/\Over H Hx/\H2.next<=Hx.next/\Hx.get (H.next+1)=some (.arr 0 4 [.lit (.bool false)])/\¬ RightN d)
  (fun k Hx h=>by rw[h.1.old _ (by omega)];exact hbx) (fun k Hx b h=>⟨h.1.upd (Nat.le_refl _) b,h.2⟩) (fun c Hx b h=>⟨h.1,h.2.1.upd (by omega) b,h.2.2.1,by rw[aj,if_neg (by omega)];exact h.2.2.2.1,h.2.2.2.2⟩)
  (fun b=>⟨.ext _ _,by simp⟩) (by decide) uM (fun _ _ _=>trivial) (fun _ _ _=>trivial) (fun k y Hx B Bb hy hj hn hB hBb=>?_) (fun Hx hj hn=>?_) (fun Hx hs hn=>?_) (fun i Hx hs hn=>by cases hs.1)
 ·obtain⟨v,hv,rfl⟩:=sj hy;obtain⟨v1,v2,v3⟩:=kF hv;obtain⟨x,hx⟩:=aq (l:=d.nodes) (i:=v) v1;refine af _ _ _ (by rfl) ?_;simp only[go_sem,gV,bh,jn,List.foldl_cons,List.foldl_nil,List.zip_cons_cons,List.zip_nil_right,hB];obtain⟨H3,hH3⟩:∃ H3,H3=Hx.upd H2.next Bb:=⟨_,rfl⟩
  rw[<- hH3];obtain⟨st,pd,n',en,ps',as',bo,hBe⟩:=hBb;have o3:Over H2 H3:=by rw[hH3];exact hj.1.upd (Nat.le_refl _) Bb
  have o4:Over H H3:=o02.trans o3;have n3:H3.next=Hx.next:=by rw[hH3];rfl
  have j1:=(o3.live (g:=0) (by omega:H.next<H2.next)).trans i1;have j2:=ag ((o3.old _ (by omega:H.next+1<H2.next)).trans i2);have jB:H3.get H2.next=some Bb:=by rw[hH3,aj,if_pos rfl]
  have hxm:=List.mem_of_getElem? hx;obtain⟨f1,f2,f3⟩:=hf.nodes.2 x hxm;have hne:=ep hx;have e1':=lC hx;have e2':=ud hx;have hvn:(v:Int)<d.nodes.length:=by omega
  have stop:¬ RightN d->(H3.upd (H.next+1) (Blk.arr 0 4 [.lit (.bool false)])).get H2.next=some Bb/\Hx.next<=(H3.upd (H.next+1) (Blk.arr 0 4 [.lit (.bool false)])).next/\Over H (H3.upd (H.next+1) (Blk.arr 0 4 [.lit (.bool false)])) /\
    H2.next<=(H3.upd (H.next+1) (Blk.arr 0 4 [.lit (.bool false)])).next/\(H3.upd (H.next+1) (Blk.arr 0 4 [.lit (.bool false)])).get (H.next+1)=some (.arr 0 4 [.lit (.bool false)])/\¬ RightN d:=fun h =>
   ⟨by rw[aj,if_neg (by omega)];exact jB,by rw[aH];omega,o4.upd (by omega) _,by rw[aH];omega,by rw[aj,if_pos rfl],h⟩
  refine af _ _ _ (by rfl) ?_;simp only[go_sem];refine W.draw 18 [0,1,0,7,15,31,63,127,255,511,1023,511,4095,8191,16383,511,33279,98815] Tryz.mixed (by kernel_rfl) (by kernel_rfl) ?_;by_cases c4:(x.rows.length:Int) > 0
  ·simp only[go_sem,bh,e1,e2,j1,j2,hvn,hne,e2',c4,aD,eE];exact stop fun h=>by have:=(h.dec v x hx v2).1;rw[this]at c4;simp at c4
  simp only[go_sem,bh,e1,j1,hvn,hne,e1',e2',c4,aD];refine az.clo (CT x.parents d.nodes.length (by omega) _ _ ⟨⟨_,_,_,_,_,_,_,by rw[jB,hBe]⟩,?_⟩);by_cases c5:cJ x.parents d.nodes.length;rotate_left
  ·simp only[go_sem,bh,e2,j2,c5,eE];exact stop fun h=>c5 (h.dec v x hx v2).2
  simp only[go_sem,bh,c5,eE];refine⟨jB,by omega,o3,fun u y hu hy2=>?_⟩;rw[aV hv]at hu;rcases List.mem_append.1 hu with hu|hu
  ·exact hj.2 u y hu hy2
  ·obtain rfl:=List.mem_singleton.1 hu;rw[hx]at hy2;cases hy2;exact⟨List.eq_nil_of_length_eq_zero (by omega),c5⟩
 ·have hok:RightN d:=⟨by omega,c3,hall,fun v x hx hb=>hj.2 v x (by
   rw[sk,List.take_length];exact fS.2 ⟨aM hx,hb⟩) hx⟩
  rw[eO hok]at hK;have j2:=ag ((hj.1.old _ (by omega:H.next+1<H2.next)).trans i2);simp only[go_sem,e2,j2];exact au.bE aK hcl ((o02.trans hj.1).upd (by omega) _) (.lit _) hK
 ·obtain⟨_,o4,n4,g4,hno⟩:=hs;have j2:=ag g4;simp only[go_sem,e2,j2];exact no hno _ o4
end Go.Proofs
namespace Go.Hx
variable {P:Program} {G:Nat->Option (List AVal)}
def AHeap.fg (H:AHeap)(rk ob:Nat)(b:Blk):AHeap:=⟨fun id=>if id=rk then none else if id=ob then some b else H.get id,H.next⟩
theorem Rf {H:AHeap}(hc:Clo H){rk ob g:Nat}{e:TypeId}{cells cells':List AVal}(hob:H.get ob=some (.arr g e cells))(hne:ob≠rk)(hl:cells'.length=cells.length)
  (hcell:∀ i (h:i<cells.length) (h':i<cells'.length),Fz (fun id=>id=rk) H H.next cells[i] cells'[i]):FzH (fun id=>id=rk) H (H.fg rk ob (.arr g e cells')) where
 gone id hs:=by simp [AHeap.fg,hs]
 kept id b hs hb:=by
  have hbb:=hc.below id b hb;refine⟨hc.lt id b hb,?_⟩;by_cases h:id=ob
  ·subst h;rw[hob]at hb;cases hb;exact⟨.arr g e cells',by simp [AHeap.fg,hs],rfl,rfl,hl,hcell⟩
  ·refine⟨b,by simp [AHeap.fg,hs,h,hb],?_⟩;cases b with
   | rsv=>trivial
   | mp=>rfl
   | arr g e cells=>exact⟨rfl,rfl,rfl,fun i h _=>.dead (hbb i h)⟩
   | loop st pend n env ps asg body=>exact⟨rfl,rfl,rfl,rfl,rfl,rfl,rfl,fun t ht=>.dead (hbb t ht)⟩
 none id hs hb:=by
  by_cases h:id=ob
  ·subst h;rw[hob]at hb;cases hb
  ·simp [AHeap.fg,hs,h,hb]
theorem eo.fg (hG:fD G){s:St}{rk ob g:Nat}{e:TypeId}{cells cells':List AVal}(hob:s.H.get ob=some (.arr g e cells))(hne:ob≠rk)(hl:cells'.length=cells.length)
  (hcell:∀ i (h:i<cells.length) (h':i<cells'.length),Fz (fun id=>id=rk) s.H s.H.next cells[i] cells'[i]):eo P G s ⟨s.ρ,s.H.fg rk ob (.arr g e cells')⟩:=by
 intro n wb Γ a w hs;exact eo.freeze (s:=s) (s':=⟨s.ρ,s.H.fg rk ob (.arr g e cells')⟩) hG (Rf hs.heap.clo hob hne hl hcell) (fun t=>.dead (hs.env t).rG) n wb Γ a w hs
theorem Rg {S:Nat->Prop}{H:AHeap}{nx:Nat}{A B:List AVal}{o o':AVal}(hA:∀ v,v∈A->Fz S H nx v v)(ho:Fz S H nx o o')(hB:∀ v,v∈B->Fz S H nx v v):
  ∀ i (h:i<(A++o :: B).length) (h':i<(A++o' :: B).length),Fz S H nx (A++o :: B)[i] (A++o' :: B)[i]:=by
 induction A with
 | nil =>
  intro i h h';cases i with
  | zero=>exact ho
  | succ i=>exact hB _ (List.getElem_mem (l:=B) (by simpa using h))
 | cons a A ih =>
  intro i h h';cases i with
  | zero=>exact hA a (by simp)
  | succ i=>exact ih (fun v hv=>hA v (by simp [hv])) i (by simpa using h) (by simpa using h')
theorem Rh {A B:List AVal}{o o':AVal}{i:Nat}(h:A.length=i):setAt (A++o :: B) i [o']=A++o' :: B:=by
 subst h;simp [setAt]
theorem vE {H:AHeap}{rk ob:Nat}{b:Blk}(h:ob≠rk):(H.fg rk ob b).get ob=some b:=by simp [AHeap.fg,h]
theorem lV {H:AHeap}{rk ob id:Nat}{b:Blk}(h:id≠rk)(h2:id≠ob):(H.fg rk ob b).get id=H.get id:=by simp [AHeap.fg,h,h2]
theorem za {S:Nat->Prop}{H:AHeap}{nx:Nat}{l:List AVal}{i:Nat}{a b:AVal}(hl:∀ v,v∈l->Fz S H nx v v)(hab:Fz S H nx a b):∀ j (h:j<(l.set i a).length) (h':j<(l.set i b).length),Fz S H nx (l.set i a)[j] (l.set i b)[j]:=by
 intro j h h';rw[List.getElem_set,List.getElem_set];split
 ·exact hab
 ·exact hl _ (List.getElem_mem _)
theorem W.sT {n:Nat}{rd:Option Nat}{Q Q':AX->St->Prop}{c:Code}{s:St}(h:W P G n rd c Q' s)(hw:∀ e s2,Q' e s2->∃ s3,eo P G s2 s3/\s2.H.next<=s3.H.next/\fh s3.H rd/\Q e s3):W P G n rd c Q s:=by
 intro wb Γ a w rb hs hr;refine wpIn_mono (h wb Γ a w rb hs hr) fun e a' w' hp=>?_;obtain⟨x,s',Γ',hx,hq,hrel,E,hn,hrd,hfr⟩:=hp;obtain⟨s3,hw3,hn3,hri,hq3⟩:=hw x s' hq;obtain⟨Γ3,hs3,E3,hrd3⟩:=hw3 n wb Γ' a' w' hrel;exact⟨x,s3,Γ3,hx,hq3,hs3,E.trans hn E3,Nat.le_trans hn hn3,hrd3 rd rb hrd hri,hfr⟩
theorem aG.ne {lo:Nat}{H:AHeap}{e:TypeId}{v:AVal}{cs:List AVal}(h:aG lo H e v cs){k:Nat}(hk:k<lo):∀ g n,v≠.own k g 0 n 1:=fun g n he=>by
 rcases h with ⟨h,_⟩|⟨i2,g2,a1,_,h,_⟩
 ·rw[h]at he;cases he
 ·rw[h]at he;have:=AVal.own.inj he;omega
def d8 (lo:Nat)(H:AHeap)(e:TypeId)(z:Nat)(v:AVal)(n:Nat)(cs:List AVal):Prop :=
 (v=.lit (.slice none 0 0)/\n=0/\cs=[])\/∃ id g,lo<=id/\id<H.next/\v=.own id g 0 n z/\cs.length=n*z/\H.get id=some (.arr g e cs)
theorem d8.nil {lo:Nat}{H:AHeap}{e:TypeId}{z:Nat}:d8 lo H e z (.lit (.slice none 0 0)) 0 []:=.inl ⟨rfl,rfl,rfl⟩
theorem d8.keep {lo:Nat}{H H':AHeap}{e:TypeId}{z n:Nat}{v:AVal}{cs:List AVal}(h:d8 lo H e z v n cs)(hn:H.next<=H'.next)(hk:∀ id g,lo<=id->id<H.next->v=.own id g 0 n z->H'.get id=H.get id):d8 lo H' e z v n cs:=by
 rcases h with h|⟨id,g,h1,h2,h3,h4,h5⟩
 ·exact .inl h
 ·exact .inr ⟨id,g,h1,by omega,h3,h4,(hk id g h1 h2 h3).trans h5⟩
theorem d8.over {lo:Nat}{H H':AHeap}{e:TypeId}{z n:Nat}{v:AVal}{cs:List AVal}(h:d8 lo H e z v n cs)(ho:Over H H'):d8 lo H' e z v n cs:=h.keep ho.next fun id _ _ h2 _=>ho.old id h2
theorem d8.one {lo:Nat}{H:AHeap}{e:TypeId}{z n:Nat}{v:AVal}{cs:List AVal}(h:d8 lo H e z v n cs):v.one=true:=by
 rcases h with ⟨rfl,_⟩|⟨_,_,_,_,rfl,_⟩<;>rfl
theorem d8.cells {lo:Nat}{H:AHeap}{e:TypeId}{z n:Nat}{v:AVal}{cs:List AVal}(h:d8 lo H e z v n cs):v.cells=[v]:=by
 rcases h with ⟨rfl,_⟩|⟨_,_,_,_,rfl,_⟩<;>rfl
theorem d8.ne {lo:Nat}{H:AHeap}{e:TypeId}{z m:Nat}{v:AVal}{cs:List AVal}(h:d8 lo H e z v m cs){k:Nat}(hk:k<lo):∀ g n,v≠.own k g 0 n z:=fun g n he=>by
 rcases h with ⟨h,_⟩|⟨i2,g2,a1,_,h,_⟩
 ·rw[h]at he;cases he
 ·rw[h]at he;have:=AVal.own.inj he;omega
theorem vF {H:AHeap}{t e:TypeId}{lo n z m:Nat}{v:AVal}{cs xs:List AVal}{zs:List AVal}(ht:P.underlying t=some (.slice e))(hz:P.cellsOf e=z)(hzero:cq P e=some zs)(hx:xs.all AVal.one=true)(hxl:xs.length=z)
  (hb:(n+1)*P.bytesOf e<=2 ^ 46/\n+1<=2 ^ 46) (ho:d8 lo H e z v n cs) (hlo:lo<=H.next) (hn:m=H.next+1):
  ∃ v' H',bQ P (ext H [.arr 0 e xs]) m t t v (.own H.next 0 0 1 z)=some (v',H')/\d8 lo H' e z v' (n+1) (cs++xs)/\H.next<=H'.next/\(∀ k,k<H.next->(∀ g n,v≠.own k g 0 n z)->H'.get k=H.get k):=by
 have hne:(ext H [.arr 0 e xs]).next=H.next+1:=rfl;have hsrc:cZ (ext H [.arr 0 e xs]) z (.own H.next 0 0 1 z)=some (1,xs):=by
  unfold cZ;have:=ag (H:=ext H [.arr 0 e xs]) (g:=0) (bR (b:=.arr 0 e xs));simp [this,<- hxl]
 rcases ho with ⟨rfl,rfl,rfl⟩|⟨i,g,h1,h2,rfl,h4,h5⟩
 ·refine⟨.own m 0 0 1 z,ext (ext H [.arr 0 e xs]) [.arr 0 e xs],?_,.inr ⟨m,0,by omega,by rw[bf,hne,hn];simp,by simp,by simp [hxl],?_⟩,by rw[bf,hne];omega,fun k hk _=>?_⟩
  ·unfold bQ;rw[ht];simp only[hzero,hz,Option.bind_some];rw[hsrc];simp only[Option.bind_some];rw[if_neg (by decide),if_pos (by simpa using hb),tW (by rw[hn,hne])];rfl
  ·rw[hn,<- hne];exact bR
  ·rw[bO (by rw[hne];omega),bO hk]
 ·have h5':(ext H [.arr 0 e xs]).get i=some (.arr g e cs):=by rw[bO h2];exact h5
  refine⟨.own i (g+1) 0 (n+1) z,(ext H [.arr 0 e xs]).upd i (.arr (g+1) e (cs++xs)),?_,.inr ⟨i,g+1,h1,by rw[aH,hne];omega,rfl,by simp [h4,hxl,Nat.add_mul],by rw[aj,if_pos rfl]⟩,by rw[aH,hne];omega,fun k hk hne2=>?_⟩
  ·unfold bQ;rw[ht];have hl:=ag h5';simp only[hzero,hz,Option.bind_some];rw[hsrc];simp only[Option.bind_some,hl];rw[if_pos ⟨trivial,trivial,by omega,hb.1,hb.2,hx⟩];simp
  ·rw[aj,if_neg,bO hk];rintro rfl;exact hne2 _ _ rfl
end Go.Hx
namespace Go.Proofs
open Go.Hx
def ea (x:NodeP):AVal:=if x.rows=[] then .lit (.slice none 0 0) else aD x.rows
def NodeP.fP (x:NodeP):List AVal:=[aa x.card,ah x.parents,ea x]
def ba (l:List NodeP):List AVal:=(l.map NodeP.fP).flatten
theorem lF (l:List NodeP):(ba l).length=l.length*3:=ly (f:=NodeP.fP) (fun _=>rfl) l
theorem nI {l:List NodeP}{i:Nat}{x:NodeP}(h:l[i]?=some x):(ba l)[i*3]?=some (aa x.card):=jd (f:=NodeP.fP) (z:=3) (fun _=>rfl) l i 0 x h (by omega)
theorem oL {l:List NodeP}{i:Nat}{x:NodeP}(h:l[i]?=some x):(ba l)[i*3+1]?=some (ah x.parents):=jd (f:=NodeP.fP) (z:=3) (fun _=>rfl) l i 1 x h (by omega)
theorem rS {l:List NodeP}{i:Nat}{x:NodeP}(h:l[i]?=some x):(ba l)[i*3+2]?=some (ea x):=jd (f:=NodeP.fP) (z:=3) (fun _=>rfl) l i 2 x h (by omega)
theorem MH (l:List NodeP)(x:NodeP):ba (l++[x])=ba l++[aa x.card,ah x.parents,ea x]:=by unfold ba;simp [NodeP.fP]
theorem Bf {l:List NodeP}{i:Nat}{x:NodeP}(h:l[i]?=some x):¬ ba l=[]:=fun e=>by
 have:=nI h;rw[e]at this;simp at this
theorem MI (l:List (List Int)):aD l=.vec l.length (l.map ah):=rfl
theorem Bg {x:NodeP}(h:x.rows=[]):ea x=.lit (.slice none 0 0):=if_pos h
theorem xJ {x:NodeP}(h:x.rows≠[]):ea x=aD x.rows:=if_neg h
theorem Bh {l:List NodeP}{i:Nat}{x y:NodeP}(h:l[i]?=some x)(hy:y.card=x.card/\y.parents=x.parents):ba (l.set i y)=setAt (ba l) (i*3+2) [ea y]:=by
 have hi:=aM h;have hl:=lF l;rw[g9 (by omega)];apply List.ext_getElem?;intro p;rw[List.getElem?_set];have hp:p=(p / 3)*3+p % 3:=by omega
 by_cases hb:p / 3<l.length
 ·by_cases hpi:p / 3=i
  ·have e0:(l.set i y)[p / 3]?=some y:=(by rw[hpi,List.getElem?_set_self hi]);have c3:p % 3=0\/p % 3=1\/p % 3=2:=(by omega);rcases c3 with c|c|c
   ·rw[if_neg (by omega),hp,c,Nat.add_zero,nI e0,nI (by rw[hpi];exact h),hy.1]
   ·rw[if_neg (by omega),hp,c,oL e0,oL (by rw[hpi];exact h),hy.2]
   ·rw[if_pos (by omega),if_pos (by omega),hp,c,rS e0]
  ·obtain⟨z,hz⟩:=aq hb;have e0:(l.set i y)[p / 3]?=some z:=(by rw[List.getElem?_set_ne (by omega)];exact hz);have c3:p % 3=0\/p % 3=1\/p % 3=2:=(by omega);rcases c3 with c|c|c
   ·rw[if_neg (by omega),hp,c,Nat.add_zero,nI e0,nI hz]
   ·rw[if_neg (by omega),hp,c,oL e0,oL hz]
   ·rw[if_neg (by omega),hp,c,rS e0,rS hz]
 ·rw[List.getElem?_eq_none (by rw[lF,List.length_set];omega),if_neg (by omega),List.getElem?_eq_none (by omega)]
theorem Bi {S:Nat->Prop}{H:AHeap}{nx:Nat}(x:NodeP):Fz S H nx (ea x) (aD x.rows):=by
 unfold ea;split
 ·rename_i h;rw[h];exact .nil
 ·exact .aD _
theorem MJ {S:Nat->Prop}{H:AHeap}{nx:Nat}(x:NodeP):Fz S H nx (ea x) (ea x):=by
 unfold ea;split
 ·exact .lit _
 ·exact .aD _
theorem xK {S:Nat->Prop}{H:AHeap}{nx:Nat}:∀ (l:List NodeP) (i:Nat) (h:i<(ba l).length) (h':i<(aC l).length),Fz S H nx (ba l)[i] (aC l)[i]:=by
 intro l i h h';have hb:i / 3<l.length:=by rw[lF]at h;omega
 obtain⟨x,hx⟩:=aq hb;have hp:i=(i / 3)*3+i % 3:=by omega
 have g1:(ba l)[i]?=some (ba l)[i]:=List.getElem?_eq_getElem h;have g2:(aC l)[i]?=some (aC l)[i]:=List.getElem?_eq_getElem h';generalize (ba l)[i]=a at g1 ⊢;generalize (aC l)[i]=b at g2 ⊢;have c3:i % 3=0\/i % 3=1\/i % 3=2:=by omega
 rcases c3 with c|c|c
 ·rw[hp,c,Nat.add_zero,nI hx]at g1;rw[hp,c,Nat.add_zero,je hx]at g2;cases g1;cases g2;exact .lit _
 ·rw[hp,c,oL hx]at g1;rw[hp,c,lC hx]at g2;cases g1;cases g2;exact .dH _
 ·rw[hp,c,rS hx]at g1;rw[hp,c,ud hx]at g2;cases g1;cases g2;exact Bi x
theorem xL {S:Nat->Prop}{H:AHeap}{nx:Nat}(l:List NodeP):∀ c∈ba l,Fz S H nx c c:=by
 intro c hc;unfold ba at hc;obtain⟨r,hr,hc⟩:=List.mem_flatten.1 hc;obtain⟨x,_,rfl⟩:=List.mem_map.1 hr;unfold NodeP.fP at hc;simp only[List.mem_cons,List.not_mem_nil,or_false]at hc;rcases hc with rfl|rfl|rfl
 ·exact .lit _
 ·exact .dH _
 ·exact MJ x
structure NodesQ (e:Nat->Prop)(ns:List NodeP)(cs:List AVal):Prop where
 len:cs.length=ns.length*3
 node:∀ (v:Nat) (x:NodeP),ns[v]?=some x->∃ rv,cs[v*3]?=some (aa x.card)/\cs[v*3+1]?=some (ah x.parents)/\cs[v*3+2]?=some rv/\(rv=aD x.rows\/rv=ea x)/\(e v->rv=ea x)
theorem MK (e:Nat->Prop)(ns:List NodeP):NodesQ e ns (ba ns):=⟨lF ns,fun v x hx=>⟨_,nI hx,oL hx,rS hx,.inr rfl,fun _=>rfl⟩⟩
theorem NodesQ.c0 {e:Nat->Prop}{ns:List NodeP}{cs:List AVal}(h:NodesQ e ns cs){v:Nat}{x:NodeP}(hx:ns[v]?=some x):cs[v*3]?=some (aa x.card):=(h.node v x hx).elim fun _ h=>h.1
theorem NodesQ.c1 {e:Nat->Prop}{ns:List NodeP}{cs:List AVal}(h:NodesQ e ns cs){v:Nat}{x:NodeP}(hx:ns[v]?=some x):cs[v*3+1]?=some (ah x.parents):=(h.node v x hx).elim fun _ h=>h.2.1
theorem NodesQ.ne {e:Nat->Prop}{ns:List NodeP}{cs:List AVal}(h:NodesQ e ns cs){v:Nat}{x:NodeP}(hx:ns[v]?=some x):¬ cs=[]:=fun he=>by
 have:=h.c0 hx;rw[he]at this;simp at this
theorem NodesQ.part {e:Nat->Prop}{ns:List NodeP}{cs:List AVal}(h:NodesQ e ns cs){v:Nat}{x:NodeP}(hx:ns[v]?=some x):∃ rv,(cs.drop (v*3)).take 3=[aa x.card,ah x.parents,rv]/\cs[v*3+2]?=some rv/\(rv=aD x.rows\/rv=ea x)/\(e v->rv=ea x):=by
 obtain⟨rv,a,b,c,d,f⟩:=h.node v x hx;refine⟨rv,?_,c,d,f⟩;have h3:=aM c;rw[List.drop_eq_getElem_cons (by omega),List.drop_eq_getElem_cons (by omega),List.drop_eq_getElem_cons (by omega)];simp only[List.take_succ_cons,List.take_zero];rw[List.getElem?_eq_getElem (by omega)]at a b c;rw[Option.some.inj a,Option.some.inj b,Option.some.inj c]
theorem NodesQ.nil {e:Nat->Prop}:NodesQ e [] []:=⟨rfl,fun v x hx=>by simp at hx⟩
theorem NodesQ.snoc {e:Nat->Prop}{ns:List NodeP}{cs:List AVal}(h:NodesQ e ns cs){x:NodeP}{rv:AVal}(h1:rv=aD x.rows\/rv=ea x)(h2:e ns.length->rv=ea x):NodesQ e (ns++[x]) (cs++[aa x.card,ah x.parents,rv]):=by
 have hl:=h.len;refine⟨by simp [hl];omega,fun v y hy=>?_⟩;by_cases hv:v<ns.length
 ·rw[List.getElem?_append_left hv]at hy;obtain⟨r,a,b,c,d⟩:=h.node v y hy;exact⟨r,by rw[List.getElem?_append_left (by omega)];exact a,by rw[List.getElem?_append_left (by omega)];exact b,by rw[List.getElem?_append_left (by omega)];exact c,d⟩
 ·have:v=ns.length:=by have:=aM hy;simp at this;omega
  subst this;rw[List.getElem?_append_right (by omega),Nat.sub_self]at hy;cases hy;refine⟨rv,?_,?_,?_,h1,h2⟩
  ·rw[List.getElem?_append_right (by omega),show ns.length*3 - cs.length=0 by omega];rfl
  ·rw[List.getElem?_append_right (by omega),show ns.length*3+1 - cs.length=1 by omega];rfl
  ·rw[List.getElem?_append_right (by omega),show ns.length*3+2 - cs.length=2 by omega];rfl
theorem NodesQ.mono {e e':Nat->Prop}{ns:List NodeP}{cs:List AVal}(h:NodesQ e ns cs)(he:∀ v,e' v->e v):NodesQ e' ns cs:=⟨h.len,fun v x hx=>by
 obtain⟨r,a,b,c,d,f⟩:=h.node v x hx;exact⟨r,a,b,c,d,fun h=>f (he v h)⟩⟩
theorem NodesQ.ML {e:Nat->Prop}{ns:List NodeP}{cs:List AVal}(h:NodesQ e ns cs){S:Nat->Prop}{H:AHeap}{nx:Nat}:∀ (i:Nat) (h1:i<cs.length) (h2:i<(aC ns).length),Fz S H nx cs[i] (aC ns)[i]:=by
 intro i h1 h2;have hb:i / 3<ns.length:=by rw[h.len]at h1;omega
 obtain⟨x,hx⟩:=aq hb;obtain⟨rv,a,b,c,d,_⟩:=h.node _ x hx;have hp:i=(i / 3)*3+i % 3:=by omega
 have g1:cs[i]?=some cs[i]:=List.getElem?_eq_getElem h1;have g2:(aC ns)[i]?=some (aC ns)[i]:=List.getElem?_eq_getElem h2;generalize cs[i]=u at g1 ⊢;generalize (aC ns)[i]=w at g2 ⊢;have c3:i % 3=0\/i % 3=1\/i % 3=2:=by omega
 rcases c3 with c0|c0|c0
 ·rw[hp,c0,Nat.add_zero,a]at g1;rw[hp,c0,Nat.add_zero,je hx]at g2;cases g1;cases g2;exact .lit _
 ·rw[hp,c0,b]at g1;rw[hp,c0,lC hx]at g2;cases g1;cases g2;exact .dH _
 ·rw[hp,c0,c]at g1;rw[hp,c0,ud hx]at g2;cases g1;cases g2;rcases d with d|d<;>rw[d]
  ·exact .aD _
  ·exact Bi x
end Go.Proofs
namespace Go.Proofs
open Go.Hx
theorem su {α:Type}{l:List α}{i:Nat}{x:α}(h:l[i]?=some x):l.set i x=l:=by
 apply List.ext_getElem?;intro j;rw[List.getElem?_set];split
 ·rename_i hj;subst hj;rw[if_pos (aM h),h]
 ·rfl
structure FiS (d:InfP)(fv:AVal)(H H':AHeap)(nh:AVal)(n:Nat)(cs:List AVal):Prop where
 nx:H.next+4<=H'.next
 ov:Over H H'
 b0:H'.get H.next=some (.arr 0 38 [.lit (.int .i64 d.grain),.vec d.nodes.length (aC d.nodes),.lit (.int .u64 (d.decs:Int)),.vec d.utils.length (aS d.utils)])
 b1:H'.get (H.next+1)=some (.arr 0 150 [fv])
 b2:H'.get (H.next+2)=some (.arr 0 103 [.lit (.int .i64 0),.lit (.slice none 0 0)])
 b3:H'.get (H.next+3)=some (.arr 0 103 [.lit (.int .i64 d.grain),nh])
 nd:d8 (H.next+4) H' 73 3 nh n cs
theorem FiS.over {d:InfP}{fv:AVal}{H H' H2:AHeap}{nh:AVal}{n:Nat}{cs:List AVal}(h:FiS d fv H H' nh n cs)(o:Over H' H2):FiS d fv H H2 nh n cs where
 nx:=Nat.le_trans h.nx o.next
 ov:=h.ov.trans o
 b0:=(o.old _ (by have:=h.nx;omega)).trans h.b0
 b1:=(o.old _ (by have:=h.nx;omega)).trans h.b1
 b2:=(o.old _ (by have:=h.nx;omega)).trans h.b2
 b3:=(o.old _ (by have:=h.nx;omega)).trans h.b3
 nd:=h.nd.over o
theorem OT {H H':AHeap}{v:AVal}{n:Nat}{cs xs:List AVal}(hx:xs.all AVal.one=true)(hxl:xs.length=3)(hn:n<2 ^ 38)(ho:d8 (H.next+4) H' 73 3 v n cs)(hlo:H.next+4<=H'.next):
  ∃ v' H2,bQ Tryz.prog (ext H' [.arr 0 73 xs]) (H'.next+1) 34 34 v (.own H'.next 0 0 1 3)=some (v',H2)/\d8 (H.next+4) H2 73 3 v' (n+1) (cs++xs)/\H'.next<=H2.next/\(∀ k,k<H'.next->(∀ g n,v≠.own k g 0 n 3)->H2.get k=H'.get k) :=
 vF Tryz.underlying34 Tryz.xu Tryz.xx hx hxl (by rw[Tryz.xw];omega) ho hlo rfl
theorem CN {lo:Nat}{H':AHeap}{v:AVal}{l:List AVal}(x:AVal)(hx:x.one=true)(h:aG lo H' 46 v l)(hlo:lo<=H'.next)(hl:l.length<2 ^ 40):
  ∃ v' H2,bQ Tryz.prog (ext H' [.arr 0 46 [x]]) (H'.next+1) 33 33 v (.own H'.next 0 0 1 1)=some (v',H2)/\aG lo H2 46 v' (l++[x])/\H'.next<=H2.next/\(∀ k,k<H'.next->(∀ g n,v≠.own k g 0 n 1)->H2.get k=H'.get k) :=
 jc (P:=Tryz.prog) (H:=H') (t:=33) (x:=x) (n:=H'.next+1) Tryz.underlying33 Tryz.qb Tryz.qd hx (by rw[Tryz.qc];omega) h hlo rfl
set_option maxHeartbeats 4000000 in
theorem CO (d:InfP)(hf:InfFit d)(hR:RightN d)(c:Nat->Nat->Int)(fv:AVal)(rs:List Nat)(H:AHeap)(hrs:∀ i∈rs,i<H.next)(hfc:fv.cells=[fv])(hfo:fv.one=true)
  (hfv:∀ p r v x H1,(aE d)[p]?=some v->d.nodes[v]?=some x->r<bG d.nodes x->Over H H1->(0<=c p r/\c p r<x.card)/\cI Tryz.prog G0 fv [.lit (.int .i64 p),.lit (.int .i64 r)] H1 (.lit (.int .i64 (c p r))) rs)
  (K:ARes->AHeap->Prop) (hK:K (.ret (da d.grain (b7 d c))) H):ae Tryz.prog G0 120 [dI d,fv] H K:=by
 refine ae.clo ⟨_,Tryz.func120,rfl,rfl⟩ fun hcl=>?_;have hl:=hf.nodes.1;have hn8:=hR.n1.2;refine ae.aT (n:=91) (rs:=[.cell 4 103]) Tryz.func120 rfl rfl rfl (by decide) (by kernel_rfl) (by simp) ?_;simp only[go_sem,iu,cz,hfc];obtain⟨Hb,hHb⟩:∃ Hb,Hb=ext H [.arr 0 38 [.lit (.int .i64 d.grain),.vec d.nodes.length (aC d.nodes),.lit (.int .u64 (d.decs:Int)),.vec d.utils.length (aS d.utils)],.arr 0 150 [fv],.arr 0 103 [.lit (.int .i64 0),.lit (.slice none 0 0)],.arr 0 103 [.lit (.int .i64 d.grain),.lit (.slice none 0 0)]]:=⟨_,rfl⟩
 rw[<- hHb];have R0:FiS d fv H Hb (.lit (.slice none 0 0)) 0 []:=by
  rw[hHb];exact⟨by simp [bf],.ext _ _,cu ..,aZ H _ 1 (by simp),aZ H _ 2 (by simp),aZ H _ 3 (by simp),.nil⟩
 have nb:Hb.next=H.next+4:=by rw[hHb];rfl
 refine W.loop 4503599626323328 (by rfl) (fun ρ H'=>∃ (k:Nat) (nh:AVal),ρ 20=aa k/\k<=d.nodes.length/\FiS d fv H H' nh k (ba (d.nodes.take k))) (fun ρ H=>d.nodes.length - (iv (ρ 20)).toNat) ?_ ?_
 ·simp only[go_sem];exact⟨0,_,rfl,by omega,R0⟩
 rintro ρ H' ⟨k,nh,h20,hk,R⟩;refine af _ _ _ (by rfl) ?_;have rn:=R.nx;have q0:=ag R.b0;have q3:=ag R.b3;by_cases hb:(k:Int)<d.nodes.length
 ·obtain⟨x,hx⟩:=aq (l:=d.nodes) (i:=k) (by omega);have hxm:=List.mem_of_getElem? hx;obtain⟨f1,f2,f3⟩:=hf.nodes.2 x hxm;have hne:=ep hx;have e0:=oI hx;have e1:k*3+3<=(aC d.nodes).length:=by rw[jS];omega
  simp only[go_sem,h20,hb,hne,e0,e1];refine W.draw 7 [0,1,0,4,12,31,0] Tryz.mixed (by kernel_rfl) (by kernel_rfl) ?_;simp only[go_sem];refine⟨ah x.parents,[],cI.pure fun H2=>CS x.parents (by omega) H2 _ ⟨rfl,rfl⟩,?_⟩;simp only[go_sem,MI]
  repeat (refine And.intro (by first|omega|(simp;done)|(simp;omega)|(intros;omega)|exact⟨rfl,by omega,by omega,lh _⟩) ?_)
  obtain⟨H1,hH1⟩:∃ H1,H1=ext (ext H' [.arr 0 73 [.lit (.int .i64 x.card),.vec x.parents.length (ints x.parents),.vec x.rows.length (x.rows.map ah)]]) [.arr 0 73 [.lit (.int .i64 x.card),.vec x.parents.length (ints x.parents),.lit (.slice none 0 0)]]:=⟨_,rfl⟩
  have n1:H1.next=H'.next+2:=by rw[hH1];rfl
  have gA:H1.get H'.next=some (.arr 0 73 [.lit (.int .i64 x.card),.vec x.parents.length (ints x.parents),.vec x.rows.length (x.rows.map ah)]):=by rw[hH1,bO (by simp [bf])];exact bR
  have gB:H1.get (H'.next+1)=some (.arr 0 73 [.lit (.int .i64 x.card),.vec x.parents.length (ints x.parents),.lit (.slice none 0 0)]):=by rw[hH1];exact bR (H:=ext H' [_])
  have o1:Over H' H1:=by rw[hH1];exact(Over.ext _ _).trans (.ext _ _)
  have lA:=ag gA;rw[hH1]at lA;simp only[go_sem,lA];rw[<- hH1];refine W.aO 35175782155264 (by rfl) (fun ρ' H2=>∃ (j:Nat) (rh:AVal),ρ' 33=aa j/\j<=x.rows.length/\Over H' H2/\H1.next<=H2.next/\H2.get (H'.next+1)=some (.arr 0 73 [.lit (.int .i64 x.card),.vec x.parents.length (ints x.parents),rh])/\aG (H'.next+2) H2 46 rh ((x.rows.take j).map ah)/\(j=0->rh=.lit (.slice none 0 0))) (fun ρ' H=>x.rows.length - (iv (ρ' 33)).toNat) ?_ ?_
  ·simp only[go_sem];exact⟨0,_,rfl,by omega,o1,gB,.nil,fun _=>rfl⟩
  rintro ρ' H2 ⟨j,rh,h33,hj,o2,hn2,gB2,hrh,hrh0⟩;refine af _ _ _ (by rfl) ?_;have o2n:=o2.next;have lB:=ag gB2;by_cases hb2:(j:Int)<x.rows.length
  ·obtain⟨r,hr⟩:=aq (l:=x.rows) (i:=j) (by omega);have hrm:=List.mem_of_getElem? hr;have hrne:=aL hr;have w1:=IntWalk.i64_in ((j:Int)+1) (by omega);simp only[go_sem,h33,hb2,hr,hrne];obtain⟨rh2,H3,hA,hO,hn3,hp⟩:=CN (ah r) rfl hrh (by omega) (by simp;omega);simp only[ah]at hA;have hcells:=hO.cells;have hone:=hO.one;have g3:H3.get (H'.next+1)=some (.arr 0 73 [.lit (.int .i64 x.card),.vec x.parents.length (ints x.parents),rh]):=(hp _ (by omega) (hrh.ne (by omega))).trans gB2;have l3:=ag g3;refine W.draw 5 [0,1,0,4,12] Tryz.mixed (by kernel_rfl) (by kernel_rfl) ?_;simp only[go_sem,lB];refine⟨ah r,[],cI.pure fun H2=>CS r (by have:=f3 r hrm;omega) H2 _ ⟨rfl,rfl⟩,?_⟩;simp only[go_sem,h33,hA,l3,hcells,hone,w1]
   repeat (refine And.intro (by first|omega|(simp;done)|(simp;omega)|(intros;omega)|exact⟨rfl,by omega,by omega,lh _⟩) ?_)
   have o3:Over H' H3:=⟨by omega,fun id h=>(hp id (by omega) (hrh.ne (by omega))).trans (o2.old id h)⟩
   refine⟨by rw[aH];omega,⟨j+1,rh2,by simp,by omega,o3.upd (by omega) _,by rw[aH];omega,by rw[aj,if_pos rfl],?_,by omega⟩,by omega⟩;have e:(x.rows.take (j+1)).map ah=(x.rows.take j).map ah++[ah r]:=(by rw[aV hr];simp);rw[e];exact hO.keep (Nat.le_refl _) (by rw[aH];omega) fun id g h1 _ _ _=>by rw[aj,if_neg (by omega)]
  ·rw[List.take_of_length_le (by omega)]at hrh;have R2:=R.over o2;have q3b:=ag R2.b3;obtain⟨nh2,H3,hA,hO,hn3,hp⟩:=OT (H:=H) (H':=H2) (v:=nh) (n:=k) (xs:=[.lit (.int .i64 x.card),.vec x.parents.length (ints x.parents),rh]) (by rw[List.all_cons,List.all_cons,List.all_cons,hrh.one];rfl) rfl (by omega) R2.nd (by have:=R2.nx;omega);have r2n:=R2.nx;have fr:∀ id,id<H.next+4->H3.get id=H2.get id:=fun id h=>hp id (by omega) (R2.nd.ne h);have g3:H3.live (H.next+3) 0=some (103,[.lit (.int .i64 d.grain),nh]):=ag ((fr _ (by omega)).trans R2.b3);have hcells:=hO.cells;have hone:=hO.one;have hrc:=hrh.cells;have hro:=hrh.one;have w1:=IntWalk.i64_in ((k:Int)+1) (by omega);simp only[go_sem,h20,h33,hb2,lB,q3b,hA,g3,hcells,hone,w1];obtain⟨H4,hH4⟩:∃ H4,H4=H3.upd (H.next+3) (.arr 0 103 [.lit (.int .i64 d.grain),nh2]):=⟨_,rfl⟩
   rw[<- hH4];refine(fun (h:∀ E:Env,E 20=aa ((k:Int)+1)->∃ s₃:St,eo Tryz.prog G0 ⟨E,H4⟩ s₃/\Hb.next<=s₃.H.next/\(∃ (k:Nat) (nh:AVal),s₃.ρ 20=aa k/\k<=d.nodes.length/\FiS d fv H s₃.H nh k (ba (d.nodes.take k)))/\d.nodes.length - (iv (s₃.ρ 20)).toNat<d.nodes.length - k)=>h _ (by simp only[go_sem])) fun E hE20=>?_;have n4:H4.next=H3.next:=(by rw[hH4];rfl);obtain⟨nb2,gn,b1,b2,rfl,b4,b5⟩:∃ id g,H.next+4<=id/\id<H3.next/\nh2=.own id g 0 (k+1) 3/\(ba (d.nodes.take k)++[.lit (.int .i64 x.card),.vec x.parents.length (ints x.parents),rh]).length=(k+1)*3/\H3.get id=some (.arr g 73 (ba (d.nodes.take k)++[.lit (.int .i64 x.card),.vec x.parents.length (ints x.parents),rh])):=by
    rcases hO with ⟨_,h,_⟩|h
    ·omega
    ·exact h
   have c0:∀ id,id<H.next+3->H4.get id=H2.get id:=fun id h=>by rw[hH4,aj,if_neg (by omega)];exact fr id (by omega)
   have c3:H4.get (H.next+3)=some (.arr 0 103 [.lit (.int .i64 d.grain),.own nb2 gn 0 (k+1) 3]):=(by rw[hH4,aj,if_pos rfl]);have c5:H4.get nb2=some (.arr gn 73 (ba (d.nodes.take k)++[.lit (.int .i64 x.card),.vec x.parents.length (ints x.parents),rh])):=(by rw[hH4,aj,if_neg (by omega)];exact b5);have e5:ba (d.nodes.take (k+1))=ba (d.nodes.take k)++[aa x.card,ah x.parents,ea x]:=(by rw[aV hx,MH]);by_cases hr0:x.rows=[]
   ·have hrn:rh=.lit (.slice none 0 0):=hrh0 (by rw[hr0]at hj;simpa using hj);subst hrn;refine⟨⟨E,H4⟩,eo.refl _,by show Hb.next<=H4.next;omega,⟨k+1,.own nb2 gn 0 (k+1) 3,hE20.trans (by simp),by omega,⟨by show _<=H4.next;omega,⟨by have:=R2.ov.next;show _<=H4.next;omega,fun id h=>(c0 id (by omega)).trans (R2.ov.old id h)⟩,(c0 _ (by omega)).trans R2.b0,(c0 _ (by omega)).trans R2.b1,(c0 _ (by omega)).trans R2.b2,c3,.inr ⟨nb2,gn,b1,by show _<H4.next;omega,rfl,?_,?_⟩⟩⟩,?_⟩
    ·rw[lF];simp;omega
    ·show H4.get nb2=_;rw[e5,Bg hr0];exact c5
    ·show _ - (iv (E 20)).toNat<_;rw[hE20];simp only[aa,aW];omega
   ·obtain⟨rk,gr,r1,r2,rfl,r4⟩:∃ id g,H'.next+2<=id/\id<H2.next/\rh=.own id g 0 (x.rows.map ah).length 1/\H2.get id=some (.arr g 46 (x.rows.map ah)):=by
     rcases hrh with ⟨_,h⟩|h
     ·simp at h;exact absurd h hr0
     ·exact h
    have nhne:∀ g n,nh≠.own rk g 0 n 3:=fun g n he=>by
     rcases R.nd with ⟨h,_⟩|⟨i,g2,_,h,h2,_⟩
     ·rw[h]at he;cases he
     ·rw[h2]at he;have:=AVal.own.inj he;omega
    have c6:H4.get rk=some (.arr gr 46 (x.rows.map ah)):=(by rw[hH4,aj,if_neg (by omega),hp rk r2 nhne];exact r4);have hne2:nb2≠rk:=by
     rintro rfl;rw[c5]at c6;have:=(Blk.arr.inj (Option.some.inj c6)).2.1;exact absurd this (by decide)
    have e6:∀ c:AVal,ba (d.nodes.take k)++[.lit (.int .i64 x.card),.vec x.parents.length (ints x.parents),c]=(ba (d.nodes.take k)++[.lit (.int .i64 x.card),.vec x.parents.length (ints x.parents)])++c :: []:=fun c=>by simp
    rw[e6]at c5;have e7:ba (d.nodes.take (k+1))=(ba (d.nodes.take k)++[.lit (.int .i64 x.card),.vec x.parents.length (ints x.parents)])++aD x.rows :: []:=(by rw[e5,xJ hr0,<- e6];rfl);refine⟨⟨E,H4.fg rk nb2 (.arr gn 73 ((ba (d.nodes.take k)++[.lit (.int .i64 x.card),.vec x.parents.length (ints x.parents)])++aD x.rows :: []))⟩,eo.fg (s:=⟨E,H4⟩) aK c5 hne2 (by simp) (Rg (fun c hc=>?_) ?_ fun c hc=>by cases hc),by show Hb.next<=H4.next;omega,
     ⟨k+1,.own nb2 gn 0 (k+1) 3,hE20.trans (by simp),by omega,⟨by show _<=H4.next;omega,⟨by have:=R2.ov.next;show _<=H4.next;omega,fun id h=>(lV (by omega) (by omega)).trans ((c0 id (by omega)).trans (R2.ov.old id h))⟩,(lV (by omega) (by omega)).trans ((c0 _ (by omega)).trans R2.b0),(lV (by omega) (by omega)).trans ((c0 _ (by omega)).trans R2.b1),(lV (by omega) (by omega)).trans ((c0 _ (by omega)).trans R2.b2),(lV (by omega) (by omega)).trans c3,.inr ⟨nb2,gn,b1,by show _<H4.next;omega,rfl,?_,?_⟩⟩⟩,?_⟩
    ·rcases List.mem_append.1 hc with hc|hc
     ·exact xL _ c hc
     ·simp only[List.mem_cons,List.not_mem_nil,or_false]at hc;rcases hc with rfl|rfl
      ·exact .lit _
      ·exact .dH _
    ·show Fz (fun id=>id=rk) H4 _ _ _;rw[show aD x.rows=.vec (x.rows.map ah).length (x.rows.map ah) by simp [aD]];refine .frz (S:=fun id=>id=rk) rfl c6 (by rw[Nat.mul_one]) fun j hj h2 h'=>?_;simp only[Nat.zero_add,List.getElem_map];exact .dH _
    ·rw[lF];simp;omega
    ·rw[e7];exact vE hne2
    ·show _ - (iv (E 20)).toNat<_;rw[hE20];simp only[aa,aW];omega
 have ek:k=d.nodes.length:=by omega
 subst ek;rw[List.take_of_length_le (Nat.le_refl _)]at R;obtain⟨nbk,gn,b1,b2,rfl,b4,b5⟩:∃ id g,H.next+4<=id/\id<H'.next/\nh=.own id g 0 d.nodes.length 3/\(ba d.nodes).length=d.nodes.length*3/\H'.get id=some (.arr g 73 (ba d.nodes)):=by
  rcases R.nd with ⟨_,h,_⟩|h
  ·have:=hR.n1.1;omega
  ·exact h
 simp only[go_sem,h20,hb,q0];refine az.clo (uO d _ _ ⟨trivial,?_⟩);simp only[go_sem];obtain⟨H2,hH2⟩:∃ H2,H2=ext H' [j8 d]:=⟨_,rfl⟩
 rw[<- hH2];have o2:Over H' H2:=by rw[hH2];exact .ext _ _
 have n2:H2.next=H'.next+1:=by rw[hH2];rfl
 have hbx:H2.get H'.next=some (j8 d):=by rw[hH2];exact bR
 refine W.env fun E hE=>?_;have e2:E 2=.ptr H.next 0 0:=by rw[hE];simp only[go_sem]
 have e3:E 3=.ptr (H.next+1) 0 0:=by rw[hE];simp only[go_sem]
 have e4:E 4=.ptr (H.next+2) 0 0:=by rw[hE];simp only[go_sem]
 have e5:E 5=.ptr (H.next+3) 0 0:=by rw[hE];simp only[go_sem]
 let F:Nat->List AVal->AHeap->Prop:=fun lo cs Hx=>lo<=Hx.next/\(∀ id,id<H2.next->id≠nbk->Hx.get id=H2.get id)/\Hx.get nbk=some (.arr gn 73 cs)
 refine W.pj (f:=131) (first:=[]) (cap:=[.ptr H'.next 0 0]) (by show E 53=_;rw[hE];rfl) (uN d (by omega) hf.decs H'.next)
  (fun k Hx=>F H2.next (ba (dQ d c k)) Hx) (fun _ _=>False)
  (fun k Hx h=>by rw[h.2.1 _ (by omega) (by omega)];exact hbx) (fun k Hx b h=>⟨h.1,fun id h1 h2=>by rw[aj,if_neg (by omega)];exact h.2.1 id h1 h2,by rw[aj,if_neg (by omega)];exact h.2.2⟩) (fun _ _ _ h=>h)
  (fun b=>⟨by rw[bf];omega,fun id h1 h2=>bO h1,by rw[bO (by omega),ME];exact(o2.old _ b2).trans b5⟩) (by decide) uM (fun _ _ _=>trivial) (fun _ _ _=>trivial) (fun k y Hx B Bb hy hj hn hB hBb=>?_) (fun Hx hj hn=>?_) (fun Hx hs hn=>hs.elim) (fun i Hx hs hn=>hs.elim)
 ·obtain⟨v,hv,rfl⟩:=sj hy;obtain⟨v1,v2,v3⟩:=kF hv;obtain⟨x,hx⟩:=aq (l:=d.nodes) (i:=v) v1;have hxm:=List.mem_of_getElem? hx;obtain⟨x1,x2⟩:=hR.dec v x hx v2;refine af _ _ _ (by rfl) ?_;simp only[go_sem,gV,bh,jn,List.foldl_cons,List.foldl_nil,List.zip_cons_cons,List.zip_nil_right,hB];obtain⟨H3,hH3⟩:∃ H3,H3=Hx.upd H2.next Bb:=⟨_,rfl⟩
  rw[<- hH3];obtain⟨st,pd,n',en,ps',as',bo,hBe⟩:=hBb;have n3:H3.next=Hx.next:=by rw[hH3];rfl
  have hj3:F H2.next (ba (dQ d c k)) H3:=by rw[hH3];exact⟨hj.1,fun id h1 h2=>by rw[aj,if_neg (by omega)];exact hj.2.1 id h1 h2,by rw[aj,if_neg (by omega)];exact hj.2.2⟩
  have jB:H3.get H2.next=some Bb:=by rw[hH3,aj,if_pos rfl]
  refine W.env fun E1 hE1=>?_;have m2:E1 2=.ptr H.next 0 0:=by rw[hE1];simp only[go_sem,bh,e2]
  have m3:E1 3=.ptr (H.next+1) 0 0:=by rw[hE1];simp only[go_sem,bh,e3]
  have m5:E1 5=.ptr (H.next+3) 0 0:=by rw[hE1];simp only[go_sem,bh,e5]
  have m11:E1 11=aa k:=by rw[hE1];simp only[go_sem,bh]
  have m12:E1 12=aa v:=by rw[hE1];simp only[go_sem,bh]
  clear hE1;have hvn:(v:Int)<d.nodes.length:=by omega
  have s2:=R.over o2;have oldH:∀ {Hy:AHeap},(∀ id,id<H2.next->id≠nbk->Hy.get id=H2.get id)->Hy.live H.next 0=some (38,[.lit (.int .i64 d.grain),.vec d.nodes.length (aC d.nodes),.lit (.int .u64 (d.decs:Int)),.vec d.utils.length (aS d.utils)])/\Hy.live (H.next+1) 0=some (150,[fv])/\Hy.live (H.next+3) 0=some (103,[.lit (.int .i64 d.grain),.own nbk gn 0 d.nodes.length 3]):=fun h =>
   ⟨ag ((h _ (by omega) (by omega)).trans s2.b0),ag ((h _ (by omega) (by omega)).trans s2.b1),ag ((h _ (by omega) (by omega)).trans s2.b3)⟩
  obtain⟨k0,k1,k3⟩:=oldH hj3.2.1;have ps:=lS hn8 x2 hR.card;have hpm:=mH (ns:=d.nodes) (x:=x) (fun q hq=>by have:=x2.2 q hq;omega) hR.card;have hpp:1<=aA (aR d.nodes x):=fG fun c hc=>(hpm c hc).1;have hpb:=ps.prod;have hrn:((bG d.nodes x:Nat):Int)=aA (aR d.nodes x):=by unfold bG;omega
  have hlk:(dQ d c k)[v]?=some x:=by rw[nH hx];unfold eV;rw[if_neg (by omega)]
  have el:=lF (dQ d c k);have hvk:v*3+2<(ba (dQ d c k)).length:=by rw[el,kG];omega
  refine W.sT (Q':=fun e s2=>e=.normal/\∃ rh,F H3.next (setAt (ba (dQ d c k)) (v*3+2) [rh]) s2.H/\s2.H.get H2.next=some Bb/\aG H3.next s2.H 46 rh ((List.range (bG d.nodes x)).map fun r=>ah (bV d.grain x.card (c k r)))) ?_ ?_;rotate_left
  ·rintro e sx ⟨rfl,rh,hF,jBx,hrh⟩;obtain⟨rk,gr,r1,r2,rfl,r4⟩:∃ id g,H3.next<=id/\id<sx.H.next/\rh=.own id g 0 ((List.range (bG d.nodes x)).map fun r=>ah (bV d.grain x.card (c k r))).length 1/\sx.H.get id=some (.arr g 46 ((List.range (bG d.nodes x)).map fun r=>ah (bV d.grain x.card (c k r)))):=by
    rcases hrh with ⟨_,h⟩|h
    ·have:bG d.nodes x=0:=(by simpa using h);omega
    ·exact h
   have hfs:=MF (c:=c) hv hx;have edr:dP d.grain d.nodes c k x=(List.range (bG d.nodes x)).map fun r=>bV d.grain x.card (c k r):=rfl;have ey:ea { x with rows:=x.rows++dP d.grain d.nodes c k x }=.vec ((List.range (bG d.nodes x)).map fun r=>ah (bV d.grain x.card (c k r))).length ((List.range (bG d.nodes x)).map fun r=>ah (bV d.grain x.card (c k r))):=by
    have hne:x.rows++dP d.grain d.nodes c k x≠[]:=by
     rw[x1,edr,List.nil_append];intro h;have:bG d.nodes x=0:=(by simpa using h);omega
    rw[xJ hne];show aD (x.rows++_)=_;rw[x1,edr,List.nil_append];simp [aD,List.map_map,Function.comp_def]
   have hob:=hF.2.2;rw[g9 hvk]at hob;have hc2:ba (dQ d c (k+1))=(ba (dQ d c k)).set (v*3+2) (.vec ((List.range (bG d.nodes x)).map fun r=>ah (bV d.grain x.card (c k r))).length ((List.range (bG d.nodes x)).map fun r=>ah (bV d.grain x.card (c k r)))):=by
    rw[hfs,Bh (y:={ x with rows:=x.rows++dP d.grain d.nodes c k x }) hlk ⟨rfl,rfl⟩,ey,g9 hvk]
   have hne2:nbk≠rk:=(by have:=hj3.1;omega);refine⟨⟨sx.ρ,sx.H.fg rk nbk (.arr gn 73 (ba (dQ d c (k+1))))⟩,eo.fg aK hob hne2 (by rw[hc2,List.length_set,List.length_set]) ?_,Nat.le_refl _,⟨_,_,_,_,_,_,_,by rw[lV (by omega) (by omega),jBx,hBe]⟩,by rw[lV (by omega) (by omega)];exact jBx,by show Hx.next<=sx.H.next;have:=hF.1;omega,
    ⟨by show H2.next<=sx.H.next;have:=hF.1;omega,fun id h1 h2=>(lV (by omega) h2).trans (hF.2.1 id h1 h2),vE hne2⟩⟩
   rw[hc2];refine za (xL _) ?_;refine .frz (S:=fun id=>id=rk) rfl r4 (by rw[Nat.mul_one]) fun j hj h2 h'=>?_;simp only[Nat.zero_add,List.getElem_map];exact .dH _
  refine af _ _ _ (by rfl) ?_;simp only[go_sem,m2,m12,k0];refine az.clo (uV d.nodes v x hx (fun q hq=>by have:=x2.2 q hq;omega) ps _ _ ⟨⟨_,_,_,_,_,_,_,by rw[jB,hBe]⟩,?_⟩);rw[<- hrn];simp only[go_sem];refine W.aO 1237940038132458770292285440 (by rfl) (fun ρ2 H4=>∃ (r:Nat) (rh:AVal),ρ2 60=aa r/\r<=bG d.nodes x/\F H3.next (setAt (ba (dQ d c k)) (v*3+2) [rh]) H4/\H4.get H2.next=some Bb/\aG H3.next H4 46 rh ((List.range r).map fun r=>ah (bV d.grain x.card (c k r)))/\(r=0->rh=.lit (.slice none 0 0)))
   (fun ρ2 H=>bG d.nodes x - (iv (ρ2 60)).toNat) ?_ ?_
  ·simp only[go_sem];refine⟨0,.lit (.slice none 0 0),rfl,by omega,⟨Nat.le_refl _,hj3.2.1,?_⟩,jB,.nil,fun _=>rfl⟩;rw[show setAt (ba (dQ d c k)) (v*3+2) [.lit (.slice none 0 0)]=ba (dQ d c k) from by
    have:=Bh (y:=x) hlk ⟨rfl,rfl⟩;rw[Bg x1]at this;rw[<- this];congr 1;exact su hlk]
   exact hj3.2.2
  rintro ρ2 H4 ⟨r,rh,h60,hr,hF,jB4,hrh,hrh0⟩;refine W.env fun E2 hE2=>?_;have i2:E2 2=.ptr H.next 0 0:=by rw[hE2];simp only[go_sem,m2]
  have i3:E2 3=.ptr (H.next+1) 0 0:=by rw[hE2];simp only[go_sem,m3]
  have i5:E2 5=.ptr (H.next+3) 0 0:=by rw[hE2];simp only[go_sem,m5]
  have i11:E2 11=aa k:=by rw[hE2];simp only[go_sem,m11]
  have i12:E2 12=aa v:=by rw[hE2];simp only[go_sem,m12]
  have i59:E2 59=aa (bG d.nodes x):=by rw[hE2];simp only[go_sem]
  have i60:E2 60=aa r:=by rw[hE2];simp only[go_sem,h60]
  clear hE2;refine af _ _ _ (by rfl) ?_;by_cases hb2:(r:Int)<bG d.nodes x
  ·obtain⟨k0,k1,k3⟩:=oldH hF.2.1;have kn:=ag hF.2.2;have hne:=ep hx;have ec:=je hx;have w1:=IntWalk.i64_in ((r:Int)+1) (by omega);obtain⟨cb,hpc⟩:=hfv k r v x H4 hv hx (by omega) ⟨by omega,fun id h=>(hF.2.1 id (by omega) (by omega)).trans (s2.ov.old id h)⟩;have hs:(setAt (ba (dQ d c k)) (v*3+2) [rh])[v*3+2]?=some rh:=(by rw[g9 hvk,List.getElem?_set_self hvk]);obtain⟨rh2,H5,hA,hO,hn5,hp⟩:=CN (ah (bV d.grain x.card (c k r))) rfl hrh hF.1 (by rw[List.length_map,List.length_range];omega);simp only[ah]at hA;have hcells:=hO.cells;have hone:=hO.one;have hpr:cI Tryz.prog G0 (.clo 144 [] []) [.lit (.int .i64 d.grain),.lit (.int .i64 x.card),.lit (.int .i64 (c k r))] H4 (ah (bV d.grain x.card (c k r))) []:=cI.pure fun H2=>OK d.grain x.card (c k r) (by have:=hR.card x hxm;omega) cb H2 _ ⟨rfl,rfl⟩;have hrhs:rh=.lit (.slice none 0 0)\/∃ i g n,rh=.own i g 0 n 1/\H3.next<=i/\i<H4.next:=by
    rcases hrh with ⟨h,_⟩|⟨i,g,h1,h2,h3,_⟩
    ·exact .inl h
    ·exact .inr ⟨i,g,_,h3,h1,h2⟩
   have hset:∀ a b,setAt (setAt (ba (dQ d c k)) (v*3+2) [a]) (v*3+2) [b]=setAt (ba (dQ d c k)) (v*3+2) [b]:=fun a b=>by rw[g9 hvk,g9 (by rw[List.length_set];exact hvk),g9 hvk,List.set_set]
   have hslen:∀ a,(setAt (ba (dQ d c k)) (v*3+2) [a]).length=(ba (dQ d c k)).length:=fun a=>by rw[g9 hvk,List.length_set]
   have hg5:H5.get nbk=some (.arr gn 73 (setAt (ba (dQ d c k)) (v*3+2) [rh])):=(hp _ (by have:=hF.1;omega) (hrh.ne (by omega))).trans hF.2.2;have kn5:=ag hg5;have ho5:∀ id,id<H2.next->id≠nbk->H5.get id=H2.get id:=fun id h1 h2=>(hp _ (by have:=hF.1;omega) (hrh.ne (by omega))).trans (hF.2.1 id h1 h2);have jB5:H5.get H2.next=some Bb:=(hp _ (by have:=hF.1;omega) (hrh.ne (by omega))).trans jB4;obtain⟨hn34,-,-⟩:=hF;rcases rs with _|⟨b0,rs⟩<;>rcases hrhs with rfl|⟨i,g,n,rfl,hi1,hi2⟩
   all_goals
    simp only[go_sem,i60,i59,hb2];refine W.draw 24 [0,1,0,0,8,0,56,120,248,0,512,0,2048,0,14336,30720,63488,0,0,0,917504,2096640,4193792,8388600] Tryz.mixed (by kernel_rfl) (by kernel_rfl) ?_;simp only[go_sem,i2,i3,i5,i11,i12,k0,k1,k3,kn,hvn,hne,ec,hs];refine⟨.lit (.int .i64 (c k r)),_,hpc,ah (bV d.grain x.card (c k r)),[],hpr,?_⟩;simp only[go_sem,i2,i3,i5,i11,i12,i60,hvn,kn5,hA,hcells,hone,w1];refine⟨by repeat' (first|refine And.intro ?_ ?_|(intro x hx;omega)),by repeat' (first|refine And.intro ?_ ?_|(intro x hx;omega)),by rw[hslen];omega,by rw[aH];omega,⟨_,_,_,_,_,_,_,by rw[aj,if_neg (by omega),jB5,hBe]⟩,
     ⟨r+1,rh2,by simp,by omega,⟨by rw[aH];omega,fun id h1 h2=>by rw[aj,if_neg h2];exact ho5 id h1 h2,by rw[aj,if_pos rfl,hset]⟩,by rw[aj,if_neg (by omega)];exact jB5,?_,by omega⟩,by rw[h60];simp only[aa,aW];omega⟩
    have e:((List.range (r+1)).map fun r=>ah (bV d.grain x.card (c k r)))=((List.range r).map fun r=>ah (bV d.grain x.card (c k r)))++[ah (bV d.grain x.card (c k r))]:=(by rw[List.range_succ];simp);show aG _ _ _ _ ((List.range (r+1)).map fun r=>ah (bV d.grain x.card (c k r)));rw[e];exact hO.keep (Nat.le_refl _) (by rw[aH];omega) fun id g h1 _ _ _=>by rw[aj,if_neg (by omega)]
  ·have er:r=bG d.nodes x:=(by omega);subst er;simp only[go_sem,i59,i60,hb2];exact⟨rh,hF,jB4,hrh⟩
 ·have s2:=R.over o2;have f4:=ag ((hj.2.1 _ (by omega) (by omega)).trans s2.b2);have f5:=ag ((hj.2.1 _ (by omega) (by omega)).trans s2.b3);simp only[go_sem,e4,e5,f4,f5];have ovx:Over H Hx:=⟨by omega,fun id h=>(hj.2.1 id (by omega) (by omega)).trans (s2.ov.old id h)⟩
  refine au.bE (v':=da d.grain (b7 d c)) aK hcl (ovx.upd (by omega) _) (.agg rfl fun i hi _=>?_) hK
  match i,hi with
  | 0,_=>exact .lit _
  | 1,_ =>
   have hg:∀ b,(Hx.upd (H.next+2) b).get nbk=some (.arr gn 73 (ba (b7 d c))):=fun b=>by
    rw[aj,if_neg (by omega)];have:=hj.2.2;rw[sk]at this;exact this
   show Fz _ _ _ (.own nbk gn 0 d.nodes.length 3) (.vec (b7 d c).length (aC (b7 d c)));rw[show (b7 d c).length=d.nodes.length from kG _ _ _];refine .frz (by show H.next<=_;omega) (hg _) (by rw[jS];congr 1;exact kG _ _ _) fun j hj h2 h'=>?_;simp only[Nat.zero_add];exact xK _ j _ _
end Go.Proofs
namespace Go.Proofs
open Go.Hx
structure UtilOk (ns:List NodeP)(u:UtilP):Prop where
 vars:cJ u.vars ns.length
 size:(u.w.length:Int)=aA (aI (ak ns) u.vars)
 w:∀ x∈u.w,-100<=x/\x<=100
def uS (d:InfP):Prop:=d.utils.length<=4/\∀ u∈d.utils,UtilOk d.nodes u
theorem sv {ns:List NodeP}{vars:List Int}(h8:ns.length<=8)(hp:cJ vars ns.length)(hc:∀ y∈ns,1<=y.card/\y.card<=4):dS (aI (ak ns) vars) :=
 lS (x:=⟨0,vars,[]⟩) h8 hp hc
set_option maxHeartbeats 2000000 in
theorem OU (d:InfP)(hf:InfFit d)(h8:d.nodes.length<=8)(hc:∀ y∈d.nodes,1<=y.card/\y.card<=4)(H:AHeap)(K:ARes->AHeap->Prop)(hK:K (.ret (.lit (.bool (kO (uS d))))) H):ae Tryz.prog G0 130 [dI d] H K:=by
 refine ae.clo ⟨_,Tryz.func130,rfl,rfl⟩ fun hcl=>?_;have hul:=hf.utils.1;have no:¬ uS d->∀ H',Over H H'->au Tryz.prog G0 H K (.lit (.bool false)) H':=fun h H' ov=>au.bE aK hcl ov (.lit _) (by rw[jE h]at hK;exact hK);refine ae.aT (n:=74) (rs:=[.tmp 2]) Tryz.func130 rfl rfl rfl (by decide) (by kernel_rfl) (by simp) ?_;simp only[go_sem,iu,cz];obtain⟨H1,hH1⟩:∃ H1,H1=ext H [.arr 0 38 [.lit (.int .i64 d.grain),.vec d.nodes.length (aC d.nodes),.lit (.int .u64 (d.decs:Int)),.vec d.utils.length (aS d.utils)]]:=⟨_,rfl⟩
 have l1:H1.live H.next 0=some (38,[.lit (.int .i64 d.grain),.vec d.nodes.length (aC d.nodes),.lit (.int .u64 (d.decs:Int)),.vec d.utils.length (aS d.utils)]):=by rw[hH1];exact ag (cu ..)
 have n1:H1.next=H.next+1:=by rw[hH1];rfl
 have o1:Over H H1:=by rw[hH1];exact .ext _ _
 rw[<- hH1];refine W.aO 9444732965739290166632 (by rfl) (fun ρ H'=>∃ k:Nat,ρ 18=aa k/\k<=d.utils.length/\Over H1 H'/\ρ 3=.lit (.bool (decide ((d.utils.length:Int)<=4)))/\(0<k->d.utils.length<=4)/\∀ u∈d.utils.take k,UtilOk d.nodes u) (fun ρ H=>d.utils.length - (iv (ρ 18)).toNat) ?_ ?_
 ·simp only[go_sem];exact⟨0,rfl,by omega,.refl _,by omega,by simp⟩
 rintro ρ H' ⟨k,h18,hk,ov,h3,hk4,hall⟩;refine W.env fun E hE=>?_;have e1:E 1=.ptr H.next 0 0:=by rw[hE];simp only[go_sem]
 have e3:E 3=.lit (.bool (decide ((d.utils.length:Int)<=4))):=by rw[hE];simp only[go_sem,h3]
 have e16:E 16=.vec d.utils.length (aS d.utils):=by rw[hE];simp only[go_sem]
 have e17:E 17=aa d.utils.length:=by rw[hE];simp only[go_sem]
 have e18:E 18=aa k:=by rw[hE];simp only[go_sem,h18]
 clear hE;refine af _ _ _ (by rfl) ?_;have ovn:=ov.next;have l2:=(ov.live (g:=0) (by omega:H.next<H1.next)).trans l1;by_cases hb:(k:Int)<d.utils.length;rotate_left
 ·rw[List.take_of_length_le (by omega)]at hall;by_cases h4:(d.utils.length:Int)<=4
  ·simp only[go_sem,e3,e17,e18,hb,h4];rw[eO ⟨by omega,hall⟩]at hK;exact au.bE aK hcl (o1.trans ov) (.lit _) hK
  ·simp only[go_sem,e3,e17,e18,hb,h4];exact no (fun h=>by have:=h.1;omega) _ (o1.trans ov)
 obtain⟨u,hu⟩:=aq (l:=d.utils) (i:=k) (by omega);have hum:=List.mem_of_getElem? hu;obtain⟨f1,f2⟩:=hf.utils.2 u hum;have hne:=xA hu;have p0:=xz hu;have p1:k*2+2<=(aS d.utils).length:=by rw[xy];omega
 have ove:∀ L,Over H (ext H' L):=fun L=>(o1.trans ov).trans (.ext _ _);by_cases h4:(d.utils.length:Int)<=4;rotate_left
 ·simp only[go_sem,e3,e16,e17,e18,hb,h4,hne,p0,p1];exact no (fun h=>by have:=h.1;omega) _ (ove _)
 have l3:∀ L,(ext H' L).live H.next 0=_:=fun L=>(eU (by omega)).trans l2;simp only[go_sem,e1,e3,e16,e17,e18,hb,h4,hne,p0,p1,l3];obtain⟨H2,hH2⟩:∃ H2,H2=ext H' [.arr 0 82 [.vec u.vars.length (ints u.vars),.vec u.w.length (ints u.w)]]:=⟨_,rfl⟩
 have m1:H2.live H'.next 0=some (82,[.vec u.vars.length (ints u.vars),.vec u.w.length (ints u.w)]):=by rw[hH2];exact ag bR
 have m2:=l3 [.arr 0 82 [.vec u.vars.length (ints u.vars),.vec u.w.length (ints u.w)]];rw[<- hH2]at m2;have n2:H2.next=H'.next+1:=by rw[hH2];rfl
 have ov2:Over H H2:=by rw[hH2];exact ove _
 rw[<- hH2];refine az.clo (CT u.vars d.nodes.length (by omega) _ _ ⟨trivial,?_⟩);by_cases c1:cJ u.vars d.nodes.length;rotate_left
 ·simp only[go_sem,c1];exact no (fun h=>c1 (h.2 u hum).vars) _ ov2
 have sm:=sv h8 c1 hc;have pl:(aI (ak d.nodes) u.vars).length=u.vars.length:=gJ _ _;have v8:=c1.len;simp only[go_sem,c1,m1];refine W.aO 562881233944896 (by rfl) (fun ρ' H3=>H3=H2/\∃ j:Nat,ρ' 36=aa j/\j<=u.vars.length/\ρ' 6=aa (aA ((aI (ak d.nodes) u.vars).take j))) (fun ρ' H=>u.vars.length - (iv (ρ' 36)).toNat) ?_ ?_
 ·simp only[go_sem];exact⟨0,rfl,by omega,by simp [iG]⟩
 rintro ρ' H3 ⟨rfl,j,h36,hj,h6⟩;refine af _ _ _ (by rfl) ?_;by_cases hb2:(j:Int)<u.vars.length
 ·obtain⟨q,hq⟩:=aq (l:=u.vars) (i:=j) (by omega);obtain⟨i,rfl,y,hy⟩:=mm (l:=d.nodes) (c1.2 q (List.mem_of_getElem? hq)).1 (c1.2 q (List.mem_of_getElem? hq)).2;have hne2:=aL hq;have hne3:=ep hy;have ey:=je hy;have hi:(i:Int)<d.nodes.length:=by have:=aM hy;omega
  have pk:(aI (ak d.nodes) u.vars)[j]?=some y.card:=by rw[jF hq,Int.toNat_natCast,bJ (cU hy)]
  have b1:=(sm.take (j+1)).prod;rw[aV pk,fF]at b1;have w1:=IntWalk.i64_in ((j:Int)+1) (by omega);have w2:=IntWalk.i64_in (aA ((aI (ak d.nodes) u.vars).take j)*y.card) (by omega);simp only[go_sem,h36,h6,e1,m2,hb2,hq,hne2,hne3,hi,ey,w1,w2];exact⟨⟨j+1,by simp,by omega,by rw[aV pk,fF]⟩,by omega⟩
 rw[List.take_of_length_le (by omega)]at h6;by_cases c2:(u.w.length:Int)=aA (aI (ak d.nodes) u.vars);rotate_left
 ·simp only[go_sem,h36,h6,m1,hb2,c2];exact no (fun h=>c2 (h.2 u hum).size) _ ov2
 simp only[go_sem,h36,h6,m1,hb2,c2];refine W.aO 4721790022117341791240 (by rfl) (fun ρ2 H4=>H4=H3/\∃ i:Nat,ρ2 59=aa i/\i<=u.w.length/\ρ2 3=.lit (.bool true)/\∀ w∈u.w.take i,-100<=w/\w<=100) (fun ρ2 H=>u.w.length - (iv (ρ2 59)).toNat) ?_ ?_
 ·simp only[go_sem];exact⟨0,rfl,by omega,by simp⟩
 rintro ρ2 H4 ⟨rfl,i,h59,hi,h3',hw⟩;refine af _ _ _ (by rfl) ?_;have hpr:=sm.prod;by_cases hb3:(i:Int)<u.w.length<;>have hb3':=hb3<;>rw[c2]at hb3'
 ·obtain⟨a,ha⟩:=aq (l:=u.w) (i:=i) (by omega);have ham:=List.mem_of_getElem? ha;have hane:=aL ha;by_cases d1:a >= -100;rotate_left
  ·simp only[go_sem,h59,h3',hb3,hb3',ha,hane,d1];exact no (fun h=>by have:=(h.2 u hum).w a ham;omega) _ ov2
  by_cases d2:a<=100;rotate_left
  ·simp only[go_sem,h59,h3',hb3,hb3',ha,hane,d1,d2];exact no (fun h=>by have:=(h.2 u hum).w a ham;omega) _ ov2
  have w1:=IntWalk.i64_in ((i:Int)+1) (by omega);simp only[go_sem,h59,h3',hb3,hb3',ha,hane,d1,d2,w1];refine⟨⟨i+1,by simp,by omega,fun w hw'=>?_⟩,by omega⟩;rw[aV ha]at hw';rcases List.mem_append.1 hw' with hw'|hw'
  ·exact hw w hw'
  ·obtain rfl:=List.mem_singleton.1 hw';exact⟨by omega,by omega⟩
 ·have w1:=IntWalk.i64_in ((k:Int)+1) (by omega);rw[List.take_of_length_le (by omega)]at hw;simp only[go_sem,h59,h3',e18,hb3',w1];refine⟨by omega,⟨k+1,by simp,by omega,by rw[hH2];exact ov.trans (.ext _ _),fun _=>by omega,fun y hy=>?_⟩,by rw[h18];simp only[aa,aW];omega⟩;rw[aV hu]at hy;rcases List.mem_append.1 hy with hy|hy
  ·exact hall y hy
  ·obtain rfl:=List.mem_singleton.1 hy;exact⟨c1,c2,hw⟩
structure InfOk (d:InfP):Prop where
 n:RightN d
 net:NetOk d.grain (b7 d fun _ _=>0)
 utils:uS d
end Go.Proofs
namespace Go.Proofs
open Go.Hx
theorem yz (g card x:Int):(bV g card x).length=card.toNat:=by simp [bV]
theorem sw {d:InfP}{c:Nat->Nat->Int}{y:NodeP}(h:y∈b7 d c):∃ v x,d.nodes[v]?=some x/\y=eV d c (aE d).length v x:=by
 obtain⟨v,hv⟩:=List.mem_iff_getElem?.1 h;have hl:=aM hv;rw[show (b7 d c).length=d.nodes.length from kG _ _ _]at hl;obtain⟨x,hx⟩:=aq hl;have:=nH (c:=c) (k:=(aE d).length) hx;rw[show dQ d c (aE d).length=b7 d c from rfl,hv]at this;exact⟨v,x,hx,Option.some.inj this⟩
theorem OV {d:InfP}(hf:InfFit d)(hR:RightN d)(c:Nat->Nat->Int):uW (b7 d c):=by
 refine⟨by rw[show (b7 d c).length=d.nodes.length from kG _ _ _];exact hf.nodes.1,fun y hy=>?_⟩;obtain⟨v,x,hx,rfl⟩:=sw hy;have hxm:=List.mem_of_getElem? hx;obtain⟨f1,f2,f3⟩:=hf.nodes.2 x hxm;unfold eV;split
 ·rename_i h;obtain⟨x1,x2⟩:=hR.dec v x hx h.1;have ps:=(lS hR.n1.2 x2 hR.card).prod;have hc:=hR.card x hxm;refine⟨f1,?_,fun r hr=>?_⟩
  ·show ((x.rows++dP d.grain d.nodes c (bn d.decs v) x).length:Int)<_;rw[x1];simp only[dP,List.nil_append,List.length_map,List.length_range,bG];omega
  ·rw[show ({ x with rows:=x.rows++dP d.grain d.nodes c (bn d.decs v) x }:NodeP).rows=x.rows++dP d.grain d.nodes c (bn d.decs v) x from rfl,x1,List.nil_append]at hr;obtain⟨i,_,rfl⟩:=List.mem_map.1 hr;rw[yz];omega
 ·exact⟨f1,f2,f3⟩
theorem CP (d:InfP)(hf:InfFit d)(H:AHeap)(K:ARes->AHeap->Prop)(hK:K (.ret (aa (if kO (InfOk d) then 0 else 200))) H):ae Tryz.prog G0 95 [dI d] H K:=by
 refine ae.clo ⟨_,Tryz.func95,rfl,rfl⟩ fun hcl=>?_;have no:¬ InfOk d->∀ H',Over H H'->au Tryz.prog G0 H K (.lit (.int .i64 200)) H':=fun h H' ov=>au.bE aK hcl ov (.lit _) (by rw[jE h]at hK;exact hK);have hg:InfOk d->1<=d.grain/\d.grain<=60:=fun h=>h.net.g1;refine ae.aT (n:=25) (rs:=[.tmp 2]) Tryz.func95 rfl rfl rfl (by decide) (by kernel_rfl) (by simp) ?_;simp only[go_sem,iu,cz];obtain⟨H1,hH1⟩:∃ H1,H1=ext H [.arr 0 38 [.lit (.int .i64 d.grain),.vec d.nodes.length (aC d.nodes),.lit (.int .u64 (d.decs:Int)),.vec d.utils.length (aS d.utils)]]:=⟨_,rfl⟩
 have l1:H1.live H.next 0=some (38,[.lit (.int .i64 d.grain),.vec d.nodes.length (aC d.nodes),.lit (.int .u64 (d.decs:Int)),.vec d.utils.length (aS d.utils)]):=by rw[hH1];exact ag (cu ..)
 have o1:Over H H1:=by rw[hH1];exact .ext _ _
 rw[<- hH1];by_cases c1:d.grain<1
 ·simp only[go_sem,c1];exact no (fun h=>by have:=hg h;omega) _ o1
 by_cases c2:d.grain > 60
 ·simp only[go_sem,l1,c1,c2];exact no (fun h=>by have:=hg h;omega) _ o1
 simp only[go_sem,l1,c1,c2];refine az.clo (OM d hf _ _ ⟨trivial,?_⟩);by_cases c3:RightN d;rotate_left
 ·rw[jE c3];simp only[go_sem];exact no (fun h=>c3 h.n) _ o1
 rw[eO c3];simp only[go_sem,l1];refine az.clo (CO d hf c3 (fun _ _=>0) _ [] _ (fun i h=>by cases h) rfl rfl (fun p r v x H2 _ hx _ _=>⟨⟨Int.le_refl 0,by have:=c3.card x (List.mem_of_getElem? hx);omega⟩,cI.pure fun H3=>OL _ _ H3 _ ⟨rfl,rfl⟩⟩) _ ⟨trivial,?_⟩);simp only[go_sem];refine az.clo (Ps d.grain _ (OV hf c3 _) _ _ ⟨trivial,?_⟩);by_cases c4:NetOk d.grain (b7 d fun _ _=>0);rotate_left
 ·rw[CW c4];simp only[go_sem];exact no (fun h=>c4 h.net) _ o1
 rw[CV c4];simp only[go_sem,l1];refine az.clo (OU d hf c3.n1.2 c3.card _ _ ⟨trivial,?_⟩);by_cases c5:uS d;rotate_left
 ·rw[jE c5];simp only[go_sem];exact no (fun h=>c5 h.utils) _ o1
 rw[eO c5];simp only[go_sem];rw[eO (⟨c3,c4,c5⟩:InfOk d)]at hK;exact au.bE aK hcl o1 (.lit _) hK
end Go.Proofs
namespace Go.Proofs
open Go.Hx
structure PolOk (d:InfP)(p:List (List Int)):Prop where
 len:p.length=(aE d).length
 row:∀ (k v:Nat) (x:NodeP) (l:List Int),(aE d)[k]?=some v->d.nodes[v]?=some x->p[k]?=some l->l.length=bG d.nodes x/\∀ a∈l,0<=a/\a<x.card
def oX (p:List (List Int)):Prop:=(p.length:Int)<2 ^ 38/\∀ r∈p,(r.length:Int)<2 ^ 38
noncomputable def eC (d:InfP)(p:List (List Int)):Int:=if kO (InfOk d) then (if kO (PolOk d p) then 0 else 201) else 200
set_option maxHeartbeats 2000000 in
theorem yA (d:InfP)(hf:InfFit d)(p:List (List Int))(hp:oX p)(H:AHeap)(K:ARes->AHeap->Prop)(hK:K (.ret (aa (eC d p))) H):ae Tryz.prog G0 64 [dI d,aD p] H K:=by
 refine ae.clo ⟨_,Tryz.func64,rfl,rfl⟩ fun hcl=>?_;refine ae.aT (n:=64) (rs:=[.cell 4 42]) Tryz.func64 rfl rfl rfl (by decide) (by kernel_rfl) (by simp) ?_;simp only[go_sem,iu,cz];obtain⟨H1,hH1⟩:∃ H1,H1=ext H [.arr 0 38 (cz d),.arr 0 33 [aD p],.arr 0 42 [.lit (.int .i64 0)]]:=⟨_,rfl⟩
 have g1:H1.get H.next=some (.arr 0 38 (cz d)):=by rw[hH1];exact cu ..
 have g2:H1.get (H.next+1)=some (.arr 0 33 [aD p]):=by rw[hH1];exact aZ H _ 1 (by simp)
 have g3:H1.get (H.next+2)=some (.arr 0 42 [.lit (.int .i64 0)]):=by rw[hH1];exact aZ H _ 2 (by simp)
 have l1:=ag g1;have l3:=ag g3;have n1:H1.next=H.next+3:=by rw[hH1];rfl
 have o1:Over H H1:=by rw[hH1];exact .ext _ _
 unfold cz at hH1 l1;rw[<- hH1];refine az.clo (CP d hf _ _ ⟨trivial,?_⟩);by_cases hok:InfOk d;rotate_left
 ·rw[jE hok];simp only[go_sem,l3];unfold eC at hK;rw[jE hok]at hK;exact au.bE aK hcl (o1.upd (by omega) _) (.lit _) hK
 rw[eO hok];have hR:=hok.n;have no:¬ PolOk d p->∀ H',Over H H'->au Tryz.prog G0 H K (.lit (.int .i64 201)) H':=fun h H' ov=>au.bE aK hcl ov (.lit _) (by unfold eC at hK;rw[eO hok,jE h]at hK;exact hK);have nb0:H.next≠H1.next:=by omega
 have l1e:∀ L,(ext H1 L).live H.next 0=_:=fun L=>(eU (by omega)).trans l1;simp only[go_sem,l1e];refine az.clo (uO d _ _ ⟨trivial,?_⟩);simp only[go_sem];obtain⟨H2,hH2⟩:∃ H2,H2=ext (ext H1 [.arr 0 3 [.lit (.int .i64 0)]]) [j8 d]:=⟨_,rfl⟩
 rw[<- hH2];have o2:Over H1 H2:=by rw[hH2];exact(Over.ext _ _).trans (.ext _ _)
 have n2:H2.next=H.next+5:=by rw[hH2,bf,bf,n1];rfl
 have hbx:H2.get (H.next+4)=some (j8 d):=by rw[hH2,show H.next+4=(ext H1 [.arr 0 3 [.lit (.int .i64 0)]]).next by rw[bf,n1];rfl];exact bR
 have g6:H2.get (H.next+3)=some (.arr 0 3 [.lit (.int .i64 0)]):=by rw[hH2,dC _ _ _ (by rw[bf,n1];simp),show H.next+3=H1.next by omega];exact bR
 have o02:=o1.trans o2;refine W.env fun E hE=>?_;have e2:E 2=.ptr H.next 0 0:=by rw[hE];simp only[go_sem]
 have e3:E 3=.ptr (H.next+1) 0 0:=by rw[hE];simp only[go_sem]
 have e4:E 4=.ptr (H.next+2) 0 0:=by rw[hE];simp only[go_sem]
 have e6:E 6=.ptr (H.next+3) 0 0:=by rw[hE,<- n1];simp only[go_sem]
 have eN:(ext H1 [.arr 0 3 [.lit (.int .i64 0)]]).next=H.next+4:=by rw[bf,n1];rfl
 have e17:E 17=.clo 131 [] [.ptr (H.next+4) 0 0]:=by rw[hE,<- eN];rfl
 clear hE
  -- what stays as it is
 let S:AHeap->Prop:=fun Hx=>H2.next<=Hx.next/\∀ id,id<H2.next->id≠H.next+3->id≠H.next+2->Hx.get id=H2.get id
 have ovS:∀ {Hx},S Hx->Over H Hx:=fun h=>⟨by have:=h.1;omega,fun id hi=>(h.2 id (by omega) (by omega) (by omega)).trans (o02.old id hi)⟩
 refine W.pj (f:=131) (first:=[]) (cap:=[.ptr (H.next+4) 0 0]) (by show E 17=_;exact e17) (uN d (by have:=hf.nodes.1;omega) hf.decs (H.next+4))
  (fun k Hx=>S Hx/\Hx.get (H.next+2)=some (.arr 0 42 [.lit (.int .i64 0)])/\Hx.get (H.next+3)=some (.arr 0 3 [.lit (.int .i64 k)])/\∀ j v x,j<k->(aE d)[j]?=some v->d.nodes[v]?=some x->∃ l,p[j]?=some l/\l.length=bG d.nodes x/\∀ a∈l,0<=a/\a<x.card)
  (fun c Hx=>c=.ret/\S Hx/\Hx.get (H.next+2)=some (.arr 0 42 [.lit (.int .i64 201)])/\¬ PolOk d p)
  (fun k Hx h=>by rw[h.1.2 _ (by omega) (by omega) (by omega)];exact hbx)
  (fun k Hx b h=>⟨⟨h.1.1,fun id h1 h2 h3=>by rw[aj,if_neg (by omega)];exact h.1.2 id h1 h2 h3⟩,by rw[aj,if_neg (by omega)];exact h.2.1,by rw[aj,if_neg (by omega)];exact h.2.2.1,h.2.2.2⟩)
  (fun c Hx b h=>⟨h.1,⟨h.2.1.1,fun id h1 h2 h3=>by rw[aj,if_neg (by omega)];exact h.2.1.2 id h1 h2 h3⟩,by rw[aj,if_neg (by omega)];exact h.2.2.1,h.2.2.2⟩)
  (fun b=>⟨⟨by rw[bf];omega,fun id h1 h2 h3=>bO h1⟩,by rw[bO (by omega),o2.old _ (by omega)];exact g3,by rw[bO (by omega)];exact g6,fun j v x h=>absurd h (Nat.not_lt_zero _)⟩)
  (by decide) uM (fun _ _ _=>trivial) (fun _ _ _=>trivial) (fun k y Hx B Bb hy hj hn hB hBb=>?_) (fun Hx hj hn=>?_) (fun Hx hs hn=>?_) (fun i Hx hs hn=>by cases hs.1)
 ·obtain⟨v,hv,rfl⟩:=sj hy;obtain⟨v1,v2,v3⟩:=kF hv;obtain⟨x,hx⟩:=aq (l:=d.nodes) (i:=v) v1;obtain⟨x1,x2⟩:=hR.dec v x hx v2;refine af _ _ _ (by rfl) ?_;simp only[go_sem,gV,bh,jn,List.foldl_cons,List.foldl_nil,List.zip_cons_cons,List.zip_nil_right,hB];obtain⟨H3,hH3⟩:∃ H3,H3=Hx.upd H2.next Bb:=⟨_,rfl⟩
  rw[<- hH3];obtain⟨st,pd,n',en,ps',as',bo,hBe⟩:=hBb;have n3:H3.next=Hx.next:=by rw[hH3];rfl
  have o3:∀ id,id≠H2.next->H3.get id=Hx.get id:=fun id h=>by rw[hH3,aj,if_neg h]
  have jB:H3.get H2.next=some Bb:=by rw[hH3,aj,if_pos rfl]
  have hS3:S H3:=⟨by rw[n3];exact hj.1.1,fun id h1 h2 h3=>(o3 id (by omega)).trans (hj.1.2 id h1 h2 h3)⟩
  have j1:=ag ((hS3.2 _ (by omega) (by omega) (by omega)).trans ((o2.old _ (by omega)).trans g1));have j2:=ag ((hS3.2 _ (by omega) (by omega) (by omega)).trans ((o2.old _ (by omega)).trans g2));have j4:=ag ((o3 _ (by omega)).trans hj.2.1);have j6:=ag ((o3 _ (by omega)).trans hj.2.2.1);unfold cz at j1;have ps:=lS hR.n1.2 x2 hR.card;have hin:fK x.parents d.nodes.length:=fun q hq=>by have:=x2.2 q hq;omega
  have hpp:1<=aA (aR d.nodes x):=fG fun c hc=>(mH hin hR.card c hc).1;have hpb:=ps.prod;have hrn:((bG d.nodes x:Nat):Int)=aA (aR d.nodes x):=by unfold bG;omega
  have hvn:(v:Int)<d.nodes.length:=by omega
  have hne:=ep hx;have ec:=je hx;have hkl:=aM hv;have hk8:k<8:=by
   have h1:=jw (D:=d.decs) (n:=d.nodes.length);have h2:=hR.n1.2;have h3:k<(dW d.decs d.nodes.length).length:=hkl;omega
  refine W.env fun E1 hE1=>?_;have m2:E1 2=.ptr H.next 0 0:=by rw[hE1];simp only[go_sem,bh,e2]
  have m3:E1 3=.ptr (H.next+1) 0 0:=by rw[hE1];simp only[go_sem,bh,e3]
  have m4:E1 4=.ptr (H.next+2) 0 0:=by rw[hE1];simp only[go_sem,bh,e4]
  have m6:E1 6=.ptr (H.next+3) 0 0:=by rw[hE1];simp only[go_sem,bh,e6]
  have m7:E1 7=aa k:=by rw[hE1];simp only[go_sem,bh]
  have m8:E1 8=aa v:=by rw[hE1];simp only[go_sem,bh]
  clear hE1;have stop:¬ PolOk d p->(H3.upd (H.next+2) (Blk.arr 0 42 [.lit (.int .i64 201)])).get H2.next=some Bb/\Hx.next<=(H3.upd (H.next+2) (Blk.arr 0 42 [.lit (.int .i64 201)])).next/\S (H3.upd (H.next+2) (Blk.arr 0 42 [.lit (.int .i64 201)])) /\
    (H3.upd (H.next+2) (Blk.arr 0 42 [.lit (.int .i64 201)])).get (H.next+2)=some (.arr 0 42 [.lit (.int .i64 201)])/\¬ PolOk d p:=fun h =>
   ⟨by rw[aj,if_neg (by omega)];exact jB,by rw[aH];omega,⟨by rw[aH];exact hS3.1,fun id h1 h2 h3=>by rw[aj,if_neg h3];exact hS3.2 id h1 h2 h3⟩,by rw[aj,if_pos rfl],h⟩
  refine af _ _ _ (by rfl) ?_;simp only[go_sem];refine W.draw 14 [0,0,2,7,15,31,31,127,255,511,31,1055,31,7199] Tryz.mixed (by kernel_rfl) (by kernel_rfl) ?_;by_cases c1:(k:Int) >= p.length
  ·simp only[go_sem,m3,m4,m7,j2,j4,c1,aD,eE];exact stop fun h=>by have:=h.len;omega
  obtain⟨l,hl⟩:=aq (l:=p) (i:=k) (by omega);have hlm:=List.mem_of_getElem? hl;have hlne:=aL hl;have hkp:(k:Int)<p.length:=by omega
  have hll:=hp.2 l hlm;simp only[go_sem,m2,m3,m7,m8,j1,j2,c1,hkp,hl,hlne,aD];refine⟨.lit (.int .i64 (bG d.nodes x:Nat)),[],cI.pure fun H2=>uV d.nodes v x hx hin ps H2 _ ⟨by rw[hrn];rfl,rfl⟩,?_⟩;by_cases c2:(l.length:Int)=bG d.nodes x;rotate_left
  ·simp only[go_sem,c2,m4,j4,eE];exact stop fun h=>c2 (by have:=(h.row k v x l hv hx hl).1;omega)
  simp only[go_sem,c2,m3,m7,j2,hkp,hl,hlne,aD];refine W.aO 288228177128457216 (by rfl) (fun ρ2 H4=>H4=H3/\∃ i:Nat,ρ2 41=aa i/\i<=l.length/\∀ a∈l.take i,0<=a/\a<x.card) (fun ρ2 H=>l.length - (iv (ρ2 41)).toNat) ?_ ?_
  ·simp only[go_sem];exact⟨0,rfl,by omega,by simp⟩
  rintro ρ2 H4 ⟨rfl,i,h41,hi,hw⟩;refine af _ _ _ (by rfl) ?_;by_cases hb2:(i:Int)<l.length<;>have hb2':=hb2<;>rw[c2]at hb2'
  ·obtain⟨a,ha⟩:=aq (l:=l) (i:=i) (by omega);have ham:=List.mem_of_getElem? ha;have hane:=aL ha;by_cases d1:a<0
   ·simp only[go_sem,h41,hb2,hb2',ha,hane,d1,m4,j4,eE];exact stop fun h=>by have:=(h.row k v x l hv hx hl).2 a ham;omega
   by_cases d2:a >= x.card
   ·simp only[go_sem,h41,hb2,hb2',ha,hane,d1,d2,m2,m4,m8,j1,j4,hvn,hne,ec,eE];exact stop fun h=>by have:=(h.row k v x l hv hx hl).2 a ham;omega
   have w1:=IntWalk.i64_in ((i:Int)+1) (by omega);simp only[go_sem,h41,hb2,hb2',ha,hane,d1,d2,w1,m2,m8,j1,hvn,hne,ec];refine⟨⟨_,_,_,_,_,_,_,by rw[jB,hBe]⟩,⟨i+1,by simp,by omega,fun w hw'=>?_⟩,by omega⟩;rw[aV ha]at hw';rcases List.mem_append.1 hw' with hw'|hw'
   ·exact hw w hw'
   ·obtain rfl:=List.mem_singleton.1 hw';exact⟨by omega,by omega⟩
  ·rw[List.take_of_length_le (by omega)]at hw;have w1:=IntWalk.i64_in ((k:Int)+1) (by omega);simp only[go_sem,h41,hb2',m6,j6,w1,eE];refine⟨by rw[aj,if_neg (by omega)];exact jB,by rw[aH];omega,⟨by rw[aH];exact hS3.1,fun id h1 h2 h3=>by rw[aj,if_neg h2];exact hS3.2 id h1 h2 h3⟩,by rw[aj,if_neg (by omega),o3 _ (by omega)];exact hj.2.1,by rw[aj,if_pos rfl];simp,fun j u z hj2 hu hz=>?_⟩;rcases Nat.lt_or_ge j k with hjk|hjk
   ·exact hj.2.2.2 j u z hjk hu hz
   ·obtain rfl:j=k:=(by omega);rw[hv]at hu;cases hu;rw[hx]at hz;cases hz;exact⟨l,hl,by omega,hw⟩
 ·rw[sk]at hj;have j2:=ag ((hj.1.2 _ (by omega) (by omega) (by omega)).trans ((o2.old _ (by omega)).trans g2));have j4:=ag hj.2.1;have j6:=ag hj.2.2.1;by_cases c3:(p.length:Int)=(aE d).length;rotate_left
  ·simp only[go_sem,e3,e4,e6,j2,j4,j6,c3,aD];exact no (fun h=>c3 (by have:=h.len;omega)) _ ((ovS hj.1).upd (by omega) _)
  have hpo:PolOk d p:=⟨by omega,fun k v x l h1 h2 h3=>by
   obtain⟨l',h4,h5⟩:=hj.2.2.2 k v x (aM h1) h1 h2;rw[h3]at h4;cases h4;exact h5⟩
  simp only[go_sem,e3,e4,e6,j2,j4,j6,c3,aD];unfold eC at hK;rw[eO hok,eO hpo]at hK;exact au.bE aK hcl ((ovS hj.1).upd (by omega) _) (.lit _) hK
 ·obtain⟨_,hS,h4,hno⟩:=hs;have j4:=ag h4;simp only[go_sem,e4,j4];exact no hno _ (ovS hS)
end Go.Proofs
namespace Go.Proofs
open Go.Hx
def fixC (p:List (List Int))(k r:Nat):Int:=(p.getD k []).getD r 0
theorem OW (p:List (List Int))(k r b:Nat)(l:List Int)(a:Int)(hl:p[k]?=some l)(ha:l[r]?=some a)(H:AHeap)(hb:H.get b=some (.arr 0 33 [aD p]))(K:ARes->AHeap->Prop)(hK:K (.ret (.lit (.int .i64 a))) H):
  ae Tryz.prog G0 121 [.lit (.int .i64 k),.lit (.int .i64 r),.ptr b 0 0] H K:=by
 have l0:=ag hb;have h1:(k:Int)<p.length:=by have:=aM hl;omega
 have h2:(r:Int)<l.length:=by have:=aM ha;omega
 have n1:=aL hl;have n2:=aL ha;refine ae.aT (n:=13) (rs:=[.tmp 5]) Tryz.func121 rfl rfl rfl (by decide) (by kernel_rfl) (by simp) ?_;simp only[go_sem,l0,aD,h1,h2,hl,ha,n1,n2];exact au.mk (Nat.le_refl _) hK
theorem OX (p:List (List Int))(k r b:Nat)(l:List Int)(a:Int)(hl:p[k]?=some l)(ha:l[r]?=some a)(H:AHeap)(hlt:b<H.next)(hb:H.get b=some (.arr 0 33 [aD p])):
  cI Tryz.prog G0 (.clo 121 [] [.ptr b 0 0]) [.lit (.int .i64 k),.lit (.int .i64 r)] H (.lit (.int .i64 a)) [b] :=
 cI.mk (fun i hi=>by obtain rfl:=List.mem_singleton.1 hi;exact hlt) fun H2 h2 _=>OW p k r b l a hl ha H2 ((h2 b (by simp)).trans hb) _ ⟨rfl,rfl⟩
theorem CQ {d:InfP}{p:List (List Int)}(h:PolOk d p){k v r:Nat}{x:NodeP}(hv:(aE d)[k]?=some v)(hx:d.nodes[v]?=some x)(hr:r<bG d.nodes x):
  ∃ l a,p[k]?=some l/\l[r]?=some a/\fixC p k r=a/\0<=a/\a<x.card:=by
 obtain⟨l,hl⟩:=aq (l:=p) (i:=k) (by rw[h.len];exact aM hv);obtain⟨h1,h2⟩:=h.row k v x l hv hx hl;obtain⟨a,ha⟩:=aq (l:=l) (i:=r) (by omega);exact⟨l,a,hl,ha,by unfold fixC;rw[bJ hl,bJ ha],h2 a (List.mem_of_getElem? ha)⟩
def sy:AVal:=.agg [.lit (.int .i64 0),.vec 0 []]
noncomputable def sA (d:InfP)(p:List (List Int)):AVal:=if eC d p=0 then da d.grain (b7 d (fixC p)) else sy
theorem yB {d:InfP}{p:List (List Int)}:eC d p=0↔InfOk d/\PolOk d p:=by
 unfold eC;by_cases h1:InfOk d
 ·by_cases h2:PolOk d p
  ·rw[eO h1,eO h2];exact⟨fun _=>⟨h1,h2⟩,fun _=>rfl⟩
  ·rw[eO h1,jE h2];exact⟨fun h=>by simp at h,fun h=>absurd h.2 h2⟩
 ·rw[jE h1];exact⟨fun h=>by simp at h,fun h=>absurd h.1 h1⟩
theorem OY (d:InfP)(hf:InfFit d)(p:List (List Int))(hp:oX p)(H:AHeap)(K:ARes->AHeap->Prop)(hK:K (.ret (.tup [sA d p,aa (eC d p)])) H):ae Tryz.prog G0 80 [dI d,aD p] H K:=by
 refine ae.clo ⟨_,Tryz.func80,rfl,rfl⟩ fun hcl=>?_;refine ae.aT (n:=17) (rs:=[.cell 4 103,.tmp 5]) Tryz.func80 rfl rfl rfl (by decide) (by kernel_rfl) (by simp) ?_;simp only[go_sem,iu,cz];obtain⟨H1,hH1⟩:∃ H1,H1=ext H [.arr 0 38 [.lit (.int .i64 d.grain),.vec d.nodes.length (aC d.nodes),.lit (.int .u64 (d.decs:Int)),.vec d.utils.length (aS d.utils)],.arr 0 33 [aD p],.arr 0 103 [.lit (.int .i64 0),.lit (.slice none 0 0)]]:=⟨_,rfl⟩
 have g1:H1.get H.next=some (.arr 0 38 [.lit (.int .i64 d.grain),.vec d.nodes.length (aC d.nodes),.lit (.int .u64 (d.decs:Int)),.vec d.utils.length (aS d.utils)]):=by rw[hH1];exact cu ..
 have g2:H1.get (H.next+1)=some (.arr 0 33 [aD p]):=by rw[hH1];exact aZ H _ 1 (by simp)
 have g3:H1.get (H.next+2)=some (.arr 0 103 [.lit (.int .i64 0),.lit (.slice none 0 0)]):=by rw[hH1];exact aZ H _ 2 (by simp)
 have l1:=ag g1;have l2:=ag g2;have l3:=ag g3;have n1:H1.next=H.next+3:=by rw[hH1];rfl
 have o1:Over H H1:=by rw[hH1];exact .ext _ _
 rw[<- hH1];refine az.clo (yA d hf p hp _ _ ⟨trivial,?_⟩);by_cases hz:eC d p=0;rotate_left
 ·have hcell:(AVal.lit (.int .i64 (eC d p))).cells=[.lit (.int .i64 (eC d p))]:=rfl;simp only[go_sem,hz,l3];have ef:sA d p=sy:=if_neg hz;rw[ef]at hK;refine au.bE (v':=.tup [sy,aa (eC d p)]) aK hcl (o1.upd (by omega) _) (.tup rfl fun i hi _=>?_) hK
  match i,hi with
  | 0,_ =>
   refine .agg rfl fun i hi _=>?_
   match i,hi with
   | 0,_=>exact .lit _
   | 1,_=>exact .nil
  | 1,_=>exact .lit _
 obtain⟨hok,hpo⟩:=yB.1 hz;rw[hz]at hK ⊢;simp only[go_sem,l1];refine az.clo (CO d hf hok.n (fixC p) _ [H.next+1] _ (fun i hi=>by obtain rfl:=List.mem_singleton.1 hi;omega) rfl rfl (fun k r v x H2 hv hx hr ov=>?_) _ ⟨trivial,?_⟩)
 ·obtain⟨l,a,hl,ha,he,hb⟩:=CQ hpo hv hx hr;rw[he];exact⟨hb,OX p k r (H.next+1) l a hl ha H2 (by have:=ov.next;omega) ((ov.old _ (by omega)).trans g2)⟩
 ·simp only[go_sem,l3,da,dw];have ef:sA d p=da d.grain (b7 d (fixC p)):=if_pos hz;rw[ef]at hK;refine au.bE (v':=.tup [da d.grain (b7 d (fixC p)),aa 0]) aK hcl (o1.upd (by omega) _) (.tup rfl fun i hi _=>?_) hK
  match i,hi with
  | 0,_ =>
   refine .agg rfl fun i hi _=>?_
   match i,hi with
   | 0,_=>exact .lit _
   | 1,_=>exact qL _
  | 1,_=>exact .lit _
end Go.Proofs
namespace Go.Hx
variable {P:Program} {G:Nat->Option (List AVal)} {n:Nat} {rd:Option Nat} {Q:AX->St->Prop}
def vG (N:Nat)(H1 H2:AHeap):Prop:=H1.next<=H2.next/\∀ id,id≠N->id<H1.next->H2.get id=H1.get id
def DP (P:Program)(G:Nat->Option (List AVal))(f:FuncId)(first cap:List AVal)(xs:List (List AVal))(N:Nat)(S0:AHeap->Prop)(S:Nat->AHeap->Prop):Prop :=
 ∀ (idy:Nat) (J:Nat->AHeap->Prop) (Stop:AHeap->Prop) (H:AHeap) (K:ARes->AHeap->Prop),H.next=N ->
  (∀ k H1,J k H1->S0 H1)->(∀ k H1 H2,J k H1->vG N H1 H2->J k H2)->J 0 H ->
  (∀ k x H1 K1,xs[k]?=some x->J k H1->S k H1->N<H1.next->(∀ H',J (k+1) H'->S k H'->H1.next<=H'.next->K1 (.ret (.lit (.bool true))) H')->(∀ H',Stop H'->H1.next<=H'.next->K1 (.ret (.lit (.bool false))) H')->az P G (.yld idy) x H1 K1) ->
  (∀ H',J xs.length H'->N<=H'.next->K (.ret (.tup [])) H') ->
  (∀ H',Stop H'->N<=H'.next->K (.ret (.tup [])) H') ->
  ae P G f (first++[.yld idy]++cap) H K
theorem W.sU {g:Operand}{ps:Array Tmp}{asg body:Code}{ρ:Env}{H:AHeap}{f:FuncId}{first cap:List AVal}{xs:List (List AVal)}{S0:AHeap->Prop}{S:Nat->AHeap->Prop}(hg:ay G ρ g=.clo f first cap)
  (hit:DP P G f first cap xs (H.next+1) S0 S) (J:Nat->AHeap->Prop) (Stop:AX->AHeap->Prop) (hS:∀ k H1,J k H1->S0 H1) (hJw:∀ k H1 H2,J k H1->vG (H.next+1) H1 H2->J k H2) (hlow:∀ k H1,J k H1->H.next<H1.next)
  (hJu:∀ k H1 b,J k H1->J k (H1.upd H.next b)) (hSu:∀ c H1 b,Stop c H1->Stop c (H1.upd H.next b)) (hSk:∀ k H1 b,S k H1->S k (H1.upd H.next b))
  (hJ0:∀ b,J 0 (ext H [b])) (hps:ps.toList.all (fun t=>decide (t<n))=true) (hxl:∀ x∈xs,x.length=ps.size)
  (hrd:∀ k H1,J k H1->fh H1 rd) (hrd2:∀ c H1,Stop c H1->fh H1 rd)
  (hround:∀ k x H1 B Bb,xs[k]?=some x->J k H1->S k H1->H.next+1<H1.next->H1.get H.next=some B->(∃ st pd n' en ps' as' bo,Bb=Blk.loop st pd n' en ps' as' bo) ->
   W P G n (some H.next) asg (jn P G n H.next B Bb H1.next body (fun H'=>J (k+1) H'/\S k H') Stop) ⟨gV (bh ρ n) (ps.toList.zip x),H1⟩)
  (hend:∀ H',J xs.length H'->H.next+1<=H'.next->Q .normal ⟨ρ,H'⟩)
  (hret:∀ H',Stop .ret H'->H.next+1<=H'.next->Q .ret ⟨ρ,H'⟩) (hexit:∀ i H',Stop (.exit i) H'->H.next+1<=H'.next->Q (.exit i) ⟨ρ,H'⟩):
  W P G n rd (.rangeFunc g ps asg body) Q ⟨ρ,H⟩:=by
 refine W.rangeFunc (s:=⟨ρ,H⟩) hg ⟨_,tJ _ _,?_⟩;obtain⟨B,hB⟩:∃ B,B=Blk.loop .ready none n ρ ps asg body:=⟨_,rfl⟩
 obtain⟨Bb,hBb⟩:∃ B,B=Blk.loop .busy none n ρ ps asg body:=⟨_,rfl⟩
 have nx:(ext H [B]).next=H.next+1:=rfl;show ae P G f (first++[.yld H.next]++cap) (ext H [Blk.loop .ready none n ρ ps asg body]) (wV rd Q ρ H.next);rw[<- hB];refine hit H.next (fun k H1=>H1.get H.next=some B/\J k H1) (fun H1=>∃ c pend,H1.get H.next=some (.loop .done (some pend) n ρ ps asg body)/\Stop c H1/\((c=.ret/\pend=.ret)\/∃ i,c=.exit i/\pend=.exit i)) _ _ nx
  (fun k H1 h=>hS k H1 h.2) (fun k H1 H2 h hw=>⟨(hw.2 _ (by omega) (hlow _ _ h.2)).trans h.1,hJw _ _ _ h.2 hw⟩) ⟨bR,hJ0 B⟩ (fun k x H1 K1 hx hj hs hn hgo hst=>?_) (fun H' hj hn=>?_) (fun H' hj hn=>?_)
 ·have hxm:=hxl x (List.mem_of_getElem? hx);refine az.yld (hj.1.trans (congrArg some hB)) hxm hps ?_;refine(hround k x H1 B Bb hx hj.2 hs hn hj.1 ⟨_,_,_,_,_,_,_,hBb⟩).mono fun e s1 h1=>?_;cases e with
  | normal =>
   obtain⟨a1,a2⟩:=h1;refine⟨Bb,by rw[a1,hB,hBb];rfl,?_⟩;refine a2.mono fun e2 s2 h2=>?_;cases e2 with
   | normal =>
    obtain⟨b1,b2,b3,b4⟩:=h2;exact⟨B,by rw[b1,hB,hBb];rfl,hgo _ ⟨by rw[aj,if_pos rfl],hJu _ _ _ b3⟩ (hSk _ _ _ b4) b2⟩
   | ret =>
    obtain⟨b1,b2,b3⟩:=h2;exact⟨.loop .done (some .ret) n ρ ps asg body,by rw[b1,hBb];rfl,hst _ ⟨.ret,.ret,by rw[aj,if_pos rfl],hSu _ _ _ b3,.inl ⟨rfl,rfl⟩⟩ b2⟩
   | exit i =>
    obtain⟨b1,b2,b3⟩:=h2;exact⟨.loop .done (some (.exit i)) n ρ ps asg body,by rw[b1,hBb];rfl,hst _ ⟨.exit i,.exit i,by rw[aj,if_pos rfl],hSu _ _ _ b3,.inr ⟨i,rfl,rfl⟩⟩ b2⟩
   | _=>exact h2.elim
  | _=>exact h1.elim
 ·refine⟨hrd _ _ hj.2,(none,.loop .exhausted none n ρ ps asg body),by rw[hj.1,hB];rfl,?_⟩;exact hend _ (hJu _ _ _ hj.2) hn
 ·obtain⟨c,pend,h1,h2,h3⟩:=hj;refine⟨hrd2 _ _ h2,(some pend,.loop .exhausted (some pend) n ρ ps asg body),by rw[h1];rfl,?_⟩;rcases h3 with ⟨rfl,rfl⟩|⟨i,rfl,rfl⟩
  ·exact hret _ (hSu _ _ _ h2) hn
  ·exact hexit i _ (hSu _ _ _ h2) hn
end Go.Hx
namespace Go.Proofs
open Go.Hx
theorem OZ:∀ {cs vs:List Int} {k:Nat} {c v:Int},vs.length=cs.length->cs[k]?=some c->vs[k]?=some v->v+1<c->(∀ (j:Nat) (a b:Int),k<j->cs[j]?=some a->vs[j]?=some b->b=a - 1) ->
  kB cs vs=some (vs.take k++(v+1) :: (cs.drop (k+1)).map fun _=>0):=by
 have none_of:∀ {cs vs:List Int},vs.length=cs.length->(∀ (j:Nat) (a b:Int),cs[j]?=some a->vs[j]?=some b->b=a - 1)->kB cs vs=none:=by
  intro cs
  induction cs with
  | nil=>intro vs _ _;cases vs<;>rfl
  | cons c cs ih =>
   intro vs hl h;cases vs with
   | nil=>rfl
   | cons v vs =>
    have h1:=ih (vs:=vs) (by simpa using hl) fun j a b ha hb=>h (j+1) a b (by simpa using ha) (by simpa using hb);have h2:=h 0 c v rfl rfl;simp only[kB,h1];rw[if_neg (by omega)]
 intro cs
 induction cs with
 | nil=>intro vs k c v _ h;simp at h
 | cons x cs ih =>
  intro vs k c v hl hc hv hlt hmax;cases vs with
  | nil=>simp at hv
  | cons y vs =>
   cases k with
   | zero =>
    simp only[List.getElem?_cons_zero,Option.some.injEq]at hc hv;subst hc;subst hv;have h1:=none_of (cs:=cs) (vs:=vs) (by simpa using hl) fun j a b ha hb=>hmax (j+1) a b (by omega) (by simpa using ha) (by simpa using hb);simp only[kB,h1];rw[if_pos hlt];simp
   | succ k =>
    have h1:=ih (vs:=vs) (k:=k) (by simpa using hl) (by simpa using hc) (by simpa using hv) hlt fun j a b hj ha hb=>hmax (j+1) a b (by omega) (by simpa using ha) (by simpa using hb);simp only[kB,h1];simp
theorem O0:∀ {cs vs:List Int},vs.length=cs.length->(∀ (j:Nat) (a b:Int),cs[j]?=some a->vs[j]?=some b->b=a - 1)->kB cs vs=none:=by
 intro cs
 induction cs with
 | nil=>intro vs _ _;cases vs<;>rfl
 | cons c cs ih =>
  intro vs hl h;cases vs with
  | nil=>rfl
  | cons v vs =>
   have h1:=ih (vs:=vs) (by simpa using hl) fun j a b ha hb=>h (j+1) a b (by simpa using ha) (by simpa using hb);have h2:=h 0 c v rfl rfl;simp only[kB,h1];rw[if_neg (by omega)]
def lO (cards:List Int)(N:Nat):List (List AVal):=(List.range (aA cards).toNat).map fun (i:Nat)=>[aa (i:Int),.own N 0 0 cards.length 1]
theorem lP {cards:List Int}{N k:Nat}{x:List AVal}(h:(lO cards N)[k]?=some x):k<(aA cards).toNat/\x=[aa k,.own N 0 0 cards.length 1]:=by
 unfold lO at h;rw[List.getElem?_map]at h;have hk:k<(aA cards).toNat:=by
  rcases Nat.lt_or_ge k (aA cards).toNat with h1|h1
  ·exact h1
  ·rw[List.getElem?_eq_none (by simpa using h1)]at h;simp at h
 rw[List.getElem?_range hk]at h;simp at h;exact⟨hk,h.symm⟩
theorem O1 {cards:List Int}{N k:Nat}(h:k<(aA cards).toNat):(lO cards N)[k]?=some [aa k,.own N 0 0 cards.length 1]:=by
 unfold lO;rw[List.getElem?_map,List.getElem?_range h];rfl
theorem qH (cards:List Int)(N:Nat):(lO cards N).length=(aA cards).toNat:=by simp [lO]
def kP (cards:List Int)(N k:Nat)(H:AHeap):Prop:=H.get N=some (.arr 0 3 (ints (bT cards k)))
set_option maxHeartbeats 1000000 in
theorem sB (cards:List Int)(hc1:∀ c∈cards,1<=c)(hs:dS cards)(b N:Nat)(hbN:b<N):
  DP Tryz.prog G0 143 [] [.ptr b 0 0] (lO cards N) N (fun H=>H.get b=some (.arr 0 46 [ah cards])) (kP cards N):=by
 intro idy J Stop H K hN hS0 hJw hJ0 hY hK hSt;have l0:=ag (hS0 0 H hJ0);have h12:=hs.1;have hpp:=hs.prod;have hp1:=fG hc1;show ae _ _ _ ([.yld idy]++[.ptr b 0 0]) _ _;refine ae.aT (n:=45) (rs:=[]) Tryz.func143 rfl rfl rfl (by decide) (by kernel_rfl) (by simp) ?_;simp only[go_sem,l0];refine⟨by omega,?_⟩;have fitI:∀ i:Nat,bY cards (bT cards i):=fun i=>qe hc1 _;have idxI:∀ i:Nat,i<(aA cards).toNat->bS cards (bT cards i)=i:=fun i hi=>xD hc1 (by omega) (by omega);subst hN;refine W.aO 35184372088368 (by rfl) (fun ρ H'=>∃ i:Nat,ρ 4=aa i/\i<(aA cards).toNat/\J i H'/\kP cards H.next i H'/\H.next+1<=H'.next) (fun ρ H=>(aA cards).toNat - (iv (ρ 4)).toNat) ?_ ?_
 ·simp only[go_sem];refine⟨0,rfl,by omega,hJw 0 H _ hJ0 ⟨by rw[bf];omega,fun id _ h=>dC _ _ _ h⟩,?_⟩;show (ext H _).get H.next=_;rw[cu];have:bT cards ((0:Nat):Int)=List.replicate cards.length 0:=by
   rw[show ((0:Nat):Int)=0 from rfl,A8 hc1];exact List.map_const' ..
  rw[this];simp [ints,aa]
 rintro ρ H' ⟨i,h4,hi,hj,hcs,hn⟩;refine W.env fun E hE=>?_;have e1:E 1=.ptr b 0 0:=by rw[hE];simp only[go_sem]
 have e0:E 0=.yld idy:=by rw[hE];simp only[go_sem]
 have e3:E 3=.own H.next 0 0 cards.length 1:=by rw[hE];simp only[go_sem]
 have e4:E 4=aa i:=by rw[hE];simp only[go_sem,h4]
 clear hE;refine af _ _ _ (by rfl) ?_;simp only[go_sem,e0,e3,e4];refine hY i [aa i,.own H.next 0 0 cards.length 1] H' _ (O1 hi) hj hcs (by omega) (fun H2 hj2 hcs2 hn2=>⟨trivial,?_⟩) (fun H2 hs2 hn2=>⟨trivial,?_⟩);rotate_left
 ·simp only[go_sem];exact au.mk (by omega) (hSt H2 hs2 (by omega))
 have hb2:=hS0 _ _ hj2;have lb:=ag hb2;have w0:=IntWalk.i64_in ((cards.length:Int) - 1) (by omega);obtain⟨vs,hvs⟩:∃ vs,vs=bT cards i:=⟨_,rfl⟩
 have hvl:vs.length=cards.length:=by rw[hvs,ue]
 have hfit:bY cards vs:=by rw[hvs];exact fitI i
 have hsucc:=Mt hfit;rw[show bS cards vs=i from by rw[hvs];exact idxI i hi]at hsucc;simp only[go_sem,e1,lb,w0];refine W.aO 137438691360 (by rfl) (fun ρ2 H4=>∃ m:Nat,ρ2 5=aa ((m:Int) - 1)/\m<=cards.length/\vG H.next H2 H4/\H4.get H.next=some (.arr 0 3 (ints (vs.take m++(cards.drop m).map fun _=>0)))/\(∀ (j:Nat) (a b:Int),m<=j->cards[j]?=some a->vs[j]?=some b->b=a - 1))
  (fun ρ2 H=>(iv (ρ2 5)+1).toNat) ?_ ?_
 ·simp only[go_sem];refine⟨cards.length,rfl,by omega,⟨Nat.le_refl _,fun _ _ _=>rfl⟩,?_,fun j a b hm ha=>?_⟩
  ·have hg:H2.get H.next=_:=hcs2;rw[<- hvs]at hg;rw[hg,List.take_of_length_le (by omega),List.drop_of_length_le (by omega)];simp
  ·have:=aM ha;omega
 rintro ρ2 H4 ⟨m,h5,hm,hw,hg,hmax⟩;refine W.env fun E2 hE2=>?_;have f1:E2 1=.ptr b 0 0:=by rw[hE2];simp only[go_sem,e1]
 have f3:E2 3=.own H.next 0 0 cards.length 1:=by rw[hE2];simp only[go_sem,e3]
 have f4:E2 4=aa i:=by rw[hE2];simp only[go_sem,e4]
 have f5:E2 5=aa ((m:Int) - 1):=by rw[hE2];simp only[go_sem,h5]
 clear hE2;refine af _ _ _ (by rfl) ?_;have hw1:=hw.1;have lN:=ag hg;have lb4:=ag ((hw.2 b (by omega) (by omega)).trans hb2);have hj4:J (i+1) H4:=hJw _ _ _ hj2 hw;have clen:(vs.take m++(cards.drop m).map fun _=>(0:Int)).length=cards.length:=by simp;omega
 by_cases hm0:m=0
 ·subst hm0;have f5':E2 5=aa (-1):=f5;have hnone:=O0 hvl fun j a b ha hb=>hmax j a b (Nat.zero_le _) ha hb;rw[hnone]at hsucc;have htot:¬ (i:Int)+1<aA cards:=fun h=>by rw[if_pos h]at hsucc;cases hsucc
  have hti:i+1=(lO cards H.next).length:=by rw[qH];omega
  simp only[go_sem];refine W.draw 12 [0,1,3,7,7,31,63,7,7,391,903,1927] Tryz.mixed (by kernel_rfl) (by kernel_rfl) ?_;simp only[go_sem,f5'];exact au.mk (by omega) (hK H4 (by rw[<- hti];exact hj4) (by omega))
 obtain⟨k,rfl⟩:∃ k,m=k+1:=⟨m - 1,by omega⟩
 have f5':E2 5=aa k:=by rw[f5];congr 1;omega
 obtain⟨c,hck⟩:=aq (l:=cards) (i:=k) (by omega);obtain⟨v,hvk⟩:=aq (l:=vs) (i:=k) (by omega);have hne:=aL hck;have hr:=hfit.2 k c v hck hvk;have hcs8:=hs.2 c (List.mem_of_getElem? hck);have hvk':(vs.take (k+1)++(cards.drop (k+1)).map fun _=>(0:Int))[k]?=some v:=by
  rw[List.getElem?_append_left (by simp;omega),List.getElem?_take_of_lt (by omega)];exact hvk
 have hk0:(k:Int) >= 0:=by omega
 have hkc:(k:Int)<cards.length:=by omega
 have w1:=IntWalk.i64_in (c - 1) (by omega);have w2:=IntWalk.i64_in ((k:Int) - 1) (by omega);have w3:=IntWalk.i64_in (v+1) (by omega);have w4:=IntWalk.i64_in ((i:Int)+1) (by omega);have hk1:¬ (k:Int)<0:=by omega
 by_cases hv:v=c - 1
 ·simp only[go_sem];refine W.draw 12 [0,1,3,7,7,31,63,7,7,391,903,1927] Tryz.mixed (by kernel_rfl) (by kernel_rfl) ?_;simp only[go_sem,f1,f3,f5',hk0,hkc,lN,lb4,hvk',hck,hne,w1,w2,hv];refine⟨by rw[<- List.length_append,clen];omega,by rw[aH];omega,⟨k,rfl,by omega,⟨by rw[aH];exact hw.1,fun id h1 h2=>by rw[aj,if_neg h1];exact hw.2 id h1 h2⟩,?_,fun j a b hj ha hb=>?_⟩,?_⟩
  ·rw[aj,if_pos rfl,gH (by rw[clen];omega)];congr 3;rw[aV hvk,List.append_assoc,List.set_append_right _ _ (by simp;omega),Mq hck];simp;rw[show k - min k vs.length=0 by omega];rfl
  ·rcases Nat.lt_or_ge k j with h|h
   ·exact hmax j a b (by omega) ha hb
   ·obtain rfl:j=k:=(by omega);rw[hck]at ha;rw[hvk]at hb;cases ha;cases hb;exact hv
  ·rw[h5];simp only[aa,aW];omega
 ·simp only[go_sem];refine W.draw 12 [0,1,3,7,7,31,63,7,7,391,903,1927] Tryz.mixed (by kernel_rfl) (by kernel_rfl) ?_;simp only[go_sem,f1,f3,f4,f5',hk0,hk1,hkc,lN,lb4,hvk',hck,hne,w1,w3,w4,hv];have hat:=OZ hvl hck hvk (by omega) fun j a b hj ha hb=>hmax j a b (by omega) ha hb;rw[hat]at hsucc;have hlt:(i:Int)+1<aA cards:=by
   refine Classical.byContradiction fun h=>?_;rw[if_neg h]at hsucc;cases hsucc
  rw[if_pos hlt]at hsucc;have hw5:vG H.next H2 (H4.upd H.next (.arr 0 3 (setAt (ints (vs.take (k+1)++(cards.drop (k+1)).map fun _=>(0:Int))) k [.lit (.int .i64 (v+1))]))):=⟨by rw[aH];exact hw.1,fun id h1 h2=>by rw[aj,if_neg h1];exact hw.2 id h1 h2⟩
  refine⟨by rw[<- List.length_append,clen];omega,by rw[aH];omega,⟨i+1,by simp,by omega,hJw _ _ _ hj2 hw5,?_,by rw[aH];omega⟩,?_⟩
  ·show (H4.upd H.next _).get H.next=_;rw[aj,if_pos rfl,gH (by rw[clen];omega)];congr 3;have e:bT cards ((i+1:Nat):Int)=vs.take k++(v+1) :: (cards.drop (k+1)).map fun _=>0:=by
    have:=Option.some.inj hsucc;rw[show ((i+1:Nat):Int)=(i:Int)+1 by omega];exact this.symm
   rw[e,aV hvk,List.append_assoc,List.set_append_right _ _ (by simp;omega)];simp;rw[show k - min k vs.length=0 by omega];rfl
  ·rw[h4];simp only[aa,aW];omega
theorem sC (cards:List Int)(H:AHeap)(K:ARes->AHeap->Prop)(hK:K (.ret (.clo 143 [] [.ptr H.next 0 0])) (ext H [.arr 0 46 [ah cards]])):
  ae Tryz.prog G0 118 [ah cards] H K:=by
 refine ae.aT (n:=4) (rs:=[.tmp 2]) Tryz.func118 rfl rfl rfl (by decide) (by kernel_rfl) (by simp) ?_;simp only[go_sem];exact au.mk (by simp [bf]) hK
end Go.Proofs
/-
  Weights of worlds, utilities, sums. Plain: no program stands in this text. No conditions.
-/
namespace Go.Proofs
open Go.Hx
def nJ (ns:List NodeP)(x:NodeP)(vals:List Int):List Int:=x.rows.getD (bS (aR ns x) (aI vals x.parents)).toNat []
def lG (ns:List NodeP)(vals:List Int)(v:Nat):Int:=match ns[v]? with
 | some x=>(nJ ns x vals).getD (vals.getD v 0).toNat 0
 | none=>1
def fT (ns:List NodeP)(vals:List Int):List Int:=(List.range ns.length).map (lG ns vals)
def weight (ns:List NodeP)(vals:List Int):Int:=aA (fT ns vals)
def bH (ns:List NodeP):Nat:=(aA (ak ns)).toNat
def eW (ns:List NodeP):List Int:=(List.range (bH ns)).map fun (i:Nat)=>weight ns (bT (ak ns) (i:Int))
def mq (ns:List NodeP)(vals:List Int)(u:UtilP):Int:=u.w.getD (bS (aI (ak ns) u.vars) (aI vals u.vars)).toNat 0
def bL (ns:List NodeP)(us:List UtilP)(vals:List Int):Int:=(us.map (mq ns vals)).sum
def gW (ns:List NodeP)(us:List UtilP)(k:Nat):Int:=((List.range k).map fun (i:Nat)=>weight ns (bT (ak ns) i)*bL ns us (bT (ak ns) i)).sum
theorem Bj (ns:List NodeP)(us:List UtilP)(k:Nat):gW ns us (k+1)=gW ns us k+weight ns (bT (ak ns) k)*bL ns us (bT (ak ns) k):=by
 unfold gW;rw[List.range_succ];simp
theorem uk (ns:List NodeP)(vals:List Int):(fT ns vals).length=ns.length:=by simp [fT]
theorem Bk {ns:List NodeP}{vals:List Int}{v:Nat}(h:v<ns.length):(fT ns vals)[v]?=some (lG ns vals v):=by
 unfold fT;rw[List.getElem?_map,List.getElem?_range h];rfl
end Go.Proofs
namespace Go.Proofs
open Go.Hx
theorem qI {ns:List NodeP}{x:NodeP}{vals:List Int}(hin:fK x.parents ns.length)(hf:bY (ak ns) vals):bY (aR ns x) (aI vals x.parents):=by
 refine⟨by unfold aR;rw[gJ,gJ],fun k c v h1 h2=>?_⟩;obtain⟨q,hq⟩:=aq (l:=x.parents) (i:=k) (by have:=aM h2;rw[gJ]at this;exact this);obtain⟨j,rfl,y,hy⟩:=mm (l:=ns) (hin q (List.mem_of_getElem? hq)).1 (hin q (List.mem_of_getElem? hq)).2;obtain⟨b,hb⟩:=aq (l:=vals) (i:=j) (by rw[hf.1,dc];exact aM hy);have e1:(aR ns x)[k]?=some y.card:=by rw[show (aR ns x)[k]?=_ from jF hq,Int.toNat_natCast,bJ (cU hy)]
 have e2:(aI vals x.parents)[k]?=some b:=by rw[jF hq,Int.toNat_natCast,bJ hb]
 rw[h1]at e1;rw[h2]at e2;cases e1;cases e2;exact hf.2 j y.card _ (cU hy) hb
structure RowAtW (g:Int)(ns:List NodeP)(x:NodeP)(vals:List Int)(v:Nat)(i:Nat)(r:List Int)(a w:Int):Prop where
 idx:bS (aR ns x) (aI vals x.parents)=i
 row:x.rows[i]?=some r
 val:vals[v]?=some a
 a0:0<=a
 hw:r[a.toNat]?=some w
 wb:0<=w/\w<=g
 eq:lG ns vals v=w
 rv:nJ ns x vals=r
 len:(r.length:Int)=x.card
 al:a<r.length
theorem uT {g:Int}{ns:List NodeP}(h:NetOk g ns){v:Nat}{x:NodeP}(hx:ns[v]?=some x){vals:List Int}(hf:bY (ak ns) vals):∃ i r a w,RowAtW g ns x vals v i r a w:=by
 have hxm:=List.mem_of_getElem? hx;have hin:fK x.parents ns.length:=fun q hq=>by have:=(h.node x hxm).2.2 q hq;omega
 have hr:=mn (qI hin hf);obtain⟨r1,r2⟩:=h.rows x hxm;obtain⟨i,hi⟩:=Int.eq_ofNat_of_zero_le hr.1;obtain⟨r,hrr⟩:=aq (l:=x.rows) (i:=i) (by rw[<- r1,hi]at hr;omega);obtain⟨s1,s2,s3⟩:=r2 r (List.mem_of_getElem? hrr);obtain⟨a,ha⟩:=aq (l:=vals) (i:=v) (by rw[hf.1,dc];exact aM hx);have hb:=hf.2 v x.card a (cU hx) ha;obtain⟨w,hw⟩:=aq (l:=r) (i:=a.toNat) (by omega);have rv:nJ ns x vals=r:=by unfold nJ;rw[hi,Int.toNat_natCast,bJ hrr]
 exact⟨i,r,a,w,hi,hrr,ha,hb.1,hw,s2 w (List.mem_of_getElem? hw),by unfold lG;rw[hx];simp only;rw[rv,bJ ha,bJ hw],rv,s1,by omega⟩
theorem qJ (k:Nat)(h:k<=8):(60:Int) ^ k<=167961600000000:=by
 have h1:(60:Nat) ^ k<=60 ^ 8:=Nat.pow_le_pow_right (by decide) h;have h2:(60:Nat) ^ 8=167961600000000:=by decide
 rw[h2]at h1;have h3:=Int.ofNat_le.2 h1;rw[Int.natCast_pow]at h3;exact h3
theorem CR {g:Int}{ns:List NodeP}(h:NetOk g ns){vals:List Int}(hf:bY (ak ns) vals)(k:Nat):0<=aA ((fT ns vals).take k)/\aA ((fT ns vals).take k)<=167961600000000:=by
 have hb:∀ w∈fT ns vals,0<=w/\w<=60:=fun w hw=>by
  obtain⟨v,hv,rfl⟩:=List.mem_map.1 hw;obtain⟨x,hx⟩:=aq (List.mem_range.1 hv);obtain⟨i,r,a,w,hR⟩:=uT h hx hf;rw[hR.eq];have:=hR.wb;have:=h.g1;omega
 have h1:=nC (b:=60) (by omega) (l:=(fT ns vals).take k) fun x hx=>hb x (List.mem_of_mem_take hx);have h2:=qJ ((fT ns vals).take k).length (by have:=h.n1;rw[List.length_take,uk];omega);omega
theorem sD (ns:List NodeP)(v:Nat)(x:NodeP)(vals:List Int)(hx:ns[v]?=some x)(hin:fK x.parents ns.length)(hs:dS (aR ns x))(hf:bY (ak ns) vals)(H:AHeap)(N n:Nat)(hN:N<H.next)
  (hg:H.get N=some (.arr 0 3 (ints vals))) (hn:n=vals.length):cI Tryz.prog G0 (.clo 69 [] []) [.vec ns.length (aC ns),.lit (.int .i64 v),.own N 0 0 n 1] H (.lit (.int .i64 (bS (aR ns x) (aI vals x.parents)))) [N]:=by
 subst hn;refine cI.mk (fun i hi=>by obtain rfl:=List.mem_singleton.1 hi;exact hN) fun H2 h2 _=>?_;refine(ae.frame (H:=H2) (args:=[.vec ns.length (aC ns),.lit (.int .i64 v),.own N 0 0 vals.length 1]) (args':=[dw ns,.lit (.int .i64 v),ah vals]) (v':=.lit (.int .i64 (bS (aR ns x) (aI vals x.parents)))) aK rfl (fun i hi _=>?_) (Pa ns v x vals hx hin hs hf dh _ ⟨_,rfl,.lit _⟩))
 match i,hi with
 | 0,_=>exact qL _
 | 1,_=>exact .lit _
 | 2,_=>exact Fz.qK ((h2 N (by simp)).trans hg) (by rw[aX]) fun c hc=>by obtain⟨z,_,rfl⟩:=List.mem_map.1 hc;exact⟨_,rfl⟩
set_option maxHeartbeats 2000000 in
theorem O2 (g:Int)(ns:List NodeP)(h:NetOk g ns)(H:AHeap)(K:ARes->AHeap->Prop)(hK:K (.ret (ah (eW ns))) H):ae Tryz.prog G0 122 [da g ns] H K:=by
 refine ae.clo ⟨_,Tryz.func122,rfl,rfl⟩ fun hcl=>?_;have n8:=h.n1;have hcards:∀ c∈ak ns,1<=c/\c<=4:=fun c hc=>by
  obtain⟨x,hx,rfl⟩:=List.mem_map.1 hc;exact(h.node x hx).1
 have sm:dS (ak ns):=mG (by rw[dc];omega) hcards;have hp:=fG fun c hc=>(hcards c hc).1;have hsz:=h.size;have hw:((bH ns:Nat):Int)=aA (ak ns):=by unfold bH;omega
 refine ae.aT (n:=51) (rs:=[.tmp 2]) Tryz.func122 rfl rfl rfl (by decide) (by kernel_rfl) (by simp) ?_;simp only[go_sem,da,dw];refine az.clo (sF ns (by omega) _ _ ⟨trivial,?_⟩);simp only[go_sem];refine az.clo (O9 (ak ns) sm _ _ ⟨trivial,?_⟩);rw[<- hw];simp only[go_sem];refine⟨by omega,?_⟩;refine az.clo (sC (ak ns) _ _ ⟨trivial,?_⟩);simp only[go_sem];obtain⟨H2,hH2⟩:∃ H2,H2=ext (ext H [.arr 0 103 [.lit (.int .i64 g),.vec ns.length (aC ns)],.arr 0 3 (List.replicate 0 (.lit (.int .i64 0))),.arr 0 46 [.own (H.next+1) 0 0 0 1]]) [.arr 0 46 [ah (ak ns)]]:=⟨_,rfl⟩
 have n2:H2.next=H.next+4:=by rw[hH2];rfl
 have o2:Over H H2:=by rw[hH2];exact(Over.ext _ _).trans (.ext _ _)
 have g0:H2.get H.next=some (.arr 0 103 [.lit (.int .i64 g),.vec ns.length (aC ns)]):=by rw[hH2,dD];exact aZ H _ 0 (by simp)
 have g1:H2.get (H.next+1)=some (.arr 0 3 []):=by rw[hH2,dD];exact aZ H _ 1 (by simp)
 have g2:H2.get (H.next+2)=some (.arr 0 46 [.own (H.next+1) 0 0 0 1]):=by rw[hH2,dD];exact aZ H _ 2 (by simp)
 have g3:H2.get (H.next+3)=some (.arr 0 46 [ah (ak ns)]):=by rw[hH2,dD];exact aZ H _ 3 (by simp)
 refine W.env fun E hE=>?_;have e1:E 1=.ptr H.next 0 0:=by rw[hE];simp only[go_sem]
 have e4:E 4=.ptr (H.next+2) 0 0:=by rw[hE];simp only[go_sem]
 have e17:E 17=.clo 143 [] [.ptr (H.next+3) 0 0]:=by rw[hE];rfl
 clear hE;show W _ _ _ _ _ _ ⟨E,ext (ext H [.arr 0 103 [.lit (.int .i64 g),.vec ns.length (aC ns)],.arr 0 3 (List.replicate 0 (.lit (.int .i64 0))),.arr 0 46 [.own (H.next+1) 0 0 0 1]]) [.arr 0 46 [ah (ak ns)]]⟩;rw[<- hH2];have hit:=sB (ak ns) (fun c hc=>(hcards c hc).1) sm (H.next+3) (H2.next+1) (by omega);refine W.sU (f:=143) (first:=[]) (cap:=[.ptr (H.next+3) 0 0]) (by show E 17=_;exact e17) hit
  (fun k Hx=>H2.next<Hx.next/\(∀ id,id<H2.next->id≠H.next+1->id≠H.next+2->Hx.get id=H2.get id)/\∃ gn,Hx.get (H.next+2)=some (.arr 0 46 [.own (H.next+1) gn 0 k 1])/\Hx.get (H.next+1)=some (.arr gn 3 (ints ((eW ns).take k))))
  (fun _ _=>False)
  (fun k Hx h=>(h.2.1 _ (by omega) (by omega) (by omega)).trans g3)
  (fun k H1 H3 h hw=>⟨by have:=hw.1;omega,fun id h1 h2 h3=>(hw.2 _ (by omega) (by have:=h.1;omega)).trans (h.2.1 id h1 h2 h3),by
   obtain⟨gn,a1,a2⟩:=h.2.2;exact⟨gn,(hw.2 _ (by omega) (by have:=h.1;omega)).trans a1,(hw.2 _ (by omega) (by have:=h.1;omega)).trans a2⟩⟩)
  (fun k Hx h=>h.1)
  (fun k H1 b h=>⟨h.1,fun id h1 h2 h3=>by rw[aj,if_neg (by omega)];exact h.2.1 id h1 h2 h3,by
   obtain⟨gn,a1,a2⟩:=h.2.2;exact⟨gn,by rw[aj,if_neg (by omega)];exact a1,by rw[aj,if_neg (by omega)];exact a2⟩⟩)
  (fun _ _ _ h=>h) (fun k H1 b h=>by unfold kP at h ⊢;rw[aj,if_neg (by omega)];exact h)
  (fun b=>⟨by rw[bf];simp,fun id h1 h2 h3=>bO h1,0,by rw[bO (by omega)];exact g2,by rw[bO (by omega)];exact g1⟩) (by decide)
  (fun x hx=>by
   obtain⟨k,hk⟩:=List.mem_iff_getElem?.1 hx;obtain⟨_,rfl⟩:=lP hk;rfl) (fun _ _ _=>trivial) (fun _ _ _=>trivial) (fun k y Hx B Bb hy hj hcs hn hB hBb=>?_) (fun Hx hj hn=>?_) (fun _ hs _=>hs.elim) (fun _ _ hs _=>hs.elim)
 ·obtain⟨hk,rfl⟩:=lP hy;refine af _ _ _ (by rfl) ?_;simp only[go_sem,gV,bh,jn,List.foldl_cons,List.foldl_nil,List.zip_cons_cons,List.zip_nil_right,hB];obtain⟨H3,hH3⟩:∃ H3,H3=Hx.upd H2.next Bb:=⟨_,rfl⟩
  rw[<- hH3];obtain⟨st,pd,n',en,ps',as',bo,hBe⟩:=hBb;have n3:H3.next=Hx.next:=by rw[hH3];rfl
  have o3:∀ id,id≠H2.next->H3.get id=Hx.get id:=fun id h=>by rw[hH3,aj,if_neg h]
  have jB:H3.get H2.next=some Bb:=by rw[hH3,aj,if_pos rfl]
  obtain⟨gn,a1,a2⟩:=hj.2.2;have k0:=(o3 _ (by omega)).trans ((hj.2.1 H.next (by omega) (by omega) (by omega)).trans g0);have k1:=(o3 _ (by omega)).trans a2;have k2:=(o3 _ (by omega)).trans a1;have kN:H3.get (H2.next+1)=some (.arr 0 3 (ints (bT (ak ns) k))):=(o3 _ (by omega)).trans hcs;obtain⟨vals,hvals⟩:∃ vals,vals=bT (ak ns) k:=⟨_,rfl⟩
  have hfit:bY (ak ns) vals:=by rw[hvals];exact qe (fun c hc=>(hcards c hc).1) _
  rw[<- hvals]at kN;have hvl:vals.length=ns.length:=by rw[hfit.1,dc]
  refine W.env fun E1 hE1=>?_;have m1:E1 1=.ptr H.next 0 0:=by rw[hE1];simp only[go_sem,bh,e1]
  have m4:E1 4=.ptr (H.next+2) 0 0:=by rw[hE1];simp only[go_sem,bh,e4]
  have m6:E1 6=.own (H2.next+1) 0 0 ns.length 1:=by rw[hE1];simp only[go_sem,bh,dc]
  clear hE1;have l0:=ag k0;refine af _ _ _ (by rfl) ?_;simp only[go_sem,m1,l0];refine W.aO 70368735789952 (by rfl) (fun ρ2 H4=>∃ v:Nat,ρ2 23=aa v/\v<=ns.length/\Over H3 H4/\ρ2 7=aa (aA ((fT ns vals).take v))) (fun ρ2 H=>ns.length - (iv (ρ2 23)).toNat) ?_ ?_
  ·simp only[go_sem];exact⟨0,rfl,by omega,.refl _,by simp [iG]⟩
  rintro ρ2 H4 ⟨v,h23,hv,o4,h7⟩;refine W.env fun E2 hE2=>?_;have p1:E2 1=.ptr H.next 0 0:=by rw[hE2];simp only[go_sem,m1]
  have p4:E2 4=.ptr (H.next+2) 0 0:=by rw[hE2];simp only[go_sem,m4]
  have p6:E2 6=.own (H2.next+1) 0 0 ns.length 1:=by rw[hE2];simp only[go_sem,m6]
  have p7:E2 7=aa (aA ((fT ns vals).take v)):=by rw[hE2];simp only[go_sem,h7]
  have p21:E2 21=.vec ns.length (aC ns):=by rw[hE2];simp only[go_sem]
  have p22:E2 22=aa ns.length:=by rw[hE2];simp only[go_sem]
  have p23:E2 23=aa v:=by rw[hE2];simp only[go_sem,h23]
  clear hE2;have o4n:=o4.next;have q0:=ag ((o4.old _ (by omega)).trans k0);have q1:=ag ((o4.old _ (by omega)).trans k1);have q2:=ag ((o4.old _ (by omega)).trans k2);have gN4:=(o4.old _ (by omega)).trans kN;refine af _ _ _ (by rfl) ?_;by_cases hb:(v:Int)<ns.length
  ·obtain⟨x,hx⟩:=aq (l:=ns) (i:=v) (by omega);have hxm:=List.mem_of_getElem? hx;obtain⟨i,r,a,w,hR⟩:=uT h hx hfit;obtain⟨a',rfl⟩:=Int.eq_ofNat_of_zero_le hR.a0;have hin:fK x.parents ns.length:=fun q hq=>by have:=(h.node x hxm).2.2 q hq;omega
   have hne:=ep hx;have c0:=oI hx;have c1:v*3+3<=(aC ns).length:=(by rw[jS];omega);obtain⟨H5,hH5⟩:∃ H5,H5=ext H4 [.arr 0 73 [.lit (.int .i64 x.card),.vec x.parents.length (ints x.parents),aD x.rows]]:=⟨_,rfl⟩
   have hpc:cI Tryz.prog G0 (.clo 69 [] []) [.vec ns.length (aC ns),.lit (.int .i64 v),.own (H2.next+1) 0 0 ns.length 1] H5 (.lit (.int .i64 i)) [H2.next+1]:=by
    have:=sD ns v x vals hx hin (lS n8.2 (h.node x hxm).2 fun y hy=>(h.node y hy).1) hfit H5 (H2.next+1) ns.length (by rw[hH5,bf];omega) (by rw[hH5,dC _ _ _ (by omega)];exact gN4) hvl.symm;rw[hR.idx]at this;exact this
   have f0:=ag (show H5.get H.next=some (.arr 0 103 [.lit (.int .i64 g),.vec ns.length (aC ns)]) by rw[hH5,dC _ _ _ (by omega)];exact(o4.old _ (by omega)).trans k0);have f4:=ag (show H5.get H4.next=some (.arr 0 73 [.lit (.int .i64 x.card),.vec x.parents.length (ints x.parents),aD x.rows]) by rw[hH5];exact bR);have fN:=ag (show H5.get (H2.next+1)=some (.arr 0 3 (ints vals)) by rw[hH5,dC _ _ _ (by omega)];exact gN4);have hri:=hR.row;have hrne:=aL hri;have hrl:(i:Int)<x.rows.length:=(by have:=aM hri;omega);have hva:=hR.val;have hvne:=aL hva;have hra:r[a']?=some w:=(by have:=hR.hw;rw[Int.toNat_natCast]at this;exact this);have hrane:=aL hra;have hal:=hR.al;have wt:=CR h hfit (v+1);rw[aV (Bk (vals:=vals) (v:=v) (by omega)),fF,hR.eq]at wt;have w1:=IntWalk.i64_in ((v:Int)+1) (by omega);have w2:=IntWalk.i64_in (aA ((fT ns vals).take v)*w) (by omega);simp only[go_sem,p21,p22,p23,hb,hne,c0,c1];rw[<- hH5];refine W.draw 16 [0,0,2,0,8,0,0,120,254,510,0,0,3072,7168,16382,32766] Tryz.mixed (by kernel_rfl) (by kernel_rfl) ?_;simp only[go_sem,p1,p6,p7,f0,f4,aD];refine⟨.lit (.int .i64 i),[H2.next+1],hpc,?_⟩;have hvn:(v:Int)<ns.length:=hb;simp only[go_sem,p1,p6,p7,p23,fN,hri,hrne,hrl,hra,hrane,hva,hal,hvn,w1,w2];have n5:H5.next=H4.next+1:=(by rw[hH5];rfl);exact⟨by omega,⟨_,_,_,_,_,_,_,by rw[hH5,dC _ _ _ (by omega),o4.old _ (by omega),jB,hBe]⟩,⟨v+1,by simp,by omega,by rw[hH5];exact o4.trans (.ext _ _),by rw[aV (Bk (vals:=vals) (v:=v) (by omega)),fF,hR.eq]⟩,by rw[h23];simp only[aa,aW];omega⟩
  ·rw[List.take_of_length_le (by rw[uk];omega)]at p7;have hwk:(eW ns)[k]?=some (weight ns vals):=by
    unfold eW;rw[List.getElem?_map,List.getElem?_range (show k<bH ns from hk),hvals];rfl
   have hkl:((eW ns).take k).length=k:=by
    have:(eW ns).length=bH ns:=(by simp [eW]);have:k<bH ns:=hk;simp;omega
   have hkw:k<bH ns:=hk;have nn:¬ H.next+1=H4.next:=(by omega);have nn2:¬ H.next+2=H4.next:=(by omega);have hbd:(k+1)*8<=2 ^ 46/\k+1<=2 ^ 46:=(by omega);have q1e:∀ L,(ext H4 L).live (H.next+1) gn=some (3,ints ((eW ns).take k)):=fun L=>(eU (by omega)).trans q1;have q2e:∀ L b,((ext H4 L).upd (H.next+1) b).live (H.next+2) 0=some (46,[.own (H.next+1) gn 0 k 1]):=fun L b=>(n9 (by omega)).trans ((eU (by omega)).trans q2);simp only[go_sem,p4,p7,p22,p23,hb,q2,q1e,q2e,hkl,hbd,eE,bI];obtain⟨Hf,hHf⟩:∃ Hf,Hf=((ext H4 [.arr 0 3 [.lit (.int .i64 (aA (fT ns vals)))]]).upd (H.next+1) (.arr (gn+1) 3 (ints ((eW ns).take k)++[.lit (.int .i64 (aA (fT ns vals)))]))).upd (H.next+2) (.arr 0 46 [.own (H.next+1) (gn+1) 0 (k+1) 1]):=⟨_,rfl⟩
   rw[<- hHf];have hget:∀ id,id<H4.next->id≠H.next+1->id≠H.next+2->Hf.get id=H4.get id:=fun id h1 h2 h3=>by rw[hHf,aj,if_neg h3,aj,if_neg h2,bO h1]
   have nf:Hf.next=H4.next+1:=(by rw[hHf];rfl);have eint:ints ((eW ns).take (k+1))=ints ((eW ns).take k)++[.lit (.int .i64 (aA (fT ns vals)))]:=(by rw[aV hwk];simp [ints,aa,weight]);refine⟨by rw[hget _ (by omega) (by omega) (by omega),o4.old _ (by omega)];exact jB,by omega,⟨by omega,fun id h1 h2 h3=>by rw[hget _ (by omega) h2 h3,o4.old _ (by omega),o3 _ (by omega)];exact hj.2.1 id h1 h2 h3,gn+1,by rw[hHf,aj,if_pos rfl],by rw[hHf,aj,if_neg (by omega),aj,if_pos rfl,eint]⟩,?_⟩;show Hf.get (H2.next+1)=_;rw[hget _ (by omega) (by omega) (by omega),gN4,hvals]
 ·rw[qH]at hj;obtain⟨gn,a1,a2⟩:=hj.2.2;have l2:=ag a1;simp only[go_sem,e4,l2];have ovx:Over H Hx:=⟨by omega,fun id hi=>(hj.2.1 id (by omega) (by omega) (by omega)).trans (o2.old id hi)⟩
  have hlen:(eW ns).length=(aA (ak ns)).toNat:=by simp [eW,bH]
  rw[List.take_of_length_le (by omega)]at a2;refine au.bE aK hcl ovx ?_ hK;show Fz (fun id=>H.next<=id) Hx H.next (.own (H.next+1) gn 0 (aA (ak ns)).toNat 1) (ah (eW ns));exact .ints (S:=fun id=>H.next<=id) (o:=0) (by show H.next<=_;omega) a2 hlen.symm fun i hi=>by simp [d6,hi]
end Go.Proofs
