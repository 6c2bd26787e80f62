/-
  Closed facts of this seat's types. Laid by a program of ours.
-/
import Derived.Test.YtjhbjbninamhnaaGreatProg
import Derived.Test.YtjhbjbninamhnaaGreatLibC
import Derived.Test.YtjhbjbninamhnaaGreatLibB
set_option linter.all false
namespace Go.Proofs
open Go.Hx
theorem Tryz.mixed:Tryz.prog.follows .mixedOrders=true:=by kernel_rfl
theorem Tryz.dx:Tryz.prog.cellsOf 3=1:=by kernel_rfl
theorem Tryz.eC:Tryz.prog.bytesOf 3=8:=by kernel_rfl
theorem Tryz.dQ:bE Tryz.prog 3=some [.lit (.int .i64 0)]:=by kernel_rfl
theorem Tryz.CA:Tryz.prog.cellsOf 4=1:=by kernel_rfl
theorem Tryz.NK:bE Tryz.prog 4=some [.lit (.bool false)]:=by kernel_rfl
theorem Tryz.mw:Tryz.prog.cellsOf 5=1:=by kernel_rfl
theorem Tryz.NL:Tryz.prog.bytesOf 5=1:=by kernel_rfl
theorem Tryz.NM:bE Tryz.prog 5=some [.lit (.int .u8 0)]:=by kernel_rfl
theorem Tryz.CB:Tryz.prog.cellsOf 22=1:=by kernel_rfl
theorem Tryz.yx:Tryz.prog.cellsOf 23=1:=by kernel_rfl
theorem Tryz.CC:Tryz.prog.cellsOf 25=3:=by kernel_rfl
theorem Tryz.NN:bA Tryz.prog 25 0=some (0,5):=by kernel_rfl
theorem Tryz.NO:bA Tryz.prog 25 1=some (1,22):=by kernel_rfl
theorem Tryz.NP:bA Tryz.prog 25 2=some (2,23):=by kernel_rfl
theorem Tryz.CD:Tryz.prog.cellsOf 26=1:=by kernel_rfl
theorem Tryz.NQ:Tryz.prog.cellsOf 28=6:=by kernel_rfl
theorem Tryz.NR:bA Tryz.prog 28 0=some (0,25):=by kernel_rfl
theorem Tryz.NS:bA Tryz.prog 28 1=some (3,5):=by kernel_rfl
theorem Tryz.NT:bA Tryz.prog 28 2=some (4,4):=by kernel_rfl
theorem Tryz.NU:bA Tryz.prog 28 3=some (5,26):=by kernel_rfl
theorem Tryz.CE:Tryz.prog.cellsOf 30=4:=by kernel_rfl
theorem Tryz.NV:bE Tryz.prog 30=some [.lit (.int .u8 0),.lit (.int .u8 0),.lit (.int .u8 0),.lit (.int .i64 0)]:=by kernel_rfl
theorem Tryz.NW:iU Tryz.prog 30=some [(0,1),(1,1),(2,1),(3,1)]:=by kernel_rfl
theorem Tryz.NX:bA Tryz.prog 30 0=some (0,5):=by kernel_rfl
theorem Tryz.NY:bA Tryz.prog 30 1=some (1,5):=by kernel_rfl
theorem Tryz.NZ:bA Tryz.prog 30 2=some (2,5):=by kernel_rfl
theorem Tryz.N0:bA Tryz.prog 30 3=some (3,3):=by kernel_rfl
theorem Tryz.N1:Tryz.prog.cellsOf 32=6:=by kernel_rfl
theorem Tryz.N2:bA Tryz.prog 32 0=some (0,5):=by kernel_rfl
theorem Tryz.N3:bA Tryz.prog 32 1=some (1,30):=by kernel_rfl
theorem Tryz.N4:bA Tryz.prog 32 2=some (5,3):=by kernel_rfl
theorem Tryz.N5:Tryz.prog.cellsOf 33=1:=by kernel_rfl
theorem Tryz.N6:bE Tryz.prog 33=some [.lit (.slice none 0 0)]:=by kernel_rfl
theorem Tryz.N7:Tryz.prog.cellsOf 34=1:=by kernel_rfl
theorem Tryz.CG:Tryz.prog.cellsOf 35=1:=by kernel_rfl
theorem Tryz.CH:Tryz.prog.bytesOf 35=8:=by kernel_rfl
theorem Tryz.CI:bE Tryz.prog 35=some [.lit (.int .u64 0)]:=by kernel_rfl
theorem Tryz.N8:Tryz.prog.cellsOf 36=1:=by kernel_rfl
theorem Tryz.N9:Tryz.prog.cellsOf 38=4:=by kernel_rfl
theorem Tryz.Oa:bE Tryz.prog 38=some [.lit (.int .i64 0),.lit (.slice none 0 0),.lit (.int .u64 0),.lit (.slice none 0 0)]:=by kernel_rfl
theorem Tryz.Ob:iU Tryz.prog 38=some [(0,1),(1,1),(2,1),(3,1)]:=by kernel_rfl
theorem Tryz.Oc:bA Tryz.prog 38 0=some (0,3):=by kernel_rfl
theorem Tryz.Od:bA Tryz.prog 38 1=some (1,34):=by kernel_rfl
theorem Tryz.Oe:bA Tryz.prog 38 2=some (2,35):=by kernel_rfl
theorem Tryz.Of:bA Tryz.prog 38 3=some (3,36):=by kernel_rfl
theorem Tryz.Og:Tryz.prog.cellsOf 42=1:=by kernel_rfl
theorem Tryz.Oh:bE Tryz.prog 42=some [.lit (.int .i64 0)]:=by kernel_rfl
theorem Tryz.jL:Tryz.prog.cellsOf 46=1:=by kernel_rfl
theorem Tryz.kA:Tryz.prog.bytesOf 46=24:=by kernel_rfl
theorem Tryz.kB:bE Tryz.prog 46=some [.lit (.slice none 0 0)]:=by kernel_rfl
theorem Tryz.Oi:bE Tryz.prog 48=some [.lit (.int .i64 0),.lit (.slice none 0 0),.lit (.int .u64 0),.lit (.slice none 0 0),.lit (.int .i64 0),.lit (.slice none 0 0),.lit (.int .u64 0),.lit (.slice none 0 0)]:=by kernel_rfl
theorem Tryz.Oj:bE Tryz.prog 61=some [.lit (.slice none 0 0),.lit (.slice none 0 0)]:=by kernel_rfl
theorem Tryz.CJ:Tryz.prog.cellsOf 63=2:=by kernel_rfl
theorem Tryz.CK:Tryz.prog.bytesOf 63=16:=by kernel_rfl
theorem Tryz.CL:bE Tryz.prog 63=some [.lit (.int .i64 0),.lit (.int .i64 0)]:=by kernel_rfl
theorem Tryz.rH:Tryz.prog.cellsOf 73=3:=by kernel_rfl
theorem Tryz.rJ:Tryz.prog.bytesOf 73=56:=by kernel_rfl
theorem Tryz.rK:bE Tryz.prog 73=some [.lit (.int .i64 0),.lit (.slice none 0 0),.lit (.slice none 0 0)]:=by kernel_rfl
theorem Tryz.Ol:iU Tryz.prog 73=some [(0,1),(1,1),(2,1)]:=by kernel_rfl
theorem Tryz.Om:bA Tryz.prog 73 0=some (0,3):=by kernel_rfl
theorem Tryz.On:bA Tryz.prog 73 1=some (1,46):=by kernel_rfl
theorem Tryz.Oo:bA Tryz.prog 73 2=some (2,33):=by kernel_rfl
theorem Tryz.CM:Tryz.prog.cellsOf 77=1:=by kernel_rfl
theorem Tryz.CN:Tryz.prog.cellsOf 78=1:=by kernel_rfl
theorem Tryz.CO:Tryz.prog.cellsOf 80=2:=by kernel_rfl
theorem Tryz.Oq:bA Tryz.prog 80 0=some (0,5):=by kernel_rfl
theorem Tryz.Ot:bA Tryz.prog 80 1=some (1,78):=by kernel_rfl
theorem Tryz.uF:Tryz.prog.cellsOf 82=2:=by kernel_rfl
theorem Tryz.uG:Tryz.prog.bytesOf 82=48:=by kernel_rfl
theorem Tryz.uH:bE Tryz.prog 82=some [.lit (.slice none 0 0),.lit (.slice none 0 0)]:=by kernel_rfl
theorem Tryz.Ou:iU Tryz.prog 82=some [(0,1),(1,1)]:=by kernel_rfl
theorem Tryz.Ov:bA Tryz.prog 82 0=some (0,46):=by kernel_rfl
theorem Tryz.Ow:bA Tryz.prog 82 1=some (1,46):=by kernel_rfl
theorem Tryz.Ox:Tryz.prog.cellsOf 103=2:=by kernel_rfl
theorem Tryz.Oy:bE Tryz.prog 103=some [.lit (.int .i64 0),.lit (.slice none 0 0)]:=by kernel_rfl
theorem Tryz.Oz:iU Tryz.prog 103=some [(0,1),(1,1)]:=by kernel_rfl
theorem Tryz.OA:bA Tryz.prog 103 0=some (0,3):=by kernel_rfl
theorem Tryz.OB:bA Tryz.prog 103 1=some (1,34):=by kernel_rfl
theorem Tryz.OC:Tryz.prog.cellsOf 106=1:=by kernel_rfl
theorem Tryz.OD:Tryz.prog.cellsOf 110=1:=by kernel_rfl
theorem Tryz.OE:bE Tryz.prog 110=some [.lit (.pointer none)]:=by kernel_rfl
theorem Tryz.OF:bE Tryz.prog 130=some [.lit (.int .i64 0),.lit (.slice none 0 0),.lit (.int .u64 0),.lit (.slice none 0 0),.lit (.slice none 0 0),.lit (.slice none 0 0),.lit (.slice none 0 0),.lit (.int .i64 0)]:=by kernel_rfl
theorem Tryz.OG:iU Tryz.prog 130=some [(0,4),(4,1),(5,1),(6,1),(7,1)]:=by kernel_rfl
theorem Tryz.OH:bA Tryz.prog 130 0=some (0,38):=by kernel_rfl
theorem Tryz.OI:bA Tryz.prog 130 2=some (5,46):=by kernel_rfl
theorem Tryz.OJ:bA Tryz.prog 130 3=some (6,46):=by kernel_rfl
theorem Tryz.OK:Tryz.prog.cellsOf 136=1:=by kernel_rfl
theorem Tryz.OL:Tryz.prog.cellsOf 150=1:=by kernel_rfl
theorem Tryz.OM:Tryz.prog.cellsOf 162=3:=by kernel_rfl
theorem Tryz.ON:bE Tryz.prog 162=some [.lit (.slice none 0 0),.lit (.int .u16 0),.lit (.slice none 0 0)]:=by kernel_rfl
theorem Tryz.OO:iU Tryz.prog 162=some [(0,1),(1,1),(2,1)]:=by kernel_rfl
theorem Tryz.OP:bA Tryz.prog 162 0=some (0,23):=by kernel_rfl
theorem Tryz.OQ:bA Tryz.prog 162 2=some (2,23):=by kernel_rfl
theorem Tryz.CP:Tryz.prog.cellsOf 165=3:=by kernel_rfl
theorem Tryz.OS:bE Tryz.prog 165=some [.lit (.int .u8 0),.lit (.int .u8 0),.lit (.slice none 0 0)]:=by kernel_rfl
theorem Tryz.OT:bA Tryz.prog 165 0=some (0,5):=by kernel_rfl
theorem Tryz.OU:bA Tryz.prog 165 1=some (1,5):=by kernel_rfl
theorem Tryz.OV:bA Tryz.prog 165 2=some (2,23):=by kernel_rfl
theorem Tryz.OW:Tryz.prog.cellsOf 209=5:=by kernel_rfl
theorem Tryz.OX:bE Tryz.prog 209=some [.lit (.int .i64 0),.lit (.slice none 0 0),.lit (.slice none 0 0),.lit (.slice none 0 0),.lit (.slice none 0 0)]:=by kernel_rfl
theorem Tryz.OY:iU Tryz.prog 209=some [(0,2),(2,1),(3,1),(4,1)]:=by kernel_rfl
theorem Tryz.OZ:bA Tryz.prog 209 0=some (0,103):=by kernel_rfl
theorem Tryz.O0:bA Tryz.prog 209 1=some (2,46):=by kernel_rfl
theorem Tryz.O1:bA Tryz.prog 209 2=some (3,106):=by kernel_rfl
theorem Tryz.O2:bA Tryz.prog 209 3=some (4,46):=by kernel_rfl
attribute [go_sem] Tryz.underlying3 Tryz.dx Tryz.eC Tryz.dQ Tryz.underlying4 Tryz.CA Tryz.NK Tryz.underlying5 Tryz.mw Tryz.NL Tryz.NM
attribute [go_sem] Tryz.underlying9 Tryz.underlying22 Tryz.CB Tryz.underlying23 Tryz.yx
attribute [go_sem] Tryz.underlying24 Tryz.underlying25 Tryz.CC
attribute [go_sem] Tryz.NN Tryz.NO Tryz.NP Tryz.underlying26 Tryz.CD Tryz.underlying27
attribute [go_sem] Tryz.underlying28 Tryz.NQ Tryz.NR Tryz.NS
attribute [go_sem] Tryz.NT Tryz.NU Tryz.underlying29 Tryz.underlying30
attribute [go_sem] Tryz.CE Tryz.NV Tryz.NW Tryz.NX Tryz.NY Tryz.NZ Tryz.N0 Tryz.underlying31
attribute [go_sem] Tryz.underlying32 Tryz.N1 Tryz.N2 Tryz.N3 Tryz.N4
attribute [go_sem] Tryz.underlying33 Tryz.N5 Tryz.N6 Tryz.underlying34 Tryz.N7 Tryz.underlying35 Tryz.CG Tryz.CH Tryz.CI
attribute [go_sem] Tryz.underlying36 Tryz.N8 Tryz.underlying37
attribute [go_sem] Tryz.underlying38 Tryz.N9 Tryz.Oa Tryz.Ob Tryz.Oc Tryz.Od Tryz.Oe Tryz.Of Tryz.underlying40
attribute [go_sem] Tryz.underlying41
attribute [go_sem] Tryz.underlying42 Tryz.Og Tryz.Oh Tryz.underlying46 Tryz.jL Tryz.kA Tryz.kB Tryz.underlying48 Tryz.Oi
attribute [go_sem] Tryz.underlying50 Tryz.underlying61 Tryz.Oj Tryz.underlying63 Tryz.CJ Tryz.CK Tryz.CL
attribute [go_sem] Tryz.underlying72 Tryz.underlying73 Tryz.rH Tryz.rJ Tryz.rK
attribute [go_sem] Tryz.Ol Tryz.Om Tryz.On Tryz.Oo Tryz.underlying77 Tryz.CM Tryz.underlying78 Tryz.CN
attribute [go_sem] Tryz.underlying79 Tryz.underlying80 Tryz.CO
attribute [go_sem] Tryz.Oq Tryz.Ot Tryz.underlying81 Tryz.underlying82 Tryz.uF Tryz.uG
attribute [go_sem] Tryz.uH Tryz.Ou Tryz.Ov Tryz.Ow Tryz.underlying87 Tryz.underlying88
attribute [go_sem] Tryz.underlying98 Tryz.underlying102 Tryz.underlying103
attribute [go_sem] Tryz.Ox Tryz.Oy Tryz.Oz Tryz.OA Tryz.OB Tryz.underlying106 Tryz.OC Tryz.underlying110 Tryz.OD
attribute [go_sem] Tryz.OE Tryz.underlying117 Tryz.underlying128 Tryz.underlying129
attribute [go_sem] Tryz.underlying130 Tryz.OF
attribute [go_sem] Tryz.OG Tryz.OH Tryz.OI Tryz.OJ Tryz.underlying136 Tryz.OK Tryz.underlying146
attribute [go_sem] Tryz.underlying147
attribute [go_sem] Tryz.underlying149 Tryz.underlying150 Tryz.OL Tryz.underlying160
attribute [go_sem] Tryz.underlying161 Tryz.underlying162 Tryz.OM Tryz.ON
attribute [go_sem] Tryz.OO Tryz.OP Tryz.OQ Tryz.underlying164
attribute [go_sem] Tryz.underlying165 Tryz.CP Tryz.OS Tryz.OT Tryz.OU Tryz.OV Tryz.underlying170
attribute [go_sem] Tryz.underlying171 Tryz.underlying172
attribute [go_sem] Tryz.underlying173
attribute [go_sem] Tryz.underlying208
attribute [go_sem] Tryz.underlying209 Tryz.OW Tryz.OX Tryz.OY Tryz.OZ Tryz.O0 Tryz.O1 Tryz.O2 Tryz.underlying212
attribute [go_sem] Tryz.underlying215 Tryz.underlying219 Tryz.underlying230
def ah (l:List (List Int)):AVal:=.vec l.length (l.map af)
structure NodeP where
 card:Int
 parents:List Int
 rows:List (List Int)
structure UtilP where
 vars:List Int
 w:List Int
def NodeP.cells (x:NodeP):List AVal:=[aa x.card,af x.parents,ah x.rows]
def UtilP.cells (x:UtilP):List AVal:=[af x.vars,af x.w]
def aG (l:List NodeP):List AVal:=(l.map NodeP.cells).flatten
def aR (l:List UtilP):List AVal:=(l.map UtilP.cells).flatten
def cj (l:List NodeP):AVal:=.vec l.length (aG l)
def uI (l:List UtilP):AVal:=.vec l.length (aR l)
def bJ (g:Int)(l:List NodeP):AVal:=.agg [aa g,cj l]
structure InfP where
 grain:Int
 nodes:List NodeP
 decs:Nat
 utils:List UtilP
def jd (d:InfP):AVal:=.agg [aa d.grain,cj d.nodes,.lit (.int .u64 (d.decs:Int)),uI d.utils]
theorem gS {α:Type}{f:α->List AVal}{z:Nat}(hz:∀ a,(f a).length=z):∀ (l:List α) (i j:Nat) (a:α),l[i]?=some a->j<z->((l.map f).flatten)[i*z+j]?=(f a)[j]?:=by
 intro l
 induction l with
 | nil=>intro i j a h;simp at h
 | cons x l ih =>
  intro i j a h hj;simp only[List.map_cons,List.flatten_cons];cases i with
  | zero =>
   simp only[List.getElem?_cons_zero,Option.some.injEq]at h;subst h;rw[Uy,Nat.zero_add,SW (by rw[hz];exact hj)]
  | succ i =>
   have:(i+1)*z+j=z+(i*z+j):=(by rw[T3];omega);rw[this,S5 (by rw[hz];omega),hz];have:z+(i*z+j) - z=i*z+j:=(by omega);rw[this];exact ih i j a (by simpa using h) hj
theorem kC {α:Type}{f:α->List AVal}{z:Nat}(hz:∀ a,(f a).length=z)(l:List α):((l.map f).flatten).length=l.length*z:=by
 induction l with
 | nil=>simp
 | cons x l ih=>simp only[List.map_cons,List.flatten_cons,List.length_append,ih,hz,List.length_cons];rw[T3];omega
theorem my {α:Type}{f:α->List AVal}{z:Nat}(hz:∀ a,(f a).length=z):∀ (l:List α) (i:Nat) (a:α),l[i]?=some a->(((l.map f).flatten).drop (i*z)).take z=f a:=by
 intro l i a h;apply Tk;intro j;by_cases hj:j<z
 ·rw[Ts hj,T6,gS hz l i j a h hj]
 ·rw[SV (by simp;omega),SV (by rw[hz];omega)]
theorem gT (l:List NodeP):(aG l).length=l.length*3:=kC (f:=NodeP.cells) (fun _=>rfl) l
theorem iJ {l:List NodeP}{i:Nat}{x:NodeP}(h:l[i]?=some x):(aG l)[i*3]?=some (aa x.card):=gS (f:=NodeP.cells) (z:=3) (fun _=>rfl) l i 0 x h (by omega)
theorem je {l:List NodeP}{i:Nat}{x:NodeP}(h:l[i]?=some x):(aG l)[i*3+1]?=some (af x.parents):=gS (f:=NodeP.cells) (z:=3) (fun _=>rfl) l i 1 x h (by omega)
theorem pG {l:List NodeP}{i:Nat}{x:NodeP}(h:l[i]?=some x):(aG l)[i*3+2]?=some (ah x.rows):=gS (f:=NodeP.cells) (z:=3) (fun _=>rfl) l i 2 x h (by omega)
theorem mz {l:List NodeP}{i:Nat}{x:NodeP}(h:l[i]?=some x):((aG l).drop (i*3)).take 3=[aa x.card,af x.parents,ah x.rows]:=my (f:=NodeP.cells) (z:=3) (fun _=>rfl) l i x h
theorem dC {l:List NodeP}{i:Nat}{x:NodeP}(h:l[i]?=some x):¬ aG l=[]:=fun e=>by
 have:=iJ h;rw[e]at this;simp at this
theorem kD (l:List UtilP):(aR l).length=l.length*2:=kC (f:=UtilP.cells) (fun _=>rfl) l
theorem CQ {l:List UtilP}{i:Nat}{x:UtilP}(h:l[i]?=some x):(aR l)[i*2]?=some (af x.vars):=gS (f:=UtilP.cells) (z:=2) (fun _=>rfl) l i 0 x h (by omega)
theorem O3 {l:List UtilP}{i:Nat}{x:UtilP}(h:l[i]?=some x):(aR l)[i*2+1]?=some (af x.w):=gS (f:=UtilP.cells) (z:=2) (fun _=>rfl) l i 1 x h (by omega)
theorem uJ {l:List UtilP}{i:Nat}{x:UtilP}(h:l[i]?=some x):((aR l).drop (i*2)).take 2=[af x.vars,af x.w]:=my (f:=UtilP.cells) (z:=2) (fun _=>rfl) l i x h
theorem rL {l:List UtilP}{i:Nat}{x:UtilP}(h:l[i]?=some x):¬ aR l=[]:=fun e=>by
 have:=CQ h;rw[e]at this;simp at this
theorem get_lt {α:Type}{l:List α}{i:Nat}{x:α}(h:l[i]?=some x):i<l.length:=by
 rcases Te i l.length with h'|h'
 ·exact h'
 ·rw[SV h']at h;cases h
theorem get_of_lt {α:Type}{l:List α}{i:Nat}(h:i<l.length):∃ x,l[i]?=some x:=⟨_,SN h⟩
theorem lu {α:Type}{l:List α}{i:Int}(h0:0<=i)(h:i<l.length):∃ k:Nat,i=k/\∃ x,l[k]?=some x:=⟨i.toNat,by omega,get_of_lt (by omega)⟩
def au (l:List Int):Int:=l.foldl (·*·) 1
theorem CR (l:List Int)(a:Int):l.foldl (·*·) a=a*au l:=by
 unfold au
 induction l generalizing a with
 | nil=>simp
 | cons x l ih=>simp only[TX];rw[ih,ih (1*x),Vq,VQ]
theorem gi:au []=1:=rfl
theorem il (x:Int)(l:List Int):au (x :: l)=x*au l:=by
 show List.foldl _ (1*x) l=_;rw[CR,Vq]
theorem yy (l l':List Int):au (l++l')=au l*au l':=by
 unfold au;rw[Ua,CR];rfl
theorem eO (l:List Int)(x:Int):au (l++[x])=au l*x:=by rw[yy,il,gi,V7]
theorem aO {α:Type}{l:List α}{k:Nat}{x:α}(h:l[k]?=some x):l.take (k+1)=l.take k++[x]:=by
 rw[List.take_add_one,h];rfl
theorem fw {l:List Int}(h:∀ x∈l,1<=x):1<=au l:=by
 induction l with
 | nil=>decide
 | cons x l ih =>
  rw[il];have h1:=ih fun y hy=>h y (by simp [hy]);have h2:=h x (by simp);have:=Uc h2 h1 (by omega) (by omega);simpa using this
theorem nI {b:Int}{l:List Int}(hb:0<=b)(h:∀ x∈l,0<=x/\x<=b):0<=au l/\au l<=b ^ l.length:=by
 induction l with
 | nil=>exact⟨by decide,by simp [au]⟩
 | cons x l ih =>
  rw[il];have h1:=ih fun y hy=>h y (by simp [hy]);have h2:=h x (by simp);refine⟨Us h2.1 h1.1,?_⟩;have:=Uc h2.2 h1.2 h1.1 hb;rw[List.length_cons,Int.pow_succ,Ur (b ^ l.length)];exact this
def ao (l:List NodeP):List Int:=l.map (·.card)
def aF (l places:List Int):List Int:=places.map fun p=>l.getD p.toNat 0
def bK (places:List Int)(n:Int):Prop:=places.Pairwise (·<·)/\∀ p∈places,0<=p/\p<n
end Go.Proofs
set_option maxRecDepth 100000
namespace Go.Proofs
open Go.Hx
def G0:Nat->Option (List AVal):=ik
theorem aS:eL G0:=nG
end Go.Proofs
namespace Go.Hx
variable {P:Program} {G:Nat->Option (List AVal)} {Γ Γ':aC} {H H':AHeap} {w w':World}
theorem W.env {n:Nat}{rd:Option Nat}{Q:AX->St->Prop}{c:Code}{ρ:Env}{H:AHeap}(h:∀ E,E=ρ->W P G n rd c Q ⟨E,H⟩):W P G n rd c Q ⟨ρ,H⟩:=h ρ rfl
theorem W.en {n:Nat}{rd:Option Nat}{Q:AX->St->Prop}{c:Code}{ρ:Env}{H:AHeap}(p:Env->Prop)(hp:p ρ)(h:∀ E,p E->W P G n rd c Q ⟨E,H⟩):W P G n rd c Q ⟨ρ,H⟩:=h ρ hp
theorem Below.mono {n m:Nat}{v:AVal}(h:Below n v)(hm:n<=m):Below m v:=by
 induction h with
 | lit v=>exact .lit v
 | vec h ih=>exact .vec ih
 | vptr h ih=>exact .vptr ih
 | agg h ih=>exact .agg ih
 | tup h ih=>exact .tup ih
 | clo h1 h2 ih1 ih2=>exact .clo ih1 ih2
 | own h=>exact .own (by omega)
 | ptr h=>exact .ptr (by omega)
 | yld h=>exact .yld (by omega)
theorem dS {l:List AVal}{i:Nat}{x:AVal}(h:i<l.length):setAt l i [x]=l.set i x:=by
 unfold setAt;rw[Vt,SQ h];simp
section
variable {t:TypeId} {x y:Operand} {k k':IntKind} {a b:Int}
theorem vE (hb:0<=b):bh P .shr t x y (.lit (.int k a)) (.lit (.int k' b))=some (.lit (.int k (a.fdiv (2 ^ (min b.toNat k.bits))))):=by
 have h:¬ b<0:=by omega
 simp [bh,AVal.cq,eqGuard,binOp,Op.shift,h,cI,bind,Sem.bind,pure]
theorem zA (hb:0<=b):bh P .shl t x y (.lit (.int k a)) (.lit (.int k' b))=some (.lit (.int k (k.wrap (a*2 ^ (min b.toNat k.bits))))):=by
 have h:¬ b<0:=by omega
 simp [bh,AVal.cq,eqGuard,binOp,Op.shift,h,cI,bind,Sem.bind,pure]
theorem vF:bh P .and t x y (.lit (.int k a)) (.lit (.int k b))=some (.lit (.int k (k.wrap ((BitVec.ofInt k.bits a &&& BitVec.ofInt k.bits b).toNat:Nat)))):=by
 simp [bh,AVal.cq,eqGuard,binOp,Op.intBits,cI,bind,Sem.bind,pure]
theorem Rm:bh P .or t x y (.lit (.int k a)) (.lit (.int k b))=some (.lit (.int k (k.wrap ((BitVec.ofInt k.bits a ||| BitVec.ofInt k.bits b).toNat:Nat)))):=by
 simp [bh,AVal.cq,eqGuard,binOp,Op.intBits,cI,bind,Sem.bind,pure]
theorem Ro:bh P .xor t x y (.lit (.int k a)) (.lit (.int k b))=some (.lit (.int k (k.wrap ((BitVec.ofInt k.bits a ^^^ BitVec.ofInt k.bits b).toNat:Nat)))):=by
 simp [bh,AVal.cq,eqGuard,binOp,Op.intBits,cI,bind,Sem.bind,pure]
theorem Rp:bh P .andNot t x y (.lit (.int k a)) (.lit (.int k b))=some (.lit (.int k (k.wrap ((BitVec.ofInt k.bits a &&& ~~~ BitVec.ofInt k.bits b).toNat:Nat)))):=by
 simp [bh,AVal.cq,eqGuard,binOp,Op.intBits,cI,bind,Sem.bind,pure]
def br (m:Nat):AVal:=.lit (.int .u64 (m:Int))
def gF (a b:Nat):Nat:=(BitVec.ofNat 64 a &&& ~~~ BitVec.ofNat 64 b).toNat
theorem pV {m:Nat}(h:m<2 ^ 64):(BitVec.ofInt 64 (m:Int)).toNat=m:=by rw[BitVec.ofInt_natCast,BitVec.toNat_ofNat,Nat.mod_eq_of_lt h]
theorem Er (a b:Nat):gF a b<2 ^ 64:=(BitVec.isLt _)
theorem zB {a b i:Nat}(ha:a<2 ^ 64):(gF a b).testBit i=(a.testBit i && !b.testBit i):=by
 unfold gF;by_cases hi:i<64
 ·rw[<- BitVec.getLsbD,BitVec.getLsbD_and,BitVec.getLsbD_not,BitVec.getLsbD_ofNat,BitVec.getLsbD_ofNat];simp [hi]
 ·have h1:a.testBit i=false:=Vf (S6 ha (Tm (by decide) (by omega)));rw[h1,<- BitVec.getLsbD,BitVec.getLsbD_of_ge _ _ (by omega)];rfl
theorem sg {m:Nat}(h:m<2 ^ 64):IntKind.u64.wrap (m:Int)=m:=UR _ (by omega)
theorem Rq {a b:Nat}(ha:a<2 ^ 64)(hb:b<2 ^ 64):bh P .and t x y (.lit (.int .u64 (a:Int))) (.lit (.int .u64 (b:Int)))=some (.lit (.int .u64 ((a &&& b:Nat):Int))):=by
 rw[vF];have e:(BitVec.ofInt (IntKind.bits .u64) (a:Int) &&& BitVec.ofInt (IntKind.bits .u64) (b:Int)).toNat=a &&& b:=by
  show (BitVec.ofInt 64 _ &&& BitVec.ofInt 64 _).toNat=_;rw[BitVec.toNat_and,pV ha,pV hb]
 rw[e,sg (Vs Nat.and_le_left ha)]
theorem kO {a b:Nat}(ha:a<2 ^ 64)(hb:b<2 ^ 64):bh P .or t x y (.lit (.int .u64 (a:Int))) (.lit (.int .u64 (b:Int)))=some (.lit (.int .u64 ((a ||| b:Nat):Int))):=by
 rw[Rm];have e:(BitVec.ofInt (IntKind.bits .u64) (a:Int) ||| BitVec.ofInt (IntKind.bits .u64) (b:Int)).toNat=a ||| b:=by
  show (BitVec.ofInt 64 _ ||| BitVec.ofInt 64 _).toNat=_;rw[BitVec.toNat_or,pV ha,pV hb]
 rw[e,sg (UW ha hb)]
theorem Rr {a b:Nat}(ha:a<2 ^ 64)(hb:b<2 ^ 64):bh P .xor t x y (.lit (.int .u64 (a:Int))) (.lit (.int .u64 (b:Int)))=some (.lit (.int .u64 ((a ^^^ b:Nat):Int))):=by
 rw[Ro];have e:(BitVec.ofInt (IntKind.bits .u64) (a:Int) ^^^ BitVec.ofInt (IntKind.bits .u64) (b:Int)).toNat=a ^^^ b:=by
  show (BitVec.ofInt 64 _ ^^^ BitVec.ofInt 64 _).toNat=_;rw[BitVec.toNat_xor,pV ha,pV hb]
 rw[e,sg (Vr ha hb)]
theorem zC {a b:Nat}:bh P .andNot t x y (.lit (.int .u64 (a:Int))) (.lit (.int .u64 (b:Int)))=some (.lit (.int .u64 ((gF a b:Nat):Int))):=by
 rw[Rp];have e:(BitVec.ofInt (IntKind.bits .u64) (a:Int) &&& ~~~ BitVec.ofInt (IntKind.bits .u64) (b:Int)).toNat=gF a b:=by
  show (BitVec.ofInt 64 _ &&& ~~~ BitVec.ofInt 64 _).toNat=_;rw[BitVec.ofInt_natCast,BitVec.ofInt_natCast];rfl
 rw[e,sg (Er a b)]
theorem kP {a s:Nat}(ha:a<2 ^ 64):bh P .shr t x y (.lit (.int .u64 (a:Int))) (.lit (.int k' (s:Int)))=some (.lit (.int .u64 ((a >>> s:Nat):Int))):=by
 rw[vE (by omega),Int.toNat_natCast];have e:(a:Int).fdiv (2 ^ (min s (IntKind.bits .u64)))=((a >>> s:Nat):Int):=by
  rw[Int.fdiv_eq_ediv_of_nonneg _ (by exact_mod_cast U1 _),U7];show (a:Int) / 2 ^ (min s 64)=_;rcases Nat.le_total s 64 with h|h
  ·rw[Uw h];push_cast;rfl
  ·rw[Nat.min_eq_right h];have h1:a / 2 ^ s=0:=Nat.div_eq_of_lt (S6 ha (Tm (by decide) h));rw[h1];exact Vh (by omega) (by omega)
 rw[e]
theorem nU {s:Nat}(hs:s<64):bh P .shl t x y (.lit (.int .u64 1)) (.lit (.int k' (s:Int)))=some (.lit (.int .u64 ((2 ^ s:Nat):Int))):=by
 rw[zA (by omega),Int.toNat_natCast];have e:min s (IntKind.bits .u64)=s:=Uw (by show s<=64;omega);have h2:2 ^ s<2 ^ 64:=Ug (by decide) hs;rw[e,Vq];have h3:((2:Int) ^ s)=((2 ^ s:Nat):Int):=by push_cast;rfl
 rw[h3,sg h2]
theorem mQ {a s:Nat}(ha:a<2 ^ 64):bh P .and t x y (.lit (.int .u64 ((a >>> s:Nat):Int))) (.lit (.int .u64 1))=some (.lit (.int .u64 (if a.testBit s then 1 else 0))):=by
 have h1:a >>> s<2 ^ 64:=Vs (Nat.shiftRight_le _ _) ha;have:=Rq (P:=P) (t:=t) (x:=x) (y:=y) (a:=a >>> s) (b:=1) h1 (by decide);rw[show (((1:Nat):Int))=1 from rfl]at this;rw[this,Nat.and_one_is_mod];congr 3;rw[Nat.testBit,Nat.and_comm,Nat.and_one_is_mod];rcases TS (a >>> s) with h|h<;>rw[h]<;>rfl
end
end Go.Hx
namespace Go.Proofs
open Go.Hx
theorem bQ (H:AHeap)(b:Blk)(L:List Blk):(ext H (b :: L)).get H.next=some b:=bB H (b :: L) 0 (by simp)
theorem Es (l:List Int)(n:Nat):(ints l).take n=ints (l.take n):=by simp [ints]
theorem Et (l:List Int)(n:Nat):(ints l).drop n=ints (l.drop n):=by simp [ints]
theorem aK {α:Type}{l:List α}{i:Nat}{a:α}(h:l[i]?=some a):¬ l=[]:=by rintro rfl;simp at h
theorem gD {l:List Int}{i:Nat}{x:Int}(h:i<l.length):setAt (ints l) i [.lit (.int .i64 x)]=ints (l.set i x):=by
 rw[dS (by simpa [ints] using h)];simp [ints,aa]
theorem Eu (w:Bool):qG w (some (.lit undef))=some false:=rfl
def aH (ns:List NodeP)(x:NodeP):List Int:=aF (ao ns) x.parents
def bp:List Int->List Int->Int
 | _ :: cs,v :: vs=>v*au cs+bp cs vs
 | _,_=>0
def bC:List Int->Int->List Int
 | [],_=>[]
 | c :: cs,i=>i / au cs % c :: bC cs i
theorem rN (cs:List Int)(i:Int):(bC cs i).length=cs.length:=by
 induction cs with
 | nil=>rfl
 | cons c cs ih=>simp [bC,ih]
theorem O4 {cs:List Int}{k:Nat}{c:Int}(h:cs[k]?=some c)(i:Int):bC (cs.drop k) i=(i / au (cs.drop (k+1)) % c) :: bC (cs.drop (k+1)) i:=by
 have:cs.drop k=c :: cs.drop (k+1):=by
  rw[TC (get_lt h)];congr 1;have:=SN (get_lt h);rw[h]at this;exact(Option.some.inj this).symm
 rw[this];rfl
theorem lz {α:Type}{l:List α}{k:Nat}{a:α}(h:l[k]?=some a):l.drop k=a :: l.drop (k+1):=by
 rw[TC (get_lt h)];congr 1;have:=SN (get_lt h);rw[h]at this;exact(Option.some.inj this).symm
theorem yz {cs:List Int}(h:∀ c∈cs,1<=c)(i:Int):∀ (k:Nat) (c v:Int),cs[k]?=some c->(bC cs i)[k]?=some v->0<=v/\v<c:=by
 induction cs with
 | nil=>intro k c v h;simp at h
 | cons a cs ih =>
  intro k c v h1 h2;cases k with
  | zero =>
   simp only[bC,List.getElem?_cons_zero,Option.some.injEq]at h1 h2;subst h1;subst h2;have:=h a (by simp);exact⟨Ue _ (by omega),T7 _ (by omega)⟩
  | succ k =>
   simp only[bC,List.getElem?_cons_succ]at h1 h2;exact ih (fun c hc=>h c (by simp [hc])) k c v h1 h2
def bL (cs vs:List Int):Prop:=vs.length=cs.length/\∀ (k:Nat) (c v:Int),cs[k]?=some c->vs[k]?=some v->0<=v/\v<c
theorem bL.tail {c v:Int}{cs vs:List Int}(h:bL (c :: cs) (v :: vs)):bL cs vs:=⟨by simpa using h.1,fun k c v h1 h2=>h.2 (k+1) c v (by simpa using h1) (by simpa using h2)⟩
theorem bL.head {c v:Int}{cs vs:List Int}(h:bL (c :: cs) (v :: vs)):0<=v/\v<c:=h.2 0 c v (by simp) (by simp)
theorem bL.pos {cs vs:List Int}(h:bL cs vs):∀ c∈cs,1<=c:=fun c hc=>by
 obtain⟨k,hk⟩:=S8.1 hc;obtain⟨v,hv⟩:=get_of_lt (l:=vs) (i:=k) (by rw[h.1];exact get_lt hk);have:=h.2 k c v hk hv;omega
theorem rO {cs:List Int}(h:∀ c∈cs,1<=c)(i:Int):bL cs (bC cs i):=⟨rN cs i,yz h i⟩
theorem kE:∀ {cs vs:List Int},bL cs vs->0<=bp cs vs/\bp cs vs<au cs:=by
 intro cs
 induction cs with
 | nil=>intro vs _;cases vs<;>(simp [bp,gi])
 | cons c cs ih =>
  intro vs h;cases vs with
  | nil=>exact absurd h.1 (by simp)
  | cons v vs =>
   have h1:=ih h.tail;have h2:=h.head;have hp:1<=au cs:=fw fun x hx=>h.pos x (by simp [hx]);rw[il];simp only[bp];have h3:0<=v*au cs:=Us h2.1 (by omega);have h4:(v+1)*au cs<=c*au cs:=Uz (by omega) (by omega);rw[VJ,Vq]at h4;omega
theorem yA:∀ {cs vs:List Int},bL cs vs->bC cs (bp cs vs)=vs:=by
 have key:∀ (cs:List Int) (i a c:Int),(∀ x∈cs,1<=x)->bC cs (a*au cs*c+i)=bC cs i:=by
  intro cs
  induction cs with
  | nil=>intros;rfl
  | cons x cs ih =>
   intro i a c h;have hx:=h x (by simp);have hp:1<=au cs:=fw fun y hy=>h y (by simp [hy]);simp only[bC,il];have e1:a*(x*au cs)*c+i=i+au cs*(x*(a*c)):=by
    rw[VD];congr 1;ac_rfl
   have e2:a*(x*au cs)*c+i=a*au cs*(x*c)+i:=(by congr 1;ac_rfl);congr 1
   ·rw[e1,Int.add_mul_ediv_left _ _ (by omega),Int.add_mul_emod_self_left]
   ·rw[e2];exact ih i a (x*c) fun y hy=>h y (by simp [hy])
 intro cs
 induction cs with
 | nil=>intro vs h;cases vs with
  | nil=>rfl
  | cons=>exact absurd h.1 (by simp)
 | cons c cs ih =>
  intro vs h;cases vs with
  | nil=>exact absurd h.1 (by simp)
  | cons v vs =>
   have hp:1<=au cs:=fw fun x hx=>h.pos x (by simp [hx]);have hr:=kE h.tail;have h2:=h.head;simp only[bp,bC];congr 1
   ·rw[VD,VV _ _ (by omega),Vh hr.1 hr.2,Int.zero_add,U9 h2.1 h2.2]
   ·have:=key cs (bp cs vs) v 1 fun x hx=>h.pos x (by simp [hx]);rw[V7]at this;rw[this];exact ih h.tail
theorem O5 (i m n:Int)(hm:0<m)(hn:0<n):i % (m*n)=i % m+m*(i / m % n):=by
 have h1:=Vl i (m*n);have h2:=Vl i m;have h3:=Vl (i / m) n;have h4:i / m / n=i / (m*n):=VR (by omega);rw[h4]at h3;have h5:m*(i / m)=m*(i / m % n)+m*n*(i / (m*n)):=by
  conv=>lhs;rw[<- h3]
  rw[Vb,VQ]
 omega
theorem yB {cs:List Int}(h:∀ c∈cs,1<=c):∀ {i:Int},0<=i->i<au cs->bp cs (bC cs i)=i:=by
 have:∀ (cs:List Int) (i:Int),(∀ c∈cs,1<=c)->bp cs (bC cs i)=i % au cs:=by
  intro cs
  induction cs with
  | nil=>intro i _;simp [bp,bC,gi]
  | cons c cs ih =>
   intro i h;have hp:1<=au cs:=fw fun x hx=>h x (by simp [hx]);simp only[bp,bC];rw[ih i fun x hx=>h x (by simp [hx]),il,Ur c,O5 _ _ _ (by omega:0<au cs) (by have:=h c (by simp);omega)];rw[Ur];omega
 intro i h0 h1;rw[this cs i h,U9 h0 h1]
def fK (cs vs:List Int):Int:=(cs.zip vs).foldl (fun a p=>a*p.1+p.2) 0
theorem O6:∀ (cs vs:List Int),vs.length=cs.length->∀ a,(cs.zip vs).foldl (fun a p=>a*p.1+p.2) a=a*au cs+bp cs vs:=by
 intro cs
 induction cs with
 | nil=>intro vs _ a;simp [gi,bp]
 | cons c cs ih =>
  intro vs h a;cases vs with
  | nil=>simp at h
  | cons v vs =>
   simp only[Uf,TX];rw[ih vs (by simpa using h),il];simp only[bp];rw[VJ,VQ];omega
theorem uK {cs vs:List Int}(h:vs.length=cs.length):fK cs vs=bp cs vs:=by
 unfold fK;rw[O6 cs vs h];omega
theorem uL {cs vs:List Int}{k:Nat}{c v:Int}(h1:cs[k]?=some c)(h2:vs[k]?=some v):fK (cs.take (k+1)) (vs.take (k+1))=fK (cs.take k) (vs.take k)*c+v:=by
 unfold fK;rw[aO h1,aO h2,List.zip_append (by have:=get_lt h1;have:=get_lt h2;simp;omega),Ua];rfl
def jM:List Int->List Int->Option (List Int)
 | c :: cs,v :: vs=>match jM cs vs with
  | some ws=>some (v :: ws)
  | none=>if v+1<c then some ((v+1) :: cs.map fun _=>0) else none
 | _,_=>none
theorem CS {cs:List Int}(h:∀ c∈cs,1<=c):bC cs 0=cs.map fun _=>0:=by
 induction cs with
 | nil=>rfl
 | cons c cs ih=>simp [bC,ih fun x hx=>h x (by simp [hx])]
theorem O7:∀ {cs vs:List Int},bL cs vs->jM cs vs=if bp cs vs+1<au cs then some (bC cs (bp cs vs+1)) else none:=by
 intro cs
 induction cs with
 | nil=>intro vs h;cases vs with
  | nil=>simp [jM,bp,gi]
  | cons=>exact absurd h.1 (by simp)
 | cons c cs ih =>
  intro vs h;cases vs with
  | nil=>exact absurd h.1 (by simp)
  | cons v vs =>
   have hpos:∀ x∈cs,1<=x:=fun x hx=>h.pos x (by simp [hx]);have hp:1<=au cs:=fw hpos;have hr:=kE h.tail;have h2:=h.head;have hv:=yA h.tail;simp only[jM,ih h.tail,bp,il];by_cases hb:bp cs vs+1<au cs
   ·rw[SQ hb];have h4:(v+1)*au cs<=c*au cs:=Uz (by omega) (by omega);rw[VJ,Vq]at h4;have hlt:v*au cs+bp cs vs+1<c*au cs:=(by omega);rw[SQ hlt];simp only[bC];have g1:v=(v*au cs+bp cs vs+1) / au cs % c:=by
     rw[Int.add_assoc,VD,VV _ _ (by omega),Vh (by omega) hb,Int.zero_add,U9 h2.1 h2.2]
    have g2:bC cs (bp cs vs+1)=bC cs (v*au cs+bp cs vs+1):=by
     have e:bp cs vs+1=bp cs (bC cs (bp cs vs+1)):=(yB hpos (by omega) hb).symm;have f:bL (c :: cs) (v :: bC cs (bp cs vs+1)):=⟨by simp [rN],fun k c' v' h1 h3=>by
      cases k with
      | zero=>simp at h1 h3;subst h1;subst h3;exact h2
      | succ k=>exact yz hpos _ k c' v' (by simpa using h1) (by simpa using h3)⟩
     have:=yA f;simp only[bp,bC,List.cons.injEq]at this;rw[<- e]at this;rw[Int.add_assoc];exact this.2.symm
    rw[<- g1,<- g2]
   ·rw[SO hb];have hi:bp cs vs+1=au cs:=(by omega);have e1:v*au cs+bp cs vs+1=(v+1)*au cs:=(by rw[VJ];omega);rw[e1];by_cases hc:v+1<c
    ·rw[SQ hc];have h4:(v+1)*au cs<c*au cs:=Int.mul_lt_mul_of_pos_right hc (by omega);rw[SQ h4];simp only[bC];congr 1;congr 1
     ·rw[Int.mul_ediv_cancel _ (by omega),U9 (by omega) hc]
     ·have f:bL (c :: cs) ((v+1) :: bC cs 0):=⟨by simp [rN],fun k c' v' h1 h3=>by
       cases k with
       | zero=>simp at h1 h3;subst h1;subst h3;omega
       | succ k=>exact yz hpos _ k c' v' (by simpa using h1) (by simpa using h3)⟩
      have:=yA f;simp only[bp,bC,List.cons.injEq]at this;rw[yB hpos (Int.le_refl 0) (by omega),UA]at this;rw[this.2,CS hpos]
    ·rw[SO hc];have h4:c*au cs<=(v+1)*au cs:=Uz (by omega) (by omega);rw[SO (by omega)]
def cU (l:List Int):Prop:=l.length<=12/\∀ x∈l,0<=x/\x<=8
theorem cU.prod {l:List Int}(h:cU l):0<=au l/\au l<=68719476736:=by
 have h1:=nI (b:=8) (by omega) h.2;have h2:(8:Int) ^ l.length<=8 ^ 12:=by
  have:(8:Nat) ^ l.length<=8 ^ 12:=Tm (by decide) h.1
  exact_mod_cast this
 exact⟨h1.1,VZ h1.2 h2⟩
theorem cU.take {l:List Int}(h:cU l)(k:Nat):cU (l.take k):=⟨by have:=h.1;simp;omega,fun x hx=>h.2 x (Tg hx)⟩
theorem cU.drop {l:List Int}(h:cU l)(k:Nat):cU (l.drop k):=⟨by have:=h.1;simp;omega,fun x hx=>h.2 x (T8 hx)⟩
theorem vq (l:List Int)(hl:cU l)(H:AHeap)(K:ARes->AHeap->Prop)(hK:K (.ret (aa (au l))) H):ae Tryz.prog G0 100 [af l] H K:=by
 have l12:=hl.1;refine ae.aZ (n:=18) (rs:=[.tmp 2]) Tryz.func100 rfl rfl rfl (by decide) (by kernel_rfl) (by simp) ?_;simp only[go_sem];refine W.aL 131064 (by rfl) (fun ρ H'=>H'=H/\∃ k:Nat,ρ 4=aa k/\k<=l.length/\ρ 3=aa (au (l.take k))) (fun ρ H=>l.length - (iv (ρ 4)).toNat) ?_ ?_
 ·simp only[go_sem];exact⟨0,rfl,by omega,by simp [gi]⟩
 rintro ρ H' ⟨rfl,k,h4,hk,h3⟩;refine W.vs ?_;by_cases hb:(k:Int)<l.length
 ·obtain⟨c,hc⟩:=get_of_lt (l:=l) (i:=k) (by omega);have hne:=aK hc;have b1:=(hl.take (k+1)).prod;rw[aO hc,eO]at b1;simp only[go_sem,h4,h3,hb,hc,hne];rw[SM ((k:Int)+1) (by omega),SM (_*c) (by omega)];exact⟨⟨k+1,by simp,by omega,by rw[aO hc,eO]⟩,by omega⟩
 ·simp only[go_sem,h4,h3,hb];rw[SP (by omega)];exact ay.mk (Nat.le_refl _) hK
theorem zg (cs vs:List Int)(hc:cU cs)(hf:bL cs vs)(H:AHeap)(K:ARes->AHeap->Prop)(hK:K (.ret (aa (bp cs vs))) H):ae Tryz.prog G0 75 [af cs,af vs] H K:=by
 have l12:=hc.1;have hl:=hf.1;refine ae.aZ (n:=30) (rs:=[.tmp 4]) Tryz.func75 rfl rfl rfl (by decide) (by kernel_rfl) (by simp) ?_;simp only[go_sem];have w0:=SM ((cs.length:Int) - 1) (by omega);rw[w0];refine W.aL 536869088 (by rfl) (fun ρ H'=>H'=H/\∃ k:Nat,ρ 7=aa ((k:Int) - 1)/\k<=cs.length/\ρ 5=aa (bp (cs.drop k) (vs.drop k))/\ρ 6=aa (au (cs.drop k))) (fun ρ H=>(iv (ρ 7)+1).toNat) ?_ ?_
 ·simp only[go_sem];exact⟨cs.length,rfl,by omega,by simp [bp],by simp [gi]⟩
 rintro ρ H' ⟨rfl,k,h7,hk,h5,h6⟩;refine W.vs ?_;by_cases hb:(k:Int) - 1 >= 0
 ·obtain⟨j,rfl⟩:∃ j,k=j+1:=⟨k - 1,by omega⟩
  obtain⟨c,hcj⟩:=get_of_lt (l:=cs) (i:=j) (by omega);obtain⟨v,hvj⟩:=get_of_lt (l:=vs) (i:=j) (by omega);have hne:=aK hcj;have hne2:=aK hvj;have e1:((j+1:Nat):Int) - 1=j:=by omega
  rw[e1]at h7;have hb':(j:Int) >= 0:=by omega
  have hj1:(j:Int)<cs.length:=by omega
  have hj2:(j:Int)<vs.length:=by omega
  have b0:=hc.drop j;have b1:=b0.prod;have fd:bL (cs.drop j) (vs.drop j):=⟨by simp [hl],fun i c v h1 h2=>hf.2 (j+i) c v (by rw[T6]at h1;exact h1) (by rw[T6]at h2;exact h2)⟩
  rw[lz hcj,lz hvj]at fd;rw[lz hcj,il]at b1;have r1:=kE fd;have r2:=kE fd.tail;have r3:=fd.head;simp only[bp,il]at r1;have p1:0<=au (cs.drop (j+1)):=(hc.drop (j+1)).prod.1;have m1:0<=v*au (cs.drop (j+1)):=Us r3.1 p1;have cc:au (cs.drop (j+1))*c=c*au (cs.drop (j+1)):=Ur _ _;have w1:=SM ((j:Int) - 1) (by omega);have w2:=SM (v*au (cs.drop (j+1))) (by omega);have w3:=SM (bp (cs.drop (j+1)) (vs.drop (j+1))+v*au (cs.drop (j+1))) (by omega);have w4:=SM (au (cs.drop (j+1))*c) (by omega);simp only[go_sem,h7,h5,h6,hb',hcj,hvj,hne,hne2,hj1,hj2,w1,w2,w3,w4];refine⟨⟨j,rfl,by omega,?_,?_⟩,by omega⟩
  ·rw[lz hcj,lz hvj];simp only[bp];show aa _=aa _;rw[VD]
  ·rw[lz hcj,il];show aa _=aa _;rw[Ur]
 ·have h0:k=0:=by omega
  subst h0;have hb':¬ ((0:Nat):Int) - 1 >= 0:=hb;simp only[List.drop_zero]at h5 h6;have h7':ρ 7=aa (-1):=h7;simp only[go_sem,h7',h5];exact ay.mk (Nat.le_refl _) hK
theorem DX (x:List Int)(hx:(x.length:Int)<2 ^ 40)(H:AHeap)(K:ARes->AHeap->Prop)(hK:K (.ret (af x)) H):ae Tryz.prog G0 49 [af x] H K:=by
 refine ae.clo ⟨_,Tryz.func49,rfl,rfl⟩ fun hc=>?_;refine ae.aZ (n:=8) (rs:=[.tmp 2]) Tryz.func49 rfl rfl rfl (by decide) (by kernel_rfl) (by simp) ?_;simp only[go_sem];intro b hlen;cases b with
 | true =>
  have hx0:x=[]:=SY (by
   by_cases h:0<x.length
   ·have:=hlen (by simpa using h);cases this
   ·omega)
  simp only[go_sem];subst hx0;exact ay.Bm aS hc .ta hK
 | false =>
  by_cases h0:x.length=0
  ·have hx0:x=[]:=SY h0;subst hx0;simp only[go_sem,di];refine⟨⟨rfl,rfl⟩,ay.drop (v':=af []) aS hc ?_ hK⟩;exact .ints (Nat.le_refl _) (bQ ..) rfl fun i hi=>absurd hi (S7 _)
  ·simp only[go_sem,h0,di];refine⟨⟨rfl,by omega,by omega,iY x⟩,ay.drop aS hc ?_ hK⟩;exact .ints (Nat.le_refl _) (bQ ..) rfl fun i hi=>by simp [gJ,hi]
instance placesDec (l:List Int)(n:Int):Decidable (bK l n):=by unfold bK;infer_instance
theorem bK.nil {n:Int}:bK [] n:=⟨.nil,fun _ h=>by cases h⟩
theorem bK.take {l:List Int}{n:Int}(h:bK l n)(k:Nat):bK (l.take k) n:=⟨h.1.sublist (List.take_sublist k l),fun p hp=>h.2 p (Tg hp)⟩
theorem bK.snoc {l:List Int}{n a:Int}(h:bK l n)(ha:0<=a/\a<n)(hl:∀ b,l.getLast?=some b->b<a):bK (l++[a]) n:=by
 refine⟨Ut.2 ⟨h.1,by simp,fun x hx y hy=>?_⟩,fun p hp=>?_⟩
 ·obtain rfl:=List.mem_singleton.1 hy;rcases VX l with rfl|⟨l',b,rfl⟩
  ·cases hx
  ·have hb:=hl b (by simp);simp only[VY]at hx h;rcases Ta.1 hx with hx|hx
   ·have:=(Ut.1 h.1).2.2 x hx b (by simp);omega
   ·obtain rfl:=List.mem_singleton.1 hx;exact hb
 ·rcases Ta.1 hp with hp|hp
  ·exact h.2 p hp
  ·obtain rfl:=List.mem_singleton.1 hp;exact ha
theorem bK.lt {l:List Int}{n:Int}(h:bK l n){i j:Nat}{a b:Int}(ha:l[i]?=some a)(hb:l[j]?=some b)(hij:i<j):a<b:=by
 have:=List.pairwise_iff_getElem.1 h.1 i j (get_lt ha) (get_lt hb) hij;have e1:=SN (get_lt ha);have e2:=SN (get_lt hb);rw[ha]at e1;rw[hb]at e2;rw[Option.some.inj e1,Option.some.inj e2];exact this
theorem bK.len {l:List Int}{n:Int}(h:bK l n):(l.length:Int)<=max n 0:=by
  -- the k-th place is at least k
 have key:∀ (k:Nat) (a:Int),l[k]?=some a->(k:Int)<=a:=by
  intro k
  induction k with
  | zero=>intro a ha;have:=h.2 a (SK ha);omega
  | succ k ih =>
   intro a ha;obtain⟨b,hb⟩:=get_of_lt (l:=l) (i:=k) (by have:=get_lt ha;omega);have:=ih b hb;have:=h.lt hb ha (by omega);omega
 rcases T2 l.length with h0|h0
 ·omega
 ·obtain⟨a,ha⟩:=get_of_lt (l:=l) (i:=l.length - 1) (by omega);have h1:=key _ a ha;have h2:=h.2 a (SK ha);omega
theorem rZ {l:List Int}{j:Nat}{b:Int}(h:l[j]?=some b):(l.take (j+1)).getLast?=some b:=by rw[aO h];simp
theorem DY (l:List Int)(n:Int)(hl:(l.length:Int)<2 ^ 62)(H:AHeap)(K:ARes->AHeap->Prop)(hK:K (.ret (.lit (.bool (decide (bK l n))))) H):ae Tryz.prog G0 113 [af l,aa n] H K:=by
 have no:¬ bK l n->ay Tryz.prog G0 H K (.lit (.bool false)) H:=fun h=>ay.mk (Nat.le_refl _) (by rw[UH h]at hK;exact hK);refine ae.aZ (n:=41) (rs:=[.tmp 4]) Tryz.func113 rfl rfl rfl (by decide) (by kernel_rfl) (by simp) ?_;simp only[go_sem];refine W.aL 2199023255536 (by rfl) (fun ρ H'=>H'=H/\∃ k:Nat,ρ 5=aa k/\k<=l.length/\bK (l.take k) n) (fun ρ H=>l.length - (iv (ρ 5)).toNat) ?_ ?_
 ·simp only[go_sem];exact⟨0,rfl,by omega,.nil⟩
 rintro ρ H' ⟨rfl,k,h5,hk,hp⟩;refine W.vs ?_;by_cases hb:(k:Int)<l.length
 ·obtain⟨a,ha⟩:=get_of_lt (l:=l) (i:=k) (by omega);have hne:=aK ha;have ham:=SK ha;simp only[go_sem,h5,hb];refine W.draw 26 [0,0,3,7,15,31,63,63,255,511,63,2047,4095,8191,16383,32767,65535,131071,131071,524287,1048575,131071,131071,4325375,14811135,31588351] Tryz.mixed (by kernel_rfl) (by kernel_rfl) ?_;by_cases c1:a<0
  ·simp only[go_sem,h5,hb,ha,hne,c1,Eu];exact no fun h=>by have:=h.2 a ham;omega
  by_cases c2:a >= n
  ·simp only[go_sem,h5,hb,ha,hne,c1,c2,Eu];exact no fun h=>by have:=h.2 a ham;omega
  by_cases c3:(k:Int) > 0
  ·obtain⟨j,rfl⟩:∃ j,k=j+1:=⟨k - 1,by omega⟩
   obtain⟨b,hbj⟩:=get_of_lt (l:=l) (i:=j) (by omega);have w1:=SM (j:Int) (by omega);have w2:=SM (((j+1:Nat):Int)+1) (by omega);have e1:((j+1:Nat):Int) - 1=j:=(by omega);have hb1:(j:Int)<l.length:=(by omega);have hbj':=hbj;by_cases c4:a<=b
   ·simp only[go_sem,h5,hb,ha,hne,c1,c2,c3,c4,w1,e1,hb1,hbj];exact no fun h=>by have:=h.lt hbj ha (by omega);omega
   ·simp only[go_sem,h5,hb,ha,hne,c1,c2,c3,c4,w1,w2,e1,hb1,hbj];refine⟨⟨j+1+1,by simp,by omega,?_⟩,by omega⟩;rw[aO ha];exact hp.snoc (by omega) fun b' hb'=>by
     rw[rZ hbj]at hb';cases hb';omega
  ·simp only[go_sem,h5,hb,ha,hne,c1,c2,c3];rw[SM ((k:Int)+1) (by omega)];obtain rfl:k=0:=(by omega);refine⟨⟨1,by simp,by omega,?_⟩,by omega⟩;rw[aO ha];exact hp.snoc (by omega) fun b' hb'=>by simp at hb'
 ·simp only[go_sem,h5,hb];rw[SP (by omega)]at hp;rw[T1 hp]at hK;exact ay.mk (Nat.le_refl _) hK
theorem DZ (l:List Int)(n:Int)(hl:(l.length:Int)<2 ^ 62)(H:AHeap)(K:ARes->AHeap->Prop)(hK:K (.ret (.lit (.bool (decide (bK l n))))) H):ae Tryz.prog G0 146 [af l,aa n] H K:=by
 have no:¬ bK l n->ay Tryz.prog G0 H K (.lit (.bool false)) H:=fun h=>ay.mk (Nat.le_refl _) (by rw[UH h]at hK;exact hK);refine ae.aZ (n:=24) (rs:=[.tmp 4]) Tryz.func146 rfl rfl rfl (by decide) (by kernel_rfl) (by simp) ?_;simp only[go_sem];refine W.aL 16776368 (by rfl) (fun ρ H'=>H'=H/\∃ (k:Nat) (b:Int),ρ 10=aa k/\k<=l.length/\ρ 5=aa b/\bK (l.take k) n/\(l.take k).getLast?.getD (-1)=b) (fun ρ H=>l.length - (iv (ρ 10)).toNat) ?_ ?_
 ·simp only[go_sem];exact⟨0,-1,rfl,by omega,rfl,.nil,rfl⟩
 rintro ρ H' ⟨rfl,k,b,h10,hk,h5,hp,hbl⟩;refine W.vs ?_;by_cases hb:(k:Int)<l.length
 ·obtain⟨a,ha⟩:=get_of_lt (l:=l) (i:=k) (by omega);have hne:=aK ha;have ham:=SK ha;by_cases c1:a<=b
  ·simp only[go_sem,h10,h5,hb,ha,hne,c1];refine no fun h=>?_;have h0:=h.2 a ham;rcases T2 k with rfl|hk0
   ·simp at hbl;omega
   ·obtain⟨j,rfl⟩:∃ j,k=j+1:=⟨k - 1,by omega⟩
    obtain⟨b',hbj⟩:=get_of_lt (l:=l) (i:=j) (by omega);rw[rZ hbj]at hbl;have:=h.lt hbj ha (by omega);simp at hbl;omega
  by_cases c2:a >= n
  ·simp only[go_sem,h10,h5,hb,ha,hne,c1,c2];exact no fun h=>by have:=h.2 a ham;omega
  have w1:=SM ((k:Int)+1) (by omega);simp only[go_sem,h10,h5,hb,ha,hne,c1,c2,w1];have h0:0<=a:=by
   rcases hg:(l.take k).getLast? with _|b'
   ·rw[hg]at hbl;simp at hbl;omega
   ·rw[hg]at hbl;have:=hp.2 b' (V0 hg);simp at hbl;omega
  refine⟨⟨k+1,a,by simp,by omega,rfl,?_,by rw[rZ ha];rfl⟩,by omega⟩;rw[aO ha];exact hp.snoc ⟨h0,by omega⟩ fun b' hb'=>by rw[hb']at hbl;simp at hbl;omega
 ·simp only[go_sem,h10,hb];rw[SP (by omega)]at hp;rw[T1 hp]at hK;exact ay.mk (Nat.le_refl _) hK
end Go.Proofs
namespace Go.Hx
theorem Over.live {H H':AHeap}(h:Over H H'){id g:Nat}(hi:id<H.next):H'.live id g=H.live id g:=by
 unfold AHeap.live;rw[h.old id hi]
theorem Over.upd {H H':AHeap}(h:Over H H'){id:Nat}(hi:H.next<=id)(b:Blk):Over H (H'.upd id b):=⟨h.next,fun j hj=>by rw[ab,SO (by omega)];exact h.old j hj⟩
theorem zD {H:AHeap}{id g:Nat}{e:TypeId}{c:List AVal}:(H.upd id (.arr g e c)).live id g=some (e,c):=ag (by rw[ab,SQ rfl])
theorem nV {H:AHeap}{id j g:Nat}{b:Blk}(h:j≠id):(H.upd id b).live j g=H.live j g:=by unfold AHeap.live;rw[ab,SO h]
attribute [go_sem] zD
@[go_sem] theorem SJ (a b:Array TypeId)(c:Bool)(n:Nat)(cells:List AVal)(off:Nat):lg (some (.func a b c)) n cells off=cells[off]?:=rfl
end Go.Hx
namespace Go.Proofs
open Go.Hx
theorem mJ {H H' H2:AHeap}{e:TypeId}{v:AVal}{cs:List AVal}(ov:Over H H')(h:aA H.next H' e v cs)(hn:H'.next<=H2.next)(hp:∀ k,k<H'.next->(∀ g n,v≠.own k g 0 n 1)->H2.get k=H'.get k):Over H H2 :=
 ⟨TA ov.next hn,fun id hi=>by
  rw[hp id (S6 hi ov.next) fun g n he=>?_,ov.old id hi];rcases h with ⟨h,_⟩|⟨i2,g2,a1,_,h,_⟩
  ·rw[h]at he;cases he
  ·rw[h]at he;have:=AVal.own.inj he;omega⟩
theorem iQ {H H':AHeap}{v:AVal}{l:List Int}(x:Int)(ov:Over H H')(h:aA H.next H' 3 v (ints l))(hl:l.length<2 ^ 40):
  ∃ v' H2,bf Tryz.prog (ext H' [.arr 0 3 [.lit (.int .i64 x)]]) (H'.next+1) 46 46 v (.own H'.next 0 0 1 1)=some (v',H2)/\Over H H2/\aA H.next H2 3 v' (ints (l++[x]))/\H'.next<=H2.next/\(∀ k,k<H'.next->(∀ g n,v≠.own k g 0 n 1)->H2.get k=H'.get k):=by
 obtain⟨v',H2,hA,hO,hn2,hp⟩:=gL (P:=Tryz.prog) (H:=H') (t:=46) (x:=aa x) (n:=H'.next+1) Tryz.underlying46 Tryz.dx Tryz.dQ rfl (by rw[Tryz.eC,aP];omega) h ov.next rfl;simp only[aa]at hA;exact⟨v',H2,hA,mJ ov h hn2 hp,by simpa [ints,aa] using hO,hn2,hp⟩
theorem Ew {H H':AHeap}{v:AVal}{l:List AVal}(x:AVal)(hx:x.one=true)(ov:Over H H')(h:aA H.next H' 46 v l)(hl:l.length<2 ^ 40):
  ∃ v' H2,bf Tryz.prog (ext H' [.arr 0 46 [x]]) (H'.next+1) 33 33 v (.own H'.next 0 0 1 1)=some (v',H2)/\Over H H2/\aA H.next H2 46 v' (l++[x])/\H'.next<=H2.next/\(∀ k,k<H'.next->(∀ g n,v≠.own k g 0 n 1)->H2.get k=H'.get k):=by
 obtain⟨v',H2,hA,hO,hn2,hp⟩:=gL (P:=Tryz.prog) (H:=H') (t:=33) (x:=x) (n:=H'.next+1) Tryz.underlying33 Tryz.jL Tryz.kB hx (by rw[Tryz.kA];omega) h ov.next rfl;exact⟨v',H2,hA,mJ ov h hn2 hp,hO,hn2,hp⟩
theorem Rs (l:List (List Int)):(ah l).one=true:=rfl
theorem Rt (l:List (List Int)):(ah l).cells=[ah l]:=rfl
theorem Ru (l:List NodeP):(cj l).one=true:=rfl
theorem Rv (l:List NodeP):(cj l).cells=[cj l]:=rfl
theorem Rw (l:List UtilP):(uI l).one=true:=rfl
theorem Rx (l:List UtilP):(uI l).cells=[uI l]:=rfl
attribute [go_sem] Rs Rt Ru Rv Rw Rx
structure OwnI (H H':AHeap)(id:Nat)(c:List Int):Prop where
 ov:Over H H'
 lo:H.next<=id
 hi:id<H'.next
 get:H'.get id=some (.arr 0 3 (ints c))
theorem OwnI.live {H H':AHeap}{id:Nat}{c:List Int}(h:OwnI H H' id c):H'.live id 0=some (3,ints c):=ag h.get
theorem OwnI.Ry {H H':AHeap}{id:Nat}{c:List Int}(h:OwnI H H' id c)(L:List Blk):(ext H' L).live id 0=some (3,ints c):=by rw[dv h.hi];exact h.live
theorem OwnI.ne {H H':AHeap}{id:Nat}{c:List Int}(h:OwnI H H' id c):¬ id=H'.next:=by have:=h.hi;omega
theorem OwnI.over {H H' H2:AHeap}{id:Nat}{c:List Int}(h:OwnI H H' id c)(o:Over H' H2):OwnI H H2 id c:=⟨h.ov.trans o,h.lo,S6 h.hi o.next,(o.old id h.hi).trans h.get⟩
theorem OwnI.store {H H':AHeap}{id:Nat}{c:List Int}(h:OwnI H H' id c){k:Nat}(hk:k<c.length)(x:Int):OwnI H (H'.upd id (.arr 0 3 (setAt (ints c) k [.lit (.int .i64 x)]))) id (c.set k x) :=
 ⟨⟨h.ov.next,fun i hi=>by rw[ab,SO (by have:=h.lo;omega)];exact h.ov.old i hi⟩,h.lo,h.hi,by rw[ab,SQ rfl,gD hk]⟩
theorem OwnI.Rz {H H':AHeap}{id:Nat}{c:List Int}(h:OwnI H H' id c)(L:List Blk){k:Nat}(hk:k<c.length)(x:Int):OwnI H ((ext H' L).upd id (.arr 0 3 (setAt (ints c) k [.lit (.int .i64 x)]))) id (c.set k x) :=
 (h.over (.ext H' L)).store hk x
theorem OwnI.new {H:AHeap}(L:List Blk)(n:Nat):OwnI H (ext H (.arr 0 3 (List.replicate n (.lit (.int .i64 0))) :: L)) H.next (List.replicate n 0) :=
 ⟨.ext _ _,Nat.le_refl _,by simp [bI],by rw[bQ];simp [ints,aa]⟩
theorem OwnI.fin {H H':AHeap}{id:Nat}{c:List Int}{K:ARes->AHeap->Prop}(hcl:Clo H)(h:OwnI H H' id c){n:Nat}(hn:n=c.length)(hK:K (.ret (af c)) H):ay Tryz.prog G0 H K (.own id 0 0 n 1) H':=by
 subst hn;refine ay.bx aS hcl h.ov ?_ hK;exact .ints h.lo h.get (by simp) fun i hi=>by simp [gJ,hi]
theorem Ex {l m:List Int}{k:Nat}{x:Int}(h:l.take k=m.take k)(hk:k<l.length)(hx:m[k]?=some x):(l.set k x).take (k+1)=m.take (k+1):=by
 rw[aO hx,aO (show (l.set k x)[k]?=some x by rw[S1 hk]),U2 (Nat.le_refl k),h]
theorem bq {α:Type}{l:List α}{i:Nat}{a d:α}(h:l[i]?=some a):l.getD i d=a:=by rw[Td,h];rfl
theorem D0 {l places:List Int}{k:Nat}{p:Int}(h:places[k]?=some p):aF l (places.take (k+1))=aF l (places.take k)++[l.getD p.toNat 0]:=by
 unfold aF;rw[aO h];simp
theorem cL {ns:List NodeP}{k:Nat}{x:NodeP}(h:ns[k]?=some x):(ao ns)[k]?=some x.card:=by unfold ao;rw[List.getElem?_map,h];rfl
theorem cM (ns:List NodeP):(ao ns).length=ns.length:=by simp [ao]
theorem pS (l p:List Int)(hl:(l.length:Int)<2 ^ 40)(hp:(p.length:Int)<2 ^ 39)(hin:∀ q∈p,0<=q/\q<l.length)(H:AHeap)(K:ARes->AHeap->Prop)(hK:K (.ret (af (aF l p))) H):ae Tryz.prog G0 77 [af l,af p] H K:=by
 refine ae.clo ⟨_,Tryz.func77,rfl,rfl⟩ fun hcl=>?_;refine ae.aZ (n:=24) (rs:=[.tmp 4]) Tryz.func77 rfl rfl rfl (by decide) (by kernel_rfl) (by simp) ?_;simp only[go_sem];refine W.aL 8388576 (by rfl) (fun ρ H'=>∃ k:Nat,ρ 6=aa k/\k<=p.length/\Over H H'/\aA H.next H' 3 (ρ 5) (ints (aF l (p.take k)))) (fun ρ H=>p.length - (iv (ρ 6)).toNat) ?_ ?_
 ·simp only[go_sem];exact⟨0,rfl,by omega,.refl _,.nil⟩
 rintro ρ H' ⟨k,h6,hk,ov,h5⟩;refine W.vs ?_;by_cases hb:(k:Int)<p.length
 ·obtain⟨q,hq⟩:=get_of_lt (l:=p) (i:=k) (by omega);obtain⟨j,rfl,a,ha⟩:=lu (hin q (SK hq)).1 (hin q (SK hq)).2;have hne:=aK hq;have hne2:=aK ha;have hj:=get_lt ha;have hj':(j:Int)<l.length:=by omega
  obtain⟨v',H2,hA,ov2,hO,hn2,_⟩:=iQ a ov h5 (by simp [aF];omega);have w1:=SM ((k:Int)+1) (by omega);simp only[go_sem,h6,hb,hq,hne,ha,hne2,hj',w1,hA];refine⟨by have:=ov2.next;omega,⟨k+1,by simp,by omega,ov2,?_⟩,by omega⟩;rw[D0 hq,Int.toNat_natCast,bq ha];exact hO
 ·simp only[go_sem,h6,hb];rw[SP (by omega)]at h5;exact ay.bx aS hcl ov (h5.eX fun i hi=>hi) hK
theorem pT (g:Int)(ns:List NodeP)(hl:(ns.length:Int)<2 ^ 39)(H:AHeap)(K:ARes->AHeap->Prop)(hK:K (.ret (af (ao ns))) H):ae Tryz.prog G0 56 [bJ g ns] H K:=by
 refine ae.clo ⟨_,Tryz.func56,rfl,rfl⟩ fun hcl=>?_;refine ae.aZ (n:=22) (rs:=[.tmp 2]) Tryz.func56 rfl rfl rfl (by decide) (by kernel_rfl) (by simp) ?_;simp only[go_sem,bJ,cj];obtain⟨H1,hH1⟩:∃ H1,H1=ext H [.arr 0 103 [.lit (.int .i64 g),.vec ns.length (aG ns)]]:=⟨_,rfl⟩
 have l1:H1.live H.next 0=some (103,[.lit (.int .i64 g),.vec ns.length (aG ns)]):=by rw[hH1];exact ag (bQ ..)
 have n1:H1.next=H.next+1:=by rw[hH1];rfl
 have o1:Over H H1:=by rw[hH1];exact .ext _ _
 rw[<- hH1];refine W.aL 2097144 (by rfl) (fun ρ H'=>∃ k:Nat,ρ 4=aa k/\k<=ns.length/\ρ 1=.ptr H.next 0 0/\Over H1 H'/\aA H1.next H' 3 (ρ 3) (ints ((ao ns).take k))) (fun ρ H=>ns.length - (iv (ρ 4)).toNat) ?_ ?_
 ·simp only[go_sem];exact⟨0,rfl,by omega,.refl _,.nil⟩
 rintro ρ H' ⟨k,h4,hk,h1,ov,h3⟩;refine W.vs ?_;have l2:=(ov.live (g:=0) (by omega:H.next<H1.next)).trans l1;by_cases hb:(k:Int)<ns.length
 ·obtain⟨x,hx⟩:=get_of_lt (l:=ns) (i:=k) (by omega);have hne:=dC hx;have e0:=iJ hx;obtain⟨v',H2,hA,ov2,hO,hn2,_⟩:=iQ x.card ov h3 (by simp [ao];omega);have w1:=SM ((k:Int)+1) (by omega);simp only[go_sem,h4,h1,l2,hb,hne,e0,w1,hA];refine⟨by have:=ov2.next;omega,⟨k+1,by simp,by omega,ov2,?_⟩,by omega⟩;rw[aO (cL hx)];exact hO
 ·simp only[go_sem,h4,h1,l2,hb];rw[SP (by rw[cM];omega)]at h3;exact ay.bx aS hcl (o1.trans ov) (h3.eX fun i hi=>by omega) hK
theorem D1 (ns:List NodeP)(hl:(ns.length:Int)<2 ^ 39)(H:AHeap)(K:ARes->AHeap->Prop)(hK:K (.ret (af (ao ns))) H):ae Tryz.prog G0 117 [cj ns] H K:=by
 refine ae.clo ⟨_,Tryz.func117,rfl,rfl⟩ fun hcl=>?_;refine ae.aZ (n:=23) (rs:=[.tmp 2]) Tryz.func117 rfl rfl rfl (by decide) (by kernel_rfl) (by simp) ?_;simp only[go_sem,cj];refine⟨by omega,?_⟩;refine W.aL 4192304 (by rfl) (fun ρ H'=>∃ (k:Nat) (c:List Int),ρ 11=aa k/\k<=ns.length/\OwnI H H' H.next c/\c.length=ns.length/\c.take k=(ao ns).take k) (fun ρ H=>ns.length - (iv (ρ 11)).toNat) ?_ ?_
 ·simp only[go_sem];exact⟨0,_,rfl,by omega,.new [] ns.length,by simp,rfl⟩
 rintro ρ H' ⟨k,c,h11,hk,ho,hcl',hc⟩;refine W.vs ?_;by_cases hb:(k:Int)<ns.length
 ·obtain⟨x,hx⟩:=get_of_lt (l:=ns) (i:=k) (by omega);have hne:=dC hx;have e0:=mz hx;have e1:k*3+3<=(aG ns).length:=by rw[gT];omega
  have w1:=SM ((k:Int)+1) (by omega);have l3:=ho.Ry;have nb:=ho.ne;simp only[go_sem,h11,l3,hb,hne,e0,e1,w1];have hkc:k<c.length:=by omega
  have ho2:=ho.Rz [.arr 0 73 [.lit (.int .i64 x.card),.vec x.parents.length (ints x.parents),ah x.rows]] hkc x.card;exact⟨by omega,by have:=ho2.hi;omega,⟨k+1,_,rfl,by omega,ho2,by simpa using hcl',Ex hc hkc (cL hx)⟩,by omega⟩
 ·simp only[go_sem,h11,hb];have e:c=ao ns:=by
   rw[SP (by omega),SP (by rw[cM];omega)]at hc;exact hc
  subst e;exact ho.fin hcl (by rw[cM]) hK
def eR (l:List Int)(n:Nat):Prop:=∀ q∈l,0<=q/\q<n
theorem fM (l p:List Int):(aF l p).length=p.length:=by simp [aF]
theorem lO {l p:List Int}{k:Nat}{q:Int}(h:p[k]?=some q):(aF l p)[k]?=some (l.getD q.toNat 0):=by unfold aF;rw[List.getElem?_map,h];rfl
theorem zh (g:Int)(ns:List NodeP)(v:Nat)(x:NodeP)(hx:ns[v]?=some x)(hl:(ns.length:Int)<2 ^ 39)(hp:(x.parents.length:Int)<2 ^ 39)(hin:eR x.parents ns.length)(H:AHeap)(K:ARes->AHeap->Prop)
  (hK:K (.ret (af (aH ns x))) H):ae Tryz.prog G0 76 [bJ g ns,aa v] H K:=by
 refine ae.clo ⟨_,Tryz.func76,rfl,rfl⟩ fun hcl=>?_;have hne:=dC hx;have e1:=je hx;have hv:(v:Int)<ns.length:=by have:=get_lt hx;omega
 refine ae.aZ (n:=14) (rs:=[.tmp 4]) Tryz.func76 rfl rfl rfl (by decide) (by kernel_rfl) (by simp) ?_;simp only[go_sem,bJ,cj];refine W.draw 8 [0,1,0,4,0,28,60,124] Tryz.mixed (by kernel_rfl) (by kernel_rfl) ?_;simp only[go_sem];refine⟨af (ao ns),[],bO.pure fun H2=>pT g ns hl H2 _ ⟨rfl,rfl⟩,?_⟩;simp only[go_sem,hv,hne,e1];refine aB.clo (pS (ao ns) x.parents (by rw[cM];omega) hp (by rw[cM];exact hin) _ _ ⟨trivial,?_⟩);simp only[go_sem];exact ay.bx aS hcl (.ext _ _) (.dq _) hK
theorem zi (ns:List NodeP)(v:Nat)(x:NodeP)(hx:ns[v]?=some x)(hin:eR x.parents ns.length)(hs:cU (aH ns x))(H:AHeap)(K:ARes->AHeap->Prop)
  (hK:K (.ret (aa (au (aH ns x)))) H):ae Tryz.prog G0 66 [cj ns,aa v] H K:=by
 have hne:=dC hx;have e1:=je hx;have hv:(v:Int)<ns.length:=by have:=get_lt hx;omega
 have l12:=hs.1;have pl:(aH ns x).length=x.parents.length:=fM _ _;refine ae.aZ (n:=27) (rs:=[.tmp 4]) Tryz.func66 rfl rfl rfl (by decide) (by kernel_rfl) (by simp) ?_;simp only[go_sem,cj,hv,hne,e1];refine W.aL 67092640 (by rfl) (fun ρ H'=>H'=H/\∃ k:Nat,ρ 14=aa k/\k<=x.parents.length/\ρ 5=aa (au ((aH ns x).take k))) (fun ρ H=>x.parents.length - (iv (ρ 14)).toNat) ?_ ?_
 ·simp only[go_sem];exact⟨0,rfl,by omega,by simp [gi]⟩
 rintro ρ H' ⟨rfl,k,h14,hk,h5⟩;refine W.vs ?_;by_cases hb:(k:Int)<x.parents.length
 ·obtain⟨q,hq⟩:=get_of_lt (l:=x.parents) (i:=k) (by omega);obtain⟨j,rfl,y,hy⟩:=lu (l:=ns) (hin q (SK hq)).1 (hin q (SK hq)).2;have hne2:=aK hq;have hj:(j:Int)<ns.length:=by have:=get_lt hy;omega
  have e0:=iJ hy;have pk:(aH ns x)[k]?=some y.card:=by
   rw[show (aH ns x)[k]?=_ from lO hq,Int.toNat_natCast,bq (cL hy)]
  have b1:=(hs.take (k+1)).prod;rw[aO pk,eO]at b1;have w1:=SM ((k:Int)+1) (by omega);have w2:=SM (au ((aH ns x).take k)*y.card) (by omega);simp only[go_sem,h14,h5,hb,hq,hne,hne2,hj,e0,w1,w2];exact⟨⟨k+1,by simp,by omega,by rw[aO pk,eO]⟩,by omega⟩
 ·simp only[go_sem,h14,h5,hb];rw[SP (by omega)];exact ay.mk (Nat.le_refl _) hK
theorem QQ (ns:List NodeP)(v:Nat)(x:NodeP)(vals:List Int)(hx:ns[v]?=some x)(hin:eR x.parents ns.length)(hs:cU (aH ns x))(hf:bL (ao ns) vals)(H:AHeap)(K:ARes->AHeap->Prop)
  (hK:K (.ret (aa (bp (aH ns x) (aF vals x.parents)))) H):ae Tryz.prog G0 69 [cj ns,aa v,af vals] H K:=by
 have hne:=dC hx;have e1:=je hx;have hv:(v:Int)<ns.length:=by have:=get_lt hx;omega
 have l12:=hs.1;have pl:(aH ns x).length=x.parents.length:=fM _ _;have vl:(aF vals x.parents).length=x.parents.length:=fM _ _;have hfl:vals.length=ns.length:=by rw[hf.1,cM]
 have at_get:∀ (k:Nat) (q:Int),x.parents[k]?=some q->∃ (j:Nat) (y:NodeP) (b:Int),q=j/\ns[j]?=some y/\vals[j]?=some b/\(aH ns x)[k]?=some y.card/\(aF vals x.parents)[k]?=some b/\0<=b/\b<y.card:=fun k q hq=>by
  obtain⟨j,rfl,y,hy⟩:=lu (l:=ns) (hin q (SK hq)).1 (hin q (SK hq)).2;obtain⟨b,hb⟩:=get_of_lt (l:=vals) (i:=j) (by rw[hfl];exact get_lt hy);have r:=hf.2 j y.card b (cL hy) hb;exact⟨j,y,b,rfl,hy,hb,by rw[show (aH ns x)[k]?=_ from lO hq,Int.toNat_natCast,bq (cL hy)],by rw[lO hq,Int.toNat_natCast,bq hb],r⟩
 have ft:∀ k,bL ((aH ns x).take k) ((aF vals x.parents).take k):=fun k=>⟨by simp [pl,vl],fun i c b h1 h2=>by
  rw[Vw]at h1 h2;split at h1
  ·rename_i hik;rw[SQ hik]at h2;obtain⟨q,hq⟩:=get_of_lt (l:=x.parents) (i:=i) (by rw[<- pl];exact get_lt h1);obtain⟨j,y,b',_,_,_,a1,a2,a3⟩:=at_get i q hq;rw[h1]at a1;rw[h2]at a2;cases a1;cases a2;exact a3
  ·cases h1⟩
 have hr:∀ k,0<=fK ((aH ns x).take k) ((aF vals x.parents).take k)/\fK ((aH ns x).take k) ((aF vals x.parents).take k)<68719476737:=fun k=>by
  rw[uK (ft k).1];have a:=kE (ft k);have b:=(hs.take k).prod;omega
 refine ae.aZ (n:=34) (rs:=[.tmp 6]) Tryz.func69 rfl rfl rfl (by decide) (by kernel_rfl) (by simp) ?_;simp only[go_sem,cj,hv,hne,e1];refine W.aL 8589869696 (by rfl) (fun ρ H'=>H'=H/\∃ k:Nat,ρ 16=aa k/\k<=x.parents.length/\ρ 7=aa (fK ((aH ns x).take k) ((aF vals x.parents).take k))) (fun ρ H=>x.parents.length - (iv (ρ 16)).toNat) ?_ ?_
 ·simp only[go_sem];exact⟨0,rfl,by omega,rfl⟩
 rintro ρ H' ⟨rfl,k,h16,hk,h7⟩;refine W.vs ?_;by_cases hb:(k:Int)<x.parents.length
 ·obtain⟨q,hq⟩:=get_of_lt (l:=x.parents) (i:=k) (by omega);obtain⟨j,y,b,rfl,hy,hbv,a1,a2,a3⟩:=at_get k q hq;have hne2:=aK hq;have hne3:=aK hbv;have hj:(j:Int)<ns.length:=by have:=get_lt hy;omega
  have hj2:(j:Int)<vals.length:=by omega
  have e0:=iJ hy;have w1:=SM ((k:Int)+1) (by omega);have r1:=hr (k+1);rw[uL a1 a2]at r1;have r0:=hr k;have m0:0<=fK ((aH ns x).take k) ((aF vals x.parents).take k)*y.card:=Us r0.1 (by omega);have w2:=SM (fK ((aH ns x).take k) ((aF vals x.parents).take k)*y.card) (by omega);have w3:=SM (fK ((aH ns x).take k) ((aF vals x.parents).take k)*y.card+b) (by omega);simp only[go_sem,h16,hb,hq,hne2];refine W.draw 11 [0,0,0,6,14,30,63,0,0,384,896] Tryz.mixed (by kernel_rfl) (by kernel_rfl) ?_;simp only[go_sem,h16,h7,hne,hne3,hj,hj2,hbv,e0,w1,w2,w3];exact⟨⟨k+1,by simp,by omega,by rw[uL a1 a2]⟩,by omega⟩
 ·simp only[go_sem,h16,h7,hb];rw[SP (by omega),SP (by omega),uK (by rw[pl,vl])];exact ay.mk (Nat.le_refl _) hK
def cB (l:List Int):Nat:=l.foldl (fun s p=>s ||| 2 ^ p.toNat) 0
theorem O8 (l:List Int):∀ (s i:Nat),(l.foldl (fun s p=>s ||| 2 ^ p.toNat) s).testBit i=(s.testBit i || l.any fun p=>p.toNat == i):=by
 induction l with
 | nil=>intro s i;simp
 | cons p l ih =>
  intro s i;simp only[TX,ih,UE,V4,List.any_cons];rw[Bool.or_assoc];congr 1
theorem mA {l:List Int}(h:∀ p∈l,0<=p)(i:Nat):(cB l).testBit i=decide ((i:Int)∈l):=by
 unfold cB;rw[O8];simp only[T9,VS];rw[Uk];simp only[List.any_eq_true,beq_iff_eq,decide_eq_true_eq];constructor
 ·rintro⟨p,hp,rfl⟩;have:=h p hp;rw[V6 this];exact hp
 ·intro hi;exact⟨_,hi,by simp⟩
theorem yC (l:List Int)(p:Int):cB (l++[p])=cB l ||| 2 ^ p.toNat:=by unfold cB;rw[Ua];rfl
theorem yD {m n:Nat}(h:∀ i,m.testBit i=true->i<n):m<2 ^ n:=by
 apply Nat.lt_pow_two_of_testBit;intro i hi;rcases TO (m.testBit i) with e|e
 ·exact absurd (h i e) (by omega)
 ·exact e
theorem rP {l:List Int}{n:Nat}(h:∀ p∈l,0<=p/\p<n):cB l<2 ^ n:=yD fun i hi=>by
 rw[mA fun p hp=>(h p hp).1]at hi;have:=(h _ (of_decide_eq_true hi)).2;omega
theorem nJ {m n i:Nat}(h:m<2 ^ n)(hi:m.testBit i=true):i<n:=by
 rcases Te i n with h'|h'
 ·exact h'
 ·rw[Vf (S6 h (Tm (by decide) h'))]at hi;cases hi
def Sub (s t:Nat):Prop:=∀ i,s.testBit i=true->t.testBit i=true
theorem Sub.refl (s:Nat):Sub s s:=fun _ h=>h
theorem Sub.trans {s t u:Nat}(h:Sub s t)(h':Sub t u):Sub s u:=fun i hi=>h' i (h i hi)
theorem Sub.or {s t u:Nat}(h:Sub s u)(h':Sub t u):Sub (s ||| t) u:=fun i hi=>by
 rw[UE,TY]at hi;exact hi.elim (h i) (h' i)
theorem Sub.left (s t:Nat):Sub s (s ||| t):=fun i hi=>by rw[UE,hi];rfl
theorem Sub.right (s t:Nat):Sub t (s ||| t):=fun i hi=>by rw[UE,hi];simp
theorem Sub.antisymm {s t:Nat}(h:Sub s t)(h':Sub t s):s=t:=Vo fun i=>by
 rw[Uk];exact⟨h i,h' i⟩
theorem CT {a b:Nat}(ha:a<2 ^ 64):gF a b=0↔Sub a b:=by
 constructor
 ·intro h i hi;have:=zB (a:=a) (b:=b) (i:=i) ha;rw[h,T9,hi]at this;simpa using this.symm
 ·intro h;apply Vo;intro i;rw[zB ha,T9];cases hi:a.testBit i
  ·rfl
  ·rw[h i hi];rfl
def eY (ps:List Nat)(s v:Nat):Nat:=if s.testBit v=true then s ||| ps.getD v 0 else s
def eP (ps:List Nat)(s:Nat):Nat:=(List.range ps.length).foldl (eY ps) s
def dW (ps:List Nat):Nat->Nat->Nat
 | 0,s=>s
 | k+1,s=>eP ps (dW ps k s)
def gj (ps:List Nat)(s:Nat):Nat:=dW ps ps.length s
def lC (ps:List Nat):Prop:=∀ v,v<ps.length->(gj ps (ps.getD v 0)).testBit v=false
def mB (ps:List Nat)(t:Nat):Prop:=∀ v,v<ps.length->t.testBit v=true->Sub (ps.getD v 0) t
theorem CU (ps:List Nat)(s v:Nat):Sub s (eY ps s v):=by unfold eY;split;exact .left _ _;exact .refl _
theorem CV (ps:List Nat)(l:List Nat):∀ s,Sub s (l.foldl (eY ps) s):=by
 induction l with
 | nil=>exact fun s=>.refl s
 | cons v l ih=>exact fun s=>(CU ps s v).trans (ih _)
theorem yE (ps:List Nat)(s:Nat):Sub s (eP ps s):=CV ps _ s
theorem O9 {ps:List Nat}{t:Nat}(hc:mB ps t)(l:List Nat)(hl:∀ v∈l,v<ps.length):∀ s,Sub s t->Sub (l.foldl (eY ps) s) t:=by
 induction l with
 | nil=>exact fun s h=>h
 | cons v l ih =>
  intro s h;refine ih (fun v hv=>hl v (by simp [hv])) _ ?_;unfold eY;split
  ·rename_i hv;exact h.or (hc v (hl v (by simp)) (h v hv))
  ·exact h
theorem Pa {ps:List Nat}{t:Nat}(hc:mB ps t){s:Nat}(h:Sub s t):Sub (eP ps s) t:=O9 hc _ (fun v hv=>To.1 hv) s h
theorem uM {ps:List Nat}{t:Nat}(hc:mB ps t)(k:Nat){s:Nat}(h:Sub s t):Sub (dW ps k s) t:=by
 induction k with
 | zero=>exact h
 | succ k ih=>exact Pa hc ih
theorem yF (ps:List Nat)(k s:Nat):Sub s (dW ps k s):=by
 induction k with
 | zero=>exact .refl _
 | succ k ih=>exact ih.trans (yE _ _)
theorem Pb {ps:List Nat}{s:Nat}(h:eP ps s=s):mB ps s:=by
 intro v hv hs;have key:∀ (l:List Nat) (s0:Nat),v∈l->s0.testBit v=true->Sub (ps.getD v 0) (l.foldl (eY ps) s0):=by
  intro l
  induction l with
  | nil=>intro s0 h;cases h
  | cons u l ih =>
   intro s0 hm hb;rcases List.mem_cons.1 hm with rfl|hm
   ·refine Sub.trans ?_ (CV ps l _);unfold eY;rw[SQ hb];exact .right _ _
   ·exact ih _ hm (CU ps s0 u v hb)
 have:=key (List.range ps.length) s (To.2 hv) hs;unfold eP at h
 rwa [h]at this
def df (n s:Nat):Nat:=(List.range n).countP fun i=>s.testBit i
theorem CW (n s:Nat):df n s<=n:=by have:=List.countP_le_length (p:=fun i=>s.testBit i) (l:=List.range n);simpa [df] using this
theorem Pc {l:List Nat}{p q:Nat->Bool}(h:∀ x∈l,p x=true->q x=true){a:Nat}(ha:a∈l)(hp:p a=false)(hq:q a=true):l.countP p<l.countP q:=by
 induction l with
 | nil=>cases ha
 | cons x l ih =>
  have hm:l.countP p<=l.countP q:=List.countP_mono_left fun y hy=>h y (by simp [hy]);rcases List.mem_cons.1 ha with rfl|ha
  ·rw[Um,Um,hp,hq];simp;omega
  ·have:=ih (fun y hy=>h y (by simp [hy])) ha;have hx:=h x (by simp);rw[Um,Um];cases hpx:p x
   ·simp;omega
   ·rw[hx hpx];simp;omega
theorem rQ {n s t i:Nat}(h:Sub s t)(hi:i<n)(h0:s.testBit i=false)(h1:t.testBit i=true):df n s<df n t :=
 Pc (fun x _ hx=>h x hx) (To.2 hi) h0 h1
theorem Pd {ps:List Nat}(hp:∀ p∈ps,p<2 ^ ps.length){s:Nat}(hs:s<2 ^ ps.length):mB ps (gj ps s):=by
 have hb:∀ k,dW ps k s<2 ^ ps.length:=fun k=>by
  have ht:mB ps (2 ^ ps.length - 1):=fun v _ _ i hi=>by
   rw[Ui];have:ps.getD v 0<2 ^ ps.length:=by
    rw[Td];cases h:ps[v]? with
    | none=>exact VI _
    | some p=>exact hp p (SK h)
   simpa using nJ this hi
  have:=uM ht k (s:=s) fun i hi=>by rw[Ui];simpa using nJ hs hi
  exact yD fun i hi=>by have:=this i hi;rw[Ui]at this;simpa using this
 have key:∀ k,eP ps (dW ps k s)=dW ps k s\/k+1<=df ps.length (dW ps k s):=by
  have grow:∀ t,t<2 ^ ps.length->eP ps t<2 ^ ps.length->eP ps t≠t->df ps.length t<df ps.length (eP ps t):=fun t ht ht' hne=>by
   have:∃ i,(eP ps t).testBit i=true/\t.testBit i=false:=by
    refine TG fun hno=>hne (Sub.antisymm (fun i hi=>?_) (yE ps t));rcases TO (t.testBit i) with e|e
    ·exact e
    ·exact absurd ⟨i,hi,e⟩ hno
   obtain⟨i,h1,h0⟩:=this;exact rQ (yE ps t) (nJ ht' h1) h0 h1
  intro k
  induction k with
  | zero =>
   by_cases h0:s=0
   ·left;subst h0;show eP ps 0=0;unfold eP;have:∀ l:List Nat,l.foldl (eY ps) 0=0:=fun l=>by
     induction l with
     | nil=>rfl
     | cons v l ih=>simp only[TX,eY,T9,Bool.false_eq_true,if_false];exact ih
    exact this _
   ·right;obtain⟨i,hi⟩:=Nat.exists_testBit_of_ne_zero h0;have:df ps.length 0<df ps.length s:=rQ (fun j hj=>by rw[T9]at hj;cases hj) (nJ hs hi) (T9 i) hi;show 0+1<=df ps.length s;omega
  | succ k ih =>
   rcases ih with ih|ih
   ·left;show eP ps (eP ps (dW ps k s))=eP ps (dW ps k s);rw[ih];exact ih
   ·by_cases hf:eP ps (dW ps k s)=dW ps k s
    ·left;show eP ps (eP ps (dW ps k s))=eP ps (dW ps k s);rw[hf];exact hf
    ·right;have:=grow _ (hb k) (hb (k+1)) hf;show k+1+1<=df ps.length (eP ps (dW ps k s));omega
 rcases key ps.length with h|h
 ·exact Pb h
 ·have:=CW ps.length (dW ps ps.length s);omega
def iK (ps:List Nat)(done v:Nat):Bool:=!done.testBit v && decide (gF (ps.getD v 0) done=0)
def jN (ps:List Nat)(done:Nat):Option Nat:=(List.range ps.length).find? (iK ps done)
def gm (ps:List Nat):Nat->List Nat->Nat->Option (List Nat)
 | 0,out,_=>some out
 | k+1,out,done=>match jN ps done with
  | none=>none
  | some v=>gm ps k (out++[v]) (done ||| 2 ^ v)
def eD (ps:List Nat):Option (List Nat):=gm ps ps.length [] 0
theorem yG {ps:List Nat}{done v:Nat}(hp:∀ p∈ps,p<2 ^ 64)(h:jN ps done=some v):v<ps.length/\done.testBit v=false/\Sub (ps.getD v 0) done:=by
 unfold jN at h;have h1:=List.mem_of_find?_eq_some h;have h2:=List.find?_some h;unfold iK at h2;simp only[Th,Vy,decide_eq_true_eq]at h2;have hv:=To.1 h1;refine⟨hv,h2.1,(CT ?_).1 h2.2⟩;rw[Td];cases h:ps[v]? with
 | none=>decide
 | some p=>exact hp p (SK h)
theorem Pe {ps:List Nat}{done:Nat}(hp:∀ p∈ps,p<2 ^ 64)(h:jN ps done=none):∀ v,v<ps.length->done.testBit v=true\/¬ Sub (ps.getD v 0) done:=by
 intro v hv;unfold jN at h;rw[List.find?_eq_none]at h;have:=h v (To.2 hv);unfold iK at this;rcases TO (done.testBit v) with e|e
 ·exact .inl e
 ·right;intro hs;refine this ?_;rw[e,(CT ?_).2 hs]
  ·simp
  ·rw[Td];cases h:ps[v]? with
   | none=>decide
   | some p=>exact hp p (SK h)
theorem im (d v i:Nat):(d ||| 2 ^ v).testBit i=(d.testBit i || decide (v=i)):=by rw[UE,V4]
theorem Pf {ps:List Nat}(hp:∀ p∈ps,p<2 ^ 64):∀ (k:Nat) (out:List Nat) (done:Nat) (r:List Nat),gm ps k out done=some r->k+df ps.length done=ps.length ->
  mB ps done->(∀ v,v<ps.length->done.testBit v=true->(gj ps (ps.getD v 0)).testBit v=false)->lC ps:=by
 intro k
 induction k with
 | zero =>
  intro out done r _ hc hcl hall v hv;refine hall v hv ?_;rcases TO (done.testBit v) with e|e
  ·exact e
  ·have:df ps.length done<df ps.length (2 ^ ps.length - 1 ||| done):=rQ (.right _ _) hv e (by rw[UE,Ui];simp [hv]);have:=CW ps.length (2 ^ ps.length - 1 ||| done);omega
 | succ k ih =>
  intro out done r h hc hcl hall;unfold gm at h;split at h
  ·cases h
  ·rename_i v hn;obtain⟨h1,h2,h3⟩:=yG hp hn;refine ih _ _ _ h ?_ ?_ ?_
   ·have:df ps.length (done ||| 2 ^ v)=df ps.length done+1:=by
     unfold df;have:∀ l:List Nat,l.Nodup->v∈l->l.countP (fun i=>(done ||| 2 ^ v).testBit i)=l.countP (fun i=>done.testBit i)+1:=by
      intro l
      induction l with
      | nil=>intro _ h;cases h
      | cons x l ihl =>
       intro hnd hmem;obtain⟨g1,g2⟩:=Vj.1 hnd;rw[Um,Um];rcases List.mem_cons.1 hmem with rfl|hm2
       ·have:l.countP (fun i=>(done ||| 2 ^ v).testBit i)=l.countP (fun i=>done.testBit i):=List.countP_congr fun y hy=>by
         have:¬ v=y:=(by rintro rfl;exact g1 hy);simp [im,this]
        rw[this];simp [im,h2]
       ·have hx:¬ v=x:=(by rintro rfl;exact g1 hm2);rw[ihl g2 hm2];simp [im,hx];omega
     exact this _ Vd (To.2 h1)
    omega
   ·intro u hu hb;rw[im,TY,decide_eq_true_eq]at hb;rcases hb with hb|rfl
    ·exact(hcl u hu hb).trans (.left _ _)
    ·exact h3.trans (.left _ _)
   ·intro u hu hb;rw[im,TY,decide_eq_true_eq]at hb;rcases hb with hb|rfl
    ·exact hall u hu hb
    ·have:=uM hcl ps.length h3;rcases TO ((gj ps (ps.getD v 0)).testBit v) with e|e
     ·have:=this v e;rw[h2]at this;cases this
     ·exact e
theorem Pg {ps:List Nat}(hp:∀ p∈ps,p<2 ^ ps.length)(h64:ps.length<=64)(ha:lC ps):∀ (k:Nat) (out:List Nat) (done:Nat),k+df ps.length done=ps.length->∃ r,gm ps k out done=some r:=by
 have hp64:∀ p∈ps,p<2 ^ 64:=fun p h=>S6 (hp p h) (Tm (by decide) h64);have hpd:∀ v,ps.getD v 0<2 ^ ps.length:=fun v=>by
  rw[Td];cases h:ps[v]? with
  | none=>exact VI _
  | some p=>exact hp p (SK h)
 intro k
 induction k with
 | zero=>exact fun out done _=>⟨out,rfl⟩
 | succ k ih =>
  intro out done hc;unfold gm;cases hn:jN ps done with
  | none =>
   exfalso;have hno:=Pe hp64 hn
      -- every node that is left has a parent that is left
   have step:∀ m v,v<ps.length->done.testBit v=false->df ps.length (gj ps (ps.getD v 0))<=m->False:=by
    intro m
    induction m with
    | zero =>
     intro v hv hd hm;obtain⟨i,h1,h2⟩:∃ i,(ps.getD v 0).testBit i=true/\done.testBit i=false:=by
      rcases hno v hv with h|h
      ·rw[hd]at h;cases h
      ·refine TG fun hc=>h fun i hi=>?_;rcases TO (done.testBit i) with e|e
       ·exact e
       ·exact absurd ⟨i,hi,e⟩ hc
     have:df ps.length 0<df ps.length (gj ps (ps.getD v 0)):=rQ (fun j hj=>by rw[T9]at hj;cases hj) (nJ (hpd v) h1) (T9 i) (yF ps _ _ i h1);omega
    | succ m ihm =>
     intro v hv hd hm;obtain⟨u,h1,h2⟩:∃ i,(ps.getD v 0).testBit i=true/\done.testBit i=false:=by
      rcases hno v hv with h|h
      ·rw[hd]at h;cases h
      ·refine TG fun hc=>h fun i hi=>?_;rcases TO (done.testBit i) with e|e
       ·exact e
       ·exact absurd ⟨i,hi,e⟩ hc
     have hu:=nJ (hpd v) h1;have hcl:=Pd hp (hpd v);have hin:(gj ps (ps.getD v 0)).testBit u=true:=yF ps _ _ u h1;have hsub:Sub (gj ps (ps.getD u 0)) (gj ps (ps.getD v 0)):=uM hcl _ (hcl u hu hin);have:=rQ hsub hu (ha u hu) hin;exact ihm u hu h2 (by omega)
   obtain⟨v,hv,hd⟩:∃ v,v<ps.length/\done.testBit v=false:=by
    refine TG fun hno=>?_;have:df ps.length done=ps.length:=by
     unfold df
     conv=>rhs;rw[<- TJ (n:=ps.length)]
     rw[List.countP_eq_length];intro x hx;rcases TO (done.testBit x) with e|e
     ·exact e
     ·exact absurd ⟨x,To.1 hx,e⟩ hno
    omega
   exact step _ v hv hd (Nat.le_refl _)
  | some v =>
   obtain⟨h1,h2,h3⟩:=yG hp64 hn;refine ih _ _ ?_;have:df ps.length (done ||| 2 ^ v)=df ps.length done+1:=by
    unfold df;have:∀ l:List Nat,l.Nodup->v∈l->l.countP (fun i=>(done ||| 2 ^ v).testBit i)=l.countP (fun i=>done.testBit i)+1:=by
     intro l
     induction l with
     | nil=>intro _ h;cases h
     | cons x l ihl =>
      intro hnd hmem;obtain⟨g1,g2⟩:=Vj.1 hnd;rw[Um,Um];rcases List.mem_cons.1 hmem with rfl|hm2
      ·have:l.countP (fun i=>(done ||| 2 ^ v).testBit i)=l.countP (fun i=>done.testBit i):=List.countP_congr fun y hy=>by
        have:¬ v=y:=(by rintro rfl;exact g1 hy);simp [im,this]
       rw[this];simp [im,h2]
      ·have hx:¬ v=x:=(by rintro rfl;exact g1 hm2);rw[ihl g2 hm2];simp [im,hx];omega
    exact this _ Vd (To.2 h1)
   omega
theorem CX (n:Nat):df n 0=0:=by
 unfold df;rw[List.countP_eq_zero];intro x _;simp
theorem CY {ps:List Nat}(hp:∀ p∈ps,p<2 ^ ps.length)(h64:ps.length<=64):(eD ps).isSome=true↔lC ps:=by
 have hp64:∀ p∈ps,p<2 ^ 64:=fun p h=>S6 (hp p h) (Tm (by decide) h64);constructor
 ·intro h;obtain⟨r,hr⟩:=Tw.1 h;exact Pf hp64 _ _ _ r hr (by rw[CX];omega) (fun v _ h=>by rw[T9]at h;cases h) (fun v _ h=>by rw[T9]at h;cases h)
 ·intro h;obtain⟨r,hr⟩:=Pg hp h64 h ps.length [] 0 (by rw[CX];omega);unfold eD;rw[hr];rfl
end Go.Proofs
namespace Go.Hx
def fO (l:List Nat):AVal:=.vec l.length (l.map br)
attribute [go_sem] br fO
theorem aA.QR {S:Nat->Prop}{lo nx:Nat}{H:AHeap}{e:TypeId}{v:AVal}{l:List Nat}(h:aA lo H e v (l.map br))(hS:∀ i,lo<=i->S i):Fz S H nx v (fO l):=by
 have:=h.fz (S:=S) (nx:=nx) (cs':=l.map br) hS rfl fun i hi _=>by simp only[S4];exact .lit _
 rw[SZ]at this;exact this
end Go.Hx
namespace Go.Proofs
open Go.Hx
theorem D2 {H H':AHeap}{v:AVal}{l:List Nat}(x:Nat)(ov:Over H H')(h:aA H.next H' 35 v (l.map br))(hl:l.length<2 ^ 40):
  ∃ v' H2,bf Tryz.prog (ext H' [.arr 0 35 [.lit (.int .u64 (x:Int))]]) (H'.next+1) 106 106 v (.own H'.next 0 0 1 1)=some (v',H2)/\Over H H2/\aA H.next H2 35 v' ((l++[x]).map br)/\H'.next<=H2.next/\(∀ k,k<H'.next->(∀ g n,v≠.own k g 0 n 1)->H2.get k=H'.get k):=by
 obtain⟨v',H2,hA,hO,hn2,hp⟩:=gL (P:=Tryz.prog) (H:=H') (t:=106) (x:=br x) (n:=H'.next+1) Tryz.underlying106 Tryz.CG Tryz.CI rfl (by rw[Tryz.CH,SZ];omega) h ov.next rfl;simp only[br]at hA;exact⟨v',H2,hA,mJ ov h hn2 hp,by rw[TI];exact hO,hn2,hp⟩
theorem zj (m v:Nat)(hm:m<2 ^ 64)(hv:v<2 ^ 62)(H:AHeap)(K:ARes->AHeap->Prop)(hK:K (.ret (.lit (.bool (m.testBit v)))) H):ae Tryz.prog G0 134 [br m,aa v] H K:=by
 refine ae.aZ (n:=11) (rs:=[.tmp 4]) Tryz.func134 rfl rfl rfl (by decide) (by kernel_rfl) (by simp) ?_;have w1:=UR (v:Int) (by omega);have s1:=fun t x y=>kP (P:=Tryz.prog) (t:=t) (x:=x) (y:=y) (k':=.u64) (s:=v) hm;have s2:=fun t x y=>mQ (P:=Tryz.prog) (t:=t) (x:=x) (y:=y) (s:=v) hm;cases hb:m.testBit v
 ·rw[hb]at hK;simp only[go_sem,w1,s1,s2,hb];exact ay.mk (Nat.le_refl _) hK
 ·rw[hb]at hK;simp only[go_sem,w1,s1,s2,hb];exact ay.mk (Nat.le_refl _) hK
def aY (ns:List NodeP):List Nat:=ns.map fun x=>cB x.parents
theorem lQ {ns:List NodeP}{k:Nat}{x:NodeP}(h:ns[k]?=some x):(aY ns)[k]?=some (cB x.parents):=by unfold aY;rw[List.getElem?_map,h];rfl
theorem D3 (g:Int)(ns:List NodeP)(hl:(ns.length:Int)<2 ^ 39)(hp:∀ x∈ns,(x.parents.length:Int)<2 ^ 39/\∀ q∈x.parents,0<=q/\q<64)(H:AHeap)(K:ARes->AHeap->Prop)
  (hK:K (.ret (fO (aY ns))) H):ae Tryz.prog G0 43 [bJ g ns] H K:=by
 refine ae.clo ⟨_,Tryz.func43,rfl,rfl⟩ fun hcl=>?_;refine ae.aZ (n:=43) (rs:=[.tmp 2]) Tryz.func43 rfl rfl rfl (by decide) (by kernel_rfl) (by simp) ?_;simp only[go_sem,bJ,cj];obtain⟨H1,hH1⟩:∃ H1,H1=ext H [.arr 0 103 [.lit (.int .i64 g),.vec ns.length (aG ns)]]:=⟨_,rfl⟩
 have l1:H1.live H.next 0=some (103,[.lit (.int .i64 g),.vec ns.length (aG ns)]):=by rw[hH1];exact ag (bQ ..)
 have n1:H1.next=H.next+1:=by rw[hH1];rfl
 have o1:Over H H1:=by rw[hH1];exact .ext _ _
 rw[<- hH1];refine W.aL 4398046511096 (by rfl) (fun ρ H'=>∃ k:Nat,ρ 4=aa k/\k<=ns.length/\ρ 1=.ptr H.next 0 0/\Over H1 H'/\aA H1.next H' 35 (ρ 3) (((aY ns).take k).map br)) (fun ρ H=>ns.length - (iv (ρ 4)).toNat) ?_ ?_
 ·simp only[go_sem];exact⟨0,rfl,by omega,.refl _,.nil⟩
 rintro ρ H' ⟨k,h4,hk,h1,ov,h3⟩;refine W.vs ?_;have l2:=(ov.live (g:=0) (by omega:H.next<H1.next)).trans l1;by_cases hb:(k:Int)<ns.length
 ·obtain⟨x,hx⟩:=get_of_lt (l:=ns) (i:=k) (by omega);have hne:=dC hx;have e1:=je hx;obtain⟨xl,xr⟩:=hp x (SK hx);simp only[go_sem,h4,h1,l2,hb];refine W.aL 274877890656 (by rfl) (fun ρ' H2=>H2=H'/\∃ j:Nat,ρ' 6=aa j/\j<=x.parents.length/\ρ' 5=br (cB (x.parents.take j))) (fun ρ' H=>x.parents.length - (iv (ρ' 6)).toNat) ?_ ?_
  ·simp only[go_sem];exact⟨0,rfl,by omega,rfl⟩
  rintro ρ' H2 ⟨rfl,j,h6,hj,h5⟩;refine W.vs ?_;by_cases hb2:(j:Int)<x.parents.length
  ·obtain⟨q,hq⟩:=get_of_lt (l:=x.parents) (i:=j) (by omega);obtain⟨q0,q1⟩:=xr q (SK hq);obtain⟨u,rfl⟩:=S2 q0;have hne2:=aK hq;have w1:=UR (u:Int) (by omega);have w2:=SM ((j:Int)+1) (by omega);have b1:cB (x.parents.take j)<2 ^ 64:=rP fun p hp=>by have:=xr p (Tg hp);omega
   have s1:=fun t x y=>nU (P:=Tryz.prog) (t:=t) (x:=x) (y:=y) (k':=.u64) (s:=u) (by omega);have s2:=fun t x y=>kO (P:=Tryz.prog) (t:=t) (x:=x) (y:=y) (b:=2 ^ u) b1 (Ug (by decide) (by omega));simp only[go_sem,h4,h1,l2,hb,hne,e1,h6,h5,hb2,hq,hne2,w1,w2,s1,s2];exact⟨⟨j+1,by simp,by omega,by rw[aO hq,yC];rfl⟩,by omega⟩
  ·obtain⟨v',H3,hA,ov2,hO,hn2,_⟩:=D2 (cB x.parents) ov h3 (by simp [aY];omega);have w1:=SM ((k:Int)+1) (by omega);rw[SP (by omega)]at h5;simp only[go_sem,h4,h1,l2,hb,hne,e1,h6,h5,hb2,w1,hA];refine⟨by have:=ov2.next;omega,⟨k+1,by simp,by omega,ov2,?_⟩,by omega⟩;rw[aO (lQ hx)];exact hO
 ·simp only[go_sem,h4,h1,l2,hb];rw[SP (by simp [aY];omega)]at h3;exact ay.bx aS hcl (o1.trans ov) (h3.QR fun i hi=>by omega) hK
theorem D4 {ps:List Nat}(hp:∀ p∈ps,p<2 ^ 64)(l:List Nat):∀ s,s<2 ^ 64->l.foldl (eY ps) s<2 ^ 64:=by
 induction l with
 | nil=>exact fun s h=>h
 | cons v l ih =>
  intro s h;refine ih _ ?_;unfold eY;split
  ·refine UW h ?_;rw[Td];cases h:ps[v]? with
   | none=>decide
   | some p=>exact hp p (SK h)
  ·exact h
theorem zk {ps:List Nat}(hp:∀ p∈ps,p<2 ^ 64){s:Nat}(hs:s<2 ^ 64):∀ k,dW ps k s<2 ^ 64
 | 0=>hs
 | k+1=>D4 hp _ _ (zk hp hs k)
theorem QS (ps:List Nat)(s:Nat)(hl:(ps.length:Int)<2 ^ 39)(hp:∀ p∈ps,p<2 ^ 64)(hs:s<2 ^ 64)(H:AHeap)(K:ARes->AHeap->Prop)(hK:K (.ret (br (gj ps s))) H):ae Tryz.prog G0 142 [fO ps,br s] H K:=by
 refine ae.aZ (n:=29) (rs:=[.tmp 4]) Tryz.func142 rfl rfl rfl (by decide) (by kernel_rfl) (by simp) ?_;simp only[go_sem];refine W.aL 268435426 (by rfl) (fun ρ H'=>H'=H/\∃ k:Nat,ρ 5=aa k/\k<=ps.length/\ρ 1=br (dW ps k s)) (fun ρ H=>ps.length - (iv (ρ 5)).toNat) ?_ ?_
 ·simp only[go_sem];exact⟨0,rfl,by omega,rfl⟩
 rintro ρ H' ⟨rfl,k,h5,hk,h1⟩;refine W.vs ?_;by_cases hb:(k:Int)<ps.length
 ·simp only[go_sem,h5,hb];refine W.aL 268427330 (by rfl) (fun ρ' H2=>H2=H'/\∃ j:Nat,ρ' 6=aa j/\j<=ps.length/\ρ' 1=br ((List.range j).foldl (eY ps) (dW ps k s))) (fun ρ' H=>ps.length - (iv (ρ' 6)).toNat) ?_ ?_
  ·simp only[go_sem,h1];exact⟨0,rfl,by omega,rfl⟩
  rintro ρ' H2 ⟨rfl,j,h6,hj,h1'⟩;refine W.vs ?_;by_cases hb2:(j:Int)<ps.length
  ·obtain⟨p,hpj⟩:=get_of_lt (l:=ps) (i:=j) (by omega);have hne:=aK hpj;have b1:=D4 hp (List.range j) _ (zk hp hs k);have w2:=SM ((j:Int)+1) (by omega);have hst:(List.range (j+1)).foldl (eY ps) (dW ps k s)=eY ps ((List.range j).foldl (eY ps) (dW ps k s)) j:=(by rw[T4,Ua];rfl);have s2:=fun t x y=>kO (P:=Tryz.prog) (t:=t) (x:=x) (y:=y) b1 (hp p (SK hpj));obtain⟨m,hm⟩:∃ m,m=(List.range j).foldl (eY ps) (dW ps k s):=⟨_,rfl⟩
   rw[<- hm]at b1 h1' hst s2;simp only[go_sem,h6,h1',hb2];refine aB.clo (zj m j b1 (by omega) _ _ ⟨trivial,?_⟩);cases hbit:m.testBit j
   ·simp only[go_sem,h6,h1',w2];exact⟨⟨j+1,by simp,by omega,by rw[hst];unfold eY;rw[hbit];rfl⟩,by omega⟩
   ·simp only[go_sem,h6,h1',w2,hb2,hpj,hne,s2];exact⟨⟨j+1,by simp,by omega,by rw[hst];unfold eY;rw[hbit,SQ rfl,bq hpj]⟩,by omega⟩
  ·have w2:=SM ((k:Int)+1) (by omega);have ej:j=ps.length:=(by omega);subst ej;simp only[go_sem,h6,h1',hb2,h5,w2];exact⟨⟨k+1,by simp,by omega,rfl⟩,by omega⟩
 ·simp only[go_sem,h5,h1,hb];have ek:k=ps.length:=by omega
  subst ek;exact ay.mk (Nat.le_refl _) hK
def r9 (ps:List Nat):Bool:=(List.range ps.length).all fun v=>!(gj ps (ps.getD v 0)).testBit v
theorem vr (ps:List Nat):r9 ps=true↔lC ps:=by
 unfold r9 lC;simp only[Tf,To,Vy]
theorem QT (ps:List Nat)(hl:(ps.length:Int)<2 ^ 39)(hp:∀ p∈ps,p<2 ^ 64)(H:AHeap)(K:ARes->AHeap->Prop)(hK:K (.ret (.lit (.bool (r9 ps)))) H):ae Tryz.prog G0 114 [fO ps] H K:=by
 have no:¬ r9 ps=true->ay Tryz.prog G0 H K (.lit (.bool false)) H:=fun h=>ay.mk (Nat.le_refl _) (by rw[Bool.eq_false_iff.2 h]at hK;exact hK);refine ae.aZ (n:=18) (rs:=[.tmp 2]) Tryz.func114 rfl rfl rfl (by decide) (by kernel_rfl) (by simp) ?_;simp only[go_sem];refine W.aL 262140 (by rfl) (fun ρ H'=>H'=H/\∃ k:Nat,ρ 3=aa k/\k<=ps.length/\∀ v,v<k->(gj ps (ps.getD v 0)).testBit v=false) (fun ρ H=>ps.length - (iv (ρ 3)).toNat) ?_ ?_
 ·simp only[go_sem];exact⟨0,rfl,by omega,fun v h=>absurd h (S7 _)⟩
 rintro ρ H' ⟨rfl,k,h3,hk,ha⟩;refine W.vs ?_;by_cases hb:(k:Int)<ps.length
 ·obtain⟨p,hpk⟩:=get_of_lt (l:=ps) (i:=k) (by omega);have hne:=aK hpk;have hp1:=hp p (SK hpk);simp only[go_sem,h3,hb,hpk,hne];refine aB.clo (QS ps p hl hp hp1 _ _ ⟨trivial,?_⟩);simp only[go_sem,h3];refine aB.clo (zj (gj ps p) k (zk hp hp1 _) (by omega) _ _ ⟨trivial,?_⟩);have w2:=SM ((k:Int)+1) (by omega);cases hbit:(gj ps p).testBit k
  ·simp only[go_sem,h3,w2];refine⟨⟨k+1,by simp,by omega,fun v hv=>?_⟩,by omega⟩;rcases Te v k with h|h
   ·exact ha v h
   ·obtain rfl:v=k:=(by omega);rw[bq hpk];exact hbit
  ·simp only[go_sem];refine no fun h=>?_;have:=(vr ps).1 h k (by omega);rw[bq hpk,hbit]at this;cases this
 ·simp only[go_sem,h3,hb];rw[(vr ps).2 fun v hv=>ha v (by omega)]at hK;exact ay.mk (Nat.le_refl _) hK
def jk (g card:Int)(r:List Int):Prop:=(r.length:Int)=card/\(∀ w∈r,0<=w/\w<=g)/\r.sum=g
def fA (g:Int)(ns:List NodeP)(x:NodeP):Prop:=(x.rows.length:Int)=au (aH ns x)/\∀ r∈x.rows,jk g x.card r
structure NetOk (g:Int)(ns:List NodeP):Prop where
 g1:1<=g/\g<=60
 n1:1<=ns.length/\ns.length<=8
 node:∀ x∈ns,(1<=x.card/\x.card<=4)/\bK x.parents ns.length
 size:au (ao ns)<=1024
 acyc:lC (aY ns)
 rows:∀ x∈ns,fA g ns x
noncomputable def mL (g:Int)(ns:List NodeP):Bool:=@decide (NetOk g ns) (Classical.propDecidable _)
theorem vt {g:Int}{ns:List NodeP}(h:NetOk g ns):mL g ns=true:=by unfold mL;exact @decide_eq_true _ (Classical.propDecidable _) h
theorem vu {g:Int}{ns:List NodeP}(h:¬ NetOk g ns):mL g ns=false:=by unfold mL;exact @decide_eq_false _ (Classical.propDecidable _) h
def pU (ns:List NodeP):Prop:=(ns.length:Int)<2 ^ 38/\∀ x∈ns,(x.parents.length:Int)<2 ^ 38/\(x.rows.length:Int)<2 ^ 38/\∀ r∈x.rows,(r.length:Int)<2 ^ 38
theorem lS {l:List Int}(h:l.length<=12)(h2:∀ x∈l,1<=x/\x<=4):cU l:=⟨h,fun x hx=>by have:=h2 x hx;omega⟩
theorem mM {ns:List NodeP}{x:NodeP}(hin:eR x.parents ns.length)(hc:∀ y∈ns,1<=y.card/\y.card<=4):∀ c∈aH ns x,1<=c/\c<=4:=fun c h=>by
 unfold aH aF at h;obtain⟨q,hq,rfl⟩:=S9.1 h;obtain⟨j,rfl,y,hy⟩:=lu (l:=ns) (hin q hq).1 (hin q hq).2;rw[Int.toNat_natCast,bq (cL hy)];exact hc y (SK hy)
theorem jY {ns:List NodeP}{x:NodeP}(h8:ns.length<=8)(hp:bK x.parents ns.length)(hc:∀ y∈ns,1<=y.card/\y.card<=4):cU (aH ns x):=by
 refine lS ?_ (mM (fun q hq=>by have:=hp.2 q hq;omega) hc);rw[show (aH ns x).length=_ from fM _ _];have:=hp.len;omega
theorem vv {ns:List NodeP}{n:Nat}(h:∀ x∈ns,∀ q∈x.parents,0<=q/\q<(n:Int)):∀ p∈aY ns,p<2 ^ n:=fun p hp=>by
 obtain⟨x,hx,rfl⟩:=S9.1 hp;exact rP fun q hq=>by have:=h x hx q hq;omega
theorem vw (l:List Int)(x:Int):(l++[x]).sum=l.sum+x:=by simp
set_option maxHeartbeats 2000000 in
theorem QU (g:Int)(ns:List NodeP)(hf:pU ns)(H:AHeap)(K:ARes->AHeap->Prop)(hK:K (.ret (.lit (.bool (mL g ns)))) H):ae Tryz.prog G0 54 [bJ g ns] H K:=by
 refine ae.clo ⟨_,Tryz.func54,rfl,rfl⟩ fun hcl=>?_;have no:¬ NetOk g ns->∀ H',Over H H'->ay Tryz.prog G0 H K (.lit (.bool false)) H':=fun h H' ov=>ay.bx aS hcl ov (.lit _) (by rw[vu h]at hK;exact hK);refine ae.aZ (n:=154) (rs:=[.tmp 2]) Tryz.func54 rfl rfl rfl (by decide) (by kernel_rfl) (by simp) ?_;simp only[go_sem,bJ,cj];obtain⟨H1,hH1⟩:∃ H1,H1=ext H [.arr 0 103 [.lit (.int .i64 g),.vec ns.length (aG ns)]]:=⟨_,rfl⟩
 have l1:H1.live H.next 0=some (103,[.lit (.int .i64 g),.vec ns.length (aG ns)]):=by rw[hH1];exact ag (bQ ..)
 have n1:H1.next=H.next+1:=by rw[hH1];rfl
 have o1:Over H H1:=by rw[hH1];exact .ext _ _
 rw[<- hH1];by_cases c1:g<1
 ·simp only[go_sem,c1];exact no (fun h=>by have:=h.g1;omega) _ o1
 by_cases c2:g > 60
 ·simp only[go_sem,l1,c1,c2];exact no (fun h=>by have:=h.g1;omega) _ o1
 by_cases c3:(ns.length:Int)<1
 ·simp only[go_sem,l1,c1,c2,c3];exact no (fun h=>by have:=h.n1;omega) _ o1
 by_cases c4:(ns.length:Int) > 8
 ·simp only[go_sem,l1,c1,c2,c3,c4];exact no (fun h=>by have:=h.n1;omega) _ o1
 simp only[go_sem,l1,c1,c2,c3,c4];refine W.aL 18446744071562068028 (by rfl) (fun ρ H'=>∃ k:Nat,ρ 4=aa k/\k<=ns.length/\Over H1 H'/\(∀ x∈ns.take k,(1<=x.card/\x.card<=4)/\bK x.parents ns.length)/\ρ 3=aa (au ((ao ns).take k))) (fun ρ H=>ns.length - (iv (ρ 4)).toNat) ?_ ?_
 ·simp only[go_sem];exact⟨0,rfl,by omega,.refl _,by simp,by simp [gi]⟩
 ·rintro ρ H' ⟨k,h4,hk,ov,hall,h3⟩;refine W.vs ?_;have l2:=(ov.live (g:=0) (by omega:H.next<H1.next)).trans l1;have hlt:H.next<H'.next:=by have:=ov.next;omega
  have l3:∀ L,(ext H' L).live H.next 0=_:=fun L=>(dv hlt).trans l2;by_cases hb:(k:Int)<ns.length
  ·obtain⟨x,hx⟩:=get_of_lt (l:=ns) (i:=k) (by omega);have hxm:=SK hx;have hne:=dC hx;have e0:=mz hx;have e1:k*3+3<=(aG ns).length:=(by rw[gT];omega);have nb:¬ H.next=H'.next:=(by omega);have ove:∀ L,Over H (ext H' L):=fun L=>(o1.trans ov).trans (.ext _ _);by_cases d1:x.card<1
   ·simp only[go_sem,h4,l2,hb,hne,e0,e1,d1];exact no (fun h=>by have:=(h.node x hxm).1;omega) _ (ove _)
   by_cases d2:x.card > 4
   ·simp only[go_sem,h4,l2,hb,hne,e0,e1,d1,d2];exact no (fun h=>by have:=(h.node x hxm).1;omega) _ (ove _)
   simp only[go_sem,h4,l2,l3,hb,hne,e0,e1,d1,d2];refine aB.clo (DY x.parents ns.length (by have:=(hf.2 x hxm).1;omega) _ _ ⟨trivial,?_⟩);by_cases d3:bK x.parents ns.length;rotate_left
   ·simp only[go_sem,d3];exact no (fun h=>d3 (h.node x hxm).2) _ (ove _)
   have hall':∀ y∈ns.take (k+1),(1<=y.card/\y.card<=4)/\bK y.parents ns.length:=fun y hy=>by
    rw[aO hx]at hy;rcases Ta.1 hy with hy|hy
    ·exact hall y hy
    ·obtain rfl:=List.mem_singleton.1 hy;exact⟨by omega,d3⟩
   have b1:cU ((ao ns).take (k+1)):=lS (by simp [ao];omega) fun c hc=>by
    rw[show (ao ns).take (k+1)=ao (ns.take (k+1)) by simp [ao]]at hc;obtain⟨y,hy,rfl⟩:=S9.1 hc;exact(hall' y hy).1
   have b2:=b1.prod;rw[aO (cL hx),eO]at b2;have w1:=SM ((k:Int)+1) (by omega);have w2:=SM (au ((ao ns).take k)*x.card) (by omega);simp only[go_sem,h4,h3,d3,w1,w2];exact⟨by have:=ov.next;omega,⟨k+1,by simp,by omega,ov.trans (.ext _ _),fun y hy=>hall' y hy,by rw[aO (cL hx),eO]⟩,by omega⟩
  ·have ek:k=ns.length:=(by omega);subst ek;rw[SP (Nat.le_refl _)]at hall;rw[SP (by rw[cM];omega)]at h3;have hcards:∀ y∈ns,1<=y.card/\y.card<=4:=fun y hy=>(hall y hy).1;have ov0:=o1.trans ov;by_cases c5:au (ao ns) > 1024
   ·simp only[go_sem,h4,h3,l2,hb,c5];exact no (fun h=>by have:=h.size;omega) _ ov0
   simp only[go_sem,h4,h3,l2,hb,c5];have hpl:∀ x∈ns,(x.parents.length:Int)<2 ^ 39/\∀ q∈x.parents,0<=q/\q<64:=fun x hx=>⟨by have:=(hf.2 x hx).1;omega,fun q hq=>by have:=(hall x hx).2.2 q hq;omega⟩
   refine aB.clo (D3 g ns (by have:=hf.1;omega) hpl _ _ ⟨trivial,?_⟩);simp only[go_sem];refine aB.clo (QT (aY ns) (by simp [aY];omega) (fun p hp=>S6 (vv (n:=64) (fun x hx q hq=>by have:=(hpl x hx).2 q hq;omega) p hp) (Nat.le_refl _)) _ _ ⟨trivial,?_⟩);cases hac:r9 (aY ns)
   ·simp only[go_sem];exact no (fun h=>by rw[(vr _).2 h.acyc]at hac;cases hac) _ ov0
   simp only[go_sem];refine W.aL 22835963083295358096932570788825439312478734276 (by rfl) (fun ρ' H2=>∃ k:Nat,ρ' 6=aa k/\k<=ns.length/\Over H' H2/\∀ x∈ns.take k,fA g ns x) (fun ρ' H=>ns.length - (iv (ρ' 6)).toNat) ?_ ?_
   ·simp only[go_sem];exact⟨0,rfl,by omega,.refl _,by simp⟩
   rintro ρ' H2 ⟨k,h6,hk,ov2',hrows⟩;have ov2:=ov.trans ov2';refine W.vs ?_;have l2:=(ov2.live (g:=0) (by omega:H.next<H1.next)).trans l1;have hlt:H.next<H2.next:=(by have:=ov2.next;omega);by_cases hb:(k:Int)<ns.length;rotate_left
   ·simp only[go_sem,h6,l2,hb];rw[SP (by omega)]at hrows;rw[vt ⟨by omega,by omega,hall,by omega,(vr _).1 hac,hrows⟩]at hK;exact ay.bx aS hcl (o1.trans ov2) (.lit _) hK
   obtain⟨x,hx⟩:=get_of_lt (l:=ns) (i:=k) (by omega);have hxm:=SK hx;have hne:=dC hx;have e0:=mz hx;have e1:k*3+3<=(aG ns).length:=(by rw[gT];omega);obtain⟨x1,x2⟩:=hall x hxm;obtain⟨f1,f2,f3⟩:=hf.2 x hxm;have sm:=jY (by omega) x2 hcards;simp only[go_sem,h6,l2,hb,hne,e0,e1];obtain⟨H3,hH3⟩:∃ H3,H3=ext H2 [.arr 0 73 [.lit (.int .i64 x.card),.vec x.parents.length (ints x.parents),ah x.rows]]:=⟨_,rfl⟩
   have m1:H3.live H2.next 0=some (73,[.lit (.int .i64 x.card),.vec x.parents.length (ints x.parents),ah x.rows]):=(by rw[hH3];exact ag (bQ ..));have m2:H3.live H.next 0=some (103,[.lit (.int .i64 g),.vec ns.length (aG ns)]):=(by rw[hH3,dv hlt];exact l2);have m3:H3.next=H2.next+1:=(by rw[hH3];rfl);have ov3:Over H1 H3:=(by rw[hH3];exact ov2.trans (.ext _ _));have ov4:Over H H3:=o1.trans ov3;rw[<- hH3];refine W.draw 7 [0,1,3,0,0,24,56] Tryz.mixed (by kernel_rfl) (by kernel_rfl) ?_;simp only[go_sem,h6,m1,m2,ah];refine⟨af (aH ns x),[],bO.pure fun H2=>zh g ns k x hx (by have:=hf.1;omega) (by omega) (fun q hq=>by have:=x2.2 q hq;omega) H2 _ ⟨rfl,rfl⟩,?_⟩;simp only[go_sem];refine⟨aa (au (aH ns x)),[],bO.pure fun H2=>vq (aH ns x) sm H2 _ ⟨rfl,rfl⟩,?_⟩;by_cases d1:(x.rows.length:Int)=au (aH ns x);rotate_left
   ·simp only[go_sem,d1];exact no (fun h=>d1 (h.rows x hxm).1) _ ov4
   simp only[go_sem,d1];refine W.aL 22835963083295358091980815354050401082527450884 (by rfl) (fun ρ2 H4=>H4=H3/\∃ j:Nat,ρ2 8=aa j/\j<=x.rows.length/\∀ r∈x.rows.take j,jk g x.card r) (fun ρ2 H=>x.rows.length - (iv (ρ2 8)).toNat) ?_ ?_
   ·simp only[go_sem];exact⟨0,rfl,by omega,by simp⟩
   rintro ρ2 H4 ⟨rfl,j,h8,hj,hrj⟩;refine W.vs ?_;by_cases hb2:(j:Int)<x.rows.length;rotate_left
   ·have w1:=SM ((k:Int)+1) (by omega);have hb2':¬ (j:Int)<au (aH ns x):=(by omega);simp only[go_sem,h6,h8,m1,hb2',d1,w1,ah];rw[SP (by omega)]at hrj;refine⟨by have:=ov2'.next;omega,⟨k+1,by simp,by omega,by rw[hH3];exact ov2'.trans (.ext _ _),fun y hy=>?_⟩,by omega⟩;rw[aO hx]at hy;rcases Ta.1 hy with hy|hy
    ·exact hrows y hy
    ·obtain rfl:=List.mem_singleton.1 hy;exact⟨d1,hrj⟩
   obtain⟨r,hr⟩:=get_of_lt (l:=x.rows) (i:=j) (by omega);have hrm:=SK hr;have hrne:=aK hr;have hb2':(j:Int)<au (aH ns x):=(by omega);have nope:¬ jk g x.card r->¬ NetOk g ns:=fun h h'=>h ((h'.rows x hxm).2 r hrm);simp only[go_sem,h8,m1,hb2',d1,ah];refine W.draw 8 [0,1,0,7,15,31,0,64] Tryz.mixed (by kernel_rfl) (by kernel_rfl) ?_;by_cases d2:(r.length:Int)=x.card;rotate_left
   ·simp only[go_sem,h8,m1,hb2',d1,d2,hr,hrne,ah];exact no (nope fun h=>d2 h.1) _ ov4
   simp only[go_sem,h8,m1,hb2',d1,d2,hr,hrne,ah];refine W.aL 1427247692705635362504627542722711980362171908 (by rfl) (fun ρ3 H5=>H5=H4/\∃ i:Nat,ρ3 10=aa i/\i<=r.length/\ρ3 9=aa (r.take i).sum/\∀ w∈r.take i,0<=w/\w<=g) (fun ρ3 H=>r.length - (iv (ρ3 10)).toNat) ?_ ?_
   ·simp only[go_sem];exact⟨0,rfl,by omega,by simp,by simp⟩
   rintro ρ3 H5 ⟨rfl,i,h10,hi,h9,hw⟩;refine W.vs ?_;have sb:0<=(r.take i).sum/\(r.take i).sum<=60*i:=by
    have key:∀ l:List Int,(∀ w∈l,0<=w/\w<=g)->0<=l.sum/\l.sum<=60*l.length:=by
     intro l
     induction l with
     | nil=>intro _;simp
     | cons a l ih =>
      intro h;have h1:=ih fun w hw=>h w (by simp [hw]);have h2:=h a (by simp);simp only[Uq,List.length_cons]
      push_cast
      omega
    have:=key _ hw;rw[SX,Uw (by omega)]at this;exact this
   have r4:r.length<=4:=(by omega);by_cases hb3:(i:Int)<r.length<;>have hb3':=hb3<;>rw[d2]at hb3'
   rotate_left
   ·rw[SP (by omega)]at h9 hw;by_cases d3:r.sum=g;rotate_left
    ·simp only[go_sem,h8,h9,h10,m1,m2,hb3',hr,hrne,hb2',d1,d2,d3,ah];exact no (nope fun h=>d3 h.2.2) _ ov4
    have w1:=SM ((j:Int)+1) (by have:=(hf.2 x hxm).2.1;omega);simp only[go_sem,h8,h9,h10,m1,m2,hb3',hr,hrne,hb2',d1,d2,d3,w1,ah];refine⟨⟨j+1,by simp,by omega,fun y hy=>?_⟩,by omega⟩;rw[aO hr]at hy;rcases Ta.1 hy with hy|hy
    ·exact hrj y hy
    ·obtain rfl:=List.mem_singleton.1 hy;exact⟨d2,hw,d3⟩
   obtain⟨a,ha⟩:=get_of_lt (l:=r) (i:=i) (by omega);have ham:=SK ha;have hane:=aK ha;simp only[go_sem,h8,h10,m1,hr,hrne,hb2',hb3',d1,d2,ah];refine W.draw 20 [0,1,0,7,15,0,63,127,255,511,1023,2047,1023,8191,16383,1023,65535,131071,1023,263167] Tryz.mixed (by kernel_rfl) (by kernel_rfl) ?_;by_cases d3:a<0
   ·simp only[go_sem,h8,h10,m1,hr,hrne,hb2',hb3',ha,hane,d1,d2,d3,ah];exact no (nope fun h=>by have:=h.2.1 a ham;omega) _ ov4
   by_cases d4:a > g
   ·simp only[go_sem,h8,h10,m1,m2,hr,hrne,hb2',hb3',ha,hane,d1,d2,d3,d4,ah];exact no (nope fun h=>by have:=h.2.1 a ham;omega) _ ov4
   have w1:=SM ((i:Int)+1) (by omega);have w2:=SM ((r.take i).sum+a) (by omega);simp only[go_sem,h8,h9,h10,m1,m2,hr,hrne,hb2',hb3',ha,hane,d1,d2,d3,d4,w1,w2,ah];refine⟨⟨i+1,by simp,by omega,by rw[aO ha,vw],fun w hw'=>?_⟩,by omega⟩;rw[aO ha]at hw';rcases Ta.1 hw' with hw'|hw'
   ·exact hw w hw'
   ·obtain rfl:=List.mem_singleton.1 hw';exact⟨by omega,by omega⟩
end Go.Proofs
namespace Go.Hx
variable {P:Program} {G:Nat->Option (List AVal)} {n:Nat} {rd:Option Nat} {Q:AX->St->Prop}
def zE (P:Program)(G:Nat->Option (List AVal))(f:FuncId)(first cap:List AVal)(xs:List (List AVal))(S:AHeap->Prop):Prop :=
 ∀ (idy:Nat) (J:Nat->AHeap->Prop) (Stop:AHeap->Prop) (H:AHeap) (K:ARes->AHeap->Prop),
  (∀ k H1,J k H1->S H1)->J 0 H ->
  (∀ k x H1 K1,xs[k]?=some x->J k H1->H.next<=H1.next->(∀ H',J (k+1) H'->H1.next<=H'.next->K1 (.ret (.lit (.bool true))) H')->(∀ H',Stop H'->H1.next<=H'.next->K1 (.ret (.lit (.bool false))) H')->aB P G (.yld idy) x H1 K1) ->
  (∀ H',J xs.length H'->H.next<=H'.next->K (.ret (.tup [])) H') ->
  (∀ H',Stop H'->H.next<=H'.next->K (.ret (.tup [])) H') ->
  ae P G f (first++[.yld idy]++cap) H K
def gG (idy:Nat)(B:Blk)(lo:Nat)(J:AHeap->Prop)(Stop:AX->AHeap->Prop):AX->St->Prop
 | .normal,s=>s.H.get idy=some B/\lo<=s.H.next/\J s.H
 | .ret,s=>s.H.get idy=some B/\lo<=s.H.next/\Stop .ret s.H
 | .exit i,s=>s.H.get idy=some B/\lo<=s.H.next/\Stop (.exit i) s.H
 | _,_=>False
def mR (P:Program)(G:Nat->Option (List AVal))(n idy:Nat)(B Bb:Blk)(lo:Nat)(body:Code)(J:AHeap->Prop)(Stop:AX->AHeap->Prop):AX->St->Prop
 | .normal,s=>s.H.get idy=some B/\W P G n (some idy) body (gG idy Bb lo J Stop) ⟨s.ρ,s.H.upd idy Bb⟩
 | _,_=>False
theorem W.vG {g:Operand}{ps:Array Tmp}{asg body:Code}{ρ:Env}{H:AHeap}{f:FuncId}{first cap:List AVal}{xs:List (List AVal)}{S:AHeap->Prop}(hg:ak G ρ g=.clo f first cap)
  (hit:zE P G f first cap xs S) (J:Nat->AHeap->Prop) (Stop:AX->AHeap->Prop) (hS:∀ k H1,J k H1->S H1)
  (hJu:∀ k H1 b,J k H1->J k (H1.upd H.next b)) (hSu:∀ c H1 b,Stop c H1->Stop c (H1.upd H.next b))
  (hJ0:∀ b,J 0 (ext H [b])) (hps:ps.toList.all (fun t=>decide (t<n))=true) (hxl:∀ x∈xs,x.length=ps.size)
  (hrd:∀ k H1,J k H1->ef H1 rd) (hrd2:∀ c H1,Stop c H1->ef H1 rd)
  (hround:∀ k x H1 B Bb,xs[k]?=some x->J k H1->H.next+1<=H1.next->H1.get H.next=some B->(∃ st pd n' en ps' as' bo,Bb=Blk.loop st pd n' en ps' as' bo) ->
   W P G n (some H.next) asg (mR P G n H.next B Bb H1.next body (J (k+1)) Stop) ⟨iZ (cW ρ n) (ps.toList.zip x),H1⟩)
  (hend:∀ H',J xs.length H'->H.next+1<=H'.next->Q .normal ⟨ρ,H'⟩)
  (hret:∀ H',Stop .ret H'->H.next+1<=H'.next->Q .ret ⟨ρ,H'⟩) (hexit:∀ i H',Stop (.exit i) H'->H.next+1<=H'.next->Q (.exit i) ⟨ρ,H'⟩):
  W P G n rd (.rangeFunc g ps asg body) Q ⟨ρ,H⟩:=by
 refine W.rangeFunc (s:=⟨ρ,H⟩) hg ⟨_,sX _ _,?_⟩;obtain⟨B,hB⟩:∃ B,B=Blk.loop .ready none n ρ ps asg body:=⟨_,rfl⟩
 obtain⟨Bb,hBb⟩:∃ B,B=Blk.loop .busy none n ρ ps asg body:=⟨_,rfl⟩
 have nx:(ext H [B]).next=H.next+1:=rfl;show ae P G f (first++[.yld H.next]++cap) (ext H [Blk.loop .ready none n ρ ps asg body]) (td rd Q ρ H.next);rw[<- hB];refine hit H.next (fun k H1=>H1.get H.next=some B/\J k H1) (fun H1=>∃ c pend,H1.get H.next=some (.loop .done (some pend) n ρ ps asg body)/\Stop c H1/\((c=.ret/\pend=.ret)\/∃ i,c=.exit i/\pend=.exit i)) _ _
  (fun k H1 h=>hS k H1 h.2) ⟨bT,hJ0 B⟩ (fun k x H1 K1 hx hj hn hgo hst=>?_) (fun H' hj hn=>?_) (fun H' hj hn=>?_)
 ·have hxm:=hxl x (SK hx);refine aB.yld (hj.1.trans (congrArg some hB)) hxm hps ?_;refine(hround k x H1 B Bb hx hj.2 hn hj.1 ⟨_,_,_,_,_,_,_,hBb⟩).mono fun e s1 h1=>?_;cases e with
  | normal =>
   obtain⟨a1,a2⟩:=h1;refine⟨Bb,by rw[a1,hB,hBb];rfl,?_⟩;refine a2.mono fun e2 s2 h2=>?_;cases e2 with
   | normal =>
    obtain⟨b1,b2,b3⟩:=h2;exact⟨B,by rw[b1,hB,hBb];rfl,hgo _ ⟨by rw[ab,SQ rfl],hJu _ _ _ b3⟩ b2⟩
   | ret =>
    obtain⟨b1,b2,b3⟩:=h2;exact⟨.loop .done (some .ret) n ρ ps asg body,by rw[b1,hBb];rfl,hst _ ⟨.ret,.ret,by rw[ab,SQ rfl],hSu _ _ _ b3,.inl ⟨rfl,rfl⟩⟩ b2⟩
   | exit i =>
    obtain⟨b1,b2,b3⟩:=h2;exact⟨.loop .done (some (.exit i)) n ρ ps asg body,by rw[b1,hBb];rfl,hst _ ⟨.exit i,.exit i,by rw[ab,SQ rfl],hSu _ _ _ b3,.inr ⟨i,rfl,rfl⟩⟩ b2⟩
   | _=>exact h2.elim
  | _=>exact h1.elim
 ·refine⟨hrd _ _ hj.2,(none,.loop .exhausted none n ρ ps asg body),by rw[hj.1,hB];rfl,?_⟩;exact hend _ (hJu _ _ _ hj.2) hn
 ·obtain⟨c,pend,h1,h2,h3⟩:=hj;refine⟨hrd2 _ _ h2,(some pend,.loop .exhausted (some pend) n ρ ps asg body),by rw[h1];rfl,?_⟩;rcases h3 with ⟨rfl,rfl⟩|⟨i,rfl,rfl⟩
  ·exact hret _ (hSu _ _ _ h2) hn
  ·exact hexit i _ (hSu _ _ _ h2) hn
end Go.Hx
namespace Go.Proofs
open Go.Hx
def sd (x:NodeP):AVal:=.agg [.lit (.int .i64 x.card),.vec x.parents.length (ints x.parents),ah x.rows]
def mO (rows:List (List Int)):List (List AVal):=rows.zipIdx.map fun p=>[aa p.2,af p.1]
theorem D5 {rows:List (List Int)}{k:Nat}{x:List AVal}(h:(mO rows)[k]?=some x):∃ r,rows[k]?=some r/\x=[aa k,af r]:=by
 unfold mO at h;rw[List.getElem?_map,Uv]at h;cases hr:rows[k]? with
 | none=>rw[hr]at h;simp at h
 | some r=>rw[hr]at h;simp at h;exact⟨r,rfl,h.symm⟩
theorem QV {rows:List (List Int)}{k:Nat}{r:List Int}(h:rows[k]?=some r):(mO rows)[k]?=some [aa k,af r]:=by
 unfold mO;rw[List.getElem?_map,Uv,h];simp
theorem D6 (rows:List (List Int)):(mO rows).length=rows.length:=by simp [mO]
theorem QW (x:NodeP)(hl:(x.rows.length:Int)<2 ^ 40)(b:Nat):zE Tryz.prog G0 170 [] [.ptr b 0 0] (mO x.rows) (fun H=>H.get b=some (.arr 0 73 [.lit (.int .i64 x.card),.vec x.parents.length (ints x.parents),ah x.rows])):=by
 intro idy J Stop H K hS hJ0 hY hK hSt;have l0:=ag (hS 0 H hJ0);show ae _ _ _ ([.yld idy]++[.ptr b 0 0]) _ _;refine ae.aZ (n:=19) (rs:=[]) Tryz.func170 rfl rfl rfl (by decide) (by kernel_rfl) (by simp) ?_;simp only[go_sem,l0,ah];refine W.aL 524056 (by rfl) (fun ρ H'=>∃ k:Nat,ρ 8=aa k/\k<=x.rows.length/\J k H'/\H.next<=H'.next) (fun ρ H=>x.rows.length - (iv (ρ 8)).toNat) ?_ ?_
 ·simp only[go_sem];exact⟨0,rfl,by omega,hJ0⟩
 rintro ρ H' ⟨k,h8,hk,hj,hn⟩;refine W.vs ?_;by_cases hb:(k:Int)<x.rows.length
 ·obtain⟨r,hr⟩:=get_of_lt (l:=x.rows) (i:=k) (by omega);have hne:=aK hr;have w1:=SM ((k:Int)+1) (by omega);simp only[go_sem,h8,hb,hr,hne];refine hY k [aa k,af r] H' _ (QV hr) hj hn (fun H2 hj2 hn2=>⟨trivial,?_⟩) (fun H2 hs2 hn2=>⟨trivial,?_⟩)
  ·simp only[go_sem,h8,w1];exact⟨by omega,⟨k+1,by simp,by omega,hj2,by omega⟩,by omega⟩
  ·simp only[go_sem];exact ay.mk (by omega) (hSt H2 hs2 (by omega))
 ·simp only[go_sem,h8,hb];have ek:k=(mO x.rows).length:=by rw[D6];omega
  subst ek;exact ay.mk (by omega) (hK H' hj hn)
theorem QX (x:NodeP)(H:AHeap)(K:ARes->AHeap->Prop)(hK:K (.ret (.clo 170 [] [.ptr H.next 0 0])) (ext H [.arr 0 73 [.lit (.int .i64 x.card),.vec x.parents.length (ints x.parents),ah x.rows]])):
  ae Tryz.prog G0 168 [sd x] H K:=by
 refine ae.aZ (n:=4) (rs:=[.tmp 2]) Tryz.func168 rfl rfl rfl (by decide) (by kernel_rfl) (by simp) ?_;simp only[go_sem,sd];exact ay.mk (by simp [bI]) hK
theorem zm {l:List Int}{g:Int}(h:∀ w∈l,0<=w):0<=l.sum:=by
 induction l with
 | nil=>simp
 | cons a l ih =>
  have h1:=ih fun w hw=>h w (by simp [hw]);have h2:=h a (by simp);simp only[Uq];omega
theorem zn {l:List Int}(h:∀ w∈l,0<=w):∀ w∈l,w<=l.sum:=by
 induction l with
 | nil=>intro w hw;cases hw
 | cons a l ih =>
  intro w hw;have h1:=zm (g:=0) fun w hw=>h w (TE a hw);have h2:=h a (by simp);simp only[Uq];rcases List.mem_cons.1 hw with rfl|hw
  ·omega
  ·have:=ih (fun w hw=>h w (by simp [hw])) w hw;omega
noncomputable def kM (g:Int)(ns:List NodeP)(x:NodeP):Bool:=@decide (fA g ns x) (Classical.propDecidable _)
theorem D7 {g:Int}{ns:List NodeP}{x:NodeP}(h:fA g ns x):kM g ns x=true:=by unfold kM;exact @decide_eq_true _ (Classical.propDecidable _) h
theorem QY {g:Int}{ns:List NodeP}{x:NodeP}(h:¬ fA g ns x):kM g ns x=false:=by unfold kM;exact @decide_eq_false _ (Classical.propDecidable _) h
theorem QZ {g:Int}{ns:List NodeP}{x:NodeP}:kM g ns x=true↔fA g ns x:=by unfold kM;exact @decide_eq_true_iff _ (Classical.propDecidable _)
set_option maxHeartbeats 2000000 in
theorem Q0 (g:Int)(hg:1<=g/\g<=60)(ns:List NodeP)(sets:List Nat)(x:NodeP)(hin:eR x.parents ns.length)(hsm:cU (aH ns x))(hx1:(x.rows.length:Int)<2 ^ 38)(hx2:∀ r∈x.rows,(r.length:Int)<2 ^ 38)(H:AHeap)(K:ARes->AHeap->Prop)
  (hK:K (.ret (.lit (.bool (kM g ns x)))) H):ae Tryz.prog G0 161 [.agg [.lit (.int .i64 g),cj ns,af (ao ns),fO sets,.lit (.slice none 0 0)],sd x] H K:=by
 refine ae.clo ⟨_,Tryz.func161,rfl,rfl⟩ fun hcl=>?_;have l12:=hsm.1;have pl:(aH ns x).length=x.parents.length:=fM _ _;have no:¬ fA g ns x->∀ H',Over H H'->ay Tryz.prog G0 H K (.lit (.bool false)) H':=fun h H' ov=>ay.bx aS hcl ov (.lit _) (by rw[QY h]at hK;exact hK);refine ae.aZ (n:=66) (rs:=[.cell 4 4]) Tryz.func161 rfl rfl rfl (by decide) (by kernel_rfl) (by simp) ?_;simp only[go_sem,cj,sd];obtain⟨H1,hH1⟩:∃ H1,H1=ext H [.arr 0 209 [.lit (.int .i64 g),.vec ns.length (aG ns),.vec (ao ns).length (ints (ao ns)),.vec sets.length (sets.map br),.lit (.slice none 0 0)],.arr 0 73 [.lit (.int .i64 x.card),.vec x.parents.length (ints x.parents),ah x.rows],.arr 0 4 [.lit (.bool false)]]:=⟨_,rfl⟩
 have l1:H1.live H.next 0=some (209,[.lit (.int .i64 g),.vec ns.length (aG ns),.vec (ao ns).length (ints (ao ns)),.vec sets.length (sets.map br),.lit (.slice none 0 0)]):=by rw[hH1];exact ag (bQ ..)
 have l2:H1.live (H.next+1) 0=some (73,[.lit (.int .i64 x.card),.vec x.parents.length (ints x.parents),ah x.rows]):=by rw[hH1];exact ag (bB H _ 1 (by simp))
 have g3:H1.get (H.next+2)=some (.arr 0 4 [.lit (.bool false)]):=by rw[hH1];exact bB H _ 2 (by simp)
 have n1:H1.next=H.next+3:=by rw[hH1];rfl
 have o1:Over H H1:=by rw[hH1];exact .ext _ _
 rw[<- hH1];refine W.aL 268370080 (by rfl) (fun ρ H'=>H'=H1/\∃ k:Nat,ρ 16=aa k/\k<=x.parents.length/\ρ 5=aa (au ((aH ns x).take k))) (fun ρ H=>x.parents.length - (iv (ρ 16)).toNat) ?_ ?_
 ·simp only[go_sem];exact⟨0,rfl,by omega,by simp [gi]⟩
 rintro ρ H' ⟨rfl,k,h16,hk,h5⟩;refine W.vs ?_;by_cases hb:(k:Int)<x.parents.length
 ·obtain⟨q,hq⟩:=get_of_lt (l:=x.parents) (i:=k) (by omega);obtain⟨j,rfl,y,hy⟩:=lu (l:=ns) (hin q (SK hq)).1 (hin q (SK hq)).2;have hne2:=aK hq;have hyc:=cL hy;have hne3:=aK hyc;have hj:(j:Int)<(ao ns).length:=by have:=get_lt hyc;omega
  have pk:(aH ns x)[k]?=some y.card:=by
   rw[show (aH ns x)[k]?=_ from lO hq,Int.toNat_natCast,bq hyc]
  have b1:=(hsm.take (k+1)).prod;rw[aO pk,eO]at b1;have w1:=SM ((k:Int)+1) (by omega);have w2:=SM (au ((aH ns x).take k)*y.card) (by omega);simp only[go_sem,h16,h5,l1,hb,hq,hne2,hj,hyc,hne3,w1,w2];exact⟨⟨k+1,by simp,by omega,by rw[aO pk,eO]⟩,by omega⟩
 rw[SP (by omega)]at h5;by_cases c1:(x.rows.length:Int)=au (aH ns x);rotate_left
 ·simp only[go_sem,h16,h5,l2,hb,c1,ah];have l3:=ag g3;simp only[go_sem,l3];exact no (fun h=>c1 h.1) _ (o1.upd (by omega) _)
 simp only[go_sem,h16,h5,l2,hb,c1,ah];refine aB.clo (QX x _ _ ⟨trivial,?_⟩);simp only[go_sem];obtain⟨H2,hH2⟩:∃ H2,H2=ext H' [.arr 0 73 [.lit (.int .i64 x.card),.vec x.parents.length (ints x.parents),ah x.rows]]:=⟨_,rfl⟩
 rw[<- hH2];have o2:Over H' H2:=by rw[hH2];exact .ext _ _
 have n2:H2.next=H.next+4:=by rw[hH2,bI,n1];rfl
 have hbx:H2.get H'.next=some (.arr 0 73 [.lit (.int .i64 x.card),.vec x.parents.length (ints x.parents),ah x.rows]):=by rw[hH2];exact bT
 refine W.env fun E hE=>?_;have e2:E 2=.ptr H.next 0 0:=by rw[hE];simp only[go_sem]
 have e3:E 3=.ptr (H.next+1) 0 0:=by rw[hE];simp only[go_sem]
 have e4:E 4=.ptr (H.next+2) 0 0:=by rw[hE];simp only[go_sem]
 have i1:H2.live H.next 0=some (209,[.lit (.int .i64 g),.vec ns.length (aG ns),.vec (ao ns).length (ints (ao ns)),.vec sets.length (sets.map br),.lit (.slice none 0 0)]):=(o2.live (by omega)).trans l1;have i2:H2.live (H.next+1) 0=some (73,[.lit (.int .i64 x.card),.vec x.parents.length (ints x.parents),ah x.rows]):=(o2.live (by omega)).trans l2;have i3:H2.get (H.next+2)=some (.arr 0 4 [.lit (.bool false)]):=(o2.old _ (by omega)).trans g3;refine W.vG (f:=170) (first:=[]) (cap:=[.ptr H'.next 0 0]) (by show E 34=_;rw[hE];rfl) (QW x (by omega) H'.next)
  (fun k Hx=>Over H2 Hx/\∀ r∈x.rows.take k,jk g x.card r) (fun c Hx=>c=.ret/\Over H Hx/\H.next+4<=Hx.next/\Hx.get (H.next+2)=some (.arr 0 4 [.lit (.bool false)])/\¬ fA g ns x)
  (fun k Hx h=>by rw[h.1.old _ (by omega)];exact hbx) (fun k Hx b h=>⟨h.1.upd (Nat.le_refl _) b,h.2⟩) (fun c Hx b h=>⟨h.1,h.2.1.upd (by omega) b,h.2.2.1,by rw[ab,SO (by omega)];exact h.2.2.2.1,h.2.2.2.2⟩)
  (fun b=>⟨.ext _ _,by simp⟩) (by decide) (fun y hy=>by
   obtain⟨k,hk⟩:=S8.1 hy;obtain⟨r,_,rfl⟩:=D5 hk;rfl) (fun _ _ _=>trivial) (fun _ _ _=>trivial) (fun k y Hx B Bb hy hj hn hB hBb=>?_) (fun Hx hj hn=>?_) (fun Hx hs hn=>?_) (fun i Hx hs hn=>by cases hs.1)
 ·obtain⟨r,hr,rfl⟩:=D5 hy;refine W.vs ?_;simp only[go_sem,iZ,cW,mR,TX,UX,Uf,UG,hB];obtain⟨H3,hH3⟩:∃ H3,H3=Hx.upd H2.next Bb:=⟨_,rfl⟩
  rw[<- hH3];obtain⟨st,pd,n',en,ps',as',bo,hBe⟩:=hBb;have o3:Over H2 H3:=by rw[hH3];exact hj.1.upd (Nat.le_refl _) Bb
  have o4:Over H H3:=(o1.trans o2).trans o3;have n3:H3.next=Hx.next:=by rw[hH3];rfl
  have j1:=(o3.live (g:=0) (by omega:H.next<H2.next)).trans i1;have j2:=(o3.live (g:=0) (by omega:H.next+1<H2.next)).trans i2;have j3:=(o3.old _ (by omega:H.next+2<H2.next)).trans i3;have j4:=ag j3;have jB:H3.get H2.next=some Bb:=by rw[hH3,ab,SQ rfl]
  have nB:¬ H2.next=H.next+2:=by omega
  have hrm:=SK hr;have hrl:=hx2 r hrm;have nope:¬ jk g x.card r->¬ fA g ns x:=fun h h'=>h (h'.2 r hrm);have stop:¬ jk g x.card r->(H3.upd (H.next+2) (Blk.arr 0 4 [.lit (.bool false)])).get H2.next=some Bb/\Hx.next<=(H3.upd (H.next+2) (Blk.arr 0 4 [.lit (.bool false)])).next/\Over H (H3.upd (H.next+2) (Blk.arr 0 4 [.lit (.bool false)])) /\
    H.next+4<=(H3.upd (H.next+2) (Blk.arr 0 4 [.lit (.bool false)])).next/\(H3.upd (H.next+2) (Blk.arr 0 4 [.lit (.bool false)])).get (H.next+2)=some (.arr 0 4 [.lit (.bool false)])/\¬ fA g ns x:=fun h =>
   ⟨by rw[ab,SO nB];exact jB,by rw[aw];omega,o4.upd (by omega) _,by rw[aw];omega,by rw[ab,SQ rfl],nope h⟩
  refine W.vs ?_;simp only[go_sem,cW,e2,j1];refine W.aL 144110790029349888 (by rfl) (fun ρ2 H4=>H4=H3/\∃ i:Nat,ρ2 42=aa i/\i<=r.length/\(∀ w∈r.take i,0<=w)/\(r.take i).sum<=g/\ρ2 10=aa (g - (r.take i).sum)) (fun ρ2 H=>r.length - (iv (ρ2 42)).toNat) ?_ ?_
  ·simp only[go_sem];exact⟨0,rfl,by omega,by simp,by simp;omega,by simp⟩
  rintro ρ2 H4 ⟨rfl,i,h42,hi,hw0,hws,h10⟩;refine W.vs ?_;have s0:=zm (g:=g) hw0;by_cases hb2:(i:Int)<r.length
  ·obtain⟨a,ha⟩:=get_of_lt (l:=r) (i:=i) (by omega);have ham:=SK ha;have hane:=aK ha;by_cases d1:a<0
   ·simp only[go_sem,h42,hb2,ha,hane,d1,cW,e4,j4,gG];exact stop fun h=>by have:=h.2.1 a ham;omega
   by_cases d2:a > g - (r.take i).sum
   ·simp only[go_sem,h42,h10,hb2,ha,hane,d1,d2,cW,e4,j4,gG];refine stop fun h=>?_;have h1:r.sum=(r.take (i+1)).sum+(r.drop (i+1)).sum:=(by rw[<- Vi,Tu]);rw[aO ha,vw]at h1;have h2:=zm (g:=g) (l:=r.drop (i+1)) fun w hw=>(h.2.1 w (T8 hw)).1;have:=h.2.2;omega
   have w1:=SM ((i:Int)+1) (by omega);have w2:=SM (g - (r.take i).sum - a) (by omega);simp only[go_sem,h42,h10,hb2,ha,hane,d1,d2,w1,w2,cW];refine⟨⟨_,_,_,_,_,_,_,by rw[jB,hBe]⟩,⟨i+1,by simp,by omega,fun w hw=>?_,by rw[aO ha,vw];omega,?_⟩,by omega⟩
   ·rw[aO ha]at hw;rcases Ta.1 hw with hw|hw
    ·exact hw0 w hw
    ·obtain rfl:=List.mem_singleton.1 hw;omega
   ·rw[aO ha,vw];show aa _=aa _;congr 1;omega
  ·rw[SP (by omega)]at hw0 hws h10 s0;by_cases d1:(r.length:Int)=x.card;rotate_left
   ·simp only[go_sem,h42,hb2,d1,cW,e3,e4,j2,j4,gG];exact stop fun h=>d1 h.1
   have hb2':¬ (i:Int)<x.card:=(by omega);by_cases d2:g - r.sum=0;rotate_left
   ·simp only[go_sem,h42,h10,hb2',d1,d2,cW,e3,e4,j2,j4,gG];exact stop fun h=>by have:=h.2.2;omega
   simp only[go_sem,h42,h10,hb2',d1,d2,cW,e3,j2,gG];refine⟨jB,by omega,o3,fun y hy=>?_⟩;rw[aO hr]at hy;rcases Ta.1 hy with hy|hy
   ·exact hj.2 y hy
   ·obtain rfl:=List.mem_singleton.1 hy;exact⟨d1,fun w hw=>⟨hw0 w hw,by have:=zn hw0 w hw;omega⟩,by omega⟩
 ·have hok:fA g ns x:=⟨c1,by
   have:=hj.2;rw[D6,TP]at this;exact this⟩
  have j4:=ag ((hj.1.old _ (by omega:H.next+2<H2.next)).trans i3);rw[D7 hok]at hK;simp only[go_sem,e4,j4];exact ay.bx aS hcl (((o1.trans o2).trans hj.1).upd (by omega) _) (.lit _) hK
 ·obtain⟨_,o4,n4,g4,hno⟩:=hs;have j4:=ag g4;simp only[go_sem,e4,j4];exact no hno _ o4
end Go.Proofs
