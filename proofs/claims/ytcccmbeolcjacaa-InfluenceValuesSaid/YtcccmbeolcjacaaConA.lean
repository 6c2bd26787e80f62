/-
  Closed facts of this seat's types. Laid by a program of ours.
-/
import Derived.Test.YtcccmbeolcjacaaProg
import Derived.Test.YtcccmbeolcjacaaLibC
import Derived.Test.YtcccmbeolcjacaaLibB
set_option linter.all false
namespace Go.Proofs
open Go.Hx
theorem Try.mixed:Try.prog.follows .mixedOrders=true:=by kernel_rfl
theorem Try.dh:Try.prog.cellsOf 3=1:=by kernel_rfl
theorem Try.dU:Try.prog.bytesOf 3=8:=by kernel_rfl
theorem Try.dG:bL Try.prog 3=some [.lit (.int .i64 0)]:=by kernel_rfl
theorem Try.Ca:Try.prog.cellsOf 4=1:=by kernel_rfl
theorem Try.NJ:bL Try.prog 4=some [.lit (.bool false)]:=by kernel_rfl
theorem Try.mb:Try.prog.cellsOf 5=1:=by kernel_rfl
theorem Try.NK:Try.prog.bytesOf 5=1:=by kernel_rfl
theorem Try.NL:bL Try.prog 5=some [.lit (.int .u8 0)]:=by kernel_rfl
theorem Try.Cb:Try.prog.cellsOf 22=1:=by kernel_rfl
theorem Try.yb:Try.prog.cellsOf 23=1:=by kernel_rfl
theorem Try.Cc:Try.prog.cellsOf 25=3:=by kernel_rfl
theorem Try.NM:bG Try.prog 25 0=some (0,5):=by kernel_rfl
theorem Try.NN:bG Try.prog 25 1=some (1,22):=by kernel_rfl
theorem Try.NO:bG Try.prog 25 2=some (2,23):=by kernel_rfl
theorem Try.Cd:Try.prog.cellsOf 26=1:=by kernel_rfl
theorem Try.NP:Try.prog.cellsOf 28=6:=by kernel_rfl
theorem Try.NQ:bG Try.prog 28 0=some (0,25):=by kernel_rfl
theorem Try.NR:bG Try.prog 28 1=some (3,5):=by kernel_rfl
theorem Try.NS:bG Try.prog 28 2=some (4,4):=by kernel_rfl
theorem Try.NT:bG Try.prog 28 3=some (5,26):=by kernel_rfl
theorem Try.Ce:Try.prog.cellsOf 30=4:=by kernel_rfl
theorem Try.NU:bL Try.prog 30=some [.lit (.int .u8 0),.lit (.int .u8 0),.lit (.int .u8 0),.lit (.int .i64 0)]:=by kernel_rfl
theorem Try.NV:ir Try.prog 30=some [(0,1),(1,1),(2,1),(3,1)]:=by kernel_rfl
theorem Try.NW:bG Try.prog 30 0=some (0,5):=by kernel_rfl
theorem Try.NX:bG Try.prog 30 1=some (1,5):=by kernel_rfl
theorem Try.NY:bG Try.prog 30 2=some (2,5):=by kernel_rfl
theorem Try.NZ:bG Try.prog 30 3=some (3,3):=by kernel_rfl
theorem Try.N0:Try.prog.cellsOf 32=6:=by kernel_rfl
theorem Try.N1:bG Try.prog 32 0=some (0,5):=by kernel_rfl
theorem Try.N2:bG Try.prog 32 1=some (1,30):=by kernel_rfl
theorem Try.N3:bG Try.prog 32 2=some (5,3):=by kernel_rfl
theorem Try.N4:Try.prog.cellsOf 35=1:=by kernel_rfl
theorem Try.Cf:Try.prog.cellsOf 36=1:=by kernel_rfl
theorem Try.Cg:Try.prog.bytesOf 36=8:=by kernel_rfl
theorem Try.Ch:bL Try.prog 36=some [.lit (.int .u64 0)]:=by kernel_rfl
theorem Try.N5:Try.prog.cellsOf 37=1:=by kernel_rfl
theorem Try.N6:Try.prog.cellsOf 39=4:=by kernel_rfl
theorem Try.N7:bL Try.prog 39=some [.lit (.int .i64 0),.lit (.slice none 0 0),.lit (.int .u64 0),.lit (.slice none 0 0)]:=by kernel_rfl
theorem Try.N8:ir Try.prog 39=some [(0,1),(1,1),(2,1),(3,1)]:=by kernel_rfl
theorem Try.N9:bG Try.prog 39 0=some (0,3):=by kernel_rfl
theorem Try.Oa:bG Try.prog 39 1=some (1,35):=by kernel_rfl
theorem Try.Ob:bG Try.prog 39 2=some (2,36):=by kernel_rfl
theorem Try.Oc:bG Try.prog 39 3=some (3,37):=by kernel_rfl
theorem Try.Od:Try.prog.cellsOf 43=1:=by kernel_rfl
theorem Try.Oe:bL Try.prog 43=some [.lit (.int .i64 0)]:=by kernel_rfl
theorem Try.Of:Try.prog.cellsOf 48=1:=by kernel_rfl
theorem Try.jY:Try.prog.cellsOf 59=1:=by kernel_rfl
theorem Try.kP:Try.prog.bytesOf 59=24:=by kernel_rfl
theorem Try.kQ:bL Try.prog 59=some [.lit (.slice none 0 0)]:=by kernel_rfl
theorem Try.Og:bL Try.prog 60=some [.lit (.int .i64 0),.lit (.slice none 0 0),.lit (.int .u64 0),.lit (.slice none 0 0),.lit (.int .i64 0),.lit (.slice none 0 0),.lit (.int .u64 0),.lit (.slice none 0 0)]:=by kernel_rfl
theorem Try.Oh:bL Try.prog 61=some [.lit (.slice none 0 0),.lit (.slice none 0 0),.lit (.slice none 0 0)]:=by kernel_rfl
theorem Try.Oi:Try.prog.cellsOf 64=2:=by kernel_rfl
theorem Try.Oj:bL Try.prog 64=some [.lit (.int .i64 0),.lit (.slice none 0 0)]:=by kernel_rfl
theorem Try.Ol:ir Try.prog 64=some [(0,1),(1,1)]:=by kernel_rfl
theorem Try.Om:bG Try.prog 64 0=some (0,3):=by kernel_rfl
theorem Try.On:bG Try.prog 64 1=some (1,35):=by kernel_rfl
theorem Try.Oo:Try.prog.cellsOf 68=2:=by kernel_rfl
theorem Try.Oq:bL Try.prog 68=some [.lit (.int .i64 0),.lit (.int .i64 0)]:=by kernel_rfl
theorem Try.Ot:ir Try.prog 68=some [(0,1),(1,1)]:=by kernel_rfl
theorem Try.qU:Try.prog.cellsOf 83=3:=by kernel_rfl
theorem Try.qX:Try.prog.bytesOf 83=56:=by kernel_rfl
theorem Try.qY:bL Try.prog 83=some [.lit (.int .i64 0),.lit (.slice none 0 0),.lit (.slice none 0 0)]:=by kernel_rfl
theorem Try.Ou:ir Try.prog 83=some [(0,1),(1,1),(2,1)]:=by kernel_rfl
theorem Try.Ov:bG Try.prog 83 0=some (0,3):=by kernel_rfl
theorem Try.Ow:bG Try.prog 83 1=some (1,59):=by kernel_rfl
theorem Try.Ox:bG Try.prog 83 2=some (2,48):=by kernel_rfl
theorem Try.uj:Try.prog.cellsOf 85=2:=by kernel_rfl
theorem Try.uk:Try.prog.bytesOf 85=48:=by kernel_rfl
theorem Try.um:bL Try.prog 85=some [.lit (.slice none 0 0),.lit (.slice none 0 0)]:=by kernel_rfl
theorem Try.Oy:ir Try.prog 85=some [(0,1),(1,1)]:=by kernel_rfl
theorem Try.Oz:bG Try.prog 85 0=some (0,59):=by kernel_rfl
theorem Try.OA:bG Try.prog 85 1=some (1,59):=by kernel_rfl
theorem Try.OB:Try.prog.cellsOf 98=1:=by kernel_rfl
theorem Try.Ci:Try.prog.cellsOf 101=1:=by kernel_rfl
theorem Try.Cj:Try.prog.cellsOf 103=2:=by kernel_rfl
theorem Try.OC:bG Try.prog 103 0=some (0,5):=by kernel_rfl
theorem Try.OD:bG Try.prog 103 1=some (1,101):=by kernel_rfl
theorem Try.OE:Try.prog.cellsOf 108=1:=by kernel_rfl
theorem Try.Ck:Try.prog.cellsOf 118=2:=by kernel_rfl
theorem Try.Cl:Try.prog.bytesOf 118=16:=by kernel_rfl
theorem Try.Cm:bL Try.prog 118=some [.lit (.int .i64 0),.lit (.int .i64 0)]:=by kernel_rfl
theorem Try.OF:Try.prog.cellsOf 124=3:=by kernel_rfl
theorem Try.OG:bL Try.prog 124=some [.lit (.int .i64 0),.lit (.slice none 0 0),.lit (.slice none 0 0)]:=by kernel_rfl
theorem Try.OH:ir Try.prog 124=some [(0,2),(2,1)]:=by kernel_rfl
theorem Try.OI:bG Try.prog 124 0=some (0,64):=by kernel_rfl
theorem Try.OJ:bG Try.prog 124 1=some (2,37):=by kernel_rfl
theorem Try.OK:Try.prog.cellsOf 127=1:=by kernel_rfl
theorem Try.OL:Try.prog.cellsOf 139=3:=by kernel_rfl
theorem Try.OM:bL Try.prog 139=some [.lit (.slice none 0 0),.lit (.int .u16 0),.lit (.slice none 0 0)]:=by kernel_rfl
theorem Try.ON:ir Try.prog 139=some [(0,1),(1,1),(2,1)]:=by kernel_rfl
theorem Try.OO:bG Try.prog 139 0=some (0,23):=by kernel_rfl
theorem Try.OP:bG Try.prog 139 2=some (2,23):=by kernel_rfl
theorem Try.Cn:Try.prog.cellsOf 142=3:=by kernel_rfl
theorem Try.OQ:bL Try.prog 142=some [.lit (.int .u8 0),.lit (.int .u8 0),.lit (.slice none 0 0)]:=by kernel_rfl
theorem Try.OS:bG Try.prog 142 0=some (0,5):=by kernel_rfl
theorem Try.OT:bG Try.prog 142 1=some (1,5):=by kernel_rfl
theorem Try.OU:bG Try.prog 142 2=some (2,23):=by kernel_rfl
theorem Try.Co:Try.prog.cellsOf 145=1:=by kernel_rfl
theorem Try.OV:Try.prog.cellsOf 148=5:=by kernel_rfl
theorem Try.OW:bL Try.prog 148=some [.lit (.int .i64 0),.lit (.slice none 0 0),.lit (.slice none 0 0),.lit (.slice none 0 0),.lit (.slice none 0 0)]:=by kernel_rfl
theorem Try.OX:ir Try.prog 148=some [(0,2),(2,1),(3,1),(4,1)]:=by kernel_rfl
theorem Try.OY:bG Try.prog 148 0=some (0,64):=by kernel_rfl
theorem Try.OZ:bG Try.prog 148 1=some (2,59):=by kernel_rfl
theorem Try.O0:bG Try.prog 148 2=some (3,98):=by kernel_rfl
theorem Try.O1:bG Try.prog 148 3=some (4,59):=by kernel_rfl
attribute [go_sem] Try.underlying3 Try.dh Try.dU Try.dG Try.underlying4 Try.Ca Try.NJ Try.underlying5 Try.mb Try.NK Try.NL
attribute [go_sem] Try.underlying9 Try.underlying22 Try.Cb Try.underlying23 Try.yb
attribute [go_sem] Try.underlying24 Try.underlying25 Try.Cc
attribute [go_sem] Try.NM Try.NN Try.NO Try.underlying26 Try.Cd Try.underlying27
attribute [go_sem] Try.underlying28 Try.NP Try.NQ Try.NR
attribute [go_sem] Try.NS Try.NT Try.underlying29 Try.underlying30
attribute [go_sem] Try.Ce Try.NU Try.NV Try.NW Try.NX Try.NY Try.NZ Try.underlying31
attribute [go_sem] Try.underlying32 Try.N0 Try.N1 Try.N2 Try.N3
attribute [go_sem] Try.underlying33 Try.underlying34 Try.underlying35 Try.N4
attribute [go_sem] Try.underlying36 Try.Cf Try.Cg Try.Ch Try.underlying37 Try.N5 Try.underlying38
attribute [go_sem] Try.underlying39 Try.N6 Try.N7 Try.N8 Try.N9 Try.Oa
attribute [go_sem] Try.Ob Try.Oc Try.underlying42 Try.underlying43 Try.Od Try.Oe Try.underlying48 Try.Of
attribute [go_sem] Try.underlying52 Try.underlying59 Try.jY Try.kP Try.kQ Try.underlying60
attribute [go_sem] Try.Og Try.underlying61 Try.Oh Try.underlying63
attribute [go_sem] Try.underlying64 Try.Oi Try.Oj Try.Ol Try.Om Try.On Try.underlying67
attribute [go_sem] Try.underlying68 Try.Oo Try.Oq Try.Ot Try.underlying82
attribute [go_sem] Try.underlying83 Try.qU Try.qX Try.qY Try.Ou Try.Ov
attribute [go_sem] Try.Ow Try.Ox Try.underlying84 Try.underlying85 Try.uj Try.uk
attribute [go_sem] Try.um Try.Oy Try.Oz Try.OA Try.underlying98 Try.OB Try.underlying101 Try.Ci
attribute [go_sem] Try.underlying102 Try.underlying103 Try.Cj
attribute [go_sem] Try.OC Try.OD Try.underlying108 Try.OE Try.underlying116 Try.underlying118 Try.Ck
attribute [go_sem] Try.Cl Try.Cm Try.underlying119 Try.underlying123
attribute [go_sem] Try.underlying124 Try.OF Try.OG Try.OH Try.OI Try.OJ Try.underlying127 Try.OK
attribute [go_sem] Try.underlying138 Try.underlying139 Try.OL Try.OM
attribute [go_sem] Try.ON Try.OO Try.OP Try.underlying141
attribute [go_sem] Try.underlying142 Try.Cn Try.OQ Try.OS Try.OT Try.OU Try.underlying145 Try.Co
attribute [go_sem] Try.underlying147 Try.underlying148 Try.OV
attribute [go_sem] Try.OW Try.OX Try.OY Try.OZ Try.O0 Try.O1
end Go.Proofs
/-
  Networks and diagrams as plain data, and as abstract values. Plain: no program stands in this text. No conditions.
-/
namespace Go.Proofs
open Go.Hx
def ao (l:List (List Int)):AVal:=.vec l.length (l.map ab)
structure NodeP where
 card:Int
 parents:List Int
 rows:List (List Int)
structure UtilP where
 vars:List Int
 w:List Int
def NodeP.cells (x:NodeP):List AVal:=[aa x.card,ab x.parents,ao x.rows]
def UtilP.cells (x:UtilP):List AVal:=[ab x.vars,ab x.w]
def aD (l:List NodeP):List AVal:=(l.map NodeP.cells).flatten
def aO (l:List UtilP):List AVal:=(l.map UtilP.cells).flatten
def bO (l:List NodeP):AVal:=.vec l.length (aD l)
def uq (l:List UtilP):AVal:=.vec l.length (aO l)
def bj (g:Int)(l:List NodeP):AVal:=.agg [aa g,bO l]
structure InfP where
 grain:Int
 nodes:List NodeP
 decs:Nat
 utils:List UtilP
def jv (d:InfP):AVal:=.agg [aa d.grain,bO d.nodes,.lit (.int .u64 (d.decs:Int)),uq d.utils]
theorem gO {α:Type}{f:α->List AVal}{z:Nat}(hz:∀ a,(f a).length=z):∀ (l:List α) (i j:Nat) (a:α),l[i]?=some a->j<z->((l.map f).flatten)[i*z+j]?=(f a)[j]?:=by
 intro l
 induction l with
 | nil=>intro i j a h;simp at h
 | cons x l ih =>
  intro i j a h hj;simp only[List.map_cons,List.flatten_cons];cases i with
  | zero =>
   simp only[List.getElem?_cons_zero,Option.some.injEq]at h;subst h;rw[Nat.zero_mul,Nat.zero_add,List.getElem?_append_left (by rw[hz];exact hj)]
  | succ i =>
   have:(i+1)*z+j=z+(i*z+j):=(by rw[Nat.add_mul];omega);rw[this,List.getElem?_append_right (by rw[hz];omega),hz];have:z+(i*z+j) - z=i*z+j:=(by omega);rw[this];exact ih i j a (by simpa using h) hj
theorem jZ {α:Type}{f:α->List AVal}{z:Nat}(hz:∀ a,(f a).length=z)(l:List α):((l.map f).flatten).length=l.length*z:=by
 induction l with
 | nil=>simp
 | cons x l ih=>simp only[List.map_cons,List.flatten_cons,List.length_append,ih,hz,List.length_cons];rw[Nat.add_mul];omega
theorem mc {α:Type}{f:α->List AVal}{z:Nat}(hz:∀ a,(f a).length=z):∀ (l:List α) (i:Nat) (a:α),l[i]?=some a->(((l.map f).flatten).drop (i*z)).take z=f a:=by
 intro l i a h;apply List.ext_getElem?;intro j;by_cases hj:j<z
 ·rw[List.getElem?_take_of_lt hj,List.getElem?_drop,gO hz l i j a h hj]
 ·rw[List.getElem?_eq_none (by simp;omega),List.getElem?_eq_none (by rw[hz];omega)]
theorem gv (l:List NodeP):(aD l).length=l.length*3:=jZ (f:=NodeP.cells) (fun _=>rfl) l
theorem iI {l:List NodeP}{i:Nat}{x:NodeP}(h:l[i]?=some x):(aD l)[i*3]?=some (aa x.card):=gO (f:=NodeP.cells) (z:=3) (fun _=>rfl) l i 0 x h (by omega)
theorem jx {l:List NodeP}{i:Nat}{x:NodeP}(h:l[i]?=some x):(aD l)[i*3+1]?=some (ab x.parents):=gO (f:=NodeP.cells) (z:=3) (fun _=>rfl) l i 1 x h (by omega)
theorem oY {l:List NodeP}{i:Nat}{x:NodeP}(h:l[i]?=some x):(aD l)[i*3+2]?=some (ao x.rows):=gO (f:=NodeP.cells) (z:=3) (fun _=>rfl) l i 2 x h (by omega)
theorem kR {l:List NodeP}{i:Nat}{x:NodeP}(h:l[i]?=some x):((aD l).drop (i*3)).take 3=[aa x.card,ab x.parents,ao x.rows]:=mc (f:=NodeP.cells) (z:=3) (fun _=>rfl) l i x h
theorem dH {l:List NodeP}{i:Nat}{x:NodeP}(h:l[i]?=some x):¬ aD l=[]:=fun e=>by
 have:=iI h;rw[e]at this;simp at this
theorem j7 (l:List UtilP):(aO l).length=l.length*2:=jZ (f:=UtilP.cells) (fun _=>rfl) l
theorem Cp {l:List UtilP}{i:Nat}{x:UtilP}(h:l[i]?=some x):(aO l)[i*2]?=some (ab x.vars):=gO (f:=UtilP.cells) (z:=2) (fun _=>rfl) l i 0 x h (by omega)
theorem O2 {l:List UtilP}{i:Nat}{x:UtilP}(h:l[i]?=some x):(aO l)[i*2+1]?=some (ab x.w):=gO (f:=UtilP.cells) (z:=2) (fun _=>rfl) l i 1 x h (by omega)
theorem ur {l:List UtilP}{i:Nat}{x:UtilP}(h:l[i]?=some x):((aO l).drop (i*2)).take 2=[ab x.vars,ab x.w]:=mc (f:=UtilP.cells) (z:=2) (fun _=>rfl) l i x h
theorem qZ {l:List UtilP}{i:Nat}{x:UtilP}(h:l[i]?=some x):¬ aO l=[]:=fun e=>by
 have:=Cp h;rw[e]at this;simp at this
theorem aG {α:Type}{l:List α}{i:Nat}{x:α}(h:l[i]?=some x):i<l.length:=by
 rcases Nat.lt_or_ge i l.length with h'|h'
 ·exact h'
 ·rw[List.getElem?_eq_none h']at h;cases h
theorem ay {α:Type}{l:List α}{i:Nat}(h:i<l.length):∃ x,l[i]?=some x:=⟨_,List.getElem?_eq_getElem h⟩
theorem kS {α:Type}{l:List α}{i:Int}(h0:0<=i)(h:i<l.length):∃ k:Nat,i=k/\∃ x,l[k]?=some x:=⟨i.toNat,by omega,ay (by omega)⟩
def au (l:List Int):Int:=l.foldl (·*·) 1
theorem Cq (l:List Int)(a:Int):l.foldl (·*·) a=a*au l:=by
 unfold au
 induction l generalizing a with
 | nil=>simp
 | cons x l ih=>simp only[List.foldl_cons];rw[ih,ih (1*x),Int.one_mul,Int.mul_assoc]
theorem fQ:au []=1:=rfl
theorem iJ (x:Int)(l:List Int):au (x :: l)=x*au l:=by
 show List.foldl _ (1*x) l=_;rw[Cq,Int.one_mul]
theorem yc (l l':List Int):au (l++l')=au l*au l':=by
 unfold au;rw[List.foldl_append,Cq];rfl
theorem eC (l:List Int)(x:Int):au (l++[x])=au l*x:=by rw[yc,iJ,fQ,Int.mul_one]
theorem aP {α:Type}{l:List α}{k:Nat}{x:α}(h:l[k]?=some x):l.take (k+1)=l.take k++[x]:=by
 rw[List.take_add_one,h];rfl
theorem fg {l:List Int}(h:∀ x∈l,1<=x):1<=au l:=by
 induction l with
 | nil=>decide
 | cons x l ih =>
  rw[iJ];have h1:=ih fun y hy=>h y (by simp [hy]);have h2:=h x (by simp);have:=Int.mul_le_mul h2 h1 (by omega) (by omega);simpa using this
theorem q6 {b:Int}{l:List Int}(hb:0<=b)(h:∀ x∈l,0<=x/\x<=b):0<=au l/\au l<=b ^ l.length:=by
 induction l with
 | nil=>exact⟨by decide,by simp [au]⟩
 | cons x l ih =>
  rw[iJ];have h1:=ih fun y hy=>h y (by simp [hy]);have h2:=h x (by simp);refine⟨Int.mul_nonneg h2.1 h1.1,?_⟩;have:=Int.mul_le_mul h2.2 h1.2 h1.1 hb;rw[List.length_cons,Int.pow_succ,Int.mul_comm (b ^ l.length)];exact this
def aq (l:List NodeP):List Int:=l.map (·.card)
def aL (l places:List Int):List Int:=places.map fun p=>l.getD p.toNat 0
def bT (places:List Int)(n:Int):Prop:=places.Pairwise (·<·)/\∀ p∈places,0<=p/\p<n
end Go.Proofs
set_option maxRecDepth 100000
namespace Go.Proofs
open Go.Hx
def G0:Nat->Option (List AVal):=oU
theorem aF:eo G0:=xY
end Go.Proofs
namespace Go.Hx
variable {P:Program} {G:Nat->Option (List AVal)} {Γ Γ':aE} {H H':AHeap} {w w':World}
theorem W.env {n:Nat}{rd:Option Nat}{Q:AX->St->Prop}{c:Code}{ρ:Env}{H:AHeap}(h:∀ E,E=ρ->W P G n rd c Q ⟨E,H⟩):W P G n rd c Q ⟨ρ,H⟩:=h ρ rfl
theorem Below.mono {n m:Nat}{v:AVal}(h:Below n v)(hm:n<=m):Below m v:=by
 induction h with
 | lit v=>exact .lit v
 | vec h ih=>exact .vec ih
 | vptr h ih=>exact .vptr ih
 | agg h ih=>exact .agg ih
 | tup h ih=>exact .tup ih
 | clo h1 h2 ih1 ih2=>exact .clo ih1 ih2
 | own h=>exact .own (by omega)
 | ptr h=>exact .ptr (by omega)
 | yld h=>exact .yld (by omega)
theorem D7 (H:AHeap)(op:BinOp)(a:List AVal)(y:AVal):gG H op (.agg a) y=none:=by unfold gG;split<;>rfl
attribute [go_sem] D7
theorem dW {l:List AVal}{i:Nat}{x:AVal}(h:i<l.length):setAt l i [x]=l.set i x:=by
 unfold setAt;rw[List.set_eq_take_append_cons_drop,if_pos h];simp
theorem Over.y9 {B H:AHeap}(h:Over B H){n:Nat}(hn:B.next<=n):Over B (H.cut n):=⟨h.next,fun id hi=>(sU (by omega)).trans (h.old id hi)⟩
section
variable {t:TypeId} {x y:Operand} {k k':IntKind} {a b:Int}
theorem vd (hb:0<=b):bh P .shr t x y (.lit (.int k a)) (.lit (.int k' b))=some (.lit (.int k (a.fdiv (2 ^ (min b.toNat k.bits))))):=by
 have h:¬ b<0:=by omega
 simp [bh,AVal.b9,eqGuard,binOp,Op.shift,h,bt,bind,Sem.bind,pure]
theorem za (hb:0<=b):bh P .shl t x y (.lit (.int k a)) (.lit (.int k' b))=some (.lit (.int k (k.wrap (a*2 ^ (min b.toNat k.bits))))):=by
 have h:¬ b<0:=by omega
 simp [bh,AVal.b9,eqGuard,binOp,Op.shift,h,bt,bind,Sem.bind,pure]
theorem ve:bh P .and t x y (.lit (.int k a)) (.lit (.int k b))=some (.lit (.int k (k.wrap ((BitVec.ofInt k.bits a &&& BitVec.ofInt k.bits b).toNat:Nat)))):=by
 simp [bh,AVal.b9,eqGuard,binOp,Op.intBits,bt,bind,Sem.bind,pure]
theorem RA:bh P .or t x y (.lit (.int k a)) (.lit (.int k b))=some (.lit (.int k (k.wrap ((BitVec.ofInt k.bits a ||| BitVec.ofInt k.bits b).toNat:Nat)))):=by
 simp [bh,AVal.b9,eqGuard,binOp,Op.intBits,bt,bind,Sem.bind,pure]
theorem RB:bh P .xor t x y (.lit (.int k a)) (.lit (.int k b))=some (.lit (.int k (k.wrap ((BitVec.ofInt k.bits a ^^^ BitVec.ofInt k.bits b).toNat:Nat)))):=by
 simp [bh,AVal.b9,eqGuard,binOp,Op.intBits,bt,bind,Sem.bind,pure]
theorem RC:bh P .andNot t x y (.lit (.int k a)) (.lit (.int k b))=some (.lit (.int k (k.wrap ((BitVec.ofInt k.bits a &&& ~~~ BitVec.ofInt k.bits b).toNat:Nat)))):=by
 simp [bh,AVal.b9,eqGuard,binOp,Op.intBits,bt,bind,Sem.bind,pure]
def bx (m:Nat):AVal:=.lit (.int .u64 (m:Int))
def gF (a b:Nat):Nat:=(BitVec.ofNat 64 a &&& ~~~ BitVec.ofNat 64 b).toNat
theorem pF {m:Nat}(h:m<2 ^ 64):(BitVec.ofInt 64 (m:Int)).toNat=m:=by rw[BitVec.ofInt_natCast,BitVec.toNat_ofNat,Nat.mod_eq_of_lt h]
theorem D8 (a b:Nat):gF a b<2 ^ 64:=(BitVec.isLt _)
theorem zc {a b i:Nat}(ha:a<2 ^ 64):(gF a b).testBit i=(a.testBit i && !b.testBit i):=by
 unfold gF;by_cases hi:i<64
 ·rw[<- BitVec.getLsbD,BitVec.getLsbD_and,BitVec.getLsbD_not,BitVec.getLsbD_ofNat,BitVec.getLsbD_ofNat];simp [hi]
 ·have h1:a.testBit i=false:=Nat.testBit_lt_two_pow (Nat.lt_of_lt_of_le ha (Nat.pow_le_pow_right (by decide) (by omega)));rw[h1,<- BitVec.getLsbD,BitVec.getLsbD_of_ge _ _ (by omega)];rfl
theorem rQ {m:Nat}(h:m<2 ^ 64):IntKind.u64.wrap (m:Int)=m:=IntWalk.u64_in _ (by omega)
theorem RD {a b:Nat}(ha:a<2 ^ 64)(hb:b<2 ^ 64):bh P .and t x y (.lit (.int .u64 (a:Int))) (.lit (.int .u64 (b:Int)))=some (.lit (.int .u64 ((a &&& b:Nat):Int))):=by
 rw[ve];have e:(BitVec.ofInt (IntKind.bits .u64) (a:Int) &&& BitVec.ofInt (IntKind.bits .u64) (b:Int)).toNat=a &&& b:=by
  show (BitVec.ofInt 64 _ &&& BitVec.ofInt 64 _).toNat=_;rw[BitVec.toNat_and,pF ha,pF hb]
 rw[e,rQ (Nat.lt_of_le_of_lt Nat.and_le_left ha)]
theorem kq {a b:Nat}(ha:a<2 ^ 64)(hb:b<2 ^ 64):bh P .or t x y (.lit (.int .u64 (a:Int))) (.lit (.int .u64 (b:Int)))=some (.lit (.int .u64 ((a ||| b:Nat):Int))):=by
 rw[RA];have e:(BitVec.ofInt (IntKind.bits .u64) (a:Int) ||| BitVec.ofInt (IntKind.bits .u64) (b:Int)).toNat=a ||| b:=by
  show (BitVec.ofInt 64 _ ||| BitVec.ofInt 64 _).toNat=_;rw[BitVec.toNat_or,pF ha,pF hb]
 rw[e,rQ (Nat.or_lt_two_pow ha hb)]
theorem RE {a b:Nat}(ha:a<2 ^ 64)(hb:b<2 ^ 64):bh P .xor t x y (.lit (.int .u64 (a:Int))) (.lit (.int .u64 (b:Int)))=some (.lit (.int .u64 ((a ^^^ b:Nat):Int))):=by
 rw[RB];have e:(BitVec.ofInt (IntKind.bits .u64) (a:Int) ^^^ BitVec.ofInt (IntKind.bits .u64) (b:Int)).toNat=a ^^^ b:=by
  show (BitVec.ofInt 64 _ ^^^ BitVec.ofInt 64 _).toNat=_;rw[BitVec.toNat_xor,pF ha,pF hb]
 rw[e,rQ (Nat.xor_lt_two_pow ha hb)]
theorem zd {a b:Nat}:bh P .andNot t x y (.lit (.int .u64 (a:Int))) (.lit (.int .u64 (b:Int)))=some (.lit (.int .u64 ((gF a b:Nat):Int))):=by
 rw[RC];have e:(BitVec.ofInt (IntKind.bits .u64) (a:Int) &&& ~~~ BitVec.ofInt (IntKind.bits .u64) (b:Int)).toNat=gF a b:=by
  show (BitVec.ofInt 64 _ &&& ~~~ BitVec.ofInt 64 _).toNat=_;rw[BitVec.ofInt_natCast,BitVec.ofInt_natCast];rfl
 rw[e,rQ (D8 a b)]
theorem pG {a s:Nat}(ha:a<2 ^ 64):bh P .shr t x y (.lit (.int .u64 (a:Int))) (.lit (.int k' (s:Int)))=some (.lit (.int .u64 ((a >>> s:Nat):Int))):=by
 rw[vd (by omega),Int.toNat_natCast];have e:(a:Int).fdiv (2 ^ (min s (IntKind.bits .u64)))=((a >>> s:Nat):Int):=by
  rw[Int.fdiv_eq_ediv_of_nonneg _ (by exact_mod_cast Nat.zero_le _),Nat.shiftRight_eq_div_pow];show (a:Int) / 2 ^ (min s 64)=_;rcases Nat.le_total s 64 with h|h
  ·rw[Nat.min_eq_left h];push_cast;rfl
  ·rw[Nat.min_eq_right h];have h1:a / 2 ^ s=0:=Nat.div_eq_of_lt (Nat.lt_of_lt_of_le ha (Nat.pow_le_pow_right (by decide) h));rw[h1];exact Int.ediv_eq_zero_of_lt (by omega) (by omega)
 rw[e]
theorem nG {s:Nat}(hs:s<64):bh P .shl t x y (.lit (.int .u64 1)) (.lit (.int k' (s:Int)))=some (.lit (.int .u64 ((2 ^ s:Nat):Int))):=by
 rw[za (by omega),Int.toNat_natCast];have e:min s (IntKind.bits .u64)=s:=Nat.min_eq_left (by show s<=64;omega);have h2:2 ^ s<2 ^ 64:=Nat.pow_lt_pow_right (by decide) hs;rw[e,Int.one_mul];have h3:((2:Int) ^ s)=((2 ^ s:Nat):Int):=by push_cast;rfl
 rw[h3,rQ h2]
theorem vf {a s:Nat}(ha:a<2 ^ 64):bh P .and t x y (.lit (.int .u64 ((a >>> s:Nat):Int))) (.lit (.int .u64 1))=some (.lit (.int .u64 (if a.testBit s then 1 else 0))):=by
 have h1:a >>> s<2 ^ 64:=Nat.lt_of_le_of_lt (Nat.shiftRight_le _ _) ha;have:=RD (P:=P) (t:=t) (x:=x) (y:=y) (a:=a >>> s) (b:=1) h1 (by decide);rw[show (((1:Nat):Int))=1 from rfl]at this;rw[this,Nat.and_one_is_mod];congr 3;rw[Nat.testBit,Nat.and_comm,Nat.and_one_is_mod];rcases Nat.mod_two_eq_zero_or_one (a >>> s) with h|h<;>rw[h]<;>rfl
end
end Go.Hx
namespace Go.Proofs
open Go.Hx
theorem br (H:AHeap)(b:Blk)(L:List Blk):(ext H (b :: L)).get H.next=some b:=bu H (b :: L) 0 (by simp)
theorem ze (l:List Int)(n:Nat):(ints l).take n=ints (l.take n):=by simp [ints]
theorem zf (l:List Int)(n:Nat):(ints l).drop n=ints (l.drop n):=by simp [ints]
theorem aR {α:Type}{l:List α}{i:Nat}{a:α}(h:l[i]?=some a):¬ l=[]:=by rintro rfl;simp at h
theorem fS {l:List Int}{i:Nat}{x:Int}(h:i<l.length):setAt (ints l) i [.lit (.int .i64 x)]=ints (l.set i x):=by
 rw[dW (by simpa [ints] using h)];simp [ints,aa]
theorem zg (w:Bool):qg w (some (.lit undef))=some false:=rfl
end Go.Proofs
/-
  Mixed radix: numbers of combinations. Plain: no program stands in this text. No conditions.
-/
namespace Go.Proofs
open Go.Hx
def aQ (ns:List NodeP)(x:NodeP):List Int:=aL (aq ns) x.parents
def bE:List Int->List Int->Int
 | _ :: cs,v :: vs=>v*au cs+bE cs vs
 | _,_=>0
def bp:List Int->Int->List Int
 | [],_=>[]
 | c :: cs,i=>i / au cs % c :: bp cs i
theorem q8 (cs:List Int)(i:Int):(bp cs i).length=cs.length:=by
 induction cs with
 | nil=>rfl
 | cons c cs ih=>simp [bp,ih]
theorem O3 {cs:List Int}{k:Nat}{c:Int}(h:cs[k]?=some c)(i:Int):bp (cs.drop k) i=(i / au (cs.drop (k+1)) % c) :: bp (cs.drop (k+1)) i:=by
 have:cs.drop k=c :: cs.drop (k+1):=by
  rw[List.drop_eq_getElem_cons (aG h)];congr 1;have:=List.getElem?_eq_getElem (aG h);rw[h]at this;exact(Option.some.inj this).symm
 rw[this];rfl
theorem md {α:Type}{l:List α}{k:Nat}{a:α}(h:l[k]?=some a):l.drop k=a :: l.drop (k+1):=by
 rw[List.drop_eq_getElem_cons (aG h)];congr 1;have:=List.getElem?_eq_getElem (aG h);rw[h]at this;exact(Option.some.inj this).symm
theorem yd {cs:List Int}(h:∀ c∈cs,1<=c)(i:Int):∀ (k:Nat) (c v:Int),cs[k]?=some c->(bp cs i)[k]?=some v->0<=v/\v<c:=by
 induction cs with
 | nil=>intro k c v h;simp at h
 | cons a cs ih =>
  intro k c v h1 h2;cases k with
  | zero =>
   simp only[bp,List.getElem?_cons_zero,Option.some.injEq]at h1 h2;subst h1;subst h2;have:=h a (by simp);exact⟨Int.emod_nonneg _ (by omega),Int.emod_lt_of_pos _ (by omega)⟩
  | succ k =>
   simp only[bp,List.getElem?_cons_succ]at h1 h2;exact ih (fun c hc=>h c (by simp [hc])) k c v h1 h2
def cr (cs vs:List Int):Prop:=vs.length=cs.length/\∀ (k:Nat) (c v:Int),cs[k]?=some c->vs[k]?=some v->0<=v/\v<c
theorem cr.tail {c v:Int}{cs vs:List Int}(h:cr (c :: cs) (v :: vs)):cr cs vs:=⟨by simpa using h.1,fun k c v h1 h2=>h.2 (k+1) c v (by simpa using h1) (by simpa using h2)⟩
theorem cr.head {c v:Int}{cs vs:List Int}(h:cr (c :: cs) (v :: vs)):0<=v/\v<c:=h.2 0 c v (by simp) (by simp)
theorem cr.pos {cs vs:List Int}(h:cr cs vs):∀ c∈cs,1<=c:=fun c hc=>by
 obtain⟨k,hk⟩:=List.mem_iff_getElem?.1 hc;obtain⟨v,hv⟩:=ay (l:=vs) (i:=k) (by rw[h.1];exact aG hk);have:=h.2 k c v hk hv;omega
theorem o7 {cs:List Int}(h:∀ c∈cs,1<=c)(i:Int):cr cs (bp cs i):=⟨q8 cs i,yd h i⟩
theorem kT:∀ {cs vs:List Int},cr cs vs->0<=bE cs vs/\bE cs vs<au cs:=by
 intro cs
 induction cs with
 | nil=>intro vs _;cases vs<;>(simp [bE,fQ])
 | cons c cs ih =>
  intro vs h;cases vs with
  | nil=>exact absurd h.1 (by simp)
  | cons v vs =>
   have h1:=ih h.tail;have h2:=h.head;have hp:1<=au cs:=fg fun x hx=>h.pos x (by simp [hx]);rw[iJ];simp only[bE];have h3:0<=v*au cs:=Int.mul_nonneg h2.1 (by omega);have h4:(v+1)*au cs<=c*au cs:=Int.mul_le_mul_of_nonneg_right (by omega) (by omega);rw[Int.add_mul,Int.one_mul]at h4;omega
theorem ye:∀ {cs vs:List Int},cr cs vs->bp cs (bE cs vs)=vs:=by
 have key:∀ (cs:List Int) (i a c:Int),(∀ x∈cs,1<=x)->bp cs (a*au cs*c+i)=bp cs i:=by
  intro cs
  induction cs with
  | nil=>intros;rfl
  | cons x cs ih =>
   intro i a c h;have hx:=h x (by simp);have hp:1<=au cs:=fg fun y hy=>h y (by simp [hy]);simp only[bp,iJ];have e1:a*(x*au cs)*c+i=i+au cs*(x*(a*c)):=by
    rw[Int.add_comm];congr 1;ac_rfl
   have e2:a*(x*au cs)*c+i=a*au cs*(x*c)+i:=(by congr 1;ac_rfl);congr 1
   ·rw[e1,Int.add_mul_ediv_left _ _ (by omega),Int.add_mul_emod_self_left]
   ·rw[e2];exact ih i a (x*c) fun y hy=>h y (by simp [hy])
 intro cs
 induction cs with
 | nil=>intro vs h;cases vs with
  | nil=>rfl
  | cons=>exact absurd h.1 (by simp)
 | cons c cs ih =>
  intro vs h;cases vs with
  | nil=>exact absurd h.1 (by simp)
  | cons v vs =>
   have hp:1<=au cs:=fg fun x hx=>h.pos x (by simp [hx]);have hr:=kT h.tail;have h2:=h.head;simp only[bE,bp];congr 1
   ·rw[Int.add_comm,Int.add_mul_ediv_right _ _ (by omega),Int.ediv_eq_zero_of_lt hr.1 hr.2,Int.zero_add,Int.emod_eq_of_lt h2.1 h2.2]
   ·have:=key cs (bE cs vs) v 1 fun x hx=>h.pos x (by simp [hx]);rw[Int.mul_one]at this;rw[this];exact ih h.tail
theorem O4 (i m n:Int)(hm:0<m)(hn:0<n):i % (m*n)=i % m+m*(i / m % n):=by
 have h1:=Int.emod_add_mul_ediv i (m*n);have h2:=Int.emod_add_mul_ediv i m;have h3:=Int.emod_add_mul_ediv (i / m) n;have h4:i / m / n=i / (m*n):=Int.ediv_ediv_of_nonneg (by omega);rw[h4]at h3;have h5:m*(i / m)=m*(i / m % n)+m*n*(i / (m*n)):=by
  conv=>lhs;rw[<- h3]
  rw[Int.mul_add,Int.mul_assoc]
 omega
theorem yg {cs:List Int}(h:∀ c∈cs,1<=c):∀ {i:Int},0<=i->i<au cs->bE cs (bp cs i)=i:=by
 have:∀ (cs:List Int) (i:Int),(∀ c∈cs,1<=c)->bE cs (bp cs i)=i % au cs:=by
  intro cs
  induction cs with
  | nil=>intro i _;simp [bE,bp,fQ]
  | cons c cs ih =>
   intro i h;have hp:1<=au cs:=fg fun x hx=>h x (by simp [hx]);simp only[bE,bp];rw[ih i fun x hx=>h x (by simp [hx]),iJ,Int.mul_comm c,O4 _ _ _ (by omega:0<au cs) (by have:=h c (by simp);omega)];rw[Int.mul_comm];omega
 intro i h0 h1;rw[this cs i h,Int.emod_eq_of_lt h0 h1]
def fR (cs vs:List Int):Int:=(cs.zip vs).foldl (fun a p=>a*p.1+p.2) 0
theorem O5:∀ (cs vs:List Int),vs.length=cs.length->∀ a,(cs.zip vs).foldl (fun a p=>a*p.1+p.2) a=a*au cs+bE cs vs:=by
 intro cs
 induction cs with
 | nil=>intro vs _ a;simp [fQ,bE]
 | cons c cs ih =>
  intro vs h a;cases vs with
  | nil=>simp at h
  | cons v vs =>
   simp only[List.zip_cons_cons,List.foldl_cons];rw[ih vs (by simpa using h),iJ];simp only[bE];rw[Int.add_mul,Int.mul_assoc];omega
theorem uu {cs vs:List Int}(h:vs.length=cs.length):fR cs vs=bE cs vs:=by
 unfold fR;rw[O5 cs vs h];omega
theorem uw {cs vs:List Int}{k:Nat}{c v:Int}(h1:cs[k]?=some c)(h2:vs[k]?=some v):fR (cs.take (k+1)) (vs.take (k+1))=fR (cs.take k) (vs.take k)*c+v:=by
 unfold fR;rw[aP h1,aP h2,List.zip_append (by have:=aG h1;have:=aG h2;simp;omega),List.foldl_append];rfl
def jy:List Int->List Int->Option (List Int)
 | c :: cs,v :: vs=>match jy cs vs with
  | some ws=>some (v :: ws)
  | none=>if v+1<c then some ((v+1) :: cs.map fun _=>0) else none
 | _,_=>none
theorem Cr {cs:List Int}(h:∀ c∈cs,1<=c):bp cs 0=cs.map fun _=>0:=by
 induction cs with
 | nil=>rfl
 | cons c cs ih=>simp [bp,ih fun x hx=>h x (by simp [hx])]
theorem O6:∀ {cs vs:List Int},cr cs vs->jy cs vs=if bE cs vs+1<au cs then some (bp cs (bE cs vs+1)) else none:=by
 intro cs
 induction cs with
 | nil=>intro vs h;cases vs with
  | nil=>simp [jy,bE,fQ]
  | cons=>exact absurd h.1 (by simp)
 | cons c cs ih =>
  intro vs h;cases vs with
  | nil=>exact absurd h.1 (by simp)
  | cons v vs =>
   have hpos:∀ x∈cs,1<=x:=fun x hx=>h.pos x (by simp [hx]);have hp:1<=au cs:=fg hpos;have hr:=kT h.tail;have h2:=h.head;have hv:=ye h.tail;simp only[jy,ih h.tail,bE,iJ];by_cases hb:bE cs vs+1<au cs
   ·rw[if_pos hb];have h4:(v+1)*au cs<=c*au cs:=Int.mul_le_mul_of_nonneg_right (by omega) (by omega);rw[Int.add_mul,Int.one_mul]at h4;have hlt:v*au cs+bE cs vs+1<c*au cs:=(by omega);rw[if_pos hlt];simp only[bp];have g1:v=(v*au cs+bE cs vs+1) / au cs % c:=by
     rw[Int.add_assoc,Int.add_comm,Int.add_mul_ediv_right _ _ (by omega),Int.ediv_eq_zero_of_lt (by omega) hb,Int.zero_add,Int.emod_eq_of_lt h2.1 h2.2]
    have g2:bp cs (bE cs vs+1)=bp cs (v*au cs+bE cs vs+1):=by
     have e:bE cs vs+1=bE cs (bp cs (bE cs vs+1)):=(yg hpos (by omega) hb).symm;have f:cr (c :: cs) (v :: bp cs (bE cs vs+1)):=⟨by simp [q8],fun k c' v' h1 h3=>by
      cases k with
      | zero=>simp at h1 h3;subst h1;subst h3;exact h2
      | succ k=>exact yd hpos _ k c' v' (by simpa using h1) (by simpa using h3)⟩
     have:=ye f;simp only[bE,bp,List.cons.injEq]at this;rw[<- e]at this;rw[Int.add_assoc];exact this.2.symm
    rw[<- g1,<- g2]
   ·rw[if_neg hb];have hi:bE cs vs+1=au cs:=(by omega);have e1:v*au cs+bE cs vs+1=(v+1)*au cs:=(by rw[Int.add_mul];omega);rw[e1];by_cases hc:v+1<c
    ·rw[if_pos hc];have h4:(v+1)*au cs<c*au cs:=Int.mul_lt_mul_of_pos_right hc (by omega);rw[if_pos h4];simp only[bp];congr 1;congr 1
     ·rw[Int.mul_ediv_cancel _ (by omega),Int.emod_eq_of_lt (by omega) hc]
     ·have f:cr (c :: cs) ((v+1) :: bp cs 0):=⟨by simp [q8],fun k c' v' h1 h3=>by
       cases k with
       | zero=>simp at h1 h3;subst h1;subst h3;omega
       | succ k=>exact yd hpos _ k c' v' (by simpa using h1) (by simpa using h3)⟩
      have:=ye f;simp only[bE,bp,List.cons.injEq]at this;rw[yg hpos (Int.le_refl 0) (by omega),Int.add_zero]at this;rw[this.2,Cr hpos]
    ·rw[if_neg hc];have h4:c*au cs<=(v+1)*au cs:=Int.mul_le_mul_of_nonneg_right (by omega) (by omega);rw[if_neg (by omega)]
end Go.Proofs
namespace Go.Proofs
open Go.Hx
def da (l:List Int):Prop:=l.length<=12/\∀ x∈l,0<=x/\x<=8
theorem da.prod {l:List Int}(h:da l):0<=au l/\au l<=68719476736:=by
 have h1:=q6 (b:=8) (by omega) h.2;have h2:(8:Int) ^ l.length<=8 ^ 12:=by
  have:(8:Nat) ^ l.length<=8 ^ 12:=Nat.pow_le_pow_right (by decide) h.1
  exact_mod_cast this
 exact⟨h1.1,Int.le_trans h1.2 h2⟩
theorem da.take {l:List Int}(h:da l)(k:Nat):da (l.take k):=⟨by have:=h.1;simp;omega,fun x hx=>h.2 x (List.mem_of_mem_take hx)⟩
theorem da.drop {l:List Int}(h:da l)(k:Nat):da (l.drop k):=⟨by have:=h.1;simp;omega,fun x hx=>h.2 x (List.mem_of_mem_drop hx)⟩
theorem uZ (l:List Int)(hl:da l)(H:AHeap)(K:ARes->AHeap->Prop)(hK:K (.ret (aa (au l))) H):ae Try.prog G0 76 [ab l] H K:=by
 have l12:=hl.1;refine ae.aS (n:=18) (rs:=[.tmp 2]) Try.func76 rfl rfl rfl (by decide) (by kernel_rfl) (by simp) ?_;simp only[go_sem];refine W.aK 131064 (by rfl) (fun ρ H'=>H'=H/\∃ k:Nat,ρ 4=aa k/\k<=l.length/\ρ 3=aa (au (l.take k))) (fun ρ H=>l.length - (iv (ρ 4)).toNat) ?_ ?_
 ·simp only[go_sem];exact⟨0,rfl,by omega,by simp [fQ]⟩
 rintro ρ H' ⟨rfl,k,h4,hk,h3⟩;refine ag _ _ _ (by rfl) ?_;by_cases hb:(k:Int)<l.length
 ·obtain⟨c,hc⟩:=ay (l:=l) (i:=k) (by omega);have hne:=aR hc;have b1:=(hl.take (k+1)).prod;rw[aP hc,eC]at b1;simp only[go_sem,h4,h3,hb,hc,hne];rw[IntWalk.i64_in ((k:Int)+1) (by omega),IntWalk.i64_in (_*c) (by omega)];exact⟨⟨k+1,by simp,by omega,by rw[aP hc,eC]⟩,by omega⟩
 ·simp only[go_sem,h4,h3,hb];rw[List.take_of_length_le (by omega)];exact aw.mk (Nat.le_refl _) hK
theorem DQ (cs vs:List Int)(hc:da cs)(hf:cr cs vs)(H:AHeap)(K:ARes->AHeap->Prop)(hK:K (.ret (aa (bE cs vs))) H):ae Try.prog G0 97 [ab cs,ab vs] H K:=by
 have l12:=hc.1;have hl:=hf.1;refine ae.aS (n:=30) (rs:=[.tmp 4]) Try.func97 rfl rfl rfl (by decide) (by kernel_rfl) (by simp) ?_;simp only[go_sem];have w0:=IntWalk.i64_in ((cs.length:Int) - 1) (by omega);rw[w0];refine W.aK 536869088 (by rfl) (fun ρ H'=>H'=H/\∃ k:Nat,ρ 7=aa ((k:Int) - 1)/\k<=cs.length/\ρ 5=aa (bE (cs.drop k) (vs.drop k))/\ρ 6=aa (au (cs.drop k))) (fun ρ H=>(iv (ρ 7)+1).toNat) ?_ ?_
 ·simp only[go_sem];exact⟨cs.length,rfl,by omega,by simp [bE],by simp [fQ]⟩
 rintro ρ H' ⟨rfl,k,h7,hk,h5,h6⟩;refine ag _ _ _ (by rfl) ?_;by_cases hb:(k:Int) - 1 >= 0
 ·obtain⟨j,rfl⟩:∃ j,k=j+1:=⟨k - 1,by omega⟩
  obtain⟨c,hcj⟩:=ay (l:=cs) (i:=j) (by omega);obtain⟨v,hvj⟩:=ay (l:=vs) (i:=j) (by omega);have hne:=aR hcj;have hne2:=aR hvj;have e1:((j+1:Nat):Int) - 1=j:=by omega
  rw[e1]at h7;have hb':(j:Int) >= 0:=by omega
  have hj1:(j:Int)<cs.length:=by omega
  have hj2:(j:Int)<vs.length:=by omega
  have b0:=hc.drop j;have b1:=b0.prod;have fd:cr (cs.drop j) (vs.drop j):=⟨by simp [hl],fun i c v h1 h2=>hf.2 (j+i) c v (by rw[List.getElem?_drop]at h1;exact h1) (by rw[List.getElem?_drop]at h2;exact h2)⟩
  rw[md hcj,md hvj]at fd;rw[md hcj,iJ]at b1;have r1:=kT fd;have r2:=kT fd.tail;have r3:=fd.head;simp only[bE,iJ]at r1;have p1:0<=au (cs.drop (j+1)):=(hc.drop (j+1)).prod.1;have m1:0<=v*au (cs.drop (j+1)):=Int.mul_nonneg r3.1 p1;have cc:au (cs.drop (j+1))*c=c*au (cs.drop (j+1)):=Int.mul_comm _ _;have w1:=IntWalk.i64_in ((j:Int) - 1) (by omega);have w2:=IntWalk.i64_in (v*au (cs.drop (j+1))) (by omega);have w3:=IntWalk.i64_in (bE (cs.drop (j+1)) (vs.drop (j+1))+v*au (cs.drop (j+1))) (by omega);have w4:=IntWalk.i64_in (au (cs.drop (j+1))*c) (by omega);simp only[go_sem,h7,h5,h6,hb',hcj,hvj,hne,hne2,hj1,hj2,w1,w2,w3,w4];refine⟨⟨j,rfl,by omega,?_,?_⟩,by omega⟩
  ·rw[md hcj,md hvj];simp only[bE];show aa _=aa _;rw[Int.add_comm]
  ·rw[md hcj,iJ];show aa _=aa _;rw[Int.mul_comm]
 ·have h0:k=0:=by omega
  subst h0;have hb':¬ ((0:Nat):Int) - 1 >= 0:=hb;simp only[List.drop_zero]at h5 h6;have h7':ρ 7=aa (-1):=h7;simp only[go_sem,h7',h5];exact aw.mk (Nat.le_refl _) hK
end Go.Proofs
namespace Go.Proofs
open Go.Hx
theorem DR (x y:List Int)(hx:(x.length:Int)<2 ^ 62)(H:AHeap)(K:ARes->AHeap->Prop)(hK:K (.ret (.lit (.bool (decide (x=y))))) H):ae Try.prog G0 71 [ab x,ab y] H K:=by
 have no:¬ x=y->aw Try.prog G0 H K (.lit (.bool false)) H:=fun h=>aw.mk (Nat.le_refl _) (by rw[decide_eq_false h]at hK;exact hK);refine ae.aS (n:=26) (rs:=[.tmp 4]) Try.func71 rfl rfl rfl (by decide) (by kernel_rfl) (by simp) ?_;by_cases hl:(x.length:Int)=y.length;rotate_left
 ·simp only[go_sem,hl];exact no fun h=>hl (by rw[h])
 simp only[go_sem,hl];refine W.aK 67106864 (by rfl) (fun ρ H'=>H'=H/\∃ k:Nat,ρ 5=aa k/\k<=x.length/\x.take k=y.take k) (fun ρ H=>x.length - (iv (ρ 5)).toNat) ?_ ?_
 ·simp only[go_sem];exact⟨0,rfl,by omega,rfl⟩
 rintro ρ H' ⟨rfl,k,h5,hk,ht⟩;refine ag _ _ _ (by rfl) ?_;by_cases hb:(k:Int)<y.length
 ·obtain⟨a,ha⟩:=ay (l:=x) (i:=k) (by omega);obtain⟨b,hbk⟩:=ay (l:=y) (i:=k) (by omega);have hxn:=aR ha;have hyn:=aR hbk;have hbx:(k:Int)<x.length:=by omega
  simp only[go_sem,h5,hb,hl];refine W.draw 8 [0,0,3,7,0,0,48,112] Try.mixed (by kernel_rfl) (by kernel_rfl) ?_;by_cases he:a=b
  ·subst he;simp only[go_sem,h5,hb,hbx,ha,hbk,hxn,hyn];rw[IntWalk.i64_in ((k:Int)+1) (by omega)];exact⟨⟨k+1,by simp,by omega,by rw[aP ha,aP hbk,ht]⟩,by omega⟩
  ·simp only[go_sem,h5,hb,hbx,ha,hbk,hxn,hyn,he];exact no fun h=>he (by rw[h,hbk]at ha;exact(Option.some.inj ha).symm)
 ·simp only[go_sem,h5,hb,hl];refine aw.mk (Nat.le_refl _) ?_;have:x=y:=by
   rw[List.take_of_length_le (by omega),List.take_of_length_le (by omega)]at ht;exact ht
  rw[decide_eq_true this]at hK;exact hK
theorem DS (x:List Int)(hx:(x.length:Int)<2 ^ 40)(H:AHeap)(K:ARes->AHeap->Prop)(hK:K (.ret (ab x)) H):ae Try.prog G0 61 [ab x] H K:=by
 refine ae.clo ⟨_,Try.func61,rfl,rfl⟩ fun hc=>?_;refine ae.aS (n:=8) (rs:=[.tmp 2]) Try.func61 rfl rfl rfl (by decide) (by kernel_rfl) (by simp) ?_;simp only[go_sem];intro b hlen;cases b with
 | true =>
  have hx0:x=[]:=List.eq_nil_of_length_eq_zero (by
   by_cases h:0<x.length
   ·have:=hlen (by simpa using h);cases this
   ·omega)
  simp only[go_sem];subst hx0;exact aw.AT aF hc .sL hK
 | false =>
  by_cases h0:x.length=0
  ·have hx0:x=[]:=List.eq_nil_of_length_eq_zero h0;subst hx0;simp only[go_sem,bK];refine⟨⟨rfl,rfl⟩,aw.drop (v':=ab []) aF hc ?_ hK⟩;exact .ints (Nat.le_refl _) (br ..) rfl fun i hi=>absurd hi (Nat.not_lt_zero _)
  ·simp only[go_sem,h0,bK];refine⟨⟨rfl,by omega,by omega,gZ x⟩,aw.drop aF hc ?_ hK⟩;exact .ints (Nat.le_refl _) (br ..) rfl fun i hi=>by simp [g9,hi]
end Go.Proofs
namespace Go.Proofs
open Go.Hx
instance placesDec (l:List Int)(n:Int):Decidable (bT l n):=by unfold bT;infer_instance
theorem bT.nil {n:Int}:bT [] n:=⟨.nil,fun _ h=>by cases h⟩
theorem bT.take {l:List Int}{n:Int}(h:bT l n)(k:Nat):bT (l.take k) n:=⟨h.1.sublist (List.take_sublist k l),fun p hp=>h.2 p (List.mem_of_mem_take hp)⟩
theorem bT.snoc {l:List Int}{n a:Int}(h:bT l n)(ha:0<=a/\a<n)(hl:∀ b,l.getLast?=some b->b<a):bT (l++[a]) n:=by
 refine⟨List.pairwise_append.2 ⟨h.1,by simp,fun x hx y hy=>?_⟩,fun p hp=>?_⟩
 ·obtain rfl:=List.mem_singleton.1 hy;rcases List.eq_nil_or_concat l with rfl|⟨l',b,rfl⟩
  ·cases hx
  ·have hb:=hl b (by simp);simp only[List.concat_eq_append]at hx h;rcases List.mem_append.1 hx with hx|hx
   ·have:=(List.pairwise_append.1 h.1).2.2 x hx b (by simp);omega
   ·obtain rfl:=List.mem_singleton.1 hx;exact hb
 ·rcases List.mem_append.1 hp with hp|hp
  ·exact h.2 p hp
  ·obtain rfl:=List.mem_singleton.1 hp;exact ha
theorem bT.lt {l:List Int}{n:Int}(h:bT l n){i j:Nat}{a b:Int}(ha:l[i]?=some a)(hb:l[j]?=some b)(hij:i<j):a<b:=by
 have:=List.pairwise_iff_getElem.1 h.1 i j (aG ha) (aG hb) hij;have e1:=List.getElem?_eq_getElem (aG ha);have e2:=List.getElem?_eq_getElem (aG hb);rw[ha]at e1;rw[hb]at e2;rw[Option.some.inj e1,Option.some.inj e2];exact this
theorem bT.len {l:List Int}{n:Int}(h:bT l n):(l.length:Int)<=max n 0:=by
  -- the k-th place is at least k
 have key:∀ (k:Nat) (a:Int),l[k]?=some a->(k:Int)<=a:=by
  intro k
  induction k with
  | zero=>intro a ha;have:=h.2 a (List.mem_of_getElem? ha);omega
  | succ k ih =>
   intro a ha;obtain⟨b,hb⟩:=ay (l:=l) (i:=k) (by have:=aG ha;omega);have:=ih b hb;have:=h.lt hb ha (by omega);omega
 rcases Nat.eq_zero_or_pos l.length with h0|h0
 ·omega
 ·obtain⟨a,ha⟩:=ay (l:=l) (i:=l.length - 1) (by omega);have h1:=key _ a ha;have h2:=h.2 a (List.mem_of_getElem? ha);omega
theorem rL {l:List Int}{j:Nat}{b:Int}(h:l[j]?=some b):(l.take (j+1)).getLast?=some b:=by rw[aP h];simp
theorem DT (l:List Int)(n:Int)(hl:(l.length:Int)<2 ^ 62)(H:AHeap)(K:ARes->AHeap->Prop)(hK:K (.ret (.lit (.bool (decide (bT l n))))) H):ae Try.prog G0 74 [ab l,aa n] H K:=by
 have no:¬ bT l n->aw Try.prog G0 H K (.lit (.bool false)) H:=fun h=>aw.mk (Nat.le_refl _) (by rw[decide_eq_false h]at hK;exact hK);refine ae.aS (n:=41) (rs:=[.tmp 4]) Try.func74 rfl rfl rfl (by decide) (by kernel_rfl) (by simp) ?_;simp only[go_sem];refine W.aK 2199023255536 (by rfl) (fun ρ H'=>H'=H/\∃ k:Nat,ρ 5=aa k/\k<=l.length/\bT (l.take k) n) (fun ρ H=>l.length - (iv (ρ 5)).toNat) ?_ ?_
 ·simp only[go_sem];exact⟨0,rfl,by omega,.nil⟩
 rintro ρ H' ⟨rfl,k,h5,hk,hp⟩;refine ag _ _ _ (by rfl) ?_;by_cases hb:(k:Int)<l.length
 ·obtain⟨a,ha⟩:=ay (l:=l) (i:=k) (by omega);have hne:=aR ha;have ham:=List.mem_of_getElem? ha;simp only[go_sem,h5,hb];refine W.draw 26 [0,0,3,7,15,31,63,63,255,511,63,2047,4095,8191,16383,32767,65535,131071,131071,524287,1048575,131071,131071,4325375,14811135,31588351] Try.mixed (by kernel_rfl) (by kernel_rfl) ?_;by_cases c1:a<0
  ·simp only[go_sem,h5,hb,ha,hne,c1,zg];exact no fun h=>by have:=h.2 a ham;omega
  by_cases c2:a >= n
  ·simp only[go_sem,h5,hb,ha,hne,c1,c2,zg];exact no fun h=>by have:=h.2 a ham;omega
  by_cases c3:(k:Int) > 0
  ·obtain⟨j,rfl⟩:∃ j,k=j+1:=⟨k - 1,by omega⟩
   obtain⟨b,hbj⟩:=ay (l:=l) (i:=j) (by omega);have w1:=IntWalk.i64_in (j:Int) (by omega);have w2:=IntWalk.i64_in (((j+1:Nat):Int)+1) (by omega);have e1:((j+1:Nat):Int) - 1=j:=(by omega);have hb1:(j:Int)<l.length:=(by omega);have hbj':=hbj;by_cases c4:a<=b
   ·simp only[go_sem,h5,hb,ha,hne,c1,c2,c3,c4,w1,e1,hb1,hbj];exact no fun h=>by have:=h.lt hbj ha (by omega);omega
   ·simp only[go_sem,h5,hb,ha,hne,c1,c2,c3,c4,w1,w2,e1,hb1,hbj];refine⟨⟨j+1+1,by simp,by omega,?_⟩,by omega⟩;rw[aP ha];exact hp.snoc (by omega) fun b' hb'=>by
     rw[rL hbj]at hb';cases hb';omega
  ·simp only[go_sem,h5,hb,ha,hne,c1,c2,c3];rw[IntWalk.i64_in ((k:Int)+1) (by omega)];obtain rfl:k=0:=(by omega);refine⟨⟨1,by simp,by omega,?_⟩,by omega⟩;rw[aP ha];exact hp.snoc (by omega) fun b' hb'=>by simp at hb'
 ·simp only[go_sem,h5,hb];rw[List.take_of_length_le (by omega)]at hp;rw[decide_eq_true hp]at hK;exact aw.mk (Nat.le_refl _) hK
theorem DU (l:List Int)(n:Int)(hl:(l.length:Int)<2 ^ 62)(H:AHeap)(K:ARes->AHeap->Prop)(hK:K (.ret (.lit (.bool (decide (bT l n))))) H):ae Try.prog G0 86 [ab l,aa n] H K:=by
 have no:¬ bT l n->aw Try.prog G0 H K (.lit (.bool false)) H:=fun h=>aw.mk (Nat.le_refl _) (by rw[decide_eq_false h]at hK;exact hK);refine ae.aS (n:=24) (rs:=[.tmp 4]) Try.func86 rfl rfl rfl (by decide) (by kernel_rfl) (by simp) ?_;simp only[go_sem];refine W.aK 16776368 (by rfl) (fun ρ H'=>H'=H/\∃ (k:Nat) (b:Int),ρ 10=aa k/\k<=l.length/\ρ 5=aa b/\bT (l.take k) n/\(l.take k).getLast?.getD (-1)=b) (fun ρ H=>l.length - (iv (ρ 10)).toNat) ?_ ?_
 ·simp only[go_sem];exact⟨0,-1,rfl,by omega,rfl,.nil,rfl⟩
 rintro ρ H' ⟨rfl,k,b,h10,hk,h5,hp,hbl⟩;refine ag _ _ _ (by rfl) ?_;by_cases hb:(k:Int)<l.length
 ·obtain⟨a,ha⟩:=ay (l:=l) (i:=k) (by omega);have hne:=aR ha;have ham:=List.mem_of_getElem? ha;by_cases c1:a<=b
  ·simp only[go_sem,h10,h5,hb,ha,hne,c1];refine no fun h=>?_;have h0:=h.2 a ham;rcases Nat.eq_zero_or_pos k with rfl|hk0
   ·simp at hbl;omega
   ·obtain⟨j,rfl⟩:∃ j,k=j+1:=⟨k - 1,by omega⟩
    obtain⟨b',hbj⟩:=ay (l:=l) (i:=j) (by omega);rw[rL hbj]at hbl;have:=h.lt hbj ha (by omega);simp at hbl;omega
  by_cases c2:a >= n
  ·simp only[go_sem,h10,h5,hb,ha,hne,c1,c2];exact no fun h=>by have:=h.2 a ham;omega
  have w1:=IntWalk.i64_in ((k:Int)+1) (by omega);simp only[go_sem,h10,h5,hb,ha,hne,c1,c2,w1];have h0:0<=a:=by
   rcases hg:(l.take k).getLast? with _|b'
   ·rw[hg]at hbl;simp at hbl;omega
   ·rw[hg]at hbl;have:=hp.2 b' (List.mem_of_getLast? hg);simp at hbl;omega
  refine⟨⟨k+1,a,by simp,by omega,rfl,?_,by rw[rL ha];rfl⟩,by omega⟩;rw[aP ha];exact hp.snoc ⟨h0,by omega⟩ fun b' hb'=>by rw[hb']at hbl;simp at hbl;omega
 ·simp only[go_sem,h10,hb];rw[List.take_of_length_le (by omega)]at hp;rw[decide_eq_true hp]at hK;exact aw.mk (Nat.le_refl _) hK
end Go.Proofs
namespace Go.Hx
theorem Over.live {H H':AHeap}(h:Over H H'){id g:Nat}(hi:id<H.next):H'.live id g=H.live id g:=by
 unfold AHeap.live;rw[h.old id hi]
theorem Over.upd {H H':AHeap}(h:Over H H'){id:Nat}(hi:H.next<=id)(b:Blk):Over H (H'.upd id b):=⟨h.next,fun j hj=>by rw[af,if_neg (by omega)];exact h.old j hj⟩
theorem vg {H:AHeap}{id g:Nat}{e:TypeId}{c:List AVal}:(H.upd id (.arr g e c)).live id g=some (e,c):=ah (by rw[af,if_pos rfl])
theorem my {H:AHeap}{id j g:Nat}{b:Blk}(h:j≠id):(H.upd id b).live j g=H.live j g:=by unfold AHeap.live;rw[af,if_neg h]
attribute [go_sem] vg
@[go_sem] theorem SH (a b:Array TypeId)(c:Bool)(n:Nat)(cells:List AVal)(off:Nat):kK (some (.func a b c)) n cells off=cells[off]?:=rfl
end Go.Hx
namespace Go.Proofs
open Go.Hx
theorem kg {H H' H2:AHeap}{e:TypeId}{v:AVal}{cs:List AVal}(ov:Over H H')(h:aB H.next H' e v cs)(hn:H'.next<=H2.next)(hp:∀ k,k<H'.next->(∀ g n,v≠.own k g 0 n 1)->H2.get k=H'.get k):Over H H2 :=
 ⟨Nat.le_trans ov.next hn,fun id hi=>by
  rw[hp id (Nat.lt_of_lt_of_le hi ov.next) fun g n he=>?_,ov.old id hi];rcases h with ⟨h,_⟩|⟨i2,g2,a1,_,h,_⟩
  ·rw[h]at he;cases he
  ·rw[h]at he;have:=AVal.own.inj he;omega⟩
theorem iM {H H':AHeap}{v:AVal}{l:List Int}(x:Int)(ov:Over H H')(h:aB H.next H' 3 v (ints l))(hl:l.length<2 ^ 40):
  ∃ v' H2,bq Try.prog (ext H' [.arr 0 3 [.lit (.int .i64 x)]]) (H'.next+1) 59 59 v (.own H'.next 0 0 1 1)=some (v',H2)/\Over H H2/\aB H.next H2 3 v' (ints (l++[x]))/\H'.next<=H2.next/\(∀ k,k<H'.next->(∀ g n,v≠.own k g 0 n 1)->H2.get k=H'.get k):=by
 obtain⟨v',H2,hA,hO,hn2,hp⟩:=gf (P:=Try.prog) (H:=H') (t:=59) (x:=aa x) (n:=H'.next+1) Try.underlying59 Try.dh Try.dG rfl (by rw[Try.dU,aT];omega) h ov.next rfl;simp only[aa]at hA;exact⟨v',H2,hA,kg ov h hn2 hp,by simpa [ints,aa] using hO,hn2,hp⟩
theorem D9 {H H':AHeap}{v:AVal}{l:List AVal}(x:AVal)(hx:x.one=true)(ov:Over H H')(h:aB H.next H' 59 v l)(hl:l.length<2 ^ 40):
  ∃ v' H2,bq Try.prog (ext H' [.arr 0 59 [x]]) (H'.next+1) 48 48 v (.own H'.next 0 0 1 1)=some (v',H2)/\Over H H2/\aB H.next H2 59 v' (l++[x])/\H'.next<=H2.next/\(∀ k,k<H'.next->(∀ g n,v≠.own k g 0 n 1)->H2.get k=H'.get k):=by
 obtain⟨v',H2,hA,hO,hn2,hp⟩:=gf (P:=Try.prog) (H:=H') (t:=48) (x:=x) (n:=H'.next+1) Try.underlying48 Try.jY Try.kQ hx (by rw[Try.kP];omega) h ov.next rfl;exact⟨v',H2,hA,kg ov h hn2 hp,hO,hn2,hp⟩
theorem RF (l:List (List Int)):(ao l).one=true:=rfl
theorem RG (l:List (List Int)):(ao l).cells=[ao l]:=rfl
theorem RH (l:List NodeP):(bO l).one=true:=rfl
theorem RI (l:List NodeP):(bO l).cells=[bO l]:=rfl
theorem RJ (l:List UtilP):(uq l).one=true:=rfl
theorem RK (l:List UtilP):(uq l).cells=[uq l]:=rfl
attribute [go_sem] RF RG RH RI RJ RK
structure OwnI (H H':AHeap)(id:Nat)(c:List Int):Prop where
 ov:Over H H'
 lo:H.next<=id
 hi:id<H'.next
 get:H'.get id=some (.arr 0 3 (ints c))
theorem OwnI.live {H H':AHeap}{id:Nat}{c:List Int}(h:OwnI H H' id c):H'.live id 0=some (3,ints c):=ah h.get
theorem OwnI.RL {H H':AHeap}{id:Nat}{c:List Int}(h:OwnI H H' id c)(L:List Blk):(ext H' L).live id 0=some (3,ints c):=by rw[dS h.hi];exact h.live
theorem OwnI.ne {H H':AHeap}{id:Nat}{c:List Int}(h:OwnI H H' id c):¬ id=H'.next:=by have:=h.hi;omega
theorem OwnI.over {H H' H2:AHeap}{id:Nat}{c:List Int}(h:OwnI H H' id c)(o:Over H' H2):OwnI H H2 id c:=⟨h.ov.trans o,h.lo,Nat.lt_of_lt_of_le h.hi o.next,(o.old id h.hi).trans h.get⟩
theorem OwnI.store {H H':AHeap}{id:Nat}{c:List Int}(h:OwnI H H' id c){k:Nat}(hk:k<c.length)(x:Int):OwnI H (H'.upd id (.arr 0 3 (setAt (ints c) k [.lit (.int .i64 x)]))) id (c.set k x) :=
 ⟨⟨h.ov.next,fun i hi=>by rw[af,if_neg (by have:=h.lo;omega)];exact h.ov.old i hi⟩,h.lo,h.hi,by rw[af,if_pos rfl,fS hk]⟩
theorem OwnI.RM {H H':AHeap}{id:Nat}{c:List Int}(h:OwnI H H' id c)(L:List Blk){k:Nat}(hk:k<c.length)(x:Int):OwnI H ((ext H' L).upd id (.arr 0 3 (setAt (ints c) k [.lit (.int .i64 x)]))) id (c.set k x) :=
 (h.over (.ext H' L)).store hk x
theorem OwnI.new {H:AHeap}(L:List Blk)(n:Nat):OwnI H (ext H (.arr 0 3 (List.replicate n (.lit (.int .i64 0))) :: L)) H.next (List.replicate n 0) :=
 ⟨.ext _ _,Nat.le_refl _,by simp [bn],by rw[br];simp [ints,aa]⟩
theorem OwnI.fin {H H':AHeap}{id:Nat}{c:List Int}{K:ARes->AHeap->Prop}(hcl:Clo H)(h:OwnI H H' id c){n:Nat}(hn:n=c.length)(hK:K (.ret (ab c)) H):aw Try.prog G0 H K (.own id 0 0 n 1) H':=by
 subst hn;refine aw.bk aF hcl h.ov ?_ hK;exact .ints h.lo h.get (by simp) fun i hi=>by simp [g9,hi]
theorem Ea {l m:List Int}{k:Nat}{x:Int}(h:l.take k=m.take k)(hk:k<l.length)(hx:m[k]?=some x):(l.set k x).take (k+1)=m.take (k+1):=by
 rw[aP hx,aP (show (l.set k x)[k]?=some x by rw[List.getElem?_set_self hk]),List.take_set_of_le (Nat.le_refl k),h]
end Go.Proofs
namespace Go.Proofs
open Go.Hx
theorem bU {α:Type}{l:List α}{i:Nat}{a d:α}(h:l[i]?=some a):l.getD i d=a:=by rw[List.getD_eq_getElem?_getD,h];rfl
theorem DV {l places:List Int}{k:Nat}{p:Int}(h:places[k]?=some p):aL l (places.take (k+1))=aL l (places.take k)++[l.getD p.toNat 0]:=by
 unfold aL;rw[aP h];simp
theorem cV {ns:List NodeP}{k:Nat}{x:NodeP}(h:ns[k]?=some x):(aq ns)[k]?=some x.card:=by unfold aq;rw[List.getElem?_map,h];rfl
theorem cP (ns:List NodeP):(aq ns).length=ns.length:=by simp [aq]
theorem rN (l p:List Int)(hl:(l.length:Int)<2 ^ 40)(hp:(p.length:Int)<2 ^ 39)(hin:∀ q∈p,0<=q/\q<l.length)(H:AHeap)(K:ARes->AHeap->Prop)(hK:K (.ret (ab (aL l p))) H):ae Try.prog G0 90 [ab l,ab p] H K:=by
 refine ae.clo ⟨_,Try.func90,rfl,rfl⟩ fun hcl=>?_;refine ae.aS (n:=24) (rs:=[.tmp 4]) Try.func90 rfl rfl rfl (by decide) (by kernel_rfl) (by simp) ?_;simp only[go_sem];refine W.aK 8388576 (by rfl) (fun ρ H'=>∃ k:Nat,ρ 6=aa k/\k<=p.length/\Over H H'/\aB H.next H' 3 (ρ 5) (ints (aL l (p.take k)))) (fun ρ H=>p.length - (iv (ρ 6)).toNat) ?_ ?_
 ·simp only[go_sem];exact⟨0,rfl,by omega,.refl _,.nil⟩
 rintro ρ H' ⟨k,h6,hk,ov,h5⟩;refine ag _ _ _ (by rfl) ?_;by_cases hb:(k:Int)<p.length
 ·obtain⟨q,hq⟩:=ay (l:=p) (i:=k) (by omega);obtain⟨j,rfl,a,ha⟩:=kS (hin q (List.mem_of_getElem? hq)).1 (hin q (List.mem_of_getElem? hq)).2;have hne:=aR hq;have hne2:=aR ha;have hj:=aG ha;have hj':(j:Int)<l.length:=by omega
  obtain⟨v',H2,hA,ov2,hO,hn2,_⟩:=iM a ov h5 (by simp [aL];omega);have w1:=IntWalk.i64_in ((k:Int)+1) (by omega);simp only[go_sem,h6,hb,hq,hne,ha,hne2,hj',w1,hA];refine⟨by have:=ov2.next;omega,⟨k+1,by simp,by omega,ov2,?_⟩,by omega⟩;rw[DV hq,Int.toNat_natCast,bU ha];exact hO
 ·simp only[go_sem,h6,hb];rw[List.take_of_length_le (by omega)]at h5;exact aw.bk aF hcl ov (h5.dw fun i hi=>hi) hK
theorem pD (g:Int)(ns:List NodeP)(hl:(ns.length:Int)<2 ^ 39)(H:AHeap)(K:ARes->AHeap->Prop)(hK:K (.ret (ab (aq ns))) H):ae Try.prog G0 56 [bj g ns] H K:=by
 refine ae.clo ⟨_,Try.func56,rfl,rfl⟩ fun hcl=>?_;refine ae.aS (n:=22) (rs:=[.tmp 2]) Try.func56 rfl rfl rfl (by decide) (by kernel_rfl) (by simp) ?_;simp only[go_sem,bj,bO];obtain⟨H1,hH1⟩:∃ H1,H1=ext H [.arr 0 64 [.lit (.int .i64 g),.vec ns.length (aD ns)]]:=⟨_,rfl⟩
 have l1:H1.live H.next 0=some (64,[.lit (.int .i64 g),.vec ns.length (aD ns)]):=by rw[hH1];exact ah (br ..)
 have n1:H1.next=H.next+1:=by rw[hH1];rfl
 have o1:Over H H1:=by rw[hH1];exact .ext _ _
 rw[<- hH1];refine W.aK 2097144 (by rfl) (fun ρ H'=>∃ k:Nat,ρ 4=aa k/\k<=ns.length/\ρ 1=.ptr H.next 0 0/\Over H1 H'/\aB H1.next H' 3 (ρ 3) (ints ((aq ns).take k))) (fun ρ H=>ns.length - (iv (ρ 4)).toNat) ?_ ?_
 ·simp only[go_sem];exact⟨0,rfl,by omega,.refl _,.nil⟩
 rintro ρ H' ⟨k,h4,hk,h1,ov,h3⟩;refine ag _ _ _ (by rfl) ?_;have l2:=(ov.live (g:=0) (by omega:H.next<H1.next)).trans l1;by_cases hb:(k:Int)<ns.length
 ·obtain⟨x,hx⟩:=ay (l:=ns) (i:=k) (by omega);have hne:=dH hx;have e0:=iI hx;obtain⟨v',H2,hA,ov2,hO,hn2,_⟩:=iM x.card ov h3 (by simp [aq];omega);have w1:=IntWalk.i64_in ((k:Int)+1) (by omega);simp only[go_sem,h4,h1,l2,hb,hne,e0,w1,hA];refine⟨by have:=ov2.next;omega,⟨k+1,by simp,by omega,ov2,?_⟩,by omega⟩;rw[aP (cV hx)];exact hO
 ·simp only[go_sem,h4,h1,l2,hb];rw[List.take_of_length_le (by rw[cP];omega)]at h3;exact aw.bk aF hcl (o1.trans ov) (h3.dw fun i hi=>by omega) hK
theorem DW (ns:List NodeP)(hl:(ns.length:Int)<2 ^ 39)(H:AHeap)(K:ARes->AHeap->Prop)(hK:K (.ret (ab (aq ns))) H):ae Try.prog G0 93 [bO ns] H K:=by
 refine ae.clo ⟨_,Try.func93,rfl,rfl⟩ fun hcl=>?_;refine ae.aS (n:=23) (rs:=[.tmp 2]) Try.func93 rfl rfl rfl (by decide) (by kernel_rfl) (by simp) ?_;simp only[go_sem,bO];refine⟨by omega,?_⟩;refine W.aK 4192304 (by rfl) (fun ρ H'=>∃ (k:Nat) (c:List Int),ρ 11=aa k/\k<=ns.length/\OwnI H H' H.next c/\c.length=ns.length/\c.take k=(aq ns).take k) (fun ρ H=>ns.length - (iv (ρ 11)).toNat) ?_ ?_
 ·simp only[go_sem];exact⟨0,_,rfl,by omega,.new [] ns.length,by simp,rfl⟩
 rintro ρ H' ⟨k,c,h11,hk,ho,hcl',hc⟩;refine ag _ _ _ (by rfl) ?_;by_cases hb:(k:Int)<ns.length
 ·obtain⟨x,hx⟩:=ay (l:=ns) (i:=k) (by omega);have hne:=dH hx;have e0:=kR hx;have e1:k*3+3<=(aD ns).length:=by rw[gv];omega
  have w1:=IntWalk.i64_in ((k:Int)+1) (by omega);have l3:=ho.RL;have nb:=ho.ne;simp only[go_sem,h11,l3,hb,hne,e0,e1,w1];have hkc:k<c.length:=by omega
  have ho2:=ho.RM [.arr 0 83 [.lit (.int .i64 x.card),.vec x.parents.length (ints x.parents),ao x.rows]] hkc x.card;exact⟨by omega,by have:=ho2.hi;omega,⟨k+1,_,rfl,by omega,ho2,by simpa using hcl',Ea hc hkc (cV hx)⟩,by omega⟩
 ·simp only[go_sem,h11,hb];have e:c=aq ns:=by
   rw[List.take_of_length_le (by omega),List.take_of_length_le (by rw[cP];omega)]at hc;exact hc
  subst e;exact ho.fin hcl (by rw[cP]) hK
end Go.Proofs
namespace Go.Proofs
open Go.Hx
def fT (l:List Int)(n:Nat):Prop:=∀ q∈l,0<=q/\q<n
theorem fU (l p:List Int):(aL l p).length=p.length:=by simp [aL]
theorem lg {l p:List Int}{k:Nat}{q:Int}(h:p[k]?=some q):(aL l p)[k]?=some (l.getD q.toNat 0):=by unfold aL;rw[List.getElem?_map,h];rfl
theorem DX (g:Int)(ns:List NodeP)(v:Nat)(x:NodeP)(hx:ns[v]?=some x)(hl:(ns.length:Int)<2 ^ 39)(hp:(x.parents.length:Int)<2 ^ 39)(hin:fT x.parents ns.length)(H:AHeap)(K:ARes->AHeap->Prop)
  (hK:K (.ret (ab (aQ ns x))) H):ae Try.prog G0 77 [bj g ns,aa v] H K:=by
 refine ae.clo ⟨_,Try.func77,rfl,rfl⟩ fun hcl=>?_;have hne:=dH hx;have e1:=jx hx;have hv:(v:Int)<ns.length:=by have:=aG hx;omega
 refine ae.aS (n:=14) (rs:=[.tmp 4]) Try.func77 rfl rfl rfl (by decide) (by kernel_rfl) (by simp) ?_;simp only[go_sem,bj,bO];refine W.draw 8 [0,1,0,4,0,28,60,124] Try.mixed (by kernel_rfl) (by kernel_rfl) ?_;simp only[go_sem];refine⟨ab (aq ns),[],bD.pure fun H2=>pD g ns hl H2 _ ⟨rfl,rfl⟩,?_⟩;simp only[go_sem,hv,hne,e1];refine aA.clo (rN (aq ns) x.parents (by rw[cP];omega) hp (by rw[cP];exact hin) _ _ ⟨trivial,?_⟩);simp only[go_sem];exact aw.bk aF hcl (.ext _ _) (.cB _) hK
theorem Re (l:List Int)(hl:da l)(H:AHeap)(K:ARes->AHeap->Prop)(hK:K (.ret (aa (au l))) H):ae Try.prog G0 104 [ab l] H K:=by
 have l12:=hl.1;refine ae.aS (n:=17) (rs:=[.tmp 2]) Try.func104 rfl rfl rfl (by decide) (by kernel_rfl) (by simp) ?_;simp only[go_sem];refine W.aK 65320 (by rfl) (fun ρ H'=>H'=H/\∃ k:Nat,ρ 8=aa k/\k<=l.length/\ρ 3=aa (au (l.take k))) (fun ρ H=>l.length - (iv (ρ 8)).toNat) ?_ ?_
 ·simp only[go_sem];exact⟨0,rfl,by omega,by simp [fQ]⟩
 rintro ρ H' ⟨rfl,k,h4,hk,h3⟩;refine ag _ _ _ (by rfl) ?_;by_cases hb:(k:Int)<l.length
 ·obtain⟨c,hc⟩:=ay (l:=l) (i:=k) (by omega);have hne:=aR hc;have b1:=(hl.take (k+1)).prod;rw[aP hc,eC]at b1;have w1:=IntWalk.i64_in ((k:Int)+1) (by omega);have w2:=IntWalk.i64_in (au (l.take k)*c) (by omega);simp only[go_sem,h4,h3,hb,hc,hne,w1,w2];exact⟨⟨k+1,by simp,by omega,by rw[aP hc,eC]⟩,by omega⟩
 ·simp only[go_sem,h4,h3,hb];rw[List.take_of_length_le (by omega)];exact aw.mk (Nat.le_refl _) hK
theorem DY (ns:List NodeP)(v:Nat)(x:NodeP)(hx:ns[v]?=some x)(hin:fT x.parents ns.length)(hs:da (aQ ns x))(H:AHeap)(K:ARes->AHeap->Prop)
  (hK:K (.ret (aa (au (aQ ns x)))) H):ae Try.prog G0 52 [bO ns,aa v] H K:=by
 have hne:=dH hx;have e1:=jx hx;have hv:(v:Int)<ns.length:=by have:=aG hx;omega
 have l12:=hs.1;have pl:(aQ ns x).length=x.parents.length:=fU _ _;refine ae.aS (n:=27) (rs:=[.tmp 4]) Try.func52 rfl rfl rfl (by decide) (by kernel_rfl) (by simp) ?_;simp only[go_sem,bO,hv,hne,e1];refine W.aK 67092640 (by rfl) (fun ρ H'=>H'=H/\∃ k:Nat,ρ 14=aa k/\k<=x.parents.length/\ρ 5=aa (au ((aQ ns x).take k))) (fun ρ H=>x.parents.length - (iv (ρ 14)).toNat) ?_ ?_
 ·simp only[go_sem];exact⟨0,rfl,by omega,by simp [fQ]⟩
 rintro ρ H' ⟨rfl,k,h14,hk,h5⟩;refine ag _ _ _ (by rfl) ?_;by_cases hb:(k:Int)<x.parents.length
 ·obtain⟨q,hq⟩:=ay (l:=x.parents) (i:=k) (by omega);obtain⟨j,rfl,y,hy⟩:=kS (l:=ns) (hin q (List.mem_of_getElem? hq)).1 (hin q (List.mem_of_getElem? hq)).2;have hne2:=aR hq;have hj:(j:Int)<ns.length:=by have:=aG hy;omega
  have e0:=iI hy;have pk:(aQ ns x)[k]?=some y.card:=by
   rw[show (aQ ns x)[k]?=_ from lg hq,Int.toNat_natCast,bU (cV hy)]
  have b1:=(hs.take (k+1)).prod;rw[aP pk,eC]at b1;have w1:=IntWalk.i64_in ((k:Int)+1) (by omega);have w2:=IntWalk.i64_in (au ((aQ ns x).take k)*y.card) (by omega);simp only[go_sem,h14,h5,hb,hq,hne,hne2,hj,e0,w1,w2];exact⟨⟨k+1,by simp,by omega,by rw[aP pk,eC]⟩,by omega⟩
 ·simp only[go_sem,h14,h5,hb];rw[List.take_of_length_le (by omega)];exact aw.mk (Nat.le_refl _) hK
theorem Rf (ns:List NodeP)(v:Nat)(x:NodeP)(vals:List Int)(hx:ns[v]?=some x)(hin:fT x.parents ns.length)(hs:da (aQ ns x))(hf:cr (aq ns) vals)(H:AHeap)(K:ARes->AHeap->Prop)
  (hK:K (.ret (aa (bE (aQ ns x) (aL vals x.parents)))) H):ae Try.prog G0 105 [bO ns,aa v,ab vals] H K:=by
 have hne:=dH hx;have e1:=jx hx;have hv:(v:Int)<ns.length:=by have:=aG hx;omega
 have l12:=hs.1;have pl:(aQ ns x).length=x.parents.length:=fU _ _;have vl:(aL vals x.parents).length=x.parents.length:=fU _ _;have hfl:vals.length=ns.length:=by rw[hf.1,cP]
 have at_get:∀ (k:Nat) (q:Int),x.parents[k]?=some q->∃ (j:Nat) (y:NodeP) (b:Int),q=j/\ns[j]?=some y/\vals[j]?=some b/\(aQ ns x)[k]?=some y.card/\(aL vals x.parents)[k]?=some b/\0<=b/\b<y.card:=fun k q hq=>by
  obtain⟨j,rfl,y,hy⟩:=kS (l:=ns) (hin q (List.mem_of_getElem? hq)).1 (hin q (List.mem_of_getElem? hq)).2;obtain⟨b,hb⟩:=ay (l:=vals) (i:=j) (by rw[hfl];exact aG hy);have r:=hf.2 j y.card b (cV hy) hb;exact⟨j,y,b,rfl,hy,hb,by rw[show (aQ ns x)[k]?=_ from lg hq,Int.toNat_natCast,bU (cV hy)],by rw[lg hq,Int.toNat_natCast,bU hb],r⟩
 have ft:∀ k,cr ((aQ ns x).take k) ((aL vals x.parents).take k):=fun k=>⟨by simp [pl,vl],fun i c b h1 h2=>by
  rw[List.getElem?_take]at h1 h2;split at h1
  ·rename_i hik;rw[if_pos hik]at h2;obtain⟨q,hq⟩:=ay (l:=x.parents) (i:=i) (by rw[<- pl];exact aG h1);obtain⟨j,y,b',_,_,_,a1,a2,a3⟩:=at_get i q hq;rw[h1]at a1;rw[h2]at a2;cases a1;cases a2;exact a3
  ·cases h1⟩
 have hr:∀ k,0<=fR ((aQ ns x).take k) ((aL vals x.parents).take k)/\fR ((aQ ns x).take k) ((aL vals x.parents).take k)<68719476737:=fun k=>by
  rw[uu (ft k).1];have a:=kT (ft k);have b:=(hs.take k).prod;omega
 refine ae.aS (n:=34) (rs:=[.tmp 6]) Try.func105 rfl rfl rfl (by decide) (by kernel_rfl) (by simp) ?_;simp only[go_sem,bO,hv,hne,e1];refine W.aK 8589869696 (by rfl) (fun ρ H'=>H'=H/\∃ k:Nat,ρ 16=aa k/\k<=x.parents.length/\ρ 7=aa (fR ((aQ ns x).take k) ((aL vals x.parents).take k))) (fun ρ H=>x.parents.length - (iv (ρ 16)).toNat) ?_ ?_
 ·simp only[go_sem];exact⟨0,rfl,by omega,rfl⟩
 rintro ρ H' ⟨rfl,k,h16,hk,h7⟩;refine ag _ _ _ (by rfl) ?_;by_cases hb:(k:Int)<x.parents.length
 ·obtain⟨q,hq⟩:=ay (l:=x.parents) (i:=k) (by omega);obtain⟨j,y,b,rfl,hy,hbv,a1,a2,a3⟩:=at_get k q hq;have hne2:=aR hq;have hne3:=aR hbv;have hj:(j:Int)<ns.length:=by have:=aG hy;omega
  have hj2:(j:Int)<vals.length:=by omega
  have e0:=iI hy;have w1:=IntWalk.i64_in ((k:Int)+1) (by omega);have r1:=hr (k+1);rw[uw a1 a2]at r1;have r0:=hr k;have m0:0<=fR ((aQ ns x).take k) ((aL vals x.parents).take k)*y.card:=Int.mul_nonneg r0.1 (by omega);have w2:=IntWalk.i64_in (fR ((aQ ns x).take k) ((aL vals x.parents).take k)*y.card) (by omega);have w3:=IntWalk.i64_in (fR ((aQ ns x).take k) ((aL vals x.parents).take k)*y.card+b) (by omega);simp only[go_sem,h16,hb,hq,hne2];refine W.draw 11 [0,0,0,6,14,30,63,0,0,384,896] Try.mixed (by kernel_rfl) (by kernel_rfl) ?_;simp only[go_sem,h16,h7,hne,hne3,hj,hj2,hbv,e0,w1,w2,w3];exact⟨⟨k+1,by simp,by omega,by rw[uw a1 a2]⟩,by omega⟩
 ·simp only[go_sem,h16,h7,hb];rw[List.take_of_length_le (by omega),List.take_of_length_le (by omega),uu (by rw[pl,vl])];exact aw.mk (Nat.le_refl _) hK
end Go.Proofs
/-
  Sets of nodes as bits; orders in which parents come first. Plain: no program stands in this text. No conditions.
-/
namespace Go.Proofs
open Go.Hx
def cC (l:List Int):Nat:=l.foldl (fun s p=>s ||| 2 ^ p.toNat) 0
theorem O7 (l:List Int):∀ (s i:Nat),(l.foldl (fun s p=>s ||| 2 ^ p.toNat) s).testBit i=(s.testBit i || l.any fun p=>p.toNat == i):=by
 induction l with
 | nil=>intro s i;simp
 | cons p l ih =>
  intro s i;simp only[List.foldl_cons,ih,Nat.testBit_or,Nat.testBit_two_pow,List.any_cons];rw[Bool.or_assoc];congr 1
theorem me {l:List Int}(h:∀ p∈l,0<=p)(i:Nat):(cC l).testBit i=decide ((i:Int)∈l):=by
 unfold cC;rw[O7];simp only[Nat.zero_testBit,Bool.false_or];rw[Bool.eq_iff_iff];simp only[List.any_eq_true,beq_iff_eq,decide_eq_true_eq];constructor
 ·rintro⟨p,hp,rfl⟩;have:=h p hp;rw[Int.toNat_of_nonneg this];exact hp
 ·intro hi;exact⟨_,hi,by simp⟩
theorem yh (l:List Int)(p:Int):cC (l++[p])=cC l ||| 2 ^ p.toNat:=by unfold cC;rw[List.foldl_append];rfl
theorem yi {m n:Nat}(h:∀ i,m.testBit i=true->i<n):m<2 ^ n:=by
 apply Nat.lt_pow_two_of_testBit;intro i hi;rcases Bool.eq_false_or_eq_true (m.testBit i) with e|e
 ·exact absurd (h i e) (by omega)
 ·exact e
theorem q9 {l:List Int}{n:Nat}(h:∀ p∈l,0<=p/\p<n):cC l<2 ^ n:=yi fun i hi=>by
 rw[me fun p hp=>(h p hp).1]at hi;have:=(h _ (of_decide_eq_true hi)).2;omega
theorem ni {m n i:Nat}(h:m<2 ^ n)(hi:m.testBit i=true):i<n:=by
 rcases Nat.lt_or_ge i n with h'|h'
 ·exact h'
 ·rw[Nat.testBit_lt_two_pow (Nat.lt_of_lt_of_le h (Nat.pow_le_pow_right (by decide) h'))]at hi;cases hi
def Sub (s t:Nat):Prop:=∀ i,s.testBit i=true->t.testBit i=true
theorem Sub.refl (s:Nat):Sub s s:=fun _ h=>h
theorem Sub.trans {s t u:Nat}(h:Sub s t)(h':Sub t u):Sub s u:=fun i hi=>h' i (h i hi)
theorem Sub.or {s t u:Nat}(h:Sub s u)(h':Sub t u):Sub (s ||| t) u:=fun i hi=>by
 rw[Nat.testBit_or,Bool.or_eq_true]at hi;exact hi.elim (h i) (h' i)
theorem Sub.left (s t:Nat):Sub s (s ||| t):=fun i hi=>by rw[Nat.testBit_or,hi];rfl
theorem Sub.right (s t:Nat):Sub t (s ||| t):=fun i hi=>by rw[Nat.testBit_or,hi];simp
theorem Sub.antisymm {s t:Nat}(h:Sub s t)(h':Sub t s):s=t:=Nat.eq_of_testBit_eq fun i=>by
 rw[Bool.eq_iff_iff];exact⟨h i,h' i⟩
theorem Cs {a b:Nat}(ha:a<2 ^ 64):gF a b=0↔Sub a b:=by
 constructor
 ·intro h i hi;have:=zc (a:=a) (b:=b) (i:=i) ha;rw[h,Nat.zero_testBit,hi]at this;simpa using this.symm
 ·intro h;apply Nat.eq_of_testBit_eq;intro i;rw[zc ha,Nat.zero_testBit];cases hi:a.testBit i
  ·rfl
  ·rw[h i hi];rfl
def fh (ps:List Nat)(s v:Nat):Nat:=if s.testBit v=true then s ||| ps.getD v 0 else s
def eO (ps:List Nat)(s:Nat):Nat:=(List.range ps.length).foldl (fh ps) s
def dY (ps:List Nat):Nat->Nat->Nat
 | 0,s=>s
 | k+1,s=>eO ps (dY ps k s)
def gz (ps:List Nat)(s:Nat):Nat:=dY ps ps.length s
def kU (ps:List Nat):Prop:=∀ v,v<ps.length->(gz ps (ps.getD v 0)).testBit v=false
def mf (ps:List Nat)(t:Nat):Prop:=∀ v,v<ps.length->t.testBit v=true->Sub (ps.getD v 0) t
theorem Ct (ps:List Nat)(s v:Nat):Sub s (fh ps s v):=by unfold fh;split;exact .left _ _;exact .refl _
theorem Cu (ps:List Nat)(l:List Nat):∀ s,Sub s (l.foldl (fh ps) s):=by
 induction l with
 | nil=>exact fun s=>.refl s
 | cons v l ih=>exact fun s=>(Ct ps s v).trans (ih _)
theorem yj (ps:List Nat)(s:Nat):Sub s (eO ps s):=Cu ps _ s
theorem O8 {ps:List Nat}{t:Nat}(hc:mf ps t)(l:List Nat)(hl:∀ v∈l,v<ps.length):∀ s,Sub s t->Sub (l.foldl (fh ps) s) t:=by
 induction l with
 | nil=>exact fun s h=>h
 | cons v l ih =>
  intro s h;refine ih (fun v hv=>hl v (by simp [hv])) _ ?_;unfold fh;split
  ·rename_i hv;exact h.or (hc v (hl v (by simp)) (h v hv))
  ·exact h
theorem O9 {ps:List Nat}{t:Nat}(hc:mf ps t){s:Nat}(h:Sub s t):Sub (eO ps s) t:=O8 hc _ (fun v hv=>List.mem_range.1 hv) s h
theorem ux {ps:List Nat}{t:Nat}(hc:mf ps t)(k:Nat){s:Nat}(h:Sub s t):Sub (dY ps k s) t:=by
 induction k with
 | zero=>exact h
 | succ k ih=>exact O9 hc ih
theorem yk (ps:List Nat)(k s:Nat):Sub s (dY ps k s):=by
 induction k with
 | zero=>exact .refl _
 | succ k ih=>exact ih.trans (yj _ _)
theorem Pa {ps:List Nat}{s:Nat}(h:eO ps s=s):mf ps s:=by
 intro v hv hs;have key:∀ (l:List Nat) (s0:Nat),v∈l->s0.testBit v=true->Sub (ps.getD v 0) (l.foldl (fh ps) s0):=by
  intro l
  induction l with
  | nil=>intro s0 h;cases h
  | cons u l ih =>
   intro s0 hm hb;rcases List.mem_cons.1 hm with rfl|hm
   ·refine Sub.trans ?_ (Cu ps l _);unfold fh;rw[if_pos hb];exact .right _ _
   ·exact ih _ hm (Ct ps s0 u v hb)
 have:=key (List.range ps.length) s (List.mem_range.2 hv) hs;unfold eO at h
 rwa [h]at this
def di (n s:Nat):Nat:=(List.range n).countP fun i=>s.testBit i
theorem Cv (n s:Nat):di n s<=n:=by have:=List.countP_le_length (p:=fun i=>s.testBit i) (l:=List.range n);simpa [di] using this
theorem Pb {l:List Nat}{p q:Nat->Bool}(h:∀ x∈l,p x=true->q x=true){a:Nat}(ha:a∈l)(hp:p a=false)(hq:q a=true):l.countP p<l.countP q:=by
 induction l with
 | nil=>cases ha
 | cons x l ih =>
  have hm:l.countP p<=l.countP q:=List.countP_mono_left fun y hy=>h y (by simp [hy]);rcases List.mem_cons.1 ha with rfl|ha
  ·rw[List.countP_cons,List.countP_cons,hp,hq];simp;omega
  ·have:=ih (fun y hy=>h y (by simp [hy])) ha;have hx:=h x (by simp);rw[List.countP_cons,List.countP_cons];cases hpx:p x
   ·simp;omega
   ·rw[hx hpx];simp;omega
theorem re {n s t i:Nat}(h:Sub s t)(hi:i<n)(h0:s.testBit i=false)(h1:t.testBit i=true):di n s<di n t :=
 Pb (fun x _ hx=>h x hx) (List.mem_range.2 hi) h0 h1
theorem Pc {ps:List Nat}(hp:∀ p∈ps,p<2 ^ ps.length){s:Nat}(hs:s<2 ^ ps.length):mf ps (gz ps s):=by
 have hb:∀ k,dY ps k s<2 ^ ps.length:=fun k=>by
  have ht:mf ps (2 ^ ps.length - 1):=fun v _ _ i hi=>by
   rw[Nat.testBit_two_pow_sub_one];have:ps.getD v 0<2 ^ ps.length:=by
    rw[List.getD_eq_getElem?_getD];cases h:ps[v]? with
    | none=>exact Nat.two_pow_pos _
    | some p=>exact hp p (List.mem_of_getElem? h)
   simpa using ni this hi
  have:=ux ht k (s:=s) fun i hi=>by rw[Nat.testBit_two_pow_sub_one];simpa using ni hs hi
  exact yi fun i hi=>by have:=this i hi;rw[Nat.testBit_two_pow_sub_one]at this;simpa using this
 have key:∀ k,eO ps (dY ps k s)=dY ps k s\/k+1<=di ps.length (dY ps k s):=by
  have grow:∀ t,t<2 ^ ps.length->eO ps t<2 ^ ps.length->eO ps t≠t->di ps.length t<di ps.length (eO ps t):=fun t ht ht' hne=>by
   have:∃ i,(eO ps t).testBit i=true/\t.testBit i=false:=by
    refine Classical.byContradiction fun hno=>hne (Sub.antisymm (fun i hi=>?_) (yj ps t));rcases Bool.eq_false_or_eq_true (t.testBit i) with e|e
    ·exact e
    ·exact absurd ⟨i,hi,e⟩ hno
   obtain⟨i,h1,h0⟩:=this;exact re (yj ps t) (ni ht' h1) h0 h1
  intro k
  induction k with
  | zero =>
   by_cases h0:s=0
   ·left;subst h0;show eO ps 0=0;unfold eO;have:∀ l:List Nat,l.foldl (fh ps) 0=0:=fun l=>by
     induction l with
     | nil=>rfl
     | cons v l ih=>simp only[List.foldl_cons,fh,Nat.zero_testBit,Bool.false_eq_true,if_false];exact ih
    exact this _
   ·right;obtain⟨i,hi⟩:=Nat.exists_testBit_of_ne_zero h0;have:di ps.length 0<di ps.length s:=re (fun j hj=>by rw[Nat.zero_testBit]at hj;cases hj) (ni hs hi) (Nat.zero_testBit i) hi;show 0+1<=di ps.length s;omega
  | succ k ih =>
   rcases ih with ih|ih
   ·left;show eO ps (eO ps (dY ps k s))=eO ps (dY ps k s);rw[ih];exact ih
   ·by_cases hf:eO ps (dY ps k s)=dY ps k s
    ·left;show eO ps (eO ps (dY ps k s))=eO ps (dY ps k s);rw[hf];exact hf
    ·right;have:=grow _ (hb k) (hb (k+1)) hf;show k+1+1<=di ps.length (eO ps (dY ps k s));omega
 rcases key ps.length with h|h
 ·exact Pa h
 ·have:=Cv ps.length (dY ps ps.length s);omega
def iK (ps:List Nat)(done v:Nat):Bool:=!done.testBit v && decide (gF (ps.getD v 0) done=0)
def jz (ps:List Nat)(done:Nat):Option Nat:=(List.range ps.length).find? (iK ps done)
def gC (ps:List Nat):Nat->List Nat->Nat->Option (List Nat)
 | 0,out,_=>some out
 | k+1,out,done=>match jz ps done with
  | none=>none
  | some v=>gC ps k (out++[v]) (done ||| 2 ^ v)
def eD (ps:List Nat):Option (List Nat):=gC ps ps.length [] 0
theorem ym {ps:List Nat}{done v:Nat}(hp:∀ p∈ps,p<2 ^ 64)(h:jz ps done=some v):v<ps.length/\done.testBit v=false/\Sub (ps.getD v 0) done:=by
 unfold jz at h;have h1:=List.mem_of_find?_eq_some h;have h2:=List.find?_some h;unfold iK at h2;simp only[Bool.and_eq_true,Bool.not_eq_true',decide_eq_true_eq]at h2;have hv:=List.mem_range.1 h1;refine⟨hv,h2.1,(Cs ?_).1 h2.2⟩;rw[List.getD_eq_getElem?_getD];cases h:ps[v]? with
 | none=>decide
 | some p=>exact hp p (List.mem_of_getElem? h)
theorem Pd {ps:List Nat}{done:Nat}(hp:∀ p∈ps,p<2 ^ 64)(h:jz ps done=none):∀ v,v<ps.length->done.testBit v=true\/¬ Sub (ps.getD v 0) done:=by
 intro v hv;unfold jz at h;rw[List.find?_eq_none]at h;have:=h v (List.mem_range.2 hv);unfold iK at this;rcases Bool.eq_false_or_eq_true (done.testBit v) with e|e
 ·exact .inl e
 ·right;intro hs;refine this ?_;rw[e,(Cs ?_).2 hs]
  ·simp
  ·rw[List.getD_eq_getElem?_getD];cases h:ps[v]? with
   | none=>decide
   | some p=>exact hp p (List.mem_of_getElem? h)
theorem ij (d v i:Nat):(d ||| 2 ^ v).testBit i=(d.testBit i || decide (v=i)):=by rw[Nat.testBit_or,Nat.testBit_two_pow]
theorem Pe {ps:List Nat}(hp:∀ p∈ps,p<2 ^ 64):∀ (k:Nat) (out:List Nat) (done:Nat) (r:List Nat),gC ps k out done=some r->k+di ps.length done=ps.length ->
  mf ps done->(∀ v,v<ps.length->done.testBit v=true->(gz ps (ps.getD v 0)).testBit v=false)->kU ps:=by
 intro k
 induction k with
 | zero =>
  intro out done r _ hc hcl hall v hv;refine hall v hv ?_;rcases Bool.eq_false_or_eq_true (done.testBit v) with e|e
  ·exact e
  ·have:di ps.length done<di ps.length (2 ^ ps.length - 1 ||| done):=re (.right _ _) hv e (by rw[Nat.testBit_or,Nat.testBit_two_pow_sub_one];simp [hv]);have:=Cv ps.length (2 ^ ps.length - 1 ||| done);omega
 | succ k ih =>
  intro out done r h hc hcl hall;unfold gC at h;split at h
  ·cases h
  ·rename_i v hn;obtain⟨h1,h2,h3⟩:=ym hp hn;refine ih _ _ _ h ?_ ?_ ?_
   ·have:di ps.length (done ||| 2 ^ v)=di ps.length done+1:=by
     unfold di;have:∀ l:List Nat,l.Nodup->v∈l->l.countP (fun i=>(done ||| 2 ^ v).testBit i)=l.countP (fun i=>done.testBit i)+1:=by
      intro l
      induction l with
      | nil=>intro _ h;cases h
      | cons x l ihl =>
       intro hnd hmem;obtain⟨g1,g2⟩:=List.nodup_cons.1 hnd;rw[List.countP_cons,List.countP_cons];rcases List.mem_cons.1 hmem with rfl|hm2
       ·have:l.countP (fun i=>(done ||| 2 ^ v).testBit i)=l.countP (fun i=>done.testBit i):=List.countP_congr fun y hy=>by
         have:¬ v=y:=(by rintro rfl;exact g1 hy);simp [ij,this]
        rw[this];simp [ij,h2]
       ·have hx:¬ v=x:=(by rintro rfl;exact g1 hm2);rw[ihl g2 hm2];simp [ij,hx];omega
     exact this _ List.nodup_range (List.mem_range.2 h1)
    omega
   ·intro u hu hb;rw[ij,Bool.or_eq_true,decide_eq_true_eq]at hb;rcases hb with hb|rfl
    ·exact(hcl u hu hb).trans (.left _ _)
    ·exact h3.trans (.left _ _)
   ·intro u hu hb;rw[ij,Bool.or_eq_true,decide_eq_true_eq]at hb;rcases hb with hb|rfl
    ·exact hall u hu hb
    ·have:=ux hcl ps.length h3;rcases Bool.eq_false_or_eq_true ((gz ps (ps.getD v 0)).testBit v) with e|e
     ·have:=this v e;rw[h2]at this;cases this
     ·exact e
theorem Pf {ps:List Nat}(hp:∀ p∈ps,p<2 ^ ps.length)(h64:ps.length<=64)(ha:kU ps):∀ (k:Nat) (out:List Nat) (done:Nat),k+di ps.length done=ps.length->∃ r,gC ps k out done=some r:=by
 have hp64:∀ p∈ps,p<2 ^ 64:=fun p h=>Nat.lt_of_lt_of_le (hp p h) (Nat.pow_le_pow_right (by decide) h64);have hpd:∀ v,ps.getD v 0<2 ^ ps.length:=fun v=>by
  rw[List.getD_eq_getElem?_getD];cases h:ps[v]? with
  | none=>exact Nat.two_pow_pos _
  | some p=>exact hp p (List.mem_of_getElem? h)
 intro k
 induction k with
 | zero=>exact fun out done _=>⟨out,rfl⟩
 | succ k ih =>
  intro out done hc;unfold gC;cases hn:jz ps done with
  | none =>
   exfalso;have hno:=Pd hp64 hn
      -- every node that is left has a parent that is left
   have step:∀ m v,v<ps.length->done.testBit v=false->di ps.length (gz ps (ps.getD v 0))<=m->False:=by
    intro m
    induction m with
    | zero =>
     intro v hv hd hm;obtain⟨i,h1,h2⟩:∃ i,(ps.getD v 0).testBit i=true/\done.testBit i=false:=by
      rcases hno v hv with h|h
      ·rw[hd]at h;cases h
      ·refine Classical.byContradiction fun hc=>h fun i hi=>?_;rcases Bool.eq_false_or_eq_true (done.testBit i) with e|e
       ·exact e
       ·exact absurd ⟨i,hi,e⟩ hc
     have:di ps.length 0<di ps.length (gz ps (ps.getD v 0)):=re (fun j hj=>by rw[Nat.zero_testBit]at hj;cases hj) (ni (hpd v) h1) (Nat.zero_testBit i) (yk ps _ _ i h1);omega
    | succ m ihm =>
     intro v hv hd hm;obtain⟨u,h1,h2⟩:∃ i,(ps.getD v 0).testBit i=true/\done.testBit i=false:=by
      rcases hno v hv with h|h
      ·rw[hd]at h;cases h
      ·refine Classical.byContradiction fun hc=>h fun i hi=>?_;rcases Bool.eq_false_or_eq_true (done.testBit i) with e|e
       ·exact e
       ·exact absurd ⟨i,hi,e⟩ hc
     have hu:=ni (hpd v) h1;have hcl:=Pc hp (hpd v);have hin:(gz ps (ps.getD v 0)).testBit u=true:=yk ps _ _ u h1;have hsub:Sub (gz ps (ps.getD u 0)) (gz ps (ps.getD v 0)):=ux hcl _ (hcl u hu hin);have:=re hsub hu (ha u hu) hin;exact ihm u hu h2 (by omega)
   obtain⟨v,hv,hd⟩:∃ v,v<ps.length/\done.testBit v=false:=by
    refine Classical.byContradiction fun hno=>?_;have:di ps.length done=ps.length:=by
     unfold di
     conv=>rhs;rw[<- List.length_range (n:=ps.length)]
     rw[List.countP_eq_length];intro x hx;rcases Bool.eq_false_or_eq_true (done.testBit x) with e|e
     ·exact e
     ·exact absurd ⟨x,List.mem_range.1 hx,e⟩ hno
    omega
   exact step _ v hv hd (Nat.le_refl _)
  | some v =>
   obtain⟨h1,h2,h3⟩:=ym hp64 hn;refine ih _ _ ?_;have:di ps.length (done ||| 2 ^ v)=di ps.length done+1:=by
    unfold di;have:∀ l:List Nat,l.Nodup->v∈l->l.countP (fun i=>(done ||| 2 ^ v).testBit i)=l.countP (fun i=>done.testBit i)+1:=by
     intro l
     induction l with
     | nil=>intro _ h;cases h
     | cons x l ihl =>
      intro hnd hmem;obtain⟨g1,g2⟩:=List.nodup_cons.1 hnd;rw[List.countP_cons,List.countP_cons];rcases List.mem_cons.1 hmem with rfl|hm2
      ·have:l.countP (fun i=>(done ||| 2 ^ v).testBit i)=l.countP (fun i=>done.testBit i):=List.countP_congr fun y hy=>by
        have:¬ v=y:=(by rintro rfl;exact g1 hy);simp [ij,this]
       rw[this];simp [ij,h2]
      ·have hx:¬ v=x:=(by rintro rfl;exact g1 hm2);rw[ihl g2 hm2];simp [ij,hx];omega
    exact this _ List.nodup_range (List.mem_range.2 h1)
   omega
theorem Cw (n:Nat):di n 0=0:=by
 unfold di;rw[List.countP_eq_zero];intro x _;simp
theorem Cx {ps:List Nat}(hp:∀ p∈ps,p<2 ^ ps.length)(h64:ps.length<=64):(eD ps).isSome=true↔kU ps:=by
 have hp64:∀ p∈ps,p<2 ^ 64:=fun p h=>Nat.lt_of_lt_of_le (hp p h) (Nat.pow_le_pow_right (by decide) h64);constructor
 ·intro h;obtain⟨r,hr⟩:=Option.isSome_iff_exists.1 h;exact Pe hp64 _ _ _ r hr (by rw[Cw];omega) (fun v _ h=>by rw[Nat.zero_testBit]at h;cases h) (fun v _ h=>by rw[Nat.zero_testBit]at h;cases h)
 ·intro h;obtain⟨r,hr⟩:=Pf hp h64 h ps.length [] 0 (by rw[Cw];omega);unfold eD;rw[hr];rfl
end Go.Proofs
namespace Go.Hx
def fV (l:List Nat):AVal:=.vec l.length (l.map bx)
attribute [go_sem] bx fV
theorem aB.Rg {S:Nat->Prop}{lo nx:Nat}{H:AHeap}{e:TypeId}{v:AVal}{l:List Nat}(h:aB lo H e v (l.map bx))(hS:∀ i,lo<=i->S i):Fz S H nx v (fV l):=by
 have:=h.fz (S:=S) (nx:=nx) (cs':=l.map bx) hS rfl fun i hi _=>by simp only[List.getElem_map];exact .lit _
 rw[List.length_map]at this;exact this
end Go.Hx
namespace Go.Proofs
open Go.Hx
theorem DZ {H H':AHeap}{v:AVal}{l:List Nat}(x:Nat)(ov:Over H H')(h:aB H.next H' 36 v (l.map bx))(hl:l.length<2 ^ 40):
  ∃ v' H2,bq Try.prog (ext H' [.arr 0 36 [.lit (.int .u64 (x:Int))]]) (H'.next+1) 98 98 v (.own H'.next 0 0 1 1)=some (v',H2)/\Over H H2/\aB H.next H2 36 v' ((l++[x]).map bx)/\H'.next<=H2.next/\(∀ k,k<H'.next->(∀ g n,v≠.own k g 0 n 1)->H2.get k=H'.get k):=by
 obtain⟨v',H2,hA,hO,hn2,hp⟩:=gf (P:=Try.prog) (H:=H') (t:=98) (x:=bx x) (n:=H'.next+1) Try.underlying98 Try.Cf Try.Ch rfl (by rw[Try.Cg,List.length_map];omega) h ov.next rfl;simp only[bx]at hA;exact⟨v',H2,hA,kg ov h hn2 hp,by rw[List.map_append];exact hO,hn2,hp⟩
theorem yW (m v:Nat)(hm:m<2 ^ 64)(hv:v<2 ^ 62)(H:AHeap)(K:ARes->AHeap->Prop)(hK:K (.ret (.lit (.bool (m.testBit v)))) H):ae Try.prog G0 95 [bx m,aa v] H K:=by
 refine ae.aS (n:=11) (rs:=[.tmp 4]) Try.func95 rfl rfl rfl (by decide) (by kernel_rfl) (by simp) ?_;have w1:=IntWalk.u64_in (v:Int) (by omega);have s1:=fun t x y=>pG (P:=Try.prog) (t:=t) (x:=x) (y:=y) (k':=.u64) (s:=v) hm;have s2:=fun t x y=>vf (P:=Try.prog) (t:=t) (x:=x) (y:=y) (s:=v) hm;cases hb:m.testBit v
 ·rw[hb]at hK;simp only[go_sem,w1,s1,s2,hb];exact aw.mk (Nat.le_refl _) hK
 ·rw[hb]at hK;simp only[go_sem,w1,s1,s2,hb];exact aw.mk (Nat.le_refl _) hK
def aZ (ns:List NodeP):List Nat:=ns.map fun x=>cC x.parents
theorem lh {ns:List NodeP}{k:Nat}{x:NodeP}(h:ns[k]?=some x):(aZ ns)[k]?=some (cC x.parents):=by unfold aZ;rw[List.getElem?_map,h];rfl
theorem D0 (g:Int)(ns:List NodeP)(hl:(ns.length:Int)<2 ^ 39)(hp:∀ x∈ns,(x.parents.length:Int)<2 ^ 39/\∀ q∈x.parents,0<=q/\q<64)(H:AHeap)(K:ARes->AHeap->Prop)
  (hK:K (.ret (fV (aZ ns))) H):ae Try.prog G0 42 [bj g ns] H K:=by
 refine ae.clo ⟨_,Try.func42,rfl,rfl⟩ fun hcl=>?_;refine ae.aS (n:=43) (rs:=[.tmp 2]) Try.func42 rfl rfl rfl (by decide) (by kernel_rfl) (by simp) ?_;simp only[go_sem,bj,bO];obtain⟨H1,hH1⟩:∃ H1,H1=ext H [.arr 0 64 [.lit (.int .i64 g),.vec ns.length (aD ns)]]:=⟨_,rfl⟩
 have l1:H1.live H.next 0=some (64,[.lit (.int .i64 g),.vec ns.length (aD ns)]):=by rw[hH1];exact ah (br ..)
 have n1:H1.next=H.next+1:=by rw[hH1];rfl
 have o1:Over H H1:=by rw[hH1];exact .ext _ _
 rw[<- hH1];refine W.aK 4398046511096 (by rfl) (fun ρ H'=>∃ k:Nat,ρ 4=aa k/\k<=ns.length/\ρ 1=.ptr H.next 0 0/\Over H1 H'/\aB H1.next H' 36 (ρ 3) (((aZ ns).take k).map bx)) (fun ρ H=>ns.length - (iv (ρ 4)).toNat) ?_ ?_
 ·simp only[go_sem];exact⟨0,rfl,by omega,.refl _,.nil⟩
 rintro ρ H' ⟨k,h4,hk,h1,ov,h3⟩;refine ag _ _ _ (by rfl) ?_;have l2:=(ov.live (g:=0) (by omega:H.next<H1.next)).trans l1;by_cases hb:(k:Int)<ns.length
 ·obtain⟨x,hx⟩:=ay (l:=ns) (i:=k) (by omega);have hne:=dH hx;have e1:=jx hx;obtain⟨xl,xr⟩:=hp x (List.mem_of_getElem? hx);simp only[go_sem,h4,h1,l2,hb];refine W.aK 274877890656 (by rfl) (fun ρ' H2=>H2=H'/\∃ j:Nat,ρ' 6=aa j/\j<=x.parents.length/\ρ' 5=bx (cC (x.parents.take j))) (fun ρ' H=>x.parents.length - (iv (ρ' 6)).toNat) ?_ ?_
  ·simp only[go_sem];exact⟨0,rfl,by omega,rfl⟩
  rintro ρ' H2 ⟨rfl,j,h6,hj,h5⟩;refine ag _ _ _ (by rfl) ?_;by_cases hb2:(j:Int)<x.parents.length
  ·obtain⟨q,hq⟩:=ay (l:=x.parents) (i:=j) (by omega);obtain⟨q0,q1⟩:=xr q (List.mem_of_getElem? hq);obtain⟨u,rfl⟩:=Int.eq_ofNat_of_zero_le q0;have hne2:=aR hq;have w1:=IntWalk.u64_in (u:Int) (by omega);have w2:=IntWalk.i64_in ((j:Int)+1) (by omega);have b1:cC (x.parents.take j)<2 ^ 64:=q9 fun p hp=>by have:=xr p (List.mem_of_mem_take hp);omega
   have s1:=fun t x y=>nG (P:=Try.prog) (t:=t) (x:=x) (y:=y) (k':=.u64) (s:=u) (by omega);have s2:=fun t x y=>kq (P:=Try.prog) (t:=t) (x:=x) (y:=y) (b:=2 ^ u) b1 (Nat.pow_lt_pow_right (by decide) (by omega));simp only[go_sem,h4,h1,l2,hb,hne,e1,h6,h5,hb2,hq,hne2,w1,w2,s1,s2];exact⟨⟨j+1,by simp,by omega,by rw[aP hq,yh];rfl⟩,by omega⟩
  ·obtain⟨v',H3,hA,ov2,hO,hn2,_⟩:=DZ (cC x.parents) ov h3 (by simp [aZ];omega);have w1:=IntWalk.i64_in ((k:Int)+1) (by omega);rw[List.take_of_length_le (by omega)]at h5;simp only[go_sem,h4,h1,l2,hb,hne,e1,h6,h5,hb2,w1,hA];refine⟨by have:=ov2.next;omega,⟨k+1,by simp,by omega,ov2,?_⟩,by omega⟩;rw[aP (lh hx)];exact hO
 ·simp only[go_sem,h4,h1,l2,hb];rw[List.take_of_length_le (by simp [aZ];omega)]at h3;exact aw.bk aF hcl (o1.trans ov) (h3.Rg fun i hi=>by omega) hK
theorem D1 {ps:List Nat}(hp:∀ p∈ps,p<2 ^ 64)(l:List Nat):∀ s,s<2 ^ 64->l.foldl (fh ps) s<2 ^ 64:=by
 induction l with
 | nil=>exact fun s h=>h
 | cons v l ih =>
  intro s h;refine ih _ ?_;unfold fh;split
  ·refine Nat.or_lt_two_pow h ?_;rw[List.getD_eq_getElem?_getD];cases h:ps[v]? with
   | none=>decide
   | some p=>exact hp p (List.mem_of_getElem? h)
  ·exact h
theorem yX {ps:List Nat}(hp:∀ p∈ps,p<2 ^ 64){s:Nat}(hs:s<2 ^ 64):∀ k,dY ps k s<2 ^ 64
 | 0=>hs
 | k+1=>D1 hp _ _ (yX hp hs k)
theorem Rh (ps:List Nat)(s:Nat)(hl:(ps.length:Int)<2 ^ 39)(hp:∀ p∈ps,p<2 ^ 64)(hs:s<2 ^ 64)(H:AHeap)(K:ARes->AHeap->Prop)(hK:K (.ret (bx (gz ps s))) H):ae Try.prog G0 96 [fV ps,bx s] H K:=by
 refine ae.aS (n:=29) (rs:=[.tmp 4]) Try.func96 rfl rfl rfl (by decide) (by kernel_rfl) (by simp) ?_;simp only[go_sem];refine W.aK 268435426 (by rfl) (fun ρ H'=>H'=H/\∃ k:Nat,ρ 5=aa k/\k<=ps.length/\ρ 1=bx (dY ps k s)) (fun ρ H=>ps.length - (iv (ρ 5)).toNat) ?_ ?_
 ·simp only[go_sem];exact⟨0,rfl,by omega,rfl⟩
 rintro ρ H' ⟨rfl,k,h5,hk,h1⟩;refine ag _ _ _ (by rfl) ?_;by_cases hb:(k:Int)<ps.length
 ·simp only[go_sem,h5,hb];refine W.aK 268427330 (by rfl) (fun ρ' H2=>H2=H'/\∃ j:Nat,ρ' 6=aa j/\j<=ps.length/\ρ' 1=bx ((List.range j).foldl (fh ps) (dY ps k s))) (fun ρ' H=>ps.length - (iv (ρ' 6)).toNat) ?_ ?_
  ·simp only[go_sem,h1];exact⟨0,rfl,by omega,rfl⟩
  rintro ρ' H2 ⟨rfl,j,h6,hj,h1'⟩;refine ag _ _ _ (by rfl) ?_;by_cases hb2:(j:Int)<ps.length
  ·obtain⟨p,hpj⟩:=ay (l:=ps) (i:=j) (by omega);have hne:=aR hpj;have b1:=D1 hp (List.range j) _ (yX hp hs k);have w2:=IntWalk.i64_in ((j:Int)+1) (by omega);have hst:(List.range (j+1)).foldl (fh ps) (dY ps k s)=fh ps ((List.range j).foldl (fh ps) (dY ps k s)) j:=(by rw[List.range_succ,List.foldl_append];rfl);have s2:=fun t x y=>kq (P:=Try.prog) (t:=t) (x:=x) (y:=y) b1 (hp p (List.mem_of_getElem? hpj));obtain⟨m,hm⟩:∃ m,m=(List.range j).foldl (fh ps) (dY ps k s):=⟨_,rfl⟩
   rw[<- hm]at b1 h1' hst s2;simp only[go_sem,h6,h1',hb2];refine aA.clo (yW m j b1 (by omega) _ _ ⟨trivial,?_⟩);cases hbit:m.testBit j
   ·simp only[go_sem,h6,h1',w2];exact⟨⟨j+1,by simp,by omega,by rw[hst];unfold fh;rw[hbit];rfl⟩,by omega⟩
   ·simp only[go_sem,h6,h1',w2,hb2,hpj,hne,s2];exact⟨⟨j+1,by simp,by omega,by rw[hst];unfold fh;rw[hbit,if_pos rfl,bU hpj]⟩,by omega⟩
  ·have w2:=IntWalk.i64_in ((k:Int)+1) (by omega);have ej:j=ps.length:=(by omega);subst ej;simp only[go_sem,h6,h1',hb2,h5,w2];exact⟨⟨k+1,by simp,by omega,rfl⟩,by omega⟩
 ·simp only[go_sem,h5,h1,hb];have ek:k=ps.length:=by omega
  subst ek;exact aw.mk (Nat.le_refl _) hK
def rO (ps:List Nat):Bool:=(List.range ps.length).all fun v=>!(gz ps (ps.getD v 0)).testBit v
theorem u6 (ps:List Nat):rO ps=true↔kU ps:=by
 unfold rO kU;simp only[List.all_eq_true,List.mem_range,Bool.not_eq_true']
theorem Ri (ps:List Nat)(hl:(ps.length:Int)<2 ^ 39)(hp:∀ p∈ps,p<2 ^ 64)(H:AHeap)(K:ARes->AHeap->Prop)(hK:K (.ret (.lit (.bool (rO ps)))) H):ae Try.prog G0 75 [fV ps] H K:=by
 have no:¬ rO ps=true->aw Try.prog G0 H K (.lit (.bool false)) H:=fun h=>aw.mk (Nat.le_refl _) (by rw[Bool.eq_false_iff.2 h]at hK;exact hK);refine ae.aS (n:=18) (rs:=[.tmp 2]) Try.func75 rfl rfl rfl (by decide) (by kernel_rfl) (by simp) ?_;simp only[go_sem];refine W.aK 262140 (by rfl) (fun ρ H'=>H'=H/\∃ k:Nat,ρ 3=aa k/\k<=ps.length/\∀ v,v<k->(gz ps (ps.getD v 0)).testBit v=false) (fun ρ H=>ps.length - (iv (ρ 3)).toNat) ?_ ?_
 ·simp only[go_sem];exact⟨0,rfl,by omega,fun v h=>absurd h (Nat.not_lt_zero _)⟩
 rintro ρ H' ⟨rfl,k,h3,hk,ha⟩;refine ag _ _ _ (by rfl) ?_;by_cases hb:(k:Int)<ps.length
 ·obtain⟨p,hpk⟩:=ay (l:=ps) (i:=k) (by omega);have hne:=aR hpk;have hp1:=hp p (List.mem_of_getElem? hpk);simp only[go_sem,h3,hb,hpk,hne];refine aA.clo (Rh ps p hl hp hp1 _ _ ⟨trivial,?_⟩);simp only[go_sem,h3];refine aA.clo (yW (gz ps p) k (yX hp hp1 _) (by omega) _ _ ⟨trivial,?_⟩);have w2:=IntWalk.i64_in ((k:Int)+1) (by omega);cases hbit:(gz ps p).testBit k
  ·simp only[go_sem,h3,w2];refine⟨⟨k+1,by simp,by omega,fun v hv=>?_⟩,by omega⟩;rcases Nat.lt_or_ge v k with h|h
   ·exact ha v h
   ·obtain rfl:v=k:=(by omega);rw[bU hpk];exact hbit
  ·simp only[go_sem];refine no fun h=>?_;have:=(u6 ps).1 h k (by omega);rw[bU hpk,hbit]at this;cases this
 ·simp only[go_sem,h3,hb];rw[(u6 ps).2 fun v hv=>ha v (by omega)]at hK;exact aw.mk (Nat.le_refl _) hK
end Go.Proofs
namespace Go.Proofs
open Go.Hx
def jd (g card:Int)(r:List Int):Prop:=(r.length:Int)=card/\(∀ w∈r,0<=w/\w<=g)/\r.sum=g
def fE (g:Int)(ns:List NodeP)(x:NodeP):Prop:=(x.rows.length:Int)=au (aQ ns x)/\∀ r∈x.rows,jd g x.card r
structure NetOk (g:Int)(ns:List NodeP):Prop where
 g1:1<=g/\g<=60
 n1:1<=ns.length/\ns.length<=8
 node:∀ x∈ns,(1<=x.card/\x.card<=4)/\bT x.parents ns.length
 size:au (aq ns)<=1024
 acyc:kU (aZ ns)
 rows:∀ x∈ns,fE g ns x
noncomputable def mr (g:Int)(ns:List NodeP):Bool:=@decide (NetOk g ns) (Classical.propDecidable _)
theorem u7 {g:Int}{ns:List NodeP}(h:NetOk g ns):mr g ns=true:=by unfold mr;exact @decide_eq_true _ (Classical.propDecidable _) h
theorem u9 {g:Int}{ns:List NodeP}(h:¬ NetOk g ns):mr g ns=false:=by unfold mr;exact @decide_eq_false _ (Classical.propDecidable _) h
def mu (ns:List NodeP):Prop:=(ns.length:Int)<2 ^ 38/\∀ x∈ns,(x.parents.length:Int)<2 ^ 38/\(x.rows.length:Int)<2 ^ 38/\∀ r∈x.rows,(r.length:Int)<2 ^ 38
theorem lj {l:List Int}(h:l.length<=12)(h2:∀ x∈l,1<=x/\x<=4):da l:=⟨h,fun x hx=>by have:=h2 x hx;omega⟩
theorem mv {ns:List NodeP}{x:NodeP}(hin:fT x.parents ns.length)(hc:∀ y∈ns,1<=y.card/\y.card<=4):∀ c∈aQ ns x,1<=c/\c<=4:=fun c h=>by
 unfold aQ aL at h;obtain⟨q,hq,rfl⟩:=List.mem_map.1 h;obtain⟨j,rfl,y,hy⟩:=kS (l:=ns) (hin q hq).1 (hin q hq).2;rw[Int.toNat_natCast,bU (cV hy)];exact hc y (List.mem_of_getElem? hy)
theorem km {ns:List NodeP}{x:NodeP}(h8:ns.length<=8)(hp:bT x.parents ns.length)(hc:∀ y∈ns,1<=y.card/\y.card<=4):da (aQ ns x):=by
 refine lj ?_ (mv (fun q hq=>by have:=hp.2 q hq;omega) hc);rw[show (aQ ns x).length=_ from fU _ _];have:=hp.len;omega
theorem va {ns:List NodeP}{n:Nat}(h:∀ x∈ns,∀ q∈x.parents,0<=q/\q<(n:Int)):∀ p∈aZ ns,p<2 ^ n:=fun p hp=>by
 obtain⟨x,hx,rfl⟩:=List.mem_map.1 hp;exact q9 fun q hq=>by have:=h x hx q hq;omega
theorem vb (l:List Int)(x:Int):(l++[x]).sum=l.sum+x:=by simp
set_option maxHeartbeats 2000000 in
theorem Rj (g:Int)(ns:List NodeP)(hf:mu ns)(H:AHeap)(K:ARes->AHeap->Prop)(hK:K (.ret (.lit (.bool (mr g ns)))) H):ae Try.prog G0 31 [bj g ns] H K:=by
 refine ae.clo ⟨_,Try.func31,rfl,rfl⟩ fun hcl=>?_;have no:¬ NetOk g ns->∀ H',Over H H'->aw Try.prog G0 H K (.lit (.bool false)) H':=fun h H' ov=>aw.bk aF hcl ov (.lit _) (by rw[u9 h]at hK;exact hK);refine ae.aS (n:=154) (rs:=[.tmp 2]) Try.func31 rfl rfl rfl (by decide) (by kernel_rfl) (by simp) ?_;simp only[go_sem,bj,bO];obtain⟨H1,hH1⟩:∃ H1,H1=ext H [.arr 0 64 [.lit (.int .i64 g),.vec ns.length (aD ns)]]:=⟨_,rfl⟩
 have l1:H1.live H.next 0=some (64,[.lit (.int .i64 g),.vec ns.length (aD ns)]):=by rw[hH1];exact ah (br ..)
 have n1:H1.next=H.next+1:=by rw[hH1];rfl
 have o1:Over H H1:=by rw[hH1];exact .ext _ _
 rw[<- hH1];by_cases c1:g<1
 ·simp only[go_sem,c1];exact no (fun h=>by have:=h.g1;omega) _ o1
 by_cases c2:g > 60
 ·simp only[go_sem,l1,c1,c2];exact no (fun h=>by have:=h.g1;omega) _ o1
 by_cases c3:(ns.length:Int)<1
 ·simp only[go_sem,l1,c1,c2,c3];exact no (fun h=>by have:=h.n1;omega) _ o1
 by_cases c4:(ns.length:Int) > 8
 ·simp only[go_sem,l1,c1,c2,c3,c4];exact no (fun h=>by have:=h.n1;omega) _ o1
 simp only[go_sem,l1,c1,c2,c3,c4];refine W.aK 18446744071562068028 (by rfl) (fun ρ H'=>∃ k:Nat,ρ 4=aa k/\k<=ns.length/\Over H1 H'/\(∀ x∈ns.take k,(1<=x.card/\x.card<=4)/\bT x.parents ns.length)/\ρ 3=aa (au ((aq ns).take k))) (fun ρ H=>ns.length - (iv (ρ 4)).toNat) ?_ ?_
 ·simp only[go_sem];exact⟨0,rfl,by omega,.refl _,by simp,by simp [fQ]⟩
 ·rintro ρ H' ⟨k,h4,hk,ov,hall,h3⟩;refine ag _ _ _ (by rfl) ?_;have l2:=(ov.live (g:=0) (by omega:H.next<H1.next)).trans l1;have hlt:H.next<H'.next:=by have:=ov.next;omega
  have l3:∀ L,(ext H' L).live H.next 0=_:=fun L=>(dS hlt).trans l2;by_cases hb:(k:Int)<ns.length
  ·obtain⟨x,hx⟩:=ay (l:=ns) (i:=k) (by omega);have hxm:=List.mem_of_getElem? hx;have hne:=dH hx;have e0:=kR hx;have e1:k*3+3<=(aD ns).length:=(by rw[gv];omega);have nb:¬ H.next=H'.next:=(by omega);have ove:∀ L,Over H (ext H' L):=fun L=>(o1.trans ov).trans (.ext _ _);by_cases d1:x.card<1
   ·simp only[go_sem,h4,l2,hb,hne,e0,e1,d1];exact no (fun h=>by have:=(h.node x hxm).1;omega) _ (ove _)
   by_cases d2:x.card > 4
   ·simp only[go_sem,h4,l2,hb,hne,e0,e1,d1,d2];exact no (fun h=>by have:=(h.node x hxm).1;omega) _ (ove _)
   simp only[go_sem,h4,l2,l3,hb,hne,e0,e1,d1,d2];refine aA.clo (DT x.parents ns.length (by have:=(hf.2 x hxm).1;omega) _ _ ⟨trivial,?_⟩);by_cases d3:bT x.parents ns.length;rotate_left
   ·simp only[go_sem,d3];exact no (fun h=>d3 (h.node x hxm).2) _ (ove _)
   have hall':∀ y∈ns.take (k+1),(1<=y.card/\y.card<=4)/\bT y.parents ns.length:=fun y hy=>by
    rw[aP hx]at hy;rcases List.mem_append.1 hy with hy|hy
    ·exact hall y hy
    ·obtain rfl:=List.mem_singleton.1 hy;exact⟨by omega,d3⟩
   have b1:da ((aq ns).take (k+1)):=lj (by simp [aq];omega) fun c hc=>by
    rw[show (aq ns).take (k+1)=aq (ns.take (k+1)) by simp [aq]]at hc;obtain⟨y,hy,rfl⟩:=List.mem_map.1 hc;exact(hall' y hy).1
   have b2:=b1.prod;rw[aP (cV hx),eC]at b2;have w1:=IntWalk.i64_in ((k:Int)+1) (by omega);have w2:=IntWalk.i64_in (au ((aq ns).take k)*x.card) (by omega);simp only[go_sem,h4,h3,d3,w1,w2];exact⟨by have:=ov.next;omega,⟨k+1,by simp,by omega,ov.trans (.ext _ _),fun y hy=>hall' y hy,by rw[aP (cV hx),eC]⟩,by omega⟩
  ·have ek:k=ns.length:=(by omega);subst ek;rw[List.take_of_length_le (Nat.le_refl _)]at hall;rw[List.take_of_length_le (by rw[cP];omega)]at h3;have hcards:∀ y∈ns,1<=y.card/\y.card<=4:=fun y hy=>(hall y hy).1;have ov0:=o1.trans ov;by_cases c5:au (aq ns) > 1024
   ·simp only[go_sem,h4,h3,l2,hb,c5];exact no (fun h=>by have:=h.size;omega) _ ov0
   simp only[go_sem,h4,h3,l2,hb,c5];have hpl:∀ x∈ns,(x.parents.length:Int)<2 ^ 39/\∀ q∈x.parents,0<=q/\q<64:=fun x hx=>⟨by have:=(hf.2 x hx).1;omega,fun q hq=>by have:=(hall x hx).2.2 q hq;omega⟩
   refine aA.clo (D0 g ns (by have:=hf.1;omega) hpl _ _ ⟨trivial,?_⟩);simp only[go_sem];refine aA.clo (Ri (aZ ns) (by simp [aZ];omega) (fun p hp=>Nat.lt_of_lt_of_le (va (n:=64) (fun x hx q hq=>by have:=(hpl x hx).2 q hq;omega) p hp) (Nat.le_refl _)) _ _ ⟨trivial,?_⟩);cases hac:rO (aZ ns)
   ·simp only[go_sem];exact no (fun h=>by rw[(u6 _).2 h.acyc]at hac;cases hac) _ ov0
   simp only[go_sem];refine W.aK 22835963083295358096932570788825439312478734276 (by rfl) (fun ρ' H2=>∃ k:Nat,ρ' 6=aa k/\k<=ns.length/\Over H' H2/\∀ x∈ns.take k,fE g ns x) (fun ρ' H=>ns.length - (iv (ρ' 6)).toNat) ?_ ?_
   ·simp only[go_sem];exact⟨0,rfl,by omega,.refl _,by simp⟩
   rintro ρ' H2 ⟨k,h6,hk,ov2',hrows⟩;have ov2:=ov.trans ov2';refine ag _ _ _ (by rfl) ?_;have l2:=(ov2.live (g:=0) (by omega:H.next<H1.next)).trans l1;have hlt:H.next<H2.next:=(by have:=ov2.next;omega);by_cases hb:(k:Int)<ns.length;rotate_left
   ·simp only[go_sem,h6,l2,hb];rw[List.take_of_length_le (by omega)]at hrows;rw[u7 ⟨by omega,by omega,hall,by omega,(u6 _).1 hac,hrows⟩]at hK;exact aw.bk aF hcl (o1.trans ov2) (.lit _) hK
   obtain⟨x,hx⟩:=ay (l:=ns) (i:=k) (by omega);have hxm:=List.mem_of_getElem? hx;have hne:=dH hx;have e0:=kR hx;have e1:k*3+3<=(aD ns).length:=(by rw[gv];omega);obtain⟨x1,x2⟩:=hall x hxm;obtain⟨f1,f2,f3⟩:=hf.2 x hxm;have sm:=km (by omega) x2 hcards;simp only[go_sem,h6,l2,hb,hne,e0,e1];obtain⟨H3,hH3⟩:∃ H3,H3=ext H2 [.arr 0 83 [.lit (.int .i64 x.card),.vec x.parents.length (ints x.parents),ao x.rows]]:=⟨_,rfl⟩
   have m1:H3.live H2.next 0=some (83,[.lit (.int .i64 x.card),.vec x.parents.length (ints x.parents),ao x.rows]):=(by rw[hH3];exact ah (br ..));have m2:H3.live H.next 0=some (64,[.lit (.int .i64 g),.vec ns.length (aD ns)]):=(by rw[hH3,dS hlt];exact l2);have m3:H3.next=H2.next+1:=(by rw[hH3];rfl);have ov3:Over H1 H3:=(by rw[hH3];exact ov2.trans (.ext _ _));have ov4:Over H H3:=o1.trans ov3;rw[<- hH3];refine W.draw 7 [0,1,3,0,0,24,56] Try.mixed (by kernel_rfl) (by kernel_rfl) ?_;simp only[go_sem,h6,m1,m2,ao];refine⟨ab (aQ ns x),[],bD.pure fun H2=>DX g ns k x hx (by have:=hf.1;omega) (by omega) (fun q hq=>by have:=x2.2 q hq;omega) H2 _ ⟨rfl,rfl⟩,?_⟩;simp only[go_sem];refine⟨aa (au (aQ ns x)),[],bD.pure fun H2=>uZ (aQ ns x) sm H2 _ ⟨rfl,rfl⟩,?_⟩;by_cases d1:(x.rows.length:Int)=au (aQ ns x);rotate_left
   ·simp only[go_sem,d1];exact no (fun h=>d1 (h.rows x hxm).1) _ ov4
   simp only[go_sem,d1];refine W.aK 22835963083295358091980815354050401082527450884 (by rfl) (fun ρ2 H4=>H4=H3/\∃ j:Nat,ρ2 8=aa j/\j<=x.rows.length/\∀ r∈x.rows.take j,jd g x.card r) (fun ρ2 H=>x.rows.length - (iv (ρ2 8)).toNat) ?_ ?_
   ·simp only[go_sem];exact⟨0,rfl,by omega,by simp⟩
   rintro ρ2 H4 ⟨rfl,j,h8,hj,hrj⟩;refine ag _ _ _ (by rfl) ?_;by_cases hb2:(j:Int)<x.rows.length;rotate_left
   ·have w1:=IntWalk.i64_in ((k:Int)+1) (by omega);have hb2':¬ (j:Int)<au (aQ ns x):=(by omega);simp only[go_sem,h6,h8,m1,hb2',d1,w1,ao];rw[List.take_of_length_le (by omega)]at hrj;refine⟨by have:=ov2'.next;omega,⟨k+1,by simp,by omega,by rw[hH3];exact ov2'.trans (.ext _ _),fun y hy=>?_⟩,by omega⟩;rw[aP hx]at hy;rcases List.mem_append.1 hy with hy|hy
    ·exact hrows y hy
    ·obtain rfl:=List.mem_singleton.1 hy;exact⟨d1,hrj⟩
   obtain⟨r,hr⟩:=ay (l:=x.rows) (i:=j) (by omega);have hrm:=List.mem_of_getElem? hr;have hrne:=aR hr;have hb2':(j:Int)<au (aQ ns x):=(by omega);have nope:¬ jd g x.card r->¬ NetOk g ns:=fun h h'=>h ((h'.rows x hxm).2 r hrm);simp only[go_sem,h8,m1,hb2',d1,ao];refine W.draw 8 [0,1,0,7,15,31,0,64] Try.mixed (by kernel_rfl) (by kernel_rfl) ?_;by_cases d2:(r.length:Int)=x.card;rotate_left
   ·simp only[go_sem,h8,m1,hb2',d1,d2,hr,hrne,ao];exact no (nope fun h=>d2 h.1) _ ov4
   simp only[go_sem,h8,m1,hb2',d1,d2,hr,hrne,ao];refine W.aK 1427247692705635362504627542722711980362171908 (by rfl) (fun ρ3 H5=>H5=H4/\∃ i:Nat,ρ3 10=aa i/\i<=r.length/\ρ3 9=aa (r.take i).sum/\∀ w∈r.take i,0<=w/\w<=g) (fun ρ3 H=>r.length - (iv (ρ3 10)).toNat) ?_ ?_
   ·simp only[go_sem];exact⟨0,rfl,by omega,by simp,by simp⟩
   rintro ρ3 H5 ⟨rfl,i,h10,hi,h9,hw⟩;refine ag _ _ _ (by rfl) ?_;have sb:0<=(r.take i).sum/\(r.take i).sum<=60*i:=by
    have key:∀ l:List Int,(∀ w∈l,0<=w/\w<=g)->0<=l.sum/\l.sum<=60*l.length:=by
     intro l
     induction l with
     | nil=>intro _;simp
     | cons a l ih =>
      intro h;have h1:=ih fun w hw=>h w (by simp [hw]);have h2:=h a (by simp);simp only[List.sum_cons,List.length_cons]
      push_cast
      omega
    have:=key _ hw;rw[List.length_take,Nat.min_eq_left (by omega)]at this;exact this
   have r4:r.length<=4:=(by omega);by_cases hb3:(i:Int)<r.length<;>have hb3':=hb3<;>rw[d2]at hb3'
   rotate_left
   ·rw[List.take_of_length_le (by omega)]at h9 hw;by_cases d3:r.sum=g;rotate_left
    ·simp only[go_sem,h8,h9,h10,m1,m2,hb3',hr,hrne,hb2',d1,d2,d3,ao];exact no (nope fun h=>d3 h.2.2) _ ov4
    have w1:=IntWalk.i64_in ((j:Int)+1) (by have:=(hf.2 x hxm).2.1;omega);simp only[go_sem,h8,h9,h10,m1,m2,hb3',hr,hrne,hb2',d1,d2,d3,w1,ao];refine⟨⟨j+1,by simp,by omega,fun y hy=>?_⟩,by omega⟩;rw[aP hr]at hy;rcases List.mem_append.1 hy with hy|hy
    ·exact hrj y hy
    ·obtain rfl:=List.mem_singleton.1 hy;exact⟨d2,hw,d3⟩
   obtain⟨a,ha⟩:=ay (l:=r) (i:=i) (by omega);have ham:=List.mem_of_getElem? ha;have hane:=aR ha;simp only[go_sem,h8,h10,m1,hr,hrne,hb2',hb3',d1,d2,ao];refine W.draw 20 [0,1,0,7,15,0,63,127,255,511,1023,2047,1023,8191,16383,1023,65535,131071,1023,263167] Try.mixed (by kernel_rfl) (by kernel_rfl) ?_;by_cases d3:a<0
   ·simp only[go_sem,h8,h10,m1,hr,hrne,hb2',hb3',ha,hane,d1,d2,d3,ao];exact no (nope fun h=>by have:=h.2.1 a ham;omega) _ ov4
   by_cases d4:a > g
   ·simp only[go_sem,h8,h10,m1,m2,hr,hrne,hb2',hb3',ha,hane,d1,d2,d3,d4,ao];exact no (nope fun h=>by have:=h.2.1 a ham;omega) _ ov4
   have w1:=IntWalk.i64_in ((i:Int)+1) (by omega);have w2:=IntWalk.i64_in ((r.take i).sum+a) (by omega);simp only[go_sem,h8,h9,h10,m1,m2,hr,hrne,hb2',hb3',ha,hane,d1,d2,d3,d4,w1,w2,ao];refine⟨⟨i+1,by simp,by omega,by rw[aP ha,vb],fun w hw'=>?_⟩,by omega⟩;rw[aP ha]at hw';rcases List.mem_append.1 hw' with hw'|hw'
   ·exact hw w hw'
   ·obtain rfl:=List.mem_singleton.1 hw';exact⟨by omega,by omega⟩
end Go.Proofs
namespace Go.Hx
variable {P:Program} {G:Nat->Option (List AVal)} {n:Nat} {rd:Option Nat} {Q:AX->St->Prop}
def zh (P:Program)(G:Nat->Option (List AVal))(f:FuncId)(first cap:List AVal)(xs:List (List AVal))(S:AHeap->Prop):Prop :=
 ∀ (idy:Nat) (J:Nat->AHeap->Prop) (Stop:AHeap->Prop) (H:AHeap) (K:ARes->AHeap->Prop),
  (∀ k H1,J k H1->S H1)->J 0 H ->
  (∀ k x H1 K1,xs[k]?=some x->J k H1->H.next<=H1.next->(∀ H',J (k+1) H'->H1.next<=H'.next->K1 (.ret (.lit (.bool true))) H')->(∀ H',Stop H'->H1.next<=H'.next->K1 (.ret (.lit (.bool false))) H')->aA P G (.yld idy) x H1 K1) ->
  (∀ H',J xs.length H'->H.next<=H'.next->K (.ret (.tup [])) H') ->
  (∀ H',Stop H'->H.next<=H'.next->K (.ret (.tup [])) H') ->
  ae P G f (first++[.yld idy]++cap) H K
def gU (idy:Nat)(B:Blk)(lo:Nat)(J:AHeap->Prop)(Stop:AX->AHeap->Prop):AX->St->Prop
 | .normal,s=>s.H.get idy=some B/\lo<=s.H.next/\J s.H
 | .ret,s=>s.H.get idy=some B/\lo<=s.H.next/\Stop .ret s.H
 | .exit i,s=>s.H.get idy=some B/\lo<=s.H.next/\Stop (.exit i) s.H
 | _,_=>False
def mz (P:Program)(G:Nat->Option (List AVal))(n idy:Nat)(B Bb:Blk)(lo:Nat)(body:Code)(J:AHeap->Prop)(Stop:AX->AHeap->Prop):AX->St->Prop
 | .normal,s=>s.H.get idy=some B/\W P G n (some idy) body (gU idy Bb lo J Stop) ⟨s.ρ,s.H.upd idy Bb⟩
 | _,_=>False
theorem W.vh {g:Operand}{ps:Array Tmp}{asg body:Code}{ρ:Env}{H:AHeap}{f:FuncId}{first cap:List AVal}{xs:List (List AVal)}{S:AHeap->Prop}(hg:ak G ρ g=.clo f first cap)
  (hit:zh P G f first cap xs S) (J:Nat->AHeap->Prop) (Stop:AX->AHeap->Prop) (hS:∀ k H1,J k H1->S H1)
  (hJu:∀ k H1 b,J k H1->J k (H1.upd H.next b)) (hSu:∀ c H1 b,Stop c H1->Stop c (H1.upd H.next b))
  (hJ0:∀ b,J 0 (ext H [b])) (hps:ps.toList.all (fun t=>decide (t<n))=true) (hxl:∀ x∈xs,x.length=ps.size)
  (hrd:∀ k H1,J k H1->dR H1 rd) (hrd2:∀ c H1,Stop c H1->dR H1 rd)
  (hround:∀ k x H1 B Bb,xs[k]?=some x->J k H1->H.next+1<=H1.next->H1.get H.next=some B->(∃ st pd n' en ps' as' bo,Bb=Blk.loop st pd n' en ps' as' bo) ->
   W P G n (some H.next) asg (mz P G n H.next B Bb H1.next body (J (k+1)) Stop) ⟨iV (bR ρ n) (ps.toList.zip x),H1⟩)
  (hend:∀ H',J xs.length H'->H.next+1<=H'.next->Q .normal ⟨ρ,H'⟩)
  (hret:∀ H',Stop .ret H'->H.next+1<=H'.next->Q .ret ⟨ρ,H'⟩) (hexit:∀ i H',Stop (.exit i) H'->H.next+1<=H'.next->Q (.exit i) ⟨ρ,H'⟩):
  W P G n rd (.rangeFunc g ps asg body) Q ⟨ρ,H⟩:=by
 refine W.rangeFunc (s:=⟨ρ,H⟩) hg ⟨_,sG _ _,?_⟩;obtain⟨B,hB⟩:∃ B,B=Blk.loop .ready none n ρ ps asg body:=⟨_,rfl⟩
 obtain⟨Bb,hBb⟩:∃ B,B=Blk.loop .busy none n ρ ps asg body:=⟨_,rfl⟩
 have nx:(ext H [B]).next=H.next+1:=rfl;show ae P G f (first++[.yld H.next]++cap) (ext H [Blk.loop .ready none n ρ ps asg body]) (sN rd Q ρ H.next);rw[<- hB];refine hit H.next (fun k H1=>H1.get H.next=some B/\J k H1) (fun H1=>∃ c pend,H1.get H.next=some (.loop .done (some pend) n ρ ps asg body)/\Stop c H1/\((c=.ret/\pend=.ret)\/∃ i,c=.exit i/\pend=.exit i)) _ _
  (fun k H1 h=>hS k H1 h.2) ⟨bY,hJ0 B⟩ (fun k x H1 K1 hx hj hn hgo hst=>?_) (fun H' hj hn=>?_) (fun H' hj hn=>?_)
 ·have hxm:=hxl x (List.mem_of_getElem? hx);refine aA.yld (hj.1.trans (congrArg some hB)) hxm hps ?_;refine(hround k x H1 B Bb hx hj.2 hn hj.1 ⟨_,_,_,_,_,_,_,hBb⟩).mono fun e s1 h1=>?_;cases e with
  | normal =>
   obtain⟨a1,a2⟩:=h1;refine⟨Bb,by rw[a1,hB,hBb];rfl,?_⟩;refine a2.mono fun e2 s2 h2=>?_;cases e2 with
   | normal =>
    obtain⟨b1,b2,b3⟩:=h2;exact⟨B,by rw[b1,hB,hBb];rfl,hgo _ ⟨by rw[af,if_pos rfl],hJu _ _ _ b3⟩ b2⟩
   | ret =>
    obtain⟨b1,b2,b3⟩:=h2;exact⟨.loop .done (some .ret) n ρ ps asg body,by rw[b1,hBb];rfl,hst _ ⟨.ret,.ret,by rw[af,if_pos rfl],hSu _ _ _ b3,.inl ⟨rfl,rfl⟩⟩ b2⟩
   | exit i =>
    obtain⟨b1,b2,b3⟩:=h2;exact⟨.loop .done (some (.exit i)) n ρ ps asg body,by rw[b1,hBb];rfl,hst _ ⟨.exit i,.exit i,by rw[af,if_pos rfl],hSu _ _ _ b3,.inr ⟨i,rfl,rfl⟩⟩ b2⟩
   | _=>exact h2.elim
  | _=>exact h1.elim
 ·refine⟨hrd _ _ hj.2,(none,.loop .exhausted none n ρ ps asg body),by rw[hj.1,hB];rfl,?_⟩;exact hend _ (hJu _ _ _ hj.2) hn
 ·obtain⟨c,pend,h1,h2,h3⟩:=hj;refine⟨hrd2 _ _ h2,(some pend,.loop .exhausted (some pend) n ρ ps asg body),by rw[h1];rfl,?_⟩;rcases h3 with ⟨rfl,rfl⟩|⟨i,rfl,rfl⟩
  ·exact hret _ (hSu _ _ _ h2) hn
  ·exact hexit i _ (hSu _ _ _ h2) hn
end Go.Hx
namespace Go.Proofs
open Go.Hx
def rP (x:NodeP):AVal:=.agg [.lit (.int .i64 x.card),.vec x.parents.length (ints x.parents),ao x.rows]
def mw (rows:List (List Int)):List (List AVal):=rows.zipIdx.map fun p=>[aa p.2,ab p.1]
theorem D2 {rows:List (List Int)}{k:Nat}{x:List AVal}(h:(mw rows)[k]?=some x):∃ r,rows[k]?=some r/\x=[aa k,ab r]:=by
 unfold mw at h;rw[List.getElem?_map,List.getElem?_zipIdx]at h;cases hr:rows[k]? with
 | none=>rw[hr]at h;simp at h
 | some r=>rw[hr]at h;simp at h;exact⟨r,rfl,h.symm⟩
theorem Rk {rows:List (List Int)}{k:Nat}{r:List Int}(h:rows[k]?=some r):(mw rows)[k]?=some [aa k,ab r]:=by
 unfold mw;rw[List.getElem?_map,List.getElem?_zipIdx,h];simp
theorem D3 (rows:List (List Int)):(mw rows).length=rows.length:=by simp [mw]
theorem Rl (x:NodeP)(hl:(x.rows.length:Int)<2 ^ 40)(b:Nat):zh Try.prog G0 115 [] [.ptr b 0 0] (mw x.rows) (fun H=>H.get b=some (.arr 0 83 [.lit (.int .i64 x.card),.vec x.parents.length (ints x.parents),ao x.rows])):=by
 intro idy J Stop H K hS hJ0 hY hK hSt;have l0:=ah (hS 0 H hJ0);show ae _ _ _ ([.yld idy]++[.ptr b 0 0]) _ _;refine ae.aS (n:=19) (rs:=[]) Try.func115 rfl rfl rfl (by decide) (by kernel_rfl) (by simp) ?_;simp only[go_sem,l0,ao];refine W.aK 524056 (by rfl) (fun ρ H'=>∃ k:Nat,ρ 8=aa k/\k<=x.rows.length/\J k H'/\H.next<=H'.next) (fun ρ H=>x.rows.length - (iv (ρ 8)).toNat) ?_ ?_
 ·simp only[go_sem];exact⟨0,rfl,by omega,hJ0⟩
 rintro ρ H' ⟨k,h8,hk,hj,hn⟩;refine ag _ _ _ (by rfl) ?_;by_cases hb:(k:Int)<x.rows.length
 ·obtain⟨r,hr⟩:=ay (l:=x.rows) (i:=k) (by omega);have hne:=aR hr;have w1:=IntWalk.i64_in ((k:Int)+1) (by omega);simp only[go_sem,h8,hb,hr,hne];refine hY k [aa k,ab r] H' _ (Rk hr) hj hn (fun H2 hj2 hn2=>⟨trivial,?_⟩) (fun H2 hs2 hn2=>⟨trivial,?_⟩)
  ·simp only[go_sem,h8,w1];exact⟨by omega,⟨k+1,by simp,by omega,hj2,by omega⟩,by omega⟩
  ·simp only[go_sem];exact aw.mk (by omega) (hSt H2 hs2 (by omega))
 ·simp only[go_sem,h8,hb];have ek:k=(mw x.rows).length:=by rw[D3];omega
  subst ek;exact aw.mk (by omega) (hK H' hj hn)
theorem Rm (x:NodeP)(H:AHeap)(K:ARes->AHeap->Prop)(hK:K (.ret (.clo 115 [] [.ptr H.next 0 0])) (ext H [.arr 0 83 [.lit (.int .i64 x.card),.vec x.parents.length (ints x.parents),ao x.rows]])):
  ae Try.prog G0 110 [rP x] H K:=by
 refine ae.aS (n:=4) (rs:=[.tmp 2]) Try.func110 rfl rfl rfl (by decide) (by kernel_rfl) (by simp) ?_;simp only[go_sem,rP];exact aw.mk (by simp [bn]) hK
theorem yY {l:List Int}{g:Int}(h:∀ w∈l,0<=w):0<=l.sum:=by
 induction l with
 | nil=>simp
 | cons a l ih =>
  have h1:=ih fun w hw=>h w (by simp [hw]);have h2:=h a (by simp);simp only[List.sum_cons];omega
theorem yZ {l:List Int}(h:∀ w∈l,0<=w):∀ w∈l,w<=l.sum:=by
 induction l with
 | nil=>intro w hw;cases hw
 | cons a l ih =>
  intro w hw;have h1:=yY (g:=0) fun w hw=>h w (List.mem_cons_of_mem a hw);have h2:=h a (by simp);simp only[List.sum_cons];rcases List.mem_cons.1 hw with rfl|hw
  ·omega
  ·have:=ih (fun w hw=>h w (by simp [hw])) w hw;omega
noncomputable def ko (g:Int)(ns:List NodeP)(x:NodeP):Bool:=@decide (fE g ns x) (Classical.propDecidable _)
theorem D4 {g:Int}{ns:List NodeP}{x:NodeP}(h:fE g ns x):ko g ns x=true:=by unfold ko;exact @decide_eq_true _ (Classical.propDecidable _) h
theorem Ro {g:Int}{ns:List NodeP}{x:NodeP}(h:¬ fE g ns x):ko g ns x=false:=by unfold ko;exact @decide_eq_false _ (Classical.propDecidable _) h
theorem Rp {g:Int}{ns:List NodeP}{x:NodeP}:ko g ns x=true↔fE g ns x:=by unfold ko;exact @decide_eq_true_iff _ (Classical.propDecidable _)
set_option maxHeartbeats 2000000 in
theorem Rq (g:Int)(hg:1<=g/\g<=60)(ns:List NodeP)(sets:List Nat)(x:NodeP)(hin:fT x.parents ns.length)(hsm:da (aQ ns x))(hx1:(x.rows.length:Int)<2 ^ 38)(hx2:∀ r∈x.rows,(r.length:Int)<2 ^ 38)(H:AHeap)(K:ARes->AHeap->Prop)
  (hK:K (.ret (.lit (.bool (ko g ns x)))) H):ae Try.prog G0 102 [.agg [.lit (.int .i64 g),bO ns,ab (aq ns),fV sets,.lit (.slice none 0 0)],rP x] H K:=by
 refine ae.clo ⟨_,Try.func102,rfl,rfl⟩ fun hcl=>?_;have l12:=hsm.1;have pl:(aQ ns x).length=x.parents.length:=fU _ _;have no:¬ fE g ns x->∀ H',Over H H'->aw Try.prog G0 H K (.lit (.bool false)) H':=fun h H' ov=>aw.bk aF hcl ov (.lit _) (by rw[Ro h]at hK;exact hK);refine ae.aS (n:=66) (rs:=[.cell 4 4]) Try.func102 rfl rfl rfl (by decide) (by kernel_rfl) (by simp) ?_;simp only[go_sem,bO,rP];obtain⟨H1,hH1⟩:∃ H1,H1=ext H [.arr 0 148 [.lit (.int .i64 g),.vec ns.length (aD ns),.vec (aq ns).length (ints (aq ns)),.vec sets.length (sets.map bx),.lit (.slice none 0 0)],.arr 0 83 [.lit (.int .i64 x.card),.vec x.parents.length (ints x.parents),ao x.rows],.arr 0 4 [.lit (.bool false)]]:=⟨_,rfl⟩
 have l1:H1.live H.next 0=some (148,[.lit (.int .i64 g),.vec ns.length (aD ns),.vec (aq ns).length (ints (aq ns)),.vec sets.length (sets.map bx),.lit (.slice none 0 0)]):=by rw[hH1];exact ah (br ..)
 have l2:H1.live (H.next+1) 0=some (83,[.lit (.int .i64 x.card),.vec x.parents.length (ints x.parents),ao x.rows]):=by rw[hH1];exact ah (bu H _ 1 (by simp))
 have g3:H1.get (H.next+2)=some (.arr 0 4 [.lit (.bool false)]):=by rw[hH1];exact bu H _ 2 (by simp)
 have n1:H1.next=H.next+3:=by rw[hH1];rfl
 have o1:Over H H1:=by rw[hH1];exact .ext _ _
 rw[<- hH1];refine W.aK 268370080 (by rfl) (fun ρ H'=>H'=H1/\∃ k:Nat,ρ 16=aa k/\k<=x.parents.length/\ρ 5=aa (au ((aQ ns x).take k))) (fun ρ H=>x.parents.length - (iv (ρ 16)).toNat) ?_ ?_
 ·simp only[go_sem];exact⟨0,rfl,by omega,by simp [fQ]⟩
 rintro ρ H' ⟨rfl,k,h16,hk,h5⟩;refine ag _ _ _ (by rfl) ?_;by_cases hb:(k:Int)<x.parents.length
 ·obtain⟨q,hq⟩:=ay (l:=x.parents) (i:=k) (by omega);obtain⟨j,rfl,y,hy⟩:=kS (l:=ns) (hin q (List.mem_of_getElem? hq)).1 (hin q (List.mem_of_getElem? hq)).2;have hne2:=aR hq;have hyc:=cV hy;have hne3:=aR hyc;have hj:(j:Int)<(aq ns).length:=by have:=aG hyc;omega
  have pk:(aQ ns x)[k]?=some y.card:=by
   rw[show (aQ ns x)[k]?=_ from lg hq,Int.toNat_natCast,bU hyc]
  have b1:=(hsm.take (k+1)).prod;rw[aP pk,eC]at b1;have w1:=IntWalk.i64_in ((k:Int)+1) (by omega);have w2:=IntWalk.i64_in (au ((aQ ns x).take k)*y.card) (by omega);simp only[go_sem,h16,h5,l1,hb,hq,hne2,hj,hyc,hne3,w1,w2];exact⟨⟨k+1,by simp,by omega,by rw[aP pk,eC]⟩,by omega⟩
 rw[List.take_of_length_le (by omega)]at h5;by_cases c1:(x.rows.length:Int)=au (aQ ns x);rotate_left
 ·simp only[go_sem,h16,h5,l2,hb,c1,ao];have l3:=ah g3;simp only[go_sem,l3];exact no (fun h=>c1 h.1) _ (o1.upd (by omega) _)
 simp only[go_sem,h16,h5,l2,hb,c1,ao];refine aA.clo (Rm x _ _ ⟨trivial,?_⟩);simp only[go_sem];obtain⟨H2,hH2⟩:∃ H2,H2=ext H' [.arr 0 83 [.lit (.int .i64 x.card),.vec x.parents.length (ints x.parents),ao x.rows]]:=⟨_,rfl⟩
 rw[<- hH2];have o2:Over H' H2:=by rw[hH2];exact .ext _ _
 have n2:H2.next=H.next+4:=by rw[hH2,bn,n1];rfl
 have hbx:H2.get H'.next=some (.arr 0 83 [.lit (.int .i64 x.card),.vec x.parents.length (ints x.parents),ao x.rows]):=by rw[hH2];exact bY
 refine W.env fun E hE=>?_;have e2:E 2=.ptr H.next 0 0:=by rw[hE];simp only[go_sem]
 have e3:E 3=.ptr (H.next+1) 0 0:=by rw[hE];simp only[go_sem]
 have e4:E 4=.ptr (H.next+2) 0 0:=by rw[hE];simp only[go_sem]
 have i1:H2.live H.next 0=some (148,[.lit (.int .i64 g),.vec ns.length (aD ns),.vec (aq ns).length (ints (aq ns)),.vec sets.length (sets.map bx),.lit (.slice none 0 0)]):=(o2.live (by omega)).trans l1;have i2:H2.live (H.next+1) 0=some (83,[.lit (.int .i64 x.card),.vec x.parents.length (ints x.parents),ao x.rows]):=(o2.live (by omega)).trans l2;have i3:H2.get (H.next+2)=some (.arr 0 4 [.lit (.bool false)]):=(o2.old _ (by omega)).trans g3;refine W.vh (f:=115) (first:=[]) (cap:=[.ptr H'.next 0 0]) (by show E 34=_;rw[hE];rfl) (Rl x (by omega) H'.next)
  (fun k Hx=>Over H2 Hx/\∀ r∈x.rows.take k,jd g x.card r) (fun c Hx=>c=.ret/\Over H Hx/\H.next+4<=Hx.next/\Hx.get (H.next+2)=some (.arr 0 4 [.lit (.bool false)])/\¬ fE g ns x)
  (fun k Hx h=>by rw[h.1.old _ (by omega)];exact hbx) (fun k Hx b h=>⟨h.1.upd (Nat.le_refl _) b,h.2⟩) (fun c Hx b h=>⟨h.1,h.2.1.upd (by omega) b,h.2.2.1,by rw[af,if_neg (by omega)];exact h.2.2.2.1,h.2.2.2.2⟩)
  (fun b=>⟨.ext _ _,by simp⟩) (by decide) (fun y hy=>by
   obtain⟨k,hk⟩:=List.mem_iff_getElem?.1 hy;obtain⟨r,_,rfl⟩:=D2 hk;rfl) (fun _ _ _=>trivial) (fun _ _ _=>trivial) (fun k y Hx B Bb hy hj hn hB hBb=>?_) (fun Hx hj hn=>?_) (fun Hx hs hn=>?_) (fun i Hx hs hn=>by cases hs.1)
 ·obtain⟨r,hr,rfl⟩:=D2 hy;refine ag _ _ _ (by rfl) ?_;simp only[go_sem,iV,bR,mz,List.foldl_cons,List.foldl_nil,List.zip_cons_cons,List.zip_nil_right,hB];obtain⟨H3,hH3⟩:∃ H3,H3=Hx.upd H2.next Bb:=⟨_,rfl⟩
  rw[<- hH3];obtain⟨st,pd,n',en,ps',as',bo,hBe⟩:=hBb;have o3:Over H2 H3:=by rw[hH3];exact hj.1.upd (Nat.le_refl _) Bb
  have o4:Over H H3:=(o1.trans o2).trans o3;have n3:H3.next=Hx.next:=by rw[hH3];rfl
  have j1:=(o3.live (g:=0) (by omega:H.next<H2.next)).trans i1;have j2:=(o3.live (g:=0) (by omega:H.next+1<H2.next)).trans i2;have j3:=(o3.old _ (by omega:H.next+2<H2.next)).trans i3;have j4:=ah j3;have jB:H3.get H2.next=some Bb:=by rw[hH3,af,if_pos rfl]
  have nB:¬ H2.next=H.next+2:=by omega
  have hrm:=List.mem_of_getElem? hr;have hrl:=hx2 r hrm;have nope:¬ jd g x.card r->¬ fE g ns x:=fun h h'=>h (h'.2 r hrm);have stop:¬ jd g x.card r->(H3.upd (H.next+2) (Blk.arr 0 4 [.lit (.bool false)])).get H2.next=some Bb/\Hx.next<=(H3.upd (H.next+2) (Blk.arr 0 4 [.lit (.bool false)])).next/\Over H (H3.upd (H.next+2) (Blk.arr 0 4 [.lit (.bool false)])) /\
    H.next+4<=(H3.upd (H.next+2) (Blk.arr 0 4 [.lit (.bool false)])).next/\(H3.upd (H.next+2) (Blk.arr 0 4 [.lit (.bool false)])).get (H.next+2)=some (.arr 0 4 [.lit (.bool false)])/\¬ fE g ns x:=fun h =>
   ⟨by rw[af,if_neg nB];exact jB,by rw[aC];omega,o4.upd (by omega) _,by rw[aC];omega,by rw[af,if_pos rfl],nope h⟩
  refine ag _ _ _ (by rfl) ?_;simp only[go_sem,bR,e2,j1];refine W.aK 144110790029349888 (by rfl) (fun ρ2 H4=>H4=H3/\∃ i:Nat,ρ2 42=aa i/\i<=r.length/\(∀ w∈r.take i,0<=w)/\(r.take i).sum<=g/\ρ2 10=aa (g - (r.take i).sum)) (fun ρ2 H=>r.length - (iv (ρ2 42)).toNat) ?_ ?_
  ·simp only[go_sem];exact⟨0,rfl,by omega,by simp,by simp;omega,by simp⟩
  rintro ρ2 H4 ⟨rfl,i,h42,hi,hw0,hws,h10⟩;refine ag _ _ _ (by rfl) ?_;have s0:=yY (g:=g) hw0;by_cases hb2:(i:Int)<r.length
  ·obtain⟨a,ha⟩:=ay (l:=r) (i:=i) (by omega);have ham:=List.mem_of_getElem? ha;have hane:=aR ha;by_cases d1:a<0
   ·simp only[go_sem,h42,hb2,ha,hane,d1,bR,e4,j4,gU];exact stop fun h=>by have:=h.2.1 a ham;omega
   by_cases d2:a > g - (r.take i).sum
   ·simp only[go_sem,h42,h10,hb2,ha,hane,d1,d2,bR,e4,j4,gU];refine stop fun h=>?_;have h1:r.sum=(r.take (i+1)).sum+(r.drop (i+1)).sum:=(by rw[<- List.sum_append,List.take_append_drop]);rw[aP ha,vb]at h1;have h2:=yY (g:=g) (l:=r.drop (i+1)) fun w hw=>(h.2.1 w (List.mem_of_mem_drop hw)).1;have:=h.2.2;omega
   have w1:=IntWalk.i64_in ((i:Int)+1) (by omega);have w2:=IntWalk.i64_in (g - (r.take i).sum - a) (by omega);simp only[go_sem,h42,h10,hb2,ha,hane,d1,d2,w1,w2,bR];refine⟨⟨_,_,_,_,_,_,_,by rw[jB,hBe]⟩,⟨i+1,by simp,by omega,fun w hw=>?_,by rw[aP ha,vb];omega,?_⟩,by omega⟩
   ·rw[aP ha]at hw;rcases List.mem_append.1 hw with hw|hw
    ·exact hw0 w hw
    ·obtain rfl:=List.mem_singleton.1 hw;omega
   ·rw[aP ha,vb];show aa _=aa _;congr 1;omega
  ·rw[List.take_of_length_le (by omega)]at hw0 hws h10 s0;by_cases d1:(r.length:Int)=x.card;rotate_left
   ·simp only[go_sem,h42,hb2,d1,bR,e3,e4,j2,j4,gU];exact stop fun h=>d1 h.1
   have hb2':¬ (i:Int)<x.card:=(by omega);by_cases d2:g - r.sum=0;rotate_left
   ·simp only[go_sem,h42,h10,hb2',d1,d2,bR,e3,e4,j2,j4,gU];exact stop fun h=>by have:=h.2.2;omega
   simp only[go_sem,h42,h10,hb2',d1,d2,bR,e3,j2,gU];refine⟨jB,by omega,o3,fun y hy=>?_⟩;rw[aP hr]at hy;rcases List.mem_append.1 hy with hy|hy
   ·exact hj.2 y hy
   ·obtain rfl:=List.mem_singleton.1 hy;exact⟨d1,fun w hw=>⟨hw0 w hw,by have:=yZ hw0 w hw;omega⟩,by omega⟩
 ·have hok:fE g ns x:=⟨c1,by
   have:=hj.2;rw[D3,List.take_length]at this;exact this⟩
  have j4:=ah ((hj.1.old _ (by omega:H.next+2<H2.next)).trans i3);rw[D4 hok]at hK;simp only[go_sem,e4,j4];exact aw.bk aF hcl (((o1.trans o2).trans hj.1).upd (by omega) _) (.lit _) hK
 ·obtain⟨_,o4,n4,g4,hno⟩:=hs;have j4:=ah g4;simp only[go_sem,e4,j4];exact no hno _ o4
end Go.Proofs
namespace Go.Hx
theorem aB.nD {lo:Nat}{H:AHeap}{e:TypeId}{v:AVal}{l:List Int}(h:aB lo H e v (ints l)):Fresh H v (ab l):=by
 rcases h with ⟨rfl,h⟩|⟨id,g,h1,h2,rfl,h4⟩
 ·have:l=[]:=by cases l with
   | nil=>rfl
   | cons a l=>simp [ints]at h
  subst this;exact .nil
 ·have e:ab l=.vec (ints l).length (ints l):=by rw[aT];rfl
  rw[e];refine .own h4 (by simp) fun j hj h2 h'=>?_;simp only[Nat.zero_add,ints,List.getElem_map];exact .lit _
theorem Fz.pE {H:AHeap}{id g n nx:Nat}{e:TypeId}{cs:List AVal}(hg:H.get id=some (.arr g e cs))(hn:n=cs.length)(hl:∀ c∈cs,∃ v,c=.lit v):Fz (fun _=>True) H nx (.own id g 0 n 1) (.vec n cs):=by
 refine .frz trivial hg (by omega) fun j hj h2 h'=>?_;simp only[Nat.zero_add];obtain⟨v,hv⟩:=hl _ (List.getElem_mem h');rw[hv];exact .lit _
end Go.Hx
namespace Go.Proofs
open Go.Hx
def bf (l:List Nat):List Int:=l.map fun (v:Nat)=>(v:Int)
theorem D5 {n j:Nat}{p:Nat->Bool}(hj:j<n)(h1:∀ v,v<j->p v=false)(h2:p j=true):(List.range n).find? p=some j:=by
 rw[List.find?_eq_some_iff_getElem];refine⟨h2,j,by simpa using hj,by simp,fun k hk=>?_⟩;simp only[List.getElem_range];simp [h1 k hk]
theorem D6 {n:Nat}{p:Nat->Bool}(h1:∀ v,v<n->p v=false):(List.range n).find? p=none:=by
 rw[List.find?_eq_none];intro x hx;simp [h1 x (List.mem_range.1 hx)]
set_option maxHeartbeats 1000000 in
theorem Rr (ps:List Nat)(hl:ps.length<=60)(hp:∀ p∈ps,p<2 ^ 64)(H:AHeap)(K:ARes->AHeap->Prop)
  (hK:∀ v H',Over H H'->(match eD ps with|some o=>aB H.next H' 3 v (ints (bf o))|none=>v=.lit (.slice none 0 0))->K (.ret (.tup [v,.lit (.bool (eD ps).isSome)])) H'):ae Try.prog G0 103 [fV ps] H K:=by
 have no:∀ H',eD ps=none->Over H H'->aw Try.prog G0 H K (.tup [.lit (.slice none 0 0),.lit (.bool false)]) H':=fun H' h ov=>aw.mk ov.next (by
  have:=hK (.lit (.slice none 0 0)) H' ov;rw[h]at this;exact this rfl)
 refine ae.aS (n:=44) (rs:=[.tmp 2,.tmp 3]) Try.func103 rfl rfl rfl (by decide) (by kernel_rfl) (by simp) ?_;simp only[go_sem];refine⟨by omega,?_⟩;refine W.aK 8796093020412 (by rfl) (fun ρ H'=>∃ (out:List Nat) (done:Nat),ρ 5=bx done/\done<2 ^ 64/\out.length<=ps.length/\H.next+1<=H'.next/\Over H H'/\aB H.next H' 3 (ρ 4) (ints (bf out))/\(∃ id g,ρ 4=.own id g 0 out.length 1)/\gC ps (ps.length - out.length) out done=eD ps)
  (fun ρ H=>ps.length - (match ρ 4 with|.own _ _ _ n _=>n|_=>0)) ?_ ?_
 ·simp only[go_sem];exact⟨[],0,by simp,by decide,Nat.zero_le _,.ext _ _,.inr ⟨H.next,0,Nat.le_refl _,by simp [bn],rfl,br H _ []⟩,⟨_,_,rfl⟩,rfl⟩
 rintro ρ H' ⟨out,done,h5,hd,ho,hn0,ov,h4,⟨id,gn,h4e⟩,ht⟩;refine ag _ _ _ (by rfl) ?_;have lv:H'.live id gn=some (3,ints (bf out)):=by
  rcases h4 with ⟨h,_⟩|⟨i,g,h1,h2,h3,h4⟩
  ·rw[h4e]at h;cases h
  ·rw[h4e]at h3;have:=AVal.own.inj h3;obtain⟨rfl,rfl,_⟩:=this;exact ah h4
 by_cases hb:(out.length:Int)<ps.length
 ·simp only[go_sem,h4e,lv,hb];have hk1:ps.length - out.length=(ps.length - (out.length+1))+1:=by omega
  refine W.aK 8796092760304 (by rfl) (fun ρ2 H2=>H2=H'/\∃ j:Nat,ρ2 18=aa j/\j<=ps.length/\ρ2 4=.own id gn 0 out.length 1/\ρ2 5=bx done/\∀ v,v<j->iK ps done v=false) (fun ρ2 H=>ps.length - (iv (ρ2 18)).toNat) ?_ ?_
  ·simp only[go_sem,h4e,h5];exact⟨0,rfl,by omega,fun v h=>absurd h (Nat.not_lt_zero _)⟩
  rintro ρ2 H2 ⟨rfl,j,h18,hj,h4',h5',hno⟩;refine ag _ _ _ (by rfl) ?_;by_cases hb2:(j:Int)<ps.length
  ·obtain⟨p,hpj⟩:=ay (l:=ps) (i:=j) (by omega);have hp1:=hp p (List.mem_of_getElem? hpj);have hne:=aR hpj;have s1:=fun t x y=>pG (P:=Try.prog) (t:=t) (x:=x) (y:=y) (k':=.i64) (s:=j) hd;have s2:=fun t x y=>vf (P:=Try.prog) (t:=t) (x:=x) (y:=y) (s:=j) hd;have s3:=fun t x y=>zd (P:=Try.prog) (t:=t) (x:=x) (y:=y) (a:=p) (b:=done);have w1:=IntWalk.i64_in ((j:Int)+1) (by omega);have cont:iK ps done j=false->∀ v,v<j+1->iK ps done v=false:=fun h v hv=>by
    rcases Nat.lt_or_ge v j with h'|h'
    ·exact hno v h'
    ·obtain rfl:v=j:=(by omega);exact h
   have fe:iK ps done j=(!done.testBit j && decide (gF p done=0)):=(by unfold iK;rw[bU hpj]);cases hbit:done.testBit j;rotate_left
   ·simp only[go_sem,h18,h4',h5',hb2,hpj,hne,s1,s2,hbit,w1];exact⟨⟨j+1,by simp,by omega,cont (by rw[fe,hbit];rfl)⟩,by omega⟩
   by_cases hz:gF p done=0;rotate_left
   ·have hz':¬ ((gF p done:Nat):Int)=0:=(by omega);simp only[go_sem,h18,h4',h5',hb2,hpj,hne,s1,s2,s3,hbit,hz',w1];exact⟨⟨j+1,by simp,by omega,cont (by rw[fe,hbit];simp [hz])⟩,by omega⟩
   have hz':((gF p done:Nat):Int)=0:=(by omega);have hnx:jz ps done=some j:=D5 (by omega) hno (by rw[fe,hbit];simp [hz]);obtain⟨v',H3,hA,ov2,hO,hn2,_⟩:=iM (j:Int) ov h4 (by simp [bf];omega);rw[h4e]at hA;have b2:(2:Nat) ^ j<2 ^ 64:=Nat.pow_lt_pow_right (by decide) (by omega);have s4:=fun t x y=>nG (P:=Try.prog) (t:=t) (x:=x) (y:=y) (k':=.i64) (s:=j) (by omega);have s5:=fun t x y=>kq (P:=Try.prog) (t:=t) (x:=x) (y:=y) hd b2;simp only[go_sem,h18,h4',h5',hb2,hpj,hne,s1,s2,s3,s4,s5,hbit,hz',hA];have hO':aB H.next H3 3 v' (ints (bf (out++[j]))):=by
    have e:bf (out++[j])=bf out++[(j:Int)]:=(by simp [bf]);rw[e];exact hO
   have hv':∃ id g,v'=.own id g 0 (out.length+1) 1:=by
    rcases hO' with ⟨_,h⟩|⟨i,g,_,_,h3,_⟩
    ·simp [ints,bf]at h
    ·exact⟨i,g,by rw[h3,aT];simp [bf]⟩
   obtain⟨i2,g2,rfl⟩:=hv';refine⟨by omega,⟨out++[j],done ||| 2 ^ j,rfl,Nat.or_lt_two_pow hd b2,by simp;omega,by omega,ov2,hO',⟨i2,g2,by simp⟩,?_⟩,by simp only;omega⟩;rw[<- ht,hk1]
   conv=>rhs;unfold gC
   rw[hnx];simp
  ·simp only[go_sem,h18,hb2];refine no _ ?_ ov;rw[<- ht,hk1];unfold gC;have:jz ps done=none:=D6 fun v hv=>hno v (by omega);rw[this]
 ·simp only[go_sem,h4e,lv,hb];have hz:ps.length - out.length=0:=by omega
  rw[hz]at ht;have ht':eD ps=some out:=ht.symm;have:=hK (.own id gn 0 out.length 1) H' ov;rw[ht']at this;refine aw.mk ov.next (this ?_);rw[h4e]at h4;exact h4
theorem Rs (ps:List Nat)(hl:ps.length<=60)(hp:∀ p∈ps,p<2 ^ 64)(H:AHeap)(v:AVal)(hv:Fz (fun _=>True) H 0 v (fV ps))(K:ARes->AHeap->Prop)
  (hK:K (.ret (.tup [ab (bf ((eD ps).getD [])),.lit (.bool (eD ps).isSome)])) H):ae Try.prog G0 103 [v] H K:=by
 refine(ae.frame (H:=H) (args:=[v]) (args':=[fV ps]) (v':=.tup [ab (bf ((eD ps).getD [])),.lit (.bool (eD ps).isSome)]) aF rfl (fun i hi _=>match i,hi with|0,_=>hv) (Rr ps hl hp bX _ fun u H' ov hu=>⟨_,rfl,?_⟩)).mono ?_
 ·refine .tup rfl fun i hi _=>?_
  match i,hi with
  | 0,_ =>
   show Fresh H' u _;cases ht:eD ps with
   | none=>rw[ht]at hu;simp only at hu;rw[hu];show Fresh H' _ (ab []);exact .nil
   | some o=>rw[ht]at hu;exact aB.nD hu
  | 1,_=>exact .lit _
 ·rintro r H' ⟨rfl,rfl⟩;exact hK
end Go.Proofs
namespace Go.Proofs
open Go.Hx
def y7:AVal:=.agg [.lit (.int .i64 0),ab [],ab [],ab [],ab []]
def y8 (g:Int)(ns:List NodeP):AVal:=.agg [.lit (.int .i64 g),bO ns,ab (aq ns),fV (aZ ns),ab (bf ((eD (aZ ns)).getD []))]
structure RdS (g:Int)(ns:List NodeP)(H H':AHeap)(c:List Int)(s:List Nat):Prop where
 nx:H.next+5<=H'.next
 ov:Over H H'
 b0:H'.get H.next=some (.arr 0 64 [.lit (.int .i64 g),.vec ns.length (aD ns)])
 b1:H'.get (H.next+1)=some (.arr 0 148 [.lit (.int .i64 0),.lit (.slice none 0 0),.lit (.slice none 0 0),.lit (.slice none 0 0),.lit (.slice none 0 0)])
 b2:H'.get (H.next+2)=some (.arr 0 3 (ints c))
 b3:H'.get (H.next+3)=some (.arr 0 36 (s.map bx))
 b4:H'.get (H.next+4)=some (.arr 0 148 [.lit (.int .i64 g),.vec ns.length (aD ns),.own (H.next+2) 0 0 ns.length 1,.own (H.next+3) 0 0 ns.length 1,.lit (.slice none 0 0)])
 cl:c.length=ns.length
 sl:s.length=ns.length
theorem RdS.over {g:Int}{ns:List NodeP}{H H' H2:AHeap}{c:List Int}{s:List Nat}(h:RdS g ns H H' c s)(o:Over H' H2):RdS g ns H H2 c s where
 nx:=Nat.le_trans h.nx o.next
 ov:=h.ov.trans o
 b0:=(o.old _ (by have:=h.nx;omega)).trans h.b0
 b1:=(o.old _ (by have:=h.nx;omega)).trans h.b1
 b2:=(o.old _ (by have:=h.nx;omega)).trans h.b2
 b3:=(o.old _ (by have:=h.nx;omega)).trans h.b3
 b4:=(o.old _ (by have:=h.nx;omega)).trans h.b4
 cl:=h.cl
 sl:=h.sl
theorem RdS.Rt {g:Int}{ns:List NodeP}{H H':AHeap}{c:List Int}{s:List Nat}(h:RdS g ns H H' c s){k:Nat}(hk:k<c.length)(x:Int):RdS g ns H (H'.upd (H.next+2) (.arr 0 3 (setAt (ints c) k [.lit (.int .i64 x)]))) (c.set k x) s where
 nx:=h.nx
 ov:=h.ov.upd (by omega) _
 b0:=by rw[af,if_neg (by omega)];exact h.b0
 b1:=by rw[af,if_neg (by omega)];exact h.b1
 b2:=by rw[af,if_pos rfl,fS hk]
 b3:=by rw[af,if_neg (by omega)];exact h.b3
 b4:=by rw[af,if_neg (by omega)];exact h.b4
 cl:=by simpa using h.cl
 sl:=h.sl
theorem Ru {l:List Nat}{i:Nat}{x:Nat}(h:i<l.length):setAt (l.map bx) i [.lit (.int .u64 (x:Int))]=(l.set i x).map bx:=by
 rw[dW (by simpa using h)];simp [bx]
theorem RdS.Rv {g:Int}{ns:List NodeP}{H H':AHeap}{c:List Int}{s:List Nat}(h:RdS g ns H H' c s){k:Nat}(hk:k<s.length)(x:Nat):RdS g ns H (H'.upd (H.next+3) (.arr 0 36 (setAt (s.map bx) k [.lit (.int .u64 (x:Int))]))) c (s.set k x) where
 nx:=h.nx
 ov:=h.ov.upd (by omega) _
 b0:=by rw[af,if_neg (by omega)];exact h.b0
 b1:=by rw[af,if_neg (by omega)];exact h.b1
 b2:=by rw[af,if_neg (by omega)];exact h.b2
 b3:=by rw[af,if_pos rfl,Ru hk]
 b4:=by rw[af,if_neg (by omega)];exact h.b4
 cl:=h.cl
 sl:=by simpa using h.sl
theorem RdS.l0 {g:Int}{ns:List NodeP}{H H':AHeap}{c:List Int}{s:List Nat}(h:RdS g ns H H' c s):H'.live H.next 0=some (64,[.lit (.int .i64 g),.vec ns.length (aD ns)]):=ah h.b0
theorem RdS.l1 {g:Int}{ns:List NodeP}{H H':AHeap}{c:List Int}{s:List Nat}(h:RdS g ns H H' c s):H'.live (H.next+1) 0=some (148,[.lit (.int .i64 0),.lit (.slice none 0 0),.lit (.slice none 0 0),.lit (.slice none 0 0),.lit (.slice none 0 0)]):=ah h.b1
theorem RdS.l2 {g:Int}{ns:List NodeP}{H H':AHeap}{c:List Int}{s:List Nat}(h:RdS g ns H H' c s):H'.live (H.next+2) 0=some (3,ints c):=ah h.b2
theorem RdS.l3 {g:Int}{ns:List NodeP}{H H':AHeap}{c:List Int}{s:List Nat}(h:RdS g ns H H' c s):H'.live (H.next+3) 0=some (36,s.map bx):=ah h.b3
theorem RdS.l4 {g:Int}{ns:List NodeP}{H H':AHeap}{c:List Int}{s:List Nat}(h:RdS g ns H H' c s):H'.live (H.next+4) 0=some (148,[.lit (.int .i64 g),.vec ns.length (aD ns),.own (H.next+2) 0 0 ns.length 1,.own (H.next+3) 0 0 ns.length 1,.lit (.slice none 0 0)]):=ah h.b4
theorem nE {S:Nat->Prop}{H:AHeap}{nx:Nat}(ns:List NodeP):Fz S H nx (.vec ns.length (aD ns)) (.vec ns.length (aD ns)):=by
 refine .vec rfl fun i hi _=>?_;have:∀ (l:List NodeP) (c:AVal),c∈aD l->Fz S H nx c c:=by
  intro l c hc;unfold aD at hc;obtain⟨r,hr,hc⟩:=List.mem_flatten.1 hc;obtain⟨x,_,rfl⟩:=List.mem_map.1 hr;unfold NodeP.cells at hc;simp only[List.mem_cons,List.not_mem_nil,or_false]at hc;rcases hc with rfl|rfl|rfl
  ·exact .lit _
  ·exact .cB _
  ·exact .ao _
 exact this ns _ (List.getElem_mem _)
theorem Rw (g:Int)(hg:1<=g/\g<=60)(ns:List NodeP)(sets:List Nat)(x:NodeP)(hin:fT x.parents ns.length)(hsm:da (aQ ns x))(hx1:(x.rows.length:Int)<2 ^ 38)(hx2:∀ r∈x.rows,(r.length:Int)<2 ^ 38)(H:AHeap)(ci si:Nat)
  (h2:H.get ci=some (.arr 0 3 (ints (aq ns)))) (h3:H.get si=some (.arr 0 36 (sets.map bx))) (hs:sets.length=ns.length) (K:ARes->AHeap->Prop)
  (hK:K (.ret (.lit (.bool (ko g ns x)))) H):ae Try.prog G0 102 [.agg [.lit (.int .i64 g),.vec ns.length (aD ns),.own ci 0 0 ns.length 1,.own si 0 0 ns.length 1,.lit (.slice none 0 0)],.agg [.lit (.int .i64 x.card),.vec x.parents.length (ints x.parents),ao x.rows]] H K:=by
 refine(ae.frame (H:=H) (args:=[.agg [.lit (.int .i64 g),.vec ns.length (aD ns),.own ci 0 0 ns.length 1,.own si 0 0 ns.length 1,.lit (.slice none 0 0)],.agg [.lit (.int .i64 x.card),.vec x.parents.length (ints x.parents),ao x.rows]]) (args':=[.agg [.lit (.int .i64 g),bO ns,ab (aq ns),fV sets,.lit (.slice none 0 0)],rP x]) (v':=.lit (.bool (ko g ns x))) aF rfl (fun i hi _=>?_) (Rq g hg ns sets x hin hsm hx1 hx2 bX _ ⟨_,rfl,.lit _⟩)).mono ?_
 ·match i,hi with
  | 0,_ =>
   refine .agg rfl fun i hi _=>?_
   match i,hi with
   | 0,_=>exact .lit _
   | 1,_=>exact nE _
   | 2,_ =>
    have:=Fz.pE (nx:=0) h2 (n:=ns.length) (by rw[aT,cP]) (fun c hc=>by
     obtain⟨z,_,rfl⟩:=List.mem_map.1 hc;exact⟨_,rfl⟩)
    show Fz _ _ _ _ (.vec (aq ns).length (ints (aq ns)));rw[cP];exact this
   | 3,_ =>
    have:=Fz.pE (nx:=0) h3 (n:=ns.length) (by simp [hs]) (fun c hc=>by
     obtain⟨z,_,rfl⟩:=List.mem_map.1 hc;exact⟨_,rfl⟩)
    show Fz _ _ _ _ (.vec sets.length (sets.map bx));rw[hs];exact this
   | 4,_=>exact .lit _
  | 1,_ =>
   refine .agg rfl fun i hi _=>?_
   match i,hi with
   | 0,_=>exact .lit _
   | 1,_=>exact .cB _
   | 2,_=>exact .ao _
 ·rintro r H' ⟨rfl,rfl⟩;exact hK
theorem Rx {ns:List NodeP}{k:Nat}{x:NodeP}(hx:ns[k]?=some x)(h0:∀ q∈x.parents,0<=q)(hm:(k:Int)∈x.parents):¬ kU (aZ ns):=fun h=>by
 have hk:=aG (lh hx);have:=h k hk;rw[bU (lh hx)]at this;have h1:=yk (aZ ns) (aZ ns).length (cC x.parents) k (by rw[me h0];exact decide_eq_true hm);unfold gz at this;rw[h1]at this;cases this
set_option maxHeartbeats 4000000 in
theorem Ry (g:Int)(ns:List NodeP)(hf:mu ns)(H:AHeap)(K:ARes->AHeap->Prop)(hK:K (.ret (if mr g ns then .tup [y8 g ns,aa 0] else .tup [y7,aa 50])) H):ae Try.prog G0 87 [bj g ns] H K:=by
 refine ae.clo ⟨_,Try.func87,rfl,rfl⟩ fun hcl=>?_;have no:¬ NetOk g ns->∀ H',Over H H'->aw Try.prog G0 H K (.tup [.agg [.lit (.int .i64 0),.lit (.slice none 0 0),.lit (.slice none 0 0),.lit (.slice none 0 0),.lit (.slice none 0 0)],.lit (.int .i64 50)]) H':=fun h H' ov=>by
  rw[u9 h]at hK;refine aw.bk (v':=.tup [y7,aa 50]) aF hcl ov (.tup rfl fun i hi _=>?_) hK
  match i,hi with
  | 0,_ =>
   refine .agg rfl fun i hi _=>?_
   match i,hi with
   | 0,_=>exact .lit _
   | 1,_=>exact .nil
   | 2,_=>exact .nil
   | 3,_=>exact .nil
   | 4,_=>exact .nil
  | 1,_=>exact .lit _
 refine ae.aS (n:=140) (rs:=[.cell 2 148,.tmp 3]) Try.func87 rfl rfl rfl (by decide) (by kernel_rfl) (by simp) ?_;simp only[go_sem,bj,bO];have l1:=ah (br H (.arr 0 64 [.lit (.int .i64 g),.vec ns.length (aD ns)]) [.arr 0 148 [.lit (.int .i64 0),.lit (.slice none 0 0),.lit (.slice none 0 0),.lit (.slice none 0 0),.lit (.slice none 0 0)]]);by_cases c1:g<1
 ·simp only[go_sem,c1];exact no (fun h=>by have:=h.g1;omega) _ (.ext _ _)
 by_cases c2:g > 60
 ·simp only[go_sem,l1,c1,c2];exact no (fun h=>by have:=h.g1;omega) _ (.ext _ _)
 by_cases c3:(ns.length:Int)<1
 ·simp only[go_sem,l1,c1,c2,c3];exact no (fun h=>by have:=h.n1;omega) _ (.ext _ _)
 by_cases c4:(ns.length:Int) > 8
 ·simp only[go_sem,l1,c1,c2,c3,c4];exact no (fun h=>by have:=h.n1;omega) _ (.ext _ _)
 simp only[go_sem,l1,c1,c2,c3,c4];refine W.draw 11 [0,0,2,6,14,0,32,96,224,511,0] Try.mixed (by kernel_rfl) (by kernel_rfl) ?_;simp only[go_sem,l1]
 repeat (refine And.intro (by first|omega|(simp;done)|(simp;omega)|(intros;omega)|exact⟨rfl,by omega,by omega,gZ _⟩) ?_)
 obtain⟨Hb,hHb⟩:∃ Hb,Hb=ext (ext H [.arr 0 64 [.lit (.int .i64 g),.vec ns.length (aD ns)],.arr 0 148 [.lit (.int .i64 0),.lit (.slice none 0 0),.lit (.slice none 0 0),.lit (.slice none 0 0),.lit (.slice none 0 0)],.arr 0 3 (List.replicate ns.length (.lit (.int .i64 0))),.arr 0 36 (List.replicate ns.length (.lit (.int .u64 0)))]) [.arr 0 148 [.lit (.int .i64 g),.vec ns.length (aD ns),.own (H.next+2) 0 0 ns.length 1,.own (H.next+3) 0 0 ns.length 1,.lit (.slice none 0 0)]]:=⟨_,rfl⟩
 rw[<- hHb];have R0:RdS g ns H Hb (List.replicate ns.length 0) (List.replicate ns.length 0):=by
  rw[hHb,fa];exact⟨by simp [bn],.ext _ _,br ..,bu H _ 1 (by simp),by rw[bu H _ 2 (by simp)];simp [ints,aa],by rw[bu H _ 3 (by simp)];simp [bx],bu H _ 4 (by simp),by simp,by simp⟩
 have hcard:∀ {k:Nat},(∀ x∈ns.take k,1<=x.card/\x.card<=4)->da ((aq ns).take k):=fun {k} h=>lj (by simp [aq];omega) fun c hc=>by
  rw[show (aq ns).take k=aq (ns.take k) by simp [aq]]at hc;obtain⟨y,hy,rfl⟩:=List.mem_map.1 hc;exact h y hy
 refine W.aK 37778930737057254867176 (by rfl) (fun ρ H'=>∃ (k:Nat) (c:List Int),ρ 50=aa k/\k<=ns.length/\ρ 5=aa (au ((aq ns).take k))/\RdS g ns H H' c (List.replicate ns.length 0)/\Hb.next<=H'.next/\c.take k=(aq ns).take k/\∀ x∈ns.take k,1<=x.card/\x.card<=4) (fun ρ H=>ns.length - (iv (ρ 50)).toNat) ?_ ?_
 ·simp only[go_sem];exact⟨0,_,rfl,by omega,by simp [fQ],R0,by simp⟩
 rintro ρ H' ⟨k,c,h50,hk,h5,R,hn,hc,hall⟩;refine ag _ _ _ (by rfl) ?_;have q0:=R.l0;have q1:=R.l1;have q2:=R.l2;have q4:=R.l4;have rn:=R.nx;by_cases hb:(k:Int)<ns.length
 ·obtain⟨x,hx⟩:=ay (l:=ns) (i:=k) (by omega);have hxm:=List.mem_of_getElem? hx;have hne:=dH hx;have e0:=kR hx;have e1:k*3+3<=(aD ns).length:=by rw[gv];omega
  have R2:=R.over (.ext H' [.arr 0 83 [.lit (.int .i64 x.card),.vec x.parents.length (ints x.parents),ao x.rows]]);have p1:=R2.l1;have p2:=R2.l2;have p4:=R2.l4;have nb1:¬ H.next+1=H'.next:=by omega
  have nb2:¬ H.next+2=H'.next:=by omega
  have nb4:¬ H.next+4=H'.next:=by omega
  by_cases d1:x.card<1
  ·simp only[go_sem,h50,p1,hb,hne,e0,e1,d1];exact no (fun h=>by have:=(h.node x hxm).1;omega) _ (R2.ov.upd (by omega) _)
  by_cases d2:x.card > 4
  ·simp only[go_sem,h50,p1,hb,hne,e0,e1,d1,d2];exact no (fun h=>by have:=(h.node x hxm).1;omega) _ (R2.ov.upd (by omega) _)
  have hall':∀ y∈ns.take (k+1),1<=y.card/\y.card<=4:=fun y hy=>by
   rw[aP hx]at hy;rcases List.mem_append.1 hy with hy|hy
   ·exact hall y hy
   ·obtain rfl:=List.mem_singleton.1 hy;exact⟨by omega,by omega⟩
  have b2:=(hcard hall').prod;rw[aP (cV hx),eC]at b2;have w1:=IntWalk.i64_in ((k:Int)+1) (by omega);have w2:=IntWalk.i64_in (au ((aq ns).take k)*x.card) (by omega);have hkc:k<c.length:=by rw[R.cl];omega
  have p0:∀ b,((ext H' [.arr 0 83 [.lit (.int .i64 x.card),.vec x.parents.length (ints x.parents),ao x.rows]]).upd (H.next+2) b).live H'.next 0=some (83,[.lit (.int .i64 x.card),.vec x.parents.length (ints x.parents),ao x.rows]):=fun b=>by
   rw[my (by omega)];exact ah bY
  simp only[go_sem,h50,h5,p2,p4,p0,hb,hne,e0,e1,d1,d2,w1,w2];exact⟨by omega,by rw[aC,bn];omega,⟨k+1,_,by simp,by omega,by rw[aP (cV hx),eC],R2.Rt hkc x.card,by rw[aC,bn];omega,Ea hc hkc (cV hx),fun y hy=>hall' y hy⟩,by omega⟩
 have ek:k=ns.length:=by omega
 subst ek;rw[List.take_of_length_le (Nat.le_refl _)]at hall;rw[List.take_of_length_le (by rw[cP];omega)]at h5;have ec:c=aq ns:=by
  rw[List.take_of_length_le (by rw[R.cl];omega),List.take_of_length_le (by rw[cP];omega)]at hc;exact hc
 subst ec;by_cases c5:au (aq ns) > 1024
 ·simp only[go_sem,h50,h5,q1,hb,c5];exact no (fun h=>by have:=h.size;omega) _ (R.ov.upd (by omega) _)
 simp only[go_sem,h50,h5,q4,hb,c5];refine W.aK 340282366920933627760096148915069392648 (by rfl) (fun ρ' H2=>∃ (k:Nat) (s:List Nat),ρ' 82=aa k/\k<=ns.length/\RdS g ns H H2 (aq ns) s/\H'.next<=H2.next/\s.take k=(aZ ns).take k/\(∀ j,k<=j->s.getD j 0=0)/\∀ x∈ns.take k,bT x.parents ns.length/\fE g ns x) (fun ρ' H=>ns.length - (iv (ρ' 82)).toNat) ?_ ?_
 ·simp only[go_sem];refine⟨0,_,rfl,by omega,R,rfl,fun j _=>?_,by simp⟩;rw[List.getD_eq_getElem?_getD,List.getElem?_replicate];split<;>rfl
 rintro ρ' H2 ⟨k,s,h82,hk2,R2,hn2,hs,hs0,hall2⟩;refine ag _ _ _ (by rfl) ?_;have r2:=R2.nx;have q4:=R2.l4;by_cases hb2:(k:Int)<ns.length;rotate_left
 ·have es:s=aZ ns:=by
   rw[List.take_of_length_le (by rw[R2.sl];omega),List.take_of_length_le (by simp [aZ];omega)]at hs;exact hs
  subst es;rw[List.take_of_length_le (by omega)]at hall2;have hlt:∀ p∈aZ ns,p<2 ^ ns.length:=va fun x hx q hq=>(hall2 x hx).1.2 q hq;have hsl:(aZ ns).length=ns.length:=by simp [aZ]
  have hlt64:∀ p∈aZ ns,p<2 ^ 64:=fun p hp=>Nat.lt_of_lt_of_le (hlt p hp) (Nat.pow_le_pow_right (by decide) (by omega));have hto:=Cx (ps:=aZ ns) (by rw[hsl];exact hlt) (by omega);simp only[go_sem,h82,q4,hb2];have fzs:=Fz.pE (nx:=0) R2.b3 (n:=ns.length) (by simp [R2.sl]) (fun c hc=>by
   obtain⟨z,_,rfl⟩:=List.mem_map.1 hc;exact⟨_,rfl⟩)
  refine aA.clo (Rs (aZ ns) (by omega) hlt64 _ _ (by show Fz _ _ _ _ (.vec (aZ ns).length _);rw[hsl];exact fzs) _ ⟨trivial,?_⟩);have q1:=R2.l1;cases hso:(eD (aZ ns)).isSome
  ·simp only[go_sem,q1];exact no (fun h=>by rw[hto.2 h.acyc]at hso;cases hso) _ (R2.ov.upd (by omega) _)
  have hok:NetOk g ns:=⟨by omega,by omega,fun x hx=>⟨hall x hx,(hall2 x hx).1⟩,by omega,hto.1 hso,fun x hx=>(hall2 x hx).2⟩
  rw[u7 hok]at hK;have q1b:∀ b,(H2.upd (H.next+4) b).live (H.next+1) 0=_:=fun b=>(my (by omega)).trans q1;simp only[go_sem,q1b,q4];have ovf:Over H ((H2.upd (H.next+4) (.arr 0 148 [.lit (.int .i64 g),.vec ns.length (aD ns),.own (H.next+2) 0 0 ns.length 1,.own (H.next+3) 0 0 ns.length 1,.vec (bf ((eD (aZ ns)).getD [])).length (ints (bf ((eD (aZ ns)).getD [])))])).upd (H.next+1) (.arr 0 148 [.lit (.int .i64 g),.vec ns.length (aD ns),.own (H.next+2) 0 0 ns.length 1,.own (H.next+3) 0 0 ns.length 1,.vec (bf ((eD (aZ ns)).getD [])).length (ints (bf ((eD (aZ ns)).getD [])))])):=(R2.ov.upd (by omega) _).upd (by omega) _;refine aw.bk (v':=.tup [y8 g ns,aa 0]) aF hcl ovf (.tup rfl fun i hi _=>?_) hK
  match i,hi with
  | 1,_=>exact .lit _
  | 0,_ =>
   refine .agg rfl fun i hi _=>?_
   match i,hi with
   | 0,_=>exact .lit _
   | 1,_=>exact nE _
   | 2,_ =>
    have hg2:∀ b b',((H2.upd (H.next+4) b).upd (H.next+1) b').get (H.next+2)=some (.arr 0 3 (ints (aq ns))):=fun b b'=>by rw[af,if_neg (by omega),af,if_neg (by omega)];exact R2.b2
    show Fz _ _ _ (.own (H.next+2) 0 0 ns.length 1) (.vec (aq ns).length (ints (aq ns)));rw[<- cP ns];exact .ints (by show H.next<=_;omega) (hg2 _ _) (by simp) fun i hi=>by simp [g9,hi]
   | 3,_ =>
    have hg3:∀ b b',((H2.upd (H.next+4) b).upd (H.next+1) b').get (H.next+3)=some (.arr 0 36 ((aZ ns).map bx)):=fun b b'=>by rw[af,if_neg (by omega),af,if_neg (by omega)];exact R2.b3
    show Fz _ _ _ (.own (H.next+3) 0 0 ns.length 1) (.vec (aZ ns).length ((aZ ns).map bx));rw[<- hsl];refine .frz (by show H.next<=_;omega) (hg3 _ _) (by simp) fun j hj h2 h'=>?_;simp only[Nat.zero_add,List.getElem_map];exact .lit _
   | 4,_=>exact .cB _
 obtain⟨x,hx⟩:=ay (l:=ns) (i:=k) (by omega);have hxm:=List.mem_of_getElem? hx;have hne:=dH hx;have e0:=kR hx;have e1:k*3+3<=(aD ns).length:=by rw[gv];omega
 obtain⟨f1,f2,f3⟩:=hf.2 x hxm;simp only[go_sem,h82,hb2,hne,e0,e1];obtain⟨H3,hH3⟩:∃ H3,H3=ext H2 [.arr 0 83 [.lit (.int .i64 x.card),.vec x.parents.length (ints x.parents),ao x.rows]]:=⟨_,rfl⟩
 have R3:RdS g ns H H3 (aq ns) s:=by rw[hH3];exact R2.over (.ext _ _)
 have nn:H3.next=H2.next+1:=by rw[hH3];rfl
 have gN:H3.get H2.next=some (.arr 0 83 [.lit (.int .i64 x.card),.vec x.parents.length (ints x.parents),ao x.rows]):=by rw[hH3];exact bY
 rw[<- hH3];have hks:k<s.length:=by rw[R2.sl];omega
 have s0:s.set k 0=s:=by
  apply List.ext_getElem?;intro i;rw[List.getElem?_set];split
  ·rename_i h;subst h;have:=hs0 k (Nat.le_refl _);rw[List.getD_eq_getElem?_getD,List.getElem?_eq_getElem hks]at this;simp only[Option.getD_some]at this;rw[List.getElem?_eq_getElem hks,this]
  ·rfl
 refine W.aK 5316911981901723452329847966222259208 (by rfl) (fun ρ2 H4=>∃ (j:Nat) (b:Int),ρ2 90=aa j/\j<=x.parents.length/\ρ2 10=aa b/\bT (x.parents.take j) ns.length/\(x.parents.take j).getLast?.getD (-1)=b/\RdS g ns H H4 (aq ns) (s.set k (cC (x.parents.take j)))/\H3.next<=H4.next/\H4.get H2.next=some (.arr 0 83 [.lit (.int .i64 x.card),.vec x.parents.length (ints x.parents),ao x.rows])/\¬ (k:Int)∈x.parents.take j)
  (fun ρ2 H=>x.parents.length - (iv (ρ2 90)).toNat) ?_ ?_
 ·simp only[go_sem];exact⟨0,-1,rfl,by omega,rfl,.nil,rfl,by rw[show cC (x.parents.take 0)=0 from rfl,s0];exact R3,gN,by simp⟩
 rintro ρ2 H4 ⟨j,b,h90,hj,h10,hp,hbl,R4,hn4,gN4,hself⟩;refine ag _ _ _ (by rfl) ?_;have r4:=R4.nx;have t1:=R4.l1;have t3:=R4.l3;have t4:=R4.l4;have tN:=ah gN4;by_cases hb3:(j:Int)<x.parents.length
 ·obtain⟨a,ha⟩:=ay (l:=x.parents) (i:=j) (by omega);have ham:=List.mem_of_getElem? ha;have hane:=aR ha;by_cases d1:a<=b
  ·simp only[go_sem,h90,h10,hb3,ha,hane,d1,t1];refine no (fun h=>?_) _ (R4.ov.upd (by omega) _);have hpl:=(h.node x hxm).2;have h0:=hpl.2 a ham;rcases Nat.eq_zero_or_pos j with rfl|hk0
   ·simp at hbl;omega
   ·obtain⟨i,rfl⟩:∃ i,j=i+1:=⟨j - 1,by omega⟩
    obtain⟨b',hbj⟩:=ay (l:=x.parents) (i:=i) (by omega);rw[rL hbj]at hbl;have:=hpl.lt hbj ha (by omega);simp at hbl;omega
  by_cases d2:a >= ns.length
  ·simp only[go_sem,h90,h10,hb3,ha,hane,d1,d2,t1,t4];exact no (fun h=>by have:=(h.node x hxm).2.2 a ham;omega) _ (R4.ov.upd (by omega) _)
  have h0:0<=a:=by
   rcases hg:(x.parents.take j).getLast? with _|b'
   ·rw[hg]at hbl;simp at hbl;omega
   ·rw[hg]at hbl;have:=hp.2 b' (List.mem_of_getLast? hg);simp at hbl;omega
  by_cases d3:a=k
  ·have d1':¬ (k:Int)<=b:=(by omega);have d2':¬ (k:Int) >= ns.length:=(by omega);simp only[go_sem,h90,h10,hb3,ha,hane,d1',d2',d3,t1,t4];exact no (fun h=>Rx hx (fun q hq=>((h.node x hxm).2.2 q hq).1) (by rw[<- d3];exact ham) h.acyc) _ (R4.ov.upd (id:=H.next+1) (by omega) _)
  obtain⟨u,rfl⟩:=Int.eq_ofNat_of_zero_le h0;have w1:=IntWalk.i64_in ((j:Int)+1) (by omega);have bm:cC (x.parents.take j)<2 ^ 64:=q9 fun p hp'=>by have:=hp.2 p hp';omega
  have v1:=fun t x y=>nG (P:=Try.prog) (t:=t) (x:=x) (y:=y) (k':=.i64) (s:=u) (by omega);have v2:=fun t x y=>kq (P:=Try.prog) (t:=t) (x:=x) (y:=y) (b:=2 ^ u) bm (Nat.pow_lt_pow_right (by decide) (by omega));have gs:(s.set k (cC (x.parents.take j)))[k]?=some (cC (x.parents.take j)):=List.getElem?_set_self hks;simp only[go_sem,h90,h10,hb3,ha,hane,d1,d2,d3,t4];refine W.draw 7 [0,1,0,7,15,0,32] Try.mixed (by kernel_rfl) (by kernel_rfl) ?_;simp only[go_sem,h90,hb2,t3,t4,gs,v1,v2,w1]
  repeat (refine And.intro (by first|omega|(simp;done)|(simp;omega)|(intros;omega)|exact⟨rfl,by omega,by omega,gZ _⟩) ?_)
  have R5:=R4.Rv (k:=k) (by simpa using hks) (cC (x.parents.take j) ||| 2 ^ u);rw[List.set_set]at R5;have esn:cC (x.parents.take (j+1))=cC (x.parents.take j) ||| 2 ^ u:=by rw[aP ha,yh];rfl
  refine⟨by rw[aC];omega,⟨j+1,u,by simp,by omega,rfl,?_,by rw[rL ha];rfl,by rw[esn];exact R5,by rw[aC];omega,by rw[af,if_neg (by omega)];exact gN4,fun hm=>?_⟩,by omega⟩
  ·rw[aP ha];exact hp.snoc ⟨by omega,by omega⟩ fun b' hb'=>by rw[hb']at hbl;simp at hbl;omega
  ·rw[aP ha]at hm;rcases List.mem_append.1 hm with hm|hm
   ·exact hself hm
   ·exact d3 (List.mem_singleton.1 hm).symm
 ·have hb3':=hb3;rw[List.take_of_length_le (by omega)]at hp hself R4;simp only[go_sem,h90,hb3,t4,tN];have hin:fT x.parents ns.length:=fun q hq=>by have:=hp.2 q hq;omega
  refine aA.clo (Rw g ⟨by omega,by omega⟩ ns _ x hin (km (by omega) hp hall) f2 f3 _ (H.next+2) (H.next+3) R4.b2 R4.b3 R4.sl _ ⟨trivial,?_⟩);cases hnb:ko g ns x
  ·simp only[go_sem,t1];exact no (fun h=>by rw[D4 (h.rows x hxm)]at hnb;cases hnb) _ (R4.ov.upd (by omega) _)
  have w1:=IntWalk.i64_in ((k:Int)+1) (by omega);simp only[go_sem,h82,w1];refine⟨by omega,⟨k+1,_,by simp,by omega,R4,by omega,?_,fun i hi=>?_,fun y hy=>?_⟩,by omega⟩
  ·have h1:=lh hx;rw[aP h1,aP (List.getElem?_set_self hks),List.take_set_of_le (Nat.le_refl k),hs]
  ·rw[List.getD_eq_getElem?_getD,List.getElem?_set_ne (by omega),<- List.getD_eq_getElem?_getD];exact hs0 i (by omega)
  ·rw[aP hx]at hy;rcases List.mem_append.1 hy with hy|hy
   ·exact hall2 y hy
   ·obtain rfl:=List.mem_singleton.1 hy;exact⟨hp,Rp.1 hnb⟩
theorem Rz (g:Int)(ns:List NodeP)(hf:mu ns)(H:AHeap)(K:ARes->AHeap->Prop)(hK:K (.ret (aa (if mr g ns then 0 else 50))) H):ae Try.prog G0 47 [bj g ns] H K:=by
 refine ae.clo ⟨_,Try.func47,rfl,rfl⟩ fun hcl=>?_;refine ae.aS (n:=11) (rs:=[.tmp 2]) Try.func47 rfl rfl rfl (by decide) (by kernel_rfl) (by simp) ?_;simp only[go_sem,bj,bO];refine aA.clo (Ry g ns hf _ _ ⟨trivial,?_⟩);cases hb:mr g ns
 ·rw[hb]at hK;simp only[go_sem,y7,List.length_nil];exact aw.bk aF hcl (.ext _ _) (.lit _) hK
 ·rw[hb]at hK;simp only[go_sem,y8,bO];exact aw.bk aF hcl (.ext _ _) (.lit _) hK
end Go.Proofs
/-
  Diagrams: their decisions, and what fills them. Plain: no program stands in this text. No conditions.
-/
namespace Go.Proofs
open Go.Hx
def dB (D v:Nat):List Nat := (List.range v).filter fun v => D.testBit v
def cL (D v:Nat):Nat := (dB D v).length
def ba (d:InfP):List Nat := dB d.decs d.nodes.length
theorem uy (D v:Nat):dB D (v + 1) = if D.testBit v then dB D v ++ [v] else dB D v := by
  unfold dB; rw[List.range_succ, List.filter_append];cases h:D.testBit v <;> simp [h]
theorem Pg {D v:Nat}:∀ {n:Nat}, v <= n -> ∃ r, dB D n = dB D v ++ r := by
  intro n
  induction n with
  | zero => intro h; obtain rfl : v = 0 := by omega
            exact⟨[], by simp⟩
  | succ n ih =>
    intro h;by_cases hv:v = n + 1
    · subst hv; exact⟨[], by simp⟩
    · obtain⟨r, hr⟩ := ih (by omega);rw[uy];split
      · exact⟨r ++ [n], by rw[hr, List.append_assoc]⟩
      · exact⟨r, hr⟩
theorem o9 {D v n:Nat}(hv:v < n)(hb:D.testBit v = true):(dB D n)[cL D v]? = some v := by
  obtain⟨r, hr⟩ := Pg (D := D) (v := v + 1) (n := n) hv;rw[hr, uy, if_pos hb, List.append_assoc];unfold cL;simp
theorem uz (D v:Nat):cL D (v + 1) = if D.testBit v then cL D v + 1 else cL D v := by
  unfold cL; rw[uy]; split <;> simp
theorem uA {D v n:Nat}:v ∈ dB D n ↔ v < n /\ D.testBit v = true := by unfold dB; simp
theorem j8 {D n k v:Nat}(h:(dB D n)[k]? = some v):v < n /\ D.testBit v = true /\ cL D v = k := by
  have hm := uA.1 (List.mem_of_getElem? h);refine⟨hm.1, hm.2, ?_⟩;have h2 := o9 hm.1 hm.2;have hnd:(dB D n).Nodup := List.nodup_range.filter _;have a := aG h;have b := aG h2;rw[List.getElem?_eq_getElem a]at h;rw[List.getElem?_eq_getElem b]at h2;have e:(dB D n)[cL D v] = (dB D n)[k] := by rw[Option.some.inj h, Option.some.inj h2]
  exact(List.getElem_inj hnd).1 e
theorem kV {D n:Nat}:(dB D n).length <= n := by
  have := List.length_filter_le (fun v => D.testBit v) (List.range n);unfold dB; simpa using this
def bw (g card x:Int):List Int := (List.replicate card.toNat 0).set x.toNat g
def cw (ns:List NodeP)(x:NodeP):Nat := (au (aQ ns x)).toNat
def cM (g:Int)(ns:List NodeP)(c:Nat -> Nat -> Int)(p:Nat)(x:NodeP):List (List Int) := (List.range (cw ns x)).map fun r => bw g x.card (c p r)
def fy (d:InfP)(c:Nat -> Nat -> Int)(k v:Nat)(x:NodeP):NodeP := if d.decs.testBit v = true /\ cL d.decs v < k then { x with rows := x.rows ++ cM d.grain d.nodes c (cL d.decs v) x } else x
def dk (d:InfP)(c:Nat -> Nat -> Int)(k:Nat):List NodeP := d.nodes.zipIdx.map fun p => fy d c k p.2 p.1
def bF (d:InfP)(c:Nat -> Nat -> Int):List NodeP := dk d c (ba d).length
theorem jA (d:InfP)(c:Nat -> Nat -> Int)(k:Nat):(dk d c k).length = d.nodes.length := by simp [dk]
theorem mg {d:InfP}{c:Nat -> Nat -> Int}{k v:Nat}{x:NodeP}(h:d.nodes[v]? = some x):(dk d c k)[v]? = some (fy d c k v x) := by
  unfold dk; rw[List.getElem?_map, List.getElem?_zipIdx, h]; simp
theorem Ph (d:InfP)(c:Nat -> Nat -> Int):dk d c 0 = d.nodes := by
  apply List.ext_getElem?;intro v;cases h:d.nodes[v]? with
  | none => rw[List.getElem?_eq_none]; rw[jA]; exact List.getElem?_eq_none_iff.1 h
  | some x => rw[mg h]; simp [fy]
theorem Pi {d:InfP}{c:Nat -> Nat -> Int}{k v:Nat}{x:NodeP}(hd:(ba d)[k]? = some v)(hx:d.nodes[v]? = some x):dk d c (k + 1) = (dk d c k).set v { x with rows := x.rows ++ cM d.grain d.nodes c k x } := by
  obtain⟨h1, h2, h3⟩ := j8 hd;apply List.ext_getElem?;intro u;rw[List.getElem?_set];split
  · rename_i h;subst h;rw[mg hx, if_pos (by rw[jA]; exact h1)];unfold fy;rw[if_pos ⟨h2, by omega⟩, h3]
  · rename_i h;cases hu:d.nodes[u]? with
    | none => rw[List.getElem?_eq_none (by rw[jA]; exact List.getElem?_eq_none_iff.1 hu), List.getElem?_eq_none (by rw[jA]; exact List.getElem?_eq_none_iff.1 hu)]
    | some y =>
      rw[mg hu, mg hu];unfold fy;by_cases hb:d.decs.testBit u = true
      · have : cL d.decs u ≠ k := fun e => by
          have h4 := o9 (aG hu) hb;rw[e]at h4;have h5:(dB d.decs d.nodes.length)[k]? = some v := hd;rw[h4]at h5;exact h (Option.some.inj h5).symm
        have e:(cL d.decs u < k + 1) = (cL d.decs u < k) :=(by apply propext; omega);simp only[e]
      · simp [hb]
theorem Pj {d:InfP}{c:Nat -> Nat -> Int}{k:Nat}:aq (dk d c k) = aq d.nodes := by
  apply List.ext_getElem?;intro v;unfold aq;rw[List.getElem?_map, List.getElem?_map];cases h:d.nodes[v]? with
  | none => rw[List.getElem?_eq_none (by rw[jA]; exact List.getElem?_eq_none_iff.1 h)]
  | some x =>
    rw[mg h];simp only[Option.map_some, fy];split <;> rfl
theorem j9 (d:InfP)(c:Nat -> Nat -> Int)(k v:Nat)(x:NodeP):(fy d c k v x).card = x.card /\ (fy d c k v x).parents = x.parents := by unfold fy; split <;> exact⟨rfl, rfl⟩
end Go.Proofs
namespace Go.Proofs
open Go.Hx
def eQ (d:InfP):List AVal:=[.lit (.int .i64 d.grain),.vec d.nodes.length (aD d.nodes),.lit (.int .u64 (d.decs:Int)),.vec d.utils.length (aO d.utils)]
theorem mm (d:InfP):jv d=.agg (eQ d):=rfl
def mn (d:InfP):Blk:=.arr 0 39 (eQ d)
def ld (d:InfP):List (List AVal):=(ba d).zipIdx.map fun p=>[aa p.2,aa p.1]
theorem uS {d:InfP}{k:Nat}{x:List AVal}(h:(ld d)[k]?=some x):∃ v,(ba d)[k]?=some v/\x=[aa k,aa v]:=by
 unfold ld at h;rw[List.getElem?_map,List.getElem?_zipIdx]at h;cases hr:(ba d)[k]? with
 | none=>rw[hr]at h;simp at h
 | some r=>rw[hr]at h;simp at h;exact⟨r,rfl,h.symm⟩
theorem QL {d:InfP}{k v:Nat}(h:(ba d)[k]?=some v):(ld d)[k]?=some [aa k,aa v]:=by
 unfold ld;rw[List.getElem?_map,List.getElem?_zipIdx,h];simp
theorem uT (d:InfP):(ld d).length=(ba d).length:=by simp [ld]
theorem yJ {d:InfP}:∀ x∈ld d,x.length=2:=fun x hx=>by
 obtain⟨k,hk⟩:=List.mem_iff_getElem?.1 hx;obtain⟨v,_,rfl⟩:=uS hk;rfl
theorem yK (d:InfP)(hl:(d.nodes.length:Int)<2 ^ 40)(hD:d.decs<2 ^ 64)(b:Nat):zh Try.prog G0 89 [] [.ptr b 0 0] (ld d) (fun H=>H.get b=some (mn d)):=by
 intro idy J Stop H K hS hJ0 hY hK hSt;have l0:=ah (hS 0 H hJ0);show ae _ _ _ ([.yld idy]++[.ptr b 0 0]) _ _;refine ae.aS (n:=25) (rs:=[]) Try.func89 rfl rfl rfl (by decide) (by kernel_rfl) (by simp) ?_;simp only[go_sem,l0,eQ];refine W.aK 33554200 (by rfl) (fun ρ H'=>∃ v:Nat,ρ 8=aa v/\v<=d.nodes.length/\ρ 3=aa (cL d.decs v)/\J (cL d.decs v) H'/\H.next<=H'.next) (fun ρ H=>d.nodes.length - (iv (ρ 8)).toNat) ?_ ?_
 ·simp only[go_sem];exact⟨0,rfl,by omega,rfl,hJ0⟩
 rintro ρ H' ⟨v,h8,hv,h3,hj,hn⟩;refine ag _ _ _ (by rfl) ?_;by_cases hb:(v:Int)<d.nodes.length
 ·have l1:=ah (hS _ _ hj);have s1:=fun t x y=>pG (P:=Try.prog) (t:=t) (x:=x) (y:=y) (k':=.i64) (s:=v) hD;have s2:=fun t x y=>vf (P:=Try.prog) (t:=t) (x:=x) (y:=y) (s:=v) hD;have w1:=IntWalk.i64_in ((v:Int)+1) (by omega);have hp:cL d.decs v<=v:=by
   have:(dB d.decs v).length<=v:=kV;exact this
  have w2:=IntWalk.i64_in ((cL d.decs v:Int)+1) (by omega);cases hbit:d.decs.testBit v
  ·simp only[go_sem,h8,h3,hb,l1,eQ,s1,s2,hbit,w1];exact⟨hn,⟨v+1,by simp,by omega,by rw[uz,hbit];rfl,by rw[uz,hbit];exact hj,hn⟩,by omega⟩
  ·have hdx:(ld d)[cL d.decs v]?=some [aa (cL d.decs v),aa v]:=QL (o9 (by omega) hbit);simp only[go_sem,h8,h3,hb,l1,eQ,s1,s2,hbit];refine hY _ _ H' _ hdx hj hn (fun H2 hj2 hn2=>⟨trivial,?_⟩) (fun H2 hs2 hn2=>⟨trivial,?_⟩)
   ·simp only[go_sem,h8,h3,w1,w2];exact⟨by omega,⟨v+1,by simp,by omega,by rw[uz,hbit];simp,by rw[uz,hbit];exact hj2,by omega⟩,by omega⟩
   ·simp only[go_sem];exact aw.mk (by omega) (hSt H2 hs2 (by omega))
 ·simp only[go_sem,h8,hb];have ek:v=d.nodes.length:=by omega
  subst ek;exact aw.mk (by omega) (hK H' (by rw[uT];exact hj) hn)
theorem yL (d:InfP)(H:AHeap)(K:ARes->AHeap->Prop)(hK:K (.ret (.clo 89 [] [.ptr H.next 0 0])) (ext H [mn d])):
  ae Try.prog G0 51 [jv d] H K:=by
 refine ae.aS (n:=4) (rs:=[.tmp 2]) Try.func51 rfl rfl rfl (by decide) (by kernel_rfl) (by simp) ?_;simp only[go_sem,mm,eQ];exact aw.mk (by simp [bn]) hK
theorem QM {g card x:Int}(hc:0<=card)(h:0<=x/\x<card):setAt (ints (List.replicate card.toNat 0)) x.toNat [.lit (.int .i64 g)]=ints (bw g card x):=by
 rw[fS (by simp;omega)];rfl
theorem QN (g card x:Int)(hc:card<=2 ^ 40)(h:0<=x/\x<card)(H:AHeap)(K:ARes->AHeap->Prop)(hK:K (.ret (ab (bw g card x))) H):ae Try.prog G0 88 [aa g,aa card,aa x] H K:=by
 refine ae.clo ⟨_,Try.func88,rfl,rfl⟩ fun hcl=>?_;obtain⟨n,rfl⟩:=Int.eq_ofNat_of_zero_le (show 0<=card by omega);obtain⟨k,rfl⟩:=Int.eq_ofNat_of_zero_le h.1;have h0:((n:Int)) >= 0:=by omega
 have hk:(k:Int)<n:=h.2;have hk2:k+1<=n:=by omega
 refine ae.aS (n:=15) (rs:=[.tmp 6]) Try.func88 rfl rfl rfl (by decide) (by kernel_rfl) (by simp) ?_;simp only[go_sem,hk]
 repeat (refine And.intro (by first|omega|(simp;done)|(simp;omega)|(intros;omega)|exact⟨rfl,by omega,by omega,gZ _⟩) ?_)
 have e:=QM (g:=g) (card:=n) (x:=k) (by omega) h;simp only[Int.toNat_natCast]at e;rw[show (List.replicate n (AVal.lit (Value.int IntKind.i64 0)))=ints (List.replicate n 0) by simp [ints,aa],e];refine aw.bk aF hcl (.ext _ _) ?_ hK;exact .ints (Nat.le_refl _) (br ..) (by simp [bw]) fun i hi=>by simp [g9,hi]
theorem QO (a b:AVal)(H:AHeap)(K:ARes->AHeap->Prop)(hK:K (.ret (aa 0)) H):ae Try.prog G0 49 [a,b] H K:=by
 refine ae.aS (n:=5) (rs:=[.tmp 4]) Try.func49 rfl rfl rfl (by decide) (by kernel_rfl) (by simp) ?_;simp only[go_sem];exact aw.mk (Nat.le_refl _) hK
end Go.Proofs
namespace Go.Proofs
open Go.Hx
noncomputable def kh (p:Prop):Bool:=@decide p (Classical.propDecidable p)
theorem eF {p:Prop}(h:p):kh p=true:=@decide_eq_true _ (Classical.propDecidable _) h
theorem fD {p:Prop}(h:¬ p):kh p=false:=@decide_eq_false _ (Classical.propDecidable _) h
structure RightN (d:InfP):Prop where
 n1:1<=d.nodes.length/\d.nodes.length<=8
 decs:d.decs >>> d.nodes.length=0
 card:∀ x∈d.nodes,1<=x.card/\x.card<=4
 dec:∀ v x,d.nodes[v]?=some x->d.decs.testBit v=true->x.rows=[]/\bT x.parents d.nodes.length
structure InfFit (d:InfP):Prop where
 nodes:mu d.nodes
 decs:d.decs<2 ^ 64
 utils:(d.utils.length:Int)<2 ^ 38/\∀ u∈d.utils,(u.vars.length:Int)<2 ^ 38/\(u.w.length:Int)<2 ^ 38
set_option maxHeartbeats 2000000 in
theorem QP (d:InfP)(hf:InfFit d)(H:AHeap)(K:ARes->AHeap->Prop)(hK:K (.ret (.lit (.bool (kh (RightN d))))) H):ae Try.prog G0 46 [jv d] H K:=by
 refine ae.clo ⟨_,Try.func46,rfl,rfl⟩ fun hcl=>?_;have hl:=hf.nodes.1;have no:¬ RightN d->∀ H',Over H H'->aw Try.prog G0 H K (.lit (.bool false)) H':=fun h H' ov=>aw.bk aF hcl ov (.lit _) (by rw[fD h]at hK;exact hK);refine ae.aS (n:=67) (rs:=[.cell 2 4]) Try.func46 rfl rfl rfl (by decide) (by kernel_rfl) (by simp) ?_;simp only[go_sem,mm,eQ];obtain⟨H1,hH1⟩:∃ H1,H1=ext H [.arr 0 39 (eQ d),.arr 0 4 [.lit (.bool false)]]:=⟨_,rfl⟩
 have g1:H1.get H.next=some (.arr 0 39 (eQ d)):=by rw[hH1];exact br ..
 have g2:H1.get (H.next+1)=some (.arr 0 4 [.lit (.bool false)]):=by rw[hH1];exact bu H _ 1 (by simp)
 have l1:=ah g1;have l2:=ah g2;have n1:H1.next=H.next+2:=by rw[hH1];rfl
 have o1:Over H H1:=by rw[hH1];exact .ext _ _
 unfold eQ at hH1 l1;rw[<- hH1];have s1:=fun t x y=>pG (P:=Try.prog) (t:=t) (x:=x) (y:=y) (k':=.i64) (s:=d.nodes.length) hf.decs;by_cases c1:(d.nodes.length:Int)<1
 ·simp only[go_sem,l2,c1];exact no (fun h=>by have:=h.n1;omega) _ (o1.upd (by omega) _)
 by_cases c2:(d.nodes.length:Int) > 8
 ·simp only[go_sem,l1,l2,c1,c2];exact no (fun h=>by have:=h.n1;omega) _ (o1.upd (by omega) _)
 by_cases c3:d.decs >>> d.nodes.length=0;rotate_left
 ·have c3':¬ ((d.decs >>> d.nodes.length:Nat):Int)=0:=by omega
  simp only[go_sem,l1,l2,c1,c2,c3',s1];exact no (fun h=>c3 h.decs) _ (o1.upd (by omega) _)
 have c3':((d.decs >>> d.nodes.length:Nat):Int)=0:=by omega
 simp only[go_sem,l1,c1,c2,c3',s1];refine W.aK 4397509640208 (by rfl) (fun ρ H'=>∃ k:Nat,ρ 29=aa k/\k<=d.nodes.length/\Over H1 H'/\∀ x∈d.nodes.take k,1<=x.card/\x.card<=4) (fun ρ H=>d.nodes.length - (iv (ρ 29)).toNat) ?_ ?_
 ·simp only[go_sem];exact⟨0,rfl,by omega,.refl _,by simp⟩
 rintro ρ H' ⟨k,h29,hk,ov,hall⟩;refine ag _ _ _ (by rfl) ?_;have ovn:=ov.next;have m1:=(ov.live (g:=0) (by omega:H.next<H1.next)).trans l1;have m2:=(ov.live (g:=0) (by omega:H.next+1<H1.next)).trans l2;by_cases hb:(k:Int)<d.nodes.length
 ·obtain⟨x,hx⟩:=ay (l:=d.nodes) (i:=k) (by omega);have hxm:=List.mem_of_getElem? hx;have hne:=dH hx;have e0:=kR hx;have e1:k*3+3<=(aD d.nodes).length:=by rw[gv];omega
  have nb:¬ H.next+1=H'.next:=by omega
  have m3:∀ L,(ext H' L).live (H.next+1) 0=_:=fun L=>(dS (by omega)).trans m2;by_cases d1:x.card<1
  ·simp only[go_sem,h29,m3,hb,hne,e0,e1,d1];exact no (fun h=>by have:=h.card x hxm;omega) _ (((o1.trans ov).trans (.ext _ _)).upd (by omega) _)
  by_cases d2:x.card > 4
  ·simp only[go_sem,h29,m3,hb,hne,e0,e1,d1,d2];exact no (fun h=>by have:=h.card x hxm;omega) _ (((o1.trans ov).trans (.ext _ _)).upd (by omega) _)
  have w1:=IntWalk.i64_in ((k:Int)+1) (by omega);simp only[go_sem,h29,hb,hne,e0,e1,d1,d2,w1];exact⟨by omega,⟨k+1,by simp,by omega,ov.trans (.ext _ _),fun y hy=>by
   rw[aP hx]at hy;rcases List.mem_append.1 hy with hy|hy
   ·exact hall y hy
   ·obtain rfl:=List.mem_singleton.1 hy;exact⟨by omega,by omega⟩⟩,by omega⟩
 rw[List.take_of_length_le (by omega)]at hall;simp only[go_sem,h29,hb,m1];refine aA.clo (yL d _ _ ⟨trivial,?_⟩);simp only[go_sem];obtain⟨H2,hH2⟩:∃ H2,H2=ext H' [mn d]:=⟨_,rfl⟩
 rw[<- hH2];have o2:Over H' H2:=by rw[hH2];exact .ext _ _
 have n2:H2.next=H'.next+1:=by rw[hH2];rfl
 have hbx:H2.get H'.next=some (mn d):=by rw[hH2];exact bY
 refine W.env fun E hE=>?_;have e1:E 1=.ptr H.next 0 0:=by rw[hE];simp only[go_sem]
 have e2:E 2=.ptr (H.next+1) 0 0:=by rw[hE];simp only[go_sem]
 have i1:=(o2.live (g:=0) (by omega:H.next<H'.next)).trans m1;have i2:=(o2.old _ (by omega:H.next+1<H'.next)).trans ((ov.old _ (by omega)).trans g2);have o02:=(o1.trans ov).trans o2;refine W.vh (f:=89) (first:=[]) (cap:=[.ptr H'.next 0 0]) (by show E 43=_;rw[hE];rfl) (yK d (by omega) hf.decs H'.next)
  (fun k Hx=>Over H2 Hx/\∀ v x,v∈(ba d).take k->d.nodes[v]?=some x->x.rows=[]/\bT x.parents d.nodes.length) (fun c Hx=>c=.ret/\Over H Hx/\H2.next<=Hx.next/\Hx.get (H.next+1)=some (.arr 0 4 [.lit (.bool false)])/\¬ RightN d)
  (fun k Hx h=>by rw[h.1.old _ (by omega)];exact hbx) (fun k Hx b h=>⟨h.1.upd (Nat.le_refl _) b,h.2⟩) (fun c Hx b h=>⟨h.1,h.2.1.upd (by omega) b,h.2.2.1,by rw[af,if_neg (by omega)];exact h.2.2.2.1,h.2.2.2.2⟩)
  (fun b=>⟨.ext _ _,by simp⟩) (by decide) yJ (fun _ _ _=>trivial) (fun _ _ _=>trivial) (fun k y Hx B Bb hy hj hn hB hBb=>?_) (fun Hx hj hn=>?_) (fun Hx hs hn=>?_) (fun i Hx hs hn=>by cases hs.1)
 ·obtain⟨v,hv,rfl⟩:=uS hy;obtain⟨v1,v2,v3⟩:=j8 hv;obtain⟨x,hx⟩:=ay (l:=d.nodes) (i:=v) v1;refine ag _ _ _ (by rfl) ?_;simp only[go_sem,iV,bR,mz,List.foldl_cons,List.foldl_nil,List.zip_cons_cons,List.zip_nil_right,hB];obtain⟨H3,hH3⟩:∃ H3,H3=Hx.upd H2.next Bb:=⟨_,rfl⟩
  rw[<- hH3];obtain⟨st,pd,n',en,ps',as',bo,hBe⟩:=hBb;have o3:Over H2 H3:=by rw[hH3];exact hj.1.upd (Nat.le_refl _) Bb
  have o4:Over H H3:=o02.trans o3;have n3:H3.next=Hx.next:=by rw[hH3];rfl
  have j1:=(o3.live (g:=0) (by omega:H.next<H2.next)).trans i1;have j2:=ah ((o3.old _ (by omega:H.next+1<H2.next)).trans i2);have jB:H3.get H2.next=some Bb:=by rw[hH3,af,if_pos rfl]
  have hxm:=List.mem_of_getElem? hx;obtain⟨f1,f2,f3⟩:=hf.nodes.2 x hxm;have hne:=dH hx;have e1':=jx hx;have e2':=oY hx;have hvn:(v:Int)<d.nodes.length:=by omega
  have stop:¬ RightN d->(H3.upd (H.next+1) (Blk.arr 0 4 [.lit (.bool false)])).get H2.next=some Bb/\Hx.next<=(H3.upd (H.next+1) (Blk.arr 0 4 [.lit (.bool false)])).next/\Over H (H3.upd (H.next+1) (Blk.arr 0 4 [.lit (.bool false)])) /\
    H2.next<=(H3.upd (H.next+1) (Blk.arr 0 4 [.lit (.bool false)])).next/\(H3.upd (H.next+1) (Blk.arr 0 4 [.lit (.bool false)])).get (H.next+1)=some (.arr 0 4 [.lit (.bool false)])/\¬ RightN d:=fun h =>
   ⟨by rw[af,if_neg (by omega)];exact jB,by rw[aC];omega,o4.upd (by omega) _,by rw[aC];omega,by rw[af,if_pos rfl],h⟩
  refine ag _ _ _ (by rfl) ?_;simp only[go_sem];refine W.draw 18 [0,1,0,7,15,31,63,127,255,511,1023,511,4095,8191,16383,511,33279,98815] Try.mixed (by kernel_rfl) (by kernel_rfl) ?_;by_cases c4:(x.rows.length:Int) > 0
  ·simp only[go_sem,bR,e1,e2,j1,j2,hvn,hne,e2',c4,ao,gU];exact stop fun h=>by have:=(h.dec v x hx v2).1;rw[this]at c4;simp at c4
  simp only[go_sem,bR,e1,j1,hvn,hne,e1',e2',c4,ao];refine aA.clo (DU x.parents d.nodes.length (by omega) _ _ ⟨⟨_,_,_,_,_,_,_,by rw[jB,hBe]⟩,?_⟩);by_cases c5:bT x.parents d.nodes.length;rotate_left
  ·simp only[go_sem,bR,e2,j2,c5,gU];exact stop fun h=>c5 (h.dec v x hx v2).2
  simp only[go_sem,bR,c5,gU];refine⟨jB,by omega,o3,fun u y hu hy2=>?_⟩;rw[aP hv]at hu;rcases List.mem_append.1 hu with hu|hu
  ·exact hj.2 u y hu hy2
  ·obtain rfl:=List.mem_singleton.1 hu;rw[hx]at hy2;cases hy2;exact⟨List.eq_nil_of_length_eq_zero (by omega),c5⟩
 ·have hok:RightN d:=⟨by omega,c3,hall,fun v x hx hb=>hj.2 v x (by
   rw[uT,List.take_length];exact uA.2 ⟨aG hx,hb⟩) hx⟩
  rw[eF hok]at hK;have j2:=ah ((hj.1.old _ (by omega:H.next+1<H2.next)).trans i2);simp only[go_sem,e2,j2];exact aw.bk aF hcl ((o02.trans hj.1).upd (by omega) _) (.lit _) hK
 ·obtain⟨_,o4,n4,g4,hno⟩:=hs;have j2:=ah g4;simp only[go_sem,e2,j2];exact no hno _ o4
end Go.Proofs
namespace Go.Hx
variable {P:Program} {G:Nat->Option (List AVal)}
def AHeap.eb (H:AHeap)(rk ob:Nat)(b:Blk):AHeap:=⟨fun id=>if id=rk then none else if id=ob then some b else H.get id,H.next⟩
theorem RN {H:AHeap}(hc:Clo H){rk ob g:Nat}{e:TypeId}{cells cells':List AVal}(hob:H.get ob=some (.arr g e cells))(hne:ob≠rk)(hl:cells'.length=cells.length)
  (hcell:∀ i (h:i<cells.length) (h':i<cells'.length),Fz (fun id=>id=rk) H H.next cells[i] cells'[i]):FzH (fun id=>id=rk) H (H.eb rk ob (.arr g e cells')) where
 gone id hs:=by simp [AHeap.eb,hs]
 kept id b hs hb:=by
  have hbb:=hc.below id b hb;refine⟨hc.lt id b hb,?_⟩;by_cases h:id=ob
  ·subst h;rw[hob]at hb;cases hb;exact⟨.arr g e cells',by simp [AHeap.eb,hs],rfl,rfl,hl,hcell⟩
  ·refine⟨b,by simp [AHeap.eb,hs,h,hb],?_⟩;cases b with
   | rsv=>trivial
   | mp=>rfl
   | arr g e cells=>exact⟨rfl,rfl,rfl,fun i h _=>.dead (hbb i h)⟩
   | loop st pend n env ps asg body=>exact⟨rfl,rfl,rfl,rfl,rfl,rfl,rfl,fun t ht=>.dead (hbb t ht)⟩
 none id hs hb:=by
  by_cases h:id=ob
  ·subst h;rw[hob]at hb;cases hb
  ·simp [AHeap.eb,hs,h,hb]
theorem cK.eb (hG:eo G){s:St}{rk ob g:Nat}{e:TypeId}{cells cells':List AVal}(hob:s.H.get ob=some (.arr g e cells))(hne:ob≠rk)(hl:cells'.length=cells.length)
  (hcell:∀ i (h:i<cells.length) (h':i<cells'.length),Fz (fun id=>id=rk) s.H s.H.next cells[i] cells'[i]):cK P G s ⟨s.ρ,s.H.eb rk ob (.arr g e cells')⟩:=by
 intro n wb Γ a w hs;exact cK.freeze (s:=s) (s':=⟨s.ρ,s.H.eb rk ob (.arr g e cells')⟩) hG (RN hs.heap.clo hob hne hl hcell) (fun t=>.dead (hs.env t).mR) n wb Γ a w hs
theorem RO {S:Nat->Prop}{H:AHeap}{nx:Nat}{A B:List AVal}{o o':AVal}(hA:∀ v,v∈A->Fz S H nx v v)(ho:Fz S H nx o o')(hB:∀ v,v∈B->Fz S H nx v v):
  ∀ i (h:i<(A++o :: B).length) (h':i<(A++o' :: B).length),Fz S H nx (A++o :: B)[i] (A++o' :: B)[i]:=by
 induction A with
 | nil =>
  intro i h h';cases i with
  | zero=>exact ho
  | succ i=>exact hB _ (List.getElem_mem (l:=B) (by simpa using h))
 | cons a A ih =>
  intro i h h';cases i with
  | zero=>exact hA a (by simp)
  | succ i=>exact ih (fun v hv=>hA v (by simp [hv])) i (by simpa using h) (by simpa using h')
theorem vj {H:AHeap}{rk ob:Nat}{b:Blk}(h:ob≠rk):(H.eb rk ob b).get ob=some b:=by simp [AHeap.eb,h]
theorem kr {H:AHeap}{rk ob id:Nat}{b:Blk}(h:id≠rk)(h2:id≠ob):(H.eb rk ob b).get id=H.get id:=by simp [AHeap.eb,h,h2]
theorem zj {S:Nat->Prop}{H:AHeap}{nx:Nat}{l:List AVal}{i:Nat}{a b:AVal}(hl:∀ v,v∈l->Fz S H nx v v)(hab:Fz S H nx a b):∀ j (h:j<(l.set i a).length) (h':j<(l.set i b).length),Fz S H nx (l.set i a)[j] (l.set i b)[j]:=by
 intro j h h';rw[List.getElem_set,List.getElem_set];split
 ·exact hab
 ·exact hl _ (List.getElem_mem _)
theorem W.kv {n:Nat}{rd:Option Nat}{Q Q':AX->St->Prop}{c:Code}{s:St}(h:W P G n rd c Q' s)(hw:∀ e s2,Q' e s2->∃ s3,cK P G s2 s3/\s2.H.next<=s3.H.next/\dR s3.H rd/\Q e s3):W P G n rd c Q s:=by
 intro wb Γ a w rb hs hr;refine wpIn_mono (h wb Γ a w rb hs hr) fun e a' w' hp=>?_;obtain⟨x,s',Γ',hx,hq,hrel,E,hn,hrd,hfr⟩:=hp;obtain⟨s3,hw3,hn3,hri,hq3⟩:=hw x s' hq;obtain⟨Γ3,hs3,E3,hrd3⟩:=hw3 n wb Γ' a' w' hrel;exact⟨x,s3,Γ3,hx,hq3,hs3,E.trans hn E3,Nat.le_trans hn hn3,hrd3 rd rb hrd hri,hfr⟩
theorem aB.ne {lo:Nat}{H:AHeap}{e:TypeId}{v:AVal}{cs:List AVal}(h:aB lo H e v cs){k:Nat}(hk:k<lo):∀ g n,v≠.own k g 0 n 1:=fun g n he=>by
 rcases h with ⟨h,_⟩|⟨i2,g2,a1,_,h,_⟩
 ·rw[h]at he;cases he
 ·rw[h]at he;have:=AVal.own.inj he;omega
def bW (lo:Nat)(H:AHeap)(e:TypeId)(z:Nat)(v:AVal)(n:Nat)(cs:List AVal):Prop :=
 (v=.lit (.slice none 0 0)/\n=0/\cs=[])\/∃ id g,lo<=id/\id<H.next/\v=.own id g 0 n z/\cs.length=n*z/\H.get id=some (.arr g e cs)
theorem bW.nil {lo:Nat}{H:AHeap}{e:TypeId}{z:Nat}:bW lo H e z (.lit (.slice none 0 0)) 0 []:=.inl ⟨rfl,rfl,rfl⟩
theorem bW.keep {lo:Nat}{H H':AHeap}{e:TypeId}{z n:Nat}{v:AVal}{cs:List AVal}(h:bW lo H e z v n cs)(hn:H.next<=H'.next)(hk:∀ id g,lo<=id->id<H.next->v=.own id g 0 n z->H'.get id=H.get id):bW lo H' e z v n cs:=by
 rcases h with h|⟨id,g,h1,h2,h3,h4,h5⟩
 ·exact .inl h
 ·exact .inr ⟨id,g,h1,by omega,h3,h4,(hk id g h1 h2 h3).trans h5⟩
theorem bW.over {lo:Nat}{H H':AHeap}{e:TypeId}{z n:Nat}{v:AVal}{cs:List AVal}(h:bW lo H e z v n cs)(ho:Over H H'):bW lo H' e z v n cs:=h.keep ho.next fun id _ _ h2 _=>ho.old id h2
theorem bW.one {lo:Nat}{H:AHeap}{e:TypeId}{z n:Nat}{v:AVal}{cs:List AVal}(h:bW lo H e z v n cs):v.one=true:=by
 rcases h with ⟨rfl,_⟩|⟨_,_,_,_,rfl,_⟩<;>rfl
theorem bW.cells {lo:Nat}{H:AHeap}{e:TypeId}{z n:Nat}{v:AVal}{cs:List AVal}(h:bW lo H e z v n cs):v.cells=[v]:=by
 rcases h with ⟨rfl,_⟩|⟨_,_,_,_,rfl,_⟩<;>rfl
theorem bW.ne {lo:Nat}{H:AHeap}{e:TypeId}{z m:Nat}{v:AVal}{cs:List AVal}(h:bW lo H e z v m cs){k:Nat}(hk:k<lo):∀ g n,v≠.own k g 0 n z:=fun g n he=>by
 rcases h with ⟨h,_⟩|⟨i2,g2,a1,_,h,_⟩
 ·rw[h]at he;cases he
 ·rw[h]at he;have:=AVal.own.inj he;omega
theorem mA {H:AHeap}{t e:TypeId}{lo n z m:Nat}{v:AVal}{cs xs:List AVal}{zs:List AVal}(ht:P.underlying t=some (.slice e))(hz:P.cellsOf e=z)(hzero:bL P e=some zs)(hx:xs.all AVal.one=true)(hxl:xs.length=z)
  (hb:(n+1)*P.bytesOf e<=2 ^ 46/\n+1<=2 ^ 46) (ho:bW lo H e z v n cs) (hlo:lo<=H.next) (hn:m=H.next+1):
  ∃ v' H',bq P (ext H [.arr 0 e xs]) m t t v (.own H.next 0 0 1 z)=some (v',H')/\bW lo H' e z v' (n+1) (cs++xs)/\H.next<=H'.next/\(∀ k,k<H.next->(∀ g n,v≠.own k g 0 n z)->H'.get k=H.get k):=by
 have hne:(ext H [.arr 0 e xs]).next=H.next+1:=rfl;have hsrc:cI (ext H [.arr 0 e xs]) z (.own H.next 0 0 1 z)=some (1,xs):=by
  unfold cI;have:=ah (H:=ext H [.arr 0 e xs]) (g:=0) (bY (b:=.arr 0 e xs));simp [this,<- hxl]
 rcases ho with ⟨rfl,rfl,rfl⟩|⟨i,g,h1,h2,rfl,h4,h5⟩
 ·refine⟨.own m 0 0 1 z,ext (ext H [.arr 0 e xs]) [.arr 0 e xs],?_,.inr ⟨m,0,by omega,by rw[bn,hne,hn];simp,by simp,by simp [hxl],?_⟩,by rw[bn,hne];omega,fun k hk _=>?_⟩
  ·unfold bq;rw[ht];simp only[hzero,hz,Option.bind_some];rw[hsrc];simp only[Option.bind_some];rw[if_neg (by decide),if_pos (by simpa using hb),sV (by rw[hn,hne])];rfl
  ·rw[hn,<- hne];exact bY
  ·rw[dz (by rw[hne];omega),dz hk]
 ·have h5':(ext H [.arr 0 e xs]).get i=some (.arr g e cs):=by rw[dz h2];exact h5
  refine⟨.own i (g+1) 0 (n+1) z,(ext H [.arr 0 e xs]).upd i (.arr (g+1) e (cs++xs)),?_,.inr ⟨i,g+1,h1,by rw[aC,hne];omega,rfl,by simp [h4,hxl,Nat.add_mul],by rw[af,if_pos rfl]⟩,by rw[aC,hne];omega,fun k hk hne2=>?_⟩
  ·unfold bq;rw[ht];have hl:=ah h5';simp only[hzero,hz,Option.bind_some];rw[hsrc];simp only[Option.bind_some,hl];rw[if_pos ⟨trivial,trivial,by omega,hb.1,hb.2,hx⟩];simp
  ·rw[af,if_neg,dz hk];rintro rfl;exact hne2 _ _ rfl
end Go.Hx
namespace Go.Proofs
open Go.Hx
def bc (x:NodeP):AVal:=if x.rows=[] then .lit (.slice none 0 0) else ao x.rows
def NodeP.eZ (x:NodeP):List AVal:=[aa x.card,ab x.parents,bc x]
def aV (l:List NodeP):List AVal:=(l.map NodeP.eZ).flatten
theorem gD (l:List NodeP):(aV l).length=l.length*3:=jZ (f:=NodeP.eZ) (fun _=>rfl) l
theorem kW {l:List NodeP}{i:Nat}{x:NodeP}(h:l[i]?=some x):(aV l)[i*3]?=some (aa x.card):=gO (f:=NodeP.eZ) (z:=3) (fun _=>rfl) l i 0 x h (by omega)
theorem mh {l:List NodeP}{i:Nat}{x:NodeP}(h:l[i]?=some x):(aV l)[i*3+1]?=some (ab x.parents):=gO (f:=NodeP.eZ) (z:=3) (fun _=>rfl) l i 1 x h (by omega)
theorem pf {l:List NodeP}{i:Nat}{x:NodeP}(h:l[i]?=some x):(aV l)[i*3+2]?=some (bc x):=gO (f:=NodeP.eZ) (z:=3) (fun _=>rfl) l i 2 x h (by omega)
theorem yn (l:List NodeP)(x:NodeP):aV (l++[x])=aV l++[aa x.card,ab x.parents,bc x]:=by unfold aV;simp [NodeP.eZ]
theorem Pk {l:List NodeP}{i:Nat}{x:NodeP}(h:l[i]?=some x):¬ aV l=[]:=fun e=>by
 have:=kW h;rw[e]at this;simp at this
theorem Pl (l:List (List Int)):ao l=.vec l.length (l.map ab):=rfl
theorem Cy {x:NodeP}(h:x.rows=[]):bc x=.lit (.slice none 0 0):=if_pos h
theorem rf {x:NodeP}(h:x.rows≠[]):bc x=ao x.rows:=if_neg h
theorem Cz {l:List NodeP}{i:Nat}{x y:NodeP}(h:l[i]?=some x)(hy:y.card=x.card/\y.parents=x.parents):aV (l.set i y)=setAt (aV l) (i*3+2) [bc y]:=by
 have hi:=aG h;have hl:=gD l;rw[dW (by omega)];apply List.ext_getElem?;intro p;rw[List.getElem?_set];have hp:p=(p / 3)*3+p % 3:=by omega
 by_cases hb:p / 3<l.length
 ·by_cases hpi:p / 3=i
  ·have e0:(l.set i y)[p / 3]?=some y:=(by rw[hpi,List.getElem?_set_self hi]);have c3:p % 3=0\/p % 3=1\/p % 3=2:=(by omega);rcases c3 with c|c|c
   ·rw[if_neg (by omega),hp,c,Nat.add_zero,kW e0,kW (by rw[hpi];exact h),hy.1]
   ·rw[if_neg (by omega),hp,c,mh e0,mh (by rw[hpi];exact h),hy.2]
   ·rw[if_pos (by omega),if_pos (by omega),hp,c,pf e0]
  ·obtain⟨z,hz⟩:=ay hb;have e0:(l.set i y)[p / 3]?=some z:=(by rw[List.getElem?_set_ne (by omega)];exact hz);have c3:p % 3=0\/p % 3=1\/p % 3=2:=(by omega);rcases c3 with c|c|c
   ·rw[if_neg (by omega),hp,c,Nat.add_zero,kW e0,kW hz]
   ·rw[if_neg (by omega),hp,c,mh e0,mh hz]
   ·rw[if_neg (by omega),hp,c,pf e0,pf hz]
 ·rw[List.getElem?_eq_none (by rw[gD,List.length_set];omega),if_neg (by omega),List.getElem?_eq_none (by omega)]
theorem CA {S:Nat->Prop}{H:AHeap}{nx:Nat}(x:NodeP):Fz S H nx (bc x) (ao x.rows):=by
 unfold bc;split
 ·rename_i h;rw[h];exact .nil
 ·exact .ao _
theorem CB {S:Nat->Prop}{H:AHeap}{nx:Nat}(x:NodeP):Fz S H nx (bc x) (bc x):=by
 unfold bc;split
 ·exact .lit _
 ·exact .ao _
theorem CC {S:Nat->Prop}{H:AHeap}{nx:Nat}:∀ (l:List NodeP) (i:Nat) (h:i<(aV l).length) (h':i<(aD l).length),Fz S H nx (aV l)[i] (aD l)[i]:=by
 intro l i h h';have hb:i / 3<l.length:=by rw[gD]at h;omega
 obtain⟨x,hx⟩:=ay hb;have hp:i=(i / 3)*3+i % 3:=by omega
 have g1:(aV l)[i]?=some (aV l)[i]:=List.getElem?_eq_getElem h;have g2:(aD l)[i]?=some (aD l)[i]:=List.getElem?_eq_getElem h';generalize (aV l)[i]=a at g1 ⊢;generalize (aD l)[i]=b at g2 ⊢;have c3:i % 3=0\/i % 3=1\/i % 3=2:=by omega
 rcases c3 with c|c|c
 ·rw[hp,c,Nat.add_zero,kW hx]at g1;rw[hp,c,Nat.add_zero,iI hx]at g2;cases g1;cases g2;exact .lit _
 ·rw[hp,c,mh hx]at g1;rw[hp,c,jx hx]at g2;cases g1;cases g2;exact .cB _
 ·rw[hp,c,pf hx]at g1;rw[hp,c,oY hx]at g2;cases g1;cases g2;exact CA x
theorem uB {S:Nat->Prop}{H:AHeap}{nx:Nat}(l:List NodeP):∀ c∈aV l,Fz S H nx c c:=by
 intro c hc;unfold aV at hc;obtain⟨r,hr,hc⟩:=List.mem_flatten.1 hc;obtain⟨x,_,rfl⟩:=List.mem_map.1 hr;unfold NodeP.eZ at hc;simp only[List.mem_cons,List.not_mem_nil,or_false]at hc;rcases hc with rfl|rfl|rfl
 ·exact .lit _
 ·exact .cB _
 ·exact CB x
structure NodesQ (e:Nat->Prop)(ns:List NodeP)(cs:List AVal):Prop where
 len:cs.length=ns.length*3
 node:∀ (v:Nat) (x:NodeP),ns[v]?=some x->∃ rv,cs[v*3]?=some (aa x.card)/\cs[v*3+1]?=some (ab x.parents)/\cs[v*3+2]?=some rv/\(rv=ao x.rows\/rv=bc x)/\(e v->rv=bc x)
theorem yp (e:Nat->Prop)(ns:List NodeP):NodesQ e ns (aV ns):=⟨gD ns,fun v x hx=>⟨_,kW hx,mh hx,pf hx,.inr rfl,fun _=>rfl⟩⟩
theorem NodesQ.c0 {e:Nat->Prop}{ns:List NodeP}{cs:List AVal}(h:NodesQ e ns cs){v:Nat}{x:NodeP}(hx:ns[v]?=some x):cs[v*3]?=some (aa x.card):=(h.node v x hx).elim fun _ h=>h.1
theorem NodesQ.c1 {e:Nat->Prop}{ns:List NodeP}{cs:List AVal}(h:NodesQ e ns cs){v:Nat}{x:NodeP}(hx:ns[v]?=some x):cs[v*3+1]?=some (ab x.parents):=(h.node v x hx).elim fun _ h=>h.2.1
theorem NodesQ.ne {e:Nat->Prop}{ns:List NodeP}{cs:List AVal}(h:NodesQ e ns cs){v:Nat}{x:NodeP}(hx:ns[v]?=some x):¬ cs=[]:=fun he=>by
 have:=h.c0 hx;rw[he]at this;simp at this
theorem NodesQ.part {e:Nat->Prop}{ns:List NodeP}{cs:List AVal}(h:NodesQ e ns cs){v:Nat}{x:NodeP}(hx:ns[v]?=some x):∃ rv,(cs.drop (v*3)).take 3=[aa x.card,ab x.parents,rv]/\cs[v*3+2]?=some rv/\(rv=ao x.rows\/rv=bc x)/\(e v->rv=bc x):=by
 obtain⟨rv,a,b,c,d,f⟩:=h.node v x hx;refine⟨rv,?_,c,d,f⟩;have h3:=aG c;rw[List.drop_eq_getElem_cons (by omega),List.drop_eq_getElem_cons (by omega),List.drop_eq_getElem_cons (by omega)];simp only[List.take_succ_cons,List.take_zero];rw[List.getElem?_eq_getElem (by omega)]at a b c;rw[Option.some.inj a,Option.some.inj b,Option.some.inj c]
theorem NodesQ.nil {e:Nat->Prop}:NodesQ e [] []:=⟨rfl,fun v x hx=>by simp at hx⟩
theorem NodesQ.snoc {e:Nat->Prop}{ns:List NodeP}{cs:List AVal}(h:NodesQ e ns cs){x:NodeP}{rv:AVal}(h1:rv=ao x.rows\/rv=bc x)(h2:e ns.length->rv=bc x):NodesQ e (ns++[x]) (cs++[aa x.card,ab x.parents,rv]):=by
 have hl:=h.len;refine⟨by simp [hl];omega,fun v y hy=>?_⟩;by_cases hv:v<ns.length
 ·rw[List.getElem?_append_left hv]at hy;obtain⟨r,a,b,c,d⟩:=h.node v y hy;exact⟨r,by rw[List.getElem?_append_left (by omega)];exact a,by rw[List.getElem?_append_left (by omega)];exact b,by rw[List.getElem?_append_left (by omega)];exact c,d⟩
 ·have:v=ns.length:=by have:=aG hy;simp at this;omega
  subst this;rw[List.getElem?_append_right (by omega),Nat.sub_self]at hy;cases hy;refine⟨rv,?_,?_,?_,h1,h2⟩
  ·rw[List.getElem?_append_right (by omega),show ns.length*3 - cs.length=0 by omega];rfl
  ·rw[List.getElem?_append_right (by omega),show ns.length*3+1 - cs.length=1 by omega];rfl
  ·rw[List.getElem?_append_right (by omega),show ns.length*3+2 - cs.length=2 by omega];rfl
theorem NodesQ.mono {e e':Nat->Prop}{ns:List NodeP}{cs:List AVal}(h:NodesQ e ns cs)(he:∀ v,e' v->e v):NodesQ e' ns cs:=⟨h.len,fun v x hx=>by
 obtain⟨r,a,b,c,d,f⟩:=h.node v x hx;exact⟨r,a,b,c,d,fun h=>f (he v h)⟩⟩
theorem NodesQ.uC {e:Nat->Prop}{ns:List NodeP}{cs:List AVal}(h:NodesQ e ns cs){S:Nat->Prop}{H:AHeap}{nx:Nat}:∀ (i:Nat) (h1:i<cs.length) (h2:i<(aD ns).length),Fz S H nx cs[i] (aD ns)[i]:=by
 intro i h1 h2;have hb:i / 3<ns.length:=by rw[h.len]at h1;omega
 obtain⟨x,hx⟩:=ay hb;obtain⟨rv,a,b,c,d,_⟩:=h.node _ x hx;have hp:i=(i / 3)*3+i % 3:=by omega
 have g1:cs[i]?=some cs[i]:=List.getElem?_eq_getElem h1;have g2:(aD ns)[i]?=some (aD ns)[i]:=List.getElem?_eq_getElem h2;generalize cs[i]=u at g1 ⊢;generalize (aD ns)[i]=w at g2 ⊢;have c3:i % 3=0\/i % 3=1\/i % 3=2:=by omega
 rcases c3 with c0|c0|c0
 ·rw[hp,c0,Nat.add_zero,a]at g1;rw[hp,c0,Nat.add_zero,iI hx]at g2;cases g1;cases g2;exact .lit _
 ·rw[hp,c0,b]at g1;rw[hp,c0,jx hx]at g2;cases g1;cases g2;exact .cB _
 ·rw[hp,c0,c]at g1;rw[hp,c0,oY hx]at g2;cases g1;cases g2;rcases d with d|d<;>rw[d]
  ·exact .ao _
  ·exact CA x
end Go.Proofs
namespace Go.Proofs
open Go.Hx
theorem jF {α:Type}{l:List α}{i:Nat}{x:α}(h:l[i]?=some x):l.set i x=l:=by
 apply List.ext_getElem?;intro j;rw[List.getElem?_set];split
 ·rename_i hj;subst hj;rw[if_pos (aG h),h]
 ·rfl
structure FiS (d:InfP)(fv:AVal)(H H':AHeap)(nh:AVal)(n:Nat)(cs:List AVal):Prop where
 nx:H.next+4<=H'.next
 ov:Over H H'
 b0:H'.get H.next=some (.arr 0 39 [.lit (.int .i64 d.grain),.vec d.nodes.length (aD d.nodes),.lit (.int .u64 (d.decs:Int)),.vec d.utils.length (aO d.utils)])
 b1:H'.get (H.next+1)=some (.arr 0 108 [fv])
 b2:H'.get (H.next+2)=some (.arr 0 64 [.lit (.int .i64 0),.lit (.slice none 0 0)])
 b3:H'.get (H.next+3)=some (.arr 0 64 [.lit (.int .i64 d.grain),nh])
 nd:bW (H.next+4) H' 83 3 nh n cs
theorem FiS.over {d:InfP}{fv:AVal}{H H' H2:AHeap}{nh:AVal}{n:Nat}{cs:List AVal}(h:FiS d fv H H' nh n cs)(o:Over H' H2):FiS d fv H H2 nh n cs where
 nx:=Nat.le_trans h.nx o.next
 ov:=h.ov.trans o
 b0:=(o.old _ (by have:=h.nx;omega)).trans h.b0
 b1:=(o.old _ (by have:=h.nx;omega)).trans h.b1
 b2:=(o.old _ (by have:=h.nx;omega)).trans h.b2
 b3:=(o.old _ (by have:=h.nx;omega)).trans h.b3
 nd:=h.nd.over o
theorem Q0 {H H':AHeap}{v:AVal}{n:Nat}{cs xs:List AVal}(hx:xs.all AVal.one=true)(hxl:xs.length=3)(hn:n<2 ^ 38)(ho:bW (H.next+4) H' 83 3 v n cs)(hlo:H.next+4<=H'.next):
  ∃ v' H2,bq Try.prog (ext H' [.arr 0 83 xs]) (H'.next+1) 35 35 v (.own H'.next 0 0 1 3)=some (v',H2)/\bW (H.next+4) H2 83 3 v' (n+1) (cs++xs)/\H'.next<=H2.next/\(∀ k,k<H'.next->(∀ g n,v≠.own k g 0 n 3)->H2.get k=H'.get k) :=
 mA Try.underlying35 Try.qU Try.qY hx hxl (by rw[Try.qX];omega) ho hlo rfl
theorem DI {lo:Nat}{H':AHeap}{v:AVal}{l:List AVal}(x:AVal)(hx:x.one=true)(h:aB lo H' 59 v l)(hlo:lo<=H'.next)(hl:l.length<2 ^ 40):
  ∃ v' H2,bq Try.prog (ext H' [.arr 0 59 [x]]) (H'.next+1) 48 48 v (.own H'.next 0 0 1 1)=some (v',H2)/\aB lo H2 59 v' (l++[x])/\H'.next<=H2.next/\(∀ k,k<H'.next->(∀ g n,v≠.own k g 0 n 1)->H2.get k=H'.get k) :=
 gf (P:=Try.prog) (H:=H') (t:=48) (x:=x) (n:=H'.next+1) Try.underlying48 Try.jY Try.kQ hx (by rw[Try.kP];omega) h hlo rfl
set_option maxHeartbeats 4000000 in
theorem DJ (d:InfP)(hf:InfFit d)(hR:RightN d)(c:Nat->Nat->Int)(fv:AVal)(rs:List Nat)(H:AHeap)(hrs:∀ i∈rs,i<H.next)(hfc:fv.cells=[fv])(hfo:fv.one=true)
  (hfv:∀ p r v x H1,(ba d)[p]?=some v->d.nodes[v]?=some x->r<cw d.nodes x->Over H H1->(0<=c p r/\c p r<x.card)/\bD Try.prog G0 fv [.lit (.int .i64 p),.lit (.int .i64 r)] H1 (.lit (.int .i64 (c p r))) rs)
  (K:ARes->AHeap->Prop) (hK:K (.ret (bj d.grain (bF d c))) H):ae Try.prog G0 48 [jv d,fv] H K:=by
 refine ae.clo ⟨_,Try.func48,rfl,rfl⟩ fun hcl=>?_;have hl:=hf.nodes.1;have hn8:=hR.n1.2;refine ae.aS (n:=91) (rs:=[.cell 4 64]) Try.func48 rfl rfl rfl (by decide) (by kernel_rfl) (by simp) ?_;simp only[go_sem,mm,eQ,hfc];obtain⟨Hb,hHb⟩:∃ Hb,Hb=ext H [.arr 0 39 [.lit (.int .i64 d.grain),.vec d.nodes.length (aD d.nodes),.lit (.int .u64 (d.decs:Int)),.vec d.utils.length (aO d.utils)],.arr 0 108 [fv],.arr 0 64 [.lit (.int .i64 0),.lit (.slice none 0 0)],.arr 0 64 [.lit (.int .i64 d.grain),.lit (.slice none 0 0)]]:=⟨_,rfl⟩
 rw[<- hHb];have R0:FiS d fv H Hb (.lit (.slice none 0 0)) 0 []:=by
  rw[hHb];exact⟨by simp [bn],.ext _ _,br ..,bu H _ 1 (by simp),bu H _ 2 (by simp),bu H _ 3 (by simp),.nil⟩
 have nb:Hb.next=H.next+4:=by rw[hHb];rfl
 refine W.loop 4503599626323328 (by rfl) (fun ρ H'=>∃ (k:Nat) (nh:AVal),ρ 20=aa k/\k<=d.nodes.length/\FiS d fv H H' nh k (aV (d.nodes.take k))) (fun ρ H=>d.nodes.length - (iv (ρ 20)).toNat) ?_ ?_
 ·simp only[go_sem];exact⟨0,_,rfl,by omega,R0⟩
 rintro ρ H' ⟨k,nh,h20,hk,R⟩;refine ag _ _ _ (by rfl) ?_;have rn:=R.nx;have q0:=ah R.b0;have q3:=ah R.b3;by_cases hb:(k:Int)<d.nodes.length
 ·obtain⟨x,hx⟩:=ay (l:=d.nodes) (i:=k) (by omega);have hxm:=List.mem_of_getElem? hx;obtain⟨f1,f2,f3⟩:=hf.nodes.2 x hxm;have hne:=dH hx;have e0:=kR hx;have e1:k*3+3<=(aD d.nodes).length:=by rw[gv];omega
  simp only[go_sem,h20,hb,hne,e0,e1];refine W.draw 7 [0,1,0,4,12,31,0] Try.mixed (by kernel_rfl) (by kernel_rfl) ?_;simp only[go_sem];refine⟨ab x.parents,[],bD.pure fun H2=>DS x.parents (by omega) H2 _ ⟨rfl,rfl⟩,?_⟩;simp only[go_sem,Pl]
  repeat (refine And.intro (by first|omega|(simp;done)|(simp;omega)|(intros;omega)|exact⟨rfl,by omega,by omega,gZ _⟩) ?_)
  obtain⟨H1,hH1⟩:∃ H1,H1=ext (ext H' [.arr 0 83 [.lit (.int .i64 x.card),.vec x.parents.length (ints x.parents),.vec x.rows.length (x.rows.map ab)]]) [.arr 0 83 [.lit (.int .i64 x.card),.vec x.parents.length (ints x.parents),.lit (.slice none 0 0)]]:=⟨_,rfl⟩
  have n1:H1.next=H'.next+2:=by rw[hH1];rfl
  have gA:H1.get H'.next=some (.arr 0 83 [.lit (.int .i64 x.card),.vec x.parents.length (ints x.parents),.vec x.rows.length (x.rows.map ab)]):=by rw[hH1,dz (by simp [bn])];exact bY
  have gB:H1.get (H'.next+1)=some (.arr 0 83 [.lit (.int .i64 x.card),.vec x.parents.length (ints x.parents),.lit (.slice none 0 0)]):=by rw[hH1];exact bY (H:=ext H' [_])
  have o1:Over H' H1:=by rw[hH1];exact(Over.ext _ _).trans (.ext _ _)
  have lA:=ah gA;rw[hH1]at lA;simp only[go_sem,lA];rw[<- hH1];refine W.aK 35175782155264 (by rfl) (fun ρ' H2=>∃ (j:Nat) (rh:AVal),ρ' 33=aa j/\j<=x.rows.length/\Over H' H2/\H1.next<=H2.next/\H2.get (H'.next+1)=some (.arr 0 83 [.lit (.int .i64 x.card),.vec x.parents.length (ints x.parents),rh])/\aB (H'.next+2) H2 59 rh ((x.rows.take j).map ab)/\(j=0->rh=.lit (.slice none 0 0))) (fun ρ' H=>x.rows.length - (iv (ρ' 33)).toNat) ?_ ?_
  ·simp only[go_sem];exact⟨0,_,rfl,by omega,o1,gB,.nil,fun _=>rfl⟩
  rintro ρ' H2 ⟨j,rh,h33,hj,o2,hn2,gB2,hrh,hrh0⟩;refine ag _ _ _ (by rfl) ?_;have o2n:=o2.next;have lB:=ah gB2;by_cases hb2:(j:Int)<x.rows.length
  ·obtain⟨r,hr⟩:=ay (l:=x.rows) (i:=j) (by omega);have hrm:=List.mem_of_getElem? hr;have hrne:=aR hr;have w1:=IntWalk.i64_in ((j:Int)+1) (by omega);simp only[go_sem,h33,hb2,hr,hrne];obtain⟨rh2,H3,hA,hO,hn3,hp⟩:=DI (ab r) rfl hrh (by omega) (by simp;omega);simp only[ab]at hA;have hcells:=hO.cells;have hone:=hO.one;have g3:H3.get (H'.next+1)=some (.arr 0 83 [.lit (.int .i64 x.card),.vec x.parents.length (ints x.parents),rh]):=(hp _ (by omega) (hrh.ne (by omega))).trans gB2;have l3:=ah g3;refine W.draw 5 [0,1,0,4,12] Try.mixed (by kernel_rfl) (by kernel_rfl) ?_;simp only[go_sem,lB];refine⟨ab r,[],bD.pure fun H2=>DS r (by have:=f3 r hrm;omega) H2 _ ⟨rfl,rfl⟩,?_⟩;simp only[go_sem,h33,hA,l3,hcells,hone,w1]
   repeat (refine And.intro (by first|omega|(simp;done)|(simp;omega)|(intros;omega)|exact⟨rfl,by omega,by omega,gZ _⟩) ?_)
   have o3:Over H' H3:=⟨by omega,fun id h=>(hp id (by omega) (hrh.ne (by omega))).trans (o2.old id h)⟩
   refine⟨by rw[aC];omega,⟨j+1,rh2,by simp,by omega,o3.upd (by omega) _,by rw[aC];omega,by rw[af,if_pos rfl],?_,by omega⟩,by omega⟩;have e:(x.rows.take (j+1)).map ab=(x.rows.take j).map ab++[ab r]:=(by rw[aP hr];simp);rw[e];exact hO.keep (Nat.le_refl _) (by rw[aC];omega) fun id g h1 _ _ _=>by rw[af,if_neg (by omega)]
  ·rw[List.take_of_length_le (by omega)]at hrh;have R2:=R.over o2;have q3b:=ah R2.b3;obtain⟨nh2,H3,hA,hO,hn3,hp⟩:=Q0 (H:=H) (H':=H2) (v:=nh) (n:=k) (xs:=[.lit (.int .i64 x.card),.vec x.parents.length (ints x.parents),rh]) (by rw[List.all_cons,List.all_cons,List.all_cons,hrh.one];rfl) rfl (by omega) R2.nd (by have:=R2.nx;omega);have r2n:=R2.nx;have fr:∀ id,id<H.next+4->H3.get id=H2.get id:=fun id h=>hp id (by omega) (R2.nd.ne h);have g3:H3.live (H.next+3) 0=some (64,[.lit (.int .i64 d.grain),nh]):=ah ((fr _ (by omega)).trans R2.b3);have hcells:=hO.cells;have hone:=hO.one;have hrc:=hrh.cells;have hro:=hrh.one;have w1:=IntWalk.i64_in ((k:Int)+1) (by omega);simp only[go_sem,h20,h33,hb2,lB,q3b,hA,g3,hcells,hone,w1];obtain⟨H4,hH4⟩:∃ H4,H4=H3.upd (H.next+3) (.arr 0 64 [.lit (.int .i64 d.grain),nh2]):=⟨_,rfl⟩
   rw[<- hH4];refine(fun (h:∀ E:Env,E 20=aa ((k:Int)+1)->∃ s₃:St,cK Try.prog G0 ⟨E,H4⟩ s₃/\Hb.next<=s₃.H.next/\(∃ (k:Nat) (nh:AVal),s₃.ρ 20=aa k/\k<=d.nodes.length/\FiS d fv H s₃.H nh k (aV (d.nodes.take k)))/\d.nodes.length - (iv (s₃.ρ 20)).toNat<d.nodes.length - k)=>h _ (by simp only[go_sem])) fun E hE20=>?_;have n4:H4.next=H3.next:=(by rw[hH4];rfl);obtain⟨nb2,gn,b1,b2,rfl,b4,b5⟩:∃ id g,H.next+4<=id/\id<H3.next/\nh2=.own id g 0 (k+1) 3/\(aV (d.nodes.take k)++[.lit (.int .i64 x.card),.vec x.parents.length (ints x.parents),rh]).length=(k+1)*3/\H3.get id=some (.arr g 83 (aV (d.nodes.take k)++[.lit (.int .i64 x.card),.vec x.parents.length (ints x.parents),rh])):=by
    rcases hO with ⟨_,h,_⟩|h
    ·omega
    ·exact h
   have c0:∀ id,id<H.next+3->H4.get id=H2.get id:=fun id h=>by rw[hH4,af,if_neg (by omega)];exact fr id (by omega)
   have c3:H4.get (H.next+3)=some (.arr 0 64 [.lit (.int .i64 d.grain),.own nb2 gn 0 (k+1) 3]):=(by rw[hH4,af,if_pos rfl]);have c5:H4.get nb2=some (.arr gn 83 (aV (d.nodes.take k)++[.lit (.int .i64 x.card),.vec x.parents.length (ints x.parents),rh])):=(by rw[hH4,af,if_neg (by omega)];exact b5);have e5:aV (d.nodes.take (k+1))=aV (d.nodes.take k)++[aa x.card,ab x.parents,bc x]:=(by rw[aP hx,yn]);by_cases hr0:x.rows=[]
   ·have hrn:rh=.lit (.slice none 0 0):=hrh0 (by rw[hr0]at hj;simpa using hj);subst hrn;refine⟨⟨E,H4⟩,cK.refl _,by show Hb.next<=H4.next;omega,⟨k+1,.own nb2 gn 0 (k+1) 3,hE20.trans (by simp),by omega,⟨by show _<=H4.next;omega,⟨by have:=R2.ov.next;show _<=H4.next;omega,fun id h=>(c0 id (by omega)).trans (R2.ov.old id h)⟩,(c0 _ (by omega)).trans R2.b0,(c0 _ (by omega)).trans R2.b1,(c0 _ (by omega)).trans R2.b2,c3,.inr ⟨nb2,gn,b1,by show _<H4.next;omega,rfl,?_,?_⟩⟩⟩,?_⟩
    ·rw[gD];simp;omega
    ·show H4.get nb2=_;rw[e5,Cy hr0];exact c5
    ·show _ - (iv (E 20)).toNat<_;rw[hE20];simp only[aa,aU];omega
   ·obtain⟨rk,gr,r1,r2,rfl,r4⟩:∃ id g,H'.next+2<=id/\id<H2.next/\rh=.own id g 0 (x.rows.map ab).length 1/\H2.get id=some (.arr g 59 (x.rows.map ab)):=by
     rcases hrh with ⟨_,h⟩|h
     ·simp at h;exact absurd h hr0
     ·exact h
    have nhne:∀ g n,nh≠.own rk g 0 n 3:=fun g n he=>by
     rcases R.nd with ⟨h,_⟩|⟨i,g2,_,h,h2,_⟩
     ·rw[h]at he;cases he
     ·rw[h2]at he;have:=AVal.own.inj he;omega
    have c6:H4.get rk=some (.arr gr 59 (x.rows.map ab)):=(by rw[hH4,af,if_neg (by omega),hp rk r2 nhne];exact r4);have hne2:nb2≠rk:=by
     rintro rfl;rw[c5]at c6;have:=(Blk.arr.inj (Option.some.inj c6)).2.1;exact absurd this (by decide)
    have e6:∀ c:AVal,aV (d.nodes.take k)++[.lit (.int .i64 x.card),.vec x.parents.length (ints x.parents),c]=(aV (d.nodes.take k)++[.lit (.int .i64 x.card),.vec x.parents.length (ints x.parents)])++c :: []:=fun c=>by simp
    rw[e6]at c5;have e7:aV (d.nodes.take (k+1))=(aV (d.nodes.take k)++[.lit (.int .i64 x.card),.vec x.parents.length (ints x.parents)])++ao x.rows :: []:=(by rw[e5,rf hr0,<- e6];rfl);refine⟨⟨E,H4.eb rk nb2 (.arr gn 83 ((aV (d.nodes.take k)++[.lit (.int .i64 x.card),.vec x.parents.length (ints x.parents)])++ao x.rows :: []))⟩,cK.eb (s:=⟨E,H4⟩) aF c5 hne2 (by simp) (RO (fun c hc=>?_) ?_ fun c hc=>by cases hc),by show Hb.next<=H4.next;omega,
     ⟨k+1,.own nb2 gn 0 (k+1) 3,hE20.trans (by simp),by omega,⟨by show _<=H4.next;omega,⟨by have:=R2.ov.next;show _<=H4.next;omega,fun id h=>(kr (by omega) (by omega)).trans ((c0 id (by omega)).trans (R2.ov.old id h))⟩,(kr (by omega) (by omega)).trans ((c0 _ (by omega)).trans R2.b0),(kr (by omega) (by omega)).trans ((c0 _ (by omega)).trans R2.b1),(kr (by omega) (by omega)).trans ((c0 _ (by omega)).trans R2.b2),(kr (by omega) (by omega)).trans c3,.inr ⟨nb2,gn,b1,by show _<H4.next;omega,rfl,?_,?_⟩⟩⟩,?_⟩
    ·rcases List.mem_append.1 hc with hc|hc
     ·exact uB _ c hc
     ·simp only[List.mem_cons,List.not_mem_nil,or_false]at hc;rcases hc with rfl|rfl
      ·exact .lit _
      ·exact .cB _
    ·show Fz (fun id=>id=rk) H4 _ _ _;rw[show ao x.rows=.vec (x.rows.map ab).length (x.rows.map ab) by simp [ao]];refine .frz (S:=fun id=>id=rk) rfl c6 (by rw[Nat.mul_one]) fun j hj h2 h'=>?_;simp only[Nat.zero_add,List.getElem_map];exact .cB _
    ·rw[gD];simp;omega
    ·rw[e7];exact vj hne2
    ·show _ - (iv (E 20)).toNat<_;rw[hE20];simp only[aa,aU];omega
 have ek:k=d.nodes.length:=by omega
 subst ek;rw[List.take_of_length_le (Nat.le_refl _)]at R;obtain⟨nbk,gn,b1,b2,rfl,b4,b5⟩:∃ id g,H.next+4<=id/\id<H'.next/\nh=.own id g 0 d.nodes.length 3/\(aV d.nodes).length=d.nodes.length*3/\H'.get id=some (.arr g 83 (aV d.nodes)):=by
  rcases R.nd with ⟨_,h,_⟩|h
  ·have:=hR.n1.1;omega
  ·exact h
 simp only[go_sem,h20,hb,q0];refine aA.clo (yL d _ _ ⟨trivial,?_⟩);simp only[go_sem];obtain⟨H2,hH2⟩:∃ H2,H2=ext H' [mn d]:=⟨_,rfl⟩
 rw[<- hH2];have o2:Over H' H2:=by rw[hH2];exact .ext _ _
 have n2:H2.next=H'.next+1:=by rw[hH2];rfl
 have hbx:H2.get H'.next=some (mn d):=by rw[hH2];exact bY
 refine W.env fun E hE=>?_;have e2:E 2=.ptr H.next 0 0:=by rw[hE];simp only[go_sem]
 have e3:E 3=.ptr (H.next+1) 0 0:=by rw[hE];simp only[go_sem]
 have e4:E 4=.ptr (H.next+2) 0 0:=by rw[hE];simp only[go_sem]
 have e5:E 5=.ptr (H.next+3) 0 0:=by rw[hE];simp only[go_sem]
 let F:Nat->List AVal->AHeap->Prop:=fun lo cs Hx=>lo<=Hx.next/\(∀ id,id<H2.next->id≠nbk->Hx.get id=H2.get id)/\Hx.get nbk=some (.arr gn 83 cs)
 refine W.vh (f:=89) (first:=[]) (cap:=[.ptr H'.next 0 0]) (by show E 53=_;rw[hE];rfl) (yK d (by omega) hf.decs H'.next)
  (fun k Hx=>F H2.next (aV (dk d c k)) Hx) (fun _ _=>False)
  (fun k Hx h=>by rw[h.2.1 _ (by omega) (by omega)];exact hbx) (fun k Hx b h=>⟨h.1,fun id h1 h2=>by rw[af,if_neg (by omega)];exact h.2.1 id h1 h2,by rw[af,if_neg (by omega)];exact h.2.2⟩) (fun _ _ _ h=>h)
  (fun b=>⟨by rw[bn];omega,fun id h1 h2=>dz h1,by rw[dz (by omega),Ph];exact(o2.old _ b2).trans b5⟩) (by decide) yJ (fun _ _ _=>trivial) (fun _ _ _=>trivial) (fun k y Hx B Bb hy hj hn hB hBb=>?_) (fun Hx hj hn=>?_) (fun Hx hs hn=>hs.elim) (fun i Hx hs hn=>hs.elim)
 ·obtain⟨v,hv,rfl⟩:=uS hy;obtain⟨v1,v2,v3⟩:=j8 hv;obtain⟨x,hx⟩:=ay (l:=d.nodes) (i:=v) v1;have hxm:=List.mem_of_getElem? hx;obtain⟨x1,x2⟩:=hR.dec v x hx v2;refine ag _ _ _ (by rfl) ?_;simp only[go_sem,iV,bR,mz,List.foldl_cons,List.foldl_nil,List.zip_cons_cons,List.zip_nil_right,hB];obtain⟨H3,hH3⟩:∃ H3,H3=Hx.upd H2.next Bb:=⟨_,rfl⟩
  rw[<- hH3];obtain⟨st,pd,n',en,ps',as',bo,hBe⟩:=hBb;have n3:H3.next=Hx.next:=by rw[hH3];rfl
  have hj3:F H2.next (aV (dk d c k)) H3:=by rw[hH3];exact⟨hj.1,fun id h1 h2=>by rw[af,if_neg (by omega)];exact hj.2.1 id h1 h2,by rw[af,if_neg (by omega)];exact hj.2.2⟩
  have jB:H3.get H2.next=some Bb:=by rw[hH3,af,if_pos rfl]
  refine W.env fun E1 hE1=>?_;have m2:E1 2=.ptr H.next 0 0:=by rw[hE1];simp only[go_sem,bR,e2]
  have m3:E1 3=.ptr (H.next+1) 0 0:=by rw[hE1];simp only[go_sem,bR,e3]
  have m5:E1 5=.ptr (H.next+3) 0 0:=by rw[hE1];simp only[go_sem,bR,e5]
  have m11:E1 11=aa k:=by rw[hE1];simp only[go_sem,bR]
  have m12:E1 12=aa v:=by rw[hE1];simp only[go_sem,bR]
  clear hE1;have hvn:(v:Int)<d.nodes.length:=by omega
  have s2:=R.over o2;have oldH:∀ {Hy:AHeap},(∀ id,id<H2.next->id≠nbk->Hy.get id=H2.get id)->Hy.live H.next 0=some (39,[.lit (.int .i64 d.grain),.vec d.nodes.length (aD d.nodes),.lit (.int .u64 (d.decs:Int)),.vec d.utils.length (aO d.utils)])/\Hy.live (H.next+1) 0=some (108,[fv])/\Hy.live (H.next+3) 0=some (64,[.lit (.int .i64 d.grain),.own nbk gn 0 d.nodes.length 3]):=fun h =>
   ⟨ah ((h _ (by omega) (by omega)).trans s2.b0),ah ((h _ (by omega) (by omega)).trans s2.b1),ah ((h _ (by omega) (by omega)).trans s2.b3)⟩
  obtain⟨k0,k1,k3⟩:=oldH hj3.2.1;have ps:=km hn8 x2 hR.card;have hpm:=mv (ns:=d.nodes) (x:=x) (fun q hq=>by have:=x2.2 q hq;omega) hR.card;have hpp:1<=au (aQ d.nodes x):=fg fun c hc=>(hpm c hc).1;have hpb:=ps.prod;have hrn:((cw d.nodes x:Nat):Int)=au (aQ d.nodes x):=by unfold cw;omega
  have hlk:(dk d c k)[v]?=some x:=by rw[mg hx];unfold fy;rw[if_neg (by omega)]
  have el:=gD (dk d c k);have hvk:v*3+2<(aV (dk d c k)).length:=by rw[el,jA];omega
  refine W.kv (Q':=fun e s2=>e=.normal/\∃ rh,F H3.next (setAt (aV (dk d c k)) (v*3+2) [rh]) s2.H/\s2.H.get H2.next=some Bb/\aB H3.next s2.H 59 rh ((List.range (cw d.nodes x)).map fun r=>ab (bw d.grain x.card (c k r)))) ?_ ?_;rotate_left
  ·rintro e sx ⟨rfl,rh,hF,jBx,hrh⟩;obtain⟨rk,gr,r1,r2,rfl,r4⟩:∃ id g,H3.next<=id/\id<sx.H.next/\rh=.own id g 0 ((List.range (cw d.nodes x)).map fun r=>ab (bw d.grain x.card (c k r))).length 1/\sx.H.get id=some (.arr g 59 ((List.range (cw d.nodes x)).map fun r=>ab (bw d.grain x.card (c k r)))):=by
    rcases hrh with ⟨_,h⟩|h
    ·have:cw d.nodes x=0:=(by simpa using h);omega
    ·exact h
   have hfs:=Pi (c:=c) hv hx;have edr:cM d.grain d.nodes c k x=(List.range (cw d.nodes x)).map fun r=>bw d.grain x.card (c k r):=rfl;have ey:bc { x with rows:=x.rows++cM d.grain d.nodes c k x }=.vec ((List.range (cw d.nodes x)).map fun r=>ab (bw d.grain x.card (c k r))).length ((List.range (cw d.nodes x)).map fun r=>ab (bw d.grain x.card (c k r))):=by
    have hne:x.rows++cM d.grain d.nodes c k x≠[]:=by
     rw[x1,edr,List.nil_append];intro h;have:cw d.nodes x=0:=(by simpa using h);omega
    rw[rf hne];show ao (x.rows++_)=_;rw[x1,edr,List.nil_append];simp [ao,List.map_map,Function.comp_def]
   have hob:=hF.2.2;rw[dW hvk]at hob;have hc2:aV (dk d c (k+1))=(aV (dk d c k)).set (v*3+2) (.vec ((List.range (cw d.nodes x)).map fun r=>ab (bw d.grain x.card (c k r))).length ((List.range (cw d.nodes x)).map fun r=>ab (bw d.grain x.card (c k r)))):=by
    rw[hfs,Cz (y:={ x with rows:=x.rows++cM d.grain d.nodes c k x }) hlk ⟨rfl,rfl⟩,ey,dW hvk]
   have hne2:nbk≠rk:=(by have:=hj3.1;omega);refine⟨⟨sx.ρ,sx.H.eb rk nbk (.arr gn 83 (aV (dk d c (k+1))))⟩,cK.eb aF hob hne2 (by rw[hc2,List.length_set,List.length_set]) ?_,Nat.le_refl _,⟨_,_,_,_,_,_,_,by rw[kr (by omega) (by omega),jBx,hBe]⟩,by rw[kr (by omega) (by omega)];exact jBx,by show Hx.next<=sx.H.next;have:=hF.1;omega,
    ⟨by show H2.next<=sx.H.next;have:=hF.1;omega,fun id h1 h2=>(kr (by omega) h2).trans (hF.2.1 id h1 h2),vj hne2⟩⟩
   rw[hc2];refine zj (uB _) ?_;refine .frz (S:=fun id=>id=rk) rfl r4 (by rw[Nat.mul_one]) fun j hj h2 h'=>?_;simp only[Nat.zero_add,List.getElem_map];exact .cB _
  refine ag _ _ _ (by rfl) ?_;simp only[go_sem,m2,m12,k0];refine aA.clo (DY d.nodes v x hx (fun q hq=>by have:=x2.2 q hq;omega) ps _ _ ⟨⟨_,_,_,_,_,_,_,by rw[jB,hBe]⟩,?_⟩);rw[<- hrn];simp only[go_sem];refine W.aK 1237940038132458770292285440 (by rfl) (fun ρ2 H4=>∃ (r:Nat) (rh:AVal),ρ2 60=aa r/\r<=cw d.nodes x/\F H3.next (setAt (aV (dk d c k)) (v*3+2) [rh]) H4/\H4.get H2.next=some Bb/\aB H3.next H4 59 rh ((List.range r).map fun r=>ab (bw d.grain x.card (c k r)))/\(r=0->rh=.lit (.slice none 0 0)))
   (fun ρ2 H=>cw d.nodes x - (iv (ρ2 60)).toNat) ?_ ?_
  ·simp only[go_sem];refine⟨0,.lit (.slice none 0 0),rfl,by omega,⟨Nat.le_refl _,hj3.2.1,?_⟩,jB,.nil,fun _=>rfl⟩;rw[show setAt (aV (dk d c k)) (v*3+2) [.lit (.slice none 0 0)]=aV (dk d c k) from by
    have:=Cz (y:=x) hlk ⟨rfl,rfl⟩;rw[Cy x1]at this;rw[<- this];congr 1;exact jF hlk]
   exact hj3.2.2
  rintro ρ2 H4 ⟨r,rh,h60,hr,hF,jB4,hrh,hrh0⟩;refine W.env fun E2 hE2=>?_;have i2:E2 2=.ptr H.next 0 0:=by rw[hE2];simp only[go_sem,m2]
  have i3:E2 3=.ptr (H.next+1) 0 0:=by rw[hE2];simp only[go_sem,m3]
  have i5:E2 5=.ptr (H.next+3) 0 0:=by rw[hE2];simp only[go_sem,m5]
  have i11:E2 11=aa k:=by rw[hE2];simp only[go_sem,m11]
  have i12:E2 12=aa v:=by rw[hE2];simp only[go_sem,m12]
  have i59:E2 59=aa (cw d.nodes x):=by rw[hE2];simp only[go_sem]
  have i60:E2 60=aa r:=by rw[hE2];simp only[go_sem,h60]
  clear hE2;refine ag _ _ _ (by rfl) ?_;by_cases hb2:(r:Int)<cw d.nodes x
  ·obtain⟨k0,k1,k3⟩:=oldH hF.2.1;have kn:=ah hF.2.2;have hne:=dH hx;have ec:=iI hx;have w1:=IntWalk.i64_in ((r:Int)+1) (by omega);obtain⟨cb,hpc⟩:=hfv k r v x H4 hv hx (by omega) ⟨by omega,fun id h=>(hF.2.1 id (by omega) (by omega)).trans (s2.ov.old id h)⟩;have hs:(setAt (aV (dk d c k)) (v*3+2) [rh])[v*3+2]?=some rh:=(by rw[dW hvk,List.getElem?_set_self hvk]);obtain⟨rh2,H5,hA,hO,hn5,hp⟩:=DI (ab (bw d.grain x.card (c k r))) rfl hrh hF.1 (by rw[List.length_map,List.length_range];omega);simp only[ab]at hA;have hcells:=hO.cells;have hone:=hO.one;have hpr:bD Try.prog G0 (.clo 88 [] []) [.lit (.int .i64 d.grain),.lit (.int .i64 x.card),.lit (.int .i64 (c k r))] H4 (ab (bw d.grain x.card (c k r))) []:=bD.pure fun H2=>QN d.grain x.card (c k r) (by have:=hR.card x hxm;omega) cb H2 _ ⟨rfl,rfl⟩;have hrhs:rh=.lit (.slice none 0 0)\/∃ i g n,rh=.own i g 0 n 1/\H3.next<=i/\i<H4.next:=by
    rcases hrh with ⟨h,_⟩|⟨i,g,h1,h2,h3,_⟩
    ·exact .inl h
    ·exact .inr ⟨i,g,_,h3,h1,h2⟩
   have hset:∀ a b,setAt (setAt (aV (dk d c k)) (v*3+2) [a]) (v*3+2) [b]=setAt (aV (dk d c k)) (v*3+2) [b]:=fun a b=>by rw[dW hvk,dW (by rw[List.length_set];exact hvk),dW hvk,List.set_set]
   have hslen:∀ a,(setAt (aV (dk d c k)) (v*3+2) [a]).length=(aV (dk d c k)).length:=fun a=>by rw[dW hvk,List.length_set]
   have hg5:H5.get nbk=some (.arr gn 83 (setAt (aV (dk d c k)) (v*3+2) [rh])):=(hp _ (by have:=hF.1;omega) (hrh.ne (by omega))).trans hF.2.2;have kn5:=ah hg5;have ho5:∀ id,id<H2.next->id≠nbk->H5.get id=H2.get id:=fun id h1 h2=>(hp _ (by have:=hF.1;omega) (hrh.ne (by omega))).trans (hF.2.1 id h1 h2);have jB5:H5.get H2.next=some Bb:=(hp _ (by have:=hF.1;omega) (hrh.ne (by omega))).trans jB4;obtain⟨hn34,-,-⟩:=hF;rcases rs with _|⟨b0,rs⟩<;>rcases hrhs with rfl|⟨i,g,n,rfl,hi1,hi2⟩
   all_goals
    simp only[go_sem,i60,i59,hb2];refine W.draw 24 [0,1,0,0,8,0,56,120,248,0,512,0,2048,0,14336,30720,63488,0,0,0,917504,2096640,4193792,8388600] Try.mixed (by kernel_rfl) (by kernel_rfl) ?_;simp only[go_sem,i2,i3,i5,i11,i12,k0,k1,k3,kn,hvn,hne,ec,hs];refine⟨.lit (.int .i64 (c k r)),_,hpc,ab (bw d.grain x.card (c k r)),[],hpr,?_⟩;simp only[go_sem,i2,i3,i5,i11,i12,i60,hvn,kn5,hA,hcells,hone,w1];refine⟨by repeat' (first|refine And.intro ?_ ?_|(intro x hx;omega)),by repeat' (first|refine And.intro ?_ ?_|(intro x hx;omega)),by rw[hslen];omega,by rw[aC];omega,⟨_,_,_,_,_,_,_,by rw[af,if_neg (by omega),jB5,hBe]⟩,
     ⟨r+1,rh2,by simp,by omega,⟨by rw[aC];omega,fun id h1 h2=>by rw[af,if_neg h2];exact ho5 id h1 h2,by rw[af,if_pos rfl,hset]⟩,by rw[af,if_neg (by omega)];exact jB5,?_,by omega⟩,by rw[h60];simp only[aa,aU];omega⟩
    have e:((List.range (r+1)).map fun r=>ab (bw d.grain x.card (c k r)))=((List.range r).map fun r=>ab (bw d.grain x.card (c k r)))++[ab (bw d.grain x.card (c k r))]:=(by rw[List.range_succ];simp);show aB _ _ _ _ ((List.range (r+1)).map fun r=>ab (bw d.grain x.card (c k r)));rw[e];exact hO.keep (Nat.le_refl _) (by rw[aC];omega) fun id g h1 _ _ _=>by rw[af,if_neg (by omega)]
  ·have er:r=cw d.nodes x:=(by omega);subst er;simp only[go_sem,i59,i60,hb2];exact⟨rh,hF,jB4,hrh⟩
 ·have s2:=R.over o2;have f4:=ah ((hj.2.1 _ (by omega) (by omega)).trans s2.b2);have f5:=ah ((hj.2.1 _ (by omega) (by omega)).trans s2.b3);simp only[go_sem,e4,e5,f4,f5];have ovx:Over H Hx:=⟨by omega,fun id h=>(hj.2.1 id (by omega) (by omega)).trans (s2.ov.old id h)⟩
  refine aw.bk (v':=bj d.grain (bF d c)) aF hcl (ovx.upd (by omega) _) (.agg rfl fun i hi _=>?_) hK
  match i,hi with
  | 0,_=>exact .lit _
  | 1,_ =>
   have hg:∀ b,(Hx.upd (H.next+2) b).get nbk=some (.arr gn 83 (aV (bF d c))):=fun b=>by
    rw[af,if_neg (by omega)];have:=hj.2.2;rw[uT]at this;exact this
   show Fz _ _ _ (.own nbk gn 0 d.nodes.length 3) (.vec (bF d c).length (aD (bF d c)));rw[show (bF d c).length=d.nodes.length from jA _ _ _];refine .frz (by show H.next<=_;omega) (hg _) (by rw[gv];congr 1;exact jA _ _ _) fun j hj h2 h'=>?_;simp only[Nat.zero_add];exact CC _ j _ _
end Go.Proofs
namespace Go.Proofs
open Go.Hx
structure UtilOk (ns:List NodeP)(u:UtilP):Prop where
 vars:bT u.vars ns.length
 size:(u.w.length:Int)=au (aL (aq ns) u.vars)
 w:∀ x∈u.w,-100<=x/\x<=100
def uV (d:InfP):Prop:=d.utils.length<=4/\∀ u∈d.utils,UtilOk d.nodes u
theorem pA {ns:List NodeP}{vars:List Int}(h8:ns.length<=8)(hp:bT vars ns.length)(hc:∀ y∈ns,1<=y.card/\y.card<=4):da (aL (aq ns) vars) :=
 km (x:=⟨0,vars,[]⟩) h8 hp hc
set_option maxHeartbeats 2000000 in
theorem Q1 (d:InfP)(hf:InfFit d)(h8:d.nodes.length<=8)(hc:∀ y∈d.nodes,1<=y.card/\y.card<=4)(H:AHeap)(K:ARes->AHeap->Prop)(hK:K (.ret (.lit (.bool (kh (uV d))))) H):ae Try.prog G0 50 [jv d] H K:=by
 refine ae.clo ⟨_,Try.func50,rfl,rfl⟩ fun hcl=>?_;have hul:=hf.utils.1;have no:¬ uV d->∀ H',Over H H'->aw Try.prog G0 H K (.lit (.bool false)) H':=fun h H' ov=>aw.bk aF hcl ov (.lit _) (by rw[fD h]at hK;exact hK);refine ae.aS (n:=74) (rs:=[.tmp 2]) Try.func50 rfl rfl rfl (by decide) (by kernel_rfl) (by simp) ?_;simp only[go_sem,mm,eQ];obtain⟨H1,hH1⟩:∃ H1,H1=ext H [.arr 0 39 [.lit (.int .i64 d.grain),.vec d.nodes.length (aD d.nodes),.lit (.int .u64 (d.decs:Int)),.vec d.utils.length (aO d.utils)]]:=⟨_,rfl⟩
 have l1:H1.live H.next 0=some (39,[.lit (.int .i64 d.grain),.vec d.nodes.length (aD d.nodes),.lit (.int .u64 (d.decs:Int)),.vec d.utils.length (aO d.utils)]):=by rw[hH1];exact ah (br ..)
 have n1:H1.next=H.next+1:=by rw[hH1];rfl
 have o1:Over H H1:=by rw[hH1];exact .ext _ _
 rw[<- hH1];refine W.aK 9444732965739290166632 (by rfl) (fun ρ H'=>∃ k:Nat,ρ 18=aa k/\k<=d.utils.length/\Over H1 H'/\ρ 3=.lit (.bool (decide ((d.utils.length:Int)<=4)))/\(0<k->d.utils.length<=4)/\∀ u∈d.utils.take k,UtilOk d.nodes u) (fun ρ H=>d.utils.length - (iv (ρ 18)).toNat) ?_ ?_
 ·simp only[go_sem];exact⟨0,rfl,by omega,.refl _,by omega,by simp⟩
 rintro ρ H' ⟨k,h18,hk,ov,h3,hk4,hall⟩;refine W.env fun E hE=>?_;have e1:E 1=.ptr H.next 0 0:=by rw[hE];simp only[go_sem]
 have e3:E 3=.lit (.bool (decide ((d.utils.length:Int)<=4))):=by rw[hE];simp only[go_sem,h3]
 have e16:E 16=.vec d.utils.length (aO d.utils):=by rw[hE];simp only[go_sem]
 have e17:E 17=aa d.utils.length:=by rw[hE];simp only[go_sem]
 have e18:E 18=aa k:=by rw[hE];simp only[go_sem,h18]
 clear hE;refine ag _ _ _ (by rfl) ?_;have ovn:=ov.next;have l2:=(ov.live (g:=0) (by omega:H.next<H1.next)).trans l1;by_cases hb:(k:Int)<d.utils.length;rotate_left
 ·rw[List.take_of_length_le (by omega)]at hall;by_cases h4:(d.utils.length:Int)<=4
  ·simp only[go_sem,e3,e17,e18,hb,h4];rw[eF ⟨by omega,hall⟩]at hK;exact aw.bk aF hcl (o1.trans ov) (.lit _) hK
  ·simp only[go_sem,e3,e17,e18,hb,h4];exact no (fun h=>by have:=h.1;omega) _ (o1.trans ov)
 obtain⟨u,hu⟩:=ay (l:=d.utils) (i:=k) (by omega);have hum:=List.mem_of_getElem? hu;obtain⟨f1,f2⟩:=hf.utils.2 u hum;have hne:=qZ hu;have p0:=ur hu;have p1:k*2+2<=(aO d.utils).length:=by rw[j7];omega
 have ove:∀ L,Over H (ext H' L):=fun L=>(o1.trans ov).trans (.ext _ _);by_cases h4:(d.utils.length:Int)<=4;rotate_left
 ·simp only[go_sem,e3,e16,e17,e18,hb,h4,hne,p0,p1];exact no (fun h=>by have:=h.1;omega) _ (ove _)
 have l3:∀ L,(ext H' L).live H.next 0=_:=fun L=>(dS (by omega)).trans l2;simp only[go_sem,e1,e3,e16,e17,e18,hb,h4,hne,p0,p1,l3];obtain⟨H2,hH2⟩:∃ H2,H2=ext H' [.arr 0 85 [.vec u.vars.length (ints u.vars),.vec u.w.length (ints u.w)]]:=⟨_,rfl⟩
 have m1:H2.live H'.next 0=some (85,[.vec u.vars.length (ints u.vars),.vec u.w.length (ints u.w)]):=by rw[hH2];exact ah bY
 have m2:=l3 [.arr 0 85 [.vec u.vars.length (ints u.vars),.vec u.w.length (ints u.w)]];rw[<- hH2]at m2;have n2:H2.next=H'.next+1:=by rw[hH2];rfl
 have ov2:Over H H2:=by rw[hH2];exact ove _
 rw[<- hH2];refine aA.clo (DU u.vars d.nodes.length (by omega) _ _ ⟨trivial,?_⟩);by_cases c1:bT u.vars d.nodes.length;rotate_left
 ·simp only[go_sem,c1];exact no (fun h=>c1 (h.2 u hum).vars) _ ov2
 have sm:=pA h8 c1 hc;have pl:(aL (aq d.nodes) u.vars).length=u.vars.length:=fU _ _;have v8:=c1.len;simp only[go_sem,c1,m1];refine W.aK 562881233944896 (by rfl) (fun ρ' H3=>H3=H2/\∃ j:Nat,ρ' 36=aa j/\j<=u.vars.length/\ρ' 6=aa (au ((aL (aq d.nodes) u.vars).take j))) (fun ρ' H=>u.vars.length - (iv (ρ' 36)).toNat) ?_ ?_
 ·simp only[go_sem];exact⟨0,rfl,by omega,by simp [fQ]⟩
 rintro ρ' H3 ⟨rfl,j,h36,hj,h6⟩;refine ag _ _ _ (by rfl) ?_;by_cases hb2:(j:Int)<u.vars.length
 ·obtain⟨q,hq⟩:=ay (l:=u.vars) (i:=j) (by omega);obtain⟨i,rfl,y,hy⟩:=kS (l:=d.nodes) (c1.2 q (List.mem_of_getElem? hq)).1 (c1.2 q (List.mem_of_getElem? hq)).2;have hne2:=aR hq;have hne3:=dH hy;have ey:=iI hy;have hi:(i:Int)<d.nodes.length:=by have:=aG hy;omega
  have pk:(aL (aq d.nodes) u.vars)[j]?=some y.card:=by rw[lg hq,Int.toNat_natCast,bU (cV hy)]
  have b1:=(sm.take (j+1)).prod;rw[aP pk,eC]at b1;have w1:=IntWalk.i64_in ((j:Int)+1) (by omega);have w2:=IntWalk.i64_in (au ((aL (aq d.nodes) u.vars).take j)*y.card) (by omega);simp only[go_sem,h36,h6,e1,m2,hb2,hq,hne2,hne3,hi,ey,w1,w2];exact⟨⟨j+1,by simp,by omega,by rw[aP pk,eC]⟩,by omega⟩
 rw[List.take_of_length_le (by omega)]at h6;by_cases c2:(u.w.length:Int)=au (aL (aq d.nodes) u.vars);rotate_left
 ·simp only[go_sem,h36,h6,m1,hb2,c2];exact no (fun h=>c2 (h.2 u hum).size) _ ov2
 simp only[go_sem,h36,h6,m1,hb2,c2];refine W.aK 4721790022117341791240 (by rfl) (fun ρ2 H4=>H4=H3/\∃ i:Nat,ρ2 59=aa i/\i<=u.w.length/\ρ2 3=.lit (.bool true)/\∀ w∈u.w.take i,-100<=w/\w<=100) (fun ρ2 H=>u.w.length - (iv (ρ2 59)).toNat) ?_ ?_
 ·simp only[go_sem];exact⟨0,rfl,by omega,by simp⟩
 rintro ρ2 H4 ⟨rfl,i,h59,hi,h3',hw⟩;refine ag _ _ _ (by rfl) ?_;have hpr:=sm.prod;by_cases hb3:(i:Int)<u.w.length<;>have hb3':=hb3<;>rw[c2]at hb3'
 ·obtain⟨a,ha⟩:=ay (l:=u.w) (i:=i) (by omega);have ham:=List.mem_of_getElem? ha;have hane:=aR ha;by_cases d1:a >= -100;rotate_left
  ·simp only[go_sem,h59,h3',hb3,hb3',ha,hane,d1];exact no (fun h=>by have:=(h.2 u hum).w a ham;omega) _ ov2
  by_cases d2:a<=100;rotate_left
  ·simp only[go_sem,h59,h3',hb3,hb3',ha,hane,d1,d2];exact no (fun h=>by have:=(h.2 u hum).w a ham;omega) _ ov2
  have w1:=IntWalk.i64_in ((i:Int)+1) (by omega);simp only[go_sem,h59,h3',hb3,hb3',ha,hane,d1,d2,w1];refine⟨⟨i+1,by simp,by omega,fun w hw'=>?_⟩,by omega⟩;rw[aP ha]at hw';rcases List.mem_append.1 hw' with hw'|hw'
  ·exact hw w hw'
  ·obtain rfl:=List.mem_singleton.1 hw';exact⟨by omega,by omega⟩
 ·have w1:=IntWalk.i64_in ((k:Int)+1) (by omega);rw[List.take_of_length_le (by omega)]at hw;simp only[go_sem,h59,h3',e18,hb3',w1];refine⟨by omega,⟨k+1,by simp,by omega,by rw[hH2];exact ov.trans (.ext _ _),fun _=>by omega,fun y hy=>?_⟩,by rw[h18];simp only[aa,aU];omega⟩;rw[aP hu]at hy;rcases List.mem_append.1 hy with hy|hy
  ·exact hall y hy
  ·obtain rfl:=List.mem_singleton.1 hy;exact⟨c1,c2,hw⟩
structure InfOk (d:InfP):Prop where
 n:RightN d
 net:NetOk d.grain (bF d fun _ _=>0)
 utils:uV d
end Go.Proofs
namespace Go.Proofs
open Go.Hx
theorem rF (g card x:Int):(bw g card x).length=card.toNat:=by simp [bw]
theorem rG {d:InfP}{c:Nat->Nat->Int}{y:NodeP}(h:y∈bF d c):∃ v x,d.nodes[v]?=some x/\y=fy d c (ba d).length v x:=by
 obtain⟨v,hv⟩:=List.mem_iff_getElem?.1 h;have hl:=aG hv;rw[show (bF d c).length=d.nodes.length from jA _ _ _]at hl;obtain⟨x,hx⟩:=ay hl;have:=mg (c:=c) (k:=(ba d).length) hx;rw[show dk d c (ba d).length=bF d c from rfl,hv]at this;exact⟨v,x,hx,Option.some.inj this⟩
theorem DK {d:InfP}(hf:InfFit d)(hR:RightN d)(c:Nat->Nat->Int):mu (bF d c):=by
 refine⟨by rw[show (bF d c).length=d.nodes.length from jA _ _ _];exact hf.nodes.1,fun y hy=>?_⟩;obtain⟨v,x,hx,rfl⟩:=rG hy;have hxm:=List.mem_of_getElem? hx;obtain⟨f1,f2,f3⟩:=hf.nodes.2 x hxm;unfold fy;split
 ·rename_i h;obtain⟨x1,x2⟩:=hR.dec v x hx h.1;have ps:=(km hR.n1.2 x2 hR.card).prod;have hc:=hR.card x hxm;refine⟨f1,?_,fun r hr=>?_⟩
  ·show ((x.rows++cM d.grain d.nodes c (cL d.decs v) x).length:Int)<_;rw[x1];simp only[cM,List.nil_append,List.length_map,List.length_range,cw];omega
  ·rw[show ({ x with rows:=x.rows++cM d.grain d.nodes c (cL d.decs v) x }:NodeP).rows=x.rows++cM d.grain d.nodes c (cL d.decs v) x from rfl,x1,List.nil_append]at hr;obtain⟨i,_,rfl⟩:=List.mem_map.1 hr;rw[rF];omega
 ·exact⟨f1,f2,f3⟩
theorem Q2 (d:InfP)(hf:InfFit d)(H:AHeap)(K:ARes->AHeap->Prop)(hK:K (.ret (aa (if kh (InfOk d) then 0 else 200))) H):ae Try.prog G0 11 [jv d] H K:=by
 refine ae.clo ⟨_,Try.func11,rfl,rfl⟩ fun hcl=>?_;have no:¬ InfOk d->∀ H',Over H H'->aw Try.prog G0 H K (.lit (.int .i64 200)) H':=fun h H' ov=>aw.bk aF hcl ov (.lit _) (by rw[fD h]at hK;exact hK);have hg:InfOk d->1<=d.grain/\d.grain<=60:=fun h=>h.net.g1;refine ae.aS (n:=25) (rs:=[.tmp 2]) Try.func11 rfl rfl rfl (by decide) (by kernel_rfl) (by simp) ?_;simp only[go_sem,mm,eQ];obtain⟨H1,hH1⟩:∃ H1,H1=ext H [.arr 0 39 [.lit (.int .i64 d.grain),.vec d.nodes.length (aD d.nodes),.lit (.int .u64 (d.decs:Int)),.vec d.utils.length (aO d.utils)]]:=⟨_,rfl⟩
 have l1:H1.live H.next 0=some (39,[.lit (.int .i64 d.grain),.vec d.nodes.length (aD d.nodes),.lit (.int .u64 (d.decs:Int)),.vec d.utils.length (aO d.utils)]):=by rw[hH1];exact ah (br ..)
 have o1:Over H H1:=by rw[hH1];exact .ext _ _
 rw[<- hH1];by_cases c1:d.grain<1
 ·simp only[go_sem,c1];exact no (fun h=>by have:=hg h;omega) _ o1
 by_cases c2:d.grain > 60
 ·simp only[go_sem,l1,c1,c2];exact no (fun h=>by have:=hg h;omega) _ o1
 simp only[go_sem,l1,c1,c2];refine aA.clo (QP d hf _ _ ⟨trivial,?_⟩);by_cases c3:RightN d;rotate_left
 ·rw[fD c3];simp only[go_sem];exact no (fun h=>c3 h.n) _ o1
 rw[eF c3];simp only[go_sem,l1];refine aA.clo (DJ d hf c3 (fun _ _=>0) _ [] _ (fun i h=>by cases h) rfl rfl (fun p r v x H2 _ hx _ _=>⟨⟨Int.le_refl 0,by have:=c3.card x (List.mem_of_getElem? hx);omega⟩,bD.pure fun H3=>QO _ _ H3 _ ⟨rfl,rfl⟩⟩) _ ⟨trivial,?_⟩);simp only[go_sem];refine aA.clo (Rz d.grain _ (DK hf c3 _) _ _ ⟨trivial,?_⟩);by_cases c4:NetOk d.grain (bF d fun _ _=>0);rotate_left
 ·rw[u9 c4];simp only[go_sem];exact no (fun h=>c4 h.net) _ o1
 rw[u7 c4];simp only[go_sem,l1];refine aA.clo (Q1 d hf c3.n1.2 c3.card _ _ ⟨trivial,?_⟩);by_cases c5:uV d;rotate_left
 ·rw[fD c5];simp only[go_sem];exact no (fun h=>c5 h.utils) _ o1
 rw[eF c5];simp only[go_sem];rw[eF (⟨c3,c4,c5⟩:InfOk d)]at hK;exact aw.bk aF hcl o1 (.lit _) hK
end Go.Proofs
namespace Go.Proofs
open Go.Hx
structure PolOk (d:InfP)(p:List (List Int)):Prop where
 len:p.length=(ba d).length
 row:∀ (k v:Nat) (x:NodeP) (l:List Int),(ba d)[k]?=some v->d.nodes[v]?=some x->p[k]?=some l->l.length=cw d.nodes x/\∀ a∈l,0<=a/\a<x.card
def pB (p:List (List Int)):Prop:=(p.length:Int)<2 ^ 38/\∀ r∈p,(r.length:Int)<2 ^ 38
noncomputable def dI (d:InfP)(p:List (List Int)):Int:=if kh (InfOk d) then (if kh (PolOk d p) then 0 else 201) else 200
set_option maxHeartbeats 2000000 in
theorem DL (d:InfP)(hf:InfFit d)(p:List (List Int))(hp:pB p)(H:AHeap)(K:ARes->AHeap->Prop)(hK:K (.ret (aa (dI d p))) H):ae Try.prog G0 21 [jv d,ao p] H K:=by
 refine ae.clo ⟨_,Try.func21,rfl,rfl⟩ fun hcl=>?_;refine ae.aS (n:=64) (rs:=[.cell 4 43]) Try.func21 rfl rfl rfl (by decide) (by kernel_rfl) (by simp) ?_;simp only[go_sem,mm,eQ];obtain⟨H1,hH1⟩:∃ H1,H1=ext H [.arr 0 39 (eQ d),.arr 0 48 [ao p],.arr 0 43 [.lit (.int .i64 0)]]:=⟨_,rfl⟩
 have g1:H1.get H.next=some (.arr 0 39 (eQ d)):=by rw[hH1];exact br ..
 have g2:H1.get (H.next+1)=some (.arr 0 48 [ao p]):=by rw[hH1];exact bu H _ 1 (by simp)
 have g3:H1.get (H.next+2)=some (.arr 0 43 [.lit (.int .i64 0)]):=by rw[hH1];exact bu H _ 2 (by simp)
 have l1:=ah g1;have l3:=ah g3;have n1:H1.next=H.next+3:=by rw[hH1];rfl
 have o1:Over H H1:=by rw[hH1];exact .ext _ _
 unfold eQ at hH1 l1;rw[<- hH1];refine aA.clo (Q2 d hf _ _ ⟨trivial,?_⟩);by_cases hok:InfOk d;rotate_left
 ·rw[fD hok];simp only[go_sem,l3];unfold dI at hK;rw[fD hok]at hK;exact aw.bk aF hcl (o1.upd (by omega) _) (.lit _) hK
 rw[eF hok];have hR:=hok.n;have no:¬ PolOk d p->∀ H',Over H H'->aw Try.prog G0 H K (.lit (.int .i64 201)) H':=fun h H' ov=>aw.bk aF hcl ov (.lit _) (by unfold dI at hK;rw[eF hok,fD h]at hK;exact hK);have nb0:H.next≠H1.next:=by omega
 have l1e:∀ L,(ext H1 L).live H.next 0=_:=fun L=>(dS (by omega)).trans l1;simp only[go_sem,l1e];refine aA.clo (yL d _ _ ⟨trivial,?_⟩);simp only[go_sem];obtain⟨H2,hH2⟩:∃ H2,H2=ext (ext H1 [.arr 0 3 [.lit (.int .i64 0)]]) [mn d]:=⟨_,rfl⟩
 rw[<- hH2];have o2:Over H1 H2:=by rw[hH2];exact(Over.ext _ _).trans (.ext _ _)
 have n2:H2.next=H.next+5:=by rw[hH2,bn,bn,n1];rfl
 have hbx:H2.get (H.next+4)=some (mn d):=by rw[hH2,show H.next+4=(ext H1 [.arr 0 3 [.lit (.int .i64 0)]]).next by rw[bn,n1];rfl];exact bY
 have g6:H2.get (H.next+3)=some (.arr 0 3 [.lit (.int .i64 0)]):=by rw[hH2,c9 _ _ _ (by rw[bn,n1];simp),show H.next+3=H1.next by omega];exact bY
 have o02:=o1.trans o2;refine W.env fun E hE=>?_;have e2:E 2=.ptr H.next 0 0:=by rw[hE];simp only[go_sem]
 have e3:E 3=.ptr (H.next+1) 0 0:=by rw[hE];simp only[go_sem]
 have e4:E 4=.ptr (H.next+2) 0 0:=by rw[hE];simp only[go_sem]
 have e6:E 6=.ptr (H.next+3) 0 0:=by rw[hE,<- n1];simp only[go_sem]
 have eN:(ext H1 [.arr 0 3 [.lit (.int .i64 0)]]).next=H.next+4:=by rw[bn,n1];rfl
 have e17:E 17=.clo 89 [] [.ptr (H.next+4) 0 0]:=by rw[hE,<- eN];rfl
 clear hE
  -- what stays as it is
 let S:AHeap->Prop:=fun Hx=>H2.next<=Hx.next/\∀ id,id<H2.next->id≠H.next+3->id≠H.next+2->Hx.get id=H2.get id
 have ovS:∀ {Hx},S Hx->Over H Hx:=fun h=>⟨by have:=h.1;omega,fun id hi=>(h.2 id (by omega) (by omega) (by omega)).trans (o02.old id hi)⟩
 refine W.vh (f:=89) (first:=[]) (cap:=[.ptr (H.next+4) 0 0]) (by show E 17=_;exact e17) (yK d (by have:=hf.nodes.1;omega) hf.decs (H.next+4))
  (fun k Hx=>S Hx/\Hx.get (H.next+2)=some (.arr 0 43 [.lit (.int .i64 0)])/\Hx.get (H.next+3)=some (.arr 0 3 [.lit (.int .i64 k)])/\∀ j v x,j<k->(ba d)[j]?=some v->d.nodes[v]?=some x->∃ l,p[j]?=some l/\l.length=cw d.nodes x/\∀ a∈l,0<=a/\a<x.card)
  (fun c Hx=>c=.ret/\S Hx/\Hx.get (H.next+2)=some (.arr 0 43 [.lit (.int .i64 201)])/\¬ PolOk d p)
  (fun k Hx h=>by rw[h.1.2 _ (by omega) (by omega) (by omega)];exact hbx)
  (fun k Hx b h=>⟨⟨h.1.1,fun id h1 h2 h3=>by rw[af,if_neg (by omega)];exact h.1.2 id h1 h2 h3⟩,by rw[af,if_neg (by omega)];exact h.2.1,by rw[af,if_neg (by omega)];exact h.2.2.1,h.2.2.2⟩)
  (fun c Hx b h=>⟨h.1,⟨h.2.1.1,fun id h1 h2 h3=>by rw[af,if_neg (by omega)];exact h.2.1.2 id h1 h2 h3⟩,by rw[af,if_neg (by omega)];exact h.2.2.1,h.2.2.2⟩)
  (fun b=>⟨⟨by rw[bn];omega,fun id h1 h2 h3=>dz h1⟩,by rw[dz (by omega),o2.old _ (by omega)];exact g3,by rw[dz (by omega)];exact g6,fun j v x h=>absurd h (Nat.not_lt_zero _)⟩)
  (by decide) yJ (fun _ _ _=>trivial) (fun _ _ _=>trivial) (fun k y Hx B Bb hy hj hn hB hBb=>?_) (fun Hx hj hn=>?_) (fun Hx hs hn=>?_) (fun i Hx hs hn=>by cases hs.1)
 ·obtain⟨v,hv,rfl⟩:=uS hy;obtain⟨v1,v2,v3⟩:=j8 hv;obtain⟨x,hx⟩:=ay (l:=d.nodes) (i:=v) v1;obtain⟨x1,x2⟩:=hR.dec v x hx v2;refine ag _ _ _ (by rfl) ?_;simp only[go_sem,iV,bR,mz,List.foldl_cons,List.foldl_nil,List.zip_cons_cons,List.zip_nil_right,hB];obtain⟨H3,hH3⟩:∃ H3,H3=Hx.upd H2.next Bb:=⟨_,rfl⟩
  rw[<- hH3];obtain⟨st,pd,n',en,ps',as',bo,hBe⟩:=hBb;have n3:H3.next=Hx.next:=by rw[hH3];rfl
  have o3:∀ id,id≠H2.next->H3.get id=Hx.get id:=fun id h=>by rw[hH3,af,if_neg h]
  have jB:H3.get H2.next=some Bb:=by rw[hH3,af,if_pos rfl]
  have hS3:S H3:=⟨by rw[n3];exact hj.1.1,fun id h1 h2 h3=>(o3 id (by omega)).trans (hj.1.2 id h1 h2 h3)⟩
  have j1:=ah ((hS3.2 _ (by omega) (by omega) (by omega)).trans ((o2.old _ (by omega)).trans g1));have j2:=ah ((hS3.2 _ (by omega) (by omega) (by omega)).trans ((o2.old _ (by omega)).trans g2));have j4:=ah ((o3 _ (by omega)).trans hj.2.1);have j6:=ah ((o3 _ (by omega)).trans hj.2.2.1);unfold eQ at j1;have ps:=km hR.n1.2 x2 hR.card;have hin:fT x.parents d.nodes.length:=fun q hq=>by have:=x2.2 q hq;omega
  have hpp:1<=au (aQ d.nodes x):=fg fun c hc=>(mv hin hR.card c hc).1;have hpb:=ps.prod;have hrn:((cw d.nodes x:Nat):Int)=au (aQ d.nodes x):=by unfold cw;omega
  have hvn:(v:Int)<d.nodes.length:=by omega
  have hne:=dH hx;have ec:=iI hx;have hkl:=aG hv;have hk8:k<8:=by
   have h1:=kV (D:=d.decs) (n:=d.nodes.length);have h2:=hR.n1.2;have h3:k<(dB d.decs d.nodes.length).length:=hkl;omega
  refine W.env fun E1 hE1=>?_;have m2:E1 2=.ptr H.next 0 0:=by rw[hE1];simp only[go_sem,bR,e2]
  have m3:E1 3=.ptr (H.next+1) 0 0:=by rw[hE1];simp only[go_sem,bR,e3]
  have m4:E1 4=.ptr (H.next+2) 0 0:=by rw[hE1];simp only[go_sem,bR,e4]
  have m6:E1 6=.ptr (H.next+3) 0 0:=by rw[hE1];simp only[go_sem,bR,e6]
  have m7:E1 7=aa k:=by rw[hE1];simp only[go_sem,bR]
  have m8:E1 8=aa v:=by rw[hE1];simp only[go_sem,bR]
  clear hE1;have stop:¬ PolOk d p->(H3.upd (H.next+2) (Blk.arr 0 43 [.lit (.int .i64 201)])).get H2.next=some Bb/\Hx.next<=(H3.upd (H.next+2) (Blk.arr 0 43 [.lit (.int .i64 201)])).next/\S (H3.upd (H.next+2) (Blk.arr 0 43 [.lit (.int .i64 201)])) /\
    (H3.upd (H.next+2) (Blk.arr 0 43 [.lit (.int .i64 201)])).get (H.next+2)=some (.arr 0 43 [.lit (.int .i64 201)])/\¬ PolOk d p:=fun h =>
   ⟨by rw[af,if_neg (by omega)];exact jB,by rw[aC];omega,⟨by rw[aC];exact hS3.1,fun id h1 h2 h3=>by rw[af,if_neg h3];exact hS3.2 id h1 h2 h3⟩,by rw[af,if_pos rfl],h⟩
  refine ag _ _ _ (by rfl) ?_;simp only[go_sem];refine W.draw 14 [0,0,2,7,15,31,31,127,255,511,31,1055,31,7199] Try.mixed (by kernel_rfl) (by kernel_rfl) ?_;by_cases c1:(k:Int) >= p.length
  ·simp only[go_sem,m3,m4,m7,j2,j4,c1,ao,gU];exact stop fun h=>by have:=h.len;omega
  obtain⟨l,hl⟩:=ay (l:=p) (i:=k) (by omega);have hlm:=List.mem_of_getElem? hl;have hlne:=aR hl;have hkp:(k:Int)<p.length:=by omega
  have hll:=hp.2 l hlm;simp only[go_sem,m2,m3,m7,m8,j1,j2,c1,hkp,hl,hlne,ao];refine⟨.lit (.int .i64 (cw d.nodes x:Nat)),[],bD.pure fun H2=>DY d.nodes v x hx hin ps H2 _ ⟨by rw[hrn];rfl,rfl⟩,?_⟩;by_cases c2:(l.length:Int)=cw d.nodes x;rotate_left
  ·simp only[go_sem,c2,m4,j4,gU];exact stop fun h=>c2 (by have:=(h.row k v x l hv hx hl).1;omega)
  simp only[go_sem,c2,m3,m7,j2,hkp,hl,hlne,ao];refine W.aK 288228177128457216 (by rfl) (fun ρ2 H4=>H4=H3/\∃ i:Nat,ρ2 41=aa i/\i<=l.length/\∀ a∈l.take i,0<=a/\a<x.card) (fun ρ2 H=>l.length - (iv (ρ2 41)).toNat) ?_ ?_
  ·simp only[go_sem];exact⟨0,rfl,by omega,by simp⟩
  rintro ρ2 H4 ⟨rfl,i,h41,hi,hw⟩;refine ag _ _ _ (by rfl) ?_;by_cases hb2:(i:Int)<l.length<;>have hb2':=hb2<;>rw[c2]at hb2'
  ·obtain⟨a,ha⟩:=ay (l:=l) (i:=i) (by omega);have ham:=List.mem_of_getElem? ha;have hane:=aR ha;by_cases d1:a<0
   ·simp only[go_sem,h41,hb2,hb2',ha,hane,d1,m4,j4,gU];exact stop fun h=>by have:=(h.row k v x l hv hx hl).2 a ham;omega
   by_cases d2:a >= x.card
   ·simp only[go_sem,h41,hb2,hb2',ha,hane,d1,d2,m2,m4,m8,j1,j4,hvn,hne,ec,gU];exact stop fun h=>by have:=(h.row k v x l hv hx hl).2 a ham;omega
   have w1:=IntWalk.i64_in ((i:Int)+1) (by omega);simp only[go_sem,h41,hb2,hb2',ha,hane,d1,d2,w1,m2,m8,j1,hvn,hne,ec];refine⟨⟨_,_,_,_,_,_,_,by rw[jB,hBe]⟩,⟨i+1,by simp,by omega,fun w hw'=>?_⟩,by omega⟩;rw[aP ha]at hw';rcases List.mem_append.1 hw' with hw'|hw'
   ·exact hw w hw'
   ·obtain rfl:=List.mem_singleton.1 hw';exact⟨by omega,by omega⟩
  ·rw[List.take_of_length_le (by omega)]at hw;have w1:=IntWalk.i64_in ((k:Int)+1) (by omega);simp only[go_sem,h41,hb2',m6,j6,w1,gU];refine⟨by rw[af,if_neg (by omega)];exact jB,by rw[aC];omega,⟨by rw[aC];exact hS3.1,fun id h1 h2 h3=>by rw[af,if_neg h2];exact hS3.2 id h1 h2 h3⟩,by rw[af,if_neg (by omega),o3 _ (by omega)];exact hj.2.1,by rw[af,if_pos rfl];simp,fun j u z hj2 hu hz=>?_⟩;rcases Nat.lt_or_ge j k with hjk|hjk
   ·exact hj.2.2.2 j u z hjk hu hz
   ·obtain rfl:j=k:=(by omega);rw[hv]at hu;cases hu;rw[hx]at hz;cases hz;exact⟨l,hl,by omega,hw⟩
 ·rw[uT]at hj;have j2:=ah ((hj.1.2 _ (by omega) (by omega) (by omega)).trans ((o2.old _ (by omega)).trans g2));have j4:=ah hj.2.1;have j6:=ah hj.2.2.1;by_cases c3:(p.length:Int)=(ba d).length;rotate_left
  ·simp only[go_sem,e3,e4,e6,j2,j4,j6,c3,ao];exact no (fun h=>c3 (by have:=h.len;omega)) _ ((ovS hj.1).upd (by omega) _)
  have hpo:PolOk d p:=⟨by omega,fun k v x l h1 h2 h3=>by
   obtain⟨l',h4,h5⟩:=hj.2.2.2 k v x (aG h1) h1 h2;rw[h3]at h4;cases h4;exact h5⟩
  simp only[go_sem,e3,e4,e6,j2,j4,j6,c3,ao];unfold dI at hK;rw[eF hok,eF hpo]at hK;exact aw.bk aF hcl ((ovS hj.1).upd (by omega) _) (.lit _) hK
 ·obtain⟨_,hS,h4,hno⟩:=hs;have j4:=ah h4;simp only[go_sem,e4,j4];exact no hno _ (ovS hS)
end Go.Proofs
namespace Go.Proofs
open Go.Hx
def fixC (p:List (List Int))(k r:Nat):Int:=(p.getD k []).getD r 0
theorem Q3 (p:List (List Int))(k r b:Nat)(l:List Int)(a:Int)(hl:p[k]?=some l)(ha:l[r]?=some a)(H:AHeap)(hb:H.get b=some (.arr 0 48 [ao p]))(K:ARes->AHeap->Prop)(hK:K (.ret (.lit (.int .i64 a))) H):
  ae Try.prog G0 62 [.lit (.int .i64 k),.lit (.int .i64 r),.ptr b 0 0] H K:=by
 have l0:=ah hb;have h1:(k:Int)<p.length:=by have:=aG hl;omega
 have h2:(r:Int)<l.length:=by have:=aG ha;omega
 have n1:=aR hl;have n2:=aR ha;refine ae.aS (n:=13) (rs:=[.tmp 5]) Try.func62 rfl rfl rfl (by decide) (by kernel_rfl) (by simp) ?_;simp only[go_sem,l0,ao,h1,h2,hl,ha,n1,n2];exact aw.mk (Nat.le_refl _) hK
theorem Q4 (p:List (List Int))(k r b:Nat)(l:List Int)(a:Int)(hl:p[k]?=some l)(ha:l[r]?=some a)(H:AHeap)(hlt:b<H.next)(hb:H.get b=some (.arr 0 48 [ao p])):
  bD Try.prog G0 (.clo 62 [] [.ptr b 0 0]) [.lit (.int .i64 k),.lit (.int .i64 r)] H (.lit (.int .i64 a)) [b] :=
 bD.mk (fun i hi=>by obtain rfl:=List.mem_singleton.1 hi;exact hlt) fun H2 h2 _=>Q3 p k r b l a hl ha H2 ((h2 b (by simp)).trans hb) _ ⟨rfl,rfl⟩
theorem DM {d:InfP}{p:List (List Int)}(h:PolOk d p){k v r:Nat}{x:NodeP}(hv:(ba d)[k]?=some v)(hx:d.nodes[v]?=some x)(hr:r<cw d.nodes x):
  ∃ l a,p[k]?=some l/\l[r]?=some a/\fixC p k r=a/\0<=a/\a<x.card:=by
 obtain⟨l,hl⟩:=ay (l:=p) (i:=k) (by rw[h.len];exact aG hv);obtain⟨h1,h2⟩:=h.row k v x l hv hx hl;obtain⟨a,ha⟩:=ay (l:=l) (i:=r) (by omega);exact⟨l,a,hl,ha,by unfold fixC;rw[bU hl,bU ha],h2 a (List.mem_of_getElem? ha)⟩
def rH:AVal:=.agg [.lit (.int .i64 0),.vec 0 []]
noncomputable def nC (d:InfP)(p:List (List Int)):AVal:=if dI d p=0 then bj d.grain (bF d (fixC p)) else rH
theorem uW {d:InfP}{p:List (List Int)}:dI d p=0↔InfOk d/\PolOk d p:=by
 unfold dI;by_cases h1:InfOk d
 ·by_cases h2:PolOk d p
  ·rw[eF h1,eF h2];exact⟨fun _=>⟨h1,h2⟩,fun _=>rfl⟩
  ·rw[eF h1,fD h2];exact⟨fun h=>by simp at h,fun h=>absurd h.2 h2⟩
 ·rw[fD h1];exact⟨fun h=>by simp at h,fun h=>absurd h.1 h1⟩
theorem DN (d:InfP)(hf:InfFit d)(p:List (List Int))(hp:pB p)(H:AHeap)(K:ARes->AHeap->Prop)(hK:K (.ret (.tup [nC d p,aa (dI d p)])) H):ae Try.prog G0 22 [jv d,ao p] H K:=by
 refine ae.clo ⟨_,Try.func22,rfl,rfl⟩ fun hcl=>?_;refine ae.aS (n:=17) (rs:=[.cell 4 64,.tmp 5]) Try.func22 rfl rfl rfl (by decide) (by kernel_rfl) (by simp) ?_;simp only[go_sem,mm,eQ];obtain⟨H1,hH1⟩:∃ H1,H1=ext H [.arr 0 39 [.lit (.int .i64 d.grain),.vec d.nodes.length (aD d.nodes),.lit (.int .u64 (d.decs:Int)),.vec d.utils.length (aO d.utils)],.arr 0 48 [ao p],.arr 0 64 [.lit (.int .i64 0),.lit (.slice none 0 0)]]:=⟨_,rfl⟩
 have g1:H1.get H.next=some (.arr 0 39 [.lit (.int .i64 d.grain),.vec d.nodes.length (aD d.nodes),.lit (.int .u64 (d.decs:Int)),.vec d.utils.length (aO d.utils)]):=by rw[hH1];exact br ..
 have g2:H1.get (H.next+1)=some (.arr 0 48 [ao p]):=by rw[hH1];exact bu H _ 1 (by simp)
 have g3:H1.get (H.next+2)=some (.arr 0 64 [.lit (.int .i64 0),.lit (.slice none 0 0)]):=by rw[hH1];exact bu H _ 2 (by simp)
 have l1:=ah g1;have l2:=ah g2;have l3:=ah g3;have n1:H1.next=H.next+3:=by rw[hH1];rfl
 have o1:Over H H1:=by rw[hH1];exact .ext _ _
 rw[<- hH1];refine aA.clo (DL d hf p hp _ _ ⟨trivial,?_⟩);by_cases hz:dI d p=0;rotate_left
 ·have hcell:(AVal.lit (.int .i64 (dI d p))).cells=[.lit (.int .i64 (dI d p))]:=rfl;simp only[go_sem,hz,l3];have ef:nC d p=rH:=if_neg hz;rw[ef]at hK;refine aw.bk (v':=.tup [rH,aa (dI d p)]) aF hcl (o1.upd (by omega) _) (.tup rfl fun i hi _=>?_) hK
  match i,hi with
  | 0,_ =>
   refine .agg rfl fun i hi _=>?_
   match i,hi with
   | 0,_=>exact .lit _
   | 1,_=>exact .nil
  | 1,_=>exact .lit _
 obtain⟨hok,hpo⟩:=uW.1 hz;rw[hz]at hK ⊢;simp only[go_sem,l1];refine aA.clo (DJ d hf hok.n (fixC p) _ [H.next+1] _ (fun i hi=>by obtain rfl:=List.mem_singleton.1 hi;omega) rfl rfl (fun k r v x H2 hv hx hr ov=>?_) _ ⟨trivial,?_⟩)
 ·obtain⟨l,a,hl,ha,he,hb⟩:=DM hpo hv hx hr;rw[he];exact⟨hb,Q4 p k r (H.next+1) l a hl ha H2 (by have:=ov.next;omega) ((ov.old _ (by omega)).trans g2)⟩
 ·simp only[go_sem,l3,bj,bO];have ef:nC d p=bj d.grain (bF d (fixC p)):=if_pos hz;rw[ef]at hK;refine aw.bk (v':=.tup [bj d.grain (bF d (fixC p)),aa 0]) aF hcl (o1.upd (by omega) _) (.tup rfl fun i hi _=>?_) hK
  match i,hi with
  | 0,_ =>
   refine .agg rfl fun i hi _=>?_
   match i,hi with
   | 0,_=>exact .lit _
   | 1,_=>exact nE _
  | 1,_=>exact .lit _
end Go.Proofs
namespace Go.Hx
variable {P:Program} {G:Nat->Option (List AVal)} {n:Nat} {rd:Option Nat} {Q:AX->St->Prop}
def vk (N:Nat)(H1 H2:AHeap):Prop:=H1.next<=H2.next/\∀ id,id≠N->id<H1.next->H2.get id=H1.get id
def Eb (P:Program)(G:Nat->Option (List AVal))(f:FuncId)(first cap:List AVal)(xs:List (List AVal))(N:Nat)(S0:AHeap->Prop)(S:Nat->AHeap->Prop):Prop :=
 ∀ (idy:Nat) (J:Nat->AHeap->Prop) (Stop:AHeap->Prop) (H:AHeap) (K:ARes->AHeap->Prop),H.next=N ->
  (∀ k H1,J k H1->S0 H1)->(∀ k H1 H2,J k H1->vk N H1 H2->J k H2)->J 0 H ->
  (∀ k x H1 K1,xs[k]?=some x->J k H1->S k H1->N<H1.next->(∀ H',J (k+1) H'->S k H'->H1.next<=H'.next->K1 (.ret (.lit (.bool true))) H')->(∀ H',Stop H'->H1.next<=H'.next->K1 (.ret (.lit (.bool false))) H')->aA P G (.yld idy) x H1 K1) ->
  (∀ H',J xs.length H'->N<=H'.next->K (.ret (.tup [])) H') ->
  (∀ H',Stop H'->N<=H'.next->K (.ret (.tup [])) H') ->
  ae P G f (first++[.yld idy]++cap) H K
theorem W.Ec {g:Operand}{ps:Array Tmp}{asg body:Code}{ρ:Env}{H:AHeap}{f:FuncId}{first cap:List AVal}{xs:List (List AVal)}{S0:AHeap->Prop}{S:Nat->AHeap->Prop}(hg:ak G ρ g=.clo f first cap)
  (hit:Eb P G f first cap xs (H.next+1) S0 S) (J:Nat->AHeap->Prop) (Stop:AX->AHeap->Prop) (hS:∀ k H1,J k H1->S0 H1) (hJw:∀ k H1 H2,J k H1->vk (H.next+1) H1 H2->J k H2) (hlow:∀ k H1,J k H1->H.next<H1.next)
  (hJu:∀ k H1 b,J k H1->J k (H1.upd H.next b)) (hSu:∀ c H1 b,Stop c H1->Stop c (H1.upd H.next b)) (hSk:∀ k H1 b,S k H1->S k (H1.upd H.next b))
  (hJ0:∀ b,J 0 (ext H [b])) (hps:ps.toList.all (fun t=>decide (t<n))=true) (hxl:∀ x∈xs,x.length=ps.size)
  (hrd:∀ k H1,J k H1->dR H1 rd) (hrd2:∀ c H1,Stop c H1->dR H1 rd)
  (hround:∀ k x H1 B Bb,xs[k]?=some x->J k H1->S k H1->H.next+1<H1.next->H1.get H.next=some B->(∃ st pd n' en ps' as' bo,Bb=Blk.loop st pd n' en ps' as' bo) ->
   W P G n (some H.next) asg (mz P G n H.next B Bb H1.next body (fun H'=>J (k+1) H'/\S k H') Stop) ⟨iV (bR ρ n) (ps.toList.zip x),H1⟩)
  (hend:∀ H',J xs.length H'->H.next+1<=H'.next->Q .normal ⟨ρ,H'⟩)
  (hret:∀ H',Stop .ret H'->H.next+1<=H'.next->Q .ret ⟨ρ,H'⟩) (hexit:∀ i H',Stop (.exit i) H'->H.next+1<=H'.next->Q (.exit i) ⟨ρ,H'⟩):
  W P G n rd (.rangeFunc g ps asg body) Q ⟨ρ,H⟩:=by
 refine W.rangeFunc (s:=⟨ρ,H⟩) hg ⟨_,sG _ _,?_⟩;obtain⟨B,hB⟩:∃ B,B=Blk.loop .ready none n ρ ps asg body:=⟨_,rfl⟩
 obtain⟨Bb,hBb⟩:∃ B,B=Blk.loop .busy none n ρ ps asg body:=⟨_,rfl⟩
 have nx:(ext H [B]).next=H.next+1:=rfl;show ae P G f (first++[.yld H.next]++cap) (ext H [Blk.loop .ready none n ρ ps asg body]) (sN rd Q ρ H.next);rw[<- hB];refine hit H.next (fun k H1=>H1.get H.next=some B/\J k H1) (fun H1=>∃ c pend,H1.get H.next=some (.loop .done (some pend) n ρ ps asg body)/\Stop c H1/\((c=.ret/\pend=.ret)\/∃ i,c=.exit i/\pend=.exit i)) _ _ nx
  (fun k H1 h=>hS k H1 h.2) (fun k H1 H2 h hw=>⟨(hw.2 _ (by omega) (hlow _ _ h.2)).trans h.1,hJw _ _ _ h.2 hw⟩) ⟨bY,hJ0 B⟩ (fun k x H1 K1 hx hj hs hn hgo hst=>?_) (fun H' hj hn=>?_) (fun H' hj hn=>?_)
 ·have hxm:=hxl x (List.mem_of_getElem? hx);refine aA.yld (hj.1.trans (congrArg some hB)) hxm hps ?_;refine(hround k x H1 B Bb hx hj.2 hs hn hj.1 ⟨_,_,_,_,_,_,_,hBb⟩).mono fun e s1 h1=>?_;cases e with
  | normal =>
   obtain⟨a1,a2⟩:=h1;refine⟨Bb,by rw[a1,hB,hBb];rfl,?_⟩;refine a2.mono fun e2 s2 h2=>?_;cases e2 with
   | normal =>
    obtain⟨b1,b2,b3,b4⟩:=h2;exact⟨B,by rw[b1,hB,hBb];rfl,hgo _ ⟨by rw[af,if_pos rfl],hJu _ _ _ b3⟩ (hSk _ _ _ b4) b2⟩
   | ret =>
    obtain⟨b1,b2,b3⟩:=h2;exact⟨.loop .done (some .ret) n ρ ps asg body,by rw[b1,hBb];rfl,hst _ ⟨.ret,.ret,by rw[af,if_pos rfl],hSu _ _ _ b3,.inl ⟨rfl,rfl⟩⟩ b2⟩
   | exit i =>
    obtain⟨b1,b2,b3⟩:=h2;exact⟨.loop .done (some (.exit i)) n ρ ps asg body,by rw[b1,hBb];rfl,hst _ ⟨.exit i,.exit i,by rw[af,if_pos rfl],hSu _ _ _ b3,.inr ⟨i,rfl,rfl⟩⟩ b2⟩
   | _=>exact h2.elim
  | _=>exact h1.elim
 ·refine⟨hrd _ _ hj.2,(none,.loop .exhausted none n ρ ps asg body),by rw[hj.1,hB];rfl,?_⟩;exact hend _ (hJu _ _ _ hj.2) hn
 ·obtain⟨c,pend,h1,h2,h3⟩:=hj;refine⟨hrd2 _ _ h2,(some pend,.loop .exhausted (some pend) n ρ ps asg body),by rw[h1];rfl,?_⟩;rcases h3 with ⟨rfl,rfl⟩|⟨i,rfl,rfl⟩
  ·exact hret _ (hSu _ _ _ h2) hn
  ·exact hexit i _ (hSu _ _ _ h2) hn
end Go.Hx
namespace Go.Proofs
open Go.Hx
theorem Q5:∀ {cs vs:List Int} {k:Nat} {c v:Int},vs.length=cs.length->cs[k]?=some c->vs[k]?=some v->v+1<c->(∀ (j:Nat) (a b:Int),k<j->cs[j]?=some a->vs[j]?=some b->b=a - 1) ->
  jy cs vs=some (vs.take k++(v+1) :: (cs.drop (k+1)).map fun _=>0):=by
 have none_of:∀ {cs vs:List Int},vs.length=cs.length->(∀ (j:Nat) (a b:Int),cs[j]?=some a->vs[j]?=some b->b=a - 1)->jy cs vs=none:=by
  intro cs
  induction cs with
  | nil=>intro vs _ _;cases vs<;>rfl
  | cons c cs ih =>
   intro vs hl h;cases vs with
   | nil=>rfl
   | cons v vs =>
    have h1:=ih (vs:=vs) (by simpa using hl) fun j a b ha hb=>h (j+1) a b (by simpa using ha) (by simpa using hb);have h2:=h 0 c v rfl rfl;simp only[jy,h1];rw[if_neg (by omega)]
 intro cs
 induction cs with
 | nil=>intro vs k c v _ h;simp at h
 | cons x cs ih =>
  intro vs k c v hl hc hv hlt hmax;cases vs with
  | nil=>simp at hv
  | cons y vs =>
   cases k with
   | zero =>
    simp only[List.getElem?_cons_zero,Option.some.injEq]at hc hv;subst hc;subst hv;have h1:=none_of (cs:=cs) (vs:=vs) (by simpa using hl) fun j a b ha hb=>hmax (j+1) a b (by omega) (by simpa using ha) (by simpa using hb);simp only[jy,h1];rw[if_pos hlt];simp
   | succ k =>
    have h1:=ih (vs:=vs) (k:=k) (by simpa using hl) (by simpa using hc) (by simpa using hv) hlt fun j a b hj ha hb=>hmax (j+1) a b (by omega) (by simpa using ha) (by simpa using hb);simp only[jy,h1];simp
theorem Q6:∀ {cs vs:List Int},vs.length=cs.length->(∀ (j:Nat) (a b:Int),cs[j]?=some a->vs[j]?=some b->b=a - 1)->jy cs vs=none:=by
 intro cs
 induction cs with
 | nil=>intro vs _ _;cases vs<;>rfl
 | cons c cs ih =>
  intro vs hl h;cases vs with
  | nil=>rfl
  | cons v vs =>
   have h1:=ih (vs:=vs) (by simpa using hl) fun j a b ha hb=>h (j+1) a b (by simpa using ha) (by simpa using hb);have h2:=h 0 c v rfl rfl;simp only[jy,h1];rw[if_neg (by omega)]
def mq (cards:List Int)(N:Nat):List (List AVal):=(List.range (au cards).toNat).map fun (i:Nat)=>[aa (i:Int),.own N 0 0 cards.length 1]
theorem uX {cards:List Int}{N k:Nat}{x:List AVal}(h:(mq cards N)[k]?=some x):k<(au cards).toNat/\x=[aa k,.own N 0 0 cards.length 1]:=by
 unfold mq at h;rw[List.getElem?_map]at h;have hk:k<(au cards).toNat:=by
  rcases Nat.lt_or_ge k (au cards).toNat with h1|h1
  ·exact h1
  ·rw[List.getElem?_eq_none (by simpa using h1)]at h;simp at h
 rw[List.getElem?_range hk]at h;simp at h;exact⟨hk,h.symm⟩
theorem Q7 {cards:List Int}{N k:Nat}(h:k<(au cards).toNat):(mq cards N)[k]?=some [aa k,.own N 0 0 cards.length 1]:=by
 unfold mq;rw[List.getElem?_map,List.getElem?_range h];rfl
theorem yT (cards:List Int)(N:Nat):(mq cards N).length=(au cards).toNat:=by simp [mq]
def rI (cards:List Int)(N k:Nat)(H:AHeap):Prop:=H.get N=some (.arr 0 3 (ints (bp cards k)))
set_option maxHeartbeats 1000000 in
theorem DO (cards:List Int)(hc1:∀ c∈cards,1<=c)(hs:da cards)(b N:Nat)(hbN:b<N):
  Eb Try.prog G0 106 [] [.ptr b 0 0] (mq cards N) N (fun H=>H.get b=some (.arr 0 59 [ab cards])) (rI cards N):=by
 intro idy J Stop H K hN hS0 hJw hJ0 hY hK hSt;have l0:=ah (hS0 0 H hJ0);have h12:=hs.1;have hpp:=hs.prod;have hp1:=fg hc1;show ae _ _ _ ([.yld idy]++[.ptr b 0 0]) _ _;refine ae.aS (n:=45) (rs:=[]) Try.func106 rfl rfl rfl (by decide) (by kernel_rfl) (by simp) ?_;simp only[go_sem,l0];refine⟨by omega,?_⟩;have fitI:∀ i:Nat,cr cards (bp cards i):=fun i=>o7 hc1 _;have idxI:∀ i:Nat,i<(au cards).toNat->bE cards (bp cards i)=i:=fun i hi=>yg hc1 (by omega) (by omega);subst hN;refine W.aK 35184372088368 (by rfl) (fun ρ H'=>∃ i:Nat,ρ 4=aa i/\i<(au cards).toNat/\J i H'/\rI cards H.next i H'/\H.next+1<=H'.next) (fun ρ H=>(au cards).toNat - (iv (ρ 4)).toNat) ?_ ?_
 ·simp only[go_sem];refine⟨0,rfl,by omega,hJw 0 H _ hJ0 ⟨by rw[bn];omega,fun id _ h=>c9 _ _ _ h⟩,?_⟩;show (ext H _).get H.next=_;rw[br];have:bp cards ((0:Nat):Int)=List.replicate cards.length 0:=by
   rw[show ((0:Nat):Int)=0 from rfl,Cr hc1];exact List.map_const' ..
  rw[this];simp [ints,aa]
 rintro ρ H' ⟨i,h4,hi,hj,hcs,hn⟩;refine W.env fun E hE=>?_;have e1:E 1=.ptr b 0 0:=by rw[hE];simp only[go_sem]
 have e0:E 0=.yld idy:=by rw[hE];simp only[go_sem]
 have e3:E 3=.own H.next 0 0 cards.length 1:=by rw[hE];simp only[go_sem]
 have e4:E 4=aa i:=by rw[hE];simp only[go_sem,h4]
 clear hE;refine ag _ _ _ (by rfl) ?_;simp only[go_sem,e0,e3,e4];refine hY i [aa i,.own H.next 0 0 cards.length 1] H' _ (Q7 hi) hj hcs (by omega) (fun H2 hj2 hcs2 hn2=>⟨trivial,?_⟩) (fun H2 hs2 hn2=>⟨trivial,?_⟩);rotate_left
 ·simp only[go_sem];exact aw.mk (by omega) (hSt H2 hs2 (by omega))
 have hb2:=hS0 _ _ hj2;have lb:=ah hb2;have w0:=IntWalk.i64_in ((cards.length:Int) - 1) (by omega);obtain⟨vs,hvs⟩:∃ vs,vs=bp cards i:=⟨_,rfl⟩
 have hvl:vs.length=cards.length:=by rw[hvs,q8]
 have hfit:cr cards vs:=by rw[hvs];exact fitI i
 have hsucc:=O6 hfit;rw[show bE cards vs=i from by rw[hvs];exact idxI i hi]at hsucc;simp only[go_sem,e1,lb,w0];refine W.aK 137438691360 (by rfl) (fun ρ2 H4=>∃ m:Nat,ρ2 5=aa ((m:Int) - 1)/\m<=cards.length/\vk H.next H2 H4/\H4.get H.next=some (.arr 0 3 (ints (vs.take m++(cards.drop m).map fun _=>0)))/\(∀ (j:Nat) (a b:Int),m<=j->cards[j]?=some a->vs[j]?=some b->b=a - 1))
  (fun ρ2 H=>(iv (ρ2 5)+1).toNat) ?_ ?_
 ·simp only[go_sem];refine⟨cards.length,rfl,by omega,⟨Nat.le_refl _,fun _ _ _=>rfl⟩,?_,fun j a b hm ha=>?_⟩
  ·have hg:H2.get H.next=_:=hcs2;rw[<- hvs]at hg;rw[hg,List.take_of_length_le (by omega),List.drop_of_length_le (by omega)];simp
  ·have:=aG ha;omega
 rintro ρ2 H4 ⟨m,h5,hm,hw,hg,hmax⟩;refine W.env fun E2 hE2=>?_;have f1:E2 1=.ptr b 0 0:=by rw[hE2];simp only[go_sem,e1]
 have f3:E2 3=.own H.next 0 0 cards.length 1:=by rw[hE2];simp only[go_sem,e3]
 have f4:E2 4=aa i:=by rw[hE2];simp only[go_sem,e4]
 have f5:E2 5=aa ((m:Int) - 1):=by rw[hE2];simp only[go_sem,h5]
 clear hE2;refine ag _ _ _ (by rfl) ?_;have hw1:=hw.1;have lN:=ah hg;have lb4:=ah ((hw.2 b (by omega) (by omega)).trans hb2);have hj4:J (i+1) H4:=hJw _ _ _ hj2 hw;have clen:(vs.take m++(cards.drop m).map fun _=>(0:Int)).length=cards.length:=by simp;omega
 by_cases hm0:m=0
 ·subst hm0;have f5':E2 5=aa (-1):=f5;have hnone:=Q6 hvl fun j a b ha hb=>hmax j a b (Nat.zero_le _) ha hb;rw[hnone]at hsucc;have htot:¬ (i:Int)+1<au cards:=fun h=>by rw[if_pos h]at hsucc;cases hsucc
  have hti:i+1=(mq cards H.next).length:=by rw[yT];omega
  simp only[go_sem];refine W.draw 12 [0,1,3,7,7,31,63,7,7,391,903,1927] Try.mixed (by kernel_rfl) (by kernel_rfl) ?_;simp only[go_sem,f5'];exact aw.mk (by omega) (hK H4 (by rw[<- hti];exact hj4) (by omega))
 obtain⟨k,rfl⟩:∃ k,m=k+1:=⟨m - 1,by omega⟩
 have f5':E2 5=aa k:=by rw[f5];congr 1;omega
 obtain⟨c,hck⟩:=ay (l:=cards) (i:=k) (by omega);obtain⟨v,hvk⟩:=ay (l:=vs) (i:=k) (by omega);have hne:=aR hck;have hr:=hfit.2 k c v hck hvk;have hcs8:=hs.2 c (List.mem_of_getElem? hck);have hvk':(vs.take (k+1)++(cards.drop (k+1)).map fun _=>(0:Int))[k]?=some v:=by
  rw[List.getElem?_append_left (by simp;omega),List.getElem?_take_of_lt (by omega)];exact hvk
 have hk0:(k:Int) >= 0:=by omega
 have hkc:(k:Int)<cards.length:=by omega
 have w1:=IntWalk.i64_in (c - 1) (by omega);have w2:=IntWalk.i64_in ((k:Int) - 1) (by omega);have w3:=IntWalk.i64_in (v+1) (by omega);have w4:=IntWalk.i64_in ((i:Int)+1) (by omega);have hk1:¬ (k:Int)<0:=by omega
 by_cases hv:v=c - 1
 ·simp only[go_sem];refine W.draw 12 [0,1,3,7,7,31,63,7,7,391,903,1927] Try.mixed (by kernel_rfl) (by kernel_rfl) ?_;simp only[go_sem,f1,f3,f5',hk0,hkc,lN,lb4,hvk',hck,hne,w1,w2,hv];refine⟨by rw[<- List.length_append,clen];omega,by rw[aC];omega,⟨k,rfl,by omega,⟨by rw[aC];exact hw.1,fun id h1 h2=>by rw[af,if_neg h1];exact hw.2 id h1 h2⟩,?_,fun j a b hj ha hb=>?_⟩,?_⟩
  ·rw[af,if_pos rfl,fS (by rw[clen];omega)];congr 3;rw[aP hvk,List.append_assoc,List.set_append_right _ _ (by simp;omega),md hck];simp;rw[show k - min k vs.length=0 by omega];rfl
  ·rcases Nat.lt_or_ge k j with h|h
   ·exact hmax j a b (by omega) ha hb
   ·obtain rfl:j=k:=(by omega);rw[hck]at ha;rw[hvk]at hb;cases ha;cases hb;exact hv
  ·rw[h5];simp only[aa,aU];omega
 ·simp only[go_sem];refine W.draw 12 [0,1,3,7,7,31,63,7,7,391,903,1927] Try.mixed (by kernel_rfl) (by kernel_rfl) ?_;simp only[go_sem,f1,f3,f4,f5',hk0,hk1,hkc,lN,lb4,hvk',hck,hne,w1,w3,w4,hv];have hat:=Q5 hvl hck hvk (by omega) fun j a b hj ha hb=>hmax j a b (by omega) ha hb;rw[hat]at hsucc;have hlt:(i:Int)+1<au cards:=by
   refine Classical.byContradiction fun h=>?_;rw[if_neg h]at hsucc;cases hsucc
  rw[if_pos hlt]at hsucc;have hw5:vk H.next H2 (H4.upd H.next (.arr 0 3 (setAt (ints (vs.take (k+1)++(cards.drop (k+1)).map fun _=>(0:Int))) k [.lit (.int .i64 (v+1))]))):=⟨by rw[aC];exact hw.1,fun id h1 h2=>by rw[af,if_neg h1];exact hw.2 id h1 h2⟩
  refine⟨by rw[<- List.length_append,clen];omega,by rw[aC];omega,⟨i+1,by simp,by omega,hJw _ _ _ hj2 hw5,?_,by rw[aC];omega⟩,?_⟩
  ·show (H4.upd H.next _).get H.next=_;rw[af,if_pos rfl,fS (by rw[clen];omega)];congr 3;have e:bp cards ((i+1:Nat):Int)=vs.take k++(v+1) :: (cards.drop (k+1)).map fun _=>0:=by
    have:=Option.some.inj hsucc;rw[show ((i+1:Nat):Int)=(i:Int)+1 by omega];exact this.symm
   rw[e,aP hvk,List.append_assoc,List.set_append_right _ _ (by simp;omega)];simp;rw[show k - min k vs.length=0 by omega];rfl
  ·rw[h4];simp only[aa,aU];omega
theorem DP (cards:List Int)(H:AHeap)(K:ARes->AHeap->Prop)(hK:K (.ret (.clo 106 [] [.ptr H.next 0 0])) (ext H [.arr 0 59 [ab cards]])):
  ae Try.prog G0 92 [ab cards] H K:=by
 refine ae.aS (n:=4) (rs:=[.tmp 2]) Try.func92 rfl rfl rfl (by decide) (by kernel_rfl) (by simp) ?_;simp only[go_sem];exact aw.mk (by simp [bn]) hK
end Go.Proofs
/-
  Weights of worlds, utilities, sums. Plain: no program stands in this text. No conditions.
-/
namespace Go.Proofs
open Go.Hx
def rj (ns:List NodeP)(x:NodeP)(vals:List Int):List Int:=x.rows.getD (bE (aQ ns x) (aL vals x.parents)).toNat []
def rm (ns:List NodeP)(vals:List Int)(v:Nat):Int:=match ns[v]? with
 | some x=>(rj ns x vals).getD (vals.getD v 0).toNat 0
 | none=>1
def eE (ns:List NodeP)(vals:List Int):List Int:=(List.range ns.length).map (rm ns vals)
def weight (ns:List NodeP)(vals:List Int):Int:=au (eE ns vals)
def cS (ns:List NodeP):Nat:=(au (aq ns)).toNat
def dZ (ns:List NodeP):List Int:=(List.range (cS ns)).map fun (i:Nat)=>weight ns (bp (aq ns) (i:Int))
def nj (ns:List NodeP)(vals:List Int)(u:UtilP):Int:=u.w.getD (bE (aL (aq ns) u.vars) (aL vals u.vars)).toNat 0
def cz (ns:List NodeP)(us:List UtilP)(vals:List Int):Int:=(us.map (nj ns vals)).sum
def eP (ns:List NodeP)(us:List UtilP)(k:Nat):Int:=((List.range k).map fun (i:Nat)=>weight ns (bp (aq ns) i)*cz ns us (bp (aq ns) i)).sum
theorem yt (ns:List NodeP)(us:List UtilP)(k:Nat):eP ns us (k+1)=eP ns us k+weight ns (bp (aq ns) k)*cz ns us (bp (aq ns) k):=by
 unfold eP;rw[List.range_succ];simp
theorem rp (ns:List NodeP)(vals:List Int):(eE ns vals).length=ns.length:=by simp [eE]
theorem uD {ns:List NodeP}{vals:List Int}{v:Nat}(h:v<ns.length):(eE ns vals)[v]?=some (rm ns vals v):=by
 unfold eE;rw[List.getElem?_map,List.getElem?_range h];rfl
end Go.Proofs
