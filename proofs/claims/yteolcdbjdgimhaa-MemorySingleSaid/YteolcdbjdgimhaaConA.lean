/-
  Closed facts of this seat's types. Laid by a program of ours.
-/
import Derived.Test.YteolcdbjdgimhaaProg
import Derived.Test.YteolcdbjdgimhaaLibD
import Derived.Test.YteolcdbjdgimhaaLibB
set_option linter.all false
namespace Go.Proofs
open Go.Hx
theorem Try.mixed:Try.prog.follows .mixedOrders=true:=by kernel_rfl
theorem Try.cells3:Try.prog.cellsOf 3=1:=by kernel_rfl
theorem Try.bytes3:Try.prog.bytesOf 3=8:=by kernel_rfl
theorem Try.zero3:zeroA Try.prog 3=some [.lit (.int .i64 0)]:=by kernel_rfl
theorem Try.cells4:Try.prog.cellsOf 4=1:=by kernel_rfl
theorem Try.zero4:zeroA Try.prog 4=some [.lit (.bool false)]:=by kernel_rfl
theorem Try.cells5:Try.prog.cellsOf 5=1:=by kernel_rfl
theorem Try.bytes5:Try.prog.bytesOf 5=1:=by kernel_rfl
theorem Try.zero5:zeroA Try.prog 5=some [.lit (.int .u8 0)]:=by kernel_rfl
theorem Try.cells22:Try.prog.cellsOf 22=1:=by kernel_rfl
theorem Try.cells23:Try.prog.cellsOf 23=1:=by kernel_rfl
theorem Try.cells25:Try.prog.cellsOf 25=3:=by kernel_rfl
theorem Try.field25_0:fieldA Try.prog 25 0=some (0,5):=by kernel_rfl
theorem Try.field25_1:fieldA Try.prog 25 1=some (1,22):=by kernel_rfl
theorem Try.field25_2:fieldA Try.prog 25 2=some (2,23):=by kernel_rfl
theorem Try.cells26:Try.prog.cellsOf 26=1:=by kernel_rfl
theorem Try.cells28:Try.prog.cellsOf 28=6:=by kernel_rfl
theorem Try.field28_0:fieldA Try.prog 28 0=some (0,25):=by kernel_rfl
theorem Try.field28_1:fieldA Try.prog 28 1=some (3,5):=by kernel_rfl
theorem Try.field28_2:fieldA Try.prog 28 2=some (4,4):=by kernel_rfl
theorem Try.field28_3:fieldA Try.prog 28 3=some (5,26):=by kernel_rfl
theorem Try.cells30:Try.prog.cellsOf 30=1:=by kernel_rfl
theorem Try.cells31:Try.prog.cellsOf 31=1:=by kernel_rfl
theorem Try.bytes31:Try.prog.bytesOf 31=8:=by kernel_rfl
theorem Try.zero31:zeroA Try.prog 31=some [.lit (.int .u64 0)]:=by kernel_rfl
theorem Try.cells32:Try.prog.cellsOf 32=1:=by kernel_rfl
theorem Try.cells34:Try.prog.cellsOf 34=4:=by kernel_rfl
theorem Try.zero34:zeroA Try.prog 34=some [.lit (.int .i64 0),.lit (.slice none 0 0),.lit (.int .u64 0),.lit (.slice none 0 0)]:=by kernel_rfl
theorem Try.places34:placesA Try.prog 34=some [(0,1),(1,1),(2,1),(3,1)]:=by kernel_rfl
theorem Try.field34_0:fieldA Try.prog 34 0=some (0,3):=by kernel_rfl
theorem Try.field34_1:fieldA Try.prog 34 1=some (1,30):=by kernel_rfl
theorem Try.field34_2:fieldA Try.prog 34 2=some (2,31):=by kernel_rfl
theorem Try.field34_3:fieldA Try.prog 34 3=some (3,32):=by kernel_rfl
theorem Try.cells36:Try.prog.cellsOf 36=1:=by kernel_rfl
theorem Try.zero36:zeroA Try.prog 36=some [.lit (.slice none 0 0)]:=by kernel_rfl
theorem Try.cells38:Try.prog.cellsOf 38=1:=by kernel_rfl
theorem Try.zero38:zeroA Try.prog 38=some [.lit (.int .i64 0)]:=by kernel_rfl
theorem Try.cells42:Try.prog.cellsOf 42=2:=by kernel_rfl
theorem Try.zero42:zeroA Try.prog 42=some [.lit (.int .i64 0),.lit (.int .i64 0)]:=by kernel_rfl
theorem Try.places42:placesA Try.prog 42=some [(0,1),(1,1)]:=by kernel_rfl
theorem Try.field42_0:fieldA Try.prog 42 0=some (0,3):=by kernel_rfl
theorem Try.field42_1:fieldA Try.prog 42 1=some (1,3):=by kernel_rfl
theorem Try.cells52:Try.prog.cellsOf 52=1:=by kernel_rfl
theorem Try.bytes52:Try.prog.bytesOf 52=24:=by kernel_rfl
theorem Try.zero52:zeroA Try.prog 52=some [.lit (.slice none 0 0)]:=by kernel_rfl
theorem Try.cells56:Try.prog.cellsOf 56=3:=by kernel_rfl
theorem Try.bytes56:Try.prog.bytesOf 56=56:=by kernel_rfl
theorem Try.zero56:zeroA Try.prog 56=some [.lit (.int .i64 0),.lit (.slice none 0 0),.lit (.slice none 0 0)]:=by kernel_rfl
theorem Try.places56:placesA Try.prog 56=some [(0,1),(1,1),(2,1)]:=by kernel_rfl
theorem Try.field56_0:fieldA Try.prog 56 0=some (0,3):=by kernel_rfl
theorem Try.field56_1:fieldA Try.prog 56 1=some (1,52):=by kernel_rfl
theorem Try.field56_2:fieldA Try.prog 56 2=some (2,36):=by kernel_rfl
theorem Try.cells60:Try.prog.cellsOf 60=2:=by kernel_rfl
theorem Try.bytes60:Try.prog.bytesOf 60=48:=by kernel_rfl
theorem Try.zero60:zeroA Try.prog 60=some [.lit (.slice none 0 0),.lit (.slice none 0 0)]:=by kernel_rfl
theorem Try.field60_0:fieldA Try.prog 60 0=some (0,52):=by kernel_rfl
theorem Try.field60_1:fieldA Try.prog 60 1=some (1,52):=by kernel_rfl
theorem Try.cells64:Try.prog.cellsOf 64=2:=by kernel_rfl
theorem Try.bytes64:Try.prog.bytesOf 64=16:=by kernel_rfl
theorem Try.zero64:zeroA Try.prog 64=some [.lit (.int .i64 0),.lit (.int .i64 0)]:=by kernel_rfl
theorem Try.cells66:Try.prog.cellsOf 66=2:=by kernel_rfl
theorem Try.zero66:zeroA Try.prog 66=some [.lit (.int .i64 0),.lit (.slice none 0 0)]:=by kernel_rfl
theorem Try.places66:placesA Try.prog 66=some [(0,1),(1,1)]:=by kernel_rfl
theorem Try.field66_0:fieldA Try.prog 66 0=some (0,3):=by kernel_rfl
theorem Try.field66_1:fieldA Try.prog 66 1=some (1,30):=by kernel_rfl
theorem Try.cells69:Try.prog.cellsOf 69=1:=by kernel_rfl
theorem Try.cells72:Try.prog.cellsOf 72=1:=by kernel_rfl
theorem Try.cells74:Try.prog.cellsOf 74=2:=by kernel_rfl
theorem Try.field74_0:fieldA Try.prog 74 0=some (0,5):=by kernel_rfl
theorem Try.field74_1:fieldA Try.prog 74 1=some (1,72):=by kernel_rfl
theorem Try.cells87:Try.prog.cellsOf 87=3:=by kernel_rfl
theorem Try.zero87:zeroA Try.prog 87=some [.lit (.int .i64 0),.lit (.slice none 0 0),.lit (.slice none 0 0)]:=by kernel_rfl
theorem Try.places87:placesA Try.prog 87=some [(0,2),(2,1)]:=by kernel_rfl
theorem Try.field87_0:fieldA Try.prog 87 0=some (0,66):=by kernel_rfl
theorem Try.field87_1:fieldA Try.prog 87 1=some (2,32):=by kernel_rfl
theorem Try.cells90:Try.prog.cellsOf 90=1:=by kernel_rfl
theorem Try.cells92:Try.prog.cellsOf 92=1:=by kernel_rfl
theorem Try.cells107:Try.prog.cellsOf 107=3:=by kernel_rfl
theorem Try.zero107:zeroA Try.prog 107=some [.lit (.slice none 0 0),.lit (.int .u16 0),.lit (.slice none 0 0)]:=by kernel_rfl
theorem Try.places107:placesA Try.prog 107=some [(0,1),(1,1),(2,1)]:=by kernel_rfl
theorem Try.field107_0:fieldA Try.prog 107 0=some (0,23):=by kernel_rfl
theorem Try.field107_2:fieldA Try.prog 107 2=some (2,23):=by kernel_rfl
theorem Try.cells110:Try.prog.cellsOf 110=3:=by kernel_rfl
theorem Try.zero110:zeroA Try.prog 110=some [.lit (.int .u8 0),.lit (.int .u8 0),.lit (.slice none 0 0)]:=by kernel_rfl
theorem Try.field110_0:fieldA Try.prog 110 0=some (0,5):=by kernel_rfl
theorem Try.field110_1:fieldA Try.prog 110 1=some (1,5):=by kernel_rfl
theorem Try.field110_2:fieldA Try.prog 110 2=some (2,23):=by kernel_rfl
theorem Try.cells114:Try.prog.cellsOf 114=1:=by kernel_rfl
theorem Try.cells134:Try.prog.cellsOf 134=1:=by kernel_rfl
theorem Try.zero134:zeroA Try.prog 134=some [.lit (.pointer none)]:=by kernel_rfl
theorem Try.zero137:zeroA Try.prog 137=some [.lit (.int .i64 0),.lit (.slice none 0 0),.lit (.int .u64 0),.lit (.slice none 0 0),.lit (.slice none 0 0),.lit (.slice none 0 0),.lit (.slice none 0 0),.lit (.int .i64 0)]:=by kernel_rfl
theorem Try.places137:placesA Try.prog 137=some [(0,4),(4,1),(5,1),(6,1),(7,1)]:=by kernel_rfl
theorem Try.field137_0:fieldA Try.prog 137 0=some (0,34):=by kernel_rfl
theorem Try.field137_2:fieldA Try.prog 137 2=some (5,52):=by kernel_rfl
theorem Try.field137_3:fieldA Try.prog 137 3=some (6,52):=by kernel_rfl
theorem Try.cells139:Try.prog.cellsOf 139=1:=by kernel_rfl
theorem Try.cells146:Try.prog.cellsOf 146=5:=by kernel_rfl
theorem Try.zero146:zeroA Try.prog 146=some [.lit (.int .i64 0),.lit (.slice none 0 0),.lit (.slice none 0 0),.lit (.slice none 0 0),.lit (.slice none 0 0)]:=by kernel_rfl
theorem Try.places146:placesA Try.prog 146=some [(0,2),(2,1),(3,1),(4,1)]:=by kernel_rfl
theorem Try.field146_0:fieldA Try.prog 146 0=some (0,66):=by kernel_rfl
theorem Try.field146_1:fieldA Try.prog 146 1=some (2,52):=by kernel_rfl
theorem Try.field146_2:fieldA Try.prog 146 2=some (3,69):=by kernel_rfl
theorem Try.field146_3:fieldA Try.prog 146 3=some (4,52):=by kernel_rfl
attribute [go_sem] Try.underlying3 Try.cells3 Try.bytes3 Try.zero3 Try.underlying4 Try.cells4 Try.zero4 Try.underlying5 Try.cells5 Try.bytes5 Try.zero5
attribute [go_sem] Try.underlying9 Try.underlying22 Try.cells22 Try.underlying23 Try.cells23
attribute [go_sem] Try.underlying24 Try.underlying25 Try.cells25
attribute [go_sem] Try.field25_0 Try.field25_1 Try.field25_2 Try.underlying26 Try.cells26 Try.underlying27
attribute [go_sem] Try.underlying28 Try.cells28 Try.field28_0 Try.field28_1
attribute [go_sem] Try.field28_2 Try.field28_3 Try.underlying30 Try.cells30 Try.underlying31 Try.cells31 Try.bytes31 Try.zero31 Try.underlying32 Try.cells32
attribute [go_sem] Try.underlying33 Try.underlying34
attribute [go_sem] Try.cells34 Try.zero34 Try.places34 Try.field34_0 Try.field34_1 Try.field34_2 Try.field34_3 Try.underlying36 Try.cells36 Try.zero36
attribute [go_sem] Try.underlying38 Try.cells38 Try.zero38 Try.underlying41 Try.underlying42
attribute [go_sem] Try.cells42 Try.zero42 Try.places42 Try.field42_0 Try.field42_1 Try.underlying52 Try.cells52 Try.bytes52 Try.zero52 Try.underlying55
attribute [go_sem] Try.underlying56 Try.cells56 Try.bytes56 Try.zero56 Try.places56 Try.field56_0
attribute [go_sem] Try.field56_1 Try.field56_2 Try.underlying59 Try.underlying60 Try.cells60 Try.bytes60
attribute [go_sem] Try.zero60 Try.field60_0 Try.field60_1 Try.underlying64 Try.cells64 Try.bytes64 Try.zero64 Try.underlying65
attribute [go_sem] Try.underlying66 Try.cells66 Try.zero66 Try.places66 Try.field66_0 Try.field66_1 Try.underlying69 Try.cells69
attribute [go_sem] Try.underlying72 Try.cells72 Try.underlying73
attribute [go_sem] Try.underlying74 Try.cells74 Try.field74_0 Try.field74_1 Try.underlying76
attribute [go_sem] Try.underlying86 Try.underlying87 Try.cells87 Try.zero87 Try.places87
attribute [go_sem] Try.field87_0 Try.field87_1 Try.underlying90 Try.cells90 Try.underlying92 Try.cells92 Try.underlying99
attribute [go_sem] Try.underlying101 Try.underlying102
attribute [go_sem] Try.underlying103 Try.underlying105
attribute [go_sem] Try.underlying106 Try.underlying107 Try.cells107
attribute [go_sem] Try.zero107 Try.places107 Try.field107_0 Try.field107_2 Try.underlying109
attribute [go_sem] Try.underlying110 Try.cells110 Try.zero110 Try.field110_0 Try.field110_1 Try.field110_2 Try.underlying114 Try.cells114
attribute [go_sem] Try.underlying129 Try.underlying134 Try.cells134 Try.zero134 Try.underlying135
attribute [go_sem] Try.underlying136
attribute [go_sem] Try.underlying137 Try.zero137 Try.places137 Try.field137_0 Try.field137_2 Try.field137_3 Try.underlying139 Try.cells139
attribute [go_sem] Try.underlying145 Try.underlying146
attribute [go_sem] Try.cells146 Try.zero146 Try.places146 Try.field146_0 Try.field146_1 Try.field146_2 Try.field146_3 Try.underlying149
attribute [go_sem] Try.underlying152 Try.underlying174
end Go.Proofs
/-
  Networks and diagrams as plain data, and as abstract values. Plain: no program stands in this text. No conditions.
-/
namespace Go.Proofs
open Go.Hx
def vecV (l:List (List Int)):AVal:=.vec l.length (l.map vecI)
structure NodeP where
 card:Int
 parents:List Int
 rows:List (List Int)
structure UtilP where
 vars:List Int
 w:List Int
def NodeP.cells (x:NodeP):List AVal:=[lin x.card,vecI x.parents,vecV x.rows]
def UtilP.cells (x:UtilP):List AVal:=[vecI x.vars,vecI x.w]
def nodesC (l:List NodeP):List AVal:=(l.map NodeP.cells).flatten
def utilsC (l:List UtilP):List AVal:=(l.map UtilP.cells).flatten
def nodesV (l:List NodeP):AVal:=.vec l.length (nodesC l)
def utilsV (l:List UtilP):AVal:=.vec l.length (utilsC l)
def netV (g:Int)(l:List NodeP):AVal:=.agg [lin g,nodesV l]
structure InfP where
 grain:Int
 nodes:List NodeP
 decs:Nat
 utils:List UtilP
def infV (d:InfP):AVal:=.agg [lin d.grain,nodesV d.nodes,.lit (.int .u64 (d.decs:Int)),utilsV d.utils]
theorem flat_get {α:Type}{f:α->List AVal}{z:Nat}(hz:∀ a,(f a).length=z):∀ (l:List α) (i j:Nat) (a:α),l[i]?=some a->j<z->((l.map f).flatten)[i*z+j]?=(f a)[j]?:=by
 intro l
 induction l with
 | nil=>intro i j a h;simp at h
 | cons x l ih =>
  intro i j a h hj
  simp only[List.map_cons,List.flatten_cons]
  cases i with
  | zero =>
   simp only[List.getElem?_cons_zero,Option.some.injEq]at h
   subst h
   rw[Nat.zero_mul,Nat.zero_add,List.getElem?_append_left (by rw[hz];exact hj)]
  | succ i =>
   have:(i+1)*z+j=z+(i*z+j):=by rw[Nat.add_mul];omega
   rw[this,List.getElem?_append_right (by rw[hz];omega),hz]
   have:z+(i*z+j) - z=i*z+j:=by omega
   rw[this]
   exact ih i j a (by simpa using h) hj
theorem flat_len {α:Type}{f:α->List AVal}{z:Nat}(hz:∀ a,(f a).length=z)(l:List α):((l.map f).flatten).length=l.length*z:=by
 induction l with
 | nil=>simp
 | cons x l ih=>simp only[List.map_cons,List.flatten_cons,List.length_append,ih,hz,List.length_cons];rw[Nat.add_mul];omega
theorem flat_part {α:Type}{f:α->List AVal}{z:Nat}(hz:∀ a,(f a).length=z):∀ (l:List α) (i:Nat) (a:α),l[i]?=some a->(((l.map f).flatten).drop (i*z)).take z=f a:=by
 intro l i a h
 apply List.ext_getElem?
 intro j
 by_cases hj:j<z
 ·rw[List.getElem?_take_of_lt hj,List.getElem?_drop,flat_get hz l i j a h hj]
 ·rw[List.getElem?_eq_none (by simp;omega),List.getElem?_eq_none (by rw[hz];omega)]
theorem nodesC_len (l:List NodeP):(nodesC l).length=l.length*3:=flat_len (f:=NodeP.cells) (fun _=>rfl) l
theorem nodesC_0 {l:List NodeP}{i:Nat}{x:NodeP}(h:l[i]?=some x):(nodesC l)[i*3]?=some (lin x.card):=flat_get (f:=NodeP.cells) (z:=3) (fun _=>rfl) l i 0 x h (by omega)
theorem nodesC_1 {l:List NodeP}{i:Nat}{x:NodeP}(h:l[i]?=some x):(nodesC l)[i*3+1]?=some (vecI x.parents):=flat_get (f:=NodeP.cells) (z:=3) (fun _=>rfl) l i 1 x h (by omega)
theorem nodesC_2 {l:List NodeP}{i:Nat}{x:NodeP}(h:l[i]?=some x):(nodesC l)[i*3+2]?=some (vecV x.rows):=flat_get (f:=NodeP.cells) (z:=3) (fun _=>rfl) l i 2 x h (by omega)
theorem nodesC_part {l:List NodeP}{i:Nat}{x:NodeP}(h:l[i]?=some x):((nodesC l).drop (i*3)).take 3=[lin x.card,vecI x.parents,vecV x.rows]:=flat_part (f:=NodeP.cells) (z:=3) (fun _=>rfl) l i x h
theorem nodesC_ne {l:List NodeP}{i:Nat}{x:NodeP}(h:l[i]?=some x):¬ nodesC l=[]:=fun e=>by
 have:=nodesC_0 h;rw[e]at this;simp at this
theorem utilsC_len (l:List UtilP):(utilsC l).length=l.length*2:=flat_len (f:=UtilP.cells) (fun _=>rfl) l
theorem utilsC_0 {l:List UtilP}{i:Nat}{x:UtilP}(h:l[i]?=some x):(utilsC l)[i*2]?=some (vecI x.vars):=flat_get (f:=UtilP.cells) (z:=2) (fun _=>rfl) l i 0 x h (by omega)
theorem utilsC_part {l:List UtilP}{i:Nat}{x:UtilP}(h:l[i]?=some x):((utilsC l).drop (i*2)).take 2=[vecI x.vars,vecI x.w]:=flat_part (f:=UtilP.cells) (z:=2) (fun _=>rfl) l i x h
theorem utilsC_ne {l:List UtilP}{i:Nat}{x:UtilP}(h:l[i]?=some x):¬ utilsC l=[]:=fun e=>by
 have:=utilsC_0 h;rw[e]at this;simp at this
theorem get_lt {α:Type}{l:List α}{i:Nat}{x:α}(h:l[i]?=some x):i<l.length:=by
 rcases Nat.lt_or_ge i l.length with h'|h'
 ·exact h'
 ·rw[List.getElem?_eq_none h']at h;cases h
theorem get_of_lt {α:Type}{l:List α}{i:Nat}(h:i<l.length):∃ x,l[i]?=some x:=⟨_,List.getElem?_eq_getElem h⟩
theorem get_of_int {α:Type}{l:List α}{i:Int}(h0:0<=i)(h:i<l.length):∃ k:Nat,i=k/\∃ x,l[k]?=some x:=⟨i.toNat,by omega,get_of_lt (by omega)⟩
def prodL (l:List Int):Int:=l.foldl (·*·) 1
theorem foldl_mul (l:List Int)(a:Int):l.foldl (·*·) a=a*prodL l:=by
 unfold prodL
 induction l generalizing a with
 | nil=>simp
 | cons x l ih=>simp only[List.foldl_cons];rw[ih,ih (1*x),Int.one_mul,Int.mul_assoc]
theorem prodL_nil:prodL []=1:=rfl
theorem prodL_cons (x:Int)(l:List Int):prodL (x :: l)=x*prodL l:=by
 show List.foldl _ (1*x) l=_;rw[foldl_mul,Int.one_mul]
theorem prodL_app (l l':List Int):prodL (l++l')=prodL l*prodL l':=by
 unfold prodL;rw[List.foldl_append,foldl_mul];rfl
theorem prodL_snoc (l:List Int)(x:Int):prodL (l++[x])=prodL l*x:=by rw[prodL_app,prodL_cons,prodL_nil,Int.mul_one]
theorem take_succ_get {α:Type}{l:List α}{k:Nat}{x:α}(h:l[k]?=some x):l.take (k+1)=l.take k++[x]:=by
 rw[List.take_add_one,h];rfl
theorem prodL_pos {l:List Int}(h:∀ x∈l,1<=x):1<=prodL l:=by
 induction l with
 | nil=>decide
 | cons x l ih =>
  rw[prodL_cons]
  have h1:=ih fun y hy=>h y (by simp [hy])
  have h2:=h x (by simp)
  have:=Int.mul_le_mul h2 h1 (by omega) (by omega)
  simpa using this
theorem prodL_le_pow {b:Int}{l:List Int}(hb:0<=b)(h:∀ x∈l,0<=x/\x<=b):0<=prodL l/\prodL l<=b ^ l.length:=by
 induction l with
 | nil=>exact⟨by decide,by simp [prodL]⟩
 | cons x l ih =>
  rw[prodL_cons]
  have h1:=ih fun y hy=>h y (by simp [hy])
  have h2:=h x (by simp)
  refine⟨Int.mul_nonneg h2.1 h1.1,?_⟩
  have:=Int.mul_le_mul h2.2 h1.2 h1.1 hb
  rw[List.length_cons,Int.pow_succ,Int.mul_comm (b ^ l.length)]
  exact this
def cardsL (l:List NodeP):List Int:=l.map (·.card)
def atL (l places:List Int):List Int:=places.map fun p=>l.getD p.toNat 0
def PlacesOk (places:List Int)(n:Int):Prop:=places.Pairwise (·<·)/\∀ p∈places,0<=p/\p<n
end Go.Proofs
set_option maxRecDepth 100000
namespace Go.Proofs
open Go.Hx
def G0:Nat->Option (List AVal):=noGl
theorem G0_ok:GOk G0:=noGl_ok
end Go.Proofs
namespace Go.Hx
variable {P:Program} {G:Nat->Option (List AVal)} {Γ Γ':Gam} {H H':AHeap} {w w':World}
theorem W.env {n:Nat}{rd:Option Nat}{Q:AX->St->Prop}{c:Code}{ρ:Env}{H:AHeap}(h:∀ E,E=ρ->W P G n rd c Q ⟨E,H⟩):W P G n rd c Q ⟨ρ,H⟩:=h ρ rfl
theorem Below.mono {n m:Nat}{v:AVal}(h:Below n v)(hm:n<=m):Below m v:=by
 induction h with
 | lit v=>exact .lit v
 | vec h ih=>exact .vec ih
 | vptr h ih=>exact .vptr ih
 | agg h ih=>exact .agg ih
 | tup h ih=>exact .tup ih
 | clo h1 h2 ih1 ih2=>exact .clo ih1 ih2
 | own h=>exact .own (by omega)
 | ptr h=>exact .ptr (by omega)
 | yld h=>exact .yld (by omega)
theorem setAt_one {l:List AVal}{i:Nat}{x:AVal}(h:i<l.length):setAt l i [x]=l.set i x:=by
 unfold setAt
 rw[List.set_eq_take_append_cons_drop,if_pos h]
 simp
theorem Over.cutO {B H:AHeap}(h:Over B H){n:Nat}(hn:B.next<=n):Over B (H.cut n):=⟨h.next,fun id hi=>(cut_get (by omega)).trans (h.old id hi)⟩
section
variable {t:TypeId} {x y:Operand} {k k':IntKind} {a b:Int}
theorem bin_shr (hb:0<=b):binA P .shr t x y (.lit (.int k a)) (.lit (.int k' b))=some (.lit (.int k (a.fdiv (2 ^ (min b.toNat k.bits))))):=by
 have h:¬ b<0:=by omega
 simp [binA,AVal.toVal,eqGuard,binOp,Op.shift,h,pureRun,bind,Sem.bind,pure]
theorem bin_shl (hb:0<=b):binA P .shl t x y (.lit (.int k a)) (.lit (.int k' b))=some (.lit (.int k (k.wrap (a*2 ^ (min b.toNat k.bits))))):=by
 have h:¬ b<0:=by omega
 simp [binA,AVal.toVal,eqGuard,binOp,Op.shift,h,pureRun,bind,Sem.bind,pure]
theorem bin_and:binA P .and t x y (.lit (.int k a)) (.lit (.int k b))=some (.lit (.int k (k.wrap ((BitVec.ofInt k.bits a &&& BitVec.ofInt k.bits b).toNat:Nat)))):=by
 simp [binA,AVal.toVal,eqGuard,binOp,Op.intBits,pureRun,bind,Sem.bind,pure]
theorem bin_or:binA P .or t x y (.lit (.int k a)) (.lit (.int k b))=some (.lit (.int k (k.wrap ((BitVec.ofInt k.bits a ||| BitVec.ofInt k.bits b).toNat:Nat)))):=by
 simp [binA,AVal.toVal,eqGuard,binOp,Op.intBits,pureRun,bind,Sem.bind,pure]
theorem bin_andNot:binA P .andNot t x y (.lit (.int k a)) (.lit (.int k b))=some (.lit (.int k (k.wrap ((BitVec.ofInt k.bits a &&& ~~~ BitVec.ofInt k.bits b).toNat:Nat)))):=by
 simp [binA,AVal.toVal,eqGuard,binOp,Op.intBits,pureRun,bind,Sem.bind,pure]
def bitV (m:Nat):AVal:=.lit (.int .u64 (m:Int))
def subN (a b:Nat):Nat:=(BitVec.ofNat 64 a &&& ~~~ BitVec.ofNat 64 b).toNat
theorem toNat64 {m:Nat}(h:m<2 ^ 64):(BitVec.ofInt 64 (m:Int)).toNat=m:=by rw[BitVec.ofInt_natCast,BitVec.toNat_ofNat,Nat.mod_eq_of_lt h]
theorem subN_lt (a b:Nat):subN a b<2 ^ 64:=(BitVec.isLt _)
theorem subN_bit {a b i:Nat}(ha:a<2 ^ 64):(subN a b).testBit i=(a.testBit i && !b.testBit i):=by
 unfold subN
 by_cases hi:i<64
 ·rw[<- BitVec.getLsbD,BitVec.getLsbD_and,BitVec.getLsbD_not,BitVec.getLsbD_ofNat,BitVec.getLsbD_ofNat]
  simp [hi]
 ·have h1:a.testBit i=false:=Nat.testBit_lt_two_pow (Nat.lt_of_lt_of_le ha (Nat.pow_le_pow_right (by decide) (by omega)))
  rw[h1,<- BitVec.getLsbD,BitVec.getLsbD_of_ge _ _ (by omega)]
  rfl
theorem u64_nat {m:Nat}(h:m<2 ^ 64):IntKind.u64.wrap (m:Int)=m:=IntWalk.u64_in _ (by omega)
theorem andB {a b:Nat}(ha:a<2 ^ 64)(hb:b<2 ^ 64):binA P .and t x y (.lit (.int .u64 (a:Int))) (.lit (.int .u64 (b:Int)))=some (.lit (.int .u64 ((a &&& b:Nat):Int))):=by
 rw[bin_and]
 have e:(BitVec.ofInt (IntKind.bits .u64) (a:Int) &&& BitVec.ofInt (IntKind.bits .u64) (b:Int)).toNat=a &&& b:=by
  show (BitVec.ofInt 64 _ &&& BitVec.ofInt 64 _).toNat=_
  rw[BitVec.toNat_and,toNat64 ha,toNat64 hb]
 rw[e,u64_nat (Nat.lt_of_le_of_lt Nat.and_le_left ha)]
theorem orB {a b:Nat}(ha:a<2 ^ 64)(hb:b<2 ^ 64):binA P .or t x y (.lit (.int .u64 (a:Int))) (.lit (.int .u64 (b:Int)))=some (.lit (.int .u64 ((a ||| b:Nat):Int))):=by
 rw[bin_or]
 have e:(BitVec.ofInt (IntKind.bits .u64) (a:Int) ||| BitVec.ofInt (IntKind.bits .u64) (b:Int)).toNat=a ||| b:=by
  show (BitVec.ofInt 64 _ ||| BitVec.ofInt 64 _).toNat=_
  rw[BitVec.toNat_or,toNat64 ha,toNat64 hb]
 rw[e,u64_nat (Nat.or_lt_two_pow ha hb)]
theorem subB {a b:Nat}:binA P .andNot t x y (.lit (.int .u64 (a:Int))) (.lit (.int .u64 (b:Int)))=some (.lit (.int .u64 ((subN a b:Nat):Int))):=by
 rw[bin_andNot]
 have e:(BitVec.ofInt (IntKind.bits .u64) (a:Int) &&& ~~~ BitVec.ofInt (IntKind.bits .u64) (b:Int)).toNat=subN a b:=by
  show (BitVec.ofInt 64 _ &&& ~~~ BitVec.ofInt 64 _).toNat=_
  rw[BitVec.ofInt_natCast,BitVec.ofInt_natCast]
  rfl
 rw[e,u64_nat (subN_lt a b)]
theorem shrB {a s:Nat}(ha:a<2 ^ 64):binA P .shr t x y (.lit (.int .u64 (a:Int))) (.lit (.int k' (s:Int)))=some (.lit (.int .u64 ((a >>> s:Nat):Int))):=by
 rw[bin_shr (by omega),Int.toNat_natCast]
 have e:(a:Int).fdiv (2 ^ (min s (IntKind.bits .u64)))=((a >>> s:Nat):Int):=by
  rw[Int.fdiv_eq_ediv_of_nonneg _ (by exact_mod_cast Nat.zero_le _),Nat.shiftRight_eq_div_pow]
  show (a:Int) / 2 ^ (min s 64)=_
  rcases Nat.le_total s 64 with h|h
  ·rw[Nat.min_eq_left h];push_cast;rfl
  ·rw[Nat.min_eq_right h]
   have h1:a / 2 ^ s=0:=Nat.div_eq_of_lt (Nat.lt_of_lt_of_le ha (Nat.pow_le_pow_right (by decide) h))
   rw[h1]
   exact Int.ediv_eq_zero_of_lt (by omega) (by omega)
 rw[e]
theorem shlB {s:Nat}(hs:s<64):binA P .shl t x y (.lit (.int .u64 1)) (.lit (.int k' (s:Int)))=some (.lit (.int .u64 ((2 ^ s:Nat):Int))):=by
 rw[bin_shl (by omega),Int.toNat_natCast]
 have e:min s (IntKind.bits .u64)=s:=Nat.min_eq_left (by show s<=64;omega)
 have h2:2 ^ s<2 ^ 64:=Nat.pow_lt_pow_right (by decide) hs
 rw[e,Int.one_mul]
 have h3:((2:Int) ^ s)=((2 ^ s:Nat):Int):=by push_cast;rfl
 rw[h3,u64_nat h2]
theorem bit1 {a s:Nat}(ha:a<2 ^ 64):binA P .and t x y (.lit (.int .u64 ((a >>> s:Nat):Int))) (.lit (.int .u64 1))=some (.lit (.int .u64 (if a.testBit s then 1 else 0))):=by
 have h1:a >>> s<2 ^ 64:=Nat.lt_of_le_of_lt (Nat.shiftRight_le _ _) ha
 have:=andB (P:=P) (t:=t) (x:=x) (y:=y) (a:=a >>> s) (b:=1) h1 (by decide)
 rw[show (((1:Nat):Int))=1 from rfl]at this
 rw[this,Nat.and_one_is_mod]
 congr 3
 rw[Nat.testBit,Nat.and_comm,Nat.and_one_is_mod]
 rcases Nat.mod_two_eq_zero_or_one (a >>> s) with h|h<;>rw[h]<;>rfl
end
end Go.Hx
namespace Go.Proofs
open Go.Hx
theorem get_ext0 (H:AHeap)(b:Blk)(L:List Blk):(ext H (b :: L)).get H.next=some b:=get_ext H (b :: L) 0 (by simp)
theorem ints_take (l:List Int)(n:Nat):(ints l).take n=ints (l.take n):=by simp [ints]
theorem ints_drop (l:List Int)(n:Nat):(ints l).drop n=ints (l.drop n):=by simp [ints]
theorem ne_of_get {α:Type}{l:List α}{i:Nat}{a:α}(h:l[i]?=some a):¬ l=[]:=by rintro rfl;simp at h
theorem setAt_ints {l:List Int}{i:Nat}{x:Int}(h:i<l.length):setAt (ints l) i [.lit (.int .i64 x)]=ints (l.set i x):=by
 rw[setAt_one (by simpa [ints] using h)]
 simp [ints,lin]
theorem guardA_undef (w:Bool):guardA w (some (.lit undef))=some false:=rfl
end Go.Proofs
/-
  Mixed radix: numbers of combinations. Plain: no program stands in this text. No conditions.
-/
namespace Go.Proofs
open Go.Hx
def parC (ns:List NodeP)(x:NodeP):List Int:=atL (cardsL ns) x.parents
def idxL:List Int->List Int->Int
 | _ :: cs,v :: vs=>v*prodL cs+idxL cs vs
 | _,_=>0
def valsL:List Int->Int->List Int
 | [],_=>[]
 | c :: cs,i=>i / prodL cs % c :: valsL cs i
theorem valsL_len (cs:List Int)(i:Int):(valsL cs i).length=cs.length:=by
 induction cs with
 | nil=>rfl
 | cons c cs ih=>simp [valsL,ih]
theorem drop_of_get {α:Type}{l:List α}{k:Nat}{a:α}(h:l[k]?=some a):l.drop k=a :: l.drop (k+1):=by
 rw[List.drop_eq_getElem_cons (get_lt h)]
 congr 1
 have:=List.getElem?_eq_getElem (get_lt h)
 rw[h]at this
 exact(Option.some.inj this).symm
theorem valsL_range {cs:List Int}(h:∀ c∈cs,1<=c)(i:Int):∀ (k:Nat) (c v:Int),cs[k]?=some c->(valsL cs i)[k]?=some v->0<=v/\v<c:=by
 induction cs with
 | nil=>intro k c v h;simp at h
 | cons a cs ih =>
  intro k c v h1 h2
  cases k with
  | zero =>
   simp only[valsL,List.getElem?_cons_zero,Option.some.injEq]at h1 h2
   subst h1;subst h2
   have:=h a (by simp)
   exact⟨Int.emod_nonneg _ (by omega),Int.emod_lt_of_pos _ (by omega)⟩
  | succ k =>
   simp only[valsL,List.getElem?_cons_succ]at h1 h2
   exact ih (fun c hc=>h c (by simp [hc])) k c v h1 h2
def FitsC (cs vs:List Int):Prop:=vs.length=cs.length/\∀ (k:Nat) (c v:Int),cs[k]?=some c->vs[k]?=some v->0<=v/\v<c
theorem FitsC.tail {c v:Int}{cs vs:List Int}(h:FitsC (c :: cs) (v :: vs)):FitsC cs vs:=⟨by simpa using h.1,fun k c v h1 h2=>h.2 (k+1) c v (by simpa using h1) (by simpa using h2)⟩
theorem FitsC.head {c v:Int}{cs vs:List Int}(h:FitsC (c :: cs) (v :: vs)):0<=v/\v<c:=h.2 0 c v (by simp) (by simp)
theorem FitsC.pos {cs vs:List Int}(h:FitsC cs vs):∀ c∈cs,1<=c:=fun c hc=>by
 obtain⟨k,hk⟩:=List.mem_iff_getElem?.1 hc
 obtain⟨v,hv⟩:=get_of_lt (l:=vs) (i:=k) (by rw[h.1];exact get_lt hk)
 have:=h.2 k c v hk hv
 omega
theorem fits_vals {cs:List Int}(h:∀ c∈cs,1<=c)(i:Int):FitsC cs (valsL cs i):=⟨valsL_len cs i,valsL_range h i⟩
theorem idxL_range:∀ {cs vs:List Int},FitsC cs vs->0<=idxL cs vs/\idxL cs vs<prodL cs:=by
 intro cs
 induction cs with
 | nil=>intro vs _;cases vs<;>(simp [idxL,prodL_nil])
 | cons c cs ih =>
  intro vs h
  cases vs with
  | nil=>exact absurd h.1 (by simp)
  | cons v vs =>
   have h1:=ih h.tail
   have h2:=h.head
   have hp:1<=prodL cs:=prodL_pos fun x hx=>h.pos x (by simp [hx])
   rw[prodL_cons]
   simp only[idxL]
   have h3:0<=v*prodL cs:=Int.mul_nonneg h2.1 (by omega)
   have h4:(v+1)*prodL cs<=c*prodL cs:=Int.mul_le_mul_of_nonneg_right (by omega) (by omega)
   rw[Int.add_mul,Int.one_mul]at h4
   omega
theorem vals_idx:∀ {cs vs:List Int},FitsC cs vs->valsL cs (idxL cs vs)=vs:=by
 have key:∀ (cs:List Int) (i a c:Int),(∀ x∈cs,1<=x)->valsL cs (a*prodL cs*c+i)=valsL cs i:=by
  intro cs
  induction cs with
  | nil=>intros;rfl
  | cons x cs ih =>
   intro i a c h
   have hx:=h x (by simp)
   have hp:1<=prodL cs:=prodL_pos fun y hy=>h y (by simp [hy])
   simp only[valsL,prodL_cons]
   have e1:a*(x*prodL cs)*c+i=i+prodL cs*(x*(a*c)):=by
    rw[Int.add_comm];congr 1;ac_rfl
   have e2:a*(x*prodL cs)*c+i=a*prodL cs*(x*c)+i:=by congr 1;ac_rfl
   congr 1
   ·rw[e1,Int.add_mul_ediv_left _ _ (by omega),Int.add_mul_emod_self_left]
   ·rw[e2];exact ih i a (x*c) fun y hy=>h y (by simp [hy])
 intro cs
 induction cs with
 | nil=>intro vs h;cases vs with
  | nil=>rfl
  | cons=>exact absurd h.1 (by simp)
 | cons c cs ih =>
  intro vs h
  cases vs with
  | nil=>exact absurd h.1 (by simp)
  | cons v vs =>
   have hp:1<=prodL cs:=prodL_pos fun x hx=>h.pos x (by simp [hx])
   have hr:=idxL_range h.tail
   have h2:=h.head
   simp only[idxL,valsL]
   congr 1
   ·rw[Int.add_comm,Int.add_mul_ediv_right _ _ (by omega),Int.ediv_eq_zero_of_lt hr.1 hr.2,Int.zero_add,Int.emod_eq_of_lt h2.1 h2.2]
   ·have:=key cs (idxL cs vs) v 1 fun x hx=>h.pos x (by simp [hx])
    rw[Int.mul_one]at this
    rw[this];exact ih h.tail
theorem emod_mul_nn (i m n:Int)(hm:0<m)(hn:0<n):i % (m*n)=i % m+m*(i / m % n):=by
 have h1:=Int.emod_add_mul_ediv i (m*n)
 have h2:=Int.emod_add_mul_ediv i m
 have h3:=Int.emod_add_mul_ediv (i / m) n
 have h4:i / m / n=i / (m*n):=Int.ediv_ediv_of_nonneg (by omega)
 rw[h4]at h3
 have h5:m*(i / m)=m*(i / m % n)+m*n*(i / (m*n)):=by
  conv=>lhs;rw[<- h3]
  rw[Int.mul_add,Int.mul_assoc]
 omega
theorem idx_vals {cs:List Int}(h:∀ c∈cs,1<=c):∀ {i:Int},0<=i->i<prodL cs->idxL cs (valsL cs i)=i:=by
 have:∀ (cs:List Int) (i:Int),(∀ c∈cs,1<=c)->idxL cs (valsL cs i)=i % prodL cs:=by
  intro cs
  induction cs with
  | nil=>intro i _;simp [idxL,valsL,prodL_nil]
  | cons c cs ih =>
   intro i h
   have hp:1<=prodL cs:=prodL_pos fun x hx=>h x (by simp [hx])
   simp only[idxL,valsL]
   rw[ih i fun x hx=>h x (by simp [hx]),prodL_cons,Int.mul_comm c,emod_mul_nn _ _ _ (by omega:0<prodL cs) (by have:=h c (by simp);omega)]
   rw[Int.mul_comm];omega
 intro i h0 h1
 rw[this cs i h,Int.emod_eq_of_lt h0 h1]
def hornL (cs vs:List Int):Int:=(cs.zip vs).foldl (fun a p=>a*p.1+p.2) 0
theorem horn_go:∀ (cs vs:List Int),vs.length=cs.length->∀ a,(cs.zip vs).foldl (fun a p=>a*p.1+p.2) a=a*prodL cs+idxL cs vs:=by
 intro cs
 induction cs with
 | nil=>intro vs _ a;simp [prodL_nil,idxL]
 | cons c cs ih =>
  intro vs h a
  cases vs with
  | nil=>simp at h
  | cons v vs =>
   simp only[List.zip_cons_cons,List.foldl_cons]
   rw[ih vs (by simpa using h),prodL_cons]
   simp only[idxL]
   rw[Int.add_mul,Int.mul_assoc];omega
theorem hornL_eq {cs vs:List Int}(h:vs.length=cs.length):hornL cs vs=idxL cs vs:=by
 unfold hornL;rw[horn_go cs vs h];omega
theorem hornL_snoc {cs vs:List Int}{k:Nat}{c v:Int}(h1:cs[k]?=some c)(h2:vs[k]?=some v):hornL (cs.take (k+1)) (vs.take (k+1))=hornL (cs.take k) (vs.take k)*c+v:=by
 unfold hornL
 rw[take_succ_get h1,take_succ_get h2,List.zip_append (by have:=get_lt h1;have:=get_lt h2;simp;omega),List.foldl_append]
 rfl
def succL:List Int->List Int->Option (List Int)
 | c :: cs,v :: vs=>match succL cs vs with
  | some ws=>some (v :: ws)
  | none=>if v+1<c then some ((v+1) :: cs.map fun _=>0) else none
 | _,_=>none
theorem vals_zero {cs:List Int}(h:∀ c∈cs,1<=c):valsL cs 0=cs.map fun _=>0:=by
 induction cs with
 | nil=>rfl
 | cons c cs ih=>simp [valsL,ih fun x hx=>h x (by simp [hx])]
theorem succ_vals:∀ {cs vs:List Int},FitsC cs vs->succL cs vs=if idxL cs vs+1<prodL cs then some (valsL cs (idxL cs vs+1)) else none:=by
 intro cs
 induction cs with
 | nil=>intro vs h;cases vs with
  | nil=>simp [succL,idxL,prodL_nil]
  | cons=>exact absurd h.1 (by simp)
 | cons c cs ih =>
  intro vs h
  cases vs with
  | nil=>exact absurd h.1 (by simp)
  | cons v vs =>
   have hpos:∀ x∈cs,1<=x:=fun x hx=>h.pos x (by simp [hx])
   have hp:1<=prodL cs:=prodL_pos hpos
   have hr:=idxL_range h.tail
   have h2:=h.head
   have hv:=vals_idx h.tail
   simp only[succL,ih h.tail,idxL,prodL_cons]
   by_cases hb:idxL cs vs+1<prodL cs
   ·rw[if_pos hb]
    have h4:(v+1)*prodL cs<=c*prodL cs:=Int.mul_le_mul_of_nonneg_right (by omega) (by omega)
    rw[Int.add_mul,Int.one_mul]at h4
    have hlt:v*prodL cs+idxL cs vs+1<c*prodL cs:=by omega
    rw[if_pos hlt]
    simp only[valsL]
    have g1:v=(v*prodL cs+idxL cs vs+1) / prodL cs % c:=by
     rw[Int.add_assoc,Int.add_comm,Int.add_mul_ediv_right _ _ (by omega),Int.ediv_eq_zero_of_lt (by omega) hb,Int.zero_add,Int.emod_eq_of_lt h2.1 h2.2]
    have g2:valsL cs (idxL cs vs+1)=valsL cs (v*prodL cs+idxL cs vs+1):=by
     have e:idxL cs vs+1=idxL cs (valsL cs (idxL cs vs+1)):=(idx_vals hpos (by omega) hb).symm
     have f:FitsC (c :: cs) (v :: valsL cs (idxL cs vs+1)):=⟨by simp [valsL_len],fun k c' v' h1 h3=>by
      cases k with
      | zero=>simp at h1 h3;subst h1;subst h3;exact h2
      | succ k=>exact valsL_range hpos _ k c' v' (by simpa using h1) (by simpa using h3)⟩
     have:=vals_idx f
     simp only[idxL,valsL,List.cons.injEq]at this
     rw[<- e]at this
     rw[Int.add_assoc]
     exact this.2.symm
    rw[<- g1,<- g2]
   ·rw[if_neg hb]
    have hi:idxL cs vs+1=prodL cs:=by omega
    have e1:v*prodL cs+idxL cs vs+1=(v+1)*prodL cs:=by rw[Int.add_mul];omega
    rw[e1]
    by_cases hc:v+1<c
    ·rw[if_pos hc]
     have h4:(v+1)*prodL cs<c*prodL cs:=Int.mul_lt_mul_of_pos_right hc (by omega)
     rw[if_pos h4]
     simp only[valsL]
     congr 1
     congr 1
     ·rw[Int.mul_ediv_cancel _ (by omega),Int.emod_eq_of_lt (by omega) hc]
     ·have f:FitsC (c :: cs) ((v+1) :: valsL cs 0):=⟨by simp [valsL_len],fun k c' v' h1 h3=>by
       cases k with
       | zero=>simp at h1 h3;subst h1;subst h3;omega
       | succ k=>exact valsL_range hpos _ k c' v' (by simpa using h1) (by simpa using h3)⟩
      have:=vals_idx f
      simp only[idxL,valsL,List.cons.injEq]at this
      rw[idx_vals hpos (Int.le_refl 0) (by omega),Int.add_zero]at this
      rw[this.2,vals_zero hpos]
    ·rw[if_neg hc]
     have h4:c*prodL cs<=(v+1)*prodL cs:=Int.mul_le_mul_of_nonneg_right (by omega) (by omega)
     rw[if_neg (by omega)]
end Go.Proofs
namespace Go.Proofs
open Go.Hx
def SmallC (l:List Int):Prop:=l.length<=12/\∀ x∈l,0<=x/\x<=8
theorem SmallC.prod {l:List Int}(h:SmallC l):0<=prodL l/\prodL l<=68719476736:=by
 have h1:=prodL_le_pow (b:=8) (by omega) h.2
 have h2:(8:Int) ^ l.length<=8 ^ 12:=by
  have:(8:Nat) ^ l.length<=8 ^ 12:=Nat.pow_le_pow_right (by decide) h.1
  exact_mod_cast this
 exact⟨h1.1,Int.le_trans h1.2 h2⟩
theorem SmallC.take {l:List Int}(h:SmallC l)(k:Nat):SmallC (l.take k):=⟨by have:=h.1;simp;omega,fun x hx=>h.2 x (List.mem_of_mem_take hx)⟩
theorem SmallC.drop {l:List Int}(h:SmallC l)(k:Nat):SmallC (l.drop k):=⟨by have:=h.1;simp;omega,fun x hx=>h.2 x (List.mem_of_mem_drop hx)⟩
theorem size02_spec (l:List Int)(hl:SmallC l)(H:AHeap)(K:ARes->AHeap->Prop)(hK:K (.ret (lin (prodL l))) H):ACall Try.prog G0 48 [vecI l] H K:=by
 have l12:=hl.1
 refine ACall.of_body (n:=18) (rs:=[.tmp 2]) Try.func48 rfl rfl rfl (by decide) (by kernel_rfl) (by simp) ?_
 simp only[go_sem]
 refine W.loop0 131064 (by rfl) (fun ρ H'=>H'=H/\∃ k:Nat,ρ 4=lin k/\k<=l.length/\ρ 3=lin (prodL (l.take k))) (fun ρ H=>l.length - (iv (ρ 4)).toNat) ?_ ?_
 ·simp only[go_sem]
  exact⟨0,rfl,by omega,by simp [prodL_nil]⟩
 rintro ρ H' ⟨rfl,k,h4,hk,h3⟩
 refine vc_sound _ _ _ (by rfl) ?_
 by_cases hb:(k:Int)<l.length
 ·obtain⟨c,hc⟩:=get_of_lt (l:=l) (i:=k) (by omega)
  have hne:=ne_of_get hc
  have b1:=(hl.take (k+1)).prod
  rw[take_succ_get hc,prodL_snoc]at b1
  simp only[go_sem,h4,h3,hb,hc,hne]
  rw[IntWalk.i64_in ((k:Int)+1) (by omega),IntWalk.i64_in (_*c) (by omega)]
  exact⟨⟨k+1,by simp,by omega,by rw[take_succ_get hc,prodL_snoc]⟩,by omega⟩
 ·simp only[go_sem,h4,h3,hb]
  rw[List.take_of_length_le (by omega)]
  exact FinV.mk (Nat.le_refl _) hK
end Go.Proofs
namespace Go.Proofs
open Go.Hx
theorem clone_spec (x:List Int)(hx:(x.length:Int)<2 ^ 40)(H:AHeap)(K:ARes->AHeap->Prop)(hK:K (.ret (vecI x)) H):ACall Try.prog G0 18 [vecI x] H K:=by
 refine ACall.clo ⟨_,Try.func18,rfl,rfl⟩ fun hc=>?_
 refine ACall.of_body (n:=8) (rs:=[.tmp 2]) Try.func18 rfl rfl rfl (by decide) (by kernel_rfl) (by simp) ?_
 simp only[go_sem]
 intro b hlen
 cases b with
 | true =>
  have hx0:x=[]:=List.eq_nil_of_length_eq_zero (by
   by_cases h:0<x.length
   ·have:=hlen (by simpa using h)
    cases this
   ·omega)
  simp only[go_sem]
  subst hx0
  exact FinV.drop0 G0_ok hc .ints_nil hK
 | false =>
  by_cases h0:x.length=0
  ·have hx0:x=[]:=List.eq_nil_of_length_eq_zero h0
   subst hx0
   simp only[go_sem,appendA_U]
   refine⟨⟨rfl,rfl⟩,FinV.drop (v':=vecI []) G0_ok hc ?_ hK⟩
   exact .ints (Nat.le_refl _) (get_ext0 ..) rfl fun i hi=>absurd hi (Nat.not_lt_zero _)
  ·simp only[go_sem,h0,appendA_U]
   refine⟨⟨rfl,by omega,by omega,all_one_ints x⟩,FinV.drop G0_ok hc ?_ hK⟩
   exact .ints (Nat.le_refl _) (get_ext0 ..) rfl fun i hi=>by simp [ints_get,hi]
end Go.Proofs
namespace Go.Proofs
open Go.Hx
instance placesDec (l:List Int)(n:Int):Decidable (PlacesOk l n):=by unfold PlacesOk;infer_instance
theorem PlacesOk.nil {n:Int}:PlacesOk [] n:=⟨.nil,fun _ h=>by cases h⟩
theorem PlacesOk.take {l:List Int}{n:Int}(h:PlacesOk l n)(k:Nat):PlacesOk (l.take k) n:=⟨h.1.sublist (List.take_sublist k l),fun p hp=>h.2 p (List.mem_of_mem_take hp)⟩
theorem PlacesOk.snoc {l:List Int}{n a:Int}(h:PlacesOk l n)(ha:0<=a/\a<n)(hl:∀ b,l.getLast?=some b->b<a):PlacesOk (l++[a]) n:=by
 refine⟨List.pairwise_append.2 ⟨h.1,by simp,fun x hx y hy=>?_⟩,fun p hp=>?_⟩
 ·obtain rfl:=List.mem_singleton.1 hy
  rcases List.eq_nil_or_concat l with rfl|⟨l',b,rfl⟩
  ·cases hx
  ·have hb:=hl b (by simp)
   simp only[List.concat_eq_append]at hx h
   rcases List.mem_append.1 hx with hx|hx
   ·have:=(List.pairwise_append.1 h.1).2.2 x hx b (by simp)
    omega
   ·obtain rfl:=List.mem_singleton.1 hx;exact hb
 ·rcases List.mem_append.1 hp with hp|hp
  ·exact h.2 p hp
  ·obtain rfl:=List.mem_singleton.1 hp;exact ha
theorem PlacesOk.lt {l:List Int}{n:Int}(h:PlacesOk l n){i j:Nat}{a b:Int}(ha:l[i]?=some a)(hb:l[j]?=some b)(hij:i<j):a<b:=by
 have:=List.pairwise_iff_getElem.1 h.1 i j (get_lt ha) (get_lt hb) hij
 have e1:=List.getElem?_eq_getElem (get_lt ha)
 have e2:=List.getElem?_eq_getElem (get_lt hb)
 rw[ha]at e1;rw[hb]at e2
 rw[Option.some.inj e1,Option.some.inj e2];exact this
theorem PlacesOk.len {l:List Int}{n:Int}(h:PlacesOk l n):(l.length:Int)<=max n 0:=by
  -- the k-th place is at least k
 have key:∀ (k:Nat) (a:Int),l[k]?=some a->(k:Int)<=a:=by
  intro k
  induction k with
  | zero=>intro a ha;have:=h.2 a (List.mem_of_getElem? ha);omega
  | succ k ih =>
   intro a ha
   obtain⟨b,hb⟩:=get_of_lt (l:=l) (i:=k) (by have:=get_lt ha;omega)
   have:=ih b hb
   have:=h.lt hb ha (by omega)
   omega
 rcases Nat.eq_zero_or_pos l.length with h0|h0
 ·omega
 ·obtain⟨a,ha⟩:=get_of_lt (l:=l) (i:=l.length - 1) (by omega)
  have h1:=key _ a ha
  have h2:=h.2 a (List.mem_of_getElem? ha)
  omega
theorem last_take {l:List Int}{j:Nat}{b:Int}(h:l[j]?=some b):(l.take (j+1)).getLast?=some b:=by rw[take_succ_get h];simp
theorem increasing_spec (l:List Int)(n:Int)(hl:(l.length:Int)<2 ^ 62)(H:AHeap)(K:ARes->AHeap->Prop)(hK:K (.ret (.lit (.bool (decide (PlacesOk l n))))) H):ACall Try.prog G0 85 [vecI l,lin n] H K:=by
 have no:¬ PlacesOk l n->FinV Try.prog G0 H K (.lit (.bool false)) H:=fun h=>FinV.mk (Nat.le_refl _) (by rw[decide_eq_false h]at hK;exact hK)
 refine ACall.of_body (n:=24) (rs:=[.tmp 4]) Try.func85 rfl rfl rfl (by decide) (by kernel_rfl) (by simp) ?_
 simp only[go_sem]
 refine W.loop0 16776368 (by rfl) (fun ρ H'=>H'=H/\∃ (k:Nat) (b:Int),ρ 10=lin k/\k<=l.length/\ρ 5=lin b/\PlacesOk (l.take k) n/\(l.take k).getLast?.getD (-1)=b) (fun ρ H=>l.length - (iv (ρ 10)).toNat) ?_ ?_
 ·simp only[go_sem]
  exact⟨0,-1,rfl,by omega,rfl,.nil,rfl⟩
 rintro ρ H' ⟨rfl,k,b,h10,hk,h5,hp,hbl⟩
 refine vc_sound _ _ _ (by rfl) ?_
 by_cases hb:(k:Int)<l.length
 ·obtain⟨a,ha⟩:=get_of_lt (l:=l) (i:=k) (by omega)
  have hne:=ne_of_get ha
  have ham:=List.mem_of_getElem? ha
  by_cases c1:a<=b
  ·simp only[go_sem,h10,h5,hb,ha,hne,c1]
   refine no fun h=>?_
   have h0:=h.2 a ham
   rcases Nat.eq_zero_or_pos k with rfl|hk0
   ·simp at hbl;omega
   ·obtain⟨j,rfl⟩:∃ j,k=j+1:=⟨k - 1,by omega⟩
    obtain⟨b',hbj⟩:=get_of_lt (l:=l) (i:=j) (by omega)
    rw[last_take hbj]at hbl
    have:=h.lt hbj ha (by omega)
    simp at hbl;omega
  by_cases c2:a >= n
  ·simp only[go_sem,h10,h5,hb,ha,hne,c1,c2]
   exact no fun h=>by have:=h.2 a ham;omega
  have w1:=IntWalk.i64_in ((k:Int)+1) (by omega)
  simp only[go_sem,h10,h5,hb,ha,hne,c1,c2,w1]
  have h0:0<=a:=by
   rcases hg:(l.take k).getLast? with _|b'
   ·rw[hg]at hbl;simp at hbl;omega
   ·rw[hg]at hbl
    have:=hp.2 b' (List.mem_of_getLast? hg)
    simp at hbl;omega
  refine⟨⟨k+1,a,by simp,by omega,rfl,?_,by rw[last_take ha];rfl⟩,by omega⟩
  rw[take_succ_get ha]
  exact hp.snoc ⟨h0,by omega⟩ fun b' hb'=>by rw[hb']at hbl;simp at hbl;omega
 ·simp only[go_sem,h10,hb]
  rw[List.take_of_length_le (by omega)]at hp
  rw[decide_eq_true hp]at hK
  exact FinV.mk (Nat.le_refl _) hK
end Go.Proofs
namespace Go.Hx
theorem Over.live {H H':AHeap}(h:Over H H'){id g:Nat}(hi:id<H.next):H'.live id g=H.live id g:=by
 unfold AHeap.live;rw[h.old id hi]
theorem Over.upd {H H':AHeap}(h:Over H H'){id:Nat}(hi:H.next<=id)(b:Blk):Over H (H'.upd id b):=⟨h.next,fun j hj=>by rw[upd_get,if_neg (by omega)];exact h.old j hj⟩
theorem live_upd_same {H:AHeap}{id g:Nat}{e:TypeId}{c:List AVal}:(H.upd id (.arr g e c)).live id g=some (e,c):=get_live (by rw[upd_get,if_pos rfl])
theorem live_upd_other {H:AHeap}{id j g:Nat}{b:Blk}(h:j≠id):(H.upd id b).live j g=H.live j g:=by unfold AHeap.live;rw[upd_get,if_neg h]
attribute [go_sem] live_upd_same
@[go_sem] theorem partU_func (a b:Array TypeId)(c:Bool)(n:Nat)(cells:List AVal)(off:Nat):partU (some (.func a b c)) n cells off=cells[off]?:=rfl
end Go.Hx
namespace Go.Proofs
open Go.Hx
theorem over_app {H H' H2:AHeap}{e:TypeId}{v:AVal}{cs:List AVal}(ov:Over H H')(h:OwnG H.next H' e v cs)(hn:H'.next<=H2.next)(hp:∀ k,k<H'.next->(∀ g n,v≠.own k g 0 n 1)->H2.get k=H'.get k):Over H H2 :=
 ⟨Nat.le_trans ov.next hn,fun id hi=>by
  rw[hp id (Nat.lt_of_lt_of_le hi ov.next) fun g n he=>?_,ov.old id hi]
  rcases h with ⟨h,_⟩|⟨i2,g2,a1,_,h,_⟩
  ·rw[h]at he;cases he
  ·rw[h]at he;have:=AVal.own.inj he;omega⟩
theorem app_int {H H':AHeap}{v:AVal}{l:List Int}(x:Int)(ov:Over H H')(h:OwnG H.next H' 3 v (ints l))(hl:l.length<2 ^ 40):
  ∃ v' H2,appendA Try.prog (ext H' [.arr 0 3 [.lit (.int .i64 x)]]) (H'.next+1) 52 52 v (.own H'.next 0 0 1 1)=some (v',H2)/\Over H H2/\OwnG H.next H2 3 v' (ints (l++[x]))/\H'.next<=H2.next/\(∀ k,k<H'.next->(∀ g n,v≠.own k g 0 n 1)->H2.get k=H'.get k):=by
 obtain⟨v',H2,hA,hO,hn2,hp⟩:=app_oneG (P:=Try.prog) (H:=H') (t:=52) (x:=lin x) (n:=H'.next+1) Try.underlying52 Try.cells3 Try.zero3 rfl (by rw[Try.bytes3,ints_length];omega) h ov.next rfl
 simp only[lin]at hA
 exact⟨v',H2,hA,over_app ov h hn2 hp,by simpa [ints,lin] using hO,hn2,hp⟩
theorem vecV_one (l:List (List Int)):(vecV l).one=true:=rfl
theorem vecV_cells (l:List (List Int)):(vecV l).cells=[vecV l]:=rfl
theorem nodesV_one (l:List NodeP):(nodesV l).one=true:=rfl
theorem nodesV_cells (l:List NodeP):(nodesV l).cells=[nodesV l]:=rfl
theorem utilsV_one (l:List UtilP):(utilsV l).one=true:=rfl
theorem utilsV_cells (l:List UtilP):(utilsV l).cells=[utilsV l]:=rfl
attribute [go_sem] vecV_one vecV_cells nodesV_one nodesV_cells utilsV_one utilsV_cells
structure OwnI (H H':AHeap)(id:Nat)(c:List Int):Prop where
 ov:Over H H'
 lo:H.next<=id
 hi:id<H'.next
 get:H'.get id=some (.arr 0 3 (ints c))
theorem OwnI.live {H H':AHeap}{id:Nat}{c:List Int}(h:OwnI H H' id c):H'.live id 0=some (3,ints c):=get_live h.get
theorem OwnI.liveE {H H':AHeap}{id:Nat}{c:List Int}(h:OwnI H H' id c)(L:List Blk):(ext H' L).live id 0=some (3,ints c):=by rw[ext_live_old h.hi];exact h.live
theorem OwnI.ne {H H':AHeap}{id:Nat}{c:List Int}(h:OwnI H H' id c):¬ id=H'.next:=by have:=h.hi;omega
theorem OwnI.over {H H' H2:AHeap}{id:Nat}{c:List Int}(h:OwnI H H' id c)(o:Over H' H2):OwnI H H2 id c:=⟨h.ov.trans o,h.lo,Nat.lt_of_lt_of_le h.hi o.next,(o.old id h.hi).trans h.get⟩
theorem OwnI.store {H H':AHeap}{id:Nat}{c:List Int}(h:OwnI H H' id c){k:Nat}(hk:k<c.length)(x:Int):OwnI H (H'.upd id (.arr 0 3 (setAt (ints c) k [.lit (.int .i64 x)]))) id (c.set k x) :=
 ⟨⟨h.ov.next,fun i hi=>by rw[upd_get,if_neg (by have:=h.lo;omega)];exact h.ov.old i hi⟩,h.lo,h.hi,by rw[upd_get,if_pos rfl,setAt_ints hk]⟩
theorem OwnI.storeE {H H':AHeap}{id:Nat}{c:List Int}(h:OwnI H H' id c)(L:List Blk){k:Nat}(hk:k<c.length)(x:Int):OwnI H ((ext H' L).upd id (.arr 0 3 (setAt (ints c) k [.lit (.int .i64 x)]))) id (c.set k x) :=
 (h.over (.ext H' L)).store hk x
theorem OwnI.new {H:AHeap}(L:List Blk)(n:Nat):OwnI H (ext H (.arr 0 3 (List.replicate n (.lit (.int .i64 0))) :: L)) H.next (List.replicate n 0) :=
 ⟨.ext _ _,Nat.le_refl _,by simp [ext_next],by rw[get_ext0];simp [ints,lin]⟩
theorem OwnI.fin {H H':AHeap}{id:Nat}{c:List Int}{K:ARes->AHeap->Prop}(hcl:Clo H)(h:OwnI H H' id c){n:Nat}(hn:n=c.length)(hK:K (.ret (vecI c)) H):FinV Try.prog G0 H K (.own id 0 0 n 1) H':=by
 subst hn
 refine FinV.dropO G0_ok hcl h.ov ?_ hK
 exact .ints h.lo h.get (by simp) fun i hi=>by simp [ints_get,hi]
theorem take_set_eq {l m:List Int}{k:Nat}{x:Int}(h:l.take k=m.take k)(hk:k<l.length)(hx:m[k]?=some x):(l.set k x).take (k+1)=m.take (k+1):=by
 rw[take_succ_get hx,take_succ_get (show (l.set k x)[k]?=some x by rw[List.getElem?_set_self hk]),List.take_set_of_le (Nat.le_refl k),h]
end Go.Proofs
namespace Go.Proofs
open Go.Hx
theorem getD_of_get {α:Type}{l:List α}{i:Nat}{a d:α}(h:l[i]?=some a):l.getD i d=a:=by rw[List.getD_eq_getElem?_getD,h];rfl
theorem atL_take {l places:List Int}{k:Nat}{p:Int}(h:places[k]?=some p):atL l (places.take (k+1))=atL l (places.take k)++[l.getD p.toNat 0]:=by
 unfold atL;rw[take_succ_get h];simp
theorem cards_get {ns:List NodeP}{k:Nat}{x:NodeP}(h:ns[k]?=some x):(cardsL ns)[k]?=some x.card:=by unfold cardsL;rw[List.getElem?_map,h];rfl
theorem cards_len (ns:List NodeP):(cardsL ns).length=ns.length:=by simp [cardsL]
theorem cards05_spec (g:Int)(ns:List NodeP)(hl:(ns.length:Int)<2 ^ 39)(H:AHeap)(K:ARes->AHeap->Prop)(hK:K (.ret (vecI (cardsL ns))) H):ACall Try.prog G0 71 [netV g ns] H K:=by
 refine ACall.clo ⟨_,Try.func71,rfl,rfl⟩ fun hcl=>?_
 refine ACall.of_body (n:=22) (rs:=[.tmp 2]) Try.func71 rfl rfl rfl (by decide) (by kernel_rfl) (by simp) ?_
 simp only[go_sem,netV,nodesV]
 obtain⟨H1,hH1⟩:∃ H1,H1=ext H [.arr 0 66 [.lit (.int .i64 g),.vec ns.length (nodesC ns)]]:=⟨_,rfl⟩
 have l1:H1.live H.next 0=some (66,[.lit (.int .i64 g),.vec ns.length (nodesC ns)]):=by rw[hH1];exact get_live (get_ext0 ..)
 have n1:H1.next=H.next+1:=by rw[hH1];rfl
 have o1:Over H H1:=by rw[hH1];exact .ext _ _
 rw[<- hH1]
 refine W.loop0 2097144 (by rfl) (fun ρ H'=>∃ k:Nat,ρ 4=lin k/\k<=ns.length/\ρ 1=.ptr H.next 0 0/\Over H1 H'/\OwnG H1.next H' 3 (ρ 3) (ints ((cardsL ns).take k))) (fun ρ H=>ns.length - (iv (ρ 4)).toNat) ?_ ?_
 ·simp only[go_sem]
  exact⟨0,rfl,by omega,.refl _,.nil⟩
 rintro ρ H' ⟨k,h4,hk,h1,ov,h3⟩
 refine vc_sound _ _ _ (by rfl) ?_
 have l2:=(ov.live (g:=0) (by omega:H.next<H1.next)).trans l1
 by_cases hb:(k:Int)<ns.length
 ·obtain⟨x,hx⟩:=get_of_lt (l:=ns) (i:=k) (by omega)
  have hne:=nodesC_ne hx
  have e0:=nodesC_0 hx
  obtain⟨v',H2,hA,ov2,hO,hn2,_⟩:=app_int x.card ov h3 (by simp [cardsL];omega)
  have w1:=IntWalk.i64_in ((k:Int)+1) (by omega)
  simp only[go_sem,h4,h1,l2,hb,hne,e0,w1,hA]
  refine⟨by have:=ov2.next;omega,⟨k+1,by simp,by omega,ov2,?_⟩,by omega⟩
  rw[take_succ_get (cards_get hx)]
  exact hO
 ·simp only[go_sem,h4,h1,l2,hb]
  rw[List.take_of_length_le (by rw[cards_len];omega)]at h3
  exact FinV.dropO G0_ok hcl (o1.trans ov) (h3.fzI fun i hi=>by omega) hK
theorem cardsW_spec (ns:List NodeP)(hl:(ns.length:Int)<2 ^ 39)(H:AHeap)(K:ARes->AHeap->Prop)(hK:K (.ret (vecI (cardsL ns))) H):ACall Try.prog G0 63 [nodesV ns] H K:=by
 refine ACall.clo ⟨_,Try.func63,rfl,rfl⟩ fun hcl=>?_
 refine ACall.of_body (n:=23) (rs:=[.tmp 2]) Try.func63 rfl rfl rfl (by decide) (by kernel_rfl) (by simp) ?_
 simp only[go_sem,nodesV]
 refine⟨by omega,?_⟩
 refine W.loop0 4192304 (by rfl) (fun ρ H'=>∃ (k:Nat) (c:List Int),ρ 11=lin k/\k<=ns.length/\OwnI H H' H.next c/\c.length=ns.length/\c.take k=(cardsL ns).take k) (fun ρ H=>ns.length - (iv (ρ 11)).toNat) ?_ ?_
 ·simp only[go_sem]
  exact⟨0,_,rfl,by omega,.new [] ns.length,by simp,rfl⟩
 rintro ρ H' ⟨k,c,h11,hk,ho,hcl',hc⟩
 refine vc_sound _ _ _ (by rfl) ?_
 by_cases hb:(k:Int)<ns.length
 ·obtain⟨x,hx⟩:=get_of_lt (l:=ns) (i:=k) (by omega)
  have hne:=nodesC_ne hx
  have e0:=nodesC_part hx
  have e1:k*3+3<=(nodesC ns).length:=by rw[nodesC_len];omega
  have w1:=IntWalk.i64_in ((k:Int)+1) (by omega)
  have l3:=ho.liveE
  have nb:=ho.ne
  simp only[go_sem,h11,l3,hb,hne,e0,e1,w1]
  have hkc:k<c.length:=by omega
  have ho2:=ho.storeE [.arr 0 56 [.lit (.int .i64 x.card),.vec x.parents.length (ints x.parents),vecV x.rows]] hkc x.card
  exact⟨by omega,by have:=ho2.hi;omega,⟨k+1,_,rfl,by omega,ho2,by simpa using hcl',take_set_eq hc hkc (cards_get hx)⟩,by omega⟩
 ·simp only[go_sem,h11,hb]
  have e:c=cardsL ns:=by
   rw[List.take_of_length_le (by omega),List.take_of_length_le (by rw[cards_len];omega)]at hc
   exact hc
  subst e
  exact ho.fin hcl (by rw[cards_len]) hK
end Go.Proofs
namespace Go.Proofs
open Go.Hx
def InRange (l:List Int)(n:Nat):Prop:=∀ q∈l,0<=q/\q<n
theorem atL_len (l p:List Int):(atL l p).length=p.length:=by simp [atL]
theorem atL_get {l p:List Int}{k:Nat}{q:Int}(h:p[k]?=some q):(atL l p)[k]?=some (l.getD q.toNat 0):=by unfold atL;rw[List.getElem?_map,h];rfl
theorem sizeW_spec (l:List Int)(hl:SmallC l)(H:AHeap)(K:ARes->AHeap->Prop)(hK:K (.ret (lin (prodL l))) H):ACall Try.prog G0 81 [vecI l] H K:=by
 have l12:=hl.1
 refine ACall.of_body (n:=17) (rs:=[.tmp 2]) Try.func81 rfl rfl rfl (by decide) (by kernel_rfl) (by simp) ?_
 simp only[go_sem]
 refine W.loop0 65320 (by rfl) (fun ρ H'=>H'=H/\∃ k:Nat,ρ 8=lin k/\k<=l.length/\ρ 3=lin (prodL (l.take k))) (fun ρ H=>l.length - (iv (ρ 8)).toNat) ?_ ?_
 ·simp only[go_sem]
  exact⟨0,rfl,by omega,by simp [prodL_nil]⟩
 rintro ρ H' ⟨rfl,k,h4,hk,h3⟩
 refine vc_sound _ _ _ (by rfl) ?_
 by_cases hb:(k:Int)<l.length
 ·obtain⟨c,hc⟩:=get_of_lt (l:=l) (i:=k) (by omega)
  have hne:=ne_of_get hc
  have b1:=(hl.take (k+1)).prod
  rw[take_succ_get hc,prodL_snoc]at b1
  have w1:=IntWalk.i64_in ((k:Int)+1) (by omega)
  have w2:=IntWalk.i64_in (prodL (l.take k)*c) (by omega)
  simp only[go_sem,h4,h3,hb,hc,hne,w1,w2]
  exact⟨⟨k+1,by simp,by omega,by rw[take_succ_get hc,prodL_snoc]⟩,by omega⟩
 ·simp only[go_sem,h4,h3,hb]
  rw[List.take_of_length_le (by omega)]
  exact FinV.mk (Nat.le_refl _) hK
theorem rowsW_spec (ns:List NodeP)(v:Nat)(x:NodeP)(hx:ns[v]?=some x)(hin:InRange x.parents ns.length)(hs:SmallC (parC ns x))(H:AHeap)(K:ARes->AHeap->Prop)
  (hK:K (.ret (lin (prodL (parC ns x)))) H):ACall Try.prog G0 46 [nodesV ns,lin v] H K:=by
 have hne:=nodesC_ne hx
 have e1:=nodesC_1 hx
 have hv:(v:Int)<ns.length:=by have:=get_lt hx;omega
 have l12:=hs.1
 have pl:(parC ns x).length=x.parents.length:=atL_len _ _
 refine ACall.of_body (n:=27) (rs:=[.tmp 4]) Try.func46 rfl rfl rfl (by decide) (by kernel_rfl) (by simp) ?_
 simp only[go_sem,nodesV,hv,hne,e1]
 refine W.loop0 67092640 (by rfl) (fun ρ H'=>H'=H/\∃ k:Nat,ρ 14=lin k/\k<=x.parents.length/\ρ 5=lin (prodL ((parC ns x).take k))) (fun ρ H=>x.parents.length - (iv (ρ 14)).toNat) ?_ ?_
 ·simp only[go_sem]
  exact⟨0,rfl,by omega,by simp [prodL_nil]⟩
 rintro ρ H' ⟨rfl,k,h14,hk,h5⟩
 refine vc_sound _ _ _ (by rfl) ?_
 by_cases hb:(k:Int)<x.parents.length
 ·obtain⟨q,hq⟩:=get_of_lt (l:=x.parents) (i:=k) (by omega)
  obtain⟨j,rfl,y,hy⟩:=get_of_int (l:=ns) (hin q (List.mem_of_getElem? hq)).1 (hin q (List.mem_of_getElem? hq)).2
  have hne2:=ne_of_get hq
  have hj:(j:Int)<ns.length:=by have:=get_lt hy;omega
  have e0:=nodesC_0 hy
  have pk:(parC ns x)[k]?=some y.card:=by
   rw[show (parC ns x)[k]?=_ from atL_get hq,Int.toNat_natCast,getD_of_get (cards_get hy)]
  have b1:=(hs.take (k+1)).prod
  rw[take_succ_get pk,prodL_snoc]at b1
  have w1:=IntWalk.i64_in ((k:Int)+1) (by omega)
  have w2:=IntWalk.i64_in (prodL ((parC ns x).take k)*y.card) (by omega)
  simp only[go_sem,h14,h5,hb,hq,hne,hne2,hj,e0,w1,w2]
  exact⟨⟨k+1,by simp,by omega,by rw[take_succ_get pk,prodL_snoc]⟩,by omega⟩
 ·simp only[go_sem,h14,h5,hb]
  rw[List.take_of_length_le (by omega)]
  exact FinV.mk (Nat.le_refl _) hK
theorem rowW_spec (ns:List NodeP)(v:Nat)(x:NodeP)(vals:List Int)(hx:ns[v]?=some x)(hin:InRange x.parents ns.length)(hs:SmallC (parC ns x))(hf:FitsC (cardsL ns) vals)(H:AHeap)(K:ARes->AHeap->Prop)
  (hK:K (.ret (lin (idxL (parC ns x) (atL vals x.parents)))) H):ACall Try.prog G0 68 [nodesV ns,lin v,vecI vals] H K:=by
 have hne:=nodesC_ne hx
 have e1:=nodesC_1 hx
 have hv:(v:Int)<ns.length:=by have:=get_lt hx;omega
 have l12:=hs.1
 have pl:(parC ns x).length=x.parents.length:=atL_len _ _
 have vl:(atL vals x.parents).length=x.parents.length:=atL_len _ _
 have hfl:vals.length=ns.length:=by rw[hf.1,cards_len]
 have at_get:∀ (k:Nat) (q:Int),x.parents[k]?=some q->∃ (j:Nat) (y:NodeP) (b:Int),q=j/\ns[j]?=some y/\vals[j]?=some b/\(parC ns x)[k]?=some y.card/\(atL vals x.parents)[k]?=some b/\0<=b/\b<y.card:=fun k q hq=>by
  obtain⟨j,rfl,y,hy⟩:=get_of_int (l:=ns) (hin q (List.mem_of_getElem? hq)).1 (hin q (List.mem_of_getElem? hq)).2
  obtain⟨b,hb⟩:=get_of_lt (l:=vals) (i:=j) (by rw[hfl];exact get_lt hy)
  have r:=hf.2 j y.card b (cards_get hy) hb
  exact⟨j,y,b,rfl,hy,hb,by rw[show (parC ns x)[k]?=_ from atL_get hq,Int.toNat_natCast,getD_of_get (cards_get hy)],by rw[atL_get hq,Int.toNat_natCast,getD_of_get hb],r⟩
 have ft:∀ k,FitsC ((parC ns x).take k) ((atL vals x.parents).take k):=fun k=>⟨by simp [pl,vl],fun i c b h1 h2=>by
  rw[List.getElem?_take]at h1 h2
  split at h1
  ·rename_i hik
   rw[if_pos hik]at h2
   obtain⟨q,hq⟩:=get_of_lt (l:=x.parents) (i:=i) (by rw[<- pl];exact get_lt h1)
   obtain⟨j,y,b',_,_,_,a1,a2,a3⟩:=at_get i q hq
   rw[h1]at a1;rw[h2]at a2
   cases a1;cases a2;exact a3
  ·cases h1⟩
 have hr:∀ k,0<=hornL ((parC ns x).take k) ((atL vals x.parents).take k)/\hornL ((parC ns x).take k) ((atL vals x.parents).take k)<68719476737:=fun k=>by
  rw[hornL_eq (ft k).1]
  have a:=idxL_range (ft k)
  have b:=(hs.take k).prod
  omega
 refine ACall.of_body (n:=34) (rs:=[.tmp 6]) Try.func68 rfl rfl rfl (by decide) (by kernel_rfl) (by simp) ?_
 simp only[go_sem,nodesV,hv,hne,e1]
 refine W.loop0 8589869696 (by rfl) (fun ρ H'=>H'=H/\∃ k:Nat,ρ 16=lin k/\k<=x.parents.length/\ρ 7=lin (hornL ((parC ns x).take k) ((atL vals x.parents).take k))) (fun ρ H=>x.parents.length - (iv (ρ 16)).toNat) ?_ ?_
 ·simp only[go_sem]
  exact⟨0,rfl,by omega,rfl⟩
 rintro ρ H' ⟨rfl,k,h16,hk,h7⟩
 refine vc_sound _ _ _ (by rfl) ?_
 by_cases hb:(k:Int)<x.parents.length
 ·obtain⟨q,hq⟩:=get_of_lt (l:=x.parents) (i:=k) (by omega)
  obtain⟨j,y,b,rfl,hy,hbv,a1,a2,a3⟩:=at_get k q hq
  have hne2:=ne_of_get hq
  have hne3:=ne_of_get hbv
  have hj:(j:Int)<ns.length:=by have:=get_lt hy;omega
  have hj2:(j:Int)<vals.length:=by omega
  have e0:=nodesC_0 hy
  have w1:=IntWalk.i64_in ((k:Int)+1) (by omega)
  have r1:=hr (k+1)
  rw[hornL_snoc a1 a2]at r1
  have r0:=hr k
  have m0:0<=hornL ((parC ns x).take k) ((atL vals x.parents).take k)*y.card:=Int.mul_nonneg r0.1 (by omega)
  have w2:=IntWalk.i64_in (hornL ((parC ns x).take k) ((atL vals x.parents).take k)*y.card) (by omega)
  have w3:=IntWalk.i64_in (hornL ((parC ns x).take k) ((atL vals x.parents).take k)*y.card+b) (by omega)
  simp only[go_sem,h16,hb,hq,hne2]
  refine W.draw 11 [0,0,0,6,14,30,63,0,0,384,896] Try.mixed (by kernel_rfl) (by kernel_rfl) ?_
  simp only[go_sem,h16,h7,hne,hne3,hj,hj2,hbv,e0,w1,w2,w3]
  exact⟨⟨k+1,by simp,by omega,by rw[hornL_snoc a1 a2]⟩,by omega⟩
 ·simp only[go_sem,h16,h7,hb]
  rw[List.take_of_length_le (by omega),List.take_of_length_le (by omega),hornL_eq (by rw[pl,vl])]
  exact FinV.mk (Nat.le_refl _) hK
end Go.Proofs
/-
  Sets of nodes as bits; orders in which parents come first. Plain: no program stands in this text. No conditions.
-/
namespace Go.Proofs
open Go.Hx
def setN (l:List Int):Nat:=l.foldl (fun s p=>s ||| 2 ^ p.toNat) 0
theorem setN_go (l:List Int):∀ (s i:Nat),(l.foldl (fun s p=>s ||| 2 ^ p.toNat) s).testBit i=(s.testBit i || l.any fun p=>p.toNat == i):=by
 induction l with
 | nil=>intro s i;simp
 | cons p l ih =>
  intro s i
  simp only[List.foldl_cons,ih,Nat.testBit_or,Nat.testBit_two_pow,List.any_cons]
  rw[Bool.or_assoc]
  congr 1
theorem setN_bit {l:List Int}(h:∀ p∈l,0<=p)(i:Nat):(setN l).testBit i=decide ((i:Int)∈l):=by
 unfold setN
 rw[setN_go]
 simp only[Nat.zero_testBit,Bool.false_or]
 rw[Bool.eq_iff_iff]
 simp only[List.any_eq_true,beq_iff_eq,decide_eq_true_eq]
 constructor
 ·rintro⟨p,hp,rfl⟩
  have:=h p hp
  rw[Int.toNat_of_nonneg this];exact hp
 ·intro hi
  exact⟨_,hi,by simp⟩
theorem setN_snoc (l:List Int)(p:Int):setN (l++[p])=setN l ||| 2 ^ p.toNat:=by unfold setN;rw[List.foldl_append];rfl
theorem lt_two_pow_of_bits {m n:Nat}(h:∀ i,m.testBit i=true->i<n):m<2 ^ n:=by
 apply Nat.lt_pow_two_of_testBit
 intro i hi
 rcases Bool.eq_false_or_eq_true (m.testBit i) with e|e
 ·exact absurd (h i e) (by omega)
 ·exact e
theorem setN_lt {l:List Int}{n:Nat}(h:∀ p∈l,0<=p/\p<n):setN l<2 ^ n:=lt_two_pow_of_bits fun i hi=>by
 rw[setN_bit fun p hp=>(h p hp).1]at hi
 have:=(h _ (of_decide_eq_true hi)).2
 omega
theorem bit_lt {m n i:Nat}(h:m<2 ^ n)(hi:m.testBit i=true):i<n:=by
 rcases Nat.lt_or_ge i n with h'|h'
 ·exact h'
 ·rw[Nat.testBit_lt_two_pow (Nat.lt_of_lt_of_le h (Nat.pow_le_pow_right (by decide) h'))]at hi;cases hi
def Sub (s t:Nat):Prop:=∀ i,s.testBit i=true->t.testBit i=true
theorem Sub.refl (s:Nat):Sub s s:=fun _ h=>h
theorem Sub.trans {s t u:Nat}(h:Sub s t)(h':Sub t u):Sub s u:=fun i hi=>h' i (h i hi)
theorem Sub.or {s t u:Nat}(h:Sub s u)(h':Sub t u):Sub (s ||| t) u:=fun i hi=>by
 rw[Nat.testBit_or,Bool.or_eq_true]at hi
 exact hi.elim (h i) (h' i)
theorem Sub.left (s t:Nat):Sub s (s ||| t):=fun i hi=>by rw[Nat.testBit_or,hi];rfl
theorem Sub.right (s t:Nat):Sub t (s ||| t):=fun i hi=>by rw[Nat.testBit_or,hi];simp
theorem Sub.antisymm {s t:Nat}(h:Sub s t)(h':Sub t s):s=t:=Nat.eq_of_testBit_eq fun i=>by
 rw[Bool.eq_iff_iff];exact⟨h i,h' i⟩
theorem subN_zero {a b:Nat}(ha:a<2 ^ 64):subN a b=0↔Sub a b:=by
 constructor
 ·intro h i hi
  have:=subN_bit (a:=a) (b:=b) (i:=i) ha
  rw[h,Nat.zero_testBit,hi]at this
  simpa using this.symm
 ·intro h
  apply Nat.eq_of_testBit_eq
  intro i
  rw[subN_bit ha,Nat.zero_testBit]
  cases hi:a.testBit i
  ·rfl
  ·rw[h i hi];rfl
def upStep (ps:List Nat)(s v:Nat):Nat:=if s.testBit v=true then s ||| ps.getD v 0 else s
def upOnce (ps:List Nat)(s:Nat):Nat:=(List.range ps.length).foldl (upStep ps) s
def upN (ps:List Nat):Nat->Nat->Nat
 | 0,s=>s
 | k+1,s=>upOnce ps (upN ps k s)
def upL (ps:List Nat)(s:Nat):Nat:=upN ps ps.length s
def AcycB (ps:List Nat):Prop:=∀ v,v<ps.length->(upL ps (ps.getD v 0)).testBit v=false
def Closed (ps:List Nat)(t:Nat):Prop:=∀ v,v<ps.length->t.testBit v=true->Sub (ps.getD v 0) t
theorem upStep_ge (ps:List Nat)(s v:Nat):Sub s (upStep ps s v):=by unfold upStep;split;exact .left _ _;exact .refl _
theorem foldl_ge (ps:List Nat)(l:List Nat):∀ s,Sub s (l.foldl (upStep ps) s):=by
 induction l with
 | nil=>exact fun s=>.refl s
 | cons v l ih=>exact fun s=>(upStep_ge ps s v).trans (ih _)
theorem upOnce_ge (ps:List Nat)(s:Nat):Sub s (upOnce ps s):=foldl_ge ps _ s
theorem foldl_closed {ps:List Nat}{t:Nat}(hc:Closed ps t)(l:List Nat)(hl:∀ v∈l,v<ps.length):∀ s,Sub s t->Sub (l.foldl (upStep ps) s) t:=by
 induction l with
 | nil=>exact fun s h=>h
 | cons v l ih =>
  intro s h
  refine ih (fun v hv=>hl v (by simp [hv])) _ ?_
  unfold upStep
  split
  ·rename_i hv
   exact h.or (hc v (hl v (by simp)) (h v hv))
  ·exact h
theorem upOnce_closed {ps:List Nat}{t:Nat}(hc:Closed ps t){s:Nat}(h:Sub s t):Sub (upOnce ps s) t:=foldl_closed hc _ (fun v hv=>List.mem_range.1 hv) s h
theorem upN_closed {ps:List Nat}{t:Nat}(hc:Closed ps t)(k:Nat){s:Nat}(h:Sub s t):Sub (upN ps k s) t:=by
 induction k with
 | zero=>exact h
 | succ k ih=>exact upOnce_closed hc ih
theorem upN_ge (ps:List Nat)(k s:Nat):Sub s (upN ps k s):=by
 induction k with
 | zero=>exact .refl _
 | succ k ih=>exact ih.trans (upOnce_ge _ _)
theorem closed_of_fix {ps:List Nat}{s:Nat}(h:upOnce ps s=s):Closed ps s:=by
 intro v hv hs
 have key:∀ (l:List Nat) (s0:Nat),v∈l->s0.testBit v=true->Sub (ps.getD v 0) (l.foldl (upStep ps) s0):=by
  intro l
  induction l with
  | nil=>intro s0 h;cases h
  | cons u l ih =>
   intro s0 hm hb
   rcases List.mem_cons.1 hm with rfl|hm
   ·refine Sub.trans ?_ (foldl_ge ps l _)
    unfold upStep
    rw[if_pos hb]
    exact .right _ _
   ·exact ih _ hm (upStep_ge ps s0 u v hb)
 have:=key (List.range ps.length) s (List.mem_range.2 hv) hs
 unfold upOnce at h
 rwa [h]at this
def cntB (n s:Nat):Nat:=(List.range n).countP fun i=>s.testBit i
theorem cntB_le (n s:Nat):cntB n s<=n:=by have:=List.countP_le_length (p:=fun i=>s.testBit i) (l:=List.range n);simpa [cntB] using this
theorem countP_strict {l:List Nat}{p q:Nat->Bool}(h:∀ x∈l,p x=true->q x=true){a:Nat}(ha:a∈l)(hp:p a=false)(hq:q a=true):l.countP p<l.countP q:=by
 induction l with
 | nil=>cases ha
 | cons x l ih =>
  have hm:l.countP p<=l.countP q:=List.countP_mono_left fun y hy=>h y (by simp [hy])
  rcases List.mem_cons.1 ha with rfl|ha
  ·rw[List.countP_cons,List.countP_cons,hp,hq]
   simp
   omega
  ·have:=ih (fun y hy=>h y (by simp [hy])) ha
   have hx:=h x (by simp)
   rw[List.countP_cons,List.countP_cons]
   cases hpx:p x
   ·simp;omega
   ·rw[hx hpx];simp;omega
theorem cntB_lt {n s t i:Nat}(h:Sub s t)(hi:i<n)(h0:s.testBit i=false)(h1:t.testBit i=true):cntB n s<cntB n t :=
 countP_strict (fun x _ hx=>h x hx) (List.mem_range.2 hi) h0 h1
theorem upL_closed {ps:List Nat}(hp:∀ p∈ps,p<2 ^ ps.length){s:Nat}(hs:s<2 ^ ps.length):Closed ps (upL ps s):=by
 have hb:∀ k,upN ps k s<2 ^ ps.length:=fun k=>by
  have ht:Closed ps (2 ^ ps.length - 1):=fun v _ _ i hi=>by
   rw[Nat.testBit_two_pow_sub_one]
   have:ps.getD v 0<2 ^ ps.length:=by
    rw[List.getD_eq_getElem?_getD]
    cases h:ps[v]? with
    | none=>exact Nat.two_pow_pos _
    | some p=>exact hp p (List.mem_of_getElem? h)
   simpa using bit_lt this hi
  have:=upN_closed ht k (s:=s) fun i hi=>by rw[Nat.testBit_two_pow_sub_one];simpa using bit_lt hs hi
  exact lt_two_pow_of_bits fun i hi=>by have:=this i hi;rw[Nat.testBit_two_pow_sub_one]at this;simpa using this
 have key:∀ k,upOnce ps (upN ps k s)=upN ps k s\/k+1<=cntB ps.length (upN ps k s):=by
  have grow:∀ t,t<2 ^ ps.length->upOnce ps t<2 ^ ps.length->upOnce ps t≠t->cntB ps.length t<cntB ps.length (upOnce ps t):=fun t ht ht' hne=>by
   have:∃ i,(upOnce ps t).testBit i=true/\t.testBit i=false:=by
    refine Classical.byContradiction fun hno=>hne (Sub.antisymm (fun i hi=>?_) (upOnce_ge ps t))
    rcases Bool.eq_false_or_eq_true (t.testBit i) with e|e
    ·exact e
    ·exact absurd ⟨i,hi,e⟩ hno
   obtain⟨i,h1,h0⟩:=this
   exact cntB_lt (upOnce_ge ps t) (bit_lt ht' h1) h0 h1
  intro k
  induction k with
  | zero =>
   by_cases h0:s=0
   ·left
    subst h0
    show upOnce ps 0=0
    unfold upOnce
    have:∀ l:List Nat,l.foldl (upStep ps) 0=0:=fun l=>by
     induction l with
     | nil=>rfl
     | cons v l ih=>simp only[List.foldl_cons,upStep,Nat.zero_testBit,Bool.false_eq_true,if_false];exact ih
    exact this _
   ·right
    obtain⟨i,hi⟩:=Nat.exists_testBit_of_ne_zero h0
    have:cntB ps.length 0<cntB ps.length s:=cntB_lt (fun j hj=>by rw[Nat.zero_testBit]at hj;cases hj) (bit_lt hs hi) (Nat.zero_testBit i) hi
    show 0+1<=cntB ps.length s
    omega
  | succ k ih =>
   rcases ih with ih|ih
   ·left
    show upOnce ps (upOnce ps (upN ps k s))=upOnce ps (upN ps k s)
    rw[ih];exact ih
   ·by_cases hf:upOnce ps (upN ps k s)=upN ps k s
    ·left
     show upOnce ps (upOnce ps (upN ps k s))=upOnce ps (upN ps k s)
     rw[hf];exact hf
    ·right
     have:=grow _ (hb k) (hb (k+1)) hf
     show k+1+1<=cntB ps.length (upOnce ps (upN ps k s))
     omega
 rcases key ps.length with h|h
 ·exact closed_of_fix h
 ·have:=cntB_le ps.length (upN ps ps.length s);omega
def freeB (ps:List Nat)(done v:Nat):Bool:=!done.testBit v && decide (subN (ps.getD v 0) done=0)
def nextT (ps:List Nat)(done:Nat):Option Nat:=(List.range ps.length).find? (freeB ps done)
def topoGo (ps:List Nat):Nat->List Nat->Nat->Option (List Nat)
 | 0,out,_=>some out
 | k+1,out,done=>match nextT ps done with
  | none=>none
  | some v=>topoGo ps k (out++[v]) (done ||| 2 ^ v)
def topo (ps:List Nat):Option (List Nat):=topoGo ps ps.length [] 0
theorem nextT_some {ps:List Nat}{done v:Nat}(hp:∀ p∈ps,p<2 ^ 64)(h:nextT ps done=some v):v<ps.length/\done.testBit v=false/\Sub (ps.getD v 0) done:=by
 unfold nextT at h
 have h1:=List.mem_of_find?_eq_some h
 have h2:=List.find?_some h
 unfold freeB at h2
 simp only[Bool.and_eq_true,Bool.not_eq_true',decide_eq_true_eq]at h2
 have hv:=List.mem_range.1 h1
 refine⟨hv,h2.1,(subN_zero ?_).1 h2.2⟩
 rw[List.getD_eq_getElem?_getD]
 cases h:ps[v]? with
 | none=>decide
 | some p=>exact hp p (List.mem_of_getElem? h)
theorem nextT_none {ps:List Nat}{done:Nat}(hp:∀ p∈ps,p<2 ^ 64)(h:nextT ps done=none):∀ v,v<ps.length->done.testBit v=true\/¬ Sub (ps.getD v 0) done:=by
 intro v hv
 unfold nextT at h
 rw[List.find?_eq_none]at h
 have:=h v (List.mem_range.2 hv)
 unfold freeB at this
 rcases Bool.eq_false_or_eq_true (done.testBit v) with e|e
 ·exact .inl e
 ·right
  intro hs
  refine this ?_
  rw[e,(subN_zero ?_).2 hs]
  ·simp
  ·rw[List.getD_eq_getElem?_getD]
   cases h:ps[v]? with
   | none=>decide
   | some p=>exact hp p (List.mem_of_getElem? h)
theorem or_pow_bit (d v i:Nat):(d ||| 2 ^ v).testBit i=(d.testBit i || decide (v=i)):=by rw[Nat.testBit_or,Nat.testBit_two_pow]
theorem acyc_of_topo {ps:List Nat}(hp:∀ p∈ps,p<2 ^ 64):∀ (k:Nat) (out:List Nat) (done:Nat) (r:List Nat),topoGo ps k out done=some r->k+cntB ps.length done=ps.length ->
  Closed ps done->(∀ v,v<ps.length->done.testBit v=true->(upL ps (ps.getD v 0)).testBit v=false)->AcycB ps:=by
 intro k
 induction k with
 | zero =>
  intro out done r _ hc hcl hall v hv
  refine hall v hv ?_
  rcases Bool.eq_false_or_eq_true (done.testBit v) with e|e
  ·exact e
  ·have:cntB ps.length done<cntB ps.length (2 ^ ps.length - 1 ||| done):=cntB_lt (.right _ _) hv e (by rw[Nat.testBit_or,Nat.testBit_two_pow_sub_one];simp [hv])
   have:=cntB_le ps.length (2 ^ ps.length - 1 ||| done)
   omega
 | succ k ih =>
  intro out done r h hc hcl hall
  unfold topoGo at h
  split at h
  ·cases h
  ·rename_i v hn
   obtain⟨h1,h2,h3⟩:=nextT_some hp hn
   refine ih _ _ _ h ?_ ?_ ?_
   ·have:cntB ps.length (done ||| 2 ^ v)=cntB ps.length done+1:=by
     unfold cntB
     have:∀ l:List Nat,l.Nodup->v∈l->l.countP (fun i=>(done ||| 2 ^ v).testBit i)=l.countP (fun i=>done.testBit i)+1:=by
      intro l
      induction l with
      | nil=>intro _ h;cases h
      | cons x l ihl =>
       intro hnd hmem
       obtain⟨g1,g2⟩:=List.nodup_cons.1 hnd
       rw[List.countP_cons,List.countP_cons]
       rcases List.mem_cons.1 hmem with rfl|hm2
       ·have:l.countP (fun i=>(done ||| 2 ^ v).testBit i)=l.countP (fun i=>done.testBit i):=List.countP_congr fun y hy=>by
         have:¬ v=y:=by rintro rfl;exact g1 hy
         simp [or_pow_bit,this]
        rw[this];simp [or_pow_bit,h2]
       ·have hx:¬ v=x:=by rintro rfl;exact g1 hm2
        rw[ihl g2 hm2];simp [or_pow_bit,hx];omega
     exact this _ List.nodup_range (List.mem_range.2 h1)
    omega
   ·intro u hu hb
    rw[or_pow_bit,Bool.or_eq_true,decide_eq_true_eq]at hb
    rcases hb with hb|rfl
    ·exact(hcl u hu hb).trans (.left _ _)
    ·exact h3.trans (.left _ _)
   ·intro u hu hb
    rw[or_pow_bit,Bool.or_eq_true,decide_eq_true_eq]at hb
    rcases hb with hb|rfl
    ·exact hall u hu hb
    ·have:=upN_closed hcl ps.length h3
     rcases Bool.eq_false_or_eq_true ((upL ps (ps.getD v 0)).testBit v) with e|e
     ·have:=this v e;rw[h2]at this;cases this
     ·exact e
theorem topo_of_acyc {ps:List Nat}(hp:∀ p∈ps,p<2 ^ ps.length)(h64:ps.length<=64)(ha:AcycB ps):∀ (k:Nat) (out:List Nat) (done:Nat),k+cntB ps.length done=ps.length->∃ r,topoGo ps k out done=some r:=by
 have hp64:∀ p∈ps,p<2 ^ 64:=fun p h=>Nat.lt_of_lt_of_le (hp p h) (Nat.pow_le_pow_right (by decide) h64)
 have hpd:∀ v,ps.getD v 0<2 ^ ps.length:=fun v=>by
  rw[List.getD_eq_getElem?_getD]
  cases h:ps[v]? with
  | none=>exact Nat.two_pow_pos _
  | some p=>exact hp p (List.mem_of_getElem? h)
 intro k
 induction k with
 | zero=>exact fun out done _=>⟨out,rfl⟩
 | succ k ih =>
  intro out done hc
  unfold topoGo
  cases hn:nextT ps done with
  | none =>
   exfalso
   have hno:=nextT_none hp64 hn
      -- every node that is left has a parent that is left
   have step:∀ m v,v<ps.length->done.testBit v=false->cntB ps.length (upL ps (ps.getD v 0))<=m->False:=by
    intro m
    induction m with
    | zero =>
     intro v hv hd hm
     obtain⟨i,h1,h2⟩:∃ i,(ps.getD v 0).testBit i=true/\done.testBit i=false:=by
      rcases hno v hv with h|h
      ·rw[hd]at h;cases h
      ·refine Classical.byContradiction fun hc=>h fun i hi=>?_
       rcases Bool.eq_false_or_eq_true (done.testBit i) with e|e
       ·exact e
       ·exact absurd ⟨i,hi,e⟩ hc
     have:cntB ps.length 0<cntB ps.length (upL ps (ps.getD v 0)):=cntB_lt (fun j hj=>by rw[Nat.zero_testBit]at hj;cases hj) (bit_lt (hpd v) h1) (Nat.zero_testBit i) (upN_ge ps _ _ i h1)
     omega
    | succ m ihm =>
     intro v hv hd hm
     obtain⟨u,h1,h2⟩:∃ i,(ps.getD v 0).testBit i=true/\done.testBit i=false:=by
      rcases hno v hv with h|h
      ·rw[hd]at h;cases h
      ·refine Classical.byContradiction fun hc=>h fun i hi=>?_
       rcases Bool.eq_false_or_eq_true (done.testBit i) with e|e
       ·exact e
       ·exact absurd ⟨i,hi,e⟩ hc
     have hu:=bit_lt (hpd v) h1
     have hcl:=upL_closed hp (hpd v)
     have hin:(upL ps (ps.getD v 0)).testBit u=true:=upN_ge ps _ _ u h1
     have hsub:Sub (upL ps (ps.getD u 0)) (upL ps (ps.getD v 0)):=upN_closed hcl _ (hcl u hu hin)
     have:=cntB_lt hsub hu (ha u hu) hin
     exact ihm u hu h2 (by omega)
   obtain⟨v,hv,hd⟩:∃ v,v<ps.length/\done.testBit v=false:=by
    refine Classical.byContradiction fun hno=>?_
    have:cntB ps.length done=ps.length:=by
     unfold cntB
     conv=>rhs;rw[<- List.length_range (n:=ps.length)]
     rw[List.countP_eq_length]
     intro x hx
     rcases Bool.eq_false_or_eq_true (done.testBit x) with e|e
     ·exact e
     ·exact absurd ⟨x,List.mem_range.1 hx,e⟩ hno
    omega
   exact step _ v hv hd (Nat.le_refl _)
  | some v =>
   obtain⟨h1,h2,h3⟩:=nextT_some hp64 hn
   refine ih _ _ ?_
   have:cntB ps.length (done ||| 2 ^ v)=cntB ps.length done+1:=by
    unfold cntB
    have:∀ l:List Nat,l.Nodup->v∈l->l.countP (fun i=>(done ||| 2 ^ v).testBit i)=l.countP (fun i=>done.testBit i)+1:=by
     intro l
     induction l with
     | nil=>intro _ h;cases h
     | cons x l ihl =>
      intro hnd hmem
      obtain⟨g1,g2⟩:=List.nodup_cons.1 hnd
      rw[List.countP_cons,List.countP_cons]
      rcases List.mem_cons.1 hmem with rfl|hm2
      ·have:l.countP (fun i=>(done ||| 2 ^ v).testBit i)=l.countP (fun i=>done.testBit i):=List.countP_congr fun y hy=>by
        have:¬ v=y:=by rintro rfl;exact g1 hy
        simp [or_pow_bit,this]
       rw[this];simp [or_pow_bit,h2]
      ·have hx:¬ v=x:=by rintro rfl;exact g1 hm2
       rw[ihl g2 hm2];simp [or_pow_bit,hx];omega
    exact this _ List.nodup_range (List.mem_range.2 h1)
   omega
theorem cntB_zero (n:Nat):cntB n 0=0:=by
 unfold cntB
 rw[List.countP_eq_zero]
 intro x _
 simp
theorem topo_iff {ps:List Nat}(hp:∀ p∈ps,p<2 ^ ps.length)(h64:ps.length<=64):(topo ps).isSome=true↔AcycB ps:=by
 have hp64:∀ p∈ps,p<2 ^ 64:=fun p h=>Nat.lt_of_lt_of_le (hp p h) (Nat.pow_le_pow_right (by decide) h64)
 constructor
 ·intro h
  obtain⟨r,hr⟩:=Option.isSome_iff_exists.1 h
  exact acyc_of_topo hp64 _ _ _ r hr (by rw[cntB_zero];omega) (fun v _ h=>by rw[Nat.zero_testBit]at h;cases h) (fun v _ h=>by rw[Nat.zero_testBit]at h;cases h)
 ·intro h
  obtain⟨r,hr⟩:=topo_of_acyc hp h64 h ps.length [] 0 (by rw[cntB_zero];omega)
  unfold topo;rw[hr];rfl
end Go.Proofs
namespace Go.Hx
def vecB (l:List Nat):AVal:=.vec l.length (l.map bitV)
attribute [go_sem] bitV vecB
theorem OwnG.fzB {S:Nat->Prop}{lo nx:Nat}{H:AHeap}{e:TypeId}{v:AVal}{l:List Nat}(h:OwnG lo H e v (l.map bitV))(hS:∀ i,lo<=i->S i):Fz S H nx v (vecB l):=by
 have:=h.fz (S:=S) (nx:=nx) (cs':=l.map bitV) hS rfl fun i hi _=>by simp only[List.getElem_map];exact .lit _
 rw[List.length_map]at this
 exact this
end Go.Hx
namespace Go.Proofs
open Go.Hx
theorem app_bits {H H':AHeap}{v:AVal}{l:List Nat}(x:Nat)(ov:Over H H')(h:OwnG H.next H' 31 v (l.map bitV))(hl:l.length<2 ^ 40):
  ∃ v' H2,appendA Try.prog (ext H' [.arr 0 31 [.lit (.int .u64 (x:Int))]]) (H'.next+1) 69 69 v (.own H'.next 0 0 1 1)=some (v',H2)/\Over H H2/\OwnG H.next H2 31 v' ((l++[x]).map bitV)/\H'.next<=H2.next/\(∀ k,k<H'.next->(∀ g n,v≠.own k g 0 n 1)->H2.get k=H'.get k):=by
 obtain⟨v',H2,hA,hO,hn2,hp⟩:=app_oneG (P:=Try.prog) (H:=H') (t:=69) (x:=bitV x) (n:=H'.next+1) Try.underlying69 Try.cells31 Try.zero31 rfl (by rw[Try.bytes31,List.length_map];omega) h ov.next rfl
 simp only[bitV]at hA
 exact⟨v',H2,hA,over_app ov h hn2 hp,by rw[List.map_append];exact hO,hn2,hp⟩
theorem in05_spec (m v:Nat)(hm:m<2 ^ 64)(hv:v<2 ^ 62)(H:AHeap)(K:ARes->AHeap->Prop)(hK:K (.ret (.lit (.bool (m.testBit v)))) H):ACall Try.prog G0 72 [bitV m,lin v] H K:=by
 refine ACall.of_body (n:=11) (rs:=[.tmp 4]) Try.func72 rfl rfl rfl (by decide) (by kernel_rfl) (by simp) ?_
 have w1:=IntWalk.u64_in (v:Int) (by omega)
 have s1:=fun t x y=>shrB (P:=Try.prog) (t:=t) (x:=x) (y:=y) (k':=.u64) (s:=v) hm
 have s2:=fun t x y=>bit1 (P:=Try.prog) (t:=t) (x:=x) (y:=y) (s:=v) hm
 cases hb:m.testBit v
 ·rw[hb]at hK
  simp only[go_sem,w1,s1,s2,hb]
  exact FinV.mk (Nat.le_refl _) hK
 ·rw[hb]at hK
  simp only[go_sem,w1,s1,s2,hb]
  exact FinV.mk (Nat.le_refl _) hK
def setsL (ns:List NodeP):List Nat:=ns.map fun x=>setN x.parents
theorem setsL_get {ns:List NodeP}{k:Nat}{x:NodeP}(h:ns[k]?=some x):(setsL ns)[k]?=some (setN x.parents):=by unfold setsL;rw[List.getElem?_map,h];rfl
theorem parentSets_spec (g:Int)(ns:List NodeP)(hl:(ns.length:Int)<2 ^ 39)(hp:∀ x∈ns,(x.parents.length:Int)<2 ^ 39/\∀ q∈x.parents,0<=q/\q<64)(H:AHeap)(K:ARes->AHeap->Prop)
  (hK:K (.ret (vecB (setsL ns))) H):ACall Try.prog G0 24 [netV g ns] H K:=by
 refine ACall.clo ⟨_,Try.func24,rfl,rfl⟩ fun hcl=>?_
 refine ACall.of_body (n:=43) (rs:=[.tmp 2]) Try.func24 rfl rfl rfl (by decide) (by kernel_rfl) (by simp) ?_
 simp only[go_sem,netV,nodesV]
 obtain⟨H1,hH1⟩:∃ H1,H1=ext H [.arr 0 66 [.lit (.int .i64 g),.vec ns.length (nodesC ns)]]:=⟨_,rfl⟩
 have l1:H1.live H.next 0=some (66,[.lit (.int .i64 g),.vec ns.length (nodesC ns)]):=by rw[hH1];exact get_live (get_ext0 ..)
 have n1:H1.next=H.next+1:=by rw[hH1];rfl
 have o1:Over H H1:=by rw[hH1];exact .ext _ _
 rw[<- hH1]
 refine W.loop0 4398046511096 (by rfl) (fun ρ H'=>∃ k:Nat,ρ 4=lin k/\k<=ns.length/\ρ 1=.ptr H.next 0 0/\Over H1 H'/\OwnG H1.next H' 31 (ρ 3) (((setsL ns).take k).map bitV)) (fun ρ H=>ns.length - (iv (ρ 4)).toNat) ?_ ?_
 ·simp only[go_sem]
  exact⟨0,rfl,by omega,.refl _,.nil⟩
 rintro ρ H' ⟨k,h4,hk,h1,ov,h3⟩
 refine vc_sound _ _ _ (by rfl) ?_
 have l2:=(ov.live (g:=0) (by omega:H.next<H1.next)).trans l1
 by_cases hb:(k:Int)<ns.length
 ·obtain⟨x,hx⟩:=get_of_lt (l:=ns) (i:=k) (by omega)
  have hne:=nodesC_ne hx
  have e1:=nodesC_1 hx
  obtain⟨xl,xr⟩:=hp x (List.mem_of_getElem? hx)
  simp only[go_sem,h4,h1,l2,hb]
  refine W.loop0 274877890656 (by rfl) (fun ρ' H2=>H2=H'/\∃ j:Nat,ρ' 6=lin j/\j<=x.parents.length/\ρ' 5=bitV (setN (x.parents.take j))) (fun ρ' H=>x.parents.length - (iv (ρ' 6)).toNat) ?_ ?_
  ·simp only[go_sem]
   exact⟨0,rfl,by omega,rfl⟩
  rintro ρ' H2 ⟨rfl,j,h6,hj,h5⟩
  refine vc_sound _ _ _ (by rfl) ?_
  by_cases hb2:(j:Int)<x.parents.length
  ·obtain⟨q,hq⟩:=get_of_lt (l:=x.parents) (i:=j) (by omega)
   obtain⟨q0,q1⟩:=xr q (List.mem_of_getElem? hq)
   obtain⟨u,rfl⟩:=Int.eq_ofNat_of_zero_le q0
   have hne2:=ne_of_get hq
   have w1:=IntWalk.u64_in (u:Int) (by omega)
   have w2:=IntWalk.i64_in ((j:Int)+1) (by omega)
   have b1:setN (x.parents.take j)<2 ^ 64:=setN_lt fun p hp=>by have:=xr p (List.mem_of_mem_take hp);omega
   have s1:=fun t x y=>shlB (P:=Try.prog) (t:=t) (x:=x) (y:=y) (k':=.u64) (s:=u) (by omega)
   have s2:=fun t x y=>orB (P:=Try.prog) (t:=t) (x:=x) (y:=y) (b:=2 ^ u) b1 (Nat.pow_lt_pow_right (by decide) (by omega))
   simp only[go_sem,h4,h1,l2,hb,hne,e1,h6,h5,hb2,hq,hne2,w1,w2,s1,s2]
   exact⟨⟨j+1,by simp,by omega,by rw[take_succ_get hq,setN_snoc];rfl⟩,by omega⟩
  ·obtain⟨v',H3,hA,ov2,hO,hn2,_⟩:=app_bits (setN x.parents) ov h3 (by simp [setsL];omega)
   have w1:=IntWalk.i64_in ((k:Int)+1) (by omega)
   rw[List.take_of_length_le (by omega)]at h5
   simp only[go_sem,h4,h1,l2,hb,hne,e1,h6,h5,hb2,w1,hA]
   refine⟨by have:=ov2.next;omega,⟨k+1,by simp,by omega,ov2,?_⟩,by omega⟩
   rw[take_succ_get (setsL_get hx)]
   exact hO
 ·simp only[go_sem,h4,h1,l2,hb]
  rw[List.take_of_length_le (by simp [setsL];omega)]at h3
  exact FinV.dropO G0_ok hcl (o1.trans ov) (h3.fzB fun i hi=>by omega) hK
end Go.Proofs
namespace Go.Proofs
open Go.Hx
def RowOk (g card:Int)(r:List Int):Prop:=(r.length:Int)=card/\(∀ w∈r,0<=w/\w<=g)/\r.sum=g
def NodeOk (g:Int)(ns:List NodeP)(x:NodeP):Prop:=(x.rows.length:Int)=prodL (parC ns x)/\∀ r∈x.rows,RowOk g x.card r
structure NetOk (g:Int)(ns:List NodeP):Prop where
 g1:1<=g/\g<=60
 n1:1<=ns.length/\ns.length<=8
 node:∀ x∈ns,(1<=x.card/\x.card<=4)/\PlacesOk x.parents ns.length
 size:prodL (cardsL ns)<=1024
 acyc:AcycB (setsL ns)
 rows:∀ x∈ns,NodeOk g ns x
noncomputable def netB (g:Int)(ns:List NodeP):Bool:=@decide (NetOk g ns) (Classical.propDecidable _)
theorem netB_true {g:Int}{ns:List NodeP}(h:NetOk g ns):netB g ns=true:=by unfold netB;exact @decide_eq_true _ (Classical.propDecidable _) h
theorem netB_false {g:Int}{ns:List NodeP}(h:¬ NetOk g ns):netB g ns=false:=by unfold netB;exact @decide_eq_false _ (Classical.propDecidable _) h
def NetFit (ns:List NodeP):Prop:=(ns.length:Int)<2 ^ 38/\∀ x∈ns,(x.parents.length:Int)<2 ^ 38/\(x.rows.length:Int)<2 ^ 38/\∀ r∈x.rows,(r.length:Int)<2 ^ 38
theorem smallC_of {l:List Int}(h:l.length<=12)(h2:∀ x∈l,1<=x/\x<=4):SmallC l:=⟨h,fun x hx=>by have:=h2 x hx;omega⟩
theorem parC_mem {ns:List NodeP}{x:NodeP}(hin:InRange x.parents ns.length)(hc:∀ y∈ns,1<=y.card/\y.card<=4):∀ c∈parC ns x,1<=c/\c<=4:=fun c h=>by
 unfold parC atL at h
 obtain⟨q,hq,rfl⟩:=List.mem_map.1 h
 obtain⟨j,rfl,y,hy⟩:=get_of_int (l:=ns) (hin q hq).1 (hin q hq).2
 rw[Int.toNat_natCast,getD_of_get (cards_get hy)]
 exact hc y (List.mem_of_getElem? hy)
theorem parC_small {ns:List NodeP}{x:NodeP}(h8:ns.length<=8)(hp:PlacesOk x.parents ns.length)(hc:∀ y∈ns,1<=y.card/\y.card<=4):SmallC (parC ns x):=by
 refine smallC_of ?_ (parC_mem (fun q hq=>by have:=hp.2 q hq;omega) hc)
 rw[show (parC ns x).length=_ from atL_len _ _]
 have:=hp.len;omega
theorem setsL_lt {ns:List NodeP}{n:Nat}(h:∀ x∈ns,∀ q∈x.parents,0<=q/\q<(n:Int)):∀ p∈setsL ns,p<2 ^ n:=fun p hp=>by
 obtain⟨x,hx,rfl⟩:=List.mem_map.1 hp
 exact setN_lt fun q hq=>by have:=h x hx q hq;omega
theorem sum_snoc (l:List Int)(x:Int):(l++[x]).sum=l.sum+x:=by simp
end Go.Proofs
namespace Go.Hx
variable {P:Program} {G:Nat->Option (List AVal)} {n:Nat} {rd:Option Nat} {Q:AX->St->Prop}
def ItSpec (P:Program)(G:Nat->Option (List AVal))(f:FuncId)(first cap:List AVal)(xs:List (List AVal))(S:AHeap->Prop):Prop :=
 ∀ (idy:Nat) (J:Nat->AHeap->Prop) (Stop:AHeap->Prop) (H:AHeap) (K:ARes->AHeap->Prop),
  (∀ k H1,J k H1->S H1)->J 0 H ->
  (∀ k x H1 K1,xs[k]?=some x->J k H1->H.next<=H1.next->(∀ H',J (k+1) H'->H1.next<=H'.next->K1 (.ret (.lit (.bool true))) H')->(∀ H',Stop H'->H1.next<=H'.next->K1 (.ret (.lit (.bool false))) H')->AApply P G (.yld idy) x H1 K1) ->
  (∀ H',J xs.length H'->H.next<=H'.next->K (.ret (.tup [])) H') ->
  (∀ H',Stop H'->H.next<=H'.next->K (.ret (.tup [])) H') ->
  ACall P G f (first++[.yld idy]++cap) H K
def bodyIt (idy:Nat)(B:Blk)(lo:Nat)(J:AHeap->Prop)(Stop:AX->AHeap->Prop):AX->St->Prop
 | .normal,s=>s.H.get idy=some B/\lo<=s.H.next/\J s.H
 | .ret,s=>s.H.get idy=some B/\lo<=s.H.next/\Stop .ret s.H
 | .exit i,s=>s.H.get idy=some B/\lo<=s.H.next/\Stop (.exit i) s.H
 | _,_=>False
def asgIt (P:Program)(G:Nat->Option (List AVal))(n idy:Nat)(B Bb:Blk)(lo:Nat)(body:Code)(J:AHeap->Prop)(Stop:AX->AHeap->Prop):AX->St->Prop
 | .normal,s=>s.H.get idy=some B/\W P G n (some idy) body (bodyIt idy Bb lo J Stop) ⟨s.ρ,s.H.upd idy Bb⟩
 | _,_=>False
theorem W.rangeIt {g:Operand}{ps:Array Tmp}{asg body:Code}{ρ:Env}{H:AHeap}{f:FuncId}{first cap:List AVal}{xs:List (List AVal)}{S:AHeap->Prop}(hg:evA G ρ g=.clo f first cap)
  (hit:ItSpec P G f first cap xs S) (J:Nat->AHeap->Prop) (Stop:AX->AHeap->Prop) (hS:∀ k H1,J k H1->S H1)
  (hJu:∀ k H1 b,J k H1->J k (H1.upd H.next b)) (hSu:∀ c H1 b,Stop c H1->Stop c (H1.upd H.next b))
  (hJ0:∀ b,J 0 (ext H [b])) (hps:ps.toList.all (fun t=>decide (t<n))=true) (hxl:∀ x∈xs,x.length=ps.size)
  (hrd:∀ k H1,J k H1->RdIn H1 rd) (hrd2:∀ c H1,Stop c H1->RdIn H1 rd)
  (hround:∀ k x H1 B Bb,xs[k]?=some x->J k H1->H.next+1<=H1.next->H1.get H.next=some B->(∃ st pd n' en ps' as' bo,Bb=Blk.loop st pd n' en ps' as' bo) ->
   W P G n (some H.next) asg (asgIt P G n H.next B Bb H1.next body (J (k+1)) Stop) ⟨setPs (envN ρ n) (ps.toList.zip x),H1⟩)
  (hend:∀ H',J xs.length H'->H.next+1<=H'.next->Q .normal ⟨ρ,H'⟩)
  (hret:∀ H',Stop .ret H'->H.next+1<=H'.next->Q .ret ⟨ρ,H'⟩) (hexit:∀ i H',Stop (.exit i) H'->H.next+1<=H'.next->Q (.exit i) ⟨ρ,H'⟩):
  W P G n rd (.rangeFunc g ps asg body) Q ⟨ρ,H⟩:=by
 refine W.rangeFunc (s:=⟨ρ,H⟩) hg ⟨_,lay_next _ _,?_⟩
 obtain⟨B,hB⟩:∃ B,B=Blk.loop .ready none n ρ ps asg body:=⟨_,rfl⟩
 obtain⟨Bb,hBb⟩:∃ B,B=Blk.loop .busy none n ρ ps asg body:=⟨_,rfl⟩
 have nx:(ext H [B]).next=H.next+1:=rfl
 show ACall P G f (first++[.yld H.next]++cap) (ext H [Blk.loop .ready none n ρ ps asg body]) (rangeQ rd Q ρ H.next)
 rw[<- hB]
 refine hit H.next (fun k H1=>H1.get H.next=some B/\J k H1) (fun H1=>∃ c pend,H1.get H.next=some (.loop .done (some pend) n ρ ps asg body)/\Stop c H1/\((c=.ret/\pend=.ret)\/∃ i,c=.exit i/\pend=.exit i)) _ _
  (fun k H1 h=>hS k H1 h.2) ⟨ext1_get_new,hJ0 B⟩ (fun k x H1 K1 hx hj hn hgo hst=>?_) (fun H' hj hn=>?_) (fun H' hj hn=>?_)
 ·have hxm:=hxl x (List.mem_of_getElem? hx)
  refine AApply.yld (hj.1.trans (congrArg some hB)) hxm hps ?_
  refine(hround k x H1 B Bb hx hj.2 hn hj.1 ⟨_,_,_,_,_,_,_,hBb⟩).mono fun e s1 h1=>?_
  cases e with
  | normal =>
   obtain⟨a1,a2⟩:=h1
   refine⟨Bb,by rw[a1,hB,hBb];rfl,?_⟩
   refine a2.mono fun e2 s2 h2=>?_
   cases e2 with
   | normal =>
    obtain⟨b1,b2,b3⟩:=h2
    exact⟨B,by rw[b1,hB,hBb];rfl,hgo _ ⟨by rw[upd_get,if_pos rfl],hJu _ _ _ b3⟩ b2⟩
   | ret =>
    obtain⟨b1,b2,b3⟩:=h2
    exact⟨.loop .done (some .ret) n ρ ps asg body,by rw[b1,hBb];rfl,hst _ ⟨.ret,.ret,by rw[upd_get,if_pos rfl],hSu _ _ _ b3,.inl ⟨rfl,rfl⟩⟩ b2⟩
   | exit i =>
    obtain⟨b1,b2,b3⟩:=h2
    exact⟨.loop .done (some (.exit i)) n ρ ps asg body,by rw[b1,hBb];rfl,hst _ ⟨.exit i,.exit i,by rw[upd_get,if_pos rfl],hSu _ _ _ b3,.inr ⟨i,rfl,rfl⟩⟩ b2⟩
   | _=>exact h2.elim
  | _=>exact h1.elim
 ·refine⟨hrd _ _ hj.2,(none,.loop .exhausted none n ρ ps asg body),by rw[hj.1,hB];rfl,?_⟩
  exact hend _ (hJu _ _ _ hj.2) hn
 ·obtain⟨c,pend,h1,h2,h3⟩:=hj
  refine⟨hrd2 _ _ h2,(some pend,.loop .exhausted (some pend) n ρ ps asg body),by rw[h1];rfl,?_⟩
  rcases h3 with ⟨rfl,rfl⟩|⟨i,rfl,rfl⟩
  ·exact hret _ (hSu _ _ _ h2) hn
  ·exact hexit i _ (hSu _ _ _ h2) hn
end Go.Hx
namespace Go.Proofs
open Go.Hx
def nodeV (x:NodeP):AVal:=.agg [.lit (.int .i64 x.card),.vec x.parents.length (ints x.parents),vecV x.rows]
def rowsX (rows:List (List Int)):List (List AVal):=rows.zipIdx.map fun p=>[lin p.2,vecI p.1]
theorem rowsX_get {rows:List (List Int)}{k:Nat}{x:List AVal}(h:(rowsX rows)[k]?=some x):∃ r,rows[k]?=some r/\x=[lin k,vecI r]:=by
 unfold rowsX at h
 rw[List.getElem?_map,List.getElem?_zipIdx]at h
 cases hr:rows[k]? with
 | none=>rw[hr]at h;simp at h
 | some r=>rw[hr]at h;simp at h;exact⟨r,rfl,h.symm⟩
theorem rowsX_of {rows:List (List Int)}{k:Nat}{r:List Int}(h:rows[k]?=some r):(rowsX rows)[k]?=some [lin k,vecI r]:=by
 unfold rowsX;rw[List.getElem?_map,List.getElem?_zipIdx,h];simp
theorem rowsX_len (rows:List (List Int)):(rowsX rows).length=rows.length:=by simp [rowsX]
theorem rows_it (x:NodeP)(hl:(x.rows.length:Int)<2 ^ 40)(b:Nat):ItSpec Try.prog G0 92 [] [.ptr b 0 0] (rowsX x.rows) (fun H=>H.get b=some (.arr 0 56 [.lit (.int .i64 x.card),.vec x.parents.length (ints x.parents),vecV x.rows])):=by
 intro idy J Stop H K hS hJ0 hY hK hSt
 have l0:=get_live (hS 0 H hJ0)
 show ACall _ _ _ ([.yld idy]++[.ptr b 0 0]) _ _
 refine ACall.of_body (n:=19) (rs:=[]) Try.func92 rfl rfl rfl (by decide) (by kernel_rfl) (by simp) ?_
 simp only[go_sem,l0,vecV]
 refine W.loop0 524056 (by rfl) (fun ρ H'=>∃ k:Nat,ρ 8=lin k/\k<=x.rows.length/\J k H'/\H.next<=H'.next) (fun ρ H=>x.rows.length - (iv (ρ 8)).toNat) ?_ ?_
 ·simp only[go_sem]
  exact⟨0,rfl,by omega,hJ0⟩
 rintro ρ H' ⟨k,h8,hk,hj,hn⟩
 refine vc_sound _ _ _ (by rfl) ?_
 by_cases hb:(k:Int)<x.rows.length
 ·obtain⟨r,hr⟩:=get_of_lt (l:=x.rows) (i:=k) (by omega)
  have hne:=ne_of_get hr
  have w1:=IntWalk.i64_in ((k:Int)+1) (by omega)
  simp only[go_sem,h8,hb,hr,hne]
  refine hY k [lin k,vecI r] H' _ (rowsX_of hr) hj hn (fun H2 hj2 hn2=>⟨trivial,?_⟩) (fun H2 hs2 hn2=>⟨trivial,?_⟩)
  ·simp only[go_sem,h8,w1]
   exact⟨by omega,⟨k+1,by simp,by omega,hj2,by omega⟩,by omega⟩
  ·simp only[go_sem]
   exact FinV.mk (by omega) (hSt H2 hs2 (by omega))
 ·simp only[go_sem,h8,hb]
  have ek:k=(rowsX x.rows).length:=by rw[rowsX_len];omega
  subst ek
  exact FinV.mk (by omega) (hK H' hj hn)
theorem rows_clo (x:NodeP)(H:AHeap)(K:ARes->AHeap->Prop)(hK:K (.ret (.clo 92 [] [.ptr H.next 0 0])) (ext H [.arr 0 56 [.lit (.int .i64 x.card),.vec x.parents.length (ints x.parents),vecV x.rows]])):
  ACall Try.prog G0 91 [nodeV x] H K:=by
 refine ACall.of_body (n:=4) (rs:=[.tmp 2]) Try.func91 rfl rfl rfl (by decide) (by kernel_rfl) (by simp) ?_
 simp only[go_sem,nodeV]
 exact FinV.mk (by simp [ext_next]) hK
theorem row_sum_bound {l:List Int}{g:Int}(h:∀ w∈l,0<=w):0<=l.sum:=by
 induction l with
 | nil=>simp
 | cons a l ih =>
  have h1:=ih fun w hw=>h w (by simp [hw])
  have h2:=h a (by simp)
  simp only[List.sum_cons];omega
theorem mem_le_sum {l:List Int}(h:∀ w∈l,0<=w):∀ w∈l,w<=l.sum:=by
 induction l with
 | nil=>intro w hw;cases hw
 | cons a l ih =>
  intro w hw
  have h1:=row_sum_bound (g:=0) fun w hw=>h w (List.mem_cons_of_mem a hw)
  have h2:=h a (by simp)
  simp only[List.sum_cons]
  rcases List.mem_cons.1 hw with rfl|hw
  ·omega
  ·have:=ih (fun w hw=>h w (by simp [hw])) w hw
   omega
noncomputable def nodeB (g:Int)(ns:List NodeP)(x:NodeP):Bool:=@decide (NodeOk g ns x) (Classical.propDecidable _)
theorem nodeB_true {g:Int}{ns:List NodeP}{x:NodeP}(h:NodeOk g ns x):nodeB g ns x=true:=by unfold nodeB;exact @decide_eq_true _ (Classical.propDecidable _) h
theorem nodeB_false {g:Int}{ns:List NodeP}{x:NodeP}(h:¬ NodeOk g ns x):nodeB g ns x=false:=by unfold nodeB;exact @decide_eq_false _ (Classical.propDecidable _) h
theorem nodeB_iff {g:Int}{ns:List NodeP}{x:NodeP}:nodeB g ns x=true↔NodeOk g ns x:=by unfold nodeB;exact @decide_eq_true_iff _ (Classical.propDecidable _)
set_option maxHeartbeats 2000000 in
theorem filledN_spec (g:Int)(hg:1<=g/\g<=60)(ns:List NodeP)(sets:List Nat)(x:NodeP)(hin:InRange x.parents ns.length)(hsm:SmallC (parC ns x))(hx1:(x.rows.length:Int)<2 ^ 38)(hx2:∀ r∈x.rows,(r.length:Int)<2 ^ 38)(H:AHeap)(K:ARes->AHeap->Prop)
  (hK:K (.ret (.lit (.bool (nodeB g ns x)))) H):ACall Try.prog G0 89 [.agg [.lit (.int .i64 g),nodesV ns,vecI (cardsL ns),vecB sets,.lit (.slice none 0 0)],nodeV x] H K:=by
 refine ACall.clo ⟨_,Try.func89,rfl,rfl⟩ fun hcl=>?_
 have l12:=hsm.1
 have pl:(parC ns x).length=x.parents.length:=atL_len _ _
 have no:¬ NodeOk g ns x->∀ H',Over H H'->FinV Try.prog G0 H K (.lit (.bool false)) H':=fun h H' ov=>FinV.dropO G0_ok hcl ov (.lit _) (by rw[nodeB_false h]at hK;exact hK)
 refine ACall.of_body (n:=66) (rs:=[.cell 4 4]) Try.func89 rfl rfl rfl (by decide) (by kernel_rfl) (by simp) ?_
 simp only[go_sem,nodesV,nodeV]
 obtain⟨H1,hH1⟩:∃ H1,H1=ext H [.arr 0 146 [.lit (.int .i64 g),.vec ns.length (nodesC ns),.vec (cardsL ns).length (ints (cardsL ns)),.vec sets.length (sets.map bitV),.lit (.slice none 0 0)],.arr 0 56 [.lit (.int .i64 x.card),.vec x.parents.length (ints x.parents),vecV x.rows],.arr 0 4 [.lit (.bool false)]]:=⟨_,rfl⟩
 have l1:H1.live H.next 0=some (146,[.lit (.int .i64 g),.vec ns.length (nodesC ns),.vec (cardsL ns).length (ints (cardsL ns)),.vec sets.length (sets.map bitV),.lit (.slice none 0 0)]):=by rw[hH1];exact get_live (get_ext0 ..)
 have l2:H1.live (H.next+1) 0=some (56,[.lit (.int .i64 x.card),.vec x.parents.length (ints x.parents),vecV x.rows]):=by rw[hH1];exact get_live (get_ext H _ 1 (by simp))
 have g3:H1.get (H.next+2)=some (.arr 0 4 [.lit (.bool false)]):=by rw[hH1];exact get_ext H _ 2 (by simp)
 have n1:H1.next=H.next+3:=by rw[hH1];rfl
 have o1:Over H H1:=by rw[hH1];exact .ext _ _
 rw[<- hH1]
 refine W.loop0 268370080 (by rfl) (fun ρ H'=>H'=H1/\∃ k:Nat,ρ 16=lin k/\k<=x.parents.length/\ρ 5=lin (prodL ((parC ns x).take k))) (fun ρ H=>x.parents.length - (iv (ρ 16)).toNat) ?_ ?_
 ·simp only[go_sem]
  exact⟨0,rfl,by omega,by simp [prodL_nil]⟩
 rintro ρ H' ⟨rfl,k,h16,hk,h5⟩
 refine vc_sound _ _ _ (by rfl) ?_
 by_cases hb:(k:Int)<x.parents.length
 ·obtain⟨q,hq⟩:=get_of_lt (l:=x.parents) (i:=k) (by omega)
  obtain⟨j,rfl,y,hy⟩:=get_of_int (l:=ns) (hin q (List.mem_of_getElem? hq)).1 (hin q (List.mem_of_getElem? hq)).2
  have hne2:=ne_of_get hq
  have hyc:=cards_get hy
  have hne3:=ne_of_get hyc
  have hj:(j:Int)<(cardsL ns).length:=by have:=get_lt hyc;omega
  have pk:(parC ns x)[k]?=some y.card:=by
   rw[show (parC ns x)[k]?=_ from atL_get hq,Int.toNat_natCast,getD_of_get hyc]
  have b1:=(hsm.take (k+1)).prod
  rw[take_succ_get pk,prodL_snoc]at b1
  have w1:=IntWalk.i64_in ((k:Int)+1) (by omega)
  have w2:=IntWalk.i64_in (prodL ((parC ns x).take k)*y.card) (by omega)
  simp only[go_sem,h16,h5,l1,hb,hq,hne2,hj,hyc,hne3,w1,w2]
  exact⟨⟨k+1,by simp,by omega,by rw[take_succ_get pk,prodL_snoc]⟩,by omega⟩
 rw[List.take_of_length_le (by omega)]at h5
 by_cases c1:(x.rows.length:Int)=prodL (parC ns x)
 rotate_left
 ·simp only[go_sem,h16,h5,l2,hb,c1,vecV]
  have l3:=get_live g3
  simp only[go_sem,l3]
  exact no (fun h=>c1 h.1) _ (o1.upd (by omega) _)
 simp only[go_sem,h16,h5,l2,hb,c1,vecV]
 refine AApply.clo (rows_clo x _ _ ⟨trivial,?_⟩)
 simp only[go_sem]
 obtain⟨H2,hH2⟩:∃ H2,H2=ext H' [.arr 0 56 [.lit (.int .i64 x.card),.vec x.parents.length (ints x.parents),vecV x.rows]]:=⟨_,rfl⟩
 rw[<- hH2]
 have o2:Over H' H2:=by rw[hH2];exact .ext _ _
 have n2:H2.next=H.next+4:=by rw[hH2,ext_next,n1];rfl
 have hbx:H2.get H'.next=some (.arr 0 56 [.lit (.int .i64 x.card),.vec x.parents.length (ints x.parents),vecV x.rows]):=by rw[hH2];exact ext1_get_new
 refine W.env fun E hE=>?_
 have e2:E 2=.ptr H.next 0 0:=by rw[hE];simp only[go_sem]
 have e3:E 3=.ptr (H.next+1) 0 0:=by rw[hE];simp only[go_sem]
 have e4:E 4=.ptr (H.next+2) 0 0:=by rw[hE];simp only[go_sem]
 have i1:H2.live H.next 0=some (146,[.lit (.int .i64 g),.vec ns.length (nodesC ns),.vec (cardsL ns).length (ints (cardsL ns)),.vec sets.length (sets.map bitV),.lit (.slice none 0 0)]):=(o2.live (by omega)).trans l1
 have i2:H2.live (H.next+1) 0=some (56,[.lit (.int .i64 x.card),.vec x.parents.length (ints x.parents),vecV x.rows]):=(o2.live (by omega)).trans l2
 have i3:H2.get (H.next+2)=some (.arr 0 4 [.lit (.bool false)]):=(o2.old _ (by omega)).trans g3
 refine W.rangeIt (f:=92) (first:=[]) (cap:=[.ptr H'.next 0 0]) (by show E 34=_;rw[hE];rfl) (rows_it x (by omega) H'.next)
  (fun k Hx=>Over H2 Hx/\∀ r∈x.rows.take k,RowOk g x.card r) (fun c Hx=>c=.ret/\Over H Hx/\H.next+4<=Hx.next/\Hx.get (H.next+2)=some (.arr 0 4 [.lit (.bool false)])/\¬ NodeOk g ns x)
  (fun k Hx h=>by rw[h.1.old _ (by omega)];exact hbx) (fun k Hx b h=>⟨h.1.upd (Nat.le_refl _) b,h.2⟩) (fun c Hx b h=>⟨h.1,h.2.1.upd (by omega) b,h.2.2.1,by rw[upd_get,if_neg (by omega)];exact h.2.2.2.1,h.2.2.2.2⟩)
  (fun b=>⟨.ext _ _,by simp⟩) (by decide) (fun y hy=>by
   obtain⟨k,hk⟩:=List.mem_iff_getElem?.1 hy
   obtain⟨r,_,rfl⟩:=rowsX_get hk
   rfl) (fun _ _ _=>trivial) (fun _ _ _=>trivial) (fun k y Hx B Bb hy hj hn hB hBb=>?_) (fun Hx hj hn=>?_) (fun Hx hs hn=>?_) (fun i Hx hs hn=>by cases hs.1)
 ·obtain⟨r,hr,rfl⟩:=rowsX_get hy
  refine vc_sound _ _ _ (by rfl) ?_
  simp only[go_sem,setPs,envN,asgIt,List.foldl_cons,List.foldl_nil,List.zip_cons_cons,List.zip_nil_right,hB]
  obtain⟨H3,hH3⟩:∃ H3,H3=Hx.upd H2.next Bb:=⟨_,rfl⟩
  rw[<- hH3]
  obtain⟨st,pd,n',en,ps',as',bo,hBe⟩:=hBb
  have o3:Over H2 H3:=by rw[hH3];exact hj.1.upd (Nat.le_refl _) Bb
  have o4:Over H H3:=(o1.trans o2).trans o3
  have n3:H3.next=Hx.next:=by rw[hH3];rfl
  have j1:=(o3.live (g:=0) (by omega:H.next<H2.next)).trans i1
  have j2:=(o3.live (g:=0) (by omega:H.next+1<H2.next)).trans i2
  have j3:=(o3.old _ (by omega:H.next+2<H2.next)).trans i3
  have j4:=get_live j3
  have jB:H3.get H2.next=some Bb:=by rw[hH3,upd_get,if_pos rfl]
  have nB:¬ H2.next=H.next+2:=by omega
  have hrm:=List.mem_of_getElem? hr
  have hrl:=hx2 r hrm
  have nope:¬ RowOk g x.card r->¬ NodeOk g ns x:=fun h h'=>h (h'.2 r hrm)
  have stop:¬ RowOk g x.card r->(H3.upd (H.next+2) (Blk.arr 0 4 [.lit (.bool false)])).get H2.next=some Bb/\Hx.next<=(H3.upd (H.next+2) (Blk.arr 0 4 [.lit (.bool false)])).next/\Over H (H3.upd (H.next+2) (Blk.arr 0 4 [.lit (.bool false)])) /\
    H.next+4<=(H3.upd (H.next+2) (Blk.arr 0 4 [.lit (.bool false)])).next/\(H3.upd (H.next+2) (Blk.arr 0 4 [.lit (.bool false)])).get (H.next+2)=some (.arr 0 4 [.lit (.bool false)])/\¬ NodeOk g ns x:=fun h =>
   ⟨by rw[upd_get,if_neg nB];exact jB,by rw[upd_next];omega,o4.upd (by omega) _,by rw[upd_next];omega,by rw[upd_get,if_pos rfl],nope h⟩
  refine vc_sound _ _ _ (by rfl) ?_
  simp only[go_sem,envN,e2,j1]
  refine W.loop0 144110790029349888 (by rfl) (fun ρ2 H4=>H4=H3/\∃ i:Nat,ρ2 42=lin i/\i<=r.length/\(∀ w∈r.take i,0<=w)/\(r.take i).sum<=g/\ρ2 10=lin (g - (r.take i).sum)) (fun ρ2 H=>r.length - (iv (ρ2 42)).toNat) ?_ ?_
  ·simp only[go_sem]
   exact⟨0,rfl,by omega,by simp,by simp;omega,by simp⟩
  rintro ρ2 H4 ⟨rfl,i,h42,hi,hw0,hws,h10⟩
  refine vc_sound _ _ _ (by rfl) ?_
  have s0:=row_sum_bound (g:=g) hw0
  by_cases hb2:(i:Int)<r.length
  ·obtain⟨a,ha⟩:=get_of_lt (l:=r) (i:=i) (by omega)
   have ham:=List.mem_of_getElem? ha
   have hane:=ne_of_get ha
   by_cases d1:a<0
   ·simp only[go_sem,h42,hb2,ha,hane,d1,envN,e4,j4,bodyIt]
    exact stop fun h=>by have:=h.2.1 a ham;omega
   by_cases d2:a > g - (r.take i).sum
   ·simp only[go_sem,h42,h10,hb2,ha,hane,d1,d2,envN,e4,j4,bodyIt]
    refine stop fun h=>?_
    have h1:r.sum=(r.take (i+1)).sum+(r.drop (i+1)).sum:=by rw[<- List.sum_append,List.take_append_drop]
    rw[take_succ_get ha,sum_snoc]at h1
    have h2:=row_sum_bound (g:=g) (l:=r.drop (i+1)) fun w hw=>(h.2.1 w (List.mem_of_mem_drop hw)).1
    have:=h.2.2
    omega
   have w1:=IntWalk.i64_in ((i:Int)+1) (by omega)
   have w2:=IntWalk.i64_in (g - (r.take i).sum - a) (by omega)
   simp only[go_sem,h42,h10,hb2,ha,hane,d1,d2,w1,w2,envN]
   refine⟨⟨_,_,_,_,_,_,_,by rw[jB,hBe]⟩,⟨i+1,by simp,by omega,fun w hw=>?_,by rw[take_succ_get ha,sum_snoc];omega,?_⟩,by omega⟩
   ·rw[take_succ_get ha]at hw
    rcases List.mem_append.1 hw with hw|hw
    ·exact hw0 w hw
    ·obtain rfl:=List.mem_singleton.1 hw;omega
   ·rw[take_succ_get ha,sum_snoc];show lin _=lin _;congr 1;omega
  ·rw[List.take_of_length_le (by omega)]at hw0 hws h10 s0
   by_cases d1:(r.length:Int)=x.card
   rotate_left
   ·simp only[go_sem,h42,hb2,d1,envN,e3,e4,j2,j4,bodyIt]
    exact stop fun h=>d1 h.1
   have hb2':¬ (i:Int)<x.card:=by omega
   by_cases d2:g - r.sum=0
   rotate_left
   ·simp only[go_sem,h42,h10,hb2',d1,d2,envN,e3,e4,j2,j4,bodyIt]
    exact stop fun h=>by have:=h.2.2;omega
   simp only[go_sem,h42,h10,hb2',d1,d2,envN,e3,j2,bodyIt]
   refine⟨jB,by omega,o3,fun y hy=>?_⟩
   rw[take_succ_get hr]at hy
   rcases List.mem_append.1 hy with hy|hy
   ·exact hj.2 y hy
   ·obtain rfl:=List.mem_singleton.1 hy
    exact⟨d1,fun w hw=>⟨hw0 w hw,by have:=mem_le_sum hw0 w hw;omega⟩,by omega⟩
 ·have hok:NodeOk g ns x:=⟨c1,by
   have:=hj.2
   rw[rowsX_len,List.take_length]at this
   exact this⟩
  have j4:=get_live ((hj.1.old _ (by omega:H.next+2<H2.next)).trans i3)
  rw[nodeB_true hok]at hK
  simp only[go_sem,e4,j4]
  exact FinV.dropO G0_ok hcl (((o1.trans o2).trans hj.1).upd (by omega) _) (.lit _) hK
 ·obtain⟨_,o4,n4,g4,hno⟩:=hs
  have j4:=get_live g4
  simp only[go_sem,e4,j4]
  exact no hno _ o4
end Go.Proofs
namespace Go.Hx
theorem OwnG.freshI {lo:Nat}{H:AHeap}{e:TypeId}{v:AVal}{l:List Int}(h:OwnG lo H e v (ints l)):Fresh H v (vecI l):=by
 rcases h with ⟨rfl,h⟩|⟨id,g,h1,h2,rfl,h4⟩
 ·have:l=[]:=by cases l with
   | nil=>rfl
   | cons a l=>simp [ints]at h
  subst this
  exact .nil
 ·have e:vecI l=.vec (ints l).length (ints l):=by rw[ints_length];rfl
  rw[e]
  refine .own h4 (by simp) fun j hj h2 h'=>?_
  simp only[Nat.zero_add,ints,List.getElem_map]
  exact .lit _
theorem Fz.ownRead {H:AHeap}{id g n nx:Nat}{e:TypeId}{cs:List AVal}(hg:H.get id=some (.arr g e cs))(hn:n=cs.length)(hl:∀ c∈cs,∃ v,c=.lit v):Fz (fun _=>True) H nx (.own id g 0 n 1) (.vec n cs):=by
 refine .frz trivial hg (by omega) fun j hj h2 h'=>?_
 simp only[Nat.zero_add]
 obtain⟨v,hv⟩:=hl _ (List.getElem_mem h')
 rw[hv];exact .lit _
end Go.Hx
namespace Go.Proofs
open Go.Hx
def natsI (l:List Nat):List Int:=l.map fun (v:Nat)=>(v:Int)
theorem find_range {n j:Nat}{p:Nat->Bool}(hj:j<n)(h1:∀ v,v<j->p v=false)(h2:p j=true):(List.range n).find? p=some j:=by
 rw[List.find?_eq_some_iff_getElem]
 refine⟨h2,j,by simpa using hj,by simp,fun k hk=>?_⟩
 simp only[List.getElem_range]
 simp [h1 k hk]
theorem find_range_none {n:Nat}{p:Nat->Bool}(h1:∀ v,v<n->p v=false):(List.range n).find? p=none:=by
 rw[List.find?_eq_none]
 intro x hx
 simp [h1 x (List.mem_range.1 hx)]
set_option maxHeartbeats 1000000 in
theorem sorted_own (ps:List Nat)(hl:ps.length<=60)(hp:∀ p∈ps,p<2 ^ 64)(H:AHeap)(K:ARes->AHeap->Prop)
  (hK:∀ v H',Over H H'->(match topo ps with|some o=>OwnG H.next H' 3 v (ints (natsI o))|none=>v=.lit (.slice none 0 0))->K (.ret (.tup [v,.lit (.bool (topo ps).isSome)])) H'):ACall Try.prog G0 90 [vecB ps] H K:=by
 have no:∀ H',topo ps=none->Over H H'->FinV Try.prog G0 H K (.tup [.lit (.slice none 0 0),.lit (.bool false)]) H':=fun H' h ov=>FinV.mk ov.next (by
  have:=hK (.lit (.slice none 0 0)) H' ov
  rw[h]at this
  exact this rfl)
 refine ACall.of_body (n:=44) (rs:=[.tmp 2,.tmp 3]) Try.func90 rfl rfl rfl (by decide) (by kernel_rfl) (by simp) ?_
 simp only[go_sem]
 refine⟨by omega,?_⟩
 refine W.loop0 8796093020412 (by rfl) (fun ρ H'=>∃ (out:List Nat) (done:Nat),ρ 5=bitV done/\done<2 ^ 64/\out.length<=ps.length/\H.next+1<=H'.next/\Over H H'/\OwnG H.next H' 3 (ρ 4) (ints (natsI out))/\(∃ id g,ρ 4=.own id g 0 out.length 1)/\topoGo ps (ps.length - out.length) out done=topo ps)
  (fun ρ H=>ps.length - (match ρ 4 with|.own _ _ _ n _=>n|_=>0)) ?_ ?_
 ·simp only[go_sem]
  exact⟨[],0,by simp,by decide,Nat.zero_le _,.ext _ _,.inr ⟨H.next,0,Nat.le_refl _,by simp [ext_next],rfl,get_ext0 H _ []⟩,⟨_,_,rfl⟩,rfl⟩
 rintro ρ H' ⟨out,done,h5,hd,ho,hn0,ov,h4,⟨id,gn,h4e⟩,ht⟩
 refine vc_sound _ _ _ (by rfl) ?_
 have lv:H'.live id gn=some (3,ints (natsI out)):=by
  rcases h4 with ⟨h,_⟩|⟨i,g,h1,h2,h3,h4⟩
  ·rw[h4e]at h;cases h
  ·rw[h4e]at h3
   have:=AVal.own.inj h3
   obtain⟨rfl,rfl,_⟩:=this
   exact get_live h4
 by_cases hb:(out.length:Int)<ps.length
 ·simp only[go_sem,h4e,lv,hb]
  have hk1:ps.length - out.length=(ps.length - (out.length+1))+1:=by omega
  refine W.loop0 8796092760304 (by rfl) (fun ρ2 H2=>H2=H'/\∃ j:Nat,ρ2 18=lin j/\j<=ps.length/\ρ2 4=.own id gn 0 out.length 1/\ρ2 5=bitV done/\∀ v,v<j->freeB ps done v=false) (fun ρ2 H=>ps.length - (iv (ρ2 18)).toNat) ?_ ?_
  ·simp only[go_sem,h4e,h5]
   exact⟨0,rfl,by omega,fun v h=>absurd h (Nat.not_lt_zero _)⟩
  rintro ρ2 H2 ⟨rfl,j,h18,hj,h4',h5',hno⟩
  refine vc_sound _ _ _ (by rfl) ?_
  by_cases hb2:(j:Int)<ps.length
  ·obtain⟨p,hpj⟩:=get_of_lt (l:=ps) (i:=j) (by omega)
   have hp1:=hp p (List.mem_of_getElem? hpj)
   have hne:=ne_of_get hpj
   have s1:=fun t x y=>shrB (P:=Try.prog) (t:=t) (x:=x) (y:=y) (k':=.i64) (s:=j) hd
   have s2:=fun t x y=>bit1 (P:=Try.prog) (t:=t) (x:=x) (y:=y) (s:=j) hd
   have s3:=fun t x y=>subB (P:=Try.prog) (t:=t) (x:=x) (y:=y) (a:=p) (b:=done)
   have w1:=IntWalk.i64_in ((j:Int)+1) (by omega)
   have cont:freeB ps done j=false->∀ v,v<j+1->freeB ps done v=false:=fun h v hv=>by
    rcases Nat.lt_or_ge v j with h'|h'
    ·exact hno v h'
    ·obtain rfl:v=j:=by omega
     exact h
   have fe:freeB ps done j=(!done.testBit j && decide (subN p done=0)):=by unfold freeB;rw[getD_of_get hpj]
   cases hbit:done.testBit j
   rotate_left
   ·simp only[go_sem,h18,h4',h5',hb2,hpj,hne,s1,s2,hbit,w1]
    exact⟨⟨j+1,by simp,by omega,cont (by rw[fe,hbit];rfl)⟩,by omega⟩
   by_cases hz:subN p done=0
   rotate_left
   ·have hz':¬ ((subN p done:Nat):Int)=0:=by omega
    simp only[go_sem,h18,h4',h5',hb2,hpj,hne,s1,s2,s3,hbit,hz',w1]
    exact⟨⟨j+1,by simp,by omega,cont (by rw[fe,hbit];simp [hz])⟩,by omega⟩
   have hz':((subN p done:Nat):Int)=0:=by omega
   have hnx:nextT ps done=some j:=find_range (by omega) hno (by rw[fe,hbit];simp [hz])
   obtain⟨v',H3,hA,ov2,hO,hn2,_⟩:=app_int (j:Int) ov h4 (by simp [natsI];omega)
   rw[h4e]at hA
   have b2:(2:Nat) ^ j<2 ^ 64:=Nat.pow_lt_pow_right (by decide) (by omega)
   have s4:=fun t x y=>shlB (P:=Try.prog) (t:=t) (x:=x) (y:=y) (k':=.i64) (s:=j) (by omega)
   have s5:=fun t x y=>orB (P:=Try.prog) (t:=t) (x:=x) (y:=y) hd b2
   simp only[go_sem,h18,h4',h5',hb2,hpj,hne,s1,s2,s3,s4,s5,hbit,hz',hA]
   have hO':OwnG H.next H3 3 v' (ints (natsI (out++[j]))):=by
    have e:natsI (out++[j])=natsI out++[(j:Int)]:=by simp [natsI]
    rw[e];exact hO
   have hv':∃ id g,v'=.own id g 0 (out.length+1) 1:=by
    rcases hO' with ⟨_,h⟩|⟨i,g,_,_,h3,_⟩
    ·simp [ints,natsI]at h
    ·exact⟨i,g,by rw[h3,ints_length];simp [natsI]⟩
   obtain⟨i2,g2,rfl⟩:=hv'
   refine⟨by omega,⟨out++[j],done ||| 2 ^ j,rfl,Nat.or_lt_two_pow hd b2,by simp;omega,by omega,ov2,hO',⟨i2,g2,by simp⟩,?_⟩,by simp only;omega⟩
   rw[<- ht,hk1]
   conv=>rhs;unfold topoGo
   rw[hnx]
   simp
  ·simp only[go_sem,h18,hb2]
   refine no _ ?_ ov
   rw[<- ht,hk1]
   unfold topoGo
   have:nextT ps done=none:=find_range_none fun v hv=>hno v (by omega)
   rw[this]
 ·simp only[go_sem,h4e,lv,hb]
  have hz:ps.length - out.length=0:=by omega
  rw[hz]at ht
  have ht':topo ps=some out:=ht.symm
  have:=hK (.own id gn 0 out.length 1) H' ov
  rw[ht']at this
  refine FinV.mk ov.next (this ?_)
  rw[h4e]at h4;exact h4
theorem sorted_frame (ps:List Nat)(hl:ps.length<=60)(hp:∀ p∈ps,p<2 ^ 64)(H:AHeap)(v:AVal)(hv:Fz (fun _=>True) H 0 v (vecB ps))(K:ARes->AHeap->Prop)
  (hK:K (.ret (.tup [vecI (natsI ((topo ps).getD [])),.lit (.bool (topo ps).isSome)])) H):ACall Try.prog G0 90 [v] H K:=by
 refine(ACall.frame (H:=H) (args:=[v]) (args':=[vecB ps]) (v':=.tup [vecI (natsI ((topo ps).getD [])),.lit (.bool (topo ps).isSome)]) G0_ok rfl (fun i hi _=>match i,hi with|0,_=>hv) (sorted_own ps hl hp noH _ fun u H' ov hu=>⟨_,rfl,?_⟩)).mono ?_
 ·refine .tup rfl fun i hi _=>?_
  match i,hi with
  | 0,_ =>
   show Fresh H' u _
   cases ht:topo ps with
   | none=>rw[ht]at hu;simp only at hu;rw[hu];show Fresh H' _ (vecI []);exact .nil
   | some o=>rw[ht]at hu;exact OwnG.freshI hu
  | 1,_=>exact .lit _
 ·rintro r H' ⟨rfl,rfl⟩
  exact hK
end Go.Proofs
namespace Go.Proofs
open Go.Hx
def netZv:AVal:=.agg [.lit (.int .i64 0),vecI [],vecI [],vecI [],vecI []]
def netR (g:Int)(ns:List NodeP):AVal:=.agg [.lit (.int .i64 g),nodesV ns,vecI (cardsL ns),vecB (setsL ns),vecI (natsI ((topo (setsL ns)).getD []))]
structure RdS (g:Int)(ns:List NodeP)(H H':AHeap)(c:List Int)(s:List Nat):Prop where
 nx:H.next+5<=H'.next
 ov:Over H H'
 b0:H'.get H.next=some (.arr 0 66 [.lit (.int .i64 g),.vec ns.length (nodesC ns)])
 b1:H'.get (H.next+1)=some (.arr 0 146 [.lit (.int .i64 0),.lit (.slice none 0 0),.lit (.slice none 0 0),.lit (.slice none 0 0),.lit (.slice none 0 0)])
 b2:H'.get (H.next+2)=some (.arr 0 3 (ints c))
 b3:H'.get (H.next+3)=some (.arr 0 31 (s.map bitV))
 b4:H'.get (H.next+4)=some (.arr 0 146 [.lit (.int .i64 g),.vec ns.length (nodesC ns),.own (H.next+2) 0 0 ns.length 1,.own (H.next+3) 0 0 ns.length 1,.lit (.slice none 0 0)])
 cl:c.length=ns.length
 sl:s.length=ns.length
theorem RdS.over {g:Int}{ns:List NodeP}{H H' H2:AHeap}{c:List Int}{s:List Nat}(h:RdS g ns H H' c s)(o:Over H' H2):RdS g ns H H2 c s where
 nx:=Nat.le_trans h.nx o.next
 ov:=h.ov.trans o
 b0:=(o.old _ (by have:=h.nx;omega)).trans h.b0
 b1:=(o.old _ (by have:=h.nx;omega)).trans h.b1
 b2:=(o.old _ (by have:=h.nx;omega)).trans h.b2
 b3:=(o.old _ (by have:=h.nx;omega)).trans h.b3
 b4:=(o.old _ (by have:=h.nx;omega)).trans h.b4
 cl:=h.cl
 sl:=h.sl
theorem RdS.setC {g:Int}{ns:List NodeP}{H H':AHeap}{c:List Int}{s:List Nat}(h:RdS g ns H H' c s){k:Nat}(hk:k<c.length)(x:Int):RdS g ns H (H'.upd (H.next+2) (.arr 0 3 (setAt (ints c) k [.lit (.int .i64 x)]))) (c.set k x) s where
 nx:=h.nx
 ov:=h.ov.upd (by omega) _
 b0:=by rw[upd_get,if_neg (by omega)];exact h.b0
 b1:=by rw[upd_get,if_neg (by omega)];exact h.b1
 b2:=by rw[upd_get,if_pos rfl,setAt_ints hk]
 b3:=by rw[upd_get,if_neg (by omega)];exact h.b3
 b4:=by rw[upd_get,if_neg (by omega)];exact h.b4
 cl:=by simpa using h.cl
 sl:=h.sl
theorem setAt_bits {l:List Nat}{i:Nat}{x:Nat}(h:i<l.length):setAt (l.map bitV) i [.lit (.int .u64 (x:Int))]=(l.set i x).map bitV:=by
 rw[setAt_one (by simpa using h)]
 simp [bitV]
theorem RdS.setS {g:Int}{ns:List NodeP}{H H':AHeap}{c:List Int}{s:List Nat}(h:RdS g ns H H' c s){k:Nat}(hk:k<s.length)(x:Nat):RdS g ns H (H'.upd (H.next+3) (.arr 0 31 (setAt (s.map bitV) k [.lit (.int .u64 (x:Int))]))) c (s.set k x) where
 nx:=h.nx
 ov:=h.ov.upd (by omega) _
 b0:=by rw[upd_get,if_neg (by omega)];exact h.b0
 b1:=by rw[upd_get,if_neg (by omega)];exact h.b1
 b2:=by rw[upd_get,if_neg (by omega)];exact h.b2
 b3:=by rw[upd_get,if_pos rfl,setAt_bits hk]
 b4:=by rw[upd_get,if_neg (by omega)];exact h.b4
 cl:=h.cl
 sl:=by simpa using h.sl
theorem RdS.l0 {g:Int}{ns:List NodeP}{H H':AHeap}{c:List Int}{s:List Nat}(h:RdS g ns H H' c s):H'.live H.next 0=some (66,[.lit (.int .i64 g),.vec ns.length (nodesC ns)]):=get_live h.b0
theorem RdS.l1 {g:Int}{ns:List NodeP}{H H':AHeap}{c:List Int}{s:List Nat}(h:RdS g ns H H' c s):H'.live (H.next+1) 0=some (146,[.lit (.int .i64 0),.lit (.slice none 0 0),.lit (.slice none 0 0),.lit (.slice none 0 0),.lit (.slice none 0 0)]):=get_live h.b1
theorem RdS.l2 {g:Int}{ns:List NodeP}{H H':AHeap}{c:List Int}{s:List Nat}(h:RdS g ns H H' c s):H'.live (H.next+2) 0=some (3,ints c):=get_live h.b2
theorem RdS.l3 {g:Int}{ns:List NodeP}{H H':AHeap}{c:List Int}{s:List Nat}(h:RdS g ns H H' c s):H'.live (H.next+3) 0=some (31,s.map bitV):=get_live h.b3
theorem RdS.l4 {g:Int}{ns:List NodeP}{H H':AHeap}{c:List Int}{s:List Nat}(h:RdS g ns H H' c s):H'.live (H.next+4) 0=some (146,[.lit (.int .i64 g),.vec ns.length (nodesC ns),.own (H.next+2) 0 0 ns.length 1,.own (H.next+3) 0 0 ns.length 1,.lit (.slice none 0 0)]):=get_live h.b4
theorem fz_nodes {S:Nat->Prop}{H:AHeap}{nx:Nat}(ns:List NodeP):Fz S H nx (.vec ns.length (nodesC ns)) (.vec ns.length (nodesC ns)):=by
 refine .vec rfl fun i hi _=>?_
 have:∀ (l:List NodeP) (c:AVal),c∈nodesC l->Fz S H nx c c:=by
  intro l c hc
  unfold nodesC at hc
  obtain⟨r,hr,hc⟩:=List.mem_flatten.1 hc
  obtain⟨x,_,rfl⟩:=List.mem_map.1 hr
  unfold NodeP.cells at hc
  simp only[List.mem_cons,List.not_mem_nil,or_false]at hc
  rcases hc with rfl|rfl|rfl
  ·exact .lit _
  ·exact .keepInts _
  ·exact .vecV _
 exact this ns _ (List.getElem_mem _)
theorem filledN_frame (g:Int)(hg:1<=g/\g<=60)(ns:List NodeP)(sets:List Nat)(x:NodeP)(hin:InRange x.parents ns.length)(hsm:SmallC (parC ns x))(hx1:(x.rows.length:Int)<2 ^ 38)(hx2:∀ r∈x.rows,(r.length:Int)<2 ^ 38)(H:AHeap)(ci si:Nat)
  (h2:H.get ci=some (.arr 0 3 (ints (cardsL ns)))) (h3:H.get si=some (.arr 0 31 (sets.map bitV))) (hs:sets.length=ns.length) (K:ARes->AHeap->Prop)
  (hK:K (.ret (.lit (.bool (nodeB g ns x)))) H):ACall Try.prog G0 89 [.agg [.lit (.int .i64 g),.vec ns.length (nodesC ns),.own ci 0 0 ns.length 1,.own si 0 0 ns.length 1,.lit (.slice none 0 0)],.agg [.lit (.int .i64 x.card),.vec x.parents.length (ints x.parents),vecV x.rows]] H K:=by
 refine(ACall.frame (H:=H) (args:=[.agg [.lit (.int .i64 g),.vec ns.length (nodesC ns),.own ci 0 0 ns.length 1,.own si 0 0 ns.length 1,.lit (.slice none 0 0)],.agg [.lit (.int .i64 x.card),.vec x.parents.length (ints x.parents),vecV x.rows]]) (args':=[.agg [.lit (.int .i64 g),nodesV ns,vecI (cardsL ns),vecB sets,.lit (.slice none 0 0)],nodeV x]) (v':=.lit (.bool (nodeB g ns x))) G0_ok rfl (fun i hi _=>?_) (filledN_spec g hg ns sets x hin hsm hx1 hx2 noH _ ⟨_,rfl,.lit _⟩)).mono ?_
 ·match i,hi with
  | 0,_ =>
   refine .agg rfl fun i hi _=>?_
   match i,hi with
   | 0,_=>exact .lit _
   | 1,_=>exact fz_nodes _
   | 2,_ =>
    have:=Fz.ownRead (nx:=0) h2 (n:=ns.length) (by rw[ints_length,cards_len]) (fun c hc=>by
     obtain⟨z,_,rfl⟩:=List.mem_map.1 hc
     exact⟨_,rfl⟩)
    show Fz _ _ _ _ (.vec (cardsL ns).length (ints (cardsL ns)))
    rw[cards_len];exact this
   | 3,_ =>
    have:=Fz.ownRead (nx:=0) h3 (n:=ns.length) (by simp [hs]) (fun c hc=>by
     obtain⟨z,_,rfl⟩:=List.mem_map.1 hc
     exact⟨_,rfl⟩)
    show Fz _ _ _ _ (.vec sets.length (sets.map bitV))
    rw[hs];exact this
   | 4,_=>exact .lit _
  | 1,_ =>
   refine .agg rfl fun i hi _=>?_
   match i,hi with
   | 0,_=>exact .lit _
   | 1,_=>exact .keepInts _
   | 2,_=>exact .vecV _
 ·rintro r H' ⟨rfl,rfl⟩
  exact hK
theorem not_acyc_self {ns:List NodeP}{k:Nat}{x:NodeP}(hx:ns[k]?=some x)(h0:∀ q∈x.parents,0<=q)(hm:(k:Int)∈x.parents):¬ AcycB (setsL ns):=fun h=>by
 have hk:=get_lt (setsL_get hx)
 have:=h k hk
 rw[getD_of_get (setsL_get hx)]at this
 have h1:=upN_ge (setsL ns) (setsL ns).length (setN x.parents) k (by rw[setN_bit h0];exact decide_eq_true hm)
 unfold upL at this
 rw[h1]at this;cases this
set_option maxHeartbeats 4000000 in
theorem read_spec (g:Int)(ns:List NodeP)(hf:NetFit ns)(H:AHeap)(K:ARes->AHeap->Prop)(hK:K (.ret (if netB g ns then .tup [netR g ns,lin 0] else .tup [netZv,lin 50])) H):ACall Try.prog G0 86 [netV g ns] H K:=by
 refine ACall.clo ⟨_,Try.func86,rfl,rfl⟩ fun hcl=>?_
 have no:¬ NetOk g ns->∀ H',Over H H'->FinV Try.prog G0 H K (.tup [.agg [.lit (.int .i64 0),.lit (.slice none 0 0),.lit (.slice none 0 0),.lit (.slice none 0 0),.lit (.slice none 0 0)],.lit (.int .i64 50)]) H':=fun h H' ov=>by
  rw[netB_false h]at hK
  refine FinV.dropO (v':=.tup [netZv,lin 50]) G0_ok hcl ov (.tup rfl fun i hi _=>?_) hK
  match i,hi with
  | 0,_ =>
   refine .agg rfl fun i hi _=>?_
   match i,hi with
   | 0,_=>exact .lit _
   | 1,_=>exact .nil
   | 2,_=>exact .nil
   | 3,_=>exact .nil
   | 4,_=>exact .nil
  | 1,_=>exact .lit _
 refine ACall.of_body (n:=140) (rs:=[.cell 2 146,.tmp 3]) Try.func86 rfl rfl rfl (by decide) (by kernel_rfl) (by simp) ?_
 simp only[go_sem,netV,nodesV]
 have l1:=get_live (get_ext0 H (.arr 0 66 [.lit (.int .i64 g),.vec ns.length (nodesC ns)]) [.arr 0 146 [.lit (.int .i64 0),.lit (.slice none 0 0),.lit (.slice none 0 0),.lit (.slice none 0 0),.lit (.slice none 0 0)]])
 by_cases c1:g<1
 ·simp only[go_sem,c1]
  exact no (fun h=>by have:=h.g1;omega) _ (.ext _ _)
 by_cases c2:g > 60
 ·simp only[go_sem,l1,c1,c2]
  exact no (fun h=>by have:=h.g1;omega) _ (.ext _ _)
 by_cases c3:(ns.length:Int)<1
 ·simp only[go_sem,l1,c1,c2,c3]
  exact no (fun h=>by have:=h.n1;omega) _ (.ext _ _)
 by_cases c4:(ns.length:Int) > 8
 ·simp only[go_sem,l1,c1,c2,c3,c4]
  exact no (fun h=>by have:=h.n1;omega) _ (.ext _ _)
 simp only[go_sem,l1,c1,c2,c3,c4]
 refine W.draw 11 [0,0,2,6,14,0,32,96,224,511,0] Try.mixed (by kernel_rfl) (by kernel_rfl) ?_
 simp only[go_sem,l1]
 repeat (refine And.intro (by first|omega|(simp;done)|(simp;omega)|(intros;omega)|exact⟨rfl,by omega,by omega,all_one_ints _⟩) ?_)
 obtain⟨Hb,hHb⟩:∃ Hb,Hb=ext (ext H [.arr 0 66 [.lit (.int .i64 g),.vec ns.length (nodesC ns)],.arr 0 146 [.lit (.int .i64 0),.lit (.slice none 0 0),.lit (.slice none 0 0),.lit (.slice none 0 0),.lit (.slice none 0 0)],.arr 0 3 (List.replicate ns.length (.lit (.int .i64 0))),.arr 0 31 (List.replicate ns.length (.lit (.int .u64 0)))]) [.arr 0 146 [.lit (.int .i64 g),.vec ns.length (nodesC ns),.own (H.next+2) 0 0 ns.length 1,.own (H.next+3) 0 0 ns.length 1,.lit (.slice none 0 0)]]:=⟨_,rfl⟩
 rw[<- hHb]
 have R0:RdS g ns H Hb (List.replicate ns.length 0) (List.replicate ns.length 0):=by
  rw[hHb,ext_ext]
  exact⟨by simp [ext_next],.ext _ _,get_ext0 ..,get_ext H _ 1 (by simp),by rw[get_ext H _ 2 (by simp)];simp [ints,lin],by rw[get_ext H _ 3 (by simp)];simp [bitV],get_ext H _ 4 (by simp),by simp,by simp⟩
 have hcard:∀ {k:Nat},(∀ x∈ns.take k,1<=x.card/\x.card<=4)->SmallC ((cardsL ns).take k):=fun {k} h=>smallC_of (by simp [cardsL];omega) fun c hc=>by
  rw[show (cardsL ns).take k=cardsL (ns.take k) by simp [cardsL]]at hc
  obtain⟨y,hy,rfl⟩:=List.mem_map.1 hc
  exact h y hy
 refine W.loop0 37778930737057254867176 (by rfl) (fun ρ H'=>∃ (k:Nat) (c:List Int),ρ 50=lin k/\k<=ns.length/\ρ 5=lin (prodL ((cardsL ns).take k))/\RdS g ns H H' c (List.replicate ns.length 0)/\Hb.next<=H'.next/\c.take k=(cardsL ns).take k/\∀ x∈ns.take k,1<=x.card/\x.card<=4) (fun ρ H=>ns.length - (iv (ρ 50)).toNat) ?_ ?_
 ·simp only[go_sem]
  exact⟨0,_,rfl,by omega,by simp [prodL_nil],R0,by simp⟩
 rintro ρ H' ⟨k,c,h50,hk,h5,R,hn,hc,hall⟩
 refine vc_sound _ _ _ (by rfl) ?_
 have q0:=R.l0
 have q1:=R.l1
 have q2:=R.l2
 have q4:=R.l4
 have rn:=R.nx
 by_cases hb:(k:Int)<ns.length
 ·obtain⟨x,hx⟩:=get_of_lt (l:=ns) (i:=k) (by omega)
  have hxm:=List.mem_of_getElem? hx
  have hne:=nodesC_ne hx
  have e0:=nodesC_part hx
  have e1:k*3+3<=(nodesC ns).length:=by rw[nodesC_len];omega
  have R2:=R.over (.ext H' [.arr 0 56 [.lit (.int .i64 x.card),.vec x.parents.length (ints x.parents),vecV x.rows]])
  have p1:=R2.l1
  have p2:=R2.l2
  have p4:=R2.l4
  have nb1:¬ H.next+1=H'.next:=by omega
  have nb2:¬ H.next+2=H'.next:=by omega
  have nb4:¬ H.next+4=H'.next:=by omega
  by_cases d1:x.card<1
  ·simp only[go_sem,h50,p1,hb,hne,e0,e1,d1]
   exact no (fun h=>by have:=(h.node x hxm).1;omega) _ (R2.ov.upd (by omega) _)
  by_cases d2:x.card > 4
  ·simp only[go_sem,h50,p1,hb,hne,e0,e1,d1,d2]
   exact no (fun h=>by have:=(h.node x hxm).1;omega) _ (R2.ov.upd (by omega) _)
  have hall':∀ y∈ns.take (k+1),1<=y.card/\y.card<=4:=fun y hy=>by
   rw[take_succ_get hx]at hy
   rcases List.mem_append.1 hy with hy|hy
   ·exact hall y hy
   ·obtain rfl:=List.mem_singleton.1 hy;exact⟨by omega,by omega⟩
  have b2:=(hcard hall').prod
  rw[take_succ_get (cards_get hx),prodL_snoc]at b2
  have w1:=IntWalk.i64_in ((k:Int)+1) (by omega)
  have w2:=IntWalk.i64_in (prodL ((cardsL ns).take k)*x.card) (by omega)
  have hkc:k<c.length:=by rw[R.cl];omega
  have p0:∀ b,((ext H' [.arr 0 56 [.lit (.int .i64 x.card),.vec x.parents.length (ints x.parents),vecV x.rows]]).upd (H.next+2) b).live H'.next 0=some (56,[.lit (.int .i64 x.card),.vec x.parents.length (ints x.parents),vecV x.rows]):=fun b=>by
   rw[live_upd_other (by omega)];exact get_live ext1_get_new
  simp only[go_sem,h50,h5,p2,p4,p0,hb,hne,e0,e1,d1,d2,w1,w2]
  exact⟨by omega,by rw[upd_next,ext_next];omega,⟨k+1,_,by simp,by omega,by rw[take_succ_get (cards_get hx),prodL_snoc],R2.setC hkc x.card,by rw[upd_next,ext_next];omega,take_set_eq hc hkc (cards_get hx),fun y hy=>hall' y hy⟩,by omega⟩
 have ek:k=ns.length:=by omega
 subst ek
 rw[List.take_of_length_le (Nat.le_refl _)]at hall
 rw[List.take_of_length_le (by rw[cards_len];omega)]at h5
 have ec:c=cardsL ns:=by
  rw[List.take_of_length_le (by rw[R.cl];omega),List.take_of_length_le (by rw[cards_len];omega)]at hc
  exact hc
 subst ec
 by_cases c5:prodL (cardsL ns) > 1024
 ·simp only[go_sem,h50,h5,q1,hb,c5]
  exact no (fun h=>by have:=h.size;omega) _ (R.ov.upd (by omega) _)
 simp only[go_sem,h50,h5,q4,hb,c5]
 refine W.loop0 340282366920933627760096148915069392648 (by rfl) (fun ρ' H2=>∃ (k:Nat) (s:List Nat),ρ' 82=lin k/\k<=ns.length/\RdS g ns H H2 (cardsL ns) s/\H'.next<=H2.next/\s.take k=(setsL ns).take k/\(∀ j,k<=j->s.getD j 0=0)/\∀ x∈ns.take k,PlacesOk x.parents ns.length/\NodeOk g ns x) (fun ρ' H=>ns.length - (iv (ρ' 82)).toNat) ?_ ?_
 ·simp only[go_sem]
  refine⟨0,_,rfl,by omega,R,rfl,fun j _=>?_,by simp⟩
  rw[List.getD_eq_getElem?_getD,List.getElem?_replicate];split<;>rfl
 rintro ρ' H2 ⟨k,s,h82,hk2,R2,hn2,hs,hs0,hall2⟩
 refine vc_sound _ _ _ (by rfl) ?_
 have r2:=R2.nx
 have q4:=R2.l4
 by_cases hb2:(k:Int)<ns.length
 rotate_left
 ·have es:s=setsL ns:=by
   rw[List.take_of_length_le (by rw[R2.sl];omega),List.take_of_length_le (by simp [setsL];omega)]at hs
   exact hs
  subst es
  rw[List.take_of_length_le (by omega)]at hall2
  have hlt:∀ p∈setsL ns,p<2 ^ ns.length:=setsL_lt fun x hx q hq=>(hall2 x hx).1.2 q hq
  have hsl:(setsL ns).length=ns.length:=by simp [setsL]
  have hlt64:∀ p∈setsL ns,p<2 ^ 64:=fun p hp=>Nat.lt_of_lt_of_le (hlt p hp) (Nat.pow_le_pow_right (by decide) (by omega))
  have hto:=topo_iff (ps:=setsL ns) (by rw[hsl];exact hlt) (by omega)
  simp only[go_sem,h82,q4,hb2]
  have fzs:=Fz.ownRead (nx:=0) R2.b3 (n:=ns.length) (by simp [R2.sl]) (fun c hc=>by
   obtain⟨z,_,rfl⟩:=List.mem_map.1 hc
   exact⟨_,rfl⟩)
  refine AApply.clo (sorted_frame (setsL ns) (by omega) hlt64 _ _ (by show Fz _ _ _ _ (.vec (setsL ns).length _);rw[hsl];exact fzs) _ ⟨trivial,?_⟩)
  have q1:=R2.l1
  cases hso:(topo (setsL ns)).isSome
  ·simp only[go_sem,q1]
   exact no (fun h=>by rw[hto.2 h.acyc]at hso;cases hso) _ (R2.ov.upd (by omega) _)
  have hok:NetOk g ns:=⟨by omega,by omega,fun x hx=>⟨hall x hx,(hall2 x hx).1⟩,by omega,hto.1 hso,fun x hx=>(hall2 x hx).2⟩
  rw[netB_true hok]at hK
  have q1b:∀ b,(H2.upd (H.next+4) b).live (H.next+1) 0=_:=fun b=>(live_upd_other (by omega)).trans q1
  simp only[go_sem,q1b,q4]
  have ovf:Over H ((H2.upd (H.next+4) (.arr 0 146 [.lit (.int .i64 g),.vec ns.length (nodesC ns),.own (H.next+2) 0 0 ns.length 1,.own (H.next+3) 0 0 ns.length 1,.vec (natsI ((topo (setsL ns)).getD [])).length (ints (natsI ((topo (setsL ns)).getD [])))])).upd (H.next+1) (.arr 0 146 [.lit (.int .i64 g),.vec ns.length (nodesC ns),.own (H.next+2) 0 0 ns.length 1,.own (H.next+3) 0 0 ns.length 1,.vec (natsI ((topo (setsL ns)).getD [])).length (ints (natsI ((topo (setsL ns)).getD [])))])):=(R2.ov.upd (by omega) _).upd (by omega) _
  refine FinV.dropO (v':=.tup [netR g ns,lin 0]) G0_ok hcl ovf (.tup rfl fun i hi _=>?_) hK
  match i,hi with
  | 1,_=>exact .lit _
  | 0,_ =>
   refine .agg rfl fun i hi _=>?_
   match i,hi with
   | 0,_=>exact .lit _
   | 1,_=>exact fz_nodes _
   | 2,_ =>
    have hg2:∀ b b',((H2.upd (H.next+4) b).upd (H.next+1) b').get (H.next+2)=some (.arr 0 3 (ints (cardsL ns))):=fun b b'=>by rw[upd_get,if_neg (by omega),upd_get,if_neg (by omega)];exact R2.b2
    show Fz _ _ _ (.own (H.next+2) 0 0 ns.length 1) (.vec (cardsL ns).length (ints (cardsL ns)))
    rw[<- cards_len ns]
    exact .ints (by show H.next<=_;omega) (hg2 _ _) (by simp) fun i hi=>by simp [ints_get,hi]
   | 3,_ =>
    have hg3:∀ b b',((H2.upd (H.next+4) b).upd (H.next+1) b').get (H.next+3)=some (.arr 0 31 ((setsL ns).map bitV)):=fun b b'=>by rw[upd_get,if_neg (by omega),upd_get,if_neg (by omega)];exact R2.b3
    show Fz _ _ _ (.own (H.next+3) 0 0 ns.length 1) (.vec (setsL ns).length ((setsL ns).map bitV))
    rw[<- hsl]
    refine .frz (by show H.next<=_;omega) (hg3 _ _) (by simp) fun j hj h2 h'=>?_
    simp only[Nat.zero_add,List.getElem_map]
    exact .lit _
   | 4,_=>exact .keepInts _
 obtain⟨x,hx⟩:=get_of_lt (l:=ns) (i:=k) (by omega)
 have hxm:=List.mem_of_getElem? hx
 have hne:=nodesC_ne hx
 have e0:=nodesC_part hx
 have e1:k*3+3<=(nodesC ns).length:=by rw[nodesC_len];omega
 obtain⟨f1,f2,f3⟩:=hf.2 x hxm
 simp only[go_sem,h82,hb2,hne,e0,e1]
 obtain⟨H3,hH3⟩:∃ H3,H3=ext H2 [.arr 0 56 [.lit (.int .i64 x.card),.vec x.parents.length (ints x.parents),vecV x.rows]]:=⟨_,rfl⟩
 have R3:RdS g ns H H3 (cardsL ns) s:=by rw[hH3];exact R2.over (.ext _ _)
 have nn:H3.next=H2.next+1:=by rw[hH3];rfl
 have gN:H3.get H2.next=some (.arr 0 56 [.lit (.int .i64 x.card),.vec x.parents.length (ints x.parents),vecV x.rows]):=by rw[hH3];exact ext1_get_new
 rw[<- hH3]
 have hks:k<s.length:=by rw[R2.sl];omega
 have s0:s.set k 0=s:=by
  apply List.ext_getElem?
  intro i
  rw[List.getElem?_set]
  split
  ·rename_i h
   subst h
   have:=hs0 k (Nat.le_refl _)
   rw[List.getD_eq_getElem?_getD,List.getElem?_eq_getElem hks]at this
   simp only[Option.getD_some]at this
   rw[List.getElem?_eq_getElem hks,this]
  ·rfl
 refine W.loop0 5316911981901723452329847966222259208 (by rfl) (fun ρ2 H4=>∃ (j:Nat) (b:Int),ρ2 90=lin j/\j<=x.parents.length/\ρ2 10=lin b/\PlacesOk (x.parents.take j) ns.length/\(x.parents.take j).getLast?.getD (-1)=b/\RdS g ns H H4 (cardsL ns) (s.set k (setN (x.parents.take j)))/\H3.next<=H4.next/\H4.get H2.next=some (.arr 0 56 [.lit (.int .i64 x.card),.vec x.parents.length (ints x.parents),vecV x.rows])/\¬ (k:Int)∈x.parents.take j)
  (fun ρ2 H=>x.parents.length - (iv (ρ2 90)).toNat) ?_ ?_
 ·simp only[go_sem]
  exact⟨0,-1,rfl,by omega,rfl,.nil,rfl,by rw[show setN (x.parents.take 0)=0 from rfl,s0];exact R3,gN,by simp⟩
 rintro ρ2 H4 ⟨j,b,h90,hj,h10,hp,hbl,R4,hn4,gN4,hself⟩
 refine vc_sound _ _ _ (by rfl) ?_
 have r4:=R4.nx
 have t1:=R4.l1
 have t3:=R4.l3
 have t4:=R4.l4
 have tN:=get_live gN4
 by_cases hb3:(j:Int)<x.parents.length
 ·obtain⟨a,ha⟩:=get_of_lt (l:=x.parents) (i:=j) (by omega)
  have ham:=List.mem_of_getElem? ha
  have hane:=ne_of_get ha
  by_cases d1:a<=b
  ·simp only[go_sem,h90,h10,hb3,ha,hane,d1,t1]
   refine no (fun h=>?_) _ (R4.ov.upd (by omega) _)
   have hpl:=(h.node x hxm).2
   have h0:=hpl.2 a ham
   rcases Nat.eq_zero_or_pos j with rfl|hk0
   ·simp at hbl;omega
   ·obtain⟨i,rfl⟩:∃ i,j=i+1:=⟨j - 1,by omega⟩
    obtain⟨b',hbj⟩:=get_of_lt (l:=x.parents) (i:=i) (by omega)
    rw[last_take hbj]at hbl
    have:=hpl.lt hbj ha (by omega)
    simp at hbl;omega
  by_cases d2:a >= ns.length
  ·simp only[go_sem,h90,h10,hb3,ha,hane,d1,d2,t1,t4]
   exact no (fun h=>by have:=(h.node x hxm).2.2 a ham;omega) _ (R4.ov.upd (by omega) _)
  have h0:0<=a:=by
   rcases hg:(x.parents.take j).getLast? with _|b'
   ·rw[hg]at hbl;simp at hbl;omega
   ·rw[hg]at hbl
    have:=hp.2 b' (List.mem_of_getLast? hg)
    simp at hbl;omega
  by_cases d3:a=k
  ·have d1':¬ (k:Int)<=b:=by omega
   have d2':¬ (k:Int) >= ns.length:=by omega
   simp only[go_sem,h90,h10,hb3,ha,hane,d1',d2',d3,t1,t4]
   exact no (fun h=>not_acyc_self hx (fun q hq=>((h.node x hxm).2.2 q hq).1) (by rw[<- d3];exact ham) h.acyc) _ (R4.ov.upd (id:=H.next+1) (by omega) _)
  obtain⟨u,rfl⟩:=Int.eq_ofNat_of_zero_le h0
  have w1:=IntWalk.i64_in ((j:Int)+1) (by omega)
  have bm:setN (x.parents.take j)<2 ^ 64:=setN_lt fun p hp'=>by have:=hp.2 p hp';omega
  have v1:=fun t x y=>shlB (P:=Try.prog) (t:=t) (x:=x) (y:=y) (k':=.i64) (s:=u) (by omega)
  have v2:=fun t x y=>orB (P:=Try.prog) (t:=t) (x:=x) (y:=y) (b:=2 ^ u) bm (Nat.pow_lt_pow_right (by decide) (by omega))
  have gs:(s.set k (setN (x.parents.take j)))[k]?=some (setN (x.parents.take j)):=List.getElem?_set_self hks
  simp only[go_sem,h90,h10,hb3,ha,hane,d1,d2,d3,t4]
  refine W.draw 7 [0,1,0,7,15,0,32] Try.mixed (by kernel_rfl) (by kernel_rfl) ?_
  simp only[go_sem,h90,hb2,t3,t4,gs,v1,v2,w1]
  repeat (refine And.intro (by first|omega|(simp;done)|(simp;omega)|(intros;omega)|exact⟨rfl,by omega,by omega,all_one_ints _⟩) ?_)
  have R5:=R4.setS (k:=k) (by simpa using hks) (setN (x.parents.take j) ||| 2 ^ u)
  rw[List.set_set]at R5
  have esn:setN (x.parents.take (j+1))=setN (x.parents.take j) ||| 2 ^ u:=by rw[take_succ_get ha,setN_snoc];rfl
  refine⟨by rw[upd_next];omega,⟨j+1,u,by simp,by omega,rfl,?_,by rw[last_take ha];rfl,by rw[esn];exact R5,by rw[upd_next];omega,by rw[upd_get,if_neg (by omega)];exact gN4,fun hm=>?_⟩,by omega⟩
  ·rw[take_succ_get ha]
   exact hp.snoc ⟨by omega,by omega⟩ fun b' hb'=>by rw[hb']at hbl;simp at hbl;omega
  ·rw[take_succ_get ha]at hm
   rcases List.mem_append.1 hm with hm|hm
   ·exact hself hm
   ·exact d3 (List.mem_singleton.1 hm).symm
 ·have hb3':=hb3
  rw[List.take_of_length_le (by omega)]at hp hself R4
  simp only[go_sem,h90,hb3,t4,tN]
  have hin:InRange x.parents ns.length:=fun q hq=>by have:=hp.2 q hq;omega
  refine AApply.clo (filledN_frame g ⟨by omega,by omega⟩ ns _ x hin (parC_small (by omega) hp hall) f2 f3 _ (H.next+2) (H.next+3) R4.b2 R4.b3 R4.sl _ ⟨trivial,?_⟩)
  cases hnb:nodeB g ns x
  ·simp only[go_sem,t1]
   exact no (fun h=>by rw[nodeB_true (h.rows x hxm)]at hnb;cases hnb) _ (R4.ov.upd (by omega) _)
  have w1:=IntWalk.i64_in ((k:Int)+1) (by omega)
  simp only[go_sem,h82,w1]
  refine⟨by omega,⟨k+1,_,by simp,by omega,R4,by omega,?_,fun i hi=>?_,fun y hy=>?_⟩,by omega⟩
  ·have h1:=setsL_get hx
   rw[take_succ_get h1,take_succ_get (List.getElem?_set_self hks),List.take_set_of_le (Nat.le_refl k),hs]
  ·rw[List.getD_eq_getElem?_getD,List.getElem?_set_ne (by omega),<- List.getD_eq_getElem?_getD]
   exact hs0 i (by omega)
  ·rw[take_succ_get hx]at hy
   rcases List.mem_append.1 hy with hy|hy
   ·exact hall2 y hy
   ·obtain rfl:=List.mem_singleton.1 hy;exact⟨hp,nodeB_iff.1 hnb⟩
theorem netCheck_spec (g:Int)(ns:List NodeP)(hf:NetFit ns)(H:AHeap)(K:ARes->AHeap->Prop)(hK:K (.ret (lin (if netB g ns then 0 else 50))) H):ACall Try.prog G0 74 [netV g ns] H K:=by
 refine ACall.clo ⟨_,Try.func74,rfl,rfl⟩ fun hcl=>?_
 refine ACall.of_body (n:=11) (rs:=[.tmp 2]) Try.func74 rfl rfl rfl (by decide) (by kernel_rfl) (by simp) ?_
 simp only[go_sem,netV,nodesV]
 refine AApply.clo (read_spec g ns hf _ _ ⟨trivial,?_⟩)
 cases hb:netB g ns
 ·rw[hb]at hK
  simp only[go_sem,netZv,List.length_nil]
  exact FinV.dropO G0_ok hcl (.ext _ _) (.lit _) hK
 ·rw[hb]at hK
  simp only[go_sem,netR,nodesV]
  exact FinV.dropO G0_ok hcl (.ext _ _) (.lit _) hK
end Go.Proofs
/-
  Diagrams: their decisions, and what fills them. Plain: no program stands in this text. No conditions.
-/
namespace Go.Proofs
open Go.Hx
def decK (D v:Nat):List Nat := (List.range v).filter fun v => D.testBit v
def placeD (D v:Nat):Nat := (decK D v).length
def decL (d:InfP):List Nat := decK d.decs d.nodes.length
theorem decK_succ (D v:Nat):decK D (v + 1) = if D.testBit v then decK D v ++ [v] else decK D v := by
  unfold decK; rw[List.range_succ, List.filter_append]
  cases h:D.testBit v <;> simp [h]
theorem decK_mono {D v:Nat}:∀ {n:Nat}, v <= n -> ∃ r, decK D n = decK D v ++ r := by
  intro n
  induction n with
  | zero => intro h; obtain rfl : v = 0 := by omega
            exact⟨[], by simp⟩
  | succ n ih =>
    intro h
    by_cases hv:v = n + 1
    · subst hv; exact⟨[], by simp⟩
    · obtain⟨r, hr⟩ := ih (by omega)
      rw[decK_succ]
      split
      · exact⟨r ++ [n], by rw[hr, List.append_assoc]⟩
      · exact⟨r, hr⟩
theorem decK_get {D v n:Nat}(hv:v < n)(hb:D.testBit v = true):(decK D n)[placeD D v]? = some v := by
  obtain⟨r, hr⟩ := decK_mono (D := D) (v := v + 1) (n := n) hv
  rw[hr, decK_succ, if_pos hb, List.append_assoc]
  unfold placeD
  simp
theorem placeD_succ (D v:Nat):placeD D (v + 1) = if D.testBit v then placeD D v + 1 else placeD D v := by
  unfold placeD; rw[decK_succ]; split <;> simp
theorem mem_decK {D v n:Nat}:v ∈ decK D n ↔ v < n /\ D.testBit v = true := by unfold decK; simp
theorem decK_place {D n k v:Nat}(h:(decK D n)[k]? = some v):v < n /\ D.testBit v = true /\ placeD D v = k := by
  have hm := mem_decK.1 (List.mem_of_getElem? h)
  refine⟨hm.1, hm.2, ?_⟩
  have h2 := decK_get hm.1 hm.2
  have hnd:(decK D n).Nodup := List.nodup_range.filter _
  have a := get_lt h
  have b := get_lt h2
  rw[List.getElem?_eq_getElem a]at h
  rw[List.getElem?_eq_getElem b]at h2
  have e:(decK D n)[placeD D v] = (decK D n)[k] := by rw[Option.some.inj h, Option.some.inj h2]
  exact(List.getElem_inj hnd).1 e
theorem decK_len {D n:Nat}:(decK D n).length <= n := by
  have := List.length_filter_le (fun v => D.testBit v) (List.range n)
  unfold decK; simpa using this
def unitRow (g card x:Int):List Int := (List.replicate card.toNat 0).set x.toNat g
def rowsN (ns:List NodeP)(x:NodeP):Nat := (prodL (parC ns x)).toNat
def decRows (g:Int)(ns:List NodeP)(c:Nat -> Nat -> Int)(p:Nat)(x:NodeP):List (List Int) := (List.range (rowsN ns x)).map fun r => unitRow g x.card (c p r)
def fillN (d:InfP)(c:Nat -> Nat -> Int)(k v:Nat)(x:NodeP):NodeP := if d.decs.testBit v = true /\ placeD d.decs v < k then { x with rows := x.rows ++ decRows d.grain d.nodes c (placeD d.decs v) x } else x
def fillK (d:InfP)(c:Nat -> Nat -> Int)(k:Nat):List NodeP := d.nodes.zipIdx.map fun p => fillN d c k p.2 p.1
def fillL (d:InfP)(c:Nat -> Nat -> Int):List NodeP := fillK d c (decL d).length
theorem fillK_len (d:InfP)(c:Nat -> Nat -> Int)(k:Nat):(fillK d c k).length = d.nodes.length := by simp [fillK]
theorem fillK_get {d:InfP}{c:Nat -> Nat -> Int}{k v:Nat}{x:NodeP}(h:d.nodes[v]? = some x):(fillK d c k)[v]? = some (fillN d c k v x) := by
  unfold fillK; rw[List.getElem?_map, List.getElem?_zipIdx, h]; simp
theorem fillK_zero (d:InfP)(c:Nat -> Nat -> Int):fillK d c 0 = d.nodes := by
  apply List.ext_getElem?
  intro v
  cases h:d.nodes[v]? with
  | none => rw[List.getElem?_eq_none]; rw[fillK_len]; exact List.getElem?_eq_none_iff.1 h
  | some x => rw[fillK_get h]; simp [fillN]
theorem fillK_succ {d:InfP}{c:Nat -> Nat -> Int}{k v:Nat}{x:NodeP}(hd:(decL d)[k]? = some v)(hx:d.nodes[v]? = some x):fillK d c (k + 1) = (fillK d c k).set v { x with rows := x.rows ++ decRows d.grain d.nodes c k x } := by
  obtain⟨h1, h2, h3⟩ := decK_place hd
  apply List.ext_getElem?
  intro u
  rw[List.getElem?_set]
  split
  · rename_i h
    subst h
    rw[fillK_get hx, if_pos (by rw[fillK_len]; exact h1)]
    unfold fillN
    rw[if_pos ⟨h2, by omega⟩, h3]
  · rename_i h
    cases hu:d.nodes[u]? with
    | none => rw[List.getElem?_eq_none (by rw[fillK_len]; exact List.getElem?_eq_none_iff.1 hu), List.getElem?_eq_none (by rw[fillK_len]; exact List.getElem?_eq_none_iff.1 hu)]
    | some y =>
      rw[fillK_get hu, fillK_get hu]
      unfold fillN
      by_cases hb:d.decs.testBit u = true
      · have : placeD d.decs u ≠ k := fun e => by
          have h4 := decK_get (get_lt hu) hb
          rw[e]at h4
          have h5:(decK d.decs d.nodes.length)[k]? = some v := hd
          rw[h4]at h5
          exact h (Option.some.inj h5).symm
        have e:(placeD d.decs u < k + 1) = (placeD d.decs u < k) := by apply propext; omega
        simp only[e]
      · simp [hb]
theorem fillK_card {d:InfP}{c:Nat -> Nat -> Int}{k:Nat}:cardsL (fillK d c k) = cardsL d.nodes := by
  apply List.ext_getElem?
  intro v
  unfold cardsL
  rw[List.getElem?_map, List.getElem?_map]
  cases h:d.nodes[v]? with
  | none => rw[List.getElem?_eq_none (by rw[fillK_len]; exact List.getElem?_eq_none_iff.1 h)]
  | some x =>
    rw[fillK_get h]
    simp only[Option.map_some, fillN]
    split <;> rfl
theorem fillN_card (d:InfP)(c:Nat -> Nat -> Int)(k v:Nat)(x:NodeP):(fillN d c k v x).card = x.card /\ (fillN d c k v x).parents = x.parents := by unfold fillN; split <;> exact⟨rfl, rfl⟩
end Go.Proofs
namespace Go.Proofs
open Go.Hx
def infC (d:InfP):List AVal:=[.lit (.int .i64 d.grain),.vec d.nodes.length (nodesC d.nodes),.lit (.int .u64 (d.decs:Int)),.vec d.utils.length (utilsC d.utils)]
theorem infV_eq (d:InfP):infV d=.agg (infC d):=rfl
def infB (d:InfP):Blk:=.arr 0 34 (infC d)
def decX (d:InfP):List (List AVal):=(decL d).zipIdx.map fun p=>[lin p.2,lin p.1]
theorem decX_get {d:InfP}{k:Nat}{x:List AVal}(h:(decX d)[k]?=some x):∃ v,(decL d)[k]?=some v/\x=[lin k,lin v]:=by
 unfold decX at h
 rw[List.getElem?_map,List.getElem?_zipIdx]at h
 cases hr:(decL d)[k]? with
 | none=>rw[hr]at h;simp at h
 | some r=>rw[hr]at h;simp at h;exact⟨r,rfl,h.symm⟩
theorem decX_of {d:InfP}{k v:Nat}(h:(decL d)[k]?=some v):(decX d)[k]?=some [lin k,lin v]:=by
 unfold decX;rw[List.getElem?_map,List.getElem?_zipIdx,h];simp
theorem decX_len (d:InfP):(decX d).length=(decL d).length:=by simp [decX]
theorem decX_two {d:InfP}:∀ x∈decX d,x.length=2:=fun x hx=>by
 obtain⟨k,hk⟩:=List.mem_iff_getElem?.1 hx
 obtain⟨v,_,rfl⟩:=decX_get hk
 rfl
theorem dec_it (d:InfP)(hl:(d.nodes.length:Int)<2 ^ 40)(hD:d.decs<2 ^ 64)(b:Nat):ItSpec Try.prog G0 77 [] [.ptr b 0 0] (decX d) (fun H=>H.get b=some (infB d)):=by
 intro idy J Stop H K hS hJ0 hY hK hSt
 have l0:=get_live (hS 0 H hJ0)
 show ACall _ _ _ ([.yld idy]++[.ptr b 0 0]) _ _
 refine ACall.of_body (n:=25) (rs:=[]) Try.func77 rfl rfl rfl (by decide) (by kernel_rfl) (by simp) ?_
 simp only[go_sem,l0,infC]
 refine W.loop0 33554200 (by rfl) (fun ρ H'=>∃ v:Nat,ρ 8=lin v/\v<=d.nodes.length/\ρ 3=lin (placeD d.decs v)/\J (placeD d.decs v) H'/\H.next<=H'.next) (fun ρ H=>d.nodes.length - (iv (ρ 8)).toNat) ?_ ?_
 ·simp only[go_sem]
  exact⟨0,rfl,by omega,rfl,hJ0⟩
 rintro ρ H' ⟨v,h8,hv,h3,hj,hn⟩
 refine vc_sound _ _ _ (by rfl) ?_
 by_cases hb:(v:Int)<d.nodes.length
 ·have l1:=get_live (hS _ _ hj)
  have s1:=fun t x y=>shrB (P:=Try.prog) (t:=t) (x:=x) (y:=y) (k':=.i64) (s:=v) hD
  have s2:=fun t x y=>bit1 (P:=Try.prog) (t:=t) (x:=x) (y:=y) (s:=v) hD
  have w1:=IntWalk.i64_in ((v:Int)+1) (by omega)
  have hp:placeD d.decs v<=v:=by
   have:(decK d.decs v).length<=v:=decK_len
   exact this
  have w2:=IntWalk.i64_in ((placeD d.decs v:Int)+1) (by omega)
  cases hbit:d.decs.testBit v
  ·simp only[go_sem,h8,h3,hb,l1,infC,s1,s2,hbit,w1]
   exact⟨hn,⟨v+1,by simp,by omega,by rw[placeD_succ,hbit];rfl,by rw[placeD_succ,hbit];exact hj,hn⟩,by omega⟩
  ·have hdx:(decX d)[placeD d.decs v]?=some [lin (placeD d.decs v),lin v]:=decX_of (decK_get (by omega) hbit)
   simp only[go_sem,h8,h3,hb,l1,infC,s1,s2,hbit]
   refine hY _ _ H' _ hdx hj hn (fun H2 hj2 hn2=>⟨trivial,?_⟩) (fun H2 hs2 hn2=>⟨trivial,?_⟩)
   ·simp only[go_sem,h8,h3,w1,w2]
    exact⟨by omega,⟨v+1,by simp,by omega,by rw[placeD_succ,hbit];simp,by rw[placeD_succ,hbit];exact hj2,by omega⟩,by omega⟩
   ·simp only[go_sem]
    exact FinV.mk (by omega) (hSt H2 hs2 (by omega))
 ·simp only[go_sem,h8,hb]
  have ek:v=d.nodes.length:=by omega
  subst ek
  exact FinV.mk (by omega) (hK H' (by rw[decX_len];exact hj) hn)
theorem dec_clo (d:InfP)(H:AHeap)(K:ARes->AHeap->Prop)(hK:K (.ret (.clo 77 [] [.ptr H.next 0 0])) (ext H [infB d])):
  ACall Try.prog G0 54 [infV d] H K:=by
 refine ACall.of_body (n:=4) (rs:=[.tmp 2]) Try.func54 rfl rfl rfl (by decide) (by kernel_rfl) (by simp) ?_
 simp only[go_sem,infV_eq,infC]
 exact FinV.mk (by simp [ext_next]) hK
theorem unitRow_ints {g card x:Int}(hc:0<=card)(h:0<=x/\x<card):setAt (ints (List.replicate card.toNat 0)) x.toNat [.lit (.int .i64 g)]=ints (unitRow g card x):=by
 rw[setAt_ints (by simp;omega)];rfl
theorem rowOf_spec (g card x:Int)(hc:card<=2 ^ 40)(h:0<=x/\x<card)(H:AHeap)(K:ARes->AHeap->Prop)(hK:K (.ret (vecI (unitRow g card x))) H):ACall Try.prog G0 80 [lin g,lin card,lin x] H K:=by
 refine ACall.clo ⟨_,Try.func80,rfl,rfl⟩ fun hcl=>?_
 obtain⟨n,rfl⟩:=Int.eq_ofNat_of_zero_le (show 0<=card by omega)
 obtain⟨k,rfl⟩:=Int.eq_ofNat_of_zero_le h.1
 have h0:((n:Int)) >= 0:=by omega
 have hk:(k:Int)<n:=h.2
 have hk2:k+1<=n:=by omega
 refine ACall.of_body (n:=15) (rs:=[.tmp 6]) Try.func80 rfl rfl rfl (by decide) (by kernel_rfl) (by simp) ?_
 simp only[go_sem,hk]
 repeat (refine And.intro (by first|omega|(simp;done)|(simp;omega)|(intros;omega)|exact⟨rfl,by omega,by omega,all_one_ints _⟩) ?_)
 have e:=unitRow_ints (g:=g) (card:=n) (x:=k) (by omega) h
 simp only[Int.toNat_natCast]at e
 rw[show (List.replicate n (AVal.lit (Value.int IntKind.i64 0)))=ints (List.replicate n 0) by simp [ints,lin],e]
 refine FinV.dropO G0_ok hcl (.ext _ _) ?_ hK
 exact .ints (Nat.le_refl _) (get_ext0 ..) (by simp [unitRow]) fun i hi=>by simp [ints_get,hi]
theorem chk1_spec (a b:AVal)(H:AHeap)(K:ARes->AHeap->Prop)(hK:K (.ret (lin 0)) H):ACall Try.prog G0 75 [a,b] H K:=by
 refine ACall.of_body (n:=5) (rs:=[.tmp 4]) Try.func75 rfl rfl rfl (by decide) (by kernel_rfl) (by simp) ?_
 simp only[go_sem]
 exact FinV.mk (Nat.le_refl _) hK
end Go.Proofs
namespace Go.Proofs
open Go.Hx
noncomputable def decB (p:Prop):Bool:=@decide p (Classical.propDecidable p)
theorem decB_true {p:Prop}(h:p):decB p=true:=@decide_eq_true _ (Classical.propDecidable _) h
theorem decB_false {p:Prop}(h:¬ p):decB p=false:=@decide_eq_false _ (Classical.propDecidable _) h
structure RightN (d:InfP):Prop where
 n1:1<=d.nodes.length/\d.nodes.length<=8
 decs:d.decs >>> d.nodes.length=0
 card:∀ x∈d.nodes,1<=x.card/\x.card<=4
 dec:∀ v x,d.nodes[v]?=some x->d.decs.testBit v=true->x.rows=[]/\PlacesOk x.parents d.nodes.length
structure InfFit (d:InfP):Prop where
 nodes:NetFit d.nodes
 decs:d.decs<2 ^ 64
 utils:(d.utils.length:Int)<2 ^ 38/\∀ u∈d.utils,(u.vars.length:Int)<2 ^ 38/\(u.w.length:Int)<2 ^ 38
set_option maxHeartbeats 2000000 in
theorem rightNodes_spec (d:InfP)(hf:InfFit d)(H:AHeap)(K:ARes->AHeap->Prop)(hK:K (.ret (.lit (.bool (decB (RightN d))))) H):ACall Try.prog G0 73 [infV d] H K:=by
 refine ACall.clo ⟨_,Try.func73,rfl,rfl⟩ fun hcl=>?_
 have hl:=hf.nodes.1
 have no:¬ RightN d->∀ H',Over H H'->FinV Try.prog G0 H K (.lit (.bool false)) H':=fun h H' ov=>FinV.dropO G0_ok hcl ov (.lit _) (by rw[decB_false h]at hK;exact hK)
 refine ACall.of_body (n:=67) (rs:=[.cell 2 4]) Try.func73 rfl rfl rfl (by decide) (by kernel_rfl) (by simp) ?_
 simp only[go_sem,infV_eq,infC]
 obtain⟨H1,hH1⟩:∃ H1,H1=ext H [.arr 0 34 (infC d),.arr 0 4 [.lit (.bool false)]]:=⟨_,rfl⟩
 have g1:H1.get H.next=some (.arr 0 34 (infC d)):=by rw[hH1];exact get_ext0 ..
 have g2:H1.get (H.next+1)=some (.arr 0 4 [.lit (.bool false)]):=by rw[hH1];exact get_ext H _ 1 (by simp)
 have l1:=get_live g1
 have l2:=get_live g2
 have n1:H1.next=H.next+2:=by rw[hH1];rfl
 have o1:Over H H1:=by rw[hH1];exact .ext _ _
 unfold infC at hH1 l1
 rw[<- hH1]
 have s1:=fun t x y=>shrB (P:=Try.prog) (t:=t) (x:=x) (y:=y) (k':=.i64) (s:=d.nodes.length) hf.decs
 by_cases c1:(d.nodes.length:Int)<1
 ·simp only[go_sem,l2,c1]
  exact no (fun h=>by have:=h.n1;omega) _ (o1.upd (by omega) _)
 by_cases c2:(d.nodes.length:Int) > 8
 ·simp only[go_sem,l1,l2,c1,c2]
  exact no (fun h=>by have:=h.n1;omega) _ (o1.upd (by omega) _)
 by_cases c3:d.decs >>> d.nodes.length=0
 rotate_left
 ·have c3':¬ ((d.decs >>> d.nodes.length:Nat):Int)=0:=by omega
  simp only[go_sem,l1,l2,c1,c2,c3',s1]
  exact no (fun h=>c3 h.decs) _ (o1.upd (by omega) _)
 have c3':((d.decs >>> d.nodes.length:Nat):Int)=0:=by omega
 simp only[go_sem,l1,c1,c2,c3',s1]
 refine W.loop0 4397509640208 (by rfl) (fun ρ H'=>∃ k:Nat,ρ 29=lin k/\k<=d.nodes.length/\Over H1 H'/\∀ x∈d.nodes.take k,1<=x.card/\x.card<=4) (fun ρ H=>d.nodes.length - (iv (ρ 29)).toNat) ?_ ?_
 ·simp only[go_sem]
  exact⟨0,rfl,by omega,.refl _,by simp⟩
 rintro ρ H' ⟨k,h29,hk,ov,hall⟩
 refine vc_sound _ _ _ (by rfl) ?_
 have ovn:=ov.next
 have m1:=(ov.live (g:=0) (by omega:H.next<H1.next)).trans l1
 have m2:=(ov.live (g:=0) (by omega:H.next+1<H1.next)).trans l2
 by_cases hb:(k:Int)<d.nodes.length
 ·obtain⟨x,hx⟩:=get_of_lt (l:=d.nodes) (i:=k) (by omega)
  have hxm:=List.mem_of_getElem? hx
  have hne:=nodesC_ne hx
  have e0:=nodesC_part hx
  have e1:k*3+3<=(nodesC d.nodes).length:=by rw[nodesC_len];omega
  have nb:¬ H.next+1=H'.next:=by omega
  have m3:∀ L,(ext H' L).live (H.next+1) 0=_:=fun L=>(ext_live_old (by omega)).trans m2
  by_cases d1:x.card<1
  ·simp only[go_sem,h29,m3,hb,hne,e0,e1,d1]
   exact no (fun h=>by have:=h.card x hxm;omega) _ (((o1.trans ov).trans (.ext _ _)).upd (by omega) _)
  by_cases d2:x.card > 4
  ·simp only[go_sem,h29,m3,hb,hne,e0,e1,d1,d2]
   exact no (fun h=>by have:=h.card x hxm;omega) _ (((o1.trans ov).trans (.ext _ _)).upd (by omega) _)
  have w1:=IntWalk.i64_in ((k:Int)+1) (by omega)
  simp only[go_sem,h29,hb,hne,e0,e1,d1,d2,w1]
  exact⟨by omega,⟨k+1,by simp,by omega,ov.trans (.ext _ _),fun y hy=>by
   rw[take_succ_get hx]at hy
   rcases List.mem_append.1 hy with hy|hy
   ·exact hall y hy
   ·obtain rfl:=List.mem_singleton.1 hy;exact⟨by omega,by omega⟩⟩,by omega⟩
 rw[List.take_of_length_le (by omega)]at hall
 simp only[go_sem,h29,hb,m1]
 refine AApply.clo (dec_clo d _ _ ⟨trivial,?_⟩)
 simp only[go_sem]
 obtain⟨H2,hH2⟩:∃ H2,H2=ext H' [infB d]:=⟨_,rfl⟩
 rw[<- hH2]
 have o2:Over H' H2:=by rw[hH2];exact .ext _ _
 have n2:H2.next=H'.next+1:=by rw[hH2];rfl
 have hbx:H2.get H'.next=some (infB d):=by rw[hH2];exact ext1_get_new
 refine W.env fun E hE=>?_
 have e1:E 1=.ptr H.next 0 0:=by rw[hE];simp only[go_sem]
 have e2:E 2=.ptr (H.next+1) 0 0:=by rw[hE];simp only[go_sem]
 have i1:=(o2.live (g:=0) (by omega:H.next<H'.next)).trans m1
 have i2:=(o2.old _ (by omega:H.next+1<H'.next)).trans ((ov.old _ (by omega)).trans g2)
 have o02:=(o1.trans ov).trans o2
 refine W.rangeIt (f:=77) (first:=[]) (cap:=[.ptr H'.next 0 0]) (by show E 43=_;rw[hE];rfl) (dec_it d (by omega) hf.decs H'.next)
  (fun k Hx=>Over H2 Hx/\∀ v x,v∈(decL d).take k->d.nodes[v]?=some x->x.rows=[]/\PlacesOk x.parents d.nodes.length) (fun c Hx=>c=.ret/\Over H Hx/\H2.next<=Hx.next/\Hx.get (H.next+1)=some (.arr 0 4 [.lit (.bool false)])/\¬ RightN d)
  (fun k Hx h=>by rw[h.1.old _ (by omega)];exact hbx) (fun k Hx b h=>⟨h.1.upd (Nat.le_refl _) b,h.2⟩) (fun c Hx b h=>⟨h.1,h.2.1.upd (by omega) b,h.2.2.1,by rw[upd_get,if_neg (by omega)];exact h.2.2.2.1,h.2.2.2.2⟩)
  (fun b=>⟨.ext _ _,by simp⟩) (by decide) decX_two (fun _ _ _=>trivial) (fun _ _ _=>trivial) (fun k y Hx B Bb hy hj hn hB hBb=>?_) (fun Hx hj hn=>?_) (fun Hx hs hn=>?_) (fun i Hx hs hn=>by cases hs.1)
 ·obtain⟨v,hv,rfl⟩:=decX_get hy
  obtain⟨v1,v2,v3⟩:=decK_place hv
  obtain⟨x,hx⟩:=get_of_lt (l:=d.nodes) (i:=v) v1
  refine vc_sound _ _ _ (by rfl) ?_
  simp only[go_sem,setPs,envN,asgIt,List.foldl_cons,List.foldl_nil,List.zip_cons_cons,List.zip_nil_right,hB]
  obtain⟨H3,hH3⟩:∃ H3,H3=Hx.upd H2.next Bb:=⟨_,rfl⟩
  rw[<- hH3]
  obtain⟨st,pd,n',en,ps',as',bo,hBe⟩:=hBb
  have o3:Over H2 H3:=by rw[hH3];exact hj.1.upd (Nat.le_refl _) Bb
  have o4:Over H H3:=o02.trans o3
  have n3:H3.next=Hx.next:=by rw[hH3];rfl
  have j1:=(o3.live (g:=0) (by omega:H.next<H2.next)).trans i1
  have j2:=get_live ((o3.old _ (by omega:H.next+1<H2.next)).trans i2)
  have jB:H3.get H2.next=some Bb:=by rw[hH3,upd_get,if_pos rfl]
  have hxm:=List.mem_of_getElem? hx
  obtain⟨f1,f2,f3⟩:=hf.nodes.2 x hxm
  have hne:=nodesC_ne hx
  have e1':=nodesC_1 hx
  have e2':=nodesC_2 hx
  have hvn:(v:Int)<d.nodes.length:=by omega
  have stop:¬ RightN d->(H3.upd (H.next+1) (Blk.arr 0 4 [.lit (.bool false)])).get H2.next=some Bb/\Hx.next<=(H3.upd (H.next+1) (Blk.arr 0 4 [.lit (.bool false)])).next/\Over H (H3.upd (H.next+1) (Blk.arr 0 4 [.lit (.bool false)])) /\
    H2.next<=(H3.upd (H.next+1) (Blk.arr 0 4 [.lit (.bool false)])).next/\(H3.upd (H.next+1) (Blk.arr 0 4 [.lit (.bool false)])).get (H.next+1)=some (.arr 0 4 [.lit (.bool false)])/\¬ RightN d:=fun h =>
   ⟨by rw[upd_get,if_neg (by omega)];exact jB,by rw[upd_next];omega,o4.upd (by omega) _,by rw[upd_next];omega,by rw[upd_get,if_pos rfl],h⟩
  refine vc_sound _ _ _ (by rfl) ?_
  simp only[go_sem]
  refine W.draw 18 [0,1,0,7,15,31,63,127,255,511,1023,511,4095,8191,16383,511,33279,98815] Try.mixed (by kernel_rfl) (by kernel_rfl) ?_
  by_cases c4:(x.rows.length:Int) > 0
  ·simp only[go_sem,envN,e1,e2,j1,j2,hvn,hne,e2',c4,vecV,bodyIt]
   exact stop fun h=>by have:=(h.dec v x hx v2).1;rw[this]at c4;simp at c4
  simp only[go_sem,envN,e1,j1,hvn,hne,e1',e2',c4,vecV]
  refine AApply.clo (increasing_spec x.parents d.nodes.length (by omega) _ _ ⟨⟨_,_,_,_,_,_,_,by rw[jB,hBe]⟩,?_⟩)
  by_cases c5:PlacesOk x.parents d.nodes.length
  rotate_left
  ·simp only[go_sem,envN,e2,j2,c5,bodyIt]
   exact stop fun h=>c5 (h.dec v x hx v2).2
  simp only[go_sem,envN,c5,bodyIt]
  refine⟨jB,by omega,o3,fun u y hu hy2=>?_⟩
  rw[take_succ_get hv]at hu
  rcases List.mem_append.1 hu with hu|hu
  ·exact hj.2 u y hu hy2
  ·obtain rfl:=List.mem_singleton.1 hu
   rw[hx]at hy2
   cases hy2
   exact⟨List.eq_nil_of_length_eq_zero (by omega),c5⟩
 ·have hok:RightN d:=⟨by omega,c3,hall,fun v x hx hb=>hj.2 v x (by
   rw[decX_len,List.take_length]
   exact mem_decK.2 ⟨get_lt hx,hb⟩) hx⟩
  rw[decB_true hok]at hK
  have j2:=get_live ((hj.1.old _ (by omega:H.next+1<H2.next)).trans i2)
  simp only[go_sem,e2,j2]
  exact FinV.dropO G0_ok hcl ((o02.trans hj.1).upd (by omega) _) (.lit _) hK
 ·obtain⟨_,o4,n4,g4,hno⟩:=hs
  have j2:=get_live g4
  simp only[go_sem,e2,j2]
  exact no hno _ o4
end Go.Proofs
namespace Go.Hx
variable {P:Program} {G:Nat->Option (List AVal)}
def AHeap.melt (H:AHeap)(rk ob:Nat)(b:Blk):AHeap:=⟨fun id=>if id=rk then none else if id=ob then some b else H.get id,H.next⟩
theorem fzH_melt {H:AHeap}(hc:Clo H){rk ob g:Nat}{e:TypeId}{cells cells':List AVal}(hob:H.get ob=some (.arr g e cells))(hne:ob≠rk)(hl:cells'.length=cells.length)
  (hcell:∀ i (h:i<cells.length) (h':i<cells'.length),Fz (fun id=>id=rk) H H.next cells[i] cells'[i]):FzH (fun id=>id=rk) H (H.melt rk ob (.arr g e cells')) where
 gone id hs:=by simp [AHeap.melt,hs]
 kept id b hs hb:=by
  have hbb:=hc.below id b hb
  refine⟨hc.lt id b hb,?_⟩
  by_cases h:id=ob
  ·subst h
   rw[hob]at hb
   cases hb
   exact⟨.arr g e cells',by simp [AHeap.melt,hs],rfl,rfl,hl,hcell⟩
  ·refine⟨b,by simp [AHeap.melt,hs,h,hb],?_⟩
   cases b with
   | rsv=>trivial
   | mp=>rfl
   | arr g e cells=>exact⟨rfl,rfl,rfl,fun i h _=>.dead (hbb i h)⟩
   | loop st pend n env ps asg body=>exact⟨rfl,rfl,rfl,rfl,rfl,rfl,rfl,fun t ht=>.dead (hbb t ht)⟩
 none id hs hb:=by
  by_cases h:id=ob
  ·subst h;rw[hob]at hb;cases hb
  ·simp [AHeap.melt,hs,h,hb]
theorem WeakS.melt (hG:GOk G){s:St}{rk ob g:Nat}{e:TypeId}{cells cells':List AVal}(hob:s.H.get ob=some (.arr g e cells))(hne:ob≠rk)(hl:cells'.length=cells.length)
  (hcell:∀ i (h:i<cells.length) (h':i<cells'.length),Fz (fun id=>id=rk) s.H s.H.next cells[i] cells'[i]):WeakS P G s ⟨s.ρ,s.H.melt rk ob (.arr g e cells')⟩:=by
 intro n wb Γ a w hs
 exact WeakS.freeze (s:=s) (s':=⟨s.ρ,s.H.melt rk ob (.arr g e cells')⟩) hG (fzH_melt hs.heap.clo hob hne hl hcell) (fun t=>.dead (hs.env t).belowN) n wb Γ a w hs
theorem fz_mid {S:Nat->Prop}{H:AHeap}{nx:Nat}{A B:List AVal}{o o':AVal}(hA:∀ v,v∈A->Fz S H nx v v)(ho:Fz S H nx o o')(hB:∀ v,v∈B->Fz S H nx v v):
  ∀ i (h:i<(A++o :: B).length) (h':i<(A++o' :: B).length),Fz S H nx (A++o :: B)[i] (A++o' :: B)[i]:=by
 induction A with
 | nil =>
  intro i h h'
  cases i with
  | zero=>exact ho
  | succ i=>exact hB _ (List.getElem_mem (l:=B) (by simpa using h))
 | cons a A ih =>
  intro i h h'
  cases i with
  | zero=>exact hA a (by simp)
  | succ i=>exact ih (fun v hv=>hA v (by simp [hv])) i (by simpa using h) (by simpa using h')
theorem setAt_mid {A B:List AVal}{o o':AVal}{i:Nat}(h:A.length=i):setAt (A++o :: B) i [o']=A++o' :: B:=by
 subst h;simp [setAt]
theorem melt_ob {H:AHeap}{rk ob:Nat}{b:Blk}(h:ob≠rk):(H.melt rk ob b).get ob=some b:=by simp [AHeap.melt,h]
theorem melt_other {H:AHeap}{rk ob id:Nat}{b:Blk}(h:id≠rk)(h2:id≠ob):(H.melt rk ob b).get id=H.get id:=by simp [AHeap.melt,h,h2]
theorem fz_set {S:Nat->Prop}{H:AHeap}{nx:Nat}{l:List AVal}{i:Nat}{a b:AVal}(hl:∀ v,v∈l->Fz S H nx v v)(hab:Fz S H nx a b):∀ j (h:j<(l.set i a).length) (h':j<(l.set i b).length),Fz S H nx (l.set i a)[j] (l.set i b)[j]:=by
 intro j h h'
 rw[List.getElem_set,List.getElem_set]
 split
 ·exact hab
 ·exact hl _ (List.getElem_mem _)
theorem W.postWeak {n:Nat}{rd:Option Nat}{Q Q':AX->St->Prop}{c:Code}{s:St}(h:W P G n rd c Q' s)(hw:∀ e s2,Q' e s2->∃ s3,WeakS P G s2 s3/\s2.H.next<=s3.H.next/\RdIn s3.H rd/\Q e s3):W P G n rd c Q s:=by
 intro wb Γ a w rb hs hr
 refine wpIn_mono (h wb Γ a w rb hs hr) fun e a' w' hp=>?_
 obtain⟨x,s',Γ',hx,hq,hrel,E,hn,hrd,hfr⟩:=hp
 obtain⟨s3,hw3,hn3,hri,hq3⟩:=hw x s' hq
 obtain⟨Γ3,hs3,E3,hrd3⟩:=hw3 n wb Γ' a' w' hrel
 exact⟨x,s3,Γ3,hx,hq3,hs3,E.trans hn E3,Nat.le_trans hn hn3,hrd3 rd rb hrd hri,hfr⟩
theorem OwnG.ne {lo:Nat}{H:AHeap}{e:TypeId}{v:AVal}{cs:List AVal}(h:OwnG lo H e v cs){k:Nat}(hk:k<lo):∀ g n,v≠.own k g 0 n 1:=fun g n he=>by
 rcases h with ⟨h,_⟩|⟨i2,g2,a1,_,h,_⟩
 ·rw[h]at he;cases he
 ·rw[h]at he;have:=AVal.own.inj he;omega
def OwnZ (lo:Nat)(H:AHeap)(e:TypeId)(z:Nat)(v:AVal)(n:Nat)(cs:List AVal):Prop :=
 (v=.lit (.slice none 0 0)/\n=0/\cs=[])\/∃ id g,lo<=id/\id<H.next/\v=.own id g 0 n z/\cs.length=n*z/\H.get id=some (.arr g e cs)
theorem OwnZ.nil {lo:Nat}{H:AHeap}{e:TypeId}{z:Nat}:OwnZ lo H e z (.lit (.slice none 0 0)) 0 []:=.inl ⟨rfl,rfl,rfl⟩
theorem OwnZ.keep {lo:Nat}{H H':AHeap}{e:TypeId}{z n:Nat}{v:AVal}{cs:List AVal}(h:OwnZ lo H e z v n cs)(hn:H.next<=H'.next)(hk:∀ id g,lo<=id->id<H.next->v=.own id g 0 n z->H'.get id=H.get id):OwnZ lo H' e z v n cs:=by
 rcases h with h|⟨id,g,h1,h2,h3,h4,h5⟩
 ·exact .inl h
 ·exact .inr ⟨id,g,h1,by omega,h3,h4,(hk id g h1 h2 h3).trans h5⟩
theorem OwnZ.over {lo:Nat}{H H':AHeap}{e:TypeId}{z n:Nat}{v:AVal}{cs:List AVal}(h:OwnZ lo H e z v n cs)(ho:Over H H'):OwnZ lo H' e z v n cs:=h.keep ho.next fun id _ _ h2 _=>ho.old id h2
theorem OwnZ.one {lo:Nat}{H:AHeap}{e:TypeId}{z n:Nat}{v:AVal}{cs:List AVal}(h:OwnZ lo H e z v n cs):v.one=true:=by
 rcases h with ⟨rfl,_⟩|⟨_,_,_,_,rfl,_⟩<;>rfl
theorem OwnZ.cells {lo:Nat}{H:AHeap}{e:TypeId}{z n:Nat}{v:AVal}{cs:List AVal}(h:OwnZ lo H e z v n cs):v.cells=[v]:=by
 rcases h with ⟨rfl,_⟩|⟨_,_,_,_,rfl,_⟩<;>rfl
theorem OwnZ.ne {lo:Nat}{H:AHeap}{e:TypeId}{z m:Nat}{v:AVal}{cs:List AVal}(h:OwnZ lo H e z v m cs){k:Nat}(hk:k<lo):∀ g n,v≠.own k g 0 n z:=fun g n he=>by
 rcases h with ⟨h,_⟩|⟨i2,g2,a1,_,h,_⟩
 ·rw[h]at he;cases he
 ·rw[h]at he;have:=AVal.own.inj he;omega
theorem app_oneZ {H:AHeap}{t e:TypeId}{lo n z m:Nat}{v:AVal}{cs xs:List AVal}{zs:List AVal}(ht:P.underlying t=some (.slice e))(hz:P.cellsOf e=z)(hzero:zeroA P e=some zs)(hx:xs.all AVal.one=true)(hxl:xs.length=z)
  (hb:(n+1)*P.bytesOf e<=2 ^ 46/\n+1<=2 ^ 46) (ho:OwnZ lo H e z v n cs) (hlo:lo<=H.next) (hn:m=H.next+1):
  ∃ v' H',appendA P (ext H [.arr 0 e xs]) m t t v (.own H.next 0 0 1 z)=some (v',H')/\OwnZ lo H' e z v' (n+1) (cs++xs)/\H.next<=H'.next/\(∀ k,k<H.next->(∀ g n,v≠.own k g 0 n z)->H'.get k=H.get k):=by
 have hne:(ext H [.arr 0 e xs]).next=H.next+1:=rfl
 have hsrc:sourceA (ext H [.arr 0 e xs]) z (.own H.next 0 0 1 z)=some (1,xs):=by
  unfold sourceA
  have:=get_live (H:=ext H [.arr 0 e xs]) (g:=0) (ext1_get_new (b:=.arr 0 e xs))
  simp [this,<- hxl]
 rcases ho with ⟨rfl,rfl,rfl⟩|⟨i,g,h1,h2,rfl,h4,h5⟩
 ·refine⟨.own m 0 0 1 z,ext (ext H [.arr 0 e xs]) [.arr 0 e xs],?_,.inr ⟨m,0,by omega,by rw[ext_next,hne,hn];simp,by simp,by simp [hxl],?_⟩,by rw[ext_next,hne];omega,fun k hk _=>?_⟩
  ·unfold appendA;rw[ht]
   simp only[hzero,hz,Option.bind_some]
   rw[hsrc]
   simp only[Option.bind_some]
   rw[if_neg (by decide),if_pos (by simpa using hb),lay_at (by rw[hn,hne])]
   rfl
  ·rw[hn,<- hne];exact ext1_get_new
  ·rw[ext1_get_old (by rw[hne];omega),ext1_get_old hk]
 ·have h5':(ext H [.arr 0 e xs]).get i=some (.arr g e cs):=by rw[ext1_get_old h2];exact h5
  refine⟨.own i (g+1) 0 (n+1) z,(ext H [.arr 0 e xs]).upd i (.arr (g+1) e (cs++xs)),?_,.inr ⟨i,g+1,h1,by rw[upd_next,hne];omega,rfl,by simp [h4,hxl,Nat.add_mul],by rw[upd_get,if_pos rfl]⟩,by rw[upd_next,hne];omega,fun k hk hne2=>?_⟩
  ·unfold appendA;rw[ht]
   have hl:=get_live h5'
   simp only[hzero,hz,Option.bind_some]
   rw[hsrc]
   simp only[Option.bind_some,hl]
   rw[if_pos ⟨trivial,trivial,by omega,hb.1,hb.2,hx⟩]
   simp
  ·rw[upd_get,if_neg,ext1_get_old hk]
   rintro rfl;exact hne2 _ _ rfl
end Go.Hx
namespace Go.Proofs
open Go.Hx
def rowsE (x:NodeP):AVal:=if x.rows=[] then .lit (.slice none 0 0) else vecV x.rows
def NodeP.cellsE (x:NodeP):List AVal:=[lin x.card,vecI x.parents,rowsE x]
def nodesE (l:List NodeP):List AVal:=(l.map NodeP.cellsE).flatten
theorem nodesE_len (l:List NodeP):(nodesE l).length=l.length*3:=flat_len (f:=NodeP.cellsE) (fun _=>rfl) l
theorem nodesE_0 {l:List NodeP}{i:Nat}{x:NodeP}(h:l[i]?=some x):(nodesE l)[i*3]?=some (lin x.card):=flat_get (f:=NodeP.cellsE) (z:=3) (fun _=>rfl) l i 0 x h (by omega)
theorem nodesE_1 {l:List NodeP}{i:Nat}{x:NodeP}(h:l[i]?=some x):(nodesE l)[i*3+1]?=some (vecI x.parents):=flat_get (f:=NodeP.cellsE) (z:=3) (fun _=>rfl) l i 1 x h (by omega)
theorem nodesE_2 {l:List NodeP}{i:Nat}{x:NodeP}(h:l[i]?=some x):(nodesE l)[i*3+2]?=some (rowsE x):=flat_get (f:=NodeP.cellsE) (z:=3) (fun _=>rfl) l i 2 x h (by omega)
theorem nodesE_part {l:List NodeP}{i:Nat}{x:NodeP}(h:l[i]?=some x):((nodesE l).drop (i*3)).take 3=[lin x.card,vecI x.parents,rowsE x]:=flat_part (f:=NodeP.cellsE) (z:=3) (fun _=>rfl) l i x h
theorem nodesE_snoc (l:List NodeP)(x:NodeP):nodesE (l++[x])=nodesE l++[lin x.card,vecI x.parents,rowsE x]:=by unfold nodesE;simp [NodeP.cellsE]
theorem nodesE_ne {l:List NodeP}{i:Nat}{x:NodeP}(h:l[i]?=some x):¬ nodesE l=[]:=fun e=>by
 have:=nodesE_0 h;rw[e]at this;simp at this
theorem vecV_eq (l:List (List Int)):vecV l=.vec l.length (l.map vecI):=rfl
theorem rowsE_nil {x:NodeP}(h:x.rows=[]):rowsE x=.lit (.slice none 0 0):=if_pos h
theorem rowsE_ne {x:NodeP}(h:x.rows≠[]):rowsE x=vecV x.rows:=if_neg h
theorem nodesE_set {l:List NodeP}{i:Nat}{x y:NodeP}(h:l[i]?=some x)(hy:y.card=x.card/\y.parents=x.parents):nodesE (l.set i y)=setAt (nodesE l) (i*3+2) [rowsE y]:=by
 have hi:=get_lt h
 have hl:=nodesE_len l
 rw[setAt_one (by omega)]
 apply List.ext_getElem?
 intro p
 rw[List.getElem?_set]
 have hp:p=(p / 3)*3+p % 3:=by omega
 by_cases hb:p / 3<l.length
 ·by_cases hpi:p / 3=i
  ·have e0:(l.set i y)[p / 3]?=some y:=by rw[hpi,List.getElem?_set_self hi]
   have c3:p % 3=0\/p % 3=1\/p % 3=2:=by omega
   rcases c3 with c|c|c
   ·rw[if_neg (by omega),hp,c,Nat.add_zero,nodesE_0 e0,nodesE_0 (by rw[hpi];exact h),hy.1]
   ·rw[if_neg (by omega),hp,c,nodesE_1 e0,nodesE_1 (by rw[hpi];exact h),hy.2]
   ·rw[if_pos (by omega),if_pos (by omega),hp,c,nodesE_2 e0]
  ·obtain⟨z,hz⟩:=get_of_lt hb
   have e0:(l.set i y)[p / 3]?=some z:=by rw[List.getElem?_set_ne (by omega)];exact hz
   have c3:p % 3=0\/p % 3=1\/p % 3=2:=by omega
   rcases c3 with c|c|c
   ·rw[if_neg (by omega),hp,c,Nat.add_zero,nodesE_0 e0,nodesE_0 hz]
   ·rw[if_neg (by omega),hp,c,nodesE_1 e0,nodesE_1 hz]
   ·rw[if_neg (by omega),hp,c,nodesE_2 e0,nodesE_2 hz]
 ·rw[List.getElem?_eq_none (by rw[nodesE_len,List.length_set];omega),if_neg (by omega),List.getElem?_eq_none (by omega)]
theorem fz_rowsE {S:Nat->Prop}{H:AHeap}{nx:Nat}(x:NodeP):Fz S H nx (rowsE x) (vecV x.rows):=by
 unfold rowsE
 split
 ·rename_i h;rw[h];exact .nil
 ·exact .vecV _
theorem fz_rowsE' {S:Nat->Prop}{H:AHeap}{nx:Nat}(x:NodeP):Fz S H nx (rowsE x) (rowsE x):=by
 unfold rowsE
 split
 ·exact .lit _
 ·exact .vecV _
theorem fz_nodesE {S:Nat->Prop}{H:AHeap}{nx:Nat}:∀ (l:List NodeP) (i:Nat) (h:i<(nodesE l).length) (h':i<(nodesC l).length),Fz S H nx (nodesE l)[i] (nodesC l)[i]:=by
 intro l i h h'
 have hb:i / 3<l.length:=by rw[nodesE_len]at h;omega
 obtain⟨x,hx⟩:=get_of_lt hb
 have hp:i=(i / 3)*3+i % 3:=by omega
 have g1:(nodesE l)[i]?=some (nodesE l)[i]:=List.getElem?_eq_getElem h
 have g2:(nodesC l)[i]?=some (nodesC l)[i]:=List.getElem?_eq_getElem h'
 generalize (nodesE l)[i]=a at g1 ⊢
 generalize (nodesC l)[i]=b at g2 ⊢
 have c3:i % 3=0\/i % 3=1\/i % 3=2:=by omega
 rcases c3 with c|c|c
 ·rw[hp,c,Nat.add_zero,nodesE_0 hx]at g1
  rw[hp,c,Nat.add_zero,nodesC_0 hx]at g2
  cases g1;cases g2;exact .lit _
 ·rw[hp,c,nodesE_1 hx]at g1
  rw[hp,c,nodesC_1 hx]at g2
  cases g1;cases g2;exact .keepInts _
 ·rw[hp,c,nodesE_2 hx]at g1
  rw[hp,c,nodesC_2 hx]at g2
  cases g1;cases g2;exact fz_rowsE x
theorem fz_nodesE' {S:Nat->Prop}{H:AHeap}{nx:Nat}(l:List NodeP):∀ c∈nodesE l,Fz S H nx c c:=by
 intro c hc
 unfold nodesE at hc
 obtain⟨r,hr,hc⟩:=List.mem_flatten.1 hc
 obtain⟨x,_,rfl⟩:=List.mem_map.1 hr
 unfold NodeP.cellsE at hc
 simp only[List.mem_cons,List.not_mem_nil,or_false]at hc
 rcases hc with rfl|rfl|rfl
 ·exact .lit _
 ·exact .keepInts _
 ·exact fz_rowsE' x
end Go.Proofs
namespace Go.Proofs
open Go.Hx
theorem set_get_self {α:Type}{l:List α}{i:Nat}{x:α}(h:l[i]?=some x):l.set i x=l:=by
 apply List.ext_getElem?
 intro j
 rw[List.getElem?_set]
 split
 ·rename_i hj;subst hj;rw[if_pos (get_lt h),h]
 ·rfl
structure FiS (d:InfP)(fv:AVal)(H H':AHeap)(nh:AVal)(n:Nat)(cs:List AVal):Prop where
 nx:H.next+4<=H'.next
 ov:Over H H'
 b0:H'.get H.next=some (.arr 0 34 [.lit (.int .i64 d.grain),.vec d.nodes.length (nodesC d.nodes),.lit (.int .u64 (d.decs:Int)),.vec d.utils.length (utilsC d.utils)])
 b1:H'.get (H.next+1)=some (.arr 0 92 [fv])
 b2:H'.get (H.next+2)=some (.arr 0 66 [.lit (.int .i64 0),.lit (.slice none 0 0)])
 b3:H'.get (H.next+3)=some (.arr 0 66 [.lit (.int .i64 d.grain),nh])
 nd:OwnZ (H.next+4) H' 56 3 nh n cs
theorem FiS.over {d:InfP}{fv:AVal}{H H' H2:AHeap}{nh:AVal}{n:Nat}{cs:List AVal}(h:FiS d fv H H' nh n cs)(o:Over H' H2):FiS d fv H H2 nh n cs where
 nx:=Nat.le_trans h.nx o.next
 ov:=h.ov.trans o
 b0:=(o.old _ (by have:=h.nx;omega)).trans h.b0
 b1:=(o.old _ (by have:=h.nx;omega)).trans h.b1
 b2:=(o.old _ (by have:=h.nx;omega)).trans h.b2
 b3:=(o.old _ (by have:=h.nx;omega)).trans h.b3
 nd:=h.nd.over o
theorem app_node {H H':AHeap}{v:AVal}{n:Nat}{cs xs:List AVal}(hx:xs.all AVal.one=true)(hxl:xs.length=3)(hn:n<2 ^ 38)(ho:OwnZ (H.next+4) H' 56 3 v n cs)(hlo:H.next+4<=H'.next):
  ∃ v' H2,appendA Try.prog (ext H' [.arr 0 56 xs]) (H'.next+1) 30 30 v (.own H'.next 0 0 1 3)=some (v',H2)/\OwnZ (H.next+4) H2 56 3 v' (n+1) (cs++xs)/\H'.next<=H2.next/\(∀ k,k<H'.next->(∀ g n,v≠.own k g 0 n 3)->H2.get k=H'.get k) :=
 app_oneZ Try.underlying30 Try.cells56 Try.zero56 hx hxl (by rw[Try.bytes56];omega) ho hlo rfl
theorem app_rowG {lo:Nat}{H':AHeap}{v:AVal}{l:List AVal}(x:AVal)(hx:x.one=true)(h:OwnG lo H' 52 v l)(hlo:lo<=H'.next)(hl:l.length<2 ^ 40):
  ∃ v' H2,appendA Try.prog (ext H' [.arr 0 52 [x]]) (H'.next+1) 36 36 v (.own H'.next 0 0 1 1)=some (v',H2)/\OwnG lo H2 52 v' (l++[x])/\H'.next<=H2.next/\(∀ k,k<H'.next->(∀ g n,v≠.own k g 0 n 1)->H2.get k=H'.get k) :=
 app_oneG (P:=Try.prog) (H:=H') (t:=36) (x:=x) (n:=H'.next+1) Try.underlying36 Try.cells52 Try.zero52 hx (by rw[Try.bytes52];omega) h hlo rfl
set_option maxHeartbeats 4000000 in
theorem filled_spec (d:InfP)(hf:InfFit d)(hR:RightN d)(c:Nat->Nat->Int)(fv:AVal)(rs:List Nat)(H:AHeap)(hrs:∀ i∈rs,i<H.next)(hfc:fv.cells=[fv])(hfo:fv.one=true)
  (hfv:∀ p r v x H1,(decL d)[p]?=some v->d.nodes[v]?=some x->r<rowsN d.nodes x->Over H H1->(0<=c p r/\c p r<x.card)/\PCall Try.prog G0 fv [.lit (.int .i64 p),.lit (.int .i64 r)] H1 (.lit (.int .i64 (c p r))) rs)
  (K:ARes->AHeap->Prop) (hK:K (.ret (netV d.grain (fillL d c))) H):ACall Try.prog G0 59 [infV d,fv] H K:=by
 refine ACall.clo ⟨_,Try.func59,rfl,rfl⟩ fun hcl=>?_
 have hl:=hf.nodes.1
 have hn8:=hR.n1.2
 refine ACall.of_body (n:=91) (rs:=[.cell 4 66]) Try.func59 rfl rfl rfl (by decide) (by kernel_rfl) (by simp) ?_
 simp only[go_sem,infV_eq,infC,hfc]
 obtain⟨Hb,hHb⟩:∃ Hb,Hb=ext H [.arr 0 34 [.lit (.int .i64 d.grain),.vec d.nodes.length (nodesC d.nodes),.lit (.int .u64 (d.decs:Int)),.vec d.utils.length (utilsC d.utils)],.arr 0 92 [fv],.arr 0 66 [.lit (.int .i64 0),.lit (.slice none 0 0)],.arr 0 66 [.lit (.int .i64 d.grain),.lit (.slice none 0 0)]]:=⟨_,rfl⟩
 rw[<- hHb]
 have R0:FiS d fv H Hb (.lit (.slice none 0 0)) 0 []:=by
  rw[hHb]
  exact⟨by simp [ext_next],.ext _ _,get_ext0 ..,get_ext H _ 1 (by simp),get_ext H _ 2 (by simp),get_ext H _ 3 (by simp),.nil⟩
 have nb:Hb.next=H.next+4:=by rw[hHb];rfl
 refine W.loop 4503599626323328 (by rfl) (fun ρ H'=>∃ (k:Nat) (nh:AVal),ρ 20=lin k/\k<=d.nodes.length/\FiS d fv H H' nh k (nodesE (d.nodes.take k))) (fun ρ H=>d.nodes.length - (iv (ρ 20)).toNat) ?_ ?_
 ·simp only[go_sem]
  exact⟨0,_,rfl,by omega,R0⟩
 rintro ρ H' ⟨k,nh,h20,hk,R⟩
 refine vc_sound _ _ _ (by rfl) ?_
 have rn:=R.nx
 have q0:=get_live R.b0
 have q3:=get_live R.b3
 by_cases hb:(k:Int)<d.nodes.length
 ·obtain⟨x,hx⟩:=get_of_lt (l:=d.nodes) (i:=k) (by omega)
  have hxm:=List.mem_of_getElem? hx
  obtain⟨f1,f2,f3⟩:=hf.nodes.2 x hxm
  have hne:=nodesC_ne hx
  have e0:=nodesC_part hx
  have e1:k*3+3<=(nodesC d.nodes).length:=by rw[nodesC_len];omega
  simp only[go_sem,h20,hb,hne,e0,e1]
  refine W.draw 7 [0,1,0,4,12,31,0] Try.mixed (by kernel_rfl) (by kernel_rfl) ?_
  simp only[go_sem]
  refine⟨vecI x.parents,[],PCall.pure fun H2=>clone_spec x.parents (by omega) H2 _ ⟨rfl,rfl⟩,?_⟩
  simp only[go_sem,vecV_eq]
  repeat (refine And.intro (by first|omega|(simp;done)|(simp;omega)|(intros;omega)|exact⟨rfl,by omega,by omega,all_one_ints _⟩) ?_)
  obtain⟨H1,hH1⟩:∃ H1,H1=ext (ext H' [.arr 0 56 [.lit (.int .i64 x.card),.vec x.parents.length (ints x.parents),.vec x.rows.length (x.rows.map vecI)]]) [.arr 0 56 [.lit (.int .i64 x.card),.vec x.parents.length (ints x.parents),.lit (.slice none 0 0)]]:=⟨_,rfl⟩
  have n1:H1.next=H'.next+2:=by rw[hH1];rfl
  have gA:H1.get H'.next=some (.arr 0 56 [.lit (.int .i64 x.card),.vec x.parents.length (ints x.parents),.vec x.rows.length (x.rows.map vecI)]):=by rw[hH1,ext1_get_old (by simp [ext_next])];exact ext1_get_new
  have gB:H1.get (H'.next+1)=some (.arr 0 56 [.lit (.int .i64 x.card),.vec x.parents.length (ints x.parents),.lit (.slice none 0 0)]):=by rw[hH1];exact ext1_get_new (H:=ext H' [_])
  have o1:Over H' H1:=by rw[hH1];exact(Over.ext _ _).trans (.ext _ _)
  have lA:=get_live gA
  rw[hH1]at lA
  simp only[go_sem,lA]
  rw[<- hH1]
  refine W.loop0 35175782155264 (by rfl) (fun ρ' H2=>∃ (j:Nat) (rh:AVal),ρ' 33=lin j/\j<=x.rows.length/\Over H' H2/\H1.next<=H2.next/\H2.get (H'.next+1)=some (.arr 0 56 [.lit (.int .i64 x.card),.vec x.parents.length (ints x.parents),rh])/\OwnG (H'.next+2) H2 52 rh ((x.rows.take j).map vecI)/\(j=0->rh=.lit (.slice none 0 0))) (fun ρ' H=>x.rows.length - (iv (ρ' 33)).toNat) ?_ ?_
  ·simp only[go_sem]
   exact⟨0,_,rfl,by omega,o1,gB,.nil,fun _=>rfl⟩
  rintro ρ' H2 ⟨j,rh,h33,hj,o2,hn2,gB2,hrh,hrh0⟩
  refine vc_sound _ _ _ (by rfl) ?_
  have o2n:=o2.next
  have lB:=get_live gB2
  by_cases hb2:(j:Int)<x.rows.length
  ·obtain⟨r,hr⟩:=get_of_lt (l:=x.rows) (i:=j) (by omega)
   have hrm:=List.mem_of_getElem? hr
   have hrne:=ne_of_get hr
   have w1:=IntWalk.i64_in ((j:Int)+1) (by omega)
   simp only[go_sem,h33,hb2,hr,hrne]
   obtain⟨rh2,H3,hA,hO,hn3,hp⟩:=app_rowG (vecI r) rfl hrh (by omega) (by simp;omega)
   simp only[vecI]at hA
   have hcells:=hO.cells
   have hone:=hO.one
   have g3:H3.get (H'.next+1)=some (.arr 0 56 [.lit (.int .i64 x.card),.vec x.parents.length (ints x.parents),rh]):=(hp _ (by omega) (hrh.ne (by omega))).trans gB2
   have l3:=get_live g3
   refine W.draw 5 [0,1,0,4,12] Try.mixed (by kernel_rfl) (by kernel_rfl) ?_
   simp only[go_sem,lB]
   refine⟨vecI r,[],PCall.pure fun H2=>clone_spec r (by have:=f3 r hrm;omega) H2 _ ⟨rfl,rfl⟩,?_⟩
   simp only[go_sem,h33,hA,l3,hcells,hone,w1]
   repeat (refine And.intro (by first|omega|(simp;done)|(simp;omega)|(intros;omega)|exact⟨rfl,by omega,by omega,all_one_ints _⟩) ?_)
   have o3:Over H' H3:=⟨by omega,fun id h=>(hp id (by omega) (hrh.ne (by omega))).trans (o2.old id h)⟩
   refine⟨by rw[upd_next];omega,⟨j+1,rh2,by simp,by omega,o3.upd (by omega) _,by rw[upd_next];omega,by rw[upd_get,if_pos rfl],?_,by omega⟩,by omega⟩
   have e:(x.rows.take (j+1)).map vecI=(x.rows.take j).map vecI++[vecI r]:=by rw[take_succ_get hr];simp
   rw[e]
   exact hO.keep (Nat.le_refl _) (by rw[upd_next];omega) fun id g h1 _ _ _=>by rw[upd_get,if_neg (by omega)]
  ·rw[List.take_of_length_le (by omega)]at hrh
   have R2:=R.over o2
   have q3b:=get_live R2.b3
   obtain⟨nh2,H3,hA,hO,hn3,hp⟩:=app_node (H:=H) (H':=H2) (v:=nh) (n:=k) (xs:=[.lit (.int .i64 x.card),.vec x.parents.length (ints x.parents),rh]) (by rw[List.all_cons,List.all_cons,List.all_cons,hrh.one];rfl) rfl (by omega) R2.nd (by have:=R2.nx;omega)
   have r2n:=R2.nx
   have fr:∀ id,id<H.next+4->H3.get id=H2.get id:=fun id h=>hp id (by omega) (R2.nd.ne h)
   have g3:H3.live (H.next+3) 0=some (66,[.lit (.int .i64 d.grain),nh]):=get_live ((fr _ (by omega)).trans R2.b3)
   have hcells:=hO.cells
   have hone:=hO.one
   have hrc:=hrh.cells
   have hro:=hrh.one
   have w1:=IntWalk.i64_in ((k:Int)+1) (by omega)
   simp only[go_sem,h20,h33,hb2,lB,q3b,hA,g3,hcells,hone,w1]
   obtain⟨H4,hH4⟩:∃ H4,H4=H3.upd (H.next+3) (.arr 0 66 [.lit (.int .i64 d.grain),nh2]):=⟨_,rfl⟩
   rw[<- hH4]
   refine(fun (h:∀ E:Env,E 20=lin ((k:Int)+1)->∃ s₃:St,WeakS Try.prog G0 ⟨E,H4⟩ s₃/\Hb.next<=s₃.H.next/\(∃ (k:Nat) (nh:AVal),s₃.ρ 20=lin k/\k<=d.nodes.length/\FiS d fv H s₃.H nh k (nodesE (d.nodes.take k)))/\d.nodes.length - (iv (s₃.ρ 20)).toNat<d.nodes.length - k)=>h _ (by simp only[go_sem])) fun E hE20=>?_
   have n4:H4.next=H3.next:=by rw[hH4];rfl
   obtain⟨nb2,gn,b1,b2,rfl,b4,b5⟩:∃ id g,H.next+4<=id/\id<H3.next/\nh2=.own id g 0 (k+1) 3/\(nodesE (d.nodes.take k)++[.lit (.int .i64 x.card),.vec x.parents.length (ints x.parents),rh]).length=(k+1)*3/\H3.get id=some (.arr g 56 (nodesE (d.nodes.take k)++[.lit (.int .i64 x.card),.vec x.parents.length (ints x.parents),rh])):=by
    rcases hO with ⟨_,h,_⟩|h
    ·omega
    ·exact h
   have c0:∀ id,id<H.next+3->H4.get id=H2.get id:=fun id h=>by rw[hH4,upd_get,if_neg (by omega)];exact fr id (by omega)
   have c3:H4.get (H.next+3)=some (.arr 0 66 [.lit (.int .i64 d.grain),.own nb2 gn 0 (k+1) 3]):=by rw[hH4,upd_get,if_pos rfl]
   have c5:H4.get nb2=some (.arr gn 56 (nodesE (d.nodes.take k)++[.lit (.int .i64 x.card),.vec x.parents.length (ints x.parents),rh])):=by rw[hH4,upd_get,if_neg (by omega)];exact b5
   have e5:nodesE (d.nodes.take (k+1))=nodesE (d.nodes.take k)++[lin x.card,vecI x.parents,rowsE x]:=by rw[take_succ_get hx,nodesE_snoc]
   by_cases hr0:x.rows=[]
   ·have hrn:rh=.lit (.slice none 0 0):=hrh0 (by rw[hr0]at hj;simpa using hj)
    subst hrn
    refine⟨⟨E,H4⟩,WeakS.refl _,by show Hb.next<=H4.next;omega,⟨k+1,.own nb2 gn 0 (k+1) 3,hE20.trans (by simp),by omega,⟨by show _<=H4.next;omega,⟨by have:=R2.ov.next;show _<=H4.next;omega,fun id h=>(c0 id (by omega)).trans (R2.ov.old id h)⟩,(c0 _ (by omega)).trans R2.b0,(c0 _ (by omega)).trans R2.b1,(c0 _ (by omega)).trans R2.b2,c3,.inr ⟨nb2,gn,b1,by show _<H4.next;omega,rfl,?_,?_⟩⟩⟩,?_⟩
    ·rw[nodesE_len];simp;omega
    ·show H4.get nb2=_
     rw[e5,rowsE_nil hr0];exact c5
    ·show _ - (iv (E 20)).toNat<_
     rw[hE20];simp only[lin,iv_int];omega
   ·obtain⟨rk,gr,r1,r2,rfl,r4⟩:∃ id g,H'.next+2<=id/\id<H2.next/\rh=.own id g 0 (x.rows.map vecI).length 1/\H2.get id=some (.arr g 52 (x.rows.map vecI)):=by
     rcases hrh with ⟨_,h⟩|h
     ·simp at h;exact absurd h hr0
     ·exact h
    have nhne:∀ g n,nh≠.own rk g 0 n 3:=fun g n he=>by
     rcases R.nd with ⟨h,_⟩|⟨i,g2,_,h,h2,_⟩
     ·rw[h]at he;cases he
     ·rw[h2]at he;have:=AVal.own.inj he;omega
    have c6:H4.get rk=some (.arr gr 52 (x.rows.map vecI)):=by rw[hH4,upd_get,if_neg (by omega),hp rk r2 nhne];exact r4
    have hne2:nb2≠rk:=by
     rintro rfl
     rw[c5]at c6
     have:=(Blk.arr.inj (Option.some.inj c6)).2.1
     exact absurd this (by decide)
    have e6:∀ c:AVal,nodesE (d.nodes.take k)++[.lit (.int .i64 x.card),.vec x.parents.length (ints x.parents),c]=(nodesE (d.nodes.take k)++[.lit (.int .i64 x.card),.vec x.parents.length (ints x.parents)])++c :: []:=fun c=>by simp
    rw[e6]at c5
    have e7:nodesE (d.nodes.take (k+1))=(nodesE (d.nodes.take k)++[.lit (.int .i64 x.card),.vec x.parents.length (ints x.parents)])++vecV x.rows :: []:=by rw[e5,rowsE_ne hr0,<- e6];rfl
    refine⟨⟨E,H4.melt rk nb2 (.arr gn 56 ((nodesE (d.nodes.take k)++[.lit (.int .i64 x.card),.vec x.parents.length (ints x.parents)])++vecV x.rows :: []))⟩,WeakS.melt (s:=⟨E,H4⟩) G0_ok c5 hne2 (by simp) (fz_mid (fun c hc=>?_) ?_ fun c hc=>by cases hc),by show Hb.next<=H4.next;omega,
     ⟨k+1,.own nb2 gn 0 (k+1) 3,hE20.trans (by simp),by omega,⟨by show _<=H4.next;omega,⟨by have:=R2.ov.next;show _<=H4.next;omega,fun id h=>(melt_other (by omega) (by omega)).trans ((c0 id (by omega)).trans (R2.ov.old id h))⟩,(melt_other (by omega) (by omega)).trans ((c0 _ (by omega)).trans R2.b0),(melt_other (by omega) (by omega)).trans ((c0 _ (by omega)).trans R2.b1),(melt_other (by omega) (by omega)).trans ((c0 _ (by omega)).trans R2.b2),(melt_other (by omega) (by omega)).trans c3,.inr ⟨nb2,gn,b1,by show _<H4.next;omega,rfl,?_,?_⟩⟩⟩,?_⟩
    ·rcases List.mem_append.1 hc with hc|hc
     ·exact fz_nodesE' _ c hc
     ·simp only[List.mem_cons,List.not_mem_nil,or_false]at hc
      rcases hc with rfl|rfl
      ·exact .lit _
      ·exact .keepInts _
    ·show Fz (fun id=>id=rk) H4 _ _ _
     rw[show vecV x.rows=.vec (x.rows.map vecI).length (x.rows.map vecI) by simp [vecV]]
     refine .frz (S:=fun id=>id=rk) rfl c6 (by rw[Nat.mul_one]) fun j hj h2 h'=>?_
     simp only[Nat.zero_add,List.getElem_map]
     exact .keepInts _
    ·rw[nodesE_len];simp;omega
    ·rw[e7];exact melt_ob hne2
    ·show _ - (iv (E 20)).toNat<_
     rw[hE20];simp only[lin,iv_int];omega
 have ek:k=d.nodes.length:=by omega
 subst ek
 rw[List.take_of_length_le (Nat.le_refl _)]at R
 obtain⟨nbk,gn,b1,b2,rfl,b4,b5⟩:∃ id g,H.next+4<=id/\id<H'.next/\nh=.own id g 0 d.nodes.length 3/\(nodesE d.nodes).length=d.nodes.length*3/\H'.get id=some (.arr g 56 (nodesE d.nodes)):=by
  rcases R.nd with ⟨_,h,_⟩|h
  ·have:=hR.n1.1;omega
  ·exact h
 simp only[go_sem,h20,hb,q0]
 refine AApply.clo (dec_clo d _ _ ⟨trivial,?_⟩)
 simp only[go_sem]
 obtain⟨H2,hH2⟩:∃ H2,H2=ext H' [infB d]:=⟨_,rfl⟩
 rw[<- hH2]
 have o2:Over H' H2:=by rw[hH2];exact .ext _ _
 have n2:H2.next=H'.next+1:=by rw[hH2];rfl
 have hbx:H2.get H'.next=some (infB d):=by rw[hH2];exact ext1_get_new
 refine W.env fun E hE=>?_
 have e2:E 2=.ptr H.next 0 0:=by rw[hE];simp only[go_sem]
 have e3:E 3=.ptr (H.next+1) 0 0:=by rw[hE];simp only[go_sem]
 have e4:E 4=.ptr (H.next+2) 0 0:=by rw[hE];simp only[go_sem]
 have e5:E 5=.ptr (H.next+3) 0 0:=by rw[hE];simp only[go_sem]
 let F:Nat->List AVal->AHeap->Prop:=fun lo cs Hx=>lo<=Hx.next/\(∀ id,id<H2.next->id≠nbk->Hx.get id=H2.get id)/\Hx.get nbk=some (.arr gn 56 cs)
 refine W.rangeIt (f:=77) (first:=[]) (cap:=[.ptr H'.next 0 0]) (by show E 53=_;rw[hE];rfl) (dec_it d (by omega) hf.decs H'.next)
  (fun k Hx=>F H2.next (nodesE (fillK d c k)) Hx) (fun _ _=>False)
  (fun k Hx h=>by rw[h.2.1 _ (by omega) (by omega)];exact hbx) (fun k Hx b h=>⟨h.1,fun id h1 h2=>by rw[upd_get,if_neg (by omega)];exact h.2.1 id h1 h2,by rw[upd_get,if_neg (by omega)];exact h.2.2⟩) (fun _ _ _ h=>h)
  (fun b=>⟨by rw[ext_next];omega,fun id h1 h2=>ext1_get_old h1,by rw[ext1_get_old (by omega),fillK_zero];exact(o2.old _ b2).trans b5⟩) (by decide) decX_two (fun _ _ _=>trivial) (fun _ _ _=>trivial) (fun k y Hx B Bb hy hj hn hB hBb=>?_) (fun Hx hj hn=>?_) (fun Hx hs hn=>hs.elim) (fun i Hx hs hn=>hs.elim)
 ·obtain⟨v,hv,rfl⟩:=decX_get hy
  obtain⟨v1,v2,v3⟩:=decK_place hv
  obtain⟨x,hx⟩:=get_of_lt (l:=d.nodes) (i:=v) v1
  have hxm:=List.mem_of_getElem? hx
  obtain⟨x1,x2⟩:=hR.dec v x hx v2
  refine vc_sound _ _ _ (by rfl) ?_
  simp only[go_sem,setPs,envN,asgIt,List.foldl_cons,List.foldl_nil,List.zip_cons_cons,List.zip_nil_right,hB]
  obtain⟨H3,hH3⟩:∃ H3,H3=Hx.upd H2.next Bb:=⟨_,rfl⟩
  rw[<- hH3]
  obtain⟨st,pd,n',en,ps',as',bo,hBe⟩:=hBb
  have n3:H3.next=Hx.next:=by rw[hH3];rfl
  have hj3:F H2.next (nodesE (fillK d c k)) H3:=by rw[hH3];exact⟨hj.1,fun id h1 h2=>by rw[upd_get,if_neg (by omega)];exact hj.2.1 id h1 h2,by rw[upd_get,if_neg (by omega)];exact hj.2.2⟩
  have jB:H3.get H2.next=some Bb:=by rw[hH3,upd_get,if_pos rfl]
  refine W.env fun E1 hE1=>?_
  have m2:E1 2=.ptr H.next 0 0:=by rw[hE1];simp only[go_sem,envN,e2]
  have m3:E1 3=.ptr (H.next+1) 0 0:=by rw[hE1];simp only[go_sem,envN,e3]
  have m5:E1 5=.ptr (H.next+3) 0 0:=by rw[hE1];simp only[go_sem,envN,e5]
  have m11:E1 11=lin k:=by rw[hE1];simp only[go_sem,envN]
  have m12:E1 12=lin v:=by rw[hE1];simp only[go_sem,envN]
  clear hE1
  have hvn:(v:Int)<d.nodes.length:=by omega
  have s2:=R.over o2
  have oldH:∀ {Hy:AHeap},(∀ id,id<H2.next->id≠nbk->Hy.get id=H2.get id)->Hy.live H.next 0=some (34,[.lit (.int .i64 d.grain),.vec d.nodes.length (nodesC d.nodes),.lit (.int .u64 (d.decs:Int)),.vec d.utils.length (utilsC d.utils)])/\Hy.live (H.next+1) 0=some (92,[fv])/\Hy.live (H.next+3) 0=some (66,[.lit (.int .i64 d.grain),.own nbk gn 0 d.nodes.length 3]):=fun h =>
   ⟨get_live ((h _ (by omega) (by omega)).trans s2.b0),get_live ((h _ (by omega) (by omega)).trans s2.b1),get_live ((h _ (by omega) (by omega)).trans s2.b3)⟩
  obtain⟨k0,k1,k3⟩:=oldH hj3.2.1
  have ps:=parC_small hn8 x2 hR.card
  have hpm:=parC_mem (ns:=d.nodes) (x:=x) (fun q hq=>by have:=x2.2 q hq;omega) hR.card
  have hpp:1<=prodL (parC d.nodes x):=prodL_pos fun c hc=>(hpm c hc).1
  have hpb:=ps.prod
  have hrn:((rowsN d.nodes x:Nat):Int)=prodL (parC d.nodes x):=by unfold rowsN;omega
  have hlk:(fillK d c k)[v]?=some x:=by rw[fillK_get hx];unfold fillN;rw[if_neg (by omega)]
  have el:=nodesE_len (fillK d c k)
  have hvk:v*3+2<(nodesE (fillK d c k)).length:=by rw[el,fillK_len];omega
  refine W.postWeak (Q':=fun e s2=>e=.normal/\∃ rh,F H3.next (setAt (nodesE (fillK d c k)) (v*3+2) [rh]) s2.H/\s2.H.get H2.next=some Bb/\OwnG H3.next s2.H 52 rh ((List.range (rowsN d.nodes x)).map fun r=>vecI (unitRow d.grain x.card (c k r)))) ?_ ?_
  rotate_left
  ·rintro e sx ⟨rfl,rh,hF,jBx,hrh⟩
   obtain⟨rk,gr,r1,r2,rfl,r4⟩:∃ id g,H3.next<=id/\id<sx.H.next/\rh=.own id g 0 ((List.range (rowsN d.nodes x)).map fun r=>vecI (unitRow d.grain x.card (c k r))).length 1/\sx.H.get id=some (.arr g 52 ((List.range (rowsN d.nodes x)).map fun r=>vecI (unitRow d.grain x.card (c k r)))):=by
    rcases hrh with ⟨_,h⟩|h
    ·have:rowsN d.nodes x=0:=by simpa using h
     omega
    ·exact h
   have hfs:=fillK_succ (c:=c) hv hx
   have edr:decRows d.grain d.nodes c k x=(List.range (rowsN d.nodes x)).map fun r=>unitRow d.grain x.card (c k r):=rfl
   have ey:rowsE { x with rows:=x.rows++decRows d.grain d.nodes c k x }=.vec ((List.range (rowsN d.nodes x)).map fun r=>vecI (unitRow d.grain x.card (c k r))).length ((List.range (rowsN d.nodes x)).map fun r=>vecI (unitRow d.grain x.card (c k r))):=by
    have hne:x.rows++decRows d.grain d.nodes c k x≠[]:=by
     rw[x1,edr,List.nil_append]
     intro h
     have:rowsN d.nodes x=0:=by simpa using h
     omega
    rw[rowsE_ne hne]
    show vecV (x.rows++_)=_
    rw[x1,edr,List.nil_append]
    simp [vecV,List.map_map,Function.comp_def]
   have hob:=hF.2.2
   rw[setAt_one hvk]at hob
   have hc2:nodesE (fillK d c (k+1))=(nodesE (fillK d c k)).set (v*3+2) (.vec ((List.range (rowsN d.nodes x)).map fun r=>vecI (unitRow d.grain x.card (c k r))).length ((List.range (rowsN d.nodes x)).map fun r=>vecI (unitRow d.grain x.card (c k r)))):=by
    rw[hfs,nodesE_set (y:={ x with rows:=x.rows++decRows d.grain d.nodes c k x }) hlk ⟨rfl,rfl⟩,ey,setAt_one hvk]
   have hne2:nbk≠rk:=by have:=hj3.1;omega
   refine⟨⟨sx.ρ,sx.H.melt rk nbk (.arr gn 56 (nodesE (fillK d c (k+1))))⟩,WeakS.melt G0_ok hob hne2 (by rw[hc2,List.length_set,List.length_set]) ?_,Nat.le_refl _,⟨_,_,_,_,_,_,_,by rw[melt_other (by omega) (by omega),jBx,hBe]⟩,by rw[melt_other (by omega) (by omega)];exact jBx,by show Hx.next<=sx.H.next;have:=hF.1;omega,
    ⟨by show H2.next<=sx.H.next;have:=hF.1;omega,fun id h1 h2=>(melt_other (by omega) h2).trans (hF.2.1 id h1 h2),melt_ob hne2⟩⟩
   rw[hc2]
   refine fz_set (fz_nodesE' _) ?_
   refine .frz (S:=fun id=>id=rk) rfl r4 (by rw[Nat.mul_one]) fun j hj h2 h'=>?_
   simp only[Nat.zero_add,List.getElem_map]
   exact .keepInts _
  refine vc_sound _ _ _ (by rfl) ?_
  simp only[go_sem,m2,m12,k0]
  refine AApply.clo (rowsW_spec d.nodes v x hx (fun q hq=>by have:=x2.2 q hq;omega) ps _ _ ⟨⟨_,_,_,_,_,_,_,by rw[jB,hBe]⟩,?_⟩)
  rw[<- hrn]
  simp only[go_sem]
  refine W.loop0 1237940038132458770292285440 (by rfl) (fun ρ2 H4=>∃ (r:Nat) (rh:AVal),ρ2 60=lin r/\r<=rowsN d.nodes x/\F H3.next (setAt (nodesE (fillK d c k)) (v*3+2) [rh]) H4/\H4.get H2.next=some Bb/\OwnG H3.next H4 52 rh ((List.range r).map fun r=>vecI (unitRow d.grain x.card (c k r)))/\(r=0->rh=.lit (.slice none 0 0)))
   (fun ρ2 H=>rowsN d.nodes x - (iv (ρ2 60)).toNat) ?_ ?_
  ·simp only[go_sem]
   refine⟨0,.lit (.slice none 0 0),rfl,by omega,⟨Nat.le_refl _,hj3.2.1,?_⟩,jB,.nil,fun _=>rfl⟩
   rw[show setAt (nodesE (fillK d c k)) (v*3+2) [.lit (.slice none 0 0)]=nodesE (fillK d c k) from by
    have:=nodesE_set (y:=x) hlk ⟨rfl,rfl⟩
    rw[rowsE_nil x1]at this
    rw[<- this]
    congr 1
    exact set_get_self hlk]
   exact hj3.2.2
  rintro ρ2 H4 ⟨r,rh,h60,hr,hF,jB4,hrh,hrh0⟩
  refine W.env fun E2 hE2=>?_
  have i2:E2 2=.ptr H.next 0 0:=by rw[hE2];simp only[go_sem,m2]
  have i3:E2 3=.ptr (H.next+1) 0 0:=by rw[hE2];simp only[go_sem,m3]
  have i5:E2 5=.ptr (H.next+3) 0 0:=by rw[hE2];simp only[go_sem,m5]
  have i11:E2 11=lin k:=by rw[hE2];simp only[go_sem,m11]
  have i12:E2 12=lin v:=by rw[hE2];simp only[go_sem,m12]
  have i59:E2 59=lin (rowsN d.nodes x):=by rw[hE2];simp only[go_sem]
  have i60:E2 60=lin r:=by rw[hE2];simp only[go_sem,h60]
  clear hE2
  refine vc_sound _ _ _ (by rfl) ?_
  by_cases hb2:(r:Int)<rowsN d.nodes x
  ·obtain⟨k0,k1,k3⟩:=oldH hF.2.1
   have kn:=get_live hF.2.2
   have hne:=nodesC_ne hx
   have ec:=nodesC_0 hx
   have w1:=IntWalk.i64_in ((r:Int)+1) (by omega)
   obtain⟨cb,hpc⟩:=hfv k r v x H4 hv hx (by omega) ⟨by omega,fun id h=>(hF.2.1 id (by omega) (by omega)).trans (s2.ov.old id h)⟩
   have hs:(setAt (nodesE (fillK d c k)) (v*3+2) [rh])[v*3+2]?=some rh:=by rw[setAt_one hvk,List.getElem?_set_self hvk]
   obtain⟨rh2,H5,hA,hO,hn5,hp⟩:=app_rowG (vecI (unitRow d.grain x.card (c k r))) rfl hrh hF.1 (by rw[List.length_map,List.length_range];omega)
   simp only[vecI]at hA
   have hcells:=hO.cells
   have hone:=hO.one
   have hpr:PCall Try.prog G0 (.clo 80 [] []) [.lit (.int .i64 d.grain),.lit (.int .i64 x.card),.lit (.int .i64 (c k r))] H4 (vecI (unitRow d.grain x.card (c k r))) []:=PCall.pure fun H2=>rowOf_spec d.grain x.card (c k r) (by have:=hR.card x hxm;omega) cb H2 _ ⟨rfl,rfl⟩
   have hrhs:rh=.lit (.slice none 0 0)\/∃ i g n,rh=.own i g 0 n 1/\H3.next<=i/\i<H4.next:=by
    rcases hrh with ⟨h,_⟩|⟨i,g,h1,h2,h3,_⟩
    ·exact .inl h
    ·exact .inr ⟨i,g,_,h3,h1,h2⟩
   have hset:∀ a b,setAt (setAt (nodesE (fillK d c k)) (v*3+2) [a]) (v*3+2) [b]=setAt (nodesE (fillK d c k)) (v*3+2) [b]:=fun a b=>by rw[setAt_one hvk,setAt_one (by rw[List.length_set];exact hvk),setAt_one hvk,List.set_set]
   have hslen:∀ a,(setAt (nodesE (fillK d c k)) (v*3+2) [a]).length=(nodesE (fillK d c k)).length:=fun a=>by rw[setAt_one hvk,List.length_set]
   have hg5:H5.get nbk=some (.arr gn 56 (setAt (nodesE (fillK d c k)) (v*3+2) [rh])):=(hp _ (by have:=hF.1;omega) (hrh.ne (by omega))).trans hF.2.2
   have kn5:=get_live hg5
   have ho5:∀ id,id<H2.next->id≠nbk->H5.get id=H2.get id:=fun id h1 h2=>(hp _ (by have:=hF.1;omega) (hrh.ne (by omega))).trans (hF.2.1 id h1 h2)
   have jB5:H5.get H2.next=some Bb:=(hp _ (by have:=hF.1;omega) (hrh.ne (by omega))).trans jB4
   obtain⟨hn34,-,-⟩:=hF
   rcases rs with _|⟨b0,rs⟩<;>rcases hrhs with rfl|⟨i,g,n,rfl,hi1,hi2⟩
   all_goals
    simp only[go_sem,i60,i59,hb2]
    refine W.draw 24 [0,1,0,0,8,0,56,120,248,0,512,0,2048,0,14336,30720,63488,0,0,0,917504,2096640,4193792,8388600] Try.mixed (by kernel_rfl) (by kernel_rfl) ?_
    simp only[go_sem,i2,i3,i5,i11,i12,k0,k1,k3,kn,hvn,hne,ec,hs]
    refine⟨.lit (.int .i64 (c k r)),_,hpc,vecI (unitRow d.grain x.card (c k r)),[],hpr,?_⟩
    simp only[go_sem,i2,i3,i5,i11,i12,i60,hvn,kn5,hA,hcells,hone,w1]
    refine⟨by repeat' (first|refine And.intro ?_ ?_|(intro x hx;omega)),by repeat' (first|refine And.intro ?_ ?_|(intro x hx;omega)),by rw[hslen];omega,by rw[upd_next];omega,⟨_,_,_,_,_,_,_,by rw[upd_get,if_neg (by omega),jB5,hBe]⟩,
     ⟨r+1,rh2,by simp,by omega,⟨by rw[upd_next];omega,fun id h1 h2=>by rw[upd_get,if_neg h2];exact ho5 id h1 h2,by rw[upd_get,if_pos rfl,hset]⟩,by rw[upd_get,if_neg (by omega)];exact jB5,?_,by omega⟩,by rw[h60];simp only[lin,iv_int];omega⟩
    have e:((List.range (r+1)).map fun r=>vecI (unitRow d.grain x.card (c k r)))=((List.range r).map fun r=>vecI (unitRow d.grain x.card (c k r)))++[vecI (unitRow d.grain x.card (c k r))]:=by rw[List.range_succ];simp
    show OwnG _ _ _ _ ((List.range (r+1)).map fun r=>vecI (unitRow d.grain x.card (c k r)))
    rw[e]
    exact hO.keep (Nat.le_refl _) (by rw[upd_next];omega) fun id g h1 _ _ _=>by rw[upd_get,if_neg (by omega)]
  ·have er:r=rowsN d.nodes x:=by omega
   subst er
   simp only[go_sem,i59,i60,hb2]
   exact⟨rh,hF,jB4,hrh⟩
 ·have s2:=R.over o2
  have f4:=get_live ((hj.2.1 _ (by omega) (by omega)).trans s2.b2)
  have f5:=get_live ((hj.2.1 _ (by omega) (by omega)).trans s2.b3)
  simp only[go_sem,e4,e5,f4,f5]
  have ovx:Over H Hx:=⟨by omega,fun id h=>(hj.2.1 id (by omega) (by omega)).trans (s2.ov.old id h)⟩
  refine FinV.dropO (v':=netV d.grain (fillL d c)) G0_ok hcl (ovx.upd (by omega) _) (.agg rfl fun i hi _=>?_) hK
  match i,hi with
  | 0,_=>exact .lit _
  | 1,_ =>
   have hg:∀ b,(Hx.upd (H.next+2) b).get nbk=some (.arr gn 56 (nodesE (fillL d c))):=fun b=>by
    rw[upd_get,if_neg (by omega)]
    have:=hj.2.2
    rw[decX_len]at this
    exact this
   show Fz _ _ _ (.own nbk gn 0 d.nodes.length 3) (.vec (fillL d c).length (nodesC (fillL d c)))
   rw[show (fillL d c).length=d.nodes.length from fillK_len _ _ _]
   refine .frz (by show H.next<=_;omega) (hg _) (by rw[nodesC_len];congr 1;exact fillK_len _ _ _) fun j hj h2 h'=>?_
   simp only[Nat.zero_add]
   exact fz_nodesE _ j _ _
end Go.Proofs
namespace Go.Proofs
open Go.Hx
structure UtilOk (ns:List NodeP)(u:UtilP):Prop where
 vars:PlacesOk u.vars ns.length
 size:(u.w.length:Int)=prodL (atL (cardsL ns) u.vars)
 w:∀ x∈u.w,-100<=x/\x<=100
def UtilsOk (d:InfP):Prop:=d.utils.length<=4/\∀ u∈d.utils,UtilOk d.nodes u
theorem vars_small {ns:List NodeP}{vars:List Int}(h8:ns.length<=8)(hp:PlacesOk vars ns.length)(hc:∀ y∈ns,1<=y.card/\y.card<=4):SmallC (atL (cardsL ns) vars) :=
 parC_small (x:=⟨0,vars,[]⟩) h8 hp hc
set_option maxHeartbeats 2000000 in
theorem rightUtils_spec (d:InfP)(hf:InfFit d)(h8:d.nodes.length<=8)(hc:∀ y∈d.nodes,1<=y.card/\y.card<=4)(H:AHeap)(K:ARes->AHeap->Prop)(hK:K (.ret (.lit (.bool (decB (UtilsOk d))))) H):ACall Try.prog G0 76 [infV d] H K:=by
 refine ACall.clo ⟨_,Try.func76,rfl,rfl⟩ fun hcl=>?_
 have hul:=hf.utils.1
 have no:¬ UtilsOk d->∀ H',Over H H'->FinV Try.prog G0 H K (.lit (.bool false)) H':=fun h H' ov=>FinV.dropO G0_ok hcl ov (.lit _) (by rw[decB_false h]at hK;exact hK)
 refine ACall.of_body (n:=74) (rs:=[.tmp 2]) Try.func76 rfl rfl rfl (by decide) (by kernel_rfl) (by simp) ?_
 simp only[go_sem,infV_eq,infC]
 obtain⟨H1,hH1⟩:∃ H1,H1=ext H [.arr 0 34 [.lit (.int .i64 d.grain),.vec d.nodes.length (nodesC d.nodes),.lit (.int .u64 (d.decs:Int)),.vec d.utils.length (utilsC d.utils)]]:=⟨_,rfl⟩
 have l1:H1.live H.next 0=some (34,[.lit (.int .i64 d.grain),.vec d.nodes.length (nodesC d.nodes),.lit (.int .u64 (d.decs:Int)),.vec d.utils.length (utilsC d.utils)]):=by rw[hH1];exact get_live (get_ext0 ..)
 have n1:H1.next=H.next+1:=by rw[hH1];rfl
 have o1:Over H H1:=by rw[hH1];exact .ext _ _
 rw[<- hH1]
 refine W.loop0 9444732965739290166632 (by rfl) (fun ρ H'=>∃ k:Nat,ρ 18=lin k/\k<=d.utils.length/\Over H1 H'/\ρ 3=.lit (.bool (decide ((d.utils.length:Int)<=4)))/\(0<k->d.utils.length<=4)/\∀ u∈d.utils.take k,UtilOk d.nodes u) (fun ρ H=>d.utils.length - (iv (ρ 18)).toNat) ?_ ?_
 ·simp only[go_sem]
  exact⟨0,rfl,by omega,.refl _,by omega,by simp⟩
 rintro ρ H' ⟨k,h18,hk,ov,h3,hk4,hall⟩
 refine W.env fun E hE=>?_
 have e1:E 1=.ptr H.next 0 0:=by rw[hE];simp only[go_sem]
 have e3:E 3=.lit (.bool (decide ((d.utils.length:Int)<=4))):=by rw[hE];simp only[go_sem,h3]
 have e16:E 16=.vec d.utils.length (utilsC d.utils):=by rw[hE];simp only[go_sem]
 have e17:E 17=lin d.utils.length:=by rw[hE];simp only[go_sem]
 have e18:E 18=lin k:=by rw[hE];simp only[go_sem,h18]
 clear hE
 refine vc_sound _ _ _ (by rfl) ?_
 have ovn:=ov.next
 have l2:=(ov.live (g:=0) (by omega:H.next<H1.next)).trans l1
 by_cases hb:(k:Int)<d.utils.length
 rotate_left
 ·rw[List.take_of_length_le (by omega)]at hall
  by_cases h4:(d.utils.length:Int)<=4
  ·simp only[go_sem,e3,e17,e18,hb,h4]
   rw[decB_true ⟨by omega,hall⟩]at hK
   exact FinV.dropO G0_ok hcl (o1.trans ov) (.lit _) hK
  ·simp only[go_sem,e3,e17,e18,hb,h4]
   exact no (fun h=>by have:=h.1;omega) _ (o1.trans ov)
 obtain⟨u,hu⟩:=get_of_lt (l:=d.utils) (i:=k) (by omega)
 have hum:=List.mem_of_getElem? hu
 obtain⟨f1,f2⟩:=hf.utils.2 u hum
 have hne:=utilsC_ne hu
 have p0:=utilsC_part hu
 have p1:k*2+2<=(utilsC d.utils).length:=by rw[utilsC_len];omega
 have ove:∀ L,Over H (ext H' L):=fun L=>(o1.trans ov).trans (.ext _ _)
 by_cases h4:(d.utils.length:Int)<=4
 rotate_left
 ·simp only[go_sem,e3,e16,e17,e18,hb,h4,hne,p0,p1]
  exact no (fun h=>by have:=h.1;omega) _ (ove _)
 have l3:∀ L,(ext H' L).live H.next 0=_:=fun L=>(ext_live_old (by omega)).trans l2
 simp only[go_sem,e1,e3,e16,e17,e18,hb,h4,hne,p0,p1,l3]
 obtain⟨H2,hH2⟩:∃ H2,H2=ext H' [.arr 0 60 [.vec u.vars.length (ints u.vars),.vec u.w.length (ints u.w)]]:=⟨_,rfl⟩
 have m1:H2.live H'.next 0=some (60,[.vec u.vars.length (ints u.vars),.vec u.w.length (ints u.w)]):=by rw[hH2];exact get_live ext1_get_new
 have m2:=l3 [.arr 0 60 [.vec u.vars.length (ints u.vars),.vec u.w.length (ints u.w)]]
 rw[<- hH2]at m2
 have n2:H2.next=H'.next+1:=by rw[hH2];rfl
 have ov2:Over H H2:=by rw[hH2];exact ove _
 rw[<- hH2]
 refine AApply.clo (increasing_spec u.vars d.nodes.length (by omega) _ _ ⟨trivial,?_⟩)
 by_cases c1:PlacesOk u.vars d.nodes.length
 rotate_left
 ·simp only[go_sem,c1]
  exact no (fun h=>c1 (h.2 u hum).vars) _ ov2
 have sm:=vars_small h8 c1 hc
 have pl:(atL (cardsL d.nodes) u.vars).length=u.vars.length:=atL_len _ _
 have v8:=c1.len
 simp only[go_sem,c1,m1]
 refine W.loop0 562881233944896 (by rfl) (fun ρ' H3=>H3=H2/\∃ j:Nat,ρ' 36=lin j/\j<=u.vars.length/\ρ' 6=lin (prodL ((atL (cardsL d.nodes) u.vars).take j))) (fun ρ' H=>u.vars.length - (iv (ρ' 36)).toNat) ?_ ?_
 ·simp only[go_sem]
  exact⟨0,rfl,by omega,by simp [prodL_nil]⟩
 rintro ρ' H3 ⟨rfl,j,h36,hj,h6⟩
 refine vc_sound _ _ _ (by rfl) ?_
 by_cases hb2:(j:Int)<u.vars.length
 ·obtain⟨q,hq⟩:=get_of_lt (l:=u.vars) (i:=j) (by omega)
  obtain⟨i,rfl,y,hy⟩:=get_of_int (l:=d.nodes) (c1.2 q (List.mem_of_getElem? hq)).1 (c1.2 q (List.mem_of_getElem? hq)).2
  have hne2:=ne_of_get hq
  have hne3:=nodesC_ne hy
  have ey:=nodesC_0 hy
  have hi:(i:Int)<d.nodes.length:=by have:=get_lt hy;omega
  have pk:(atL (cardsL d.nodes) u.vars)[j]?=some y.card:=by rw[atL_get hq,Int.toNat_natCast,getD_of_get (cards_get hy)]
  have b1:=(sm.take (j+1)).prod
  rw[take_succ_get pk,prodL_snoc]at b1
  have w1:=IntWalk.i64_in ((j:Int)+1) (by omega)
  have w2:=IntWalk.i64_in (prodL ((atL (cardsL d.nodes) u.vars).take j)*y.card) (by omega)
  simp only[go_sem,h36,h6,e1,m2,hb2,hq,hne2,hne3,hi,ey,w1,w2]
  exact⟨⟨j+1,by simp,by omega,by rw[take_succ_get pk,prodL_snoc]⟩,by omega⟩
 rw[List.take_of_length_le (by omega)]at h6
 by_cases c2:(u.w.length:Int)=prodL (atL (cardsL d.nodes) u.vars)
 rotate_left
 ·simp only[go_sem,h36,h6,m1,hb2,c2]
  exact no (fun h=>c2 (h.2 u hum).size) _ ov2
 simp only[go_sem,h36,h6,m1,hb2,c2]
 refine W.loop0 4721790022117341791240 (by rfl) (fun ρ2 H4=>H4=H3/\∃ i:Nat,ρ2 59=lin i/\i<=u.w.length/\ρ2 3=.lit (.bool true)/\∀ w∈u.w.take i,-100<=w/\w<=100) (fun ρ2 H=>u.w.length - (iv (ρ2 59)).toNat) ?_ ?_
 ·simp only[go_sem]
  exact⟨0,rfl,by omega,by simp⟩
 rintro ρ2 H4 ⟨rfl,i,h59,hi,h3',hw⟩
 refine vc_sound _ _ _ (by rfl) ?_
 have hpr:=sm.prod
 by_cases hb3:(i:Int)<u.w.length<;>have hb3':=hb3<;>rw[c2]at hb3'
 ·obtain⟨a,ha⟩:=get_of_lt (l:=u.w) (i:=i) (by omega)
  have ham:=List.mem_of_getElem? ha
  have hane:=ne_of_get ha
  by_cases d1:a >= -100
  rotate_left
  ·simp only[go_sem,h59,h3',hb3,hb3',ha,hane,d1]
   exact no (fun h=>by have:=(h.2 u hum).w a ham;omega) _ ov2
  by_cases d2:a<=100
  rotate_left
  ·simp only[go_sem,h59,h3',hb3,hb3',ha,hane,d1,d2]
   exact no (fun h=>by have:=(h.2 u hum).w a ham;omega) _ ov2
  have w1:=IntWalk.i64_in ((i:Int)+1) (by omega)
  simp only[go_sem,h59,h3',hb3,hb3',ha,hane,d1,d2,w1]
  refine⟨⟨i+1,by simp,by omega,fun w hw'=>?_⟩,by omega⟩
  rw[take_succ_get ha]at hw'
  rcases List.mem_append.1 hw' with hw'|hw'
  ·exact hw w hw'
  ·obtain rfl:=List.mem_singleton.1 hw';exact⟨by omega,by omega⟩
 ·have w1:=IntWalk.i64_in ((k:Int)+1) (by omega)
  rw[List.take_of_length_le (by omega)]at hw
  simp only[go_sem,h59,h3',e18,hb3',w1]
  refine⟨by omega,⟨k+1,by simp,by omega,by rw[hH2];exact ov.trans (.ext _ _),fun _=>by omega,fun y hy=>?_⟩,by rw[h18];simp only[lin,iv_int];omega⟩
  rw[take_succ_get hu]at hy
  rcases List.mem_append.1 hy with hy|hy
  ·exact hall y hy
  ·obtain rfl:=List.mem_singleton.1 hy;exact⟨c1,c2,hw⟩
structure InfOk (d:InfP):Prop where
 n:RightN d
 net:NetOk d.grain (fillL d fun _ _=>0)
 utils:UtilsOk d
end Go.Proofs
namespace Go.Proofs
open Go.Hx
theorem unitRow_len (g card x:Int):(unitRow g card x).length=card.toNat:=by simp [unitRow]
theorem fillL_mem {d:InfP}{c:Nat->Nat->Int}{y:NodeP}(h:y∈fillL d c):∃ v x,d.nodes[v]?=some x/\y=fillN d c (decL d).length v x:=by
 obtain⟨v,hv⟩:=List.mem_iff_getElem?.1 h
 have hl:=get_lt hv
 rw[show (fillL d c).length=d.nodes.length from fillK_len _ _ _]at hl
 obtain⟨x,hx⟩:=get_of_lt hl
 have:=fillK_get (c:=c) (k:=(decL d).length) hx
 rw[show fillK d c (decL d).length=fillL d c from rfl,hv]at this
 exact⟨v,x,hx,Option.some.inj this⟩
theorem fillL_fit {d:InfP}(hf:InfFit d)(hR:RightN d)(c:Nat->Nat->Int):NetFit (fillL d c):=by
 refine⟨by rw[show (fillL d c).length=d.nodes.length from fillK_len _ _ _];exact hf.nodes.1,fun y hy=>?_⟩
 obtain⟨v,x,hx,rfl⟩:=fillL_mem hy
 have hxm:=List.mem_of_getElem? hx
 obtain⟨f1,f2,f3⟩:=hf.nodes.2 x hxm
 unfold fillN
 split
 ·rename_i h
  obtain⟨x1,x2⟩:=hR.dec v x hx h.1
  have ps:=(parC_small hR.n1.2 x2 hR.card).prod
  have hc:=hR.card x hxm
  refine⟨f1,?_,fun r hr=>?_⟩
  ·show ((x.rows++decRows d.grain d.nodes c (placeD d.decs v) x).length:Int)<_
   rw[x1]
   simp only[decRows,List.nil_append,List.length_map,List.length_range,rowsN]
   omega
  ·rw[show ({ x with rows:=x.rows++decRows d.grain d.nodes c (placeD d.decs v) x }:NodeP).rows=x.rows++decRows d.grain d.nodes c (placeD d.decs v) x from rfl,x1,List.nil_append]at hr
   obtain⟨i,_,rfl⟩:=List.mem_map.1 hr
   rw[unitRow_len];omega
 ·exact⟨f1,f2,f3⟩
theorem infCheck_spec (d:InfP)(hf:InfFit d)(H:AHeap)(K:ARes->AHeap->Prop)(hK:K (.ret (lin (if decB (InfOk d) then 0 else 200))) H):ACall Try.prog G0 53 [infV d] H K:=by
 refine ACall.clo ⟨_,Try.func53,rfl,rfl⟩ fun hcl=>?_
 have no:¬ InfOk d->∀ H',Over H H'->FinV Try.prog G0 H K (.lit (.int .i64 200)) H':=fun h H' ov=>FinV.dropO G0_ok hcl ov (.lit _) (by rw[decB_false h]at hK;exact hK)
 have hg:InfOk d->1<=d.grain/\d.grain<=60:=fun h=>h.net.g1
 refine ACall.of_body (n:=25) (rs:=[.tmp 2]) Try.func53 rfl rfl rfl (by decide) (by kernel_rfl) (by simp) ?_
 simp only[go_sem,infV_eq,infC]
 obtain⟨H1,hH1⟩:∃ H1,H1=ext H [.arr 0 34 [.lit (.int .i64 d.grain),.vec d.nodes.length (nodesC d.nodes),.lit (.int .u64 (d.decs:Int)),.vec d.utils.length (utilsC d.utils)]]:=⟨_,rfl⟩
 have l1:H1.live H.next 0=some (34,[.lit (.int .i64 d.grain),.vec d.nodes.length (nodesC d.nodes),.lit (.int .u64 (d.decs:Int)),.vec d.utils.length (utilsC d.utils)]):=by rw[hH1];exact get_live (get_ext0 ..)
 have o1:Over H H1:=by rw[hH1];exact .ext _ _
 rw[<- hH1]
 by_cases c1:d.grain<1
 ·simp only[go_sem,c1]
  exact no (fun h=>by have:=hg h;omega) _ o1
 by_cases c2:d.grain > 60
 ·simp only[go_sem,l1,c1,c2]
  exact no (fun h=>by have:=hg h;omega) _ o1
 simp only[go_sem,l1,c1,c2]
 refine AApply.clo (rightNodes_spec d hf _ _ ⟨trivial,?_⟩)
 by_cases c3:RightN d
 rotate_left
 ·rw[decB_false c3]
  simp only[go_sem]
  exact no (fun h=>c3 h.n) _ o1
 rw[decB_true c3]
 simp only[go_sem,l1]
 refine AApply.clo (filled_spec d hf c3 (fun _ _=>0) _ [] _ (fun i h=>by cases h) rfl rfl (fun p r v x H2 _ hx _ _=>⟨⟨Int.le_refl 0,by have:=c3.card x (List.mem_of_getElem? hx);omega⟩,PCall.pure fun H3=>chk1_spec _ _ H3 _ ⟨rfl,rfl⟩⟩) _ ⟨trivial,?_⟩)
 simp only[go_sem]
 refine AApply.clo (netCheck_spec d.grain _ (fillL_fit hf c3 _) _ _ ⟨trivial,?_⟩)
 by_cases c4:NetOk d.grain (fillL d fun _ _=>0)
 rotate_left
 ·rw[netB_false c4]
  simp only[go_sem]
  exact no (fun h=>c4 h.net) _ o1
 rw[netB_true c4]
 simp only[go_sem,l1]
 refine AApply.clo (rightUtils_spec d hf c3.n1.2 c3.card _ _ ⟨trivial,?_⟩)
 by_cases c5:UtilsOk d
 rotate_left
 ·rw[decB_false c5]
  simp only[go_sem]
  exact no (fun h=>c5 h.utils) _ o1
 rw[decB_true c5]
 simp only[go_sem]
 rw[decB_true (⟨c3,c4,c5⟩:InfOk d)]at hK
 exact FinV.dropO G0_ok hcl o1 (.lit _) hK
end Go.Proofs
namespace Go.Proofs
open Go.Hx
structure PolOk (d:InfP)(p:List (List Int)):Prop where
 len:p.length=(decL d).length
 row:∀ (k v:Nat) (x:NodeP) (l:List Int),(decL d)[k]?=some v->d.nodes[v]?=some x->p[k]?=some l->l.length=rowsN d.nodes x/\∀ a∈l,0<=a/\a<x.card
def PolFit (p:List (List Int)):Prop:=(p.length:Int)<2 ^ 38/\∀ r∈p,(r.length:Int)<2 ^ 38
noncomputable def polErr (d:InfP)(p:List (List Int)):Int:=if decB (InfOk d) then (if decB (PolOk d p) then 0 else 201) else 200
set_option maxHeartbeats 2000000 in
theorem checkPolicy_spec (d:InfP)(hf:InfFit d)(p:List (List Int))(hp:PolFit p)(H:AHeap)(K:ARes->AHeap->Prop)(hK:K (.ret (lin (polErr d p))) H):ACall Try.prog G0 28 [infV d,vecV p] H K:=by
 refine ACall.clo ⟨_,Try.func28,rfl,rfl⟩ fun hcl=>?_
 refine ACall.of_body (n:=64) (rs:=[.cell 4 38]) Try.func28 rfl rfl rfl (by decide) (by kernel_rfl) (by simp) ?_
 simp only[go_sem,infV_eq,infC]
 obtain⟨H1,hH1⟩:∃ H1,H1=ext H [.arr 0 34 (infC d),.arr 0 36 [vecV p],.arr 0 38 [.lit (.int .i64 0)]]:=⟨_,rfl⟩
 have g1:H1.get H.next=some (.arr 0 34 (infC d)):=by rw[hH1];exact get_ext0 ..
 have g2:H1.get (H.next+1)=some (.arr 0 36 [vecV p]):=by rw[hH1];exact get_ext H _ 1 (by simp)
 have g3:H1.get (H.next+2)=some (.arr 0 38 [.lit (.int .i64 0)]):=by rw[hH1];exact get_ext H _ 2 (by simp)
 have l1:=get_live g1
 have l3:=get_live g3
 have n1:H1.next=H.next+3:=by rw[hH1];rfl
 have o1:Over H H1:=by rw[hH1];exact .ext _ _
 unfold infC at hH1 l1
 rw[<- hH1]
 refine AApply.clo (infCheck_spec d hf _ _ ⟨trivial,?_⟩)
 by_cases hok:InfOk d
 rotate_left
 ·rw[decB_false hok]
  simp only[go_sem,l3]
  unfold polErr at hK
  rw[decB_false hok]at hK
  exact FinV.dropO G0_ok hcl (o1.upd (by omega) _) (.lit _) hK
 rw[decB_true hok]
 have hR:=hok.n
 have no:¬ PolOk d p->∀ H',Over H H'->FinV Try.prog G0 H K (.lit (.int .i64 201)) H':=fun h H' ov=>FinV.dropO G0_ok hcl ov (.lit _) (by unfold polErr at hK;rw[decB_true hok,decB_false h]at hK;exact hK)
 have nb0:H.next≠H1.next:=by omega
 have l1e:∀ L,(ext H1 L).live H.next 0=_:=fun L=>(ext_live_old (by omega)).trans l1
 simp only[go_sem,l1e]
 refine AApply.clo (dec_clo d _ _ ⟨trivial,?_⟩)
 simp only[go_sem]
 obtain⟨H2,hH2⟩:∃ H2,H2=ext (ext H1 [.arr 0 3 [.lit (.int .i64 0)]]) [infB d]:=⟨_,rfl⟩
 rw[<- hH2]
 have o2:Over H1 H2:=by rw[hH2];exact(Over.ext _ _).trans (.ext _ _)
 have n2:H2.next=H.next+5:=by rw[hH2,ext_next,ext_next,n1];rfl
 have hbx:H2.get (H.next+4)=some (infB d):=by rw[hH2,show H.next+4=(ext H1 [.arr 0 3 [.lit (.int .i64 0)]]).next by rw[ext_next,n1];rfl];exact ext1_get_new
 have g6:H2.get (H.next+3)=some (.arr 0 3 [.lit (.int .i64 0)]):=by rw[hH2,get_ext_old _ _ _ (by rw[ext_next,n1];simp),show H.next+3=H1.next by omega];exact ext1_get_new
 have o02:=o1.trans o2
 refine W.env fun E hE=>?_
 have e2:E 2=.ptr H.next 0 0:=by rw[hE];simp only[go_sem]
 have e3:E 3=.ptr (H.next+1) 0 0:=by rw[hE];simp only[go_sem]
 have e4:E 4=.ptr (H.next+2) 0 0:=by rw[hE];simp only[go_sem]
 have e6:E 6=.ptr (H.next+3) 0 0:=by rw[hE,<- n1];simp only[go_sem]
 have eN:(ext H1 [.arr 0 3 [.lit (.int .i64 0)]]).next=H.next+4:=by rw[ext_next,n1];rfl
 have e17:E 17=.clo 77 [] [.ptr (H.next+4) 0 0]:=by rw[hE,<- eN];rfl
 clear hE
  -- what stays as it is
 let S:AHeap->Prop:=fun Hx=>H2.next<=Hx.next/\∀ id,id<H2.next->id≠H.next+3->id≠H.next+2->Hx.get id=H2.get id
 have ovS:∀ {Hx},S Hx->Over H Hx:=fun h=>⟨by have:=h.1;omega,fun id hi=>(h.2 id (by omega) (by omega) (by omega)).trans (o02.old id hi)⟩
 refine W.rangeIt (f:=77) (first:=[]) (cap:=[.ptr (H.next+4) 0 0]) (by show E 17=_;exact e17) (dec_it d (by have:=hf.nodes.1;omega) hf.decs (H.next+4))
  (fun k Hx=>S Hx/\Hx.get (H.next+2)=some (.arr 0 38 [.lit (.int .i64 0)])/\Hx.get (H.next+3)=some (.arr 0 3 [.lit (.int .i64 k)])/\∀ j v x,j<k->(decL d)[j]?=some v->d.nodes[v]?=some x->∃ l,p[j]?=some l/\l.length=rowsN d.nodes x/\∀ a∈l,0<=a/\a<x.card)
  (fun c Hx=>c=.ret/\S Hx/\Hx.get (H.next+2)=some (.arr 0 38 [.lit (.int .i64 201)])/\¬ PolOk d p)
  (fun k Hx h=>by rw[h.1.2 _ (by omega) (by omega) (by omega)];exact hbx)
  (fun k Hx b h=>⟨⟨h.1.1,fun id h1 h2 h3=>by rw[upd_get,if_neg (by omega)];exact h.1.2 id h1 h2 h3⟩,by rw[upd_get,if_neg (by omega)];exact h.2.1,by rw[upd_get,if_neg (by omega)];exact h.2.2.1,h.2.2.2⟩)
  (fun c Hx b h=>⟨h.1,⟨h.2.1.1,fun id h1 h2 h3=>by rw[upd_get,if_neg (by omega)];exact h.2.1.2 id h1 h2 h3⟩,by rw[upd_get,if_neg (by omega)];exact h.2.2.1,h.2.2.2⟩)
  (fun b=>⟨⟨by rw[ext_next];omega,fun id h1 h2 h3=>ext1_get_old h1⟩,by rw[ext1_get_old (by omega),o2.old _ (by omega)];exact g3,by rw[ext1_get_old (by omega)];exact g6,fun j v x h=>absurd h (Nat.not_lt_zero _)⟩)
  (by decide) decX_two (fun _ _ _=>trivial) (fun _ _ _=>trivial) (fun k y Hx B Bb hy hj hn hB hBb=>?_) (fun Hx hj hn=>?_) (fun Hx hs hn=>?_) (fun i Hx hs hn=>by cases hs.1)
 ·obtain⟨v,hv,rfl⟩:=decX_get hy
  obtain⟨v1,v2,v3⟩:=decK_place hv
  obtain⟨x,hx⟩:=get_of_lt (l:=d.nodes) (i:=v) v1
  obtain⟨x1,x2⟩:=hR.dec v x hx v2
  refine vc_sound _ _ _ (by rfl) ?_
  simp only[go_sem,setPs,envN,asgIt,List.foldl_cons,List.foldl_nil,List.zip_cons_cons,List.zip_nil_right,hB]
  obtain⟨H3,hH3⟩:∃ H3,H3=Hx.upd H2.next Bb:=⟨_,rfl⟩
  rw[<- hH3]
  obtain⟨st,pd,n',en,ps',as',bo,hBe⟩:=hBb
  have n3:H3.next=Hx.next:=by rw[hH3];rfl
  have o3:∀ id,id≠H2.next->H3.get id=Hx.get id:=fun id h=>by rw[hH3,upd_get,if_neg h]
  have jB:H3.get H2.next=some Bb:=by rw[hH3,upd_get,if_pos rfl]
  have hS3:S H3:=⟨by rw[n3];exact hj.1.1,fun id h1 h2 h3=>(o3 id (by omega)).trans (hj.1.2 id h1 h2 h3)⟩
  have j1:=get_live ((hS3.2 _ (by omega) (by omega) (by omega)).trans ((o2.old _ (by omega)).trans g1))
  have j2:=get_live ((hS3.2 _ (by omega) (by omega) (by omega)).trans ((o2.old _ (by omega)).trans g2))
  have j4:=get_live ((o3 _ (by omega)).trans hj.2.1)
  have j6:=get_live ((o3 _ (by omega)).trans hj.2.2.1)
  unfold infC at j1
  have ps:=parC_small hR.n1.2 x2 hR.card
  have hin:InRange x.parents d.nodes.length:=fun q hq=>by have:=x2.2 q hq;omega
  have hpp:1<=prodL (parC d.nodes x):=prodL_pos fun c hc=>(parC_mem hin hR.card c hc).1
  have hpb:=ps.prod
  have hrn:((rowsN d.nodes x:Nat):Int)=prodL (parC d.nodes x):=by unfold rowsN;omega
  have hvn:(v:Int)<d.nodes.length:=by omega
  have hne:=nodesC_ne hx
  have ec:=nodesC_0 hx
  have hkl:=get_lt hv
  have hk8:k<8:=by
   have h1:=decK_len (D:=d.decs) (n:=d.nodes.length)
   have h2:=hR.n1.2
   have h3:k<(decK d.decs d.nodes.length).length:=hkl
   omega
  refine W.env fun E1 hE1=>?_
  have m2:E1 2=.ptr H.next 0 0:=by rw[hE1];simp only[go_sem,envN,e2]
  have m3:E1 3=.ptr (H.next+1) 0 0:=by rw[hE1];simp only[go_sem,envN,e3]
  have m4:E1 4=.ptr (H.next+2) 0 0:=by rw[hE1];simp only[go_sem,envN,e4]
  have m6:E1 6=.ptr (H.next+3) 0 0:=by rw[hE1];simp only[go_sem,envN,e6]
  have m7:E1 7=lin k:=by rw[hE1];simp only[go_sem,envN]
  have m8:E1 8=lin v:=by rw[hE1];simp only[go_sem,envN]
  clear hE1
  have stop:¬ PolOk d p->(H3.upd (H.next+2) (Blk.arr 0 38 [.lit (.int .i64 201)])).get H2.next=some Bb/\Hx.next<=(H3.upd (H.next+2) (Blk.arr 0 38 [.lit (.int .i64 201)])).next/\S (H3.upd (H.next+2) (Blk.arr 0 38 [.lit (.int .i64 201)])) /\
    (H3.upd (H.next+2) (Blk.arr 0 38 [.lit (.int .i64 201)])).get (H.next+2)=some (.arr 0 38 [.lit (.int .i64 201)])/\¬ PolOk d p:=fun h =>
   ⟨by rw[upd_get,if_neg (by omega)];exact jB,by rw[upd_next];omega,⟨by rw[upd_next];exact hS3.1,fun id h1 h2 h3=>by rw[upd_get,if_neg h3];exact hS3.2 id h1 h2 h3⟩,by rw[upd_get,if_pos rfl],h⟩
  refine vc_sound _ _ _ (by rfl) ?_
  simp only[go_sem]
  refine W.draw 14 [0,0,2,7,15,31,31,127,255,511,31,1055,31,7199] Try.mixed (by kernel_rfl) (by kernel_rfl) ?_
  by_cases c1:(k:Int) >= p.length
  ·simp only[go_sem,m3,m4,m7,j2,j4,c1,vecV,bodyIt]
   exact stop fun h=>by have:=h.len;omega
  obtain⟨l,hl⟩:=get_of_lt (l:=p) (i:=k) (by omega)
  have hlm:=List.mem_of_getElem? hl
  have hlne:=ne_of_get hl
  have hkp:(k:Int)<p.length:=by omega
  have hll:=hp.2 l hlm
  simp only[go_sem,m2,m3,m7,m8,j1,j2,c1,hkp,hl,hlne,vecV]
  refine⟨.lit (.int .i64 (rowsN d.nodes x:Nat)),[],PCall.pure fun H2=>rowsW_spec d.nodes v x hx hin ps H2 _ ⟨by rw[hrn];rfl,rfl⟩,?_⟩
  by_cases c2:(l.length:Int)=rowsN d.nodes x
  rotate_left
  ·simp only[go_sem,c2,m4,j4,bodyIt]
   exact stop fun h=>c2 (by have:=(h.row k v x l hv hx hl).1;omega)
  simp only[go_sem,c2,m3,m7,j2,hkp,hl,hlne,vecV]
  refine W.loop0 288228177128457216 (by rfl) (fun ρ2 H4=>H4=H3/\∃ i:Nat,ρ2 41=lin i/\i<=l.length/\∀ a∈l.take i,0<=a/\a<x.card) (fun ρ2 H=>l.length - (iv (ρ2 41)).toNat) ?_ ?_
  ·simp only[go_sem]
   exact⟨0,rfl,by omega,by simp⟩
  rintro ρ2 H4 ⟨rfl,i,h41,hi,hw⟩
  refine vc_sound _ _ _ (by rfl) ?_
  by_cases hb2:(i:Int)<l.length<;>have hb2':=hb2<;>rw[c2]at hb2'
  ·obtain⟨a,ha⟩:=get_of_lt (l:=l) (i:=i) (by omega)
   have ham:=List.mem_of_getElem? ha
   have hane:=ne_of_get ha
   by_cases d1:a<0
   ·simp only[go_sem,h41,hb2,hb2',ha,hane,d1,m4,j4,bodyIt]
    exact stop fun h=>by have:=(h.row k v x l hv hx hl).2 a ham;omega
   by_cases d2:a >= x.card
   ·simp only[go_sem,h41,hb2,hb2',ha,hane,d1,d2,m2,m4,m8,j1,j4,hvn,hne,ec,bodyIt]
    exact stop fun h=>by have:=(h.row k v x l hv hx hl).2 a ham;omega
   have w1:=IntWalk.i64_in ((i:Int)+1) (by omega)
   simp only[go_sem,h41,hb2,hb2',ha,hane,d1,d2,w1,m2,m8,j1,hvn,hne,ec]
   refine⟨⟨_,_,_,_,_,_,_,by rw[jB,hBe]⟩,⟨i+1,by simp,by omega,fun w hw'=>?_⟩,by omega⟩
   rw[take_succ_get ha]at hw'
   rcases List.mem_append.1 hw' with hw'|hw'
   ·exact hw w hw'
   ·obtain rfl:=List.mem_singleton.1 hw';exact⟨by omega,by omega⟩
  ·rw[List.take_of_length_le (by omega)]at hw
   have w1:=IntWalk.i64_in ((k:Int)+1) (by omega)
   simp only[go_sem,h41,hb2',m6,j6,w1,bodyIt]
   refine⟨by rw[upd_get,if_neg (by omega)];exact jB,by rw[upd_next];omega,⟨by rw[upd_next];exact hS3.1,fun id h1 h2 h3=>by rw[upd_get,if_neg h2];exact hS3.2 id h1 h2 h3⟩,by rw[upd_get,if_neg (by omega),o3 _ (by omega)];exact hj.2.1,by rw[upd_get,if_pos rfl];simp,fun j u z hj2 hu hz=>?_⟩
   rcases Nat.lt_or_ge j k with hjk|hjk
   ·exact hj.2.2.2 j u z hjk hu hz
   ·obtain rfl:j=k:=by omega
    rw[hv]at hu
    cases hu
    rw[hx]at hz
    cases hz
    exact⟨l,hl,by omega,hw⟩
 ·rw[decX_len]at hj
  have j2:=get_live ((hj.1.2 _ (by omega) (by omega) (by omega)).trans ((o2.old _ (by omega)).trans g2))
  have j4:=get_live hj.2.1
  have j6:=get_live hj.2.2.1
  by_cases c3:(p.length:Int)=(decL d).length
  rotate_left
  ·simp only[go_sem,e3,e4,e6,j2,j4,j6,c3,vecV]
   exact no (fun h=>c3 (by have:=h.len;omega)) _ ((ovS hj.1).upd (by omega) _)
  have hpo:PolOk d p:=⟨by omega,fun k v x l h1 h2 h3=>by
   obtain⟨l',h4,h5⟩:=hj.2.2.2 k v x (get_lt h1) h1 h2
   rw[h3]at h4
   cases h4
   exact h5⟩
  simp only[go_sem,e3,e4,e6,j2,j4,j6,c3,vecV]
  unfold polErr at hK
  rw[decB_true hok,decB_true hpo]at hK
  exact FinV.dropO G0_ok hcl ((ovS hj.1).upd (by omega) _) (.lit _) hK
 ·obtain⟨_,hS,h4,hno⟩:=hs
  have j4:=get_live h4
  simp only[go_sem,e4,j4]
  exact no hno _ (ovS hS)
end Go.Proofs
namespace Go.Proofs
open Go.Hx
def fixC (p:List (List Int))(k r:Nat):Int:=(p.getD k []).getD r 0
theorem fix1_spec (p:List (List Int))(k r b:Nat)(l:List Int)(a:Int)(hl:p[k]?=some l)(ha:l[r]?=some a)(H:AHeap)(hb:H.get b=some (.arr 0 36 [vecV p]))(K:ARes->AHeap->Prop)(hK:K (.ret (.lit (.int .i64 a))) H):
  ACall Try.prog G0 60 [.lit (.int .i64 k),.lit (.int .i64 r),.ptr b 0 0] H K:=by
 have l0:=get_live hb
 have h1:(k:Int)<p.length:=by have:=get_lt hl;omega
 have h2:(r:Int)<l.length:=by have:=get_lt ha;omega
 have n1:=ne_of_get hl
 have n2:=ne_of_get ha
 refine ACall.of_body (n:=13) (rs:=[.tmp 5]) Try.func60 rfl rfl rfl (by decide) (by kernel_rfl) (by simp) ?_
 simp only[go_sem,l0,vecV,h1,h2,hl,ha,n1,n2]
 exact FinV.mk (Nat.le_refl _) hK
theorem fix1_pcall (p:List (List Int))(k r b:Nat)(l:List Int)(a:Int)(hl:p[k]?=some l)(ha:l[r]?=some a)(H:AHeap)(hlt:b<H.next)(hb:H.get b=some (.arr 0 36 [vecV p])):
  PCall Try.prog G0 (.clo 60 [] [.ptr b 0 0]) [.lit (.int .i64 k),.lit (.int .i64 r)] H (.lit (.int .i64 a)) [b] :=
 PCall.mk (fun i hi=>by obtain rfl:=List.mem_singleton.1 hi;exact hlt) fun H2 h2 _=>fix1_spec p k r b l a hl ha H2 ((h2 b (by simp)).trans hb) _ ⟨rfl,rfl⟩
theorem polOk_get {d:InfP}{p:List (List Int)}(h:PolOk d p){k v r:Nat}{x:NodeP}(hv:(decL d)[k]?=some v)(hx:d.nodes[v]?=some x)(hr:r<rowsN d.nodes x):
  ∃ l a,p[k]?=some l/\l[r]?=some a/\fixC p k r=a/\0<=a/\a<x.card:=by
 obtain⟨l,hl⟩:=get_of_lt (l:=p) (i:=k) (by rw[h.len];exact get_lt hv)
 obtain⟨h1,h2⟩:=h.row k v x l hv hx hl
 obtain⟨a,ha⟩:=get_of_lt (l:=l) (i:=r) (by omega)
 exact⟨l,a,hl,ha,by unfold fixC;rw[getD_of_get hl,getD_of_get ha],h2 a (List.mem_of_getElem? ha)⟩
def netNil:AVal:=.agg [.lit (.int .i64 0),.vec 0 []]
noncomputable def fixR (d:InfP)(p:List (List Int)):AVal:=if polErr d p=0 then netV d.grain (fillL d (fixC p)) else netNil
theorem polErr_zero {d:InfP}{p:List (List Int)}:polErr d p=0↔InfOk d/\PolOk d p:=by
 unfold polErr
 by_cases h1:InfOk d
 ·by_cases h2:PolOk d p
  ·rw[decB_true h1,decB_true h2];exact⟨fun _=>⟨h1,h2⟩,fun _=>rfl⟩
  ·rw[decB_true h1,decB_false h2];exact⟨fun h=>by simp at h,fun h=>absurd h.2 h2⟩
 ·rw[decB_false h1];exact⟨fun h=>by simp at h,fun h=>absurd h.1 h1⟩
theorem fix_spec (d:InfP)(hf:InfFit d)(p:List (List Int))(hp:PolFit p)(H:AHeap)(K:ARes->AHeap->Prop)(hK:K (.ret (.tup [fixR d p,lin (polErr d p)])) H):ACall Try.prog G0 31 [infV d,vecV p] H K:=by
 refine ACall.clo ⟨_,Try.func31,rfl,rfl⟩ fun hcl=>?_
 refine ACall.of_body (n:=17) (rs:=[.cell 4 66,.tmp 5]) Try.func31 rfl rfl rfl (by decide) (by kernel_rfl) (by simp) ?_
 simp only[go_sem,infV_eq,infC]
 obtain⟨H1,hH1⟩:∃ H1,H1=ext H [.arr 0 34 [.lit (.int .i64 d.grain),.vec d.nodes.length (nodesC d.nodes),.lit (.int .u64 (d.decs:Int)),.vec d.utils.length (utilsC d.utils)],.arr 0 36 [vecV p],.arr 0 66 [.lit (.int .i64 0),.lit (.slice none 0 0)]]:=⟨_,rfl⟩
 have g1:H1.get H.next=some (.arr 0 34 [.lit (.int .i64 d.grain),.vec d.nodes.length (nodesC d.nodes),.lit (.int .u64 (d.decs:Int)),.vec d.utils.length (utilsC d.utils)]):=by rw[hH1];exact get_ext0 ..
 have g2:H1.get (H.next+1)=some (.arr 0 36 [vecV p]):=by rw[hH1];exact get_ext H _ 1 (by simp)
 have g3:H1.get (H.next+2)=some (.arr 0 66 [.lit (.int .i64 0),.lit (.slice none 0 0)]):=by rw[hH1];exact get_ext H _ 2 (by simp)
 have l1:=get_live g1
 have l2:=get_live g2
 have l3:=get_live g3
 have n1:H1.next=H.next+3:=by rw[hH1];rfl
 have o1:Over H H1:=by rw[hH1];exact .ext _ _
 rw[<- hH1]
 refine AApply.clo (checkPolicy_spec d hf p hp _ _ ⟨trivial,?_⟩)
 by_cases hz:polErr d p=0
 rotate_left
 ·have hcell:(AVal.lit (.int .i64 (polErr d p))).cells=[.lit (.int .i64 (polErr d p))]:=rfl
  simp only[go_sem,hz,l3]
  have ef:fixR d p=netNil:=if_neg hz
  rw[ef]at hK
  refine FinV.dropO (v':=.tup [netNil,lin (polErr d p)]) G0_ok hcl (o1.upd (by omega) _) (.tup rfl fun i hi _=>?_) hK
  match i,hi with
  | 0,_ =>
   refine .agg rfl fun i hi _=>?_
   match i,hi with
   | 0,_=>exact .lit _
   | 1,_=>exact .nil
  | 1,_=>exact .lit _
 obtain⟨hok,hpo⟩:=polErr_zero.1 hz
 rw[hz]at hK ⊢
 simp only[go_sem,l1]
 refine AApply.clo (filled_spec d hf hok.n (fixC p) _ [H.next+1] _ (fun i hi=>by obtain rfl:=List.mem_singleton.1 hi;omega) rfl rfl (fun k r v x H2 hv hx hr ov=>?_) _ ⟨trivial,?_⟩)
 ·obtain⟨l,a,hl,ha,he,hb⟩:=polOk_get hpo hv hx hr
  rw[he]
  exact⟨hb,fix1_pcall p k r (H.next+1) l a hl ha H2 (by have:=ov.next;omega) ((ov.old _ (by omega)).trans g2)⟩
 ·simp only[go_sem,l3,netV,nodesV]
  have ef:fixR d p=netV d.grain (fillL d (fixC p)):=if_pos hz
  rw[ef]at hK
  refine FinV.dropO (v':=.tup [netV d.grain (fillL d (fixC p)),lin 0]) G0_ok hcl (o1.upd (by omega) _) (.tup rfl fun i hi _=>?_) hK
  match i,hi with
  | 0,_ =>
   refine .agg rfl fun i hi _=>?_
   match i,hi with
   | 0,_=>exact .lit _
   | 1,_=>exact fz_nodes _
  | 1,_=>exact .lit _
end Go.Proofs
namespace Go.Hx
variable {P:Program} {G:Nat->Option (List AVal)} {n:Nat} {rd:Option Nat} {Q:AX->St->Prop}
def WrN (N:Nat)(H1 H2:AHeap):Prop:=H1.next<=H2.next/\∀ id,id≠N->id<H1.next->H2.get id=H1.get id
def ItG (P:Program)(G:Nat->Option (List AVal))(f:FuncId)(first cap:List AVal)(xs:List (List AVal))(N:Nat)(S0:AHeap->Prop)(S:Nat->AHeap->Prop):Prop :=
 ∀ (idy:Nat) (J:Nat->AHeap->Prop) (Stop:AHeap->Prop) (H:AHeap) (K:ARes->AHeap->Prop),H.next=N ->
  (∀ k H1,J k H1->S0 H1)->(∀ k H1 H2,J k H1->WrN N H1 H2->J k H2)->J 0 H ->
  (∀ k x H1 K1,xs[k]?=some x->J k H1->S k H1->N<H1.next->(∀ H',J (k+1) H'->S k H'->H1.next<=H'.next->K1 (.ret (.lit (.bool true))) H')->(∀ H',Stop H'->H1.next<=H'.next->K1 (.ret (.lit (.bool false))) H')->AApply P G (.yld idy) x H1 K1) ->
  (∀ H',J xs.length H'->N<=H'.next->K (.ret (.tup [])) H') ->
  (∀ H',Stop H'->N<=H'.next->K (.ret (.tup [])) H') ->
  ACall P G f (first++[.yld idy]++cap) H K
theorem W.rangeItG {g:Operand}{ps:Array Tmp}{asg body:Code}{ρ:Env}{H:AHeap}{f:FuncId}{first cap:List AVal}{xs:List (List AVal)}{S0:AHeap->Prop}{S:Nat->AHeap->Prop}(hg:evA G ρ g=.clo f first cap)
  (hit:ItG P G f first cap xs (H.next+1) S0 S) (J:Nat->AHeap->Prop) (Stop:AX->AHeap->Prop) (hS:∀ k H1,J k H1->S0 H1) (hJw:∀ k H1 H2,J k H1->WrN (H.next+1) H1 H2->J k H2) (hlow:∀ k H1,J k H1->H.next<H1.next)
  (hJu:∀ k H1 b,J k H1->J k (H1.upd H.next b)) (hSu:∀ c H1 b,Stop c H1->Stop c (H1.upd H.next b)) (hSk:∀ k H1 b,S k H1->S k (H1.upd H.next b))
  (hJ0:∀ b,J 0 (ext H [b])) (hps:ps.toList.all (fun t=>decide (t<n))=true) (hxl:∀ x∈xs,x.length=ps.size)
  (hrd:∀ k H1,J k H1->RdIn H1 rd) (hrd2:∀ c H1,Stop c H1->RdIn H1 rd)
  (hround:∀ k x H1 B Bb,xs[k]?=some x->J k H1->S k H1->H.next+1<H1.next->H1.get H.next=some B->(∃ st pd n' en ps' as' bo,Bb=Blk.loop st pd n' en ps' as' bo) ->
   W P G n (some H.next) asg (asgIt P G n H.next B Bb H1.next body (fun H'=>J (k+1) H'/\S k H') Stop) ⟨setPs (envN ρ n) (ps.toList.zip x),H1⟩)
  (hend:∀ H',J xs.length H'->H.next+1<=H'.next->Q .normal ⟨ρ,H'⟩)
  (hret:∀ H',Stop .ret H'->H.next+1<=H'.next->Q .ret ⟨ρ,H'⟩) (hexit:∀ i H',Stop (.exit i) H'->H.next+1<=H'.next->Q (.exit i) ⟨ρ,H'⟩):
  W P G n rd (.rangeFunc g ps asg body) Q ⟨ρ,H⟩:=by
 refine W.rangeFunc (s:=⟨ρ,H⟩) hg ⟨_,lay_next _ _,?_⟩
 obtain⟨B,hB⟩:∃ B,B=Blk.loop .ready none n ρ ps asg body:=⟨_,rfl⟩
 obtain⟨Bb,hBb⟩:∃ B,B=Blk.loop .busy none n ρ ps asg body:=⟨_,rfl⟩
 have nx:(ext H [B]).next=H.next+1:=rfl
 show ACall P G f (first++[.yld H.next]++cap) (ext H [Blk.loop .ready none n ρ ps asg body]) (rangeQ rd Q ρ H.next)
 rw[<- hB]
 refine hit H.next (fun k H1=>H1.get H.next=some B/\J k H1) (fun H1=>∃ c pend,H1.get H.next=some (.loop .done (some pend) n ρ ps asg body)/\Stop c H1/\((c=.ret/\pend=.ret)\/∃ i,c=.exit i/\pend=.exit i)) _ _ nx
  (fun k H1 h=>hS k H1 h.2) (fun k H1 H2 h hw=>⟨(hw.2 _ (by omega) (hlow _ _ h.2)).trans h.1,hJw _ _ _ h.2 hw⟩) ⟨ext1_get_new,hJ0 B⟩ (fun k x H1 K1 hx hj hs hn hgo hst=>?_) (fun H' hj hn=>?_) (fun H' hj hn=>?_)
 ·have hxm:=hxl x (List.mem_of_getElem? hx)
  refine AApply.yld (hj.1.trans (congrArg some hB)) hxm hps ?_
  refine(hround k x H1 B Bb hx hj.2 hs hn hj.1 ⟨_,_,_,_,_,_,_,hBb⟩).mono fun e s1 h1=>?_
  cases e with
  | normal =>
   obtain⟨a1,a2⟩:=h1
   refine⟨Bb,by rw[a1,hB,hBb];rfl,?_⟩
   refine a2.mono fun e2 s2 h2=>?_
   cases e2 with
   | normal =>
    obtain⟨b1,b2,b3,b4⟩:=h2
    exact⟨B,by rw[b1,hB,hBb];rfl,hgo _ ⟨by rw[upd_get,if_pos rfl],hJu _ _ _ b3⟩ (hSk _ _ _ b4) b2⟩
   | ret =>
    obtain⟨b1,b2,b3⟩:=h2
    exact⟨.loop .done (some .ret) n ρ ps asg body,by rw[b1,hBb];rfl,hst _ ⟨.ret,.ret,by rw[upd_get,if_pos rfl],hSu _ _ _ b3,.inl ⟨rfl,rfl⟩⟩ b2⟩
   | exit i =>
    obtain⟨b1,b2,b3⟩:=h2
    exact⟨.loop .done (some (.exit i)) n ρ ps asg body,by rw[b1,hBb];rfl,hst _ ⟨.exit i,.exit i,by rw[upd_get,if_pos rfl],hSu _ _ _ b3,.inr ⟨i,rfl,rfl⟩⟩ b2⟩
   | _=>exact h2.elim
  | _=>exact h1.elim
 ·refine⟨hrd _ _ hj.2,(none,.loop .exhausted none n ρ ps asg body),by rw[hj.1,hB];rfl,?_⟩
  exact hend _ (hJu _ _ _ hj.2) hn
 ·obtain⟨c,pend,h1,h2,h3⟩:=hj
  refine⟨hrd2 _ _ h2,(some pend,.loop .exhausted (some pend) n ρ ps asg body),by rw[h1];rfl,?_⟩
  rcases h3 with ⟨rfl,rfl⟩|⟨i,rfl,rfl⟩
  ·exact hret _ (hSu _ _ _ h2) hn
  ·exact hexit i _ (hSu _ _ _ h2) hn
end Go.Hx
namespace Go.Proofs
open Go.Hx
theorem succL_at:∀ {cs vs:List Int} {k:Nat} {c v:Int},vs.length=cs.length->cs[k]?=some c->vs[k]?=some v->v+1<c->(∀ (j:Nat) (a b:Int),k<j->cs[j]?=some a->vs[j]?=some b->b=a - 1) ->
  succL cs vs=some (vs.take k++(v+1) :: (cs.drop (k+1)).map fun _=>0):=by
 have none_of:∀ {cs vs:List Int},vs.length=cs.length->(∀ (j:Nat) (a b:Int),cs[j]?=some a->vs[j]?=some b->b=a - 1)->succL cs vs=none:=by
  intro cs
  induction cs with
  | nil=>intro vs _ _;cases vs<;>rfl
  | cons c cs ih =>
   intro vs hl h
   cases vs with
   | nil=>rfl
   | cons v vs =>
    have h1:=ih (vs:=vs) (by simpa using hl) fun j a b ha hb=>h (j+1) a b (by simpa using ha) (by simpa using hb)
    have h2:=h 0 c v rfl rfl
    simp only[succL,h1]
    rw[if_neg (by omega)]
 intro cs
 induction cs with
 | nil=>intro vs k c v _ h;simp at h
 | cons x cs ih =>
  intro vs k c v hl hc hv hlt hmax
  cases vs with
  | nil=>simp at hv
  | cons y vs =>
   cases k with
   | zero =>
    simp only[List.getElem?_cons_zero,Option.some.injEq]at hc hv
    subst hc;subst hv
    have h1:=none_of (cs:=cs) (vs:=vs) (by simpa using hl) fun j a b ha hb=>hmax (j+1) a b (by omega) (by simpa using ha) (by simpa using hb)
    simp only[succL,h1]
    rw[if_pos hlt]
    simp
   | succ k =>
    have h1:=ih (vs:=vs) (k:=k) (by simpa using hl) (by simpa using hc) (by simpa using hv) hlt fun j a b hj ha hb=>hmax (j+1) a b (by omega) (by simpa using ha) (by simpa using hb)
    simp only[succL,h1]
    simp
theorem succL_none:∀ {cs vs:List Int},vs.length=cs.length->(∀ (j:Nat) (a b:Int),cs[j]?=some a->vs[j]?=some b->b=a - 1)->succL cs vs=none:=by
 intro cs
 induction cs with
 | nil=>intro vs _ _;cases vs<;>rfl
 | cons c cs ih =>
  intro vs hl h
  cases vs with
  | nil=>rfl
  | cons v vs =>
   have h1:=ih (vs:=vs) (by simpa using hl) fun j a b ha hb=>h (j+1) a b (by simpa using ha) (by simpa using hb)
   have h2:=h 0 c v rfl rfl
   simp only[succL,h1]
   rw[if_neg (by omega)]
def combX (cards:List Int)(N:Nat):List (List AVal):=(List.range (prodL cards).toNat).map fun (i:Nat)=>[lin (i:Int),.own N 0 0 cards.length 1]
theorem combX_get {cards:List Int}{N k:Nat}{x:List AVal}(h:(combX cards N)[k]?=some x):k<(prodL cards).toNat/\x=[lin k,.own N 0 0 cards.length 1]:=by
 unfold combX at h
 rw[List.getElem?_map]at h
 have hk:k<(prodL cards).toNat:=by
  rcases Nat.lt_or_ge k (prodL cards).toNat with h1|h1
  ·exact h1
  ·rw[List.getElem?_eq_none (by simpa using h1)]at h;simp at h
 rw[List.getElem?_range hk]at h
 simp at h
 exact⟨hk,h.symm⟩
theorem combX_of {cards:List Int}{N k:Nat}(h:k<(prodL cards).toNat):(combX cards N)[k]?=some [lin k,.own N 0 0 cards.length 1]:=by
 unfold combX;rw[List.getElem?_map,List.getElem?_range h];rfl
theorem combX_len (cards:List Int)(N:Nat):(combX cards N).length=(prodL cards).toNat:=by simp [combX]
def CombS (cards:List Int)(N k:Nat)(H:AHeap):Prop:=H.get N=some (.arr 0 3 (ints (valsL cards k)))
set_option maxHeartbeats 1000000 in
theorem comb_it (cards:List Int)(hc1:∀ c∈cards,1<=c)(hs:SmallC cards)(b N:Nat)(hbN:b<N):
  ItG Try.prog G0 82 [] [.ptr b 0 0] (combX cards N) N (fun H=>H.get b=some (.arr 0 52 [vecI cards])) (CombS cards N):=by
 intro idy J Stop H K hN hS0 hJw hJ0 hY hK hSt
 have l0:=get_live (hS0 0 H hJ0)
 have h12:=hs.1
 have hpp:=hs.prod
 have hp1:=prodL_pos hc1
 show ACall _ _ _ ([.yld idy]++[.ptr b 0 0]) _ _
 refine ACall.of_body (n:=45) (rs:=[]) Try.func82 rfl rfl rfl (by decide) (by kernel_rfl) (by simp) ?_
 simp only[go_sem,l0]
 refine⟨by omega,?_⟩
 have fitI:∀ i:Nat,FitsC cards (valsL cards i):=fun i=>fits_vals hc1 _
 have idxI:∀ i:Nat,i<(prodL cards).toNat->idxL cards (valsL cards i)=i:=fun i hi=>idx_vals hc1 (by omega) (by omega)
 subst hN
 refine W.loop0 35184372088368 (by rfl) (fun ρ H'=>∃ i:Nat,ρ 4=lin i/\i<(prodL cards).toNat/\J i H'/\CombS cards H.next i H'/\H.next+1<=H'.next) (fun ρ H=>(prodL cards).toNat - (iv (ρ 4)).toNat) ?_ ?_
 ·simp only[go_sem]
  refine⟨0,rfl,by omega,hJw 0 H _ hJ0 ⟨by rw[ext_next];omega,fun id _ h=>get_ext_old _ _ _ h⟩,?_⟩
  show (ext H _).get H.next=_
  rw[get_ext0]
  have:valsL cards ((0:Nat):Int)=List.replicate cards.length 0:=by
   rw[show ((0:Nat):Int)=0 from rfl,vals_zero hc1];exact List.map_const' ..
  rw[this];simp [ints,lin]
 rintro ρ H' ⟨i,h4,hi,hj,hcs,hn⟩
 refine W.env fun E hE=>?_
 have e1:E 1=.ptr b 0 0:=by rw[hE];simp only[go_sem]
 have e0:E 0=.yld idy:=by rw[hE];simp only[go_sem]
 have e3:E 3=.own H.next 0 0 cards.length 1:=by rw[hE];simp only[go_sem]
 have e4:E 4=lin i:=by rw[hE];simp only[go_sem,h4]
 clear hE
 refine vc_sound _ _ _ (by rfl) ?_
 simp only[go_sem,e0,e3,e4]
 refine hY i [lin i,.own H.next 0 0 cards.length 1] H' _ (combX_of hi) hj hcs (by omega) (fun H2 hj2 hcs2 hn2=>⟨trivial,?_⟩) (fun H2 hs2 hn2=>⟨trivial,?_⟩)
 rotate_left
 ·simp only[go_sem]
  exact FinV.mk (by omega) (hSt H2 hs2 (by omega))
 have hb2:=hS0 _ _ hj2
 have lb:=get_live hb2
 have w0:=IntWalk.i64_in ((cards.length:Int) - 1) (by omega)
 obtain⟨vs,hvs⟩:∃ vs,vs=valsL cards i:=⟨_,rfl⟩
 have hvl:vs.length=cards.length:=by rw[hvs,valsL_len]
 have hfit:FitsC cards vs:=by rw[hvs];exact fitI i
 have hsucc:=succ_vals hfit
 rw[show idxL cards vs=i from by rw[hvs];exact idxI i hi]at hsucc
 simp only[go_sem,e1,lb,w0]
 refine W.loop0 137438691360 (by rfl) (fun ρ2 H4=>∃ m:Nat,ρ2 5=lin ((m:Int) - 1)/\m<=cards.length/\WrN H.next H2 H4/\H4.get H.next=some (.arr 0 3 (ints (vs.take m++(cards.drop m).map fun _=>0)))/\(∀ (j:Nat) (a b:Int),m<=j->cards[j]?=some a->vs[j]?=some b->b=a - 1))
  (fun ρ2 H=>(iv (ρ2 5)+1).toNat) ?_ ?_
 ·simp only[go_sem]
  refine⟨cards.length,rfl,by omega,⟨Nat.le_refl _,fun _ _ _=>rfl⟩,?_,fun j a b hm ha=>?_⟩
  ·have hg:H2.get H.next=_:=hcs2
   rw[<- hvs]at hg
   rw[hg,List.take_of_length_le (by omega),List.drop_of_length_le (by omega)];simp
  ·have:=get_lt ha;omega
 rintro ρ2 H4 ⟨m,h5,hm,hw,hg,hmax⟩
 refine W.env fun E2 hE2=>?_
 have f1:E2 1=.ptr b 0 0:=by rw[hE2];simp only[go_sem,e1]
 have f3:E2 3=.own H.next 0 0 cards.length 1:=by rw[hE2];simp only[go_sem,e3]
 have f4:E2 4=lin i:=by rw[hE2];simp only[go_sem,e4]
 have f5:E2 5=lin ((m:Int) - 1):=by rw[hE2];simp only[go_sem,h5]
 clear hE2
 refine vc_sound _ _ _ (by rfl) ?_
 have hw1:=hw.1
 have lN:=get_live hg
 have lb4:=get_live ((hw.2 b (by omega) (by omega)).trans hb2)
 have hj4:J (i+1) H4:=hJw _ _ _ hj2 hw
 have clen:(vs.take m++(cards.drop m).map fun _=>(0:Int)).length=cards.length:=by simp;omega
 by_cases hm0:m=0
 ·subst hm0
  have f5':E2 5=lin (-1):=f5
  have hnone:=succL_none hvl fun j a b ha hb=>hmax j a b (Nat.zero_le _) ha hb
  rw[hnone]at hsucc
  have htot:¬ (i:Int)+1<prodL cards:=fun h=>by rw[if_pos h]at hsucc;cases hsucc
  have hti:i+1=(combX cards H.next).length:=by rw[combX_len];omega
  simp only[go_sem]
  refine W.draw 12 [0,1,3,7,7,31,63,7,7,391,903,1927] Try.mixed (by kernel_rfl) (by kernel_rfl) ?_
  simp only[go_sem,f5']
  exact FinV.mk (by omega) (hK H4 (by rw[<- hti];exact hj4) (by omega))
 obtain⟨k,rfl⟩:∃ k,m=k+1:=⟨m - 1,by omega⟩
 have f5':E2 5=lin k:=by rw[f5];congr 1;omega
 obtain⟨c,hck⟩:=get_of_lt (l:=cards) (i:=k) (by omega)
 obtain⟨v,hvk⟩:=get_of_lt (l:=vs) (i:=k) (by omega)
 have hne:=ne_of_get hck
 have hr:=hfit.2 k c v hck hvk
 have hcs8:=hs.2 c (List.mem_of_getElem? hck)
 have hvk':(vs.take (k+1)++(cards.drop (k+1)).map fun _=>(0:Int))[k]?=some v:=by
  rw[List.getElem?_append_left (by simp;omega),List.getElem?_take_of_lt (by omega)];exact hvk
 have hk0:(k:Int) >= 0:=by omega
 have hkc:(k:Int)<cards.length:=by omega
 have w1:=IntWalk.i64_in (c - 1) (by omega)
 have w2:=IntWalk.i64_in ((k:Int) - 1) (by omega)
 have w3:=IntWalk.i64_in (v+1) (by omega)
 have w4:=IntWalk.i64_in ((i:Int)+1) (by omega)
 have hk1:¬ (k:Int)<0:=by omega
 by_cases hv:v=c - 1
 ·simp only[go_sem]
  refine W.draw 12 [0,1,3,7,7,31,63,7,7,391,903,1927] Try.mixed (by kernel_rfl) (by kernel_rfl) ?_
  simp only[go_sem,f1,f3,f5',hk0,hkc,lN,lb4,hvk',hck,hne,w1,w2,hv]
  refine⟨by rw[<- List.length_append,clen];omega,by rw[upd_next];omega,⟨k,rfl,by omega,⟨by rw[upd_next];exact hw.1,fun id h1 h2=>by rw[upd_get,if_neg h1];exact hw.2 id h1 h2⟩,?_,fun j a b hj ha hb=>?_⟩,?_⟩
  ·rw[upd_get,if_pos rfl,setAt_ints (by rw[clen];omega)]
   congr 3
   rw[take_succ_get hvk,List.append_assoc,List.set_append_right _ _ (by simp;omega),drop_of_get hck]
   simp
   rw[show k - min k vs.length=0 by omega]
   rfl
  ·rcases Nat.lt_or_ge k j with h|h
   ·exact hmax j a b (by omega) ha hb
   ·obtain rfl:j=k:=by omega
    rw[hck]at ha;rw[hvk]at hb
    cases ha;cases hb;exact hv
  ·rw[h5];simp only[lin,iv_int];omega
 ·simp only[go_sem]
  refine W.draw 12 [0,1,3,7,7,31,63,7,7,391,903,1927] Try.mixed (by kernel_rfl) (by kernel_rfl) ?_
  simp only[go_sem,f1,f3,f4,f5',hk0,hk1,hkc,lN,lb4,hvk',hck,hne,w1,w3,w4,hv]
  have hat:=succL_at hvl hck hvk (by omega) fun j a b hj ha hb=>hmax j a b (by omega) ha hb
  rw[hat]at hsucc
  have hlt:(i:Int)+1<prodL cards:=by
   refine Classical.byContradiction fun h=>?_
   rw[if_neg h]at hsucc;cases hsucc
  rw[if_pos hlt]at hsucc
  have hw5:WrN H.next H2 (H4.upd H.next (.arr 0 3 (setAt (ints (vs.take (k+1)++(cards.drop (k+1)).map fun _=>(0:Int))) k [.lit (.int .i64 (v+1))]))):=⟨by rw[upd_next];exact hw.1,fun id h1 h2=>by rw[upd_get,if_neg h1];exact hw.2 id h1 h2⟩
  refine⟨by rw[<- List.length_append,clen];omega,by rw[upd_next];omega,⟨i+1,by simp,by omega,hJw _ _ _ hj2 hw5,?_,by rw[upd_next];omega⟩,?_⟩
  ·show (H4.upd H.next _).get H.next=_
   rw[upd_get,if_pos rfl,setAt_ints (by rw[clen];omega)]
   congr 3
   have e:valsL cards ((i+1:Nat):Int)=vs.take k++(v+1) :: (cards.drop (k+1)).map fun _=>0:=by
    have:=Option.some.inj hsucc
    rw[show ((i+1:Nat):Int)=(i:Int)+1 by omega]
    exact this.symm
   rw[e,take_succ_get hvk,List.append_assoc,List.set_append_right _ _ (by simp;omega)]
   simp
   rw[show k - min k vs.length=0 by omega]
   rfl
  ·rw[h4];simp only[lin,iv_int];omega
theorem comb_clo (cards:List Int)(H:AHeap)(K:ARes->AHeap->Prop)(hK:K (.ret (.clo 82 [] [.ptr H.next 0 0])) (ext H [.arr 0 52 [vecI cards]])):
  ACall Try.prog G0 62 [vecI cards] H K:=by
 refine ACall.of_body (n:=4) (rs:=[.tmp 2]) Try.func62 rfl rfl rfl (by decide) (by kernel_rfl) (by simp) ?_
 simp only[go_sem]
 exact FinV.mk (by simp [ext_next]) hK
end Go.Proofs
/-
  Weights of worlds, utilities, sums. Plain: no program stands in this text. No conditions.
-/
namespace Go.Proofs
open Go.Hx
def rowV (ns:List NodeP)(x:NodeP)(vals:List Int):List Int:=x.rows.getD (idxL (parC ns x) (atL vals x.parents)).toNat []
def wgtN (ns:List NodeP)(vals:List Int)(v:Nat):Int:=match ns[v]? with
 | some x=>(rowV ns x vals).getD (vals.getD v 0).toNat 0
 | none=>1
def wgtL (ns:List NodeP)(vals:List Int):List Int:=(List.range ns.length).map (wgtN ns vals)
def weight (ns:List NodeP)(vals:List Int):Int:=prodL (wgtL ns vals)
def worlds (ns:List NodeP):Nat:=(prodL (cardsL ns)).toNat
def wtsL (ns:List NodeP):List Int:=(List.range (worlds ns)).map fun (i:Nat)=>weight ns (valsL (cardsL ns) (i:Int))
def utilU (ns:List NodeP)(vals:List Int)(u:UtilP):Int:=u.w.getD (idxL (atL (cardsL ns) u.vars) (atL vals u.vars)).toNat 0
def utilV (ns:List NodeP)(us:List UtilP)(vals:List Int):Int:=(us.map (utilU ns vals)).sum
def sumW (ns:List NodeP)(us:List UtilP)(k:Nat):Int:=((List.range k).map fun (i:Nat)=>weight ns (valsL (cardsL ns) i)*utilV ns us (valsL (cardsL ns) i)).sum
theorem sumW_succ (ns:List NodeP)(us:List UtilP)(k:Nat):sumW ns us (k+1)=sumW ns us k+weight ns (valsL (cardsL ns) k)*utilV ns us (valsL (cardsL ns) k):=by
 unfold sumW;rw[List.range_succ];simp
theorem wgtL_len (ns:List NodeP)(vals:List Int):(wgtL ns vals).length=ns.length:=by simp [wgtL]
theorem wgtL_get {ns:List NodeP}{vals:List Int}{v:Nat}(h:v<ns.length):(wgtL ns vals)[v]?=some (wgtN ns vals v):=by
 unfold wgtL;rw[List.getElem?_map,List.getElem?_range h];rfl
end Go.Proofs
