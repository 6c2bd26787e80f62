/-
  Closed facts of this seat's types. Laid by a program of ours.
-/
import Derived.Test.YtakancljiekbhaaProg
import Derived.Test.YtakancljiekbhaaLibC
import Derived.Test.YtakancljiekbhaaLibB
set_option linter.all false
namespace Go.Proofs
open Go.Hx
theorem Try.mixed:Try.prog.follows .mixedOrders=true:=by kernel_rfl
theorem Try.dT:Try.prog.cellsOf 3=1:=by kernel_rfl
theorem Try.fh:Try.prog.bytesOf 3=8:=by kernel_rfl
theorem Try.eG:bP Try.prog 3=some [.lit (.int .i64 0)]:=by kernel_rfl
theorem Try.MG:Try.prog.cellsOf 4=1:=by kernel_rfl
theorem Try.MH:bP Try.prog 4=some [.lit (.bool false)]:=by kernel_rfl
theorem Try.oR:Try.prog.cellsOf 5=1:=by kernel_rfl
theorem Try.MI:Try.prog.bytesOf 5=1:=by kernel_rfl
theorem Try.MJ:bP Try.prog 5=some [.lit (.int .u8 0)]:=by kernel_rfl
theorem Try.BL:Try.prog.cellsOf 22=1:=by kernel_rfl
theorem Try.tJ:Try.prog.cellsOf 23=1:=by kernel_rfl
theorem Try.BM:Try.prog.cellsOf 25=3:=by kernel_rfl
theorem Try.MK:bJ Try.prog 25 0=some (0,5):=by kernel_rfl
theorem Try.ML:bJ Try.prog 25 1=some (1,22):=by kernel_rfl
theorem Try.MM:bJ Try.prog 25 2=some (2,23):=by kernel_rfl
theorem Try.BN:Try.prog.cellsOf 27=4:=by kernel_rfl
theorem Try.MN:bJ Try.prog 27 0=some (0,5):=by kernel_rfl
theorem Try.MO:bJ Try.prog 27 1=some (1,5):=by kernel_rfl
theorem Try.MP:bJ Try.prog 27 2=some (2,5):=by kernel_rfl
theorem Try.MQ:bJ Try.prog 27 3=some (3,3):=by kernel_rfl
theorem Try.BO:Try.prog.cellsOf 28=1:=by kernel_rfl
theorem Try.BP:Try.prog.cellsOf 30=3:=by kernel_rfl
theorem Try.MR:bJ Try.prog 30 0=some (0,5):=by kernel_rfl
theorem Try.MS:bJ Try.prog 30 1=some (1,5):=by kernel_rfl
theorem Try.MT:bJ Try.prog 30 2=some (2,3):=by kernel_rfl
theorem Try.MU:Try.prog.cellsOf 32=12:=by kernel_rfl
theorem Try.MV:bJ Try.prog 32 0=some (0,25):=by kernel_rfl
theorem Try.MW:bJ Try.prog 32 1=some (3,27):=by kernel_rfl
theorem Try.MX:bJ Try.prog 32 2=some (7,28):=by kernel_rfl
theorem Try.MY:bJ Try.prog 32 3=some (8,23):=by kernel_rfl
theorem Try.MZ:bJ Try.prog 32 4=some (9,30):=by kernel_rfl
theorem Try.M0:Try.prog.cellsOf 33=1:=by kernel_rfl
theorem Try.M3:Try.prog.cellsOf 35=2:=by kernel_rfl
theorem Try.M4:bP Try.prog 35=some [.lit (.int .i64 0),.lit (.slice none 0 0)]:=by kernel_rfl
theorem Try.M5:jD Try.prog 35=some [(0,1),(1,1)]:=by kernel_rfl
theorem Try.M6:bJ Try.prog 35 0=some (0,3):=by kernel_rfl
theorem Try.M7:bJ Try.prog 35 1=some (1,33):=by kernel_rfl
theorem Try.M8:bP Try.prog 38=some [.lit (.int .i64 0),.lit (.slice none 0 0),.lit (.int .i64 0),.lit (.slice none 0 0)]:=by kernel_rfl
theorem Try.mE:Try.prog.cellsOf 39=1:=by kernel_rfl
theorem Try.mF:Try.prog.bytesOf 39=24:=by kernel_rfl
theorem Try.mG:bP Try.prog 39=some [.lit (.slice none 0 0)]:=by kernel_rfl
theorem Try.M9:Try.prog.cellsOf 40=1:=by kernel_rfl
theorem Try.Na:Try.prog.cellsOf 42=2:=by kernel_rfl
theorem Try.Nb:bP Try.prog 42=some [.lit (.slice none 0 0),.lit (.slice none 0 0)]:=by kernel_rfl
theorem Try.Nc:jD Try.prog 42=some [(0,1),(1,1)]:=by kernel_rfl
theorem Try.Nd:bJ Try.prog 42 0=some (0,39):=by kernel_rfl
theorem Try.Nf:bJ Try.prog 42 1=some (1,40):=by kernel_rfl
theorem Try.Ng:Try.prog.cellsOf 43=6:=by kernel_rfl
theorem Try.Nh:bP Try.prog 43=some [.lit (.slice none 0 0),.lit (.slice none 0 0),.lit (.slice none 0 0),.lit (.slice none 0 0),.lit (.slice none 0 0),.lit (.slice none 0 0)]:=by kernel_rfl
theorem Try.BQ:Try.prog.cellsOf 45=1:=by kernel_rfl
theorem Try.BR:Try.prog.bytesOf 45=8:=by kernel_rfl
theorem Try.BS:bP Try.prog 45=some [.lit (.int .u64 0)]:=by kernel_rfl
theorem Try.Ni:bP Try.prog 46=some [.lit (.int .i64 0),.lit (.int .i64 0)]:=by kernel_rfl
theorem Try.xA:Try.prog.cellsOf 69=3:=by kernel_rfl
theorem Try.xB:Try.prog.bytesOf 69=56:=by kernel_rfl
theorem Try.xC:bP Try.prog 69=some [.lit (.int .i64 0),.lit (.slice none 0 0),.lit (.slice none 0 0)]:=by kernel_rfl
theorem Try.Nj:jD Try.prog 69=some [(0,1),(1,1),(2,1)]:=by kernel_rfl
theorem Try.Nk:bJ Try.prog 69 0=some (0,3):=by kernel_rfl
theorem Try.Nl:bJ Try.prog 69 1=some (1,39):=by kernel_rfl
theorem Try.Nm:bJ Try.prog 69 2=some (2,40):=by kernel_rfl
theorem Try.Nn:Try.prog.cellsOf 78=1:=by kernel_rfl
theorem Try.BU:Try.prog.cellsOf 81=1:=by kernel_rfl
theorem Try.No:Try.prog.cellsOf 83=3:=by kernel_rfl
theorem Try.Np:bP Try.prog 83=some [.lit (.slice none 0 0),.lit (.int .u16 0),.lit (.slice none 0 0)]:=by kernel_rfl
theorem Try.Nq:jD Try.prog 83=some [(0,1),(1,1),(2,1)]:=by kernel_rfl
theorem Try.Nr:bJ Try.prog 83 0=some (0,23):=by kernel_rfl
theorem Try.Ns:bJ Try.prog 83 2=some (2,23):=by kernel_rfl
theorem Try.BV:Try.prog.cellsOf 86=3:=by kernel_rfl
theorem Try.Nt:bP Try.prog 86=some [.lit (.int .u8 0),.lit (.int .u8 0),.lit (.slice none 0 0)]:=by kernel_rfl
theorem Try.Nu:bJ Try.prog 86 0=some (0,5):=by kernel_rfl
theorem Try.Nv:bJ Try.prog 86 1=some (1,5):=by kernel_rfl
theorem Try.Nw:bJ Try.prog 86 2=some (2,23):=by kernel_rfl
theorem Try.Nx:Try.prog.cellsOf 106=1:=by kernel_rfl
theorem Try.Ny:bP Try.prog 106=some [.lit .nilFunc]:=by kernel_rfl
theorem Try.Nz:Try.prog.cellsOf 111=1:=by kernel_rfl
theorem Try.NA:Try.prog.cellsOf 127=3:=by kernel_rfl
theorem Try.NB:bP Try.prog 127=some [.lit (.int .i64 0),.lit (.slice none 0 0),.lit (.slice none 0 0)]:=by kernel_rfl
theorem Try.NC:jD Try.prog 127=some [(0,2),(2,1)]:=by kernel_rfl
theorem Try.ND:bJ Try.prog 127 0=some (0,35):=by kernel_rfl
theorem Try.NF:bJ Try.prog 127 1=some (2,39):=by kernel_rfl
theorem Try.NG:Try.prog.cellsOf 145=5:=by kernel_rfl
theorem Try.NH:bP Try.prog 145=some [.lit (.int .i64 0),.lit (.slice none 0 0),.lit (.slice none 0 0),.lit (.slice none 0 0),.lit (.slice none 0 0)]:=by kernel_rfl
theorem Try.NI:jD Try.prog 145=some [(0,2),(2,1),(3,1),(4,1)]:=by kernel_rfl
theorem Try.NJ:bJ Try.prog 145 0=some (0,35):=by kernel_rfl
theorem Try.NK:bJ Try.prog 145 1=some (2,39):=by kernel_rfl
theorem Try.NL:bJ Try.prog 145 2=some (3,78):=by kernel_rfl
theorem Try.NM:bJ Try.prog 145 3=some (4,39):=by kernel_rfl
theorem Try.NN:Try.prog.cellsOf 167=1:=by kernel_rfl
theorem Try.NO:bP Try.prog 167=some [.lit (.int .u64 0)]:=by kernel_rfl
attribute [go_sem] Try.underlying3 Try.dT Try.fh Try.eG Try.underlying4 Try.MG Try.MH Try.underlying5 Try.oR Try.MI Try.MJ
attribute [go_sem] Try.underlying9 Try.underlying22 Try.BL Try.underlying23 Try.tJ
attribute [go_sem] Try.underlying24 Try.underlying25 Try.BM
attribute [go_sem] Try.MK Try.ML Try.MM Try.underlying26
attribute [go_sem] Try.underlying27 Try.BN Try.MN Try.MO Try.MP Try.MQ Try.underlying28 Try.BO
attribute [go_sem] Try.underlying29 Try.underlying30 Try.BP
attribute [go_sem] Try.MR Try.MS Try.MT Try.underlying31
attribute [go_sem] Try.underlying32 Try.MU Try.MV Try.MW Try.MX
attribute [go_sem] Try.MY Try.MZ Try.underlying33 Try.M0 Try.underlying34
attribute [go_sem] Try.underlying35 Try.M3 Try.M4 Try.M5 Try.M6 Try.M7 Try.underlying38 Try.M8
attribute [go_sem] Try.underlying39 Try.mE Try.mF Try.mG Try.underlying40 Try.M9 Try.underlying41
attribute [go_sem] Try.underlying42 Try.Na Try.Nb Try.Nc Try.Nd Try.Nf Try.underlying43 Try.Ng
attribute [go_sem] Try.Nh Try.underlying45 Try.BQ Try.BR Try.BS Try.underlying46 Try.Ni Try.underlying47
attribute [go_sem] Try.underlying62 Try.underlying68
attribute [go_sem] Try.underlying69 Try.xA Try.xB Try.xC Try.Nj Try.Nk Try.Nl Try.Nm Try.underlying78 Try.Nn
attribute [go_sem] Try.underlying81 Try.BU Try.underlying82
attribute [go_sem] Try.underlying83 Try.No Try.Np Try.Nq Try.Nr Try.Ns Try.underlying85
attribute [go_sem] Try.underlying86 Try.BV Try.Nt Try.Nu
attribute [go_sem] Try.Nv Try.Nw Try.underlying99 Try.underlying100 Try.underlying104
attribute [go_sem] Try.underlying106 Try.Nx Try.Ny Try.underlying111 Try.Nz Try.underlying118
attribute [go_sem] Try.underlying122 Try.underlying126
attribute [go_sem] Try.underlying127 Try.NA Try.NB Try.NC Try.ND Try.NF Try.underlying132
attribute [go_sem] Try.underlying144 Try.underlying145 Try.NG
attribute [go_sem] Try.NH Try.NI Try.NJ Try.NK Try.NL Try.NM Try.underlying156 Try.underlying164
attribute [go_sem] Try.underlying167 Try.NN Try.NO
def aC (l:List (List Int)):AVal:=.vec l.length (l.map ae)
structure NodeP where
 card:Int
 parents:List Int
 rows:List (List Int)
structure UtilP where
 vars:List Int
 w:List Int
def NodeP.cells (x:NodeP):List AVal:=[aa x.card,ae x.parents,aC x.rows]
def UtilP.cells (x:UtilP):List AVal:=[ae x.vars,ae x.w]
def az (l:List NodeP):List AVal:=(l.map NodeP.cells).flatten
def Om (l:List UtilP):List AVal:=(l.map UtilP.cells).flatten
def cH (l:List NodeP):AVal:=.vec l.length (az l)
def xI (l:List UtilP):AVal:=.vec l.length (Om l)
def aY (g:Int)(l:List NodeP):AVal:=.agg [aa g,cH l]
structure InfP where
 grain:Int
 nodes:List NodeP
 decs:Nat
 utils:List UtilP
theorem jX {α:Type}{f:α->List AVal}{z:Nat}(hz:∀ a,(f a).length=z):∀ (l:List α) (i j:Nat) (a:α),l[i]?=some a->j<z->((l.map f).flatten)[i*z+j]?=(f a)[j]?:=by
 intro l
 induction l with
 | nil=>intro i j a h;simp at h
 | cons x l ih =>
  intro i j a h hj;simp only[List.map_cons,List.flatten_cons];cases i with
  | zero =>
   simp only[List.getElem?_cons_zero,Option.some.injEq]at h;subst h;rw[Nat.zero_mul,Nat.zero_add,List.getElem?_append_left (by rw[hz];exact hj)]
  | succ i =>
   have:(i+1)*z+j=z+(i*z+j):=(by rw[Nat.add_mul];omega);rw[this,List.getElem?_append_right (by rw[hz];omega),hz];have:z+(i*z+j) - z=i*z+j:=(by omega);rw[this];exact ih i j a (by simpa using h) hj
theorem lG {α:Type}{f:α->List AVal}{z:Nat}(hz:∀ a,(f a).length=z)(l:List α):((l.map f).flatten).length=l.length*z:=by
 induction l with
 | nil=>simp
 | cons x l ih=>simp only[List.map_cons,List.flatten_cons,List.length_append,ih,hz,List.length_cons];rw[Nat.add_mul];omega
theorem oS {α:Type}{f:α->List AVal}{z:Nat}(hz:∀ a,(f a).length=z):∀ (l:List α) (i:Nat) (a:α),l[i]?=some a->(((l.map f).flatten).drop (i*z)).take z=f a:=by
 intro l i a h;apply List.ext_getElem?;intro j;by_cases hj:j<z
 ·rw[List.getElem?_take_of_lt hj,List.getElem?_drop,jX hz l i j a h hj]
 ·rw[List.getElem?_eq_none (by simp;omega),List.getElem?_eq_none (by rw[hz];omega)]
theorem jq (l:List NodeP):(az l).length=l.length*3:=lG (f:=NodeP.cells) (fun _=>rfl) l
theorem js {l:List NodeP}{i:Nat}{x:NodeP}(h:l[i]?=some x):(az l)[i*3]?=some (aa x.card):=jX (f:=NodeP.cells) (z:=3) (fun _=>rfl) l i 0 x h (by omega)
theorem lH {l:List NodeP}{i:Nat}{x:NodeP}(h:l[i]?=some x):(az l)[i*3+1]?=some (ae x.parents):=jX (f:=NodeP.cells) (z:=3) (fun _=>rfl) l i 1 x h (by omega)
theorem oT {l:List NodeP}{i:Nat}{x:NodeP}(h:l[i]?=some x):(az l)[i*3+2]?=some (aC x.rows):=jX (f:=NodeP.cells) (z:=3) (fun _=>rfl) l i 2 x h (by omega)
theorem mI {l:List NodeP}{i:Nat}{x:NodeP}(h:l[i]?=some x):((az l).drop (i*3)).take 3=[aa x.card,ae x.parents,aC x.rows]:=oS (f:=NodeP.cells) (z:=3) (fun _=>rfl) l i x h
theorem eS {l:List NodeP}{i:Nat}{x:NodeP}(h:l[i]?=some x):¬ az l=[]:=fun e=>by
 have:=js h;rw[e]at this;simp at this
theorem get_lt {α:Type}{l:List α}{i:Nat}{x:α}(h:l[i]?=some x):i<l.length:=by
 rcases Nat.lt_or_ge i l.length with h'|h'
 ·exact h'
 ·rw[List.getElem?_eq_none h']at h;cases h
theorem get_of_lt {α:Type}{l:List α}{i:Nat}(h:i<l.length):∃ x,l[i]?=some x:=⟨_,List.getElem?_eq_getElem h⟩
theorem mJ {α:Type}{l:List α}{i:Int}(h0:0<=i)(h:i<l.length):∃ k:Nat,i=k/\∃ x,l[k]?=some x:=⟨i.toNat,by omega,get_of_lt (by omega)⟩
def au (l:List Int):Int:=l.foldl (·*·) 1
theorem B4 (l:List Int)(a:Int):l.foldl (·*·) a=a*au l:=by
 unfold au
 induction l generalizing a with
 | nil=>simp
 | cons x l ih=>simp only[List.foldl_cons];rw[ih,ih (1*x),Int.one_mul,Int.mul_assoc]
theorem fj:au []=1:=rfl
theorem fE (x:Int)(l:List Int):au (x :: l)=x*au l:=by
 show List.foldl _ (1*x) l=_;rw[B4,Int.one_mul]
theorem tL (l l':List Int):au (l++l')=au l*au l':=by
 unfold au;rw[List.foldl_append,B4];rfl
theorem fR (l:List Int)(x:Int):au (l++[x])=au l*x:=by rw[tL,fE,fj,Int.mul_one]
theorem aL {α:Type}{l:List α}{k:Nat}{x:α}(h:l[k]?=some x):l.take (k+1)=l.take k++[x]:=by
 rw[List.take_add_one,h];rfl
theorem iR {l:List Int}(h:∀ x∈l,1<=x):1<=au l:=by
 induction l with
 | nil=>decide
 | cons x l ih =>
  rw[fE];have h1:=ih fun y hy=>h y (by simp [hy]);have h2:=h x (by simp);have:=Int.mul_le_mul h2 h1 (by omega) (by omega);simpa using this
theorem mK {b:Int}{l:List Int}(hb:0<=b)(h:∀ x∈l,0<=x/\x<=b):0<=au l/\au l<=b ^ l.length:=by
 induction l with
 | nil=>exact⟨by decide,by simp [au]⟩
 | cons x l ih =>
  rw[fE];have h1:=ih fun y hy=>h y (by simp [hy]);have h2:=h x (by simp);refine⟨Int.mul_nonneg h2.1 h1.1,?_⟩;have:=Int.mul_le_mul h2.2 h1.2 h1.1 hb;rw[List.length_cons,Int.pow_succ,Int.mul_comm (b ^ l.length)];exact this
def ar (l:List NodeP):List Int:=l.map (·.card)
def aS (l places:List Int):List Int:=places.map fun p=>l.getD p.toNat 0
def dk (places:List Int)(n:Int):Prop:=places.Pairwise (·<·)/\∀ p∈places,0<=p/\p<n
end Go.Proofs
set_option maxRecDepth 100000
namespace Go.Proofs
open Go.Hx
def G0:Nat->Option (List AVal):=qs
theorem aP:fV G0:=KK
end Go.Proofs
namespace Go.Hx
variable {P:Program} {G:Nat->Option (List AVal)} {Γ Γ':aB} {H H':AHeap} {w w':World}
theorem W.env {n:Nat}{rd:Option Nat}{Q:AX->St->Prop}{c:Code}{ρ:Env}{H:AHeap}(h:∀ E,E=ρ->W P G n rd c Q ⟨E,H⟩):W P G n rd c Q ⟨ρ,H⟩:=h ρ rfl
theorem Below.mono {n m:Nat}{v:AVal}(h:Below n v)(hm:n<=m):Below m v:=by
 induction h with
 | lit v=>exact .lit v
 | vec h ih=>exact .vec ih
 | vptr h ih=>exact .vptr ih
 | agg h ih=>exact .agg ih
 | tup h ih=>exact .tup ih
 | clo h1 h2 ih1 ih2=>exact .clo ih1 ih2
 | own h=>exact .own (by omega)
 | ptr h=>exact .ptr (by omega)
 | yld h=>exact .yld (by omega)
theorem iu {l:List AVal}{i:Nat}{x:AVal}(h:i<l.length):setAt l i [x]=l.set i x:=by
 unfold setAt;rw[List.set_eq_take_append_cons_drop,if_pos h];simp
section
variable {t:TypeId} {x y:Operand} {k k':IntKind} {a b:Int}
theorem qS (hb:0<=b):aW P .shr t x y (.lit (.int k a)) (.lit (.int k' b))=some (.lit (.int k (a.fdiv (2 ^ (min b.toNat k.bits))))):=by
 have h:¬ b<0:=by omega
 simp [aW,AVal.bV,eqGuard,binOp,Op.shift,h,cJ,bind,Sem.bind,pure]
theorem pg (hb:0<=b):aW P .shl t x y (.lit (.int k a)) (.lit (.int k' b))=some (.lit (.int k (k.wrap (a*2 ^ (min b.toNat k.bits))))):=by
 have h:¬ b<0:=by omega
 simp [aW,AVal.bV,eqGuard,binOp,Op.shift,h,cJ,bind,Sem.bind,pure]
theorem ue:aW P .and t x y (.lit (.int k a)) (.lit (.int k b))=some (.lit (.int k (k.wrap ((BitVec.ofInt k.bits a &&& BitVec.ofInt k.bits b).toNat:Nat)))):=by
 simp [aW,AVal.bV,eqGuard,binOp,Op.intBits,cJ,bind,Sem.bind,pure]
theorem PT:aW P .or t x y (.lit (.int k a)) (.lit (.int k b))=some (.lit (.int k (k.wrap ((BitVec.ofInt k.bits a ||| BitVec.ofInt k.bits b).toNat:Nat)))):=by
 simp [aW,AVal.bV,eqGuard,binOp,Op.intBits,cJ,bind,Sem.bind,pure]
theorem PU:aW P .xor t x y (.lit (.int k a)) (.lit (.int k b))=some (.lit (.int k (k.wrap ((BitVec.ofInt k.bits a ^^^ BitVec.ofInt k.bits b).toNat:Nat)))):=by
 simp [aW,AVal.bV,eqGuard,binOp,Op.intBits,cJ,bind,Sem.bind,pure]
theorem PV:aW P .andNot t x y (.lit (.int k a)) (.lit (.int k b))=some (.lit (.int k (k.wrap ((BitVec.ofInt k.bits a &&& ~~~ BitVec.ofInt k.bits b).toNat:Nat)))):=by
 simp [aW,AVal.bV,eqGuard,binOp,Op.intBits,cJ,bind,Sem.bind,pure]
def cM (m:Nat):AVal:=.lit (.int .u64 (m:Int))
def jA (a b:Nat):Nat:=(BitVec.ofNat 64 a &&& ~~~ BitVec.ofNat 64 b).toNat
theorem uf {m:Nat}(h:m<2 ^ 64):(BitVec.ofInt 64 (m:Int)).toNat=m:=by rw[BitVec.ofInt_natCast,BitVec.toNat_ofNat,Nat.mod_eq_of_lt h]
theorem PW (a b:Nat):jA a b<2 ^ 64:=(BitVec.isLt _)
theorem CU {a b i:Nat}(ha:a<2 ^ 64):(jA a b).testBit i=(a.testBit i && !b.testBit i):=by
 unfold jA;by_cases hi:i<64
 ·rw[<- BitVec.getLsbD,BitVec.getLsbD_and,BitVec.getLsbD_not,BitVec.getLsbD_ofNat,BitVec.getLsbD_ofNat];simp [hi]
 ·have h1:a.testBit i=false:=Nat.testBit_lt_two_pow (Nat.lt_of_lt_of_le ha (Nat.pow_le_pow_right (by decide) (by omega)));rw[h1,<- BitVec.getLsbD,BitVec.getLsbD_of_ge _ _ (by omega)];rfl
theorem ug {m:Nat}(h:m<2 ^ 64):IntKind.u64.wrap (m:Int)=m:=IntWalk.u64_in _ (by omega)
theorem PX {a b:Nat}(ha:a<2 ^ 64)(hb:b<2 ^ 64):aW P .and t x y (.lit (.int .u64 (a:Int))) (.lit (.int .u64 (b:Int)))=some (.lit (.int .u64 ((a &&& b:Nat):Int))):=by
 rw[ue];have e:(BitVec.ofInt (IntKind.bits .u64) (a:Int) &&& BitVec.ofInt (IntKind.bits .u64) (b:Int)).toNat=a &&& b:=by
  show (BitVec.ofInt 64 _ &&& BitVec.ofInt 64 _).toNat=_;rw[BitVec.toNat_and,uf ha,uf hb]
 rw[e,ug (Nat.lt_of_le_of_lt Nat.and_le_left ha)]
theorem uh {a b:Nat}(ha:a<2 ^ 64)(hb:b<2 ^ 64):aW P .or t x y (.lit (.int .u64 (a:Int))) (.lit (.int .u64 (b:Int)))=some (.lit (.int .u64 ((a ||| b:Nat):Int))):=by
 rw[PT];have e:(BitVec.ofInt (IntKind.bits .u64) (a:Int) ||| BitVec.ofInt (IntKind.bits .u64) (b:Int)).toNat=a ||| b:=by
  show (BitVec.ofInt 64 _ ||| BitVec.ofInt 64 _).toNat=_;rw[BitVec.toNat_or,uf ha,uf hb]
 rw[e,ug (Nat.or_lt_two_pow ha hb)]
theorem PY {a b:Nat}:aW P .andNot t x y (.lit (.int .u64 (a:Int))) (.lit (.int .u64 (b:Int)))=some (.lit (.int .u64 ((jA a b:Nat):Int))):=by
 rw[PV];have e:(BitVec.ofInt (IntKind.bits .u64) (a:Int) &&& ~~~ BitVec.ofInt (IntKind.bits .u64) (b:Int)).toNat=jA a b:=by
  show (BitVec.ofInt 64 _ &&& ~~~ BitVec.ofInt 64 _).toNat=_;rw[BitVec.ofInt_natCast,BitVec.ofInt_natCast];rfl
 rw[e,ug (PW a b)]
theorem CV {a s:Nat}(ha:a<2 ^ 64):aW P .shr t x y (.lit (.int .u64 (a:Int))) (.lit (.int k' (s:Int)))=some (.lit (.int .u64 ((a >>> s:Nat):Int))):=by
 rw[qS (by omega),Int.toNat_natCast];have e:(a:Int).fdiv (2 ^ (min s (IntKind.bits .u64)))=((a >>> s:Nat):Int):=by
  rw[Int.fdiv_eq_ediv_of_nonneg _ (by exact_mod_cast Nat.zero_le _),Nat.shiftRight_eq_div_pow];show (a:Int) / 2 ^ (min s 64)=_;rcases Nat.le_total s 64 with h|h
  ·rw[Nat.min_eq_left h];push_cast;rfl
  ·rw[Nat.min_eq_right h];have h1:a / 2 ^ s=0:=Nat.div_eq_of_lt (Nat.lt_of_lt_of_le ha (Nat.pow_le_pow_right (by decide) h));rw[h1];exact Int.ediv_eq_zero_of_lt (by omega) (by omega)
 rw[e]
theorem yh {s:Nat}(hs:s<64):aW P .shl t x y (.lit (.int .u64 1)) (.lit (.int k' (s:Int)))=some (.lit (.int .u64 ((2 ^ s:Nat):Int))):=by
 rw[pg (by omega),Int.toNat_natCast];have e:min s (IntKind.bits .u64)=s:=Nat.min_eq_left (by show s<=64;omega);have h2:2 ^ s<2 ^ 64:=Nat.pow_lt_pow_right (by decide) hs;rw[e,Int.one_mul];have h3:((2:Int) ^ s)=((2 ^ s:Nat):Int):=by push_cast;rfl
 rw[h3,ug h2]
theorem CW {a s:Nat}(ha:a<2 ^ 64):aW P .and t x y (.lit (.int .u64 ((a >>> s:Nat):Int))) (.lit (.int .u64 1))=some (.lit (.int .u64 (if a.testBit s then 1 else 0))):=by
 have h1:a >>> s<2 ^ 64:=Nat.lt_of_le_of_lt (Nat.shiftRight_le _ _) ha;have:=PX (P:=P) (t:=t) (x:=x) (y:=y) (a:=a >>> s) (b:=1) h1 (by decide);rw[show (((1:Nat):Int))=1 from rfl]at this;rw[this,Nat.and_one_is_mod];congr 3;rw[Nat.testBit,Nat.and_comm,Nat.and_one_is_mod];rcases Nat.mod_two_eq_zero_or_one (a >>> s) with h|h<;>rw[h]<;>rfl
end
end Go.Hx
namespace Go.Proofs
open Go.Hx
theorem cS (H:AHeap)(b:Blk)(L:List Blk):(ext H (b :: L)).get H.next=some b:=bG H (b :: L) 0 (by simp)
theorem CX (l:List Int)(n:Nat):(ints l).take n=ints (l.take n):=by simp [ints]
theorem CY (l:List Int)(n:Nat):(ints l).drop n=ints (l.drop n):=by simp [ints]
theorem aJ {α:Type}{l:List α}{i:Nat}{a:α}(h:l[i]?=some a):¬ l=[]:=by rintro rfl;simp at h
theorem dF {l:List Int}{i:Nat}{x:Int}(h:i<l.length):setAt (ints l) i [.lit (.int .i64 x)]=ints (l.set i x):=by
 rw[iu (by simpa [ints] using h)];simp [ints,aa]
theorem dW (w:Bool):pR w (some (.lit undef))=some false:=rfl
def aR (ns:List NodeP)(x:NodeP):List Int:=aS (ar ns) x.parents
def dp:List Int->List Int->Int
 | _ :: cs,v :: vs=>v*au cs+dp cs vs
 | _,_=>0
def cD:List Int->Int->List Int
 | [],_=>[]
 | c :: cs,i=>i / au cs % c :: cD cs i
theorem kB (cs:List Int)(i:Int):(cD cs i).length=cs.length:=by
 induction cs with
 | nil=>rfl
 | cons c cs ih=>simp [cD,ih]
theorem B5 {cs:List Int}{k:Nat}{c:Int}(h:cs[k]?=some c)(i:Int):cD (cs.drop k) i=(i / au (cs.drop (k+1)) % c) :: cD (cs.drop (k+1)) i:=by
 have:cs.drop k=c :: cs.drop (k+1):=by
  rw[List.drop_eq_getElem_cons (get_lt h)];congr 1;have:=List.getElem?_eq_getElem (get_lt h);rw[h]at this;exact(Option.some.inj this).symm
 rw[this];rfl
theorem gK {α:Type}{l:List α}{k:Nat}{a:α}(h:l[k]?=some a):l.drop k=a :: l.drop (k+1):=by
 rw[List.drop_eq_getElem_cons (get_lt h)];congr 1;have:=List.getElem?_eq_getElem (get_lt h);rw[h]at this;exact(Option.some.inj this).symm
theorem On {cs:List Int}(h:∀ c∈cs,1<=c)(i:Int):∀ (k:Nat) (c v:Int),cs[k]?=some c->(cD cs i)[k]?=some v->0<=v/\v<c:=by
 induction cs with
 | nil=>intro k c v h;simp at h
 | cons a cs ih =>
  intro k c v h1 h2;cases k with
  | zero =>
   simp only[cD,List.getElem?_cons_zero,Option.some.injEq]at h1 h2;subst h1;subst h2;have:=h a (by simp);exact⟨Int.emod_nonneg _ (by omega),Int.emod_lt_of_pos _ (by omega)⟩
  | succ k =>
   simp only[cD,List.getElem?_cons_succ]at h1 h2;exact ih (fun c hc=>h c (by simp [hc])) k c v h1 h2
def cE (cs vs:List Int):Prop:=vs.length=cs.length/\∀ (k:Nat) (c v:Int),cs[k]?=some c->vs[k]?=some v->0<=v/\v<c
theorem cE.tail {c v:Int}{cs vs:List Int}(h:cE (c :: cs) (v :: vs)):cE cs vs:=⟨by simpa using h.1,fun k c v h1 h2=>h.2 (k+1) c v (by simpa using h1) (by simpa using h2)⟩
theorem cE.head {c v:Int}{cs vs:List Int}(h:cE (c :: cs) (v :: vs)):0<=v/\v<c:=h.2 0 c v (by simp) (by simp)
theorem cE.pos {cs vs:List Int}(h:cE cs vs):∀ c∈cs,1<=c:=fun c hc=>by
 obtain⟨k,hk⟩:=List.mem_iff_getElem?.1 hc;obtain⟨v,hv⟩:=get_of_lt (l:=vs) (i:=k) (by rw[h.1];exact get_lt hk);have:=h.2 k c v hk hv;omega
theorem tM {cs:List Int}(h:∀ c∈cs,1<=c)(i:Int):cE cs (cD cs i):=⟨kB cs i,On h i⟩
theorem mL:∀ {cs vs:List Int},cE cs vs->0<=dp cs vs/\dp cs vs<au cs:=by
 intro cs
 induction cs with
 | nil=>intro vs _;cases vs<;>(simp [dp,fj])
 | cons c cs ih =>
  intro vs h;cases vs with
  | nil=>exact absurd h.1 (by simp)
  | cons v vs =>
   have h1:=ih h.tail;have h2:=h.head;have hp:1<=au cs:=iR fun x hx=>h.pos x (by simp [hx]);rw[fE];simp only[dp];have h3:0<=v*au cs:=Int.mul_nonneg h2.1 (by omega);have h4:(v+1)*au cs<=c*au cs:=Int.mul_le_mul_of_nonneg_right (by omega) (by omega);rw[Int.add_mul,Int.one_mul]at h4;omega
def fF (cs vs:List Int):Int:=(cs.zip vs).foldl (fun a p=>a*p.1+p.2) 0
theorem Oo:∀ (cs vs:List Int),vs.length=cs.length->∀ a,(cs.zip vs).foldl (fun a p=>a*p.1+p.2) a=a*au cs+dp cs vs:=by
 intro cs
 induction cs with
 | nil=>intro vs _ a;simp [fj,dp]
 | cons c cs ih =>
  intro vs h a;cases vs with
  | nil=>simp at h
  | cons v vs =>
   simp only[List.zip_cons_cons,List.foldl_cons];rw[ih vs (by simpa using h),fE];simp only[dp];rw[Int.add_mul,Int.mul_assoc];omega
theorem tO {cs vs:List Int}(h:vs.length=cs.length):fF cs vs=dp cs vs:=by
 unfold fF;rw[Oo cs vs h];omega
theorem tP {cs vs:List Int}{k:Nat}{c v:Int}(h1:cs[k]?=some c)(h2:vs[k]?=some v):fF (cs.take (k+1)) (vs.take (k+1))=fF (cs.take k) (vs.take k)*c+v:=by
 unfold fF;rw[aL h1,aL h2,List.zip_append (by have:=get_lt h1;have:=get_lt h2;simp;omega),List.foldl_append];rfl
def dR (l:List Int):Prop:=l.length<=12/\∀ x∈l,0<=x/\x<=8
theorem dR.prod {l:List Int}(h:dR l):0<=au l/\au l<=68719476736:=by
 have h1:=mK (b:=8) (by omega) h.2;have h2:(8:Int) ^ l.length<=8 ^ 12:=by
  have:(8:Nat) ^ l.length<=8 ^ 12:=Nat.pow_le_pow_right (by decide) h.1
  exact_mod_cast this
 exact⟨h1.1,Int.le_trans h1.2 h2⟩
theorem dR.take {l:List Int}(h:dR l)(k:Nat):dR (l.take k):=⟨by have:=h.1;simp;omega,fun x hx=>h.2 x (List.mem_of_mem_take hx)⟩
theorem dR.drop {l:List Int}(h:dR l)(k:Nat):dR (l.drop k):=⟨by have:=h.1;simp;omega,fun x hx=>h.2 x (List.mem_of_mem_drop hx)⟩
theorem xZ (l:List Int)(hl:dR l)(H:AHeap)(K:ARes->AHeap->Prop)(hK:K (.ret (aa (au l))) H):af Try.prog G0 36 [ae l] H K:=by
 have l12:=hl.1;refine af.bf (n:=18) (rs:=[.tmp 2]) Try.func36 rfl rfl rfl (by decide) (by kernel_rfl) (by simp) ?_;simp only[go_sem];refine W.aI 131064 (by rfl) (fun ρ H'=>H'=H/\∃ k:Nat,ρ 4=aa k/\k<=l.length/\ρ 3=aa (au (l.take k))) (fun ρ H=>l.length - (iv (ρ 4)).toNat) ?_ ?_
 ·simp only[go_sem];exact⟨0,rfl,by omega,by simp [fj]⟩
 rintro ρ H' ⟨rfl,k,h4,hk,h3⟩;refine ab _ _ _ (by rfl) ?_;by_cases hb:(k:Int)<l.length
 ·obtain⟨c,hc⟩:=get_of_lt (l:=l) (i:=k) (by omega);have hne:=aJ hc;have b1:=(hl.take (k+1)).prod;rw[aL hc,fR]at b1;simp only[go_sem,h4,h3,hb,hc,hne];rw[IntWalk.i64_in ((k:Int)+1) (by omega),IntWalk.i64_in (_*c) (by omega)];exact⟨⟨k+1,by simp,by omega,by rw[aL hc,fR]⟩,by omega⟩
 ·simp only[go_sem,h4,h3,hb];rw[List.take_of_length_le (by omega)];exact av.mk (Nat.le_refl _) hK
theorem CJ (cs vs:List Int)(hc:dR cs)(hf:cE cs vs)(H:AHeap)(K:ARes->AHeap->Prop)(hK:K (.ret (aa (dp cs vs))) H):af Try.prog G0 74 [ae cs,ae vs] H K:=by
 have l12:=hc.1;have hl:=hf.1;refine af.bf (n:=30) (rs:=[.tmp 4]) Try.func74 rfl rfl rfl (by decide) (by kernel_rfl) (by simp) ?_;simp only[go_sem];have w0:=IntWalk.i64_in ((cs.length:Int) - 1) (by omega);rw[w0];refine W.aI 536869088 (by rfl) (fun ρ H'=>H'=H/\∃ k:Nat,ρ 7=aa ((k:Int) - 1)/\k<=cs.length/\ρ 5=aa (dp (cs.drop k) (vs.drop k))/\ρ 6=aa (au (cs.drop k))) (fun ρ H=>(iv (ρ 7)+1).toNat) ?_ ?_
 ·simp only[go_sem];exact⟨cs.length,rfl,by omega,by simp [dp],by simp [fj]⟩
 rintro ρ H' ⟨rfl,k,h7,hk,h5,h6⟩;refine ab _ _ _ (by rfl) ?_;by_cases hb:(k:Int) - 1 >= 0
 ·obtain⟨j,rfl⟩:∃ j,k=j+1:=⟨k - 1,by omega⟩
  obtain⟨c,hcj⟩:=get_of_lt (l:=cs) (i:=j) (by omega);obtain⟨v,hvj⟩:=get_of_lt (l:=vs) (i:=j) (by omega);have hne:=aJ hcj;have hne2:=aJ hvj;have e1:((j+1:Nat):Int) - 1=j:=by omega
  rw[e1]at h7;have hb':(j:Int) >= 0:=by omega
  have hj1:(j:Int)<cs.length:=by omega
  have hj2:(j:Int)<vs.length:=by omega
  have b0:=hc.drop j;have b1:=b0.prod;have fd:cE (cs.drop j) (vs.drop j):=⟨by simp [hl],fun i c v h1 h2=>hf.2 (j+i) c v (by rw[List.getElem?_drop]at h1;exact h1) (by rw[List.getElem?_drop]at h2;exact h2)⟩
  rw[gK hcj,gK hvj]at fd;rw[gK hcj,fE]at b1;have r1:=mL fd;have r2:=mL fd.tail;have r3:=fd.head;simp only[dp,fE]at r1;have p1:0<=au (cs.drop (j+1)):=(hc.drop (j+1)).prod.1;have m1:0<=v*au (cs.drop (j+1)):=Int.mul_nonneg r3.1 p1;have cc:au (cs.drop (j+1))*c=c*au (cs.drop (j+1)):=Int.mul_comm _ _;have w1:=IntWalk.i64_in ((j:Int) - 1) (by omega);have w2:=IntWalk.i64_in (v*au (cs.drop (j+1))) (by omega);have w3:=IntWalk.i64_in (dp (cs.drop (j+1)) (vs.drop (j+1))+v*au (cs.drop (j+1))) (by omega);have w4:=IntWalk.i64_in (au (cs.drop (j+1))*c) (by omega);simp only[go_sem,h7,h5,h6,hb',hcj,hvj,hne,hne2,hj1,hj2,w1,w2,w3,w4];refine⟨⟨j,rfl,by omega,?_,?_⟩,by omega⟩
  ·rw[gK hcj,gK hvj];simp only[dp];show aa _=aa _;rw[Int.add_comm]
  ·rw[gK hcj,fE];show aa _=aa _;rw[Int.mul_comm]
 ·have h0:k=0:=by omega
  subst h0;have hb':¬ ((0:Nat):Int) - 1 >= 0:=hb;simp only[List.drop_zero]at h5 h6;have h7':ρ 7=aa (-1):=h7;simp only[go_sem,h7',h5];exact av.mk (Nat.le_refl _) hK
theorem qM (x y:List Int)(hx:(x.length:Int)<2 ^ 62)(H:AHeap)(K:ARes->AHeap->Prop)(hK:K (.ret (.lit (.bool (decide (x=y))))) H):af Try.prog G0 16 [ae x,ae y] H K:=by
 have no:¬ x=y->av Try.prog G0 H K (.lit (.bool false)) H:=fun h=>av.mk (Nat.le_refl _) (by rw[decide_eq_false h]at hK;exact hK);refine af.bf (n:=26) (rs:=[.tmp 4]) Try.func16 rfl rfl rfl (by decide) (by kernel_rfl) (by simp) ?_;by_cases hl:(x.length:Int)=y.length;rotate_left
 ·simp only[go_sem,hl];exact no fun h=>hl (by rw[h])
 simp only[go_sem,hl];refine W.aI 67100720 (by rfl) (fun ρ H'=>H'=H/\∃ k:Nat,ρ 13=aa k/\k<=x.length/\x.take k=y.take k) (fun ρ H=>x.length - (iv (ρ 13)).toNat) ?_ ?_
 ·simp only[go_sem];exact⟨0,rfl,by omega,rfl⟩
 rintro ρ H' ⟨rfl,k,h13,hk,ht⟩;refine ab _ _ _ (by rfl) ?_;by_cases hb:(k:Int)<y.length
 ·obtain⟨a,ha⟩:=get_of_lt (l:=x) (i:=k) (by omega);obtain⟨b,hbk⟩:=get_of_lt (l:=y) (i:=k) (by omega);have hxn:=aJ ha;have hyn:=aJ hbk;have hbx:(k:Int)<x.length:=by omega
  simp only[go_sem,h13,hb];refine W.draw 8 [0,0,3,7,0,0,48,112] Try.mixed (by kernel_rfl) (by kernel_rfl) ?_;by_cases he:a=b
  ·subst he;simp only[go_sem,h13,hb,hbx,ha,hbk,hxn,hyn];rw[IntWalk.i64_in ((k:Int)+1) (by omega)];exact⟨⟨k+1,by simp,by omega,by rw[aL ha,aL hbk,ht]⟩,by omega⟩
  ·simp only[go_sem,hb,hbx,ha,hbk,hxn,hyn,he];exact no fun h=>he (by rw[h,hbk]at ha;exact(Option.some.inj ha).symm)
 ·simp only[go_sem,h13,hb];refine av.mk (Nat.le_refl _) ?_;have:x=y:=by
   rw[List.take_of_length_le (by omega),List.take_of_length_le (by omega)]at ht;exact ht
  rw[decide_eq_true this]at hK;exact hK
instance placesDec (l:List Int)(n:Int):Decidable (dk l n):=by unfold dk;infer_instance
theorem dk.nil {n:Int}:dk [] n:=⟨.nil,fun _ h=>by cases h⟩
theorem dk.take {l:List Int}{n:Int}(h:dk l n)(k:Nat):dk (l.take k) n:=⟨h.1.sublist (List.take_sublist k l),fun p hp=>h.2 p (List.mem_of_mem_take hp)⟩
theorem dk.snoc {l:List Int}{n a:Int}(h:dk l n)(ha:0<=a/\a<n)(hl:∀ b,l.getLast?=some b->b<a):dk (l++[a]) n:=by
 refine⟨List.pairwise_append.2 ⟨h.1,by simp,fun x hx y hy=>?_⟩,fun p hp=>?_⟩
 ·obtain rfl:=List.mem_singleton.1 hy;rcases List.eq_nil_or_concat l with rfl|⟨l',b,rfl⟩
  ·cases hx
  ·have hb:=hl b (by simp);simp only[List.concat_eq_append]at hx h;rcases List.mem_append.1 hx with hx|hx
   ·have:=(List.pairwise_append.1 h.1).2.2 x hx b (by simp);omega
   ·obtain rfl:=List.mem_singleton.1 hx;exact hb
 ·rcases List.mem_append.1 hp with hp|hp
  ·exact h.2 p hp
  ·obtain rfl:=List.mem_singleton.1 hp;exact ha
theorem dk.lt {l:List Int}{n:Int}(h:dk l n){i j:Nat}{a b:Int}(ha:l[i]?=some a)(hb:l[j]?=some b)(hij:i<j):a<b:=by
 have:=List.pairwise_iff_getElem.1 h.1 i j (get_lt ha) (get_lt hb) hij;have e1:=List.getElem?_eq_getElem (get_lt ha);have e2:=List.getElem?_eq_getElem (get_lt hb);rw[ha]at e1;rw[hb]at e2;rw[Option.some.inj e1,Option.some.inj e2];exact this
theorem dk.len {l:List Int}{n:Int}(h:dk l n):(l.length:Int)<=max n 0:=by
  -- the k-th place is at least k
 have key:∀ (k:Nat) (a:Int),l[k]?=some a->(k:Int)<=a:=by
  intro k
  induction k with
  | zero=>intro a ha;have:=h.2 a (List.mem_of_getElem? ha);omega
  | succ k ih =>
   intro a ha;obtain⟨b,hb⟩:=get_of_lt (l:=l) (i:=k) (by have:=get_lt ha;omega);have:=ih b hb;have:=h.lt hb ha (by omega);omega
 rcases Nat.eq_zero_or_pos l.length with h0|h0
 ·omega
 ·obtain⟨a,ha⟩:=get_of_lt (l:=l) (i:=l.length - 1) (by omega);have h1:=key _ a ha;have h2:=h.2 a (List.mem_of_getElem? ha);omega
theorem x5 {l:List Int}{j:Nat}{b:Int}(h:l[j]?=some b):(l.take (j+1)).getLast?=some b:=by rw[aL h];simp
theorem Pv (l:List Int)(n:Int)(hl:(l.length:Int)<2 ^ 62)(H:AHeap)(K:ARes->AHeap->Prop)(hK:K (.ret (.lit (.bool (decide (dk l n))))) H):af Try.prog G0 60 [ae l,aa n] H K:=by
 have no:¬ dk l n->av Try.prog G0 H K (.lit (.bool false)) H:=fun h=>av.mk (Nat.le_refl _) (by rw[decide_eq_false h]at hK;exact hK);refine af.bf (n:=41) (rs:=[.tmp 4]) Try.func60 rfl rfl rfl (by decide) (by kernel_rfl) (by simp) ?_;simp only[go_sem];refine W.aI 2199023255536 (by rfl) (fun ρ H'=>H'=H/\∃ k:Nat,ρ 5=aa k/\k<=l.length/\dk (l.take k) n) (fun ρ H=>l.length - (iv (ρ 5)).toNat) ?_ ?_
 ·simp only[go_sem];exact⟨0,rfl,by omega,.nil⟩
 rintro ρ H' ⟨rfl,k,h5,hk,hp⟩;refine ab _ _ _ (by rfl) ?_;by_cases hb:(k:Int)<l.length
 ·obtain⟨a,ha⟩:=get_of_lt (l:=l) (i:=k) (by omega);have hne:=aJ ha;have ham:=List.mem_of_getElem? ha;simp only[go_sem,h5,hb];refine W.draw 26 [0,0,3,7,15,31,63,63,255,511,63,2047,4095,8191,16383,32767,65535,131071,131071,524287,1048575,131071,131071,4325375,14811135,31588351] Try.mixed (by kernel_rfl) (by kernel_rfl) ?_;by_cases c1:a<0
  ·simp only[go_sem,h5,hb,ha,hne,c1,dW];exact no fun h=>by have:=h.2 a ham;omega
  by_cases c2:a >= n
  ·simp only[go_sem,h5,hb,ha,hne,c1,c2,dW];exact no fun h=>by have:=h.2 a ham;omega
  by_cases c3:(k:Int) > 0
  ·obtain⟨j,rfl⟩:∃ j,k=j+1:=⟨k - 1,by omega⟩
   obtain⟨b,hbj⟩:=get_of_lt (l:=l) (i:=j) (by omega);have w1:=IntWalk.i64_in (j:Int) (by omega);have w2:=IntWalk.i64_in (((j+1:Nat):Int)+1) (by omega);have e1:((j+1:Nat):Int) - 1=j:=(by omega);have hb1:(j:Int)<l.length:=(by omega);have hbj':=hbj;by_cases c4:a<=b
   ·simp only[go_sem,h5,hb,ha,hne,c1,c2,c3,c4,w1,e1,hb1,hbj];exact no fun h=>by have:=h.lt hbj ha (by omega);omega
   ·simp only[go_sem,h5,hb,ha,hne,c1,c2,c3,c4,w1,w2,e1,hb1,hbj];refine⟨⟨j+1+1,by simp,by omega,?_⟩,by omega⟩;rw[aL ha];exact hp.snoc (by omega) fun b' hb'=>by
     rw[x5 hbj]at hb';cases hb';omega
  ·simp only[go_sem,h5,hb,ha,hne,c1,c2,c3];rw[IntWalk.i64_in ((k:Int)+1) (by omega)];obtain rfl:k=0:=(by omega);refine⟨⟨1,by simp,by omega,?_⟩,by omega⟩;rw[aL ha];exact hp.snoc (by omega) fun b' hb'=>by simp at hb'
 ·simp only[go_sem,h5,hb];rw[List.take_of_length_le (by omega)]at hp;rw[decide_eq_true hp]at hK;exact av.mk (Nat.le_refl _) hK
end Go.Proofs
namespace Go.Hx
theorem Over.live {H H':AHeap}(h:Over H H'){id g:Nat}(hi:id<H.next):H'.live id g=H.live id g:=by
 unfold AHeap.live;rw[h.old id hi]
theorem Over.upd {H H':AHeap}(h:Over H H'){id:Nat}(hi:H.next<=id)(b:Blk):Over H (H'.upd id b):=⟨h.next,fun j hj=>by rw[ag,if_neg (by omega)];exact h.old j hj⟩
theorem PZ {H:AHeap}{id g:Nat}{e:TypeId}{c:List AVal}:(H.upd id (.arr g e c)).live id g=some (e,c):=ak (by rw[ag,if_pos rfl])
theorem jC {H:AHeap}{id j g:Nat}{b:Blk}(h:j≠id):(H.upd id b).live j g=H.live j g:=by unfold AHeap.live;rw[ag,if_neg h]
attribute [go_sem] PZ
@[go_sem] theorem Qi (a b:Array TypeId)(c:Bool)(n:Nat)(cells:List AVal)(off:Nat):kq (some (.func a b c)) n cells off=cells[off]?:=rfl
end Go.Hx
namespace Go.Proofs
open Go.Hx
theorem mP {H H' H2:AHeap}{e:TypeId}{v:AVal}{cs:List AVal}(ov:Over H H')(h:aF H.next H' e v cs)(hn:H'.next<=H2.next)(hp:∀ k,k<H'.next->(∀ g n,v≠.own k g 0 n 1)->H2.get k=H'.get k):Over H H2 :=
 ⟨Nat.le_trans ov.next hn,fun id hi=>by
  rw[hp id (Nat.lt_of_lt_of_le hi ov.next) fun g n he=>?_,ov.old id hi];rcases h with ⟨h,_⟩|⟨i2,g2,a1,_,h,_⟩
  ·rw[h]at he;cases he
  ·rw[h]at he;have:=AVal.own.inj he;omega⟩
theorem kF {H H':AHeap}{v:AVal}{l:List Int}(x:Int)(ov:Over H H')(h:aF H.next H' 3 v (ints l))(hl:l.length<2 ^ 40):
  ∃ v' H2,bA Try.prog (ext H' [.arr 0 3 [.lit (.int .i64 x)]]) (H'.next+1) 39 39 v (.own H'.next 0 0 1 1)=some (v',H2)/\Over H H2/\aF H.next H2 3 v' (ints (l++[x]))/\H'.next<=H2.next/\(∀ k,k<H'.next->(∀ g n,v≠.own k g 0 n 1)->H2.get k=H'.get k):=by
 obtain⟨v',H2,hA,hO,hn2,hp⟩:=jK (P:=Try.prog) (H:=H') (t:=39) (x:=aa x) (n:=H'.next+1) Try.underlying39 Try.dT Try.eG rfl (by rw[Try.fh,aO];omega) h ov.next rfl;simp only[aa]at hA;exact⟨v',H2,hA,mP ov h hn2 hp,by simpa [ints,aa] using hO,hn2,hp⟩
theorem P0 (l:List (List Int)):(aC l).one=true:=rfl
theorem P1 (l:List (List Int)):(aC l).cells=[aC l]:=rfl
theorem P2 (l:List NodeP):(cH l).one=true:=rfl
theorem P3 (l:List NodeP):(cH l).cells=[cH l]:=rfl
theorem P4 (l:List UtilP):(xI l).one=true:=rfl
theorem P5 (l:List UtilP):(xI l).cells=[xI l]:=rfl
attribute [go_sem] P0 P1 P2 P3 P4 P5
structure OwnI (H H':AHeap)(id:Nat)(c:List Int):Prop where
 ov:Over H H'
 lo:H.next<=id
 hi:id<H'.next
 get:H'.get id=some (.arr 0 3 (ints c))
theorem OwnI.live {H H':AHeap}{id:Nat}{c:List Int}(h:OwnI H H' id c):H'.live id 0=some (3,ints c):=ak h.get
theorem OwnI.ne {H H':AHeap}{id:Nat}{c:List Int}(h:OwnI H H' id c):¬ id=H'.next:=by have:=h.hi;omega
theorem OwnI.over {H H' H2:AHeap}{id:Nat}{c:List Int}(h:OwnI H H' id c)(o:Over H' H2):OwnI H H2 id c:=⟨h.ov.trans o,h.lo,Nat.lt_of_lt_of_le h.hi o.next,(o.old id h.hi).trans h.get⟩
theorem OwnI.store {H H':AHeap}{id:Nat}{c:List Int}(h:OwnI H H' id c){k:Nat}(hk:k<c.length)(x:Int):OwnI H (H'.upd id (.arr 0 3 (setAt (ints c) k [.lit (.int .i64 x)]))) id (c.set k x) :=
 ⟨⟨h.ov.next,fun i hi=>by rw[ag,if_neg (by have:=h.lo;omega)];exact h.ov.old i hi⟩,h.lo,h.hi,by rw[ag,if_pos rfl,dF hk]⟩
theorem OwnI.new {H:AHeap}(L:List Blk)(n:Nat):OwnI H (ext H (.arr 0 3 (List.replicate n (.lit (.int .i64 0))) :: L)) H.next (List.replicate n 0) :=
 ⟨.ext _ _,Nat.le_refl _,by simp [bY],by rw[cS];simp [ints,aa]⟩
theorem OwnI.fin {H H':AHeap}{id:Nat}{c:List Int}{K:ARes->AHeap->Prop}(hcl:Clo H)(h:OwnI H H' id c){n:Nat}(hn:n=c.length)(hK:K (.ret (ae c)) H):av Try.prog G0 H K (.own id 0 0 n 1) H':=by
 subst hn;refine av.bI aP hcl h.ov ?_ hK;exact .ints h.lo h.get (by simp) fun i hi=>by simp [fa,hi]
theorem P6 {l m:List Int}{k:Nat}{x:Int}(h:l.take k=m.take k)(hk:k<l.length)(hx:m[k]?=some x):(l.set k x).take (k+1)=m.take (k+1):=by
 rw[aL hx,aL (show (l.set k x)[k]?=some x by rw[List.getElem?_set_self hk]),List.take_set_of_le (Nat.le_refl k),h]
theorem bE {α:Type}{l:List α}{i:Nat}{a d:α}(h:l[i]?=some a):l.getD i d=a:=by rw[List.getD_eq_getElem?_getD,h];rfl
theorem CK {l places:List Int}{k:Nat}{p:Int}(h:places[k]?=some p):aS l (places.take (k+1))=aS l (places.take k)++[l.getD p.toNat 0]:=by
 unfold aS;rw[aL h];simp
theorem cI {ns:List NodeP}{k:Nat}{x:NodeP}(h:ns[k]?=some x):(ar ns)[k]?=some x.card:=by unfold ar;rw[List.getElem?_map,h];rfl
theorem bO (ns:List NodeP):(ar ns).length=ns.length:=by simp [ar]
theorem x6 (l p:List Int)(hl:(l.length:Int)<2 ^ 40)(hp:(p.length:Int)<2 ^ 39)(hin:∀ q∈p,0<=q/\q<l.length)(H:AHeap)(K:ARes->AHeap->Prop)(hK:K (.ret (ae (aS l p))) H):af Try.prog G0 67 [ae l,ae p] H K:=by
 refine af.clo ⟨_,Try.func67,rfl,rfl⟩ fun hcl=>?_;refine af.bf (n:=24) (rs:=[.tmp 4]) Try.func67 rfl rfl rfl (by decide) (by kernel_rfl) (by simp) ?_;simp only[go_sem];refine W.aI 8388576 (by rfl) (fun ρ H'=>∃ k:Nat,ρ 6=aa k/\k<=p.length/\Over H H'/\aF H.next H' 3 (ρ 5) (ints (aS l (p.take k)))) (fun ρ H=>p.length - (iv (ρ 6)).toNat) ?_ ?_
 ·simp only[go_sem];exact⟨0,rfl,by omega,.refl _,.nil⟩
 rintro ρ H' ⟨k,h6,hk,ov,h5⟩;refine ab _ _ _ (by rfl) ?_;by_cases hb:(k:Int)<p.length
 ·obtain⟨q,hq⟩:=get_of_lt (l:=p) (i:=k) (by omega);obtain⟨j,rfl,a,ha⟩:=mJ (hin q (List.mem_of_getElem? hq)).1 (hin q (List.mem_of_getElem? hq)).2;have hne:=aJ hq;have hne2:=aJ ha;have hj:=get_lt ha;have hj':(j:Int)<l.length:=by omega
  obtain⟨v',H2,hA,ov2,hO,hn2,_⟩:=kF a ov h5 (by simp [aS];omega);have w1:=IntWalk.i64_in ((k:Int)+1) (by omega);simp only[go_sem,h6,hb,hq,hne,ha,hne2,hj',w1,hA];refine⟨by have:=ov2.next;omega,⟨k+1,by simp,by omega,ov2,?_⟩,by omega⟩;rw[CK hq,Int.toNat_natCast,bE ha];exact hO
 ·simp only[go_sem,h6,hb];rw[List.take_of_length_le (by omega)]at h5;exact av.bI aP hcl ov (h5.iH fun i hi=>hi) hK
theorem pe (g:Int)(ns:List NodeP)(hl:(ns.length:Int)<2 ^ 39)(H:AHeap)(K:ARes->AHeap->Prop)(hK:K (.ret (ae (ar ns))) H):af Try.prog G0 31 [aY g ns] H K:=by
 refine af.clo ⟨_,Try.func31,rfl,rfl⟩ fun hcl=>?_;refine af.bf (n:=22) (rs:=[.tmp 2]) Try.func31 rfl rfl rfl (by decide) (by kernel_rfl) (by simp) ?_;simp only[go_sem,aY,cH];obtain⟨H1,hH1⟩:∃ H1,H1=ext H [.arr 0 35 [.lit (.int .i64 g),.vec ns.length (az ns)]]:=⟨_,rfl⟩
 have l1:H1.live H.next 0=some (35,[.lit (.int .i64 g),.vec ns.length (az ns)]):=by rw[hH1];exact ak (cS ..)
 have n1:H1.next=H.next+1:=by rw[hH1];rfl
 have o1:Over H H1:=by rw[hH1];exact .ext _ _
 rw[<- hH1];refine W.aI 2097144 (by rfl) (fun ρ H'=>∃ k:Nat,ρ 4=aa k/\k<=ns.length/\ρ 1=.ptr H.next 0 0/\Over H1 H'/\aF H1.next H' 3 (ρ 3) (ints ((ar ns).take k))) (fun ρ H=>ns.length - (iv (ρ 4)).toNat) ?_ ?_
 ·simp only[go_sem];exact⟨0,rfl,by omega,.refl _,.nil⟩
 rintro ρ H' ⟨k,h4,hk,h1,ov,h3⟩;refine ab _ _ _ (by rfl) ?_;have l2:=(ov.live (g:=0) (by omega:H.next<H1.next)).trans l1;by_cases hb:(k:Int)<ns.length
 ·obtain⟨x,hx⟩:=get_of_lt (l:=ns) (i:=k) (by omega);have hne:=eS hx;have e0:=js hx;obtain⟨v',H2,hA,ov2,hO,hn2,_⟩:=kF x.card ov h3 (by simp [ar];omega);have w1:=IntWalk.i64_in ((k:Int)+1) (by omega);simp only[go_sem,h4,h1,l2,hb,hne,e0,w1,hA];refine⟨by have:=ov2.next;omega,⟨k+1,by simp,by omega,ov2,?_⟩,by omega⟩;rw[aL (cI hx)];exact hO
 ·simp only[go_sem,h4,h1,l2,hb];rw[List.take_of_length_le (by rw[bO];omega)]at h3;exact av.bI aP hcl (o1.trans ov) (h3.iH fun i hi=>by omega) hK
def gp (l:List Int)(n:Nat):Prop:=∀ q∈l,0<=q/\q<n
theorem gO (l p:List Int):(aS l p).length=p.length:=by simp [aS]
theorem qN {l p:List Int}{k:Nat}{q:Int}(h:p[k]?=some q):(aS l p)[k]?=some (l.getD q.toNat 0):=by unfold aS;rw[List.getElem?_map,h];rfl
theorem x7 (g:Int)(ns:List NodeP)(v:Nat)(x:NodeP)(hx:ns[v]?=some x)(hl:(ns.length:Int)<2 ^ 39)(hp:(x.parents.length:Int)<2 ^ 39)(hin:gp x.parents ns.length)(H:AHeap)(K:ARes->AHeap->Prop)
  (hK:K (.ret (ae (aR ns x))) H):af Try.prog G0 37 [aY g ns,aa v] H K:=by
 refine af.clo ⟨_,Try.func37,rfl,rfl⟩ fun hcl=>?_;have hne:=eS hx;have e1:=lH hx;have hv:(v:Int)<ns.length:=by have:=get_lt hx;omega
 refine af.bf (n:=14) (rs:=[.tmp 4]) Try.func37 rfl rfl rfl (by decide) (by kernel_rfl) (by simp) ?_;simp only[go_sem,aY,cH];refine W.draw 8 [0,1,0,4,0,28,60,124] Try.mixed (by kernel_rfl) (by kernel_rfl) ?_;simp only[go_sem];refine⟨ae (ar ns),[],dI.pure fun H2=>pe g ns hl H2 _ ⟨rfl,rfl⟩,?_⟩;simp only[go_sem,hv,hne,e1];refine aw.clo (x6 (ar ns) x.parents (by rw[bO];omega) hp (by rw[bO];exact hin) _ _ ⟨trivial,?_⟩);simp only[go_sem];exact av.bI aP hcl (.ext _ _) (.dw _) hK
def dK (l:List Int):Nat:=l.foldl (fun s p=>s ||| 2 ^ p.toNat) 0
theorem Oq (l:List Int):∀ (s i:Nat),(l.foldl (fun s p=>s ||| 2 ^ p.toNat) s).testBit i=(s.testBit i || l.any fun p=>p.toNat == i):=by
 induction l with
 | nil=>intro s i;simp
 | cons p l ih =>
  intro s i;simp only[List.foldl_cons,ih,Nat.testBit_or,Nat.testBit_two_pow,List.any_cons];rw[Bool.or_assoc];congr 1
theorem lI {l:List Int}(h:∀ p∈l,0<=p)(i:Nat):(dK l).testBit i=decide ((i:Int)∈l):=by
 unfold dK;rw[Oq];simp only[Nat.zero_testBit,Bool.false_or];rw[Bool.eq_iff_iff];simp only[List.any_eq_true,beq_iff_eq,decide_eq_true_eq];constructor
 ·rintro⟨p,hp,rfl⟩;have:=h p hp;rw[Int.toNat_of_nonneg this];exact hp
 ·intro hi;exact⟨_,hi,by simp⟩
theorem B6 (l:List Int)(p:Int):dK (l++[p])=dK l ||| 2 ^ p.toNat:=by unfold dK;rw[List.foldl_append];rfl
theorem B7 {m n:Nat}(h:∀ i,m.testBit i=true->i<n):m<2 ^ n:=by
 apply Nat.lt_pow_two_of_testBit;intro i hi;rcases Bool.eq_false_or_eq_true (m.testBit i) with e|e
 ·exact absurd (h i e) (by omega)
 ·exact e
theorem xJ {l:List Int}{n:Nat}(h:∀ p∈l,0<=p/\p<n):dK l<2 ^ n:=B7 fun i hi=>by
 rw[lI fun p hp=>(h p hp).1]at hi;have:=(h _ (of_decide_eq_true hi)).2;omega
theorem oU {m n i:Nat}(h:m<2 ^ n)(hi:m.testBit i=true):i<n:=by
 rcases Nat.lt_or_ge i n with h'|h'
 ·exact h'
 ·rw[Nat.testBit_lt_two_pow (Nat.lt_of_lt_of_le h (Nat.pow_le_pow_right (by decide) h'))]at hi;cases hi
def Sub (s t:Nat):Prop:=∀ i,s.testBit i=true->t.testBit i=true
theorem Sub.refl (s:Nat):Sub s s:=fun _ h=>h
theorem Sub.trans {s t u:Nat}(h:Sub s t)(h':Sub t u):Sub s u:=fun i hi=>h' i (h i hi)
theorem Sub.or {s t u:Nat}(h:Sub s u)(h':Sub t u):Sub (s ||| t) u:=fun i hi=>by
 rw[Nat.testBit_or,Bool.or_eq_true]at hi;exact hi.elim (h i) (h' i)
theorem Sub.left (s t:Nat):Sub s (s ||| t):=fun i hi=>by rw[Nat.testBit_or,hi];rfl
theorem Sub.right (s t:Nat):Sub t (s ||| t):=fun i hi=>by rw[Nat.testBit_or,hi];simp
theorem Sub.antisymm {s t:Nat}(h:Sub s t)(h':Sub t s):s=t:=Nat.eq_of_testBit_eq fun i=>by
 rw[Bool.eq_iff_iff];exact⟨h i,h' i⟩
theorem B8 {a b:Nat}(ha:a<2 ^ 64):jA a b=0↔Sub a b:=by
 constructor
 ·intro h i hi;have:=CU (a:=a) (b:=b) (i:=i) ha;rw[h,Nat.zero_testBit,hi]at this;simpa using this.symm
 ·intro h;apply Nat.eq_of_testBit_eq;intro i;rw[CU ha,Nat.zero_testBit];cases hi:a.testBit i
  ·rfl
  ·rw[h i hi];rfl
def eT (ps:List Nat)(s v:Nat):Nat:=if s.testBit v=true then s ||| ps.getD v 0 else s
def eH (ps:List Nat)(s:Nat):Nat:=(List.range ps.length).foldl (eT ps) s
def dV (ps:List Nat):Nat->Nat->Nat
 | 0,s=>s
 | k+1,s=>eH ps (dV ps k s)
def fG (ps:List Nat)(s:Nat):Nat:=dV ps ps.length s
def lJ (ps:List Nat):Prop:=∀ v,v<ps.length->(fG ps (ps.getD v 0)).testBit v=false
def lK (ps:List Nat)(t:Nat):Prop:=∀ v,v<ps.length->t.testBit v=true->Sub (ps.getD v 0) t
theorem B9 (ps:List Nat)(s v:Nat):Sub s (eT ps s v):=by unfold eT;split;exact .left _ _;exact .refl _
theorem Ca (ps:List Nat)(l:List Nat):∀ s,Sub s (l.foldl (eT ps) s):=by
 induction l with
 | nil=>exact fun s=>.refl s
 | cons v l ih=>exact fun s=>(B9 ps s v).trans (ih _)
theorem xK (ps:List Nat)(s:Nat):Sub s (eH ps s):=Ca ps _ s
theorem Ot {ps:List Nat}{t:Nat}(hc:lK ps t)(l:List Nat)(hl:∀ v∈l,v<ps.length):∀ s,Sub s t->Sub (l.foldl (eT ps) s) t:=by
 induction l with
 | nil=>exact fun s h=>h
 | cons v l ih =>
  intro s h;refine ih (fun v hv=>hl v (by simp [hv])) _ ?_;unfold eT;split
  ·rename_i hv;exact h.or (hc v (hl v (by simp)) (h v hv))
  ·exact h
theorem Ou {ps:List Nat}{t:Nat}(hc:lK ps t){s:Nat}(h:Sub s t):Sub (eH ps s) t:=Ot hc _ (fun v hv=>List.mem_range.1 hv) s h
theorem tQ {ps:List Nat}{t:Nat}(hc:lK ps t)(k:Nat){s:Nat}(h:Sub s t):Sub (dV ps k s) t:=by
 induction k with
 | zero=>exact h
 | succ k ih=>exact Ou hc ih
theorem tR (ps:List Nat)(k s:Nat):Sub s (dV ps k s):=by
 induction k with
 | zero=>exact .refl _
 | succ k ih=>exact ih.trans (xK _ _)
theorem Ov {ps:List Nat}{s:Nat}(h:eH ps s=s):lK ps s:=by
 intro v hv hs;have key:∀ (l:List Nat) (s0:Nat),v∈l->s0.testBit v=true->Sub (ps.getD v 0) (l.foldl (eT ps) s0):=by
  intro l
  induction l with
  | nil=>intro s0 h;cases h
  | cons u l ih =>
   intro s0 hm hb;rcases List.mem_cons.1 hm with rfl|hm
   ·refine Sub.trans ?_ (Ca ps l _);unfold eT;rw[if_pos hb];exact .right _ _
   ·exact ih _ hm (B9 ps s0 u v hb)
 have:=key (List.range ps.length) s (List.mem_range.2 hv) hs;unfold eH at h
 rwa [h]at this
def cQ (n s:Nat):Nat:=(List.range n).countP fun i=>s.testBit i
theorem xL (n s:Nat):cQ n s<=n:=by have:=List.countP_le_length (p:=fun i=>s.testBit i) (l:=List.range n);simpa [cQ] using this
theorem Ow {l:List Nat}{p q:Nat->Bool}(h:∀ x∈l,p x=true->q x=true){a:Nat}(ha:a∈l)(hp:p a=false)(hq:q a=true):l.countP p<l.countP q:=by
 induction l with
 | nil=>cases ha
 | cons x l ih =>
  have hm:l.countP p<=l.countP q:=List.countP_mono_left fun y hy=>h y (by simp [hy]);rcases List.mem_cons.1 ha with rfl|ha
  ·rw[List.countP_cons,List.countP_cons,hp,hq];simp;omega
  ·have:=ih (fun y hy=>h y (by simp [hy])) ha;have hx:=h x (by simp);rw[List.countP_cons,List.countP_cons];cases hpx:p x
   ·simp;omega
   ·rw[hx hpx];simp;omega
theorem oV {n s t i:Nat}(h:Sub s t)(hi:i<n)(h0:s.testBit i=false)(h1:t.testBit i=true):cQ n s<cQ n t :=
 Ow (fun x _ hx=>h x hx) (List.mem_range.2 hi) h0 h1
theorem Ox {ps:List Nat}(hp:∀ p∈ps,p<2 ^ ps.length){s:Nat}(hs:s<2 ^ ps.length):lK ps (fG ps s):=by
 have hb:∀ k,dV ps k s<2 ^ ps.length:=fun k=>by
  have ht:lK ps (2 ^ ps.length - 1):=fun v _ _ i hi=>by
   rw[Nat.testBit_two_pow_sub_one];have:ps.getD v 0<2 ^ ps.length:=by
    rw[List.getD_eq_getElem?_getD];cases h:ps[v]? with
    | none=>exact Nat.two_pow_pos _
    | some p=>exact hp p (List.mem_of_getElem? h)
   simpa using oU this hi
  have:=tQ ht k (s:=s) fun i hi=>by rw[Nat.testBit_two_pow_sub_one];simpa using oU hs hi
  exact B7 fun i hi=>by have:=this i hi;rw[Nat.testBit_two_pow_sub_one]at this;simpa using this
 have key:∀ k,eH ps (dV ps k s)=dV ps k s\/k+1<=cQ ps.length (dV ps k s):=by
  have grow:∀ t,t<2 ^ ps.length->eH ps t<2 ^ ps.length->eH ps t≠t->cQ ps.length t<cQ ps.length (eH ps t):=fun t ht ht' hne=>by
   have:∃ i,(eH ps t).testBit i=true/\t.testBit i=false:=by
    refine Classical.byContradiction fun hno=>hne (Sub.antisymm (fun i hi=>?_) (xK ps t));rcases Bool.eq_false_or_eq_true (t.testBit i) with e|e
    ·exact e
    ·exact absurd ⟨i,hi,e⟩ hno
   obtain⟨i,h1,h0⟩:=this;exact oV (xK ps t) (oU ht' h1) h0 h1
  intro k
  induction k with
  | zero =>
   by_cases h0:s=0
   ·left;subst h0;show eH ps 0=0;unfold eH;have:∀ l:List Nat,l.foldl (eT ps) 0=0:=fun l=>by
     induction l with
     | nil=>rfl
     | cons v l ih=>simp only[List.foldl_cons,eT,Nat.zero_testBit,Bool.false_eq_true,if_false];exact ih
    exact this _
   ·right;obtain⟨i,hi⟩:=Nat.exists_testBit_of_ne_zero h0;have:cQ ps.length 0<cQ ps.length s:=oV (fun j hj=>by rw[Nat.zero_testBit]at hj;cases hj) (oU hs hi) (Nat.zero_testBit i) hi;show 0+1<=cQ ps.length s;omega
  | succ k ih =>
   rcases ih with ih|ih
   ·left;show eH ps (eH ps (dV ps k s))=eH ps (dV ps k s);rw[ih];exact ih
   ·by_cases hf:eH ps (dV ps k s)=dV ps k s
    ·left;show eH ps (eH ps (dV ps k s))=eH ps (dV ps k s);rw[hf];exact hf
    ·right;have:=grow _ (hb k) (hb (k+1)) hf;show k+1+1<=cQ ps.length (eH ps (dV ps k s));omega
 rcases key ps.length with h|h
 ·exact Ov h
 ·have:=xL ps.length (dV ps ps.length s);omega
def lL (ps:List Nat)(done v:Nat):Bool:=!done.testBit v && decide (jA (ps.getD v 0) done=0)
def kC (ps:List Nat)(done:Nat):Option Nat:=(List.range ps.length).find? (lL ps done)
def ju (ps:List Nat):Nat->List Nat->Nat->Option (List Nat)
 | 0,out,_=>some out
 | k+1,out,done=>match kC ps done with
  | none=>none
  | some v=>ju ps k (out++[v]) (done ||| 2 ^ v)
def eU (ps:List Nat):Option (List Nat):=ju ps ps.length [] 0
theorem xM {ps:List Nat}{done v:Nat}(hp:∀ p∈ps,p<2 ^ 64)(h:kC ps done=some v):v<ps.length/\done.testBit v=false/\Sub (ps.getD v 0) done:=by
 unfold kC at h;have h1:=List.mem_of_find?_eq_some h;have h2:=List.find?_some h;unfold lL at h2;simp only[Bool.and_eq_true,Bool.not_eq_true',decide_eq_true_eq]at h2;have hv:=List.mem_range.1 h1;refine⟨hv,h2.1,(B8 ?_).1 h2.2⟩;rw[List.getD_eq_getElem?_getD];cases h:ps[v]? with
 | none=>decide
 | some p=>exact hp p (List.mem_of_getElem? h)
theorem Oy {ps:List Nat}{done:Nat}(hp:∀ p∈ps,p<2 ^ 64)(h:kC ps done=none):∀ v,v<ps.length->done.testBit v=true\/¬ Sub (ps.getD v 0) done:=by
 intro v hv;unfold kC at h;rw[List.find?_eq_none]at h;have:=h v (List.mem_range.2 hv);unfold lL at this;rcases Bool.eq_false_or_eq_true (done.testBit v) with e|e
 ·exact .inl e
 ·right;intro hs;refine this ?_;rw[e,(B8 ?_).2 hs]
  ·simp
  ·rw[List.getD_eq_getElem?_getD];cases h:ps[v]? with
   | none=>decide
   | some p=>exact hp p (List.mem_of_getElem? h)
theorem iS (d v i:Nat):(d ||| 2 ^ v).testBit i=(d.testBit i || decide (v=i)):=by rw[Nat.testBit_or,Nat.testBit_two_pow]
theorem Oz {ps:List Nat}(hp:∀ p∈ps,p<2 ^ 64):∀ (k:Nat) (out:List Nat) (done:Nat) (r:List Nat),ju ps k out done=some r->k+cQ ps.length done=ps.length ->
  lK ps done->(∀ v,v<ps.length->done.testBit v=true->(fG ps (ps.getD v 0)).testBit v=false)->lJ ps:=by
 intro k
 induction k with
 | zero =>
  intro out done r _ hc hcl hall v hv;refine hall v hv ?_;rcases Bool.eq_false_or_eq_true (done.testBit v) with e|e
  ·exact e
  ·have:cQ ps.length done<cQ ps.length (2 ^ ps.length - 1 ||| done):=oV (.right _ _) hv e (by rw[Nat.testBit_or,Nat.testBit_two_pow_sub_one];simp [hv]);have:=xL ps.length (2 ^ ps.length - 1 ||| done);omega
 | succ k ih =>
  intro out done r h hc hcl hall;unfold ju at h;split at h
  ·cases h
  ·rename_i v hn;obtain⟨h1,h2,h3⟩:=xM hp hn;refine ih _ _ _ h ?_ ?_ ?_
   ·have:cQ ps.length (done ||| 2 ^ v)=cQ ps.length done+1:=by
     unfold cQ;have:∀ l:List Nat,l.Nodup->v∈l->l.countP (fun i=>(done ||| 2 ^ v).testBit i)=l.countP (fun i=>done.testBit i)+1:=by
      intro l
      induction l with
      | nil=>intro _ h;cases h
      | cons x l ihl =>
       intro hnd hmem;obtain⟨g1,g2⟩:=List.nodup_cons.1 hnd;rw[List.countP_cons,List.countP_cons];rcases List.mem_cons.1 hmem with rfl|hm2
       ·have:l.countP (fun i=>(done ||| 2 ^ v).testBit i)=l.countP (fun i=>done.testBit i):=List.countP_congr fun y hy=>by
         have:¬ v=y:=(by rintro rfl;exact g1 hy);simp [iS,this]
        rw[this];simp [iS,h2]
       ·have hx:¬ v=x:=(by rintro rfl;exact g1 hm2);rw[ihl g2 hm2];simp [iS,hx];omega
     exact this _ List.nodup_range (List.mem_range.2 h1)
    omega
   ·intro u hu hb;rw[iS,Bool.or_eq_true,decide_eq_true_eq]at hb;rcases hb with hb|rfl
    ·exact(hcl u hu hb).trans (.left _ _)
    ·exact h3.trans (.left _ _)
   ·intro u hu hb;rw[iS,Bool.or_eq_true,decide_eq_true_eq]at hb;rcases hb with hb|rfl
    ·exact hall u hu hb
    ·have:=tQ hcl ps.length h3;rcases Bool.eq_false_or_eq_true ((fG ps (ps.getD v 0)).testBit v) with e|e
     ·have:=this v e;rw[h2]at this;cases this
     ·exact e
theorem OA {ps:List Nat}(hp:∀ p∈ps,p<2 ^ ps.length)(h64:ps.length<=64)(ha:lJ ps):∀ (k:Nat) (out:List Nat) (done:Nat),k+cQ ps.length done=ps.length->∃ r,ju ps k out done=some r:=by
 have hp64:∀ p∈ps,p<2 ^ 64:=fun p h=>Nat.lt_of_lt_of_le (hp p h) (Nat.pow_le_pow_right (by decide) h64);have hpd:∀ v,ps.getD v 0<2 ^ ps.length:=fun v=>by
  rw[List.getD_eq_getElem?_getD];cases h:ps[v]? with
  | none=>exact Nat.two_pow_pos _
  | some p=>exact hp p (List.mem_of_getElem? h)
 intro k
 induction k with
 | zero=>exact fun out done _=>⟨out,rfl⟩
 | succ k ih =>
  intro out done hc;unfold ju;cases hn:kC ps done with
  | none =>
   exfalso;have hno:=Oy hp64 hn
      -- every node that is left has a parent that is left
   have step:∀ m v,v<ps.length->done.testBit v=false->cQ ps.length (fG ps (ps.getD v 0))<=m->False:=by
    intro m
    induction m with
    | zero =>
     intro v hv hd hm;obtain⟨i,h1,h2⟩:∃ i,(ps.getD v 0).testBit i=true/\done.testBit i=false:=by
      rcases hno v hv with h|h
      ·rw[hd]at h;cases h
      ·refine Classical.byContradiction fun hc=>h fun i hi=>?_;rcases Bool.eq_false_or_eq_true (done.testBit i) with e|e
       ·exact e
       ·exact absurd ⟨i,hi,e⟩ hc
     have:cQ ps.length 0<cQ ps.length (fG ps (ps.getD v 0)):=oV (fun j hj=>by rw[Nat.zero_testBit]at hj;cases hj) (oU (hpd v) h1) (Nat.zero_testBit i) (tR ps _ _ i h1);omega
    | succ m ihm =>
     intro v hv hd hm;obtain⟨u,h1,h2⟩:∃ i,(ps.getD v 0).testBit i=true/\done.testBit i=false:=by
      rcases hno v hv with h|h
      ·rw[hd]at h;cases h
      ·refine Classical.byContradiction fun hc=>h fun i hi=>?_;rcases Bool.eq_false_or_eq_true (done.testBit i) with e|e
       ·exact e
       ·exact absurd ⟨i,hi,e⟩ hc
     have hu:=oU (hpd v) h1;have hcl:=Ox hp (hpd v);have hin:(fG ps (ps.getD v 0)).testBit u=true:=tR ps _ _ u h1;have hsub:Sub (fG ps (ps.getD u 0)) (fG ps (ps.getD v 0)):=tQ hcl _ (hcl u hu hin);have:=oV hsub hu (ha u hu) hin;exact ihm u hu h2 (by omega)
   obtain⟨v,hv,hd⟩:∃ v,v<ps.length/\done.testBit v=false:=by
    refine Classical.byContradiction fun hno=>?_;have:cQ ps.length done=ps.length:=by
     unfold cQ
     conv=>rhs;rw[<- List.length_range (n:=ps.length)]
     rw[List.countP_eq_length];intro x hx;rcases Bool.eq_false_or_eq_true (done.testBit x) with e|e
     ·exact e
     ·exact absurd ⟨x,List.mem_range.1 hx,e⟩ hno
    omega
   exact step _ v hv hd (Nat.le_refl _)
  | some v =>
   obtain⟨h1,h2,h3⟩:=xM hp64 hn;refine ih _ _ ?_;have:cQ ps.length (done ||| 2 ^ v)=cQ ps.length done+1:=by
    unfold cQ;have:∀ l:List Nat,l.Nodup->v∈l->l.countP (fun i=>(done ||| 2 ^ v).testBit i)=l.countP (fun i=>done.testBit i)+1:=by
     intro l
     induction l with
     | nil=>intro _ h;cases h
     | cons x l ihl =>
      intro hnd hmem;obtain⟨g1,g2⟩:=List.nodup_cons.1 hnd;rw[List.countP_cons,List.countP_cons];rcases List.mem_cons.1 hmem with rfl|hm2
      ·have:l.countP (fun i=>(done ||| 2 ^ v).testBit i)=l.countP (fun i=>done.testBit i):=List.countP_congr fun y hy=>by
        have:¬ v=y:=(by rintro rfl;exact g1 hy);simp [iS,this]
       rw[this];simp [iS,h2]
      ·have hx:¬ v=x:=(by rintro rfl;exact g1 hm2);rw[ihl g2 hm2];simp [iS,hx];omega
    exact this _ List.nodup_range (List.mem_range.2 h1)
   omega
theorem Cb (n:Nat):cQ n 0=0:=by
 unfold cQ;rw[List.countP_eq_zero];intro x _;simp
theorem Cc {ps:List Nat}(hp:∀ p∈ps,p<2 ^ ps.length)(h64:ps.length<=64):(eU ps).isSome=true↔lJ ps:=by
 have hp64:∀ p∈ps,p<2 ^ 64:=fun p h=>Nat.lt_of_lt_of_le (hp p h) (Nat.pow_le_pow_right (by decide) h64);constructor
 ·intro h;obtain⟨r,hr⟩:=Option.isSome_iff_exists.1 h;exact Oz hp64 _ _ _ r hr (by rw[Cb];omega) (fun v _ h=>by rw[Nat.zero_testBit]at h;cases h) (fun v _ h=>by rw[Nat.zero_testBit]at h;cases h)
 ·intro h;obtain⟨r,hr⟩:=OA hp h64 h ps.length [] 0 (by rw[Cb];omega);unfold eU;rw[hr];rfl
end Go.Proofs
namespace Go.Hx
def jy (l:List Nat):AVal:=.vec l.length (l.map cM)
attribute [go_sem] cM jy
theorem aF.Pw {S:Nat->Prop}{lo nx:Nat}{H:AHeap}{e:TypeId}{v:AVal}{l:List Nat}(h:aF lo H e v (l.map cM))(hS:∀ i,lo<=i->S i):Fz S H nx v (jy l):=by
 have:=h.fz (S:=S) (nx:=nx) (cs':=l.map cM) hS rfl fun i hi _=>by simp only[List.getElem_map];exact .lit _
 rw[List.length_map]at this;exact this
end Go.Hx
namespace Go.Proofs
open Go.Hx
theorem Px {H H':AHeap}{v:AVal}{l:List Nat}(x:Nat)(ov:Over H H')(h:aF H.next H' 45 v (l.map cM))(hl:l.length<2 ^ 40):
  ∃ v' H2,bA Try.prog (ext H' [.arr 0 45 [.lit (.int .u64 (x:Int))]]) (H'.next+1) 78 78 v (.own H'.next 0 0 1 1)=some (v',H2)/\Over H H2/\aF H.next H2 45 v' ((l++[x]).map cM)/\H'.next<=H2.next/\(∀ k,k<H'.next->(∀ g n,v≠.own k g 0 n 1)->H2.get k=H'.get k):=by
 obtain⟨v',H2,hA,hO,hn2,hp⟩:=jK (P:=Try.prog) (H:=H') (t:=78) (x:=cM x) (n:=H'.next+1) Try.underlying78 Try.BQ Try.BS rfl (by rw[Try.BR,List.length_map];omega) h ov.next rfl;simp only[cM]at hA;exact⟨v',H2,hA,mP ov h hn2 hp,by rw[List.map_append];exact hO,hn2,hp⟩
theorem CL (m v:Nat)(hm:m<2 ^ 64)(hv:v<2 ^ 62)(H:AHeap)(K:ARes->AHeap->Prop)(hK:K (.ret (.lit (.bool (m.testBit v)))) H):af Try.prog G0 81 [cM m,aa v] H K:=by
 refine af.bf (n:=11) (rs:=[.tmp 4]) Try.func81 rfl rfl rfl (by decide) (by kernel_rfl) (by simp) ?_;have w1:=IntWalk.u64_in (v:Int) (by omega);have s1:=fun t x y=>CV (P:=Try.prog) (t:=t) (x:=x) (y:=y) (k':=.u64) (s:=v) hm;have s2:=fun t x y=>CW (P:=Try.prog) (t:=t) (x:=x) (y:=y) (s:=v) hm;cases hb:m.testBit v
 ·rw[hb]at hK;simp only[go_sem,w1,s1,s2,hb];exact av.mk (Nat.le_refl _) hK
 ·rw[hb]at hK;simp only[go_sem,w1,s1,s2,hb];exact av.mk (Nat.le_refl _) hK
def bt (ns:List NodeP):List Nat:=ns.map fun x=>dK x.parents
theorem mS {ns:List NodeP}{k:Nat}{x:NodeP}(h:ns[k]?=some x):(bt ns)[k]?=some (dK x.parents):=by unfold bt;rw[List.getElem?_map,h];rfl
theorem Py (g:Int)(ns:List NodeP)(hl:(ns.length:Int)<2 ^ 39)(hp:∀ x∈ns,(x.parents.length:Int)<2 ^ 39/\∀ q∈x.parents,0<=q/\q<64)(H:AHeap)(K:ARes->AHeap->Prop)
  (hK:K (.ret (jy (bt ns))) H):af Try.prog G0 34 [aY g ns] H K:=by
 refine af.clo ⟨_,Try.func34,rfl,rfl⟩ fun hcl=>?_;refine af.bf (n:=43) (rs:=[.tmp 2]) Try.func34 rfl rfl rfl (by decide) (by kernel_rfl) (by simp) ?_;simp only[go_sem,aY,cH];obtain⟨H1,hH1⟩:∃ H1,H1=ext H [.arr 0 35 [.lit (.int .i64 g),.vec ns.length (az ns)]]:=⟨_,rfl⟩
 have l1:H1.live H.next 0=some (35,[.lit (.int .i64 g),.vec ns.length (az ns)]):=by rw[hH1];exact ak (cS ..)
 have n1:H1.next=H.next+1:=by rw[hH1];rfl
 have o1:Over H H1:=by rw[hH1];exact .ext _ _
 rw[<- hH1];refine W.aI 4398046511096 (by rfl) (fun ρ H'=>∃ k:Nat,ρ 4=aa k/\k<=ns.length/\ρ 1=.ptr H.next 0 0/\Over H1 H'/\aF H1.next H' 45 (ρ 3) (((bt ns).take k).map cM)) (fun ρ H=>ns.length - (iv (ρ 4)).toNat) ?_ ?_
 ·simp only[go_sem];exact⟨0,rfl,by omega,.refl _,.nil⟩
 rintro ρ H' ⟨k,h4,hk,h1,ov,h3⟩;refine ab _ _ _ (by rfl) ?_;have l2:=(ov.live (g:=0) (by omega:H.next<H1.next)).trans l1;by_cases hb:(k:Int)<ns.length
 ·obtain⟨x,hx⟩:=get_of_lt (l:=ns) (i:=k) (by omega);have hne:=eS hx;have e1:=lH hx;obtain⟨xl,xr⟩:=hp x (List.mem_of_getElem? hx);simp only[go_sem,h4,h1,l2,hb];refine W.aI 274877890656 (by rfl) (fun ρ' H2=>H2=H'/\∃ j:Nat,ρ' 6=aa j/\j<=x.parents.length/\ρ' 5=cM (dK (x.parents.take j))) (fun ρ' H=>x.parents.length - (iv (ρ' 6)).toNat) ?_ ?_
  ·simp only[go_sem];exact⟨0,rfl,by omega,rfl⟩
  rintro ρ' H2 ⟨rfl,j,h6,hj,h5⟩;refine ab _ _ _ (by rfl) ?_;by_cases hb2:(j:Int)<x.parents.length
  ·obtain⟨q,hq⟩:=get_of_lt (l:=x.parents) (i:=j) (by omega);obtain⟨q0,q1⟩:=xr q (List.mem_of_getElem? hq);obtain⟨u,rfl⟩:=Int.eq_ofNat_of_zero_le q0;have hne2:=aJ hq;have w1:=IntWalk.u64_in (u:Int) (by omega);have w2:=IntWalk.i64_in ((j:Int)+1) (by omega);have b1:dK (x.parents.take j)<2 ^ 64:=xJ fun p hp=>by have:=xr p (List.mem_of_mem_take hp);omega
   have s1:=fun t x y=>yh (P:=Try.prog) (t:=t) (x:=x) (y:=y) (k':=.u64) (s:=u) (by omega);have s2:=fun t x y=>uh (P:=Try.prog) (t:=t) (x:=x) (y:=y) (b:=2 ^ u) b1 (Nat.pow_lt_pow_right (by decide) (by omega));simp only[go_sem,h4,h1,l2,hb,hne,e1,h6,h5,hb2,hq,hne2,w1,w2,s1,s2];exact⟨⟨j+1,by simp,by omega,by rw[aL hq,B6];rfl⟩,by omega⟩
  ·obtain⟨v',H3,hA,ov2,hO,hn2,_⟩:=Px (dK x.parents) ov h3 (by simp [bt];omega);have w1:=IntWalk.i64_in ((k:Int)+1) (by omega);rw[List.take_of_length_le (by omega)]at h5;simp only[go_sem,h4,h1,l2,hb,hne,e1,h6,h5,hb2,w1,hA];refine⟨by have:=ov2.next;omega,⟨k+1,by simp,by omega,ov2,?_⟩,by omega⟩;rw[aL (mS hx)];exact hO
 ·simp only[go_sem,h4,h1,l2,hb];rw[List.take_of_length_le (by simp [bt];omega)]at h3;exact av.bI aP hcl (o1.trans ov) (h3.Pw fun i hi=>by omega) hK
theorem CM {ps:List Nat}(hp:∀ p∈ps,p<2 ^ 64)(l:List Nat):∀ s,s<2 ^ 64->l.foldl (eT ps) s<2 ^ 64:=by
 induction l with
 | nil=>exact fun s h=>h
 | cons v l ih =>
  intro s h;refine ih _ ?_;unfold eT;split
  ·refine Nat.or_lt_two_pow h ?_;rw[List.getD_eq_getElem?_getD];cases h:ps[v]? with
   | none=>decide
   | some p=>exact hp p (List.mem_of_getElem? h)
  ·exact h
theorem ya {ps:List Nat}(hp:∀ p∈ps,p<2 ^ 64){s:Nat}(hs:s<2 ^ 64):∀ k,dV ps k s<2 ^ 64
 | 0=>hs
 | k+1=>CM hp _ _ (ya hp hs k)
theorem Pz (ps:List Nat)(s:Nat)(hl:(ps.length:Int)<2 ^ 39)(hp:∀ p∈ps,p<2 ^ 64)(hs:s<2 ^ 64)(H:AHeap)(K:ARes->AHeap->Prop)(hK:K (.ret (cM (fG ps s))) H):af Try.prog G0 82 [jy ps,cM s] H K:=by
 refine af.bf (n:=29) (rs:=[.tmp 4]) Try.func82 rfl rfl rfl (by decide) (by kernel_rfl) (by simp) ?_;simp only[go_sem];refine W.aI 268435426 (by rfl) (fun ρ H'=>H'=H/\∃ k:Nat,ρ 5=aa k/\k<=ps.length/\ρ 1=cM (dV ps k s)) (fun ρ H=>ps.length - (iv (ρ 5)).toNat) ?_ ?_
 ·simp only[go_sem];exact⟨0,rfl,by omega,rfl⟩
 rintro ρ H' ⟨rfl,k,h5,hk,h1⟩;refine ab _ _ _ (by rfl) ?_;by_cases hb:(k:Int)<ps.length
 ·simp only[go_sem,h5,hb];refine W.aI 268427330 (by rfl) (fun ρ' H2=>H2=H'/\∃ j:Nat,ρ' 6=aa j/\j<=ps.length/\ρ' 1=cM ((List.range j).foldl (eT ps) (dV ps k s))) (fun ρ' H=>ps.length - (iv (ρ' 6)).toNat) ?_ ?_
  ·simp only[go_sem,h1];exact⟨0,rfl,by omega,rfl⟩
  rintro ρ' H2 ⟨rfl,j,h6,hj,h1'⟩;refine ab _ _ _ (by rfl) ?_;by_cases hb2:(j:Int)<ps.length
  ·obtain⟨p,hpj⟩:=get_of_lt (l:=ps) (i:=j) (by omega);have hne:=aJ hpj;have b1:=CM hp (List.range j) _ (ya hp hs k);have w2:=IntWalk.i64_in ((j:Int)+1) (by omega);have hst:(List.range (j+1)).foldl (eT ps) (dV ps k s)=eT ps ((List.range j).foldl (eT ps) (dV ps k s)) j:=(by rw[List.range_succ,List.foldl_append];rfl);have s2:=fun t x y=>uh (P:=Try.prog) (t:=t) (x:=x) (y:=y) b1 (hp p (List.mem_of_getElem? hpj));obtain⟨m,hm⟩:∃ m,m=(List.range j).foldl (eT ps) (dV ps k s):=⟨_,rfl⟩
   rw[<- hm]at b1 h1' hst s2;simp only[go_sem,h6,h1',hb2];refine aw.clo (CL m j b1 (by omega) _ _ ⟨trivial,?_⟩);cases hbit:m.testBit j
   ·simp only[go_sem,h6,h1',w2];exact⟨⟨j+1,by simp,by omega,by rw[hst];unfold eT;rw[hbit];rfl⟩,by omega⟩
   ·simp only[go_sem,h6,h1',w2,hb2,hpj,hne,s2];exact⟨⟨j+1,by simp,by omega,by rw[hst];unfold eT;rw[hbit,if_pos rfl,bE hpj]⟩,by omega⟩
  ·have w2:=IntWalk.i64_in ((k:Int)+1) (by omega);have ej:j=ps.length:=(by omega);subst ej;simp only[go_sem,h6,h1',hb2,h5,w2];exact⟨⟨k+1,by simp,by omega,rfl⟩,by omega⟩
 ·simp only[go_sem,h5,h1,hb];have ek:k=ps.length:=by omega
  subst ek;exact av.mk (Nat.le_refl _) hK
def qO (ps:List Nat):Bool:=(List.range ps.length).all fun v=>!(fG ps (ps.getD v 0)).testBit v
theorem ua (ps:List Nat):qO ps=true↔lJ ps:=by
 unfold qO lJ;simp only[List.all_eq_true,List.mem_range,Bool.not_eq_true']
theorem PA (ps:List Nat)(hl:(ps.length:Int)<2 ^ 39)(hp:∀ p∈ps,p<2 ^ 64)(H:AHeap)(K:ARes->AHeap->Prop)(hK:K (.ret (.lit (.bool (qO ps)))) H):af Try.prog G0 61 [jy ps] H K:=by
 have no:¬ qO ps=true->av Try.prog G0 H K (.lit (.bool false)) H:=fun h=>av.mk (Nat.le_refl _) (by rw[Bool.eq_false_iff.2 h]at hK;exact hK);refine af.bf (n:=18) (rs:=[.tmp 2]) Try.func61 rfl rfl rfl (by decide) (by kernel_rfl) (by simp) ?_;simp only[go_sem];refine W.aI 262140 (by rfl) (fun ρ H'=>H'=H/\∃ k:Nat,ρ 3=aa k/\k<=ps.length/\∀ v,v<k->(fG ps (ps.getD v 0)).testBit v=false) (fun ρ H=>ps.length - (iv (ρ 3)).toNat) ?_ ?_
 ·simp only[go_sem];exact⟨0,rfl,by omega,fun v h=>absurd h (Nat.not_lt_zero _)⟩
 rintro ρ H' ⟨rfl,k,h3,hk,ha⟩;refine ab _ _ _ (by rfl) ?_;by_cases hb:(k:Int)<ps.length
 ·obtain⟨p,hpk⟩:=get_of_lt (l:=ps) (i:=k) (by omega);have hne:=aJ hpk;have hp1:=hp p (List.mem_of_getElem? hpk);simp only[go_sem,h3,hb,hpk,hne];refine aw.clo (Pz ps p hl hp hp1 _ _ ⟨trivial,?_⟩);simp only[go_sem,h3];refine aw.clo (CL (fG ps p) k (ya hp hp1 _) (by omega) _ _ ⟨trivial,?_⟩);have w2:=IntWalk.i64_in ((k:Int)+1) (by omega);cases hbit:(fG ps p).testBit k
  ·simp only[go_sem,h3,w2];refine⟨⟨k+1,by simp,by omega,fun v hv=>?_⟩,by omega⟩;rcases Nat.lt_or_ge v k with h|h
   ·exact ha v h
   ·obtain rfl:v=k:=(by omega);rw[bE hpk];exact hbit
  ·simp only[go_sem];refine no fun h=>?_;have:=(ua ps).1 h k (by omega);rw[bE hpk,hbit]at this;cases this
 ·simp only[go_sem,h3,hb];rw[(ua ps).2 fun v hv=>ha v (by omega)]at hK;exact av.mk (Nat.le_refl _) hK
def jz (g card:Int)(r:List Int):Prop:=(r.length:Int)=card/\(∀ w∈r,0<=w/\w<=g)/\r.sum=g
def iq (g:Int)(ns:List NodeP)(x:NodeP):Prop:=(x.rows.length:Int)=au (aR ns x)/\∀ r∈x.rows,jz g x.card r
structure NetOk (g:Int)(ns:List NodeP):Prop where
 g1:1<=g/\g<=60
 n1:1<=ns.length/\ns.length<=8
 node:∀ x∈ns,(1<=x.card/\x.card<=4)/\dk x.parents ns.length
 size:au (ar ns)<=1024
 acyc:lJ (bt ns)
 rows:∀ x∈ns,iq g ns x
noncomputable def gu (g:Int)(ns:List NodeP):Bool:=@decide (NetOk g ns) (Classical.propDecidable _)
theorem CN {g:Int}{ns:List NodeP}(h:NetOk g ns):gu g ns=true:=by unfold gu;exact @decide_eq_true _ (Classical.propDecidable _) h
theorem CO {g:Int}{ns:List NodeP}(h:¬ NetOk g ns):gu g ns=false:=by unfold gu;exact @decide_eq_false _ (Classical.propDecidable _) h
theorem CP {g:Int}{ns:List NodeP}:gu g ns=true↔NetOk g ns:=by unfold gu;exact @decide_eq_true_iff _ (Classical.propDecidable _)
def jY (ns:List NodeP):Prop:=(ns.length:Int)<2 ^ 38/\∀ x∈ns,(x.parents.length:Int)<2 ^ 38/\(x.rows.length:Int)<2 ^ 38/\∀ r∈x.rows,(r.length:Int)<2 ^ 38
theorem mT {l:List Int}(h:l.length<=12)(h2:∀ x∈l,1<=x/\x<=4):dR l:=⟨h,fun x hx=>by have:=h2 x hx;omega⟩
theorem CQ {ns:List NodeP}{x:NodeP}(hin:gp x.parents ns.length)(hc:∀ y∈ns,1<=y.card/\y.card<=4):∀ c∈aR ns x,1<=c/\c<=4:=fun c h=>by
 unfold aR aS at h;obtain⟨q,hq,rfl⟩:=List.mem_map.1 h;obtain⟨j,rfl,y,hy⟩:=mJ (l:=ns) (hin q hq).1 (hin q hq).2;rw[Int.toNat_natCast,bE (cI hy)];exact hc y (List.mem_of_getElem? hy)
theorem pf {ns:List NodeP}{x:NodeP}(h8:ns.length<=8)(hp:dk x.parents ns.length)(hc:∀ y∈ns,1<=y.card/\y.card<=4):dR (aR ns x):=by
 refine mT ?_ (CQ (fun q hq=>by have:=hp.2 q hq;omega) hc);rw[show (aR ns x).length=_ from gO _ _];have:=hp.len;omega
theorem ub {ns:List NodeP}{n:Nat}(h:∀ x∈ns,∀ q∈x.parents,0<=q/\q<(n:Int)):∀ p∈bt ns,p<2 ^ n:=fun p hp=>by
 obtain⟨x,hx,rfl⟩:=List.mem_map.1 hp;exact xJ fun q hq=>by have:=h x hx q hq;omega
theorem uc (l:List Int)(x:Int):(l++[x]).sum=l.sum+x:=by simp
set_option maxHeartbeats 2000000 in
theorem PB (g:Int)(ns:List NodeP)(hf:jY ns)(H:AHeap)(K:ARes->AHeap->Prop)(hK:K (.ret (.lit (.bool (gu g ns)))) H):af Try.prog G0 30 [aY g ns] H K:=by
 refine af.clo ⟨_,Try.func30,rfl,rfl⟩ fun hcl=>?_;have no:¬ NetOk g ns->∀ H',Over H H'->av Try.prog G0 H K (.lit (.bool false)) H':=fun h H' ov=>av.bI aP hcl ov (.lit _) (by rw[CO h]at hK;exact hK);refine af.bf (n:=154) (rs:=[.tmp 2]) Try.func30 rfl rfl rfl (by decide) (by kernel_rfl) (by simp) ?_;simp only[go_sem,aY,cH];obtain⟨H1,hH1⟩:∃ H1,H1=ext H [.arr 0 35 [.lit (.int .i64 g),.vec ns.length (az ns)]]:=⟨_,rfl⟩
 have l1:H1.live H.next 0=some (35,[.lit (.int .i64 g),.vec ns.length (az ns)]):=by rw[hH1];exact ak (cS ..)
 have n1:H1.next=H.next+1:=by rw[hH1];rfl
 have o1:Over H H1:=by rw[hH1];exact .ext _ _
 rw[<- hH1];by_cases c1:g<1
 ·simp only[go_sem,c1];exact no (fun h=>by have:=h.g1;omega) _ o1
 by_cases c2:g > 60
 ·simp only[go_sem,l1,c1,c2];exact no (fun h=>by have:=h.g1;omega) _ o1
 by_cases c3:(ns.length:Int)<1
 ·simp only[go_sem,l1,c1,c2,c3];exact no (fun h=>by have:=h.n1;omega) _ o1
 by_cases c4:(ns.length:Int) > 8
 ·simp only[go_sem,l1,c1,c2,c3,c4];exact no (fun h=>by have:=h.n1;omega) _ o1
 simp only[go_sem,l1,c1,c2,c3,c4];refine W.aI 18446744071562068028 (by rfl) (fun ρ H'=>∃ k:Nat,ρ 4=aa k/\k<=ns.length/\Over H1 H'/\(∀ x∈ns.take k,(1<=x.card/\x.card<=4)/\dk x.parents ns.length)/\ρ 3=aa (au ((ar ns).take k))) (fun ρ H=>ns.length - (iv (ρ 4)).toNat) ?_ ?_
 ·simp only[go_sem];exact⟨0,rfl,by omega,.refl _,by simp,by simp [fj]⟩
 ·rintro ρ H' ⟨k,h4,hk,ov,hall,h3⟩;refine ab _ _ _ (by rfl) ?_;have l2:=(ov.live (g:=0) (by omega:H.next<H1.next)).trans l1;have hlt:H.next<H'.next:=by have:=ov.next;omega
  have l3:∀ L,(ext H' L).live H.next 0=_:=fun L=>(eQ hlt).trans l2;by_cases hb:(k:Int)<ns.length
  ·obtain⟨x,hx⟩:=get_of_lt (l:=ns) (i:=k) (by omega);have hxm:=List.mem_of_getElem? hx;have hne:=eS hx;have e0:=mI hx;have e1:k*3+3<=(az ns).length:=(by rw[jq];omega);have nb:¬ H.next=H'.next:=(by omega);have ove:∀ L,Over H (ext H' L):=fun L=>(o1.trans ov).trans (.ext _ _);by_cases d1:x.card<1
   ·simp only[go_sem,h4,l2,hb,hne,e0,e1,d1];exact no (fun h=>by have:=(h.node x hxm).1;omega) _ (ove _)
   by_cases d2:x.card > 4
   ·simp only[go_sem,h4,l2,hb,hne,e0,e1,d1,d2];exact no (fun h=>by have:=(h.node x hxm).1;omega) _ (ove _)
   simp only[go_sem,h4,l2,l3,hb,hne,e0,e1,d1,d2];refine aw.clo (Pv x.parents ns.length (by have:=(hf.2 x hxm).1;omega) _ _ ⟨trivial,?_⟩);by_cases d3:dk x.parents ns.length;rotate_left
   ·simp only[go_sem,d3];exact no (fun h=>d3 (h.node x hxm).2) _ (ove _)
   have hall':∀ y∈ns.take (k+1),(1<=y.card/\y.card<=4)/\dk y.parents ns.length:=fun y hy=>by
    rw[aL hx]at hy;rcases List.mem_append.1 hy with hy|hy
    ·exact hall y hy
    ·obtain rfl:=List.mem_singleton.1 hy;exact⟨by omega,d3⟩
   have b1:dR ((ar ns).take (k+1)):=mT (by simp [ar];omega) fun c hc=>by
    rw[show (ar ns).take (k+1)=ar (ns.take (k+1)) by simp [ar]]at hc;obtain⟨y,hy,rfl⟩:=List.mem_map.1 hc;exact(hall' y hy).1
   have b2:=b1.prod;rw[aL (cI hx),fR]at b2;have w1:=IntWalk.i64_in ((k:Int)+1) (by omega);have w2:=IntWalk.i64_in (au ((ar ns).take k)*x.card) (by omega);simp only[go_sem,h4,h3,d3,w1,w2];exact⟨by have:=ov.next;omega,⟨k+1,by simp,by omega,ov.trans (.ext _ _),fun y hy=>hall' y hy,by rw[aL (cI hx),fR]⟩,by omega⟩
  ·have ek:k=ns.length:=(by omega);subst ek;rw[List.take_of_length_le (Nat.le_refl _)]at hall;rw[List.take_of_length_le (by rw[bO];omega)]at h3;have hcards:∀ y∈ns,1<=y.card/\y.card<=4:=fun y hy=>(hall y hy).1;have ov0:=o1.trans ov;by_cases c5:au (ar ns) > 1024
   ·simp only[go_sem,h4,h3,l2,hb,c5];exact no (fun h=>by have:=h.size;omega) _ ov0
   simp only[go_sem,h4,h3,l2,hb,c5];have hpl:∀ x∈ns,(x.parents.length:Int)<2 ^ 39/\∀ q∈x.parents,0<=q/\q<64:=fun x hx=>⟨by have:=(hf.2 x hx).1;omega,fun q hq=>by have:=(hall x hx).2.2 q hq;omega⟩
   refine aw.clo (Py g ns (by have:=hf.1;omega) hpl _ _ ⟨trivial,?_⟩);simp only[go_sem];refine aw.clo (PA (bt ns) (by simp [bt];omega) (fun p hp=>Nat.lt_of_lt_of_le (ub (n:=64) (fun x hx q hq=>by have:=(hpl x hx).2 q hq;omega) p hp) (Nat.le_refl _)) _ _ ⟨trivial,?_⟩);cases hac:qO (bt ns)
   ·simp only[go_sem];exact no (fun h=>by rw[(ua _).2 h.acyc]at hac;cases hac) _ ov0
   simp only[go_sem];refine W.aI 22835963083295358096932570788825439312478734276 (by rfl) (fun ρ' H2=>∃ k:Nat,ρ' 6=aa k/\k<=ns.length/\Over H' H2/\∀ x∈ns.take k,iq g ns x) (fun ρ' H=>ns.length - (iv (ρ' 6)).toNat) ?_ ?_
   ·simp only[go_sem];exact⟨0,rfl,by omega,.refl _,by simp⟩
   rintro ρ' H2 ⟨k,h6,hk,ov2',hrows⟩;have ov2:=ov.trans ov2';refine ab _ _ _ (by rfl) ?_;have l2:=(ov2.live (g:=0) (by omega:H.next<H1.next)).trans l1;have hlt:H.next<H2.next:=(by have:=ov2.next;omega);by_cases hb:(k:Int)<ns.length;rotate_left
   ·simp only[go_sem,h6,l2,hb];rw[List.take_of_length_le (by omega)]at hrows;rw[CN ⟨by omega,by omega,hall,by omega,(ua _).1 hac,hrows⟩]at hK;exact av.bI aP hcl (o1.trans ov2) (.lit _) hK
   obtain⟨x,hx⟩:=get_of_lt (l:=ns) (i:=k) (by omega);have hxm:=List.mem_of_getElem? hx;have hne:=eS hx;have e0:=mI hx;have e1:k*3+3<=(az ns).length:=(by rw[jq];omega);obtain⟨x1,x2⟩:=hall x hxm;obtain⟨f1,f2,f3⟩:=hf.2 x hxm;have sm:=pf (by omega) x2 hcards;simp only[go_sem,h6,l2,hb,hne,e0,e1];obtain⟨H3,hH3⟩:∃ H3,H3=ext H2 [.arr 0 69 [.lit (.int .i64 x.card),.vec x.parents.length (ints x.parents),aC x.rows]]:=⟨_,rfl⟩
   have m1:H3.live H2.next 0=some (69,[.lit (.int .i64 x.card),.vec x.parents.length (ints x.parents),aC x.rows]):=(by rw[hH3];exact ak (cS ..));have m2:H3.live H.next 0=some (35,[.lit (.int .i64 g),.vec ns.length (az ns)]):=(by rw[hH3,eQ hlt];exact l2);have m3:H3.next=H2.next+1:=(by rw[hH3];rfl);have ov3:Over H1 H3:=(by rw[hH3];exact ov2.trans (.ext _ _));have ov4:Over H H3:=o1.trans ov3;rw[<- hH3];refine W.draw 7 [0,1,3,0,0,24,56] Try.mixed (by kernel_rfl) (by kernel_rfl) ?_;simp only[go_sem,h6,m1,m2,aC];refine⟨ae (aR ns x),[],dI.pure fun H2=>x7 g ns k x hx (by have:=hf.1;omega) (by omega) (fun q hq=>by have:=x2.2 q hq;omega) H2 _ ⟨rfl,rfl⟩,?_⟩;simp only[go_sem];refine⟨aa (au (aR ns x)),[],dI.pure fun H2=>xZ (aR ns x) sm H2 _ ⟨rfl,rfl⟩,?_⟩;by_cases d1:(x.rows.length:Int)=au (aR ns x);rotate_left
   ·simp only[go_sem,d1];exact no (fun h=>d1 (h.rows x hxm).1) _ ov4
   simp only[go_sem,d1];refine W.aI 22835963083295358091980815354050401082527450884 (by rfl) (fun ρ2 H4=>H4=H3/\∃ j:Nat,ρ2 8=aa j/\j<=x.rows.length/\∀ r∈x.rows.take j,jz g x.card r) (fun ρ2 H=>x.rows.length - (iv (ρ2 8)).toNat) ?_ ?_
   ·simp only[go_sem];exact⟨0,rfl,by omega,by simp⟩
   rintro ρ2 H4 ⟨rfl,j,h8,hj,hrj⟩;refine ab _ _ _ (by rfl) ?_;by_cases hb2:(j:Int)<x.rows.length;rotate_left
   ·have w1:=IntWalk.i64_in ((k:Int)+1) (by omega);have hb2':¬ (j:Int)<au (aR ns x):=(by omega);simp only[go_sem,h6,h8,m1,hb2',d1,w1,aC];rw[List.take_of_length_le (by omega)]at hrj;refine⟨by have:=ov2'.next;omega,⟨k+1,by simp,by omega,by rw[hH3];exact ov2'.trans (.ext _ _),fun y hy=>?_⟩,by omega⟩;rw[aL hx]at hy;rcases List.mem_append.1 hy with hy|hy
    ·exact hrows y hy
    ·obtain rfl:=List.mem_singleton.1 hy;exact⟨d1,hrj⟩
   obtain⟨r,hr⟩:=get_of_lt (l:=x.rows) (i:=j) (by omega);have hrm:=List.mem_of_getElem? hr;have hrne:=aJ hr;have hb2':(j:Int)<au (aR ns x):=(by omega);have nope:¬ jz g x.card r->¬ NetOk g ns:=fun h h'=>h ((h'.rows x hxm).2 r hrm);simp only[go_sem,h8,m1,hb2',d1,aC];refine W.draw 8 [0,1,0,7,15,31,0,64] Try.mixed (by kernel_rfl) (by kernel_rfl) ?_;by_cases d2:(r.length:Int)=x.card;rotate_left
   ·simp only[go_sem,h8,m1,hb2',d1,d2,hr,hrne,aC];exact no (nope fun h=>d2 h.1) _ ov4
   simp only[go_sem,h8,m1,hb2',d1,d2,hr,hrne,aC];refine W.aI 1427247692705635362504627542722711980362171908 (by rfl) (fun ρ3 H5=>H5=H4/\∃ i:Nat,ρ3 10=aa i/\i<=r.length/\ρ3 9=aa (r.take i).sum/\∀ w∈r.take i,0<=w/\w<=g) (fun ρ3 H=>r.length - (iv (ρ3 10)).toNat) ?_ ?_
   ·simp only[go_sem];exact⟨0,rfl,by omega,by simp,by simp⟩
   rintro ρ3 H5 ⟨rfl,i,h10,hi,h9,hw⟩;refine ab _ _ _ (by rfl) ?_;have sb:0<=(r.take i).sum/\(r.take i).sum<=60*i:=by
    have key:∀ l:List Int,(∀ w∈l,0<=w/\w<=g)->0<=l.sum/\l.sum<=60*l.length:=by
     intro l
     induction l with
     | nil=>intro _;simp
     | cons a l ih =>
      intro h;have h1:=ih fun w hw=>h w (by simp [hw]);have h2:=h a (by simp);simp only[List.sum_cons,List.length_cons]
      push_cast
      omega
    have:=key _ hw;rw[List.length_take,Nat.min_eq_left (by omega)]at this;exact this
   have r4:r.length<=4:=(by omega);by_cases hb3:(i:Int)<r.length<;>have hb3':=hb3<;>rw[d2]at hb3'
   rotate_left
   ·rw[List.take_of_length_le (by omega)]at h9 hw;by_cases d3:r.sum=g;rotate_left
    ·simp only[go_sem,h8,h9,h10,m1,m2,hb3',hr,hrne,hb2',d1,d2,d3,aC];exact no (nope fun h=>d3 h.2.2) _ ov4
    have w1:=IntWalk.i64_in ((j:Int)+1) (by have:=(hf.2 x hxm).2.1;omega);simp only[go_sem,h8,h9,h10,m1,m2,hb3',hr,hrne,hb2',d1,d2,d3,w1,aC];refine⟨⟨j+1,by simp,by omega,fun y hy=>?_⟩,by omega⟩;rw[aL hr]at hy;rcases List.mem_append.1 hy with hy|hy
    ·exact hrj y hy
    ·obtain rfl:=List.mem_singleton.1 hy;exact⟨d2,hw,d3⟩
   obtain⟨a,ha⟩:=get_of_lt (l:=r) (i:=i) (by omega);have ham:=List.mem_of_getElem? ha;have hane:=aJ ha;simp only[go_sem,h8,h10,m1,hr,hrne,hb2',hb3',d1,d2,aC];refine W.draw 20 [0,1,0,7,15,0,63,127,255,511,1023,2047,1023,8191,16383,1023,65535,131071,1023,263167] Try.mixed (by kernel_rfl) (by kernel_rfl) ?_;by_cases d3:a<0
   ·simp only[go_sem,h8,h10,m1,hr,hrne,hb2',hb3',ha,hane,d1,d2,d3,aC];exact no (nope fun h=>by have:=h.2.1 a ham;omega) _ ov4
   by_cases d4:a > g
   ·simp only[go_sem,h8,h10,m1,m2,hr,hrne,hb2',hb3',ha,hane,d1,d2,d3,d4,aC];exact no (nope fun h=>by have:=h.2.1 a ham;omega) _ ov4
   have w1:=IntWalk.i64_in ((i:Int)+1) (by omega);have w2:=IntWalk.i64_in ((r.take i).sum+a) (by omega);simp only[go_sem,h8,h9,h10,m1,m2,hr,hrne,hb2',hb3',ha,hane,d1,d2,d3,d4,w1,w2,aC];refine⟨⟨i+1,by simp,by omega,by rw[aL ha,uc],fun w hw'=>?_⟩,by omega⟩;rw[aL ha]at hw';rcases List.mem_append.1 hw' with hw'|hw'
   ·exact hw w hw'
   ·obtain rfl:=List.mem_singleton.1 hw';exact⟨by omega,by omega⟩
end Go.Proofs
namespace Go.Hx
variable {P:Program} {G:Nat->Option (List AVal)} {n:Nat} {rd:Option Nat} {Q:AX->St->Prop}
def CZ (P:Program)(G:Nat->Option (List AVal))(f:FuncId)(first cap:List AVal)(xs:List (List AVal))(S:AHeap->Prop):Prop :=
 ∀ (idy:Nat) (J:Nat->AHeap->Prop) (Stop:AHeap->Prop) (H:AHeap) (K:ARes->AHeap->Prop),
  (∀ k H1,J k H1->S H1)->J 0 H ->
  (∀ k x H1 K1,xs[k]?=some x->J k H1->H.next<=H1.next->(∀ H',J (k+1) H'->H1.next<=H'.next->K1 (.ret (.lit (.bool true))) H')->(∀ H',Stop H'->H1.next<=H'.next->K1 (.ret (.lit (.bool false))) H')->aw P G (.yld idy) x H1 K1) ->
  (∀ H',J xs.length H'->H.next<=H'.next->K (.ret (.tup [])) H') ->
  (∀ H',Stop H'->H.next<=H'.next->K (.ret (.tup [])) H') ->
  af P G f (first++[.yld idy]++cap) H K
def lT (idy:Nat)(B:Blk)(lo:Nat)(J:AHeap->Prop)(Stop:AX->AHeap->Prop):AX->St->Prop
 | .normal,s=>s.H.get idy=some B/\lo<=s.H.next/\J s.H
 | .ret,s=>s.H.get idy=some B/\lo<=s.H.next/\Stop .ret s.H
 | .exit i,s=>s.H.get idy=some B/\lo<=s.H.next/\Stop (.exit i) s.H
 | _,_=>False
def qT (P:Program)(G:Nat->Option (List AVal))(n idy:Nat)(B Bb:Blk)(lo:Nat)(body:Code)(J:AHeap->Prop)(Stop:AX->AHeap->Prop):AX->St->Prop
 | .normal,s=>s.H.get idy=some B/\W P G n (some idy) body (lT idy Bb lo J Stop) ⟨s.ρ,s.H.upd idy Bb⟩
 | _,_=>False
theorem W.P7 {g:Operand}{ps:Array Tmp}{asg body:Code}{ρ:Env}{H:AHeap}{f:FuncId}{first cap:List AVal}{xs:List (List AVal)}{S:AHeap->Prop}(hg:aj G ρ g=.clo f first cap)
  (hit:CZ P G f first cap xs S) (J:Nat->AHeap->Prop) (Stop:AX->AHeap->Prop) (hS:∀ k H1,J k H1->S H1)
  (hJu:∀ k H1 b,J k H1->J k (H1.upd H.next b)) (hSu:∀ c H1 b,Stop c H1->Stop c (H1.upd H.next b))
  (hJ0:∀ b,J 0 (ext H [b])) (hps:ps.toList.all (fun t=>decide (t<n))=true) (hxl:∀ x∈xs,x.length=ps.size)
  (hrd:∀ k H1,J k H1->dY H1 rd) (hrd2:∀ c H1,Stop c H1->dY H1 rd)
  (hround:∀ k x H1 B Bb,xs[k]?=some x->J k H1->H.next+1<=H1.next->H1.get H.next=some B->(∃ st pd n' en ps' as' bo,Bb=Blk.loop st pd n' en ps' as' bo) ->
   W P G n (some H.next) asg (qT P G n H.next B Bb H1.next body (J (k+1)) Stop) ⟨km (de ρ n) (ps.toList.zip x),H1⟩)
  (hend:∀ H',J xs.length H'->H.next+1<=H'.next->Q .normal ⟨ρ,H'⟩)
  (hret:∀ H',Stop .ret H'->H.next+1<=H'.next->Q .ret ⟨ρ,H'⟩) (hexit:∀ i H',Stop (.exit i) H'->H.next+1<=H'.next->Q (.exit i) ⟨ρ,H'⟩):
  W P G n rd (.rangeFunc g ps asg body) Q ⟨ρ,H⟩:=by
 refine W.rangeFunc (s:=⟨ρ,H⟩) hg ⟨_,rJ _ _,?_⟩;obtain⟨B,hB⟩:∃ B,B=Blk.loop .ready none n ρ ps asg body:=⟨_,rfl⟩
 obtain⟨Bb,hBb⟩:∃ B,B=Blk.loop .busy none n ρ ps asg body:=⟨_,rfl⟩
 have nx:(ext H [B]).next=H.next+1:=rfl;show af P G f (first++[.yld H.next]++cap) (ext H [Blk.loop .ready none n ρ ps asg body]) (rU rd Q ρ H.next);rw[<- hB];refine hit H.next (fun k H1=>H1.get H.next=some B/\J k H1) (fun H1=>∃ c pend,H1.get H.next=some (.loop .done (some pend) n ρ ps asg body)/\Stop c H1/\((c=.ret/\pend=.ret)\/∃ i,c=.exit i/\pend=.exit i)) _ _
  (fun k H1 h=>hS k H1 h.2) ⟨cP,hJ0 B⟩ (fun k x H1 K1 hx hj hn hgo hst=>?_) (fun H' hj hn=>?_) (fun H' hj hn=>?_)
 ·have hxm:=hxl x (List.mem_of_getElem? hx);refine aw.yld (hj.1.trans (congrArg some hB)) hxm hps ?_;refine(hround k x H1 B Bb hx hj.2 hn hj.1 ⟨_,_,_,_,_,_,_,hBb⟩).mono fun e s1 h1=>?_;cases e with
  | normal =>
   obtain⟨a1,a2⟩:=h1;refine⟨Bb,by rw[a1,hB,hBb];rfl,?_⟩;refine a2.mono fun e2 s2 h2=>?_;cases e2 with
   | normal =>
    obtain⟨b1,b2,b3⟩:=h2;exact⟨B,by rw[b1,hB,hBb];rfl,hgo _ ⟨by rw[ag,if_pos rfl],hJu _ _ _ b3⟩ b2⟩
   | ret =>
    obtain⟨b1,b2,b3⟩:=h2;exact⟨.loop .done (some .ret) n ρ ps asg body,by rw[b1,hBb];rfl,hst _ ⟨.ret,.ret,by rw[ag,if_pos rfl],hSu _ _ _ b3,.inl ⟨rfl,rfl⟩⟩ b2⟩
   | exit i =>
    obtain⟨b1,b2,b3⟩:=h2;exact⟨.loop .done (some (.exit i)) n ρ ps asg body,by rw[b1,hBb];rfl,hst _ ⟨.exit i,.exit i,by rw[ag,if_pos rfl],hSu _ _ _ b3,.inr ⟨i,rfl,rfl⟩⟩ b2⟩
   | _=>exact h2.elim
  | _=>exact h1.elim
 ·refine⟨hrd _ _ hj.2,(none,.loop .exhausted none n ρ ps asg body),by rw[hj.1,hB];rfl,?_⟩;exact hend _ (hJu _ _ _ hj.2) hn
 ·obtain⟨c,pend,h1,h2,h3⟩:=hj;refine⟨hrd2 _ _ h2,(some pend,.loop .exhausted (some pend) n ρ ps asg body),by rw[h1];rfl,?_⟩;rcases h3 with ⟨rfl,rfl⟩|⟨i,rfl,rfl⟩
  ·exact hret _ (hSu _ _ _ h2) hn
  ·exact hexit i _ (hSu _ _ _ h2) hn
end Go.Hx
namespace Go.Proofs
open Go.Hx
def qP (x:NodeP):AVal:=.agg [.lit (.int .i64 x.card),.vec x.parents.length (ints x.parents),aC x.rows]
def lS (rows:List (List Int)):List (List AVal):=rows.zipIdx.map fun p=>[aa p.2,ae p.1]
theorem CR {rows:List (List Int)}{k:Nat}{x:List AVal}(h:(lS rows)[k]?=some x):∃ r,rows[k]?=some r/\x=[aa k,ae r]:=by
 unfold lS at h;rw[List.getElem?_map,List.getElem?_zipIdx]at h;cases hr:rows[k]? with
 | none=>rw[hr]at h;simp at h
 | some r=>rw[hr]at h;simp at h;exact⟨r,rfl,h.symm⟩
theorem PC {rows:List (List Int)}{k:Nat}{r:List Int}(h:rows[k]?=some r):(lS rows)[k]?=some [aa k,ae r]:=by
 unfold lS;rw[List.getElem?_map,List.getElem?_zipIdx,h];simp
theorem CS (rows:List (List Int)):(lS rows).length=rows.length:=by simp [lS]
theorem PD (x:NodeP)(hl:(x.rows.length:Int)<2 ^ 40)(b:Nat):CZ Try.prog G0 112 [] [.ptr b 0 0] (lS x.rows) (fun H=>H.get b=some (.arr 0 69 [.lit (.int .i64 x.card),.vec x.parents.length (ints x.parents),aC x.rows])):=by
 intro idy J Stop H K hS hJ0 hY hK hSt;have l0:=ak (hS 0 H hJ0);show af _ _ _ ([.yld idy]++[.ptr b 0 0]) _ _;refine af.bf (n:=19) (rs:=[]) Try.func112 rfl rfl rfl (by decide) (by kernel_rfl) (by simp) ?_;simp only[go_sem,l0,aC];refine W.aI 524056 (by rfl) (fun ρ H'=>∃ k:Nat,ρ 8=aa k/\k<=x.rows.length/\J k H'/\H.next<=H'.next) (fun ρ H=>x.rows.length - (iv (ρ 8)).toNat) ?_ ?_
 ·simp only[go_sem];exact⟨0,rfl,by omega,hJ0⟩
 rintro ρ H' ⟨k,h8,hk,hj,hn⟩;refine ab _ _ _ (by rfl) ?_;by_cases hb:(k:Int)<x.rows.length
 ·obtain⟨r,hr⟩:=get_of_lt (l:=x.rows) (i:=k) (by omega);have hne:=aJ hr;have w1:=IntWalk.i64_in ((k:Int)+1) (by omega);simp only[go_sem,h8,hb,hr,hne];refine hY k [aa k,ae r] H' _ (PC hr) hj hn (fun H2 hj2 hn2=>⟨trivial,?_⟩) (fun H2 hs2 hn2=>⟨trivial,?_⟩)
  ·simp only[go_sem,h8,w1];exact⟨by omega,⟨k+1,by simp,by omega,hj2,by omega⟩,by omega⟩
  ·simp only[go_sem];exact av.mk (by omega) (hSt H2 hs2 (by omega))
 ·simp only[go_sem,h8,hb];have ek:k=(lS x.rows).length:=by rw[CS];omega
  subst ek;exact av.mk (by omega) (hK H' hj hn)
theorem PE (x:NodeP)(H:AHeap)(K:ARes->AHeap->Prop)(hK:K (.ret (.clo 112 [] [.ptr H.next 0 0])) (ext H [.arr 0 69 [.lit (.int .i64 x.card),.vec x.parents.length (ints x.parents),aC x.rows]])):
  af Try.prog G0 106 [qP x] H K:=by
 refine af.bf (n:=4) (rs:=[.tmp 2]) Try.func106 rfl rfl rfl (by decide) (by kernel_rfl) (by simp) ?_;simp only[go_sem,qP];exact av.mk (by simp [bY]) hK
theorem ye {l:List Int}{g:Int}(h:∀ w∈l,0<=w):0<=l.sum:=by
 induction l with
 | nil=>simp
 | cons a l ih =>
  have h1:=ih fun w hw=>h w (by simp [hw]);have h2:=h a (by simp);simp only[List.sum_cons];omega
theorem mU {l:List Int}(h:∀ w∈l,0<=w):∀ w∈l,w<=l.sum:=by
 induction l with
 | nil=>intro w hw;cases hw
 | cons a l ih =>
  intro w hw;have h1:=ye (g:=0) fun w hw=>h w (List.mem_cons_of_mem a hw);have h2:=h a (by simp);simp only[List.sum_cons];rcases List.mem_cons.1 hw with rfl|hw
  ·omega
  ·have:=ih (fun w hw=>h w (by simp [hw])) w hw;omega
noncomputable def jZ (g:Int)(ns:List NodeP)(x:NodeP):Bool:=@decide (iq g ns x) (Classical.propDecidable _)
theorem CT {g:Int}{ns:List NodeP}{x:NodeP}(h:iq g ns x):jZ g ns x=true:=by unfold jZ;exact @decide_eq_true _ (Classical.propDecidable _) h
theorem PF {g:Int}{ns:List NodeP}{x:NodeP}(h:¬ iq g ns x):jZ g ns x=false:=by unfold jZ;exact @decide_eq_false _ (Classical.propDecidable _) h
theorem PG {g:Int}{ns:List NodeP}{x:NodeP}:jZ g ns x=true↔iq g ns x:=by unfold jZ;exact @decide_eq_true_iff _ (Classical.propDecidable _)
set_option maxHeartbeats 2000000 in
theorem PH (g:Int)(hg:1<=g/\g<=60)(ns:List NodeP)(sets:List Nat)(x:NodeP)(hin:gp x.parents ns.length)(hsm:dR (aR ns x))(hx1:(x.rows.length:Int)<2 ^ 38)(hx2:∀ r∈x.rows,(r.length:Int)<2 ^ 38)(H:AHeap)(K:ARes->AHeap->Prop)
  (hK:K (.ret (.lit (.bool (jZ g ns x)))) H):af Try.prog G0 94 [.agg [.lit (.int .i64 g),cH ns,ae (ar ns),jy sets,.lit (.slice none 0 0)],qP x] H K:=by
 refine af.clo ⟨_,Try.func94,rfl,rfl⟩ fun hcl=>?_;have l12:=hsm.1;have pl:(aR ns x).length=x.parents.length:=gO _ _;have no:¬ iq g ns x->∀ H',Over H H'->av Try.prog G0 H K (.lit (.bool false)) H':=fun h H' ov=>av.bI aP hcl ov (.lit _) (by rw[PF h]at hK;exact hK);refine af.bf (n:=66) (rs:=[.cell 4 4]) Try.func94 rfl rfl rfl (by decide) (by kernel_rfl) (by simp) ?_;simp only[go_sem,cH,qP];obtain⟨H1,hH1⟩:∃ H1,H1=ext H [.arr 0 145 [.lit (.int .i64 g),.vec ns.length (az ns),.vec (ar ns).length (ints (ar ns)),.vec sets.length (sets.map cM),.lit (.slice none 0 0)],.arr 0 69 [.lit (.int .i64 x.card),.vec x.parents.length (ints x.parents),aC x.rows],.arr 0 4 [.lit (.bool false)]]:=⟨_,rfl⟩
 have l1:H1.live H.next 0=some (145,[.lit (.int .i64 g),.vec ns.length (az ns),.vec (ar ns).length (ints (ar ns)),.vec sets.length (sets.map cM),.lit (.slice none 0 0)]):=by rw[hH1];exact ak (cS ..)
 have l2:H1.live (H.next+1) 0=some (69,[.lit (.int .i64 x.card),.vec x.parents.length (ints x.parents),aC x.rows]):=by rw[hH1];exact ak (bG H _ 1 (by simp))
 have g3:H1.get (H.next+2)=some (.arr 0 4 [.lit (.bool false)]):=by rw[hH1];exact bG H _ 2 (by simp)
 have n1:H1.next=H.next+3:=by rw[hH1];rfl
 have o1:Over H H1:=by rw[hH1];exact .ext _ _
 rw[<- hH1];refine W.aI 268370080 (by rfl) (fun ρ H'=>H'=H1/\∃ k:Nat,ρ 16=aa k/\k<=x.parents.length/\ρ 5=aa (au ((aR ns x).take k))) (fun ρ H=>x.parents.length - (iv (ρ 16)).toNat) ?_ ?_
 ·simp only[go_sem];exact⟨0,rfl,by omega,by simp [fj]⟩
 rintro ρ H' ⟨rfl,k,h16,hk,h5⟩;refine ab _ _ _ (by rfl) ?_;by_cases hb:(k:Int)<x.parents.length
 ·obtain⟨q,hq⟩:=get_of_lt (l:=x.parents) (i:=k) (by omega);obtain⟨j,rfl,y,hy⟩:=mJ (l:=ns) (hin q (List.mem_of_getElem? hq)).1 (hin q (List.mem_of_getElem? hq)).2;have hne2:=aJ hq;have hyc:=cI hy;have hne3:=aJ hyc;have hj:(j:Int)<(ar ns).length:=by have:=get_lt hyc;omega
  have pk:(aR ns x)[k]?=some y.card:=by
   rw[show (aR ns x)[k]?=_ from qN hq,Int.toNat_natCast,bE hyc]
  have b1:=(hsm.take (k+1)).prod;rw[aL pk,fR]at b1;have w1:=IntWalk.i64_in ((k:Int)+1) (by omega);have w2:=IntWalk.i64_in (au ((aR ns x).take k)*y.card) (by omega);simp only[go_sem,h16,h5,l1,hb,hq,hne2,hj,hyc,hne3,w1,w2];exact⟨⟨k+1,by simp,by omega,by rw[aL pk,fR]⟩,by omega⟩
 rw[List.take_of_length_le (by omega)]at h5;by_cases c1:(x.rows.length:Int)=au (aR ns x);rotate_left
 ·simp only[go_sem,h16,h5,l2,hb,c1,aC];have l3:=ak g3;simp only[go_sem,l3];exact no (fun h=>c1 h.1) _ (o1.upd (by omega) _)
 simp only[go_sem,h16,h5,l2,hb,c1,aC];refine aw.clo (PE x _ _ ⟨trivial,?_⟩);simp only[go_sem];obtain⟨H2,hH2⟩:∃ H2,H2=ext H' [.arr 0 69 [.lit (.int .i64 x.card),.vec x.parents.length (ints x.parents),aC x.rows]]:=⟨_,rfl⟩
 rw[<- hH2];have o2:Over H' H2:=by rw[hH2];exact .ext _ _
 have n2:H2.next=H.next+4:=by rw[hH2,bY,n1];rfl
 have hbx:H2.get H'.next=some (.arr 0 69 [.lit (.int .i64 x.card),.vec x.parents.length (ints x.parents),aC x.rows]):=by rw[hH2];exact cP
 refine W.env fun E hE=>?_;have e2:E 2=.ptr H.next 0 0:=by rw[hE];simp only[go_sem]
 have e3:E 3=.ptr (H.next+1) 0 0:=by rw[hE];simp only[go_sem]
 have e4:E 4=.ptr (H.next+2) 0 0:=by rw[hE];simp only[go_sem]
 have i1:H2.live H.next 0=some (145,[.lit (.int .i64 g),.vec ns.length (az ns),.vec (ar ns).length (ints (ar ns)),.vec sets.length (sets.map cM),.lit (.slice none 0 0)]):=(o2.live (by omega)).trans l1;have i2:H2.live (H.next+1) 0=some (69,[.lit (.int .i64 x.card),.vec x.parents.length (ints x.parents),aC x.rows]):=(o2.live (by omega)).trans l2;have i3:H2.get (H.next+2)=some (.arr 0 4 [.lit (.bool false)]):=(o2.old _ (by omega)).trans g3;refine W.P7 (f:=112) (first:=[]) (cap:=[.ptr H'.next 0 0]) (by show E 34=_;rw[hE];rfl) (PD x (by omega) H'.next)
  (fun k Hx=>Over H2 Hx/\∀ r∈x.rows.take k,jz g x.card r) (fun c Hx=>c=.ret/\Over H Hx/\H.next+4<=Hx.next/\Hx.get (H.next+2)=some (.arr 0 4 [.lit (.bool false)])/\¬ iq g ns x)
  (fun k Hx h=>by rw[h.1.old _ (by omega)];exact hbx) (fun k Hx b h=>⟨h.1.upd (Nat.le_refl _) b,h.2⟩) (fun c Hx b h=>⟨h.1,h.2.1.upd (by omega) b,h.2.2.1,by rw[ag,if_neg (by omega)];exact h.2.2.2.1,h.2.2.2.2⟩)
  (fun b=>⟨.ext _ _,by simp⟩) (by decide) (fun y hy=>by
   obtain⟨k,hk⟩:=List.mem_iff_getElem?.1 hy;obtain⟨r,_,rfl⟩:=CR hk;rfl) (fun _ _ _=>trivial) (fun _ _ _=>trivial) (fun k y Hx B Bb hy hj hn hB hBb=>?_) (fun Hx hj hn=>?_) (fun Hx hs hn=>?_) (fun i Hx hs hn=>by cases hs.1)
 ·obtain⟨r,hr,rfl⟩:=CR hy;refine ab _ _ _ (by rfl) ?_;simp only[go_sem,km,de,qT,List.foldl_cons,List.foldl_nil,List.zip_cons_cons,List.zip_nil_right,hB];obtain⟨H3,hH3⟩:∃ H3,H3=Hx.upd H2.next Bb:=⟨_,rfl⟩
  rw[<- hH3];obtain⟨st,pd,n',en,ps',as',bo,hBe⟩:=hBb;have o3:Over H2 H3:=by rw[hH3];exact hj.1.upd (Nat.le_refl _) Bb
  have o4:Over H H3:=(o1.trans o2).trans o3;have n3:H3.next=Hx.next:=by rw[hH3];rfl
  have j1:=(o3.live (g:=0) (by omega:H.next<H2.next)).trans i1;have j2:=(o3.live (g:=0) (by omega:H.next+1<H2.next)).trans i2;have j3:=(o3.old _ (by omega:H.next+2<H2.next)).trans i3;have j4:=ak j3;have jB:H3.get H2.next=some Bb:=by rw[hH3,ag,if_pos rfl]
  have nB:¬ H2.next=H.next+2:=by omega
  have hrm:=List.mem_of_getElem? hr;have hrl:=hx2 r hrm;have nope:¬ jz g x.card r->¬ iq g ns x:=fun h h'=>h (h'.2 r hrm);have stop:¬ jz g x.card r->(H3.upd (H.next+2) (Blk.arr 0 4 [.lit (.bool false)])).get H2.next=some Bb/\Hx.next<=(H3.upd (H.next+2) (Blk.arr 0 4 [.lit (.bool false)])).next/\Over H (H3.upd (H.next+2) (Blk.arr 0 4 [.lit (.bool false)])) /\
    H.next+4<=(H3.upd (H.next+2) (Blk.arr 0 4 [.lit (.bool false)])).next/\(H3.upd (H.next+2) (Blk.arr 0 4 [.lit (.bool false)])).get (H.next+2)=some (.arr 0 4 [.lit (.bool false)])/\¬ iq g ns x:=fun h =>
   ⟨by rw[ag,if_neg nB];exact jB,by rw[aA];omega,o4.upd (by omega) _,by rw[aA];omega,by rw[ag,if_pos rfl],nope h⟩
  refine ab _ _ _ (by rfl) ?_;simp only[go_sem,de,e2,j1];refine W.aI 144110790029349888 (by rfl) (fun ρ2 H4=>H4=H3/\∃ i:Nat,ρ2 42=aa i/\i<=r.length/\(∀ w∈r.take i,0<=w)/\(r.take i).sum<=g/\ρ2 10=aa (g - (r.take i).sum)) (fun ρ2 H=>r.length - (iv (ρ2 42)).toNat) ?_ ?_
  ·simp only[go_sem];exact⟨0,rfl,by omega,by simp,by simp;omega,by simp⟩
  rintro ρ2 H4 ⟨rfl,i,h42,hi,hw0,hws,h10⟩;refine ab _ _ _ (by rfl) ?_;have s0:=ye (g:=g) hw0;by_cases hb2:(i:Int)<r.length
  ·obtain⟨a,ha⟩:=get_of_lt (l:=r) (i:=i) (by omega);have ham:=List.mem_of_getElem? ha;have hane:=aJ ha;by_cases d1:a<0
   ·simp only[go_sem,h42,hb2,ha,hane,d1,de,e4,j4,lT];exact stop fun h=>by have:=h.2.1 a ham;omega
   by_cases d2:a > g - (r.take i).sum
   ·simp only[go_sem,h42,h10,hb2,ha,hane,d1,d2,de,e4,j4,lT];refine stop fun h=>?_;have h1:r.sum=(r.take (i+1)).sum+(r.drop (i+1)).sum:=(by rw[<- List.sum_append,List.take_append_drop]);rw[aL ha,uc]at h1;have h2:=ye (g:=g) (l:=r.drop (i+1)) fun w hw=>(h.2.1 w (List.mem_of_mem_drop hw)).1;have:=h.2.2;omega
   have w1:=IntWalk.i64_in ((i:Int)+1) (by omega);have w2:=IntWalk.i64_in (g - (r.take i).sum - a) (by omega);simp only[go_sem,h42,h10,hb2,ha,hane,d1,d2,w1,w2,de];refine⟨⟨_,_,_,_,_,_,_,by rw[jB,hBe]⟩,⟨i+1,by simp,by omega,fun w hw=>?_,by rw[aL ha,uc];omega,?_⟩,by omega⟩
   ·rw[aL ha]at hw;rcases List.mem_append.1 hw with hw|hw
    ·exact hw0 w hw
    ·obtain rfl:=List.mem_singleton.1 hw;omega
   ·rw[aL ha,uc];show aa _=aa _;congr 1;omega
  ·rw[List.take_of_length_le (by omega)]at hw0 hws h10 s0;by_cases d1:(r.length:Int)=x.card;rotate_left
   ·simp only[go_sem,h42,hb2,d1,de,e3,e4,j2,j4,lT];exact stop fun h=>d1 h.1
   have hb2':¬ (i:Int)<x.card:=(by omega);by_cases d2:g - r.sum=0;rotate_left
   ·simp only[go_sem,h42,h10,hb2',d1,d2,de,e3,e4,j2,j4,lT];exact stop fun h=>by have:=h.2.2;omega
   simp only[go_sem,h42,h10,hb2',d1,d2,de,e3,j2,lT];refine⟨jB,by omega,o3,fun y hy=>?_⟩;rw[aL hr]at hy;rcases List.mem_append.1 hy with hy|hy
   ·exact hj.2 y hy
   ·obtain rfl:=List.mem_singleton.1 hy;exact⟨d1,fun w hw=>⟨hw0 w hw,by have:=mU hw0 w hw;omega⟩,by omega⟩
 ·have hok:iq g ns x:=⟨c1,by
   have:=hj.2;rw[CS,List.take_length]at this;exact this⟩
  have j4:=ak ((hj.1.old _ (by omega:H.next+2<H2.next)).trans i3);rw[CT hok]at hK;simp only[go_sem,e4,j4];exact av.bI aP hcl (((o1.trans o2).trans hj.1).upd (by omega) _) (.lit _) hK
 ·obtain⟨_,o4,n4,g4,hno⟩:=hs;have j4:=ak g4;simp only[go_sem,e4,j4];exact no hno _ o4
end Go.Proofs
namespace Go.Hx
theorem aF.qQ {lo:Nat}{H:AHeap}{e:TypeId}{v:AVal}{l:List Int}(h:aF lo H e v (ints l)):Fresh H v (ae l):=by
 rcases h with ⟨rfl,h⟩|⟨id,g,h1,h2,rfl,h4⟩
 ·have:l=[]:=by cases l with
   | nil=>rfl
   | cons a l=>simp [ints]at h
  subst this;exact .nil
 ·have e:ae l=.vec (ints l).length (ints l):=by rw[aO];rfl
  rw[e];refine .own h4 (by simp) fun j hj h2 h'=>?_;simp only[Nat.zero_add,ints,List.getElem_map];exact .lit _
theorem Fz.qR {H:AHeap}{id g n nx:Nat}{e:TypeId}{cs:List AVal}(hg:H.get id=some (.arr g e cs))(hn:n=cs.length)(hl:∀ c∈cs,∃ v,c=.lit v):Fz (fun _=>True) H nx (.own id g 0 n 1) (.vec n cs):=by
 refine .frz trivial hg (by omega) fun j hj h2 h'=>?_;simp only[Nat.zero_add];obtain⟨v,hv⟩:=hl _ (List.getElem_mem h');rw[hv];exact .lit _
end Go.Hx
namespace Go.Proofs
open Go.Hx
def fI (l:List Nat):List Int:=l.map fun (v:Nat)=>(v:Int)
theorem PI {n j:Nat}{p:Nat->Bool}(hj:j<n)(h1:∀ v,v<j->p v=false)(h2:p j=true):(List.range n).find? p=some j:=by
 rw[List.find?_eq_some_iff_getElem];refine⟨h2,j,by simpa using hj,by simp,fun k hk=>?_⟩;simp only[List.getElem_range];simp [h1 k hk]
theorem PJ {n:Nat}{p:Nat->Bool}(h1:∀ v,v<n->p v=false):(List.range n).find? p=none:=by
 rw[List.find?_eq_none];intro x hx;simp [h1 x (List.mem_range.1 hx)]
set_option maxHeartbeats 1000000 in
theorem PK (ps:List Nat)(hl:ps.length<=60)(hp:∀ p∈ps,p<2 ^ 64)(H:AHeap)(K:ARes->AHeap->Prop)
  (hK:∀ v H',Over H H'->(match eU ps with|some o=>aF H.next H' 3 v (ints (fI o))|none=>v=.lit (.slice none 0 0))->K (.ret (.tup [v,.lit (.bool (eU ps).isSome)])) H'):af Try.prog G0 95 [jy ps] H K:=by
 have no:∀ H',eU ps=none->Over H H'->av Try.prog G0 H K (.tup [.lit (.slice none 0 0),.lit (.bool false)]) H':=fun H' h ov=>av.mk ov.next (by
  have:=hK (.lit (.slice none 0 0)) H' ov;rw[h]at this;exact this rfl)
 refine af.bf (n:=44) (rs:=[.tmp 2,.tmp 3]) Try.func95 rfl rfl rfl (by decide) (by kernel_rfl) (by simp) ?_;simp only[go_sem];refine⟨by omega,?_⟩;refine W.aI 8796093020412 (by rfl) (fun ρ H'=>∃ (out:List Nat) (done:Nat),ρ 5=cM done/\done<2 ^ 64/\out.length<=ps.length/\H.next+1<=H'.next/\Over H H'/\aF H.next H' 3 (ρ 4) (ints (fI out))/\(∃ id g,ρ 4=.own id g 0 out.length 1)/\ju ps (ps.length - out.length) out done=eU ps)
  (fun ρ H=>ps.length - (match ρ 4 with|.own _ _ _ n _=>n|_=>0)) ?_ ?_
 ·simp only[go_sem];exact⟨[],0,by simp,by decide,Nat.zero_le _,.ext _ _,.inr ⟨H.next,0,Nat.le_refl _,by simp [bY],rfl,cS H _ []⟩,⟨_,_,rfl⟩,rfl⟩
 rintro ρ H' ⟨out,done,h5,hd,ho,hn0,ov,h4,⟨id,gn,h4e⟩,ht⟩;refine ab _ _ _ (by rfl) ?_;have lv:H'.live id gn=some (3,ints (fI out)):=by
  rcases h4 with ⟨h,_⟩|⟨i,g,h1,h2,h3,h4⟩
  ·rw[h4e]at h;cases h
  ·rw[h4e]at h3;have:=AVal.own.inj h3;obtain⟨rfl,rfl,_⟩:=this;exact ak h4
 by_cases hb:(out.length:Int)<ps.length
 ·simp only[go_sem,h4e,lv,hb];have hk1:ps.length - out.length=(ps.length - (out.length+1))+1:=by omega
  refine W.aI 8796092760304 (by rfl) (fun ρ2 H2=>H2=H'/\∃ j:Nat,ρ2 18=aa j/\j<=ps.length/\ρ2 4=.own id gn 0 out.length 1/\ρ2 5=cM done/\∀ v,v<j->lL ps done v=false) (fun ρ2 H=>ps.length - (iv (ρ2 18)).toNat) ?_ ?_
  ·simp only[go_sem,h4e,h5];exact⟨0,rfl,by omega,fun v h=>absurd h (Nat.not_lt_zero _)⟩
  rintro ρ2 H2 ⟨rfl,j,h18,hj,h4',h5',hno⟩;refine ab _ _ _ (by rfl) ?_;by_cases hb2:(j:Int)<ps.length
  ·obtain⟨p,hpj⟩:=get_of_lt (l:=ps) (i:=j) (by omega);have hp1:=hp p (List.mem_of_getElem? hpj);have hne:=aJ hpj;have s1:=fun t x y=>CV (P:=Try.prog) (t:=t) (x:=x) (y:=y) (k':=.i64) (s:=j) hd;have s2:=fun t x y=>CW (P:=Try.prog) (t:=t) (x:=x) (y:=y) (s:=j) hd;have s3:=fun t x y=>PY (P:=Try.prog) (t:=t) (x:=x) (y:=y) (a:=p) (b:=done);have w1:=IntWalk.i64_in ((j:Int)+1) (by omega);have cont:lL ps done j=false->∀ v,v<j+1->lL ps done v=false:=fun h v hv=>by
    rcases Nat.lt_or_ge v j with h'|h'
    ·exact hno v h'
    ·obtain rfl:v=j:=(by omega);exact h
   have fe:lL ps done j=(!done.testBit j && decide (jA p done=0)):=(by unfold lL;rw[bE hpj]);cases hbit:done.testBit j;rotate_left
   ·simp only[go_sem,h18,h4',h5',hb2,hpj,hne,s1,s2,hbit,w1];exact⟨⟨j+1,by simp,by omega,cont (by rw[fe,hbit];rfl)⟩,by omega⟩
   by_cases hz:jA p done=0;rotate_left
   ·have hz':¬ ((jA p done:Nat):Int)=0:=(by omega);simp only[go_sem,h18,h4',h5',hb2,hpj,hne,s1,s2,s3,hbit,hz',w1];exact⟨⟨j+1,by simp,by omega,cont (by rw[fe,hbit];simp [hz])⟩,by omega⟩
   have hz':((jA p done:Nat):Int)=0:=(by omega);have hnx:kC ps done=some j:=PI (by omega) hno (by rw[fe,hbit];simp [hz]);obtain⟨v',H3,hA,ov2,hO,hn2,_⟩:=kF (j:Int) ov h4 (by simp [fI];omega);rw[h4e]at hA;have b2:(2:Nat) ^ j<2 ^ 64:=Nat.pow_lt_pow_right (by decide) (by omega);have s4:=fun t x y=>yh (P:=Try.prog) (t:=t) (x:=x) (y:=y) (k':=.i64) (s:=j) (by omega);have s5:=fun t x y=>uh (P:=Try.prog) (t:=t) (x:=x) (y:=y) hd b2;simp only[go_sem,h18,h4',h5',hb2,hpj,hne,s1,s2,s3,s4,s5,hbit,hz',hA];have hO':aF H.next H3 3 v' (ints (fI (out++[j]))):=by
    have e:fI (out++[j])=fI out++[(j:Int)]:=(by simp [fI]);rw[e];exact hO
   have hv':∃ id g,v'=.own id g 0 (out.length+1) 1:=by
    rcases hO' with ⟨_,h⟩|⟨i,g,_,_,h3,_⟩
    ·simp [ints,fI]at h
    ·exact⟨i,g,by rw[h3,aO];simp [fI]⟩
   obtain⟨i2,g2,rfl⟩:=hv';refine⟨by omega,⟨out++[j],done ||| 2 ^ j,rfl,Nat.or_lt_two_pow hd b2,by simp;omega,by omega,ov2,hO',⟨i2,g2,by simp⟩,?_⟩,by simp only;omega⟩;rw[<- ht,hk1]
   conv=>rhs;unfold ju
   rw[hnx];simp
  ·simp only[go_sem,h18,hb2];refine no _ ?_ ov;rw[<- ht,hk1];unfold ju;have:kC ps done=none:=PJ fun v hv=>hno v (by omega);rw[this]
 ·simp only[go_sem,h4e,lv,hb];have hz:ps.length - out.length=0:=by omega
  rw[hz]at ht;have ht':eU ps=some out:=ht.symm;have:=hK (.own id gn 0 out.length 1) H' ov;rw[ht']at this;refine av.mk ov.next (this ?_);rw[h4e]at h4;exact h4
theorem PL (ps:List Nat)(hl:ps.length<=60)(hp:∀ p∈ps,p<2 ^ 64)(H:AHeap)(v:AVal)(hv:Fz (fun _=>True) H 0 v (jy ps))(K:ARes->AHeap->Prop)
  (hK:K (.ret (.tup [ae (fI ((eU ps).getD [])),.lit (.bool (eU ps).isSome)])) H):af Try.prog G0 95 [v] H K:=by
 refine(af.frame (H:=H) (args:=[v]) (args':=[jy ps]) (v':=.tup [ae (fI ((eU ps).getD [])),.lit (.bool (eU ps).isSome)]) aP rfl (fun i hi _=>match i,hi with|0,_=>hv) (PK ps hl hp cF _ fun u H' ov hu=>⟨_,rfl,?_⟩)).mono ?_
 ·refine .tup rfl fun i hi _=>?_
  match i,hi with
  | 0,_ =>
   show Fresh H' u _;cases ht:eU ps with
   | none=>rw[ht]at hu;simp only at hu;rw[hu];show Fresh H' _ (ae []);exact .nil
   | some o=>rw[ht]at hu;exact aF.qQ hu
  | 1,_=>exact .lit _
 ·rintro r H' ⟨rfl,rfl⟩;exact hK
def yf:AVal:=.agg [.lit (.int .i64 0),ae [],ae [],ae [],ae []]
def yg (g:Int)(ns:List NodeP):AVal:=.agg [.lit (.int .i64 g),cH ns,ae (ar ns),jy (bt ns),ae (fI ((eU (bt ns)).getD []))]
structure RdS (g:Int)(ns:List NodeP)(H H':AHeap)(c:List Int)(s:List Nat):Prop where
 nx:H.next+5<=H'.next
 ov:Over H H'
 b0:H'.get H.next=some (.arr 0 35 [.lit (.int .i64 g),.vec ns.length (az ns)])
 b1:H'.get (H.next+1)=some (.arr 0 145 [.lit (.int .i64 0),.lit (.slice none 0 0),.lit (.slice none 0 0),.lit (.slice none 0 0),.lit (.slice none 0 0)])
 b2:H'.get (H.next+2)=some (.arr 0 3 (ints c))
 b3:H'.get (H.next+3)=some (.arr 0 45 (s.map cM))
 b4:H'.get (H.next+4)=some (.arr 0 145 [.lit (.int .i64 g),.vec ns.length (az ns),.own (H.next+2) 0 0 ns.length 1,.own (H.next+3) 0 0 ns.length 1,.lit (.slice none 0 0)])
 cl:c.length=ns.length
 sl:s.length=ns.length
theorem RdS.over {g:Int}{ns:List NodeP}{H H' H2:AHeap}{c:List Int}{s:List Nat}(h:RdS g ns H H' c s)(o:Over H' H2):RdS g ns H H2 c s where
 nx:=Nat.le_trans h.nx o.next
 ov:=h.ov.trans o
 b0:=(o.old _ (by have:=h.nx;omega)).trans h.b0
 b1:=(o.old _ (by have:=h.nx;omega)).trans h.b1
 b2:=(o.old _ (by have:=h.nx;omega)).trans h.b2
 b3:=(o.old _ (by have:=h.nx;omega)).trans h.b3
 b4:=(o.old _ (by have:=h.nx;omega)).trans h.b4
 cl:=h.cl
 sl:=h.sl
theorem RdS.PM {g:Int}{ns:List NodeP}{H H':AHeap}{c:List Int}{s:List Nat}(h:RdS g ns H H' c s){k:Nat}(hk:k<c.length)(x:Int):RdS g ns H (H'.upd (H.next+2) (.arr 0 3 (setAt (ints c) k [.lit (.int .i64 x)]))) (c.set k x) s where
 nx:=h.nx
 ov:=h.ov.upd (by omega) _
 b0:=by rw[ag,if_neg (by omega)];exact h.b0
 b1:=by rw[ag,if_neg (by omega)];exact h.b1
 b2:=by rw[ag,if_pos rfl,dF hk]
 b3:=by rw[ag,if_neg (by omega)];exact h.b3
 b4:=by rw[ag,if_neg (by omega)];exact h.b4
 cl:=by simpa using h.cl
 sl:=h.sl
theorem PN {l:List Nat}{i:Nat}{x:Nat}(h:i<l.length):setAt (l.map cM) i [.lit (.int .u64 (x:Int))]=(l.set i x).map cM:=by
 rw[iu (by simpa using h)];simp [cM]
theorem RdS.PO {g:Int}{ns:List NodeP}{H H':AHeap}{c:List Int}{s:List Nat}(h:RdS g ns H H' c s){k:Nat}(hk:k<s.length)(x:Nat):RdS g ns H (H'.upd (H.next+3) (.arr 0 45 (setAt (s.map cM) k [.lit (.int .u64 (x:Int))]))) c (s.set k x) where
 nx:=h.nx
 ov:=h.ov.upd (by omega) _
 b0:=by rw[ag,if_neg (by omega)];exact h.b0
 b1:=by rw[ag,if_neg (by omega)];exact h.b1
 b2:=by rw[ag,if_neg (by omega)];exact h.b2
 b3:=by rw[ag,if_pos rfl,PN hk]
 b4:=by rw[ag,if_neg (by omega)];exact h.b4
 cl:=h.cl
 sl:=by simpa using h.sl
theorem RdS.l0 {g:Int}{ns:List NodeP}{H H':AHeap}{c:List Int}{s:List Nat}(h:RdS g ns H H' c s):H'.live H.next 0=some (35,[.lit (.int .i64 g),.vec ns.length (az ns)]):=ak h.b0
theorem RdS.l1 {g:Int}{ns:List NodeP}{H H':AHeap}{c:List Int}{s:List Nat}(h:RdS g ns H H' c s):H'.live (H.next+1) 0=some (145,[.lit (.int .i64 0),.lit (.slice none 0 0),.lit (.slice none 0 0),.lit (.slice none 0 0),.lit (.slice none 0 0)]):=ak h.b1
theorem RdS.l2 {g:Int}{ns:List NodeP}{H H':AHeap}{c:List Int}{s:List Nat}(h:RdS g ns H H' c s):H'.live (H.next+2) 0=some (3,ints c):=ak h.b2
theorem RdS.l3 {g:Int}{ns:List NodeP}{H H':AHeap}{c:List Int}{s:List Nat}(h:RdS g ns H H' c s):H'.live (H.next+3) 0=some (45,s.map cM):=ak h.b3
theorem RdS.l4 {g:Int}{ns:List NodeP}{H H':AHeap}{c:List Int}{s:List Nat}(h:RdS g ns H H' c s):H'.live (H.next+4) 0=some (145,[.lit (.int .i64 g),.vec ns.length (az ns),.own (H.next+2) 0 0 ns.length 1,.own (H.next+3) 0 0 ns.length 1,.lit (.slice none 0 0)]):=ak h.b4
theorem ud {S:Nat->Prop}{H:AHeap}{nx:Nat}(ns:List NodeP):Fz S H nx (.vec ns.length (az ns)) (.vec ns.length (az ns)):=by
 refine .vec rfl fun i hi _=>?_;have:∀ (l:List NodeP) (c:AVal),c∈az l->Fz S H nx c c:=by
  intro l c hc;unfold az at hc;obtain⟨r,hr,hc⟩:=List.mem_flatten.1 hc;obtain⟨x,_,rfl⟩:=List.mem_map.1 hr;unfold NodeP.cells at hc;simp only[List.mem_cons,List.not_mem_nil,or_false]at hc;rcases hc with rfl|rfl|rfl
  ·exact .lit _
  ·exact .dw _
  ·exact .aC _
 exact this ns _ (List.getElem_mem _)
theorem PP (g:Int)(hg:1<=g/\g<=60)(ns:List NodeP)(sets:List Nat)(x:NodeP)(hin:gp x.parents ns.length)(hsm:dR (aR ns x))(hx1:(x.rows.length:Int)<2 ^ 38)(hx2:∀ r∈x.rows,(r.length:Int)<2 ^ 38)(H:AHeap)(ci si:Nat)
  (h2:H.get ci=some (.arr 0 3 (ints (ar ns)))) (h3:H.get si=some (.arr 0 45 (sets.map cM))) (hs:sets.length=ns.length) (K:ARes->AHeap->Prop)
  (hK:K (.ret (.lit (.bool (jZ g ns x)))) H):af Try.prog G0 94 [.agg [.lit (.int .i64 g),.vec ns.length (az ns),.own ci 0 0 ns.length 1,.own si 0 0 ns.length 1,.lit (.slice none 0 0)],.agg [.lit (.int .i64 x.card),.vec x.parents.length (ints x.parents),aC x.rows]] H K:=by
 refine(af.frame (H:=H) (args:=[.agg [.lit (.int .i64 g),.vec ns.length (az ns),.own ci 0 0 ns.length 1,.own si 0 0 ns.length 1,.lit (.slice none 0 0)],.agg [.lit (.int .i64 x.card),.vec x.parents.length (ints x.parents),aC x.rows]]) (args':=[.agg [.lit (.int .i64 g),cH ns,ae (ar ns),jy sets,.lit (.slice none 0 0)],qP x]) (v':=.lit (.bool (jZ g ns x))) aP rfl (fun i hi _=>?_) (PH g hg ns sets x hin hsm hx1 hx2 cF _ ⟨_,rfl,.lit _⟩)).mono ?_
 ·match i,hi with
  | 0,_ =>
   refine .agg rfl fun i hi _=>?_
   match i,hi with
   | 0,_=>exact .lit _
   | 1,_=>exact ud _
   | 2,_ =>
    have:=Fz.qR (nx:=0) h2 (n:=ns.length) (by rw[aO,bO]) (fun c hc=>by
     obtain⟨z,_,rfl⟩:=List.mem_map.1 hc;exact⟨_,rfl⟩)
    show Fz _ _ _ _ (.vec (ar ns).length (ints (ar ns)));rw[bO];exact this
   | 3,_ =>
    have:=Fz.qR (nx:=0) h3 (n:=ns.length) (by simp [hs]) (fun c hc=>by
     obtain⟨z,_,rfl⟩:=List.mem_map.1 hc;exact⟨_,rfl⟩)
    show Fz _ _ _ _ (.vec sets.length (sets.map cM));rw[hs];exact this
   | 4,_=>exact .lit _
  | 1,_ =>
   refine .agg rfl fun i hi _=>?_
   match i,hi with
   | 0,_=>exact .lit _
   | 1,_=>exact .dw _
   | 2,_=>exact .aC _
 ·rintro r H' ⟨rfl,rfl⟩;exact hK
theorem PQ {ns:List NodeP}{k:Nat}{x:NodeP}(hx:ns[k]?=some x)(h0:∀ q∈x.parents,0<=q)(hm:(k:Int)∈x.parents):¬ lJ (bt ns):=fun h=>by
 have hk:=get_lt (mS hx);have:=h k hk;rw[bE (mS hx)]at this;have h1:=tR (bt ns) (bt ns).length (dK x.parents) k (by rw[lI h0];exact decide_eq_true hm);unfold fG at this;rw[h1]at this;cases this
set_option maxHeartbeats 4000000 in
theorem PR (g:Int)(ns:List NodeP)(hf:jY ns)(H:AHeap)(K:ARes->AHeap->Prop)(hK:K (.ret (if gu g ns then .tup [yg g ns,aa 0] else .tup [yf,aa 50])) H):af Try.prog G0 86 [aY g ns] H K:=by
 refine af.clo ⟨_,Try.func86,rfl,rfl⟩ fun hcl=>?_;have no:¬ NetOk g ns->∀ H',Over H H'->av Try.prog G0 H K (.tup [.agg [.lit (.int .i64 0),.lit (.slice none 0 0),.lit (.slice none 0 0),.lit (.slice none 0 0),.lit (.slice none 0 0)],.lit (.int .i64 50)]) H':=fun h H' ov=>by
  rw[CO h]at hK;refine av.bI (v':=.tup [yf,aa 50]) aP hcl ov (.tup rfl fun i hi _=>?_) hK
  match i,hi with
  | 0,_ =>
   refine .agg rfl fun i hi _=>?_
   match i,hi with
   | 0,_=>exact .lit _
   | 1,_=>exact .nil
   | 2,_=>exact .nil
   | 3,_=>exact .nil
   | 4,_=>exact .nil
  | 1,_=>exact .lit _
 refine af.bf (n:=140) (rs:=[.cell 2 145,.tmp 3]) Try.func86 rfl rfl rfl (by decide) (by kernel_rfl) (by simp) ?_;simp only[go_sem,aY,cH];have l1:=ak (cS H (.arr 0 35 [.lit (.int .i64 g),.vec ns.length (az ns)]) [.arr 0 145 [.lit (.int .i64 0),.lit (.slice none 0 0),.lit (.slice none 0 0),.lit (.slice none 0 0),.lit (.slice none 0 0)]]);by_cases c1:g<1
 ·simp only[go_sem,c1];exact no (fun h=>by have:=h.g1;omega) _ (.ext _ _)
 by_cases c2:g > 60
 ·simp only[go_sem,l1,c1,c2];exact no (fun h=>by have:=h.g1;omega) _ (.ext _ _)
 by_cases c3:(ns.length:Int)<1
 ·simp only[go_sem,l1,c1,c2,c3];exact no (fun h=>by have:=h.n1;omega) _ (.ext _ _)
 by_cases c4:(ns.length:Int) > 8
 ·simp only[go_sem,l1,c1,c2,c3,c4];exact no (fun h=>by have:=h.n1;omega) _ (.ext _ _)
 simp only[go_sem,l1,c1,c2,c3,c4];refine W.draw 11 [0,0,2,6,14,0,32,96,224,511,0] Try.mixed (by kernel_rfl) (by kernel_rfl) ?_;simp only[go_sem,l1]
 repeat (refine And.intro (by first|omega|(simp;done)|(simp;omega)|(intros;omega)|exact⟨rfl,by omega,by omega,nT _⟩) ?_)
 obtain⟨Hb,hHb⟩:∃ Hb,Hb=ext (ext H [.arr 0 35 [.lit (.int .i64 g),.vec ns.length (az ns)],.arr 0 145 [.lit (.int .i64 0),.lit (.slice none 0 0),.lit (.slice none 0 0),.lit (.slice none 0 0),.lit (.slice none 0 0)],.arr 0 3 (List.replicate ns.length (.lit (.int .i64 0))),.arr 0 45 (List.replicate ns.length (.lit (.int .u64 0)))]) [.arr 0 145 [.lit (.int .i64 g),.vec ns.length (az ns),.own (H.next+2) 0 0 ns.length 1,.own (H.next+3) 0 0 ns.length 1,.lit (.slice none 0 0)]]:=⟨_,rfl⟩
 rw[<- hHb];have R0:RdS g ns H Hb (List.replicate ns.length 0) (List.replicate ns.length 0):=by
  rw[hHb,nU];exact⟨by simp [bY],.ext _ _,cS ..,bG H _ 1 (by simp),by rw[bG H _ 2 (by simp)];simp [ints,aa],by rw[bG H _ 3 (by simp)];simp [cM],bG H _ 4 (by simp),by simp,by simp⟩
 have hcard:∀ {k:Nat},(∀ x∈ns.take k,1<=x.card/\x.card<=4)->dR ((ar ns).take k):=fun {k} h=>mT (by simp [ar];omega) fun c hc=>by
  rw[show (ar ns).take k=ar (ns.take k) by simp [ar]]at hc;obtain⟨y,hy,rfl⟩:=List.mem_map.1 hc;exact h y hy
 refine W.aI 37778930737057254867176 (by rfl) (fun ρ H'=>∃ (k:Nat) (c:List Int),ρ 50=aa k/\k<=ns.length/\ρ 5=aa (au ((ar ns).take k))/\RdS g ns H H' c (List.replicate ns.length 0)/\Hb.next<=H'.next/\c.take k=(ar ns).take k/\∀ x∈ns.take k,1<=x.card/\x.card<=4) (fun ρ H=>ns.length - (iv (ρ 50)).toNat) ?_ ?_
 ·simp only[go_sem];exact⟨0,_,rfl,by omega,by simp [fj],R0,by simp⟩
 rintro ρ H' ⟨k,c,h50,hk,h5,R,hn,hc,hall⟩;refine ab _ _ _ (by rfl) ?_;have q0:=R.l0;have q1:=R.l1;have q2:=R.l2;have q4:=R.l4;have rn:=R.nx;by_cases hb:(k:Int)<ns.length
 ·obtain⟨x,hx⟩:=get_of_lt (l:=ns) (i:=k) (by omega);have hxm:=List.mem_of_getElem? hx;have hne:=eS hx;have e0:=mI hx;have e1:k*3+3<=(az ns).length:=by rw[jq];omega
  have R2:=R.over (.ext H' [.arr 0 69 [.lit (.int .i64 x.card),.vec x.parents.length (ints x.parents),aC x.rows]]);have p1:=R2.l1;have p2:=R2.l2;have p4:=R2.l4;have nb1:¬ H.next+1=H'.next:=by omega
  have nb2:¬ H.next+2=H'.next:=by omega
  have nb4:¬ H.next+4=H'.next:=by omega
  by_cases d1:x.card<1
  ·simp only[go_sem,h50,p1,hb,hne,e0,e1,d1];exact no (fun h=>by have:=(h.node x hxm).1;omega) _ (R2.ov.upd (by omega) _)
  by_cases d2:x.card > 4
  ·simp only[go_sem,h50,p1,hb,hne,e0,e1,d1,d2];exact no (fun h=>by have:=(h.node x hxm).1;omega) _ (R2.ov.upd (by omega) _)
  have hall':∀ y∈ns.take (k+1),1<=y.card/\y.card<=4:=fun y hy=>by
   rw[aL hx]at hy;rcases List.mem_append.1 hy with hy|hy
   ·exact hall y hy
   ·obtain rfl:=List.mem_singleton.1 hy;exact⟨by omega,by omega⟩
  have b2:=(hcard hall').prod;rw[aL (cI hx),fR]at b2;have w1:=IntWalk.i64_in ((k:Int)+1) (by omega);have w2:=IntWalk.i64_in (au ((ar ns).take k)*x.card) (by omega);have hkc:k<c.length:=by rw[R.cl];omega
  have p0:∀ b,((ext H' [.arr 0 69 [.lit (.int .i64 x.card),.vec x.parents.length (ints x.parents),aC x.rows]]).upd (H.next+2) b).live H'.next 0=some (69,[.lit (.int .i64 x.card),.vec x.parents.length (ints x.parents),aC x.rows]):=fun b=>by
   rw[jC (by omega)];exact ak cP
  simp only[go_sem,h50,h5,p2,p4,p0,hb,hne,e0,e1,d1,d2,w1,w2];exact⟨by omega,by rw[aA,bY];omega,⟨k+1,_,by simp,by omega,by rw[aL (cI hx),fR],R2.PM hkc x.card,by rw[aA,bY];omega,P6 hc hkc (cI hx),fun y hy=>hall' y hy⟩,by omega⟩
 have ek:k=ns.length:=by omega
 subst ek;rw[List.take_of_length_le (Nat.le_refl _)]at hall;rw[List.take_of_length_le (by rw[bO];omega)]at h5;have ec:c=ar ns:=by
  rw[List.take_of_length_le (by rw[R.cl];omega),List.take_of_length_le (by rw[bO];omega)]at hc;exact hc
 subst ec;by_cases c5:au (ar ns) > 1024
 ·simp only[go_sem,h50,h5,q1,hb,c5];exact no (fun h=>by have:=h.size;omega) _ (R.ov.upd (by omega) _)
 simp only[go_sem,h50,h5,q4,hb,c5];refine W.aI 340282366920933627760096148915069392648 (by rfl) (fun ρ' H2=>∃ (k:Nat) (s:List Nat),ρ' 82=aa k/\k<=ns.length/\RdS g ns H H2 (ar ns) s/\H'.next<=H2.next/\s.take k=(bt ns).take k/\(∀ j,k<=j->s.getD j 0=0)/\∀ x∈ns.take k,dk x.parents ns.length/\iq g ns x) (fun ρ' H=>ns.length - (iv (ρ' 82)).toNat) ?_ ?_
 ·simp only[go_sem];refine⟨0,_,rfl,by omega,R,rfl,fun j _=>?_,by simp⟩;rw[List.getD_eq_getElem?_getD,List.getElem?_replicate];split<;>rfl
 rintro ρ' H2 ⟨k,s,h82,hk2,R2,hn2,hs,hs0,hall2⟩;refine ab _ _ _ (by rfl) ?_;have r2:=R2.nx;have q4:=R2.l4;by_cases hb2:(k:Int)<ns.length;rotate_left
 ·have es:s=bt ns:=by
   rw[List.take_of_length_le (by rw[R2.sl];omega),List.take_of_length_le (by simp [bt];omega)]at hs;exact hs
  subst es;rw[List.take_of_length_le (by omega)]at hall2;have hlt:∀ p∈bt ns,p<2 ^ ns.length:=ub fun x hx q hq=>(hall2 x hx).1.2 q hq;have hsl:(bt ns).length=ns.length:=by simp [bt]
  have hlt64:∀ p∈bt ns,p<2 ^ 64:=fun p hp=>Nat.lt_of_lt_of_le (hlt p hp) (Nat.pow_le_pow_right (by decide) (by omega));have hto:=Cc (ps:=bt ns) (by rw[hsl];exact hlt) (by omega);simp only[go_sem,h82,q4,hb2];have fzs:=Fz.qR (nx:=0) R2.b3 (n:=ns.length) (by simp [R2.sl]) (fun c hc=>by
   obtain⟨z,_,rfl⟩:=List.mem_map.1 hc;exact⟨_,rfl⟩)
  refine aw.clo (PL (bt ns) (by omega) hlt64 _ _ (by show Fz _ _ _ _ (.vec (bt ns).length _);rw[hsl];exact fzs) _ ⟨trivial,?_⟩);have q1:=R2.l1;cases hso:(eU (bt ns)).isSome
  ·simp only[go_sem,q1];exact no (fun h=>by rw[hto.2 h.acyc]at hso;cases hso) _ (R2.ov.upd (by omega) _)
  have hok:NetOk g ns:=⟨by omega,by omega,fun x hx=>⟨hall x hx,(hall2 x hx).1⟩,by omega,hto.1 hso,fun x hx=>(hall2 x hx).2⟩
  rw[CN hok]at hK;have q1b:∀ b,(H2.upd (H.next+4) b).live (H.next+1) 0=_:=fun b=>(jC (by omega)).trans q1;simp only[go_sem,q1b,q4];have ovf:Over H ((H2.upd (H.next+4) (.arr 0 145 [.lit (.int .i64 g),.vec ns.length (az ns),.own (H.next+2) 0 0 ns.length 1,.own (H.next+3) 0 0 ns.length 1,.vec (fI ((eU (bt ns)).getD [])).length (ints (fI ((eU (bt ns)).getD [])))])).upd (H.next+1) (.arr 0 145 [.lit (.int .i64 g),.vec ns.length (az ns),.own (H.next+2) 0 0 ns.length 1,.own (H.next+3) 0 0 ns.length 1,.vec (fI ((eU (bt ns)).getD [])).length (ints (fI ((eU (bt ns)).getD [])))])):=(R2.ov.upd (by omega) _).upd (by omega) _;refine av.bI (v':=.tup [yg g ns,aa 0]) aP hcl ovf (.tup rfl fun i hi _=>?_) hK
  match i,hi with
  | 1,_=>exact .lit _
  | 0,_ =>
   refine .agg rfl fun i hi _=>?_
   match i,hi with
   | 0,_=>exact .lit _
   | 1,_=>exact ud _
   | 2,_ =>
    have hg2:∀ b b',((H2.upd (H.next+4) b).upd (H.next+1) b').get (H.next+2)=some (.arr 0 3 (ints (ar ns))):=fun b b'=>by rw[ag,if_neg (by omega),ag,if_neg (by omega)];exact R2.b2
    show Fz _ _ _ (.own (H.next+2) 0 0 ns.length 1) (.vec (ar ns).length (ints (ar ns)));rw[<- bO ns];exact .ints (by show H.next<=_;omega) (hg2 _ _) (by simp) fun i hi=>by simp [fa,hi]
   | 3,_ =>
    have hg3:∀ b b',((H2.upd (H.next+4) b).upd (H.next+1) b').get (H.next+3)=some (.arr 0 45 ((bt ns).map cM)):=fun b b'=>by rw[ag,if_neg (by omega),ag,if_neg (by omega)];exact R2.b3
    show Fz _ _ _ (.own (H.next+3) 0 0 ns.length 1) (.vec (bt ns).length ((bt ns).map cM));rw[<- hsl];refine .frz (by show H.next<=_;omega) (hg3 _ _) (by simp) fun j hj h2 h'=>?_;simp only[Nat.zero_add,List.getElem_map];exact .lit _
   | 4,_=>exact .dw _
 obtain⟨x,hx⟩:=get_of_lt (l:=ns) (i:=k) (by omega);have hxm:=List.mem_of_getElem? hx;have hne:=eS hx;have e0:=mI hx;have e1:k*3+3<=(az ns).length:=by rw[jq];omega
 obtain⟨f1,f2,f3⟩:=hf.2 x hxm;simp only[go_sem,h82,hb2,hne,e0,e1];obtain⟨H3,hH3⟩:∃ H3,H3=ext H2 [.arr 0 69 [.lit (.int .i64 x.card),.vec x.parents.length (ints x.parents),aC x.rows]]:=⟨_,rfl⟩
 have R3:RdS g ns H H3 (ar ns) s:=by rw[hH3];exact R2.over (.ext _ _)
 have nn:H3.next=H2.next+1:=by rw[hH3];rfl
 have gN:H3.get H2.next=some (.arr 0 69 [.lit (.int .i64 x.card),.vec x.parents.length (ints x.parents),aC x.rows]):=by rw[hH3];exact cP
 rw[<- hH3];have hks:k<s.length:=by rw[R2.sl];omega
 have s0:s.set k 0=s:=by
  apply List.ext_getElem?;intro i;rw[List.getElem?_set];split
  ·rename_i h;subst h;have:=hs0 k (Nat.le_refl _);rw[List.getD_eq_getElem?_getD,List.getElem?_eq_getElem hks]at this;simp only[Option.getD_some]at this;rw[List.getElem?_eq_getElem hks,this]
  ·rfl
 refine W.aI 5316911981901723452329847966222259208 (by rfl) (fun ρ2 H4=>∃ (j:Nat) (b:Int),ρ2 90=aa j/\j<=x.parents.length/\ρ2 10=aa b/\dk (x.parents.take j) ns.length/\(x.parents.take j).getLast?.getD (-1)=b/\RdS g ns H H4 (ar ns) (s.set k (dK (x.parents.take j)))/\H3.next<=H4.next/\H4.get H2.next=some (.arr 0 69 [.lit (.int .i64 x.card),.vec x.parents.length (ints x.parents),aC x.rows])/\¬ (k:Int)∈x.parents.take j)
  (fun ρ2 H=>x.parents.length - (iv (ρ2 90)).toNat) ?_ ?_
 ·simp only[go_sem];exact⟨0,-1,rfl,by omega,rfl,.nil,rfl,by rw[show dK (x.parents.take 0)=0 from rfl,s0];exact R3,gN,by simp⟩
 rintro ρ2 H4 ⟨j,b,h90,hj,h10,hp,hbl,R4,hn4,gN4,hself⟩;refine ab _ _ _ (by rfl) ?_;have r4:=R4.nx;have t1:=R4.l1;have t3:=R4.l3;have t4:=R4.l4;have tN:=ak gN4;by_cases hb3:(j:Int)<x.parents.length
 ·obtain⟨a,ha⟩:=get_of_lt (l:=x.parents) (i:=j) (by omega);have ham:=List.mem_of_getElem? ha;have hane:=aJ ha;by_cases d1:a<=b
  ·simp only[go_sem,h90,h10,hb3,ha,hane,d1,t1];refine no (fun h=>?_) _ (R4.ov.upd (by omega) _);have hpl:=(h.node x hxm).2;have h0:=hpl.2 a ham;rcases Nat.eq_zero_or_pos j with rfl|hk0
   ·simp at hbl;omega
   ·obtain⟨i,rfl⟩:∃ i,j=i+1:=⟨j - 1,by omega⟩
    obtain⟨b',hbj⟩:=get_of_lt (l:=x.parents) (i:=i) (by omega);rw[x5 hbj]at hbl;have:=hpl.lt hbj ha (by omega);simp at hbl;omega
  by_cases d2:a >= ns.length
  ·simp only[go_sem,h90,h10,hb3,ha,hane,d1,d2,t1,t4];exact no (fun h=>by have:=(h.node x hxm).2.2 a ham;omega) _ (R4.ov.upd (by omega) _)
  have h0:0<=a:=by
   rcases hg:(x.parents.take j).getLast? with _|b'
   ·rw[hg]at hbl;simp at hbl;omega
   ·rw[hg]at hbl;have:=hp.2 b' (List.mem_of_getLast? hg);simp at hbl;omega
  by_cases d3:a=k
  ·have d1':¬ (k:Int)<=b:=(by omega);have d2':¬ (k:Int) >= ns.length:=(by omega);simp only[go_sem,h90,h10,hb3,ha,hane,d1',d2',d3,t1,t4];exact no (fun h=>PQ hx (fun q hq=>((h.node x hxm).2.2 q hq).1) (by rw[<- d3];exact ham) h.acyc) _ (R4.ov.upd (id:=H.next+1) (by omega) _)
  obtain⟨u,rfl⟩:=Int.eq_ofNat_of_zero_le h0;have w1:=IntWalk.i64_in ((j:Int)+1) (by omega);have bm:dK (x.parents.take j)<2 ^ 64:=xJ fun p hp'=>by have:=hp.2 p hp';omega
  have v1:=fun t x y=>yh (P:=Try.prog) (t:=t) (x:=x) (y:=y) (k':=.i64) (s:=u) (by omega);have v2:=fun t x y=>uh (P:=Try.prog) (t:=t) (x:=x) (y:=y) (b:=2 ^ u) bm (Nat.pow_lt_pow_right (by decide) (by omega));have gs:(s.set k (dK (x.parents.take j)))[k]?=some (dK (x.parents.take j)):=List.getElem?_set_self hks;simp only[go_sem,h90,h10,hb3,ha,hane,d1,d2,d3,t4];refine W.draw 7 [0,1,0,7,15,0,32] Try.mixed (by kernel_rfl) (by kernel_rfl) ?_;simp only[go_sem,h90,hb2,t3,t4,gs,v1,v2,w1]
  repeat (refine And.intro (by first|omega|(simp;done)|(simp;omega)|(intros;omega)|exact⟨rfl,by omega,by omega,nT _⟩) ?_)
  have R5:=R4.PO (k:=k) (by simpa using hks) (dK (x.parents.take j) ||| 2 ^ u);rw[List.set_set]at R5;have esn:dK (x.parents.take (j+1))=dK (x.parents.take j) ||| 2 ^ u:=by rw[aL ha,B6];rfl
  refine⟨by rw[aA];omega,⟨j+1,u,by simp,by omega,rfl,?_,by rw[x5 ha];rfl,by rw[esn];exact R5,by rw[aA];omega,by rw[ag,if_neg (by omega)];exact gN4,fun hm=>?_⟩,by omega⟩
  ·rw[aL ha];exact hp.snoc ⟨by omega,by omega⟩ fun b' hb'=>by rw[hb']at hbl;simp at hbl;omega
  ·rw[aL ha]at hm;rcases List.mem_append.1 hm with hm|hm
   ·exact hself hm
   ·exact d3 (List.mem_singleton.1 hm).symm
 ·have hb3':=hb3;rw[List.take_of_length_le (by omega)]at hp hself R4;simp only[go_sem,h90,hb3,t4,tN];have hin:gp x.parents ns.length:=fun q hq=>by have:=hp.2 q hq;omega
  refine aw.clo (PP g ⟨by omega,by omega⟩ ns _ x hin (pf (by omega) hp hall) f2 f3 _ (H.next+2) (H.next+3) R4.b2 R4.b3 R4.sl _ ⟨trivial,?_⟩);cases hnb:jZ g ns x
  ·simp only[go_sem,t1];exact no (fun h=>by rw[CT (h.rows x hxm)]at hnb;cases hnb) _ (R4.ov.upd (by omega) _)
  have w1:=IntWalk.i64_in ((k:Int)+1) (by omega);simp only[go_sem,h82,w1];refine⟨by omega,⟨k+1,_,by simp,by omega,R4,by omega,?_,fun i hi=>?_,fun y hy=>?_⟩,by omega⟩
  ·have h1:=mS hx;rw[aL h1,aL (List.getElem?_set_self hks),List.take_set_of_le (Nat.le_refl k),hs]
  ·rw[List.getD_eq_getElem?_getD,List.getElem?_set_ne (by omega),<- List.getD_eq_getElem?_getD];exact hs0 i (by omega)
  ·rw[aL hx]at hy;rcases List.mem_append.1 hy with hy|hy
   ·exact hall2 y hy
   ·obtain rfl:=List.mem_singleton.1 hy;exact⟨hp,PG.1 hnb⟩
theorem PS (g:Int)(ns:List NodeP)(hf:jY ns)(H:AHeap)(K:ARes->AHeap->Prop)(hK:K (.ret (aa (if gu g ns then 0 else 50))) H):af Try.prog G0 68 [aY g ns] H K:=by
 refine af.clo ⟨_,Try.func68,rfl,rfl⟩ fun hcl=>?_;refine af.bf (n:=11) (rs:=[.tmp 2]) Try.func68 rfl rfl rfl (by decide) (by kernel_rfl) (by simp) ?_;simp only[go_sem,aY,cH];refine aw.clo (PR g ns hf _ _ ⟨trivial,?_⟩);cases hb:gu g ns
 ·rw[hb]at hK;simp only[go_sem,yf,List.length_nil];exact av.bI aP hcl (.ext _ _) (.lit _) hK
 ·rw[hb]at hK;simp only[go_sem,yg,cH];exact av.bI aP hcl (.ext _ _) (.lit _) hK
def Cd (D v:Nat):List Nat := (List.range v).filter fun v => D.testBit v
def Ce (D v:Nat):Nat := (Cd D v).length
def xN (d:InfP):List Nat := Cd d.decs d.nodes.length
def OB (g card x:Int):List Int := (List.replicate card.toNat 0).set x.toNat g
def Cf (ns:List NodeP)(x:NodeP):Nat := (au (aR ns x)).toNat
def OC (g:Int)(ns:List NodeP)(c:Nat -> Nat -> Int)(p:Nat)(x:NodeP):List (List Int) := (List.range (Cf ns x)).map fun r => OB g x.card (c p r)
def OD (d:InfP)(c:Nat -> Nat -> Int)(k v:Nat)(x:NodeP):NodeP := if d.decs.testBit v = true /\ Ce d.decs v < k then { x with rows := x.rows ++ OC d.grain d.nodes c (Ce d.decs v) x } else x
def OE (d:InfP)(c:Nat -> Nat -> Int)(k:Nat):List NodeP := d.nodes.zipIdx.map fun p => OD d c k p.2 p.1
def OF (d:InfP)(c:Nat -> Nat -> Int):List NodeP := OE d c (xN d).length
structure RightN (d:InfP):Prop where
 n1:1<=d.nodes.length/\d.nodes.length<=8
 decs:d.decs >>> d.nodes.length=0
 card:∀ x∈d.nodes,1<=x.card/\x.card<=4
 dec:∀ v x,d.nodes[v]?=some x->d.decs.testBit v=true->x.rows=[]/\dk x.parents d.nodes.length
structure InfFit (d:InfP):Prop where
 nodes:jY d.nodes
 decs:d.decs<2 ^ 64
 utils:(d.utils.length:Int)<2 ^ 38/\∀ u∈d.utils,(u.vars.length:Int)<2 ^ 38/\(u.w.length:Int)<2 ^ 38
end Go.Proofs
namespace Go.Hx
variable {P:Program} {G:Nat->Option (List AVal)}
def AHeap.eL (H:AHeap)(rk ob:Nat)(b:Blk):AHeap:=⟨fun id=>if id=rk then none else if id=ob then some b else H.get id,H.next⟩
theorem P8 {H:AHeap}(hc:Clo H){rk ob g:Nat}{e:TypeId}{cells cells':List AVal}(hob:H.get ob=some (.arr g e cells))(hne:ob≠rk)(hl:cells'.length=cells.length)
  (hcell:∀ i (h:i<cells.length) (h':i<cells'.length),Fz (fun id=>id=rk) H H.next cells[i] cells'[i]):FzH (fun id=>id=rk) H (H.eL rk ob (.arr g e cells')) where
 gone id hs:=by simp [AHeap.eL,hs]
 kept id b hs hb:=by
  have hbb:=hc.below id b hb;refine⟨hc.lt id b hb,?_⟩;by_cases h:id=ob
  ·subst h;rw[hob]at hb;cases hb;exact⟨.arr g e cells',by simp [AHeap.eL,hs],rfl,rfl,hl,hcell⟩
  ·refine⟨b,by simp [AHeap.eL,hs,h,hb],?_⟩;cases b with
   | rsv=>trivial
   | mp=>rfl
   | arr g e cells=>exact⟨rfl,rfl,rfl,fun i h _=>.dead (hbb i h)⟩
   | loop st pend n env ps asg body=>exact⟨rfl,rfl,rfl,rfl,rfl,rfl,rfl,fun t ht=>.dead (hbb t ht)⟩
 none id hs hb:=by
  by_cases h:id=ob
  ·subst h;rw[hob]at hb;cases hb
  ·simp [AHeap.eL,hs,h,hb]
theorem eu.eL (hG:fV G){s:St}{rk ob g:Nat}{e:TypeId}{cells cells':List AVal}(hob:s.H.get ob=some (.arr g e cells))(hne:ob≠rk)(hl:cells'.length=cells.length)
  (hcell:∀ i (h:i<cells.length) (h':i<cells'.length),Fz (fun id=>id=rk) s.H s.H.next cells[i] cells'[i]):eu P G s ⟨s.ρ,s.H.eL rk ob (.arr g e cells')⟩:=by
 intro n wb Γ a w hs;exact eu.freeze (s:=s) (s':=⟨s.ρ,s.H.eL rk ob (.arr g e cells')⟩) hG (P8 hs.heap.clo hob hne hl hcell) (fun t=>.dead (hs.env t).rR) n wb Γ a w hs
theorem yi {H:AHeap}{rk ob:Nat}{b:Blk}(h:ob≠rk):(H.eL rk ob b).get ob=some b:=by simp [AHeap.eL,h]
theorem yj {H:AHeap}{rk ob id:Nat}{b:Blk}(h:id≠rk)(h2:id≠ob):(H.eL rk ob b).get id=H.get id:=by simp [AHeap.eL,h,h2]
theorem C0 {S:Nat->Prop}{H:AHeap}{nx:Nat}{l:List AVal}{i:Nat}{a b:AVal}(hl:∀ v,v∈l->Fz S H nx v v)(hab:Fz S H nx a b):∀ j (h:j<(l.set i a).length) (h':j<(l.set i b).length),Fz S H nx (l.set i a)[j] (l.set i b)[j]:=by
 intro j h h';rw[List.getElem_set,List.getElem_set];split
 ·exact hab
 ·exact hl _ (List.getElem_mem _)
theorem W.yk {n:Nat}{rd:Option Nat}{Q Q':AX->St->Prop}{c:Code}{s:St}(h:W P G n rd c Q' s)(hw:∀ e s2,Q' e s2->∃ s3,eu P G s2 s3/\s2.H.next<=s3.H.next/\dY s3.H rd/\Q e s3):W P G n rd c Q s:=by
 intro wb Γ a w rb hs hr;refine wpIn_mono (h wb Γ a w rb hs hr) fun e a' w' hp=>?_;obtain⟨x,s',Γ',hx,hq,hrel,E,hn,hrd,hfr⟩:=hp;obtain⟨s3,hw3,hn3,hri,hq3⟩:=hw x s' hq;obtain⟨Γ3,hs3,E3,hrd3⟩:=hw3 n wb Γ' a' w' hrel;exact⟨x,s3,Γ3,hx,hq3,hs3,E.trans hn E3,Nat.le_trans hn hn3,hrd3 rd rb hrd hri,hfr⟩
theorem aF.ne {lo:Nat}{H:AHeap}{e:TypeId}{v:AVal}{cs:List AVal}(h:aF lo H e v cs){k:Nat}(hk:k<lo):∀ g n,v≠.own k g 0 n 1:=fun g n he=>by
 rcases h with ⟨h,_⟩|⟨i2,g2,a1,_,h,_⟩
 ·rw[h]at he;cases he
 ·rw[h]at he;have:=AVal.own.inj he;omega
def dX (lo:Nat)(H:AHeap)(e:TypeId)(z:Nat)(v:AVal)(n:Nat)(cs:List AVal):Prop :=
 (v=.lit (.slice none 0 0)/\n=0/\cs=[])\/∃ id g,lo<=id/\id<H.next/\v=.own id g 0 n z/\cs.length=n*z/\H.get id=some (.arr g e cs)
theorem dX.nil {lo:Nat}{H:AHeap}{e:TypeId}{z:Nat}:dX lo H e z (.lit (.slice none 0 0)) 0 []:=.inl ⟨rfl,rfl,rfl⟩
theorem dX.keep {lo:Nat}{H H':AHeap}{e:TypeId}{z n:Nat}{v:AVal}{cs:List AVal}(h:dX lo H e z v n cs)(hn:H.next<=H'.next)(hk:∀ id g,lo<=id->id<H.next->v=.own id g 0 n z->H'.get id=H.get id):dX lo H' e z v n cs:=by
 rcases h with h|⟨id,g,h1,h2,h3,h4,h5⟩
 ·exact .inl h
 ·exact .inr ⟨id,g,h1,by omega,h3,h4,(hk id g h1 h2 h3).trans h5⟩
theorem dX.over {lo:Nat}{H H':AHeap}{e:TypeId}{z n:Nat}{v:AVal}{cs:List AVal}(h:dX lo H e z v n cs)(ho:Over H H'):dX lo H' e z v n cs:=h.keep ho.next fun id _ _ h2 _=>ho.old id h2
theorem dX.one {lo:Nat}{H:AHeap}{e:TypeId}{z n:Nat}{v:AVal}{cs:List AVal}(h:dX lo H e z v n cs):v.one=true:=by
 rcases h with ⟨rfl,_⟩|⟨_,_,_,_,rfl,_⟩<;>rfl
theorem dX.cells {lo:Nat}{H:AHeap}{e:TypeId}{z n:Nat}{v:AVal}{cs:List AVal}(h:dX lo H e z v n cs):v.cells=[v]:=by
 rcases h with ⟨rfl,_⟩|⟨_,_,_,_,rfl,_⟩<;>rfl
theorem dX.ne {lo:Nat}{H:AHeap}{e:TypeId}{z m:Nat}{v:AVal}{cs:List AVal}(h:dX lo H e z v m cs){k:Nat}(hk:k<lo):∀ g n,v≠.own k g 0 n z:=fun g n he=>by
 rcases h with ⟨h,_⟩|⟨i2,g2,a1,_,h,_⟩
 ·rw[h]at he;cases he
 ·rw[h]at he;have:=AVal.own.inj he;omega
theorem C2 {H:AHeap}{t e:TypeId}{lo n z m:Nat}{v:AVal}{cs xs:List AVal}{zs:List AVal}(ht:P.underlying t=some (.slice e))(hz:P.cellsOf e=z)(hzero:bP P e=some zs)(hx:xs.all AVal.one=true)(hxl:xs.length=z)
  (hb:(n+1)*P.bytesOf e<=2 ^ 46/\n+1<=2 ^ 46) (ho:dX lo H e z v n cs) (hlo:lo<=H.next) (hn:m=H.next+1):
  ∃ v' H',bA P (ext H [.arr 0 e xs]) m t t v (.own H.next 0 0 1 z)=some (v',H')/\dX lo H' e z v' (n+1) (cs++xs)/\H.next<=H'.next/\(∀ k,k<H.next->(∀ g n,v≠.own k g 0 n z)->H'.get k=H.get k):=by
 have hne:(ext H [.arr 0 e xs]).next=H.next+1:=rfl;have hsrc:cu (ext H [.arr 0 e xs]) z (.own H.next 0 0 1 z)=some (1,xs):=by
  unfold cu;have:=ak (H:=ext H [.arr 0 e xs]) (g:=0) (cP (b:=.arr 0 e xs));simp [this,<- hxl]
 rcases ho with ⟨rfl,rfl,rfl⟩|⟨i,g,h1,h2,rfl,h4,h5⟩
 ·refine⟨.own m 0 0 1 z,ext (ext H [.arr 0 e xs]) [.arr 0 e xs],?_,.inr ⟨m,0,by omega,by rw[bY,hne,hn];simp,by simp,by simp [hxl],?_⟩,by rw[bY,hne];omega,fun k hk _=>?_⟩
  ·unfold bA;rw[ht];simp only[hzero,hz,Option.bind_some];rw[hsrc];simp only[Option.bind_some];rw[if_neg (by decide),if_pos (by simpa using hb),pX (by rw[hn,hne])];rfl
  ·rw[hn,<- hne];exact cP
  ·rw[ed (by rw[hne];omega),ed hk]
 ·have h5':(ext H [.arr 0 e xs]).get i=some (.arr g e cs):=by rw[ed h2];exact h5
  refine⟨.own i (g+1) 0 (n+1) z,(ext H [.arr 0 e xs]).upd i (.arr (g+1) e (cs++xs)),?_,.inr ⟨i,g+1,h1,by rw[aA,hne];omega,rfl,by simp [h4,hxl,Nat.add_mul],by rw[ag,if_pos rfl]⟩,by rw[aA,hne];omega,fun k hk hne2=>?_⟩
  ·unfold bA;rw[ht];have hl:=ak h5';simp only[hzero,hz,Option.bind_some];rw[hsrc];simp only[Option.bind_some,hl];rw[if_pos ⟨trivial,trivial,by omega,hb.1,hb.2,hx⟩];simp
  ·rw[ag,if_neg,ed hk];rintro rfl;exact hne2 _ _ rfl
end Go.Hx
namespace Go.Proofs
open Go.Hx
def bq (x:NodeP):AVal:=if x.rows=[] then .lit (.slice none 0 0) else aC x.rows
def NodeP.ks (x:NodeP):List AVal:=[aa x.card,ae x.parents,bq x]
def gi (l:List NodeP):List AVal:=(l.map NodeP.ks).flatten
theorem mM (l:List NodeP):(gi l).length=l.length*3:=lG (f:=NodeP.ks) (fun _=>rfl) l
theorem Cg {l:List NodeP}{i:Nat}{x:NodeP}(h:l[i]?=some x):(gi l)[i*3]?=some (aa x.card):=jX (f:=NodeP.ks) (z:=3) (fun _=>rfl) l i 0 x h (by omega)
theorem OG {l:List NodeP}{i:Nat}{x:NodeP}(h:l[i]?=some x):(gi l)[i*3+1]?=some (ae x.parents):=jX (f:=NodeP.ks) (z:=3) (fun _=>rfl) l i 1 x h (by omega)
theorem OH {l:List NodeP}{i:Nat}{x:NodeP}(h:l[i]?=some x):(gi l)[i*3+2]?=some (bq x):=jX (f:=NodeP.ks) (z:=3) (fun _=>rfl) l i 2 x h (by omega)
theorem Ch (l:List NodeP)(x:NodeP):gi (l++[x])=gi l++[aa x.card,ae x.parents,bq x]:=by unfold gi;simp [NodeP.ks]
theorem Ci {x:NodeP}(h:x.rows≠[]):bq x=aC x.rows:=if_neg h
theorem OI {S:Nat->Prop}{H:AHeap}{nx:Nat}(x:NodeP):Fz S H nx (bq x) (aC x.rows):=by
 unfold bq;split
 ·rename_i h;rw[h];exact .nil
 ·exact .aC _
theorem OJ {S:Nat->Prop}{H:AHeap}{nx:Nat}(x:NodeP):Fz S H nx (bq x) (bq x):=by
 unfold bq;split
 ·exact .lit _
 ·exact .aC _
theorem OK {S:Nat->Prop}{H:AHeap}{nx:Nat}(l:List NodeP):∀ c∈gi l,Fz S H nx c c:=by
 intro c hc;unfold gi at hc;obtain⟨r,hr,hc⟩:=List.mem_flatten.1 hc;obtain⟨x,_,rfl⟩:=List.mem_map.1 hr;unfold NodeP.ks at hc;simp only[List.mem_cons,List.not_mem_nil,or_false]at hc;rcases hc with rfl|rfl|rfl
 ·exact .lit _
 ·exact .dw _
 ·exact OJ x
structure NodesQ (e:Nat->Prop)(ns:List NodeP)(cs:List AVal):Prop where
 len:cs.length=ns.length*3
 node:∀ (v:Nat) (x:NodeP),ns[v]?=some x->∃ rv,cs[v*3]?=some (aa x.card)/\cs[v*3+1]?=some (ae x.parents)/\cs[v*3+2]?=some rv/\(rv=aC x.rows\/rv=bq x)/\(e v->rv=bq x)
theorem NodesQ.c0 {e:Nat->Prop}{ns:List NodeP}{cs:List AVal}(h:NodesQ e ns cs){v:Nat}{x:NodeP}(hx:ns[v]?=some x):cs[v*3]?=some (aa x.card):=(h.node v x hx).elim fun _ h=>h.1
theorem NodesQ.c1 {e:Nat->Prop}{ns:List NodeP}{cs:List AVal}(h:NodesQ e ns cs){v:Nat}{x:NodeP}(hx:ns[v]?=some x):cs[v*3+1]?=some (ae x.parents):=(h.node v x hx).elim fun _ h=>h.2.1
theorem NodesQ.ne {e:Nat->Prop}{ns:List NodeP}{cs:List AVal}(h:NodesQ e ns cs){v:Nat}{x:NodeP}(hx:ns[v]?=some x):¬ cs=[]:=fun he=>by
 have:=h.c0 hx;rw[he]at this;simp at this
theorem NodesQ.part {e:Nat->Prop}{ns:List NodeP}{cs:List AVal}(h:NodesQ e ns cs){v:Nat}{x:NodeP}(hx:ns[v]?=some x):∃ rv,(cs.drop (v*3)).take 3=[aa x.card,ae x.parents,rv]/\cs[v*3+2]?=some rv/\(rv=aC x.rows\/rv=bq x)/\(e v->rv=bq x):=by
 obtain⟨rv,a,b,c,d,f⟩:=h.node v x hx;refine⟨rv,?_,c,d,f⟩;have h3:=get_lt c;rw[List.drop_eq_getElem_cons (by omega),List.drop_eq_getElem_cons (by omega),List.drop_eq_getElem_cons (by omega)];simp only[List.take_succ_cons,List.take_zero];rw[List.getElem?_eq_getElem (by omega)]at a b c;rw[Option.some.inj a,Option.some.inj b,Option.some.inj c]
theorem NodesQ.nil {e:Nat->Prop}:NodesQ e [] []:=⟨rfl,fun v x hx=>by simp at hx⟩
theorem NodesQ.snoc {e:Nat->Prop}{ns:List NodeP}{cs:List AVal}(h:NodesQ e ns cs){x:NodeP}{rv:AVal}(h1:rv=aC x.rows\/rv=bq x)(h2:e ns.length->rv=bq x):NodesQ e (ns++[x]) (cs++[aa x.card,ae x.parents,rv]):=by
 have hl:=h.len;refine⟨by simp [hl];omega,fun v y hy=>?_⟩;by_cases hv:v<ns.length
 ·rw[List.getElem?_append_left hv]at hy;obtain⟨r,a,b,c,d⟩:=h.node v y hy;exact⟨r,by rw[List.getElem?_append_left (by omega)];exact a,by rw[List.getElem?_append_left (by omega)];exact b,by rw[List.getElem?_append_left (by omega)];exact c,d⟩
 ·have:v=ns.length:=by have:=get_lt hy;simp at this;omega
  subst this;rw[List.getElem?_append_right (by omega),Nat.sub_self]at hy;cases hy;refine⟨rv,?_,?_,?_,h1,h2⟩
  ·rw[List.getElem?_append_right (by omega),show ns.length*3 - cs.length=0 by omega];rfl
  ·rw[List.getElem?_append_right (by omega),show ns.length*3+1 - cs.length=1 by omega];rfl
  ·rw[List.getElem?_append_right (by omega),show ns.length*3+2 - cs.length=2 by omega];rfl
theorem NodesQ.mono {e e':Nat->Prop}{ns:List NodeP}{cs:List AVal}(h:NodesQ e ns cs)(he:∀ v,e' v->e v):NodesQ e' ns cs:=⟨h.len,fun v x hx=>by
 obtain⟨r,a,b,c,d,f⟩:=h.node v x hx;exact⟨r,a,b,c,d,fun h=>f (he v h)⟩⟩
theorem NodesQ.OL {e:Nat->Prop}{ns:List NodeP}{cs:List AVal}(h:NodesQ e ns cs){S:Nat->Prop}{H:AHeap}{nx:Nat}:∀ (i:Nat) (h1:i<cs.length) (h2:i<(az ns).length),Fz S H nx cs[i] (az ns)[i]:=by
 intro i h1 h2;have hb:i / 3<ns.length:=by rw[h.len]at h1;omega
 obtain⟨x,hx⟩:=get_of_lt hb;obtain⟨rv,a,b,c,d,_⟩:=h.node _ x hx;have hp:i=(i / 3)*3+i % 3:=by omega
 have g1:cs[i]?=some cs[i]:=List.getElem?_eq_getElem h1;have g2:(az ns)[i]?=some (az ns)[i]:=List.getElem?_eq_getElem h2;generalize cs[i]=u at g1 ⊢;generalize (az ns)[i]=w at g2 ⊢;have c3:i % 3=0\/i % 3=1\/i % 3=2:=by omega
 rcases c3 with c0|c0|c0
 ·rw[hp,c0,Nat.add_zero,a]at g1;rw[hp,c0,Nat.add_zero,js hx]at g2;cases g1;cases g2;exact .lit _
 ·rw[hp,c0,b]at g1;rw[hp,c0,lH hx]at g2;cases g1;cases g2;exact .dw _
 ·rw[hp,c0,c]at g1;rw[hp,c0,oT hx]at g2;cases g1;cases g2;rcases d with d|d<;>rw[d]
  ·exact .aC _
  ·exact OI x
theorem lR {α:Type}{l:List α}{i:Nat}{x:α}(h:l[i]?=some x):l.set i x=l:=by
 apply List.ext_getElem?;intro j;rw[List.getElem?_set];split
 ·rename_i hj;subst hj;rw[if_pos (get_lt h),h]
 ·rfl
structure UtilOk (ns:List NodeP)(u:UtilP):Prop where
 vars:dk u.vars ns.length
 size:(u.w.length:Int)=au (aS (ar ns) u.vars)
 w:∀ x∈u.w,-100<=x/\x<=100
def Pt (d:InfP):Prop:=d.utils.length<=4/\∀ u∈d.utils,UtilOk d.nodes u
structure InfOk (d:InfP):Prop where
 n:RightN d
 net:NetOk d.grain (OF d fun _ _=>0)
 utils:Pt d
structure PolOk (d:InfP)(p:List (List Int)):Prop where
 len:p.length=(xN d).length
 row:∀ (k v:Nat) (x:NodeP) (l:List Int),(xN d)[k]?=some v->d.nodes[v]?=some x->p[k]?=some l->l.length=Cf d.nodes x/\∀ a∈l,0<=a/\a<x.card
end Go.Proofs
namespace Go.Hx
variable {P:Program} {G:Nat->Option (List AVal)} {n:Nat} {rd:Option Nat} {Q:AX->St->Prop}
def ui (N:Nat)(H1 H2:AHeap):Prop:=H1.next<=H2.next/\∀ id,id≠N->id<H1.next->H2.get id=H1.get id
end Go.Hx
namespace Go.Proofs
open Go.Hx
def gL (ns:List NodeP)(x:NodeP)(vals:List Int):List Int:=x.rows.getD (dp (aR ns x) (aS vals x.parents)).toNat []
def fH (ns:List NodeP)(vals:List Int)(v:Nat):Int:=match ns[v]? with
 | some x=>(gL ns x vals).getD (vals.getD v 0).toNat 0
 | none=>1
def eI (ns:List NodeP)(vals:List Int):List Int:=(List.range ns.length).map (fH ns vals)
def weight (ns:List NodeP)(vals:List Int):Int:=au (eI ns vals)
def ik (ns:List NodeP):Nat:=(au (ar ns)).toNat
theorem qF (ns:List NodeP)(vals:List Int):(eI ns vals).length=ns.length:=by simp [eI]
theorem tS {ns:List NodeP}{vals:List Int}{v:Nat}(h:v<ns.length):(eI ns vals)[v]?=some (fH ns vals v):=by
 unfold eI;rw[List.getElem?_map,List.getElem?_range h];rfl
theorem o9 {ns:List NodeP}{x:NodeP}{vals:List Int}(hin:gp x.parents ns.length)(hf:cE (ar ns) vals):cE (aR ns x) (aS vals x.parents):=by
 refine⟨by unfold aR;rw[gO,gO],fun k c v h1 h2=>?_⟩;obtain⟨q,hq⟩:=get_of_lt (l:=x.parents) (i:=k) (by have:=get_lt h2;rw[gO]at this;exact this);obtain⟨j,rfl,y,hy⟩:=mJ (l:=ns) (hin q (List.mem_of_getElem? hq)).1 (hin q (List.mem_of_getElem? hq)).2;obtain⟨b,hb⟩:=get_of_lt (l:=vals) (i:=j) (by rw[hf.1,bO];exact get_lt hy);have e1:(aR ns x)[k]?=some y.card:=by rw[show (aR ns x)[k]?=_ from qN hq,Int.toNat_natCast,bE (cI hy)]
 have e2:(aS vals x.parents)[k]?=some b:=by rw[qN hq,Int.toNat_natCast,bE hb]
 rw[h1]at e1;rw[h2]at e2;cases e1;cases e2;exact hf.2 j y.card _ (cI hy) hb
structure RowAtW (g:Int)(ns:List NodeP)(x:NodeP)(vals:List Int)(v:Nat)(i:Nat)(r:List Int)(a w:Int):Prop where
 idx:dp (aR ns x) (aS vals x.parents)=i
 row:x.rows[i]?=some r
 val:vals[v]?=some a
 a0:0<=a
 hw:r[a.toNat]?=some w
 wb:0<=w/\w<=g
 eq:fH ns vals v=w
 rv:gL ns x vals=r
 len:(r.length:Int)=x.card
 al:a<r.length
theorem t9 {g:Int}{ns:List NodeP}(h:NetOk g ns){v:Nat}{x:NodeP}(hx:ns[v]?=some x){vals:List Int}(hf:cE (ar ns) vals):∃ i r a w,RowAtW g ns x vals v i r a w:=by
 have hxm:=List.mem_of_getElem? hx;have hin:gp x.parents ns.length:=fun q hq=>by have:=(h.node x hxm).2.2 q hq;omega
 have hr:=mL (o9 hin hf);obtain⟨r1,r2⟩:=h.rows x hxm;obtain⟨i,hi⟩:=Int.eq_ofNat_of_zero_le hr.1;obtain⟨r,hrr⟩:=get_of_lt (l:=x.rows) (i:=i) (by rw[<- r1,hi]at hr;omega);obtain⟨s1,s2,s3⟩:=r2 r (List.mem_of_getElem? hrr);obtain⟨a,ha⟩:=get_of_lt (l:=vals) (i:=v) (by rw[hf.1,bO];exact get_lt hx);have hb:=hf.2 v x.card a (cI hx) ha;obtain⟨w,hw⟩:=get_of_lt (l:=r) (i:=a.toNat) (by omega);have rv:gL ns x vals=r:=by unfold gL;rw[hi,Int.toNat_natCast,bE hrr]
 exact⟨i,r,a,w,hi,hrr,ha,hb.1,hw,s2 w (List.mem_of_getElem? hw),by unfold fH;rw[hx];simp only;rw[rv,bE ha,bE hw],rv,s1,by omega⟩
theorem Pu (k:Nat)(h:k<=8):(60:Int) ^ k<=167961600000000:=by
 have h1:(60:Nat) ^ k<=60 ^ 8:=Nat.pow_le_pow_right (by decide) h;have h2:(60:Nat) ^ 8=167961600000000:=by decide
 rw[h2]at h1;have h3:=Int.ofNat_le.2 h1;rw[Int.natCast_pow]at h3;exact h3
theorem xY {g:Int}{ns:List NodeP}(h:NetOk g ns){vals:List Int}(hf:cE (ar ns) vals)(k:Nat):0<=au ((eI ns vals).take k)/\au ((eI ns vals).take k)<=167961600000000:=by
 have hb:∀ w∈eI ns vals,0<=w/\w<=60:=fun w hw=>by
  obtain⟨v,hv,rfl⟩:=List.mem_map.1 hw;obtain⟨x,hx⟩:=get_of_lt (List.mem_range.1 hv);obtain⟨i,r,a,w,hR⟩:=t9 h hx hf;rw[hR.eq];have:=hR.wb;have:=h.g1;omega
 have h1:=mK (b:=60) (by omega) (l:=(eI ns vals).take k) fun x hx=>hb x (List.mem_of_mem_take hx);have h2:=Pu ((eI ns vals).take k).length (by have:=h.n1;rw[List.length_take,qF];omega);omega
set_option maxHeartbeats 1000000 in
theorem Pr (cs:List Int)(h1:∀ c∈cs,1<=c)(hs:dR cs)(i0:Int)(hi:0<=i0/\i0<=4611686018427387904)(H:AHeap)(K:ARes->AHeap->Prop)(hK:K (.ret (ae (cD cs i0))) H):af Try.prog G0 80 [ae cs,aa i0] H K:=by
 refine af.clo ⟨_,Try.func80,rfl,rfl⟩ fun hcl=>?_;have h12:=hs.1;have w0:=IntWalk.i64_in ((cs.length:Int) - 1) (by omega);refine af.bf (n:=33) (rs:=[.tmp 4]) Try.func80 rfl rfl rfl (by decide) (by kernel_rfl) (by simp) ?_;simp only[go_sem,w0];refine⟨by omega,?_⟩;refine W.aI 4294959170 (by rfl) (fun ρ H'=>∃ m:Nat,ρ 6=aa ((m:Int) - 1)/\m<=cs.length/\OwnI H H' H.next (List.replicate m 0++cD (cs.drop m) i0)/\ρ 1=aa (i0 / au (cs.drop m))) (fun ρ H=>(iv (ρ 6)+1).toNat) ?_ ?_
 ·simp only[go_sem];refine⟨cs.length,rfl,by omega,?_,?_⟩
  ·rw[List.drop_length,show cD [] i0=[] from rfl,List.append_nil];exact .new [] _
  ·rw[List.drop_length,fj,Int.ediv_one]
 rintro ρ H' ⟨m,h6,hm,ho,h1'⟩;refine W.env fun E hE=>?_;have e0:E 0=.vec cs.length (ints cs):=by rw[hE];simp only[go_sem]
 have e1:E 1=aa (i0 / au (cs.drop m)):=by rw[hE];simp only[go_sem,h1']
 have e5:E 5=.own H.next 0 0 cs.length 1:=by rw[hE];simp only[go_sem]
 have e6:E 6=aa ((m:Int) - 1):=by rw[hE];simp only[go_sem,h6]
 clear hE;refine ab _ _ _ (by rfl) ?_;have lN:=ho.live;have clen:(List.replicate m 0++cD (cs.drop m) i0).length=cs.length:=by simp [kB];omega
 by_cases hm0:m=0
 ·subst hm0;have e6':E 6=aa (-1):=e6;simp only[go_sem,e6',e5];exact ho.fin hcl clen.symm hK
 ·obtain⟨k,rfl⟩:∃ k,m=k+1:=⟨m - 1,by omega⟩
  have e6':E 6=aa k:=by rw[e6];congr 1;omega
  obtain⟨c,hck⟩:=get_of_lt (l:=cs) (i:=k) (by omega);have hne:=aJ hck;have c1:=h1 c (List.mem_of_getElem? hck);have hcz:¬ c=0:=by omega
  have hk0:(k:Int) >= 0:=by omega
  have hkc:(k:Int)<cs.length:=by omega
  have pp:1<=au (cs.drop (k+1)):=iR fun c hc=>h1 c (List.mem_of_mem_drop hc);have q0:0<=i0 / au (cs.drop (k+1)):=Int.ediv_nonneg hi.1 (by omega);have q1:i0 / au (cs.drop (k+1))<=i0:=Int.ediv_le_self _ hi.1;have m1:(i0 / au (cs.drop (k+1))).tmod c=i0 / au (cs.drop (k+1)) % c:=Int.tmod_eq_emod_of_nonneg q0;have m2:(i0 / au (cs.drop (k+1))).tdiv c=i0 / au (cs.drop (k+1)) / c:=Int.tdiv_eq_ediv_of_nonneg q0;have m3:0<=i0 / au (cs.drop (k+1)) / c:=Int.ediv_nonneg q0 (by omega);have m4:i0 / au (cs.drop (k+1)) / c<=i0 / au (cs.drop (k+1)):=Int.ediv_le_self _ q0;have w1:=IntWalk.i64_in ((k:Int) - 1) (by omega);have w2:=IntWalk.i64_in (i0 / au (cs.drop (k+1)) / c) (by omega);simp only[go_sem,e0,e1,e5,e6',hk0,hkc,lN,hck,hne,hcz,m1,m2,w1,w2];refine⟨by rw[<- List.length_append,clen];omega,by have:=ho.hi;rw[aA];omega,⟨k,rfl,by omega,?_,?_⟩,by rw[h6];simp only[aa,aK];omega⟩
  ·have:=ho.store (k:=k) (by rw[clen];omega) (i0 / au (cs.drop (k+1)) % c);rw[show (List.replicate (k+1) (0:Int)++cD (cs.drop (k+1)) i0).set k (i0 / au (cs.drop (k+1)) % c)=List.replicate k 0++cD (cs.drop k) i0 by
    rw[B5 hck,List.replicate_succ',List.append_assoc,List.set_append_right _ _ (by simp)];simp]at this
   exact this
  ·rw[gK hck,fE,Int.mul_comm c,Int.ediv_ediv_of_nonneg (by omega)]
theorem xW (g:Int)(ns:List NodeP)(h8:ns.length<=8)(hc:∀ y∈ns,1<=y.card/\y.card<=4)(i0:Int)(hi:0<=i0/\i0<=4611686018427387904)(H:AHeap)(K:ARes->AHeap->Prop)(hK:K (.ret (ae (cD (ar ns) i0))) H):af Try.prog G0 58 [aY g ns,aa i0] H K:=by
 refine af.clo ⟨_,Try.func58,rfl,rfl⟩ fun hcl=>?_;have hcards:∀ c∈ar ns,1<=c/\c<=4:=fun c h=>by
  obtain⟨x,hx,rfl⟩:=List.mem_map.1 h;exact hc x hx
 have sm:dR (ar ns):=mT (by rw[bO];omega) hcards;refine af.bf (n:=9) (rs:=[.tmp 4]) Try.func58 rfl rfl rfl (by decide) (by kernel_rfl) (by simp) ?_;simp only[go_sem,aY,cH];refine aw.clo (pe g ns (by omega) _ _ ⟨trivial,?_⟩);simp only[go_sem];refine aw.clo (Pr (ar ns) (fun c h=>(hcards c h).1) sm i0 hi _ _ ⟨trivial,?_⟩);simp only[go_sem];exact av.drop aP hcl (.dw _) hK
theorem xX (g:Int)(ns:List NodeP)(h8:ns.length<=8)(hc:∀ y∈ns,1<=y.card/\y.card<=4)(H:AHeap)(K:ARes->AHeap->Prop)(hK:K (.ret (aa (au (ar ns)))) H):af Try.prog G0 59 [aY g ns] H K:=by
 refine af.clo ⟨_,Try.func59,rfl,rfl⟩ fun hcl=>?_;have hcards:∀ c∈ar ns,1<=c/\c<=4:=fun c h=>by
  obtain⟨x,hx,rfl⟩:=List.mem_map.1 h;exact hc x hx
 have sm:dR (ar ns):=mT (by rw[bO];omega) hcards;refine af.bf (n:=6) (rs:=[.tmp 2]) Try.func59 rfl rfl rfl (by decide) (by kernel_rfl) (by simp) ?_;simp only[go_sem,aY,cH];refine aw.clo (pe g ns (by omega) _ _ ⟨trivial,?_⟩);simp only[go_sem];refine aw.clo (xZ (ar ns) sm _ _ ⟨trivial,?_⟩);simp only[go_sem];exact av.drop aP hcl (.lit _) hK
end Go.Proofs
namespace Go.Hx
open Go.Proofs (get_lt get_of_lt)
variable {P:Program} {H:AHeap} {G:Nat->Option (List AVal)}
def dL (lo:Nat)(H:AHeap)(e1 e0:TypeId)(v:AVal)(rows:List (List AVal)):Prop :=
 ∃ cs:List AVal,aF lo H e1 v cs/\cs.length=rows.length/\(∀ (j:Nat) (r:List AVal) (c:AVal),rows[j]?=some r->cs[j]?=some c->aF lo H e0 c r)/\∀ (i j a g g' n n':Nat),cs[i]?=some (.own a g 0 n 1)->cs[j]?=some (.own a g' 0 n' 1)->i=j
theorem dL.nil {lo:Nat}{e1 e0:TypeId}:dL lo H e1 e0 (.lit (.slice none 0 0)) []:=⟨[],.nil,rfl,fun j r c h=>by simp at h,fun i j a g g' n n' h=>by simp at h⟩
theorem dL.qH {lo:Nat}{e1 e0:TypeId}{v:AVal}{rows:List (List AVal)}(h:dL lo H e1 e0 v rows):iI lo H e1 e0 v rows :=
 let ⟨cs,a,b,c,_⟩:=h;⟨cs,a,b,c⟩
theorem dL.lo {lo lo':Nat}{e1 e0:TypeId}{v:AVal}{rows:List (List AVal)}(h:dL lo H e1 e0 v rows)(hl:lo'<=lo):dL lo' H e1 e0 v rows :=
 let ⟨cs,a,b,c,d⟩:=h;⟨cs,a.keep hl (Nat.le_refl _) fun _ _ _ _ _ _=>rfl,b,fun j r q h1 h2=>(c j r q h1 h2).keep hl (Nat.le_refl _) fun _ _ _ _ _ _=>rfl,d⟩
theorem dL.app {Hx:AHeap}{lo n:Nat}{e1 e0:TypeId}{v x:AVal}{rows:List (List AVal)}{r:List AVal}{t:TypeId}{z:List AVal}(ht:P.underlying t=some (.slice e1))(hz:P.cellsOf e1=1)(hzero:bP P e1=some z)(hby:P.bytesOf e1=24)(hne:e1≠e0)
  (hb:rows.length<2 ^ 40) (h:dL lo Hx e1 e0 v rows) (ho:Over Hx H) (hlo:lo<=Hx.next) (hx:aF Hx.next H e0 x r) (hn:n=H.next+1):
  ∃ v' H',bA P (ext H [.arr 0 e1 [x]]) n t t v (.own H.next 0 0 1 1)=some (v',H')/\dL lo H' e1 e0 v' (rows++[r])/\H.next<=H'.next/\(∀ k,k<H.next->k<lo->H'.get k=H.get k):=by
 obtain⟨cs,h1,h2,h3,h4⟩:=h;have hon:=ho.next;have h1':=h1.over ho;obtain⟨v',H',hA,hO,hL,hp⟩:=jK (P:=P) (t:=t) ht hz hzero hx.one (by rw[hby,h2];omega) h1' (by omega) hn;have key:∀ lo' u l,aF lo' H e0 u l->aF lo' H' e0 u l:=fun lo' u l hu=>h1'.vn hu hne hL hp;have split:∀ (j:Nat) (c:AVal),(cs++[x])[j]?=some c->(j<cs.length/\cs[j]?=some c)\/(j=cs.length/\c=x):=fun j c hc=>by
  rcases Nat.lt_or_ge j cs.length with hj|hj
  ·rw[List.getElem?_append_left hj]at hc;exact .inl ⟨hj,hc⟩
  ·have:=get_lt hc;rw[List.length_append,List.length_singleton]at this;have hj:j=cs.length:=(by omega);subst hj;rw[List.getElem?_append_right (Nat.le_refl _),Nat.sub_self]at hc;exact .inr ⟨rfl,(Option.some.inj hc).symm⟩
 have old:∀ (j a g m:Nat),cs[j]?=some (.own a g 0 m 1)->a<Hx.next:=fun j a g m hc=>by
  obtain⟨r',hr'⟩:∃ r',rows[j]?=some r':=⟨_,List.getElem?_eq_getElem (by rw[<- h2];exact get_lt hc)⟩
  rcases h3 j r' _ hr' hc with ⟨e,_⟩|⟨i,g',_,b,e,_⟩
  ·cases e
  ·rw[(AVal.own.inj e).1];exact b
 have new:∀ a g m,x=.own a g 0 m 1->Hx.next<=a:=fun a g m he=>by
  rcases hx with ⟨e,_⟩|⟨i,g',b,_,e,_⟩
  ·rw[e]at he;cases he
  ·rw[e]at he;rw[<- (AVal.own.inj he).1];exact b
 refine⟨v',H',hA,⟨cs++[x],hO,by simp [h2],fun j r' c hr hc=>?_,fun i j a g g' m m' hi hj=>?_⟩,hL,fun k hk hkl=>hp k hk (h1.ne hkl)⟩
 ·rcases split j c hc with ⟨a,b⟩|⟨a,b⟩
  ·rw[List.getElem?_append_left (by omega)]at hr;exact key _ _ _ ((h3 j r' c hr b).over ho)
  ·rw[a,h2,List.getElem?_append_right (Nat.le_refl _),Nat.sub_self]at hr;cases hr;rw[b];exact key _ _ _ (hx.keep hlo (Nat.le_refl _) fun _ _ _ _ _ _=>rfl)
 ·rcases split i _ hi with ⟨a1,b1⟩|⟨a1,b1⟩<;>rcases split j _ hj with ⟨a2,b2⟩|⟨a2,b2⟩
  ·exact h4 i j a g g' m m' b1 b2
  ·have:=old i a g m b1;have:=new a g' m' b2.symm;omega
  ·have:=old j a g' m' b2;have:=new a g m b1.symm;omega
  ·omega
theorem dL.row {lo:Nat}{e1 e0:TypeId}{v:AVal}{rows:List (List AVal)}(h:dL lo H e1 e0 v rows)(hne:e1≠e0){k:Nat}{r:List AVal}(hr:rows[k]?=some r)(h0:r≠[]):
  ∃ idt gt idr gr cells,v=.own idt gt 0 rows.length 1/\H.get idt=some (.arr gt e1 cells)/\cells.length=rows.length/\lo<=idt/\idt<H.next/\cells[k]?=some (.own idr gr 0 r.length 1)/\H.get idr=some (.arr gr e0 r)/\lo<=idr/\idr<H.next /\
   ∀ r':List AVal,r'.length=r.length->dL lo (H.upd idr (.arr gr e0 r')) e1 e0 v (rows.set k r'):=by
 obtain⟨cs,h1,h2,h3,h4⟩:=h;have hk:=get_lt hr;obtain⟨c,hc⟩:=get_of_lt (l:=cs) (i:=k) (by omega);rcases h3 k r c hr hc with ⟨_,e⟩|⟨idr,gr,a1,a2,e,a4⟩
 ·exact absurd e h0
 rcases h1 with ⟨_,e'⟩|⟨idt,gt,b1,b2,e',b4⟩
 ·rw[e']at h2;simp at h2;omega
 subst e;have hit:idt≠idr:=fun e=>by rw[e,a4]at b4;cases b4;exact hne rfl
 refine⟨idt,gt,idr,gr,cs,by rw[e',h2],b4,h2,b1,b2,hc,a4,a1,a2,fun r' hl=>⟨cs,.inr ⟨idt,gt,b1,by rw[aA];exact b2,e',by rw[ag,if_neg hit];exact b4⟩,by rw[List.length_set];exact h2,fun j q c' hj hc'=>?_,h4⟩⟩;by_cases e:j=k
 ·subst e;rw[List.getElem?_set_self hk]at hj;rw[hc]at hc';cases hj;cases hc';exact .inr ⟨idr,gr,a1,by rw[aA];exact a2,by rw[hl],by rw[ag,if_pos rfl]⟩
 ·rw[List.getElem?_set_ne (fun h=>e h.symm)]at hj;refine(h3 j q c' hj hc').keep (Nat.le_refl _) (by rw[aA];exact Nat.le_refl _) fun i g _ _ _ hv=>?_;rw[ag,if_neg];rintro rfl;rw[hv]at hc';exact e (h4 j k i g gr _ _ hc' hc)
end Go.Hx
namespace Go.Proofs
open Go.Hx
theorem qI {S:Nat->Prop}{lo nx:Nat}{H:AHeap}{e1 e0:TypeId}{v:AVal}{ps:List (List Int)}(h:iI lo H e1 e0 v (ps.map ints))(hS:∀ i,lo<=i->S i):Fz S H nx v (aC ps):=by
 have:=h.fz (S:=S) (nx:=nx) (rows':=ps.map ints) hS rfl fun j r r' h1 h2=>by
  rw[h1]at h2;cases h2;refine⟨rfl,fun i hi _=>?_⟩;rw[List.getElem?_map]at h1;obtain⟨z,_,rfl⟩:=Option.map_eq_some_iff.1 h1;have e0:(ints z)[i]?=some (ints z)[i]:=List.getElem?_eq_getElem hi;generalize (ints z)[i]=a at e0 ⊢;rw[fa]at e0;obtain⟨b,_,rfl⟩:=Option.map_eq_some_iff.1 e0;exact .lit _
 rw[List.length_map,List.map_map]at this;have e:(ps.map ((fun r:List AVal=>AVal.vec r.length r) ∘ ints))=ps.map ae:=List.map_congr_left fun z _=>by simp [Function.comp,ae,aO]
 rw[e]at this;exact this
set_option maxHeartbeats 1000000 in
theorem LL (cs:List Int)(h1:∀ c∈cs,1<=c)(hs:dR cs)(i0:Int)(hi:0<=i0/\i0<=4611686018427387904)(H:AHeap)(K:ARes->AHeap->Prop)(hK:∀ v H',Over H H'->aF H.next H' 3 v (ints (cD cs i0))->K (.ret v) H'):af Try.prog G0 80 [ae cs,aa i0] H K:=by
 refine af.clo ⟨_,Try.func80,rfl,rfl⟩ fun hcl=>?_;have h12:=hs.1;have w0:=IntWalk.i64_in ((cs.length:Int) - 1) (by omega);refine af.bf (n:=33) (rs:=[.tmp 4]) Try.func80 rfl rfl rfl (by decide) (by kernel_rfl) (by simp) ?_;simp only[go_sem,w0];refine⟨by omega,?_⟩;refine W.aI 4294959170 (by rfl) (fun ρ H'=>∃ m:Nat,ρ 6=aa ((m:Int) - 1)/\m<=cs.length/\OwnI H H' H.next (List.replicate m 0++cD (cs.drop m) i0)/\ρ 1=aa (i0 / au (cs.drop m))) (fun ρ H=>(iv (ρ 6)+1).toNat) ?_ ?_
 ·simp only[go_sem];refine⟨cs.length,rfl,by omega,?_,?_⟩
  ·rw[List.drop_length,show cD [] i0=[] from rfl,List.append_nil];exact .new [] _
  ·rw[List.drop_length,fj,Int.ediv_one]
 rintro ρ H' ⟨m,h6,hm,ho,h1'⟩;refine W.env fun E hE=>?_;have e0:E 0=.vec cs.length (ints cs):=by rw[hE];simp only[go_sem]
 have e1:E 1=aa (i0 / au (cs.drop m)):=by rw[hE];simp only[go_sem,h1']
 have e5:E 5=.own H.next 0 0 cs.length 1:=by rw[hE];simp only[go_sem]
 have e6:E 6=aa ((m:Int) - 1):=by rw[hE];simp only[go_sem,h6]
 clear hE;refine ab _ _ _ (by rfl) ?_;have lN:=ho.live;have clen:(List.replicate m 0++cD (cs.drop m) i0).length=cs.length:=by simp [kB];omega
 by_cases hm0:m=0
 ·subst hm0;have e6':E 6=aa (-1):=e6;simp only[go_sem,e6',e5];refine av.mk ho.ov.next (hK _ _ ho.ov (.inr ⟨H.next,0,Nat.le_refl _,ho.hi,?_,ho.get⟩));rw[aO,kB]
 ·obtain⟨k,rfl⟩:∃ k,m=k+1:=⟨m - 1,by omega⟩
  have e6':E 6=aa k:=by rw[e6];congr 1;omega
  obtain⟨c,hck⟩:=get_of_lt (l:=cs) (i:=k) (by omega);have hne:=aJ hck;have c1:=h1 c (List.mem_of_getElem? hck);have hcz:¬ c=0:=by omega
  have hk0:(k:Int) >= 0:=by omega
  have hkc:(k:Int)<cs.length:=by omega
  have pp:1<=au (cs.drop (k+1)):=iR fun c hc=>h1 c (List.mem_of_mem_drop hc);have q0:0<=i0 / au (cs.drop (k+1)):=Int.ediv_nonneg hi.1 (by omega);have q1:i0 / au (cs.drop (k+1))<=i0:=Int.ediv_le_self _ hi.1;have m1:(i0 / au (cs.drop (k+1))).tmod c=i0 / au (cs.drop (k+1)) % c:=Int.tmod_eq_emod_of_nonneg q0;have m2:(i0 / au (cs.drop (k+1))).tdiv c=i0 / au (cs.drop (k+1)) / c:=Int.tdiv_eq_ediv_of_nonneg q0;have m3:0<=i0 / au (cs.drop (k+1)) / c:=Int.ediv_nonneg q0 (by omega);have m4:i0 / au (cs.drop (k+1)) / c<=i0 / au (cs.drop (k+1)):=Int.ediv_le_self _ q0;have w1:=IntWalk.i64_in ((k:Int) - 1) (by omega);have w2:=IntWalk.i64_in (i0 / au (cs.drop (k+1)) / c) (by omega);simp only[go_sem,e0,e1,e5,e6',hk0,hkc,lN,hck,hne,hcz,m1,m2,w1,w2];refine⟨by rw[<- List.length_append,clen];omega,by have:=ho.hi;rw[aA];omega,⟨k,rfl,by omega,?_,?_⟩,by rw[h6];simp only[aa,aK];omega⟩
  ·have:=ho.store (k:=k) (by rw[clen];omega) (i0 / au (cs.drop (k+1)) % c);rw[show (List.replicate (k+1) (0:Int)++cD (cs.drop (k+1)) i0).set k (i0 / au (cs.drop (k+1)) % c)=List.replicate k 0++cD (cs.drop k) i0 by
    rw[B5 hck,List.replicate_succ',List.append_assoc,List.set_append_right _ _ (by simp)];simp]at this
   exact this
  ·rw[gK hck,fE,Int.mul_comm c,Int.ediv_ediv_of_nonneg (by omega)]
theorem LM (g:Int)(ns:List NodeP)(h8:ns.length<=8)(hc:∀ y∈ns,1<=y.card/\y.card<=4)(i0:Int)(hi:0<=i0/\i0<=4611686018427387904)(H:AHeap)(K:ARes->AHeap->Prop)(hK:∀ v H',Over H H'->aF H.next H' 3 v (ints (cD (ar ns) i0))->K (.ret v) H'):af Try.prog G0 58 [aY g ns,aa i0] H K:=by
 refine af.clo ⟨_,Try.func58,rfl,rfl⟩ fun hcl=>?_;have hcards:∀ c∈ar ns,1<=c/\c<=4:=fun c h=>by
  obtain⟨x,hx,rfl⟩:=List.mem_map.1 h;exact hc x hx
 have sm:dR (ar ns):=mT (by rw[bO];omega) hcards;refine af.bf (n:=9) (rs:=[.tmp 4]) Try.func58 rfl rfl rfl (by decide) (by kernel_rfl) (by simp) ?_;simp only[go_sem,aY,cH];refine aw.clo (pe g ns (by omega) _ _ ⟨trivial,?_⟩);simp only[go_sem];refine aw.clo (LL (ar ns) (fun c h=>(hcards c h).1) sm i0 hi _ _ fun v H2 ov hO=>⟨trivial,?_⟩);have vo:=hO.one;have vc:=hO.cells;simp only[go_sem];have o2:Over H H2:=(Over.ext _ _).trans ov;exact av.mk o2.next (hK _ _ o2 (hO.keep (by simp [bY]) (Nat.le_refl _) fun _ _ _ _ _ _=>rfl))
end Go.Proofs
namespace Go.Hx
variable {P:Program} {G:Nat->Option (List AVal)} {n:Nat} {rd:Option Nat} {Q:AX->St->Prop}
def Ba (P:Program)(G:Nat->Option (List AVal))(f:FuncId)(first cap:List AVal)(xs:List (List AVal))(N:Nat)(S0:AHeap->Prop)(S:Nat->AHeap->Prop):Prop :=
 ∀ (idy:Nat) (J:Nat->AHeap->Prop) (H:AHeap) (K:ARes->AHeap->Prop),H.next=N ->
  (∀ k H1,J k H1->S0 H1)->(∀ k H1 H2,J k H1->ui (N+1) H1 H2->J k H2)->J 0 H ->
  (∀ k x H1 K1,xs[k]?=some x->J k H1->S k H1->N+4<=H1.next->(∀ H',J (k+1) H'->(∀ id,N<=id->id<N+4->H'.get id=H1.get id)->H1.next<=H'.next->K1 (.ret (.lit (.bool true))) H')->aw P G (.yld idy) x H1 K1) ->
  (∀ H',J xs.length H'->N<=H'.next->K (.ret (.tup [])) H') ->
  af P G f (first++[.yld idy]++cap) H K
theorem W.Bc {g:Operand}{ps:Array Tmp}{asg body:Code}{ρ:Env}{H:AHeap}{f:FuncId}{first cap:List AVal}{xs:List (List AVal)}{S0:AHeap->Prop}{S:Nat->AHeap->Prop}(hg:aj G ρ g=.clo f first cap)
  (hit:Ba P G f first cap xs (H.next+1) S0 S) (J:Nat->AHeap->Prop) (hS:∀ k H1,J k H1->S0 H1) (hJw:∀ k H1 H2,J k H1->ui (H.next+2) H1 H2->J k H2) (hlow:∀ k H1,J k H1->H.next<H1.next)
  (hJu:∀ k H1 b,J k H1->J k (H1.upd H.next b))
  (hJ0:∀ b,J 0 (ext H [b])) (hps:ps.toList.all (fun t=>decide (t<n))=true) (hxl:∀ x∈xs,x.length=ps.size)
  (hrd:∀ k H1,J k H1->dY H1 rd)
  (hround:∀ k x H1 B Bb,xs[k]?=some x->J k H1->S k H1->H.next+5<=H1.next->H1.get H.next=some B->(∃ st pd n' en ps' as' bo,Bb=Blk.loop st pd n' en ps' as' bo) ->
   W P G n (some H.next) asg (qT P G n H.next B Bb H1.next body (fun H'=>J (k+1) H'/\∀ id,H.next+1<=id->id<H.next+5->H'.get id=H1.get id) fun _ _=>False) ⟨km (de ρ n) (ps.toList.zip x),H1⟩)
  (hend:∀ H',J xs.length H'->H.next+1<=H'.next->Q .normal ⟨ρ,H'⟩):
  W P G n rd (.rangeFunc g ps asg body) Q ⟨ρ,H⟩:=by
 refine W.rangeFunc (s:=⟨ρ,H⟩) hg ⟨_,rJ _ _,?_⟩;obtain⟨B,hB⟩:∃ B,B=Blk.loop .ready none n ρ ps asg body:=⟨_,rfl⟩
 obtain⟨Bb,hBb⟩:∃ B,B=Blk.loop .busy none n ρ ps asg body:=⟨_,rfl⟩
 have nx:(ext H [B]).next=H.next+1:=rfl;show af P G f (first++[.yld H.next]++cap) (ext H [Blk.loop .ready none n ρ ps asg body]) (rU rd Q ρ H.next);rw[<- hB];refine hit H.next (fun k H1=>H1.get H.next=some B/\J k H1) _ _ nx
  (fun k H1 h=>hS k H1 h.2) (fun k H1 H2 h hw=>⟨(hw.2 _ (by omega) (hlow _ _ h.2)).trans h.1,hJw _ _ _ h.2 hw⟩) ⟨cP,hJ0 B⟩ (fun k x H1 K1 hx hj hs hn hgo=>?_) (fun H' hj hn=>?_)
 ·have hxm:=hxl x (List.mem_of_getElem? hx);refine aw.yld (hj.1.trans (congrArg some hB)) hxm hps ?_;refine(hround k x H1 B Bb hx hj.2 hs (by omega) hj.1 ⟨_,_,_,_,_,_,_,hBb⟩).mono fun e s1 h1=>?_;cases e with
  | normal =>
   obtain⟨a1,a2⟩:=h1;refine⟨Bb,by rw[a1,hB,hBb];rfl,?_⟩;refine a2.mono fun e2 s2 h2=>?_;cases e2 with
   | normal =>
    obtain⟨b1,b2,b3,b4⟩:=h2;exact⟨B,by rw[b1,hB,hBb];rfl,hgo _ ⟨by rw[ag,if_pos rfl],hJu _ _ _ b3⟩ (fun id i1 i2=>by rw[ag,if_neg (by omega)];exact b4 id i1 (by omega)) b2⟩
   | ret=>exact h2.2.2.elim
   | exit i=>exact h2.2.2.elim
   | _=>exact h2.elim
  | _=>exact h1.elim
 ·refine⟨hrd _ _ hj.2,(none,.loop .exhausted none n ρ ps asg body),by rw[hj.1,hB];rfl,?_⟩;exact hend _ (hJu _ _ _ hj.2) hn
end Go.Hx
namespace Go.Proofs
open Go.Hx
def fZ:List Int->List (List Int)
 | []=>[[]]
 | c :: cs=>(List.range c.toNat).flatMap fun (a:Nat)=>(fZ cs).map fun w=>(a:Int) :: w
theorem KV {cs:List Int}(h:∀ c∈cs,1<=c)(a i:Int):cD cs (a*au cs+i)=cD cs i:=by
 induction cs generalizing a with
 | nil=>rfl
 | cons c cs ih =>
  have h1:=iR (l:=cs) fun x hx=>h x (by simp [hx]);have hc:=h c (by simp);have e:a*au (c :: cs)+i=i+a*c*au cs:=by rw[fE];simp only[Int.mul_assoc,Int.add_comm]
  show _ :: _=_ :: _;rw[e,Int.add_mul_ediv_right _ _ (by omega),Int.add_mul_emod_self_right];congr 1;rw[Int.add_comm];exact ih (fun x hx=>h x (by simp [hx])) _
theorem KW (m:Nat):∀ c:Nat,List.range (c*m)=(List.range c).flatMap fun a=>(List.range m).map fun j=>a*m+j:=by
 intro c
 induction c with
 | zero=>simp
 | succ c ih=>rw[Nat.add_mul,Nat.one_mul,List.range_add,ih,List.range_succ,List.flatMap_append];simp
theorem tp {cs:List Int}(h:∀ c∈cs,1<=c):fZ cs=(List.range (au cs).toNat).map fun (i:Nat)=>cD cs i:=by
 induction cs with
 | nil=>rfl
 | cons c cs ih =>
  have hr:∀ x∈cs,1<=x:=fun x hx=>h x (by simp [hx]);have hm:=iR hr;have hc:=h c (by simp);obtain⟨m,e⟩:∃ m:Nat,au cs=m:=⟨(au cs).toNat,by omega⟩
  obtain⟨k,ek⟩:∃ k:Nat,c=k:=⟨c.toNat,by omega⟩
  have e2:(au (c :: cs)).toNat=k*m:=by rw[fE,e,ek];exact Int.toNat_natCast (k*m)
  rw[e2,KW,List.map_flatMap];unfold fZ;rw[ek,Int.toNat_natCast,ih hr,e,Int.toNat_natCast];rw[List.flatMap_def,List.flatMap_def];congr 1;refine List.map_congr_left fun a ha=>?_;rw[List.map_map,List.map_map];refine List.map_congr_left fun j hj=>?_;have ha':=List.mem_range.1 ha;have hj':=List.mem_range.1 hj;have hv:=KV hr (a:Int) (j:Int);rw[e]at hv;show _=_ :: _;rw[e];have e3:((a*m+j:Nat):Int)=a*m+j:=by simp
  rw[e3,hv];have e4:((a:Int)*m+j) / (m:Int) % (k:Int)=a:=by rw[Int.add_comm,Int.add_mul_ediv_right _ _ (by omega),Int.ediv_eq_zero_of_lt (by omega) (by omega),Int.zero_add,Int.emod_eq_of_lt (by omega) (by omega)]
  rw[e4];rfl
theorem wU {cs:List Int}(h:∀ c∈cs,1<=c){w:List Int}(hw:w∈fZ cs):cE cs w:=by
 rw[tp h]at hw;obtain⟨i,_,rfl⟩:=List.mem_map.1 hw;exact tM h _
def gG:List Int->List Int->Bool
 | x :: r,y :: vs=>(decide (x<0) || decide (x=y)) && gG r vs
 | _,_=>true
def cZ:List Int->List Int->List (List Int)
 | [],_=>[[]]
 | c :: cs,r=>(List.range c.toNat).flatMap fun (a:Nat)=>if r.headD (-1)<0\/r.headD (-1)=(a:Int) then (cZ cs r.tail).map fun w=>(a:Int) :: w else []
theorem tq:∀ {cs r:List Int},r.length=cs.length->cZ cs r=(fZ cs).filter (gG r):=by
 intro cs
 induction cs with
 | nil=>intro r h;cases r with
  | nil=>rfl
  | cons _ _=>simp at h
 | cons c cs ih =>
  intro r h;cases r with
  | nil=>simp at h
  | cons x r =>
   unfold cZ fZ;rw[List.filter_flatMap,List.flatMap_def,List.flatMap_def];congr 1;refine List.map_congr_left fun a _=>?_;rw[List.filter_map];by_cases hx:x<0\/x=(a:Int)
   ·rw[if_pos (by simpa using hx)];have:(gG (x :: r) ∘ fun w=>(a:Int) :: w)=gG r:=by
     funext w
     show (_ && _)=_;have:(decide (x<0) || decide (x=(a:Int)))=true:=(by simpa using hx);rw[this];rfl
    rw[this,<- ih (by simpa using h)];rfl
   ·rw[if_neg (by simpa using hx)];have:(gG (x :: r) ∘ fun w=>(a:Int) :: w)=fun _=>false:=by
     funext w
     show (_ && _)=_;have:(decide (x<0) || decide (x=(a:Int)))=false:=(by simpa using hx);rw[this];rfl
    rw[this];simp
theorem KX (l l':List Int):(l++l').sum=l.sum+l'.sum:=List.sum_append
theorem KY {α:Type}(f:List Int->Int)(l:List α)(g:α->List (List Int)):((l.flatMap g).map f).sum=(l.map fun a=>((g a).map f).sum).sum:=by
 induction l with
 | nil=>rfl
 | cons a l ih=>rw[List.flatMap_cons,List.map_append,KX,ih];rfl
theorem wV {α:Type}(c:Int)(f:α->Int)(l:List α):(l.map fun a=>c*f a).sum=c*(l.map f).sum:=by
 induction l with
 | nil=>simp
 | cons a l ih=>simp only[List.map_cons,List.sum_cons,ih,Int.mul_add]
theorem KZ {α:Type}(f g:α->Int)(l:List α):(l.map fun a=>f a+g a).sum=(l.map f).sum+(l.map g).sum:=by
 induction l with
 | nil=>simp
 | cons a l ih=>simp only[List.map_cons,List.sum_cons,ih];omega
theorem K0 {α β:Type}(f:α->β->Int)(l:List α)(m:List β):(l.map fun a=>(m.map fun b=>f a b).sum).sum=(m.map fun b=>(l.map fun a=>f a b).sum).sum:=by
 induction l with
 | nil=>simp only[List.map_nil,List.sum_nil];induction m with
  | nil=>rfl
  | cons b m ih=>rw[List.map_cons,List.sum_cons,<- ih];rfl
 | cons a l ih=>simp only[List.map_cons,List.sum_cons,ih,KZ]
theorem A4 {α:Type}(c:Int)(l:List α):(l.map fun _=>c).sum=l.length*c:=by
 induction l with
 | nil=>simp
 | cons a l ih=>simp only[List.map_cons,List.sum_cons,ih,List.length_cons];rw[show ((l.length+1:Nat):Int)=l.length+1 from rfl,Int.add_mul];omega
theorem mz {α:Type}{f g:α->Int}{l:List α}(h:∀ a∈l,f a=g a):(l.map f).sum=(l.map g).sum:=by rw[List.map_congr_left h]
theorem all_cons (c:Int)(cs:List Int)(f:List Int->Int):((fZ (c :: cs)).map f).sum=((List.range c.toNat).map fun (a:Nat)=>((fZ cs).map fun w=>f ((a:Int) :: w)).sum).sum:=by
 show (((List.range c.toNat).flatMap _).map f).sum=_;rw[KY];refine mz fun a _=>?_;rw[List.map_map];rfl
theorem K2:∀ {cs:List Int} {v:Nat} {c:Int},(∀ c∈cs,1<=c)->cs[v]?=some c->∀ f:List Int->Int,
  ((fZ cs).map fun w=>((List.range c.toNat).map fun (a:Nat)=>f (w.set v (a:Int))).sum).sum=c*((fZ cs).map f).sum:=by
 intro cs
 induction cs with
 | nil=>intro v c _ h;simp at h
 | cons d cs ih =>
  intro v c h1 h f;rw[all_cons,all_cons];cases v with
  | zero =>
   simp only[List.getElem?_cons_zero,Option.some.injEq]at h;subst h;simp only[List.set_cons_zero];rw[A4,List.length_range,Int.toNat_of_nonneg (by have:=h1 d (by simp);omega)];congr 1;exact K0 _ _ _
  | succ v =>
   simp only[List.set_cons_succ];rw[<- wV];refine mz fun a _=>?_;exact ih (fun x hx=>h1 x (by simp [hx])) (by simpa using h) fun w=>f ((a:Int) :: w)
def dx (n:Nat)(D:Nat->Bool)(f:Nat->Int):Int:=au ((List.range n).map fun v=>if D v then f v else 1)
theorem tt (n:Nat)(D:Nat->Bool)(f:Nat->Int):dx (n+1) D f=dx n D f*(if D n then f n else 1):=by
 unfold dx;rw[List.range_succ,List.map_append,tL];simp [fE,fj]
theorem tu {D D':Nat->Bool}{v:Nat}(f:Nat->Int)(h0:D v=false)(h1:D' v=true)(he:∀ i,i≠v->D' i=D i):∀ n,dx n D' f=if v<n then dx n D f*f v else dx n D f:=by
 intro n
 induction n with
 | zero=>rfl
 | succ n ih =>
  rw[tt,tt,ih];rcases Nat.lt_trichotomy v n with h|h|h
  ·rw[if_pos h,if_pos (show v<n+1 by omega),he n (by omega)];simp only[Int.mul_assoc,Int.mul_comm (f v)]
  ·subst h;rw[if_neg (show ¬ v<v by omega),if_pos (show v<v+1 by omega),h1,h0];simp
  ·rw[if_neg (show ¬ v<n by omega),if_neg (show ¬ v<n+1 by omega),he n (by omega)]
theorem K3 {n:Nat}{D:Nat->Bool}{f g:Nat->Int}(h:∀ v,v<n->D v=true->f v=g v):dx n D f=dx n D g:=by
 unfold dx;congr 1;refine List.map_congr_left fun v hv=>?_;split
 ·rename_i hd;exact h v (List.mem_range.1 hv) hd
 ·rfl
theorem A5 (n:Nat)(f:Nat->Int):dx n (fun _=>false) f=1:=by
 induction n with
 | zero=>rfl
 | succ n ih=>rw[tt,ih];simp
theorem wW {n:Nat}{D:Nat->Bool}(h:∀ v,v<n->D v=true)(f:Nat->Int):dx n D f=au ((List.range n).map f):=by
 unfold dx;congr 1;exact List.map_congr_left fun v hv=>by rw[h v (List.mem_range.1 hv)];rfl
theorem wX (l:List Int):((List.range l.length).map fun i=>l.getD i 0).sum=l.sum:=by
 induction l with
 | nil=>rfl
 | cons a l ih=>rw[List.length_cons,List.range_succ_eq_map,List.map_cons,List.map_map,List.sum_cons,List.sum_cons,<- ih];rfl
theorem K4 (n:Nat)(g:Int):au ((List.range n).map fun _=>g)=g ^ n:=by
 induction n with
 | zero=>simp [fj]
 | succ n ih=>rw[List.range_succ,List.map_append,tL,ih,Int.pow_succ];simp [fE,fj]
theorem A6 {w ps:List Int}{v:Nat}{a:Int}(h:∀ p∈ps,p.toNat≠v):aS (w.set v a) ps=aS w ps:=by
 unfold aS;refine List.map_congr_left fun p hp=>?_;rw[List.getD_eq_getElem?_getD,List.getD_eq_getElem?_getD,List.getElem?_set_ne (Ne.symm (h p hp))]
theorem A7 {g:Int}{ns:List NodeP}(h:NetOk g ns){x:NodeP}(hx:x∈ns){w:List Int}(hw:cE (ar ns) w):∃ r,x.rows[(dp (aR ns x) (aS w x.parents)).toNat]?=some r:=by
 have hp:=(h.node x hx).2.2;have hf:cE (aR ns x) (aS w x.parents):=⟨by simp [aR,aS],fun k c b h1 h2=>by
  unfold aR aS at h1;unfold aS at h2;rw[List.getElem?_map]at h1 h2;cases hq:x.parents[k]? with
  | none=>rw[hq]at h1;cases h1
  | some q =>
   rw[hq]at h1 h2;have hr:=hp q (List.mem_of_getElem? hq);obtain⟨j,rfl,y,hy⟩:=mJ (l:=ns) hr.1 hr.2;obtain⟨b',hb⟩:=get_of_lt (l:=w) (i:=j) (by rw[hw.1];have:=get_lt hy;simpa [ar] using this);simp only[Option.map_some,Option.some.injEq,Int.toNat_natCast]at h1 h2;rw[bE (cI hy)]at h1;rw[bE hb]at h2;rw[<- h1,<- h2];exact hw.2 j y.card b' (cI hy) hb⟩
 have hr:=mL hf;have hl:=(h.rows x hx).1;exact get_of_lt (by omega)
def ll (g:Int)(ns:List NodeP)(D:Nat->Bool):Prop :=
 dx ns.length D (fun v=>(ar ns).getD v 0)*((fZ (ar ns)).map fun w=>dx ns.length D (fH ns w)).sum=dx ns.length D (fun _=>g)*au (ar ns)
theorem K5 (cs:List Int)(h:∀ c∈cs,1<=c):((fZ cs).map fun _=>(1:Int)).sum=au cs:=by
 rw[A4,tp h];have:=iR h;simp;omega
theorem gf {g:Int}{ns:List NodeP}(h:NetOk g ns):∀ c∈ar ns,1<=c:=fun c hc=>by
 unfold ar at hc;obtain⟨x,hx,rfl⟩:=List.mem_map.1 hc;exact(h.node x hx).1.1
theorem K6 {g:Int}{ns:List NodeP}(h:NetOk g ns){D D':Nat->Bool}{v:Nat}(hv:v<ns.length)(h0:D v=false)(h1:D' v=true)(he:∀ i,i≠v->D' i=D i)
  (hcl:∀ (u:Nat) (x:NodeP),D u=true->ns[u]?=some x->∀ p∈x.parents,D p.toNat=true) (hpa:∀ x,ns[v]?=some x->∀ p∈x.parents,D p.toNat=true) (hs:ll g ns D):ll g ns D':=by
 obtain⟨x,hx⟩:=get_of_lt hv;have hxm:=List.mem_of_getElem? hx;have hc:=cI hx;have hc1:=gf h;unfold ll at hs ⊢;have key:x.card*((fZ (ar ns)).map fun w=>dx ns.length D' (fH ns w)).sum=g*((fZ (ar ns)).map fun w=>dx ns.length D (fH ns w)).sum:=by
  rw[<- K2 hc1 hc,<- wV];refine mz fun w hw=>?_;have hf:=wU hc1 hw;have hl:w.length=ns.length:=by rw[hf.1];simp [ar]
  have e1:∀ a:Nat,dx ns.length D' (fH ns (w.set v (a:Int)))=dx ns.length D (fH ns w)*(gL ns x w).getD a 0:=fun a=>by
   rw[tu _ h0 h1 he,if_pos hv];congr 1
   ·refine K3 fun u hu hd=>?_;obtain⟨y,hy⟩:=get_of_lt hu;have huv:v≠u:=fun e=>by rw[e,hd]at h0;cases h0
    unfold fH gL;rw[hy];dsimp only;rw[A6 fun p hp e=>by have:=hcl u y hd hy p hp;rw[e,h0]at this;cases this];simp only[List.getD_eq_getElem?_getD,List.getElem?_set_ne huv]
   ·unfold fH gL;rw[hx];dsimp only;rw[A6 fun p hp e=>by have:=hpa x hx p hp;rw[e,h0]at this;cases this];congr 1;simp only[List.getD_eq_getElem?_getD,List.getElem?_set_self (show v<w.length by omega)];rfl
  rw[mz fun a _=>e1 a,wV,Int.mul_comm g];congr 1;obtain⟨r,hr⟩:=A7 h hxm hf;have hrow:gL ns x w=r:=by unfold gL;rw[bE hr]
  have ho:=(h.rows x hxm).2 r (List.mem_of_getElem? hr);rw[hrow,show x.card.toNat=r.length by have:=ho.1;omega,wX];exact ho.2.2
 rw[tu _ h0 h1 he,tu (fun _=>g) h0 h1 he,if_pos hv,if_pos hv,bE hc,Int.mul_assoc,key,<- Int.mul_assoc,Int.mul_right_comm,hs];simp only[Int.mul_assoc,Int.mul_comm g]
theorem qu (ns:List NodeP):(bt ns).length=ns.length:=by simp [bt]
theorem rP {n s:Nat}(h:n<=cQ n s):∀ v,v<n->s.testBit v=true:=by
 have hl:=xL n s;have e:(List.range n).countP (fun i=>s.testBit i)=(List.range n).length:=by rw[List.length_range];exact Nat.le_antisymm hl h
 exact fun v hv=>List.countP_eq_length.1 e v (List.mem_range.2 hv)
theorem K7 {g:Int}{ns:List NodeP}(h:NetOk g ns):∀ (k:Nat) (out:List Nat) (done:Nat) (r:List Nat),ju (bt ns) k out done=some r->ns.length<=k+cQ ns.length done ->
  (∀ (u:Nat) (x:NodeP),done.testBit u=true->ns[u]?=some x->∀ p∈x.parents,done.testBit p.toNat=true)->ll g ns (fun v=>done.testBit v)->ll g ns fun _=>true:=by
 have hp64:∀ p∈bt ns,p<2 ^ 64:=fun p hp=>ub (n:=64) (fun x hx q hq=>by have:=(h.node x hx).2.2 q hq;have:=h.n1;omega) p hp;intro k
 induction k with
 | zero =>
  intro out done r _ hc _ hs;have hf:=rP (n:=ns.length) (s:=done) (by omega);unfold ll at hs ⊢;have e:∀ f,dx ns.length (fun v=>done.testBit v) f=dx ns.length (fun _=>true) f:=fun f=>by
   rw[wW hf,wW fun _ _=>rfl]
  rw[e,e,mz fun w _=>e (fH ns w)]at hs;exact hs
 | succ k ih =>
  intro out done r hr hc hcl hs;unfold ju at hr;cases hn:kC (bt ns) done with
  | none=>rw[hn]at hr;cases hr
  | some v =>
   rw[hn]at hr;obtain⟨h1,h2,h3⟩:=xM hp64 hn;rw[qu]at h1;obtain⟨y,hy⟩:=get_of_lt h1;have hpa:∀ x,ns[v]?=some x->∀ p∈x.parents,done.testBit p.toNat=true:=fun x hx p hp=>by
    rw[bE (mS hx)]at h3;refine h3 _ ?_;have hpos:=fun q hq=>((h.node x (List.mem_of_getElem? hx)).2.2 q hq).1;rw[lI hpos];exact decide_eq_true (by rw[Int.toNat_of_nonneg (hpos p hp)];exact hp)
   refine ih _ _ r hr ?_ ?_ (K6 h h1 h2 (D':=fun i=>(done ||| 2 ^ v).testBit i) ?_ (fun i hi=>?_) hcl hpa hs)
   ·have:=oV (n:=ns.length) (.left done (2 ^ v)) h1 h2 (by rw[iS];simp);omega
   ·intro u x hu hx p hp;rw[iS]at hu ⊢;rw[Bool.or_eq_true]at hu ⊢;left;rcases hu with hu|hu
    ·exact hcl u x hu hx p hp
    ·have:v=u:=of_decide_eq_true hu;subst this;exact hpa x hx p hp
   ·show (done ||| 2 ^ v).testBit v=true;rw[iS];simp
   ·show (done ||| 2 ^ v).testBit i=done.testBit i;rw[iS,decide_eq_false (fun e=>hi e.symm),Bool.or_false]
theorem A8 (ns:List NodeP):au ((List.range ns.length).map fun v=>(ar ns).getD v 0)=au (ar ns):=by
 congr 1;refine List.ext_getElem? fun i=>?_;rw[List.getElem?_map];rcases Nat.lt_or_ge i ns.length with h|h
 ·obtain⟨x,hx⟩:=get_of_lt h;rw[List.getElem?_range h,cI hx];show some ((ar ns).getD i 0)=_;rw[bE (cI hx)]
 ·rw[List.getElem?_eq_none (by simpa using h),List.getElem?_eq_none (by simpa [ar] using h)];rfl
theorem K8 {g:Int}{ns:List NodeP}(h:NetOk g ns):((fZ (ar ns)).map (weight ns)).sum=g ^ ns.length:=by
 have hc:=gf h;have hp:=iR hc;have h8:=h.n1;have hps:∀ p∈bt ns,p<2 ^ (bt ns).length:=fun p hp=>by
  rw[qu];exact ub (n:=ns.length) (fun x hx q hq=>(h.node x hx).2.2 q hq) p hp
 have ht:=(Cc hps (by rw[qu];omega)).2 h.acyc;obtain⟨r,hr⟩:=Option.isSome_iff_exists.1 ht;unfold eU at hr;rw[qu]at hr;have hs:=K7 h _ _ _ r hr (by omega) (fun u x hu=>by rw[Nat.zero_testBit]at hu;cases hu) (by
  unfold ll;have e:∀ f,dx ns.length (fun v=>(0:Nat).testBit v) f=1:=fun f=>by
   rw[show (fun v=>(0:Nat).testBit v)=fun _=>false from funext fun v=>Nat.zero_testBit v,A5]
  rw[e,e,mz fun w _=>e (fH ns w),K5 _ hc])
 unfold ll at hs;have e:∀ f,dx ns.length (fun _=>true) f=au ((List.range ns.length).map f):=fun f=>wW (fun _ _=>rfl) f;rw[e,e,A8,K4,mz fun w _=>e (fH ns w)]at hs;rw[Int.mul_comm]at hs;exact Int.eq_of_mul_eq_mul_right (by omega) hs
theorem K9 {g:Int}{ns:List NodeP}(h:NetOk g ns){w:List Int}(hw:cE (ar ns) w)(v:Nat):0<=fH ns w v/\(v<ns.length->fH ns w v<=60):=by
 unfold fH;cases hx:ns[v]? with
 | none=>exact⟨show (0:Int)<=1 by decide,fun h=>by obtain⟨x,h⟩:=get_of_lt h;rw[hx]at h;cases h⟩
 | some x =>
  have hxm:=List.mem_of_getElem? hx;obtain⟨r,hr⟩:=A7 h hxm hw;have hrow:gL ns x w=r:=by unfold gL;rw[bE hr]
  have ho:=(h.rows x hxm).2 r (List.mem_of_getElem? hr);have hg:=h.g1;show 0<=(gL ns x w).getD (w.getD v 0).toNat 0/\(_->(gL ns x w).getD (w.getD v 0).toNat 0<=60)
  rw[hrow,List.getD_eq_getElem?_getD];cases hy:r[(w.getD v 0).toNat]? with
  | none=>exact⟨by simp,by simp⟩
  | some y=>have:=ho.2.1 y (List.mem_of_getElem? hy);exact⟨by simp;omega,fun _=>by simp;omega⟩
theorem A9 {g:Int}{ns:List NodeP}(h:NetOk g ns){w:List Int}(hw:cE (ar ns) w):0<=weight ns w/\weight ns w<=60 ^ ns.length:=by
 have:=mK (b:=60) (l:=eI ns w) (by decide) fun y hy=>by
  unfold eI at hy;obtain⟨v,hv,rfl⟩:=List.mem_map.1 hy;have:=K9 h hw v;exact⟨this.1,this.2 (List.mem_range.1 hv)⟩
 rw[qF]at this;exact this
set_option maxHeartbeats 1000000 in
theorem Ps (g:Int)(ns:List NodeP)(h:NetOk g ns)(vals:List Int)(hf:cE (ar ns) vals)(v:Nat)(x:NodeP)(hx:ns[v]?=some x)(H:AHeap)(K:ARes->AHeap->Prop)(hK:K (.ret (ae (gL ns x vals))) H):af Try.prog G0 91 [aY g ns,aa v,ae vals] H K:=by
 refine af.clo ⟨_,Try.func91,rfl,rfl⟩ fun hcl=>?_;have n8:=h.n1;have hxm:=List.mem_of_getElem? hx;have hin:gp x.parents ns.length:=fun q hq=>by have:=(h.node x hxm).2.2 q hq;omega
 have sm:=pf n8.2 (h.node x hxm).2 fun y hy=>(h.node y hy).1;have pl:(aR ns x).length=x.parents.length:=gO _ _;have p12:=sm.1;have hfp:=o9 hin hf;obtain⟨i,r,a,w,hR⟩:=t9 h hx hf;have hne:=eS hx;have e1:=lH hx;have e2:=oT hx;have hv:(v:Int)<ns.length:=by have:=get_lt hx;omega
 have hvl:vals.length=ns.length:=by rw[hf.1,bO]
 have hri:=hR.row;have hrne:=aJ hri;have hrl:(i:Int)<x.rows.length:=by have:=get_lt hri;omega
 have hidx:=hR.idx;rw[hR.rv]at hK;have hin':∀ q∈x.parents,0<=q/\q<(vals.length:Int):=fun q hq=>by rw[hvl];exact hin q hq
 refine af.bf (n:=27) (rs:=[.tmp 6]) Try.func91 rfl rfl rfl (by decide) (by kernel_rfl) (by simp) ?_;simp only[go_sem,aY,cH];refine W.draw 18 [0,1,0,7,15,31,0,0,192,0,0,1024,0,7168,15360,31744,65472,131008] Try.mixed (by kernel_rfl) (by kernel_rfl) ?_;simp only[go_sem,hv,hne,e1,e2];refine⟨ae (aR ns x),[],dI.pure (fun H2=>x7 g ns v x hx (by omega) (by omega) hin H2 _ ⟨rfl,rfl⟩),?_⟩;simp only[go_sem];refine⟨ae (aS vals x.parents),[],dI.pure (fun H2=>x6 vals x.parents (by omega) (by omega) hin' H2 _ ⟨rfl,rfl⟩),?_⟩;simp only[go_sem];refine⟨aa i,[],dI.pure (fun H2=>CJ (aR ns x) (aS vals x.parents) sm hfp H2 _ ⟨by rw[hidx],rfl⟩),?_⟩;simp only[go_sem,hrl,aC,hri,hrne];exact av.drop aP hcl (.dw _) hK
set_option maxHeartbeats 1000000 in
theorem CI (g:Int)(ns:List NodeP)(h:NetOk g ns)(i0:Int)(hi:0<=i0/\i0<=4611686018427387904)(H:AHeap)(K:ARes->AHeap->Prop)(hK:K (.ret (aa (weight ns (cD (ar ns) i0)))) H):af Try.prog G0 72 [aY g ns,aa i0] H K:=by
 refine af.clo ⟨_,Try.func72,rfl,rfl⟩ fun hcl=>?_;have n8:=h.n1;have hcards:∀ c∈ar ns,1<=c/\c<=4:=fun c hc=>by
  obtain⟨x,hx,rfl⟩:=List.mem_map.1 hc;exact(h.node x hx).1
 refine af.bf (n:=31) (rs:=[.tmp 4]) Try.func72 rfl rfl rfl (by decide) (by kernel_rfl) (by simp) ?_;simp only[go_sem,aY,cH];obtain⟨H1,hH1⟩:∃ H1,H1=ext H [.arr 0 35 [.lit (.int .i64 g),.vec ns.length (az ns)]]:=⟨_,rfl⟩
 have l1:H1.live H.next 0=some (35,[.lit (.int .i64 g),.vec ns.length (az ns)]):=by rw[hH1];exact ak (cS ..)
 have o1:Over H H1:=by rw[hH1];exact .ext _ _
 rw[<- hH1];refine aw.clo (xW g ns n8.2 (fun y hy=>(h.node y hy).1) i0 hi _ _ ⟨trivial,?_⟩);obtain⟨vals,hvals⟩:∃ vals,vals=cD (ar ns) i0:=⟨_,rfl⟩
 have hfit:cE (ar ns) vals:=by rw[hvals];exact tM (fun c hc=>(hcards c hc).1) _
 have hvl:vals.length=ns.length:=by rw[hfit.1,bO]
 rw[<- hvals]at hK ⊢;simp only[go_sem];refine W.aI 1073739968 (by rfl) (fun ρ H'=>H'=H1/\∃ v:Nat,ρ 7=aa v/\v<=ns.length/\ρ 6=aa (au ((eI ns vals).take v))) (fun ρ H=>ns.length - (iv (ρ 7)).toNat) ?_ ?_
 ·simp only[go_sem];exact⟨0,rfl,by omega,by simp [fj]⟩
 rintro ρ H' ⟨rfl,v,h7,hv,h6⟩;refine W.env fun E hE=>?_;have e2:E 2=.ptr H.next 0 0:=by rw[hE];simp only[go_sem]
 have e5:E 5=ae vals:=by rw[hE];simp only[go_sem]
 have e6:E 6=aa (au ((eI ns vals).take v)):=by rw[hE];simp only[go_sem,h6]
 have e7:E 7=aa v:=by rw[hE];simp only[go_sem,h7]
 clear hE;refine ab _ _ _ (by rfl) ?_;by_cases hb:(v:Int)<ns.length
 ·obtain⟨x,hx⟩:=get_of_lt (l:=ns) (i:=v) (by omega);obtain⟨i,r,a,w,hR⟩:=t9 h hx hfit;obtain⟨a',rfl⟩:=Int.eq_ofNat_of_zero_le hR.a0;have hva:=hR.val;have hvne:=aJ hva;have hvv:(v:Int)<vals.length:=by omega
  have hra:r[a']?=some w:=by have:=hR.hw;rw[Int.toNat_natCast]at this;exact this
  have hrane:=aJ hra;have hal:=hR.al;have wt:=xY h hfit (v+1);rw[aL (tS (vals:=vals) (v:=v) (by omega)),fR,hR.eq]at wt;have w1:=IntWalk.i64_in ((v:Int)+1) (by omega);have w2:=IntWalk.i64_in (au ((eI ns vals).take v)*w) (by omega);simp only[go_sem,l1,e2,e7,hb];refine W.draw 11 [0,0,0,0,14,0,0,96,224,510,1022] Try.mixed (by kernel_rfl) (by kernel_rfl) ?_;simp only[go_sem,l1,e2,e5,e6,e7];refine⟨ae r,[],dI.pure (fun H2=>Ps g ns h vals hfit v x hx H2 _ ⟨by rw[hR.rv],rfl⟩),?_⟩;simp only[go_sem,e2,e5,e6,e7,hva,hvne,hvv,hra,hrane,hal,w1,w2];refine⟨⟨v+1,rfl,by omega,?_⟩,by rw[h7];simp only[aa,aK];omega⟩;rw[aL (tS (vals:=vals) (v:=v) (by omega)),fR,hR.eq]
 ·have e:v=ns.length:=by omega
  subst e;simp only[go_sem,l1,e2,e6,e7,hb];rw[List.take_of_length_le (by rw[qF];omega)];exact av.bI aP hcl o1 (.lit _) hK
def cB (cs:List Int)(xs:List (List Int)):AVal:=.agg [ae cs,aC xs]
def qC (cs r:List Int):Prop:=r.length=cs.length/\∀ (v:Nat) (c x:Int),cs[v]?=some c->r[v]?=some x->-1<=x/\x<c
structure DataOk (cs:List Int)(xs:List (List Int)):Prop where
 c1:1<=cs.length/\cs.length<=6
 x1:xs.length<=40
 card:∀ c∈cs,2<=c/\c<=4
 size:au cs<=1024
 row:∀ r∈xs,qC cs r
noncomputable def iQ (cs:List Int)(xs:List (List Int)):Bool:=@decide (DataOk cs xs) (Classical.propDecidable _)
theorem BG {cs:List Int}{xs:List (List Int)}(h:DataOk cs xs):iQ cs xs=true:=by unfold iQ;exact @decide_eq_true _ (Classical.propDecidable _) h
theorem BH {cs:List Int}{xs:List (List Int)}(h:¬ DataOk cs xs):iQ cs xs=false:=by unfold iQ;exact @decide_eq_false _ (Classical.propDecidable _) h
theorem My {cs:List Int}{xs:List (List Int)}:iQ cs xs=true↔DataOk cs xs:=by unfold iQ;exact @decide_eq_true_iff _ (Classical.propDecidable _)
def kz (cs:List Int)(xs:List (List Int)):Prop:=(cs.length:Int)<2 ^ 38/\(xs.length:Int)<2 ^ 38/\∀ r∈xs,(r.length:Int)<2 ^ 38
theorem lu {xs:List (List Int)}{k:Nat}{r:List Int}(h:xs[k]?=some r):(xs.map ae)[k]?=some (.vec r.length (ints r)):=by rw[List.getElem?_map,h];rfl
theorem BI {l:List Int}(h:∀ c∈l,2<=c/\c<=4)(hl:l.length<=6):1<=au l/\au l<=4096:=by
 have h1:=mK (b:=4) (by omega) (l:=l) fun x hx=>by have:=h x hx;omega
 have h2:=iR (l:=l) fun x hx=>by have:=h x hx;omega
 have h3:(4:Nat) ^ l.length<=4 ^ 6:=Nat.pow_le_pow_right (by decide) hl;have h4:((4:Int) ^ l.length)<=4 ^ 6:=by exact_mod_cast h3
 have:(4:Int) ^ 6=4096:=by decide
 omega
theorem qC.of {cs r:List Int}(hl:r.length=cs.length)(h:∀ (v:Nat) (c x:Int),v<r.length->cs[v]?=some c->r[v]?=some x->-1<=x/\x<c):qC cs r:=⟨hl,fun v c x h1 h2=>h v c x (get_lt h2) h1 h2⟩
def wY (g:Int)(ns:List NodeP)(r:List Int):List AVal:=[aa g,.vec ns.length (az ns),ae r]
theorem Bd {cs vs:List Int}(hf:cE cs vs)(hs:dR cs)(k:Nat):0<=fF (cs.take k) (vs.take k)/\fF (cs.take k) (vs.take k)<68719476737:=by
 have ft:cE (cs.take k) (vs.take k):=⟨by simp [hf.1],fun i c b h1 h2=>by
  rw[List.getElem?_take]at h1 h2;split at h1
  ·rename_i hik;rw[if_pos hik]at h2;exact hf.2 i c b h1 h2
  ·cases h1⟩
 rw[tO ft.1];have a:=mL ft;have b:=(hs.take k).prod;omega
theorem Be {ns:List NodeP}{x:NodeP}{vals:List Int}(hin:gp x.parents ns.length)(hf:cE (ar ns) vals){k:Nat}{q:Int}(hq:x.parents[k]?=some q):
  ∃ (j:Nat) (y:NodeP) (b:Int),q=j/\ns[j]?=some y/\vals[j]?=some b/\(aR ns x)[k]?=some y.card/\(aS vals x.parents)[k]?=some b/\0<=b/\b<y.card:=by
 obtain⟨j,rfl,y,hy⟩:=mJ (l:=ns) (hin q (List.mem_of_getElem? hq)).1 (hin q (List.mem_of_getElem? hq)).2;obtain⟨b,hb⟩:=get_of_lt (l:=vals) (i:=j) (by rw[hf.1,bO];exact get_lt hy);exact⟨j,y,b,rfl,hy,hb,by rw[show (aR ns x)[k]?=_ from qN hq,Int.toNat_natCast,bE (cI hy)],by rw[qN hq,Int.toNat_natCast,bE hb],hf.2 j y.card b (cI hy) hb⟩
set_option maxHeartbeats 2000000 in
theorem La (g:Int)(ns:List NodeP)(h:NetOk g ns)(rc vals:List Int)(hf:cE (ar ns) vals)(H:AHeap)(K:ARes->AHeap->Prop)(hK:K (.ret (aa (weight ns vals))) H):
  af Try.prog G0 90 [.agg (wY g ns rc),ae vals] H K:=by
 refine af.clo ⟨_,Try.func90,rfl,rfl⟩ fun hcl=>?_;have n8:=h.n1;have hvl:vals.length=ns.length:=by rw[hf.1,bO]
 refine af.bf (n:=57) (rs:=[.tmp 4]) Try.func90 rfl rfl rfl (by decide) (by kernel_rfl) (by simp) ?_;simp only[go_sem,wY];obtain⟨H1,hH1⟩:∃ H1,H1=ext H [.arr 0 127 [aa g,.vec ns.length (az ns),.vec rc.length (ints rc)]]:=⟨_,rfl⟩
 have g1:H1.get H.next=some (.arr 0 127 [aa g,.vec ns.length (az ns),.vec rc.length (ints rc)]):=by rw[hH1];exact cS ..
 have o1:Over H H1:=by rw[hH1];exact .ext _ _
 have n1:H1.next=H.next+1:=by rw[hH1];rfl
 refine W.env fun E hE=>?_;have e1:E 1=ae vals:=by rw[hE];simp only[go_sem]
 have e2:E 2=.ptr H.next 0 0:=by rw[hE];simp only[go_sem]
 have e5:E 5=aa 1:=by rw[hE];simp only[go_sem]
 have e13:E 13=.vec ns.length (az ns):=by rw[hE];simp only[go_sem]
 have e14:E 14=aa ns.length:=by rw[hE];simp only[go_sem]
 have e15:E 15=aa 0:=by rw[hE];simp only[go_sem]
 clear hE;show W _ _ _ _ _ _ ⟨E,ext H [.arr 0 127 [aa g,.vec ns.length (az ns),.vec rc.length (ints rc)]]⟩;rw[<- hH1];refine W.aI 72057594037896672 (by rfl) (fun ρ H'=>Over H1 H'/\∃ v:Nat,ρ 15=aa v/\v<=ns.length/\ρ 5=aa (au ((eI ns vals).take v))) (fun ρ H=>ns.length - (iv (ρ 15)).toNat) ?_ ?_
 ·exact⟨.refl _,0,e15,by omega,e5.trans (by simp [fj])⟩
 rintro ρ H' ⟨o2,v,h15,hv,h5⟩;have n2:=o2.next;have l2:=ak ((o2.old H.next (by omega)).trans g1);refine W.env fun F hF=>?_;have f1:F 1=ae vals:=by rw[hF];simp only[go_sem,e1]
 have f2:F 2=.ptr H.next 0 0:=by rw[hF];simp only[go_sem,e2]
 have f5:F 5=aa (au ((eI ns vals).take v)):=by rw[hF];simp only[go_sem,h5]
 have f13:F 13=.vec ns.length (az ns):=by rw[hF];simp only[go_sem,e13]
 have f14:F 14=aa ns.length:=by rw[hF];simp only[go_sem,e14]
 have f15:F 15=aa v:=by rw[hF];simp only[go_sem,h15]
 clear hF;by_cases hb:(v:Int)<ns.length;rotate_left
 ·have e:v=ns.length:=by omega
  subst e;refine ab _ _ _ (by rfl) ?_;simp only[go_sem,f5,f14,f15,hb];rw[List.take_of_length_le (by rw[qF];omega)];exact av.bI aP hcl (o1.trans o2) (.lit _) hK
 obtain⟨x,hx⟩:=get_of_lt (l:=ns) (i:=v) (by omega);have hxm:=List.mem_of_getElem? hx;have hin:gp x.parents ns.length:=fun q hq=>by have:=(h.node x hxm).2.2 q hq;omega
 have hfp:=o9 hin hf;have pl:(aR ns x).length=x.parents.length:=gO _ _;have vl:(aS vals x.parents).length=x.parents.length:=gO _ _;have hsm:=pf n8.2 (h.node x hxm).2 fun y hy=>(h.node y hy).1;have hr:=Bd hfp hsm;have l12:=hsm.1;obtain⟨i,r,a,w,hR⟩:=t9 h hx hf;obtain⟨a',rfl⟩:=Int.eq_ofNat_of_zero_le hR.a0;have hne:=eS hx;have hpt:=mI hx;refine ab _ _ _ (by rfl) ?_;simp only[go_sem,f13,f14,f15,hb,hne,hpt];refine⟨by rw[jq];omega,?_⟩;obtain⟨H2,hH2⟩:∃ H2,H2=ext H' [.arr 0 69 [aa x.card,.vec x.parents.length (ints x.parents),aC x.rows]]:=⟨_,rfl⟩
 have o3:Over H' H2:=by rw[hH2];exact .ext _ _
 have n3:H2.next=H'.next+1:=by rw[hH2];rfl
 have l3:H2.live H'.next 0=some (69,[aa x.card,.vec x.parents.length (ints x.parents),aC x.rows]):=by rw[hH2];exact ak (cS ..)
 have l4:H2.live H.next 0=some (127,[aa g,.vec ns.length (az ns),.vec rc.length (ints rc)]):=ak ((o3.old H.next (by omega)).trans ((o2.old H.next (by omega)).trans g1));refine W.env fun E3 hE3=>?_;have g1:E3 1=ae vals:=by rw[hE3];simp only[go_sem,f1]
 have g2:E3 2=.ptr H.next 0 0:=by rw[hE3];simp only[go_sem,f2]
 have g5:E3 5=aa (au ((eI ns vals).take v)):=by rw[hE3];simp only[go_sem,f5]
 have g6:E3 6=aa v:=by rw[hE3];simp only[go_sem]
 have g7:E3 7=.ptr H'.next 0 0:=by rw[hE3];simp only[go_sem]
 have g8:E3 8=aa 0:=by rw[hE3];simp only[go_sem]
 have g13:E3 13=.vec ns.length (az ns):=by rw[hE3];simp only[go_sem,f13]
 have g14:E3 14=aa ns.length:=by rw[hE3];simp only[go_sem,f14]
 have g15:E3 15=aa v:=by rw[hE3];simp only[go_sem,f15]
 have g21:E3 21=ae x.parents:=by rw[hE3];simp only[go_sem]
 have g22:E3 22=aa x.parents.length:=by rw[hE3];simp only[go_sem]
 have g23:E3 23=aa 0:=by rw[hE3];simp only[go_sem]
 clear hE3;show W _ _ _ _ _ _ ⟨E3,ext H' [.arr 0 69 [aa x.card,.vec x.parents.length (ints x.parents),aC x.rows]]⟩;rw[<- hH2];refine W.aI 4398038123776 (by rfl) (fun ρ H3=>H3=H2/\∃ k:Nat,ρ 23=aa k/\k<=x.parents.length/\ρ 8=aa (fF ((aR ns x).take k) ((aS vals x.parents).take k))) (fun ρ H=>x.parents.length - (iv (ρ 23)).toNat) ?_ ?_
 ·exact⟨rfl,0,g23,by omega,g8⟩
 rintro ρ3 H3 ⟨e3,k,h23,hk,h8⟩;rw[e3];refine W.env fun E4 hE4=>?_;have k1:E4 1=ae vals:=by rw[hE4];simp only[go_sem,g1]
 have k2:E4 2=.ptr H.next 0 0:=by rw[hE4];simp only[go_sem,g2]
 have k5:E4 5=aa (au ((eI ns vals).take v)):=by rw[hE4];simp only[go_sem,g5]
 have k6:E4 6=aa v:=by rw[hE4];simp only[go_sem,g6]
 have k7:E4 7=.ptr H'.next 0 0:=by rw[hE4];simp only[go_sem,g7]
 have k8:E4 8=aa (fF ((aR ns x).take k) ((aS vals x.parents).take k)):=by rw[hE4];simp only[go_sem,h8]
 have k13:E4 13=.vec ns.length (az ns):=by rw[hE4];simp only[go_sem,g13]
 have k14:E4 14=aa ns.length:=by rw[hE4];simp only[go_sem,g14]
 have k15:E4 15=aa v:=by rw[hE4];simp only[go_sem,g15]
 have k21:E4 21=ae x.parents:=by rw[hE4];simp only[go_sem,g21]
 have k22:E4 22=aa x.parents.length:=by rw[hE4];simp only[go_sem,g22]
 have k23:E4 23=aa k:=by rw[hE4];simp only[go_sem,h23]
 clear hE4;refine ab _ _ _ (by rfl) ?_;by_cases hb2:(k:Int)<x.parents.length
 ·obtain⟨q,hq⟩:=get_of_lt (l:=x.parents) (i:=k) (by omega);obtain⟨j,y,b,rfl,hy,hbv,a1,a2,a3⟩:=Be hin hf hq;have hqn:=aJ hq;have hbn:=aJ hbv;have hyn:=eS hy;have hy0:=js hy;have hjn:(j:Int)<ns.length:=by have:=get_lt hy;omega
  have hjv:(j:Int)<vals.length:=by have:=get_lt hbv;omega
  have w1:=IntWalk.i64_in ((k:Int)+1) (by omega);have r1:=hr (k+1);rw[tP a1 a2]at r1;have r0:=hr k;have m0:0<=fF ((aR ns x).take k) ((aS vals x.parents).take k)*y.card:=Int.mul_nonneg r0.1 (by omega);have w2:=IntWalk.i64_in (fF ((aR ns x).take k) ((aS vals x.parents).take k)*y.card) (by omega);have w3:=IntWalk.i64_in (fF ((aR ns x).take k) ((aS vals x.parents).take k)*y.card+b) (by omega);simp only[go_sem,k21,k22,k23,hb2,hq,hqn];refine W.draw 13 [0,0,2,6,0,30,62,126,255,0,0,1536,3584] Try.mixed (by kernel_rfl) (by kernel_rfl) ?_;simp only[go_sem,l4,k1,k2,k8,k23,hbv,hbn,hyn,hy0,hjn,hjv,w1,w2,w3];exact⟨⟨k+1,rfl,by omega,by rw[tP a1 a2]⟩,by rw[h23];simp only[aa,aK];omega⟩
 have ek:k=x.parents.length:=by omega
 rw[ek,List.take_of_length_le (by rw[pl];exact Nat.le_refl _),List.take_of_length_le (by rw[vl];exact Nat.le_refl _),tO hfp.1,hR.idx]at k8;have hva:=hR.val;have hvne:=aJ hva;have hvv:(v:Int)<vals.length:=by omega
 have hra:r[a']?=some w:=by have:=hR.hw;rw[Int.toNat_natCast]at this;exact this
 have hrane:=aJ hra;have hal:(a':Int)<r.length:=hR.al;have hir:=lu hR.row;have hirn:=aJ hir;have hil:(i:Int)<x.rows.length:=by have:=get_lt hR.row;omega
 have wt:=xY h hf (v+1);rw[aL (tS (vals:=vals) (v:=v) (by omega)),fR,hR.eq]at wt;have w1:=IntWalk.i64_in ((v:Int)+1) (by omega);have w2:=IntWalk.i64_in (au ((eI ns vals).take v)*w) (by omega);simp only[go_sem,k22,k23,hb2];refine W.draw 12 [0,0,2,0,14,30,0,0,192,448,1022,2046] Try.mixed (by kernel_rfl) (by kernel_rfl) ?_;simp only[go_sem,l3,k1,k5,k6,k7,k8,k15,aC,hil,hir,hirn,hvv,hva,hvne,hra,hrane,hal,w1,w2];exact⟨by omega,⟨o2.trans o3,v+1,rfl,by omega,by rw[aL (tS (vals:=vals) (v:=v) (by omega)),fR,hR.eq]⟩,by rw[h15];simp only[aa,aK];omega⟩
theorem Lb {α:Type}{F:Nat->List α}{c a j:Nat}{t:α}(ha:a<c)(h:(F a)[j]?=some t):((List.range c).flatMap F)[((List.range a).flatMap F).length+j]?=some t:=by
 obtain⟨m,rfl⟩:∃ m,c=a+(m+1):=⟨c - a - 1,by omega⟩
 have hj:=get_lt h;rw[List.range_add,List.flatMap_append,List.getElem?_append_right (by omega),Nat.add_sub_cancel_left,List.range_succ_eq_map,List.map_cons,List.flatMap_cons,Nat.add_zero,List.getElem?_append_left hj];exact h
def tv (cs r:List Int)(x:Int)(a:Nat):List (List Int):=if x<0\/x=(a:Int) then (cZ cs r).map fun w=>(a:Int) :: w else []
theorem Lc {cs r:List Int}{i:Nat}{c x:Int}(hc:cs[i]?=some c)(hx:r[i]?=some x):cZ (cs.drop i) (r.drop i)=(List.range c.toNat).flatMap (tv (cs.drop (i+1)) (r.drop (i+1)) x):=by
 rw[gK hc,gK hx];rfl
structure Own4 (n N b idy:Nat)(H:AHeap)(w:List Int):Prop where
 nx:N+4<=H.next
 y:H.get N=some (.arr 0 111 [.yld idy])
 w:H.get (N+1)=some (.arr 0 3 (ints w))
 c:H.get (N+2)=some (.arr 0 39 [.own (N+1) 0 0 n 1])
 f:H.get (N+3)=some (.arr 0 106 [.clo 89 [] [.ptr (N+2) 0 0,.ptr N 0 0,.ptr b 0 0,.ptr (N+3) 0 0]])
theorem Own4.keep {n N b idy:Nat}{H H':AHeap}{w:List Int}(h:Own4 n N b idy H w)(hn:H.next<=H'.next)(hk:∀ id,N<=id->id<N+4->H'.get id=H.get id):Own4 n N b idy H' w :=
 ⟨by have:=h.nx;omega,(hk _ (by omega) (by omega)).trans h.y,(hk _ (by omega) (by omega)).trans h.w,(hk _ (by omega) (by omega)).trans h.c,(hk _ (by omega) (by omega)).trans h.f⟩
def iK (ns:List NodeP)(r:List Int)(N:Nat):List (List AVal):=(cZ (ar ns) r).map fun w=>[.own (N+1) 0 0 ns.length 1,aa (weight ns w)]
def Bf (ns:List NodeP)(r:List Int)(N:Nat)(k:Nat)(H:AHeap):Prop:=∃ w,(cZ (ar ns) r)[k]?=some w/\H.get (N+1)=some (.arr 0 3 (ints w))
theorem oF {cs r:List Int}(h:∀ c∈cs,1<=c)(hl:r.length=cs.length){w:List Int}(hw:w∈cZ cs r):cE cs w:=by
 rw[tq hl]at hw;exact wU h (List.mem_filter.1 hw).1
theorem Ld (g:Int)(ns:List NodeP)(h:NetOk g ns)(rc vals:List Int)(hf:cE (ar ns) vals)(H:AHeap)(N n:Nat)(hN:N<H.next)(hg:H.get N=some (.arr 0 3 (ints vals)))(hn:n=vals.length):
  dI Try.prog G0 (.clo 90 [] []) [.agg [aa g,.vec ns.length (az ns),.vec rc.length (ints rc)],.own N 0 0 n 1] H (aa (weight ns vals)) [N]:=by
 subst hn;refine dI.mk (fun i hi=>by obtain rfl:=List.mem_singleton.1 hi;exact hN) fun H2 h2 _=>?_;refine(af.frame (H:=H2) (args:=[.agg [aa g,.vec ns.length (az ns),.vec rc.length (ints rc)],.own N 0 0 vals.length 1]) (args':=[.agg (wY g ns rc),ae vals]) (v':=aa (weight ns vals)) aP rfl (fun i hi _=>?_) (La g ns h rc vals hf cF _ ⟨_,rfl,.lit _⟩))
 match i,hi with
 | 0,_=>exact .agg rfl fun i hi _=>match i,hi with
  | 0,_=>.lit _
  | 1,_=>ud _
  | 2,_=>.dw _
 | 1,_=>exact Fz.qR ((h2 N (by simp)).trans hg) (by rw[aO]) fun c hc=>by obtain⟨z,_,rfl⟩:=List.mem_map.1 hc;exact⟨_,rfl⟩
set_option maxHeartbeats 2000000 in
theorem Le (g:Int)(ns:List NodeP)(h:NetOk g ns)(rc:List Int)(hr:rc.length=ns.length)(b N idy:Nat)(hbN:b<N)(J:Nat->AHeap->Prop)
  (hS0:∀ k H1,J k H1->H1.get b=some (.arr 0 127 [aa g,.vec ns.length (az ns),.vec rc.length (ints rc)])) (hJw:∀ k H1 H2,J k H1->ui (N+1) H1 H2->J k H2)
  (hY:∀ k x H1 K1,(iK ns rc N)[k]?=some x->J k H1->Bf ns rc N k H1->N+4<=H1.next->(∀ H',J (k+1) H'->(∀ id,N<=id->id<N+4->H'.get id=H1.get id)->H1.next<=H'.next->K1 (.ret (.lit (.bool true))) H')->aw Try.prog G0 (.yld idy) x H1 K1):
  ∀ (d i:Nat),i+d=ns.length->∀ (k:Nat) (w:List Int) (H1:AHeap) (K1:ARes->AHeap->Prop),w.length=ns.length ->
   (∀ (j:Nat) (t:List Int),(cZ ((ar ns).drop i) (rc.drop i))[j]?=some t->(cZ (ar ns) rc)[k+j]?=some (w.take i++t)) ->
   J k H1->Own4 ns.length N b idy H1 w ->
   (∀ H' w',J (k+(cZ ((ar ns).drop i) (rc.drop i)).length) H'->Own4 ns.length N b idy H' w'->w'.take i=w.take i->w'.length=ns.length->H1.next<=H'.next->K1 (.ret (.lit (.bool true))) H') ->
   af Try.prog G0 89 [aa i,.ptr (N+2) 0 0,.ptr N 0 0,.ptr b 0 0,.ptr (N+3) 0 0] H1 K1:=by
 have hc1:=gf h;have n8:=h.n1;have cl:(ar ns).length=ns.length:=bO ns;intro d
 induction d with
 | zero =>
  intro i hi k w H1 K1 hw hpre hj ho hK;have ei:i=ns.length:=by omega
  subst ei;have e0:cZ ((ar ns).drop ns.length) (rc.drop ns.length)=[[]]:=by rw[List.drop_of_length_le (by omega)];rfl
  rw[e0]at hpre hK;have hk:=hpre 0 [] rfl;rw[List.take_of_length_le (by omega),List.append_nil,Nat.add_zero]at hk;have hfit:=oF hc1 (by omega) (List.mem_of_getElem? hk);have lb:=ak (hS0 _ _ hj);have lc:=ak ho.c;have ly:=ak ho.y;have lw:=ak ho.w;refine af.bf (n:=53) (rs:=[.tmp 6]) Try.func89 rfl rfl rfl (by decide) (by kernel_rfl) (by simp) ?_;simp only[go_sem,lc,lw];refine W.draw 5 [0,0,0,0,12] Try.mixed (by kernel_rfl) (by kernel_rfl) ?_;simp only[go_sem,lc,ly,lb];refine⟨aa (weight ns w),[N+1],Ld g ns h rc w hfit H1 (N+1) ns.length (by have:=ho.nx;omega) ho.w hw.symm,?_⟩;simp only[go_sem];refine hY k [.own (N+1) 0 0 ns.length 1,aa (weight ns w)] H1 _ (by unfold iK;rw[List.getElem?_map,hk];rfl) hj ⟨w,hk,ho.w⟩ ho.nx fun H2 j2 kp n2=>⟨trivial,?_⟩
  simp only[go_sem];exact av.mk n2 (hK H2 w j2 (ho.keep n2 kp) rfl hw n2)
 | succ d ih =>
  intro i hi k w H1 K1 hw hpre hj ho hK;obtain⟨x,hx⟩:=get_of_lt (l:=ns) (i:=i) (by omega);obtain⟨q,hq⟩:=get_of_lt (l:=rc) (i:=i) (by omega);have hxc:=(h.node x (List.mem_of_getElem? hx)).1;have hcx:=cI hx;rw[Lc hcx hq]at hpre hK;obtain⟨F,hF⟩:∃ F,F=tv ((ar ns).drop (i+1)) (rc.drop (i+1)) q:=⟨_,rfl⟩
  rw[<- hF]at hpre hK;have lb:=ak (hS0 _ _ hj);have lc:=ak ho.c;have lw:=ak ho.w;have hin:¬ (i:Int)=ns.length:=by omega
  have hil:(i:Int)<ns.length:=by omega
  have hne:=eS hx;have h0:=js hx;refine af.bf (n:=53) (rs:=[.tmp 6]) Try.func89 rfl rfl rfl (by decide) (by kernel_rfl) (by simp) ?_;simp only[go_sem,lb,lc,lw,hin,hil,hne,h0];refine W.env fun E hE=>?_;have e0:E 0=aa i:=by rw[hE];simp only[go_sem]
  have e1:E 1=.ptr (N+2) 0 0:=by rw[hE];simp only[go_sem]
  have e2:E 2=.ptr N 0 0:=by rw[hE];simp only[go_sem]
  have e3:E 3=.ptr b 0 0:=by rw[hE];simp only[go_sem]
  have e4:E 4=.ptr (N+3) 0 0:=by rw[hE];simp only[go_sem]
  have e24:E 24=aa x.card:=by rw[hE];simp only[go_sem]
  have e25:E 25=aa 0:=by rw[hE];simp only[go_sem]
  clear hE;refine W.aI 9007199221186752 (by rfl) (fun ρ H'=>∃ (a:Nat) (w':List Int),ρ 25=aa a/\(a:Int)<=x.card/\J (k+((List.range a).flatMap F).length) H'/\Own4 ns.length N b idy H' w'/\w'.take i=w.take i/\w'.length=ns.length/\H1.next<=H'.next) (fun ρ H=>x.card.toNat - (iv (ρ 25)).toNat) ?_ ?_
  ·exact⟨0,w,e25,by omega,hj,ho,rfl,hw,Nat.le_refl _⟩
  rintro ρ H' ⟨a,w',h25,ha,hj',ho',ht',hl',hn'⟩;refine W.env fun E1 hE1=>?_;have f0:E1 0=aa i:=by rw[hE1];simp only[go_sem,e0]
  have f1:E1 1=.ptr (N+2) 0 0:=by rw[hE1];simp only[go_sem,e1]
  have f2:E1 2=.ptr N 0 0:=by rw[hE1];simp only[go_sem,e2]
  have f3:E1 3=.ptr b 0 0:=by rw[hE1];simp only[go_sem,e3]
  have f4:E1 4=.ptr (N+3) 0 0:=by rw[hE1];simp only[go_sem,e4]
  have f24:E1 24=aa x.card:=by rw[hE1];simp only[go_sem,e24]
  have f25:E1 25=aa a:=by rw[hE1];simp only[go_sem,h25]
  clear hE1;have mb:=ak (hS0 _ _ hj');have mc:=ak ho'.c;have mw:=ak ho'.w;have mf:=ak ho'.f;have hqn:=aJ hq;have hir:(i:Int)<rc.length:=by omega
  have hiw:(i:Int)<w'.length:=by omega
  have w1:=IntWalk.i64_in ((i:Int)+1) (by omega);have w2:=IntWalk.i64_in ((a:Int)+1) (by omega);by_cases hb:(a:Int)<x.card;rotate_left
  ·have ea:a=x.card.toNat:=(by omega);refine ab _ _ _ (by rfl) ?_;simp only[go_sem,f24,f25,hb];exact av.mk hn' (hK H' w' (by rw[<- ea];exact hj') ho' ht' hl' hn')
  have hset:setAt (ints w') i [aa a]=ints (w'.set i (a:Int)):=dF (by omega);obtain⟨H3,hH3⟩:∃ H3,H3=H'.upd (N+1) (.arr 0 3 (setAt (ints w') i [aa a])):=⟨_,rfl⟩
  have n3:H3.next=H'.next:=by rw[hH3];rfl
  have k3:∀ id,id≠N+1->H3.get id=H'.get id:=fun id hh=>by rw[hH3,ag,if_neg hh]
  have m3:H3.get (N+1)=some (.arr 0 3 (ints (w'.set i (a:Int)))):=by rw[hH3,ag,if_pos rfl,hset]
  have o3:Own4 ns.length N b idy H3 (w'.set i (a:Int)):=⟨by rw[n3];exact ho'.nx,(k3 _ (by omega)).trans ho'.y,m3,(k3 _ (by omega)).trans ho'.c,(k3 _ (by omega)).trans ho'.f⟩
  have mf3:(H'.upd (N+1) (.arr 0 3 (setAt (ints w') i [.lit (.int .i64 (a:Int))]))).live (N+3) 0=some (106,[.clo 89 [] [.ptr (N+2) 0 0,.ptr N 0 0,.ptr b 0 0,.ptr (N+3) 0 0]]):=by have:=ak o3.f;rw[hH3]at this;exact this
  have j3:J (k+((List.range a).flatMap F).length) H3:=hJw _ _ _ hj' ⟨by rw[n3];exact Nat.le_refl _,fun id h1 _=>k3 id h1⟩;have tk:(w'.set i (a:Int)).take (i+1)=w.take i++[(a:Int)]:=by
   rw[aL (x:=(a:Int)) (by rw[List.getElem?_set_self (by omega)]),List.take_set_of_le (Nat.le_refl _),ht']
  have fyes:(q<0\/q=(a:Int))->F a=(cZ ((ar ns).drop (i+1)) (rc.drop (i+1))).map fun w=>(a:Int) :: w:=fun hh=>by rw[hF];unfold tv;rw[if_pos hh]
  have hpre3:(q<0\/q=(a:Int))->∀ (j:Nat) (t:List Int),(cZ ((ar ns).drop (i+1)) (rc.drop (i+1)))[j]?=some t->(cZ (ar ns) rc)[k+((List.range a).flatMap F).length+j]?=some ((w'.set i (a:Int)).take (i+1)++t):=fun hh j t hj=>by
   rw[tk,List.append_assoc,Nat.add_assoc];refine hpre _ _ (Lb (by omega) ?_);rw[fyes hh,List.getElem?_map,hj];rfl
  have pre1:((List.range (a+1)).flatMap F).length=((List.range a).flatMap F).length+(F a).length:=by
   rw[List.range_succ,List.flatMap_append,List.length_append];simp
  by_cases q0:q<0
  ·refine ab _ _ _ (by rfl) ?_;simp only[go_sem,f0,f1,f3,f4,f24,f25,mb,mc,mw,mf3,w1,hb,hq,hqn,hir,hl',q0];refine⟨by omega,by omega,?_⟩;show aw _ _ (.clo 89 [] [.ptr (N+2) 0 0,.ptr N 0 0,.ptr b 0 0,.ptr (N+3) 0 0]) [aa ((i+1:Nat):Int)] (H'.upd (N+1) (.arr 0 3 (setAt (ints w') i [aa a]))) _;rw[<- hH3];refine aw.clo (ih (i+1) (by omega) _ (w'.set i (a:Int)) H3 _ (by rw[List.length_set];exact hl') (hpre3 (.inl q0)) j3 o3 fun H4 w4 j4 o4 t4 l4 n4=>⟨trivial,?_⟩);have t4':w4.take i=w.take i:=by
    have:=congrArg (List.take i) (t4.trans tk);rw[List.take_take,Nat.min_eq_left (Nat.le_succ i),List.take_left' (by rw[List.length_take];omega)]at this;exact this
   simp only[go_sem,f25,w2];exact⟨by omega,⟨a+1,w4,rfl,by omega,by rw[pre1,fyes (.inl q0),List.length_map,<- Nat.add_assoc];exact j4,o4,t4',l4,by omega⟩,by rw[h25];simp only[aa,aK];omega⟩
  by_cases q1:q=(a:Int)
  ·have q0':¬ (a:Int)<0:=(by omega);refine ab _ _ _ (by rfl) ?_;simp only[go_sem,f0,f1,f3,f4,f24,f25,mb,mc,mw,mf3,w1,hb,hq,hqn,hir,hl',q0',q1];refine⟨by omega,by omega,?_⟩;show aw _ _ (.clo 89 [] [.ptr (N+2) 0 0,.ptr N 0 0,.ptr b 0 0,.ptr (N+3) 0 0]) [aa ((i+1:Nat):Int)] (H'.upd (N+1) (.arr 0 3 (setAt (ints w') i [aa a]))) _;rw[<- hH3];refine aw.clo (ih (i+1) (by omega) _ (w'.set i (a:Int)) H3 _ (by rw[List.length_set];exact hl') (hpre3 (.inr q1)) j3 o3 fun H4 w4 j4 o4 t4 l4 n4=>⟨trivial,?_⟩);have t4':w4.take i=w.take i:=by
    have:=congrArg (List.take i) (t4.trans tk);rw[List.take_take,Nat.min_eq_left (Nat.le_succ i),List.take_left' (by rw[List.length_take];omega)]at this;exact this
   simp only[go_sem,f25,w2];exact⟨by omega,⟨a+1,w4,rfl,by omega,by rw[pre1,fyes (.inr q1),List.length_map,<- Nat.add_assoc];exact j4,o4,t4',l4,by omega⟩,by rw[h25];simp only[aa,aK];omega⟩
  ·refine ab _ _ _ (by rfl) ?_;simp only[go_sem,f0,f3,f24,f25,mb,hb,hq,hqn,hir,q0,q1,w2];have fno:F a=[]:=(by rw[hF];unfold tv;rw[if_neg fun hh=>hh.elim q0 q1]);exact⟨hn',⟨a+1,w',rfl,by omega,by rw[pre1,fno];exact hj',ho',ht',hl',hn'⟩,by rw[h25];simp only[aa,aK];omega⟩
set_option maxHeartbeats 1000000 in
theorem Bg (g:Int)(ns:List NodeP)(h:NetOk g ns)(rc:List Int)(hr:rc.length=ns.length)(b N:Nat)(hbN:b<N):
  Ba Try.prog G0 88 [] [.ptr b 0 0] (iK ns rc N) N (fun H=>H.get b=some (.arr 0 127 [aa g,.vec ns.length (az ns),.vec rc.length (ints rc)])) (Bf ns rc N):=by
 intro idy J H K hN hS0 hJw hJ0 hY hK;have l0:=ak (hS0 0 H hJ0);have n8:=h.n1;subst hN;show af _ _ _ ([.yld idy]++[.ptr b 0 0]) _ _;refine af.bf (n:=13) (rs:=[]) Try.func88 rfl rfl rfl (by decide) (by kernel_rfl) (by simp) ?_;have lE:∀ L,(ext H L).live b 0=some (127,[aa g,.vec ns.length (az ns),.vec rc.length (ints rc)]):=fun L=>ak ((cb _ _ _ hbN).trans (hS0 0 H hJ0));have c1:∀ f a c,(AVal.clo f a c).cells=[.clo f a c]:=fun _ _ _=>rfl;have c2:∀ f a c,(AVal.clo f a c).one=true:=fun _ _ _=>rfl;have c3:∀ i,(AVal.yld i).cells=[.yld i]:=fun _=>rfl;simp only[go_sem,lE,c1,c2,c3];refine⟨by omega,?_⟩;obtain⟨bs,hbs⟩:∃ bs,bs=[Blk.arr 0 111 [.yld idy],.arr 0 3 (List.replicate ns.length (.lit (.int .i64 0))),.arr 0 39 [.own (H.next+1) 0 0 ns.length 1],.arr 0 106 [.clo 89 [] [.ptr (H.next+2) 0 0,.ptr H.next 0 0,.ptr b 0 0,.ptr (H.next+3) 0 0]]]:=⟨_,rfl⟩
 rw[<- hbs];have hrep:List.replicate ns.length (.lit (.int .i64 0))=ints (List.replicate ns.length 0):=by simp [ints,aa]
 have nx:(ext H bs).next=H.next+4:=by rw[hbs];rfl
 have hw:ui (H.next+1) H (ext H bs):=⟨by omega,fun id _ hi=>cb _ _ _ hi⟩
 refine aw.clo (Le g ns h rc hr b H.next idy hbN J hS0 hJw hY ns.length 0 (by omega) 0 (List.replicate ns.length 0) (ext H bs) _ (by simp) (fun j t ht=>by rw[Nat.zero_add];exact ht) (hJw 0 H _ hJ0 hw)
  ⟨by omega,by rw[hbs];exact bG H _ 0 (by simp),by rw[<- hrep,hbs];exact bG H _ 1 (by simp),by rw[hbs];exact bG H _ 2 (by simp),by rw[hbs];exact bG H _ 3 (by simp)⟩ fun H2 w2 j2 o2 _ _ n2=>⟨trivial,?_⟩)
 simp only[go_sem];refine av.mk (by omega) (hK H2 ?_ (by omega));rw[Nat.zero_add,List.drop_zero,List.drop_zero]at j2;unfold iK;rw[List.length_map];exact j2
theorem Bh (g:Int)(ns:List NodeP)(rc:List Int)(H:AHeap)(K:ARes->AHeap->Prop)(hK:K (.ret (.clo 88 [] [.ptr H.next 0 0])) (ext H [.arr 0 127 [aa g,.vec ns.length (az ns),.vec rc.length (ints rc)]])):
  af Try.prog G0 70 [.agg [aa g,.vec ns.length (az ns),.vec rc.length (ints rc)]] H K:=by
 refine af.bf (n:=4) (rs:=[.tmp 2]) Try.func70 rfl rfl rfl (by decide) (by kernel_rfl) (by simp) ?_;simp only[go_sem];exact av.mk (by simp [bY]) hK
def fP (ns:List NodeP)(r:List Int):Int:=((cZ (ar ns) r).map (weight ns)).sum
theorem Lf {g:Int}{ns:List NodeP}(h:NetOk g ns){r:List Int}(hr:r.length=ns.length):(cZ (ar ns) r).length<=1024:=by
 have h1:=gf h;rw[tq (by rw[hr,bO])];refine Nat.le_trans (List.length_filter_le _ _) ?_;rw[tp h1,List.length_map,List.length_range];have:=h.size;omega
theorem tw {g:Int}{ns:List NodeP}(h:NetOk g ns){w:List Int}(hw:cE (ar ns) w):0<=weight ns w/\weight ns w<=167961600000000:=by
 have:=xY h hw ns.length;rw[List.take_of_length_le (by rw[qF];exact Nat.le_refl _)]at this;exact this
theorem Bi {l:List Int}{b:Int}(h:∀ x∈l,0<=x/\x<=b):0<=l.sum/\l.sum<=l.length*b:=by
 induction l with
 | nil=>simp
 | cons a l ih =>
  have h1:=h a (by simp);have h2:=ih fun x hx=>h x (by simp [hx]);rw[List.sum_cons,List.length_cons,show ((l.length+1:Nat):Int)=l.length+1 from rfl,Int.add_mul];omega
theorem Bj {g:Int}{ns:List NodeP}(h:NetOk g ns){r:List Int}(hr:r.length=ns.length)(k:Nat):
  0<=(((cZ (ar ns) r).take k).map (weight ns)).sum/\(((cZ (ar ns) r).take k).map (weight ns)).sum<=171992678400000000:=by
 have h1:=Bi (l:=((cZ (ar ns) r).take k).map (weight ns)) (b:=167961600000000) fun x hx=>by
  obtain⟨w,hw,rfl⟩:=List.mem_map.1 hx;exact tw h (oF (gf h) (by rw[hr,bO]) (List.mem_of_mem_take hw))
 have h2:=Lf h hr;rw[List.length_map,List.length_take]at h1;have h3:((min k (cZ (ar ns) r).length:Nat):Int)*167961600000000<=1024*167961600000000:=by omega
 omega
def fB (ns:List NodeP)(xs:List (List Int))(k:Nat):List Int:=(xs.take k).map (fP ns)++List.replicate (xs.length - k) 0
theorem Lg (ns:List NodeP)(xs:List (List Int))(k:Nat)(hk:k<=xs.length):(fB ns xs k).length=xs.length:=by simp [fB];omega
theorem Lh {ns:List NodeP}{xs:List (List Int)}{k:Nat}{r:List Int}(h:xs[k]?=some r):fB ns xs (k+1)=(fB ns xs k).set k (fP ns r):=by
 have hl:=get_lt h;unfold fB;rw[aL h,List.map_append,List.set_append_right _ _ (by simp;omega)];have e:k - ((xs.take k).map (fP ns)).length=0:=by simp;omega
 rw[e,show xs.length - k=(xs.length - (k+1))+1 by omega,List.replicate_succ];simp
theorem Li {α:Type}{l:List α}{i:Nat}{x:α}(h:l[i]?=some x):l.set i x=l:=by
 refine List.ext_getElem? fun j=>?_;rw[List.getElem?_set];split
 ·rename_i e;subst e;rw[if_pos (get_lt h),h]
 ·rfl
theorem Lj {ns:List NodeP}{xs:List (List Int)}{k:Nat}{r:List Int}(h:xs[k]?=some r):(fB ns xs k)[k]?=some 0:=by
 have hl:=get_lt h;unfold fB;rw[List.getElem?_append_right (by simp;omega),List.getElem?_replicate];rw[if_pos (by simp;omega)]
set_option maxHeartbeats 2000000 in
theorem Lk (g:Int)(ns:List NodeP)(h:NetOk g ns)(cs:List Int)(xs:List (List Int))(hx40:xs.length<=64)(hrow:∀ r∈xs,r.length=ns.length)(H:AHeap)(K:ARes->AHeap->Prop)(hK:K (.ret (ae (xs.map (fP ns)))) H):
  af Try.prog G0 42 [aY g ns,cB cs xs] H K:=by
 refine af.clo ⟨_,Try.func42,rfl,rfl⟩ fun hcl=>?_;have n8:=h.n1;refine af.bf (n:=37) (rs:=[.tmp 4]) Try.func42 rfl rfl rfl (by decide) (by kernel_rfl) (by simp) ?_;simp only[go_sem,aY,cH,cB,aC];refine⟨by omega,?_⟩;obtain⟨H1,hH1⟩:∃ H1,H1=ext H [.arr 0 35 [aa g,.vec ns.length (az ns)],.arr 0 42 [.vec cs.length (ints cs),.vec xs.length (xs.map ae)],.arr 0 3 (List.replicate xs.length (aa 0)),.arr 0 39 [.own (H.next+2) 0 0 xs.length 1]]:=⟨_,rfl⟩
 have n1:H1.next=H.next+4:=by rw[hH1];rfl
 have o1:Over H H1:=by rw[hH1];exact .ext _ _
 have g0:H1.get H.next=some (.arr 0 35 [aa g,.vec ns.length (az ns)]):=by rw[hH1];exact bG H _ 0 (by simp)
 have g2:H1.get (H.next+2)=some (.arr 0 3 (ints (fB ns xs 0))):=by
  rw[hH1,bG H _ 2 (by simp)];simp [fB,ints,aa]
 have g3:H1.get (H.next+3)=some (.arr 0 39 [.own (H.next+2) 0 0 xs.length 1]):=by rw[hH1];exact bG H _ 3 (by simp)
 refine W.env fun E hE=>?_;have e2:E 2=.ptr H.next 0 0:=by rw[hE];simp only[go_sem]
 have e5:E 5=.ptr (H.next+3) 0 0:=by rw[hE];simp only[go_sem]
 have e15:E 15=.vec xs.length (xs.map ae):=by rw[hE];simp only[go_sem]
 have e16:E 16=aa xs.length:=by rw[hE];simp only[go_sem]
 have e17:E 17=aa 0:=by rw[hE];simp only[go_sem]
 clear hE;show W _ _ _ _ _ _ ⟨E,ext H [.arr 0 35 [aa g,.vec ns.length (az ns)],.arr 0 42 [.vec cs.length (ints cs),.vec xs.length (xs.map ae)],.arr 0 3 (List.replicate xs.length (aa 0)),.arr 0 39 [.own (H.next+2) 0 0 xs.length 1]]⟩;rw[<- hH1];refine W.aI 34426716352 (by rfl) (fun ρ H'=>∃ i:Nat,ρ 17=aa i/\i<=xs.length/\H1.next<=H'.next/\(∀ id,id<H1.next->id≠H.next+2->H'.get id=H1.get id)/\H'.get (H.next+2)=some (.arr 0 3 (ints (fB ns xs i)))) (fun ρ H=>xs.length - (iv (ρ 17)).toNat) ?_ ?_
 ·exact⟨0,e17,by omega,Nat.le_refl _,fun _ _ _=>rfl,g2⟩
 rintro ρ H' ⟨i,h17,hi,hn,hk,hg2⟩;refine W.env fun F hF=>?_;have f2:F 2=.ptr H.next 0 0:=by rw[hF];simp only[go_sem,e2]
 have f5:F 5=.ptr (H.next+3) 0 0:=by rw[hF];simp only[go_sem,e5]
 have f15:F 15=.vec xs.length (xs.map ae):=by rw[hF];simp only[go_sem,e15]
 have f16:F 16=aa xs.length:=by rw[hF];simp only[go_sem,e16]
 have f17:F 17=aa i:=by rw[hF];simp only[go_sem,h17]
 clear hF;by_cases hb:(i:Int)<xs.length;rotate_left
 ·have ei:i=xs.length:=by omega
  refine ab _ _ _ (by rfl) ?_;have l3:=ak ((hk (H.next+3) (by omega) (by omega)).trans g3);simp only[go_sem,f5,f16,f17,hb,l3];have em:fB ns xs i=xs.map (fP ns):=by rw[ei];simp [fB]
  rw[em]at hg2;have ovx:Over H H':=⟨by omega,fun id hi=>(hk id (by omega) (by omega)).trans (o1.old id hi)⟩
  exact av.bI (v':=ae (xs.map (fP ns))) aP hcl ovx (Fz.ints (by omega) hg2 (by simp) fun j hj=>by rw[Nat.zero_add,fa];simp only[List.getElem?_eq_getElem hj,Option.map_some]) hK
 obtain⟨r,hr⟩:=get_of_lt (l:=xs) (i:=i) (by omega);have hr':=lu hr;have hrn:=aJ hr';have hrl:=hrow r (List.mem_of_getElem? hr);have lE:∀ L,(ext H' L).live H.next 0=some (35,[aa g,.vec ns.length (az ns)]):=fun L=>ak ((cb _ _ _ (by omega)).trans ((hk H.next (by omega) (by omega)).trans g0));refine ab _ _ _ (by rfl) ?_;simp only[go_sem,f2,f15,f16,f17,hb,hr',hrn,lE];obtain⟨Ha,hHa⟩:∃ Ha,Ha=ext H' [.arr 0 3 [aa i]]:=⟨_,rfl⟩
 obtain⟨Hb,hHb⟩:∃ Hb,Hb=ext Ha [.arr 0 127 [aa g,.vec ns.length (az ns),.vec r.length (ints r)]]:=⟨_,rfl⟩
 have na:Ha.next=H'.next+1:=by rw[hHa];rfl
 have nb:Hb.next=H'.next+2:=by rw[hHb];show Ha.next+1=_;rw[na]
 have ka:Ha.get H'.next=some (.arr 0 3 [aa i]):=by rw[hHa];exact cP
 have kb:Hb.get (H'.next+1)=some (.arr 0 127 [aa g,.vec ns.length (az ns),.vec r.length (ints r)]):=by rw[hHb,<- na];exact cP
 have oab:∀ id,id<H'.next+1->Hb.get id=Ha.get id:=fun id hh=>by rw[hHb];exact ed (by omega)
 have oa:∀ id,id<H'.next->Hb.get id=H'.get id:=fun id hh=>by rw[oab id (by omega),hHa];exact ed hh
 refine aw.clo (Bh g ns r _ _ ⟨trivial,?_⟩);simp only[go_sem];refine W.env fun E1 hE1=>?_;have k2:E1 2=.ptr H.next 0 0:=by rw[hE1];simp only[go_sem,f2]
 have k5:E1 5=.ptr (H.next+3) 0 0:=by rw[hE1];simp only[go_sem,f5]
 have k6:E1 6=.ptr H'.next 0 0:=by rw[hE1];simp only[go_sem]
 have k15:E1 15=.vec xs.length (xs.map ae):=by rw[hE1];simp only[go_sem,f15]
 have k16:E1 16=aa xs.length:=by rw[hE1];simp only[go_sem,f16]
 have k17:E1 17=aa i:=by rw[hE1];simp only[go_sem,f17]
 have k25:E1 25=.clo 88 [] [.ptr (H'.next+1) 0 0]:=by rw[hE1];rfl
 clear hE1;show W _ _ _ _ _ _ ⟨E1,ext (ext H' [.arr 0 3 [aa i]]) [.arr 0 127 [aa g,.vec ns.length (az ns),.vec r.length (ints r)]]⟩;rw[<- hHa,<- hHb];have w1:=IntWalk.i64_in ((i:Int)+1) (by omega);have mt:=Bj h hrl;obtain⟨D,hD⟩:∃ D,D=cZ (ar ns) r:=⟨_,rfl⟩
 have hDl:(iK ns r (Hb.next+1)).length=D.length:=by unfold iK;rw[List.length_map,hD]
 rw[<- hD]at mt;have hm:fP ns r=(D.map (weight ns)).sum:=by rw[hD];rfl
 refine W.Bc (f:=88) (first:=[]) (cap:=[.ptr (H'.next+1) 0 0]) (by show E1 25=_;exact k25) (Bg g ns h r hrl (H'.next+1) (Hb.next+1) (by omega))
  (fun k Hx=>Hb.next<Hx.next/\(∀ id,id<Hb.next->id≠H.next+2->Hx.get id=Hb.get id)/\Hx.get (H.next+2)=some (.arr 0 3 (ints ((fB ns xs i).set i ((D.take k).map (weight ns)).sum))))
  (fun k Hx hj=>(hj.2.1 _ (by omega) (by omega)).trans kb)
  (fun k H1 H3 hj hw=>⟨by have:=hw.1;omega,fun id h1 h2=>(hw.2 _ (by omega) (by have:=hj.1;omega)).trans (hj.2.1 id h1 h2),(hw.2 _ (by omega) (by have:=hj.1;omega)).trans hj.2.2⟩)
  (fun k Hx hj=>hj.1)
  (fun k H1 b hj=>⟨hj.1,fun id h1 h2=>by rw[ag,if_neg (by omega)];exact hj.2.1 id h1 h2,by rw[ag,if_neg (by omega)];exact hj.2.2⟩)
  (fun b=>⟨by rw[bY];simp,fun id h1 h2=>ed h1,by
   rw[ed (by omega),oa _ (by omega),hg2];congr 2;simp only[List.take_zero,List.map_nil,List.sum_nil];rw[Li (Lj hr)]⟩) (by decide)
  (fun x hx=>by
   unfold iK at hx;obtain⟨w,_,rfl⟩:=List.mem_map.1 hx;rfl) (fun _ _ _=>trivial) (fun k y Hx B Bb hy hj hs hn2 hB hBb=>?_) (fun Hx hj hn2=>?_)
 ·obtain⟨hh1,hh2,hh3⟩:=hj;obtain⟨w,hw,hwN⟩:=hs;rw[<- hD]at hw;have hy':y=[.own (Hb.next+1+1) 0 0 ns.length 1,aa (weight ns w)]:=by
   unfold iK at hy;rw[<- hD,List.getElem?_map,hw]at hy;exact(Option.some.inj hy).symm
  subst hy';refine ab _ _ _ (by rfl) ?_;simp only[go_sem,km,de,qT,List.foldl_cons,List.foldl_nil,List.zip_cons_cons,List.zip_nil_right,hB];obtain⟨H3,hH3⟩:∃ H3,H3=Hx.upd Hb.next Bb:=⟨_,rfl⟩
  rw[<- hH3];obtain⟨st,pd,n',en,ps',as',bo,hBe⟩:=hBb;have n3:H3.next=Hx.next:=by rw[hH3];rfl
  have o3:∀ id,id≠Hb.next->H3.get id=Hx.get id:=fun id hh=>by rw[hH3,ag,if_neg hh]
  have jB:H3.get Hb.next=some Bb:=by rw[hH3,ag,if_pos rfl]
  refine W.env fun E2 hE2=>?_;have m5:E2 5=.ptr (H.next+3) 0 0:=by rw[hE2];simp only[go_sem,de,k5]
  have m6:E2 6=.ptr H'.next 0 0:=by rw[hE2];simp only[go_sem,de,k6]
  have m9:E2 9=aa (weight ns w):=by rw[hE2];simp only[go_sem,de]
  clear hE2;have l3:=ak ((o3 (H.next+3) (by omega)).trans ((hh2 _ (by omega) (by omega)).trans ((oa _ (by omega)).trans ((hk _ (by omega) (by omega)).trans g3))));have l6:=ak ((o3 H'.next (by omega)).trans ((hh2 _ (by omega) (by omega)).trans ((oab _ (by omega)).trans ka)));have l2:=ak ((o3 (H.next+2) (by omega)).trans hh3);have hml:=Lg ns xs i hi;have hil:i<(fB ns xs i).length:=by omega
  have mt1:=mt (k+1);have es:((D.take (k+1)).map (weight ns)).sum=((D.take k).map (weight ns)).sum+weight ns w:=by rw[aL hw];simp
  rw[es]at mt1;have w2:=IntWalk.i64_in (((D.take k).map (weight ns)).sum+weight ns w) (by omega);have hgv:((fB ns xs i).set i ((D.take k).map (weight ns)).sum)[i]?=some ((D.take k).map (weight ns)).sum:=List.getElem?_set_self hil;refine ab _ _ _ (by rfl) ?_;simp only[go_sem,m5,m6,m9,l2,l3,l6,hb,hgv,w2,lT];refine⟨by rw[List.length_set];omega,?_⟩;obtain⟨H4,hH4⟩:∃ H4,H4=H3.upd (H.next+2) (.arr 0 3 (setAt (ints ((fB ns xs i).set i ((D.take k).map (weight ns)).sum)) i [.lit (.int .i64 (((D.take k).map (weight ns)).sum+weight ns w))])):=⟨_,rfl⟩
  rw[<- hH4];have n4:H4.next=Hx.next:=by rw[hH4];exact n3
  have k4:∀ id,id≠H.next+2->id≠Hb.next->H4.get id=Hx.get id:=fun id h1 h2=>by rw[hH4,ag,if_neg h1,o3 id h2]
  have e4:H4.get (H.next+2)=some (.arr 0 3 (ints ((fB ns xs i).set i ((D.take (k+1)).map (weight ns)).sum))):=by
   rw[hH4,ag,if_pos rfl,dF (by rw[List.length_set];omega),List.set_set,es]
  exact⟨by rw[hH4,ag,if_neg (by omega)];exact jB,by omega,⟨by omega,fun id h1 h2=>(k4 id h2 (by omega)).trans (hh2 id h1 h2),e4⟩,fun id h1 h2=>k4 id (by omega) (by omega)⟩
 ·rw[hDl,List.take_of_length_le (Nat.le_refl _),<- hm]at hj;simp only[go_sem,k17,w1];have hi1:(i:Int)<xs.length:=hb;refine⟨by omega,⟨i+1,rfl,by omega,by omega,fun id h1 h2=>(hj.2.1 id (by omega) h2).trans ((oa id (by omega)).trans (hk id h1 h2)),by rw[Lh hr];exact hj.2.2⟩,by rw[h17];simp only[aa,aK];omega⟩
end Go.Proofs
namespace Go.Proofs
def before (r:Nat->Int)(i j:Nat):Prop:=r j<r i\/(r i=r j/\i<j)
theorem O5 {r:Nat->Int}{i j:Nat}(h:before r i j):¬ before r j i:=fun k=>by unfold before at *;omega
theorem Cv {r:Nat->Int}{i j:Nat}(h:i≠j):before r i j\/before r j i:=by unfold before;omega
structure Top (r:Nat->Int)(n k:Nat)(M:Nat->Bool):Prop where
 count:(List.range n).countP M=k
 first:∀ i j,i<n->j<n->M i=true->M j=false->before r i j
theorem O6 {l:List Nat}{p q:Nat->Bool}(h:∀ x∈l,p x=true->q x=true){a:Nat}(ha:a∈l)(hp:p a=false)(hq:q a=true):l.countP p<l.countP q:=by
 induction l with
 | nil=>cases ha
 | cons x l ih =>
  have hm:l.countP p<=l.countP q:=List.countP_mono_left fun y hy=>h y (by simp [hy]);rcases List.mem_cons.1 ha with rfl|ha
  ·rw[List.countP_cons,List.countP_cons,hp,hq];simp;omega
  ·have:=ih (fun y hy=>h y (by simp [hy])) ha;have hx:=h x (by simp);rw[List.countP_cons,List.countP_cons];cases hpx:p x
   ·simp;omega
   ·rw[hx hpx];simp;omega
theorem Top.unique {r:Nat->Int}{n k:Nat}{M M':Nat->Bool}(h:Top r n k M)(h':Top r n k M'):∀ i,i<n->M i=M' i:=by
 have key:∀ {M M':Nat->Bool},Top r n k M->Top r n k M'->∀ i,i<n->M i=true->M' i=true:=by
  intro M M' h h' i hi hm;rcases Bool.eq_false_or_eq_true (M' i) with e|e
  ·exact e
    -- some place of M' is not in M
  have:∃ j,j<n/\M' j=true/\M j=false:=by
   refine Classical.byContradiction fun hno=>?_;have hsub:∀ x∈List.range n,M' x=true->M x=true:=fun x hx hx'=>by
    rcases Bool.eq_false_or_eq_true (M x) with e|e
    ·exact e
    ·exact absurd ⟨x,List.mem_range.1 hx,hx',e⟩ hno
   have:=O6 hsub (List.mem_range.2 hi) e hm;rw[h.count,h'.count]at this;omega
  obtain⟨j,hj,a,b⟩:=this;exact absurd (h'.first j i hj hi a e) (O5 (h.first i j hi hj hm b))
 intro i hi;have a:=key h h' i hi;have b:=key h' h i hi;cases h1:M i<;>cases h2:M' i<;>simp_all
theorem Top.zero {r:Nat->Int}{n:Nat}:Top r n 0 (fun _=>false):=⟨by simp,fun _ _ _ _ h=>by cases h⟩
theorem Top.step {r:Nat->Int}{n k b:Nat}{M:Nat->Bool}(h:Top r n k M)(hb:b<n)(hm:M b=false)(hmin:∀ j,j<n->M j=false->j≠b->before r b j):
  Top r n (k+1) (fun i=>decide (i=b) || M i) where
 count:=by
  have:∀ l:List Nat,l.Nodup->b∈l->l.countP (fun i=>decide (i=b) || M i)=l.countP M+1:=by
   intro l
   induction l with
   | nil=>intro _ h;cases h
   | cons x l ih =>
    intro hnd hmem;obtain⟨h1,h2⟩:=List.nodup_cons.1 hnd;rw[List.countP_cons,List.countP_cons];rcases List.mem_cons.1 hmem with rfl|hmem
    ·have:l.countP (fun i=>decide (i=b) || M i)=l.countP M:=List.countP_congr fun y hy=>by
      have:y≠b:=(by rintro rfl;exact h1 hy);simp [this]
     rw[this];simp [hm]
    ·have hx:x≠b:=(by rintro rfl;exact h1 hmem);rw[ih h2 hmem];simp [hx];omega
  rw[this _ List.nodup_range (List.mem_range.2 hb),h.count]
 first i j hi hj h1 h2:=by
  simp only[Bool.or_eq_true,decide_eq_true_eq,Bool.or_eq_false_iff,decide_eq_false_iff_not]at h1 h2;rcases h1 with rfl|h1
  ·exact hmin j hj h2.2 h2.1
  ·exact h.first i j hi hj h1 h2.2
theorem Top.sorted {r:Nat->Int}{n k:Nat}{l:List Nat}(hp:l.Perm (List.range n))(hs:l.Pairwise (before r))(hk:k<=n):Top r n k (fun i=>decide (i∈l.take k)) where
 count:=by
  rw[<- hp.countP_eq];have hnd:l.Nodup:=hp.nodup_iff.2 List.nodup_range;have hl:l.length=n:=by simpa using hp.length_eq
  conv=>lhs;rw[<- List.take_append_drop k l]
  rw[List.countP_append];have e1:(l.take k).countP (fun i=>decide (i∈(List.take k l++List.drop k l).take k))=k:=by
   have:(l.take k).length=k:=by simp;omega
   conv=>rhs;rw[<- this]
   rw[List.countP_eq_length];intro x hx;simpa using hx
  have e2:(l.drop k).countP (fun i=>decide (i∈(List.take k l++List.drop k l).take k))=0:=by
   rw[List.countP_eq_zero];intro x hx;rw[List.take_append_drop];simp only[decide_eq_true_eq];intro hx2;have:=(List.take_append_drop k l) ▸ hnd;rw[List.nodup_append]at this;exact this.2.2 x hx2 x hx rfl
  rw[e1,e2];rfl
 first i j hi hj h1 h2:=by
  simp only[decide_eq_true_eq,decide_eq_false_iff_not]at h1 h2;have hjl:j∈l:=hp.mem_iff.2 (List.mem_range.2 hj);rw[<- List.take_append_drop k l]at hjl hs;rcases List.mem_append.1 hjl with h|h
  ·exact absurd h h2
  ·exact(List.pairwise_append.1 hs).2.2 i h1 j h
def dM (c:List Int):List Int:=if 0<c.sum then c else List.replicate c.length 1
def cT (c:List Int):Int:=if 0<c.sum then c.sum else c.length
def partAt (sp:Int)(c:List Int)(i:Nat):Int:=sp*(dM c).getD i 0 / cT c
def bF (sp:Int)(c:List Int)(i:Nat):Int:=sp*(dM c).getD i 0 % cT c
def dQ (grain least:Int)(c:List Int):Int:=grain - least*c.length
def dG (sp:Int)(c:List Int):Int:=sp - ((List.range c.length).map (partAt sp c)).sum
theorem Cw (c:List Int):(dM c).length=c.length:=by unfold dM;split<;>simp
theorem Cx (c:List Int):(dM c).sum=cT c:=by
 unfold dM cT;split
 ·rfl
 ·simp
theorem Cy {c:List Int}(h:∀ x∈c,0<=x):∀ x∈dM c,0<=x:=by
 unfold dM;split
 ·exact h
 ·intro x hx;rw[List.mem_replicate]at hx;omega
theorem mQ {c:List Int}(h:0<c.length):0<cT c:=by unfold cT;split<;>omega
theorem tV (l:List Nat)(f g:Nat->Int):(l.map fun i=>f i+g i).sum=(l.map f).sum+(l.map g).sum:=by
 induction l with
 | nil=>rfl
 | cons x l ih=>simp only[List.map_cons,List.sum_cons,ih];omega
theorem xS (l:List Nat)(k:Int)(f:Nat->Int):(l.map fun i=>k*f i).sum=k*(l.map f).sum:=by
 induction l with
 | nil=>simp
 | cons x l ih=>simp only[List.map_cons,List.sum_cons,ih];rw[Int.mul_add]
theorem O7 {l:List Nat}{f:Nat->Int}{b:Int}(h:∀ i∈l,f i<=b):(l.map f).sum<=b*l.length:=by
 induction l with
 | nil=>simp
 | cons x l ih =>
  have h1:=ih fun i hi=>h i (by simp [hi]);have h2:=h x (by simp);simp only[List.map_cons,List.sum_cons,List.length_cons];have:b*((l.length+1:Nat):Int)=b*l.length+b:=by push_cast;rw[Int.mul_add];simp
  omega
theorem O8 {l:List Nat}{f:Nat->Int}(h:∀ i∈l,0<=f i):0<=(l.map f).sum:=by
 induction l with
 | nil=>simp
 | cons x l ih =>
  have h1:=ih fun i hi=>h i (by simp [hi]);have h2:=h x (by simp);simp only[List.map_cons,List.sum_cons];omega
theorem qJ {sp:Int}{c:List Int}(h:0<c.length)(i:Nat):0<=bF sp c i/\bF sp c i<cT c :=
 ⟨Int.emod_nonneg _ (by have:=mQ h;omega),Int.emod_lt_of_pos _ (mQ h)⟩
theorem O9 {sp:Int}{c:List Int}(h:0<c.length):dG sp c*cT c=((List.range c.length).map (bF sp c)).sum:=by
 have e:∀ i,sp*(dM c).getD i 0=cT c*partAt sp c i+bF sp c i:=fun i=>by
  unfold partAt bF;exact(Int.mul_ediv_add_emod _ _).symm
 have h1:((List.range c.length).map fun i=>sp*(dM c).getD i 0).sum=sp*cT c:=by
  rw[xS,<- Cw c,wX,Cx]
 have h2:((List.range c.length).map fun i=>sp*(dM c).getD i 0).sum=cT c*((List.range c.length).map (partAt sp c)).sum+((List.range c.length).map (bF sp c)).sum:=by
  rw[<- xS,<- tV];congr 1;exact List.map_congr_left fun i _=>e i
 unfold dG;rw[Int.sub_mul,<- h1,h2,Int.mul_comm (cT c)];omega
theorem tW {sp:Int}{c:List Int}(h:0<c.length):0<=dG sp c/\dG sp c<c.length:=by
 have hT:=mQ h;have e:=O9 (sp:=sp) h;have h0:0<=((List.range c.length).map (bF sp c)).sum:=O8 fun i _=>(qJ h i).1;have h1:((List.range c.length).map (bF sp c)).sum<=(cT c - 1)*(List.range c.length).length:=O7 fun i _=>by have:=(qJ (sp:=sp) h i).2;omega
 rw[<- e]at h0 h1;simp only[List.length_range]at h1;constructor
 ·exact Classical.byContradiction fun hn=>by
   have:dG sp c*cT c<0:=Int.mul_neg_of_neg_of_pos (by omega) hT;omega
 ·exact Classical.byContradiction fun hn=>by
   have h3:(c.length:Int)*cT c<=dG sp c*cT c:=Int.mul_le_mul_of_nonneg_right (by omega) (by omega);have h4:(cT c - 1)*(c.length:Int)=c.length*cT c - c.length:=(by rw[Int.sub_mul,Int.mul_comm];omega);omega
def cR (least sp:Int)(c:List Int)(M:Nat->Bool):List Int:=(List.range c.length).map fun i=>least+partAt sp c i+if M i then 1 else 0
def iT (least sp:Int)(c s:List Int):Prop:=∃ M,Top (bF sp c) c.length (dG sp c).toNat M/\s=cR least sp c M
theorem iT.unique {least sp:Int}{c s s':List Int}(h:iT least sp c s)(h':iT least sp c s'):s=s':=by
 obtain⟨M,h1,rfl⟩:=h;obtain⟨M',h2,rfl⟩:=h';unfold cR;apply List.map_congr_left;intro i hi;rw[h1.unique h2 i (List.mem_range.1 hi)]
end Go.Proofs
namespace Go.Proofs
def cG (n:Nat)(f:Nat->Int):Int:=((List.range n).map f).sum
theorem tX (n:Nat)(f g:Nat->Int):cG n (fun i=>f i+g i)=cG n f+cG n g:=tV _ _ _
theorem qK (n:Nat)(k:Int)(f:Nat->Int):cG n (fun i=>k*f i)=k*cG n f:=xS _ _ _
theorem tY {n:Nat}{f g:Nat->Int}(h:∀ i,i<n->f i=g i):cG n f=cG n g:=by
 unfold cG;rw[List.map_congr_left fun i hi=>h i (List.mem_range.1 hi)]
theorem Pa {l:List Nat}{f g:Nat->Int}(h:∀ i∈l,f i<=g i):(l.map f).sum<=(l.map g).sum:=by
 induction l with
 | nil=>simp
 | cons x l ih =>
  have h1:=ih fun i hi=>h i (by simp [hi]);have h2:=h x (by simp);simp only[List.map_cons,List.sum_cons];omega
theorem xT {n:Nat}{f g:Nat->Int}(h:∀ i,i<n->f i<=g i):cG n f<=cG n g:=Pa fun i hi=>h i (List.mem_range.1 hi)
theorem xU (l:List Nat)(p:Nat->Bool):((l.countP p:Nat):Int)=(l.map fun i=>if p i then (1:Int) else 0).sum:=by
 induction l with
 | nil=>rfl
 | cons x l ih =>
  rw[List.countP_cons];cases h:p x
  ·simp [ih,h]
  ·simp [ih,h];omega
theorem threshold (l:List Nat)(p:Nat->Bool)(g:Nat->Int):∃ θ:Int,0<=θ/\(∀ i∈l,p i=true->g i<=θ)/\(θ=0\/∃ i∈l,p i=true/\θ=g i):=by
 induction l with
 | nil=>exact⟨0,by omega,fun i h=>(by cases h),.inl rfl⟩
 | cons x l ih =>
  obtain⟨θ,h0,h1,h2⟩:=ih;by_cases hx:p x=true/\θ<g x
  ·refine⟨g x,by omega,fun i hi hp=>?_,.inr ⟨x,by simp,hx.1,rfl⟩⟩;rcases List.mem_cons.1 hi with rfl|hi
   ·exact Int.le_refl _
   ·have:=h1 i hi hp;omega
  ·refine⟨θ,h0,fun i hi hp=>?_,?_⟩
   ·rcases List.mem_cons.1 hi with rfl|hi
    ·exact Classical.byContradiction fun hn=>hx ⟨hp,by omega⟩
    ·exact h1 i hi hp
   ·rcases h2 with h2|⟨i,hi,hp,he⟩
    ·exact .inl h2
    ·exact .inr ⟨i,by simp [hi],hp,he⟩
theorem Cz {n:Nat}{M N:Nat->Bool}{g:Nat->Int}(hg:∀ i,i<n->0<=g i)(hM:∀ i j,i<n->j<n->M i=true->M j=false->g i<=g j)(hc:(List.range n).countP M<=(List.range n).countP N):
  cG n (fun i=>if M i then g i else 0)<=cG n (fun i=>if N i then g i else 0):=by
 obtain⟨θ,h0,h1,h2⟩:=threshold (List.range n) M g;have h3:∀ j,j<n->M j=false->θ<=g j:=fun j hj hm=>by
  rcases h2 with rfl|⟨i,hi,hp,rfl⟩
  ·exact hg j hj
  ·exact hM i j (List.mem_range.1 hi) hj hp hm
 have hpt:cG n (fun i=>(if M i then g i else 0)+θ*(if N i then 1 else 0))<=cG n (fun i=>(if N i then g i else 0)+θ*(if M i then 1 else 0)):=by
  refine xT fun i hi=>?_;have a:=h1 i (List.mem_range.2 hi);have b:=h3 i hi;cases hm:M i<;>cases hn:N i
  ·simp
  ·simp;exact b hm
  ·simp;exact a hm
  ·simp
 rw[tX,tX,qK,qK]at hpt;have e1:cG n (fun i=>if M i then (1:Int) else 0)=((List.range n).countP M:Nat):=(xU _ _).symm;have e2:cG n (fun i=>if N i then (1:Int) else 0)=((List.range n).countP N:Nat):=(xU _ _).symm;rw[e1,e2]at hpt;have h4:θ*((List.range n).countP M:Nat)<=θ*((List.range n).countP N:Nat):=Int.mul_le_mul_of_nonneg_left (by omega) h0;omega
def lM (d:Int):Int:=max d (-d)
def gM (d:Int):Int:=max d 0
theorem Pb (d:Int):lM d=2*gM d+(-1)*d:=by unfold lM gM;omega
theorem abs_neg (d:Int):lM d=2*gM (-d)+d:=by unfold lM gM;omega
theorem CA {n:Nat}{f:Nat->Int}(h:cG n f=0):cG n (fun i=>lM (f i))=2*cG n (fun i=>gM (f i)):=by
 rw[tY fun i _=>Pb _,tX,qK,qK,h];omega
theorem CB {n:Nat}{f:Nat->Int}(h:cG n f=0):cG n (fun i=>lM (f i))=2*cG n (fun i=>gM (-f i)):=by
 rw[tY fun i _=>abs_neg _,tX,qK,h];omega
theorem CC (l:List Nat)(p:Nat->Bool):l.countP (fun i=>!p i)+l.countP p=l.length:=by
 induction l with
 | nil=>rfl
 | cons x l ih =>
  rw[List.countP_cons,List.countP_cons,List.length_cons];cases h:p x<;>simp<;>omega
theorem nearest {n:Nat}{t k:Nat}{ρ q x:Nat->Int}{M:Nat->Bool}(hρ:∀ i,i<n->0<=ρ i/\ρ i<t)(hM:Top ρ n k M)
  (h0:cG n (fun i=>(t:Int)*(q i+(if M i then 1 else 0)) - (t*q i+ρ i))=0) (h1:cG n (fun i=>(t:Int)*x i - (t*q i+ρ i))=0):
  cG n (fun i=>lM (t*(q i+(if M i then 1 else 0)) - (t*q i+ρ i)))<=cG n (fun i=>lM (t*x i - (t*q i+ρ i))):=by
 let N:Nat->Bool:=fun i=>decide (q i+1<=x i)
 have ge:∀ i j,i<n->j<n->M i=true->M j=false->ρ j<=ρ i:=fun i j hi hj a b=>by
  have:=hM.first i j hi hj a b;unfold before at this;omega
 rcases Nat.le_total k ((List.range n).countP N) with hk|hk
 ·rw[CA h0,CA h1];have a1:cG n (fun i=>gM (t*(q i+(if M i then 1 else 0)) - (t*q i+ρ i)))=cG n (fun i=>if M i then t - ρ i else 0):=tY fun i hi=>by
   have:=hρ i hi;rw[Int.mul_add];unfold gM;cases M i<;>simp<;>omega
  have a2:cG n (fun i=>if N i then t - ρ i else 0)<=cG n (fun i=>gM (t*x i - (t*q i+ρ i))):=xT fun i hi=>by
   have:=hρ i hi;unfold gM;by_cases h:q i+1<=x i
   ·have h5:(t:Int)*(q i+1)<=t*x i:=Int.mul_le_mul_of_nonneg_left h (by omega);rw[Int.mul_add]at h5;simp only[N,h,decide_true,if_true];omega
   ·simp only[N,h,decide_false,Bool.false_eq_true,if_false];omega
  have a3:=Cz (M:=M) (N:=N) (g:=fun i=>t - ρ i) (fun i hi=>by have:=hρ i hi;omega) (fun i j hi hj a b=>by have:=ge i j hi hj a b;omega) (by rw[hM.count];exact hk);rw[a1];omega
 ·rw[CB h0,CB h1];have a1:cG n (fun i=>gM (-(t*(q i+(if M i then 1 else 0)) - (t*q i+ρ i))))=cG n (fun i=>if !M i then ρ i else 0):=tY fun i hi=>by
   have:=hρ i hi;rw[Int.mul_add];unfold gM;cases M i<;>simp<;>omega
  have a2:cG n (fun i=>if !N i then ρ i else 0)<=cG n (fun i=>gM (-(t*x i - (t*q i+ρ i)))):=xT fun i hi=>by
   have:=hρ i hi;unfold gM;by_cases h:q i+1<=x i
   ·simp only[N,h,decide_true,Bool.not_true,Bool.false_eq_true,if_false];omega
   ·have h5:(t:Int)*x i<=t*q i:=Int.mul_le_mul_of_nonneg_left (by omega) (by omega);simp only[N,h,decide_false,Bool.not_false,if_true];omega
  have c1:=CC (List.range n) M;have c2:=CC (List.range n) N;have a3:=Cz (M:=fun i=>!M i) (N:=fun i=>!N i) (g:=ρ) (fun i hi=>(hρ i hi).1) (fun i j hi hj a b=>by
   simp only[Bool.not_eq_true',Bool.not_eq_false']at a b;exact ge j i hj hi b a) (by have:=hM.count;omega)
  rw[a1];omega
end Go.Proofs
namespace Go.Proofs
theorem iU (least sp:Int)(c:List Int)(M:Nat->Bool):(cR least sp c M).length=c.length:=by simp [cR]
theorem lQ {least sp:Int}{c:List Int}{M:Nat->Bool}{i:Nat}(h:i<c.length):(cR least sp c M)[i]?=some (least+partAt sp c i+if M i then 1 else 0):=by
 unfold cR;rw[List.getElem?_map,List.getElem?_range h];rfl
theorem Pc (n:Nat)(a:Int):((List.range n).map fun _=>a).sum=a*n:=by
 induction n with
 | zero=>simp
 | succ n ih=>rw[List.range_succ,List.map_append,List.sum_append,ih];simp;rw[Int.mul_add,Int.mul_one]
theorem Pd {c:List Int}(h:∀ x∈c,0<=x)(i:Nat):0<=(dM c).getD i 0:=by
 rw[List.getD_eq_getElem?_getD];cases e:(dM c)[i]? with
 | none=>exact Int.le_refl _
 | some a=>exact Cy h a (List.mem_of_getElem? e)
theorem qL {c:List Int}(h:∀ x∈c,0<=x)(h0:0<c.length){sp:Int}(hs:0<=sp)(i:Nat):0<=partAt sp c i :=
 Int.ediv_nonneg (Int.mul_nonneg hs (Pd h i)) (Int.le_of_lt (mQ h0))
theorem Pe {least grain:Int}{c s:List Int}(h0:0<c.length)(h:iT least (dQ grain least c) c s):s.length=c.length/\s.sum=grain:=by
 obtain⟨M,hM,rfl⟩:=h;refine⟨iU ..,?_⟩;have hb:=tW (sp:=dQ grain least c) h0;have hc:=xU (List.range c.length) M;rw[hM.count]at hc;have e1:(cR least (dQ grain least c) c M).sum=((List.range c.length).map fun _=>least).sum+(((List.range c.length).map (partAt (dQ grain least c) c)).sum+((List.range c.length).map fun i=>if M i then (1:Int) else 0).sum):=by
  rw[<- tV,<- tV];unfold cR;congr 1;exact List.map_congr_left fun i _=>by omega
 rw[e1,Pc,<- hc];have:((dG (dQ grain least c) c).toNat:Int)=dG (dQ grain least c) c:=by omega
 rw[this];unfold dG dQ;omega
theorem Pf {least grain:Int}{c s:List Int}(hc:∀ x∈c,0<=x)(h0:0<c.length)(hs:0<=dQ grain least c)(h:iT least (dQ grain least c) c s):∀ x∈s,least<=x:=by
 obtain⟨M,hM,rfl⟩:=h;intro x hx;unfold cR at hx;obtain⟨i,hi,rfl⟩:=List.mem_map.1 hx;have:=qL hc h0 hs i;split<;>omega
theorem CD:∀ {l:List Int},(∀ x∈l,0<=x)->∀ x∈l,x<=l.sum
 | a :: l,h,x,hx=>by
  have h1:0<=l.sum:=by
   have:∀ l:List Int,(∀ x∈l,0<=x)->0<=l.sum:=by
    intro l
    induction l with
    | nil=>intro _;simp
    | cons b l ih=>intro h;have:=h b (by simp);have:=ih fun x hx=>h x (by simp [hx]);rw[List.sum_cons];omega
   exact this l fun x hx=>h x (by simp [hx])
  rw[List.sum_cons];rcases List.mem_cons.1 hx with rfl|hx
  ·omega
  ·have:=CD (fun y hy=>h y (by simp [hy])) x hx;have:=h a (by simp);omega
end Go.Proofs
namespace Go.Proofs
open Go.Hx
theorem o0 {α:Type}(l:List α)(i j:Nat)(a d:α)(hi:i<l.length):(l.set i a).getD j d=if i=j then a else l.getD j d:=by
 rw[List.getD_eq_getElem?_getD,List.getD_eq_getElem?_getD,List.getElem?_set];by_cases h:i=j
 ·subst h;rw[if_pos rfl,if_pos hi,if_pos rfl];rfl
 ·rw[if_neg h,if_neg h]
theorem jx {l:List Nat}{i:Nat}(h:i<l.length):l[i]?=some (l.getD i 0):=by
 rw[List.getD_eq_getElem?_getD,List.getElem?_eq_getElem h];rfl
def bZ (l:List Nat)(i j:Nat):List Nat:=(l.set i (l.getD j 0)).set j (l.getD i 0)
theorem Pg (l:List Nat)(i j:Nat):(bZ l i j).length=l.length:=by simp [bZ]
theorem Ph {l:List Nat}{i j:Nat}(hi:i<l.length)(hj:j<l.length)(hij:i≠j)(a:Nat):(bZ l i j).getD a 0=if a=j then l.getD i 0 else if a=i then l.getD j 0 else l.getD a 0:=by
 unfold bZ;rw[o0 _ _ _ _ _ (by rw[List.length_set];exact hj),o0 _ _ _ _ _ hi];by_cases h1:a=j
 ·rw[if_pos h1,if_pos h1.symm]
 ·rw[if_neg h1,if_neg fun h=>h1 h.symm];by_cases h2:a=i
  ·rw[if_pos h2,if_pos h2.symm]
  ·rw[if_neg h2,if_neg fun h=>h2 h.symm]
def CE (f:Nat->Nat)(l:List Nat)(n:Nat):Prop:=∀ a b,a<b->b<n->f (l.getD a 0)<=f (l.getD b 0)
theorem Pi {l:List Nat}{i j:Nat}(hi:i<l.length)(hj:j<l.length):(bZ l i j).Perm l:=by
 unfold bZ;rw[List.getD_eq_getElem?_getD,List.getD_eq_getElem?_getD,List.getElem?_eq_getElem hi,List.getElem?_eq_getElem hj];exact List.set_set_perm hi hj
def mR (r:Nat->Int)(T n:Nat)(i:Nat):Nat:=(T - (r i).toNat)*n+i
theorem tZ {r:Nat->Int}{T n:Nat}(hr:∀ i,i<n->0<=r i/\r i<T){i j:Nat}(hi:i<n)(hj:j<n):mR r T n i<mR r T n j↔before r i j:=by
 have h1:=hr i hi;have h2:=hr j hj;unfold mR before;obtain⟨a,ha⟩:∃ a,a=T - (r i).toNat:=⟨_,rfl⟩
 obtain⟨b,hb⟩:∃ b,b=T - (r j).toNat:=⟨_,rfl⟩
 rw[<- ha,<- hb];rcases Nat.lt_trichotomy a b with h|h|h
 ·have:(a+1)*n<=b*n:=Nat.mul_le_mul_right _ h;rw[Nat.add_mul,Nat.one_mul]at this;constructor
  ·intro _;left;omega
  ·intro _;omega
 ·subst h;constructor
  ·intro h;right;omega
  ·rintro(h|h)<;>omega
 ·have:(b+1)*n<=a*n:=Nat.mul_le_mul_right _ h;rw[Nat.add_mul,Nat.one_mul]at this;constructor
  ·intro h;omega
  ·rintro(h|h)<;>omega
theorem Pj {r:Nat->Int}{T n:Nat}(hr:∀ i,i<n->0<=r i/\r i<T){l:List Nat}(hp:l.Perm (List.range n))(hs:CE (mR r T n) l l.length):l.Pairwise (before r):=by
 have hm:∀ a∈l,a<n:=fun a ha=>List.mem_range.1 (hp.mem_iff.1 ha);have hnd:l.Nodup:=hp.nodup_iff.2 List.nodup_range;rw[List.pairwise_iff_getElem];intro i j hi hj hij;have h:=hs i j hij hj;rw[List.getD_eq_getElem?_getD,List.getD_eq_getElem?_getD,List.getElem?_eq_getElem hi,List.getElem?_eq_getElem hj]at h;simp only[Option.getD_some]at h;have hne:l[i]≠l[j]:=fun e=>by
  have:=(List.getElem?_inj hi hnd).1 (show l[i]?=l[j]? by rw[List.getElem?_eq_getElem hi,e,<- List.getElem?_eq_getElem hj]);omega
 rcases Cv hne (r:=r) with b|b
 ·exact b
 ·have:=(tZ hr (hm _ (List.getElem_mem hj)) (hm _ (List.getElem_mem hi))).2 b;omega
end Go.Proofs
