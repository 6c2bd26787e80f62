/-
  Closed facts of this seat's types. Laid by a program of ours.
-/
import Derived.Test.YtakancljiekbhaaProg
import Derived.Test.YtakancljiekbhaaLibC
import Derived.Test.YtakancljiekbhaaLibB
set_option linter.all false
namespace Go.Proofs
open Go.Hx
theorem Try.mixed:Try.prog.follows .mixedOrders=true:=by kernel_rfl
theorem Try.eZ:Try.prog.cellsOf 3=1:=by kernel_rfl
theorem Try.gS:Try.prog.bytesOf 3=8:=by kernel_rfl
theorem Try.fS:bU Try.prog 3=some [.lit (.int .i64 0)]:=by kernel_rfl
theorem Try.OQ:Try.prog.cellsOf 4=1:=by kernel_rfl
theorem Try.OS:bU Try.prog 4=some [.lit (.bool false)]:=by kernel_rfl
theorem Try.pf:Try.prog.cellsOf 5=1:=by kernel_rfl
theorem Try.OT:Try.prog.bytesOf 5=1:=by kernel_rfl
theorem Try.OU:bU Try.prog 5=some [.lit (.int .u8 0)]:=by kernel_rfl
theorem Try.C4:Try.prog.cellsOf 22=1:=by kernel_rfl
theorem Try.uw:Try.prog.cellsOf 23=1:=by kernel_rfl
theorem Try.C5:Try.prog.cellsOf 25=3:=by kernel_rfl
theorem Try.OV:bX Try.prog 25 0=some (0,5):=by kernel_rfl
theorem Try.OW:bX Try.prog 25 1=some (1,22):=by kernel_rfl
theorem Try.OX:bX Try.prog 25 2=some (2,23):=by kernel_rfl
theorem Try.C6:Try.prog.cellsOf 27=4:=by kernel_rfl
theorem Try.OY:bX Try.prog 27 0=some (0,5):=by kernel_rfl
theorem Try.OZ:bX Try.prog 27 1=some (1,5):=by kernel_rfl
theorem Try.O0:bX Try.prog 27 2=some (2,5):=by kernel_rfl
theorem Try.O1:bX Try.prog 27 3=some (3,3):=by kernel_rfl
theorem Try.C7:Try.prog.cellsOf 28=1:=by kernel_rfl
theorem Try.C8:Try.prog.cellsOf 30=3:=by kernel_rfl
theorem Try.O2:bX Try.prog 32 0=some (0,25):=by kernel_rfl
theorem Try.O3:bX Try.prog 32 1=some (3,27):=by kernel_rfl
theorem Try.O4:bX Try.prog 32 2=some (7,28):=by kernel_rfl
theorem Try.O5:bX Try.prog 32 3=some (8,23):=by kernel_rfl
theorem Try.O6:Try.prog.cellsOf 33=1:=by kernel_rfl
theorem Try.O7:Try.prog.cellsOf 35=2:=by kernel_rfl
theorem Try.O8:bU Try.prog 35=some [.lit (.int .i64 0),.lit (.slice none 0 0)]:=by kernel_rfl
theorem Try.O9:jH Try.prog 35=some [(0,1),(1,1)]:=by kernel_rfl
theorem Try.Pa:bX Try.prog 35 0=some (0,3):=by kernel_rfl
theorem Try.Pb:bX Try.prog 35 1=some (1,33):=by kernel_rfl
theorem Try.pg:Try.prog.cellsOf 39=1:=by kernel_rfl
theorem Try.ph:Try.prog.bytesOf 39=24:=by kernel_rfl
theorem Try.pj:bU Try.prog 39=some [.lit (.slice none 0 0)]:=by kernel_rfl
theorem Try.Pc:Try.prog.cellsOf 40=1:=by kernel_rfl
theorem Try.Pd:Try.prog.cellsOf 42=2:=by kernel_rfl
theorem Try.Pe:bU Try.prog 42=some [.lit (.slice none 0 0),.lit (.slice none 0 0)]:=by kernel_rfl
theorem Try.Pf:jH Try.prog 42=some [(0,1),(1,1)]:=by kernel_rfl
theorem Try.Pg:bX Try.prog 42 0=some (0,39):=by kernel_rfl
theorem Try.Ph:bX Try.prog 42 1=some (1,40):=by kernel_rfl
theorem Try.C9:Try.prog.cellsOf 45=1:=by kernel_rfl
theorem Try.Da:Try.prog.bytesOf 45=8:=by kernel_rfl
theorem Try.Db:bU Try.prog 45=some [.lit (.int .u64 0)]:=by kernel_rfl
theorem Try.yC:Try.prog.cellsOf 69=3:=by kernel_rfl
theorem Try.yD:Try.prog.bytesOf 69=56:=by kernel_rfl
theorem Try.yE:bU Try.prog 69=some [.lit (.int .i64 0),.lit (.slice none 0 0),.lit (.slice none 0 0)]:=by kernel_rfl
theorem Try.Pi:jH Try.prog 69=some [(0,1),(1,1),(2,1)]:=by kernel_rfl
theorem Try.Pj:bX Try.prog 69 0=some (0,3):=by kernel_rfl
theorem Try.Pk:bX Try.prog 69 1=some (1,39):=by kernel_rfl
theorem Try.Pm:bX Try.prog 69 2=some (2,40):=by kernel_rfl
theorem Try.Pn:Try.prog.cellsOf 78=1:=by kernel_rfl
theorem Try.Dc:Try.prog.cellsOf 81=1:=by kernel_rfl
theorem Try.Po:Try.prog.cellsOf 83=3:=by kernel_rfl
theorem Try.Pp:bU Try.prog 83=some [.lit (.slice none 0 0),.lit (.int .u16 0),.lit (.slice none 0 0)]:=by kernel_rfl
theorem Try.Pq:jH Try.prog 83=some [(0,1),(1,1),(2,1)]:=by kernel_rfl
theorem Try.Pr:bX Try.prog 83 0=some (0,23):=by kernel_rfl
theorem Try.Ps:bX Try.prog 83 2=some (2,23):=by kernel_rfl
theorem Try.Dd:Try.prog.cellsOf 86=3:=by kernel_rfl
theorem Try.Pt:bU Try.prog 86=some [.lit (.int .u8 0),.lit (.int .u8 0),.lit (.slice none 0 0)]:=by kernel_rfl
theorem Try.Pu:bX Try.prog 86 0=some (0,5):=by kernel_rfl
theorem Try.Pv:bX Try.prog 86 1=some (1,5):=by kernel_rfl
theorem Try.Pw:bX Try.prog 86 2=some (2,23):=by kernel_rfl
theorem Try.Px:Try.prog.cellsOf 100=1:=by kernel_rfl
theorem Try.Py:bU Try.prog 100=some [.lit (.slice none 0 0)]:=by kernel_rfl
theorem Try.yF:Try.prog.cellsOf 104=1:=by kernel_rfl
theorem Try.yG:Try.prog.bytesOf 104=8:=by kernel_rfl
theorem Try.yH:bU Try.prog 104=some [.lit (.int .u64 0)]:=by kernel_rfl
theorem Try.Pz:Try.prog.cellsOf 106=1:=by kernel_rfl
theorem Try.PA:bU Try.prog 106=some [.lit .nilFunc]:=by kernel_rfl
theorem Try.PB:Try.prog.cellsOf 111=1:=by kernel_rfl
theorem Try.PC:Try.prog.cellsOf 127=3:=by kernel_rfl
theorem Try.PD:bU Try.prog 127=some [.lit (.int .i64 0),.lit (.slice none 0 0),.lit (.slice none 0 0)]:=by kernel_rfl
theorem Try.PE:jH Try.prog 127=some [(0,2),(2,1)]:=by kernel_rfl
theorem Try.PF:bX Try.prog 127 0=some (0,35):=by kernel_rfl
theorem Try.PG:bX Try.prog 127 1=some (2,39):=by kernel_rfl
theorem Try.PH:Try.prog.cellsOf 145=5:=by kernel_rfl
theorem Try.PI:bU Try.prog 145=some [.lit (.int .i64 0),.lit (.slice none 0 0),.lit (.slice none 0 0),.lit (.slice none 0 0),.lit (.slice none 0 0)]:=by kernel_rfl
theorem Try.PJ:jH Try.prog 145=some [(0,2),(2,1),(3,1),(4,1)]:=by kernel_rfl
theorem Try.PK:bX Try.prog 145 0=some (0,35):=by kernel_rfl
theorem Try.PL:bX Try.prog 145 1=some (2,39):=by kernel_rfl
theorem Try.PM:bX Try.prog 145 2=some (3,78):=by kernel_rfl
theorem Try.PN:bX Try.prog 145 3=some (4,39):=by kernel_rfl
theorem Try.PO:Try.prog.cellsOf 167=1:=by kernel_rfl
theorem Try.PP:bU Try.prog 167=some [.lit (.int .u64 0)]:=by kernel_rfl
attribute [go_sem] Try.underlying3 Try.eZ Try.gS Try.fS Try.underlying4 Try.OQ Try.OS Try.underlying5 Try.pf Try.OT Try.OU
attribute [go_sem] Try.underlying9 Try.underlying22 Try.C4 Try.underlying23 Try.uw
attribute [go_sem] Try.underlying24 Try.underlying25 Try.C5
attribute [go_sem] Try.OV Try.OW Try.OX Try.underlying26
attribute [go_sem] Try.underlying27 Try.C6 Try.OY Try.OZ Try.O0 Try.O1 Try.underlying28 Try.C7
attribute [go_sem] Try.underlying29 Try.underlying30 Try.C8
attribute [go_sem] Try.underlying31
attribute [go_sem] Try.underlying32 Try.O2 Try.O3 Try.O4
attribute [go_sem] Try.O5 Try.underlying33 Try.O6 Try.underlying34
attribute [go_sem] Try.underlying35 Try.O7 Try.O8 Try.O9 Try.Pa Try.Pb Try.underlying38
attribute [go_sem] Try.underlying39 Try.pg Try.ph Try.pj Try.underlying40 Try.Pc Try.underlying41
attribute [go_sem] Try.underlying42 Try.Pd Try.Pe Try.Pf Try.Pg Try.Ph Try.underlying43
attribute [go_sem] Try.underlying45 Try.C9 Try.Da Try.Db Try.underlying46 Try.underlying47
attribute [go_sem] Try.underlying62 Try.underlying68
attribute [go_sem] Try.underlying69 Try.yC Try.yD Try.yE Try.Pi Try.Pj Try.Pk Try.Pm Try.underlying78 Try.Pn
attribute [go_sem] Try.underlying81 Try.Dc Try.underlying82
attribute [go_sem] Try.underlying83 Try.Po Try.Pp Try.Pq Try.Pr Try.Ps Try.underlying85
attribute [go_sem] Try.underlying86 Try.Dd Try.Pt Try.Pu
attribute [go_sem] Try.Pv Try.Pw Try.underlying99 Try.underlying100 Try.Px Try.Py Try.underlying104 Try.yF
attribute [go_sem] Try.yG Try.yH Try.underlying106 Try.Pz Try.PA Try.underlying111 Try.PB Try.underlying118
attribute [go_sem] Try.underlying122 Try.underlying126
attribute [go_sem] Try.underlying127 Try.PC Try.PD Try.PE Try.PF Try.PG Try.underlying132
attribute [go_sem] Try.underlying144 Try.underlying145 Try.PH
attribute [go_sem] Try.PI Try.PJ Try.PK Try.PL Try.PM Try.PN Try.underlying156 Try.underlying164
attribute [go_sem] Try.underlying167 Try.PO Try.PP
def aE (l:List (List Int)):AVal:=.vec l.length (l.map af)
structure NodeP where
 card:Int
 parents:List Int
 rows:List (List Int)
structure UtilP where
 vars:List Int
 w:List Int
def NodeP.cells (x:NodeP):List AVal:=[aa x.card,af x.parents,aE x.rows]
def UtilP.cells (x:UtilP):List AVal:=[af x.vars,af x.w]
def ar (l:List NodeP):List AVal:=(l.map NodeP.cells).flatten
def Qd (l:List UtilP):List AVal:=(l.map UtilP.cells).flatten
def cM (l:List NodeP):AVal:=.vec l.length (ar l)
def yM (l:List UtilP):AVal:=.vec l.length (Qd l)
def aO (g:Int)(l:List NodeP):AVal:=.agg [aa g,cM l]
structure InfP where
 grain:Int
 nodes:List NodeP
 decs:Nat
 utils:List UtilP
theorem ke {α:Type}{f:α->List AVal}{z:Nat}(hz:∀ a,(f a).length=z):∀ (l:List α) (i j:Nat) (a:α),l[i]?=some a->j<z->((l.map f).flatten)[i*z+j]?=(f a)[j]?:=by
 intro l
 induction l with
 | nil=>intro i j a h;simp at h
 | cons x l ih =>
  intro i j a h hj;simp only[List.map_cons,List.flatten_cons];cases i with
  | zero =>
   simp only[List.getElem?_cons_zero,Option.some.injEq]at h;subst h;rw[Nat.zero_mul,Nat.zero_add,List.getElem?_append_left (by rw[hz];exact hj)]
  | succ i =>
   have:(i+1)*z+j=z+(i*z+j):=(by rw[Nat.add_mul];omega);rw[this,List.getElem?_append_right (by rw[hz];omega),hz];have:z+(i*z+j) - z=i*z+j:=(by omega);rw[this];exact ih i j a (by simpa using h) hj
theorem mh {α:Type}{f:α->List AVal}{z:Nat}(hz:∀ a,(f a).length=z)(l:List α):((l.map f).flatten).length=l.length*z:=by
 induction l with
 | nil=>simp
 | cons x l ih=>simp only[List.map_cons,List.flatten_cons,List.length_append,ih,hz,List.length_cons];rw[Nat.add_mul];omega
theorem pr {α:Type}{f:α->List AVal}{z:Nat}(hz:∀ a,(f a).length=z):∀ (l:List α) (i:Nat) (a:α),l[i]?=some a->(((l.map f).flatten).drop (i*z)).take z=f a:=by
 intro l i a h;apply List.ext_getElem?;intro j;by_cases hj:j<z
 ·rw[List.getElem?_take_of_lt hj,List.getElem?_drop,ke hz l i j a h hj]
 ·rw[List.getElem?_eq_none (by simp;omega),List.getElem?_eq_none (by rw[hz];omega)]
theorem fD (l:List NodeP):(ar l).length=l.length*3:=mh (f:=NodeP.cells) (fun _=>rfl) l
theorem ng {l:List NodeP}{i:Nat}{x:NodeP}(h:l[i]?=some x):(ar l)[i*3]?=some (aa x.card):=ke (f:=NodeP.cells) (z:=3) (fun _=>rfl) l i 0 x h (by omega)
theorem ry {l:List NodeP}{i:Nat}{x:NodeP}(h:l[i]?=some x):(ar l)[i*3+1]?=some (af x.parents):=ke (f:=NodeP.cells) (z:=3) (fun _=>rfl) l i 1 x h (by omega)
theorem DA {l:List NodeP}{i:Nat}{x:NodeP}(h:l[i]?=some x):(ar l)[i*3+2]?=some (aE x.rows):=ke (f:=NodeP.cells) (z:=3) (fun _=>rfl) l i 2 x h (by omega)
theorem kf {l:List NodeP}{i:Nat}{x:NodeP}(h:l[i]?=some x):((ar l).drop (i*3)).take 3=[aa x.card,af x.parents,aE x.rows]:=pr (f:=NodeP.cells) (z:=3) (fun _=>rfl) l i x h
theorem fa {l:List NodeP}{i:Nat}{x:NodeP}(h:l[i]?=some x):¬ ar l=[]:=fun e=>by
 have:=ng h;rw[e]at this;simp at this
theorem get_lt {α:Type}{l:List α}{i:Nat}{x:α}(h:l[i]?=some x):i<l.length:=by
 rcases Nat.lt_or_ge i l.length with h'|h'
 ·exact h'
 ·rw[List.getElem?_eq_none h']at h;cases h
theorem get_of_lt {α:Type}{l:List α}{i:Nat}(h:i<l.length):∃ x,l[i]?=some x:=⟨_,List.getElem?_eq_getElem h⟩
theorem ni {α:Type}{l:List α}{i:Int}(h0:0<=i)(h:i<l.length):∃ k:Nat,i=k/\∃ x,l[k]?=some x:=⟨i.toNat,by omega,get_of_lt (by omega)⟩
def aC (l:List Int):Int:=l.foldl (·*·) 1
theorem DB (l:List Int)(a:Int):l.foldl (·*·) a=a*aC l:=by
 unfold aC
 induction l generalizing a with
 | nil=>simp
 | cons x l ih=>simp only[List.foldl_cons];rw[ih,ih (1*x),Int.one_mul,Int.mul_assoc]
theorem gU:aC []=1:=rfl
theorem iz (x:Int)(l:List Int):aC (x :: l)=x*aC l:=by
 show List.foldl _ (1*x) l=_;rw[DB,Int.one_mul]
theorem uA (l l':List Int):aC (l++l')=aC l*aC l':=by
 unfold aC;rw[List.foldl_append,DB];rfl
theorem iZ (l:List Int)(x:Int):aC (l++[x])=aC l*x:=by rw[uA,iz,gU,Int.mul_one]
theorem aL {α:Type}{l:List α}{k:Nat}{x:α}(h:l[k]?=some x):l.take (k+1)=l.take k++[x]:=by
 rw[List.take_add_one,h];rfl
theorem kP {l:List Int}(h:∀ x∈l,1<=x):1<=aC l:=by
 induction l with
 | nil=>decide
 | cons x l ih =>
  rw[iz];have h1:=ih fun y hy=>h y (by simp [hy]);have h2:=h x (by simp);have:=Int.mul_le_mul h2 h1 (by omega) (by omega);simpa using this
theorem nk {b:Int}{l:List Int}(hb:0<=b)(h:∀ x∈l,0<=x/\x<=b):0<=aC l/\aC l<=b ^ l.length:=by
 induction l with
 | nil=>exact⟨by decide,by simp [aC]⟩
 | cons x l ih =>
  rw[iz];have h1:=ih fun y hy=>h y (by simp [hy]);have h2:=h x (by simp);refine⟨Int.mul_nonneg h2.1 h1.1,?_⟩;have:=Int.mul_le_mul h2.2 h1.2 h1.1 hb;rw[List.length_cons,Int.pow_succ,Int.mul_comm (b ^ l.length)];exact this
def au (l:List NodeP):List Int:=l.map (·.card)
def aY (l places:List Int):List Int:=places.map fun p=>l.getD p.toNat 0
def di (places:List Int)(n:Int):Prop:=places.Pairwise (·<·)/\∀ p∈places,0<=p/\p<n
end Go.Proofs
set_option maxRecDepth 100000
namespace Go.Proofs
open Go.Hx
def G0:Nat->Option (List AVal):=qS
theorem aV:eW G0:=Mt
end Go.Proofs
namespace Go.Hx
variable {P:Program} {G:Nat->Option (List AVal)} {Γ Γ':az} {H H':AHeap} {w w':World}
theorem W.env {n:Nat}{rd:Option Nat}{Q:AX->St->Prop}{c:Code}{ρ:Env}{H:AHeap}(h:∀ E,E=ρ->W P G n rd c Q ⟨E,H⟩):W P G n rd c Q ⟨ρ,H⟩:=h ρ rfl
theorem Below.mono {n m:Nat}{v:AVal}(h:Below n v)(hm:n<=m):Below m v:=by
 induction h with
 | lit v=>exact .lit v
 | vec h ih=>exact .vec ih
 | vptr h ih=>exact .vptr ih
 | agg h ih=>exact .agg ih
 | tup h ih=>exact .tup ih
 | clo h1 h2 ih1 ih2=>exact .clo ih1 ih2
 | own h=>exact .own (by omega)
 | ptr h=>exact .ptr (by omega)
 | yld h=>exact .yld (by omega)
theorem iI {l:List AVal}{i:Nat}{x:AVal}(h:i<l.length):setAt l i [x]=l.set i x:=by
 unfold setAt;rw[List.set_eq_take_append_cons_drop,if_pos h];simp
section
variable {t:TypeId} {x y:Operand} {k k':IntKind} {a b:Int}
theorem RW (n:Int):IntKind.u64.wrap n=n % 18446744073709551616:=by simp [IntKind.wrap,IntKind.bits,IntKind.signed]
theorem nE (hb:0<=b):aQ P .shr t x y (.lit (.int k a)) (.lit (.int k' b))=some (.lit (.int k (a.fdiv (2 ^ (min b.toNat k.bits))))):=by
 have h:¬ b<0:=by omega
 simp [aQ,AVal.bZ,eqGuard,binOp,Op.shift,h,bW,bind,Sem.bind,pure]
theorem pL (hb:0<=b):aQ P .shl t x y (.lit (.int k a)) (.lit (.int k' b))=some (.lit (.int k (k.wrap (a*2 ^ (min b.toNat k.bits))))):=by
 have h:¬ b<0:=by omega
 simp [aQ,AVal.bZ,eqGuard,binOp,Op.shift,h,bW,bind,Sem.bind,pure]
theorem rG:aQ P .and t x y (.lit (.int k a)) (.lit (.int k b))=some (.lit (.int k (k.wrap ((BitVec.ofInt k.bits a &&& BitVec.ofInt k.bits b).toNat:Nat)))):=by
 simp [aQ,AVal.bZ,eqGuard,binOp,Op.intBits,bW,bind,Sem.bind,pure]
theorem RX:aQ P .or t x y (.lit (.int k a)) (.lit (.int k b))=some (.lit (.int k (k.wrap ((BitVec.ofInt k.bits a ||| BitVec.ofInt k.bits b).toNat:Nat)))):=by
 simp [aQ,AVal.bZ,eqGuard,binOp,Op.intBits,bW,bind,Sem.bind,pure]
theorem RY:aQ P .xor t x y (.lit (.int k a)) (.lit (.int k b))=some (.lit (.int k (k.wrap ((BitVec.ofInt k.bits a ^^^ BitVec.ofInt k.bits b).toNat:Nat)))):=by
 simp [aQ,AVal.bZ,eqGuard,binOp,Op.intBits,bW,bind,Sem.bind,pure]
theorem RZ:aQ P .andNot t x y (.lit (.int k a)) (.lit (.int k b))=some (.lit (.int k (k.wrap ((BitVec.ofInt k.bits a &&& ~~~ BitVec.ofInt k.bits b).toNat:Nat)))):=by
 simp [aQ,AVal.bZ,eqGuard,binOp,Op.intBits,bW,bind,Sem.bind,pure]
def aW (m:Nat):AVal:=.lit (.int .u64 (m:Int))
def jF (a b:Nat):Nat:=(BitVec.ofNat 64 a &&& ~~~ BitVec.ofNat 64 b).toNat
theorem uU {m:Nat}(h:m<2 ^ 64):(BitVec.ofInt 64 (m:Int)).toNat=m:=by rw[BitVec.ofInt_natCast,BitVec.toNat_ofNat,Nat.mod_eq_of_lt h]
theorem R7 (a b:Nat):jF a b<2 ^ 64:=(BitVec.isLt _)
theorem Et {a b i:Nat}(ha:a<2 ^ 64):(jF a b).testBit i=(a.testBit i && !b.testBit i):=by
 unfold jF;by_cases hi:i<64
 ·rw[<- BitVec.getLsbD,BitVec.getLsbD_and,BitVec.getLsbD_not,BitVec.getLsbD_ofNat,BitVec.getLsbD_ofNat];simp [hi]
 ·have h1:a.testBit i=false:=Nat.testBit_lt_two_pow (Nat.lt_of_lt_of_le ha (Nat.pow_le_pow_right (by decide) (by omega)));rw[h1,<- BitVec.getLsbD,BitVec.getLsbD_of_ge _ _ (by omega)];rfl
theorem uV {m:Nat}(h:m<2 ^ 64):IntKind.u64.wrap (m:Int)=m:=IntWalk.u64_in _ (by omega)
theorem R8 {a b:Nat}(ha:a<2 ^ 64)(hb:b<2 ^ 64):aQ P .and t x y (.lit (.int .u64 (a:Int))) (.lit (.int .u64 (b:Int)))=some (.lit (.int .u64 ((a &&& b:Nat):Int))):=by
 rw[rG];have e:(BitVec.ofInt (IntKind.bits .u64) (a:Int) &&& BitVec.ofInt (IntKind.bits .u64) (b:Int)).toNat=a &&& b:=by
  show (BitVec.ofInt 64 _ &&& BitVec.ofInt 64 _).toNat=_;rw[BitVec.toNat_and,uU ha,uU hb]
 rw[e,uV (Nat.lt_of_le_of_lt Nat.and_le_left ha)]
theorem uW {a b:Nat}(ha:a<2 ^ 64)(hb:b<2 ^ 64):aQ P .or t x y (.lit (.int .u64 (a:Int))) (.lit (.int .u64 (b:Int)))=some (.lit (.int .u64 ((a ||| b:Nat):Int))):=by
 rw[RX];have e:(BitVec.ofInt (IntKind.bits .u64) (a:Int) ||| BitVec.ofInt (IntKind.bits .u64) (b:Int)).toNat=a ||| b:=by
  show (BitVec.ofInt 64 _ ||| BitVec.ofInt 64 _).toNat=_;rw[BitVec.toNat_or,uU ha,uU hb]
 rw[e,uV (Nat.or_lt_two_pow ha hb)]
theorem R9 {a b:Nat}:aQ P .andNot t x y (.lit (.int .u64 (a:Int))) (.lit (.int .u64 (b:Int)))=some (.lit (.int .u64 ((jF a b:Nat):Int))):=by
 rw[RZ];have e:(BitVec.ofInt (IntKind.bits .u64) (a:Int) &&& ~~~ BitVec.ofInt (IntKind.bits .u64) (b:Int)).toNat=jF a b:=by
  show (BitVec.ofInt 64 _ &&& ~~~ BitVec.ofInt 64 _).toNat=_;rw[BitVec.ofInt_natCast,BitVec.ofInt_natCast];rfl
 rw[e,uV (R7 a b)]
theorem Eu {a s:Nat}(ha:a<2 ^ 64):aQ P .shr t x y (.lit (.int .u64 (a:Int))) (.lit (.int k' (s:Int)))=some (.lit (.int .u64 ((a >>> s:Nat):Int))):=by
 rw[nE (by omega),Int.toNat_natCast];have e:(a:Int).fdiv (2 ^ (min s (IntKind.bits .u64)))=((a >>> s:Nat):Int):=by
  rw[Int.fdiv_eq_ediv_of_nonneg _ (by exact_mod_cast Nat.zero_le _),Nat.shiftRight_eq_div_pow];show (a:Int) / 2 ^ (min s 64)=_;rcases Nat.le_total s 64 with h|h
  ·rw[Nat.min_eq_left h];push_cast;rfl
  ·rw[Nat.min_eq_right h];have h1:a / 2 ^ s=0:=Nat.div_eq_of_lt (Nat.lt_of_lt_of_le ha (Nat.pow_le_pow_right (by decide) h));rw[h1];exact Int.ediv_eq_zero_of_lt (by omega) (by omega)
 rw[e]
theorem zk {s:Nat}(hs:s<64):aQ P .shl t x y (.lit (.int .u64 1)) (.lit (.int k' (s:Int)))=some (.lit (.int .u64 ((2 ^ s:Nat):Int))):=by
 rw[pL (by omega),Int.toNat_natCast];have e:min s (IntKind.bits .u64)=s:=Nat.min_eq_left (by show s<=64;omega);have h2:2 ^ s<2 ^ 64:=Nat.pow_lt_pow_right (by decide) hs;rw[e,Int.one_mul];have h3:((2:Int) ^ s)=((2 ^ s:Nat):Int):=by push_cast;rfl
 rw[h3,uV h2]
theorem Ew {a s:Nat}(ha:a<2 ^ 64):aQ P .and t x y (.lit (.int .u64 ((a >>> s:Nat):Int))) (.lit (.int .u64 1))=some (.lit (.int .u64 (if a.testBit s then 1 else 0))):=by
 have h1:a >>> s<2 ^ 64:=Nat.lt_of_le_of_lt (Nat.shiftRight_le _ _) ha;have:=R8 (P:=P) (t:=t) (x:=x) (y:=y) (a:=a >>> s) (b:=1) h1 (by decide);rw[show (((1:Nat):Int))=1 from rfl]at this;rw[this,Nat.and_one_is_mod];congr 3;rw[Nat.testBit,Nat.and_comm,Nat.and_one_is_mod];rcases Nat.mod_two_eq_zero_or_one (a >>> s) with h|h<;>rw[h]<;>rfl
end
end Go.Hx
namespace Go.Proofs
open Go.Hx
theorem dp (H:AHeap)(b:Blk)(L:List Blk):(ext H (b :: L)).get H.next=some b:=bg H (b :: L) 0 (by simp)
theorem Ex (l:List Int)(n:Nat):(ints l).take n=ints (l.take n):=by simp [ints]
theorem Ey (l:List Int)(n:Nat):(ints l).drop n=ints (l.drop n):=by simp [ints]
theorem aN {α:Type}{l:List α}{i:Nat}{a:α}(h:l[i]?=some a):¬ l=[]:=by rintro rfl;simp at h
theorem eS {l:List Int}{i:Nat}{x:Int}(h:i<l.length):setAt (ints l) i [.lit (.int .i64 x)]=ints (l.set i x):=by
 rw[iI (by simpa [ints] using h)];simp [ints,aa]
theorem jb (w:Bool):qt w (some (.lit undef))=some false:=rfl
def aX (ns:List NodeP)(x:NodeP):List Int:=aY (au ns) x.parents
def fb:List Int->List Int->Int
 | _ :: cs,v :: vs=>v*aC cs+fb cs vs
 | _,_=>0
def dW:List Int->Int->List Int
 | [],_=>[]
 | c :: cs,i=>i / aC cs % c :: dW cs i
theorem pt (cs:List Int)(i:Int):(dW cs i).length=cs.length:=by
 induction cs with
 | nil=>rfl
 | cons c cs ih=>simp [dW,ih]
theorem Qe {cs:List Int}{k:Nat}{c:Int}(h:cs[k]?=some c)(i:Int):dW (cs.drop k) i=(i / aC (cs.drop (k+1)) % c) :: dW (cs.drop (k+1)) i:=by
 have:cs.drop k=c :: cs.drop (k+1):=by
  rw[List.drop_eq_getElem_cons (get_lt h)];congr 1;have:=List.getElem?_eq_getElem (get_lt h);rw[h]at this;exact(Option.some.inj this).symm
 rw[this];rfl
theorem px {α:Type}{l:List α}{k:Nat}{a:α}(h:l[k]?=some a):l.drop k=a :: l.drop (k+1):=by
 rw[List.drop_eq_getElem_cons (get_lt h)];congr 1;have:=List.getElem?_eq_getElem (get_lt h);rw[h]at this;exact(Option.some.inj this).symm
theorem Qf {cs:List Int}(h:∀ c∈cs,1<=c)(i:Int):∀ (k:Nat) (c v:Int),cs[k]?=some c->(dW cs i)[k]?=some v->0<=v/\v<c:=by
 induction cs with
 | nil=>intro k c v h;simp at h
 | cons a cs ih =>
  intro k c v h1 h2;cases k with
  | zero =>
   simp only[dW,List.getElem?_cons_zero,Option.some.injEq]at h1 h2;subst h1;subst h2;have:=h a (by simp);exact⟨Int.emod_nonneg _ (by omega),Int.emod_lt_of_pos _ (by omega)⟩
  | succ k =>
   simp only[dW,List.getElem?_cons_succ]at h1 h2;exact ih (fun c hc=>h c (by simp [hc])) k c v h1 h2
def cR (cs vs:List Int):Prop:=vs.length=cs.length/\∀ (k:Nat) (c v:Int),cs[k]?=some c->vs[k]?=some v->0<=v/\v<c
theorem cR.tail {c v:Int}{cs vs:List Int}(h:cR (c :: cs) (v :: vs)):cR cs vs:=⟨by simpa using h.1,fun k c v h1 h2=>h.2 (k+1) c v (by simpa using h1) (by simpa using h2)⟩
theorem cR.head {c v:Int}{cs vs:List Int}(h:cR (c :: cs) (v :: vs)):0<=v/\v<c:=h.2 0 c v (by simp) (by simp)
theorem cR.pos {cs vs:List Int}(h:cR cs vs):∀ c∈cs,1<=c:=fun c hc=>by
 obtain⟨k,hk⟩:=List.mem_iff_getElem?.1 hc;obtain⟨v,hv⟩:=get_of_lt (l:=vs) (i:=k) (by rw[h.1];exact get_lt hk);have:=h.2 k c v hk hv;omega
theorem DC {cs:List Int}(h:∀ c∈cs,1<=c)(i:Int):cR cs (dW cs i):=⟨pt cs i,Qf h i⟩
theorem uB:∀ {cs vs:List Int},cR cs vs->0<=fb cs vs/\fb cs vs<aC cs:=by
 intro cs
 induction cs with
 | nil=>intro vs _;cases vs<;>(simp [fb,gU])
 | cons c cs ih =>
  intro vs h;cases vs with
  | nil=>exact absurd h.1 (by simp)
  | cons v vs =>
   have h1:=ih h.tail;have h2:=h.head;have hp:1<=aC cs:=kP fun x hx=>h.pos x (by simp [hx]);rw[iz];simp only[fb];have h3:0<=v*aC cs:=Int.mul_nonneg h2.1 (by omega);have h4:(v+1)*aC cs<=c*aC cs:=Int.mul_le_mul_of_nonneg_right (by omega) (by omega);rw[Int.add_mul,Int.one_mul]at h4;omega
def fE (cs vs:List Int):Int:=(cs.zip vs).foldl (fun a p=>a*p.1+p.2) 0
theorem Qg:∀ (cs vs:List Int),vs.length=cs.length->∀ a,(cs.zip vs).foldl (fun a p=>a*p.1+p.2) a=a*aC cs+fb cs vs:=by
 intro cs
 induction cs with
 | nil=>intro vs _ a;simp [gU,fb]
 | cons c cs ih =>
  intro vs h a;cases vs with
  | nil=>simp at h
  | cons v vs =>
   simp only[List.zip_cons_cons,List.foldl_cons];rw[ih vs (by simpa using h),iz];simp only[fb];rw[Int.add_mul,Int.mul_assoc];omega
theorem uC {cs vs:List Int}(h:vs.length=cs.length):fE cs vs=fb cs vs:=by
 unfold fE;rw[Qg cs vs h];omega
theorem uD {cs vs:List Int}{k:Nat}{c v:Int}(h1:cs[k]?=some c)(h2:vs[k]?=some v):fE (cs.take (k+1)) (vs.take (k+1))=fE (cs.take k) (vs.take k)*c+v:=by
 unfold fE;rw[aL h1,aL h2,List.zip_append (by have:=get_lt h1;have:=get_lt h2;simp;omega),List.foldl_append];rfl
def eJ (l:List Int):Prop:=l.length<=12/\∀ x∈l,0<=x/\x<=8
theorem eJ.prod {l:List Int}(h:eJ l):0<=aC l/\aC l<=68719476736:=by
 have h1:=nk (b:=8) (by omega) h.2;have h2:(8:Int) ^ l.length<=8 ^ 12:=by
  have:(8:Nat) ^ l.length<=8 ^ 12:=Nat.pow_le_pow_right (by decide) h.1
  exact_mod_cast this
 exact⟨h1.1,Int.le_trans h1.2 h2⟩
theorem eJ.take {l:List Int}(h:eJ l)(k:Nat):eJ (l.take k):=⟨by have:=h.1;simp;omega,fun x hx=>h.2 x (List.mem_of_mem_take hx)⟩
theorem eJ.drop {l:List Int}(h:eJ l)(k:Nat):eJ (l.drop k):=⟨by have:=h.1;simp;omega,fun x hx=>h.2 x (List.mem_of_mem_drop hx)⟩
theorem zc (l:List Int)(hl:eJ l)(H:AHeap)(K:ARes->AHeap->Prop)(hK:K (.ret (aa (aC l))) H):ae Try.prog G0 36 [af l] H K:=by
 have l12:=hl.1;refine ae.bM (n:=18) (rs:=[.tmp 2]) Try.func36 rfl rfl rfl (by decide) (by kernel_rfl) (by simp) ?_;simp only[go_sem];refine W.aI 131064 (by rfl) (fun ρ H'=>H'=H/\∃ k:Nat,ρ 4=aa k/\k<=l.length/\ρ 3=aa (aC (l.take k))) (fun ρ H=>l.length - (iv (ρ 4)).toNat) ?_ ?_
 ·simp only[go_sem];exact⟨0,rfl,by omega,by simp [gU]⟩
 rintro ρ H' ⟨rfl,k,h4,hk,h3⟩;refine ab _ _ _ (by rfl) ?_;by_cases hb:(k:Int)<l.length
 ·obtain⟨c,hc⟩:=get_of_lt (l:=l) (i:=k) (by omega);have hne:=aN hc;have b1:=(hl.take (k+1)).prod;rw[aL hc,iZ]at b1;simp only[go_sem,h4,h3,hb,hc,hne];rw[IntWalk.i64_in ((k:Int)+1) (by omega),IntWalk.i64_in (_*c) (by omega)];exact⟨⟨k+1,by simp,by omega,by rw[aL hc,iZ]⟩,by omega⟩
 ·simp only[go_sem,h4,h3,hb];rw[List.take_of_length_le (by omega)];exact av.mk (Nat.le_refl _) hK
theorem Eg (x y:List Int)(hx:(x.length:Int)<2 ^ 62)(H:AHeap)(K:ARes->AHeap->Prop)(hK:K (.ret (.lit (.bool (decide (x=y))))) H):ae Try.prog G0 49 [af x,af y] H K:=by
 have no:¬ x=y->av Try.prog G0 H K (.lit (.bool false)) H:=fun h=>av.mk (Nat.le_refl _) (by rw[decide_eq_false h]at hK;exact hK);refine ae.bM (n:=26) (rs:=[.tmp 4]) Try.func49 rfl rfl rfl (by decide) (by kernel_rfl) (by simp) ?_;by_cases hl:(x.length:Int)=y.length;rotate_left
 ·simp only[go_sem,hl];exact no fun h=>hl (by rw[h])
 simp only[go_sem,hl];refine W.aI 67106864 (by rfl) (fun ρ H'=>H'=H/\∃ k:Nat,ρ 5=aa k/\k<=x.length/\x.take k=y.take k) (fun ρ H=>x.length - (iv (ρ 5)).toNat) ?_ ?_
 ·simp only[go_sem];exact⟨0,rfl,by omega,rfl⟩
 rintro ρ H' ⟨rfl,k,h5,hk,ht⟩;refine ab _ _ _ (by rfl) ?_;by_cases hb:(k:Int)<y.length
 ·obtain⟨a,ha⟩:=get_of_lt (l:=x) (i:=k) (by omega);obtain⟨b,hbk⟩:=get_of_lt (l:=y) (i:=k) (by omega);have hxn:=aN ha;have hyn:=aN hbk;have hbx:(k:Int)<x.length:=by omega
  simp only[go_sem,h5,hb,hl];refine W.draw 8 [0,0,3,7,0,0,48,112] Try.mixed (by kernel_rfl) (by kernel_rfl) ?_;by_cases he:a=b
  ·subst he;simp only[go_sem,h5,hb,hbx,ha,hbk,hxn,hyn];rw[IntWalk.i64_in ((k:Int)+1) (by omega)];exact⟨⟨k+1,by simp,by omega,by rw[aL ha,aL hbk,ht]⟩,by omega⟩
  ·simp only[go_sem,h5,hb,hbx,ha,hbk,hxn,hyn,he];exact no fun h=>he (by rw[h,hbk]at ha;exact(Option.some.inj ha).symm)
 ·simp only[go_sem,h5,hb,hl];refine av.mk (Nat.le_refl _) ?_;have:x=y:=by
   rw[List.take_of_length_le (by omega),List.take_of_length_le (by omega)]at ht;exact ht
  rw[decide_eq_true this]at hK;exact hK
theorem Eh (x y:List Int)(hx:(x.length:Int)<2 ^ 62)(H:AHeap)(K:ARes->AHeap->Prop)(hK:K (.ret (.lit (.bool (decide (x=y))))) H):ae Try.prog G0 16 [af x,af y] H K:=by
 have no:¬ x=y->av Try.prog G0 H K (.lit (.bool false)) H:=fun h=>av.mk (Nat.le_refl _) (by rw[decide_eq_false h]at hK;exact hK);refine ae.bM (n:=26) (rs:=[.tmp 4]) Try.func16 rfl rfl rfl (by decide) (by kernel_rfl) (by simp) ?_;by_cases hl:(x.length:Int)=y.length;rotate_left
 ·simp only[go_sem,hl];exact no fun h=>hl (by rw[h])
 simp only[go_sem,hl];refine W.aI 67100720 (by rfl) (fun ρ H'=>H'=H/\∃ k:Nat,ρ 13=aa k/\k<=x.length/\x.take k=y.take k) (fun ρ H=>x.length - (iv (ρ 13)).toNat) ?_ ?_
 ·simp only[go_sem];exact⟨0,rfl,by omega,rfl⟩
 rintro ρ H' ⟨rfl,k,h13,hk,ht⟩;refine ab _ _ _ (by rfl) ?_;by_cases hb:(k:Int)<y.length
 ·obtain⟨a,ha⟩:=get_of_lt (l:=x) (i:=k) (by omega);obtain⟨b,hbk⟩:=get_of_lt (l:=y) (i:=k) (by omega);have hxn:=aN ha;have hyn:=aN hbk;have hbx:(k:Int)<x.length:=by omega
  simp only[go_sem,h13,hb];refine W.draw 8 [0,0,3,7,0,0,48,112] Try.mixed (by kernel_rfl) (by kernel_rfl) ?_;by_cases he:a=b
  ·subst he;simp only[go_sem,h13,hb,hbx,ha,hbk,hxn,hyn];rw[IntWalk.i64_in ((k:Int)+1) (by omega)];exact⟨⟨k+1,by simp,by omega,by rw[aL ha,aL hbk,ht]⟩,by omega⟩
  ·simp only[go_sem,hb,hbx,ha,hbk,hxn,hyn,he];exact no fun h=>he (by rw[h,hbk]at ha;exact(Option.some.inj ha).symm)
 ·simp only[go_sem,h13,hb];refine av.mk (Nat.le_refl _) ?_;have:x=y:=by
   rw[List.take_of_length_le (by omega),List.take_of_length_le (by omega)]at ht;exact ht
  rw[decide_eq_true this]at hK;exact hK
instance placesDec (l:List Int)(n:Int):Decidable (di l n):=by unfold di;infer_instance
theorem di.nil {n:Int}:di [] n:=⟨.nil,fun _ h=>by cases h⟩
theorem di.take {l:List Int}{n:Int}(h:di l n)(k:Nat):di (l.take k) n:=⟨h.1.sublist (List.take_sublist k l),fun p hp=>h.2 p (List.mem_of_mem_take hp)⟩
theorem di.snoc {l:List Int}{n a:Int}(h:di l n)(ha:0<=a/\a<n)(hl:∀ b,l.getLast?=some b->b<a):di (l++[a]) n:=by
 refine⟨List.pairwise_append.2 ⟨h.1,by simp,fun x hx y hy=>?_⟩,fun p hp=>?_⟩
 ·obtain rfl:=List.mem_singleton.1 hy;rcases List.eq_nil_or_concat l with rfl|⟨l',b,rfl⟩
  ·cases hx
  ·have hb:=hl b (by simp);simp only[List.concat_eq_append]at hx h;rcases List.mem_append.1 hx with hx|hx
   ·have:=(List.pairwise_append.1 h.1).2.2 x hx b (by simp);omega
   ·obtain rfl:=List.mem_singleton.1 hx;exact hb
 ·rcases List.mem_append.1 hp with hp|hp
  ·exact h.2 p hp
  ·obtain rfl:=List.mem_singleton.1 hp;exact ha
theorem di.lt {l:List Int}{n:Int}(h:di l n){i j:Nat}{a b:Int}(ha:l[i]?=some a)(hb:l[j]?=some b)(hij:i<j):a<b:=by
 have:=List.pairwise_iff_getElem.1 h.1 i j (get_lt ha) (get_lt hb) hij;have e1:=List.getElem?_eq_getElem (get_lt ha);have e2:=List.getElem?_eq_getElem (get_lt hb);rw[ha]at e1;rw[hb]at e2;rw[Option.some.inj e1,Option.some.inj e2];exact this
theorem di.len {l:List Int}{n:Int}(h:di l n):(l.length:Int)<=max n 0:=by
  -- the k-th place is at least k
 have key:∀ (k:Nat) (a:Int),l[k]?=some a->(k:Int)<=a:=by
  intro k
  induction k with
  | zero=>intro a ha;have:=h.2 a (List.mem_of_getElem? ha);omega
  | succ k ih =>
   intro a ha;obtain⟨b,hb⟩:=get_of_lt (l:=l) (i:=k) (by have:=get_lt ha;omega);have:=ih b hb;have:=h.lt hb ha (by omega);omega
 rcases Nat.eq_zero_or_pos l.length with h0|h0
 ·omega
 ·obtain⟨a,ha⟩:=get_of_lt (l:=l) (i:=l.length - 1) (by omega);have h1:=key _ a ha;have h2:=h.2 a (List.mem_of_getElem? ha);omega
theorem zd {l:List Int}{j:Nat}{b:Int}(h:l[j]?=some b):(l.take (j+1)).getLast?=some b:=by rw[aL h];simp
theorem Rx (l:List Int)(n:Int)(hl:(l.length:Int)<2 ^ 62)(H:AHeap)(K:ARes->AHeap->Prop)(hK:K (.ret (.lit (.bool (decide (di l n))))) H):ae Try.prog G0 60 [af l,aa n] H K:=by
 have no:¬ di l n->av Try.prog G0 H K (.lit (.bool false)) H:=fun h=>av.mk (Nat.le_refl _) (by rw[decide_eq_false h]at hK;exact hK);refine ae.bM (n:=41) (rs:=[.tmp 4]) Try.func60 rfl rfl rfl (by decide) (by kernel_rfl) (by simp) ?_;simp only[go_sem];refine W.aI 2199023255536 (by rfl) (fun ρ H'=>H'=H/\∃ k:Nat,ρ 5=aa k/\k<=l.length/\di (l.take k) n) (fun ρ H=>l.length - (iv (ρ 5)).toNat) ?_ ?_
 ·simp only[go_sem];exact⟨0,rfl,by omega,.nil⟩
 rintro ρ H' ⟨rfl,k,h5,hk,hp⟩;refine ab _ _ _ (by rfl) ?_;by_cases hb:(k:Int)<l.length
 ·obtain⟨a,ha⟩:=get_of_lt (l:=l) (i:=k) (by omega);have hne:=aN ha;have ham:=List.mem_of_getElem? ha;simp only[go_sem,h5,hb];refine W.draw 26 [0,0,3,7,15,31,63,63,255,511,63,2047,4095,8191,16383,32767,65535,131071,131071,524287,1048575,131071,131071,4325375,14811135,31588351] Try.mixed (by kernel_rfl) (by kernel_rfl) ?_;by_cases c1:a<0
  ·simp only[go_sem,h5,hb,ha,hne,c1,jb];exact no fun h=>by have:=h.2 a ham;omega
  by_cases c2:a >= n
  ·simp only[go_sem,h5,hb,ha,hne,c1,c2,jb];exact no fun h=>by have:=h.2 a ham;omega
  by_cases c3:(k:Int) > 0
  ·obtain⟨j,rfl⟩:∃ j,k=j+1:=⟨k - 1,by omega⟩
   obtain⟨b,hbj⟩:=get_of_lt (l:=l) (i:=j) (by omega);have w1:=IntWalk.i64_in (j:Int) (by omega);have w2:=IntWalk.i64_in (((j+1:Nat):Int)+1) (by omega);have e1:((j+1:Nat):Int) - 1=j:=(by omega);have hb1:(j:Int)<l.length:=(by omega);have hbj':=hbj;by_cases c4:a<=b
   ·simp only[go_sem,h5,hb,ha,hne,c1,c2,c3,c4,w1,e1,hb1,hbj];exact no fun h=>by have:=h.lt hbj ha (by omega);omega
   ·simp only[go_sem,h5,hb,ha,hne,c1,c2,c3,c4,w1,w2,e1,hb1,hbj];refine⟨⟨j+1+1,by simp,by omega,?_⟩,by omega⟩;rw[aL ha];exact hp.snoc (by omega) fun b' hb'=>by
     rw[zd hbj]at hb';cases hb';omega
  ·simp only[go_sem,h5,hb,ha,hne,c1,c2,c3];rw[IntWalk.i64_in ((k:Int)+1) (by omega)];obtain rfl:k=0:=(by omega);refine⟨⟨1,by simp,by omega,?_⟩,by omega⟩;rw[aL ha];exact hp.snoc (by omega) fun b' hb'=>by simp at hb'
 ·simp only[go_sem,h5,hb];rw[List.take_of_length_le (by omega)]at hp;rw[decide_eq_true hp]at hK;exact av.mk (Nat.le_refl _) hK
end Go.Proofs
namespace Go.Hx
theorem Over.live {H H':AHeap}(h:Over H H'){id g:Nat}(hi:id<H.next):H'.live id g=H.live id g:=by
 unfold AHeap.live;rw[h.old id hi]
theorem Over.upd {H H':AHeap}(h:Over H H'){id:Nat}(hi:H.next<=id)(b:Blk):Over H (H'.upd id b):=⟨h.next,fun j hj=>by rw[ag,if_neg (by omega)];exact h.old j hj⟩
theorem zl {H:AHeap}{id g:Nat}{e:TypeId}{c:List AVal}:(H.upd id (.arr g e c)).live id g=some (e,c):=ak (by rw[ag,if_pos rfl])
theorem pM {H:AHeap}{id j g:Nat}{b:Blk}(h:j≠id):(H.upd id b).live j g=H.live j g:=by unfold AHeap.live;rw[ag,if_neg h]
attribute [go_sem] zl
@[go_sem] theorem Ss (a b:Array TypeId)(c:Bool)(n:Nat)(cells:List AVal)(off:Nat):kD (some (.func a b c)) n cells off=cells[off]?:=rfl
end Go.Hx
namespace Go.Proofs
open Go.Hx
theorem nt {H H' H2:AHeap}{e:TypeId}{v:AVal}{cs:List AVal}(ov:Over H H')(h:aB H.next H' e v cs)(hn:H'.next<=H2.next)(hp:∀ k,k<H'.next->(∀ g n,v≠.own k g 0 n 1)->H2.get k=H'.get k):Over H H2 :=
 ⟨Nat.le_trans ov.next hn,fun id hi=>by
  rw[hp id (Nat.lt_of_lt_of_le hi ov.next) fun g n he=>?_,ov.old id hi];rcases h with ⟨h,_⟩|⟨i2,g2,a1,_,h,_⟩
  ·rw[h]at he;cases he
  ·rw[h]at he;have:=AVal.own.inj he;omega⟩
theorem kT {H H':AHeap}{v:AVal}{l:List Int}(x:Int)(ov:Over H H')(h:aB H.next H' 3 v (ints l))(hl:l.length<2 ^ 40):
  ∃ v' H2,bG Try.prog (ext H' [.arr 0 3 [.lit (.int .i64 x)]]) (H'.next+1) 39 39 v (.own H'.next 0 0 1 1)=some (v',H2)/\Over H H2/\aB H.next H2 3 v' (ints (l++[x]))/\H'.next<=H2.next/\(∀ k,k<H'.next->(∀ g n,v≠.own k g 0 n 1)->H2.get k=H'.get k):=by
 obtain⟨v',H2,hA,hO,hn2,hp⟩:=jm (P:=Try.prog) (H:=H') (t:=39) (x:=aa x) (n:=H'.next+1) Try.underlying39 Try.eZ Try.fS rfl (by rw[Try.gS,aZ];omega) h ov.next rfl;simp only[aa]at hA;exact⟨v',H2,hA,nt ov h hn2 hp,by simpa [ints,aa] using hO,hn2,hp⟩
theorem Sa (l:List (List Int)):(aE l).one=true:=rfl
theorem Sb (l:List (List Int)):(aE l).cells=[aE l]:=rfl
theorem Sc (l:List NodeP):(cM l).one=true:=rfl
theorem Sd (l:List NodeP):(cM l).cells=[cM l]:=rfl
theorem Se (l:List UtilP):(yM l).one=true:=rfl
theorem Sf (l:List UtilP):(yM l).cells=[yM l]:=rfl
attribute [go_sem] Sa Sb Sc Sd Se Sf
structure OwnI (H H':AHeap)(id:Nat)(c:List Int):Prop where
 ov:Over H H'
 lo:H.next<=id
 hi:id<H'.next
 get:H'.get id=some (.arr 0 3 (ints c))
theorem OwnI.live {H H':AHeap}{id:Nat}{c:List Int}(h:OwnI H H' id c):H'.live id 0=some (3,ints c):=ak h.get
theorem OwnI.ne {H H':AHeap}{id:Nat}{c:List Int}(h:OwnI H H' id c):¬ id=H'.next:=by have:=h.hi;omega
theorem OwnI.over {H H' H2:AHeap}{id:Nat}{c:List Int}(h:OwnI H H' id c)(o:Over H' H2):OwnI H H2 id c:=⟨h.ov.trans o,h.lo,Nat.lt_of_lt_of_le h.hi o.next,(o.old id h.hi).trans h.get⟩
theorem OwnI.store {H H':AHeap}{id:Nat}{c:List Int}(h:OwnI H H' id c){k:Nat}(hk:k<c.length)(x:Int):OwnI H (H'.upd id (.arr 0 3 (setAt (ints c) k [.lit (.int .i64 x)]))) id (c.set k x) :=
 ⟨⟨h.ov.next,fun i hi=>by rw[ag,if_neg (by have:=h.lo;omega)];exact h.ov.old i hi⟩,h.lo,h.hi,by rw[ag,if_pos rfl,eS hk]⟩
theorem OwnI.new {H:AHeap}(L:List Blk)(n:Nat):OwnI H (ext H (.arr 0 3 (List.replicate n (.lit (.int .i64 0))) :: L)) H.next (List.replicate n 0) :=
 ⟨.ext _ _,Nat.le_refl _,by simp [bI],by rw[dp];simp [ints,aa]⟩
theorem OwnI.fin {H H':AHeap}{id:Nat}{c:List Int}{K:ARes->AHeap->Prop}(hcl:Clo H)(h:OwnI H H' id c){n:Nat}(hn:n=c.length)(hK:K (.ret (af c)) H):av Try.prog G0 H K (.own id 0 0 n 1) H':=by
 subst hn;refine av.bY aV hcl h.ov ?_ hK;exact .ints h.lo h.get (by simp) fun i hi=>by simp [gF,hi]
theorem Sg {l m:List Int}{k:Nat}{x:Int}(h:l.take k=m.take k)(hk:k<l.length)(hx:m[k]?=some x):(l.set k x).take (k+1)=m.take (k+1):=by
 rw[aL hx,aL (show (l.set k x)[k]?=some x by rw[List.getElem?_set_self hk]),List.take_set_of_le (Nat.le_refl k),h]
theorem bJ {α:Type}{l:List α}{i:Nat}{a d:α}(h:l[i]?=some a):l.getD i d=a:=by rw[List.getD_eq_getElem?_getD,h];rfl
theorem Ei {l places:List Int}{k:Nat}{p:Int}(h:places[k]?=some p):aY l (places.take (k+1))=aY l (places.take k)++[l.getD p.toNat 0]:=by
 unfold aY;rw[aL h];simp
theorem cS {ns:List NodeP}{k:Nat}{x:NodeP}(h:ns[k]?=some x):(au ns)[k]?=some x.card:=by unfold au;rw[List.getElem?_map,h];rfl
theorem cG (ns:List NodeP):(au ns).length=ns.length:=by simp [au]
theorem Ry (l p:List Int)(hl:(l.length:Int)<2 ^ 40)(hp:(p.length:Int)<2 ^ 39)(hin:∀ q∈p,0<=q/\q<l.length)(H:AHeap)(K:ARes->AHeap->Prop)(hK:K (.ret (af (aY l p))) H):ae Try.prog G0 67 [af l,af p] H K:=by
 refine ae.clo ⟨_,Try.func67,rfl,rfl⟩ fun hcl=>?_;refine ae.bM (n:=24) (rs:=[.tmp 4]) Try.func67 rfl rfl rfl (by decide) (by kernel_rfl) (by simp) ?_;simp only[go_sem];refine W.aI 8388576 (by rfl) (fun ρ H'=>∃ k:Nat,ρ 6=aa k/\k<=p.length/\Over H H'/\aB H.next H' 3 (ρ 5) (ints (aY l (p.take k)))) (fun ρ H=>p.length - (iv (ρ 6)).toNat) ?_ ?_
 ·simp only[go_sem];exact⟨0,rfl,by omega,.refl _,.nil⟩
 rintro ρ H' ⟨k,h6,hk,ov,h5⟩;refine ab _ _ _ (by rfl) ?_;by_cases hb:(k:Int)<p.length
 ·obtain⟨q,hq⟩:=get_of_lt (l:=p) (i:=k) (by omega);obtain⟨j,rfl,a,ha⟩:=ni (hin q (List.mem_of_getElem? hq)).1 (hin q (List.mem_of_getElem? hq)).2;have hne:=aN hq;have hne2:=aN ha;have hj:=get_lt ha;have hj':(j:Int)<l.length:=by omega
  obtain⟨v',H2,hA,ov2,hO,hn2,_⟩:=kT a ov h5 (by simp [aY];omega);have w1:=IntWalk.i64_in ((k:Int)+1) (by omega);simp only[go_sem,h6,hb,hq,hne,ha,hne2,hj',w1,hA];refine⟨by have:=ov2.next;omega,⟨k+1,by simp,by omega,ov2,?_⟩,by omega⟩;rw[Ei hq,Int.toNat_natCast,bJ ha];exact hO
 ·simp only[go_sem,h6,hb];rw[List.take_of_length_le (by omega)]at h5;exact av.bY aV hcl ov (h5.kF fun i hi=>hi) hK
theorem nC (g:Int)(ns:List NodeP)(hl:(ns.length:Int)<2 ^ 39)(H:AHeap)(K:ARes->AHeap->Prop)(hK:K (.ret (af (au ns))) H):ae Try.prog G0 31 [aO g ns] H K:=by
 refine ae.clo ⟨_,Try.func31,rfl,rfl⟩ fun hcl=>?_;refine ae.bM (n:=22) (rs:=[.tmp 2]) Try.func31 rfl rfl rfl (by decide) (by kernel_rfl) (by simp) ?_;simp only[go_sem,aO,cM];obtain⟨H1,hH1⟩:∃ H1,H1=ext H [.arr 0 35 [.lit (.int .i64 g),.vec ns.length (ar ns)]]:=⟨_,rfl⟩
 have l1:H1.live H.next 0=some (35,[.lit (.int .i64 g),.vec ns.length (ar ns)]):=by rw[hH1];exact ak (dp ..)
 have n1:H1.next=H.next+1:=by rw[hH1];rfl
 have o1:Over H H1:=by rw[hH1];exact .ext _ _
 rw[<- hH1];refine W.aI 2097144 (by rfl) (fun ρ H'=>∃ k:Nat,ρ 4=aa k/\k<=ns.length/\ρ 1=.ptr H.next 0 0/\Over H1 H'/\aB H1.next H' 3 (ρ 3) (ints ((au ns).take k))) (fun ρ H=>ns.length - (iv (ρ 4)).toNat) ?_ ?_
 ·simp only[go_sem];exact⟨0,rfl,by omega,.refl _,.nil⟩
 rintro ρ H' ⟨k,h4,hk,h1,ov,h3⟩;refine ab _ _ _ (by rfl) ?_;have l2:=(ov.live (g:=0) (by omega:H.next<H1.next)).trans l1;by_cases hb:(k:Int)<ns.length
 ·obtain⟨x,hx⟩:=get_of_lt (l:=ns) (i:=k) (by omega);have hne:=fa hx;have e0:=ng hx;obtain⟨v',H2,hA,ov2,hO,hn2,_⟩:=kT x.card ov h3 (by simp [au];omega);have w1:=IntWalk.i64_in ((k:Int)+1) (by omega);simp only[go_sem,h4,h1,l2,hb,hne,e0,w1,hA];refine⟨by have:=ov2.next;omega,⟨k+1,by simp,by omega,ov2,?_⟩,by omega⟩;rw[aL (cS hx)];exact hO
 ·simp only[go_sem,h4,h1,l2,hb];rw[List.take_of_length_le (by rw[cG];omega)]at h3;exact av.bY aV hcl (o1.trans ov) (h3.kF fun i hi=>by omega) hK
def iG (l:List Int)(n:Nat):Prop:=∀ q∈l,0<=q/\q<n
theorem ja (l p:List Int):(aY l p).length=p.length:=by simp [aY]
theorem rB {l p:List Int}{k:Nat}{q:Int}(h:p[k]?=some q):(aY l p)[k]?=some (l.getD q.toNat 0):=by unfold aY;rw[List.getElem?_map,h];rfl
theorem Rz (g:Int)(ns:List NodeP)(v:Nat)(x:NodeP)(hx:ns[v]?=some x)(hl:(ns.length:Int)<2 ^ 39)(hp:(x.parents.length:Int)<2 ^ 39)(hin:iG x.parents ns.length)(H:AHeap)(K:ARes->AHeap->Prop)
  (hK:K (.ret (af (aX ns x))) H):ae Try.prog G0 37 [aO g ns,aa v] H K:=by
 refine ae.clo ⟨_,Try.func37,rfl,rfl⟩ fun hcl=>?_;have hne:=fa hx;have e1:=ry hx;have hv:(v:Int)<ns.length:=by have:=get_lt hx;omega
 refine ae.bM (n:=14) (rs:=[.tmp 4]) Try.func37 rfl rfl rfl (by decide) (by kernel_rfl) (by simp) ?_;simp only[go_sem,aO,cM];refine W.draw 8 [0,1,0,4,0,28,60,124] Try.mixed (by kernel_rfl) (by kernel_rfl) ?_;simp only[go_sem];refine⟨af (au ns),[],dx.pure fun H2=>nC g ns hl H2 _ ⟨rfl,rfl⟩,?_⟩;simp only[go_sem,hv,hne,e1];refine aw.clo (Ry (au ns) x.parents (by rw[cG];omega) hp (by rw[cG];exact hin) _ _ ⟨trivial,?_⟩);simp only[go_sem];exact av.bY aV hcl (.ext _ _) (.dJ _) hK
def dL (l:List Int):Nat:=l.foldl (fun s p=>s ||| 2 ^ p.toNat) 0
theorem Qh (l:List Int):∀ (s i:Nat),(l.foldl (fun s p=>s ||| 2 ^ p.toNat) s).testBit i=(s.testBit i || l.any fun p=>p.toNat == i):=by
 induction l with
 | nil=>intro s i;simp
 | cons p l ih =>
  intro s i;simp only[List.foldl_cons,ih,Nat.testBit_or,Nat.testBit_two_pow,List.any_cons];rw[Bool.or_assoc];congr 1
theorem mi {l:List Int}(h:∀ p∈l,0<=p)(i:Nat):(dL l).testBit i=decide ((i:Int)∈l):=by
 unfold dL;rw[Qh];simp only[Nat.zero_testBit,Bool.false_or];rw[Bool.eq_iff_iff];simp only[List.any_eq_true,beq_iff_eq,decide_eq_true_eq];constructor
 ·rintro⟨p,hp,rfl⟩;have:=h p hp;rw[Int.toNat_of_nonneg this];exact hp
 ·intro hi;exact⟨_,hi,by simp⟩
theorem DD (l:List Int)(p:Int):dL (l++[p])=dL l ||| 2 ^ p.toNat:=by unfold dL;rw[List.foldl_append];rfl
theorem DE {m n:Nat}(h:∀ i,m.testBit i=true->i<n):m<2 ^ n:=by
 apply Nat.lt_pow_two_of_testBit;intro i hi;rcases Bool.eq_false_or_eq_true (m.testBit i) with e|e
 ·exact absurd (h i e) (by omega)
 ·exact e
theorem yO {l:List Int}{n:Nat}(h:∀ p∈l,0<=p/\p<n):dL l<2 ^ n:=DE fun i hi=>by
 rw[mi fun p hp=>(h p hp).1]at hi;have:=(h _ (of_decide_eq_true hi)).2;omega
theorem py {m n i:Nat}(h:m<2 ^ n)(hi:m.testBit i=true):i<n:=by
 rcases Nat.lt_or_ge i n with h'|h'
 ·exact h'
 ·rw[Nat.testBit_lt_two_pow (Nat.lt_of_lt_of_le h (Nat.pow_le_pow_right (by decide) h'))]at hi;cases hi
def Sub (s t:Nat):Prop:=∀ i,s.testBit i=true->t.testBit i=true
theorem Sub.refl (s:Nat):Sub s s:=fun _ h=>h
theorem Sub.trans {s t u:Nat}(h:Sub s t)(h':Sub t u):Sub s u:=fun i hi=>h' i (h i hi)
theorem Sub.or {s t u:Nat}(h:Sub s u)(h':Sub t u):Sub (s ||| t) u:=fun i hi=>by
 rw[Nat.testBit_or,Bool.or_eq_true]at hi;exact hi.elim (h i) (h' i)
theorem Sub.left (s t:Nat):Sub s (s ||| t):=fun i hi=>by rw[Nat.testBit_or,hi];rfl
theorem Sub.right (s t:Nat):Sub t (s ||| t):=fun i hi=>by rw[Nat.testBit_or,hi];simp
theorem Sub.antisymm {s t:Nat}(h:Sub s t)(h':Sub t s):s=t:=Nat.eq_of_testBit_eq fun i=>by
 rw[Bool.eq_iff_iff];exact⟨h i,h' i⟩
theorem DF {a b:Nat}(ha:a<2 ^ 64):jF a b=0↔Sub a b:=by
 constructor
 ·intro h i hi;have:=Et (a:=a) (b:=b) (i:=i) ha;rw[h,Nat.zero_testBit,hi]at this;simpa using this.symm
 ·intro h;apply Nat.eq_of_testBit_eq;intro i;rw[Et ha,Nat.zero_testBit];cases hi:a.testBit i
  ·rfl
  ·rw[h i hi];rfl
def eQ (ps:List Nat)(s v:Nat):Nat:=if s.testBit v=true then s ||| ps.getD v 0 else s
def eI (ps:List Nat)(s:Nat):Nat:=(List.range ps.length).foldl (eQ ps) s
def dX (ps:List Nat):Nat->Nat->Nat
 | 0,s=>s
 | k+1,s=>eI ps (dX ps k s)
def fF (ps:List Nat)(s:Nat):Nat:=dX ps ps.length s
def mj (ps:List Nat):Prop:=∀ v,v<ps.length->(fF ps (ps.getD v 0)).testBit v=false
def mn (ps:List Nat)(t:Nat):Prop:=∀ v,v<ps.length->t.testBit v=true->Sub (ps.getD v 0) t
theorem DG (ps:List Nat)(s v:Nat):Sub s (eQ ps s v):=by unfold eQ;split;exact .left _ _;exact .refl _
theorem DH (ps:List Nat)(l:List Nat):∀ s,Sub s (l.foldl (eQ ps) s):=by
 induction l with
 | nil=>exact fun s=>.refl s
 | cons v l ih=>exact fun s=>(DG ps s v).trans (ih _)
theorem yQ (ps:List Nat)(s:Nat):Sub s (eI ps s):=DH ps _ s
theorem Qi {ps:List Nat}{t:Nat}(hc:mn ps t)(l:List Nat)(hl:∀ v∈l,v<ps.length):∀ s,Sub s t->Sub (l.foldl (eQ ps) s) t:=by
 induction l with
 | nil=>exact fun s h=>h
 | cons v l ih =>
  intro s h;refine ih (fun v hv=>hl v (by simp [hv])) _ ?_;unfold eQ;split
  ·rename_i hv;exact h.or (hc v (hl v (by simp)) (h v hv))
  ·exact h
theorem Qj {ps:List Nat}{t:Nat}(hc:mn ps t){s:Nat}(h:Sub s t):Sub (eI ps s) t:=Qi hc _ (fun v hv=>List.mem_range.1 hv) s h
theorem uE {ps:List Nat}{t:Nat}(hc:mn ps t)(k:Nat){s:Nat}(h:Sub s t):Sub (dX ps k s) t:=by
 induction k with
 | zero=>exact h
 | succ k ih=>exact Qj hc ih
theorem uF (ps:List Nat)(k s:Nat):Sub s (dX ps k s):=by
 induction k with
 | zero=>exact .refl _
 | succ k ih=>exact ih.trans (yQ _ _)
theorem Qk {ps:List Nat}{s:Nat}(h:eI ps s=s):mn ps s:=by
 intro v hv hs;have key:∀ (l:List Nat) (s0:Nat),v∈l->s0.testBit v=true->Sub (ps.getD v 0) (l.foldl (eQ ps) s0):=by
  intro l
  induction l with
  | nil=>intro s0 h;cases h
  | cons u l ih =>
   intro s0 hm hb;rcases List.mem_cons.1 hm with rfl|hm
   ·refine Sub.trans ?_ (DH ps l _);unfold eQ;rw[if_pos hb];exact .right _ _
   ·exact ih _ hm (DG ps s0 u v hb)
 have:=key (List.range ps.length) s (List.mem_range.2 hv) hs;unfold eI at h
 rwa [h]at this
def cP (n s:Nat):Nat:=(List.range n).countP fun i=>s.testBit i
theorem yR (n s:Nat):cP n s<=n:=by have:=List.countP_le_length (p:=fun i=>s.testBit i) (l:=List.range n);simpa [cP] using this
theorem Ql {l:List Nat}{p q:Nat->Bool}(h:∀ x∈l,p x=true->q x=true){a:Nat}(ha:a∈l)(hp:p a=false)(hq:q a=true):l.countP p<l.countP q:=by
 induction l with
 | nil=>cases ha
 | cons x l ih =>
  have hm:l.countP p<=l.countP q:=List.countP_mono_left fun y hy=>h y (by simp [hy]);rcases List.mem_cons.1 ha with rfl|ha
  ·rw[List.countP_cons,List.countP_cons,hp,hq];simp;omega
  ·have:=ih (fun y hy=>h y (by simp [hy])) ha;have hx:=h x (by simp);rw[List.countP_cons,List.countP_cons];cases hpx:p x
   ·simp;omega
   ·rw[hx hpx];simp;omega
theorem pA {n s t i:Nat}(h:Sub s t)(hi:i<n)(h0:s.testBit i=false)(h1:t.testBit i=true):cP n s<cP n t :=
 Ql (fun x _ hx=>h x hx) (List.mem_range.2 hi) h0 h1
theorem Qm {ps:List Nat}(hp:∀ p∈ps,p<2 ^ ps.length){s:Nat}(hs:s<2 ^ ps.length):mn ps (fF ps s):=by
 have hb:∀ k,dX ps k s<2 ^ ps.length:=fun k=>by
  have ht:mn ps (2 ^ ps.length - 1):=fun v _ _ i hi=>by
   rw[Nat.testBit_two_pow_sub_one];have:ps.getD v 0<2 ^ ps.length:=by
    rw[List.getD_eq_getElem?_getD];cases h:ps[v]? with
    | none=>exact Nat.two_pow_pos _
    | some p=>exact hp p (List.mem_of_getElem? h)
   simpa using py this hi
  have:=uE ht k (s:=s) fun i hi=>by rw[Nat.testBit_two_pow_sub_one];simpa using py hs hi
  exact DE fun i hi=>by have:=this i hi;rw[Nat.testBit_two_pow_sub_one]at this;simpa using this
 have key:∀ k,eI ps (dX ps k s)=dX ps k s\/k+1<=cP ps.length (dX ps k s):=by
  have grow:∀ t,t<2 ^ ps.length->eI ps t<2 ^ ps.length->eI ps t≠t->cP ps.length t<cP ps.length (eI ps t):=fun t ht ht' hne=>by
   have:∃ i,(eI ps t).testBit i=true/\t.testBit i=false:=by
    refine Classical.byContradiction fun hno=>hne (Sub.antisymm (fun i hi=>?_) (yQ ps t));rcases Bool.eq_false_or_eq_true (t.testBit i) with e|e
    ·exact e
    ·exact absurd ⟨i,hi,e⟩ hno
   obtain⟨i,h1,h0⟩:=this;exact pA (yQ ps t) (py ht' h1) h0 h1
  intro k
  induction k with
  | zero =>
   by_cases h0:s=0
   ·left;subst h0;show eI ps 0=0;unfold eI;have:∀ l:List Nat,l.foldl (eQ ps) 0=0:=fun l=>by
     induction l with
     | nil=>rfl
     | cons v l ih=>simp only[List.foldl_cons,eQ,Nat.zero_testBit,Bool.false_eq_true,if_false];exact ih
    exact this _
   ·right;obtain⟨i,hi⟩:=Nat.exists_testBit_of_ne_zero h0;have:cP ps.length 0<cP ps.length s:=pA (fun j hj=>by rw[Nat.zero_testBit]at hj;cases hj) (py hs hi) (Nat.zero_testBit i) hi;show 0+1<=cP ps.length s;omega
  | succ k ih =>
   rcases ih with ih|ih
   ·left;show eI ps (eI ps (dX ps k s))=eI ps (dX ps k s);rw[ih];exact ih
   ·by_cases hf:eI ps (dX ps k s)=dX ps k s
    ·left;show eI ps (eI ps (dX ps k s))=eI ps (dX ps k s);rw[hf];exact hf
    ·right;have:=grow _ (hb k) (hb (k+1)) hf;show k+1+1<=cP ps.length (eI ps (dX ps k s));omega
 rcases key ps.length with h|h
 ·exact Qk h
 ·have:=yR ps.length (dX ps ps.length s);omega
def mq (ps:List Nat)(done v:Nat):Bool:=!done.testBit v && decide (jF (ps.getD v 0) done=0)
def kQ (ps:List Nat)(done:Nat):Option Nat:=(List.range ps.length).find? (mq ps done)
def jz (ps:List Nat):Nat->List Nat->Nat->Option (List Nat)
 | 0,out,_=>some out
 | k+1,out,done=>match kQ ps done with
  | none=>none
  | some v=>jz ps k (out++[v]) (done ||| 2 ^ v)
def eR (ps:List Nat):Option (List Nat):=jz ps ps.length [] 0
theorem yS {ps:List Nat}{done v:Nat}(hp:∀ p∈ps,p<2 ^ 64)(h:kQ ps done=some v):v<ps.length/\done.testBit v=false/\Sub (ps.getD v 0) done:=by
 unfold kQ at h;have h1:=List.mem_of_find?_eq_some h;have h2:=List.find?_some h;unfold mq at h2;simp only[Bool.and_eq_true,Bool.not_eq_true',decide_eq_true_eq]at h2;have hv:=List.mem_range.1 h1;refine⟨hv,h2.1,(DF ?_).1 h2.2⟩;rw[List.getD_eq_getElem?_getD];cases h:ps[v]? with
 | none=>decide
 | some p=>exact hp p (List.mem_of_getElem? h)
theorem Qn {ps:List Nat}{done:Nat}(hp:∀ p∈ps,p<2 ^ 64)(h:kQ ps done=none):∀ v,v<ps.length->done.testBit v=true\/¬ Sub (ps.getD v 0) done:=by
 intro v hv;unfold kQ at h;rw[List.find?_eq_none]at h;have:=h v (List.mem_range.2 hv);unfold mq at this;rcases Bool.eq_false_or_eq_true (done.testBit v) with e|e
 ·exact .inl e
 ·right;intro hs;refine this ?_;rw[e,(DF ?_).2 hs]
  ·simp
  ·rw[List.getD_eq_getElem?_getD];cases h:ps[v]? with
   | none=>decide
   | some p=>exact hp p (List.mem_of_getElem? h)
theorem i9 (d v i:Nat):(d ||| 2 ^ v).testBit i=(d.testBit i || decide (v=i)):=by rw[Nat.testBit_or,Nat.testBit_two_pow]
theorem Qo {ps:List Nat}(hp:∀ p∈ps,p<2 ^ 64):∀ (k:Nat) (out:List Nat) (done:Nat) (r:List Nat),jz ps k out done=some r->k+cP ps.length done=ps.length ->
  mn ps done->(∀ v,v<ps.length->done.testBit v=true->(fF ps (ps.getD v 0)).testBit v=false)->mj ps:=by
 intro k
 induction k with
 | zero =>
  intro out done r _ hc hcl hall v hv;refine hall v hv ?_;rcases Bool.eq_false_or_eq_true (done.testBit v) with e|e
  ·exact e
  ·have:cP ps.length done<cP ps.length (2 ^ ps.length - 1 ||| done):=pA (.right _ _) hv e (by rw[Nat.testBit_or,Nat.testBit_two_pow_sub_one];simp [hv]);have:=yR ps.length (2 ^ ps.length - 1 ||| done);omega
 | succ k ih =>
  intro out done r h hc hcl hall;unfold jz at h;split at h
  ·cases h
  ·rename_i v hn;obtain⟨h1,h2,h3⟩:=yS hp hn;refine ih _ _ _ h ?_ ?_ ?_
   ·have:cP ps.length (done ||| 2 ^ v)=cP ps.length done+1:=by
     unfold cP;have:∀ l:List Nat,l.Nodup->v∈l->l.countP (fun i=>(done ||| 2 ^ v).testBit i)=l.countP (fun i=>done.testBit i)+1:=by
      intro l
      induction l with
      | nil=>intro _ h;cases h
      | cons x l ihl =>
       intro hnd hmem;obtain⟨g1,g2⟩:=List.nodup_cons.1 hnd;rw[List.countP_cons,List.countP_cons];rcases List.mem_cons.1 hmem with rfl|hm2
       ·have:l.countP (fun i=>(done ||| 2 ^ v).testBit i)=l.countP (fun i=>done.testBit i):=List.countP_congr fun y hy=>by
         have:¬ v=y:=(by rintro rfl;exact g1 hy);simp [i9,this]
        rw[this];simp [i9,h2]
       ·have hx:¬ v=x:=(by rintro rfl;exact g1 hm2);rw[ihl g2 hm2];simp [i9,hx];omega
     exact this _ List.nodup_range (List.mem_range.2 h1)
    omega
   ·intro u hu hb;rw[i9,Bool.or_eq_true,decide_eq_true_eq]at hb;rcases hb with hb|rfl
    ·exact(hcl u hu hb).trans (.left _ _)
    ·exact h3.trans (.left _ _)
   ·intro u hu hb;rw[i9,Bool.or_eq_true,decide_eq_true_eq]at hb;rcases hb with hb|rfl
    ·exact hall u hu hb
    ·have:=uE hcl ps.length h3;rcases Bool.eq_false_or_eq_true ((fF ps (ps.getD v 0)).testBit v) with e|e
     ·have:=this v e;rw[h2]at this;cases this
     ·exact e
theorem Qp {ps:List Nat}(hp:∀ p∈ps,p<2 ^ ps.length)(h64:ps.length<=64)(ha:mj ps):∀ (k:Nat) (out:List Nat) (done:Nat),k+cP ps.length done=ps.length->∃ r,jz ps k out done=some r:=by
 have hp64:∀ p∈ps,p<2 ^ 64:=fun p h=>Nat.lt_of_lt_of_le (hp p h) (Nat.pow_le_pow_right (by decide) h64);have hpd:∀ v,ps.getD v 0<2 ^ ps.length:=fun v=>by
  rw[List.getD_eq_getElem?_getD];cases h:ps[v]? with
  | none=>exact Nat.two_pow_pos _
  | some p=>exact hp p (List.mem_of_getElem? h)
 intro k
 induction k with
 | zero=>exact fun out done _=>⟨out,rfl⟩
 | succ k ih =>
  intro out done hc;unfold jz;cases hn:kQ ps done with
  | none =>
   exfalso;have hno:=Qn hp64 hn
      -- every node that is left has a parent that is left
   have step:∀ m v,v<ps.length->done.testBit v=false->cP ps.length (fF ps (ps.getD v 0))<=m->False:=by
    intro m
    induction m with
    | zero =>
     intro v hv hd hm;obtain⟨i,h1,h2⟩:∃ i,(ps.getD v 0).testBit i=true/\done.testBit i=false:=by
      rcases hno v hv with h|h
      ·rw[hd]at h;cases h
      ·refine Classical.byContradiction fun hc=>h fun i hi=>?_;rcases Bool.eq_false_or_eq_true (done.testBit i) with e|e
       ·exact e
       ·exact absurd ⟨i,hi,e⟩ hc
     have:cP ps.length 0<cP ps.length (fF ps (ps.getD v 0)):=pA (fun j hj=>by rw[Nat.zero_testBit]at hj;cases hj) (py (hpd v) h1) (Nat.zero_testBit i) (uF ps _ _ i h1);omega
    | succ m ihm =>
     intro v hv hd hm;obtain⟨u,h1,h2⟩:∃ i,(ps.getD v 0).testBit i=true/\done.testBit i=false:=by
      rcases hno v hv with h|h
      ·rw[hd]at h;cases h
      ·refine Classical.byContradiction fun hc=>h fun i hi=>?_;rcases Bool.eq_false_or_eq_true (done.testBit i) with e|e
       ·exact e
       ·exact absurd ⟨i,hi,e⟩ hc
     have hu:=py (hpd v) h1;have hcl:=Qm hp (hpd v);have hin:(fF ps (ps.getD v 0)).testBit u=true:=uF ps _ _ u h1;have hsub:Sub (fF ps (ps.getD u 0)) (fF ps (ps.getD v 0)):=uE hcl _ (hcl u hu hin);have:=pA hsub hu (ha u hu) hin;exact ihm u hu h2 (by omega)
   obtain⟨v,hv,hd⟩:∃ v,v<ps.length/\done.testBit v=false:=by
    refine Classical.byContradiction fun hno=>?_;have:cP ps.length done=ps.length:=by
     unfold cP
     conv=>rhs;rw[<- List.length_range (n:=ps.length)]
     rw[List.countP_eq_length];intro x hx;rcases Bool.eq_false_or_eq_true (done.testBit x) with e|e
     ·exact e
     ·exact absurd ⟨x,List.mem_range.1 hx,e⟩ hno
    omega
   exact step _ v hv hd (Nat.le_refl _)
  | some v =>
   obtain⟨h1,h2,h3⟩:=yS hp64 hn;refine ih _ _ ?_;have:cP ps.length (done ||| 2 ^ v)=cP ps.length done+1:=by
    unfold cP;have:∀ l:List Nat,l.Nodup->v∈l->l.countP (fun i=>(done ||| 2 ^ v).testBit i)=l.countP (fun i=>done.testBit i)+1:=by
     intro l
     induction l with
     | nil=>intro _ h;cases h
     | cons x l ihl =>
      intro hnd hmem;obtain⟨g1,g2⟩:=List.nodup_cons.1 hnd;rw[List.countP_cons,List.countP_cons];rcases List.mem_cons.1 hmem with rfl|hm2
      ·have:l.countP (fun i=>(done ||| 2 ^ v).testBit i)=l.countP (fun i=>done.testBit i):=List.countP_congr fun y hy=>by
        have:¬ v=y:=(by rintro rfl;exact g1 hy);simp [i9,this]
       rw[this];simp [i9,h2]
      ·have hx:¬ v=x:=(by rintro rfl;exact g1 hm2);rw[ihl g2 hm2];simp [i9,hx];omega
    exact this _ List.nodup_range (List.mem_range.2 h1)
   omega
theorem DI (n:Nat):cP n 0=0:=by
 unfold cP;rw[List.countP_eq_zero];intro x _;simp
theorem DJ {ps:List Nat}(hp:∀ p∈ps,p<2 ^ ps.length)(h64:ps.length<=64):(eR ps).isSome=true↔mj ps:=by
 have hp64:∀ p∈ps,p<2 ^ 64:=fun p h=>Nat.lt_of_lt_of_le (hp p h) (Nat.pow_le_pow_right (by decide) h64);constructor
 ·intro h;obtain⟨r,hr⟩:=Option.isSome_iff_exists.1 h;exact Qo hp64 _ _ _ r hr (by rw[DI];omega) (fun v _ h=>by rw[Nat.zero_testBit]at h;cases h) (fun v _ h=>by rw[Nat.zero_testBit]at h;cases h)
 ·intro h;obtain⟨r,hr⟩:=Qp hp h64 h ps.length [] 0 (by rw[DI];omega);unfold eR;rw[hr];rfl
end Go.Proofs
namespace Go.Hx
def cI (l:List Nat):AVal:=.vec l.length (l.map aW)
attribute [go_sem] aW cI
theorem aB.ze {S:Nat->Prop}{lo nx:Nat}{H:AHeap}{e:TypeId}{v:AVal}{l:List Nat}(h:aB lo H e v (l.map aW))(hS:∀ i,lo<=i->S i):Fz S H nx v (cI l):=by
 have:=h.fz (S:=S) (nx:=nx) (cs':=l.map aW) hS rfl fun i hi _=>by simp only[List.getElem_map];exact .lit _
 rw[List.length_map]at this;exact this
end Go.Hx
namespace Go.Proofs
open Go.Hx
theorem RA {H H':AHeap}{v:AVal}{l:List Nat}(x:Nat)(ov:Over H H')(h:aB H.next H' 45 v (l.map aW))(hl:l.length<2 ^ 40):
  ∃ v' H2,bG Try.prog (ext H' [.arr 0 45 [.lit (.int .u64 (x:Int))]]) (H'.next+1) 78 78 v (.own H'.next 0 0 1 1)=some (v',H2)/\Over H H2/\aB H.next H2 45 v' ((l++[x]).map aW)/\H'.next<=H2.next/\(∀ k,k<H'.next->(∀ g n,v≠.own k g 0 n 1)->H2.get k=H'.get k):=by
 obtain⟨v',H2,hA,hO,hn2,hp⟩:=jm (P:=Try.prog) (H:=H') (t:=78) (x:=aW x) (n:=H'.next+1) Try.underlying78 Try.C9 Try.Db rfl (by rw[Try.Da,List.length_map];omega) h ov.next rfl;simp only[aW]at hA;exact⟨v',H2,hA,nt ov h hn2 hp,by rw[List.map_append];exact hO,hn2,hp⟩
theorem Ej (m v:Nat)(hm:m<2 ^ 64)(hv:v<2 ^ 62)(H:AHeap)(K:ARes->AHeap->Prop)(hK:K (.ret (.lit (.bool (m.testBit v)))) H):ae Try.prog G0 81 [aW m,aa v] H K:=by
 refine ae.bM (n:=11) (rs:=[.tmp 4]) Try.func81 rfl rfl rfl (by decide) (by kernel_rfl) (by simp) ?_;have w1:=IntWalk.u64_in (v:Int) (by omega);have s1:=fun t x y=>Eu (P:=Try.prog) (t:=t) (x:=x) (y:=y) (k':=.u64) (s:=v) hm;have s2:=fun t x y=>Ew (P:=Try.prog) (t:=t) (x:=x) (y:=y) (s:=v) hm;cases hb:m.testBit v
 ·rw[hb]at hK;simp only[go_sem,w1,s1,s2,hb];exact av.mk (Nat.le_refl _) hK
 ·rw[hb]at hK;simp only[go_sem,w1,s1,s2,hb];exact av.mk (Nat.le_refl _) hK
def bB (ns:List NodeP):List Nat:=ns.map fun x=>dL x.parents
theorem nD {ns:List NodeP}{k:Nat}{x:NodeP}(h:ns[k]?=some x):(bB ns)[k]?=some (dL x.parents):=by unfold bB;rw[List.getElem?_map,h];rfl
theorem RB (g:Int)(ns:List NodeP)(hl:(ns.length:Int)<2 ^ 39)(hp:∀ x∈ns,(x.parents.length:Int)<2 ^ 39/\∀ q∈x.parents,0<=q/\q<64)(H:AHeap)(K:ARes->AHeap->Prop)
  (hK:K (.ret (cI (bB ns))) H):ae Try.prog G0 34 [aO g ns] H K:=by
 refine ae.clo ⟨_,Try.func34,rfl,rfl⟩ fun hcl=>?_;refine ae.bM (n:=43) (rs:=[.tmp 2]) Try.func34 rfl rfl rfl (by decide) (by kernel_rfl) (by simp) ?_;simp only[go_sem,aO,cM];obtain⟨H1,hH1⟩:∃ H1,H1=ext H [.arr 0 35 [.lit (.int .i64 g),.vec ns.length (ar ns)]]:=⟨_,rfl⟩
 have l1:H1.live H.next 0=some (35,[.lit (.int .i64 g),.vec ns.length (ar ns)]):=by rw[hH1];exact ak (dp ..)
 have n1:H1.next=H.next+1:=by rw[hH1];rfl
 have o1:Over H H1:=by rw[hH1];exact .ext _ _
 rw[<- hH1];refine W.aI 4398046511096 (by rfl) (fun ρ H'=>∃ k:Nat,ρ 4=aa k/\k<=ns.length/\ρ 1=.ptr H.next 0 0/\Over H1 H'/\aB H1.next H' 45 (ρ 3) (((bB ns).take k).map aW)) (fun ρ H=>ns.length - (iv (ρ 4)).toNat) ?_ ?_
 ·simp only[go_sem];exact⟨0,rfl,by omega,.refl _,.nil⟩
 rintro ρ H' ⟨k,h4,hk,h1,ov,h3⟩;refine ab _ _ _ (by rfl) ?_;have l2:=(ov.live (g:=0) (by omega:H.next<H1.next)).trans l1;by_cases hb:(k:Int)<ns.length
 ·obtain⟨x,hx⟩:=get_of_lt (l:=ns) (i:=k) (by omega);have hne:=fa hx;have e1:=ry hx;obtain⟨xl,xr⟩:=hp x (List.mem_of_getElem? hx);simp only[go_sem,h4,h1,l2,hb];refine W.aI 274877890656 (by rfl) (fun ρ' H2=>H2=H'/\∃ j:Nat,ρ' 6=aa j/\j<=x.parents.length/\ρ' 5=aW (dL (x.parents.take j))) (fun ρ' H=>x.parents.length - (iv (ρ' 6)).toNat) ?_ ?_
  ·simp only[go_sem];exact⟨0,rfl,by omega,rfl⟩
  rintro ρ' H2 ⟨rfl,j,h6,hj,h5⟩;refine ab _ _ _ (by rfl) ?_;by_cases hb2:(j:Int)<x.parents.length
  ·obtain⟨q,hq⟩:=get_of_lt (l:=x.parents) (i:=j) (by omega);obtain⟨q0,q1⟩:=xr q (List.mem_of_getElem? hq);obtain⟨u,rfl⟩:=Int.eq_ofNat_of_zero_le q0;have hne2:=aN hq;have w1:=IntWalk.u64_in (u:Int) (by omega);have w2:=IntWalk.i64_in ((j:Int)+1) (by omega);have b1:dL (x.parents.take j)<2 ^ 64:=yO fun p hp=>by have:=xr p (List.mem_of_mem_take hp);omega
   have s1:=fun t x y=>zk (P:=Try.prog) (t:=t) (x:=x) (y:=y) (k':=.u64) (s:=u) (by omega);have s2:=fun t x y=>uW (P:=Try.prog) (t:=t) (x:=x) (y:=y) (b:=2 ^ u) b1 (Nat.pow_lt_pow_right (by decide) (by omega));simp only[go_sem,h4,h1,l2,hb,hne,e1,h6,h5,hb2,hq,hne2,w1,w2,s1,s2];exact⟨⟨j+1,by simp,by omega,by rw[aL hq,DD];rfl⟩,by omega⟩
  ·obtain⟨v',H3,hA,ov2,hO,hn2,_⟩:=RA (dL x.parents) ov h3 (by simp [bB];omega);have w1:=IntWalk.i64_in ((k:Int)+1) (by omega);rw[List.take_of_length_le (by omega)]at h5;simp only[go_sem,h4,h1,l2,hb,hne,e1,h6,h5,hb2,w1,hA];refine⟨by have:=ov2.next;omega,⟨k+1,by simp,by omega,ov2,?_⟩,by omega⟩;rw[aL (nD hx)];exact hO
 ·simp only[go_sem,h4,h1,l2,hb];rw[List.take_of_length_le (by simp [bB];omega)]at h3;exact av.bY aV hcl (o1.trans ov) (h3.ze fun i hi=>by omega) hK
theorem Ek {ps:List Nat}(hp:∀ p∈ps,p<2 ^ 64)(l:List Nat):∀ s,s<2 ^ 64->l.foldl (eQ ps) s<2 ^ 64:=by
 induction l with
 | nil=>exact fun s h=>h
 | cons v l ih =>
  intro s h;refine ih _ ?_;unfold eQ;split
  ·refine Nat.or_lt_two_pow h ?_;rw[List.getD_eq_getElem?_getD];cases h:ps[v]? with
   | none=>decide
   | some p=>exact hp p (List.mem_of_getElem? h)
  ·exact h
theorem zf {ps:List Nat}(hp:∀ p∈ps,p<2 ^ 64){s:Nat}(hs:s<2 ^ 64):∀ k,dX ps k s<2 ^ 64
 | 0=>hs
 | k+1=>Ek hp _ _ (zf hp hs k)
theorem RC (ps:List Nat)(s:Nat)(hl:(ps.length:Int)<2 ^ 39)(hp:∀ p∈ps,p<2 ^ 64)(hs:s<2 ^ 64)(H:AHeap)(K:ARes->AHeap->Prop)(hK:K (.ret (aW (fF ps s))) H):ae Try.prog G0 82 [cI ps,aW s] H K:=by
 refine ae.bM (n:=29) (rs:=[.tmp 4]) Try.func82 rfl rfl rfl (by decide) (by kernel_rfl) (by simp) ?_;simp only[go_sem];refine W.aI 268435426 (by rfl) (fun ρ H'=>H'=H/\∃ k:Nat,ρ 5=aa k/\k<=ps.length/\ρ 1=aW (dX ps k s)) (fun ρ H=>ps.length - (iv (ρ 5)).toNat) ?_ ?_
 ·simp only[go_sem];exact⟨0,rfl,by omega,rfl⟩
 rintro ρ H' ⟨rfl,k,h5,hk,h1⟩;refine ab _ _ _ (by rfl) ?_;by_cases hb:(k:Int)<ps.length
 ·simp only[go_sem,h5,hb];refine W.aI 268427330 (by rfl) (fun ρ' H2=>H2=H'/\∃ j:Nat,ρ' 6=aa j/\j<=ps.length/\ρ' 1=aW ((List.range j).foldl (eQ ps) (dX ps k s))) (fun ρ' H=>ps.length - (iv (ρ' 6)).toNat) ?_ ?_
  ·simp only[go_sem,h1];exact⟨0,rfl,by omega,rfl⟩
  rintro ρ' H2 ⟨rfl,j,h6,hj,h1'⟩;refine ab _ _ _ (by rfl) ?_;by_cases hb2:(j:Int)<ps.length
  ·obtain⟨p,hpj⟩:=get_of_lt (l:=ps) (i:=j) (by omega);have hne:=aN hpj;have b1:=Ek hp (List.range j) _ (zf hp hs k);have w2:=IntWalk.i64_in ((j:Int)+1) (by omega);have hst:(List.range (j+1)).foldl (eQ ps) (dX ps k s)=eQ ps ((List.range j).foldl (eQ ps) (dX ps k s)) j:=(by rw[List.range_succ,List.foldl_append];rfl);have s2:=fun t x y=>uW (P:=Try.prog) (t:=t) (x:=x) (y:=y) b1 (hp p (List.mem_of_getElem? hpj));obtain⟨m,hm⟩:∃ m,m=(List.range j).foldl (eQ ps) (dX ps k s):=⟨_,rfl⟩
   rw[<- hm]at b1 h1' hst s2;simp only[go_sem,h6,h1',hb2];refine aw.clo (Ej m j b1 (by omega) _ _ ⟨trivial,?_⟩);cases hbit:m.testBit j
   ·simp only[go_sem,h6,h1',w2];exact⟨⟨j+1,by simp,by omega,by rw[hst];unfold eQ;rw[hbit];rfl⟩,by omega⟩
   ·simp only[go_sem,h6,h1',w2,hb2,hpj,hne,s2];exact⟨⟨j+1,by simp,by omega,by rw[hst];unfold eQ;rw[hbit,if_pos rfl,bJ hpj]⟩,by omega⟩
  ·have w2:=IntWalk.i64_in ((k:Int)+1) (by omega);have ej:j=ps.length:=(by omega);subst ej;simp only[go_sem,h6,h1',hb2,h5,w2];exact⟨⟨k+1,by simp,by omega,rfl⟩,by omega⟩
 ·simp only[go_sem,h5,h1,hb];have ek:k=ps.length:=by omega
  subst ek;exact av.mk (Nat.le_refl _) hK
def rC (ps:List Nat):Bool:=(List.range ps.length).all fun v=>!(fF ps (ps.getD v 0)).testBit v
theorem uP (ps:List Nat):rC ps=true↔mj ps:=by
 unfold rC mj;simp only[List.all_eq_true,List.mem_range,Bool.not_eq_true']
theorem RD (ps:List Nat)(hl:(ps.length:Int)<2 ^ 39)(hp:∀ p∈ps,p<2 ^ 64)(H:AHeap)(K:ARes->AHeap->Prop)(hK:K (.ret (.lit (.bool (rC ps)))) H):ae Try.prog G0 61 [cI ps] H K:=by
 have no:¬ rC ps=true->av Try.prog G0 H K (.lit (.bool false)) H:=fun h=>av.mk (Nat.le_refl _) (by rw[Bool.eq_false_iff.2 h]at hK;exact hK);refine ae.bM (n:=18) (rs:=[.tmp 2]) Try.func61 rfl rfl rfl (by decide) (by kernel_rfl) (by simp) ?_;simp only[go_sem];refine W.aI 262140 (by rfl) (fun ρ H'=>H'=H/\∃ k:Nat,ρ 3=aa k/\k<=ps.length/\∀ v,v<k->(fF ps (ps.getD v 0)).testBit v=false) (fun ρ H=>ps.length - (iv (ρ 3)).toNat) ?_ ?_
 ·simp only[go_sem];exact⟨0,rfl,by omega,fun v h=>absurd h (Nat.not_lt_zero _)⟩
 rintro ρ H' ⟨rfl,k,h3,hk,ha⟩;refine ab _ _ _ (by rfl) ?_;by_cases hb:(k:Int)<ps.length
 ·obtain⟨p,hpk⟩:=get_of_lt (l:=ps) (i:=k) (by omega);have hne:=aN hpk;have hp1:=hp p (List.mem_of_getElem? hpk);simp only[go_sem,h3,hb,hpk,hne];refine aw.clo (RC ps p hl hp hp1 _ _ ⟨trivial,?_⟩);simp only[go_sem,h3];refine aw.clo (Ej (fF ps p) k (zf hp hp1 _) (by omega) _ _ ⟨trivial,?_⟩);have w2:=IntWalk.i64_in ((k:Int)+1) (by omega);cases hbit:(fF ps p).testBit k
  ·simp only[go_sem,h3,w2];refine⟨⟨k+1,by simp,by omega,fun v hv=>?_⟩,by omega⟩;rcases Nat.lt_or_ge v k with h|h
   ·exact ha v h
   ·obtain rfl:v=k:=(by omega);rw[bJ hpk];exact hbit
  ·simp only[go_sem];refine no fun h=>?_;have:=(uP ps).1 h k (by omega);rw[bJ hpk,hbit]at this;cases this
 ·simp only[go_sem,h3,hb];rw[(uP ps).2 fun v hv=>ha v (by omega)]at hK;exact av.mk (Nat.le_refl _) hK
def jE (g card:Int)(r:List Int):Prop:=(r.length:Int)=card/\(∀ w∈r,0<=w/\w<=g)/\r.sum=g
def iH (g:Int)(ns:List NodeP)(x:NodeP):Prop:=(x.rows.length:Int)=aC (aX ns x)/\∀ r∈x.rows,jE g x.card r
structure NetOk (g:Int)(ns:List NodeP):Prop where
 g1:1<=g/\g<=60
 n1:1<=ns.length/\ns.length<=8
 node:∀ x∈ns,(1<=x.card/\x.card<=4)/\di x.parents ns.length
 size:aC (au ns)<=1024
 acyc:mj (bB ns)
 rows:∀ x∈ns,iH g ns x
noncomputable def fJ (g:Int)(ns:List NodeP):Bool:=@decide (NetOk g ns) (Classical.propDecidable _)
theorem uQ {g:Int}{ns:List NodeP}(h:NetOk g ns):fJ g ns=true:=by unfold fJ;exact @decide_eq_true _ (Classical.propDecidable _) h
theorem El {g:Int}{ns:List NodeP}(h:¬ NetOk g ns):fJ g ns=false:=by unfold fJ;exact @decide_eq_false _ (Classical.propDecidable _) h
theorem zg {g:Int}{ns:List NodeP}:fJ g ns=true↔NetOk g ns:=by unfold fJ;exact @decide_eq_true_iff _ (Classical.propDecidable _)
def fj (ns:List NodeP):Prop:=(ns.length:Int)<2 ^ 38/\∀ x∈ns,(x.parents.length:Int)<2 ^ 38/\(x.rows.length:Int)<2 ^ 38/\∀ r∈x.rows,(r.length:Int)<2 ^ 38
theorem pI {l:List Int}(h:l.length<=12)(h2:∀ x∈l,1<=x/\x<=4):eJ l:=⟨h,fun x hx=>by have:=h2 x hx;omega⟩
theorem Em {ns:List NodeP}{x:NodeP}(hin:iG x.parents ns.length)(hc:∀ y∈ns,1<=y.card/\y.card<=4):∀ c∈aX ns x,1<=c/\c<=4:=fun c h=>by
 unfold aX aY at h;obtain⟨q,hq,rfl⟩:=List.mem_map.1 h;obtain⟨j,rfl,y,hy⟩:=ni (l:=ns) (hin q hq).1 (hin q hq).2;rw[Int.toNat_natCast,bJ (cS hy)];exact hc y (List.mem_of_getElem? hy)
theorem uR {ns:List NodeP}{x:NodeP}(h8:ns.length<=8)(hp:di x.parents ns.length)(hc:∀ y∈ns,1<=y.card/\y.card<=4):eJ (aX ns x):=by
 refine pI ?_ (Em (fun q hq=>by have:=hp.2 q hq;omega) hc);rw[show (aX ns x).length=_ from ja _ _];have:=hp.len;omega
theorem uS {ns:List NodeP}{n:Nat}(h:∀ x∈ns,∀ q∈x.parents,0<=q/\q<(n:Int)):∀ p∈bB ns,p<2 ^ n:=fun p hp=>by
 obtain⟨x,hx,rfl⟩:=List.mem_map.1 hp;exact yO fun q hq=>by have:=h x hx q hq;omega
theorem uT (l:List Int)(x:Int):(l++[x]).sum=l.sum+x:=by simp
set_option maxHeartbeats 2000000 in
theorem RE (g:Int)(ns:List NodeP)(hf:fj ns)(H:AHeap)(K:ARes->AHeap->Prop)(hK:K (.ret (.lit (.bool (fJ g ns)))) H):ae Try.prog G0 30 [aO g ns] H K:=by
 refine ae.clo ⟨_,Try.func30,rfl,rfl⟩ fun hcl=>?_;have no:¬ NetOk g ns->∀ H',Over H H'->av Try.prog G0 H K (.lit (.bool false)) H':=fun h H' ov=>av.bY aV hcl ov (.lit _) (by rw[El h]at hK;exact hK);refine ae.bM (n:=154) (rs:=[.tmp 2]) Try.func30 rfl rfl rfl (by decide) (by kernel_rfl) (by simp) ?_;simp only[go_sem,aO,cM];obtain⟨H1,hH1⟩:∃ H1,H1=ext H [.arr 0 35 [.lit (.int .i64 g),.vec ns.length (ar ns)]]:=⟨_,rfl⟩
 have l1:H1.live H.next 0=some (35,[.lit (.int .i64 g),.vec ns.length (ar ns)]):=by rw[hH1];exact ak (dp ..)
 have n1:H1.next=H.next+1:=by rw[hH1];rfl
 have o1:Over H H1:=by rw[hH1];exact .ext _ _
 rw[<- hH1];by_cases c1:g<1
 ·simp only[go_sem,c1];exact no (fun h=>by have:=h.g1;omega) _ o1
 by_cases c2:g > 60
 ·simp only[go_sem,l1,c1,c2];exact no (fun h=>by have:=h.g1;omega) _ o1
 by_cases c3:(ns.length:Int)<1
 ·simp only[go_sem,l1,c1,c2,c3];exact no (fun h=>by have:=h.n1;omega) _ o1
 by_cases c4:(ns.length:Int) > 8
 ·simp only[go_sem,l1,c1,c2,c3,c4];exact no (fun h=>by have:=h.n1;omega) _ o1
 simp only[go_sem,l1,c1,c2,c3,c4];refine W.aI 18446744071562068028 (by rfl) (fun ρ H'=>∃ k:Nat,ρ 4=aa k/\k<=ns.length/\Over H1 H'/\(∀ x∈ns.take k,(1<=x.card/\x.card<=4)/\di x.parents ns.length)/\ρ 3=aa (aC ((au ns).take k))) (fun ρ H=>ns.length - (iv (ρ 4)).toNat) ?_ ?_
 ·simp only[go_sem];exact⟨0,rfl,by omega,.refl _,by simp,by simp [gU]⟩
 ·rintro ρ H' ⟨k,h4,hk,ov,hall,h3⟩;refine ab _ _ _ (by rfl) ?_;have l2:=(ov.live (g:=0) (by omega:H.next<H1.next)).trans l1;have hlt:H.next<H'.next:=by have:=ov.next;omega
  have l3:∀ L,(ext H' L).live H.next 0=_:=fun L=>(eP hlt).trans l2;by_cases hb:(k:Int)<ns.length
  ·obtain⟨x,hx⟩:=get_of_lt (l:=ns) (i:=k) (by omega);have hxm:=List.mem_of_getElem? hx;have hne:=fa hx;have e0:=kf hx;have e1:k*3+3<=(ar ns).length:=(by rw[fD];omega);have nb:¬ H.next=H'.next:=(by omega);have ove:∀ L,Over H (ext H' L):=fun L=>(o1.trans ov).trans (.ext _ _);by_cases d1:x.card<1
   ·simp only[go_sem,h4,l2,hb,hne,e0,e1,d1];exact no (fun h=>by have:=(h.node x hxm).1;omega) _ (ove _)
   by_cases d2:x.card > 4
   ·simp only[go_sem,h4,l2,hb,hne,e0,e1,d1,d2];exact no (fun h=>by have:=(h.node x hxm).1;omega) _ (ove _)
   simp only[go_sem,h4,l2,l3,hb,hne,e0,e1,d1,d2];refine aw.clo (Rx x.parents ns.length (by have:=(hf.2 x hxm).1;omega) _ _ ⟨trivial,?_⟩);by_cases d3:di x.parents ns.length;rotate_left
   ·simp only[go_sem,d3];exact no (fun h=>d3 (h.node x hxm).2) _ (ove _)
   have hall':∀ y∈ns.take (k+1),(1<=y.card/\y.card<=4)/\di y.parents ns.length:=fun y hy=>by
    rw[aL hx]at hy;rcases List.mem_append.1 hy with hy|hy
    ·exact hall y hy
    ·obtain rfl:=List.mem_singleton.1 hy;exact⟨by omega,d3⟩
   have b1:eJ ((au ns).take (k+1)):=pI (by simp [au];omega) fun c hc=>by
    rw[show (au ns).take (k+1)=au (ns.take (k+1)) by simp [au]]at hc;obtain⟨y,hy,rfl⟩:=List.mem_map.1 hc;exact(hall' y hy).1
   have b2:=b1.prod;rw[aL (cS hx),iZ]at b2;have w1:=IntWalk.i64_in ((k:Int)+1) (by omega);have w2:=IntWalk.i64_in (aC ((au ns).take k)*x.card) (by omega);simp only[go_sem,h4,h3,d3,w1,w2];exact⟨by have:=ov.next;omega,⟨k+1,by simp,by omega,ov.trans (.ext _ _),fun y hy=>hall' y hy,by rw[aL (cS hx),iZ]⟩,by omega⟩
  ·have ek:k=ns.length:=(by omega);subst ek;rw[List.take_of_length_le (Nat.le_refl _)]at hall;rw[List.take_of_length_le (by rw[cG];omega)]at h3;have hcards:∀ y∈ns,1<=y.card/\y.card<=4:=fun y hy=>(hall y hy).1;have ov0:=o1.trans ov;by_cases c5:aC (au ns) > 1024
   ·simp only[go_sem,h4,h3,l2,hb,c5];exact no (fun h=>by have:=h.size;omega) _ ov0
   simp only[go_sem,h4,h3,l2,hb,c5];have hpl:∀ x∈ns,(x.parents.length:Int)<2 ^ 39/\∀ q∈x.parents,0<=q/\q<64:=fun x hx=>⟨by have:=(hf.2 x hx).1;omega,fun q hq=>by have:=(hall x hx).2.2 q hq;omega⟩
   refine aw.clo (RB g ns (by have:=hf.1;omega) hpl _ _ ⟨trivial,?_⟩);simp only[go_sem];refine aw.clo (RD (bB ns) (by simp [bB];omega) (fun p hp=>Nat.lt_of_lt_of_le (uS (n:=64) (fun x hx q hq=>by have:=(hpl x hx).2 q hq;omega) p hp) (Nat.le_refl _)) _ _ ⟨trivial,?_⟩);cases hac:rC (bB ns)
   ·simp only[go_sem];exact no (fun h=>by rw[(uP _).2 h.acyc]at hac;cases hac) _ ov0
   simp only[go_sem];refine W.aI 22835963083295358096932570788825439312478734276 (by rfl) (fun ρ' H2=>∃ k:Nat,ρ' 6=aa k/\k<=ns.length/\Over H' H2/\∀ x∈ns.take k,iH g ns x) (fun ρ' H=>ns.length - (iv (ρ' 6)).toNat) ?_ ?_
   ·simp only[go_sem];exact⟨0,rfl,by omega,.refl _,by simp⟩
   rintro ρ' H2 ⟨k,h6,hk,ov2',hrows⟩;have ov2:=ov.trans ov2';refine ab _ _ _ (by rfl) ?_;have l2:=(ov2.live (g:=0) (by omega:H.next<H1.next)).trans l1;have hlt:H.next<H2.next:=(by have:=ov2.next;omega);by_cases hb:(k:Int)<ns.length;rotate_left
   ·simp only[go_sem,h6,l2,hb];rw[List.take_of_length_le (by omega)]at hrows;rw[uQ ⟨by omega,by omega,hall,by omega,(uP _).1 hac,hrows⟩]at hK;exact av.bY aV hcl (o1.trans ov2) (.lit _) hK
   obtain⟨x,hx⟩:=get_of_lt (l:=ns) (i:=k) (by omega);have hxm:=List.mem_of_getElem? hx;have hne:=fa hx;have e0:=kf hx;have e1:k*3+3<=(ar ns).length:=(by rw[fD];omega);obtain⟨x1,x2⟩:=hall x hxm;obtain⟨f1,f2,f3⟩:=hf.2 x hxm;have sm:=uR (by omega) x2 hcards;simp only[go_sem,h6,l2,hb,hne,e0,e1];obtain⟨H3,hH3⟩:∃ H3,H3=ext H2 [.arr 0 69 [.lit (.int .i64 x.card),.vec x.parents.length (ints x.parents),aE x.rows]]:=⟨_,rfl⟩
   have m1:H3.live H2.next 0=some (69,[.lit (.int .i64 x.card),.vec x.parents.length (ints x.parents),aE x.rows]):=(by rw[hH3];exact ak (dp ..));have m2:H3.live H.next 0=some (35,[.lit (.int .i64 g),.vec ns.length (ar ns)]):=(by rw[hH3,eP hlt];exact l2);have m3:H3.next=H2.next+1:=(by rw[hH3];rfl);have ov3:Over H1 H3:=(by rw[hH3];exact ov2.trans (.ext _ _));have ov4:Over H H3:=o1.trans ov3;rw[<- hH3];refine W.draw 7 [0,1,3,0,0,24,56] Try.mixed (by kernel_rfl) (by kernel_rfl) ?_;simp only[go_sem,h6,m1,m2,aE];refine⟨af (aX ns x),[],dx.pure fun H2=>Rz g ns k x hx (by have:=hf.1;omega) (by omega) (fun q hq=>by have:=x2.2 q hq;omega) H2 _ ⟨rfl,rfl⟩,?_⟩;simp only[go_sem];refine⟨aa (aC (aX ns x)),[],dx.pure fun H2=>zc (aX ns x) sm H2 _ ⟨rfl,rfl⟩,?_⟩;by_cases d1:(x.rows.length:Int)=aC (aX ns x);rotate_left
   ·simp only[go_sem,d1];exact no (fun h=>d1 (h.rows x hxm).1) _ ov4
   simp only[go_sem,d1];refine W.aI 22835963083295358091980815354050401082527450884 (by rfl) (fun ρ2 H4=>H4=H3/\∃ j:Nat,ρ2 8=aa j/\j<=x.rows.length/\∀ r∈x.rows.take j,jE g x.card r) (fun ρ2 H=>x.rows.length - (iv (ρ2 8)).toNat) ?_ ?_
   ·simp only[go_sem];exact⟨0,rfl,by omega,by simp⟩
   rintro ρ2 H4 ⟨rfl,j,h8,hj,hrj⟩;refine ab _ _ _ (by rfl) ?_;by_cases hb2:(j:Int)<x.rows.length;rotate_left
   ·have w1:=IntWalk.i64_in ((k:Int)+1) (by omega);have hb2':¬ (j:Int)<aC (aX ns x):=(by omega);simp only[go_sem,h6,h8,m1,hb2',d1,w1,aE];rw[List.take_of_length_le (by omega)]at hrj;refine⟨by have:=ov2'.next;omega,⟨k+1,by simp,by omega,by rw[hH3];exact ov2'.trans (.ext _ _),fun y hy=>?_⟩,by omega⟩;rw[aL hx]at hy;rcases List.mem_append.1 hy with hy|hy
    ·exact hrows y hy
    ·obtain rfl:=List.mem_singleton.1 hy;exact⟨d1,hrj⟩
   obtain⟨r,hr⟩:=get_of_lt (l:=x.rows) (i:=j) (by omega);have hrm:=List.mem_of_getElem? hr;have hrne:=aN hr;have hb2':(j:Int)<aC (aX ns x):=(by omega);have nope:¬ jE g x.card r->¬ NetOk g ns:=fun h h'=>h ((h'.rows x hxm).2 r hrm);simp only[go_sem,h8,m1,hb2',d1,aE];refine W.draw 8 [0,1,0,7,15,31,0,64] Try.mixed (by kernel_rfl) (by kernel_rfl) ?_;by_cases d2:(r.length:Int)=x.card;rotate_left
   ·simp only[go_sem,h8,m1,hb2',d1,d2,hr,hrne,aE];exact no (nope fun h=>d2 h.1) _ ov4
   simp only[go_sem,h8,m1,hb2',d1,d2,hr,hrne,aE];refine W.aI 1427247692705635362504627542722711980362171908 (by rfl) (fun ρ3 H5=>H5=H4/\∃ i:Nat,ρ3 10=aa i/\i<=r.length/\ρ3 9=aa (r.take i).sum/\∀ w∈r.take i,0<=w/\w<=g) (fun ρ3 H=>r.length - (iv (ρ3 10)).toNat) ?_ ?_
   ·simp only[go_sem];exact⟨0,rfl,by omega,by simp,by simp⟩
   rintro ρ3 H5 ⟨rfl,i,h10,hi,h9,hw⟩;refine ab _ _ _ (by rfl) ?_;have sb:0<=(r.take i).sum/\(r.take i).sum<=60*i:=by
    have key:∀ l:List Int,(∀ w∈l,0<=w/\w<=g)->0<=l.sum/\l.sum<=60*l.length:=by
     intro l
     induction l with
     | nil=>intro _;simp
     | cons a l ih =>
      intro h;have h1:=ih fun w hw=>h w (by simp [hw]);have h2:=h a (by simp);simp only[List.sum_cons,List.length_cons]
      push_cast
      omega
    have:=key _ hw;rw[List.length_take,Nat.min_eq_left (by omega)]at this;exact this
   have r4:r.length<=4:=(by omega);by_cases hb3:(i:Int)<r.length<;>have hb3':=hb3<;>rw[d2]at hb3'
   rotate_left
   ·rw[List.take_of_length_le (by omega)]at h9 hw;by_cases d3:r.sum=g;rotate_left
    ·simp only[go_sem,h8,h9,h10,m1,m2,hb3',hr,hrne,hb2',d1,d2,d3,aE];exact no (nope fun h=>d3 h.2.2) _ ov4
    have w1:=IntWalk.i64_in ((j:Int)+1) (by have:=(hf.2 x hxm).2.1;omega);simp only[go_sem,h8,h9,h10,m1,m2,hb3',hr,hrne,hb2',d1,d2,d3,w1,aE];refine⟨⟨j+1,by simp,by omega,fun y hy=>?_⟩,by omega⟩;rw[aL hr]at hy;rcases List.mem_append.1 hy with hy|hy
    ·exact hrj y hy
    ·obtain rfl:=List.mem_singleton.1 hy;exact⟨d2,hw,d3⟩
   obtain⟨a,ha⟩:=get_of_lt (l:=r) (i:=i) (by omega);have ham:=List.mem_of_getElem? ha;have hane:=aN ha;simp only[go_sem,h8,h10,m1,hr,hrne,hb2',hb3',d1,d2,aE];refine W.draw 20 [0,1,0,7,15,0,63,127,255,511,1023,2047,1023,8191,16383,1023,65535,131071,1023,263167] Try.mixed (by kernel_rfl) (by kernel_rfl) ?_;by_cases d3:a<0
   ·simp only[go_sem,h8,h10,m1,hr,hrne,hb2',hb3',ha,hane,d1,d2,d3,aE];exact no (nope fun h=>by have:=h.2.1 a ham;omega) _ ov4
   by_cases d4:a > g
   ·simp only[go_sem,h8,h10,m1,m2,hr,hrne,hb2',hb3',ha,hane,d1,d2,d3,d4,aE];exact no (nope fun h=>by have:=h.2.1 a ham;omega) _ ov4
   have w1:=IntWalk.i64_in ((i:Int)+1) (by omega);have w2:=IntWalk.i64_in ((r.take i).sum+a) (by omega);simp only[go_sem,h8,h9,h10,m1,m2,hr,hrne,hb2',hb3',ha,hane,d1,d2,d3,d4,w1,w2,aE];refine⟨⟨i+1,by simp,by omega,by rw[aL ha,uT],fun w hw'=>?_⟩,by omega⟩;rw[aL ha]at hw';rcases List.mem_append.1 hw' with hw'|hw'
   ·exact hw w hw'
   ·obtain rfl:=List.mem_singleton.1 hw';exact⟨by omega,by omega⟩
end Go.Proofs
namespace Go.Hx
variable {P:Program} {G:Nat->Option (List AVal)} {n:Nat} {rd:Option Nat} {Q:AX->St->Prop}
def Ez (P:Program)(G:Nat->Option (List AVal))(f:FuncId)(first cap:List AVal)(xs:List (List AVal))(S:AHeap->Prop):Prop :=
 ∀ (idy:Nat) (J:Nat->AHeap->Prop) (Stop:AHeap->Prop) (H:AHeap) (K:ARes->AHeap->Prop),
  (∀ k H1,J k H1->S H1)->J 0 H ->
  (∀ k x H1 K1,xs[k]?=some x->J k H1->H.next<=H1.next->(∀ H',J (k+1) H'->H1.next<=H'.next->K1 (.ret (.lit (.bool true))) H')->(∀ H',Stop H'->H1.next<=H'.next->K1 (.ret (.lit (.bool false))) H')->aw P G (.yld idy) x H1 K1) ->
  (∀ H',J xs.length H'->H.next<=H'.next->K (.ret (.tup [])) H') ->
  (∀ H',Stop H'->H.next<=H'.next->K (.ret (.tup [])) H') ->
  ae P G f (first++[.yld idy]++cap) H K
def mv (idy:Nat)(B:Blk)(lo:Nat)(J:AHeap->Prop)(Stop:AX->AHeap->Prop):AX->St->Prop
 | .normal,s=>s.H.get idy=some B/\lo<=s.H.next/\J s.H
 | .ret,s=>s.H.get idy=some B/\lo<=s.H.next/\Stop .ret s.H
 | .exit i,s=>s.H.get idy=some B/\lo<=s.H.next/\Stop (.exit i) s.H
 | _,_=>False
def rH (P:Program)(G:Nat->Option (List AVal))(n idy:Nat)(B Bb:Blk)(lo:Nat)(body:Code)(J:AHeap->Prop)(Stop:AX->AHeap->Prop):AX->St->Prop
 | .normal,s=>s.H.get idy=some B/\W P G n (some idy) body (mv idy Bb lo J Stop) ⟨s.ρ,s.H.upd idy Bb⟩
 | _,_=>False
theorem W.Sh {g:Operand}{ps:Array Tmp}{asg body:Code}{ρ:Env}{H:AHeap}{f:FuncId}{first cap:List AVal}{xs:List (List AVal)}{S:AHeap->Prop}(hg:aj G ρ g=.clo f first cap)
  (hit:Ez P G f first cap xs S) (J:Nat->AHeap->Prop) (Stop:AX->AHeap->Prop) (hS:∀ k H1,J k H1->S H1)
  (hJu:∀ k H1 b,J k H1->J k (H1.upd H.next b)) (hSu:∀ c H1 b,Stop c H1->Stop c (H1.upd H.next b))
  (hJ0:∀ b,J 0 (ext H [b])) (hps:ps.toList.all (fun t=>decide (t<n))=true) (hxl:∀ x∈xs,x.length=ps.size)
  (hrd:∀ k H1,J k H1->ed H1 rd) (hrd2:∀ c H1,Stop c H1->ed H1 rd)
  (hround:∀ k x H1 B Bb,xs[k]?=some x->J k H1->H.next+1<=H1.next->H1.get H.next=some B->(∃ st pd n' en ps' as' bo,Bb=Blk.loop st pd n' en ps' as' bo) ->
   W P G n (some H.next) asg (rH P G n H.next B Bb H1.next body (J (k+1)) Stop) ⟨kB (db ρ n) (ps.toList.zip x),H1⟩)
  (hend:∀ H',J xs.length H'->H.next+1<=H'.next->Q .normal ⟨ρ,H'⟩)
  (hret:∀ H',Stop .ret H'->H.next+1<=H'.next->Q .ret ⟨ρ,H'⟩) (hexit:∀ i H',Stop (.exit i) H'->H.next+1<=H'.next->Q (.exit i) ⟨ρ,H'⟩):
  W P G n rd (.rangeFunc g ps asg body) Q ⟨ρ,H⟩:=by
 refine W.rangeFunc (s:=⟨ρ,H⟩) hg ⟨_,sx _ _,?_⟩;obtain⟨B,hB⟩:∃ B,B=Blk.loop .ready none n ρ ps asg body:=⟨_,rfl⟩
 obtain⟨Bb,hBb⟩:∃ B,B=Blk.loop .busy none n ρ ps asg body:=⟨_,rfl⟩
 have nx:(ext H [B]).next=H.next+1:=rfl;show ae P G f (first++[.yld H.next]++cap) (ext H [Blk.loop .ready none n ρ ps asg body]) (sJ rd Q ρ H.next);rw[<- hB];refine hit H.next (fun k H1=>H1.get H.next=some B/\J k H1) (fun H1=>∃ c pend,H1.get H.next=some (.loop .done (some pend) n ρ ps asg body)/\Stop c H1/\((c=.ret/\pend=.ret)\/∃ i,c=.exit i/\pend=.exit i)) _ _
  (fun k H1 h=>hS k H1 h.2) ⟨cu,hJ0 B⟩ (fun k x H1 K1 hx hj hn hgo hst=>?_) (fun H' hj hn=>?_) (fun H' hj hn=>?_)
 ·have hxm:=hxl x (List.mem_of_getElem? hx);refine aw.yld (hj.1.trans (congrArg some hB)) hxm hps ?_;refine(hround k x H1 B Bb hx hj.2 hn hj.1 ⟨_,_,_,_,_,_,_,hBb⟩).mono fun e s1 h1=>?_;cases e with
  | normal =>
   obtain⟨a1,a2⟩:=h1;refine⟨Bb,by rw[a1,hB,hBb];rfl,?_⟩;refine a2.mono fun e2 s2 h2=>?_;cases e2 with
   | normal =>
    obtain⟨b1,b2,b3⟩:=h2;exact⟨B,by rw[b1,hB,hBb];rfl,hgo _ ⟨by rw[ag,if_pos rfl],hJu _ _ _ b3⟩ b2⟩
   | ret =>
    obtain⟨b1,b2,b3⟩:=h2;exact⟨.loop .done (some .ret) n ρ ps asg body,by rw[b1,hBb];rfl,hst _ ⟨.ret,.ret,by rw[ag,if_pos rfl],hSu _ _ _ b3,.inl ⟨rfl,rfl⟩⟩ b2⟩
   | exit i =>
    obtain⟨b1,b2,b3⟩:=h2;exact⟨.loop .done (some (.exit i)) n ρ ps asg body,by rw[b1,hBb];rfl,hst _ ⟨.exit i,.exit i,by rw[ag,if_pos rfl],hSu _ _ _ b3,.inr ⟨i,rfl,rfl⟩⟩ b2⟩
   | _=>exact h2.elim
  | _=>exact h1.elim
 ·refine⟨hrd _ _ hj.2,(none,.loop .exhausted none n ρ ps asg body),by rw[hj.1,hB];rfl,?_⟩;exact hend _ (hJu _ _ _ hj.2) hn
 ·obtain⟨c,pend,h1,h2,h3⟩:=hj;refine⟨hrd2 _ _ h2,(some pend,.loop .exhausted (some pend) n ρ ps asg body),by rw[h1];rfl,?_⟩;rcases h3 with ⟨rfl,rfl⟩|⟨i,rfl,rfl⟩
  ·exact hret _ (hSu _ _ _ h2) hn
  ·exact hexit i _ (hSu _ _ _ h2) hn
end Go.Hx
namespace Go.Proofs
open Go.Hx
def rD (x:NodeP):AVal:=.agg [.lit (.int .i64 x.card),.vec x.parents.length (ints x.parents),aE x.rows]
def mu (rows:List (List Int)):List (List AVal):=rows.zipIdx.map fun p=>[aa p.2,af p.1]
theorem En {rows:List (List Int)}{k:Nat}{x:List AVal}(h:(mu rows)[k]?=some x):∃ r,rows[k]?=some r/\x=[aa k,af r]:=by
 unfold mu at h;rw[List.getElem?_map,List.getElem?_zipIdx]at h;cases hr:rows[k]? with
 | none=>rw[hr]at h;simp at h
 | some r=>rw[hr]at h;simp at h;exact⟨r,rfl,h.symm⟩
theorem RF {rows:List (List Int)}{k:Nat}{r:List Int}(h:rows[k]?=some r):(mu rows)[k]?=some [aa k,af r]:=by
 unfold mu;rw[List.getElem?_map,List.getElem?_zipIdx,h];simp
theorem Eo (rows:List (List Int)):(mu rows).length=rows.length:=by simp [mu]
theorem RG (x:NodeP)(hl:(x.rows.length:Int)<2 ^ 40)(b:Nat):Ez Try.prog G0 112 [] [.ptr b 0 0] (mu x.rows) (fun H=>H.get b=some (.arr 0 69 [.lit (.int .i64 x.card),.vec x.parents.length (ints x.parents),aE x.rows])):=by
 intro idy J Stop H K hS hJ0 hY hK hSt;have l0:=ak (hS 0 H hJ0);show ae _ _ _ ([.yld idy]++[.ptr b 0 0]) _ _;refine ae.bM (n:=19) (rs:=[]) Try.func112 rfl rfl rfl (by decide) (by kernel_rfl) (by simp) ?_;simp only[go_sem,l0,aE];refine W.aI 524056 (by rfl) (fun ρ H'=>∃ k:Nat,ρ 8=aa k/\k<=x.rows.length/\J k H'/\H.next<=H'.next) (fun ρ H=>x.rows.length - (iv (ρ 8)).toNat) ?_ ?_
 ·simp only[go_sem];exact⟨0,rfl,by omega,hJ0⟩
 rintro ρ H' ⟨k,h8,hk,hj,hn⟩;refine ab _ _ _ (by rfl) ?_;by_cases hb:(k:Int)<x.rows.length
 ·obtain⟨r,hr⟩:=get_of_lt (l:=x.rows) (i:=k) (by omega);have hne:=aN hr;have w1:=IntWalk.i64_in ((k:Int)+1) (by omega);simp only[go_sem,h8,hb,hr,hne];refine hY k [aa k,af r] H' _ (RF hr) hj hn (fun H2 hj2 hn2=>⟨trivial,?_⟩) (fun H2 hs2 hn2=>⟨trivial,?_⟩)
  ·simp only[go_sem,h8,w1];exact⟨by omega,⟨k+1,by simp,by omega,hj2,by omega⟩,by omega⟩
  ·simp only[go_sem];exact av.mk (by omega) (hSt H2 hs2 (by omega))
 ·simp only[go_sem,h8,hb];have ek:k=(mu x.rows).length:=by rw[Eo];omega
  subst ek;exact av.mk (by omega) (hK H' hj hn)
theorem RH (x:NodeP)(H:AHeap)(K:ARes->AHeap->Prop)(hK:K (.ret (.clo 112 [] [.ptr H.next 0 0])) (ext H [.arr 0 69 [.lit (.int .i64 x.card),.vec x.parents.length (ints x.parents),aE x.rows]])):
  ae Try.prog G0 106 [rD x] H K:=by
 refine ae.bM (n:=4) (rs:=[.tmp 2]) Try.func106 rfl rfl rfl (by decide) (by kernel_rfl) (by simp) ?_;simp only[go_sem,rD];exact av.mk (by simp [bI]) hK
theorem zh {l:List Int}{g:Int}(h:∀ w∈l,0<=w):0<=l.sum:=by
 induction l with
 | nil=>simp
 | cons a l ih =>
  have h1:=ih fun w hw=>h w (by simp [hw]);have h2:=h a (by simp);simp only[List.sum_cons];omega
theorem pJ {l:List Int}(h:∀ w∈l,0<=w):∀ w∈l,w<=l.sum:=by
 induction l with
 | nil=>intro w hw;cases hw
 | cons a l ih =>
  intro w hw;have h1:=zh (g:=0) fun w hw=>h w (List.mem_cons_of_mem a hw);have h2:=h a (by simp);simp only[List.sum_cons];rcases List.mem_cons.1 hw with rfl|hw
  ·omega
  ·have:=ih (fun w hw=>h w (by simp [hw])) w hw;omega
noncomputable def kg (g:Int)(ns:List NodeP)(x:NodeP):Bool:=@decide (iH g ns x) (Classical.propDecidable _)
theorem Ep {g:Int}{ns:List NodeP}{x:NodeP}(h:iH g ns x):kg g ns x=true:=by unfold kg;exact @decide_eq_true _ (Classical.propDecidable _) h
theorem RI {g:Int}{ns:List NodeP}{x:NodeP}(h:¬ iH g ns x):kg g ns x=false:=by unfold kg;exact @decide_eq_false _ (Classical.propDecidable _) h
theorem RJ {g:Int}{ns:List NodeP}{x:NodeP}:kg g ns x=true↔iH g ns x:=by unfold kg;exact @decide_eq_true_iff _ (Classical.propDecidable _)
set_option maxHeartbeats 2000000 in
theorem RK (g:Int)(hg:1<=g/\g<=60)(ns:List NodeP)(sets:List Nat)(x:NodeP)(hin:iG x.parents ns.length)(hsm:eJ (aX ns x))(hx1:(x.rows.length:Int)<2 ^ 38)(hx2:∀ r∈x.rows,(r.length:Int)<2 ^ 38)(H:AHeap)(K:ARes->AHeap->Prop)
  (hK:K (.ret (.lit (.bool (kg g ns x)))) H):ae Try.prog G0 94 [.agg [.lit (.int .i64 g),cM ns,af (au ns),cI sets,.lit (.slice none 0 0)],rD x] H K:=by
 refine ae.clo ⟨_,Try.func94,rfl,rfl⟩ fun hcl=>?_;have l12:=hsm.1;have pl:(aX ns x).length=x.parents.length:=ja _ _;have no:¬ iH g ns x->∀ H',Over H H'->av Try.prog G0 H K (.lit (.bool false)) H':=fun h H' ov=>av.bY aV hcl ov (.lit _) (by rw[RI h]at hK;exact hK);refine ae.bM (n:=66) (rs:=[.cell 4 4]) Try.func94 rfl rfl rfl (by decide) (by kernel_rfl) (by simp) ?_;simp only[go_sem,cM,rD];obtain⟨H1,hH1⟩:∃ H1,H1=ext H [.arr 0 145 [.lit (.int .i64 g),.vec ns.length (ar ns),.vec (au ns).length (ints (au ns)),.vec sets.length (sets.map aW),.lit (.slice none 0 0)],.arr 0 69 [.lit (.int .i64 x.card),.vec x.parents.length (ints x.parents),aE x.rows],.arr 0 4 [.lit (.bool false)]]:=⟨_,rfl⟩
 have l1:H1.live H.next 0=some (145,[.lit (.int .i64 g),.vec ns.length (ar ns),.vec (au ns).length (ints (au ns)),.vec sets.length (sets.map aW),.lit (.slice none 0 0)]):=by rw[hH1];exact ak (dp ..)
 have l2:H1.live (H.next+1) 0=some (69,[.lit (.int .i64 x.card),.vec x.parents.length (ints x.parents),aE x.rows]):=by rw[hH1];exact ak (bg H _ 1 (by simp))
 have g3:H1.get (H.next+2)=some (.arr 0 4 [.lit (.bool false)]):=by rw[hH1];exact bg H _ 2 (by simp)
 have n1:H1.next=H.next+3:=by rw[hH1];rfl
 have o1:Over H H1:=by rw[hH1];exact .ext _ _
 rw[<- hH1];refine W.aI 268370080 (by rfl) (fun ρ H'=>H'=H1/\∃ k:Nat,ρ 16=aa k/\k<=x.parents.length/\ρ 5=aa (aC ((aX ns x).take k))) (fun ρ H=>x.parents.length - (iv (ρ 16)).toNat) ?_ ?_
 ·simp only[go_sem];exact⟨0,rfl,by omega,by simp [gU]⟩
 rintro ρ H' ⟨rfl,k,h16,hk,h5⟩;refine ab _ _ _ (by rfl) ?_;by_cases hb:(k:Int)<x.parents.length
 ·obtain⟨q,hq⟩:=get_of_lt (l:=x.parents) (i:=k) (by omega);obtain⟨j,rfl,y,hy⟩:=ni (l:=ns) (hin q (List.mem_of_getElem? hq)).1 (hin q (List.mem_of_getElem? hq)).2;have hne2:=aN hq;have hyc:=cS hy;have hne3:=aN hyc;have hj:(j:Int)<(au ns).length:=by have:=get_lt hyc;omega
  have pk:(aX ns x)[k]?=some y.card:=by
   rw[show (aX ns x)[k]?=_ from rB hq,Int.toNat_natCast,bJ hyc]
  have b1:=(hsm.take (k+1)).prod;rw[aL pk,iZ]at b1;have w1:=IntWalk.i64_in ((k:Int)+1) (by omega);have w2:=IntWalk.i64_in (aC ((aX ns x).take k)*y.card) (by omega);simp only[go_sem,h16,h5,l1,hb,hq,hne2,hj,hyc,hne3,w1,w2];exact⟨⟨k+1,by simp,by omega,by rw[aL pk,iZ]⟩,by omega⟩
 rw[List.take_of_length_le (by omega)]at h5;by_cases c1:(x.rows.length:Int)=aC (aX ns x);rotate_left
 ·simp only[go_sem,h16,h5,l2,hb,c1,aE];have l3:=ak g3;simp only[go_sem,l3];exact no (fun h=>c1 h.1) _ (o1.upd (by omega) _)
 simp only[go_sem,h16,h5,l2,hb,c1,aE];refine aw.clo (RH x _ _ ⟨trivial,?_⟩);simp only[go_sem];obtain⟨H2,hH2⟩:∃ H2,H2=ext H' [.arr 0 69 [.lit (.int .i64 x.card),.vec x.parents.length (ints x.parents),aE x.rows]]:=⟨_,rfl⟩
 rw[<- hH2];have o2:Over H' H2:=by rw[hH2];exact .ext _ _
 have n2:H2.next=H.next+4:=by rw[hH2,bI,n1];rfl
 have hbx:H2.get H'.next=some (.arr 0 69 [.lit (.int .i64 x.card),.vec x.parents.length (ints x.parents),aE x.rows]):=by rw[hH2];exact cu
 refine W.env fun E hE=>?_;have e2:E 2=.ptr H.next 0 0:=by rw[hE];simp only[go_sem]
 have e3:E 3=.ptr (H.next+1) 0 0:=by rw[hE];simp only[go_sem]
 have e4:E 4=.ptr (H.next+2) 0 0:=by rw[hE];simp only[go_sem]
 have i1:H2.live H.next 0=some (145,[.lit (.int .i64 g),.vec ns.length (ar ns),.vec (au ns).length (ints (au ns)),.vec sets.length (sets.map aW),.lit (.slice none 0 0)]):=(o2.live (by omega)).trans l1;have i2:H2.live (H.next+1) 0=some (69,[.lit (.int .i64 x.card),.vec x.parents.length (ints x.parents),aE x.rows]):=(o2.live (by omega)).trans l2;have i3:H2.get (H.next+2)=some (.arr 0 4 [.lit (.bool false)]):=(o2.old _ (by omega)).trans g3;refine W.Sh (f:=112) (first:=[]) (cap:=[.ptr H'.next 0 0]) (by show E 34=_;rw[hE];rfl) (RG x (by omega) H'.next)
  (fun k Hx=>Over H2 Hx/\∀ r∈x.rows.take k,jE g x.card r) (fun c Hx=>c=.ret/\Over H Hx/\H.next+4<=Hx.next/\Hx.get (H.next+2)=some (.arr 0 4 [.lit (.bool false)])/\¬ iH g ns x)
  (fun k Hx h=>by rw[h.1.old _ (by omega)];exact hbx) (fun k Hx b h=>⟨h.1.upd (Nat.le_refl _) b,h.2⟩) (fun c Hx b h=>⟨h.1,h.2.1.upd (by omega) b,h.2.2.1,by rw[ag,if_neg (by omega)];exact h.2.2.2.1,h.2.2.2.2⟩)
  (fun b=>⟨.ext _ _,by simp⟩) (by decide) (fun y hy=>by
   obtain⟨k,hk⟩:=List.mem_iff_getElem?.1 hy;obtain⟨r,_,rfl⟩:=En hk;rfl) (fun _ _ _=>trivial) (fun _ _ _=>trivial) (fun k y Hx B Bb hy hj hn hB hBb=>?_) (fun Hx hj hn=>?_) (fun Hx hs hn=>?_) (fun i Hx hs hn=>by cases hs.1)
 ·obtain⟨r,hr,rfl⟩:=En hy;refine ab _ _ _ (by rfl) ?_;simp only[go_sem,kB,db,rH,List.foldl_cons,List.foldl_nil,List.zip_cons_cons,List.zip_nil_right,hB];obtain⟨H3,hH3⟩:∃ H3,H3=Hx.upd H2.next Bb:=⟨_,rfl⟩
  rw[<- hH3];obtain⟨st,pd,n',en,ps',as',bo,hBe⟩:=hBb;have o3:Over H2 H3:=by rw[hH3];exact hj.1.upd (Nat.le_refl _) Bb
  have o4:Over H H3:=(o1.trans o2).trans o3;have n3:H3.next=Hx.next:=by rw[hH3];rfl
  have j1:=(o3.live (g:=0) (by omega:H.next<H2.next)).trans i1;have j2:=(o3.live (g:=0) (by omega:H.next+1<H2.next)).trans i2;have j3:=(o3.old _ (by omega:H.next+2<H2.next)).trans i3;have j4:=ak j3;have jB:H3.get H2.next=some Bb:=by rw[hH3,ag,if_pos rfl]
  have nB:¬ H2.next=H.next+2:=by omega
  have hrm:=List.mem_of_getElem? hr;have hrl:=hx2 r hrm;have nope:¬ jE g x.card r->¬ iH g ns x:=fun h h'=>h (h'.2 r hrm);have stop:¬ jE g x.card r->(H3.upd (H.next+2) (Blk.arr 0 4 [.lit (.bool false)])).get H2.next=some Bb/\Hx.next<=(H3.upd (H.next+2) (Blk.arr 0 4 [.lit (.bool false)])).next/\Over H (H3.upd (H.next+2) (Blk.arr 0 4 [.lit (.bool false)])) /\
    H.next+4<=(H3.upd (H.next+2) (Blk.arr 0 4 [.lit (.bool false)])).next/\(H3.upd (H.next+2) (Blk.arr 0 4 [.lit (.bool false)])).get (H.next+2)=some (.arr 0 4 [.lit (.bool false)])/\¬ iH g ns x:=fun h =>
   ⟨by rw[ag,if_neg nB];exact jB,by rw[aA];omega,o4.upd (by omega) _,by rw[aA];omega,by rw[ag,if_pos rfl],nope h⟩
  refine ab _ _ _ (by rfl) ?_;simp only[go_sem,db,e2,j1];refine W.aI 144110790029349888 (by rfl) (fun ρ2 H4=>H4=H3/\∃ i:Nat,ρ2 42=aa i/\i<=r.length/\(∀ w∈r.take i,0<=w)/\(r.take i).sum<=g/\ρ2 10=aa (g - (r.take i).sum)) (fun ρ2 H=>r.length - (iv (ρ2 42)).toNat) ?_ ?_
  ·simp only[go_sem];exact⟨0,rfl,by omega,by simp,by simp;omega,by simp⟩
  rintro ρ2 H4 ⟨rfl,i,h42,hi,hw0,hws,h10⟩;refine ab _ _ _ (by rfl) ?_;have s0:=zh (g:=g) hw0;by_cases hb2:(i:Int)<r.length
  ·obtain⟨a,ha⟩:=get_of_lt (l:=r) (i:=i) (by omega);have ham:=List.mem_of_getElem? ha;have hane:=aN ha;by_cases d1:a<0
   ·simp only[go_sem,h42,hb2,ha,hane,d1,db,e4,j4,mv];exact stop fun h=>by have:=h.2.1 a ham;omega
   by_cases d2:a > g - (r.take i).sum
   ·simp only[go_sem,h42,h10,hb2,ha,hane,d1,d2,db,e4,j4,mv];refine stop fun h=>?_;have h1:r.sum=(r.take (i+1)).sum+(r.drop (i+1)).sum:=(by rw[<- List.sum_append,List.take_append_drop]);rw[aL ha,uT]at h1;have h2:=zh (g:=g) (l:=r.drop (i+1)) fun w hw=>(h.2.1 w (List.mem_of_mem_drop hw)).1;have:=h.2.2;omega
   have w1:=IntWalk.i64_in ((i:Int)+1) (by omega);have w2:=IntWalk.i64_in (g - (r.take i).sum - a) (by omega);simp only[go_sem,h42,h10,hb2,ha,hane,d1,d2,w1,w2,db];refine⟨⟨_,_,_,_,_,_,_,by rw[jB,hBe]⟩,⟨i+1,by simp,by omega,fun w hw=>?_,by rw[aL ha,uT];omega,?_⟩,by omega⟩
   ·rw[aL ha]at hw;rcases List.mem_append.1 hw with hw|hw
    ·exact hw0 w hw
    ·obtain rfl:=List.mem_singleton.1 hw;omega
   ·rw[aL ha,uT];show aa _=aa _;congr 1;omega
  ·rw[List.take_of_length_le (by omega)]at hw0 hws h10 s0;by_cases d1:(r.length:Int)=x.card;rotate_left
   ·simp only[go_sem,h42,hb2,d1,db,e3,e4,j2,j4,mv];exact stop fun h=>d1 h.1
   have hb2':¬ (i:Int)<x.card:=(by omega);by_cases d2:g - r.sum=0;rotate_left
   ·simp only[go_sem,h42,h10,hb2',d1,d2,db,e3,e4,j2,j4,mv];exact stop fun h=>by have:=h.2.2;omega
   simp only[go_sem,h42,h10,hb2',d1,d2,db,e3,j2,mv];refine⟨jB,by omega,o3,fun y hy=>?_⟩;rw[aL hr]at hy;rcases List.mem_append.1 hy with hy|hy
   ·exact hj.2 y hy
   ·obtain rfl:=List.mem_singleton.1 hy;exact⟨d1,fun w hw=>⟨hw0 w hw,by have:=pJ hw0 w hw;omega⟩,by omega⟩
 ·have hok:iH g ns x:=⟨c1,by
   have:=hj.2;rw[Eo,List.take_length]at this;exact this⟩
  have j4:=ak ((hj.1.old _ (by omega:H.next+2<H2.next)).trans i3);rw[Ep hok]at hK;simp only[go_sem,e4,j4];exact av.bY aV hcl (((o1.trans o2).trans hj.1).upd (by omega) _) (.lit _) hK
 ·obtain⟨_,o4,n4,g4,hno⟩:=hs;have j4:=ak g4;simp only[go_sem,e4,j4];exact no hno _ o4
end Go.Proofs
namespace Go.Hx
theorem aB.rE {lo:Nat}{H:AHeap}{e:TypeId}{v:AVal}{l:List Int}(h:aB lo H e v (ints l)):Fresh H v (af l):=by
 rcases h with ⟨rfl,h⟩|⟨id,g,h1,h2,rfl,h4⟩
 ·have:l=[]:=by cases l with
   | nil=>rfl
   | cons a l=>simp [ints]at h
  subst this;exact .nil
 ·have e:af l=.vec (ints l).length (ints l):=by rw[aZ];rfl
  rw[e];refine .own h4 (by simp) fun j hj h2 h'=>?_;simp only[Nat.zero_add,ints,List.getElem_map];exact .lit _
theorem Fz.rF {H:AHeap}{id g n nx:Nat}{e:TypeId}{cs:List AVal}(hg:H.get id=some (.arr g e cs))(hn:n=cs.length)(hl:∀ c∈cs,∃ v,c=.lit v):Fz (fun _=>True) H nx (.own id g 0 n 1) (.vec n cs):=by
 refine .frz trivial hg (by omega) fun j hj h2 h'=>?_;simp only[Nat.zero_add];obtain⟨v,hv⟩:=hl _ (List.getElem_mem h');rw[hv];exact .lit _
end Go.Hx
namespace Go.Proofs
open Go.Hx
def fK (l:List Nat):List Int:=l.map fun (v:Nat)=>(v:Int)
theorem RL {n j:Nat}{p:Nat->Bool}(hj:j<n)(h1:∀ v,v<j->p v=false)(h2:p j=true):(List.range n).find? p=some j:=by
 rw[List.find?_eq_some_iff_getElem];refine⟨h2,j,by simpa using hj,by simp,fun k hk=>?_⟩;simp only[List.getElem_range];simp [h1 k hk]
theorem RM {n:Nat}{p:Nat->Bool}(h1:∀ v,v<n->p v=false):(List.range n).find? p=none:=by
 rw[List.find?_eq_none];intro x hx;simp [h1 x (List.mem_range.1 hx)]
set_option maxHeartbeats 1000000 in
theorem RN (ps:List Nat)(hl:ps.length<=60)(hp:∀ p∈ps,p<2 ^ 64)(H:AHeap)(K:ARes->AHeap->Prop)
  (hK:∀ v H',Over H H'->(match eR ps with|some o=>aB H.next H' 3 v (ints (fK o))|none=>v=.lit (.slice none 0 0))->K (.ret (.tup [v,.lit (.bool (eR ps).isSome)])) H'):ae Try.prog G0 95 [cI ps] H K:=by
 have no:∀ H',eR ps=none->Over H H'->av Try.prog G0 H K (.tup [.lit (.slice none 0 0),.lit (.bool false)]) H':=fun H' h ov=>av.mk ov.next (by
  have:=hK (.lit (.slice none 0 0)) H' ov;rw[h]at this;exact this rfl)
 refine ae.bM (n:=44) (rs:=[.tmp 2,.tmp 3]) Try.func95 rfl rfl rfl (by decide) (by kernel_rfl) (by simp) ?_;simp only[go_sem];refine⟨by omega,?_⟩;refine W.aI 8796093020412 (by rfl) (fun ρ H'=>∃ (out:List Nat) (done:Nat),ρ 5=aW done/\done<2 ^ 64/\out.length<=ps.length/\H.next+1<=H'.next/\Over H H'/\aB H.next H' 3 (ρ 4) (ints (fK out))/\(∃ id g,ρ 4=.own id g 0 out.length 1)/\jz ps (ps.length - out.length) out done=eR ps)
  (fun ρ H=>ps.length - (match ρ 4 with|.own _ _ _ n _=>n|_=>0)) ?_ ?_
 ·simp only[go_sem];exact⟨[],0,by simp,by decide,Nat.zero_le _,.ext _ _,.inr ⟨H.next,0,Nat.le_refl _,by simp [bI],rfl,dp H _ []⟩,⟨_,_,rfl⟩,rfl⟩
 rintro ρ H' ⟨out,done,h5,hd,ho,hn0,ov,h4,⟨id,gn,h4e⟩,ht⟩;refine ab _ _ _ (by rfl) ?_;have lv:H'.live id gn=some (3,ints (fK out)):=by
  rcases h4 with ⟨h,_⟩|⟨i,g,h1,h2,h3,h4⟩
  ·rw[h4e]at h;cases h
  ·rw[h4e]at h3;have:=AVal.own.inj h3;obtain⟨rfl,rfl,_⟩:=this;exact ak h4
 by_cases hb:(out.length:Int)<ps.length
 ·simp only[go_sem,h4e,lv,hb];have hk1:ps.length - out.length=(ps.length - (out.length+1))+1:=by omega
  refine W.aI 8796092760304 (by rfl) (fun ρ2 H2=>H2=H'/\∃ j:Nat,ρ2 18=aa j/\j<=ps.length/\ρ2 4=.own id gn 0 out.length 1/\ρ2 5=aW done/\∀ v,v<j->mq ps done v=false) (fun ρ2 H=>ps.length - (iv (ρ2 18)).toNat) ?_ ?_
  ·simp only[go_sem,h4e,h5];exact⟨0,rfl,by omega,fun v h=>absurd h (Nat.not_lt_zero _)⟩
  rintro ρ2 H2 ⟨rfl,j,h18,hj,h4',h5',hno⟩;refine ab _ _ _ (by rfl) ?_;by_cases hb2:(j:Int)<ps.length
  ·obtain⟨p,hpj⟩:=get_of_lt (l:=ps) (i:=j) (by omega);have hp1:=hp p (List.mem_of_getElem? hpj);have hne:=aN hpj;have s1:=fun t x y=>Eu (P:=Try.prog) (t:=t) (x:=x) (y:=y) (k':=.i64) (s:=j) hd;have s2:=fun t x y=>Ew (P:=Try.prog) (t:=t) (x:=x) (y:=y) (s:=j) hd;have s3:=fun t x y=>R9 (P:=Try.prog) (t:=t) (x:=x) (y:=y) (a:=p) (b:=done);have w1:=IntWalk.i64_in ((j:Int)+1) (by omega);have cont:mq ps done j=false->∀ v,v<j+1->mq ps done v=false:=fun h v hv=>by
    rcases Nat.lt_or_ge v j with h'|h'
    ·exact hno v h'
    ·obtain rfl:v=j:=(by omega);exact h
   have fe:mq ps done j=(!done.testBit j && decide (jF p done=0)):=(by unfold mq;rw[bJ hpj]);cases hbit:done.testBit j;rotate_left
   ·simp only[go_sem,h18,h4',h5',hb2,hpj,hne,s1,s2,hbit,w1];exact⟨⟨j+1,by simp,by omega,cont (by rw[fe,hbit];rfl)⟩,by omega⟩
   by_cases hz:jF p done=0;rotate_left
   ·have hz':¬ ((jF p done:Nat):Int)=0:=(by omega);simp only[go_sem,h18,h4',h5',hb2,hpj,hne,s1,s2,s3,hbit,hz',w1];exact⟨⟨j+1,by simp,by omega,cont (by rw[fe,hbit];simp [hz])⟩,by omega⟩
   have hz':((jF p done:Nat):Int)=0:=(by omega);have hnx:kQ ps done=some j:=RL (by omega) hno (by rw[fe,hbit];simp [hz]);obtain⟨v',H3,hA,ov2,hO,hn2,_⟩:=kT (j:Int) ov h4 (by simp [fK];omega);rw[h4e]at hA;have b2:(2:Nat) ^ j<2 ^ 64:=Nat.pow_lt_pow_right (by decide) (by omega);have s4:=fun t x y=>zk (P:=Try.prog) (t:=t) (x:=x) (y:=y) (k':=.i64) (s:=j) (by omega);have s5:=fun t x y=>uW (P:=Try.prog) (t:=t) (x:=x) (y:=y) hd b2;simp only[go_sem,h18,h4',h5',hb2,hpj,hne,s1,s2,s3,s4,s5,hbit,hz',hA];have hO':aB H.next H3 3 v' (ints (fK (out++[j]))):=by
    have e:fK (out++[j])=fK out++[(j:Int)]:=(by simp [fK]);rw[e];exact hO
   have hv':∃ id g,v'=.own id g 0 (out.length+1) 1:=by
    rcases hO' with ⟨_,h⟩|⟨i,g,_,_,h3,_⟩
    ·simp [ints,fK]at h
    ·exact⟨i,g,by rw[h3,aZ];simp [fK]⟩
   obtain⟨i2,g2,rfl⟩:=hv';refine⟨by omega,⟨out++[j],done ||| 2 ^ j,rfl,Nat.or_lt_two_pow hd b2,by simp;omega,by omega,ov2,hO',⟨i2,g2,by simp⟩,?_⟩,by simp only;omega⟩;rw[<- ht,hk1]
   conv=>rhs;unfold jz
   rw[hnx];simp
  ·simp only[go_sem,h18,hb2];refine no _ ?_ ov;rw[<- ht,hk1];unfold jz;have:kQ ps done=none:=RM fun v hv=>hno v (by omega);rw[this]
 ·simp only[go_sem,h4e,lv,hb];have hz:ps.length - out.length=0:=by omega
  rw[hz]at ht;have ht':eR ps=some out:=ht.symm;have:=hK (.own id gn 0 out.length 1) H' ov;rw[ht']at this;refine av.mk ov.next (this ?_);rw[h4e]at h4;exact h4
theorem RO (ps:List Nat)(hl:ps.length<=60)(hp:∀ p∈ps,p<2 ^ 64)(H:AHeap)(v:AVal)(hv:Fz (fun _=>True) H 0 v (cI ps))(K:ARes->AHeap->Prop)
  (hK:K (.ret (.tup [af (fK ((eR ps).getD [])),.lit (.bool (eR ps).isSome)])) H):ae Try.prog G0 95 [v] H K:=by
 refine(ae.frame (H:=H) (args:=[v]) (args':=[cI ps]) (v':=.tup [af (fK ((eR ps).getD [])),.lit (.bool (eR ps).isSome)]) aV rfl (fun i hi _=>match i,hi with|0,_=>hv) (RN ps hl hp cJ _ fun u H' ov hu=>⟨_,rfl,?_⟩)).mono ?_
 ·refine .tup rfl fun i hi _=>?_
  match i,hi with
  | 0,_ =>
   show Fresh H' u _;cases ht:eR ps with
   | none=>rw[ht]at hu;simp only at hu;rw[hu];show Fresh H' _ (af []);exact .nil
   | some o=>rw[ht]at hu;exact aB.rE hu
  | 1,_=>exact .lit _
 ·rintro r H' ⟨rfl,rfl⟩;exact hK
end Go.Proofs
