/-
  Closed facts of this seat's types. Laid by a program of ours.
-/
import Derived.Test.YtakancljiekbhaaProg
import Derived.Test.YtakancljiekbhaaLibC
import Derived.Test.YtakancljiekbhaaLibB
set_option linter.all false
namespace Go.Proofs
open Go.Hx
theorem Try.mixed:Try.prog.follows .mixedOrders=true:=by kernel_rfl
theorem Try.fX:Try.prog.cellsOf 3=1:=by kernel_rfl
theorem Try.jC:Try.prog.bytesOf 3=8:=by kernel_rfl
theorem Try.iq:bT Try.prog 3=some [.lit (.int .i64 0)]:=by kernel_rfl
theorem Try.Nz:Try.prog.cellsOf 4=1:=by kernel_rfl
theorem Try.NA:bT Try.prog 4=some [.lit (.bool false)]:=by kernel_rfl
theorem Try.o9:Try.prog.cellsOf 5=1:=by kernel_rfl
theorem Try.NC:Try.prog.bytesOf 5=1:=by kernel_rfl
theorem Try.ND:bT Try.prog 5=some [.lit (.int .u8 0)]:=by kernel_rfl
theorem Try.Ca:Try.prog.cellsOf 22=1:=by kernel_rfl
theorem Try.tZ:Try.prog.cellsOf 23=1:=by kernel_rfl
theorem Try.Cb:Try.prog.cellsOf 25=3:=by kernel_rfl
theorem Try.NF:bZ Try.prog 25 0=some (0,5):=by kernel_rfl
theorem Try.NG:bZ Try.prog 25 1=some (1,22):=by kernel_rfl
theorem Try.NH:bZ Try.prog 25 2=some (2,23):=by kernel_rfl
theorem Try.Cc:Try.prog.cellsOf 27=4:=by kernel_rfl
theorem Try.Cd:Try.prog.cellsOf 28=1:=by kernel_rfl
theorem Try.Ce:Try.prog.cellsOf 30=3:=by kernel_rfl
theorem Try.NI:bZ Try.prog 32 0=some (0,25):=by kernel_rfl
theorem Try.NJ:bZ Try.prog 32 2=some (7,28):=by kernel_rfl
theorem Try.NK:bZ Try.prog 32 3=some (8,23):=by kernel_rfl
theorem Try.NL:Try.prog.cellsOf 33=1:=by kernel_rfl
theorem Try.NM:Try.prog.cellsOf 35=2:=by kernel_rfl
theorem Try.NN:bT Try.prog 35=some [.lit (.int .i64 0),.lit (.slice none 0 0)]:=by kernel_rfl
theorem Try.NO:jM Try.prog 35=some [(0,1),(1,1)]:=by kernel_rfl
theorem Try.NP:bZ Try.prog 35 0=some (0,3):=by kernel_rfl
theorem Try.NQ:bZ Try.prog 35 1=some (1,33):=by kernel_rfl
theorem Try.ua:Try.prog.cellsOf 39=1:=by kernel_rfl
theorem Try.ub:Try.prog.bytesOf 39=24:=by kernel_rfl
theorem Try.uc:bT Try.prog 39=some [.lit (.slice none 0 0)]:=by kernel_rfl
theorem Try.NR:Try.prog.cellsOf 40=1:=by kernel_rfl
theorem Try.NS:Try.prog.cellsOf 42=2:=by kernel_rfl
theorem Try.NU:bT Try.prog 42=some [.lit (.slice none 0 0),.lit (.slice none 0 0)]:=by kernel_rfl
theorem Try.NV:jM Try.prog 42=some [(0,1),(1,1)]:=by kernel_rfl
theorem Try.NW:bZ Try.prog 42 0=some (0,39):=by kernel_rfl
theorem Try.NX:bZ Try.prog 42 1=some (1,40):=by kernel_rfl
theorem Try.Cf:Try.prog.cellsOf 45=1:=by kernel_rfl
theorem Try.Cg:Try.prog.bytesOf 45=8:=by kernel_rfl
theorem Try.Ch:bT Try.prog 45=some [.lit (.int .u64 0)]:=by kernel_rfl
theorem Try.NY:Try.prog.cellsOf 47=1:=by kernel_rfl
theorem Try.NZ:bT Try.prog 47=some [.lit (.int .i64 0)]:=by kernel_rfl
theorem Try.N0:Try.prog.cellsOf 69=3:=by kernel_rfl
theorem Try.N1:Try.prog.bytesOf 69=56:=by kernel_rfl
theorem Try.N2:bT Try.prog 69=some [.lit (.int .i64 0),.lit (.slice none 0 0),.lit (.slice none 0 0)]:=by kernel_rfl
theorem Try.N3:jM Try.prog 69=some [(0,1),(1,1),(2,1)]:=by kernel_rfl
theorem Try.N4:bZ Try.prog 69 0=some (0,3):=by kernel_rfl
theorem Try.N5:bZ Try.prog 69 1=some (1,39):=by kernel_rfl
theorem Try.N6:bZ Try.prog 69 2=some (2,40):=by kernel_rfl
theorem Try.N7:Try.prog.cellsOf 78=1:=by kernel_rfl
theorem Try.Ci:Try.prog.cellsOf 81=1:=by kernel_rfl
theorem Try.N8:Try.prog.cellsOf 83=3:=by kernel_rfl
theorem Try.N9:bT Try.prog 83=some [.lit (.slice none 0 0),.lit (.int .u16 0),.lit (.slice none 0 0)]:=by kernel_rfl
theorem Try.Oa:jM Try.prog 83=some [(0,1),(1,1),(2,1)]:=by kernel_rfl
theorem Try.Ob:bZ Try.prog 83 0=some (0,23):=by kernel_rfl
theorem Try.Oc:bZ Try.prog 83 2=some (2,23):=by kernel_rfl
theorem Try.Cj:Try.prog.cellsOf 86=3:=by kernel_rfl
theorem Try.Od:bT Try.prog 86=some [.lit (.int .u8 0),.lit (.int .u8 0),.lit (.slice none 0 0)]:=by kernel_rfl
theorem Try.Oe:bZ Try.prog 86 0=some (0,5):=by kernel_rfl
theorem Try.Of:bZ Try.prog 86 1=some (1,5):=by kernel_rfl
theorem Try.Og:bZ Try.prog 86 2=some (2,23):=by kernel_rfl
theorem Try.Oh:Try.prog.cellsOf 106=1:=by kernel_rfl
theorem Try.Oi:bT Try.prog 106=some [.lit .nilFunc]:=by kernel_rfl
theorem Try.Oj:Try.prog.cellsOf 111=1:=by kernel_rfl
theorem Try.Ol:Try.prog.cellsOf 118=1:=by kernel_rfl
theorem Try.Om:bT Try.prog 118=some [.lit (.map none)]:=by kernel_rfl
theorem Try.On:Try.prog.cellsOf 127=3:=by kernel_rfl
theorem Try.Oo:bT Try.prog 127=some [.lit (.int .i64 0),.lit (.slice none 0 0),.lit (.slice none 0 0)]:=by kernel_rfl
theorem Try.Oq:jM Try.prog 127=some [(0,2),(2,1)]:=by kernel_rfl
theorem Try.Ot:bZ Try.prog 127 0=some (0,35):=by kernel_rfl
theorem Try.Ou:bZ Try.prog 127 1=some (2,39):=by kernel_rfl
theorem Try.Ov:Try.prog.cellsOf 145=5:=by kernel_rfl
theorem Try.Ow:bT Try.prog 145=some [.lit (.int .i64 0),.lit (.slice none 0 0),.lit (.slice none 0 0),.lit (.slice none 0 0),.lit (.slice none 0 0)]:=by kernel_rfl
theorem Try.Ox:jM Try.prog 145=some [(0,2),(2,1),(3,1),(4,1)]:=by kernel_rfl
theorem Try.Oy:bZ Try.prog 145 0=some (0,35):=by kernel_rfl
theorem Try.Oz:bZ Try.prog 145 1=some (2,39):=by kernel_rfl
theorem Try.OA:bZ Try.prog 145 2=some (3,78):=by kernel_rfl
theorem Try.OB:bZ Try.prog 145 3=some (4,39):=by kernel_rfl
theorem Try.OC:Try.prog.cellsOf 167=1:=by kernel_rfl
theorem Try.OD:bT Try.prog 167=some [.lit (.int .u64 0)]:=by kernel_rfl
attribute [go_sem] Try.underlying3 Try.fX Try.jC Try.iq Try.underlying4 Try.Nz Try.NA Try.underlying5 Try.o9 Try.NC Try.ND
attribute [go_sem] Try.underlying9 Try.underlying22 Try.Ca Try.underlying23 Try.tZ
attribute [go_sem] Try.underlying24 Try.underlying25 Try.Cb
attribute [go_sem] Try.NF Try.NG Try.NH Try.underlying26
attribute [go_sem] Try.underlying27 Try.Cc Try.underlying28 Try.Cd
attribute [go_sem] Try.underlying29 Try.underlying30 Try.Ce
attribute [go_sem] Try.underlying31
attribute [go_sem] Try.underlying32 Try.NI Try.NJ
attribute [go_sem] Try.NK Try.underlying33 Try.NL Try.underlying34
attribute [go_sem] Try.underlying35 Try.NM Try.NN Try.NO Try.NP Try.NQ Try.underlying38
attribute [go_sem] Try.underlying39 Try.ua Try.ub Try.uc Try.underlying40 Try.NR Try.underlying41
attribute [go_sem] Try.underlying42 Try.NS Try.NU Try.NV Try.NW Try.NX Try.underlying43
attribute [go_sem] Try.underlying45 Try.Cf Try.Cg Try.Ch Try.underlying46 Try.underlying47 Try.NY
attribute [go_sem] Try.NZ Try.underlying62 Try.underlying68
attribute [go_sem] Try.underlying69 Try.N0 Try.N1 Try.N2 Try.N3 Try.N4 Try.N5 Try.N6 Try.underlying78 Try.N7
attribute [go_sem] Try.underlying81 Try.Ci Try.underlying82
attribute [go_sem] Try.underlying83 Try.N8 Try.N9 Try.Oa Try.Ob Try.Oc Try.underlying85
attribute [go_sem] Try.underlying86 Try.Cj Try.Od Try.Oe
attribute [go_sem] Try.Of Try.Og Try.underlying99 Try.underlying100 Try.underlying104
attribute [go_sem] Try.underlying106 Try.Oh Try.Oi Try.underlying111 Try.Oj Try.underlying118 Try.Ol
attribute [go_sem] Try.Om Try.underlying122 Try.underlying126
attribute [go_sem] Try.underlying127 Try.On Try.Oo Try.Oq Try.Ot Try.Ou Try.underlying132
attribute [go_sem] Try.underlying144 Try.underlying145 Try.Ov
attribute [go_sem] Try.Ow Try.Ox Try.Oy Try.Oz Try.OA Try.OB Try.underlying156 Try.underlying164
attribute [go_sem] Try.underlying167 Try.OC Try.OD
def aH (l:List (List Int)):AVal:=.vec l.length (l.map ab)
structure NodeP where
 card:Int
 parents:List Int
 rows:List (List Int)
structure UtilP where
 vars:List Int
 w:List Int
def NodeP.cells (x:NodeP):List AVal:=[aa x.card,ab x.parents,aH x.rows]
def UtilP.cells (x:UtilP):List AVal:=[ab x.vars,ab x.w]
def ar (l:List NodeP):List AVal:=(l.map NodeP.cells).flatten
def Pm (l:List UtilP):List AVal:=(l.map UtilP.cells).flatten
def de (l:List NodeP):AVal:=.vec l.length (ar l)
def x6 (l:List UtilP):AVal:=.vec l.length (Pm l)
def bP (g:Int)(l:List NodeP):AVal:=.agg [aa g,de l]
structure InfP where
 grain:Int
 nodes:List NodeP
 decs:Nat
 utils:List UtilP
theorem ng {α:Type}{f:α->List AVal}{z:Nat}(hz:∀ a,(f a).length=z):∀ (l:List α) (i j:Nat) (a:α),l[i]?=some a->j<z->((l.map f).flatten)[i*z+j]?=(f a)[j]?:=by
 intro l
 induction l with
 | nil=>intro i j a h;simp at h
 | cons x l ih =>
  intro i j a h hj;simp only[List.map_cons,List.flatten_cons];cases i with
  | zero =>
   simp only[List.getElem?_cons_zero,Option.some.injEq]at h;subst h;rw[TB,Nat.zero_add,Si (by rw[hz];exact hj)]
  | succ i =>
   have:(i+1)*z+j=z+(i*z+j):=(by rw[SM];omega);rw[this,Sb (by rw[hz];omega),hz];have:z+(i*z+j) - z=i*z+j:=(by omega);rw[this];exact ih i j a (by simpa using h) hj
theorem nh {α:Type}{f:α->List AVal}{z:Nat}(hz:∀ a,(f a).length=z)(l:List α):((l.map f).flatten).length=l.length*z:=by
 induction l with
 | nil=>simp
 | cons x l ih=>simp only[List.map_cons,List.flatten_cons,List.length_append,ih,hz,List.length_cons];rw[SM];omega
theorem pf {α:Type}{f:α->List AVal}{z:Nat}(hz:∀ a,(f a).length=z):∀ (l:List α) (i:Nat) (a:α),l[i]?=some a->(((l.map f).flatten).drop (i*z)).take z=f a:=by
 intro l i a h;apply Sf;intro j;by_cases hj:j<z
 ·rw[SJ hj,SS,ng hz l i j a h hj]
 ·rw[RF (by simp;omega),RF (by rw[hz];omega)]
theorem fY (l:List NodeP):(ar l).length=l.length*3:=nh (f:=NodeP.cells) (fun _=>rfl) l
theorem l8 {l:List NodeP}{i:Nat}{x:NodeP}(h:l[i]?=some x):(ar l)[i*3]?=some (aa x.card):=ng (f:=NodeP.cells) (z:=3) (fun _=>rfl) l i 0 x h (by omega)
theorem uh {l:List NodeP}{i:Nat}{x:NodeP}(h:l[i]?=some x):(ar l)[i*3+1]?=some (ab x.parents):=ng (f:=NodeP.cells) (z:=3) (fun _=>rfl) l i 1 x h (by omega)
theorem CU {l:List NodeP}{i:Nat}{x:NodeP}(h:l[i]?=some x):(ar l)[i*3+2]?=some (aH x.rows):=ng (f:=NodeP.cells) (z:=3) (fun _=>rfl) l i 2 x h (by omega)
theorem l9 {l:List NodeP}{i:Nat}{x:NodeP}(h:l[i]?=some x):((ar l).drop (i*3)).take 3=[aa x.card,ab x.parents,aH x.rows]:=pf (f:=NodeP.cells) (z:=3) (fun _=>rfl) l i x h
theorem fZ {l:List NodeP}{i:Nat}{x:NodeP}(h:l[i]?=some x):¬ ar l=[]:=fun e=>by
 have:=l8 h;rw[e]at this;simp at this
theorem get_lt {α:Type}{l:List α}{i:Nat}{x:α}(h:l[i]?=some x):i<l.length:=by
 rcases RP i l.length with h'|h'
 ·exact h'
 ·rw[RF h']at h;cases h
theorem get_of_lt {α:Type}{l:List α}{i:Nat}(h:i<l.length):∃ x,l[i]?=some x:=⟨_,Rz h⟩
theorem jG {α:Type}{l:List α}{i:Int}(h0:0<=i)(h:i<l.length):∃ k:Nat,i=k/\∃ x,l[k]?=some x:=⟨i.toNat,by omega,get_of_lt (by omega)⟩
def aw (l:List Int):Int:=l.foldl (·*·) 1
theorem CV (l:List Int)(a:Int):l.foldl (·*·) a=a*aw l:=by
 unfold aw
 induction l generalizing a with
 | nil=>simp
 | cons x l ih=>simp only[SK];rw[ih,ih (1*x),Up,TC]
theorem gZ:aw []=1:=rfl
theorem iw (x:Int)(l:List Int):aw (x :: l)=x*aw l:=by
 show List.foldl _ (1*x) l=_;rw[CV,Up]
theorem ui (l l':List Int):aw (l++l')=aw l*aw l':=by
 unfold aw;rw[SZ,CV];rfl
theorem iZ (l:List Int)(x:Int):aw (l++[x])=aw l*x:=by rw[ui,iw,gZ,UT]
theorem aP {α:Type}{l:List α}{k:Nat}{x:α}(h:l[k]?=some x):l.take (k+1)=l.take k++[x]:=by
 rw[List.take_add_one,h];rfl
theorem jH {l:List Int}(h:∀ x∈l,1<=x):1<=aw l:=by
 induction l with
 | nil=>decide
 | cons x l ih =>
  rw[iw];have h1:=ih fun y hy=>h y (by simp [hy]);have h2:=h x (by simp);have:=SX h2 h1 (by omega) (by omega);simpa using this
theorem ni {b:Int}{l:List Int}(hb:0<=b)(h:∀ x∈l,0<=x/\x<=b):0<=aw l/\aw l<=b ^ l.length:=by
 induction l with
 | nil=>exact⟨by decide,by simp [aw]⟩
 | cons x l ih =>
  rw[iw];have h1:=ih fun y hy=>h y (by simp [hy]);have h2:=h x (by simp);refine⟨SD h2.1 h1.1,?_⟩;have:=SX h2.2 h1.2 h1.1 hb;rw[List.length_cons,Vc,Te (b ^ l.length)];exact this
def ah (l:List NodeP):List Int:=l.map (·.card)
def aA (l places:List Int):List Int:=places.map fun p=>l.getD p.toNat 0
def dP (places:List Int)(n:Int):Prop:=places.Pairwise (·<·)/\∀ p∈places,0<=p/\p<n
end Go.Proofs
set_option maxRecDepth 100000
namespace Go.Proofs
open Go.Hx
def G0:Nat->Option (List AVal):=qI
theorem aZ:fH G0:=LM
end Go.Proofs
namespace Go.Hx
variable {P:Program} {G:Nat->Option (List AVal)} {Γ Γ':au} {H H':AHeap} {w w':World}
theorem W.env {n:Nat}{rd:Option Nat}{Q:AX->St->Prop}{c:Code}{ρ:Env}{H:AHeap}(h:∀ E,E=ρ->W P G n rd c Q ⟨E,H⟩):W P G n rd c Q ⟨ρ,H⟩:=h ρ rfl
theorem W.en {n:Nat}{rd:Option Nat}{Q:AX->St->Prop}{c:Code}{ρ:Env}{H:AHeap}(p:Env->Prop)(hp:p ρ)(h:∀ E,p E->W P G n rd c Q ⟨E,H⟩):W P G n rd c Q ⟨ρ,H⟩:=h ρ hp
theorem Below.mono {n m:Nat}{v:AVal}(h:Below n v)(hm:n<=m):Below m v:=by
 induction h with
 | lit v=>exact .lit v
 | vec h ih=>exact .vec ih
 | vptr h ih=>exact .vptr ih
 | agg h ih=>exact .agg ih
 | tup h ih=>exact .tup ih
 | clo h1 h2 ih1 ih2=>exact .clo ih1 ih2
 | own h=>exact .own (by omega)
 | ptr h=>exact .ptr (by omega)
 | yld h=>exact .yld (by omega)
theorem rC {l:List AVal}{i:Nat}{x:AVal}(h:i<l.length):setAt l i [x]=l.set i x:=by
 unfold setAt;rw[UG,RC h];simp
section
variable {t:TypeId} {x y:Operand} {k k':IntKind} {a b:Int}
theorem rD (hb:0<=b):aV P .shr t x y (.lit (.int k a)) (.lit (.int k' b))=some (.lit (.int k (a.fdiv (2 ^ (min b.toNat k.bits))))):=by
 have h:¬ b<0:=by omega
 simp [aV,AVal.bK,eqGuard,binOp,Op.shift,h,cB,bind,Sem.bind,pure]
theorem pB (hb:0<=b):aV P .shl t x y (.lit (.int k a)) (.lit (.int k' b))=some (.lit (.int k (k.wrap (a*2 ^ (min b.toNat k.bits))))):=by
 have h:¬ b<0:=by omega
 simp [aV,AVal.bK,eqGuard,binOp,Op.shift,h,cB,bind,Sem.bind,pure]
theorem uH:aV P .and t x y (.lit (.int k a)) (.lit (.int k b))=some (.lit (.int k (k.wrap ((BitVec.ofInt k.bits a &&& BitVec.ofInt k.bits b).toNat:Nat)))):=by
 simp [aV,AVal.bK,eqGuard,binOp,Op.intBits,cB,bind,Sem.bind,pure]
theorem QV:aV P .or t x y (.lit (.int k a)) (.lit (.int k b))=some (.lit (.int k (k.wrap ((BitVec.ofInt k.bits a ||| BitVec.ofInt k.bits b).toNat:Nat)))):=by
 simp [aV,AVal.bK,eqGuard,binOp,Op.intBits,cB,bind,Sem.bind,pure]
theorem QW:aV P .xor t x y (.lit (.int k a)) (.lit (.int k b))=some (.lit (.int k (k.wrap ((BitVec.ofInt k.bits a ^^^ BitVec.ofInt k.bits b).toNat:Nat)))):=by
 simp [aV,AVal.bK,eqGuard,binOp,Op.intBits,cB,bind,Sem.bind,pure]
theorem QX:aV P .andNot t x y (.lit (.int k a)) (.lit (.int k b))=some (.lit (.int k (k.wrap ((BitVec.ofInt k.bits a &&& ~~~ BitVec.ofInt k.bits b).toNat:Nat)))):=by
 simp [aV,AVal.bK,eqGuard,binOp,Op.intBits,cB,bind,Sem.bind,pure]
def cL (m:Nat):AVal:=.lit (.int .u64 (m:Int))
def iG (a b:Nat):Nat:=(BitVec.ofNat 64 a &&& ~~~ BitVec.ofNat 64 b).toNat
theorem uI {m:Nat}(h:m<2 ^ 64):(BitVec.ofInt 64 (m:Int)).toNat=m:=by rw[BitVec.ofInt_natCast,BitVec.toNat_ofNat,Nat.mod_eq_of_lt h]
theorem QY (a b:Nat):iG a b<2 ^ 64:=(BitVec.isLt _)
theorem DK {a b i:Nat}(ha:a<2 ^ 64):(iG a b).testBit i=(a.testBit i && !b.testBit i):=by
 unfold iG;by_cases hi:i<64
 ·rw[<- BitVec.getLsbD,BitVec.getLsbD_and,BitVec.getLsbD_not,BitVec.getLsbD_ofNat,BitVec.getLsbD_ofNat];simp [hi]
 ·have h1:a.testBit i=false:=Uv (RL ha (R8 (by decide) (by omega)));rw[h1,<- BitVec.getLsbD,BitVec.getLsbD_of_ge _ _ (by omega)];rfl
theorem uJ {m:Nat}(h:m<2 ^ 64):IntKind.u64.wrap (m:Int)=m:=To _ (by omega)
theorem QZ {a b:Nat}(ha:a<2 ^ 64)(hb:b<2 ^ 64):aV P .and t x y (.lit (.int .u64 (a:Int))) (.lit (.int .u64 (b:Int)))=some (.lit (.int .u64 ((a &&& b:Nat):Int))):=by
 rw[uH];have e:(BitVec.ofInt (IntKind.bits .u64) (a:Int) &&& BitVec.ofInt (IntKind.bits .u64) (b:Int)).toNat=a &&& b:=by
  show (BitVec.ofInt 64 _ &&& BitVec.ofInt 64 _).toNat=_;rw[BitVec.toNat_and,uI ha,uI hb]
 rw[e,uJ (UF Nat.and_le_left ha)]
theorem uK {a b:Nat}(ha:a<2 ^ 64)(hb:b<2 ^ 64):aV P .or t x y (.lit (.int .u64 (a:Int))) (.lit (.int .u64 (b:Int)))=some (.lit (.int .u64 ((a ||| b:Nat):Int))):=by
 rw[QV];have e:(BitVec.ofInt (IntKind.bits .u64) (a:Int) ||| BitVec.ofInt (IntKind.bits .u64) (b:Int)).toNat=a ||| b:=by
  show (BitVec.ofInt 64 _ ||| BitVec.ofInt 64 _).toNat=_;rw[BitVec.toNat_or,uI ha,uI hb]
 rw[e,uJ (Nat.or_lt_two_pow ha hb)]
theorem DL {a b:Nat}:aV P .andNot t x y (.lit (.int .u64 (a:Int))) (.lit (.int .u64 (b:Int)))=some (.lit (.int .u64 ((iG a b:Nat):Int))):=by
 rw[QX];have e:(BitVec.ofInt (IntKind.bits .u64) (a:Int) &&& ~~~ BitVec.ofInt (IntKind.bits .u64) (b:Int)).toNat=iG a b:=by
  show (BitVec.ofInt 64 _ &&& ~~~ BitVec.ofInt 64 _).toNat=_;rw[BitVec.ofInt_natCast,BitVec.ofInt_natCast];rfl
 rw[e,uJ (QY a b)]
theorem yB {a s:Nat}(ha:a<2 ^ 64):aV P .shr t x y (.lit (.int .u64 (a:Int))) (.lit (.int k' (s:Int)))=some (.lit (.int .u64 ((a >>> s:Nat):Int))):=by
 rw[rD (by omega),Int.toNat_natCast];have e:(a:Int).fdiv (2 ^ (min s (IntKind.bits .u64)))=((a >>> s:Nat):Int):=by
  rw[UV _ (by exact_mod_cast Ud _),UX];show (a:Int) / 2 ^ (min s 64)=_;rcases Nat.le_total s 64 with h|h
  ·rw[TI h];push_cast;rfl
  ·rw[Nat.min_eq_right h];have h1:a / 2 ^ s=0:=Nat.div_eq_of_lt (RL ha (R8 (by decide) h));rw[h1];exact U6 (by omega) (by omega)
 rw[e]
theorem rE {s:Nat}(hs:s<64):aV P .shl t x y (.lit (.int .u64 1)) (.lit (.int k' (s:Int)))=some (.lit (.int .u64 ((2 ^ s:Nat):Int))):=by
 rw[pB (by omega),Int.toNat_natCast];have e:min s (IntKind.bits .u64)=s:=TI (by show s<=64;omega);have h2:2 ^ s<2 ^ 64:=TN (by decide) hs;rw[e,Up];have h3:((2:Int) ^ s)=((2 ^ s:Nat):Int):=by push_cast;rfl
 rw[h3,uJ h2]
theorem DM {a s:Nat}(ha:a<2 ^ 64):aV P .and t x y (.lit (.int .u64 ((a >>> s:Nat):Int))) (.lit (.int .u64 1))=some (.lit (.int .u64 (if a.testBit s then 1 else 0))):=by
 have h1:a >>> s<2 ^ 64:=UF (Nat.shiftRight_le _ _) ha;have:=QZ (P:=P) (t:=t) (x:=x) (y:=y) (a:=a >>> s) (b:=1) h1 (by decide);rw[show (((1:Nat):Int))=1 from rfl]at this;rw[this,Nat.and_one_is_mod];congr 3;rw[Nat.testBit,Nat.and_comm,Nat.and_one_is_mod];rcases S3 (a >>> s) with h|h<;>rw[h]<;>rfl
end
end Go.Hx
namespace Go.Proofs
open Go.Hx
theorem dV (H:AHeap)(b:Blk)(L:List Blk):(ext H (b :: L)).get H.next=some b:=bk H (b :: L) 0 (by simp)
theorem DN (l:List Int)(n:Nat):(ints l).take n=ints (l.take n):=by simp [ints]
theorem DO (l:List Int)(n:Nat):(ints l).drop n=ints (l.drop n):=by simp [ints]
theorem aK {α:Type}{l:List α}{i:Nat}{a:α}(h:l[i]?=some a):¬ l=[]:=by rintro rfl;simp at h
theorem fa {l:List Int}{i:Nat}{x:Int}(h:i<l.length):setAt (ints l) i [.lit (.int .i64 x)]=ints (l.set i x):=by
 rw[rC (by simpa [ints] using h)];simp [ints,aa]
theorem jL (w:Bool):qf w (some (.lit undef))=some false:=rfl
def aN (ns:List NodeP)(x:NodeP):List Int:=aA (ah ns) x.parents
def dG:List Int->List Int->Int
 | _ :: cs,v :: vs=>v*aw cs+dG cs vs
 | _,_=>0
def dz:List Int->Int->List Int
 | [],_=>[]
 | c :: cs,i=>i / aw cs % c :: dz cs i
theorem nk (cs:List Int)(i:Int):(dz cs i).length=cs.length:=by
 induction cs with
 | nil=>rfl
 | cons c cs ih=>simp [dz,ih]
theorem Pn {cs:List Int}{k:Nat}{c:Int}(h:cs[k]?=some c)(i:Int):dz (cs.drop k) i=(i / aw (cs.drop (k+1)) % c) :: dz (cs.drop (k+1)) i:=by
 have:cs.drop k=c :: cs.drop (k+1):=by
  rw[SC (get_lt h)];congr 1;have:=Rz (get_lt h);rw[h]at this;exact(Option.some.inj this).symm
 rw[this];rfl
theorem rf {α:Type}{l:List α}{k:Nat}{a:α}(h:l[k]?=some a):l.drop k=a :: l.drop (k+1):=by
 rw[SC (get_lt h)];congr 1;have:=Rz (get_lt h);rw[h]at this;exact(Option.some.inj this).symm
theorem Po {cs:List Int}(h:∀ c∈cs,1<=c)(i:Int):∀ (k:Nat) (c v:Int),cs[k]?=some c->(dz cs i)[k]?=some v->0<=v/\v<c:=by
 induction cs with
 | nil=>intro k c v h;simp at h
 | cons a cs ih =>
  intro k c v h1 h2;cases k with
  | zero =>
   simp only[dz,List.getElem?_cons_zero,Option.some.injEq]at h1 h2;subst h1;subst h2;have:=h a (by simp);exact⟨TZ _ (by omega),TA _ (by omega)⟩
  | succ k =>
   simp only[dz,List.getElem?_cons_succ]at h1 h2;exact ih (fun c hc=>h c (by simp [hc])) k c v h1 h2
def bE (cs vs:List Int):Prop:=vs.length=cs.length/\∀ (k:Nat) (c v:Int),cs[k]?=some c->vs[k]?=some v->0<=v/\v<c
theorem bE.tail {c v:Int}{cs vs:List Int}(h:bE (c :: cs) (v :: vs)):bE cs vs:=⟨by simpa using h.1,fun k c v h1 h2=>h.2 (k+1) c v (by simpa using h1) (by simpa using h2)⟩
theorem bE.head {c v:Int}{cs vs:List Int}(h:bE (c :: cs) (v :: vs)):0<=v/\v<c:=h.2 0 c v (by simp) (by simp)
theorem bE.pos {cs vs:List Int}(h:bE cs vs):∀ c∈cs,1<=c:=fun c hc=>by
 obtain⟨k,hk⟩:=RW.1 hc;obtain⟨v,hv⟩:=get_of_lt (l:=vs) (i:=k) (by rw[h.1];exact get_lt hk);have:=h.2 k c v hk hv;omega
theorem uj {cs:List Int}(h:∀ c∈cs,1<=c)(i:Int):bE cs (dz cs i):=⟨nk cs i,Po h i⟩
theorem np:∀ {cs vs:List Int},bE cs vs->0<=dG cs vs/\dG cs vs<aw cs:=by
 intro cs
 induction cs with
 | nil=>intro vs _;cases vs<;>(simp [dG,gZ])
 | cons c cs ih =>
  intro vs h;cases vs with
  | nil=>exact absurd h.1 (by simp)
  | cons v vs =>
   have h1:=ih h.tail;have h2:=h.head;have hp:1<=aw cs:=jH fun x hx=>h.pos x (by simp [hx]);rw[iw];simp only[dG];have h3:0<=v*aw cs:=SD h2.1 (by omega);have h4:(v+1)*aw cs<=c*aw cs:=Tk (by omega) (by omega);rw[Uq,Up]at h4;omega
def cO (cs vs:List Int):Int:=(cs.zip vs).foldl (fun a p=>a*p.1+p.2) 0
theorem Pp:∀ (cs vs:List Int),vs.length=cs.length->∀ a,(cs.zip vs).foldl (fun a p=>a*p.1+p.2) a=a*aw cs+dG cs vs:=by
 intro cs
 induction cs with
 | nil=>intro vs _ a;simp [gZ,dG]
 | cons c cs ih =>
  intro vs h a;cases vs with
  | nil=>simp at h
  | cons v vs =>
   simp only[TG,SK];rw[ih vs (by simpa using h),iw];simp only[dG];rw[Uq,TC];omega
theorem kJ {cs vs:List Int}(h:vs.length=cs.length):cO cs vs=dG cs vs:=by
 unfold cO;rw[Pp cs vs h];omega
theorem ma {cs vs:List Int}{k:Nat}{c v:Int}(h1:cs[k]?=some c)(h2:vs[k]?=some v):cO (cs.take (k+1)) (vs.take (k+1))=cO (cs.take k) (vs.take k)*c+v:=by
 unfold cO;rw[aP h1,aP h2,List.zip_append (by have:=get_lt h1;have:=get_lt h2;simp;omega),SZ];rfl
def ew (l:List Int):Prop:=l.length<=12/\∀ x∈l,0<=x/\x<=8
theorem ew.prod {l:List Int}(h:ew l):0<=aw l/\aw l<=68719476736:=by
 have h1:=ni (b:=8) (by omega) h.2;have h2:(8:Int) ^ l.length<=8 ^ 12:=by
  have:(8:Nat) ^ l.length<=8 ^ 12:=R8 (by decide) h.1
  exact_mod_cast this
 exact⟨h1.1,Vd h1.2 h2⟩
theorem ew.take {l:List Int}(h:ew l)(k:Nat):ew (l.take k):=⟨by have:=h.1;simp;omega,fun x hx=>h.2 x (RS hx)⟩
theorem ew.drop {l:List Int}(h:ew l)(k:Nat):ew (l.drop k):=⟨by have:=h.1;simp;omega,fun x hx=>h.2 x (SR hx)⟩
theorem DB (l:List Int)(hl:ew l)(H:AHeap)(K:ARes->AHeap->Prop)(hK:K (.ret (aa (aw l))) H):ae Try.prog G0 36 [ab l] H K:=by
 have l12:=hl.1;refine ae.bH (n:=18) (rs:=[.tmp 2]) Try.func36 rfl rfl rfl (by decide) (by kernel_rfl) (by simp) ?_;simp only[go_sem];refine W.aI 131064 (by rfl) (fun ρ H'=>H'=H/\∃ k:Nat,ρ 4=aa k/\k<=l.length/\ρ 3=aa (aw (l.take k))) (fun ρ H=>l.length - (iv (ρ 4)).toNat) ?_ ?_
 ·simp only[go_sem];exact⟨0,rfl,by omega,by simp [gZ]⟩
 rintro ρ H' ⟨rfl,k,h4,hk,h3⟩;refine W.vs ?_;by_cases hb:(k:Int)<l.length
 ·obtain⟨c,hc⟩:=get_of_lt (l:=l) (i:=k) (by omega);have hne:=aK hc;have b1:=(hl.take (k+1)).prod;rw[aP hc,iZ]at b1;simp only[go_sem,h4,h3,hb,hc,hne];rw[Rw ((k:Int)+1) (by omega),Rw (_*c) (by omega)];exact⟨⟨k+1,by simp,by omega,by rw[aP hc,iZ]⟩,by omega⟩
 ·simp only[go_sem,h4,h3,hb];rw[RA (by omega)];exact av.mk (Nat.le_refl _) hK
theorem DC (x y:List Int)(hx:(x.length:Int)<2 ^ 62)(H:AHeap)(K:ARes->AHeap->Prop)(hK:K (.ret (.lit (.bool (decide (x=y))))) H):ae Try.prog G0 49 [ab x,ab y] H K:=by
 have no:¬ x=y->av Try.prog G0 H K (.lit (.bool false)) H:=fun h=>av.mk (Nat.le_refl _) (by rw[Sk h]at hK;exact hK);refine ae.bH (n:=26) (rs:=[.tmp 4]) Try.func49 rfl rfl rfl (by decide) (by kernel_rfl) (by simp) ?_;by_cases hl:(x.length:Int)=y.length;rotate_left
 ·simp only[go_sem,hl];exact no fun h=>hl (by rw[h])
 simp only[go_sem,hl];refine W.aI 67106864 (by rfl) (fun ρ H'=>H'=H/\∃ k:Nat,ρ 5=aa k/\k<=x.length/\x.take k=y.take k) (fun ρ H=>x.length - (iv (ρ 5)).toNat) ?_ ?_
 ·simp only[go_sem];exact⟨0,rfl,by omega,rfl⟩
 rintro ρ H' ⟨rfl,k,h5,hk,ht⟩;refine W.vs ?_;by_cases hb:(k:Int)<y.length
 ·obtain⟨a,ha⟩:=get_of_lt (l:=x) (i:=k) (by omega);obtain⟨b,hbk⟩:=get_of_lt (l:=y) (i:=k) (by omega);have hxn:=aK ha;have hyn:=aK hbk;have hbx:(k:Int)<x.length:=by omega
  simp only[go_sem,h5,hb,hl];refine W.draw 8 [0,0,3,7,0,0,48,112] Try.mixed (by kernel_rfl) (by kernel_rfl) ?_;by_cases he:a=b
  ·subst he;simp only[go_sem,h5,hb,hbx,ha,hbk,hxn,hyn];rw[Rw ((k:Int)+1) (by omega)];exact⟨⟨k+1,by simp,by omega,by rw[aP ha,aP hbk,ht]⟩,by omega⟩
  ·simp only[go_sem,h5,hb,hbx,ha,hbk,hxn,hyn,he];exact no fun h=>he (by rw[h,hbk]at ha;exact(Option.some.inj ha).symm)
 ·simp only[go_sem,h5,hb,hl];refine av.mk (Nat.le_refl _) ?_;have:x=y:=by
   rw[RA (by omega),RA (by omega)]at ht;exact ht
  rw[RN this]at hK;exact hK
theorem Qw (x y:List Int)(hx:(x.length:Int)<2 ^ 62)(H:AHeap)(K:ARes->AHeap->Prop)(hK:K (.ret (.lit (.bool (decide (x=y))))) H):ae Try.prog G0 16 [ab x,ab y] H K:=by
 have no:¬ x=y->av Try.prog G0 H K (.lit (.bool false)) H:=fun h=>av.mk (Nat.le_refl _) (by rw[Sk h]at hK;exact hK);refine ae.bH (n:=26) (rs:=[.tmp 4]) Try.func16 rfl rfl rfl (by decide) (by kernel_rfl) (by simp) ?_;by_cases hl:(x.length:Int)=y.length;rotate_left
 ·simp only[go_sem,hl];exact no fun h=>hl (by rw[h])
 simp only[go_sem,hl];refine W.aI 67100720 (by rfl) (fun ρ H'=>H'=H/\∃ k:Nat,ρ 13=aa k/\k<=x.length/\x.take k=y.take k) (fun ρ H=>x.length - (iv (ρ 13)).toNat) ?_ ?_
 ·simp only[go_sem];exact⟨0,rfl,by omega,rfl⟩
 rintro ρ H' ⟨rfl,k,h13,hk,ht⟩;refine W.vs ?_;by_cases hb:(k:Int)<y.length
 ·obtain⟨a,ha⟩:=get_of_lt (l:=x) (i:=k) (by omega);obtain⟨b,hbk⟩:=get_of_lt (l:=y) (i:=k) (by omega);have hxn:=aK ha;have hyn:=aK hbk;have hbx:(k:Int)<x.length:=by omega
  simp only[go_sem,h13,hb];refine W.draw 8 [0,0,3,7,0,0,48,112] Try.mixed (by kernel_rfl) (by kernel_rfl) ?_;by_cases he:a=b
  ·subst he;simp only[go_sem,h13,hb,hbx,ha,hbk,hxn,hyn];rw[Rw ((k:Int)+1) (by omega)];exact⟨⟨k+1,by simp,by omega,by rw[aP ha,aP hbk,ht]⟩,by omega⟩
  ·simp only[go_sem,hb,hbx,ha,hbk,hxn,hyn,he];exact no fun h=>he (by rw[h,hbk]at ha;exact(Option.some.inj ha).symm)
 ·simp only[go_sem,h13,hb];refine av.mk (Nat.le_refl _) ?_;have:x=y:=by
   rw[RA (by omega),RA (by omega)]at ht;exact ht
  rw[RN this]at hK;exact hK
instance placesDec (l:List Int)(n:Int):Decidable (dP l n):=by unfold dP;infer_instance
theorem dP.nil {n:Int}:dP [] n:=⟨.nil,fun _ h=>by cases h⟩
theorem dP.take {l:List Int}{n:Int}(h:dP l n)(k:Nat):dP (l.take k) n:=⟨h.1.sublist (List.take_sublist k l),fun p hp=>h.2 p (RS hp)⟩
theorem dP.snoc {l:List Int}{n a:Int}(h:dP l n)(ha:0<=a/\a<n)(hl:∀ b,l.getLast?=some b->b<a):dP (l++[a]) n:=by
 refine⟨Ua.2 ⟨h.1,by simp,fun x hx y hy=>?_⟩,fun p hp=>?_⟩
 ·obtain rfl:=List.mem_singleton.1 hy;rcases List.eq_nil_or_concat l with rfl|⟨l',b,rfl⟩
  ·cases hx
  ·have hb:=hl b (by simp);simp only[List.concat_eq_append]at hx h;rcases RX.1 hx with hx|hx
   ·have:=(Ua.1 h.1).2.2 x hx b (by simp);omega
   ·obtain rfl:=List.mem_singleton.1 hx;exact hb
 ·rcases RX.1 hp with hp|hp
  ·exact h.2 p hp
  ·obtain rfl:=List.mem_singleton.1 hp;exact ha
theorem dP.lt {l:List Int}{n:Int}(h:dP l n){i j:Nat}{a b:Int}(ha:l[i]?=some a)(hb:l[j]?=some b)(hij:i<j):a<b:=by
 have:=UZ.1 h.1 i j (get_lt ha) (get_lt hb) hij;have e1:=Rz (get_lt ha);have e2:=Rz (get_lt hb);rw[ha]at e1;rw[hb]at e2;rw[Option.some.inj e1,Option.some.inj e2];exact this
theorem dP.len {l:List Int}{n:Int}(h:dP l n):(l.length:Int)<=max n 0:=by
  -- the k-th place is at least k
 have key:∀ (k:Nat) (a:Int),l[k]?=some a->(k:Int)<=a:=by
  intro k
  induction k with
  | zero=>intro a ha;have:=h.2 a (Ry ha);omega
  | succ k ih =>
   intro a ha;obtain⟨b,hb⟩:=get_of_lt (l:=l) (i:=k) (by have:=get_lt ha;omega);have:=ih b hb;have:=h.lt hb ha (by omega);omega
 rcases Ui l.length with h0|h0
 ·omega
 ·obtain⟨a,ha⟩:=get_of_lt (l:=l) (i:=l.length - 1) (by omega);have h1:=key _ a ha;have h2:=h.2 a (Ry ha);omega
theorem DD {l:List Int}{j:Nat}{b:Int}(h:l[j]?=some b):(l.take (j+1)).getLast?=some b:=by rw[aP h];simp
end Go.Proofs
namespace Go.Hx
theorem Over.live {H H':AHeap}(h:Over H H'){id g:Nat}(hi:id<H.next):H'.live id g=H.live id g:=by
 unfold AHeap.live;rw[h.old id hi]
theorem Over.upd {H H':AHeap}(h:Over H H'){id:Nat}(hi:H.next<=id)(b:Blk):Over H (H'.upd id b):=⟨h.next,fun j hj=>by rw[aj,RB (by omega)];exact h.old j hj⟩
theorem yC {H:AHeap}{id g:Nat}{e:TypeId}{c:List AVal}:(H.upd id (.arr g e c)).live id g=some (e,c):=ao (by rw[aj,RC rfl])
theorem mn {H:AHeap}{id j g:Nat}{b:Blk}(h:j≠id):(H.upd id b).live j g=H.live j g:=by unfold AHeap.live;rw[aj,RB h]
attribute [go_sem] yC
@[go_sem] theorem Rv (a b:Array TypeId)(c:Bool)(n:Nat)(cells:List AVal)(off:Nat):jT (some (.func a b c)) n cells off=cells[off]?:=rfl
end Go.Hx
namespace Go.Proofs
open Go.Hx
theorem nA {H H' H2:AHeap}{e:TypeId}{v:AVal}{cs:List AVal}(ov:Over H H')(h:aB H.next H' e v cs)(hn:H'.next<=H2.next)(hp:∀ k,k<H'.next->(∀ g n,v≠.own k g 0 n 1)->H2.get k=H'.get k):Over H H2 :=
 ⟨So ov.next hn,fun id hi=>by
  rw[hp id (RL hi ov.next) fun g n he=>?_,ov.old id hi];rcases h with ⟨h,_⟩|⟨i2,g2,a1,_,h,_⟩
  ·rw[h]at he;cases he
  ·rw[h]at he;have:=AVal.own.inj he;omega⟩
theorem mo {H H':AHeap}{v:AVal}{l:List Int}(x:Int)(ov:Over H H')(h:aB H.next H' 3 v (ints l))(hl:l.length<2 ^ 40):
  ∃ v' H2,bF Try.prog (ext H' [.arr 0 3 [.lit (.int .i64 x)]]) (H'.next+1) 39 39 v (.own H'.next 0 0 1 1)=some (v',H2)/\Over H H2/\aB H.next H2 3 v' (ints (l++[x]))/\H'.next<=H2.next/\(∀ k,k<H'.next->(∀ g n,v≠.own k g 0 n 1)->H2.get k=H'.get k):=by
 obtain⟨v',H2,hA,hO,hn2,hp⟩:=mI (P:=Try.prog) (H:=H') (t:=39) (x:=aa x) (n:=H'.next+1) Try.underlying39 Try.fX Try.iq rfl (by rw[Try.jC,bO];omega) h ov.next rfl;simp only[aa]at hA;exact⟨v',H2,hA,nA ov h hn2 hp,by simpa [ints,aa] using hO,hn2,hp⟩
theorem Q0 (l:List (List Int)):(aH l).one=true:=rfl
theorem Q1 (l:List (List Int)):(aH l).cells=[aH l]:=rfl
theorem Q2 (l:List NodeP):(de l).one=true:=rfl
theorem Q3 (l:List NodeP):(de l).cells=[de l]:=rfl
theorem Q4 (l:List UtilP):(x6 l).one=true:=rfl
theorem Q5 (l:List UtilP):(x6 l).cells=[x6 l]:=rfl
attribute [go_sem] Q0 Q1 Q2 Q3 Q4 Q5
structure OwnI (H H':AHeap)(id:Nat)(c:List Int):Prop where
 ov:Over H H'
 lo:H.next<=id
 hi:id<H'.next
 get:H'.get id=some (.arr 0 3 (ints c))
theorem OwnI.live {H H':AHeap}{id:Nat}{c:List Int}(h:OwnI H H' id c):H'.live id 0=some (3,ints c):=ao h.get
theorem OwnI.ne {H H':AHeap}{id:Nat}{c:List Int}(h:OwnI H H' id c):¬ id=H'.next:=by have:=h.hi;omega
theorem OwnI.over {H H' H2:AHeap}{id:Nat}{c:List Int}(h:OwnI H H' id c)(o:Over H' H2):OwnI H H2 id c:=⟨h.ov.trans o,h.lo,RL h.hi o.next,(o.old id h.hi).trans h.get⟩
theorem OwnI.store {H H':AHeap}{id:Nat}{c:List Int}(h:OwnI H H' id c){k:Nat}(hk:k<c.length)(x:Int):OwnI H (H'.upd id (.arr 0 3 (setAt (ints c) k [.lit (.int .i64 x)]))) id (c.set k x) :=
 ⟨⟨h.ov.next,fun i hi=>by rw[aj,RB (by have:=h.lo;omega)];exact h.ov.old i hi⟩,h.lo,h.hi,by rw[aj,RC rfl,fa hk]⟩
theorem OwnI.new {H:AHeap}(L:List Blk)(n:Nat):OwnI H (ext H (.arr 0 3 (List.replicate n (.lit (.int .i64 0))) :: L)) H.next (List.replicate n 0) :=
 ⟨.ext _ _,Nat.le_refl _,by simp [cJ],by rw[dV];simp [ints,aa]⟩
theorem OwnI.fin {H H':AHeap}{id:Nat}{c:List Int}{K:ARes->AHeap->Prop}(hcl:Clo H)(h:OwnI H H' id c){n:Nat}(hn:n=c.length)(hK:K (.ret (ab c)) H):av Try.prog G0 H K (.own id 0 0 n 1) H':=by
 subst hn;refine av.cK aZ hcl h.ov ?_ hK;exact .ints h.lo h.get (by simp) fun i hi=>by simp [gI,hi]
theorem DP {l m:List Int}{k:Nat}{x:Int}(h:l.take k=m.take k)(hk:k<l.length)(hx:m[k]?=some x):(l.set k x).take (k+1)=m.take (k+1):=by
 rw[aP hx,aP (show (l.set k x)[k]?=some x by rw[RO hk]),TT (Nat.le_refl k),h]
theorem aO {α:Type}{l:List α}{i:Nat}{a d:α}(h:l[i]?=some a):l.getD i d=a:=by rw[RE,h];rfl
theorem Qx {l places:List Int}{k:Nat}{p:Int}(h:places[k]?=some p):aA l (places.take (k+1))=aA l (places.take k)++[l.getD p.toNat 0]:=by
 unfold aA;rw[aP h];simp
theorem bX {ns:List NodeP}{k:Nat}{x:NodeP}(h:ns[k]?=some x):(ah ns)[k]?=some x.card:=by unfold ah;rw[List.getElem?_map,h];rfl
theorem bA (ns:List NodeP):(ah ns).length=ns.length:=by simp [ah]
theorem uG (g:Int)(ns:List NodeP)(hl:(ns.length:Int)<2 ^ 39)(H:AHeap)(K:ARes->AHeap->Prop)(hK:K (.ret (ab (ah ns))) H):ae Try.prog G0 31 [bP g ns] H K:=by
 refine ae.clo ⟨_,Try.func31,rfl,rfl⟩ fun hcl=>?_;refine ae.bH (n:=22) (rs:=[.tmp 2]) Try.func31 rfl rfl rfl (by decide) (by kernel_rfl) (by simp) ?_;simp only[go_sem,bP,de];obtain⟨H1,hH1⟩:∃ H1,H1=ext H [.arr 0 35 [.lit (.int .i64 g),.vec ns.length (ar ns)]]:=⟨_,rfl⟩
 have l1:H1.live H.next 0=some (35,[.lit (.int .i64 g),.vec ns.length (ar ns)]):=by rw[hH1];exact ao (dV ..)
 have n1:H1.next=H.next+1:=by rw[hH1];rfl
 have o1:Over H H1:=by rw[hH1];exact .ext _ _
 rw[<- hH1];refine W.aI 2097144 (by rfl) (fun ρ H'=>∃ k:Nat,ρ 4=aa k/\k<=ns.length/\ρ 1=.ptr H.next 0 0/\Over H1 H'/\aB H1.next H' 3 (ρ 3) (ints ((ah ns).take k))) (fun ρ H=>ns.length - (iv (ρ 4)).toNat) ?_ ?_
 ·simp only[go_sem];exact⟨0,rfl,by omega,.refl _,.nil⟩
 rintro ρ H' ⟨k,h4,hk,h1,ov,h3⟩;refine W.vs ?_;have l2:=(ov.live (g:=0) (by omega:H.next<H1.next)).trans l1;by_cases hb:(k:Int)<ns.length
 ·obtain⟨x,hx⟩:=get_of_lt (l:=ns) (i:=k) (by omega);have hne:=fZ hx;have e0:=l8 hx;obtain⟨v',H2,hA,ov2,hO,hn2,_⟩:=mo x.card ov h3 (by simp [ah];omega);have w1:=Rw ((k:Int)+1) (by omega);simp only[go_sem,h4,h1,l2,hb,hne,e0,w1,hA];refine⟨by have:=ov2.next;omega,⟨k+1,by simp,by omega,ov2,?_⟩,by omega⟩;rw[aP (bX hx)];exact hO
 ·simp only[go_sem,h4,h1,l2,hb];rw[RA (by rw[bA];omega)]at h3;exact av.cK aZ hcl (o1.trans ov) (h3.qq fun i hi=>by omega) hK
def iE (l:List Int)(n:Nat):Prop:=∀ q∈l,0<=q/\q<n
theorem dQ (l p:List Int):(aA l p).length=p.length:=by simp [aA]
theorem km {l p:List Int}{k:Nat}{q:Int}(h:p[k]?=some q):(aA l p)[k]?=some (l.getD q.toNat 0):=by unfold aA;rw[List.getElem?_map,h];rfl
def df (l:List Int):Nat:=l.foldl (fun s p=>s ||| 2 ^ p.toNat) 0
theorem Pq (l:List Int):∀ (s i:Nat),(l.foldl (fun s p=>s ||| 2 ^ p.toNat) s).testBit i=(s.testBit i || l.any fun p=>p.toNat == i):=by
 induction l with
 | nil=>intro s i;simp
 | cons p l ih =>
  intro s i;simp only[SK,ih,T6,Vj,List.any_cons];rw[Bool.or_assoc];congr 1
theorem kh {l:List Int}(h:∀ p∈l,0<=p)(i:Nat):(df l).testBit i=decide ((i:Int)∈l):=by
 unfold df;rw[Pq];simp only[SG,U4];rw[Tu];simp only[List.any_eq_true,beq_iff_eq,decide_eq_true_eq];constructor
 ·rintro⟨p,hp,rfl⟩;have:=h p hp;rw[Sw this];exact hp
 ·intro hi;exact⟨_,hi,by simp⟩
theorem CW (l:List Int)(p:Int):df (l++[p])=df l ||| 2 ^ p.toNat:=by unfold df;rw[SZ];rfl
theorem ya {m n:Nat}(h:∀ i,m.testBit i=true->i<n):m<2 ^ n:=by
 apply Nat.lt_pow_two_of_testBit;intro i hi;rcases Sh (m.testBit i) with e|e
 ·exact absurd (h i e) (by omega)
 ·exact e
theorem uk {l:List Int}{n:Nat}(h:∀ p∈l,0<=p/\p<n):df l<2 ^ n:=ya fun i hi=>by
 rw[kh fun p hp=>(h p hp).1]at hi;have:=(h _ (of_decide_eq_true hi)).2;omega
theorem md {m n i:Nat}(h:m<2 ^ n)(hi:m.testBit i=true):i<n:=by
 rcases RP i n with h'|h'
 ·exact h'
 ·rw[Uv (RL h (R8 (by decide) h'))]at hi;cases hi
def Sub (s t:Nat):Prop:=∀ i,s.testBit i=true->t.testBit i=true
theorem Sub.refl (s:Nat):Sub s s:=fun _ h=>h
theorem Sub.trans {s t u:Nat}(h:Sub s t)(h':Sub t u):Sub s u:=fun i hi=>h' i (h i hi)
theorem Sub.or {s t u:Nat}(h:Sub s u)(h':Sub t u):Sub (s ||| t) u:=fun i hi=>by
 rw[T6,TK]at hi;exact hi.elim (h i) (h' i)
theorem Sub.left (s t:Nat):Sub s (s ||| t):=fun i hi=>by rw[T6,hi];rfl
theorem Sub.right (s t:Nat):Sub t (s ||| t):=fun i hi=>by rw[T6,hi];simp
theorem Sub.antisymm {s t:Nat}(h:Sub s t)(h':Sub t s):s=t:=T9 fun i=>by
 rw[Tu];exact⟨h i,h' i⟩
theorem um {a b:Nat}(ha:a<2 ^ 64):iG a b=0↔Sub a b:=by
 constructor
 ·intro h i hi;have:=DK (a:=a) (b:=b) (i:=i) ha;rw[h,SG,hi]at this;simpa using this.symm
 ·intro h;apply T9;intro i;rw[DK ha,SG];cases hi:a.testBit i
  ·rfl
  ·rw[h i hi];rfl
def ki (ps:List Nat)(s v:Nat):Nat:=if s.testBit v=true then s ||| ps.getD v 0 else s
def eh (ps:List Nat)(s:Nat):Nat:=(List.range ps.length).foldl (ki ps) s
def fN (ps:List Nat):Nat->Nat->Nat
 | 0,s=>s
 | k+1,s=>eh ps (fN ps k s)
def g9 (ps:List Nat)(s:Nat):Nat:=fN ps ps.length s
def kK (ps:List Nat):Prop:=∀ v,v<ps.length->(g9 ps (ps.getD v 0)).testBit v=false
def kL (ps:List Nat)(t:Nat):Prop:=∀ v,v<ps.length->t.testBit v=true->Sub (ps.getD v 0) t
theorem CX (ps:List Nat)(s v:Nat):Sub s (ki ps s v):=by unfold ki;split;exact .left _ _;exact .refl _
theorem CY (ps:List Nat)(l:List Nat):∀ s,Sub s (l.foldl (ki ps) s):=by
 induction l with
 | nil=>exact fun s=>.refl s
 | cons v l ih=>exact fun s=>(CX ps s v).trans (ih _)
theorem ye (ps:List Nat)(s:Nat):Sub s (eh ps s):=CY ps _ s
theorem Pr {ps:List Nat}{t:Nat}(hc:kL ps t)(l:List Nat)(hl:∀ v∈l,v<ps.length):∀ s,Sub s t->Sub (l.foldl (ki ps) s) t:=by
 induction l with
 | nil=>exact fun s h=>h
 | cons v l ih =>
  intro s h;refine ih (fun v hv=>hl v (by simp [hv])) _ ?_;unfold ki;split
  ·rename_i hv;exact h.or (hc v (hl v (by simp)) (h v hv))
  ·exact h
theorem Ps {ps:List Nat}{t:Nat}(hc:kL ps t){s:Nat}(h:Sub s t):Sub (eh ps s) t:=Pr hc _ (fun v hv=>RK.1 hv) s h
theorem rj {ps:List Nat}{t:Nat}(hc:kL ps t)(k:Nat){s:Nat}(h:Sub s t):Sub (fN ps k s) t:=by
 induction k with
 | zero=>exact h
 | succ k ih=>exact Ps hc ih
theorem uo (ps:List Nat)(k s:Nat):Sub s (fN ps k s):=by
 induction k with
 | zero=>exact .refl _
 | succ k ih=>exact ih.trans (ye _ _)
theorem Pt {ps:List Nat}{s:Nat}(h:eh ps s=s):kL ps s:=by
 intro v hv hs;have key:∀ (l:List Nat) (s0:Nat),v∈l->s0.testBit v=true->Sub (ps.getD v 0) (l.foldl (ki ps) s0):=by
  intro l
  induction l with
  | nil=>intro s0 h;cases h
  | cons u l ih =>
   intro s0 hm hb;rcases List.mem_cons.1 hm with rfl|hm
   ·refine Sub.trans ?_ (CY ps l _);unfold ki;rw[RC hb];exact .right _ _
   ·exact ih _ hm (CX ps s0 u v hb)
 have:=key (List.range ps.length) s (RK.2 hv) hs;unfold eh at h
 rwa [h]at this
def bQ (n s:Nat):Nat:=(List.range n).countP fun i=>s.testBit i
theorem uq (n s:Nat):bQ n s<=n:=by have:=UA (p:=fun i=>s.testBit i) (l:=List.range n);simpa [bQ] using this
theorem Pu {l:List Nat}{p q:Nat->Bool}(h:∀ x∈l,p x=true->q x=true){a:Nat}(ha:a∈l)(hp:p a=false)(hq:q a=true):l.countP p<l.countP q:=by
 induction l with
 | nil=>cases ha
 | cons x l ih =>
  have hm:l.countP p<=l.countP q:=Vb fun y hy=>h y (by simp [hy]);rcases List.mem_cons.1 ha with rfl|ha
  ·rw[Sp,Sp,hp,hq];simp;omega
  ·have:=ih (fun y hy=>h y (by simp [hy])) ha;have hx:=h x (by simp);rw[Sp,Sp];cases hpx:p x
   ·simp;omega
   ·rw[hx hpx];simp;omega
theorem nq {n s t i:Nat}(h:Sub s t)(hi:i<n)(h0:s.testBit i=false)(h1:t.testBit i=true):bQ n s<bQ n t :=
 Pu (fun x _ hx=>h x hx) (RK.2 hi) h0 h1
theorem Pv {ps:List Nat}(hp:∀ p∈ps,p<2 ^ ps.length){s:Nat}(hs:s<2 ^ ps.length):kL ps (g9 ps s):=by
 have hb:∀ k,fN ps k s<2 ^ ps.length:=fun k=>by
  have ht:kL ps (2 ^ ps.length - 1):=fun v _ _ i hi=>by
   rw[SV];have:ps.getD v 0<2 ^ ps.length:=by
    rw[RE];cases h:ps[v]? with
    | none=>exact TH _
    | some p=>exact hp p (Ry h)
   simpa using md this hi
  have:=rj ht k (s:=s) fun i hi=>by rw[SV];simpa using md hs hi
  exact ya fun i hi=>by have:=this i hi;rw[SV]at this;simpa using this
 have key:∀ k,eh ps (fN ps k s)=fN ps k s\/k+1<=bQ ps.length (fN ps k s):=by
  have grow:∀ t,t<2 ^ ps.length->eh ps t<2 ^ ps.length->eh ps t≠t->bQ ps.length t<bQ ps.length (eh ps t):=fun t ht ht' hne=>by
   have:∃ i,(eh ps t).testBit i=true/\t.testBit i=false:=by
    refine Se fun hno=>hne (Sub.antisymm (fun i hi=>?_) (ye ps t));rcases Sh (t.testBit i) with e|e
    ·exact e
    ·exact absurd ⟨i,hi,e⟩ hno
   obtain⟨i,h1,h0⟩:=this;exact nq (ye ps t) (md ht' h1) h0 h1
  intro k
  induction k with
  | zero =>
   by_cases h0:s=0
   ·left;subst h0;show eh ps 0=0;unfold eh;have:∀ l:List Nat,l.foldl (ki ps) 0=0:=fun l=>by
     induction l with
     | nil=>rfl
     | cons v l ih=>simp only[SK,ki,SG,Bool.false_eq_true,if_false];exact ih
    exact this _
   ·right;obtain⟨i,hi⟩:=Nat.exists_testBit_of_ne_zero h0;have:bQ ps.length 0<bQ ps.length s:=nq (fun j hj=>by rw[SG]at hj;cases hj) (md hs hi) (SG i) hi;show 0+1<=bQ ps.length s;omega
  | succ k ih =>
   rcases ih with ih|ih
   ·left;show eh ps (eh ps (fN ps k s))=eh ps (fN ps k s);rw[ih];exact ih
   ·by_cases hf:eh ps (fN ps k s)=fN ps k s
    ·left;show eh ps (eh ps (fN ps k s))=eh ps (fN ps k s);rw[hf];exact hf
    ·right;have:=grow _ (hb k) (hb (k+1)) hf;show k+1+1<=bQ ps.length (eh ps (fN ps k s));omega
 rcases key ps.length with h|h
 ·exact Pt h
 ·have:=uq ps.length (fN ps ps.length s);omega
def me (ps:List Nat)(done v:Nat):Bool:=!done.testBit v && decide (iG (ps.getD v 0) done=0)
def kj (ps:List Nat)(done:Nat):Option Nat:=(List.range ps.length).find? (me ps done)
def ja (ps:List Nat):Nat->List Nat->Nat->Option (List Nat)
 | 0,out,_=>some out
 | k+1,out,done=>match kj ps done with
  | none=>none
  | some v=>ja ps k (out++[v]) (done ||| 2 ^ v)
def eI (ps:List Nat):Option (List Nat):=ja ps ps.length [] 0
theorem ur {ps:List Nat}{done v:Nat}(hp:∀ p∈ps,p<2 ^ 64)(h:kj ps done=some v):v<ps.length/\done.testBit v=false/\Sub (ps.getD v 0) done:=by
 unfold kj at h;have h1:=List.mem_of_find?_eq_some h;have h2:=List.find?_some h;unfold me at h2;simp only[RU,UN,decide_eq_true_eq]at h2;have hv:=RK.1 h1;refine⟨hv,h2.1,(um ?_).1 h2.2⟩;rw[RE];cases h:ps[v]? with
 | none=>decide
 | some p=>exact hp p (Ry h)
theorem Pw {ps:List Nat}{done:Nat}(hp:∀ p∈ps,p<2 ^ 64)(h:kj ps done=none):∀ v,v<ps.length->done.testBit v=true\/¬ Sub (ps.getD v 0) done:=by
 intro v hv;unfold kj at h;rw[List.find?_eq_none]at h;have:=h v (RK.2 hv);unfold me at this;rcases Sh (done.testBit v) with e|e
 ·exact .inl e
 ·right;intro hs;refine this ?_;rw[e,(um ?_).2 hs]
  ·simp
  ·rw[RE];cases h:ps[v]? with
   | none=>decide
   | some p=>exact hp p (Ry h)
theorem fB (d v i:Nat):(d ||| 2 ^ v).testBit i=(d.testBit i || decide (v=i)):=by rw[T6,Vj]
theorem Px {ps:List Nat}(hp:∀ p∈ps,p<2 ^ 64):∀ (k:Nat) (out:List Nat) (done:Nat) (r:List Nat),ja ps k out done=some r->k+bQ ps.length done=ps.length ->
  kL ps done->(∀ v,v<ps.length->done.testBit v=true->(g9 ps (ps.getD v 0)).testBit v=false)->kK ps:=by
 intro k
 induction k with
 | zero =>
  intro out done r _ hc hcl hall v hv;refine hall v hv ?_;rcases Sh (done.testBit v) with e|e
  ·exact e
  ·have:bQ ps.length done<bQ ps.length (2 ^ ps.length - 1 ||| done):=nq (.right _ _) hv e (by rw[T6,SV];simp [hv]);have:=uq ps.length (2 ^ ps.length - 1 ||| done);omega
 | succ k ih =>
  intro out done r h hc hcl hall;unfold ja at h;split at h
  ·cases h
  ·rename_i v hn;obtain⟨h1,h2,h3⟩:=ur hp hn;refine ih _ _ _ h ?_ ?_ ?_
   ·have:bQ ps.length (done ||| 2 ^ v)=bQ ps.length done+1:=by
     unfold bQ;have:∀ l:List Nat,l.Nodup->v∈l->l.countP (fun i=>(done ||| 2 ^ v).testBit i)=l.countP (fun i=>done.testBit i)+1:=by
      intro l
      induction l with
      | nil=>intro _ h;cases h
      | cons x l ihl =>
       intro hnd hmem;obtain⟨g1,g2⟩:=TY.1 hnd;rw[Sp,Sp];rcases List.mem_cons.1 hmem with rfl|hm2
       ·have:l.countP (fun i=>(done ||| 2 ^ v).testBit i)=l.countP (fun i=>done.testBit i):=Uo fun y hy=>by
         have:¬ v=y:=(by rintro rfl;exact g1 hy);simp [fB,this]
        rw[this];simp [fB,h2]
       ·have hx:¬ v=x:=(by rintro rfl;exact g1 hm2);rw[ihl g2 hm2];simp [fB,hx];omega
     exact this _ TE (RK.2 h1)
    omega
   ·intro u hu hb;rw[fB,TK,decide_eq_true_eq]at hb;rcases hb with hb|rfl
    ·exact(hcl u hu hb).trans (.left _ _)
    ·exact h3.trans (.left _ _)
   ·intro u hu hb;rw[fB,TK,decide_eq_true_eq]at hb;rcases hb with hb|rfl
    ·exact hall u hu hb
    ·have:=rj hcl ps.length h3;rcases Sh ((g9 ps (ps.getD v 0)).testBit v) with e|e
     ·have:=this v e;rw[h2]at this;cases this
     ·exact e
theorem CZ {ps:List Nat}(hp:∀ p∈ps,p<2 ^ ps.length)(h64:ps.length<=64)(ha:kK ps):∀ (k:Nat) (out:List Nat) (done:Nat),k+bQ ps.length done=ps.length->∃ r,ja ps k out done=some r:=by
 have hp64:∀ p∈ps,p<2 ^ 64:=fun p h=>RL (hp p h) (R8 (by decide) h64);have hpd:∀ v,ps.getD v 0<2 ^ ps.length:=fun v=>by
  rw[RE];cases h:ps[v]? with
  | none=>exact TH _
  | some p=>exact hp p (Ry h)
 intro k
 induction k with
 | zero=>exact fun out done _=>⟨out,rfl⟩
 | succ k ih =>
  intro out done hc;unfold ja;cases hn:kj ps done with
  | none =>
   exfalso;have hno:=Pw hp64 hn
      -- every node that is left has a parent that is left
   have step:∀ m v,v<ps.length->done.testBit v=false->bQ ps.length (g9 ps (ps.getD v 0))<=m->False:=by
    intro m
    induction m with
    | zero =>
     intro v hv hd hm;obtain⟨i,h1,h2⟩:∃ i,(ps.getD v 0).testBit i=true/\done.testBit i=false:=by
      rcases hno v hv with h|h
      ·rw[hd]at h;cases h
      ·refine Se fun hc=>h fun i hi=>?_;rcases Sh (done.testBit i) with e|e
       ·exact e
       ·exact absurd ⟨i,hi,e⟩ hc
     have:bQ ps.length 0<bQ ps.length (g9 ps (ps.getD v 0)):=nq (fun j hj=>by rw[SG]at hj;cases hj) (md (hpd v) h1) (SG i) (uo ps _ _ i h1);omega
    | succ m ihm =>
     intro v hv hd hm;obtain⟨u,h1,h2⟩:∃ i,(ps.getD v 0).testBit i=true/\done.testBit i=false:=by
      rcases hno v hv with h|h
      ·rw[hd]at h;cases h
      ·refine Se fun hc=>h fun i hi=>?_;rcases Sh (done.testBit i) with e|e
       ·exact e
       ·exact absurd ⟨i,hi,e⟩ hc
     have hu:=md (hpd v) h1;have hcl:=Pv hp (hpd v);have hin:(g9 ps (ps.getD v 0)).testBit u=true:=uo ps _ _ u h1;have hsub:Sub (g9 ps (ps.getD u 0)) (g9 ps (ps.getD v 0)):=rj hcl _ (hcl u hu hin);have:=nq hsub hu (ha u hu) hin;exact ihm u hu h2 (by omega)
   obtain⟨v,hv,hd⟩:∃ v,v<ps.length/\done.testBit v=false:=by
    refine Se fun hno=>?_;have:bQ ps.length done=ps.length:=by
     unfold bQ
     conv=>rhs;rw[<- Sn (n:=ps.length)]
     rw[Ty];intro x hx;rcases Sh (done.testBit x) with e|e
     ·exact e
     ·exact absurd ⟨x,RK.1 hx,e⟩ hno
    omega
   exact step _ v hv hd (Nat.le_refl _)
  | some v =>
   obtain⟨h1,h2,h3⟩:=ur hp64 hn;refine ih _ _ ?_;have:bQ ps.length (done ||| 2 ^ v)=bQ ps.length done+1:=by
    unfold bQ;have:∀ l:List Nat,l.Nodup->v∈l->l.countP (fun i=>(done ||| 2 ^ v).testBit i)=l.countP (fun i=>done.testBit i)+1:=by
     intro l
     induction l with
     | nil=>intro _ h;cases h
     | cons x l ihl =>
      intro hnd hmem;obtain⟨g1,g2⟩:=TY.1 hnd;rw[Sp,Sp];rcases List.mem_cons.1 hmem with rfl|hm2
      ·have:l.countP (fun i=>(done ||| 2 ^ v).testBit i)=l.countP (fun i=>done.testBit i):=Uo fun y hy=>by
        have:¬ v=y:=(by rintro rfl;exact g1 hy);simp [fB,this]
       rw[this];simp [fB,h2]
      ·have hx:¬ v=x:=(by rintro rfl;exact g1 hm2);rw[ihl g2 hm2];simp [fB,hx];omega
    exact this _ TE (RK.2 h1)
   omega
theorem C0 (n:Nat):bQ n 0=0:=by
 unfold bQ;rw[Vm];intro x _;simp
theorem C3 {ps:List Nat}(hp:∀ p∈ps,p<2 ^ ps.length)(h64:ps.length<=64):(eI ps).isSome=true↔kK ps:=by
 have hp64:∀ p∈ps,p<2 ^ 64:=fun p h=>RL (hp p h) (R8 (by decide) h64);constructor
 ·intro h;obtain⟨r,hr⟩:=Sq.1 h;exact Px hp64 _ _ _ r hr (by rw[C0];omega) (fun v _ h=>by rw[SG]at h;cases h) (fun v _ h=>by rw[SG]at h;cases h)
 ·intro h;obtain⟨r,hr⟩:=CZ hp h64 h ps.length [] 0 (by rw[C0];omega);unfold eI;rw[hr];rfl
end Go.Proofs
namespace Go.Hx
def cP (l:List Nat):AVal:=.vec l.length (l.map cL)
attribute [go_sem] cL cP
theorem aB.Qy {S:Nat->Prop}{lo nx:Nat}{H:AHeap}{e:TypeId}{v:AVal}{l:List Nat}(h:aB lo H e v (l.map cL))(hS:∀ i,lo<=i->S i):Fz S H nx v (cP l):=by
 have:=h.fz (S:=S) (nx:=nx) (cs':=l.map cL) hS rfl fun i hi _=>by simp only[RQ];exact .lit _
 rw[RJ]at this;exact this
end Go.Hx
namespace Go.Proofs
open Go.Hx
theorem Qz {H H':AHeap}{v:AVal}{l:List Nat}(x:Nat)(ov:Over H H')(h:aB H.next H' 45 v (l.map cL))(hl:l.length<2 ^ 40):
  ∃ v' H2,bF Try.prog (ext H' [.arr 0 45 [.lit (.int .u64 (x:Int))]]) (H'.next+1) 78 78 v (.own H'.next 0 0 1 1)=some (v',H2)/\Over H H2/\aB H.next H2 45 v' ((l++[x]).map cL)/\H'.next<=H2.next/\(∀ k,k<H'.next->(∀ g n,v≠.own k g 0 n 1)->H2.get k=H'.get k):=by
 obtain⟨v',H2,hA,hO,hn2,hp⟩:=mI (P:=Try.prog) (H:=H') (t:=78) (x:=cL x) (n:=H'.next+1) Try.underlying78 Try.Cf Try.Ch rfl (by rw[Try.Cg,RJ];omega) h ov.next rfl;simp only[cL]at hA;exact⟨v',H2,hA,nA ov h hn2 hp,by rw[SW];exact hO,hn2,hp⟩
def aT (ns:List NodeP):List Nat:=ns.map fun x=>df x.parents
theorem mi {ns:List NodeP}{k:Nat}{x:NodeP}(h:ns[k]?=some x):(aT ns)[k]?=some (df x.parents):=by unfold aT;rw[List.getElem?_map,h];rfl
theorem QA (g:Int)(ns:List NodeP)(hl:(ns.length:Int)<2 ^ 39)(hp:∀ x∈ns,(x.parents.length:Int)<2 ^ 39/\∀ q∈x.parents,0<=q/\q<64)(H:AHeap)(K:ARes->AHeap->Prop)
  (hK:K (.ret (cP (aT ns))) H):ae Try.prog G0 34 [bP g ns] H K:=by
 refine ae.clo ⟨_,Try.func34,rfl,rfl⟩ fun hcl=>?_;refine ae.bH (n:=43) (rs:=[.tmp 2]) Try.func34 rfl rfl rfl (by decide) (by kernel_rfl) (by simp) ?_;simp only[go_sem,bP,de];obtain⟨H1,hH1⟩:∃ H1,H1=ext H [.arr 0 35 [.lit (.int .i64 g),.vec ns.length (ar ns)]]:=⟨_,rfl⟩
 have l1:H1.live H.next 0=some (35,[.lit (.int .i64 g),.vec ns.length (ar ns)]):=by rw[hH1];exact ao (dV ..)
 have n1:H1.next=H.next+1:=by rw[hH1];rfl
 have o1:Over H H1:=by rw[hH1];exact .ext _ _
 rw[<- hH1];refine W.aI 4398046511096 (by rfl) (fun ρ H'=>∃ k:Nat,ρ 4=aa k/\k<=ns.length/\ρ 1=.ptr H.next 0 0/\Over H1 H'/\aB H1.next H' 45 (ρ 3) (((aT ns).take k).map cL)) (fun ρ H=>ns.length - (iv (ρ 4)).toNat) ?_ ?_
 ·simp only[go_sem];exact⟨0,rfl,by omega,.refl _,.nil⟩
 rintro ρ H' ⟨k,h4,hk,h1,ov,h3⟩;refine W.vs ?_;have l2:=(ov.live (g:=0) (by omega:H.next<H1.next)).trans l1;by_cases hb:(k:Int)<ns.length
 ·obtain⟨x,hx⟩:=get_of_lt (l:=ns) (i:=k) (by omega);have hne:=fZ hx;have e1:=uh hx;obtain⟨xl,xr⟩:=hp x (Ry hx);simp only[go_sem,h4,h1,l2,hb];refine W.aI 274877890656 (by rfl) (fun ρ' H2=>H2=H'/\∃ j:Nat,ρ' 6=aa j/\j<=x.parents.length/\ρ' 5=cL (df (x.parents.take j))) (fun ρ' H=>x.parents.length - (iv (ρ' 6)).toNat) ?_ ?_
  ·simp only[go_sem];exact⟨0,rfl,by omega,rfl⟩
  rintro ρ' H2 ⟨rfl,j,h6,hj,h5⟩;refine W.vs ?_;by_cases hb2:(j:Int)<x.parents.length
  ·obtain⟨q,hq⟩:=get_of_lt (l:=x.parents) (i:=j) (by omega);obtain⟨q0,q1⟩:=xr q (Ry hq);obtain⟨u,rfl⟩:=R7 q0;have hne2:=aK hq;have w1:=To (u:Int) (by omega);have w2:=Rw ((j:Int)+1) (by omega);have b1:df (x.parents.take j)<2 ^ 64:=uk fun p hp=>by have:=xr p (RS hp);omega
   have s1:=fun t x y=>rE (P:=Try.prog) (t:=t) (x:=x) (y:=y) (k':=.u64) (s:=u) (by omega);have s2:=fun t x y=>uK (P:=Try.prog) (t:=t) (x:=x) (y:=y) (b:=2 ^ u) b1 (TN (by decide) (by omega));simp only[go_sem,h4,h1,l2,hb,hne,e1,h6,h5,hb2,hq,hne2,w1,w2,s1,s2];exact⟨⟨j+1,by simp,by omega,by rw[aP hq,CW];rfl⟩,by omega⟩
  ·obtain⟨v',H3,hA,ov2,hO,hn2,_⟩:=Qz (df x.parents) ov h3 (by simp [aT];omega);have w1:=Rw ((k:Int)+1) (by omega);rw[RA (by omega)]at h5;simp only[go_sem,h4,h1,l2,hb,hne,e1,h6,h5,hb2,w1,hA];refine⟨by have:=ov2.next;omega,⟨k+1,by simp,by omega,ov2,?_⟩,by omega⟩;rw[aP (mi hx)];exact hO
 ·simp only[go_sem,h4,h1,l2,hb];rw[RA (by simp [aT];omega)]at h3;exact av.cK aZ hcl (o1.trans ov) (h3.Qy fun i hi=>by omega) hK
def kP (g card:Int)(r:List Int):Prop:=(r.length:Int)=card/\(∀ w∈r,0<=w/\w<=g)/\r.sum=g
def jc (g:Int)(ns:List NodeP)(x:NodeP):Prop:=(x.rows.length:Int)=aw (aN ns x)/\∀ r∈x.rows,kP g x.card r
structure NetOk (g:Int)(ns:List NodeP):Prop where
 g1:1<=g/\g<=60
 n1:1<=ns.length/\ns.length<=8
 node:∀ x∈ns,(1<=x.card/\x.card<=4)/\dP x.parents ns.length
 size:aw (ah ns)<=1024
 acyc:kK (aT ns)
 rows:∀ x∈ns,jc g ns x
noncomputable def iF (g:Int)(ns:List NodeP):Bool:=@decide (NetOk g ns) (Classical.propDecidable _)
theorem DE {g:Int}{ns:List NodeP}(h:NetOk g ns):iF g ns=true:=by unfold iF;exact @decide_eq_true _ (Classical.propDecidable _) h
theorem QB {g:Int}{ns:List NodeP}(h:¬ NetOk g ns):iF g ns=false:=by unfold iF;exact @decide_eq_false _ (Classical.propDecidable _) h
theorem DF {g:Int}{ns:List NodeP}:iF g ns=true↔NetOk g ns:=by unfold iF;exact @decide_eq_true_iff _ (Classical.propDecidable _)
def jd (ns:List NodeP):Prop:=(ns.length:Int)<2 ^ 38/\∀ x∈ns,(x.parents.length:Int)<2 ^ 38/\(x.rows.length:Int)<2 ^ 38/\∀ r∈x.rows,(r.length:Int)<2 ^ 38
theorem ru {l:List Int}(h:l.length<=12)(h2:∀ x∈l,1<=x/\x<=4):ew l:=⟨h,fun x hx=>by have:=h2 x hx;omega⟩
theorem DG {ns:List NodeP}{x:NodeP}(hin:iE x.parents ns.length)(hc:∀ y∈ns,1<=y.card/\y.card<=4):∀ c∈aN ns x,1<=c/\c<=4:=fun c h=>by
 unfold aN aA at h;obtain⟨q,hq,rfl⟩:=RI.1 h;obtain⟨j,rfl,y,hy⟩:=jG (l:=ns) (hin q hq).1 (hin q hq).2;rw[Int.toNat_natCast,aO (bX hy)];exact hc y (Ry hy)
theorem yv {ns:List NodeP}{x:NodeP}(h8:ns.length<=8)(hp:dP x.parents ns.length)(hc:∀ y∈ns,1<=y.card/\y.card<=4):ew (aN ns x):=by
 refine ru ?_ (DG (fun q hq=>by have:=hp.2 q hq;omega) hc);rw[show (aN ns x).length=_ from dQ _ _];have:=hp.len;omega
theorem yw {ns:List NodeP}{n:Nat}(h:∀ x∈ns,∀ q∈x.parents,0<=q/\q<(n:Int)):∀ p∈aT ns,p<2 ^ n:=fun p hp=>by
 obtain⟨x,hx,rfl⟩:=RI.1 hp;exact uk fun q hq=>by have:=h x hx q hq;omega
theorem yx (l:List Int)(x:Int):(l++[x]).sum=l.sum+x:=by simp
end Go.Proofs
namespace Go.Hx
variable {P:Program} {G:Nat->Option (List AVal)} {n:Nat} {rd:Option Nat} {Q:AX->St->Prop}
def DQ (P:Program)(G:Nat->Option (List AVal))(f:FuncId)(first cap:List AVal)(xs:List (List AVal))(S:AHeap->Prop):Prop :=
 ∀ (idy:Nat) (J:Nat->AHeap->Prop) (Stop:AHeap->Prop) (H:AHeap) (K:ARes->AHeap->Prop),
  (∀ k H1,J k H1->S H1)->J 0 H ->
  (∀ k x H1 K1,xs[k]?=some x->J k H1->H.next<=H1.next->(∀ H',J (k+1) H'->H1.next<=H'.next->K1 (.ret (.lit (.bool true))) H')->(∀ H',Stop H'->H1.next<=H'.next->K1 (.ret (.lit (.bool false))) H')->az P G (.yld idy) x H1 K1) ->
  (∀ H',J xs.length H'->H.next<=H'.next->K (.ret (.tup [])) H') ->
  (∀ H',Stop H'->H.next<=H'.next->K (.ret (.tup [])) H') ->
  ae P G f (first++[.yld idy]++cap) H K
def kQ (idy:Nat)(B:Blk)(lo:Nat)(J:AHeap->Prop)(Stop:AX->AHeap->Prop):AX->St->Prop
 | .normal,s=>s.H.get idy=some B/\lo<=s.H.next/\J s.H
 | .ret,s=>s.H.get idy=some B/\lo<=s.H.next/\Stop .ret s.H
 | .exit i,s=>s.H.get idy=some B/\lo<=s.H.next/\Stop (.exit i) s.H
 | _,_=>False
def nD (P:Program)(G:Nat->Option (List AVal))(n idy:Nat)(B Bb:Blk)(lo:Nat)(body:Code)(J:AHeap->Prop)(Stop:AX->AHeap->Prop):AX->St->Prop
 | .normal,s=>s.H.get idy=some B/\W P G n (some idy) body (kQ idy Bb lo J Stop) ⟨s.ρ,s.H.upd idy Bb⟩
 | _,_=>False
theorem W.Q6 {g:Operand}{ps:Array Tmp}{asg body:Code}{ρ:Env}{H:AHeap}{f:FuncId}{first cap:List AVal}{xs:List (List AVal)}{S:AHeap->Prop}(hg:af G ρ g=.clo f first cap)
  (hit:DQ P G f first cap xs S) (J:Nat->AHeap->Prop) (Stop:AX->AHeap->Prop) (hS:∀ k H1,J k H1->S H1)
  (hJu:∀ k H1 b,J k H1->J k (H1.upd H.next b)) (hSu:∀ c H1 b,Stop c H1->Stop c (H1.upd H.next b))
  (hJ0:∀ b,J 0 (ext H [b])) (hps:ps.toList.all (fun t=>decide (t<n))=true) (hxl:∀ x∈xs,x.length=ps.size)
  (hrd:∀ k H1,J k H1->dp H1 rd) (hrd2:∀ c H1,Stop c H1->dp H1 rd)
  (hround:∀ k x H1 B Bb,xs[k]?=some x->J k H1->H.next+1<=H1.next->H1.get H.next=some B->(∃ st pd n' en ps' as' bo,Bb=Blk.loop st pd n' en ps' as' bo) ->
   W P G n (some H.next) asg (nD P G n H.next B Bb H1.next body (J (k+1)) Stop) ⟨jq (cY ρ n) (ps.toList.zip x),H1⟩)
  (hend:∀ H',J xs.length H'->H.next+1<=H'.next->Q .normal ⟨ρ,H'⟩)
  (hret:∀ H',Stop .ret H'->H.next+1<=H'.next->Q .ret ⟨ρ,H'⟩) (hexit:∀ i H',Stop (.exit i) H'->H.next+1<=H'.next->Q (.exit i) ⟨ρ,H'⟩):
  W P G n rd (.rangeFunc g ps asg body) Q ⟨ρ,H⟩:=by
 refine W.rangeFunc (s:=⟨ρ,H⟩) hg ⟨_,qd _ _,?_⟩;obtain⟨B,hB⟩:∃ B,B=Blk.loop .ready none n ρ ps asg body:=⟨_,rfl⟩
 obtain⟨Bb,hBb⟩:∃ B,B=Blk.loop .busy none n ρ ps asg body:=⟨_,rfl⟩
 have nx:(ext H [B]).next=H.next+1:=rfl;show ae P G f (first++[.yld H.next]++cap) (ext H [Blk.loop .ready none n ρ ps asg body]) (qj rd Q ρ H.next);rw[<- hB];refine hit H.next (fun k H1=>H1.get H.next=some B/\J k H1) (fun H1=>∃ c pend,H1.get H.next=some (.loop .done (some pend) n ρ ps asg body)/\Stop c H1/\((c=.ret/\pend=.ret)\/∃ i,c=.exit i/\pend=.exit i)) _ _
  (fun k H1 h=>hS k H1 h.2) ⟨cq,hJ0 B⟩ (fun k x H1 K1 hx hj hn hgo hst=>?_) (fun H' hj hn=>?_) (fun H' hj hn=>?_)
 ·have hxm:=hxl x (Ry hx);refine az.yld (hj.1.trans (congrArg some hB)) hxm hps ?_;refine(hround k x H1 B Bb hx hj.2 hn hj.1 ⟨_,_,_,_,_,_,_,hBb⟩).mono fun e s1 h1=>?_;cases e with
  | normal =>
   obtain⟨a1,a2⟩:=h1;refine⟨Bb,by rw[a1,hB,hBb];rfl,?_⟩;refine a2.mono fun e2 s2 h2=>?_;cases e2 with
   | normal =>
    obtain⟨b1,b2,b3⟩:=h2;exact⟨B,by rw[b1,hB,hBb];rfl,hgo _ ⟨by rw[aj,RC rfl],hJu _ _ _ b3⟩ b2⟩
   | ret =>
    obtain⟨b1,b2,b3⟩:=h2;exact⟨.loop .done (some .ret) n ρ ps asg body,by rw[b1,hBb];rfl,hst _ ⟨.ret,.ret,by rw[aj,RC rfl],hSu _ _ _ b3,.inl ⟨rfl,rfl⟩⟩ b2⟩
   | exit i =>
    obtain⟨b1,b2,b3⟩:=h2;exact⟨.loop .done (some (.exit i)) n ρ ps asg body,by rw[b1,hBb];rfl,hst _ ⟨.exit i,.exit i,by rw[aj,RC rfl],hSu _ _ _ b3,.inr ⟨i,rfl,rfl⟩⟩ b2⟩
   | _=>exact h2.elim
  | _=>exact h1.elim
 ·refine⟨hrd _ _ hj.2,(none,.loop .exhausted none n ρ ps asg body),by rw[hj.1,hB];rfl,?_⟩;exact hend _ (hJu _ _ _ hj.2) hn
 ·obtain⟨c,pend,h1,h2,h3⟩:=hj;refine⟨hrd2 _ _ h2,(some pend,.loop .exhausted (some pend) n ρ ps asg body),by rw[h1];rfl,?_⟩;rcases h3 with ⟨rfl,rfl⟩|⟨i,rfl,rfl⟩
  ·exact hret _ (hSu _ _ _ h2) hn
  ·exact hexit i _ (hSu _ _ _ h2) hn
end Go.Hx
namespace Go.Proofs
open Go.Hx
def ry (x:NodeP):AVal:=.agg [.lit (.int .i64 x.card),.vec x.parents.length (ints x.parents),aH x.rows]
def mm (rows:List (List Int)):List (List AVal):=rows.zipIdx.map fun p=>[aa p.2,ab p.1]
theorem DH {rows:List (List Int)}{k:Nat}{x:List AVal}(h:(mm rows)[k]?=some x):∃ r,rows[k]?=some r/\x=[aa k,ab r]:=by
 unfold mm at h;rw[List.getElem?_map,Vh]at h;cases hr:rows[k]? with
 | none=>rw[hr]at h;simp at h
 | some r=>rw[hr]at h;simp at h;exact⟨r,rfl,h.symm⟩
theorem QC {rows:List (List Int)}{k:Nat}{r:List Int}(h:rows[k]?=some r):(mm rows)[k]?=some [aa k,ab r]:=by
 unfold mm;rw[List.getElem?_map,Vh,h];simp
theorem DI (rows:List (List Int)):(mm rows).length=rows.length:=by simp [mm]
theorem QD (x:NodeP)(hl:(x.rows.length:Int)<2 ^ 40)(b:Nat):DQ Try.prog G0 112 [] [.ptr b 0 0] (mm x.rows) (fun H=>H.get b=some (.arr 0 69 [.lit (.int .i64 x.card),.vec x.parents.length (ints x.parents),aH x.rows])):=by
 intro idy J Stop H K hS hJ0 hY hK hSt;have l0:=ao (hS 0 H hJ0);show ae _ _ _ ([.yld idy]++[.ptr b 0 0]) _ _;refine ae.bH (n:=19) (rs:=[]) Try.func112 rfl rfl rfl (by decide) (by kernel_rfl) (by simp) ?_;simp only[go_sem,l0,aH];refine W.aI 524056 (by rfl) (fun ρ H'=>∃ k:Nat,ρ 8=aa k/\k<=x.rows.length/\J k H'/\H.next<=H'.next) (fun ρ H=>x.rows.length - (iv (ρ 8)).toNat) ?_ ?_
 ·simp only[go_sem];exact⟨0,rfl,by omega,hJ0⟩
 rintro ρ H' ⟨k,h8,hk,hj,hn⟩;refine W.vs ?_;by_cases hb:(k:Int)<x.rows.length
 ·obtain⟨r,hr⟩:=get_of_lt (l:=x.rows) (i:=k) (by omega);have hne:=aK hr;have w1:=Rw ((k:Int)+1) (by omega);simp only[go_sem,h8,hb,hr,hne];refine hY k [aa k,ab r] H' _ (QC hr) hj hn (fun H2 hj2 hn2=>⟨trivial,?_⟩) (fun H2 hs2 hn2=>⟨trivial,?_⟩)
  ·simp only[go_sem,h8,w1];exact⟨by omega,⟨k+1,by simp,by omega,hj2,by omega⟩,by omega⟩
  ·simp only[go_sem];exact av.mk (by omega) (hSt H2 hs2 (by omega))
 ·simp only[go_sem,h8,hb];have ek:k=(mm x.rows).length:=by rw[DI];omega
  subst ek;exact av.mk (by omega) (hK H' hj hn)
theorem QE (x:NodeP)(H:AHeap)(K:ARes->AHeap->Prop)(hK:K (.ret (.clo 112 [] [.ptr H.next 0 0])) (ext H [.arr 0 69 [.lit (.int .i64 x.card),.vec x.parents.length (ints x.parents),aH x.rows]])):
  ae Try.prog G0 106 [ry x] H K:=by
 refine ae.bH (n:=4) (rs:=[.tmp 2]) Try.func106 rfl rfl rfl (by decide) (by kernel_rfl) (by simp) ?_;simp only[go_sem,ry];exact av.mk (by simp [cJ]) hK
theorem yy {l:List Int}{g:Int}(h:∀ w∈l,0<=w):0<=l.sum:=by
 induction l with
 | nil=>simp
 | cons a l ih =>
  have h1:=ih fun w hw=>h w (by simp [hw]);have h2:=h a (by simp);simp only[RZ];omega
theorem pz {l:List Int}(h:∀ w∈l,0<=w):∀ w∈l,w<=l.sum:=by
 induction l with
 | nil=>intro w hw;cases hw
 | cons a l ih =>
  intro w hw;have h1:=yy (g:=0) fun w hw=>h w (SE a hw);have h2:=h a (by simp);simp only[RZ];rcases List.mem_cons.1 hw with rfl|hw
  ·omega
  ·have:=ih (fun w hw=>h w (by simp [hw])) w hw;omega
noncomputable def kn (g:Int)(ns:List NodeP)(x:NodeP):Bool:=@decide (jc g ns x) (Classical.propDecidable _)
theorem DJ {g:Int}{ns:List NodeP}{x:NodeP}(h:jc g ns x):kn g ns x=true:=by unfold kn;exact @decide_eq_true _ (Classical.propDecidable _) h
theorem QG {g:Int}{ns:List NodeP}{x:NodeP}(h:¬ jc g ns x):kn g ns x=false:=by unfold kn;exact @decide_eq_false _ (Classical.propDecidable _) h
theorem QH {g:Int}{ns:List NodeP}{x:NodeP}:kn g ns x=true↔jc g ns x:=by unfold kn;exact @decide_eq_true_iff _ (Classical.propDecidable _)
set_option maxHeartbeats 2000000 in
theorem QI (g:Int)(hg:1<=g/\g<=60)(ns:List NodeP)(sets:List Nat)(x:NodeP)(hin:iE x.parents ns.length)(hsm:ew (aN ns x))(hx1:(x.rows.length:Int)<2 ^ 38)(hx2:∀ r∈x.rows,(r.length:Int)<2 ^ 38)(H:AHeap)(K:ARes->AHeap->Prop)
  (hK:K (.ret (.lit (.bool (kn g ns x)))) H):ae Try.prog G0 94 [.agg [.lit (.int .i64 g),de ns,ab (ah ns),cP sets,.lit (.slice none 0 0)],ry x] H K:=by
 refine ae.clo ⟨_,Try.func94,rfl,rfl⟩ fun hcl=>?_;have l12:=hsm.1;have pl:(aN ns x).length=x.parents.length:=dQ _ _;have no:¬ jc g ns x->∀ H',Over H H'->av Try.prog G0 H K (.lit (.bool false)) H':=fun h H' ov=>av.cK aZ hcl ov (.lit _) (by rw[QG h]at hK;exact hK);refine ae.bH (n:=66) (rs:=[.cell 4 4]) Try.func94 rfl rfl rfl (by decide) (by kernel_rfl) (by simp) ?_;simp only[go_sem,de,ry];obtain⟨H1,hH1⟩:∃ H1,H1=ext H [.arr 0 145 [.lit (.int .i64 g),.vec ns.length (ar ns),.vec (ah ns).length (ints (ah ns)),.vec sets.length (sets.map cL),.lit (.slice none 0 0)],.arr 0 69 [.lit (.int .i64 x.card),.vec x.parents.length (ints x.parents),aH x.rows],.arr 0 4 [.lit (.bool false)]]:=⟨_,rfl⟩
 have l1:H1.live H.next 0=some (145,[.lit (.int .i64 g),.vec ns.length (ar ns),.vec (ah ns).length (ints (ah ns)),.vec sets.length (sets.map cL),.lit (.slice none 0 0)]):=by rw[hH1];exact ao (dV ..)
 have l2:H1.live (H.next+1) 0=some (69,[.lit (.int .i64 x.card),.vec x.parents.length (ints x.parents),aH x.rows]):=by rw[hH1];exact ao (bk H _ 1 (by simp))
 have g3:H1.get (H.next+2)=some (.arr 0 4 [.lit (.bool false)]):=by rw[hH1];exact bk H _ 2 (by simp)
 have n1:H1.next=H.next+3:=by rw[hH1];rfl
 have o1:Over H H1:=by rw[hH1];exact .ext _ _
 rw[<- hH1];refine W.aI 268370080 (by rfl) (fun ρ H'=>H'=H1/\∃ k:Nat,ρ 16=aa k/\k<=x.parents.length/\ρ 5=aa (aw ((aN ns x).take k))) (fun ρ H=>x.parents.length - (iv (ρ 16)).toNat) ?_ ?_
 ·simp only[go_sem];exact⟨0,rfl,by omega,by simp [gZ]⟩
 rintro ρ H' ⟨rfl,k,h16,hk,h5⟩;refine W.vs ?_;by_cases hb:(k:Int)<x.parents.length
 ·obtain⟨q,hq⟩:=get_of_lt (l:=x.parents) (i:=k) (by omega);obtain⟨j,rfl,y,hy⟩:=jG (l:=ns) (hin q (Ry hq)).1 (hin q (Ry hq)).2;have hne2:=aK hq;have hyc:=bX hy;have hne3:=aK hyc;have hj:(j:Int)<(ah ns).length:=by have:=get_lt hyc;omega
  have pk:(aN ns x)[k]?=some y.card:=by
   rw[show (aN ns x)[k]?=_ from km hq,Int.toNat_natCast,aO hyc]
  have b1:=(hsm.take (k+1)).prod;rw[aP pk,iZ]at b1;have w1:=Rw ((k:Int)+1) (by omega);have w2:=Rw (aw ((aN ns x).take k)*y.card) (by omega);simp only[go_sem,h16,h5,l1,hb,hq,hne2,hj,hyc,hne3,w1,w2];exact⟨⟨k+1,by simp,by omega,by rw[aP pk,iZ]⟩,by omega⟩
 rw[RA (by omega)]at h5;by_cases c1:(x.rows.length:Int)=aw (aN ns x);rotate_left
 ·simp only[go_sem,h16,h5,l2,hb,c1,aH];have l3:=ao g3;simp only[go_sem,l3];exact no (fun h=>c1 h.1) _ (o1.upd (by omega) _)
 simp only[go_sem,h16,h5,l2,hb,c1,aH];refine az.clo (QE x _ _ ⟨trivial,?_⟩);simp only[go_sem];obtain⟨H2,hH2⟩:∃ H2,H2=ext H' [.arr 0 69 [.lit (.int .i64 x.card),.vec x.parents.length (ints x.parents),aH x.rows]]:=⟨_,rfl⟩
 rw[<- hH2];have o2:Over H' H2:=by rw[hH2];exact .ext _ _
 have n2:H2.next=H.next+4:=by rw[hH2,cJ,n1];rfl
 have hbx:H2.get H'.next=some (.arr 0 69 [.lit (.int .i64 x.card),.vec x.parents.length (ints x.parents),aH x.rows]):=by rw[hH2];exact cq
 refine W.env fun E hE=>?_;have e2:E 2=.ptr H.next 0 0:=by rw[hE];simp only[go_sem]
 have e3:E 3=.ptr (H.next+1) 0 0:=by rw[hE];simp only[go_sem]
 have e4:E 4=.ptr (H.next+2) 0 0:=by rw[hE];simp only[go_sem]
 have i1:H2.live H.next 0=some (145,[.lit (.int .i64 g),.vec ns.length (ar ns),.vec (ah ns).length (ints (ah ns)),.vec sets.length (sets.map cL),.lit (.slice none 0 0)]):=(o2.live (by omega)).trans l1;have i2:H2.live (H.next+1) 0=some (69,[.lit (.int .i64 x.card),.vec x.parents.length (ints x.parents),aH x.rows]):=(o2.live (by omega)).trans l2;have i3:H2.get (H.next+2)=some (.arr 0 4 [.lit (.bool false)]):=(o2.old _ (by omega)).trans g3;refine W.Q6 (f:=112) (first:=[]) (cap:=[.ptr H'.next 0 0]) (by show E 34=_;rw[hE];rfl) (QD x (by omega) H'.next)
  (fun k Hx=>Over H2 Hx/\∀ r∈x.rows.take k,kP g x.card r) (fun c Hx=>c=.ret/\Over H Hx/\H.next+4<=Hx.next/\Hx.get (H.next+2)=some (.arr 0 4 [.lit (.bool false)])/\¬ jc g ns x)
  (fun k Hx h=>by rw[h.1.old _ (by omega)];exact hbx) (fun k Hx b h=>⟨h.1.upd (Nat.le_refl _) b,h.2⟩) (fun c Hx b h=>⟨h.1,h.2.1.upd (by omega) b,h.2.2.1,by rw[aj,RB (by omega)];exact h.2.2.2.1,h.2.2.2.2⟩)
  (fun b=>⟨.ext _ _,by simp⟩) (by decide) (fun y hy=>by
   obtain⟨k,hk⟩:=RW.1 hy;obtain⟨r,_,rfl⟩:=DH hk;rfl) (fun _ _ _=>trivial) (fun _ _ _=>trivial) (fun k y Hx B Bb hy hj hn hB hBb=>?_) (fun Hx hj hn=>?_) (fun Hx hs hn=>?_) (fun i Hx hs hn=>by cases hs.1)
 ·obtain⟨r,hr,rfl⟩:=DH hy;refine W.vs ?_;simp only[go_sem,jq,cY,nD,SK,UC,TG,Uj,hB];obtain⟨H3,hH3⟩:∃ H3,H3=Hx.upd H2.next Bb:=⟨_,rfl⟩
  rw[<- hH3];obtain⟨st,pd,n',en,ps',as',bo,hBe⟩:=hBb;have o3:Over H2 H3:=by rw[hH3];exact hj.1.upd (Nat.le_refl _) Bb
  have o4:Over H H3:=(o1.trans o2).trans o3;have n3:H3.next=Hx.next:=by rw[hH3];rfl
  have j1:=(o3.live (g:=0) (by omega:H.next<H2.next)).trans i1;have j2:=(o3.live (g:=0) (by omega:H.next+1<H2.next)).trans i2;have j3:=(o3.old _ (by omega:H.next+2<H2.next)).trans i3;have j4:=ao j3;have jB:H3.get H2.next=some Bb:=by rw[hH3,aj,RC rfl]
  have nB:¬ H2.next=H.next+2:=by omega
  have hrm:=Ry hr;have hrl:=hx2 r hrm;have nope:¬ kP g x.card r->¬ jc g ns x:=fun h h'=>h (h'.2 r hrm);have stop:¬ kP g x.card r->(H3.upd (H.next+2) (Blk.arr 0 4 [.lit (.bool false)])).get H2.next=some Bb/\Hx.next<=(H3.upd (H.next+2) (Blk.arr 0 4 [.lit (.bool false)])).next/\Over H (H3.upd (H.next+2) (Blk.arr 0 4 [.lit (.bool false)])) /\
    H.next+4<=(H3.upd (H.next+2) (Blk.arr 0 4 [.lit (.bool false)])).next/\(H3.upd (H.next+2) (Blk.arr 0 4 [.lit (.bool false)])).get (H.next+2)=some (.arr 0 4 [.lit (.bool false)])/\¬ jc g ns x:=fun h =>
   ⟨by rw[aj,RB nB];exact jB,by rw[aL];omega,o4.upd (by omega) _,by rw[aL];omega,by rw[aj,RC rfl],nope h⟩
  refine W.vs ?_;simp only[go_sem,cY,e2,j1];refine W.aI 144110790029349888 (by rfl) (fun ρ2 H4=>H4=H3/\∃ i:Nat,ρ2 42=aa i/\i<=r.length/\(∀ w∈r.take i,0<=w)/\(r.take i).sum<=g/\ρ2 10=aa (g - (r.take i).sum)) (fun ρ2 H=>r.length - (iv (ρ2 42)).toNat) ?_ ?_
  ·simp only[go_sem];exact⟨0,rfl,by omega,by simp,by simp;omega,by simp⟩
  rintro ρ2 H4 ⟨rfl,i,h42,hi,hw0,hws,h10⟩;refine W.vs ?_;have s0:=yy (g:=g) hw0;by_cases hb2:(i:Int)<r.length
  ·obtain⟨a,ha⟩:=get_of_lt (l:=r) (i:=i) (by omega);have ham:=Ry ha;have hane:=aK ha;by_cases d1:a<0
   ·simp only[go_sem,h42,hb2,ha,hane,d1,cY,e4,j4,kQ];exact stop fun h=>by have:=h.2.1 a ham;omega
   by_cases d2:a > g - (r.take i).sum
   ·simp only[go_sem,h42,h10,hb2,ha,hane,d1,d2,cY,e4,j4,kQ];refine stop fun h=>?_;have h1:r.sum=(r.take (i+1)).sum+(r.drop (i+1)).sum:=(by rw[<- TX,Sc]);rw[aP ha,yx]at h1;have h2:=yy (g:=g) (l:=r.drop (i+1)) fun w hw=>(h.2.1 w (SR hw)).1;have:=h.2.2;omega
   have w1:=Rw ((i:Int)+1) (by omega);have w2:=Rw (g - (r.take i).sum - a) (by omega);simp only[go_sem,h42,h10,hb2,ha,hane,d1,d2,w1,w2,cY];refine⟨⟨_,_,_,_,_,_,_,by rw[jB,hBe]⟩,⟨i+1,by simp,by omega,fun w hw=>?_,by rw[aP ha,yx];omega,?_⟩,by omega⟩
   ·rw[aP ha]at hw;rcases RX.1 hw with hw|hw
    ·exact hw0 w hw
    ·obtain rfl:=List.mem_singleton.1 hw;omega
   ·rw[aP ha,yx];show aa _=aa _;congr 1;omega
  ·rw[RA (by omega)]at hw0 hws h10 s0;by_cases d1:(r.length:Int)=x.card;rotate_left
   ·simp only[go_sem,h42,hb2,d1,cY,e3,e4,j2,j4,kQ];exact stop fun h=>d1 h.1
   have hb2':¬ (i:Int)<x.card:=(by omega);by_cases d2:g - r.sum=0;rotate_left
   ·simp only[go_sem,h42,h10,hb2',d1,d2,cY,e3,e4,j2,j4,kQ];exact stop fun h=>by have:=h.2.2;omega
   simp only[go_sem,h42,h10,hb2',d1,d2,cY,e3,j2,kQ];refine⟨jB,by omega,o3,fun y hy=>?_⟩;rw[aP hr]at hy;rcases RX.1 hy with hy|hy
   ·exact hj.2 y hy
   ·obtain rfl:=List.mem_singleton.1 hy;exact⟨d1,fun w hw=>⟨hw0 w hw,by have:=pz hw0 w hw;omega⟩,by omega⟩
 ·have hok:jc g ns x:=⟨c1,by
   have:=hj.2;rw[DI,TD]at this;exact this⟩
  have j4:=ao ((hj.1.old _ (by omega:H.next+2<H2.next)).trans i3);rw[DJ hok]at hK;simp only[go_sem,e4,j4];exact av.cK aZ hcl (((o1.trans o2).trans hj.1).upd (by omega) _) (.lit _) hK
 ·obtain⟨_,o4,n4,g4,hno⟩:=hs;have j4:=ao g4;simp only[go_sem,e4,j4];exact no hno _ o4
end Go.Proofs
namespace Go.Hx
theorem aB.pA {lo:Nat}{H:AHeap}{e:TypeId}{v:AVal}{l:List Int}(h:aB lo H e v (ints l)):Fresh H v (ab l):=by
 rcases h with ⟨rfl,h⟩|⟨id,g,h1,h2,rfl,h4⟩
 ·have:l=[]:=by cases l with
   | nil=>rfl
   | cons a l=>simp [ints]at h
  subst this;exact .nil
 ·have e:ab l=.vec (ints l).length (ints l):=by rw[bO];rfl
  rw[e];refine .own h4 (by simp) fun j hj h2 h'=>?_;simp only[Nat.zero_add,ints,RQ];exact .lit _
theorem Fz.rA {H:AHeap}{id g n nx:Nat}{e:TypeId}{cs:List AVal}(hg:H.get id=some (.arr g e cs))(hn:n=cs.length)(hl:∀ c∈cs,∃ v,c=.lit v):Fz (fun _=>True) H nx (.own id g 0 n 1) (.vec n cs):=by
 refine .frz trivial hg (by omega) fun j hj h2 h'=>?_;simp only[Nat.zero_add];obtain⟨v,hv⟩:=hl _ (Sv h');rw[hv];exact .lit _
end Go.Hx
namespace Go.Proofs
open Go.Hx
def fE (l:List Nat):List Int:=l.map fun (v:Nat)=>(v:Int)
theorem QJ {n j:Nat}{p:Nat->Bool}(hj:j<n)(h1:∀ v,v<j->p v=false)(h2:p j=true):(List.range n).find? p=some j:=by
 rw[List.find?_eq_some_iff_getElem];refine⟨h2,j,by simpa using hj,by simp,fun k hk=>?_⟩;simp only[List.getElem_range];simp [h1 k hk]
theorem QK {n:Nat}{p:Nat->Bool}(h1:∀ v,v<n->p v=false):(List.range n).find? p=none:=by
 rw[List.find?_eq_none];intro x hx;simp [h1 x (RK.1 hx)]
set_option maxHeartbeats 1000000 in
theorem QL (ps:List Nat)(hl:ps.length<=60)(hp:∀ p∈ps,p<2 ^ 64)(H:AHeap)(K:ARes->AHeap->Prop)
  (hK:∀ v H',Over H H'->(match eI ps with|some o=>aB H.next H' 3 v (ints (fE o))|none=>v=.lit (.slice none 0 0))->K (.ret (.tup [v,.lit (.bool (eI ps).isSome)])) H'):ae Try.prog G0 95 [cP ps] H K:=by
 have no:∀ H',eI ps=none->Over H H'->av Try.prog G0 H K (.tup [.lit (.slice none 0 0),.lit (.bool false)]) H':=fun H' h ov=>av.mk ov.next (by
  have:=hK (.lit (.slice none 0 0)) H' ov;rw[h]at this;exact this rfl)
 refine ae.bH (n:=44) (rs:=[.tmp 2,.tmp 3]) Try.func95 rfl rfl rfl (by decide) (by kernel_rfl) (by simp) ?_;simp only[go_sem];refine⟨by omega,?_⟩;refine W.aI 8796093020412 (by rfl) (fun ρ H'=>∃ (out:List Nat) (done:Nat),ρ 5=cL done/\done<2 ^ 64/\out.length<=ps.length/\H.next+1<=H'.next/\Over H H'/\aB H.next H' 3 (ρ 4) (ints (fE out))/\(∃ id g,ρ 4=.own id g 0 out.length 1)/\ja ps (ps.length - out.length) out done=eI ps)
  (fun ρ H=>ps.length - (match ρ 4 with|.own _ _ _ n _=>n|_=>0)) ?_ ?_
 ·simp only[go_sem];exact⟨[],0,by simp,by decide,Ud _,.ext _ _,.inr ⟨H.next,0,Nat.le_refl _,by simp [cJ],rfl,dV H _ []⟩,⟨_,_,rfl⟩,rfl⟩
 rintro ρ H' ⟨out,done,h5,hd,ho,hn0,ov,h4,⟨id,gn,h4e⟩,ht⟩;refine W.vs ?_;have lv:H'.live id gn=some (3,ints (fE out)):=by
  rcases h4 with ⟨h,_⟩|⟨i,g,h1,h2,h3,h4⟩
  ·rw[h4e]at h;cases h
  ·rw[h4e]at h3;have:=AVal.own.inj h3;obtain⟨rfl,rfl,_⟩:=this;exact ao h4
 by_cases hb:(out.length:Int)<ps.length
 ·simp only[go_sem,h4e,lv,hb];have hk1:ps.length - out.length=(ps.length - (out.length+1))+1:=by omega
  refine W.aI 8796092760304 (by rfl) (fun ρ2 H2=>H2=H'/\∃ j:Nat,ρ2 18=aa j/\j<=ps.length/\ρ2 4=.own id gn 0 out.length 1/\ρ2 5=cL done/\∀ v,v<j->me ps done v=false) (fun ρ2 H=>ps.length - (iv (ρ2 18)).toNat) ?_ ?_
  ·simp only[go_sem,h4e,h5];exact⟨0,rfl,by omega,fun v h=>absurd h (RV _)⟩
  rintro ρ2 H2 ⟨rfl,j,h18,hj,h4',h5',hno⟩;refine W.vs ?_;by_cases hb2:(j:Int)<ps.length
  ·obtain⟨p,hpj⟩:=get_of_lt (l:=ps) (i:=j) (by omega);have hp1:=hp p (Ry hpj);have hne:=aK hpj;have s1:=fun t x y=>yB (P:=Try.prog) (t:=t) (x:=x) (y:=y) (k':=.i64) (s:=j) hd;have s2:=fun t x y=>DM (P:=Try.prog) (t:=t) (x:=x) (y:=y) (s:=j) hd;have s3:=fun t x y=>DL (P:=Try.prog) (t:=t) (x:=x) (y:=y) (a:=p) (b:=done);have w1:=Rw ((j:Int)+1) (by omega);have cont:me ps done j=false->∀ v,v<j+1->me ps done v=false:=fun h v hv=>by
    rcases RP v j with h'|h'
    ·exact hno v h'
    ·obtain rfl:v=j:=(by omega);exact h
   have fe:me ps done j=(!done.testBit j && decide (iG p done=0)):=(by unfold me;rw[aO hpj]);cases hbit:done.testBit j;rotate_left
   ·simp only[go_sem,h18,h4',h5',hb2,hpj,hne,s1,s2,hbit,w1];exact⟨⟨j+1,by simp,by omega,cont (by rw[fe,hbit];rfl)⟩,by omega⟩
   by_cases hz:iG p done=0;rotate_left
   ·have hz':¬ ((iG p done:Nat):Int)=0:=(by omega);simp only[go_sem,h18,h4',h5',hb2,hpj,hne,s1,s2,s3,hbit,hz',w1];exact⟨⟨j+1,by simp,by omega,cont (by rw[fe,hbit];simp [hz])⟩,by omega⟩
   have hz':((iG p done:Nat):Int)=0:=(by omega);have hnx:kj ps done=some j:=QJ (by omega) hno (by rw[fe,hbit];simp [hz]);obtain⟨v',H3,hA,ov2,hO,hn2,_⟩:=mo (j:Int) ov h4 (by simp [fE];omega);rw[h4e]at hA;have b2:(2:Nat) ^ j<2 ^ 64:=TN (by decide) (by omega);have s4:=fun t x y=>rE (P:=Try.prog) (t:=t) (x:=x) (y:=y) (k':=.i64) (s:=j) (by omega);have s5:=fun t x y=>uK (P:=Try.prog) (t:=t) (x:=x) (y:=y) hd b2;simp only[go_sem,h18,h4',h5',hb2,hpj,hne,s1,s2,s3,s4,s5,hbit,hz',hA];have hO':aB H.next H3 3 v' (ints (fE (out++[j]))):=by
    have e:fE (out++[j])=fE out++[(j:Int)]:=(by simp [fE]);rw[e];exact hO
   have hv':∃ id g,v'=.own id g 0 (out.length+1) 1:=by
    rcases hO' with ⟨_,h⟩|⟨i,g,_,_,h3,_⟩
    ·simp [ints,fE]at h
    ·exact⟨i,g,by rw[h3,bO];simp [fE]⟩
   obtain⟨i2,g2,rfl⟩:=hv';refine⟨by omega,⟨out++[j],done ||| 2 ^ j,rfl,Nat.or_lt_two_pow hd b2,by simp;omega,by omega,ov2,hO',⟨i2,g2,by simp⟩,?_⟩,by simp only;omega⟩;rw[<- ht,hk1]
   conv=>rhs;unfold ja
   rw[hnx];simp
  ·simp only[go_sem,h18,hb2];refine no _ ?_ ov;rw[<- ht,hk1];unfold ja;have:kj ps done=none:=QK fun v hv=>hno v (by omega);rw[this]
 ·simp only[go_sem,h4e,lv,hb];have hz:ps.length - out.length=0:=by omega
  rw[hz]at ht;have ht':eI ps=some out:=ht.symm;have:=hK (.own id gn 0 out.length 1) H' ov;rw[ht']at this;refine av.mk ov.next (this ?_);rw[h4e]at h4;exact h4
theorem QM (ps:List Nat)(hl:ps.length<=60)(hp:∀ p∈ps,p<2 ^ 64)(H:AHeap)(v:AVal)(hv:Fz (fun _=>True) H 0 v (cP ps))(K:ARes->AHeap->Prop)
  (hK:K (.ret (.tup [ab (fE ((eI ps).getD [])),.lit (.bool (eI ps).isSome)])) H):ae Try.prog G0 95 [v] H K:=by
 refine(ae.frame (H:=H) (args:=[v]) (args':=[cP ps]) (v':=.tup [ab (fE ((eI ps).getD [])),.lit (.bool (eI ps).isSome)]) aZ rfl (fun i hi _=>match i,hi with|0,_=>hv) (QL ps hl hp bU _ fun u H' ov hu=>⟨_,rfl,?_⟩)).mono ?_
 ·refine .tup rfl fun i hi _=>?_
  match i,hi with
  | 0,_ =>
   show Fresh H' u _;cases ht:eI ps with
   | none=>rw[ht]at hu;simp only at hu;rw[hu];show Fresh H' _ (ab []);exact .nil
   | some o=>rw[ht]at hu;exact aB.pA hu
  | 1,_=>exact .lit _
 ·rintro r H' ⟨rfl,rfl⟩;exact hK
def yz:AVal:=.agg [.lit (.int .i64 0),ab [],ab [],ab [],ab []]
def yA (g:Int)(ns:List NodeP):AVal:=.agg [.lit (.int .i64 g),de ns,ab (ah ns),cP (aT ns),ab (fE ((eI (aT ns)).getD []))]
structure RdS (g:Int)(ns:List NodeP)(H H':AHeap)(c:List Int)(s:List Nat):Prop where
 nx:H.next+5<=H'.next
 ov:Over H H'
 b0:H'.get H.next=some (.arr 0 35 [.lit (.int .i64 g),.vec ns.length (ar ns)])
 b1:H'.get (H.next+1)=some (.arr 0 145 [.lit (.int .i64 0),.lit (.slice none 0 0),.lit (.slice none 0 0),.lit (.slice none 0 0),.lit (.slice none 0 0)])
 b2:H'.get (H.next+2)=some (.arr 0 3 (ints c))
 b3:H'.get (H.next+3)=some (.arr 0 45 (s.map cL))
 b4:H'.get (H.next+4)=some (.arr 0 145 [.lit (.int .i64 g),.vec ns.length (ar ns),.own (H.next+2) 0 0 ns.length 1,.own (H.next+3) 0 0 ns.length 1,.lit (.slice none 0 0)])
 cl:c.length=ns.length
 sl:s.length=ns.length
theorem RdS.over {g:Int}{ns:List NodeP}{H H' H2:AHeap}{c:List Int}{s:List Nat}(h:RdS g ns H H' c s)(o:Over H' H2):RdS g ns H H2 c s where
 nx:=So h.nx o.next
 ov:=h.ov.trans o
 b0:=(o.old _ (by have:=h.nx;omega)).trans h.b0
 b1:=(o.old _ (by have:=h.nx;omega)).trans h.b1
 b2:=(o.old _ (by have:=h.nx;omega)).trans h.b2
 b3:=(o.old _ (by have:=h.nx;omega)).trans h.b3
 b4:=(o.old _ (by have:=h.nx;omega)).trans h.b4
 cl:=h.cl
 sl:=h.sl
theorem RdS.QN {g:Int}{ns:List NodeP}{H H':AHeap}{c:List Int}{s:List Nat}(h:RdS g ns H H' c s){k:Nat}(hk:k<c.length)(x:Int):RdS g ns H (H'.upd (H.next+2) (.arr 0 3 (setAt (ints c) k [.lit (.int .i64 x)]))) (c.set k x) s where
 nx:=h.nx
 ov:=h.ov.upd (by omega) _
 b0:=by rw[aj,RB (by omega)];exact h.b0
 b1:=by rw[aj,RB (by omega)];exact h.b1
 b2:=by rw[aj,RC rfl,fa hk]
 b3:=by rw[aj,RB (by omega)];exact h.b3
 b4:=by rw[aj,RB (by omega)];exact h.b4
 cl:=by simpa using h.cl
 sl:=h.sl
theorem QO {l:List Nat}{i:Nat}{x:Nat}(h:i<l.length):setAt (l.map cL) i [.lit (.int .u64 (x:Int))]=(l.set i x).map cL:=by
 rw[rC (by simpa using h)];simp [cL]
theorem RdS.QP {g:Int}{ns:List NodeP}{H H':AHeap}{c:List Int}{s:List Nat}(h:RdS g ns H H' c s){k:Nat}(hk:k<s.length)(x:Nat):RdS g ns H (H'.upd (H.next+3) (.arr 0 45 (setAt (s.map cL) k [.lit (.int .u64 (x:Int))]))) c (s.set k x) where
 nx:=h.nx
 ov:=h.ov.upd (by omega) _
 b0:=by rw[aj,RB (by omega)];exact h.b0
 b1:=by rw[aj,RB (by omega)];exact h.b1
 b2:=by rw[aj,RB (by omega)];exact h.b2
 b3:=by rw[aj,RC rfl,QO hk]
 b4:=by rw[aj,RB (by omega)];exact h.b4
 cl:=h.cl
 sl:=by simpa using h.sl
theorem RdS.l0 {g:Int}{ns:List NodeP}{H H':AHeap}{c:List Int}{s:List Nat}(h:RdS g ns H H' c s):H'.live H.next 0=some (35,[.lit (.int .i64 g),.vec ns.length (ar ns)]):=ao h.b0
theorem RdS.l1 {g:Int}{ns:List NodeP}{H H':AHeap}{c:List Int}{s:List Nat}(h:RdS g ns H H' c s):H'.live (H.next+1) 0=some (145,[.lit (.int .i64 0),.lit (.slice none 0 0),.lit (.slice none 0 0),.lit (.slice none 0 0),.lit (.slice none 0 0)]):=ao h.b1
theorem RdS.l2 {g:Int}{ns:List NodeP}{H H':AHeap}{c:List Int}{s:List Nat}(h:RdS g ns H H' c s):H'.live (H.next+2) 0=some (3,ints c):=ao h.b2
theorem RdS.l3 {g:Int}{ns:List NodeP}{H H':AHeap}{c:List Int}{s:List Nat}(h:RdS g ns H H' c s):H'.live (H.next+3) 0=some (45,s.map cL):=ao h.b3
theorem RdS.l4 {g:Int}{ns:List NodeP}{H H':AHeap}{c:List Int}{s:List Nat}(h:RdS g ns H H' c s):H'.live (H.next+4) 0=some (145,[.lit (.int .i64 g),.vec ns.length (ar ns),.own (H.next+2) 0 0 ns.length 1,.own (H.next+3) 0 0 ns.length 1,.lit (.slice none 0 0)]):=ao h.b4
theorem rB {S:Nat->Prop}{H:AHeap}{nx:Nat}(ns:List NodeP):Fz S H nx (.vec ns.length (ar ns)) (.vec ns.length (ar ns)):=by
 refine .vec rfl fun i hi _=>?_;have:∀ (l:List NodeP) (c:AVal),c∈ar l->Fz S H nx c c:=by
  intro l c hc;unfold ar at hc;obtain⟨r,hr,hc⟩:=TS.1 hc;obtain⟨x,_,rfl⟩:=RI.1 hr;unfold NodeP.cells at hc;simp only[List.mem_cons,List.not_mem_nil,or_false]at hc;rcases hc with rfl|rfl|rfl
  ·exact .lit _
  ·exact .dT _
  ·exact .aH _
 exact this ns _ (Sv _)
theorem QQ (g:Int)(hg:1<=g/\g<=60)(ns:List NodeP)(sets:List Nat)(x:NodeP)(hin:iE x.parents ns.length)(hsm:ew (aN ns x))(hx1:(x.rows.length:Int)<2 ^ 38)(hx2:∀ r∈x.rows,(r.length:Int)<2 ^ 38)(H:AHeap)(ci si:Nat)
  (h2:H.get ci=some (.arr 0 3 (ints (ah ns)))) (h3:H.get si=some (.arr 0 45 (sets.map cL))) (hs:sets.length=ns.length) (K:ARes->AHeap->Prop)
  (hK:K (.ret (.lit (.bool (kn g ns x)))) H):ae Try.prog G0 94 [.agg [.lit (.int .i64 g),.vec ns.length (ar ns),.own ci 0 0 ns.length 1,.own si 0 0 ns.length 1,.lit (.slice none 0 0)],.agg [.lit (.int .i64 x.card),.vec x.parents.length (ints x.parents),aH x.rows]] H K:=by
 refine(ae.frame (H:=H) (args:=[.agg [.lit (.int .i64 g),.vec ns.length (ar ns),.own ci 0 0 ns.length 1,.own si 0 0 ns.length 1,.lit (.slice none 0 0)],.agg [.lit (.int .i64 x.card),.vec x.parents.length (ints x.parents),aH x.rows]]) (args':=[.agg [.lit (.int .i64 g),de ns,ab (ah ns),cP sets,.lit (.slice none 0 0)],ry x]) (v':=.lit (.bool (kn g ns x))) aZ rfl (fun i hi _=>?_) (QI g hg ns sets x hin hsm hx1 hx2 bU _ ⟨_,rfl,.lit _⟩)).mono ?_
 ·match i,hi with
  | 0,_ =>
   refine .agg rfl fun i hi _=>?_
   match i,hi with
   | 0,_=>exact .lit _
   | 1,_=>exact rB _
   | 2,_ =>
    have:=Fz.rA (nx:=0) h2 (n:=ns.length) (by rw[bO,bA]) (fun c hc=>by
     obtain⟨z,_,rfl⟩:=RI.1 hc;exact⟨_,rfl⟩)
    show Fz _ _ _ _ (.vec (ah ns).length (ints (ah ns)));rw[bA];exact this
   | 3,_ =>
    have:=Fz.rA (nx:=0) h3 (n:=ns.length) (by simp [hs]) (fun c hc=>by
     obtain⟨z,_,rfl⟩:=RI.1 hc;exact⟨_,rfl⟩)
    show Fz _ _ _ _ (.vec sets.length (sets.map cL));rw[hs];exact this
   | 4,_=>exact .lit _
  | 1,_ =>
   refine .agg rfl fun i hi _=>?_
   match i,hi with
   | 0,_=>exact .lit _
   | 1,_=>exact .dT _
   | 2,_=>exact .aH _
 ·rintro r H' ⟨rfl,rfl⟩;exact hK
theorem QR {ns:List NodeP}{k:Nat}{x:NodeP}(hx:ns[k]?=some x)(h0:∀ q∈x.parents,0<=q)(hm:(k:Int)∈x.parents):¬ kK (aT ns):=fun h=>by
 have hk:=get_lt (mi hx);have:=h k hk;rw[aO (mi hx)]at this;have h1:=uo (aT ns) (aT ns).length (df x.parents) k (by rw[kh h0];exact RN hm);unfold g9 at this;rw[h1]at this;cases this
set_option maxHeartbeats 4000000 in
theorem QS (g:Int)(ns:List NodeP)(hf:jd ns)(H:AHeap)(K:ARes->AHeap->Prop)(hK:K (.ret (if iF g ns then .tup [yA g ns,aa 0] else .tup [yz,aa 50])) H):ae Try.prog G0 86 [bP g ns] H K:=by
 refine ae.clo ⟨_,Try.func86,rfl,rfl⟩ fun hcl=>?_;have no:¬ NetOk g ns->∀ H',Over H H'->av Try.prog G0 H K (.tup [.agg [.lit (.int .i64 0),.lit (.slice none 0 0),.lit (.slice none 0 0),.lit (.slice none 0 0),.lit (.slice none 0 0)],.lit (.int .i64 50)]) H':=fun h H' ov=>by
  rw[QB h]at hK;refine av.cK (v':=.tup [yz,aa 50]) aZ hcl ov (.tup rfl fun i hi _=>?_) hK
  match i,hi with
  | 0,_ =>
   refine .agg rfl fun i hi _=>?_
   match i,hi with
   | 0,_=>exact .lit _
   | 1,_=>exact .nil
   | 2,_=>exact .nil
   | 3,_=>exact .nil
   | 4,_=>exact .nil
  | 1,_=>exact .lit _
 refine ae.bH (n:=140) (rs:=[.cell 2 145,.tmp 3]) Try.func86 rfl rfl rfl (by decide) (by kernel_rfl) (by simp) ?_;simp only[go_sem,bP,de];have l1:=ao (dV H (.arr 0 35 [.lit (.int .i64 g),.vec ns.length (ar ns)]) [.arr 0 145 [.lit (.int .i64 0),.lit (.slice none 0 0),.lit (.slice none 0 0),.lit (.slice none 0 0),.lit (.slice none 0 0)]]);by_cases c1:g<1
 ·simp only[go_sem,c1];exact no (fun h=>by have:=h.g1;omega) _ (.ext _ _)
 by_cases c2:g > 60
 ·simp only[go_sem,l1,c1,c2];exact no (fun h=>by have:=h.g1;omega) _ (.ext _ _)
 by_cases c3:(ns.length:Int)<1
 ·simp only[go_sem,l1,c1,c2,c3];exact no (fun h=>by have:=h.n1;omega) _ (.ext _ _)
 by_cases c4:(ns.length:Int) > 8
 ·simp only[go_sem,l1,c1,c2,c3,c4];exact no (fun h=>by have:=h.n1;omega) _ (.ext _ _)
 simp only[go_sem,l1,c1,c2,c3,c4];refine W.draw 11 [0,0,2,6,14,0,32,96,224,511,0] Try.mixed (by kernel_rfl) (by kernel_rfl) ?_;simp only[go_sem,l1]
 repeat (refine And.intro (by first|omega|(simp;done)|(simp;omega)|(intros;omega)|exact⟨rfl,by omega,by omega,Ai _⟩) ?_)
 obtain⟨Hb,hHb⟩:∃ Hb,Hb=ext (ext H [.arr 0 35 [.lit (.int .i64 g),.vec ns.length (ar ns)],.arr 0 145 [.lit (.int .i64 0),.lit (.slice none 0 0),.lit (.slice none 0 0),.lit (.slice none 0 0),.lit (.slice none 0 0)],.arr 0 3 (List.replicate ns.length (.lit (.int .i64 0))),.arr 0 45 (List.replicate ns.length (.lit (.int .u64 0)))]) [.arr 0 145 [.lit (.int .i64 g),.vec ns.length (ar ns),.own (H.next+2) 0 0 ns.length 1,.own (H.next+3) 0 0 ns.length 1,.lit (.slice none 0 0)]]:=⟨_,rfl⟩
 rw[<- hHb];have R0:RdS g ns H Hb (List.replicate ns.length 0) (List.replicate ns.length 0):=by
  rw[hHb,kA];exact⟨by simp [cJ],.ext _ _,dV ..,bk H _ 1 (by simp),by rw[bk H _ 2 (by simp)];simp [ints,aa],by rw[bk H _ 3 (by simp)];simp [cL],bk H _ 4 (by simp),by simp,by simp⟩
 have hcard:∀ {k:Nat},(∀ x∈ns.take k,1<=x.card/\x.card<=4)->ew ((ah ns).take k):=fun {k} h=>ru (by simp [ah];omega) fun c hc=>by
  rw[show (ah ns).take k=ah (ns.take k) by simp [ah]]at hc;obtain⟨y,hy,rfl⟩:=RI.1 hc;exact h y hy
 refine W.aI 37778930737057254867176 (by rfl) (fun ρ H'=>∃ (k:Nat) (c:List Int),ρ 50=aa k/\k<=ns.length/\ρ 5=aa (aw ((ah ns).take k))/\RdS g ns H H' c (List.replicate ns.length 0)/\Hb.next<=H'.next/\c.take k=(ah ns).take k/\∀ x∈ns.take k,1<=x.card/\x.card<=4) (fun ρ H=>ns.length - (iv (ρ 50)).toNat) ?_ ?_
 ·simp only[go_sem];exact⟨0,_,rfl,by omega,by simp [gZ],R0,by simp⟩
 rintro ρ H' ⟨k,c,h50,hk,h5,R,hn,hc,hall⟩;refine W.vs ?_;have q0:=R.l0;have q1:=R.l1;have q2:=R.l2;have q4:=R.l4;have rn:=R.nx;by_cases hb:(k:Int)<ns.length
 ·obtain⟨x,hx⟩:=get_of_lt (l:=ns) (i:=k) (by omega);have hxm:=Ry hx;have hne:=fZ hx;have e0:=l9 hx;have e1:k*3+3<=(ar ns).length:=by rw[fY];omega
  have R2:=R.over (.ext H' [.arr 0 69 [.lit (.int .i64 x.card),.vec x.parents.length (ints x.parents),aH x.rows]]);have p1:=R2.l1;have p2:=R2.l2;have p4:=R2.l4;have nb1:¬ H.next+1=H'.next:=by omega
  have nb2:¬ H.next+2=H'.next:=by omega
  have nb4:¬ H.next+4=H'.next:=by omega
  by_cases d1:x.card<1
  ·simp only[go_sem,h50,p1,hb,hne,e0,e1,d1];exact no (fun h=>by have:=(h.node x hxm).1;omega) _ (R2.ov.upd (by omega) _)
  by_cases d2:x.card > 4
  ·simp only[go_sem,h50,p1,hb,hne,e0,e1,d1,d2];exact no (fun h=>by have:=(h.node x hxm).1;omega) _ (R2.ov.upd (by omega) _)
  have hall':∀ y∈ns.take (k+1),1<=y.card/\y.card<=4:=fun y hy=>by
   rw[aP hx]at hy;rcases RX.1 hy with hy|hy
   ·exact hall y hy
   ·obtain rfl:=List.mem_singleton.1 hy;exact⟨by omega,by omega⟩
  have b2:=(hcard hall').prod;rw[aP (bX hx),iZ]at b2;have w1:=Rw ((k:Int)+1) (by omega);have w2:=Rw (aw ((ah ns).take k)*x.card) (by omega);have hkc:k<c.length:=by rw[R.cl];omega
  have p0:∀ b,((ext H' [.arr 0 69 [.lit (.int .i64 x.card),.vec x.parents.length (ints x.parents),aH x.rows]]).upd (H.next+2) b).live H'.next 0=some (69,[.lit (.int .i64 x.card),.vec x.parents.length (ints x.parents),aH x.rows]):=fun b=>by
   rw[mn (by omega)];exact ao cq
  simp only[go_sem,h50,h5,p2,p4,p0,hb,hne,e0,e1,d1,d2,w1,w2];exact⟨by omega,by rw[aL,cJ];omega,⟨k+1,_,by simp,by omega,by rw[aP (bX hx),iZ],R2.QN hkc x.card,by rw[aL,cJ];omega,DP hc hkc (bX hx),fun y hy=>hall' y hy⟩,by omega⟩
 have ek:k=ns.length:=by omega
 subst ek;rw[RA (Nat.le_refl _)]at hall;rw[RA (by rw[bA];omega)]at h5;have ec:c=ah ns:=by
  rw[RA (by rw[R.cl];omega),RA (by rw[bA];omega)]at hc;exact hc
 subst ec;by_cases c5:aw (ah ns) > 1024
 ·simp only[go_sem,h50,h5,q1,hb,c5];exact no (fun h=>by have:=h.size;omega) _ (R.ov.upd (by omega) _)
 simp only[go_sem,h50,h5,q4,hb,c5];refine W.aI 340282366920933627760096148915069392648 (by rfl) (fun ρ' H2=>∃ (k:Nat) (s:List Nat),ρ' 82=aa k/\k<=ns.length/\RdS g ns H H2 (ah ns) s/\H'.next<=H2.next/\s.take k=(aT ns).take k/\(∀ j,k<=j->s.getD j 0=0)/\∀ x∈ns.take k,dP x.parents ns.length/\jc g ns x) (fun ρ' H=>ns.length - (iv (ρ' 82)).toNat) ?_ ?_
 ·simp only[go_sem];refine⟨0,_,rfl,by omega,R,rfl,fun j _=>?_,by simp⟩;rw[RE,Sz];split<;>rfl
 rintro ρ' H2 ⟨k,s,h82,hk2,R2,hn2,hs,hs0,hall2⟩;refine W.vs ?_;have r2:=R2.nx;have q4:=R2.l4;by_cases hb2:(k:Int)<ns.length;rotate_left
 ·have es:s=aT ns:=by
   rw[RA (by rw[R2.sl];omega),RA (by simp [aT];omega)]at hs;exact hs
  subst es;rw[RA (by omega)]at hall2;have hlt:∀ p∈aT ns,p<2 ^ ns.length:=yw fun x hx q hq=>(hall2 x hx).1.2 q hq;have hsl:(aT ns).length=ns.length:=by simp [aT]
  have hlt64:∀ p∈aT ns,p<2 ^ 64:=fun p hp=>RL (hlt p hp) (R8 (by decide) (by omega));have hto:=C3 (ps:=aT ns) (by rw[hsl];exact hlt) (by omega);simp only[go_sem,h82,q4,hb2];have fzs:=Fz.rA (nx:=0) R2.b3 (n:=ns.length) (by simp [R2.sl]) (fun c hc=>by
   obtain⟨z,_,rfl⟩:=RI.1 hc;exact⟨_,rfl⟩)
  refine az.clo (QM (aT ns) (by omega) hlt64 _ _ (by show Fz _ _ _ _ (.vec (aT ns).length _);rw[hsl];exact fzs) _ ⟨trivial,?_⟩);have q1:=R2.l1;cases hso:(eI (aT ns)).isSome
  ·simp only[go_sem,q1];exact no (fun h=>by rw[hto.2 h.acyc]at hso;cases hso) _ (R2.ov.upd (by omega) _)
  have hok:NetOk g ns:=⟨by omega,by omega,fun x hx=>⟨hall x hx,(hall2 x hx).1⟩,by omega,hto.1 hso,fun x hx=>(hall2 x hx).2⟩
  rw[DE hok]at hK;have q1b:∀ b,(H2.upd (H.next+4) b).live (H.next+1) 0=_:=fun b=>(mn (by omega)).trans q1;simp only[go_sem,q1b,q4];have ovf:Over H ((H2.upd (H.next+4) (.arr 0 145 [.lit (.int .i64 g),.vec ns.length (ar ns),.own (H.next+2) 0 0 ns.length 1,.own (H.next+3) 0 0 ns.length 1,.vec (fE ((eI (aT ns)).getD [])).length (ints (fE ((eI (aT ns)).getD [])))])).upd (H.next+1) (.arr 0 145 [.lit (.int .i64 g),.vec ns.length (ar ns),.own (H.next+2) 0 0 ns.length 1,.own (H.next+3) 0 0 ns.length 1,.vec (fE ((eI (aT ns)).getD [])).length (ints (fE ((eI (aT ns)).getD [])))])):=(R2.ov.upd (by omega) _).upd (by omega) _;refine av.cK (v':=.tup [yA g ns,aa 0]) aZ hcl ovf (.tup rfl fun i hi _=>?_) hK
  match i,hi with
  | 1,_=>exact .lit _
  | 0,_ =>
   refine .agg rfl fun i hi _=>?_
   match i,hi with
   | 0,_=>exact .lit _
   | 1,_=>exact rB _
   | 2,_ =>
    have hg2:∀ b b',((H2.upd (H.next+4) b).upd (H.next+1) b').get (H.next+2)=some (.arr 0 3 (ints (ah ns))):=fun b b'=>by rw[aj,RB (by omega),aj,RB (by omega)];exact R2.b2
    show Fz _ _ _ (.own (H.next+2) 0 0 ns.length 1) (.vec (ah ns).length (ints (ah ns)));rw[<- bA ns];exact .ints (by show H.next<=_;omega) (hg2 _ _) (by simp) fun i hi=>by simp [gI,hi]
   | 3,_ =>
    have hg3:∀ b b',((H2.upd (H.next+4) b).upd (H.next+1) b').get (H.next+3)=some (.arr 0 45 ((aT ns).map cL)):=fun b b'=>by rw[aj,RB (by omega),aj,RB (by omega)];exact R2.b3
    show Fz _ _ _ (.own (H.next+3) 0 0 ns.length 1) (.vec (aT ns).length ((aT ns).map cL));rw[<- hsl];refine .frz (by show H.next<=_;omega) (hg3 _ _) (by simp) fun j hj h2 h'=>?_;simp only[Nat.zero_add,RQ];exact .lit _
   | 4,_=>exact .dT _
 obtain⟨x,hx⟩:=get_of_lt (l:=ns) (i:=k) (by omega);have hxm:=Ry hx;have hne:=fZ hx;have e0:=l9 hx;have e1:k*3+3<=(ar ns).length:=by rw[fY];omega
 obtain⟨f1,f2,f3⟩:=hf.2 x hxm;simp only[go_sem,h82,hb2,hne,e0,e1];obtain⟨H3,hH3⟩:∃ H3,H3=ext H2 [.arr 0 69 [.lit (.int .i64 x.card),.vec x.parents.length (ints x.parents),aH x.rows]]:=⟨_,rfl⟩
 have R3:RdS g ns H H3 (ah ns) s:=by rw[hH3];exact R2.over (.ext _ _)
 have nn:H3.next=H2.next+1:=by rw[hH3];rfl
 have gN:H3.get H2.next=some (.arr 0 69 [.lit (.int .i64 x.card),.vec x.parents.length (ints x.parents),aH x.rows]):=by rw[hH3];exact cq
 rw[<- hH3];have hks:k<s.length:=by rw[R2.sl];omega
 have s0:s.set k 0=s:=by
  apply Sf;intro i;rw[SQ];split
  ·rename_i h;subst h;have:=hs0 k (Nat.le_refl _);rw[RE,Rz hks]at this;simp only[Option.getD_some]at this;rw[Rz hks,this]
  ·rfl
 refine W.aI 5316911981901723452329847966222259208 (by rfl) (fun ρ2 H4=>∃ (j:Nat) (b:Int),ρ2 90=aa j/\j<=x.parents.length/\ρ2 10=aa b/\dP (x.parents.take j) ns.length/\(x.parents.take j).getLast?.getD (-1)=b/\RdS g ns H H4 (ah ns) (s.set k (df (x.parents.take j)))/\H3.next<=H4.next/\H4.get H2.next=some (.arr 0 69 [.lit (.int .i64 x.card),.vec x.parents.length (ints x.parents),aH x.rows])/\¬ (k:Int)∈x.parents.take j)
  (fun ρ2 H=>x.parents.length - (iv (ρ2 90)).toNat) ?_ ?_
 ·simp only[go_sem];exact⟨0,-1,rfl,by omega,rfl,.nil,rfl,by rw[show df (x.parents.take 0)=0 from rfl,s0];exact R3,gN,by simp⟩
 rintro ρ2 H4 ⟨j,b,h90,hj,h10,hp,hbl,R4,hn4,gN4,hself⟩;refine W.vs ?_;have r4:=R4.nx;have t1:=R4.l1;have t3:=R4.l3;have t4:=R4.l4;have tN:=ao gN4;by_cases hb3:(j:Int)<x.parents.length
 ·obtain⟨a,ha⟩:=get_of_lt (l:=x.parents) (i:=j) (by omega);have ham:=Ry ha;have hane:=aK ha;by_cases d1:a<=b
  ·simp only[go_sem,h90,h10,hb3,ha,hane,d1,t1];refine no (fun h=>?_) _ (R4.ov.upd (by omega) _);have hpl:=(h.node x hxm).2;have h0:=hpl.2 a ham;rcases Ui j with rfl|hk0
   ·simp at hbl;omega
   ·obtain⟨i,rfl⟩:∃ i,j=i+1:=⟨j - 1,by omega⟩
    obtain⟨b',hbj⟩:=get_of_lt (l:=x.parents) (i:=i) (by omega);rw[DD hbj]at hbl;have:=hpl.lt hbj ha (by omega);simp at hbl;omega
  by_cases d2:a >= ns.length
  ·simp only[go_sem,h90,h10,hb3,ha,hane,d1,d2,t1,t4];exact no (fun h=>by have:=(h.node x hxm).2.2 a ham;omega) _ (R4.ov.upd (by omega) _)
  have h0:0<=a:=by
   rcases hg:(x.parents.take j).getLast? with _|b'
   ·rw[hg]at hbl;simp at hbl;omega
   ·rw[hg]at hbl;have:=hp.2 b' (List.mem_of_getLast? hg);simp at hbl;omega
  by_cases d3:a=k
  ·have d1':¬ (k:Int)<=b:=(by omega);have d2':¬ (k:Int) >= ns.length:=(by omega);simp only[go_sem,h90,h10,hb3,ha,hane,d1',d2',d3,t1,t4];exact no (fun h=>QR hx (fun q hq=>((h.node x hxm).2.2 q hq).1) (by rw[<- d3];exact ham) h.acyc) _ (R4.ov.upd (id:=H.next+1) (by omega) _)
  obtain⟨u,rfl⟩:=R7 h0;have w1:=Rw ((j:Int)+1) (by omega);have bm:df (x.parents.take j)<2 ^ 64:=uk fun p hp'=>by have:=hp.2 p hp';omega
  have v1:=fun t x y=>rE (P:=Try.prog) (t:=t) (x:=x) (y:=y) (k':=.i64) (s:=u) (by omega);have v2:=fun t x y=>uK (P:=Try.prog) (t:=t) (x:=x) (y:=y) (b:=2 ^ u) bm (TN (by decide) (by omega));have gs:(s.set k (df (x.parents.take j)))[k]?=some (df (x.parents.take j)):=RO hks;simp only[go_sem,h90,h10,hb3,ha,hane,d1,d2,d3,t4];refine W.draw 7 [0,1,0,7,15,0,32] Try.mixed (by kernel_rfl) (by kernel_rfl) ?_;simp only[go_sem,h90,hb2,t3,t4,gs,v1,v2,w1]
  repeat (refine And.intro (by first|omega|(simp;done)|(simp;omega)|(intros;omega)|exact⟨rfl,by omega,by omega,Ai _⟩) ?_)
  have R5:=R4.QP (k:=k) (by simpa using hks) (df (x.parents.take j) ||| 2 ^ u);rw[UQ]at R5;have esn:df (x.parents.take (j+1))=df (x.parents.take j) ||| 2 ^ u:=by rw[aP ha,CW];rfl
  refine⟨by rw[aL];omega,⟨j+1,u,by simp,by omega,rfl,?_,by rw[DD ha];rfl,by rw[esn];exact R5,by rw[aL];omega,by rw[aj,RB (by omega)];exact gN4,fun hm=>?_⟩,by omega⟩
  ·rw[aP ha];exact hp.snoc ⟨by omega,by omega⟩ fun b' hb'=>by rw[hb']at hbl;simp at hbl;omega
  ·rw[aP ha]at hm;rcases RX.1 hm with hm|hm
   ·exact hself hm
   ·exact d3 (List.mem_singleton.1 hm).symm
 ·have hb3':=hb3;rw[RA (by omega)]at hp hself R4;simp only[go_sem,h90,hb3,t4,tN];have hin:iE x.parents ns.length:=fun q hq=>by have:=hp.2 q hq;omega
  refine az.clo (QQ g ⟨by omega,by omega⟩ ns _ x hin (yv (by omega) hp hall) f2 f3 _ (H.next+2) (H.next+3) R4.b2 R4.b3 R4.sl _ ⟨trivial,?_⟩);cases hnb:kn g ns x
  ·simp only[go_sem,t1];exact no (fun h=>by rw[DJ (h.rows x hxm)]at hnb;cases hnb) _ (R4.ov.upd (by omega) _)
  have w1:=Rw ((k:Int)+1) (by omega);simp only[go_sem,h82,w1];refine⟨by omega,⟨k+1,_,by simp,by omega,R4,by omega,?_,fun i hi=>?_,fun y hy=>?_⟩,by omega⟩
  ·have h1:=mi hx;rw[aP h1,aP (RO hks),TT (Nat.le_refl k),hs]
  ·rw[RE,R9 (by omega),<- RE];exact hs0 i (by omega)
  ·rw[aP hx]at hy;rcases RX.1 hy with hy|hy
   ·exact hall2 y hy
   ·obtain rfl:=List.mem_singleton.1 hy;exact⟨hp,QH.1 hnb⟩
theorem QT (g:Int)(ns:List NodeP)(hf:jd ns)(H:AHeap)(K:ARes->AHeap->Prop)(hK:K (.ret (aa (if iF g ns then 0 else 50))) H):ae Try.prog G0 68 [bP g ns] H K:=by
 refine ae.clo ⟨_,Try.func68,rfl,rfl⟩ fun hcl=>?_;refine ae.bH (n:=11) (rs:=[.tmp 2]) Try.func68 rfl rfl rfl (by decide) (by kernel_rfl) (by simp) ?_;simp only[go_sem,bP,de];refine az.clo (QS g ns hf _ _ ⟨trivial,?_⟩);cases hb:iF g ns
 ·rw[hb]at hK;simp only[go_sem,yz,List.length_nil];exact av.cK aZ hcl (.ext _ _) (.lit _) hK
 ·rw[hb]at hK;simp only[go_sem,yA,de];exact av.cK aZ hcl (.ext _ _) (.lit _) hK
def C4 (D v:Nat):List Nat := (List.range v).filter fun v => D.testBit v
def C5 (D v:Nat):Nat := (C4 D v).length
def yf (d:InfP):List Nat := C4 d.decs d.nodes.length
def Py (g card x:Int):List Int := (List.replicate card.toNat 0).set x.toNat g
def C6 (ns:List NodeP)(x:NodeP):Nat := (aw (aN ns x)).toNat
def Pz (g:Int)(ns:List NodeP)(c:Nat -> Nat -> Int)(p:Nat)(x:NodeP):List (List Int) := (List.range (C6 ns x)).map fun r => Py g x.card (c p r)
def PA (d:InfP)(c:Nat -> Nat -> Int)(k v:Nat)(x:NodeP):NodeP := if d.decs.testBit v = true /\ C5 d.decs v < k then { x with rows := x.rows ++ Pz d.grain d.nodes c (C5 d.decs v) x } else x
def PC (d:InfP)(c:Nat -> Nat -> Int)(k:Nat):List NodeP := d.nodes.zipIdx.map fun p => PA d c k p.2 p.1
def PD (d:InfP)(c:Nat -> Nat -> Int):List NodeP := PC d c (yf d).length
structure RightN (d:InfP):Prop where
 n1:1<=d.nodes.length/\d.nodes.length<=8
 decs:d.decs >>> d.nodes.length=0
 card:∀ x∈d.nodes,1<=x.card/\x.card<=4
 dec:∀ v x,d.nodes[v]?=some x->d.decs.testBit v=true->x.rows=[]/\dP x.parents d.nodes.length
structure InfFit (d:InfP):Prop where
 nodes:jd d.nodes
 decs:d.decs<2 ^ 64
 utils:(d.utils.length:Int)<2 ^ 38/\∀ u∈d.utils,(u.vars.length:Int)<2 ^ 38/\(u.w.length:Int)<2 ^ 38
end Go.Proofs
namespace Go.Hx
variable {P:Program} {G:Nat->Option (List AVal)}
def AHeap.eC (H:AHeap)(rk ob:Nat)(b:Blk):AHeap:=⟨fun id=>if id=rk then none else if id=ob then some b else H.get id,H.next⟩
theorem Q7 {H:AHeap}(hc:Clo H){rk ob g:Nat}{e:TypeId}{cells cells':List AVal}(hob:H.get ob=some (.arr g e cells))(hne:ob≠rk)(hl:cells'.length=cells.length)
  (hcell:∀ i (h:i<cells.length) (h':i<cells'.length),Fz (fun id=>id=rk) H H.next cells[i] cells'[i]):FzH (fun id=>id=rk) H (H.eC rk ob (.arr g e cells')) where
 gone id hs:=by simp [AHeap.eC,hs]
 kept id b hs hb:=by
  have hbb:=hc.below id b hb;refine⟨hc.lt id b hb,?_⟩;by_cases h:id=ob
  ·subst h;rw[hob]at hb;cases hb;exact⟨.arr g e cells',by simp [AHeap.eC,hs],rfl,rfl,hl,hcell⟩
  ·refine⟨b,by simp [AHeap.eC,hs,h,hb],?_⟩;cases b with
   | rsv=>trivial
   | mp=>rfl
   | arr g e cells=>exact⟨rfl,rfl,rfl,fun i h _=>.dead (hbb i h)⟩
   | loop st pend n env ps asg body=>exact⟨rfl,rfl,rfl,rfl,rfl,rfl,rfl,fun t ht=>.dead (hbb t ht)⟩
 none id hs hb:=by
  by_cases h:id=ob
  ·subst h;rw[hob]at hb;cases hb
  ·simp [AHeap.eC,hs,h,hb]
theorem dv.eC (hG:fH G){s:St}{rk ob g:Nat}{e:TypeId}{cells cells':List AVal}(hob:s.H.get ob=some (.arr g e cells))(hne:ob≠rk)(hl:cells'.length=cells.length)
  (hcell:∀ i (h:i<cells.length) (h':i<cells'.length),Fz (fun id=>id=rk) s.H s.H.next cells[i] cells'[i]):dv P G s ⟨s.ρ,s.H.eC rk ob (.arr g e cells')⟩:=by
 intro n wb Γ a w hs;exact dv.freeze (s:=s) (s':=⟨s.ρ,s.H.eC rk ob (.arr g e cells')⟩) hG (Q7 hs.heap.clo hob hne hl hcell) (fun t=>.dead (hs.env t).qg) n wb Γ a w hs
theorem Q8 {S:Nat->Prop}{H:AHeap}{nx:Nat}{A B:List AVal}{o o':AVal}(hA:∀ v,v∈A->Fz S H nx v v)(ho:Fz S H nx o o')(hB:∀ v,v∈B->Fz S H nx v v):
  ∀ i (h:i<(A++o :: B).length) (h':i<(A++o' :: B).length),Fz S H nx (A++o :: B)[i] (A++o' :: B)[i]:=by
 induction A with
 | nil =>
  intro i h h';cases i with
  | zero=>exact ho
  | succ i=>exact hB _ (Sv (l:=B) (by simpa using h))
 | cons a A ih =>
  intro i h h';cases i with
  | zero=>exact hA a (by simp)
  | succ i=>exact ih (fun v hv=>hA v (by simp [hv])) i (by simpa using h) (by simpa using h')
theorem yD {H:AHeap}{rk ob:Nat}{b:Blk}(h:ob≠rk):(H.eC rk ob b).get ob=some b:=by simp [AHeap.eC,h]
theorem yE {H:AHeap}{rk ob id:Nat}{b:Blk}(h:id≠rk)(h2:id≠ob):(H.eC rk ob b).get id=H.get id:=by simp [AHeap.eC,h,h2]
theorem DR {S:Nat->Prop}{H:AHeap}{nx:Nat}{l:List AVal}{i:Nat}{a b:AVal}(hl:∀ v,v∈l->Fz S H nx v v)(hab:Fz S H nx a b):∀ j (h:j<(l.set i a).length) (h':j<(l.set i b).length),Fz S H nx (l.set i a)[j] (l.set i b)[j]:=by
 intro j h h';rw[Ut,Ut];split
 ·exact hab
 ·exact hl _ (Sv _)
theorem W.rF {n:Nat}{rd:Option Nat}{Q Q':AX->St->Prop}{c:Code}{s:St}(h:W P G n rd c Q' s)(hw:∀ e s2,Q' e s2->∃ s3,dv P G s2 s3/\s2.H.next<=s3.H.next/\dp s3.H rd/\Q e s3):W P G n rd c Q s:=by
 intro wb Γ a w rb hs hr;refine wpIn_mono (h wb Γ a w rb hs hr) fun e a' w' hp=>?_;obtain⟨x,s',Γ',hx,hq,hrel,E,hn,hrd,hfr⟩:=hp;obtain⟨s3,hw3,hn3,hri,hq3⟩:=hw x s' hq;obtain⟨Γ3,hs3,E3,hrd3⟩:=hw3 n wb Γ' a' w' hrel;exact⟨x,s3,Γ3,hx,hq3,hs3,E.trans hn E3,So hn hn3,hrd3 rd rb hrd hri,hfr⟩
theorem aB.ne {lo:Nat}{H:AHeap}{e:TypeId}{v:AVal}{cs:List AVal}(h:aB lo H e v cs){k:Nat}(hk:k<lo):∀ g n,v≠.own k g 0 n 1:=fun g n he=>by
 rcases h with ⟨h,_⟩|⟨i2,g2,a1,_,h,_⟩
 ·rw[h]at he;cases he
 ·rw[h]at he;have:=AVal.own.inj he;omega
def fO (lo:Nat)(H:AHeap)(e:TypeId)(z:Nat)(v:AVal)(n:Nat)(cs:List AVal):Prop :=
 (v=.lit (.slice none 0 0)/\n=0/\cs=[])\/∃ id g,lo<=id/\id<H.next/\v=.own id g 0 n z/\cs.length=n*z/\H.get id=some (.arr g e cs)
theorem fO.nil {lo:Nat}{H:AHeap}{e:TypeId}{z:Nat}:fO lo H e z (.lit (.slice none 0 0)) 0 []:=.inl ⟨rfl,rfl,rfl⟩
theorem fO.keep {lo:Nat}{H H':AHeap}{e:TypeId}{z n:Nat}{v:AVal}{cs:List AVal}(h:fO lo H e z v n cs)(hn:H.next<=H'.next)(hk:∀ id g,lo<=id->id<H.next->v=.own id g 0 n z->H'.get id=H.get id):fO lo H' e z v n cs:=by
 rcases h with h|⟨id,g,h1,h2,h3,h4,h5⟩
 ·exact .inl h
 ·exact .inr ⟨id,g,h1,by omega,h3,h4,(hk id g h1 h2 h3).trans h5⟩
theorem fO.over {lo:Nat}{H H':AHeap}{e:TypeId}{z n:Nat}{v:AVal}{cs:List AVal}(h:fO lo H e z v n cs)(ho:Over H H'):fO lo H' e z v n cs:=h.keep ho.next fun id _ _ h2 _=>ho.old id h2
theorem fO.one {lo:Nat}{H:AHeap}{e:TypeId}{z n:Nat}{v:AVal}{cs:List AVal}(h:fO lo H e z v n cs):v.one=true:=by
 rcases h with ⟨rfl,_⟩|⟨_,_,_,_,rfl,_⟩<;>rfl
theorem fO.cells {lo:Nat}{H:AHeap}{e:TypeId}{z n:Nat}{v:AVal}{cs:List AVal}(h:fO lo H e z v n cs):v.cells=[v]:=by
 rcases h with ⟨rfl,_⟩|⟨_,_,_,_,rfl,_⟩<;>rfl
theorem fO.ne {lo:Nat}{H:AHeap}{e:TypeId}{z m:Nat}{v:AVal}{cs:List AVal}(h:fO lo H e z v m cs){k:Nat}(hk:k<lo):∀ g n,v≠.own k g 0 n z:=fun g n he=>by
 rcases h with ⟨h,_⟩|⟨i2,g2,a1,_,h,_⟩
 ·rw[h]at he;cases he
 ·rw[h]at he;have:=AVal.own.inj he;omega
end Go.Hx
namespace Go.Proofs
open Go.Hx
def pg (x:NodeP):AVal:=if x.rows=[] then .lit (.slice none 0 0) else aH x.rows
theorem PE {S:Nat->Prop}{H:AHeap}{nx:Nat}(x:NodeP):Fz S H nx (pg x) (aH x.rows):=by
 unfold pg;split
 ·rename_i h;rw[h];exact .nil
 ·exact .aH _
structure NodesQ (e:Nat->Prop)(ns:List NodeP)(cs:List AVal):Prop where
 len:cs.length=ns.length*3
 node:∀ (v:Nat) (x:NodeP),ns[v]?=some x->∃ rv,cs[v*3]?=some (aa x.card)/\cs[v*3+1]?=some (ab x.parents)/\cs[v*3+2]?=some rv/\(rv=aH x.rows\/rv=pg x)/\(e v->rv=pg x)
theorem NodesQ.c0 {e:Nat->Prop}{ns:List NodeP}{cs:List AVal}(h:NodesQ e ns cs){v:Nat}{x:NodeP}(hx:ns[v]?=some x):cs[v*3]?=some (aa x.card):=(h.node v x hx).elim fun _ h=>h.1
theorem NodesQ.c1 {e:Nat->Prop}{ns:List NodeP}{cs:List AVal}(h:NodesQ e ns cs){v:Nat}{x:NodeP}(hx:ns[v]?=some x):cs[v*3+1]?=some (ab x.parents):=(h.node v x hx).elim fun _ h=>h.2.1
theorem NodesQ.ne {e:Nat->Prop}{ns:List NodeP}{cs:List AVal}(h:NodesQ e ns cs){v:Nat}{x:NodeP}(hx:ns[v]?=some x):¬ cs=[]:=fun he=>by
 have:=h.c0 hx;rw[he]at this;simp at this
theorem NodesQ.part {e:Nat->Prop}{ns:List NodeP}{cs:List AVal}(h:NodesQ e ns cs){v:Nat}{x:NodeP}(hx:ns[v]?=some x):∃ rv,(cs.drop (v*3)).take 3=[aa x.card,ab x.parents,rv]/\cs[v*3+2]?=some rv/\(rv=aH x.rows\/rv=pg x)/\(e v->rv=pg x):=by
 obtain⟨rv,a,b,c,d,f⟩:=h.node v x hx;refine⟨rv,?_,c,d,f⟩;have h3:=get_lt c;rw[SC (by omega),SC (by omega),SC (by omega)];simp only[List.take_succ_cons,List.take_zero];rw[Rz (by omega)]at a b c;rw[Option.some.inj a,Option.some.inj b,Option.some.inj c]
theorem NodesQ.nil {e:Nat->Prop}:NodesQ e [] []:=⟨rfl,fun v x hx=>by simp at hx⟩
theorem NodesQ.mono {e e':Nat->Prop}{ns:List NodeP}{cs:List AVal}(h:NodesQ e ns cs)(he:∀ v,e' v->e v):NodesQ e' ns cs:=⟨h.len,fun v x hx=>by
 obtain⟨r,a,b,c,d,f⟩:=h.node v x hx;exact⟨r,a,b,c,d,fun h=>f (he v h)⟩⟩
theorem NodesQ.fzA {e:Nat->Prop}{ns:List NodeP}{cs:List AVal}(h:NodesQ e ns cs){S:Nat->Prop}{H:AHeap}{nx:Nat}:∀ (i:Nat) (h1:i<cs.length) (h2:i<(ar ns).length),Fz S H nx cs[i] (ar ns)[i]:=by
 intro i h1 h2;have hb:i / 3<ns.length:=by rw[h.len]at h1;omega
 obtain⟨x,hx⟩:=get_of_lt hb;obtain⟨rv,a,b,c,d,_⟩:=h.node _ x hx;have hp:i=(i / 3)*3+i % 3:=by omega
 have g1:cs[i]?=some cs[i]:=Rz h1;have g2:(ar ns)[i]?=some (ar ns)[i]:=Rz h2;generalize cs[i]=u at g1 ⊢;generalize (ar ns)[i]=w at g2 ⊢;have c3:i % 3=0\/i % 3=1\/i % 3=2:=by omega
 rcases c3 with c0|c0|c0
 ·rw[hp,c0,Nat.add_zero,a]at g1;rw[hp,c0,Nat.add_zero,l8 hx]at g2;cases g1;cases g2;exact .lit _
 ·rw[hp,c0,b]at g1;rw[hp,c0,uh hx]at g2;cases g1;cases g2;exact .dT _
 ·rw[hp,c0,c]at g1;rw[hp,c0,CU hx]at g2;cases g1;cases g2;rcases d with d|d<;>rw[d]
  ·exact .aH _
  ·exact PE x
theorem uF {α:Type}{l:List α}{i:Nat}{x:α}(h:l[i]?=some x):l.set i x=l:=by
 apply Sf;intro j;rw[SQ];split
 ·rename_i hj;subst hj;rw[RC (get_lt h),h]
 ·rfl
theorem Dy {lo:Nat}{H':AHeap}{v:AVal}{l:List AVal}(x:AVal)(hx:x.one=true)(h:aB lo H' 39 v l)(hlo:lo<=H'.next)(hl:l.length<2 ^ 40):
  ∃ v' H2,bF Try.prog (ext H' [.arr 0 39 [x]]) (H'.next+1) 40 40 v (.own H'.next 0 0 1 1)=some (v',H2)/\aB lo H2 39 v' (l++[x])/\H'.next<=H2.next/\(∀ k,k<H'.next->(∀ g n,v≠.own k g 0 n 1)->H2.get k=H'.get k) :=
 mI (P:=Try.prog) (H:=H') (t:=40) (x:=x) (n:=H'.next+1) Try.underlying40 Try.ua Try.uc hx (by rw[Try.ub];omega) h hlo rfl
structure UtilOk (ns:List NodeP)(u:UtilP):Prop where
 vars:dP u.vars ns.length
 size:(u.w.length:Int)=aw (aA (ah ns) u.vars)
 w:∀ x∈u.w,-100<=x/\x<=100
def Qu (d:InfP):Prop:=d.utils.length<=4/\∀ u∈d.utils,UtilOk d.nodes u
structure InfOk (d:InfP):Prop where
 n:RightN d
 net:NetOk d.grain (PD d fun _ _=>0)
 utils:Qu d
structure PolOk (d:InfP)(p:List (List Int)):Prop where
 len:p.length=(yf d).length
 row:∀ (k v:Nat) (x:NodeP) (l:List Int),(yf d)[k]?=some v->d.nodes[v]?=some x->p[k]?=some l->l.length=C6 d.nodes x/\∀ a∈l,0<=a/\a<x.card
end Go.Proofs
