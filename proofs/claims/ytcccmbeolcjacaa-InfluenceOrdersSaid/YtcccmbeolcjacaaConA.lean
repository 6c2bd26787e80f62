/-
  Closed facts of this seat's types. Laid by a program of ours.
-/
import Derived.Test.YtcccmbeolcjacaaProg
import Derived.Test.YtcccmbeolcjacaaLibC
import Derived.Test.YtcccmbeolcjacaaLibB
set_option linter.all false
set_option maxHeartbeats 8000000
namespace Go.Proofs
open Go.Hx
variable {i z:Nat}{α:Type}
def Try.mixed:Try.prog.follows .mixedOrders=true:=SZ
def Try.dx:Try.prog.cellsOf 3=1:=SZ
def Try.ei:Try.prog.bytesOf 3=8:=SZ
def Try.dL:bH Try.prog 3=some [.lit (.int .i64 0)]:=SZ
def Try.AE:Try.prog.cellsOf 4=1:=SZ
def Try.Lk:bH Try.prog 4=some [.lit (.bool false)]:=SZ
def Try.lK:Try.prog.cellsOf 5=1:=SZ
def Try.Ll:Try.prog.bytesOf 5=1:=SZ
def Try.Lm:bH Try.prog 5=some [.lit (.int .u8 0)]:=SZ
def Try.AF:Try.prog.cellsOf 22=1:=SZ
def Try.wC:Try.prog.cellsOf 23=1:=SZ
def Try.AG:Try.prog.cellsOf 25=3:=SZ
def Try.Ln:bx Try.prog 25 0=some (0,5):=SZ
def Try.Lo:bx Try.prog 25 1=some (1,22):=SZ
def Try.Lp:bx Try.prog 25 2=some (2,23):=SZ
def Try.AH:Try.prog.cellsOf 26=1:=SZ
def Try.Lq:Try.prog.cellsOf 28=6:=SZ
def Try.Lr:bx Try.prog 28 0=some (0,25):=SZ
def Try.Ls:bx Try.prog 28 1=some (3,5):=SZ
def Try.Lt:bx Try.prog 28 2=some (4,4):=SZ
def Try.Lu:bx Try.prog 28 3=some (5,26):=SZ
def Try.AI:Try.prog.cellsOf 30=4:=SZ
def Try.Lv:bH Try.prog 30=some [.lit (.int .u8 0),.lit (.int .u8 0),.lit (.int .u8 0),.lit (.int .i64 0)]:=SZ
def Try.Lw:ik Try.prog 30=some [(0,1),(1,1),(2,1),(3,1)]:=SZ
def Try.Lx:bx Try.prog 30 0=some (0,5):=SZ
def Try.Ly:bx Try.prog 30 1=some (1,5):=SZ
def Try.Lz:bx Try.prog 30 2=some (2,5):=SZ
def Try.LA:bx Try.prog 30 3=some (3,3):=SZ
def Try.LB:Try.prog.cellsOf 32=6:=SZ
def Try.LC:bx Try.prog 32 0=some (0,5):=SZ
def Try.LD:bx Try.prog 32 1=some (1,30):=SZ
def Try.LF:bx Try.prog 32 2=some (5,3):=SZ
def Try.LG:Try.prog.cellsOf 35=1:=SZ
def Try.AJ:Try.prog.cellsOf 36=1:=SZ
def Try.AK:Try.prog.bytesOf 36=8:=SZ
def Try.AL:bH Try.prog 36=some [.lit (.int .u64 0)]:=SZ
def Try.LH:Try.prog.cellsOf 37=1:=SZ
def Try.LI:Try.prog.cellsOf 39=4:=SZ
def Try.LJ:bH Try.prog 39=some [.lit (.int .i64 0),.lit (.slice none 0 0),.lit (.int .u64 0),.lit (.slice none 0 0)]:=SZ
def Try.LK:ik Try.prog 39=some [(0,1),(1,1),(2,1),(3,1)]:=SZ
def Try.LL:bx Try.prog 39 0=some (0,3):=SZ
def Try.LM:bx Try.prog 39 1=some (1,35):=SZ
def Try.LN:bx Try.prog 39 2=some (2,36):=SZ
def Try.LO:bx Try.prog 39 3=some (3,37):=SZ
def Try.LP:bH Try.prog 42=some [.lit (.int .i64 0),.lit (.slice none 0 0),.lit (.int .u64 0),.lit (.slice none 0 0),.lit (.int .i64 0),.lit (.slice none 0 0),.lit (.int .u64 0),.lit (.slice none 0 0),.lit (.int .i64 0),.lit (.slice none 0 0),.lit (.int .u64 0),.lit (.slice none 0 0)]:=SZ
def Try.LQ:Try.prog.cellsOf 48=1:=SZ
def Try.kF:Try.prog.cellsOf 59=1:=SZ
def Try.kG:Try.prog.bytesOf 59=24:=SZ
def Try.kH:bH Try.prog 59=some [.lit (.slice none 0 0)]:=SZ
def Try.LR:Try.prog.cellsOf 64=2:=SZ
def Try.LS:bH Try.prog 64=some [.lit (.int .i64 0),.lit (.slice none 0 0)]:=SZ
def Try.LU:ik Try.prog 64=some [(0,1),(1,1)]:=SZ
def Try.LV:bx Try.prog 64 0=some (0,3):=SZ
def Try.LW:bx Try.prog 64 1=some (1,35):=SZ
def Try.nu:Try.prog.cellsOf 83=3:=SZ
def Try.nA:Try.prog.bytesOf 83=56:=SZ
def Try.nC:bH Try.prog 83=some [.lit (.int .i64 0),.lit (.slice none 0 0),.lit (.slice none 0 0)]:=SZ
def Try.LX:ik Try.prog 83=some [(0,1),(1,1),(2,1)]:=SZ
def Try.LY:bx Try.prog 83 0=some (0,3):=SZ
def Try.LZ:bx Try.prog 83 1=some (1,59):=SZ
def Try.L3:bx Try.prog 83 2=some (2,48):=SZ
def Try.sN:Try.prog.cellsOf 85=2:=SZ
def Try.sP:Try.prog.bytesOf 85=48:=SZ
def Try.sQ:bH Try.prog 85=some [.lit (.slice none 0 0),.lit (.slice none 0 0)]:=SZ
def Try.L4:ik Try.prog 85=some [(0,1),(1,1)]:=SZ
def Try.L5:bx Try.prog 85 0=some (0,59):=SZ
def Try.L6:bx Try.prog 85 1=some (1,59):=SZ
def Try.L7:Try.prog.cellsOf 98=1:=SZ
def Try.AM:Try.prog.cellsOf 101=1:=SZ
def Try.AN:Try.prog.cellsOf 103=2:=SZ
def Try.L8:bx Try.prog 103 0=some (0,5):=SZ
def Try.L9:bx Try.prog 103 1=some (1,101):=SZ
def Try.Ma:Try.prog.cellsOf 108=1:=SZ
def Try.Mb:Try.prog.cellsOf 139=3:=SZ
def Try.Mc:bH Try.prog 139=some [.lit (.slice none 0 0),.lit (.int .u16 0),.lit (.slice none 0 0)]:=SZ
def Try.Md:ik Try.prog 139=some [(0,1),(1,1),(2,1)]:=SZ
def Try.Me:bx Try.prog 139 0=some (0,23):=SZ
def Try.Mf:bx Try.prog 139 2=some (2,23):=SZ
def Try.AO:Try.prog.cellsOf 142=3:=SZ
def Try.Mg:bH Try.prog 142=some [.lit (.int .u8 0),.lit (.int .u8 0),.lit (.slice none 0 0)]:=SZ
def Try.Mh:bx Try.prog 142 0=some (0,5):=SZ
def Try.Mi:bx Try.prog 142 1=some (1,5):=SZ
def Try.Mj:bx Try.prog 142 2=some (2,23):=SZ
def Try.AP:Try.prog.cellsOf 145=1:=SZ
def Try.Mk:Try.prog.cellsOf 148=5:=SZ
def Try.Ml:bH Try.prog 148=some [.lit (.int .i64 0),.lit (.slice none 0 0),.lit (.slice none 0 0),.lit (.slice none 0 0),.lit (.slice none 0 0)]:=SZ
def Try.Mm:ik Try.prog 148=some [(0,2),(2,1),(3,1),(4,1)]:=SZ
def Try.Mn:bx Try.prog 148 0=some (0,64):=SZ
def Try.Mo:bx Try.prog 148 1=some (2,59):=SZ
def Try.Mp:bx Try.prog 148 2=some (3,98):=SZ
theorem Try.Mq:bx Try.prog 148 3=some (4,59):=SZ
attribute [go_sem] Try.underlying3 Try.dx Try.ei Try.dL Try.underlying4 Try.AE Try.Lk Try.underlying5 Try.lK Try.Ll Try.Lm
attribute [go_sem] Try.underlying9 Try.underlying22 Try.AF Try.underlying23 Try.wC
attribute [go_sem] Try.underlying24 Try.underlying25 Try.AG
attribute [go_sem] Try.Ln Try.Lo Try.Lp Try.underlying26 Try.AH Try.underlying27
attribute [go_sem] Try.underlying28 Try.Lq Try.Lr Try.Ls
attribute [go_sem] Try.Lt Try.Lu Try.underlying29 Try.underlying30
attribute [go_sem] Try.AI Try.Lv Try.Lw Try.Lx Try.Ly Try.Lz Try.LA Try.underlying31
attribute [go_sem] Try.underlying32 Try.LB Try.LC Try.LD Try.LF
attribute [go_sem] Try.underlying33 Try.underlying34 Try.underlying35 Try.LG
attribute [go_sem] Try.underlying36 Try.AJ Try.AK Try.AL Try.underlying37 Try.LH Try.underlying38
attribute [go_sem] Try.underlying39 Try.LI Try.LJ Try.LK Try.LL Try.LM
attribute [go_sem] Try.LN Try.LO Try.underlying42 Try.LP Try.underlying43 Try.underlying48 Try.LQ
attribute [go_sem] Try.underlying52 Try.underlying59 Try.kF Try.kG Try.kH Try.underlying60
attribute [go_sem] Try.underlying61 Try.underlying63
attribute [go_sem] Try.underlying64 Try.LR Try.LS Try.LU Try.LV Try.LW Try.underlying67
attribute [go_sem] Try.underlying68 Try.underlying82
attribute [go_sem] Try.underlying83 Try.nu Try.nA Try.nC Try.LX Try.LY
attribute [go_sem] Try.LZ Try.L3 Try.underlying84 Try.underlying85 Try.sN Try.sP
attribute [go_sem] Try.sQ Try.L4 Try.L5 Try.L6 Try.underlying98 Try.L7 Try.underlying101 Try.AM
attribute [go_sem] Try.underlying102 Try.underlying103 Try.AN
attribute [go_sem] Try.L8 Try.L9 Try.underlying108 Try.Ma Try.underlying116 Try.underlying118
attribute [go_sem] Try.underlying119 Try.underlying123
attribute [go_sem] Try.underlying124 Try.underlying127
attribute [go_sem] Try.underlying138 Try.underlying139 Try.Mb Try.Mc
attribute [go_sem] Try.Md Try.Me Try.Mf Try.underlying141
attribute [go_sem] Try.underlying142 Try.AO Try.Mg Try.Mh Try.Mi Try.Mj Try.underlying145 Try.AP
attribute [go_sem] Try.underlying147 Try.underlying148 Try.Mk
attribute [go_sem] Try.Ml Try.Mm Try.Mn Try.Mo Try.Mp Try.Mq
def az (l:List (List Int)):S1:=.M l.length (l.map af)
structure S3 where
 J:Int
 F:List Int
 O:List (List Int)
structure Tl where
 vars:List Int
 w:List Int
def S3.cells (x:S3):List S1:=[aa x.J,af x.F,az x.O]
def Tl.cells (x:Tl):List S1:=[af x.vars,af x.w]
def aL (l:List S3):List S1:=(l.map S3.cells).flatten
def aP (l:List Tl):List S1:=(l.map Tl.cells).flatten
def cG (l:List S3):S1:=.M l.length (aL l)
def sR (l:List Tl):S1:=.M l.length (aP l)
def bS (g:Int)(l:List S3):S1:=.agg [aa g,cG l]
structure S5 where
 X:Int
 I:List S3
 Z:Nat
 Q:List Tl
def iH (d:S5):S1:=.agg [aa d.X,cG d.I,.lit (.int .u64 (d.Z:Int)),sR d.Q]
def gF {f:α->List S1}(hz:∀a,(f a).length=z):∀(l:List α) (i j:Nat) (a:α),l[i]?=some a->j<z->((l.map f).flatten)[i*z+j]?=(f a)[j]?:=by
 intro l
 induction l with
 |nil=>intro i j a h;simp at h
 |cons x l ih =>
  intro i j a h hj;simp only[List.map_cons,List.flatten_cons];cases i with
  |zero =>
   simp only[List.getElem?_cons_zero,Option.some.injEq]at h;subst h;rw[Rh,Nat.zero_add,PJ (by rw[hz];exact hj)]
  |succ i =>
   have:(i+1)*z+j=z+(i*z+j):=(by rw[QO];omega);rw[this,PW (by rw[hz];omega),hz];have:z+(i*z+j)-z=i*z+j:=U;rw[this];exact ih i j a (by simpa using h) hj
def jh {f:α->List S1}(hz:∀a,(f a).length=z)(l:List α):((l.map f).flatten).length=l.length*z:=by
 induction l with
 |nil=>simp
 |cons x l ih=>simp only[List.map_cons,List.flatten_cons,List.length_append,ih,hz,List.length_cons];rw[QO];omega
def kI {f:α->List S1}(hz:∀a,(f a).length=z):∀(l:List α) (i:Nat) (a:α),l[i]?=some a->(((l.map f).flatten).drop (i*z)).take z=f a:=by
 intro l i a h;apply Qn;intro j;by_cases hj:j<z
 ·rw[Qp hj,Rm,gF hz l i j a h hj]
 ·rw[PN (by simp;omega),PN (by rw[hz];omega)]
def gG (l:List S3):(aL l).length=l.length*3:=jh (f:=S3.cells) (fun _=>rfl) l
variable {l:List S3}{x:S3}
def jK (h:l[i]?=some x):(aL l)[i*3]?=some (aa x.J):=gF (f:=S3.cells) (z:=3) (fun _=>rfl) l i 0 x h (U)
def iI (h:l[i]?=some x):(aL l)[i*3+1]?=some (af x.F):=gF (f:=S3.cells) (z:=3) (fun _=>rfl) l i 1 x h (U)
def sS (h:l[i]?=some x):(aL l)[i*3+2]?=some (az x.O):=gF (f:=S3.cells) (z:=3) (fun _=>rfl) l i 2 x h (U)
def nD (h:l[i]?=some x):((aL l).drop (i*3)).take 3=[aa x.J,af x.F,az x.O]:=kI (f:=S3.cells) (z:=3) (fun _=>rfl) l i x h
def eo (h:l[i]?=some x):¬aL l=[]:=fun e=>by
 have:=jK h;rw[e]at this;simp at this
def jL (l:List Tl):(aP l).length=l.length*2:=jh (f:=Tl.cells) (fun _=>rfl) l
def AR {l:List Tl}{x:Tl}(h:l[i]?=some x):(aP l)[i*2]?=some (af x.vars):=gF (f:=Tl.cells) (z:=2) (fun _=>rfl) l i 0 x h (U)
def Ms {l:List Tl}{x:Tl}(h:l[i]?=some x):(aP l)[i*2+1]?=some (af x.w):=gF (f:=Tl.cells) (z:=2) (fun _=>rfl) l i 1 x h (U)
def wD {l:List Tl}{x:Tl}(h:l[i]?=some x):((aP l).drop (i*2)).take 2=[af x.vars,af x.w]:=kI (f:=Tl.cells) (z:=2) (fun _=>rfl) l i x h
def sT {l:List Tl}{x:Tl}(h:l[i]?=some x):¬aP l=[]:=fun e=>by
 have:=AR h;rw[e]at this;simp at this
def aI {l:List α}{x:α}(h:l[i]?=some x):i<l.length:=by
 rcases PZ i l.length with h'|h'
 ·exact h'
 ·rw[PN h']at h;cases h
def aw {l:List α}(h:i<l.length):∃x,l[i]?=some x:=⟨_,PB h⟩
def nE {l:List α}{i:Int}(h0:0<=i)(h:i<l.length):∃k:Nat,i=k/\∃x,l[k]?=some x:=⟨i.toNat,U,aw U⟩
def aK (l:List Int):Int:=l.foldl (·*·) 1
def AS (l:List Int)(a:Int):l.foldl (·*·) a=a*aK l:=by
 unfold aK
 induction l generalizing a with
 |nil=>simp
 |cons x l ih=>simp only[Q6];rw[ih,ih (1*x),SW,Int.mul_assoc]
def kJ:aK []=1:=rfl
def sU (x:Int)(l:List Int):aK (x :: l)=x*aK l:=by
 show List.foldl _ (1*x) l=_;rw[AS,SW]
def wE (l l':List Int):aK (l++l')=aK l*aK l':=by
 unfold aK;rw[QL,AS];rfl
def fI (l:List Int)(x:Int):aK (l++[x])=aK l*x:=by rw[wE,sU,kJ,Int.mul_one]
def aT {l:List α}{k:Nat}{x:α}(h:l[k]?=some x):l.take (k+1)=l.take k++[x]:=by
 rw[List.take_add_one,h];rfl
def lL {l:List Int}(h:∀x∈l,1<=x):1<=aK l:=by
 induction l with
 |nil=>decide
 |cons x l ih =>
  rw[sU];have h1:=ih fun y hy=>h y (by simp[hy]);have h2:=h x SX;have:=QM h2 h1 U U;simpa using this
def wG {b:Int}{l:List Int}(hb:0<=b)(h:∀x∈l,0<=x/\x<=b):0<=aK l/\aK l<=b ^ l.length:=by
 induction l with
 |nil=>exact⟨SY,by simp[aK]⟩
 |cons x l ih =>
  rw[sU];have h1:=ih fun y hy=>h y (by simp[hy]);have h2:=h x SX;refine⟨RJ h2.1 h1.1,?_⟩;have:=QM h2.2 h1.2 h1.1 hb;rw[List.length_cons,Int.pow_succ,Ss (b ^ l.length)];exact this
def ay (l:List S3):List Int:=l.map (·.J)
def bd (l places:List Int):List Int:=places.map fun p=>l.getD p.toNat 0
def bG (places:List Int)(n:Int):Prop:=places.Pairwise (·<·)/\∀p∈places,0<=p/\p<n
end Go.Proofs
set_option maxRecDepth 100000
namespace Go.Proofs
open Go.Hx
def G0:Nat->Option (List S1):=ng
def aZ:dG G0:=wj
end Go.Proofs
namespace Go.Hx
variable {P:Program} {G:Nat->Option (List S1)} {Γ Γ':aq} {H H':S2} {w w':World}
variable {Q:AX->St->Prop}{c:Code}{ρ:Env}{n:Nat}{rd:Option Nat}
def W.env {H:S2}(h:∀E,E=ρ->W P G n rd c Q ⟨E,H⟩):W P G n rd c Q ⟨ρ,H⟩:=h ρ rfl
def W.en {H:S2}(p:Env->Prop)(hp:p ρ)(h:∀E,p E->W P G n rd c Q ⟨E,H⟩):W P G n rd c Q ⟨ρ,H⟩:=h ρ hp
def Below.mono {m:Nat}{v:S1}(h:Below n v)(hm:n<=m):Below m v:=by
 induction h with
 |lit v=>exact .lit v
 |M h ih=>exact .M ih
 |nb h ih=>exact .nb ih
 |agg h ih=>exact .agg ih
 |nc h ih=>exact .nc ih
 |nl h1 h2 ih1 ih2=>exact .nl ih1 ih2
 |V h=>exact .V (U)
 |Y h=>exact .Y (U)
 |ng h=>exact .ng (U)
def dq {l:List S1}{i:Nat}{x:S1}(h:i<l.length):setAt l i [x]=l.set i x:=by
 unfold setAt;rw[Sh,PG h];simp
section
variable {t:TypeId} {x y:Operand} {k k':IntKind} {a b:Int}
def tH (hb:0<=b):bh P .shr t x y (.lit (.int k a)) (.lit (.int k' b))=some (.lit (.int k (a.fdiv (2 ^ (min b.toNat k.bits))))):=by
 have h:¬b<0:=U
 simp[bh,S1.bM,eqGuard,binOp,Op.shift,h,bW,bind,Sem.bind,pure]
def xm (hb:0<=b):bh P .shl t x y (.lit (.int k a)) (.lit (.int k' b))=some (.lit (.int k (k.wrap (a*2 ^ (min b.toNat k.bits))))):=by
 have h:¬b<0:=U
 simp[bh,S1.bM,eqGuard,binOp,Op.shift,h,bW,bind,Sem.bind,pure]
def tI:bh P .and t x y (.lit (.int k a)) (.lit (.int k b))=some (.lit (.int k (k.wrap ((BitVec.ofInt k.bits a &&& BitVec.ofInt k.bits b).toNat:Nat)))):=by
 simp[bh,S1.bM,eqGuard,binOp,Op.intBits,bW,bind,Sem.bind,pure]
def OG:bh P .or t x y (.lit (.int k a)) (.lit (.int k b))=some (.lit (.int k (k.wrap ((BitVec.ofInt k.bits a |||BitVec.ofInt k.bits b).toNat:Nat)))):=by
 simp[bh,S1.bM,eqGuard,binOp,Op.intBits,bW,bind,Sem.bind,pure]
def OH:bh P .xor t x y (.lit (.int k a)) (.lit (.int k b))=some (.lit (.int k (k.wrap ((BitVec.ofInt k.bits a ^^^ BitVec.ofInt k.bits b).toNat:Nat)))):=by
 simp[bh,S1.bM,eqGuard,binOp,Op.intBits,bW,bind,Sem.bind,pure]
def OI:bh P .andNot t x y (.lit (.int k a)) (.lit (.int k b))=some (.lit (.int k (k.wrap ((BitVec.ofInt k.bits a &&& ~~~ BitVec.ofInt k.bits b).toNat:Nat)))):=by
 simp[bh,S1.bM,eqGuard,binOp,Op.intBits,bW,bind,Sem.bind,pure]
def aG (m:Nat):S1:=.lit (.int .u64 (m:Int))
def dv (a b:Nat):Nat:=(BitVec.ofNat 64 a &&& ~~~ BitVec.ofNat 64 b).toNat
def nP {m:Nat}(h:m<2 ^ 64):(BitVec.ofInt 64 (m:Int)).toNat=m:=by rw[BitVec.ofInt_natCast,BitVec.toNat_ofNat,Nat.mod_eq_of_lt h]
def BY (a b:Nat):dv a b<2 ^ 64:=(BitVec.isLt _)
def xo {a b i:Nat}(ha:a<2 ^ 64):(dv a b).testBit i=(a.testBit i && !b.testBit i):=by
 unfold dv;by_cases hi:i<64
 ·rw[<- BitVec.getLsbD,BitVec.getLsbD_and,BitVec.getLsbD_not,BitVec.getLsbD_ofNat,BitVec.getLsbD_ofNat];simp[hi]
 ·have h1:a.testBit i=false:=R9 (PL ha (P7 SY U));rw[h1,<- BitVec.getLsbD,BitVec.getLsbD_of_ge _ _ U];rfl
def pX {m:Nat}(h:m<2 ^ 64):IntKind.u64.wrap (m:Int)=m:=Ry _ (U)
def pY {a b:Nat}(ha:a<2 ^ 64)(hb:b<2 ^ 64):bh P .and t x y (.lit (.int .u64 (a:Int))) (.lit (.int .u64 (b:Int)))=some (.lit (.int .u64 ((a &&& b:Nat):Int))):=by
 rw[tI];have e:(BitVec.ofInt (IntKind.bits .u64) (a:Int) &&& BitVec.ofInt (IntKind.bits .u64) (b:Int)).toNat=a &&& b:=by
  show (BitVec.ofInt 64 _ &&& BitVec.ofInt 64 _).toNat=_;rw[BitVec.toNat_and,nP ha,nP hb]
 rw[e,pX (RF Sy ha)]
def fb {a b:Nat}(ha:a<2 ^ 64)(hb:b<2 ^ 64):bh P .or t x y (.lit (.int .u64 (a:Int))) (.lit (.int .u64 (b:Int)))=some (.lit (.int .u64 ((a |||b:Nat):Int))):=by
 rw[OG];have e:(BitVec.ofInt (IntKind.bits .u64) (a:Int) |||BitVec.ofInt (IntKind.bits .u64) (b:Int)).toNat=a |||b:=by
  show (BitVec.ofInt 64 _ |||BitVec.ofInt 64 _).toNat=_;rw[BitVec.toNat_or,nP ha,nP hb]
 rw[e,pX (Qw ha hb)]
def OJ {a b:Nat}(ha:a<2 ^ 64)(hb:b<2 ^ 64):bh P .xor t x y (.lit (.int .u64 (a:Int))) (.lit (.int .u64 (b:Int)))=some (.lit (.int .u64 ((a ^^^ b:Nat):Int))):=by
 rw[OH];have e:(BitVec.ofInt (IntKind.bits .u64) (a:Int) ^^^ BitVec.ofInt (IntKind.bits .u64) (b:Int)).toNat=a ^^^ b:=by
  show (BitVec.ofInt 64 _ ^^^ BitVec.ofInt 64 _).toNat=_;rw[BitVec.toNat_xor,nP ha,nP hb]
 rw[e,pX (Sg ha hb)]
def pZ {a b:Nat}:bh P .andNot t x y (.lit (.int .u64 (a:Int))) (.lit (.int .u64 (b:Int)))=some (.lit (.int .u64 ((dv a b:Nat):Int))):=by
 rw[OI];have e:(BitVec.ofInt (IntKind.bits .u64) (a:Int) &&& ~~~ BitVec.ofInt (IntKind.bits .u64) (b:Int)).toNat=dv a b:=by
  show (BitVec.ofInt 64 _ &&& ~~~ BitVec.ofInt 64 _).toNat=_;rw[BitVec.ofInt_natCast,BitVec.ofInt_natCast];rfl
 rw[e,pX (BY a b)]
def kW {a s:Nat}(ha:a<2 ^ 64):bh P .shr t x y (.lit (.int .u64 (a:Int))) (.lit (.int k' (s:Int)))=some (.lit (.int .u64 ((a >>> s:Nat):Int))):=by
 rw[tH U,Int.toNat_natCast];have e:(a:Int).fdiv (2 ^ (min s (IntKind.bits .u64)))=((a >>> s:Nat):Int):=by
  rw[Int.fdiv_eq_ediv_of_nonneg _ (by exact_mod_cast RY _),RV];show (a:Int) / 2 ^ (min s 64)=_;rcases Nat.le_total s 64 with h|h
  ·rw[RO h];push_cast;rfl
  ·rw[Nat.min_eq_right h];have h1:a / 2 ^ s=0:=Nat.div_eq_of_lt (PL ha (P7 SY h));rw[h1];exact Int.ediv_eq_zero_of_lt U (U)
 rw[e]
def hZ {s:Nat}(hs:s<64):bh P .shl t x y (.lit (.int .u64 1)) (.lit (.int k' (s:Int)))=some (.lit (.int .u64 ((2 ^ s:Nat):Int))):=by
 rw[xm U,Int.toNat_natCast];have e:min s (IntKind.bits .u64)=s:=RO (by show s<=64;omega);have h2:2 ^ s<2 ^ 64:=Qk SY hs;rw[e,SW];have h3:((2:Int) ^ s)=((2 ^ s:Nat):Int):=by push_cast;rfl
 rw[h3,pX h2]
def qc {a s:Nat}(ha:a<2 ^ 64):bh P .and t x y (.lit (.int .u64 ((a >>> s:Nat):Int))) (.lit (.int .u64 1))=some (.lit (.int .u64 (if a.testBit s then 1 else 0))):=by
 have h1:a >>> s<2 ^ 64:=RF (Nat.shiftRight_le _ _) ha;have:=pY (P:=P) (t:=t) (x:=x) (y:=y) (a:=a >>> s) (b:=1) h1 SY;rw[show (((1:Nat):Int))=1 from rfl]at this;rw[this,Nat.and_one_is_mod];congr 3;rw[Nat.testBit,Nat.and_comm,Nat.and_one_is_mod];rcases QE (a >>> s) with h|h<;>rw[h]<;>rfl
end
end Go.Hx
namespace Go.Proofs
open Go.Hx
variable {a b c n v:Int}{l:List Int}{i j:Nat}
def cS (H:S2)(b:S7)(L:List S7):(ext H (b :: L)).get H.C=some b:=dT H (b :: L) 0 (SX)
def BZ (l:List Int)(n:Nat):(ints l).take n=ints (l.take n):=by simp[ints]
def B0 (l:List Int)(n:Nat):(ints l).drop n=ints (l.drop n):=by simp[ints]
def bg {α:Type}{l:List α}{a:α}(h:l[i]?=some a):¬l=[]:=by rintro rfl;simp at h
def jl {x:Int}(h:i<l.length):setAt (ints l) i [.lit (.int .i64 x)]=ints (l.set i x):=by
 rw[dq (by simpa[ints] using h)];simp[ints,aa]
def B1 (w:Bool):oH w (some (.lit undef))=some false:=rfl
def bc (ns:List S3)(x:S3):List Int:=bd (ay ns) x.F
def pI:List Int->List Int->Int
 |_ :: cs,v :: vs=>v*aK cs+pI cs vs
 |_,_=>0
def AT:List Int->Int->List Int
 | [],_=>[]
 |c :: cs,i=>i / aK cs % c :: AT cs i
def lM (cs vs:List Int):Prop:=vs.length=cs.length/\∀(k:Nat) (c v:Int),cs[k]?=some c->vs[k]?=some v->0<=v/\v<c
def lM.tail {cs vs:List Int}(h:lM (c :: cs) (v :: vs)):lM cs vs:=⟨by simpa using h.1,fun k c v h1 h2=>h.2 (k+1) c v (by simpa using h1) (by simpa using h2)⟩
def lM.head {cs vs:List Int}(h:lM (c :: cs) (v :: vs)):0<=v/\v<c:=h.2 0 c v SX (SX)
def lM.pos {cs vs:List Int}(h:lM cs vs):∀c∈cs,1<=c:=fun c hc=>by
 obtain⟨k,hk⟩:=PU.1 hc;obtain⟨v,hv⟩:=aw (l:=vs) (i:=k) (by rw[h.1];exact aI hk);have:=h.2 k c v hk hv;omega
def eC (l:List Int):Prop:=l.length<=12/\∀x∈l,0<=x/\x<=8
def eC.prod (h:eC l):0<=aK l/\aK l<=68719476736:=by
 have h1:=wG (b:=8) U h.2;have h2:(8:Int) ^ l.length<=8 ^ 12:=by
  have:(8:Nat) ^ l.length<=8 ^ 12:=P7 SY h.1
  exact_mod_cast this
 exact⟨h1.1,Int.le_trans h1.2 h2⟩
theorem eC.take (h:eC l)(k:Nat):eC (l.take k):=⟨by have:=h.1;simp;omega,fun x hx=>h.2 x (P0 hx)⟩
theorem eC.drop (h:eC l)(k:Nat):eC (l.drop k):=⟨by have:=h.1;simp;omega,fun x hx=>h.2 x (Q2 hx)⟩
def xb (l:List Int)(hl:eC l)(H:S2)(K:S8->S2->Prop)(hK:K (.ret (aa (aK l))) H):ae Try.prog G0 76 [af l] H K:=by
 have l12:=hl.1;refine ae.st (n:=18) (rs:=[.tmp 2]) Try.func76 ?_;simp only[go_sem];refine W.aS 131064 (by rfl) (fun ρ H'=>H'=H/\∃k:Nat,ρ 4=aa k/\k<=l.length/\ρ 3=aa (aK (l.take k))) (fun ρ H=>l.length-(iv (ρ 4)).toNat) ?_ ?_
 ·simp only[go_sem];exact⟨0,rfl,U,by simp[kJ]⟩
 rintro ρ H' ⟨rfl,k,h4,hk,h3⟩;refine W.vs ?_;by_cases hb:(k:Int)<l.length
 ·obtain⟨c,hc⟩:=aw (l:=l) (i:=k) U;have hne:=bg hc;have b1:=(hl.take (k+1)).prod;rw[aT hc,fI]at b1;simp only[go_sem,h4,h3,hb,hc,hne];rw[PD ((k:Int)+1) U,PD (_*c) U];exact⟨⟨k+1,SX,U,by rw[aT hc,fI]⟩,U⟩
 ·simp only[go_sem,h4,h3,hb];rw[PF U];exact av.mk S0 hK
def xc (x y:List Int)(hx:(x.length:Int)<2 ^ 62)(H:S2)(K:S8->S2->Prop)(hK:K (.ret (.lit (.bool (decide (x=y))))) H):ae Try.prog G0 30 [af x,af y] H K:=by
 have no:¬x=y->av Try.prog G0 H K (.lit (.bool false)) H:=fun h=>av.mk S0 (by rw[QH h]at hK;exact hK);refine ae.st (n:=26) (rs:=[.tmp 4]) Try.func30 ?_;by_cases hl:(x.length:Int)=y.length;rotate_left
 ·simp only[go_sem,hl];exact no fun h=>hl (by rw[h])
 simp only[go_sem,hl];refine W.aS 67100720 (by rfl) (fun ρ H'=>H'=H/\∃k:Nat,ρ 13=aa k/\k<=x.length/\x.take k=y.take k) (fun ρ H=>x.length-(iv (ρ 13)).toNat) ?_ ?_
 ·simp only[go_sem];exact⟨0,rfl,U,rfl⟩
 rintro ρ H' ⟨rfl,k,h13,hk,ht⟩;refine W.vs ?_;by_cases hb:(k:Int)<y.length
 ·obtain⟨a,ha⟩:=aw (l:=x) (i:=k) U;obtain⟨b,hbk⟩:=aw (l:=y) (i:=k) U;have hxn:=bg ha;have hyn:=bg hbk;have hbx:(k:Int)<x.length:=U
  simp only[go_sem,h13,hb];refine W.dr 8 [0,0,3,7,0,0,48,112] Try.mixed ?_;by_cases he:a=b
  ·subst he;simp only[go_sem,h13,hb,hbx,ha,hbk,hxn,hyn];rw[PD ((k:Int)+1) U];exact⟨⟨k+1,SX,U,by rw[aT ha,aT hbk,ht]⟩,U⟩
  ·simp only[go_sem,hb,hbx,ha,hbk,hxn,hyn,he];exact no fun h=>he (by rw[h,hbk]at ha;exact(Option.some.inj ha).symm)
 ·simp only[go_sem,h13,hb];refine av.mk S0 ?_;have:x=y:=by
   rw[PF U,PF U]at ht;exact ht
  rw[QD this]at hK;exact hK
def BI (x:List Int)(hx:(x.length:Int)<2 ^ 40)(H:S2)(K:S8->S2->Prop)(hK:K (.ret (af x)) H):ae Try.prog G0 61 [af x] H K:=by
 refine ae.nl ⟨_,Try.func61,rfl,rfl⟩ fun hc=>?_;refine ae.st (n:=8) (rs:=[.tmp 2]) Try.func61 ?_;simp only[go_sem];intro b hlen;cases b with
 |true =>
  have hx0:x=[]:=PH (by
   by_cases h:0<x.length
   ·have:=hlen (by simpa using h);cases this
   ·omega)
  simp only[go_sem];subst hx0;exact av.GQ aZ hc .uT hK
 |false =>
  by_cases h0:x.length=0
  ·have hx0:x=[]:=PH h0;subst hx0;simp only[go_sem,de];refine⟨⟨rfl,rfl⟩,av.drop (v':=af []) aZ hc ?_ hK⟩;exact .ints S0 (cS ..) rfl fun i hi=>absurd hi (PS _)
  ·simp only[go_sem,h0,de];refine⟨⟨rfl,U,U,jD x⟩,av.drop aZ hc ?_ hK⟩;exact .ints S0 (cS ..) rfl fun i hi=>by simp[fS,hi]
instance placesDec (l:List Int)(n:Int):Decidable (bG l n):=by unfold bG;infer_instance
theorem bG.nil :bG [] n:=⟨.nil,fun _ h=>by cases h⟩
theorem bG.take (h:bG l n)(k:Nat):bG (l.take k) n:=⟨h.1.sublist (List.take_sublist k l),fun p hp=>h.2 p (P0 hp)⟩
def bG.snoc (h:bG l n)(ha:0<=a/\a<n)(hl:∀b,l.getLast?=some b->b<a):bG (l++[a]) n:=by
 refine⟨Rc.2 ⟨h.1,SX,fun x hx y hy=>?_⟩,fun p hp=>?_⟩
 ·obtain rfl:=List.mem_singleton.1 hy;rcases SL l with rfl|⟨l',b,rfl⟩
  ·cases hx
  ·have hb:=hl b SX;simp only[SM]at hx h;rcases PT.1 hx with hx|hx
   ·have:=(Rc.1 h.1).2.2 x hx b SX;omega
   ·obtain rfl:=List.mem_singleton.1 hx;exact hb
 ·rcases PT.1 hp with hp|hp
  ·exact h.2 p hp
  ·obtain rfl:=List.mem_singleton.1 hp;exact ha
def bG.lt (h:bG l n)(ha:l[i]?=some a)(hb:l[j]?=some b)(hij:i<j):a<b:=by
 have:=RX.1 h.1 i j (aI ha) (aI hb) hij;have e1:=PB (aI ha);have e2:=PB (aI hb);rw[ha]at e1;rw[hb]at e2;rw[Option.some.inj e1,Option.some.inj e2];exact this
def bG.len (h:bG l n):(l.length:Int)<=max n 0:=by
  -- the k-th place is at least k
 have key:∀(k:Nat) (a:Int),l[k]?=some a->(k:Int)<=a:=by
  intro k
  induction k with
  |zero=>intro a ha;have:=h.2 a (PA ha);omega
  |succ k ih =>
   intro a ha;obtain⟨b,hb⟩:=aw (l:=l) (i:=k) (by have:=aI ha;omega);have:=ih b hb;have:=h.lt hb ha U;omega
 rcases QN l.length with h0|h0
 ·omega
 ·obtain⟨a,ha⟩:=aw (l:=l) (i:=l.length-1) U;have h1:=key _ a ha;have h2:=h.2 a (PA ha);omega
def pR (h:l[j]?=some b):(l.take (j+1)).getLast?=some b:=by rw[aT h];simp
def BJ (l:List Int)(n:Int)(hl:(l.length:Int)<2 ^ 62)(H:S2)(K:S8->S2->Prop)(hK:K (.ret (.lit (.bool (decide (bG l n))))) H):ae Try.prog G0 74 [af l,aa n] H K:=by
 have no:¬bG l n->av Try.prog G0 H K (.lit (.bool false)) H:=fun h=>av.mk S0 (by rw[QH h]at hK;exact hK);refine ae.st (n:=41) (rs:=[.tmp 4]) Try.func74 ?_;simp only[go_sem];refine W.aS 2199023255536 (by rfl) (fun ρ H'=>H'=H/\∃k:Nat,ρ 5=aa k/\k<=l.length/\bG (l.take k) n) (fun ρ H=>l.length-(iv (ρ 5)).toNat) ?_ ?_
 ·simp only[go_sem];exact⟨0,rfl,U,.nil⟩
 rintro ρ H' ⟨rfl,k,h5,hk,hp⟩;refine W.vs ?_;by_cases hb:(k:Int)<l.length
 ·obtain⟨a,ha⟩:=aw (l:=l) (i:=k) U;have hne:=bg ha;have ham:=PA ha;simp only[go_sem,h5,hb];refine W.dr 26 [0,0,3,7,15,31,63,63,255,511,63,2047,4095,8191,16383,32767,65535,131071,131071,524287,1048575,131071,131071,4325375,14811135,31588351] Try.mixed ?_;by_cases c1:a<0
  ·simp only[go_sem,h5,hb,ha,hne,c1,B1];exact no fun h=>by have:=h.2 a ham;omega
  by_cases c2:a >= n
  ·simp only[go_sem,h5,hb,ha,hne,c1,c2,B1];exact no fun h=>by have:=h.2 a ham;omega
  by_cases c3:(k:Int) > 0
  ·obtain⟨j,rfl⟩:∃j,k=j+1:=⟨k-1,U⟩
   obtain⟨b,hbj⟩:=aw (l:=l) (i:=j) U;have w1:=PD (j:Int) U;have w2:=PD (((j+1:Nat):Int)+1) U;have e1:((j+1:Nat):Int)-1=j:=U;have hb1:(j:Int)<l.length:=U;have hbj':=hbj;by_cases c4:a<=b
   ·simp only[go_sem,h5,hb,ha,hne,c1,c2,c3,c4,w1,e1,hb1,hbj];exact no fun h=>by have:=h.lt hbj ha U;omega
   ·simp only[go_sem,h5,hb,ha,hne,c1,c2,c3,c4,w1,w2,e1,hb1,hbj];refine⟨⟨j+1+1,SX,U,?_⟩,U⟩;rw[aT ha];exact hp.snoc U fun b' hb'=>by
     rw[pR hbj]at hb';cases hb';omega
  ·simp only[go_sem,h5,hb,ha,hne,c1,c2,c3];rw[PD ((k:Int)+1) U];obtain rfl:k=0:=U;refine⟨⟨1,SX,U,?_⟩,U⟩;rw[aT ha];exact hp.snoc U fun b' hb'=>by simp at hb'
 ·simp only[go_sem,h5,hb];rw[PF U]at hp;rw[QD hp]at hK;exact av.mk S0 hK
def BK (l:List Int)(n:Int)(hl:(l.length:Int)<2 ^ 62)(H:S2)(K:S8->S2->Prop)(hK:K (.ret (.lit (.bool (decide (bG l n))))) H):ae Try.prog G0 86 [af l,aa n] H K:=by
 have no:¬bG l n->av Try.prog G0 H K (.lit (.bool false)) H:=fun h=>av.mk S0 (by rw[QH h]at hK;exact hK);refine ae.st (n:=24) (rs:=[.tmp 4]) Try.func86 ?_;simp only[go_sem];refine W.aS 16776368 (by rfl) (fun ρ H'=>H'=H/\∃(k:Nat) (b:Int),ρ 10=aa k/\k<=l.length/\ρ 5=aa b/\bG (l.take k) n/\(l.take k).getLast?.getD (-1)=b) (fun ρ H=>l.length-(iv (ρ 10)).toNat) ?_ ?_
 ·simp only[go_sem];exact⟨0,-1,rfl,U,rfl,.nil,rfl⟩
 rintro ρ H' ⟨rfl,k,b,h10,hk,h5,hp,hbl⟩;refine W.vs ?_;by_cases hb:(k:Int)<l.length
 ·obtain⟨a,ha⟩:=aw (l:=l) (i:=k) U;have hne:=bg ha;have ham:=PA ha;by_cases c1:a<=b
  ·simp only[go_sem,h10,h5,hb,ha,hne,c1];refine no fun h=>?_;have h0:=h.2 a ham;rcases QN k with rfl|hk0
   ·simp at hbl;omega
   ·obtain⟨j,rfl⟩:∃j,k=j+1:=⟨k-1,U⟩
    obtain⟨b',hbj⟩:=aw (l:=l) (i:=j) U;rw[pR hbj]at hbl;have:=h.lt hbj ha U;simp at hbl;omega
  by_cases c2:a >= n
  ·simp only[go_sem,h10,h5,hb,ha,hne,c1,c2];exact no fun h=>by have:=h.2 a ham;omega
  have w1:=PD ((k:Int)+1) U;simp only[go_sem,h10,h5,hb,ha,hne,c1,c2,w1];have h0:0<=a:=by
   rcases hg:(l.take k).getLast? with _|b'
   ·rw[hg]at hbl;simp at hbl;omega
   ·rw[hg]at hbl;have:=hp.2 b' (SO hg);simp at hbl;omega
  refine⟨⟨k+1,a,SX,U,rfl,?_,by rw[pR ha];rfl⟩,U⟩;rw[aT ha];exact hp.snoc ⟨h0,U⟩ fun b' hb'=>by rw[hb']at hbl;simp at hbl;omega
 ·simp only[go_sem,h10,hb];rw[PF U]at hp;rw[QD hp]at hK;exact av.mk S0 hK
end Go.Proofs
namespace Go.Hx
variable {g id:Nat}{H H':S2}
theorem S6.nn (h:S6 H H')(hi:id<H.C):H'.nn id g=H.nn id g:=by
 unfold S2.nn;rw[h.nf id hi]
theorem S6.upd (h:S6 H H')(hi:H.C<=id)(b:S7):S6 H (H'.upd id b):=⟨h.C,fun j hj=>by rw[ab,PC U];exact h.nf j hj⟩
def xq {e:TypeId}{c:List S1}:(H.upd id (.L g e c)).nn id g=some (e,c):=ag (by rw[ab,PG rfl])
def qd {j:Nat}{b:S7}(h:j≠id):(H.upd id b).nn j g=H.nn j g:=by unfold S2.nn;rw[ab,PC h]
attribute [go_sem] xq
@[go_sem] theorem Pz (a b:Array TypeId)(c:Bool)(n:Nat)(cells:List S1)(off:Nat):jF (some (.func a b c)) n cells off=cells[off]?:=rfl
end Go.Hx
namespace Go.Proofs
open Go.Hx
variable {c l:List Int}{ps:List Nat}{a done i id k m n t:Nat}{v:S1}{H H':S2}
def lV {H2:S2}{e:TypeId}{cs:List S1}(ov:S6 H H')(h:au H.C H' e v cs)(hn:H'.C<=H2.C)(hp:∀k,k<H'.C->(∀g n,v≠.V k g 0 n 1)->H2.get k=H'.get k):S6 H H2 :=
 ⟨Qm ov.C hn,fun id hi=>by
  rw[hp id (PL hi ov.C) fun g n he=>?_,ov.nf id hi];rcases h with ⟨h,_⟩|⟨i2,g2,a1,_,h,_⟩
  ·rw[h]at he;cases he
  ·rw[h]at he;have:=S1.V.inj he;omega⟩
def gO (x:Int)(ov:S6 H H')(h:au H.C H' 3 v (ints l))(hl:l.length<2 ^ 40):
  ∃v' H2,bf Try.prog (ext H' [.L 0 3 [.lit (.int .i64 x)]]) (H'.C+1) 59 59 v (.V H'.C 0 0 1 1)=some (v',H2)/\S6 H H2/\au H.C H2 3 v' (ints (l++[x]))/\H'.C<=H2.C/\(∀k,k<H'.C->(∀g n,v≠.V k g 0 n 1)->H2.get k=H'.get k):=by
 obtain⟨v',H2,hA,hO,hn2,hp⟩:=fT (P:=Try.prog) (H:=H') (t:=59) (x:=aa x) (n:=H'.C+1) Try.underlying59 Try.dx Try.dL rfl (by rw[Try.ei,aY];omega) h ov.C rfl;simp only[aa]at hA;exact⟨v',H2,hA,lV ov h hn2 hp,by simpa[ints,aa] using hO,hn2,hp⟩
def OK (l:List (List Int)):(az l).one=true:=rfl
def OL (l:List (List Int)):(az l).cells=[az l]:=rfl
def OM (l:List S3):(cG l).one=true:=rfl
def ON (l:List S3):(cG l).cells=[cG l]:=rfl
def OO (l:List Tl):(sR l).one=true:=rfl
theorem OP (l:List Tl):(sR l).cells=[sR l]:=rfl
attribute [go_sem] OK OL OM ON OO OP
structure Tw (H H':S2)(id:Nat)(c:List Int):Prop where
 ov:S6 H H'
 lo:H.C<=id
 hi:id<H'.C
 get:H'.get id=some (.L 0 3 (ints c))
theorem Tw.nn (h:Tw H H' id c):H'.nn id 0=some (3,ints c):=ag h.get
def Tw.ne (h:Tw H H' id c):¬id=H'.C:=by have:=h.hi;omega
def Tw.over {H2:S2}(h:Tw H H' id c)(o:S6 H' H2):Tw H H2 id c:=⟨h.ov.trans o,h.lo,PL h.hi o.C,(o.nf id h.hi).trans h.get⟩
def Tw.store (h:Tw H H' id c)(hk:k<c.length)(x:Int):Tw H (H'.upd id (.L 0 3 (setAt (ints c) k [.lit (.int .i64 x)]))) id (c.set k x) :=
 ⟨⟨h.ov.C,fun i hi=>by rw[ab,PC (by have:=h.lo;omega)];exact h.ov.nf i hi⟩,h.lo,h.hi,by rw[ab,PG rfl,jl hk]⟩
def Tw.new (L:List S7)(n:Nat):Tw H (ext H (.L 0 3 (List.replicate n (.lit (.int .i64 0))) :: L)) H.C (List.replicate n 0) :=
 ⟨.ext _ _,S0,by simp[bB],by rw[cS];simp[ints,aa]⟩
def Tw.fin {K:S8->S2->Prop}(hcl:TI H)(h:Tw H H' id c)(hn:n=c.length)(hK:K (.ret (af c)) H):av Try.prog G0 H K (.V id 0 0 n 1) H':=by
 subst hn;refine av.bQ aZ hcl h.ov ?_ hK;exact .ints h.lo h.get SX fun i hi=>by simp[fS,hi]
def OQ {m:List Int}{x:Int}(h:l.take k=m.take k)(hk:k<l.length)(hx:m[k]?=some x):(l.set k x).take (k+1)=m.take (k+1):=by
 rw[aT hx,aT (show (l.set k x)[k]?=some x by rw[PO hk]),RP (Nat.le_refl k),h]
def cw {α:Type}{l:List α}{a d:α}(h:l[i]?=some a):l.getD i d=a:=by rw[Qh,h];rfl
def BL {places:List Int}{p:Int}(h:places[k]?=some p):bd l (places.take (k+1))=bd l (places.take k)++[l.getD p.toNat 0]:=by
 unfold bd;rw[aT h];simp
def dp {ns:List S3}{x:S3}(h:ns[k]?=some x):(ay ns)[k]?=some x.J:=by unfold ay;rw[List.getElem?_map,h];rfl
def fL (ns:List S3):(ay ns).length=ns.length:=by simp[ay]
def BM (l p:List Int)(hl:(l.length:Int)<2 ^ 40)(hp:(p.length:Int)<2 ^ 39)(hin:∀q∈p,0<=q/\q<l.length)(H:S2)(K:S8->S2->Prop)(hK:K (.ret (af (bd l p))) H):ae Try.prog G0 90 [af l,af p] H K:=by
 refine ae.nl ⟨_,Try.func90,rfl,rfl⟩ fun hcl=>?_;refine ae.st (n:=24) (rs:=[.tmp 4]) Try.func90 ?_;simp only[go_sem];refine W.aS 8388576 (by rfl) (fun ρ H'=>∃k:Nat,ρ 6=aa k/\k<=p.length/\S6 H H'/\au H.C H' 3 (ρ 5) (ints (bd l (p.take k)))) (fun ρ H=>p.length-(iv (ρ 6)).toNat) ?_ ?_
 ·simp only[go_sem];exact⟨0,rfl,U,.refl _,.nil⟩
 rintro ρ H' ⟨k,h6,hk,ov,h5⟩;refine W.vs ?_;by_cases hb:(k:Int)<p.length
 ·obtain⟨q,hq⟩:=aw (l:=p) (i:=k) U;obtain⟨j,rfl,a,ha⟩:=nE (hin q (PA hq)).1 (hin q (PA hq)).2;have hne:=bg hq;have hne2:=bg ha;have hj:=aI ha;have hj':(j:Int)<l.length:=U
  obtain⟨v',H2,hA,ov2,hO,hn2,_⟩:=gO a ov h5 (by simp[bd];omega);have w1:=PD ((k:Int)+1) U;simp only[go_sem,h6,hb,hq,hne,ha,hne2,hj',w1,hA];refine⟨by have:=ov2.C;omega,⟨k+1,SX,U,ov2,?_⟩,U⟩;rw[BL hq,Int.toNat_natCast,cw ha];exact hO
 ·simp only[go_sem,h6,hb];rw[PF U]at h5;exact av.bQ aZ hcl ov (h5.dI fun i hi=>hi) hK
def tC (g:Int)(ns:List S3)(hl:(ns.length:Int)<2 ^ 39)(H:S2)(K:S8->S2->Prop)(hK:K (.ret (af (ay ns))) H):ae Try.prog G0 56 [bS g ns] H K:=by
 refine ae.nl ⟨_,Try.func56,rfl,rfl⟩ fun hcl=>?_;refine ae.st (n:=22) (rs:=[.tmp 2]) Try.func56 ?_;simp only[go_sem,bS,cG];obtain⟨H1,hH1⟩:∃H1,H1=ext H [.L 0 64 [.lit (.int .i64 g),.M ns.length (aL ns)]]:=⟨_,rfl⟩
 have l1:H1.nn H.C 0=some (64,[.lit (.int .i64 g),.M ns.length (aL ns)]):=by rw[hH1];exact ag (cS ..)
 have n1:H1.C=H.C+1:=hH1▸rfl
 have o1:S6 H H1:=hH1▸.ext _ _
 rw[<- hH1];refine W.aS 2097144 (by rfl) (fun ρ H'=>∃k:Nat,ρ 4=aa k/\k<=ns.length/\ρ 1=.Y H.C 0 0/\S6 H1 H'/\au H1.C H' 3 (ρ 3) (ints ((ay ns).take k))) (fun ρ H=>ns.length-(iv (ρ 4)).toNat) ?_ ?_
 ·simp only[go_sem];exact⟨0,rfl,U,.refl _,.nil⟩
 rintro ρ H' ⟨k,h4,hk,h1,ov,h3⟩;refine W.vs ?_;have l2:=(ov.nn (g:=0) (by omega:H.C<H1.C)).trans l1;by_cases hb:(k:Int)<ns.length
 ·obtain⟨x,hx⟩:=aw (l:=ns) (i:=k) U;have hne:=eo hx;have e0:=jK hx;obtain⟨v',H2,hA,ov2,hO,hn2,_⟩:=gO x.J ov h3 (by simp[ay];omega);have w1:=PD ((k:Int)+1) U;simp only[go_sem,h4,h1,l2,hb,hne,e0,w1,hA];refine⟨by have:=ov2.C;omega,⟨k+1,SX,U,ov2,?_⟩,U⟩;rw[aT (dp hx)];exact hO
 ·simp only[go_sem,h4,h1,l2,hb];rw[PF (by rw[fL];omega)]at h3;exact av.bQ aZ hcl (o1.trans ov) (h3.dI fun i hi=>U) hK
def kT (l:List Int)(n:Nat):Prop:=∀q∈l,0<=q/\q<n
def jV (l p:List Int):(bd l p).length=p.length:=by simp[bd]
def xd {p:List Int}{q:Int}(h:p[k]?=some q):(bd l p)[k]?=some (l.getD q.toNat 0):=by unfold bd;rw[List.getElem?_map,h];rfl
def Oi (g:Int)(ns:List S3)(v:Nat)(x:S3)(hx:ns[v]?=some x)(hl:(ns.length:Int)<2 ^ 39)(hp:(x.F.length:Int)<2 ^ 39)(hin:kT x.F ns.length)(H:S2)(K:S8->S2->Prop)
  (hK:K (.ret (af (bc ns x))) H):ae Try.prog G0 77 [bS g ns,aa v] H K:=by
 refine ae.nl ⟨_,Try.func77,rfl,rfl⟩ fun hcl=>?_;have hne:=eo hx;have e1:=iI hx;have hv:(v:Int)<ns.length:=by have:=aI hx;omega
 refine ae.st (n:=14) (rs:=[.tmp 4]) Try.func77 ?_;simp only[go_sem,bS,cG];refine W.dr 8 [0,1,0,4,0,28,60,124] Try.mixed ?_;simp only[go_sem];refine⟨af (ay ns),[],cD.pure fun H2=>tC g ns hl H2 _ ⟨rfl,rfl⟩,?_⟩;simp only[go_sem,hv,hne,e1];refine aH.nl (BM (ay ns) x.F (by rw[fL];omega) hp (by rw[fL];exact hin) _ _ ⟨trivial,?_⟩);simp only[go_sem];exact av.bQ aZ hcl (.ext _ _) (.cO _) hK
def Oj (ns:List S3)(v:Nat)(x:S3)(hx:ns[v]?=some x)(hin:kT x.F ns.length)(hs:eC (bc ns x))(H:S2)(K:S8->S2->Prop)
  (hK:K (.ret (aa (aK (bc ns x)))) H):ae Try.prog G0 52 [cG ns,aa v] H K:=by
 have hne:=eo hx;have e1:=iI hx;have hv:(v:Int)<ns.length:=by have:=aI hx;omega
 have l12:=hs.1;have pl:(bc ns x).length=x.F.length:=jV _ _;refine ae.st (n:=27) (rs:=[.tmp 4]) Try.func52 ?_;simp only[go_sem,cG,hv,hne,e1];refine W.aS 67092640 (by rfl) (fun ρ H'=>H'=H/\∃k:Nat,ρ 14=aa k/\k<=x.F.length/\ρ 5=aa (aK ((bc ns x).take k))) (fun ρ H=>x.F.length-(iv (ρ 14)).toNat) ?_ ?_
 ·simp only[go_sem];exact⟨0,rfl,U,by simp[kJ]⟩
 rintro ρ H' ⟨rfl,k,h14,hk,h5⟩;refine W.vs ?_;by_cases hb:(k:Int)<x.F.length
 ·obtain⟨q,hq⟩:=aw (l:=x.F) (i:=k) U;obtain⟨j,rfl,y,hy⟩:=nE (l:=ns) (hin q (PA hq)).1 (hin q (PA hq)).2;have hne2:=bg hq;have hj:(j:Int)<ns.length:=by have:=aI hy;omega
  have e0:=jK hy;have pk:(bc ns x)[k]?=some y.J:=by
   rw[show (bc ns x)[k]?=_ from xd hq,Int.toNat_natCast,cw (dp hy)]
  have b1:=(hs.take (k+1)).prod;rw[aT pk,fI]at b1;have w1:=PD ((k:Int)+1) U;have w2:=PD (aK ((bc ns x).take k)*y.J) U;simp only[go_sem,h14,h5,hb,hq,hne,hne2,hj,e0,w1,w2];exact⟨⟨k+1,SX,U,by rw[aT pk,fI]⟩,U⟩
 ·simp only[go_sem,h14,h5,hb];rw[PF U];exact av.mk S0 hK
def bj (l:List Int):Nat:=l.foldl (fun s p=>s |||2 ^ p.toNat) 0
def Mt (l:List Int):∀(s i:Nat),(l.foldl (fun s p=>s |||2 ^ p.toNat) s).testBit i=(s.testBit i ||l.any fun p=>p.toNat == i):=by
 induction l with
 |nil=>intro s i;simp
 |cons p l ih =>
  intro s i;simp only[Q6,ih,Qg,Rj,List.any_cons];rw[Bool.or_assoc];congr 1
def ji (h:∀p∈l,0<=p)(i:Nat):(bj l).testBit i=decide ((i:Int)∈l):=by
 unfold bj;rw[Mt];simp only[QJ,SH];rw[Rs];simp only[List.any_eq_true,beq_iff_eq,decide_eq_true_eq];constructor
 ·rintro⟨p,hp,rfl⟩;have:=h p hp;rw[Int.toNat_of_nonneg this];exact hp
 ·intro hi;exact⟨_,hi,SX⟩
def sV (l:List Int)(p:Int):bj (l++[p])=bj l |||2 ^ p.toNat:=by unfold bj;rw[QL];rfl
def wH (h:∀i,m.testBit i=true->i<n):m<2 ^ n:=by
 apply RW;intro i hi;rcases QB (m.testBit i) with e|e
 ·exact absurd (h i e) (U)
 ·exact e
def kK (h:∀p∈l,0<=p/\p<n):bj l<2 ^ n:=wH fun i hi=>by
 rw[ji fun p hp=>(h p hp).1]at hi;have:=(h _ (of_decide_eq_true hi)).2;omega
def kL (h:m<2 ^ n)(hi:m.testBit i=true):i<n:=by
 rcases PZ i n with h'|h'
 ·exact h'
 ·rw[R9 (PL h (P7 SY h'))]at hi;cases hi
def Sub (s t:Nat):Prop:=∀i,s.testBit i=true->t.testBit i=true
def Sub.refl (s:Nat):Sub s s:=fun _ h=>h
def Sub.trans {s u:Nat}(h:Sub s t)(h':Sub t u):Sub s u:=fun i hi=>h' i (h i hi)
def Sub.or {s u:Nat}(h:Sub s u)(h':Sub t u):Sub (s |||t) u:=fun i hi=>by
 rw[Qg,QI]at hi;exact hi.elim (h i) (h' i)
def Sub.left (s t:Nat):Sub s (s |||t):=fun i hi=>by rw[Qg,hi];rfl
def Sub.right (s t:Nat):Sub t (s |||t):=fun i hi=>by rw[Qg,hi];simp
def Sub.antisymm {s:Nat}(h:Sub s t)(h':Sub t s):s=t:=Q1 fun i=>by
 rw[Rs];exact⟨h i,h' i⟩
def sW {b:Nat}(ha:a<2 ^ 64):dv a b=0↔Sub a b:=by
 constructor
 ·intro h i hi;have:=xo (a:=a) (b:=b) (i:=i) ha;rw[h,QJ,hi]at this;simpa using this.symm
 ·intro h;apply Q1;intro i;rw[xo ha,QJ];cases hi:a.testBit i
  ·rfl
  ·rw[h i hi];rfl
def ep (ps:List Nat)(s v:Nat):Nat:=if s.testBit v=true then s |||ps.getD v 0 else s
def dX (ps:List Nat)(s:Nat):Nat:=(List.range ps.length).foldl (ep ps) s
def dA (ps:List Nat):Nat->Nat->Nat
 |0,s=>s
 |k+1,s=>dX ps (dA ps k s)
def fw (ps:List Nat)(s:Nat):Nat:=dA ps ps.length s
def jM (ps:List Nat):Prop:=∀v,v<ps.length->(fw ps (ps.getD v 0)).testBit v=false
def kM (ps:List Nat)(t:Nat):Prop:=∀v,v<ps.length->t.testBit v=true->Sub (ps.getD v 0) t
def AU (ps:List Nat)(s v:Nat):Sub s (ep ps s v):=by unfold ep;split;exact .left _ _;exact .refl _
def AV (ps:List Nat)(l:List Nat):∀s,Sub s (l.foldl (ep ps) s):=by
 induction l with
 |nil=>exact fun s=>.refl s
 |cons v l ih=>exact fun s=>(AU ps s v).trans (ih _)
def wI (ps:List Nat)(s:Nat):Sub s (dX ps s):=AV ps _ s
def Mu (hc:kM ps t)(l:List Nat)(hl:∀v∈l,v<ps.length):∀s,Sub s t->Sub (l.foldl (ep ps) s) t:=by
 induction l with
 |nil=>exact fun s h=>h
 |cons v l ih =>
  intro s h;refine ih (fun v hv=>hl v (by simp[hv])) _ ?_;unfold ep;split
  ·rename_i hv;exact h.or (hc v (hl v SX) (h v hv))
  ·exact h
def Mv (hc:kM ps t){s:Nat}(h:Sub s t):Sub (dX ps s) t:=Mu hc _ (fun v hv=>Qq.1 hv) s h
def sX (hc:kM ps t)(k:Nat){s:Nat}(h:Sub s t):Sub (dA ps k s) t:=by
 induction k with
 |zero=>exact h
 |succ k ih=>exact Mv hc ih
def wJ (ps:List Nat)(k s:Nat):Sub s (dA ps k s):=by
 induction k with
 |zero=>exact .refl _
 |succ k ih=>exact ih.trans (wI _ _)
def Mw {s:Nat}(h:dX ps s=s):kM ps s:=by
 intro v hv hs;have key:∀(l:List Nat) (s0:Nat),v∈l->s0.testBit v=true->Sub (ps.getD v 0) (l.foldl (ep ps) s0):=by
  intro l
  induction l with
  |nil=>intro s0 h;cases h
  |cons u l ih =>
   intro s0 hm hb;rcases List.mem_cons.1 hm with rfl|hm
   ·refine Sub.trans ?_ (AV ps l _);unfold ep;rw[PG hb];exact .right _ _
   ·exact ih _ hm (AU ps s0 u v hb)
 have:=key (List.range ps.length) s (Qq.2 hv) hs;unfold dX at h
 rwa [h]at this
def cL (n s:Nat):Nat:=(List.range n).countP fun i=>s.testBit i
def AW (n s:Nat):cL n s<=n:=by have:=List.countP_le_length (p:=fun i=>s.testBit i) (l:=List.range n);simpa[cL] using this
def Mx {l:List Nat}{p q:Nat->Bool}(h:∀x∈l,p x=true->q x=true)(ha:a∈l)(hp:p a=false)(hq:q a=true):l.countP p<l.countP q:=by
 induction l with
 |nil=>cases ha
 |cons x l ih =>
  have hm:l.countP p<=l.countP q:=List.countP_mono_left fun y hy=>h y (by simp[hy]);rcases List.mem_cons.1 ha with rfl|ha
  ·rw[Q9,Q9,hp,hq];simp;omega
  ·have:=ih (fun y hy=>h y (by simp[hy])) ha;have hx:=h x SX;rw[Q9,Q9];cases hpx:p x
   ·simp;omega
   ·rw[hx hpx];simp;omega
def pJ {s:Nat}(h:Sub s t)(hi:i<n)(h0:s.testBit i=false)(h1:t.testBit i=true):cL n s<cL n t :=
 Mx (fun x _ hx=>h x hx) (Qq.2 hi) h0 h1
def My (hp:∀p∈ps,p<2 ^ ps.length){s:Nat}(hs:s<2 ^ ps.length):kM ps (fw ps s):=by
 have hb:∀k,dA ps k s<2 ^ ps.length:=fun k=>by
  have ht:kM ps (2 ^ ps.length-1):=fun v _ _ i hi=>by
   rw[Q4];have:ps.getD v 0<2 ^ ps.length:=by
    rw[Qh];cases h:ps[v]? with
    |none=>exact Sx _
    |some p=>exact hp p (PA h)
   simpa using kL this hi
  have:=sX ht k (s:=s) fun i hi=>by rw[Q4];simpa using kL hs hi
  exact wH fun i hi=>by have:=this i hi;rw[Q4]at this;simpa using this
 have key:∀k,dX ps (dA ps k s)=dA ps k s\/k+1<=cL ps.length (dA ps k s):=by
  have grow:∀t,t<2 ^ ps.length->dX ps t<2 ^ ps.length->dX ps t≠t->cL ps.length t<cL ps.length (dX ps t):=fun t ht ht' hne=>by
   have:∃i,(dX ps t).testBit i=true/\t.testBit i=false:=by
    refine Qa fun hno=>hne (Sub.antisymm (fun i hi=>?_) (wI ps t));rcases QB (t.testBit i) with e|e
    ·exact e
    ·exact absurd ⟨i,hi,e⟩ hno
   obtain⟨i,h1,h0⟩:=this;exact pJ (wI ps t) (kL ht' h1) h0 h1
  intro k
  induction k with
  |zero =>
   by_cases h0:s=0
   ·left;subst h0;show dX ps 0=0;unfold dX;have:∀l:List Nat,l.foldl (ep ps) 0=0:=fun l=>by
     induction l with
     |nil=>rfl
     |cons v l ih=>simp only[Q6,ep,QJ,Bool.false_eq_true,if_false];exact ih
    exact this _
   ·right;obtain⟨i,hi⟩:=Nat.exists_testBit_of_ne_zero h0;have:cL ps.length 0<cL ps.length s:=pJ (fun j hj=>by rw[QJ]at hj;cases hj) (kL hs hi) (QJ i) hi;show 0+1<=cL ps.length s;omega
  |succ k ih =>
   rcases ih with ih|ih
   ·left;show dX ps (dX ps (dA ps k s))=dX ps (dA ps k s);rw[ih];exact ih
   ·by_cases hf:dX ps (dA ps k s)=dA ps k s
    ·left;show dX ps (dX ps (dA ps k s))=dX ps (dA ps k s);rw[hf];exact hf
    ·right;have:=grow _ (hb k) (hb (k+1)) hf;show k+1+1<=cL ps.length (dX ps (dA ps k s));omega
 rcases key ps.length with h|h
 ·exact Mw h
 ·have:=AW ps.length (dA ps ps.length s);omega
def gH (ps:List Nat)(done v:Nat):Bool:=!done.testBit v && decide (dv (ps.getD v 0) done=0)
def iJ (ps:List Nat)(done:Nat):Option Nat:=(List.range ps.length).find? (gH ps done)
def fy (ps:List Nat):Nat->List Nat->Nat->Option (List Nat)
 |0,out,_=>some out
 |k+1,out,done=>match iJ ps done with
  |none=>none
  |some v=>fy ps k (out++[v]) (done |||2 ^ v)
def dM (ps:List Nat):Option (List Nat):=fy ps ps.length [] 0
def wK {v:Nat}(hp:∀p∈ps,p<2 ^ 64)(h:iJ ps done=some v):v<ps.length/\done.testBit v=false/\Sub (ps.getD v 0) done:=by
 unfold iJ at h;have h1:=SC h;have h2:=List.find?_some h;unfold gH at h2;simp only[PV,Sp,decide_eq_true_eq]at h2;have hv:=Qq.1 h1;refine⟨hv,h2.1,(sW ?_).1 h2.2⟩;rw[Qh];cases h:ps[v]? with
 |none=>decide
 |some p=>exact hp p (PA h)
def Mz (hp:∀p∈ps,p<2 ^ 64)(h:iJ ps done=none):∀v,v<ps.length->done.testBit v=true\/¬Sub (ps.getD v 0) done:=by
 intro v hv;unfold iJ at h;rw[RU]at h;have:=h v (Qq.2 hv);unfold gH at this;rcases QB (done.testBit v) with e|e
 ·exact .inl e
 ·right;intro hs;refine this ?_;rw[e,(sW ?_).2 hs]
  ·simp
  ·rw[Qh];cases h:ps[v]? with
   |none=>decide
   |some p=>exact hp p (PA h)
def fJ (d v i:Nat):(d |||2 ^ v).testBit i=(d.testBit i ||decide (v=i)):=by rw[Qg,Rj]
def MA (hp:∀p∈ps,p<2 ^ 64):∀(k:Nat) (out:List Nat) (done:Nat) (r:List Nat),fy ps k out done=some r->k+cL ps.length done=ps.length ->
  kM ps done->(∀v,v<ps.length->done.testBit v=true->(fw ps (ps.getD v 0)).testBit v=false)->jM ps:=by
 intro k
 induction k with
 |zero =>
  intro out done r _ hc hcl hall v hv;refine hall v hv ?_;rcases QB (done.testBit v) with e|e
  ·exact e
  ·have:cL ps.length done<cL ps.length (2 ^ ps.length-1 |||done):=pJ (.right _ _) hv e (by rw[Qg,Q4];simp[hv]);have:=AW ps.length (2 ^ ps.length-1 |||done);omega
 |succ k ih =>
  intro out done r h hc hcl hall;unfold fy at h;split at h
  ·cases h
  ·rename_i v hn;obtain⟨h1,h2,h3⟩:=wK hp hn;refine ih _ _ _ h ?_ ?_ ?_
   ·have:cL ps.length (done |||2 ^ v)=cL ps.length done+1:=by
     unfold cL;have:∀l:List Nat,l.Nodup->v∈l->l.countP (fun i=>(done |||2 ^ v).testBit i)=l.countP (fun i=>done.testBit i)+1:=by
      intro l
      induction l with
      |nil=>intro _ h;cases h
      |cons x l ihl =>
       intro hnd hmem;obtain⟨g1,g2⟩:=Rq.1 hnd;rw[Q9,Q9];rcases List.mem_cons.1 hmem with rfl|hm2
       ·have:l.countP (fun i=>(done |||2 ^ v).testBit i)=l.countP (fun i=>done.testBit i):=List.countP_congr fun y hy=>by
         have:¬v=y:=(by rintro rfl;exact g1 hy);simp[fJ,this]
        rw[this];simp[fJ,h2]
       ·have hx:¬v=x:=(by rintro rfl;exact g1 hm2);rw[ihl g2 hm2];simp[fJ,hx];omega
     exact this _ Sv (Qq.2 h1)
    omega
   ·intro u hu hb;rw[fJ,QI,decide_eq_true_eq]at hb;rcases hb with hb|rfl
    ·exact(hcl u hu hb).trans (.left _ _)
    ·exact h3.trans (.left _ _)
   ·intro u hu hb;rw[fJ,QI,decide_eq_true_eq]at hb;rcases hb with hb|rfl
    ·exact hall u hu hb
    ·have:=sX hcl ps.length h3;rcases QB ((fw ps (ps.getD v 0)).testBit v) with e|e
     ·have:=this v e;rw[h2]at this;cases this
     ·exact e
def MB (hp:∀p∈ps,p<2 ^ ps.length)(h64:ps.length<=64)(ha:jM ps):∀(k:Nat) (out:List Nat) (done:Nat),k+cL ps.length done=ps.length->∃r,fy ps k out done=some r:=by
 have hp64:∀p∈ps,p<2 ^ 64:=fun p h=>PL (hp p h) (P7 SY h64);have hpd:∀v,ps.getD v 0<2 ^ ps.length:=fun v=>by
  rw[Qh];cases h:ps[v]? with
  |none=>exact Sx _
  |some p=>exact hp p (PA h)
 intro k
 induction k with
 |zero=>exact fun out done _=>⟨out,rfl⟩
 |succ k ih =>
  intro out done hc;unfold fy;cases hn:iJ ps done with
  |none =>
   exfalso;have hno:=Mz hp64 hn
      -- every node that is left has a parent that is left
   have step:∀m v,v<ps.length->done.testBit v=false->cL ps.length (fw ps (ps.getD v 0))<=m->False:=by
    intro m
    induction m with
    |zero =>
     intro v hv hd hm;obtain⟨i,h1,h2⟩:∃i,(ps.getD v 0).testBit i=true/\done.testBit i=false:=by
      rcases hno v hv with h|h
      ·rw[hd]at h;cases h
      ·refine Qa fun hc=>h fun i hi=>?_;rcases QB (done.testBit i) with e|e
       ·exact e
       ·exact absurd ⟨i,hi,e⟩ hc
     have:cL ps.length 0<cL ps.length (fw ps (ps.getD v 0)):=pJ (fun j hj=>by rw[QJ]at hj;cases hj) (kL (hpd v) h1) (QJ i) (wJ ps _ _ i h1);omega
    |succ m ihm =>
     intro v hv hd hm;obtain⟨u,h1,h2⟩:∃i,(ps.getD v 0).testBit i=true/\done.testBit i=false:=by
      rcases hno v hv with h|h
      ·rw[hd]at h;cases h
      ·refine Qa fun hc=>h fun i hi=>?_;rcases QB (done.testBit i) with e|e
       ·exact e
       ·exact absurd ⟨i,hi,e⟩ hc
     have hu:=kL (hpd v) h1;have hcl:=My hp (hpd v);have hin:(fw ps (ps.getD v 0)).testBit u=true:=wJ ps _ _ u h1;have hsub:Sub (fw ps (ps.getD u 0)) (fw ps (ps.getD v 0)):=sX hcl _ (hcl u hu hin);have:=pJ hsub hu (ha u hu) hin;exact ihm u hu h2 (U)
   obtain⟨v,hv,hd⟩:∃v,v<ps.length/\done.testBit v=false:=by
    refine Qa fun hno=>?_;have:cL ps.length done=ps.length:=by
     unfold cL
     conv=>rhs;rw[<- Rf (n:=ps.length)]
     rw[List.countP_eq_length];intro x hx;rcases QB (done.testBit x) with e|e
     ·exact e
     ·exact absurd ⟨x,Qq.1 hx,e⟩ hno
    omega
   exact step _ v hv hd (Nat.le_refl _)
  |some v =>
   obtain⟨h1,h2,h3⟩:=wK hp64 hn;refine ih _ _ ?_;have:cL ps.length (done |||2 ^ v)=cL ps.length done+1:=by
    unfold cL;have:∀l:List Nat,l.Nodup->v∈l->l.countP (fun i=>(done |||2 ^ v).testBit i)=l.countP (fun i=>done.testBit i)+1:=by
     intro l
     induction l with
     |nil=>intro _ h;cases h
     |cons x l ihl =>
      intro hnd hmem;obtain⟨g1,g2⟩:=Rq.1 hnd;rw[Q9,Q9];rcases List.mem_cons.1 hmem with rfl|hm2
      ·have:l.countP (fun i=>(done |||2 ^ v).testBit i)=l.countP (fun i=>done.testBit i):=List.countP_congr fun y hy=>by
        have:¬v=y:=(by rintro rfl;exact g1 hy);simp[fJ,this]
       rw[this];simp[fJ,h2]
      ·have hx:¬v=x:=(by rintro rfl;exact g1 hm2);rw[ihl g2 hm2];simp[fJ,hx];omega
    exact this _ Sv (Qq.2 h1)
   omega
def AY (n:Nat):cL n 0=0:=by
 unfold cL;rw[List.countP_eq_zero];intro x _;simp
def AZ (hp:∀p∈ps,p<2 ^ ps.length)(h64:ps.length<=64):(dM ps).isSome=true↔jM ps:=by
 have hp64:∀p∈ps,p<2 ^ 64:=fun p h=>PL (hp p h) (P7 SY h64);constructor
 ·intro h;obtain⟨r,hr⟩:=Qb.1 h;exact MA hp64 _ _ _ r hr (by rw[AY];omega) (fun v _ h=>by rw[QJ]at h;cases h) (fun v _ h=>by rw[QJ]at h;cases h)
 ·intro h;obtain⟨r,hr⟩:=MB hp h64 h ps.length [] 0 (by rw[AY];omega);unfold dM;rw[hr];rfl
end Go.Proofs
namespace Go.Hx
def eZ (l:List Nat):S1:=.M l.length (l.map aG)
attribute [go_sem] aG eZ
def au.Ol {S:Nat->Prop}{lo nx:Nat}{H:S2}{e:TypeId}{v:S1}{l:List Nat}(h:au lo H e v (l.map aG))(hS:∀i,lo<=i->S i):Fz S H nx v (eZ l):=by
 have:=h.fz (S:=S) (nx:=nx) (cs':=l.map aG) hS rfl fun i hi _=>by simp only[PK];exact .lit _
 rw[PR]at this;exact this
end Go.Hx
namespace Go.Proofs
open Go.Hx
variable {g:Int}{ps:List Nat}{ns:List S3}{x:S3}
def BN {H H':S2}{v:S1}{l:List Nat}(x:Nat)(ov:S6 H H')(h:au H.C H' 36 v (l.map aG))(hl:l.length<2 ^ 40):
  ∃v' H2,bf Try.prog (ext H' [.L 0 36 [.lit (.int .u64 (x:Int))]]) (H'.C+1) 98 98 v (.V H'.C 0 0 1 1)=some (v',H2)/\S6 H H2/\au H.C H2 36 v' ((l++[x]).map aG)/\H'.C<=H2.C/\(∀k,k<H'.C->(∀g n,v≠.V k g 0 n 1)->H2.get k=H'.get k):=by
 obtain⟨v',H2,hA,hO,hn2,hp⟩:=fT (P:=Try.prog) (H:=H') (t:=98) (x:=aG x) (n:=H'.C+1) Try.underlying98 Try.AJ Try.AL rfl (by rw[Try.AK,PR];omega) h ov.C rfl;simp only[aG]at hA;exact⟨v',H2,hA,lV ov h hn2 hp,by rw[QQ];exact hO,hn2,hp⟩
def xe (m v:Nat)(hm:m<2 ^ 64)(hv:v<2 ^ 62)(H:S2)(K:S8->S2->Prop)(hK:K (.ret (.lit (.bool (m.testBit v)))) H):ae Try.prog G0 95 [aG m,aa v] H K:=by
 refine ae.st (n:=11) (rs:=[.tmp 4]) Try.func95 ?_;have w1:=Ry (v:Int) U;have s1:=fun t x y=>kW (P:=Try.prog) (t:=t) (x:=x) (y:=y) (k':=.u64) (s:=v) hm;have s2:=fun t x y=>qc (P:=Try.prog) (t:=t) (x:=x) (y:=y) (s:=v) hm;cases hb:m.testBit v
 ·rw[hb]at hK;simp only[go_sem,w1,s1,s2,hb];exact av.mk S0 hK
 ·rw[hb]at hK;simp only[go_sem,w1,s1,s2,hb];exact av.mk S0 hK
def aX (ns:List S3):List Nat:=ns.map fun x=>bj x.F
def jW {k:Nat}(h:ns[k]?=some x):(aX ns)[k]?=some (bj x.F):=by unfold aX;rw[List.getElem?_map,h];rfl
def BO (g:Int)(ns:List S3)(hl:(ns.length:Int)<2 ^ 39)(hp:∀x∈ns,(x.F.length:Int)<2 ^ 39/\∀q∈x.F,0<=q/\q<64)(H:S2)(K:S8->S2->Prop)
  (hK:K (.ret (eZ (aX ns))) H):ae Try.prog G0 42 [bS g ns] H K:=by
 refine ae.nl ⟨_,Try.func42,rfl,rfl⟩ fun hcl=>?_;refine ae.st (n:=43) (rs:=[.tmp 2]) Try.func42 ?_;simp only[go_sem,bS,cG];obtain⟨H1,hH1⟩:∃H1,H1=ext H [.L 0 64 [.lit (.int .i64 g),.M ns.length (aL ns)]]:=⟨_,rfl⟩
 have l1:H1.nn H.C 0=some (64,[.lit (.int .i64 g),.M ns.length (aL ns)]):=by rw[hH1];exact ag (cS ..)
 have n1:H1.C=H.C+1:=hH1▸rfl
 have o1:S6 H H1:=hH1▸.ext _ _
 rw[<- hH1];refine W.aS 4398046511096 (by rfl) (fun ρ H'=>∃k:Nat,ρ 4=aa k/\k<=ns.length/\ρ 1=.Y H.C 0 0/\S6 H1 H'/\au H1.C H' 36 (ρ 3) (((aX ns).take k).map aG)) (fun ρ H=>ns.length-(iv (ρ 4)).toNat) ?_ ?_
 ·simp only[go_sem];exact⟨0,rfl,U,.refl _,.nil⟩
 rintro ρ H' ⟨k,h4,hk,h1,ov,h3⟩;refine W.vs ?_;have l2:=(ov.nn (g:=0) (by omega:H.C<H1.C)).trans l1;by_cases hb:(k:Int)<ns.length
 ·obtain⟨x,hx⟩:=aw (l:=ns) (i:=k) U;have hne:=eo hx;have e1:=iI hx;obtain⟨xl,xr⟩:=hp x (PA hx);simp only[go_sem,h4,h1,l2,hb];refine W.aS 274877890656 (by rfl) (fun ρ' H2=>H2=H'/\∃j:Nat,ρ' 6=aa j/\j<=x.F.length/\ρ' 5=aG (bj (x.F.take j))) (fun ρ' H=>x.F.length-(iv (ρ' 6)).toNat) ?_ ?_
  ·simp only[go_sem];exact⟨0,rfl,U,rfl⟩
  rintro ρ' H2 ⟨rfl,j,h6,hj,h5⟩;refine W.vs ?_;by_cases hb2:(j:Int)<x.F.length
  ·obtain⟨q,hq⟩:=aw (l:=x.F) (i:=j) U;obtain⟨q0,q1⟩:=xr q (PA hq);obtain⟨u,rfl⟩:=PP q0;have hne2:=bg hq;have w1:=Ry (u:Int) U;have w2:=PD ((j:Int)+1) U;have b1:bj (x.F.take j)<2 ^ 64:=kK fun p hp=>by have:=xr p (P0 hp);omega
   have s1:=fun t x y=>hZ (P:=Try.prog) (t:=t) (x:=x) (y:=y) (k':=.u64) (s:=u) U;have s2:=fun t x y=>fb (P:=Try.prog) (t:=t) (x:=x) (y:=y) (b:=2 ^ u) b1 (Qk SY U);simp only[go_sem,h4,h1,l2,hb,hne,e1,h6,h5,hb2,hq,hne2,w1,w2,s1,s2];exact⟨⟨j+1,SX,U,by rw[aT hq,sV];rfl⟩,U⟩
  ·obtain⟨v',H3,hA,ov2,hO,hn2,_⟩:=BN (bj x.F) ov h3 (by simp[aX];omega);have w1:=PD ((k:Int)+1) U;rw[PF U]at h5;simp only[go_sem,h4,h1,l2,hb,hne,e1,h6,h5,hb2,w1,hA];refine⟨by have:=ov2.C;omega,⟨k+1,SX,U,ov2,?_⟩,U⟩;rw[aT (jW hx)];exact hO
 ·simp only[go_sem,h4,h1,l2,hb];rw[PF (by simp[aX];omega)]at h3;exact av.bQ aZ hcl (o1.trans ov) (h3.Ol fun i hi=>U) hK
def BP (hp:∀p∈ps,p<2 ^ 64)(l:List Nat):∀s,s<2 ^ 64->l.foldl (ep ps) s<2 ^ 64:=by
 induction l with
 |nil=>exact fun s h=>h
 |cons v l ih =>
  intro s h;refine ih _ ?_;unfold ep;split
  ·refine Qw h ?_;rw[Qh];cases h:ps[v]? with
   |none=>decide
   |some p=>exact hp p (PA h)
  ·exact h
theorem xf (hp:∀p∈ps,p<2 ^ 64){s:Nat}(hs:s<2 ^ 64):∀k,dA ps k s<2 ^ 64
 |0=>hs
 |k+1=>BP hp _ _ (xf hp hs k)
def Om (ps:List Nat)(s:Nat)(hl:(ps.length:Int)<2 ^ 39)(hp:∀p∈ps,p<2 ^ 64)(hs:s<2 ^ 64)(H:S2)(K:S8->S2->Prop)(hK:K (.ret (aG (fw ps s))) H):ae Try.prog G0 96 [eZ ps,aG s] H K:=by
 refine ae.st (n:=29) (rs:=[.tmp 4]) Try.func96 ?_;simp only[go_sem];refine W.aS 268435426 (by rfl) (fun ρ H'=>H'=H/\∃k:Nat,ρ 5=aa k/\k<=ps.length/\ρ 1=aG (dA ps k s)) (fun ρ H=>ps.length-(iv (ρ 5)).toNat) ?_ ?_
 ·simp only[go_sem];exact⟨0,rfl,U,rfl⟩
 rintro ρ H' ⟨rfl,k,h5,hk,h1⟩;refine W.vs ?_;by_cases hb:(k:Int)<ps.length
 ·simp only[go_sem,h5,hb];refine W.aS 268427330 (by rfl) (fun ρ' H2=>H2=H'/\∃j:Nat,ρ' 6=aa j/\j<=ps.length/\ρ' 1=aG ((List.range j).foldl (ep ps) (dA ps k s))) (fun ρ' H=>ps.length-(iv (ρ' 6)).toNat) ?_ ?_
  ·simp only[go_sem,h1];exact⟨0,rfl,U,rfl⟩
  rintro ρ' H2 ⟨rfl,j,h6,hj,h1'⟩;refine W.vs ?_;by_cases hb2:(j:Int)<ps.length
  ·obtain⟨p,hpj⟩:=aw (l:=ps) (i:=j) U;have hne:=bg hpj;have b1:=BP hp (List.range j) _ (xf hp hs k);have w2:=PD ((j:Int)+1) U;have hst:(List.range (j+1)).foldl (ep ps) (dA ps k s)=ep ps ((List.range j).foldl (ep ps) (dA ps k s)) j:=(by rw[QV,QL];rfl);have s2:=fun t x y=>fb (P:=Try.prog) (t:=t) (x:=x) (y:=y) b1 (hp p (PA hpj));obtain⟨m,hm⟩:∃m,m=(List.range j).foldl (ep ps) (dA ps k s):=⟨_,rfl⟩
   rw[<- hm]at b1 h1' hst s2;simp only[go_sem,h6,h1',hb2];refine aH.nl (xe m j b1 U _ _ ⟨trivial,?_⟩);cases hbit:m.testBit j
   ·simp only[go_sem,h6,h1',w2];exact⟨⟨j+1,SX,U,by rw[hst];unfold ep;rw[hbit];rfl⟩,U⟩
   ·simp only[go_sem,h6,h1',w2,hb2,hpj,hne,s2];exact⟨⟨j+1,SX,U,by rw[hst];unfold ep;rw[hbit,PG rfl,cw hpj]⟩,U⟩
  ·have w2:=PD ((k:Int)+1) U;have ej:j=ps.length:=U;subst ej;simp only[go_sem,h6,h1',hb2,h5,w2];exact⟨⟨k+1,SX,U,rfl⟩,U⟩
 ·simp only[go_sem,h5,h1,hb];have ek:k=ps.length:=U
  subst ek;exact av.mk S0 hK
def pS (ps:List Nat):Bool:=(List.range ps.length).all fun v=>!(fw ps (ps.getD v 0)).testBit v
def tD (ps:List Nat):pS ps=true↔jM ps:=by
 unfold pS jM;simp only[P6,Qq,Sp]
def On (ps:List Nat)(hl:(ps.length:Int)<2 ^ 39)(hp:∀p∈ps,p<2 ^ 64)(H:S2)(K:S8->S2->Prop)(hK:K (.ret (.lit (.bool (pS ps)))) H):ae Try.prog G0 75 [eZ ps] H K:=by
 have no:¬pS ps=true->av Try.prog G0 H K (.lit (.bool false)) H:=fun h=>av.mk S0 (by rw[Bool.eq_false_iff.2 h]at hK;exact hK);refine ae.st (n:=18) (rs:=[.tmp 2]) Try.func75 ?_;simp only[go_sem];refine W.aS 262140 (by rfl) (fun ρ H'=>H'=H/\∃k:Nat,ρ 3=aa k/\k<=ps.length/\∀v,v<k->(fw ps (ps.getD v 0)).testBit v=false) (fun ρ H=>ps.length-(iv (ρ 3)).toNat) ?_ ?_
 ·simp only[go_sem];exact⟨0,rfl,U,fun v h=>absurd h (PS _)⟩
 rintro ρ H' ⟨rfl,k,h3,hk,ha⟩;refine W.vs ?_;by_cases hb:(k:Int)<ps.length
 ·obtain⟨p,hpk⟩:=aw (l:=ps) (i:=k) U;have hne:=bg hpk;have hp1:=hp p (PA hpk);simp only[go_sem,h3,hb,hpk,hne];refine aH.nl (Om ps p hl hp hp1 _ _ ⟨trivial,?_⟩);simp only[go_sem,h3];refine aH.nl (xe (fw ps p) k (xf hp hp1 _) U _ _ ⟨trivial,?_⟩);have w2:=PD ((k:Int)+1) U;cases hbit:(fw ps p).testBit k
  ·simp only[go_sem,h3,w2];refine⟨⟨k+1,SX,U,fun v hv=>?_⟩,U⟩;rcases PZ v k with h|h
   ·exact ha v h
   ·obtain rfl:v=k:=U;rw[cw hpk];exact hbit
  ·simp only[go_sem];refine no fun h=>?_;have:=(tD ps).1 h k U;rw[cw hpk,hbit]at this;cases this
 ·simp only[go_sem,h3,hb];rw[(tD ps).2 fun v hv=>ha v U]at hK;exact av.mk S0 hK
def hX (g J:Int)(r:List Int):Prop:=(r.length:Int)=J/\(∀w∈r,0<=w/\w<=g)/\r.sum=g
def fa (g:Int)(ns:List S3)(x:S3):Prop:=(x.O.length:Int)=aK (bc ns x)/\∀r∈x.O,hX g x.J r
structure To (g:Int)(ns:List S3):Prop where
 g1:1<=g/\g<=60
 n1:1<=ns.length/\ns.length<=8
 node:∀x∈ns,(1<=x.J/\x.J<=4)/\bG x.F ns.length
 size:aK (ay ns)<=1024
 acyc:jM (aX ns)
 O:∀x∈ns,fa g ns x
noncomputable def kU (g:Int)(ns:List S3):Bool:=@decide (To g ns) (Classical.propDecidable _)
def pT (h:To g ns):kU g ns=true:=by unfold kU;exact @decide_eq_true _ (Classical.propDecidable _) h
def pU (h:¬To g ns):kU g ns=false:=by unfold kU;exact @decide_eq_false _ (Classical.propDecidable _) h
def nM (ns:List S3):Prop:=(ns.length:Int)<2 ^ 38/\∀x∈ns,(x.F.length:Int)<2 ^ 38/\(x.O.length:Int)<2 ^ 38/\∀r∈x.O,(r.length:Int)<2 ^ 38
def pV {l:List Int}(h:l.length<=12)(h2:∀x∈l,1<=x/\x<=4):eC l:=⟨h,fun x hx=>by have:=h2 x hx;omega⟩
def nO (hin:kT x.F ns.length)(hc:∀y∈ns,1<=y.J/\y.J<=4):∀c∈bc ns x,1<=c/\c<=4:=fun c h=>by
 unfold bc bd at h;obtain⟨q,hq,rfl⟩:=P3.1 h;obtain⟨j,rfl,y,hy⟩:=nE (l:=ns) (hin q hq).1 (hin q hq).2;rw[Int.toNat_natCast,cw (dp hy)];exact hc y (PA hy)
def lY (h8:ns.length<=8)(hp:bG x.F ns.length)(hc:∀y∈ns,1<=y.J/\y.J<=4):eC (bc ns x):=by
 refine pV ?_ (nO (fun q hq=>by have:=hp.2 q hq;omega) hc);rw[show (bc ns x).length=_ from jV _ _];have:=hp.len;omega
def tE {n:Nat}(h:∀x∈ns,∀q∈x.F,0<=q/\q<(n:Int)):∀p∈aX ns,p<2 ^ n:=fun p hp=>by
 obtain⟨x,hx,rfl⟩:=P3.1 hp;exact kK fun q hq=>by have:=h x hx q hq;omega
def tF (l:List Int)(x:Int):(l++[x]).sum=l.sum+x:=SX
def BQ (g:Int)(ns:List S3)(hf:nM ns)(H:S2)(K:S8->S2->Prop)(hK:K (.ret (.lit (.bool (kU g ns)))) H):ae Try.prog G0 31 [bS g ns] H K:=by
 refine ae.nl ⟨_,Try.func31,rfl,rfl⟩ fun hcl=>?_;have no:¬To g ns->∀H',S6 H H'->av Try.prog G0 H K (.lit (.bool false)) H':=fun h H' ov=>av.bQ aZ hcl ov (.lit _) (by rw[pU h]at hK;exact hK);refine ae.st (n:=154) (rs:=[.tmp 2]) Try.func31 ?_;simp only[go_sem,bS,cG];obtain⟨H1,hH1⟩:∃H1,H1=ext H [.L 0 64 [.lit (.int .i64 g),.M ns.length (aL ns)]]:=⟨_,rfl⟩
 have l1:H1.nn H.C 0=some (64,[.lit (.int .i64 g),.M ns.length (aL ns)]):=by rw[hH1];exact ag (cS ..)
 have n1:H1.C=H.C+1:=hH1▸rfl
 have o1:S6 H H1:=hH1▸.ext _ _
 rw[<- hH1];by_cases c1:g<1
 ·simp only[go_sem,c1];exact no (fun h=>by have:=h.g1;omega) _ o1
 by_cases c2:g > 60
 ·simp only[go_sem,l1,c1,c2];exact no (fun h=>by have:=h.g1;omega) _ o1
 by_cases c3:(ns.length:Int)<1
 ·simp only[go_sem,l1,c1,c2,c3];exact no (fun h=>by have:=h.n1;omega) _ o1
 by_cases c4:(ns.length:Int) > 8
 ·simp only[go_sem,l1,c1,c2,c3,c4];exact no (fun h=>by have:=h.n1;omega) _ o1
 simp only[go_sem,l1,c1,c2,c3,c4];refine W.aS 18446744071562068028 (by rfl) (fun ρ H'=>∃k:Nat,ρ 4=aa k/\k<=ns.length/\S6 H1 H'/\(∀x∈ns.take k,(1<=x.J/\x.J<=4)/\bG x.F ns.length)/\ρ 3=aa (aK ((ay ns).take k))) (fun ρ H=>ns.length-(iv (ρ 4)).toNat) ?_ ?_
 ·simp only[go_sem];exact⟨0,rfl,U,.refl _,SX,by simp[kJ]⟩
 ·rintro ρ H' ⟨k,h4,hk,ov,hall,h3⟩;refine W.vs ?_;have l2:=(ov.nn (g:=0) (by omega:H.C<H1.C)).trans l1;have hlt:H.C<H'.C:=by have:=ov.C;omega
  have l3:∀L,(ext H' L).nn H.C 0=_:=fun L=>(dU hlt).trans l2;by_cases hb:(k:Int)<ns.length
  ·obtain⟨x,hx⟩:=aw (l:=ns) (i:=k) U;have hxm:=PA hx;have hne:=eo hx;have e0:=nD hx;have e1:k*3+3<=(aL ns).length:=(by rw[gG];omega);have nb:¬H.C=H'.C:=U;have ove:∀L,S6 H (ext H' L):=fun L=>(o1.trans ov).trans (.ext _ _);by_cases d1:x.J<1
   ·simp only[go_sem,h4,l2,hb,hne,e0,e1,d1];exact no (fun h=>by have:=(h.node x hxm).1;omega) _ (ove _)
   by_cases d2:x.J > 4
   ·simp only[go_sem,h4,l2,hb,hne,e0,e1,d1,d2];exact no (fun h=>by have:=(h.node x hxm).1;omega) _ (ove _)
   simp only[go_sem,h4,l2,l3,hb,hne,e0,e1,d1,d2];refine aH.nl (BJ x.F ns.length (by have:=(hf.2 x hxm).1;omega) _ _ ⟨trivial,?_⟩);by_cases d3:bG x.F ns.length;rotate_left
   ·simp only[go_sem,d3];exact no (fun h=>d3 (h.node x hxm).2) _ (ove _)
   have hall':∀y∈ns.take (k+1),(1<=y.J/\y.J<=4)/\bG y.F ns.length:=fun y hy=>by
    rw[aT hx]at hy;rcases PT.1 hy with hy|hy
    ·exact hall y hy
    ·obtain rfl:=List.mem_singleton.1 hy;exact⟨U,d3⟩
   have b1:eC ((ay ns).take (k+1)):=pV (by simp[ay];omega) fun c hc=>by
    rw[show (ay ns).take (k+1)=ay (ns.take (k+1)) by simp[ay]]at hc;obtain⟨y,hy,rfl⟩:=P3.1 hc;exact(hall' y hy).1
   have b2:=b1.prod;rw[aT (dp hx),fI]at b2;have w1:=PD ((k:Int)+1) U;have w2:=PD (aK ((ay ns).take k)*x.J) U;simp only[go_sem,h4,h3,d3,w1,w2];exact⟨by have:=ov.C;omega,⟨k+1,SX,U,ov.trans (.ext _ _),fun y hy=>hall' y hy,by rw[aT (dp hx),fI]⟩,U⟩
  ·have ek:k=ns.length:=U;subst ek;rw[PF S0]at hall;rw[PF (by rw[fL];omega)]at h3;have hcards:∀y∈ns,1<=y.J/\y.J<=4:=fun y hy=>(hall y hy).1;have ov0:=o1.trans ov;by_cases c5:aK (ay ns) > 1024
   ·simp only[go_sem,h4,h3,l2,hb,c5];exact no (fun h=>by have:=h.size;omega) _ ov0
   simp only[go_sem,h4,h3,l2,hb,c5];have hpl:∀x∈ns,(x.F.length:Int)<2 ^ 39/\∀q∈x.F,0<=q/\q<64:=fun x hx=>⟨by have:=(hf.2 x hx).1;omega,fun q hq=>by have:=(hall x hx).2.2 q hq;omega⟩
   refine aH.nl (BO g ns (by have:=hf.1;omega) hpl _ _ ⟨trivial,?_⟩);simp only[go_sem];refine aH.nl (On (aX ns) (by simp[aX];omega) (fun p hp=>PL (tE (n:=64) (fun x hx q hq=>by have:=(hpl x hx).2 q hq;omega) p hp) S0) _ _ ⟨trivial,?_⟩);cases hac:pS (aX ns)
   ·simp only[go_sem];exact no (fun h=>by rw[(tD _).2 h.acyc]at hac;cases hac) _ ov0
   simp only[go_sem];refine W.aS 22835963083295358096932570788825439312478734276 (by rfl) (fun ρ' H2=>∃k:Nat,ρ' 6=aa k/\k<=ns.length/\S6 H' H2/\∀x∈ns.take k,fa g ns x) (fun ρ' H=>ns.length-(iv (ρ' 6)).toNat) ?_ ?_
   ·simp only[go_sem];exact⟨0,rfl,U,.refl _,SX⟩
   rintro ρ' H2 ⟨k,h6,hk,ov2',hrows⟩;have ov2:=ov.trans ov2';refine W.vs ?_;have l2:=(ov2.nn (g:=0) (by omega:H.C<H1.C)).trans l1;have hlt:H.C<H2.C:=(by have:=ov2.C;omega);by_cases hb:(k:Int)<ns.length;rotate_left
   ·simp only[go_sem,h6,l2,hb];rw[PF U]at hrows;rw[pT ⟨U,U,hall,U,(tD _).1 hac,hrows⟩]at hK;exact av.bQ aZ hcl (o1.trans ov2) (.lit _) hK
   obtain⟨x,hx⟩:=aw (l:=ns) (i:=k) U;have hxm:=PA hx;have hne:=eo hx;have e0:=nD hx;have e1:k*3+3<=(aL ns).length:=(by rw[gG];omega);obtain⟨x1,x2⟩:=hall x hxm;obtain⟨f1,f2,f3⟩:=hf.2 x hxm;have sm:=lY U x2 hcards;simp only[go_sem,h6,l2,hb,hne,e0,e1];obtain⟨H3,hH3⟩:∃H3,H3=ext H2 [.L 0 83 [.lit (.int .i64 x.J),.M x.F.length (ints x.F),az x.O]]:=⟨_,rfl⟩
   have m1:H3.nn H2.C 0=some (83,[.lit (.int .i64 x.J),.M x.F.length (ints x.F),az x.O]):=(by rw[hH3];exact ag (cS ..));have m2:H3.nn H.C 0=some (64,[.lit (.int .i64 g),.M ns.length (aL ns)]):=(by rw[hH3,dU hlt];exact l2);have m3:H3.C=H2.C+1:=(by rw[hH3];rfl);have ov3:S6 H1 H3:=(by rw[hH3];exact ov2.trans (.ext _ _));have ov4:S6 H H3:=o1.trans ov3;rw[<- hH3];refine W.dr 7 [0,1,3,0,0,24,56] Try.mixed ?_;simp only[go_sem,h6,m1,m2,az];refine⟨af (bc ns x),[],cD.pure fun H2=>Oi g ns k x hx (by have:=hf.1;omega) U (fun q hq=>by have:=x2.2 q hq;omega) H2 _ ⟨rfl,rfl⟩,?_⟩;simp only[go_sem];refine⟨aa (aK (bc ns x)),[],cD.pure fun H2=>xb (bc ns x) sm H2 _ ⟨rfl,rfl⟩,?_⟩;by_cases d1:(x.O.length:Int)=aK (bc ns x);rotate_left
   ·simp only[go_sem,d1];exact no (fun h=>d1 (h.O x hxm).1) _ ov4
   simp only[go_sem,d1];refine W.aS 22835963083295358091980815354050401082527450884 (by rfl) (fun ρ2 H4=>H4=H3/\∃j:Nat,ρ2 8=aa j/\j<=x.O.length/\∀r∈x.O.take j,hX g x.J r) (fun ρ2 H=>x.O.length-(iv (ρ2 8)).toNat) ?_ ?_
   ·simp only[go_sem];exact⟨0,rfl,U,SX⟩
   rintro ρ2 H4 ⟨rfl,j,h8,hj,hrj⟩;refine W.vs ?_;by_cases hb2:(j:Int)<x.O.length;rotate_left
   ·have w1:=PD ((k:Int)+1) U;have hb2':¬(j:Int)<aK (bc ns x):=U;simp only[go_sem,h6,h8,m1,hb2',d1,w1,az];rw[PF U]at hrj;refine⟨by have:=ov2'.C;omega,⟨k+1,SX,U,by rw[hH3];exact ov2'.trans (.ext _ _),fun y hy=>?_⟩,U⟩;rw[aT hx]at hy;rcases PT.1 hy with hy|hy
    ·exact hrows y hy
    ·obtain rfl:=List.mem_singleton.1 hy;exact⟨d1,hrj⟩
   obtain⟨r,hr⟩:=aw (l:=x.O) (i:=j) U;have hrm:=PA hr;have hrne:=bg hr;have hb2':(j:Int)<aK (bc ns x):=U;have nope:¬hX g x.J r->¬To g ns:=fun h h'=>h ((h'.O x hxm).2 r hrm);simp only[go_sem,h8,m1,hb2',d1,az];refine W.dr 8 [0,1,0,7,15,31,0,64] Try.mixed ?_;by_cases d2:(r.length:Int)=x.J;rotate_left
   ·simp only[go_sem,h8,m1,hb2',d1,d2,hr,hrne,az];exact no (nope fun h=>d2 h.1) _ ov4
   simp only[go_sem,h8,m1,hb2',d1,d2,hr,hrne,az];refine W.aS 1427247692705635362504627542722711980362171908 (by rfl) (fun ρ3 H5=>H5=H4/\∃i:Nat,ρ3 10=aa i/\i<=r.length/\ρ3 9=aa (r.take i).sum/\∀w∈r.take i,0<=w/\w<=g) (fun ρ3 H=>r.length-(iv (ρ3 10)).toNat) ?_ ?_
   ·simp only[go_sem];exact⟨0,rfl,U,SX,SX⟩
   rintro ρ3 H5 ⟨rfl,i,h10,hi,h9,hw⟩;refine W.vs ?_;have sb:0<=(r.take i).sum/\(r.take i).sum<=60*i:=by
    have key:∀l:List Int,(∀w∈l,0<=w/\w<=g)->0<=l.sum/\l.sum<=60*l.length:=by
     intro l
     induction l with
     |nil=>intro _;simp
     |cons a l ih =>
      intro h;have h1:=ih fun w hw=>h w (by simp[hw]);have h2:=h a SX;simp only[Ru,List.length_cons]
      push_cast
      omega
    have:=key _ hw;rw[PQ,RO U]at this;exact this
   have r4:r.length<=4:=U;by_cases hb3:(i:Int)<r.length<;>have hb3':=hb3<;>rw[d2]at hb3'
   rotate_left
   ·rw[PF U]at h9 hw;by_cases d3:r.sum=g;rotate_left
    ·simp only[go_sem,h8,h9,h10,m1,m2,hb3',hr,hrne,hb2',d1,d2,d3,az];exact no (nope fun h=>d3 h.2.2) _ ov4
    have w1:=PD ((j:Int)+1) (by have:=(hf.2 x hxm).2.1;omega);simp only[go_sem,h8,h9,h10,m1,m2,hb3',hr,hrne,hb2',d1,d2,d3,w1,az];refine⟨⟨j+1,SX,U,fun y hy=>?_⟩,U⟩;rw[aT hr]at hy;rcases PT.1 hy with hy|hy
    ·exact hrj y hy
    ·obtain rfl:=List.mem_singleton.1 hy;exact⟨d2,hw,d3⟩
   obtain⟨a,ha⟩:=aw (l:=r) (i:=i) U;have ham:=PA ha;have hane:=bg ha;simp only[go_sem,h8,h10,m1,hr,hrne,hb2',hb3',d1,d2,az];refine W.dr 20 [0,1,0,7,15,0,63,127,255,511,1023,2047,1023,8191,16383,1023,65535,131071,1023,263167] Try.mixed ?_;by_cases d3:a<0
   ·simp only[go_sem,h8,h10,m1,hr,hrne,hb2',hb3',ha,hane,d1,d2,d3,az];exact no (nope fun h=>by have:=h.2.1 a ham;omega) _ ov4
   by_cases d4:a > g
   ·simp only[go_sem,h8,h10,m1,m2,hr,hrne,hb2',hb3',ha,hane,d1,d2,d3,d4,az];exact no (nope fun h=>by have:=h.2.1 a ham;omega) _ ov4
   have w1:=PD ((i:Int)+1) U;have w2:=PD ((r.take i).sum+a) U;simp only[go_sem,h8,h9,h10,m1,m2,hr,hrne,hb2',hb3',ha,hane,d1,d2,d3,d4,w1,w2,az];refine⟨⟨i+1,SX,U,by rw[aT ha,tF],fun w hw'=>?_⟩,U⟩;rw[aT ha]at hw';rcases PT.1 hw' with hw'|hw'
   ·exact hw w hw'
   ·obtain rfl:=List.mem_singleton.1 hw';exact⟨U,U⟩
end Go.Proofs
namespace Go.Hx
variable {P:Program} {G:Nat->Option (List S1)} {n:Nat} {rd:Option Nat} {Q:AX->St->Prop}
def xt (P:Program)(G:Nat->Option (List S1))(f:FuncId)(first cap:List S1)(xs:List (List S1))(S:S2->Prop):Prop :=
 ∀(idy:Nat) (J:Nat->S2->Prop) (Stop:S2->Prop) (H:S2) (K:S8->S2->Prop),
  (∀k H1,J k H1->S H1)->J 0 H ->
  (∀k x H1 K1,xs[k]?=some x->J k H1->H.C<=H1.C->(∀H',J (k+1) H'->H1.C<=H'.C->K1 (.ret (.lit (.bool true))) H')->(∀H',Stop H'->H1.C<=H'.C->K1 (.ret (.lit (.bool false))) H')->aH P G (.ng idy) x H1 K1) ->
  (∀H',J xs.length H'->H.C<=H'.C->K (.ret (.nc [])) H') ->
  (∀H',Stop H'->H.C<=H'.C->K (.ret (.nc [])) H') ->
  ae P G f (first++[.ng idy]++cap) H K
def gQ (idy:Nat)(B:S7)(lo:Nat)(J:S2->Prop)(Stop:AX->S2->Prop):AX->St->Prop
 |.normal,s=>s.H.get idy=some B/\lo<=s.H.C/\J s.H
 |.ret,s=>s.H.get idy=some B/\lo<=s.H.C/\Stop .ret s.H
 |.exit i,s=>s.H.get idy=some B/\lo<=s.H.C/\Stop (.exit i) s.H
 |_,_=>False
def qf (P:Program)(G:Nat->Option (List S1))(n idy:Nat)(B Bb:S7)(lo:Nat)(body:Code)(J:S2->Prop)(Stop:AX->S2->Prop):AX->St->Prop
 |.normal,s=>s.H.get idy=some B/\W P G n (some idy) body (gQ idy Bb lo J Stop) ⟨s.ρ,s.H.upd idy Bb⟩
 |_,_=>False
def W.tJ {g:Operand}{ps:Array Tmp}{asg body:Code}{ρ:Env}{H:S2}{f:FuncId}{first cap:List S1}{xs:List (List S1)}{S:S2->Prop}(hg:aj G ρ g=.nl f first cap)
  (hit:xt P G f first cap xs S) (J:Nat->S2->Prop) (Stop:AX->S2->Prop) (hS:∀k H1,J k H1->S H1)
  (hJu:∀k H1 b,J k H1->J k (H1.upd H.C b)) (hSu:∀c H1 b,Stop c H1->Stop c (H1.upd H.C b))
  (hJ0:∀b,J 0 (ext H [b])) (hps:ps.toList.all (fun t=>decide (t<n))=true) (hxl:∀x∈xs,x.length=ps.size)
  (hrd:∀k H1,J k H1->dR H1 rd) (hrd2:∀c H1,Stop c H1->dR H1 rd)
  (hround:∀k x H1 B Bb,xs[k]?=some x->J k H1->H.C+1<=H1.C->H1.get H.C=some B->(∃st pd n' en ps' as' bo,Bb=S7.loop st pd n' en ps' as' bo) ->
   W P G n (some H.C) asg (qf P G n H.C B Bb H1.C body (J (k+1)) Stop) ⟨jE (dc ρ n) (ps.toList.zip x),H1⟩)
  (hend:∀H',J xs.length H'->H.C+1<=H'.C->Q .normal ⟨ρ,H'⟩)
  (hret:∀H',Stop .ret H'->H.C+1<=H'.C->Q .ret ⟨ρ,H'⟩) (hexit:∀i H',Stop (.exit i) H'->H.C+1<=H'.C->Q (.exit i) ⟨ρ,H'⟩):
  W P G n rd (.rangeFunc g ps asg body) Q ⟨ρ,H⟩:=by
 refine W.rangeFunc (s:=⟨ρ,H⟩) hg ⟨_,uP _ _,?_⟩;obtain⟨B,hB⟩:∃B,B=S7.loop .ready none n ρ ps asg body:=⟨_,rfl⟩
 obtain⟨Bb,hBb⟩:∃B,B=S7.loop .busy none n ρ ps asg body:=⟨_,rfl⟩
 have nx:(ext H [B]).C=H.C+1:=rfl;show ae P G f (first++[.ng H.C]++cap) (ext H [S7.loop .ready none n ρ ps asg body]) (uX rd Q ρ H.C);rw[<- hB];refine hit H.C (fun k H1=>H1.get H.C=some B/\J k H1) (fun H1=>∃c pend,H1.get H.C=some (.loop .done (some pend) n ρ ps asg body)/\Stop c H1/\((c=.ret/\pend=.ret)\/∃i,c=.exit i/\pend=.exit i)) _ _
  (fun k H1 h=>hS k H1 h.2) ⟨cf,hJ0 B⟩ (fun k x H1 K1 hx hj hn hgo hst=>?_) (fun H' hj hn=>?_) (fun H' hj hn=>?_)
 ·have hxm:=hxl x (PA hx);refine aH.ng (hj.1.trans (congrArg some hB)) hxm hps ?_;refine(hround k x H1 B Bb hx hj.2 hn hj.1 ⟨_,_,_,_,_,_,_,hBb⟩).mono fun e s1 h1=>?_;cases e with
  |normal =>
   obtain⟨a1,a2⟩:=h1;refine⟨Bb,by rw[a1,hB,hBb];rfl,?_⟩;refine a2.mono fun e2 s2 h2=>?_;cases e2 with
   |normal =>
    obtain⟨b1,b2,b3⟩:=h2;exact⟨B,by rw[b1,hB,hBb];rfl,hgo _ ⟨by rw[ab,PG rfl],hJu _ _ _ b3⟩ b2⟩
   |ret =>
    obtain⟨b1,b2,b3⟩:=h2;exact⟨.loop .done (some .ret) n ρ ps asg body,by rw[b1,hBb];rfl,hst _ ⟨.ret,.ret,by rw[ab,PG rfl],hSu _ _ _ b3,.inl ⟨rfl,rfl⟩⟩ b2⟩
   |exit i =>
    obtain⟨b1,b2,b3⟩:=h2;exact⟨.loop .done (some (.exit i)) n ρ ps asg body,by rw[b1,hBb];rfl,hst _ ⟨.exit i,.exit i,by rw[ab,PG rfl],hSu _ _ _ b3,.inr ⟨i,rfl,rfl⟩⟩ b2⟩
   |_=>exact h2.elim
  |_=>exact h1.elim
 ·refine⟨hrd _ _ hj.2,(none,.loop .exhausted none n ρ ps asg body),by rw[hj.1,hB];rfl,?_⟩;exact hend _ (hJu _ _ _ hj.2) hn
 ·obtain⟨c,pend,h1,h2,h3⟩:=hj;refine⟨hrd2 _ _ h2,(some pend,.loop .exhausted (some pend) n ρ ps asg body),by rw[h1];rfl,?_⟩;rcases h3 with ⟨rfl,rfl⟩|⟨i,rfl,rfl⟩
  ·exact hret _ (hSu _ _ _ h2) hn
  ·exact hexit i _ (hSu _ _ _ h2) hn
end Go.Hx
namespace Go.Proofs
open Go.Hx
variable {g:Int}{O:List (List Int)}{l:List Int}{ns:List S3}{k:Nat}{x:S3}
def pW (x:S3):S1:=.agg [.lit (.int .i64 x.J),.M x.F.length (ints x.F),az x.O]
def kV (O:List (List Int)):List (List S1):=O.zipIdx.map fun p=>[aa p.2,af p.1]
def BR {x:List S1}(h:(kV O)[k]?=some x):∃r,O[k]?=some r/\x=[aa k,af r]:=by
 unfold kV at h;rw[List.getElem?_map,Re]at h;cases hr:O[k]? with
 |none=>rw[hr]at h;simp at h
 |some r=>rw[hr]at h;simp at h;exact⟨r,rfl,h.symm⟩
def Oo {r:List Int}(h:O[k]?=some r):(kV O)[k]?=some [aa k,af r]:=by
 unfold kV;rw[List.getElem?_map,Re,h];simp
def BS (O:List (List Int)):(kV O).length=O.length:=by simp[kV]
def Oq (x:S3)(hl:(x.O.length:Int)<2 ^ 40)(b:Nat):xt Try.prog G0 115 [] [.Y b 0 0] (kV x.O) (fun H=>H.get b=some (.L 0 83 [.lit (.int .i64 x.J),.M x.F.length (ints x.F),az x.O])):=by
 intro idy J Stop H K hS hJ0 hY hK hSt;have l0:=ag (hS 0 H hJ0);show ae _ _ _ ([.ng idy]++[.Y b 0 0]) _ _;refine ae.st (n:=19) (rs:=[]) Try.func115 ?_;simp only[go_sem,l0,az];refine W.aS 524056 (by rfl) (fun ρ H'=>∃k:Nat,ρ 8=aa k/\k<=x.O.length/\J k H'/\H.C<=H'.C) (fun ρ H=>x.O.length-(iv (ρ 8)).toNat) ?_ ?_
 ·simp only[go_sem];exact⟨0,rfl,U,hJ0⟩
 rintro ρ H' ⟨k,h8,hk,hj,hn⟩;refine W.vs ?_;by_cases hb:(k:Int)<x.O.length
 ·obtain⟨r,hr⟩:=aw (l:=x.O) (i:=k) U;have hne:=bg hr;have w1:=PD ((k:Int)+1) U;simp only[go_sem,h8,hb,hr,hne];refine hY k [aa k,af r] H' _ (Oo hr) hj hn (fun H2 hj2 hn2=>⟨trivial,?_⟩) (fun H2 hs2 hn2=>⟨trivial,?_⟩)
  ·simp only[go_sem,h8,w1];exact⟨U,⟨k+1,SX,U,hj2,U⟩,U⟩
  ·simp only[go_sem];exact av.mk U (hSt H2 hs2 U)
 ·simp only[go_sem,h8,hb];have ek:k=(kV x.O).length:=by rw[BS];omega
  subst ek;exact av.mk U (hK H' hj hn)
def Ot (x:S3)(H:S2)(K:S8->S2->Prop)(hK:K (.ret (.nl 115 [] [.Y H.C 0 0])) (ext H [.L 0 83 [.lit (.int .i64 x.J),.M x.F.length (ints x.F),az x.O]])):
  ae Try.prog G0 110 [pW x] H K:=by
 refine ae.st (n:=4) (rs:=[.tmp 2]) Try.func110 ?_;simp only[go_sem,pW];exact av.mk (by simp[bB]) hK
def xg {g:Int}(h:∀w∈l,0<=w):0<=l.sum:=by
 induction l with
 |nil=>simp
 |cons a l ih =>
  have h1:=ih fun w hw=>h w (by simp[hw]);have h2:=h a SX;simp only[Ru];omega
def xi (h:∀w∈l,0<=w):∀w∈l,w<=l.sum:=by
 induction l with
 |nil=>intro w hw;cases hw
 |cons a l ih =>
  intro w hw;have h1:=xg (g:=0) fun w hw=>h w (Qs a hw);have h2:=h a SX;simp only[Ru];rcases List.mem_cons.1 hw with rfl|hw
  ·omega
  ·have:=ih (fun w hw=>h w (by simp[hw])) w hw;omega
noncomputable def jm (g:Int)(ns:List S3)(x:S3):Bool:=@decide (fa g ns x) (Classical.propDecidable _)
def BU (h:fa g ns x):jm g ns x=true:=by unfold jm;exact @decide_eq_true _ (Classical.propDecidable _) h
def Ou (h:¬fa g ns x):jm g ns x=false:=by unfold jm;exact @decide_eq_false _ (Classical.propDecidable _) h
def Ov :jm g ns x=true↔fa g ns x:=by unfold jm;exact @decide_eq_true_iff _ (Classical.propDecidable _)
def Ow (g:Int)(hg:1<=g/\g<=60)(ns:List S3)(sets:List Nat)(x:S3)(hin:kT x.F ns.length)(hsm:eC (bc ns x))(hx1:(x.O.length:Int)<2 ^ 38)(hx2:∀r∈x.O,(r.length:Int)<2 ^ 38)(H:S2)(K:S8->S2->Prop)
  (hK:K (.ret (.lit (.bool (jm g ns x)))) H):ae Try.prog G0 102 [.agg [.lit (.int .i64 g),cG ns,af (ay ns),eZ sets,.lit (.slice none 0 0)],pW x] H K:=by
 refine ae.nl ⟨_,Try.func102,rfl,rfl⟩ fun hcl=>?_;have l12:=hsm.1;have pl:(bc ns x).length=x.F.length:=jV _ _;have no:¬fa g ns x->∀H',S6 H H'->av Try.prog G0 H K (.lit (.bool false)) H':=fun h H' ov=>av.bQ aZ hcl ov (.lit _) (by rw[Ou h]at hK;exact hK);refine ae.st (n:=66) (rs:=[.cell 4 4]) Try.func102 ?_;simp only[go_sem,cG,pW];obtain⟨H1,hH1⟩:∃H1,H1=ext H [.L 0 148 [.lit (.int .i64 g),.M ns.length (aL ns),.M (ay ns).length (ints (ay ns)),.M sets.length (sets.map aG),.lit (.slice none 0 0)],.L 0 83 [.lit (.int .i64 x.J),.M x.F.length (ints x.F),az x.O],.L 0 4 [.lit (.bool false)]]:=⟨_,rfl⟩
 have l1:H1.nn H.C 0=some (148,[.lit (.int .i64 g),.M ns.length (aL ns),.M (ay ns).length (ints (ay ns)),.M sets.length (sets.map aG),.lit (.slice none 0 0)]):=by rw[hH1];exact ag (cS ..)
 have l2:H1.nn (H.C+1) 0=some (83,[.lit (.int .i64 x.J),.M x.F.length (ints x.F),az x.O]):=by rw[hH1];exact ag (dT H _ 1 SX)
 have g3:=gE hH1 2 rfl
 have n1:H1.C=H.C+3:=hH1▸rfl
 have o1:S6 H H1:=hH1▸.ext _ _
 rw[<- hH1];refine W.aS 268370080 (by rfl) (fun ρ H'=>H'=H1/\∃k:Nat,ρ 16=aa k/\k<=x.F.length/\ρ 5=aa (aK ((bc ns x).take k))) (fun ρ H=>x.F.length-(iv (ρ 16)).toNat) ?_ ?_
 ·simp only[go_sem];exact⟨0,rfl,U,by simp[kJ]⟩
 rintro ρ H' ⟨rfl,k,h16,hk,h5⟩;refine W.vs ?_;by_cases hb:(k:Int)<x.F.length
 ·obtain⟨q,hq⟩:=aw (l:=x.F) (i:=k) U;obtain⟨j,rfl,y,hy⟩:=nE (l:=ns) (hin q (PA hq)).1 (hin q (PA hq)).2;have hne2:=bg hq;have hyc:=dp hy;have hne3:=bg hyc;have hj:(j:Int)<(ay ns).length:=by have:=aI hyc;omega
  have pk:(bc ns x)[k]?=some y.J:=by
   rw[show (bc ns x)[k]?=_ from xd hq,Int.toNat_natCast,cw hyc]
  have b1:=(hsm.take (k+1)).prod;rw[aT pk,fI]at b1;have w1:=PD ((k:Int)+1) U;have w2:=PD (aK ((bc ns x).take k)*y.J) U;simp only[go_sem,h16,h5,l1,hb,hq,hne2,hj,hyc,hne3,w1,w2];exact⟨⟨k+1,SX,U,by rw[aT pk,fI]⟩,U⟩
 rw[PF U]at h5;by_cases c1:(x.O.length:Int)=aK (bc ns x);rotate_left
 ·simp only[go_sem,h16,h5,l2,hb,c1,az];have l3:=ag g3;simp only[go_sem,l3];exact no (fun h=>c1 h.1) _ (o1.upd U _)
 simp only[go_sem,h16,h5,l2,hb,c1,az];refine aH.nl (Ot x _ _ ⟨trivial,?_⟩);simp only[go_sem];obtain⟨H2,hH2⟩:∃H2,H2=ext H' [.L 0 83 [.lit (.int .i64 x.J),.M x.F.length (ints x.F),az x.O]]:=⟨_,rfl⟩
 rw[<- hH2];have o2:S6 H' H2:=by rw[hH2];exact .ext _ _
 have n2:H2.C=H.C+4:=by rw[hH2,bB,n1];rfl
 have hbx:H2.get H'.C=some (.L 0 83 [.lit (.int .i64 x.J),.M x.F.length (ints x.F),az x.O]):=by rw[hH2];exact cf
 refine W.env fun E hE=>?_;have e2:E 2=.Y H.C 0 0:=by rw[hE];simp only[go_sem]
 have e3:E 3=.Y (H.C+1) 0 0:=by rw[hE];simp only[go_sem]
 have e4:E 4=.Y (H.C+2) 0 0:=by rw[hE];simp only[go_sem]
 have i1:H2.nn H.C 0=some (148,[.lit (.int .i64 g),.M ns.length (aL ns),.M (ay ns).length (ints (ay ns)),.M sets.length (sets.map aG),.lit (.slice none 0 0)]):=(o2.nn U).trans l1;have i2:H2.nn (H.C+1) 0=some (83,[.lit (.int .i64 x.J),.M x.F.length (ints x.F),az x.O]):=(o2.nn U).trans l2;have i3:H2.get (H.C+2)=some (.L 0 4 [.lit (.bool false)]):=(o2.nf _ U).trans g3;refine W.tJ (f:=115) (first:=[]) (cap:=[.Y H'.C 0 0]) (by show E 34=_;rw[hE];rfl) (Oq x U H'.C)
  (fun k Hx=>S6 H2 Hx/\∀r∈x.O.take k,hX g x.J r) (fun c Hx=>c=.ret/\S6 H Hx/\H.C+4<=Hx.C/\Hx.get (H.C+2)=some (.L 0 4 [.lit (.bool false)])/\¬fa g ns x)
  (fun k Hx h=>by rw[h.1.nf _ U];exact hbx) (fun k Hx b h=>⟨h.1.upd S0 b,h.2⟩) (fun c Hx b h=>⟨h.1,h.2.1.upd U b,h.2.2.1,by rw[ab,PC U];exact h.2.2.2.1,h.2.2.2.2⟩)
  (fun b=>⟨.ext _ _,SX⟩) SY (fun y hy=>by
   obtain⟨k,hk⟩:=PU.1 hy;obtain⟨r,_,rfl⟩:=BR hk;rfl) (fun _ _ _=>trivial) (fun _ _ _=>trivial) (fun k y Hx B Bb hy hj hn hB hBb=>?_) (fun Hx hj hn=>?_) (fun Hx hs hn=>?_) (fun i Hx hs hn=>by cases hs.1)
 ·obtain⟨r,hr,rfl⟩:=BR hy;refine W.vs ?_;simp only[go_sem,jE,dc,qf,Q6,Se,RI,RT,hB];obtain⟨H3,hH3⟩:∃H3,H3=Hx.upd H2.C Bb:=⟨_,rfl⟩
  rw[<- hH3];obtain⟨st,pd,n',en,ps',as',bo,hBe⟩:=hBb;have o3:S6 H2 H3:=by rw[hH3];exact hj.1.upd S0 Bb
  have o4:S6 H H3:=(o1.trans o2).trans o3;have n3:H3.C=Hx.C:=by rw[hH3];rfl
  have j1:=(o3.nn (g:=0) (by omega:H.C<H2.C)).trans i1;have j2:=(o3.nn (g:=0) (by omega:H.C+1<H2.C)).trans i2;have j3:=(o3.nf _ (by omega:H.C+2<H2.C)).trans i3;have j4:=ag j3;have jB:H3.get H2.C=some Bb:=by rw[hH3,ab,PG rfl]
  have nB:¬H2.C=H.C+2:=U
  have hrm:=PA hr;have hrl:=hx2 r hrm;have nope:¬hX g x.J r->¬fa g ns x:=fun h h'=>h (h'.2 r hrm);have stop:¬hX g x.J r->(H3.upd (H.C+2) (S7.L 0 4 [.lit (.bool false)])).get H2.C=some Bb/\Hx.C<=(H3.upd (H.C+2) (S7.L 0 4 [.lit (.bool false)])).C/\S6 H (H3.upd (H.C+2) (S7.L 0 4 [.lit (.bool false)])) /\
    H.C+4<=(H3.upd (H.C+2) (S7.L 0 4 [.lit (.bool false)])).C/\(H3.upd (H.C+2) (S7.L 0 4 [.lit (.bool false)])).get (H.C+2)=some (.L 0 4 [.lit (.bool false)])/\¬fa g ns x:=fun h =>
   ⟨by rw[ab,PC nB];exact jB,by rw[ar];omega,o4.upd U _,by rw[ar];omega,by rw[ab,PG rfl],nope h⟩
  refine W.vs ?_;simp only[go_sem,dc,e2,j1];refine W.aS 144110790029349888 (by rfl) (fun ρ2 H4=>H4=H3/\∃i:Nat,ρ2 42=aa i/\i<=r.length/\(∀w∈r.take i,0<=w)/\(r.take i).sum<=g/\ρ2 10=aa (g-(r.take i).sum)) (fun ρ2 H=>r.length-(iv (ρ2 42)).toNat) ?_ ?_
  ·simp only[go_sem];exact⟨0,rfl,U,SX,by simp;omega,SX⟩
  rintro ρ2 H4 ⟨rfl,i,h42,hi,hw0,hws,h10⟩;refine W.vs ?_;have s0:=xg (g:=g) hw0;by_cases hb2:(i:Int)<r.length
  ·obtain⟨a,ha⟩:=aw (l:=r) (i:=i) U;have ham:=PA ha;have hane:=bg ha;by_cases d1:a<0
   ·simp only[go_sem,h42,hb2,ha,hane,d1,dc,e4,j4,gQ];exact stop fun h=>by have:=h.2.1 a ham;omega
   by_cases d2:a > g-(r.take i).sum
   ·simp only[go_sem,h42,h10,hb2,ha,hane,d1,d2,dc,e4,j4,gQ];refine stop fun h=>?_;have h1:r.sum=(r.take (i+1)).sum+(r.drop (i+1)).sum:=(by rw[<- Sz,P9]);rw[aT ha,tF]at h1;have h2:=xg (g:=g) (l:=r.drop (i+1)) fun w hw=>(h.2.1 w (Q2 hw)).1;have:=h.2.2;omega
   have w1:=PD ((i:Int)+1) U;have w2:=PD (g-(r.take i).sum-a) U;simp only[go_sem,h42,h10,hb2,ha,hane,d1,d2,w1,w2,dc];refine⟨⟨_,_,_,_,_,_,_,by rw[jB,hBe]⟩,⟨i+1,SX,U,fun w hw=>?_,by rw[aT ha,tF];omega,?_⟩,U⟩
   ·rw[aT ha]at hw;rcases PT.1 hw with hw|hw
    ·exact hw0 w hw
    ·obtain rfl:=List.mem_singleton.1 hw;omega
   ·rw[aT ha,tF];show aa _=aa _;congr 1;omega
  ·rw[PF U]at hw0 hws h10 s0;by_cases d1:(r.length:Int)=x.J;rotate_left
   ·simp only[go_sem,h42,hb2,d1,dc,e3,e4,j2,j4,gQ];exact stop fun h=>d1 h.1
   have hb2':¬(i:Int)<x.J:=U;by_cases d2:g-r.sum=0;rotate_left
   ·simp only[go_sem,h42,h10,hb2',d1,d2,dc,e3,e4,j2,j4,gQ];exact stop fun h=>by have:=h.2.2;omega
   simp only[go_sem,h42,h10,hb2',d1,d2,dc,e3,j2,gQ];refine⟨jB,U,o3,fun y hy=>?_⟩;rw[aT hr]at hy;rcases PT.1 hy with hy|hy
   ·exact hj.2 y hy
   ·obtain rfl:=List.mem_singleton.1 hy;exact⟨d1,fun w hw=>⟨hw0 w hw,by have:=xi hw0 w hw;omega⟩,U⟩
 ·have hok:fa g ns x:=⟨c1,by
   have:=hj.2;rw[BS,QR]at this;exact this⟩
  have j4:=ag ((hj.1.nf _ (by omega:H.C+2<H2.C)).trans i3);rw[BU hok]at hK;simp only[go_sem,e4,j4];exact av.bQ aZ hcl (((o1.trans o2).trans hj.1).upd U _) (.lit _) hK
 ·obtain⟨_,o4,n4,g4,hno⟩:=hs;have j4:=ag g4;simp only[go_sem,e4,j4];exact no hno _ o4
end Go.Proofs
namespace Go.Hx
variable {H:S2}{e:TypeId}
def au.lZ {lo:Nat}{v:S1}{l:List Int}(h:au lo H e v (ints l)):Tf H v (af l):=by
 rcases h with ⟨rfl,h⟩|⟨id,g,h1,h2,rfl,h4⟩
 ·have:l=[]:=by cases l with
   |nil=>rfl
   |cons a l=>simp[ints]at h
  subst this;exact .nil
 ·have e:af l=.M (ints l).length (ints l):=by rw[aY];rfl
  rw[e];refine .V h4 SX fun j hj h2 h'=>?_;simp only[Nat.zero_add,ints,PK];exact .lit _
def Fz.tG {id g n nx:Nat}{cs:List S1}(hg:H.get id=some (.L g e cs))(hn:n=cs.length)(hl:∀c∈cs,∃v,c=.lit v):Fz (fun _=>True) H nx (.V id g 0 n 1) (.M n cs):=by
 refine .np trivial hg U fun j hj h2 h'=>?_;simp only[Nat.zero_add];obtain⟨v,hv⟩:=hl _ (P4 h');rw[hv];exact .lit _
end Go.Hx
namespace Go.Proofs
open Go.Hx
variable {n:Nat}{p:Nat->Bool}
def aF (l:List Nat):List Int:=l.map fun (v:Nat)=>(v:Int)
def BV {j:Nat}(hj:j<n)(h1:∀v,v<j->p v=false)(h2:p j=true):(List.range n).find? p=some j:=by
 rw[List.find?_eq_some_iff_getElem];refine⟨h2,j,by simpa using hj,SX,fun k hk=>?_⟩;simp only[List.getElem_range];simp[h1 k hk]
def BW (h1:∀v,v<n->p v=false):(List.range n).find? p=none:=by
 rw[RU];intro x hx;simp[h1 x (Qq.1 hx)]
def Ox (ps:List Nat)(hl:ps.length<=60)(hp:∀p∈ps,p<2 ^ 64)(H:S2)(K:S8->S2->Prop)
  (hK:∀v H',S6 H H'->(match dM ps with|some o=>au H.C H' 3 v (ints (aF o))|none=>v=.lit (.slice none 0 0))->K (.ret (.nc [v,.lit (.bool (dM ps).isSome)])) H'):ae Try.prog G0 103 [eZ ps] H K:=by
 have no:∀H',dM ps=none->S6 H H'->av Try.prog G0 H K (.nc [.lit (.slice none 0 0),.lit (.bool false)]) H':=fun H' h ov=>av.mk ov.C (by
  have:=hK (.lit (.slice none 0 0)) H' ov;rw[h]at this;exact this rfl)
 refine ae.st (n:=44) (rs:=[.tmp 2,.tmp 3]) Try.func103 ?_;simp only[go_sem];refine⟨U,?_⟩;refine W.aS 8796093020412 (by rfl) (fun ρ H'=>∃(out:List Nat) (done:Nat),ρ 5=aG done/\done<2 ^ 64/\out.length<=ps.length/\H.C+1<=H'.C/\S6 H H'/\au H.C H' 3 (ρ 4) (ints (aF out))/\(∃id g,ρ 4=.V id g 0 out.length 1)/\fy ps (ps.length-out.length) out done=dM ps)
  (fun ρ H=>ps.length-(match ρ 4 with|.V _ _ _ n _=>n|_=>0)) ?_ ?_
 ·simp only[go_sem];exact⟨[],0,SX,SY,RY _,.ext _ _,.inr ⟨H.C,0,S0,by simp[bB],rfl,cS H _ []⟩,⟨_,_,rfl⟩,rfl⟩
 rintro ρ H' ⟨out,done,h5,hd,ho,hn0,ov,h4,⟨id,gn,h4e⟩,ht⟩;refine W.vs ?_;have lv:H'.nn id gn=some (3,ints (aF out)):=by
  rcases h4 with ⟨h,_⟩|⟨i,g,h1,h2,h3,h4⟩
  ·rw[h4e]at h;cases h
  ·rw[h4e]at h3;have:=S1.V.inj h3;obtain⟨rfl,rfl,_⟩:=this;exact ag h4
 by_cases hb:(out.length:Int)<ps.length
 ·simp only[go_sem,h4e,lv,hb];have hk1:ps.length-out.length=(ps.length-(out.length+1))+1:=U
  refine W.aS 8796092760304 (by rfl) (fun ρ2 H2=>H2=H'/\∃j:Nat,ρ2 18=aa j/\j<=ps.length/\ρ2 4=.V id gn 0 out.length 1/\ρ2 5=aG done/\∀v,v<j->gH ps done v=false) (fun ρ2 H=>ps.length-(iv (ρ2 18)).toNat) ?_ ?_
  ·simp only[go_sem,h4e,h5];exact⟨0,rfl,U,fun v h=>absurd h (PS _)⟩
  rintro ρ2 H2 ⟨rfl,j,h18,hj,h4',h5',hno⟩;refine W.vs ?_;by_cases hb2:(j:Int)<ps.length
  ·obtain⟨p,hpj⟩:=aw (l:=ps) (i:=j) U;have hp1:=hp p (PA hpj);have hne:=bg hpj;have s1:=fun t x y=>kW (P:=Try.prog) (t:=t) (x:=x) (y:=y) (k':=.i64) (s:=j) hd;have s2:=fun t x y=>qc (P:=Try.prog) (t:=t) (x:=x) (y:=y) (s:=j) hd;have s3:=fun t x y=>pZ (P:=Try.prog) (t:=t) (x:=x) (y:=y) (a:=p) (b:=done);have w1:=PD ((j:Int)+1) U;have cont:gH ps done j=false->∀v,v<j+1->gH ps done v=false:=fun h v hv=>by
    rcases PZ v j with h'|h'
    ·exact hno v h'
    ·obtain rfl:v=j:=U;exact h
   have fe:gH ps done j=(!done.testBit j && decide (dv p done=0)):=(by unfold gH;rw[cw hpj]);cases hbit:done.testBit j;rotate_left
   ·simp only[go_sem,h18,h4',h5',hb2,hpj,hne,s1,s2,hbit,w1];exact⟨⟨j+1,SX,U,cont (by rw[fe,hbit];rfl)⟩,U⟩
   by_cases hz:dv p done=0;rotate_left
   ·have hz':¬((dv p done:Nat):Int)=0:=U;simp only[go_sem,h18,h4',h5',hb2,hpj,hne,s1,s2,s3,hbit,hz',w1];exact⟨⟨j+1,SX,U,cont (by rw[fe,hbit];simp[hz])⟩,U⟩
   have hz':((dv p done:Nat):Int)=0:=U;have hnx:iJ ps done=some j:=BV U hno (by rw[fe,hbit];simp[hz]);obtain⟨v',H3,hA,ov2,hO,hn2,_⟩:=gO (j:Int) ov h4 (by simp[aF];omega);rw[h4e]at hA;have b2:(2:Nat) ^ j<2 ^ 64:=Qk SY U;have s4:=fun t x y=>hZ (P:=Try.prog) (t:=t) (x:=x) (y:=y) (k':=.i64) (s:=j) U;have s5:=fun t x y=>fb (P:=Try.prog) (t:=t) (x:=x) (y:=y) hd b2;simp only[go_sem,h18,h4',h5',hb2,hpj,hne,s1,s2,s3,s4,s5,hbit,hz',hA];have hO':au H.C H3 3 v' (ints (aF (out++[j]))):=by
    have e:aF (out++[j])=aF out++[(j:Int)]:=(by simp[aF]);rw[e];exact hO
   have hv':∃id g,v'=.V id g 0 (out.length+1) 1:=by
    rcases hO' with ⟨_,h⟩|⟨i,g,_,_,h3,_⟩
    ·simp[ints,aF]at h
    ·exact⟨i,g,by rw[h3,aY];simp[aF]⟩
   obtain⟨i2,g2,rfl⟩:=hv';refine⟨U,⟨out++[j],done |||2 ^ j,rfl,Qw hd b2,by simp;omega,U,ov2,hO',⟨i2,g2,SX⟩,?_⟩,by simp only;omega⟩;rw[<- ht,hk1]
   conv=>rhs;unfold fy
   rw[hnx];simp
  ·simp only[go_sem,h18,hb2];refine no _ ?_ ov;rw[<- ht,hk1];unfold fy;have:iJ ps done=none:=BW fun v hv=>hno v U;rw[this]
 ·simp only[go_sem,h4e,lv,hb];have hz:ps.length-out.length=0:=U
  rw[hz]at ht;have ht':dM ps=some out:=ht.symm;have:=hK (.V id gn 0 out.length 1) H' ov;rw[ht']at this;refine av.mk ov.C (this ?_);rw[h4e]at h4;exact h4
def Oy (ps:List Nat)(hl:ps.length<=60)(hp:∀p∈ps,p<2 ^ 64)(H:S2)(v:S1)(hv:Fz (fun _=>True) H 0 v (eZ ps))(K:S8->S2->Prop)
  (hK:K (.ret (.nc [af (aF ((dM ps).getD [])),.lit (.bool (dM ps).isSome)])) H):ae Try.prog G0 103 [v] H K:=by
 refine(ae.frame (H:=H) (args:=[v]) (args':=[eZ ps]) (v':=.nc [af (aF ((dM ps).getD [])),.lit (.bool (dM ps).isSome)]) aZ rfl (fun i hi _=>match i,hi with|0,_=>hv) (Ox ps hl hp bZ _ fun u H' ov hu=>⟨_,rfl,?_⟩)).mono ?_
 ·refine .nc rfl fun i hi _=>?_
  match i,hi with
  |0,_ =>
   show Tf H' u _;cases ht:dM ps with
   |none=>rw[ht]at hu;simp only at hu;rw[hu];show Tf H' _ (af []);exact .nil
   |some o=>rw[ht]at hu;exact au.lZ hu
  |1,_=>exact .lit _
 ·rintro r H' ⟨rfl,rfl⟩;exact hK
end Go.Proofs
