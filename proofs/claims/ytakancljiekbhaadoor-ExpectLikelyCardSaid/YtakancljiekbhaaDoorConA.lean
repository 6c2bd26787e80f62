/-
  Closed facts of this seat's types. Laid by a program of ours.
-/
import Derived.Test.YtakancljiekbhaaDoorProg
import Derived.Test.YtakancljiekbhaaDoorLibC
import Derived.Test.YtakancljiekbhaaDoorLibB
set_option linter.all false
namespace Go.Proofs
open Go.Hx
theorem Tryd.mixed:Tryd.prog.follows .mixedOrders=true:=by kernel_rfl
theorem Tryd.fh:Tryd.prog.cellsOf 3=1:=by kernel_rfl
theorem Tryd.gL:Tryd.prog.bytesOf 3=8:=by kernel_rfl
theorem Tryd.fR:bW Tryd.prog 3=some [.lit (.int .i64 0)]:=by kernel_rfl
theorem Tryd.QZ:Tryd.prog.cellsOf 4=1:=by kernel_rfl
theorem Tryd.Q0:bW Tryd.prog 4=some [.lit (.bool false)]:=by kernel_rfl
theorem Tryd.qK:Tryd.prog.cellsOf 5=1:=by kernel_rfl
theorem Tryd.Q1:Tryd.prog.bytesOf 5=1:=by kernel_rfl
theorem Tryd.Q2:bW Tryd.prog 5=some [.lit (.int .u8 0)]:=by kernel_rfl
theorem Tryd.EI:Tryd.prog.cellsOf 22=1:=by kernel_rfl
theorem Tryd.wB:Tryd.prog.cellsOf 23=1:=by kernel_rfl
theorem Tryd.EJ:Tryd.prog.cellsOf 25=3:=by kernel_rfl
theorem Tryd.Q3:cf Tryd.prog 25 0=some (0,5):=by kernel_rfl
theorem Tryd.Q4:cf Tryd.prog 25 1=some (1,22):=by kernel_rfl
theorem Tryd.Q5:cf Tryd.prog 25 2=some (2,23):=by kernel_rfl
theorem Tryd.EK:Tryd.prog.cellsOf 27=4:=by kernel_rfl
theorem Tryd.Q6:cf Tryd.prog 27 0=some (0,5):=by kernel_rfl
theorem Tryd.Q7:cf Tryd.prog 27 1=some (1,5):=by kernel_rfl
theorem Tryd.Q8:cf Tryd.prog 27 2=some (2,5):=by kernel_rfl
theorem Tryd.Q9:cf Tryd.prog 27 3=some (3,3):=by kernel_rfl
theorem Tryd.EL:Tryd.prog.cellsOf 28=1:=by kernel_rfl
theorem Tryd.EM:Tryd.prog.cellsOf 30=3:=by kernel_rfl
theorem Tryd.Ra:cf Tryd.prog 32 0=some (0,25):=by kernel_rfl
theorem Tryd.Rb:cf Tryd.prog 32 1=some (3,27):=by kernel_rfl
theorem Tryd.Rc:cf Tryd.prog 32 2=some (7,28):=by kernel_rfl
theorem Tryd.Rd:cf Tryd.prog 32 3=some (8,23):=by kernel_rfl
theorem Tryd.Re:Tryd.prog.cellsOf 34=1:=by kernel_rfl
theorem Tryd.Rf:Tryd.prog.cellsOf 36=2:=by kernel_rfl
theorem Tryd.Rg:bW Tryd.prog 36=some [.lit (.int .i64 0),.lit (.slice none 0 0)]:=by kernel_rfl
theorem Tryd.Rh:kI Tryd.prog 36=some [(0,1),(1,1)]:=by kernel_rfl
theorem Tryd.Ri:cf Tryd.prog 36 0=some (0,3):=by kernel_rfl
theorem Tryd.Rj:cf Tryd.prog 36 1=some (1,34):=by kernel_rfl
theorem Tryd.qL:Tryd.prog.cellsOf 39=1:=by kernel_rfl
theorem Tryd.qM:Tryd.prog.bytesOf 39=24:=by kernel_rfl
theorem Tryd.qN:bW Tryd.prog 39=some [.lit (.slice none 0 0)]:=by kernel_rfl
theorem Tryd.Rk:Tryd.prog.cellsOf 40=1:=by kernel_rfl
theorem Tryd.Rl:Tryd.prog.cellsOf 42=2:=by kernel_rfl
theorem Tryd.Rm:bW Tryd.prog 42=some [.lit (.slice none 0 0),.lit (.slice none 0 0)]:=by kernel_rfl
theorem Tryd.Ro:kI Tryd.prog 42=some [(0,1),(1,1)]:=by kernel_rfl
theorem Tryd.Rp:cf Tryd.prog 42 0=some (0,39):=by kernel_rfl
theorem Tryd.Rq:cf Tryd.prog 42 1=some (1,40):=by kernel_rfl
theorem Tryd.AA:Tryd.prog.cellsOf 53=3:=by kernel_rfl
theorem Tryd.AB:Tryd.prog.bytesOf 53=56:=by kernel_rfl
theorem Tryd.AC:bW Tryd.prog 53=some [.lit (.int .i64 0),.lit (.slice none 0 0),.lit (.slice none 0 0)]:=by kernel_rfl
theorem Tryd.Rr:kI Tryd.prog 53=some [(0,1),(1,1),(2,1)]:=by kernel_rfl
theorem Tryd.Rs:cf Tryd.prog 53 0=some (0,3):=by kernel_rfl
theorem Tryd.Rt:cf Tryd.prog 53 1=some (1,39):=by kernel_rfl
theorem Tryd.Ru:cf Tryd.prog 53 2=some (2,40):=by kernel_rfl
theorem Tryd.Rv:Tryd.prog.cellsOf 56=18:=by kernel_rfl
theorem Tryd.Rw:bW Tryd.prog 56=some [.lit (.int .i64 0),.lit (.int .i64 0),.lit (.int .i64 0),.lit (.int .i64 0),.lit (.int .i64 0),.lit (.int .i64 0),.lit (.int .i64 0),.lit (.int .i64 0),.lit (.int .i64 0),.lit (.int .i64 0),.lit (.int .i64 0),.lit (.int .i64 0),.lit (.int .i64 0),.lit (.int .i64 0),.lit (.int .i64 0),.lit (.int .i64 0),.lit (.int .i64 0),.lit (.int .i64 0)]:=by kernel_rfl
theorem Tryd.Rx:Tryd.prog.cellsOf 57=18:=by kernel_rfl
theorem Tryd.Ry:bW Tryd.prog 57=some [.lit (.int .i64 0),.lit (.int .i64 0),.lit (.int .i64 0),.lit (.int .i64 0),.lit (.int .i64 0),.lit (.int .i64 0),.lit (.int .i64 0),.lit (.int .i64 0),.lit (.int .i64 0),.lit (.int .i64 0),.lit (.int .i64 0),.lit (.int .i64 0),.lit (.int .i64 0),.lit (.int .i64 0),.lit (.int .i64 0),.lit (.int .i64 0),.lit (.int .i64 0),.lit (.int .i64 0)]:=by kernel_rfl
theorem Tryd.EN:Tryd.prog.cellsOf 66=1:=by kernel_rfl
theorem Tryd.Rz:Tryd.prog.cellsOf 68=3:=by kernel_rfl
theorem Tryd.RA:bW Tryd.prog 68=some [.lit (.slice none 0 0),.lit (.int .u16 0),.lit (.slice none 0 0)]:=by kernel_rfl
theorem Tryd.RB:kI Tryd.prog 68=some [(0,1),(1,1),(2,1)]:=by kernel_rfl
theorem Tryd.RC:cf Tryd.prog 68 0=some (0,23):=by kernel_rfl
theorem Tryd.RD:cf Tryd.prog 68 2=some (2,23):=by kernel_rfl
theorem Tryd.EO:Tryd.prog.cellsOf 71=3:=by kernel_rfl
theorem Tryd.RE:bW Tryd.prog 71=some [.lit (.int .u8 0),.lit (.int .u8 0),.lit (.slice none 0 0)]:=by kernel_rfl
theorem Tryd.RF:cf Tryd.prog 71 0=some (0,5):=by kernel_rfl
theorem Tryd.RG:cf Tryd.prog 71 1=some (1,5):=by kernel_rfl
theorem Tryd.RH:cf Tryd.prog 71 2=some (2,23):=by kernel_rfl
theorem Tryd.ER:Tryd.prog.cellsOf 72=1:=by kernel_rfl
theorem Tryd.ES:Tryd.prog.bytesOf 72=8:=by kernel_rfl
theorem Tryd.ET:bW Tryd.prog 72=some [.lit (.int .u64 0)]:=by kernel_rfl
theorem Tryd.RI:Tryd.prog.cellsOf 81=1:=by kernel_rfl
theorem Tryd.RJ:Tryd.prog.cellsOf 83=1:=by kernel_rfl
theorem Tryd.RK:Tryd.prog.cellsOf 91=1:=by kernel_rfl
theorem Tryd.RL:bW Tryd.prog 91=some [.lit (.slice none 0 0)]:=by kernel_rfl
theorem Tryd.EU:Tryd.prog.cellsOf 97=1:=by kernel_rfl
theorem Tryd.EV:Tryd.prog.bytesOf 97=8:=by kernel_rfl
theorem Tryd.EW:bW Tryd.prog 97=some [.lit (.int .u64 0)]:=by kernel_rfl
theorem Tryd.RM:Tryd.prog.cellsOf 99=1:=by kernel_rfl
theorem Tryd.RN:bW Tryd.prog 99=some [.lit .nilFunc]:=by kernel_rfl
theorem Tryd.RO:Tryd.prog.cellsOf 105=3:=by kernel_rfl
theorem Tryd.RP:bW Tryd.prog 105=some [.lit (.int .i64 0),.lit (.slice none 0 0),.lit (.slice none 0 0)]:=by kernel_rfl
theorem Tryd.RQ:kI Tryd.prog 105=some [(0,2),(2,1)]:=by kernel_rfl
theorem Tryd.RS:cf Tryd.prog 105 0=some (0,36):=by kernel_rfl
theorem Tryd.RT:cf Tryd.prog 105 1=some (2,39):=by kernel_rfl
theorem Tryd.RU:Tryd.prog.cellsOf 113=5:=by kernel_rfl
theorem Tryd.RV:bW Tryd.prog 113=some [.lit (.int .i64 0),.lit (.slice none 0 0),.lit (.slice none 0 0),.lit (.slice none 0 0),.lit (.slice none 0 0)]:=by kernel_rfl
theorem Tryd.RW:kI Tryd.prog 113=some [(0,2),(2,1),(3,1),(4,1)]:=by kernel_rfl
theorem Tryd.RX:cf Tryd.prog 113 0=some (0,36):=by kernel_rfl
theorem Tryd.RY:cf Tryd.prog 113 1=some (2,39):=by kernel_rfl
theorem Tryd.RZ:cf Tryd.prog 113 2=some (3,83):=by kernel_rfl
theorem Tryd.R7:cf Tryd.prog 113 3=some (4,39):=by kernel_rfl
theorem Tryd.R8:Tryd.prog.cellsOf 140=1:=by kernel_rfl
theorem Tryd.R9:bW Tryd.prog 140=some [.lit (.int .u64 0)]:=by kernel_rfl
attribute [go_sem] Tryd.underlying3 Tryd.fh Tryd.gL Tryd.fR Tryd.underlying4 Tryd.QZ Tryd.Q0 Tryd.underlying5 Tryd.qK Tryd.Q1 Tryd.Q2
attribute [go_sem] Tryd.underlying9 Tryd.underlying22 Tryd.EI Tryd.underlying23 Tryd.wB
attribute [go_sem] Tryd.underlying24 Tryd.underlying25 Tryd.EJ
attribute [go_sem] Tryd.Q3 Tryd.Q4 Tryd.Q5 Tryd.underlying26
attribute [go_sem] Tryd.underlying27 Tryd.EK Tryd.Q6 Tryd.Q7 Tryd.Q8 Tryd.Q9 Tryd.underlying28 Tryd.EL
attribute [go_sem] Tryd.underlying29 Tryd.underlying30 Tryd.EM
attribute [go_sem] Tryd.underlying31
attribute [go_sem] Tryd.underlying32 Tryd.Ra Tryd.Rb Tryd.Rc
attribute [go_sem] Tryd.Rd Tryd.underlying34 Tryd.Re Tryd.underlying35
attribute [go_sem] Tryd.underlying36 Tryd.Rf Tryd.Rg Tryd.Rh Tryd.Ri Tryd.Rj Tryd.underlying39 Tryd.qL Tryd.qM Tryd.qN
attribute [go_sem] Tryd.underlying40 Tryd.Rk Tryd.underlying41 Tryd.underlying42
attribute [go_sem] Tryd.Rl Tryd.Rm Tryd.Ro Tryd.Rp Tryd.Rq Tryd.underlying44 Tryd.underlying52
attribute [go_sem] Tryd.underlying53 Tryd.AA Tryd.AB Tryd.AC Tryd.Rr Tryd.Rs
attribute [go_sem] Tryd.Rt Tryd.Ru Tryd.underlying56 Tryd.Rv Tryd.Rw Tryd.underlying57 Tryd.Rx Tryd.Ry Tryd.underlying66 Tryd.EN
attribute [go_sem] Tryd.underlying67 Tryd.underlying68 Tryd.Rz
attribute [go_sem] Tryd.RA Tryd.RB Tryd.RC Tryd.RD Tryd.underlying70
attribute [go_sem] Tryd.underlying71 Tryd.EO Tryd.RE Tryd.RF Tryd.RG Tryd.RH Tryd.underlying72 Tryd.ER
attribute [go_sem] Tryd.ES Tryd.ET Tryd.underlying81 Tryd.RI Tryd.underlying83 Tryd.RJ Tryd.underlying90
attribute [go_sem] Tryd.underlying91 Tryd.RK Tryd.RL Tryd.underlying97 Tryd.EU Tryd.EV Tryd.EW Tryd.underlying99 Tryd.RM
attribute [go_sem] Tryd.RN Tryd.underlying101 Tryd.underlying104
attribute [go_sem] Tryd.underlying105 Tryd.RO Tryd.RP Tryd.RQ Tryd.RS Tryd.RT Tryd.underlying107
attribute [go_sem] Tryd.underlying112 Tryd.underlying113 Tryd.RU
attribute [go_sem] Tryd.RV Tryd.RW Tryd.RX Tryd.RY Tryd.RZ Tryd.R7 Tryd.underlying127 Tryd.underlying135
attribute [go_sem] Tryd.underlying140 Tryd.R8 Tryd.R9
def aB (l:List (List Int)):AVal:=.vec l.length (l.map ab)
structure NodeP where
 card:Int
 parents:List Int
 rows:List (List Int)
structure UtilP where
 vars:List Int
 w:List Int
def NodeP.cells (x:NodeP):List AVal:=[aa x.card,ab x.parents,aB x.rows]
def UtilP.cells (x:UtilP):List AVal:=[ab x.vars,ab x.w]
def au (l:List NodeP):List AVal:=(l.map NodeP.cells).flatten
def SP (l:List UtilP):List AVal:=(l.map UtilP.cells).flatten
def dk (l:List NodeP):AVal:=.vec l.length (au l)
def AK (l:List UtilP):AVal:=.vec l.length (SP l)
def aZ (g:Int)(l:List NodeP):AVal:=.agg [aa g,dk l]
structure InfP where
 grain:Int
 nodes:List NodeP
 decs:Nat
 utils:List UtilP
theorem lp {α:Type}{f:α->List AVal}{z:Nat}(hz:∀ a,(f a).length=z):∀ (l:List α) (i j:Nat) (a:α),l[i]?=some a->j<z->((l.map f).flatten)[i*z+j]?=(f a)[j]?:=by
 intro l
 induction l with
 | nil=>intro i j a h;simp at h
 | cons x l ih =>
  intro i j a h hj;simp only[List.map_cons,List.flatten_cons];cases i with
  | zero =>
   simp only[List.getElem?_cons_zero,Option.some.injEq]at h;subst h;rw[Xj,Nat.zero_add,VV (by rw[hz];exact hj)]
  | succ i =>
   have:(i+1)*z+j=z+(i*z+j):=(by rw[Wc];omega);rw[this,VQ (by rw[hz];omega),hz];have:z+(i*z+j) - z=i*z+j:=(by omega);rw[this];exact ih i j a (by simpa using h) hj
theorem nF {α:Type}{f:α->List AVal}{z:Nat}(hz:∀ a,(f a).length=z)(l:List α):((l.map f).flatten).length=l.length*z:=by
 induction l with
 | nil=>simp
 | cons x l ih=>simp only[List.map_cons,List.flatten_cons,List.length_append,ih,hz,List.length_cons];rw[Wc];omega
theorem qO {α:Type}{f:α->List AVal}{z:Nat}(hz:∀ a,(f a).length=z):∀ (l:List α) (i:Nat) (a:α),l[i]?=some a->(((l.map f).flatten).drop (i*z)).take z=f a:=by
 intro l i a h;apply V9;intro j;by_cases hj:j<z
 ·rw[WD hj,WN,lp hz l i j a h hj]
 ·rw[VB (by simp;omega),VB (by rw[hz];omega)]
theorem fT (l:List NodeP):(au l).length=l.length*3:=nF (f:=NodeP.cells) (fun _=>rfl) l
theorem nG {l:List NodeP}{i:Nat}{x:NodeP}(h:l[i]?=some x):(au l)[i*3]?=some (aa x.card):=lp (f:=NodeP.cells) (z:=3) (fun _=>rfl) l i 0 x h (by omega)
theorem tl {l:List NodeP}{i:Nat}{x:NodeP}(h:l[i]?=some x):(au l)[i*3+1]?=some (ab x.parents):=lp (f:=NodeP.cells) (z:=3) (fun _=>rfl) l i 1 x h (by omega)
theorem wJ {l:List NodeP}{i:Nat}{x:NodeP}(h:l[i]?=some x):(au l)[i*3+2]?=some (aB x.rows):=lp (f:=NodeP.cells) (z:=3) (fun _=>rfl) l i 2 x h (by omega)
theorem kC {l:List NodeP}{i:Nat}{x:NodeP}(h:l[i]?=some x):((au l).drop (i*3)).take 3=[aa x.card,ab x.parents,aB x.rows]:=qO (f:=NodeP.cells) (z:=3) (fun _=>rfl) l i x h
theorem eP {l:List NodeP}{i:Nat}{x:NodeP}(h:l[i]?=some x):¬ au l=[]:=fun e=>by
 have:=nG h;rw[e]at this;simp at this
theorem get_lt {α:Type}{l:List α}{i:Nat}{x:α}(h:l[i]?=some x):i<l.length:=by
 rcases VR i l.length with h'|h'
 ·exact h'
 ·rw[VB h']at h;cases h
theorem get_of_lt {α:Type}{l:List α}{i:Nat}(h:i<l.length):∃ x,l[i]?=some x:=⟨_,Vv h⟩
theorem nH {α:Type}{l:List α}{i:Int}(h0:0<=i)(h:i<l.length):∃ k:Nat,i=k/\∃ x,l[k]?=some x:=⟨i.toNat,by omega,get_of_lt (by omega)⟩
def aA (l:List Int):Int:=l.foldl (·*·) 1
theorem FA (l:List Int)(a:Int):l.foldl (·*·) a=a*aA l:=by
 unfold aA
 induction l generalizing a with
 | nil=>simp
 | cons x l ih=>simp only[Xc];rw[ih,ih (1*x),XM,XT]
theorem iQ:aA []=1:=rfl
theorem hU (x:Int)(l:List Int):aA (x :: l)=x*aA l:=by
 show List.foldl _ (1*x) l=_;rw[FA,XM]
theorem wK (l l':List Int):aA (l++l')=aA l*aA l':=by
 unfold aA;rw[WK,FA];rfl
theorem jM (l:List Int)(x:Int):aA (l++[x])=aA l*x:=by rw[wK,hU,iQ,YO]
theorem aL {α:Type}{l:List α}{k:Nat}{x:α}(h:l[k]?=some x):l.take (k+1)=l.take k++[x]:=by
 rw[List.take_add_one,h];rfl
theorem mq {l:List Int}(h:∀ x∈l,1<=x):1<=aA l:=by
 induction l with
 | nil=>decide
 | cons x l ih =>
  rw[hU];have h1:=ih fun y hy=>h y (by simp [hy]);have h2:=h x (by simp);have:=W7 h2 h1 (by omega) (by omega);simpa using this
theorem oO {b:Int}{l:List Int}(hb:0<=b)(h:∀ x∈l,0<=x/\x<=b):0<=aA l/\aA l<=b ^ l.length:=by
 induction l with
 | nil=>exact⟨by decide,by simp [aA]⟩
 | cons x l ih =>
  rw[hU];have h1:=ih fun y hy=>h y (by simp [hy]);have h2:=h x (by simp);refine⟨WE h2.1 h1.1,?_⟩;have:=W7 h2.2 h1.2 h1.1 hb;rw[List.length_cons,YK,WZ (b ^ l.length)];exact this
def af (l:List NodeP):List Int:=l.map (·.card)
def aP (l places:List Int):List Int:=places.map fun p=>l.getD p.toNat 0
def dL (places:List Int)(n:Int):Prop:=places.Pairwise (·<·)/\∀ p∈places,0<=p/\p<n
end Go.Proofs
set_option maxRecDepth 100000
namespace Go.Proofs
open Go.Hx
def gW:List Int:=[2,3,5,7,11,13,17,19,23,29,31,37,41,43,47,53,59,61]
def G0:Nat->Option (List AVal):=fun g=>if g=0 then some (ints gW) else none
theorem aT:gE G0:=fun g cells h=>by
 unfold G0 at h;split at h
 ·cases h;refine .vptr fun i hi=>?_;simp only[ints,VF];exact .lit _
 ·cases h
theorem Qr (ρ:Env):ah G0 ρ (.global 0)=.vptr (ints gW) 0:=rfl
end Go.Proofs
namespace Go.Hx
variable {P:Program} {G:Nat->Option (List AVal)} {Γ Γ':az} {H H':AHeap} {w w':World}
theorem W.env {n:Nat}{rd:Option Nat}{Q:AX->St->Prop}{c:Code}{ρ:Env}{H:AHeap}(h:∀ E,E=ρ->W P G n rd c Q ⟨E,H⟩):W P G n rd c Q ⟨ρ,H⟩:=h ρ rfl
theorem W.en {n:Nat}{rd:Option Nat}{Q:AX->St->Prop}{c:Code}{ρ:Env}{H:AHeap}(p:Env->Prop)(hp:p ρ)(h:∀ E,p E->W P G n rd c Q ⟨E,H⟩):W P G n rd c Q ⟨ρ,H⟩:=h ρ hp
theorem Below.mono {n m:Nat}{v:AVal}(h:Below n v)(hm:n<=m):Below m v:=by
 induction h with
 | lit v=>exact .lit v
 | vec h ih=>exact .vec ih
 | vptr h ih=>exact .vptr ih
 | agg h ih=>exact .agg ih
 | tup h ih=>exact .tup ih
 | clo h1 h2 ih1 ih2=>exact .clo ih1 ih2
 | own h=>exact .own (by omega)
 | ptr h=>exact .ptr (by omega)
 | yld h=>exact .yld (by omega)
theorem jP {l:List AVal}{i:Nat}{x:AVal}(h:i<l.length):setAt l i [x]=l.set i x:=by
 unfold setAt;rw[YC,Vx h];simp
section
variable {t:TypeId} {x y:Operand} {k k':IntKind} {a b:Int}
theorem UU (n:Int):IntKind.u64.wrap n=n % 18446744073709551616:=by simp [IntKind.wrap,IntKind.bits,IntKind.signed]
theorem ru (hb:0<=b):aU P .shr t x y (.lit (.int k a)) (.lit (.int k' b))=some (.lit (.int k (a.fdiv (2 ^ (min b.toNat k.bits))))):=by
 have h:¬ b<0:=by omega
 simp [aU,AVal.cj,eqGuard,binOp,Op.shift,h,cF,bind,Sem.bind,pure]
theorem ry (hb:0<=b):aU P .shl t x y (.lit (.int k a)) (.lit (.int k' b))=some (.lit (.int k (k.wrap (a*2 ^ (min b.toNat k.bits))))):=by
 have h:¬ b<0:=by omega
 simp [aU,AVal.cj,eqGuard,binOp,Op.shift,h,cF,bind,Sem.bind,pure]
theorem tB:aU P .and t x y (.lit (.int k a)) (.lit (.int k b))=some (.lit (.int k (k.wrap ((BitVec.ofInt k.bits a &&& BitVec.ofInt k.bits b).toNat:Nat)))):=by
 simp [aU,AVal.cj,eqGuard,binOp,Op.intBits,cF,bind,Sem.bind,pure]
theorem UV:aU P .or t x y (.lit (.int k a)) (.lit (.int k b))=some (.lit (.int k (k.wrap ((BitVec.ofInt k.bits a ||| BitVec.ofInt k.bits b).toNat:Nat)))):=by
 simp [aU,AVal.cj,eqGuard,binOp,Op.intBits,cF,bind,Sem.bind,pure]
theorem UW:aU P .xor t x y (.lit (.int k a)) (.lit (.int k b))=some (.lit (.int k (k.wrap ((BitVec.ofInt k.bits a ^^^ BitVec.ofInt k.bits b).toNat:Nat)))):=by
 simp [aU,AVal.cj,eqGuard,binOp,Op.intBits,cF,bind,Sem.bind,pure]
theorem UX:aU P .andNot t x y (.lit (.int k a)) (.lit (.int k b))=some (.lit (.int k (k.wrap ((BitVec.ofInt k.bits a &&& ~~~ BitVec.ofInt k.bits b).toNat:Nat)))):=by
 simp [aU,AVal.cj,eqGuard,binOp,Op.intBits,cF,bind,Sem.bind,pure]
def bE (m:Nat):AVal:=.lit (.int .u64 (m:Int))
def jQ (a b:Nat):Nat:=(BitVec.ofNat 64 a &&& ~~~ BitVec.ofNat 64 b).toNat
theorem xj {m:Nat}(h:m<2 ^ 64):(BitVec.ofInt 64 (m:Int)).toNat=m:=by rw[BitVec.ofInt_natCast,BitVec.toNat_ofNat,XH h]
theorem UY (a b:Nat):jQ a b<2 ^ 64:=(BitVec.isLt _)
theorem GH {a b i:Nat}(ha:a<2 ^ 64):(jQ a b).testBit i=(a.testBit i && !b.testBit i):=by
 unfold jQ;by_cases hi:i<64
 ·rw[<- BitVec.getLsbD,BitVec.getLsbD_and,BitVec.getLsbD_not,BitVec.getLsbD_ofNat,BitVec.getLsbD_ofNat];simp [hi]
 ·have h1:a.testBit i=false:=Yp (VL ha (VT (by decide) (by omega)));rw[h1,<- BitVec.getLsbD,BitVec.getLsbD_of_ge _ _ (by omega)];rfl
theorem xk {m:Nat}(h:m<2 ^ 64):IntKind.u64.wrap (m:Int)=m:=Wl _ (by omega)
theorem UZ {a b:Nat}(ha:a<2 ^ 64)(hb:b<2 ^ 64):aU P .and t x y (.lit (.int .u64 (a:Int))) (.lit (.int .u64 (b:Int)))=some (.lit (.int .u64 ((a &&& b:Nat):Int))):=by
 rw[tB];have e:(BitVec.ofInt (IntKind.bits .u64) (a:Int) &&& BitVec.ofInt (IntKind.bits .u64) (b:Int)).toNat=a &&& b:=by
  show (BitVec.ofInt 64 _ &&& BitVec.ofInt 64 _).toNat=_;rw[BitVec.toNat_and,xj ha,xj hb]
 rw[e,xk (Xp Nat.and_le_left ha)]
theorem xm {a b:Nat}(ha:a<2 ^ 64)(hb:b<2 ^ 64):aU P .or t x y (.lit (.int .u64 (a:Int))) (.lit (.int .u64 (b:Int)))=some (.lit (.int .u64 ((a ||| b:Nat):Int))):=by
 rw[UV];have e:(BitVec.ofInt (IntKind.bits .u64) (a:Int) ||| BitVec.ofInt (IntKind.bits .u64) (b:Int)).toNat=a ||| b:=by
  show (BitVec.ofInt 64 _ ||| BitVec.ofInt 64 _).toNat=_;rw[BitVec.toNat_or,xj ha,xj hb]
 rw[e,xk (YE ha hb)]
theorem U0 {a b:Nat}:aU P .andNot t x y (.lit (.int .u64 (a:Int))) (.lit (.int .u64 (b:Int)))=some (.lit (.int .u64 ((jQ a b:Nat):Int))):=by
 rw[UX];have e:(BitVec.ofInt (IntKind.bits .u64) (a:Int) &&& ~~~ BitVec.ofInt (IntKind.bits .u64) (b:Int)).toNat=jQ a b:=by
  show (BitVec.ofInt 64 _ &&& ~~~ BitVec.ofInt 64 _).toNat=_;rw[BitVec.ofInt_natCast,BitVec.ofInt_natCast];rfl
 rw[e,xk (UY a b)]
theorem GI {a s:Nat}(ha:a<2 ^ 64):aU P .shr t x y (.lit (.int .u64 (a:Int))) (.lit (.int k' (s:Int)))=some (.lit (.int .u64 ((a >>> s:Nat):Int))):=by
 rw[ru (by omega),Int.toNat_natCast];have e:(a:Int).fdiv (2 ^ (min s (IntKind.bits .u64)))=((a >>> s:Nat):Int):=by
  rw[Yd _ (by exact_mod_cast XY _),Nat.shiftRight_eq_div_pow];show (a:Int) / 2 ^ (min s 64)=_;rcases Nat.le_total s 64 with h|h
  ·rw[Xa h];push_cast;rfl
  ·rw[Nat.min_eq_right h];have h1:a / 2 ^ s=0:=Nat.div_eq_of_lt (VL ha (VT (by decide) h));rw[h1];exact XW (by omega) (by omega)
 rw[e]
theorem Bc {s:Nat}(hs:s<64):aU P .shl t x y (.lit (.int .u64 1)) (.lit (.int k' (s:Int)))=some (.lit (.int .u64 ((2 ^ s:Nat):Int))):=by
 rw[ry (by omega),Int.toNat_natCast];have e:min s (IntKind.bits .u64)=s:=Xa (by show s<=64;omega);have h2:2 ^ s<2 ^ 64:=X5 (by decide) hs;rw[e,XM];have h3:((2:Int) ^ s)=((2 ^ s:Nat):Int):=by push_cast;rfl
 rw[h3,xk h2]
theorem GJ {a s:Nat}(ha:a<2 ^ 64):aU P .and t x y (.lit (.int .u64 ((a >>> s:Nat):Int))) (.lit (.int .u64 1))=some (.lit (.int .u64 (if a.testBit s then 1 else 0))):=by
 have h1:a >>> s<2 ^ 64:=Xp (Nat.shiftRight_le _ _) ha;have:=UZ (P:=P) (t:=t) (x:=x) (y:=y) (a:=a >>> s) (b:=1) h1 (by decide);rw[show (((1:Nat):Int))=1 from rfl]at this;rw[this,Nat.and_one_is_mod];congr 3;rw[Nat.testBit,Nat.and_comm,Nat.and_one_is_mod];rcases WT (a >>> s) with h|h<;>rw[h]<;>rfl
end
end Go.Hx
namespace Go.Proofs
open Go.Hx
theorem dN (H:AHeap)(b:Blk)(L:List Blk):(ext H (b :: L)).get H.next=some b:=bC H (b :: L) 0 (by simp)
theorem GK (l:List Int)(n:Nat):(ints l).take n=ints (l.take n):=by simp [ints]
theorem GL (l:List Int)(n:Nat):(ints l).drop n=ints (l.drop n):=by simp [ints]
theorem aJ {α:Type}{l:List α}{i:Nat}{a:α}(h:l[i]?=some a):¬ l=[]:=by rintro rfl;simp at h
theorem fo {l:List Int}{i:Nat}{x:Int}(h:i<l.length):setAt (ints l) i [.lit (.int .i64 x)]=ints (l.set i x):=by
 rw[jP (by simpa [ints] using h)];simp [ints,aa]
theorem jR (w:Bool):r7 w (some (.lit undef))=some false:=rfl
def aQ (ns:List NodeP)(x:NodeP):List Int:=aP (af ns) x.parents
def eo:List Int->List Int->Int
 | _ :: cs,v :: vs=>v*aA cs+eo cs vs
 | _,_=>0
def dZ:List Int->Int->List Int
 | [],_=>[]
 | c :: cs,i=>i / aA cs % c :: dZ cs i
theorem qQ (cs:List Int)(i:Int):(dZ cs i).length=cs.length:=by
 induction cs with
 | nil=>rfl
 | cons c cs ih=>simp [dZ,ih]
theorem SQ {cs:List Int}{k:Nat}{c:Int}(h:cs[k]?=some c)(i:Int):dZ (cs.drop k) i=(i / aA (cs.drop (k+1)) % c) :: dZ (cs.drop (k+1)) i:=by
 have:cs.drop k=c :: cs.drop (k+1):=by
  rw[Wn (get_lt h)];congr 1;have:=Vv (get_lt h);rw[h]at this;exact(Option.some.inj this).symm
 rw[this];rfl
theorem qS {α:Type}{l:List α}{k:Nat}{a:α}(h:l[k]?=some a):l.drop k=a :: l.drop (k+1):=by
 rw[Wn (get_lt h)];congr 1;have:=Vv (get_lt h);rw[h]at this;exact(Option.some.inj this).symm
theorem SR {cs:List Int}(h:∀ c∈cs,1<=c)(i:Int):∀ (k:Nat) (c v:Int),cs[k]?=some c->(dZ cs i)[k]?=some v->0<=v/\v<c:=by
 induction cs with
 | nil=>intro k c v h;simp at h
 | cons a cs ih =>
  intro k c v h1 h2;cases k with
  | zero =>
   simp only[dZ,List.getElem?_cons_zero,Option.some.injEq]at h1 h2;subst h1;subst h2;have:=h a (by simp);exact⟨Xs _ (by omega),Xf _ (by omega)⟩
  | succ k =>
   simp only[dZ,List.getElem?_cons_succ]at h1 h2;exact ih (fun c hc=>h c (by simp [hc])) k c v h1 h2
def bP (cs vs:List Int):Prop:=vs.length=cs.length/\∀ (k:Nat) (c v:Int),cs[k]?=some c->vs[k]?=some v->0<=v/\v<c
theorem bP.tail {c v:Int}{cs vs:List Int}(h:bP (c :: cs) (v :: vs)):bP cs vs:=⟨by simpa using h.1,fun k c v h1 h2=>h.2 (k+1) c v (by simpa using h1) (by simpa using h2)⟩
theorem bP.head {c v:Int}{cs vs:List Int}(h:bP (c :: cs) (v :: vs)):0<=v/\v<c:=h.2 0 c v (by simp) (by simp)
theorem bP.pos {cs vs:List Int}(h:bP cs vs):∀ c∈cs,1<=c:=fun c hc=>by
 obtain⟨k,hk⟩:=V0.1 hc;obtain⟨v,hv⟩:=get_of_lt (l:=vs) (i:=k) (by rw[h.1];exact get_lt hk);have:=h.2 k c v hk hv;omega
theorem AL {cs:List Int}(h:∀ c∈cs,1<=c)(i:Int):bP cs (dZ cs i):=⟨qQ cs i,SR h i⟩
theorem tn:∀ {cs vs:List Int},bP cs vs->0<=eo cs vs/\eo cs vs<aA cs:=by
 intro cs
 induction cs with
 | nil=>intro vs _;cases vs<;>(simp [eo,iQ])
 | cons c cs ih =>
  intro vs h;cases vs with
  | nil=>exact absurd h.1 (by simp)
  | cons v vs =>
   have h1:=ih h.tail;have h2:=h.head;have hp:1<=aA cs:=mq fun x hx=>h.pos x (by simp [hx]);rw[hU];simp only[eo];have h3:0<=v*aA cs:=WE h2.1 (by omega);have h4:(v+1)*aA cs<=c*aA cs:=Wv (by omega) (by omega);rw[XN,XM]at h4;omega
def eu (cs vs:List Int):Int:=(cs.zip vs).foldl (fun a p=>a*p.1+p.2) 0
theorem SS:∀ (cs vs:List Int),vs.length=cs.length->∀ a,(cs.zip vs).foldl (fun a p=>a*p.1+p.2) a=a*aA cs+eo cs vs:=by
 intro cs
 induction cs with
 | nil=>intro vs _ a;simp [iQ,eo]
 | cons c cs ih =>
  intro vs h a;cases vs with
  | nil=>simp at h
  | cons v vs =>
   simp only[XQ,Xc];rw[ih vs (by simpa using h),hU];simp only[eo];rw[XN,XT];omega
theorem qT {cs vs:List Int}(h:vs.length=cs.length):eu cs vs=eo cs vs:=by
 unfold eu;rw[SS cs vs h];omega
theorem qU {cs vs:List Int}{k:Nat}{c v:Int}(h1:cs[k]?=some c)(h2:vs[k]?=some v):eu (cs.take (k+1)) (vs.take (k+1))=eu (cs.take k) (vs.take k)*c+v:=by
 unfold eu;rw[aL h1,aL h2,List.zip_append (by have:=get_lt h1;have:=get_lt h2;simp;omega),WK];rfl
def eQ (l:List Int):Prop:=l.length<=12/\∀ x∈l,0<=x/\x<=8
theorem eQ.prod {l:List Int}(h:eQ l):0<=aA l/\aA l<=68719476736:=by
 have h1:=oO (b:=8) (by omega) h.2;have h2:(8:Int) ^ l.length<=8 ^ 12:=by
  have:(8:Nat) ^ l.length<=8 ^ 12:=VT (by decide) h.1
  exact_mod_cast this
 exact⟨h1.1,Y7 h1.2 h2⟩
theorem eQ.take {l:List Int}(h:eQ l)(k:Nat):eQ (l.take k):=⟨by have:=h.1;simp;omega,fun x hx=>h.2 x (VW hx)⟩
theorem eQ.drop {l:List Int}(h:eQ l)(k:Nat):eQ (l.drop k):=⟨by have:=h.1;simp;omega,fun x hx=>h.2 x (WV hx)⟩
theorem A1 (l:List Int)(hl:eQ l)(H:AHeap)(K:ARes->AHeap->Prop)(hK:K (.ret (aa (aA l))) H):ae Tryd.prog G0 22 [ab l] H K:=by
 have l12:=hl.1;refine ae.bF (n:=18) (rs:=[.tmp 2]) Tryd.func22 rfl rfl rfl (by decide) (by kernel_rfl) (by simp) ?_;simp only[go_sem];refine W.aG 131064 (by rfl) (fun ρ H'=>H'=H/\∃ k:Nat,ρ 4=aa k/\k<=l.length/\ρ 3=aa (aA (l.take k))) (fun ρ H=>l.length - (iv (ρ 4)).toNat) ?_ ?_
 ·simp only[go_sem];exact⟨0,rfl,by omega,by simp [iQ]⟩
 rintro ρ H' ⟨rfl,k,h4,hk,h3⟩;refine W.vs ?_;by_cases hb:(k:Int)<l.length
 ·obtain⟨c,hc⟩:=get_of_lt (l:=l) (i:=k) (by omega);have hne:=aJ hc;have b1:=(hl.take (k+1)).prod;rw[aL hc,jM]at b1;simp only[go_sem,h4,h3,hb,hc,hne];rw[Vt ((k:Int)+1) (by omega),Vt (_*c) (by omega)];exact⟨⟨k+1,by simp,by omega,by rw[aL hc,jM]⟩,by omega⟩
 ·simp only[go_sem,h4,h3,hb];rw[Vz (by omega)];exact av.mk (Nat.le_refl _) hK
theorem A2 (x y:List Int)(hx:(x.length:Int)<2 ^ 62)(H:AHeap)(K:ARes->AHeap->Prop)(hK:K (.ret (.lit (.bool (decide (x=y))))) H):ae Tryd.prog G0 10 [ab x,ab y] H K:=by
 have no:¬ x=y->av Tryd.prog G0 H K (.lit (.bool false)) H:=fun h=>av.mk (Nat.le_refl _) (by rw[VZ h]at hK;exact hK);refine ae.bF (n:=26) (rs:=[.tmp 4]) Tryd.func10 rfl rfl rfl (by decide) (by kernel_rfl) (by simp) ?_;by_cases hl:(x.length:Int)=y.length;rotate_left
 ·simp only[go_sem,hl];exact no fun h=>hl (by rw[h])
 simp only[go_sem,hl];refine W.aG 67100720 (by rfl) (fun ρ H'=>H'=H/\∃ k:Nat,ρ 13=aa k/\k<=x.length/\x.take k=y.take k) (fun ρ H=>x.length - (iv (ρ 13)).toNat) ?_ ?_
 ·simp only[go_sem];exact⟨0,rfl,by omega,rfl⟩
 rintro ρ H' ⟨rfl,k,h13,hk,ht⟩;refine W.vs ?_;by_cases hb:(k:Int)<y.length
 ·obtain⟨a,ha⟩:=get_of_lt (l:=x) (i:=k) (by omega);obtain⟨b,hbk⟩:=get_of_lt (l:=y) (i:=k) (by omega);have hxn:=aJ ha;have hyn:=aJ hbk;have hbx:(k:Int)<x.length:=by omega
  simp only[go_sem,h13,hb];refine W.draw 8 [0,0,3,7,0,0,48,112] Tryd.mixed (by kernel_rfl) (by kernel_rfl) ?_;by_cases he:a=b
  ·subst he;simp only[go_sem,h13,hb,hbx,ha,hbk,hxn,hyn];rw[Vt ((k:Int)+1) (by omega)];exact⟨⟨k+1,by simp,by omega,by rw[aL ha,aL hbk,ht]⟩,by omega⟩
  ·simp only[go_sem,hb,hbx,ha,hbk,hxn,hyn,he];exact no fun h=>he (by rw[h,hbk]at ha;exact(Option.some.inj ha).symm)
 ·simp only[go_sem,h13,hb];refine av.mk (Nat.le_refl _) ?_;have:x=y:=by
   rw[Vz (by omega),Vz (by omega)]at ht;exact ht
  rw[VM this]at hK;exact hK
instance placesDec (l:List Int)(n:Int):Decidable (dL l n):=by unfold dL;infer_instance
theorem dL.nil {n:Int}:dL [] n:=⟨.nil,fun _ h=>by cases h⟩
theorem dL.take {l:List Int}{n:Int}(h:dL l n)(k:Nat):dL (l.take k) n:=⟨h.1.sublist (List.take_sublist k l),fun p hp=>h.2 p (VW hp)⟩
theorem dL.snoc {l:List Int}{n a:Int}(h:dL l n)(ha:0<=a/\a<n)(hl:∀ b,l.getLast?=some b->b<a):dL (l++[a]) n:=by
 refine⟨X6.2 ⟨h.1,by simp,fun x hx y hy=>?_⟩,fun p hp=>?_⟩
 ·obtain rfl:=List.mem_singleton.1 hy;rcases List.eq_nil_or_concat l with rfl|⟨l',b,rfl⟩
  ·cases hx
  ·have hb:=hl b (by simp);simp only[List.concat_eq_append]at hx h;rcases VP.1 hx with hx|hx
   ·have:=(X6.1 h.1).2.2 x hx b (by simp);omega
   ·obtain rfl:=List.mem_singleton.1 hx;exact hb
 ·rcases VP.1 hp with hp|hp
  ·exact h.2 p hp
  ·obtain rfl:=List.mem_singleton.1 hp;exact ha
theorem dL.lt {l:List Int}{n:Int}(h:dL l n){i j:Nat}{a b:Int}(ha:l[i]?=some a)(hb:l[j]?=some b)(hij:i<j):a<b:=by
 have:=YT.1 h.1 i j (get_lt ha) (get_lt hb) hij;have e1:=Vv (get_lt ha);have e2:=Vv (get_lt hb);rw[ha]at e1;rw[hb]at e2;rw[Option.some.inj e1,Option.some.inj e2];exact this
theorem dL.len {l:List Int}{n:Int}(h:dL l n):(l.length:Int)<=max n 0:=by
  -- the k-th place is at least k
 have key:∀ (k:Nat) (a:Int),l[k]?=some a->(k:Int)<=a:=by
  intro k
  induction k with
  | zero=>intro a ha;have:=h.2 a (Vs ha);omega
  | succ k ih =>
   intro a ha;obtain⟨b,hb⟩:=get_of_lt (l:=l) (i:=k) (by have:=get_lt ha;omega);have:=ih b hb;have:=h.lt hb ha (by omega);omega
 rcases Yf l.length with h0|h0
 ·omega
 ·obtain⟨a,ha⟩:=get_of_lt (l:=l) (i:=l.length - 1) (by omega);have h1:=key _ a ha;have h2:=h.2 a (Vs ha);omega
theorem A3 {l:List Int}{j:Nat}{b:Int}(h:l[j]?=some b):(l.take (j+1)).getLast?=some b:=by rw[aL h];simp
theorem Uf (l:List Int)(n:Int)(hl:(l.length:Int)<2 ^ 62)(H:AHeap)(K:ARes->AHeap->Prop)(hK:K (.ret (.lit (.bool (decide (dL l n))))) H):ae Tryd.prog G0 32 [ab l,aa n] H K:=by
 have no:¬ dL l n->av Tryd.prog G0 H K (.lit (.bool false)) H:=fun h=>av.mk (Nat.le_refl _) (by rw[VZ h]at hK;exact hK);refine ae.bF (n:=41) (rs:=[.tmp 4]) Tryd.func32 rfl rfl rfl (by decide) (by kernel_rfl) (by simp) ?_;simp only[go_sem];refine W.aG 2199023255536 (by rfl) (fun ρ H'=>H'=H/\∃ k:Nat,ρ 5=aa k/\k<=l.length/\dL (l.take k) n) (fun ρ H=>l.length - (iv (ρ 5)).toNat) ?_ ?_
 ·simp only[go_sem];exact⟨0,rfl,by omega,.nil⟩
 rintro ρ H' ⟨rfl,k,h5,hk,hp⟩;refine W.vs ?_;by_cases hb:(k:Int)<l.length
 ·obtain⟨a,ha⟩:=get_of_lt (l:=l) (i:=k) (by omega);have hne:=aJ ha;have ham:=Vs ha;simp only[go_sem,h5,hb];refine W.draw 26 [0,0,3,7,15,31,63,63,255,511,63,2047,4095,8191,16383,32767,65535,131071,131071,524287,1048575,131071,131071,4325375,14811135,31588351] Tryd.mixed (by kernel_rfl) (by kernel_rfl) ?_;by_cases c1:a<0
  ·simp only[go_sem,h5,hb,ha,hne,c1,jR];exact no fun h=>by have:=h.2 a ham;omega
  by_cases c2:a >= n
  ·simp only[go_sem,h5,hb,ha,hne,c1,c2,jR];exact no fun h=>by have:=h.2 a ham;omega
  by_cases c3:(k:Int) > 0
  ·obtain⟨j,rfl⟩:∃ j,k=j+1:=⟨k - 1,by omega⟩
   obtain⟨b,hbj⟩:=get_of_lt (l:=l) (i:=j) (by omega);have w1:=Vt (j:Int) (by omega);have w2:=Vt (((j+1:Nat):Int)+1) (by omega);have e1:((j+1:Nat):Int) - 1=j:=(by omega);have hb1:(j:Int)<l.length:=(by omega);have hbj':=hbj;by_cases c4:a<=b
   ·simp only[go_sem,h5,hb,ha,hne,c1,c2,c3,c4,w1,e1,hb1,hbj];exact no fun h=>by have:=h.lt hbj ha (by omega);omega
   ·simp only[go_sem,h5,hb,ha,hne,c1,c2,c3,c4,w1,w2,e1,hb1,hbj];refine⟨⟨j+1+1,by simp,by omega,?_⟩,by omega⟩;rw[aL ha];exact hp.snoc (by omega) fun b' hb'=>by
     rw[A3 hbj]at hb';cases hb';omega
  ·simp only[go_sem,h5,hb,ha,hne,c1,c2,c3];rw[Vt ((k:Int)+1) (by omega)];obtain rfl:k=0:=(by omega);refine⟨⟨1,by simp,by omega,?_⟩,by omega⟩;rw[aL ha];exact hp.snoc (by omega) fun b' hb'=>by simp at hb'
 ·simp only[go_sem,h5,hb];rw[Vz (by omega)]at hp;rw[VM hp]at hK;exact av.mk (Nat.le_refl _) hK
end Go.Proofs
namespace Go.Hx
theorem Over.live {H H':AHeap}(h:Over H H'){id g:Nat}(hi:id<H.next):H'.live id g=H.live id g:=by
 unfold AHeap.live;rw[h.old id hi]
theorem Over.upd {H H':AHeap}(h:Over H H'){id:Nat}(hi:H.next<=id)(b:Blk):Over H (H'.upd id b):=⟨h.next,fun j hj=>by rw[ag,Vw (by omega)];exact h.old j hj⟩
theorem U1 {H:AHeap}{id g:Nat}{e:TypeId}{c:List AVal}:(H.upd id (.arr g e c)).live id g=some (e,c):=ak (by rw[ag,Vx rfl])
theorem GM {H:AHeap}{id j g:Nat}{b:Blk}(h:j≠id):(H.upd id b).live j g=H.live j g:=by unfold AHeap.live;rw[ag,Vw h]
attribute [go_sem] U1
@[go_sem] theorem Vr (a b:Array TypeId)(c:Bool)(n:Nat)(cells:List AVal)(off:Nat):kQ (some (.func a b c)) n cells off=cells[off]?:=rfl
end Go.Hx
namespace Go.Proofs
open Go.Hx
theorem oV {H H' H2:AHeap}{e:TypeId}{v:AVal}{cs:List AVal}(ov:Over H H')(h:aC H.next H' e v cs)(hn:H'.next<=H2.next)(hp:∀ k,k<H'.next->(∀ g n,v≠.own k g 0 n 1)->H2.get k=H'.get k):Over H H2 :=
 ⟨We ov.next hn,fun id hi=>by
  rw[hp id (VL hi ov.next) fun g n he=>?_,ov.old id hi];rcases h with ⟨h,_⟩|⟨i2,g2,a1,_,h,_⟩
  ·rw[h]at he;cases he
  ·rw[h]at he;have:=AVal.own.inj he;omega⟩
theorem mB {H H':AHeap}{v:AVal}{l:List Int}(x:Int)(ov:Over H H')(h:aC H.next H' 3 v (ints l))(hl:l.length<2 ^ 40):
  ∃ v' H2,bM Tryd.prog (ext H' [.arr 0 3 [.lit (.int .i64 x)]]) (H'.next+1) 39 39 v (.own H'.next 0 0 1 1)=some (v',H2)/\Over H H2/\aC H.next H2 3 v' (ints (l++[x]))/\H'.next<=H2.next/\(∀ k,k<H'.next->(∀ g n,v≠.own k g 0 n 1)->H2.get k=H'.get k):=by
 obtain⟨v',H2,hA,hO,hn2,hp⟩:=jc (P:=Tryd.prog) (H:=H') (t:=39) (x:=aa x) (n:=H'.next+1) Tryd.underlying39 Tryd.fh Tryd.fR rfl (by rw[Tryd.gL,aR];omega) h ov.next rfl;simp only[aa]at hA;exact⟨v',H2,hA,oV ov h hn2 hp,by simpa [ints,aa] using hO,hn2,hp⟩
theorem U2 (l:List (List Int)):(aB l).one=true:=rfl
theorem U3 (l:List (List Int)):(aB l).cells=[aB l]:=rfl
theorem U4 (l:List NodeP):(dk l).one=true:=rfl
theorem U5 (l:List NodeP):(dk l).cells=[dk l]:=rfl
theorem U6 (l:List UtilP):(AK l).one=true:=rfl
theorem U7 (l:List UtilP):(AK l).cells=[AK l]:=rfl
attribute [go_sem] U2 U3 U4 U5 U6 U7
structure OwnI (H H':AHeap)(id:Nat)(c:List Int):Prop where
 ov:Over H H'
 lo:H.next<=id
 hi:id<H'.next
 get:H'.get id=some (.arr 0 3 (ints c))
theorem OwnI.live {H H':AHeap}{id:Nat}{c:List Int}(h:OwnI H H' id c):H'.live id 0=some (3,ints c):=ak h.get
theorem OwnI.ne {H H':AHeap}{id:Nat}{c:List Int}(h:OwnI H H' id c):¬ id=H'.next:=by have:=h.hi;omega
theorem OwnI.over {H H' H2:AHeap}{id:Nat}{c:List Int}(h:OwnI H H' id c)(o:Over H' H2):OwnI H H2 id c:=⟨h.ov.trans o,h.lo,VL h.hi o.next,(o.old id h.hi).trans h.get⟩
theorem OwnI.store {H H':AHeap}{id:Nat}{c:List Int}(h:OwnI H H' id c){k:Nat}(hk:k<c.length)(x:Int):OwnI H (H'.upd id (.arr 0 3 (setAt (ints c) k [.lit (.int .i64 x)]))) id (c.set k x) :=
 ⟨⟨h.ov.next,fun i hi=>by rw[ag,Vw (by have:=h.lo;omega)];exact h.ov.old i hi⟩,h.lo,h.hi,by rw[ag,Vx rfl,fo hk]⟩
theorem OwnI.new {H:AHeap}(L:List Blk)(n:Nat):OwnI H (ext H (.arr 0 3 (List.replicate n (.lit (.int .i64 0))) :: L)) H.next (List.replicate n 0) :=
 ⟨.ext _ _,Nat.le_refl _,by simp [dF],by rw[dN];simp [ints,aa]⟩
theorem OwnI.fin {H H':AHeap}{id:Nat}{c:List Int}{K:ARes->AHeap->Prop}(hcl:Clo H)(h:OwnI H H' id c){n:Nat}(hn:n=c.length)(hK:K (.ret (ab c)) H):av Tryd.prog G0 H K (.own id 0 0 n 1) H':=by
 subst hn;refine av.bR aT hcl h.ov ?_ hK;exact .ints h.lo h.get (by simp) fun i hi=>by simp [eZ,hi]
theorem U9 {l m:List Int}{k:Nat}{x:Int}(h:l.take k=m.take k)(hk:k<l.length)(hx:m[k]?=some x):(l.set k x).take (k+1)=m.take (k+1):=by
 rw[aL hx,aL (show (l.set k x)[k]?=some x by rw[VI hk]),XL (Nat.le_refl k),h]
theorem bf {α:Type}{l:List α}{i:Nat}{a d:α}(h:l[i]?=some a):l.getD i d=a:=by rw[Vy,h];rfl
theorem Gj {l places:List Int}{k:Nat}{p:Int}(h:places[k]?=some p):aP l (places.take (k+1))=aP l (places.take k)++[l.getD p.toNat 0]:=by
 unfold aP;rw[aL h];simp
theorem cN {ns:List NodeP}{k:Nat}{x:NodeP}(h:ns[k]?=some x):(af ns)[k]?=some x.card:=by unfold af;rw[List.getElem?_map,h];rfl
theorem bK (ns:List NodeP):(af ns).length=ns.length:=by simp [af]
theorem Ug (l p:List Int)(hl:(l.length:Int)<2 ^ 40)(hp:(p.length:Int)<2 ^ 39)(hin:∀ q∈p,0<=q/\q<l.length)(H:AHeap)(K:ARes->AHeap->Prop)(hK:K (.ret (ab (aP l p))) H):ae Tryd.prog G0 49 [ab l,ab p] H K:=by
 refine ae.clo ⟨_,Tryd.func49,rfl,rfl⟩ fun hcl=>?_;refine ae.bF (n:=24) (rs:=[.tmp 4]) Tryd.func49 rfl rfl rfl (by decide) (by kernel_rfl) (by simp) ?_;simp only[go_sem];refine W.aG 8388576 (by rfl) (fun ρ H'=>∃ k:Nat,ρ 6=aa k/\k<=p.length/\Over H H'/\aC H.next H' 3 (ρ 5) (ints (aP l (p.take k)))) (fun ρ H=>p.length - (iv (ρ 6)).toNat) ?_ ?_
 ·simp only[go_sem];exact⟨0,rfl,by omega,.refl _,.nil⟩
 rintro ρ H' ⟨k,h6,hk,ov,h5⟩;refine W.vs ?_;by_cases hb:(k:Int)<p.length
 ·obtain⟨q,hq⟩:=get_of_lt (l:=p) (i:=k) (by omega);obtain⟨j,rfl,a,ha⟩:=nH (hin q (Vs hq)).1 (hin q (Vs hq)).2;have hne:=aJ hq;have hne2:=aJ ha;have hj:=get_lt ha;have hj':(j:Int)<l.length:=by omega
  obtain⟨v',H2,hA,ov2,hO,hn2,_⟩:=mB a ov h5 (by simp [aP];omega);have w1:=Vt ((k:Int)+1) (by omega);simp only[go_sem,h6,hb,hq,hne,ha,hne2,hj',w1,hA];refine⟨by have:=ov2.next;omega,⟨k+1,by simp,by omega,ov2,?_⟩,by omega⟩;rw[Gj hq,Int.toNat_natCast,bf ha];exact hO
 ·simp only[go_sem,h6,hb];rw[Vz (by omega)]at h5;exact av.bR aT hcl ov (h5.jb fun i hi=>hi) hK
theorem mA (g:Int)(ns:List NodeP)(hl:(ns.length:Int)<2 ^ 39)(H:AHeap)(K:ARes->AHeap->Prop)(hK:K (.ret (ab (af ns))) H):ae Tryd.prog G0 11 [aZ g ns] H K:=by
 refine ae.clo ⟨_,Tryd.func11,rfl,rfl⟩ fun hcl=>?_;refine ae.bF (n:=22) (rs:=[.tmp 2]) Tryd.func11 rfl rfl rfl (by decide) (by kernel_rfl) (by simp) ?_;simp only[go_sem,aZ,dk];obtain⟨H1,hH1⟩:∃ H1,H1=ext H [.arr 0 36 [.lit (.int .i64 g),.vec ns.length (au ns)]]:=⟨_,rfl⟩
 have l1:H1.live H.next 0=some (36,[.lit (.int .i64 g),.vec ns.length (au ns)]):=by rw[hH1];exact ak (dN ..)
 have n1:H1.next=H.next+1:=by rw[hH1];rfl
 have o1:Over H H1:=by rw[hH1];exact .ext _ _
 rw[<- hH1];refine W.aG 2097144 (by rfl) (fun ρ H'=>∃ k:Nat,ρ 4=aa k/\k<=ns.length/\ρ 1=.ptr H.next 0 0/\Over H1 H'/\aC H1.next H' 3 (ρ 3) (ints ((af ns).take k))) (fun ρ H=>ns.length - (iv (ρ 4)).toNat) ?_ ?_
 ·simp only[go_sem];exact⟨0,rfl,by omega,.refl _,.nil⟩
 rintro ρ H' ⟨k,h4,hk,h1,ov,h3⟩;refine W.vs ?_;have l2:=(ov.live (g:=0) (by omega:H.next<H1.next)).trans l1;by_cases hb:(k:Int)<ns.length
 ·obtain⟨x,hx⟩:=get_of_lt (l:=ns) (i:=k) (by omega);have hne:=eP hx;have e0:=nG hx;obtain⟨v',H2,hA,ov2,hO,hn2,_⟩:=mB x.card ov h3 (by simp [af];omega);have w1:=Vt ((k:Int)+1) (by omega);simp only[go_sem,h4,h1,l2,hb,hne,e0,w1,hA];refine⟨by have:=ov2.next;omega,⟨k+1,by simp,by omega,ov2,?_⟩,by omega⟩;rw[aL (cN hx)];exact hO
 ·simp only[go_sem,h4,h1,l2,hb];rw[Vz (by rw[bK];omega)]at h3;exact av.bR aT hcl (o1.trans ov) (h3.jb fun i hi=>by omega) hK
def ik (l:List Int)(n:Nat):Prop:=∀ q∈l,0<=q/\q<n
theorem iU (l p:List Int):(aP l p).length=p.length:=by simp [aP]
theorem o0 {l p:List Int}{k:Nat}{q:Int}(h:p[k]?=some q):(aP l p)[k]?=some (l.getD q.toNat 0):=by unfold aP;rw[List.getElem?_map,h];rfl
theorem Uh (g:Int)(ns:List NodeP)(v:Nat)(x:NodeP)(hx:ns[v]?=some x)(hl:(ns.length:Int)<2 ^ 39)(hp:(x.parents.length:Int)<2 ^ 39)(hin:ik x.parents ns.length)(H:AHeap)(K:ARes->AHeap->Prop)
  (hK:K (.ret (ab (aQ ns x))) H):ae Tryd.prog G0 23 [aZ g ns,aa v] H K:=by
 refine ae.clo ⟨_,Tryd.func23,rfl,rfl⟩ fun hcl=>?_;have hne:=eP hx;have e1:=tl hx;have hv:(v:Int)<ns.length:=by have:=get_lt hx;omega
 refine ae.bF (n:=14) (rs:=[.tmp 4]) Tryd.func23 rfl rfl rfl (by decide) (by kernel_rfl) (by simp) ?_;simp only[go_sem,aZ,dk];refine W.draw 8 [0,1,0,4,0,28,60,124] Tryd.mixed (by kernel_rfl) (by kernel_rfl) ?_;simp only[go_sem];refine⟨ab (af ns),[],df.pure fun H2=>mA g ns hl H2 _ ⟨rfl,rfl⟩,?_⟩;simp only[go_sem,hv,hne,e1];refine aw.clo (Ug (af ns) x.parents (by rw[bK];omega) hp (by rw[bK];exact hin) _ _ ⟨trivial,?_⟩);simp only[go_sem];exact av.bR aT hcl (.ext _ _) (.ef _) hK
def eb (l:List Int):Nat:=l.foldl (fun s p=>s ||| 2 ^ p.toNat) 0
theorem SU (l:List Int):∀ (s i:Nat),(l.foldl (fun s p=>s ||| 2 ^ p.toNat) s).testBit i=(s.testBit i || l.any fun p=>p.toNat == i):=by
 induction l with
 | nil=>intro s i;simp
 | cons p l ih =>
  intro s i;simp only[Xc,ih,XZ,Zf,List.any_cons];rw[Bool.or_assoc];congr 1
theorem nI {l:List Int}(h:∀ p∈l,0<=p)(i:Nat):(eb l).testBit i=decide ((i:Int)∈l):=by
 unfold eb;rw[SU];simp only[WQ,Y1];rw[XC];simp only[List.any_eq_true,beq_iff_eq,decide_eq_true_eq];constructor
 ·rintro⟨p,hp,rfl⟩;have:=h p hp;rw[Ws this];exact hp
 ·intro hi;exact⟨_,hi,by simp⟩
theorem FB (l:List Int)(p:Int):eb (l++[p])=eb l ||| 2 ^ p.toNat:=by unfold eb;rw[WK];rfl
theorem FC {m n:Nat}(h:∀ i,m.testBit i=true->i<n):m<2 ^ n:=by
 apply Nat.lt_pow_two_of_testBit;intro i hi;rcases Wf (m.testBit i) with e|e
 ·exact absurd (h i e) (by omega)
 ·exact e
theorem AM {l:List Int}{n:Nat}(h:∀ p∈l,0<=p/\p<n):eb l<2 ^ n:=FC fun i hi=>by
 rw[nI fun p hp=>(h p hp).1]at hi;have:=(h _ (of_decide_eq_true hi)).2;omega
theorem qV {m n i:Nat}(h:m<2 ^ n)(hi:m.testBit i=true):i<n:=by
 rcases VR i n with h'|h'
 ·exact h'
 ·rw[Yp (VL h (VT (by decide) h'))]at hi;cases hi
def Sub (s t:Nat):Prop:=∀ i,s.testBit i=true->t.testBit i=true
theorem Sub.refl (s:Nat):Sub s s:=fun _ h=>h
theorem Sub.trans {s t u:Nat}(h:Sub s t)(h':Sub t u):Sub s u:=fun i hi=>h' i (h i hi)
theorem Sub.or {s t u:Nat}(h:Sub s u)(h':Sub t u):Sub (s ||| t) u:=fun i hi=>by
 rw[XZ,Xu]at hi;exact hi.elim (h i) (h' i)
theorem Sub.left (s t:Nat):Sub s (s ||| t):=fun i hi=>by rw[XZ,hi];rfl
theorem Sub.right (s t:Nat):Sub t (s ||| t):=fun i hi=>by rw[XZ,hi];simp
theorem Sub.antisymm {s t:Nat}(h:Sub s t)(h':Sub t s):s=t:=Yx fun i=>by
 rw[XC];exact⟨h i,h' i⟩
theorem AN {a b:Nat}(ha:a<2 ^ 64):jQ a b=0↔Sub a b:=by
 constructor
 ·intro h i hi;have:=GH (a:=a) (b:=b) (i:=i) ha;rw[h,WQ,hi]at this;simpa using this.symm
 ·intro h;apply Yx;intro i;rw[GH ha,WQ];cases hi:a.testBit i
  ·rfl
  ·rw[h i hi];rfl
def fD (ps:List Nat)(s v:Nat):Nat:=if s.testBit v=true then s ||| ps.getD v 0 else s
def fk (ps:List Nat)(s:Nat):Nat:=(List.range ps.length).foldl (fD ps) s
def eE (ps:List Nat):Nat->Nat->Nat
 | 0,s=>s
 | k+1,s=>fk ps (eE ps k s)
def fE (ps:List Nat)(s:Nat):Nat:=eE ps ps.length s
def nJ (ps:List Nat):Prop:=∀ v,v<ps.length->(fE ps (ps.getD v 0)).testBit v=false
def mr (ps:List Nat)(t:Nat):Prop:=∀ v,v<ps.length->t.testBit v=true->Sub (ps.getD v 0) t
theorem FD (ps:List Nat)(s v:Nat):Sub s (fD ps s v):=by unfold fD;split;exact .left _ _;exact .refl _
theorem FE (ps:List Nat)(l:List Nat):∀ s,Sub s (l.foldl (fD ps) s):=by
 induction l with
 | nil=>exact fun s=>.refl s
 | cons v l ih=>exact fun s=>(FD ps s v).trans (ih _)
theorem AO (ps:List Nat)(s:Nat):Sub s (fk ps s):=FE ps _ s
theorem SV {ps:List Nat}{t:Nat}(hc:mr ps t)(l:List Nat)(hl:∀ v∈l,v<ps.length):∀ s,Sub s t->Sub (l.foldl (fD ps) s) t:=by
 induction l with
 | nil=>exact fun s h=>h
 | cons v l ih =>
  intro s h;refine ih (fun v hv=>hl v (by simp [hv])) _ ?_;unfold fD;split
  ·rename_i hv;exact h.or (hc v (hl v (by simp)) (h v hv))
  ·exact h
theorem SW {ps:List Nat}{t:Nat}(hc:mr ps t){s:Nat}(h:Sub s t):Sub (fk ps s) t:=SV hc _ (fun v hv=>VJ.1 hv) s h
theorem tp {ps:List Nat}{t:Nat}(hc:mr ps t)(k:Nat){s:Nat}(h:Sub s t):Sub (eE ps k s) t:=by
 induction k with
 | zero=>exact h
 | succ k ih=>exact SW hc ih
theorem wN (ps:List Nat)(k s:Nat):Sub s (eE ps k s):=by
 induction k with
 | zero=>exact .refl _
 | succ k ih=>exact ih.trans (AO _ _)
theorem SX {ps:List Nat}{s:Nat}(h:fk ps s=s):mr ps s:=by
 intro v hv hs;have key:∀ (l:List Nat) (s0:Nat),v∈l->s0.testBit v=true->Sub (ps.getD v 0) (l.foldl (fD ps) s0):=by
  intro l
  induction l with
  | nil=>intro s0 h;cases h
  | cons u l ih =>
   intro s0 hm hb;rcases List.mem_cons.1 hm with rfl|hm
   ·refine Sub.trans ?_ (FE ps l _);unfold fD;rw[Vx hb];exact .right _ _
   ·exact ih _ hm (FD ps s0 u v hb)
 have:=key (List.range ps.length) s (VJ.2 hv) hs;unfold fk at h
 rwa [h]at this
def dp (n s:Nat):Nat:=(List.range n).countP fun i=>s.testBit i
theorem AP (n s:Nat):dp n s<=n:=by have:=List.countP_le_length (p:=fun i=>s.testBit i) (l:=List.range n);simpa [dp] using this
theorem SY {l:List Nat}{p q:Nat->Bool}(h:∀ x∈l,p x=true->q x=true){a:Nat}(ha:a∈l)(hp:p a=false)(hq:q a=true):l.countP p<l.countP q:=by
 induction l with
 | nil=>cases ha
 | cons x l ih =>
  have hm:l.countP p<=l.countP q:=Y5 fun y hy=>h y (by simp [hy]);rcases List.mem_cons.1 ha with rfl|ha
  ·rw[Wr,Wr,hp,hq];simp;omega
  ·have:=ih (fun y hy=>h y (by simp [hy])) ha;have hx:=h x (by simp);rw[Wr,Wr];cases hpx:p x
   ·simp;omega
   ·rw[hx hpx];simp;omega
theorem qW {n s t i:Nat}(h:Sub s t)(hi:i<n)(h0:s.testBit i=false)(h1:t.testBit i=true):dp n s<dp n t :=
 SY (fun x _ hx=>h x hx) (VJ.2 hi) h0 h1
theorem SZ {ps:List Nat}(hp:∀ p∈ps,p<2 ^ ps.length){s:Nat}(hs:s<2 ^ ps.length):mr ps (fE ps s):=by
 have hb:∀ k,eE ps k s<2 ^ ps.length:=fun k=>by
  have ht:mr ps (2 ^ ps.length - 1):=fun v _ _ i hi=>by
   rw[Xm];have:ps.getD v 0<2 ^ ps.length:=by
    rw[Vy];cases h:ps[v]? with
    | none=>exact Yr _
    | some p=>exact hp p (Vs h)
   simpa using qV this hi
  have:=tp ht k (s:=s) fun i hi=>by rw[Xm];simpa using qV hs hi
  exact FC fun i hi=>by have:=this i hi;rw[Xm]at this;simpa using this
 have key:∀ k,fk ps (eE ps k s)=eE ps k s\/k+1<=dp ps.length (eE ps k s):=by
  have grow:∀ t,t<2 ^ ps.length->fk ps t<2 ^ ps.length->fk ps t≠t->dp ps.length t<dp ps.length (fk ps t):=fun t ht ht' hne=>by
   have:∃ i,(fk ps t).testBit i=true/\t.testBit i=false:=by
    refine V2 fun hno=>hne (Sub.antisymm (fun i hi=>?_) (AO ps t));rcases Wf (t.testBit i) with e|e
    ·exact e
    ·exact absurd ⟨i,hi,e⟩ hno
   obtain⟨i,h1,h0⟩:=this;exact qW (AO ps t) (qV ht' h1) h0 h1
  intro k
  induction k with
  | zero =>
   by_cases h0:s=0
   ·left;subst h0;show fk ps 0=0;unfold fk;have:∀ l:List Nat,l.foldl (fD ps) 0=0:=fun l=>by
     induction l with
     | nil=>rfl
     | cons v l ih=>simp only[Xc,fD,WQ,Bool.false_eq_true,if_false];exact ih
    exact this _
   ·right;obtain⟨i,hi⟩:=Nat.exists_testBit_of_ne_zero h0;have:dp ps.length 0<dp ps.length s:=qW (fun j hj=>by rw[WQ]at hj;cases hj) (qV hs hi) (WQ i) hi;show 0+1<=dp ps.length s;omega
  | succ k ih =>
   rcases ih with ih|ih
   ·left;show fk ps (fk ps (eE ps k s))=fk ps (eE ps k s);rw[ih];exact ih
   ·by_cases hf:fk ps (eE ps k s)=eE ps k s
    ·left;show fk ps (fk ps (eE ps k s))=fk ps (eE ps k s);rw[hf];exact hf
    ·right;have:=grow _ (hb k) (hb (k+1)) hf;show k+1+1<=dp ps.length (fk ps (eE ps k s));omega
 rcases key ps.length with h|h
 ·exact SX h
 ·have:=AP ps.length (eE ps ps.length s);omega
def nK (ps:List Nat)(done v:Nat):Bool:=!done.testBit v && decide (jQ (ps.getD v 0) done=0)
def mu (ps:List Nat)(done:Nat):Option Nat:=(List.range ps.length).find? (nK ps done)
def kD (ps:List Nat):Nat->List Nat->Nat->Option (List Nat)
 | 0,out,_=>some out
 | k+1,out,done=>match mu ps done with
  | none=>none
  | some v=>kD ps k (out++[v]) (done ||| 2 ^ v)
def fF (ps:List Nat):Option (List Nat):=kD ps ps.length [] 0
theorem AQ {ps:List Nat}{done v:Nat}(hp:∀ p∈ps,p<2 ^ 64)(h:mu ps done=some v):v<ps.length/\done.testBit v=false/\Sub (ps.getD v 0) done:=by
 unfold mu at h;have h1:=List.mem_of_find?_eq_some h;have h2:=List.find?_some h;unfold nK at h2;simp only[VY,Yj,decide_eq_true_eq]at h2;have hv:=VJ.1 h1;refine⟨hv,h2.1,(AN ?_).1 h2.2⟩;rw[Vy];cases h:ps[v]? with
 | none=>decide
 | some p=>exact hp p (Vs h)
theorem S3 {ps:List Nat}{done:Nat}(hp:∀ p∈ps,p<2 ^ 64)(h:mu ps done=none):∀ v,v<ps.length->done.testBit v=true\/¬ Sub (ps.getD v 0) done:=by
 intro v hv;unfold mu at h;rw[List.find?_eq_none]at h;have:=h v (VJ.2 hv);unfold nK at this;rcases Wf (done.testBit v) with e|e
 ·exact .inl e
 ·right;intro hs;refine this ?_;rw[e,(AN ?_).2 hs]
  ·simp
  ·rw[Vy];cases h:ps[v]? with
   | none=>decide
   | some p=>exact hp p (Vs h)
theorem hZ (d v i:Nat):(d ||| 2 ^ v).testBit i=(d.testBit i || decide (v=i)):=by rw[XZ,Zf]
theorem S4 {ps:List Nat}(hp:∀ p∈ps,p<2 ^ 64):∀ (k:Nat) (out:List Nat) (done:Nat) (r:List Nat),kD ps k out done=some r->k+dp ps.length done=ps.length ->
  mr ps done->(∀ v,v<ps.length->done.testBit v=true->(fE ps (ps.getD v 0)).testBit v=false)->nJ ps:=by
 intro k
 induction k with
 | zero =>
  intro out done r _ hc hcl hall v hv;refine hall v hv ?_;rcases Wf (done.testBit v) with e|e
  ·exact e
  ·have:dp ps.length done<dp ps.length (2 ^ ps.length - 1 ||| done):=qW (.right _ _) hv e (by rw[XZ,Xm];simp [hv]);have:=AP ps.length (2 ^ ps.length - 1 ||| done);omega
 | succ k ih =>
  intro out done r h hc hcl hall;unfold kD at h;split at h
  ·cases h
  ·rename_i v hn;obtain⟨h1,h2,h3⟩:=AQ hp hn;refine ih _ _ _ h ?_ ?_ ?_
   ·have:dp ps.length (done ||| 2 ^ v)=dp ps.length done+1:=by
     unfold dp;have:∀ l:List Nat,l.Nodup->v∈l->l.countP (fun i=>(done ||| 2 ^ v).testBit i)=l.countP (fun i=>done.testBit i)+1:=by
      intro l
      induction l with
      | nil=>intro _ h;cases h
      | cons x l ihl =>
       intro hnd hmem;obtain⟨g1,g2⟩:=XS.1 hnd;rw[Wr,Wr];rcases List.mem_cons.1 hmem with rfl|hm2
       ·have:l.countP (fun i=>(done ||| 2 ^ v).testBit i)=l.countP (fun i=>done.testBit i):=YH fun y hy=>by
         have:¬ v=y:=(by rintro rfl;exact g1 hy);simp [hZ,this]
        rw[this];simp [hZ,h2]
       ·have hx:¬ v=x:=(by rintro rfl;exact g1 hm2);rw[ihl g2 hm2];simp [hZ,hx];omega
     exact this _ Xw (VJ.2 h1)
    omega
   ·intro u hu hb;rw[hZ,Xu,decide_eq_true_eq]at hb;rcases hb with hb|rfl
    ·exact(hcl u hu hb).trans (.left _ _)
    ·exact h3.trans (.left _ _)
   ·intro u hu hb;rw[hZ,Xu,decide_eq_true_eq]at hb;rcases hb with hb|rfl
    ·exact hall u hu hb
    ·have:=tp hcl ps.length h3;rcases Wf ((fE ps (ps.getD v 0)).testBit v) with e|e
     ·have:=this v e;rw[h2]at this;cases this
     ·exact e
theorem S5 {ps:List Nat}(hp:∀ p∈ps,p<2 ^ ps.length)(h64:ps.length<=64)(ha:nJ ps):∀ (k:Nat) (out:List Nat) (done:Nat),k+dp ps.length done=ps.length->∃ r,kD ps k out done=some r:=by
 have hp64:∀ p∈ps,p<2 ^ 64:=fun p h=>VL (hp p h) (VT (by decide) h64);have hpd:∀ v,ps.getD v 0<2 ^ ps.length:=fun v=>by
  rw[Vy];cases h:ps[v]? with
  | none=>exact Yr _
  | some p=>exact hp p (Vs h)
 intro k
 induction k with
 | zero=>exact fun out done _=>⟨out,rfl⟩
 | succ k ih =>
  intro out done hc;unfold kD;cases hn:mu ps done with
  | none =>
   exfalso;have hno:=S3 hp64 hn
      -- every node that is left has a parent that is left
   have step:∀ m v,v<ps.length->done.testBit v=false->dp ps.length (fE ps (ps.getD v 0))<=m->False:=by
    intro m
    induction m with
    | zero =>
     intro v hv hd hm;obtain⟨i,h1,h2⟩:∃ i,(ps.getD v 0).testBit i=true/\done.testBit i=false:=by
      rcases hno v hv with h|h
      ·rw[hd]at h;cases h
      ·refine V2 fun hc=>h fun i hi=>?_;rcases Wf (done.testBit i) with e|e
       ·exact e
       ·exact absurd ⟨i,hi,e⟩ hc
     have:dp ps.length 0<dp ps.length (fE ps (ps.getD v 0)):=qW (fun j hj=>by rw[WQ]at hj;cases hj) (qV (hpd v) h1) (WQ i) (wN ps _ _ i h1);omega
    | succ m ihm =>
     intro v hv hd hm;obtain⟨u,h1,h2⟩:∃ i,(ps.getD v 0).testBit i=true/\done.testBit i=false:=by
      rcases hno v hv with h|h
      ·rw[hd]at h;cases h
      ·refine V2 fun hc=>h fun i hi=>?_;rcases Wf (done.testBit i) with e|e
       ·exact e
       ·exact absurd ⟨i,hi,e⟩ hc
     have hu:=qV (hpd v) h1;have hcl:=SZ hp (hpd v);have hin:(fE ps (ps.getD v 0)).testBit u=true:=wN ps _ _ u h1;have hsub:Sub (fE ps (ps.getD u 0)) (fE ps (ps.getD v 0)):=tp hcl _ (hcl u hu hin);have:=qW hsub hu (ha u hu) hin;exact ihm u hu h2 (by omega)
   obtain⟨v,hv,hd⟩:∃ v,v<ps.length/\done.testBit v=false:=by
    refine V2 fun hno=>?_;have:dp ps.length done=ps.length:=by
     unfold dp
     conv=>rhs;rw[<- WB (n:=ps.length)]
     rw[X3];intro x hx;rcases Wf (done.testBit x) with e|e
     ·exact e
     ·exact absurd ⟨x,VJ.1 hx,e⟩ hno
    omega
   exact step _ v hv hd (Nat.le_refl _)
  | some v =>
   obtain⟨h1,h2,h3⟩:=AQ hp64 hn;refine ih _ _ ?_;have:dp ps.length (done ||| 2 ^ v)=dp ps.length done+1:=by
    unfold dp;have:∀ l:List Nat,l.Nodup->v∈l->l.countP (fun i=>(done ||| 2 ^ v).testBit i)=l.countP (fun i=>done.testBit i)+1:=by
     intro l
     induction l with
     | nil=>intro _ h;cases h
     | cons x l ihl =>
      intro hnd hmem;obtain⟨g1,g2⟩:=XS.1 hnd;rw[Wr,Wr];rcases List.mem_cons.1 hmem with rfl|hm2
      ·have:l.countP (fun i=>(done ||| 2 ^ v).testBit i)=l.countP (fun i=>done.testBit i):=YH fun y hy=>by
        have:¬ v=y:=(by rintro rfl;exact g1 hy);simp [hZ,this]
       rw[this];simp [hZ,h2]
      ·have hx:¬ v=x:=(by rintro rfl;exact g1 hm2);rw[ihl g2 hm2];simp [hZ,hx];omega
    exact this _ Xw (VJ.2 h1)
   omega
theorem FF (n:Nat):dp n 0=0:=by
 unfold dp;rw[Zi];intro x _;simp
theorem FG {ps:List Nat}(hp:∀ p∈ps,p<2 ^ ps.length)(h64:ps.length<=64):(fF ps).isSome=true↔nJ ps:=by
 have hp64:∀ p∈ps,p<2 ^ 64:=fun p h=>VL (hp p h) (VT (by decide) h64);constructor
 ·intro h;obtain⟨r,hr⟩:=Wj.1 h;exact S4 hp64 _ _ _ r hr (by rw[FF];omega) (fun v _ h=>by rw[WQ]at h;cases h) (fun v _ h=>by rw[WQ]at h;cases h)
 ·intro h;obtain⟨r,hr⟩:=S5 hp h64 h ps.length [] 0 (by rw[FF];omega);unfold fF;rw[hr];rfl
end Go.Proofs
namespace Go.Hx
def im (l:List Nat):AVal:=.vec l.length (l.map bE)
attribute [go_sem] bE im
theorem aC.Gk {S:Nat->Prop}{lo nx:Nat}{H:AHeap}{e:TypeId}{v:AVal}{l:List Nat}(h:aC lo H e v (l.map bE))(hS:∀ i,lo<=i->S i):Fz S H nx v (im l):=by
 have:=h.fz (S:=S) (nx:=nx) (cs':=l.map bE) hS rfl fun i hi _=>by simp only[VF];exact .lit _
 rw[VD]at this;exact this
end Go.Hx
namespace Go.Proofs
open Go.Hx
theorem Ui {H H':AHeap}{v:AVal}{l:List Nat}(x:Nat)(ov:Over H H')(h:aC H.next H' 72 v (l.map bE))(hl:l.length<2 ^ 40):
  ∃ v' H2,bM Tryd.prog (ext H' [.arr 0 72 [.lit (.int .u64 (x:Int))]]) (H'.next+1) 83 83 v (.own H'.next 0 0 1 1)=some (v',H2)/\Over H H2/\aC H.next H2 72 v' ((l++[x]).map bE)/\H'.next<=H2.next/\(∀ k,k<H'.next->(∀ g n,v≠.own k g 0 n 1)->H2.get k=H'.get k):=by
 obtain⟨v',H2,hA,hO,hn2,hp⟩:=jc (P:=Tryd.prog) (H:=H') (t:=83) (x:=bE x) (n:=H'.next+1) Tryd.underlying83 Tryd.ER Tryd.ET rfl (by rw[Tryd.ES,VD];omega) h ov.next rfl;simp only[bE]at hA;exact⟨v',H2,hA,oV ov h hn2 hp,by rw[Wo];exact hO,hn2,hp⟩
theorem Gl (m v:Nat)(hm:m<2 ^ 64)(hv:v<2 ^ 62)(H:AHeap)(K:ARes->AHeap->Prop)(hK:K (.ret (.lit (.bool (m.testBit v)))) H):ae Tryd.prog G0 54 [bE m,aa v] H K:=by
 refine ae.bF (n:=11) (rs:=[.tmp 4]) Tryd.func54 rfl rfl rfl (by decide) (by kernel_rfl) (by simp) ?_;have w1:=Wl (v:Int) (by omega);have s1:=fun t x y=>GI (P:=Tryd.prog) (t:=t) (x:=x) (y:=y) (k':=.u64) (s:=v) hm;have s2:=fun t x y=>GJ (P:=Tryd.prog) (t:=t) (x:=x) (y:=y) (s:=v) hm;cases hb:m.testBit v
 ·rw[hb]at hK;simp only[go_sem,w1,s1,s2,hb];exact av.mk (Nat.le_refl _) hK
 ·rw[hb]at hK;simp only[go_sem,w1,s1,s2,hb];exact av.mk (Nat.le_refl _) hK
def bA (ns:List NodeP):List Nat:=ns.map fun x=>eb x.parents
theorem o9 {ns:List NodeP}{k:Nat}{x:NodeP}(h:ns[k]?=some x):(bA ns)[k]?=some (eb x.parents):=by unfold bA;rw[List.getElem?_map,h];rfl
theorem Uj (g:Int)(ns:List NodeP)(hl:(ns.length:Int)<2 ^ 39)(hp:∀ x∈ns,(x.parents.length:Int)<2 ^ 39/\∀ q∈x.parents,0<=q/\q<64)(H:AHeap)(K:ARes->AHeap->Prop)
  (hK:K (.ret (im (bA ns))) H):ae Tryd.prog G0 34 [aZ g ns] H K:=by
 refine ae.clo ⟨_,Tryd.func34,rfl,rfl⟩ fun hcl=>?_;refine ae.bF (n:=43) (rs:=[.tmp 2]) Tryd.func34 rfl rfl rfl (by decide) (by kernel_rfl) (by simp) ?_;simp only[go_sem,aZ,dk];obtain⟨H1,hH1⟩:∃ H1,H1=ext H [.arr 0 36 [.lit (.int .i64 g),.vec ns.length (au ns)]]:=⟨_,rfl⟩
 have l1:H1.live H.next 0=some (36,[.lit (.int .i64 g),.vec ns.length (au ns)]):=by rw[hH1];exact ak (dN ..)
 have n1:H1.next=H.next+1:=by rw[hH1];rfl
 have o1:Over H H1:=by rw[hH1];exact .ext _ _
 rw[<- hH1];refine W.aG 4398046511096 (by rfl) (fun ρ H'=>∃ k:Nat,ρ 4=aa k/\k<=ns.length/\ρ 1=.ptr H.next 0 0/\Over H1 H'/\aC H1.next H' 72 (ρ 3) (((bA ns).take k).map bE)) (fun ρ H=>ns.length - (iv (ρ 4)).toNat) ?_ ?_
 ·simp only[go_sem];exact⟨0,rfl,by omega,.refl _,.nil⟩
 rintro ρ H' ⟨k,h4,hk,h1,ov,h3⟩;refine W.vs ?_;have l2:=(ov.live (g:=0) (by omega:H.next<H1.next)).trans l1;by_cases hb:(k:Int)<ns.length
 ·obtain⟨x,hx⟩:=get_of_lt (l:=ns) (i:=k) (by omega);have hne:=eP hx;have e1:=tl hx;obtain⟨xl,xr⟩:=hp x (Vs hx);simp only[go_sem,h4,h1,l2,hb];refine W.aG 274877890656 (by rfl) (fun ρ' H2=>H2=H'/\∃ j:Nat,ρ' 6=aa j/\j<=x.parents.length/\ρ' 5=bE (eb (x.parents.take j))) (fun ρ' H=>x.parents.length - (iv (ρ' 6)).toNat) ?_ ?_
  ·simp only[go_sem];exact⟨0,rfl,by omega,rfl⟩
  rintro ρ' H2 ⟨rfl,j,h6,hj,h5⟩;refine W.vs ?_;by_cases hb2:(j:Int)<x.parents.length
  ·obtain⟨q,hq⟩:=get_of_lt (l:=x.parents) (i:=j) (by omega);obtain⟨q0,q1⟩:=xr q (Vs hq);obtain⟨u,rfl⟩:=VU q0;have hne2:=aJ hq;have w1:=Wl (u:Int) (by omega);have w2:=Vt ((j:Int)+1) (by omega);have b1:eb (x.parents.take j)<2 ^ 64:=AM fun p hp=>by have:=xr p (VW hp);omega
   have s1:=fun t x y=>Bc (P:=Tryd.prog) (t:=t) (x:=x) (y:=y) (k':=.u64) (s:=u) (by omega);have s2:=fun t x y=>xm (P:=Tryd.prog) (t:=t) (x:=x) (y:=y) (b:=2 ^ u) b1 (X5 (by decide) (by omega));simp only[go_sem,h4,h1,l2,hb,hne,e1,h6,h5,hb2,hq,hne2,w1,w2,s1,s2];exact⟨⟨j+1,by simp,by omega,by rw[aL hq,FB];rfl⟩,by omega⟩
  ·obtain⟨v',H3,hA,ov2,hO,hn2,_⟩:=Ui (eb x.parents) ov h3 (by simp [bA];omega);have w1:=Vt ((k:Int)+1) (by omega);rw[Vz (by omega)]at h5;simp only[go_sem,h4,h1,l2,hb,hne,e1,h6,h5,hb2,w1,hA];refine⟨by have:=ov2.next;omega,⟨k+1,by simp,by omega,ov2,?_⟩,by omega⟩;rw[aL (o9 hx)];exact hO
 ·simp only[go_sem,h4,h1,l2,hb];rw[Vz (by simp [bA];omega)]at h3;exact av.bR aT hcl (o1.trans ov) (h3.Gk fun i hi=>by omega) hK
theorem Gm {ps:List Nat}(hp:∀ p∈ps,p<2 ^ 64)(l:List Nat):∀ s,s<2 ^ 64->l.foldl (fD ps) s<2 ^ 64:=by
 induction l with
 | nil=>exact fun s h=>h
 | cons v l ih =>
  intro s h;refine ih _ ?_;unfold fD;split
  ·refine YE h ?_;rw[Vy];cases h:ps[v]? with
   | none=>decide
   | some p=>exact hp p (Vs h)
  ·exact h
theorem A4 {ps:List Nat}(hp:∀ p∈ps,p<2 ^ 64){s:Nat}(hs:s<2 ^ 64):∀ k,eE ps k s<2 ^ 64
 | 0=>hs
 | k+1=>Gm hp _ _ (A4 hp hs k)
theorem Uk (ps:List Nat)(s:Nat)(hl:(ps.length:Int)<2 ^ 39)(hp:∀ p∈ps,p<2 ^ 64)(hs:s<2 ^ 64)(H:AHeap)(K:ARes->AHeap->Prop)(hK:K (.ret (bE (fE ps s))) H):ae Tryd.prog G0 55 [im ps,bE s] H K:=by
 refine ae.bF (n:=29) (rs:=[.tmp 4]) Tryd.func55 rfl rfl rfl (by decide) (by kernel_rfl) (by simp) ?_;simp only[go_sem];refine W.aG 268435426 (by rfl) (fun ρ H'=>H'=H/\∃ k:Nat,ρ 5=aa k/\k<=ps.length/\ρ 1=bE (eE ps k s)) (fun ρ H=>ps.length - (iv (ρ 5)).toNat) ?_ ?_
 ·simp only[go_sem];exact⟨0,rfl,by omega,rfl⟩
 rintro ρ H' ⟨rfl,k,h5,hk,h1⟩;refine W.vs ?_;by_cases hb:(k:Int)<ps.length
 ·simp only[go_sem,h5,hb];refine W.aG 268427330 (by rfl) (fun ρ' H2=>H2=H'/\∃ j:Nat,ρ' 6=aa j/\j<=ps.length/\ρ' 1=bE ((List.range j).foldl (fD ps) (eE ps k s))) (fun ρ' H=>ps.length - (iv (ρ' 6)).toNat) ?_ ?_
  ·simp only[go_sem,h1];exact⟨0,rfl,by omega,rfl⟩
  rintro ρ' H2 ⟨rfl,j,h6,hj,h1'⟩;refine W.vs ?_;by_cases hb2:(j:Int)<ps.length
  ·obtain⟨p,hpj⟩:=get_of_lt (l:=ps) (i:=j) (by omega);have hne:=aJ hpj;have b1:=Gm hp (List.range j) _ (A4 hp hs k);have w2:=Vt ((j:Int)+1) (by omega);have hst:(List.range (j+1)).foldl (fD ps) (eE ps k s)=fD ps ((List.range j).foldl (fD ps) (eE ps k s)) j:=(by rw[WI,WK];rfl);have s2:=fun t x y=>xm (P:=Tryd.prog) (t:=t) (x:=x) (y:=y) b1 (hp p (Vs hpj));obtain⟨m,hm⟩:∃ m,m=(List.range j).foldl (fD ps) (eE ps k s):=⟨_,rfl⟩
   rw[<- hm]at b1 h1' hst s2;simp only[go_sem,h6,h1',hb2];refine aw.clo (Gl m j b1 (by omega) _ _ ⟨trivial,?_⟩);cases hbit:m.testBit j
   ·simp only[go_sem,h6,h1',w2];exact⟨⟨j+1,by simp,by omega,by rw[hst];unfold fD;rw[hbit];rfl⟩,by omega⟩
   ·simp only[go_sem,h6,h1',w2,hb2,hpj,hne,s2];exact⟨⟨j+1,by simp,by omega,by rw[hst];unfold fD;rw[hbit,Vx rfl,bf hpj]⟩,by omega⟩
  ·have w2:=Vt ((k:Int)+1) (by omega);have ej:j=ps.length:=(by omega);subst ej;simp only[go_sem,h6,h1',hb2,h5,w2];exact⟨⟨k+1,by simp,by omega,rfl⟩,by omega⟩
 ·simp only[go_sem,h5,h1,hb];have ek:k=ps.length:=by omega
  subst ek;exact av.mk (Nat.le_refl _) hK
def tu (ps:List Nat):Bool:=(List.range ps.length).all fun v=>!(fE ps (ps.getD v 0)).testBit v
theorem xc (ps:List Nat):tu ps=true↔nJ ps:=by
 unfold tu nJ;simp only[V1,VJ,Yj]
theorem Ul (ps:List Nat)(hl:(ps.length:Int)<2 ^ 39)(hp:∀ p∈ps,p<2 ^ 64)(H:AHeap)(K:ARes->AHeap->Prop)(hK:K (.ret (.lit (.bool (tu ps)))) H):ae Tryd.prog G0 33 [im ps] H K:=by
 have no:¬ tu ps=true->av Tryd.prog G0 H K (.lit (.bool false)) H:=fun h=>av.mk (Nat.le_refl _) (by rw[Bool.eq_false_iff.2 h]at hK;exact hK);refine ae.bF (n:=18) (rs:=[.tmp 2]) Tryd.func33 rfl rfl rfl (by decide) (by kernel_rfl) (by simp) ?_;simp only[go_sem];refine W.aG 262140 (by rfl) (fun ρ H'=>H'=H/\∃ k:Nat,ρ 3=aa k/\k<=ps.length/\∀ v,v<k->(fE ps (ps.getD v 0)).testBit v=false) (fun ρ H=>ps.length - (iv (ρ 3)).toNat) ?_ ?_
 ·simp only[go_sem];exact⟨0,rfl,by omega,fun v h=>absurd h (VX _)⟩
 rintro ρ H' ⟨rfl,k,h3,hk,ha⟩;refine W.vs ?_;by_cases hb:(k:Int)<ps.length
 ·obtain⟨p,hpk⟩:=get_of_lt (l:=ps) (i:=k) (by omega);have hne:=aJ hpk;have hp1:=hp p (Vs hpk);simp only[go_sem,h3,hb,hpk,hne];refine aw.clo (Uk ps p hl hp hp1 _ _ ⟨trivial,?_⟩);simp only[go_sem,h3];refine aw.clo (Gl (fE ps p) k (A4 hp hp1 _) (by omega) _ _ ⟨trivial,?_⟩);have w2:=Vt ((k:Int)+1) (by omega);cases hbit:(fE ps p).testBit k
  ·simp only[go_sem,h3,w2];refine⟨⟨k+1,by simp,by omega,fun v hv=>?_⟩,by omega⟩;rcases VR v k with h|h
   ·exact ha v h
   ·obtain rfl:v=k:=(by omega);rw[bf hpk];exact hbit
  ·simp only[go_sem];refine no fun h=>?_;have:=(xc ps).1 h k (by omega);rw[bf hpk,hbit]at this;cases this
 ·simp only[go_sem,h3,hb];rw[(xc ps).2 fun v hv=>ha v (by omega)]at hK;exact av.mk (Nat.le_refl _) hK
def kG (g card:Int)(r:List Int):Prop:=(r.length:Int)=card/\(∀ w∈r,0<=w/\w<=g)/\r.sum=g
def ju (g:Int)(ns:List NodeP)(x:NodeP):Prop:=(x.rows.length:Int)=aA (aQ ns x)/\∀ r∈x.rows,kG g x.card r
structure NetOk (g:Int)(ns:List NodeP):Prop where
 g1:1<=g/\g<=60
 n1:1<=ns.length/\ns.length<=8
 node:∀ x∈ns,(1<=x.card/\x.card<=4)/\dL x.parents ns.length
 size:aA (af ns)<=1024
 acyc:nJ (bA ns)
 rows:∀ x∈ns,ju g ns x
noncomputable def eG (g:Int)(ns:List NodeP):Bool:=@decide (NetOk g ns) (Classical.propDecidable _)
theorem tv {g:Int}{ns:List NodeP}(h:NetOk g ns):eG g ns=true:=by unfold eG;exact @decide_eq_true _ (Classical.propDecidable _) h
theorem Gn {g:Int}{ns:List NodeP}(h:¬ NetOk g ns):eG g ns=false:=by unfold eG;exact @decide_eq_false _ (Classical.propDecidable _) h
theorem xd {g:Int}{ns:List NodeP}:eG g ns=true↔NetOk g ns:=by unfold eG;exact @decide_eq_true_iff _ (Classical.propDecidable _)
def gi (ns:List NodeP):Prop:=(ns.length:Int)<2 ^ 38/\∀ x∈ns,(x.parents.length:Int)<2 ^ 38/\(x.rows.length:Int)<2 ^ 38/\∀ r∈x.rows,(r.length:Int)<2 ^ 38
theorem rm {l:List Int}(h:l.length<=12)(h2:∀ x∈l,1<=x/\x<=4):eQ l:=⟨h,fun x hx=>by have:=h2 x hx;omega⟩
theorem Gp {ns:List NodeP}{x:NodeP}(hin:ik x.parents ns.length)(hc:∀ y∈ns,1<=y.card/\y.card<=4):∀ c∈aQ ns x,1<=c/\c<=4:=fun c h=>by
 unfold aQ aP at h;obtain⟨q,hq,rfl⟩:=VN.1 h;obtain⟨j,rfl,y,hy⟩:=nH (l:=ns) (hin q hq).1 (hin q hq).2;rw[Int.toNat_natCast,bf (cN hy)];exact hc y (Vs hy)
theorem tw {ns:List NodeP}{x:NodeP}(h8:ns.length<=8)(hp:dL x.parents ns.length)(hc:∀ y∈ns,1<=y.card/\y.card<=4):eQ (aQ ns x):=by
 refine rm ?_ (Gp (fun q hq=>by have:=hp.2 q hq;omega) hc);rw[show (aQ ns x).length=_ from iU _ _];have:=hp.len;omega
theorem xe {ns:List NodeP}{n:Nat}(h:∀ x∈ns,∀ q∈x.parents,0<=q/\q<(n:Int)):∀ p∈bA ns,p<2 ^ n:=fun p hp=>by
 obtain⟨x,hx,rfl⟩:=VN.1 hp;exact AM fun q hq=>by have:=h x hx q hq;omega
theorem xf (l:List Int)(x:Int):(l++[x]).sum=l.sum+x:=by simp
set_option maxHeartbeats 2000000 in
theorem Gq (g:Int)(ns:List NodeP)(hf:gi ns)(H:AHeap)(K:ARes->AHeap->Prop)(hK:K (.ret (.lit (.bool (eG g ns)))) H):ae Tryd.prog G0 9 [aZ g ns] H K:=by
 refine ae.clo ⟨_,Tryd.func9,rfl,rfl⟩ fun hcl=>?_;have no:¬ NetOk g ns->∀ H',Over H H'->av Tryd.prog G0 H K (.lit (.bool false)) H':=fun h H' ov=>av.bR aT hcl ov (.lit _) (by rw[Gn h]at hK;exact hK);refine ae.bF (n:=154) (rs:=[.tmp 2]) Tryd.func9 rfl rfl rfl (by decide) (by kernel_rfl) (by simp) ?_;simp only[go_sem,aZ,dk];obtain⟨H1,hH1⟩:∃ H1,H1=ext H [.arr 0 36 [.lit (.int .i64 g),.vec ns.length (au ns)]]:=⟨_,rfl⟩
 have l1:H1.live H.next 0=some (36,[.lit (.int .i64 g),.vec ns.length (au ns)]):=by rw[hH1];exact ak (dN ..)
 have n1:H1.next=H.next+1:=by rw[hH1];rfl
 have o1:Over H H1:=by rw[hH1];exact .ext _ _
 rw[<- hH1];by_cases c1:g<1
 ·simp only[go_sem,c1];exact no (fun h=>by have:=h.g1;omega) _ o1
 by_cases c2:g > 60
 ·simp only[go_sem,l1,c1,c2];exact no (fun h=>by have:=h.g1;omega) _ o1
 by_cases c3:(ns.length:Int)<1
 ·simp only[go_sem,l1,c1,c2,c3];exact no (fun h=>by have:=h.n1;omega) _ o1
 by_cases c4:(ns.length:Int) > 8
 ·simp only[go_sem,l1,c1,c2,c3,c4];exact no (fun h=>by have:=h.n1;omega) _ o1
 simp only[go_sem,l1,c1,c2,c3,c4];refine W.aG 18446744071562068028 (by rfl) (fun ρ H'=>∃ k:Nat,ρ 4=aa k/\k<=ns.length/\Over H1 H'/\(∀ x∈ns.take k,(1<=x.card/\x.card<=4)/\dL x.parents ns.length)/\ρ 3=aa (aA ((af ns).take k))) (fun ρ H=>ns.length - (iv (ρ 4)).toNat) ?_ ?_
 ·simp only[go_sem];exact⟨0,rfl,by omega,.refl _,by simp,by simp [iQ]⟩
 ·rintro ρ H' ⟨k,h4,hk,ov,hall,h3⟩;refine W.vs ?_;have l2:=(ov.live (g:=0) (by omega:H.next<H1.next)).trans l1;have hlt:H.next<H'.next:=by have:=ov.next;omega
  have l3:∀ L,(ext H' L).live H.next 0=_:=fun L=>(fN hlt).trans l2;by_cases hb:(k:Int)<ns.length
  ·obtain⟨x,hx⟩:=get_of_lt (l:=ns) (i:=k) (by omega);have hxm:=Vs hx;have hne:=eP hx;have e0:=kC hx;have e1:k*3+3<=(au ns).length:=(by rw[fT];omega);have nb:¬ H.next=H'.next:=(by omega);have ove:∀ L,Over H (ext H' L):=fun L=>(o1.trans ov).trans (.ext _ _);by_cases d1:x.card<1
   ·simp only[go_sem,h4,l2,hb,hne,e0,e1,d1];exact no (fun h=>by have:=(h.node x hxm).1;omega) _ (ove _)
   by_cases d2:x.card > 4
   ·simp only[go_sem,h4,l2,hb,hne,e0,e1,d1,d2];exact no (fun h=>by have:=(h.node x hxm).1;omega) _ (ove _)
   simp only[go_sem,h4,l2,l3,hb,hne,e0,e1,d1,d2];refine aw.clo (Uf x.parents ns.length (by have:=(hf.2 x hxm).1;omega) _ _ ⟨trivial,?_⟩);by_cases d3:dL x.parents ns.length;rotate_left
   ·simp only[go_sem,d3];exact no (fun h=>d3 (h.node x hxm).2) _ (ove _)
   have hall':∀ y∈ns.take (k+1),(1<=y.card/\y.card<=4)/\dL y.parents ns.length:=fun y hy=>by
    rw[aL hx]at hy;rcases VP.1 hy with hy|hy
    ·exact hall y hy
    ·obtain rfl:=List.mem_singleton.1 hy;exact⟨by omega,d3⟩
   have b1:eQ ((af ns).take (k+1)):=rm (by simp [af];omega) fun c hc=>by
    rw[show (af ns).take (k+1)=af (ns.take (k+1)) by simp [af]]at hc;obtain⟨y,hy,rfl⟩:=VN.1 hc;exact(hall' y hy).1
   have b2:=b1.prod;rw[aL (cN hx),jM]at b2;have w1:=Vt ((k:Int)+1) (by omega);have w2:=Vt (aA ((af ns).take k)*x.card) (by omega);simp only[go_sem,h4,h3,d3,w1,w2];exact⟨by have:=ov.next;omega,⟨k+1,by simp,by omega,ov.trans (.ext _ _),fun y hy=>hall' y hy,by rw[aL (cN hx),jM]⟩,by omega⟩
  ·have ek:k=ns.length:=(by omega);subst ek;rw[Vz (Nat.le_refl _)]at hall;rw[Vz (by rw[bK];omega)]at h3;have hcards:∀ y∈ns,1<=y.card/\y.card<=4:=fun y hy=>(hall y hy).1;have ov0:=o1.trans ov;by_cases c5:aA (af ns) > 1024
   ·simp only[go_sem,h4,h3,l2,hb,c5];exact no (fun h=>by have:=h.size;omega) _ ov0
   simp only[go_sem,h4,h3,l2,hb,c5];have hpl:∀ x∈ns,(x.parents.length:Int)<2 ^ 39/\∀ q∈x.parents,0<=q/\q<64:=fun x hx=>⟨by have:=(hf.2 x hx).1;omega,fun q hq=>by have:=(hall x hx).2.2 q hq;omega⟩
   refine aw.clo (Uj g ns (by have:=hf.1;omega) hpl _ _ ⟨trivial,?_⟩);simp only[go_sem];refine aw.clo (Ul (bA ns) (by simp [bA];omega) (fun p hp=>VL (xe (n:=64) (fun x hx q hq=>by have:=(hpl x hx).2 q hq;omega) p hp) (Nat.le_refl _)) _ _ ⟨trivial,?_⟩);cases hac:tu (bA ns)
   ·simp only[go_sem];exact no (fun h=>by rw[(xc _).2 h.acyc]at hac;cases hac) _ ov0
   simp only[go_sem];refine W.aG 22835963083295358096932570788825439312478734276 (by rfl) (fun ρ' H2=>∃ k:Nat,ρ' 6=aa k/\k<=ns.length/\Over H' H2/\∀ x∈ns.take k,ju g ns x) (fun ρ' H=>ns.length - (iv (ρ' 6)).toNat) ?_ ?_
   ·simp only[go_sem];exact⟨0,rfl,by omega,.refl _,by simp⟩
   rintro ρ' H2 ⟨k,h6,hk,ov2',hrows⟩;have ov2:=ov.trans ov2';refine W.vs ?_;have l2:=(ov2.live (g:=0) (by omega:H.next<H1.next)).trans l1;have hlt:H.next<H2.next:=(by have:=ov2.next;omega);by_cases hb:(k:Int)<ns.length;rotate_left
   ·simp only[go_sem,h6,l2,hb];rw[Vz (by omega)]at hrows;rw[tv ⟨by omega,by omega,hall,by omega,(xc _).1 hac,hrows⟩]at hK;exact av.bR aT hcl (o1.trans ov2) (.lit _) hK
   obtain⟨x,hx⟩:=get_of_lt (l:=ns) (i:=k) (by omega);have hxm:=Vs hx;have hne:=eP hx;have e0:=kC hx;have e1:k*3+3<=(au ns).length:=(by rw[fT];omega);obtain⟨x1,x2⟩:=hall x hxm;obtain⟨f1,f2,f3⟩:=hf.2 x hxm;have sm:=tw (by omega) x2 hcards;simp only[go_sem,h6,l2,hb,hne,e0,e1];obtain⟨H3,hH3⟩:∃ H3,H3=ext H2 [.arr 0 53 [.lit (.int .i64 x.card),.vec x.parents.length (ints x.parents),aB x.rows]]:=⟨_,rfl⟩
   have m1:H3.live H2.next 0=some (53,[.lit (.int .i64 x.card),.vec x.parents.length (ints x.parents),aB x.rows]):=(by rw[hH3];exact ak (dN ..));have m2:H3.live H.next 0=some (36,[.lit (.int .i64 g),.vec ns.length (au ns)]):=(by rw[hH3,fN hlt];exact l2);have m3:H3.next=H2.next+1:=(by rw[hH3];rfl);have ov3:Over H1 H3:=(by rw[hH3];exact ov2.trans (.ext _ _));have ov4:Over H H3:=o1.trans ov3;rw[<- hH3];refine W.draw 7 [0,1,3,0,0,24,56] Tryd.mixed (by kernel_rfl) (by kernel_rfl) ?_;simp only[go_sem,h6,m1,m2,aB];refine⟨ab (aQ ns x),[],df.pure fun H2=>Uh g ns k x hx (by have:=hf.1;omega) (by omega) (fun q hq=>by have:=x2.2 q hq;omega) H2 _ ⟨rfl,rfl⟩,?_⟩;simp only[go_sem];refine⟨aa (aA (aQ ns x)),[],df.pure fun H2=>A1 (aQ ns x) sm H2 _ ⟨rfl,rfl⟩,?_⟩;by_cases d1:(x.rows.length:Int)=aA (aQ ns x);rotate_left
   ·simp only[go_sem,d1];exact no (fun h=>d1 (h.rows x hxm).1) _ ov4
   simp only[go_sem,d1];refine W.aG 22835963083295358091980815354050401082527450884 (by rfl) (fun ρ2 H4=>H4=H3/\∃ j:Nat,ρ2 8=aa j/\j<=x.rows.length/\∀ r∈x.rows.take j,kG g x.card r) (fun ρ2 H=>x.rows.length - (iv (ρ2 8)).toNat) ?_ ?_
   ·simp only[go_sem];exact⟨0,rfl,by omega,by simp⟩
   rintro ρ2 H4 ⟨rfl,j,h8,hj,hrj⟩;refine W.vs ?_;by_cases hb2:(j:Int)<x.rows.length;rotate_left
   ·have w1:=Vt ((k:Int)+1) (by omega);have hb2':¬ (j:Int)<aA (aQ ns x):=(by omega);simp only[go_sem,h6,h8,m1,hb2',d1,w1,aB];rw[Vz (by omega)]at hrj;refine⟨by have:=ov2'.next;omega,⟨k+1,by simp,by omega,by rw[hH3];exact ov2'.trans (.ext _ _),fun y hy=>?_⟩,by omega⟩;rw[aL hx]at hy;rcases VP.1 hy with hy|hy
    ·exact hrows y hy
    ·obtain rfl:=List.mem_singleton.1 hy;exact⟨d1,hrj⟩
   obtain⟨r,hr⟩:=get_of_lt (l:=x.rows) (i:=j) (by omega);have hrm:=Vs hr;have hrne:=aJ hr;have hb2':(j:Int)<aA (aQ ns x):=(by omega);have nope:¬ kG g x.card r->¬ NetOk g ns:=fun h h'=>h ((h'.rows x hxm).2 r hrm);simp only[go_sem,h8,m1,hb2',d1,aB];refine W.draw 8 [0,1,0,7,15,31,0,64] Tryd.mixed (by kernel_rfl) (by kernel_rfl) ?_;by_cases d2:(r.length:Int)=x.card;rotate_left
   ·simp only[go_sem,h8,m1,hb2',d1,d2,hr,hrne,aB];exact no (nope fun h=>d2 h.1) _ ov4
   simp only[go_sem,h8,m1,hb2',d1,d2,hr,hrne,aB];refine W.aG 1427247692705635362504627542722711980362171908 (by rfl) (fun ρ3 H5=>H5=H4/\∃ i:Nat,ρ3 10=aa i/\i<=r.length/\ρ3 9=aa (r.take i).sum/\∀ w∈r.take i,0<=w/\w<=g) (fun ρ3 H=>r.length - (iv (ρ3 10)).toNat) ?_ ?_
   ·simp only[go_sem];exact⟨0,rfl,by omega,by simp,by simp⟩
   rintro ρ3 H5 ⟨rfl,i,h10,hi,h9,hw⟩;refine W.vs ?_;have sb:0<=(r.take i).sum/\(r.take i).sum<=60*i:=by
    have key:∀ l:List Int,(∀ w∈l,0<=w/\w<=g)->0<=l.sum/\l.sum<=60*l.length:=by
     intro l
     induction l with
     | nil=>intro _;simp
     | cons a l ih =>
      intro h;have h1:=ih fun w hw=>h w (by simp [hw]);have h2:=h a (by simp);simp only[V5,List.length_cons]
      push_cast
      omega
    have:=key _ hw;rw[VC,Xa (by omega)]at this;exact this
   have r4:r.length<=4:=(by omega);by_cases hb3:(i:Int)<r.length<;>have hb3':=hb3<;>rw[d2]at hb3'
   rotate_left
   ·rw[Vz (by omega)]at h9 hw;by_cases d3:r.sum=g;rotate_left
    ·simp only[go_sem,h8,h9,h10,m1,m2,hb3',hr,hrne,hb2',d1,d2,d3,aB];exact no (nope fun h=>d3 h.2.2) _ ov4
    have w1:=Vt ((j:Int)+1) (by have:=(hf.2 x hxm).2.1;omega);simp only[go_sem,h8,h9,h10,m1,m2,hb3',hr,hrne,hb2',d1,d2,d3,w1,aB];refine⟨⟨j+1,by simp,by omega,fun y hy=>?_⟩,by omega⟩;rw[aL hr]at hy;rcases VP.1 hy with hy|hy
    ·exact hrj y hy
    ·obtain rfl:=List.mem_singleton.1 hy;exact⟨d2,hw,d3⟩
   obtain⟨a,ha⟩:=get_of_lt (l:=r) (i:=i) (by omega);have ham:=Vs ha;have hane:=aJ ha;simp only[go_sem,h8,h10,m1,hr,hrne,hb2',hb3',d1,d2,aB];refine W.draw 20 [0,1,0,7,15,0,63,127,255,511,1023,2047,1023,8191,16383,1023,65535,131071,1023,263167] Tryd.mixed (by kernel_rfl) (by kernel_rfl) ?_;by_cases d3:a<0
   ·simp only[go_sem,h8,h10,m1,hr,hrne,hb2',hb3',ha,hane,d1,d2,d3,aB];exact no (nope fun h=>by have:=h.2.1 a ham;omega) _ ov4
   by_cases d4:a > g
   ·simp only[go_sem,h8,h10,m1,m2,hr,hrne,hb2',hb3',ha,hane,d1,d2,d3,d4,aB];exact no (nope fun h=>by have:=h.2.1 a ham;omega) _ ov4
   have w1:=Vt ((i:Int)+1) (by omega);have w2:=Vt ((r.take i).sum+a) (by omega);simp only[go_sem,h8,h9,h10,m1,m2,hr,hrne,hb2',hb3',ha,hane,d1,d2,d3,d4,w1,w2,aB];refine⟨⟨i+1,by simp,by omega,by rw[aL ha,xf],fun w hw'=>?_⟩,by omega⟩;rw[aL ha]at hw';rcases VP.1 hw' with hw'|hw'
   ·exact hw w hw'
   ·obtain rfl:=List.mem_singleton.1 hw';exact⟨by omega,by omega⟩
end Go.Proofs
namespace Go.Hx
variable {P:Program} {G:Nat->Option (List AVal)} {n:Nat} {rd:Option Nat} {Q:AX->St->Prop}
def GN (P:Program)(G:Nat->Option (List AVal))(f:FuncId)(first cap:List AVal)(xs:List (List AVal))(S:AHeap->Prop):Prop :=
 ∀ (idy:Nat) (J:Nat->AHeap->Prop) (Stop:AHeap->Prop) (H:AHeap) (K:ARes->AHeap->Prop),
  (∀ k H1,J k H1->S H1)->J 0 H ->
  (∀ k x H1 K1,xs[k]?=some x->J k H1->H.next<=H1.next->(∀ H',J (k+1) H'->H1.next<=H'.next->K1 (.ret (.lit (.bool true))) H')->(∀ H',Stop H'->H1.next<=H'.next->K1 (.ret (.lit (.bool false))) H')->aw P G (.yld idy) x H1 K1) ->
  (∀ H',J xs.length H'->H.next<=H'.next->K (.ret (.tup [])) H') ->
  (∀ H',Stop H'->H.next<=H'.next->K (.ret (.tup [])) H') ->
  ae P G f (first++[.yld idy]++cap) H K
def nP (idy:Nat)(B:Blk)(lo:Nat)(J:AHeap->Prop)(Stop:AX->AHeap->Prop):AX->St->Prop
 | .normal,s=>s.H.get idy=some B/\lo<=s.H.next/\J s.H
 | .ret,s=>s.H.get idy=some B/\lo<=s.H.next/\Stop .ret s.H
 | .exit i,s=>s.H.get idy=some B/\lo<=s.H.next/\Stop (.exit i) s.H
 | _,_=>False
def tC (P:Program)(G:Nat->Option (List AVal))(n idy:Nat)(B Bb:Blk)(lo:Nat)(body:Code)(J:AHeap->Prop)(Stop:AX->AHeap->Prop):AX->St->Prop
 | .normal,s=>s.H.get idy=some B/\W P G n (some idy) body (nP idy Bb lo J Stop) ⟨s.ρ,s.H.upd idy Bb⟩
 | _,_=>False
theorem W.Va {g:Operand}{ps:Array Tmp}{asg body:Code}{ρ:Env}{H:AHeap}{f:FuncId}{first cap:List AVal}{xs:List (List AVal)}{S:AHeap->Prop}(hg:ah G ρ g=.clo f first cap)
  (hit:GN P G f first cap xs S) (J:Nat->AHeap->Prop) (Stop:AX->AHeap->Prop) (hS:∀ k H1,J k H1->S H1)
  (hJu:∀ k H1 b,J k H1->J k (H1.upd H.next b)) (hSu:∀ c H1 b,Stop c H1->Stop c (H1.upd H.next b))
  (hJ0:∀ b,J 0 (ext H [b])) (hps:ps.toList.all (fun t=>decide (t<n))=true) (hxl:∀ x∈xs,x.length=ps.size)
  (hrd:∀ k H1,J k H1->eH H1 rd) (hrd2:∀ c H1,Stop c H1->eH H1 rd)
  (hround:∀ k x H1 B Bb,xs[k]?=some x->J k H1->H.next+1<=H1.next->H1.get H.next=some B->(∃ st pd n' en ps' as' bo,Bb=Blk.loop st pd n' en ps' as' bo) ->
   W P G n (some H.next) asg (tC P G n H.next B Bb H1.next body (J (k+1)) Stop) ⟨lV (eX ρ n) (ps.toList.zip x),H1⟩)
  (hend:∀ H',J xs.length H'->H.next+1<=H'.next->Q .normal ⟨ρ,H'⟩)
  (hret:∀ H',Stop .ret H'->H.next+1<=H'.next->Q .ret ⟨ρ,H'⟩) (hexit:∀ i H',Stop (.exit i) H'->H.next+1<=H'.next->Q (.exit i) ⟨ρ,H'⟩):
  W P G n rd (.rangeFunc g ps asg body) Q ⟨ρ,H⟩:=by
 refine W.rangeFunc (s:=⟨ρ,H⟩) hg ⟨_,ug _ _,?_⟩;obtain⟨B,hB⟩:∃ B,B=Blk.loop .ready none n ρ ps asg body:=⟨_,rfl⟩
 obtain⟨Bb,hBb⟩:∃ B,B=Blk.loop .busy none n ρ ps asg body:=⟨_,rfl⟩
 have nx:(ext H [B]).next=H.next+1:=rfl;show ae P G f (first++[.yld H.next]++cap) (ext H [Blk.loop .ready none n ρ ps asg body]) (ur rd Q ρ H.next);rw[<- hB];refine hit H.next (fun k H1=>H1.get H.next=some B/\J k H1) (fun H1=>∃ c pend,H1.get H.next=some (.loop .done (some pend) n ρ ps asg body)/\Stop c H1/\((c=.ret/\pend=.ret)\/∃ i,c=.exit i/\pend=.exit i)) _ _
  (fun k H1 h=>hS k H1 h.2) ⟨cS,hJ0 B⟩ (fun k x H1 K1 hx hj hn hgo hst=>?_) (fun H' hj hn=>?_) (fun H' hj hn=>?_)
 ·have hxm:=hxl x (Vs hx);refine aw.yld (hj.1.trans (congrArg some hB)) hxm hps ?_;refine(hround k x H1 B Bb hx hj.2 hn hj.1 ⟨_,_,_,_,_,_,_,hBb⟩).mono fun e s1 h1=>?_;cases e with
  | normal =>
   obtain⟨a1,a2⟩:=h1;refine⟨Bb,by rw[a1,hB,hBb];rfl,?_⟩;refine a2.mono fun e2 s2 h2=>?_;cases e2 with
   | normal =>
    obtain⟨b1,b2,b3⟩:=h2;exact⟨B,by rw[b1,hB,hBb];rfl,hgo _ ⟨by rw[ag,Vx rfl],hJu _ _ _ b3⟩ b2⟩
   | ret =>
    obtain⟨b1,b2,b3⟩:=h2;exact⟨.loop .done (some .ret) n ρ ps asg body,by rw[b1,hBb];rfl,hst _ ⟨.ret,.ret,by rw[ag,Vx rfl],hSu _ _ _ b3,.inl ⟨rfl,rfl⟩⟩ b2⟩
   | exit i =>
    obtain⟨b1,b2,b3⟩:=h2;exact⟨.loop .done (some (.exit i)) n ρ ps asg body,by rw[b1,hBb];rfl,hst _ ⟨.exit i,.exit i,by rw[ag,Vx rfl],hSu _ _ _ b3,.inr ⟨i,rfl,rfl⟩⟩ b2⟩
   | _=>exact h2.elim
  | _=>exact h1.elim
 ·refine⟨hrd _ _ hj.2,(none,.loop .exhausted none n ρ ps asg body),by rw[hj.1,hB];rfl,?_⟩;exact hend _ (hJu _ _ _ hj.2) hn
 ·obtain⟨c,pend,h1,h2,h3⟩:=hj;refine⟨hrd2 _ _ h2,(some pend,.loop .exhausted (some pend) n ρ ps asg body),by rw[h1];rfl,?_⟩;rcases h3 with ⟨rfl,rfl⟩|⟨i,rfl,rfl⟩
  ·exact hret _ (hSu _ _ _ h2) hn
  ·exact hexit i _ (hSu _ _ _ h2) hn
end Go.Hx
namespace Go.Proofs
open Go.Hx
def tx (x:NodeP):AVal:=.agg [.lit (.int .i64 x.card),.vec x.parents.length (ints x.parents),aB x.rows]
def nO (rows:List (List Int)):List (List AVal):=rows.zipIdx.map fun p=>[aa p.2,ab p.1]
theorem Gr {rows:List (List Int)}{k:Nat}{x:List AVal}(h:(nO rows)[k]?=some x):∃ r,rows[k]?=some r/\x=[aa k,ab r]:=by
 unfold nO at h;rw[List.getElem?_map,Zc]at h;cases hr:rows[k]? with
 | none=>rw[hr]at h;simp at h
 | some r=>rw[hr]at h;simp at h;exact⟨r,rfl,h.symm⟩
theorem Um {rows:List (List Int)}{k:Nat}{r:List Int}(h:rows[k]?=some r):(nO rows)[k]?=some [aa k,ab r]:=by
 unfold nO;rw[List.getElem?_map,Zc,h];simp
theorem Gs (rows:List (List Int)):(nO rows).length=rows.length:=by simp [nO]
theorem Un (x:NodeP)(hl:(x.rows.length:Int)<2 ^ 40)(b:Nat):GN Tryd.prog G0 83 [] [.ptr b 0 0] (nO x.rows) (fun H=>H.get b=some (.arr 0 53 [.lit (.int .i64 x.card),.vec x.parents.length (ints x.parents),aB x.rows])):=by
 intro idy J Stop H K hS hJ0 hY hK hSt;have l0:=ak (hS 0 H hJ0);show ae _ _ _ ([.yld idy]++[.ptr b 0 0]) _ _;refine ae.bF (n:=19) (rs:=[]) Tryd.func83 rfl rfl rfl (by decide) (by kernel_rfl) (by simp) ?_;simp only[go_sem,l0,aB];refine W.aG 524056 (by rfl) (fun ρ H'=>∃ k:Nat,ρ 8=aa k/\k<=x.rows.length/\J k H'/\H.next<=H'.next) (fun ρ H=>x.rows.length - (iv (ρ 8)).toNat) ?_ ?_
 ·simp only[go_sem];exact⟨0,rfl,by omega,hJ0⟩
 rintro ρ H' ⟨k,h8,hk,hj,hn⟩;refine W.vs ?_;by_cases hb:(k:Int)<x.rows.length
 ·obtain⟨r,hr⟩:=get_of_lt (l:=x.rows) (i:=k) (by omega);have hne:=aJ hr;have w1:=Vt ((k:Int)+1) (by omega);simp only[go_sem,h8,hb,hr,hne];refine hY k [aa k,ab r] H' _ (Um hr) hj hn (fun H2 hj2 hn2=>⟨trivial,?_⟩) (fun H2 hs2 hn2=>⟨trivial,?_⟩)
  ·simp only[go_sem,h8,w1];exact⟨by omega,⟨k+1,by simp,by omega,hj2,by omega⟩,by omega⟩
  ·simp only[go_sem];exact av.mk (by omega) (hSt H2 hs2 (by omega))
 ·simp only[go_sem,h8,hb];have ek:k=(nO x.rows).length:=by rw[Gs];omega
  subst ek;exact av.mk (by omega) (hK H' hj hn)
theorem Uo (x:NodeP)(H:AHeap)(K:ARes->AHeap->Prop)(hK:K (.ret (.clo 83 [] [.ptr H.next 0 0])) (ext H [.arr 0 53 [.lit (.int .i64 x.card),.vec x.parents.length (ints x.parents),aB x.rows]])):
  ae Tryd.prog G0 77 [tx x] H K:=by
 refine ae.bF (n:=4) (rs:=[.tmp 2]) Tryd.func77 rfl rfl rfl (by decide) (by kernel_rfl) (by simp) ?_;simp only[go_sem,tx];exact av.mk (by simp [dF]) hK
theorem A5 {l:List Int}{g:Int}(h:∀ w∈l,0<=w):0<=l.sum:=by
 induction l with
 | nil=>simp
 | cons a l ih =>
  have h1:=ih fun w hw=>h w (by simp [hw]);have h2:=h a (by simp);simp only[V5];omega
theorem rp {l:List Int}(h:∀ w∈l,0<=w):∀ w∈l,w<=l.sum:=by
 induction l with
 | nil=>intro w hw;cases hw
 | cons a l ih =>
  intro w hw;have h1:=A5 (g:=0) fun w hw=>h w (Wz a hw);have h2:=h a (by simp);simp only[V5];rcases List.mem_cons.1 hw with rfl|hw
  ·omega
  ·have:=ih (fun w hw=>h w (by simp [hw])) w hw;omega
noncomputable def lq (g:Int)(ns:List NodeP)(x:NodeP):Bool:=@decide (ju g ns x) (Classical.propDecidable _)
theorem Gt {g:Int}{ns:List NodeP}{x:NodeP}(h:ju g ns x):lq g ns x=true:=by unfold lq;exact @decide_eq_true _ (Classical.propDecidable _) h
theorem Up {g:Int}{ns:List NodeP}{x:NodeP}(h:¬ ju g ns x):lq g ns x=false:=by unfold lq;exact @decide_eq_false _ (Classical.propDecidable _) h
theorem Uq {g:Int}{ns:List NodeP}{x:NodeP}:lq g ns x=true↔ju g ns x:=by unfold lq;exact @decide_eq_true_iff _ (Classical.propDecidable _)
set_option maxHeartbeats 2000000 in
theorem Ur (g:Int)(hg:1<=g/\g<=60)(ns:List NodeP)(sets:List Nat)(x:NodeP)(hin:ik x.parents ns.length)(hsm:eQ (aQ ns x))(hx1:(x.rows.length:Int)<2 ^ 38)(hx2:∀ r∈x.rows,(r.length:Int)<2 ^ 38)(H:AHeap)(K:ARes->AHeap->Prop)
  (hK:K (.ret (.lit (.bool (lq g ns x)))) H):ae Tryd.prog G0 65 [.agg [.lit (.int .i64 g),dk ns,ab (af ns),im sets,.lit (.slice none 0 0)],tx x] H K:=by
 refine ae.clo ⟨_,Tryd.func65,rfl,rfl⟩ fun hcl=>?_;have l12:=hsm.1;have pl:(aQ ns x).length=x.parents.length:=iU _ _;have no:¬ ju g ns x->∀ H',Over H H'->av Tryd.prog G0 H K (.lit (.bool false)) H':=fun h H' ov=>av.bR aT hcl ov (.lit _) (by rw[Up h]at hK;exact hK);refine ae.bF (n:=66) (rs:=[.cell 4 4]) Tryd.func65 rfl rfl rfl (by decide) (by kernel_rfl) (by simp) ?_;simp only[go_sem,dk,tx];obtain⟨H1,hH1⟩:∃ H1,H1=ext H [.arr 0 113 [.lit (.int .i64 g),.vec ns.length (au ns),.vec (af ns).length (ints (af ns)),.vec sets.length (sets.map bE),.lit (.slice none 0 0)],.arr 0 53 [.lit (.int .i64 x.card),.vec x.parents.length (ints x.parents),aB x.rows],.arr 0 4 [.lit (.bool false)]]:=⟨_,rfl⟩
 have l1:H1.live H.next 0=some (113,[.lit (.int .i64 g),.vec ns.length (au ns),.vec (af ns).length (ints (af ns)),.vec sets.length (sets.map bE),.lit (.slice none 0 0)]):=by rw[hH1];exact ak (dN ..)
 have l2:H1.live (H.next+1) 0=some (53,[.lit (.int .i64 x.card),.vec x.parents.length (ints x.parents),aB x.rows]):=by rw[hH1];exact ak (bC H _ 1 (by simp))
 have g3:H1.get (H.next+2)=some (.arr 0 4 [.lit (.bool false)]):=by rw[hH1];exact bC H _ 2 (by simp)
 have n1:H1.next=H.next+3:=by rw[hH1];rfl
 have o1:Over H H1:=by rw[hH1];exact .ext _ _
 rw[<- hH1];refine W.aG 268370080 (by rfl) (fun ρ H'=>H'=H1/\∃ k:Nat,ρ 16=aa k/\k<=x.parents.length/\ρ 5=aa (aA ((aQ ns x).take k))) (fun ρ H=>x.parents.length - (iv (ρ 16)).toNat) ?_ ?_
 ·simp only[go_sem];exact⟨0,rfl,by omega,by simp [iQ]⟩
 rintro ρ H' ⟨rfl,k,h16,hk,h5⟩;refine W.vs ?_;by_cases hb:(k:Int)<x.parents.length
 ·obtain⟨q,hq⟩:=get_of_lt (l:=x.parents) (i:=k) (by omega);obtain⟨j,rfl,y,hy⟩:=nH (l:=ns) (hin q (Vs hq)).1 (hin q (Vs hq)).2;have hne2:=aJ hq;have hyc:=cN hy;have hne3:=aJ hyc;have hj:(j:Int)<(af ns).length:=by have:=get_lt hyc;omega
  have pk:(aQ ns x)[k]?=some y.card:=by
   rw[show (aQ ns x)[k]?=_ from o0 hq,Int.toNat_natCast,bf hyc]
  have b1:=(hsm.take (k+1)).prod;rw[aL pk,jM]at b1;have w1:=Vt ((k:Int)+1) (by omega);have w2:=Vt (aA ((aQ ns x).take k)*y.card) (by omega);simp only[go_sem,h16,h5,l1,hb,hq,hne2,hj,hyc,hne3,w1,w2];exact⟨⟨k+1,by simp,by omega,by rw[aL pk,jM]⟩,by omega⟩
 rw[Vz (by omega)]at h5;by_cases c1:(x.rows.length:Int)=aA (aQ ns x);rotate_left
 ·simp only[go_sem,h16,h5,l2,hb,c1,aB];have l3:=ak g3;simp only[go_sem,l3];exact no (fun h=>c1 h.1) _ (o1.upd (by omega) _)
 simp only[go_sem,h16,h5,l2,hb,c1,aB];refine aw.clo (Uo x _ _ ⟨trivial,?_⟩);simp only[go_sem];obtain⟨H2,hH2⟩:∃ H2,H2=ext H' [.arr 0 53 [.lit (.int .i64 x.card),.vec x.parents.length (ints x.parents),aB x.rows]]:=⟨_,rfl⟩
 rw[<- hH2];have o2:Over H' H2:=by rw[hH2];exact .ext _ _
 have n2:H2.next=H.next+4:=by rw[hH2,dF,n1];rfl
 have hbx:H2.get H'.next=some (.arr 0 53 [.lit (.int .i64 x.card),.vec x.parents.length (ints x.parents),aB x.rows]):=by rw[hH2];exact cS
 refine W.env fun E hE=>?_;have e2:E 2=.ptr H.next 0 0:=by rw[hE];simp only[go_sem]
 have e3:E 3=.ptr (H.next+1) 0 0:=by rw[hE];simp only[go_sem]
 have e4:E 4=.ptr (H.next+2) 0 0:=by rw[hE];simp only[go_sem]
 have i1:H2.live H.next 0=some (113,[.lit (.int .i64 g),.vec ns.length (au ns),.vec (af ns).length (ints (af ns)),.vec sets.length (sets.map bE),.lit (.slice none 0 0)]):=(o2.live (by omega)).trans l1;have i2:H2.live (H.next+1) 0=some (53,[.lit (.int .i64 x.card),.vec x.parents.length (ints x.parents),aB x.rows]):=(o2.live (by omega)).trans l2;have i3:H2.get (H.next+2)=some (.arr 0 4 [.lit (.bool false)]):=(o2.old _ (by omega)).trans g3;refine W.Va (f:=83) (first:=[]) (cap:=[.ptr H'.next 0 0]) (by show E 34=_;rw[hE];rfl) (Un x (by omega) H'.next)
  (fun k Hx=>Over H2 Hx/\∀ r∈x.rows.take k,kG g x.card r) (fun c Hx=>c=.ret/\Over H Hx/\H.next+4<=Hx.next/\Hx.get (H.next+2)=some (.arr 0 4 [.lit (.bool false)])/\¬ ju g ns x)
  (fun k Hx h=>by rw[h.1.old _ (by omega)];exact hbx) (fun k Hx b h=>⟨h.1.upd (Nat.le_refl _) b,h.2⟩) (fun c Hx b h=>⟨h.1,h.2.1.upd (by omega) b,h.2.2.1,by rw[ag,Vw (by omega)];exact h.2.2.2.1,h.2.2.2.2⟩)
  (fun b=>⟨.ext _ _,by simp⟩) (by decide) (fun y hy=>by
   obtain⟨k,hk⟩:=V0.1 hy;obtain⟨r,_,rfl⟩:=Gr hk;rfl) (fun _ _ _=>trivial) (fun _ _ _=>trivial) (fun k y Hx B Bb hy hj hn hB hBb=>?_) (fun Hx hj hn=>?_) (fun Hx hs hn=>?_) (fun i Hx hs hn=>by cases hs.1)
 ·obtain⟨r,hr,rfl⟩:=Gr hy;refine W.vs ?_;simp only[go_sem,lV,eX,tC,Xc,YU,XQ,YB,hB];obtain⟨H3,hH3⟩:∃ H3,H3=Hx.upd H2.next Bb:=⟨_,rfl⟩
  rw[<- hH3];obtain⟨st,pd,n',en,ps',as',bo,hBe⟩:=hBb;have o3:Over H2 H3:=by rw[hH3];exact hj.1.upd (Nat.le_refl _) Bb
  have o4:Over H H3:=(o1.trans o2).trans o3;have n3:H3.next=Hx.next:=by rw[hH3];rfl
  have j1:=(o3.live (g:=0) (by omega:H.next<H2.next)).trans i1;have j2:=(o3.live (g:=0) (by omega:H.next+1<H2.next)).trans i2;have j3:=(o3.old _ (by omega:H.next+2<H2.next)).trans i3;have j4:=ak j3;have jB:H3.get H2.next=some Bb:=by rw[hH3,ag,Vx rfl]
  have nB:¬ H2.next=H.next+2:=by omega
  have hrm:=Vs hr;have hrl:=hx2 r hrm;have nope:¬ kG g x.card r->¬ ju g ns x:=fun h h'=>h (h'.2 r hrm);have stop:¬ kG g x.card r->(H3.upd (H.next+2) (Blk.arr 0 4 [.lit (.bool false)])).get H2.next=some Bb/\Hx.next<=(H3.upd (H.next+2) (Blk.arr 0 4 [.lit (.bool false)])).next/\Over H (H3.upd (H.next+2) (Blk.arr 0 4 [.lit (.bool false)])) /\
    H.next+4<=(H3.upd (H.next+2) (Blk.arr 0 4 [.lit (.bool false)])).next/\(H3.upd (H.next+2) (Blk.arr 0 4 [.lit (.bool false)])).get (H.next+2)=some (.arr 0 4 [.lit (.bool false)])/\¬ ju g ns x:=fun h =>
   ⟨by rw[ag,Vw nB];exact jB,by rw[aE];omega,o4.upd (by omega) _,by rw[aE];omega,by rw[ag,Vx rfl],nope h⟩
  refine W.vs ?_;simp only[go_sem,eX,e2,j1];refine W.aG 144110790029349888 (by rfl) (fun ρ2 H4=>H4=H3/\∃ i:Nat,ρ2 42=aa i/\i<=r.length/\(∀ w∈r.take i,0<=w)/\(r.take i).sum<=g/\ρ2 10=aa (g - (r.take i).sum)) (fun ρ2 H=>r.length - (iv (ρ2 42)).toNat) ?_ ?_
  ·simp only[go_sem];exact⟨0,rfl,by omega,by simp,by simp;omega,by simp⟩
  rintro ρ2 H4 ⟨rfl,i,h42,hi,hw0,hws,h10⟩;refine W.vs ?_;have s0:=A5 (g:=g) hw0;by_cases hb2:(i:Int)<r.length
  ·obtain⟨a,ha⟩:=get_of_lt (l:=r) (i:=i) (by omega);have ham:=Vs ha;have hane:=aJ ha;by_cases d1:a<0
   ·simp only[go_sem,h42,hb2,ha,hane,d1,eX,e4,j4,nP];exact stop fun h=>by have:=h.2.1 a ham;omega
   by_cases d2:a > g - (r.take i).sum
   ·simp only[go_sem,h42,h10,hb2,ha,hane,d1,d2,eX,e4,j4,nP];refine stop fun h=>?_;have h1:r.sum=(r.take (i+1)).sum+(r.drop (i+1)).sum:=(by rw[<- XR,V4]);rw[aL ha,xf]at h1;have h2:=A5 (g:=g) (l:=r.drop (i+1)) fun w hw=>(h.2.1 w (WV hw)).1;have:=h.2.2;omega
   have w1:=Vt ((i:Int)+1) (by omega);have w2:=Vt (g - (r.take i).sum - a) (by omega);simp only[go_sem,h42,h10,hb2,ha,hane,d1,d2,w1,w2,eX];refine⟨⟨_,_,_,_,_,_,_,by rw[jB,hBe]⟩,⟨i+1,by simp,by omega,fun w hw=>?_,by rw[aL ha,xf];omega,?_⟩,by omega⟩
   ·rw[aL ha]at hw;rcases VP.1 hw with hw|hw
    ·exact hw0 w hw
    ·obtain rfl:=List.mem_singleton.1 hw;omega
   ·rw[aL ha,xf];show aa _=aa _;congr 1;omega
  ·rw[Vz (by omega)]at hw0 hws h10 s0;by_cases d1:(r.length:Int)=x.card;rotate_left
   ·simp only[go_sem,h42,hb2,d1,eX,e3,e4,j2,j4,nP];exact stop fun h=>d1 h.1
   have hb2':¬ (i:Int)<x.card:=(by omega);by_cases d2:g - r.sum=0;rotate_left
   ·simp only[go_sem,h42,h10,hb2',d1,d2,eX,e3,e4,j2,j4,nP];exact stop fun h=>by have:=h.2.2;omega
   simp only[go_sem,h42,h10,hb2',d1,d2,eX,e3,j2,nP];refine⟨jB,by omega,o3,fun y hy=>?_⟩;rw[aL hr]at hy;rcases VP.1 hy with hy|hy
   ·exact hj.2 y hy
   ·obtain rfl:=List.mem_singleton.1 hy;exact⟨d1,fun w hw=>⟨hw0 w hw,by have:=rp hw0 w hw;omega⟩,by omega⟩
 ·have hok:ju g ns x:=⟨c1,by
   have:=hj.2;rw[Gs,WR]at this;exact this⟩
  have j4:=ak ((hj.1.old _ (by omega:H.next+2<H2.next)).trans i3);rw[Gt hok]at hK;simp only[go_sem,e4,j4];exact av.bR aT hcl (((o1.trans o2).trans hj.1).upd (by omega) _) (.lit _) hK
 ·obtain⟨_,o4,n4,g4,hno⟩:=hs;have j4:=ak g4;simp only[go_sem,e4,j4];exact no hno _ o4
end Go.Proofs
namespace Go.Hx
theorem aC.tz {lo:Nat}{H:AHeap}{e:TypeId}{v:AVal}{l:List Int}(h:aC lo H e v (ints l)):Fresh H v (ab l):=by
 rcases h with ⟨rfl,h⟩|⟨id,g,h1,h2,rfl,h4⟩
 ·have:l=[]:=by cases l with
   | nil=>rfl
   | cons a l=>simp [ints]at h
  subst this;exact .nil
 ·have e:ab l=.vec (ints l).length (ints l):=by rw[aR];rfl
  rw[e];refine .own h4 (by simp) fun j hj h2 h'=>?_;simp only[Nat.zero_add,ints,VF];exact .lit _
theorem Fz.tA {H:AHeap}{id g n nx:Nat}{e:TypeId}{cs:List AVal}(hg:H.get id=some (.arr g e cs))(hn:n=cs.length)(hl:∀ c∈cs,∃ v,c=.lit v):Fz (fun _=>True) H nx (.own id g 0 n 1) (.vec n cs):=by
 refine .frz trivial hg (by omega) fun j hj h2 h'=>?_;simp only[Nat.zero_add];obtain⟨v,hv⟩:=hl _ (Wh h');rw[hv];exact .lit _
end Go.Hx
namespace Go.Proofs
open Go.Hx
def gp (l:List Nat):List Int:=l.map fun (v:Nat)=>(v:Int)
theorem Us {n j:Nat}{p:Nat->Bool}(hj:j<n)(h1:∀ v,v<j->p v=false)(h2:p j=true):(List.range n).find? p=some j:=by
 rw[List.find?_eq_some_iff_getElem];refine⟨h2,j,by simpa using hj,by simp,fun k hk=>?_⟩;simp only[List.getElem_range];simp [h1 k hk]
theorem Ut {n:Nat}{p:Nat->Bool}(h1:∀ v,v<n->p v=false):(List.range n).find? p=none:=by
 rw[List.find?_eq_none];intro x hx;simp [h1 x (VJ.1 hx)]
set_option maxHeartbeats 1000000 in
theorem Uu (ps:List Nat)(hl:ps.length<=60)(hp:∀ p∈ps,p<2 ^ 64)(H:AHeap)(K:ARes->AHeap->Prop)
  (hK:∀ v H',Over H H'->(match fF ps with|some o=>aC H.next H' 3 v (ints (gp o))|none=>v=.lit (.slice none 0 0))->K (.ret (.tup [v,.lit (.bool (fF ps).isSome)])) H'):ae Tryd.prog G0 66 [im ps] H K:=by
 have no:∀ H',fF ps=none->Over H H'->av Tryd.prog G0 H K (.tup [.lit (.slice none 0 0),.lit (.bool false)]) H':=fun H' h ov=>av.mk ov.next (by
  have:=hK (.lit (.slice none 0 0)) H' ov;rw[h]at this;exact this rfl)
 refine ae.bF (n:=44) (rs:=[.tmp 2,.tmp 3]) Tryd.func66 rfl rfl rfl (by decide) (by kernel_rfl) (by simp) ?_;simp only[go_sem];refine⟨by omega,?_⟩;refine W.aG 8796093020412 (by rfl) (fun ρ H'=>∃ (out:List Nat) (done:Nat),ρ 5=bE done/\done<2 ^ 64/\out.length<=ps.length/\H.next+1<=H'.next/\Over H H'/\aC H.next H' 3 (ρ 4) (ints (gp out))/\(∃ id g,ρ 4=.own id g 0 out.length 1)/\kD ps (ps.length - out.length) out done=fF ps)
  (fun ρ H=>ps.length - (match ρ 4 with|.own _ _ _ n _=>n|_=>0)) ?_ ?_
 ·simp only[go_sem];exact⟨[],0,by simp,by decide,XY _,.ext _ _,.inr ⟨H.next,0,Nat.le_refl _,by simp [dF],rfl,dN H _ []⟩,⟨_,_,rfl⟩,rfl⟩
 rintro ρ H' ⟨out,done,h5,hd,ho,hn0,ov,h4,⟨id,gn,h4e⟩,ht⟩;refine W.vs ?_;have lv:H'.live id gn=some (3,ints (gp out)):=by
  rcases h4 with ⟨h,_⟩|⟨i,g,h1,h2,h3,h4⟩
  ·rw[h4e]at h;cases h
  ·rw[h4e]at h3;have:=AVal.own.inj h3;obtain⟨rfl,rfl,_⟩:=this;exact ak h4
 by_cases hb:(out.length:Int)<ps.length
 ·simp only[go_sem,h4e,lv,hb];have hk1:ps.length - out.length=(ps.length - (out.length+1))+1:=by omega
  refine W.aG 8796092760304 (by rfl) (fun ρ2 H2=>H2=H'/\∃ j:Nat,ρ2 18=aa j/\j<=ps.length/\ρ2 4=.own id gn 0 out.length 1/\ρ2 5=bE done/\∀ v,v<j->nK ps done v=false) (fun ρ2 H=>ps.length - (iv (ρ2 18)).toNat) ?_ ?_
  ·simp only[go_sem,h4e,h5];exact⟨0,rfl,by omega,fun v h=>absurd h (VX _)⟩
  rintro ρ2 H2 ⟨rfl,j,h18,hj,h4',h5',hno⟩;refine W.vs ?_;by_cases hb2:(j:Int)<ps.length
  ·obtain⟨p,hpj⟩:=get_of_lt (l:=ps) (i:=j) (by omega);have hp1:=hp p (Vs hpj);have hne:=aJ hpj;have s1:=fun t x y=>GI (P:=Tryd.prog) (t:=t) (x:=x) (y:=y) (k':=.i64) (s:=j) hd;have s2:=fun t x y=>GJ (P:=Tryd.prog) (t:=t) (x:=x) (y:=y) (s:=j) hd;have s3:=fun t x y=>U0 (P:=Tryd.prog) (t:=t) (x:=x) (y:=y) (a:=p) (b:=done);have w1:=Vt ((j:Int)+1) (by omega);have cont:nK ps done j=false->∀ v,v<j+1->nK ps done v=false:=fun h v hv=>by
    rcases VR v j with h'|h'
    ·exact hno v h'
    ·obtain rfl:v=j:=(by omega);exact h
   have fe:nK ps done j=(!done.testBit j && decide (jQ p done=0)):=(by unfold nK;rw[bf hpj]);cases hbit:done.testBit j;rotate_left
   ·simp only[go_sem,h18,h4',h5',hb2,hpj,hne,s1,s2,hbit,w1];exact⟨⟨j+1,by simp,by omega,cont (by rw[fe,hbit];rfl)⟩,by omega⟩
   by_cases hz:jQ p done=0;rotate_left
   ·have hz':¬ ((jQ p done:Nat):Int)=0:=(by omega);simp only[go_sem,h18,h4',h5',hb2,hpj,hne,s1,s2,s3,hbit,hz',w1];exact⟨⟨j+1,by simp,by omega,cont (by rw[fe,hbit];simp [hz])⟩,by omega⟩
   have hz':((jQ p done:Nat):Int)=0:=(by omega);have hnx:mu ps done=some j:=Us (by omega) hno (by rw[fe,hbit];simp [hz]);obtain⟨v',H3,hA,ov2,hO,hn2,_⟩:=mB (j:Int) ov h4 (by simp [gp];omega);rw[h4e]at hA;have b2:(2:Nat) ^ j<2 ^ 64:=X5 (by decide) (by omega);have s4:=fun t x y=>Bc (P:=Tryd.prog) (t:=t) (x:=x) (y:=y) (k':=.i64) (s:=j) (by omega);have s5:=fun t x y=>xm (P:=Tryd.prog) (t:=t) (x:=x) (y:=y) hd b2;simp only[go_sem,h18,h4',h5',hb2,hpj,hne,s1,s2,s3,s4,s5,hbit,hz',hA];have hO':aC H.next H3 3 v' (ints (gp (out++[j]))):=by
    have e:gp (out++[j])=gp out++[(j:Int)]:=(by simp [gp]);rw[e];exact hO
   have hv':∃ id g,v'=.own id g 0 (out.length+1) 1:=by
    rcases hO' with ⟨_,h⟩|⟨i,g,_,_,h3,_⟩
    ·simp [ints,gp]at h
    ·exact⟨i,g,by rw[h3,aR];simp [gp]⟩
   obtain⟨i2,g2,rfl⟩:=hv';refine⟨by omega,⟨out++[j],done ||| 2 ^ j,rfl,YE hd b2,by simp;omega,by omega,ov2,hO',⟨i2,g2,by simp⟩,?_⟩,by simp only;omega⟩;rw[<- ht,hk1]
   conv=>rhs;unfold kD
   rw[hnx];simp
  ·simp only[go_sem,h18,hb2];refine no _ ?_ ov;rw[<- ht,hk1];unfold kD;have:mu ps done=none:=Ut fun v hv=>hno v (by omega);rw[this]
 ·simp only[go_sem,h4e,lv,hb];have hz:ps.length - out.length=0:=by omega
  rw[hz]at ht;have ht':fF ps=some out:=ht.symm;have:=hK (.own id gn 0 out.length 1) H' ov;rw[ht']at this;refine av.mk ov.next (this ?_);rw[h4e]at h4;exact h4
theorem Uv (ps:List Nat)(hl:ps.length<=60)(hp:∀ p∈ps,p<2 ^ 64)(H:AHeap)(v:AVal)(hv:Fz (fun _=>True) H 0 v (im ps))(K:ARes->AHeap->Prop)
  (hK:K (.ret (.tup [ab (gp ((fF ps).getD [])),.lit (.bool (fF ps).isSome)])) H):ae Tryd.prog G0 66 [v] H K:=by
 refine(ae.frame (H:=H) (args:=[v]) (args':=[im ps]) (v':=.tup [ab (gp ((fF ps).getD [])),.lit (.bool (fF ps).isSome)]) aT rfl (fun i hi _=>match i,hi with|0,_=>hv) (Uu ps hl hp cL _ fun u H' ov hu=>⟨_,rfl,?_⟩)).mono ?_
 ·refine .tup rfl fun i hi _=>?_
  match i,hi with
  | 0,_ =>
   show Fresh H' u _;cases ht:fF ps with
   | none=>rw[ht]at hu;simp only at hu;rw[hu];show Fresh H' _ (ab []);exact .nil
   | some o=>rw[ht]at hu;exact aC.tz hu
  | 1,_=>exact .lit _
 ·rintro r H' ⟨rfl,rfl⟩;exact hK
end Go.Proofs
