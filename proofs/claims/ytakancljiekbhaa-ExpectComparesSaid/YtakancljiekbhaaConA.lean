/-
  Closed facts of this seat's types. Laid by a program of ours.
-/
import Derived.Test.YtakancljiekbhaaProg
import Derived.Test.YtakancljiekbhaaLibC
import Derived.Test.YtakancljiekbhaaLibB
set_option linter.all false
namespace Go.Proofs
open Go.Hx
theorem Try.mixed:Try.prog.follows .mixedOrders=true:=by kernel_rfl
theorem Try.eg:Try.prog.cellsOf 3=1:=by kernel_rfl
theorem Try.fG:Try.prog.bytesOf 3=8:=by kernel_rfl
theorem Try.eX:bM Try.prog 3=some [.lit (.int .i64 0)]:=by kernel_rfl
theorem Try.My:Try.prog.cellsOf 4=1:=by kernel_rfl
theorem Try.Mz:bM Try.prog 4=some [.lit (.bool false)]:=by kernel_rfl
theorem Try.oh:Try.prog.cellsOf 5=1:=by kernel_rfl
theorem Try.MA:Try.prog.bytesOf 5=1:=by kernel_rfl
theorem Try.MB:bM Try.prog 5=some [.lit (.int .u8 0)]:=by kernel_rfl
theorem Try.Bj:Try.prog.cellsOf 22=1:=by kernel_rfl
theorem Try.tu:Try.prog.cellsOf 23=1:=by kernel_rfl
theorem Try.Bk:Try.prog.cellsOf 25=3:=by kernel_rfl
theorem Try.MC:bE Try.prog 25 0=some (0,5):=by kernel_rfl
theorem Try.MD:bE Try.prog 25 1=some (1,22):=by kernel_rfl
theorem Try.ME:bE Try.prog 25 2=some (2,23):=by kernel_rfl
theorem Try.Bm:Try.prog.cellsOf 27=4:=by kernel_rfl
theorem Try.MF:bE Try.prog 27 0=some (0,5):=by kernel_rfl
theorem Try.MG:bE Try.prog 27 1=some (1,5):=by kernel_rfl
theorem Try.MH:bE Try.prog 27 2=some (2,5):=by kernel_rfl
theorem Try.MI:bE Try.prog 27 3=some (3,3):=by kernel_rfl
theorem Try.Bn:Try.prog.cellsOf 28=1:=by kernel_rfl
theorem Try.Bo:Try.prog.cellsOf 30=3:=by kernel_rfl
theorem Try.MJ:bE Try.prog 30 0=some (0,5):=by kernel_rfl
theorem Try.MK:bE Try.prog 30 1=some (1,5):=by kernel_rfl
theorem Try.ML:bE Try.prog 30 2=some (2,3):=by kernel_rfl
theorem Try.MM:Try.prog.cellsOf 32=12:=by kernel_rfl
theorem Try.MN:bE Try.prog 32 0=some (0,25):=by kernel_rfl
theorem Try.MO:bE Try.prog 32 1=some (3,27):=by kernel_rfl
theorem Try.MP:bE Try.prog 32 2=some (7,28):=by kernel_rfl
theorem Try.MQ:bE Try.prog 32 3=some (8,23):=by kernel_rfl
theorem Try.MR:bE Try.prog 32 4=some (9,30):=by kernel_rfl
theorem Try.MS:Try.prog.cellsOf 33=1:=by kernel_rfl
theorem Try.MT:Try.prog.cellsOf 35=2:=by kernel_rfl
theorem Try.MU:bM Try.prog 35=some [.lit (.int .i64 0),.lit (.slice none 0 0)]:=by kernel_rfl
theorem Try.MV:iT Try.prog 35=some [(0,1),(1,1)]:=by kernel_rfl
theorem Try.MW:bE Try.prog 35 0=some (0,3):=by kernel_rfl
theorem Try.MX:bE Try.prog 35 1=some (1,33):=by kernel_rfl
theorem Try.ma:Try.prog.cellsOf 39=1:=by kernel_rfl
theorem Try.md:Try.prog.bytesOf 39=24:=by kernel_rfl
theorem Try.me:bM Try.prog 39=some [.lit (.slice none 0 0)]:=by kernel_rfl
theorem Try.MY:Try.prog.cellsOf 40=1:=by kernel_rfl
theorem Try.MZ:Try.prog.cellsOf 42=2:=by kernel_rfl
theorem Try.M0:bM Try.prog 42=some [.lit (.slice none 0 0),.lit (.slice none 0 0)]:=by kernel_rfl
theorem Try.M1:iT Try.prog 42=some [(0,1),(1,1)]:=by kernel_rfl
theorem Try.M3:bE Try.prog 42 0=some (0,39):=by kernel_rfl
theorem Try.M4:bE Try.prog 42 1=some (1,40):=by kernel_rfl
theorem Try.M5:Try.prog.cellsOf 43=6:=by kernel_rfl
theorem Try.M6:bM Try.prog 43=some [.lit (.slice none 0 0),.lit (.slice none 0 0),.lit (.slice none 0 0),.lit (.slice none 0 0),.lit (.slice none 0 0),.lit (.slice none 0 0)]:=by kernel_rfl
theorem Try.Bp:Try.prog.cellsOf 45=1:=by kernel_rfl
theorem Try.Bq:Try.prog.bytesOf 45=8:=by kernel_rfl
theorem Try.Br:bM Try.prog 45=some [.lit (.int .u64 0)]:=by kernel_rfl
theorem Try.M7:bM Try.prog 62=some [.lit (.int .i64 0),.lit (.slice none 0 0),.lit (.int .i64 0),.lit (.slice none 0 0),.lit (.int .i64 0),.lit (.slice none 0 0)]:=by kernel_rfl
theorem Try.wN:Try.prog.cellsOf 69=3:=by kernel_rfl
theorem Try.wO:Try.prog.bytesOf 69=56:=by kernel_rfl
theorem Try.wQ:bM Try.prog 69=some [.lit (.int .i64 0),.lit (.slice none 0 0),.lit (.slice none 0 0)]:=by kernel_rfl
theorem Try.M8:iT Try.prog 69=some [(0,1),(1,1),(2,1)]:=by kernel_rfl
theorem Try.M9:bE Try.prog 69 0=some (0,3):=by kernel_rfl
theorem Try.Na:bE Try.prog 69 1=some (1,39):=by kernel_rfl
theorem Try.Nb:bE Try.prog 69 2=some (2,40):=by kernel_rfl
theorem Try.Nc:Try.prog.cellsOf 78=1:=by kernel_rfl
theorem Try.Bs:Try.prog.cellsOf 81=1:=by kernel_rfl
theorem Try.Nd:Try.prog.cellsOf 83=3:=by kernel_rfl
theorem Try.Nf:bM Try.prog 83=some [.lit (.slice none 0 0),.lit (.int .u16 0),.lit (.slice none 0 0)]:=by kernel_rfl
theorem Try.Ng:iT Try.prog 83=some [(0,1),(1,1),(2,1)]:=by kernel_rfl
theorem Try.Nh:bE Try.prog 83 0=some (0,23):=by kernel_rfl
theorem Try.Ni:bE Try.prog 83 2=some (2,23):=by kernel_rfl
theorem Try.Bt:Try.prog.cellsOf 86=3:=by kernel_rfl
theorem Try.Nj:bM Try.prog 86=some [.lit (.int .u8 0),.lit (.int .u8 0),.lit (.slice none 0 0)]:=by kernel_rfl
theorem Try.Nk:bE Try.prog 86 0=some (0,5):=by kernel_rfl
theorem Try.Nl:bE Try.prog 86 1=some (1,5):=by kernel_rfl
theorem Try.Nm:bE Try.prog 86 2=some (2,23):=by kernel_rfl
theorem Try.Nn:Try.prog.cellsOf 100=1:=by kernel_rfl
theorem Try.No:bM Try.prog 100=some [.lit (.slice none 0 0)]:=by kernel_rfl
theorem Try.wS:Try.prog.cellsOf 104=1:=by kernel_rfl
theorem Try.wT:Try.prog.bytesOf 104=8:=by kernel_rfl
theorem Try.wU:bM Try.prog 104=some [.lit (.int .u64 0)]:=by kernel_rfl
theorem Try.Np:Try.prog.cellsOf 106=1:=by kernel_rfl
theorem Try.Nq:bM Try.prog 106=some [.lit .nilFunc]:=by kernel_rfl
theorem Try.Nr:Try.prog.cellsOf 111=1:=by kernel_rfl
theorem Try.Ns:Try.prog.cellsOf 127=3:=by kernel_rfl
theorem Try.Nt:bM Try.prog 127=some [.lit (.int .i64 0),.lit (.slice none 0 0),.lit (.slice none 0 0)]:=by kernel_rfl
theorem Try.Nu:iT Try.prog 127=some [(0,2),(2,1)]:=by kernel_rfl
theorem Try.Nv:bE Try.prog 127 0=some (0,35):=by kernel_rfl
theorem Try.Nw:bE Try.prog 127 1=some (2,39):=by kernel_rfl
theorem Try.Nx:Try.prog.cellsOf 145=5:=by kernel_rfl
theorem Try.Ny:bM Try.prog 145=some [.lit (.int .i64 0),.lit (.slice none 0 0),.lit (.slice none 0 0),.lit (.slice none 0 0),.lit (.slice none 0 0)]:=by kernel_rfl
theorem Try.Nz:iT Try.prog 145=some [(0,2),(2,1),(3,1),(4,1)]:=by kernel_rfl
theorem Try.NA:bE Try.prog 145 0=some (0,35):=by kernel_rfl
theorem Try.NB:bE Try.prog 145 1=some (2,39):=by kernel_rfl
theorem Try.NC:bE Try.prog 145 2=some (3,78):=by kernel_rfl
theorem Try.ND:bE Try.prog 145 3=some (4,39):=by kernel_rfl
attribute [go_sem] Try.underlying3 Try.eg Try.fG Try.eX Try.underlying4 Try.My Try.Mz Try.underlying5 Try.oh Try.MA Try.MB
attribute [go_sem] Try.underlying9 Try.underlying22 Try.Bj Try.underlying23 Try.tu
attribute [go_sem] Try.underlying24 Try.underlying25 Try.Bk
attribute [go_sem] Try.MC Try.MD Try.ME Try.underlying26
attribute [go_sem] Try.underlying27 Try.Bm Try.MF Try.MG Try.MH Try.MI Try.underlying28 Try.Bn
attribute [go_sem] Try.underlying29 Try.underlying30 Try.Bo
attribute [go_sem] Try.MJ Try.MK Try.ML Try.underlying31
attribute [go_sem] Try.underlying32 Try.MM Try.MN Try.MO Try.MP
attribute [go_sem] Try.MQ Try.MR Try.underlying33 Try.MS Try.underlying34
attribute [go_sem] Try.underlying35 Try.MT Try.MU Try.MV Try.MW Try.MX Try.underlying38
attribute [go_sem] Try.underlying39 Try.ma Try.md Try.me Try.underlying40 Try.MY Try.underlying41
attribute [go_sem] Try.underlying42 Try.MZ Try.M0 Try.M1 Try.M3 Try.M4 Try.underlying43 Try.M5
attribute [go_sem] Try.M6 Try.underlying45 Try.Bp Try.Bq Try.Br Try.underlying46 Try.underlying47
attribute [go_sem] Try.underlying62 Try.M7 Try.underlying68
attribute [go_sem] Try.underlying69 Try.wN Try.wO Try.wQ Try.M8 Try.M9 Try.Na Try.Nb Try.underlying78 Try.Nc
attribute [go_sem] Try.underlying81 Try.Bs Try.underlying82
attribute [go_sem] Try.underlying83 Try.Nd Try.Nf Try.Ng Try.Nh Try.Ni Try.underlying85
attribute [go_sem] Try.underlying86 Try.Bt Try.Nj Try.Nk
attribute [go_sem] Try.Nl Try.Nm Try.underlying99 Try.underlying100 Try.Nn Try.No Try.underlying104 Try.wS
attribute [go_sem] Try.wT Try.wU Try.underlying106 Try.Np Try.Nq Try.underlying111 Try.Nr Try.underlying118
attribute [go_sem] Try.underlying122 Try.underlying126
attribute [go_sem] Try.underlying127 Try.Ns Try.Nt Try.Nu Try.Nv Try.Nw Try.underlying132
attribute [go_sem] Try.underlying144 Try.underlying145 Try.Nx
attribute [go_sem] Try.Ny Try.Nz Try.NA Try.NB Try.NC Try.ND Try.underlying156 Try.underlying164
attribute [go_sem] Try.underlying167
def ay (l:List (List Int)):AVal:=.vec l.length (l.map ae)
structure NodeP where
 card:Int
 parents:List Int
 rows:List (List Int)
structure UtilP where
 vars:List Int
 w:List Int
def NodeP.cells (x:NodeP):List AVal:=[aa x.card,ae x.parents,ay x.rows]
def UtilP.cells (x:UtilP):List AVal:=[ae x.vars,ae x.w]
def aq (l:List NodeP):List AVal:=(l.map NodeP.cells).flatten
def NG (l:List UtilP):List AVal:=(l.map UtilP.cells).flatten
def cf (l:List NodeP):AVal:=.vec l.length (aq l)
def wX (l:List UtilP):AVal:=.vec l.length (NG l)
def aG (g:Int)(l:List NodeP):AVal:=.agg [aa g,cf l]
structure InfP where
 grain:Int
 nodes:List NodeP
 decs:Nat
 utils:List UtilP
theorem jx {α:Type}{f:α->List AVal}{z:Nat}(hz:∀ a,(f a).length=z):∀ (l:List α) (i j:Nat) (a:α),l[i]?=some a->j<z->((l.map f).flatten)[i*z+j]?=(f a)[j]?:=by
 intro l
 induction l with
 | nil=>intro i j a h;simp at h
 | cons x l ih =>
  intro i j a h hj;simp only[List.map_cons,List.flatten_cons];cases i with
  | zero =>
   simp only[List.getElem?_cons_zero,Option.some.injEq]at h;subst h;rw[QW,Nat.zero_add,PN (by rw[hz];exact hj)]
  | succ i =>
   have:(i+1)*z+j=z+(i*z+j):=(by rw[P6];omega);rw[this,PI (by rw[hz];omega),hz];have:z+(i*z+j) - z=i*z+j:=(by omega);rw[this];exact ih i j a (by simpa using h) hj
theorem kL {α:Type}{f:α->List AVal}{z:Nat}(hz:∀ a,(f a).length=z)(l:List α):((l.map f).flatten).length=l.length*z:=by
 induction l with
 | nil=>simp
 | cons x l ih=>simp only[List.map_cons,List.flatten_cons,List.length_append,ih,hz,List.length_cons];rw[P6];omega
theorem om {α:Type}{f:α->List AVal}{z:Nat}(hz:∀ a,(f a).length=z):∀ (l:List α) (i:Nat) (a:α),l[i]?=some a->(((l.map f).flatten).drop (i*z)).take z=f a:=by
 intro l i a h;apply Qf;intro j;by_cases hj:j<z
 ·rw[Ql hj,Qn,jx hz l i j a h hj]
 ·rw[PD (by simp;omega),PD (by rw[hz];omega)]
theorem hU (l:List NodeP):(aq l).length=l.length*3:=kL (f:=NodeP.cells) (fun _=>rfl) l
theorem jS {l:List NodeP}{i:Nat}{x:NodeP}(h:l[i]?=some x):(aq l)[i*3]?=some (aa x.card):=jx (f:=NodeP.cells) (z:=3) (fun _=>rfl) l i 0 x h (by omega)
theorem kM {l:List NodeP}{i:Nat}{x:NodeP}(h:l[i]?=some x):(aq l)[i*3+1]?=some (ae x.parents):=jx (f:=NodeP.cells) (z:=3) (fun _=>rfl) l i 1 x h (by omega)
theorem qj {l:List NodeP}{i:Nat}{x:NodeP}(h:l[i]?=some x):(aq l)[i*3+2]?=some (ay x.rows):=jx (f:=NodeP.cells) (z:=3) (fun _=>rfl) l i 2 x h (by omega)
theorem oo {l:List NodeP}{i:Nat}{x:NodeP}(h:l[i]?=some x):((aq l).drop (i*3)).take 3=[aa x.card,ae x.parents,ay x.rows]:=om (f:=NodeP.cells) (z:=3) (fun _=>rfl) l i x h
theorem fI {l:List NodeP}{i:Nat}{x:NodeP}(h:l[i]?=some x):¬ aq l=[]:=fun e=>by
 have:=jS h;rw[e]at this;simp at this
theorem get_lt {α:Type}{l:List α}{i:Nat}{x:α}(h:l[i]?=some x):i<l.length:=by
 rcases PR i l.length with h'|h'
 ·exact h'
 ·rw[PD h']at h;cases h
theorem get_of_lt {α:Type}{l:List α}{i:Nat}(h:i<l.length):∃ x,l[i]?=some x:=⟨_,Pr h⟩
theorem mm {α:Type}{l:List α}{i:Int}(h0:0<=i)(h:i<l.length):∃ k:Nat,i=k/\∃ x,l[k]?=some x:=⟨i.toNat,by omega,get_of_lt (by omega)⟩
def au (l:List Int):Int:=l.foldl (·*·) 1
theorem BA (l:List Int)(a:Int):l.foldl (·*·) a=a*au l:=by
 unfold au
 induction l generalizing a with
 | nil=>simp
 | cons x l ih=>simp only[Rk];rw[ih,ih (1*x),SD,RC]
theorem eY:au []=1:=rfl
theorem gf (x:Int)(l:List Int):au (x :: l)=x*au l:=by
 show List.foldl _ (1*x) l=_;rw[BA,SD]
theorem wY (l l':List Int):au (l++l')=au l*au l':=by
 unfold au;rw[QP,BA];rfl
theorem fq (l:List Int)(x:Int):au (l++[x])=au l*x:=by rw[wY,gf,eY,Int.mul_one]
theorem aO {α:Type}{l:List α}{k:Nat}{x:α}(h:l[k]?=some x):l.take (k+1)=l.take k++[x]:=by
 rw[List.take_add_one,h];rfl
theorem hZ {l:List Int}(h:∀ x∈l,1<=x):1<=au l:=by
 induction l with
 | nil=>decide
 | cons x l ih =>
  rw[gf];have h1:=ih fun y hy=>h y (by simp [hy]);have h2:=h x (by simp);have:=Rg h2 h1 (by omega) (by omega);simpa using this
theorem kO {b:Int}{l:List Int}(hb:0<=b)(h:∀ x∈l,0<=x/\x<=b):0<=au l/\au l<=b ^ l.length:=by
 induction l with
 | nil=>exact⟨by decide,by simp [au]⟩
 | cons x l ih =>
  rw[gf];have h1:=ih fun y hy=>h y (by simp [hy]);have h2:=h x (by simp);refine⟨Rt h2.1 h1.1,?_⟩;have:=Rg h2.2 h1.2 h1.1 hb;rw[List.length_cons,Sl,QM (b ^ l.length)];exact this
def ar (l:List NodeP):List Int:=l.map (·.card)
def bd (l places:List Int):List Int:=places.map fun p=>l.getD p.toNat 0
def c9 (places:List Int)(n:Int):Prop:=places.Pairwise (·<·)/\∀ p∈places,0<=p/\p<n
end Go.Proofs
set_option maxRecDepth 100000
namespace Go.Proofs
open Go.Hx
def G0:Nat->Option (List AVal):=pT
theorem aK:eD G0:=J9
end Go.Proofs
namespace Go.Hx
variable {P:Program} {G:Nat->Option (List AVal)} {Γ Γ':aw} {H H':AHeap} {w w':World}
theorem W.env {n:Nat}{rd:Option Nat}{Q:AX->St->Prop}{c:Code}{ρ:Env}{H:AHeap}(h:∀ E,E=ρ->W P G n rd c Q ⟨E,H⟩):W P G n rd c Q ⟨ρ,H⟩:=h ρ rfl
theorem W.en {n:Nat}{rd:Option Nat}{Q:AX->St->Prop}{c:Code}{ρ:Env}{H:AHeap}(p:Env->Prop)(hp:p ρ)(h:∀ E,p E->W P G n rd c Q ⟨E,H⟩):W P G n rd c Q ⟨ρ,H⟩:=h ρ hp
theorem Below.mono {n m:Nat}{v:AVal}(h:Below n v)(hm:n<=m):Below m v:=by
 induction h with
 | lit v=>exact .lit v
 | vec h ih=>exact .vec ih
 | vptr h ih=>exact .vptr ih
 | agg h ih=>exact .agg ih
 | tup h ih=>exact .tup ih
 | clo h1 h2 ih1 ih2=>exact .clo ih1 ih2
 | own h=>exact .own (by omega)
 | ptr h=>exact .ptr (by omega)
 | yld h=>exact .yld (by omega)
theorem gO {l:List AVal}{i:Nat}{x:AVal}(h:i<l.length):setAt l i [x]=l.set i x:=by
 unfold setAt;rw[Sq,Pv h];simp
section
variable {t:TypeId} {x y:Operand} {k k':IntKind} {a b:Int}
theorem O1 (n:Int):IntKind.u64.wrap n=n % 18446744073709551616:=by simp [IntKind.wrap,IntKind.bits,IntKind.signed]
theorem qB (hb:0<=b):aX P .shr t x y (.lit (.int k a)) (.lit (.int k' b))=some (.lit (.int k (a.fdiv (2 ^ (min b.toNat k.bits))))):=by
 have h:¬ b<0:=by omega
 simp [aX,AVal.bV,eqGuard,binOp,Op.shift,h,cO,bind,Sem.bind,pure]
theorem xA (hb:0<=b):aX P .shl t x y (.lit (.int k a)) (.lit (.int k' b))=some (.lit (.int k (k.wrap (a*2 ^ (min b.toNat k.bits))))):=by
 have h:¬ b<0:=by omega
 simp [aX,AVal.bV,eqGuard,binOp,Op.shift,h,cO,bind,Sem.bind,pure]
theorem tK:aX P .and t x y (.lit (.int k a)) (.lit (.int k b))=some (.lit (.int k (k.wrap ((BitVec.ofInt k.bits a &&& BitVec.ofInt k.bits b).toNat:Nat)))):=by
 simp [aX,AVal.bV,eqGuard,binOp,Op.intBits,cO,bind,Sem.bind,pure]
theorem O2:aX P .or t x y (.lit (.int k a)) (.lit (.int k b))=some (.lit (.int k (k.wrap ((BitVec.ofInt k.bits a ||| BitVec.ofInt k.bits b).toNat:Nat)))):=by
 simp [aX,AVal.bV,eqGuard,binOp,Op.intBits,cO,bind,Sem.bind,pure]
theorem O3:aX P .andNot t x y (.lit (.int k a)) (.lit (.int k b))=some (.lit (.int k (k.wrap ((BitVec.ofInt k.bits a &&& ~~~ BitVec.ofInt k.bits b).toNat:Nat)))):=by
 simp [aX,AVal.bV,eqGuard,binOp,Op.intBits,cO,bind,Sem.bind,pure]
def aV (m:Nat):AVal:=.lit (.int .u64 (m:Int))
def iR (a b:Nat):Nat:=(BitVec.ofNat 64 a &&& ~~~ BitVec.ofNat 64 b).toNat
theorem tL {m:Nat}(h:m<2 ^ 64):(BitVec.ofInt 64 (m:Int)).toNat=m:=by rw[BitVec.ofInt_natCast,BitVec.toNat_ofNat,Ru h]
theorem O4 (a b:Nat):iR a b<2 ^ 64:=(BitVec.isLt _)
theorem Cs {a b i:Nat}(ha:a<2 ^ 64):(iR a b).testBit i=(a.testBit i && !b.testBit i):=by
 unfold iR;by_cases hi:i<64
 ·rw[<- BitVec.getLsbD,BitVec.getLsbD_and,BitVec.getLsbD_not,BitVec.getLsbD_ofNat,BitVec.getLsbD_ofNat];simp [hi]
 ·have h1:a.testBit i=false:=Sd (PE ha (PJ (by decide) (by omega)));rw[h1,<- BitVec.getLsbD,BitVec.getLsbD_of_ge _ _ (by omega)];rfl
theorem tM {m:Nat}(h:m<2 ^ 64):IntKind.u64.wrap (m:Int)=m:=P8 _ (by omega)
theorem O5 {a b:Nat}(ha:a<2 ^ 64)(hb:b<2 ^ 64):aX P .and t x y (.lit (.int .u64 (a:Int))) (.lit (.int .u64 (b:Int)))=some (.lit (.int .u64 ((a &&& b:Nat):Int))):=by
 rw[tK];have e:(BitVec.ofInt (IntKind.bits .u64) (a:Int) &&& BitVec.ofInt (IntKind.bits .u64) (b:Int)).toNat=a &&& b:=by
  show (BitVec.ofInt 64 _ &&& BitVec.ofInt 64 _).toNat=_;rw[BitVec.toNat_and,tL ha,tL hb]
 rw[e,tM (QX Nat.and_le_left ha)]
theorem tO {a b:Nat}(ha:a<2 ^ 64)(hb:b<2 ^ 64):aX P .or t x y (.lit (.int .u64 (a:Int))) (.lit (.int .u64 (b:Int)))=some (.lit (.int .u64 ((a ||| b:Nat):Int))):=by
 rw[O2];have e:(BitVec.ofInt (IntKind.bits .u64) (a:Int) ||| BitVec.ofInt (IntKind.bits .u64) (b:Int)).toNat=a ||| b:=by
  show (BitVec.ofInt 64 _ ||| BitVec.ofInt 64 _).toNat=_;rw[BitVec.toNat_or,tL ha,tL hb]
 rw[e,tM (Ss ha hb)]
theorem O6 {a b:Nat}:aX P .andNot t x y (.lit (.int .u64 (a:Int))) (.lit (.int .u64 (b:Int)))=some (.lit (.int .u64 ((iR a b:Nat):Int))):=by
 rw[O3];have e:(BitVec.ofInt (IntKind.bits .u64) (a:Int) &&& ~~~ BitVec.ofInt (IntKind.bits .u64) (b:Int)).toNat=iR a b:=by
  show (BitVec.ofInt 64 _ &&& ~~~ BitVec.ofInt 64 _).toNat=_;rw[BitVec.ofInt_natCast,BitVec.ofInt_natCast];rfl
 rw[e,tM (O4 a b)]
theorem Ct {a s:Nat}(ha:a<2 ^ 64):aX P .shr t x y (.lit (.int .u64 (a:Int))) (.lit (.int k' (s:Int)))=some (.lit (.int .u64 ((a >>> s:Nat):Int))):=by
 rw[qB (by omega),Int.toNat_natCast];have e:(a:Int).fdiv (2 ^ (min s (IntKind.bits .u64)))=((a >>> s:Nat):Int):=by
  rw[RT _ (by exact_mod_cast RO _),Nat.shiftRight_eq_div_pow];show (a:Int) / 2 ^ (min s 64)=_;rcases Nat.le_total s 64 with h|h
  ·rw[QR h];push_cast;rfl
  ·rw[Nat.min_eq_right h];have h1:a / 2 ^ s=0:=Nat.div_eq_of_lt (PE ha (PJ (by decide) h));rw[h1];exact SO (by omega) (by omega)
 rw[e]
theorem xB {s:Nat}(hs:s<64):aX P .shl t x y (.lit (.int .u64 1)) (.lit (.int k' (s:Int)))=some (.lit (.int .u64 ((2 ^ s:Nat):Int))):=by
 rw[xA (by omega),Int.toNat_natCast];have e:min s (IntKind.bits .u64)=s:=QR (by show s<=64;omega);have h2:2 ^ s<2 ^ 64:=RL (by decide) hs;rw[e,SD];have h3:((2:Int) ^ s)=((2 ^ s:Nat):Int):=by push_cast;rfl
 rw[h3,tM h2]
theorem Cu {a s:Nat}(ha:a<2 ^ 64):aX P .and t x y (.lit (.int .u64 ((a >>> s:Nat):Int))) (.lit (.int .u64 1))=some (.lit (.int .u64 (if a.testBit s then 1 else 0))):=by
 have h1:a >>> s<2 ^ 64:=QX (Nat.shiftRight_le _ _) ha;have:=O5 (P:=P) (t:=t) (x:=x) (y:=y) (a:=a >>> s) (b:=1) h1 (by decide);rw[show (((1:Nat):Int))=1 from rfl]at this;rw[this,Nat.and_one_is_mod];congr 3;rw[Nat.testBit,Nat.and_comm,Nat.and_one_is_mod];rcases Qt (a >>> s) with h|h<;>rw[h]<;>rfl
end
end Go.Hx
namespace Go.Proofs
open Go.Hx
theorem cD (H:AHeap)(b:Blk)(L:List Blk):(ext H (b :: L)).get H.next=some b:=aY H (b :: L) 0 (by simp)
theorem Cv (l:List Int)(n:Nat):(ints l).take n=ints (l.take n):=by simp [ints]
theorem Cw (l:List Int)(n:Nat):(ints l).drop n=ints (l.drop n):=by simp [ints]
theorem aL {α:Type}{l:List α}{i:Nat}{a:α}(h:l[i]?=some a):¬ l=[]:=by rintro rfl;simp at h
theorem fL {l:List Int}{i:Nat}{x:Int}(h:i<l.length):setAt (ints l) i [.lit (.int .i64 x)]=ints (l.set i x):=by
 rw[gO (by simpa [ints] using h)];simp [ints,aa]
theorem dJ (w:Bool):pt w (some (.lit undef))=some false:=rfl
def bh (ns:List NodeP)(x:NodeP):List Int:=bd (ar ns) x.parents
def eH:List Int->List Int->Int
 | _ :: cs,v :: vs=>v*au cs+eH cs vs
 | _,_=>0
def cj:List Int->Int->List Int
 | [],_=>[]
 | c :: cs,i=>i / au cs % c :: cj cs i
theorem kP (cs:List Int)(i:Int):(cj cs i).length=cs.length:=by
 induction cs with
 | nil=>rfl
 | cons c cs ih=>simp [cj,ih]
theorem BB {cs:List Int}{k:Nat}{c:Int}(h:cs[k]?=some c)(i:Int):cj (cs.drop k) i=(i / au (cs.drop (k+1)) % c) :: cj (cs.drop (k+1)) i:=by
 have:cs.drop k=c :: cs.drop (k+1):=by
  rw[Qc (get_lt h)];congr 1;have:=Pr (get_lt h);rw[h]at this;exact(Option.some.inj this).symm
 rw[this];rfl
theorem ie {α:Type}{l:List α}{k:Nat}{a:α}(h:l[k]?=some a):l.drop k=a :: l.drop (k+1):=by
 rw[Qc (get_lt h)];congr 1;have:=Pr (get_lt h);rw[h]at this;exact(Option.some.inj this).symm
theorem NH {cs:List Int}(h:∀ c∈cs,1<=c)(i:Int):∀ (k:Nat) (c v:Int),cs[k]?=some c->(cj cs i)[k]?=some v->0<=v/\v<c:=by
 induction cs with
 | nil=>intro k c v h;simp at h
 | cons a cs ih =>
  intro k c v h1 h2;cases k with
  | zero =>
   simp only[cj,List.getElem?_cons_zero,Option.some.injEq]at h1 h2;subst h1;subst h2;have:=h a (by simp);exact⟨QA _ (by omega),Qq _ (by omega)⟩
  | succ k =>
   simp only[cj,List.getElem?_cons_succ]at h1 h2;exact ih (fun c hc=>h c (by simp [hc])) k c v h1 h2
def cL (cs vs:List Int):Prop:=vs.length=cs.length/\∀ (k:Nat) (c v:Int),cs[k]?=some c->vs[k]?=some v->0<=v/\v<c
theorem cL.tail {c v:Int}{cs vs:List Int}(h:cL (c :: cs) (v :: vs)):cL cs vs:=⟨by simpa using h.1,fun k c v h1 h2=>h.2 (k+1) c v (by simpa using h1) (by simpa using h2)⟩
theorem cL.head {c v:Int}{cs vs:List Int}(h:cL (c :: cs) (v :: vs)):0<=v/\v<c:=h.2 0 c v (by simp) (by simp)
theorem cL.pos {cs vs:List Int}(h:cL cs vs):∀ c∈cs,1<=c:=fun c hc=>by
 obtain⟨k,hk⟩:=PT.1 hc;obtain⟨v,hv⟩:=get_of_lt (l:=vs) (i:=k) (by rw[h.1];exact get_lt hk);have:=h.2 k c v hk hv;omega
theorem wZ {cs:List Int}(h:∀ c∈cs,1<=c)(i:Int):cL cs (cj cs i):=⟨kP cs i,NH h i⟩
theorem qk:∀ {cs vs:List Int},cL cs vs->0<=eH cs vs/\eH cs vs<au cs:=by
 intro cs
 induction cs with
 | nil=>intro vs _;cases vs<;>(simp [eH,eY])
 | cons c cs ih =>
  intro vs h;cases vs with
  | nil=>exact absurd h.1 (by simp)
  | cons v vs =>
   have h1:=ih h.tail;have h2:=h.head;have hp:1<=au cs:=hZ fun x hx=>h.pos x (by simp [hx]);rw[gf];simp only[eH];have h3:0<=v*au cs:=Rt h2.1 (by omega);have h4:(v+1)*au cs<=c*au cs:=Int.mul_le_mul_of_nonneg_right (by omega) (by omega);rw[SE,SD]at h4;omega
def ig (cs vs:List Int):Int:=(cs.zip vs).foldl (fun a p=>a*p.1+p.2) 0
theorem NI:∀ (cs vs:List Int),vs.length=cs.length->∀ a,(cs.zip vs).foldl (fun a p=>a*p.1+p.2) a=a*au cs+eH cs vs:=by
 intro cs
 induction cs with
 | nil=>intro vs _ a;simp [eY,eH]
 | cons c cs ih =>
  intro vs h a;cases vs with
  | nil=>simp at h
  | cons v vs =>
   simp only[RX,Rk];rw[ih vs (by simpa using h),gf];simp only[eH];rw[SE,RC];omega
theorem BC {cs vs:List Int}(h:vs.length=cs.length):ig cs vs=eH cs vs:=by
 unfold ig;rw[NI cs vs h];omega
theorem BD {cs vs:List Int}{k:Nat}{c v:Int}(h1:cs[k]?=some c)(h2:vs[k]?=some v):ig (cs.take (k+1)) (vs.take (k+1))=ig (cs.take k) (vs.take k)*c+v:=by
 unfold ig;rw[aO h1,aO h2,List.zip_append (by have:=get_lt h1;have:=get_lt h2;simp;omega),QP];rfl
def dC (l:List Int):Prop:=l.length<=12/\∀ x∈l,0<=x/\x<=8
theorem dC.prod {l:List Int}(h:dC l):0<=au l/\au l<=68719476736:=by
 have h1:=kO (b:=8) (by omega) h.2;have h2:(8:Int) ^ l.length<=8 ^ 12:=by
  have:(8:Nat) ^ l.length<=8 ^ 12:=PJ (by decide) h.1
  exact_mod_cast this
 exact⟨h1.1,Int.le_trans h1.2 h2⟩
theorem dC.take {l:List Int}(h:dC l)(k:Nat):dC (l.take k):=⟨by have:=h.1;simp;omega,fun x hx=>h.2 x (PW hx)⟩
theorem dC.drop {l:List Int}(h:dC l)(k:Nat):dC (l.drop k):=⟨by have:=h.1;simp;omega,fun x hx=>h.2 x (QB hx)⟩
theorem xj (l:List Int)(hl:dC l)(H:AHeap)(K:ARes->AHeap->Prop)(hK:K (.ret (aa (au l))) H):ab Try.prog G0 36 [ae l] H K:=by
 have l12:=hl.1;refine ab.aZ (n:=18) (rs:=[.tmp 2]) Try.func36 rfl rfl rfl (by decide) (by kernel_rfl) (by simp) ?_;simp only[go_sem];refine W.aN 131064 (by rfl) (fun ρ H'=>H'=H/\∃ k:Nat,ρ 4=aa k/\k<=l.length/\ρ 3=aa (au (l.take k))) (fun ρ H=>l.length - (iv (ρ 4)).toNat) ?_ ?_
 ·simp only[go_sem];exact⟨0,rfl,by omega,by simp [eY]⟩
 rintro ρ H' ⟨rfl,k,h4,hk,h3⟩;refine W.vs ?_;by_cases hb:(k:Int)<l.length
 ·obtain⟨c,hc⟩:=get_of_lt (l:=l) (i:=k) (by omega);have hne:=aL hc;have b1:=(hl.take (k+1)).prod;rw[aO hc,fq]at b1;simp only[go_sem,h4,h3,hb,hc,hne];rw[Ps ((k:Int)+1) (by omega),Ps (_*c) (by omega)];exact⟨⟨k+1,by simp,by omega,by rw[aO hc,fq]⟩,by omega⟩
 ·simp only[go_sem,h4,h3,hb];rw[Pw (by omega)];exact av.mk (Nat.le_refl _) hK
theorem OD (cs vs:List Int)(hc:dC cs)(hf:cL cs vs)(H:AHeap)(K:ARes->AHeap->Prop)(hK:K (.ret (aa (eH cs vs))) H):ab Try.prog G0 74 [ae cs,ae vs] H K:=by
 have l12:=hc.1;have hl:=hf.1;refine ab.aZ (n:=30) (rs:=[.tmp 4]) Try.func74 rfl rfl rfl (by decide) (by kernel_rfl) (by simp) ?_;simp only[go_sem];have w0:=Ps ((cs.length:Int) - 1) (by omega);rw[w0];refine W.aN 536869088 (by rfl) (fun ρ H'=>H'=H/\∃ k:Nat,ρ 7=aa ((k:Int) - 1)/\k<=cs.length/\ρ 5=aa (eH (cs.drop k) (vs.drop k))/\ρ 6=aa (au (cs.drop k))) (fun ρ H=>(iv (ρ 7)+1).toNat) ?_ ?_
 ·simp only[go_sem];exact⟨cs.length,rfl,by omega,by simp [eH],by simp [eY]⟩
 rintro ρ H' ⟨rfl,k,h7,hk,h5,h6⟩;refine W.vs ?_;by_cases hb:(k:Int) - 1 >= 0
 ·obtain⟨j,rfl⟩:∃ j,k=j+1:=⟨k - 1,by omega⟩
  obtain⟨c,hcj⟩:=get_of_lt (l:=cs) (i:=j) (by omega);obtain⟨v,hvj⟩:=get_of_lt (l:=vs) (i:=j) (by omega);have hne:=aL hcj;have hne2:=aL hvj;have e1:((j+1:Nat):Int) - 1=j:=by omega
  rw[e1]at h7;have hb':(j:Int) >= 0:=by omega
  have hj1:(j:Int)<cs.length:=by omega
  have hj2:(j:Int)<vs.length:=by omega
  have b0:=hc.drop j;have b1:=b0.prod;have fd:cL (cs.drop j) (vs.drop j):=⟨by simp [hl],fun i c v h1 h2=>hf.2 (j+i) c v (by rw[Qn]at h1;exact h1) (by rw[Qn]at h2;exact h2)⟩
  rw[ie hcj,ie hvj]at fd;rw[ie hcj,gf]at b1;have r1:=qk fd;have r2:=qk fd.tail;have r3:=fd.head;simp only[eH,gf]at r1;have p1:0<=au (cs.drop (j+1)):=(hc.drop (j+1)).prod.1;have m1:0<=v*au (cs.drop (j+1)):=Rt r3.1 p1;have cc:au (cs.drop (j+1))*c=c*au (cs.drop (j+1)):=QM _ _;have w1:=Ps ((j:Int) - 1) (by omega);have w2:=Ps (v*au (cs.drop (j+1))) (by omega);have w3:=Ps (eH (cs.drop (j+1)) (vs.drop (j+1))+v*au (cs.drop (j+1))) (by omega);have w4:=Ps (au (cs.drop (j+1))*c) (by omega);simp only[go_sem,h7,h5,h6,hb',hcj,hvj,hne,hne2,hj1,hj2,w1,w2,w3,w4];refine⟨⟨j,rfl,by omega,?_,?_⟩,by omega⟩
  ·rw[ie hcj,ie hvj];simp only[eH];show aa _=aa _;rw[Sy]
  ·rw[ie hcj,gf];show aa _=aa _;rw[QM]
 ·have h0:k=0:=by omega
  subst h0;have hb':¬ ((0:Nat):Int) - 1 >= 0:=hb;simp only[List.drop_zero]at h5 h6;have h7':ρ 7=aa (-1):=h7;simp only[go_sem,h7',h5];exact av.mk (Nat.le_refl _) hK
instance placesDec (l:List Int)(n:Int):Decidable (c9 l n):=by unfold c9;infer_instance
theorem c9.nil {n:Int}:c9 [] n:=⟨.nil,fun _ h=>by cases h⟩
theorem c9.take {l:List Int}{n:Int}(h:c9 l n)(k:Nat):c9 (l.take k) n:=⟨h.1.sublist (List.take_sublist k l),fun p hp=>h.2 p (PW hp)⟩
theorem c9.snoc {l:List Int}{n a:Int}(h:c9 l n)(ha:0<=a/\a<n)(hl:∀ b,l.getLast?=some b->b<a):c9 (l++[a]) n:=by
 refine⟨RN.2 ⟨h.1,by simp,fun x hx y hy=>?_⟩,fun p hp=>?_⟩
 ·obtain rfl:=List.mem_singleton.1 hy;rcases List.eq_nil_or_concat l with rfl|⟨l',b,rfl⟩
  ·cases hx
  ·have hb:=hl b (by simp);simp only[List.concat_eq_append]at hx h;rcases PK.1 hx with hx|hx
   ·have:=(RN.1 h.1).2.2 x hx b (by simp);omega
   ·obtain rfl:=List.mem_singleton.1 hx;exact hb
 ·rcases PK.1 hp with hp|hp
  ·exact h.2 p hp
  ·obtain rfl:=List.mem_singleton.1 hp;exact ha
theorem c9.lt {l:List Int}{n:Int}(h:c9 l n){i j:Nat}{a b:Int}(ha:l[i]?=some a)(hb:l[j]?=some b)(hij:i<j):a<b:=by
 have:=List.pairwise_iff_getElem.1 h.1 i j (get_lt ha) (get_lt hb) hij;have e1:=Pr (get_lt ha);have e2:=Pr (get_lt hb);rw[ha]at e1;rw[hb]at e2;rw[Option.some.inj e1,Option.some.inj e2];exact this
theorem c9.len {l:List Int}{n:Int}(h:c9 l n):(l.length:Int)<=max n 0:=by
  -- the k-th place is at least k
 have key:∀ (k:Nat) (a:Int),l[k]?=some a->(k:Int)<=a:=by
  intro k
  induction k with
  | zero=>intro a ha;have:=h.2 a (Pq ha);omega
  | succ k ih =>
   intro a ha;obtain⟨b,hb⟩:=get_of_lt (l:=l) (i:=k) (by have:=get_lt ha;omega);have:=ih b hb;have:=h.lt hb ha (by omega);omega
 rcases RW l.length with h0|h0
 ·omega
 ·obtain⟨a,ha⟩:=get_of_lt (l:=l) (i:=l.length - 1) (by omega);have h1:=key _ a ha;have h2:=h.2 a (Pq ha);omega
theorem xk {l:List Int}{j:Nat}{b:Int}(h:l[j]?=some b):(l.take (j+1)).getLast?=some b:=by rw[aO h];simp
theorem OE (l:List Int)(n:Int)(hl:(l.length:Int)<2 ^ 62)(H:AHeap)(K:ARes->AHeap->Prop)(hK:K (.ret (.lit (.bool (decide (c9 l n))))) H):ab Try.prog G0 60 [ae l,aa n] H K:=by
 have no:¬ c9 l n->av Try.prog G0 H K (.lit (.bool false)) H:=fun h=>av.mk (Nat.le_refl _) (by rw[Q1 h]at hK;exact hK);refine ab.aZ (n:=41) (rs:=[.tmp 4]) Try.func60 rfl rfl rfl (by decide) (by kernel_rfl) (by simp) ?_;simp only[go_sem];refine W.aN 2199023255536 (by rfl) (fun ρ H'=>H'=H/\∃ k:Nat,ρ 5=aa k/\k<=l.length/\c9 (l.take k) n) (fun ρ H=>l.length - (iv (ρ 5)).toNat) ?_ ?_
 ·simp only[go_sem];exact⟨0,rfl,by omega,.nil⟩
 rintro ρ H' ⟨rfl,k,h5,hk,hp⟩;refine W.vs ?_;by_cases hb:(k:Int)<l.length
 ·obtain⟨a,ha⟩:=get_of_lt (l:=l) (i:=k) (by omega);have hne:=aL ha;have ham:=Pq ha;simp only[go_sem,h5,hb];refine W.draw 26 [0,0,3,7,15,31,63,63,255,511,63,2047,4095,8191,16383,32767,65535,131071,131071,524287,1048575,131071,131071,4325375,14811135,31588351] Try.mixed (by kernel_rfl) (by kernel_rfl) ?_;by_cases c1:a<0
  ·simp only[go_sem,h5,hb,ha,hne,c1,dJ];exact no fun h=>by have:=h.2 a ham;omega
  by_cases c2:a >= n
  ·simp only[go_sem,h5,hb,ha,hne,c1,c2,dJ];exact no fun h=>by have:=h.2 a ham;omega
  by_cases c3:(k:Int) > 0
  ·obtain⟨j,rfl⟩:∃ j,k=j+1:=⟨k - 1,by omega⟩
   obtain⟨b,hbj⟩:=get_of_lt (l:=l) (i:=j) (by omega);have w1:=Ps (j:Int) (by omega);have w2:=Ps (((j+1:Nat):Int)+1) (by omega);have e1:((j+1:Nat):Int) - 1=j:=(by omega);have hb1:(j:Int)<l.length:=(by omega);have hbj':=hbj;by_cases c4:a<=b
   ·simp only[go_sem,h5,hb,ha,hne,c1,c2,c3,c4,w1,e1,hb1,hbj];exact no fun h=>by have:=h.lt hbj ha (by omega);omega
   ·simp only[go_sem,h5,hb,ha,hne,c1,c2,c3,c4,w1,w2,e1,hb1,hbj];refine⟨⟨j+1+1,by simp,by omega,?_⟩,by omega⟩;rw[aO ha];exact hp.snoc (by omega) fun b' hb'=>by
     rw[xk hbj]at hb';cases hb';omega
  ·simp only[go_sem,h5,hb,ha,hne,c1,c2,c3];rw[Ps ((k:Int)+1) (by omega)];obtain rfl:k=0:=(by omega);refine⟨⟨1,by simp,by omega,?_⟩,by omega⟩;rw[aO ha];exact hp.snoc (by omega) fun b' hb'=>by simp at hb'
 ·simp only[go_sem,h5,hb];rw[Pw (by omega)]at hp;rw[QL hp]at hK;exact av.mk (Nat.le_refl _) hK
end Go.Proofs
namespace Go.Hx
theorem Over.live {H H':AHeap}(h:Over H H'){id g:Nat}(hi:id<H.next):H'.live id g=H.live id g:=by
 unfold AHeap.live;rw[h.old id hi]
theorem Over.upd {H H':AHeap}(h:Over H H'){id:Nat}(hi:H.next<=id)(b:Blk):Over H (H'.upd id b):=⟨h.next,fun j hj=>by rw[ag,Pt (by omega)];exact h.old j hj⟩
theorem O7 {H:AHeap}{id g:Nat}{e:TypeId}{c:List AVal}:(H.upd id (.arr g e c)).live id g=some (e,c):=aj (by rw[ag,Pv rfl])
theorem iq {H:AHeap}{id j g:Nat}{b:Blk}(h:j≠id):(H.upd id b).live j g=H.live j g:=by unfold AHeap.live;rw[ag,Pt h]
attribute [go_sem] O7
@[go_sem] theorem Pp (a b:Array TypeId)(c:Bool)(n:Nat)(cells:List AVal)(off:Nat):jM (some (.func a b c)) n cells off=cells[off]?:=rfl
end Go.Hx
namespace Go.Proofs
open Go.Hx
theorem my {H H' H2:AHeap}{e:TypeId}{v:AVal}{cs:List AVal}(ov:Over H H')(h:aA H.next H' e v cs)(hn:H'.next<=H2.next)(hp:∀ k,k<H'.next->(∀ g n,v≠.own k g 0 n 1)->H2.get k=H'.get k):Over H H2 :=
 ⟨PY ov.next hn,fun id hi=>by
  rw[hp id (PE hi ov.next) fun g n he=>?_,ov.old id hi];rcases h with ⟨h,_⟩|⟨i2,g2,a1,_,h,_⟩
  ·rw[h]at he;cases he
  ·rw[h]at he;have:=AVal.own.inj he;omega⟩
theorem iS {H H':AHeap}{v:AVal}{l:List Int}(x:Int)(ov:Over H H')(h:aA H.next H' 3 v (ints l))(hl:l.length<2 ^ 40):
  ∃ v' H2,bC Try.prog (ext H' [.arr 0 3 [.lit (.int .i64 x)]]) (H'.next+1) 39 39 v (.own H'.next 0 0 1 1)=some (v',H2)/\Over H H2/\aA H.next H2 3 v' (ints (l++[x]))/\H'.next<=H2.next/\(∀ k,k<H'.next->(∀ g n,v≠.own k g 0 n 1)->H2.get k=H'.get k):=by
 obtain⟨v',H2,hA,hO,hn2,hp⟩:=jc (P:=Try.prog) (H:=H') (t:=39) (x:=aa x) (n:=H'.next+1) Try.underlying39 Try.eg Try.eX rfl (by rw[Try.fG,aS];omega) h ov.next rfl;simp only[aa]at hA;exact⟨v',H2,hA,my ov h hn2 hp,by simpa [ints,aa] using hO,hn2,hp⟩
theorem O8 (l:List (List Int)):(ay l).one=true:=rfl
theorem O9 (l:List (List Int)):(ay l).cells=[ay l]:=rfl
theorem Pa (l:List NodeP):(cf l).one=true:=rfl
theorem Pb (l:List NodeP):(cf l).cells=[cf l]:=rfl
theorem Pc (l:List UtilP):(wX l).one=true:=rfl
theorem Pd (l:List UtilP):(wX l).cells=[wX l]:=rfl
attribute [go_sem] O8 O9 Pa Pb Pc Pd
structure OwnI (H H':AHeap)(id:Nat)(c:List Int):Prop where
 ov:Over H H'
 lo:H.next<=id
 hi:id<H'.next
 get:H'.get id=some (.arr 0 3 (ints c))
theorem OwnI.live {H H':AHeap}{id:Nat}{c:List Int}(h:OwnI H H' id c):H'.live id 0=some (3,ints c):=aj h.get
theorem OwnI.ne {H H':AHeap}{id:Nat}{c:List Int}(h:OwnI H H' id c):¬ id=H'.next:=by have:=h.hi;omega
theorem OwnI.over {H H' H2:AHeap}{id:Nat}{c:List Int}(h:OwnI H H' id c)(o:Over H' H2):OwnI H H2 id c:=⟨h.ov.trans o,h.lo,PE h.hi o.next,(o.old id h.hi).trans h.get⟩
theorem OwnI.store {H H':AHeap}{id:Nat}{c:List Int}(h:OwnI H H' id c){k:Nat}(hk:k<c.length)(x:Int):OwnI H (H'.upd id (.arr 0 3 (setAt (ints c) k [.lit (.int .i64 x)]))) id (c.set k x) :=
 ⟨⟨h.ov.next,fun i hi=>by rw[ag,Pt (by have:=h.lo;omega)];exact h.ov.old i hi⟩,h.lo,h.hi,by rw[ag,Pv rfl,fL hk]⟩
theorem OwnI.new {H:AHeap}(L:List Blk)(n:Nat):OwnI H (ext H (.arr 0 3 (List.replicate n (.lit (.int .i64 0))) :: L)) H.next (List.replicate n 0) :=
 ⟨.ext _ _,Nat.le_refl _,by simp [bb],by rw[cD];simp [ints,aa]⟩
theorem OwnI.fin {H H':AHeap}{id:Nat}{c:List Int}{K:ARes->AHeap->Prop}(hcl:Clo H)(h:OwnI H H' id c){n:Nat}(hn:n=c.length)(hK:K (.ret (ae c)) H):av Try.prog G0 H K (.own id 0 0 n 1) H':=by
 subst hn;refine av.bq aK hcl h.ov ?_ hK;exact .ints h.lo h.get (by simp) fun i hi=>by simp [fU,hi]
theorem Pe {l m:List Int}{k:Nat}{x:Int}(h:l.take k=m.take k)(hk:k<l.length)(hx:m[k]?=some x):(l.set k x).take (k+1)=m.take (k+1):=by
 rw[aO hx,aO (show (l.set k x)[k]?=some x by rw[PF hk]),Rx (Nat.le_refl k),h]
theorem bH {α:Type}{l:List α}{i:Nat}{a d:α}(h:l[i]?=some a):l.getD i d=a:=by rw[Pz,h];rfl
theorem Cg {l places:List Int}{k:Nat}{p:Int}(h:places[k]?=some p):bd l (places.take (k+1))=bd l (places.take k)++[l.getD p.toNat 0]:=by
 unfold bd;rw[aO h];simp
theorem cQ {ns:List NodeP}{k:Nat}{x:NodeP}(h:ns[k]?=some x):(ar ns)[k]?=some x.card:=by unfold ar;rw[List.getElem?_map,h];rfl
theorem bR (ns:List NodeP):(ar ns).length=ns.length:=by simp [ar]
theorem Ch (l p:List Int)(hl:(l.length:Int)<2 ^ 40)(hp:(p.length:Int)<2 ^ 39)(hin:∀ q∈p,0<=q/\q<l.length)(H:AHeap)(K:ARes->AHeap->Prop)(hK:K (.ret (ae (bd l p))) H):ab Try.prog G0 67 [ae l,ae p] H K:=by
 refine ab.clo ⟨_,Try.func67,rfl,rfl⟩ fun hcl=>?_;refine ab.aZ (n:=24) (rs:=[.tmp 4]) Try.func67 rfl rfl rfl (by decide) (by kernel_rfl) (by simp) ?_;simp only[go_sem];refine W.aN 8388576 (by rfl) (fun ρ H'=>∃ k:Nat,ρ 6=aa k/\k<=p.length/\Over H H'/\aA H.next H' 3 (ρ 5) (ints (bd l (p.take k)))) (fun ρ H=>p.length - (iv (ρ 6)).toNat) ?_ ?_
 ·simp only[go_sem];exact⟨0,rfl,by omega,.refl _,.nil⟩
 rintro ρ H' ⟨k,h6,hk,ov,h5⟩;refine W.vs ?_;by_cases hb:(k:Int)<p.length
 ·obtain⟨q,hq⟩:=get_of_lt (l:=p) (i:=k) (by omega);obtain⟨j,rfl,a,ha⟩:=mm (hin q (Pq hq)).1 (hin q (Pq hq)).2;have hne:=aL hq;have hne2:=aL ha;have hj:=get_lt ha;have hj':(j:Int)<l.length:=by omega
  obtain⟨v',H2,hA,ov2,hO,hn2,_⟩:=iS a ov h5 (by simp [bd];omega);have w1:=Ps ((k:Int)+1) (by omega);simp only[go_sem,h6,hb,hq,hne,ha,hne2,hj',w1,hA];refine⟨by have:=ov2.next;omega,⟨k+1,by simp,by omega,ov2,?_⟩,by omega⟩;rw[Cg hq,Int.toNat_natCast,bH ha];exact hO
 ·simp only[go_sem,h6,hb];rw[Pw (by omega)]at h5;exact av.bq aK hcl ov (h5.ja fun i hi=>hi) hK
theorem oE (g:Int)(ns:List NodeP)(hl:(ns.length:Int)<2 ^ 39)(H:AHeap)(K:ARes->AHeap->Prop)(hK:K (.ret (ae (ar ns))) H):ab Try.prog G0 31 [aG g ns] H K:=by
 refine ab.clo ⟨_,Try.func31,rfl,rfl⟩ fun hcl=>?_;refine ab.aZ (n:=22) (rs:=[.tmp 2]) Try.func31 rfl rfl rfl (by decide) (by kernel_rfl) (by simp) ?_;simp only[go_sem,aG,cf];obtain⟨H1,hH1⟩:∃ H1,H1=ext H [.arr 0 35 [.lit (.int .i64 g),.vec ns.length (aq ns)]]:=⟨_,rfl⟩
 have l1:H1.live H.next 0=some (35,[.lit (.int .i64 g),.vec ns.length (aq ns)]):=by rw[hH1];exact aj (cD ..)
 have n1:H1.next=H.next+1:=by rw[hH1];rfl
 have o1:Over H H1:=by rw[hH1];exact .ext _ _
 rw[<- hH1];refine W.aN 2097144 (by rfl) (fun ρ H'=>∃ k:Nat,ρ 4=aa k/\k<=ns.length/\ρ 1=.ptr H.next 0 0/\Over H1 H'/\aA H1.next H' 3 (ρ 3) (ints ((ar ns).take k))) (fun ρ H=>ns.length - (iv (ρ 4)).toNat) ?_ ?_
 ·simp only[go_sem];exact⟨0,rfl,by omega,.refl _,.nil⟩
 rintro ρ H' ⟨k,h4,hk,h1,ov,h3⟩;refine W.vs ?_;have l2:=(ov.live (g:=0) (by omega:H.next<H1.next)).trans l1;by_cases hb:(k:Int)<ns.length
 ·obtain⟨x,hx⟩:=get_of_lt (l:=ns) (i:=k) (by omega);have hne:=fI hx;have e0:=jS hx;obtain⟨v',H2,hA,ov2,hO,hn2,_⟩:=iS x.card ov h3 (by simp [ar];omega);have w1:=Ps ((k:Int)+1) (by omega);simp only[go_sem,h4,h1,l2,hb,hne,e0,w1,hA];refine⟨by have:=ov2.next;omega,⟨k+1,by simp,by omega,ov2,?_⟩,by omega⟩;rw[aO (cQ hx)];exact hO
 ·simp only[go_sem,h4,h1,l2,hb];rw[Pw (by rw[bR];omega)]at h3;exact av.bq aK hcl (o1.trans ov) (h3.ja fun i hi=>by omega) hK
def im (l:List Int)(n:Nat):Prop:=∀ q∈l,0<=q/\q<n
theorem iP (l p:List Int):(bd l p).length=p.length:=by simp [bd]
theorem qw {l p:List Int}{k:Nat}{q:Int}(h:p[k]?=some q):(bd l p)[k]?=some (l.getD q.toNat 0):=by unfold bd;rw[List.getElem?_map,h];rfl
theorem Ci (g:Int)(ns:List NodeP)(v:Nat)(x:NodeP)(hx:ns[v]?=some x)(hl:(ns.length:Int)<2 ^ 39)(hp:(x.parents.length:Int)<2 ^ 39)(hin:im x.parents ns.length)(H:AHeap)(K:ARes->AHeap->Prop)
  (hK:K (.ret (ae (bh ns x))) H):ab Try.prog G0 37 [aG g ns,aa v] H K:=by
 refine ab.clo ⟨_,Try.func37,rfl,rfl⟩ fun hcl=>?_;have hne:=fI hx;have e1:=kM hx;have hv:(v:Int)<ns.length:=by have:=get_lt hx;omega
 refine ab.aZ (n:=14) (rs:=[.tmp 4]) Try.func37 rfl rfl rfl (by decide) (by kernel_rfl) (by simp) ?_;simp only[go_sem,aG,cf];refine W.draw 8 [0,1,0,4,0,28,60,124] Try.mixed (by kernel_rfl) (by kernel_rfl) ?_;simp only[go_sem];refine⟨ae (ar ns),[],cI.pure fun H2=>oE g ns hl H2 _ ⟨rfl,rfl⟩,?_⟩;simp only[go_sem,hv,hne,e1];refine az.clo (Ch (ar ns) x.parents (by rw[bR];omega) hp (by rw[bR];exact hin) _ _ ⟨trivial,?_⟩);simp only[go_sem];exact av.bq aK hcl (.ext _ _) (.dm _) hK
def dH (l:List Int):Nat:=l.foldl (fun s p=>s ||| 2 ^ p.toNat) 0
theorem NJ (l:List Int):∀ (s i:Nat),(l.foldl (fun s p=>s ||| 2 ^ p.toNat) s).testBit i=(s.testBit i || l.any fun p=>p.toNat == i):=by
 induction l with
 | nil=>intro s i;simp
 | cons p l ih =>
  intro s i;simp only[Rk,ih,RE,SY,List.any_cons];rw[Bool.or_assoc];congr 1
theorem mn {l:List Int}(h:∀ p∈l,0<=p)(i:Nat):(dH l).testBit i=decide ((i:Int)∈l):=by
 unfold dH;rw[NJ];simp only[Qs,SM];rw[Ro];simp only[List.any_eq_true,beq_iff_eq,decide_eq_true_eq];constructor
 ·rintro⟨p,hp,rfl⟩;have:=h p hp;rw[Rz this];exact hp
 ·intro hi;exact⟨_,hi,by simp⟩
theorem BE (l:List Int)(p:Int):dH (l++[p])=dH l ||| 2 ^ p.toNat:=by unfold dH;rw[QP];rfl
theorem BF {m n:Nat}(h:∀ i,m.testBit i=true->i<n):m<2 ^ n:=by
 apply Nat.lt_pow_two_of_testBit;intro i hi;rcases Qm (m.testBit i) with e|e
 ·exact absurd (h i e) (by omega)
 ·exact e
theorem w6 {l:List Int}{n:Nat}(h:∀ p∈l,0<=p/\p<n):dH l<2 ^ n:=BF fun i hi=>by
 rw[mn fun p hp=>(h p hp).1]at hi;have:=(h _ (of_decide_eq_true hi)).2;omega
theorem ot {m n i:Nat}(h:m<2 ^ n)(hi:m.testBit i=true):i<n:=by
 rcases PR i n with h'|h'
 ·exact h'
 ·rw[Sd (PE h (PJ (by decide) h'))]at hi;cases hi
def Sub (s t:Nat):Prop:=∀ i,s.testBit i=true->t.testBit i=true
theorem Sub.refl (s:Nat):Sub s s:=fun _ h=>h
theorem Sub.trans {s t u:Nat}(h:Sub s t)(h':Sub t u):Sub s u:=fun i hi=>h' i (h i hi)
theorem Sub.or {s t u:Nat}(h:Sub s u)(h':Sub t u):Sub (s ||| t) u:=fun i hi=>by
 rw[RE,Rm]at hi;exact hi.elim (h i) (h' i)
theorem Sub.left (s t:Nat):Sub s (s ||| t):=fun i hi=>by rw[RE,hi];rfl
theorem Sub.right (s t:Nat):Sub t (s ||| t):=fun i hi=>by rw[RE,hi];simp
theorem Sub.antisymm {s t:Nat}(h:Sub s t)(h':Sub t s):s=t:=SR fun i=>by
 rw[Ro];exact⟨h i,h' i⟩
theorem BG {a b:Nat}(ha:a<2 ^ 64):iR a b=0↔Sub a b:=by
 constructor
 ·intro h i hi;have:=Cs (a:=a) (b:=b) (i:=i) ha;rw[h,Qs,hi]at this;simpa using this.symm
 ·intro h;apply SR;intro i;rw[Cs ha,Qs];cases hi:a.testBit i
  ·rfl
  ·rw[h i hi];rfl
def eh (ps:List Nat)(s v:Nat):Nat:=if s.testBit v=true then s ||| ps.getD v 0 else s
def dZ (ps:List Nat)(s:Nat):Nat:=(List.range ps.length).foldl (eh ps) s
def dI (ps:List Nat):Nat->Nat->Nat
 | 0,s=>s
 | k+1,s=>dZ ps (dI ps k s)
def fw (ps:List Nat)(s:Nat):Nat:=dI ps ps.length s
def kQ (ps:List Nat):Prop:=∀ v,v<ps.length->(fw ps (ps.getD v 0)).testBit v=false
def kR (ps:List Nat)(t:Nat):Prop:=∀ v,v<ps.length->t.testBit v=true->Sub (ps.getD v 0) t
theorem BH (ps:List Nat)(s v:Nat):Sub s (eh ps s v):=by unfold eh;split;exact .left _ _;exact .refl _
theorem BI (ps:List Nat)(l:List Nat):∀ s,Sub s (l.foldl (eh ps) s):=by
 induction l with
 | nil=>exact fun s=>.refl s
 | cons v l ih=>exact fun s=>(BH ps s v).trans (ih _)
theorem w7 (ps:List Nat)(s:Nat):Sub s (dZ ps s):=BI ps _ s
theorem NK {ps:List Nat}{t:Nat}(hc:kR ps t)(l:List Nat)(hl:∀ v∈l,v<ps.length):∀ s,Sub s t->Sub (l.foldl (eh ps) s) t:=by
 induction l with
 | nil=>exact fun s h=>h
 | cons v l ih =>
  intro s h;refine ih (fun v hv=>hl v (by simp [hv])) _ ?_;unfold eh;split
  ·rename_i hv;exact h.or (hc v (hl v (by simp)) (h v hv))
  ·exact h
theorem NL {ps:List Nat}{t:Nat}(hc:kR ps t){s:Nat}(h:Sub s t):Sub (dZ ps s) t:=NK hc _ (fun v hv=>PU.1 hv) s h
theorem tw {ps:List Nat}{t:Nat}(hc:kR ps t)(k:Nat){s:Nat}(h:Sub s t):Sub (dI ps k s) t:=by
 induction k with
 | zero=>exact h
 | succ k ih=>exact NL hc ih
theorem w9 (ps:List Nat)(k s:Nat):Sub s (dI ps k s):=by
 induction k with
 | zero=>exact .refl _
 | succ k ih=>exact ih.trans (w7 _ _)
theorem NM {ps:List Nat}{s:Nat}(h:dZ ps s=s):kR ps s:=by
 intro v hv hs;have key:∀ (l:List Nat) (s0:Nat),v∈l->s0.testBit v=true->Sub (ps.getD v 0) (l.foldl (eh ps) s0):=by
  intro l
  induction l with
  | nil=>intro s0 h;cases h
  | cons u l ih =>
   intro s0 hm hb;rcases List.mem_cons.1 hm with rfl|hm
   ·refine Sub.trans ?_ (BI ps l _);unfold eh;rw[Pv hb];exact .right _ _
   ·exact ih _ hm (BH ps s0 u v hb)
 have:=key (List.range ps.length) s (PU.2 hv) hs;unfold dZ at h
 rwa [h]at this
def cM (n s:Nat):Nat:=(List.range n).countP fun i=>s.testBit i
theorem xa (n s:Nat):cM n s<=n:=by have:=List.countP_le_length (p:=fun i=>s.testBit i) (l:=List.range n);simpa [cM] using this
theorem NN {l:List Nat}{p q:Nat->Bool}(h:∀ x∈l,p x=true->q x=true){a:Nat}(ha:a∈l)(hp:p a=false)(hq:q a=true):l.countP p<l.countP q:=by
 induction l with
 | nil=>cases ha
 | cons x l ih =>
  have hm:l.countP p<=l.countP q:=List.countP_mono_left fun y hy=>h y (by simp [hy]);rcases List.mem_cons.1 ha with rfl|ha
  ·rw[Qo,Qo,hp,hq];simp;omega
  ·have:=ih (fun y hy=>h y (by simp [hy])) ha;have hx:=h x (by simp);rw[Qo,Qo];cases hpx:p x
   ·simp;omega
   ·rw[hx hpx];simp;omega
theorem ou {n s t i:Nat}(h:Sub s t)(hi:i<n)(h0:s.testBit i=false)(h1:t.testBit i=true):cM n s<cM n t :=
 NN (fun x _ hx=>h x hx) (PU.2 hi) h0 h1
theorem NO {ps:List Nat}(hp:∀ p∈ps,p<2 ^ ps.length){s:Nat}(hs:s<2 ^ ps.length):kR ps (fw ps s):=by
 have hb:∀ k,dI ps k s<2 ^ ps.length:=fun k=>by
  have ht:kR ps (2 ^ ps.length - 1):=fun v _ _ i hi=>by
   rw[QQ];have:ps.getD v 0<2 ^ ps.length:=by
    rw[Pz];cases h:ps[v]? with
    | none=>exact SB _
    | some p=>exact hp p (Pq h)
   simpa using ot this hi
  have:=tw ht k (s:=s) fun i hi=>by rw[QQ];simpa using ot hs hi
  exact BF fun i hi=>by have:=this i hi;rw[QQ]at this;simpa using this
 have key:∀ k,dZ ps (dI ps k s)=dI ps k s\/k+1<=cM ps.length (dI ps k s):=by
  have grow:∀ t,t<2 ^ ps.length->dZ ps t<2 ^ ps.length->dZ ps t≠t->cM ps.length t<cM ps.length (dZ ps t):=fun t ht ht' hne=>by
   have:∃ i,(dZ ps t).testBit i=true/\t.testBit i=false:=by
    refine P5 fun hno=>hne (Sub.antisymm (fun i hi=>?_) (w7 ps t));rcases Qm (t.testBit i) with e|e
    ·exact e
    ·exact absurd ⟨i,hi,e⟩ hno
   obtain⟨i,h1,h0⟩:=this;exact ou (w7 ps t) (ot ht' h1) h0 h1
  intro k
  induction k with
  | zero =>
   by_cases h0:s=0
   ·left;subst h0;show dZ ps 0=0;unfold dZ;have:∀ l:List Nat,l.foldl (eh ps) 0=0:=fun l=>by
     induction l with
     | nil=>rfl
     | cons v l ih=>simp only[Rk,eh,Qs,Bool.false_eq_true,if_false];exact ih
    exact this _
   ·right;obtain⟨i,hi⟩:=Nat.exists_testBit_of_ne_zero h0;have:cM ps.length 0<cM ps.length s:=ou (fun j hj=>by rw[Qs]at hj;cases hj) (ot hs hi) (Qs i) hi;show 0+1<=cM ps.length s;omega
  | succ k ih =>
   rcases ih with ih|ih
   ·left;show dZ ps (dZ ps (dI ps k s))=dZ ps (dI ps k s);rw[ih];exact ih
   ·by_cases hf:dZ ps (dI ps k s)=dI ps k s
    ·left;show dZ ps (dZ ps (dI ps k s))=dZ ps (dI ps k s);rw[hf];exact hf
    ·right;have:=grow _ (hb k) (hb (k+1)) hf;show k+1+1<=cM ps.length (dZ ps (dI ps k s));omega
 rcases key ps.length with h|h
 ·exact NM h
 ·have:=xa ps.length (dI ps ps.length s);omega
def kS (ps:List Nat)(done v:Nat):Bool:=!done.testBit v && decide (iR (ps.getD v 0) done=0)
def jT (ps:List Nat)(done:Nat):Option Nat:=(List.range ps.length).find? (kS ps done)
def iM (ps:List Nat):Nat->List Nat->Nat->Option (List Nat)
 | 0,out,_=>some out
 | k+1,out,done=>match jT ps done with
  | none=>none
  | some v=>iM ps k (out++[v]) (done ||| 2 ^ v)
def el (ps:List Nat):Option (List Nat):=iM ps ps.length [] 0
theorem xb {ps:List Nat}{done v:Nat}(hp:∀ p∈ps,p<2 ^ 64)(h:jT ps done=some v):v<ps.length/\done.testBit v=false/\Sub (ps.getD v 0) done:=by
 unfold jT at h;have h1:=List.mem_of_find?_eq_some h;have h2:=List.find?_some h;unfold kS at h2;simp only[PS,R8,decide_eq_true_eq]at h2;have hv:=PU.1 h1;refine⟨hv,h2.1,(BG ?_).1 h2.2⟩;rw[Pz];cases h:ps[v]? with
 | none=>decide
 | some p=>exact hp p (Pq h)
theorem NP {ps:List Nat}{done:Nat}(hp:∀ p∈ps,p<2 ^ 64)(h:jT ps done=none):∀ v,v<ps.length->done.testBit v=true\/¬ Sub (ps.getD v 0) done:=by
 intro v hv;unfold jT at h;rw[List.find?_eq_none]at h;have:=h v (PU.2 hv);unfold kS at this;rcases Qm (done.testBit v) with e|e
 ·exact .inl e
 ·right;intro hs;refine this ?_;rw[e,(BG ?_).2 hs]
  ·simp
  ·rw[Pz];cases h:ps[v]? with
   | none=>decide
   | some p=>exact hp p (Pq h)
theorem ij (d v i:Nat):(d ||| 2 ^ v).testBit i=(d.testBit i || decide (v=i)):=by rw[RE,SY]
theorem NQ {ps:List Nat}(hp:∀ p∈ps,p<2 ^ 64):∀ (k:Nat) (out:List Nat) (done:Nat) (r:List Nat),iM ps k out done=some r->k+cM ps.length done=ps.length ->
  kR ps done->(∀ v,v<ps.length->done.testBit v=true->(fw ps (ps.getD v 0)).testBit v=false)->kQ ps:=by
 intro k
 induction k with
 | zero =>
  intro out done r _ hc hcl hall v hv;refine hall v hv ?_;rcases Qm (done.testBit v) with e|e
  ·exact e
  ·have:cM ps.length done<cM ps.length (2 ^ ps.length - 1 ||| done):=ou (.right _ _) hv e (by rw[RE,QQ];simp [hv]);have:=xa ps.length (2 ^ ps.length - 1 ||| done);omega
 | succ k ih =>
  intro out done r h hc hcl hall;unfold iM at h;split at h
  ·cases h
  ·rename_i v hn;obtain⟨h1,h2,h3⟩:=xb hp hn;refine ih _ _ _ h ?_ ?_ ?_
   ·have:cM ps.length (done ||| 2 ^ v)=cM ps.length done+1:=by
     unfold cM;have:∀ l:List Nat,l.Nodup->v∈l->l.countP (fun i=>(done ||| 2 ^ v).testBit i)=l.countP (fun i=>done.testBit i)+1:=by
      intro l
      induction l with
      | nil=>intro _ h;cases h
      | cons x l ihl =>
       intro hnd hmem;obtain⟨g1,g2⟩:=Sk.1 hnd;rw[Qo,Qo];rcases List.mem_cons.1 hmem with rfl|hm2
       ·have:l.countP (fun i=>(done ||| 2 ^ v).testBit i)=l.countP (fun i=>done.testBit i):=Sv fun y hy=>by
         have:¬ v=y:=(by rintro rfl;exact g1 hy);simp [ij,this]
        rw[this];simp [ij,h2]
       ·have hx:¬ v=x:=(by rintro rfl;exact g1 hm2);rw[ihl g2 hm2];simp [ij,hx];omega
     exact this _ Sb (PU.2 h1)
    omega
   ·intro u hu hb;rw[ij,Rm,decide_eq_true_eq]at hb;rcases hb with hb|rfl
    ·exact(hcl u hu hb).trans (.left _ _)
    ·exact h3.trans (.left _ _)
   ·intro u hu hb;rw[ij,Rm,decide_eq_true_eq]at hb;rcases hb with hb|rfl
    ·exact hall u hu hb
    ·have:=tw hcl ps.length h3;rcases Qm ((fw ps (ps.getD v 0)).testBit v) with e|e
     ·have:=this v e;rw[h2]at this;cases this
     ·exact e
theorem NR {ps:List Nat}(hp:∀ p∈ps,p<2 ^ ps.length)(h64:ps.length<=64)(ha:kQ ps):∀ (k:Nat) (out:List Nat) (done:Nat),k+cM ps.length done=ps.length->∃ r,iM ps k out done=some r:=by
 have hp64:∀ p∈ps,p<2 ^ 64:=fun p h=>PE (hp p h) (PJ (by decide) h64);have hpd:∀ v,ps.getD v 0<2 ^ ps.length:=fun v=>by
  rw[Pz];cases h:ps[v]? with
  | none=>exact SB _
  | some p=>exact hp p (Pq h)
 intro k
 induction k with
 | zero=>exact fun out done _=>⟨out,rfl⟩
 | succ k ih =>
  intro out done hc;unfold iM;cases hn:jT ps done with
  | none =>
   exfalso;have hno:=NP hp64 hn
      -- every node that is left has a parent that is left
   have step:∀ m v,v<ps.length->done.testBit v=false->cM ps.length (fw ps (ps.getD v 0))<=m->False:=by
    intro m
    induction m with
    | zero =>
     intro v hv hd hm;obtain⟨i,h1,h2⟩:∃ i,(ps.getD v 0).testBit i=true/\done.testBit i=false:=by
      rcases hno v hv with h|h
      ·rw[hd]at h;cases h
      ·refine P5 fun hc=>h fun i hi=>?_;rcases Qm (done.testBit i) with e|e
       ·exact e
       ·exact absurd ⟨i,hi,e⟩ hc
     have:cM ps.length 0<cM ps.length (fw ps (ps.getD v 0)):=ou (fun j hj=>by rw[Qs]at hj;cases hj) (ot (hpd v) h1) (Qs i) (w9 ps _ _ i h1);omega
    | succ m ihm =>
     intro v hv hd hm;obtain⟨u,h1,h2⟩:∃ i,(ps.getD v 0).testBit i=true/\done.testBit i=false:=by
      rcases hno v hv with h|h
      ·rw[hd]at h;cases h
      ·refine P5 fun hc=>h fun i hi=>?_;rcases Qm (done.testBit i) with e|e
       ·exact e
       ·exact absurd ⟨i,hi,e⟩ hc
     have hu:=ot (hpd v) h1;have hcl:=NO hp (hpd v);have hin:(fw ps (ps.getD v 0)).testBit u=true:=w9 ps _ _ u h1;have hsub:Sub (fw ps (ps.getD u 0)) (fw ps (ps.getD v 0)):=tw hcl _ (hcl u hu hin);have:=ou hsub hu (ha u hu) hin;exact ihm u hu h2 (by omega)
   obtain⟨v,hv,hd⟩:∃ v,v<ps.length/\done.testBit v=false:=by
    refine P5 fun hno=>?_;have:cM ps.length done=ps.length:=by
     unfold cM
     conv=>rhs;rw[<- QO (n:=ps.length)]
     rw[RG];intro x hx;rcases Qm (done.testBit x) with e|e
     ·exact e
     ·exact absurd ⟨x,PU.1 hx,e⟩ hno
    omega
   exact step _ v hv hd (Nat.le_refl _)
  | some v =>
   obtain⟨h1,h2,h3⟩:=xb hp64 hn;refine ih _ _ ?_;have:cM ps.length (done ||| 2 ^ v)=cM ps.length done+1:=by
    unfold cM;have:∀ l:List Nat,l.Nodup->v∈l->l.countP (fun i=>(done ||| 2 ^ v).testBit i)=l.countP (fun i=>done.testBit i)+1:=by
     intro l
     induction l with
     | nil=>intro _ h;cases h
     | cons x l ihl =>
      intro hnd hmem;obtain⟨g1,g2⟩:=Sk.1 hnd;rw[Qo,Qo];rcases List.mem_cons.1 hmem with rfl|hm2
      ·have:l.countP (fun i=>(done ||| 2 ^ v).testBit i)=l.countP (fun i=>done.testBit i):=Sv fun y hy=>by
        have:¬ v=y:=(by rintro rfl;exact g1 hy);simp [ij,this]
       rw[this];simp [ij,h2]
      ·have hx:¬ v=x:=(by rintro rfl;exact g1 hm2);rw[ihl g2 hm2];simp [ij,hx];omega
    exact this _ Sb (PU.2 h1)
   omega
theorem BJ (n:Nat):cM n 0=0:=by
 unfold cM;rw[S2];intro x _;simp
theorem BK {ps:List Nat}(hp:∀ p∈ps,p<2 ^ ps.length)(h64:ps.length<=64):(el ps).isSome=true↔kQ ps:=by
 have hp64:∀ p∈ps,p<2 ^ 64:=fun p h=>PE (hp p h) (PJ (by decide) h64);constructor
 ·intro h;obtain⟨r,hr⟩:=P2.1 h;exact NQ hp64 _ _ _ r hr (by rw[BJ];omega) (fun v _ h=>by rw[Qs]at h;cases h) (fun v _ h=>by rw[Qs]at h;cases h)
 ·intro h;obtain⟨r,hr⟩:=NR hp h64 h ps.length [] 0 (by rw[BJ];omega);unfold el;rw[hr];rfl
end Go.Proofs
namespace Go.Hx
def cu (l:List Nat):AVal:=.vec l.length (l.map aV)
attribute [go_sem] aV cu
theorem aA.xm {S:Nat->Prop}{lo nx:Nat}{H:AHeap}{e:TypeId}{v:AVal}{l:List Nat}(h:aA lo H e v (l.map aV))(hS:∀ i,lo<=i->S i):Fz S H nx v (cu l):=by
 have:=h.fz (S:=S) (nx:=nx) (cs':=l.map aV) hS rfl fun i hi _=>by simp only[PB];exact .lit _
 rw[Px]at this;exact this
end Go.Hx
namespace Go.Proofs
open Go.Hx
theorem OF {H H':AHeap}{v:AVal}{l:List Nat}(x:Nat)(ov:Over H H')(h:aA H.next H' 45 v (l.map aV))(hl:l.length<2 ^ 40):
  ∃ v' H2,bC Try.prog (ext H' [.arr 0 45 [.lit (.int .u64 (x:Int))]]) (H'.next+1) 78 78 v (.own H'.next 0 0 1 1)=some (v',H2)/\Over H H2/\aA H.next H2 45 v' ((l++[x]).map aV)/\H'.next<=H2.next/\(∀ k,k<H'.next->(∀ g n,v≠.own k g 0 n 1)->H2.get k=H'.get k):=by
 obtain⟨v',H2,hA,hO,hn2,hp⟩:=jc (P:=Try.prog) (H:=H') (t:=78) (x:=aV x) (n:=H'.next+1) Try.underlying78 Try.Bp Try.Br rfl (by rw[Try.Bq,Px];omega) h ov.next rfl;simp only[aV]at hA;exact⟨v',H2,hA,my ov h hn2 hp,by rw[Qj];exact hO,hn2,hp⟩
theorem Cj (m v:Nat)(hm:m<2 ^ 64)(hv:v<2 ^ 62)(H:AHeap)(K:ARes->AHeap->Prop)(hK:K (.ret (.lit (.bool (m.testBit v)))) H):ab Try.prog G0 81 [aV m,aa v] H K:=by
 refine ab.aZ (n:=11) (rs:=[.tmp 4]) Try.func81 rfl rfl rfl (by decide) (by kernel_rfl) (by simp) ?_;have w1:=P8 (v:Int) (by omega);have s1:=fun t x y=>Ct (P:=Try.prog) (t:=t) (x:=x) (y:=y) (k':=.u64) (s:=v) hm;have s2:=fun t x y=>Cu (P:=Try.prog) (t:=t) (x:=x) (y:=y) (s:=v) hm;cases hb:m.testBit v
 ·rw[hb]at hK;simp only[go_sem,w1,s1,s2,hb];exact av.mk (Nat.le_refl _) hK
 ·rw[hb]at hK;simp only[go_sem,w1,s1,s2,hb];exact av.mk (Nat.le_refl _) hK
def bu (ns:List NodeP):List Nat:=ns.map fun x=>dH x.parents
theorem oF {ns:List NodeP}{k:Nat}{x:NodeP}(h:ns[k]?=some x):(bu ns)[k]?=some (dH x.parents):=by unfold bu;rw[List.getElem?_map,h];rfl
theorem OG (g:Int)(ns:List NodeP)(hl:(ns.length:Int)<2 ^ 39)(hp:∀ x∈ns,(x.parents.length:Int)<2 ^ 39/\∀ q∈x.parents,0<=q/\q<64)(H:AHeap)(K:ARes->AHeap->Prop)
  (hK:K (.ret (cu (bu ns))) H):ab Try.prog G0 34 [aG g ns] H K:=by
 refine ab.clo ⟨_,Try.func34,rfl,rfl⟩ fun hcl=>?_;refine ab.aZ (n:=43) (rs:=[.tmp 2]) Try.func34 rfl rfl rfl (by decide) (by kernel_rfl) (by simp) ?_;simp only[go_sem,aG,cf];obtain⟨H1,hH1⟩:∃ H1,H1=ext H [.arr 0 35 [.lit (.int .i64 g),.vec ns.length (aq ns)]]:=⟨_,rfl⟩
 have l1:H1.live H.next 0=some (35,[.lit (.int .i64 g),.vec ns.length (aq ns)]):=by rw[hH1];exact aj (cD ..)
 have n1:H1.next=H.next+1:=by rw[hH1];rfl
 have o1:Over H H1:=by rw[hH1];exact .ext _ _
 rw[<- hH1];refine W.aN 4398046511096 (by rfl) (fun ρ H'=>∃ k:Nat,ρ 4=aa k/\k<=ns.length/\ρ 1=.ptr H.next 0 0/\Over H1 H'/\aA H1.next H' 45 (ρ 3) (((bu ns).take k).map aV)) (fun ρ H=>ns.length - (iv (ρ 4)).toNat) ?_ ?_
 ·simp only[go_sem];exact⟨0,rfl,by omega,.refl _,.nil⟩
 rintro ρ H' ⟨k,h4,hk,h1,ov,h3⟩;refine W.vs ?_;have l2:=(ov.live (g:=0) (by omega:H.next<H1.next)).trans l1;by_cases hb:(k:Int)<ns.length
 ·obtain⟨x,hx⟩:=get_of_lt (l:=ns) (i:=k) (by omega);have hne:=fI hx;have e1:=kM hx;obtain⟨xl,xr⟩:=hp x (Pq hx);simp only[go_sem,h4,h1,l2,hb];refine W.aN 274877890656 (by rfl) (fun ρ' H2=>H2=H'/\∃ j:Nat,ρ' 6=aa j/\j<=x.parents.length/\ρ' 5=aV (dH (x.parents.take j))) (fun ρ' H=>x.parents.length - (iv (ρ' 6)).toNat) ?_ ?_
  ·simp only[go_sem];exact⟨0,rfl,by omega,rfl⟩
  rintro ρ' H2 ⟨rfl,j,h6,hj,h5⟩;refine W.vs ?_;by_cases hb2:(j:Int)<x.parents.length
  ·obtain⟨q,hq⟩:=get_of_lt (l:=x.parents) (i:=j) (by omega);obtain⟨q0,q1⟩:=xr q (Pq hq);obtain⟨u,rfl⟩:=PM q0;have hne2:=aL hq;have w1:=P8 (u:Int) (by omega);have w2:=Ps ((j:Int)+1) (by omega);have b1:dH (x.parents.take j)<2 ^ 64:=w6 fun p hp=>by have:=xr p (PW hp);omega
   have s1:=fun t x y=>xB (P:=Try.prog) (t:=t) (x:=x) (y:=y) (k':=.u64) (s:=u) (by omega);have s2:=fun t x y=>tO (P:=Try.prog) (t:=t) (x:=x) (y:=y) (b:=2 ^ u) b1 (RL (by decide) (by omega));simp only[go_sem,h4,h1,l2,hb,hne,e1,h6,h5,hb2,hq,hne2,w1,w2,s1,s2];exact⟨⟨j+1,by simp,by omega,by rw[aO hq,BE];rfl⟩,by omega⟩
  ·obtain⟨v',H3,hA,ov2,hO,hn2,_⟩:=OF (dH x.parents) ov h3 (by simp [bu];omega);have w1:=Ps ((k:Int)+1) (by omega);rw[Pw (by omega)]at h5;simp only[go_sem,h4,h1,l2,hb,hne,e1,h6,h5,hb2,w1,hA];refine⟨by have:=ov2.next;omega,⟨k+1,by simp,by omega,ov2,?_⟩,by omega⟩;rw[aO (oF hx)];exact hO
 ·simp only[go_sem,h4,h1,l2,hb];rw[Pw (by simp [bu];omega)]at h3;exact av.bq aK hcl (o1.trans ov) (h3.xm fun i hi=>by omega) hK
theorem Ck {ps:List Nat}(hp:∀ p∈ps,p<2 ^ 64)(l:List Nat):∀ s,s<2 ^ 64->l.foldl (eh ps) s<2 ^ 64:=by
 induction l with
 | nil=>exact fun s h=>h
 | cons v l ih =>
  intro s h;refine ih _ ?_;unfold eh;split
  ·refine Ss h ?_;rw[Pz];cases h:ps[v]? with
   | none=>decide
   | some p=>exact hp p (Pq h)
  ·exact h
theorem xo {ps:List Nat}(hp:∀ p∈ps,p<2 ^ 64){s:Nat}(hs:s<2 ^ 64):∀ k,dI ps k s<2 ^ 64
 | 0=>hs
 | k+1=>Ck hp _ _ (xo hp hs k)
theorem OH (ps:List Nat)(s:Nat)(hl:(ps.length:Int)<2 ^ 39)(hp:∀ p∈ps,p<2 ^ 64)(hs:s<2 ^ 64)(H:AHeap)(K:ARes->AHeap->Prop)(hK:K (.ret (aV (fw ps s))) H):ab Try.prog G0 82 [cu ps,aV s] H K:=by
 refine ab.aZ (n:=29) (rs:=[.tmp 4]) Try.func82 rfl rfl rfl (by decide) (by kernel_rfl) (by simp) ?_;simp only[go_sem];refine W.aN 268435426 (by rfl) (fun ρ H'=>H'=H/\∃ k:Nat,ρ 5=aa k/\k<=ps.length/\ρ 1=aV (dI ps k s)) (fun ρ H=>ps.length - (iv (ρ 5)).toNat) ?_ ?_
 ·simp only[go_sem];exact⟨0,rfl,by omega,rfl⟩
 rintro ρ H' ⟨rfl,k,h5,hk,h1⟩;refine W.vs ?_;by_cases hb:(k:Int)<ps.length
 ·simp only[go_sem,h5,hb];refine W.aN 268427330 (by rfl) (fun ρ' H2=>H2=H'/\∃ j:Nat,ρ' 6=aa j/\j<=ps.length/\ρ' 1=aV ((List.range j).foldl (eh ps) (dI ps k s))) (fun ρ' H=>ps.length - (iv (ρ' 6)).toNat) ?_ ?_
  ·simp only[go_sem,h1];exact⟨0,rfl,by omega,rfl⟩
  rintro ρ' H2 ⟨rfl,j,h6,hj,h1'⟩;refine W.vs ?_;by_cases hb2:(j:Int)<ps.length
  ·obtain⟨p,hpj⟩:=get_of_lt (l:=ps) (i:=j) (by omega);have hne:=aL hpj;have b1:=Ck hp (List.range j) _ (xo hp hs k);have w2:=Ps ((j:Int)+1) (by omega);have hst:(List.range (j+1)).foldl (eh ps) (dI ps k s)=eh ps ((List.range j).foldl (eh ps) (dI ps k s)) j:=(by rw[Qx,QP];rfl);have s2:=fun t x y=>tO (P:=Try.prog) (t:=t) (x:=x) (y:=y) b1 (hp p (Pq hpj));obtain⟨m,hm⟩:∃ m,m=(List.range j).foldl (eh ps) (dI ps k s):=⟨_,rfl⟩
   rw[<- hm]at b1 h1' hst s2;simp only[go_sem,h6,h1',hb2];refine az.clo (Cj m j b1 (by omega) _ _ ⟨trivial,?_⟩);cases hbit:m.testBit j
   ·simp only[go_sem,h6,h1',w2];exact⟨⟨j+1,by simp,by omega,by rw[hst];unfold eh;rw[hbit];rfl⟩,by omega⟩
   ·simp only[go_sem,h6,h1',w2,hb2,hpj,hne,s2];exact⟨⟨j+1,by simp,by omega,by rw[hst];unfold eh;rw[hbit,Pv rfl,bH hpj]⟩,by omega⟩
  ·have w2:=Ps ((k:Int)+1) (by omega);have ej:j=ps.length:=(by omega);subst ej;simp only[go_sem,h6,h1',hb2,h5,w2];exact⟨⟨k+1,by simp,by omega,rfl⟩,by omega⟩
 ·simp only[go_sem,h5,h1,hb];have ek:k=ps.length:=by omega
  subst ek;exact av.mk (Nat.le_refl _) hK
def qx (ps:List Nat):Bool:=(List.range ps.length).all fun v=>!(fw ps (ps.getD v 0)).testBit v
theorem tF (ps:List Nat):qx ps=true↔kQ ps:=by
 unfold qx kQ;simp only[PX,PU,R8]
theorem OI (ps:List Nat)(hl:(ps.length:Int)<2 ^ 39)(hp:∀ p∈ps,p<2 ^ 64)(H:AHeap)(K:ARes->AHeap->Prop)(hK:K (.ret (.lit (.bool (qx ps)))) H):ab Try.prog G0 61 [cu ps] H K:=by
 have no:¬ qx ps=true->av Try.prog G0 H K (.lit (.bool false)) H:=fun h=>av.mk (Nat.le_refl _) (by rw[Bool.eq_false_iff.2 h]at hK;exact hK);refine ab.aZ (n:=18) (rs:=[.tmp 2]) Try.func61 rfl rfl rfl (by decide) (by kernel_rfl) (by simp) ?_;simp only[go_sem];refine W.aN 262140 (by rfl) (fun ρ H'=>H'=H/\∃ k:Nat,ρ 3=aa k/\k<=ps.length/\∀ v,v<k->(fw ps (ps.getD v 0)).testBit v=false) (fun ρ H=>ps.length - (iv (ρ 3)).toNat) ?_ ?_
 ·simp only[go_sem];exact⟨0,rfl,by omega,fun v h=>absurd h (PL _)⟩
 rintro ρ H' ⟨rfl,k,h3,hk,ha⟩;refine W.vs ?_;by_cases hb:(k:Int)<ps.length
 ·obtain⟨p,hpk⟩:=get_of_lt (l:=ps) (i:=k) (by omega);have hne:=aL hpk;have hp1:=hp p (Pq hpk);simp only[go_sem,h3,hb,hpk,hne];refine az.clo (OH ps p hl hp hp1 _ _ ⟨trivial,?_⟩);simp only[go_sem,h3];refine az.clo (Cj (fw ps p) k (xo hp hp1 _) (by omega) _ _ ⟨trivial,?_⟩);have w2:=Ps ((k:Int)+1) (by omega);cases hbit:(fw ps p).testBit k
  ·simp only[go_sem,h3,w2];refine⟨⟨k+1,by simp,by omega,fun v hv=>?_⟩,by omega⟩;rcases PR v k with h|h
   ·exact ha v h
   ·obtain rfl:v=k:=(by omega);rw[bH hpk];exact hbit
  ·simp only[go_sem];refine no fun h=>?_;have:=(tF ps).1 h k (by omega);rw[bH hpk,hbit]at this;cases this
 ·simp only[go_sem,h3,hb];rw[(tF ps).2 fun v hv=>ha v (by omega)]at hK;exact av.mk (Nat.le_refl _) hK
def iQ (g card:Int)(r:List Int):Prop:=(r.length:Int)=card/\(∀ w∈r,0<=w/\w<=g)/\r.sum=g
def gp (g:Int)(ns:List NodeP)(x:NodeP):Prop:=(x.rows.length:Int)=au (bh ns x)/\∀ r∈x.rows,iQ g x.card r
structure NetOk (g:Int)(ns:List NodeP):Prop where
 g1:1<=g/\g<=60
 n1:1<=ns.length/\ns.length<=8
 node:∀ x∈ns,(1<=x.card/\x.card<=4)/\c9 x.parents ns.length
 size:au (ar ns)<=1024
 acyc:kQ (bu ns)
 rows:∀ x∈ns,gp g ns x
noncomputable def fy (g:Int)(ns:List NodeP):Bool:=@decide (NetOk g ns) (Classical.propDecidable _)
theorem xq {g:Int}{ns:List NodeP}(h:NetOk g ns):fy g ns=true:=by unfold fy;exact @decide_eq_true _ (Classical.propDecidable _) h
theorem Cl {g:Int}{ns:List NodeP}(h:¬ NetOk g ns):fy g ns=false:=by unfold fy;exact @decide_eq_false _ (Classical.propDecidable _) h
theorem Cm {g:Int}{ns:List NodeP}:fy g ns=true↔NetOk g ns:=by unfold fy;exact @decide_eq_true_iff _ (Classical.propDecidable _)
def fM (ns:List NodeP):Prop:=(ns.length:Int)<2 ^ 38/\∀ x∈ns,(x.parents.length:Int)<2 ^ 38/\(x.rows.length:Int)<2 ^ 38/\∀ r∈x.rows,(r.length:Int)<2 ^ 38
theorem mz {l:List Int}(h:l.length<=12)(h2:∀ x∈l,1<=x/\x<=4):dC l:=⟨h,fun x hx=>by have:=h2 x hx;omega⟩
theorem Cn {ns:List NodeP}{x:NodeP}(hin:im x.parents ns.length)(hc:∀ y∈ns,1<=y.card/\y.card<=4):∀ c∈bh ns x,1<=c/\c<=4:=fun c h=>by
 unfold bh bd at h;obtain⟨q,hq,rfl⟩:=PQ.1 h;obtain⟨j,rfl,y,hy⟩:=mm (l:=ns) (hin q hq).1 (hin q hq).2;rw[Int.toNat_natCast,bH (cQ hy)];exact hc y (Pq hy)
theorem tG {ns:List NodeP}{x:NodeP}(h8:ns.length<=8)(hp:c9 x.parents ns.length)(hc:∀ y∈ns,1<=y.card/\y.card<=4):dC (bh ns x):=by
 refine mz ?_ (Cn (fun q hq=>by have:=hp.2 q hq;omega) hc);rw[show (bh ns x).length=_ from iP _ _];have:=hp.len;omega
theorem tH {ns:List NodeP}{n:Nat}(h:∀ x∈ns,∀ q∈x.parents,0<=q/\q<(n:Int)):∀ p∈bu ns,p<2 ^ n:=fun p hp=>by
 obtain⟨x,hx,rfl⟩:=PQ.1 hp;exact w6 fun q hq=>by have:=h x hx q hq;omega
theorem tI (l:List Int)(x:Int):(l++[x]).sum=l.sum+x:=by simp
set_option maxHeartbeats 2000000 in
theorem OJ (g:Int)(ns:List NodeP)(hf:fM ns)(H:AHeap)(K:ARes->AHeap->Prop)(hK:K (.ret (.lit (.bool (fy g ns)))) H):ab Try.prog G0 30 [aG g ns] H K:=by
 refine ab.clo ⟨_,Try.func30,rfl,rfl⟩ fun hcl=>?_;have no:¬ NetOk g ns->∀ H',Over H H'->av Try.prog G0 H K (.lit (.bool false)) H':=fun h H' ov=>av.bq aK hcl ov (.lit _) (by rw[Cl h]at hK;exact hK);refine ab.aZ (n:=154) (rs:=[.tmp 2]) Try.func30 rfl rfl rfl (by decide) (by kernel_rfl) (by simp) ?_;simp only[go_sem,aG,cf];obtain⟨H1,hH1⟩:∃ H1,H1=ext H [.arr 0 35 [.lit (.int .i64 g),.vec ns.length (aq ns)]]:=⟨_,rfl⟩
 have l1:H1.live H.next 0=some (35,[.lit (.int .i64 g),.vec ns.length (aq ns)]):=by rw[hH1];exact aj (cD ..)
 have n1:H1.next=H.next+1:=by rw[hH1];rfl
 have o1:Over H H1:=by rw[hH1];exact .ext _ _
 rw[<- hH1];by_cases c1:g<1
 ·simp only[go_sem,c1];exact no (fun h=>by have:=h.g1;omega) _ o1
 by_cases c2:g > 60
 ·simp only[go_sem,l1,c1,c2];exact no (fun h=>by have:=h.g1;omega) _ o1
 by_cases c3:(ns.length:Int)<1
 ·simp only[go_sem,l1,c1,c2,c3];exact no (fun h=>by have:=h.n1;omega) _ o1
 by_cases c4:(ns.length:Int) > 8
 ·simp only[go_sem,l1,c1,c2,c3,c4];exact no (fun h=>by have:=h.n1;omega) _ o1
 simp only[go_sem,l1,c1,c2,c3,c4];refine W.aN 18446744071562068028 (by rfl) (fun ρ H'=>∃ k:Nat,ρ 4=aa k/\k<=ns.length/\Over H1 H'/\(∀ x∈ns.take k,(1<=x.card/\x.card<=4)/\c9 x.parents ns.length)/\ρ 3=aa (au ((ar ns).take k))) (fun ρ H=>ns.length - (iv (ρ 4)).toNat) ?_ ?_
 ·simp only[go_sem];exact⟨0,rfl,by omega,.refl _,by simp,by simp [eY]⟩
 ·rintro ρ H' ⟨k,h4,hk,ov,hall,h3⟩;refine W.vs ?_;have l2:=(ov.live (g:=0) (by omega:H.next<H1.next)).trans l1;have hlt:H.next<H'.next:=by have:=ov.next;omega
  have l3:∀ L,(ext H' L).live H.next 0=_:=fun L=>(dF hlt).trans l2;by_cases hb:(k:Int)<ns.length
  ·obtain⟨x,hx⟩:=get_of_lt (l:=ns) (i:=k) (by omega);have hxm:=Pq hx;have hne:=fI hx;have e0:=oo hx;have e1:k*3+3<=(aq ns).length:=(by rw[hU];omega);have nb:¬ H.next=H'.next:=(by omega);have ove:∀ L,Over H (ext H' L):=fun L=>(o1.trans ov).trans (.ext _ _);by_cases d1:x.card<1
   ·simp only[go_sem,h4,l2,hb,hne,e0,e1,d1];exact no (fun h=>by have:=(h.node x hxm).1;omega) _ (ove _)
   by_cases d2:x.card > 4
   ·simp only[go_sem,h4,l2,hb,hne,e0,e1,d1,d2];exact no (fun h=>by have:=(h.node x hxm).1;omega) _ (ove _)
   simp only[go_sem,h4,l2,l3,hb,hne,e0,e1,d1,d2];refine az.clo (OE x.parents ns.length (by have:=(hf.2 x hxm).1;omega) _ _ ⟨trivial,?_⟩);by_cases d3:c9 x.parents ns.length;rotate_left
   ·simp only[go_sem,d3];exact no (fun h=>d3 (h.node x hxm).2) _ (ove _)
   have hall':∀ y∈ns.take (k+1),(1<=y.card/\y.card<=4)/\c9 y.parents ns.length:=fun y hy=>by
    rw[aO hx]at hy;rcases PK.1 hy with hy|hy
    ·exact hall y hy
    ·obtain rfl:=List.mem_singleton.1 hy;exact⟨by omega,d3⟩
   have b1:dC ((ar ns).take (k+1)):=mz (by simp [ar];omega) fun c hc=>by
    rw[show (ar ns).take (k+1)=ar (ns.take (k+1)) by simp [ar]]at hc;obtain⟨y,hy,rfl⟩:=PQ.1 hc;exact(hall' y hy).1
   have b2:=b1.prod;rw[aO (cQ hx),fq]at b2;have w1:=Ps ((k:Int)+1) (by omega);have w2:=Ps (au ((ar ns).take k)*x.card) (by omega);simp only[go_sem,h4,h3,d3,w1,w2];exact⟨by have:=ov.next;omega,⟨k+1,by simp,by omega,ov.trans (.ext _ _),fun y hy=>hall' y hy,by rw[aO (cQ hx),fq]⟩,by omega⟩
  ·have ek:k=ns.length:=(by omega);subst ek;rw[Pw (Nat.le_refl _)]at hall;rw[Pw (by rw[bR];omega)]at h3;have hcards:∀ y∈ns,1<=y.card/\y.card<=4:=fun y hy=>(hall y hy).1;have ov0:=o1.trans ov;by_cases c5:au (ar ns) > 1024
   ·simp only[go_sem,h4,h3,l2,hb,c5];exact no (fun h=>by have:=h.size;omega) _ ov0
   simp only[go_sem,h4,h3,l2,hb,c5];have hpl:∀ x∈ns,(x.parents.length:Int)<2 ^ 39/\∀ q∈x.parents,0<=q/\q<64:=fun x hx=>⟨by have:=(hf.2 x hx).1;omega,fun q hq=>by have:=(hall x hx).2.2 q hq;omega⟩
   refine az.clo (OG g ns (by have:=hf.1;omega) hpl _ _ ⟨trivial,?_⟩);simp only[go_sem];refine az.clo (OI (bu ns) (by simp [bu];omega) (fun p hp=>PE (tH (n:=64) (fun x hx q hq=>by have:=(hpl x hx).2 q hq;omega) p hp) (Nat.le_refl _)) _ _ ⟨trivial,?_⟩);cases hac:qx (bu ns)
   ·simp only[go_sem];exact no (fun h=>by rw[(tF _).2 h.acyc]at hac;cases hac) _ ov0
   simp only[go_sem];refine W.aN 22835963083295358096932570788825439312478734276 (by rfl) (fun ρ' H2=>∃ k:Nat,ρ' 6=aa k/\k<=ns.length/\Over H' H2/\∀ x∈ns.take k,gp g ns x) (fun ρ' H=>ns.length - (iv (ρ' 6)).toNat) ?_ ?_
   ·simp only[go_sem];exact⟨0,rfl,by omega,.refl _,by simp⟩
   rintro ρ' H2 ⟨k,h6,hk,ov2',hrows⟩;have ov2:=ov.trans ov2';refine W.vs ?_;have l2:=(ov2.live (g:=0) (by omega:H.next<H1.next)).trans l1;have hlt:H.next<H2.next:=(by have:=ov2.next;omega);by_cases hb:(k:Int)<ns.length;rotate_left
   ·simp only[go_sem,h6,l2,hb];rw[Pw (by omega)]at hrows;rw[xq ⟨by omega,by omega,hall,by omega,(tF _).1 hac,hrows⟩]at hK;exact av.bq aK hcl (o1.trans ov2) (.lit _) hK
   obtain⟨x,hx⟩:=get_of_lt (l:=ns) (i:=k) (by omega);have hxm:=Pq hx;have hne:=fI hx;have e0:=oo hx;have e1:k*3+3<=(aq ns).length:=(by rw[hU];omega);obtain⟨x1,x2⟩:=hall x hxm;obtain⟨f1,f2,f3⟩:=hf.2 x hxm;have sm:=tG (by omega) x2 hcards;simp only[go_sem,h6,l2,hb,hne,e0,e1];obtain⟨H3,hH3⟩:∃ H3,H3=ext H2 [.arr 0 69 [.lit (.int .i64 x.card),.vec x.parents.length (ints x.parents),ay x.rows]]:=⟨_,rfl⟩
   have m1:H3.live H2.next 0=some (69,[.lit (.int .i64 x.card),.vec x.parents.length (ints x.parents),ay x.rows]):=(by rw[hH3];exact aj (cD ..));have m2:H3.live H.next 0=some (35,[.lit (.int .i64 g),.vec ns.length (aq ns)]):=(by rw[hH3,dF hlt];exact l2);have m3:H3.next=H2.next+1:=(by rw[hH3];rfl);have ov3:Over H1 H3:=(by rw[hH3];exact ov2.trans (.ext _ _));have ov4:Over H H3:=o1.trans ov3;rw[<- hH3];refine W.draw 7 [0,1,3,0,0,24,56] Try.mixed (by kernel_rfl) (by kernel_rfl) ?_;simp only[go_sem,h6,m1,m2,ay];refine⟨ae (bh ns x),[],cI.pure fun H2=>Ci g ns k x hx (by have:=hf.1;omega) (by omega) (fun q hq=>by have:=x2.2 q hq;omega) H2 _ ⟨rfl,rfl⟩,?_⟩;simp only[go_sem];refine⟨aa (au (bh ns x)),[],cI.pure fun H2=>xj (bh ns x) sm H2 _ ⟨rfl,rfl⟩,?_⟩;by_cases d1:(x.rows.length:Int)=au (bh ns x);rotate_left
   ·simp only[go_sem,d1];exact no (fun h=>d1 (h.rows x hxm).1) _ ov4
   simp only[go_sem,d1];refine W.aN 22835963083295358091980815354050401082527450884 (by rfl) (fun ρ2 H4=>H4=H3/\∃ j:Nat,ρ2 8=aa j/\j<=x.rows.length/\∀ r∈x.rows.take j,iQ g x.card r) (fun ρ2 H=>x.rows.length - (iv (ρ2 8)).toNat) ?_ ?_
   ·simp only[go_sem];exact⟨0,rfl,by omega,by simp⟩
   rintro ρ2 H4 ⟨rfl,j,h8,hj,hrj⟩;refine W.vs ?_;by_cases hb2:(j:Int)<x.rows.length;rotate_left
   ·have w1:=Ps ((k:Int)+1) (by omega);have hb2':¬ (j:Int)<au (bh ns x):=(by omega);simp only[go_sem,h6,h8,m1,hb2',d1,w1,ay];rw[Pw (by omega)]at hrj;refine⟨by have:=ov2'.next;omega,⟨k+1,by simp,by omega,by rw[hH3];exact ov2'.trans (.ext _ _),fun y hy=>?_⟩,by omega⟩;rw[aO hx]at hy;rcases PK.1 hy with hy|hy
    ·exact hrows y hy
    ·obtain rfl:=List.mem_singleton.1 hy;exact⟨d1,hrj⟩
   obtain⟨r,hr⟩:=get_of_lt (l:=x.rows) (i:=j) (by omega);have hrm:=Pq hr;have hrne:=aL hr;have hb2':(j:Int)<au (bh ns x):=(by omega);have nope:¬ iQ g x.card r->¬ NetOk g ns:=fun h h'=>h ((h'.rows x hxm).2 r hrm);simp only[go_sem,h8,m1,hb2',d1,ay];refine W.draw 8 [0,1,0,7,15,31,0,64] Try.mixed (by kernel_rfl) (by kernel_rfl) ?_;by_cases d2:(r.length:Int)=x.card;rotate_left
   ·simp only[go_sem,h8,m1,hb2',d1,d2,hr,hrne,ay];exact no (nope fun h=>d2 h.1) _ ov4
   simp only[go_sem,h8,m1,hb2',d1,d2,hr,hrne,ay];refine W.aN 1427247692705635362504627542722711980362171908 (by rfl) (fun ρ3 H5=>H5=H4/\∃ i:Nat,ρ3 10=aa i/\i<=r.length/\ρ3 9=aa (r.take i).sum/\∀ w∈r.take i,0<=w/\w<=g) (fun ρ3 H=>r.length - (iv (ρ3 10)).toNat) ?_ ?_
   ·simp only[go_sem];exact⟨0,rfl,by omega,by simp,by simp⟩
   rintro ρ3 H5 ⟨rfl,i,h10,hi,h9,hw⟩;refine W.vs ?_;have sb:0<=(r.take i).sum/\(r.take i).sum<=60*i:=by
    have key:∀ l:List Int,(∀ w∈l,0<=w/\w<=g)->0<=l.sum/\l.sum<=60*l.length:=by
     intro l
     induction l with
     | nil=>intro _;simp
     | cons a l ih =>
      intro h;have h1:=ih fun w hw=>h w (by simp [hw]);have h2:=h a (by simp);simp only[Qd,List.length_cons]
      push_cast
      omega
    have:=key _ hw;rw[PC,QR (by omega)]at this;exact this
   have r4:r.length<=4:=(by omega);by_cases hb3:(i:Int)<r.length<;>have hb3':=hb3<;>rw[d2]at hb3'
   rotate_left
   ·rw[Pw (by omega)]at h9 hw;by_cases d3:r.sum=g;rotate_left
    ·simp only[go_sem,h8,h9,h10,m1,m2,hb3',hr,hrne,hb2',d1,d2,d3,ay];exact no (nope fun h=>d3 h.2.2) _ ov4
    have w1:=Ps ((j:Int)+1) (by have:=(hf.2 x hxm).2.1;omega);simp only[go_sem,h8,h9,h10,m1,m2,hb3',hr,hrne,hb2',d1,d2,d3,w1,ay];refine⟨⟨j+1,by simp,by omega,fun y hy=>?_⟩,by omega⟩;rw[aO hr]at hy;rcases PK.1 hy with hy|hy
    ·exact hrj y hy
    ·obtain rfl:=List.mem_singleton.1 hy;exact⟨d2,hw,d3⟩
   obtain⟨a,ha⟩:=get_of_lt (l:=r) (i:=i) (by omega);have ham:=Pq ha;have hane:=aL ha;simp only[go_sem,h8,h10,m1,hr,hrne,hb2',hb3',d1,d2,ay];refine W.draw 20 [0,1,0,7,15,0,63,127,255,511,1023,2047,1023,8191,16383,1023,65535,131071,1023,263167] Try.mixed (by kernel_rfl) (by kernel_rfl) ?_;by_cases d3:a<0
   ·simp only[go_sem,h8,h10,m1,hr,hrne,hb2',hb3',ha,hane,d1,d2,d3,ay];exact no (nope fun h=>by have:=h.2.1 a ham;omega) _ ov4
   by_cases d4:a > g
   ·simp only[go_sem,h8,h10,m1,m2,hr,hrne,hb2',hb3',ha,hane,d1,d2,d3,d4,ay];exact no (nope fun h=>by have:=h.2.1 a ham;omega) _ ov4
   have w1:=Ps ((i:Int)+1) (by omega);have w2:=Ps ((r.take i).sum+a) (by omega);simp only[go_sem,h8,h9,h10,m1,m2,hr,hrne,hb2',hb3',ha,hane,d1,d2,d3,d4,w1,w2,ay];refine⟨⟨i+1,by simp,by omega,by rw[aO ha,tI],fun w hw'=>?_⟩,by omega⟩;rw[aO ha]at hw';rcases PK.1 hw' with hw'|hw'
   ·exact hw w hw'
   ·obtain rfl:=List.mem_singleton.1 hw';exact⟨by omega,by omega⟩
end Go.Proofs
namespace Go.Hx
variable {P:Program} {G:Nat->Option (List AVal)} {n:Nat} {rd:Option Nat} {Q:AX->St->Prop}
def Cx (P:Program)(G:Nat->Option (List AVal))(f:FuncId)(first cap:List AVal)(xs:List (List AVal))(S:AHeap->Prop):Prop :=
 ∀ (idy:Nat) (J:Nat->AHeap->Prop) (Stop:AHeap->Prop) (H:AHeap) (K:ARes->AHeap->Prop),
  (∀ k H1,J k H1->S H1)->J 0 H ->
  (∀ k x H1 K1,xs[k]?=some x->J k H1->H.next<=H1.next->(∀ H',J (k+1) H'->H1.next<=H'.next->K1 (.ret (.lit (.bool true))) H')->(∀ H',Stop H'->H1.next<=H'.next->K1 (.ret (.lit (.bool false))) H')->az P G (.yld idy) x H1 K1) ->
  (∀ H',J xs.length H'->H.next<=H'.next->K (.ret (.tup [])) H') ->
  (∀ H',Stop H'->H.next<=H'.next->K (.ret (.tup [])) H') ->
  ab P G f (first++[.yld idy]++cap) H K
def mA (idy:Nat)(B:Blk)(lo:Nat)(J:AHeap->Prop)(Stop:AX->AHeap->Prop):AX->St->Prop
 | .normal,s=>s.H.get idy=some B/\lo<=s.H.next/\J s.H
 | .ret,s=>s.H.get idy=some B/\lo<=s.H.next/\Stop .ret s.H
 | .exit i,s=>s.H.get idy=some B/\lo<=s.H.next/\Stop (.exit i) s.H
 | _,_=>False
def tP (P:Program)(G:Nat->Option (List AVal))(n idy:Nat)(B Bb:Blk)(lo:Nat)(body:Code)(J:AHeap->Prop)(Stop:AX->AHeap->Prop):AX->St->Prop
 | .normal,s=>s.H.get idy=some B/\W P G n (some idy) body (mA idy Bb lo J Stop) ⟨s.ρ,s.H.upd idy Bb⟩
 | _,_=>False
theorem W.Pf {g:Operand}{ps:Array Tmp}{asg body:Code}{ρ:Env}{H:AHeap}{f:FuncId}{first cap:List AVal}{xs:List (List AVal)}{S:AHeap->Prop}(hg:ah G ρ g=.clo f first cap)
  (hit:Cx P G f first cap xs S) (J:Nat->AHeap->Prop) (Stop:AX->AHeap->Prop) (hS:∀ k H1,J k H1->S H1)
  (hJu:∀ k H1 b,J k H1->J k (H1.upd H.next b)) (hSu:∀ c H1 b,Stop c H1->Stop c (H1.upd H.next b))
  (hJ0:∀ b,J 0 (ext H [b])) (hps:ps.toList.all (fun t=>decide (t<n))=true) (hxl:∀ x∈xs,x.length=ps.size)
  (hrd:∀ k H1,J k H1->dL H1 rd) (hrd2:∀ c H1,Stop c H1->dL H1 rd)
  (hround:∀ k x H1 B Bb,xs[k]?=some x->J k H1->H.next+1<=H1.next->H1.get H.next=some B->(∃ st pd n' en ps' as' bo,Bb=Blk.loop st pd n' en ps' as' bo) ->
   W P G n (some H.next) asg (tP P G n H.next B Bb H1.next body (J (k+1)) Stop) ⟨ki (eE ρ n) (ps.toList.zip x),H1⟩)
  (hend:∀ H',J xs.length H'->H.next+1<=H'.next->Q .normal ⟨ρ,H'⟩)
  (hret:∀ H',Stop .ret H'->H.next+1<=H'.next->Q .ret ⟨ρ,H'⟩) (hexit:∀ i H',Stop (.exit i) H'->H.next+1<=H'.next->Q (.exit i) ⟨ρ,H'⟩):
  W P G n rd (.rangeFunc g ps asg body) Q ⟨ρ,H⟩:=by
 refine W.rangeFunc (s:=⟨ρ,H⟩) hg ⟨_,q8 _ _,?_⟩;obtain⟨B,hB⟩:∃ B,B=Blk.loop .ready none n ρ ps asg body:=⟨_,rfl⟩
 obtain⟨Bb,hBb⟩:∃ B,B=Blk.loop .busy none n ρ ps asg body:=⟨_,rfl⟩
 have nx:(ext H [B]).next=H.next+1:=rfl;show ab P G f (first++[.yld H.next]++cap) (ext H [Blk.loop .ready none n ρ ps asg body]) (ru rd Q ρ H.next);rw[<- hB];refine hit H.next (fun k H1=>H1.get H.next=some B/\J k H1) (fun H1=>∃ c pend,H1.get H.next=some (.loop .done (some pend) n ρ ps asg body)/\Stop c H1/\((c=.ret/\pend=.ret)\/∃ i,c=.exit i/\pend=.exit i)) _ _
  (fun k H1 h=>hS k H1 h.2) ⟨cJ,hJ0 B⟩ (fun k x H1 K1 hx hj hn hgo hst=>?_) (fun H' hj hn=>?_) (fun H' hj hn=>?_)
 ·have hxm:=hxl x (Pq hx);refine az.yld (hj.1.trans (congrArg some hB)) hxm hps ?_;refine(hround k x H1 B Bb hx hj.2 hn hj.1 ⟨_,_,_,_,_,_,_,hBb⟩).mono fun e s1 h1=>?_;cases e with
  | normal =>
   obtain⟨a1,a2⟩:=h1;refine⟨Bb,by rw[a1,hB,hBb];rfl,?_⟩;refine a2.mono fun e2 s2 h2=>?_;cases e2 with
   | normal =>
    obtain⟨b1,b2,b3⟩:=h2;exact⟨B,by rw[b1,hB,hBb];rfl,hgo _ ⟨by rw[ag,Pv rfl],hJu _ _ _ b3⟩ b2⟩
   | ret =>
    obtain⟨b1,b2,b3⟩:=h2;exact⟨.loop .done (some .ret) n ρ ps asg body,by rw[b1,hBb];rfl,hst _ ⟨.ret,.ret,by rw[ag,Pv rfl],hSu _ _ _ b3,.inl ⟨rfl,rfl⟩⟩ b2⟩
   | exit i =>
    obtain⟨b1,b2,b3⟩:=h2;exact⟨.loop .done (some (.exit i)) n ρ ps asg body,by rw[b1,hBb];rfl,hst _ ⟨.exit i,.exit i,by rw[ag,Pv rfl],hSu _ _ _ b3,.inr ⟨i,rfl,rfl⟩⟩ b2⟩
   | _=>exact h2.elim
  | _=>exact h1.elim
 ·refine⟨hrd _ _ hj.2,(none,.loop .exhausted none n ρ ps asg body),by rw[hj.1,hB];rfl,?_⟩;exact hend _ (hJu _ _ _ hj.2) hn
 ·obtain⟨c,pend,h1,h2,h3⟩:=hj;refine⟨hrd2 _ _ h2,(some pend,.loop .exhausted (some pend) n ρ ps asg body),by rw[h1];rfl,?_⟩;rcases h3 with ⟨rfl,rfl⟩|⟨i,rfl,rfl⟩
  ·exact hret _ (hSu _ _ _ h2) hn
  ·exact hexit i _ (hSu _ _ _ h2) hn
end Go.Hx
namespace Go.Proofs
open Go.Hx
def qy (x:NodeP):AVal:=.agg [.lit (.int .i64 x.card),.vec x.parents.length (ints x.parents),ay x.rows]
def kY (rows:List (List Int)):List (List AVal):=rows.zipIdx.map fun p=>[aa p.2,ae p.1]
theorem Co {rows:List (List Int)}{k:Nat}{x:List AVal}(h:(kY rows)[k]?=some x):∃ r,rows[k]?=some r/\x=[aa k,ae r]:=by
 unfold kY at h;rw[List.getElem?_map,SW]at h;cases hr:rows[k]? with
 | none=>rw[hr]at h;simp at h
 | some r=>rw[hr]at h;simp at h;exact⟨r,rfl,h.symm⟩
theorem OK {rows:List (List Int)}{k:Nat}{r:List Int}(h:rows[k]?=some r):(kY rows)[k]?=some [aa k,ae r]:=by
 unfold kY;rw[List.getElem?_map,SW,h];simp
theorem Cp (rows:List (List Int)):(kY rows).length=rows.length:=by simp [kY]
theorem OL (x:NodeP)(hl:(x.rows.length:Int)<2 ^ 40)(b:Nat):Cx Try.prog G0 112 [] [.ptr b 0 0] (kY x.rows) (fun H=>H.get b=some (.arr 0 69 [.lit (.int .i64 x.card),.vec x.parents.length (ints x.parents),ay x.rows])):=by
 intro idy J Stop H K hS hJ0 hY hK hSt;have l0:=aj (hS 0 H hJ0);show ab _ _ _ ([.yld idy]++[.ptr b 0 0]) _ _;refine ab.aZ (n:=19) (rs:=[]) Try.func112 rfl rfl rfl (by decide) (by kernel_rfl) (by simp) ?_;simp only[go_sem,l0,ay];refine W.aN 524056 (by rfl) (fun ρ H'=>∃ k:Nat,ρ 8=aa k/\k<=x.rows.length/\J k H'/\H.next<=H'.next) (fun ρ H=>x.rows.length - (iv (ρ 8)).toNat) ?_ ?_
 ·simp only[go_sem];exact⟨0,rfl,by omega,hJ0⟩
 rintro ρ H' ⟨k,h8,hk,hj,hn⟩;refine W.vs ?_;by_cases hb:(k:Int)<x.rows.length
 ·obtain⟨r,hr⟩:=get_of_lt (l:=x.rows) (i:=k) (by omega);have hne:=aL hr;have w1:=Ps ((k:Int)+1) (by omega);simp only[go_sem,h8,hb,hr,hne];refine hY k [aa k,ae r] H' _ (OK hr) hj hn (fun H2 hj2 hn2=>⟨trivial,?_⟩) (fun H2 hs2 hn2=>⟨trivial,?_⟩)
  ·simp only[go_sem,h8,w1];exact⟨by omega,⟨k+1,by simp,by omega,hj2,by omega⟩,by omega⟩
  ·simp only[go_sem];exact av.mk (by omega) (hSt H2 hs2 (by omega))
 ·simp only[go_sem,h8,hb];have ek:k=(kY x.rows).length:=by rw[Cp];omega
  subst ek;exact av.mk (by omega) (hK H' hj hn)
theorem OM (x:NodeP)(H:AHeap)(K:ARes->AHeap->Prop)(hK:K (.ret (.clo 112 [] [.ptr H.next 0 0])) (ext H [.arr 0 69 [.lit (.int .i64 x.card),.vec x.parents.length (ints x.parents),ay x.rows]])):
  ab Try.prog G0 106 [qy x] H K:=by
 refine ab.aZ (n:=4) (rs:=[.tmp 2]) Try.func106 rfl rfl rfl (by decide) (by kernel_rfl) (by simp) ?_;simp only[go_sem,qy];exact av.mk (by simp [bb]) hK
theorem xt {l:List Int}{g:Int}(h:∀ w∈l,0<=w):0<=l.sum:=by
 induction l with
 | nil=>simp
 | cons a l ih =>
  have h1:=ih fun w hw=>h w (by simp [hw]);have h2:=h a (by simp);simp only[Qd];omega
theorem xu {l:List Int}(h:∀ w∈l,0<=w):∀ w∈l,w<=l.sum:=by
 induction l with
 | nil=>intro w hw;cases hw
 | cons a l ih =>
  intro w hw;have h1:=xt (g:=0) fun w hw=>h w (Qh a hw);have h2:=h a (by simp);simp only[Qd];rcases List.mem_cons.1 hw with rfl|hw
  ·omega
  ·have:=ih (fun w hw=>h w (by simp [hw])) w hw;omega
noncomputable def jz (g:Int)(ns:List NodeP)(x:NodeP):Bool:=@decide (gp g ns x) (Classical.propDecidable _)
theorem Cq {g:Int}{ns:List NodeP}{x:NodeP}(h:gp g ns x):jz g ns x=true:=by unfold jz;exact @decide_eq_true _ (Classical.propDecidable _) h
theorem ON {g:Int}{ns:List NodeP}{x:NodeP}(h:¬ gp g ns x):jz g ns x=false:=by unfold jz;exact @decide_eq_false _ (Classical.propDecidable _) h
theorem OO {g:Int}{ns:List NodeP}{x:NodeP}:jz g ns x=true↔gp g ns x:=by unfold jz;exact @decide_eq_true_iff _ (Classical.propDecidable _)
set_option maxHeartbeats 2000000 in
theorem OP (g:Int)(hg:1<=g/\g<=60)(ns:List NodeP)(sets:List Nat)(x:NodeP)(hin:im x.parents ns.length)(hsm:dC (bh ns x))(hx1:(x.rows.length:Int)<2 ^ 38)(hx2:∀ r∈x.rows,(r.length:Int)<2 ^ 38)(H:AHeap)(K:ARes->AHeap->Prop)
  (hK:K (.ret (.lit (.bool (jz g ns x)))) H):ab Try.prog G0 94 [.agg [.lit (.int .i64 g),cf ns,ae (ar ns),cu sets,.lit (.slice none 0 0)],qy x] H K:=by
 refine ab.clo ⟨_,Try.func94,rfl,rfl⟩ fun hcl=>?_;have l12:=hsm.1;have pl:(bh ns x).length=x.parents.length:=iP _ _;have no:¬ gp g ns x->∀ H',Over H H'->av Try.prog G0 H K (.lit (.bool false)) H':=fun h H' ov=>av.bq aK hcl ov (.lit _) (by rw[ON h]at hK;exact hK);refine ab.aZ (n:=66) (rs:=[.cell 4 4]) Try.func94 rfl rfl rfl (by decide) (by kernel_rfl) (by simp) ?_;simp only[go_sem,cf,qy];obtain⟨H1,hH1⟩:∃ H1,H1=ext H [.arr 0 145 [.lit (.int .i64 g),.vec ns.length (aq ns),.vec (ar ns).length (ints (ar ns)),.vec sets.length (sets.map aV),.lit (.slice none 0 0)],.arr 0 69 [.lit (.int .i64 x.card),.vec x.parents.length (ints x.parents),ay x.rows],.arr 0 4 [.lit (.bool false)]]:=⟨_,rfl⟩
 have l1:H1.live H.next 0=some (145,[.lit (.int .i64 g),.vec ns.length (aq ns),.vec (ar ns).length (ints (ar ns)),.vec sets.length (sets.map aV),.lit (.slice none 0 0)]):=by rw[hH1];exact aj (cD ..)
 have l2:H1.live (H.next+1) 0=some (69,[.lit (.int .i64 x.card),.vec x.parents.length (ints x.parents),ay x.rows]):=by rw[hH1];exact aj (aY H _ 1 (by simp))
 have g3:H1.get (H.next+2)=some (.arr 0 4 [.lit (.bool false)]):=by rw[hH1];exact aY H _ 2 (by simp)
 have n1:H1.next=H.next+3:=by rw[hH1];rfl
 have o1:Over H H1:=by rw[hH1];exact .ext _ _
 rw[<- hH1];refine W.aN 268370080 (by rfl) (fun ρ H'=>H'=H1/\∃ k:Nat,ρ 16=aa k/\k<=x.parents.length/\ρ 5=aa (au ((bh ns x).take k))) (fun ρ H=>x.parents.length - (iv (ρ 16)).toNat) ?_ ?_
 ·simp only[go_sem];exact⟨0,rfl,by omega,by simp [eY]⟩
 rintro ρ H' ⟨rfl,k,h16,hk,h5⟩;refine W.vs ?_;by_cases hb:(k:Int)<x.parents.length
 ·obtain⟨q,hq⟩:=get_of_lt (l:=x.parents) (i:=k) (by omega);obtain⟨j,rfl,y,hy⟩:=mm (l:=ns) (hin q (Pq hq)).1 (hin q (Pq hq)).2;have hne2:=aL hq;have hyc:=cQ hy;have hne3:=aL hyc;have hj:(j:Int)<(ar ns).length:=by have:=get_lt hyc;omega
  have pk:(bh ns x)[k]?=some y.card:=by
   rw[show (bh ns x)[k]?=_ from qw hq,Int.toNat_natCast,bH hyc]
  have b1:=(hsm.take (k+1)).prod;rw[aO pk,fq]at b1;have w1:=Ps ((k:Int)+1) (by omega);have w2:=Ps (au ((bh ns x).take k)*y.card) (by omega);simp only[go_sem,h16,h5,l1,hb,hq,hne2,hj,hyc,hne3,w1,w2];exact⟨⟨k+1,by simp,by omega,by rw[aO pk,fq]⟩,by omega⟩
 rw[Pw (by omega)]at h5;by_cases c1:(x.rows.length:Int)=au (bh ns x);rotate_left
 ·simp only[go_sem,h16,h5,l2,hb,c1,ay];have l3:=aj g3;simp only[go_sem,l3];exact no (fun h=>c1 h.1) _ (o1.upd (by omega) _)
 simp only[go_sem,h16,h5,l2,hb,c1,ay];refine az.clo (OM x _ _ ⟨trivial,?_⟩);simp only[go_sem];obtain⟨H2,hH2⟩:∃ H2,H2=ext H' [.arr 0 69 [.lit (.int .i64 x.card),.vec x.parents.length (ints x.parents),ay x.rows]]:=⟨_,rfl⟩
 rw[<- hH2];have o2:Over H' H2:=by rw[hH2];exact .ext _ _
 have n2:H2.next=H.next+4:=by rw[hH2,bb,n1];rfl
 have hbx:H2.get H'.next=some (.arr 0 69 [.lit (.int .i64 x.card),.vec x.parents.length (ints x.parents),ay x.rows]):=by rw[hH2];exact cJ
 refine W.env fun E hE=>?_;have e2:E 2=.ptr H.next 0 0:=by rw[hE];simp only[go_sem]
 have e3:E 3=.ptr (H.next+1) 0 0:=by rw[hE];simp only[go_sem]
 have e4:E 4=.ptr (H.next+2) 0 0:=by rw[hE];simp only[go_sem]
 have i1:H2.live H.next 0=some (145,[.lit (.int .i64 g),.vec ns.length (aq ns),.vec (ar ns).length (ints (ar ns)),.vec sets.length (sets.map aV),.lit (.slice none 0 0)]):=(o2.live (by omega)).trans l1;have i2:H2.live (H.next+1) 0=some (69,[.lit (.int .i64 x.card),.vec x.parents.length (ints x.parents),ay x.rows]):=(o2.live (by omega)).trans l2;have i3:H2.get (H.next+2)=some (.arr 0 4 [.lit (.bool false)]):=(o2.old _ (by omega)).trans g3;refine W.Pf (f:=112) (first:=[]) (cap:=[.ptr H'.next 0 0]) (by show E 34=_;rw[hE];rfl) (OL x (by omega) H'.next)
  (fun k Hx=>Over H2 Hx/\∀ r∈x.rows.take k,iQ g x.card r) (fun c Hx=>c=.ret/\Over H Hx/\H.next+4<=Hx.next/\Hx.get (H.next+2)=some (.arr 0 4 [.lit (.bool false)])/\¬ gp g ns x)
  (fun k Hx h=>by rw[h.1.old _ (by omega)];exact hbx) (fun k Hx b h=>⟨h.1.upd (Nat.le_refl _) b,h.2⟩) (fun c Hx b h=>⟨h.1,h.2.1.upd (by omega) b,h.2.2.1,by rw[ag,Pt (by omega)];exact h.2.2.2.1,h.2.2.2.2⟩)
  (fun b=>⟨.ext _ _,by simp⟩) (by decide) (fun y hy=>by
   obtain⟨k,hk⟩:=PT.1 hy;obtain⟨r,_,rfl⟩:=Co hk;rfl) (fun _ _ _=>trivial) (fun _ _ _=>trivial) (fun k y Hx B Bb hy hj hn hB hBb=>?_) (fun Hx hj hn=>?_) (fun Hx hs hn=>?_) (fun i Hx hs hn=>by cases hs.1)
 ·obtain⟨r,hr,rfl⟩:=Co hy;refine W.vs ?_;simp only[go_sem,ki,eE,tP,Rk,List.foldl_nil,RX,List.zip_nil_right,hB];obtain⟨H3,hH3⟩:∃ H3,H3=Hx.upd H2.next Bb:=⟨_,rfl⟩
  rw[<- hH3];obtain⟨st,pd,n',en,ps',as',bo,hBe⟩:=hBb;have o3:Over H2 H3:=by rw[hH3];exact hj.1.upd (Nat.le_refl _) Bb
  have o4:Over H H3:=(o1.trans o2).trans o3;have n3:H3.next=Hx.next:=by rw[hH3];rfl
  have j1:=(o3.live (g:=0) (by omega:H.next<H2.next)).trans i1;have j2:=(o3.live (g:=0) (by omega:H.next+1<H2.next)).trans i2;have j3:=(o3.old _ (by omega:H.next+2<H2.next)).trans i3;have j4:=aj j3;have jB:H3.get H2.next=some Bb:=by rw[hH3,ag,Pv rfl]
  have nB:¬ H2.next=H.next+2:=by omega
  have hrm:=Pq hr;have hrl:=hx2 r hrm;have nope:¬ iQ g x.card r->¬ gp g ns x:=fun h h'=>h (h'.2 r hrm);have stop:¬ iQ g x.card r->(H3.upd (H.next+2) (Blk.arr 0 4 [.lit (.bool false)])).get H2.next=some Bb/\Hx.next<=(H3.upd (H.next+2) (Blk.arr 0 4 [.lit (.bool false)])).next/\Over H (H3.upd (H.next+2) (Blk.arr 0 4 [.lit (.bool false)])) /\
    H.next+4<=(H3.upd (H.next+2) (Blk.arr 0 4 [.lit (.bool false)])).next/\(H3.upd (H.next+2) (Blk.arr 0 4 [.lit (.bool false)])).get (H.next+2)=some (.arr 0 4 [.lit (.bool false)])/\¬ gp g ns x:=fun h =>
   ⟨by rw[ag,Pt nB];exact jB,by rw[aC];omega,o4.upd (by omega) _,by rw[aC];omega,by rw[ag,Pv rfl],nope h⟩
  refine W.vs ?_;simp only[go_sem,eE,e2,j1];refine W.aN 144110790029349888 (by rfl) (fun ρ2 H4=>H4=H3/\∃ i:Nat,ρ2 42=aa i/\i<=r.length/\(∀ w∈r.take i,0<=w)/\(r.take i).sum<=g/\ρ2 10=aa (g - (r.take i).sum)) (fun ρ2 H=>r.length - (iv (ρ2 42)).toNat) ?_ ?_
  ·simp only[go_sem];exact⟨0,rfl,by omega,by simp,by simp;omega,by simp⟩
  rintro ρ2 H4 ⟨rfl,i,h42,hi,hw0,hws,h10⟩;refine W.vs ?_;have s0:=xt (g:=g) hw0;by_cases hb2:(i:Int)<r.length
  ·obtain⟨a,ha⟩:=get_of_lt (l:=r) (i:=i) (by omega);have ham:=Pq ha;have hane:=aL ha;by_cases d1:a<0
   ·simp only[go_sem,h42,hb2,ha,hane,d1,eE,e4,j4,mA];exact stop fun h=>by have:=h.2.1 a ham;omega
   by_cases d2:a > g - (r.take i).sum
   ·simp only[go_sem,h42,h10,hb2,ha,hane,d1,d2,eE,e4,j4,mA];refine stop fun h=>?_;have h1:r.sum=(r.take (i+1)).sum+(r.drop (i+1)).sum:=(by rw[<- Sj,PV]);rw[aO ha,tI]at h1;have h2:=xt (g:=g) (l:=r.drop (i+1)) fun w hw=>(h.2.1 w (QB hw)).1;have:=h.2.2;omega
   have w1:=Ps ((i:Int)+1) (by omega);have w2:=Ps (g - (r.take i).sum - a) (by omega);simp only[go_sem,h42,h10,hb2,ha,hane,d1,d2,w1,w2,eE];refine⟨⟨_,_,_,_,_,_,_,by rw[jB,hBe]⟩,⟨i+1,by simp,by omega,fun w hw=>?_,by rw[aO ha,tI];omega,?_⟩,by omega⟩
   ·rw[aO ha]at hw;rcases PK.1 hw with hw|hw
    ·exact hw0 w hw
    ·obtain rfl:=List.mem_singleton.1 hw;omega
   ·rw[aO ha,tI];show aa _=aa _;congr 1;omega
  ·rw[Pw (by omega)]at hw0 hws h10 s0;by_cases d1:(r.length:Int)=x.card;rotate_left
   ·simp only[go_sem,h42,hb2,d1,eE,e3,e4,j2,j4,mA];exact stop fun h=>d1 h.1
   have hb2':¬ (i:Int)<x.card:=(by omega);by_cases d2:g - r.sum=0;rotate_left
   ·simp only[go_sem,h42,h10,hb2',d1,d2,eE,e3,e4,j2,j4,mA];exact stop fun h=>by have:=h.2.2;omega
   simp only[go_sem,h42,h10,hb2',d1,d2,eE,e3,j2,mA];refine⟨jB,by omega,o3,fun y hy=>?_⟩;rw[aO hr]at hy;rcases PK.1 hy with hy|hy
   ·exact hj.2 y hy
   ·obtain rfl:=List.mem_singleton.1 hy;exact⟨d1,fun w hw=>⟨hw0 w hw,by have:=xu hw0 w hw;omega⟩,by omega⟩
 ·have hok:gp g ns x:=⟨c1,by
   have:=hj.2;rw[Cp,QH]at this;exact this⟩
  have j4:=aj ((hj.1.old _ (by omega:H.next+2<H2.next)).trans i3);rw[Cq hok]at hK;simp only[go_sem,e4,j4];exact av.bq aK hcl (((o1.trans o2).trans hj.1).upd (by omega) _) (.lit _) hK
 ·obtain⟨_,o4,n4,g4,hno⟩:=hs;have j4:=aj g4;simp only[go_sem,e4,j4];exact no hno _ o4
end Go.Proofs
namespace Go.Hx
theorem aA.tJ {lo:Nat}{H:AHeap}{e:TypeId}{v:AVal}{l:List Int}(h:aA lo H e v (ints l)):Fresh H v (ae l):=by
 rcases h with ⟨rfl,h⟩|⟨id,g,h1,h2,rfl,h4⟩
 ·have:l=[]:=by cases l with
   | nil=>rfl
   | cons a l=>simp [ints]at h
  subst this;exact .nil
 ·have e:ae l=.vec (ints l).length (ints l):=by rw[aS];rfl
  rw[e];refine .own h4 (by simp) fun j hj h2 h'=>?_;simp only[Nat.zero_add,ints,PB];exact .lit _
theorem Fz.qz {H:AHeap}{id g n nx:Nat}{e:TypeId}{cs:List AVal}(hg:H.get id=some (.arr g e cs))(hn:n=cs.length)(hl:∀ c∈cs,∃ v,c=.lit v):Fz (fun _=>True) H nx (.own id g 0 n 1) (.vec n cs):=by
 refine .frz trivial hg (by omega) fun j hj h2 h'=>?_;simp only[Nat.zero_add];obtain⟨v,hv⟩:=hl _ (Qe h');rw[hv];exact .lit _
end Go.Hx
namespace Go.Proofs
open Go.Hx
def fa (l:List Nat):List Int:=l.map fun (v:Nat)=>(v:Int)
theorem OQ {n j:Nat}{p:Nat->Bool}(hj:j<n)(h1:∀ v,v<j->p v=false)(h2:p j=true):(List.range n).find? p=some j:=by
 rw[List.find?_eq_some_iff_getElem];refine⟨h2,j,by simpa using hj,by simp,fun k hk=>?_⟩;simp only[List.getElem_range];simp [h1 k hk]
theorem OS {n:Nat}{p:Nat->Bool}(h1:∀ v,v<n->p v=false):(List.range n).find? p=none:=by
 rw[List.find?_eq_none];intro x hx;simp [h1 x (PU.1 hx)]
set_option maxHeartbeats 1000000 in
theorem OT (ps:List Nat)(hl:ps.length<=60)(hp:∀ p∈ps,p<2 ^ 64)(H:AHeap)(K:ARes->AHeap->Prop)
  (hK:∀ v H',Over H H'->(match el ps with|some o=>aA H.next H' 3 v (ints (fa o))|none=>v=.lit (.slice none 0 0))->K (.ret (.tup [v,.lit (.bool (el ps).isSome)])) H'):ab Try.prog G0 95 [cu ps] H K:=by
 have no:∀ H',el ps=none->Over H H'->av Try.prog G0 H K (.tup [.lit (.slice none 0 0),.lit (.bool false)]) H':=fun H' h ov=>av.mk ov.next (by
  have:=hK (.lit (.slice none 0 0)) H' ov;rw[h]at this;exact this rfl)
 refine ab.aZ (n:=44) (rs:=[.tmp 2,.tmp 3]) Try.func95 rfl rfl rfl (by decide) (by kernel_rfl) (by simp) ?_;simp only[go_sem];refine⟨by omega,?_⟩;refine W.aN 8796093020412 (by rfl) (fun ρ H'=>∃ (out:List Nat) (done:Nat),ρ 5=aV done/\done<2 ^ 64/\out.length<=ps.length/\H.next+1<=H'.next/\Over H H'/\aA H.next H' 3 (ρ 4) (ints (fa out))/\(∃ id g,ρ 4=.own id g 0 out.length 1)/\iM ps (ps.length - out.length) out done=el ps)
  (fun ρ H=>ps.length - (match ρ 4 with|.own _ _ _ n _=>n|_=>0)) ?_ ?_
 ·simp only[go_sem];exact⟨[],0,by simp,by decide,RO _,.ext _ _,.inr ⟨H.next,0,Nat.le_refl _,by simp [bb],rfl,cD H _ []⟩,⟨_,_,rfl⟩,rfl⟩
 rintro ρ H' ⟨out,done,h5,hd,ho,hn0,ov,h4,⟨id,gn,h4e⟩,ht⟩;refine W.vs ?_;have lv:H'.live id gn=some (3,ints (fa out)):=by
  rcases h4 with ⟨h,_⟩|⟨i,g,h1,h2,h3,h4⟩
  ·rw[h4e]at h;cases h
  ·rw[h4e]at h3;have:=AVal.own.inj h3;obtain⟨rfl,rfl,_⟩:=this;exact aj h4
 by_cases hb:(out.length:Int)<ps.length
 ·simp only[go_sem,h4e,lv,hb];have hk1:ps.length - out.length=(ps.length - (out.length+1))+1:=by omega
  refine W.aN 8796092760304 (by rfl) (fun ρ2 H2=>H2=H'/\∃ j:Nat,ρ2 18=aa j/\j<=ps.length/\ρ2 4=.own id gn 0 out.length 1/\ρ2 5=aV done/\∀ v,v<j->kS ps done v=false) (fun ρ2 H=>ps.length - (iv (ρ2 18)).toNat) ?_ ?_
  ·simp only[go_sem,h4e,h5];exact⟨0,rfl,by omega,fun v h=>absurd h (PL _)⟩
  rintro ρ2 H2 ⟨rfl,j,h18,hj,h4',h5',hno⟩;refine W.vs ?_;by_cases hb2:(j:Int)<ps.length
  ·obtain⟨p,hpj⟩:=get_of_lt (l:=ps) (i:=j) (by omega);have hp1:=hp p (Pq hpj);have hne:=aL hpj;have s1:=fun t x y=>Ct (P:=Try.prog) (t:=t) (x:=x) (y:=y) (k':=.i64) (s:=j) hd;have s2:=fun t x y=>Cu (P:=Try.prog) (t:=t) (x:=x) (y:=y) (s:=j) hd;have s3:=fun t x y=>O6 (P:=Try.prog) (t:=t) (x:=x) (y:=y) (a:=p) (b:=done);have w1:=Ps ((j:Int)+1) (by omega);have cont:kS ps done j=false->∀ v,v<j+1->kS ps done v=false:=fun h v hv=>by
    rcases PR v j with h'|h'
    ·exact hno v h'
    ·obtain rfl:v=j:=(by omega);exact h
   have fe:kS ps done j=(!done.testBit j && decide (iR p done=0)):=(by unfold kS;rw[bH hpj]);cases hbit:done.testBit j;rotate_left
   ·simp only[go_sem,h18,h4',h5',hb2,hpj,hne,s1,s2,hbit,w1];exact⟨⟨j+1,by simp,by omega,cont (by rw[fe,hbit];rfl)⟩,by omega⟩
   by_cases hz:iR p done=0;rotate_left
   ·have hz':¬ ((iR p done:Nat):Int)=0:=(by omega);simp only[go_sem,h18,h4',h5',hb2,hpj,hne,s1,s2,s3,hbit,hz',w1];exact⟨⟨j+1,by simp,by omega,cont (by rw[fe,hbit];simp [hz])⟩,by omega⟩
   have hz':((iR p done:Nat):Int)=0:=(by omega);have hnx:jT ps done=some j:=OQ (by omega) hno (by rw[fe,hbit];simp [hz]);obtain⟨v',H3,hA,ov2,hO,hn2,_⟩:=iS (j:Int) ov h4 (by simp [fa];omega);rw[h4e]at hA;have b2:(2:Nat) ^ j<2 ^ 64:=RL (by decide) (by omega);have s4:=fun t x y=>xB (P:=Try.prog) (t:=t) (x:=x) (y:=y) (k':=.i64) (s:=j) (by omega);have s5:=fun t x y=>tO (P:=Try.prog) (t:=t) (x:=x) (y:=y) hd b2;simp only[go_sem,h18,h4',h5',hb2,hpj,hne,s1,s2,s3,s4,s5,hbit,hz',hA];have hO':aA H.next H3 3 v' (ints (fa (out++[j]))):=by
    have e:fa (out++[j])=fa out++[(j:Int)]:=(by simp [fa]);rw[e];exact hO
   have hv':∃ id g,v'=.own id g 0 (out.length+1) 1:=by
    rcases hO' with ⟨_,h⟩|⟨i,g,_,_,h3,_⟩
    ·simp [ints,fa]at h
    ·exact⟨i,g,by rw[h3,aS];simp [fa]⟩
   obtain⟨i2,g2,rfl⟩:=hv';refine⟨by omega,⟨out++[j],done ||| 2 ^ j,rfl,Ss hd b2,by simp;omega,by omega,ov2,hO',⟨i2,g2,by simp⟩,?_⟩,by simp only;omega⟩;rw[<- ht,hk1]
   conv=>rhs;unfold iM
   rw[hnx];simp
  ·simp only[go_sem,h18,hb2];refine no _ ?_ ov;rw[<- ht,hk1];unfold iM;have:jT ps done=none:=OS fun v hv=>hno v (by omega);rw[this]
 ·simp only[go_sem,h4e,lv,hb];have hz:ps.length - out.length=0:=by omega
  rw[hz]at ht;have ht':el ps=some out:=ht.symm;have:=hK (.own id gn 0 out.length 1) H' ov;rw[ht']at this;refine av.mk ov.next (this ?_);rw[h4e]at h4;exact h4
theorem OU (ps:List Nat)(hl:ps.length<=60)(hp:∀ p∈ps,p<2 ^ 64)(H:AHeap)(v:AVal)(hv:Fz (fun _=>True) H 0 v (cu ps))(K:ARes->AHeap->Prop)
  (hK:K (.ret (.tup [ae (fa ((el ps).getD [])),.lit (.bool (el ps).isSome)])) H):ab Try.prog G0 95 [v] H K:=by
 refine(ab.frame (H:=H) (args:=[v]) (args':=[cu ps]) (v':=.tup [ae (fa ((el ps).getD [])),.lit (.bool (el ps).isSome)]) aK rfl (fun i hi _=>match i,hi with|0,_=>hv) (OT ps hl hp cF _ fun u H' ov hu=>⟨_,rfl,?_⟩)).mono ?_
 ·refine .tup rfl fun i hi _=>?_
  match i,hi with
  | 0,_ =>
   show Fresh H' u _;cases ht:el ps with
   | none=>rw[ht]at hu;simp only at hu;rw[hu];show Fresh H' _ (ae []);exact .nil
   | some o=>rw[ht]at hu;exact aA.tJ hu
  | 1,_=>exact .lit _
 ·rintro r H' ⟨rfl,rfl⟩;exact hK
end Go.Proofs
