/-
  Closed facts of this seat's types. Laid by a program of ours.
-/
import Derived.Test.YtebhdkihcdmmjaaGreatProg
import Derived.Test.YtebhdkihcdmmjaaGreatLibC
import Derived.Test.YtebhdkihcdmmjaaGreatLibB
set_option linter.all false
set_option maxHeartbeats 8000000
namespace Go.Proofs
open Go.Hx
variable {i z:Nat}{α:Type}
def Tryz.mixed:Tryz.prog.follows .mixedOrders=true:=aay
def Tryz.dY:Tryz.prog.cellsOf 3=1:=aay
def Tryz.eV:Tryz.prog.bytesOf 3=8:=aay
def Tryz.eh:bC Tryz.prog 3=some [.lit (.int .i64 0)]:=aay
def Tryz.DU:Tryz.prog.cellsOf 4=1:=aay
def Tryz.QE:bC Tryz.prog 4=some [.lit (.bool false)]:=aay
def Tryz.oC:Tryz.prog.cellsOf 5=1:=aay
def Tryz.QG:Tryz.prog.bytesOf 5=1:=aay
def Tryz.QH:bC Tryz.prog 5=some [.lit (.int .u8 0)]:=aay
def Tryz.DV:Tryz.prog.cellsOf 22=1:=aay
def Tryz.Ae:Tryz.prog.cellsOf 23=1:=aay
def Tryz.DW:Tryz.prog.cellsOf 25=3:=aay
def Tryz.QI:bD Tryz.prog 25 0=some (0,5):=aay
def Tryz.QJ:bD Tryz.prog 25 1=some (1,22):=aay
def Tryz.QK:bD Tryz.prog 25 2=some (2,23):=aay
def Tryz.DX:Tryz.prog.cellsOf 26=1:=aay
def Tryz.QL:Tryz.prog.cellsOf 28=6:=aay
def Tryz.QM:bD Tryz.prog 28 0=some (0,25):=aay
def Tryz.QN:bD Tryz.prog 28 1=some (3,5):=aay
def Tryz.QO:bD Tryz.prog 28 2=some (4,4):=aay
def Tryz.QP:bD Tryz.prog 28 3=some (5,26):=aay
def Tryz.DY:Tryz.prog.cellsOf 30=4:=aay
def Tryz.QQ:bC Tryz.prog 30=some [.lit (.int .u8 0),.lit (.int .u8 0),.lit (.int .u8 0),.lit (.int .i64 0)]:=aay
def Tryz.QR:jd Tryz.prog 30=some [(0,1),(1,1),(2,1),(3,1)]:=aay
def Tryz.QS:bD Tryz.prog 30 0=some (0,5):=aay
def Tryz.QT:bD Tryz.prog 30 1=some (1,5):=aay
def Tryz.QU:bD Tryz.prog 30 2=some (2,5):=aay
def Tryz.QV:bD Tryz.prog 30 3=some (3,3):=aay
def Tryz.QW:Tryz.prog.cellsOf 32=6:=aay
def Tryz.QX:bD Tryz.prog 32 0=some (0,5):=aay
def Tryz.QY:bD Tryz.prog 32 1=some (1,30):=aay
def Tryz.QZ:bD Tryz.prog 32 2=some (5,3):=aay
def Tryz.DZ:Tryz.prog.cellsOf 34=1:=aay
def Tryz.D0:Tryz.prog.bytesOf 34=8:=aay
def Tryz.D1:bC Tryz.prog 34=some [.lit (.int .u64 0)]:=aay
def Tryz.Q1:Tryz.prog.cellsOf 35=1:=aay
def Tryz.Q2:Tryz.prog.cellsOf 36=1:=aay
def Tryz.Q3:Tryz.prog.cellsOf 38=4:=aay
def Tryz.Q4:bC Tryz.prog 38=some [.lit (.int .i64 0),.lit (.slice none 0 0),.lit (.int .u64 0),.lit (.slice none 0 0)]:=aay
def Tryz.Q5:jd Tryz.prog 38=some [(0,1),(1,1),(2,1),(3,1)]:=aay
def Tryz.Q6:bD Tryz.prog 38 0=some (0,3):=aay
def Tryz.Q7:bD Tryz.prog 38 1=some (1,35):=aay
def Tryz.Q8:bD Tryz.prog 38 2=some (2,34):=aay
def Tryz.Q9:bD Tryz.prog 38 3=some (3,36):=aay
def Tryz.Ra:bC Tryz.prog 41=some [.lit (.int .i64 0),.lit (.slice none 0 0),.lit (.int .u64 0),.lit (.slice none 0 0),.lit (.int .i64 0),.lit (.slice none 0 0),.lit (.int .u64 0),.lit (.slice none 0 0),.lit (.int .i64 0),.lit (.slice none 0 0),.lit (.int .u64 0),.lit (.slice none 0 0)]:=aay
def Tryz.Rb:bC Tryz.prog 43=some [.lit (.int .i64 0),.lit (.int .i64 0)]:=aay
def Tryz.Rc:Tryz.prog.cellsOf 44=1:=aay
def Tryz.Rd:bC Tryz.prog 44=some [.lit (.int .i64 0)]:=aay
def Tryz.Re:bC Tryz.prog 49=some [.lit (.int .u64 0),.lit (.int .u64 0)]:=aay
def Tryz.Rf:Tryz.prog.cellsOf 58=2:=aay
def Tryz.Rg:bC Tryz.prog 58=some [.lit (.int .i64 0),.lit (.int .i64 0)]:=aay
def Tryz.mU:Tryz.prog.cellsOf 72=1:=aay
def Tryz.mV:Tryz.prog.bytesOf 72=24:=aay
def Tryz.mW:bC Tryz.prog 72=some [.lit (.slice none 0 0)]:=aay
def Tryz.Rh:Tryz.prog.cellsOf 74=1:=aay
def Tryz.oD:Tryz.prog.cellsOf 76=3:=aay
def Tryz.oE:Tryz.prog.bytesOf 76=56:=aay
def Tryz.oF:bC Tryz.prog 76=some [.lit (.int .i64 0),.lit (.slice none 0 0),.lit (.slice none 0 0)]:=aay
def Tryz.Ri:jd Tryz.prog 76=some [(0,1),(1,1),(2,1)]:=aay
def Tryz.Rj:bD Tryz.prog 76 0=some (0,3):=aay
def Tryz.Rk:bD Tryz.prog 76 1=some (1,72):=aay
def Tryz.Rl:bD Tryz.prog 76 2=some (2,74):=aay
def Tryz.vJ:Tryz.prog.cellsOf 87=2:=aay
def Tryz.vK:Tryz.prog.bytesOf 87=48:=aay
def Tryz.vL:bC Tryz.prog 87=some [.lit (.slice none 0 0),.lit (.slice none 0 0)]:=aay
def Tryz.Rm:jd Tryz.prog 87=some [(0,1),(1,1)]:=aay
def Tryz.Ro:bD Tryz.prog 87 0=some (0,72):=aay
def Tryz.Rp:bD Tryz.prog 87 1=some (1,72):=aay
def Tryz.Rq:Tryz.prog.cellsOf 90=2:=aay
def Tryz.Rr:bC Tryz.prog 90=some [.lit (.int .i64 0),.lit (.slice none 0 0)]:=aay
def Tryz.Rs:jd Tryz.prog 90=some [(0,1),(1,1)]:=aay
def Tryz.Rt:bD Tryz.prog 90 0=some (0,3):=aay
def Tryz.Ru:bD Tryz.prog 90 1=some (1,35):=aay
def Tryz.Rv:Tryz.prog.cellsOf 93=1:=aay
def Tryz.D2:Tryz.prog.cellsOf 96=1:=aay
def Tryz.D3:Tryz.prog.cellsOf 98=2:=aay
def Tryz.Rw:bD Tryz.prog 98 0=some (0,5):=aay
def Tryz.Rx:bD Tryz.prog 98 1=some (1,96):=aay
def Tryz.Ry:Tryz.prog.cellsOf 101=1:=aay
def Tryz.Rz:Tryz.prog.cellsOf 145=3:=aay
def Tryz.RA:bC Tryz.prog 145=some [.lit (.slice none 0 0),.lit (.int .u16 0),.lit (.slice none 0 0)]:=aay
def Tryz.RB:jd Tryz.prog 145=some [(0,1),(1,1),(2,1)]:=aay
def Tryz.RC:bD Tryz.prog 145 0=some (0,23):=aay
def Tryz.RD:bD Tryz.prog 145 2=some (2,23):=aay
def Tryz.D4:Tryz.prog.cellsOf 148=3:=aay
def Tryz.RE:bC Tryz.prog 148=some [.lit (.int .u8 0),.lit (.int .u8 0),.lit (.slice none 0 0)]:=aay
def Tryz.RF:bD Tryz.prog 148 0=some (0,5):=aay
def Tryz.RG:bD Tryz.prog 148 1=some (1,5):=aay
def Tryz.RH:bD Tryz.prog 148 2=some (2,23):=aay
def Tryz.D5:Tryz.prog.cellsOf 153=1:=aay
def Tryz.RI:bC Tryz.prog 157=some [.lit (.int .i64 0),.lit (.slice none 0 0),.lit (.int .u64 0),.lit (.slice none 0 0),.lit (.slice none 0 0),.lit (.int .i64 0)]:=aay
def Tryz.RJ:jd Tryz.prog 157=some [(0,4),(4,1),(5,1)]:=aay
def Tryz.RK:bD Tryz.prog 157 0=some (0,38):=aay
def Tryz.RL:bD Tryz.prog 157 1=some (4,72):=aay
def Tryz.RM:bD Tryz.prog 157 2=some (5,3):=aay
def Tryz.RN:Tryz.prog.cellsOf 180=1:=aay
def Tryz.RO:Tryz.prog.cellsOf 197=1:=aay
def Tryz.RP:bC Tryz.prog 197=some [.lit .nilFunc]:=aay
def Tryz.RQ:Tryz.prog.cellsOf 214=5:=aay
def Tryz.RS:bC Tryz.prog 214=some [.lit (.int .i64 0),.lit (.slice none 0 0),.lit (.slice none 0 0),.lit (.slice none 0 0),.lit (.slice none 0 0)]:=aay
def Tryz.RT:jd Tryz.prog 214=some [(0,2),(2,1),(3,1),(4,1)]:=aay
def Tryz.RU:bD Tryz.prog 214 0=some (0,90):=aay
def Tryz.RV:bD Tryz.prog 214 1=some (2,72):=aay
def Tryz.RW:bD Tryz.prog 214 2=some (3,93):=aay
theorem Tryz.RX:bD Tryz.prog 214 3=some (4,72):=aay
attribute [go_sem] Tryz.underlying3 Tryz.dY Tryz.eV Tryz.eh Tryz.underlying4 Tryz.DU Tryz.QE Tryz.underlying5 Tryz.oC Tryz.QG Tryz.QH
attribute [go_sem] Tryz.underlying9 Tryz.underlying20 Tryz.underlying22 Tryz.DV
attribute [go_sem] Tryz.underlying23 Tryz.Ae Tryz.underlying24
attribute [go_sem] Tryz.underlying25 Tryz.DW Tryz.QI Tryz.QJ Tryz.QK Tryz.underlying26 Tryz.DX
attribute [go_sem] Tryz.underlying27 Tryz.underlying28 Tryz.QL
attribute [go_sem] Tryz.QM Tryz.QN Tryz.QO Tryz.QP Tryz.underlying29
attribute [go_sem] Tryz.underlying30 Tryz.DY Tryz.QQ Tryz.QR Tryz.QS Tryz.QT Tryz.QU Tryz.QV
attribute [go_sem] Tryz.underlying31 Tryz.underlying32 Tryz.QW
attribute [go_sem] Tryz.QX Tryz.QY Tryz.QZ Tryz.underlying33 Tryz.underlying34 Tryz.DZ Tryz.D0 Tryz.D1
attribute [go_sem] Tryz.underlying35 Tryz.Q1 Tryz.underlying36 Tryz.Q2 Tryz.underlying37
attribute [go_sem] Tryz.underlying38 Tryz.Q3 Tryz.Q4 Tryz.Q5 Tryz.Q6 Tryz.Q7
attribute [go_sem] Tryz.Q8 Tryz.Q9 Tryz.underlying41 Tryz.Ra Tryz.underlying43 Tryz.Rb Tryz.underlying44 Tryz.Rc
attribute [go_sem] Tryz.Rd Tryz.underlying49 Tryz.Re Tryz.underlying56 Tryz.underlying57
attribute [go_sem] Tryz.underlying58 Tryz.Rf Tryz.Rg
attribute [go_sem] Tryz.underlying63 Tryz.underlying65 Tryz.underlying68
attribute [go_sem] Tryz.underlying72 Tryz.mU Tryz.mV Tryz.mW Tryz.underlying74 Tryz.Rh Tryz.underlying75
attribute [go_sem] Tryz.underlying76 Tryz.oD Tryz.oE Tryz.oF Tryz.Ri Tryz.Rj Tryz.Rk Tryz.Rl
attribute [go_sem] Tryz.underlying86 Tryz.underlying87 Tryz.vJ Tryz.vK Tryz.vL Tryz.Rm
attribute [go_sem] Tryz.Ro Tryz.Rp Tryz.underlying89 Tryz.underlying90 Tryz.Rq
attribute [go_sem] Tryz.Rr Tryz.Rs Tryz.Rt Tryz.Ru Tryz.underlying93 Tryz.Rv Tryz.underlying96 Tryz.D2
attribute [go_sem] Tryz.underlying97 Tryz.underlying98 Tryz.D3
attribute [go_sem] Tryz.Rw Tryz.Rx Tryz.underlying101 Tryz.Ry Tryz.underlying122 Tryz.underlying134
attribute [go_sem] Tryz.underlying140 Tryz.underlying142 Tryz.underlying143
attribute [go_sem] Tryz.underlying144 Tryz.underlying145 Tryz.Rz
attribute [go_sem] Tryz.RA Tryz.RB Tryz.RC Tryz.RD Tryz.underlying147
attribute [go_sem] Tryz.underlying148 Tryz.D4 Tryz.RE Tryz.RF Tryz.RG Tryz.RH Tryz.underlying153 Tryz.D5
attribute [go_sem] Tryz.underlying156 Tryz.underlying157
attribute [go_sem] Tryz.RI Tryz.RJ Tryz.RK Tryz.RL Tryz.RM Tryz.underlying172 Tryz.underlying173
attribute [go_sem] Tryz.underlying180 Tryz.RN Tryz.underlying182 Tryz.underlying183
attribute [go_sem] Tryz.underlying184
attribute [go_sem] Tryz.underlying187 Tryz.underlying188
attribute [go_sem] Tryz.underlying190
attribute [go_sem] Tryz.underlying191
attribute [go_sem] Tryz.underlying193 Tryz.underlying197 Tryz.RO Tryz.RP Tryz.underlying203
attribute [go_sem] Tryz.underlying213 Tryz.underlying214
attribute [go_sem] Tryz.RQ Tryz.RS Tryz.RT Tryz.RU Tryz.RV Tryz.RW Tryz.RX Tryz.underlying228
attribute [go_sem] Tryz.underlying239 Tryz.underlying247 Tryz.underlying254
attribute [go_sem] Tryz.underlying255 Tryz.underlying260 Tryz.underlying261
def aD (l:List (List Int)):nnn:=.L l.length (l.map ah)
structure nna where
 Q:Int
 J:List Int
 X:List (List Int)
structure nni where
 vars:List Int
 w:List Int
def nna.cells (x:nna):List nnn:=[aa x.Q,ah x.J,aD x.X]
def nni.cells (x:nni):List nnn:=[ah x.vars,ah x.w]
def aG (l:List nna):List nnn:=(l.map nna.cells).flatten
def aH (l:List nni):List nnn:=(l.map nni.cells).flatten
def di (l:List nna):nnn:=.L l.length (aG l)
def vT (l:List nni):nnn:=.L l.length (aH l)
def bS (g:Int)(l:List nna):nnn:=.agg [aa g,di l]
structure nnb where
 nn:Int
 F:List nna
 nl:Nat
 V:List nni
def cM (d:nnb):nnn:=.agg [aa d.nn,di d.F,.lit (.int .u64 (d.nl:Int)),vT d.V]
def iO {f:α->List nnn}(hz:∀a,(f a).length=z):∀(l:List α) (i j:Nat) (a:α),l[i]?=some a->j<z->((l.map f).flatten)[i*z+j]?=(f a)[j]?:=by
 intro l
 induction l with
 |nil=>intro i j a h;simp at h
 |cons x l ih =>
  intro i j a h hj;simp only[List.map_cons,List.flatten_cons];cases i with
  |zero =>
   simp only[List.getElem?_cons_zero,Option.some.injEq]at h;subst h;rw[Y1,Nat.zero_add,Xe (by rw[hz];exact hj)]
  |succ i =>
   have:(i+1)*z+j=z+(i*z+j):=(by rw[Yz];omega);rw[this,Xp (by rw[hz];omega),hz];have:z+(i*z+j)-z=i*z+j:=U;rw[this];exact ih i j a (by simpa using h) hj
def kU {f:α->List nnn}(hz:∀a,(f a).length=z)(l:List α):((l.map f).flatten).length=l.length*z:=by
 induction l with
 |nil=>simp
 |cons x l ih=>simp only[List.map_cons,List.flatten_cons,List.length_append,ih,hz,List.length_cons];rw[Yz];omega
def nf {f:α->List nnn}(hz:∀a,(f a).length=z):∀(l:List α) (i:Nat) (a:α),l[i]?=some a->(((l.map f).flatten).drop (i*z)).take z=f a:=by
 intro l i a h;apply XQ;intro j;by_cases hj:j<z
 ·rw[XC hj,YS,iO hz l i j a h hj]
 ·rw[Xf (by simp;omega),Xf (by rw[hz];omega)]
def fJ (l:List nna):(aG l).length=l.length*3:=kU (f:=nna.cells) (fun _=>rfl) l
variable {l:List nna}{x:nna}
def lY (h:l[i]?=some x):(aG l)[i*3]?=some (aa x.Q):=iO (f:=nna.cells) (z:=3) (fun _=>rfl) l i 0 x h (U)
def jW (h:l[i]?=some x):(aG l)[i*3+1]?=some (ah x.J):=iO (f:=nna.cells) (z:=3) (fun _=>rfl) l i 1 x h (U)
def vU (h:l[i]?=some x):(aG l)[i*3+2]?=some (aD x.X):=iO (f:=nna.cells) (z:=3) (fun _=>rfl) l i 2 x h (U)
def lZ (h:l[i]?=some x):((aG l).drop (i*3)).take 3=[aa x.Q,ah x.J,aD x.X]:=nf (f:=nna.cells) (z:=3) (fun _=>rfl) l i x h
def eC (h:l[i]?=some x):¬aG l=[]:=fun e=>by
 have:=lY h;rw[e]at this;simp at this
def kV (l:List nni):(aH l).length=l.length*2:=kU (f:=nni.cells) (fun _=>rfl) l
def Ar {l:List nni}{x:nni}(h:l[i]?=some x):(aH l)[i*2]?=some (ah x.vars):=iO (f:=nni.cells) (z:=2) (fun _=>rfl) l i 0 x h (U)
def EI {l:List nni}{x:nni}(h:l[i]?=some x):(aH l)[i*2+1]?=some (ah x.w):=iO (f:=nni.cells) (z:=2) (fun _=>rfl) l i 1 x h (U)
def vV {l:List nni}{x:nni}(h:l[i]?=some x):((aH l).drop (i*2)).take 2=[ah x.vars,ah x.w]:=nf (f:=nni.cells) (z:=2) (fun _=>rfl) l i x h
def qR {l:List nni}{x:nni}(h:l[i]?=some x):¬aH l=[]:=fun e=>by
 have:=Ar h;rw[e]at this;simp at this
def get_lt {l:List α}{x:α}(h:l[i]?=some x):i<l.length:=by
 rcases Xu i l.length with h'|h'
 ·exact h'
 ·rw[Xf h']at h;cases h
def get_of_lt {l:List α}(h:i<l.length):∃x,l[i]?=some x:=⟨_,W5 h⟩
def oK {l:List α}{i:Int}(h0:0<=i)(h:i<l.length):∃k:Nat,i=k/\∃x,l[k]?=some x:=⟨i.toNat,U,get_of_lt U⟩
def aL (l:List Int):Int:=l.foldl (·*·) 1
def EJ (l:List Int)(a:Int):l.foldl (·*·) a=a*aL l:=by
 unfold aL
 induction l generalizing a with
 |nil=>simp
 |cons x l ih=>simp only[Ys];rw[ih,ih (1*x),aac,Int.mul_assoc]
def l9:aL []=1:=rfl
def qS (x:Int)(l:List Int):aL (x :: l)=x*aL l:=by
 show List.foldl _ (1*x) l=_;rw[EJ,aac]
def As (l l':List Int):aL (l++l')=aL l*aL l':=by
 unfold aL;rw[Yn,EJ];rfl
def gX (l:List Int)(x:Int):aL (l++[x])=aL l*x:=by rw[As,qS,l9,aav]
def aQ {l:List α}{k:Nat}{x:α}(h:l[k]?=some x):l.take (k+1)=l.take k++[x]:=by
 rw[List.take_add_one,h];rfl
def jX {l:List Int}(h:∀x∈l,1<=x):1<=aL l:=by
 induction l with
 |nil=>decide
 |cons x l ih =>
  rw[qS];have h1:=ih fun y hy=>h y (by simp[hy]);have h2:=h x aaw;have:=Yx h2 h1 U U;simpa using this
def At {b:Int}{l:List Int}(hb:0<=b)(h:∀x∈l,0<=x/\x<=b):0<=aL l/\aL l<=b ^ l.length:=by
 induction l with
 |nil=>exact⟨aax,by simp[aL]⟩
 |cons x l ih =>
  rw[qS];have h1:=ih fun y hy=>h y (by simp[hy]);have h2:=h x aaw;refine⟨Ze h2.1 h1.1,?_⟩;have:=Yx h2.2 h1.2 h1.1 hb;rw[List.length_cons,Int.pow_succ,Z6 (b ^ l.length)];exact this
def aE (l:List nna):List Int:=l.map (·.Q)
def bb (l places:List Int):List Int:=places.map fun p=>l.getD p.toNat 0
def bB (places:List Int)(n:Int):Prop:=places.Pairwise (·<·)/\∀p∈places,0<=p/\p<n
end Go.Proofs
set_option maxRecDepth 100000
namespace Go.Proofs
open Go.Hx
def G0:Nat->Option (List nnn):=mQ
def aO:dS G0:=vA
end Go.Proofs
namespace Go.Hx
variable {P:Program} {G:Nat->Option (List nnn)} {Γ Γ':aA} {H H':nnl} {w w':World}
variable {Q:AX->St->Prop}{c:Code}{ρ:Env}{n:Nat}{rd:Option Nat}
def W.env {H:nnl}(h:∀E,E=ρ->W P G n rd c Q ⟨E,H⟩):W P G n rd c Q ⟨ρ,H⟩:=h ρ rfl
def W.en {H:nnl}(p:Env->Prop)(hp:p ρ)(h:∀E,p E->W P G n rd c Q ⟨E,H⟩):W P G n rd c Q ⟨ρ,H⟩:=h ρ hp
def Below.mono {m:Nat}{v:nnn}(h:Below n v)(hm:n<=m):Below m v:=by
 induction h with
 |lit v=>exact .lit v
 |L h ih=>exact .L ih
 |ni h ih=>exact .ni ih
 |agg h ih=>exact .agg ih
 |nc h ih=>exact .nc ih
 |nb h1 h2 ih1 ih2=>exact .nb ih1 ih2
 |Z h=>exact .Z (U)
 |Y h=>exact .Y (U)
 |nk h=>exact .nk (U)
def dQ {l:List nnn}{i:Nat}{x:nnn}(h:i<l.length):setAt l i [x]=l.set i x:=by
 unfold setAt;rw[ZT,W8 h];simp
section
variable {t:TypeId} {x y:Operand} {k k':IntKind} {a b:Int}
def wZ (hb:0<=b):bq P .shr t x y (.lit (.int k a)) (.lit (.int k' b))=some (.lit (.int k (a.fdiv (2 ^ (min b.toNat k.bits))))):=by
 have h:¬b<0:=U
 simp[bq,nnn.bZ,eqGuard,binOp,Op.shift,h,cE,bind,Sem.bind,pure]
def A8 (hb:0<=b):bq P .shl t x y (.lit (.int k a)) (.lit (.int k' b))=some (.lit (.int k (k.wrap (a*2 ^ (min b.toNat k.bits))))):=by
 have h:¬b<0:=U
 simp[bq,nnn.bZ,eqGuard,binOp,Op.shift,h,cE,bind,Sem.bind,pure]
def w7:bq P .and t x y (.lit (.int k a)) (.lit (.int k b))=some (.lit (.int k (k.wrap ((BitVec.ofInt k.bits a &&& BitVec.ofInt k.bits b).toNat:Nat)))):=by
 simp[bq,nnn.bZ,eqGuard,binOp,Op.intBits,cE,bind,Sem.bind,pure]
def Vj:bq P .or t x y (.lit (.int k a)) (.lit (.int k b))=some (.lit (.int k (k.wrap ((BitVec.ofInt k.bits a |||BitVec.ofInt k.bits b).toNat:Nat)))):=by
 simp[bq,nnn.bZ,eqGuard,binOp,Op.intBits,cE,bind,Sem.bind,pure]
def Vk:bq P .xor t x y (.lit (.int k a)) (.lit (.int k b))=some (.lit (.int k (k.wrap ((BitVec.ofInt k.bits a ^^^ BitVec.ofInt k.bits b).toNat:Nat)))):=by
 simp[bq,nnn.bZ,eqGuard,binOp,Op.intBits,cE,bind,Sem.bind,pure]
def Vl:bq P .andNot t x y (.lit (.int k a)) (.lit (.int k b))=some (.lit (.int k (k.wrap ((BitVec.ofInt k.bits a &&& ~~~ BitVec.ofInt k.bits b).toNat:Nat)))):=by
 simp[bq,nnn.bZ,eqGuard,binOp,Op.intBits,cE,bind,Sem.bind,pure]
def az (m:Nat):nnn:=.lit (.int .u64 (m:Int))
def cN (a b:Nat):Nat:=(BitVec.ofNat 64 a &&& ~~~ BitVec.ofNat 64 b).toNat
def ru {m:Nat}(h:m<2 ^ 64):(BitVec.ofInt 64 (m:Int)).toNat=m:=by rw[BitVec.ofInt_natCast,BitVec.toNat_ofNat,Nat.mod_eq_of_lt h]
def xa (a b:Nat):cN a b<2 ^ 64:=(BitVec.isLt _)
def pj {a b i:Nat}(ha:a<2 ^ 64):(cN a b).testBit i=(a.testBit i && !b.testBit i):=by
 unfold cN;by_cases hi:i<64
 ·rw[<- BitVec.getLsbD,BitVec.getLsbD_and,BitVec.getLsbD_not,BitVec.getLsbD_ofNat,BitVec.getLsbD_ofNat];simp[hi]
 ·have h1:a.testBit i=false:=Yf (Xd ha (Xq aax U));rw[h1,<- BitVec.getLsbD,BitVec.getLsbD_of_ge _ _ U];rfl
def po {m:Nat}(h:m<2 ^ 64):IntKind.u64.wrap (m:Int)=m:=Zd _ (U)
def pq {a b:Nat}(ha:a<2 ^ 64)(hb:b<2 ^ 64):bq P .and t x y (.lit (.int .u64 (a:Int))) (.lit (.int .u64 (b:Int)))=some (.lit (.int .u64 ((a &&& b:Nat):Int))):=by
 rw[w7];have e:(BitVec.ofInt (IntKind.bits .u64) (a:Int) &&& BitVec.ofInt (IntKind.bits .u64) (b:Int)).toNat=a &&& b:=by
  show (BitVec.ofInt 64 _ &&& BitVec.ofInt 64 _).toNat=_;rw[BitVec.toNat_and,ru ha,ru hb]
 rw[e,po (Y4 ZJ ha)]
def fj {a b:Nat}(ha:a<2 ^ 64)(hb:b<2 ^ 64):bq P .or t x y (.lit (.int .u64 (a:Int))) (.lit (.int .u64 (b:Int)))=some (.lit (.int .u64 ((a |||b:Nat):Int))):=by
 rw[Vj];have e:(BitVec.ofInt (IntKind.bits .u64) (a:Int) |||BitVec.ofInt (IntKind.bits .u64) (b:Int)).toNat=a |||b:=by
  show (BitVec.ofInt 64 _ |||BitVec.ofInt 64 _).toNat=_;rw[BitVec.toNat_or,ru ha,ru hb]
 rw[e,po (XV ha hb)]
def Vm {a b:Nat}(ha:a<2 ^ 64)(hb:b<2 ^ 64):bq P .xor t x y (.lit (.int .u64 (a:Int))) (.lit (.int .u64 (b:Int)))=some (.lit (.int .u64 ((a ^^^ b:Nat):Int))):=by
 rw[Vk];have e:(BitVec.ofInt (IntKind.bits .u64) (a:Int) ^^^ BitVec.ofInt (IntKind.bits .u64) (b:Int)).toNat=a ^^^ b:=by
  show (BitVec.ofInt 64 _ ^^^ BitVec.ofInt 64 _).toNat=_;rw[BitVec.toNat_xor,ru ha,ru hb]
 rw[e,po (ZS ha hb)]
def jz {a b:Nat}:bq P .andNot t x y (.lit (.int .u64 (a:Int))) (.lit (.int .u64 (b:Int)))=some (.lit (.int .u64 ((cN a b:Nat):Int))):=by
 rw[Vl];have e:(BitVec.ofInt (IntKind.bits .u64) (a:Int) &&& ~~~ BitVec.ofInt (IntKind.bits .u64) (b:Int)).toNat=cN a b:=by
  show (BitVec.ofInt 64 _ &&& ~~~ BitVec.ofInt 64 _).toNat=_;rw[BitVec.ofInt_natCast,BitVec.ofInt_natCast];rfl
 rw[e,po (xa a b)]
def lh {a s:Nat}(ha:a<2 ^ 64):bq P .shr t x y (.lit (.int .u64 (a:Int))) (.lit (.int k' (s:Int)))=some (.lit (.int .u64 ((a >>> s:Nat):Int))):=by
 rw[wZ U,Int.toNat_natCast];have e:(a:Int).fdiv (2 ^ (min s (IntKind.bits .u64)))=((a >>> s:Nat):Int):=by
  rw[Int.fdiv_eq_ediv_of_nonneg _ (by exact_mod_cast Zu _),Zc];show (a:Int) / 2 ^ (min s 64)=_;rcases Nat.le_total s 64 with h|h
  ·rw[Zi h];push_cast;rfl
  ·rw[Nat.min_eq_right h];have h1:a / 2 ^ s=0:=Nat.div_eq_of_lt (Xd ha (Xq aax h));rw[h1];exact aal U (U)
 rw[e]
def fZ {s:Nat}(hs:s<64):bq P .shl t x y (.lit (.int .u64 1)) (.lit (.int k' (s:Int)))=some (.lit (.int .u64 ((2 ^ s:Nat):Int))):=by
 rw[A8 U,Int.toNat_natCast];have e:min s (IntKind.bits .u64)=s:=Zi (by show s<=64;omega);have h2:2 ^ s<2 ^ 64:=XG aax hs;rw[e,aac];have h3:((2:Int) ^ s)=((2 ^ s:Nat):Int):=by push_cast;rfl
 rw[h3,po h2]
def pr {a s:Nat}(ha:a<2 ^ 64):bq P .and t x y (.lit (.int .u64 ((a >>> s:Nat):Int))) (.lit (.int .u64 1))=some (.lit (.int .u64 (if a.testBit s then 1 else 0))):=by
 have h1:a >>> s<2 ^ 64:=Y4 (Nat.shiftRight_le _ _) ha;have:=pq (P:=P) (t:=t) (x:=x) (y:=y) (a:=a >>> s) (b:=1) h1 aax;rw[show (((1:Nat):Int))=1 from rfl]at this;rw[this,Nat.and_one_is_mod];congr 3;rw[Nat.testBit,Nat.and_comm,Nat.and_one_is_mod];rcases Yo (a >>> s) with h|h<;>rw[h]<;>rfl
end
end Go.Hx
namespace Go.Proofs
open Go.Hx
variable {a b c n v:Int}{cs l:List Int}{i j:Nat}
def bY (H:nnl)(b:Blk)(L:List Blk):(ext H (b :: L)).get H.C=some b:=cO H (b :: L) 0 (aaw)
def F9 (l:List Int)(n:Nat):(ints l).take n=ints (l.take n):=by simp[ints]
def Ga (l:List Int)(n:Nat):(ints l).drop n=ints (l.drop n):=by simp[ints]
def aS {α:Type}{l:List α}{a:α}(h:l[i]?=some a):¬l=[]:=by rintro rfl;simp at h
def ki {x:Int}(h:i<l.length):setAt (ints l) i [.lit (.int .i64 x)]=ints (l.set i x):=by
 rw[dQ (by simpa[ints] using h)];simp[ints,aa]
def Gb (w:Bool):rW w (some (.lit undef))=some false:=rfl
def aW (ns:List nna)(x:nna):List Int:=bb (aE ns) x.J
def gH:List Int->List Int->Int
 |_ :: cs,v :: vs=>v*aL cs+gH cs vs
 |_,_=>0
def iP:List Int->Int->List Int
 | [],_=>[]
 |c :: cs,i=>i / aL cs % c :: iP cs i
def S1 (cs:List Int)(i:Int):(iP cs i).length=cs.length:=by
 induction cs with
 |nil=>rfl
 |cons c cs ih=>simp[iP,ih]
def S2 (h:∀c∈cs,1<=c)(i:Int):∀(k:Nat) (c v:Int),cs[k]?=some c->(iP cs i)[k]?=some v->0<=v/\v<c:=by
 induction cs with
 |nil=>intro k c v h;simp at h
 |cons a cs ih =>
  intro k c v h1 h2;cases k with
  |zero =>
   simp only[iP,List.getElem?_cons_zero,Option.some.injEq]at h1 h2;subst h1;subst h2;have:=h a aaw;exact⟨YN _ U,YF _ U⟩
  |succ k =>
   simp only[iP,List.getElem?_cons_succ]at h1 h2;exact ih (fun c hc=>h c (by simp[hc])) k c v h1 h2
def gI (cs vs:List Int):Prop:=vs.length=cs.length/\∀(k:Nat) (c v:Int),cs[k]?=some c->vs[k]?=some v->0<=v/\v<c
def gI.tail {vs:List Int}(h:gI (c :: cs) (v :: vs)):gI cs vs:=⟨by simpa using h.1,fun k c v h1 h2=>h.2 (k+1) c v (by simpa using h1) (by simpa using h2)⟩
def gI.head {vs:List Int}(h:gI (c :: cs) (v :: vs)):0<=v/\v<c:=h.2 0 c v aaw (aaw)
def gI.pos {vs:List Int}(h:gI cs vs):∀c∈cs,1<=c:=fun c hc=>by
 obtain⟨k,hk⟩:=Xg.1 hc;obtain⟨v,hv⟩:=get_of_lt (l:=vs) (i:=k) (by rw[h.1];exact get_lt hk);have:=h.2 k c v hk hv;omega
def S3 (h:∀c∈cs,1<=c)(i:Int):gI cs (iP cs i):=⟨S1 cs i,S2 h i⟩
def EK:∀ {cs vs:List Int},gI cs vs->0<=gH cs vs/\gH cs vs<aL cs:=by
 intro cs
 induction cs with
 |nil=>intro vs _;cases vs<;>(simp[gH,l9])
 |cons c cs ih =>
  intro vs h;cases vs with
  |nil=>exact absurd h.1 (aaw)
  |cons v vs =>
   have h1:=ih h.tail;have h2:=h.head;have hp:1<=aL cs:=jX fun x hx=>h.pos x (by simp[hx]);rw[qS];simp only[gH];have h3:0<=v*aL cs:=Ze h2.1 U;have h4:(v+1)*aL cs<=c*aL cs:=Z5 U U;rw[Int.add_mul,aac]at h4;omega
def EL:∀ {cs vs:List Int},gI cs vs->iP cs (gH cs vs)=vs:=by
 have key:∀(cs:List Int) (i a c:Int),(∀x∈cs,1<=x)->iP cs (a*aL cs*c+i)=iP cs i:=by
  intro cs
  induction cs with
  |nil=>intros;rfl
  |cons x cs ih =>
   intro i a c h;have hx:=h x aaw;have hp:1<=aL cs:=jX fun y hy=>h y (by simp[hy]);simp only[iP,qS];have e1:a*(x*aL cs)*c+i=i+aL cs*(x*(a*c)):=by
    rw[Int.add_comm];congr 1;ac_rfl
   have e2:a*(x*aL cs)*c+i=a*aL cs*(x*c)+i:=(by congr 1;ac_rfl);congr 1
   ·rw[e1,Int.add_mul_ediv_left _ _ U,Int.add_mul_emod_self_left]
   ·rw[e2];exact ih i a (x*c) fun y hy=>h y (by simp[hy])
 intro cs
 induction cs with
 |nil=>intro vs h;cases vs with
  |nil=>rfl
  |cons=>exact absurd h.1 (aaw)
 |cons c cs ih =>
  intro vs h;cases vs with
  |nil=>exact absurd h.1 (aaw)
  |cons v vs =>
   have hp:1<=aL cs:=jX fun x hx=>h.pos x (by simp[hx]);have hr:=EK h.tail;have h2:=h.head;simp only[gH,iP];congr 1
   ·rw[Int.add_comm,Int.add_mul_ediv_right _ _ U,aal hr.1 hr.2,Int.zero_add,Int.emod_eq_of_lt h2.1 h2.2]
   ·have:=key cs (gH cs vs) v 1 fun x hx=>h.pos x (by simp[hx]);rw[aav]at this;rw[this];exact ih h.tail
def fh (l:List Int):Prop:=l.length<=12/\∀x∈l,0<=x/\x<=8
def fh.prod (h:fh l):0<=aL l/\aL l<=68719476736:=by
 have h1:=At (b:=8) U h.2;have h2:(8:Int) ^ l.length<=8 ^ 12:=by
  have:(8:Nat) ^ l.length<=8 ^ 12:=Xq aax h.1
  exact_mod_cast this
 exact⟨h1.1,Int.le_trans h1.2 h2⟩
theorem fh.take (h:fh l)(k:Nat):fh (l.take k):=⟨by have:=h.1;simp;omega,fun x hx=>h.2 x (Xz hx)⟩
theorem fh.drop (h:fh l)(k:Nat):fh (l.drop k):=⟨by have:=h.1;simp;omega,fun x hx=>h.2 x (YJ hx)⟩
def AW (l:List Int)(hl:fh l)(H:nnl)(K:nnf->nnl->Prop)(hK:K (.ret (aa (aL l))) H):af Tryz.prog G0 75 [ah l] H K:=by
 have l12:=hl.1;refine af.st (n:=18) (rs:=[.tmp 2]) Tryz.func75 ?_;simp only[go_sem];refine W.aM 131064 (by rfl) (fun ρ H'=>H'=H/\∃k:Nat,ρ 4=aa k/\k<=l.length/\ρ 3=aa (aL (l.take k))) (fun ρ H=>l.length-(iv (ρ 4)).toNat) ?_ ?_
 ·simp only[go_sem];exact⟨0,rfl,U,by simp[l9]⟩
 rintro ρ H' ⟨rfl,k,h4,hk,h3⟩;refine W.vs ?_;by_cases hb:(k:Int)<l.length
 ·obtain⟨c,hc⟩:=get_of_lt (l:=l) (i:=k) U;have hne:=aS hc;have b1:=(hl.take (k+1)).prod;rw[aQ hc,gX]at b1;simp only[go_sem,h4,h3,hb,hc,hne];rw[W6 ((k:Int)+1) U,W6 (_*c) U];exact⟨⟨k+1,aaw,U,by rw[aQ hc,gX]⟩,U⟩
 ·simp only[go_sem,h4,h3,hb];rw[W9 U];exact ar.mk aaz hK
def FQ (x y:List Int)(hx:(x.length:Int)<2 ^ 62)(H:nnl)(K:nnf->nnl->Prop)(hK:K (.ret (.lit (.bool (decide (x=y))))) H):af Tryz.prog G0 91 [ah x,ah y] H K:=by
 have no:¬x=y->ar Tryz.prog G0 H K (.lit (.bool false)) H:=fun h=>ar.mk aaz (by rw[XL h]at hK;exact hK);refine af.st (n:=26) (rs:=[.tmp 4]) Tryz.func91 ?_;by_cases hl:(x.length:Int)=y.length;rotate_left
 ·simp only[go_sem,hl];exact no fun h=>hl (by rw[h])
 simp only[go_sem,hl];refine W.aM 67106864 (by rfl) (fun ρ H'=>H'=H/\∃k:Nat,ρ 5=aa k/\k<=x.length/\x.take k=y.take k) (fun ρ H=>x.length-(iv (ρ 5)).toNat) ?_ ?_
 ·simp only[go_sem];exact⟨0,rfl,U,rfl⟩
 rintro ρ H' ⟨rfl,k,h5,hk,ht⟩;refine W.vs ?_;by_cases hb:(k:Int)<y.length
 ·obtain⟨a,ha⟩:=get_of_lt (l:=x) (i:=k) U;obtain⟨b,hbk⟩:=get_of_lt (l:=y) (i:=k) U;have hxn:=aS ha;have hyn:=aS hbk;have hbx:(k:Int)<x.length:=U
  simp only[go_sem,h5,hb,hl];refine W.dr 8 [0,0,3,7,0,0,48,112] Tryz.mixed ?_;by_cases he:a=b
  ·subst he;simp only[go_sem,h5,hb,hbx,ha,hbk,hxn,hyn];rw[W6 ((k:Int)+1) U];exact⟨⟨k+1,aaw,U,by rw[aQ ha,aQ hbk,ht]⟩,U⟩
  ·simp only[go_sem,h5,hb,hbx,ha,hbk,hxn,hyn,he];exact no fun h=>he (by rw[h,hbk]at ha;exact(Option.some.inj ha).symm)
 ·simp only[go_sem,h5,hb,hl];refine ar.mk aaz ?_;have:x=y:=by
   rw[W9 U,W9 U]at ht;exact ht
  rw[Xy this]at hK;exact hK
def nu (x:List Int)(hx:(x.length:Int)<2 ^ 40)(H:nnl)(K:nnf->nnl->Prop)(hK:K (.ret (ah x)) H):af Tryz.prog G0 88 [ah x] H K:=by
 refine af.nb ⟨_,Tryz.func88,rfl,rfl⟩ fun hc=>?_;refine af.st (n:=8) (rs:=[.tmp 2]) Tryz.func88 ?_;simp only[go_sem];intro b hlen;cases b with
 |true =>
  have hx0:x=[]:=Xc (by
   by_cases h:0<x.length
   ·have:=hlen (by simpa using h);cases this
   ·omega)
  simp only[go_sem];subst hx0;exact ar.MF aO hc .yG hK
 |false =>
  by_cases h0:x.length=0
  ·have hx0:x=[]:=Xc h0;subst hx0;simp only[go_sem,cK];refine⟨⟨rfl,rfl⟩,ar.drop (v':=ah []) aO hc ?_ hK⟩;exact .ints aaz (bY ..) rfl fun i hi=>absurd hi (Xo _)
  ·simp only[go_sem,h0,cK];refine⟨⟨rfl,U,U,kI x⟩,ar.drop aO hc ?_ hK⟩;exact .ints aaz (bY ..) rfl fun i hi=>by simp[gR,hi]
instance placesDec (l:List Int)(n:Int):Decidable (bB l n):=by unfold bB;infer_instance
theorem bB.nil :bB [] n:=⟨.nil,fun _ h=>by cases h⟩
theorem bB.take (h:bB l n)(k:Nat):bB (l.take k) n:=⟨h.1.sublist (List.take_sublist k l),fun p hp=>h.2 p (Xz hp)⟩
def bB.snoc (h:bB l n)(ha:0<=a/\a<n)(hl:∀b,l.getLast?=some b->b<a):bB (l++[a]) n:=by
 refine⟨YT.2 ⟨h.1,aaw,fun x hx y hy=>?_⟩,fun p hp=>?_⟩
 ·obtain rfl:=List.mem_singleton.1 hy;rcases aam l with rfl|⟨l',b,rfl⟩
  ·cases hx
  ·have hb:=hl b aaw;simp only[aan]at hx h;rcases Xt.1 hx with hx|hx
   ·have:=(YT.1 h.1).2.2 x hx b aaw;omega
   ·obtain rfl:=List.mem_singleton.1 hx;exact hb
 ·rcases Xt.1 hp with hp|hp
  ·exact h.2 p hp
  ·obtain rfl:=List.mem_singleton.1 hp;exact ha
def bB.lt (h:bB l n)(ha:l[i]?=some a)(hb:l[j]?=some b)(hij:i<j):a<b:=by
 have:=Yr.1 h.1 i j (get_lt ha) (get_lt hb) hij;have e1:=W5 (get_lt ha);have e2:=W5 (get_lt hb);rw[ha]at e1;rw[hb]at e2;rw[Option.some.inj e1,Option.some.inj e2];exact this
def bB.len (h:bB l n):(l.length:Int)<=max n 0:=by
  -- the k-th place is at least k
 have key:∀(k:Nat) (a:Int),l[k]?=some a->(k:Int)<=a:=by
  intro k
  induction k with
  |zero=>intro a ha;have:=h.2 a (an ha);omega
  |succ k ih =>
   intro a ha;obtain⟨b,hb⟩:=get_of_lt (l:=l) (i:=k) (by have:=get_lt ha;omega);have:=ih b hb;have:=h.lt hb ha U;omega
 rcases Yp l.length with h0|h0
 ·omega
 ·obtain⟨a,ha⟩:=get_of_lt (l:=l) (i:=l.length-1) U;have h1:=key _ a ha;have h2:=h.2 a (an ha);omega
def tp (h:l[j]?=some b):(l.take (j+1)).getLast?=some b:=by rw[aQ h];simp
def FR (l:List Int)(n:Int)(hl:(l.length:Int)<2 ^ 62)(H:nnl)(K:nnf->nnl->Prop)(hK:K (.ret (.lit (.bool (decide (bB l n))))) H):af Tryz.prog G0 124 [ah l,aa n] H K:=by
 have no:¬bB l n->ar Tryz.prog G0 H K (.lit (.bool false)) H:=fun h=>ar.mk aaz (by rw[XL h]at hK;exact hK);refine af.st (n:=41) (rs:=[.tmp 4]) Tryz.func124 ?_;simp only[go_sem];refine W.aM 2199023255536 (by rfl) (fun ρ H'=>H'=H/\∃k:Nat,ρ 5=aa k/\k<=l.length/\bB (l.take k) n) (fun ρ H=>l.length-(iv (ρ 5)).toNat) ?_ ?_
 ·simp only[go_sem];exact⟨0,rfl,U,.nil⟩
 rintro ρ H' ⟨rfl,k,h5,hk,hp⟩;refine W.vs ?_;by_cases hb:(k:Int)<l.length
 ·obtain⟨a,ha⟩:=get_of_lt (l:=l) (i:=k) U;have hne:=aS ha;have ham:=an ha;simp only[go_sem,h5,hb];refine W.dr 26 [0,0,3,7,15,31,63,63,255,511,63,2047,4095,8191,16383,32767,65535,131071,131071,524287,1048575,131071,131071,4325375,14811135,31588351] Tryz.mixed ?_;by_cases c1:a<0
  ·simp only[go_sem,h5,hb,ha,hne,c1,Gb];exact no fun h=>by have:=h.2 a ham;omega
  by_cases c2:a >= n
  ·simp only[go_sem,h5,hb,ha,hne,c1,c2,Gb];exact no fun h=>by have:=h.2 a ham;omega
  by_cases c3:(k:Int) > 0
  ·obtain⟨j,rfl⟩:∃j,k=j+1:=⟨k-1,U⟩
   obtain⟨b,hbj⟩:=get_of_lt (l:=l) (i:=j) U;have w1:=W6 (j:Int) U;have w2:=W6 (((j+1:Nat):Int)+1) U;have e1:((j+1:Nat):Int)-1=j:=U;have hb1:(j:Int)<l.length:=U;have hbj':=hbj;by_cases c4:a<=b
   ·simp only[go_sem,h5,hb,ha,hne,c1,c2,c3,c4,w1,e1,hb1,hbj];exact no fun h=>by have:=h.lt hbj ha U;omega
   ·simp only[go_sem,h5,hb,ha,hne,c1,c2,c3,c4,w1,w2,e1,hb1,hbj];refine⟨⟨j+1+1,aaw,U,?_⟩,U⟩;rw[aQ ha];exact hp.snoc U fun b' hb'=>by
     rw[tp hbj]at hb';cases hb';omega
  ·simp only[go_sem,h5,hb,ha,hne,c1,c2,c3];rw[W6 ((k:Int)+1) U];obtain rfl:k=0:=U;refine⟨⟨1,aaw,U,?_⟩,U⟩;rw[aQ ha];exact hp.snoc U fun b' hb'=>by simp at hb'
 ·simp only[go_sem,h5,hb];rw[W9 U]at hp;rw[Xy hp]at hK;exact ar.mk aaz hK
def FS (l:List Int)(n:Int)(hl:(l.length:Int)<2 ^ 62)(H:nnl)(K:nnf->nnl->Prop)(hK:K (.ret (.lit (.bool (decide (bB l n))))) H):af Tryz.prog G0 142 [ah l,aa n] H K:=by
 have no:¬bB l n->ar Tryz.prog G0 H K (.lit (.bool false)) H:=fun h=>ar.mk aaz (by rw[XL h]at hK;exact hK);refine af.st (n:=24) (rs:=[.tmp 4]) Tryz.func142 ?_;simp only[go_sem];refine W.aM 16776368 (by rfl) (fun ρ H'=>H'=H/\∃(k:Nat) (b:Int),ρ 10=aa k/\k<=l.length/\ρ 5=aa b/\bB (l.take k) n/\(l.take k).getLast?.getD (-1)=b) (fun ρ H=>l.length-(iv (ρ 10)).toNat) ?_ ?_
 ·simp only[go_sem];exact⟨0,-1,rfl,U,rfl,.nil,rfl⟩
 rintro ρ H' ⟨rfl,k,b,h10,hk,h5,hp,hbl⟩;refine W.vs ?_;by_cases hb:(k:Int)<l.length
 ·obtain⟨a,ha⟩:=get_of_lt (l:=l) (i:=k) U;have hne:=aS ha;have ham:=an ha;by_cases c1:a<=b
  ·simp only[go_sem,h10,h5,hb,ha,hne,c1];refine no fun h=>?_;have h0:=h.2 a ham;rcases Yp k with rfl|hk0
   ·simp at hbl;omega
   ·obtain⟨j,rfl⟩:∃j,k=j+1:=⟨k-1,U⟩
    obtain⟨b',hbj⟩:=get_of_lt (l:=l) (i:=j) U;rw[tp hbj]at hbl;have:=h.lt hbj ha U;simp at hbl;omega
  by_cases c2:a >= n
  ·simp only[go_sem,h10,h5,hb,ha,hne,c1,c2];exact no fun h=>by have:=h.2 a ham;omega
  have w1:=W6 ((k:Int)+1) U;simp only[go_sem,h10,h5,hb,ha,hne,c1,c2,w1];have h0:0<=a:=by
   rcases hg:(l.take k).getLast? with _|b'
   ·rw[hg]at hbl;simp at hbl;omega
   ·rw[hg]at hbl;have:=hp.2 b' (aaq hg);simp at hbl;omega
  refine⟨⟨k+1,a,aaw,U,rfl,?_,by rw[tp ha];rfl⟩,U⟩;rw[aQ ha];exact hp.snoc ⟨h0,U⟩ fun b' hb'=>by rw[hb']at hbl;simp at hbl;omega
 ·simp only[go_sem,h10,hb];rw[W9 U]at hp;rw[Xy hp]at hK;exact ar.mk aaz hK
end Go.Proofs
namespace Go.Hx
variable {g id:Nat}{H H':nnl}
theorem nnd.na (h:nnd H H')(hi:id<H.C):H'.na id g=H.na id g:=by
 unfold nnl.na;rw[h.ng id hi]
theorem nnd.upd (h:nnd H H')(hi:H.C<=id)(b:Blk):nnd H (H'.upd id b):=⟨h.C,fun j hj=>by rw[ae,W7 U];exact h.ng j hj⟩
def tz {e:TypeId}{c:List nnn}:(H.upd id (.O g e c)).na id g=some (e,c):=ag (by rw[ae,W8 rfl])
def jA {j:Nat}{b:Blk}(h:j≠id):(H.upd id b).na j g=H.na j g:=by unfold nnl.na;rw[ae,W7 h]
attribute [go_sem] tz
@[go_sem] theorem W3 (a b:Array TypeId)(c:Bool)(n:Nat)(cells:List nnn)(off:Nat):lQ (some (.func a b c)) n cells off=cells[off]?:=rfl
end Go.Hx
namespace Go.Proofs
open Go.Hx
variable {c l:List Int}{ps:List Nat}{a i id k m n t:Nat}{H H':nnl}{v:nnn}
def oX {H2:nnl}{e:TypeId}{cs:List nnn}(ov:nnd H H')(h:aB H.C H' e v cs)(hn:H'.C<=H2.C)(hp:∀k,k<H'.C->(∀g n,v≠.Z k g 0 n 1)->H2.get k=H'.get k):nnd H H2 :=
 ⟨XN ov.C hn,fun id hi=>by
  rw[hp id (Xd hi ov.C) fun g n he=>?_,ov.ng id hi];rcases h with ⟨h,_⟩|⟨i2,g2,a1,_,h,_⟩
  ·rw[h]at he;cases he
  ·rw[h]at he;have:=nnn.Z.inj he;omega⟩
def iW (x:Int)(ov:nnd H H')(h:aB H.C H' 3 v (ints l))(hl:l.length<2 ^ 40):
  ∃v' H2,bh Tryz.prog (ext H' [.O 0 3 [.lit (.int .i64 x)]]) (H'.C+1) 72 72 v (.Z H'.C 0 0 1 1)=some (v',H2)/\nnd H H2/\aB H.C H2 3 v' (ints (l++[x]))/\H'.C<=H2.C/\(∀k,k<H'.C->(∀g n,v≠.Z k g 0 n 1)->H2.get k=H'.get k):=by
 obtain⟨v',H2,hA,hO,hn2,hp⟩:=gf (P:=Tryz.prog) (H:=H') (t:=72) (x:=aa x) (n:=H'.C+1) Tryz.underlying72 Tryz.dY Tryz.eh rfl (by rw[Tryz.eV,aZ];omega) h ov.C rfl;simp only[aa]at hA;exact⟨v',H2,hA,oX ov h hn2 hp,by simpa[ints,aa] using hO,hn2,hp⟩
def Vn (l:List (List Int)):(aD l).one=true:=rfl
def Vo (l:List (List Int)):(aD l).cells=[aD l]:=rfl
def Vp (l:List nna):(di l).one=true:=rfl
def Vq (l:List nna):(di l).cells=[di l]:=rfl
def Vr (l:List nni):(vT l).one=true:=rfl
theorem Vs (l:List nni):(vT l).cells=[vT l]:=rfl
attribute [go_sem] Vn Vo Vp Vq Vr Vs
structure nnB (H H':nnl)(id:Nat)(c:List Int):Prop where
 ov:nnd H H'
 lo:H.C<=id
 hi:id<H'.C
 get:H'.get id=some (.O 0 3 (ints c))
theorem nnB.na (h:nnB H H' id c):H'.na id 0=some (3,ints c):=ag h.get
def nnB.ne (h:nnB H H' id c):¬id=H'.C:=by have:=h.hi;omega
def nnB.over {H2:nnl}(h:nnB H H' id c)(o:nnd H' H2):nnB H H2 id c:=⟨h.ov.trans o,h.lo,Xd h.hi o.C,(o.ng id h.hi).trans h.get⟩
def nnB.store (h:nnB H H' id c)(hk:k<c.length)(x:Int):nnB H (H'.upd id (.O 0 3 (setAt (ints c) k [.lit (.int .i64 x)]))) id (c.set k x) :=
 ⟨⟨h.ov.C,fun i hi=>by rw[ae,W7 (by have:=h.lo;omega)];exact h.ov.ng i hi⟩,h.lo,h.hi,by rw[ae,W8 rfl,ki hk]⟩
def nnB.new (L:List Blk)(n:Nat):nnB H (ext H (.O 0 3 (List.replicate n (.lit (.int .i64 0))) :: L)) H.C (List.replicate n 0) :=
 ⟨.ext _ _,aaz,by simp[bu],by rw[bY];simp[ints,aa]⟩
def nnB.fin {K:nnf->nnl->Prop}(hcl:Clo H)(h:nnB H H' id c)(hn:n=c.length)(hK:K (.ret (ah c)) H):ar Tryz.prog G0 H K (.Z id 0 0 n 1) H':=by
 subst hn;refine ar.bw aO hcl h.ov ?_ hK;exact .ints h.lo h.get aaw fun i hi=>by simp[gR,hi]
def Vt {m:List Int}{x:Int}(h:l.take k=m.take k)(hk:k<l.length)(hx:m[k]?=some x):(l.set k x).take (k+1)=m.take (k+1):=by
 rw[aQ hx,aQ (show (l.set k x)[k]?=some x by rw[Xj hk]),Zv (Nat.le_refl k),h]
def cP {α:Type}{l:List α}{a d:α}(h:l[i]?=some a):l.getD i d=a:=by rw[Xh,h];rfl
def FT {places:List Int}{p:Int}(h:places[k]?=some p):bb l (places.take (k+1))=bb l (places.take k)++[l.getD p.toNat 0]:=by
 unfold bb;rw[aQ h];simp
def dK {ns:List nna}{x:nna}(h:ns[k]?=some x):(aE ns)[k]?=some x.Q:=by unfold aE;rw[List.getElem?_map,h];rfl
def gL (ns:List nna):(aE ns).length=ns.length:=by simp[aE]
def FU (l p:List Int)(hl:(l.length:Int)<2 ^ 40)(hp:(p.length:Int)<2 ^ 39)(hin:∀q∈p,0<=q/\q<l.length)(H:nnl)(K:nnf->nnl->Prop)(hK:K (.ret (ah (bb l p))) H):af Tryz.prog G0 121 [ah l,ah p] H K:=by
 refine af.nb ⟨_,Tryz.func121,rfl,rfl⟩ fun hcl=>?_;refine af.st (n:=24) (rs:=[.tmp 4]) Tryz.func121 ?_;simp only[go_sem];refine W.aM 8388576 (by rfl) (fun ρ H'=>∃k:Nat,ρ 6=aa k/\k<=p.length/\nnd H H'/\aB H.C H' 3 (ρ 5) (ints (bb l (p.take k)))) (fun ρ H=>p.length-(iv (ρ 6)).toNat) ?_ ?_
 ·simp only[go_sem];exact⟨0,rfl,U,.refl _,.nil⟩
 rintro ρ H' ⟨k,h6,hk,ov,h5⟩;refine W.vs ?_;by_cases hb:(k:Int)<p.length
 ·obtain⟨q,hq⟩:=get_of_lt (l:=p) (i:=k) U;obtain⟨j,rfl,a,ha⟩:=oK (hin q (an hq)).1 (hin q (an hq)).2;have hne:=aS hq;have hne2:=aS ha;have hj:=get_lt ha;have hj':(j:Int)<l.length:=U
  obtain⟨v',H2,hA,ov2,hO,hn2,_⟩:=iW a ov h5 (by simp[bb];omega);have w1:=W6 ((k:Int)+1) U;simp only[go_sem,h6,hb,hq,hne,ha,hne2,hj',w1,hA];refine⟨by have:=ov2.C;omega,⟨k+1,aaw,U,ov2,?_⟩,U⟩;rw[FT hq,Int.toNat_natCast,cP ha];exact hO
 ·simp only[go_sem,h6,hb];rw[W9 U]at h5;exact ar.bw aO hcl ov (h5.ep fun i hi=>hi) hK
def wQ (g:Int)(ns:List nna)(hl:(ns.length:Int)<2 ^ 39)(H:nnl)(K:nnf->nnl->Prop)(hK:K (.ret (ah (aE ns))) H):af Tryz.prog G0 84 [bS g ns] H K:=by
 refine af.nb ⟨_,Tryz.func84,rfl,rfl⟩ fun hcl=>?_;refine af.st (n:=22) (rs:=[.tmp 2]) Tryz.func84 ?_;simp only[go_sem,bS,di];obtain⟨H1,hH1⟩:∃H1,H1=ext H [.O 0 90 [.lit (.int .i64 g),.L ns.length (aG ns)]]:=⟨_,rfl⟩
 have l1:H1.na H.C 0=some (90,[.lit (.int .i64 g),.L ns.length (aG ns)]):=by rw[hH1];exact ag (bY ..)
 have n1:H1.C=H.C+1:=hH1▸rfl
 have o1:nnd H H1:=hH1▸.ext _ _
 rw[<- hH1];refine W.aM 2097144 (by rfl) (fun ρ H'=>∃k:Nat,ρ 4=aa k/\k<=ns.length/\ρ 1=.Y H.C 0 0/\nnd H1 H'/\aB H1.C H' 3 (ρ 3) (ints ((aE ns).take k))) (fun ρ H=>ns.length-(iv (ρ 4)).toNat) ?_ ?_
 ·simp only[go_sem];exact⟨0,rfl,U,.refl _,.nil⟩
 rintro ρ H' ⟨k,h4,hk,h1,ov,h3⟩;refine W.vs ?_;have l2:=(ov.na (g:=0) (by omega:H.C<H1.C)).trans l1;by_cases hb:(k:Int)<ns.length
 ·obtain⟨x,hx⟩:=get_of_lt (l:=ns) (i:=k) U;have hne:=eC hx;have e0:=lY hx;obtain⟨v',H2,hA,ov2,hO,hn2,_⟩:=iW x.Q ov h3 (by simp[aE];omega);have w1:=W6 ((k:Int)+1) U;simp only[go_sem,h4,h1,l2,hb,hne,e0,w1,hA];refine⟨by have:=ov2.C;omega,⟨k+1,aaw,U,ov2,?_⟩,U⟩;rw[aQ (dK hx)];exact hO
 ·simp only[go_sem,h4,h1,l2,hb];rw[W9 (by rw[gL];omega)]at h3;exact ar.bw aO hcl (o1.trans ov) (h3.ep fun i hi=>U) hK
def jt (l:List Int)(n:Nat):Prop:=∀q∈l,0<=q/\q<n
def jv (l p:List Int):(bb l p).length=p.length:=by simp[bb]
def pa {p:List Int}{q:Int}(h:p[k]?=some q):(bb l p)[k]?=some (l.getD q.toNat 0):=by unfold bb;rw[List.getElem?_map,h];rfl
def UD (g:Int)(ns:List nna)(v:Nat)(x:nna)(hx:ns[v]?=some x)(hl:(ns.length:Int)<2 ^ 39)(hp:(x.J.length:Int)<2 ^ 39)(hin:jt x.J ns.length)(H:nnl)(K:nnf->nnl->Prop)
  (hK:K (.ret (ah (aW ns x))) H):af Tryz.prog G0 76 [bS g ns,aa v] H K:=by
 refine af.nb ⟨_,Tryz.func76,rfl,rfl⟩ fun hcl=>?_;have hne:=eC hx;have e1:=jW hx;have hv:(v:Int)<ns.length:=by have:=get_lt hx;omega
 refine af.st (n:=14) (rs:=[.tmp 4]) Tryz.func76 ?_;simp only[go_sem,bS,di];refine W.dr 8 [0,1,0,4,0,28,60,124] Tryz.mixed ?_;simp only[go_sem];refine⟨ah (aE ns),[],cz.pure fun H2=>wQ g ns hl H2 _ ⟨rfl,rfl⟩,?_⟩;simp only[go_sem,hv,hne,e1];refine aC.nb (FU (aE ns) x.J (by rw[gL];omega) hp (by rw[gL];exact hin) _ _ ⟨trivial,?_⟩);simp only[go_sem];exact ar.bw aO hcl (.ext _ _) (.df _) hK
def UE (ns:List nna)(v:Nat)(x:nna)(hx:ns[v]?=some x)(hin:jt x.J ns.length)(hs:fh (aW ns x))(H:nnl)(K:nnf->nnl->Prop)
  (hK:K (.ret (aa (aL (aW ns x)))) H):af Tryz.prog G0 111 [di ns,aa v] H K:=by
 have hne:=eC hx;have e1:=jW hx;have hv:(v:Int)<ns.length:=by have:=get_lt hx;omega
 have l12:=hs.1;have pl:(aW ns x).length=x.J.length:=jv _ _;refine af.st (n:=27) (rs:=[.tmp 4]) Tryz.func111 ?_;simp only[go_sem,di,hv,hne,e1];refine W.aM 67092640 (by rfl) (fun ρ H'=>H'=H/\∃k:Nat,ρ 14=aa k/\k<=x.J.length/\ρ 5=aa (aL ((aW ns x).take k))) (fun ρ H=>x.J.length-(iv (ρ 14)).toNat) ?_ ?_
 ·simp only[go_sem];exact⟨0,rfl,U,by simp[l9]⟩
 rintro ρ H' ⟨rfl,k,h14,hk,h5⟩;refine W.vs ?_;by_cases hb:(k:Int)<x.J.length
 ·obtain⟨q,hq⟩:=get_of_lt (l:=x.J) (i:=k) U;obtain⟨j,rfl,y,hy⟩:=oK (l:=ns) (hin q (an hq)).1 (hin q (an hq)).2;have hne2:=aS hq;have hj:(j:Int)<ns.length:=by have:=get_lt hy;omega
  have e0:=lY hy;have pk:(aW ns x)[k]?=some y.Q:=by
   rw[show (aW ns x)[k]?=_ from pa hq,Int.toNat_natCast,cP (dK hy)]
  have b1:=(hs.take (k+1)).prod;rw[aQ pk,gX]at b1;have w1:=W6 ((k:Int)+1) U;have w2:=W6 (aL ((aW ns x).take k)*y.Q) U;simp only[go_sem,h14,h5,hb,hq,hne,hne2,hj,e0,w1,w2];exact⟨⟨k+1,aaw,U,by rw[aQ pk,gX]⟩,U⟩
 ·simp only[go_sem,h14,h5,hb];rw[W9 U];exact ar.mk aaz hK
def bc (l:List Int):Nat:=l.foldl (fun s p=>s |||2 ^ p.toNat) 0
def S4 (l:List Int):∀(s i:Nat),(l.foldl (fun s p=>s |||2 ^ p.toNat) s).testBit i=(s.testBit i ||l.any fun p=>p.toNat == i):=by
 induction l with
 |nil=>intro s i;simp
 |cons p l ih =>
  intro s i;simp only[Ys,ih,XB,Yv,List.any_cons];rw[Bool.or_assoc];congr 1
def fU (h:∀p∈l,0<=p)(i:Nat):(bc l).testBit i=decide ((i:Int)∈l):=by
 unfold bc;rw[S4];simp only[XX,ZW];rw[Yt];simp only[List.any_eq_true,beq_iff_eq,decide_eq_true_eq];constructor
 ·rintro⟨p,hp,rfl⟩;have:=h p hp;rw[ZQ this];exact hp
 ·intro hi;exact⟨_,hi,aaw⟩
def vW (l:List Int)(p:Int):bc (l++[p])=bc l |||2 ^ p.toNat:=by unfold bc;rw[Yn];rfl
def s9 (h:∀i,m.testBit i=true->i<n):m<2 ^ n:=by
 apply ZC;intro i hi;rcases Yc (m.testBit i) with e|e
 ·exact absurd (h i e) (U)
 ·exact e
def kW (h:∀p∈l,0<=p/\p<n):bc l<2 ^ n:=s9 fun i hi=>by
 rw[fU fun p hp=>(h p hp).1]at hi;have:=(h _ (of_decide_eq_true hi)).2;omega
def ma (h:m<2 ^ n)(hi:m.testBit i=true):i<n:=by
 rcases Xu i n with h'|h'
 ·exact h'
 ·rw[Yf (Xd h (Xq aax h'))]at hi;cases hi
def Sub (s t:Nat):Prop:=∀i,s.testBit i=true->t.testBit i=true
def Sub.refl (s:Nat):Sub s s:=fun _ h=>h
def Sub.trans {s u:Nat}(h:Sub s t)(h':Sub t u):Sub s u:=fun i hi=>h' i (h i hi)
def Sub.or {s u:Nat}(h:Sub s u)(h':Sub t u):Sub (s |||t) u:=fun i hi=>by
 rw[XB,XU]at hi;exact hi.elim (h i) (h' i)
def Sub.left (s t:Nat):Sub s (s |||t):=fun i hi=>by rw[XB,hi];rfl
def Sub.right (s t:Nat):Sub t (s |||t):=fun i hi=>by rw[XB,hi];simp
def Sub.antisymm {s:Nat}(h:Sub s t)(h':Sub t s):s=t:=X4 fun i=>by
 rw[Yt];exact⟨h i,h' i⟩
def qT {b:Nat}(ha:a<2 ^ 64):cN a b=0↔Sub a b:=by
 constructor
 ·intro h i hi;have:=pj (a:=a) (b:=b) (i:=i) ha;rw[h,XX,hi]at this;simpa using this.symm
 ·intro h;apply X4;intro i;rw[pj ha,XX];cases hi:a.testBit i
  ·rfl
  ·rw[h i hi];rfl
def fB (ps:List Nat)(s v:Nat):Nat:=if s.testBit v=true then s |||ps.getD v 0 else s
def eY (ps:List Nat)(s:Nat):Nat:=(List.range ps.length).foldl (fB ps) s
def eD (ps:List Nat):Nat->Nat->Nat
 |0,s=>s
 |k+1,s=>eY ps (eD ps k s)
def bT (ps:List Nat)(s:Nat):Nat:=eD ps ps.length s
def jY (ps:List Nat):Prop:=∀v,v<ps.length->(bT ps (ps.getD v 0)).testBit v=false
def jZ (ps:List Nat)(t:Nat):Prop:=∀v,v<ps.length->t.testBit v=true->Sub (ps.getD v 0) t
def EM (ps:List Nat)(s v:Nat):Sub s (fB ps s v):=by unfold fB;split;exact .left _ _;exact .refl _
def EN (ps:List Nat)(l:List Nat):∀s,Sub s (l.foldl (fB ps) s):=by
 induction l with
 |nil=>exact fun s=>.refl s
 |cons v l ih=>exact fun s=>(EM ps s v).trans (ih _)
def Au (ps:List Nat)(s:Nat):Sub s (eY ps s):=EN ps _ s
def S5 (hc:jZ ps t)(l:List Nat)(hl:∀v∈l,v<ps.length):∀s,Sub s t->Sub (l.foldl (fB ps) s) t:=by
 induction l with
 |nil=>exact fun s h=>h
 |cons v l ih =>
  intro s h;refine ih (fun v hv=>hl v (by simp[hv])) _ ?_;unfold fB;split
  ·rename_i hv;exact h.or (hc v (hl v aaw) (h v hv))
  ·exact h
def S6 (hc:jZ ps t){s:Nat}(h:Sub s t):Sub (eY ps s) t:=S5 hc _ (fun v hv=>XJ.1 hv) s h
def ng (hc:jZ ps t)(k:Nat){s:Nat}(h:Sub s t):Sub (eD ps k s) t:=by
 induction k with
 |zero=>exact h
 |succ k ih=>exact S6 hc ih
def oL (ps:List Nat)(k s:Nat):Sub s (eD ps k s):=by
 induction k with
 |zero=>exact .refl _
 |succ k ih=>exact ih.trans (Au _ _)
def S7 {s:Nat}(h:eY ps s=s):jZ ps s:=by
 intro v hv hs;have key:∀(l:List Nat) (s0:Nat),v∈l->s0.testBit v=true->Sub (ps.getD v 0) (l.foldl (fB ps) s0):=by
  intro l
  induction l with
  |nil=>intro s0 h;cases h
  |cons u l ih =>
   intro s0 hm hb;rcases List.mem_cons.1 hm with rfl|hm
   ·refine Sub.trans ?_ (EN ps l _);unfold fB;rw[W8 hb];exact .right _ _
   ·exact ih _ hm (EM ps s0 u v hb)
 have:=key (List.range ps.length) s (XJ.2 hv) hs;unfold eY at h
 rwa [h]at this
def cT (n s:Nat):Nat:=(List.range n).countP fun i=>s.testBit i
def Av (n s:Nat):cT n s<=n:=by have:=List.countP_le_length (p:=fun i=>s.testBit i) (l:=List.range n);simpa[cT] using this
def S8 {l:List Nat}{p q:Nat->Bool}(h:∀x∈l,p x=true->q x=true)(ha:a∈l)(hp:p a=false)(hq:q a=true):l.countP p<l.countP q:=by
 induction l with
 |nil=>cases ha
 |cons x l ih =>
  have hm:l.countP p<=l.countP q:=List.countP_mono_left fun y hy=>h y (by simp[hy]);rcases List.mem_cons.1 ha with rfl|ha
  ·rw[YP,YP,hp,hq];simp;omega
  ·have:=ih (fun y hy=>h y (by simp[hy])) ha;have hx:=h x aaw;rw[YP,YP];cases hpx:p x
   ·simp;omega
   ·rw[hx hpx];simp;omega
def oO {s:Nat}(h:Sub s t)(hi:i<n)(h0:s.testBit i=false)(h1:t.testBit i=true):cT n s<cT n t :=
 S8 (fun x _ hx=>h x hx) (XJ.2 hi) h0 h1
def Aw (hp:∀p∈ps,p<2 ^ ps.length){s:Nat}(hs:s<2 ^ ps.length):jZ ps (bT ps s):=by
 have hb:∀k,eD ps k s<2 ^ ps.length:=fun k=>by
  have ht:jZ ps (2 ^ ps.length-1):=fun v _ _ i hi=>by
   rw[XT];have:ps.getD v 0<2 ^ ps.length:=by
    rw[Xh];cases h:ps[v]? with
    |none=>exact Yy _
    |some p=>exact hp p (an h)
   simpa using ma this hi
  have:=ng ht k (s:=s) fun i hi=>by rw[XT];simpa using ma hs hi
  exact s9 fun i hi=>by have:=this i hi;rw[XT]at this;simpa using this
 have key:∀k,eY ps (eD ps k s)=eD ps k s\/k+1<=cT ps.length (eD ps k s):=by
  have grow:∀t,t<2 ^ ps.length->eY ps t<2 ^ ps.length->eY ps t≠t->cT ps.length t<cT ps.length (eY ps t):=fun t ht ht' hne=>by
   have:∃i,(eY ps t).testBit i=true/\t.testBit i=false:=by
    refine Xw fun hno=>hne (Sub.antisymm (fun i hi=>?_) (Au ps t));rcases Yc (t.testBit i) with e|e
    ·exact e
    ·exact absurd ⟨i,hi,e⟩ hno
   obtain⟨i,h1,h0⟩:=this;exact oO (Au ps t) (ma ht' h1) h0 h1
  intro k
  induction k with
  |zero =>
   by_cases h0:s=0
   ·left;subst h0;show eY ps 0=0;unfold eY;have:∀l:List Nat,l.foldl (fB ps) 0=0:=fun l=>by
     induction l with
     |nil=>rfl
     |cons v l ih=>simp only[Ys,fB,XX,Bool.false_eq_true,if_false];exact ih
    exact this _
   ·right;obtain⟨i,hi⟩:=Nat.exists_testBit_of_ne_zero h0;have:cT ps.length 0<cT ps.length s:=oO (fun j hj=>by rw[XX]at hj;cases hj) (ma hs hi) (XX i) hi;show 0+1<=cT ps.length s;omega
  |succ k ih =>
   rcases ih with ih|ih
   ·left;show eY ps (eY ps (eD ps k s))=eY ps (eD ps k s);rw[ih];exact ih
   ·by_cases hf:eY ps (eD ps k s)=eD ps k s
    ·left;show eY ps (eY ps (eD ps k s))=eY ps (eD ps k s);rw[hf];exact hf
    ·right;have:=grow _ (hb k) (hb (k+1)) hf;show k+1+1<=cT ps.length (eY ps (eD ps k s));omega
 rcases key ps.length with h|h
 ·exact S7 h
 ·have:=Av ps.length (eD ps ps.length s);omega
def iQ (ps:List Nat)(done v:Nat):Bool:=!done.testBit v && decide (cN (ps.getD v 0) done=0)
def j5 (ps:List Nat)(done:Nat):Option Nat:=(List.range ps.length).find? (iQ ps done)
def gJ (ps:List Nat):Nat->List Nat->Nat->Option (List Nat)
 |0,out,_=>some out
 |k+1,out,done=>match j5 ps done with
  |none=>none
  |some v=>gJ ps k (out++[v]) (done |||2 ^ v)
def eM (ps:List Nat):Option (List Nat):=gJ ps ps.length [] 0
def Ax {done v:Nat}(hp:∀p∈ps,p<2 ^ 64)(h:j5 ps done=some v):v<ps.length/\done.testBit v=false/\Sub (ps.getD v 0) done:=by
 unfold j5 at h;have h1:=aaf h;have h2:=List.find?_some h;unfold iQ at h2;simp only[Xv,Z1,decide_eq_true_eq]at h2;have hv:=XJ.1 h1;refine⟨hv,h2.1,(qT ?_).1 h2.2⟩;rw[Xh];cases h:ps[v]? with
 |none=>decide
 |some p=>exact hp p (an h)
def S9 {done:Nat}(hp:∀p∈ps,p<2 ^ 64)(h:j5 ps done=none):∀v,v<ps.length->done.testBit v=true\/¬Sub (ps.getD v 0) done:=by
 intro v hv;unfold j5 at h;rw[Zn]at h;have:=h v (XJ.2 hv);unfold iQ at this;rcases Yc (done.testBit v) with e|e
 ·exact .inl e
 ·right;intro hs;refine this ?_;rw[e,(qT ?_).2 hs]
  ·simp
  ·rw[Xh];cases h:ps[v]? with
   |none=>decide
   |some p=>exact hp p (an h)
def gY (d v i:Nat):(d |||2 ^ v).testBit i=(d.testBit i ||decide (v=i)):=by rw[XB,Yv]
def Ta (hp:∀p∈ps,p<2 ^ 64):∀(k:Nat) (out:List Nat) (done:Nat) (r:List Nat),gJ ps k out done=some r->k+cT ps.length done=ps.length ->
  jZ ps done->(∀v,v<ps.length->done.testBit v=true->(bT ps (ps.getD v 0)).testBit v=false)->jY ps:=by
 intro k
 induction k with
 |zero =>
  intro out done r _ hc hcl hall v hv;refine hall v hv ?_;rcases Yc (done.testBit v) with e|e
  ·exact e
  ·have:cT ps.length done<cT ps.length (2 ^ ps.length-1 |||done):=oO (.right _ _) hv e (by rw[XB,XT];simp[hv]);have:=Av ps.length (2 ^ ps.length-1 |||done);omega
 |succ k ih =>
  intro out done r h hc hcl hall;unfold gJ at h;split at h
  ·cases h
  ·rename_i v hn;obtain⟨h1,h2,h3⟩:=Ax hp hn;refine ih _ _ _ h ?_ ?_ ?_
   ·have:cT ps.length (done |||2 ^ v)=cT ps.length done+1:=by
     unfold cT;have:∀l:List Nat,l.Nodup->v∈l->l.countP (fun i=>(done |||2 ^ v).testBit i)=l.countP (fun i=>done.testBit i)+1:=by
      intro l
      induction l with
      |nil=>intro _ h;cases h
      |cons x l ihl =>
       intro hnd hmem;obtain⟨g1,g2⟩:=YW.1 hnd;rw[YP,YP];rcases List.mem_cons.1 hmem with rfl|hm2
       ·have:l.countP (fun i=>(done |||2 ^ v).testBit i)=l.countP (fun i=>done.testBit i):=List.countP_congr fun y hy=>by
         have:¬v=y:=(by rintro rfl;exact g1 hy);simp[gY,this]
        rw[this];simp[gY,h2]
       ·have hx:¬v=x:=(by rintro rfl;exact g1 hm2);rw[ihl g2 hm2];simp[gY,hx];omega
     exact this _ Zr (XJ.2 h1)
    omega
   ·intro u hu hb;rw[gY,XU,decide_eq_true_eq]at hb;rcases hb with hb|rfl
    ·exact(hcl u hu hb).trans (.left _ _)
    ·exact h3.trans (.left _ _)
   ·intro u hu hb;rw[gY,XU,decide_eq_true_eq]at hb;rcases hb with hb|rfl
    ·exact hall u hu hb
    ·have:=ng hcl ps.length h3;rcases Yc ((bT ps (ps.getD v 0)).testBit v) with e|e
     ·have:=this v e;rw[h2]at this;cases this
     ·exact e
def Tb (hp:∀p∈ps,p<2 ^ ps.length)(h64:ps.length<=64)(ha:jY ps):∀(k:Nat) (out:List Nat) (done:Nat),k+cT ps.length done=ps.length->∃r,gJ ps k out done=some r:=by
 have hp64:∀p∈ps,p<2 ^ 64:=fun p h=>Xd (hp p h) (Xq aax h64);have hpd:∀v,ps.getD v 0<2 ^ ps.length:=fun v=>by
  rw[Xh];cases h:ps[v]? with
  |none=>exact Yy _
  |some p=>exact hp p (an h)
 intro k
 induction k with
 |zero=>exact fun out done _=>⟨out,rfl⟩
 |succ k ih =>
  intro out done hc;unfold gJ;cases hn:j5 ps done with
  |none =>
   exfalso;have hno:=S9 hp64 hn
      -- every node that is left has a parent that is left
   have step:∀m v,v<ps.length->done.testBit v=false->cT ps.length (bT ps (ps.getD v 0))<=m->False:=by
    intro m
    induction m with
    |zero =>
     intro v hv hd hm;obtain⟨i,h1,h2⟩:∃i,(ps.getD v 0).testBit i=true/\done.testBit i=false:=by
      rcases hno v hv with h|h
      ·rw[hd]at h;cases h
      ·refine Xw fun hc=>h fun i hi=>?_;rcases Yc (done.testBit i) with e|e
       ·exact e
       ·exact absurd ⟨i,hi,e⟩ hc
     have:cT ps.length 0<cT ps.length (bT ps (ps.getD v 0)):=oO (fun j hj=>by rw[XX]at hj;cases hj) (ma (hpd v) h1) (XX i) (oL ps _ _ i h1);omega
    |succ m ihm =>
     intro v hv hd hm;obtain⟨u,h1,h2⟩:∃i,(ps.getD v 0).testBit i=true/\done.testBit i=false:=by
      rcases hno v hv with h|h
      ·rw[hd]at h;cases h
      ·refine Xw fun hc=>h fun i hi=>?_;rcases Yc (done.testBit i) with e|e
       ·exact e
       ·exact absurd ⟨i,hi,e⟩ hc
     have hu:=ma (hpd v) h1;have hcl:=Aw hp (hpd v);have hin:(bT ps (ps.getD v 0)).testBit u=true:=oL ps _ _ u h1;have hsub:Sub (bT ps (ps.getD u 0)) (bT ps (ps.getD v 0)):=ng hcl _ (hcl u hu hin);have:=oO hsub hu (ha u hu) hin;exact ihm u hu h2 (U)
   obtain⟨v,hv,hd⟩:∃v,v<ps.length/\done.testBit v=false:=by
    refine Xw fun hno=>?_;have:cT ps.length done=ps.length:=by
     unfold cT
     conv=>rhs;rw[<- Ym (n:=ps.length)]
     rw[List.countP_eq_length];intro x hx;rcases Yc (done.testBit x) with e|e
     ·exact e
     ·exact absurd ⟨x,XJ.1 hx,e⟩ hno
    omega
   exact step _ v hv hd (Nat.le_refl _)
  |some v =>
   obtain⟨h1,h2,h3⟩:=Ax hp64 hn;refine ih _ _ ?_;have:cT ps.length (done |||2 ^ v)=cT ps.length done+1:=by
    unfold cT;have:∀l:List Nat,l.Nodup->v∈l->l.countP (fun i=>(done |||2 ^ v).testBit i)=l.countP (fun i=>done.testBit i)+1:=by
     intro l
     induction l with
     |nil=>intro _ h;cases h
     |cons x l ihl =>
      intro hnd hmem;obtain⟨g1,g2⟩:=YW.1 hnd;rw[YP,YP];rcases List.mem_cons.1 hmem with rfl|hm2
      ·have:l.countP (fun i=>(done |||2 ^ v).testBit i)=l.countP (fun i=>done.testBit i):=List.countP_congr fun y hy=>by
        have:¬v=y:=(by rintro rfl;exact g1 hy);simp[gY,this]
       rw[this];simp[gY,h2]
      ·have hx:¬v=x:=(by rintro rfl;exact g1 hm2);rw[ihl g2 hm2];simp[gY,hx];omega
    exact this _ Zr (XJ.2 h1)
   omega
def EO (n:Nat):cT n 0=0:=by
 unfold cT;rw[List.countP_eq_zero];intro x _;simp
def ER (hp:∀p∈ps,p<2 ^ ps.length)(h64:ps.length<=64):(eM ps).isSome=true↔jY ps:=by
 have hp64:∀p∈ps,p<2 ^ 64:=fun p h=>Xd (hp p h) (Xq aax h64);constructor
 ·intro h;obtain⟨r,hr⟩:=XP.1 h;exact Ta hp64 _ _ _ r hr (by rw[EO];omega) (fun v _ h=>by rw[XX]at h;cases h) (fun v _ h=>by rw[XX]at h;cases h)
 ·intro h;obtain⟨r,hr⟩:=Tb hp h64 h ps.length [] 0 (by rw[EO];omega);unfold eM;rw[hr];rfl
end Go.Proofs
namespace Go.Hx
def fY (l:List Nat):nnn:=.L l.length (l.map az)
attribute [go_sem] az fY
def aB.UF {S:Nat->Prop}{lo nx:Nat}{H:nnl}{e:TypeId}{v:nnn}{l:List Nat}(h:aB lo H e v (l.map az))(hS:∀i,lo<=i->S i):Fz S H nx v (fY l):=by
 have:=h.fz (S:=S) (nx:=nx) (cs':=l.map az) hS rfl fun i hi _=>by simp only[Xi];exact .lit _
 rw[Xl]at this;exact this
end Go.Hx
namespace Go.Proofs
open Go.Hx
variable {g:Int}{ps:List Nat}{ns:List nna}{x:nna}
def FV {H H':nnl}{v:nnn}{l:List Nat}(x:Nat)(ov:nnd H H')(h:aB H.C H' 34 v (l.map az))(hl:l.length<2 ^ 40):
  ∃v' H2,bh Tryz.prog (ext H' [.O 0 34 [.lit (.int .u64 (x:Int))]]) (H'.C+1) 93 93 v (.Z H'.C 0 0 1 1)=some (v',H2)/\nnd H H2/\aB H.C H2 34 v' ((l++[x]).map az)/\H'.C<=H2.C/\(∀k,k<H'.C->(∀g n,v≠.Z k g 0 n 1)->H2.get k=H'.get k):=by
 obtain⟨v',H2,hA,hO,hn2,hp⟩:=gf (P:=Tryz.prog) (H:=H') (t:=93) (x:=az x) (n:=H'.C+1) Tryz.underlying93 Tryz.DZ Tryz.D1 rfl (by rw[Tryz.D0,Xl];omega) h ov.C rfl;simp only[az]at hA;exact⟨v',H2,hA,oX ov h hn2 hp,by rw[X2];exact hO,hn2,hp⟩
def AY (m v:Nat)(hm:m<2 ^ 64)(hv:v<2 ^ 62)(H:nnl)(K:nnf->nnl->Prop)(hK:K (.ret (.lit (.bool (m.testBit v)))) H):af Tryz.prog G0 122 [az m,aa v] H K:=by
 refine af.st (n:=11) (rs:=[.tmp 4]) Tryz.func122 ?_;have w1:=Zd (v:Int) U;have s1:=fun t x y=>lh (P:=Tryz.prog) (t:=t) (x:=x) (y:=y) (k':=.u64) (s:=v) hm;have s2:=fun t x y=>pr (P:=Tryz.prog) (t:=t) (x:=x) (y:=y) (s:=v) hm;cases hb:m.testBit v
 ·rw[hb]at hK;simp only[go_sem,w1,s1,s2,hb];exact ar.mk aaz hK
 ·rw[hb]at hK;simp only[go_sem,w1,s1,s2,hb];exact ar.mk aaz hK
def aq (ns:List nna):List Nat:=ns.map fun x=>bc x.J
def lf {k:Nat}(h:ns[k]?=some x):(aq ns)[k]?=some (bc x.J):=by unfold aq;rw[List.getElem?_map,h];rfl
def FW (g:Int)(ns:List nna)(hl:(ns.length:Int)<2 ^ 39)(hp:∀x∈ns,(x.J.length:Int)<2 ^ 39/\∀q∈x.J,0<=q/\q<64)(H:nnl)(K:nnf->nnl->Prop)
  (hK:K (.ret (fY (aq ns))) H):af Tryz.prog G0 36 [bS g ns] H K:=by
 refine af.nb ⟨_,Tryz.func36,rfl,rfl⟩ fun hcl=>?_;refine af.st (n:=43) (rs:=[.tmp 2]) Tryz.func36 ?_;simp only[go_sem,bS,di];obtain⟨H1,hH1⟩:∃H1,H1=ext H [.O 0 90 [.lit (.int .i64 g),.L ns.length (aG ns)]]:=⟨_,rfl⟩
 have l1:H1.na H.C 0=some (90,[.lit (.int .i64 g),.L ns.length (aG ns)]):=by rw[hH1];exact ag (bY ..)
 have n1:H1.C=H.C+1:=hH1▸rfl
 have o1:nnd H H1:=hH1▸.ext _ _
 rw[<- hH1];refine W.aM 4398046511096 (by rfl) (fun ρ H'=>∃k:Nat,ρ 4=aa k/\k<=ns.length/\ρ 1=.Y H.C 0 0/\nnd H1 H'/\aB H1.C H' 34 (ρ 3) (((aq ns).take k).map az)) (fun ρ H=>ns.length-(iv (ρ 4)).toNat) ?_ ?_
 ·simp only[go_sem];exact⟨0,rfl,U,.refl _,.nil⟩
 rintro ρ H' ⟨k,h4,hk,h1,ov,h3⟩;refine W.vs ?_;have l2:=(ov.na (g:=0) (by omega:H.C<H1.C)).trans l1;by_cases hb:(k:Int)<ns.length
 ·obtain⟨x,hx⟩:=get_of_lt (l:=ns) (i:=k) U;have hne:=eC hx;have e1:=jW hx;obtain⟨xl,xr⟩:=hp x (an hx);simp only[go_sem,h4,h1,l2,hb];refine W.aM 274877890656 (by rfl) (fun ρ' H2=>H2=H'/\∃j:Nat,ρ' 6=aa j/\j<=x.J.length/\ρ' 5=az (bc (x.J.take j))) (fun ρ' H=>x.J.length-(iv (ρ' 6)).toNat) ?_ ?_
  ·simp only[go_sem];exact⟨0,rfl,U,rfl⟩
  rintro ρ' H2 ⟨rfl,j,h6,hj,h5⟩;refine W.vs ?_;by_cases hb2:(j:Int)<x.J.length
  ·obtain⟨q,hq⟩:=get_of_lt (l:=x.J) (i:=j) U;obtain⟨q0,q1⟩:=xr q (an hq);obtain⟨u,rfl⟩:=Xn q0;have hne2:=aS hq;have w1:=Zd (u:Int) U;have w2:=W6 ((j:Int)+1) U;have b1:bc (x.J.take j)<2 ^ 64:=kW fun p hp=>by have:=xr p (Xz hp);omega
   have s1:=fun t x y=>fZ (P:=Tryz.prog) (t:=t) (x:=x) (y:=y) (k':=.u64) (s:=u) U;have s2:=fun t x y=>fj (P:=Tryz.prog) (t:=t) (x:=x) (y:=y) (b:=2 ^ u) b1 (XG aax U);simp only[go_sem,h4,h1,l2,hb,hne,e1,h6,h5,hb2,hq,hne2,w1,w2,s1,s2];exact⟨⟨j+1,aaw,U,by rw[aQ hq,vW];rfl⟩,U⟩
  ·obtain⟨v',H3,hA,ov2,hO,hn2,_⟩:=FV (bc x.J) ov h3 (by simp[aq];omega);have w1:=W6 ((k:Int)+1) U;rw[W9 U]at h5;simp only[go_sem,h4,h1,l2,hb,hne,e1,h6,h5,hb2,w1,hA];refine⟨by have:=ov2.C;omega,⟨k+1,aaw,U,ov2,?_⟩,U⟩;rw[aQ (lf hx)];exact hO
 ·simp only[go_sem,h4,h1,l2,hb];rw[W9 (by simp[aq];omega)]at h3;exact ar.bw aO hcl (o1.trans ov) (h3.UF fun i hi=>U) hK
def FX (hp:∀p∈ps,p<2 ^ 64)(l:List Nat):∀s,s<2 ^ 64->l.foldl (fB ps) s<2 ^ 64:=by
 induction l with
 |nil=>exact fun s h=>h
 |cons v l ih =>
  intro s h;refine ih _ ?_;unfold fB;split
  ·refine XV h ?_;rw[Xh];cases h:ps[v]? with
   |none=>decide
   |some p=>exact hp p (an h)
  ·exact h
theorem AZ (hp:∀p∈ps,p<2 ^ 64){s:Nat}(hs:s<2 ^ 64):∀k,eD ps k s<2 ^ 64
 |0=>hs
 |k+1=>FX hp _ _ (AZ hp hs k)
def UG (ps:List Nat)(s:Nat)(hl:(ps.length:Int)<2 ^ 39)(hp:∀p∈ps,p<2 ^ 64)(hs:s<2 ^ 64)(H:nnl)(K:nnf->nnl->Prop)(hK:K (.ret (az (bT ps s))) H):af Tryz.prog G0 151 [fY ps,az s] H K:=by
 refine af.st (n:=29) (rs:=[.tmp 4]) Tryz.func151 ?_;simp only[go_sem];refine W.aM 268435426 (by rfl) (fun ρ H'=>H'=H/\∃k:Nat,ρ 5=aa k/\k<=ps.length/\ρ 1=az (eD ps k s)) (fun ρ H=>ps.length-(iv (ρ 5)).toNat) ?_ ?_
 ·simp only[go_sem];exact⟨0,rfl,U,rfl⟩
 rintro ρ H' ⟨rfl,k,h5,hk,h1⟩;refine W.vs ?_;by_cases hb:(k:Int)<ps.length
 ·simp only[go_sem,h5,hb];refine W.aM 268427330 (by rfl) (fun ρ' H2=>H2=H'/\∃j:Nat,ρ' 6=aa j/\j<=ps.length/\ρ' 1=az ((List.range j).foldl (fB ps) (eD ps k s))) (fun ρ' H=>ps.length-(iv (ρ' 6)).toNat) ?_ ?_
  ·simp only[go_sem,h1];exact⟨0,rfl,U,rfl⟩
  rintro ρ' H2 ⟨rfl,j,h6,hj,h1'⟩;refine W.vs ?_;by_cases hb2:(j:Int)<ps.length
  ·obtain⟨p,hpj⟩:=get_of_lt (l:=ps) (i:=j) U;have hne:=aS hpj;have b1:=FX hp (List.range j) _ (AZ hp hs k);have w2:=W6 ((j:Int)+1) U;have hst:(List.range (j+1)).foldl (fB ps) (eD ps k s)=fB ps ((List.range j).foldl (fB ps) (eD ps k s)) j:=(by rw[Yj,Yn];rfl);have s2:=fun t x y=>fj (P:=Tryz.prog) (t:=t) (x:=x) (y:=y) b1 (hp p (an hpj));obtain⟨m,hm⟩:∃m,m=(List.range j).foldl (fB ps) (eD ps k s):=⟨_,rfl⟩
   rw[<- hm]at b1 h1' hst s2;simp only[go_sem,h6,h1',hb2];refine aC.nb (AY m j b1 U _ _ ⟨trivial,?_⟩);cases hbit:m.testBit j
   ·simp only[go_sem,h6,h1',w2];exact⟨⟨j+1,aaw,U,by rw[hst];unfold fB;rw[hbit];rfl⟩,U⟩
   ·simp only[go_sem,h6,h1',w2,hb2,hpj,hne,s2];exact⟨⟨j+1,aaw,U,by rw[hst];unfold fB;rw[hbit,W8 rfl,cP hpj]⟩,U⟩
  ·have w2:=W6 ((k:Int)+1) U;have ej:j=ps.length:=U;subst ej;simp only[go_sem,h6,h1',hb2,h5,w2];exact⟨⟨k+1,aaw,U,rfl⟩,U⟩
 ·simp only[go_sem,h5,h1,hb];have ek:k=ps.length:=U
  subst ek;exact ar.mk aaz hK
def tq (ps:List Nat):Bool:=(List.range ps.length).all fun v=>!(bT ps (ps.getD v 0)).testBit v
def wS (ps:List Nat):tq ps=true↔jY ps:=by
 unfold tq jY;simp only[XK,XJ,Z1]
def UH (ps:List Nat)(hl:(ps.length:Int)<2 ^ 39)(hp:∀p∈ps,p<2 ^ 64)(H:nnl)(K:nnf->nnl->Prop)(hK:K (.ret (.lit (.bool (tq ps)))) H):af Tryz.prog G0 125 [fY ps] H K:=by
 have no:¬tq ps=true->ar Tryz.prog G0 H K (.lit (.bool false)) H:=fun h=>ar.mk aaz (by rw[Z2.2 h]at hK;exact hK);refine af.st (n:=18) (rs:=[.tmp 2]) Tryz.func125 ?_;simp only[go_sem];refine W.aM 262140 (by rfl) (fun ρ H'=>H'=H/\∃k:Nat,ρ 3=aa k/\k<=ps.length/\∀v,v<k->(bT ps (ps.getD v 0)).testBit v=false) (fun ρ H=>ps.length-(iv (ρ 3)).toNat) ?_ ?_
 ·simp only[go_sem];exact⟨0,rfl,U,fun v h=>absurd h (Xo _)⟩
 rintro ρ H' ⟨rfl,k,h3,hk,ha⟩;refine W.vs ?_;by_cases hb:(k:Int)<ps.length
 ·obtain⟨p,hpk⟩:=get_of_lt (l:=ps) (i:=k) U;have hne:=aS hpk;have hp1:=hp p (an hpk);simp only[go_sem,h3,hb,hpk,hne];refine aC.nb (UG ps p hl hp hp1 _ _ ⟨trivial,?_⟩);simp only[go_sem,h3];refine aC.nb (AY (bT ps p) k (AZ hp hp1 _) U _ _ ⟨trivial,?_⟩);have w2:=W6 ((k:Int)+1) U;cases hbit:(bT ps p).testBit k
  ·simp only[go_sem,h3,w2];refine⟨⟨k+1,aaw,U,fun v hv=>?_⟩,U⟩;rcases Xu v k with h|h
   ·exact ha v h
   ·obtain rfl:v=k:=U;rw[cP hpk];exact hbit
  ·simp only[go_sem];refine no fun h=>?_;have:=(wS ps).1 h k U;rw[cP hpk,hbit]at this;cases this
 ·simp only[go_sem,h3,hb];rw[(wS ps).2 fun v hv=>ha v U]at hK;exact ar.mk aaz hK
def jx (g Q:Int)(r:List Int):Prop:=(r.length:Int)=Q/\(∀w∈r,0<=w/\w<=g)/\r.sum=g
def fK (g:Int)(ns:List nna)(x:nna):Prop:=(x.X.length:Int)=aL (aW ns x)/\∀r∈x.X,jx g x.Q r
structure nnw (g:Int)(ns:List nna):Prop where
 g1:1<=g/\g<=60
 n1:1<=ns.length/\ns.length<=8
 node:∀x∈ns,(1<=x.Q/\x.Q<=4)/\bB x.J ns.length
 size:aL (aE ns)<=1024
 acyc:jY (aq ns)
 X:∀x∈ns,fK g ns x
noncomputable def nA (g:Int)(ns:List nna):Bool:=@decide (nnw g ns) (Classical.propDecidable _)
def tt (h:nnw g ns):nA g ns=true:=by unfold nA;exact @decide_eq_true _ (Classical.propDecidable _) h
def tu (h:¬nnw g ns):nA g ns=false:=by unfold nA;exact @decide_eq_false _ (Classical.propDecidable _) h
def pe (ns:List nna):Prop:=(ns.length:Int)<2 ^ 38/\∀x∈ns,(x.J.length:Int)<2 ^ 38/\(x.X.length:Int)<2 ^ 38/\∀r∈x.X,(r.length:Int)<2 ^ 38
def tv {l:List Int}(h:l.length<=12)(h2:∀x∈l,1<=x/\x<=4):fh l:=⟨h,fun x hx=>by have:=h2 x hx;omega⟩
def pf (hin:jt x.J ns.length)(hc:∀y∈ns,1<=y.Q/\y.Q<=4):∀c∈aW ns x,1<=c/\c<=4:=fun c h=>by
 unfold aW bb at h;obtain⟨q,hq,rfl⟩:=Xx.1 h;obtain⟨j,rfl,y,hy⟩:=oK (l:=ns) (hin q hq).1 (hin q hq).2;rw[Int.toNat_natCast,cP (dK hy)];exact hc y (an hy)
def nC (h8:ns.length<=8)(hp:bB x.J ns.length)(hc:∀y∈ns,1<=y.Q/\y.Q<=4):fh (aW ns x):=by
 refine tv ?_ (pf (fun q hq=>by have:=hp.2 q hq;omega) hc);rw[show (aW ns x).length=_ from jv _ _];have:=hp.len;omega
def wT {n:Nat}(h:∀x∈ns,∀q∈x.J,0<=q/\q<(n:Int)):∀p∈aq ns,p<2 ^ n:=fun p hp=>by
 obtain⟨x,hx,rfl⟩:=Xx.1 hp;exact kW fun q hq=>by have:=h x hx q hq;omega
def wU (l:List Int)(x:Int):(l++[x]).sum=l.sum+x:=aaw
def FY (g:Int)(ns:List nna)(hf:pe ns)(H:nnl)(K:nnf->nnl->Prop)(hK:K (.ret (.lit (.bool (nA g ns)))) H):af Tryz.prog G0 82 [bS g ns] H K:=by
 refine af.nb ⟨_,Tryz.func82,rfl,rfl⟩ fun hcl=>?_;have no:¬nnw g ns->∀H',nnd H H'->ar Tryz.prog G0 H K (.lit (.bool false)) H':=fun h H' ov=>ar.bw aO hcl ov (.lit _) (by rw[tu h]at hK;exact hK);refine af.st (n:=154) (rs:=[.tmp 2]) Tryz.func82 ?_;simp only[go_sem,bS,di];obtain⟨H1,hH1⟩:∃H1,H1=ext H [.O 0 90 [.lit (.int .i64 g),.L ns.length (aG ns)]]:=⟨_,rfl⟩
 have l1:H1.na H.C 0=some (90,[.lit (.int .i64 g),.L ns.length (aG ns)]):=by rw[hH1];exact ag (bY ..)
 have n1:H1.C=H.C+1:=hH1▸rfl
 have o1:nnd H H1:=hH1▸.ext _ _
 rw[<- hH1];by_cases c1:g<1
 ·simp only[go_sem,c1];exact no (fun h=>by have:=h.g1;omega) _ o1
 by_cases c2:g > 60
 ·simp only[go_sem,l1,c1,c2];exact no (fun h=>by have:=h.g1;omega) _ o1
 by_cases c3:(ns.length:Int)<1
 ·simp only[go_sem,l1,c1,c2,c3];exact no (fun h=>by have:=h.n1;omega) _ o1
 by_cases c4:(ns.length:Int) > 8
 ·simp only[go_sem,l1,c1,c2,c3,c4];exact no (fun h=>by have:=h.n1;omega) _ o1
 simp only[go_sem,l1,c1,c2,c3,c4];refine W.aM 18446744071562068028 (by rfl) (fun ρ H'=>∃k:Nat,ρ 4=aa k/\k<=ns.length/\nnd H1 H'/\(∀x∈ns.take k,(1<=x.Q/\x.Q<=4)/\bB x.J ns.length)/\ρ 3=aa (aL ((aE ns).take k))) (fun ρ H=>ns.length-(iv (ρ 4)).toNat) ?_ ?_
 ·simp only[go_sem];exact⟨0,rfl,U,.refl _,aaw,by simp[l9]⟩
 ·rintro ρ H' ⟨k,h4,hk,ov,hall,h3⟩;refine W.vs ?_;have l2:=(ov.na (g:=0) (by omega:H.C<H1.C)).trans l1;have hlt:H.C<H'.C:=by have:=ov.C;omega
  have l3:∀L,(ext H' L).na H.C 0=_:=fun L=>(cB hlt).trans l2;by_cases hb:(k:Int)<ns.length
  ·obtain⟨x,hx⟩:=get_of_lt (l:=ns) (i:=k) U;have hxm:=an hx;have hne:=eC hx;have e0:=lZ hx;have e1:k*3+3<=(aG ns).length:=(by rw[fJ];omega);have nb:¬H.C=H'.C:=U;have ove:∀L,nnd H (ext H' L):=fun L=>(o1.trans ov).trans (.ext _ _);by_cases d1:x.Q<1
   ·simp only[go_sem,h4,l2,hb,hne,e0,e1,d1];exact no (fun h=>by have:=(h.node x hxm).1;omega) _ (ove _)
   by_cases d2:x.Q > 4
   ·simp only[go_sem,h4,l2,hb,hne,e0,e1,d1,d2];exact no (fun h=>by have:=(h.node x hxm).1;omega) _ (ove _)
   simp only[go_sem,h4,l2,l3,hb,hne,e0,e1,d1,d2];refine aC.nb (FR x.J ns.length (by have:=(hf.2 x hxm).1;omega) _ _ ⟨trivial,?_⟩);by_cases d3:bB x.J ns.length;rotate_left
   ·simp only[go_sem,d3];exact no (fun h=>d3 (h.node x hxm).2) _ (ove _)
   have hall':∀y∈ns.take (k+1),(1<=y.Q/\y.Q<=4)/\bB y.J ns.length:=fun y hy=>by
    rw[aQ hx]at hy;rcases Xt.1 hy with hy|hy
    ·exact hall y hy
    ·obtain rfl:=List.mem_singleton.1 hy;exact⟨U,d3⟩
   have b1:fh ((aE ns).take (k+1)):=tv (by simp[aE];omega) fun c hc=>by
    rw[show (aE ns).take (k+1)=aE (ns.take (k+1)) by simp[aE]]at hc;obtain⟨y,hy,rfl⟩:=Xx.1 hc;exact(hall' y hy).1
   have b2:=b1.prod;rw[aQ (dK hx),gX]at b2;have w1:=W6 ((k:Int)+1) U;have w2:=W6 (aL ((aE ns).take k)*x.Q) U;simp only[go_sem,h4,h3,d3,w1,w2];exact⟨by have:=ov.C;omega,⟨k+1,aaw,U,ov.trans (.ext _ _),fun y hy=>hall' y hy,by rw[aQ (dK hx),gX]⟩,U⟩
  ·have ek:k=ns.length:=U;subst ek;rw[W9 aaz]at hall;rw[W9 (by rw[gL];omega)]at h3;have hcards:∀y∈ns,1<=y.Q/\y.Q<=4:=fun y hy=>(hall y hy).1;have ov0:=o1.trans ov;by_cases c5:aL (aE ns) > 1024
   ·simp only[go_sem,h4,h3,l2,hb,c5];exact no (fun h=>by have:=h.size;omega) _ ov0
   simp only[go_sem,h4,h3,l2,hb,c5];have hpl:∀x∈ns,(x.J.length:Int)<2 ^ 39/\∀q∈x.J,0<=q/\q<64:=fun x hx=>⟨by have:=(hf.2 x hx).1;omega,fun q hq=>by have:=(hall x hx).2.2 q hq;omega⟩
   refine aC.nb (FW g ns (by have:=hf.1;omega) hpl _ _ ⟨trivial,?_⟩);simp only[go_sem];refine aC.nb (UH (aq ns) (by simp[aq];omega) (fun p hp=>Xd (wT (n:=64) (fun x hx q hq=>by have:=(hpl x hx).2 q hq;omega) p hp) aaz) _ _ ⟨trivial,?_⟩);cases hac:tq (aq ns)
   ·simp only[go_sem];exact no (fun h=>by rw[(wS _).2 h.acyc]at hac;cases hac) _ ov0
   simp only[go_sem];refine W.aM 22835963083295358096932570788825439312478734276 (by rfl) (fun ρ' H2=>∃k:Nat,ρ' 6=aa k/\k<=ns.length/\nnd H' H2/\∀x∈ns.take k,fK g ns x) (fun ρ' H=>ns.length-(iv (ρ' 6)).toNat) ?_ ?_
   ·simp only[go_sem];exact⟨0,rfl,U,.refl _,aaw⟩
   rintro ρ' H2 ⟨k,h6,hk,ov2',hrows⟩;have ov2:=ov.trans ov2';refine W.vs ?_;have l2:=(ov2.na (g:=0) (by omega:H.C<H1.C)).trans l1;have hlt:H.C<H2.C:=(by have:=ov2.C;omega);by_cases hb:(k:Int)<ns.length;rotate_left
   ·simp only[go_sem,h6,l2,hb];rw[W9 U]at hrows;rw[tt ⟨U,U,hall,U,(wS _).1 hac,hrows⟩]at hK;exact ar.bw aO hcl (o1.trans ov2) (.lit _) hK
   obtain⟨x,hx⟩:=get_of_lt (l:=ns) (i:=k) U;have hxm:=an hx;have hne:=eC hx;have e0:=lZ hx;have e1:k*3+3<=(aG ns).length:=(by rw[fJ];omega);obtain⟨x1,x2⟩:=hall x hxm;obtain⟨f1,f2,f3⟩:=hf.2 x hxm;have sm:=nC U x2 hcards;simp only[go_sem,h6,l2,hb,hne,e0,e1];obtain⟨H3,hH3⟩:∃H3,H3=ext H2 [.O 0 76 [.lit (.int .i64 x.Q),.L x.J.length (ints x.J),aD x.X]]:=⟨_,rfl⟩
   have m1:H3.na H2.C 0=some (76,[.lit (.int .i64 x.Q),.L x.J.length (ints x.J),aD x.X]):=(by rw[hH3];exact ag (bY ..));have m2:H3.na H.C 0=some (90,[.lit (.int .i64 g),.L ns.length (aG ns)]):=(by rw[hH3,cB hlt];exact l2);have m3:H3.C=H2.C+1:=(by rw[hH3];rfl);have ov3:nnd H1 H3:=(by rw[hH3];exact ov2.trans (.ext _ _));have ov4:nnd H H3:=o1.trans ov3;rw[<- hH3];refine W.dr 7 [0,1,3,0,0,24,56] Tryz.mixed ?_;simp only[go_sem,h6,m1,m2,aD];refine⟨ah (aW ns x),[],cz.pure fun H2=>UD g ns k x hx (by have:=hf.1;omega) U (fun q hq=>by have:=x2.2 q hq;omega) H2 _ ⟨rfl,rfl⟩,?_⟩;simp only[go_sem];refine⟨aa (aL (aW ns x)),[],cz.pure fun H2=>AW (aW ns x) sm H2 _ ⟨rfl,rfl⟩,?_⟩;by_cases d1:(x.X.length:Int)=aL (aW ns x);rotate_left
   ·simp only[go_sem,d1];exact no (fun h=>d1 (h.X x hxm).1) _ ov4
   simp only[go_sem,d1];refine W.aM 22835963083295358091980815354050401082527450884 (by rfl) (fun ρ2 H4=>H4=H3/\∃j:Nat,ρ2 8=aa j/\j<=x.X.length/\∀r∈x.X.take j,jx g x.Q r) (fun ρ2 H=>x.X.length-(iv (ρ2 8)).toNat) ?_ ?_
   ·simp only[go_sem];exact⟨0,rfl,U,aaw⟩
   rintro ρ2 H4 ⟨rfl,j,h8,hj,hrj⟩;refine W.vs ?_;by_cases hb2:(j:Int)<x.X.length;rotate_left
   ·have w1:=W6 ((k:Int)+1) U;have hb2':¬(j:Int)<aL (aW ns x):=U;simp only[go_sem,h6,h8,m1,hb2',d1,w1,aD];rw[W9 U]at hrj;refine⟨by have:=ov2'.C;omega,⟨k+1,aaw,U,by rw[hH3];exact ov2'.trans (.ext _ _),fun y hy=>?_⟩,U⟩;rw[aQ hx]at hy;rcases Xt.1 hy with hy|hy
    ·exact hrows y hy
    ·obtain rfl:=List.mem_singleton.1 hy;exact⟨d1,hrj⟩
   obtain⟨r,hr⟩:=get_of_lt (l:=x.X) (i:=j) U;have hrm:=an hr;have hrne:=aS hr;have hb2':(j:Int)<aL (aW ns x):=U;have nope:¬jx g x.Q r->¬nnw g ns:=fun h h'=>h ((h'.X x hxm).2 r hrm);simp only[go_sem,h8,m1,hb2',d1,aD];refine W.dr 8 [0,1,0,7,15,31,0,64] Tryz.mixed ?_;by_cases d2:(r.length:Int)=x.Q;rotate_left
   ·simp only[go_sem,h8,m1,hb2',d1,d2,hr,hrne,aD];exact no (nope fun h=>d2 h.1) _ ov4
   simp only[go_sem,h8,m1,hb2',d1,d2,hr,hrne,aD];refine W.aM 1427247692705635362504627542722711980362171908 (by rfl) (fun ρ3 H5=>H5=H4/\∃i:Nat,ρ3 10=aa i/\i<=r.length/\ρ3 9=aa (r.take i).sum/\∀w∈r.take i,0<=w/\w<=g) (fun ρ3 H=>r.length-(iv (ρ3 10)).toNat) ?_ ?_
   ·simp only[go_sem];exact⟨0,rfl,U,aaw,aaw⟩
   rintro ρ3 H5 ⟨rfl,i,h10,hi,h9,hw⟩;refine W.vs ?_;have sb:0<=(r.take i).sum/\(r.take i).sum<=60*i:=by
    have key:∀l:List Int,(∀w∈l,0<=w/\w<=g)->0<=l.sum/\l.sum<=60*l.length:=by
     intro l
     induction l with
     |nil=>intro _;simp
     |cons a l ih =>
      intro h;have h1:=ih fun w hw=>h w (by simp[hw]);have h2:=h a aaw;simp only[Y9,List.length_cons]
      push_cast
      omega
    have:=key _ hw;rw[Xm,Zi U]at this;exact this
   have r4:r.length<=4:=U;by_cases hb3:(i:Int)<r.length<;>have hb3':=hb3<;>rw[d2]at hb3'
   rotate_left
   ·rw[W9 U]at h9 hw;by_cases d3:r.sum=g;rotate_left
    ·simp only[go_sem,h8,h9,h10,m1,m2,hb3',hr,hrne,hb2',d1,d2,d3,aD];exact no (nope fun h=>d3 h.2.2) _ ov4
    have w1:=W6 ((j:Int)+1) (by have:=(hf.2 x hxm).2.1;omega);simp only[go_sem,h8,h9,h10,m1,m2,hb3',hr,hrne,hb2',d1,d2,d3,w1,aD];refine⟨⟨j+1,aaw,U,fun y hy=>?_⟩,U⟩;rw[aQ hr]at hy;rcases Xt.1 hy with hy|hy
    ·exact hrj y hy
    ·obtain rfl:=List.mem_singleton.1 hy;exact⟨d2,hw,d3⟩
   obtain⟨a,ha⟩:=get_of_lt (l:=r) (i:=i) U;have ham:=an ha;have hane:=aS ha;simp only[go_sem,h8,h10,m1,hr,hrne,hb2',hb3',d1,d2,aD];refine W.dr 20 [0,1,0,7,15,0,63,127,255,511,1023,2047,1023,8191,16383,1023,65535,131071,1023,263167] Tryz.mixed ?_;by_cases d3:a<0
   ·simp only[go_sem,h8,h10,m1,hr,hrne,hb2',hb3',ha,hane,d1,d2,d3,aD];exact no (nope fun h=>by have:=h.2.1 a ham;omega) _ ov4
   by_cases d4:a > g
   ·simp only[go_sem,h8,h10,m1,m2,hr,hrne,hb2',hb3',ha,hane,d1,d2,d3,d4,aD];exact no (nope fun h=>by have:=h.2.1 a ham;omega) _ ov4
   have w1:=W6 ((i:Int)+1) U;have w2:=W6 ((r.take i).sum+a) U;simp only[go_sem,h8,h9,h10,m1,m2,hr,hrne,hb2',hb3',ha,hane,d1,d2,d3,d4,w1,w2,aD];refine⟨⟨i+1,aaw,U,by rw[aQ ha,wU],fun w hw'=>?_⟩,U⟩;rw[aQ ha]at hw';rcases Xt.1 hw' with hw'|hw'
   ·exact hw w hw'
   ·obtain rfl:=List.mem_singleton.1 hw';exact⟨U,U⟩
end Go.Proofs
namespace Go.Hx
variable {P:Program} {G:Nat->Option (List nnn)} {n:Nat} {rd:Option Nat} {Q:AX->St->Prop}
def A9 (P:Program)(G:Nat->Option (List nnn))(f:FuncId)(first cap:List nnn)(xs:List (List nnn))(S:nnl->Prop):Prop :=
 ∀(idy:Nat) (J:Nat->nnl->Prop) (Stop:nnl->Prop) (H:nnl) (K:nnf->nnl->Prop),
  (∀k H1,J k H1->S H1)->J 0 H ->
  (∀k x H1 K1,xs[k]?=some x->J k H1->H.C<=H1.C->(∀H',J (k+1) H'->H1.C<=H'.C->K1 (.ret (.lit (.bool true))) H')->(∀H',Stop H'->H1.C<=H'.C->K1 (.ret (.lit (.bool false))) H')->aC P G (.nk idy) x H1 K1) ->
  (∀H',J xs.length H'->H.C<=H'.C->K (.ret (.nc [])) H') ->
  (∀H',Stop H'->H.C<=H'.C->K (.ret (.nc [])) H') ->
  af P G f (first++[.nk idy]++cap) H K
def iX (idy:Nat)(B:Blk)(lo:Nat)(J:nnl->Prop)(Stop:AX->nnl->Prop):AX->St->Prop
 |.normal,s=>s.H.get idy=some B/\lo<=s.H.C/\J s.H
 |.ret,s=>s.H.get idy=some B/\lo<=s.H.C/\Stop .ret s.H
 |.exit i,s=>s.H.get idy=some B/\lo<=s.H.C/\Stop (.exit i) s.H
 |_,_=>False
def tA (P:Program)(G:Nat->Option (List nnn))(n idy:Nat)(B Bb:Blk)(lo:Nat)(body:Code)(J:nnl->Prop)(Stop:AX->nnl->Prop):AX->St->Prop
 |.normal,s=>s.H.get idy=some B/\W P G n (some idy) body (iX idy Bb lo J Stop) ⟨s.ρ,s.H.upd idy Bb⟩
 |_,_=>False
def W.xb {g:Operand}{ps:Array Tmp}{asg body:Code}{ρ:Env}{H:nnl}{f:FuncId}{first cap:List nnn}{xs:List (List nnn)}{S:nnl->Prop}(hg:ak G ρ g=.nb f first cap)
  (hit:A9 P G f first cap xs S) (J:Nat->nnl->Prop) (Stop:AX->nnl->Prop) (hS:∀k H1,J k H1->S H1)
  (hJu:∀k H1 b,J k H1->J k (H1.upd H.C b)) (hSu:∀c H1 b,Stop c H1->Stop c (H1.upd H.C b))
  (hJ0:∀b,J 0 (ext H [b])) (hps:ps.toList.all (fun t=>decide (t<n))=true) (hxl:∀x∈xs,x.length=ps.size)
  (hrd:∀k H1,J k H1->eS H1 rd) (hrd2:∀c H1,Stop c H1->eS H1 rd)
  (hround:∀k x H1 B Bb,xs[k]?=some x->J k H1->H.C+1<=H1.C->H1.get H.C=some B->(∃st pd n' en ps' as' bo,Bb=Blk.loop st pd n' en ps' as' bo) ->
   W P G n (some H.C) asg (tA P G n H.C B Bb H1.C body (J (k+1)) Stop) ⟨lO (dT ρ n) (ps.toList.zip x),H1⟩)
  (hend:∀H',J xs.length H'->H.C+1<=H'.C->Q .normal ⟨ρ,H'⟩)
  (hret:∀H',Stop .ret H'->H.C+1<=H'.C->Q .ret ⟨ρ,H'⟩) (hexit:∀i H',Stop (.exit i) H'->H.C+1<=H'.C->Q (.exit i) ⟨ρ,H'⟩):
  W P G n rd (.rangeFunc g ps asg body) Q ⟨ρ,H⟩:=by
 refine W.rangeFunc (s:=⟨ρ,H⟩) hg ⟨_,yB _ _,?_⟩;obtain⟨B,hB⟩:∃B,B=Blk.loop .ready none n ρ ps asg body:=⟨_,rfl⟩
 obtain⟨Bb,hBb⟩:∃B,B=Blk.loop .busy none n ρ ps asg body:=⟨_,rfl⟩
 have nx:(ext H [B]).C=H.C+1:=rfl;show af P G f (first++[.nk H.C]++cap) (ext H [Blk.loop .ready none n ρ ps asg body]) (yK rd Q ρ H.C);rw[<- hB];refine hit H.C (fun k H1=>H1.get H.C=some B/\J k H1) (fun H1=>∃c pend,H1.get H.C=some (.loop .done (some pend) n ρ ps asg body)/\Stop c H1/\((c=.ret/\pend=.ret)\/∃i,c=.exit i/\pend=.exit i)) _ _
  (fun k H1 h=>hS k H1 h.2) ⟨bV,hJ0 B⟩ (fun k x H1 K1 hx hj hn hgo hst=>?_) (fun H' hj hn=>?_) (fun H' hj hn=>?_)
 ·have hxm:=hxl x (an hx);refine aC.nk (hj.1.trans (congrArg some hB)) hxm hps ?_;refine(hround k x H1 B Bb hx hj.2 hn hj.1 ⟨_,_,_,_,_,_,_,hBb⟩).mono fun e s1 h1=>?_;cases e with
  |normal =>
   obtain⟨a1,a2⟩:=h1;refine⟨Bb,by rw[a1,hB,hBb];rfl,?_⟩;refine a2.mono fun e2 s2 h2=>?_;cases e2 with
   |normal =>
    obtain⟨b1,b2,b3⟩:=h2;exact⟨B,by rw[b1,hB,hBb];rfl,hgo _ ⟨by rw[ae,W8 rfl],hJu _ _ _ b3⟩ b2⟩
   |ret =>
    obtain⟨b1,b2,b3⟩:=h2;exact⟨.loop .done (some .ret) n ρ ps asg body,by rw[b1,hBb];rfl,hst _ ⟨.ret,.ret,by rw[ae,W8 rfl],hSu _ _ _ b3,.inl ⟨rfl,rfl⟩⟩ b2⟩
   |exit i =>
    obtain⟨b1,b2,b3⟩:=h2;exact⟨.loop .done (some (.exit i)) n ρ ps asg body,by rw[b1,hBb];rfl,hst _ ⟨.exit i,.exit i,by rw[ae,W8 rfl],hSu _ _ _ b3,.inr ⟨i,rfl,rfl⟩⟩ b2⟩
   |_=>exact h2.elim
  |_=>exact h1.elim
 ·refine⟨hrd _ _ hj.2,(none,.loop .exhausted none n ρ ps asg body),by rw[hj.1,hB];rfl,?_⟩;exact hend _ (hJu _ _ _ hj.2) hn
 ·obtain⟨c,pend,h1,h2,h3⟩:=hj;refine⟨hrd2 _ _ h2,(some pend,.loop .exhausted (some pend) n ρ ps asg body),by rw[h1];rfl,?_⟩;rcases h3 with ⟨rfl,rfl⟩|⟨i,rfl,rfl⟩
  ·exact hret _ (hSu _ _ _ h2) hn
  ·exact hexit i _ (hSu _ _ _ h2) hn
end Go.Hx
namespace Go.Proofs
open Go.Hx
variable {g:Int}{X:List (List Int)}{l:List Int}{ns:List nna}{k:Nat}{x:nna}
def tw (x:nna):nnn:=.agg [.lit (.int .i64 x.Q),.L x.J.length (ints x.J),aD x.X]
def nD (X:List (List Int)):List (List nnn):=X.zipIdx.map fun p=>[aa p.2,ah p.1]
def FZ {x:List nnn}(h:(nD X)[k]?=some x):∃r,X[k]?=some r/\x=[aa k,ah r]:=by
 unfold nD at h;rw[List.getElem?_map,YK]at h;cases hr:X[k]? with
 |none=>rw[hr]at h;simp at h
 |some r=>rw[hr]at h;simp at h;exact⟨r,rfl,h.symm⟩
def UI {r:List Int}(h:X[k]?=some r):(nD X)[k]?=some [aa k,ah r]:=by
 unfold nD;rw[List.getElem?_map,YK,h];simp
def F1 (X:List (List Int)):(nD X).length=X.length:=by simp[nD]
def UJ (x:nna)(hl:(x.X.length:Int)<2 ^ 40)(b:Nat):A9 Tryz.prog G0 191 [] [.Y b 0 0] (nD x.X) (fun H=>H.get b=some (.O 0 76 [.lit (.int .i64 x.Q),.L x.J.length (ints x.J),aD x.X])):=by
 intro idy J Stop H K hS hJ0 hY hK hSt;have l0:=ag (hS 0 H hJ0);show af _ _ _ ([.nk idy]++[.Y b 0 0]) _ _;refine af.st (n:=19) (rs:=[]) Tryz.func191 ?_;simp only[go_sem,l0,aD];refine W.aM 524056 (by rfl) (fun ρ H'=>∃k:Nat,ρ 8=aa k/\k<=x.X.length/\J k H'/\H.C<=H'.C) (fun ρ H=>x.X.length-(iv (ρ 8)).toNat) ?_ ?_
 ·simp only[go_sem];exact⟨0,rfl,U,hJ0⟩
 rintro ρ H' ⟨k,h8,hk,hj,hn⟩;refine W.vs ?_;by_cases hb:(k:Int)<x.X.length
 ·obtain⟨r,hr⟩:=get_of_lt (l:=x.X) (i:=k) U;have hne:=aS hr;have w1:=W6 ((k:Int)+1) U;simp only[go_sem,h8,hb,hr,hne];refine hY k [aa k,ah r] H' _ (UI hr) hj hn (fun H2 hj2 hn2=>⟨trivial,?_⟩) (fun H2 hs2 hn2=>⟨trivial,?_⟩)
  ·simp only[go_sem,h8,w1];exact⟨U,⟨k+1,aaw,U,hj2,U⟩,U⟩
  ·simp only[go_sem];exact ar.mk U (hSt H2 hs2 U)
 ·simp only[go_sem,h8,hb];have ek:k=(nD x.X).length:=by rw[F1];omega
  subst ek;exact ar.mk U (hK H' hj hn)
def UK (x:nna)(H:nnl)(K:nnf->nnl->Prop)(hK:K (.ret (.nb 191 [] [.Y H.C 0 0])) (ext H [.O 0 76 [.lit (.int .i64 x.Q),.L x.J.length (ints x.J),aD x.X]])):
  af Tryz.prog G0 188 [tw x] H K:=by
 refine af.st (n:=4) (rs:=[.tmp 2]) Tryz.func188 ?_;simp only[go_sem,tw];exact ar.mk (by simp[bu]) hK
def A0 {g:Int}(h:∀w∈l,0<=w):0<=l.sum:=by
 induction l with
 |nil=>simp
 |cons a l ih =>
  have h1:=ih fun w hw=>h w (by simp[hw]);have h2:=h a aaw;simp only[Y9];omega
def A1 (h:∀w∈l,0<=w):∀w∈l,w<=l.sum:=by
 induction l with
 |nil=>intro w hw;cases hw
 |cons a l ih =>
  intro w hw;have h1:=A0 (g:=0) fun w hw=>h w (X5 a hw);have h2:=h a aaw;simp only[Y9];rcases List.mem_cons.1 hw with rfl|hw
  ·omega
  ·have:=ih (fun w hw=>h w (by simp[hw])) w hw;omega
noncomputable def lg (g:Int)(ns:List nna)(x:nna):Bool:=@decide (fK g ns x) (Classical.propDecidable _)
def F2 (h:fK g ns x):lg g ns x=true:=by unfold lg;exact @decide_eq_true _ (Classical.propDecidable _) h
def UL (h:¬fK g ns x):lg g ns x=false:=by unfold lg;exact @decide_eq_false _ (Classical.propDecidable _) h
def UM :lg g ns x=true↔fK g ns x:=by unfold lg;exact @decide_eq_true_iff _ (Classical.propDecidable _)
def UN (g:Int)(hg:1<=g/\g<=60)(ns:List nna)(sets:List Nat)(x:nna)(hin:jt x.J ns.length)(hsm:fh (aW ns x))(hx1:(x.X.length:Int)<2 ^ 38)(hx2:∀r∈x.X,(r.length:Int)<2 ^ 38)(H:nnl)(K:nnf->nnl->Prop)
  (hK:K (.ret (.lit (.bool (lg g ns x)))) H):af Tryz.prog G0 174 [.agg [.lit (.int .i64 g),di ns,ah (aE ns),fY sets,.lit (.slice none 0 0)],tw x] H K:=by
 refine af.nb ⟨_,Tryz.func174,rfl,rfl⟩ fun hcl=>?_;have l12:=hsm.1;have pl:(aW ns x).length=x.J.length:=jv _ _;have no:¬fK g ns x->∀H',nnd H H'->ar Tryz.prog G0 H K (.lit (.bool false)) H':=fun h H' ov=>ar.bw aO hcl ov (.lit _) (by rw[UL h]at hK;exact hK);refine af.st (n:=66) (rs:=[.cell 4 4]) Tryz.func174 ?_;simp only[go_sem,di,tw];obtain⟨H1,hH1⟩:∃H1,H1=ext H [.O 0 214 [.lit (.int .i64 g),.L ns.length (aG ns),.L (aE ns).length (ints (aE ns)),.L sets.length (sets.map az),.lit (.slice none 0 0)],.O 0 76 [.lit (.int .i64 x.Q),.L x.J.length (ints x.J),aD x.X],.O 0 4 [.lit (.bool false)]]:=⟨_,rfl⟩
 have l1:H1.na H.C 0=some (214,[.lit (.int .i64 g),.L ns.length (aG ns),.L (aE ns).length (ints (aE ns)),.L sets.length (sets.map az),.lit (.slice none 0 0)]):=by rw[hH1];exact ag (bY ..)
 have l2:H1.na (H.C+1) 0=some (76,[.lit (.int .i64 x.Q),.L x.J.length (ints x.J),aD x.X]):=by rw[hH1];exact ag (cO H _ 1 aaw)
 have g3:=gE hH1 2 rfl
 have n1:H1.C=H.C+3:=hH1▸rfl
 have o1:nnd H H1:=hH1▸.ext _ _
 rw[<- hH1];refine W.aM 268370080 (by rfl) (fun ρ H'=>H'=H1/\∃k:Nat,ρ 16=aa k/\k<=x.J.length/\ρ 5=aa (aL ((aW ns x).take k))) (fun ρ H=>x.J.length-(iv (ρ 16)).toNat) ?_ ?_
 ·simp only[go_sem];exact⟨0,rfl,U,by simp[l9]⟩
 rintro ρ H' ⟨rfl,k,h16,hk,h5⟩;refine W.vs ?_;by_cases hb:(k:Int)<x.J.length
 ·obtain⟨q,hq⟩:=get_of_lt (l:=x.J) (i:=k) U;obtain⟨j,rfl,y,hy⟩:=oK (l:=ns) (hin q (an hq)).1 (hin q (an hq)).2;have hne2:=aS hq;have hyc:=dK hy;have hne3:=aS hyc;have hj:(j:Int)<(aE ns).length:=by have:=get_lt hyc;omega
  have pk:(aW ns x)[k]?=some y.Q:=by
   rw[show (aW ns x)[k]?=_ from pa hq,Int.toNat_natCast,cP hyc]
  have b1:=(hsm.take (k+1)).prod;rw[aQ pk,gX]at b1;have w1:=W6 ((k:Int)+1) U;have w2:=W6 (aL ((aW ns x).take k)*y.Q) U;simp only[go_sem,h16,h5,l1,hb,hq,hne2,hj,hyc,hne3,w1,w2];exact⟨⟨k+1,aaw,U,by rw[aQ pk,gX]⟩,U⟩
 rw[W9 U]at h5;by_cases c1:(x.X.length:Int)=aL (aW ns x);rotate_left
 ·simp only[go_sem,h16,h5,l2,hb,c1,aD];have l3:=ag g3;simp only[go_sem,l3];exact no (fun h=>c1 h.1) _ (o1.upd U _)
 simp only[go_sem,h16,h5,l2,hb,c1,aD];refine aC.nb (UK x _ _ ⟨trivial,?_⟩);simp only[go_sem];obtain⟨H2,hH2⟩:∃H2,H2=ext H' [.O 0 76 [.lit (.int .i64 x.Q),.L x.J.length (ints x.J),aD x.X]]:=⟨_,rfl⟩
 rw[<- hH2];have o2:nnd H' H2:=by rw[hH2];exact .ext _ _
 have n2:H2.C=H.C+4:=by rw[hH2,bu,n1];rfl
 have hbx:H2.get H'.C=some (.O 0 76 [.lit (.int .i64 x.Q),.L x.J.length (ints x.J),aD x.X]):=by rw[hH2];exact bV
 refine W.env fun E hE=>?_;have e2:E 2=.Y H.C 0 0:=by rw[hE];simp only[go_sem]
 have e3:E 3=.Y (H.C+1) 0 0:=by rw[hE];simp only[go_sem]
 have e4:E 4=.Y (H.C+2) 0 0:=by rw[hE];simp only[go_sem]
 have i1:H2.na H.C 0=some (214,[.lit (.int .i64 g),.L ns.length (aG ns),.L (aE ns).length (ints (aE ns)),.L sets.length (sets.map az),.lit (.slice none 0 0)]):=(o2.na U).trans l1;have i2:H2.na (H.C+1) 0=some (76,[.lit (.int .i64 x.Q),.L x.J.length (ints x.J),aD x.X]):=(o2.na U).trans l2;have i3:H2.get (H.C+2)=some (.O 0 4 [.lit (.bool false)]):=(o2.ng _ U).trans g3;refine W.xb (f:=191) (first:=[]) (cap:=[.Y H'.C 0 0]) (by show E 34=_;rw[hE];rfl) (UJ x U H'.C)
  (fun k Hx=>nnd H2 Hx/\∀r∈x.X.take k,jx g x.Q r) (fun c Hx=>c=.ret/\nnd H Hx/\H.C+4<=Hx.C/\Hx.get (H.C+2)=some (.O 0 4 [.lit (.bool false)])/\¬fK g ns x)
  (fun k Hx h=>by rw[h.1.ng _ U];exact hbx) (fun k Hx b h=>⟨h.1.upd aaz b,h.2⟩) (fun c Hx b h=>⟨h.1,h.2.1.upd U b,h.2.2.1,by rw[ae,W7 U];exact h.2.2.2.1,h.2.2.2.2⟩)
  (fun b=>⟨.ext _ _,aaw⟩) aax (fun y hy=>by
   obtain⟨k,hk⟩:=Xg.1 hy;obtain⟨r,_,rfl⟩:=FZ hk;rfl) (fun _ _ _=>trivial) (fun _ _ _=>trivial) (fun k y Hx B Bb hy hj hn hB hBb=>?_) (fun Hx hj hn=>?_) (fun Hx hs hn=>?_) (fun i Hx hs hn=>by cases hs.1)
 ·obtain⟨r,hr,rfl⟩:=FZ hy;refine W.vs ?_;simp only[go_sem,lO,dT,tA,Ys,ZO,Zm,ZB,hB];obtain⟨H3,hH3⟩:∃H3,H3=Hx.upd H2.C Bb:=⟨_,rfl⟩
  rw[<- hH3];obtain⟨st,pd,n',en,ps',as',bo,hBe⟩:=hBb;have o3:nnd H2 H3:=by rw[hH3];exact hj.1.upd aaz Bb
  have o4:nnd H H3:=(o1.trans o2).trans o3;have n3:H3.C=Hx.C:=by rw[hH3];rfl
  have j1:=(o3.na (g:=0) (by omega:H.C<H2.C)).trans i1;have j2:=(o3.na (g:=0) (by omega:H.C+1<H2.C)).trans i2;have j3:=(o3.ng _ (by omega:H.C+2<H2.C)).trans i3;have j4:=ag j3;have jB:H3.get H2.C=some Bb:=by rw[hH3,ae,W8 rfl]
  have nB:¬H2.C=H.C+2:=U
  have hrm:=an hr;have hrl:=hx2 r hrm;have nope:¬jx g x.Q r->¬fK g ns x:=fun h h'=>h (h'.2 r hrm);have stop:¬jx g x.Q r->(H3.upd (H.C+2) (Blk.O 0 4 [.lit (.bool false)])).get H2.C=some Bb/\Hx.C<=(H3.upd (H.C+2) (Blk.O 0 4 [.lit (.bool false)])).C/\nnd H (H3.upd (H.C+2) (Blk.O 0 4 [.lit (.bool false)])) /\
    H.C+4<=(H3.upd (H.C+2) (Blk.O 0 4 [.lit (.bool false)])).C/\(H3.upd (H.C+2) (Blk.O 0 4 [.lit (.bool false)])).get (H.C+2)=some (.O 0 4 [.lit (.bool false)])/\¬fK g ns x:=fun h =>
   ⟨by rw[ae,W7 nB];exact jB,by rw[aw];omega,o4.upd U _,by rw[aw];omega,by rw[ae,W8 rfl],nope h⟩
  refine W.vs ?_;simp only[go_sem,dT,e2,j1];refine W.aM 144110790029349888 (by rfl) (fun ρ2 H4=>H4=H3/\∃i:Nat,ρ2 42=aa i/\i<=r.length/\(∀w∈r.take i,0<=w)/\(r.take i).sum<=g/\ρ2 10=aa (g-(r.take i).sum)) (fun ρ2 H=>r.length-(iv (ρ2 42)).toNat) ?_ ?_
  ·simp only[go_sem];exact⟨0,rfl,U,aaw,by simp;omega,aaw⟩
  rintro ρ2 H4 ⟨rfl,i,h42,hi,hw0,hws,h10⟩;refine W.vs ?_;have s0:=A0 (g:=g) hw0;by_cases hb2:(i:Int)<r.length
  ·obtain⟨a,ha⟩:=get_of_lt (l:=r) (i:=i) U;have ham:=an ha;have hane:=aS ha;by_cases d1:a<0
   ·simp only[go_sem,h42,hb2,ha,hane,d1,dT,e4,j4,iX];exact stop fun h=>by have:=h.2.1 a ham;omega
   by_cases d2:a > g-(r.take i).sum
   ·simp only[go_sem,h42,h10,hb2,ha,hane,d1,d2,dT,e4,j4,iX];refine stop fun h=>?_;have h1:r.sum=(r.take (i+1)).sum+(r.drop (i+1)).sum:=(by rw[<- aaa,XO]);rw[aQ ha,wU]at h1;have h2:=A0 (g:=g) (l:=r.drop (i+1)) fun w hw=>(h.2.1 w (YJ hw)).1;have:=h.2.2;omega
   have w1:=W6 ((i:Int)+1) U;have w2:=W6 (g-(r.take i).sum-a) U;simp only[go_sem,h42,h10,hb2,ha,hane,d1,d2,w1,w2,dT];refine⟨⟨_,_,_,_,_,_,_,by rw[jB,hBe]⟩,⟨i+1,aaw,U,fun w hw=>?_,by rw[aQ ha,wU];omega,?_⟩,U⟩
   ·rw[aQ ha]at hw;rcases Xt.1 hw with hw|hw
    ·exact hw0 w hw
    ·obtain rfl:=List.mem_singleton.1 hw;omega
   ·rw[aQ ha,wU];show aa _=aa _;congr 1;omega
  ·rw[W9 U]at hw0 hws h10 s0;by_cases d1:(r.length:Int)=x.Q;rotate_left
   ·simp only[go_sem,h42,hb2,d1,dT,e3,e4,j2,j4,iX];exact stop fun h=>d1 h.1
   have hb2':¬(i:Int)<x.Q:=U;by_cases d2:g-r.sum=0;rotate_left
   ·simp only[go_sem,h42,h10,hb2',d1,d2,dT,e3,e4,j2,j4,iX];exact stop fun h=>by have:=h.2.2;omega
   simp only[go_sem,h42,h10,hb2',d1,d2,dT,e3,j2,iX];refine⟨jB,U,o3,fun y hy=>?_⟩;rw[aQ hr]at hy;rcases Xt.1 hy with hy|hy
   ·exact hj.2 y hy
   ·obtain rfl:=List.mem_singleton.1 hy;exact⟨d1,fun w hw=>⟨hw0 w hw,by have:=A1 hw0 w hw;omega⟩,U⟩
 ·have hok:fK g ns x:=⟨c1,by
   have:=hj.2;rw[F1,Yl]at this;exact this⟩
  have j4:=ag ((hj.1.ng _ (by omega:H.C+2<H2.C)).trans i3);rw[F2 hok]at hK;simp only[go_sem,e4,j4];exact ar.bw aO hcl (((o1.trans o2).trans hj.1).upd U _) (.lit _) hK
 ·obtain⟨_,o4,n4,g4,hno⟩:=hs;have j4:=ag g4;simp only[go_sem,e4,j4];exact no hno _ o4
end Go.Proofs
namespace Go.Hx
variable {e:TypeId}{H:nnl}
def aB.pg {lo:Nat}{v:nnn}{l:List Int}(h:aB lo H e v (ints l)):nns H v (ah l):=by
 rcases h with ⟨rfl,h⟩|⟨id,g,h1,h2,rfl,h4⟩
 ·have:l=[]:=by cases l with
   |nil=>rfl
   |cons a l=>simp[ints]at h
  subst this;exact .nil
 ·have e:ah l=.L (ints l).length (ints l):=by rw[aZ];rfl
  rw[e];refine .Z h4 aaw fun j hj h2 h'=>?_;simp only[Nat.zero_add,ints,Xi];exact .lit _
def Fz.wV {id g n nx:Nat}{cs:List nnn}(hg:H.get id=some (.O g e cs))(hn:n=cs.length)(hl:∀c∈cs,∃v,c=.lit v):Fz (fun _=>True) H nx (.Z id g 0 n 1) (.L n cs):=by
 refine .nq trivial hg U fun j hj h2 h'=>?_;simp only[Nat.zero_add];obtain⟨v,hv⟩:=hl _ (XA h');rw[hv];exact .lit _
end Go.Hx
namespace Go.Proofs
open Go.Hx
variable {n:Nat}{p:Nat->Bool}
def av (l:List Nat):List Int:=l.map fun (v:Nat)=>(v:Int)
def F3 {j:Nat}(hj:j<n)(h1:∀v,v<j->p v=false)(h2:p j=true):(List.range n).find? p=some j:=by
 rw[List.find?_eq_some_iff_getElem];refine⟨h2,j,by simpa using hj,aaw,fun k hk=>?_⟩;simp only[List.getElem_range];simp[h1 k hk]
def F4 (h1:∀v,v<n->p v=false):(List.range n).find? p=none:=by
 rw[Zn];intro x hx;simp[h1 x (XJ.1 hx)]
def UO (ps:List Nat)(hl:ps.length<=60)(hp:∀p∈ps,p<2 ^ 64)(H:nnl)(K:nnf->nnl->Prop)
  (hK:∀v H',nnd H H'->(match eM ps with|some o=>aB H.C H' 3 v (ints (av o))|none=>v=.lit (.slice none 0 0))->K (.ret (.nc [v,.lit (.bool (eM ps).isSome)])) H'):af Tryz.prog G0 175 [fY ps] H K:=by
 have no:∀H',eM ps=none->nnd H H'->ar Tryz.prog G0 H K (.nc [.lit (.slice none 0 0),.lit (.bool false)]) H':=fun H' h ov=>ar.mk ov.C (by
  have:=hK (.lit (.slice none 0 0)) H' ov;rw[h]at this;exact this rfl)
 refine af.st (n:=44) (rs:=[.tmp 2,.tmp 3]) Tryz.func175 ?_;simp only[go_sem];refine⟨U,?_⟩;refine W.aM 8796093020412 (by rfl) (fun ρ H'=>∃(out:List Nat) (done:Nat),ρ 5=az done/\done<2 ^ 64/\out.length<=ps.length/\H.C+1<=H'.C/\nnd H H'/\aB H.C H' 3 (ρ 4) (ints (av out))/\(∃id g,ρ 4=.Z id g 0 out.length 1)/\gJ ps (ps.length-out.length) out done=eM ps)
  (fun ρ H=>ps.length-(match ρ 4 with|.Z _ _ _ n _=>n|_=>0)) ?_ ?_
 ·simp only[go_sem];exact⟨[],0,aaw,aax,Zu _,.ext _ _,.inr ⟨H.C,0,aaz,by simp[bu],rfl,bY H _ []⟩,⟨_,_,rfl⟩,rfl⟩
 rintro ρ H' ⟨out,done,h5,hd,ho,hn0,ov,h4,⟨id,gn,h4e⟩,ht⟩;refine W.vs ?_;have lv:H'.na id gn=some (3,ints (av out)):=by
  rcases h4 with ⟨h,_⟩|⟨i,g,h1,h2,h3,h4⟩
  ·rw[h4e]at h;cases h
  ·rw[h4e]at h3;have:=nnn.Z.inj h3;obtain⟨rfl,rfl,_⟩:=this;exact ag h4
 by_cases hb:(out.length:Int)<ps.length
 ·simp only[go_sem,h4e,lv,hb];have hk1:ps.length-out.length=(ps.length-(out.length+1))+1:=U
  refine W.aM 8796092760304 (by rfl) (fun ρ2 H2=>H2=H'/\∃j:Nat,ρ2 18=aa j/\j<=ps.length/\ρ2 4=.Z id gn 0 out.length 1/\ρ2 5=az done/\∀v,v<j->iQ ps done v=false) (fun ρ2 H=>ps.length-(iv (ρ2 18)).toNat) ?_ ?_
  ·simp only[go_sem,h4e,h5];exact⟨0,rfl,U,fun v h=>absurd h (Xo _)⟩
  rintro ρ2 H2 ⟨rfl,j,h18,hj,h4',h5',hno⟩;refine W.vs ?_;by_cases hb2:(j:Int)<ps.length
  ·obtain⟨p,hpj⟩:=get_of_lt (l:=ps) (i:=j) U;have hp1:=hp p (an hpj);have hne:=aS hpj;have s1:=fun t x y=>lh (P:=Tryz.prog) (t:=t) (x:=x) (y:=y) (k':=.i64) (s:=j) hd;have s2:=fun t x y=>pr (P:=Tryz.prog) (t:=t) (x:=x) (y:=y) (s:=j) hd;have s3:=fun t x y=>jz (P:=Tryz.prog) (t:=t) (x:=x) (y:=y) (a:=p) (b:=done);have w1:=W6 ((j:Int)+1) U;have cont:iQ ps done j=false->∀v,v<j+1->iQ ps done v=false:=fun h v hv=>by
    rcases Xu v j with h'|h'
    ·exact hno v h'
    ·obtain rfl:v=j:=U;exact h
   have fe:iQ ps done j=(!done.testBit j && decide (cN p done=0)):=(by unfold iQ;rw[cP hpj]);cases hbit:done.testBit j;rotate_left
   ·simp only[go_sem,h18,h4',h5',hb2,hpj,hne,s1,s2,hbit,w1];exact⟨⟨j+1,aaw,U,cont (by rw[fe,hbit];rfl)⟩,U⟩
   by_cases hz:cN p done=0;rotate_left
   ·have hz':¬((cN p done:Nat):Int)=0:=U;simp only[go_sem,h18,h4',h5',hb2,hpj,hne,s1,s2,s3,hbit,hz',w1];exact⟨⟨j+1,aaw,U,cont (by rw[fe,hbit];simp[hz])⟩,U⟩
   have hz':((cN p done:Nat):Int)=0:=U;have hnx:j5 ps done=some j:=F3 U hno (by rw[fe,hbit];simp[hz]);obtain⟨v',H3,hA,ov2,hO,hn2,_⟩:=iW (j:Int) ov h4 (by simp[av];omega);rw[h4e]at hA;have b2:(2:Nat) ^ j<2 ^ 64:=XG aax U;have s4:=fun t x y=>fZ (P:=Tryz.prog) (t:=t) (x:=x) (y:=y) (k':=.i64) (s:=j) U;have s5:=fun t x y=>fj (P:=Tryz.prog) (t:=t) (x:=x) (y:=y) hd b2;simp only[go_sem,h18,h4',h5',hb2,hpj,hne,s1,s2,s3,s4,s5,hbit,hz',hA];have hO':aB H.C H3 3 v' (ints (av (out++[j]))):=by
    have e:av (out++[j])=av out++[(j:Int)]:=(by simp[av]);rw[e];exact hO
   have hv':∃id g,v'=.Z id g 0 (out.length+1) 1:=by
    rcases hO' with ⟨_,h⟩|⟨i,g,_,_,h3,_⟩
    ·simp[ints,av]at h
    ·exact⟨i,g,by rw[h3,aZ];simp[av]⟩
   obtain⟨i2,g2,rfl⟩:=hv';refine⟨U,⟨out++[j],done |||2 ^ j,rfl,XV hd b2,by simp;omega,U,ov2,hO',⟨i2,g2,aaw⟩,?_⟩,by simp only;omega⟩;rw[<- ht,hk1]
   conv=>rhs;unfold gJ
   rw[hnx];simp
  ·simp only[go_sem,h18,hb2];refine no _ ?_ ov;rw[<- ht,hk1];unfold gJ;have:j5 ps done=none:=F4 fun v hv=>hno v U;rw[this]
 ·simp only[go_sem,h4e,lv,hb];have hz:ps.length-out.length=0:=U
  rw[hz]at ht;have ht':eM ps=some out:=ht.symm;have:=hK (.Z id gn 0 out.length 1) H' ov;rw[ht']at this;refine ar.mk ov.C (this ?_);rw[h4e]at h4;exact h4
def UP (ps:List Nat)(hl:ps.length<=60)(hp:∀p∈ps,p<2 ^ 64)(H:nnl)(v:nnn)(hv:Fz (fun _=>True) H 0 v (fY ps))(K:nnf->nnl->Prop)
  (hK:K (.ret (.nc [ah (av ((eM ps).getD [])),.lit (.bool (eM ps).isSome)])) H):af Tryz.prog G0 175 [v] H K:=by
 refine(af.frame (H:=H) (args:=[v]) (args':=[fY ps]) (v':=.nc [ah (av ((eM ps).getD [])),.lit (.bool (eM ps).isSome)]) aO rfl (fun i hi _=>match i,hi with|0,_=>hv) (UO ps hl hp cw _ fun u H' ov hu=>⟨_,rfl,?_⟩)).mono ?_
 ·refine .nc rfl fun i hi _=>?_
  match i,hi with
  |0,_ =>
   show nns H' u _;cases ht:eM ps with
   |none=>rw[ht]at hu;simp only at hu;rw[hu];show nns H' _ (ah []);exact .nil
   |some o=>rw[ht]at hu;exact aB.pg hu
  |1,_=>exact .lit _
 ·rintro r H' ⟨rfl,rfl⟩;exact hK
end Go.Proofs
