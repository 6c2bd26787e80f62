/- Own work: contracts. -/
import Derived.Test.YtebhdkihcdmmjaaGreatConA
import Derived.Test.YtebhdkihcdmmjaaGreatConH
import Derived.Test.YtebhdkihcdmmjaaGreatConF
import Derived.Test.YtebhdkihcdmmjaaGreatConG
import Derived.Test.YtebhdkihcdmmjaaGreatConC
set_option linter.all false
set_option maxHeartbeats 8000000
set_option maxRecDepth 100000
namespace Go.Proofs.F01
open Go.Hx Tryz
variable {P:Program}{H:Zn}{r:Zo}{K:Zt -> Zn -> Prop}
def Cl (args:Array Value):Sem Value := do
  let (x, y, c) ← Extern.MathBitsCarry.three "Add64" args
  pure (Extern.MathBitsCarry.pair ((x + y + c) % Extern.MathBitsCarry.m64) ((x + y + c) / Extern.MathBitsCarry.m64))
def Cm (args:Array Value):Sem Value := do
  let (x, y, b) ← Extern.MathBitsCarry.three "Sub64" args
  pure (Extern.MathBitsCarry.pair ((x + Extern.MathBitsCarry.m64-y-b) % Extern.MathBitsCarry.m64) (if x < y + b then 1 else 0))
def fI:List Zo -> Option Zo
  | [.lit (.int .u64 a),.lit (.int .u64 b),.lit (.int .u64 c)] => bif Nat.ble c.toNat 1 then some (.nf [.lit (.int .u64 (Int.ofNat ((a.toNat + b.toNat + c.toNat) % 18446744073709551616))),.lit (.int .u64 (Int.ofNat ((a.toNat + b.toNat + c.toNat) / 18446744073709551616)))]) else none
  |_ => none
def uW:List Zo -> Option Zo
  | [.lit (.int .u64 a),.lit (.int .u64 b),.lit (.int .u64 c)] => bif Nat.ble c.toNat 1 then some (.nf [.lit (.int .u64 (Int.ofNat ((a.toNat + 18446744073709551616-b.toNat-c.toNat) % 18446744073709551616))),.lit (.int .u64 (Int.ofNat (bif Nat.blt a.toNat (b.toNat + c.toNat) then 1 else 0)))]) else none
  |_ => none
def Cn (a b:Nat)(Γ:aC)(H:Zn)(w:World):Zr P Γ H w (.nf [.lit (.int .u64 (Int.ofNat a)),.lit (.int .u64 (Int.ofNat b))]) (Extern.MathBitsCarry.pair a b) := by
  unfold Extern.MathBitsCarry.pair;refine Zr.nf (cs := [.int .u64 (Int.ofNat a),.int .u64 (Int.ofNat b)]) rfl fun i h _ => ?_
  match i,h with
  |0,_ => exact .lit _
  |1,_ => exact .lit _
def Co (s:String)(w:World)(a b c:Int)(hc:¬c.toNat > 1):(Extern.MathBitsCarry.three s #[.int .u64 a,.int .u64 b,.int .u64 c]).run P w = .ok (a.toNat,b.toNat,c.toNat) w := by
  have h1:∀x:Int,(asInt (.int .u64 x)).run P w = .ok x w := fun x => rfl;show (do
    let c := (<- asInt (.int .u64 c)).toNat
    if c > 1 then unsupported _
    pure ((<- asInt (.int .u64 a)).toNat,(<- asInt (.int .u64 b)).toNat,c):Sem (Nat × Nat × Nat)).run P w=_
  rw[aq (h1 c)];simp only[hc,if_false];rfl
def Cp {a b c:Int}(h:fI [.lit (.int .u64 a),.lit (.int .u64 b),.lit (.int .u64 c)]=some r)(hK:K (.ret r) H):ao prog G0 (.Z 185 [] []) [.lit (.int .u64 a),.lit (.int .u64 b),.lit (.int .u64 c)] H K := by
  simp only[fI]at h;cases hb:Nat.ble c.toNat 1 with
  |false => rw[hb]at h;cases h
  |true =>
    rw[hb]at h;have hc:¬c.toNat > 1 :=(by have := XL hb;omega);cases h;refine ao.ext (e := Cl) (vs := [.int .u64 a,.int .u64 b,.int .u64 c]) func185 rfl Zl Zl Zl rfl (fun w => ?_) (fun Γ H w => Cn _ _ Γ H w) hK;unfold Cl;rw[aq (Co _ w a b c hc)];rfl
def Cq {a b c:Int}(h:uW [.lit (.int .u64 a),.lit (.int .u64 b),.lit (.int .u64 c)]=some r)(hK:K (.ret r) H):ao prog G0 (.Z 186 [] []) [.lit (.int .u64 a),.lit (.int .u64 b),.lit (.int .u64 c)] H K := by
  simp only[uW]at h;cases hb:Nat.ble c.toNat 1 with
  |false => rw[hb]at h;cases h
  |true =>
    rw[hb]at h;have hc:¬c.toNat > 1 :=(by have := XL hb;omega);cases h;refine ao.ext (e := Cm) (vs := [.int .u64 a,.int .u64 b,.int .u64 c]) (v := Extern.MathBitsCarry.pair ((a.toNat + 18446744073709551616-b.toNat-c.toNat) % 18446744073709551616) (bif Nat.blt a.toNat (b.toNat + c.toNat) then 1 else 0)) func186 rfl Zl Zl Zl rfl (fun w => ?_) (fun Γ H w => Cn _ _ Γ H w) hK;unfold Cm;rw[aq (Co _ w a b c hc)];by_cases hl:a.toNat < b.toNat + c.toNat
    · have:Nat.blt a.toNat (b.toNat + c.toNat)=true :=(by rw[Nat.blt_eq];exact hl);rw[this];simp only[hl,if_true,cond_true];rfl
    · have : Nat.blt a.toNat (b.toNat + c.toNat) = false := by
        cases h:Nat.blt a.toNat (b.toNat + c.toNat) with
        |false => rfl
        |true => rw[Nat.blt_eq]at h;exact absurd h hl
      rw[this];simp only[hl,if_false,cond_false];rfl
section
variable {P:Program} {G:Nat -> Option (List Zo)} {Γ Γ':aC} {H H':Zn} {w w':World}
def yI (a b:Int)(ha:0 <= a)(hb:0 < b):Int.gcd b (a % b)=Int.gcd b a := by
  obtain⟨m,rfl⟩ := U2 ha;obtain⟨n,rfl⟩ := U2 (Int.le_of_lt hb);rw[<- Int.natCast_emod];simp only[YY];rw[XC n m,<- Nat.mod_add_div m n];have := YI n m;rw[Nat.mod_add_div];rw[XC m n,this,XC]
end
def qV (n d:Int):Zo := .agg [.lit (.int .i64 n),.lit (.int .i64 d)]
def sW {S:Nat -> Prop}{H:Zn}{nx:Nat}(n d:Int):Fz S H nx (.agg [.lit (.int .i64 n),.lit (.int .i64 d)]) (qV n d) :=
  .agg rfl fun i hi _ => match i,hi with
    |0,_ => .lit _
    |1,_ => .lit _
section
variable {P:Program} {t:TypeId} {x y:Operand} {k k':IntKind} {a b:Int}
def ML (w:Nat){a:Nat}{n:Nat}(ha:a < 2 ^ w)(hn:n <= w)(hw:0 < w):((BitVec.ofInt w (a:Int) &&& BitVec.ofInt w ((2 ^ n-1:Nat):Int)).toNat)=a % 2 ^ n := by
  have h1:(2:Nat) ^ n <= 2 ^ w := U7 Zk hn;have h0:0 < (2:Nat) ^ n := W6 n;have e1:(BitVec.ofInt w (a:Int)).toNat=a := by rw[BitVec.ofInt_natCast,BitVec.toNat_ofNat,Xg ha]
  have e2:(BitVec.ofInt w ((2 ^ n-1:Nat):Int)).toNat=2 ^ n-1 := by rw[BitVec.ofInt_natCast,BitVec.toNat_ofNat,Xg V]
  rw[BitVec.toNat_and,e1,e2,YB]
def yJ (h:0 <= a /\ a < 18446744073709551616):aU P .and t x y (.lit (.int .u64 a)) (.lit (.int .u64 4294967295))=some (.lit (.int .u64 (a % 4294967296))) := by
  obtain⟨n,rfl⟩ := U2 h.1;rw[pZ];have := ML 64 (a := n) (n := 32) V Zk Zk;have e:(BitVec.ofInt (IntKind.bits .u64) (n:Int) &&& BitVec.ofInt (IntKind.bits .u64) 4294967295).toNat=n % 4294967296 := this;rw[e,Vt _ V];simp
def sX (h:0 <= a /\ a < 18446744073709551616):aU P .shr t x y (.lit (.int .u64 a)) (.lit (.int k' 32))=some (.lit (.int .u64 (a / 4294967296))) := by
  rw[rS Zk];have e:a.fdiv (2 ^ (min (32:Int).toNat (IntKind.bits .u64)))=a / 4294967296 := XZ a Zk;rw[e]
def pureRun_bind {α β:Type}{s:Sem α}{f:α -> Sem β}{a:α}(h:aQ P s=some a):aQ P (s >>= f)=aQ P (f a) := by
  induction s with
  |pure b => simp only[aQ,Option.some.injEq]at h;subst h;rfl
  |program k ih => exact ih P h
  |mark m k ih => exact ih h
  |_ => simp[aQ]at h
def sY {t:TypeId}{a b:Bool}(n:Nat)(ht:P.underlying t=some .bool):aQ P (Op.equalIn (n + 1) t (.bool a) (.bool b))=some (a == b) := by
  unfold Op.equalIn;simp[underlying,program,ht,aQ,bind,Sem.bind,pure]
def pq {t:TypeId}{x y:Operand}{a b:Bool}(ht:P.underlying t=some .bool):aU P .eql t x y (.lit (.bool a)) (.lit (.bool b))=some (.lit (.bool (a == b))) := by
  have h1:(do eqGuard .eql t x y (.bool a) (.bool b);binOp .eql t (.bool a) (.bool b))=(Op.equalIn (9999 + 1) t (.bool a) (.bool b) >>= fun r => pure (Value.bool r)) := rfl;show (aQ P _).map _=_;rw[h1,pureRun_bind (sY 9999 ht)];rfl
def mJ {t:TypeId}{x y:Operand}{a b:Bool}(ht:P.underlying t=some .bool):aU P .neq t x y (.lit (.bool a)) (.lit (.bool b))=some (.lit (.bool (!(a == b)))) := by
  have h1:(do eqGuard .neq t x y (.bool a) (.bool b);binOp .neq t (.bool a) (.bool b))=(Op.equalIn (9999 + 1) t (.bool a) (.bool b) >>= fun r => pure (Value.bool (!r))) := rfl;show (aQ P _).map _=_;rw[h1,pureRun_bind (sY 9999 ht)];rfl
end
def Cr (n:Int)(hn:-9223372036854775808 <= n /\ n <= 9223372036854775807)(H:Zn)(K:Zt -> Zn -> Prop)(hK:K (.ret (.lit (.int .u64 (n.natAbs:Int)))) H):ae prog G0 96 [.lit (.int .i64 n)] H K := by
  refine ae.st (n := 10) (rs := [.tmp 2]) func96 ?_;by_cases h:n < 0
  · have w1:IntKind.u64.wrap n=n + 18446744073709551616 :=(by rw[xa];omega);have w2:IntKind.u64.wrap (0-(n + 18446744073709551616))=(n.natAbs:Int) :=(by rw[xa];omega);simp only[go_sem,h,w1,w2,aA];exact aj.mk Zm hK
  · have w1:IntKind.u64.wrap n=(n.natAbs:Int) :=(by rw[xa];omega);simp only[go_sem,h,w1,aA];exact aj.mk Zm hK
def yK (a b:Int)(ha:0 <= a)(hb:0 <= b)(H:Zn)(K:Zt -> Zn -> Prop)(hK:K (.ret (.lit (.int .u64 (Int.gcd a b:Int)))) H):ae prog G0 95 [.lit (.int .u64 a),.lit (.int .u64 b)] H K := by
  refine ae.st (n := 12) (rs := [.tmp 4]) func95 ?_;simp only[go_sem,aA];refine W.aS 2019 (by rfl) (fun ρ H' => H'=H /\ ∃x y:Int,ρ 0 = .lit (.int .u64 x) /\ ρ 1 = .lit (.int .u64 y) /\ 0 <= x /\ 0 <= y /\ Int.gcd x y=Int.gcd a b) (fun ρ H => (iv (ρ 1)).toNat) ?_ ?_
  · simp only[go_sem,aA];exact⟨a,b,rfl,rfl,ha,hb,rfl⟩
  rintro ρ H' ⟨rfl,x,y,h0,h1,hx,hy,hg⟩;refine W.vs ?_;by_cases hz:y=0
  · subst hz;have e:x=(Int.gcd a b:Int) :=(by rw[<- hg,Int.gcd_zero_right];omega);simp only[go_sem,h0,h1,aA];rw[e];exact aj.mk Zm hK
  · have m1:x.tmod y=x % y := VK hx;have m2 := XY x hz;have m3 := Xp x (show 0 < y by omega);simp only[go_sem,h0,h1,hz,aA];refine W.dr 5 [0,0,0,6,3] mixed ?_;simp only[go_sem,h0,h1,hz,m1,aA];refine⟨⟨y,x % y,rfl,rfl,hy,m2,?_⟩,V⟩;rw[<- hg,Int.gcd_comm x y];exact yI x y hx (V)
def kh:Int := 4611686018427387903
def bC (n d:Int):Int := if d < 1 \/ d > kh \/ n < -kh \/ n > kh then 5 else if Int.gcd n d ≠ 1 then 5 else 0
def MM (n d:Int):Int.gcd (n.natAbs:Int) d=Int.gcd n d := by simp[Int.gcd]
def sZ (n d:Int)(hn:-9223372036854775808 <= n /\ n <= 9223372036854775807)(hd:-9223372036854775808 <= d /\ d <= 9223372036854775807)(H:Zn)(K:Zt -> Zn -> Prop)(hK:K (.ret (.lit (.int .i64 (bC n d)))) H):ae prog G0 55 [qV n d] H K := by
  refine ae.Z ⟨_,func55,rfl,rfl⟩ fun hcl => ?_;refine ae.st (n := 29) (rs := [.tmp 2]) func55 ?_;have bad:∀L,bC n d=5 -> aj prog G0 H K (.lit (.int .i64 5)) (ext H L) := fun L h => by
    rw[h]at hK;exact aj.drop aF hcl (.lit _) hK
  by_cases h1:d < 1
  · simp only[go_sem,qV,h1,aA];exact bad _ (by unfold bC;rw[UX (.inl h1)])
  by_cases h2:4611686018427387903 < d
  · simp only[go_sem,qV,h1,h2,aA];exact bad _ (by unfold bC;rw[UX (.inr (.inl h2))])
  by_cases h3:n < -4611686018427387903
  · simp only[go_sem,qV,h1,h2,h3,aA];exact bad _ (by unfold bC;rw[UX (.inr (.inr (.inl h3)))])
  by_cases h4:4611686018427387903 < n
  · simp only[go_sem,qV,h1,h2,h3,h4,aA];exact bad _ (by unfold bC;rw[UX (.inr (.inr (.inr h4)))])
  simp only[go_sem,qV,h1,h2,h3,h4,aA];refine W.dr 6 [0,1,3,0,8,24] mixed ?_;have w1:IntKind.u64.wrap d=d := Vt d V;simp only[go_sem,qV,h1,h2,h3,h4,w1,aA];refine⟨_,[],bF.pure (fun H2 => Cr n hn H2 _ ⟨rfl,rfl⟩),?_⟩;simp only[go_sem,qV,h1,h2,h3,h4,w1,aA];refine ao.Z (yK _ d V V _ _ ⟨trivial,?_⟩);rw[MM];have ck:bC n d=if Int.gcd n d ≠ 1 then 5 else 0 := by unfold bC;rw[UW (by unfold kh;omega)]
  by_cases hg:Int.gcd n d=1
  · have hg':((Int.gcd n d:Nat):Int)=1 :=V;simp only[go_sem,hg',aA];rw[ck,UW (by simpa using hg)]at hK;exact aj.drop aF hcl (.lit _) hK
  · have hg':¬((Int.gcd n d:Nat):Int)=1 :=V;simp only[go_sem,hg',aA];exact bad _ (by rw[ck,UX hg])
def dh (n:Nat):Zo := .agg [.lit (.int .u64 (n / 18446744073709551616:Nat)),.lit (.int .u64 (n % 18446744073709551616:Nat))]
def MN {p q r w0 t w1 hi xy B:Nat}(hB:0 < B)(hxy:xy=r * (B * B) + (p + q) * B + w0)(ht:t=p + w0 / B)(hw1:w1=t % B + q)(hhi:hi=r + t / B + w1 / B):
    xy / (B * B)=hi := by
  have e0 := W7 w0 B;have l0 := XB w0 hB;have e1 := W7 t B;have e2 := W7 w1 B;have l2 := XB w1 hB;generalize w0 / B=c0 at *
  generalize w0 % B=r0 at *
  generalize t / B=c1 at *
  generalize t % B=r1 at *
  generalize w1 / B=c2 at *
  generalize w1 % B=r2 at *
  have key:xy=hi * (B * B) + (r2 * B + r0) := by
    subst hhi;have a1:p * B=t * B-c0 * B :=(by rw[ht,VD];omega);have a2:q * B=w1 * B-r1 * B :=(by rw[hw1,VD];omega);have a3:t * B=c1 * (B * B) + r1 * B :=(by rw[<- e1,VD];congr 1;ac_rfl);have a4:w1 * B=c2 * (B * B) + r2 * B :=(by rw[<- e2,VD];congr 1;ac_rfl);have a5:c0 * B <= t * B := Vv _ V;have a6:r1 * B <= w1 * B := Vv _ V;have a7:w0=c0 * B + r0 :=(by rw[<- e0,Wr]);rw[hxy,VD,VD,VD];omega
  have small:r2 * B + r0 < B * B := by
    have:r2 * B + B <= B * B :=(by rw[<- Yh];exact Vv _ l2);omega
  rw[key];exact Nat.div_eq_of_lt_le (Nat.le_add_right _ _) (by rw[VD,Xe];omega)
def MO (x y:Nat)(hx:x < 18446744073709551616)(hy:y < 18446744073709551616)(H:Zn)(K:Zt -> Zn -> Prop)
    (hK:K (.ret (.nf [.lit (.int .u64 (x * y / 18446744073709551616:Nat)),.lit (.int .u64 (x * y % 18446744073709551616:Nat))])) H):ae prog G0 141 [.lit (.int .u64 x),.lit (.int .u64 y)] H K := by
  obtain⟨x1,x0,hxe,hx0,hx1⟩:∃x1 x0:Nat,x=x1 * 4294967296 + x0 /\ x0 < 4294967296 /\ x1 < 4294967296 := ⟨x / 4294967296,x % 4294967296,V,V,V⟩
  obtain⟨y1,y0,hye,hy0,hy1⟩:∃y1 y0:Nat,y=y1 * 4294967296 + y0 /\ y0 < 4294967296 /\ y1 < 4294967296 := ⟨y / 4294967296,y % 4294967296,V,V,V⟩
  have bnd:∀a b:Nat,a < 4294967296 -> b < 4294967296 -> a * b <= 18446744065119617025 := fun a b ha hb => by
    have := Xi (show a <= 4294967295 by omega) (show b <= 4294967295 by omega);omega
  obtain⟨w0,hw0⟩:∃w0,w0=x0 * y0 := ⟨_,rfl⟩
  have b0 := bnd x0 y0 hx0 hy0;obtain⟨p,hp⟩:∃p,p=x1 * y0 := ⟨_,rfl⟩
  have b1 := bnd x1 y0 hx1 hy0;obtain⟨q,hq⟩:∃q,q=x0 * y1 := ⟨_,rfl⟩
  have b2 := bnd x0 y1 hx0 hy1;obtain⟨r,hr⟩:∃r,r=x1 * y1 := ⟨_,rfl⟩
  have b3 := bnd x1 y1 hx1 hy1;have hxy:x * y=r * 18446744073709551616 + (p + q) * 4294967296 + w0 := by
    rw[hxe,hye,hr,hp,hq,hw0,VD,W2,W2,VD];have e1:x1 * 4294967296 * (y1 * 4294967296)=x1 * y1 * 18446744073709551616 := by
      rw[Nat.mul_mul_mul_comm]
    have e2:x1 * 4294967296 * y0=x1 * y0 * 4294967296 :=(by ac_rfl);have e3:x0 * (y1 * 4294967296)=x0 * y1 * 4294967296 :=(by ac_rfl);rw[e1,e2,e3];omega
  have m1:((x:Int) % 4294967296)=(x0:Nat) := by omega
  have m2:((x:Int) / 4294967296)=(x1:Nat) := by omega
  have m3:((y:Int) % 4294967296)=(y0:Nat) := by omega
  have m4:((y:Int) / 4294967296)=(y1:Nat) := by omega
  have g1:((w0:Int))=(x0:Int) * (y0:Int) := by rw[hw0,Wj]
  have g2:((p:Int))=(x1:Int) * (y0:Int) := by rw[hp,Wj]
  have g3:((q:Int))=(x0:Int) * (y1:Int) := by rw[hq,Wj]
  have g4:((r:Int))=(x1:Int) * (y1:Int) := by rw[hr,Wj]
  obtain⟨t,ht⟩:∃t:Nat,t=p + w0 / 4294967296 := ⟨_,rfl⟩
  obtain⟨w1,hw1⟩:∃w1:Nat,w1=t % 4294967296 + q := ⟨_,rfl⟩
  obtain⟨hi,hhi⟩:∃hi:Nat,hi=r + t / 4294967296 + w1 / 4294967296 := ⟨_,rfl⟩
  have hBB:(4294967296:Nat) * 4294967296=18446744073709551616 := by decide
  have r1':x * y / 18446744073709551616=hi := by
    have h2:x * y=r * (4294967296 * 4294967296) + (p + q) * 4294967296 + w0 :=(by rw[hBB];exact hxy);have := MN Zk h2 ht hw1 hhi;rw[hBB]at this;exact this
  have B0:∀n:Nat,n < 18446744073709551616 -> (0 <= (n:Int) /\ (n:Int) < 18446744073709551616) := fun n h => by omega
  have kx := B0 x hx;have ky := B0 y hy;have kw := B0 w0 V;have kt := B0 t V;have kv := B0 w1 V;have v1 := Vt (w0:Int) V;have v2 := Vt (p:Int) V;have v3 := Vt (q:Int) V;have v4 := Vt (r:Int) V;have s1:(p:Int) + (w0:Int) / 4294967296=(t:Int) := by omega
  have s2:(t:Int) % 4294967296 + (q:Int)=(w1:Int) := by omega
  have v5 := Vt (t:Int) V;have v6 := Vt (w1:Int) V;have s3:(r:Int) + (t:Int) / 4294967296=((r + t / 4294967296:Nat):Int) := by omega
  have v7 := Vt ((r + t / 4294967296:Nat):Int) V;have s4:((r + t / 4294967296:Nat):Int) + (w1:Int) / 4294967296=(hi:Int) := by omega
  have v8 := Vt (hi:Int) V;have s5:IntKind.u64.wrap ((x:Int) * (y:Int))=((x * y % 18446744073709551616:Nat):Int) := by rw[xa,<- Wj];omega
  rw[r1']at hK;refine ae.sw (n := 51) (rs := [.tmp 4,.tmp 5]) func141 ?_;refine W.sq ?_;simp only[go_sem,aA];refine W.env fun E0 hE0 => ?_;have a0_0:E0 0 = .lit (.int .u64 (x:Nat)) := by rw[hE0];rfl
  have a0_1:E0 1 = .lit (.int .u64 (y:Nat)) := by rw[hE0];rfl
  clear hE0;refine W.sq ?_;simp only[go_sem,a0_0,a0_1,m1,yJ,kx,aA];refine W.env fun E1 hE1 => ?_;have a1_0:E1 0 = .lit (.int .u64 (x:Nat)) := by rw[hE1];exact a0_0
  have a1_1:E1 1 = .lit (.int .u64 (y:Nat)) := by rw[hE1];exact a0_1
  have a1_6:E1 6 = .lit (.int .u64 (x0:Nat)) := by rw[hE1];rfl
  clear hE1;refine W.sq ?_;simp only[go_sem,a1_0,a1_1,a1_6,m2,sX,kx,aA];refine W.env fun E2 hE2 => ?_;have a2_0:E2 0 = .lit (.int .u64 (x:Nat)) := by rw[hE2];exact a1_0
  have a2_1:E2 1 = .lit (.int .u64 (y:Nat)) := by rw[hE2];exact a1_1
  have a2_6:E2 6 = .lit (.int .u64 (x0:Nat)) := by rw[hE2];exact a1_6
  have a2_7:E2 7 = .lit (.int .u64 (x1:Nat)) := by rw[hE2];rfl
  clear hE2;refine W.sq ?_;simp only[go_sem,a2_0,a2_1,a2_6,a2_7,m3,yJ,ky,aA];refine W.env fun E3 hE3 => ?_;have a3_0:E3 0 = .lit (.int .u64 (x:Nat)) := by rw[hE3];exact a2_0
  have a3_1:E3 1 = .lit (.int .u64 (y:Nat)) := by rw[hE3];exact a2_1
  have a3_6:E3 6 = .lit (.int .u64 (x0:Nat)) := by rw[hE3];exact a2_6
  have a3_7:E3 7 = .lit (.int .u64 (x1:Nat)) := by rw[hE3];exact a2_7
  have a3_8:E3 8 = .lit (.int .u64 (y0:Nat)) := by rw[hE3];rfl
  clear hE3;refine W.sq ?_;simp only[go_sem,a3_0,a3_1,a3_6,a3_7,a3_8,m4,sX,ky,aA];refine W.env fun E4 hE4 => ?_;have a4_0:E4 0 = .lit (.int .u64 (x:Nat)) := by rw[hE4];exact a3_0
  have a4_1:E4 1 = .lit (.int .u64 (y:Nat)) := by rw[hE4];exact a3_1
  have a4_6:E4 6 = .lit (.int .u64 (x0:Nat)) := by rw[hE4];exact a3_6
  have a4_7:E4 7 = .lit (.int .u64 (x1:Nat)) := by rw[hE4];exact a3_7
  have a4_8:E4 8 = .lit (.int .u64 (y0:Nat)) := by rw[hE4];exact a3_8
  have a4_9:E4 9 = .lit (.int .u64 (y1:Nat)) := by rw[hE4];rfl
  clear hE4;refine W.sq ?_;simp only[go_sem,a4_0,a4_1,a4_6,a4_7,a4_8,a4_9,<- g1,v1,aA];refine W.env fun E5 hE5 => ?_;have a5_0:E5 0 = .lit (.int .u64 (x:Nat)) := by rw[hE5];exact a4_0
  have a5_1:E5 1 = .lit (.int .u64 (y:Nat)) := by rw[hE5];exact a4_1
  have a5_6:E5 6 = .lit (.int .u64 (x0:Nat)) := by rw[hE5];exact a4_6
  have a5_7:E5 7 = .lit (.int .u64 (x1:Nat)) := by rw[hE5];exact a4_7
  have a5_8:E5 8 = .lit (.int .u64 (y0:Nat)) := by rw[hE5];exact a4_8
  have a5_9:E5 9 = .lit (.int .u64 (y1:Nat)) := by rw[hE5];exact a4_9
  have a5_10:E5 10 = .lit (.int .u64 (w0:Nat)) := by rw[hE5];rfl
  clear hE5;refine W.sq ?_;simp only[go_sem,a5_0,a5_1,a5_6,a5_7,a5_8,a5_9,a5_10,<- g2,v2,sX,kw,s1,v5,aA];refine W.env fun E6 hE6 => ?_;have a6_0:E6 0 = .lit (.int .u64 (x:Nat)) := by rw[hE6];exact a5_0
  have a6_1:E6 1 = .lit (.int .u64 (y:Nat)) := by rw[hE6];exact a5_1
  have a6_6:E6 6 = .lit (.int .u64 (x0:Nat)) := by rw[hE6];exact a5_6
  have a6_7:E6 7 = .lit (.int .u64 (x1:Nat)) := by rw[hE6];exact a5_7
  have a6_8:E6 8 = .lit (.int .u64 (y0:Nat)) := by rw[hE6];exact a5_8
  have a6_9:E6 9 = .lit (.int .u64 (y1:Nat)) := by rw[hE6];exact a5_9
  have a6_10:E6 10 = .lit (.int .u64 (w0:Nat)) := by rw[hE6];exact a5_10
  have a6_11:E6 11 = .lit (.int .u64 (t:Nat)) := by rw[hE6];rfl
  clear hE6;refine W.sq ?_;simp only[go_sem,a6_0,a6_1,a6_6,a6_7,a6_8,a6_9,a6_10,a6_11,yJ,kt,aA];refine W.env fun E7 hE7 => ?_;have a7_0:E7 0 = .lit (.int .u64 (x:Nat)) := by rw[hE7];exact a6_0
  have a7_1:E7 1 = .lit (.int .u64 (y:Nat)) := by rw[hE7];exact a6_1
  have a7_6:E7 6 = .lit (.int .u64 (x0:Nat)) := by rw[hE7];exact a6_6
  have a7_7:E7 7 = .lit (.int .u64 (x1:Nat)) := by rw[hE7];exact a6_7
  have a7_8:E7 8 = .lit (.int .u64 (y0:Nat)) := by rw[hE7];exact a6_8
  have a7_9:E7 9 = .lit (.int .u64 (y1:Nat)) := by rw[hE7];exact a6_9
  have a7_10:E7 10 = .lit (.int .u64 (w0:Nat)) := by rw[hE7];exact a6_10
  have a7_11:E7 11 = .lit (.int .u64 (t:Nat)) := by rw[hE7];exact a6_11
  have a7_12:E7 12 = .lit (.int .u64 ((t:Int) % 4294967296)) := by rw[hE7];rfl
  clear hE7;refine W.sq ?_;simp only[go_sem,a7_0,a7_1,a7_6,a7_7,a7_8,a7_9,a7_10,a7_11,a7_12,sX,kt,aA];refine W.env fun E8 hE8 => ?_;have a8_0:E8 0 = .lit (.int .u64 (x:Nat)) := by rw[hE8];exact a7_0
  have a8_1:E8 1 = .lit (.int .u64 (y:Nat)) := by rw[hE8];exact a7_1
  have a8_6:E8 6 = .lit (.int .u64 (x0:Nat)) := by rw[hE8];exact a7_6
  have a8_7:E8 7 = .lit (.int .u64 (x1:Nat)) := by rw[hE8];exact a7_7
  have a8_8:E8 8 = .lit (.int .u64 (y0:Nat)) := by rw[hE8];exact a7_8
  have a8_9:E8 9 = .lit (.int .u64 (y1:Nat)) := by rw[hE8];exact a7_9
  have a8_10:E8 10 = .lit (.int .u64 (w0:Nat)) := by rw[hE8];exact a7_10
  have a8_11:E8 11 = .lit (.int .u64 (t:Nat)) := by rw[hE8];exact a7_11
  have a8_12:E8 12 = .lit (.int .u64 ((t:Int) % 4294967296)) := by rw[hE8];exact a7_12
  have a8_13:E8 13 = .lit (.int .u64 ((t:Int) / 4294967296)) := by rw[hE8];rfl
  clear hE8;refine W.sq ?_;simp only[go_sem,a8_0,a8_1,a8_6,a8_7,a8_8,a8_9,a8_10,a8_11,a8_12,a8_13,<- g3,v3,s2,v6,aA];refine W.env fun E9 hE9 => ?_;have a9_0:E9 0 = .lit (.int .u64 (x:Nat)) := by rw[hE9];exact a8_0
  have a9_1:E9 1 = .lit (.int .u64 (y:Nat)) := by rw[hE9];exact a8_1
  have a9_6:E9 6 = .lit (.int .u64 (x0:Nat)) := by rw[hE9];exact a8_6
  have a9_7:E9 7 = .lit (.int .u64 (x1:Nat)) := by rw[hE9];exact a8_7
  have a9_8:E9 8 = .lit (.int .u64 (y0:Nat)) := by rw[hE9];exact a8_8
  have a9_9:E9 9 = .lit (.int .u64 (y1:Nat)) := by rw[hE9];exact a8_9
  have a9_10:E9 10 = .lit (.int .u64 (w0:Nat)) := by rw[hE9];exact a8_10
  have a9_11:E9 11 = .lit (.int .u64 (t:Nat)) := by rw[hE9];exact a8_11
  have a9_12:E9 12 = .lit (.int .u64 (w1:Nat)) := by rw[hE9];rfl
  have a9_13:E9 13 = .lit (.int .u64 ((t:Int) / 4294967296)) := by rw[hE9];exact a8_13
  clear hE9;refine W.sq ?_;simp only[go_sem,a9_0,a9_1,a9_6,a9_7,a9_8,a9_9,a9_10,a9_11,a9_12,a9_13,<- g4,v4,sX,kv,s3,v7,s4,v8,aA];refine W.env fun E10 hE10 => ?_;have a10_0:E10 0 = .lit (.int .u64 (x:Nat)) := by rw[hE10];exact a9_0
  have a10_1:E10 1 = .lit (.int .u64 (y:Nat)) := by rw[hE10];exact a9_1
  have a10_6:E10 6 = .lit (.int .u64 (x0:Nat)) := by rw[hE10];exact a9_6
  have a10_7:E10 7 = .lit (.int .u64 (x1:Nat)) := by rw[hE10];exact a9_7
  have a10_8:E10 8 = .lit (.int .u64 (y0:Nat)) := by rw[hE10];exact a9_8
  have a10_9:E10 9 = .lit (.int .u64 (y1:Nat)) := by rw[hE10];exact a9_9
  have a10_10:E10 10 = .lit (.int .u64 (w0:Nat)) := by rw[hE10];exact a9_10
  have a10_11:E10 11 = .lit (.int .u64 (t:Nat)) := by rw[hE10];exact a9_11
  have a10_12:E10 12 = .lit (.int .u64 (w1:Nat)) := by rw[hE10];exact a9_12
  have a10_13:E10 13 = .lit (.int .u64 ((t:Int) / 4294967296)) := by rw[hE10];exact a9_13
  have a10_4:E10 4 = .lit (.int .u64 (hi:Nat)) := by rw[hE10];rfl
  clear hE10;refine W.sq ?_;simp only[go_sem,a10_0,a10_1,a10_6,a10_7,a10_8,a10_9,a10_10,a10_11,a10_12,a10_13,a10_4,s5,aA];refine W.env fun E11 hE11 => ?_;have a11_0:E11 0 = .lit (.int .u64 (x:Nat)) := by rw[hE11];exact a10_0
  have a11_1:E11 1 = .lit (.int .u64 (y:Nat)) := by rw[hE11];exact a10_1
  have a11_6:E11 6 = .lit (.int .u64 (x0:Nat)) := by rw[hE11];exact a10_6
  have a11_7:E11 7 = .lit (.int .u64 (x1:Nat)) := by rw[hE11];exact a10_7
  have a11_8:E11 8 = .lit (.int .u64 (y0:Nat)) := by rw[hE11];exact a10_8
  have a11_9:E11 9 = .lit (.int .u64 (y1:Nat)) := by rw[hE11];exact a10_9
  have a11_10:E11 10 = .lit (.int .u64 (w0:Nat)) := by rw[hE11];exact a10_10
  have a11_11:E11 11 = .lit (.int .u64 (t:Nat)) := by rw[hE11];exact a10_11
  have a11_12:E11 12 = .lit (.int .u64 (w1:Nat)) := by rw[hE11];exact a10_12
  have a11_13:E11 13 = .lit (.int .u64 ((t:Int) / 4294967296)) := by rw[hE11];exact a10_13
  have a11_4:E11 4 = .lit (.int .u64 (hi:Nat)) := by rw[hE11];exact a10_4
  have a11_5:E11 5 = .lit (.int .u64 ((x * y % 18446744073709551616:Nat):Int)) := by rw[hE11];rfl
  clear hE11;refine W.vs ?_;simp only[go_sem,a11_4,a11_5,aA];exact aj.mk Zm hK
def MP (x y:Nat)(hx:x < 18446744073709551616)(hy:y < 18446744073709551616)(H:Zn)(K:Zt -> Zn -> Prop)(hK:K (.ret (dh (x * y))) H):ae prog G0 99 [.lit (.int .u64 x),.lit (.int .u64 y)] H K := by
  refine ae.Z ⟨_,func99,rfl,rfl⟩ fun hcl => ?_;refine ae.st (n := 16) (rs := [.cell 4 173]) func99 ?_;simp only[go_sem,aA];refine ao.Z (MO x y hx hy _ _ ⟨trivial,?_⟩);simp only[go_sem,aA];refine aj.drop (v' := dh (x * y)) aF hcl (.agg rfl fun i hi _ => ?_) hK
  match i,hi with
  |0,_ => exact .lit _
  |1,_ => exact .lit _
def yL (x y:Nat)(H:Zn)(K:Zt -> Zn -> Prop)(hK:K (.ret (.lit (.bool (decide (x < y))))) H):ae prog G0 100 [dh x,dh y] H K := by
  refine ae.Z ⟨_,func100,rfl,rfl⟩ fun hcl => ?_;obtain⟨a,ha⟩:∃a,a=x / 18446744073709551616 := ⟨_,rfl⟩
  obtain⟨b,hb⟩:∃b,b=x % 18446744073709551616 := ⟨_,rfl⟩
  obtain⟨c,hc⟩:∃c,c=y / 18446744073709551616 := ⟨_,rfl⟩
  obtain⟨d,hd⟩:∃d,d=y % 18446744073709551616 := ⟨_,rfl⟩
  have key:∀v:Bool,v=decide (x < y) -> aj prog G0 H K (.lit (.bool v)) (ext H [.J 0 173 [.lit (.int .u64 a),.lit (.int .u64 b)],.J 0 173 [.lit (.int .u64 c),.lit (.int .u64 d)]]) := fun v h => by
    subst h;exact aj.drop aF hcl (.lit _) hK
  unfold dh;rw[<- ha,<- hb,<- hc,<- hd];refine ae.st (n := 24) (rs := [.tmp 4]) func100 ?_;by_cases h1:(a:Int) < c
  · simp only[go_sem,h1,mv,aA];exact key _ (by rw[Vl];omega)
  by_cases h2':a=c
  · subst h2';by_cases h3:(b:Int) < d
    · simp only[go_sem,h1,h3,mv,aA];exact key _ (by rw[Vl];omega)
    · simp only[go_sem,h1,h3,mv,aA];exact key _ (by rw[VP];omega)
  · have h2:¬(a:Int)=c :=V;simp only[go_sem,h1,h2,mv,aA];exact key _ (by rw[VP];omega)
section
variable {P:Program} {t e:TypeId} {x y:Operand} {k k':IntKind} {a b c d:Int}
def uU (n:Nat)(he:P.underlying e=some (.int k)):aQ P (Op.equalIn (n + 1) e (.int k' a) (.int k' b))=some (a == b) := by
  unfold Op.equalIn;simp[underlying,program,he,aQ,bind,Sem.bind,pure]
def yC (n:Nat)(ht:P.underlying t=some (.array 2 e))(he:P.underlying e=some (.int k))(hs:P.cellsOf e=1):
    aQ P (Op.equalIn (n + 2) t (.agg #[.int k' a,.int k' b]) (.agg #[.int k' c,.int k' d]))=some (a == c && b == d) := by
  unfold Op.equalIn;have e1:∀ {α:Type} (f:TypeDesc -> Sem α),aQ P (underlying t >>= f)=aQ P (f (.array 2 e)) := fun f => pureRun_bind (by simp[underlying,program,ht,aQ,bind,Sem.bind,pure]);have hinf:∃i,P.info? e=some i /\ i.size=1 := by
    obtain⟨i,hi⟩ := tZ he;exact⟨i,hi,by simpa[Program.cellsOf,hi] using hs⟩
  obtain⟨i,hi,hi1⟩ := hinf;have e2:∀ {α:Type} (f:Nat -> Sem α),aQ P (sizeOf e >>= f)=aQ P (f 1) := fun f => pureRun_bind (by simp[sizeOf,typeInfo,program,hi,hi1,aQ,bind,Sem.bind,pure]);have e3:∀ {α:Type} (cs:Array Value) (o:Nat) (v:Value) (f:Value -> Sem α),cs[o]? = some v -> aQ P (part e cs o >>= f)=aQ P (f v) := fun cs o v f h => pureRun_bind (by simp[part,isAgg,underlying,program,he,h,aQ,bind,Sem.bind,pure]);have e4:∀ {α:Type} (p q:Int) (f:Bool -> Sem α),aQ P (Op.equalIn (n + 1) e (.int k' p) (.int k' q) >>= f)=aQ P (f (p == q)) := fun p q f => pureRun_bind (uU n he);rw[e1];dsimp only;rw[e2];simp only[Std.Legacy.Range.forIn_eq_forIn_range',Std.Legacy.Range.size,List.range',YL,YT];simp only[bind_assoc];rw[e3 _ _ (.int k' a) _ rfl,e3 _ _ (.int k' c) _ rfl,e4];by_cases h:(a == c)=true
  · rw[h];simp only[Bool.not_true,Bool.false_eq_true,if_false,pure_bind,bind_assoc];rw[e3 _ _ (.int k' b) _ rfl,e3 _ _ (.int k' d) _ rfl,e4];by_cases h2:(b == d)=true
    · rw[h2];rfl
    · rw[WW]at h2;rw[h2];rfl
  · rw[WW]at h;rw[h];rfl
def B6 (ht:P.underlying t=some (.array 2 e))(he:P.underlying e=some (.int k))(hs:P.cellsOf e=1)(hg:P.eqGuardType P.depth t=false):
    aU P .eql t x y (.agg [.lit (.int k' a),.lit (.int k' b)]) (.agg [.lit (.int k' c),.lit (.int k' d)])=some (.lit (.bool (a == c && b == d))) := by
  show (aQ P (do eqGuard .eql t x y (.agg #[.int k' a,.int k' b]) (.agg #[.int k' c,.int k' d]);binOp .eql t (.agg #[.int k' a,.int k' b]) (.agg #[.int k' c,.int k' d]))).map _=_;have h0:aQ P (eqGuard .eql t x y (.agg #[.int k' a,.int k' b]) (.agg #[.int k' c,.int k' d]))=some () := by
    simp[eqGuard,program,hg,aQ,bind,Sem.bind,pure]
  have h1:binOp .eql t (.agg #[.int k' a,.int k' b]) (.agg #[.int k' c,.int k' d])=(Op.equalIn (9998 + 2) t (.agg #[.int k' a,.int k' b]) (.agg #[.int k' c,.int k' d]) >>= fun r => pure (Value.bool r)) := rfl;rw[pureRun_bind h0,h1,pureRun_bind (yC 9998 ht he hs)];rfl
end
def ki (neg:Bool)(n d:Nat):Option Zo := if n <= 4611686018427387903 /\ d <= 4611686018427387903 then some (qV (if neg=true then -(n:Int) else n) d) else none
def Cs (o:Option Zo)(H:Zn)(K:Zt -> Zn -> Prop):Prop := (∀v,o=some v -> K (.ret v) H) /\ (o=none -> ∀H',H.A <= H'.A -> K .panic H')
def uX:ja prog 255=some [] := by kernel_rfl
def uY:(Zo.agg []).cU=some (.agg #[]) := rfl
def uZ:aQ prog (Instr.makeInterface 255 (.agg #[]))=some (.iface 255 (.agg #[])) := by kernel_rfl
def MQ (neg:Bool)(n d:Nat)(hn:n < 340282366920938463463374607431768211456)(hd:d < 340282366920938463463374607431768211456)(H:Zn)(K:Zt -> Zn -> Prop)(hK:Cs (ki neg n d) H K):
    ae prog G0 168 [.lit (.bool neg),dh n,dh d] H K := by
  refine ae.Z ⟨_,func168,rfl,rfl⟩ fun hcl => ?_;refine ae.st (n := 43) (rs := [.cell 6 58]) func168 ?_;by_cases hf:n <= 4611686018427387903 /\ d <= 4611686018427387903
  · have e1:n / 18446744073709551616=0 :=V;have e2:d / 18446744073709551616=0 :=V;have e3:n % 18446744073709551616=n :=V;have e4:d % 18446744073709551616=d :=V;have h1:¬(4611686018427387903:Int) < (n:Int) :=V;have h2:¬(4611686018427387903:Int) < (d:Int) :=V;have w1 := UU (n:Int) V;have w2 := UU (d:Int) V;have w3 := UU (0-(n:Int)) V;have w4:(0:Int)-(n:Int) = -(n:Int) :=V;have hk := hK.1 _ (by unfold ki;rw[UX hf]);cases neg with
    |true =>
      simp only[go_sem,dh,e1,e2,e3,e4,h1,h2,w1,w2,w3,aA];rw[UX rfl]at hk;rw[w4];exact aj.drop aF hcl (sW _ _) hk
    |false =>
      simp only[go_sem,dh,e1,e2,e3,e4,h1,h2,w1,w2,w3,aA];rw[UW Zk]at hk;exact aj.drop aF hcl (sW _ _) hk
  · have hk := hK.2 (by unfold ki;rw[UW hf]);by_cases a1:((n / 18446744073709551616:Nat):Int)=0
    · by_cases a2:(4611686018427387903:Int) < ((n % 18446744073709551616:Nat):Int)
      · simp only[go_sem,dh,a1,a2,mv,uX,uY,uZ,aA];exact⟨⟨_,_,rfl⟩,_,iw.refl _ _,by simp[aV],hk _ (by simp[aV])⟩
      · by_cases a3:((d / 18446744073709551616:Nat):Int)=0
        · have a4:(4611686018427387903:Int) < ((d % 18446744073709551616:Nat):Int) :=V;simp only[go_sem,dh,a1,a2,a3,a4,mv,uX,uY,uZ,aA];exact⟨⟨_,_,rfl⟩,_,iw.refl _ _,by simp[aV],hk _ (by simp[aV])⟩
        · simp only[go_sem,dh,a1,a2,a3,mv,uX,uY,uZ,aA];exact⟨⟨_,_,rfl⟩,_,iw.refl _ _,by simp[aV],hk _ (by simp[aV])⟩
    · simp only[go_sem,dh,a1,mv,uX,uY,uZ,aA];exact⟨⟨_,_,rfl⟩,_,iw.refl _ _,by simp[aV],hk _ (by simp[aV])⟩
end Go.Proofs.F01
namespace Go.Proofs.F01
open Go.Hx Tryz
variable {f:FuncId}{a b c d:Int}{b' d' nx p q u v:Nat}{S:Nat -> Prop}{o:Option Zo}{H:Zn}
def yM (a g:Nat):(a:Int).tdiv (g:Int)=((a / g:Nat):Int) := by
  rw[VO V];exact(Yd _ _).symm
def u5 (a:Int)(ha:-9223372036854775808 <= a /\ a <= 9223372036854775807)(H2:Zn)(K:Zt -> Zn -> Prop)(h:K (.ret (.lit (.int .u64 (a.natAbs:Int)))) H2):ae prog G0 96 [.lit (.int .i64 a)] H2 K := Cr a ha H2 K h
def u9 (x y:Nat)(hx:x <= 4611686018427387903)(hy:y <= 4611686018427387903)(H2:Zn)(K:Zt -> Zn -> Prop)(h:K (.ret (dh (x * y))) H2):ae prog G0 99 [.lit (.int .u64 (x:Int)),.lit (.int .u64 (y:Int))] H2 K := MP x y V V H2 K h
def vd {neg:Bool}{n d:Nat}{u:Zo}(h:ki neg n d=some u):∃x y,u=qV x y := by
  unfold ki at h;split at h
  · cases h;exact⟨_,_,rfl⟩
  · cases h
def Ct (x y:Int):ZJ H (.agg [.lit (.int .i64 x),.lit (.int .i64 y)]) (qV x y) := .agg rfl fun i hi _ => match i,hi with
  |0,_ => .lit _
  |1,_ => .lit _
def Cu (h:∀u,o=some u -> ∃x y,u=qV x y):∃x y e,sR tt o = .nf [.agg [.lit (.int .i64 x),.lit (.int .i64 y)],.lit (.int .i64 e)] := by
  cases o with
  |none => exact⟨0,0,6,rfl⟩
  |some u =>
    obtain⟨x,y,rfl⟩ := h u rfl;exact⟨x,y,0,rfl⟩
def ve (x y e:Int):Fz S H nx (.nf [.agg [.lit (.int .i64 x),.lit (.int .i64 y)],.lit (.int .i64 e)]) (.nf [.agg [.lit (.int .i64 x),.lit (.int .i64 y)],.lit (.int .i64 e)]) :=
  .nf rfl fun i hi _ => match i,hi with
    |0,_ => sW _ _
    |1,_ => .lit _
def vf (x y:Int):Below 0 (.agg [.lit (.int .i64 x),.lit (.int .i64 y)]) := .agg fun i h => match i,h with
  |0,_ => .lit _
  |1,_ => .lit _
def MR (ho:∀u,o=some u -> ∃x y,u=qV x y)(hf:ae prog G0 f [qV a b,qV c d] cW (mD o)):
    ae prog G0 164 [.ni [.Z f [] []] 0,.ni [.lit (.int .i64 a),.lit (.int .i64 b)] 0,.ni [.lit (.int .i64 c),.lit (.int .i64 d)] 0] cW (mD o) := by
  refine ae.Z ⟨_,func164,rfl,rfl⟩ fun hcl => ?_;refine ae.st (n := 8) (rs := [.cell 3 58]) func164 ?_;simp only[go_sem,aA];refine ao.Z ((ae.ss (args := [qV a b,qV c d]) aF rfl (fun i hi _ => .plain (match i,hi with |0,_ => vf a b |1,_ => vf c d)) hf).mono ?_);rintro r H' ⟨rfl,rfl⟩;refine⟨trivial,?_⟩;cases o with
  |none => exact⟨_,iw.refl _ _,Wo _,rfl⟩
  |some u =>
    obtain⟨x,y,rfl⟩ := ho u rfl;show opsV _ _ _ _ _ _ _;simp only[go_sem,qV,aA];exact aj.mk (Wo _) ⟨_,rfl,Ct x y⟩
def mK (a b c d:Int)(o:Option Zo):Zo := if bC a b=0 /\ bC c d=0 then sR tt o else .nf [qV 0 0,.lit (.int .i64 5)]
def MS (ra:(-9223372036854775808 <= a /\ a <= 9223372036854775807) /\ (-9223372036854775808 <= b /\ b <= 9223372036854775807))(rc:(-9223372036854775808 <= c /\ c <= 9223372036854775807) /\ (-9223372036854775808 <= d /\ d <= 9223372036854775807))
    (ho:∀u,o=some u -> ∃x y,u=qV x y) (hf:bC a b=0 -> bC c d=0 -> ae prog G0 f [qV a b,qV c d] cW (mD o)) (H:Zn) (K:Zt -> Zn -> Prop) (hK:K (.ret (mK a b c d o)) H):
    ae prog G0 128 [qV a b,qV c d,.Z f [] []] H K := by
  refine ae.Z ⟨_,func128,rfl,rfl⟩ fun hcl => ?_;refine ae.st (n := 22) (rs := [.cell 6 58,.tmp 7]) func128 ?_;simp only[go_sem,qV,aA];refine ao.Z (sZ a b ra.1 ra.2 _ _ ⟨trivial,?_⟩);by_cases h1:bC a b=0;rotate_left
  · unfold mK at hK;rw[UW fun h => h1 h.1]at hK;simp only[go_sem,h1,mv,aA];exact aj.drop aF hcl (ve 0 0 5) hK
  rw[h1];simp only[go_sem,aA];refine ao.Z (sZ c d rc.1 rc.2 _ _ ⟨trivial,?_⟩);by_cases h2:bC c d=0;rotate_left
  · unfold mK at hK;rw[UW fun h => h2 h.2]at hK;simp only[go_sem,h2,aA];exact aj.drop aF hcl (ve 0 0 5) hK
  rw[h2];unfold mK at hK;rw[UX ⟨h1,h2⟩]at hK;simp only[go_sem,aA];obtain⟨H1,hH1⟩:∃H1,H1=ext H [.J 0 58 [.lit (.int .i64 a),.lit (.int .i64 b)],.J 0 58 [.lit (.int .i64 c),.lit (.int .i64 d)],.J 0 203 (Zo.Z f [] []).cells,.J 0 58 [.lit (.int .i64 0),.lit (.int .i64 0)]] := ⟨_,rfl⟩
  have n1:H1.A=H.A + 4:=hH1▸rfl
  have k0:=dp hH1
  have k1:=gE hH1 1 rfl
  have k2:H1.get (H.A + 2)=some (.J 0 203 [.Z f [] []]) := by rw[hH1];exact bO H _ 2 (Zj)
  rw[<- hH1];refine ao.Z ((Qd aF 164 [.O (H.A + 2) 0 0,.O H.A 0 0,.O (H.A + 1) 0 0] [.ni [.Z f [] []] 0,.ni [.lit (.int .i64 a),.lit (.int .i64 b)] 0,.ni [.lit (.int .i64 c),.lit (.int .i64 d)] 0] H1 o rfl (fun H2 hag i h h' => ?_) (fun u hu => ?_) (MR ho (hf h1 h2))).mono ?_)
  · match i,h with
    |0,_ => exact .nN trivial ((hag _ V).trans k2) Zj rfl fun i hi _ => match i,hi with |0,_ => .Z rfl rfl (fun i h _ => absurd h (Va _)) (fun i h _ => absurd h (Va _))
    |1,_ => exact .nN trivial ((hag _ V).trans k0) Zj rfl fun i hi _ => match i,hi with |0,_ => .lit _ |1,_ => .lit _
    |2,_ => exact .nN trivial ((hag _ V).trans k1) Zj rfl fun i hi _ => match i,hi with |0,_ => .lit _ |1,_ => .lit _
  · obtain⟨x,y,rfl⟩ := ho u hu;rfl
  · rintro r H' ⟨rfl,rfl⟩;refine⟨trivial,?_⟩;obtain⟨x,y,e,he⟩ := Cu ho;rw[he]at hK ⊢;rw[hH1];simp only[go_sem,aA];exact aj.drop aF hcl (ve x y e) hK
def MT (ho:∀u,o=some u -> ∃x y,u=qV x y):∃x y e,mK a b c d o = .nf [.agg [.lit (.int .i64 x),.lit (.int .i64 y)],.lit (.int .i64 e)] := by
  unfold mK;split
  · exact Cu ho
  · exact⟨0,0,5,rfl⟩
def pr {n:Int}(h:bC n d=0):(-4611686018427387903 <= n /\ n <= 4611686018427387903) /\ (1 <= d /\ d <= 4611686018427387903) /\ Int.gcd n d=1 := by
  unfold bC kh at h;by_cases h2:d < 1 \/ d > 4611686018427387903 \/ n < -4611686018427387903 \/ n > 4611686018427387903
  · rw[UX h2]at h;exact absurd h (Zk)
  · rw[UW h2]at h;by_cases h3:Int.gcd n d ≠ 1
    · rw[UX h3]at h;exact absurd h (Zk)
    · exact⟨V,V,V⟩
def qL {hi lo:Nat}(hl:lo < 18446744073709551616):dh (hi * 18446744073709551616 + lo) = .agg [.lit (.int .u64 (hi:Int)),.lit (.int .u64 (lo:Int))] := by
  unfold dh;have e1:(hi * 18446744073709551616 + lo) / 18446744073709551616=hi := by omega
  have e2:(hi * 18446744073709551616 + lo) % 18446744073709551616=lo := by omega
  rw[e1,e2]
def yO :Fz S H nx (.agg [.lit (.int .u64 a),.lit (.int .u64 b)]) (.agg [.lit (.int .u64 a),.lit (.int .u64 b)]) := .agg rfl fun i hi _ => match i,hi with
  |0,_ => .lit _
  |1,_ => .lit _
def vg (x:Nat)(hx:x < 18446744073709551616 * 18446744073709551616):∃hi lo:Nat,x=hi * 18446744073709551616 + lo /\ hi < 18446744073709551616 /\ lo < 18446744073709551616 := ⟨x / 18446744073709551616,x % 18446744073709551616,V,V,V⟩
def Cv (a b c:Nat)(hc:c <= 1)(hu:u=(a + b + c) % 18446744073709551616)(hv:v=(a + b + c) / 18446744073709551616):fI [.lit (.int .u64 (a:Int)),.lit (.int .u64 (b:Int)),.lit (.int .u64 (c:Int))]=some (.nf [.lit (.int .u64 (u:Int)),.lit (.int .u64 (v:Int))]) := by
  have h:Nat.ble c 1=true := Yi hc;simp only[fI,Int.toNat_natCast,h,cond_true,Y8,<- hu,<- hv]
def Cw (a b c:Nat)(hc:c <= 1)(hu:u=(a + 18446744073709551616-b-c) % 18446744073709551616)(hv:v=bif Nat.blt a (b + c) then 1 else 0):uW [.lit (.int .u64 (a:Int)),.lit (.int .u64 (b:Int)),.lit (.int .u64 (c:Int))]=some (.nf [.lit (.int .u64 (u:Int)),.lit (.int .u64 (v:Int))]) := by
  have h:Nat.ble c 1=true := Yi hc;simp only[uW,Int.toNat_natCast,h,cond_true,Y8,<- hu,<- hv]
def MU (x y:Nat)(hxy:x + y < 18446744073709551616 * 18446744073709551616)(H:Zn)(K:Zt -> Zn -> Prop)(hK:K (.ret (dh (x + y))) H):ae prog G0 165 [dh x,dh y] H K := by
  refine ae.Z ⟨_,func165,rfl,rfl⟩ fun hcl => ?_;obtain⟨h1,l1,rfl,b1,b2⟩ := vg x V;obtain⟨h2,l2,rfl,b3,b4⟩ := vg y V;obtain⟨u,hu⟩:∃u,u=(l1 + l2 + 0) % 18446744073709551616 := ⟨_,rfl⟩
  obtain⟨c,hc⟩:∃c,c=(l1 + l2 + 0) / 18446744073709551616 := ⟨_,rfl⟩
  obtain⟨v,hv⟩:∃v,v=h1 + h2 + c := ⟨_,rfl⟩
  have eq:h1 * 18446744073709551616 + l1 + (h2 * 18446744073709551616 + l2)=v * 18446744073709551616 + u := by omega
  have ul:u < 18446744073709551616 := by omega
  rw[eq,qL ul]at hK;rw[qL b2,qL b4];have k1 := Cv l1 l2 0 Zk hu hc;have k2 := Cv h1 h2 c V (u := v) (v := 0) V V;clear eq hu hc hv hxy;refine ae.st (n := 29) (rs := [.cell 4 173]) func165 ?_;simp only[go_sem,aA];refine Cp k1 ⟨trivial,?_⟩;simp only[go_sem,aA];refine Cp k2 ⟨trivial,?_⟩;simp only[go_sem,aA];exact aj.drop aF hcl yO hK
def Cx (x y:Nat)(hxy:y <= x)(hx:x < 18446744073709551616 * 18446744073709551616)(H:Zn)(K:Zt -> Zn -> Prop)(hK:K (.ret (dh (x-y))) H):ae prog G0 166 [dh x,dh y] H K := by
  refine ae.Z ⟨_,func166,rfl,rfl⟩ fun hcl => ?_;obtain⟨h1,l1,rfl,b1,b2⟩ := vg x hx;obtain⟨h2,l2,rfl,b3,b4⟩ := vg y V;obtain⟨c,hc⟩:∃c:Nat,c=bif Nat.blt l1 (l2 + 0) then 1 else 0 := ⟨_,rfl⟩
  have hc2:(l1 < l2 /\ c=1) \/ (l2 <= l1 /\ c=0) := by
    by_cases h:l1 < l2
    · exact .inl ⟨h,by rw[hc,show Nat.blt l1 (l2 + 0)=true from Yi h];rfl⟩
    · exact .inr ⟨V,by rw[hc,show Nat.blt l1 (l2 + 0)=false from Bool.eq_false_iff.2 fun h' => h (XL h')];rfl⟩
  obtain⟨u,hu⟩:∃u,u=(l1 + 18446744073709551616-l2-0) % 18446744073709551616 := ⟨_,rfl⟩
  obtain⟨v,hv⟩:∃v,v=h1-h2-c := ⟨_,rfl⟩
  have ul:u < 18446744073709551616 := by omega
  have hle:h2 + c <= h1 := by rcases hc2 with ⟨_,h⟩ |⟨_,h⟩ <;> subst h <;> omega
  have eq:h1 * 18446744073709551616 + l1-(h2 * 18446744073709551616 + l2)=v * 18446744073709551616 + u := by
    rcases hc2 with ⟨_,h⟩ |⟨_,h⟩ <;> subst h <;> omega
  rw[eq,qL ul]at hK;rw[qL b2,qL b4];have k1 := Cw l1 l2 0 Zk hu hc;have hb:Nat.blt h1 (h2 + c)=false := Bool.eq_false_iff.2 fun h' => by
    have := XL h';omega
  have k2 := Cw h1 h2 c V (u := v) (v := 0) V (by rw[hb];rfl);clear eq hu hc hv hxy hx;refine ae.st (n := 29) (rs := [.cell 4 173]) func166 ?_;simp only[go_sem,aA];refine Cq k1 ⟨trivial,?_⟩;simp only[go_sem,aA];refine Cq k2 ⟨trivial,?_⟩;simp only[go_sem,aA];exact aj.drop aF hcl yO hK
def Cy (lo y:Nat)(hy:y ≠ 0)(hl:lo < 18446744073709551616)(hyW:y < 18446744073709551616)(H:Zn)(K:Zt -> Zn -> Prop)
    (hK:K (.ret (.nf [.lit (.int .u64 ((lo / y:Nat):Int)),.lit (.int .u64 ((lo % y:Nat):Int))])) H):ae prog G0 187 [.lit (.int .u64 0),.lit (.int .u64 (lo:Int)),.lit (.int .u64 (y:Int))] H K := by
  refine ae.Z ⟨_,func187,rfl,rfl⟩ fun hcl => ?_;have q1:(lo:Int).tdiv (y:Int)=((lo / y:Nat):Int) := by rw[VO (Int.natCast_nonneg _)];rfl
  have q2:(lo:Int).tmod (y:Int)=((lo % y:Nat):Int) := by rw[VK (Int.natCast_nonneg _)];rfl
  have l1:lo / y <= lo := WO _ _;have l2:lo % y <= lo := Nat.mod_le _ _;have n1:¬(y:Int)=0 := by omega
  have n2:(0:Int) < (y:Int) := by omega
  have n3:¬(y:Int) <= 0 := by omega
  generalize lo / y=q at *
  generalize lo % y=r at *
  have w1 := Vt (q:Int) V;have w2 := Vt (r:Int) V;refine ae.st (n := 135) (rs := [.tmp 6,.tmp 7]) func187 ?_;simp only[go_sem,n1,n2,n3,aA];refine W.dr 7 [0,0,3,0,0,24,7] mixed ?_;simp only[go_sem,q1,q2,w1,w2,n1,n2,n3,aA];exact aj.bH aF hcl (.refl _) (.nf rfl fun i hi _ => match i,hi with |0,_ => .lit _ |1,_ => .lit _) hK
def MV (lo y:Nat)(hy:y ≠ 0)(hl:lo < 18446744073709551616)(hyW:y < 18446744073709551616)(H:Zn)(K:Zt -> Zn -> Prop)
    (hK:K (.ret (.lit (.int .u64 ((lo % y:Nat):Int)))) H):ae prog G0 167 [.lit (.int .u64 0),.lit (.int .u64 (lo:Int)),.lit (.int .u64 (y:Int))] H K := by
  refine ae.Z ⟨_,func167,rfl,rfl⟩ fun hcl => ?_;have q2:(0:Int).tmod (y:Int)=0 := Int.zero_tmod _;have n1:¬(y:Int)=0 := by omega
  refine ae.st (n := 19) (rs := [.tmp 6]) func167 ?_;simp only[go_sem,q2,n1,aA];refine ao.Z (Cy lo y hy hl hyW _ _ ⟨trivial,?_⟩);simp only[go_sem,aA];exact aj.bH aF hcl (.refl _) (.lit _) hK
def MW (x d:Nat)(hx:x < 18446744073709551616)(hd:d ≠ 0)(hdW:d < 18446744073709551616)(H:Zn)(K:Zt -> Zn -> Prop)(hK:K (.ret (.agg [.lit (.int .u64 0),.lit (.int .u64 ((x / d:Nat):Int))])) H):
    ae prog G0 169 [.agg [.lit (.int .u64 0),.lit (.int .u64 (x:Int))],.lit (.int .u64 (d:Int))] H K := by
  refine ae.Z ⟨_,func169,rfl,rfl⟩ fun hcl => ?_;have q1:(0:Int).tdiv (d:Int)=0 := Int.zero_tdiv _;have q2:(0:Int).tmod (d:Int)=0 := Int.zero_tmod _;have n1:¬(d:Int)=0 := by omega
  have dv := Cy x d hd hx hdW;generalize x / d=q at *
  generalize x % d=r at *
  refine ae.st (n := 24) (rs := [.cell 4 173]) func169 ?_;simp only[go_sem,aA];refine W.dr 12 [0,1,0,7,0,16,0,127,255,511,511,1023] mixed ?_;simp only[go_sem,q2,n1,aA];refine⟨_,[],bF.pure fun H2 => dv H2 _ ⟨rfl,rfl⟩,?_⟩;simp only[go_sem,q1,n1,aA];exact aj.drop aF hcl yO hK
def MX {g T:Nat}(h1:Nat.Coprime T b')(h2:Nat.Coprime T d')(hg:0 < g):
    Nat.gcd (g * T) ((g * b') * (g * d'))=g * Nat.gcd T g /\ g * T / (g * Nat.gcd T g)=T / Nat.gcd T g /\ (g * b') * (g * d') / (g * Nat.gcd T g)=b' * (g * d' / Nat.gcd T g) := by
  have e:(g * b') * (g * d')=g * (b' * (d' * g)) := by ac_rfl
  have k:Nat.gcd T (b' * (d' * g))=Nat.gcd T g := by
    rw[Nat.Coprime.gcd_mul_left_cancel_right _ (Nat.Coprime.symm h1),Nat.Coprime.gcd_mul_left_cancel_right _ (Nat.Coprime.symm h2)]
  refine⟨?_,?_,?_⟩
  · rw[e,Nat.gcd_mul_left,k]
  · rw[XR _ _ hg]
  · rw[e,XR _ _ hg,Wr d' g];exact Nat.mul_div_assoc _ (Yw (WN T g) (Nat.dvd_mul_right g d'))
def yQ {z p q b':Nat}(h:Nat.Coprime p b')(e:∀k,k ∣ z -> k ∣ b' -> k ∣ p):Nat.Coprime z b' := by
  have hd:Nat.gcd z b' ∣ Nat.gcd p b' := Nat.dvd_gcd (e _ (Yb z b') (WN z b')) (WN z b');rw[show Nat.gcd p b'=1 from h]at hd;exact Nat.dvd_one.1 hd
def Cz (h:Nat.Coprime p b'):Nat.Coprime (p + q * b') b' := yQ (q := q) h fun k h1 h2 => (Nat.dvd_add_left (Yw h2 (YE b' q))).1 h1
def CA {z:Nat}(h:Nat.Coprime p b')(e:p=z + q * b'):Nat.Coprime z b' := yQ (q := q) h fun k h1 h2 => by rw[e];exact Nat.dvd_add h1 (Yw h2 (YE b' q))
def CB {z:Nat}(h:Nat.Coprime p b')(e:q * b'=z + p):Nat.Coprime z b' := yQ (q := q) h fun k h1 h2 => (Nat.dvd_add_right h1).1 (by rw[<- e];exact Yw h2 (YE b' q))
def MY {A C T:Nat}(hA:Nat.Coprime A b')(hC:Nat.Coprime C d')(hbd:Nat.Coprime b' d')(hT:T=A * d' + C * b' \/ A * d'=T + C * b' \/ C * b'=T + A * d'):Nat.Coprime T b' /\ Nat.Coprime T d' := by
  have x1:Nat.Coprime (A * d') b' := Nat.Coprime.mul_left hA hbd.symm;have y1:Nat.Coprime (C * b') d' := Nat.Coprime.mul_left hC hbd;rcases hT with hT |hT |hT
  · exact⟨by rw[hT];exact Cz x1,by rw[hT,Nat.add_comm];exact Cz y1⟩
  · exact⟨CA x1 hT,CB y1 hT⟩
  · exact⟨CB x1 hT,CA y1 hT⟩
def MZ {A B C D g T TR:Nat}(hAB:Nat.gcd A B=1)(hCD:Nat.gcd C D=1)(hB:0 < B)(hg:g=Nat.gcd B D)(hb':b'=B / g)(hd':d'=D / g)
    (hT:T=A * d' + C * b' \/ A * d'=T + C * b' \/ C * b'=T + A * d') (hTR:TR=g * T):
    TR / Nat.gcd TR (B * D)=T / Nat.gcd T g /\ B * D / Nat.gcd TR (B * D)=b' * (D / Nat.gcd T g) := by
  have pg:0 < g := by rw[hg];exact Nat.gcd_pos_of_pos_left _ hB
  have eB:B=g * b' := by rw[hb',XU (by rw[hg];exact Yb B D)]
  have eD:D=g * d' := by rw[hd',XU (by rw[hg];exact WN B D)]
  have k:Nat.Coprime b' d' := by rw[hb',hd',hg];exact Nat.coprime_div_gcd_div_gcd (by rw[<- hg];exact pg)
  have kA:Nat.Coprime A b' := Nat.Coprime.coprime_dvd_right ⟨g,by rw[eB,Wr]⟩ hAB;have kC:Nat.Coprime C d' := Nat.Coprime.coprime_dvd_right ⟨g,by rw[eD,Wr]⟩ hCD;obtain⟨c1,c2⟩ := MY kA kC k hT;obtain⟨e1,e2,e3⟩ := MX c1 c2 pg;clear hb' hd' hg;subst hTR;rw[eB,eD,e1];exact⟨e2,e3⟩
def je (a b d:Int):Nat := a.natAbs * (d.natAbs / Int.gcd b d)
def jf (b c d:Int):Nat := c.natAbs * (b.natAbs / Int.gcd b d)
def lZ (a b c d:Int):Nat := if (a < 0 ↔ c < 0) then je a b d + jf b c d else if je a b d < jf b c d then jf b c d-je a b d else je a b d-jf b c d
def yR (a b c d:Int):Bool := if (a < 0 ↔ c < 0) then decide (a < 0) else if je a b d < jf b c d then !decide (a < 0) else decide (a < 0)
def oa (a b c d:Int):Option Zo := ki (yR a b c d) (lZ a b c d / Nat.gcd (lZ a b c d) (Int.gcd b d)) (b.natAbs / Int.gcd b d * (d.natAbs / Nat.gcd (lZ a b c d) (Int.gcd b d)))
def M0 (a b c d:Int)(ha:-4611686018427387903 <= a /\ a <= 4611686018427387903)(hb:1 <= b /\ b <= 4611686018427387903)(hc:-4611686018427387903 <= c /\ c <= 4611686018427387903)(hd:1 <= d /\ d <= 4611686018427387903)
    (hsm:lZ a b c d < 18446744073709551616) (H:Zn) (K:Zt -> Zn -> Prop) (hK:Cs (oa a b c d) H K):ae prog G0 130 [qV a b,qV c d] H K := by
  refine ae.Z ⟨_,func130,rfl,rfl⟩ fun hcl => ?_;have wb := Vt b V;have wd := Vt d V;have g0:0 < Int.gcd b d := WM _ V;obtain⟨B,hB⟩:∃B:Nat,(B:Int)=b := ⟨b.natAbs,V⟩
  obtain⟨D,hD⟩:∃D:Nat,(D:Int)=d := ⟨d.natAbs,V⟩
  have hBn:b.natAbs=B := by omega
  have hDn:d.natAbs=D := by omega
  have hgB:Int.gcd b d <= B := by rw[<- hBn];exact Yv V (Yb _ _)
  unfold oa at hK;have eX:je a b d=a.natAbs * (D / Int.gcd b d) := by unfold je;rw[hDn]
  have eY:jf b c d=c.natAbs * (B / Int.gcd b d) := by unfold jf;rw[hBn]
  have eT:lZ a b c d=if (a < 0 ↔ c < 0) then je a b d + jf b c d else if je a b d < jf b c d then jf b c d-je a b d else je a b d-jf b c d := rfl
  have eS:yR a b c d=if (a < 0 ↔ c < 0) then decide (a < 0) else if je a b d < jf b c d then !decide (a < 0) else decide (a < 0) := rfl
  rw[hBn,hDn]at hK;have cm1 := fun H2 K h => yK b d V V H2 K h;generalize lZ a b c d=T at *
  generalize yR a b c d=S at *
  generalize je a b d=X at *
  generalize jf b c d=Y at *
  generalize Int.gcd b d=g at *
  have gne:¬(g:Int)=0 := by omega
  have q1 := yM D g;have q2 := yM B g;have b1:D / g <= D := WO _ _;have b2:B / g <= B := WO _ _;have bX:X <= 4611686018427387903 * 4611686018427387903 := by rw[eX];exact Xi V (V)
  have bY:Y <= 4611686018427387903 * 4611686018427387903 := by rw[eY];exact Xi V (V)
  obtain⟨xh,exh⟩:∃z,z=X / 18446744073709551616 := ⟨_,rfl⟩
  obtain⟨xl,exl⟩:∃z,z=X % 18446744073709551616 := ⟨_,rfl⟩
  obtain⟨yh,eyh⟩:∃z,z=Y / 18446744073709551616 := ⟨_,rfl⟩
  obtain⟨yl,eyl⟩:∃z,z=Y % 18446744073709551616 := ⟨_,rfl⟩
  obtain⟨th,eth⟩:∃z,z=T / 18446744073709551616 := ⟨_,rfl⟩
  obtain⟨tl,etl⟩:∃z,z=T % 18446744073709551616 := ⟨_,rfl⟩
  have wX:dh X = .agg [.lit (.int .u64 (xh:Int)),.lit (.int .u64 (xl:Int))] := by unfold dh;rw[<- exh,<- exl]
  have wY:dh Y = .agg [.lit (.int .u64 (yh:Int)),.lit (.int .u64 (yl:Int))] := by unfold dh;rw[<- eyh,<- eyl]
  have wT:dh T = .agg [.lit (.int .u64 0),.lit (.int .u64 (tl:Int))] := by unfold dh;rw[<- eth,<- etl,show th=0 by omega];rfl
  have eth0:th=0 := by omega
  have eT2:T=tl := by omega
  have btl:tl < 18446744073709551616 := by omega
  clear exh exl eyh eyl eth etl;subst eth0;have tx:∀H2 K,K (.ret (.agg [.lit (.int .u64 (xh:Int)),.lit (.int .u64 (xl:Int))])) H2 -> ae prog G0 99 [.lit (.int .u64 (a.natAbs:Int)),.lit (.int .u64 ((D / g:Nat):Int))] H2 K := fun H2 K h => u9 _ _ V V H2 K (by rw[<- eX,wX];exact h);have ty:∀H2 K,K (.ret (.agg [.lit (.int .u64 (yh:Int)),.lit (.int .u64 (yl:Int))])) H2 -> ae prog G0 99 [.lit (.int .u64 (c.natAbs:Int)),.lit (.int .u64 ((B / g:Nat):Int))] H2 K := fun H2 K h => u9 _ _ V V H2 K (by rw[<- eY,wY];exact h);clear eX eY;generalize D / g=p1 at *
  generalize B / g=p2 at *
  have u1 := Vt (p1:Int) V;have u2 := Vt (p2:Int) V;have u3 := Vt (g:Int) V;rw[hD]at q1;rw[hB]at q2;have ls:∀H2 K,K (.ret (.lit (.bool (decide (X < Y))))) H2 -> ae prog G0 100 [.agg [.lit (.int .u64 (xh:Int)),.lit (.int .u64 (xl:Int))],.agg [.lit (.int .u64 (yh:Int)),.lit (.int .u64 (yl:Int))]] H2 K := fun H2 K h => by rw[<- wX,<- wY];exact yL X Y H2 K h
  have ps:(a < 0 ↔ c < 0) -> ∀H2 K,K (.ret (.agg [.lit (.int .u64 0),.lit (.int .u64 (tl:Int))])) H2 -> ae prog G0 165 [.agg [.lit (.int .u64 (xh:Int)),.lit (.int .u64 (xl:Int))],.agg [.lit (.int .u64 (yh:Int)),.lit (.int .u64 (yl:Int))]] H2 K := fun h0 H2 K h => by
    rw[UX h0]at eT;rw[<- wX,<- wY];exact MU X Y V H2 K (by rw[<- eT,wT];exact h)
  have m1:¬(a < 0 ↔ c < 0) -> X < Y -> ∀H2 K,K (.ret (.agg [.lit (.int .u64 0),.lit (.int .u64 (tl:Int))])) H2 -> ae prog G0 166 [.agg [.lit (.int .u64 (yh:Int)),.lit (.int .u64 (yl:Int))],.agg [.lit (.int .u64 (xh:Int)),.lit (.int .u64 (xl:Int))]] H2 K := fun h0 h1 H2 K h => by
    rw[UW h0,UX h1]at eT;rw[<- wX,<- wY];exact Cx Y X V V H2 K (by rw[<- eT,wT];exact h)
  have m2:¬(a < 0 ↔ c < 0) -> ¬X < Y -> ∀H2 K,K (.ret (.agg [.lit (.int .u64 0),.lit (.int .u64 (tl:Int))])) H2 -> ae prog G0 166 [.agg [.lit (.int .u64 (xh:Int)),.lit (.int .u64 (xl:Int))],.agg [.lit (.int .u64 (yh:Int)),.lit (.int .u64 (yl:Int))]] H2 K := fun h0 h1 H2 K h => by
    rw[UW h0,UW h1]at eT;rw[<- wX,<- wY];exact Cx X Y V V H2 K (by rw[<- eT,wT];exact h)
  have bT:T < 18446744073709551616 * 18446744073709551616 := by
    rw[eT];split
    · omega
    · split <;> omega
  have hh0:0 < Nat.gcd T g := Nat.gcd_pos_of_pos_right _ g0;have hhg:Nat.gcd T g <= g := Yv g0 (WN _ _);have e9:Nat.gcd (T % g) g=Nat.gcd T g := by rw[<- YI,XC]
  obtain⟨rr,err⟩:∃z,z=T % g := ⟨_,rfl⟩
  have rm:∀H2 K,K (.ret (.lit (.int .u64 (rr:Int)))) H2 -> ae prog G0 167 [.lit (.int .u64 0),.lit (.int .u64 (tl:Int)),.lit (.int .u64 (g:Int))] H2 K := fun H2 K h => MV tl g V btl V H2 K (by rw[<- eT2,<- err];exact h);have cm2:∀H2 K,K (.ret (.lit (.int .u64 ((Nat.gcd T g:Nat):Int)))) H2 -> ae prog G0 95 [.lit (.int .u64 (rr:Int)),.lit (.int .u64 (g:Int))] H2 K := fun H2 K h => yK _ _ V V H2 K (by
    have:Int.gcd (rr:Int) (g:Int)=Nat.gcd T g :=(by rw[YY,err,e9]);rw[this];exact h)
  have ov:∀h:Nat,h ≠ 0 -> h < 18446744073709551616 -> ∀H2 K,K (.ret (.agg [.lit (.int .u64 0),.lit (.int .u64 ((T / h:Nat):Int))])) H2 -> ae prog G0 169 [.agg [.lit (.int .u64 0),.lit (.int .u64 (tl:Int))],.lit (.int .u64 (h:Int))] H2 K := fun h h1 h2 H2 K hk => MW tl h btl h1 h2 H2 K (by rw[<- eT2];exact hk);generalize Nat.gcd T g=h at *
  have q3 := yM D h;have b3:D / h <= D := WO _ _;have b4:T / h <= T := WO _ _;have ov1 := ov h V V;have hne:¬(h:Int)=0 := by omega
  rw[hD]at q3;clear ov err e9 eT2;generalize D / h=p3 at *
  generalize T / h=T2 at *
  have u4 := Vt (p3:Int) V;have bR:p2 * p3 <= 4611686018427387903 * 4611686018427387903 := Xi V V;have ft := MQ S T2 (p2 * p3) V V;have tm := u9 p2 p3 V V;obtain⟨zh,ezh⟩:∃z,z=T2 / 18446744073709551616 := ⟨_,rfl⟩
  obtain⟨zl,ezl⟩:∃z,z=T2 % 18446744073709551616 := ⟨_,rfl⟩
  have wZ:dh T2 = .agg [.lit (.int .u64 (zh:Int)),.lit (.int .u64 (zl:Int))] := by unfold dh;rw[<- ezh,<- ezl]
  obtain⟨R,eR⟩:∃z,z=p2 * p3 := ⟨_,rfl⟩
  rw[<- eR]at ft tm hK;obtain⟨rh,erh⟩:∃z,z=R / 18446744073709551616 := ⟨_,rfl⟩
  obtain⟨rl,erl⟩:∃z,z=R % 18446744073709551616 := ⟨_,rfl⟩
  have wR:dh R = .agg [.lit (.int .u64 (rh:Int)),.lit (.int .u64 (rl:Int))] := by unfold dh;rw[<- erh,<- erl]
  have ezh0:zh=0 := by omega
  have ezl2:zl=T2 := by omega
  rw[wR]at tm;rw[wZ,wR]at ft;have fO:∀v,ki S T2 R=some v -> ∃x y,v=qV x y := fun v hv => vd hv;generalize ki S T2 R=O at *
  subst ezh0;rw[<- ezl2]at ov1;clear ezh ezl ezl2 eR erh erl wX wY wZ wR wT bR bT;refine ae.sw (n := 85) (rs := [.cell 4 58]) func130 ?_;refine W.sq ?_;simp only[go_sem,qV,aA];refine W.sq ?_;simp only[go_sem,wb,wd,aA];refine ao.Z (cm1 _ _ ⟨trivial,?_⟩);simp only[go_sem,aA];refine W.seq ?_;refine W.dr 20 [0,1,3,0,8,24,0,120,255,0,512,2047,0,4096,12288,0,61440,131071,0,0] mixed ?_;simp only[go_sem,wb,wd,aA];refine⟨_,[],bF.pure fun H2 => u5 a V H2 _ ⟨rfl,rfl⟩,?_⟩;simp only[go_sem,wd,gne,q1,u1,aA];refine⟨_,[],bF.pure fun H2 => tx H2 _ ⟨rfl,rfl⟩,?_⟩;simp only[go_sem,aA];refine⟨_,[],bF.pure fun H2 => u5 c V H2 _ ⟨rfl,rfl⟩,?_⟩;simp only[go_sem,wb,gne,q2,u2,aA];refine⟨_,[],bF.pure fun H2 => ty H2 _ ⟨rfl,rfl⟩,?_⟩;simp only[go_sem,aA];refine⟨by repeat' (first |refine And.intro ?_ ?_ |(intro x hx;omega)),?_⟩;refine⟨by repeat' (first |refine And.intro ?_ ?_ |(intro x hx;omega)),?_⟩;have n4:H.A + 3 + 1=H.A + 4 := rfl;simp only[go_sem,dY,List.cons_append,List.nil_append,n4,aA];refine W.env fun E hE => ?_;have a2:E 2 = .O H.A 0 0 := by rw[hE];rfl
  have a3:E 3 = .O (H.A + 1) 0 0 := by rw[hE];rfl
  have a4:E 4 = .O (H.A + 2) 0 0 := by rw[hE];rfl
  have a5:E 5 = .lit (.int .u64 (g:Int)) := by rw[hE];rfl
  have a6:E 6 = .O (H.A + 3) 0 0 := by rw[hE];rfl
  have a7:E 7 = .O (H.A + 4) 0 0 := by rw[hE];rfl
  clear hE;refine W.sq ?_;simp only[go_sem,a2,a3,a4,a5,a6,a7,dY,List.cons_append,List.nil_append,aA];refine W.env fun F hF => ?_;have b2:F 2 = .O H.A 0 0 := by rw[hF];exact a2
  have b3:F 3 = .O (H.A + 1) 0 0 := by rw[hF];exact a3
  have b4:F 4 = .O (H.A + 2) 0 0 := by rw[hF];exact a4
  have b5:F 5 = .lit (.int .u64 (g:Int)) := by rw[hF];exact a5
  have b6:F 6 = .O (H.A + 3) 0 0 := by rw[hF];exact a6
  have b7:F 7 = .O (H.A + 4) 0 0 := by rw[hF];exact a7
  have b8:F 8 = .lit (.bool (decide (a < 0))) := by rw[hF];rfl
  have b9:F 9 = .O (H.A + 5) 0 0 := by rw[hF];rfl
  clear hF a2 a3 a4 a5 a6 a7;refine W.sS (fun s' => s'.H=ext H [.J 0 58 [.lit (.int .i64 a),.lit (.int .i64 b)],.J 0 58 [.lit (.int .i64 c),.lit (.int .i64 d)],.J 0 58 [.lit (.int .i64 0),.lit (.int .i64 0)],.J 0 173 [.lit (.int .u64 (xh:Int)),.lit (.int .u64 (xl:Int))],.J 0 173 [.lit (.int .u64 (yh:Int)),.lit (.int .u64 (yl:Int))],.J 0 173 [.lit (.int .u64 0),.lit (.int .u64 (tl:Int))]] /\ s'.ρ 2 = .O H.A 0 0 /\ s'.ρ 3 = .O (H.A + 1) 0 0 /\ s'.ρ 4 = .O (H.A + 2) 0 0 /\ s'.ρ 5 = .lit (.int .u64 (g:Int)) /\ s'.ρ 8 = .lit (.bool S) /\ s'.ρ 9 = .O (H.A + 5) 0 0) ?_ ?_
  · refine W.block ?_;refine W.vs ?_;by_cases hs:a < 0 ↔ c < 0
    · have e1:(decide (a < 0) == decide (c < 0))=true :=(by simp[hs]);rw[UX hs]at eS;simp only[go_sem,b2,b3,b4,b5,b6,b7,b8,b9,pq Tryz.underlying4,e1,aA];refine ao.Z (ps hs _ _ ⟨trivial,?_⟩);simp only[go_sem,b2,b3,b4,b5,b6,b7,b8,b9,eS,aA]
    · have e1 : (decide (a < 0) == decide (c < 0)) = false := by
        by_cases q1:a < 0 <;> by_cases q2:c < 0 <;> simp[q1,q2]at hs ⊢
      rw[UW hs]at eS;simp only[go_sem,b2,b3,b4,b5,b6,b7,b8,b9,pq Tryz.underlying4,e1,aA];refine ao.Z (ls _ _ ⟨trivial,?_⟩);by_cases hl:X < Y
      · rw[UX hl]at eS;rw[Vl hl];simp only[go_sem,b2,b3,b4,b5,b6,b7,b8,b9,aA];refine ao.Z (m1 hs hl _ _ ⟨trivial,?_⟩);simp only[go_sem,b2,b3,b4,b5,b6,b7,b8,b9,eS,aA]
      · rw[UW hl]at eS;rw[VP hl];simp only[go_sem,b2,b3,b4,b5,b6,b7,b8,b9,aA];refine ao.Z (m2 hs hl _ _ ⟨trivial,?_⟩);simp only[go_sem,b2,b3,b4,b5,b6,b7,b8,b9,eS,aA]
  rintro⟨E2,H2⟩ ⟨eH,a2,a3,a4,a5,a8,a9⟩;simp only at eH a2 a3 a4 a5 a8 a9;subst eH;clear b2 b3 b4 b5 b6 b7 b8 b9 ps m1 m2 ls eT eS;refine W.sq ?_;simp only[go_sem,a2,a3,a4,a5,a8,a9,aA];refine ao.Z (rm _ _ ⟨trivial,?_⟩);simp only[go_sem,a2,a3,a4,a5,a8,a9,aA];refine ao.Z (cm2 _ _ ⟨trivial,?_⟩);simp only[go_sem,a2,a3,a4,a5,a8,a9,aA];refine W.env fun F hF => ?_;have b2:F 2 = .O H.A 0 0 := by rw[hF];exact a2
  have b3:F 3 = .O (H.A + 1) 0 0 := by rw[hF];exact a3
  have b4:F 4 = .O (H.A + 2) 0 0 := by rw[hF];exact a4
  have b5:F 5 = .lit (.int .u64 (g:Int)) := by rw[hF];exact a5
  have b8:F 8 = .lit (.bool S) := by rw[hF];exact a8
  have b9:F 9 = .O (H.A + 5) 0 0 := by rw[hF];exact a9
  have b10:F 10 = .lit (.int .u64 (h:Int)) := by rw[hF];rfl
  clear hF a2 a3 a4 a5 a8 a9;refine W.seq ?_;refine W.dr 15 [0,0,0,6,0,16,48,0,240,0,512,1536,0,7680,16382] mixed ?_;simp only[go_sem,b2,b3,b4,b5,b8,b9,b10,aA];refine⟨_,[],bF.pure fun H2 => ov1 H2 _ ⟨rfl,rfl⟩,?_⟩;simp only[go_sem,b2,b3,b4,b5,b8,b9,b10,wb,wd,q2,u2,q3,u4,gne,hne,aA];refine⟨_,[],bF.pure fun H2 => tm H2 _ ⟨rfl,rfl⟩,?_⟩;refine ao.Z (ft _ _ ⟨fun v hv => ⟨trivial,?_⟩,fun ho H' hn => ⟨trivial,?_⟩⟩)
  · have hk := hK.1 v hv;obtain⟨x,y,rfl⟩ := fO v hv;simp only[go_sem,b2,b3,b4,b5,b8,b9,b10,qV,aA];refine W.vs ?_;simp only[go_sem,b4,aA];exact aj.drop aF hcl (sW _ _) hk
  · simp only[aV,List.length_cons,List.length_nil]at hn;exact⟨H',iw.refl _ _,V,hK.2 ho H' V⟩
def CC (h:bC a b=0):Nat.gcd a.natAbs b.natAbs=1 := by
  unfold bC at h;split at h
  · exact absurd h (Zk)
  · split at h
    · exact absurd h (Zk)
    · rename_i h2;exact Classical.not_not.1 h2
def M4 (a b c d:Int)(ha:-4611686018427387903 <= a /\ a <= 4611686018427387903)(hb:1 <= b /\ b <= 4611686018427387903)(hc:-4611686018427387903 <= c /\ c <= 4611686018427387903)(hd:1 <= d /\ d <= 4611686018427387903)(hsm:lZ a b (-c) d < 18446744073709551616):
    ae prog G0 129 [qV a b,qV c d] cW (mD (oa a b (-c) d)) := by
  refine ae.Z ⟨_,func129,rfl,rfl⟩ fun hcl => ?_;have w1 := UU (-c) V;have e1:0-c = -c := by omega
  refine ae.st (n := 13) (rs := [.cell 4 58]) func129 ?_;simp only[go_sem,qV,w1,e1,aA];refine ao.Z (M0 a b (-c) d ha hb V hd hsm _ _ ⟨fun v hv => ⟨trivial,?_⟩,fun ho H' hh => ⟨trivial,?_⟩⟩)
  · obtain⟨x,y,rfl⟩ := vd hv;rw[hv];simp only[go_sem,qV,aA];exact aj.mk (Wo _) ⟨_,rfl,Ct x y⟩
  · rw[ho];exact⟨H',iw.refl _ _,Wo _,rfl⟩
def M5 (a b c d:Int)(ra:(-9223372036854775808 <= a /\ a <= 9223372036854775807) /\ (-9223372036854775808 <= b /\ b <= 9223372036854775807))(rc:(-9223372036854775808 <= c /\ c <= 9223372036854775807) /\ (-9223372036854775808 <= d /\ d <= 9223372036854775807))
    (hsm:lZ a b (-c) d < 18446744073709551616) (H:Zn) (K:Zt -> Zn -> Prop) (hK:K (.ret (mK a b c d (oa a b (-c) d))) H):ae prog G0 92 [qV a b,qV c d] H K := by
  refine ae.Z ⟨_,func92,rfl,rfl⟩ fun hcl => ?_;refine ae.st (n := 11) (rs := [.cell 4 58,.tmp 5]) func92 ?_;simp only[go_sem,qV,aA];refine ao.Z (MS (a := a) (b := b) (c := c) (d := d) (o := oa a b (-c) d) ra rc (fun u hu => vd hu) (fun h1 h2 => ?_) _ _ ⟨trivial,?_⟩)
  · obtain⟨p1,p2,_⟩ := pr h1;obtain⟨p3,p4,_⟩ := pr h2;exact M4 a b c d p1 p2 p3 p4 hsm
  · obtain⟨x,y,e,he⟩ := MT (a := a) (b := b) (c := c) (d := d) (o := oa a b (-c) d) fun u hu => vd hu;rw[he]at hK ⊢;simp only[go_sem,aA];exact aj.drop aF hcl (ve x y e) hK
def jw (a c:Int)(X Y:Nat):Nat := if (a < 0 ↔ c < 0) then X + Y else if X < Y then Y-X else X-Y
def fw (a c:Int)(X Y:Nat):Bool := if (a < 0 ↔ c < 0) then decide (a < 0) else if X < Y then !decide (a < 0) else decide (a < 0)
def M6 (a c:Int)(g x y:Nat)(hg:0 < g):jw a c (g * x) (g * y)=g * jw a c x y /\ fw a c (g * x) (g * y)=fw a c x y := by
  have hl:g * x < g * y ↔ x < y := Nat.mul_lt_mul_left hg;unfold jw fw;by_cases hs:a < 0 ↔ c < 0
  · rw[UX hs,UX hs,UX hs,UX hs];exact⟨(W2 _ _ _).symm,rfl⟩
  · rw[UW hs,UW hs,UW hs,UW hs];by_cases h:x < y
    · rw[UX h,UX (hl.2 h),UX h,UX (hl.2 h)];exact⟨(Nat.mul_sub _ _ _).symm,rfl⟩
    · rw[UW h,UW (fun k => h (hl.1 k)),UW h,UW (fun k => h (hl.1 k))];exact⟨(Nat.mul_sub _ _ _).symm,rfl⟩
def M7 (a c:Int)(x y:Nat):jw a c x y=x + y \/ x=jw a c x y + y \/ y=jw a c x y + x := by
  unfold jw;split
  · exact .inl rfl
  · split <;> omega
def M8 (h1:bC a b=0)(h2:bC c d=0):oa a b c d=ki (fw a c (a.natAbs * d.natAbs) (c.natAbs * b.natAbs))
    (jw a c (a.natAbs * d.natAbs) (c.natAbs * b.natAbs) / Nat.gcd (jw a c (a.natAbs * d.natAbs) (c.natAbs * b.natAbs)) (b.natAbs * d.natAbs))
    (b.natAbs * d.natAbs / Nat.gcd (jw a c (a.natAbs * d.natAbs) (c.natAbs * b.natAbs)) (b.natAbs * d.natAbs)) := by
  obtain⟨_,pb,_⟩ := pr h1;obtain⟨_,pd,_⟩ := pr h2;have g0:0 < Int.gcd b d := WM _ V;have eg:Int.gcd b d=Nat.gcd b.natAbs d.natAbs := rfl;have k1:a.natAbs * d.natAbs=Int.gcd b d * (a.natAbs * (d.natAbs / Int.gcd b d)) := by
    rw[Yz,XU (by rw[eg];exact WN _ _)]
  have k2:c.natAbs * b.natAbs=Int.gcd b d * (c.natAbs * (b.natAbs / Int.gcd b d)) := by
    rw[Yz,XU (by rw[eg];exact Yb _ _)]
  obtain⟨m1,m2⟩ := M6 a c (Int.gcd b d) (a.natAbs * (d.natAbs / Int.gcd b d)) (c.natAbs * (b.natAbs / Int.gcd b d)) g0;rw[<- k1,<- k2]at m1 m2;obtain⟨e1,e2⟩ := MZ (T := jw a c (a.natAbs * (d.natAbs / Int.gcd b d)) (c.natAbs * (b.natAbs / Int.gcd b d))) (CC h1) (CC h2) V eg rfl rfl (M7 _ _ _ _) m1;rw[e1,e2,m2];rfl
end Go.Proofs.F01
namespace Go.Proofs
open Go.Hx Tryz
def Az (d:Zq)(c:Nat->Nat->Int)(v:Nat):List (List Int):=(List.range (dB d v)).map fun r=>mg d c v r (eF d v)
def Uh {S:Nat->Prop}{H:Zn}{nx:Nat}(d:Zq):Fz S H nx (dk d) (dk d):=by
 refine .agg rfl fun i hi _=>?_
 match i,hi with
 |0,_=>exact .lit _
 |1,_=>exact wI _
 |2,_=>exact .lit _
 |3,_=>exact .Q rfl fun j h h'=>vQ d.Y _ (VU h)
end Go.Proofs
namespace Go.Hx
variable {P:Program}
end Go.Hx
namespace Go.Proofs
open Go.Hx Tryz
variable {b:Bool}{p q r:List (List Int)}{k nx v:Nat}{H H':Zn}{pv:Zo}{d:Zq}
def FX (d:Zq)(q:List (List Int)):List (List Int):=(aE d).foldl (pH d) q
def wQ (d:Zq)(q:List (List Int)):Nat->List (List Int)
 |0=>q
 |n+1=>FX d (wQ d q n)
structure Imp (d:Zq)(p q:List (List Int))(n:Nat):Prop where
 ok:ZG d q
 same:n=0->q=p
 loc:isLocal d p->n=0
 sum:eV d (fixC p)+n<=eV d (fixC q)
 it:q=wQ d p n
 bef:∀j,j<n->¬isLocal d (wQ d p j)
def Imp.start (h:ZG d p):Imp d p p 0:=⟨h,fun _=>rfl,fun _=>rfl,Zj,rfl,fun j h=>absurd h (Va _)⟩
structure Rnd (d:Zq)(q:List (List Int))(k:Nat)(b:Bool)(r:List (List Int)):Prop where
 ok:ZG d r
 no:b=false->r=q/\∀j v,j<k->(aE d)[j]?=some v->oy d q v
 yes:b=true->¬isLocal d q/\eV d (fixC q)<eV d (fixC r)
 fold:r=((aE d).take k).foldl (pH d) q
def Rnd.start (h:ZG d q):Rnd d q 0 false q:=⟨h,fun _=>⟨rfl,fun j v hj=>absurd hj (Va _)⟩,fun h=>Bool.noConfusion h,rfl⟩
def FY (h:r=((aE d).take k).foldl (pH d) q)(hv:(aE d)[k]?=some v):pH d r v=((aE d).take (k+1)).foldl (pH d) q:=by
 rw[bd hv,V5,<- h];rfl
def Rnd.UR (h:Rnd d q k b r)(hv:(aE d)[k]?=some v)(hb:oy d r v):Rnd d q (k+1) b r :=
 ⟨h.ok,fun e=>⟨(h.no e).1,fun j w hj hw=>by
  by_cases hjk:j=k
  ·subst hjk;rw[hv]at hw;cases hw;rw[<- (h.no e).1];exact hb
  ·exact(h.no e).2 j w V hw⟩,h.yes,by rw[<- FY h.fold hv];unfold pH;rw[UX hb]⟩
def Rnd.step (hok:Zv d)(h:Rnd d q k b r)(hv:(aE d)[k]?=some v)(hb:¬oy d r v):Rnd d q (k+1) true (r.set (bw d.X v) (mT d (fixC r) v)):=by
 have hvm:v∈aE d:=an hv;refine⟨QN hok h.ok hvm,fun e=>(Bool.noConfusion e),fun _=>?_,by rw[<- FY h.fold hv];unfold pH;rw[UW hb]⟩;have hg:=QQ hok h.ok hvm hb;cases b with
 |false =>
  have e:=(h.no rfl).1;subst e;exact⟨fun hl=>hb (hl v hvm),hg⟩
 |true =>
  obtain⟨h1,h2⟩:=h.yes rfl;exact⟨h1,V⟩
def Rnd.done (h:Rnd d q (aE d).length false r):r=q/\isLocal d q :=
 ⟨(h.no rfl).1,fun v hv=>by
  obtain⟨j,hj⟩:=U1.1 hv;exact(h.no rfl).2 j v (aO hj) hj⟩
def Imp.round {n:Nat}(h:Imp d p q n)(hr:Rnd d q (aE d).length true r):Imp d p r (n+1):=by
 obtain⟨h1,h2⟩:=hr.yes rfl;refine⟨hr.ok,fun e=>V,fun hl=>?_,?_,?_,fun j hj=>?_⟩;rotate_left 2
 ·show r=FX d (wQ d p n);rw[<- h.it,hr.fold,Xy];rfl
 ·by_cases hjn:j=n
  ·subst hjn;rw[<- h.it];exact h1
  ·exact h.bef j (V)
 ·have hn:=h.loc hl;rw[h.same hn]at h1;exact absurd hl h1
 ·have:=h.sum
  push_cast
  omega
def T6 {l:List Int}{id g:Nat}{e:TypeId}(hg:H.get id=some (.J g e (ints l))):Fz (fun _=>True) H nx (.U id g 0 l.length 1) (af l):=by
 unfold af;refine .nA trivial hg (by rw[bG];omega) fun j hj h2 h'=>?_;simp only[Nat.zero_add,ints,Ve];exact .lit _
def wS (H:Zn)(pv:Zo)(p:List (List Int)):Prop:=pv=aZ p\/∃(L g:Nat) (e:TypeId) (nb:List Zo),pv=.U L g 0 p.length 1/\L<H.A/\H.get L=some (.J g e nb)/\nb.length=p.length /\
 ∀(k:Nat) (l:List Int),p[k]?=some l->∃(id g':Nat) (e':TypeId),nb[k]?=some (.U id g' 0 l.length 1)/\id<H.A/\H.get id=some (.J g' e' (ints l))
def wS.len (h:wS H pv p)(ov:Zs H H'):iI H' pv=some (aa p.length):=by
 rcases h with rfl|⟨L,g,e,nb,rfl,h1,h2,h3,_⟩
 ·rfl
 ·unfold iI;simp[ag ((ov.nc L h1).trans h2),aa]
def wS.fz (h:wS H pv p)(ov:Zs H H'):Fz (fun _=>True) H' nx pv (aZ p):=by
 rcases h with rfl|⟨L,g,e,nb,rfl,h1,h2,h3,h4⟩
 ·exact zF p
 ·unfold aZ;refine .nA trivial ((ov.nc L h1).trans h2) (by rw[Vh];omega) fun j hj hj2 hj3=>?_;simp only[Nat.zero_add]at hj2 ⊢;rw[Vh]at hj3;obtain⟨id,g',e',q1,q2,q3⟩:=h4 j _ (UV hj3);rw[UV hj2]at q1;rw[Option.some.inj q1,Ve];exact T6 ((ov.nc id q2).trans q3)
end Go.Proofs
namespace Go.Proofs.R01
open Go.Hx Tryz
variable {a b c d:Int}
def kh:Int := 4611686018427387903
def bC (n d:Int):Int := if d < 1 \/ d > kh \/ n < -kh \/ n > kh then 5 else if Int.gcd n d ≠ 1 then 5 else 0
def jg (a b c d:Int):Int := if (a < 0 /\ ¬c < 0) then -1 else if (¬a < 0 /\ c < 0) then 1 else if a.natAbs * d.natAbs=c.natAbs * b.natAbs then 0 else if (a.natAbs * d.natAbs < c.natAbs * b.natAbs ↔ 0 <= a) then -1 else 1
def yS (hb:1 <= b)(hd:1 <= d):jg a b c d=cu (a * d) (c * b) := by
  unfold jg cu;obtain⟨B,rfl⟩ := U2 (show 0 <= b by omega);obtain⟨D,rfl⟩ := U2 (show 0 <= d by omega);simp only[Wf];have pos:∀x:Nat,∀E:Nat,((x:Int) * (E:Int))=((x * E:Nat):Int) := fun x E => (Wj x E).symm;have neg:∀x:Nat,∀E:Nat,(-(x:Int) * (E:Int)) = -((x * E:Nat):Int) := fun x E => by rw[Int.neg_mul,Wj]
  have pp:∀x E:Nat,0 < x -> 1 <= (E:Int) -> 0 < x * E := fun x E h1 h2 => YH h1 V;by_cases h1:a < 0
  · obtain⟨A,hA,hA0⟩:∃A:Nat,a = -(A:Int) /\ 0 < A := ⟨a.natAbs,V,V⟩
    subst hA;have p1 := pp A D hA0 hd;by_cases h2:c < 0
    · obtain⟨C,hC,hC0⟩:∃C:Nat,c = -(C:Int) /\ 0 < C := ⟨c.natAbs,V,V⟩
      subst hC;simp only[Xl,Wf,neg];generalize A * D=P at *
      generalize C * B=Q at *
      repeat' split
      all_goals omega
    · obtain⟨C,hC⟩ := U2 (show 0 <= c by omega);subst hC;simp only[Xl,Wf,neg,pos];generalize A * D=P at *
      generalize C * B=Q at *
      repeat' split
      all_goals omega
  · obtain⟨A,hA⟩ := U2 (show 0 <= a by omega);subst hA;by_cases h2:c < 0
    · obtain⟨C,hC,hC0⟩:∃C:Nat,c = -(C:Int) /\ 0 < C := ⟨c.natAbs,V,V⟩
      subst hC;have p2 := pp C B hC0 hb;simp only[Xl,Wf,neg,pos];generalize A * D=P at *
      generalize C * B=Q at *
      repeat' split
      all_goals omega
    · obtain⟨C,hC⟩ := U2 (show 0 <= c by omega);subst hC;simp only[Wf,pos]
      repeat' split
      all_goals omega
def T7:aD 1 = [1] := by rw[oB Zk,iP];rfl
def FZ (n d:Int)(hn:iE n)(hd:iE d)(H:Zn)(K:Zt -> Zn -> Prop)(hK:K (.ret (.lit (.bool (decide (bC n d=0))))) H):ae prog G0 24 [qV n d] H K := by
  refine ae.Z ⟨_,func24,rfl,rfl⟩ fun hcl => ?_;refine ae.st (n := 31) (rs := [.tmp 2]) func24 ?_;have bad:∀L,bC n d=5 -> aj prog G0 H K (.lit (.bool false)) (ext H L) := fun L h => by
    rw[h]at hK;exact aj.drop aF hcl (.lit _) hK
  by_cases h1:d < 1
  · simp only[go_sem,qV,h1,aA];exact bad _ (by unfold bC;rw[UX (.inl h1)])
  by_cases h2:4611686018427387903 < d
  · simp only[go_sem,qV,h1,h2,aA];exact bad _ (by unfold bC;rw[UX (.inr (.inl h2))])
  by_cases h4:4611686018427387903 < n
  · simp only[go_sem,qV,h1,h2,h4,aA];exact bad _ (by unfold bC;rw[UX (.inr (.inr (.inr h4)))])
  by_cases h3:n < -4611686018427387903
  · simp only[go_sem,qV,h1,h2,h3,h4,aA];exact bad _ (by unfold bC;rw[UX (.inr (.inr (.inl h3)))])
  simp only[go_sem,qV,h1,h2,h3,h4,aA];refine W.dr 8 [0,1,3,0,8,31,63,0] mixed ?_;simp only[go_sem,qV,aA];have l1 := oC hn;have l2 := oC hd;refine⟨_,[],bF.pure fun H2 => rA n hn H2 _ ⟨rfl,rfl⟩,?_⟩;simp only[go_sem,aA];refine⟨_,[],bF.pure fun H2 => rA d hd H2 _ ⟨rfl,rfl⟩,?_⟩;simp only[go_sem,aA];refine⟨_,[],bF.pure fun H2 => RP n.natAbs d.natAbs V V H2 _ ⟨rfl,rfl⟩,?_⟩;simp only[go_sem,aA];refine⟨by refine⟨?_,?_,?_,?_⟩ <;> (intro x hx;omega),?_⟩;have gl:(aD (n.natAbs.gcd d.natAbs)).length <= 100 := by
    have:n.natAbs.gcd d.natAbs <= d.natAbs := Yv V (WN _ _);have := RQ this;omega
  have ck:bC n d=if Int.gcd n d ≠ 1 then 5 else 0 := by unfold bC;rw[UW (by unfold kh;omega)]
  have eg:Int.gcd n d=n.natAbs.gcd d.natAbs := rfl;obtain⟨H1,hH1⟩:∃H1,H1=ext H [.J 0 58 [.lit (.int .i64 n),.lit (.int .i64 d)]] := ⟨_,rfl⟩
  have ov1:Zs H H1:=hH1▸.ext _ _
  have e1:H.A + 1=H1.A:=hH1▸rfl
  rw[<- hH1,e1];have hO:aJ H1.A (ext H1 [.J 0 3 [.lit (.int .i64 1)]]) 3 (.U H1.A 0 0 1 1) (ints [1]) := .inr ⟨H1.A,0,Zm,by simp[aV],rfl,cM _ _ _⟩;refine ao.lY H1.A (args' := [af (aD (n.natAbs.gcd d.natAbs)),af (aD 1)]) aF rfl (fun j hj _ => match j,hj with |0,_ => .dW _ |1,_ => by rw[T7];exact hO.iz fun i hi => hi) (v9 _ 1 V _ _ ⟨trivial,?_⟩);have ov2:Zs H ((ext H1 [.J 0 3 [.lit (.int .i64 1)]]).cut H1.A) := ov1.trans (Zs.ext _ _).cut;rw[ck,eg]at hK;by_cases hg:n.natAbs.gcd d.natAbs=1
  · rw[hg]at hK ⊢;have c1:cu ((1:Nat):Int) ((1:Nat):Int)=0 :=Zk;rw[c1];simp only[go_sem,aA];exact aj.bH aF hcl ov2 (.lit _) hK
  · have c1 : ¬ cu ((n.natAbs.gcd d.natAbs : Nat) : Int) ((1 : Nat) : Int) = 0 := by
      unfold cu;split
      · omega
      · split <;> omega
    obtain⟨c,hc⟩:∃c,c=cu ((n.natAbs.gcd d.natAbs:Nat):Int) ((1:Nat):Int) := ⟨_,rfl⟩
    rw[<- hc]at c1 ⊢;simp only[go_sem,c1,aA];rw[UX hg]at hK;exact aj.bH aF hcl ov2 (.lit _) (by simpa using hK)
def T8 (h1:a < 0)(h2:c < 0):jg a b c d=cu ((c.natAbs * b.natAbs:Nat):Int) ((a.natAbs * d.natAbs:Nat):Int) := by
  unfold jg cu;generalize a.natAbs * d.natAbs=P;generalize c.natAbs * b.natAbs=Q
  repeat' split
  all_goals omega
def T9 (h1:¬a < 0)(h2:¬c < 0):jg a b c d=cu ((a.natAbs * d.natAbs:Nat):Int) ((c.natAbs * b.natAbs:Nat):Int) := by
  unfold jg cu;generalize a.natAbs * d.natAbs=P;generalize c.natAbs * b.natAbs=Q
  repeat' split
  all_goals omega
def Ua (h1:a < 0)(h2:¬c < 0):jg a b c d = -1 := by unfold jg;rw[UX ⟨h1,h2⟩]
def Ub (h1:¬a < 0)(h2:c < 0):jg a b c d=1 := by unfold jg;rw[UW V,UX ⟨h1,h2⟩]
def Uc (a b c d:Int)(ha:iE a)(hb:iE b)(hc:iE c)(hd:iE d)(hb0:1 <= b)(hd0:1 <= d)(H:Zn)(K:Zt -> Zn -> Prop)(hK:K (.ret (.lit (.int .i64 (cu (a * d) (c * b))))) H):
    ae prog G0 25 [qV a b,qV c d] H K := by
  refine ae.Z ⟨_,func25,rfl,rfl⟩ fun hcl => ?_;have la := oC ha;have lb := oC hb;have lc := oC hc;have ld := oC hd;have l1 := EI ha hd;have l2 := EI hc hb;rw[<- yS hb0 hd0]at hK;refine ae.st (n := 44) (rs := [.tmp 4]) func25 ?_;simp only[go_sem,qV,aA];refine W.dr 12 [0,1,3,0,8,31,63,0,128,511,0,1024] mixed ?_;simp only[go_sem,aA];refine⟨_,[],bF.pure fun H2 => rA a ha H2 _ ⟨rfl,rfl⟩,?_⟩;simp only[go_sem,aA];refine⟨_,[],bF.pure fun H2 => rA d hd H2 _ ⟨rfl,rfl⟩,?_⟩;simp only[go_sem,aA];refine⟨_,[],bF.pure fun H2 => zR a.natAbs d.natAbs V V H2 _ ⟨rfl,rfl⟩,?_⟩;simp only[go_sem,aA];refine⟨_,[],bF.pure fun H2 => rA c hc H2 _ ⟨rfl,rfl⟩,?_⟩;simp only[go_sem,aA];refine ao.Z (rA b hb _ _ ⟨trivial,?_⟩);simp only[go_sem,aA];refine ao.Z (zR c.natAbs b.natAbs V V _ _ ⟨trivial,?_⟩);by_cases h1:a < 0
  · by_cases h2:c < 0
    · rw[T8 h1 h2]at hK;simp only[go_sem,h1,h2,aA];refine ao.Z (v9 _ _ V _ _ ⟨trivial,?_⟩);simp only[go_sem,aA];exact aj.drop aF hcl (.lit _) hK
    · rw[Ua h1 h2]at hK;simp only[go_sem,h1,h2,aA];exact aj.drop aF hcl (.lit _) hK
  · by_cases h2:c < 0
    · rw[Ub h1 h2]at hK;simp only[go_sem,h1,h2,aA];exact aj.drop aF hcl (.lit _) hK
    · rw[T9 h1 h2]at hK;simp only[go_sem,h1,h2,aA];refine ao.Z (v9 _ _ V _ _ ⟨trivial,?_⟩);simp only[go_sem,aA];exact aj.drop aF hcl (.lit _) hK
end Go.Proofs.R01
namespace Go.Proofs
open Go.Hx Tryz
variable {D S:Int}
structure Z1 (S D a b g:Int):Prop where
 g1:1<=g
 n:a*g=S
 d:b*g=D
 b1:1<=b
 cop:Int.gcd a b=1
def mr (hD:1<=D):∃a b g:Int,eN S D=.agg [.lit (.int .i64 a),.lit (.int .i64 b)]/\Z1 S D a b g:=by
 obtain⟨G,hG⟩:∃G,G=Int.gcd S D:=⟨_,rfl⟩
 have g0:0<G:=by rw[hG];exact WM _ (V)
 obtain⟨a,ha⟩:(G:Int) ∣ S:=by rw[hG];exact Int.gcd_dvd_left ..
 obtain⟨b,hb⟩:(G:Int) ∣ D:=by rw[hG];exact Int.gcd_dvd_right ..
 have gne:(G:Int)≠0:=V
 have hgc:G=G*Int.gcd a b:=by
  have h:=Int.gcd_mul_left (G:Int) a b;rw[<- ha,<- hb,<- hG,Wf]at h;exact h
 have hc:Int.gcd a b=1:=by
  have:G*1=G*Int.gcd a b:=V
  exact(Nat.eq_of_mul_eq_mul_left g0 this).symm
 have hb1:1<=b:=by
  rcases Y4 b 1 with h|h
  ·have:(G:Int)*b<=(G:Int)*0:=VE V V;omega
  ·exact h
 refine⟨a,b,G,?_,V,by rw[Wb];exact ha.symm,by rw[Wb];exact hb.symm,hb1,hc⟩;unfold eN;rw[<- hG];have e1:S.tdiv (G:Int)=a:=by rw[ha];exact YV a gne
 have e2:D.tdiv (G:Int)=b:=by rw[hb];exact YV b gne
 rw[e1,e2]
def Z1.bound {a b g:Int}(h:Z1 S D a b g):a.natAbs<=S.natAbs/\b<=D:=by
 have h1:S.natAbs=a.natAbs*g.natAbs:=by rw[<- h.n,Wv]
 have h2:D.natAbs=b.natAbs*g.natAbs:=by rw[<- h.d,Wv]
 have hg:0<g.natAbs:=by have:=h.g1;omega
 have l1:=YW a.natAbs hg;have l2:=YW b.natAbs hg;have l3:b.natAbs<=D.natAbs:=V
 have hb:=h.b1;have hD:0<=D:=by rw[<- h.d];exact WG V (by have:=h.g1;omega)
 omega
def F1 {x y m:Int}(hm:1<=m):R01.cu (x*m) (y*m)=R01.cu x y:=by
 have h1:x*m<y*m↔x<y:=Int.mul_lt_mul_right V;have h2:x*m=y*m↔x=y:=⟨fun h=>YR V h,fun h=>by rw[h]⟩
 unfold R01.cu;simp only[h1,h2]
def Z1.cmp {S1 S2 a1 b1 g1 a2 b2 g2:Int}(hD:1<=D)(h1:Z1 S1 D a1 b1 g1)(h2:Z1 S2 D a2 b2 g2):R01.cu (a1*b2) (a2*b1)=R01.cu S1 S2:=by
 have hg:1<=g1*g2:=by
  have:=Wy h1.g1 h2.g1 V (by have:=h1.g1;omega);omega
 rw[<- F1 hg,<- F1 (x:=S1) (y:=S2) hD];congr 1
 ·rw[<- h1.n,<- h2.d];simp only[W0,Wb,Int.mul_left_comm]
 ·rw[<- h2.n,<- h1.d];simp only[W0,Wb,Int.mul_left_comm]
def Z1.check {a b g:Int}(h:Z1 S D a b g)(hS:S.natAbs<=4611686018427387903)(hD:D<=4611686018427387903):R01.bC a b=0:=by
 have hb:=h.bound;have:=h.b1;unfold R01.bC R01.kh;rw[UW V,UW (by rw[h.cop];simp)]
def Ud {x:Zq}(hok:Zv x):1<=x.nl ^ x.C.length/\x.nl ^ x.C.length<=167961600000000:=by
 have hg:=hok.nC.g1;refine⟨YM V,?_⟩;have h1:=pB (b:=60) V (l:=List.replicate x.C.length x.nl) fun c hc=>by rw[Wx hc];omega
 rw[Wi]at h1;have h2:=Ai x.C.length (by have:=hok.n.n1;omega);have h3:∀k:Nat,aB (List.replicate k x.nl)=x.nl ^ k:=fun k=>by
  induction k with
  |zero=>rw[List.replicate_zero,iK,Int.pow_zero]
  |succ k ih=>rw[WD,iL,ih,Xc,Wb]
 rw[h3]at h1;omega
end Go.Proofs
namespace Go.Proofs.F01
open Go.Hx Tryz
def km (neg:Bool)(N D:Nat):Option Zo:=ki neg (N / Nat.gcd N D) (D / Nat.gcd N D)
def Df (neg:Bool)(N D:Nat){g:Nat}(hg:0<g):km neg (g*N) (g*D)=km neg N D:=by
 unfold km;rw[Nat.gcd_mul_left,XR _ _ hg,XR _ _ hg]
def Pv (neg:Bool)(D:Nat):km neg 0 D=km false 0 D:=by
 unfold km ki;simp
def Pw {n d:Int}(hn:-4611686018427387903<=n/\n<=4611686018427387903)(hd:1<=d/\d<=4611686018427387903):km (decide (n<0)) n.natAbs d.natAbs=some (eN n d):=by
 have g0:0<Int.gcd n d:=WM _ V;have hg:Nat.gcd n.natAbs d.natAbs=Int.gcd n d:=rfl;have l1:n.natAbs / Int.gcd n d<=n.natAbs:=WO _ _;have l2:d.natAbs / Int.gcd n d<=d.natAbs:=WO _ _;unfold km ki eN qV;rw[hg,UX ⟨V,V⟩];have e2:d.tdiv (Int.gcd n d:Int)=((d.natAbs / Int.gcd n d:Nat):Int):=by
  rw[VO V,Yd];congr 1;omega
 have e1:n.tdiv (Int.gcd n d:Int)=if decide (n<0)=true then -((n.natAbs / Int.gcd n d:Nat):Int) else ((n.natAbs / Int.gcd n d:Nat):Int):=by
  by_cases h:n<0
  ·rw[Vl h,UX rfl];have:n=-(n.natAbs:Int):=V
   conv=>lhs;rw[this]
   rw[Int.neg_tdiv,VO V,Yd];congr 3
   all_goals (try rw[<- this])
  ·rw[VP h,UW Zk];rw[VO V,Yd];congr 1;omega
 rw[e1,e2]
def vo {a b:Int}(ha:-4611686018427387903<=a/\a<=4611686018427387903)(hb:1<=b/\b<=4611686018427387903)(h:Int.gcd a b=1):bC a b=0:=by
 unfold bC kh;rw[UW V,UW V]
def vp {x y:Int}(hy:1<=y):(x*y<0)↔(x<0):=by
 rw[Wb];refine⟨fun h=>?_,fun h=>Int.mul_neg_of_pos_of_neg V h⟩;rcases Y4 x 0 with h2|h2
 ·exact h2
 ·have:=WG (show 0<=y by omega) h2;omega
def Dh {b e g D:Nat}(hb:0<b)(he:0<e)(h1:b*g=D)(h2:e ∣ D)(hD:0<D):e / Nat.gcd b e<=g:=by
 have hl:Nat.lcm b e ∣ D:=Nat.lcm_dvd ⟨g,h1.symm⟩ h2;have hle:=Yv hD hl;have:Nat.lcm b e=b*(e / Nat.gcd b e):=by
  unfold Nat.lcm;exact Nat.mul_div_assoc b (WN b e)
 rw[this,<- h1]at hle;exact Nat.le_of_mul_le_mul_left hle hb
def Px {S1 S2 D a b g c e g2:Int}(h1:Z1 S1 D a b g)(h2:Z1 S2 D c e g2)(hD:1<=D/\D<=1099511627776)(hS1:-1099511627776<=S1/\S1<=1099511627776)(hS2:-1099511627776<=S2/\S2<=1099511627776):
  mK a b c e (oa a b (-c) e)=.nf [eN (S1-S2) D,aa 0]/\lZ a b (-c) e<18446744073709551616:=by
 obtain⟨p1,p2⟩:=h1.bound;obtain⟨p3,p4⟩:=h2.bound;have b1:=h1.b1;have e1:=h2.b1;have g1:=h1.g1;have gg1:=h2.g1;have ck1:bC a b=0:=vo V V h1.cop;have ck2:bC c e=0:=vo V V h2.cop;have ck3:bC (-c) e=0:=vo V V (by rw[Int.neg_gcd];exact h2.cop);have nb:b.natAbs*g.natAbs=D.natAbs:=by rw[<- Wv,h1.d]
 have ne:e.natAbs*g2.natAbs=D.natAbs:=by rw[<- Wv,h2.d]
 have na:a.natAbs*g.natAbs=S1.natAbs:=by rw[<- Wv,h1.n]
 have nc:c.natAbs*g2.natAbs=S2.natAbs:=by rw[<- Wv,h2.n]
 refine⟨?_,?_⟩
 ·unfold mK;rw[UX ⟨ck1,ck2⟩,M8 ck1 ck3];show sR tt (km (fw a (-c) (a.natAbs*e.natAbs) ((-c).natAbs*b.natAbs)) (jw a (-c) (a.natAbs*e.natAbs) ((-c).natAbs*b.natAbs)) (b.natAbs*e.natAbs))=_;have k0:0<(g*g2).natAbs:=by
   have:=Int.mul_pos (show 0<g by omega) (show 0<g2 by omega);omega
  have kd:g*g2*(b*e)=D*D:=by
   conv=>rhs;rw[<- h1.d];rhs;rw[h1.d,<- h2.d]
   grind
  have kn:g*g2*(a*e-c*b)=D*(S1-S2):=by
   have q1:g*g2*(a*e)=D*S1:=(by rw[<- h1.n,<- h2.d];grind);have q2:g*g2*(c*b)=D*S2:=(by rw[<- h2.n,<- h1.d];grind);rw[Int.mul_sub,Int.mul_sub,q1,q2]
  have z1:=vp (x:=a) e1;have z2:=vp (x:=c) b1;have z0:(c=0)↔(c*b=0):=by
   refine⟨fun h=>by rw[h,Yn],fun h=>?_⟩;rcases YP.1 h with h|h
   ·exact h
   ·omega
  have z3:(-c<0)↔(0<c*b):=V
  have sg:(a*e-c*b<0)↔(S1-S2<0):=by
   have y1:=vp (x:=a*e-c*b) (y:=g*g2) (by have:=Int.mul_pos (show 0<g by omega) (show 0<g2 by omega);omega);have y2:=vp (x:=S1-S2) (y:=D) hD.1;rw[<- y1,<- y2,Wb _ (g*g2),kn,Wb]
  rw[<- Wv a e,<- Wv b e,Xl,<- Wv c b];have hT:jw a (-c) (a*e).natAbs (c*b).natAbs=(a*e-c*b).natAbs:=by
   unfold jw;split
   ·omega
   ·split<;>omega
  rw[hT];have hlow:∀s,km s (a*e-c*b).natAbs (b*e).natAbs=km s (S1-S2).natAbs D.natAbs:=fun s=>by
   rw[<- Df s _ _ k0,<- Wv,<- Wv,kd,kn,Wv,Wv,Df s _ _ V]
  have fin:km (decide (S1-S2<0)) (S1-S2).natAbs D.natAbs=some (eN (S1-S2) D):=Pw V V;rw[hlow];by_cases h0:S1-S2=0
  ·rw[h0]at fin ⊢;rw[show (0:Int).natAbs=0 from rfl,Pv]at fin ⊢;rw[fin];rfl
  have hS:fw a (-c) (a*e).natAbs (c*b).natAbs=decide (S1-S2<0):=by
   have hne:a*e-c*b≠0:=fun h=>by
    rw[h,YD]at kn;rcases YP.1 kn.symm with h|h<;>omega
   unfold fw;split
   ·exact decide_eq_decide.2 (V)
   ·split
    ·rw[<- decide_not];exact decide_eq_decide.2 (V)
    ·exact decide_eq_decide.2 (V)
  rw[hS,fin];rfl
 ·have hd0:0<D.natAbs:=V
  have hg:Int.gcd b e=Nat.gcd b.natAbs e.natAbs:=rfl;have r1:e.natAbs / Int.gcd b e<=g.natAbs:=by rw[hg];exact Dh V V nb ⟨_,ne.symm⟩ hd0
  have r2:b.natAbs / Int.gcd b e<=g2.natAbs:=by rw[hg,XC];exact Dh V V ne ⟨_,nb.symm⟩ hd0
  have s1:je a b e<=S1.natAbs:=by unfold je;rw[<- na];exact V2 _ r1
  have s2:jf b (-c) e<=S2.natAbs:=by unfold jf;rw[<- nc,Xl];exact V2 _ r2
  unfold lZ;split
  ·omega
  ·split<;>omega
end Go.Proofs.F01
namespace Go.Proofs
open Go.Hx Tryz
variable {ch ch':Ch}{c k:Nat}{t:ZF}{D:Zx}{T:Zz}
def TG (hD:D.Ok)(ht:t.Ok D)(hc:nt D ch)(e:∀k c,k<D.K->c<D.cs k->ch' k c=ch k c):jW D t ch'↔jW D t ch:=by
 have hc':nt D ch':=fun k c y h1 h2 h3=>hc k c y h1 h2 (by rw[<- e k c h1 h2];exact h3);rw[tD hD ht hc,tD hD ht hc'];constructor
 ·rintro⟨q,q1,q2,q3⟩;exact⟨q,q1,fun k c y h1 h2 h3=>q2 k c y h1 h2 (by rw[e k c h1 h2];exact h3),q3⟩
 ·rintro⟨q,q1,q2,q3⟩;exact⟨q,q1,fun k c y h1 h2 h3=>q2 k c y h1 h2 (by rw[<- e k c h1 h2];exact h3),q3⟩
def TH (hc:nt D ch){x:Nat}(hx:x<D.cd k):nt D (kG ch k c x):=fun k' c' y h1 h2 h3=>by
 by_cases h:k'=k/\c'=c
 ·obtain⟨rfl,rfl⟩:=h;rw[np]at h3;cases h3;exact hx
 ·rw[nr h]at h3;exact hc k' c' y h1 h2 h3
def TI (hD:D.Ok)(ht:t.Ok D)(hc:nt D ch)(e:∀k c,k<D.K->c<D.cs k->ch' k c=ch k c)(k c:Nat):iR D t ch' k c=iR D t ch k c:=by
 unfold iR;refine FQ _ _ fun y _ hy=>?_;rw[Wk,tI,tI];refine TG hD ht (TH hc V) fun k' c' h1 h2=>?_;by_cases h:k'=k/\c'=c
 ·rw[h.1,h.2,np,np]
 ·rw[nr h,nr h];exact e k' c' h1 h2
structure Z9 (D:Zx)(T:Zz)(done:List (Nat × Nat)):Prop where
 eq:∀k c,k<D.K->c<D.cs k->kK T k c=oD D (ml D) done k c
 tb:lK T (rE D)=ml D
 nq:T.Rng D
 len:T.Len D D.K
 h0:∀c,c<D.cs 0->(T.ab 0).getD c 0=0
def Z9.try (hD:D.Ok)(ht:(ml D).Ok D){done:List (Nat × Nat)}(h:Z9 D T done)(hnd:(done++[(k,c)]).Nodup)(hr:∀p∈done++[(k,c)],p.1<D.K/\p.2<D.cs p.1):Z9 D (lL T k c (tP D T k c)) (done++[(k,c)]):=by
 have hkc:=hr (k,c) Zj;have hl:=h.len.ch k hkc.1;have hcl:c<(T.ch k).length:=by rw[hl];exact hkc.2
 have hC:=Fb hD ht _ done rfl (W8.1 hnd).1 fun p hp=>hr p (by simp[hp]);have hx:tP D T k c=iR D (ml D) (oD D (ml D) done) k c:=by
  rw[Tr h.nq (fun c h1=>by rw[h.h0 c h1];rfl) hcl,h.tb];exact TI hD ht hC.nq h.eq k c
 refine⟨fun k' c' h1 h2=>?_,h.tb,FO h.nq hcl,Tq h.len _ _ _,h.h0⟩;rw[FN hcl,Fa,hx];show _=kG _ k c _ k' c';by_cases e:k'=k/\c'=c
 ·rw[e.1,e.2,np,np]
 ·rw[nr e,nr e];exact h.eq k' c' h1 h2
def Z9.TJ (hD:D.Ok)(ht:(ml D).Ok D){done:List (Nat × Nat)}(h:Z9 D T done):∀n,(done++(List.range n).map fun c=>(k,c)).Nodup->(∀p∈done++(List.range n).map fun c=>(k,c),p.1<D.K/\p.2<D.cs p.1)->Z9 D (tQ D T k n) (done++(List.range n).map fun c=>(k,c)):=by
 intro n
 induction n with
 |zero =>
  intro _ _;show Z9 D T _;simpa using h
 |succ n ih =>
  intro h1 h2;rw[VH,VQ,<- List.append_assoc]at h1 h2 ⊢;exact(ih (W8.1 h1).1 fun p hp=>h2 p (XS _ hp)).try hD ht h1 h2
def runT (D:Zx)(T:Zz)(ks:List Nat):Zz:=ks.foldl (fun T k=>tQ D T k (D.cs k)) T
def TK (D:Zx)(T:Zz)(ks:List Nat)(k:Nat):runT D T (ks++[k])=tQ D (runT D T ks) k (D.cs k):=by unfold runT;rw[V5];rfl
def rR (D:Zx)(ks:List Nat):List (Nat × Nat):=(ks.map fun k=>(List.range (D.cs k)).map fun c=>(k,c)).flatten
def TL (D:Zx)(ks:List Nat)(k:Nat):rR D (ks++[k])=rR D ks++(List.range (D.cs k)).map fun c=>(k,c):=by unfold rR;simp
def Z9.run (hD:D.Ok)(ht:(ml D).Ok D)(h:Z9 D T []):∀(n:Nat) (ks:List Nat),ks.length=n->(rR D ks).Nodup->(∀p∈rR D ks,p.1<D.K/\p.2<D.cs p.1)->Z9 D (runT D T ks) (rR D ks):=by
 intro n
 induction n with
 |zero =>
  intro ks hl _ _;obtain rfl:=U5 hl;exact h
 |succ n ih =>
  intro ks hl h1 h2;obtain⟨qs,k,rfl⟩:∃qs a,ks=qs++[a]:=by
   rcases XN ks with h|⟨qs,a,h⟩
   ·rw[h]at hl;cases hl
   ·exact⟨qs,a,by rw[h,XO]⟩
  rw[List.length_append,VX]at hl;rw[TL]at h1 h2 ⊢;rw[TK];exact(ih qs V (W8.1 h1).1 fun p hp=>h2 p (XS _ hp)).TJ hD ht _ h1 h2
def FS (d:Zq)(lvh:Zo)(tot:Int):List Zo:=[.lit (.int .i64 d.nl),.Q d.C.length (aH d.C),.lit (.int .u64 (d.X:Int)),.Q d.Y.length (bB d.Y),lvh,af (eh d),af (dN d),.lit (.int .i64 tot)]
def TM {d:Zq}{s:Nat}{lvh:Zo}{tot:Int}(hok:Zv d)(ht:-1000000000000000000<=tot/\tot<=1000000000000000000)(hw:1<=d.nl ^ d.C.length/\d.nl ^ d.C.length<=1000000000000000000)(H:Zn)(hs:H.get s=some (.J 0 184 (FS d lvh tot)))(hl:s<H.A)(K:Zt->Zn->Prop)(hK:K (.ret (eN tot (d.nl ^ d.C.length))) H):
  ae prog G0 68 [.O s 0 0] H K:=by
 refine ae.Z ⟨_,func68,rfl,rfl⟩ fun hcl=>?_;have n8:=hok.n.n1;have hg:=hok.nC.g1;refine ae.sw (n:=20) (rs:=[.cell 2 58]) func68 ?_;refine W.sq ?_;simp only[go_sem];obtain⟨H1,hH1⟩:∃H1,H1=ext H [.J 0 58 [.lit (.int .i64 0),.lit (.int .i64 0)]]:=⟨_,rfl⟩
 have g1:=dp hH1
 have o1:Zs H H1:=hH1▸.ext _ _
 rw[<- hH1];clear hH1;have l1:=ag g1;have ls:=ag ((o1.nc s hl).trans hs);unfold FS at ls;refine W.seq ?_;refine W.dr 16 [0,1,3,7,0,16,48,112,240,0,512,1536,3584,7680,15872,32752] mixed ?_;simp only[go_sem,ls];refine⟨_,[],bF.pure fun H2=>SD d.nl d.C.length hg V H2 _ ⟨rfl,rfl⟩,?_⟩;refine ao.Z (SE tot (d.nl ^ d.C.length) V V H1 _ ⟨trivial,?_⟩);unfold eN at hK ⊢;simp only[go_sem,l1];obtain⟨H2,hH2⟩:∃H2,H2=H1.upd H.A (.J 0 58 [.lit (.int .i64 (tot.tdiv (Int.gcd tot (d.nl ^ d.C.length):Int))),.lit (.int .i64 ((d.nl ^ d.C.length).tdiv (Int.gcd tot (d.nl ^ d.C.length):Int)))]):=⟨_,rfl⟩
 have o2:Zs H H2:=by rw[hH2];exact Zs.upd (id:=H.A) o1 Zm _
 have l2:H2.na H.A 0=_:=ag (show H2.get H.A=_ by rw[hH2,ah,UX rfl]);rw[<- hH2];refine W.vs ?_;simp only[go_sem,l2];refine aj.bH aF hcl o2 (.agg rfl fun i hi _=>?_) hK
 match i,hi with
 |0,_=>exact .lit _
 |1,_=>exact .lit _
def yB (d:Zq)(hf:ZM d)(h6:d.C.length<=6)(H:Zn)(K:Zt->Zn->Prop)
  (hE:dA d=4->K (.ret (.nf [.agg [aa 0,aa 0],aa 210])) H)
  (hE2:dA d≠4->dA d≠0->K (.ret (.nf [.agg [aa 0,aa 0],aa (dA d)])) H)
  (hK:∀r,iJ d=some r->Zv d->ZB d r->K (.ret (.nf [eN (eG d r) (d.nl ^ d.C.length),aa 0])) H):
  ae prog G0 29 [dk d] H K:=by
 refine ae.Z ⟨_,func29,rfl,rfl⟩ fun hcl=>?_;refine ae.sw (n:=17) (rs:=[.cell 2 58,.tmp 3]) func29 ?_;refine W.sq ?_;simp only[go_sem,ie,cZ];obtain⟨H1,hH1⟩:∃H1,H1=ext H [.J 0 38 [.lit (.int .i64 d.nl),.Q d.C.length (aH d.C),.lit (.int .u64 (d.X:Int)),.Q d.Y.length (bB d.Y)],.J 0 58 [.lit (.int .i64 0),.lit (.int .i64 0)]]:=⟨_,rfl⟩
 have g1:=dp hH1
 have g2:=gE hH1 1 rfl
 have n1:H1.A=H.A+2:=hH1▸rfl
 have o1:Zs H H1:=hH1▸.ext _ _
 rw[<- hH1];clear hH1;have l1:=ag g1;refine W.sq ?_;simp only[go_sem,l1];have zero:∀(H2:Zn) (e:Int),Zs H1 H2->K (.ret (.nf [.agg [aa 0,aa 0],aa e])) H->aj prog G0 H K (.nf [.agg [aa 0,aa 0],aa e]) (H2.upd (H.A+1) (.J 0 58 [aa 0,aa 0])):=fun H2 e ho hk=>by
  refine aj.bH aF hcl (Zs.upd (id:=H.A+1) (o1.trans ho) (Xf _) _) (.nf rfl fun i hi _=>?_) hk
  match i,hi with
  |0,_ =>
   refine .agg rfl fun i hi _=>?_
   match i,hi with
   |0,_=>exact .lit _
   |1,_=>exact .lit _
  |1,_=>exact .lit _
 refine ao.Z (To d hf h6 H1 _ (fun H2 ho he=>⟨trivial,?_⟩) (fun H2 ho he he2=>⟨trivial,?_⟩) fun r s lvh I H2 hr hok ho hS hnil=>⟨trivial,?_⟩)
 ·have g2':=ag ((ho.nc _ V).trans g2);simp only[go_sem];refine W.sq ?_;simp only[go_sem,g2'];exact zero H2 210 ho (hE he)
 ·have g2':=ag ((ho.nc _ V).trans g2);simp only[go_sem];refine W.sq ?_;simp only[go_sem,he2,g2'];exact zero H2 (dA d) ho (hE2 he he2)
 simp only[go_sem];refine W.sq ?_;simp only[go_sem];obtain⟨hPo,hT,_⟩:=wq hok (tE hr);have hb:=Re h6 (ny d r) hok hPo _ Zm;have hsum:lj (df d (fixC (ny d r))) d.Y (cI d.C)=eG d r:=by rw[<- hT];exact QJ hok hPo
 rw[hsum]at hb;have htot:fw (ay d r) 0=eG d r:=UX (.inr rfl);rw[htot]at hS;have hK:=hK r hr hok (tE hr);refine W.vs ?_;simp only[go_sem];refine ao.Z (TM hok hb (by have:=Ud hok;omega) H2 hS.top hS.nI.2 _ ⟨trivial,?_⟩);have k2:∀i,i<H1.A->H2.get i=H1.get i:=fun i h=>ho.nc i h;have l4:=ag ((k2 _ V).trans g2);unfold eN at hK ⊢;simp only[go_sem,l4];have hon:=ho.A;refine aj.bH (v':=.nf [_,aa 0]) aF hcl (Zs.upd (id:=H.A+1) (o1.trans ho) (Xf _) _) (.nf rfl fun i hi _=>?_) hK
 match i,hi with
 |0,_ =>
  refine .agg rfl fun i hi _=>?_
  match i,hi with
  |0,_=>exact .lit _
  |1,_=>exact .lit _
 |1,_=>exact .lit _
end Go.Proofs
