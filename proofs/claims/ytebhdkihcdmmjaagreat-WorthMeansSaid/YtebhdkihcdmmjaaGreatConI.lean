/- Own work: contracts. -/
import Derived.Test.YtebhdkihcdmmjaaGreatConA
import Derived.Test.YtebhdkihcdmmjaaGreatConH
import Derived.Test.YtebhdkihcdmmjaaGreatConF
import Derived.Test.YtebhdkihcdmmjaaGreatConG
import Derived.Test.YtebhdkihcdmmjaaGreatConC
set_option linter.all false
set_option maxHeartbeats 8000000
set_option maxRecDepth 100000
namespace Go.Proofs.F01
open Go.Hx Tryz
variable {P:Program}{H:ZK}{r:ZL}{K:ZQ -> ZK -> Prop}
def CL (args:Array Value):Sem Value := do
  let (x, y, c) ← Extern.MathBitsCarry.three "Add64" args
  pure (Extern.MathBitsCarry.pair ((x + y + c) % Extern.MathBitsCarry.m64) ((x + y + c) / Extern.MathBitsCarry.m64))
def CM (args:Array Value):Sem Value := do
  let (x, y, b) ← Extern.MathBitsCarry.three "Sub64" args
  pure (Extern.MathBitsCarry.pair ((x + Extern.MathBitsCarry.m64-y-b) % Extern.MathBitsCarry.m64) (if x < y + b then 1 else 0))
def fK:List ZL -> Option ZL
  | [.lit (.int .u64 a),.lit (.int .u64 b),.lit (.int .u64 c)] => bif Nat.ble c.toNat 1 then some (.nc [.lit (.int .u64 (Int.ofNat ((a.toNat + b.toNat + c.toNat) % 18446744073709551616))),.lit (.int .u64 (Int.ofNat ((a.toNat + b.toNat + c.toNat) / 18446744073709551616)))]) else none
  |_ => none
def vp:List ZL -> Option ZL
  | [.lit (.int .u64 a),.lit (.int .u64 b),.lit (.int .u64 c)] => bif Nat.ble c.toNat 1 then some (.nc [.lit (.int .u64 (Int.ofNat ((a.toNat + 18446744073709551616-b.toNat-c.toNat) % 18446744073709551616))),.lit (.int .u64 (Int.ofNat (bif Nat.blt a.toNat (b.toNat + c.toNat) then 1 else 0)))]) else none
  |_ => none
def CN (a b:Nat)(Γ:aD)(H:ZK)(w:World):ZO P Γ H w (.nc [.lit (.int .u64 (Int.ofNat a)),.lit (.int .u64 (Int.ofNat b))]) (Extern.MathBitsCarry.pair a b) := by
  unfold Extern.MathBitsCarry.pair;refine ZO.nc (cs := [.int .u64 (Int.ofNat a),.int .u64 (Int.ofNat b)]) rfl fun i h _ => ?_
  match i,h with
  |0,_ => exact .lit _
  |1,_ => exact .lit _
def CO (s:String)(w:World)(a b c:Int)(hc:¬c.toNat > 1):(Extern.MathBitsCarry.three s #[.int .u64 a,.int .u64 b,.int .u64 c]).run P w = .ok (a.toNat,b.toNat,c.toNat) w := by
  have h1:∀x:Int,(asInt (.int .u64 x)).run P w = .ok x w := fun x => rfl;show (do
    let c := (<- asInt (.int .u64 c)).toNat
    if c > 1 then unsupported _
    pure ((<- asInt (.int .u64 a)).toNat,(<- asInt (.int .u64 b)).toNat,c):Sem (Nat × Nat × Nat)).run P w=_
  rw[aq (h1 c)];simp only[hc,if_false];rfl
def CP {a b c:Int}(h:fK [.lit (.int .u64 a),.lit (.int .u64 b),.lit (.int .u64 c)]=some r)(hK:K (.ret r) H):ak prog G0 (.X 185 [] []) [.lit (.int .u64 a),.lit (.int .u64 b),.lit (.int .u64 c)] H K := by
  simp only[fK]at h;cases hb:Nat.ble c.toNat 1 with
  |false => rw[hb]at h;cases h
  |true =>
    rw[hb]at h;have hc:¬c.toNat > 1 :=(by have := X5 hb;omega);cases h;refine ak.ext (e := CL) (vs := [.int .u64 a,.int .u64 b,.int .u64 c]) func185 rfl ZI ZI ZI rfl (fun w => ?_) (fun Γ H w => CN _ _ Γ H w) hK;unfold CL;rw[aq (CO _ w a b c hc)];rfl
def CQ {a b c:Int}(h:vp [.lit (.int .u64 a),.lit (.int .u64 b),.lit (.int .u64 c)]=some r)(hK:K (.ret r) H):ak prog G0 (.X 186 [] []) [.lit (.int .u64 a),.lit (.int .u64 b),.lit (.int .u64 c)] H K := by
  simp only[vp]at h;cases hb:Nat.ble c.toNat 1 with
  |false => rw[hb]at h;cases h
  |true =>
    rw[hb]at h;have hc:¬c.toNat > 1 :=(by have := X5 hb;omega);cases h;refine ak.ext (e := CM) (vs := [.int .u64 a,.int .u64 b,.int .u64 c]) (v := Extern.MathBitsCarry.pair ((a.toNat + 18446744073709551616-b.toNat-c.toNat) % 18446744073709551616) (bif Nat.blt a.toNat (b.toNat + c.toNat) then 1 else 0)) func186 rfl ZI ZI ZI rfl (fun w => ?_) (fun Γ H w => CN _ _ Γ H w) hK;unfold CM;rw[aq (CO _ w a b c hc)];by_cases hl:a.toNat < b.toNat + c.toNat
    · have:Nat.blt a.toNat (b.toNat + c.toNat)=true :=(by rw[Nat.blt_eq];exact hl);rw[this];simp only[hl,if_true,cond_true];rfl
    · have : Nat.blt a.toNat (b.toNat + c.toNat) = false := by
        cases h:Nat.blt a.toNat (b.toNat + c.toNat) with
        |false => rfl
        |true => rw[Nat.blt_eq]at h;exact absurd h hl
      rw[this];simp only[hl,if_false,cond_false];rfl
section
variable {P:Program} {G:Nat -> Option (List ZL)} {Γ Γ':aD} {H H':ZK} {w w':World}
def zd (a b:Int)(ha:0 <= a)(hb:0 < b):Int.gcd b (a % b)=Int.gcd b a := by
  obtain⟨m,rfl⟩ := Vm ha;obtain⟨n,rfl⟩ := Vm (Int.le_of_lt hb);rw[<- Int.natCast_emod];simp only[Zj];rw[XV n m,<- Nat.mod_add_div m n];have := Y3 n m;rw[Nat.mod_add_div];rw[XV m n,this,XV]
end
def qV (n d:Int):ZL := .agg [.lit (.int .i64 n),.lit (.int .i64 d)]
def ri {S:Nat -> Prop}{H:ZK}{nx:Nat}(n d:Int):Fz S H nx (.agg [.lit (.int .i64 n),.lit (.int .i64 d)]) (qV n d) :=
  .agg rfl fun i hi _ => match i,hi with
    |0,_ => .lit _
    |1,_ => .lit _
section
variable {P:Program} {t:TypeId} {x y:Operand} {k k':IntKind} {a b:Int}
def Nf (w:Nat){a:Nat}{n:Nat}(ha:a < 2 ^ w)(hn:n <= w)(hw:0 < w):((BitVec.ofInt w (a:Int) &&& BitVec.ofInt w ((2 ^ n-1:Nat):Int)).toNat)=a % 2 ^ n := by
  have h1:(2:Nat) ^ n <= 2 ^ w := Vr ZH hn;have h0:0 < (2:Nat) ^ n := Xn n;have e1:(BitVec.ofInt w (a:Int)).toNat=a := by rw[BitVec.ofInt_natCast,BitVec.toNat_ofNat,Xy ha]
  have e2:(BitVec.ofInt w ((2 ^ n-1:Nat):Int)).toNat=2 ^ n-1 := by rw[BitVec.ofInt_natCast,BitVec.toNat_ofNat,Xy V]
  rw[BitVec.toNat_and,e1,e2,YW]
def ze (h:0 <= a /\ a < 18446744073709551616):aU P .and t x y (.lit (.int .u64 a)) (.lit (.int .u64 4294967295))=some (.lit (.int .u64 (a % 4294967296))) := by
  obtain⟨n,rfl⟩ := Vm h.1;rw[qt];have := Nf 64 (a := n) (n := 32) V ZH ZH;have e:(BitVec.ofInt (IntKind.bits .u64) (n:Int) &&& BitVec.ofInt (IntKind.bits .u64) 4294967295).toNat=n % 4294967296 := this;rw[e,VK _ V];simp
def tz (h:0 <= a /\ a < 18446744073709551616):aU P .shr t x y (.lit (.int .u64 a)) (.lit (.int k' 32))=some (.lit (.int .u64 (a / 4294967296))) := by
  rw[su ZH];have e:a.fdiv (2 ^ (min (32:Int).toNat (IntKind.bits .u64)))=a / 4294967296 := Yk a ZH;rw[e]
def pureRun_bind {α β:Type}{s:Sem α}{f:α -> Sem β}{a:α}(h:aP P s=some a):aP P (s >>= f)=aP P (f a) := by
  induction s with
  |pure b => simp only[aP,Option.some.injEq]at h;subst h;rfl
  |program k ih => exact ih P h
  |mark m k ih => exact ih h
  |_ => simp[aP]at h
def tA {t:TypeId}{a b:Bool}(n:Nat)(ht:P.underlying t=some .bool):aP P (Op.equalIn (n + 1) t (.bool a) (.bool b))=some (a == b) := by
  unfold Op.equalIn;simp[underlying,program,ht,aP,bind,Sem.bind,pure]
def mR {t:TypeId}{x y:Operand}{a b:Bool}(ht:P.underlying t=some .bool):aU P .eql t x y (.lit (.bool a)) (.lit (.bool b))=some (.lit (.bool (a == b))) := by
  have h1:(do eqGuard .eql t x y (.bool a) (.bool b);binOp .eql t (.bool a) (.bool b))=(Op.equalIn (9999 + 1) t (.bool a) (.bool b) >>= fun r => pure (Value.bool r)) := rfl;show (aP P _).map _=_;rw[h1,pureRun_bind (tA 9999 ht)];rfl
def mS {t:TypeId}{x y:Operand}{a b:Bool}(ht:P.underlying t=some .bool):aU P .neq t x y (.lit (.bool a)) (.lit (.bool b))=some (.lit (.bool (!(a == b)))) := by
  have h1:(do eqGuard .neq t x y (.bool a) (.bool b);binOp .neq t (.bool a) (.bool b))=(Op.equalIn (9999 + 1) t (.bool a) (.bool b) >>= fun r => pure (Value.bool (!r))) := rfl;show (aP P _).map _=_;rw[h1,pureRun_bind (tA 9999 ht)];rfl
end
def CR (n:Int)(hn:-9223372036854775808 <= n /\ n <= 9223372036854775807)(H:ZK)(K:ZQ -> ZK -> Prop)(hK:K (.ret (.lit (.int .u64 (n.natAbs:Int)))) H):ae prog G0 96 [.lit (.int .i64 n)] H K := by
  refine ae.st (n := 10) (rs := [.tmp 2]) func96 ?_;by_cases h:n < 0
  · have w1:IntKind.u64.wrap n=n + 18446744073709551616 :=(by rw[xE];omega);have w2:IntKind.u64.wrap (0-(n + 18446744073709551616))=(n.natAbs:Int) :=(by rw[xE];omega);simp only[go_sem,h,w1,w2,az];exact aj.mk ZJ hK
  · have w1:IntKind.u64.wrap n=(n.natAbs:Int) :=(by rw[xE];omega);simp only[go_sem,h,w1,az];exact aj.mk ZJ hK
def zf (a b:Int)(ha:0 <= a)(hb:0 <= b)(H:ZK)(K:ZQ -> ZK -> Prop)(hK:K (.ret (.lit (.int .u64 (Int.gcd a b:Int)))) H):ae prog G0 95 [.lit (.int .u64 a),.lit (.int .u64 b)] H K := by
  refine ae.st (n := 12) (rs := [.tmp 4]) func95 ?_;simp only[go_sem,az];refine W.aS 2019 (by rfl) (fun ρ H' => H'=H /\ ∃x y:Int,ρ 0 = .lit (.int .u64 x) /\ ρ 1 = .lit (.int .u64 y) /\ 0 <= x /\ 0 <= y /\ Int.gcd x y=Int.gcd a b) (fun ρ H => (iv (ρ 1)).toNat) ?_ ?_
  · simp only[go_sem,az];exact⟨a,b,rfl,rfl,ha,hb,rfl⟩
  rintro ρ H' ⟨rfl,x,y,h0,h1,hx,hy,hg⟩;refine W.vs ?_;by_cases hz:y=0
  · subst hz;have e:x=(Int.gcd a b:Int) :=(by rw[<- hg,Int.gcd_zero_right];omega);simp only[go_sem,h0,h1,az];rw[e];exact aj.mk ZJ hK
  · have m1:x.tmod y=x % y := VV hx;have m2 := Yj x hz;have m3 := XI x (show 0 < y by omega);simp only[go_sem,h0,h1,hz,az];refine W.dr 5 [0,0,0,6,3] mixed ?_;simp only[go_sem,h0,h1,hz,m1,az];refine⟨⟨y,x % y,rfl,rfl,hy,m2,?_⟩,V⟩;rw[<- hg,Int.gcd_comm x y];exact zd x y hx (V)
def kh:Int := 4611686018427387903
def bt (n d:Int):Int := if d < 1 \/ d > kh \/ n < -kh \/ n > kh then 5 else if Int.gcd n d ≠ 1 then 5 else 0
def Ng (n d:Int):Int.gcd (n.natAbs:Int) d=Int.gcd n d := by simp[Int.gcd]
def tB (n d:Int)(hn:-9223372036854775808 <= n /\ n <= 9223372036854775807)(hd:-9223372036854775808 <= d /\ d <= 9223372036854775807)(H:ZK)(K:ZQ -> ZK -> Prop)(hK:K (.ret (.lit (.int .i64 (bt n d)))) H):ae prog G0 55 [qV n d] H K := by
  refine ae.X ⟨_,func55,rfl,rfl⟩ fun hcl => ?_;refine ae.st (n := 29) (rs := [.tmp 2]) func55 ?_;have bad:∀L,bt n d=5 -> aj prog G0 H K (.lit (.int .i64 5)) (ext H L) := fun L h => by
    rw[h]at hK;exact aj.drop aF hcl (.lit _) hK
  by_cases h1:d < 1
  · simp only[go_sem,qV,h1,az];exact bad _ (by unfold bt;rw[Vh (.inl h1)])
  by_cases h2:4611686018427387903 < d
  · simp only[go_sem,qV,h1,h2,az];exact bad _ (by unfold bt;rw[Vh (.inr (.inl h2))])
  by_cases h3:n < -4611686018427387903
  · simp only[go_sem,qV,h1,h2,h3,az];exact bad _ (by unfold bt;rw[Vh (.inr (.inr (.inl h3)))])
  by_cases h4:4611686018427387903 < n
  · simp only[go_sem,qV,h1,h2,h3,h4,az];exact bad _ (by unfold bt;rw[Vh (.inr (.inr (.inr h4)))])
  simp only[go_sem,qV,h1,h2,h3,h4,az];refine W.dr 6 [0,1,3,0,8,24] mixed ?_;have w1:IntKind.u64.wrap d=d := VK d V;simp only[go_sem,qV,h1,h2,h3,h4,w1,az];refine⟨_,[],aY.pure (fun H2 => CR n hn H2 _ ⟨rfl,rfl⟩),?_⟩;simp only[go_sem,qV,h1,h2,h3,h4,w1,az];refine ak.X (zf _ d V V _ _ ⟨trivial,?_⟩);rw[Ng];have ck:bt n d=if Int.gcd n d ≠ 1 then 5 else 0 := by unfold bt;rw[Vg (by unfold kh;omega)]
  by_cases hg:Int.gcd n d=1
  · have hg':((Int.gcd n d:Nat):Int)=1 :=V;simp only[go_sem,hg',az];rw[ck,Vg (by simpa using hg)]at hK;exact aj.drop aF hcl (.lit _) hK
  · have hg':¬((Int.gcd n d:Nat):Int)=1 :=V;simp only[go_sem,hg',az];exact bad _ (by rw[ck,Vh hg])
def di (n:Nat):ZL := .agg [.lit (.int .u64 (n / 18446744073709551616:Nat)),.lit (.int .u64 (n % 18446744073709551616:Nat))]
def Nh {p q r w0 t w1 hi xy B:Nat}(hB:0 < B)(hxy:xy=r * (B * B) + (p + q) * B + w0)(ht:t=p + w0 / B)(hw1:w1=t % B + q)(hhi:hi=r + t / B + w1 / B):
    xy / (B * B)=hi := by
  have e0 := Xo w0 B;have l0 := XU w0 hB;have e1 := Xo t B;have e2 := Xo w1 B;have l2 := XU w1 hB;generalize w0 / B=c0 at *
  generalize w0 % B=r0 at *
  generalize t / B=c1 at *
  generalize t % B=r1 at *
  generalize w1 / B=c2 at *
  generalize w1 % B=r2 at *
  have key:xy=hi * (B * B) + (r2 * B + r0) := by
    subst hhi;have a1:p * B=t * B-c0 * B :=(by rw[ht,VT];omega);have a2:q * B=w1 * B-r1 * B :=(by rw[hw1,VT];omega);have a3:t * B=c1 * (B * B) + r1 * B :=(by rw[<- e1,VT];congr 1;ac_rfl);have a4:w1 * B=c2 * (B * B) + r2 * B :=(by rw[<- e2,VT];congr 1;ac_rfl);have a5:c0 * B <= t * B := VO _ V;have a6:r1 * B <= w1 * B := VO _ V;have a7:w0=c0 * B + r0 :=(by rw[<- e0,WL]);rw[hxy,VT,VT,VT];omega
  have small:r2 * B + r0 < B * B := by
    have:r2 * B + B <= B * B :=(by rw[<- YC];exact VO _ l2);omega
  rw[key];exact Nat.div_eq_of_lt_le (Nat.le_add_right _ _) (by rw[VT,Xv];omega)
def Ni (x y:Nat)(hx:x < 18446744073709551616)(hy:y < 18446744073709551616)(H:ZK)(K:ZQ -> ZK -> Prop)
    (hK:K (.ret (.nc [.lit (.int .u64 (x * y / 18446744073709551616:Nat)),.lit (.int .u64 (x * y % 18446744073709551616:Nat))])) H):ae prog G0 141 [.lit (.int .u64 x),.lit (.int .u64 y)] H K := by
  obtain⟨x1,x0,hxe,hx0,hx1⟩:∃x1 x0:Nat,x=x1 * 4294967296 + x0 /\ x0 < 4294967296 /\ x1 < 4294967296 := ⟨x / 4294967296,x % 4294967296,V,V,V⟩
  obtain⟨y1,y0,hye,hy0,hy1⟩:∃y1 y0:Nat,y=y1 * 4294967296 + y0 /\ y0 < 4294967296 /\ y1 < 4294967296 := ⟨y / 4294967296,y % 4294967296,V,V,V⟩
  have bnd:∀a b:Nat,a < 4294967296 -> b < 4294967296 -> a * b <= 18446744065119617025 := fun a b ha hb => by
    have := XA (show a <= 4294967295 by omega) (show b <= 4294967295 by omega);omega
  obtain⟨w0,hw0⟩:∃w0,w0=x0 * y0 := ⟨_,rfl⟩
  have b0 := bnd x0 y0 hx0 hy0;obtain⟨p,hp⟩:∃p,p=x1 * y0 := ⟨_,rfl⟩
  have b1 := bnd x1 y0 hx1 hy0;obtain⟨q,hq⟩:∃q,q=x0 * y1 := ⟨_,rfl⟩
  have b2 := bnd x0 y1 hx0 hy1;obtain⟨r,hr⟩:∃r,r=x1 * y1 := ⟨_,rfl⟩
  have b3 := bnd x1 y1 hx1 hy1;have hxy:x * y=r * 18446744073709551616 + (p + q) * 4294967296 + w0 := by
    rw[hxe,hye,hr,hp,hq,hw0,VT,Xi,Xi,VT];have e1:x1 * 4294967296 * (y1 * 4294967296)=x1 * y1 * 18446744073709551616 := by
      rw[Nat.mul_mul_mul_comm]
    have e2:x1 * 4294967296 * y0=x1 * y0 * 4294967296 :=(by ac_rfl);have e3:x0 * (y1 * 4294967296)=x0 * y1 * 4294967296 :=(by ac_rfl);rw[e1,e2,e3];omega
  have m1:((x:Int) % 4294967296)=(x0:Nat) := by omega
  have m2:((x:Int) / 4294967296)=(x1:Nat) := by omega
  have m3:((y:Int) % 4294967296)=(y0:Nat) := by omega
  have m4:((y:Int) / 4294967296)=(y1:Nat) := by omega
  have g1:((w0:Int))=(x0:Int) * (y0:Int) := by rw[hw0,WE]
  have g2:((p:Int))=(x1:Int) * (y0:Int) := by rw[hp,WE]
  have g3:((q:Int))=(x0:Int) * (y1:Int) := by rw[hq,WE]
  have g4:((r:Int))=(x1:Int) * (y1:Int) := by rw[hr,WE]
  obtain⟨t,ht⟩:∃t:Nat,t=p + w0 / 4294967296 := ⟨_,rfl⟩
  obtain⟨w1,hw1⟩:∃w1:Nat,w1=t % 4294967296 + q := ⟨_,rfl⟩
  obtain⟨hi,hhi⟩:∃hi:Nat,hi=r + t / 4294967296 + w1 / 4294967296 := ⟨_,rfl⟩
  have hBB:(4294967296:Nat) * 4294967296=18446744073709551616 := by decide
  have r1':x * y / 18446744073709551616=hi := by
    have h2:x * y=r * (4294967296 * 4294967296) + (p + q) * 4294967296 + w0 :=(by rw[hBB];exact hxy);have := Nh ZH h2 ht hw1 hhi;rw[hBB]at this;exact this
  have B0:∀n:Nat,n < 18446744073709551616 -> (0 <= (n:Int) /\ (n:Int) < 18446744073709551616) := fun n h => by omega
  have kx := B0 x hx;have ky := B0 y hy;have kw := B0 w0 V;have kt := B0 t V;have kv := B0 w1 V;have v1 := VK (w0:Int) V;have v2 := VK (p:Int) V;have v3 := VK (q:Int) V;have v4 := VK (r:Int) V;have s1:(p:Int) + (w0:Int) / 4294967296=(t:Int) := by omega
  have s2:(t:Int) % 4294967296 + (q:Int)=(w1:Int) := by omega
  have v5 := VK (t:Int) V;have v6 := VK (w1:Int) V;have s3:(r:Int) + (t:Int) / 4294967296=((r + t / 4294967296:Nat):Int) := by omega
  have v7 := VK ((r + t / 4294967296:Nat):Int) V;have s4:((r + t / 4294967296:Nat):Int) + (w1:Int) / 4294967296=(hi:Int) := by omega
  have v8 := VK (hi:Int) V;have s5:IntKind.u64.wrap ((x:Int) * (y:Int))=((x * y % 18446744073709551616:Nat):Int) := by rw[xE,<- WE];omega
  rw[r1']at hK;refine ae.sw (n := 51) (rs := [.tmp 4,.tmp 5]) func141 ?_;refine W.sq ?_;simp only[go_sem,az];refine W.env fun E0 hE0 => ?_;have a0_0:E0 0 = .lit (.int .u64 (x:Nat)) := by rw[hE0];rfl
  have a0_1:E0 1 = .lit (.int .u64 (y:Nat)) := by rw[hE0];rfl
  clear hE0;refine W.sq ?_;simp only[go_sem,a0_0,a0_1,m1,ze,kx,az];refine W.env fun E1 hE1 => ?_;have a1_0:E1 0 = .lit (.int .u64 (x:Nat)) := by rw[hE1];exact a0_0
  have a1_1:E1 1 = .lit (.int .u64 (y:Nat)) := by rw[hE1];exact a0_1
  have a1_6:E1 6 = .lit (.int .u64 (x0:Nat)) := by rw[hE1];rfl
  clear hE1;refine W.sq ?_;simp only[go_sem,a1_0,a1_1,a1_6,m2,tz,kx,az];refine W.env fun E2 hE2 => ?_;have a2_0:E2 0 = .lit (.int .u64 (x:Nat)) := by rw[hE2];exact a1_0
  have a2_1:E2 1 = .lit (.int .u64 (y:Nat)) := by rw[hE2];exact a1_1
  have a2_6:E2 6 = .lit (.int .u64 (x0:Nat)) := by rw[hE2];exact a1_6
  have a2_7:E2 7 = .lit (.int .u64 (x1:Nat)) := by rw[hE2];rfl
  clear hE2;refine W.sq ?_;simp only[go_sem,a2_0,a2_1,a2_6,a2_7,m3,ze,ky,az];refine W.env fun E3 hE3 => ?_;have a3_0:E3 0 = .lit (.int .u64 (x:Nat)) := by rw[hE3];exact a2_0
  have a3_1:E3 1 = .lit (.int .u64 (y:Nat)) := by rw[hE3];exact a2_1
  have a3_6:E3 6 = .lit (.int .u64 (x0:Nat)) := by rw[hE3];exact a2_6
  have a3_7:E3 7 = .lit (.int .u64 (x1:Nat)) := by rw[hE3];exact a2_7
  have a3_8:E3 8 = .lit (.int .u64 (y0:Nat)) := by rw[hE3];rfl
  clear hE3;refine W.sq ?_;simp only[go_sem,a3_0,a3_1,a3_6,a3_7,a3_8,m4,tz,ky,az];refine W.env fun E4 hE4 => ?_;have a4_0:E4 0 = .lit (.int .u64 (x:Nat)) := by rw[hE4];exact a3_0
  have a4_1:E4 1 = .lit (.int .u64 (y:Nat)) := by rw[hE4];exact a3_1
  have a4_6:E4 6 = .lit (.int .u64 (x0:Nat)) := by rw[hE4];exact a3_6
  have a4_7:E4 7 = .lit (.int .u64 (x1:Nat)) := by rw[hE4];exact a3_7
  have a4_8:E4 8 = .lit (.int .u64 (y0:Nat)) := by rw[hE4];exact a3_8
  have a4_9:E4 9 = .lit (.int .u64 (y1:Nat)) := by rw[hE4];rfl
  clear hE4;refine W.sq ?_;simp only[go_sem,a4_0,a4_1,a4_6,a4_7,a4_8,a4_9,<- g1,v1,az];refine W.env fun E5 hE5 => ?_;have a5_0:E5 0 = .lit (.int .u64 (x:Nat)) := by rw[hE5];exact a4_0
  have a5_1:E5 1 = .lit (.int .u64 (y:Nat)) := by rw[hE5];exact a4_1
  have a5_6:E5 6 = .lit (.int .u64 (x0:Nat)) := by rw[hE5];exact a4_6
  have a5_7:E5 7 = .lit (.int .u64 (x1:Nat)) := by rw[hE5];exact a4_7
  have a5_8:E5 8 = .lit (.int .u64 (y0:Nat)) := by rw[hE5];exact a4_8
  have a5_9:E5 9 = .lit (.int .u64 (y1:Nat)) := by rw[hE5];exact a4_9
  have a5_10:E5 10 = .lit (.int .u64 (w0:Nat)) := by rw[hE5];rfl
  clear hE5;refine W.sq ?_;simp only[go_sem,a5_0,a5_1,a5_6,a5_7,a5_8,a5_9,a5_10,<- g2,v2,tz,kw,s1,v5,az];refine W.env fun E6 hE6 => ?_;have a6_0:E6 0 = .lit (.int .u64 (x:Nat)) := by rw[hE6];exact a5_0
  have a6_1:E6 1 = .lit (.int .u64 (y:Nat)) := by rw[hE6];exact a5_1
  have a6_6:E6 6 = .lit (.int .u64 (x0:Nat)) := by rw[hE6];exact a5_6
  have a6_7:E6 7 = .lit (.int .u64 (x1:Nat)) := by rw[hE6];exact a5_7
  have a6_8:E6 8 = .lit (.int .u64 (y0:Nat)) := by rw[hE6];exact a5_8
  have a6_9:E6 9 = .lit (.int .u64 (y1:Nat)) := by rw[hE6];exact a5_9
  have a6_10:E6 10 = .lit (.int .u64 (w0:Nat)) := by rw[hE6];exact a5_10
  have a6_11:E6 11 = .lit (.int .u64 (t:Nat)) := by rw[hE6];rfl
  clear hE6;refine W.sq ?_;simp only[go_sem,a6_0,a6_1,a6_6,a6_7,a6_8,a6_9,a6_10,a6_11,ze,kt,az];refine W.env fun E7 hE7 => ?_;have a7_0:E7 0 = .lit (.int .u64 (x:Nat)) := by rw[hE7];exact a6_0
  have a7_1:E7 1 = .lit (.int .u64 (y:Nat)) := by rw[hE7];exact a6_1
  have a7_6:E7 6 = .lit (.int .u64 (x0:Nat)) := by rw[hE7];exact a6_6
  have a7_7:E7 7 = .lit (.int .u64 (x1:Nat)) := by rw[hE7];exact a6_7
  have a7_8:E7 8 = .lit (.int .u64 (y0:Nat)) := by rw[hE7];exact a6_8
  have a7_9:E7 9 = .lit (.int .u64 (y1:Nat)) := by rw[hE7];exact a6_9
  have a7_10:E7 10 = .lit (.int .u64 (w0:Nat)) := by rw[hE7];exact a6_10
  have a7_11:E7 11 = .lit (.int .u64 (t:Nat)) := by rw[hE7];exact a6_11
  have a7_12:E7 12 = .lit (.int .u64 ((t:Int) % 4294967296)) := by rw[hE7];rfl
  clear hE7;refine W.sq ?_;simp only[go_sem,a7_0,a7_1,a7_6,a7_7,a7_8,a7_9,a7_10,a7_11,a7_12,tz,kt,az];refine W.env fun E8 hE8 => ?_;have a8_0:E8 0 = .lit (.int .u64 (x:Nat)) := by rw[hE8];exact a7_0
  have a8_1:E8 1 = .lit (.int .u64 (y:Nat)) := by rw[hE8];exact a7_1
  have a8_6:E8 6 = .lit (.int .u64 (x0:Nat)) := by rw[hE8];exact a7_6
  have a8_7:E8 7 = .lit (.int .u64 (x1:Nat)) := by rw[hE8];exact a7_7
  have a8_8:E8 8 = .lit (.int .u64 (y0:Nat)) := by rw[hE8];exact a7_8
  have a8_9:E8 9 = .lit (.int .u64 (y1:Nat)) := by rw[hE8];exact a7_9
  have a8_10:E8 10 = .lit (.int .u64 (w0:Nat)) := by rw[hE8];exact a7_10
  have a8_11:E8 11 = .lit (.int .u64 (t:Nat)) := by rw[hE8];exact a7_11
  have a8_12:E8 12 = .lit (.int .u64 ((t:Int) % 4294967296)) := by rw[hE8];exact a7_12
  have a8_13:E8 13 = .lit (.int .u64 ((t:Int) / 4294967296)) := by rw[hE8];rfl
  clear hE8;refine W.sq ?_;simp only[go_sem,a8_0,a8_1,a8_6,a8_7,a8_8,a8_9,a8_10,a8_11,a8_12,a8_13,<- g3,v3,s2,v6,az];refine W.env fun E9 hE9 => ?_;have a9_0:E9 0 = .lit (.int .u64 (x:Nat)) := by rw[hE9];exact a8_0
  have a9_1:E9 1 = .lit (.int .u64 (y:Nat)) := by rw[hE9];exact a8_1
  have a9_6:E9 6 = .lit (.int .u64 (x0:Nat)) := by rw[hE9];exact a8_6
  have a9_7:E9 7 = .lit (.int .u64 (x1:Nat)) := by rw[hE9];exact a8_7
  have a9_8:E9 8 = .lit (.int .u64 (y0:Nat)) := by rw[hE9];exact a8_8
  have a9_9:E9 9 = .lit (.int .u64 (y1:Nat)) := by rw[hE9];exact a8_9
  have a9_10:E9 10 = .lit (.int .u64 (w0:Nat)) := by rw[hE9];exact a8_10
  have a9_11:E9 11 = .lit (.int .u64 (t:Nat)) := by rw[hE9];exact a8_11
  have a9_12:E9 12 = .lit (.int .u64 (w1:Nat)) := by rw[hE9];rfl
  have a9_13:E9 13 = .lit (.int .u64 ((t:Int) / 4294967296)) := by rw[hE9];exact a8_13
  clear hE9;refine W.sq ?_;simp only[go_sem,a9_0,a9_1,a9_6,a9_7,a9_8,a9_9,a9_10,a9_11,a9_12,a9_13,<- g4,v4,tz,kv,s3,v7,s4,v8,az];refine W.env fun E10 hE10 => ?_;have a10_0:E10 0 = .lit (.int .u64 (x:Nat)) := by rw[hE10];exact a9_0
  have a10_1:E10 1 = .lit (.int .u64 (y:Nat)) := by rw[hE10];exact a9_1
  have a10_6:E10 6 = .lit (.int .u64 (x0:Nat)) := by rw[hE10];exact a9_6
  have a10_7:E10 7 = .lit (.int .u64 (x1:Nat)) := by rw[hE10];exact a9_7
  have a10_8:E10 8 = .lit (.int .u64 (y0:Nat)) := by rw[hE10];exact a9_8
  have a10_9:E10 9 = .lit (.int .u64 (y1:Nat)) := by rw[hE10];exact a9_9
  have a10_10:E10 10 = .lit (.int .u64 (w0:Nat)) := by rw[hE10];exact a9_10
  have a10_11:E10 11 = .lit (.int .u64 (t:Nat)) := by rw[hE10];exact a9_11
  have a10_12:E10 12 = .lit (.int .u64 (w1:Nat)) := by rw[hE10];exact a9_12
  have a10_13:E10 13 = .lit (.int .u64 ((t:Int) / 4294967296)) := by rw[hE10];exact a9_13
  have a10_4:E10 4 = .lit (.int .u64 (hi:Nat)) := by rw[hE10];rfl
  clear hE10;refine W.sq ?_;simp only[go_sem,a10_0,a10_1,a10_6,a10_7,a10_8,a10_9,a10_10,a10_11,a10_12,a10_13,a10_4,s5,az];refine W.env fun E11 hE11 => ?_;have a11_0:E11 0 = .lit (.int .u64 (x:Nat)) := by rw[hE11];exact a10_0
  have a11_1:E11 1 = .lit (.int .u64 (y:Nat)) := by rw[hE11];exact a10_1
  have a11_6:E11 6 = .lit (.int .u64 (x0:Nat)) := by rw[hE11];exact a10_6
  have a11_7:E11 7 = .lit (.int .u64 (x1:Nat)) := by rw[hE11];exact a10_7
  have a11_8:E11 8 = .lit (.int .u64 (y0:Nat)) := by rw[hE11];exact a10_8
  have a11_9:E11 9 = .lit (.int .u64 (y1:Nat)) := by rw[hE11];exact a10_9
  have a11_10:E11 10 = .lit (.int .u64 (w0:Nat)) := by rw[hE11];exact a10_10
  have a11_11:E11 11 = .lit (.int .u64 (t:Nat)) := by rw[hE11];exact a10_11
  have a11_12:E11 12 = .lit (.int .u64 (w1:Nat)) := by rw[hE11];exact a10_12
  have a11_13:E11 13 = .lit (.int .u64 ((t:Int) / 4294967296)) := by rw[hE11];exact a10_13
  have a11_4:E11 4 = .lit (.int .u64 (hi:Nat)) := by rw[hE11];exact a10_4
  have a11_5:E11 5 = .lit (.int .u64 ((x * y % 18446744073709551616:Nat):Int)) := by rw[hE11];rfl
  clear hE11;refine W.vs ?_;simp only[go_sem,a11_4,a11_5,az];exact aj.mk ZJ hK
def Nj (x y:Nat)(hx:x < 18446744073709551616)(hy:y < 18446744073709551616)(H:ZK)(K:ZQ -> ZK -> Prop)(hK:K (.ret (di (x * y))) H):ae prog G0 99 [.lit (.int .u64 x),.lit (.int .u64 y)] H K := by
  refine ae.X ⟨_,func99,rfl,rfl⟩ fun hcl => ?_;refine ae.st (n := 16) (rs := [.cell 4 173]) func99 ?_;simp only[go_sem,az];refine ak.X (Ni x y hx hy _ _ ⟨trivial,?_⟩);simp only[go_sem,az];refine aj.drop (v' := di (x * y)) aF hcl (.agg rfl fun i hi _ => ?_) hK
  match i,hi with
  |0,_ => exact .lit _
  |1,_ => exact .lit _
def zg (x y:Nat)(H:ZK)(K:ZQ -> ZK -> Prop)(hK:K (.ret (.lit (.bool (decide (x < y))))) H):ae prog G0 100 [di x,di y] H K := by
  refine ae.X ⟨_,func100,rfl,rfl⟩ fun hcl => ?_;obtain⟨a,ha⟩:∃a,a=x / 18446744073709551616 := ⟨_,rfl⟩
  obtain⟨b,hb⟩:∃b,b=x % 18446744073709551616 := ⟨_,rfl⟩
  obtain⟨c,hc⟩:∃c,c=y / 18446744073709551616 := ⟨_,rfl⟩
  obtain⟨d,hd⟩:∃d,d=y % 18446744073709551616 := ⟨_,rfl⟩
  have key:∀v:Bool,v=decide (x < y) -> aj prog G0 H K (.lit (.bool v)) (ext H [.J 0 173 [.lit (.int .u64 a),.lit (.int .u64 b)],.J 0 173 [.lit (.int .u64 c),.lit (.int .u64 d)]]) := fun v h => by
    subst h;exact aj.drop aF hcl (.lit _) hK
  unfold di;rw[<- ha,<- hb,<- hc,<- hd];refine ae.st (n := 24) (rs := [.tmp 4]) func100 ?_;by_cases h1:(a:Int) < c
  · simp only[go_sem,h1,mC,az];exact key _ (by rw[VD];omega)
  by_cases h2':a=c
  · subst h2';by_cases h3:(b:Int) < d
    · simp only[go_sem,h1,h3,mC,az];exact key _ (by rw[VD];omega)
    · simp only[go_sem,h1,h3,mC,az];exact key _ (by rw[V7];omega)
  · have h2:¬(a:Int)=c :=V;simp only[go_sem,h1,h2,mC,az];exact key _ (by rw[V7];omega)
section
variable {P:Program} {t e:TypeId} {x y:Operand} {k k':IntKind} {a b c d:Int}
def vj (n:Nat)(he:P.underlying e=some (.int k)):aP P (Op.equalIn (n + 1) e (.int k' a) (.int k' b))=some (a == b) := by
  unfold Op.equalIn;simp[underlying,program,he,aP,bind,Sem.bind,pure]
def yY (n:Nat)(ht:P.underlying t=some (.array 2 e))(he:P.underlying e=some (.int k))(hs:P.cellsOf e=1):
    aP P (Op.equalIn (n + 2) t (.agg #[.int k' a,.int k' b]) (.agg #[.int k' c,.int k' d]))=some (a == c && b == d) := by
  unfold Op.equalIn;have e1:∀ {α:Type} (f:TypeDesc -> Sem α),aP P (underlying t >>= f)=aP P (f (.array 2 e)) := fun f => pureRun_bind (by simp[underlying,program,ht,aP,bind,Sem.bind,pure]);have hinf:∃i,P.info? e=some i /\ i.size=1 := by
    obtain⟨i,hi⟩ := uu he;exact⟨i,hi,by simpa[Program.cellsOf,hi] using hs⟩
  obtain⟨i,hi,hi1⟩ := hinf;have e2:∀ {α:Type} (f:Nat -> Sem α),aP P (sizeOf e >>= f)=aP P (f 1) := fun f => pureRun_bind (by simp[sizeOf,typeInfo,program,hi,hi1,aP,bind,Sem.bind,pure]);have e3:∀ {α:Type} (cs:Array Value) (o:Nat) (v:Value) (f:Value -> Sem α),cs[o]? = some v -> aP P (part e cs o >>= f)=aP P (f v) := fun cs o v f h => pureRun_bind (by simp[part,isAgg,underlying,program,he,h,aP,bind,Sem.bind,pure]);have e4:∀ {α:Type} (p q:Int) (f:Bool -> Sem α),aP P (Op.equalIn (n + 1) e (.int k' p) (.int k' q) >>= f)=aP P (f (p == q)) := fun p q f => pureRun_bind (vj n he);rw[e1];dsimp only;rw[e2];simp only[Std.Legacy.Range.forIn_eq_forIn_range',Std.Legacy.Range.size,List.range',Y5,Zd];simp only[bind_assoc];rw[e3 _ _ (.int k' a) _ rfl,e3 _ _ (.int k' c) _ rfl,e4];by_cases h:(a == c)=true
  · rw[h];simp only[Bool.not_true,Bool.false_eq_true,if_false,pure_bind,bind_assoc];rw[e3 _ _ (.int k' b) _ rfl,e3 _ _ (.int k' d) _ rfl,e4];by_cases h2:(b == d)=true
    · rw[h2];rfl
    · rw[Xe]at h2;rw[h2];rfl
  · rw[Xe]at h;rw[h];rfl
def Cx (ht:P.underlying t=some (.array 2 e))(he:P.underlying e=some (.int k))(hs:P.cellsOf e=1)(hg:P.eqGuardType P.depth t=false):
    aU P .eql t x y (.agg [.lit (.int k' a),.lit (.int k' b)]) (.agg [.lit (.int k' c),.lit (.int k' d)])=some (.lit (.bool (a == c && b == d))) := by
  show (aP P (do eqGuard .eql t x y (.agg #[.int k' a,.int k' b]) (.agg #[.int k' c,.int k' d]);binOp .eql t (.agg #[.int k' a,.int k' b]) (.agg #[.int k' c,.int k' d]))).map _=_;have h0:aP P (eqGuard .eql t x y (.agg #[.int k' a,.int k' b]) (.agg #[.int k' c,.int k' d]))=some () := by
    simp[eqGuard,program,hg,aP,bind,Sem.bind,pure]
  have h1:binOp .eql t (.agg #[.int k' a,.int k' b]) (.agg #[.int k' c,.int k' d])=(Op.equalIn (9998 + 2) t (.agg #[.int k' a,.int k' b]) (.agg #[.int k' c,.int k' d]) >>= fun r => pure (Value.bool r)) := rfl;rw[pureRun_bind h0,h1,pureRun_bind (yY 9998 ht he hs)];rfl
end
def jP (neg:Bool)(n d:Nat):Option ZL := if n <= 4611686018427387903 /\ d <= 4611686018427387903 then some (qV (if neg=true then -(n:Int) else n) d) else none
def CS (o:Option ZL)(H:ZK)(K:ZQ -> ZK -> Prop):Prop := (∀v,o=some v -> K (.ret v) H) /\ (o=none -> ∀H',H.A <= H'.A -> K .panic H')
def vr:iZ prog 255=some [] := by kernel_rfl
def vw:(ZL.agg []).cU=some (.agg #[]) := rfl
def vz:aP prog (Instr.makeInterface 255 (.agg #[]))=some (.iface 255 (.agg #[])) := by kernel_rfl
def Nk (neg:Bool)(n d:Nat)(hn:n < 340282366920938463463374607431768211456)(hd:d < 340282366920938463463374607431768211456)(H:ZK)(K:ZQ -> ZK -> Prop)(hK:CS (jP neg n d) H K):
    ae prog G0 168 [.lit (.bool neg),di n,di d] H K := by
  refine ae.X ⟨_,func168,rfl,rfl⟩ fun hcl => ?_;refine ae.st (n := 43) (rs := [.cell 6 58]) func168 ?_;by_cases hf:n <= 4611686018427387903 /\ d <= 4611686018427387903
  · have e1:n / 18446744073709551616=0 :=V;have e2:d / 18446744073709551616=0 :=V;have e3:n % 18446744073709551616=n :=V;have e4:d % 18446744073709551616=d :=V;have h1:¬(4611686018427387903:Int) < (n:Int) :=V;have h2:¬(4611686018427387903:Int) < (d:Int) :=V;have w1 := Vd (n:Int) V;have w2 := Vd (d:Int) V;have w3 := Vd (0-(n:Int)) V;have w4:(0:Int)-(n:Int) = -(n:Int) :=V;have hk := hK.1 _ (by unfold jP;rw[Vh hf]);cases neg with
    |true =>
      simp only[go_sem,di,e1,e2,e3,e4,h1,h2,w1,w2,w3,az];rw[Vh rfl]at hk;rw[w4];exact aj.drop aF hcl (ri _ _) hk
    |false =>
      simp only[go_sem,di,e1,e2,e3,e4,h1,h2,w1,w2,w3,az];rw[Vg ZH]at hk;exact aj.drop aF hcl (ri _ _) hk
  · have hk := hK.2 (by unfold jP;rw[Vg hf]);by_cases a1:((n / 18446744073709551616:Nat):Int)=0
    · by_cases a2:(4611686018427387903:Int) < ((n % 18446744073709551616:Nat):Int)
      · simp only[go_sem,di,a1,a2,mC,vr,vw,vz,az];exact⟨⟨_,_,rfl⟩,_,iz.refl _ _,by simp[aW],hk _ (by simp[aW])⟩
      · by_cases a3:((d / 18446744073709551616:Nat):Int)=0
        · have a4:(4611686018427387903:Int) < ((d % 18446744073709551616:Nat):Int) :=V;simp only[go_sem,di,a1,a2,a3,a4,mC,vr,vw,vz,az];exact⟨⟨_,_,rfl⟩,_,iz.refl _ _,by simp[aW],hk _ (by simp[aW])⟩
        · simp only[go_sem,di,a1,a2,a3,mC,vr,vw,vz,az];exact⟨⟨_,_,rfl⟩,_,iz.refl _ _,by simp[aW],hk _ (by simp[aW])⟩
    · simp only[go_sem,di,a1,mC,vr,vw,vz,az];exact⟨⟨_,_,rfl⟩,_,iz.refl _ _,by simp[aW],hk _ (by simp[aW])⟩
end Go.Proofs.F01
namespace Go.Proofs.F01
open Go.Hx Tryz
variable {f:FuncId}{a b c d:Int}{b' d' nx p q u v:Nat}{S:Nat -> Prop}{o:Option ZL}{H:ZK}
def zj (a g:Nat):(a:Int).tdiv (g:Int)=((a / g:Nat):Int) := by
  rw[V1 V];exact(Yz _ _).symm
def vA (a:Int)(ha:-9223372036854775808 <= a /\ a <= 9223372036854775807)(H2:ZK)(K:ZQ -> ZK -> Prop)(h:K (.ret (.lit (.int .u64 (a.natAbs:Int)))) H2):ae prog G0 96 [.lit (.int .i64 a)] H2 K := CR a ha H2 K h
def vB (x y:Nat)(hx:x <= 4611686018427387903)(hy:y <= 4611686018427387903)(H2:ZK)(K:ZQ -> ZK -> Prop)(h:K (.ret (di (x * y))) H2):ae prog G0 99 [.lit (.int .u64 (x:Int)),.lit (.int .u64 (y:Int))] H2 K := Nj x y V V H2 K h
def vC {neg:Bool}{n d:Nat}{u:ZL}(h:jP neg n d=some u):∃x y,u=qV x y := by
  unfold jP at h;split at h
  · cases h;exact⟨_,_,rfl⟩
  · cases h
def CT (x y:Int):Z6 H (.agg [.lit (.int .i64 x),.lit (.int .i64 y)]) (qV x y) := .agg rfl fun i hi _ => match i,hi with
  |0,_ => .lit _
  |1,_ => .lit _
def CU (h:∀u,o=some u -> ∃x y,u=qV x y):∃x y e,tq tK o = .nc [.agg [.lit (.int .i64 x),.lit (.int .i64 y)],.lit (.int .i64 e)] := by
  cases o with
  |none => exact⟨0,0,6,rfl⟩
  |some u =>
    obtain⟨x,y,rfl⟩ := h u rfl;exact⟨x,y,0,rfl⟩
def vD (x y e:Int):Fz S H nx (.nc [.agg [.lit (.int .i64 x),.lit (.int .i64 y)],.lit (.int .i64 e)]) (.nc [.agg [.lit (.int .i64 x),.lit (.int .i64 y)],.lit (.int .i64 e)]) :=
  .nc rfl fun i hi _ => match i,hi with
    |0,_ => ri _ _
    |1,_ => .lit _
def vE (x y:Int):Below 0 (.agg [.lit (.int .i64 x),.lit (.int .i64 y)]) := .agg fun i h => match i,h with
  |0,_ => .lit _
  |1,_ => .lit _
def Nm (ho:∀u,o=some u -> ∃x y,u=qV x y)(hf:ae prog G0 f [qV a b,qV c d] cW (mK o)):
    ae prog G0 164 [.ni [.X f [] []] 0,.ni [.lit (.int .i64 a),.lit (.int .i64 b)] 0,.ni [.lit (.int .i64 c),.lit (.int .i64 d)] 0] cW (mK o) := by
  refine ae.X ⟨_,func164,rfl,rfl⟩ fun hcl => ?_;refine ae.st (n := 8) (rs := [.cell 3 58]) func164 ?_;simp only[go_sem,az];refine ak.X ((ae.sN (args := [qV a b,qV c d]) aF rfl (fun i hi _ => .plain (match i,hi with |0,_ => vE a b |1,_ => vE c d)) hf).mono ?_);rintro r H' ⟨rfl,rfl⟩;refine⟨trivial,?_⟩;cases o with
  |none => exact⟨_,iz.refl _ _,WK _,rfl⟩
  |some u =>
    obtain⟨x,y,rfl⟩ := ho u rfl;show opsV _ _ _ _ _ _ _;simp only[go_sem,qV,az];exact aj.mk (WK _) ⟨_,rfl,CT x y⟩
def mc (a b c d:Int)(o:Option ZL):ZL := if bt a b=0 /\ bt c d=0 then tq tK o else .nc [qV 0 0,.lit (.int .i64 5)]
def No (ra:(-9223372036854775808 <= a /\ a <= 9223372036854775807) /\ (-9223372036854775808 <= b /\ b <= 9223372036854775807))(rc:(-9223372036854775808 <= c /\ c <= 9223372036854775807) /\ (-9223372036854775808 <= d /\ d <= 9223372036854775807))
    (ho:∀u,o=some u -> ∃x y,u=qV x y) (hf:bt a b=0 -> bt c d=0 -> ae prog G0 f [qV a b,qV c d] cW (mK o)) (H:ZK) (K:ZQ -> ZK -> Prop) (hK:K (.ret (mc a b c d o)) H):
    ae prog G0 128 [qV a b,qV c d,.X f [] []] H K := by
  refine ae.X ⟨_,func128,rfl,rfl⟩ fun hcl => ?_;refine ae.st (n := 22) (rs := [.cell 6 58,.tmp 7]) func128 ?_;simp only[go_sem,qV,az];refine ak.X (tB a b ra.1 ra.2 _ _ ⟨trivial,?_⟩);by_cases h1:bt a b=0;rotate_left
  · unfold mc at hK;rw[Vg fun h => h1 h.1]at hK;simp only[go_sem,h1,mC,az];exact aj.drop aF hcl (vD 0 0 5) hK
  rw[h1];simp only[go_sem,az];refine ak.X (tB c d rc.1 rc.2 _ _ ⟨trivial,?_⟩);by_cases h2:bt c d=0;rotate_left
  · unfold mc at hK;rw[Vg fun h => h2 h.2]at hK;simp only[go_sem,h2,az];exact aj.drop aF hcl (vD 0 0 5) hK
  rw[h2];unfold mc at hK;rw[Vh ⟨h1,h2⟩]at hK;simp only[go_sem,az];obtain⟨H1,hH1⟩:∃H1,H1=ext H [.J 0 58 [.lit (.int .i64 a),.lit (.int .i64 b)],.J 0 58 [.lit (.int .i64 c),.lit (.int .i64 d)],.J 0 203 (ZL.X f [] []).cells,.J 0 58 [.lit (.int .i64 0),.lit (.int .i64 0)]] := ⟨_,rfl⟩
  have n1:H1.A=H.A + 4:=hH1▸rfl
  have k0:=dh hH1
  have k1:=gE hH1 1 rfl
  have k2:H1.get (H.A + 2)=some (.J 0 203 [.X f [] []]) := by rw[hH1];exact bM H _ 2 (ZG)
  rw[<- hH1];refine ak.X ((Qu aF 164 [.O (H.A + 2) 0 0,.O H.A 0 0,.O (H.A + 1) 0 0] [.ni [.X f [] []] 0,.ni [.lit (.int .i64 a),.lit (.int .i64 b)] 0,.ni [.lit (.int .i64 c),.lit (.int .i64 d)] 0] H1 o rfl (fun H2 hag i h h' => ?_) (fun u hu => ?_) (Nm ho (hf h1 h2))).mono ?_)
  · match i,h with
    |0,_ => exact .nN trivial ((hag _ V).trans k2) ZG rfl fun i hi _ => match i,hi with |0,_ => .X rfl rfl (fun i h _ => absurd h (Vt _)) (fun i h _ => absurd h (Vt _))
    |1,_ => exact .nN trivial ((hag _ V).trans k0) ZG rfl fun i hi _ => match i,hi with |0,_ => .lit _ |1,_ => .lit _
    |2,_ => exact .nN trivial ((hag _ V).trans k1) ZG rfl fun i hi _ => match i,hi with |0,_ => .lit _ |1,_ => .lit _
  · obtain⟨x,y,rfl⟩ := ho u hu;rfl
  · rintro r H' ⟨rfl,rfl⟩;refine⟨trivial,?_⟩;obtain⟨x,y,e,he⟩ := CU ho;rw[he]at hK ⊢;rw[hH1];simp only[go_sem,az];exact aj.drop aF hcl (vD x y e) hK
def Np (ho:∀u,o=some u -> ∃x y,u=qV x y):∃x y e,mc a b c d o = .nc [.agg [.lit (.int .i64 x),.lit (.int .i64 y)],.lit (.int .i64 e)] := by
  unfold mc;split
  · exact CU ho
  · exact⟨0,0,5,rfl⟩
def pG {n:Int}(h:bt n d=0):(-4611686018427387903 <= n /\ n <= 4611686018427387903) /\ (1 <= d /\ d <= 4611686018427387903) /\ Int.gcd n d=1 := by
  unfold bt kh at h;by_cases h2:d < 1 \/ d > 4611686018427387903 \/ n < -4611686018427387903 \/ n > 4611686018427387903
  · rw[Vh h2]at h;exact absurd h (ZH)
  · rw[Vg h2]at h;by_cases h3:Int.gcd n d ≠ 1
    · rw[Vh h3]at h;exact absurd h (ZH)
    · exact⟨V,V,V⟩
def rj {hi lo:Nat}(hl:lo < 18446744073709551616):di (hi * 18446744073709551616 + lo) = .agg [.lit (.int .u64 (hi:Int)),.lit (.int .u64 (lo:Int))] := by
  unfold di;have e1:(hi * 18446744073709551616 + lo) / 18446744073709551616=hi := by omega
  have e2:(hi * 18446744073709551616 + lo) % 18446744073709551616=lo := by omega
  rw[e1,e2]
def zk :Fz S H nx (.agg [.lit (.int .u64 a),.lit (.int .u64 b)]) (.agg [.lit (.int .u64 a),.lit (.int .u64 b)]) := .agg rfl fun i hi _ => match i,hi with
  |0,_ => .lit _
  |1,_ => .lit _
def vF (x:Nat)(hx:x < 18446744073709551616 * 18446744073709551616):∃hi lo:Nat,x=hi * 18446744073709551616 + lo /\ hi < 18446744073709551616 /\ lo < 18446744073709551616 := ⟨x / 18446744073709551616,x % 18446744073709551616,V,V,V⟩
def CV (a b c:Nat)(hc:c <= 1)(hu:u=(a + b + c) % 18446744073709551616)(hv:v=(a + b + c) / 18446744073709551616):fK [.lit (.int .u64 (a:Int)),.lit (.int .u64 (b:Int)),.lit (.int .u64 (c:Int))]=some (.nc [.lit (.int .u64 (u:Int)),.lit (.int .u64 (v:Int))]) := by
  have h:Nat.ble c 1=true := YD hc;simp only[fK,Int.toNat_natCast,h,cond_true,Zs,<- hu,<- hv]
def CW (a b c:Nat)(hc:c <= 1)(hu:u=(a + 18446744073709551616-b-c) % 18446744073709551616)(hv:v=bif Nat.blt a (b + c) then 1 else 0):vp [.lit (.int .u64 (a:Int)),.lit (.int .u64 (b:Int)),.lit (.int .u64 (c:Int))]=some (.nc [.lit (.int .u64 (u:Int)),.lit (.int .u64 (v:Int))]) := by
  have h:Nat.ble c 1=true := YD hc;simp only[vp,Int.toNat_natCast,h,cond_true,Zs,<- hu,<- hv]
def Nq (x y:Nat)(hxy:x + y < 18446744073709551616 * 18446744073709551616)(H:ZK)(K:ZQ -> ZK -> Prop)(hK:K (.ret (di (x + y))) H):ae prog G0 165 [di x,di y] H K := by
  refine ae.X ⟨_,func165,rfl,rfl⟩ fun hcl => ?_;obtain⟨h1,l1,rfl,b1,b2⟩ := vF x V;obtain⟨h2,l2,rfl,b3,b4⟩ := vF y V;obtain⟨u,hu⟩:∃u,u=(l1 + l2 + 0) % 18446744073709551616 := ⟨_,rfl⟩
  obtain⟨c,hc⟩:∃c,c=(l1 + l2 + 0) / 18446744073709551616 := ⟨_,rfl⟩
  obtain⟨v,hv⟩:∃v,v=h1 + h2 + c := ⟨_,rfl⟩
  have eq:h1 * 18446744073709551616 + l1 + (h2 * 18446744073709551616 + l2)=v * 18446744073709551616 + u := by omega
  have ul:u < 18446744073709551616 := by omega
  rw[eq,rj ul]at hK;rw[rj b2,rj b4];have k1 := CV l1 l2 0 ZH hu hc;have k2 := CV h1 h2 c V (u := v) (v := 0) V V;clear eq hu hc hv hxy;refine ae.st (n := 29) (rs := [.cell 4 173]) func165 ?_;simp only[go_sem,az];refine CP k1 ⟨trivial,?_⟩;simp only[go_sem,az];refine CP k2 ⟨trivial,?_⟩;simp only[go_sem,az];exact aj.drop aF hcl zk hK
def CX (x y:Nat)(hxy:y <= x)(hx:x < 18446744073709551616 * 18446744073709551616)(H:ZK)(K:ZQ -> ZK -> Prop)(hK:K (.ret (di (x-y))) H):ae prog G0 166 [di x,di y] H K := by
  refine ae.X ⟨_,func166,rfl,rfl⟩ fun hcl => ?_;obtain⟨h1,l1,rfl,b1,b2⟩ := vF x hx;obtain⟨h2,l2,rfl,b3,b4⟩ := vF y V;obtain⟨c,hc⟩:∃c:Nat,c=bif Nat.blt l1 (l2 + 0) then 1 else 0 := ⟨_,rfl⟩
  have hc2:(l1 < l2 /\ c=1) \/ (l2 <= l1 /\ c=0) := by
    by_cases h:l1 < l2
    · exact .inl ⟨h,by rw[hc,show Nat.blt l1 (l2 + 0)=true from YD h];rfl⟩
    · exact .inr ⟨V,by rw[hc,show Nat.blt l1 (l2 + 0)=false from Bool.eq_false_iff.2 fun h' => h (X5 h')];rfl⟩
  obtain⟨u,hu⟩:∃u,u=(l1 + 18446744073709551616-l2-0) % 18446744073709551616 := ⟨_,rfl⟩
  obtain⟨v,hv⟩:∃v,v=h1-h2-c := ⟨_,rfl⟩
  have ul:u < 18446744073709551616 := by omega
  have hle:h2 + c <= h1 := by rcases hc2 with ⟨_,h⟩ |⟨_,h⟩ <;> subst h <;> omega
  have eq:h1 * 18446744073709551616 + l1-(h2 * 18446744073709551616 + l2)=v * 18446744073709551616 + u := by
    rcases hc2 with ⟨_,h⟩ |⟨_,h⟩ <;> subst h <;> omega
  rw[eq,rj ul]at hK;rw[rj b2,rj b4];have k1 := CW l1 l2 0 ZH hu hc;have hb:Nat.blt h1 (h2 + c)=false := Bool.eq_false_iff.2 fun h' => by
    have := X5 h';omega
  have k2 := CW h1 h2 c V (u := v) (v := 0) V (by rw[hb];rfl);clear eq hu hc hv hxy hx;refine ae.st (n := 29) (rs := [.cell 4 173]) func166 ?_;simp only[go_sem,az];refine CQ k1 ⟨trivial,?_⟩;simp only[go_sem,az];refine CQ k2 ⟨trivial,?_⟩;simp only[go_sem,az];exact aj.drop aF hcl zk hK
def CY (lo y:Nat)(hy:y ≠ 0)(hl:lo < 18446744073709551616)(hyW:y < 18446744073709551616)(H:ZK)(K:ZQ -> ZK -> Prop)
    (hK:K (.ret (.nc [.lit (.int .u64 ((lo / y:Nat):Int)),.lit (.int .u64 ((lo % y:Nat):Int))])) H):ae prog G0 187 [.lit (.int .u64 0),.lit (.int .u64 (lo:Int)),.lit (.int .u64 (y:Int))] H K := by
  refine ae.X ⟨_,func187,rfl,rfl⟩ fun hcl => ?_;have q1:(lo:Int).tdiv (y:Int)=((lo / y:Nat):Int) := by rw[V1 (Int.natCast_nonneg _)];rfl
  have q2:(lo:Int).tmod (y:Int)=((lo % y:Nat):Int) := by rw[VV (Int.natCast_nonneg _)];rfl
  have l1:lo / y <= lo := WO _ _;have l2:lo % y <= lo := Nat.mod_le _ _;have n1:¬(y:Int)=0 := by omega
  have n2:(0:Int) < (y:Int) := by omega
  have n3:¬(y:Int) <= 0 := by omega
  generalize lo / y=q at *
  generalize lo % y=r at *
  have w1 := VK (q:Int) V;have w2 := VK (r:Int) V;refine ae.st (n := 135) (rs := [.tmp 6,.tmp 7]) func187 ?_;simp only[go_sem,n1,n2,n3,az];refine W.dr 7 [0,0,3,0,0,24,7] mixed ?_;simp only[go_sem,q1,q2,w1,w2,n1,n2,n3,az];exact aj.bB aF hcl (.refl _) (.nc rfl fun i hi _ => match i,hi with |0,_ => .lit _ |1,_ => .lit _) hK
def Nr (lo y:Nat)(hy:y ≠ 0)(hl:lo < 18446744073709551616)(hyW:y < 18446744073709551616)(H:ZK)(K:ZQ -> ZK -> Prop)
    (hK:K (.ret (.lit (.int .u64 ((lo % y:Nat):Int)))) H):ae prog G0 167 [.lit (.int .u64 0),.lit (.int .u64 (lo:Int)),.lit (.int .u64 (y:Int))] H K := by
  refine ae.X ⟨_,func167,rfl,rfl⟩ fun hcl => ?_;have q2:(0:Int).tmod (y:Int)=0 := Int.zero_tmod _;have n1:¬(y:Int)=0 := by omega
  refine ae.st (n := 19) (rs := [.tmp 6]) func167 ?_;simp only[go_sem,q2,n1,az];refine ak.X (CY lo y hy hl hyW _ _ ⟨trivial,?_⟩);simp only[go_sem,az];exact aj.bB aF hcl (.refl _) (.lit _) hK
def Ns (x d:Nat)(hx:x < 18446744073709551616)(hd:d ≠ 0)(hdW:d < 18446744073709551616)(H:ZK)(K:ZQ -> ZK -> Prop)(hK:K (.ret (.agg [.lit (.int .u64 0),.lit (.int .u64 ((x / d:Nat):Int))])) H):
    ae prog G0 169 [.agg [.lit (.int .u64 0),.lit (.int .u64 (x:Int))],.lit (.int .u64 (d:Int))] H K := by
  refine ae.X ⟨_,func169,rfl,rfl⟩ fun hcl => ?_;have q1:(0:Int).tdiv (d:Int)=0 := Int.zero_tdiv _;have q2:(0:Int).tmod (d:Int)=0 := Int.zero_tmod _;have n1:¬(d:Int)=0 := by omega
  have dv := CY x d hd hx hdW;generalize x / d=q at *
  generalize x % d=r at *
  refine ae.st (n := 24) (rs := [.cell 4 173]) func169 ?_;simp only[go_sem,az];refine W.dr 12 [0,1,0,7,0,16,0,127,255,511,511,1023] mixed ?_;simp only[go_sem,q2,n1,az];refine⟨_,[],aY.pure fun H2 => dv H2 _ ⟨rfl,rfl⟩,?_⟩;simp only[go_sem,q1,n1,az];exact aj.drop aF hcl zk hK
def Nt {g T:Nat}(h1:Nat.Coprime T b')(h2:Nat.Coprime T d')(hg:0 < g):
    Nat.gcd (g * T) ((g * b') * (g * d'))=g * Nat.gcd T g /\ g * T / (g * Nat.gcd T g)=T / Nat.gcd T g /\ (g * b') * (g * d') / (g * Nat.gcd T g)=b' * (g * d' / Nat.gcd T g) := by
  have e:(g * b') * (g * d')=g * (b' * (d' * g)) := by ac_rfl
  have k:Nat.gcd T (b' * (d' * g))=Nat.gcd T g := by
    rw[Nat.Coprime.gcd_mul_left_cancel_right _ (Nat.Coprime.symm h1),Nat.Coprime.gcd_mul_left_cancel_right _ (Nat.Coprime.symm h2)]
  refine⟨?_,?_,?_⟩
  · rw[e,Nat.gcd_mul_left,k]
  · rw[Yb _ _ hg]
  · rw[e,Yb _ _ hg,WL d' g];exact Nat.mul_div_assoc _ (YQ (WZ T g) (Nat.dvd_mul_right g d'))
def zm {z p q b':Nat}(h:Nat.Coprime p b')(e:∀k,k ∣ z -> k ∣ b' -> k ∣ p):Nat.Coprime z b' := by
  have hd:Nat.gcd z b' ∣ Nat.gcd p b' := Nat.dvd_gcd (e _ (Yx z b') (WZ z b')) (WZ z b');rw[show Nat.gcd p b'=1 from h]at hd;exact Nat.dvd_one.1 hd
def CZ (h:Nat.Coprime p b'):Nat.Coprime (p + q * b') b' := zm (q := q) h fun k h1 h2 => (Nat.dvd_add_left (YQ h2 (YZ b' q))).1 h1
def C0 {z:Nat}(h:Nat.Coprime p b')(e:p=z + q * b'):Nat.Coprime z b' := zm (q := q) h fun k h1 h2 => by rw[e];exact Nat.dvd_add h1 (YQ h2 (YZ b' q))
def C2 {z:Nat}(h:Nat.Coprime p b')(e:q * b'=z + p):Nat.Coprime z b' := zm (q := q) h fun k h1 h2 => (Nat.dvd_add_right h1).1 (by rw[<- e];exact YQ h2 (YZ b' q))
def Nu {A C T:Nat}(hA:Nat.Coprime A b')(hC:Nat.Coprime C d')(hbd:Nat.Coprime b' d')(hT:T=A * d' + C * b' \/ A * d'=T + C * b' \/ C * b'=T + A * d'):Nat.Coprime T b' /\ Nat.Coprime T d' := by
  have x1:Nat.Coprime (A * d') b' := Nat.Coprime.mul_left hA hbd.symm;have y1:Nat.Coprime (C * b') d' := Nat.Coprime.mul_left hC hbd;rcases hT with hT |hT |hT
  · exact⟨by rw[hT];exact CZ x1,by rw[hT,Nat.add_comm];exact CZ y1⟩
  · exact⟨C0 x1 hT,C2 y1 hT⟩
  · exact⟨C2 x1 hT,C0 y1 hT⟩
def Nv {A B C D g T TR:Nat}(hAB:Nat.gcd A B=1)(hCD:Nat.gcd C D=1)(hB:0 < B)(hg:g=Nat.gcd B D)(hb':b'=B / g)(hd':d'=D / g)
    (hT:T=A * d' + C * b' \/ A * d'=T + C * b' \/ C * b'=T + A * d') (hTR:TR=g * T):
    TR / Nat.gcd TR (B * D)=T / Nat.gcd T g /\ B * D / Nat.gcd TR (B * D)=b' * (D / Nat.gcd T g) := by
  have pg:0 < g := by rw[hg];exact Nat.gcd_pos_of_pos_left _ hB
  have eB:B=g * b' := by rw[hb',Ye (by rw[hg];exact Yx B D)]
  have eD:D=g * d' := by rw[hd',Ye (by rw[hg];exact WZ B D)]
  have k:Nat.Coprime b' d' := by rw[hb',hd',hg];exact Nat.coprime_div_gcd_div_gcd (by rw[<- hg];exact pg)
  have kA:Nat.Coprime A b' := Nat.Coprime.coprime_dvd_right ⟨g,by rw[eB,WL]⟩ hAB;have kC:Nat.Coprime C d' := Nat.Coprime.coprime_dvd_right ⟨g,by rw[eD,WL]⟩ hCD;obtain⟨c1,c2⟩ := Nu kA kC k hT;obtain⟨e1,e2,e3⟩ := Nt c1 c2 pg;clear hb' hd' hg;subst hTR;rw[eB,eD,e1];exact⟨e2,e3⟩
def jc (a b d:Int):Nat := a.natAbs * (d.natAbs / Int.gcd b d)
def jd (b c d:Int):Nat := c.natAbs * (b.natAbs / Int.gcd b d)
def me (a b c d:Int):Nat := if (a < 0 ↔ c < 0) then jc a b d + jd b c d else if jc a b d < jd b c d then jd b c d-jc a b d else jc a b d-jd b c d
def zn (a b c d:Int):Bool := if (a < 0 ↔ c < 0) then decide (a < 0) else if jc a b d < jd b c d then !decide (a < 0) else decide (a < 0)
def mf (a b c d:Int):Option ZL := jP (zn a b c d) (me a b c d / Nat.gcd (me a b c d) (Int.gcd b d)) (b.natAbs / Int.gcd b d * (d.natAbs / Nat.gcd (me a b c d) (Int.gcd b d)))
def Nw (a b c d:Int)(ha:-4611686018427387903 <= a /\ a <= 4611686018427387903)(hb:1 <= b /\ b <= 4611686018427387903)(hc:-4611686018427387903 <= c /\ c <= 4611686018427387903)(hd:1 <= d /\ d <= 4611686018427387903)
    (hsm:me a b c d < 18446744073709551616) (H:ZK) (K:ZQ -> ZK -> Prop) (hK:CS (mf a b c d) H K):ae prog G0 130 [qV a b,qV c d] H K := by
  refine ae.X ⟨_,func130,rfl,rfl⟩ fun hcl => ?_;have wb := VK b V;have wd := VK d V;have g0:0 < Int.gcd b d := W8 _ V;obtain⟨B,hB⟩:∃B:Nat,(B:Int)=b := ⟨b.natAbs,V⟩
  obtain⟨D,hD⟩:∃D:Nat,(D:Int)=d := ⟨d.natAbs,V⟩
  have hBn:b.natAbs=B := by omega
  have hDn:d.natAbs=D := by omega
  have hgB:Int.gcd b d <= B := by rw[<- hBn];exact Yv V (Yx _ _)
  unfold mf at hK;have eX:jc a b d=a.natAbs * (D / Int.gcd b d) := by unfold jc;rw[hDn]
  have eY:jd b c d=c.natAbs * (B / Int.gcd b d) := by unfold jd;rw[hBn]
  have eT:me a b c d=if (a < 0 ↔ c < 0) then jc a b d + jd b c d else if jc a b d < jd b c d then jd b c d-jc a b d else jc a b d-jd b c d := rfl
  have eS:zn a b c d=if (a < 0 ↔ c < 0) then decide (a < 0) else if jc a b d < jd b c d then !decide (a < 0) else decide (a < 0) := rfl
  rw[hBn,hDn]at hK;have cm1 := fun H2 K h => zf b d V V H2 K h;generalize me a b c d=T at *
  generalize zn a b c d=S at *
  generalize jc a b d=X at *
  generalize jd b c d=Y at *
  generalize Int.gcd b d=g at *
  have gne:¬(g:Int)=0 := by omega
  have q1 := zj D g;have q2 := zj B g;have b1:D / g <= D := WO _ _;have b2:B / g <= B := WO _ _;have bX:X <= 4611686018427387903 * 4611686018427387903 := by rw[eX];exact XA V (V)
  have bY:Y <= 4611686018427387903 * 4611686018427387903 := by rw[eY];exact XA V (V)
  obtain⟨xh,exh⟩:∃z,z=X / 18446744073709551616 := ⟨_,rfl⟩
  obtain⟨xl,exl⟩:∃z,z=X % 18446744073709551616 := ⟨_,rfl⟩
  obtain⟨yh,eyh⟩:∃z,z=Y / 18446744073709551616 := ⟨_,rfl⟩
  obtain⟨yl,eyl⟩:∃z,z=Y % 18446744073709551616 := ⟨_,rfl⟩
  obtain⟨th,eth⟩:∃z,z=T / 18446744073709551616 := ⟨_,rfl⟩
  obtain⟨tl,etl⟩:∃z,z=T % 18446744073709551616 := ⟨_,rfl⟩
  have wX:di X = .agg [.lit (.int .u64 (xh:Int)),.lit (.int .u64 (xl:Int))] := by unfold di;rw[<- exh,<- exl]
  have wY:di Y = .agg [.lit (.int .u64 (yh:Int)),.lit (.int .u64 (yl:Int))] := by unfold di;rw[<- eyh,<- eyl]
  have wT:di T = .agg [.lit (.int .u64 0),.lit (.int .u64 (tl:Int))] := by unfold di;rw[<- eth,<- etl,show th=0 by omega];rfl
  have eth0:th=0 := by omega
  have eT2:T=tl := by omega
  have btl:tl < 18446744073709551616 := by omega
  clear exh exl eyh eyl eth etl;subst eth0;have tx:∀H2 K,K (.ret (.agg [.lit (.int .u64 (xh:Int)),.lit (.int .u64 (xl:Int))])) H2 -> ae prog G0 99 [.lit (.int .u64 (a.natAbs:Int)),.lit (.int .u64 ((D / g:Nat):Int))] H2 K := fun H2 K h => vB _ _ V V H2 K (by rw[<- eX,wX];exact h);have ty:∀H2 K,K (.ret (.agg [.lit (.int .u64 (yh:Int)),.lit (.int .u64 (yl:Int))])) H2 -> ae prog G0 99 [.lit (.int .u64 (c.natAbs:Int)),.lit (.int .u64 ((B / g:Nat):Int))] H2 K := fun H2 K h => vB _ _ V V H2 K (by rw[<- eY,wY];exact h);clear eX eY;generalize D / g=p1 at *
  generalize B / g=p2 at *
  have u1 := VK (p1:Int) V;have u2 := VK (p2:Int) V;have u3 := VK (g:Int) V;rw[hD]at q1;rw[hB]at q2;have ls:∀H2 K,K (.ret (.lit (.bool (decide (X < Y))))) H2 -> ae prog G0 100 [.agg [.lit (.int .u64 (xh:Int)),.lit (.int .u64 (xl:Int))],.agg [.lit (.int .u64 (yh:Int)),.lit (.int .u64 (yl:Int))]] H2 K := fun H2 K h => by rw[<- wX,<- wY];exact zg X Y H2 K h
  have ps:(a < 0 ↔ c < 0) -> ∀H2 K,K (.ret (.agg [.lit (.int .u64 0),.lit (.int .u64 (tl:Int))])) H2 -> ae prog G0 165 [.agg [.lit (.int .u64 (xh:Int)),.lit (.int .u64 (xl:Int))],.agg [.lit (.int .u64 (yh:Int)),.lit (.int .u64 (yl:Int))]] H2 K := fun h0 H2 K h => by
    rw[Vh h0]at eT;rw[<- wX,<- wY];exact Nq X Y V H2 K (by rw[<- eT,wT];exact h)
  have m1:¬(a < 0 ↔ c < 0) -> X < Y -> ∀H2 K,K (.ret (.agg [.lit (.int .u64 0),.lit (.int .u64 (tl:Int))])) H2 -> ae prog G0 166 [.agg [.lit (.int .u64 (yh:Int)),.lit (.int .u64 (yl:Int))],.agg [.lit (.int .u64 (xh:Int)),.lit (.int .u64 (xl:Int))]] H2 K := fun h0 h1 H2 K h => by
    rw[Vg h0,Vh h1]at eT;rw[<- wX,<- wY];exact CX Y X V V H2 K (by rw[<- eT,wT];exact h)
  have m2:¬(a < 0 ↔ c < 0) -> ¬X < Y -> ∀H2 K,K (.ret (.agg [.lit (.int .u64 0),.lit (.int .u64 (tl:Int))])) H2 -> ae prog G0 166 [.agg [.lit (.int .u64 (xh:Int)),.lit (.int .u64 (xl:Int))],.agg [.lit (.int .u64 (yh:Int)),.lit (.int .u64 (yl:Int))]] H2 K := fun h0 h1 H2 K h => by
    rw[Vg h0,Vg h1]at eT;rw[<- wX,<- wY];exact CX X Y V V H2 K (by rw[<- eT,wT];exact h)
  have bT:T < 18446744073709551616 * 18446744073709551616 := by
    rw[eT];split
    · omega
    · split <;> omega
  have hh0:0 < Nat.gcd T g := Zf _ g0;have hhg:Nat.gcd T g <= g := Yv g0 (WZ _ _);have e9:Nat.gcd (T % g) g=Nat.gcd T g := by rw[<- Y3,XV]
  obtain⟨rr,err⟩:∃z,z=T % g := ⟨_,rfl⟩
  have rm:∀H2 K,K (.ret (.lit (.int .u64 (rr:Int)))) H2 -> ae prog G0 167 [.lit (.int .u64 0),.lit (.int .u64 (tl:Int)),.lit (.int .u64 (g:Int))] H2 K := fun H2 K h => Nr tl g V btl V H2 K (by rw[<- eT2,<- err];exact h);have cm2:∀H2 K,K (.ret (.lit (.int .u64 ((Nat.gcd T g:Nat):Int)))) H2 -> ae prog G0 95 [.lit (.int .u64 (rr:Int)),.lit (.int .u64 (g:Int))] H2 K := fun H2 K h => zf _ _ V V H2 K (by
    have:Int.gcd (rr:Int) (g:Int)=Nat.gcd T g :=(by rw[Zj,err,e9]);rw[this];exact h)
  have ov:∀h:Nat,h ≠ 0 -> h < 18446744073709551616 -> ∀H2 K,K (.ret (.agg [.lit (.int .u64 0),.lit (.int .u64 ((T / h:Nat):Int))])) H2 -> ae prog G0 169 [.agg [.lit (.int .u64 0),.lit (.int .u64 (tl:Int))],.lit (.int .u64 (h:Int))] H2 K := fun h h1 h2 H2 K hk => Ns tl h btl h1 h2 H2 K (by rw[<- eT2];exact hk);generalize Nat.gcd T g=h at *
  have q3 := zj D h;have b3:D / h <= D := WO _ _;have b4:T / h <= T := WO _ _;have ov1 := ov h V V;have hne:¬(h:Int)=0 := by omega
  rw[hD]at q3;clear ov err e9 eT2;generalize D / h=p3 at *
  generalize T / h=T2 at *
  have u4 := VK (p3:Int) V;have bR:p2 * p3 <= 4611686018427387903 * 4611686018427387903 := XA V V;have ft := Nk S T2 (p2 * p3) V V;have tm := vB p2 p3 V V;obtain⟨zh,ezh⟩:∃z,z=T2 / 18446744073709551616 := ⟨_,rfl⟩
  obtain⟨zl,ezl⟩:∃z,z=T2 % 18446744073709551616 := ⟨_,rfl⟩
  have wZ:di T2 = .agg [.lit (.int .u64 (zh:Int)),.lit (.int .u64 (zl:Int))] := by unfold di;rw[<- ezh,<- ezl]
  obtain⟨R,eR⟩:∃z,z=p2 * p3 := ⟨_,rfl⟩
  rw[<- eR]at ft tm hK;obtain⟨rh,erh⟩:∃z,z=R / 18446744073709551616 := ⟨_,rfl⟩
  obtain⟨rl,erl⟩:∃z,z=R % 18446744073709551616 := ⟨_,rfl⟩
  have wR:di R = .agg [.lit (.int .u64 (rh:Int)),.lit (.int .u64 (rl:Int))] := by unfold di;rw[<- erh,<- erl]
  have ezh0:zh=0 := by omega
  have ezl2:zl=T2 := by omega
  rw[wR]at tm;rw[wZ,wR]at ft;have fO:∀v,jP S T2 R=some v -> ∃x y,v=qV x y := fun v hv => vC hv;generalize jP S T2 R=O at *
  subst ezh0;rw[<- ezl2]at ov1;clear ezh ezl ezl2 eR erh erl wX wY wZ wR wT bR bT;refine ae.sw (n := 85) (rs := [.cell 4 58]) func130 ?_;refine W.sq ?_;simp only[go_sem,qV,az];refine W.sq ?_;simp only[go_sem,wb,wd,az];refine ak.X (cm1 _ _ ⟨trivial,?_⟩);simp only[go_sem,az];refine W.seq ?_;refine W.dr 20 [0,1,3,0,8,24,0,120,255,0,512,2047,0,4096,12288,0,61440,131071,0,0] mixed ?_;simp only[go_sem,wb,wd,az];refine⟨_,[],aY.pure fun H2 => vA a V H2 _ ⟨rfl,rfl⟩,?_⟩;simp only[go_sem,wd,gne,q1,u1,az];refine⟨_,[],aY.pure fun H2 => tx H2 _ ⟨rfl,rfl⟩,?_⟩;simp only[go_sem,az];refine⟨_,[],aY.pure fun H2 => vA c V H2 _ ⟨rfl,rfl⟩,?_⟩;simp only[go_sem,wb,gne,q2,u2,az];refine⟨_,[],aY.pure fun H2 => ty H2 _ ⟨rfl,rfl⟩,?_⟩;simp only[go_sem,az];refine⟨by repeat' (first |refine And.intro ?_ ?_ |(intro x hx;omega)),?_⟩;refine⟨by repeat' (first |refine And.intro ?_ ?_ |(intro x hx;omega)),?_⟩;have n4:H.A + 3 + 1=H.A + 4 := rfl;simp only[go_sem,ee,List.cons_append,List.nil_append,n4,az];refine W.env fun E hE => ?_;have a2:E 2 = .O H.A 0 0 := by rw[hE];rfl
  have a3:E 3 = .O (H.A + 1) 0 0 := by rw[hE];rfl
  have a4:E 4 = .O (H.A + 2) 0 0 := by rw[hE];rfl
  have a5:E 5 = .lit (.int .u64 (g:Int)) := by rw[hE];rfl
  have a6:E 6 = .O (H.A + 3) 0 0 := by rw[hE];rfl
  have a7:E 7 = .O (H.A + 4) 0 0 := by rw[hE];rfl
  clear hE;refine W.sq ?_;simp only[go_sem,a2,a3,a4,a5,a6,a7,ee,List.cons_append,List.nil_append,az];refine W.env fun F hF => ?_;have b2:F 2 = .O H.A 0 0 := by rw[hF];exact a2
  have b3:F 3 = .O (H.A + 1) 0 0 := by rw[hF];exact a3
  have b4:F 4 = .O (H.A + 2) 0 0 := by rw[hF];exact a4
  have b5:F 5 = .lit (.int .u64 (g:Int)) := by rw[hF];exact a5
  have b6:F 6 = .O (H.A + 3) 0 0 := by rw[hF];exact a6
  have b7:F 7 = .O (H.A + 4) 0 0 := by rw[hF];exact a7
  have b8:F 8 = .lit (.bool (decide (a < 0))) := by rw[hF];rfl
  have b9:F 9 = .O (H.A + 5) 0 0 := by rw[hF];rfl
  clear hF a2 a3 a4 a5 a6 a7;refine W.tt (fun s' => s'.H=ext H [.J 0 58 [.lit (.int .i64 a),.lit (.int .i64 b)],.J 0 58 [.lit (.int .i64 c),.lit (.int .i64 d)],.J 0 58 [.lit (.int .i64 0),.lit (.int .i64 0)],.J 0 173 [.lit (.int .u64 (xh:Int)),.lit (.int .u64 (xl:Int))],.J 0 173 [.lit (.int .u64 (yh:Int)),.lit (.int .u64 (yl:Int))],.J 0 173 [.lit (.int .u64 0),.lit (.int .u64 (tl:Int))]] /\ s'.ρ 2 = .O H.A 0 0 /\ s'.ρ 3 = .O (H.A + 1) 0 0 /\ s'.ρ 4 = .O (H.A + 2) 0 0 /\ s'.ρ 5 = .lit (.int .u64 (g:Int)) /\ s'.ρ 8 = .lit (.bool S) /\ s'.ρ 9 = .O (H.A + 5) 0 0) ?_ ?_
  · refine W.block ?_;refine W.vs ?_;by_cases hs:a < 0 ↔ c < 0
    · have e1:(decide (a < 0) == decide (c < 0))=true :=(by simp[hs]);rw[Vh hs]at eS;simp only[go_sem,b2,b3,b4,b5,b6,b7,b8,b9,mR Tryz.underlying4,e1,az];refine ak.X (ps hs _ _ ⟨trivial,?_⟩);simp only[go_sem,b2,b3,b4,b5,b6,b7,b8,b9,eS,az]
    · have e1 : (decide (a < 0) == decide (c < 0)) = false := by
        by_cases q1:a < 0 <;> by_cases q2:c < 0 <;> simp[q1,q2]at hs ⊢
      rw[Vg hs]at eS;simp only[go_sem,b2,b3,b4,b5,b6,b7,b8,b9,mR Tryz.underlying4,e1,az];refine ak.X (ls _ _ ⟨trivial,?_⟩);by_cases hl:X < Y
      · rw[Vh hl]at eS;rw[VD hl];simp only[go_sem,b2,b3,b4,b5,b6,b7,b8,b9,az];refine ak.X (m1 hs hl _ _ ⟨trivial,?_⟩);simp only[go_sem,b2,b3,b4,b5,b6,b7,b8,b9,eS,az]
      · rw[Vg hl]at eS;rw[V7 hl];simp only[go_sem,b2,b3,b4,b5,b6,b7,b8,b9,az];refine ak.X (m2 hs hl _ _ ⟨trivial,?_⟩);simp only[go_sem,b2,b3,b4,b5,b6,b7,b8,b9,eS,az]
  rintro⟨E2,H2⟩ ⟨eH,a2,a3,a4,a5,a8,a9⟩;simp only at eH a2 a3 a4 a5 a8 a9;subst eH;clear b2 b3 b4 b5 b6 b7 b8 b9 ps m1 m2 ls eT eS;refine W.sq ?_;simp only[go_sem,a2,a3,a4,a5,a8,a9,az];refine ak.X (rm _ _ ⟨trivial,?_⟩);simp only[go_sem,a2,a3,a4,a5,a8,a9,az];refine ak.X (cm2 _ _ ⟨trivial,?_⟩);simp only[go_sem,a2,a3,a4,a5,a8,a9,az];refine W.env fun F hF => ?_;have b2:F 2 = .O H.A 0 0 := by rw[hF];exact a2
  have b3:F 3 = .O (H.A + 1) 0 0 := by rw[hF];exact a3
  have b4:F 4 = .O (H.A + 2) 0 0 := by rw[hF];exact a4
  have b5:F 5 = .lit (.int .u64 (g:Int)) := by rw[hF];exact a5
  have b8:F 8 = .lit (.bool S) := by rw[hF];exact a8
  have b9:F 9 = .O (H.A + 5) 0 0 := by rw[hF];exact a9
  have b10:F 10 = .lit (.int .u64 (h:Int)) := by rw[hF];rfl
  clear hF a2 a3 a4 a5 a8 a9;refine W.seq ?_;refine W.dr 15 [0,0,0,6,0,16,48,0,240,0,512,1536,0,7680,16382] mixed ?_;simp only[go_sem,b2,b3,b4,b5,b8,b9,b10,az];refine⟨_,[],aY.pure fun H2 => ov1 H2 _ ⟨rfl,rfl⟩,?_⟩;simp only[go_sem,b2,b3,b4,b5,b8,b9,b10,wb,wd,q2,u2,q3,u4,gne,hne,az];refine⟨_,[],aY.pure fun H2 => tm H2 _ ⟨rfl,rfl⟩,?_⟩;refine ak.X (ft _ _ ⟨fun v hv => ⟨trivial,?_⟩,fun ho H' hn => ⟨trivial,?_⟩⟩)
  · have hk := hK.1 v hv;obtain⟨x,y,rfl⟩ := fO v hv;simp only[go_sem,b2,b3,b4,b5,b8,b9,b10,qV,az];refine W.vs ?_;simp only[go_sem,b4,az];exact aj.drop aF hcl (ri _ _) hk
  · simp only[aW,List.length_cons,List.length_nil]at hn;exact⟨H',iz.refl _ _,V,hK.2 ho H' V⟩
def C3 (h:bt a b=0):Nat.gcd a.natAbs b.natAbs=1 := by
  unfold bt at h;split at h
  · exact absurd h (ZH)
  · split at h
    · exact absurd h (ZH)
    · rename_i h2;exact Classical.not_not.1 h2
def Nx (a b c d:Int)(ha:-4611686018427387903 <= a /\ a <= 4611686018427387903)(hb:1 <= b /\ b <= 4611686018427387903)(hc:-4611686018427387903 <= c /\ c <= 4611686018427387903)(hd:1 <= d /\ d <= 4611686018427387903)(hsm:me a b (-c) d < 18446744073709551616):
    ae prog G0 129 [qV a b,qV c d] cW (mK (mf a b (-c) d)) := by
  refine ae.X ⟨_,func129,rfl,rfl⟩ fun hcl => ?_;have w1 := Vd (-c) V;have e1:0-c = -c := by omega
  refine ae.st (n := 13) (rs := [.cell 4 58]) func129 ?_;simp only[go_sem,qV,w1,e1,az];refine ak.X (Nw a b (-c) d ha hb V hd hsm _ _ ⟨fun v hv => ⟨trivial,?_⟩,fun ho H' hh => ⟨trivial,?_⟩⟩)
  · obtain⟨x,y,rfl⟩ := vC hv;rw[hv];simp only[go_sem,qV,az];exact aj.mk (WK _) ⟨_,rfl,CT x y⟩
  · rw[ho];exact⟨H',iz.refl _ _,WK _,rfl⟩
def Ny (a b c d:Int)(ra:(-9223372036854775808 <= a /\ a <= 9223372036854775807) /\ (-9223372036854775808 <= b /\ b <= 9223372036854775807))(rc:(-9223372036854775808 <= c /\ c <= 9223372036854775807) /\ (-9223372036854775808 <= d /\ d <= 9223372036854775807))
    (hsm:me a b (-c) d < 18446744073709551616) (H:ZK) (K:ZQ -> ZK -> Prop) (hK:K (.ret (mc a b c d (mf a b (-c) d))) H):ae prog G0 92 [qV a b,qV c d] H K := by
  refine ae.X ⟨_,func92,rfl,rfl⟩ fun hcl => ?_;refine ae.st (n := 11) (rs := [.cell 4 58,.tmp 5]) func92 ?_;simp only[go_sem,qV,az];refine ak.X (No (a := a) (b := b) (c := c) (d := d) (o := mf a b (-c) d) ra rc (fun u hu => vC hu) (fun h1 h2 => ?_) _ _ ⟨trivial,?_⟩)
  · obtain⟨p1,p2,_⟩ := pG h1;obtain⟨p3,p4,_⟩ := pG h2;exact Nx a b c d p1 p2 p3 p4 hsm
  · obtain⟨x,y,e,he⟩ := Np (a := a) (b := b) (c := c) (d := d) (o := mf a b (-c) d) fun u hu => vC hu;rw[he]at hK ⊢;simp only[go_sem,az];exact aj.drop aF hcl (vD x y e) hK
def eW (a c:Int)(X Y:Nat):Nat := if (a < 0 ↔ c < 0) then X + Y else if X < Y then Y-X else X-Y
def dJ (a c:Int)(X Y:Nat):Bool := if (a < 0 ↔ c < 0) then decide (a < 0) else if X < Y then !decide (a < 0) else decide (a < 0)
def Nz (a c:Int)(g x y:Nat)(hg:0 < g):eW a c (g * x) (g * y)=g * eW a c x y /\ dJ a c (g * x) (g * y)=dJ a c x y := by
  have hl:g * x < g * y ↔ x < y := Nat.mul_lt_mul_left hg;unfold eW dJ;by_cases hs:a < 0 ↔ c < 0
  · rw[Vh hs,Vh hs,Vh hs,Vh hs];exact⟨(Xi _ _ _).symm,rfl⟩
  · rw[Vg hs,Vg hs,Vg hs,Vg hs];by_cases h:x < y
    · rw[Vh h,Vh (hl.2 h),Vh h,Vh (hl.2 h)];exact⟨(Nat.mul_sub _ _ _).symm,rfl⟩
    · rw[Vg h,Vg (fun k => h (hl.1 k)),Vg h,Vg (fun k => h (hl.1 k))];exact⟨(Nat.mul_sub _ _ _).symm,rfl⟩
def NA (a c:Int)(x y:Nat):eW a c x y=x + y \/ x=eW a c x y + y \/ y=eW a c x y + x := by
  unfold eW;split
  · exact .inl rfl
  · split <;> omega
def C4 (h1:bt a b=0)(h2:bt c d=0):mf a b c d=jP (dJ a c (a.natAbs * d.natAbs) (c.natAbs * b.natAbs))
    (eW a c (a.natAbs * d.natAbs) (c.natAbs * b.natAbs) / Nat.gcd (eW a c (a.natAbs * d.natAbs) (c.natAbs * b.natAbs)) (b.natAbs * d.natAbs))
    (b.natAbs * d.natAbs / Nat.gcd (eW a c (a.natAbs * d.natAbs) (c.natAbs * b.natAbs)) (b.natAbs * d.natAbs)) := by
  obtain⟨_,pb,_⟩ := pG h1;obtain⟨_,pd,_⟩ := pG h2;have g0:0 < Int.gcd b d := W8 _ V;have eg:Int.gcd b d=Nat.gcd b.natAbs d.natAbs := rfl;have k1:a.natAbs * d.natAbs=Int.gcd b d * (a.natAbs * (d.natAbs / Int.gcd b d)) := by
    rw[YT,Ye (by rw[eg];exact WZ _ _)]
  have k2:c.natAbs * b.natAbs=Int.gcd b d * (c.natAbs * (b.natAbs / Int.gcd b d)) := by
    rw[YT,Ye (by rw[eg];exact Yx _ _)]
  obtain⟨m1,m2⟩ := Nz a c (Int.gcd b d) (a.natAbs * (d.natAbs / Int.gcd b d)) (c.natAbs * (b.natAbs / Int.gcd b d)) g0;rw[<- k1,<- k2]at m1 m2;obtain⟨e1,e2⟩ := Nv (T := eW a c (a.natAbs * (d.natAbs / Int.gcd b d)) (c.natAbs * (b.natAbs / Int.gcd b d))) (C3 h1) (C3 h2) V eg rfl rfl (NA _ _ _ _) m1;rw[e1,e2,m2];rfl
end Go.Proofs.F01
namespace Go.Proofs
open Go.Hx Tryz
def AW (d:ZN)(c:Nat->Nat->Int)(v:Nat):List (List Int):=(List.range (dB d v)).map fun r=>ml d c v r (eM d v)
def UA {S:Nat->Prop}{H:ZK}{nx:Nat}(d:ZN):Fz S H nx (da d) (da d):=by
 refine .agg rfl fun i hi _=>?_
 match i,hi with
 |0,_=>exact .lit _
 |1,_=>exact xi _
 |2,_=>exact .lit _
 |3,_=>exact .Q rfl fun j h h'=>wx d.Y _ (We h)
end Go.Proofs
namespace Go.Hx
variable {P:Program}
end Go.Hx
namespace Go.Proofs
open Go.Hx Tryz
variable {b:Bool}{p q r:List (List Int)}{k nx v:Nat}{H H':ZK}{pv:ZL}{d:ZN}
def Gq (d:ZN)(q:List (List Int)):List (List Int):=(aJ d).foldl (pW d) q
def xx (d:ZN)(q:List (List Int)):Nat->List (List Int)
 |0=>q
 |n+1=>Gq d (xx d q n)
structure Imp (d:ZN)(p q:List (List Int))(n:Nat):Prop where
 ok:Z2 d q
 same:n=0->q=p
 loc:isLocal d p->n=0
 sum:fa d (fixC p)+n<=fa d (fixC q)
 it:q=xx d p n
 bef:∀j,j<n->¬isLocal d (xx d p j)
def Imp.start (h:Z2 d p):Imp d p p 0:=⟨h,fun _=>rfl,fun _=>rfl,ZG,rfl,fun j h=>absurd h (Vt _)⟩
structure Rnd (d:ZN)(q:List (List Int))(k:Nat)(b:Bool)(r:List (List Int)):Prop where
 ok:Z2 d r
 no:b=false->r=q/\∀j v,j<k->(aJ d)[j]?=some v->oG d q v
 yes:b=true->¬isLocal d q/\fa d (fixC q)<fa d (fixC r)
 fold:r=((aJ d).take k).foldl (pW d) q
def Rnd.start (h:Z2 d q):Rnd d q 0 false q:=⟨h,fun _=>⟨rfl,fun j v hj=>absurd hj (Vt _)⟩,fun h=>Bool.noConfusion h,rfl⟩
def Gr (h:r=((aJ d).take k).foldl (pW d) q)(hv:(aJ d)[k]?=some v):pW d r v=((aJ d).take (k+1)).foldl (pW d) q:=by
 rw[bd hv,Wn,<- h];rfl
def Rnd.Vb (h:Rnd d q k b r)(hv:(aJ d)[k]?=some v)(hb:oG d r v):Rnd d q (k+1) b r :=
 ⟨h.ok,fun e=>⟨(h.no e).1,fun j w hj hw=>by
  by_cases hjk:j=k
  ·subst hjk;rw[hv]at hw;cases hw;rw[<- (h.no e).1];exact hb
  ·exact(h.no e).2 j w V hw⟩,h.yes,by rw[<- Gr h.fold hv];unfold pW;rw[Vh hb]⟩
def Rnd.step (hok:ZS d)(h:Rnd d q k b r)(hv:(aJ d)[k]?=some v)(hb:¬oG d r v):Rnd d q (k+1) true (r.set (bp d.nl v) (nf d (fixC r) v)):=by
 have hvm:v∈aJ d:=an hv;refine⟨Ra hok h.ok hvm,fun e=>(Bool.noConfusion e),fun _=>?_,by rw[<- Gr h.fold hv];unfold pW;rw[Vg hb]⟩;have hg:=Rd hok h.ok hvm hb;cases b with
 |false =>
  have e:=(h.no rfl).1;subst e;exact⟨fun hl=>hb (hl v hvm),hg⟩
 |true =>
  obtain⟨h1,h2⟩:=h.yes rfl;exact⟨h1,V⟩
def Rnd.done (h:Rnd d q (aJ d).length false r):r=q/\isLocal d q :=
 ⟨(h.no rfl).1,fun v hv=>by
  obtain⟨j,hj⟩:=Vl.1 hv;exact(h.no rfl).2 j v (aO hj) hj⟩
def Imp.round {n:Nat}(h:Imp d p q n)(hr:Rnd d q (aJ d).length true r):Imp d p r (n+1):=by
 obtain⟨h1,h2⟩:=hr.yes rfl;refine⟨hr.ok,fun e=>V,fun hl=>?_,?_,?_,fun j hj=>?_⟩;rotate_left 2
 ·show r=Gq d (xx d p n);rw[<- h.it,hr.fold,XR];rfl
 ·by_cases hjn:j=n
  ·subst hjn;rw[<- h.it];exact h1
  ·exact h.bef j (V)
 ·have hn:=h.loc hl;rw[h.same hn]at h1;exact absurd hl h1
 ·have:=h.sum
  push_cast
  omega
def Up {l:List Int}{id g:Nat}{e:TypeId}(hg:H.get id=some (.J g e (ints l))):Fz (fun _=>True) H nx (.U id g 0 l.length 1) (af l):=by
 unfold af;refine .ny trivial hg (by rw[bD];omega) fun j hj h2 h'=>?_;simp only[Nat.zero_add,ints,Vw];exact .lit _
def xz (H:ZK)(pv:ZL)(p:List (List Int)):Prop:=pv=bb p\/∃(L g:Nat) (e:TypeId) (nb:List ZL),pv=.U L g 0 p.length 1/\L<H.A/\H.get L=some (.J g e nb)/\nb.length=p.length /\
 ∀(k:Nat) (l:List Int),p[k]?=some l->∃(id g':Nat) (e':TypeId),nb[k]?=some (.U id g' 0 l.length 1)/\id<H.A/\H.get id=some (.J g' e' (ints l))
def xz.len (h:xz H pv p)(ov:ZP H H'):iK H' pv=some (aa p.length):=by
 rcases h with rfl|⟨L,g,e,nb,rfl,h1,h2,h3,_⟩
 ·rfl
 ·unfold iK;simp[ag ((ov.nf L h1).trans h2),aa]
def xz.fz (h:xz H pv p)(ov:ZP H H'):Fz (fun _=>True) H' nx pv (bb p):=by
 rcases h with rfl|⟨L,g,e,nb,rfl,h1,h2,h3,h4⟩
 ·exact Ad p
 ·unfold bb;refine .ny trivial ((ov.nf L h1).trans h2) (by rw[VA];omega) fun j hj hj2 hj3=>?_;simp only[Nat.zero_add]at hj2 ⊢;rw[VA]at hj3;obtain⟨id,g',e',q1,q2,q3⟩:=h4 j _ (Vf hj3);rw[Vf hj2]at q1;rw[Option.some.inj q1,Vw];exact Up ((ov.nf id q2).trans q3)
end Go.Proofs
namespace Go.Proofs.R01
open Go.Hx Tryz
variable {a b c d:Int}
def kh:Int := 4611686018427387903
def bt (n d:Int):Int := if d < 1 \/ d > kh \/ n < -kh \/ n > kh then 5 else if Int.gcd n d ≠ 1 then 5 else 0
def je (a b c d:Int):Int := if (a < 0 /\ ¬c < 0) then -1 else if (¬a < 0 /\ c < 0) then 1 else if a.natAbs * d.natAbs=c.natAbs * b.natAbs then 0 else if (a.natAbs * d.natAbs < c.natAbs * b.natAbs ↔ 0 <= a) then -1 else 1
def zo (hb:1 <= b)(hd:1 <= d):je a b c d=bK (a * d) (c * b) := by
  unfold je bK;obtain⟨B,rfl⟩ := Vm (show 0 <= b by omega);obtain⟨D,rfl⟩ := Vm (show 0 <= d by omega);simp only[WA];have pos:∀x:Nat,∀E:Nat,((x:Int) * (E:Int))=((x * E:Nat):Int) := fun x E => (WE x E).symm;have neg:∀x:Nat,∀E:Nat,(-(x:Int) * (E:Int)) = -((x * E:Nat):Int) := fun x E => by rw[ZC,WE]
  have pp:∀x E:Nat,0 < x -> 1 <= (E:Int) -> 0 < x * E := fun x E h1 h2 => Y2 h1 V;by_cases h1:a < 0
  · obtain⟨A,hA,hA0⟩:∃A:Nat,a = -(A:Int) /\ 0 < A := ⟨a.natAbs,V,V⟩
    subst hA;have p1 := pp A D hA0 hd;by_cases h2:c < 0
    · obtain⟨C,hC,hC0⟩:∃C:Nat,c = -(C:Int) /\ 0 < C := ⟨c.natAbs,V,V⟩
      subst hC;simp only[XD,WA,neg];generalize A * D=P at *
      generalize C * B=Q at *
      repeat' split
      all_goals omega
    · obtain⟨C,hC⟩ := Vm (show 0 <= c by omega);subst hC;simp only[XD,WA,neg,pos];generalize A * D=P at *
      generalize C * B=Q at *
      repeat' split
      all_goals omega
  · obtain⟨A,hA⟩ := Vm (show 0 <= a by omega);subst hA;by_cases h2:c < 0
    · obtain⟨C,hC,hC0⟩:∃C:Nat,c = -(C:Int) /\ 0 < C := ⟨c.natAbs,V,V⟩
      subst hC;have p2 := pp C B hC0 hb;simp only[XD,WA,neg,pos];generalize A * D=P at *
      generalize C * B=Q at *
      repeat' split
      all_goals omega
    · obtain⟨C,hC⟩ := Vm (show 0 <= c by omega);subst hC;simp only[WA,pos]
      repeat' split
      all_goals omega
def Uq:aw 1 = [1] := by rw[nt ZH,iG];rfl
def xA (n d:Int)(hn:dR n)(hd:dR d)(H:ZK)(K:ZQ -> ZK -> Prop)(hK:K (.ret (.lit (.bool (decide (bt n d=0))))) H):ae prog G0 24 [qV n d] H K := by
  refine ae.X ⟨_,func24,rfl,rfl⟩ fun hcl => ?_;refine ae.st (n := 31) (rs := [.tmp 2]) func24 ?_;have bad:∀L,bt n d=5 -> aj prog G0 H K (.lit (.bool false)) (ext H L) := fun L h => by
    rw[h]at hK;exact aj.drop aF hcl (.lit _) hK
  by_cases h1:d < 1
  · simp only[go_sem,qV,h1,az];exact bad _ (by unfold bt;rw[Vh (.inl h1)])
  by_cases h2:4611686018427387903 < d
  · simp only[go_sem,qV,h1,h2,az];exact bad _ (by unfold bt;rw[Vh (.inr (.inl h2))])
  by_cases h4:4611686018427387903 < n
  · simp only[go_sem,qV,h1,h2,h4,az];exact bad _ (by unfold bt;rw[Vh (.inr (.inr (.inr h4)))])
  by_cases h3:n < -4611686018427387903
  · simp only[go_sem,qV,h1,h2,h3,h4,az];exact bad _ (by unfold bt;rw[Vh (.inr (.inr (.inl h3)))])
  simp only[go_sem,qV,h1,h2,h3,h4,az];refine W.dr 8 [0,1,3,0,8,31,63,0] mixed ?_;simp only[go_sem,qV,az];have l1 := kD hn;have l2 := kD hd;refine⟨_,[],aY.pure fun H2 => jV n hn H2 _ ⟨rfl,rfl⟩,?_⟩;simp only[go_sem,az];refine⟨_,[],aY.pure fun H2 => jV d hd H2 _ ⟨rfl,rfl⟩,?_⟩;simp only[go_sem,az];refine⟨_,[],aY.pure fun H2 => Fl n.natAbs d.natAbs V V H2 _ ⟨rfl,rfl⟩,?_⟩;simp only[go_sem,az];refine⟨by refine⟨?_,?_,?_,?_⟩ <;> (intro x hx;omega),?_⟩;have gl:(aw (n.natAbs.gcd d.natAbs)).length <= 100 := by
    have:n.natAbs.gcd d.natAbs <= d.natAbs := Yv V (WZ _ _);have := wI this;omega
  have ck:bt n d=if Int.gcd n d ≠ 1 then 5 else 0 := by unfold bt;rw[Vg (by unfold kh;omega)]
  have eg:Int.gcd n d=n.natAbs.gcd d.natAbs := rfl;obtain⟨H1,hH1⟩:∃H1,H1=ext H [.J 0 58 [.lit (.int .i64 n),.lit (.int .i64 d)]] := ⟨_,rfl⟩
  have ov1:ZP H H1:=hH1▸.ext _ _
  have e1:H.A + 1=H1.A:=hH1▸rfl
  rw[<- hH1,e1];have hO:aI H1.A (ext H1 [.J 0 3 [.lit (.int .i64 1)]]) 3 (.U H1.A 0 0 1 1) (ints [1]) := .inr ⟨H1.A,0,ZJ,by simp[aW],rfl,cL _ _ _⟩;refine ak.mb H1.A (args' := [af (aw (n.natAbs.gcd d.natAbs)),af (aw 1)]) aF rfl (fun j hj _ => match j,hj with |0,_ => .ea _ |1,_ => by rw[Uq];exact hO.iB fun i hi => hi) (rP _ 1 V _ _ ⟨trivial,?_⟩);have ov2:ZP H ((ext H1 [.J 0 3 [.lit (.int .i64 1)]]).cut H1.A) := ov1.trans (ZP.ext _ _).cut;rw[ck,eg]at hK;by_cases hg:n.natAbs.gcd d.natAbs=1
  · rw[hg]at hK ⊢;have c1:bK ((1:Nat):Int) ((1:Nat):Int)=0 :=ZH;rw[c1];simp only[go_sem,az];exact aj.bB aF hcl ov2 (.lit _) hK
  · have c1 : ¬ bK ((n.natAbs.gcd d.natAbs : Nat) : Int) ((1 : Nat) : Int) = 0 := by
      unfold bK;split
      · omega
      · split <;> omega
    obtain⟨c,hc⟩:∃c,c=bK ((n.natAbs.gcd d.natAbs:Nat):Int) ((1:Nat):Int) := ⟨_,rfl⟩
    rw[<- hc]at c1 ⊢;simp only[go_sem,c1,az];rw[Vh hg]at hK;exact aj.bB aF hcl ov2 (.lit _) (by simpa using hK)
def Ur (h1:a < 0)(h2:c < 0):je a b c d=bK ((c.natAbs * b.natAbs:Nat):Int) ((a.natAbs * d.natAbs:Nat):Int) := by
  unfold je bK;generalize a.natAbs * d.natAbs=P;generalize c.natAbs * b.natAbs=Q
  repeat' split
  all_goals omega
def Us (h1:¬a < 0)(h2:¬c < 0):je a b c d=bK ((a.natAbs * d.natAbs:Nat):Int) ((c.natAbs * b.natAbs:Nat):Int) := by
  unfold je bK;generalize a.natAbs * d.natAbs=P;generalize c.natAbs * b.natAbs=Q
  repeat' split
  all_goals omega
def Ut (h1:a < 0)(h2:¬c < 0):je a b c d = -1 := by unfold je;rw[Vh ⟨h1,h2⟩]
def Uu (h1:¬a < 0)(h2:c < 0):je a b c d=1 := by unfold je;rw[Vg V,Vh ⟨h1,h2⟩]
def Uv (a b c d:Int)(ha:dR a)(hb:dR b)(hc:dR c)(hd:dR d)(hb0:1 <= b)(hd0:1 <= d)(H:ZK)(K:ZQ -> ZK -> Prop)(hK:K (.ret (.lit (.int .i64 (bK (a * d) (c * b))))) H):
    ae prog G0 25 [qV a b,qV c d] H K := by
  refine ae.X ⟨_,func25,rfl,rfl⟩ fun hcl => ?_;have la := kD ha;have lb := kD hb;have lc := kD hc;have ld := kD hd;have l1 := tS ha hd;have l2 := tS hc hb;rw[<- zo hb0 hd0]at hK;refine ae.st (n := 44) (rs := [.tmp 4]) func25 ?_;simp only[go_sem,qV,az];refine W.dr 12 [0,1,3,0,8,31,63,0,128,511,0,1024] mixed ?_;simp only[go_sem,az];refine⟨_,[],aY.pure fun H2 => jV a ha H2 _ ⟨rfl,rfl⟩,?_⟩;simp only[go_sem,az];refine⟨_,[],aY.pure fun H2 => jV d hd H2 _ ⟨rfl,rfl⟩,?_⟩;simp only[go_sem,az];refine⟨_,[],aY.pure fun H2 => rQ a.natAbs d.natAbs V V H2 _ ⟨rfl,rfl⟩,?_⟩;simp only[go_sem,az];refine⟨_,[],aY.pure fun H2 => jV c hc H2 _ ⟨rfl,rfl⟩,?_⟩;simp only[go_sem,az];refine ak.X (jV b hb _ _ ⟨trivial,?_⟩);simp only[go_sem,az];refine ak.X (rQ c.natAbs b.natAbs V V _ _ ⟨trivial,?_⟩);by_cases h1:a < 0
  · by_cases h2:c < 0
    · rw[Ur h1 h2]at hK;simp only[go_sem,h1,h2,az];refine ak.X (rP _ _ V _ _ ⟨trivial,?_⟩);simp only[go_sem,az];exact aj.drop aF hcl (.lit _) hK
    · rw[Ut h1 h2]at hK;simp only[go_sem,h1,h2,az];exact aj.drop aF hcl (.lit _) hK
  · by_cases h2:c < 0
    · rw[Uu h1 h2]at hK;simp only[go_sem,h1,h2,az];exact aj.drop aF hcl (.lit _) hK
    · rw[Us h1 h2]at hK;simp only[go_sem,h1,h2,az];refine ak.X (rP _ _ V _ _ ⟨trivial,?_⟩);simp only[go_sem,az];exact aj.drop aF hcl (.lit _) hK
end Go.Proofs.R01
namespace Go.Proofs
open Go.Hx Tryz
variable {D S:Int}
structure nna (S D a b g:Int):Prop where
 g1:1<=g
 n:a*g=S
 d:b*g=D
 b1:1<=b
 cop:Int.gcd a b=1
def kM (hD:1<=D):∃a b g:Int,eA S D=.agg [.lit (.int .i64 a),.lit (.int .i64 b)]/\nna S D a b g:=by
 obtain⟨G,hG⟩:∃G,G=Int.gcd S D:=⟨_,rfl⟩
 have g0:0<G:=by rw[hG];exact W8 _ (V)
 obtain⟨a,ha⟩:(G:Int) ∣ S:=by rw[hG];exact Int.gcd_dvd_left ..
 obtain⟨b,hb⟩:(G:Int) ∣ D:=by rw[hG];exact Int.gcd_dvd_right ..
 have gne:(G:Int)≠0:=V
 have hgc:G=G*Int.gcd a b:=by
  have h:=Int.gcd_mul_left (G:Int) a b;rw[<- ha,<- hb,<- hG,WA]at h;exact h
 have hc:Int.gcd a b=1:=by
  have:G*1=G*Int.gcd a b:=V
  exact(Nat.eq_of_mul_eq_mul_left g0 this).symm
 have hb1:1<=b:=by
  rcases Zo b 1 with h|h
  ·have:(G:Int)*b<=(G:Int)*0:=VU V V;omega
  ·exact h
 refine⟨a,b,G,?_,V,by rw[Wx];exact ha.symm,by rw[Wx];exact hb.symm,hb1,hc⟩;unfold eA;rw[<- hG];have e1:S.tdiv (G:Int)=a:=by rw[ha];exact Zg a gne
 have e2:D.tdiv (G:Int)=b:=by rw[hb];exact Zg b gne
 rw[e1,e2]
def nna.bound {a b g:Int}(h:nna S D a b g):a.natAbs<=S.natAbs/\b<=D:=by
 have h1:S.natAbs=a.natAbs*g.natAbs:=by rw[<- h.n,WQ]
 have h2:D.natAbs=b.natAbs*g.natAbs:=by rw[<- h.d,WQ]
 have hg:0<g.natAbs:=by have:=h.g1;omega
 have l1:=Zh a.natAbs hg;have l2:=Zh b.natAbs hg;have l3:b.natAbs<=D.natAbs:=V
 have hb:=h.b1;have hD:0<=D:=by rw[<- h.d];exact W2 V (by have:=h.g1;omega)
 omega
def Gs {x y m:Int}(hm:1<=m):R01.bK (x*m) (y*m)=R01.bK x y:=by
 have h1:x*m<y*m↔x<y:=Int.mul_lt_mul_right V;have h2:x*m=y*m↔x=y:=⟨fun h=>Zb V h,fun h=>by rw[h]⟩
 unfold R01.bK;simp only[h1,h2]
def nna.cmp {S1 S2 a1 b1 g1 a2 b2 g2:Int}(hD:1<=D)(h1:nna S1 D a1 b1 g1)(h2:nna S2 D a2 b2 g2):R01.bK (a1*b2) (a2*b1)=R01.bK S1 S2:=by
 have hg:1<=g1*g2:=by
  have:=WV h1.g1 h2.g1 V (by have:=h1.g1;omega);omega
 rw[<- Gs hg,<- Gs (x:=S1) (y:=S2) hD];congr 1
 ·rw[<- h1.n,<- h2.d];simp only[Xh,Wx,Int.mul_left_comm]
 ·rw[<- h2.n,<- h1.d];simp only[Xh,Wx,Int.mul_left_comm]
def nna.check {a b g:Int}(h:nna S D a b g)(hS:S.natAbs<=4611686018427387903)(hD:D<=4611686018427387903):R01.bt a b=0:=by
 have hb:=h.bound;have:=h.b1;unfold R01.bt R01.kh;rw[Vg V,Vg (by rw[h.cop];simp)]
def Uw {x:ZN}(hok:ZS x):1<=x.Z ^ x.C.length/\x.Z ^ x.C.length<=167961600000000:=by
 have hg:=hok.nB.g1;refine⟨Y6 V,?_⟩;have h1:=pS (b:=60) V (l:=List.replicate x.C.length x.Z) fun c hc=>by rw[WU hc];omega
 rw[WD]at h1;have h2:=AG x.C.length (by have:=hok.n.n1;omega);have h3:∀k:Nat,aC (List.replicate k x.Z)=x.Z ^ k:=fun k=>by
  induction k with
  |zero=>rw[List.replicate_zero,iM,Int.pow_zero]
  |succ k ih=>rw[W0,iN,ih,Xt,Wx]
 rw[h3]at h1;omega
end Go.Proofs
namespace Go.Proofs.F01
open Go.Hx Tryz
def km (neg:Bool)(N D:Nat):Option ZL:=jP neg (N / Nat.gcd N D) (D / Nat.gcd N D)
def DG (neg:Bool)(N D:Nat){g:Nat}(hg:0<g):km neg (g*N) (g*D)=km neg N D:=by
 unfold km;rw[Nat.gcd_mul_left,Yb _ _ hg,Yb _ _ hg]
def PT (neg:Bool)(D:Nat):km neg 0 D=km false 0 D:=by
 unfold km jP;simp
def PU {n d:Int}(hn:-4611686018427387903<=n/\n<=4611686018427387903)(hd:1<=d/\d<=4611686018427387903):km (decide (n<0)) n.natAbs d.natAbs=some (eA n d):=by
 have g0:0<Int.gcd n d:=W8 _ V;have hg:Nat.gcd n.natAbs d.natAbs=Int.gcd n d:=rfl;have l1:n.natAbs / Int.gcd n d<=n.natAbs:=WO _ _;have l2:d.natAbs / Int.gcd n d<=d.natAbs:=WO _ _;unfold km jP eA qV;rw[hg,Vh ⟨V,V⟩];have e2:d.tdiv (Int.gcd n d:Int)=((d.natAbs / Int.gcd n d:Nat):Int):=by
  rw[V1 V,Yz];congr 1;omega
 have e1:n.tdiv (Int.gcd n d:Int)=if decide (n<0)=true then -((n.natAbs / Int.gcd n d:Nat):Int) else ((n.natAbs / Int.gcd n d:Nat):Int):=by
  by_cases h:n<0
  ·rw[VD h,Vh rfl];have:n=-(n.natAbs:Int):=V
   conv=>lhs;rw[this]
   rw[Int.neg_tdiv,V1 V,Yz];congr 3
   all_goals (try rw[<- this])
  ·rw[V7 h,Vg ZH];rw[V1 V,Yz];congr 1;omega
 rw[e1,e2]
def pO {a b:Int}(ha:-4611686018427387903<=a/\a<=4611686018427387903)(hb:1<=b/\b<=4611686018427387903)(h:Int.gcd a b=1):bt a b=0:=by
 unfold bt kh;rw[Vg V,Vg V]
def vM {x y:Int}(hy:1<=y):(x*y<0)↔(x<0):=by
 rw[Wx];refine⟨fun h=>?_,fun h=>Int.mul_neg_of_pos_of_neg V h⟩;rcases Zo x 0 with h2|h2
 ·exact h2
 ·have:=W2 (show 0<=y by omega) h2;omega
def DH {b e g D:Nat}(hb:0<b)(he:0<e)(h1:b*g=D)(h2:e ∣ D)(hD:0<D):e / Nat.gcd b e<=g:=by
 have hl:Nat.lcm b e ∣ D:=Nat.lcm_dvd ⟨g,h1.symm⟩ h2;have hle:=Yv hD hl;have:Nat.lcm b e=b*(e / Nat.gcd b e):=by
  unfold Nat.lcm;exact Nat.mul_div_assoc b (WZ b e)
 rw[this,<- h1]at hle;exact Nat.le_of_mul_le_mul_left hle hb
def DI {S1 S2 D a b g c e g2:Int}(h1:nna S1 D a b g)(h2:nna S2 D c e g2)(hD:1<=D/\D<=1099511627776)(hS1:-1099511627776<=S1/\S1<=1099511627776)(hS2:-1099511627776<=S2/\S2<=1099511627776):
  mc a b c e (mf a b (-c) e)=.nc [eA (S1-S2) D,aa 0]/\me a b (-c) e<18446744073709551616:=by
 obtain⟨p1,p2⟩:=h1.bound;obtain⟨p3,p4⟩:=h2.bound;have b1:=h1.b1;have e1:=h2.b1;have g1:=h1.g1;have gg1:=h2.g1;have ck1:bt a b=0:=pO V V h1.cop;have ck2:bt c e=0:=pO V V h2.cop;have ck3:bt (-c) e=0:=pO V V (by rw[ZD];exact h2.cop);have nb:b.natAbs*g.natAbs=D.natAbs:=by rw[<- WQ,h1.d]
 have ne:e.natAbs*g2.natAbs=D.natAbs:=by rw[<- WQ,h2.d]
 have na:a.natAbs*g.natAbs=S1.natAbs:=by rw[<- WQ,h1.n]
 have nc:c.natAbs*g2.natAbs=S2.natAbs:=by rw[<- WQ,h2.n]
 refine⟨?_,?_⟩
 ·unfold mc;rw[Vh ⟨ck1,ck2⟩,C4 ck1 ck3];show tq tK (km (dJ a (-c) (a.natAbs*e.natAbs) ((-c).natAbs*b.natAbs)) (eW a (-c) (a.natAbs*e.natAbs) ((-c).natAbs*b.natAbs)) (b.natAbs*e.natAbs))=_;have k0:0<(g*g2).natAbs:=by
   have:=Int.mul_pos (show 0<g by omega) (show 0<g2 by omega);omega
  have kd:g*g2*(b*e)=D*D:=by
   conv=>rhs;rw[<- h1.d];rhs;rw[h1.d,<- h2.d]
   grind
  have kn:g*g2*(a*e-c*b)=D*(S1-S2):=by
   have q1:g*g2*(a*e)=D*S1:=(by rw[<- h1.n,<- h2.d];grind);have q2:g*g2*(c*b)=D*S2:=(by rw[<- h2.n,<- h1.d];grind);rw[Int.mul_sub,Int.mul_sub,q1,q2]
  have z1:=vM (x:=a) e1;have z2:=vM (x:=c) b1;have z0:(c=0)↔(c*b=0):=by
   refine⟨fun h=>by rw[h,YI],fun h=>?_⟩;rcases Int.mul_eq_zero.1 h with h|h
   ·exact h
   ·omega
  have z3:(-c<0)↔(0<c*b):=V
  have sg:(a*e-c*b<0)↔(S1-S2<0):=by
   have y1:=vM (x:=a*e-c*b) (y:=g*g2) (by have:=Int.mul_pos (show 0<g by omega) (show 0<g2 by omega);omega);have y2:=vM (x:=S1-S2) (y:=D) hD.1;rw[<- y1,<- y2,Wx _ (g*g2),kn,Wx]
  rw[<- WQ a e,<- WQ b e,XD,<- WQ c b];have hT:eW a (-c) (a*e).natAbs (c*b).natAbs=(a*e-c*b).natAbs:=by
   unfold eW;split
   ·omega
   ·split<;>omega
  rw[hT];have hlow:∀s,km s (a*e-c*b).natAbs (b*e).natAbs=km s (S1-S2).natAbs D.natAbs:=fun s=>by
   rw[<- DG s _ _ k0,<- WQ,<- WQ,kd,kn,WQ,WQ,DG s _ _ V]
  have fin:km (decide (S1-S2<0)) (S1-S2).natAbs D.natAbs=some (eA (S1-S2) D):=PU V V;rw[hlow];by_cases h0:S1-S2=0
  ·rw[h0]at fin ⊢;rw[show (0:Int).natAbs=0 from rfl,PT]at fin ⊢;rw[fin];rfl
  have hS:dJ a (-c) (a*e).natAbs (c*b).natAbs=decide (S1-S2<0):=by
   have hne:a*e-c*b≠0:=fun h=>by
    rw[h,YY]at kn;rcases Int.mul_eq_zero.1 kn.symm with h|h<;>omega
   unfold dJ;split
   ·exact decide_eq_decide.2 (V)
   ·split
    ·rw[<- decide_not];exact decide_eq_decide.2 (V)
    ·exact decide_eq_decide.2 (V)
  rw[hS,fin];rfl
 ·have hd0:0<D.natAbs:=V
  have hg:Int.gcd b e=Nat.gcd b.natAbs e.natAbs:=rfl;have r1:e.natAbs / Int.gcd b e<=g.natAbs:=by rw[hg];exact DH V V nb ⟨_,ne.symm⟩ hd0
  have r2:b.natAbs / Int.gcd b e<=g2.natAbs:=by rw[hg,XV];exact DH V V ne ⟨_,nb.symm⟩ hd0
  have s1:jc a b e<=S1.natAbs:=by unfold jc;rw[<- na];exact Wl _ r1
  have s2:jd b (-c) e<=S2.natAbs:=by unfold jd;rw[<- nc,XD];exact Wl _ r2
  unfold me;split
  ·omega
  ·split<;>omega
end Go.Proofs.F01
namespace Go.Proofs
open Go.Hx Tryz
variable {ch ch':Ch}{c k:Nat}{t:Z3}{D:ZU}{T:ZW}
def T0 (hD:D.Ok)(ht:t.Ok D)(hc:nG D ch)(e:∀k c,k<D.K->c<D.cs k->ch' k c=ch k c):jW D t ch'↔jW D t ch:=by
 have hc':nG D ch':=fun k c y h1 h2 h3=>hc k c y h1 h2 (by rw[<- e k c h1 h2];exact h3);rw[tT hD ht hc,tT hD ht hc'];constructor
 ·rintro⟨q,q1,q2,q3⟩;exact⟨q,q1,fun k c y h1 h2 h3=>q2 k c y h1 h2 (by rw[e k c h1 h2];exact h3),q3⟩
 ·rintro⟨q,q1,q2,q3⟩;exact⟨q,q1,fun k c y h1 h2 h3=>q2 k c y h1 h2 (by rw[<- e k c h1 h2];exact h3),q3⟩
def T1 (hc:nG D ch){x:Nat}(hx:x<D.cd k):nG D (kH ch k c x):=fun k' c' y h1 h2 h3=>by
 by_cases h:k'=k/\c'=c
 ·obtain⟨rfl,rfl⟩:=h;rw[nD]at h3;cases h3;exact hx
 ·rw[nE h]at h3;exact hc k' c' y h1 h2 h3
def T3 (hD:D.Ok)(ht:t.Ok D)(hc:nG D ch)(e:∀k c,k<D.K->c<D.cs k->ch' k c=ch k c)(k c:Nat):iS D t ch' k c=iS D t ch k c:=by
 unfold iS;refine Gi _ _ fun y _ hy=>?_;rw[WG,tY,tY];refine T0 hD ht (T1 hc V) fun k' c' h1 h2=>?_;by_cases h:k'=k/\c'=c
 ·rw[h.1,h.2,nD,nD]
 ·rw[nE h,nE h];exact e k' c' h1 h2
structure nnp (D:ZU)(T:ZW)(done:List (Nat × Nat)):Prop where
 eq:∀k c,k<D.K->c<D.cs k->kL T k c=oN D (mu D) done k c
 tb:lM T (rV D)=mu D
 np:T.Rng D
 len:T.Len D D.K
 h0:∀c,c<D.cs 0->(T.ab 0).getD c 0=0
def nnp.try (hD:D.Ok)(ht:(mu D).Ok D){done:List (Nat × Nat)}(h:nnp D T done)(hnd:(done++[(k,c)]).Nodup)(hr:∀p∈done++[(k,c)],p.1<D.K/\p.2<D.cs p.1):nnp D (lO T k c (ue D T k c)) (done++[(k,c)]):=by
 have hkc:=hr (k,c) ZG;have hl:=h.len.ch k hkc.1;have hcl:c<(T.ch k).length:=by rw[hl];exact hkc.2
 have hC:=FH hD ht _ done rfl (Xp.1 hnd).1 fun p hp=>hr p (by simp[hp]);have hx:ue D T k c=iS D (mu D) (oN D (mu D) done) k c:=by
  rw[TK h.np (fun c h1=>by rw[h.h0 c h1];rfl) hcl,h.tb];exact T3 hD ht hC.np h.eq k c
 refine⟨fun k' c' h1 h2=>?_,h.tb,Gh h.np hcl,TJ h.len _ _ _,h.h0⟩;rw[Gg hcl,FG,hx];show _=kH _ k c _ k' c';by_cases e:k'=k/\c'=c
 ·rw[e.1,e.2,nD,nD]
 ·rw[nE e,nE e];exact h.eq k' c' h1 h2
def nnp.T4 (hD:D.Ok)(ht:(mu D).Ok D){done:List (Nat × Nat)}(h:nnp D T done):∀n,(done++(List.range n).map fun c=>(k,c)).Nodup->(∀p∈done++(List.range n).map fun c=>(k,c),p.1<D.K/\p.2<D.cs p.1)->nnp D (uf D T k n) (done++(List.range n).map fun c=>(k,c)):=by
 intro n
 induction n with
 |zero =>
  intro _ _;show nnp D T _;simpa using h
 |succ n ih =>
  intro h1 h2;rw[VX,V8,<- List.append_assoc]at h1 h2 ⊢;exact(ih (Xp.1 h1).1 fun p hp=>h2 p (Yc _ hp)).try hD ht h1 h2
def runT (D:ZU)(T:ZW)(ks:List Nat):ZW:=ks.foldl (fun T k=>uf D T k (D.cs k)) T
def T5 (D:ZU)(T:ZW)(ks:List Nat)(k:Nat):runT D T (ks++[k])=uf D (runT D T ks) k (D.cs k):=by unfold runT;rw[Wn];rfl
def ss (D:ZU)(ks:List Nat):List (Nat × Nat):=(ks.map fun k=>(List.range (D.cs k)).map fun c=>(k,c)).flatten
def T6 (D:ZU)(ks:List Nat)(k:Nat):ss D (ks++[k])=ss D ks++(List.range (D.cs k)).map fun c=>(k,c):=by unfold ss;simp
def nnp.run (hD:D.Ok)(ht:(mu D).Ok D)(h:nnp D T []):∀(n:Nat) (ks:List Nat),ks.length=n->(ss D ks).Nodup->(∀p∈ss D ks,p.1<D.K/\p.2<D.cs p.1)->nnp D (runT D T ks) (ss D ks):=by
 intro n
 induction n with
 |zero =>
  intro ks hl _ _;obtain rfl:=Vp hl;exact h
 |succ n ih =>
  intro ks hl h1 h2;obtain⟨qs,k,rfl⟩:∃qs a,ks=qs++[a]:=by
   rcases X7 ks with h|⟨qs,a,h⟩
   ·rw[h]at hl;cases hl
   ·exact⟨qs,a,by rw[h,X8]⟩
  rw[List.length_append,Wh]at hl;rw[T6]at h1 h2 ⊢;rw[T5];exact(ih qs V (Xp.1 h1).1 fun p hp=>h2 p (Yc _ hp)).T4 hD ht _ h1 h2
def Gk (d:ZN)(lvh:ZL)(tot:Int):List ZL:=[.lit (.int .i64 d.Z),.Q d.C.length (aG d.C),.lit (.int .u64 (d.nl:Int)),.Q d.Y.length (bA d.Y),lvh,af (eC d),af (dM d),.lit (.int .i64 tot)]
def T7 {d:ZN}{s:Nat}{lvh:ZL}{tot:Int}(hok:ZS d)(ht:-1000000000000000000<=tot/\tot<=1000000000000000000)(hw:1<=d.Z ^ d.C.length/\d.Z ^ d.C.length<=1000000000000000000)(H:ZK)(hs:H.get s=some (.J 0 184 (Gk d lvh tot)))(hl:s<H.A)(K:ZQ->ZK->Prop)(hK:K (.ret (eA tot (d.Z ^ d.C.length))) H):
  ae prog G0 68 [.O s 0 0] H K:=by
 refine ae.X ⟨_,func68,rfl,rfl⟩ fun hcl=>?_;have n8:=hok.n.n1;have hg:=hok.nB.g1;refine ae.sw (n:=20) (rs:=[.cell 2 58]) func68 ?_;refine W.sq ?_;simp only[go_sem];obtain⟨H1,hH1⟩:∃H1,H1=ext H [.J 0 58 [.lit (.int .i64 0),.lit (.int .i64 0)]]:=⟨_,rfl⟩
 have g1:=dh hH1
 have o1:ZP H H1:=hH1▸.ext _ _
 rw[<- hH1];clear hH1;have l1:=ag g1;have ls:=ag ((o1.nf s hl).trans hs);unfold Gk at ls;refine W.seq ?_;refine W.dr 16 [0,1,3,7,0,16,48,112,240,0,512,1536,3584,7680,15872,32752] mixed ?_;simp only[go_sem,ls];refine⟨_,[],aY.pure fun H2=>SX d.Z d.C.length hg V H2 _ ⟨rfl,rfl⟩,?_⟩;refine ak.X (SY tot (d.Z ^ d.C.length) V V H1 _ ⟨trivial,?_⟩);unfold eA at hK ⊢;simp only[go_sem,l1];obtain⟨H2,hH2⟩:∃H2,H2=H1.upd H.A (.J 0 58 [.lit (.int .i64 (tot.tdiv (Int.gcd tot (d.Z ^ d.C.length):Int))),.lit (.int .i64 ((d.Z ^ d.C.length).tdiv (Int.gcd tot (d.Z ^ d.C.length):Int)))]):=⟨_,rfl⟩
 have o2:ZP H H2:=by rw[hH2];exact ZP.upd (id:=H.A) o1 ZJ _
 have l2:H2.na H.A 0=_:=ag (show H2.get H.A=_ by rw[hH2,ah,Vh rfl]);rw[<- hH2];refine W.vs ?_;simp only[go_sem,l2];refine aj.bB aF hcl o2 (.agg rfl fun i hi _=>?_) hK
 match i,hi with
 |0,_=>exact .lit _
 |1,_=>exact .lit _
def tu (d:ZN)(hf:Z9 d)(h6:d.C.length<=6)(H:ZK)(K:ZQ->ZK->Prop)
  (hE:dA d=4->K (.ret (.nc [.agg [aa 0,aa 0],aa 210])) H)
  (hE2:dA d≠4->dA d≠0->K (.ret (.nc [.agg [aa 0,aa 0],aa (dA d)])) H)
  (hK:∀r,iL d=some r->ZS d->Z0 d r->K (.ret (.nc [eA (dC d r) (d.Z ^ d.C.length),aa 0])) H):
  ae prog G0 29 [da d] H K:=by
 refine ae.X ⟨_,func29,rfl,rfl⟩ fun hcl=>?_;refine ae.sw (n:=17) (rs:=[.cell 2 58,.tmp 3]) func29 ?_;refine W.sq ?_;simp only[go_sem,gR,cR];obtain⟨H1,hH1⟩:∃H1,H1=ext H [.J 0 38 [.lit (.int .i64 d.Z),.Q d.C.length (aG d.C),.lit (.int .u64 (d.nl:Int)),.Q d.Y.length (bA d.Y)],.J 0 58 [.lit (.int .i64 0),.lit (.int .i64 0)]]:=⟨_,rfl⟩
 have g1:=dh hH1
 have g2:=gE hH1 1 rfl
 have n1:H1.A=H.A+2:=hH1▸rfl
 have o1:ZP H H1:=hH1▸.ext _ _
 rw[<- hH1];clear hH1;have l1:=ag g1;refine W.sq ?_;simp only[go_sem,l1];have zero:∀(H2:ZK) (e:Int),ZP H1 H2->K (.ret (.nc [.agg [aa 0,aa 0],aa e])) H->aj prog G0 H K (.nc [.agg [aa 0,aa 0],aa e]) (H2.upd (H.A+1) (.J 0 58 [aa 0,aa 0])):=fun H2 e ho hk=>by
  refine aj.bB aF hcl (ZP.upd (id:=H.A+1) (o1.trans ho) (Xw _) _) (.nc rfl fun i hi _=>?_) hk
  match i,hi with
  |0,_ =>
   refine .agg rfl fun i hi _=>?_
   match i,hi with
   |0,_=>exact .lit _
   |1,_=>exact .lit _
  |1,_=>exact .lit _
 refine ak.X (TH d hf h6 H1 _ (fun H2 ho he=>⟨trivial,?_⟩) (fun H2 ho he he2=>⟨trivial,?_⟩) fun r s lvh I H2 hr hok ho hS hnil=>⟨trivial,?_⟩)
 ·have g2':=ag ((ho.nf _ V).trans g2);simp only[go_sem];refine W.sq ?_;simp only[go_sem,g2'];exact zero H2 210 ho (hE he)
 ·have g2':=ag ((ho.nf _ V).trans g2);simp only[go_sem];refine W.sq ?_;simp only[go_sem,he2,g2'];exact zero H2 (dA d) ho (hE2 he he2)
 simp only[go_sem];refine W.sq ?_;simp only[go_sem];obtain⟨hPo,hT,_⟩:=wO hok (tU hr);have hb:=Rz h6 (nI d r) hok hPo _ ZJ;have hsum:lk (df d (fixC (nI d r))) d.Y (cH d.C)=dC d r:=by rw[<- hT];exact Q5 hok hPo
 rw[hsum]at hb;have htot:dJ (aA d r) 0=dC d r:=Vh (.inr rfl);rw[htot]at hS;have hK:=hK r hr hok (tU hr);refine W.vs ?_;simp only[go_sem];refine ak.X (T7 hok hb (by have:=Uw hok;omega) H2 hS.top hS.nH.2 _ ⟨trivial,?_⟩);have k2:∀i,i<H1.A->H2.get i=H1.get i:=fun i h=>ho.nf i h;have l4:=ag ((k2 _ V).trans g2);unfold eA at hK ⊢;simp only[go_sem,l4];have hon:=ho.A;refine aj.bB (v':=.nc [_,aa 0]) aF hcl (ZP.upd (id:=H.A+1) (o1.trans ho) (Xw _) _) (.nc rfl fun i hi _=>?_) hK
 match i,hi with
 |0,_ =>
  refine .agg rfl fun i hi _=>?_
  match i,hi with
  |0,_=>exact .lit _
  |1,_=>exact .lit _
 |1,_=>exact .lit _
end Go.Proofs
