/- Own work: contracts. -/
import Derived.Test.YtebhdkihcdmmjaaGreatConA
import Derived.Test.YtebhdkihcdmmjaaGreatConH
import Derived.Test.YtebhdkihcdmmjaaGreatConF
import Derived.Test.YtebhdkihcdmmjaaGreatConG
import Derived.Test.YtebhdkihcdmmjaaGreatConC
import Derived.Test.YtebhdkihcdmmjaaGreatConB
set_option linter.all false
set_option maxHeartbeats 8000000
set_option maxRecDepth 100000
namespace Go.Proofs.F01
open Go.Hx Tryz
variable {P:Program}{H:ZH}{r:ZI}{K:ZN -> ZH -> Prop}
def Cw (args:Array Value):Sem Value := do
  let (x, y, c) ← Extern.MathBitsCarry.three "Add64" args
  pure (Extern.MathBitsCarry.pair ((x + y + c) % Extern.MathBitsCarry.m64) ((x + y + c) / Extern.MathBitsCarry.m64))
def Cx (args:Array Value):Sem Value := do
  let (x, y, b) ← Extern.MathBitsCarry.three "Sub64" args
  pure (Extern.MathBitsCarry.pair ((x + Extern.MathBitsCarry.m64-y-b) % Extern.MathBitsCarry.m64) (if x < y + b then 1 else 0))
def fP:List ZI -> Option ZI
  | [.lit (.int .u64 a),.lit (.int .u64 b),.lit (.int .u64 c)] => bif Nat.ble c.toNat 1 then some (.nc [.lit (.int .u64 (Int.ofNat ((a.toNat + b.toNat + c.toNat) % 18446744073709551616))),.lit (.int .u64 (Int.ofNat ((a.toNat + b.toNat + c.toNat) / 18446744073709551616)))]) else none
  |_ => none
def u5:List ZI -> Option ZI
  | [.lit (.int .u64 a),.lit (.int .u64 b),.lit (.int .u64 c)] => bif Nat.ble c.toNat 1 then some (.nc [.lit (.int .u64 (Int.ofNat ((a.toNat + 18446744073709551616-b.toNat-c.toNat) % 18446744073709551616))),.lit (.int .u64 (Int.ofNat (bif Nat.blt a.toNat (b.toNat + c.toNat) then 1 else 0)))]) else none
  |_ => none
def Cy (a b:Nat)(Γ:aE)(H:ZH)(w:World):ZL P Γ H w (.nc [.lit (.int .u64 (Int.ofNat a)),.lit (.int .u64 (Int.ofNat b))]) (Extern.MathBitsCarry.pair a b) := by
  unfold Extern.MathBitsCarry.pair;refine ZL.nc (cs := [.int .u64 (Int.ofNat a),.int .u64 (Int.ofNat b)]) rfl fun i h _ => ?_
  match i,h with
  |0,_ => exact .lit _
  |1,_ => exact .lit _
def Cz (s:String)(w:World)(a b c:Int)(hc:¬c.toNat > 1):(Extern.MathBitsCarry.three s #[.int .u64 a,.int .u64 b,.int .u64 c]).run P w = .ok (a.toNat,b.toNat,c.toNat) w := by
  have h1:∀x:Int,(asInt (.int .u64 x)).run P w = .ok x w := fun x => rfl;show (do
    let c := (<- asInt (.int .u64 c)).toNat
    if c > 1 then unsupported _
    pure ((<- asInt (.int .u64 a)).toNat,(<- asInt (.int .u64 b)).toNat,c):Sem (Nat × Nat × Nat)).run P w=_
  rw[ar (h1 c)];simp only[hc,if_false];rfl
def CA {a b c:Int}(h:fP [.lit (.int .u64 a),.lit (.int .u64 b),.lit (.int .u64 c)]=some r)(hK:K (.ret r) H):ao prog G0 (.X 185 [] []) [.lit (.int .u64 a),.lit (.int .u64 b),.lit (.int .u64 c)] H K := by
  simp only[fP]at h;cases hb:Nat.ble c.toNat 1 with
  |false => rw[hb]at h;cases h
  |true =>
    rw[hb]at h;have hc:¬c.toNat > 1 :=(by have := X8 hb;omega);cases h;refine ao.ext (e := Cw) (vs := [.int .u64 a,.int .u64 b,.int .u64 c]) func185 rfl ZF ZF ZF rfl (fun w => ?_) (fun Γ H w => Cy _ _ Γ H w) hK;unfold Cw;rw[ar (Cz _ w a b c hc)];rfl
def CB {a b c:Int}(h:u5 [.lit (.int .u64 a),.lit (.int .u64 b),.lit (.int .u64 c)]=some r)(hK:K (.ret r) H):ao prog G0 (.X 186 [] []) [.lit (.int .u64 a),.lit (.int .u64 b),.lit (.int .u64 c)] H K := by
  simp only[u5]at h;cases hb:Nat.ble c.toNat 1 with
  |false => rw[hb]at h;cases h
  |true =>
    rw[hb]at h;have hc:¬c.toNat > 1 :=(by have := X8 hb;omega);cases h;refine ao.ext (e := Cx) (vs := [.int .u64 a,.int .u64 b,.int .u64 c]) (v := Extern.MathBitsCarry.pair ((a.toNat + 18446744073709551616-b.toNat-c.toNat) % 18446744073709551616) (bif Nat.blt a.toNat (b.toNat + c.toNat) then 1 else 0)) func186 rfl ZF ZF ZF rfl (fun w => ?_) (fun Γ H w => Cy _ _ Γ H w) hK;unfold Cx;rw[ar (Cz _ w a b c hc)];by_cases hl:a.toNat < b.toNat + c.toNat
    · have:Nat.blt a.toNat (b.toNat + c.toNat)=true :=(by rw[Nat.blt_eq];exact hl);rw[this];simp only[hl,if_true,cond_true];rfl
    · have : Nat.blt a.toNat (b.toNat + c.toNat) = false := by
        cases h:Nat.blt a.toNat (b.toNat + c.toNat) with
        |false => rfl
        |true => rw[Nat.blt_eq]at h;exact absurd h hl
      rw[this];simp only[hl,if_false,cond_false];rfl
section
variable {P:Program} {G:Nat -> Option (List ZI)} {Γ Γ':aE} {H H':ZH} {w w':World}
def yS (a b:Int)(ha:0 <= a)(hb:0 < b):Int.gcd b (a % b)=Int.gcd b a := by
  obtain⟨m,rfl⟩ := Vk ha;obtain⟨n,rfl⟩ := Vk (Int.le_of_lt hb);rw[<- Int.natCast_emod];simp only[Zh];rw[XY n m,<- Nat.mod_add_div m n];have := Y3 n m;rw[Nat.mod_add_div];rw[XY m n,this,XY]
end
def qV (n d:Int):ZI := .agg [.lit (.int .i64 n),.lit (.int .i64 d)]
def qN {S:Nat -> Prop}{H:ZH}{nx:Nat}(n d:Int):Fz S H nx (.agg [.lit (.int .i64 n),.lit (.int .i64 d)]) (qV n d) :=
  .agg rfl fun i hi _ => match i,hi with
    |0,_ => .lit _
    |1,_ => .lit _
section
variable {P:Program} {t:TypeId} {x y:Operand} {k k':IntKind} {a b:Int}
def M0 (w:Nat){a:Nat}{n:Nat}(ha:a < 2 ^ w)(hn:n <= w)(hw:0 < w):((BitVec.ofInt w (a:Int) &&& BitVec.ofInt w ((2 ^ n-1:Nat):Int)).toNat)=a % 2 ^ n := by
  have h1:(2:Nat) ^ n <= 2 ^ w := Vq ZE hn;have h0:0 < (2:Nat) ^ n := Xl n;have e1:(BitVec.ofInt w (a:Int)).toNat=a := by rw[BitVec.ofInt_natCast,BitVec.toNat_ofNat,Xw ha]
  have e2:(BitVec.ofInt w ((2 ^ n-1:Nat):Int)).toNat=2 ^ n-1 := by rw[BitVec.ofInt_natCast,BitVec.toNat_ofNat,Xw V]
  rw[BitVec.toNat_and,e1,e2,YV]
def yT (h:0 <= a /\ a < 18446744073709551616):aV P .and t x y (.lit (.int .u64 a)) (.lit (.int .u64 4294967295))=some (.lit (.int .u64 (a % 4294967296))) := by
  obtain⟨n,rfl⟩ := Vk h.1;rw[qd];have := M0 64 (a := n) (n := 32) V ZE ZE;have e:(BitVec.ofInt (IntKind.bits .u64) (n:Int) &&& BitVec.ofInt (IntKind.bits .u64) 4294967295).toNat=n % 4294967296 := this;rw[e,VL _ V];simp
def ta (h:0 <= a /\ a < 18446744073709551616):aV P .shr t x y (.lit (.int .u64 a)) (.lit (.int k' 32))=some (.lit (.int .u64 (a / 4294967296))) := by
  rw[rW ZE];have e:a.fdiv (2 ^ (min (32:Int).toNat (IntKind.bits .u64)))=a / 4294967296 := Ym a ZE;rw[e]
def pureRun_bind {α β:Type}{s:Sem α}{f:α -> Sem β}{a:α}(h:aR P s=some a):aR P (s >>= f)=aR P (f a) := by
  induction s with
  |pure b => simp only[aR,Option.some.injEq]at h;subst h;rfl
  |program k ih => exact ih P h
  |mark m k ih => exact ih h
  |_ => simp[aR]at h
def tc {t:TypeId}{a b:Bool}(n:Nat)(ht:P.underlying t=some .bool):aR P (Op.equalIn (n + 1) t (.bool a) (.bool b))=some (a == b) := by
  unfold Op.equalIn;simp[underlying,program,ht,aR,bind,Sem.bind,pure]
def pt {t:TypeId}{x y:Operand}{a b:Bool}(ht:P.underlying t=some .bool):aV P .eql t x y (.lit (.bool a)) (.lit (.bool b))=some (.lit (.bool (a == b))) := by
  have h1:(do eqGuard .eql t x y (.bool a) (.bool b);binOp .eql t (.bool a) (.bool b))=(Op.equalIn (9999 + 1) t (.bool a) (.bool b) >>= fun r => pure (Value.bool r)) := rfl;show (aR P _).map _=_;rw[h1,pureRun_bind (tc 9999 ht)];rfl
def mf {t:TypeId}{x y:Operand}{a b:Bool}(ht:P.underlying t=some .bool):aV P .neq t x y (.lit (.bool a)) (.lit (.bool b))=some (.lit (.bool (!(a == b)))) := by
  have h1:(do eqGuard .neq t x y (.bool a) (.bool b);binOp .neq t (.bool a) (.bool b))=(Op.equalIn (9999 + 1) t (.bool a) (.bool b) >>= fun r => pure (Value.bool (!r))) := rfl;show (aR P _).map _=_;rw[h1,pureRun_bind (tc 9999 ht)];rfl
end
def CC (n:Int)(hn:-9223372036854775808 <= n /\ n <= 9223372036854775807)(H:ZH)(K:ZN -> ZH -> Prop)(hK:K (.ret (.lit (.int .u64 (n.natAbs:Int)))) H):ae prog G0 96 [.lit (.int .i64 n)] H K := by
  refine ae.st (n := 10) (rs := [.tmp 2]) func96 ?_;by_cases h:n < 0
  · have w1:IntKind.u64.wrap n=n + 18446744073709551616 :=(by rw[xj];omega);have w2:IntKind.u64.wrap (0-(n + 18446744073709551616))=(n.natAbs:Int) :=(by rw[xj];omega);simp only[go_sem,h,w1,w2,aB];exact ak.mk ZG hK
  · have w1:IntKind.u64.wrap n=(n.natAbs:Int) :=(by rw[xj];omega);simp only[go_sem,h,w1,aB];exact ak.mk ZG hK
def yU (a b:Int)(ha:0 <= a)(hb:0 <= b)(H:ZH)(K:ZN -> ZH -> Prop)(hK:K (.ret (.lit (.int .u64 (Int.gcd a b:Int)))) H):ae prog G0 95 [.lit (.int .u64 a),.lit (.int .u64 b)] H K := by
  refine ae.st (n := 12) (rs := [.tmp 4]) func95 ?_;simp only[go_sem,aB];refine W.aT 2019 (by rfl) (fun ρ H' => H'=H /\ ∃x y:Int,ρ 0 = .lit (.int .u64 x) /\ ρ 1 = .lit (.int .u64 y) /\ 0 <= x /\ 0 <= y /\ Int.gcd x y=Int.gcd a b) (fun ρ H => (iv (ρ 1)).toNat) ?_ ?_
  · simp only[go_sem,aB];exact⟨a,b,rfl,rfl,ha,hb,rfl⟩
  rintro ρ H' ⟨rfl,x,y,h0,h1,hx,hy,hg⟩;refine W.vs ?_;by_cases hz:y=0
  · subst hz;have e:x=(Int.gcd a b:Int) :=(by rw[<- hg,Int.gcd_zero_right];omega);simp only[go_sem,h0,h1,aB];rw[e];exact ak.mk ZG hK
  · have m1:x.tmod y=x % y := VS hx;have m2 := XL x hz;have m3 := W7 x (show 0 < y by omega);simp only[go_sem,h0,h1,hz,aB];refine W.dr 5 [0,0,0,6,3] mixed ?_;simp only[go_sem,h0,h1,hz,m1,aB];refine⟨⟨y,x % y,rfl,rfl,hy,m2,?_⟩,V⟩;rw[<- hg,Int.gcd_comm x y];exact yS x y hx (V)
def kg:Int := 4611686018427387903
def bz (n d:Int):Int := if d < 1 \/ d > kg \/ n < -kg \/ n > kg then 5 else if Int.gcd n d ≠ 1 then 5 else 0
def M4 (n d:Int):Int.gcd (n.natAbs:Int) d=Int.gcd n d := by simp[Int.gcd]
def te (n d:Int)(hn:-9223372036854775808 <= n /\ n <= 9223372036854775807)(hd:-9223372036854775808 <= d /\ d <= 9223372036854775807)(H:ZH)(K:ZN -> ZH -> Prop)(hK:K (.ret (.lit (.int .i64 (bz n d)))) H):ae prog G0 55 [qV n d] H K := by
  refine ae.X ⟨_,func55,rfl,rfl⟩ fun hcl => ?_;refine ae.st (n := 29) (rs := [.tmp 2]) func55 ?_;have bad:∀L,bz n d=5 -> ak prog G0 H K (.lit (.int .i64 5)) (ext H L) := fun L h => by
    rw[h]at hK;exact ak.drop aF hcl (.lit _) hK
  by_cases h1:d < 1
  · simp only[go_sem,qV,h1,aB];exact bad _ (by unfold bz;rw[Vf (.inl h1)])
  by_cases h2:4611686018427387903 < d
  · simp only[go_sem,qV,h1,h2,aB];exact bad _ (by unfold bz;rw[Vf (.inr (.inl h2))])
  by_cases h3:n < -4611686018427387903
  · simp only[go_sem,qV,h1,h2,h3,aB];exact bad _ (by unfold bz;rw[Vf (.inr (.inr (.inl h3)))])
  by_cases h4:4611686018427387903 < n
  · simp only[go_sem,qV,h1,h2,h3,h4,aB];exact bad _ (by unfold bz;rw[Vf (.inr (.inr (.inr h4)))])
  simp only[go_sem,qV,h1,h2,h3,h4,aB];refine W.dr 6 [0,1,3,0,8,24] mixed ?_;have w1:IntKind.u64.wrap d=d := VL d V;simp only[go_sem,qV,h1,h2,h3,h4,w1,aB];refine⟨_,[],bD.pure (fun H2 => CC n hn H2 _ ⟨rfl,rfl⟩),?_⟩;simp only[go_sem,qV,h1,h2,h3,h4,w1,aB];refine ao.X (yU _ d V V _ _ ⟨trivial,?_⟩);rw[M4];have ck:bz n d=if Int.gcd n d ≠ 1 then 5 else 0 := by unfold bz;rw[Ve (by unfold kg;omega)]
  by_cases hg:Int.gcd n d=1
  · have hg':((Int.gcd n d:Nat):Int)=1 :=V;simp only[go_sem,hg',aB];rw[ck,Ve (by simpa using hg)]at hK;exact ak.drop aF hcl (.lit _) hK
  · have hg':¬((Int.gcd n d:Nat):Int)=1 :=V;simp only[go_sem,hg',aB];exact bad _ (by rw[ck,Vf hg])
def dk (n:Nat):ZI := .agg [.lit (.int .u64 (n / 18446744073709551616:Nat)),.lit (.int .u64 (n % 18446744073709551616:Nat))]
def M5 {p q r w0 t w1 hi xy B:Nat}(hB:0 < B)(hxy:xy=r * (B * B) + (p + q) * B + w0)(ht:t=p + w0 / B)(hw1:w1=t % B + q)(hhi:hi=r + t / B + w1 / B):
    xy / (B * B)=hi := by
  have e0 := Xm w0 B;have l0 := XX w0 hB;have e1 := Xm t B;have e2 := Xm w1 B;have l2 := XX w1 hB;generalize w0 / B=c0 at *
  generalize w0 % B=r0 at *
  generalize t / B=c1 at *
  generalize t % B=r1 at *
  generalize w1 / B=c2 at *
  generalize w1 % B=r2 at *
  have key:xy=hi * (B * B) + (r2 * B + r0) := by
    subst hhi;have a1:p * B=t * B-c0 * B :=(by rw[ht,VU];omega);have a2:q * B=w1 * B-r1 * B :=(by rw[hw1,VU];omega);have a3:t * B=c1 * (B * B) + r1 * B :=(by rw[<- e1,VU];congr 1;ac_rfl);have a4:w1 * B=c2 * (B * B) + r2 * B :=(by rw[<- e2,VU];congr 1;ac_rfl);have a5:c0 * B <= t * B := VH _ V;have a6:r1 * B <= w1 * B := VH _ V;have a7:w0=c0 * B + r0 :=(by rw[<- e0,WI]);rw[hxy,VU,VU,VU];omega
  have small:r2 * B + r0 < B * B := by
    have:r2 * B + B <= B * B :=(by rw[<- XH];exact VH _ l2);omega
  rw[key];exact Nat.div_eq_of_lt_le (Nat.le_add_right _ _) (by rw[VU,Xt];omega)
def M6 (x y:Nat)(hx:x < 18446744073709551616)(hy:y < 18446744073709551616)(H:ZH)(K:ZN -> ZH -> Prop)
    (hK:K (.ret (.nc [.lit (.int .u64 (x * y / 18446744073709551616:Nat)),.lit (.int .u64 (x * y % 18446744073709551616:Nat))])) H):ae prog G0 141 [.lit (.int .u64 x),.lit (.int .u64 y)] H K := by
  obtain⟨x1,x0,hxe,hx0,hx1⟩:∃x1 x0:Nat,x=x1 * 4294967296 + x0 /\ x0 < 4294967296 /\ x1 < 4294967296 := ⟨x / 4294967296,x % 4294967296,V,V,V⟩
  obtain⟨y1,y0,hye,hy0,hy1⟩:∃y1 y0:Nat,y=y1 * 4294967296 + y0 /\ y0 < 4294967296 /\ y1 < 4294967296 := ⟨y / 4294967296,y % 4294967296,V,V,V⟩
  have bnd:∀a b:Nat,a < 4294967296 -> b < 4294967296 -> a * b <= 18446744065119617025 := fun a b ha hb => by
    have := Xz (show a <= 4294967295 by omega) (show b <= 4294967295 by omega);omega
  obtain⟨w0,hw0⟩:∃w0,w0=x0 * y0 := ⟨_,rfl⟩
  have b0 := bnd x0 y0 hx0 hy0;obtain⟨p,hp⟩:∃p,p=x1 * y0 := ⟨_,rfl⟩
  have b1 := bnd x1 y0 hx1 hy0;obtain⟨q,hq⟩:∃q,q=x0 * y1 := ⟨_,rfl⟩
  have b2 := bnd x0 y1 hx0 hy1;obtain⟨r,hr⟩:∃r,r=x1 * y1 := ⟨_,rfl⟩
  have b3 := bnd x1 y1 hx1 hy1;have hxy:x * y=r * 18446744073709551616 + (p + q) * 4294967296 + w0 := by
    rw[hxe,hye,hr,hp,hq,hw0,VU,Xg,Xg,VU];have e1:x1 * 4294967296 * (y1 * 4294967296)=x1 * y1 * 18446744073709551616 := by
      rw[Nat.mul_mul_mul_comm]
    have e2:x1 * 4294967296 * y0=x1 * y0 * 4294967296 :=(by ac_rfl);have e3:x0 * (y1 * 4294967296)=x0 * y1 * 4294967296 :=(by ac_rfl);rw[e1,e2,e3];omega
  have m1:((x:Int) % 4294967296)=(x0:Nat) := by omega
  have m2:((x:Int) / 4294967296)=(x1:Nat) := by omega
  have m3:((y:Int) % 4294967296)=(y0:Nat) := by omega
  have m4:((y:Int) / 4294967296)=(y1:Nat) := by omega
  have g1:((w0:Int))=(x0:Int) * (y0:Int) := by rw[hw0,WB]
  have g2:((p:Int))=(x1:Int) * (y0:Int) := by rw[hp,WB]
  have g3:((q:Int))=(x0:Int) * (y1:Int) := by rw[hq,WB]
  have g4:((r:Int))=(x1:Int) * (y1:Int) := by rw[hr,WB]
  obtain⟨t,ht⟩:∃t:Nat,t=p + w0 / 4294967296 := ⟨_,rfl⟩
  obtain⟨w1,hw1⟩:∃w1:Nat,w1=t % 4294967296 + q := ⟨_,rfl⟩
  obtain⟨hi,hhi⟩:∃hi:Nat,hi=r + t / 4294967296 + w1 / 4294967296 := ⟨_,rfl⟩
  have hBB:(4294967296:Nat) * 4294967296=18446744073709551616 := by decide
  have r1':x * y / 18446744073709551616=hi := by
    have h2:x * y=r * (4294967296 * 4294967296) + (p + q) * 4294967296 + w0 :=(by rw[hBB];exact hxy);have := M5 ZE h2 ht hw1 hhi;rw[hBB]at this;exact this
  have B0:∀n:Nat,n < 18446744073709551616 -> (0 <= (n:Int) /\ (n:Int) < 18446744073709551616) := fun n h => by omega
  have kx := B0 x hx;have ky := B0 y hy;have kw := B0 w0 V;have kt := B0 t V;have kv := B0 w1 V;have v1 := VL (w0:Int) V;have v2 := VL (p:Int) V;have v3 := VL (q:Int) V;have v4 := VL (r:Int) V;have s1:(p:Int) + (w0:Int) / 4294967296=(t:Int) := by omega
  have s2:(t:Int) % 4294967296 + (q:Int)=(w1:Int) := by omega
  have v5 := VL (t:Int) V;have v6 := VL (w1:Int) V;have s3:(r:Int) + (t:Int) / 4294967296=((r + t / 4294967296:Nat):Int) := by omega
  have v7 := VL ((r + t / 4294967296:Nat):Int) V;have s4:((r + t / 4294967296:Nat):Int) + (w1:Int) / 4294967296=(hi:Int) := by omega
  have v8 := VL (hi:Int) V;have s5:IntKind.u64.wrap ((x:Int) * (y:Int))=((x * y % 18446744073709551616:Nat):Int) := by rw[xj,<- WB];omega
  rw[r1']at hK;refine ae.sw (n := 51) (rs := [.tmp 4,.tmp 5]) func141 ?_;refine W.sq ?_;simp only[go_sem,aB];refine W.env fun E0 hE0 => ?_;have a0_0:E0 0 = .lit (.int .u64 (x:Nat)) := by rw[hE0];rfl
  have a0_1:E0 1 = .lit (.int .u64 (y:Nat)) := by rw[hE0];rfl
  clear hE0;refine W.sq ?_;simp only[go_sem,a0_0,a0_1,m1,yT,kx,aB];refine W.env fun E1 hE1 => ?_;have a1_0:E1 0 = .lit (.int .u64 (x:Nat)) := by rw[hE1];exact a0_0
  have a1_1:E1 1 = .lit (.int .u64 (y:Nat)) := by rw[hE1];exact a0_1
  have a1_6:E1 6 = .lit (.int .u64 (x0:Nat)) := by rw[hE1];rfl
  clear hE1;refine W.sq ?_;simp only[go_sem,a1_0,a1_1,a1_6,m2,ta,kx,aB];refine W.env fun E2 hE2 => ?_;have a2_0:E2 0 = .lit (.int .u64 (x:Nat)) := by rw[hE2];exact a1_0
  have a2_1:E2 1 = .lit (.int .u64 (y:Nat)) := by rw[hE2];exact a1_1
  have a2_6:E2 6 = .lit (.int .u64 (x0:Nat)) := by rw[hE2];exact a1_6
  have a2_7:E2 7 = .lit (.int .u64 (x1:Nat)) := by rw[hE2];rfl
  clear hE2;refine W.sq ?_;simp only[go_sem,a2_0,a2_1,a2_6,a2_7,m3,yT,ky,aB];refine W.env fun E3 hE3 => ?_;have a3_0:E3 0 = .lit (.int .u64 (x:Nat)) := by rw[hE3];exact a2_0
  have a3_1:E3 1 = .lit (.int .u64 (y:Nat)) := by rw[hE3];exact a2_1
  have a3_6:E3 6 = .lit (.int .u64 (x0:Nat)) := by rw[hE3];exact a2_6
  have a3_7:E3 7 = .lit (.int .u64 (x1:Nat)) := by rw[hE3];exact a2_7
  have a3_8:E3 8 = .lit (.int .u64 (y0:Nat)) := by rw[hE3];rfl
  clear hE3;refine W.sq ?_;simp only[go_sem,a3_0,a3_1,a3_6,a3_7,a3_8,m4,ta,ky,aB];refine W.env fun E4 hE4 => ?_;have a4_0:E4 0 = .lit (.int .u64 (x:Nat)) := by rw[hE4];exact a3_0
  have a4_1:E4 1 = .lit (.int .u64 (y:Nat)) := by rw[hE4];exact a3_1
  have a4_6:E4 6 = .lit (.int .u64 (x0:Nat)) := by rw[hE4];exact a3_6
  have a4_7:E4 7 = .lit (.int .u64 (x1:Nat)) := by rw[hE4];exact a3_7
  have a4_8:E4 8 = .lit (.int .u64 (y0:Nat)) := by rw[hE4];exact a3_8
  have a4_9:E4 9 = .lit (.int .u64 (y1:Nat)) := by rw[hE4];rfl
  clear hE4;refine W.sq ?_;simp only[go_sem,a4_0,a4_1,a4_6,a4_7,a4_8,a4_9,<- g1,v1,aB];refine W.env fun E5 hE5 => ?_;have a5_0:E5 0 = .lit (.int .u64 (x:Nat)) := by rw[hE5];exact a4_0
  have a5_1:E5 1 = .lit (.int .u64 (y:Nat)) := by rw[hE5];exact a4_1
  have a5_6:E5 6 = .lit (.int .u64 (x0:Nat)) := by rw[hE5];exact a4_6
  have a5_7:E5 7 = .lit (.int .u64 (x1:Nat)) := by rw[hE5];exact a4_7
  have a5_8:E5 8 = .lit (.int .u64 (y0:Nat)) := by rw[hE5];exact a4_8
  have a5_9:E5 9 = .lit (.int .u64 (y1:Nat)) := by rw[hE5];exact a4_9
  have a5_10:E5 10 = .lit (.int .u64 (w0:Nat)) := by rw[hE5];rfl
  clear hE5;refine W.sq ?_;simp only[go_sem,a5_0,a5_1,a5_6,a5_7,a5_8,a5_9,a5_10,<- g2,v2,ta,kw,s1,v5,aB];refine W.env fun E6 hE6 => ?_;have a6_0:E6 0 = .lit (.int .u64 (x:Nat)) := by rw[hE6];exact a5_0
  have a6_1:E6 1 = .lit (.int .u64 (y:Nat)) := by rw[hE6];exact a5_1
  have a6_6:E6 6 = .lit (.int .u64 (x0:Nat)) := by rw[hE6];exact a5_6
  have a6_7:E6 7 = .lit (.int .u64 (x1:Nat)) := by rw[hE6];exact a5_7
  have a6_8:E6 8 = .lit (.int .u64 (y0:Nat)) := by rw[hE6];exact a5_8
  have a6_9:E6 9 = .lit (.int .u64 (y1:Nat)) := by rw[hE6];exact a5_9
  have a6_10:E6 10 = .lit (.int .u64 (w0:Nat)) := by rw[hE6];exact a5_10
  have a6_11:E6 11 = .lit (.int .u64 (t:Nat)) := by rw[hE6];rfl
  clear hE6;refine W.sq ?_;simp only[go_sem,a6_0,a6_1,a6_6,a6_7,a6_8,a6_9,a6_10,a6_11,yT,kt,aB];refine W.env fun E7 hE7 => ?_;have a7_0:E7 0 = .lit (.int .u64 (x:Nat)) := by rw[hE7];exact a6_0
  have a7_1:E7 1 = .lit (.int .u64 (y:Nat)) := by rw[hE7];exact a6_1
  have a7_6:E7 6 = .lit (.int .u64 (x0:Nat)) := by rw[hE7];exact a6_6
  have a7_7:E7 7 = .lit (.int .u64 (x1:Nat)) := by rw[hE7];exact a6_7
  have a7_8:E7 8 = .lit (.int .u64 (y0:Nat)) := by rw[hE7];exact a6_8
  have a7_9:E7 9 = .lit (.int .u64 (y1:Nat)) := by rw[hE7];exact a6_9
  have a7_10:E7 10 = .lit (.int .u64 (w0:Nat)) := by rw[hE7];exact a6_10
  have a7_11:E7 11 = .lit (.int .u64 (t:Nat)) := by rw[hE7];exact a6_11
  have a7_12:E7 12 = .lit (.int .u64 ((t:Int) % 4294967296)) := by rw[hE7];rfl
  clear hE7;refine W.sq ?_;simp only[go_sem,a7_0,a7_1,a7_6,a7_7,a7_8,a7_9,a7_10,a7_11,a7_12,ta,kt,aB];refine W.env fun E8 hE8 => ?_;have a8_0:E8 0 = .lit (.int .u64 (x:Nat)) := by rw[hE8];exact a7_0
  have a8_1:E8 1 = .lit (.int .u64 (y:Nat)) := by rw[hE8];exact a7_1
  have a8_6:E8 6 = .lit (.int .u64 (x0:Nat)) := by rw[hE8];exact a7_6
  have a8_7:E8 7 = .lit (.int .u64 (x1:Nat)) := by rw[hE8];exact a7_7
  have a8_8:E8 8 = .lit (.int .u64 (y0:Nat)) := by rw[hE8];exact a7_8
  have a8_9:E8 9 = .lit (.int .u64 (y1:Nat)) := by rw[hE8];exact a7_9
  have a8_10:E8 10 = .lit (.int .u64 (w0:Nat)) := by rw[hE8];exact a7_10
  have a8_11:E8 11 = .lit (.int .u64 (t:Nat)) := by rw[hE8];exact a7_11
  have a8_12:E8 12 = .lit (.int .u64 ((t:Int) % 4294967296)) := by rw[hE8];exact a7_12
  have a8_13:E8 13 = .lit (.int .u64 ((t:Int) / 4294967296)) := by rw[hE8];rfl
  clear hE8;refine W.sq ?_;simp only[go_sem,a8_0,a8_1,a8_6,a8_7,a8_8,a8_9,a8_10,a8_11,a8_12,a8_13,<- g3,v3,s2,v6,aB];refine W.env fun E9 hE9 => ?_;have a9_0:E9 0 = .lit (.int .u64 (x:Nat)) := by rw[hE9];exact a8_0
  have a9_1:E9 1 = .lit (.int .u64 (y:Nat)) := by rw[hE9];exact a8_1
  have a9_6:E9 6 = .lit (.int .u64 (x0:Nat)) := by rw[hE9];exact a8_6
  have a9_7:E9 7 = .lit (.int .u64 (x1:Nat)) := by rw[hE9];exact a8_7
  have a9_8:E9 8 = .lit (.int .u64 (y0:Nat)) := by rw[hE9];exact a8_8
  have a9_9:E9 9 = .lit (.int .u64 (y1:Nat)) := by rw[hE9];exact a8_9
  have a9_10:E9 10 = .lit (.int .u64 (w0:Nat)) := by rw[hE9];exact a8_10
  have a9_11:E9 11 = .lit (.int .u64 (t:Nat)) := by rw[hE9];exact a8_11
  have a9_12:E9 12 = .lit (.int .u64 (w1:Nat)) := by rw[hE9];rfl
  have a9_13:E9 13 = .lit (.int .u64 ((t:Int) / 4294967296)) := by rw[hE9];exact a8_13
  clear hE9;refine W.sq ?_;simp only[go_sem,a9_0,a9_1,a9_6,a9_7,a9_8,a9_9,a9_10,a9_11,a9_12,a9_13,<- g4,v4,ta,kv,s3,v7,s4,v8,aB];refine W.env fun E10 hE10 => ?_;have a10_0:E10 0 = .lit (.int .u64 (x:Nat)) := by rw[hE10];exact a9_0
  have a10_1:E10 1 = .lit (.int .u64 (y:Nat)) := by rw[hE10];exact a9_1
  have a10_6:E10 6 = .lit (.int .u64 (x0:Nat)) := by rw[hE10];exact a9_6
  have a10_7:E10 7 = .lit (.int .u64 (x1:Nat)) := by rw[hE10];exact a9_7
  have a10_8:E10 8 = .lit (.int .u64 (y0:Nat)) := by rw[hE10];exact a9_8
  have a10_9:E10 9 = .lit (.int .u64 (y1:Nat)) := by rw[hE10];exact a9_9
  have a10_10:E10 10 = .lit (.int .u64 (w0:Nat)) := by rw[hE10];exact a9_10
  have a10_11:E10 11 = .lit (.int .u64 (t:Nat)) := by rw[hE10];exact a9_11
  have a10_12:E10 12 = .lit (.int .u64 (w1:Nat)) := by rw[hE10];exact a9_12
  have a10_13:E10 13 = .lit (.int .u64 ((t:Int) / 4294967296)) := by rw[hE10];exact a9_13
  have a10_4:E10 4 = .lit (.int .u64 (hi:Nat)) := by rw[hE10];rfl
  clear hE10;refine W.sq ?_;simp only[go_sem,a10_0,a10_1,a10_6,a10_7,a10_8,a10_9,a10_10,a10_11,a10_12,a10_13,a10_4,s5,aB];refine W.env fun E11 hE11 => ?_;have a11_0:E11 0 = .lit (.int .u64 (x:Nat)) := by rw[hE11];exact a10_0
  have a11_1:E11 1 = .lit (.int .u64 (y:Nat)) := by rw[hE11];exact a10_1
  have a11_6:E11 6 = .lit (.int .u64 (x0:Nat)) := by rw[hE11];exact a10_6
  have a11_7:E11 7 = .lit (.int .u64 (x1:Nat)) := by rw[hE11];exact a10_7
  have a11_8:E11 8 = .lit (.int .u64 (y0:Nat)) := by rw[hE11];exact a10_8
  have a11_9:E11 9 = .lit (.int .u64 (y1:Nat)) := by rw[hE11];exact a10_9
  have a11_10:E11 10 = .lit (.int .u64 (w0:Nat)) := by rw[hE11];exact a10_10
  have a11_11:E11 11 = .lit (.int .u64 (t:Nat)) := by rw[hE11];exact a10_11
  have a11_12:E11 12 = .lit (.int .u64 (w1:Nat)) := by rw[hE11];exact a10_12
  have a11_13:E11 13 = .lit (.int .u64 ((t:Int) / 4294967296)) := by rw[hE11];exact a10_13
  have a11_4:E11 4 = .lit (.int .u64 (hi:Nat)) := by rw[hE11];exact a10_4
  have a11_5:E11 5 = .lit (.int .u64 ((x * y % 18446744073709551616:Nat):Int)) := by rw[hE11];rfl
  clear hE11;refine W.vs ?_;simp only[go_sem,a11_4,a11_5,aB];exact ak.mk ZG hK
def M7 (x y:Nat)(hx:x < 18446744073709551616)(hy:y < 18446744073709551616)(H:ZH)(K:ZN -> ZH -> Prop)(hK:K (.ret (dk (x * y))) H):ae prog G0 99 [.lit (.int .u64 x),.lit (.int .u64 y)] H K := by
  refine ae.X ⟨_,func99,rfl,rfl⟩ fun hcl => ?_;refine ae.st (n := 16) (rs := [.cell 4 173]) func99 ?_;simp only[go_sem,aB];refine ao.X (M6 x y hx hy _ _ ⟨trivial,?_⟩);simp only[go_sem,aB];refine ak.drop (v' := dk (x * y)) aF hcl (.agg rfl fun i hi _ => ?_) hK
  match i,hi with
  |0,_ => exact .lit _
  |1,_ => exact .lit _
def yV (x y:Nat)(H:ZH)(K:ZN -> ZH -> Prop)(hK:K (.ret (.lit (.bool (decide (x < y))))) H):ae prog G0 100 [dk x,dk y] H K := by
  refine ae.X ⟨_,func100,rfl,rfl⟩ fun hcl => ?_;obtain⟨a,ha⟩:∃a,a=x / 18446744073709551616 := ⟨_,rfl⟩
  obtain⟨b,hb⟩:∃b,b=x % 18446744073709551616 := ⟨_,rfl⟩
  obtain⟨c,hc⟩:∃c,c=y / 18446744073709551616 := ⟨_,rfl⟩
  obtain⟨d,hd⟩:∃d,d=y % 18446744073709551616 := ⟨_,rfl⟩
  have key:∀v:Bool,v=decide (x < y) -> ak prog G0 H K (.lit (.bool v)) (ext H [.J 0 173 [.lit (.int .u64 a),.lit (.int .u64 b)],.J 0 173 [.lit (.int .u64 c),.lit (.int .u64 d)]]) := fun v h => by
    subst h;exact ak.drop aF hcl (.lit _) hK
  unfold dk;rw[<- ha,<- hb,<- hc,<- hd];refine ae.st (n := 24) (rs := [.tmp 4]) func100 ?_;by_cases h1:(a:Int) < c
  · simp only[go_sem,h1,kL,aB];exact key _ (by rw[VB];omega)
  by_cases h2':a=c
  · subst h2';by_cases h3:(b:Int) < d
    · simp only[go_sem,h1,h3,kL,aB];exact key _ (by rw[VB];omega)
    · simp only[go_sem,h1,h3,kL,aB];exact key _ (by rw[V1];omega)
  · have h2:¬(a:Int)=c :=V;simp only[go_sem,h1,h2,kL,aB];exact key _ (by rw[V1];omega)
section
variable {P:Program} {t e:TypeId} {x y:Operand} {k k':IntKind} {a b c d:Int}
def uX (n:Nat)(he:P.underlying e=some (.int k)):aR P (Op.equalIn (n + 1) e (.int k' a) (.int k' b))=some (a == b) := by
  unfold Op.equalIn;simp[underlying,program,he,aR,bind,Sem.bind,pure]
def yL (n:Nat)(ht:P.underlying t=some (.array 2 e))(he:P.underlying e=some (.int k))(hs:P.cellsOf e=1):
    aR P (Op.equalIn (n + 2) t (.agg #[.int k' a,.int k' b]) (.agg #[.int k' c,.int k' d]))=some (a == c && b == d) := by
  unfold Op.equalIn;have e1:∀ {α:Type} (f:TypeDesc -> Sem α),aR P (underlying t >>= f)=aR P (f (.array 2 e)) := fun f => pureRun_bind (by simp[underlying,program,ht,aR,bind,Sem.bind,pure]);have hinf:∃i,P.info? e=some i /\ i.size=1 := by
    obtain⟨i,hi⟩ := ud he;exact⟨i,hi,by simpa[Program.cellsOf,hi] using hs⟩
  obtain⟨i,hi,hi1⟩ := hinf;have e2:∀ {α:Type} (f:Nat -> Sem α),aR P (sizeOf e >>= f)=aR P (f 1) := fun f => pureRun_bind (by simp[sizeOf,typeInfo,program,hi,hi1,aR,bind,Sem.bind,pure]);have e3:∀ {α:Type} (cs:Array Value) (o:Nat) (v:Value) (f:Value -> Sem α),cs[o]? = some v -> aR P (part e cs o >>= f)=aR P (f v) := fun cs o v f h => pureRun_bind (by simp[part,isAgg,underlying,program,he,h,aR,bind,Sem.bind,pure]);have e4:∀ {α:Type} (p q:Int) (f:Bool -> Sem α),aR P (Op.equalIn (n + 1) e (.int k' p) (.int k' q) >>= f)=aR P (f (p == q)) := fun p q f => pureRun_bind (uX n he);rw[e1];dsimp only;rw[e2];simp only[Std.Legacy.Range.forIn_eq_forIn_range',Std.Legacy.Range.size,List.range',Y6,Zc];simp only[bind_assoc];rw[e3 _ _ (.int k' a) _ rfl,e3 _ _ (.int k' c) _ rfl,e4];by_cases h:(a == c)=true
  · rw[h];simp only[Bool.not_true,Bool.false_eq_true,if_false,pure_bind,bind_assoc];rw[e3 _ _ (.int k' b) _ rfl,e3 _ _ (.int k' d) _ rfl,e4];by_cases h2:(b == d)=true
    · rw[h2];rfl
    · rw[Xd]at h2;rw[h2];rfl
  · rw[Xd]at h;rw[h];rfl
def Ci (ht:P.underlying t=some (.array 2 e))(he:P.underlying e=some (.int k))(hs:P.cellsOf e=1)(hg:P.eqGuardType P.depth t=false):
    aV P .eql t x y (.agg [.lit (.int k' a),.lit (.int k' b)]) (.agg [.lit (.int k' c),.lit (.int k' d)])=some (.lit (.bool (a == c && b == d))) := by
  show (aR P (do eqGuard .eql t x y (.agg #[.int k' a,.int k' b]) (.agg #[.int k' c,.int k' d]);binOp .eql t (.agg #[.int k' a,.int k' b]) (.agg #[.int k' c,.int k' d]))).map _=_;have h0:aR P (eqGuard .eql t x y (.agg #[.int k' a,.int k' b]) (.agg #[.int k' c,.int k' d]))=some () := by
    simp[eqGuard,program,hg,aR,bind,Sem.bind,pure]
  have h1:binOp .eql t (.agg #[.int k' a,.int k' b]) (.agg #[.int k' c,.int k' d])=(Op.equalIn (9998 + 2) t (.agg #[.int k' a,.int k' b]) (.agg #[.int k' c,.int k' d]) >>= fun r => pure (Value.bool r)) := rfl;rw[pureRun_bind h0,h1,pureRun_bind (yL 9998 ht he hs)];rfl
end
def kh (neg:Bool)(n d:Nat):Option ZI := if n <= 4611686018427387903 /\ d <= 4611686018427387903 then some (qV (if neg=true then -(n:Int) else n) d) else none
def CD (o:Option ZI)(H:ZH)(K:ZN -> ZH -> Prop):Prop := (∀v,o=some v -> K (.ret v) H) /\ (o=none -> ∀H',H.A <= H'.A -> K .panic H')
def u9:ja prog 255=some [] := by kernel_rfl
def va:(ZI.agg []).cX=some (.agg #[]) := rfl
def vb:aR prog (Instr.makeInterface 255 (.agg #[]))=some (.iface 255 (.agg #[])) := by kernel_rfl
def M8 (neg:Bool)(n d:Nat)(hn:n < 340282366920938463463374607431768211456)(hd:d < 340282366920938463463374607431768211456)(H:ZH)(K:ZN -> ZH -> Prop)(hK:CD (kh neg n d) H K):
    ae prog G0 168 [.lit (.bool neg),dk n,dk d] H K := by
  refine ae.X ⟨_,func168,rfl,rfl⟩ fun hcl => ?_;refine ae.st (n := 43) (rs := [.cell 6 58]) func168 ?_;by_cases hf:n <= 4611686018427387903 /\ d <= 4611686018427387903
  · have e1:n / 18446744073709551616=0 :=V;have e2:d / 18446744073709551616=0 :=V;have e3:n % 18446744073709551616=n :=V;have e4:d % 18446744073709551616=d :=V;have h1:¬(4611686018427387903:Int) < (n:Int) :=V;have h2:¬(4611686018427387903:Int) < (d:Int) :=V;have w1 := Vb (n:Int) V;have w2 := Vb (d:Int) V;have w3 := Vb (0-(n:Int)) V;have w4:(0:Int)-(n:Int) = -(n:Int) :=V;have hk := hK.1 _ (by unfold kh;rw[Vf hf]);cases neg with
    |true =>
      simp only[go_sem,dk,e1,e2,e3,e4,h1,h2,w1,w2,w3,aB];rw[Vf rfl]at hk;rw[w4];exact ak.drop aF hcl (qN _ _) hk
    |false =>
      simp only[go_sem,dk,e1,e2,e3,e4,h1,h2,w1,w2,w3,aB];rw[Ve ZE]at hk;exact ak.drop aF hcl (qN _ _) hk
  · have hk := hK.2 (by unfold kh;rw[Ve hf]);by_cases a1:((n / 18446744073709551616:Nat):Int)=0
    · by_cases a2:(4611686018427387903:Int) < ((n % 18446744073709551616:Nat):Int)
      · simp only[go_sem,dk,a1,a2,kL,u9,va,vb,aB];exact⟨⟨_,_,rfl⟩,_,iz.refl _ _,by simp[aX],hk _ (by simp[aX])⟩
      · by_cases a3:((d / 18446744073709551616:Nat):Int)=0
        · have a4:(4611686018427387903:Int) < ((d % 18446744073709551616:Nat):Int) :=V;simp only[go_sem,dk,a1,a2,a3,a4,kL,u9,va,vb,aB];exact⟨⟨_,_,rfl⟩,_,iz.refl _ _,by simp[aX],hk _ (by simp[aX])⟩
        · simp only[go_sem,dk,a1,a2,a3,kL,u9,va,vb,aB];exact⟨⟨_,_,rfl⟩,_,iz.refl _ _,by simp[aX],hk _ (by simp[aX])⟩
    · simp only[go_sem,dk,a1,kL,u9,va,vb,aB];exact⟨⟨_,_,rfl⟩,_,iz.refl _ _,by simp[aX],hk _ (by simp[aX])⟩
end Go.Proofs.F01
namespace Go.Proofs.F01
open Go.Hx Tryz
variable {f:FuncId}{a b c d:Int}{b' d' nx p q u v:Nat}{S:Nat -> Prop}{o:Option ZI}{H:ZH}
def yW (a g:Nat):(a:Int).tdiv (g:Int)=((a / g:Nat):Int) := by
  rw[VT V];exact(Xy _ _).symm
def vd (a:Int)(ha:-9223372036854775808 <= a /\ a <= 9223372036854775807)(H2:ZH)(K:ZN -> ZH -> Prop)(h:K (.ret (.lit (.int .u64 (a.natAbs:Int)))) H2):ae prog G0 96 [.lit (.int .i64 a)] H2 K := CC a ha H2 K h
def ve (x y:Nat)(hx:x <= 4611686018427387903)(hy:y <= 4611686018427387903)(H2:ZH)(K:ZN -> ZH -> Prop)(h:K (.ret (dk (x * y))) H2):ae prog G0 99 [.lit (.int .u64 (x:Int)),.lit (.int .u64 (y:Int))] H2 K := M7 x y V V H2 K h
def vf {neg:Bool}{n d:Nat}{u:ZI}(h:kh neg n d=some u):∃x y,u=qV x y := by
  unfold kh at h;split at h
  · cases h;exact⟨_,_,rfl⟩
  · cases h
def CE (x y:Int):Z3 H (.agg [.lit (.int .i64 x),.lit (.int .i64 y)]) (qV x y) := .agg rfl fun i hi _ => match i,hi with
  |0,_ => .lit _
  |1,_ => .lit _
def CF (h:∀u,o=some u -> ∃x y,u=qV x y):∃x y e,sW tw o = .nc [.agg [.lit (.int .i64 x),.lit (.int .i64 y)],.lit (.int .i64 e)] := by
  cases o with
  |none => exact⟨0,0,6,rfl⟩
  |some u =>
    obtain⟨x,y,rfl⟩ := h u rfl;exact⟨x,y,0,rfl⟩
def vg (x y e:Int):Fz S H nx (.nc [.agg [.lit (.int .i64 x),.lit (.int .i64 y)],.lit (.int .i64 e)]) (.nc [.agg [.lit (.int .i64 x),.lit (.int .i64 y)],.lit (.int .i64 e)]) :=
  .nc rfl fun i hi _ => match i,hi with
    |0,_ => qN _ _
    |1,_ => .lit _
def vh (x y:Int):Below 0 (.agg [.lit (.int .i64 x),.lit (.int .i64 y)]) := .agg fun i h => match i,h with
  |0,_ => .lit _
  |1,_ => .lit _
def M9 (ho:∀u,o=some u -> ∃x y,u=qV x y)(hf:ae prog G0 f [qV a b,qV c d] cR (mI o)):
    ae prog G0 164 [.ni [.X f [] []] 0,.ni [.lit (.int .i64 a),.lit (.int .i64 b)] 0,.ni [.lit (.int .i64 c),.lit (.int .i64 d)] 0] cR (mI o) := by
  refine ae.X ⟨_,func164,rfl,rfl⟩ fun hcl => ?_;refine ae.st (n := 8) (rs := [.cell 3 58]) func164 ?_;simp only[go_sem,aB];refine ao.X ((ae.sA (args := [qV a b,qV c d]) aF rfl (fun i hi _ => .plain (match i,hi with |0,_ => vh a b |1,_ => vh c d)) hf).mono ?_);rintro r H' ⟨rfl,rfl⟩;refine⟨trivial,?_⟩;cases o with
  |none => exact⟨_,iz.refl _ _,WH _,rfl⟩
  |some u =>
    obtain⟨x,y,rfl⟩ := ho u rfl;show opsV _ _ _ _ _ _ _;simp only[go_sem,qV,aB];exact ak.mk (WH _) ⟨_,rfl,CE x y⟩
def mP (a b c d:Int)(o:Option ZI):ZI := if bz a b=0 /\ bz c d=0 then sW tw o else .nc [qV 0 0,.lit (.int .i64 5)]
def Na (ra:(-9223372036854775808 <= a /\ a <= 9223372036854775807) /\ (-9223372036854775808 <= b /\ b <= 9223372036854775807))(rc:(-9223372036854775808 <= c /\ c <= 9223372036854775807) /\ (-9223372036854775808 <= d /\ d <= 9223372036854775807))
    (ho:∀u,o=some u -> ∃x y,u=qV x y) (hf:bz a b=0 -> bz c d=0 -> ae prog G0 f [qV a b,qV c d] cR (mI o)) (H:ZH) (K:ZN -> ZH -> Prop) (hK:K (.ret (mP a b c d o)) H):
    ae prog G0 128 [qV a b,qV c d,.X f [] []] H K := by
  refine ae.X ⟨_,func128,rfl,rfl⟩ fun hcl => ?_;refine ae.st (n := 22) (rs := [.cell 6 58,.tmp 7]) func128 ?_;simp only[go_sem,qV,aB];refine ao.X (te a b ra.1 ra.2 _ _ ⟨trivial,?_⟩);by_cases h1:bz a b=0;rotate_left
  · unfold mP at hK;rw[Ve fun h => h1 h.1]at hK;simp only[go_sem,h1,kL,aB];exact ak.drop aF hcl (vg 0 0 5) hK
  rw[h1];simp only[go_sem,aB];refine ao.X (te c d rc.1 rc.2 _ _ ⟨trivial,?_⟩);by_cases h2:bz c d=0;rotate_left
  · unfold mP at hK;rw[Ve fun h => h2 h.2]at hK;simp only[go_sem,h2,aB];exact ak.drop aF hcl (vg 0 0 5) hK
  rw[h2];unfold mP at hK;rw[Vf ⟨h1,h2⟩]at hK;simp only[go_sem,aB];obtain⟨H1,hH1⟩:∃H1,H1=ext H [.J 0 58 [.lit (.int .i64 a),.lit (.int .i64 b)],.J 0 58 [.lit (.int .i64 c),.lit (.int .i64 d)],.J 0 203 (ZI.X f [] []).cells,.J 0 58 [.lit (.int .i64 0),.lit (.int .i64 0)]] := ⟨_,rfl⟩
  have n1:H1.A=H.A + 4:=hH1▸rfl
  have k0:=dI hH1
  have k1:=gE hH1 1 rfl
  have k2:H1.get (H.A + 2)=some (.J 0 203 [.X f [] []]) := by rw[hH1];exact bN H _ 2 (ZD)
  rw[<- hH1];refine ao.X ((Qm aF 164 [.O (H.A + 2) 0 0,.O H.A 0 0,.O (H.A + 1) 0 0] [.ni [.X f [] []] 0,.ni [.lit (.int .i64 a),.lit (.int .i64 b)] 0,.ni [.lit (.int .i64 c),.lit (.int .i64 d)] 0] H1 o rfl (fun H2 hag i h h' => ?_) (fun u hu => ?_) (M9 ho (hf h1 h2))).mono ?_)
  · match i,h with
    |0,_ => exact .nN trivial ((hag _ V).trans k2) ZD rfl fun i hi _ => match i,hi with |0,_ => .X rfl rfl (fun i h _ => absurd h (Vs _)) (fun i h _ => absurd h (Vs _))
    |1,_ => exact .nN trivial ((hag _ V).trans k0) ZD rfl fun i hi _ => match i,hi with |0,_ => .lit _ |1,_ => .lit _
    |2,_ => exact .nN trivial ((hag _ V).trans k1) ZD rfl fun i hi _ => match i,hi with |0,_ => .lit _ |1,_ => .lit _
  · obtain⟨x,y,rfl⟩ := ho u hu;rfl
  · rintro r H' ⟨rfl,rfl⟩;refine⟨trivial,?_⟩;obtain⟨x,y,e,he⟩ := CF ho;rw[he]at hK ⊢;rw[hH1];simp only[go_sem,aB];exact ak.drop aF hcl (vg x y e) hK
def Nb (ho:∀u,o=some u -> ∃x y,u=qV x y):∃x y e,mP a b c d o = .nc [.agg [.lit (.int .i64 x),.lit (.int .i64 y)],.lit (.int .i64 e)] := by
  unfold mP;split
  · exact CF ho
  · exact⟨0,0,5,rfl⟩
def px {n:Int}(h:bz n d=0):(-4611686018427387903 <= n /\ n <= 4611686018427387903) /\ (1 <= d /\ d <= 4611686018427387903) /\ Int.gcd n d=1 := by
  unfold bz kg at h;by_cases h2:d < 1 \/ d > 4611686018427387903 \/ n < -4611686018427387903 \/ n > 4611686018427387903
  · rw[Vf h2]at h;exact absurd h (ZE)
  · rw[Ve h2]at h;by_cases h3:Int.gcd n d ≠ 1
    · rw[Vf h3]at h;exact absurd h (ZE)
    · exact⟨V,V,V⟩
def qO {hi lo:Nat}(hl:lo < 18446744073709551616):dk (hi * 18446744073709551616 + lo) = .agg [.lit (.int .u64 (hi:Int)),.lit (.int .u64 (lo:Int))] := by
  unfold dk;have e1:(hi * 18446744073709551616 + lo) / 18446744073709551616=hi := by omega
  have e2:(hi * 18446744073709551616 + lo) % 18446744073709551616=lo := by omega
  rw[e1,e2]
def yX :Fz S H nx (.agg [.lit (.int .u64 a),.lit (.int .u64 b)]) (.agg [.lit (.int .u64 a),.lit (.int .u64 b)]) := .agg rfl fun i hi _ => match i,hi with
  |0,_ => .lit _
  |1,_ => .lit _
def vj (x:Nat)(hx:x < 18446744073709551616 * 18446744073709551616):∃hi lo:Nat,x=hi * 18446744073709551616 + lo /\ hi < 18446744073709551616 /\ lo < 18446744073709551616 := ⟨x / 18446744073709551616,x % 18446744073709551616,V,V,V⟩
def CG (a b c:Nat)(hc:c <= 1)(hu:u=(a + b + c) % 18446744073709551616)(hv:v=(a + b + c) / 18446744073709551616):fP [.lit (.int .u64 (a:Int)),.lit (.int .u64 (b:Int)),.lit (.int .u64 (c:Int))]=some (.nc [.lit (.int .u64 (u:Int)),.lit (.int .u64 (v:Int))]) := by
  have h:Nat.ble c 1=true := YD hc;simp only[fP,Int.toNat_natCast,h,cond_true,Zr,<- hu,<- hv]
def CH (a b c:Nat)(hc:c <= 1)(hu:u=(a + 18446744073709551616-b-c) % 18446744073709551616)(hv:v=bif Nat.blt a (b + c) then 1 else 0):u5 [.lit (.int .u64 (a:Int)),.lit (.int .u64 (b:Int)),.lit (.int .u64 (c:Int))]=some (.nc [.lit (.int .u64 (u:Int)),.lit (.int .u64 (v:Int))]) := by
  have h:Nat.ble c 1=true := YD hc;simp only[u5,Int.toNat_natCast,h,cond_true,Zr,<- hu,<- hv]
def Nc (x y:Nat)(hxy:x + y < 18446744073709551616 * 18446744073709551616)(H:ZH)(K:ZN -> ZH -> Prop)(hK:K (.ret (dk (x + y))) H):ae prog G0 165 [dk x,dk y] H K := by
  refine ae.X ⟨_,func165,rfl,rfl⟩ fun hcl => ?_;obtain⟨h1,l1,rfl,b1,b2⟩ := vj x V;obtain⟨h2,l2,rfl,b3,b4⟩ := vj y V;obtain⟨u,hu⟩:∃u,u=(l1 + l2 + 0) % 18446744073709551616 := ⟨_,rfl⟩
  obtain⟨c,hc⟩:∃c,c=(l1 + l2 + 0) / 18446744073709551616 := ⟨_,rfl⟩
  obtain⟨v,hv⟩:∃v,v=h1 + h2 + c := ⟨_,rfl⟩
  have eq:h1 * 18446744073709551616 + l1 + (h2 * 18446744073709551616 + l2)=v * 18446744073709551616 + u := by omega
  have ul:u < 18446744073709551616 := by omega
  rw[eq,qO ul]at hK;rw[qO b2,qO b4];have k1 := CG l1 l2 0 ZE hu hc;have k2 := CG h1 h2 c V (u := v) (v := 0) V V;clear eq hu hc hv hxy;refine ae.st (n := 29) (rs := [.cell 4 173]) func165 ?_;simp only[go_sem,aB];refine CA k1 ⟨trivial,?_⟩;simp only[go_sem,aB];refine CA k2 ⟨trivial,?_⟩;simp only[go_sem,aB];exact ak.drop aF hcl yX hK
def CI (x y:Nat)(hxy:y <= x)(hx:x < 18446744073709551616 * 18446744073709551616)(H:ZH)(K:ZN -> ZH -> Prop)(hK:K (.ret (dk (x-y))) H):ae prog G0 166 [dk x,dk y] H K := by
  refine ae.X ⟨_,func166,rfl,rfl⟩ fun hcl => ?_;obtain⟨h1,l1,rfl,b1,b2⟩ := vj x hx;obtain⟨h2,l2,rfl,b3,b4⟩ := vj y V;obtain⟨c,hc⟩:∃c:Nat,c=bif Nat.blt l1 (l2 + 0) then 1 else 0 := ⟨_,rfl⟩
  have hc2:(l1 < l2 /\ c=1) \/ (l2 <= l1 /\ c=0) := by
    by_cases h:l1 < l2
    · exact .inl ⟨h,by rw[hc,show Nat.blt l1 (l2 + 0)=true from YD h];rfl⟩
    · exact .inr ⟨V,by rw[hc,show Nat.blt l1 (l2 + 0)=false from Bool.eq_false_iff.2 fun h' => h (X8 h')];rfl⟩
  obtain⟨u,hu⟩:∃u,u=(l1 + 18446744073709551616-l2-0) % 18446744073709551616 := ⟨_,rfl⟩
  obtain⟨v,hv⟩:∃v,v=h1-h2-c := ⟨_,rfl⟩
  have ul:u < 18446744073709551616 := by omega
  have hle:h2 + c <= h1 := by rcases hc2 with ⟨_,h⟩ |⟨_,h⟩ <;> subst h <;> omega
  have eq:h1 * 18446744073709551616 + l1-(h2 * 18446744073709551616 + l2)=v * 18446744073709551616 + u := by
    rcases hc2 with ⟨_,h⟩ |⟨_,h⟩ <;> subst h <;> omega
  rw[eq,qO ul]at hK;rw[qO b2,qO b4];have k1 := CH l1 l2 0 ZE hu hc;have hb:Nat.blt h1 (h2 + c)=false := Bool.eq_false_iff.2 fun h' => by
    have := X8 h';omega
  have k2 := CH h1 h2 c V (u := v) (v := 0) V (by rw[hb];rfl);clear eq hu hc hv hxy hx;refine ae.st (n := 29) (rs := [.cell 4 173]) func166 ?_;simp only[go_sem,aB];refine CB k1 ⟨trivial,?_⟩;simp only[go_sem,aB];refine CB k2 ⟨trivial,?_⟩;simp only[go_sem,aB];exact ak.drop aF hcl yX hK
def CJ (lo y:Nat)(hy:y ≠ 0)(hl:lo < 18446744073709551616)(hyW:y < 18446744073709551616)(H:ZH)(K:ZN -> ZH -> Prop)
    (hK:K (.ret (.nc [.lit (.int .u64 ((lo / y:Nat):Int)),.lit (.int .u64 ((lo % y:Nat):Int))])) H):ae prog G0 187 [.lit (.int .u64 0),.lit (.int .u64 (lo:Int)),.lit (.int .u64 (y:Int))] H K := by
  refine ae.X ⟨_,func187,rfl,rfl⟩ fun hcl => ?_;have q1:(lo:Int).tdiv (y:Int)=((lo / y:Nat):Int) := by rw[VT (Int.natCast_nonneg _)];rfl
  have q2:(lo:Int).tmod (y:Int)=((lo % y:Nat):Int) := by rw[VS (Int.natCast_nonneg _)];rfl
  have l1:lo / y <= lo := Wq _ _;have l2:lo % y <= lo := Nat.mod_le _ _;have n1:¬(y:Int)=0 := by omega
  have n2:(0:Int) < (y:Int) := by omega
  have n3:¬(y:Int) <= 0 := by omega
  generalize lo / y=q at *
  generalize lo % y=r at *
  have w1 := VL (q:Int) V;have w2 := VL (r:Int) V;refine ae.st (n := 135) (rs := [.tmp 6,.tmp 7]) func187 ?_;simp only[go_sem,n1,n2,n3,aB];refine W.dr 7 [0,0,3,0,0,24,7] mixed ?_;simp only[go_sem,q1,q2,w1,w2,n1,n2,n3,aB];exact ak.bB aF hcl (.refl _) (.nc rfl fun i hi _ => match i,hi with |0,_ => .lit _ |1,_ => .lit _) hK
def Nd (lo y:Nat)(hy:y ≠ 0)(hl:lo < 18446744073709551616)(hyW:y < 18446744073709551616)(H:ZH)(K:ZN -> ZH -> Prop)
    (hK:K (.ret (.lit (.int .u64 ((lo % y:Nat):Int)))) H):ae prog G0 167 [.lit (.int .u64 0),.lit (.int .u64 (lo:Int)),.lit (.int .u64 (y:Int))] H K := by
  refine ae.X ⟨_,func167,rfl,rfl⟩ fun hcl => ?_;have q2:(0:Int).tmod (y:Int)=0 := Int.zero_tmod _;have n1:¬(y:Int)=0 := by omega
  refine ae.st (n := 19) (rs := [.tmp 6]) func167 ?_;simp only[go_sem,q2,n1,aB];refine ao.X (CJ lo y hy hl hyW _ _ ⟨trivial,?_⟩);simp only[go_sem,aB];exact ak.bB aF hcl (.refl _) (.lit _) hK
def Nf (x d:Nat)(hx:x < 18446744073709551616)(hd:d ≠ 0)(hdW:d < 18446744073709551616)(H:ZH)(K:ZN -> ZH -> Prop)(hK:K (.ret (.agg [.lit (.int .u64 0),.lit (.int .u64 ((x / d:Nat):Int))])) H):
    ae prog G0 169 [.agg [.lit (.int .u64 0),.lit (.int .u64 (x:Int))],.lit (.int .u64 (d:Int))] H K := by
  refine ae.X ⟨_,func169,rfl,rfl⟩ fun hcl => ?_;have q1:(0:Int).tdiv (d:Int)=0 := Int.zero_tdiv _;have q2:(0:Int).tmod (d:Int)=0 := Int.zero_tmod _;have n1:¬(d:Int)=0 := by omega
  have dv := CJ x d hd hx hdW;generalize x / d=q at *
  generalize x % d=r at *
  refine ae.st (n := 24) (rs := [.cell 4 173]) func169 ?_;simp only[go_sem,aB];refine W.dr 12 [0,1,0,7,0,16,0,127,255,511,511,1023] mixed ?_;simp only[go_sem,q2,n1,aB];refine⟨_,[],bD.pure fun H2 => dv H2 _ ⟨rfl,rfl⟩,?_⟩;simp only[go_sem,q1,n1,aB];exact ak.drop aF hcl yX hK
def Ng {g T:Nat}(h1:Nat.Coprime T b')(h2:Nat.Coprime T d')(hg:0 < g):
    Nat.gcd (g * T) ((g * b') * (g * d'))=g * Nat.gcd T g /\ g * T / (g * Nat.gcd T g)=T / Nat.gcd T g /\ (g * b') * (g * d') / (g * Nat.gcd T g)=b' * (g * d' / Nat.gcd T g) := by
  have e:(g * b') * (g * d')=g * (b' * (d' * g)) := by ac_rfl
  have k:Nat.gcd T (b' * (d' * g))=Nat.gcd T g := by
    rw[Nat.Coprime.gcd_mul_left_cancel_right _ (Nat.Coprime.symm h1),Nat.Coprime.gcd_mul_left_cancel_right _ (Nat.Coprime.symm h2)]
  refine⟨?_,?_,?_⟩
  · rw[e,Nat.gcd_mul_left,k]
  · rw[Ye _ _ hg]
  · rw[e,Ye _ _ hg,WI d' g];exact Nat.mul_div_assoc _ (YP (W0 T g) (Nat.dvd_mul_right g d'))
def yY {z p q b':Nat}(h:Nat.Coprime p b')(e:∀k,k ∣ z -> k ∣ b' -> k ∣ p):Nat.Coprime z b' := by
  have hd:Nat.gcd z b' ∣ Nat.gcd p b' := Nat.dvd_gcd (e _ (Yz z b') (W0 z b')) (W0 z b');rw[show Nat.gcd p b'=1 from h]at hd;exact Nat.dvd_one.1 hd
def CK (h:Nat.Coprime p b'):Nat.Coprime (p + q * b') b' := yY (q := q) h fun k h1 h2 => (Nat.dvd_add_left (YP h2 (YY b' q))).1 h1
def CL {z:Nat}(h:Nat.Coprime p b')(e:p=z + q * b'):Nat.Coprime z b' := yY (q := q) h fun k h1 h2 => by rw[e];exact Nat.dvd_add h1 (YP h2 (YY b' q))
def CM {z:Nat}(h:Nat.Coprime p b')(e:q * b'=z + p):Nat.Coprime z b' := yY (q := q) h fun k h1 h2 => (Nat.dvd_add_right h1).1 (by rw[<- e];exact YP h2 (YY b' q))
def Nh {A C T:Nat}(hA:Nat.Coprime A b')(hC:Nat.Coprime C d')(hbd:Nat.Coprime b' d')(hT:T=A * d' + C * b' \/ A * d'=T + C * b' \/ C * b'=T + A * d'):Nat.Coprime T b' /\ Nat.Coprime T d' := by
  have x1:Nat.Coprime (A * d') b' := Nat.Coprime.mul_left hA hbd.symm;have y1:Nat.Coprime (C * b') d' := Nat.Coprime.mul_left hC hbd;rcases hT with hT |hT |hT
  · exact⟨by rw[hT];exact CK x1,by rw[hT,Nat.add_comm];exact CK y1⟩
  · exact⟨CL x1 hT,CM y1 hT⟩
  · exact⟨CM x1 hT,CL y1 hT⟩
def Ni {A B C D g T TR:Nat}(hAB:Nat.gcd A B=1)(hCD:Nat.gcd C D=1)(hB:0 < B)(hg:g=Nat.gcd B D)(hb':b'=B / g)(hd':d'=D / g)
    (hT:T=A * d' + C * b' \/ A * d'=T + C * b' \/ C * b'=T + A * d') (hTR:TR=g * T):
    TR / Nat.gcd TR (B * D)=T / Nat.gcd T g /\ B * D / Nat.gcd TR (B * D)=b' * (D / Nat.gcd T g) := by
  have pg:0 < g := by rw[hg];exact Nat.gcd_pos_of_pos_left _ hB
  have eB:B=g * b' := by rw[hb',Yh (by rw[hg];exact Yz B D)]
  have eD:D=g * d' := by rw[hd',Yh (by rw[hg];exact W0 B D)]
  have k:Nat.Coprime b' d' := by rw[hb',hd',hg];exact Nat.coprime_div_gcd_div_gcd (by rw[<- hg];exact pg)
  have kA:Nat.Coprime A b' := Nat.Coprime.coprime_dvd_right ⟨g,by rw[eB,WI]⟩ hAB;have kC:Nat.Coprime C d' := Nat.Coprime.coprime_dvd_right ⟨g,by rw[eD,WI]⟩ hCD;obtain⟨c1,c2⟩ := Nh kA kC k hT;obtain⟨e1,e2,e3⟩ := Ng c1 c2 pg;clear hb' hd' hg;subst hTR;rw[eB,eD,e1];exact⟨e2,e3⟩
def je (a b d:Int):Nat := a.natAbs * (d.natAbs / Int.gcd b d)
def jf (b c d:Int):Nat := c.natAbs * (b.natAbs / Int.gcd b d)
def mg (a b c d:Int):Nat := if (a < 0 ↔ c < 0) then je a b d + jf b c d else if je a b d < jf b c d then jf b c d-je a b d else je a b d-jf b c d
def yZ (a b c d:Int):Bool := if (a < 0 ↔ c < 0) then decide (a < 0) else if je a b d < jf b c d then !decide (a < 0) else decide (a < 0)
def om (a b c d:Int):Option ZI := kh (yZ a b c d) (mg a b c d / Nat.gcd (mg a b c d) (Int.gcd b d)) (b.natAbs / Int.gcd b d * (d.natAbs / Nat.gcd (mg a b c d) (Int.gcd b d)))
def Nj (a b c d:Int)(ha:-4611686018427387903 <= a /\ a <= 4611686018427387903)(hb:1 <= b /\ b <= 4611686018427387903)(hc:-4611686018427387903 <= c /\ c <= 4611686018427387903)(hd:1 <= d /\ d <= 4611686018427387903)
    (hsm:mg a b c d < 18446744073709551616) (H:ZH) (K:ZN -> ZH -> Prop) (hK:CD (om a b c d) H K):ae prog G0 130 [qV a b,qV c d] H K := by
  refine ae.X ⟨_,func130,rfl,rfl⟩ fun hcl => ?_;have wb := VL b V;have wd := VL d V;have g0:0 < Int.gcd b d := WV _ V;obtain⟨B,hB⟩:∃B:Nat,(B:Int)=b := ⟨b.natAbs,V⟩
  obtain⟨D,hD⟩:∃D:Nat,(D:Int)=d := ⟨d.natAbs,V⟩
  have hBn:b.natAbs=B := by omega
  have hDn:d.natAbs=D := by omega
  have hgB:Int.gcd b d <= B := by rw[<- hBn];exact Yw V (Yz _ _)
  unfold om at hK;have eX:je a b d=a.natAbs * (D / Int.gcd b d) := by unfold je;rw[hDn]
  have eY:jf b c d=c.natAbs * (B / Int.gcd b d) := by unfold jf;rw[hBn]
  have eT:mg a b c d=if (a < 0 ↔ c < 0) then je a b d + jf b c d else if je a b d < jf b c d then jf b c d-je a b d else je a b d-jf b c d := rfl
  have eS:yZ a b c d=if (a < 0 ↔ c < 0) then decide (a < 0) else if je a b d < jf b c d then !decide (a < 0) else decide (a < 0) := rfl
  rw[hBn,hDn]at hK;have cm1 := fun H2 K h => yU b d V V H2 K h;generalize mg a b c d=T at *
  generalize yZ a b c d=S at *
  generalize je a b d=X at *
  generalize jf b c d=Y at *
  generalize Int.gcd b d=g at *
  have gne:¬(g:Int)=0 := by omega
  have q1 := yW D g;have q2 := yW B g;have b1:D / g <= D := Wq _ _;have b2:B / g <= B := Wq _ _;have bX:X <= 4611686018427387903 * 4611686018427387903 := by rw[eX];exact Xz V (V)
  have bY:Y <= 4611686018427387903 * 4611686018427387903 := by rw[eY];exact Xz V (V)
  obtain⟨xh,exh⟩:∃z,z=X / 18446744073709551616 := ⟨_,rfl⟩
  obtain⟨xl,exl⟩:∃z,z=X % 18446744073709551616 := ⟨_,rfl⟩
  obtain⟨yh,eyh⟩:∃z,z=Y / 18446744073709551616 := ⟨_,rfl⟩
  obtain⟨yl,eyl⟩:∃z,z=Y % 18446744073709551616 := ⟨_,rfl⟩
  obtain⟨th,eth⟩:∃z,z=T / 18446744073709551616 := ⟨_,rfl⟩
  obtain⟨tl,etl⟩:∃z,z=T % 18446744073709551616 := ⟨_,rfl⟩
  have wX:dk X = .agg [.lit (.int .u64 (xh:Int)),.lit (.int .u64 (xl:Int))] := by unfold dk;rw[<- exh,<- exl]
  have wY:dk Y = .agg [.lit (.int .u64 (yh:Int)),.lit (.int .u64 (yl:Int))] := by unfold dk;rw[<- eyh,<- eyl]
  have wT:dk T = .agg [.lit (.int .u64 0),.lit (.int .u64 (tl:Int))] := by unfold dk;rw[<- eth,<- etl,show th=0 by omega];rfl
  have eth0:th=0 := by omega
  have eT2:T=tl := by omega
  have btl:tl < 18446744073709551616 := by omega
  clear exh exl eyh eyl eth etl;subst eth0;have tx:∀H2 K,K (.ret (.agg [.lit (.int .u64 (xh:Int)),.lit (.int .u64 (xl:Int))])) H2 -> ae prog G0 99 [.lit (.int .u64 (a.natAbs:Int)),.lit (.int .u64 ((D / g:Nat):Int))] H2 K := fun H2 K h => ve _ _ V V H2 K (by rw[<- eX,wX];exact h);have ty:∀H2 K,K (.ret (.agg [.lit (.int .u64 (yh:Int)),.lit (.int .u64 (yl:Int))])) H2 -> ae prog G0 99 [.lit (.int .u64 (c.natAbs:Int)),.lit (.int .u64 ((B / g:Nat):Int))] H2 K := fun H2 K h => ve _ _ V V H2 K (by rw[<- eY,wY];exact h);clear eX eY;generalize D / g=p1 at *
  generalize B / g=p2 at *
  have u1 := VL (p1:Int) V;have u2 := VL (p2:Int) V;have u3 := VL (g:Int) V;rw[hD]at q1;rw[hB]at q2;have ls:∀H2 K,K (.ret (.lit (.bool (decide (X < Y))))) H2 -> ae prog G0 100 [.agg [.lit (.int .u64 (xh:Int)),.lit (.int .u64 (xl:Int))],.agg [.lit (.int .u64 (yh:Int)),.lit (.int .u64 (yl:Int))]] H2 K := fun H2 K h => by rw[<- wX,<- wY];exact yV X Y H2 K h
  have ps:(a < 0 ↔ c < 0) -> ∀H2 K,K (.ret (.agg [.lit (.int .u64 0),.lit (.int .u64 (tl:Int))])) H2 -> ae prog G0 165 [.agg [.lit (.int .u64 (xh:Int)),.lit (.int .u64 (xl:Int))],.agg [.lit (.int .u64 (yh:Int)),.lit (.int .u64 (yl:Int))]] H2 K := fun h0 H2 K h => by
    rw[Vf h0]at eT;rw[<- wX,<- wY];exact Nc X Y V H2 K (by rw[<- eT,wT];exact h)
  have m1:¬(a < 0 ↔ c < 0) -> X < Y -> ∀H2 K,K (.ret (.agg [.lit (.int .u64 0),.lit (.int .u64 (tl:Int))])) H2 -> ae prog G0 166 [.agg [.lit (.int .u64 (yh:Int)),.lit (.int .u64 (yl:Int))],.agg [.lit (.int .u64 (xh:Int)),.lit (.int .u64 (xl:Int))]] H2 K := fun h0 h1 H2 K h => by
    rw[Ve h0,Vf h1]at eT;rw[<- wX,<- wY];exact CI Y X V V H2 K (by rw[<- eT,wT];exact h)
  have m2:¬(a < 0 ↔ c < 0) -> ¬X < Y -> ∀H2 K,K (.ret (.agg [.lit (.int .u64 0),.lit (.int .u64 (tl:Int))])) H2 -> ae prog G0 166 [.agg [.lit (.int .u64 (xh:Int)),.lit (.int .u64 (xl:Int))],.agg [.lit (.int .u64 (yh:Int)),.lit (.int .u64 (yl:Int))]] H2 K := fun h0 h1 H2 K h => by
    rw[Ve h0,Ve h1]at eT;rw[<- wX,<- wY];exact CI X Y V V H2 K (by rw[<- eT,wT];exact h)
  have bT:T < 18446744073709551616 * 18446744073709551616 := by
    rw[eT];split
    · omega
    · split <;> omega
  have hh0:0 < Nat.gcd T g := Ze _ g0;have hhg:Nat.gcd T g <= g := Yw g0 (W0 _ _);have e9:Nat.gcd (T % g) g=Nat.gcd T g := by rw[<- Y3,XY]
  obtain⟨rr,err⟩:∃z,z=T % g := ⟨_,rfl⟩
  have rm:∀H2 K,K (.ret (.lit (.int .u64 (rr:Int)))) H2 -> ae prog G0 167 [.lit (.int .u64 0),.lit (.int .u64 (tl:Int)),.lit (.int .u64 (g:Int))] H2 K := fun H2 K h => Nd tl g V btl V H2 K (by rw[<- eT2,<- err];exact h);have cm2:∀H2 K,K (.ret (.lit (.int .u64 ((Nat.gcd T g:Nat):Int)))) H2 -> ae prog G0 95 [.lit (.int .u64 (rr:Int)),.lit (.int .u64 (g:Int))] H2 K := fun H2 K h => yU _ _ V V H2 K (by
    have:Int.gcd (rr:Int) (g:Int)=Nat.gcd T g :=(by rw[Zh,err,e9]);rw[this];exact h)
  have ov:∀h:Nat,h ≠ 0 -> h < 18446744073709551616 -> ∀H2 K,K (.ret (.agg [.lit (.int .u64 0),.lit (.int .u64 ((T / h:Nat):Int))])) H2 -> ae prog G0 169 [.agg [.lit (.int .u64 0),.lit (.int .u64 (tl:Int))],.lit (.int .u64 (h:Int))] H2 K := fun h h1 h2 H2 K hk => Nf tl h btl h1 h2 H2 K (by rw[<- eT2];exact hk);generalize Nat.gcd T g=h at *
  have q3 := yW D h;have b3:D / h <= D := Wq _ _;have b4:T / h <= T := Wq _ _;have ov1 := ov h V V;have hne:¬(h:Int)=0 := by omega
  rw[hD]at q3;clear ov err e9 eT2;generalize D / h=p3 at *
  generalize T / h=T2 at *
  have u4 := VL (p3:Int) V;have bR:p2 * p3 <= 4611686018427387903 * 4611686018427387903 := Xz V V;have ft := M8 S T2 (p2 * p3) V V;have tm := ve p2 p3 V V;obtain⟨zh,ezh⟩:∃z,z=T2 / 18446744073709551616 := ⟨_,rfl⟩
  obtain⟨zl,ezl⟩:∃z,z=T2 % 18446744073709551616 := ⟨_,rfl⟩
  have wZ:dk T2 = .agg [.lit (.int .u64 (zh:Int)),.lit (.int .u64 (zl:Int))] := by unfold dk;rw[<- ezh,<- ezl]
  obtain⟨R,eR⟩:∃z,z=p2 * p3 := ⟨_,rfl⟩
  rw[<- eR]at ft tm hK;obtain⟨rh,erh⟩:∃z,z=R / 18446744073709551616 := ⟨_,rfl⟩
  obtain⟨rl,erl⟩:∃z,z=R % 18446744073709551616 := ⟨_,rfl⟩
  have wR:dk R = .agg [.lit (.int .u64 (rh:Int)),.lit (.int .u64 (rl:Int))] := by unfold dk;rw[<- erh,<- erl]
  have ezh0:zh=0 := by omega
  have ezl2:zl=T2 := by omega
  rw[wR]at tm;rw[wZ,wR]at ft;have fO:∀v,kh S T2 R=some v -> ∃x y,v=qV x y := fun v hv => vf hv;generalize kh S T2 R=O at *
  subst ezh0;rw[<- ezl2]at ov1;clear ezh ezl ezl2 eR erh erl wX wY wZ wR wT bR bT;refine ae.sw (n := 85) (rs := [.cell 4 58]) func130 ?_;refine W.sq ?_;simp only[go_sem,qV,aB];refine W.sq ?_;simp only[go_sem,wb,wd,aB];refine ao.X (cm1 _ _ ⟨trivial,?_⟩);simp only[go_sem,aB];refine W.seq ?_;refine W.dr 20 [0,1,3,0,8,24,0,120,255,0,512,2047,0,4096,12288,0,61440,131071,0,0] mixed ?_;simp only[go_sem,wb,wd,aB];refine⟨_,[],bD.pure fun H2 => vd a V H2 _ ⟨rfl,rfl⟩,?_⟩;simp only[go_sem,wd,gne,q1,u1,aB];refine⟨_,[],bD.pure fun H2 => tx H2 _ ⟨rfl,rfl⟩,?_⟩;simp only[go_sem,aB];refine⟨_,[],bD.pure fun H2 => vd c V H2 _ ⟨rfl,rfl⟩,?_⟩;simp only[go_sem,wb,gne,q2,u2,aB];refine⟨_,[],bD.pure fun H2 => ty H2 _ ⟨rfl,rfl⟩,?_⟩;simp only[go_sem,aB];refine⟨by repeat' (first |refine And.intro ?_ ?_ |(intro x hx;omega)),?_⟩;refine⟨by repeat' (first |refine And.intro ?_ ?_ |(intro x hx;omega)),?_⟩;have n4:H.A + 3 + 1=H.A + 4 := rfl;simp only[go_sem,ef,List.cons_append,List.nil_append,n4,aB];refine W.env fun E hE => ?_;have a2:E 2 = .O H.A 0 0 := by rw[hE];rfl
  have a3:E 3 = .O (H.A + 1) 0 0 := by rw[hE];rfl
  have a4:E 4 = .O (H.A + 2) 0 0 := by rw[hE];rfl
  have a5:E 5 = .lit (.int .u64 (g:Int)) := by rw[hE];rfl
  have a6:E 6 = .O (H.A + 3) 0 0 := by rw[hE];rfl
  have a7:E 7 = .O (H.A + 4) 0 0 := by rw[hE];rfl
  clear hE;refine W.sq ?_;simp only[go_sem,a2,a3,a4,a5,a6,a7,ef,List.cons_append,List.nil_append,aB];refine W.env fun F hF => ?_;have b2:F 2 = .O H.A 0 0 := by rw[hF];exact a2
  have b3:F 3 = .O (H.A + 1) 0 0 := by rw[hF];exact a3
  have b4:F 4 = .O (H.A + 2) 0 0 := by rw[hF];exact a4
  have b5:F 5 = .lit (.int .u64 (g:Int)) := by rw[hF];exact a5
  have b6:F 6 = .O (H.A + 3) 0 0 := by rw[hF];exact a6
  have b7:F 7 = .O (H.A + 4) 0 0 := by rw[hF];exact a7
  have b8:F 8 = .lit (.bool (decide (a < 0))) := by rw[hF];rfl
  have b9:F 9 = .O (H.A + 5) 0 0 := by rw[hF];rfl
  clear hF a2 a3 a4 a5 a6 a7;refine W.sX (fun s' => s'.H=ext H [.J 0 58 [.lit (.int .i64 a),.lit (.int .i64 b)],.J 0 58 [.lit (.int .i64 c),.lit (.int .i64 d)],.J 0 58 [.lit (.int .i64 0),.lit (.int .i64 0)],.J 0 173 [.lit (.int .u64 (xh:Int)),.lit (.int .u64 (xl:Int))],.J 0 173 [.lit (.int .u64 (yh:Int)),.lit (.int .u64 (yl:Int))],.J 0 173 [.lit (.int .u64 0),.lit (.int .u64 (tl:Int))]] /\ s'.ρ 2 = .O H.A 0 0 /\ s'.ρ 3 = .O (H.A + 1) 0 0 /\ s'.ρ 4 = .O (H.A + 2) 0 0 /\ s'.ρ 5 = .lit (.int .u64 (g:Int)) /\ s'.ρ 8 = .lit (.bool S) /\ s'.ρ 9 = .O (H.A + 5) 0 0) ?_ ?_
  · refine W.block ?_;refine W.vs ?_;by_cases hs:a < 0 ↔ c < 0
    · have e1:(decide (a < 0) == decide (c < 0))=true :=(by simp[hs]);rw[Vf hs]at eS;simp only[go_sem,b2,b3,b4,b5,b6,b7,b8,b9,pt Tryz.underlying4,e1,aB];refine ao.X (ps hs _ _ ⟨trivial,?_⟩);simp only[go_sem,b2,b3,b4,b5,b6,b7,b8,b9,eS,aB]
    · have e1 : (decide (a < 0) == decide (c < 0)) = false := by
        by_cases q1:a < 0 <;> by_cases q2:c < 0 <;> simp[q1,q2]at hs ⊢
      rw[Ve hs]at eS;simp only[go_sem,b2,b3,b4,b5,b6,b7,b8,b9,pt Tryz.underlying4,e1,aB];refine ao.X (ls _ _ ⟨trivial,?_⟩);by_cases hl:X < Y
      · rw[Vf hl]at eS;rw[VB hl];simp only[go_sem,b2,b3,b4,b5,b6,b7,b8,b9,aB];refine ao.X (m1 hs hl _ _ ⟨trivial,?_⟩);simp only[go_sem,b2,b3,b4,b5,b6,b7,b8,b9,eS,aB]
      · rw[Ve hl]at eS;rw[V1 hl];simp only[go_sem,b2,b3,b4,b5,b6,b7,b8,b9,aB];refine ao.X (m2 hs hl _ _ ⟨trivial,?_⟩);simp only[go_sem,b2,b3,b4,b5,b6,b7,b8,b9,eS,aB]
  rintro⟨E2,H2⟩ ⟨eH,a2,a3,a4,a5,a8,a9⟩;simp only at eH a2 a3 a4 a5 a8 a9;subst eH;clear b2 b3 b4 b5 b6 b7 b8 b9 ps m1 m2 ls eT eS;refine W.sq ?_;simp only[go_sem,a2,a3,a4,a5,a8,a9,aB];refine ao.X (rm _ _ ⟨trivial,?_⟩);simp only[go_sem,a2,a3,a4,a5,a8,a9,aB];refine ao.X (cm2 _ _ ⟨trivial,?_⟩);simp only[go_sem,a2,a3,a4,a5,a8,a9,aB];refine W.env fun F hF => ?_;have b2:F 2 = .O H.A 0 0 := by rw[hF];exact a2
  have b3:F 3 = .O (H.A + 1) 0 0 := by rw[hF];exact a3
  have b4:F 4 = .O (H.A + 2) 0 0 := by rw[hF];exact a4
  have b5:F 5 = .lit (.int .u64 (g:Int)) := by rw[hF];exact a5
  have b8:F 8 = .lit (.bool S) := by rw[hF];exact a8
  have b9:F 9 = .O (H.A + 5) 0 0 := by rw[hF];exact a9
  have b10:F 10 = .lit (.int .u64 (h:Int)) := by rw[hF];rfl
  clear hF a2 a3 a4 a5 a8 a9;refine W.seq ?_;refine W.dr 15 [0,0,0,6,0,16,48,0,240,0,512,1536,0,7680,16382] mixed ?_;simp only[go_sem,b2,b3,b4,b5,b8,b9,b10,aB];refine⟨_,[],bD.pure fun H2 => ov1 H2 _ ⟨rfl,rfl⟩,?_⟩;simp only[go_sem,b2,b3,b4,b5,b8,b9,b10,wb,wd,q2,u2,q3,u4,gne,hne,aB];refine⟨_,[],bD.pure fun H2 => tm H2 _ ⟨rfl,rfl⟩,?_⟩;refine ao.X (ft _ _ ⟨fun v hv => ⟨trivial,?_⟩,fun ho H' hn => ⟨trivial,?_⟩⟩)
  · have hk := hK.1 v hv;obtain⟨x,y,rfl⟩ := fO v hv;simp only[go_sem,b2,b3,b4,b5,b8,b9,b10,qV,aB];refine W.vs ?_;simp only[go_sem,b4,aB];exact ak.drop aF hcl (qN _ _) hk
  · simp only[aX,List.length_cons,List.length_nil]at hn;exact⟨H',iz.refl _ _,V,hK.2 ho H' V⟩
def CN (h:bz a b=0):Nat.gcd a.natAbs b.natAbs=1 := by
  unfold bz at h;split at h
  · exact absurd h (ZE)
  · split at h
    · exact absurd h (ZE)
    · rename_i h2;exact Classical.not_not.1 h2
def Nk (a b c d:Int)(ha:-4611686018427387903 <= a /\ a <= 4611686018427387903)(hb:1 <= b /\ b <= 4611686018427387903)(hc:-4611686018427387903 <= c /\ c <= 4611686018427387903)(hd:1 <= d /\ d <= 4611686018427387903)(hsm:mg a b (-c) d < 18446744073709551616):
    ae prog G0 129 [qV a b,qV c d] cR (mI (om a b (-c) d)) := by
  refine ae.X ⟨_,func129,rfl,rfl⟩ fun hcl => ?_;have w1 := Vb (-c) V;have e1:0-c = -c := by omega
  refine ae.st (n := 13) (rs := [.cell 4 58]) func129 ?_;simp only[go_sem,qV,w1,e1,aB];refine ao.X (Nj a b (-c) d ha hb V hd hsm _ _ ⟨fun v hv => ⟨trivial,?_⟩,fun ho H' hh => ⟨trivial,?_⟩⟩)
  · obtain⟨x,y,rfl⟩ := vf hv;rw[hv];simp only[go_sem,qV,aB];exact ak.mk (WH _) ⟨_,rfl,CE x y⟩
  · rw[ho];exact⟨H',iz.refl _ _,WH _,rfl⟩
def Nm (a b c d:Int)(ra:(-9223372036854775808 <= a /\ a <= 9223372036854775807) /\ (-9223372036854775808 <= b /\ b <= 9223372036854775807))(rc:(-9223372036854775808 <= c /\ c <= 9223372036854775807) /\ (-9223372036854775808 <= d /\ d <= 9223372036854775807))
    (hsm:mg a b (-c) d < 18446744073709551616) (H:ZH) (K:ZN -> ZH -> Prop) (hK:K (.ret (mP a b c d (om a b (-c) d))) H):ae prog G0 92 [qV a b,qV c d] H K := by
  refine ae.X ⟨_,func92,rfl,rfl⟩ fun hcl => ?_;refine ae.st (n := 11) (rs := [.cell 4 58,.tmp 5]) func92 ?_;simp only[go_sem,qV,aB];refine ao.X (Na (a := a) (b := b) (c := c) (d := d) (o := om a b (-c) d) ra rc (fun u hu => vf hu) (fun h1 h2 => ?_) _ _ ⟨trivial,?_⟩)
  · obtain⟨p1,p2,_⟩ := px h1;obtain⟨p3,p4,_⟩ := px h2;exact Nk a b c d p1 p2 p3 p4 hsm
  · obtain⟨x,y,e,he⟩ := Nb (a := a) (b := b) (c := c) (d := d) (o := om a b (-c) d) fun u hu => vf hu;rw[he]at hK ⊢;simp only[go_sem,aB];exact ak.drop aF hcl (vg x y e) hK
def jy (a c:Int)(X Y:Nat):Nat := if (a < 0 ↔ c < 0) then X + Y else if X < Y then Y-X else X-Y
def fC (a c:Int)(X Y:Nat):Bool := if (a < 0 ↔ c < 0) then decide (a < 0) else if X < Y then !decide (a < 0) else decide (a < 0)
def No (a c:Int)(g x y:Nat)(hg:0 < g):jy a c (g * x) (g * y)=g * jy a c x y /\ fC a c (g * x) (g * y)=fC a c x y := by
  have hl:g * x < g * y ↔ x < y := Nat.mul_lt_mul_left hg;unfold jy fC;by_cases hs:a < 0 ↔ c < 0
  · rw[Vf hs,Vf hs,Vf hs,Vf hs];exact⟨(Xg _ _ _).symm,rfl⟩
  · rw[Ve hs,Ve hs,Ve hs,Ve hs];by_cases h:x < y
    · rw[Vf h,Vf (hl.2 h),Vf h,Vf (hl.2 h)];exact⟨(Nat.mul_sub _ _ _).symm,rfl⟩
    · rw[Ve h,Ve (fun k => h (hl.1 k)),Ve h,Ve (fun k => h (hl.1 k))];exact⟨(Nat.mul_sub _ _ _).symm,rfl⟩
def Np (a c:Int)(x y:Nat):jy a c x y=x + y \/ x=jy a c x y + y \/ y=jy a c x y + x := by
  unfold jy;split
  · exact .inl rfl
  · split <;> omega
def Nq (h1:bz a b=0)(h2:bz c d=0):om a b c d=kh (fC a c (a.natAbs * d.natAbs) (c.natAbs * b.natAbs))
    (jy a c (a.natAbs * d.natAbs) (c.natAbs * b.natAbs) / Nat.gcd (jy a c (a.natAbs * d.natAbs) (c.natAbs * b.natAbs)) (b.natAbs * d.natAbs))
    (b.natAbs * d.natAbs / Nat.gcd (jy a c (a.natAbs * d.natAbs) (c.natAbs * b.natAbs)) (b.natAbs * d.natAbs)) := by
  obtain⟨_,pb,_⟩ := px h1;obtain⟨_,pd,_⟩ := px h2;have g0:0 < Int.gcd b d := WV _ V;have eg:Int.gcd b d=Nat.gcd b.natAbs d.natAbs := rfl;have k1:a.natAbs * d.natAbs=Int.gcd b d * (a.natAbs * (d.natAbs / Int.gcd b d)) := by
    rw[YS,Yh (by rw[eg];exact W0 _ _)]
  have k2:c.natAbs * b.natAbs=Int.gcd b d * (c.natAbs * (b.natAbs / Int.gcd b d)) := by
    rw[YS,Yh (by rw[eg];exact Yz _ _)]
  obtain⟨m1,m2⟩ := No a c (Int.gcd b d) (a.natAbs * (d.natAbs / Int.gcd b d)) (c.natAbs * (b.natAbs / Int.gcd b d)) g0;rw[<- k1,<- k2]at m1 m2;obtain⟨e1,e2⟩ := Ni (T := jy a c (a.natAbs * (d.natAbs / Int.gcd b d)) (c.natAbs * (b.natAbs / Int.gcd b d))) (CN h1) (CN h2) V eg rfl rfl (Np _ _ _ _) m1;rw[e1,e2,m2];rfl
end Go.Proofs.F01
namespace Go.Proofs
open Go.Hx Tryz
def AJ (d:ZK)(c:Nat->Nat->Int)(v:Nat):List (List Int):=(List.range (dC d v)).map fun r=>mm d c v r (eK d v)
def Uw {S:Nat->Prop}{H:ZH}{nx:Nat}(d:ZK):Fz S H nx (dh d) (dh d):=by
 refine .agg rfl fun i hi _=>?_
 match i,hi with
 |0,_=>exact .lit _
 |1,_=>exact wQ _
 |2,_=>exact .lit _
 |3,_=>exact .Q rfl fun j h h'=>vV d.Z _ (Wb h)
end Go.Proofs
namespace Go.Hx
variable {P:Program}
end Go.Hx
namespace Go.Proofs
open Go.Hx Tryz
variable {b:Bool}{p q r:List (List Int)}{k nx v:Nat}{H H':ZH}{pv:ZI}{d:ZK}
def Gd (d:ZK)(q:List (List Int)):List (List Int):=(aG d).foldl (pK d) q
def xc (d:ZK)(q:List (List Int)):Nat->List (List Int)
 |0=>q
 |n+1=>Gd d (xc d q n)
structure Imp (d:ZK)(p q:List (List Int))(n:Nat):Prop where
 ok:ZZ d q
 same:n=0->q=p
 loc:isLocal d p->n=0
 sum:fg d (fixC p)+n<=fg d (fixC q)
 it:q=xc d p n
 bef:∀j,j<n->¬isLocal d (xc d p j)
def Imp.start (h:ZZ d p):Imp d p p 0:=⟨h,fun _=>rfl,fun _=>rfl,ZD,rfl,fun j h=>absurd h (Vs _)⟩
structure Rnd (d:ZK)(q:List (List Int))(k:Nat)(b:Bool)(r:List (List Int)):Prop where
 ok:ZZ d r
 no:b=false->r=q/\∀j v,j<k->(aG d)[j]?=some v->oB d q v
 yes:b=true->¬isLocal d q/\fg d (fixC q)<fg d (fixC r)
 fold:r=((aG d).take k).foldl (pK d) q
def Rnd.start (h:ZZ d q):Rnd d q 0 false q:=⟨h,fun _=>⟨rfl,fun j v hj=>absurd hj (Vs _)⟩,fun h=>Bool.noConfusion h,rfl⟩
def Ge (h:r=((aG d).take k).foldl (pK d) q)(hv:(aG d)[k]?=some v):pK d r v=((aG d).take (k+1)).foldl (pK d) q:=by
 rw[bb hv,Wl,<- h];rfl
def Rnd.U7 (h:Rnd d q k b r)(hv:(aG d)[k]?=some v)(hb:oB d r v):Rnd d q (k+1) b r :=
 ⟨h.ok,fun e=>⟨(h.no e).1,fun j w hj hw=>by
  by_cases hjk:j=k
  ·subst hjk;rw[hv]at hw;cases hw;rw[<- (h.no e).1];exact hb
  ·exact(h.no e).2 j w V hw⟩,h.yes,by rw[<- Ge h.fold hv];unfold pK;rw[Vf hb]⟩
def Rnd.step (hok:ZP d)(h:Rnd d q k b r)(hv:(aG d)[k]?=some v)(hb:¬oB d r v):Rnd d q (k+1) true (r.set (bp d.Y v) (mX d (fixC r) v)):=by
 have hvm:v∈aG d:=Va hv;refine⟨Q3 hok h.ok hvm,fun e=>(Bool.noConfusion e),fun _=>?_,by rw[<- Ge h.fold hv];unfold pK;rw[Ve hb]⟩;have hg:=Q6 hok h.ok hvm hb;cases b with
 |false =>
  have e:=(h.no rfl).1;subst e;exact⟨fun hl=>hb (hl v hvm),hg⟩
 |true =>
  obtain⟨h1,h2⟩:=h.yes rfl;exact⟨h1,V⟩
def Rnd.done (h:Rnd d q (aG d).length false r):r=q/\isLocal d q :=
 ⟨(h.no rfl).1,fun v hv=>by
  obtain⟨j,hj⟩:=Vj.1 hv;exact(h.no rfl).2 j v (aP hj) hj⟩
def Imp.round {n:Nat}(h:Imp d p q n)(hr:Rnd d q (aG d).length true r):Imp d p r (n+1):=by
 obtain⟨h1,h2⟩:=hr.yes rfl;refine⟨hr.ok,fun e=>V,fun hl=>?_,?_,?_,fun j hj=>?_⟩;rotate_left 2
 ·show r=Gd d (xc d p n);rw[<- h.it,hr.fold,XU];rfl
 ·by_cases hjn:j=n
  ·subst hjn;rw[<- h.it];exact h1
  ·exact h.bef j (V)
 ·have hn:=h.loc hl;rw[h.same hn]at h1;exact absurd hl h1
 ·have:=h.sum
  push_cast
  omega
def Um {l:List Int}{id g:Nat}{e:TypeId}(hg:H.get id=some (.J g e (ints l))):Fz (fun _=>True) H nx (.U id g 0 l.length 1) (af l):=by
 unfold af;refine .nz trivial hg (by rw[bE];omega) fun j hj h2 h'=>?_;simp only[Nat.zero_add,ints,Vt];exact .lit _
def xd (H:ZH)(pv:ZI)(p:List (List Int)):Prop:=pv=ba p\/∃(L g:Nat) (e:TypeId) (nb:List ZI),pv=.U L g 0 p.length 1/\L<H.A/\H.get L=some (.J g e nb)/\nb.length=p.length /\
 ∀(k:Nat) (l:List Int),p[k]?=some l->∃(id g':Nat) (e':TypeId),nb[k]?=some (.U id g' 0 l.length 1)/\id<H.A/\H.get id=some (.J g' e' (ints l))
def xd.len (h:xd H pv p)(ov:ZM H H'):iK H' pv=some (aa p.length):=by
 rcases h with rfl|⟨L,g,e,nb,rfl,h1,h2,h3,_⟩
 ·rfl
 ·unfold iK;simp[ah ((ov.nf L h1).trans h2),aa]
def xd.fz (h:xd H pv p)(ov:ZM H H'):Fz (fun _=>True) H' nx pv (ba p):=by
 rcases h with rfl|⟨L,g,e,nb,rfl,h1,h2,h3,h4⟩
 ·exact zQ p
 ·unfold ba;refine .nz trivial ((ov.nf L h1).trans h2) (by rw[Vx];omega) fun j hj hj2 hj3=>?_;simp only[Nat.zero_add]at hj2 ⊢;rw[Vx]at hj3;obtain⟨id,g',e',q1,q2,q3⟩:=h4 j _ (Vd hj3);rw[Vd hj2]at q1;rw[Option.some.inj q1,Vt];exact Um ((ov.nf id q2).trans q3)
end Go.Proofs
namespace Go.Proofs.R01
open Go.Hx Tryz
variable {a b c d:Int}
def kg:Int := 4611686018427387903
def bz (n d:Int):Int := if d < 1 \/ d > kg \/ n < -kg \/ n > kg then 5 else if Int.gcd n d ≠ 1 then 5 else 0
def jg (a b c d:Int):Int := if (a < 0 /\ ¬c < 0) then -1 else if (¬a < 0 /\ c < 0) then 1 else if a.natAbs * d.natAbs=c.natAbs * b.natAbs then 0 else if (a.natAbs * d.natAbs < c.natAbs * b.natAbs ↔ 0 <= a) then -1 else 1
def y8 (hb:1 <= b)(hd:1 <= d):jg a b c d=cG (a * d) (c * b) := by
  unfold jg cG;obtain⟨B,rfl⟩ := Vk (show 0 <= b by omega);obtain⟨D,rfl⟩ := Vk (show 0 <= d by omega);simp only[Ww];have pos:∀x:Nat,∀E:Nat,((x:Int) * (E:Int))=((x * E:Nat):Int) := fun x E => (WB x E).symm;have neg:∀x:Nat,∀E:Nat,(-(x:Int) * (E:Int)) = -((x * E:Nat):Int) := fun x E => by rw[Int.neg_mul,WB]
  have pp:∀x E:Nat,0 < x -> 1 <= (E:Int) -> 0 < x * E := fun x E h1 h2 => Y2 h1 V;by_cases h1:a < 0
  · obtain⟨A,hA,hA0⟩:∃A:Nat,a = -(A:Int) /\ 0 < A := ⟨a.natAbs,V,V⟩
    subst hA;have p1 := pp A D hA0 hd;by_cases h2:c < 0
    · obtain⟨C,hC,hC0⟩:∃C:Nat,c = -(C:Int) /\ 0 < C := ⟨c.natAbs,V,V⟩
      subst hC;simp only[XC,Ww,neg];generalize A * D=P at *
      generalize C * B=Q at *
      repeat' split
      all_goals omega
    · obtain⟨C,hC⟩ := Vk (show 0 <= c by omega);subst hC;simp only[XC,Ww,neg,pos];generalize A * D=P at *
      generalize C * B=Q at *
      repeat' split
      all_goals omega
  · obtain⟨A,hA⟩ := Vk (show 0 <= a by omega);subst hA;by_cases h2:c < 0
    · obtain⟨C,hC,hC0⟩:∃C:Nat,c = -(C:Int) /\ 0 < C := ⟨c.natAbs,V,V⟩
      subst hC;have p2 := pp C B hC0 hb;simp only[XC,Ww,neg,pos];generalize A * D=P at *
      generalize C * B=Q at *
      repeat' split
      all_goals omega
    · obtain⟨C,hC⟩ := Vk (show 0 <= c by omega);subst hC;simp only[Ww,pos]
      repeat' split
      all_goals omega
def Un:aA 1 = [1] := by rw[oE ZE,iR];rfl
def Gf (n d:Int)(hn:eV n)(hd:eV d)(H:ZH)(K:ZN -> ZH -> Prop)(hK:K (.ret (.lit (.bool (decide (bz n d=0))))) H):ae prog G0 24 [qV n d] H K := by
  refine ae.X ⟨_,func24,rfl,rfl⟩ fun hcl => ?_;refine ae.st (n := 31) (rs := [.tmp 2]) func24 ?_;have bad:∀L,bz n d=5 -> ak prog G0 H K (.lit (.bool false)) (ext H L) := fun L h => by
    rw[h]at hK;exact ak.drop aF hcl (.lit _) hK
  by_cases h1:d < 1
  · simp only[go_sem,qV,h1,aB];exact bad _ (by unfold bz;rw[Vf (.inl h1)])
  by_cases h2:4611686018427387903 < d
  · simp only[go_sem,qV,h1,h2,aB];exact bad _ (by unfold bz;rw[Vf (.inr (.inl h2))])
  by_cases h4:4611686018427387903 < n
  · simp only[go_sem,qV,h1,h2,h4,aB];exact bad _ (by unfold bz;rw[Vf (.inr (.inr (.inr h4)))])
  by_cases h3:n < -4611686018427387903
  · simp only[go_sem,qV,h1,h2,h3,h4,aB];exact bad _ (by unfold bz;rw[Vf (.inr (.inr (.inl h3)))])
  simp only[go_sem,qV,h1,h2,h3,h4,aB];refine W.dr 8 [0,1,3,0,8,31,63,0] mixed ?_;simp only[go_sem,qV,aB];have l1 := mq hn;have l2 := mq hd;refine⟨_,[],bD.pure fun H2 => nk n hn H2 _ ⟨rfl,rfl⟩,?_⟩;simp only[go_sem,aB];refine⟨_,[],bD.pure fun H2 => nk d hd H2 _ ⟨rfl,rfl⟩,?_⟩;simp only[go_sem,aB];refine⟨_,[],bD.pure fun H2 => EY n.natAbs d.natAbs V V H2 _ ⟨rfl,rfl⟩,?_⟩;simp only[go_sem,aB];refine⟨by refine⟨?_,?_,?_,?_⟩ <;> (intro x hx;omega),?_⟩;have gl:(aA (n.natAbs.gcd d.natAbs)).length <= 100 := by
    have:n.natAbs.gcd d.natAbs <= d.natAbs := Yw V (W0 _ _);have := wo this;omega
  have ck:bz n d=if Int.gcd n d ≠ 1 then 5 else 0 := by unfold bz;rw[Ve (by unfold kg;omega)]
  have eg:Int.gcd n d=n.natAbs.gcd d.natAbs := rfl;obtain⟨H1,hH1⟩:∃H1,H1=ext H [.J 0 58 [.lit (.int .i64 n),.lit (.int .i64 d)]] := ⟨_,rfl⟩
  have ov1:ZM H H1:=hH1▸.ext _ _
  have e1:H.A + 1=H1.A:=hH1▸rfl
  rw[<- hH1,e1];have hO:aK H1.A (ext H1 [.J 0 3 [.lit (.int .i64 1)]]) 3 (.U H1.A 0 0 1 1) (ints [1]) := .inr ⟨H1.A,0,ZG,by simp[aX],rfl,cH _ _ _⟩;refine ao.mc H1.A (args' := [af (aA (n.natAbs.gcd d.natAbs)),af (aA 1)]) aF rfl (fun j hj _ => match j,hj with |0,_ => .ee _ |1,_ => by rw[Un];exact hO.iB fun i hi => hi) (tE _ 1 V _ _ ⟨trivial,?_⟩);have ov2:ZM H ((ext H1 [.J 0 3 [.lit (.int .i64 1)]]).cut H1.A) := ov1.trans (ZM.ext _ _).cut;rw[ck,eg]at hK;by_cases hg:n.natAbs.gcd d.natAbs=1
  · rw[hg]at hK ⊢;have c1:cG ((1:Nat):Int) ((1:Nat):Int)=0 :=ZE;rw[c1];simp only[go_sem,aB];exact ak.bB aF hcl ov2 (.lit _) hK
  · have c1 : ¬ cG ((n.natAbs.gcd d.natAbs : Nat) : Int) ((1 : Nat) : Int) = 0 := by
      unfold cG;split
      · omega
      · split <;> omega
    obtain⟨c,hc⟩:∃c,c=cG ((n.natAbs.gcd d.natAbs:Nat):Int) ((1:Nat):Int) := ⟨_,rfl⟩
    rw[<- hc]at c1 ⊢;simp only[go_sem,c1,aB];rw[Vf hg]at hK;exact ak.bB aF hcl ov2 (.lit _) (by simpa using hK)
def Uo (h1:a < 0)(h2:c < 0):jg a b c d=cG ((c.natAbs * b.natAbs:Nat):Int) ((a.natAbs * d.natAbs:Nat):Int) := by
  unfold jg cG;generalize a.natAbs * d.natAbs=P;generalize c.natAbs * b.natAbs=Q
  repeat' split
  all_goals omega
def Up (h1:¬a < 0)(h2:¬c < 0):jg a b c d=cG ((a.natAbs * d.natAbs:Nat):Int) ((c.natAbs * b.natAbs:Nat):Int) := by
  unfold jg cG;generalize a.natAbs * d.natAbs=P;generalize c.natAbs * b.natAbs=Q
  repeat' split
  all_goals omega
def Uq (h1:a < 0)(h2:¬c < 0):jg a b c d = -1 := by unfold jg;rw[Vf ⟨h1,h2⟩]
def Ur (h1:¬a < 0)(h2:c < 0):jg a b c d=1 := by unfold jg;rw[Ve V,Vf ⟨h1,h2⟩]
def Gg (a b c d:Int)(ha:eV a)(hb:eV b)(hc:eV c)(hd:eV d)(hb0:1 <= b)(hd0:1 <= d)(H:ZH)(K:ZN -> ZH -> Prop)(hK:K (.ret (.lit (.int .i64 (cG (a * d) (c * b))))) H):
    ae prog G0 25 [qV a b,qV c d] H K := by
  refine ae.X ⟨_,func25,rfl,rfl⟩ fun hcl => ?_;have la := mq ha;have lb := mq hb;have lc := mq hc;have ld := mq hd;have l1 := Fa ha hd;have l2 := Fa hc hb;rw[<- y8 hb0 hd0]at hK;refine ae.st (n := 44) (rs := [.tmp 4]) func25 ?_;simp only[go_sem,qV,aB];refine W.dr 12 [0,1,3,0,8,31,63,0,128,511,0,1024] mixed ?_;simp only[go_sem,aB];refine⟨_,[],bD.pure fun H2 => nk a ha H2 _ ⟨rfl,rfl⟩,?_⟩;simp only[go_sem,aB];refine⟨_,[],bD.pure fun H2 => nk d hd H2 _ ⟨rfl,rfl⟩,?_⟩;simp only[go_sem,aB];refine⟨_,[],bD.pure fun H2 => z7 a.natAbs d.natAbs V V H2 _ ⟨rfl,rfl⟩,?_⟩;simp only[go_sem,aB];refine⟨_,[],bD.pure fun H2 => nk c hc H2 _ ⟨rfl,rfl⟩,?_⟩;simp only[go_sem,aB];refine ao.X (nk b hb _ _ ⟨trivial,?_⟩);simp only[go_sem,aB];refine ao.X (z7 c.natAbs b.natAbs V V _ _ ⟨trivial,?_⟩);by_cases h1:a < 0
  · by_cases h2:c < 0
    · rw[Uo h1 h2]at hK;simp only[go_sem,h1,h2,aB];refine ao.X (tE _ _ V _ _ ⟨trivial,?_⟩);simp only[go_sem,aB];exact ak.drop aF hcl (.lit _) hK
    · rw[Uq h1 h2]at hK;simp only[go_sem,h1,h2,aB];exact ak.drop aF hcl (.lit _) hK
  · by_cases h2:c < 0
    · rw[Ur h1 h2]at hK;simp only[go_sem,h1,h2,aB];exact ak.drop aF hcl (.lit _) hK
    · rw[Up h1 h2]at hK;simp only[go_sem,h1,h2,aB];refine ao.X (tE _ _ V _ _ ⟨trivial,?_⟩);simp only[go_sem,aB];exact ak.drop aF hcl (.lit _) hK
end Go.Proofs.R01
namespace Go.Proofs
open Go.Hx Tryz
variable {D S:Int}
structure nnj (S D a b g:Int):Prop where
 g1:1<=g
 n:a*g=S
 d:b*g=D
 b1:1<=b
 cop:Int.gcd a b=1
def mB (hD:1<=D):∃a b g:Int,dM S D=.agg [.lit (.int .i64 a),.lit (.int .i64 b)]/\nnj S D a b g:=by
 obtain⟨G,hG⟩:∃G,G=Int.gcd S D:=⟨_,rfl⟩
 have g0:0<G:=by rw[hG];exact WV _ (V)
 obtain⟨a,ha⟩:(G:Int) ∣ S:=by rw[hG];exact Int.gcd_dvd_left ..
 obtain⟨b,hb⟩:(G:Int) ∣ D:=by rw[hG];exact Int.gcd_dvd_right ..
 have gne:(G:Int)≠0:=V
 have hgc:G=G*Int.gcd a b:=by
  have h:=Int.gcd_mul_left (G:Int) a b;rw[<- ha,<- hb,<- hG,Ww]at h;exact h
 have hc:Int.gcd a b=1:=by
  have:G*1=G*Int.gcd a b:=V
  exact(Nat.eq_of_mul_eq_mul_left g0 this).symm
 have hb1:1<=b:=by
  rcases Zn b 1 with h|h
  ·have:(G:Int)*b<=(G:Int)*0:=VV V V;omega
  ·exact h
 refine⟨a,b,G,?_,V,by rw[WL];exact ha.symm,by rw[WL];exact hb.symm,hb1,hc⟩;unfold dM;rw[<- hG];have e1:S.tdiv (G:Int)=a:=by rw[ha];exact Zf a gne
 have e2:D.tdiv (G:Int)=b:=by rw[hb];exact Zf b gne
 rw[e1,e2]
def nnj.bound {a b g:Int}(h:nnj S D a b g):a.natAbs<=S.natAbs/\b<=D:=by
 have h1:S.natAbs=a.natAbs*g.natAbs:=by rw[<- h.n,WQ]
 have h2:D.natAbs=b.natAbs*g.natAbs:=by rw[<- h.d,WQ]
 have hg:0<g.natAbs:=by have:=h.g1;omega
 have l1:=Zg a.natAbs hg;have l2:=Zg b.natAbs hg;have l3:b.natAbs<=D.natAbs:=V
 have hb:=h.b1;have hD:0<=D:=by rw[<- h.d];exact W3 V (by have:=h.g1;omega)
 omega
def nnj.check {a b g:Int}(h:nnj S D a b g)(hS:S.natAbs<=4611686018427387903)(hD:D<=4611686018427387903):R01.bz a b=0:=by
 have hb:=h.bound;have:=h.b1;unfold R01.bz R01.kg;rw[Ve V,Ve (by rw[h.cop];simp)]
def Us {x:ZK}(hok:ZP x):1<=x.nl ^ x.C.length/\x.nl ^ x.C.length<=167961600000000:=by
 have hg:=hok.nC.g1;refine⟨Y8 V,?_⟩;have h1:=pF (b:=60) V (l:=List.replicate x.C.length x.nl) fun c hc=>by rw[WU hc];omega
 rw[WA]at h1;have h2:=As x.C.length (by have:=hok.n.n1;omega);have h3:∀k:Nat,aD (List.replicate k x.nl)=x.nl ^ k:=fun k=>by
  induction k with
  |zero=>rw[List.replicate_zero,iM,Int.pow_zero]
  |succ k ih=>rw[W1,iN,ih,Xr,WL]
 rw[h3]at h1;omega
end Go.Proofs
namespace Go.Proofs.F01
open Go.Hx Tryz
def km (neg:Bool)(N D:Nat):Option ZI:=kh neg (N / Nat.gcd N D) (D / Nat.gcd N D)
def Dq (neg:Bool)(N D:Nat){g:Nat}(hg:0<g):km neg (g*N) (g*D)=km neg N D:=by
 unfold km;rw[Nat.gcd_mul_left,Ye _ _ hg,Ye _ _ hg]
def PI (neg:Bool)(D:Nat):km neg 0 D=km false 0 D:=by
 unfold km kh;simp
def PJ {n d:Int}(hn:-4611686018427387903<=n/\n<=4611686018427387903)(hd:1<=d/\d<=4611686018427387903):km (decide (n<0)) n.natAbs d.natAbs=some (dM n d):=by
 have g0:0<Int.gcd n d:=WV _ V;have hg:Nat.gcd n.natAbs d.natAbs=Int.gcd n d:=rfl;have l1:n.natAbs / Int.gcd n d<=n.natAbs:=Wq _ _;have l2:d.natAbs / Int.gcd n d<=d.natAbs:=Wq _ _;unfold km kh dM qV;rw[hg,Vf ⟨V,V⟩];have e2:d.tdiv (Int.gcd n d:Int)=((d.natAbs / Int.gcd n d:Nat):Int):=by
  rw[VT V,Xy];congr 1;omega
 have e1:n.tdiv (Int.gcd n d:Int)=if decide (n<0)=true then -((n.natAbs / Int.gcd n d:Nat):Int) else ((n.natAbs / Int.gcd n d:Nat):Int):=by
  by_cases h:n<0
  ·rw[VB h,Vf rfl];have:n=-(n.natAbs:Int):=V
   conv=>lhs;rw[this]
   rw[Int.neg_tdiv,VT V,Xy];congr 3
   all_goals (try rw[<- this])
  ·rw[V1 h,Ve ZE];rw[VT V,Xy];congr 1;omega
 rw[e1,e2]
def tp {a b:Int}(ha:-4611686018427387903<=a/\a<=4611686018427387903)(hb:1<=b/\b<=4611686018427387903)(h:Int.gcd a b=1):bz a b=0:=by
 unfold bz kg;rw[Ve V,Ve V]
def vr {x y:Int}(hy:1<=y):(x*y<0)↔(x<0):=by
 rw[WL];refine⟨fun h=>?_,fun h=>Int.mul_neg_of_pos_of_neg V h⟩;rcases Zn x 0 with h2|h2
 ·exact h2
 ·have:=W3 (show 0<=y by omega) h2;omega
def Dr {b e g D:Nat}(hb:0<b)(he:0<e)(h1:b*g=D)(h2:e ∣ D)(hD:0<D):e / Nat.gcd b e<=g:=by
 have hl:Nat.lcm b e ∣ D:=Nat.lcm_dvd ⟨g,h1.symm⟩ h2;have hle:=Yw hD hl;have:Nat.lcm b e=b*(e / Nat.gcd b e):=by
  unfold Nat.lcm;exact Nat.mul_div_assoc b (W0 b e)
 rw[this,<- h1]at hle;exact Nat.le_of_mul_le_mul_left hle hb
def PK {S1 S2 D a b g c e g2:Int}(h1:nnj S1 D a b g)(h2:nnj S2 D c e g2)(hD:1<=D/\D<=1099511627776)(hS1:-1099511627776<=S1/\S1<=1099511627776)(hS2:-1099511627776<=S2/\S2<=1099511627776):
  mP a b c e (om a b (-c) e)=.nc [dM (S1-S2) D,aa 0]/\mg a b (-c) e<18446744073709551616:=by
 obtain⟨p1,p2⟩:=h1.bound;obtain⟨p3,p4⟩:=h2.bound;have b1:=h1.b1;have e1:=h2.b1;have g1:=h1.g1;have gg1:=h2.g1;have ck1:bz a b=0:=tp V V h1.cop;have ck2:bz c e=0:=tp V V h2.cop;have ck3:bz (-c) e=0:=tp V V (by rw[Int.neg_gcd];exact h2.cop);have nb:b.natAbs*g.natAbs=D.natAbs:=by rw[<- WQ,h1.d]
 have ne:e.natAbs*g2.natAbs=D.natAbs:=by rw[<- WQ,h2.d]
 have na:a.natAbs*g.natAbs=S1.natAbs:=by rw[<- WQ,h1.n]
 have nc:c.natAbs*g2.natAbs=S2.natAbs:=by rw[<- WQ,h2.n]
 refine⟨?_,?_⟩
 ·unfold mP;rw[Vf ⟨ck1,ck2⟩,Nq ck1 ck3];show sW tw (km (fC a (-c) (a.natAbs*e.natAbs) ((-c).natAbs*b.natAbs)) (jy a (-c) (a.natAbs*e.natAbs) ((-c).natAbs*b.natAbs)) (b.natAbs*e.natAbs))=_;have k0:0<(g*g2).natAbs:=by
   have:=Int.mul_pos (show 0<g by omega) (show 0<g2 by omega);omega
  have kd:g*g2*(b*e)=D*D:=by
   conv=>rhs;rw[<- h1.d];rhs;rw[h1.d,<- h2.d]
   grind
  have kn:g*g2*(a*e-c*b)=D*(S1-S2):=by
   have q1:g*g2*(a*e)=D*S1:=(by rw[<- h1.n,<- h2.d];grind);have q2:g*g2*(c*b)=D*S2:=(by rw[<- h2.n,<- h1.d];grind);rw[Int.mul_sub,Int.mul_sub,q1,q2]
  have z1:=vr (x:=a) e1;have z2:=vr (x:=c) b1;have z0:(c=0)↔(c*b=0):=by
   refine⟨fun h=>by rw[h,YI],fun h=>?_⟩;rcases Int.mul_eq_zero.1 h with h|h
   ·exact h
   ·omega
  have z3:(-c<0)↔(0<c*b):=V
  have sg:(a*e-c*b<0)↔(S1-S2<0):=by
   have y1:=vr (x:=a*e-c*b) (y:=g*g2) (by have:=Int.mul_pos (show 0<g by omega) (show 0<g2 by omega);omega);have y2:=vr (x:=S1-S2) (y:=D) hD.1;rw[<- y1,<- y2,WL _ (g*g2),kn,WL]
  rw[<- WQ a e,<- WQ b e,XC,<- WQ c b];have hT:jy a (-c) (a*e).natAbs (c*b).natAbs=(a*e-c*b).natAbs:=by
   unfold jy;split
   ·omega
   ·split<;>omega
  rw[hT];have hlow:∀s,km s (a*e-c*b).natAbs (b*e).natAbs=km s (S1-S2).natAbs D.natAbs:=fun s=>by
   rw[<- Dq s _ _ k0,<- WQ,<- WQ,kd,kn,WQ,WQ,Dq s _ _ V]
  have fin:km (decide (S1-S2<0)) (S1-S2).natAbs D.natAbs=some (dM (S1-S2) D):=PJ V V;rw[hlow];by_cases h0:S1-S2=0
  ·rw[h0]at fin ⊢;rw[show (0:Int).natAbs=0 from rfl,PI]at fin ⊢;rw[fin];rfl
  have hS:fC a (-c) (a*e).natAbs (c*b).natAbs=decide (S1-S2<0):=by
   have hne:a*e-c*b≠0:=fun h=>by
    rw[h,YX]at kn;rcases Int.mul_eq_zero.1 kn.symm with h|h<;>omega
   unfold fC;split
   ·exact decide_eq_decide.2 (V)
   ·split
    ·rw[<- decide_not];exact decide_eq_decide.2 (V)
    ·exact decide_eq_decide.2 (V)
  rw[hS,fin];rfl
 ·have hd0:0<D.natAbs:=V
  have hg:Int.gcd b e=Nat.gcd b.natAbs e.natAbs:=rfl;have r1:e.natAbs / Int.gcd b e<=g.natAbs:=by rw[hg];exact Dr V V nb ⟨_,ne.symm⟩ hd0
  have r2:b.natAbs / Int.gcd b e<=g2.natAbs:=by rw[hg,XY];exact Dr V V ne ⟨_,nb.symm⟩ hd0
  have s1:je a b e<=S1.natAbs:=by unfold je;rw[<- na];exact Wj _ r1
  have s2:jf b (-c) e<=S2.natAbs:=by unfold jf;rw[<- nc,XC];exact Wj _ r2
  unfold mg;split
  ·omega
  ·split<;>omega
end Go.Proofs.F01
namespace Go.Proofs
open Go.Hx Tryz
variable {ch ch':Ch}{c k:Nat}{t:Z0}{D:ZR}{T:ZT}
def TX (hD:D.Ok)(ht:t.Ok D)(hc:nA D ch)(e:∀k c,k<D.K->c<D.cs k->ch' k c=ch k c):jW D t ch'↔jW D t ch:=by
 have hc':nA D ch':=fun k c y h1 h2 h3=>hc k c y h1 h2 (by rw[<- e k c h1 h2];exact h3);rw[tH hD ht hc,tH hD ht hc'];constructor
 ·rintro⟨q,q1,q2,q3⟩;exact⟨q,q1,fun k c y h1 h2 h3=>q2 k c y h1 h2 (by rw[e k c h1 h2];exact h3),q3⟩
 ·rintro⟨q,q1,q2,q3⟩;exact⟨q,q1,fun k c y h1 h2 h3=>q2 k c y h1 h2 (by rw[<- e k c h1 h2];exact h3),q3⟩
def TY (hc:nA D ch){x:Nat}(hx:x<D.cd k):nA D (kG ch k c x):=fun k' c' y h1 h2 h3=>by
 by_cases h:k'=k/\c'=c
 ·obtain⟨rfl,rfl⟩:=h;rw[nu]at h3;cases h3;exact hx
 ·rw[ny h]at h3;exact hc k' c' y h1 h2 h3
def TZ (hD:D.Ok)(ht:t.Ok D)(hc:nA D ch)(e:∀k c,k<D.K->c<D.cs k->ch' k c=ch k c)(k c:Nat):iT D t ch' k c=iT D t ch k c:=by
 unfold iT;refine F6 _ _ fun y _ hy=>?_;rw[WC,tM,tM];refine TX hD ht (TY hc V) fun k' c' h1 h2=>?_;by_cases h:k'=k/\c'=c
 ·rw[h.1,h.2,nu,nu]
 ·rw[ny h,ny h];exact e k' c' h1 h2
structure nnm (D:ZR)(T:ZT)(done:List (Nat × Nat)):Prop where
 eq:∀k c,k<D.K->c<D.cs k->kK T k c=oG D (mv D) done k c
 tb:lM T (rI D)=mv D
 np:T.Rng D
 len:T.Len D D.K
 h0:∀c,c<D.cs 0->(T.ab 0).getD c 0=0
def nnm.try (hD:D.Ok)(ht:(mv D).Ok D){done:List (Nat × Nat)}(h:nnm D T done)(hnd:(done++[(k,c)]).Nodup)(hr:∀p∈done++[(k,c)],p.1<D.K/\p.2<D.cs p.1):nnm D (lO T k c (tT D T k c)) (done++[(k,c)]):=by
 have hkc:=hr (k,c) ZD;have hl:=h.len.ch k hkc.1;have hcl:c<(T.ch k).length:=by rw[hl];exact hkc.2
 have hC:=Fu hD ht _ done rfl (Xn.1 hnd).1 fun p hp=>hr p (by simp[hp]);have hx:tT D T k c=iT D (mv D) (oG D (mv D) done) k c:=by
  rw[TH h.np (fun c h1=>by rw[h.h0 c h1];rfl) hcl,h.tb];exact TZ hD ht hC.np h.eq k c
 refine⟨fun k' c' h1 h2=>?_,h.tb,F5 h.np hcl,TG h.len _ _ _,h.h0⟩;rw[F4 hcl,Ft,hx];show _=kG _ k c _ k' c';by_cases e:k'=k/\c'=c
 ·rw[e.1,e.2,nu,nu]
 ·rw[ny e,ny e];exact h.eq k' c' h1 h2
def nnm.T0 (hD:D.Ok)(ht:(mv D).Ok D){done:List (Nat × Nat)}(h:nnm D T done):∀n,(done++(List.range n).map fun c=>(k,c)).Nodup->(∀p∈done++(List.range n).map fun c=>(k,c),p.1<D.K/\p.2<D.cs p.1)->nnm D (tU D T k n) (done++(List.range n).map fun c=>(k,c)):=by
 intro n
 induction n with
 |zero =>
  intro _ _;show nnm D T _;simpa using h
 |succ n ih =>
  intro h1 h2;rw[VW,V5,<- List.append_assoc]at h1 h2 ⊢;exact(ih (Xn.1 h1).1 fun p hp=>h2 p (Yf _ hp)).try hD ht h1 h2
def runT (D:ZR)(T:ZT)(ks:List Nat):ZT:=ks.foldl (fun T k=>tU D T k (D.cs k)) T
def T1 (D:ZR)(T:ZT)(ks:List Nat)(k:Nat):runT D T (ks++[k])=tU D (runT D T ks) k (D.cs k):=by unfold runT;rw[Wl];rfl
def rV (D:ZR)(ks:List Nat):List (Nat × Nat):=(ks.map fun k=>(List.range (D.cs k)).map fun c=>(k,c)).flatten
def T3 (D:ZR)(ks:List Nat)(k:Nat):rV D (ks++[k])=rV D ks++(List.range (D.cs k)).map fun c=>(k,c):=by unfold rV;simp
def nnm.run (hD:D.Ok)(ht:(mv D).Ok D)(h:nnm D T []):∀(n:Nat) (ks:List Nat),ks.length=n->(rV D ks).Nodup->(∀p∈rV D ks,p.1<D.K/\p.2<D.cs p.1)->nnm D (runT D T ks) (rV D ks):=by
 intro n
 induction n with
 |zero =>
  intro ks hl _ _;obtain rfl:=Vn hl;exact h
 |succ n ih =>
  intro ks hl h1 h2;obtain⟨qs,k,rfl⟩:∃qs a,ks=qs++[a]:=by
   rcases Ya ks with h|⟨qs,a,h⟩
   ·rw[h]at hl;cases hl
   ·exact⟨qs,a,by rw[h,Yb]⟩
  rw[List.length_append,Wf]at hl;rw[T3]at h1 h2 ⊢;rw[T1];exact(ih qs V (Xn.1 h1).1 fun p hp=>h2 p (Yf _ hp)).T0 hD ht _ h1 h2
def F8 (d:ZK)(lvh:ZI)(tot:Int):List ZI:=[.lit (.int .i64 d.nl),.Q d.C.length (aI d.C),.lit (.int .u64 (d.Y:Int)),.Q d.Z.length (bt d.Z),lvh,af (eE d),af (dO d),.lit (.int .i64 tot)]
def T4 {d:ZK}{s:Nat}{lvh:ZI}{tot:Int}(hok:ZP d)(ht:-1000000000000000000<=tot/\tot<=1000000000000000000)(hw:1<=d.nl ^ d.C.length/\d.nl ^ d.C.length<=1000000000000000000)(H:ZH)(hs:H.get s=some (.J 0 184 (F8 d lvh tot)))(hl:s<H.A)(K:ZN->ZH->Prop)(hK:K (.ret (dM tot (d.nl ^ d.C.length))) H):
  ae prog G0 68 [.O s 0 0] H K:=by
 refine ae.X ⟨_,func68,rfl,rfl⟩ fun hcl=>?_;have n8:=hok.n.n1;have hg:=hok.nC.g1;refine ae.sw (n:=20) (rs:=[.cell 2 58]) func68 ?_;refine W.sq ?_;simp only[go_sem];obtain⟨H1,hH1⟩:∃H1,H1=ext H [.J 0 58 [.lit (.int .i64 0),.lit (.int .i64 0)]]:=⟨_,rfl⟩
 have g1:=dI hH1
 have o1:ZM H H1:=hH1▸.ext _ _
 rw[<- hH1];clear hH1;have l1:=ah g1;have ls:=ah ((o1.nf s hl).trans hs);unfold F8 at ls;refine W.seq ?_;refine W.dr 16 [0,1,3,7,0,16,48,112,240,0,512,1536,3584,7680,15872,32752] mixed ?_;simp only[go_sem,ls];refine⟨_,[],bD.pure fun H2=>SU d.nl d.C.length hg V H2 _ ⟨rfl,rfl⟩,?_⟩;refine ao.X (SV tot (d.nl ^ d.C.length) V V H1 _ ⟨trivial,?_⟩);unfold dM at hK ⊢;simp only[go_sem,l1];obtain⟨H2,hH2⟩:∃H2,H2=H1.upd H.A (.J 0 58 [.lit (.int .i64 (tot.tdiv (Int.gcd tot (d.nl ^ d.C.length):Int))),.lit (.int .i64 ((d.nl ^ d.C.length).tdiv (Int.gcd tot (d.nl ^ d.C.length):Int)))]):=⟨_,rfl⟩
 have o2:ZM H H2:=by rw[hH2];exact ZM.upd (id:=H.A) o1 ZG _
 have l2:H2.na H.A 0=_:=ah (show H2.get H.A=_ by rw[hH2,aj,Vf rfl]);rw[<- hH2];refine W.vs ?_;simp only[go_sem,l2];refine ak.bB aF hcl o2 (.agg rfl fun i hi _=>?_) hK
 match i,hi with
 |0,_=>exact .lit _
 |1,_=>exact .lit _
def yK (d:ZK)(hf:Z6 d)(h6:d.C.length<=6)(H:ZH)(K:ZN->ZH->Prop)
  (hE:dB d=4->K (.ret (.nc [.agg [aa 0,aa 0],aa 210])) H)
  (hE2:dB d≠4->dB d≠0->K (.ret (.nc [.agg [aa 0,aa 0],aa (dB d)])) H)
  (hK:∀r,iL d=some r->ZP d->ZX d r->K (.ret (.nc [dM (eM d r) (d.nl ^ d.C.length),aa 0])) H):
  ae prog G0 29 [dh d] H K:=by
 refine ae.X ⟨_,func29,rfl,rfl⟩ fun hcl=>?_;refine ae.sw (n:=17) (rs:=[.cell 2 58,.tmp 3]) func29 ?_;refine W.sq ?_;simp only[go_sem,ij,c9];obtain⟨H1,hH1⟩:∃H1,H1=ext H [.J 0 38 [.lit (.int .i64 d.nl),.Q d.C.length (aI d.C),.lit (.int .u64 (d.Y:Int)),.Q d.Z.length (bt d.Z)],.J 0 58 [.lit (.int .i64 0),.lit (.int .i64 0)]]:=⟨_,rfl⟩
 have g1:=dI hH1
 have g2:=gE hH1 1 rfl
 have n1:H1.A=H.A+2:=hH1▸rfl
 have o1:ZM H H1:=hH1▸.ext _ _
 rw[<- hH1];clear hH1;have l1:=ah g1;refine W.sq ?_;simp only[go_sem,l1];have zero:∀(H2:ZH) (e:Int),ZM H1 H2->K (.ret (.nc [.agg [aa 0,aa 0],aa e])) H->ak prog G0 H K (.nc [.agg [aa 0,aa 0],aa e]) (H2.upd (H.A+1) (.J 0 58 [aa 0,aa 0])):=fun H2 e ho hk=>by
  refine ak.bB aF hcl (ZM.upd (id:=H.A+1) (o1.trans ho) (Xu _) _) (.nc rfl fun i hi _=>?_) hk
  match i,hi with
  |0,_ =>
   refine .agg rfl fun i hi _=>?_
   match i,hi with
   |0,_=>exact .lit _
   |1,_=>exact .lit _
  |1,_=>exact .lit _
 refine ao.X (TE d hf h6 H1 _ (fun H2 ho he=>⟨trivial,?_⟩) (fun H2 ho he he2=>⟨trivial,?_⟩) fun r s lvh I H2 hr hok ho hS hnil=>⟨trivial,?_⟩)
 ·have g2':=ah ((ho.nf _ V).trans g2);simp only[go_sem];refine W.sq ?_;simp only[go_sem,g2'];exact zero H2 210 ho (hE he)
 ·have g2':=ah ((ho.nf _ V).trans g2);simp only[go_sem];refine W.sq ?_;simp only[go_sem,he2,g2'];exact zero H2 (dB d) ho (hE2 he he2)
 simp only[go_sem];refine W.sq ?_;simp only[go_sem];obtain⟨hPo,hT,_⟩:=wC hok (tI hr);have hb:=Rt h6 (nD d r) hok hPo _ ZG;have hsum:lj (di d (fixC (nD d r))) d.Z (cJ d.C)=eM d r:=by rw[<- hT];exact QY hok hPo
 rw[hsum]at hb;have htot:fC (az d r) 0=eM d r:=Vf (.inr rfl);rw[htot]at hS;have hK:=hK r hr hok (tI hr);refine W.vs ?_;simp only[go_sem];refine ao.X (T4 hok hb (by have:=Us hok;omega) H2 hS.top hS.nI.2 _ ⟨trivial,?_⟩);have k2:∀i,i<H1.A->H2.get i=H1.get i:=fun i h=>ho.nf i h;have l4:=ah ((k2 _ V).trans g2);unfold dM at hK ⊢;simp only[go_sem,l4];have hon:=ho.A;refine ak.bB (v':=.nc [_,aa 0]) aF hcl (ZM.upd (id:=H.A+1) (o1.trans ho) (Xu _) _) (.nc rfl fun i hi _=>?_) hK
 match i,hi with
 |0,_ =>
  refine .agg rfl fun i hi _=>?_
  match i,hi with
  |0,_=>exact .lit _
  |1,_=>exact .lit _
 |1,_=>exact .lit _
end Go.Proofs
namespace Go.Proofs.WS
open Go.Hx Tryz
variable {g:Int}{cs w:List Int}{ns:List ZJ}{n v:Nat}{D D':Nat->Bool}{α:Type}
def dJ:List Int->List (List Int)
 | []=>[[]]
 |c :: cs=>(List.range c.toNat).flatMap fun (a:Nat)=>(dJ cs).map fun w=>(a:Int) :: w
def UL (h:∀c∈cs,1<=c)(a i:Int):bV cs (a*aD cs+i)=bV cs i:=by
 induction cs generalizing a with
 |nil=>rfl
 |cons c cs ih =>
  have h1:=fZ (l:=cs) fun x hx=>h x (by simp[hx]);have hc:=h c ZD;have e:a*aD (c :: cs)+i=i+a*c*aD cs:=by rw[iN];simp only[XP,Yr]
  show _ :: _=_ :: _;rw[e,X2 _ _ V,Int.add_mul_emod_self_right];congr 1;rw[Yr];exact ih (fun x hx=>h x (by simp[hx])) _
def UM (m:Nat):∀c:Nat,List.range (c*m)=(List.range c).flatMap fun a=>(List.range m).map fun j=>a*m+j:=by
 intro c
 induction c with
 |zero=>simp
 |succ c ih=>rw[VU,Xt,List.range_add,ih,VW,YM];simp
def AQ (h:∀c∈cs,1<=c):dJ cs=(List.range (aD cs).toNat).map fun (i:Nat)=>bV cs i:=by
 induction cs with
 |nil=>rfl
 |cons c cs ih =>
  have hr:∀x∈cs,1<=x:=fun x hx=>h x (by simp[hx]);have hm:=fZ hr;have hc:=h c ZD;obtain⟨m,e⟩:∃m:Nat,aD cs=m:=⟨(aD cs).toNat,V⟩
  obtain⟨k,ek⟩:∃k:Nat,c=k:=⟨c.toNat,V⟩
  have e2:(aD (c :: cs)).toNat=k*m:=by rw[iN,e,ek];exact Int.toNat_natCast (k*m)
  rw[e2,UM,List.map_flatMap];unfold dJ;rw[ek,Int.toNat_natCast,ih hr,e,Int.toNat_natCast];rw[List.flatMap_def,List.flatMap_def];congr 1;refine VF fun a ha=>?_;rw[XZ,XZ];refine VF fun j hj=>?_;have ha':=Vp.1 ha;have hj':=Vp.1 hj;have hv:=UL hr (a:Int) (j:Int);rw[e]at hv;show _=_ :: _;rw[e];have e3:((a*m+j:Nat):Int)=a*m+j:=ZD
  rw[e3,hv];have e4:((a:Int)*m+j) / (m:Int) % (k:Int)=a:=by rw[Yr,X2 _ _ V,XD V V,YJ,X5 V V]
  rw[e4];rfl
def UN (h:∀c∈cs,1<=c)(hw:w∈dJ cs):cM cs w:=by
 rw[AQ h]at hw;obtain⟨i,_,rfl⟩:=Vu.1 hw;exact tz h _
def UO (l l':List Int):(l++l').sum=l.sum+l'.sum:=YF
def UP (f:List Int->Int)(l:List α)(g:α->List (List Int)):((l.flatMap g).map f).sum=(l.map fun a=>((g a).map f).sum).sum:=by
 induction l with
 |nil=>rfl
 |cons a l ih=>rw[List.flatMap_cons,V5,UO,ih];rfl
def AR (c:Int)(f:α->Int)(l:List α):(l.map fun a=>c*f a).sum=c*(l.map f).sum:=by
 induction l with
 |nil=>simp
 |cons a l ih=>simp only[List.map_cons,WE,ih,X4]
def UQ (f g:α->Int)(l:List α):(l.map fun a=>f a+g a).sum=(l.map f).sum+(l.map g).sum:=by
 induction l with
 |nil=>simp
 |cons a l ih=>simp only[List.map_cons,WE,ih];omega
def UR {β:Type}(f:α->β->Int)(l:List α)(m:List β):(l.map fun a=>(m.map fun b=>f a b).sum).sum=(m.map fun b=>(l.map fun a=>f a b).sum).sum:=by
 induction l with
 |nil=>simp only[List.map_nil,List.sum_nil];induction m with
  |nil=>rfl
  |cons b m ih=>rw[List.map_cons,WE,<- ih];rfl
 |cons a l ih=>simp only[List.map_cons,WE,ih,UQ]
def Gu (c:Int)(l:List α):(l.map fun _=>c).sum=l.length*c:=by
 induction l with
 |nil=>simp
 |cons a l ih=>simp only[List.map_cons,WE,ih,List.length_cons];rw[show ((l.length+1:Nat):Int)=l.length+1 from rfl,YO];omega
def qf {f g:α->Int}{l:List α}(h:∀a∈l,f a=g a):(l.map f).sum=(l.map g).sum:=by rw[VF h]
def all_cons (c:Int)(cs:List Int)(f:List Int->Int):((dJ (c :: cs)).map f).sum=((List.range c.toNat).map fun (a:Nat)=>((dJ cs).map fun w=>f ((a:Int) :: w)).sum).sum:=by
 show (((List.range c.toNat).flatMap _).map f).sum=_;rw[UP];refine qf fun a _=>?_;rw[XZ];rfl
def US:∀ {cs:List Int} {v:Nat} {c:Int},(∀c∈cs,1<=c)->cs[v]?=some c->∀f:List Int->Int,
  ((dJ cs).map fun w=>((List.range c.toNat).map fun (a:Nat)=>f (w.set v (a:Int))).sum).sum=c*((dJ cs).map f).sum:=by
 intro cs
 induction cs with
 |nil=>intro v c _ h;simp at h
 |cons d cs ih =>
  intro v c h1 h f;rw[all_cons,all_cons];cases v with
  |zero =>
   simp only[List.getElem?_cons_zero,Option.some.injEq]at h;subst h;simp only[List.set_cons_zero];rw[Gu,WT,Xv (by have:=h1 d ZD;omega)];congr 1;exact UR _ _ _
  |succ v =>
   simp only[List.set_cons_succ];rw[<- AR];refine qf fun a _=>?_;exact ih (fun x hx=>h1 x (by simp[hx])) (by simpa using h) fun w=>f ((a:Int) :: w)
def fA (n:Nat)(D:Nat->Bool)(f:Nat->Int):Int:=aD ((List.range n).map fun v=>if D v then f v else 1)
def AS (n:Nat)(D:Nat->Bool)(f:Nat->Int):fA (n+1) D f=fA n D f*(if D n then f n else 1):=by
 unfold fA;rw[VW,V5,vB];simp[iN,iM]
def AT (f:Nat->Int)(h0:D v=false)(h1:D' v=true)(he:∀i,i≠v->D' i=D i):∀n,fA n D' f=if v<n then fA n D f*f v else fA n D f:=by
 intro n
 induction n with
 |zero=>rfl
 |succ n ih =>
  rw[AS,AS,ih];rcases WD v n with h|h|h
  ·rw[Vf h,Vf (show v<n+1 by omega),he n V];simp only[XP,WL (f v)]
  ·subst h;rw[Ve (show ¬v<v by omega),Vf (show v<v+1 by omega),h1,h0];simp
  ·rw[Ve (show ¬v<n by omega),Ve (show ¬v<n+1 by omega),he n V]
def UT {f g:Nat->Int}(h:∀v,v<n->D v=true->f v=g v):fA n D f=fA n D g:=by
 unfold fA;congr 1;refine VF fun v hv=>?_;split
 ·rename_i hd;exact h v (Vp.1 hv) hd
 ·rfl
def UU (n:Nat)(f:Nat->Int):fA n (fun _=>false) f=1:=by
 induction n with
 |zero=>rfl
 |succ n ih=>rw[AS,ih];simp
def AU (h:∀v,v<n->D v=true)(f:Nat->Int):fA n D f=aD ((List.range n).map f):=by
 unfold fA;congr 1;exact VF fun v hv=>by rw[h v (Vp.1 hv)];rfl
def UV (l:List Int):((List.range l.length).map fun i=>l.getD i 0).sum=l.sum:=by
 induction l with
 |nil=>rfl
 |cons a l ih=>rw[List.length_cons,Zj,List.map_cons,XZ,WE,WE,<- ih];rfl
def UW (n:Nat)(g:Int):aD ((List.range n).map fun _=>g)=g ^ n:=by
 induction n with
 |zero=>simp[iM]
 |succ n ih=>rw[VW,V5,vB,ih,Xr];simp[iN,iM]
def Gv {ps:List Int}{a:Int}(h:∀p∈ps,p.toNat≠v):aL (w.set v a) ps=aL w ps:=by
 unfold aL;refine VF fun p hp=>?_;rw[Vh,Vh,VN (Ne.symm (h p hp))]
def UX (h:Z1 g ns){x:ZJ}(hx:x∈ns)(hw:cM (aw ns) w):∃r,x.nb[(bM (aU ns x) (aL w x.F)).toNat]?=some r:=by
 have hp:=(h.node x hx).2.2;have hf:cM (aU ns x) (aL w x.F):=⟨by simp[aU,aL],fun k c b h1 h2=>by
  unfold aU aL at h1;unfold aL at h2;rw[List.getElem?_map]at h1 h2;cases hq:x.F[k]? with
  |none=>rw[hq]at h1;cases h1
  |some q =>
   rw[hq]at h1 h2;have hr:=hp q (Va hq);obtain⟨j,rfl,y,hy⟩:=mU (l:=ns) hr.1 hr.2;obtain⟨b',hb⟩:=ay (l:=w) (i:=j) (by rw[hw.1];have:=aP hy;simpa[aw] using this);simp only[Option.map_some,Option.some.injEq,Int.toNat_natCast]at h1 h2;rw[bJ (cW hy)]at h1;rw[bJ hb]at h2;rw[<- h1,<- h2];exact hw.2 j y.L b' (cW hy) hb⟩
 have hr:=oy hf;have hl:=(h.nb x hx).1;exact ay (V)
def oV (g:Int)(ns:List ZJ)(D:Nat->Bool):Prop :=
 fA ns.length D (fun v=>(aw ns).getD v 0)*((dJ (aw ns)).map fun w=>fA ns.length D (gh ns w)).sum=fA ns.length D (fun _=>g)*aD (aw ns)
def UY (cs:List Int)(h:∀c∈cs,1<=c):((dJ cs).map fun _=>(1:Int)).sum=aD cs:=by
 rw[Gu,AQ h];have:=fZ h;simp;omega
def Gw (h:Z1 g ns):∀c∈aw ns,1<=c:=fun c hc=>by
 unfold aw at hc;obtain⟨x,hx,rfl⟩:=Vu.1 hc;exact(h.node x hx).1.1
def UZ (h:Z1 g ns)(hv:v<ns.length)(h0:D v=false)(h1:D' v=true)(he:∀i,i≠v->D' i=D i)
  (hcl:∀(u:Nat) (x:ZJ),D u=true->ns[u]?=some x->∀p∈x.F,D p.toNat=true) (hpa:∀x,ns[v]?=some x->∀p∈x.F,D p.toNat=true) (hs:oV g ns D):oV g ns D':=by
 obtain⟨x,hx⟩:=ay hv;have hxm:=Va hx;have hc:=cW hx;have hc1:=Gw h;unfold oV at hs ⊢;have key:x.L*((dJ (aw ns)).map fun w=>fA ns.length D' (gh ns w)).sum=g*((dJ (aw ns)).map fun w=>fA ns.length D (gh ns w)).sum:=by
  rw[<- US hc1 hc,<- AR];refine qf fun w hw=>?_;have hf:=UN hc1 hw;have hl:w.length=ns.length:=by rw[hf.1];simp[aw]
  have e1:∀a:Nat,fA ns.length D' (gh ns (w.set v (a:Int)))=fA ns.length D (gh ns w)*(jA ns x w).getD a 0:=fun a=>by
   rw[AT _ h0 h1 he,Vf hv];congr 1
   ·refine UT fun u hu hd=>?_;obtain⟨y,hy⟩:=ay hu;have huv:v≠u:=fun e=>by rw[e,hd]at h0;cases h0
    unfold gh jA;rw[hy];dsimp only;rw[Gv fun p hp e=>by have:=hcl u y hd hy p hp;rw[e,h0]at this;cases this];simp only[Vh,VN huv]
   ·unfold gh jA;rw[hx];dsimp only;rw[Gv fun p hp e=>by have:=hpa x hx p hp;rw[e,h0]at this;cases this];congr 1;simp only[Vh,Vz (show v<w.length by omega)];rfl
  rw[qf fun a _=>e1 a,AR,WL g];congr 1;obtain⟨r,hr⟩:=UX h hxm hf;have hrow:jA ns x w=r:=by unfold jA;rw[bJ hr]
  have ho:=(h.nb x hxm).2 r (Va hr);rw[hrow,show x.L.toNat=r.length by have:=ho.1;omega,UV];exact ho.2.2
 rw[AT _ h0 h1 he,AT (fun _=>g) h0 h1 he,Vf hv,Vf hv,bJ hc,XP,key,<- XP,Int.mul_right_comm,hs];simp only[XP,WL g]
def xt (ns:List ZJ):(aC ns).length=ns.length:=by simp[aC]
def uK {s:Nat}(h:n<=dL n s):∀v,v<n->s.testBit v=true:=by
 have hl:=zA n s;have e:(List.range n).countP (fun i=>s.testBit i)=(List.range n).length:=by rw[WT];exact Nat.le_antisymm hl h
 exact fun v hv=>Zl.1 e v (Vp.2 hv)
def U0 (h:Z1 g ns):∀(k:Nat) (out:List Nat) (done:Nat) (r:List Nat),ia (aC ns) k out done=some r->ns.length<=k+dL ns.length done ->
  (∀(u:Nat) (x:ZJ),done.testBit u=true->ns[u]?=some x->∀p∈x.F,done.testBit p.toNat=true)->oV g ns (fun v=>done.testBit v)->oV g ns fun _=>true:=by
 have hp64:∀p∈aC ns,p<2 ^ 64:=fun p hp=>rR (n:=64) (fun x hx q hq=>by have:=(h.node x hx).2.2 q hq;have:=h.n1;omega) p hp;intro k
 induction k with
 |zero =>
  intro out done r _ hc _ hs;have hf:=uK (n:=ns.length) (s:=done) V;unfold oV at hs ⊢;have e:∀f,fA ns.length (fun v=>done.testBit v) f=fA ns.length (fun _=>true) f:=fun f=>by
   rw[AU hf,AU fun _ _=>rfl]
  rw[e,e,qf fun w _=>e (gh ns w)]at hs;exact hs
 |succ k ih =>
  intro out done r hr hc hcl hs;unfold ia at hr;cases hn:kr (aC ns) done with
  |none=>rw[hn]at hr;cases hr
  |some v =>
   rw[hn]at hr;obtain⟨h1,h2,h3⟩:=vI hp64 hn;rw[xt]at h1;obtain⟨y,hy⟩:=ay h1;have hpa:∀x,ns[v]?=some x->∀p∈x.F,done.testBit p.toNat=true:=fun x hx p hp=>by
    rw[bJ (kH hx)]at h3;refine h3 _ ?_;have hpos:=fun q hq=>((h.node x (Va hx)).2.2 q hq).1;rw[iE hpos];exact VB (by rw[Xv (hpos p hp)];exact hp)
   refine ih _ _ r hr ?_ ?_ (UZ h h1 h2 (D':=fun i=>(done |||2 ^ v).testBit i) ?_ (fun i hi=>?_) hcl hpa hs)
   ·have:=rf (n:=ns.length) (.left done (2 ^ v)) h1 h2 (by rw[gO];simp);omega
   ·intro u x hu hx p hp;rw[gO]at hu ⊢;rw[VM]at hu ⊢;left;rcases hu with hu|hu
    ·exact hcl u x hu hx p hp
    ·have:v=u:=of_decide_eq_true hu;subst this;exact hpa x hx p hp
   ·show (done |||2 ^ v).testBit v=true;rw[gO];simp
   ·show (done |||2 ^ v).testBit i=done.testBit i;rw[gO,V1 (fun e=>hi e.symm),Zi]
def U1 (ns:List ZJ):aD ((List.range ns.length).map fun v=>(aw ns).getD v 0)=aD (aw ns):=by
 congr 1;refine V2 fun i=>?_;rw[List.getElem?_map];rcases VA i ns.length with h|h
 ·obtain⟨x,hx⟩:=ay h;rw[VQ h,cW hx];show some ((aw ns).getD i 0)=_;rw[bJ (cW hx)]
 ·rw[Vm (by simpa using h),Vm (by simpa[aw] using h)];rfl
def U3 (h:Z1 g ns):((dJ (aw ns)).map (weight ns)).sum=g ^ ns.length:=by
 have hc:=Gw h;have hp:=fZ hc;have h8:=h.n1;have hps:∀p∈aC ns,p<2 ^ (aC ns).length:=fun p hp=>by
  rw[xt];exact rR (n:=ns.length) (fun x hx q hq=>(h.node x hx).2.2 q hq) p hp
 have ht:=(vJ hps (by rw[xt];omega)).2 h.nL;obtain⟨r,hr⟩:=VJ.1 ht;unfold fF at hr;rw[xt]at hr;have hs:=U0 h _ _ _ r hr V (fun u x hu=>by rw[V3]at hu;cases hu) (by
  unfold oV;have e:∀f,fA ns.length (fun v=>(0:Nat).testBit v) f=1:=fun f=>by
   rw[show (fun v=>(0:Nat).testBit v)=fun _=>false from funext fun v=>V3 v,UU]
  rw[e,e,qf fun w _=>e (gh ns w),UY _ hc])
 unfold oV at hs;have e:∀f,fA ns.length (fun _=>true) f=aD ((List.range ns.length).map f):=fun f=>AU (fun _ _=>rfl) f;rw[e,e,U1,UW,qf fun w _=>e (gh ns w)]at hs;rw[WL]at hs;exact Int.eq_of_mul_eq_mul_right V hs
end Go.Proofs.WS
namespace Go.Proofs
open Go.Hx Tryz
variable {c:Nat->Nat->Int}{d:ZK}
def AV (d:ZK)(c:Nat->Nat->Int):Int:=SS (cJ d.C) fun w=>if gi d c (wv d w)=true then cO d (wv d w) else 0
def U4 (hok:ZP d)(hc:rN d c):AV d c=d.nl ^ d.C.length:=by
 have h:=WS.U3 (FC hok hc);rw[ik]at h;rw[<- h,jX,WS.AQ fun x hx=>by
  obtain⟨y,hy,rfl⟩:=Vu.1 hx;exact(hok.n.L y hy).1]
 rw[XZ];unfold AV SS;exact congrArg List.sum (VF fun w _=>(D9 hok hc (iF hok w)).symm)
def Gx (n:Nat)(k:Int)(f:Nat->Int):SS n (fun i=>k*f i)=k*SS n f:=by
 induction n with
 |zero=>simp[pI]
 |succ n ih=>rw[ie,ie,ih,X4]
def U5 (hok:ZP d)(hc:rN d c):-(400*d.nl ^ d.C.length)<=fg d c/\fg d c<=400*d.nl ^ d.C.length:=by
 rw[<- U4 hok hc];have key:∀w,-(400*cO d (wv d w))<=dm d (wv d w)/\dm d (wv d w)<=400*cO d (wv d w):=fun w=>by
  have h1:=Fi hok (iF hok w);have h2:=AI hok.Z.2 hok.Z.1 (wv d w);unfold dm;have h3:=VV h2.2 h1;have h4:=VV h2.1 h1;generalize cO d (wv d w)*cZ d.C d.Z (wv d w)=t at *
  omega
 unfold fg AV;rw[<- Gx];constructor
 ·have:-(SS (cJ d.C) fun i=>400*if gi d c (wv d i)=true then cO d (wv d i) else 0)=SS (cJ d.C) fun i=>-1*(400*if gi d c (wv d i)=true then cO d (wv d i) else 0):=by rw[Gx _ (-1)];omega
  rw[this];refine tB fun w _=>?_;have:=(key w).1;split<;>omega
 ·refine tB fun w _=>?_;have:=(key w).2;split<;>omega
end Go.Proofs
