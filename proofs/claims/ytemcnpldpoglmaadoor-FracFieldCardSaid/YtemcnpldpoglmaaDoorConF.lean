/- Own work: contracts. -/
import Derived.Test.YtemcnpldpoglmaaDoorConE
set_option linter.all false
set_option linter.unusedSimpArgs false
set_option maxRecDepth 100000
namespace Go.Proofs
open Go.Hx
/-! The numbers that fractions stand for. -/
def rv (x y : Int) : Rat := (x : Rat) / (y : Rat)
theorem ratne {y : Int} (h : y ≠ 0) : (y : Rat) ≠ 0 := by exact_mod_cast h
theorem rv_cross {x y u v : Int} (hy : y ≠ 0) (hv : v ≠ 0) : rv x y = rv u v ↔ x * v = u * y := by
  have h1 := ratne hy
  have h2 := ratne hv
  constructor
  · intro h
    unfold rv at h
    have : (x : Rat) * v = u * y := by grind
    exact_mod_cast this
  · intro h
    have : (x : Rat) * v = u * y := by exact_mod_cast h
    unfold rv
    grind
theorem rv_inj {x y u v : Int} (h1 : checkQ x y = 0) (h2 : checkQ u v = 0) (h : rv x y = rv u v) : x = u ∧ y = v := by
  obtain ⟨_, ry, _⟩ := checkQ_range h1
  obtain ⟨_, rw', _⟩ := checkQ_range h2
  have c := (rv_cross (by omega) (by omega)).1 h
  have cn : x.natAbs * v.natAbs = u.natAbs * y.natAbs := by rw [← Int.natAbs_mul, c, Int.natAbs_mul]
  have g1 : Nat.Coprime y.natAbs x.natAbs := Nat.Coprime.symm (checkQ_gcd h1)
  have g2 : Nat.Coprime v.natAbs u.natAbs := Nat.Coprime.symm (checkQ_gcd h2)
  have d1 : y.natAbs ∣ v.natAbs := g1.dvd_of_dvd_mul_left ⟨u.natAbs, by rw [cn, Nat.mul_comm]⟩
  have d2 : v.natAbs ∣ y.natAbs := g2.dvd_of_dvd_mul_left ⟨x.natAbs, by rw [← cn, Nat.mul_comm]⟩
  have e := Nat.dvd_antisymm d1 d2
  have e2 : y = v := by omega
  subst e2
  exact ⟨Int.eq_of_mul_eq_mul_right (show y ≠ 0 by omega) c, rfl⟩
theorem checkQ_ok {x y : Int} (hx : -4611686018427387903 ≤ x ∧ x ≤ 4611686018427387903) (hy : 1 ≤ y ∧ y ≤ 4611686018427387903) (hg : Nat.gcd x.natAbs y.natAbs = 1) : checkQ x y = 0 := by
  unfold checkQ maxN
  rw [if_neg (by omega), if_neg (by rw [show Int.gcd x y = Nat.gcd x.natAbs y.natAbs from rfl, hg]; decide)]
theorem fit_val {S : Bool} {T D : Nat} {x y : Int} (hD : 0 < D) (h : fitO S (T / Nat.gcd T D) (D / Nat.gcd T D) = some (qV x y)) : checkQ x y = 0 ∧ rv x y = rv (if S = true then -(T : Int) else T) D := by
  have pg : 0 < Nat.gcd T D := Nat.gcd_pos_of_pos_right _ hD
  have e1 := Nat.div_mul_cancel (Nat.gcd_dvd_left T D)
  have e2 := Nat.div_mul_cancel (Nat.gcd_dvd_right T D)
  have k := Nat.coprime_div_gcd_div_gcd pg
  generalize Nat.gcd T D = g at *
  have dp : 0 < D / g := by
    rcases Nat.eq_zero_or_pos (D / g) with h0 | h0
    · rw [h0, Nat.zero_mul] at e2; omega
    · exact h0
  generalize T / g = t at *
  generalize D / g = d at *
  unfold fitO at h
  split at h
  · rename_i hb
    have hq : qV (if S = true then -(t : Int) else t) d = qV x y := by simpa using h
    unfold qV at hq
    simp only [AVal.agg.injEq, List.cons.injEq, AVal.lit.injEq, Value.int.injEq, and_true, true_and] at hq
    obtain ⟨q1, q2⟩ := hq
    have hk : Nat.gcd x.natAbs y.natAbs = 1 := by
      rw [← q1, ← q2]
      have : (if S = true then -(t : Int) else t).natAbs = t := by cases S <;> simp
      rw [this]
      exact k
    refine ⟨checkQ_ok (by rw [← q1]; cases S <;> simp <;> omega) (by omega) hk, ?_⟩
    rw [rv_cross (by omega) (by omega), ← q1, ← q2, ← e1, ← e2]
    cases S <;> simp <;> grind
  · cases h
theorem fit_some {S : Bool} {T D : Nat} (hT : T ≤ 4611686018427387903) (hD : D ≤ 4611686018427387903) : ∃ x y, fitO S (T / Nat.gcd T D) (D / Nat.gcd T D) = some (qV x y) := by
  have h1 : T / Nat.gcd T D ≤ T := Nat.div_le_self _ _
  have h2 : D / Nat.gcd T D ≤ D := Nat.div_le_self _ _
  unfold fitO
  rw [if_pos ⟨by omega, by omega⟩]
  exact ⟨_, _, rfl⟩
theorem sgn_cases (a c : Int) (Φ : Bool → Int → Int → Prop) (h1 : Φ false (-a) (-c)) (h2 : Φ true (-a) c) (h3 : Φ true a (-c)) (h4 : Φ false a c) : Φ (sgnB a c) (a.natAbs : Int) (c.natAbs : Int) := by
  by_cases q1 : a < 0 <;> by_cases q2 : c < 0
  · rw [show sgnB a c = false by unfold sgnB; simp [q1, q2], show ((a.natAbs : Nat) : Int) = -a by omega, show ((c.natAbs : Nat) : Int) = -c by omega]; exact h1
  · rw [show sgnB a c = true by unfold sgnB; simp [q1, q2], show ((a.natAbs : Nat) : Int) = -a by omega, show ((c.natAbs : Nat) : Int) = c by omega]; exact h2
  · rw [show sgnB a c = true by unfold sgnB; simp [q1, q2], show ((a.natAbs : Nat) : Int) = a by omega, show ((c.natAbs : Nat) : Int) = -c by omega]; exact h3
  · rw [show sgnB a c = false by unfold sgnB; simp [q1, q2], show ((a.natAbs : Nat) : Int) = a by omega, show ((c.natAbs : Nat) : Int) = c by omega]; exact h4
theorem sgnB_rv (n d : Int) (hd : d ≠ 0) : rv (if sgnB n d = true then -(n.natAbs : Int) else n.natAbs) d.natAbs = rv n d := by
  rw [rv_cross (by omega) hd]
  refine sgn_cases n d (fun S x y => (if S = true then -x else x) * d = n * y) ?_ ?_ ?_ ?_ <;> simp <;> grind
theorem make_val {n d x y : Int} (hd : d ≠ 0) (h : makeO n d = some (qV x y)) : checkQ x y = 0 ∧ rv x y = rv n d := by
  obtain ⟨h1, h2⟩ := fit_val (S := sgnB n d) (T := n.natAbs) (D := d.natAbs) (by omega) h
  exact ⟨h1, by rw [h2, sgnB_rv n d hd]⟩
theorem rv_neg (a b : Int) : rv (-a) b = - rv a b := by
  unfold rv
  rw [Rat.intCast_neg]
  grind
theorem tot_int {a c p q : Int} {X Y : Nat} (ha : a < 0 → (X : Int) = -p) (ha' : ¬ a < 0 → (X : Int) = p) (hc : c < 0 → (Y : Int) = -q) (hc' : ¬ c < 0 → (Y : Int) = q) :
    (if totS a c X Y = true then -(totT a c X Y : Int) else totT a c X Y) = p + q := by
  unfold totS totT
  by_cases h1 : a < 0 <;> by_cases h2 : c < 0 <;> by_cases h3 : X < Y <;> simp [h1, h2, h3] <;> simp [h1, h2] at ha ha' hc hc' <;> omega
theorem abs_mul {a d : Int} (hd : 1 ≤ d) : (a < 0 → ((a.natAbs * d.natAbs : Nat) : Int) = -(a * d)) ∧ (¬ a < 0 → ((a.natAbs * d.natAbs : Nat) : Int) = a * d) := by
  have e : ((d.natAbs : Nat) : Int) = d := by omega
  refine ⟨fun h => ?_, fun h => ?_⟩
  · rw [Int.natCast_mul, e, show ((a.natAbs : Nat) : Int) = -a by omega, Int.neg_mul]
  · rw [Int.natCast_mul, e, show ((a.natAbs : Nat) : Int) = a by omega]
theorem rv_add {a b c d : Int} (hb : b ≠ 0) (hd : d ≠ 0) : rv (a * d + c * b) (b * d) = rv a b + rv c d := by
  have h1 := ratne hb
  have h2 := ratne hd
  unfold rv
  rw [Rat.intCast_add, Rat.intCast_mul, Rat.intCast_mul, Rat.intCast_mul]
  grind
theorem rv_mul {a b c d : Int} (hb : b ≠ 0) (hd : d ≠ 0) : rv (a * c) (b * d) = rv a b * rv c d := by
  have h1 := ratne hb
  have h2 := ratne hd
  unfold rv
  rw [Rat.intCast_mul, Rat.intCast_mul]
  grind
theorem rv_div {a b c d : Int} (hb : b ≠ 0) (hd : d ≠ 0) (hc : c ≠ 0) : rv (a * d) (b * c) = rv a b / rv c d := by
  have h1 := ratne hb
  have h2 := ratne hd
  have h3 := ratne hc
  unfold rv
  rw [Rat.intCast_mul, Rat.intCast_mul]
  grind
theorem sum_val {a b c d x y : Int} (h1 : checkQ a b = 0) (h2 : checkQ c d = 0) (h : sumO a b c d = some (qV x y)) : checkQ x y = 0 ∧ rv x y = rv a b + rv c d := by
  obtain ⟨_, pb, _⟩ := checkQ_range h1
  obtain ⟨_, pd, _⟩ := checkQ_range h2
  rw [sum_made h1 h2] at h
  obtain ⟨k1, k2⟩ := fit_val (Nat.mul_pos (by omega) (by omega)) h
  refine ⟨k1, ?_⟩
  obtain ⟨a1, a2⟩ := abs_mul (a := a) pd.1
  obtain ⟨c1, c2⟩ := abs_mul (a := c) pb.1
  rw [k2, tot_int a1 a2 c1 c2, ← rv_add (by omega) (by omega), Int.natCast_mul, show ((b.natAbs : Nat) : Int) = b by omega, show ((d.natAbs : Nat) : Int) = d by omega]
theorem diff_val {a b c d x y : Int} (h1 : checkQ a b = 0) (h2 : checkQ c d = 0) (h : sumO a b (-c) d = some (qV x y)) : checkQ x y = 0 ∧ rv x y = rv a b - rv c d := by
  obtain ⟨k1, k2⟩ := sum_val h1 (show checkQ (-c) d = 0 by rw [checkQ_neg]; exact h2) h
  exact ⟨k1, by rw [k2, rv_neg, Rat.sub_eq_add_neg]⟩
theorem prod_val {a b c d x y : Int} (h1 : checkQ a b = 0) (h2 : checkQ c d = 0) (h : prodO a b c d = some (qV x y)) : checkQ x y = 0 ∧ rv x y = rv a b * rv c d := by
  obtain ⟨_, pb, _⟩ := checkQ_range h1
  obtain ⟨_, pd, _⟩ := checkQ_range h2
  rw [prod_made h1 h2] at h
  obtain ⟨k1, k2⟩ := fit_val (Nat.mul_pos (by omega) (by omega)) h
  refine ⟨k1, ?_⟩
  rw [k2, ← rv_mul (by omega) (by omega)]
  rw [Int.natCast_mul, Int.natCast_mul]
  congr 1
  · refine sgn_cases a c (fun S x y => (if S = true then -(x * y) else x * y) = a * c) ?_ ?_ ?_ ?_ <;> simp <;> grind
  · rw [show ((b.natAbs : Nat) : Int) = b by omega, show ((d.natAbs : Nat) : Int) = d by omega]
theorem quot_val {a b c d x y : Int} (h1 : checkQ a b = 0) (h2 : checkQ c d = 0) (hc : c ≠ 0) (h : quotO a b c d = some (qV x y)) : checkQ x y = 0 ∧ rv x y = rv a b / rv c d := by
  obtain ⟨_, pb, _⟩ := checkQ_range h1
  obtain ⟨_, pd, _⟩ := checkQ_range h2
  rw [quot_made h1 h2 hc] at h
  obtain ⟨k1, k2⟩ := fit_val (Nat.mul_pos (by omega) (by omega)) h
  refine ⟨k1, ?_⟩
  have bc : b * c ≠ 0 := Int.mul_ne_zero (by omega) hc
  rw [k2, ← rv_div (by omega) (by omega) hc, rv_cross (by have := Nat.mul_pos (show 0 < b.natAbs by omega) (show 0 < c.natAbs by omega); omega) bc]
  rw [Int.natCast_mul, Int.natCast_mul, show ((b.natAbs : Nat) : Int) = b by omega, show ((d.natAbs : Nat) : Int) = d by omega]
  refine sgn_cases a c (fun S x y => (if S = true then -(x * d) else x * d) * (b * c) = a * d * (b * y)) ?_ ?_ ?_ ?_ <;> simp <;> grind
end Go.Proofs
set_option linter.unusedSimpArgs false
set_option maxRecDepth 100000
namespace Go.Hx
variable {P : Program} {t : TypeId} {x y : Operand}
theorem or_one (n : Int) : ∃ m, (-9223372036854775808 ≤ m ∧ m ≤ 9223372036854775807) ∧ m ≠ 0 ∧ ∀ (P : Program) (t : TypeId) (x y : Operand), binA P .or t x y (.lit (.int .i64 n)) (.lit (.int .i64 1)) = some (.lit (.int .i64 m)) := by
  have h := fun (P : Program) (t : TypeId) (x y : Operand) => bin_or (P := P) (t := t) (x := x) (y := y) (k := .i64) (a := n) (b := 1)
  have ho : (BitVec.ofInt (IntKind.bits .i64) n ||| BitVec.ofInt (IntKind.bits .i64) 1).toNat % 2 = 1 := by
    show (BitVec.ofInt 64 n ||| BitVec.ofInt 64 1).toNat % 2 = 1
    have e : (BitVec.ofInt 64 1) = 1#64 := by decide
    rw [e, BitVec.toNat_or]
    have : (1#64).toNat = 1 := by decide
    rw [this]
    have k := Nat.testBit_or (BitVec.ofInt 64 n).toNat 1 0
    rw [Nat.testBit_zero, Nat.testBit_zero] at k
    have k2 : decide (((BitVec.ofInt 64 n).toNat ||| 1) % 2 = 1) = true := by rw [k]; simp
    exact of_decide_eq_true k2
  have hlt : (BitVec.ofInt (IntKind.bits .i64) n ||| BitVec.ofInt (IntKind.bits .i64) 1).toNat < 18446744073709551616 := BitVec.isLt _
  obtain ⟨u, hu⟩ : ∃ u, u = (BitVec.ofInt (IntKind.bits .i64) n ||| BitVec.ofInt (IntKind.bits .i64) 1).toNat := ⟨_, rfl⟩
  rw [← hu] at ho hlt
  by_cases hb : u < 9223372036854775808
  · exact ⟨u, by omega, by omega, fun P t x y => by rw [h, ← hu, IntWalk.i64_in _ (by omega)]⟩
  · have e : IntKind.i64.wrap (u : Int) = (u : Int) - 18446744073709551616 := by unfold IntKind.wrap; simp [IntKind.bits, IntKind.signed]; omega
    exact ⟨(u : Int) - 18446744073709551616, by omega, by omega, fun P t x y => by rw [h, ← hu, e]⟩
end Go.Hx
namespace Go.Proofs
open Go.Hx
theorem of_spec (n d : Int) (H : AHeap) (K : ARes → AHeap → Prop) (hK : K (.ret (qV n d)) H) : ACall Tryd.prog G0 39 [.lit (.int .i64 n), .lit (.int .i64 d)] H K := by
  refine ACall.clo ⟨_, Tryd.func39, rfl, rfl⟩ fun hcl => ?_
  refine ACall.of_body (n := 8) (rs := [.cell 4 23]) Tryd.func39 rfl rfl rfl (by decide) (by kernel_rfl) (by simp) ?_
  simp (config := { maxSteps := 1000000 }) only [go_sem, Int.reduceToNat, Int.reduceLE, Int.reduceLT, Int.reduceAdd, Int.reduceSub, Int.reduceMul, Int.reduceEq, Int.reduceNe, Nat.reduceEqDiff, Nat.reducePow, Nat.reduceDiv, Nat.reduceMod, Nat.reduceAdd, Nat.reduceMul, Nat.reduceSub, Nat.reduceLT, Nat.reduceLeDiff, reduceIte, reduceCtorEq, appendA_U]
  exact FinV.drop G0_ok hcl (fz_lits _ _) hK
/-- What Make gives of a denominator other than 0. -/
theorem make_out {n d : Int} (hd : d ≠ 0) : (makeR n d = .tup [qV 0 0, .lit (.int .i64 6)] ∧ makeO n d = none) ∨ ∃ x y, makeR n d = .tup [qV x y, .lit (.int .i64 0)] ∧ makeO n d = some (qV x y) ∧ checkQ x y = 0 ∧ rv x y = rv n d := by
  unfold makeR
  rw [if_neg hd]
  cases h : makeO n d with
  | none => exact .inl ⟨rfl, rfl⟩
  | some u =>
    obtain ⟨x, y, rfl⟩ := fitO_form h
    exact .inr ⟨x, y, rfl, rfl, make_val hd h⟩
theorem cmp_facts {x y u v : Int} (h1 : checkQ x y = 0) (h2 : checkQ u v = 0) : ∃ c c' : Int, cmpI (x * v) (u * y) = c ∧ cmpI (u * y) (x * v) = c' ∧ c = 0 - c' ∧ ¬ c < -1 ∧ ¬ 1 < c ∧ (decide (c = 0) == (x == u && y == v)) = true ∧ (c < 0 ↔ x * v < u * y) ∧ (0 < c ↔ u * y < x * v) := by
  obtain ⟨_, ry, _⟩ := checkQ_range h1
  obtain ⟨_, rw', _⟩ := checkQ_range h2
  have eq : x * v = u * y ↔ (x = u ∧ y = v) := ⟨fun h => rv_inj h1 h2 ((rv_cross (by omega) (by omega)).2 h), fun h => by rw [h.1, h.2]⟩
  refine ⟨_, _, rfl, rfl, ?_⟩
  generalize x * v = p at *
  generalize u * y = q at *
  unfold cmpI
  by_cases a1 : p < q
  · have : ¬ (x = u ∧ y = v) := fun h => by have := eq.2 h; omega
    rw [if_pos a1, if_neg (show ¬ q < p by omega), if_neg (show ¬ q = p by omega)]
    refine ⟨by omega, by omega, by omega, ?_, by omega, by omega⟩
    have e : (x == u && y == v) = false := by
      rw [Bool.eq_false_iff]
      intro h
      simp at h
      exact this h
    rw [e]; rfl
  · by_cases a2 : p = q
    · rw [if_neg a1, if_pos a2, if_neg (show ¬ q < p by omega), if_pos a2.symm]
      obtain ⟨r1, r2⟩ := eq.1 a2
      exact ⟨by omega, by omega, by omega, by simp [r1, r2], by omega, by omega⟩
    · have : ¬ (x = u ∧ y = v) := fun h => a2 (eq.2 h)
      rw [if_neg a1, if_neg a2, if_pos (show q < p by omega)]
      refine ⟨by omega, by omega, by omega, ?_, by omega, by omega⟩
      have e : (x == u && y == v) = false := by
        rw [Bool.eq_false_iff]
        intro h
        simp at h
        exact this h
      rw [e]; rfl
theorem floor_facts {x y : Int} (h : checkQ x y = 0) : (-4611686018427387903 ≤ x / y ∧ x / y ≤ 4611686018427387903) ∧ checkQ (x / y) 1 = 0 ∧ ¬ 0 < cmpI (x / y * y) (x * 1) ∧ (decide (cmpI (x / y * y) (x * 1) = 0) == decide (y = 1)) = true ∧ ¬ cmpI ((x / y + 1) * y) (x * 1) ≤ 0 := by
  obtain ⟨rx, ry, hg⟩ := checkQ_range h
  have dm := Int.mul_ediv_add_emod x y
  have m0 := Int.emod_nonneg x (show y ≠ 0 by omega)
  have m1 := Int.emod_lt_of_pos x (show 0 < y by omega)
  have lo : -4611686018427387903 ≤ x / y := (Int.le_ediv_iff_mul_le (by omega)).2 (by
    have : -4611686018427387903 * y ≤ -4611686018427387903 * 1 := Int.mul_le_mul_of_nonpos_left (by omega) (by omega)
    omega)
  have hi : x / y ≤ 4611686018427387903 := by
    by_cases h0 : 0 ≤ x
    · exact Int.le_trans (Int.ediv_le_self y h0) rx.2
    · have : x / y < 0 := Int.ediv_neg_of_neg_of_pos (by omega) (by omega)
      omega
  have ck : checkQ (x / y) 1 = 0 := checkQ_ok ⟨lo, hi⟩ (by omega) (by simp)
  have e0 : x / y * y = x - x % y := by rw [Int.mul_comm]; omega
  have e1 : (x / y + 1) * y = x - x % y + y := by rw [Int.add_mul, e0]; omega
  have z : x % y = 0 ↔ y = 1 := by
    constructor
    · intro h0
      have hd : y ∣ x := Int.dvd_of_emod_eq_zero h0
      have : Int.gcd x y = y.natAbs := Int.gcd_eq_natAbs_right hd
      omega
    · intro h0
      rw [h0]; exact Int.emod_one x
  refine ⟨⟨lo, hi⟩, ck, ?_, ?_, ?_⟩
  · rw [e0, Int.mul_one]
    unfold cmpI
    split
    · omega
    · split <;> omega
  · rw [e0, Int.mul_one]
    unfold cmpI
    by_cases hz : x % y = 0
    · rw [if_neg (by omega), if_pos (by omega), decide_eq_true (z.1 hz)]; rfl
    · rw [if_pos (by omega), decide_eq_false (fun k => hz (z.2 k))]; rfl
  · rw [e1, Int.mul_one]
    unfold cmpI
    rw [if_neg (by omega), if_neg (by omega)]
    decide
theorem diff_sign {x y u v p q : Int} (h1 : checkQ x y = 0) (h2 : checkQ u v = 0) (h : sumO x y (-u) v = some (qV p q)) : (p < 0 ↔ x * v < u * y) ∧ (0 < p ↔ u * y < x * v) := by
  obtain ⟨_, ry, _⟩ := checkQ_range h1
  obtain ⟨_, rw', _⟩ := checkQ_range h2
  obtain ⟨k1, k2⟩ := diff_val h1 h2 h
  obtain ⟨_, rq, _⟩ := checkQ_range k1
  have yv : 0 < y * v := Int.mul_pos (by omega) (by omega)
  have e := rv_add (a := x) (b := y) (c := -u) (d := v) (by omega) (by omega)
  rw [rv_neg, ← Rat.sub_eq_add_neg, ← k2] at e
  have c := (rv_cross (by omega) (by omega)).1 e
  rw [Int.neg_mul] at c
  generalize x * v = m at *
  generalize u * y = n at *
  generalize y * v = r at *
  have c' : (m + -n) * q = p * r := c
  refine ⟨⟨fun hp => ?_, fun hl => ?_⟩, ⟨fun hp => ?_, fun hl => ?_⟩⟩
  · have := Int.mul_neg_of_neg_of_pos hp yv
    rcases Int.lt_or_le m n with h | h
    · exact h
    · have := Int.mul_nonneg (show 0 ≤ m + -n by omega) (show 0 ≤ q by omega); omega
  · have := Int.mul_neg_of_neg_of_pos (show m + -n < 0 by omega) (show 0 < q by omega)
    rcases Int.lt_or_le p 0 with h | h
    · exact h
    · have := Int.mul_nonneg h (show 0 ≤ r by omega); omega
  · have := Int.mul_pos hp yv
    rcases Int.lt_or_le n m with h | h
    · exact h
    · have := Int.mul_nonneg (show 0 ≤ n - m by omega) (show 0 ≤ q by omega)
      have e2 : (n - m) * q = -((m + -n) * q) := by grind
      omega
  · have := Int.mul_pos (show 0 < m + -n by omega) (show 0 < q by omega)
    rcases Int.lt_or_le 0 p with h | h
    · exact h
    · have := Int.mul_nonneg (show 0 ≤ -p by omega) (show 0 ≤ r by omega)
      have e2 : -p * r = -(p * r) := by grind
      omega
end Go.Proofs
set_option linter.unusedSimpArgs false
set_option maxRecDepth 100000
namespace Go.Proofs
open Go.Hx
set_option maxHeartbeats 2000000 in
theorem signs_spec (n0 n1 n2 n3 : Int) (h0 : I64 n0) (h1 : I64 n1) (h2 : I64 n2) (h3 : I64 n3) (H : AHeap) (K : ARes → AHeap → Prop)
    (hK : K (.ret (.lit (.bool true))) H) : ACall Tryd.prog G0 10 [.agg (ints [n0, n1, n2, n3])] H K := by
  refine ACall.clo ⟨_, Tryd.func10, rfl, rfl⟩ fun hcl => ?_
  obtain ⟨m1, r1, z1, o1⟩ := or_one n1
  obtain ⟨m3, r3, z3, o3⟩ := or_one n3
  refine ACall.of_body (n := 165) (rs := [.tmp 2]) Tryd.func10 rfl rfl rfl (by decide) (by kernel_rfl) (by simp) ?_
  simp (config := { maxSteps := 1000000 }) only [go_sem, Int.reduceToNat, Int.reduceLE, Int.reduceLT, Int.reduceAdd, Int.reduceSub, Int.reduceMul, Int.reduceEq, Int.reduceNe, Nat.reduceEqDiff, Nat.reducePow, Nat.reduceDiv, Nat.reduceMod, Nat.reduceAdd, Nat.reduceMul, Nat.reduceSub, Nat.reduceLT, Nat.reduceLeDiff, reduceIte, reduceCtorEq, ints, lin, appendA_U]
  refine AApply.clo (works_ok _ _ ⟨trivial, ?_⟩)
  simp (config := { maxSteps := 1000000 }) only [go_sem, Int.reduceToNat, Int.reduceLE, Int.reduceLT, Int.reduceAdd, Int.reduceSub, Int.reduceMul, Int.reduceEq, Int.reduceNe, Nat.reduceEqDiff, Nat.reducePow, Nat.reduceDiv, Nat.reduceMod, Nat.reduceAdd, Nat.reduceMul, Nat.reduceSub, Nat.reduceLT, Nat.reduceLeDiff, reduceIte, reduceCtorEq, o1, appendA_U]
  refine AApply.clo (make_spec n0 m1 h0 r1 _ _ ⟨trivial, ?_⟩)
  rcases make_out (n := n0) z1 with ⟨e1, _⟩ | ⟨x, y, e1, _, cq, _⟩
  · rw [e1]
    simp (config := { maxSteps := 1000000 }) only [go_sem, Int.reduceToNat, Int.reduceLE, Int.reduceLT, Int.reduceAdd, Int.reduceSub, Int.reduceMul, Int.reduceEq, Int.reduceNe, Nat.reduceEqDiff, Nat.reducePow, Nat.reduceDiv, Nat.reduceMod, Nat.reduceAdd, Nat.reduceMul, Nat.reduceSub, Nat.reduceLT, Nat.reduceLeDiff, reduceIte, reduceCtorEq, o3, qV, appendA_U]
    refine AApply.clo (make_spec n2 m3 h2 r3 _ _ ⟨trivial, ?_⟩)
    rcases make_out (n := n2) z3 with ⟨e2, _⟩ | ⟨u, v, e2, _, cr, _⟩
    · rw [e2]
      simp (config := { maxSteps := 1000000 }) only [go_sem, Int.reduceToNat, Int.reduceLE, Int.reduceLT, Int.reduceAdd, Int.reduceSub, Int.reduceMul, Int.reduceEq, Int.reduceNe, Nat.reduceEqDiff, Nat.reducePow, Nat.reduceDiv, Nat.reduceMod, Nat.reduceAdd, Nat.reduceMul, Nat.reduceSub, Nat.reduceLT, Nat.reduceLeDiff, reduceIte, reduceCtorEq, qV, guardA_undef, appendA_U]
      exact FinV.drop G0_ok hcl (.lit _) hK
    · rw [e2]
      simp (config := { maxSteps := 1000000 }) only [go_sem, Int.reduceToNat, Int.reduceLE, Int.reduceLT, Int.reduceAdd, Int.reduceSub, Int.reduceMul, Int.reduceEq, Int.reduceNe, Nat.reduceEqDiff, Nat.reducePow, Nat.reduceDiv, Nat.reduceMod, Nat.reduceAdd, Nat.reduceMul, Nat.reduceSub, Nat.reduceLT, Nat.reduceLeDiff, reduceIte, reduceCtorEq, qV, guardA_undef, appendA_U]
      exact FinV.drop G0_ok hcl (.lit _) hK
  rw [e1]
  simp (config := { maxSteps := 1000000 }) only [go_sem, Int.reduceToNat, Int.reduceLE, Int.reduceLT, Int.reduceAdd, Int.reduceSub, Int.reduceMul, Int.reduceEq, Int.reduceNe, Nat.reduceEqDiff, Nat.reducePow, Nat.reduceDiv, Nat.reduceMod, Nat.reduceAdd, Nat.reduceMul, Nat.reduceSub, Nat.reduceLT, Nat.reduceLeDiff, reduceIte, reduceCtorEq, o3, qV, appendA_U]
  refine AApply.clo (make_spec n2 m3 h2 r3 _ _ ⟨trivial, ?_⟩)
  rcases make_out (n := n2) z3 with ⟨e2, _⟩ | ⟨u, v, e2, _, cr, _⟩
  · rw [e2]
    simp (config := { maxSteps := 1000000 }) only [go_sem, Int.reduceToNat, Int.reduceLE, Int.reduceLT, Int.reduceAdd, Int.reduceSub, Int.reduceMul, Int.reduceEq, Int.reduceNe, Nat.reduceEqDiff, Nat.reducePow, Nat.reduceDiv, Nat.reduceMod, Nat.reduceAdd, Nat.reduceMul, Nat.reduceSub, Nat.reduceLT, Nat.reduceLeDiff, reduceIte, reduceCtorEq, qV, guardA_undef, appendA_U]
    exact FinV.drop G0_ok hcl (.lit _) hK
  rw [e2]
  simp (config := { maxSteps := 1000000 }) only [go_sem, Int.reduceToNat, Int.reduceLE, Int.reduceLT, Int.reduceAdd, Int.reduceSub, Int.reduceMul, Int.reduceEq, Int.reduceNe, Nat.reduceEqDiff, Nat.reducePow, Nat.reduceDiv, Nat.reduceMod, Nat.reduceAdd, Nat.reduceMul, Nat.reduceSub, Nat.reduceLT, Nat.reduceLeDiff, reduceIte, reduceCtorEq, qV, guardA_undef, appendA_U]
  obtain ⟨rx, ry, _⟩ := checkQ_range cq
  obtain ⟨ru, rw', _⟩ := checkQ_range cr
  have ix : I64 x := by unfold I64; omega
  have iy : I64 y := by unfold I64; omega
  have iu : I64 u := by unfold I64; omega
  have iv' : I64 v := by unfold I64; omega
  have cmpE : ∀ {a b c d : Int}, checkQ a b = 0 → checkQ c d = 0 → cmpV a b c d = .tup [.lit (.int .i64 (cmpI (a * d) (c * b))), .lit (.int .i64 0)] := fun h1 h2 => by unfold cmpV; rw [if_pos ⟨h1, h2⟩]
  obtain ⟨c, c', ec, ec', cc, cn, cp, ceq, cl, cg⟩ := cmp_facts cq cr
  refine AApply.clo (Cmp_spec x y u v ⟨ix, iy⟩ ⟨iu, iv'⟩ _ _ ⟨trivial, ?_⟩)
  rw [cmpE cq cr, ec]
  simp (config := { maxSteps := 1000000 }) only [go_sem, Int.reduceToNat, Int.reduceLE, Int.reduceLT, Int.reduceAdd, Int.reduceSub, Int.reduceMul, Int.reduceEq, Int.reduceNe, Nat.reduceEqDiff, Nat.reducePow, Nat.reduceDiv, Nat.reduceMod, Nat.reduceAdd, Nat.reduceMul, Nat.reduceSub, Nat.reduceLT, Nat.reduceLeDiff, reduceIte, reduceCtorEq, qV, guardA_undef, appendA_U]
  refine AApply.clo (Cmp_spec u v x y ⟨iu, iv'⟩ ⟨ix, iy⟩ _ _ ⟨trivial, ?_⟩)
  rw [cmpE cr cq, ec']
  simp (config := { maxSteps := 1000000 }) only [go_sem, Int.reduceToNat, Int.reduceLE, Int.reduceLT, Int.reduceAdd, Int.reduceSub, Int.reduceMul, Int.reduceEq, Int.reduceNe, Nat.reduceEqDiff, Nat.reducePow, Nat.reduceDiv, Nat.reduceMod, Nat.reduceAdd, Nat.reduceMul, Nat.reduceSub, Nat.reduceLT, Nat.reduceLeDiff, reduceIte, reduceCtorEq, qV, guardA_undef, appendA_U]
  refine AApply.clo (Floor_spec x y ix iy _ _ ⟨trivial, ?_⟩)
  obtain ⟨rl, ckl, f1, f2, f3⟩ := floor_facts cq
  unfold floorV
  rw [if_pos cq]
  have wc := IntWalk.i64_in (0 - c') (by omega)
  rw [← cc] at wc
  simp (config := { maxSteps := 1000000 }) only [go_sem, Int.reduceToNat, Int.reduceLE, Int.reduceLT, Int.reduceAdd, Int.reduceSub, Int.reduceMul, Int.reduceEq, Int.reduceNe, Nat.reduceEqDiff, Nat.reducePow, Nat.reduceDiv, Nat.reduceMod, Nat.reduceAdd, Nat.reduceMul, Nat.reduceSub, Nat.reduceLT, Nat.reduceLeDiff, reduceIte, reduceCtorEq, qV, guardA_undef, ← cc, wc, cn, cp, eqlQ23, bin_neq_bool Tryd.underlying4, ceq, appendA_U]
  refine W.env fun E hE => ?_
  have a3 : E 3 = .ptr (H.next + 1) 0 0 := by rw [hE]; rfl
  have a5 : E 5 = .ptr (H.next + 2) 0 0 := by rw [hE]; rfl
  have a7 : E 7 = .lit (.int .i64 c) := by rw [hE]; rfl
  have a11 : E 11 = .lit (.int .i64 (x / y)) := by rw [hE]; rfl
  clear hE
  have cmp1 := Cmp_spec (x / y) 1 x y ⟨by omega, by omega⟩ ⟨ix, iy⟩
  rw [cmpE ckl cq] at cmp1
  have cmp2 := fun (hl : x / y < 4611686018427387903) => Cmp_spec (x / y + 1) 1 x y ⟨by omega, by omega⟩ ⟨ix, iy⟩
  have cmp2' := fun (hl : x / y < 4611686018427387903) => cmpE (a := x / y + 1) (b := 1) (checkQ_ok (by omega) (by omega) (by simp)) cq
  have dsg := fun p q => diff_sign (p := p) (q := q) cq cr
  have sb := sub_spec x y u v ⟨ix, iy⟩ ⟨iu, iv'⟩
  have sbE : bothR x y u v (sumO x y (-u) v) = gdOut gdQ (sumO x y (-u) v) := by unfold bothR; rw [if_pos ⟨cq, cr⟩]
  rw [sbE] at sb
  have frm : ∀ w, sumO x y (-u) v = some w → ∃ p q, w = qV p q := fun w h => fitO_form h
  generalize sumO x y (-u) v = O at *
  generalize x / y = low at *
  generalize cmpI (low * y) (x * 1) = one at *
  clear cmpE sbE ec ec'
  refine W.draw 8 [0, 1, 0, 7, 15, 31, 31, 63] Tryd.mixed (by kernel_rfl) (by kernel_rfl) ?_
  simp (config := { maxSteps := 1000000 }) only [go_sem, Int.reduceToNat, Int.reduceLE, Int.reduceLT, Int.reduceAdd, Int.reduceSub, Int.reduceMul, Int.reduceEq, Int.reduceNe, Nat.reduceEqDiff, Nat.reducePow, Nat.reduceDiv, Nat.reduceMod, Nat.reduceAdd, Nat.reduceMul, Nat.reduceSub, Nat.reduceLT, Nat.reduceLeDiff, reduceIte, reduceCtorEq, a3, a5, a7, a11, appendA_U]
  refine ⟨_, [], PCall.pure fun H2 => of_spec low 1 H2 _ ⟨rfl, rfl⟩, ?_⟩
  simp (config := { maxSteps := 1000000 }) only [go_sem, Int.reduceToNat, Int.reduceLE, Int.reduceLT, Int.reduceAdd, Int.reduceSub, Int.reduceMul, Int.reduceEq, Int.reduceNe, Nat.reduceEqDiff, Nat.reducePow, Nat.reduceDiv, Nat.reduceMod, Nat.reduceAdd, Nat.reduceMul, Nat.reduceSub, Nat.reduceLT, Nat.reduceLeDiff, reduceIte, reduceCtorEq, qV, appendA_U]
  refine ⟨_, [], PCall.pure fun H2 => cmp1 H2 _ ⟨rfl, rfl⟩, ?_⟩
  simp (config := { maxSteps := 1000000 }) only [go_sem, Int.reduceToNat, Int.reduceLE, Int.reduceLT, Int.reduceAdd, Int.reduceSub, Int.reduceMul, Int.reduceEq, Int.reduceNe, Nat.reduceEqDiff, Nat.reducePow, Nat.reduceDiv, Nat.reduceMod, Nat.reduceAdd, Nat.reduceMul, Nat.reduceSub, Nat.reduceLT, Nat.reduceLeDiff, reduceIte, reduceCtorEq, a3, a5, a7, a11, guardA_undef, f1, bin_neq_bool Tryd.underlying4, f2, appendA_U]
  by_cases hl : low < 4611686018427387903
  · have w1 := IntWalk.i64_in (low + 1) (by omega)
    simp (config := { maxSteps := 1000000 }) only [go_sem, Int.reduceToNat, Int.reduceLE, Int.reduceLT, Int.reduceAdd, Int.reduceSub, Int.reduceMul, Int.reduceEq, Int.reduceNe, Nat.reduceEqDiff, Nat.reducePow, Nat.reduceDiv, Nat.reduceMod, Nat.reduceAdd, Nat.reduceMul, Nat.reduceSub, Nat.reduceLT, Nat.reduceLeDiff, reduceIte, reduceCtorEq, a3, a5, a7, a11, guardA_undef, hl, appendA_U]
    refine W.draw 9 [0, 1, 3, 0, 15, 31, 63, 63, 127] Tryd.mixed (by kernel_rfl) (by kernel_rfl) ?_
    simp (config := { maxSteps := 1000000 }) only [go_sem, Int.reduceToNat, Int.reduceLE, Int.reduceLT, Int.reduceAdd, Int.reduceSub, Int.reduceMul, Int.reduceEq, Int.reduceNe, Nat.reduceEqDiff, Nat.reducePow, Nat.reduceDiv, Nat.reduceMod, Nat.reduceAdd, Nat.reduceMul, Nat.reduceSub, Nat.reduceLT, Nat.reduceLeDiff, reduceIte, reduceCtorEq, a3, a5, a7, a11, w1, appendA_U]
    refine ⟨_, [], PCall.pure fun H2 => of_spec (low + 1) 1 H2 _ ⟨rfl, rfl⟩, ?_⟩
    simp (config := { maxSteps := 1000000 }) only [go_sem, Int.reduceToNat, Int.reduceLE, Int.reduceLT, Int.reduceAdd, Int.reduceSub, Int.reduceMul, Int.reduceEq, Int.reduceNe, Nat.reduceEqDiff, Nat.reducePow, Nat.reduceDiv, Nat.reduceMod, Nat.reduceAdd, Nat.reduceMul, Nat.reduceSub, Nat.reduceLT, Nat.reduceLeDiff, reduceIte, reduceCtorEq, qV, appendA_U]
    refine ⟨_, [], PCall.pure fun H2 => cmp2 hl H2 _ (by rw [cmp2' hl]; exact ⟨rfl, rfl⟩), ?_⟩
    simp (config := { maxSteps := 1000000 }) only [go_sem, Int.reduceToNat, Int.reduceLE, Int.reduceLT, Int.reduceAdd, Int.reduceSub, Int.reduceMul, Int.reduceEq, Int.reduceNe, Nat.reduceEqDiff, Nat.reducePow, Nat.reduceDiv, Nat.reduceMod, Nat.reduceAdd, Nat.reduceMul, Nat.reduceSub, Nat.reduceLT, Nat.reduceLeDiff, reduceIte, reduceCtorEq, a3, a5, a7, a11, guardA_undef, f3, appendA_U]
    refine AApply.clo (sb _ _ ⟨trivial, ?_⟩)
    cases hO : O with
    | none =>
      have eg : gdOut gdQ none = .tup [qV 0 0, .lit (.int .i64 6)] := rfl
      rw [eg]
      simp (config := { maxSteps := 1000000 }) only [go_sem, Int.reduceToNat, Int.reduceLE, Int.reduceLT, Int.reduceAdd, Int.reduceSub, Int.reduceMul, Int.reduceEq, Int.reduceNe, Nat.reduceEqDiff, Nat.reducePow, Nat.reduceDiv, Nat.reduceMod, Nat.reduceAdd, Nat.reduceMul, Nat.reduceSub, Nat.reduceLT, Nat.reduceLeDiff, reduceIte, reduceCtorEq, a3, a5, a7, a11, qV, guardA_undef, appendA_U]
      exact FinV.drop G0_ok hcl (.lit _) hK
    | some w =>
      obtain ⟨p, q, rfl⟩ := frm w hO
      have eg : gdOut gdQ (some (qV p q)) = .tup [qV p q, .lit (.int .i64 0)] := rfl
      obtain ⟨g1, g2⟩ := dsg p q hO
      have q1 : (decide (c < 0) == decide (p < 0)) = true := by rw [show decide (c < 0) = decide (p < 0) from decide_eq_decide.2 (cl.trans g1.symm)]; simp
      have q2 : (decide (0 < c) == decide (0 < p)) = true := by rw [show decide (0 < c) = decide (0 < p) from decide_eq_decide.2 (cg.trans g2.symm)]; simp
      rw [eg]
      simp (config := { maxSteps := 1000000 }) only [go_sem, Int.reduceToNat, Int.reduceLE, Int.reduceLT, Int.reduceAdd, Int.reduceSub, Int.reduceMul, Int.reduceEq, Int.reduceNe, Nat.reduceEqDiff, Nat.reducePow, Nat.reduceDiv, Nat.reduceMod, Nat.reduceAdd, Nat.reduceMul, Nat.reduceSub, Nat.reduceLT, Nat.reduceLeDiff, reduceIte, reduceCtorEq, a3, a5, a7, a11, qV, guardA_undef, bin_eql_bool Tryd.underlying4, q1, q2, appendA_U]
      exact FinV.drop G0_ok hcl (.lit _) hK
  · simp (config := { maxSteps := 1000000 }) only [go_sem, Int.reduceToNat, Int.reduceLE, Int.reduceLT, Int.reduceAdd, Int.reduceSub, Int.reduceMul, Int.reduceEq, Int.reduceNe, Nat.reduceEqDiff, Nat.reducePow, Nat.reduceDiv, Nat.reduceMod, Nat.reduceAdd, Nat.reduceMul, Nat.reduceSub, Nat.reduceLT, Nat.reduceLeDiff, reduceIte, reduceCtorEq, a3, a5, a7, a11, guardA_undef, hl, appendA_U]
    refine AApply.clo (sb _ _ ⟨trivial, ?_⟩)
    cases hO : O with
    | none =>
      have eg : gdOut gdQ none = .tup [qV 0 0, .lit (.int .i64 6)] := rfl
      rw [eg]
      simp (config := { maxSteps := 1000000 }) only [go_sem, Int.reduceToNat, Int.reduceLE, Int.reduceLT, Int.reduceAdd, Int.reduceSub, Int.reduceMul, Int.reduceEq, Int.reduceNe, Nat.reduceEqDiff, Nat.reducePow, Nat.reduceDiv, Nat.reduceMod, Nat.reduceAdd, Nat.reduceMul, Nat.reduceSub, Nat.reduceLT, Nat.reduceLeDiff, reduceIte, reduceCtorEq, a3, a5, a7, a11, qV, guardA_undef, appendA_U]
      exact FinV.drop G0_ok hcl (.lit _) hK
    | some w =>
      obtain ⟨p, q, rfl⟩ := frm w hO
      have eg : gdOut gdQ (some (qV p q)) = .tup [qV p q, .lit (.int .i64 0)] := rfl
      obtain ⟨g1, g2⟩ := dsg p q hO
      have q1 : (decide (c < 0) == decide (p < 0)) = true := by rw [show decide (c < 0) = decide (p < 0) from decide_eq_decide.2 (cl.trans g1.symm)]; simp
      have q2 : (decide (0 < c) == decide (0 < p)) = true := by rw [show decide (0 < c) = decide (0 < p) from decide_eq_decide.2 (cg.trans g2.symm)]; simp
      rw [eg]
      simp (config := { maxSteps := 1000000 }) only [go_sem, Int.reduceToNat, Int.reduceLE, Int.reduceLT, Int.reduceAdd, Int.reduceSub, Int.reduceMul, Int.reduceEq, Int.reduceNe, Nat.reduceEqDiff, Nat.reducePow, Nat.reduceDiv, Nat.reduceMod, Nat.reduceAdd, Nat.reduceMul, Nat.reduceSub, Nat.reduceLT, Nat.reduceLeDiff, reduceIte, reduceCtorEq, a3, a5, a7, a11, qV, guardA_undef, bin_eql_bool Tryd.underlying4, q1, q2, appendA_U]
      exact FinV.drop G0_ok hcl (.lit _) hK
end Go.Proofs
set_option linter.unusedSimpArgs false
set_option maxRecDepth 100000
namespace Go.Proofs
open Go.Hx
/-! Small fractions, and what `is` gives. -/
def isV (n d : Int) : AVal := .clo 67 [] [.vptr [.lit (.int .i64 n)] 0, .vptr [.lit (.int .i64 d)] 0]
theorem is_spec (n d : Int) (H : AHeap) (K : ARes → AHeap → Prop) (hK : K (.ret (isV n d)) H) : ACall Tryd.prog G0 38 [.lit (.int .i64 n), .lit (.int .i64 d)] H K := by
  refine ACall.clo ⟨_, Tryd.func38, rfl, rfl⟩ fun hcl => ?_
  refine ACall.of_body (n := 6) (rs := [.tmp 4]) Tryd.func38 rfl rfl rfl (by decide) (by kernel_rfl) (by simp) ?_
  simp (config := { maxSteps := 1000000 }) only [go_sem, Int.reduceToNat, Int.reduceLE, Int.reduceLT, Int.reduceAdd, Int.reduceSub, Int.reduceMul, Int.reduceEq, Int.reduceNe, Nat.reduceEqDiff, Nat.reducePow, Nat.reduceDiv, Nat.reduceMod, Nat.reduceAdd, Nat.reduceMul, Nat.reduceSub, Nat.reduceLT, Nat.reduceLeDiff, reduceIte, reduceCtorEq, appendA_U]
  refine FinV.drop (v' := isV n d) G0_ok hcl ?_ hK
  refine .clo rfl rfl (fun i h _ => absurd h (Nat.not_lt_zero _)) fun i hi _ => ?_
  match i, hi with
  | 0, _ => exact .pfrz (Nat.le_refl _) (get_ext0 _ _ _) (by simp) rfl fun j hj _ => match j, hj with | 0, _ => .lit _
  | 1, _ => exact .pfrz (show H.next ≤ H.next + 1 by omega) (get_ext H _ 1 (by simp)) (by simp) rfl fun j hj _ => match j, hj with | 0, _ => .lit _
theorem is1_spec (n d : Int) (H : AHeap) (K : ARes → AHeap → Prop) (hK : K (.ret (.lit (.bool true))) H) : ACall Tryd.prog G0 67 [qV n d, .lit (.int .i64 0), .vptr [.lit (.int .i64 n)] 0, .vptr [.lit (.int .i64 d)] 0] H K := by
  refine ACall.clo ⟨_, Tryd.func67, rfl, rfl⟩ fun hcl => ?_
  have e1 : (n == n && d == d) = true := by simp
  refine ACall.of_body (n := 16) (rs := [.tmp 6]) Tryd.func67 rfl rfl rfl (by decide) (by kernel_rfl) (by simp) ?_
  simp (config := { maxSteps := 1000000 }) only [go_sem, Int.reduceToNat, Int.reduceLE, Int.reduceLT, Int.reduceAdd, Int.reduceSub, Int.reduceMul, Int.reduceEq, Int.reduceNe, Nat.reduceEqDiff, Nat.reducePow, Nat.reduceDiv, Nat.reduceMod, Nat.reduceAdd, Nat.reduceMul, Nat.reduceSub, Nat.reduceLT, Nat.reduceLeDiff, reduceIte, reduceCtorEq, qV, appendA_U]
  refine W.draw 4 [0, 0, 0, 6] Tryd.mixed (by kernel_rfl) (by kernel_rfl) ?_
  simp (config := { maxSteps := 1000000 }) only [go_sem, Int.reduceToNat, Int.reduceLE, Int.reduceLT, Int.reduceAdd, Int.reduceSub, Int.reduceMul, Int.reduceEq, Int.reduceNe, Nat.reduceEqDiff, Nat.reducePow, Nat.reduceDiv, Nat.reduceMod, Nat.reduceAdd, Nat.reduceMul, Nat.reduceSub, Nat.reduceLT, Nat.reduceLeDiff, reduceIte, reduceCtorEq, qV, appendA_U]
  refine ⟨_, [], PCall.pure fun H2 => of_spec n d H2 _ ⟨rfl, rfl⟩, ?_⟩
  simp (config := { maxSteps := 1000000 }) only [go_sem, Int.reduceToNat, Int.reduceLE, Int.reduceLT, Int.reduceAdd, Int.reduceSub, Int.reduceMul, Int.reduceEq, Int.reduceNe, Nat.reduceEqDiff, Nat.reducePow, Nat.reduceDiv, Nat.reduceMod, Nat.reduceAdd, Nat.reduceMul, Nat.reduceSub, Nat.reduceLT, Nat.reduceLeDiff, reduceIte, reduceCtorEq, qV, eqlQ23, e1, guardA_undef, appendA_U]
  exact FinV.drop G0_ok hcl (.lit _) hK
theorem fit_bnd {S : Bool} {T D : Nat} {x y : Int} (h : fitO S (T / Nat.gcd T D) (D / Nat.gcd T D) = some (qV x y)) : (-(T : Int) ≤ x ∧ x ≤ T) ∧ y ≤ D := by
  have h1 : T / Nat.gcd T D ≤ T := Nat.div_le_self _ _
  have h2 : D / Nat.gcd T D ≤ D := Nat.div_le_self _ _
  generalize T / Nat.gcd T D = t at *
  generalize D / Nat.gcd T D = d at *
  unfold fitO at h
  split at h
  · have hq : qV (if S = true then -(t : Int) else t) d = qV x y := by simpa using h
    unfold qV at hq
    simp only [AVal.agg.injEq, List.cons.injEq, AVal.lit.injEq, Value.int.injEq, and_true, true_and] at hq
    obtain ⟨q1, q2⟩ := hq
    rw [← q1, ← q2]
    cases S <;> simp <;> omega
  · cases h
/-- A fraction in bounds. -/
structure Sm (A B : Int) (x y : Int) : Prop where
  ck : checkQ x y = 0
  lo : -A ≤ x
  hi : x ≤ A
  den : y ≤ B
theorem make_sm {n d A B : Int} (hn : -A ≤ n ∧ n ≤ A) (hd : 1 ≤ d ∧ d ≤ B) (hA : A ≤ 4611686018427387903) (hB : B ≤ 4611686018427387903) : ∃ x y, makeR n d = .tup [qV x y, .lit (.int .i64 0)] ∧ Sm A B x y := by
  obtain ⟨x, y, h⟩ := fit_some (S := sgnB n d) (T := n.natAbs) (D := d.natAbs) (by omega) (by omega)
  obtain ⟨h1, h2⟩ := fit_bnd h
  have hm : makeO n d = some (qV x y) := h
  refine ⟨x, y, ?_, (make_val (by omega) hm).1, by omega, by omega, by omega⟩
  unfold makeR
  rw [if_neg (by omega), hm]
  rfl
theorem mul_bnd {x y A B : Int} (hx : -A ≤ x ∧ x ≤ A) (hy : -B ≤ y ∧ y ≤ B) : x.natAbs * y.natAbs ≤ (A * B).natAbs := by
  rw [Int.natAbs_mul]
  exact Nat.mul_le_mul (by omega) (by omega)
theorem tot_le (a c : Int) (X Y : Nat) : totT a c X Y ≤ X + Y := by
  unfold totT
  split
  · omega
  · split <;> omega
theorem sum_sm {a b c d A B C D E F : Int} (h1 : Sm A B a b) (h2 : Sm C D c d) (hE : (A * D).natAbs + (C * B).natAbs ≤ E.natAbs) (hE0 : 0 ≤ E) (hF : (B * D).natAbs ≤ F.natAbs) (hF0 : 0 ≤ F) (eM : E ≤ 4611686018427387903) (fM : F ≤ 4611686018427387903) :
    ∃ x y, sumO a b c d = some (qV x y) ∧ Sm E F x y ∧ rv x y = rv a b + rv c d := by
  obtain ⟨_, rb, _⟩ := checkQ_range h1.ck
  obtain ⟨_, rd, _⟩ := checkQ_range h2.ck
  have x1 := mul_bnd ⟨h1.lo, h1.hi⟩ (show -D ≤ d ∧ d ≤ D from ⟨by have := h2.den; omega, h2.den⟩)
  have x2 := mul_bnd ⟨h2.lo, h2.hi⟩ (show -B ≤ b ∧ b ≤ B from ⟨by have := h1.den; omega, h1.den⟩)
  have x3 := mul_bnd (show -B ≤ b ∧ b ≤ B from ⟨by have := h1.den; omega, h1.den⟩) (show -D ≤ d ∧ d ≤ D from ⟨by have := h2.den; omega, h2.den⟩)
  have x4 := tot_le a c (a.natAbs * d.natAbs) (c.natAbs * b.natAbs)
  have sm := sum_made h1.ck h2.ck
  obtain ⟨x, y, h⟩ := fit_some (S := totS a c (a.natAbs * d.natAbs) (c.natAbs * b.natAbs)) (T := totT a c (a.natAbs * d.natAbs) (c.natAbs * b.natAbs)) (D := b.natAbs * d.natAbs) (by omega) (by omega)
  obtain ⟨k1, k2⟩ := fit_bnd h
  rw [h] at sm
  obtain ⟨v1, v2⟩ := sum_val h1.ck h2.ck sm
  exact ⟨x, y, sm, ⟨v1, by omega, by omega, by omega⟩, v2⟩
theorem neg_sm {a b A B : Int} (h : Sm A B a b) : Sm A B (-a) b := ⟨by rw [checkQ_neg]; exact h.ck, by have := h.hi; omega, by have := h.lo; omega, h.den⟩
theorem prod_sm {a b c d A B C D E F : Int} (h1 : Sm A B a b) (h2 : Sm C D c d) (hE : (A * C).natAbs ≤ E.natAbs) (hE0 : 0 ≤ E) (hF : (B * D).natAbs ≤ F.natAbs) (hF0 : 0 ≤ F) (eM : E ≤ 4611686018427387903) (fM : F ≤ 4611686018427387903) :
    ∃ x y, prodO a b c d = some (qV x y) ∧ Sm E F x y ∧ rv x y = rv a b * rv c d := by
  obtain ⟨_, rb, _⟩ := checkQ_range h1.ck
  obtain ⟨_, rd, _⟩ := checkQ_range h2.ck
  have x1 := mul_bnd ⟨h1.lo, h1.hi⟩ ⟨h2.lo, h2.hi⟩
  have x3 := mul_bnd (show -B ≤ b ∧ b ≤ B from ⟨by have := h1.den; omega, h1.den⟩) (show -D ≤ d ∧ d ≤ D from ⟨by have := h2.den; omega, h2.den⟩)
  have sm := prod_made h1.ck h2.ck
  obtain ⟨x, y, h⟩ := fit_some (S := sgnB a c) (T := a.natAbs * c.natAbs) (D := b.natAbs * d.natAbs) (by omega) (by omega)
  obtain ⟨k1, k2⟩ := fit_bnd h
  rw [h] at sm
  obtain ⟨v1, v2⟩ := prod_val h1.ck h2.ck sm
  exact ⟨x, y, sm, ⟨v1, by omega, by omega, by omega⟩, v2⟩
theorem quot_sm {a b c d A B C D E F : Int} (hc : c ≠ 0) (h1 : Sm A B a b) (h2 : Sm C D c d) (hE : (A * D).natAbs ≤ E.natAbs) (hE0 : 0 ≤ E) (hF : (B * C).natAbs ≤ F.natAbs) (hF0 : 0 ≤ F) (eM : E ≤ 4611686018427387903) (fM : F ≤ 4611686018427387903) :
    ∃ x y, quotO a b c d = some (qV x y) ∧ Sm E F x y ∧ rv x y = rv a b / rv c d := by
  obtain ⟨_, rb, _⟩ := checkQ_range h1.ck
  obtain ⟨_, rd, _⟩ := checkQ_range h2.ck
  have x1 := mul_bnd ⟨h1.lo, h1.hi⟩ (show -D ≤ d ∧ d ≤ D from ⟨by have := h2.den; omega, h2.den⟩)
  have x3 := mul_bnd (show -B ≤ b ∧ b ≤ B from ⟨by have := h1.den; omega, h1.den⟩) ⟨h2.lo, h2.hi⟩
  have sm := quot_made h1.ck h2.ck hc
  obtain ⟨x, y, h⟩ := fit_some (S := sgnB a c) (T := a.natAbs * d.natAbs) (D := b.natAbs * c.natAbs) (by omega) (by omega)
  obtain ⟨k1, k2⟩ := fit_bnd h
  rw [h] at sm
  obtain ⟨v1, v2⟩ := quot_val h1.ck h2.ck hc sm
  exact ⟨x, y, sm, ⟨v1, by omega, by omega, by omega⟩, v2⟩
theorem rv_zero {x y : Int} (hy : y ≠ 0) : rv x y = 0 ↔ x = 0 := by
  have h1 := ratne hy
  unfold rv
  constructor
  · intro h
    have : (x : Rat) = 0 := by grind
    exact_mod_cast this
  · intro h
    subst h
    simp [Rat.div_def]
def I16 (n : Int) : Prop := -32768 ≤ n ∧ n ≤ 32767
theorem small_spec (n d : Int) (hn : I16 n) (hd : I16 d) : ∃ x y, Sm 499 500 x y ∧ ∀ (H : AHeap) (K : ARes → AHeap → Prop), K (.ret (qV x y)) H → ACall Tryd.prog G0 37 [.lit (.int .i16 n), .lit (.int .i16 d)] H K := by
  unfold I16 at hn hd
  have w1 := IntWalk.i64_in n (by omega)
  have w2 := IntWalk.i64_in d (by omega)
  have tb : ∀ z : Int, -499 ≤ z.tmod 500 ∧ z.tmod 500 ≤ 499 := fun z => by
    have h1 := Int.natAbs_tmod z 500
    have h2 := Nat.mod_lt z.natAbs (show 0 < (500 : Int).natAbs by decide)
    have h3 : (500 : Int).natAbs = 500 := rfl
    rw [h3] at h1 h2
    omega
  have b1 := tb n
  have b2 := tb d
  have w3 := IntWalk.i64_in (n.tmod 500) (by omega)
  have w4 := IntWalk.i64_in (d.tmod 500) (by omega)
  have w5 := IntWalk.i64_in (d.tmod 500 + 500) (by omega)
  have b3 : 0 ≤ (d.tmod 500 + 500).tmod 500 ∧ (d.tmod 500 + 500).tmod 500 ≤ 499 := ⟨Int.tmod_nonneg _ (by omega), (tb _).2⟩
  have w6 := IntWalk.i64_in ((d.tmod 500 + 500).tmod 500) (by omega)
  have w7 := IntWalk.i64_in (1 + (d.tmod 500 + 500).tmod 500) (by omega)
  obtain ⟨x, y, e, sm⟩ := make_sm (n := n.tmod 500) (d := 1 + (d.tmod 500 + 500).tmod 500) (A := 499) (B := 500) b1 (by omega) (by omega) (by omega)
  refine ⟨x, y, sm, fun H K hK => ?_⟩
  refine ACall.clo ⟨_, Tryd.func37, rfl, rfl⟩ fun hcl => ?_
  refine ACall.of_body (n := 24) (rs := [.cell 4 23]) Tryd.func37 rfl rfl rfl (by decide) (by kernel_rfl) (by simp) ?_
  simp (config := { maxSteps := 1000000 }) only [go_sem, Int.reduceToNat, Int.reduceLE, Int.reduceLT, Int.reduceAdd, Int.reduceSub, Int.reduceMul, Int.reduceEq, Int.reduceNe, Nat.reduceEqDiff, Nat.reducePow, Nat.reduceDiv, Nat.reduceMod, Nat.reduceAdd, Nat.reduceMul, Nat.reduceSub, Nat.reduceLT, Nat.reduceLeDiff, reduceIte, reduceCtorEq, w1, w2, w3, w4, w5, w6, w7, appendA_U]
  refine AApply.clo (make_spec _ _ (by omega) (by omega) _ _ ⟨trivial, ?_⟩)
  rw [e]
  simp (config := { maxSteps := 1000000 }) only [go_sem, Int.reduceToNat, Int.reduceLE, Int.reduceLT, Int.reduceAdd, Int.reduceSub, Int.reduceMul, Int.reduceEq, Int.reduceNe, Nat.reduceEqDiff, Nat.reducePow, Nat.reduceDiv, Nat.reduceMod, Nat.reduceAdd, Nat.reduceMul, Nat.reduceSub, Nat.reduceLT, Nat.reduceLeDiff, reduceIte, reduceCtorEq, qV, appendA_U]
  exact FinV.drop G0_ok hcl (fz_lits _ _) hK
end Go.Proofs
set_option linter.unusedSimpArgs false
set_option maxRecDepth 100000
namespace Go.Proofs
open Go.Hx
theorem wf_i16 {n : Int} (h : (Lit.int .i16 n).wf = true) : I16 n := by
  unfold I16
  simpa [Lit.wf, IntKind.min, IntKind.max, IntKind.signed, IntKind.bits] using h
theorem okR {a b c d x y : Int} {o : Option AVal} (h1 : checkQ a b = 0) (h2 : checkQ c d = 0) (ho : o = some (qV x y)) : bothR a b c d o = .tup [.agg [.lit (.int .i64 x), .lit (.int .i64 y)], .lit (.int .i64 0)] := by
  unfold bothR
  rw [if_pos ⟨h1, h2⟩, ho]
  rfl
theorem Sm.rg {A B x y : Int} (h : Sm A B x y) : (-9223372036854775808 ≤ x ∧ x ≤ 9223372036854775807) ∧ (-9223372036854775808 ≤ y ∧ y ≤ 9223372036854775807) := by
  obtain ⟨r1, r2, _⟩ := checkQ_range h.ck
  omega
theorem add_ok {a b c d x y A B C D : Int} (h1 : Sm A B a b) (h2 : Sm C D c d) (ho : sumO a b c d = some (qV x y)) (H : AHeap) (K : ARes → AHeap → Prop) (hK : K (.ret (.tup [.agg [.lit (.int .i64 x), .lit (.int .i64 y)], .lit (.int .i64 0)])) H) :
    ACall Tryd.prog G0 20 [.agg [.lit (.int .i64 a), .lit (.int .i64 b)], .agg [.lit (.int .i64 c), .lit (.int .i64 d)]] H K := add_spec a b c d h1.rg h2.rg H K (by rw [okR h1.ck h2.ck ho]; exact hK)
theorem sub_ok {a b c d x y A B C D : Int} (h1 : Sm A B a b) (h2 : Sm C D c d) (ho : sumO a b (-c) d = some (qV x y)) (H : AHeap) (K : ARes → AHeap → Prop) (hK : K (.ret (.tup [.agg [.lit (.int .i64 x), .lit (.int .i64 y)], .lit (.int .i64 0)])) H) :
    ACall Tryd.prog G0 21 [.agg [.lit (.int .i64 a), .lit (.int .i64 b)], .agg [.lit (.int .i64 c), .lit (.int .i64 d)]] H K := sub_spec a b c d h1.rg h2.rg H K (by rw [okR h1.ck h2.ck ho]; exact hK)
theorem mul_ok {a b c d x y A B C D : Int} (h1 : Sm A B a b) (h2 : Sm C D c d) (ho : prodO a b c d = some (qV x y)) (H : AHeap) (K : ARes → AHeap → Prop) (hK : K (.ret (.tup [.agg [.lit (.int .i64 x), .lit (.int .i64 y)], .lit (.int .i64 0)])) H) :
    ACall Tryd.prog G0 24 [.agg [.lit (.int .i64 a), .lit (.int .i64 b)], .agg [.lit (.int .i64 c), .lit (.int .i64 d)]] H K := mul_spec a b c d h1.rg h2.rg H K (by rw [okR h1.ck h2.ck ho]; exact hK)
theorem div_ok {a b c d x y A B C D : Int} (hc : c ≠ 0) (h1 : Sm A B a b) (h2 : Sm C D c d) (ho : quotO a b c d = some (qV x y)) (H : AHeap) (K : ARes → AHeap → Prop) (hK : K (.ret (.tup [.agg [.lit (.int .i64 x), .lit (.int .i64 y)], .lit (.int .i64 0)])) H) :
    ACall Tryd.prog G0 25 [.agg [.lit (.int .i64 a), .lit (.int .i64 b)], .agg [.lit (.int .i64 c), .lit (.int .i64 d)]] H K := div_spec a b c d h1.rg h2.rg H K (by
    unfold divR
    rw [if_neg (fun h => hc h.2.2), okR h1.ck h2.ck ho]; exact hK)
theorem is_ok (n d : Int) (H : AHeap) (K : ARes → AHeap → Prop) (hK : K (.ret (.clo 67 [] [.vptr [.lit (.int .i64 n)] 0, .vptr [.lit (.int .i64 d)] 0])) H) : ACall Tryd.prog G0 38 [.lit (.int .i64 n), .lit (.int .i64 d)] H K := is_spec n d H K hK
theorem is1_ok (n d : Int) (H : AHeap) (K : ARes → AHeap → Prop) (hK : K (.ret (.lit (.bool true))) H) : ACall Tryd.prog G0 67 [.agg [.lit (.int .i64 n), .lit (.int .i64 d)], .lit (.int .i64 0), .vptr [.lit (.int .i64 n)] 0, .vptr [.lit (.int .i64 d)] 0] H K := is1_spec n d H K hK
set_option maxHeartbeats 4000000 in
theorem field_spec (n0 n1 n2 n3 n4 n5 : Int) (h0 : I16 n0) (h1 : I16 n1) (h2 : I16 n2) (h3 : I16 n3) (h4 : I16 n4) (h5 : I16 n5) (H : AHeap) (K : ARes → AHeap → Prop)
    (hK : K (.ret (.lit (.bool true))) H) : ACall Tryd.prog G0 8 [.agg [.lit (.int .i16 n0), .lit (.int .i16 n1), .lit (.int .i16 n2), .lit (.int .i16 n3), .lit (.int .i16 n4), .lit (.int .i16 n5)]] H K := by
  refine ACall.clo ⟨_, Tryd.func8, rfl, rfl⟩ fun hcl => ?_
  obtain ⟨a, a', sa, ca⟩ := small_spec n0 n1 h0 h1
  obtain ⟨b, b', sb, cb⟩ := small_spec n2 n3 h2 h3
  obtain ⟨c, c', sc, cc⟩ := small_spec n4 n5 h4 h5
  obtain ⟨s, s', es, ss, vs⟩ := sum_sm (E := 499000) (F := 250000) sb sc (by decide) (by decide) (by decide) (by decide) (by decide) (by decide)
  obtain ⟨p, p', ep, sp, vp⟩ := prod_sm (E := 249001) (F := 250000) sa sb (by decide) (by decide) (by decide) (by decide) (by decide) (by decide)
  obtain ⟨q, q', eq, sq, vq⟩ := prod_sm (E := 249001) (F := 250000) sa sc (by decide) (by decide) (by decide) (by decide) (by decide) (by decide)
  obtain ⟨r, r', er, sr, vr⟩ := prod_sm (E := 249001000) (F := 125000000) sa ss (by decide) (by decide) (by decide) (by decide) (by decide) (by decide)
  have dv : b ≠ 0 → quotO p p' b b' = some (qV a a') := fun hb => by
    obtain ⟨x, y, ex, sx, vx⟩ := quot_sm (E := 124500500) (F := 124750000) hb sp sb (by decide) (by decide) (by decide) (by decide) (by decide) (by decide)
    obtain ⟨_, rb, _⟩ := checkQ_range sb.ck
    have bz : rv b b' ≠ 0 := fun h => hb ((rv_zero (by omega)).1 h)
    obtain ⟨i1, i2⟩ := rv_inj sx.ck sa.ck (by rw [vx, vp]; grind)
    rw [ex, i1, i2]
  have ad : sumO c c' b b' = some (qV s s') := by
    obtain ⟨x, y, ex, sx, vx⟩ := sum_sm (E := 499000) (F := 250000) sc sb (by decide) (by decide) (by decide) (by decide) (by decide) (by decide)
    obtain ⟨i1, i2⟩ := rv_inj sx.ck ss.ck (by rw [vx, vs]; grind)
    rw [ex, i1, i2]
  have mu : prodO b b' a a' = some (qV p p') := by
    obtain ⟨x, y, ex, sx, vx⟩ := prod_sm (E := 249001) (F := 250000) sb sa (by decide) (by decide) (by decide) (by decide) (by decide) (by decide)
    obtain ⟨i1, i2⟩ := rv_inj sx.ck sp.ck (by rw [vx, vp]; grind)
    rw [ex, i1, i2]
  have su : sumO s s' (-c) c' = some (qV b b') := by
    obtain ⟨x, y, ex, sx, vx⟩ := sum_sm (E := 374250000) (F := 125000000) ss (neg_sm sc) (by decide) (by decide) (by decide) (by decide) (by decide) (by decide)
    obtain ⟨i1, i2⟩ := rv_inj sx.ck sb.ck (by rw [vx, vs, rv_neg]; grind)
    rw [ex, i1, i2]
  have rd : sumO p p' q q' = some (qV r r') := by
    obtain ⟨x, y, ex, sx, vx⟩ := sum_sm (E := 124500500000) (F := 62500000000) sp sq (by decide) (by decide) (by decide) (by decide) (by decide) (by decide)
    obtain ⟨i1, i2⟩ := rv_inj sx.ck sr.ck (by rw [vx, vr, vs, vp, vq]; grind)
    rw [ex, i1, i2]
  clear vs vp vq vr
  refine ACall.of_body (n := 138) (rs := [.tmp 2]) Tryd.func8 rfl rfl rfl (by decide) (by kernel_rfl) (by simp) ?_
  simp (config := { maxSteps := 1000000 }) only [go_sem, Int.reduceToNat, Int.reduceLE, Int.reduceLT, Int.reduceAdd, Int.reduceSub, Int.reduceMul, Int.reduceEq, Int.reduceNe, Nat.reduceEqDiff, Nat.reducePow, Nat.reduceDiv, Nat.reduceMod, Nat.reduceAdd, Nat.reduceMul, Nat.reduceSub, Nat.reduceLT, Nat.reduceLeDiff, reduceIte, reduceCtorEq, appendA_U]
  refine AApply.clo (works_ok _ _ ⟨trivial, ?_⟩)
  simp (config := { maxSteps := 1000000 }) only [go_sem, Int.reduceToNat, Int.reduceLE, Int.reduceLT, Int.reduceAdd, Int.reduceSub, Int.reduceMul, Int.reduceEq, Int.reduceNe, Nat.reduceEqDiff, Nat.reducePow, Nat.reduceDiv, Nat.reduceMod, Nat.reduceAdd, Nat.reduceMul, Nat.reduceSub, Nat.reduceLT, Nat.reduceLeDiff, reduceIte, reduceCtorEq, appendA_U]
  refine W.draw 18 [0, 1, 0, 4, 15, 0, 32, 0, 128, 511, 0, 1024, 0, 4096, 16383, 0, 0, 0] Tryd.mixed (by kernel_rfl) (by kernel_rfl) ?_
  simp (config := { maxSteps := 1000000 }) only [go_sem, Int.reduceToNat, Int.reduceLE, Int.reduceLT, Int.reduceAdd, Int.reduceSub, Int.reduceMul, Int.reduceEq, Int.reduceNe, Nat.reduceEqDiff, Nat.reducePow, Nat.reduceDiv, Nat.reduceMod, Nat.reduceAdd, Nat.reduceMul, Nat.reduceSub, Nat.reduceLT, Nat.reduceLeDiff, reduceIte, reduceCtorEq, appendA_U]
  refine ⟨_, [], PCall.pure fun H2 => ca H2 _ ⟨rfl, rfl⟩, ?_⟩
  simp (config := { maxSteps := 1000000 }) only [go_sem, Int.reduceToNat, Int.reduceLE, Int.reduceLT, Int.reduceAdd, Int.reduceSub, Int.reduceMul, Int.reduceEq, Int.reduceNe, Nat.reduceEqDiff, Nat.reducePow, Nat.reduceDiv, Nat.reduceMod, Nat.reduceAdd, Nat.reduceMul, Nat.reduceSub, Nat.reduceLT, Nat.reduceLeDiff, reduceIte, reduceCtorEq, qV, appendA_U]
  refine ⟨_, [], PCall.pure fun H2 => cb H2 _ ⟨rfl, rfl⟩, ?_⟩
  simp (config := { maxSteps := 1000000 }) only [go_sem, Int.reduceToNat, Int.reduceLE, Int.reduceLT, Int.reduceAdd, Int.reduceSub, Int.reduceMul, Int.reduceEq, Int.reduceNe, Nat.reduceEqDiff, Nat.reducePow, Nat.reduceDiv, Nat.reduceMod, Nat.reduceAdd, Nat.reduceMul, Nat.reduceSub, Nat.reduceLT, Nat.reduceLeDiff, reduceIte, reduceCtorEq, qV, appendA_U]
  refine ⟨_, [], PCall.pure fun H2 => cc H2 _ ⟨rfl, rfl⟩, ?_⟩
  simp (config := { maxSteps := 1000000 }) only [go_sem, Int.reduceToNat, Int.reduceLE, Int.reduceLT, Int.reduceAdd, Int.reduceSub, Int.reduceMul, Int.reduceEq, Int.reduceNe, Nat.reduceEqDiff, Nat.reducePow, Nat.reduceDiv, Nat.reduceMod, Nat.reduceAdd, Nat.reduceMul, Nat.reduceSub, Nat.reduceLT, Nat.reduceLeDiff, reduceIte, reduceCtorEq, qV, appendA_U]
  refine ⟨by repeat' (first | refine And.intro ?_ ?_ | (intro x hx; omega)), ?_⟩
  refine ⟨by repeat' (first | refine And.intro ?_ ?_ | (intro x hx; omega)), ?_⟩
  refine ⟨by repeat' (first | refine And.intro ?_ ?_ | (intro x hx; omega)), ?_⟩
  simp (config := { maxSteps := 1000000 }) only [go_sem, Int.reduceToNat, Int.reduceLE, Int.reduceLT, Int.reduceAdd, Int.reduceSub, Int.reduceMul, Int.reduceEq, Int.reduceNe, Nat.reduceEqDiff, Nat.reducePow, Nat.reduceDiv, Nat.reduceMod, Nat.reduceAdd, Nat.reduceMul, Nat.reduceSub, Nat.reduceLT, Nat.reduceLeDiff, reduceIte, reduceCtorEq, ext_ext, List.cons_append, List.nil_append, Nat.add_assoc, appendA_U]
  refine AApply.clo (add_ok sb sc es _ _ ⟨trivial, ?_⟩)
  simp (config := { maxSteps := 1000000 }) only [go_sem, Int.reduceToNat, Int.reduceLE, Int.reduceLT, Int.reduceAdd, Int.reduceSub, Int.reduceMul, Int.reduceEq, Int.reduceNe, Nat.reduceEqDiff, Nat.reducePow, Nat.reduceDiv, Nat.reduceMod, Nat.reduceAdd, Nat.reduceMul, Nat.reduceSub, Nat.reduceLT, Nat.reduceLeDiff, reduceIte, reduceCtorEq, appendA_U]
  refine AApply.clo (mul_ok sa sb ep _ _ ⟨trivial, ?_⟩)
  simp (config := { maxSteps := 1000000 }) only [go_sem, Int.reduceToNat, Int.reduceLE, Int.reduceLT, Int.reduceAdd, Int.reduceSub, Int.reduceMul, Int.reduceEq, Int.reduceNe, Nat.reduceEqDiff, Nat.reducePow, Nat.reduceDiv, Nat.reduceMod, Nat.reduceAdd, Nat.reduceMul, Nat.reduceSub, Nat.reduceLT, Nat.reduceLeDiff, reduceIte, reduceCtorEq, appendA_U]
  refine AApply.clo (mul_ok sa sc eq _ _ ⟨trivial, ?_⟩)
  simp (config := { maxSteps := 1000000 }) only [go_sem, Int.reduceToNat, Int.reduceLE, Int.reduceLT, Int.reduceAdd, Int.reduceSub, Int.reduceMul, Int.reduceEq, Int.reduceNe, Nat.reduceEqDiff, Nat.reducePow, Nat.reduceDiv, Nat.reduceMod, Nat.reduceAdd, Nat.reduceMul, Nat.reduceSub, Nat.reduceLT, Nat.reduceLeDiff, reduceIte, reduceCtorEq, appendA_U]
  refine AApply.clo (mul_ok sa ss er _ _ ⟨trivial, ?_⟩)
  simp (config := { maxSteps := 1000000 }) only [go_sem, Int.reduceToNat, Int.reduceLE, Int.reduceLT, Int.reduceAdd, Int.reduceSub, Int.reduceMul, Int.reduceEq, Int.reduceNe, Nat.reduceEqDiff, Nat.reducePow, Nat.reduceDiv, Nat.reduceMod, Nat.reduceAdd, Nat.reduceMul, Nat.reduceSub, Nat.reduceLT, Nat.reduceLeDiff, reduceIte, reduceCtorEq, appendA_U]
  refine W.env fun E hE => ?_
  have a3 : E 3 = .ptr (H.next + 1) 0 0 := by rw [hE]; rfl
  have a4 : E 4 = .ptr (H.next + 2) 0 0 := by rw [hE]; rfl
  have a5 : E 5 = .ptr (H.next + 3) 0 0 := by rw [hE]; rfl
  have a6 : E 6 = .ptr (H.next + 4) 0 0 := by rw [hE]; rfl
  have a7 : E 7 = .lit (.int .i64 0) := by rw [hE]; rfl
  have a8 : E 8 = .ptr (H.next + 5) 0 0 := by rw [hE]; rfl
  have a9 : E 9 = .lit (.int .i64 0) := by rw [hE]; rfl
  have a10 : E 10 = .ptr (H.next + 6) 0 0 := by rw [hE]; rfl
  have a11 : E 11 = .lit (.int .i64 0) := by rw [hE]; rfl
  have a12 : E 12 = .ptr (H.next + 7) 0 0 := by rw [hE]; rfl
  have a13 : E 13 = .lit (.int .i64 0) := by rw [hE]; rfl
  clear hE
  by_cases hb : b = 0
  · subst hb
    clear dv
    refine W.draw 29 [0, 1, 3, 7, 15, 31, 63, 127, 255, 511, 1023, 2047, 4095, 8191, 16383, 32767, 65535, 131071, 262143, 524287, 1048575, 524287, 2621439, 8388607, 524287, 524287, 67108863, 134217727, 134217727] Tryd.mixed (by kernel_rfl) (by kernel_rfl) ?_
    simp (config := { maxSteps := 1000000 }) only [go_sem, Int.reduceToNat, Int.reduceLE, Int.reduceLT, Int.reduceAdd, Int.reduceSub, Int.reduceMul, Int.reduceEq, Int.reduceNe, Nat.reduceEqDiff, Nat.reducePow, Nat.reduceDiv, Nat.reduceMod, Nat.reduceAdd, Nat.reduceMul, Nat.reduceSub, Nat.reduceLT, Nat.reduceLeDiff, reduceIte, reduceCtorEq, a3, a4, a5, a6, a7, a8, a9, a10, a11, a12, a13, guardA_undef, appendA_U]
    refine W.draw 48 [0, 1, 0, 4, 15, 0, 0, 127, 255, 255, 1023, 2047, 4095, 8191, 4095, 20479, 65535, 4095, 4095, 524287, 1048575, 1048575, 4194303, 8388607, 16777215, 33554431, 67108863, 33554431, 167772159, 536870911, 33554431, 33554431, 4294967295, 8589934591, 8589934591, 34359738367, 68719476735, 137438953471, 274877906943, 549755813887, 274877906943, 1374389534719, 4398046511103, 274877906943, 274877906943, 35184372088831, 70368744177663, 70368744177663] Tryd.mixed (by kernel_rfl) (by kernel_rfl) ?_
    simp (config := { maxSteps := 1000000 }) only [go_sem, Int.reduceToNat, Int.reduceLE, Int.reduceLT, Int.reduceAdd, Int.reduceSub, Int.reduceMul, Int.reduceEq, Int.reduceNe, Nat.reduceEqDiff, Nat.reducePow, Nat.reduceDiv, Nat.reduceMod, Nat.reduceAdd, Nat.reduceMul, Nat.reduceSub, Nat.reduceLT, Nat.reduceLeDiff, reduceIte, reduceCtorEq, a3, a4, a5, a6, a7, a8, a9, a10, a11, a12, a13, guardA_undef, appendA_U]
    refine ⟨_, [], PCall.pure fun H2 => is_ok s s' H2 _ ⟨rfl, rfl⟩, ?_⟩
    simp (config := { maxSteps := 1000000 }) only [go_sem, Int.reduceToNat, Int.reduceLE, Int.reduceLT, Int.reduceAdd, Int.reduceSub, Int.reduceMul, Int.reduceEq, Int.reduceNe, Nat.reduceEqDiff, Nat.reducePow, Nat.reduceDiv, Nat.reduceMod, Nat.reduceAdd, Nat.reduceMul, Nat.reduceSub, Nat.reduceLT, Nat.reduceLeDiff, reduceIte, reduceCtorEq, a3, a4, a5, a6, a7, a8, a9, a10, a11, a12, a13, guardA_undef, appendA_U]
    refine ⟨_, [], PCall.pure fun H2 => add_ok sc sb ad H2 _ ⟨rfl, rfl⟩, ?_⟩
    simp (config := { maxSteps := 1000000 }) only [go_sem, Int.reduceToNat, Int.reduceLE, Int.reduceLT, Int.reduceAdd, Int.reduceSub, Int.reduceMul, Int.reduceEq, Int.reduceNe, Nat.reduceEqDiff, Nat.reducePow, Nat.reduceDiv, Nat.reduceMod, Nat.reduceAdd, Nat.reduceMul, Nat.reduceSub, Nat.reduceLT, Nat.reduceLeDiff, reduceIte, reduceCtorEq, a3, a4, a5, a6, a7, a8, a9, a10, a11, a12, a13, guardA_undef, appendA_U]
    refine ⟨_, [], PCall.mk (fun _ h => by cases h) fun H2 _ _ => is1_ok s s' H2 _ ⟨rfl, rfl⟩, ?_⟩
    simp (config := { maxSteps := 1000000 }) only [go_sem, Int.reduceToNat, Int.reduceLE, Int.reduceLT, Int.reduceAdd, Int.reduceSub, Int.reduceMul, Int.reduceEq, Int.reduceNe, Nat.reduceEqDiff, Nat.reducePow, Nat.reduceDiv, Nat.reduceMod, Nat.reduceAdd, Nat.reduceMul, Nat.reduceSub, Nat.reduceLT, Nat.reduceLeDiff, reduceIte, reduceCtorEq, a3, a4, a5, a6, a7, a8, a9, a10, a11, a12, a13, guardA_undef, appendA_U]
    refine ⟨_, [], PCall.pure fun H2 => is_ok p p' H2 _ ⟨rfl, rfl⟩, ?_⟩
    simp (config := { maxSteps := 1000000 }) only [go_sem, Int.reduceToNat, Int.reduceLE, Int.reduceLT, Int.reduceAdd, Int.reduceSub, Int.reduceMul, Int.reduceEq, Int.reduceNe, Nat.reduceEqDiff, Nat.reducePow, Nat.reduceDiv, Nat.reduceMod, Nat.reduceAdd, Nat.reduceMul, Nat.reduceSub, Nat.reduceLT, Nat.reduceLeDiff, reduceIte, reduceCtorEq, a3, a4, a5, a6, a7, a8, a9, a10, a11, a12, a13, guardA_undef, appendA_U]
    refine ⟨_, [], PCall.pure fun H2 => mul_ok sb sa mu H2 _ ⟨rfl, rfl⟩, ?_⟩
    simp (config := { maxSteps := 1000000 }) only [go_sem, Int.reduceToNat, Int.reduceLE, Int.reduceLT, Int.reduceAdd, Int.reduceSub, Int.reduceMul, Int.reduceEq, Int.reduceNe, Nat.reduceEqDiff, Nat.reducePow, Nat.reduceDiv, Nat.reduceMod, Nat.reduceAdd, Nat.reduceMul, Nat.reduceSub, Nat.reduceLT, Nat.reduceLeDiff, reduceIte, reduceCtorEq, a3, a4, a5, a6, a7, a8, a9, a10, a11, a12, a13, guardA_undef, appendA_U]
    refine ⟨_, [], PCall.mk (fun _ h => by cases h) fun H2 _ _ => is1_ok p p' H2 _ ⟨rfl, rfl⟩, ?_⟩
    simp (config := { maxSteps := 1000000 }) only [go_sem, Int.reduceToNat, Int.reduceLE, Int.reduceLT, Int.reduceAdd, Int.reduceSub, Int.reduceMul, Int.reduceEq, Int.reduceNe, Nat.reduceEqDiff, Nat.reducePow, Nat.reduceDiv, Nat.reduceMod, Nat.reduceAdd, Nat.reduceMul, Nat.reduceSub, Nat.reduceLT, Nat.reduceLeDiff, reduceIte, reduceCtorEq, a3, a4, a5, a6, a7, a8, a9, a10, a11, a12, a13, guardA_undef, appendA_U]
    refine ⟨_, [], PCall.pure fun H2 => is_ok 0 b' H2 _ ⟨rfl, rfl⟩, ?_⟩
    simp (config := { maxSteps := 1000000 }) only [go_sem, Int.reduceToNat, Int.reduceLE, Int.reduceLT, Int.reduceAdd, Int.reduceSub, Int.reduceMul, Int.reduceEq, Int.reduceNe, Nat.reduceEqDiff, Nat.reducePow, Nat.reduceDiv, Nat.reduceMod, Nat.reduceAdd, Nat.reduceMul, Nat.reduceSub, Nat.reduceLT, Nat.reduceLeDiff, reduceIte, reduceCtorEq, a3, a4, a5, a6, a7, a8, a9, a10, a11, a12, a13, guardA_undef, appendA_U]
    refine ⟨_, [], PCall.pure fun H2 => sub_ok ss sc su H2 _ ⟨rfl, rfl⟩, ?_⟩
    simp (config := { maxSteps := 1000000 }) only [go_sem, Int.reduceToNat, Int.reduceLE, Int.reduceLT, Int.reduceAdd, Int.reduceSub, Int.reduceMul, Int.reduceEq, Int.reduceNe, Nat.reduceEqDiff, Nat.reducePow, Nat.reduceDiv, Nat.reduceMod, Nat.reduceAdd, Nat.reduceMul, Nat.reduceSub, Nat.reduceLT, Nat.reduceLeDiff, reduceIte, reduceCtorEq, a3, a4, a5, a6, a7, a8, a9, a10, a11, a12, a13, guardA_undef, appendA_U]
    refine ⟨_, [], PCall.mk (fun _ h => by cases h) fun H2 _ _ => is1_ok 0 b' H2 _ ⟨rfl, rfl⟩, ?_⟩
    simp (config := { maxSteps := 1000000 }) only [go_sem, Int.reduceToNat, Int.reduceLE, Int.reduceLT, Int.reduceAdd, Int.reduceSub, Int.reduceMul, Int.reduceEq, Int.reduceNe, Nat.reduceEqDiff, Nat.reducePow, Nat.reduceDiv, Nat.reduceMod, Nat.reduceAdd, Nat.reduceMul, Nat.reduceSub, Nat.reduceLT, Nat.reduceLeDiff, reduceIte, reduceCtorEq, a3, a4, a5, a6, a7, a8, a9, a10, a11, a12, a13, guardA_undef, appendA_U]
    refine ⟨_, [], PCall.pure fun H2 => is_ok r r' H2 _ ⟨rfl, rfl⟩, ?_⟩
    simp (config := { maxSteps := 1000000 }) only [go_sem, Int.reduceToNat, Int.reduceLE, Int.reduceLT, Int.reduceAdd, Int.reduceSub, Int.reduceMul, Int.reduceEq, Int.reduceNe, Nat.reduceEqDiff, Nat.reducePow, Nat.reduceDiv, Nat.reduceMod, Nat.reduceAdd, Nat.reduceMul, Nat.reduceSub, Nat.reduceLT, Nat.reduceLeDiff, reduceIte, reduceCtorEq, a3, a4, a5, a6, a7, a8, a9, a10, a11, a12, a13, guardA_undef, appendA_U]
    refine ⟨_, [], PCall.pure fun H2 => add_ok sp sq rd H2 _ ⟨rfl, rfl⟩, ?_⟩
    simp (config := { maxSteps := 1000000 }) only [go_sem, Int.reduceToNat, Int.reduceLE, Int.reduceLT, Int.reduceAdd, Int.reduceSub, Int.reduceMul, Int.reduceEq, Int.reduceNe, Nat.reduceEqDiff, Nat.reducePow, Nat.reduceDiv, Nat.reduceMod, Nat.reduceAdd, Nat.reduceMul, Nat.reduceSub, Nat.reduceLT, Nat.reduceLeDiff, reduceIte, reduceCtorEq, a3, a4, a5, a6, a7, a8, a9, a10, a11, a12, a13, guardA_undef, appendA_U]
    refine AApply.clo (is1_ok r r' _ _ ⟨trivial, ?_⟩)
    simp (config := { maxSteps := 1000000 }) only [go_sem, Int.reduceToNat, Int.reduceLE, Int.reduceLT, Int.reduceAdd, Int.reduceSub, Int.reduceMul, Int.reduceEq, Int.reduceNe, Nat.reduceEqDiff, Nat.reducePow, Nat.reduceDiv, Nat.reduceMod, Nat.reduceAdd, Nat.reduceMul, Nat.reduceSub, Nat.reduceLT, Nat.reduceLeDiff, reduceIte, reduceCtorEq, a3, a4, a5, a6, a7, a8, a9, a10, a11, a12, a13, guardA_undef, appendA_U]
    exact FinV.drop G0_ok hcl (.lit _) hK
  · refine W.draw 29 [0, 1, 3, 7, 15, 31, 63, 127, 255, 511, 1023, 2047, 4095, 8191, 16383, 32767, 65535, 131071, 262143, 524287, 1048575, 524287, 2621439, 8388607, 524287, 524287, 67108863, 134217727, 134217727] Tryd.mixed (by kernel_rfl) (by kernel_rfl) ?_
    simp (config := { maxSteps := 1000000 }) only [go_sem, Int.reduceToNat, Int.reduceLE, Int.reduceLT, Int.reduceAdd, Int.reduceSub, Int.reduceMul, Int.reduceEq, Int.reduceNe, Nat.reduceEqDiff, Nat.reducePow, Nat.reduceDiv, Nat.reduceMod, Nat.reduceAdd, Nat.reduceMul, Nat.reduceSub, Nat.reduceLT, Nat.reduceLeDiff, reduceIte, reduceCtorEq, a3, a4, a5, a6, a7, a8, a9, a10, a11, a12, a13, guardA_undef, hb, appendA_U]
    refine ⟨_, [], PCall.pure fun H2 => is_ok a a' H2 _ ⟨rfl, rfl⟩, ?_⟩
    simp (config := { maxSteps := 1000000 }) only [go_sem, Int.reduceToNat, Int.reduceLE, Int.reduceLT, Int.reduceAdd, Int.reduceSub, Int.reduceMul, Int.reduceEq, Int.reduceNe, Nat.reduceEqDiff, Nat.reducePow, Nat.reduceDiv, Nat.reduceMod, Nat.reduceAdd, Nat.reduceMul, Nat.reduceSub, Nat.reduceLT, Nat.reduceLeDiff, reduceIte, reduceCtorEq, a3, a4, a5, a6, a7, a8, a9, a10, a11, a12, a13, guardA_undef, hb, appendA_U]
    refine ⟨_, [], PCall.pure fun H2 => div_ok hb sp sb (dv hb) H2 _ ⟨rfl, rfl⟩, ?_⟩
    simp (config := { maxSteps := 1000000 }) only [go_sem, Int.reduceToNat, Int.reduceLE, Int.reduceLT, Int.reduceAdd, Int.reduceSub, Int.reduceMul, Int.reduceEq, Int.reduceNe, Nat.reduceEqDiff, Nat.reducePow, Nat.reduceDiv, Nat.reduceMod, Nat.reduceAdd, Nat.reduceMul, Nat.reduceSub, Nat.reduceLT, Nat.reduceLeDiff, reduceIte, reduceCtorEq, a3, a4, a5, a6, a7, a8, a9, a10, a11, a12, a13, guardA_undef, hb, appendA_U]
    refine AApply.clo (is1_ok a a' _ _ ⟨trivial, ?_⟩)
    simp (config := { maxSteps := 1000000 }) only [go_sem, Int.reduceToNat, Int.reduceLE, Int.reduceLT, Int.reduceAdd, Int.reduceSub, Int.reduceMul, Int.reduceEq, Int.reduceNe, Nat.reduceEqDiff, Nat.reducePow, Nat.reduceDiv, Nat.reduceMod, Nat.reduceAdd, Nat.reduceMul, Nat.reduceSub, Nat.reduceLT, Nat.reduceLeDiff, reduceIte, reduceCtorEq, a3, a4, a5, a6, a7, a8, a9, a10, a11, a12, a13, guardA_undef, hb, appendA_U]
    refine W.draw 48 [0, 1, 0, 4, 15, 0, 0, 127, 255, 255, 1023, 2047, 4095, 8191, 4095, 20479, 65535, 4095, 4095, 524287, 1048575, 1048575, 4194303, 8388607, 16777215, 33554431, 67108863, 33554431, 167772159, 536870911, 33554431, 33554431, 4294967295, 8589934591, 8589934591, 34359738367, 68719476735, 137438953471, 274877906943, 549755813887, 274877906943, 1374389534719, 4398046511103, 274877906943, 274877906943, 35184372088831, 70368744177663, 70368744177663] Tryd.mixed (by kernel_rfl) (by kernel_rfl) ?_
    simp (config := { maxSteps := 1000000 }) only [go_sem, Int.reduceToNat, Int.reduceLE, Int.reduceLT, Int.reduceAdd, Int.reduceSub, Int.reduceMul, Int.reduceEq, Int.reduceNe, Nat.reduceEqDiff, Nat.reducePow, Nat.reduceDiv, Nat.reduceMod, Nat.reduceAdd, Nat.reduceMul, Nat.reduceSub, Nat.reduceLT, Nat.reduceLeDiff, reduceIte, reduceCtorEq, a3, a4, a5, a6, a7, a8, a9, a10, a11, a12, a13, guardA_undef, appendA_U]
    refine ⟨_, [], PCall.pure fun H2 => is_ok s s' H2 _ ⟨rfl, rfl⟩, ?_⟩
    simp (config := { maxSteps := 1000000 }) only [go_sem, Int.reduceToNat, Int.reduceLE, Int.reduceLT, Int.reduceAdd, Int.reduceSub, Int.reduceMul, Int.reduceEq, Int.reduceNe, Nat.reduceEqDiff, Nat.reducePow, Nat.reduceDiv, Nat.reduceMod, Nat.reduceAdd, Nat.reduceMul, Nat.reduceSub, Nat.reduceLT, Nat.reduceLeDiff, reduceIte, reduceCtorEq, a3, a4, a5, a6, a7, a8, a9, a10, a11, a12, a13, guardA_undef, appendA_U]
    refine ⟨_, [], PCall.pure fun H2 => add_ok sc sb ad H2 _ ⟨rfl, rfl⟩, ?_⟩
    simp (config := { maxSteps := 1000000 }) only [go_sem, Int.reduceToNat, Int.reduceLE, Int.reduceLT, Int.reduceAdd, Int.reduceSub, Int.reduceMul, Int.reduceEq, Int.reduceNe, Nat.reduceEqDiff, Nat.reducePow, Nat.reduceDiv, Nat.reduceMod, Nat.reduceAdd, Nat.reduceMul, Nat.reduceSub, Nat.reduceLT, Nat.reduceLeDiff, reduceIte, reduceCtorEq, a3, a4, a5, a6, a7, a8, a9, a10, a11, a12, a13, guardA_undef, appendA_U]
    refine ⟨_, [], PCall.mk (fun _ h => by cases h) fun H2 _ _ => is1_ok s s' H2 _ ⟨rfl, rfl⟩, ?_⟩
    simp (config := { maxSteps := 1000000 }) only [go_sem, Int.reduceToNat, Int.reduceLE, Int.reduceLT, Int.reduceAdd, Int.reduceSub, Int.reduceMul, Int.reduceEq, Int.reduceNe, Nat.reduceEqDiff, Nat.reducePow, Nat.reduceDiv, Nat.reduceMod, Nat.reduceAdd, Nat.reduceMul, Nat.reduceSub, Nat.reduceLT, Nat.reduceLeDiff, reduceIte, reduceCtorEq, a3, a4, a5, a6, a7, a8, a9, a10, a11, a12, a13, guardA_undef, appendA_U]
    refine ⟨_, [], PCall.pure fun H2 => is_ok p p' H2 _ ⟨rfl, rfl⟩, ?_⟩
    simp (config := { maxSteps := 1000000 }) only [go_sem, Int.reduceToNat, Int.reduceLE, Int.reduceLT, Int.reduceAdd, Int.reduceSub, Int.reduceMul, Int.reduceEq, Int.reduceNe, Nat.reduceEqDiff, Nat.reducePow, Nat.reduceDiv, Nat.reduceMod, Nat.reduceAdd, Nat.reduceMul, Nat.reduceSub, Nat.reduceLT, Nat.reduceLeDiff, reduceIte, reduceCtorEq, a3, a4, a5, a6, a7, a8, a9, a10, a11, a12, a13, guardA_undef, appendA_U]
    refine ⟨_, [], PCall.pure fun H2 => mul_ok sb sa mu H2 _ ⟨rfl, rfl⟩, ?_⟩
    simp (config := { maxSteps := 1000000 }) only [go_sem, Int.reduceToNat, Int.reduceLE, Int.reduceLT, Int.reduceAdd, Int.reduceSub, Int.reduceMul, Int.reduceEq, Int.reduceNe, Nat.reduceEqDiff, Nat.reducePow, Nat.reduceDiv, Nat.reduceMod, Nat.reduceAdd, Nat.reduceMul, Nat.reduceSub, Nat.reduceLT, Nat.reduceLeDiff, reduceIte, reduceCtorEq, a3, a4, a5, a6, a7, a8, a9, a10, a11, a12, a13, guardA_undef, appendA_U]
    refine ⟨_, [], PCall.mk (fun _ h => by cases h) fun H2 _ _ => is1_ok p p' H2 _ ⟨rfl, rfl⟩, ?_⟩
    simp (config := { maxSteps := 1000000 }) only [go_sem, Int.reduceToNat, Int.reduceLE, Int.reduceLT, Int.reduceAdd, Int.reduceSub, Int.reduceMul, Int.reduceEq, Int.reduceNe, Nat.reduceEqDiff, Nat.reducePow, Nat.reduceDiv, Nat.reduceMod, Nat.reduceAdd, Nat.reduceMul, Nat.reduceSub, Nat.reduceLT, Nat.reduceLeDiff, reduceIte, reduceCtorEq, a3, a4, a5, a6, a7, a8, a9, a10, a11, a12, a13, guardA_undef, appendA_U]
    refine ⟨_, [], PCall.pure fun H2 => is_ok b b' H2 _ ⟨rfl, rfl⟩, ?_⟩
    simp (config := { maxSteps := 1000000 }) only [go_sem, Int.reduceToNat, Int.reduceLE, Int.reduceLT, Int.reduceAdd, Int.reduceSub, Int.reduceMul, Int.reduceEq, Int.reduceNe, Nat.reduceEqDiff, Nat.reducePow, Nat.reduceDiv, Nat.reduceMod, Nat.reduceAdd, Nat.reduceMul, Nat.reduceSub, Nat.reduceLT, Nat.reduceLeDiff, reduceIte, reduceCtorEq, a3, a4, a5, a6, a7, a8, a9, a10, a11, a12, a13, guardA_undef, appendA_U]
    refine ⟨_, [], PCall.pure fun H2 => sub_ok ss sc su H2 _ ⟨rfl, rfl⟩, ?_⟩
    simp (config := { maxSteps := 1000000 }) only [go_sem, Int.reduceToNat, Int.reduceLE, Int.reduceLT, Int.reduceAdd, Int.reduceSub, Int.reduceMul, Int.reduceEq, Int.reduceNe, Nat.reduceEqDiff, Nat.reducePow, Nat.reduceDiv, Nat.reduceMod, Nat.reduceAdd, Nat.reduceMul, Nat.reduceSub, Nat.reduceLT, Nat.reduceLeDiff, reduceIte, reduceCtorEq, a3, a4, a5, a6, a7, a8, a9, a10, a11, a12, a13, guardA_undef, appendA_U]
    refine ⟨_, [], PCall.mk (fun _ h => by cases h) fun H2 _ _ => is1_ok b b' H2 _ ⟨rfl, rfl⟩, ?_⟩
    simp (config := { maxSteps := 1000000 }) only [go_sem, Int.reduceToNat, Int.reduceLE, Int.reduceLT, Int.reduceAdd, Int.reduceSub, Int.reduceMul, Int.reduceEq, Int.reduceNe, Nat.reduceEqDiff, Nat.reducePow, Nat.reduceDiv, Nat.reduceMod, Nat.reduceAdd, Nat.reduceMul, Nat.reduceSub, Nat.reduceLT, Nat.reduceLeDiff, reduceIte, reduceCtorEq, a3, a4, a5, a6, a7, a8, a9, a10, a11, a12, a13, guardA_undef, appendA_U]
    refine ⟨_, [], PCall.pure fun H2 => is_ok r r' H2 _ ⟨rfl, rfl⟩, ?_⟩
    simp (config := { maxSteps := 1000000 }) only [go_sem, Int.reduceToNat, Int.reduceLE, Int.reduceLT, Int.reduceAdd, Int.reduceSub, Int.reduceMul, Int.reduceEq, Int.reduceNe, Nat.reduceEqDiff, Nat.reducePow, Nat.reduceDiv, Nat.reduceMod, Nat.reduceAdd, Nat.reduceMul, Nat.reduceSub, Nat.reduceLT, Nat.reduceLeDiff, reduceIte, reduceCtorEq, a3, a4, a5, a6, a7, a8, a9, a10, a11, a12, a13, guardA_undef, appendA_U]
    refine ⟨_, [], PCall.pure fun H2 => add_ok sp sq rd H2 _ ⟨rfl, rfl⟩, ?_⟩
    simp (config := { maxSteps := 1000000 }) only [go_sem, Int.reduceToNat, Int.reduceLE, Int.reduceLT, Int.reduceAdd, Int.reduceSub, Int.reduceMul, Int.reduceEq, Int.reduceNe, Nat.reduceEqDiff, Nat.reducePow, Nat.reduceDiv, Nat.reduceMod, Nat.reduceAdd, Nat.reduceMul, Nat.reduceSub, Nat.reduceLT, Nat.reduceLeDiff, reduceIte, reduceCtorEq, a3, a4, a5, a6, a7, a8, a9, a10, a11, a12, a13, guardA_undef, appendA_U]
    refine AApply.clo (is1_ok r r' _ _ ⟨trivial, ?_⟩)
    simp (config := { maxSteps := 1000000 }) only [go_sem, Int.reduceToNat, Int.reduceLE, Int.reduceLT, Int.reduceAdd, Int.reduceSub, Int.reduceMul, Int.reduceEq, Int.reduceNe, Nat.reduceEqDiff, Nat.reducePow, Nat.reduceDiv, Nat.reduceMod, Nat.reduceAdd, Nat.reduceMul, Nat.reduceSub, Nat.reduceLT, Nat.reduceLeDiff, reduceIte, reduceCtorEq, a3, a4, a5, a6, a7, a8, a9, a10, a11, a12, a13, guardA_undef, appendA_U]
    exact FinV.drop G0_ok hcl (.lit _) hK
end Go.Proofs
