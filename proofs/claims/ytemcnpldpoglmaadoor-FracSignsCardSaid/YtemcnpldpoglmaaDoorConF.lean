/- Own work: contracts. -/
import Derived.Test.YtemcnpldpoglmaaDoorConE
set_option linter.all false
set_option linter.unusedSimpArgs false
set_option maxRecDepth 100000
namespace Go.Proofs
open Go.Hx
/-! The numbers that fractions stand for. -/
def rv (x y : Int) : Rat := (x : Rat) / (y : Rat)
theorem ratne {y : Int} (h : y ≠ 0) : (y : Rat) ≠ 0 := by exact_mod_cast h
theorem rv_cross {x y u v : Int} (hy : y ≠ 0) (hv : v ≠ 0) : rv x y = rv u v ↔ x * v = u * y := by
  have h1 := ratne hy
  have h2 := ratne hv
  constructor
  · intro h
    unfold rv at h
    have : (x : Rat) * v = u * y := by grind
    exact_mod_cast this
  · intro h
    have : (x : Rat) * v = u * y := by exact_mod_cast h
    unfold rv
    grind
theorem rv_inj {x y u v : Int} (h1 : checkQ x y = 0) (h2 : checkQ u v = 0) (h : rv x y = rv u v) : x = u ∧ y = v := by
  obtain ⟨_, ry, _⟩ := checkQ_range h1
  obtain ⟨_, rw', _⟩ := checkQ_range h2
  have c := (rv_cross (by omega) (by omega)).1 h
  have cn : x.natAbs * v.natAbs = u.natAbs * y.natAbs := by rw [← Int.natAbs_mul, c, Int.natAbs_mul]
  have g1 : Nat.Coprime y.natAbs x.natAbs := Nat.Coprime.symm (checkQ_gcd h1)
  have g2 : Nat.Coprime v.natAbs u.natAbs := Nat.Coprime.symm (checkQ_gcd h2)
  have d1 : y.natAbs ∣ v.natAbs := g1.dvd_of_dvd_mul_left ⟨u.natAbs, by rw [cn, Nat.mul_comm]⟩
  have d2 : v.natAbs ∣ y.natAbs := g2.dvd_of_dvd_mul_left ⟨x.natAbs, by rw [← cn, Nat.mul_comm]⟩
  have e := Nat.dvd_antisymm d1 d2
  have e2 : y = v := by omega
  subst e2
  exact ⟨Int.eq_of_mul_eq_mul_right (show y ≠ 0 by omega) c, rfl⟩
theorem checkQ_ok {x y : Int} (hx : -4611686018427387903 ≤ x ∧ x ≤ 4611686018427387903) (hy : 1 ≤ y ∧ y ≤ 4611686018427387903) (hg : Nat.gcd x.natAbs y.natAbs = 1) : checkQ x y = 0 := by
  unfold checkQ maxN
  rw [if_neg (by omega), if_neg (by rw [show Int.gcd x y = Nat.gcd x.natAbs y.natAbs from rfl, hg]; decide)]
theorem fit_val {S : Bool} {T D : Nat} {x y : Int} (hD : 0 < D) (h : fitO S (T / Nat.gcd T D) (D / Nat.gcd T D) = some (qV x y)) : checkQ x y = 0 ∧ rv x y = rv (if S = true then -(T : Int) else T) D := by
  have pg : 0 < Nat.gcd T D := Nat.gcd_pos_of_pos_right _ hD
  have e1 := Nat.div_mul_cancel (Nat.gcd_dvd_left T D)
  have e2 := Nat.div_mul_cancel (Nat.gcd_dvd_right T D)
  have k := Nat.coprime_div_gcd_div_gcd pg
  generalize Nat.gcd T D = g at *
  have dp : 0 < D / g := by
    rcases Nat.eq_zero_or_pos (D / g) with h0 | h0
    · rw [h0, Nat.zero_mul] at e2; omega
    · exact h0
  generalize T / g = t at *
  generalize D / g = d at *
  unfold fitO at h
  split at h
  · rename_i hb
    have hq : qV (if S = true then -(t : Int) else t) d = qV x y := by simpa using h
    unfold qV at hq
    simp only [AVal.agg.injEq, List.cons.injEq, AVal.lit.injEq, Value.int.injEq, and_true, true_and] at hq
    obtain ⟨q1, q2⟩ := hq
    have hk : Nat.gcd x.natAbs y.natAbs = 1 := by
      rw [← q1, ← q2]
      have : (if S = true then -(t : Int) else t).natAbs = t := by cases S <;> simp
      rw [this]
      exact k
    refine ⟨checkQ_ok (by rw [← q1]; cases S <;> simp <;> omega) (by omega) hk, ?_⟩
    rw [rv_cross (by omega) (by omega), ← q1, ← q2, ← e1, ← e2]
    cases S <;> simp <;> grind
  · cases h
theorem fit_some {S : Bool} {T D : Nat} (hT : T ≤ 4611686018427387903) (hD : D ≤ 4611686018427387903) : ∃ x y, fitO S (T / Nat.gcd T D) (D / Nat.gcd T D) = some (qV x y) := by
  have h1 : T / Nat.gcd T D ≤ T := Nat.div_le_self _ _
  have h2 : D / Nat.gcd T D ≤ D := Nat.div_le_self _ _
  unfold fitO
  rw [if_pos ⟨by omega, by omega⟩]
  exact ⟨_, _, rfl⟩
theorem sgn_cases (a c : Int) (Φ : Bool → Int → Int → Prop) (h1 : Φ false (-a) (-c)) (h2 : Φ true (-a) c) (h3 : Φ true a (-c)) (h4 : Φ false a c) : Φ (sgnB a c) (a.natAbs : Int) (c.natAbs : Int) := by
  by_cases q1 : a < 0 <;> by_cases q2 : c < 0
  · rw [show sgnB a c = false by unfold sgnB; simp [q1, q2], show ((a.natAbs : Nat) : Int) = -a by omega, show ((c.natAbs : Nat) : Int) = -c by omega]; exact h1
  · rw [show sgnB a c = true by unfold sgnB; simp [q1, q2], show ((a.natAbs : Nat) : Int) = -a by omega, show ((c.natAbs : Nat) : Int) = c by omega]; exact h2
  · rw [show sgnB a c = true by unfold sgnB; simp [q1, q2], show ((a.natAbs : Nat) : Int) = a by omega, show ((c.natAbs : Nat) : Int) = -c by omega]; exact h3
  · rw [show sgnB a c = false by unfold sgnB; simp [q1, q2], show ((a.natAbs : Nat) : Int) = a by omega, show ((c.natAbs : Nat) : Int) = c by omega]; exact h4
theorem sgnB_rv (n d : Int) (hd : d ≠ 0) : rv (if sgnB n d = true then -(n.natAbs : Int) else n.natAbs) d.natAbs = rv n d := by
  rw [rv_cross (by omega) hd]
  refine sgn_cases n d (fun S x y => (if S = true then -x else x) * d = n * y) ?_ ?_ ?_ ?_ <;> simp <;> grind
theorem make_val {n d x y : Int} (hd : d ≠ 0) (h : makeO n d = some (qV x y)) : checkQ x y = 0 ∧ rv x y = rv n d := by
  obtain ⟨h1, h2⟩ := fit_val (S := sgnB n d) (T := n.natAbs) (D := d.natAbs) (by omega) h
  exact ⟨h1, by rw [h2, sgnB_rv n d hd]⟩
theorem rv_neg (a b : Int) : rv (-a) b = - rv a b := by
  unfold rv
  rw [Rat.intCast_neg]
  grind
theorem tot_int {a c p q : Int} {X Y : Nat} (ha : a < 0 → (X : Int) = -p) (ha' : ¬ a < 0 → (X : Int) = p) (hc : c < 0 → (Y : Int) = -q) (hc' : ¬ c < 0 → (Y : Int) = q) :
    (if totS a c X Y = true then -(totT a c X Y : Int) else totT a c X Y) = p + q := by
  unfold totS totT
  by_cases h1 : a < 0 <;> by_cases h2 : c < 0 <;> by_cases h3 : X < Y <;> simp [h1, h2, h3] <;> simp [h1, h2] at ha ha' hc hc' <;> omega
theorem abs_mul {a d : Int} (hd : 1 ≤ d) : (a < 0 → ((a.natAbs * d.natAbs : Nat) : Int) = -(a * d)) ∧ (¬ a < 0 → ((a.natAbs * d.natAbs : Nat) : Int) = a * d) := by
  have e : ((d.natAbs : Nat) : Int) = d := by omega
  refine ⟨fun h => ?_, fun h => ?_⟩
  · rw [Int.natCast_mul, e, show ((a.natAbs : Nat) : Int) = -a by omega, Int.neg_mul]
  · rw [Int.natCast_mul, e, show ((a.natAbs : Nat) : Int) = a by omega]
theorem rv_add {a b c d : Int} (hb : b ≠ 0) (hd : d ≠ 0) : rv (a * d + c * b) (b * d) = rv a b + rv c d := by
  have h1 := ratne hb
  have h2 := ratne hd
  unfold rv
  rw [Rat.intCast_add, Rat.intCast_mul, Rat.intCast_mul, Rat.intCast_mul]
  grind
theorem rv_mul {a b c d : Int} (hb : b ≠ 0) (hd : d ≠ 0) : rv (a * c) (b * d) = rv a b * rv c d := by
  have h1 := ratne hb
  have h2 := ratne hd
  unfold rv
  rw [Rat.intCast_mul, Rat.intCast_mul]
  grind
theorem rv_div {a b c d : Int} (hb : b ≠ 0) (hd : d ≠ 0) (hc : c ≠ 0) : rv (a * d) (b * c) = rv a b / rv c d := by
  have h1 := ratne hb
  have h2 := ratne hd
  have h3 := ratne hc
  unfold rv
  rw [Rat.intCast_mul, Rat.intCast_mul]
  grind
theorem sum_val {a b c d x y : Int} (h1 : checkQ a b = 0) (h2 : checkQ c d = 0) (h : sumO a b c d = some (qV x y)) : checkQ x y = 0 ∧ rv x y = rv a b + rv c d := by
  obtain ⟨_, pb, _⟩ := checkQ_range h1
  obtain ⟨_, pd, _⟩ := checkQ_range h2
  rw [sum_made h1 h2] at h
  obtain ⟨k1, k2⟩ := fit_val (Nat.mul_pos (by omega) (by omega)) h
  refine ⟨k1, ?_⟩
  obtain ⟨a1, a2⟩ := abs_mul (a := a) pd.1
  obtain ⟨c1, c2⟩ := abs_mul (a := c) pb.1
  rw [k2, tot_int a1 a2 c1 c2, ← rv_add (by omega) (by omega), Int.natCast_mul, show ((b.natAbs : Nat) : Int) = b by omega, show ((d.natAbs : Nat) : Int) = d by omega]
theorem diff_val {a b c d x y : Int} (h1 : checkQ a b = 0) (h2 : checkQ c d = 0) (h : sumO a b (-c) d = some (qV x y)) : checkQ x y = 0 ∧ rv x y = rv a b - rv c d := by
  obtain ⟨k1, k2⟩ := sum_val h1 (show checkQ (-c) d = 0 by rw [checkQ_neg]; exact h2) h
  exact ⟨k1, by rw [k2, rv_neg, Rat.sub_eq_add_neg]⟩
theorem prod_val {a b c d x y : Int} (h1 : checkQ a b = 0) (h2 : checkQ c d = 0) (h : prodO a b c d = some (qV x y)) : checkQ x y = 0 ∧ rv x y = rv a b * rv c d := by
  obtain ⟨_, pb, _⟩ := checkQ_range h1
  obtain ⟨_, pd, _⟩ := checkQ_range h2
  rw [prod_made h1 h2] at h
  obtain ⟨k1, k2⟩ := fit_val (Nat.mul_pos (by omega) (by omega)) h
  refine ⟨k1, ?_⟩
  rw [k2, ← rv_mul (by omega) (by omega)]
  rw [Int.natCast_mul, Int.natCast_mul]
  congr 1
  · refine sgn_cases a c (fun S x y => (if S = true then -(x * y) else x * y) = a * c) ?_ ?_ ?_ ?_ <;> simp <;> grind
  · rw [show ((b.natAbs : Nat) : Int) = b by omega, show ((d.natAbs : Nat) : Int) = d by omega]
theorem quot_val {a b c d x y : Int} (h1 : checkQ a b = 0) (h2 : checkQ c d = 0) (hc : c ≠ 0) (h : quotO a b c d = some (qV x y)) : checkQ x y = 0 ∧ rv x y = rv a b / rv c d := by
  obtain ⟨_, pb, _⟩ := checkQ_range h1
  obtain ⟨_, pd, _⟩ := checkQ_range h2
  rw [quot_made h1 h2 hc] at h
  obtain ⟨k1, k2⟩ := fit_val (Nat.mul_pos (by omega) (by omega)) h
  refine ⟨k1, ?_⟩
  have bc : b * c ≠ 0 := Int.mul_ne_zero (by omega) hc
  rw [k2, ← rv_div (by omega) (by omega) hc, rv_cross (by have := Nat.mul_pos (show 0 < b.natAbs by omega) (show 0 < c.natAbs by omega); omega) bc]
  rw [Int.natCast_mul, Int.natCast_mul, show ((b.natAbs : Nat) : Int) = b by omega, show ((d.natAbs : Nat) : Int) = d by omega]
  refine sgn_cases a c (fun S x y => (if S = true then -(x * d) else x * d) * (b * c) = a * d * (b * y)) ?_ ?_ ?_ ?_ <;> simp <;> grind
end Go.Proofs
set_option linter.unusedSimpArgs false
set_option maxRecDepth 100000
namespace Go.Hx
variable {P : Program} {t : TypeId} {x y : Operand}
theorem or_one (n : Int) : ∃ m, (-9223372036854775808 ≤ m ∧ m ≤ 9223372036854775807) ∧ m ≠ 0 ∧ ∀ (P : Program) (t : TypeId) (x y : Operand), binA P .or t x y (.lit (.int .i64 n)) (.lit (.int .i64 1)) = some (.lit (.int .i64 m)) := by
  have h := fun (P : Program) (t : TypeId) (x y : Operand) => bin_or (P := P) (t := t) (x := x) (y := y) (k := .i64) (a := n) (b := 1)
  have ho : (BitVec.ofInt (IntKind.bits .i64) n ||| BitVec.ofInt (IntKind.bits .i64) 1).toNat % 2 = 1 := by
    show (BitVec.ofInt 64 n ||| BitVec.ofInt 64 1).toNat % 2 = 1
    have e : (BitVec.ofInt 64 1) = 1#64 := by decide
    rw [e, BitVec.toNat_or]
    have : (1#64).toNat = 1 := by decide
    rw [this]
    have k := Nat.testBit_or (BitVec.ofInt 64 n).toNat 1 0
    rw [Nat.testBit_zero, Nat.testBit_zero] at k
    have k2 : decide (((BitVec.ofInt 64 n).toNat ||| 1) % 2 = 1) = true := by rw [k]; simp
    exact of_decide_eq_true k2
  have hlt : (BitVec.ofInt (IntKind.bits .i64) n ||| BitVec.ofInt (IntKind.bits .i64) 1).toNat < 18446744073709551616 := BitVec.isLt _
  obtain ⟨u, hu⟩ : ∃ u, u = (BitVec.ofInt (IntKind.bits .i64) n ||| BitVec.ofInt (IntKind.bits .i64) 1).toNat := ⟨_, rfl⟩
  rw [← hu] at ho hlt
  by_cases hb : u < 9223372036854775808
  · exact ⟨u, by omega, by omega, fun P t x y => by rw [h, ← hu, IntWalk.i64_in _ (by omega)]⟩
  · have e : IntKind.i64.wrap (u : Int) = (u : Int) - 18446744073709551616 := by unfold IntKind.wrap; simp [IntKind.bits, IntKind.signed]; omega
    exact ⟨(u : Int) - 18446744073709551616, by omega, by omega, fun P t x y => by rw [h, ← hu, e]⟩
end Go.Hx
namespace Go.Proofs
open Go.Hx
theorem of_spec (n d : Int) (H : AHeap) (K : ARes → AHeap → Prop) (hK : K (.ret (qV n d)) H) : ACall Tryd.prog G0 39 [.lit (.int .i64 n), .lit (.int .i64 d)] H K := by
  refine ACall.clo ⟨_, Tryd.func39, rfl, rfl⟩ fun hcl => ?_
  refine ACall.of_body (n := 8) (rs := [.cell 4 23]) Tryd.func39 rfl rfl rfl (by decide) (by kernel_rfl) (by simp) ?_
  simp (config := { maxSteps := 1000000 }) only [go_sem, Int.reduceToNat, Int.reduceLE, Int.reduceLT, Int.reduceAdd, Int.reduceSub, Int.reduceMul, Int.reduceEq, Int.reduceNe, Nat.reduceEqDiff, Nat.reducePow, Nat.reduceDiv, Nat.reduceMod, Nat.reduceAdd, Nat.reduceMul, Nat.reduceSub, Nat.reduceLT, Nat.reduceLeDiff, reduceIte, reduceCtorEq, appendA_U]
  exact FinV.drop G0_ok hcl (fz_lits _ _) hK
/-- What Make gives of a denominator other than 0. -/
theorem make_out {n d : Int} (hd : d ≠ 0) : (makeR n d = .tup [qV 0 0, .lit (.int .i64 6)] ∧ makeO n d = none) ∨ ∃ x y, makeR n d = .tup [qV x y, .lit (.int .i64 0)] ∧ makeO n d = some (qV x y) ∧ checkQ x y = 0 ∧ rv x y = rv n d := by
  unfold makeR
  rw [if_neg hd]
  cases h : makeO n d with
  | none => exact .inl ⟨rfl, rfl⟩
  | some u =>
    obtain ⟨x, y, rfl⟩ := fitO_form h
    exact .inr ⟨x, y, rfl, rfl, make_val hd h⟩
theorem cmp_facts {x y u v : Int} (h1 : checkQ x y = 0) (h2 : checkQ u v = 0) : ∃ c c' : Int, cmpI (x * v) (u * y) = c ∧ cmpI (u * y) (x * v) = c' ∧ c = 0 - c' ∧ ¬ c < -1 ∧ ¬ 1 < c ∧ (decide (c = 0) == (x == u && y == v)) = true ∧ (c < 0 ↔ x * v < u * y) ∧ (0 < c ↔ u * y < x * v) := by
  obtain ⟨_, ry, _⟩ := checkQ_range h1
  obtain ⟨_, rw', _⟩ := checkQ_range h2
  have eq : x * v = u * y ↔ (x = u ∧ y = v) := ⟨fun h => rv_inj h1 h2 ((rv_cross (by omega) (by omega)).2 h), fun h => by rw [h.1, h.2]⟩
  refine ⟨_, _, rfl, rfl, ?_⟩
  generalize x * v = p at *
  generalize u * y = q at *
  unfold cmpI
  by_cases a1 : p < q
  · have : ¬ (x = u ∧ y = v) := fun h => by have := eq.2 h; omega
    rw [if_pos a1, if_neg (show ¬ q < p by omega), if_neg (show ¬ q = p by omega)]
    refine ⟨by omega, by omega, by omega, ?_, by omega, by omega⟩
    have e : (x == u && y == v) = false := by
      rw [Bool.eq_false_iff]
      intro h
      simp at h
      exact this h
    rw [e]; rfl
  · by_cases a2 : p = q
    · rw [if_neg a1, if_pos a2, if_neg (show ¬ q < p by omega), if_pos a2.symm]
      obtain ⟨r1, r2⟩ := eq.1 a2
      exact ⟨by omega, by omega, by omega, by simp [r1, r2], by omega, by omega⟩
    · have : ¬ (x = u ∧ y = v) := fun h => a2 (eq.2 h)
      rw [if_neg a1, if_neg a2, if_pos (show q < p by omega)]
      refine ⟨by omega, by omega, by omega, ?_, by omega, by omega⟩
      have e : (x == u && y == v) = false := by
        rw [Bool.eq_false_iff]
        intro h
        simp at h
        exact this h
      rw [e]; rfl
theorem floor_facts {x y : Int} (h : checkQ x y = 0) : (-4611686018427387903 ≤ x / y ∧ x / y ≤ 4611686018427387903) ∧ checkQ (x / y) 1 = 0 ∧ ¬ 0 < cmpI (x / y * y) (x * 1) ∧ (decide (cmpI (x / y * y) (x * 1) = 0) == decide (y = 1)) = true ∧ ¬ cmpI ((x / y + 1) * y) (x * 1) ≤ 0 := by
  obtain ⟨rx, ry, hg⟩ := checkQ_range h
  have dm := Int.mul_ediv_add_emod x y
  have m0 := Int.emod_nonneg x (show y ≠ 0 by omega)
  have m1 := Int.emod_lt_of_pos x (show 0 < y by omega)
  have lo : -4611686018427387903 ≤ x / y := (Int.le_ediv_iff_mul_le (by omega)).2 (by
    have : -4611686018427387903 * y ≤ -4611686018427387903 * 1 := Int.mul_le_mul_of_nonpos_left (by omega) (by omega)
    omega)
  have hi : x / y ≤ 4611686018427387903 := by
    by_cases h0 : 0 ≤ x
    · exact Int.le_trans (Int.ediv_le_self y h0) rx.2
    · have : x / y < 0 := Int.ediv_neg_of_neg_of_pos (by omega) (by omega)
      omega
  have ck : checkQ (x / y) 1 = 0 := checkQ_ok ⟨lo, hi⟩ (by omega) (by simp)
  have e0 : x / y * y = x - x % y := by rw [Int.mul_comm]; omega
  have e1 : (x / y + 1) * y = x - x % y + y := by rw [Int.add_mul, e0]; omega
  have z : x % y = 0 ↔ y = 1 := by
    constructor
    · intro h0
      have hd : y ∣ x := Int.dvd_of_emod_eq_zero h0
      have : Int.gcd x y = y.natAbs := Int.gcd_eq_natAbs_right hd
      omega
    · intro h0
      rw [h0]; exact Int.emod_one x
  refine ⟨⟨lo, hi⟩, ck, ?_, ?_, ?_⟩
  · rw [e0, Int.mul_one]
    unfold cmpI
    split
    · omega
    · split <;> omega
  · rw [e0, Int.mul_one]
    unfold cmpI
    by_cases hz : x % y = 0
    · rw [if_neg (by omega), if_pos (by omega), decide_eq_true (z.1 hz)]; rfl
    · rw [if_pos (by omega), decide_eq_false (fun k => hz (z.2 k))]; rfl
  · rw [e1, Int.mul_one]
    unfold cmpI
    rw [if_neg (by omega), if_neg (by omega)]
    decide
theorem diff_sign {x y u v p q : Int} (h1 : checkQ x y = 0) (h2 : checkQ u v = 0) (h : sumO x y (-u) v = some (qV p q)) : (p < 0 ↔ x * v < u * y) ∧ (0 < p ↔ u * y < x * v) := by
  obtain ⟨_, ry, _⟩ := checkQ_range h1
  obtain ⟨_, rw', _⟩ := checkQ_range h2
  obtain ⟨k1, k2⟩ := diff_val h1 h2 h
  obtain ⟨_, rq, _⟩ := checkQ_range k1
  have yv : 0 < y * v := Int.mul_pos (by omega) (by omega)
  have e := rv_add (a := x) (b := y) (c := -u) (d := v) (by omega) (by omega)
  rw [rv_neg, ← Rat.sub_eq_add_neg, ← k2] at e
  have c := (rv_cross (by omega) (by omega)).1 e
  rw [Int.neg_mul] at c
  generalize x * v = m at *
  generalize u * y = n at *
  generalize y * v = r at *
  have c' : (m + -n) * q = p * r := c
  refine ⟨⟨fun hp => ?_, fun hl => ?_⟩, ⟨fun hp => ?_, fun hl => ?_⟩⟩
  · have := Int.mul_neg_of_neg_of_pos hp yv
    rcases Int.lt_or_le m n with h | h
    · exact h
    · have := Int.mul_nonneg (show 0 ≤ m + -n by omega) (show 0 ≤ q by omega); omega
  · have := Int.mul_neg_of_neg_of_pos (show m + -n < 0 by omega) (show 0 < q by omega)
    rcases Int.lt_or_le p 0 with h | h
    · exact h
    · have := Int.mul_nonneg h (show 0 ≤ r by omega); omega
  · have := Int.mul_pos hp yv
    rcases Int.lt_or_le n m with h | h
    · exact h
    · have := Int.mul_nonneg (show 0 ≤ n - m by omega) (show 0 ≤ q by omega)
      have e2 : (n - m) * q = -((m + -n) * q) := by grind
      omega
  · have := Int.mul_pos (show 0 < m + -n by omega) (show 0 < q by omega)
    rcases Int.lt_or_le 0 p with h | h
    · exact h
    · have := Int.mul_nonneg (show 0 ≤ -p by omega) (show 0 ≤ r by omega)
      have e2 : -p * r = -(p * r) := by grind
      omega
end Go.Proofs
set_option linter.unusedSimpArgs false
set_option maxRecDepth 100000
namespace Go.Proofs
open Go.Hx
set_option maxHeartbeats 2000000 in
theorem signs_spec (n0 n1 n2 n3 : Int) (h0 : I64 n0) (h1 : I64 n1) (h2 : I64 n2) (h3 : I64 n3) (H : AHeap) (K : ARes → AHeap → Prop)
    (hK : K (.ret (.lit (.bool true))) H) : ACall Tryd.prog G0 10 [.agg (ints [n0, n1, n2, n3])] H K := by
  refine ACall.clo ⟨_, Tryd.func10, rfl, rfl⟩ fun hcl => ?_
  obtain ⟨m1, r1, z1, o1⟩ := or_one n1
  obtain ⟨m3, r3, z3, o3⟩ := or_one n3
  refine ACall.of_body (n := 165) (rs := [.tmp 2]) Tryd.func10 rfl rfl rfl (by decide) (by kernel_rfl) (by simp) ?_
  simp (config := { maxSteps := 1000000 }) only [go_sem, Int.reduceToNat, Int.reduceLE, Int.reduceLT, Int.reduceAdd, Int.reduceSub, Int.reduceMul, Int.reduceEq, Int.reduceNe, Nat.reduceEqDiff, Nat.reducePow, Nat.reduceDiv, Nat.reduceMod, Nat.reduceAdd, Nat.reduceMul, Nat.reduceSub, Nat.reduceLT, Nat.reduceLeDiff, reduceIte, reduceCtorEq, ints, lin, appendA_U]
  refine AApply.clo (works_ok _ _ ⟨trivial, ?_⟩)
  simp (config := { maxSteps := 1000000 }) only [go_sem, Int.reduceToNat, Int.reduceLE, Int.reduceLT, Int.reduceAdd, Int.reduceSub, Int.reduceMul, Int.reduceEq, Int.reduceNe, Nat.reduceEqDiff, Nat.reducePow, Nat.reduceDiv, Nat.reduceMod, Nat.reduceAdd, Nat.reduceMul, Nat.reduceSub, Nat.reduceLT, Nat.reduceLeDiff, reduceIte, reduceCtorEq, o1, appendA_U]
  refine AApply.clo (make_spec n0 m1 h0 r1 _ _ ⟨trivial, ?_⟩)
  rcases make_out (n := n0) z1 with ⟨e1, _⟩ | ⟨x, y, e1, _, cq, _⟩
  · rw [e1]
    simp (config := { maxSteps := 1000000 }) only [go_sem, Int.reduceToNat, Int.reduceLE, Int.reduceLT, Int.reduceAdd, Int.reduceSub, Int.reduceMul, Int.reduceEq, Int.reduceNe, Nat.reduceEqDiff, Nat.reducePow, Nat.reduceDiv, Nat.reduceMod, Nat.reduceAdd, Nat.reduceMul, Nat.reduceSub, Nat.reduceLT, Nat.reduceLeDiff, reduceIte, reduceCtorEq, o3, qV, appendA_U]
    refine AApply.clo (make_spec n2 m3 h2 r3 _ _ ⟨trivial, ?_⟩)
    rcases make_out (n := n2) z3 with ⟨e2, _⟩ | ⟨u, v, e2, _, cr, _⟩
    · rw [e2]
      simp (config := { maxSteps := 1000000 }) only [go_sem, Int.reduceToNat, Int.reduceLE, Int.reduceLT, Int.reduceAdd, Int.reduceSub, Int.reduceMul, Int.reduceEq, Int.reduceNe, Nat.reduceEqDiff, Nat.reducePow, Nat.reduceDiv, Nat.reduceMod, Nat.reduceAdd, Nat.reduceMul, Nat.reduceSub, Nat.reduceLT, Nat.reduceLeDiff, reduceIte, reduceCtorEq, qV, guardA_undef, appendA_U]
      exact FinV.drop G0_ok hcl (.lit _) hK
    · rw [e2]
      simp (config := { maxSteps := 1000000 }) only [go_sem, Int.reduceToNat, Int.reduceLE, Int.reduceLT, Int.reduceAdd, Int.reduceSub, Int.reduceMul, Int.reduceEq, Int.reduceNe, Nat.reduceEqDiff, Nat.reducePow, Nat.reduceDiv, Nat.reduceMod, Nat.reduceAdd, Nat.reduceMul, Nat.reduceSub, Nat.reduceLT, Nat.reduceLeDiff, reduceIte, reduceCtorEq, qV, guardA_undef, appendA_U]
      exact FinV.drop G0_ok hcl (.lit _) hK
  rw [e1]
  simp (config := { maxSteps := 1000000 }) only [go_sem, Int.reduceToNat, Int.reduceLE, Int.reduceLT, Int.reduceAdd, Int.reduceSub, Int.reduceMul, Int.reduceEq, Int.reduceNe, Nat.reduceEqDiff, Nat.reducePow, Nat.reduceDiv, Nat.reduceMod, Nat.reduceAdd, Nat.reduceMul, Nat.reduceSub, Nat.reduceLT, Nat.reduceLeDiff, reduceIte, reduceCtorEq, o3, qV, appendA_U]
  refine AApply.clo (make_spec n2 m3 h2 r3 _ _ ⟨trivial, ?_⟩)
  rcases make_out (n := n2) z3 with ⟨e2, _⟩ | ⟨u, v, e2, _, cr, _⟩
  · rw [e2]
    simp (config := { maxSteps := 1000000 }) only [go_sem, Int.reduceToNat, Int.reduceLE, Int.reduceLT, Int.reduceAdd, Int.reduceSub, Int.reduceMul, Int.reduceEq, Int.reduceNe, Nat.reduceEqDiff, Nat.reducePow, Nat.reduceDiv, Nat.reduceMod, Nat.reduceAdd, Nat.reduceMul, Nat.reduceSub, Nat.reduceLT, Nat.reduceLeDiff, reduceIte, reduceCtorEq, qV, guardA_undef, appendA_U]
    exact FinV.drop G0_ok hcl (.lit _) hK
  rw [e2]
  simp (config := { maxSteps := 1000000 }) only [go_sem, Int.reduceToNat, Int.reduceLE, Int.reduceLT, Int.reduceAdd, Int.reduceSub, Int.reduceMul, Int.reduceEq, Int.reduceNe, Nat.reduceEqDiff, Nat.reducePow, Nat.reduceDiv, Nat.reduceMod, Nat.reduceAdd, Nat.reduceMul, Nat.reduceSub, Nat.reduceLT, Nat.reduceLeDiff, reduceIte, reduceCtorEq, qV, guardA_undef, appendA_U]
  obtain ⟨rx, ry, _⟩ := checkQ_range cq
  obtain ⟨ru, rw', _⟩ := checkQ_range cr
  have ix : I64 x := by unfold I64; omega
  have iy : I64 y := by unfold I64; omega
  have iu : I64 u := by unfold I64; omega
  have iv' : I64 v := by unfold I64; omega
  have cmpE : ∀ {a b c d : Int}, checkQ a b = 0 → checkQ c d = 0 → cmpV a b c d = .tup [.lit (.int .i64 (cmpI (a * d) (c * b))), .lit (.int .i64 0)] := fun h1 h2 => by unfold cmpV; rw [if_pos ⟨h1, h2⟩]
  obtain ⟨c, c', ec, ec', cc, cn, cp, ceq, cl, cg⟩ := cmp_facts cq cr
  refine AApply.clo (Cmp_spec x y u v ⟨ix, iy⟩ ⟨iu, iv'⟩ _ _ ⟨trivial, ?_⟩)
  rw [cmpE cq cr, ec]
  simp (config := { maxSteps := 1000000 }) only [go_sem, Int.reduceToNat, Int.reduceLE, Int.reduceLT, Int.reduceAdd, Int.reduceSub, Int.reduceMul, Int.reduceEq, Int.reduceNe, Nat.reduceEqDiff, Nat.reducePow, Nat.reduceDiv, Nat.reduceMod, Nat.reduceAdd, Nat.reduceMul, Nat.reduceSub, Nat.reduceLT, Nat.reduceLeDiff, reduceIte, reduceCtorEq, qV, guardA_undef, appendA_U]
  refine AApply.clo (Cmp_spec u v x y ⟨iu, iv'⟩ ⟨ix, iy⟩ _ _ ⟨trivial, ?_⟩)
  rw [cmpE cr cq, ec']
  simp (config := { maxSteps := 1000000 }) only [go_sem, Int.reduceToNat, Int.reduceLE, Int.reduceLT, Int.reduceAdd, Int.reduceSub, Int.reduceMul, Int.reduceEq, Int.reduceNe, Nat.reduceEqDiff, Nat.reducePow, Nat.reduceDiv, Nat.reduceMod, Nat.reduceAdd, Nat.reduceMul, Nat.reduceSub, Nat.reduceLT, Nat.reduceLeDiff, reduceIte, reduceCtorEq, qV, guardA_undef, appendA_U]
  refine AApply.clo (Floor_spec x y ix iy _ _ ⟨trivial, ?_⟩)
  obtain ⟨rl, ckl, f1, f2, f3⟩ := floor_facts cq
  unfold floorV
  rw [if_pos cq]
  have wc := IntWalk.i64_in (0 - c') (by omega)
  rw [← cc] at wc
  simp (config := { maxSteps := 1000000 }) only [go_sem, Int.reduceToNat, Int.reduceLE, Int.reduceLT, Int.reduceAdd, Int.reduceSub, Int.reduceMul, Int.reduceEq, Int.reduceNe, Nat.reduceEqDiff, Nat.reducePow, Nat.reduceDiv, Nat.reduceMod, Nat.reduceAdd, Nat.reduceMul, Nat.reduceSub, Nat.reduceLT, Nat.reduceLeDiff, reduceIte, reduceCtorEq, qV, guardA_undef, ← cc, wc, cn, cp, eqlQ23, bin_neq_bool Tryd.underlying4, ceq, appendA_U]
  refine W.env fun E hE => ?_
  have a3 : E 3 = .ptr (H.next + 1) 0 0 := by rw [hE]; rfl
  have a5 : E 5 = .ptr (H.next + 2) 0 0 := by rw [hE]; rfl
  have a7 : E 7 = .lit (.int .i64 c) := by rw [hE]; rfl
  have a11 : E 11 = .lit (.int .i64 (x / y)) := by rw [hE]; rfl
  clear hE
  have cmp1 := Cmp_spec (x / y) 1 x y ⟨by omega, by omega⟩ ⟨ix, iy⟩
  rw [cmpE ckl cq] at cmp1
  have cmp2 := fun (hl : x / y < 4611686018427387903) => Cmp_spec (x / y + 1) 1 x y ⟨by omega, by omega⟩ ⟨ix, iy⟩
  have cmp2' := fun (hl : x / y < 4611686018427387903) => cmpE (a := x / y + 1) (b := 1) (checkQ_ok (by omega) (by omega) (by simp)) cq
  have dsg := fun p q => diff_sign (p := p) (q := q) cq cr
  have sb := sub_spec x y u v ⟨ix, iy⟩ ⟨iu, iv'⟩
  have sbE : bothR x y u v (sumO x y (-u) v) = gdOut gdQ (sumO x y (-u) v) := by unfold bothR; rw [if_pos ⟨cq, cr⟩]
  rw [sbE] at sb
  have frm : ∀ w, sumO x y (-u) v = some w → ∃ p q, w = qV p q := fun w h => fitO_form h
  generalize sumO x y (-u) v = O at *
  generalize x / y = low at *
  generalize cmpI (low * y) (x * 1) = one at *
  clear cmpE sbE ec ec'
  refine W.draw 8 [0, 1, 0, 7, 15, 31, 31, 63] Tryd.mixed (by kernel_rfl) (by kernel_rfl) ?_
  simp (config := { maxSteps := 1000000 }) only [go_sem, Int.reduceToNat, Int.reduceLE, Int.reduceLT, Int.reduceAdd, Int.reduceSub, Int.reduceMul, Int.reduceEq, Int.reduceNe, Nat.reduceEqDiff, Nat.reducePow, Nat.reduceDiv, Nat.reduceMod, Nat.reduceAdd, Nat.reduceMul, Nat.reduceSub, Nat.reduceLT, Nat.reduceLeDiff, reduceIte, reduceCtorEq, a3, a5, a7, a11, appendA_U]
  refine ⟨_, [], PCall.pure fun H2 => of_spec low 1 H2 _ ⟨rfl, rfl⟩, ?_⟩
  simp (config := { maxSteps := 1000000 }) only [go_sem, Int.reduceToNat, Int.reduceLE, Int.reduceLT, Int.reduceAdd, Int.reduceSub, Int.reduceMul, Int.reduceEq, Int.reduceNe, Nat.reduceEqDiff, Nat.reducePow, Nat.reduceDiv, Nat.reduceMod, Nat.reduceAdd, Nat.reduceMul, Nat.reduceSub, Nat.reduceLT, Nat.reduceLeDiff, reduceIte, reduceCtorEq, qV, appendA_U]
  refine ⟨_, [], PCall.pure fun H2 => cmp1 H2 _ ⟨rfl, rfl⟩, ?_⟩
  simp (config := { maxSteps := 1000000 }) only [go_sem, Int.reduceToNat, Int.reduceLE, Int.reduceLT, Int.reduceAdd, Int.reduceSub, Int.reduceMul, Int.reduceEq, Int.reduceNe, Nat.reduceEqDiff, Nat.reducePow, Nat.reduceDiv, Nat.reduceMod, Nat.reduceAdd, Nat.reduceMul, Nat.reduceSub, Nat.reduceLT, Nat.reduceLeDiff, reduceIte, reduceCtorEq, a3, a5, a7, a11, guardA_undef, f1, bin_neq_bool Tryd.underlying4, f2, appendA_U]
  by_cases hl : low < 4611686018427387903
  · have w1 := IntWalk.i64_in (low + 1) (by omega)
    simp (config := { maxSteps := 1000000 }) only [go_sem, Int.reduceToNat, Int.reduceLE, Int.reduceLT, Int.reduceAdd, Int.reduceSub, Int.reduceMul, Int.reduceEq, Int.reduceNe, Nat.reduceEqDiff, Nat.reducePow, Nat.reduceDiv, Nat.reduceMod, Nat.reduceAdd, Nat.reduceMul, Nat.reduceSub, Nat.reduceLT, Nat.reduceLeDiff, reduceIte, reduceCtorEq, a3, a5, a7, a11, guardA_undef, hl, appendA_U]
    refine W.draw 9 [0, 1, 3, 0, 15, 31, 63, 63, 127] Tryd.mixed (by kernel_rfl) (by kernel_rfl) ?_
    simp (config := { maxSteps := 1000000 }) only [go_sem, Int.reduceToNat, Int.reduceLE, Int.reduceLT, Int.reduceAdd, Int.reduceSub, Int.reduceMul, Int.reduceEq, Int.reduceNe, Nat.reduceEqDiff, Nat.reducePow, Nat.reduceDiv, Nat.reduceMod, Nat.reduceAdd, Nat.reduceMul, Nat.reduceSub, Nat.reduceLT, Nat.reduceLeDiff, reduceIte, reduceCtorEq, a3, a5, a7, a11, w1, appendA_U]
    refine ⟨_, [], PCall.pure fun H2 => of_spec (low + 1) 1 H2 _ ⟨rfl, rfl⟩, ?_⟩
    simp (config := { maxSteps := 1000000 }) only [go_sem, Int.reduceToNat, Int.reduceLE, Int.reduceLT, Int.reduceAdd, Int.reduceSub, Int.reduceMul, Int.reduceEq, Int.reduceNe, Nat.reduceEqDiff, Nat.reducePow, Nat.reduceDiv, Nat.reduceMod, Nat.reduceAdd, Nat.reduceMul, Nat.reduceSub, Nat.reduceLT, Nat.reduceLeDiff, reduceIte, reduceCtorEq, qV, appendA_U]
    refine ⟨_, [], PCall.pure fun H2 => cmp2 hl H2 _ (by rw [cmp2' hl]; exact ⟨rfl, rfl⟩), ?_⟩
    simp (config := { maxSteps := 1000000 }) only [go_sem, Int.reduceToNat, Int.reduceLE, Int.reduceLT, Int.reduceAdd, Int.reduceSub, Int.reduceMul, Int.reduceEq, Int.reduceNe, Nat.reduceEqDiff, Nat.reducePow, Nat.reduceDiv, Nat.reduceMod, Nat.reduceAdd, Nat.reduceMul, Nat.reduceSub, Nat.reduceLT, Nat.reduceLeDiff, reduceIte, reduceCtorEq, a3, a5, a7, a11, guardA_undef, f3, appendA_U]
    refine AApply.clo (sb _ _ ⟨trivial, ?_⟩)
    cases hO : O with
    | none =>
      have eg : gdOut gdQ none = .tup [qV 0 0, .lit (.int .i64 6)] := rfl
      rw [eg]
      simp (config := { maxSteps := 1000000 }) only [go_sem, Int.reduceToNat, Int.reduceLE, Int.reduceLT, Int.reduceAdd, Int.reduceSub, Int.reduceMul, Int.reduceEq, Int.reduceNe, Nat.reduceEqDiff, Nat.reducePow, Nat.reduceDiv, Nat.reduceMod, Nat.reduceAdd, Nat.reduceMul, Nat.reduceSub, Nat.reduceLT, Nat.reduceLeDiff, reduceIte, reduceCtorEq, a3, a5, a7, a11, qV, guardA_undef, appendA_U]
      exact FinV.drop G0_ok hcl (.lit _) hK
    | some w =>
      obtain ⟨p, q, rfl⟩ := frm w hO
      have eg : gdOut gdQ (some (qV p q)) = .tup [qV p q, .lit (.int .i64 0)] := rfl
      obtain ⟨g1, g2⟩ := dsg p q hO
      have q1 : (decide (c < 0) == decide (p < 0)) = true := by rw [show decide (c < 0) = decide (p < 0) from decide_eq_decide.2 (cl.trans g1.symm)]; simp
      have q2 : (decide (0 < c) == decide (0 < p)) = true := by rw [show decide (0 < c) = decide (0 < p) from decide_eq_decide.2 (cg.trans g2.symm)]; simp
      rw [eg]
      simp (config := { maxSteps := 1000000 }) only [go_sem, Int.reduceToNat, Int.reduceLE, Int.reduceLT, Int.reduceAdd, Int.reduceSub, Int.reduceMul, Int.reduceEq, Int.reduceNe, Nat.reduceEqDiff, Nat.reducePow, Nat.reduceDiv, Nat.reduceMod, Nat.reduceAdd, Nat.reduceMul, Nat.reduceSub, Nat.reduceLT, Nat.reduceLeDiff, reduceIte, reduceCtorEq, a3, a5, a7, a11, qV, guardA_undef, bin_eql_bool Tryd.underlying4, q1, q2, appendA_U]
      exact FinV.drop G0_ok hcl (.lit _) hK
  · simp (config := { maxSteps := 1000000 }) only [go_sem, Int.reduceToNat, Int.reduceLE, Int.reduceLT, Int.reduceAdd, Int.reduceSub, Int.reduceMul, Int.reduceEq, Int.reduceNe, Nat.reduceEqDiff, Nat.reducePow, Nat.reduceDiv, Nat.reduceMod, Nat.reduceAdd, Nat.reduceMul, Nat.reduceSub, Nat.reduceLT, Nat.reduceLeDiff, reduceIte, reduceCtorEq, a3, a5, a7, a11, guardA_undef, hl, appendA_U]
    refine AApply.clo (sb _ _ ⟨trivial, ?_⟩)
    cases hO : O with
    | none =>
      have eg : gdOut gdQ none = .tup [qV 0 0, .lit (.int .i64 6)] := rfl
      rw [eg]
      simp (config := { maxSteps := 1000000 }) only [go_sem, Int.reduceToNat, Int.reduceLE, Int.reduceLT, Int.reduceAdd, Int.reduceSub, Int.reduceMul, Int.reduceEq, Int.reduceNe, Nat.reduceEqDiff, Nat.reducePow, Nat.reduceDiv, Nat.reduceMod, Nat.reduceAdd, Nat.reduceMul, Nat.reduceSub, Nat.reduceLT, Nat.reduceLeDiff, reduceIte, reduceCtorEq, a3, a5, a7, a11, qV, guardA_undef, appendA_U]
      exact FinV.drop G0_ok hcl (.lit _) hK
    | some w =>
      obtain ⟨p, q, rfl⟩ := frm w hO
      have eg : gdOut gdQ (some (qV p q)) = .tup [qV p q, .lit (.int .i64 0)] := rfl
      obtain ⟨g1, g2⟩ := dsg p q hO
      have q1 : (decide (c < 0) == decide (p < 0)) = true := by rw [show decide (c < 0) = decide (p < 0) from decide_eq_decide.2 (cl.trans g1.symm)]; simp
      have q2 : (decide (0 < c) == decide (0 < p)) = true := by rw [show decide (0 < c) = decide (0 < p) from decide_eq_decide.2 (cg.trans g2.symm)]; simp
      rw [eg]
      simp (config := { maxSteps := 1000000 }) only [go_sem, Int.reduceToNat, Int.reduceLE, Int.reduceLT, Int.reduceAdd, Int.reduceSub, Int.reduceMul, Int.reduceEq, Int.reduceNe, Nat.reduceEqDiff, Nat.reducePow, Nat.reduceDiv, Nat.reduceMod, Nat.reduceAdd, Nat.reduceMul, Nat.reduceSub, Nat.reduceLT, Nat.reduceLeDiff, reduceIte, reduceCtorEq, a3, a5, a7, a11, qV, guardA_undef, bin_eql_bool Tryd.underlying4, q1, q2, appendA_U]
      exact FinV.drop G0_ok hcl (.lit _) hK
end Go.Proofs
