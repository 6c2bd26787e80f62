/-
  DERIVED: THE SHELF's CONTRACTS AT THIS DUMP, IN PLAIN WORDS (tools/lay-plain.mjs out of 'YtemcnpldpoglmaaDoorShelf.lean', which tools/lay-shelf.mjs wrote): THE SAME DECLARATIONS UNDER THE SAME NAMES: 'import', 'namespace', 'open', 'def', 'theorem' AND NOTHING ELSE: no command of the shelf's: FOR A HAND-IN. Each laying: the table of numbers ('.._ren') and one theorem, a field a fact of the dump's own or the kernel's comparison; each contract: ONE APPLICATION.
-/
import Derived.Shelf.Strconv.Itoa3
import Derived.Test.YtemcnpldpoglmaaDoorProg
import Derived.Test.YtemcnpldpoglmaaDoorConE
set_option linter.all false
namespace Go.Proofs
open Go.Shelf
def Tryd.lays171_ren : Go.Shelf.Ren := ⟨fun | 171 => 63 | 243 => 82 | 246 => 89 | 283 => 93 | 284 => 94 | 285 => 95 | 286 => 96 | 129 => 101 | 317 => 102 | 318 => 103 | 319 => 104 | 320 => 105 | 337 => 108 | 338 => 109 | n => n, fun | 3 => 3 | 9 => 9 | 2 => 2 | 4 => 4 | 171 => 117 | 0 => 0 | 53 => 69 | 37 => 119 | 5 => 5 | 173 => 120 | 212 => 124 | 51 => 125 | 20 => 20 | 213 => 126 | 46 => 110 | 232 => 132 | 233 => 133 | n => n, fun | 17 => 3 | 18 => 4 | 19 => 5 | n => n⟩
theorem Tryd.lays171 : Go.Proofs.LaysM.n171 Tryd.prog Tryd.lays171_ren := {
  mixed := by kernel_rfl
  f129 := Tryd.func101.trans (congrArg some (by kernel_rfl))
  f171 := Tryd.func63.trans (congrArg some (by kernel_rfl))
  f243 := Tryd.func82.trans (congrArg some (by kernel_rfl))
  f246 := Tryd.func89.trans (congrArg some (by kernel_rfl))
  f283 := Tryd.func93.trans (congrArg some (by kernel_rfl))
  f284 := Tryd.func94.trans (congrArg some (by kernel_rfl))
  f285 := Tryd.func95.trans (congrArg some (by kernel_rfl))
  f286 := Tryd.func96.trans (congrArg some (by kernel_rfl))
  f317 := Tryd.func102.trans (congrArg some (by kernel_rfl))
  f318 := Tryd.func103.trans (congrArg some (by kernel_rfl))
  f319 := Tryd.func104.trans (congrArg some (by kernel_rfl))
  f320 := Tryd.func105.trans (congrArg some (by kernel_rfl))
  f337 := Tryd.func108.trans (congrArg some (by kernel_rfl))
  f338 := Tryd.func109.trans (congrArg some (by kernel_rfl))
  t0 := Tryd.underlying0
  a0 := Tryd.isAgg0
  z0 := Tryd.sizeOf0
  v0 := Tryd.zeroValue0
  t2 := Tryd.underlying2
  a2 := Tryd.isAgg2
  z2 := Tryd.sizeOf2
  v2 := Tryd.zeroValue2
  t3 := Tryd.underlying3
  a3 := Tryd.isAgg3
  z3 := Tryd.sizeOf3
  v3 := Tryd.zeroValue3
  t4 := Tryd.underlying4
  a4 := Tryd.isAgg4
  z4 := Tryd.sizeOf4
  v4 := Tryd.zeroValue4
  t5 := Tryd.underlying5
  a5 := Tryd.isAgg5
  z5 := Tryd.sizeOf5
  v5 := Tryd.zeroValue5
  t9 := Tryd.underlying9
  a9 := Tryd.isAgg9
  z9 := Tryd.sizeOf9
  v9 := Tryd.zeroValue9
  t20 := Tryd.underlying20
  a20 := Tryd.isAgg20
  z20 := Tryd.sizeOf20
  v20 := Tryd.zeroValue20
  t37 := Tryd.underlying119
  a37 := Tryd.isAgg119
  z37 := Tryd.sizeOf119
  v37 := Tryd.zeroValue119
  t46 := Tryd.underlying110
  a46 := Tryd.isAgg110
  z46 := Tryd.sizeOf110
  v46 := Tryd.zeroValue110
  t51 := Tryd.underlying125
  a51 := Tryd.isAgg125
  z51 := Tryd.sizeOf125
  v51 := Tryd.zeroValue125
  t53 := Tryd.underlying69
  a53 := Tryd.isAgg69
  z53 := Tryd.sizeOf69
  v53 := Tryd.zeroValue69
  t171 := Tryd.underlying117
  a171 := Tryd.isAgg117
  z171 := Tryd.sizeOf117
  v171 := Tryd.zeroValue117
  t173 := Tryd.underlying120
  a173 := Tryd.isAgg120
  z173 := Tryd.sizeOf120
  v173 := Tryd.zeroValue120
  t212 := Tryd.underlying124
  a212 := Tryd.isAgg124
  z212 := Tryd.sizeOf124
  v212 := Tryd.zeroValue124
  t213 := Tryd.underlying126
  a213 := Tryd.isAgg126
  z213 := Tryd.sizeOf126
  t232 := Tryd.underlying132
  a232 := Tryd.isAgg132
  z232 := Tryd.sizeOf132
  v232 := Tryd.zeroValue132
  t233 := Tryd.underlying133
  a233 := Tryd.isAgg133
  z233 := Tryd.sizeOf133
  v233 := Tryd.zeroValue133
  g17 := by kernel_rfl
  g18 := by kernel_rfl
  g19 := by kernel_rfl
  i0 := by kernel_rfl
  i2 := by kernel_rfl
  i3 := by kernel_rfl
  i4 := by kernel_rfl
  i5 := by kernel_rfl
  i9 := by kernel_rfl
  i20 := by kernel_rfl
  i37 := by kernel_rfl
  i46 := by kernel_rfl
  i51 := by kernel_rfl
  i53 := by kernel_rfl
  i171 := by kernel_rfl
  i173 := by kernel_rfl
  i212 := by kernel_rfl
  i232 := by kernel_rfl
  i233 := by kernel_rfl
  m17 := by kernel_rfl
  m18 := by kernel_rfl
  m19 := by kernel_rfl }
end Go.Proofs
set_option linter.unusedSimpArgs false
set_option maxRecDepth 100000
namespace Go.Proofs
open Go.Hx
def rv (x y : Int) : Rat := (x : Rat) / (y : Rat)
theorem ratne {y : Int} (h : y ≠ 0) : (y : Rat) ≠ 0 := by exact_mod_cast h
theorem rv_cross {x y u v : Int} (hy : y ≠ 0) (hv : v ≠ 0) : rv x y = rv u v ↔ x * v = u * y := by
  have h1 := ratne hy
  have h2 := ratne hv
  constructor
  · intro h
    unfold rv at h
    have : (x : Rat) * v = u * y := by grind
    exact_mod_cast this
  · intro h
    have : (x : Rat) * v = u * y := by exact_mod_cast h
    unfold rv
    grind
theorem rv_inj {x y u v : Int} (h1 : checkQ x y = 0) (h2 : checkQ u v = 0) (h : rv x y = rv u v) : x = u ∧ y = v := by
  obtain ⟨_, ry, _⟩ := checkQ_range h1
  obtain ⟨_, rw', _⟩ := checkQ_range h2
  have c := (rv_cross (by omega) (by omega)).1 h
  have cn : x.natAbs * v.natAbs = u.natAbs * y.natAbs := by rw [← Int.natAbs_mul, c, Int.natAbs_mul]
  have g1 : Nat.Coprime y.natAbs x.natAbs := Nat.Coprime.symm (checkQ_gcd h1)
  have g2 : Nat.Coprime v.natAbs u.natAbs := Nat.Coprime.symm (checkQ_gcd h2)
  have d1 : y.natAbs ∣ v.natAbs := g1.dvd_of_dvd_mul_left ⟨u.natAbs, by rw [cn, Nat.mul_comm]⟩
  have d2 : v.natAbs ∣ y.natAbs := g2.dvd_of_dvd_mul_left ⟨x.natAbs, by rw [← cn, Nat.mul_comm]⟩
  have e := Nat.dvd_antisymm d1 d2
  have e2 : y = v := by omega
  subst e2
  exact ⟨Int.eq_of_mul_eq_mul_right (show y ≠ 0 by omega) c, rfl⟩
theorem checkQ_ok {x y : Int} (hx : -4611686018427387903 ≤ x ∧ x ≤ 4611686018427387903) (hy : 1 ≤ y ∧ y ≤ 4611686018427387903) (hg : Nat.gcd x.natAbs y.natAbs = 1) : checkQ x y = 0 := by
  unfold checkQ maxN
  rw [if_neg (by omega), if_neg (by rw [show Int.gcd x y = Nat.gcd x.natAbs y.natAbs from rfl, hg]; decide)]
theorem fit_val {S : Bool} {T D : Nat} {x y : Int} (hD : 0 < D) (h : fitO S (T / Nat.gcd T D) (D / Nat.gcd T D) = some (qV x y)) : checkQ x y = 0 ∧ rv x y = rv (if S = true then -(T : Int) else T) D := by
  have pg : 0 < Nat.gcd T D := Nat.gcd_pos_of_pos_right _ hD
  have e1 := Nat.div_mul_cancel (Nat.gcd_dvd_left T D)
  have e2 := Nat.div_mul_cancel (Nat.gcd_dvd_right T D)
  have k := Nat.coprime_div_gcd_div_gcd pg
  generalize Nat.gcd T D = g at *
  have dp : 0 < D / g := by
    rcases Nat.eq_zero_or_pos (D / g) with h0 | h0
    · rw [h0, Nat.zero_mul] at e2; omega
    · exact h0
  generalize T / g = t at *
  generalize D / g = d at *
  unfold fitO at h
  split at h
  · rename_i hb
    have hq : qV (if S = true then -(t : Int) else t) d = qV x y := by simpa using h
    unfold qV at hq
    simp only [AVal.agg.injEq, List.cons.injEq, AVal.lit.injEq, Value.int.injEq, and_true, true_and] at hq
    obtain ⟨q1, q2⟩ := hq
    have hk : Nat.gcd x.natAbs y.natAbs = 1 := by
      rw [← q1, ← q2]
      have : (if S = true then -(t : Int) else t).natAbs = t := by cases S <;> simp
      rw [this]
      exact k
    refine ⟨checkQ_ok (by rw [← q1]; cases S <;> simp <;> omega) (by omega) hk, ?_⟩
    rw [rv_cross (by omega) (by omega), ← q1, ← q2, ← e1, ← e2]
    cases S <;> simp <;> grind
  · cases h
theorem fit_some {S : Bool} {T D : Nat} (hT : T ≤ 4611686018427387903) (hD : D ≤ 4611686018427387903) : ∃ x y, fitO S (T / Nat.gcd T D) (D / Nat.gcd T D) = some (qV x y) := by
  have h1 : T / Nat.gcd T D ≤ T := Nat.div_le_self _ _
  have h2 : D / Nat.gcd T D ≤ D := Nat.div_le_self _ _
  unfold fitO
  rw [if_pos ⟨by omega, by omega⟩]
  exact ⟨_, _, rfl⟩
theorem sgn_cases (a c : Int) (Φ : Bool → Int → Int → Prop) (h1 : Φ false (-a) (-c)) (h2 : Φ true (-a) c) (h3 : Φ true a (-c)) (h4 : Φ false a c) : Φ (sgnB a c) (a.natAbs : Int) (c.natAbs : Int) := by
  by_cases q1 : a < 0 <;> by_cases q2 : c < 0
  · rw [show sgnB a c = false by unfold sgnB; simp [q1, q2], show ((a.natAbs : Nat) : Int) = -a by omega, show ((c.natAbs : Nat) : Int) = -c by omega]; exact h1
  · rw [show sgnB a c = true by unfold sgnB; simp [q1, q2], show ((a.natAbs : Nat) : Int) = -a by omega, show ((c.natAbs : Nat) : Int) = c by omega]; exact h2
  · rw [show sgnB a c = true by unfold sgnB; simp [q1, q2], show ((a.natAbs : Nat) : Int) = a by omega, show ((c.natAbs : Nat) : Int) = -c by omega]; exact h3
  · rw [show sgnB a c = false by unfold sgnB; simp [q1, q2], show ((a.natAbs : Nat) : Int) = a by omega, show ((c.natAbs : Nat) : Int) = c by omega]; exact h4
theorem sgnB_rv (n d : Int) (hd : d ≠ 0) : rv (if sgnB n d = true then -(n.natAbs : Int) else n.natAbs) d.natAbs = rv n d := by
  rw [rv_cross (by omega) hd]
  refine sgn_cases n d (fun S x y => (if S = true then -x else x) * d = n * y) ?_ ?_ ?_ ?_ <;> simp <;> grind
theorem make_val {n d x y : Int} (hd : d ≠ 0) (h : makeO n d = some (qV x y)) : checkQ x y = 0 ∧ rv x y = rv n d := by
  obtain ⟨h1, h2⟩ := fit_val (S := sgnB n d) (T := n.natAbs) (D := d.natAbs) (by omega) h
  exact ⟨h1, by rw [h2, sgnB_rv n d hd]⟩
end Go.Proofs
set_option linter.unusedSimpArgs false
set_option maxRecDepth 100000
namespace Go.Hx
variable {P : Program} {t : TypeId} {x y : Operand}
end Go.Hx
namespace Go.Proofs
open Go.Hx
theorem of_spec (n d : Int) (H : AHeap) (K : ARes → AHeap → Prop) (hK : K (.ret (qV n d)) H) : ACall Tryd.prog G0 39 [.lit (.int .i64 n), .lit (.int .i64 d)] H K := by
  refine ACall.clo ⟨_, Tryd.func39, rfl, rfl⟩ fun hcl => ?_
  refine ACall.of_body (n := 8) (rs := [.cell 4 23]) Tryd.func39 rfl rfl rfl (by decide) (by kernel_rfl) (by simp) ?_
  simp (config := { maxSteps := 1000000 }) only [go_sem, Int.reduceToNat, Int.reduceLE, Int.reduceLT, Int.reduceAdd, Int.reduceSub, Int.reduceMul, Int.reduceEq, Int.reduceNe, Nat.reduceEqDiff, Nat.reducePow, Nat.reduceDiv, Nat.reduceMod, Nat.reduceAdd, Nat.reduceMul, Nat.reduceSub, Nat.reduceLT, Nat.reduceLeDiff, reduceIte, reduceCtorEq, appendA_U]
  exact FinV.drop G0_ok hcl (fz_lits _ _) hK
/-- What Make gives of a denominator other than 0. -/
theorem make_out {n d : Int} (hd : d ≠ 0) : (makeR n d = .tup [qV 0 0, .lit (.int .i64 6)] ∧ makeO n d = none) ∨ ∃ x y, makeR n d = .tup [qV x y, .lit (.int .i64 0)] ∧ makeO n d = some (qV x y) ∧ checkQ x y = 0 ∧ rv x y = rv n d := by
  unfold makeR
  rw [if_neg hd]
  cases h : makeO n d with
  | none => exact .inl ⟨rfl, rfl⟩
  | some u =>
    obtain ⟨x, y, rfl⟩ := fitO_form h
    exact .inr ⟨x, y, rfl, rfl, make_val hd h⟩
end Go.Proofs
set_option linter.unusedSimpArgs false
set_option maxRecDepth 100000
namespace Go.Proofs
open Go.Hx
end Go.Proofs
set_option linter.unusedSimpArgs false
set_option maxRecDepth 100000
namespace Go.Proofs
open Go.Hx
def isV (n d : Int) : AVal := .clo 67 [] [.vptr [.lit (.int .i64 n)] 0, .vptr [.lit (.int .i64 d)] 0]
theorem is_spec (n d : Int) (H : AHeap) (K : ARes → AHeap → Prop) (hK : K (.ret (isV n d)) H) : ACall Tryd.prog G0 38 [.lit (.int .i64 n), .lit (.int .i64 d)] H K := by
  refine ACall.clo ⟨_, Tryd.func38, rfl, rfl⟩ fun hcl => ?_
  refine ACall.of_body (n := 6) (rs := [.tmp 4]) Tryd.func38 rfl rfl rfl (by decide) (by kernel_rfl) (by simp) ?_
  simp (config := { maxSteps := 1000000 }) only [go_sem, Int.reduceToNat, Int.reduceLE, Int.reduceLT, Int.reduceAdd, Int.reduceSub, Int.reduceMul, Int.reduceEq, Int.reduceNe, Nat.reduceEqDiff, Nat.reducePow, Nat.reduceDiv, Nat.reduceMod, Nat.reduceAdd, Nat.reduceMul, Nat.reduceSub, Nat.reduceLT, Nat.reduceLeDiff, reduceIte, reduceCtorEq, appendA_U]
  refine FinV.drop (v' := isV n d) G0_ok hcl ?_ hK
  refine .clo rfl rfl (fun i h _ => absurd h (Nat.not_lt_zero _)) fun i hi _ => ?_
  match i, hi with
  | 0, _ => exact .pfrz (Nat.le_refl _) (get_ext0 _ _ _) (by simp) rfl fun j hj _ => match j, hj with | 0, _ => .lit _
  | 1, _ => exact .pfrz (show H.next ≤ H.next + 1 by omega) (get_ext H _ 1 (by simp)) (by simp) rfl fun j hj _ => match j, hj with | 0, _ => .lit _
theorem is1_spec (n d : Int) (H : AHeap) (K : ARes → AHeap → Prop) (hK : K (.ret (.lit (.bool true))) H) : ACall Tryd.prog G0 67 [qV n d, .lit (.int .i64 0), .vptr [.lit (.int .i64 n)] 0, .vptr [.lit (.int .i64 d)] 0] H K := by
  refine ACall.clo ⟨_, Tryd.func67, rfl, rfl⟩ fun hcl => ?_
  have e1 : (n == n && d == d) = true := by simp
  refine ACall.of_body (n := 16) (rs := [.tmp 6]) Tryd.func67 rfl rfl rfl (by decide) (by kernel_rfl) (by simp) ?_
  simp (config := { maxSteps := 1000000 }) only [go_sem, Int.reduceToNat, Int.reduceLE, Int.reduceLT, Int.reduceAdd, Int.reduceSub, Int.reduceMul, Int.reduceEq, Int.reduceNe, Nat.reduceEqDiff, Nat.reducePow, Nat.reduceDiv, Nat.reduceMod, Nat.reduceAdd, Nat.reduceMul, Nat.reduceSub, Nat.reduceLT, Nat.reduceLeDiff, reduceIte, reduceCtorEq, qV, appendA_U]
  refine W.draw 4 [0, 0, 0, 6] Tryd.mixed (by kernel_rfl) (by kernel_rfl) ?_
  simp (config := { maxSteps := 1000000 }) only [go_sem, Int.reduceToNat, Int.reduceLE, Int.reduceLT, Int.reduceAdd, Int.reduceSub, Int.reduceMul, Int.reduceEq, Int.reduceNe, Nat.reduceEqDiff, Nat.reducePow, Nat.reduceDiv, Nat.reduceMod, Nat.reduceAdd, Nat.reduceMul, Nat.reduceSub, Nat.reduceLT, Nat.reduceLeDiff, reduceIte, reduceCtorEq, qV, appendA_U]
  refine ⟨_, [], PCall.pure fun H2 => of_spec n d H2 _ ⟨rfl, rfl⟩, ?_⟩
  simp (config := { maxSteps := 1000000 }) only [go_sem, Int.reduceToNat, Int.reduceLE, Int.reduceLT, Int.reduceAdd, Int.reduceSub, Int.reduceMul, Int.reduceEq, Int.reduceNe, Nat.reduceEqDiff, Nat.reducePow, Nat.reduceDiv, Nat.reduceMod, Nat.reduceAdd, Nat.reduceMul, Nat.reduceSub, Nat.reduceLT, Nat.reduceLeDiff, reduceIte, reduceCtorEq, qV, eqlQ23, e1, guardA_undef, appendA_U]
  exact FinV.drop G0_ok hcl (.lit _) hK
/-- A fraction in bounds. -/
structure Sm (A B : Int) (x y : Int) : Prop where
  ck : checkQ x y = 0
  lo : -A ≤ x
  hi : x ≤ A
  den : y ≤ B
def I16 (n : Int) : Prop := -32768 ≤ n ∧ n ≤ 32767
end Go.Proofs
set_option linter.unusedSimpArgs false
set_option maxRecDepth 100000
namespace Go.Proofs
open Go.Hx
theorem wf_i16 {n : Int} (h : (Lit.int .i16 n).wf = true) : I16 n := by
  unfold I16
  simpa [Lit.wf, IntKind.min, IntKind.max, IntKind.signed, IntKind.bits] using h
theorem is_ok (n d : Int) (H : AHeap) (K : ARes → AHeap → Prop) (hK : K (.ret (.clo 67 [] [.vptr [.lit (.int .i64 n)] 0, .vptr [.lit (.int .i64 d)] 0])) H) : ACall Tryd.prog G0 38 [.lit (.int .i64 n), .lit (.int .i64 d)] H K := is_spec n d H K hK
theorem is1_ok (n d : Int) (H : AHeap) (K : ARes → AHeap → Prop) (hK : K (.ret (.lit (.bool true))) H) : ACall Tryd.prog G0 67 [.agg [.lit (.int .i64 n), .lit (.int .i64 d)], .lit (.int .i64 0), .vptr [.lit (.int .i64 n)] 0, .vptr [.lit (.int .i64 d)] 0] H K := is1_spec n d H K hK
end Go.Proofs
