/- Own work: contracts. -/
import Derived.Test.YtemcnpldpoglmaaDoorConA
set_option linter.all false
set_option linter.unusedSimpArgs false
set_option maxRecDepth 100000
namespace Go.Hx
variable {P : Program} {G : Nat → Option (List AVal)} {Γ Γ' : Gam} {H H' : AHeap} {w w' : World}
theorem W.env {n : Nat} {rd : Option Nat} {Q : AX → St → Prop} {c : Code} {ρ : Env} {H : AHeap} (h : ∀ E, E = ρ → W P G n rd c Q ⟨E, H⟩) : W P G n rd c Q ⟨ρ, H⟩ := h ρ rfl
theorem Below.mono {n m : Nat} {v : AVal} (h : Below n v) (hm : n ≤ m) : Below m v := by
  induction h with
  | lit v => exact .lit v
  | vec h ih => exact .vec ih
  | vptr h ih => exact .vptr ih
  | agg h ih => exact .agg ih
  | tup h ih => exact .tup ih
  | clo h1 h2 ih1 ih2 => exact .clo ih1 ih2
  | own h => exact .own (by omega)
  | ptr h => exact .ptr (by omega)
  | yld h => exact .yld (by omega)
theorem BelowB.mono {n m : Nat} {b : Blk} (h : BelowB n b) (hm : n ≤ m) : BelowB m b := by
  cases b with
  | arr g e cells => exact fun i hi => (h i hi).mono hm
  | loop st pend n env ps asg body => exact fun t ht => (h t ht).mono hm
  | rsv => trivial
theorem nilOf_agg (H : AHeap) (op : BinOp) (a : List AVal) (y : AVal) : nilOf H op (.agg a) y = none := by unfold nilOf; split <;> rfl
attribute [go_sem] nilOf_agg
end Go.Hx
namespace Go.Proofs
open Go.Hx
theorem get_ext0 (H : AHeap) (b : Blk) (L : List Blk) : (ext H (b :: L)).get H.next = some b := get_ext H (b :: L) 0 (by simp)
theorem gcd_step (a b : Int) (ha : 0 ≤ a) (hb : 0 < b) : Int.gcd b (a % b) = Int.gcd b a := by
  obtain ⟨m, rfl⟩ := Int.eq_ofNat_of_zero_le ha
  obtain ⟨n, rfl⟩ := Int.eq_ofNat_of_zero_le (Int.le_of_lt hb)
  rw [← Int.natCast_emod]
  simp only [Int.gcd_natCast_natCast]
  rw [Nat.gcd_comm n m, ← Nat.mod_add_div m n]
  have := Nat.gcd_rec n m
  rw [Nat.mod_add_div]
  rw [Nat.gcd_comm m n, this, Nat.gcd_comm]
def vecV (l : List (List Int)) : AVal := .vec l.length (l.map vecI)
theorem vecV_cells (l : List (List Int)) : (vecV l).cells = [vecV l] := rfl
theorem vecV_one (l : List (List Int)) : (vecV l).one = true := rfl

end Go.Proofs
set_option linter.unusedSimpArgs false
namespace Go.Hx
variable {P : Program} {t : TypeId} {x y : Operand} {k k' : IntKind} {a b : Int}
theorem wrapU64 (n : Int) : IntKind.u64.wrap n = n % 18446744073709551616 := by simp [IntKind.wrap, IntKind.bits, IntKind.signed]
theorem pureRun_bind {α β : Type} {s : Sem α} {f : α → Sem β} {a : α} (h : pureRun P s = some a) : pureRun P (s >>= f) = pureRun P (f a) := by
  induction s with
  | pure b => simp only [pureRun, Option.some.injEq] at h; subst h; rfl
  | program k ih => exact ih P h
  | mark m k ih => exact ih h
  | _ => simp [pureRun] at h
theorem equalIn_bool {t : TypeId} {a b : Bool} (n : Nat) (ht : P.underlying t = some .bool) : pureRun P (Op.equalIn (n + 1) t (.bool a) (.bool b)) = some (a == b) := by
  unfold Op.equalIn
  simp [underlying, program, ht, pureRun, bind, Sem.bind, pure]
theorem bin_neq_bool {t : TypeId} {x y : Operand} {a b : Bool} (ht : P.underlying t = some .bool) : binA P .neq t x y (.lit (.bool a)) (.lit (.bool b)) = some (.lit (.bool (!(a == b)))) := by
  have h1 : (do eqGuard .neq t x y (.bool a) (.bool b); binOp .neq t (.bool a) (.bool b)) = (Op.equalIn (9999 + 1) t (.bool a) (.bool b) >>= fun r => pure (Value.bool (!r))) := rfl
  show (pureRun P _).map _ = _
  rw [h1, pureRun_bind (equalIn_bool 9999 ht)]
  rfl
end Go.Hx
set_option maxRecDepth 100000
namespace Go.Proofs
open Go.Hx
theorem guardA_undef (w : Bool) : guardA w (some (.lit undef)) = some false := rfl

theorem size_spec (n : Int) (hn : -9223372036854775808 ≤ n ∧ n ≤ 9223372036854775807) (H : AHeap) (K : ARes → AHeap → Prop) (hK : K (.ret (.lit (.int .u64 (n.natAbs : Int)))) H) : ACall Tryd.prog G0 43 [.lit (.int .i64 n)] H K := by
  refine ACall.of_body (n := 10) (rs := [.tmp 2]) Tryd.func43 rfl rfl rfl (by decide) (by kernel_rfl) (by simp) ?_
  by_cases h : n < 0
  · have w1 : IntKind.u64.wrap n = n + 18446744073709551616 := by rw [wrapU64]; omega
    have w2 : IntKind.u64.wrap (0 - (n + 18446744073709551616)) = (n.natAbs : Int) := by rw [wrapU64]; omega
    simp (config := { maxSteps := 1000000 }) only [go_sem, Int.reduceToNat, Int.reduceLE, Int.reduceLT, Int.reduceAdd, Int.reduceSub, Int.reduceMul, Int.reduceEq, Int.reduceNe, Nat.reduceEqDiff, Nat.reducePow, Nat.reduceDiv, Nat.reduceMod, Nat.reduceAdd, Nat.reduceMul, Nat.reduceSub, Nat.reduceLT, Nat.reduceLeDiff, reduceIte, reduceCtorEq, h, w1, w2, appendA_U]
    exact FinV.mk (Nat.le_refl _) hK
  · have w1 : IntKind.u64.wrap n = (n.natAbs : Int) := by rw [wrapU64]; omega
    simp (config := { maxSteps := 1000000 }) only [go_sem, Int.reduceToNat, Int.reduceLE, Int.reduceLT, Int.reduceAdd, Int.reduceSub, Int.reduceMul, Int.reduceEq, Int.reduceNe, Nat.reduceEqDiff, Nat.reducePow, Nat.reduceDiv, Nat.reduceMod, Nat.reduceAdd, Nat.reduceMul, Nat.reduceSub, Nat.reduceLT, Nat.reduceLeDiff, reduceIte, reduceCtorEq, h, w1, appendA_U]
    exact FinV.mk (Nat.le_refl _) hK

theorem common_spec (a b : Int) (ha : 0 ≤ a) (hb : 0 ≤ b) (H : AHeap) (K : ARes → AHeap → Prop) (hK : K (.ret (.lit (.int .u64 (Int.gcd a b : Int)))) H) : ACall Tryd.prog G0 42 [.lit (.int .u64 a), .lit (.int .u64 b)] H K := by
  refine ACall.of_body (n := 12) (rs := [.tmp 4]) Tryd.func42 rfl rfl rfl (by decide) (by kernel_rfl) (by simp) ?_
  simp (config := { maxSteps := 1000000 }) only [go_sem, Int.reduceToNat, Int.reduceLE, Int.reduceLT, Int.reduceAdd, Int.reduceSub, Int.reduceMul, Int.reduceEq, Int.reduceNe, Nat.reduceEqDiff, Nat.reducePow, Nat.reduceDiv, Nat.reduceMod, Nat.reduceAdd, Nat.reduceMul, Nat.reduceSub, Nat.reduceLT, Nat.reduceLeDiff, reduceIte, reduceCtorEq, appendA_U]
  refine W.loop0 2019 (by rfl) (fun ρ H' => H' = H ∧ ∃ x y : Int, ρ 0 = .lit (.int .u64 x) ∧ ρ 1 = .lit (.int .u64 y) ∧ 0 ≤ x ∧ 0 ≤ y ∧ Int.gcd x y = Int.gcd a b) (fun ρ H => (iv (ρ 1)).toNat) ?_ ?_
  · simp (config := { maxSteps := 1000000 }) only [go_sem, Int.reduceToNat, Int.reduceLE, Int.reduceLT, Int.reduceAdd, Int.reduceSub, Int.reduceMul, Int.reduceEq, Int.reduceNe, Nat.reduceEqDiff, Nat.reducePow, Nat.reduceDiv, Nat.reduceMod, Nat.reduceAdd, Nat.reduceMul, Nat.reduceSub, Nat.reduceLT, Nat.reduceLeDiff, reduceIte, reduceCtorEq, appendA_U]
    exact ⟨a, b, rfl, rfl, ha, hb, rfl⟩
  rintro ρ H' ⟨rfl, x, y, h0, h1, hx, hy, hg⟩
  refine vc_sound _ _ _ (by rfl) ?_
  by_cases hz : y = 0
  · subst hz
    have e : x = (Int.gcd a b : Int) := by rw [← hg, Int.gcd_zero_right]; omega
    simp (config := { maxSteps := 1000000 }) only [go_sem, Int.reduceToNat, Int.reduceLE, Int.reduceLT, Int.reduceAdd, Int.reduceSub, Int.reduceMul, Int.reduceEq, Int.reduceNe, Nat.reduceEqDiff, Nat.reducePow, Nat.reduceDiv, Nat.reduceMod, Nat.reduceAdd, Nat.reduceMul, Nat.reduceSub, Nat.reduceLT, Nat.reduceLeDiff, reduceIte, reduceCtorEq, h0, h1, appendA_U]
    rw [e]
    exact FinV.mk (Nat.le_refl _) hK
  · have m1 : x.tmod y = x % y := Int.tmod_eq_emod_of_nonneg hx
    have m2 := Int.emod_nonneg x hz
    have m3 := Int.emod_lt_of_pos x (show 0 < y by omega)
    simp (config := { maxSteps := 1000000 }) only [go_sem, Int.reduceToNat, Int.reduceLE, Int.reduceLT, Int.reduceAdd, Int.reduceSub, Int.reduceMul, Int.reduceEq, Int.reduceNe, Nat.reduceEqDiff, Nat.reducePow, Nat.reduceDiv, Nat.reduceMod, Nat.reduceAdd, Nat.reduceMul, Nat.reduceSub, Nat.reduceLT, Nat.reduceLeDiff, reduceIte, reduceCtorEq, h0, h1, hz, appendA_U]
    refine W.draw 5 [0, 0, 0, 6, 3] Tryd.mixed (by kernel_rfl) (by kernel_rfl) ?_
    simp (config := { maxSteps := 1000000 }) only [go_sem, Int.reduceToNat, Int.reduceLE, Int.reduceLT, Int.reduceAdd, Int.reduceSub, Int.reduceMul, Int.reduceEq, Int.reduceNe, Nat.reduceEqDiff, Nat.reducePow, Nat.reduceDiv, Nat.reduceMod, Nat.reduceAdd, Nat.reduceMul, Nat.reduceSub, Nat.reduceLT, Nat.reduceLeDiff, reduceIte, reduceCtorEq, h0, h1, hz, m1, appendA_U]
    refine ⟨⟨y, x % y, rfl, rfl, hy, m2, ?_⟩, by omega⟩
    rw [← hg, Int.gcd_comm x y]
    exact gcd_step x y hx (by omega)

def maxN : Int := 4611686018427387903
/-- The error of a fraction. -/
def checkQ (n d : Int) : Int := if d < 1 ∨ d > maxN ∨ n < -maxN ∨ n > maxN then 5 else if Int.gcd n d ≠ 1 then 5 else 0
theorem gcd_abs (n d : Int) : Int.gcd (n.natAbs : Int) d = Int.gcd n d := by simp [Int.gcd]
theorem fcheck_spec (n d : Int) (hn : -9223372036854775808 ≤ n ∧ n ≤ 9223372036854775807) (hd : -9223372036854775808 ≤ d ∧ d ≤ 9223372036854775807) (H : AHeap) (K : ARes → AHeap → Prop) (hK : K (.ret (.lit (.int .i64 (checkQ n d)))) H) : ACall Tryd.prog G0 13 [qV n d] H K := by
  refine ACall.clo ⟨_, Tryd.func13, rfl, rfl⟩ fun hcl => ?_
  refine ACall.of_body (n := 29) (rs := [.tmp 2]) Tryd.func13 rfl rfl rfl (by decide) (by kernel_rfl) (by simp) ?_
  have bad : ∀ L, checkQ n d = 5 → FinV Tryd.prog G0 H K (.lit (.int .i64 5)) (ext H L) := fun L h => by
    rw [h] at hK
    exact FinV.drop G0_ok hcl (.lit _) hK
  by_cases h1 : d < 1
  · simp (config := { maxSteps := 1000000 }) only [go_sem, Int.reduceToNat, Int.reduceLE, Int.reduceLT, Int.reduceAdd, Int.reduceSub, Int.reduceMul, Int.reduceEq, Int.reduceNe, Nat.reduceEqDiff, Nat.reducePow, Nat.reduceDiv, Nat.reduceMod, Nat.reduceAdd, Nat.reduceMul, Nat.reduceSub, Nat.reduceLT, Nat.reduceLeDiff, reduceIte, reduceCtorEq, qV, h1, appendA_U]
    exact bad _ (by unfold checkQ; rw [if_pos (.inl h1)])
  by_cases h2 : 4611686018427387903 < d
  · simp (config := { maxSteps := 1000000 }) only [go_sem, Int.reduceToNat, Int.reduceLE, Int.reduceLT, Int.reduceAdd, Int.reduceSub, Int.reduceMul, Int.reduceEq, Int.reduceNe, Nat.reduceEqDiff, Nat.reducePow, Nat.reduceDiv, Nat.reduceMod, Nat.reduceAdd, Nat.reduceMul, Nat.reduceSub, Nat.reduceLT, Nat.reduceLeDiff, reduceIte, reduceCtorEq, qV, h1, h2, appendA_U]
    exact bad _ (by unfold checkQ; rw [if_pos (.inr (.inl h2))])
  by_cases h3 : n < -4611686018427387903
  · simp (config := { maxSteps := 1000000 }) only [go_sem, Int.reduceToNat, Int.reduceLE, Int.reduceLT, Int.reduceAdd, Int.reduceSub, Int.reduceMul, Int.reduceEq, Int.reduceNe, Nat.reduceEqDiff, Nat.reducePow, Nat.reduceDiv, Nat.reduceMod, Nat.reduceAdd, Nat.reduceMul, Nat.reduceSub, Nat.reduceLT, Nat.reduceLeDiff, reduceIte, reduceCtorEq, qV, h1, h2, h3, appendA_U]
    exact bad _ (by unfold checkQ; rw [if_pos (.inr (.inr (.inl h3)))])
  by_cases h4 : 4611686018427387903 < n
  · simp (config := { maxSteps := 1000000 }) only [go_sem, Int.reduceToNat, Int.reduceLE, Int.reduceLT, Int.reduceAdd, Int.reduceSub, Int.reduceMul, Int.reduceEq, Int.reduceNe, Nat.reduceEqDiff, Nat.reducePow, Nat.reduceDiv, Nat.reduceMod, Nat.reduceAdd, Nat.reduceMul, Nat.reduceSub, Nat.reduceLT, Nat.reduceLeDiff, reduceIte, reduceCtorEq, qV, h1, h2, h3, h4, appendA_U]
    exact bad _ (by unfold checkQ; rw [if_pos (.inr (.inr (.inr h4)))])
  simp (config := { maxSteps := 1000000 }) only [go_sem, Int.reduceToNat, Int.reduceLE, Int.reduceLT, Int.reduceAdd, Int.reduceSub, Int.reduceMul, Int.reduceEq, Int.reduceNe, Nat.reduceEqDiff, Nat.reducePow, Nat.reduceDiv, Nat.reduceMod, Nat.reduceAdd, Nat.reduceMul, Nat.reduceSub, Nat.reduceLT, Nat.reduceLeDiff, reduceIte, reduceCtorEq, qV, h1, h2, h3, h4, appendA_U]
  refine W.draw 6 [0, 1, 3, 0, 8, 24] Tryd.mixed (by kernel_rfl) (by kernel_rfl) ?_
  have w1 : IntKind.u64.wrap d = d := IntWalk.u64_in d (by omega)
  simp (config := { maxSteps := 1000000 }) only [go_sem, Int.reduceToNat, Int.reduceLE, Int.reduceLT, Int.reduceAdd, Int.reduceSub, Int.reduceMul, Int.reduceEq, Int.reduceNe, Nat.reduceEqDiff, Nat.reducePow, Nat.reduceDiv, Nat.reduceMod, Nat.reduceAdd, Nat.reduceMul, Nat.reduceSub, Nat.reduceLT, Nat.reduceLeDiff, reduceIte, reduceCtorEq, qV, h1, h2, h3, h4, w1, appendA_U]
  refine ⟨_, [], PCall.pure (fun H2 => size_spec n hn H2 _ ⟨rfl, rfl⟩), ?_⟩
  simp (config := { maxSteps := 1000000 }) only [go_sem, Int.reduceToNat, Int.reduceLE, Int.reduceLT, Int.reduceAdd, Int.reduceSub, Int.reduceMul, Int.reduceEq, Int.reduceNe, Nat.reduceEqDiff, Nat.reducePow, Nat.reduceDiv, Nat.reduceMod, Nat.reduceAdd, Nat.reduceMul, Nat.reduceSub, Nat.reduceLT, Nat.reduceLeDiff, reduceIte, reduceCtorEq, qV, h1, h2, h3, h4, w1, appendA_U]
  refine AApply.clo (common_spec _ d (by omega) (by omega) _ _ ⟨trivial, ?_⟩)
  rw [gcd_abs]
  have ck : checkQ n d = if Int.gcd n d ≠ 1 then 5 else 0 := by unfold checkQ; rw [if_neg (by unfold maxN; omega)]
  by_cases hg : Int.gcd n d = 1
  · have hg' : ((Int.gcd n d : Nat) : Int) = 1 := by omega
    simp (config := { maxSteps := 1000000 }) only [go_sem, Int.reduceToNat, Int.reduceLE, Int.reduceLT, Int.reduceAdd, Int.reduceSub, Int.reduceMul, Int.reduceEq, Int.reduceNe, Nat.reduceEqDiff, Nat.reducePow, Nat.reduceDiv, Nat.reduceMod, Nat.reduceAdd, Nat.reduceMul, Nat.reduceSub, Nat.reduceLT, Nat.reduceLeDiff, reduceIte, reduceCtorEq, hg', appendA_U]
    rw [ck, if_neg (by simpa using hg)] at hK
    exact FinV.drop G0_ok hcl (.lit _) hK
  · have hg' : ¬ ((Int.gcd n d : Nat) : Int) = 1 := by omega
    simp (config := { maxSteps := 1000000 }) only [go_sem, Int.reduceToNat, Int.reduceLE, Int.reduceLT, Int.reduceAdd, Int.reduceSub, Int.reduceMul, Int.reduceEq, Int.reduceNe, Nat.reduceEqDiff, Nat.reducePow, Nat.reduceDiv, Nat.reduceMod, Nat.reduceAdd, Nat.reduceMul, Nat.reduceSub, Nat.reduceLT, Nat.reduceLeDiff, reduceIte, reduceCtorEq, hg', appendA_U]
    exact bad _ (by rw [ck, if_pos hg])

/-- Two halves of a number. -/
def wideV (n : Nat) : AVal := .agg [.lit (.int .u64 (n / 18446744073709551616 : Nat)), .lit (.int .u64 (n % 18446744073709551616 : Nat))]
end Go.Proofs
set_option linter.unusedSimpArgs false
set_option maxRecDepth 100000
namespace Go.Hx
variable {P : Program} {t e : TypeId} {x y : Operand} {k k' : IntKind} {a b c d : Int}
theorem equalIn_int (n : Nat) (he : P.underlying e = some (.int k)) : pureRun P (Op.equalIn (n + 1) e (.int k' a) (.int k' b)) = some (a == b) := by
  unfold Op.equalIn
  simp [underlying, program, he, pureRun, bind, Sem.bind, pure]
theorem equalIn_duo (n : Nat) {f g : Field} (ht : P.underlying t = some (.struct #[f, g])) (hsi : P.stoodInHeld t = false) (hf : f.type = e) (hg : g.type = e) (fn : f.name ≠ "_") (gn : g.name ≠ "_") (fo : f.offset = 0) (go : g.offset = 1) (he : P.underlying e = some (.int k)) :
    pureRun P (Op.equalIn (n + 2) t (.agg #[.int k' a, .int k' b]) (.agg #[.int k' c, .int k' d])) = some (a == c && b == d) := by
  unfold Op.equalIn
  have e1 : ∀ {α : Type} (f' : TypeDesc → Sem α), pureRun P (underlying t >>= f') = pureRun P (f' (.struct #[f, g])) := fun f' => pureRun_bind (by simp [underlying, program, ht, pureRun, bind, Sem.bind, pure])
  have e0 : ∀ {α : Type} (f' : Program → Sem α), pureRun P (program >>= f') = pureRun P (f' P) := fun f' => pureRun_bind (by simp [program, pureRun])
  have e3 : ∀ {α : Type} (cs : Array Value) (o : Nat) (v : Value) (f' : Value → Sem α), cs[o]? = some v → pureRun P (part e cs o >>= f') = pureRun P (f' v) := fun cs o v f' h => pureRun_bind (by simp [part, isAgg, underlying, program, he, h, pureRun, bind, Sem.bind, pure])
  have e4 : ∀ {α : Type} (p q : Int) (f' : Bool → Sem α), pureRun P (Op.equalIn (n + 1) e (.int k' p) (.int k' q) >>= f') = pureRun P (f' (p == q)) := fun p q f' => pureRun_bind (equalIn_int n he)
  rw [e1]
  dsimp only
  rw [e0, hsi]
  simp only [Bool.false_eq_true, if_false, ← Array.forIn_toList, List.forIn_cons, List.forIn_nil, fn, gn, hf, hg, fo, go, ne_eq, not_false_eq_true, if_true, bind_assoc, pure_bind]
  rw [e3 _ _ (.int k' a) _ rfl, e3 _ _ (.int k' c) _ rfl, e4]
  by_cases h : (a == c) = true
  · rw [h]
    simp only [Bool.not_true, Bool.false_eq_true, if_false, pure_bind, bind_assoc]
    rw [e3 _ _ (.int k' b) _ rfl, e3 _ _ (.int k' d) _ rfl, e4]
    by_cases h2 : (b == d) = true
    · rw [h2]; rfl
    · rw [Bool.not_eq_true] at h2; rw [h2]; rfl
  · rw [Bool.not_eq_true] at h; rw [h]; rfl
theorem bin_eql_duo {P : Program} {t e : TypeId} {x y : Operand} {k k' : IntKind} {a b c d : Int} {f g : Field} (ht : P.underlying t = some (.struct #[f, g])) (hsi : P.stoodInHeld t = false) (hf : f.type = e) (hg : g.type = e) (fn : f.name ≠ "_") (gn : g.name ≠ "_") (fo : f.offset = 0) (go : g.offset = 1) (he : P.underlying e = some (.int k)) (hq : P.eqGuardType P.depth t = false) :
    binA P .eql t x y (.agg [.lit (.int k' a), .lit (.int k' b)]) (.agg [.lit (.int k' c), .lit (.int k' d)]) = some (.lit (.bool (a == c && b == d))) := by
  show (pureRun P (do eqGuard .eql t x y (.agg #[.int k' a, .int k' b]) (.agg #[.int k' c, .int k' d]); binOp .eql t (.agg #[.int k' a, .int k' b]) (.agg #[.int k' c, .int k' d]))).map _ = _
  have h0 : pureRun P (eqGuard .eql t x y (.agg #[.int k' a, .int k' b]) (.agg #[.int k' c, .int k' d])) = some () := by
    simp [eqGuard, program, hq, pureRun, bind, Sem.bind, pure]
  have h1 : binOp .eql t (.agg #[.int k' a, .int k' b]) (.agg #[.int k' c, .int k' d]) = (Op.equalIn (9998 + 2) t (.agg #[.int k' a, .int k' b]) (.agg #[.int k' c, .int k' d]) >>= fun r => pure (Value.bool r)) := rfl
  rw [pureRun_bind h0, h1, pureRun_bind (equalIn_duo 9998 ht hsi hf hg fn gn fo go he)]
  rfl
attribute [go_sem] nilOf_agg
end Go.Hx
namespace Go.Proofs
open Go.Hx
theorem eqlQ {o1 o2 : Operand} (a b c d : Int) : binA Tryd.prog .eql 23 o1 o2 (.agg [.lit (.int .i64 a), .lit (.int .i64 b)]) (.agg [.lit (.int .i64 c), .lit (.int .i64 d)]) = some (.lit (.bool (a == c && b == d))) :=
  bin_eql_duo Tryd.underlying23 (by kernel_rfl) rfl rfl (by decide) (by decide) rfl rfl Tryd.underlying3 (by kernel_rfl)
def maxM : Nat := 4611686018427387903
def fitO (neg : Bool) (n d : Nat) : Option AVal := if n ≤ 4611686018427387903 ∧ d ≤ 4611686018427387903 then some (qV (if neg = true then -(n : Int) else n) d) else none
def OutK (o : Option AVal) (H : AHeap) (K : ARes → AHeap → Prop) : Prop := (∀ v, o = some v → K (.ret v) H) ∧ (o = none → ∀ H', H.next ≤ H'.next → K .panic H')
theorem fz_lits {S : Nat → Prop} {H : AHeap} {nx : Nat} (n d : Int) : Fz S H nx (.agg [.lit (.int .i64 n), .lit (.int .i64 d)]) (qV n d) :=
  .agg rfl fun i hi _ => match i, hi with
    | 0, _ => .lit _
    | 1, _ => .lit _
theorem plT : placesA Tryd.prog 99 = some [] := by kernel_rfl
theorem tvT : (AVal.agg []).toVal = some (.agg #[]) := rfl
theorem mkT : pureRun Tryd.prog (Instr.makeInterface 99 (.agg #[])) = some (.iface 99 (.agg #[])) := by kernel_rfl
theorem fit_spec (neg : Bool) (n d : Nat) (hn : n < 340282366920938463463374607431768211456) (hd : d < 340282366920938463463374607431768211456) (H : AHeap) (K : ARes → AHeap → Prop) (hK : OutK (fitO neg n d) H K) :
    ACall Tryd.prog G0 49 [.lit (.bool neg), wideV n, wideV d] H K := by
  refine ACall.clo ⟨_, Tryd.func49, rfl, rfl⟩ fun hcl => ?_
  refine ACall.of_body (n := 43) (rs := [.cell 6 23]) Tryd.func49 rfl rfl rfl (by decide) (by kernel_rfl) (by simp) ?_
  by_cases hf : n ≤ 4611686018427387903 ∧ d ≤ 4611686018427387903
  · have e1 : n / 18446744073709551616 = 0 := by omega
    have e2 : d / 18446744073709551616 = 0 := by omega
    have e3 : n % 18446744073709551616 = n := by omega
    have e4 : d % 18446744073709551616 = d := by omega
    have h1 : ¬ (4611686018427387903 : Int) < (n : Int) := by omega
    have h2 : ¬ (4611686018427387903 : Int) < (d : Int) := by omega
    have w1 := IntWalk.i64_in (n : Int) (by omega)
    have w2 := IntWalk.i64_in (d : Int) (by omega)
    have w3 := IntWalk.i64_in (0 - (n : Int)) (by omega)
    have w4 : (0 : Int) - (n : Int) = -(n : Int) := by omega
    have hk := hK.1 _ (by unfold fitO; rw [if_pos hf])
    cases neg with
    | true =>
      simp (config := { maxSteps := 1000000 }) only [go_sem, Int.reduceToNat, Int.reduceLE, Int.reduceLT, Int.reduceAdd, Int.reduceSub, Int.reduceMul, Int.reduceEq, Int.reduceNe, Nat.reduceEqDiff, Nat.reducePow, Nat.reduceDiv, Nat.reduceMod, Nat.reduceAdd, Nat.reduceMul, Nat.reduceSub, Nat.reduceLT, Nat.reduceLeDiff, reduceIte, reduceCtorEq, wideV, e1, e2, e3, e4, h1, h2, w1, w2, w3, appendA_U]
      rw [if_pos rfl] at hk
      rw [w4]
      exact FinV.drop G0_ok hcl (fz_lits _ _) hk
    | false =>
      simp (config := { maxSteps := 1000000 }) only [go_sem, Int.reduceToNat, Int.reduceLE, Int.reduceLT, Int.reduceAdd, Int.reduceSub, Int.reduceMul, Int.reduceEq, Int.reduceNe, Nat.reduceEqDiff, Nat.reducePow, Nat.reduceDiv, Nat.reduceMod, Nat.reduceAdd, Nat.reduceMul, Nat.reduceSub, Nat.reduceLT, Nat.reduceLeDiff, reduceIte, reduceCtorEq, wideV, e1, e2, e3, e4, h1, h2, w1, w2, w3, appendA_U]
      rw [if_neg (by decide)] at hk
      exact FinV.drop G0_ok hcl (fz_lits _ _) hk
  · have hk := hK.2 (by unfold fitO; rw [if_neg hf])
    by_cases a1 : ((n / 18446744073709551616 : Nat) : Int) = 0
    · by_cases a2 : (4611686018427387903 : Int) < ((n % 18446744073709551616 : Nat) : Int)
      · simp (config := { maxSteps := 1000000 }) only [go_sem, Int.reduceToNat, Int.reduceLE, Int.reduceLT, Int.reduceAdd, Int.reduceSub, Int.reduceMul, Int.reduceEq, Int.reduceNe, Nat.reduceEqDiff, Nat.reducePow, Nat.reduceDiv, Nat.reduceMod, Nat.reduceAdd, Nat.reduceMul, Nat.reduceSub, Nat.reduceLT, Nat.reduceLeDiff, reduceIte, reduceCtorEq, wideV, a1, a2, guardA_undef, plT, tvT, mkT, appendA_U]
        exact ⟨⟨_, _, rfl⟩, _, WeakV.refl _ _, by simp [ext_next], hk _ (by simp [ext_next])⟩
      · by_cases a3 : ((d / 18446744073709551616 : Nat) : Int) = 0
        · have a4 : (4611686018427387903 : Int) < ((d % 18446744073709551616 : Nat) : Int) := by omega
          simp (config := { maxSteps := 1000000 }) only [go_sem, Int.reduceToNat, Int.reduceLE, Int.reduceLT, Int.reduceAdd, Int.reduceSub, Int.reduceMul, Int.reduceEq, Int.reduceNe, Nat.reduceEqDiff, Nat.reducePow, Nat.reduceDiv, Nat.reduceMod, Nat.reduceAdd, Nat.reduceMul, Nat.reduceSub, Nat.reduceLT, Nat.reduceLeDiff, reduceIte, reduceCtorEq, wideV, a1, a2, a3, a4, guardA_undef, plT, tvT, mkT, appendA_U]
          exact ⟨⟨_, _, rfl⟩, _, WeakV.refl _ _, by simp [ext_next], hk _ (by simp [ext_next])⟩
        · simp (config := { maxSteps := 1000000 }) only [go_sem, Int.reduceToNat, Int.reduceLE, Int.reduceLT, Int.reduceAdd, Int.reduceSub, Int.reduceMul, Int.reduceEq, Int.reduceNe, Nat.reduceEqDiff, Nat.reducePow, Nat.reduceDiv, Nat.reduceMod, Nat.reduceAdd, Nat.reduceMul, Nat.reduceSub, Nat.reduceLT, Nat.reduceLeDiff, reduceIte, reduceCtorEq, wideV, a1, a2, a3, guardA_undef, plT, tvT, mkT, appendA_U]
          exact ⟨⟨_, _, rfl⟩, _, WeakV.refl _ _, by simp [ext_next], hk _ (by simp [ext_next])⟩
    · simp (config := { maxSteps := 1000000 }) only [go_sem, Int.reduceToNat, Int.reduceLE, Int.reduceLT, Int.reduceAdd, Int.reduceSub, Int.reduceMul, Int.reduceEq, Int.reduceNe, Nat.reduceEqDiff, Nat.reducePow, Nat.reduceDiv, Nat.reduceMod, Nat.reduceAdd, Nat.reduceMul, Nat.reduceSub, Nat.reduceLT, Nat.reduceLeDiff, reduceIte, reduceCtorEq, wideV, a1, guardA_undef, plT, tvT, mkT, appendA_U]
      exact ⟨⟨_, _, rfl⟩, _, WeakV.refl _ _, by simp [ext_next], hk _ (by simp [ext_next])⟩
end Go.Proofs
set_option linter.unusedSimpArgs false
set_option maxRecDepth 100000
namespace Go.Proofs
open Go.Hx
def sgnB (a c : Int) : Bool := !(decide (a < 0) == decide (c < 0))
def prodO (a b c d : Int) : Option AVal := fitO (sgnB a c) (a.natAbs / Int.gcd a d * (c.natAbs / Int.gcd c b)) (b.natAbs / Int.gcd c b * (d.natAbs / Int.gcd a d))
theorem tdivN (a g : Nat) : (a : Int).tdiv (g : Int) = ((a / g : Nat) : Int) := by
  rw [Int.tdiv_eq_ediv_of_nonneg (by omega)]; exact (Int.natCast_ediv _ _).symm
theorem szN (a : Int) (ha : -9223372036854775808 ≤ a ∧ a ≤ 9223372036854775807) (H2 : AHeap) (K : ARes → AHeap → Prop) (h : K (.ret (.lit (.int .u64 (a.natAbs : Int)))) H2) : ACall Tryd.prog G0 43 [.lit (.int .i64 a)] H2 K := size_spec a ha H2 K h
end Go.Proofs
set_option linter.unusedSimpArgs false
set_option maxRecDepth 100000
namespace Go.Proofs
open Go.Hx
theorem fitO_ok {neg : Bool} {n d : Nat} {u : AVal} (h : fitO neg n d = some u) : qOk u = true := by
  unfold fitO at h
  split at h
  · cases h; rfl
  · cases h
theorem fitO_form {neg : Bool} {n d : Nat} {u : AVal} (h : fitO neg n d = some u) : ∃ x y, u = qV x y := by
  unfold fitO at h
  split at h
  · cases h; exact ⟨_, _, rfl⟩
  · cases h
theorem fresh_q {H : AHeap} (x y : Int) : Fresh H (.agg [.lit (.int .i64 x), .lit (.int .i64 y)]) (qV x y) := .agg rfl fun i hi _ => match i, hi with
  | 0, _ => .lit _
  | 1, _ => .lit _
def makeO (n d : Int) : Option AVal := fitO (sgnB n d) (n.natAbs / Int.gcd n d) (d.natAbs / Int.gcd n d)
def oneW (n : Nat) : AVal := .agg [.lit (.int .u64 0), .lit (.int .u64 (n : Int))]
theorem oneW_wide {n : Nat} (h : n < 18446744073709551616) : oneW n = wideV n := by
  unfold oneW wideV
  rw [Nat.div_eq_of_lt h, Nat.mod_eq_of_lt h]; rfl
set_option maxHeartbeats 2000000 in
theorem make1_spec (n d : Int) (hn : -9223372036854775808 ≤ n ∧ n ≤ 9223372036854775807) (hd : -9223372036854775808 ≤ d ∧ d ≤ 9223372036854775807) (hd0 : d ≠ 0) :
    ACall Tryd.prog G0 48 [.vptr [.lit (.int .i64 n)] 0, .vptr [.lit (.int .i64 d)] 0] noH (GRes (makeO n d)) := by
  refine ACall.clo ⟨_, Tryd.func48, rfl, rfl⟩ fun hcl => ?_
  have g0 : 0 < Int.gcd n d := Int.gcd_pos_of_ne_zero_right _ hd0
  have hG : OutK (makeO n d) noH (GRes (makeO n d)) → True := fun _ => trivial
  have cm : ∀ H2 K, K (ARes.ret (.lit (.int .u64 (Int.gcd n d : Nat)))) H2 → ACall Tryd.prog G0 42 [.lit (.int .u64 (n.natAbs : Int)), .lit (.int .u64 (d.natAbs : Int))] H2 K := fun H2 K h =>
    common_spec _ _ (by omega) (by omega) H2 K (by
      have : Int.gcd (n.natAbs : Int) (d.natAbs : Int) = Int.gcd n d := by simp [Int.gcd]
      rw [this]; exact h)
  obtain ⟨o, ho⟩ : ∃ o, o = makeO n d := ⟨_, rfl⟩
  have ho2 := ho
  unfold makeO at ho2
  rw [← ho]
  generalize Int.gcd n d = g at *
  have gne : ¬ (g : Int) = 0 := by omega
  have q1 := tdivN n.natAbs g
  have q2 := tdivN d.natAbs g
  have b1 : n.natAbs / g ≤ n.natAbs := Nat.div_le_self _ _
  have b2 : d.natAbs / g ≤ d.natAbs := Nat.div_le_self _ _
  generalize n.natAbs / g = p1 at *
  generalize d.natAbs / g = p2 at *
  have u1 := IntWalk.u64_in (p1 : Int) (by omega)
  have u2 := IntWalk.u64_in (p2 : Int) (by omega)
  refine ACall.of_body (n := 25) (rs := [.cell 2 23]) Tryd.func48 rfl rfl rfl (by decide) (by kernel_rfl) (by simp) ?_
  simp (config := { maxSteps := 1000000 }) only [go_sem, Int.reduceToNat, Int.reduceLE, Int.reduceLT, Int.reduceAdd, Int.reduceSub, Int.reduceMul, Int.reduceEq, Int.reduceNe, Nat.reduceEqDiff, Nat.reducePow, Nat.reduceDiv, Nat.reduceMod, Nat.reduceAdd, Nat.reduceMul, Nat.reduceSub, Nat.reduceLT, Nat.reduceLeDiff, reduceIte, reduceCtorEq, appendA_U]
  refine W.draw 3 [0, 1, 0] Tryd.mixed (by kernel_rfl) (by kernel_rfl) ?_
  simp (config := { maxSteps := 1000000 }) only [go_sem, Int.reduceToNat, Int.reduceLE, Int.reduceLT, Int.reduceAdd, Int.reduceSub, Int.reduceMul, Int.reduceEq, Int.reduceNe, Nat.reduceEqDiff, Nat.reducePow, Nat.reduceDiv, Nat.reduceMod, Nat.reduceAdd, Nat.reduceMul, Nat.reduceSub, Nat.reduceLT, Nat.reduceLeDiff, reduceIte, reduceCtorEq, appendA_U]
  refine ⟨_, [], PCall.pure fun H2 => szN n hn H2 _ ⟨rfl, rfl⟩, ?_⟩
  refine AApply.clo (szN d hd _ _ ⟨trivial, ?_⟩)
  simp (config := { maxSteps := 1000000 }) only [go_sem, Int.reduceToNat, Int.reduceLE, Int.reduceLT, Int.reduceAdd, Int.reduceSub, Int.reduceMul, Int.reduceEq, Int.reduceNe, Nat.reduceEqDiff, Nat.reducePow, Nat.reduceDiv, Nat.reduceMod, Nat.reduceAdd, Nat.reduceMul, Nat.reduceSub, Nat.reduceLT, Nat.reduceLeDiff, reduceIte, reduceCtorEq, appendA_U]
  refine AApply.clo (cm _ _ ⟨trivial, ?_⟩)
  simp (config := { maxSteps := 1000000 }) only [go_sem, Int.reduceToNat, Int.reduceLE, Int.reduceLT, Int.reduceAdd, Int.reduceSub, Int.reduceMul, Int.reduceEq, Int.reduceNe, Nat.reduceEqDiff, Nat.reducePow, Nat.reduceDiv, Nat.reduceMod, Nat.reduceAdd, Nat.reduceMul, Nat.reduceSub, Nat.reduceLT, Nat.reduceLeDiff, reduceIte, reduceCtorEq, appendA_U]
  refine W.draw 15 [0, 1, 0, 4, 15, 0, 32, 0, 224, 480, 0, 1120, 0, 7264, 15456] Tryd.mixed (by kernel_rfl) (by kernel_rfl) ?_
  simp (config := { maxSteps := 1000000 }) only [go_sem, Int.reduceToNat, Int.reduceLE, Int.reduceLT, Int.reduceAdd, Int.reduceSub, Int.reduceMul, Int.reduceEq, Int.reduceNe, Nat.reduceEqDiff, Nat.reducePow, Nat.reduceDiv, Nat.reduceMod, Nat.reduceAdd, Nat.reduceMul, Nat.reduceSub, Nat.reduceLT, Nat.reduceLeDiff, reduceIte, reduceCtorEq, bin_neq_bool Tryd.underlying4, appendA_U]
  refine ⟨_, [], PCall.pure fun H2 => szN n hn H2 _ ⟨rfl, rfl⟩, ?_⟩
  simp (config := { maxSteps := 1000000 }) only [go_sem, Int.reduceToNat, Int.reduceLE, Int.reduceLT, Int.reduceAdd, Int.reduceSub, Int.reduceMul, Int.reduceEq, Int.reduceNe, Nat.reduceEqDiff, Nat.reducePow, Nat.reduceDiv, Nat.reduceMod, Nat.reduceAdd, Nat.reduceMul, Nat.reduceSub, Nat.reduceLT, Nat.reduceLeDiff, reduceIte, reduceCtorEq, gne, q1, u1, appendA_U]
  refine ⟨_, [], PCall.pure fun H2 => szN d hd H2 _ ⟨rfl, rfl⟩, ?_⟩
  simp (config := { maxSteps := 1000000 }) only [go_sem, Int.reduceToNat, Int.reduceLE, Int.reduceLT, Int.reduceAdd, Int.reduceSub, Int.reduceMul, Int.reduceEq, Int.reduceNe, Nat.reduceEqDiff, Nat.reducePow, Nat.reduceDiv, Nat.reduceMod, Nat.reduceAdd, Nat.reduceMul, Nat.reduceSub, Nat.reduceLT, Nat.reduceLeDiff, reduceIte, reduceCtorEq, gne, q2, u2, appendA_U]
  have e1 : AVal.agg [.lit (.int .u64 0), .lit (.int .u64 (p1 : Int))] = wideV p1 := oneW_wide (by omega)
  have e2 : AVal.agg [.lit (.int .u64 0), .lit (.int .u64 (p2 : Int))] = wideV p2 := oneW_wide (by omega)
  refine AApply.clo ?_
  simp only [List.nil_append, List.append_nil]
  rw [e1, e2]
  refine fit_spec (sgnB n d) p1 p2 (by omega) (by omega) _ _ ⟨fun v hv => ⟨trivial, ?_⟩, fun hv H' hn => ⟨trivial, ?_⟩⟩
  · have hov : o = some v := ho2.trans hv
    obtain ⟨x, y, rfl⟩ := fitO_form hv
    rw [hov]
    simp (config := { maxSteps := 1000000 }) only [go_sem, Int.reduceToNat, Int.reduceLE, Int.reduceLT, Int.reduceAdd, Int.reduceSub, Int.reduceMul, Int.reduceEq, Int.reduceNe, Nat.reduceEqDiff, Nat.reducePow, Nat.reduceDiv, Nat.reduceMod, Nat.reduceAdd, Nat.reduceMul, Nat.reduceSub, Nat.reduceLT, Nat.reduceLeDiff, reduceIte, reduceCtorEq, qV, appendA_U]
    exact FinV.mk (Nat.zero_le _) ⟨_, rfl, fresh_q x y⟩
  · have hov : o = none := ho2.trans hv
    rw [hov]
    exact ⟨H', WeakV.refl _ _, Nat.zero_le _, rfl⟩
theorem gdOut_fz {o : Option AVal} (h : ∀ u, o = some u → ∃ x y, u = qV x y) : ∃ x y e, gdOut gdQ o = .tup [.agg [.lit (.int .i64 x), .lit (.int .i64 y)], .lit (.int .i64 e)] := by
  cases o with
  | none => exact ⟨0, 0, 6, rfl⟩
  | some u =>
    obtain ⟨x, y, rfl⟩ := h u rfl
    exact ⟨x, y, 0, rfl⟩
theorem fz_tq {S : Nat → Prop} {H : AHeap} {nx : Nat} (x y e : Int) : Fz S H nx (.tup [.agg [.lit (.int .i64 x), .lit (.int .i64 y)], .lit (.int .i64 e)]) (.tup [.agg [.lit (.int .i64 x), .lit (.int .i64 y)], .lit (.int .i64 e)]) :=
  .tup rfl fun i hi _ => match i, hi with
    | 0, _ => fz_lits _ _
    | 1, _ => .lit _
def makeR (n d : Int) : AVal := if d = 0 then .tup [qV 0 0, .lit (.int .i64 2)] else gdOut gdQ (makeO n d)
theorem make_spec (n d : Int) (hn : -9223372036854775808 ≤ n ∧ n ≤ 9223372036854775807) (hd : -9223372036854775808 ≤ d ∧ d ≤ 9223372036854775807) (H : AHeap) (K : ARes → AHeap → Prop) (hK : K (.ret (makeR n d)) H) :
    ACall Tryd.prog G0 15 [.lit (.int .i64 n), .lit (.int .i64 d)] H K := by
  refine ACall.clo ⟨_, Tryd.func15, rfl, rfl⟩ fun hcl => ?_
  refine ACall.of_body (n := 13) (rs := [.cell 4 23, .tmp 5]) Tryd.func15 rfl rfl rfl (by decide) (by kernel_rfl) (by simp) ?_
  by_cases hd0 : d = 0
  · unfold makeR at hK
    rw [if_pos hd0] at hK
    simp (config := { maxSteps := 1000000 }) only [go_sem, Int.reduceToNat, Int.reduceLE, Int.reduceLT, Int.reduceAdd, Int.reduceSub, Int.reduceMul, Int.reduceEq, Int.reduceNe, Nat.reduceEqDiff, Nat.reducePow, Nat.reduceDiv, Nat.reduceMod, Nat.reduceAdd, Nat.reduceMul, Nat.reduceSub, Nat.reduceLT, Nat.reduceLeDiff, reduceIte, reduceCtorEq, hd0, appendA_U]
    exact FinV.drop G0_ok hcl (fz_tq 0 0 2) hK
  unfold makeR at hK
  rw [if_neg hd0] at hK
  simp (config := { maxSteps := 1000000 }) only [go_sem, Int.reduceToNat, Int.reduceLE, Int.reduceLT, Int.reduceAdd, Int.reduceSub, Int.reduceMul, Int.reduceEq, Int.reduceNe, Nat.reduceEqDiff, Nat.reducePow, Nat.reduceDiv, Nat.reduceMod, Nat.reduceAdd, Nat.reduceMul, Nat.reduceSub, Nat.reduceLT, Nat.reduceLeDiff, reduceIte, reduceCtorEq, hd0, appendA_U]
  obtain ⟨H1, hH1⟩ : ∃ H1, H1 = ext H [.arr 0 3 [.lit (.int .i64 n)], .arr 0 3 [.lit (.int .i64 d)], .arr 0 23 [.lit (.int .i64 0), .lit (.int .i64 0)]] := ⟨_, rfl⟩
  have n1 : H1.next = H.next + 3 := by rw [hH1]; rfl
  have k0 : H1.get H.next = some (.arr 0 3 [.lit (.int .i64 n)]) := by rw [hH1]; exact get_ext0 ..
  have k1 : H1.get (H.next + 1) = some (.arr 0 3 [.lit (.int .i64 d)]) := by rw [hH1]; exact get_ext H _ 1 (by simp)
  rw [← hH1]
  refine AApply.clo ((gdQ_ok G0_ok 48 [.ptr H.next 0 0, .ptr (H.next + 1) 0 0] [.vptr [.lit (.int .i64 n)] 0, .vptr [.lit (.int .i64 d)] 0] H1 (makeO n d) rfl (fun H2 hag i h h' => ?_) (fun u hu => fitO_ok hu) (make1_spec n d hn hd hd0)).mono ?_)
  · match i, h with
    | 0, _ => exact .pfrz trivial ((hag _ (by omega)).trans k0) (by simp) rfl fun i hi _ => match i, hi with | 0, _ => .lit _
    | 1, _ => exact .pfrz trivial ((hag _ (by omega)).trans k1) (by simp) rfl fun i hi _ => match i, hi with | 0, _ => .lit _
  · rintro r H' ⟨rfl, rfl⟩
    refine ⟨trivial, ?_⟩
    obtain ⟨x, y, e, he⟩ := gdOut_fz (o := makeO n d) fun u hu => fitO_form hu
    rw [he] at hK ⊢
    rw [hH1]
    simp (config := { maxSteps := 1000000 }) only [go_sem, Int.reduceToNat, Int.reduceLE, Int.reduceLT, Int.reduceAdd, Int.reduceSub, Int.reduceMul, Int.reduceEq, Int.reduceNe, Nat.reduceEqDiff, Nat.reducePow, Nat.reduceDiv, Nat.reduceMod, Nat.reduceAdd, Nat.reduceMul, Nat.reduceSub, Nat.reduceLT, Nat.reduceLeDiff, reduceIte, reduceCtorEq, appendA_U]
    exact FinV.drop G0_ok hcl (fz_tq x y e) hK
end Go.Proofs
set_option linter.unusedSimpArgs false
set_option maxRecDepth 100000
namespace Go.Hx
@[go_sem] theorem partU_func (a b : Array TypeId) (c : Bool) (n : Nat) (cells : List AVal) (off : Nat) : partU (some (.func a b c)) n cells off = cells[off]? := rfl
end Go.Hx
namespace Go.Proofs
open Go.Hx
/-- What both gives. -/
def bothR (a b c d : Int) (o : Option AVal) : AVal := if checkQ a b = 0 ∧ checkQ c d = 0 then gdOut gdQ o else .tup [qV 0 0, .lit (.int .i64 5)]
theorem checkQ_range {n d : Int} (h : checkQ n d = 0) : (-4611686018427387903 ≤ n ∧ n ≤ 4611686018427387903) ∧ (1 ≤ d ∧ d ≤ 4611686018427387903) ∧ Int.gcd n d = 1 := by
  unfold checkQ maxN at h
  by_cases h2 : d < 1 ∨ d > 4611686018427387903 ∨ n < -4611686018427387903 ∨ n > 4611686018427387903
  · rw [if_pos h2] at h; exact absurd h (by decide)
  · rw [if_neg h2] at h
    by_cases h3 : Int.gcd n d ≠ 1
    · rw [if_pos h3] at h; exact absurd h (by decide)
    · exact ⟨by omega, by omega, by omega⟩
def PRes (o : Option AVal) (r : ARes) : Prop := match o with
  | some v => r = .ret v
  | none => r = .panic
/-- A quotient. -/
def quotO (a b c d : Int) : Option AVal := if c < 0 then prodO a b (-d) (-c) else prodO a b d c
def divR (a b c d : Int) : AVal := if checkQ a b = 0 ∧ checkQ c d = 0 ∧ c = 0 then .tup [qV 0 0, .lit (.int .i64 2)] else bothR a b c d (quotO a b c d)
end Go.Proofs
set_option linter.unusedSimpArgs false
set_option maxRecDepth 100000
namespace Go.Proofs
open Go.Hx
def cmpR (a b c d : Int) : Int := if (a < 0 ∧ ¬ c < 0) then -1 else if (¬ a < 0 ∧ c < 0) then 1 else if a.natAbs * d.natAbs = c.natAbs * b.natAbs then 0 else if (a.natAbs * d.natAbs < c.natAbs * b.natAbs ↔ 0 ≤ a) then -1 else 1
end Go.Proofs
set_option linter.unusedSimpArgs false
set_option maxRecDepth 100000
namespace Go.Proofs
open Go.Hx
/-- Which of two products is greater. -/
def cmpI (p q : Int) : Int := if p < q then -1 else if p = q then 0 else 1
def cmpV (a b c d : Int) : AVal := if checkQ a b = 0 ∧ checkQ c d = 0 then .tup [.lit (.int .i64 (cmpI (a * d) (c * b))), .lit (.int .i64 0)] else .tup [.lit (.int .i64 0), .lit (.int .i64 5)]
def floorV (a b : Int) : AVal := if checkQ a b = 0 then .tup [.lit (.int .i64 (a / b)), .lit (.int .i64 0)] else .tup [.lit (.int .i64 0), .lit (.int .i64 5)]
end Go.Proofs
