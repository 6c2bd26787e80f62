/- Own work: contracts. -/
import Derived.Test.YtemcnpldpoglmaaDoorConA
set_option linter.all false
set_option linter.unusedSimpArgs false
set_option maxRecDepth 100000
namespace Go.Hx
variable {P : Program} {G : Nat → Option (List AVal)} {Γ Γ' : Gam} {H H' : AHeap} {w w' : World}
theorem W.env {n : Nat} {rd : Option Nat} {Q : AX → St → Prop} {c : Code} {ρ : Env} {H : AHeap} (h : ∀ E, E = ρ → W P G n rd c Q ⟨E, H⟩) : W P G n rd c Q ⟨ρ, H⟩ := h ρ rfl
theorem blk_gen {b : Blk} (Φ : Blk → Prop) (h : ∀ B, B = b → Φ B) : Φ b := h b rfl
theorem Below.mono {n m : Nat} {v : AVal} (h : Below n v) (hm : n ≤ m) : Below m v := by
  induction h with
  | lit v => exact .lit v
  | vec h ih => exact .vec ih
  | vptr h ih => exact .vptr ih
  | agg h ih => exact .agg ih
  | tup h ih => exact .tup ih
  | clo h1 h2 ih1 ih2 => exact .clo ih1 ih2
  | own h => exact .own (by omega)
  | ptr h => exact .ptr (by omega)
  | yld h => exact .yld (by omega)
theorem BelowB.mono {n m : Nat} {b : Blk} (h : BelowB n b) (hm : n ≤ m) : BelowB m b := by
  cases b with
  | arr g e cells => exact fun i hi => (h i hi).mono hm
  | loop st pend n env ps asg body => exact fun t ht => (h t ht).mono hm
  | rsv => trivial
theorem clo_ext {H : AHeap} (hc : Clo H) {L : List Blk} (h : ∀ b, b ∈ L → BelowB (H.next + L.length) b) : Clo (ext H L) := by
  have key : ∀ id b, (ext H L).get id = some b → (id < H.next ∧ H.get id = some b) ∨ (id < H.next + L.length ∧ b ∈ L) := by
    intro id b hb
    by_cases h1 : id < H.next
    · rw [get_ext_old _ _ _ h1] at hb; exact .inl ⟨h1, hb⟩
    · by_cases h2 : id < H.next + L.length
      · have := get_ext H L (id - H.next) (by omega)
        rw [show H.next + (id - H.next) = id by omega, hb] at this
        exact .inr ⟨h2, List.mem_of_getElem? this.symm⟩
      · have : (ext H L).get id = H.get id := by unfold ext; simp only; rw [if_neg (by omega)]
        rw [this] at hb
        exact absurd (hc.lt _ _ hb) h1
  refine ⟨fun id b hb => ?_, fun id b hb => ?_⟩
  · rw [ext_next]; rcases key id b hb with ⟨h1, _⟩ | ⟨h1, _⟩ <;> omega
  · rw [ext_next]
    rcases key id b hb with ⟨_, h1⟩ | ⟨_, h1⟩
    · exact (hc.below _ _ h1).mono (by omega)
    · exact h b h1
theorem belowB_lits {n g : Nat} {e : TypeId} {cells : List AVal} (h : ∀ c, c ∈ cells → ∃ v, c = .lit v) : BelowB n (.arr g e cells) := fun i hi => by
  obtain ⟨v, hv⟩ := h _ (List.getElem_mem hi)
  rw [hv]; exact .lit v
theorem nilOf_agg (H : AHeap) (op : BinOp) (a : List AVal) (y : AVal) : nilOf H op (.agg a) y = none := by unfold nilOf; split <;> rfl
attribute [go_sem] nilOf_agg
theorem setAt_one {l : List AVal} {i : Nat} {x : AVal} (h : i < l.length) : setAt l i [x] = l.set i x := by
  unfold setAt
  rw [List.set_eq_take_append_cons_drop, if_pos h]
  simp
theorem Over.cutO {B H : AHeap} (h : Over B H) {n : Nat} (hn : B.next ≤ n) : Over B (H.cut n) := ⟨h.next, fun id hi => (cut_get (by omega)).trans (h.old id hi)⟩
end Go.Hx
namespace Go.Proofs
open Go.Hx
theorem get_ext0 (H : AHeap) (b : Blk) (L : List Blk) : (ext H (b :: L)).get H.next = some b := get_ext H (b :: L) 0 (by simp)
theorem ints_take (l : List Int) (n : Nat) : (ints l).take n = ints (l.take n) := by simp [ints]
theorem ints_drop (l : List Int) (n : Nat) : (ints l).drop n = ints (l.drop n) := by simp [ints]
theorem gcd_step (a b : Int) (ha : 0 ≤ a) (hb : 0 < b) : Int.gcd b (a % b) = Int.gcd b a := by
  obtain ⟨m, rfl⟩ := Int.eq_ofNat_of_zero_le ha
  obtain ⟨n, rfl⟩ := Int.eq_ofNat_of_zero_le (Int.le_of_lt hb)
  rw [← Int.natCast_emod]
  simp only [Int.gcd_natCast_natCast]
  rw [Nat.gcd_comm n m, ← Nat.mod_add_div m n]
  have := Nat.gcd_rec n m
  rw [Nat.mod_add_div]
  rw [Nat.gcd_comm m n, this, Nat.gcd_comm]
def vecV (l : List (List Int)) : AVal := .vec l.length (l.map vecI)
theorem vecV_cells (l : List (List Int)) : (vecV l).cells = [vecV l] := rfl
theorem vecV_one (l : List (List Int)) : (vecV l).one = true := rfl

end Go.Proofs
set_option linter.unusedSimpArgs false
namespace Go.Hx
variable {P : Program} {t : TypeId} {x y : Operand} {k k' : IntKind} {a b : Int}
theorem wrapU64 (n : Int) : IntKind.u64.wrap n = n % 18446744073709551616 := by simp [IntKind.wrap, IntKind.bits, IntKind.signed]
theorem bin_shr (hb : 0 ≤ b) : binA P .shr t x y (.lit (.int k a)) (.lit (.int k' b)) = some (.lit (.int k (a.fdiv (2 ^ (min b.toNat k.bits))))) := by
  have h : ¬ b < 0 := by omega
  simp [binA, AVal.toVal, eqGuard, binOp, Op.shift, h, pureRun, bind, Sem.bind, pure]
theorem bin_and : binA P .and t x y (.lit (.int k a)) (.lit (.int k b)) = some (.lit (.int k (k.wrap ((BitVec.ofInt k.bits a &&& BitVec.ofInt k.bits b).toNat : Nat)))) := by
  simp [binA, AVal.toVal, eqGuard, binOp, Op.intBits, pureRun, bind, Sem.bind, pure]
theorem land_mask (w : Nat) {a : Nat} {n : Nat} (ha : a < 2 ^ w) (hn : n ≤ w) (hw : 0 < w) : ((BitVec.ofInt w (a : Int) &&& BitVec.ofInt w ((2 ^ n - 1 : Nat) : Int)).toNat) = a % 2 ^ n := by
  have h1 : (2 : Nat) ^ n ≤ 2 ^ w := Nat.pow_le_pow_right (by decide) hn
  have h0 : 0 < (2 : Nat) ^ n := Nat.two_pow_pos n
  have e1 : (BitVec.ofInt w (a : Int)).toNat = a := by rw [BitVec.ofInt_natCast, BitVec.toNat_ofNat, Nat.mod_eq_of_lt ha]
  have e2 : (BitVec.ofInt w ((2 ^ n - 1 : Nat) : Int)).toNat = 2 ^ n - 1 := by rw [BitVec.ofInt_natCast, BitVec.toNat_ofNat, Nat.mod_eq_of_lt (by omega)]
  rw [BitVec.toNat_and, e1, e2, Nat.and_two_pow_sub_one_eq_mod]
/-- A number's low half. -/
theorem and_low (h : 0 ≤ a ∧ a < 18446744073709551616) : binA P .and t x y (.lit (.int .u64 a)) (.lit (.int .u64 4294967295)) = some (.lit (.int .u64 (a % 4294967296))) := by
  obtain ⟨n, rfl⟩ := Int.eq_ofNat_of_zero_le h.1
  rw [bin_and]
  have := land_mask 64 (a := n) (n := 32) (by omega) (by decide) (by decide)
  have e : (BitVec.ofInt (IntKind.bits .u64) (n : Int) &&& BitVec.ofInt (IntKind.bits .u64) 4294967295).toNat = n % 4294967296 := this
  rw [e, IntWalk.u64_in _ (by omega)]
  simp
theorem shr32 (h : 0 ≤ a ∧ a < 18446744073709551616) : binA P .shr t x y (.lit (.int .u64 a)) (.lit (.int k' 32)) = some (.lit (.int .u64 (a / 4294967296))) := by
  rw [bin_shr (by decide)]
  have e : a.fdiv (2 ^ (min (32 : Int).toNat (IntKind.bits .u64))) = a / 4294967296 := Int.fdiv_eq_ediv_of_nonneg a (by decide)
  rw [e]
theorem pureRun_bind {α β : Type} {s : Sem α} {f : α → Sem β} {a : α} (h : pureRun P s = some a) : pureRun P (s >>= f) = pureRun P (f a) := by
  induction s with
  | pure b => simp only [pureRun, Option.some.injEq] at h; subst h; rfl
  | program k ih => exact ih P h
  | mark m k ih => exact ih h
  | _ => simp [pureRun] at h
theorem equalIn_bool {t : TypeId} {a b : Bool} (n : Nat) (ht : P.underlying t = some .bool) : pureRun P (Op.equalIn (n + 1) t (.bool a) (.bool b)) = some (a == b) := by
  unfold Op.equalIn
  simp [underlying, program, ht, pureRun, bind, Sem.bind, pure]
theorem bin_eql_bool {t : TypeId} {x y : Operand} {a b : Bool} (ht : P.underlying t = some .bool) : binA P .eql t x y (.lit (.bool a)) (.lit (.bool b)) = some (.lit (.bool (a == b))) := by
  have h1 : (do eqGuard .eql t x y (.bool a) (.bool b); binOp .eql t (.bool a) (.bool b)) = (Op.equalIn (9999 + 1) t (.bool a) (.bool b) >>= fun r => pure (Value.bool r)) := rfl
  show (pureRun P _).map _ = _
  rw [h1, pureRun_bind (equalIn_bool 9999 ht)]
  rfl
theorem bin_neq_bool {t : TypeId} {x y : Operand} {a b : Bool} (ht : P.underlying t = some .bool) : binA P .neq t x y (.lit (.bool a)) (.lit (.bool b)) = some (.lit (.bool (!(a == b)))) := by
  have h1 : (do eqGuard .neq t x y (.bool a) (.bool b); binOp .neq t (.bool a) (.bool b)) = (Op.equalIn (9999 + 1) t (.bool a) (.bool b) >>= fun r => pure (Value.bool (!r))) := rfl
  show (pureRun P _).map _ = _
  rw [h1, pureRun_bind (equalIn_bool 9999 ht)]
  rfl
end Go.Hx
set_option maxRecDepth 100000
namespace Go.Proofs
open Go.Hx
theorem guardA_undef (w : Bool) : guardA w (some (.lit undef)) = some false := rfl

theorem size_spec (n : Int) (hn : -9223372036854775808 ≤ n ∧ n ≤ 9223372036854775807) (H : AHeap) (K : ARes → AHeap → Prop) (hK : K (.ret (.lit (.int .u64 (n.natAbs : Int)))) H) : ACall Tryd.prog G0 43 [.lit (.int .i64 n)] H K := by
  refine ACall.of_body (n := 10) (rs := [.tmp 2]) Tryd.func43 rfl rfl rfl (by decide) (by kernel_rfl) (by simp) ?_
  by_cases h : n < 0
  · have w1 : IntKind.u64.wrap n = n + 18446744073709551616 := by rw [wrapU64]; omega
    have w2 : IntKind.u64.wrap (0 - (n + 18446744073709551616)) = (n.natAbs : Int) := by rw [wrapU64]; omega
    simp (config := { maxSteps := 1000000 }) only [go_sem, Int.reduceToNat, Int.reduceLE, Int.reduceLT, Int.reduceAdd, Int.reduceSub, Int.reduceMul, Int.reduceEq, Int.reduceNe, Nat.reduceEqDiff, Nat.reducePow, Nat.reduceDiv, Nat.reduceMod, Nat.reduceAdd, Nat.reduceMul, Nat.reduceSub, Nat.reduceLT, Nat.reduceLeDiff, reduceIte, reduceCtorEq, h, w1, w2, appendA_U]
    exact FinV.mk (Nat.le_refl _) hK
  · have w1 : IntKind.u64.wrap n = (n.natAbs : Int) := by rw [wrapU64]; omega
    simp (config := { maxSteps := 1000000 }) only [go_sem, Int.reduceToNat, Int.reduceLE, Int.reduceLT, Int.reduceAdd, Int.reduceSub, Int.reduceMul, Int.reduceEq, Int.reduceNe, Nat.reduceEqDiff, Nat.reducePow, Nat.reduceDiv, Nat.reduceMod, Nat.reduceAdd, Nat.reduceMul, Nat.reduceSub, Nat.reduceLT, Nat.reduceLeDiff, reduceIte, reduceCtorEq, h, w1, appendA_U]
    exact FinV.mk (Nat.le_refl _) hK

theorem common_spec (a b : Int) (ha : 0 ≤ a) (hb : 0 ≤ b) (H : AHeap) (K : ARes → AHeap → Prop) (hK : K (.ret (.lit (.int .u64 (Int.gcd a b : Int)))) H) : ACall Tryd.prog G0 42 [.lit (.int .u64 a), .lit (.int .u64 b)] H K := by
  refine ACall.of_body (n := 12) (rs := [.tmp 4]) Tryd.func42 rfl rfl rfl (by decide) (by kernel_rfl) (by simp) ?_
  simp (config := { maxSteps := 1000000 }) only [go_sem, Int.reduceToNat, Int.reduceLE, Int.reduceLT, Int.reduceAdd, Int.reduceSub, Int.reduceMul, Int.reduceEq, Int.reduceNe, Nat.reduceEqDiff, Nat.reducePow, Nat.reduceDiv, Nat.reduceMod, Nat.reduceAdd, Nat.reduceMul, Nat.reduceSub, Nat.reduceLT, Nat.reduceLeDiff, reduceIte, reduceCtorEq, appendA_U]
  refine W.loop0 2019 (by rfl) (fun ρ H' => H' = H ∧ ∃ x y : Int, ρ 0 = .lit (.int .u64 x) ∧ ρ 1 = .lit (.int .u64 y) ∧ 0 ≤ x ∧ 0 ≤ y ∧ Int.gcd x y = Int.gcd a b) (fun ρ H => (iv (ρ 1)).toNat) ?_ ?_
  · simp (config := { maxSteps := 1000000 }) only [go_sem, Int.reduceToNat, Int.reduceLE, Int.reduceLT, Int.reduceAdd, Int.reduceSub, Int.reduceMul, Int.reduceEq, Int.reduceNe, Nat.reduceEqDiff, Nat.reducePow, Nat.reduceDiv, Nat.reduceMod, Nat.reduceAdd, Nat.reduceMul, Nat.reduceSub, Nat.reduceLT, Nat.reduceLeDiff, reduceIte, reduceCtorEq, appendA_U]
    exact ⟨a, b, rfl, rfl, ha, hb, rfl⟩
  rintro ρ H' ⟨rfl, x, y, h0, h1, hx, hy, hg⟩
  refine vc_sound _ _ _ (by rfl) ?_
  by_cases hz : y = 0
  · subst hz
    have e : x = (Int.gcd a b : Int) := by rw [← hg, Int.gcd_zero_right]; omega
    simp (config := { maxSteps := 1000000 }) only [go_sem, Int.reduceToNat, Int.reduceLE, Int.reduceLT, Int.reduceAdd, Int.reduceSub, Int.reduceMul, Int.reduceEq, Int.reduceNe, Nat.reduceEqDiff, Nat.reducePow, Nat.reduceDiv, Nat.reduceMod, Nat.reduceAdd, Nat.reduceMul, Nat.reduceSub, Nat.reduceLT, Nat.reduceLeDiff, reduceIte, reduceCtorEq, h0, h1, appendA_U]
    rw [e]
    exact FinV.mk (Nat.le_refl _) hK
  · have m1 : x.tmod y = x % y := Int.tmod_eq_emod_of_nonneg hx
    have m2 := Int.emod_nonneg x hz
    have m3 := Int.emod_lt_of_pos x (show 0 < y by omega)
    simp (config := { maxSteps := 1000000 }) only [go_sem, Int.reduceToNat, Int.reduceLE, Int.reduceLT, Int.reduceAdd, Int.reduceSub, Int.reduceMul, Int.reduceEq, Int.reduceNe, Nat.reduceEqDiff, Nat.reducePow, Nat.reduceDiv, Nat.reduceMod, Nat.reduceAdd, Nat.reduceMul, Nat.reduceSub, Nat.reduceLT, Nat.reduceLeDiff, reduceIte, reduceCtorEq, h0, h1, hz, appendA_U]
    refine W.draw 5 [0, 0, 0, 6, 3] Tryd.mixed (by kernel_rfl) (by kernel_rfl) ?_
    simp (config := { maxSteps := 1000000 }) only [go_sem, Int.reduceToNat, Int.reduceLE, Int.reduceLT, Int.reduceAdd, Int.reduceSub, Int.reduceMul, Int.reduceEq, Int.reduceNe, Nat.reduceEqDiff, Nat.reducePow, Nat.reduceDiv, Nat.reduceMod, Nat.reduceAdd, Nat.reduceMul, Nat.reduceSub, Nat.reduceLT, Nat.reduceLeDiff, reduceIte, reduceCtorEq, h0, h1, hz, m1, appendA_U]
    refine ⟨⟨y, x % y, rfl, rfl, hy, m2, ?_⟩, by omega⟩
    rw [← hg, Int.gcd_comm x y]
    exact gcd_step x y hx (by omega)

def maxN : Int := 4611686018427387903
/-- The error of a fraction. -/
def checkQ (n d : Int) : Int := if d < 1 ∨ d > maxN ∨ n < -maxN ∨ n > maxN then 5 else if Int.gcd n d ≠ 1 then 5 else 0
theorem gcd_abs (n d : Int) : Int.gcd (n.natAbs : Int) d = Int.gcd n d := by simp [Int.gcd]
theorem fcheck_spec (n d : Int) (hn : -9223372036854775808 ≤ n ∧ n ≤ 9223372036854775807) (hd : -9223372036854775808 ≤ d ∧ d ≤ 9223372036854775807) (H : AHeap) (K : ARes → AHeap → Prop) (hK : K (.ret (.lit (.int .i64 (checkQ n d)))) H) : ACall Tryd.prog G0 13 [qV n d] H K := by
  refine ACall.clo ⟨_, Tryd.func13, rfl, rfl⟩ fun hcl => ?_
  refine ACall.of_body (n := 29) (rs := [.tmp 2]) Tryd.func13 rfl rfl rfl (by decide) (by kernel_rfl) (by simp) ?_
  have bad : ∀ L, checkQ n d = 5 → FinV Tryd.prog G0 H K (.lit (.int .i64 5)) (ext H L) := fun L h => by
    rw [h] at hK
    exact FinV.drop G0_ok hcl (.lit _) hK
  by_cases h1 : d < 1
  · simp (config := { maxSteps := 1000000 }) only [go_sem, Int.reduceToNat, Int.reduceLE, Int.reduceLT, Int.reduceAdd, Int.reduceSub, Int.reduceMul, Int.reduceEq, Int.reduceNe, Nat.reduceEqDiff, Nat.reducePow, Nat.reduceDiv, Nat.reduceMod, Nat.reduceAdd, Nat.reduceMul, Nat.reduceSub, Nat.reduceLT, Nat.reduceLeDiff, reduceIte, reduceCtorEq, qV, h1, appendA_U]
    exact bad _ (by unfold checkQ; rw [if_pos (.inl h1)])
  by_cases h2 : 4611686018427387903 < d
  · simp (config := { maxSteps := 1000000 }) only [go_sem, Int.reduceToNat, Int.reduceLE, Int.reduceLT, Int.reduceAdd, Int.reduceSub, Int.reduceMul, Int.reduceEq, Int.reduceNe, Nat.reduceEqDiff, Nat.reducePow, Nat.reduceDiv, Nat.reduceMod, Nat.reduceAdd, Nat.reduceMul, Nat.reduceSub, Nat.reduceLT, Nat.reduceLeDiff, reduceIte, reduceCtorEq, qV, h1, h2, appendA_U]
    exact bad _ (by unfold checkQ; rw [if_pos (.inr (.inl h2))])
  by_cases h3 : n < -4611686018427387903
  · simp (config := { maxSteps := 1000000 }) only [go_sem, Int.reduceToNat, Int.reduceLE, Int.reduceLT, Int.reduceAdd, Int.reduceSub, Int.reduceMul, Int.reduceEq, Int.reduceNe, Nat.reduceEqDiff, Nat.reducePow, Nat.reduceDiv, Nat.reduceMod, Nat.reduceAdd, Nat.reduceMul, Nat.reduceSub, Nat.reduceLT, Nat.reduceLeDiff, reduceIte, reduceCtorEq, qV, h1, h2, h3, appendA_U]
    exact bad _ (by unfold checkQ; rw [if_pos (.inr (.inr (.inl h3)))])
  by_cases h4 : 4611686018427387903 < n
  · simp (config := { maxSteps := 1000000 }) only [go_sem, Int.reduceToNat, Int.reduceLE, Int.reduceLT, Int.reduceAdd, Int.reduceSub, Int.reduceMul, Int.reduceEq, Int.reduceNe, Nat.reduceEqDiff, Nat.reducePow, Nat.reduceDiv, Nat.reduceMod, Nat.reduceAdd, Nat.reduceMul, Nat.reduceSub, Nat.reduceLT, Nat.reduceLeDiff, reduceIte, reduceCtorEq, qV, h1, h2, h3, h4, appendA_U]
    exact bad _ (by unfold checkQ; rw [if_pos (.inr (.inr (.inr h4)))])
  simp (config := { maxSteps := 1000000 }) only [go_sem, Int.reduceToNat, Int.reduceLE, Int.reduceLT, Int.reduceAdd, Int.reduceSub, Int.reduceMul, Int.reduceEq, Int.reduceNe, Nat.reduceEqDiff, Nat.reducePow, Nat.reduceDiv, Nat.reduceMod, Nat.reduceAdd, Nat.reduceMul, Nat.reduceSub, Nat.reduceLT, Nat.reduceLeDiff, reduceIte, reduceCtorEq, qV, h1, h2, h3, h4, appendA_U]
  refine W.draw 6 [0, 1, 3, 0, 8, 24] Tryd.mixed (by kernel_rfl) (by kernel_rfl) ?_
  have w1 : IntKind.u64.wrap d = d := IntWalk.u64_in d (by omega)
  simp (config := { maxSteps := 1000000 }) only [go_sem, Int.reduceToNat, Int.reduceLE, Int.reduceLT, Int.reduceAdd, Int.reduceSub, Int.reduceMul, Int.reduceEq, Int.reduceNe, Nat.reduceEqDiff, Nat.reducePow, Nat.reduceDiv, Nat.reduceMod, Nat.reduceAdd, Nat.reduceMul, Nat.reduceSub, Nat.reduceLT, Nat.reduceLeDiff, reduceIte, reduceCtorEq, qV, h1, h2, h3, h4, w1, appendA_U]
  refine ⟨_, [], PCall.pure (fun H2 => size_spec n hn H2 _ ⟨rfl, rfl⟩), ?_⟩
  simp (config := { maxSteps := 1000000 }) only [go_sem, Int.reduceToNat, Int.reduceLE, Int.reduceLT, Int.reduceAdd, Int.reduceSub, Int.reduceMul, Int.reduceEq, Int.reduceNe, Nat.reduceEqDiff, Nat.reducePow, Nat.reduceDiv, Nat.reduceMod, Nat.reduceAdd, Nat.reduceMul, Nat.reduceSub, Nat.reduceLT, Nat.reduceLeDiff, reduceIte, reduceCtorEq, qV, h1, h2, h3, h4, w1, appendA_U]
  refine AApply.clo (common_spec _ d (by omega) (by omega) _ _ ⟨trivial, ?_⟩)
  rw [gcd_abs]
  have ck : checkQ n d = if Int.gcd n d ≠ 1 then 5 else 0 := by unfold checkQ; rw [if_neg (by unfold maxN; omega)]
  by_cases hg : Int.gcd n d = 1
  · have hg' : ((Int.gcd n d : Nat) : Int) = 1 := by omega
    simp (config := { maxSteps := 1000000 }) only [go_sem, Int.reduceToNat, Int.reduceLE, Int.reduceLT, Int.reduceAdd, Int.reduceSub, Int.reduceMul, Int.reduceEq, Int.reduceNe, Nat.reduceEqDiff, Nat.reducePow, Nat.reduceDiv, Nat.reduceMod, Nat.reduceAdd, Nat.reduceMul, Nat.reduceSub, Nat.reduceLT, Nat.reduceLeDiff, reduceIte, reduceCtorEq, hg', appendA_U]
    rw [ck, if_neg (by simpa using hg)] at hK
    exact FinV.drop G0_ok hcl (.lit _) hK
  · have hg' : ¬ ((Int.gcd n d : Nat) : Int) = 1 := by omega
    simp (config := { maxSteps := 1000000 }) only [go_sem, Int.reduceToNat, Int.reduceLE, Int.reduceLT, Int.reduceAdd, Int.reduceSub, Int.reduceMul, Int.reduceEq, Int.reduceNe, Nat.reduceEqDiff, Nat.reducePow, Nat.reduceDiv, Nat.reduceMod, Nat.reduceAdd, Nat.reduceMul, Nat.reduceSub, Nat.reduceLT, Nat.reduceLeDiff, reduceIte, reduceCtorEq, hg', appendA_U]
    exact bad _ (by rw [ck, if_pos hg])

/-- Two halves of a number. -/
def wideV (n : Nat) : AVal := .agg [.lit (.int .u64 (n / 18446744073709551616 : Nat)), .lit (.int .u64 (n % 18446744073709551616 : Nat))]
theorem mulHalves {p q r w0 t w1 hi xy B : Nat} (hB : 0 < B) (hxy : xy = r * (B * B) + (p + q) * B + w0) (ht : t = p + w0 / B) (hw1 : w1 = t % B + q) (hhi : hi = r + t / B + w1 / B) :
    xy / (B * B) = hi := by
  have e0 := Nat.div_add_mod w0 B
  have l0 := Nat.mod_lt w0 hB
  have e1 := Nat.div_add_mod t B
  have e2 := Nat.div_add_mod w1 B
  have l2 := Nat.mod_lt w1 hB
  generalize w0 / B = c0 at *
  generalize w0 % B = r0 at *
  generalize t / B = c1 at *
  generalize t % B = r1 at *
  generalize w1 / B = c2 at *
  generalize w1 % B = r2 at *
  have key : xy = hi * (B * B) + (r2 * B + r0) := by
    subst hhi
    have a1 : p * B = t * B - c0 * B := by rw [ht, Nat.add_mul]; omega
    have a2 : q * B = w1 * B - r1 * B := by rw [hw1, Nat.add_mul]; omega
    have a3 : t * B = c1 * (B * B) + r1 * B := by rw [← e1, Nat.add_mul]; congr 1; ac_rfl
    have a4 : w1 * B = c2 * (B * B) + r2 * B := by rw [← e2, Nat.add_mul]; congr 1; ac_rfl
    have a5 : c0 * B ≤ t * B := Nat.mul_le_mul_right _ (by omega)
    have a6 : r1 * B ≤ w1 * B := Nat.mul_le_mul_right _ (by omega)
    have a7 : w0 = c0 * B + r0 := by rw [← e0, Nat.mul_comm]
    rw [hxy, Nat.add_mul, Nat.add_mul, Nat.add_mul]
    omega
  have small : r2 * B + r0 < B * B := by
    have : r2 * B + B ≤ B * B := by rw [← Nat.succ_mul]; exact Nat.mul_le_mul_right _ l2
    omega
  rw [key]
  exact Nat.div_eq_of_lt_le (Nat.le_add_right _ _) (by rw [Nat.add_mul, Nat.one_mul]; omega)
set_option maxHeartbeats 2000000 in
theorem mul64_spec (x y : Nat) (hx : x < 18446744073709551616) (hy : y < 18446744073709551616) (H : AHeap) (K : ARes → AHeap → Prop)
    (hK : K (.ret (.tup [.lit (.int .u64 (x * y / 18446744073709551616 : Nat)), .lit (.int .u64 (x * y % 18446744073709551616 : Nat))])) H) : ACall Tryd.prog G0 81 [.lit (.int .u64 x), .lit (.int .u64 y)] H K := by
  obtain ⟨x1, x0, hxe, hx0, hx1⟩ : ∃ x1 x0 : Nat, x = x1 * 4294967296 + x0 ∧ x0 < 4294967296 ∧ x1 < 4294967296 := ⟨x / 4294967296, x % 4294967296, by omega, by omega, by omega⟩
  obtain ⟨y1, y0, hye, hy0, hy1⟩ : ∃ y1 y0 : Nat, y = y1 * 4294967296 + y0 ∧ y0 < 4294967296 ∧ y1 < 4294967296 := ⟨y / 4294967296, y % 4294967296, by omega, by omega, by omega⟩
  have bnd : ∀ a b : Nat, a < 4294967296 → b < 4294967296 → a * b ≤ 18446744065119617025 := fun a b ha hb => by
    have := Nat.mul_le_mul (show a ≤ 4294967295 by omega) (show b ≤ 4294967295 by omega)
    omega
  obtain ⟨w0, hw0⟩ : ∃ w0, w0 = x0 * y0 := ⟨_, rfl⟩
  have b0 := bnd x0 y0 hx0 hy0
  obtain ⟨p, hp⟩ : ∃ p, p = x1 * y0 := ⟨_, rfl⟩
  have b1 := bnd x1 y0 hx1 hy0
  obtain ⟨q, hq⟩ : ∃ q, q = x0 * y1 := ⟨_, rfl⟩
  have b2 := bnd x0 y1 hx0 hy1
  obtain ⟨r, hr⟩ : ∃ r, r = x1 * y1 := ⟨_, rfl⟩
  have b3 := bnd x1 y1 hx1 hy1
  have hxy : x * y = r * 18446744073709551616 + (p + q) * 4294967296 + w0 := by
    rw [hxe, hye, hr, hp, hq, hw0, Nat.add_mul, Nat.mul_add, Nat.mul_add, Nat.add_mul]
    have e1 : x1 * 4294967296 * (y1 * 4294967296) = x1 * y1 * 18446744073709551616 := by
      rw [Nat.mul_mul_mul_comm]
    have e2 : x1 * 4294967296 * y0 = x1 * y0 * 4294967296 := by ac_rfl
    have e3 : x0 * (y1 * 4294967296) = x0 * y1 * 4294967296 := by ac_rfl
    rw [e1, e2, e3]; omega
  have m1 : ((x : Int) % 4294967296) = (x0 : Nat) := by omega
  have m2 : ((x : Int) / 4294967296) = (x1 : Nat) := by omega
  have m3 : ((y : Int) % 4294967296) = (y0 : Nat) := by omega
  have m4 : ((y : Int) / 4294967296) = (y1 : Nat) := by omega
  have g1 : ((w0 : Int)) = (x0 : Int) * (y0 : Int) := by rw [hw0, Int.natCast_mul]
  have g2 : ((p : Int)) = (x1 : Int) * (y0 : Int) := by rw [hp, Int.natCast_mul]
  have g3 : ((q : Int)) = (x0 : Int) * (y1 : Int) := by rw [hq, Int.natCast_mul]
  have g4 : ((r : Int)) = (x1 : Int) * (y1 : Int) := by rw [hr, Int.natCast_mul]
  obtain ⟨t, ht⟩ : ∃ t : Nat, t = p + w0 / 4294967296 := ⟨_, rfl⟩
  obtain ⟨w1, hw1⟩ : ∃ w1 : Nat, w1 = t % 4294967296 + q := ⟨_, rfl⟩
  obtain ⟨hi, hhi⟩ : ∃ hi : Nat, hi = r + t / 4294967296 + w1 / 4294967296 := ⟨_, rfl⟩
  have hBB : (4294967296 : Nat) * 4294967296 = 18446744073709551616 := by decide
  have r1' : x * y / 18446744073709551616 = hi := by
    have h2 : x * y = r * (4294967296 * 4294967296) + (p + q) * 4294967296 + w0 := by rw [hBB]; exact hxy
    have := mulHalves (by decide) h2 ht hw1 hhi
    rw [hBB] at this
    exact this
  have B0 : ∀ n : Nat, n < 18446744073709551616 → (0 ≤ (n : Int) ∧ (n : Int) < 18446744073709551616) := fun n h => by omega
  have kx := B0 x hx
  have ky := B0 y hy
  have kw := B0 w0 (by omega)
  have kt := B0 t (by omega)
  have kv := B0 w1 (by omega)
  have v1 := IntWalk.u64_in (w0 : Int) (by omega)
  have v2 := IntWalk.u64_in (p : Int) (by omega)
  have v3 := IntWalk.u64_in (q : Int) (by omega)
  have v4 := IntWalk.u64_in (r : Int) (by omega)
  have s1 : (p : Int) + (w0 : Int) / 4294967296 = (t : Int) := by omega
  have s2 : (t : Int) % 4294967296 + (q : Int) = (w1 : Int) := by omega
  have v5 := IntWalk.u64_in (t : Int) (by omega)
  have v6 := IntWalk.u64_in (w1 : Int) (by omega)
  have s3 : (r : Int) + (t : Int) / 4294967296 = ((r + t / 4294967296 : Nat) : Int) := by omega
  have v7 := IntWalk.u64_in ((r + t / 4294967296 : Nat) : Int) (by omega)
  have s4 : ((r + t / 4294967296 : Nat) : Int) + (w1 : Int) / 4294967296 = (hi : Int) := by omega
  have v8 := IntWalk.u64_in (hi : Int) (by omega)
  have s5 : IntKind.u64.wrap ((x : Int) * (y : Int)) = ((x * y % 18446744073709551616 : Nat) : Int) := by rw [wrapU64, ← Int.natCast_mul]; omega
  rw [r1'] at hK
  refine ACall.of_bodyW (n := 51) (rs := [.tmp 4, .tmp 5]) Tryd.func81 rfl rfl rfl (by decide) (by simp) ?_
  refine W.seq (vc_sound _ _ _ (by rfl) ?_)
  simp (config := { maxSteps := 1000000 }) only [go_sem, Int.reduceToNat, Int.reduceLE, Int.reduceLT, Int.reduceAdd, Int.reduceSub, Int.reduceMul, Int.reduceEq, Int.reduceNe, Nat.reduceEqDiff, Nat.reducePow, Nat.reduceDiv, Nat.reduceMod, Nat.reduceAdd, Nat.reduceMul, Nat.reduceSub, Nat.reduceLT, Nat.reduceLeDiff, reduceIte, reduceCtorEq, appendA_U]
  refine W.env fun E0 hE0 => ?_
  have a0_0 : E0 0 = .lit (.int .u64 (x : Nat)) := by rw [hE0]; rfl
  have a0_1 : E0 1 = .lit (.int .u64 (y : Nat)) := by rw [hE0]; rfl
  clear hE0
  refine W.seq (vc_sound _ _ _ (by rfl) ?_)
  simp (config := { maxSteps := 1000000 }) only [go_sem, Int.reduceToNat, Int.reduceLE, Int.reduceLT, Int.reduceAdd, Int.reduceSub, Int.reduceMul, Int.reduceEq, Int.reduceNe, Nat.reduceEqDiff, Nat.reducePow, Nat.reduceDiv, Nat.reduceMod, Nat.reduceAdd, Nat.reduceMul, Nat.reduceSub, Nat.reduceLT, Nat.reduceLeDiff, reduceIte, reduceCtorEq, a0_0, a0_1, m1, and_low, kx, appendA_U]
  refine W.env fun E1 hE1 => ?_
  have a1_0 : E1 0 = .lit (.int .u64 (x : Nat)) := by rw [hE1]; exact a0_0
  have a1_1 : E1 1 = .lit (.int .u64 (y : Nat)) := by rw [hE1]; exact a0_1
  have a1_6 : E1 6 = .lit (.int .u64 (x0 : Nat)) := by rw [hE1]; rfl
  clear hE1
  refine W.seq (vc_sound _ _ _ (by rfl) ?_)
  simp (config := { maxSteps := 1000000 }) only [go_sem, Int.reduceToNat, Int.reduceLE, Int.reduceLT, Int.reduceAdd, Int.reduceSub, Int.reduceMul, Int.reduceEq, Int.reduceNe, Nat.reduceEqDiff, Nat.reducePow, Nat.reduceDiv, Nat.reduceMod, Nat.reduceAdd, Nat.reduceMul, Nat.reduceSub, Nat.reduceLT, Nat.reduceLeDiff, reduceIte, reduceCtorEq, a1_0, a1_1, a1_6, m2, shr32, kx, appendA_U]
  refine W.env fun E2 hE2 => ?_
  have a2_0 : E2 0 = .lit (.int .u64 (x : Nat)) := by rw [hE2]; exact a1_0
  have a2_1 : E2 1 = .lit (.int .u64 (y : Nat)) := by rw [hE2]; exact a1_1
  have a2_6 : E2 6 = .lit (.int .u64 (x0 : Nat)) := by rw [hE2]; exact a1_6
  have a2_7 : E2 7 = .lit (.int .u64 (x1 : Nat)) := by rw [hE2]; rfl
  clear hE2
  refine W.seq (vc_sound _ _ _ (by rfl) ?_)
  simp (config := { maxSteps := 1000000 }) only [go_sem, Int.reduceToNat, Int.reduceLE, Int.reduceLT, Int.reduceAdd, Int.reduceSub, Int.reduceMul, Int.reduceEq, Int.reduceNe, Nat.reduceEqDiff, Nat.reducePow, Nat.reduceDiv, Nat.reduceMod, Nat.reduceAdd, Nat.reduceMul, Nat.reduceSub, Nat.reduceLT, Nat.reduceLeDiff, reduceIte, reduceCtorEq, a2_0, a2_1, a2_6, a2_7, m3, and_low, ky, appendA_U]
  refine W.env fun E3 hE3 => ?_
  have a3_0 : E3 0 = .lit (.int .u64 (x : Nat)) := by rw [hE3]; exact a2_0
  have a3_1 : E3 1 = .lit (.int .u64 (y : Nat)) := by rw [hE3]; exact a2_1
  have a3_6 : E3 6 = .lit (.int .u64 (x0 : Nat)) := by rw [hE3]; exact a2_6
  have a3_7 : E3 7 = .lit (.int .u64 (x1 : Nat)) := by rw [hE3]; exact a2_7
  have a3_8 : E3 8 = .lit (.int .u64 (y0 : Nat)) := by rw [hE3]; rfl
  clear hE3
  refine W.seq (vc_sound _ _ _ (by rfl) ?_)
  simp (config := { maxSteps := 1000000 }) only [go_sem, Int.reduceToNat, Int.reduceLE, Int.reduceLT, Int.reduceAdd, Int.reduceSub, Int.reduceMul, Int.reduceEq, Int.reduceNe, Nat.reduceEqDiff, Nat.reducePow, Nat.reduceDiv, Nat.reduceMod, Nat.reduceAdd, Nat.reduceMul, Nat.reduceSub, Nat.reduceLT, Nat.reduceLeDiff, reduceIte, reduceCtorEq, a3_0, a3_1, a3_6, a3_7, a3_8, m4, shr32, ky, appendA_U]
  refine W.env fun E4 hE4 => ?_
  have a4_0 : E4 0 = .lit (.int .u64 (x : Nat)) := by rw [hE4]; exact a3_0
  have a4_1 : E4 1 = .lit (.int .u64 (y : Nat)) := by rw [hE4]; exact a3_1
  have a4_6 : E4 6 = .lit (.int .u64 (x0 : Nat)) := by rw [hE4]; exact a3_6
  have a4_7 : E4 7 = .lit (.int .u64 (x1 : Nat)) := by rw [hE4]; exact a3_7
  have a4_8 : E4 8 = .lit (.int .u64 (y0 : Nat)) := by rw [hE4]; exact a3_8
  have a4_9 : E4 9 = .lit (.int .u64 (y1 : Nat)) := by rw [hE4]; rfl
  clear hE4
  refine W.seq (vc_sound _ _ _ (by rfl) ?_)
  simp (config := { maxSteps := 1000000 }) only [go_sem, Int.reduceToNat, Int.reduceLE, Int.reduceLT, Int.reduceAdd, Int.reduceSub, Int.reduceMul, Int.reduceEq, Int.reduceNe, Nat.reduceEqDiff, Nat.reducePow, Nat.reduceDiv, Nat.reduceMod, Nat.reduceAdd, Nat.reduceMul, Nat.reduceSub, Nat.reduceLT, Nat.reduceLeDiff, reduceIte, reduceCtorEq, a4_0, a4_1, a4_6, a4_7, a4_8, a4_9, ← g1, v1, appendA_U]
  refine W.env fun E5 hE5 => ?_
  have a5_0 : E5 0 = .lit (.int .u64 (x : Nat)) := by rw [hE5]; exact a4_0
  have a5_1 : E5 1 = .lit (.int .u64 (y : Nat)) := by rw [hE5]; exact a4_1
  have a5_6 : E5 6 = .lit (.int .u64 (x0 : Nat)) := by rw [hE5]; exact a4_6
  have a5_7 : E5 7 = .lit (.int .u64 (x1 : Nat)) := by rw [hE5]; exact a4_7
  have a5_8 : E5 8 = .lit (.int .u64 (y0 : Nat)) := by rw [hE5]; exact a4_8
  have a5_9 : E5 9 = .lit (.int .u64 (y1 : Nat)) := by rw [hE5]; exact a4_9
  have a5_10 : E5 10 = .lit (.int .u64 (w0 : Nat)) := by rw [hE5]; rfl
  clear hE5
  refine W.seq (vc_sound _ _ _ (by rfl) ?_)
  simp (config := { maxSteps := 1000000 }) only [go_sem, Int.reduceToNat, Int.reduceLE, Int.reduceLT, Int.reduceAdd, Int.reduceSub, Int.reduceMul, Int.reduceEq, Int.reduceNe, Nat.reduceEqDiff, Nat.reducePow, Nat.reduceDiv, Nat.reduceMod, Nat.reduceAdd, Nat.reduceMul, Nat.reduceSub, Nat.reduceLT, Nat.reduceLeDiff, reduceIte, reduceCtorEq, a5_0, a5_1, a5_6, a5_7, a5_8, a5_9, a5_10, ← g2, v2, shr32, kw, s1, v5, appendA_U]
  refine W.env fun E6 hE6 => ?_
  have a6_0 : E6 0 = .lit (.int .u64 (x : Nat)) := by rw [hE6]; exact a5_0
  have a6_1 : E6 1 = .lit (.int .u64 (y : Nat)) := by rw [hE6]; exact a5_1
  have a6_6 : E6 6 = .lit (.int .u64 (x0 : Nat)) := by rw [hE6]; exact a5_6
  have a6_7 : E6 7 = .lit (.int .u64 (x1 : Nat)) := by rw [hE6]; exact a5_7
  have a6_8 : E6 8 = .lit (.int .u64 (y0 : Nat)) := by rw [hE6]; exact a5_8
  have a6_9 : E6 9 = .lit (.int .u64 (y1 : Nat)) := by rw [hE6]; exact a5_9
  have a6_10 : E6 10 = .lit (.int .u64 (w0 : Nat)) := by rw [hE6]; exact a5_10
  have a6_11 : E6 11 = .lit (.int .u64 (t : Nat)) := by rw [hE6]; rfl
  clear hE6
  refine W.seq (vc_sound _ _ _ (by rfl) ?_)
  simp (config := { maxSteps := 1000000 }) only [go_sem, Int.reduceToNat, Int.reduceLE, Int.reduceLT, Int.reduceAdd, Int.reduceSub, Int.reduceMul, Int.reduceEq, Int.reduceNe, Nat.reduceEqDiff, Nat.reducePow, Nat.reduceDiv, Nat.reduceMod, Nat.reduceAdd, Nat.reduceMul, Nat.reduceSub, Nat.reduceLT, Nat.reduceLeDiff, reduceIte, reduceCtorEq, a6_0, a6_1, a6_6, a6_7, a6_8, a6_9, a6_10, a6_11, and_low, kt, appendA_U]
  refine W.env fun E7 hE7 => ?_
  have a7_0 : E7 0 = .lit (.int .u64 (x : Nat)) := by rw [hE7]; exact a6_0
  have a7_1 : E7 1 = .lit (.int .u64 (y : Nat)) := by rw [hE7]; exact a6_1
  have a7_6 : E7 6 = .lit (.int .u64 (x0 : Nat)) := by rw [hE7]; exact a6_6
  have a7_7 : E7 7 = .lit (.int .u64 (x1 : Nat)) := by rw [hE7]; exact a6_7
  have a7_8 : E7 8 = .lit (.int .u64 (y0 : Nat)) := by rw [hE7]; exact a6_8
  have a7_9 : E7 9 = .lit (.int .u64 (y1 : Nat)) := by rw [hE7]; exact a6_9
  have a7_10 : E7 10 = .lit (.int .u64 (w0 : Nat)) := by rw [hE7]; exact a6_10
  have a7_11 : E7 11 = .lit (.int .u64 (t : Nat)) := by rw [hE7]; exact a6_11
  have a7_12 : E7 12 = .lit (.int .u64 ((t : Int) % 4294967296)) := by rw [hE7]; rfl
  clear hE7
  refine W.seq (vc_sound _ _ _ (by rfl) ?_)
  simp (config := { maxSteps := 1000000 }) only [go_sem, Int.reduceToNat, Int.reduceLE, Int.reduceLT, Int.reduceAdd, Int.reduceSub, Int.reduceMul, Int.reduceEq, Int.reduceNe, Nat.reduceEqDiff, Nat.reducePow, Nat.reduceDiv, Nat.reduceMod, Nat.reduceAdd, Nat.reduceMul, Nat.reduceSub, Nat.reduceLT, Nat.reduceLeDiff, reduceIte, reduceCtorEq, a7_0, a7_1, a7_6, a7_7, a7_8, a7_9, a7_10, a7_11, a7_12, shr32, kt, appendA_U]
  refine W.env fun E8 hE8 => ?_
  have a8_0 : E8 0 = .lit (.int .u64 (x : Nat)) := by rw [hE8]; exact a7_0
  have a8_1 : E8 1 = .lit (.int .u64 (y : Nat)) := by rw [hE8]; exact a7_1
  have a8_6 : E8 6 = .lit (.int .u64 (x0 : Nat)) := by rw [hE8]; exact a7_6
  have a8_7 : E8 7 = .lit (.int .u64 (x1 : Nat)) := by rw [hE8]; exact a7_7
  have a8_8 : E8 8 = .lit (.int .u64 (y0 : Nat)) := by rw [hE8]; exact a7_8
  have a8_9 : E8 9 = .lit (.int .u64 (y1 : Nat)) := by rw [hE8]; exact a7_9
  have a8_10 : E8 10 = .lit (.int .u64 (w0 : Nat)) := by rw [hE8]; exact a7_10
  have a8_11 : E8 11 = .lit (.int .u64 (t : Nat)) := by rw [hE8]; exact a7_11
  have a8_12 : E8 12 = .lit (.int .u64 ((t : Int) % 4294967296)) := by rw [hE8]; exact a7_12
  have a8_13 : E8 13 = .lit (.int .u64 ((t : Int) / 4294967296)) := by rw [hE8]; rfl
  clear hE8
  refine W.seq (vc_sound _ _ _ (by rfl) ?_)
  simp (config := { maxSteps := 1000000 }) only [go_sem, Int.reduceToNat, Int.reduceLE, Int.reduceLT, Int.reduceAdd, Int.reduceSub, Int.reduceMul, Int.reduceEq, Int.reduceNe, Nat.reduceEqDiff, Nat.reducePow, Nat.reduceDiv, Nat.reduceMod, Nat.reduceAdd, Nat.reduceMul, Nat.reduceSub, Nat.reduceLT, Nat.reduceLeDiff, reduceIte, reduceCtorEq, a8_0, a8_1, a8_6, a8_7, a8_8, a8_9, a8_10, a8_11, a8_12, a8_13, ← g3, v3, s2, v6, appendA_U]
  refine W.env fun E9 hE9 => ?_
  have a9_0 : E9 0 = .lit (.int .u64 (x : Nat)) := by rw [hE9]; exact a8_0
  have a9_1 : E9 1 = .lit (.int .u64 (y : Nat)) := by rw [hE9]; exact a8_1
  have a9_6 : E9 6 = .lit (.int .u64 (x0 : Nat)) := by rw [hE9]; exact a8_6
  have a9_7 : E9 7 = .lit (.int .u64 (x1 : Nat)) := by rw [hE9]; exact a8_7
  have a9_8 : E9 8 = .lit (.int .u64 (y0 : Nat)) := by rw [hE9]; exact a8_8
  have a9_9 : E9 9 = .lit (.int .u64 (y1 : Nat)) := by rw [hE9]; exact a8_9
  have a9_10 : E9 10 = .lit (.int .u64 (w0 : Nat)) := by rw [hE9]; exact a8_10
  have a9_11 : E9 11 = .lit (.int .u64 (t : Nat)) := by rw [hE9]; exact a8_11
  have a9_12 : E9 12 = .lit (.int .u64 (w1 : Nat)) := by rw [hE9]; rfl
  have a9_13 : E9 13 = .lit (.int .u64 ((t : Int) / 4294967296)) := by rw [hE9]; exact a8_13
  clear hE9
  refine W.seq (vc_sound _ _ _ (by rfl) ?_)
  simp (config := { maxSteps := 1000000 }) only [go_sem, Int.reduceToNat, Int.reduceLE, Int.reduceLT, Int.reduceAdd, Int.reduceSub, Int.reduceMul, Int.reduceEq, Int.reduceNe, Nat.reduceEqDiff, Nat.reducePow, Nat.reduceDiv, Nat.reduceMod, Nat.reduceAdd, Nat.reduceMul, Nat.reduceSub, Nat.reduceLT, Nat.reduceLeDiff, reduceIte, reduceCtorEq, a9_0, a9_1, a9_6, a9_7, a9_8, a9_9, a9_10, a9_11, a9_12, a9_13, ← g4, v4, shr32, kv, s3, v7, s4, v8, appendA_U]
  refine W.env fun E10 hE10 => ?_
  have a10_0 : E10 0 = .lit (.int .u64 (x : Nat)) := by rw [hE10]; exact a9_0
  have a10_1 : E10 1 = .lit (.int .u64 (y : Nat)) := by rw [hE10]; exact a9_1
  have a10_6 : E10 6 = .lit (.int .u64 (x0 : Nat)) := by rw [hE10]; exact a9_6
  have a10_7 : E10 7 = .lit (.int .u64 (x1 : Nat)) := by rw [hE10]; exact a9_7
  have a10_8 : E10 8 = .lit (.int .u64 (y0 : Nat)) := by rw [hE10]; exact a9_8
  have a10_9 : E10 9 = .lit (.int .u64 (y1 : Nat)) := by rw [hE10]; exact a9_9
  have a10_10 : E10 10 = .lit (.int .u64 (w0 : Nat)) := by rw [hE10]; exact a9_10
  have a10_11 : E10 11 = .lit (.int .u64 (t : Nat)) := by rw [hE10]; exact a9_11
  have a10_12 : E10 12 = .lit (.int .u64 (w1 : Nat)) := by rw [hE10]; exact a9_12
  have a10_13 : E10 13 = .lit (.int .u64 ((t : Int) / 4294967296)) := by rw [hE10]; exact a9_13
  have a10_4 : E10 4 = .lit (.int .u64 (hi : Nat)) := by rw [hE10]; rfl
  clear hE10
  refine W.seq (vc_sound _ _ _ (by rfl) ?_)
  simp (config := { maxSteps := 1000000 }) only [go_sem, Int.reduceToNat, Int.reduceLE, Int.reduceLT, Int.reduceAdd, Int.reduceSub, Int.reduceMul, Int.reduceEq, Int.reduceNe, Nat.reduceEqDiff, Nat.reducePow, Nat.reduceDiv, Nat.reduceMod, Nat.reduceAdd, Nat.reduceMul, Nat.reduceSub, Nat.reduceLT, Nat.reduceLeDiff, reduceIte, reduceCtorEq, a10_0, a10_1, a10_6, a10_7, a10_8, a10_9, a10_10, a10_11, a10_12, a10_13, a10_4, s5, appendA_U]
  refine W.env fun E11 hE11 => ?_
  have a11_0 : E11 0 = .lit (.int .u64 (x : Nat)) := by rw [hE11]; exact a10_0
  have a11_1 : E11 1 = .lit (.int .u64 (y : Nat)) := by rw [hE11]; exact a10_1
  have a11_6 : E11 6 = .lit (.int .u64 (x0 : Nat)) := by rw [hE11]; exact a10_6
  have a11_7 : E11 7 = .lit (.int .u64 (x1 : Nat)) := by rw [hE11]; exact a10_7
  have a11_8 : E11 8 = .lit (.int .u64 (y0 : Nat)) := by rw [hE11]; exact a10_8
  have a11_9 : E11 9 = .lit (.int .u64 (y1 : Nat)) := by rw [hE11]; exact a10_9
  have a11_10 : E11 10 = .lit (.int .u64 (w0 : Nat)) := by rw [hE11]; exact a10_10
  have a11_11 : E11 11 = .lit (.int .u64 (t : Nat)) := by rw [hE11]; exact a10_11
  have a11_12 : E11 12 = .lit (.int .u64 (w1 : Nat)) := by rw [hE11]; exact a10_12
  have a11_13 : E11 13 = .lit (.int .u64 ((t : Int) / 4294967296)) := by rw [hE11]; exact a10_13
  have a11_4 : E11 4 = .lit (.int .u64 (hi : Nat)) := by rw [hE11]; exact a10_4
  have a11_5 : E11 5 = .lit (.int .u64 ((x * y % 18446744073709551616 : Nat) : Int)) := by rw [hE11]; rfl
  clear hE11
  refine vc_sound _ _ _ (by rfl) ?_
  simp (config := { maxSteps := 1000000 }) only [go_sem, Int.reduceToNat, Int.reduceLE, Int.reduceLT, Int.reduceAdd, Int.reduceSub, Int.reduceMul, Int.reduceEq, Int.reduceNe, Nat.reduceEqDiff, Nat.reducePow, Nat.reduceDiv, Nat.reduceMod, Nat.reduceAdd, Nat.reduceMul, Nat.reduceSub, Nat.reduceLT, Nat.reduceLeDiff, reduceIte, reduceCtorEq, a11_4, a11_5, appendA_U]
  exact FinV.mk (Nat.le_refl _) hK
theorem times_spec (x y : Nat) (hx : x < 18446744073709551616) (hy : y < 18446744073709551616) (H : AHeap) (K : ARes → AHeap → Prop) (hK : K (.ret (wideV (x * y))) H) : ACall Tryd.prog G0 61 [.lit (.int .u64 x), .lit (.int .u64 y)] H K := by
  refine ACall.clo ⟨_, Tryd.func61, rfl, rfl⟩ fun hcl => ?_
  refine ACall.of_body (n := 16) (rs := [.cell 4 79]) Tryd.func61 rfl rfl rfl (by decide) (by kernel_rfl) (by simp) ?_
  simp (config := { maxSteps := 1000000 }) only [go_sem, Int.reduceToNat, Int.reduceLE, Int.reduceLT, Int.reduceAdd, Int.reduceSub, Int.reduceMul, Int.reduceEq, Int.reduceNe, Nat.reduceEqDiff, Nat.reducePow, Nat.reduceDiv, Nat.reduceMod, Nat.reduceAdd, Nat.reduceMul, Nat.reduceSub, Nat.reduceLT, Nat.reduceLeDiff, reduceIte, reduceCtorEq, appendA_U]
  refine AApply.clo (mul64_spec x y hx hy _ _ ⟨trivial, ?_⟩)
  simp (config := { maxSteps := 1000000 }) only [go_sem, Int.reduceToNat, Int.reduceLE, Int.reduceLT, Int.reduceAdd, Int.reduceSub, Int.reduceMul, Int.reduceEq, Int.reduceNe, Nat.reduceEqDiff, Nat.reducePow, Nat.reduceDiv, Nat.reduceMod, Nat.reduceAdd, Nat.reduceMul, Nat.reduceSub, Nat.reduceLT, Nat.reduceLeDiff, reduceIte, reduceCtorEq, appendA_U]
  refine FinV.drop (v' := wideV (x * y)) G0_ok hcl (.agg rfl fun i hi _ => ?_) hK
  match i, hi with
  | 0, _ => exact .lit _
  | 1, _ => exact .lit _
theorem less_spec (x y : Nat) (H : AHeap) (K : ARes → AHeap → Prop) (hK : K (.ret (.lit (.bool (decide (x < y))))) H) : ACall Tryd.prog G0 62 [wideV x, wideV y] H K := by
  refine ACall.clo ⟨_, Tryd.func62, rfl, rfl⟩ fun hcl => ?_
  obtain ⟨a, ha⟩ : ∃ a, a = x / 18446744073709551616 := ⟨_, rfl⟩
  obtain ⟨b, hb⟩ : ∃ b, b = x % 18446744073709551616 := ⟨_, rfl⟩
  obtain ⟨c, hc⟩ : ∃ c, c = y / 18446744073709551616 := ⟨_, rfl⟩
  obtain ⟨d, hd⟩ : ∃ d, d = y % 18446744073709551616 := ⟨_, rfl⟩
  have key : ∀ v : Bool, v = decide (x < y) → FinV Tryd.prog G0 H K (.lit (.bool v)) (ext H [.arr 0 79 [.lit (.int .u64 a), .lit (.int .u64 b)], .arr 0 79 [.lit (.int .u64 c), .lit (.int .u64 d)]]) := fun v h => by
    subst h
    exact FinV.drop G0_ok hcl (.lit _) hK
  unfold wideV
  rw [← ha, ← hb, ← hc, ← hd]
  refine ACall.of_body (n := 24) (rs := [.tmp 4]) Tryd.func62 rfl rfl rfl (by decide) (by kernel_rfl) (by simp) ?_
  by_cases h1 : (a : Int) < c
  · simp (config := { maxSteps := 1000000 }) only [go_sem, Int.reduceToNat, Int.reduceLE, Int.reduceLT, Int.reduceAdd, Int.reduceSub, Int.reduceMul, Int.reduceEq, Int.reduceNe, Nat.reduceEqDiff, Nat.reducePow, Nat.reduceDiv, Nat.reduceMod, Nat.reduceAdd, Nat.reduceMul, Nat.reduceSub, Nat.reduceLT, Nat.reduceLeDiff, reduceIte, reduceCtorEq, h1, guardA_undef, appendA_U]
    exact key _ (by rw [decide_eq_true]; omega)
  by_cases h2' : a = c
  · subst h2'
    by_cases h3 : (b : Int) < d
    · simp (config := { maxSteps := 1000000 }) only [go_sem, Int.reduceToNat, Int.reduceLE, Int.reduceLT, Int.reduceAdd, Int.reduceSub, Int.reduceMul, Int.reduceEq, Int.reduceNe, Nat.reduceEqDiff, Nat.reducePow, Nat.reduceDiv, Nat.reduceMod, Nat.reduceAdd, Nat.reduceMul, Nat.reduceSub, Nat.reduceLT, Nat.reduceLeDiff, reduceIte, reduceCtorEq, h1, h3, guardA_undef, appendA_U]
      exact key _ (by rw [decide_eq_true]; omega)
    · simp (config := { maxSteps := 1000000 }) only [go_sem, Int.reduceToNat, Int.reduceLE, Int.reduceLT, Int.reduceAdd, Int.reduceSub, Int.reduceMul, Int.reduceEq, Int.reduceNe, Nat.reduceEqDiff, Nat.reducePow, Nat.reduceDiv, Nat.reduceMod, Nat.reduceAdd, Nat.reduceMul, Nat.reduceSub, Nat.reduceLT, Nat.reduceLeDiff, reduceIte, reduceCtorEq, h1, h3, guardA_undef, appendA_U]
      exact key _ (by rw [decide_eq_false]; omega)
  · have h2 : ¬ (a : Int) = c := by omega
    simp (config := { maxSteps := 1000000 }) only [go_sem, Int.reduceToNat, Int.reduceLE, Int.reduceLT, Int.reduceAdd, Int.reduceSub, Int.reduceMul, Int.reduceEq, Int.reduceNe, Nat.reduceEqDiff, Nat.reducePow, Nat.reduceDiv, Nat.reduceMod, Nat.reduceAdd, Nat.reduceMul, Nat.reduceSub, Nat.reduceLT, Nat.reduceLeDiff, reduceIte, reduceCtorEq, h1, h2, guardA_undef, appendA_U]
    exact key _ (by rw [decide_eq_false]; omega)
end Go.Proofs
set_option linter.unusedSimpArgs false
set_option maxRecDepth 100000
namespace Go.Hx
variable {P : Program} {t e : TypeId} {x y : Operand} {k k' : IntKind} {a b c d : Int}
theorem equalIn_int (n : Nat) (he : P.underlying e = some (.int k)) : pureRun P (Op.equalIn (n + 1) e (.int k' a) (.int k' b)) = some (a == b) := by
  unfold Op.equalIn
  simp [underlying, program, he, pureRun, bind, Sem.bind, pure]
theorem equalIn_pair (n : Nat) (ht : P.underlying t = some (.array 2 e)) (he : P.underlying e = some (.int k)) (hs : P.cellsOf e = 1) :
    pureRun P (Op.equalIn (n + 2) t (.agg #[.int k' a, .int k' b]) (.agg #[.int k' c, .int k' d])) = some (a == c && b == d) := by
  unfold Op.equalIn
  have e1 : ∀ {α : Type} (f : TypeDesc → Sem α), pureRun P (underlying t >>= f) = pureRun P (f (.array 2 e)) := fun f => pureRun_bind (by simp [underlying, program, ht, pureRun, bind, Sem.bind, pure])
  have hinf : ∃ i, P.info? e = some i ∧ i.size = 1 := by
    obtain ⟨i, hi⟩ := info_of_und he
    exact ⟨i, hi, by simpa [Program.cellsOf, hi] using hs⟩
  obtain ⟨i, hi, hi1⟩ := hinf
  have e2 : ∀ {α : Type} (f : Nat → Sem α), pureRun P (sizeOf e >>= f) = pureRun P (f 1) := fun f => pureRun_bind (by simp [sizeOf, typeInfo, program, hi, hi1, pureRun, bind, Sem.bind, pure])
  have e3 : ∀ {α : Type} (cs : Array Value) (o : Nat) (v : Value) (f : Value → Sem α), cs[o]? = some v → pureRun P (part e cs o >>= f) = pureRun P (f v) := fun cs o v f h => pureRun_bind (by simp [part, isAgg, underlying, program, he, h, pureRun, bind, Sem.bind, pure])
  have e4 : ∀ {α : Type} (p q : Int) (f : Bool → Sem α), pureRun P (Op.equalIn (n + 1) e (.int k' p) (.int k' q) >>= f) = pureRun P (f (p == q)) := fun p q f => pureRun_bind (equalIn_int n he)
  rw [e1]
  dsimp only
  rw [e2]
  simp only [Std.Legacy.Range.forIn_eq_forIn_range', Std.Legacy.Range.size, List.range', List.forIn_cons, List.forIn_nil]
  simp only [bind_assoc]
  rw [e3 _ _ (.int k' a) _ rfl, e3 _ _ (.int k' c) _ rfl, e4]
  by_cases h : (a == c) = true
  · rw [h]
    simp only [Bool.not_true, Bool.false_eq_true, if_false, pure_bind, bind_assoc]
    rw [e3 _ _ (.int k' b) _ rfl, e3 _ _ (.int k' d) _ rfl, e4]
    by_cases h2 : (b == d) = true
    · rw [h2]; rfl
    · rw [Bool.not_eq_true] at h2; rw [h2]; rfl
  · rw [Bool.not_eq_true] at h; rw [h]; rfl
theorem bin_eql_pair (ht : P.underlying t = some (.array 2 e)) (he : P.underlying e = some (.int k)) (hs : P.cellsOf e = 1) (hg : P.eqGuardType P.depth t = false) :
    binA P .eql t x y (.agg [.lit (.int k' a), .lit (.int k' b)]) (.agg [.lit (.int k' c), .lit (.int k' d)]) = some (.lit (.bool (a == c && b == d))) := by
  show (pureRun P (do eqGuard .eql t x y (.agg #[.int k' a, .int k' b]) (.agg #[.int k' c, .int k' d]); binOp .eql t (.agg #[.int k' a, .int k' b]) (.agg #[.int k' c, .int k' d]))).map _ = _
  have h0 : pureRun P (eqGuard .eql t x y (.agg #[.int k' a, .int k' b]) (.agg #[.int k' c, .int k' d])) = some () := by
    simp [eqGuard, program, hg, pureRun, bind, Sem.bind, pure]
  have h1 : binOp .eql t (.agg #[.int k' a, .int k' b]) (.agg #[.int k' c, .int k' d]) = (Op.equalIn (9998 + 2) t (.agg #[.int k' a, .int k' b]) (.agg #[.int k' c, .int k' d]) >>= fun r => pure (Value.bool r)) := rfl
  rw [pureRun_bind h0, h1, pureRun_bind (equalIn_pair 9998 ht he hs)]
  rfl
theorem equalIn_duo (n : Nat) {f g : Field} (ht : P.underlying t = some (.struct #[f, g])) (hsi : P.stoodInHeld t = false) (hf : f.type = e) (hg : g.type = e) (fn : f.name ≠ "_") (gn : g.name ≠ "_") (fo : f.offset = 0) (go : g.offset = 1) (he : P.underlying e = some (.int k)) :
    pureRun P (Op.equalIn (n + 2) t (.agg #[.int k' a, .int k' b]) (.agg #[.int k' c, .int k' d])) = some (a == c && b == d) := by
  unfold Op.equalIn
  have e1 : ∀ {α : Type} (f' : TypeDesc → Sem α), pureRun P (underlying t >>= f') = pureRun P (f' (.struct #[f, g])) := fun f' => pureRun_bind (by simp [underlying, program, ht, pureRun, bind, Sem.bind, pure])
  have e0 : ∀ {α : Type} (f' : Program → Sem α), pureRun P (program >>= f') = pureRun P (f' P) := fun f' => pureRun_bind (by simp [program, pureRun])
  have e3 : ∀ {α : Type} (cs : Array Value) (o : Nat) (v : Value) (f' : Value → Sem α), cs[o]? = some v → pureRun P (part e cs o >>= f') = pureRun P (f' v) := fun cs o v f' h => pureRun_bind (by simp [part, isAgg, underlying, program, he, h, pureRun, bind, Sem.bind, pure])
  have e4 : ∀ {α : Type} (p q : Int) (f' : Bool → Sem α), pureRun P (Op.equalIn (n + 1) e (.int k' p) (.int k' q) >>= f') = pureRun P (f' (p == q)) := fun p q f' => pureRun_bind (equalIn_int n he)
  rw [e1]
  dsimp only
  rw [e0, hsi]
  simp only [Bool.false_eq_true, if_false, ← Array.forIn_toList, List.forIn_cons, List.forIn_nil, fn, gn, hf, hg, fo, go, ne_eq, not_false_eq_true, if_true, bind_assoc, pure_bind]
  rw [e3 _ _ (.int k' a) _ rfl, e3 _ _ (.int k' c) _ rfl, e4]
  by_cases h : (a == c) = true
  · rw [h]
    simp only [Bool.not_true, Bool.false_eq_true, if_false, pure_bind, bind_assoc]
    rw [e3 _ _ (.int k' b) _ rfl, e3 _ _ (.int k' d) _ rfl, e4]
    by_cases h2 : (b == d) = true
    · rw [h2]; rfl
    · rw [Bool.not_eq_true] at h2; rw [h2]; rfl
  · rw [Bool.not_eq_true] at h; rw [h]; rfl
theorem bin_neq_duo {f g : Field} (ht : P.underlying t = some (.struct #[f, g])) (hsi : P.stoodInHeld t = false) (hf : f.type = e) (hg : g.type = e) (fn : f.name ≠ "_") (gn : g.name ≠ "_") (fo : f.offset = 0) (go : g.offset = 1) (he : P.underlying e = some (.int k)) (hq : P.eqGuardType P.depth t = false) :
    binA P .neq t x y (.agg [.lit (.int k' a), .lit (.int k' b)]) (.agg [.lit (.int k' c), .lit (.int k' d)]) = some (.lit (.bool (!(a == c && b == d)))) := by
  show (pureRun P (do eqGuard .neq t x y (.agg #[.int k' a, .int k' b]) (.agg #[.int k' c, .int k' d]); binOp .neq t (.agg #[.int k' a, .int k' b]) (.agg #[.int k' c, .int k' d]))).map _ = _
  have h0 : pureRun P (eqGuard .neq t x y (.agg #[.int k' a, .int k' b]) (.agg #[.int k' c, .int k' d])) = some () := by
    simp [eqGuard, program, hq, pureRun, bind, Sem.bind, pure]
  have h1 : binOp .neq t (.agg #[.int k' a, .int k' b]) (.agg #[.int k' c, .int k' d]) = (Op.equalIn (9998 + 2) t (.agg #[.int k' a, .int k' b]) (.agg #[.int k' c, .int k' d]) >>= fun r => pure (Value.bool (!r))) := rfl
  rw [pureRun_bind h0, h1, pureRun_bind (equalIn_duo 9998 ht hsi hf hg fn gn fo go he)]
  rfl
theorem bin_eql_duo {P : Program} {t e : TypeId} {x y : Operand} {k k' : IntKind} {a b c d : Int} {f g : Field} (ht : P.underlying t = some (.struct #[f, g])) (hsi : P.stoodInHeld t = false) (hf : f.type = e) (hg : g.type = e) (fn : f.name ≠ "_") (gn : g.name ≠ "_") (fo : f.offset = 0) (go : g.offset = 1) (he : P.underlying e = some (.int k)) (hq : P.eqGuardType P.depth t = false) :
    binA P .eql t x y (.agg [.lit (.int k' a), .lit (.int k' b)]) (.agg [.lit (.int k' c), .lit (.int k' d)]) = some (.lit (.bool (a == c && b == d))) := by
  show (pureRun P (do eqGuard .eql t x y (.agg #[.int k' a, .int k' b]) (.agg #[.int k' c, .int k' d]); binOp .eql t (.agg #[.int k' a, .int k' b]) (.agg #[.int k' c, .int k' d]))).map _ = _
  have h0 : pureRun P (eqGuard .eql t x y (.agg #[.int k' a, .int k' b]) (.agg #[.int k' c, .int k' d])) = some () := by
    simp [eqGuard, program, hq, pureRun, bind, Sem.bind, pure]
  have h1 : binOp .eql t (.agg #[.int k' a, .int k' b]) (.agg #[.int k' c, .int k' d]) = (Op.equalIn (9998 + 2) t (.agg #[.int k' a, .int k' b]) (.agg #[.int k' c, .int k' d]) >>= fun r => pure (Value.bool r)) := rfl
  rw [pureRun_bind h0, h1, pureRun_bind (equalIn_duo 9998 ht hsi hf hg fn gn fo go he)]
  rfl
attribute [go_sem] nilOf_agg
end Go.Hx
namespace Go.Proofs
open Go.Hx
theorem neqQ {o1 o2 : Operand} (a b c d : Int) : binA Tryd.prog .neq 23 o1 o2 (.agg [.lit (.int .i64 a), .lit (.int .i64 b)]) (.agg [.lit (.int .i64 c), .lit (.int .i64 d)]) = some (.lit (.bool (!(a == c && b == d)))) :=
  bin_neq_duo Tryd.underlying23 (by kernel_rfl) rfl rfl (by decide) (by decide) rfl rfl Tryd.underlying3 (by kernel_rfl)
theorem eqlQ {o1 o2 : Operand} (a b c d : Int) : binA Tryd.prog .eql 23 o1 o2 (.agg [.lit (.int .i64 a), .lit (.int .i64 b)]) (.agg [.lit (.int .i64 c), .lit (.int .i64 d)]) = some (.lit (.bool (a == c && b == d))) :=
  bin_eql_duo Tryd.underlying23 (by kernel_rfl) rfl rfl (by decide) (by decide) rfl rfl Tryd.underlying3 (by kernel_rfl)
/-! fit: a numerator and a denominator that fit, or a panic. -/
def maxM : Nat := 4611686018427387903
def fitO (neg : Bool) (n d : Nat) : Option AVal := if n ≤ 4611686018427387903 ∧ d ≤ 4611686018427387903 then some (qV (if neg = true then -(n : Int) else n) d) else none
def OutK (o : Option AVal) (H : AHeap) (K : ARes → AHeap → Prop) : Prop := (∀ v, o = some v → K (.ret v) H) ∧ (o = none → ∀ H', H.next ≤ H'.next → K .panic H')
theorem fz_lits {S : Nat → Prop} {H : AHeap} {nx : Nat} (n d : Int) : Fz S H nx (.agg [.lit (.int .i64 n), .lit (.int .i64 d)]) (qV n d) :=
  .agg rfl fun i hi _ => match i, hi with
    | 0, _ => .lit _
    | 1, _ => .lit _
theorem plT : placesA Tryd.prog 99 = some [] := by kernel_rfl
theorem tvT : (AVal.agg []).toVal = some (.agg #[]) := rfl
theorem mkT : pureRun Tryd.prog (Instr.makeInterface 99 (.agg #[])) = some (.iface 99 (.agg #[])) := by kernel_rfl
theorem fit_spec (neg : Bool) (n d : Nat) (hn : n < 340282366920938463463374607431768211456) (hd : d < 340282366920938463463374607431768211456) (H : AHeap) (K : ARes → AHeap → Prop) (hK : OutK (fitO neg n d) H K) :
    ACall Tryd.prog G0 49 [.lit (.bool neg), wideV n, wideV d] H K := by
  refine ACall.clo ⟨_, Tryd.func49, rfl, rfl⟩ fun hcl => ?_
  refine ACall.of_body (n := 43) (rs := [.cell 6 23]) Tryd.func49 rfl rfl rfl (by decide) (by kernel_rfl) (by simp) ?_
  by_cases hf : n ≤ 4611686018427387903 ∧ d ≤ 4611686018427387903
  · have e1 : n / 18446744073709551616 = 0 := by omega
    have e2 : d / 18446744073709551616 = 0 := by omega
    have e3 : n % 18446744073709551616 = n := by omega
    have e4 : d % 18446744073709551616 = d := by omega
    have h1 : ¬ (4611686018427387903 : Int) < (n : Int) := by omega
    have h2 : ¬ (4611686018427387903 : Int) < (d : Int) := by omega
    have w1 := IntWalk.i64_in (n : Int) (by omega)
    have w2 := IntWalk.i64_in (d : Int) (by omega)
    have w3 := IntWalk.i64_in (0 - (n : Int)) (by omega)
    have w4 : (0 : Int) - (n : Int) = -(n : Int) := by omega
    have hk := hK.1 _ (by unfold fitO; rw [if_pos hf])
    cases neg with
    | true =>
      simp (config := { maxSteps := 1000000 }) only [go_sem, Int.reduceToNat, Int.reduceLE, Int.reduceLT, Int.reduceAdd, Int.reduceSub, Int.reduceMul, Int.reduceEq, Int.reduceNe, Nat.reduceEqDiff, Nat.reducePow, Nat.reduceDiv, Nat.reduceMod, Nat.reduceAdd, Nat.reduceMul, Nat.reduceSub, Nat.reduceLT, Nat.reduceLeDiff, reduceIte, reduceCtorEq, wideV, e1, e2, e3, e4, h1, h2, w1, w2, w3, appendA_U]
      rw [if_pos rfl] at hk
      rw [w4]
      exact FinV.drop G0_ok hcl (fz_lits _ _) hk
    | false =>
      simp (config := { maxSteps := 1000000 }) only [go_sem, Int.reduceToNat, Int.reduceLE, Int.reduceLT, Int.reduceAdd, Int.reduceSub, Int.reduceMul, Int.reduceEq, Int.reduceNe, Nat.reduceEqDiff, Nat.reducePow, Nat.reduceDiv, Nat.reduceMod, Nat.reduceAdd, Nat.reduceMul, Nat.reduceSub, Nat.reduceLT, Nat.reduceLeDiff, reduceIte, reduceCtorEq, wideV, e1, e2, e3, e4, h1, h2, w1, w2, w3, appendA_U]
      rw [if_neg (by decide)] at hk
      exact FinV.drop G0_ok hcl (fz_lits _ _) hk
  · have hk := hK.2 (by unfold fitO; rw [if_neg hf])
    by_cases a1 : ((n / 18446744073709551616 : Nat) : Int) = 0
    · by_cases a2 : (4611686018427387903 : Int) < ((n % 18446744073709551616 : Nat) : Int)
      · simp (config := { maxSteps := 1000000 }) only [go_sem, Int.reduceToNat, Int.reduceLE, Int.reduceLT, Int.reduceAdd, Int.reduceSub, Int.reduceMul, Int.reduceEq, Int.reduceNe, Nat.reduceEqDiff, Nat.reducePow, Nat.reduceDiv, Nat.reduceMod, Nat.reduceAdd, Nat.reduceMul, Nat.reduceSub, Nat.reduceLT, Nat.reduceLeDiff, reduceIte, reduceCtorEq, wideV, a1, a2, guardA_undef, plT, tvT, mkT, appendA_U]
        exact ⟨⟨_, _, rfl⟩, _, WeakV.refl _ _, by simp [ext_next], hk _ (by simp [ext_next])⟩
      · by_cases a3 : ((d / 18446744073709551616 : Nat) : Int) = 0
        · have a4 : (4611686018427387903 : Int) < ((d % 18446744073709551616 : Nat) : Int) := by omega
          simp (config := { maxSteps := 1000000 }) only [go_sem, Int.reduceToNat, Int.reduceLE, Int.reduceLT, Int.reduceAdd, Int.reduceSub, Int.reduceMul, Int.reduceEq, Int.reduceNe, Nat.reduceEqDiff, Nat.reducePow, Nat.reduceDiv, Nat.reduceMod, Nat.reduceAdd, Nat.reduceMul, Nat.reduceSub, Nat.reduceLT, Nat.reduceLeDiff, reduceIte, reduceCtorEq, wideV, a1, a2, a3, a4, guardA_undef, plT, tvT, mkT, appendA_U]
          exact ⟨⟨_, _, rfl⟩, _, WeakV.refl _ _, by simp [ext_next], hk _ (by simp [ext_next])⟩
        · simp (config := { maxSteps := 1000000 }) only [go_sem, Int.reduceToNat, Int.reduceLE, Int.reduceLT, Int.reduceAdd, Int.reduceSub, Int.reduceMul, Int.reduceEq, Int.reduceNe, Nat.reduceEqDiff, Nat.reducePow, Nat.reduceDiv, Nat.reduceMod, Nat.reduceAdd, Nat.reduceMul, Nat.reduceSub, Nat.reduceLT, Nat.reduceLeDiff, reduceIte, reduceCtorEq, wideV, a1, a2, a3, guardA_undef, plT, tvT, mkT, appendA_U]
          exact ⟨⟨_, _, rfl⟩, _, WeakV.refl _ _, by simp [ext_next], hk _ (by simp [ext_next])⟩
    · simp (config := { maxSteps := 1000000 }) only [go_sem, Int.reduceToNat, Int.reduceLE, Int.reduceLT, Int.reduceAdd, Int.reduceSub, Int.reduceMul, Int.reduceEq, Int.reduceNe, Nat.reduceEqDiff, Nat.reducePow, Nat.reduceDiv, Nat.reduceMod, Nat.reduceAdd, Nat.reduceMul, Nat.reduceSub, Nat.reduceLT, Nat.reduceLeDiff, reduceIte, reduceCtorEq, wideV, a1, guardA_undef, plT, tvT, mkT, appendA_U]
      exact ⟨⟨_, _, rfl⟩, _, WeakV.refl _ _, by simp [ext_next], hk _ (by simp [ext_next])⟩
end Go.Proofs
set_option linter.unusedSimpArgs false
set_option maxRecDepth 100000
namespace Go.Proofs
open Go.Hx
/-! product. -/
def sgnB (a c : Int) : Bool := !(decide (a < 0) == decide (c < 0))
def prodO (a b c d : Int) : Option AVal := fitO (sgnB a c) (a.natAbs / Int.gcd a d * (c.natAbs / Int.gcd c b)) (b.natAbs / Int.gcd c b * (d.natAbs / Int.gcd a d))
theorem tdivN (a g : Nat) : (a : Int).tdiv (g : Int) = ((a / g : Nat) : Int) := by
  rw [Int.tdiv_eq_ediv_of_nonneg (by omega)]; exact (Int.natCast_ediv _ _).symm
theorem szN (a : Int) (ha : -9223372036854775808 ≤ a ∧ a ≤ 9223372036854775807) (H2 : AHeap) (K : ARes → AHeap → Prop) (h : K (.ret (.lit (.int .u64 (a.natAbs : Int)))) H2) : ACall Tryd.prog G0 43 [.lit (.int .i64 a)] H2 K := size_spec a ha H2 K h
theorem cmN (a d : Int) (hd : 0 ≤ d) (H2 : AHeap) (K : ARes → AHeap → Prop) (h : K (.ret (.lit (.int .u64 (Int.gcd a d : Nat)))) H2) : ACall Tryd.prog G0 42 [.lit (.int .u64 (a.natAbs : Int)), .lit (.int .u64 d)] H2 K :=
  common_spec _ _ (by omega) hd H2 K (by rw [gcd_abs]; exact h)
theorem tmN (x y : Nat) (hx : x ≤ 4611686018427387903) (hy : y ≤ 4611686018427387903) (H2 : AHeap) (K : ARes → AHeap → Prop) (h : K (.ret (wideV (x * y))) H2) : ACall Tryd.prog G0 61 [.lit (.int .u64 (x : Int)), .lit (.int .u64 (y : Int))] H2 K := times_spec x y (by omega) (by omega) H2 K h
set_option maxHeartbeats 2000000 in
theorem product_spec (a b c d : Int) (ha : -4611686018427387903 ≤ a ∧ a ≤ 4611686018427387903) (hb : 1 ≤ b ∧ b ≤ 4611686018427387903) (hc : -4611686018427387903 ≤ c ∧ c ≤ 4611686018427387903) (hd : 1 ≤ d ∧ d ≤ 4611686018427387903)
    (H : AHeap) (K : ARes → AHeap → Prop) (hK : OutK (prodO a b c d) H K) : ACall Tryd.prog G0 57 [qV a b, qV c d] H K := by
  refine ACall.clo ⟨_, Tryd.func57, rfl, rfl⟩ fun hcl => ?_
  have wb := IntWalk.u64_in b (by omega)
  have wd := IntWalk.u64_in d (by omega)
  have g0 : 0 < Int.gcd a d := Int.gcd_pos_of_ne_zero_right _ (by omega)
  have h0 : 0 < Int.gcd c b := Int.gcd_pos_of_ne_zero_right _ (by omega)
  obtain ⟨B, hB⟩ : ∃ B : Nat, (B : Int) = b := ⟨b.natAbs, by omega⟩
  obtain ⟨D, hD⟩ : ∃ D : Nat, (D : Int) = d := ⟨d.natAbs, by omega⟩
  have hBn : b.natAbs = B := by omega
  have hDn : d.natAbs = D := by omega
  unfold prodO at hK
  rw [hBn, hDn] at hK
  have cm1 := fun H2 K h => cmN a d (by omega) H2 K h
  have cm2 := fun H2 K h => cmN c b (by omega) H2 K h
  generalize Int.gcd a d = g at *
  generalize Int.gcd c b = h at *
  have gne : ¬ (g : Int) = 0 := by omega
  have hne : ¬ (h : Int) = 0 := by omega
  have q1 := tdivN a.natAbs g
  have q2 := tdivN c.natAbs h
  have q3 := tdivN B h
  have q4 := tdivN D g
  have b1 : a.natAbs / g ≤ a.natAbs := Nat.div_le_self _ _
  have b2 : c.natAbs / h ≤ c.natAbs := Nat.div_le_self _ _
  have b3 : B / h ≤ B := Nat.div_le_self _ _
  have b4 : D / g ≤ D := Nat.div_le_self _ _
  generalize a.natAbs / g = p1 at *
  generalize c.natAbs / h = p2 at *
  generalize B / h = p3 at *
  generalize D / g = p4 at *
  have u1 := IntWalk.u64_in (p1 : Int) (by omega)
  have u2 := IntWalk.u64_in (p2 : Int) (by omega)
  have u3 := IntWalk.u64_in (p3 : Int) (by omega)
  have u4 := IntWalk.u64_in (p4 : Int) (by omega)
  rw [hB] at q3
  rw [hD] at q4
  refine ACall.of_body (n := 53) (rs := [.cell 4 23]) Tryd.func57 rfl rfl rfl (by decide) (by kernel_rfl) (by simp) ?_
  simp (config := { maxSteps := 1000000 }) only [go_sem, Int.reduceToNat, Int.reduceLE, Int.reduceLT, Int.reduceAdd, Int.reduceSub, Int.reduceMul, Int.reduceEq, Int.reduceNe, Nat.reduceEqDiff, Nat.reducePow, Nat.reduceDiv, Nat.reduceMod, Nat.reduceAdd, Nat.reduceMul, Nat.reduceSub, Nat.reduceLT, Nat.reduceLeDiff, reduceIte, reduceCtorEq, qV, appendA_U]
  refine W.draw 6 [0, 1, 3, 0, 8, 24] Tryd.mixed (by kernel_rfl) (by kernel_rfl) ?_
  simp (config := { maxSteps := 1000000 }) only [go_sem, Int.reduceToNat, Int.reduceLE, Int.reduceLT, Int.reduceAdd, Int.reduceSub, Int.reduceMul, Int.reduceEq, Int.reduceNe, Nat.reduceEqDiff, Nat.reducePow, Nat.reduceDiv, Nat.reduceMod, Nat.reduceAdd, Nat.reduceMul, Nat.reduceSub, Nat.reduceLT, Nat.reduceLeDiff, reduceIte, reduceCtorEq, qV, appendA_U]
  refine ⟨_, [], PCall.pure fun H2 => szN a (by omega) H2 _ ⟨rfl, rfl⟩, ?_⟩
  simp (config := { maxSteps := 1000000 }) only [go_sem, Int.reduceToNat, Int.reduceLE, Int.reduceLT, Int.reduceAdd, Int.reduceSub, Int.reduceMul, Int.reduceEq, Int.reduceNe, Nat.reduceEqDiff, Nat.reducePow, Nat.reduceDiv, Nat.reduceMod, Nat.reduceAdd, Nat.reduceMul, Nat.reduceSub, Nat.reduceLT, Nat.reduceLeDiff, reduceIte, reduceCtorEq, qV, wd, appendA_U]
  refine AApply.clo (cm1 _ _ ⟨trivial, ?_⟩)
  simp (config := { maxSteps := 1000000 }) only [go_sem, Int.reduceToNat, Int.reduceLE, Int.reduceLT, Int.reduceAdd, Int.reduceSub, Int.reduceMul, Int.reduceEq, Int.reduceNe, Nat.reduceEqDiff, Nat.reducePow, Nat.reduceDiv, Nat.reduceMod, Nat.reduceAdd, Nat.reduceMul, Nat.reduceSub, Nat.reduceLT, Nat.reduceLeDiff, reduceIte, reduceCtorEq, qV, appendA_U]
  refine W.draw 6 [0, 1, 3, 0, 8, 24] Tryd.mixed (by kernel_rfl) (by kernel_rfl) ?_
  simp (config := { maxSteps := 1000000 }) only [go_sem, Int.reduceToNat, Int.reduceLE, Int.reduceLT, Int.reduceAdd, Int.reduceSub, Int.reduceMul, Int.reduceEq, Int.reduceNe, Nat.reduceEqDiff, Nat.reducePow, Nat.reduceDiv, Nat.reduceMod, Nat.reduceAdd, Nat.reduceMul, Nat.reduceSub, Nat.reduceLT, Nat.reduceLeDiff, reduceIte, reduceCtorEq, qV, appendA_U]
  refine ⟨_, [], PCall.pure fun H2 => szN c (by omega) H2 _ ⟨rfl, rfl⟩, ?_⟩
  simp (config := { maxSteps := 1000000 }) only [go_sem, Int.reduceToNat, Int.reduceLE, Int.reduceLT, Int.reduceAdd, Int.reduceSub, Int.reduceMul, Int.reduceEq, Int.reduceNe, Nat.reduceEqDiff, Nat.reducePow, Nat.reduceDiv, Nat.reduceMod, Nat.reduceAdd, Nat.reduceMul, Nat.reduceSub, Nat.reduceLT, Nat.reduceLeDiff, reduceIte, reduceCtorEq, qV, wb, appendA_U]
  refine AApply.clo (cm2 _ _ ⟨trivial, ?_⟩)
  simp (config := { maxSteps := 1000000 }) only [go_sem, Int.reduceToNat, Int.reduceLE, Int.reduceLT, Int.reduceAdd, Int.reduceSub, Int.reduceMul, Int.reduceEq, Int.reduceNe, Nat.reduceEqDiff, Nat.reducePow, Nat.reduceDiv, Nat.reduceMod, Nat.reduceAdd, Nat.reduceMul, Nat.reduceSub, Nat.reduceLT, Nat.reduceLeDiff, reduceIte, reduceCtorEq, qV, appendA_U]
  refine W.draw 12 [0, 1, 3, 0, 15, 0, 32, 103, 0, 487, 1023, 0] Tryd.mixed (by kernel_rfl) (by kernel_rfl) ?_
  simp (config := { maxSteps := 1000000 }) only [go_sem, Int.reduceToNat, Int.reduceLE, Int.reduceLT, Int.reduceAdd, Int.reduceSub, Int.reduceMul, Int.reduceEq, Int.reduceNe, Nat.reduceEqDiff, Nat.reducePow, Nat.reduceDiv, Nat.reduceMod, Nat.reduceAdd, Nat.reduceMul, Nat.reduceSub, Nat.reduceLT, Nat.reduceLeDiff, reduceIte, reduceCtorEq, qV, appendA_U]
  refine ⟨_, [], PCall.pure fun H2 => szN a (by omega) H2 _ ⟨rfl, rfl⟩, ?_⟩
  simp (config := { maxSteps := 1000000 }) only [go_sem, Int.reduceToNat, Int.reduceLE, Int.reduceLT, Int.reduceAdd, Int.reduceSub, Int.reduceMul, Int.reduceEq, Int.reduceNe, Nat.reduceEqDiff, Nat.reducePow, Nat.reduceDiv, Nat.reduceMod, Nat.reduceAdd, Nat.reduceMul, Nat.reduceSub, Nat.reduceLT, Nat.reduceLeDiff, reduceIte, reduceCtorEq, qV, gne, q1, u1, appendA_U]
  refine ⟨_, [], PCall.pure fun H2 => szN c (by omega) H2 _ ⟨rfl, rfl⟩, ?_⟩
  simp (config := { maxSteps := 1000000 }) only [go_sem, Int.reduceToNat, Int.reduceLE, Int.reduceLT, Int.reduceAdd, Int.reduceSub, Int.reduceMul, Int.reduceEq, Int.reduceNe, Nat.reduceEqDiff, Nat.reducePow, Nat.reduceDiv, Nat.reduceMod, Nat.reduceAdd, Nat.reduceMul, Nat.reduceSub, Nat.reduceLT, Nat.reduceLeDiff, reduceIte, reduceCtorEq, qV, hne, q2, u2, appendA_U]
  refine ⟨_, [], PCall.pure fun H2 => tmN p1 p2 (by omega) (by omega) H2 _ ⟨rfl, rfl⟩, ?_⟩
  simp (config := { maxSteps := 1000000 }) only [go_sem, Int.reduceToNat, Int.reduceLE, Int.reduceLT, Int.reduceAdd, Int.reduceSub, Int.reduceMul, Int.reduceEq, Int.reduceNe, Nat.reduceEqDiff, Nat.reducePow, Nat.reduceDiv, Nat.reduceMod, Nat.reduceAdd, Nat.reduceMul, Nat.reduceSub, Nat.reduceLT, Nat.reduceLeDiff, reduceIte, reduceCtorEq, wideV, appendA_U]
  repeat (refine And.intro (by first | omega | (simp; done) | (simp; omega) | (intros; omega) | exact ⟨rfl, by omega, by omega, all_one_ints _⟩) ?_)
  rw [ext_ext]
  simp only [List.cons_append, List.nil_append]
  refine W.draw 19 [0, 1, 3, 0, 8, 24, 63, 0, 0, 256, 768, 0, 3840, 0, 8192, 24576, 0, 122880, 261888] Tryd.mixed (by kernel_rfl) (by kernel_rfl) ?_
  simp (config := { maxSteps := 1000000 }) only [go_sem, Int.reduceToNat, Int.reduceLE, Int.reduceLT, Int.reduceAdd, Int.reduceSub, Int.reduceMul, Int.reduceEq, Int.reduceNe, Nat.reduceEqDiff, Nat.reducePow, Nat.reduceDiv, Nat.reduceMod, Nat.reduceAdd, Nat.reduceMul, Nat.reduceSub, Nat.reduceLT, Nat.reduceLeDiff, reduceIte, reduceCtorEq, wideV, wb, wd, bin_neq_bool Tryd.underlying4, hne, gne, q3, q4, u3, u4, appendA_U]
  refine ⟨_, [], PCall.pure fun H2 => tmN p3 p4 (by omega) (by omega) H2 _ ⟨rfl, rfl⟩, ?_⟩
  have mb : ∀ x y : Nat, x ≤ 4611686018427387903 → y ≤ 4611686018427387903 → x * y < 340282366920938463463374607431768211456 := fun x y h1 h2 => Nat.lt_of_le_of_lt (Nat.mul_le_mul h1 h2) (by decide)
  refine AApply.clo (fit_spec (sgnB a c) (p1 * p2) (p3 * p4) (mb _ _ (by omega) (by omega)) (mb _ _ (by omega) (by omega)) _ _ ⟨fun v hv => ⟨trivial, ?_⟩, fun ho H' hn => ⟨trivial, ?_⟩⟩)
  · have hk := hK.1 v hv
    unfold fitO at hv
    split at hv
    · cases hv
      simp (config := { maxSteps := 1000000 }) only [go_sem, Int.reduceToNat, Int.reduceLE, Int.reduceLT, Int.reduceAdd, Int.reduceSub, Int.reduceMul, Int.reduceEq, Int.reduceNe, Nat.reduceEqDiff, Nat.reducePow, Nat.reduceDiv, Nat.reduceMod, Nat.reduceAdd, Nat.reduceMul, Nat.reduceSub, Nat.reduceLT, Nat.reduceLeDiff, reduceIte, reduceCtorEq, qV, appendA_U]
      exact FinV.drop G0_ok hcl (fz_lits _ _) hk
    · cases hv
  · simp only [ext_next, List.length_cons, List.length_nil] at hn
    exact ⟨H', WeakV.refl _ _, by omega, hK.2 ho H' (by omega)⟩
end Go.Proofs
set_option linter.unusedSimpArgs false
set_option maxRecDepth 100000
namespace Go.Proofs
open Go.Hx
/-! Make, both, Mul, Div. -/
theorem fitO_ok {neg : Bool} {n d : Nat} {u : AVal} (h : fitO neg n d = some u) : qOk u = true := by
  unfold fitO at h
  split at h
  · cases h; rfl
  · cases h
theorem fitO_form {neg : Bool} {n d : Nat} {u : AVal} (h : fitO neg n d = some u) : ∃ x y, u = qV x y := by
  unfold fitO at h
  split at h
  · cases h; exact ⟨_, _, rfl⟩
  · cases h
theorem fresh_q {H : AHeap} (x y : Int) : Fresh H (.agg [.lit (.int .i64 x), .lit (.int .i64 y)]) (qV x y) := .agg rfl fun i hi _ => match i, hi with
  | 0, _ => .lit _
  | 1, _ => .lit _
def makeO (n d : Int) : Option AVal := fitO (sgnB n d) (n.natAbs / Int.gcd n d) (d.natAbs / Int.gcd n d)
def oneW (n : Nat) : AVal := .agg [.lit (.int .u64 0), .lit (.int .u64 (n : Int))]
theorem oneW_wide {n : Nat} (h : n < 18446744073709551616) : oneW n = wideV n := by
  unfold oneW wideV
  rw [Nat.div_eq_of_lt h, Nat.mod_eq_of_lt h]; rfl
set_option maxHeartbeats 2000000 in
theorem make1_spec (n d : Int) (hn : -9223372036854775808 ≤ n ∧ n ≤ 9223372036854775807) (hd : -9223372036854775808 ≤ d ∧ d ≤ 9223372036854775807) (hd0 : d ≠ 0) :
    ACall Tryd.prog G0 48 [.vptr [.lit (.int .i64 n)] 0, .vptr [.lit (.int .i64 d)] 0] noH (GRes (makeO n d)) := by
  refine ACall.clo ⟨_, Tryd.func48, rfl, rfl⟩ fun hcl => ?_
  have g0 : 0 < Int.gcd n d := Int.gcd_pos_of_ne_zero_right _ hd0
  have hG : OutK (makeO n d) noH (GRes (makeO n d)) → True := fun _ => trivial
  have cm : ∀ H2 K, K (ARes.ret (.lit (.int .u64 (Int.gcd n d : Nat)))) H2 → ACall Tryd.prog G0 42 [.lit (.int .u64 (n.natAbs : Int)), .lit (.int .u64 (d.natAbs : Int))] H2 K := fun H2 K h =>
    common_spec _ _ (by omega) (by omega) H2 K (by
      have : Int.gcd (n.natAbs : Int) (d.natAbs : Int) = Int.gcd n d := by simp [Int.gcd]
      rw [this]; exact h)
  obtain ⟨o, ho⟩ : ∃ o, o = makeO n d := ⟨_, rfl⟩
  have ho2 := ho
  unfold makeO at ho2
  rw [← ho]
  generalize Int.gcd n d = g at *
  have gne : ¬ (g : Int) = 0 := by omega
  have q1 := tdivN n.natAbs g
  have q2 := tdivN d.natAbs g
  have b1 : n.natAbs / g ≤ n.natAbs := Nat.div_le_self _ _
  have b2 : d.natAbs / g ≤ d.natAbs := Nat.div_le_self _ _
  generalize n.natAbs / g = p1 at *
  generalize d.natAbs / g = p2 at *
  have u1 := IntWalk.u64_in (p1 : Int) (by omega)
  have u2 := IntWalk.u64_in (p2 : Int) (by omega)
  refine ACall.of_body (n := 25) (rs := [.cell 2 23]) Tryd.func48 rfl rfl rfl (by decide) (by kernel_rfl) (by simp) ?_
  simp (config := { maxSteps := 1000000 }) only [go_sem, Int.reduceToNat, Int.reduceLE, Int.reduceLT, Int.reduceAdd, Int.reduceSub, Int.reduceMul, Int.reduceEq, Int.reduceNe, Nat.reduceEqDiff, Nat.reducePow, Nat.reduceDiv, Nat.reduceMod, Nat.reduceAdd, Nat.reduceMul, Nat.reduceSub, Nat.reduceLT, Nat.reduceLeDiff, reduceIte, reduceCtorEq, appendA_U]
  refine W.draw 3 [0, 1, 0] Tryd.mixed (by kernel_rfl) (by kernel_rfl) ?_
  simp (config := { maxSteps := 1000000 }) only [go_sem, Int.reduceToNat, Int.reduceLE, Int.reduceLT, Int.reduceAdd, Int.reduceSub, Int.reduceMul, Int.reduceEq, Int.reduceNe, Nat.reduceEqDiff, Nat.reducePow, Nat.reduceDiv, Nat.reduceMod, Nat.reduceAdd, Nat.reduceMul, Nat.reduceSub, Nat.reduceLT, Nat.reduceLeDiff, reduceIte, reduceCtorEq, appendA_U]
  refine ⟨_, [], PCall.pure fun H2 => szN n hn H2 _ ⟨rfl, rfl⟩, ?_⟩
  refine AApply.clo (szN d hd _ _ ⟨trivial, ?_⟩)
  simp (config := { maxSteps := 1000000 }) only [go_sem, Int.reduceToNat, Int.reduceLE, Int.reduceLT, Int.reduceAdd, Int.reduceSub, Int.reduceMul, Int.reduceEq, Int.reduceNe, Nat.reduceEqDiff, Nat.reducePow, Nat.reduceDiv, Nat.reduceMod, Nat.reduceAdd, Nat.reduceMul, Nat.reduceSub, Nat.reduceLT, Nat.reduceLeDiff, reduceIte, reduceCtorEq, appendA_U]
  refine AApply.clo (cm _ _ ⟨trivial, ?_⟩)
  simp (config := { maxSteps := 1000000 }) only [go_sem, Int.reduceToNat, Int.reduceLE, Int.reduceLT, Int.reduceAdd, Int.reduceSub, Int.reduceMul, Int.reduceEq, Int.reduceNe, Nat.reduceEqDiff, Nat.reducePow, Nat.reduceDiv, Nat.reduceMod, Nat.reduceAdd, Nat.reduceMul, Nat.reduceSub, Nat.reduceLT, Nat.reduceLeDiff, reduceIte, reduceCtorEq, appendA_U]
  refine W.draw 15 [0, 1, 0, 4, 15, 0, 32, 0, 224, 480, 0, 1120, 0, 7264, 15456] Tryd.mixed (by kernel_rfl) (by kernel_rfl) ?_
  simp (config := { maxSteps := 1000000 }) only [go_sem, Int.reduceToNat, Int.reduceLE, Int.reduceLT, Int.reduceAdd, Int.reduceSub, Int.reduceMul, Int.reduceEq, Int.reduceNe, Nat.reduceEqDiff, Nat.reducePow, Nat.reduceDiv, Nat.reduceMod, Nat.reduceAdd, Nat.reduceMul, Nat.reduceSub, Nat.reduceLT, Nat.reduceLeDiff, reduceIte, reduceCtorEq, bin_neq_bool Tryd.underlying4, appendA_U]
  refine ⟨_, [], PCall.pure fun H2 => szN n hn H2 _ ⟨rfl, rfl⟩, ?_⟩
  simp (config := { maxSteps := 1000000 }) only [go_sem, Int.reduceToNat, Int.reduceLE, Int.reduceLT, Int.reduceAdd, Int.reduceSub, Int.reduceMul, Int.reduceEq, Int.reduceNe, Nat.reduceEqDiff, Nat.reducePow, Nat.reduceDiv, Nat.reduceMod, Nat.reduceAdd, Nat.reduceMul, Nat.reduceSub, Nat.reduceLT, Nat.reduceLeDiff, reduceIte, reduceCtorEq, gne, q1, u1, appendA_U]
  refine ⟨_, [], PCall.pure fun H2 => szN d hd H2 _ ⟨rfl, rfl⟩, ?_⟩
  simp (config := { maxSteps := 1000000 }) only [go_sem, Int.reduceToNat, Int.reduceLE, Int.reduceLT, Int.reduceAdd, Int.reduceSub, Int.reduceMul, Int.reduceEq, Int.reduceNe, Nat.reduceEqDiff, Nat.reducePow, Nat.reduceDiv, Nat.reduceMod, Nat.reduceAdd, Nat.reduceMul, Nat.reduceSub, Nat.reduceLT, Nat.reduceLeDiff, reduceIte, reduceCtorEq, gne, q2, u2, appendA_U]
  have e1 : AVal.agg [.lit (.int .u64 0), .lit (.int .u64 (p1 : Int))] = wideV p1 := oneW_wide (by omega)
  have e2 : AVal.agg [.lit (.int .u64 0), .lit (.int .u64 (p2 : Int))] = wideV p2 := oneW_wide (by omega)
  refine AApply.clo ?_
  simp only [List.nil_append, List.append_nil]
  rw [e1, e2]
  refine fit_spec (sgnB n d) p1 p2 (by omega) (by omega) _ _ ⟨fun v hv => ⟨trivial, ?_⟩, fun hv H' hn => ⟨trivial, ?_⟩⟩
  · have hov : o = some v := ho2.trans hv
    obtain ⟨x, y, rfl⟩ := fitO_form hv
    rw [hov]
    simp (config := { maxSteps := 1000000 }) only [go_sem, Int.reduceToNat, Int.reduceLE, Int.reduceLT, Int.reduceAdd, Int.reduceSub, Int.reduceMul, Int.reduceEq, Int.reduceNe, Nat.reduceEqDiff, Nat.reducePow, Nat.reduceDiv, Nat.reduceMod, Nat.reduceAdd, Nat.reduceMul, Nat.reduceSub, Nat.reduceLT, Nat.reduceLeDiff, reduceIte, reduceCtorEq, qV, appendA_U]
    exact FinV.mk (Nat.zero_le _) ⟨_, rfl, fresh_q x y⟩
  · have hov : o = none := ho2.trans hv
    rw [hov]
    exact ⟨H', WeakV.refl _ _, Nat.zero_le _, rfl⟩
theorem gdOut_fz {o : Option AVal} (h : ∀ u, o = some u → ∃ x y, u = qV x y) : ∃ x y e, gdOut gdQ o = .tup [.agg [.lit (.int .i64 x), .lit (.int .i64 y)], .lit (.int .i64 e)] := by
  cases o with
  | none => exact ⟨0, 0, 6, rfl⟩
  | some u =>
    obtain ⟨x, y, rfl⟩ := h u rfl
    exact ⟨x, y, 0, rfl⟩
theorem fz_tq {S : Nat → Prop} {H : AHeap} {nx : Nat} (x y e : Int) : Fz S H nx (.tup [.agg [.lit (.int .i64 x), .lit (.int .i64 y)], .lit (.int .i64 e)]) (.tup [.agg [.lit (.int .i64 x), .lit (.int .i64 y)], .lit (.int .i64 e)]) :=
  .tup rfl fun i hi _ => match i, hi with
    | 0, _ => fz_lits _ _
    | 1, _ => .lit _
def makeR (n d : Int) : AVal := if d = 0 then .tup [qV 0 0, .lit (.int .i64 2)] else gdOut gdQ (makeO n d)
theorem make_spec (n d : Int) (hn : -9223372036854775808 ≤ n ∧ n ≤ 9223372036854775807) (hd : -9223372036854775808 ≤ d ∧ d ≤ 9223372036854775807) (H : AHeap) (K : ARes → AHeap → Prop) (hK : K (.ret (makeR n d)) H) :
    ACall Tryd.prog G0 15 [.lit (.int .i64 n), .lit (.int .i64 d)] H K := by
  refine ACall.clo ⟨_, Tryd.func15, rfl, rfl⟩ fun hcl => ?_
  refine ACall.of_body (n := 13) (rs := [.cell 4 23, .tmp 5]) Tryd.func15 rfl rfl rfl (by decide) (by kernel_rfl) (by simp) ?_
  by_cases hd0 : d = 0
  · unfold makeR at hK
    rw [if_pos hd0] at hK
    simp (config := { maxSteps := 1000000 }) only [go_sem, Int.reduceToNat, Int.reduceLE, Int.reduceLT, Int.reduceAdd, Int.reduceSub, Int.reduceMul, Int.reduceEq, Int.reduceNe, Nat.reduceEqDiff, Nat.reducePow, Nat.reduceDiv, Nat.reduceMod, Nat.reduceAdd, Nat.reduceMul, Nat.reduceSub, Nat.reduceLT, Nat.reduceLeDiff, reduceIte, reduceCtorEq, hd0, appendA_U]
    exact FinV.drop G0_ok hcl (fz_tq 0 0 2) hK
  unfold makeR at hK
  rw [if_neg hd0] at hK
  simp (config := { maxSteps := 1000000 }) only [go_sem, Int.reduceToNat, Int.reduceLE, Int.reduceLT, Int.reduceAdd, Int.reduceSub, Int.reduceMul, Int.reduceEq, Int.reduceNe, Nat.reduceEqDiff, Nat.reducePow, Nat.reduceDiv, Nat.reduceMod, Nat.reduceAdd, Nat.reduceMul, Nat.reduceSub, Nat.reduceLT, Nat.reduceLeDiff, reduceIte, reduceCtorEq, hd0, appendA_U]
  obtain ⟨H1, hH1⟩ : ∃ H1, H1 = ext H [.arr 0 3 [.lit (.int .i64 n)], .arr 0 3 [.lit (.int .i64 d)], .arr 0 23 [.lit (.int .i64 0), .lit (.int .i64 0)]] := ⟨_, rfl⟩
  have n1 : H1.next = H.next + 3 := by rw [hH1]; rfl
  have k0 : H1.get H.next = some (.arr 0 3 [.lit (.int .i64 n)]) := by rw [hH1]; exact get_ext0 ..
  have k1 : H1.get (H.next + 1) = some (.arr 0 3 [.lit (.int .i64 d)]) := by rw [hH1]; exact get_ext H _ 1 (by simp)
  rw [← hH1]
  refine AApply.clo ((gdQ_ok G0_ok 48 [.ptr H.next 0 0, .ptr (H.next + 1) 0 0] [.vptr [.lit (.int .i64 n)] 0, .vptr [.lit (.int .i64 d)] 0] H1 (makeO n d) rfl (fun H2 hag i h h' => ?_) (fun u hu => fitO_ok hu) (make1_spec n d hn hd hd0)).mono ?_)
  · match i, h with
    | 0, _ => exact .pfrz trivial ((hag _ (by omega)).trans k0) (by simp) rfl fun i hi _ => match i, hi with | 0, _ => .lit _
    | 1, _ => exact .pfrz trivial ((hag _ (by omega)).trans k1) (by simp) rfl fun i hi _ => match i, hi with | 0, _ => .lit _
  · rintro r H' ⟨rfl, rfl⟩
    refine ⟨trivial, ?_⟩
    obtain ⟨x, y, e, he⟩ := gdOut_fz (o := makeO n d) fun u hu => fitO_form hu
    rw [he] at hK ⊢
    rw [hH1]
    simp (config := { maxSteps := 1000000 }) only [go_sem, Int.reduceToNat, Int.reduceLE, Int.reduceLT, Int.reduceAdd, Int.reduceSub, Int.reduceMul, Int.reduceEq, Int.reduceNe, Nat.reduceEqDiff, Nat.reducePow, Nat.reduceDiv, Nat.reduceMod, Nat.reduceAdd, Nat.reduceMul, Nat.reduceSub, Nat.reduceLT, Nat.reduceLeDiff, reduceIte, reduceCtorEq, appendA_U]
    exact FinV.drop G0_ok hcl (fz_tq x y e) hK
end Go.Proofs
set_option linter.unusedSimpArgs false
set_option maxRecDepth 100000
namespace Go.Hx
@[go_sem] theorem partU_func (a b : Array TypeId) (c : Bool) (n : Nat) (cells : List AVal) (off : Nat) : partU (some (.func a b c)) n cells off = cells[off]? := rfl
end Go.Hx
namespace Go.Proofs
open Go.Hx
theorem plain_q (x y : Int) : Below 0 (.agg [.lit (.int .i64 x), .lit (.int .i64 y)]) := .agg fun i h => match i, h with
  | 0, _ => .lit _
  | 1, _ => .lit _
theorem both1_spec {f : FuncId} {a b c d : Int} {o : Option AVal} (ho : ∀ u, o = some u → ∃ x y, u = qV x y) (hf : ACall Tryd.prog G0 f [qV a b, qV c d] noH (GRes o)) :
    ACall Tryd.prog G0 73 [.vptr [.clo f [] []] 0, .vptr [.lit (.int .i64 a), .lit (.int .i64 b)] 0, .vptr [.lit (.int .i64 c), .lit (.int .i64 d)] 0] noH (GRes o) := by
  refine ACall.clo ⟨_, Tryd.func73, rfl, rfl⟩ fun hcl => ?_
  refine ACall.of_body (n := 8) (rs := [.cell 3 23]) Tryd.func73 rfl rfl rfl (by decide) (by kernel_rfl) (by simp) ?_
  simp (config := { maxSteps := 1000000 }) only [go_sem, Int.reduceToNat, Int.reduceLE, Int.reduceLT, Int.reduceAdd, Int.reduceSub, Int.reduceMul, Int.reduceEq, Int.reduceNe, Nat.reduceEqDiff, Nat.reducePow, Nat.reduceDiv, Nat.reduceMod, Nat.reduceAdd, Nat.reduceMul, Nat.reduceSub, Nat.reduceLT, Nat.reduceLeDiff, reduceIte, reduceCtorEq, appendA_U]
  refine AApply.clo ((ACall.frameR (args := [qV a b, qV c d]) G0_ok rfl (fun i hi _ => .plain (match i, hi with | 0, _ => plain_q a b | 1, _ => plain_q c d)) hf).mono ?_)
  rintro r H' ⟨rfl, rfl⟩
  refine ⟨trivial, ?_⟩
  cases o with
  | none => exact ⟨_, WeakV.refl _ _, Nat.zero_le _, rfl⟩
  | some u =>
    obtain ⟨x, y, rfl⟩ := ho u rfl
    show opsV _ _ _ _ _ _ _
    simp (config := { maxSteps := 1000000 }) only [go_sem, Int.reduceToNat, Int.reduceLE, Int.reduceLT, Int.reduceAdd, Int.reduceSub, Int.reduceMul, Int.reduceEq, Int.reduceNe, Nat.reduceEqDiff, Nat.reducePow, Nat.reduceDiv, Nat.reduceMod, Nat.reduceAdd, Nat.reduceMul, Nat.reduceSub, Nat.reduceLT, Nat.reduceLeDiff, reduceIte, reduceCtorEq, qV, appendA_U]
    exact FinV.mk (Nat.zero_le _) ⟨_, rfl, fresh_q x y⟩
/-- What both gives. -/
def bothR (a b c d : Int) (o : Option AVal) : AVal := if checkQ a b = 0 ∧ checkQ c d = 0 then gdOut gdQ o else .tup [qV 0 0, .lit (.int .i64 5)]
set_option maxHeartbeats 2000000 in
theorem both_spec {f : FuncId} {a b c d : Int} {o : Option AVal} (ra : (-9223372036854775808 ≤ a ∧ a ≤ 9223372036854775807) ∧ (-9223372036854775808 ≤ b ∧ b ≤ 9223372036854775807)) (rc : (-9223372036854775808 ≤ c ∧ c ≤ 9223372036854775807) ∧ (-9223372036854775808 ≤ d ∧ d ≤ 9223372036854775807))
    (ho : ∀ u, o = some u → ∃ x y, u = qV x y) (hf : checkQ a b = 0 → checkQ c d = 0 → ACall Tryd.prog G0 f [qV a b, qV c d] noH (GRes o)) (H : AHeap) (K : ARes → AHeap → Prop) (hK : K (.ret (bothR a b c d o)) H) :
    ACall Tryd.prog G0 51 [qV a b, qV c d, .clo f [] []] H K := by
  refine ACall.clo ⟨_, Tryd.func51, rfl, rfl⟩ fun hcl => ?_
  refine ACall.of_body (n := 22) (rs := [.cell 6 23, .tmp 7]) Tryd.func51 rfl rfl rfl (by decide) (by kernel_rfl) (by simp) ?_
  simp (config := { maxSteps := 1000000 }) only [go_sem, Int.reduceToNat, Int.reduceLE, Int.reduceLT, Int.reduceAdd, Int.reduceSub, Int.reduceMul, Int.reduceEq, Int.reduceNe, Nat.reduceEqDiff, Nat.reducePow, Nat.reduceDiv, Nat.reduceMod, Nat.reduceAdd, Nat.reduceMul, Nat.reduceSub, Nat.reduceLT, Nat.reduceLeDiff, reduceIte, reduceCtorEq, qV, appendA_U]
  refine AApply.clo (fcheck_spec a b ra.1 ra.2 _ _ ⟨trivial, ?_⟩)
  by_cases h1 : checkQ a b = 0
  rotate_left
  · unfold bothR at hK
    rw [if_neg fun h => h1 h.1] at hK
    simp (config := { maxSteps := 1000000 }) only [go_sem, Int.reduceToNat, Int.reduceLE, Int.reduceLT, Int.reduceAdd, Int.reduceSub, Int.reduceMul, Int.reduceEq, Int.reduceNe, Nat.reduceEqDiff, Nat.reducePow, Nat.reduceDiv, Nat.reduceMod, Nat.reduceAdd, Nat.reduceMul, Nat.reduceSub, Nat.reduceLT, Nat.reduceLeDiff, reduceIte, reduceCtorEq, h1, guardA_undef, appendA_U]
    exact FinV.drop G0_ok hcl (fz_tq 0 0 5) hK
  rw [h1]
  simp (config := { maxSteps := 1000000 }) only [go_sem, Int.reduceToNat, Int.reduceLE, Int.reduceLT, Int.reduceAdd, Int.reduceSub, Int.reduceMul, Int.reduceEq, Int.reduceNe, Nat.reduceEqDiff, Nat.reducePow, Nat.reduceDiv, Nat.reduceMod, Nat.reduceAdd, Nat.reduceMul, Nat.reduceSub, Nat.reduceLT, Nat.reduceLeDiff, reduceIte, reduceCtorEq, appendA_U]
  refine AApply.clo (fcheck_spec c d rc.1 rc.2 _ _ ⟨trivial, ?_⟩)
  by_cases h2 : checkQ c d = 0
  rotate_left
  · unfold bothR at hK
    rw [if_neg fun h => h2 h.2] at hK
    simp (config := { maxSteps := 1000000 }) only [go_sem, Int.reduceToNat, Int.reduceLE, Int.reduceLT, Int.reduceAdd, Int.reduceSub, Int.reduceMul, Int.reduceEq, Int.reduceNe, Nat.reduceEqDiff, Nat.reducePow, Nat.reduceDiv, Nat.reduceMod, Nat.reduceAdd, Nat.reduceMul, Nat.reduceSub, Nat.reduceLT, Nat.reduceLeDiff, reduceIte, reduceCtorEq, h2, appendA_U]
    exact FinV.drop G0_ok hcl (fz_tq 0 0 5) hK
  rw [h2]
  unfold bothR at hK
  rw [if_pos ⟨h1, h2⟩] at hK
  simp (config := { maxSteps := 1000000 }) only [go_sem, Int.reduceToNat, Int.reduceLE, Int.reduceLT, Int.reduceAdd, Int.reduceSub, Int.reduceMul, Int.reduceEq, Int.reduceNe, Nat.reduceEqDiff, Nat.reducePow, Nat.reduceDiv, Nat.reduceMod, Nat.reduceAdd, Nat.reduceMul, Nat.reduceSub, Nat.reduceLT, Nat.reduceLeDiff, reduceIte, reduceCtorEq, appendA_U]
  obtain ⟨H1, hH1⟩ : ∃ H1, H1 = ext H [.arr 0 23 [.lit (.int .i64 a), .lit (.int .i64 b)], .arr 0 23 [.lit (.int .i64 c), .lit (.int .i64 d)], .arr 0 83 (AVal.clo f [] []).cells, .arr 0 23 [.lit (.int .i64 0), .lit (.int .i64 0)]] := ⟨_, rfl⟩
  have n1 : H1.next = H.next + 4 := by rw [hH1]; rfl
  have k0 : H1.get H.next = some (.arr 0 23 [.lit (.int .i64 a), .lit (.int .i64 b)]) := by rw [hH1]; exact get_ext0 ..
  have k1 : H1.get (H.next + 1) = some (.arr 0 23 [.lit (.int .i64 c), .lit (.int .i64 d)]) := by rw [hH1]; exact get_ext H _ 1 (by simp)
  have k2 : H1.get (H.next + 2) = some (.arr 0 83 [.clo f [] []]) := by rw [hH1]; exact get_ext H _ 2 (by simp)
  rw [← hH1]
  refine AApply.clo ((gdQ_ok G0_ok 73 [.ptr (H.next + 2) 0 0, .ptr H.next 0 0, .ptr (H.next + 1) 0 0] [.vptr [.clo f [] []] 0, .vptr [.lit (.int .i64 a), .lit (.int .i64 b)] 0, .vptr [.lit (.int .i64 c), .lit (.int .i64 d)] 0] H1 o rfl (fun H2 hag i h h' => ?_) (fun u hu => ?_) (both1_spec ho (hf h1 h2))).mono ?_)
  · match i, h with
    | 0, _ => exact .pfrz trivial ((hag _ (by omega)).trans k2) (by simp) rfl fun i hi _ => match i, hi with | 0, _ => .clo rfl rfl (fun i h _ => absurd h (Nat.not_lt_zero _)) (fun i h _ => absurd h (Nat.not_lt_zero _))
    | 1, _ => exact .pfrz trivial ((hag _ (by omega)).trans k0) (by simp) rfl fun i hi _ => match i, hi with | 0, _ => .lit _ | 1, _ => .lit _
    | 2, _ => exact .pfrz trivial ((hag _ (by omega)).trans k1) (by simp) rfl fun i hi _ => match i, hi with | 0, _ => .lit _ | 1, _ => .lit _
  · obtain ⟨x, y, rfl⟩ := ho u hu
    rfl
  · rintro r H' ⟨rfl, rfl⟩
    refine ⟨trivial, ?_⟩
    obtain ⟨x, y, e, he⟩ := gdOut_fz ho
    rw [he] at hK ⊢
    rw [hH1]
    simp (config := { maxSteps := 1000000 }) only [go_sem, Int.reduceToNat, Int.reduceLE, Int.reduceLT, Int.reduceAdd, Int.reduceSub, Int.reduceMul, Int.reduceEq, Int.reduceNe, Nat.reduceEqDiff, Nat.reducePow, Nat.reduceDiv, Nat.reduceMod, Nat.reduceAdd, Nat.reduceMul, Nat.reduceSub, Nat.reduceLT, Nat.reduceLeDiff, reduceIte, reduceCtorEq, appendA_U]
    exact FinV.drop G0_ok hcl (fz_tq x y e) hK
theorem bothR_form {a b c d : Int} {o : Option AVal} (ho : ∀ u, o = some u → ∃ x y, u = qV x y) : ∃ x y e, bothR a b c d o = .tup [.agg [.lit (.int .i64 x), .lit (.int .i64 y)], .lit (.int .i64 e)] := by
  unfold bothR
  split
  · exact gdOut_fz ho
  · exact ⟨0, 0, 5, rfl⟩
theorem checkQ_range {n d : Int} (h : checkQ n d = 0) : (-4611686018427387903 ≤ n ∧ n ≤ 4611686018427387903) ∧ (1 ≤ d ∧ d ≤ 4611686018427387903) ∧ Int.gcd n d = 1 := by
  unfold checkQ maxN at h
  by_cases h2 : d < 1 ∨ d > 4611686018427387903 ∨ n < -4611686018427387903 ∨ n > 4611686018427387903
  · rw [if_pos h2] at h; exact absurd h (by decide)
  · rw [if_neg h2] at h
    by_cases h3 : Int.gcd n d ≠ 1
    · rw [if_pos h3] at h; exact absurd h (by decide)
    · exact ⟨by omega, by omega, by omega⟩
def PRes (o : Option AVal) (r : ARes) : Prop := match o with
  | some v => r = .ret v
  | none => r = .panic
theorem outK_g {o : Option AVal} : OutK o noH (fun r _ => PRes o r) := ⟨fun v h => by subst h; rfl, fun h H' _ => by subst h; rfl⟩
theorem prodO_form {a b c d : Int} {u : AVal} (h : prodO a b c d = some u) : ∃ x y, u = qV x y := fitO_form h
theorem gres_of {o : Option AVal} (ho : ∀ u, o = some u → ∃ x y, u = qV x y) {r : ARes} {H' : AHeap} (h : PRes o r) : GRes o r H' := by
  cases o with
  | none => exact h
  | some v =>
    obtain ⟨x, y, rfl⟩ := ho v rfl
    exact ⟨_, h, fresh_q x y⟩
/-- A product. -/
theorem mul_spec (a b c d : Int) (ra : (-9223372036854775808 ≤ a ∧ a ≤ 9223372036854775807) ∧ (-9223372036854775808 ≤ b ∧ b ≤ 9223372036854775807)) (rc : (-9223372036854775808 ≤ c ∧ c ≤ 9223372036854775807) ∧ (-9223372036854775808 ≤ d ∧ d ≤ 9223372036854775807))
    (H : AHeap) (K : ARes → AHeap → Prop) (hK : K (.ret (bothR a b c d (prodO a b c d))) H) : ACall Tryd.prog G0 24 [qV a b, qV c d] H K := by
  refine ACall.clo ⟨_, Tryd.func24, rfl, rfl⟩ fun hcl => ?_
  refine ACall.of_body (n := 11) (rs := [.cell 4 23, .tmp 5]) Tryd.func24 rfl rfl rfl (by decide) (by kernel_rfl) (by simp) ?_
  simp (config := { maxSteps := 1000000 }) only [go_sem, Int.reduceToNat, Int.reduceLE, Int.reduceLT, Int.reduceAdd, Int.reduceSub, Int.reduceMul, Int.reduceEq, Int.reduceNe, Nat.reduceEqDiff, Nat.reducePow, Nat.reduceDiv, Nat.reduceMod, Nat.reduceAdd, Nat.reduceMul, Nat.reduceSub, Nat.reduceLT, Nat.reduceLeDiff, reduceIte, reduceCtorEq, qV, appendA_U]
  refine AApply.clo (both_spec (a := a) (b := b) (c := c) (d := d) (o := prodO a b c d) ra rc (fun u hu => prodO_form hu) (fun h1 h2 => ?_) _ _ ⟨trivial, ?_⟩)
  · obtain ⟨p1, p2, _⟩ := checkQ_range h1
    obtain ⟨p3, p4, _⟩ := checkQ_range h2
    exact (product_spec a b c d p1 p2 p3 p4 noH _ outK_g).mono fun r H' h => gres_of (fun u hu => prodO_form hu) h
  · obtain ⟨x, y, e, he⟩ := bothR_form (a := a) (b := b) (c := c) (d := d) (o := prodO a b c d) fun u hu => prodO_form hu
    rw [he] at hK ⊢
    simp (config := { maxSteps := 1000000 }) only [go_sem, Int.reduceToNat, Int.reduceLE, Int.reduceLT, Int.reduceAdd, Int.reduceSub, Int.reduceMul, Int.reduceEq, Int.reduceNe, Nat.reduceEqDiff, Nat.reducePow, Nat.reduceDiv, Nat.reduceMod, Nat.reduceAdd, Nat.reduceMul, Nat.reduceSub, Nat.reduceLT, Nat.reduceLeDiff, reduceIte, reduceCtorEq, appendA_U]
    exact FinV.drop G0_ok hcl (fz_tq x y e) hK
/-- A quotient. -/
def quotO (a b c d : Int) : Option AVal := if c < 0 then prodO a b (-d) (-c) else prodO a b d c
def divR (a b c d : Int) : AVal := if checkQ a b = 0 ∧ checkQ c d = 0 ∧ c = 0 then .tup [qV 0 0, .lit (.int .i64 2)] else bothR a b c d (quotO a b c d)
theorem quotO_form {a b c d : Int} {u : AVal} (h : quotO a b c d = some u) : ∃ x y, u = qV x y := by
  unfold quotO at h
  split at h
  · exact prodO_form h
  · exact prodO_form h
theorem div1_spec (a b c d : Int) (ha : -4611686018427387903 ≤ a ∧ a ≤ 4611686018427387903) (hb : 1 ≤ b ∧ b ≤ 4611686018427387903) (hc : -4611686018427387903 ≤ c ∧ c ≤ 4611686018427387903) (hd : 1 ≤ d ∧ d ≤ 4611686018427387903) (hc0 : c ≠ 0) :
    ACall Tryd.prog G0 58 [qV a b, qV c d] noH (GRes (quotO a b c d)) := by
  refine ACall.clo ⟨_, Tryd.func58, rfl, rfl⟩ fun hcl => ?_
  have w1 := IntWalk.i64_in (-c) (by omega)
  have w2 := IntWalk.i64_in (-d) (by omega)
  have e1 : 0 - c = -c := by omega
  have e2 : 0 - d = -d := by omega
  refine ACall.of_body (n := 24) (rs := [.cell 4 23]) Tryd.func58 rfl rfl rfl (by decide) (by kernel_rfl) (by simp) ?_
  by_cases hn : c < 0
  · have hq : quotO a b c d = prodO a b (-d) (-c) := if_pos hn
    rw [hq]
    simp (config := { maxSteps := 1000000 }) only [go_sem, Int.reduceToNat, Int.reduceLE, Int.reduceLT, Int.reduceAdd, Int.reduceSub, Int.reduceMul, Int.reduceEq, Int.reduceNe, Nat.reduceEqDiff, Nat.reducePow, Nat.reduceDiv, Nat.reduceMod, Nat.reduceAdd, Nat.reduceMul, Nat.reduceSub, Nat.reduceLT, Nat.reduceLeDiff, reduceIte, reduceCtorEq, qV, hn, w1, w2, e1, e2, appendA_U]
    refine AApply.clo (product_spec a b (-d) (-c) ha hb (by omega) (by omega) _ _ ⟨fun v hv => ⟨trivial, ?_⟩, fun ho H' hh => ⟨trivial, ?_⟩⟩)
    · obtain ⟨x, y, rfl⟩ := prodO_form hv
      rw [hv]
      simp (config := { maxSteps := 1000000 }) only [go_sem, Int.reduceToNat, Int.reduceLE, Int.reduceLT, Int.reduceAdd, Int.reduceSub, Int.reduceMul, Int.reduceEq, Int.reduceNe, Nat.reduceEqDiff, Nat.reducePow, Nat.reduceDiv, Nat.reduceMod, Nat.reduceAdd, Nat.reduceMul, Nat.reduceSub, Nat.reduceLT, Nat.reduceLeDiff, reduceIte, reduceCtorEq, qV, appendA_U]
      exact FinV.mk (Nat.zero_le _) ⟨_, rfl, fresh_q x y⟩
    · rw [ho]
      exact ⟨H', WeakV.refl _ _, Nat.zero_le _, rfl⟩
  · have hq : quotO a b c d = prodO a b d c := if_neg hn
    rw [hq]
    simp (config := { maxSteps := 1000000 }) only [go_sem, Int.reduceToNat, Int.reduceLE, Int.reduceLT, Int.reduceAdd, Int.reduceSub, Int.reduceMul, Int.reduceEq, Int.reduceNe, Nat.reduceEqDiff, Nat.reducePow, Nat.reduceDiv, Nat.reduceMod, Nat.reduceAdd, Nat.reduceMul, Nat.reduceSub, Nat.reduceLT, Nat.reduceLeDiff, reduceIte, reduceCtorEq, qV, hn, w1, w2, e1, e2, appendA_U]
    refine AApply.clo (product_spec a b d c ha hb (by omega) (by omega) _ _ ⟨fun v hv => ⟨trivial, ?_⟩, fun ho H' hh => ⟨trivial, ?_⟩⟩)
    · obtain ⟨x, y, rfl⟩ := prodO_form hv
      rw [hv]
      simp (config := { maxSteps := 1000000 }) only [go_sem, Int.reduceToNat, Int.reduceLE, Int.reduceLT, Int.reduceAdd, Int.reduceSub, Int.reduceMul, Int.reduceEq, Int.reduceNe, Nat.reduceEqDiff, Nat.reducePow, Nat.reduceDiv, Nat.reduceMod, Nat.reduceAdd, Nat.reduceMul, Nat.reduceSub, Nat.reduceLT, Nat.reduceLeDiff, reduceIte, reduceCtorEq, qV, appendA_U]
      exact FinV.mk (Nat.zero_le _) ⟨_, rfl, fresh_q x y⟩
    · rw [ho]
      exact ⟨H', WeakV.refl _ _, Nat.zero_le _, rfl⟩
theorem div_spec (a b c d : Int) (ra : (-9223372036854775808 ≤ a ∧ a ≤ 9223372036854775807) ∧ (-9223372036854775808 ≤ b ∧ b ≤ 9223372036854775807)) (rc : (-9223372036854775808 ≤ c ∧ c ≤ 9223372036854775807) ∧ (-9223372036854775808 ≤ d ∧ d ≤ 9223372036854775807))
    (H : AHeap) (K : ARes → AHeap → Prop) (hK : K (.ret (divR a b c d)) H) : ACall Tryd.prog G0 25 [qV a b, qV c d] H K := by
  refine ACall.clo ⟨_, Tryd.func25, rfl, rfl⟩ fun hcl => ?_
  refine ACall.of_body (n := 25) (rs := [.cell 4 23, .tmp 5]) Tryd.func25 rfl rfl rfl (by decide) (by kernel_rfl) (by simp) ?_
  have fin : ∀ L, K (.ret (bothR a b c d (quotO a b c d))) H → ∀ x y e, bothR a b c d (quotO a b c d) = .tup [.agg [.lit (.int .i64 x), .lit (.int .i64 y)], .lit (.int .i64 e)] → FinV Tryd.prog G0 H K (.tup [.agg [.lit (.int .i64 x), .lit (.int .i64 y)], .lit (.int .i64 e)]) (ext H L) := fun L hk x y e he => by
    rw [he] at hk; exact FinV.drop G0_ok hcl (fz_tq x y e) hk
  obtain ⟨x, y, e, he⟩ := bothR_form (a := a) (b := b) (c := c) (d := d) (o := quotO a b c d) fun u hu => quotO_form hu
  simp (config := { maxSteps := 1000000 }) only [go_sem, Int.reduceToNat, Int.reduceLE, Int.reduceLT, Int.reduceAdd, Int.reduceSub, Int.reduceMul, Int.reduceEq, Int.reduceNe, Nat.reduceEqDiff, Nat.reducePow, Nat.reduceDiv, Nat.reduceMod, Nat.reduceAdd, Nat.reduceMul, Nat.reduceSub, Nat.reduceLT, Nat.reduceLeDiff, reduceIte, reduceCtorEq, qV, appendA_U]
  refine AApply.clo (fcheck_spec a b ra.1 ra.2 _ _ ⟨trivial, ?_⟩)
  by_cases h1 : checkQ a b = 0
  rotate_left
  · unfold divR at hK
    rw [if_neg fun h => h1 h.1] at hK
    simp (config := { maxSteps := 1000000 }) only [go_sem, Int.reduceToNat, Int.reduceLE, Int.reduceLT, Int.reduceAdd, Int.reduceSub, Int.reduceMul, Int.reduceEq, Int.reduceNe, Nat.reduceEqDiff, Nat.reducePow, Nat.reduceDiv, Nat.reduceMod, Nat.reduceAdd, Nat.reduceMul, Nat.reduceSub, Nat.reduceLT, Nat.reduceLeDiff, reduceIte, reduceCtorEq, h1, guardA_undef, appendA_U]
    refine AApply.clo (both_spec (a := a) (b := b) (c := c) (d := d) (o := quotO a b c d) ra rc (fun u hu => quotO_form hu) (fun q1 q2 => absurd q1 h1) _ _ ⟨trivial, ?_⟩)
    have := fun L => fin L hK x y e he
    rw [he]
    simp (config := { maxSteps := 1000000 }) only [go_sem, Int.reduceToNat, Int.reduceLE, Int.reduceLT, Int.reduceAdd, Int.reduceSub, Int.reduceMul, Int.reduceEq, Int.reduceNe, Nat.reduceEqDiff, Nat.reducePow, Nat.reduceDiv, Nat.reduceMod, Nat.reduceAdd, Nat.reduceMul, Nat.reduceSub, Nat.reduceLT, Nat.reduceLeDiff, reduceIte, reduceCtorEq, appendA_U]
    exact this _
  rw [h1]
  simp (config := { maxSteps := 1000000 }) only [go_sem, Int.reduceToNat, Int.reduceLE, Int.reduceLT, Int.reduceAdd, Int.reduceSub, Int.reduceMul, Int.reduceEq, Int.reduceNe, Nat.reduceEqDiff, Nat.reducePow, Nat.reduceDiv, Nat.reduceMod, Nat.reduceAdd, Nat.reduceMul, Nat.reduceSub, Nat.reduceLT, Nat.reduceLeDiff, reduceIte, reduceCtorEq, appendA_U]
  refine AApply.clo (fcheck_spec c d rc.1 rc.2 _ _ ⟨trivial, ?_⟩)
  by_cases h2 : checkQ c d = 0
  rotate_left
  · unfold divR at hK
    rw [if_neg fun h => h2 h.2.1] at hK
    simp (config := { maxSteps := 1000000 }) only [go_sem, Int.reduceToNat, Int.reduceLE, Int.reduceLT, Int.reduceAdd, Int.reduceSub, Int.reduceMul, Int.reduceEq, Int.reduceNe, Nat.reduceEqDiff, Nat.reducePow, Nat.reduceDiv, Nat.reduceMod, Nat.reduceAdd, Nat.reduceMul, Nat.reduceSub, Nat.reduceLT, Nat.reduceLeDiff, reduceIte, reduceCtorEq, h2, guardA_undef, appendA_U]
    refine AApply.clo (both_spec (a := a) (b := b) (c := c) (d := d) (o := quotO a b c d) ra rc (fun u hu => quotO_form hu) (fun q1 q2 => absurd q2 h2) _ _ ⟨trivial, ?_⟩)
    have := fun L => fin L hK x y e he
    rw [he]
    simp (config := { maxSteps := 1000000 }) only [go_sem, Int.reduceToNat, Int.reduceLE, Int.reduceLT, Int.reduceAdd, Int.reduceSub, Int.reduceMul, Int.reduceEq, Int.reduceNe, Nat.reduceEqDiff, Nat.reducePow, Nat.reduceDiv, Nat.reduceMod, Nat.reduceAdd, Nat.reduceMul, Nat.reduceSub, Nat.reduceLT, Nat.reduceLeDiff, reduceIte, reduceCtorEq, appendA_U]
    exact this _
  rw [h2]
  by_cases hc0 : c = 0
  · unfold divR at hK
    rw [if_pos ⟨h1, h2, hc0⟩] at hK
    simp (config := { maxSteps := 1000000 }) only [go_sem, Int.reduceToNat, Int.reduceLE, Int.reduceLT, Int.reduceAdd, Int.reduceSub, Int.reduceMul, Int.reduceEq, Int.reduceNe, Nat.reduceEqDiff, Nat.reducePow, Nat.reduceDiv, Nat.reduceMod, Nat.reduceAdd, Nat.reduceMul, Nat.reduceSub, Nat.reduceLT, Nat.reduceLeDiff, reduceIte, reduceCtorEq, hc0, appendA_U]
    exact FinV.drop G0_ok hcl (fz_tq 0 0 2) hK
  · unfold divR at hK
    rw [if_neg fun h => hc0 h.2.2] at hK
    simp (config := { maxSteps := 1000000 }) only [go_sem, Int.reduceToNat, Int.reduceLE, Int.reduceLT, Int.reduceAdd, Int.reduceSub, Int.reduceMul, Int.reduceEq, Int.reduceNe, Nat.reduceEqDiff, Nat.reducePow, Nat.reduceDiv, Nat.reduceMod, Nat.reduceAdd, Nat.reduceMul, Nat.reduceSub, Nat.reduceLT, Nat.reduceLeDiff, reduceIte, reduceCtorEq, hc0, appendA_U]
    obtain ⟨p1, p2, _⟩ := checkQ_range h1
    obtain ⟨p3, p4, _⟩ := checkQ_range h2
    refine AApply.clo (both_spec (a := a) (b := b) (c := c) (d := d) (o := quotO a b c d) ra rc (fun u hu => quotO_form hu) (fun q1 q2 => div1_spec a b c d p1 p2 p3 p4 hc0) _ _ ⟨trivial, ?_⟩)
    have := fun L => fin L hK x y e he
    rw [he]
    simp (config := { maxSteps := 1000000 }) only [go_sem, Int.reduceToNat, Int.reduceLE, Int.reduceLT, Int.reduceAdd, Int.reduceSub, Int.reduceMul, Int.reduceEq, Int.reduceNe, Nat.reduceEqDiff, Nat.reducePow, Nat.reduceDiv, Nat.reduceMod, Nat.reduceAdd, Nat.reduceMul, Nat.reduceSub, Nat.reduceLT, Nat.reduceLeDiff, reduceIte, reduceCtorEq, appendA_U]
    exact this _
end Go.Proofs
set_option linter.unusedSimpArgs false
set_option maxRecDepth 100000
namespace Go.Proofs
open Go.Hx
/-! Cmp and Floor. -/
theorem bin_eql_wide {P : Program} {t e : TypeId} {x y : Operand} {k : IntKind} {a b : Nat} (ht : P.underlying t = some (.array 2 e)) (he : P.underlying e = some (.int k)) (hs : P.cellsOf e = 1) (hg : P.eqGuardType P.depth t = false) :
    binA P .eql t x y (.agg [.lit (.int .u64 (a / 18446744073709551616 : Nat)), .lit (.int .u64 (a % 18446744073709551616 : Nat))]) (.agg [.lit (.int .u64 (b / 18446744073709551616 : Nat)), .lit (.int .u64 (b % 18446744073709551616 : Nat))]) = some (.lit (.bool (decide (a = b)))) := by
  rw [bin_eql_pair ht he hs hg]
  congr 3
  have d1 := Nat.div_add_mod a 18446744073709551616
  have d2 := Nat.div_add_mod b 18446744073709551616
  by_cases h : a = b
  · subst h; simp
  · rw [decide_eq_false h]
    by_cases h1 : a / 18446744073709551616 = b / 18446744073709551616
    · have h2 : ¬ a % 18446744073709551616 = b % 18446744073709551616 := fun h2 => h (by rw [← d1, ← d2, h1, h2])
      have h3 : ¬ ((a % 18446744073709551616 : Nat) : Int) = ((b % 18446744073709551616 : Nat) : Int) := by omega
      rw [beq_eq_false_iff_ne.mpr h3, Bool.and_false]
    · have h3 : ¬ ((a / 18446744073709551616 : Nat) : Int) = ((b / 18446744073709551616 : Nat) : Int) := by omega
      rw [beq_eq_false_iff_ne.mpr h3, Bool.false_and]
def cmpR (a b c d : Int) : Int := if (a < 0 ∧ ¬ c < 0) then -1 else if (¬ a < 0 ∧ c < 0) then 1 else if a.natAbs * d.natAbs = c.natAbs * b.natAbs then 0 else if (a.natAbs * d.natAbs < c.natAbs * b.natAbs ↔ 0 ≤ a) then -1 else 1
set_option maxHeartbeats 8000000 in
theorem cmp1_spec (a b c d : Int) (ha : -4611686018427387903 ≤ a ∧ a ≤ 4611686018427387903) (hb : 1 ≤ b ∧ b ≤ 4611686018427387903) (hc : -4611686018427387903 ≤ c ∧ c ≤ 4611686018427387903) (hd : 1 ≤ d ∧ d ≤ 4611686018427387903) (H : AHeap) (K : ARes → AHeap → Prop)
    (hK : K (.ret (.lit (.int .i64 (cmpR a b c d)))) H) : ACall Tryd.prog G0 60 [qV a b, qV c d] H K := by
  refine ACall.clo ⟨_, Tryd.func60, rfl, rfl⟩ fun hcl => ?_
  have wb := IntWalk.u64_in b (by omega)
  have wd := IntWalk.u64_in d (by omega)
  have tm : ∀ (x y : Nat) (hx : x ≤ 4611686018427387903) (hy : y ≤ 4611686018427387903) (z : Int) (hz : z = (y : Int)) (H2 : AHeap) (K : ARes → AHeap → Prop), K (.ret (wideV (x * y))) H2 → ACall Tryd.prog G0 61 [.lit (.int .u64 (x : Int)), .lit (.int .u64 z)] H2 K := fun x y hx hy z hz H2 K h => by rw [hz]; exact tmN x y hx hy H2 K h
  refine ACall.of_body (n := 44) (rs := [.tmp 4]) Tryd.func60 rfl rfl rfl (by decide) (by kernel_rfl) (by simp) ?_
  simp (config := { maxSteps := 1000000 }) only [go_sem, Int.reduceToNat, Int.reduceLE, Int.reduceLT, Int.reduceAdd, Int.reduceSub, Int.reduceMul, Int.reduceEq, Int.reduceNe, Nat.reduceEqDiff, Nat.reducePow, Nat.reduceDiv, Nat.reduceMod, Nat.reduceAdd, Nat.reduceMul, Nat.reduceSub, Nat.reduceLT, Nat.reduceLeDiff, reduceIte, reduceCtorEq, qV, appendA_U]
  refine W.draw 16 [0, 1, 3, 0, 8, 24, 63, 0, 128, 511, 0, 1024, 3072, 8191, 0, 0] Tryd.mixed (by kernel_rfl) (by kernel_rfl) ?_
  simp (config := { maxSteps := 1000000 }) only [go_sem, Int.reduceToNat, Int.reduceLE, Int.reduceLT, Int.reduceAdd, Int.reduceSub, Int.reduceMul, Int.reduceEq, Int.reduceNe, Nat.reduceEqDiff, Nat.reducePow, Nat.reduceDiv, Nat.reduceMod, Nat.reduceAdd, Nat.reduceMul, Nat.reduceSub, Nat.reduceLT, Nat.reduceLeDiff, reduceIte, reduceCtorEq, qV, appendA_U]
  refine ⟨_, [], PCall.pure fun H2 => szN a (by omega) H2 _ ⟨rfl, rfl⟩, ?_⟩
  simp (config := { maxSteps := 1000000 }) only [go_sem, Int.reduceToNat, Int.reduceLE, Int.reduceLT, Int.reduceAdd, Int.reduceSub, Int.reduceMul, Int.reduceEq, Int.reduceNe, Nat.reduceEqDiff, Nat.reducePow, Nat.reduceDiv, Nat.reduceMod, Nat.reduceAdd, Nat.reduceMul, Nat.reduceSub, Nat.reduceLT, Nat.reduceLeDiff, reduceIte, reduceCtorEq, qV, wb, wd, appendA_U]
  refine ⟨_, [], PCall.pure fun H2 => tm a.natAbs d.natAbs (by omega) (by omega) d (by omega) H2 _ ⟨rfl, rfl⟩, ?_⟩
  simp (config := { maxSteps := 1000000 }) only [go_sem, Int.reduceToNat, Int.reduceLE, Int.reduceLT, Int.reduceAdd, Int.reduceSub, Int.reduceMul, Int.reduceEq, Int.reduceNe, Nat.reduceEqDiff, Nat.reducePow, Nat.reduceDiv, Nat.reduceMod, Nat.reduceAdd, Nat.reduceMul, Nat.reduceSub, Nat.reduceLT, Nat.reduceLeDiff, reduceIte, reduceCtorEq, qV, wb, wd, appendA_U]
  refine ⟨_, [], PCall.pure fun H2 => szN c (by omega) H2 _ ⟨rfl, rfl⟩, ?_⟩
  simp (config := { maxSteps := 1000000 }) only [go_sem, Int.reduceToNat, Int.reduceLE, Int.reduceLT, Int.reduceAdd, Int.reduceSub, Int.reduceMul, Int.reduceEq, Int.reduceNe, Nat.reduceEqDiff, Nat.reducePow, Nat.reduceDiv, Nat.reduceMod, Nat.reduceAdd, Nat.reduceMul, Nat.reduceSub, Nat.reduceLT, Nat.reduceLeDiff, reduceIte, reduceCtorEq, qV, wb, wd, appendA_U]
  refine ⟨_, [], PCall.pure fun H2 => tm c.natAbs b.natAbs (by omega) (by omega) b (by omega) H2 _ ⟨rfl, rfl⟩, ?_⟩
  have eqw : ∀ (o1 o2 : Operand) (a b : Nat), binA Tryd.prog .eql 79 o1 o2 (.agg [.lit (.int .u64 (a / 18446744073709551616 : Nat)), .lit (.int .u64 (a % 18446744073709551616 : Nat))]) (.agg [.lit (.int .u64 (b / 18446744073709551616 : Nat)), .lit (.int .u64 (b % 18446744073709551616 : Nat))]) = some (.lit (.bool (decide (a = b)))) := fun o1 o2 a b => bin_eql_wide (a := a) (b := b) Tryd.underlying79 Tryd.underlying69 (by kernel_rfl) (by kernel_rfl)
  obtain ⟨p, hp⟩ : ∃ p, p = a.natAbs * d.natAbs := ⟨_, rfl⟩
  obtain ⟨q, hq⟩ : ∃ q, q = c.natAbs * b.natAbs := ⟨_, rfl⟩
  unfold cmpR at hK
  rw [← hp, ← hq] at hK ⊢
  have n3 : H.next + 2 + 1 = H.next + 3 := rfl
  simp (config := { maxSteps := 1000000 }) only [go_sem, Int.reduceToNat, Int.reduceLE, Int.reduceLT, Int.reduceAdd, Int.reduceSub, Int.reduceMul, Int.reduceEq, Int.reduceNe, Nat.reduceEqDiff, Nat.reducePow, Nat.reduceDiv, Nat.reduceMod, Nat.reduceAdd, Nat.reduceMul, Nat.reduceSub, Nat.reduceLT, Nat.reduceLeDiff, reduceIte, reduceCtorEq, qV, wb, wd, wideV, appendA_U]
  refine ⟨by refine ⟨?_, ?_, ?_, ?_, ?_, ?_, ?_, ?_⟩ <;> (intro x hx; omega), by refine ⟨?_, ?_, ?_, ?_, ?_, ?_, ?_, ?_⟩ <;> (intro x hx; omega), ?_⟩
  rw [ext_ext, ext_ext]
  simp only [List.cons_append, List.nil_append]
  by_cases h1 : a < 0
  · have z3 : ¬ 0 ≤ a := by omega
    by_cases h2 : c < 0
    · rw [if_neg (by omega), if_neg (by omega)] at hK
      by_cases hxy : p = q
      · rw [if_pos hxy] at hK
        simp (config := { maxSteps := 1000000 }) only [go_sem, Int.reduceToNat, Int.reduceLE, Int.reduceLT, Int.reduceAdd, Int.reduceSub, Int.reduceMul, Int.reduceEq, Int.reduceNe, Nat.reduceEqDiff, Nat.reducePow, Nat.reduceDiv, Nat.reduceMod, Nat.reduceAdd, Nat.reduceMul, Nat.reduceSub, Nat.reduceLT, Nat.reduceLeDiff, reduceIte, reduceCtorEq, n3, h1, h2, bin_neq_bool Tryd.underlying4, eqw, hxy, appendA_U]
        exact FinV.drop G0_ok hcl (.lit _) hK
      rw [if_neg hxy] at hK
      simp (config := { maxSteps := 1000000 }) only [go_sem, Int.reduceToNat, Int.reduceLE, Int.reduceLT, Int.reduceAdd, Int.reduceSub, Int.reduceMul, Int.reduceEq, Int.reduceNe, Nat.reduceEqDiff, Nat.reducePow, Nat.reduceDiv, Nat.reduceMod, Nat.reduceAdd, Nat.reduceMul, Nat.reduceSub, Nat.reduceLT, Nat.reduceLeDiff, reduceIte, reduceCtorEq, n3, h1, h2, bin_neq_bool Tryd.underlying4, eqw, hxy, appendA_U]
      refine W.draw 6 [0, 0, 3, 0, 8, 24] Tryd.mixed (by kernel_rfl) (by kernel_rfl) ?_
      simp (config := { maxSteps := 1000000 }) only [go_sem, Int.reduceToNat, Int.reduceLE, Int.reduceLT, Int.reduceAdd, Int.reduceSub, Int.reduceMul, Int.reduceEq, Int.reduceNe, Nat.reduceEqDiff, Nat.reducePow, Nat.reduceDiv, Nat.reduceMod, Nat.reduceAdd, Nat.reduceMul, Nat.reduceSub, Nat.reduceLT, Nat.reduceLeDiff, reduceIte, reduceCtorEq, n3, h1, h2, bin_neq_bool Tryd.underlying4, eqw, hxy, appendA_U]
      refine ⟨_, [], PCall.pure fun H2 => less_spec p q H2 _ ⟨rfl, rfl⟩, ?_⟩
      by_cases hl : p < q
      · simp (config := { maxSteps := 1000000 }) only [go_sem, Int.reduceToNat, Int.reduceLE, Int.reduceLT, Int.reduceAdd, Int.reduceSub, Int.reduceMul, Int.reduceEq, Int.reduceNe, Nat.reduceEqDiff, Nat.reducePow, Nat.reduceDiv, Nat.reduceMod, Nat.reduceAdd, Nat.reduceMul, Nat.reduceSub, Nat.reduceLT, Nat.reduceLeDiff, reduceIte, reduceCtorEq, z3, bin_eql_bool Tryd.underlying4, hl, appendA_U]
        rw [if_neg (by omega)] at hK
        exact FinV.drop G0_ok hcl (.lit _) hK
      · simp (config := { maxSteps := 1000000 }) only [go_sem, Int.reduceToNat, Int.reduceLE, Int.reduceLT, Int.reduceAdd, Int.reduceSub, Int.reduceMul, Int.reduceEq, Int.reduceNe, Nat.reduceEqDiff, Nat.reducePow, Nat.reduceDiv, Nat.reduceMod, Nat.reduceAdd, Nat.reduceMul, Nat.reduceSub, Nat.reduceLT, Nat.reduceLeDiff, reduceIte, reduceCtorEq, z3, bin_eql_bool Tryd.underlying4, hl, appendA_U]
        rw [if_pos (by omega)] at hK
        exact FinV.drop G0_ok hcl (.lit _) hK
    · rw [if_pos ⟨h1, h2⟩] at hK
      simp (config := { maxSteps := 1000000 }) only [go_sem, Int.reduceToNat, Int.reduceLE, Int.reduceLT, Int.reduceAdd, Int.reduceSub, Int.reduceMul, Int.reduceEq, Int.reduceNe, Nat.reduceEqDiff, Nat.reducePow, Nat.reduceDiv, Nat.reduceMod, Nat.reduceAdd, Nat.reduceMul, Nat.reduceSub, Nat.reduceLT, Nat.reduceLeDiff, reduceIte, reduceCtorEq, n3, h1, h2, bin_neq_bool Tryd.underlying4, appendA_U]
      exact FinV.drop G0_ok hcl (.lit _) hK
  · have z3 : 0 ≤ a := by omega
    by_cases h2 : c < 0
    · rw [if_neg (by omega), if_pos ⟨h1, h2⟩] at hK
      simp (config := { maxSteps := 1000000 }) only [go_sem, Int.reduceToNat, Int.reduceLE, Int.reduceLT, Int.reduceAdd, Int.reduceSub, Int.reduceMul, Int.reduceEq, Int.reduceNe, Nat.reduceEqDiff, Nat.reducePow, Nat.reduceDiv, Nat.reduceMod, Nat.reduceAdd, Nat.reduceMul, Nat.reduceSub, Nat.reduceLT, Nat.reduceLeDiff, reduceIte, reduceCtorEq, n3, h1, h2, bin_neq_bool Tryd.underlying4, appendA_U]
      exact FinV.drop G0_ok hcl (.lit _) hK
    · rw [if_neg (by omega), if_neg (by omega)] at hK
      by_cases hxy : p = q
      · rw [if_pos hxy] at hK
        simp (config := { maxSteps := 1000000 }) only [go_sem, Int.reduceToNat, Int.reduceLE, Int.reduceLT, Int.reduceAdd, Int.reduceSub, Int.reduceMul, Int.reduceEq, Int.reduceNe, Nat.reduceEqDiff, Nat.reducePow, Nat.reduceDiv, Nat.reduceMod, Nat.reduceAdd, Nat.reduceMul, Nat.reduceSub, Nat.reduceLT, Nat.reduceLeDiff, reduceIte, reduceCtorEq, n3, h1, h2, bin_neq_bool Tryd.underlying4, eqw, hxy, appendA_U]
        exact FinV.drop G0_ok hcl (.lit _) hK
      rw [if_neg hxy] at hK
      simp (config := { maxSteps := 1000000 }) only [go_sem, Int.reduceToNat, Int.reduceLE, Int.reduceLT, Int.reduceAdd, Int.reduceSub, Int.reduceMul, Int.reduceEq, Int.reduceNe, Nat.reduceEqDiff, Nat.reducePow, Nat.reduceDiv, Nat.reduceMod, Nat.reduceAdd, Nat.reduceMul, Nat.reduceSub, Nat.reduceLT, Nat.reduceLeDiff, reduceIte, reduceCtorEq, n3, h1, h2, bin_neq_bool Tryd.underlying4, eqw, hxy, appendA_U]
      refine W.draw 6 [0, 0, 3, 0, 8, 24] Tryd.mixed (by kernel_rfl) (by kernel_rfl) ?_
      simp (config := { maxSteps := 1000000 }) only [go_sem, Int.reduceToNat, Int.reduceLE, Int.reduceLT, Int.reduceAdd, Int.reduceSub, Int.reduceMul, Int.reduceEq, Int.reduceNe, Nat.reduceEqDiff, Nat.reducePow, Nat.reduceDiv, Nat.reduceMod, Nat.reduceAdd, Nat.reduceMul, Nat.reduceSub, Nat.reduceLT, Nat.reduceLeDiff, reduceIte, reduceCtorEq, n3, h1, h2, bin_neq_bool Tryd.underlying4, eqw, hxy, appendA_U]
      refine ⟨_, [], PCall.pure fun H2 => less_spec p q H2 _ ⟨rfl, rfl⟩, ?_⟩
      by_cases hl : p < q
      · simp (config := { maxSteps := 1000000 }) only [go_sem, Int.reduceToNat, Int.reduceLE, Int.reduceLT, Int.reduceAdd, Int.reduceSub, Int.reduceMul, Int.reduceEq, Int.reduceNe, Nat.reduceEqDiff, Nat.reducePow, Nat.reduceDiv, Nat.reduceMod, Nat.reduceAdd, Nat.reduceMul, Nat.reduceSub, Nat.reduceLT, Nat.reduceLeDiff, reduceIte, reduceCtorEq, z3, bin_eql_bool Tryd.underlying4, hl, appendA_U]
        rw [if_pos (by omega)] at hK
        exact FinV.drop G0_ok hcl (.lit _) hK
      · simp (config := { maxSteps := 1000000 }) only [go_sem, Int.reduceToNat, Int.reduceLE, Int.reduceLT, Int.reduceAdd, Int.reduceSub, Int.reduceMul, Int.reduceEq, Int.reduceNe, Nat.reduceEqDiff, Nat.reducePow, Nat.reduceDiv, Nat.reduceMod, Nat.reduceAdd, Nat.reduceMul, Nat.reduceSub, Nat.reduceLT, Nat.reduceLeDiff, reduceIte, reduceCtorEq, z3, bin_eql_bool Tryd.underlying4, hl, appendA_U]
        rw [if_neg (by omega)] at hK
        exact FinV.drop G0_ok hcl (.lit _) hK
end Go.Proofs
set_option linter.unusedSimpArgs false
set_option maxRecDepth 100000
namespace Go.Proofs
open Go.Hx
/-! Cmp, Floor. -/
theorem bothI1_spec {f : FuncId} {a b c d r : Int} (hf : ACall Tryd.prog G0 f [qV a b, qV c d] noH (GRes (some (.lit (.int .i64 r))))) :
    ACall Tryd.prog G0 80 [.vptr [.clo f [] []] 0, .vptr [.lit (.int .i64 a), .lit (.int .i64 b)] 0, .vptr [.lit (.int .i64 c), .lit (.int .i64 d)] 0] noH (GRes (some (.lit (.int .i64 r)))) := by
  refine ACall.clo ⟨_, Tryd.func80, rfl, rfl⟩ fun hcl => ?_
  refine ACall.of_body (n := 8) (rs := [.tmp 3]) Tryd.func80 rfl rfl rfl (by decide) (by kernel_rfl) (by simp) ?_
  simp (config := { maxSteps := 1000000 }) only [go_sem, Int.reduceToNat, Int.reduceLE, Int.reduceLT, Int.reduceAdd, Int.reduceSub, Int.reduceMul, Int.reduceEq, Int.reduceNe, Nat.reduceEqDiff, Nat.reducePow, Nat.reduceDiv, Nat.reduceMod, Nat.reduceAdd, Nat.reduceMul, Nat.reduceSub, Nat.reduceLT, Nat.reduceLeDiff, reduceIte, reduceCtorEq, appendA_U]
  refine AApply.clo ((ACall.frameR (args := [qV a b, qV c d]) G0_ok rfl (fun i hi _ => .plain (match i, hi with | 0, _ => plain_q a b | 1, _ => plain_q c d)) hf).mono ?_)
  rintro r H' ⟨rfl, rfl⟩
  refine ⟨trivial, ?_⟩
  show opsV _ _ _ _ _ _ _
  simp (config := { maxSteps := 1000000 }) only [go_sem, Int.reduceToNat, Int.reduceLE, Int.reduceLT, Int.reduceAdd, Int.reduceSub, Int.reduceMul, Int.reduceEq, Int.reduceNe, Nat.reduceEqDiff, Nat.reducePow, Nat.reduceDiv, Nat.reduceMod, Nat.reduceAdd, Nat.reduceMul, Nat.reduceSub, Nat.reduceLT, Nat.reduceLeDiff, reduceIte, reduceCtorEq, appendA_U]
  exact FinV.mk (Nat.zero_le _) ⟨_, rfl, .lit _⟩
theorem fz_ti {S : Nat → Prop} {H : AHeap} {nx : Nat} (x e : Int) : Fz S H nx (.tup [.lit (.int .i64 x), .lit (.int .i64 e)]) (.tup [.lit (.int .i64 x), .lit (.int .i64 e)]) :=
  .tup rfl fun i hi _ => match i, hi with
    | 0, _ => .lit _
    | 1, _ => .lit _
set_option maxHeartbeats 2000000 in
theorem bothI_spec {f : FuncId} {a b c d r : Int} (ra : (-9223372036854775808 ≤ a ∧ a ≤ 9223372036854775807) ∧ (-9223372036854775808 ≤ b ∧ b ≤ 9223372036854775807)) (rc : (-9223372036854775808 ≤ c ∧ c ≤ 9223372036854775807) ∧ (-9223372036854775808 ≤ d ∧ d ≤ 9223372036854775807))
    (hf : checkQ a b = 0 → checkQ c d = 0 → ACall Tryd.prog G0 f [qV a b, qV c d] noH (GRes (some (.lit (.int .i64 r))))) (H : AHeap) (K : ARes → AHeap → Prop) (hK : K (.ret (if checkQ a b = 0 ∧ checkQ c d = 0 then .tup [.lit (.int .i64 r), .lit (.int .i64 0)] else .tup [.lit (.int .i64 0), .lit (.int .i64 5)])) H) :
    ACall Tryd.prog G0 59 [qV a b, qV c d, .clo f [] []] H K := by
  refine ACall.clo ⟨_, Tryd.func59, rfl, rfl⟩ fun hcl => ?_
  refine ACall.of_body (n := 22) (rs := [.tmp 6, .tmp 7]) Tryd.func59 rfl rfl rfl (by decide) (by kernel_rfl) (by simp) ?_
  simp (config := { maxSteps := 1000000 }) only [go_sem, Int.reduceToNat, Int.reduceLE, Int.reduceLT, Int.reduceAdd, Int.reduceSub, Int.reduceMul, Int.reduceEq, Int.reduceNe, Nat.reduceEqDiff, Nat.reducePow, Nat.reduceDiv, Nat.reduceMod, Nat.reduceAdd, Nat.reduceMul, Nat.reduceSub, Nat.reduceLT, Nat.reduceLeDiff, reduceIte, reduceCtorEq, qV, appendA_U]
  refine AApply.clo (fcheck_spec a b ra.1 ra.2 _ _ ⟨trivial, ?_⟩)
  by_cases h1 : checkQ a b = 0
  rotate_left
  · rw [if_neg fun h => h1 h.1] at hK
    simp (config := { maxSteps := 1000000 }) only [go_sem, Int.reduceToNat, Int.reduceLE, Int.reduceLT, Int.reduceAdd, Int.reduceSub, Int.reduceMul, Int.reduceEq, Int.reduceNe, Nat.reduceEqDiff, Nat.reducePow, Nat.reduceDiv, Nat.reduceMod, Nat.reduceAdd, Nat.reduceMul, Nat.reduceSub, Nat.reduceLT, Nat.reduceLeDiff, reduceIte, reduceCtorEq, h1, guardA_undef, appendA_U]
    exact FinV.drop G0_ok hcl (fz_ti 0 5) hK
  rw [h1]
  simp (config := { maxSteps := 1000000 }) only [go_sem, Int.reduceToNat, Int.reduceLE, Int.reduceLT, Int.reduceAdd, Int.reduceSub, Int.reduceMul, Int.reduceEq, Int.reduceNe, Nat.reduceEqDiff, Nat.reducePow, Nat.reduceDiv, Nat.reduceMod, Nat.reduceAdd, Nat.reduceMul, Nat.reduceSub, Nat.reduceLT, Nat.reduceLeDiff, reduceIte, reduceCtorEq, appendA_U]
  refine AApply.clo (fcheck_spec c d rc.1 rc.2 _ _ ⟨trivial, ?_⟩)
  by_cases h2 : checkQ c d = 0
  rotate_left
  · rw [if_neg fun h => h2 h.2] at hK
    simp (config := { maxSteps := 1000000 }) only [go_sem, Int.reduceToNat, Int.reduceLE, Int.reduceLT, Int.reduceAdd, Int.reduceSub, Int.reduceMul, Int.reduceEq, Int.reduceNe, Nat.reduceEqDiff, Nat.reducePow, Nat.reduceDiv, Nat.reduceMod, Nat.reduceAdd, Nat.reduceMul, Nat.reduceSub, Nat.reduceLT, Nat.reduceLeDiff, reduceIte, reduceCtorEq, h2, appendA_U]
    exact FinV.drop G0_ok hcl (fz_ti 0 5) hK
  rw [h2]
  rw [if_pos ⟨h1, h2⟩] at hK
  simp (config := { maxSteps := 1000000 }) only [go_sem, Int.reduceToNat, Int.reduceLE, Int.reduceLT, Int.reduceAdd, Int.reduceSub, Int.reduceMul, Int.reduceEq, Int.reduceNe, Nat.reduceEqDiff, Nat.reducePow, Nat.reduceDiv, Nat.reduceMod, Nat.reduceAdd, Nat.reduceMul, Nat.reduceSub, Nat.reduceLT, Nat.reduceLeDiff, reduceIte, reduceCtorEq, appendA_U]
  obtain ⟨H1, hH1⟩ : ∃ H1, H1 = ext H [.arr 0 23 [.lit (.int .i64 a), .lit (.int .i64 b)], .arr 0 23 [.lit (.int .i64 c), .lit (.int .i64 d)], .arr 0 47 (AVal.clo f [] []).cells] := ⟨_, rfl⟩
  have n1 : H1.next = H.next + 3 := by rw [hH1]; rfl
  have k0 : H1.get H.next = some (.arr 0 23 [.lit (.int .i64 a), .lit (.int .i64 b)]) := by rw [hH1]; exact get_ext0 ..
  have k1 : H1.get (H.next + 1) = some (.arr 0 23 [.lit (.int .i64 c), .lit (.int .i64 d)]) := by rw [hH1]; exact get_ext H _ 1 (by simp)
  have k2 : H1.get (H.next + 2) = some (.arr 0 47 [.clo f [] []]) := by rw [hH1]; exact get_ext H _ 2 (by simp)
  rw [← hH1]
  refine AApply.clo ((gdI_ok G0_ok 80 [.ptr (H.next + 2) 0 0, .ptr H.next 0 0, .ptr (H.next + 1) 0 0] [.vptr [.clo f [] []] 0, .vptr [.lit (.int .i64 a), .lit (.int .i64 b)] 0, .vptr [.lit (.int .i64 c), .lit (.int .i64 d)] 0] H1 (some (.lit (.int .i64 r))) rfl (fun H2 hag i h h' => ?_) (fun u hu => ?_) (bothI1_spec (hf h1 h2))).mono ?_)
  · match i, h with
    | 0, _ => exact .pfrz trivial ((hag _ (by omega)).trans k2) (by simp) rfl fun i hi _ => match i, hi with | 0, _ => .clo rfl rfl (fun i h _ => absurd h (Nat.not_lt_zero _)) (fun i h _ => absurd h (Nat.not_lt_zero _))
    | 1, _ => exact .pfrz trivial ((hag _ (by omega)).trans k0) (by simp) rfl fun i hi _ => match i, hi with | 0, _ => .lit _ | 1, _ => .lit _
    | 2, _ => exact .pfrz trivial ((hag _ (by omega)).trans k1) (by simp) rfl fun i hi _ => match i, hi with | 0, _ => .lit _ | 1, _ => .lit _
  · cases hu; rfl
  · rintro r H' ⟨rfl, rfl⟩
    refine ⟨trivial, ?_⟩
    rw [hH1]
    simp (config := { maxSteps := 1000000 }) only [go_sem, Int.reduceToNat, Int.reduceLE, Int.reduceLT, Int.reduceAdd, Int.reduceSub, Int.reduceMul, Int.reduceEq, Int.reduceNe, Nat.reduceEqDiff, Nat.reducePow, Nat.reduceDiv, Nat.reduceMod, Nat.reduceAdd, Nat.reduceMul, Nat.reduceSub, Nat.reduceLT, Nat.reduceLeDiff, reduceIte, reduceCtorEq, gdOut, appendA_U]
    exact FinV.drop G0_ok hcl (fz_ti _ _) hK
/-- Which of two products is greater. -/
def cmpI (p q : Int) : Int := if p < q then -1 else if p = q then 0 else 1
theorem cmpR_eq {a b c d : Int} (hb : 1 ≤ b) (hd : 1 ≤ d) : cmpR a b c d = cmpI (a * d) (c * b) := by
  unfold cmpR cmpI
  obtain ⟨B, rfl⟩ := Int.eq_ofNat_of_zero_le (show 0 ≤ b by omega)
  obtain ⟨D, rfl⟩ := Int.eq_ofNat_of_zero_le (show 0 ≤ d by omega)
  simp only [Int.natAbs_natCast]
  have pos : ∀ x : Nat, ∀ E : Nat, ((x : Int) * (E : Int)) = ((x * E : Nat) : Int) := fun x E => (Int.natCast_mul x E).symm
  have neg : ∀ x : Nat, ∀ E : Nat, (-(x : Int) * (E : Int)) = -((x * E : Nat) : Int) := fun x E => by rw [Int.neg_mul, Int.natCast_mul]
  have pp : ∀ x E : Nat, 0 < x → 1 ≤ (E : Int) → 0 < x * E := fun x E h1 h2 => Nat.mul_pos h1 (by omega)
  by_cases h1 : a < 0
  · obtain ⟨A, hA, hA0⟩ : ∃ A : Nat, a = -(A : Int) ∧ 0 < A := ⟨a.natAbs, by omega, by omega⟩
    subst hA
    have p1 := pp A D hA0 hd
    by_cases h2 : c < 0
    · obtain ⟨C, hC, hC0⟩ : ∃ C : Nat, c = -(C : Int) ∧ 0 < C := ⟨c.natAbs, by omega, by omega⟩
      subst hC
      simp only [Int.natAbs_neg, Int.natAbs_natCast, neg]
      generalize A * D = P at *
      generalize C * B = Q at *
      repeat' split
      all_goals omega
    · obtain ⟨C, hC⟩ := Int.eq_ofNat_of_zero_le (show 0 ≤ c by omega)
      subst hC
      simp only [Int.natAbs_neg, Int.natAbs_natCast, neg, pos]
      generalize A * D = P at *
      generalize C * B = Q at *
      repeat' split
      all_goals omega
  · obtain ⟨A, hA⟩ := Int.eq_ofNat_of_zero_le (show 0 ≤ a by omega)
    subst hA
    by_cases h2 : c < 0
    · obtain ⟨C, hC, hC0⟩ : ∃ C : Nat, c = -(C : Int) ∧ 0 < C := ⟨c.natAbs, by omega, by omega⟩
      subst hC
      have p2 := pp C B hC0 hb
      simp only [Int.natAbs_neg, Int.natAbs_natCast, neg, pos]
      generalize A * D = P at *
      generalize C * B = Q at *
      repeat' split
      all_goals omega
    · obtain ⟨C, hC⟩ := Int.eq_ofNat_of_zero_le (show 0 ≤ c by omega)
      subst hC
      simp only [Int.natAbs_natCast, pos]
      repeat' split
      all_goals omega
def cmpV (a b c d : Int) : AVal := if checkQ a b = 0 ∧ checkQ c d = 0 then .tup [.lit (.int .i64 (cmpI (a * d) (c * b))), .lit (.int .i64 0)] else .tup [.lit (.int .i64 0), .lit (.int .i64 5)]
theorem Cmp_spec (a b c d : Int) (ra : (-9223372036854775808 ≤ a ∧ a ≤ 9223372036854775807) ∧ (-9223372036854775808 ≤ b ∧ b ≤ 9223372036854775807)) (rc : (-9223372036854775808 ≤ c ∧ c ≤ 9223372036854775807) ∧ (-9223372036854775808 ≤ d ∧ d ≤ 9223372036854775807))
    (H : AHeap) (K : ARes → AHeap → Prop) (hK : K (.ret (cmpV a b c d)) H) : ACall Tryd.prog G0 28 [qV a b, qV c d] H K := by
  refine ACall.clo ⟨_, Tryd.func28, rfl, rfl⟩ fun hcl => ?_
  refine ACall.of_body (n := 11) (rs := [.tmp 4, .tmp 5]) Tryd.func28 rfl rfl rfl (by decide) (by kernel_rfl) (by simp) ?_
  simp (config := { maxSteps := 1000000 }) only [go_sem, Int.reduceToNat, Int.reduceLE, Int.reduceLT, Int.reduceAdd, Int.reduceSub, Int.reduceMul, Int.reduceEq, Int.reduceNe, Nat.reduceEqDiff, Nat.reducePow, Nat.reduceDiv, Nat.reduceMod, Nat.reduceAdd, Nat.reduceMul, Nat.reduceSub, Nat.reduceLT, Nat.reduceLeDiff, reduceIte, reduceCtorEq, qV, appendA_U]
  refine AApply.clo (bothI_spec (a := a) (b := b) (c := c) (d := d) (r := cmpI (a * d) (c * b)) ra rc (fun h1 h2 => ?_) _ _ ⟨trivial, ?_⟩)
  · obtain ⟨p1, p2, _⟩ := checkQ_range h1
    obtain ⟨p3, p4, _⟩ := checkQ_range h2
    rw [← cmpR_eq p2.1 p4.1]
    exact (cmp1_spec a b c d p1 p2 p3 p4 noH _ rfl).mono fun r H' h => ⟨_, h, .lit _⟩
  · unfold cmpV at hK
    by_cases h : checkQ a b = 0 ∧ checkQ c d = 0
    · rw [if_pos h] at hK ⊢
      simp (config := { maxSteps := 1000000 }) only [go_sem, Int.reduceToNat, Int.reduceLE, Int.reduceLT, Int.reduceAdd, Int.reduceSub, Int.reduceMul, Int.reduceEq, Int.reduceNe, Nat.reduceEqDiff, Nat.reducePow, Nat.reduceDiv, Nat.reduceMod, Nat.reduceAdd, Nat.reduceMul, Nat.reduceSub, Nat.reduceLT, Nat.reduceLeDiff, reduceIte, reduceCtorEq, appendA_U]
      exact FinV.drop G0_ok hcl (fz_ti _ _) hK
    · rw [if_neg h] at hK ⊢
      simp (config := { maxSteps := 1000000 }) only [go_sem, Int.reduceToNat, Int.reduceLE, Int.reduceLT, Int.reduceAdd, Int.reduceSub, Int.reduceMul, Int.reduceEq, Int.reduceNe, Nat.reduceEqDiff, Nat.reducePow, Nat.reduceDiv, Nat.reduceMod, Nat.reduceAdd, Nat.reduceMul, Nat.reduceSub, Nat.reduceLT, Nat.reduceLeDiff, reduceIte, reduceCtorEq, appendA_U]
      exact FinV.drop G0_ok hcl (fz_ti _ _) hK
theorem floor_t (a : Int) {b : Int} (hb : 1 ≤ b) : (if a.tmod b < 0 then a.tdiv b - 1 else a.tdiv b) = a / b := by
  have h1 := Int.mul_tdiv_add_tmod a b
  have h2 : (a.tmod b).natAbs < b.natAbs := by rw [Int.natAbs_tmod]; exact Nat.mod_lt _ (by omega)
  by_cases hr : a.tmod b < 0
  · rw [if_pos hr]
    have := (Int.ediv_emod_unique (a := a) (b := b) (r := a.tmod b + b) (q := a.tdiv b - 1) (by omega)).2 ⟨by rw [Int.mul_sub, Int.mul_one]; omega, by omega, by omega⟩
    exact this.1.symm
  · rw [if_neg hr]
    have := (Int.ediv_emod_unique (a := a) (b := b) (r := a.tmod b) (q := a.tdiv b) (by omega)).2 ⟨by omega, by omega, by omega⟩
    exact this.1.symm
def floorV (a b : Int) : AVal := if checkQ a b = 0 then .tup [.lit (.int .i64 (a / b)), .lit (.int .i64 0)] else .tup [.lit (.int .i64 0), .lit (.int .i64 5)]
theorem Floor_spec (a b : Int) (ra : -9223372036854775808 ≤ a ∧ a ≤ 9223372036854775807) (rb : -9223372036854775808 ≤ b ∧ b ≤ 9223372036854775807) (H : AHeap) (K : ARes → AHeap → Prop) (hK : K (.ret (floorV a b)) H) : ACall Tryd.prog G0 29 [qV a b] H K := by
  refine ACall.clo ⟨_, Tryd.func29, rfl, rfl⟩ fun hcl => ?_
  refine ACall.of_body (n := 22) (rs := [.tmp 2, .tmp 3]) Tryd.func29 rfl rfl rfl (by decide) (by kernel_rfl) (by simp) ?_
  simp (config := { maxSteps := 1000000 }) only [go_sem, Int.reduceToNat, Int.reduceLE, Int.reduceLT, Int.reduceAdd, Int.reduceSub, Int.reduceMul, Int.reduceEq, Int.reduceNe, Nat.reduceEqDiff, Nat.reducePow, Nat.reduceDiv, Nat.reduceMod, Nat.reduceAdd, Nat.reduceMul, Nat.reduceSub, Nat.reduceLT, Nat.reduceLeDiff, reduceIte, reduceCtorEq, qV, appendA_U]
  refine AApply.clo (fcheck_spec a b ra rb _ _ ⟨trivial, ?_⟩)
  unfold floorV at hK
  by_cases h : checkQ a b = 0
  rotate_left
  · rw [if_neg h] at hK
    simp (config := { maxSteps := 1000000 }) only [go_sem, Int.reduceToNat, Int.reduceLE, Int.reduceLT, Int.reduceAdd, Int.reduceSub, Int.reduceMul, Int.reduceEq, Int.reduceNe, Nat.reduceEqDiff, Nat.reducePow, Nat.reduceDiv, Nat.reduceMod, Nat.reduceAdd, Nat.reduceMul, Nat.reduceSub, Nat.reduceLT, Nat.reduceLeDiff, reduceIte, reduceCtorEq, h, appendA_U]
    exact FinV.drop G0_ok hcl (fz_ti _ _) hK
  rw [if_pos h] at hK
  obtain ⟨p1, p2, _⟩ := checkQ_range h
  have b0 : ¬ b = 0 := by omega
  have hq : -4611686018427387903 ≤ a.tdiv b ∧ a.tdiv b ≤ 4611686018427387903 := by
    have h1 : (a.tdiv b).natAbs ≤ a.natAbs := by rw [Int.natAbs_tdiv]; exact Nat.div_le_self _ _
    omega
  have hfl := floor_t a p2.1
  have w1 := IntWalk.i64_in (a.tdiv b) (by omega)
  have w2 := IntWalk.i64_in (a.tdiv b - 1) (by omega)
  have hm : -4611686018427387903 ≤ a.tmod b ∧ a.tmod b ≤ 4611686018427387903 := by
    have h1 : (a.tmod b).natAbs ≤ a.natAbs := by rw [Int.natAbs_tmod]; exact Nat.mod_le _ _
    omega
  have w3 := IntWalk.i64_in (a.tmod b) (by omega)
  by_cases hr : a.tmod b < 0
  · rw [if_pos hr] at hfl
    rw [← hfl] at hK
    simp (config := { maxSteps := 1000000 }) only [go_sem, Int.reduceToNat, Int.reduceLE, Int.reduceLT, Int.reduceAdd, Int.reduceSub, Int.reduceMul, Int.reduceEq, Int.reduceNe, Nat.reduceEqDiff, Nat.reducePow, Nat.reduceDiv, Nat.reduceMod, Nat.reduceAdd, Nat.reduceMul, Nat.reduceSub, Nat.reduceLT, Nat.reduceLeDiff, reduceIte, reduceCtorEq, h, b0, w1, w2, w3, hr, appendA_U]
    exact FinV.drop G0_ok hcl (fz_ti _ _) hK
  · rw [if_neg hr] at hfl
    rw [← hfl] at hK
    simp (config := { maxSteps := 1000000 }) only [go_sem, Int.reduceToNat, Int.reduceLE, Int.reduceLT, Int.reduceAdd, Int.reduceSub, Int.reduceMul, Int.reduceEq, Int.reduceNe, Nat.reduceEqDiff, Nat.reducePow, Nat.reduceDiv, Nat.reduceMod, Nat.reduceAdd, Nat.reduceMul, Nat.reduceSub, Nat.reduceLT, Nat.reduceLeDiff, reduceIte, reduceCtorEq, h, b0, w1, w2, w3, hr, appendA_U]
    exact FinV.drop G0_ok hcl (fz_ti _ _) hK
end Go.Proofs
