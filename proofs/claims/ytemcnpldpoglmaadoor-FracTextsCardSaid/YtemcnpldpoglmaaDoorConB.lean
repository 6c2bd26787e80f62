/- Own work: contracts. -/
import Derived.Test.YtemcnpldpoglmaaDoorConA
set_option linter.all false
set_option linter.unusedSimpArgs false
set_option maxRecDepth 100000
namespace Go.Hx
variable {P : Program} {G : Nat → Option (List AVal)} {Γ Γ' : Gam} {H H' : AHeap} {w w' : World}
theorem W.env {n : Nat} {rd : Option Nat} {Q : AX → St → Prop} {c : Code} {ρ : Env} {H : AHeap} (h : ∀ E, E = ρ → W P G n rd c Q ⟨E, H⟩) : W P G n rd c Q ⟨ρ, H⟩ := h ρ rfl
theorem Below.mono {n m : Nat} {v : AVal} (h : Below n v) (hm : n ≤ m) : Below m v := by
  induction h with
  | lit v => exact .lit v
  | vec h ih => exact .vec ih
  | vptr h ih => exact .vptr ih
  | agg h ih => exact .agg ih
  | tup h ih => exact .tup ih
  | clo h1 h2 ih1 ih2 => exact .clo ih1 ih2
  | own h => exact .own (by omega)
  | ptr h => exact .ptr (by omega)
  | yld h => exact .yld (by omega)
theorem BelowB.mono {n m : Nat} {b : Blk} (h : BelowB n b) (hm : n ≤ m) : BelowB m b := by
  cases b with
  | arr g e cells => exact fun i hi => (h i hi).mono hm
  | loop st pend n env ps asg body => exact fun t ht => (h t ht).mono hm
  | rsv => trivial
theorem clo_ext {H : AHeap} (hc : Clo H) {L : List Blk} (h : ∀ b, b ∈ L → BelowB (H.next + L.length) b) : Clo (ext H L) := by
  have key : ∀ id b, (ext H L).get id = some b → (id < H.next ∧ H.get id = some b) ∨ (id < H.next + L.length ∧ b ∈ L) := by
    intro id b hb
    by_cases h1 : id < H.next
    · rw [get_ext_old _ _ _ h1] at hb; exact .inl ⟨h1, hb⟩
    · by_cases h2 : id < H.next + L.length
      · have := get_ext H L (id - H.next) (by omega)
        rw [show H.next + (id - H.next) = id by omega, hb] at this
        exact .inr ⟨h2, List.mem_of_getElem? this.symm⟩
      · have : (ext H L).get id = H.get id := by unfold ext; simp only; rw [if_neg (by omega)]
        rw [this] at hb
        exact absurd (hc.lt _ _ hb) h1
  refine ⟨fun id b hb => ?_, fun id b hb => ?_⟩
  · rw [ext_next]; rcases key id b hb with ⟨h1, _⟩ | ⟨h1, _⟩ <;> omega
  · rw [ext_next]
    rcases key id b hb with ⟨_, h1⟩ | ⟨_, h1⟩
    · exact (hc.below _ _ h1).mono (by omega)
    · exact h b h1
theorem belowB_lits {n g : Nat} {e : TypeId} {cells : List AVal} (h : ∀ c, c ∈ cells → ∃ v, c = .lit v) : BelowB n (.arr g e cells) := fun i hi => by
  obtain ⟨v, hv⟩ := h _ (List.getElem_mem hi)
  rw [hv]; exact .lit v
theorem nilOf_agg (H : AHeap) (op : BinOp) (a : List AVal) (y : AVal) : nilOf H op (.agg a) y = none := by unfold nilOf; split <;> rfl
attribute [go_sem] nilOf_agg
theorem Over.cutO {B H : AHeap} (h : Over B H) {n : Nat} (hn : B.next ≤ n) : Over B (H.cut n) := ⟨h.next, fun id hi => (cut_get (by omega)).trans (h.old id hi)⟩
end Go.Hx
namespace Go.Proofs
open Go.Hx
theorem get_ext0 (H : AHeap) (b : Blk) (L : List Blk) : (ext H (b :: L)).get H.next = some b := get_ext H (b :: L) 0 (by simp)
theorem ints_take (l : List Int) (n : Nat) : (ints l).take n = ints (l.take n) := by simp [ints]
theorem ints_drop (l : List Int) (n : Nat) : (ints l).drop n = ints (l.drop n) := by simp [ints]
theorem gcd_step (a b : Int) (ha : 0 ≤ a) (hb : 0 < b) : Int.gcd b (a % b) = Int.gcd b a := by
  obtain ⟨m, rfl⟩ := Int.eq_ofNat_of_zero_le ha
  obtain ⟨n, rfl⟩ := Int.eq_ofNat_of_zero_le (Int.le_of_lt hb)
  rw [← Int.natCast_emod]
  simp only [Int.gcd_natCast_natCast]
  rw [Nat.gcd_comm n m, ← Nat.mod_add_div m n]
  have := Nat.gcd_rec n m
  rw [Nat.mod_add_div]
  rw [Nat.gcd_comm m n, this, Nat.gcd_comm]
def vecV (l : List (List Int)) : AVal := .vec l.length (l.map vecI)
theorem vecV_cells (l : List (List Int)) : (vecV l).cells = [vecV l] := rfl
theorem vecV_one (l : List (List Int)) : (vecV l).one = true := rfl

end Go.Proofs
set_option linter.unusedSimpArgs false
namespace Go.Hx
variable {P : Program} {t : TypeId} {x y : Operand} {k k' : IntKind} {a b : Int}
theorem wrapU64 (n : Int) : IntKind.u64.wrap n = n % 18446744073709551616 := by simp [IntKind.wrap, IntKind.bits, IntKind.signed]
theorem pureRun_bind {α β : Type} {s : Sem α} {f : α → Sem β} {a : α} (h : pureRun P s = some a) : pureRun P (s >>= f) = pureRun P (f a) := by
  induction s with
  | pure b => simp only [pureRun, Option.some.injEq] at h; subst h; rfl
  | program k ih => exact ih P h
  | mark m k ih => exact ih h
  | _ => simp [pureRun] at h
theorem equalIn_bool {t : TypeId} {a b : Bool} (n : Nat) (ht : P.underlying t = some .bool) : pureRun P (Op.equalIn (n + 1) t (.bool a) (.bool b)) = some (a == b) := by
  unfold Op.equalIn
  simp [underlying, program, ht, pureRun, bind, Sem.bind, pure]
theorem bin_neq_bool {t : TypeId} {x y : Operand} {a b : Bool} (ht : P.underlying t = some .bool) : binA P .neq t x y (.lit (.bool a)) (.lit (.bool b)) = some (.lit (.bool (!(a == b)))) := by
  have h1 : (do eqGuard .neq t x y (.bool a) (.bool b); binOp .neq t (.bool a) (.bool b)) = (Op.equalIn (9999 + 1) t (.bool a) (.bool b) >>= fun r => pure (Value.bool (!r))) := rfl
  show (pureRun P _).map _ = _
  rw [h1, pureRun_bind (equalIn_bool 9999 ht)]
  rfl
end Go.Hx
set_option maxRecDepth 100000
namespace Go.Proofs
open Go.Hx
theorem guardA_undef (w : Bool) : guardA w (some (.lit undef)) = some false := rfl

theorem size_spec (n : Int) (hn : -9223372036854775808 ≤ n ∧ n ≤ 9223372036854775807) (H : AHeap) (K : ARes → AHeap → Prop) (hK : K (.ret (.lit (.int .u64 (n.natAbs : Int)))) H) : ACall Tryd.prog G0 43 [.lit (.int .i64 n)] H K := by
  refine ACall.of_body (n := 10) (rs := [.tmp 2]) Tryd.func43 rfl rfl rfl (by decide) (by kernel_rfl) (by simp) ?_
  by_cases h : n < 0
  · have w1 : IntKind.u64.wrap n = n + 18446744073709551616 := by rw [wrapU64]; omega
    have w2 : IntKind.u64.wrap (0 - (n + 18446744073709551616)) = (n.natAbs : Int) := by rw [wrapU64]; omega
    simp (config := { maxSteps := 1000000 }) only [go_sem, Int.reduceToNat, Int.reduceLE, Int.reduceLT, Int.reduceAdd, Int.reduceSub, Int.reduceMul, Int.reduceEq, Int.reduceNe, Nat.reduceEqDiff, Nat.reducePow, Nat.reduceDiv, Nat.reduceMod, Nat.reduceAdd, Nat.reduceMul, Nat.reduceSub, Nat.reduceLT, Nat.reduceLeDiff, reduceIte, reduceCtorEq, h, w1, w2, appendA_U]
    exact FinV.mk (Nat.le_refl _) hK
  · have w1 : IntKind.u64.wrap n = (n.natAbs : Int) := by rw [wrapU64]; omega
    simp (config := { maxSteps := 1000000 }) only [go_sem, Int.reduceToNat, Int.reduceLE, Int.reduceLT, Int.reduceAdd, Int.reduceSub, Int.reduceMul, Int.reduceEq, Int.reduceNe, Nat.reduceEqDiff, Nat.reducePow, Nat.reduceDiv, Nat.reduceMod, Nat.reduceAdd, Nat.reduceMul, Nat.reduceSub, Nat.reduceLT, Nat.reduceLeDiff, reduceIte, reduceCtorEq, h, w1, appendA_U]
    exact FinV.mk (Nat.le_refl _) hK

theorem common_spec (a b : Int) (ha : 0 ≤ a) (hb : 0 ≤ b) (H : AHeap) (K : ARes → AHeap → Prop) (hK : K (.ret (.lit (.int .u64 (Int.gcd a b : Int)))) H) : ACall Tryd.prog G0 42 [.lit (.int .u64 a), .lit (.int .u64 b)] H K := by
  refine ACall.of_body (n := 12) (rs := [.tmp 4]) Tryd.func42 rfl rfl rfl (by decide) (by kernel_rfl) (by simp) ?_
  simp (config := { maxSteps := 1000000 }) only [go_sem, Int.reduceToNat, Int.reduceLE, Int.reduceLT, Int.reduceAdd, Int.reduceSub, Int.reduceMul, Int.reduceEq, Int.reduceNe, Nat.reduceEqDiff, Nat.reducePow, Nat.reduceDiv, Nat.reduceMod, Nat.reduceAdd, Nat.reduceMul, Nat.reduceSub, Nat.reduceLT, Nat.reduceLeDiff, reduceIte, reduceCtorEq, appendA_U]
  refine W.loop0 2019 (by rfl) (fun ρ H' => H' = H ∧ ∃ x y : Int, ρ 0 = .lit (.int .u64 x) ∧ ρ 1 = .lit (.int .u64 y) ∧ 0 ≤ x ∧ 0 ≤ y ∧ Int.gcd x y = Int.gcd a b) (fun ρ H => (iv (ρ 1)).toNat) ?_ ?_
  · simp (config := { maxSteps := 1000000 }) only [go_sem, Int.reduceToNat, Int.reduceLE, Int.reduceLT, Int.reduceAdd, Int.reduceSub, Int.reduceMul, Int.reduceEq, Int.reduceNe, Nat.reduceEqDiff, Nat.reducePow, Nat.reduceDiv, Nat.reduceMod, Nat.reduceAdd, Nat.reduceMul, Nat.reduceSub, Nat.reduceLT, Nat.reduceLeDiff, reduceIte, reduceCtorEq, appendA_U]
    exact ⟨a, b, rfl, rfl, ha, hb, rfl⟩
  rintro ρ H' ⟨rfl, x, y, h0, h1, hx, hy, hg⟩
  refine vc_sound _ _ _ (by rfl) ?_
  by_cases hz : y = 0
  · subst hz
    have e : x = (Int.gcd a b : Int) := by rw [← hg, Int.gcd_zero_right]; omega
    simp (config := { maxSteps := 1000000 }) only [go_sem, Int.reduceToNat, Int.reduceLE, Int.reduceLT, Int.reduceAdd, Int.reduceSub, Int.reduceMul, Int.reduceEq, Int.reduceNe, Nat.reduceEqDiff, Nat.reducePow, Nat.reduceDiv, Nat.reduceMod, Nat.reduceAdd, Nat.reduceMul, Nat.reduceSub, Nat.reduceLT, Nat.reduceLeDiff, reduceIte, reduceCtorEq, h0, h1, appendA_U]
    rw [e]
    exact FinV.mk (Nat.le_refl _) hK
  · have m1 : x.tmod y = x % y := Int.tmod_eq_emod_of_nonneg hx
    have m2 := Int.emod_nonneg x hz
    have m3 := Int.emod_lt_of_pos x (show 0 < y by omega)
    simp (config := { maxSteps := 1000000 }) only [go_sem, Int.reduceToNat, Int.reduceLE, Int.reduceLT, Int.reduceAdd, Int.reduceSub, Int.reduceMul, Int.reduceEq, Int.reduceNe, Nat.reduceEqDiff, Nat.reducePow, Nat.reduceDiv, Nat.reduceMod, Nat.reduceAdd, Nat.reduceMul, Nat.reduceSub, Nat.reduceLT, Nat.reduceLeDiff, reduceIte, reduceCtorEq, h0, h1, hz, appendA_U]
    refine W.draw 5 [0, 0, 0, 6, 3] Tryd.mixed (by kernel_rfl) (by kernel_rfl) ?_
    simp (config := { maxSteps := 1000000 }) only [go_sem, Int.reduceToNat, Int.reduceLE, Int.reduceLT, Int.reduceAdd, Int.reduceSub, Int.reduceMul, Int.reduceEq, Int.reduceNe, Nat.reduceEqDiff, Nat.reducePow, Nat.reduceDiv, Nat.reduceMod, Nat.reduceAdd, Nat.reduceMul, Nat.reduceSub, Nat.reduceLT, Nat.reduceLeDiff, reduceIte, reduceCtorEq, h0, h1, hz, m1, appendA_U]
    refine ⟨⟨y, x % y, rfl, rfl, hy, m2, ?_⟩, by omega⟩
    rw [← hg, Int.gcd_comm x y]
    exact gcd_step x y hx (by omega)

def maxN : Int := 4611686018427387903
/-- The error of a fraction. -/
def checkQ (n d : Int) : Int := if d < 1 ∨ d > maxN ∨ n < -maxN ∨ n > maxN then 5 else if Int.gcd n d ≠ 1 then 5 else 0
theorem gcd_abs (n d : Int) : Int.gcd (n.natAbs : Int) d = Int.gcd n d := by simp [Int.gcd]
theorem fcheck_spec (n d : Int) (hn : -9223372036854775808 ≤ n ∧ n ≤ 9223372036854775807) (hd : -9223372036854775808 ≤ d ∧ d ≤ 9223372036854775807) (H : AHeap) (K : ARes → AHeap → Prop) (hK : K (.ret (.lit (.int .i64 (checkQ n d)))) H) : ACall Tryd.prog G0 13 [qV n d] H K := by
  refine ACall.clo ⟨_, Tryd.func13, rfl, rfl⟩ fun hcl => ?_
  refine ACall.of_body (n := 29) (rs := [.tmp 2]) Tryd.func13 rfl rfl rfl (by decide) (by kernel_rfl) (by simp) ?_
  have bad : ∀ L, checkQ n d = 5 → FinV Tryd.prog G0 H K (.lit (.int .i64 5)) (ext H L) := fun L h => by
    rw [h] at hK
    exact FinV.drop G0_ok hcl (.lit _) hK
  by_cases h1 : d < 1
  · simp (config := { maxSteps := 1000000 }) only [go_sem, Int.reduceToNat, Int.reduceLE, Int.reduceLT, Int.reduceAdd, Int.reduceSub, Int.reduceMul, Int.reduceEq, Int.reduceNe, Nat.reduceEqDiff, Nat.reducePow, Nat.reduceDiv, Nat.reduceMod, Nat.reduceAdd, Nat.reduceMul, Nat.reduceSub, Nat.reduceLT, Nat.reduceLeDiff, reduceIte, reduceCtorEq, qV, h1, appendA_U]
    exact bad _ (by unfold checkQ; rw [if_pos (.inl h1)])
  by_cases h2 : 4611686018427387903 < d
  · simp (config := { maxSteps := 1000000 }) only [go_sem, Int.reduceToNat, Int.reduceLE, Int.reduceLT, Int.reduceAdd, Int.reduceSub, Int.reduceMul, Int.reduceEq, Int.reduceNe, Nat.reduceEqDiff, Nat.reducePow, Nat.reduceDiv, Nat.reduceMod, Nat.reduceAdd, Nat.reduceMul, Nat.reduceSub, Nat.reduceLT, Nat.reduceLeDiff, reduceIte, reduceCtorEq, qV, h1, h2, appendA_U]
    exact bad _ (by unfold checkQ; rw [if_pos (.inr (.inl h2))])
  by_cases h3 : n < -4611686018427387903
  · simp (config := { maxSteps := 1000000 }) only [go_sem, Int.reduceToNat, Int.reduceLE, Int.reduceLT, Int.reduceAdd, Int.reduceSub, Int.reduceMul, Int.reduceEq, Int.reduceNe, Nat.reduceEqDiff, Nat.reducePow, Nat.reduceDiv, Nat.reduceMod, Nat.reduceAdd, Nat.reduceMul, Nat.reduceSub, Nat.reduceLT, Nat.reduceLeDiff, reduceIte, reduceCtorEq, qV, h1, h2, h3, appendA_U]
    exact bad _ (by unfold checkQ; rw [if_pos (.inr (.inr (.inl h3)))])
  by_cases h4 : 4611686018427387903 < n
  · simp (config := { maxSteps := 1000000 }) only [go_sem, Int.reduceToNat, Int.reduceLE, Int.reduceLT, Int.reduceAdd, Int.reduceSub, Int.reduceMul, Int.reduceEq, Int.reduceNe, Nat.reduceEqDiff, Nat.reducePow, Nat.reduceDiv, Nat.reduceMod, Nat.reduceAdd, Nat.reduceMul, Nat.reduceSub, Nat.reduceLT, Nat.reduceLeDiff, reduceIte, reduceCtorEq, qV, h1, h2, h3, h4, appendA_U]
    exact bad _ (by unfold checkQ; rw [if_pos (.inr (.inr (.inr h4)))])
  simp (config := { maxSteps := 1000000 }) only [go_sem, Int.reduceToNat, Int.reduceLE, Int.reduceLT, Int.reduceAdd, Int.reduceSub, Int.reduceMul, Int.reduceEq, Int.reduceNe, Nat.reduceEqDiff, Nat.reducePow, Nat.reduceDiv, Nat.reduceMod, Nat.reduceAdd, Nat.reduceMul, Nat.reduceSub, Nat.reduceLT, Nat.reduceLeDiff, reduceIte, reduceCtorEq, qV, h1, h2, h3, h4, appendA_U]
  refine W.draw 6 [0, 1, 3, 0, 8, 24] Tryd.mixed (by kernel_rfl) (by kernel_rfl) ?_
  have w1 : IntKind.u64.wrap d = d := IntWalk.u64_in d (by omega)
  simp (config := { maxSteps := 1000000 }) only [go_sem, Int.reduceToNat, Int.reduceLE, Int.reduceLT, Int.reduceAdd, Int.reduceSub, Int.reduceMul, Int.reduceEq, Int.reduceNe, Nat.reduceEqDiff, Nat.reducePow, Nat.reduceDiv, Nat.reduceMod, Nat.reduceAdd, Nat.reduceMul, Nat.reduceSub, Nat.reduceLT, Nat.reduceLeDiff, reduceIte, reduceCtorEq, qV, h1, h2, h3, h4, w1, appendA_U]
  refine ⟨_, [], PCall.pure (fun H2 => size_spec n hn H2 _ ⟨rfl, rfl⟩), ?_⟩
  simp (config := { maxSteps := 1000000 }) only [go_sem, Int.reduceToNat, Int.reduceLE, Int.reduceLT, Int.reduceAdd, Int.reduceSub, Int.reduceMul, Int.reduceEq, Int.reduceNe, Nat.reduceEqDiff, Nat.reducePow, Nat.reduceDiv, Nat.reduceMod, Nat.reduceAdd, Nat.reduceMul, Nat.reduceSub, Nat.reduceLT, Nat.reduceLeDiff, reduceIte, reduceCtorEq, qV, h1, h2, h3, h4, w1, appendA_U]
  refine AApply.clo (common_spec _ d (by omega) (by omega) _ _ ⟨trivial, ?_⟩)
  rw [gcd_abs]
  have ck : checkQ n d = if Int.gcd n d ≠ 1 then 5 else 0 := by unfold checkQ; rw [if_neg (by unfold maxN; omega)]
  by_cases hg : Int.gcd n d = 1
  · have hg' : ((Int.gcd n d : Nat) : Int) = 1 := by omega
    simp (config := { maxSteps := 1000000 }) only [go_sem, Int.reduceToNat, Int.reduceLE, Int.reduceLT, Int.reduceAdd, Int.reduceSub, Int.reduceMul, Int.reduceEq, Int.reduceNe, Nat.reduceEqDiff, Nat.reducePow, Nat.reduceDiv, Nat.reduceMod, Nat.reduceAdd, Nat.reduceMul, Nat.reduceSub, Nat.reduceLT, Nat.reduceLeDiff, reduceIte, reduceCtorEq, hg', appendA_U]
    rw [ck, if_neg (by simpa using hg)] at hK
    exact FinV.drop G0_ok hcl (.lit _) hK
  · have hg' : ¬ ((Int.gcd n d : Nat) : Int) = 1 := by omega
    simp (config := { maxSteps := 1000000 }) only [go_sem, Int.reduceToNat, Int.reduceLE, Int.reduceLT, Int.reduceAdd, Int.reduceSub, Int.reduceMul, Int.reduceEq, Int.reduceNe, Nat.reduceEqDiff, Nat.reducePow, Nat.reduceDiv, Nat.reduceMod, Nat.reduceAdd, Nat.reduceMul, Nat.reduceSub, Nat.reduceLT, Nat.reduceLeDiff, reduceIte, reduceCtorEq, hg', appendA_U]
    exact bad _ (by rw [ck, if_pos hg])

/-- Two halves of a number. -/
def wideV (n : Nat) : AVal := .agg [.lit (.int .u64 (n / 18446744073709551616 : Nat)), .lit (.int .u64 (n % 18446744073709551616 : Nat))]
end Go.Proofs
set_option linter.unusedSimpArgs false
set_option maxRecDepth 100000
namespace Go.Hx
variable {P : Program} {t e : TypeId} {x y : Operand} {k k' : IntKind} {a b c d : Int}
theorem equalIn_int (n : Nat) (he : P.underlying e = some (.int k)) : pureRun P (Op.equalIn (n + 1) e (.int k' a) (.int k' b)) = some (a == b) := by
  unfold Op.equalIn
  simp [underlying, program, he, pureRun, bind, Sem.bind, pure]
theorem equalIn_duo (n : Nat) {f g : Field} (ht : P.underlying t = some (.struct #[f, g])) (hsi : P.stoodInHeld t = false) (hf : f.type = e) (hg : g.type = e) (fn : f.name ≠ "_") (gn : g.name ≠ "_") (fo : f.offset = 0) (go : g.offset = 1) (he : P.underlying e = some (.int k)) :
    pureRun P (Op.equalIn (n + 2) t (.agg #[.int k' a, .int k' b]) (.agg #[.int k' c, .int k' d])) = some (a == c && b == d) := by
  unfold Op.equalIn
  have e1 : ∀ {α : Type} (f' : TypeDesc → Sem α), pureRun P (underlying t >>= f') = pureRun P (f' (.struct #[f, g])) := fun f' => pureRun_bind (by simp [underlying, program, ht, pureRun, bind, Sem.bind, pure])
  have e0 : ∀ {α : Type} (f' : Program → Sem α), pureRun P (program >>= f') = pureRun P (f' P) := fun f' => pureRun_bind (by simp [program, pureRun])
  have e3 : ∀ {α : Type} (cs : Array Value) (o : Nat) (v : Value) (f' : Value → Sem α), cs[o]? = some v → pureRun P (part e cs o >>= f') = pureRun P (f' v) := fun cs o v f' h => pureRun_bind (by simp [part, isAgg, underlying, program, he, h, pureRun, bind, Sem.bind, pure])
  have e4 : ∀ {α : Type} (p q : Int) (f' : Bool → Sem α), pureRun P (Op.equalIn (n + 1) e (.int k' p) (.int k' q) >>= f') = pureRun P (f' (p == q)) := fun p q f' => pureRun_bind (equalIn_int n he)
  rw [e1]
  dsimp only
  rw [e0, hsi]
  simp only [Bool.false_eq_true, if_false, ← Array.forIn_toList, List.forIn_cons, List.forIn_nil, fn, gn, hf, hg, fo, go, ne_eq, not_false_eq_true, if_true, bind_assoc, pure_bind]
  rw [e3 _ _ (.int k' a) _ rfl, e3 _ _ (.int k' c) _ rfl, e4]
  by_cases h : (a == c) = true
  · rw [h]
    simp only [Bool.not_true, Bool.false_eq_true, if_false, pure_bind, bind_assoc]
    rw [e3 _ _ (.int k' b) _ rfl, e3 _ _ (.int k' d) _ rfl, e4]
    by_cases h2 : (b == d) = true
    · rw [h2]; rfl
    · rw [Bool.not_eq_true] at h2; rw [h2]; rfl
  · rw [Bool.not_eq_true] at h; rw [h]; rfl
theorem bin_neq_duo {f g : Field} (ht : P.underlying t = some (.struct #[f, g])) (hsi : P.stoodInHeld t = false) (hf : f.type = e) (hg : g.type = e) (fn : f.name ≠ "_") (gn : g.name ≠ "_") (fo : f.offset = 0) (go : g.offset = 1) (he : P.underlying e = some (.int k)) (hq : P.eqGuardType P.depth t = false) :
    binA P .neq t x y (.agg [.lit (.int k' a), .lit (.int k' b)]) (.agg [.lit (.int k' c), .lit (.int k' d)]) = some (.lit (.bool (!(a == c && b == d)))) := by
  show (pureRun P (do eqGuard .neq t x y (.agg #[.int k' a, .int k' b]) (.agg #[.int k' c, .int k' d]); binOp .neq t (.agg #[.int k' a, .int k' b]) (.agg #[.int k' c, .int k' d]))).map _ = _
  have h0 : pureRun P (eqGuard .neq t x y (.agg #[.int k' a, .int k' b]) (.agg #[.int k' c, .int k' d])) = some () := by
    simp [eqGuard, program, hq, pureRun, bind, Sem.bind, pure]
  have h1 : binOp .neq t (.agg #[.int k' a, .int k' b]) (.agg #[.int k' c, .int k' d]) = (Op.equalIn (9998 + 2) t (.agg #[.int k' a, .int k' b]) (.agg #[.int k' c, .int k' d]) >>= fun r => pure (Value.bool (!r))) := rfl
  rw [pureRun_bind h0, h1, pureRun_bind (equalIn_duo 9998 ht hsi hf hg fn gn fo go he)]
  rfl
theorem bin_eql_duo {P : Program} {t e : TypeId} {x y : Operand} {k k' : IntKind} {a b c d : Int} {f g : Field} (ht : P.underlying t = some (.struct #[f, g])) (hsi : P.stoodInHeld t = false) (hf : f.type = e) (hg : g.type = e) (fn : f.name ≠ "_") (gn : g.name ≠ "_") (fo : f.offset = 0) (go : g.offset = 1) (he : P.underlying e = some (.int k)) (hq : P.eqGuardType P.depth t = false) :
    binA P .eql t x y (.agg [.lit (.int k' a), .lit (.int k' b)]) (.agg [.lit (.int k' c), .lit (.int k' d)]) = some (.lit (.bool (a == c && b == d))) := by
  show (pureRun P (do eqGuard .eql t x y (.agg #[.int k' a, .int k' b]) (.agg #[.int k' c, .int k' d]); binOp .eql t (.agg #[.int k' a, .int k' b]) (.agg #[.int k' c, .int k' d]))).map _ = _
  have h0 : pureRun P (eqGuard .eql t x y (.agg #[.int k' a, .int k' b]) (.agg #[.int k' c, .int k' d])) = some () := by
    simp [eqGuard, program, hq, pureRun, bind, Sem.bind, pure]
  have h1 : binOp .eql t (.agg #[.int k' a, .int k' b]) (.agg #[.int k' c, .int k' d]) = (Op.equalIn (9998 + 2) t (.agg #[.int k' a, .int k' b]) (.agg #[.int k' c, .int k' d]) >>= fun r => pure (Value.bool r)) := rfl
  rw [pureRun_bind h0, h1, pureRun_bind (equalIn_duo 9998 ht hsi hf hg fn gn fo go he)]
  rfl
attribute [go_sem] nilOf_agg
end Go.Hx
namespace Go.Proofs
open Go.Hx
theorem neqQ {o1 o2 : Operand} (a b c d : Int) : binA Tryd.prog .neq 23 o1 o2 (.agg [.lit (.int .i64 a), .lit (.int .i64 b)]) (.agg [.lit (.int .i64 c), .lit (.int .i64 d)]) = some (.lit (.bool (!(a == c && b == d)))) :=
  bin_neq_duo Tryd.underlying23 (by kernel_rfl) rfl rfl (by decide) (by decide) rfl rfl Tryd.underlying3 (by kernel_rfl)
theorem eqlQ {o1 o2 : Operand} (a b c d : Int) : binA Tryd.prog .eql 23 o1 o2 (.agg [.lit (.int .i64 a), .lit (.int .i64 b)]) (.agg [.lit (.int .i64 c), .lit (.int .i64 d)]) = some (.lit (.bool (a == c && b == d))) :=
  bin_eql_duo Tryd.underlying23 (by kernel_rfl) rfl rfl (by decide) (by decide) rfl rfl Tryd.underlying3 (by kernel_rfl)
def maxM : Nat := 4611686018427387903
def fitO (neg : Bool) (n d : Nat) : Option AVal := if n ≤ 4611686018427387903 ∧ d ≤ 4611686018427387903 then some (qV (if neg = true then -(n : Int) else n) d) else none
def OutK (o : Option AVal) (H : AHeap) (K : ARes → AHeap → Prop) : Prop := (∀ v, o = some v → K (.ret v) H) ∧ (o = none → ∀ H', H.next ≤ H'.next → K .panic H')
theorem fz_lits {S : Nat → Prop} {H : AHeap} {nx : Nat} (n d : Int) : Fz S H nx (.agg [.lit (.int .i64 n), .lit (.int .i64 d)]) (qV n d) :=
  .agg rfl fun i hi _ => match i, hi with
    | 0, _ => .lit _
    | 1, _ => .lit _
theorem tvT : (AVal.agg []).toVal = some (.agg #[]) := rfl
end Go.Proofs
set_option linter.unusedSimpArgs false
set_option maxRecDepth 100000
namespace Go.Proofs
open Go.Hx
def sgnB (a c : Int) : Bool := !(decide (a < 0) == decide (c < 0))
def prodO (a b c d : Int) : Option AVal := fitO (sgnB a c) (a.natAbs / Int.gcd a d * (c.natAbs / Int.gcd c b)) (b.natAbs / Int.gcd c b * (d.natAbs / Int.gcd a d))
end Go.Proofs
set_option linter.unusedSimpArgs false
set_option maxRecDepth 100000
namespace Go.Proofs
open Go.Hx
def makeO (n d : Int) : Option AVal := fitO (sgnB n d) (n.natAbs / Int.gcd n d) (d.natAbs / Int.gcd n d)
def oneW (n : Nat) : AVal := .agg [.lit (.int .u64 0), .lit (.int .u64 (n : Int))]
theorem fz_tq {S : Nat → Prop} {H : AHeap} {nx : Nat} (x y e : Int) : Fz S H nx (.tup [.agg [.lit (.int .i64 x), .lit (.int .i64 y)], .lit (.int .i64 e)]) (.tup [.agg [.lit (.int .i64 x), .lit (.int .i64 y)], .lit (.int .i64 e)]) :=
  .tup rfl fun i hi _ => match i, hi with
    | 0, _ => fz_lits _ _
    | 1, _ => .lit _
def makeR (n d : Int) : AVal := if d = 0 then .tup [qV 0 0, .lit (.int .i64 2)] else gdOut gdQ (makeO n d)
end Go.Proofs
set_option linter.unusedSimpArgs false
set_option maxRecDepth 100000
namespace Go.Hx
@[go_sem] theorem partU_func (a b : Array TypeId) (c : Bool) (n : Nat) (cells : List AVal) (off : Nat) : partU (some (.func a b c)) n cells off = cells[off]? := rfl
end Go.Hx
namespace Go.Proofs
open Go.Hx
/-- What both gives. -/
def bothR (a b c d : Int) (o : Option AVal) : AVal := if checkQ a b = 0 ∧ checkQ c d = 0 then gdOut gdQ o else .tup [qV 0 0, .lit (.int .i64 5)]
def PRes (o : Option AVal) (r : ARes) : Prop := match o with
  | some v => r = .ret v
  | none => r = .panic
/-- A quotient. -/
def quotO (a b c d : Int) : Option AVal := if c < 0 then prodO a b (-d) (-c) else prodO a b d c
def divR (a b c d : Int) : AVal := if checkQ a b = 0 ∧ checkQ c d = 0 ∧ c = 0 then .tup [qV 0 0, .lit (.int .i64 2)] else bothR a b c d (quotO a b c d)
end Go.Proofs
set_option linter.unusedSimpArgs false
set_option maxRecDepth 100000
namespace Go.Proofs
open Go.Hx
def cmpR (a b c d : Int) : Int := if (a < 0 ∧ ¬ c < 0) then -1 else if (¬ a < 0 ∧ c < 0) then 1 else if a.natAbs * d.natAbs = c.natAbs * b.natAbs then 0 else if (a.natAbs * d.natAbs < c.natAbs * b.natAbs ↔ 0 ≤ a) then -1 else 1
end Go.Proofs
set_option linter.unusedSimpArgs false
set_option maxRecDepth 100000
namespace Go.Proofs
open Go.Hx
/-- Which of two products is greater. -/
def cmpI (p q : Int) : Int := if p < q then -1 else if p = q then 0 else 1
def cmpV (a b c d : Int) : AVal := if checkQ a b = 0 ∧ checkQ c d = 0 then .tup [.lit (.int .i64 (cmpI (a * d) (c * b))), .lit (.int .i64 0)] else .tup [.lit (.int .i64 0), .lit (.int .i64 5)]
def floorV (a b : Int) : AVal := if checkQ a b = 0 then .tup [.lit (.int .i64 (a / b)), .lit (.int .i64 0)] else .tup [.lit (.int .i64 0), .lit (.int .i64 5)]
end Go.Proofs
