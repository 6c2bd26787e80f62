/- Own work: contracts. -/
import Derived.Test.YtemcnpldpoglmaaDoorConB
import Derived.Test.YtemcnpldpoglmaaDoorConD
set_option linter.all false
set_option linter.unusedSimpArgs false
set_option maxRecDepth 100000
namespace Go.Hx
variable {P : Program} {t : TypeId} {x y : Operand} {k k' : IntKind} {a b : Int}
theorem bin_shl (hb : 0 ≤ b) : binA P .shl t x y (.lit (.int k a)) (.lit (.int k' b)) = some (.lit (.int k (k.wrap (a * 2 ^ (min b.toNat k.bits))))) := by
  have h : ¬ b < 0 := by omega
  simp [binA, AVal.toVal, eqGuard, binOp, Op.shift, h, pureRun, bind, Sem.bind, pure]
theorem bin_or : binA P .or t x y (.lit (.int k a)) (.lit (.int k b)) = some (.lit (.int k (k.wrap ((BitVec.ofInt k.bits a ||| BitVec.ofInt k.bits b).toNat : Nat)))) := by
  simp [binA, AVal.toVal, eqGuard, binOp, Op.intBits, pureRun, bind, Sem.bind, pure]
/-- Shifts and the like over natural numbers. -/
theorem shlN {a s : Nat} (hs : s ≤ 64) : binA P .shl t x y (.lit (.int .u64 (a : Int))) (.lit (.int k' (s : Int))) = some (.lit (.int .u64 ((a * 2 ^ s % 18446744073709551616 : Nat) : Int))) := by
  have e64 : min s (IntKind.bits .u64) = s := Nat.min_eq_left hs
  rw [bin_shl (by omega), Int.toNat_natCast, e64, wrapU64]
  congr 4
theorem shrN {a s : Nat} (hs : s ≤ 64) : binA P .shr t x y (.lit (.int .u64 (a : Int))) (.lit (.int k' (s : Int))) = some (.lit (.int .u64 ((a / 2 ^ s : Nat) : Int))) := by
  have e64 : min s (IntKind.bits .u64) = s := Nat.min_eq_left hs
  rw [bin_shr (by omega), Int.toNat_natCast, e64]
  have e : (a : Int).fdiv (2 ^ s) = ((a / 2 ^ s : Nat) : Int) := by
    rw [Int.fdiv_eq_ediv_of_nonneg _ (by exact_mod_cast Nat.zero_le _)]
    push_cast
    rfl
  rw [e]
theorem orN {a b s : Nat} (ha : a * 2 ^ s + b < 18446744073709551616) (hb : b < 2 ^ s) : binA P .or t x y (.lit (.int .u64 ((a * 2 ^ s : Nat) : Int))) (.lit (.int .u64 (b : Int))) = some (.lit (.int .u64 ((a * 2 ^ s + b : Nat) : Int))) := by
  rw [bin_or]
  have e1 : (BitVec.ofInt 64 ((a * 2 ^ s : Nat) : Int)).toNat = a * 2 ^ s := by rw [BitVec.ofInt_natCast, BitVec.toNat_ofNat, Nat.mod_eq_of_lt (by omega)]
  have e2 : (BitVec.ofInt 64 (b : Int)).toNat = b := by rw [BitVec.ofInt_natCast, BitVec.toNat_ofNat, Nat.mod_eq_of_lt (by omega)]
  have e : (BitVec.ofInt (IntKind.bits .u64) ((a * 2 ^ s : Nat) : Int) ||| BitVec.ofInt (IntKind.bits .u64) (b : Int)).toNat = a * 2 ^ s + b := by
    show (BitVec.ofInt 64 _ ||| BitVec.ofInt 64 _).toNat = _
    rw [BitVec.toNat_or, e1, e2, ← Nat.shiftLeft_eq, ← Nat.shiftLeft_add_eq_or_of_lt hb]
  rw [e, IntWalk.u64_in _ (by omega)]
theorem shr32N {a : Nat} : binA P .shr t x y (.lit (.int .u64 (a : Int))) (.lit (.int k' 32)) = some (.lit (.int .u64 ((a / 4294967296 : Nat) : Int))) := shrN (s := 32) (by decide)
theorem shr16N {a : Nat} : binA P .shr t x y (.lit (.int .u64 (a : Int))) (.lit (.int k' 16)) = some (.lit (.int .u64 ((a / 65536 : Nat) : Int))) := shrN (s := 16) (by decide)
theorem shr8N {a : Nat} : binA P .shr t x y (.lit (.int .u64 (a : Int))) (.lit (.int k' 8)) = some (.lit (.int .u64 ((a / 256 : Nat) : Int))) := shrN (s := 8) (by decide)
end Go.Hx
namespace Go.Proofs
open Go.Hx
/-- The table of lengths. -/
def tabOk (s : ByteArray) : Bool := s.size == 256 && (List.range 256).all fun i => Nat.blt i (2 ^ (s[i]!).toNat) && Nat.ble (s[i]!).toNat 8 && (i == 0 || (Nat.ble 1 (s[i]!).toNat && Nat.ble (2 ^ ((s[i]!).toNat - 1)) i))
def LenOk (i L : Nat) : Prop := i < 2 ^ L ∧ (i ≠ 0 → 1 ≤ L ∧ 2 ^ (L - 1) ≤ i)
theorem wpo_tab {s : ByteArray} {i : Nat} {F : AVal → Prop} (hs : tabOk s = true) (hi : i < 256) (h : ∀ L, L ≤ 8 → LenOk i L → F (.lit (.int .u8 (L : Int)))) : wpo (indexA Tryd.prog 9 (.lit (.string s)) (.lit (.int .u8 (i : Int)))) F := by
  unfold tabOk at hs
  rw [Bool.and_eq_true, List.all_eq_true] at hs
  have h1 := hs.2 i (List.mem_range.2 hi)
  have hz : s.size = 256 := by simpa using hs.1
  have ix : indexA Tryd.prog 9 (.lit (.string s)) (.lit (.int .u8 (i : Int))) = some (.lit (.int .u8 (((s[i]!).toNat : Nat) : Int))) := by
    unfold indexA
    simp only []
    have e1 : s[i]? = some s[i]! := by
      rw [getElem!_pos s i (by omega)]
      exact getElem?_pos s i (by omega)
    have ht : Tryd.prog.underlying 9 = some .string := Tryd.underlying9
    simp [Instr.index, asIntOf, underlying, program, ht, pureRun, bind, Sem.bind, pure, e1]
  rw [ix, wpo_some]
  simp only [Bool.and_eq_true, Bool.or_eq_true, beq_iff_eq] at h1
  have b1 := Nat.le_of_ble_eq_true h1.1.1
  have b2 := Nat.le_of_ble_eq_true h1.1.2
  refine h _ b2 ⟨b1, fun h0 => ?_⟩
  rcases h1.2 with h2 | h2
  · exact absurd h2 h0
  · exact ⟨Nat.le_of_ble_eq_true h2.1, Nat.le_of_ble_eq_true h2.2⟩
theorem lenOk_shift {x k L : Nat} (h : LenOk (x / 2 ^ k) L) (hk : x / 2 ^ k ≠ 0 ∨ k = 0) : LenOk x (k + L) := by
  have pk : 0 < 2 ^ k := Nat.two_pow_pos k
  refine ⟨?_, fun h0 => ?_⟩
  · rw [Nat.pow_add]
    exact Nat.lt_mul_of_div_lt h.1 pk |> fun h => by rwa [Nat.mul_comm] at h
  · rcases hk with hk | rfl
    · obtain ⟨h1, h2⟩ := h.2 hk
      refine ⟨by omega, ?_⟩
      rw [show k + L - 1 = (L - 1) + k by omega, Nat.pow_add]
      exact (Nat.le_div_iff_mul_le pk).1 h2
    · simpa using h.2 (by simpa using h0)
theorem len64_spec (x : Nat) (hx : x < 18446744073709551616) (H : AHeap) (K : ARes → AHeap → Prop) (hK : ∀ L : Nat, L ≤ 64 → LenOk x L → K (.ret (lin L)) H) : ACall Tryd.prog G0 101 [.lit (.int .u64 (x : Int))] H K := by
  refine ACall.clo ⟨_, Tryd.func101, rfl, rfl⟩ fun hcl => ?_
  have wr : ∀ i : Nat, i < 256 → IntKind.u8.wrap ((i : Nat) : Int) = (i : Int) := fun i hi => by
    simp [IntKind.wrap, IntKind.bits, IntKind.signed]; omega
  have fin : ∀ (k L : Nat), k ≤ 56 → L ≤ 8 → (x / 2 ^ k ≠ 0 ∨ k = 0) → LenOk (x / 2 ^ k) L → ∀ z : Int, z = ((k + L : Nat) : Int) → FinV Tryd.prog G0 H K (.lit (.int .i64 z)) H := fun k L h1 h2 h3 h4 z hz => by
    subst hz
    exact FinV.dropO G0_ok hcl (.refl _) (.lit _) (hK _ (by omega) (lenOk_shift h4 h3))
  have k8 : IntKind.i64.wrap 8 = 8 := by decide
  have k16 : IntKind.i64.wrap 16 = 16 := by decide
  have k24 : IntKind.i64.wrap 24 = 24 := by decide
  have k32 : IntKind.i64.wrap 32 = 32 := by decide
  have k40 : IntKind.i64.wrap 40 = 40 := by decide
  have k48 : IntKind.i64.wrap 48 = 48 := by decide
  have k56 : IntKind.i64.wrap 56 = 56 := by decide
  refine ACall.of_body (n := 25) (rs := [.tmp 2]) Tryd.func101 rfl rfl rfl (by decide) (by kernel_rfl) (by simp) ?_
  by_cases h1 : (4294967296 : Int) ≤ ((x : Nat) : Int)
  · have g0 : True := trivial
    by_cases h2 : (65536 : Int) ≤ ((x / 4294967296 : Nat) : Int)
    · have g1 : True := trivial
      by_cases h3 : (256 : Int) ≤ ((x / 4294967296 / 65536 : Nat) : Int)
      · have g2 : True := trivial
        have b : x / 4294967296 / 65536 / 256 < 256 := by omega
        have ww := wr (x / 4294967296 / 65536 / 256) b
        simp (config := { maxSteps := 1000000 }) only [go_sem, Int.reduceToNat, Int.reduceLE, Int.reduceLT, Int.reduceAdd, Int.reduceSub, Int.reduceMul, Int.reduceEq, Int.reduceNe, Nat.reduceEqDiff, Nat.reducePow, Nat.reduceDiv, Nat.reduceMod, Nat.reduceAdd, Nat.reduceMul, Nat.reduceSub, Nat.reduceLT, Nat.reduceLeDiff, reduceIte, reduceCtorEq, h1, h2, h3, shr32N, shr16N, shr8N, ww, appendA_U]
        refine wpo_tab (by kernel_rfl) b fun L hL hO => ?_
        have wl := IntWalk.i64_in (56 + (L : Int)) (by omega)
        have wl0 := IntWalk.i64_in (L : Int) (by omega)
        simp (config := { maxSteps := 1000000 }) only [go_sem, Int.reduceToNat, Int.reduceLE, Int.reduceLT, Int.reduceAdd, Int.reduceSub, Int.reduceMul, Int.reduceEq, Int.reduceNe, Nat.reduceEqDiff, Nat.reducePow, Nat.reduceDiv, Nat.reduceMod, Nat.reduceAdd, Nat.reduceMul, Nat.reduceSub, Nat.reduceLT, Nat.reduceLeDiff, reduceIte, reduceCtorEq, wl, wl0, k8, k16, k24, k32, k40, k48, k56, appendA_U]
        have e2 : x / 4294967296 / 65536 / 256 = x / 2 ^ 56 := by simp [Nat.div_div_eq_div_mul]
        exact fin 56 L (by omega) hL (by omega) (by rw [← e2]; exact hO) _ (by omega)
      · have g2 : True := trivial
        have b : x / 4294967296 / 65536 < 256 := by omega
        have ww := wr (x / 4294967296 / 65536) b
        simp (config := { maxSteps := 1000000 }) only [go_sem, Int.reduceToNat, Int.reduceLE, Int.reduceLT, Int.reduceAdd, Int.reduceSub, Int.reduceMul, Int.reduceEq, Int.reduceNe, Nat.reduceEqDiff, Nat.reducePow, Nat.reduceDiv, Nat.reduceMod, Nat.reduceAdd, Nat.reduceMul, Nat.reduceSub, Nat.reduceLT, Nat.reduceLeDiff, reduceIte, reduceCtorEq, h1, h2, h3, shr32N, shr16N, shr8N, ww, appendA_U]
        refine wpo_tab (by kernel_rfl) b fun L hL hO => ?_
        have wl := IntWalk.i64_in (48 + (L : Int)) (by omega)
        have wl0 := IntWalk.i64_in (L : Int) (by omega)
        simp (config := { maxSteps := 1000000 }) only [go_sem, Int.reduceToNat, Int.reduceLE, Int.reduceLT, Int.reduceAdd, Int.reduceSub, Int.reduceMul, Int.reduceEq, Int.reduceNe, Nat.reduceEqDiff, Nat.reducePow, Nat.reduceDiv, Nat.reduceMod, Nat.reduceAdd, Nat.reduceMul, Nat.reduceSub, Nat.reduceLT, Nat.reduceLeDiff, reduceIte, reduceCtorEq, wl, wl0, k8, k16, k24, k32, k40, k48, k56, appendA_U]
        have e2 : x / 4294967296 / 65536 = x / 2 ^ 48 := by simp [Nat.div_div_eq_div_mul]
        exact fin 48 L (by omega) hL (by omega) (by rw [← e2]; exact hO) _ (by omega)
    · have g1 : True := trivial
      by_cases h3 : (256 : Int) ≤ ((x / 4294967296 : Nat) : Int)
      · have g2 : True := trivial
        have b : x / 4294967296 / 256 < 256 := by omega
        have ww := wr (x / 4294967296 / 256) b
        simp (config := { maxSteps := 1000000 }) only [go_sem, Int.reduceToNat, Int.reduceLE, Int.reduceLT, Int.reduceAdd, Int.reduceSub, Int.reduceMul, Int.reduceEq, Int.reduceNe, Nat.reduceEqDiff, Nat.reducePow, Nat.reduceDiv, Nat.reduceMod, Nat.reduceAdd, Nat.reduceMul, Nat.reduceSub, Nat.reduceLT, Nat.reduceLeDiff, reduceIte, reduceCtorEq, h1, h2, h3, shr32N, shr16N, shr8N, ww, appendA_U]
        refine wpo_tab (by kernel_rfl) b fun L hL hO => ?_
        have wl := IntWalk.i64_in (40 + (L : Int)) (by omega)
        have wl0 := IntWalk.i64_in (L : Int) (by omega)
        simp (config := { maxSteps := 1000000 }) only [go_sem, Int.reduceToNat, Int.reduceLE, Int.reduceLT, Int.reduceAdd, Int.reduceSub, Int.reduceMul, Int.reduceEq, Int.reduceNe, Nat.reduceEqDiff, Nat.reducePow, Nat.reduceDiv, Nat.reduceMod, Nat.reduceAdd, Nat.reduceMul, Nat.reduceSub, Nat.reduceLT, Nat.reduceLeDiff, reduceIte, reduceCtorEq, wl, wl0, k8, k16, k24, k32, k40, k48, k56, appendA_U]
        have e2 : x / 4294967296 / 256 = x / 2 ^ 40 := by simp [Nat.div_div_eq_div_mul]
        exact fin 40 L (by omega) hL (by omega) (by rw [← e2]; exact hO) _ (by omega)
      · have g2 : True := trivial
        have b : x / 4294967296 < 256 := by omega
        have ww := wr (x / 4294967296) b
        simp (config := { maxSteps := 1000000 }) only [go_sem, Int.reduceToNat, Int.reduceLE, Int.reduceLT, Int.reduceAdd, Int.reduceSub, Int.reduceMul, Int.reduceEq, Int.reduceNe, Nat.reduceEqDiff, Nat.reducePow, Nat.reduceDiv, Nat.reduceMod, Nat.reduceAdd, Nat.reduceMul, Nat.reduceSub, Nat.reduceLT, Nat.reduceLeDiff, reduceIte, reduceCtorEq, h1, h2, h3, shr32N, shr16N, shr8N, ww, appendA_U]
        refine wpo_tab (by kernel_rfl) b fun L hL hO => ?_
        have wl := IntWalk.i64_in (32 + (L : Int)) (by omega)
        have wl0 := IntWalk.i64_in (L : Int) (by omega)
        simp (config := { maxSteps := 1000000 }) only [go_sem, Int.reduceToNat, Int.reduceLE, Int.reduceLT, Int.reduceAdd, Int.reduceSub, Int.reduceMul, Int.reduceEq, Int.reduceNe, Nat.reduceEqDiff, Nat.reducePow, Nat.reduceDiv, Nat.reduceMod, Nat.reduceAdd, Nat.reduceMul, Nat.reduceSub, Nat.reduceLT, Nat.reduceLeDiff, reduceIte, reduceCtorEq, wl, wl0, k8, k16, k24, k32, k40, k48, k56, appendA_U]
        exact fin 32 L (by omega) hL (by omega) (by simpa using hO) _ (by omega)
  · have g0 : True := trivial
    by_cases h2 : (65536 : Int) ≤ ((x : Nat) : Int)
    · have g1 : True := trivial
      by_cases h3 : (256 : Int) ≤ ((x / 65536 : Nat) : Int)
      · have g2 : True := trivial
        have b : x / 65536 / 256 < 256 := by omega
        have ww := wr (x / 65536 / 256) b
        simp (config := { maxSteps := 1000000 }) only [go_sem, Int.reduceToNat, Int.reduceLE, Int.reduceLT, Int.reduceAdd, Int.reduceSub, Int.reduceMul, Int.reduceEq, Int.reduceNe, Nat.reduceEqDiff, Nat.reducePow, Nat.reduceDiv, Nat.reduceMod, Nat.reduceAdd, Nat.reduceMul, Nat.reduceSub, Nat.reduceLT, Nat.reduceLeDiff, reduceIte, reduceCtorEq, h1, h2, h3, shr32N, shr16N, shr8N, ww, appendA_U]
        refine wpo_tab (by kernel_rfl) b fun L hL hO => ?_
        have wl := IntWalk.i64_in (24 + (L : Int)) (by omega)
        have wl0 := IntWalk.i64_in (L : Int) (by omega)
        simp (config := { maxSteps := 1000000 }) only [go_sem, Int.reduceToNat, Int.reduceLE, Int.reduceLT, Int.reduceAdd, Int.reduceSub, Int.reduceMul, Int.reduceEq, Int.reduceNe, Nat.reduceEqDiff, Nat.reducePow, Nat.reduceDiv, Nat.reduceMod, Nat.reduceAdd, Nat.reduceMul, Nat.reduceSub, Nat.reduceLT, Nat.reduceLeDiff, reduceIte, reduceCtorEq, wl, wl0, k8, k16, k24, k32, k40, k48, k56, appendA_U]
        have e2 : x / 65536 / 256 = x / 2 ^ 24 := by simp [Nat.div_div_eq_div_mul]
        exact fin 24 L (by omega) hL (by omega) (by rw [← e2]; exact hO) _ (by omega)
      · have g2 : True := trivial
        have b : x / 65536 < 256 := by omega
        have ww := wr (x / 65536) b
        simp (config := { maxSteps := 1000000 }) only [go_sem, Int.reduceToNat, Int.reduceLE, Int.reduceLT, Int.reduceAdd, Int.reduceSub, Int.reduceMul, Int.reduceEq, Int.reduceNe, Nat.reduceEqDiff, Nat.reducePow, Nat.reduceDiv, Nat.reduceMod, Nat.reduceAdd, Nat.reduceMul, Nat.reduceSub, Nat.reduceLT, Nat.reduceLeDiff, reduceIte, reduceCtorEq, h1, h2, h3, shr32N, shr16N, shr8N, ww, appendA_U]
        refine wpo_tab (by kernel_rfl) b fun L hL hO => ?_
        have wl := IntWalk.i64_in (16 + (L : Int)) (by omega)
        have wl0 := IntWalk.i64_in (L : Int) (by omega)
        simp (config := { maxSteps := 1000000 }) only [go_sem, Int.reduceToNat, Int.reduceLE, Int.reduceLT, Int.reduceAdd, Int.reduceSub, Int.reduceMul, Int.reduceEq, Int.reduceNe, Nat.reduceEqDiff, Nat.reducePow, Nat.reduceDiv, Nat.reduceMod, Nat.reduceAdd, Nat.reduceMul, Nat.reduceSub, Nat.reduceLT, Nat.reduceLeDiff, reduceIte, reduceCtorEq, wl, wl0, k8, k16, k24, k32, k40, k48, k56, appendA_U]
        exact fin 16 L (by omega) hL (by omega) (by simpa using hO) _ (by omega)
    · have g1 : True := trivial
      by_cases h3 : (256 : Int) ≤ ((x : Nat) : Int)
      · have g2 : True := trivial
        have b : x / 256 < 256 := by omega
        have ww := wr (x / 256) b
        simp (config := { maxSteps := 1000000 }) only [go_sem, Int.reduceToNat, Int.reduceLE, Int.reduceLT, Int.reduceAdd, Int.reduceSub, Int.reduceMul, Int.reduceEq, Int.reduceNe, Nat.reduceEqDiff, Nat.reducePow, Nat.reduceDiv, Nat.reduceMod, Nat.reduceAdd, Nat.reduceMul, Nat.reduceSub, Nat.reduceLT, Nat.reduceLeDiff, reduceIte, reduceCtorEq, h1, h2, h3, shr32N, shr16N, shr8N, ww, appendA_U]
        refine wpo_tab (by kernel_rfl) b fun L hL hO => ?_
        have wl := IntWalk.i64_in (8 + (L : Int)) (by omega)
        have wl0 := IntWalk.i64_in (L : Int) (by omega)
        simp (config := { maxSteps := 1000000 }) only [go_sem, Int.reduceToNat, Int.reduceLE, Int.reduceLT, Int.reduceAdd, Int.reduceSub, Int.reduceMul, Int.reduceEq, Int.reduceNe, Nat.reduceEqDiff, Nat.reducePow, Nat.reduceDiv, Nat.reduceMod, Nat.reduceAdd, Nat.reduceMul, Nat.reduceSub, Nat.reduceLT, Nat.reduceLeDiff, reduceIte, reduceCtorEq, wl, wl0, k8, k16, k24, k32, k40, k48, k56, appendA_U]
        exact fin 8 L (by omega) hL (by omega) (by simpa using hO) _ (by omega)
      · have g2 : True := trivial
        have b : x < 256 := by omega
        have ww := wr (x) b
        simp (config := { maxSteps := 1000000 }) only [go_sem, Int.reduceToNat, Int.reduceLE, Int.reduceLT, Int.reduceAdd, Int.reduceSub, Int.reduceMul, Int.reduceEq, Int.reduceNe, Nat.reduceEqDiff, Nat.reducePow, Nat.reduceDiv, Nat.reduceMod, Nat.reduceAdd, Nat.reduceMul, Nat.reduceSub, Nat.reduceLT, Nat.reduceLeDiff, reduceIte, reduceCtorEq, h1, h2, h3, shr32N, shr16N, shr8N, ww, appendA_U]
        refine wpo_tab (by kernel_rfl) b fun L hL hO => ?_
        have wl := IntWalk.i64_in (0 + (L : Int)) (by omega)
        have wl0 := IntWalk.i64_in (L : Int) (by omega)
        simp (config := { maxSteps := 1000000 }) only [go_sem, Int.reduceToNat, Int.reduceLE, Int.reduceLT, Int.reduceAdd, Int.reduceSub, Int.reduceMul, Int.reduceEq, Int.reduceNe, Nat.reduceEqDiff, Nat.reducePow, Nat.reduceDiv, Nat.reduceMod, Nat.reduceAdd, Nat.reduceMul, Nat.reduceSub, Nat.reduceLT, Nat.reduceLeDiff, reduceIte, reduceCtorEq, wl, wl0, k8, k16, k24, k32, k40, k48, k56, appendA_U]
        exact fin 0 L (by omega) hL (by omega) (by simpa using hO) _ (by omega)
end Go.Proofs
set_option linter.unusedSimpArgs false
set_option maxRecDepth 100000
namespace Go.Hx
variable {P : Program} {G : Nat → Option (List AVal)}
theorem W.mid {n : Nat} {rd : Option Nat} {Q : AX → St → Prop} {s : St} {x y : Code} (Φ : St → Prop) (h : W P G n rd x (fun ax s' => ax = .normal ∧ Φ s') s) (h2 : ∀ s', Φ s' → W P G n rd y Q s') : W P G n rd (.seq x y) Q s :=
  W.seq (h.mono fun ax s' ⟨e, hp⟩ => by subst e; exact h2 s' hp)
end Go.Hx
namespace Go.Proofs
open Go.Hx
/-! A digit of a long division: the trial quotient and its corrections. -/
structure Trial (Y yn1 yn0 U u q r : Nat) : Prop where
  eq : q * yn1 + r = U
  ge : (U * 4294967296 + u) / Y ≤ q
structure TrialC (Y yn1 yn0 U u : Nat) : Prop where
  hY : Y = yn1 * 4294967296 + yn0
  h1 : 2147483648 ≤ yn1
  h1' : yn1 < 4294967296
  h0 : yn0 < 4294967296
  hU : U < Y
  hu : u < 4294967296
theorem TrialC.key {Y yn1 yn0 U u q r : Nat} (c : TrialC Y yn1 yn0 U u) (h : q * yn1 + r = U) : q * Y + r * 4294967296 = U * 4294967296 + q * yn0 := by
  rw [c.hY, ← h, Nat.mul_add, Nat.add_mul, ← Nat.mul_assoc]
  omega
theorem TrialC.init {Y yn1 yn0 U u : Nat} (c : TrialC Y yn1 yn0 U u) : Trial Y yn1 yn0 U u (U / yn1) (U % yn1) ∧ U / yn1 ≤ 4294967297 ∧ U % yn1 < 4294967296 := by
  have e : U / yn1 * yn1 + U % yn1 = U := by rw [Nat.mul_comm]; exact Nat.div_add_mod U yn1
  have hp := c.h1
  have hp' := c.h1'
  have hU := c.hU
  have hu := c.hu
  have h0 := c.h0
  have hY := c.hY
  have hr : U % yn1 < yn1 := Nat.mod_lt _ (by omega)
  have k := c.key e
  refine ⟨⟨e, ?_⟩, ?_, by omega⟩
  · refine Nat.le_of_lt_succ (Nat.div_lt_of_lt_mul ?_)
    have : Y * (U / yn1).succ = U / yn1 * Y + Y := by rw [Nat.mul_succ, Nat.mul_comm]
    rw [this]
    generalize U / yn1 * Y = z at *
    generalize U / yn1 * yn0 = w at *
    generalize U / yn1 * yn1 = v at *
    omega
  · refine Nat.le_of_lt_succ (Nat.div_lt_of_lt_mul ?_)
    omega
theorem TrialC.stop {Y yn1 yn0 U u q r : Nat} (c : TrialC Y yn1 yn0 U u) (h : Trial Y yn1 yn0 U u q r) (h2 : q * yn0 ≤ 4294967296 * r + u) : q = (U * 4294967296 + u) / Y := by
  have k := c.key h.eq
  have hp := c.h1
  have hY := c.hY
  refine Nat.le_antisymm ?_ h.ge
  rw [Nat.le_div_iff_mul_le (by omega)]
  omega
theorem TrialC.step {Y yn1 yn0 U u q r : Nat} (c : TrialC Y yn1 yn0 U u) (h : Trial Y yn1 yn0 U u q r) (h2 : 4294967296 ≤ q ∨ 4294967296 * r + u < q * yn0) : 1 ≤ q ∧ Trial Y yn1 yn0 U u (q - 1) (r + yn1) := by
  have k := c.key h.eq
  have hp := c.h1
  have hY := c.hY
  have hU := c.hU
  have hu := c.hu
  have hlt : (U * 4294967296 + u) / Y < q := by
    rcases h2 with h2 | h2
    · refine Nat.lt_of_lt_of_le (Nat.div_lt_of_lt_mul ?_) h2
      omega
    · rw [Nat.div_lt_iff_lt_mul (by omega)]
      omega
  have e := h.eq
  have h1q : 1 ≤ q := Nat.succ_le_of_lt (Nat.lt_of_le_of_lt (Nat.zero_le _) hlt)
  refine ⟨h1q, ?_, ?_⟩
  · obtain ⟨p, rfl⟩ : ∃ p, q = p + 1 := ⟨q - 1, (Nat.sub_add_cancel h1q).symm⟩
    rw [Nat.add_mul, Nat.one_mul] at e
    rw [Nat.add_sub_cancel]
    generalize p * yn1 = z at *
    omega
  · exact Nat.le_sub_one_of_lt hlt
theorem TrialC.brk {Y yn1 yn0 U u q r : Nat} (c : TrialC Y yn1 yn0 U u) (h : Trial Y yn1 yn0 U u q r) (hq : q ≤ 4294967296) (hr : 4294967296 ≤ r) : q = (U * 4294967296 + u) / Y := by
  have h0 := c.h0
  refine c.stop h ?_
  have : q * yn0 ≤ 4294967296 * 4294967295 := Nat.mul_le_mul hq (by omega)
  omega
theorem lz64_spec (x : Nat) (hx : x < 18446744073709551616) (H : AHeap) (K : ARes → AHeap → Prop) (hK : ∀ L : Nat, L ≤ 64 → LenOk x L → K (.ret (lin ((64 - L : Nat) : Int))) H) : ACall Tryd.prog G0 92 [.lit (.int .u64 (x : Int))] H K := by
  refine ACall.clo ⟨_, Tryd.func92, rfl, rfl⟩ fun hcl => ?_
  refine ACall.of_body (n := 6) (rs := [.tmp 2]) Tryd.func92 rfl rfl rfl (by decide) (by kernel_rfl) (by simp) ?_
  simp (config := { maxSteps := 1000000 }) only [go_sem, Int.reduceToNat, Int.reduceLE, Int.reduceLT, Int.reduceAdd, Int.reduceSub, Int.reduceMul, Int.reduceEq, Int.reduceNe, Nat.reduceEqDiff, Nat.reducePow, Nat.reduceDiv, Nat.reduceMod, Nat.reduceAdd, Nat.reduceMul, Nat.reduceSub, Nat.reduceLT, Nat.reduceLeDiff, reduceIte, reduceCtorEq, appendA_U]
  refine AApply.clo (len64_spec x hx _ _ fun L hL hO => ⟨trivial, ?_⟩)
  have w := IntWalk.i64_in (64 - (L : Int)) (by omega)
  have e : (64 : Int) - (L : Int) = ((64 - L : Nat) : Int) := by omega
  rw [e] at w
  simp (config := { maxSteps := 1000000 }) only [go_sem, Int.reduceToNat, Int.reduceLE, Int.reduceLT, Int.reduceAdd, Int.reduceSub, Int.reduceMul, Int.reduceEq, Int.reduceNe, Nat.reduceEqDiff, Nat.reducePow, Nat.reduceDiv, Nat.reduceMod, Nat.reduceAdd, Nat.reduceMul, Nat.reduceSub, Nat.reduceLT, Nat.reduceLeDiff, reduceIte, reduceCtorEq, e, w, appendA_U]
  exact FinV.dropO G0_ok hcl (.refl _) (.lit _) (hK L hL hO)
end Go.Proofs
set_option linter.unusedSimpArgs false
set_option maxRecDepth 100000
namespace Go.Proofs
open Go.Hx
/-- The numbers of a long division by two digits. -/
theorem div_fin {hi lo y s U V Y u1 u0 Q1 R1 : Nat} (hs : s ≤ 64) (hy : y ≠ 0) (hY : Y = y * 2 ^ s) (hU : U = hi * 2 ^ s + lo / 2 ^ (64 - s)) (hV : V = lo * 2 ^ s % 18446744073709551616) (h1 : u1 = V / 4294967296) (h0 : u0 = V % 4294967296)
    (hQ : Q1 = (U * 4294967296 + u1) / Y) (hR : R1 = (U * 4294967296 + u1) % Y) :
    Q1 * 4294967296 + (R1 * 4294967296 + u0) / Y = (hi * 18446744073709551616 + lo) / y ∧ (R1 * 4294967296 + u0) % Y / 2 ^ s = (hi * 18446744073709551616 + lo) % y := by
  have ps : 0 < 2 ^ s := Nat.two_pow_pos s
  have pY : 0 < Y := by rw [hY]; exact Nat.mul_pos (by omega) ps
  have e2 : (18446744073709551616 : Nat) = 2 ^ (64 - s) * 2 ^ s := by rw [← Nat.pow_add, Nat.sub_add_cancel hs]
  have e1 : lo / 2 ^ (64 - s) = lo * 2 ^ s / 18446744073709551616 := by rw [e2, Nat.mul_div_mul_right _ _ ps]
  have eN : (hi * 18446744073709551616 + lo) * 2 ^ s = U * 18446744073709551616 + V := by
    rw [hU, hV, e1, Nat.add_mul, Nat.add_mul]
    have := Nat.div_add_mod (lo * 2 ^ s) 18446744073709551616
    have x : hi * 18446744073709551616 * 2 ^ s = hi * 2 ^ s * 18446744073709551616 := by ac_rfl
    rw [x]
    generalize hi * 2 ^ s = a at *
    generalize lo * 2 ^ s = b at *
    omega
  have d1 := Nat.div_add_mod (U * 4294967296 + u1) Y
  rw [← hQ, ← hR] at d1
  have eM : U * 18446744073709551616 + V = (R1 * 4294967296 + u0) + Y * (Q1 * 4294967296) := by
    rw [← Nat.mul_assoc]
    generalize Y * Q1 = z at *
    omega
  have k1 : (U * 18446744073709551616 + V) / Y = Q1 * 4294967296 + (R1 * 4294967296 + u0) / Y := by rw [eM, Nat.add_mul_div_left _ _ pY, Nat.add_comm]
  have k2 : (U * 18446744073709551616 + V) % Y = (R1 * 4294967296 + u0) % Y := by rw [eM, Nat.add_mul_mod_self_left]
  rw [← eN, hY, Nat.mul_div_mul_right _ _ ps] at k1
  rw [← eN, hY, Nat.mul_mod_mul_right] at k2
  rw [hY]
  exact ⟨k1.symm, by rw [← k2, Nat.mul_div_cancel _ ps]⟩
set_option maxHeartbeats 4000000 in
theorem div64_spec (hi lo y : Nat) (hy : y ≠ 0) (hh : hi < y) (hl : lo < 18446744073709551616) (hyW : y < 18446744073709551616) (H : AHeap) (K : ARes → AHeap → Prop)
    (hK : K (.ret (.tup [.lit (.int .u64 (((hi * 18446744073709551616 + lo) / y : Nat) : Int)), .lit (.int .u64 (((hi * 18446744073709551616 + lo) % y : Nat) : Int))])) H) :
    ACall Tryd.prog G0 87 [.lit (.int .u64 (hi : Int)), .lit (.int .u64 (lo : Int)), .lit (.int .u64 (y : Int))] H K := by
  refine ACall.clo ⟨_, Tryd.func87, rfl, rfl⟩ fun hcl => ?_
  have n1 : ¬ (y : Int) = 0 := by omega
  have n2 : ¬ (y : Int) ≤ (hi : Int) := by omega
  by_cases hi0 : hi = 0
  · subst hi0
    rw [Nat.zero_mul, Nat.zero_add] at hK
    have q1 : (lo : Int).tdiv (y : Int) = ((lo / y : Nat) : Int) := by rw [Int.tdiv_eq_ediv_of_nonneg (by omega)]; rfl
    have q2 : (lo : Int).tmod (y : Int) = ((lo % y : Nat) : Int) := by rw [Int.tmod_eq_emod_of_nonneg (by omega)]; rfl
    have b1 : lo / y ≤ lo := Nat.div_le_self _ _
    have b2 : lo % y ≤ lo := Nat.mod_le _ _
    generalize lo / y = c1 at *
    generalize lo % y = c2 at *
    have w1 := IntWalk.u64_in (c1 : Int) (by omega)
    have w2 := IntWalk.u64_in (c2 : Int) (by omega)
    have n3 : ¬ (y : Int) ≤ 0 := by omega
    have z : ((0 : Nat) : Int) = 0 := rfl
    refine ACall.of_body (n := 135) (rs := [.tmp 6, .tmp 7]) Tryd.func87 rfl rfl rfl (by decide) (by kernel_rfl) (by simp) ?_
    simp (config := { maxSteps := 1000000 }) only [go_sem, Int.reduceToNat, Int.reduceLE, Int.reduceLT, Int.reduceAdd, Int.reduceSub, Int.reduceMul, Int.reduceEq, Int.reduceNe, Nat.reduceEqDiff, Nat.reducePow, Nat.reduceDiv, Nat.reduceMod, Nat.reduceAdd, Nat.reduceMul, Nat.reduceSub, Nat.reduceLT, Nat.reduceLeDiff, reduceIte, reduceCtorEq, n1, n2, n3, z, appendA_U]
    refine W.draw 7 [0, 0, 3, 0, 0, 24, 7] Tryd.mixed (by kernel_rfl) (by kernel_rfl) ?_
    simp (config := { maxSteps := 1000000 }) only [go_sem, Int.reduceToNat, Int.reduceLE, Int.reduceLT, Int.reduceAdd, Int.reduceSub, Int.reduceMul, Int.reduceEq, Int.reduceNe, Nat.reduceEqDiff, Nat.reducePow, Nat.reduceDiv, Nat.reduceMod, Nat.reduceAdd, Nat.reduceMul, Nat.reduceSub, Nat.reduceLT, Nat.reduceLeDiff, reduceIte, reduceCtorEq, q1, q2, w1, w2, n1, appendA_U]
    exact FinV.dropO (v' := .tup [.lit (.int .u64 (c1 : Int)), .lit (.int .u64 (c2 : Int))]) G0_ok hcl (.refl _) (.tup rfl fun i hi _ => match i, hi with | 0, _ => .lit _ | 1, _ => .lit _) hK
  have n3 : ¬ (hi : Int) = 0 := by omega
  have W64 : (18446744073709551616 : Nat) = 2 ^ 64 := by decide
  refine ACall.of_bodyW (n := 135) (rs := [.tmp 6, .tmp 7]) Tryd.func87 rfl rfl rfl (by decide) (by simp) ?_
  refine W.seq (vc_sound _ _ _ (by rfl) ?_)
  simp (config := { maxSteps := 1000000 }) only [go_sem, Int.reduceToNat, Int.reduceLE, Int.reduceLT, Int.reduceAdd, Int.reduceSub, Int.reduceMul, Int.reduceEq, Int.reduceNe, Nat.reduceEqDiff, Nat.reducePow, Nat.reduceDiv, Nat.reduceMod, Nat.reduceAdd, Nat.reduceMul, Nat.reduceSub, Nat.reduceLT, Nat.reduceLeDiff, reduceIte, reduceCtorEq, appendA_U]
  refine W.seq (vc_sound _ _ _ (by rfl) ?_)
  simp (config := { maxSteps := 1000000 }) only [go_sem, Int.reduceToNat, Int.reduceLE, Int.reduceLT, Int.reduceAdd, Int.reduceSub, Int.reduceMul, Int.reduceEq, Int.reduceNe, Nat.reduceEqDiff, Nat.reducePow, Nat.reduceDiv, Nat.reduceMod, Nat.reduceAdd, Nat.reduceMul, Nat.reduceSub, Nat.reduceLT, Nat.reduceLeDiff, reduceIte, reduceCtorEq, n1, appendA_U]
  refine W.seq (vc_sound _ _ _ (by rfl) ?_)
  simp (config := { maxSteps := 1000000 }) only [go_sem, Int.reduceToNat, Int.reduceLE, Int.reduceLT, Int.reduceAdd, Int.reduceSub, Int.reduceMul, Int.reduceEq, Int.reduceNe, Nat.reduceEqDiff, Nat.reducePow, Nat.reduceDiv, Nat.reduceMod, Nat.reduceAdd, Nat.reduceMul, Nat.reduceSub, Nat.reduceLT, Nat.reduceLeDiff, reduceIte, reduceCtorEq, n2, appendA_U]
  refine W.seq (vc_sound _ _ _ (by rfl) ?_)
  simp (config := { maxSteps := 1000000 }) only [go_sem, Int.reduceToNat, Int.reduceLE, Int.reduceLT, Int.reduceAdd, Int.reduceSub, Int.reduceMul, Int.reduceEq, Int.reduceNe, Nat.reduceEqDiff, Nat.reducePow, Nat.reduceDiv, Nat.reduceMod, Nat.reduceAdd, Nat.reduceMul, Nat.reduceSub, Nat.reduceLT, Nat.reduceLeDiff, reduceIte, reduceCtorEq, n3, appendA_U]
  refine W.env fun E0 hE0 => ?_
  have a0_0 : E0 0 = .lit (.int .u64 ((hi : Nat) : Int)) := by rw [hE0]; rfl
  have a0_1 : E0 1 = .lit (.int .u64 ((lo : Nat) : Int)) := by rw [hE0]; rfl
  have a0_2 : E0 2 = .lit (.int .u64 ((y : Nat) : Int)) := by rw [hE0]; rfl
  clear hE0
  refine W.seq (vc_sound _ _ _ (by rfl) ?_)
  simp (config := { maxSteps := 1000000 }) only [go_sem, Int.reduceToNat, Int.reduceLE, Int.reduceLT, Int.reduceAdd, Int.reduceSub, Int.reduceMul, Int.reduceEq, Int.reduceNe, Nat.reduceEqDiff, Nat.reducePow, Nat.reduceDiv, Nat.reduceMod, Nat.reduceAdd, Nat.reduceMul, Nat.reduceSub, Nat.reduceLT, Nat.reduceLeDiff, reduceIte, reduceCtorEq, a0_0, a0_1, a0_2, appendA_U]
  refine AApply.clo (lz64_spec y hyW _ _ fun L hL64 hLO => ⟨trivial, ?_⟩)
  obtain ⟨hL1, hL2⟩ := hLO.2 hy
  have hL3 := hLO.1
  obtain ⟨s, hs⟩ : ∃ s, s = 64 - L := ⟨_, rfl⟩
  rw [← hs]
  have s63 : s ≤ 63 := by omega
  have s64 : s ≤ 64 := by omega
  have ps : 0 < 2 ^ s := Nat.two_pow_pos s
  have cw := IntWalk.u64_in (s : Int) (by omega)
  simp (config := { maxSteps := 1000000 }) only [go_sem, Int.reduceToNat, Int.reduceLE, Int.reduceLT, Int.reduceAdd, Int.reduceSub, Int.reduceMul, Int.reduceEq, Int.reduceNe, Nat.reduceEqDiff, Nat.reducePow, Nat.reduceDiv, Nat.reduceMod, Nat.reduceAdd, Nat.reduceMul, Nat.reduceSub, Nat.reduceLT, Nat.reduceLeDiff, reduceIte, reduceCtorEq, a0_0, a0_1, a0_2, cw, appendA_U]
  refine W.env fun E1 hE1 => ?_
  have a1_0 : E1 0 = .lit (.int .u64 ((hi : Nat) : Int)) := by rw [hE1]; exact a0_0
  have a1_1 : E1 1 = .lit (.int .u64 ((lo : Nat) : Int)) := by rw [hE1]; exact a0_1
  have a1_2 : E1 2 = .lit (.int .u64 ((y : Nat) : Int)) := by rw [hE1]; exact a0_2
  have a1_8 : E1 8 = .lit (.int .u64 ((s : Nat) : Int)) := by rw [hE1]; rfl
  clear hE1
  obtain ⟨Y, hY⟩ : ∃ Y, Y = y * 2 ^ s := ⟨_, rfl⟩
  have Ylt : Y < 18446744073709551616 := by
    rw [hY, W64, show (64 : Nat) = L + s by omega, Nat.pow_add]
    exact Nat.mul_lt_mul_of_pos_right hL3 ps
  have Yge : 9223372036854775808 ≤ Y := by
    rw [hY, show (9223372036854775808 : Nat) = 2 ^ 63 by decide, show (63 : Nat) = (L - 1) + s by omega, Nat.pow_add]
    exact Nat.mul_le_mul_right _ hL2
  have f8 : ∀ {t : TypeId} {o1 o2 : Operand}, binA Tryd.prog .shl t o1 o2 (.lit (.int .u64 (y : Int))) (.lit (.int .u64 (s : Int))) = some (.lit (.int .u64 (Y : Int))) := fun {t o1 o2} => by
    rw [shlN s64, ← hY, Nat.mod_eq_of_lt Ylt]
  refine W.seq (vc_sound _ _ _ (by rfl) ?_)
  simp (config := { maxSteps := 1000000 }) only [go_sem, Int.reduceToNat, Int.reduceLE, Int.reduceLT, Int.reduceAdd, Int.reduceSub, Int.reduceMul, Int.reduceEq, Int.reduceNe, Nat.reduceEqDiff, Nat.reducePow, Nat.reduceDiv, Nat.reduceMod, Nat.reduceAdd, Nat.reduceMul, Nat.reduceSub, Nat.reduceLT, Nat.reduceLeDiff, reduceIte, reduceCtorEq, a1_0, a1_1, a1_2, a1_8, f8, appendA_U]
  refine W.env fun E2 hE2 => ?_
  have a2_0 : E2 0 = .lit (.int .u64 ((hi : Nat) : Int)) := by rw [hE2]; exact a1_0
  have a2_1 : E2 1 = .lit (.int .u64 ((lo : Nat) : Int)) := by rw [hE2]; exact a1_1
  have a2_8 : E2 8 = .lit (.int .u64 ((s : Nat) : Int)) := by rw [hE2]; exact a1_8
  have a2_2 : E2 2 = .lit (.int .u64 ((Y : Nat) : Int)) := by rw [hE2]; rfl
  clear hE2
  obtain ⟨yn1, hyn1⟩ : ∃ z, z = Y / 4294967296 := ⟨_, rfl⟩
  obtain ⟨yn0, hyn0⟩ : ∃ z, z = Y % 4294967296 := ⟨_, rfl⟩
  have andN : ∀ {t : TypeId} {o1 o2 : Operand} {a : Nat}, a < 18446744073709551616 → binA Tryd.prog .and t o1 o2 (.lit (.int .u64 (a : Int))) (.lit (.int .u64 4294967295)) = some (.lit (.int .u64 ((a % 4294967296 : Nat) : Int))) := fun {t o1 o2 a} h => by
    rw [and_low (by omega)]; rfl
  have f9 : ∀ {t : TypeId} {o1 o2 : Operand}, binA Tryd.prog .shr t o1 o2 (.lit (.int .u64 (Y : Int))) (.lit (.int .u64 32)) = some (.lit (.int .u64 (yn1 : Int))) := fun {t o1 o2} => by rw [shr32N, ← hyn1]
  have f10 : ∀ {t : TypeId} {o1 o2 : Operand}, binA Tryd.prog .and t o1 o2 (.lit (.int .u64 (Y : Int))) (.lit (.int .u64 4294967295)) = some (.lit (.int .u64 (yn0 : Int))) := fun {t o1 o2} => by rw [andN Ylt, ← hyn0]
  refine W.seq (vc_sound _ _ _ (by rfl) ?_)
  simp (config := { maxSteps := 1000000 }) only [go_sem, Int.reduceToNat, Int.reduceLE, Int.reduceLT, Int.reduceAdd, Int.reduceSub, Int.reduceMul, Int.reduceEq, Int.reduceNe, Nat.reduceEqDiff, Nat.reducePow, Nat.reduceDiv, Nat.reduceMod, Nat.reduceAdd, Nat.reduceMul, Nat.reduceSub, Nat.reduceLT, Nat.reduceLeDiff, reduceIte, reduceCtorEq, a2_0, a2_1, a2_2, a2_8, f9, appendA_U]
  refine W.env fun E3 hE3 => ?_
  have a3_0 : E3 0 = .lit (.int .u64 ((hi : Nat) : Int)) := by rw [hE3]; exact a2_0
  have a3_1 : E3 1 = .lit (.int .u64 ((lo : Nat) : Int)) := by rw [hE3]; exact a2_1
  have a3_2 : E3 2 = .lit (.int .u64 ((Y : Nat) : Int)) := by rw [hE3]; exact a2_2
  have a3_8 : E3 8 = .lit (.int .u64 ((s : Nat) : Int)) := by rw [hE3]; exact a2_8
  have a3_9 : E3 9 = .lit (.int .u64 ((yn1 : Nat) : Int)) := by rw [hE3]; rfl
  clear hE3
  refine W.seq (vc_sound _ _ _ (by rfl) ?_)
  simp (config := { maxSteps := 1000000 }) only [go_sem, Int.reduceToNat, Int.reduceLE, Int.reduceLT, Int.reduceAdd, Int.reduceSub, Int.reduceMul, Int.reduceEq, Int.reduceNe, Nat.reduceEqDiff, Nat.reducePow, Nat.reduceDiv, Nat.reduceMod, Nat.reduceAdd, Nat.reduceMul, Nat.reduceSub, Nat.reduceLT, Nat.reduceLeDiff, reduceIte, reduceCtorEq, a3_0, a3_1, a3_2, a3_8, a3_9, f10, appendA_U]
  refine W.env fun E4 hE4 => ?_
  have a4_0 : E4 0 = .lit (.int .u64 ((hi : Nat) : Int)) := by rw [hE4]; exact a3_0
  have a4_1 : E4 1 = .lit (.int .u64 ((lo : Nat) : Int)) := by rw [hE4]; exact a3_1
  have a4_2 : E4 2 = .lit (.int .u64 ((Y : Nat) : Int)) := by rw [hE4]; exact a3_2
  have a4_8 : E4 8 = .lit (.int .u64 ((s : Nat) : Int)) := by rw [hE4]; exact a3_8
  have a4_9 : E4 9 = .lit (.int .u64 ((yn1 : Nat) : Int)) := by rw [hE4]; exact a3_9
  have a4_10 : E4 10 = .lit (.int .u64 ((yn0 : Nat) : Int)) := by rw [hE4]; rfl
  clear hE4
  obtain ⟨sr, hsr⟩ : ∃ sr, sr = 64 - s := ⟨_, rfl⟩
  have e64 : (64 : Int) - (s : Int) = (sr : Int) := by omega
  have cw2 := IntWalk.u64_in (sr : Int) (by omega)
  have pr : 2 ^ sr * 2 ^ s = 18446744073709551616 := by rw [← Nat.pow_add, W64]; congr 1; omega
  have lobd : lo / 2 ^ sr < 2 ^ s := Nat.div_lt_of_lt_mul (by rw [pr]; exact hl)
  obtain ⟨U, hU⟩ : ∃ U, U = hi * 2 ^ s + lo / 2 ^ sr := ⟨_, rfl⟩
  have UY : U < Y := by
    have h1 : (hi + 1) * 2 ^ s ≤ y * 2 ^ s := Nat.mul_le_mul_right _ hh
    rw [Nat.add_mul, Nat.one_mul, ← hY] at h1
    omega
  have f11a : ∀ {t : TypeId} {o1 o2 : Operand}, binA Tryd.prog .shl t o1 o2 (.lit (.int .u64 (hi : Int))) (.lit (.int .u64 (s : Int))) = some (.lit (.int .u64 ((hi * 2 ^ s : Nat) : Int))) := fun {t o1 o2} => by
    rw [shlN s64, Nat.mod_eq_of_lt (Nat.lt_of_le_of_lt (Nat.le_add_right _ (lo / 2 ^ sr)) (by rw [← hU]; omega))]
  have f11b : ∀ {t : TypeId} {o1 o2 : Operand}, binA Tryd.prog .shr t o1 o2 (.lit (.int .u64 (lo : Int))) (.lit (.int .u64 (sr : Int))) = some (.lit (.int .u64 ((lo / 2 ^ sr : Nat) : Int))) := fun {t o1 o2} => by
    rw [shrN (by omega)]
  have f11c : ∀ {t : TypeId} {o1 o2 : Operand}, binA Tryd.prog .or t o1 o2 (.lit (.int .u64 ((hi * 2 ^ s : Nat) : Int))) (.lit (.int .u64 ((lo / 2 ^ sr : Nat) : Int))) = some (.lit (.int .u64 (U : Int))) := fun {t o1 o2} => by
    rw [orN (by rw [← hU]; omega) lobd, ← hU]
  refine W.seq (vc_sound _ _ _ (by rfl) ?_)
  simp (config := { maxSteps := 1000000 }) only [go_sem, Int.reduceToNat, Int.reduceLE, Int.reduceLT, Int.reduceAdd, Int.reduceSub, Int.reduceMul, Int.reduceEq, Int.reduceNe, Nat.reduceEqDiff, Nat.reducePow, Nat.reduceDiv, Nat.reduceMod, Nat.reduceAdd, Nat.reduceMul, Nat.reduceSub, Nat.reduceLT, Nat.reduceLeDiff, reduceIte, reduceCtorEq, a4_0, a4_1, a4_2, a4_8, a4_9, a4_10, e64, cw2, f11a, f11b, f11c, appendA_U]
  refine W.env fun E5 hE5 => ?_
  have a5_0 : E5 0 = .lit (.int .u64 ((hi : Nat) : Int)) := by rw [hE5]; exact a4_0
  have a5_1 : E5 1 = .lit (.int .u64 ((lo : Nat) : Int)) := by rw [hE5]; exact a4_1
  have a5_2 : E5 2 = .lit (.int .u64 ((Y : Nat) : Int)) := by rw [hE5]; exact a4_2
  have a5_8 : E5 8 = .lit (.int .u64 ((s : Nat) : Int)) := by rw [hE5]; exact a4_8
  have a5_9 : E5 9 = .lit (.int .u64 ((yn1 : Nat) : Int)) := by rw [hE5]; exact a4_9
  have a5_10 : E5 10 = .lit (.int .u64 ((yn0 : Nat) : Int)) := by rw [hE5]; exact a4_10
  have a5_11 : E5 11 = .lit (.int .u64 ((U : Nat) : Int)) := by rw [hE5]; rfl
  clear hE5
  obtain ⟨V, hV⟩ : ∃ V, V = lo * 2 ^ s % 18446744073709551616 := ⟨_, rfl⟩
  have Vlt : V < 18446744073709551616 := by rw [hV]; exact Nat.mod_lt _ (by decide)
  have f12 : ∀ {t : TypeId} {o1 o2 : Operand}, binA Tryd.prog .shl t o1 o2 (.lit (.int .u64 (lo : Int))) (.lit (.int .u64 (s : Int))) = some (.lit (.int .u64 (V : Int))) := fun {t o1 o2} => by
    rw [shlN s64, ← hV]
  refine W.seq (vc_sound _ _ _ (by rfl) ?_)
  simp (config := { maxSteps := 1000000 }) only [go_sem, Int.reduceToNat, Int.reduceLE, Int.reduceLT, Int.reduceAdd, Int.reduceSub, Int.reduceMul, Int.reduceEq, Int.reduceNe, Nat.reduceEqDiff, Nat.reducePow, Nat.reduceDiv, Nat.reduceMod, Nat.reduceAdd, Nat.reduceMul, Nat.reduceSub, Nat.reduceLT, Nat.reduceLeDiff, reduceIte, reduceCtorEq, a5_0, a5_1, a5_2, a5_8, a5_9, a5_10, a5_11, f12, appendA_U]
  refine W.env fun E6 hE6 => ?_
  have a6_0 : E6 0 = .lit (.int .u64 ((hi : Nat) : Int)) := by rw [hE6]; exact a5_0
  have a6_1 : E6 1 = .lit (.int .u64 ((lo : Nat) : Int)) := by rw [hE6]; exact a5_1
  have a6_2 : E6 2 = .lit (.int .u64 ((Y : Nat) : Int)) := by rw [hE6]; exact a5_2
  have a6_8 : E6 8 = .lit (.int .u64 ((s : Nat) : Int)) := by rw [hE6]; exact a5_8
  have a6_9 : E6 9 = .lit (.int .u64 ((yn1 : Nat) : Int)) := by rw [hE6]; exact a5_9
  have a6_10 : E6 10 = .lit (.int .u64 ((yn0 : Nat) : Int)) := by rw [hE6]; exact a5_10
  have a6_11 : E6 11 = .lit (.int .u64 ((U : Nat) : Int)) := by rw [hE6]; exact a5_11
  have a6_12 : E6 12 = .lit (.int .u64 ((V : Nat) : Int)) := by rw [hE6]; rfl
  clear hE6
  obtain ⟨u1, hu1⟩ : ∃ z, z = V / 4294967296 := ⟨_, rfl⟩
  obtain ⟨u0, hu0⟩ : ∃ z, z = V % 4294967296 := ⟨_, rfl⟩
  have f13 : ∀ {t : TypeId} {o1 o2 : Operand}, binA Tryd.prog .shr t o1 o2 (.lit (.int .u64 (V : Int))) (.lit (.int .u64 32)) = some (.lit (.int .u64 (u1 : Int))) := fun {t o1 o2} => by rw [shr32N, ← hu1]
  have f14 : ∀ {t : TypeId} {o1 o2 : Operand}, binA Tryd.prog .and t o1 o2 (.lit (.int .u64 (V : Int))) (.lit (.int .u64 4294967295)) = some (.lit (.int .u64 (u0 : Int))) := fun {t o1 o2} => by rw [andN Vlt, ← hu0]
  refine W.seq (vc_sound _ _ _ (by rfl) ?_)
  simp (config := { maxSteps := 1000000 }) only [go_sem, Int.reduceToNat, Int.reduceLE, Int.reduceLT, Int.reduceAdd, Int.reduceSub, Int.reduceMul, Int.reduceEq, Int.reduceNe, Nat.reduceEqDiff, Nat.reducePow, Nat.reduceDiv, Nat.reduceMod, Nat.reduceAdd, Nat.reduceMul, Nat.reduceSub, Nat.reduceLT, Nat.reduceLeDiff, reduceIte, reduceCtorEq, a6_0, a6_1, a6_2, a6_8, a6_9, a6_10, a6_11, a6_12, f13, appendA_U]
  refine W.env fun E7 hE7 => ?_
  have a7_0 : E7 0 = .lit (.int .u64 ((hi : Nat) : Int)) := by rw [hE7]; exact a6_0
  have a7_1 : E7 1 = .lit (.int .u64 ((lo : Nat) : Int)) := by rw [hE7]; exact a6_1
  have a7_2 : E7 2 = .lit (.int .u64 ((Y : Nat) : Int)) := by rw [hE7]; exact a6_2
  have a7_8 : E7 8 = .lit (.int .u64 ((s : Nat) : Int)) := by rw [hE7]; exact a6_8
  have a7_9 : E7 9 = .lit (.int .u64 ((yn1 : Nat) : Int)) := by rw [hE7]; exact a6_9
  have a7_10 : E7 10 = .lit (.int .u64 ((yn0 : Nat) : Int)) := by rw [hE7]; exact a6_10
  have a7_11 : E7 11 = .lit (.int .u64 ((U : Nat) : Int)) := by rw [hE7]; exact a6_11
  have a7_12 : E7 12 = .lit (.int .u64 ((V : Nat) : Int)) := by rw [hE7]; exact a6_12
  have a7_13 : E7 13 = .lit (.int .u64 ((u1 : Nat) : Int)) := by rw [hE7]; rfl
  clear hE7
  refine W.seq (vc_sound _ _ _ (by rfl) ?_)
  simp (config := { maxSteps := 1000000 }) only [go_sem, Int.reduceToNat, Int.reduceLE, Int.reduceLT, Int.reduceAdd, Int.reduceSub, Int.reduceMul, Int.reduceEq, Int.reduceNe, Nat.reduceEqDiff, Nat.reducePow, Nat.reduceDiv, Nat.reduceMod, Nat.reduceAdd, Nat.reduceMul, Nat.reduceSub, Nat.reduceLT, Nat.reduceLeDiff, reduceIte, reduceCtorEq, a7_0, a7_1, a7_2, a7_8, a7_9, a7_10, a7_11, a7_12, a7_13, f14, appendA_U]
  refine W.env fun E8 hE8 => ?_
  have a8_0 : E8 0 = .lit (.int .u64 ((hi : Nat) : Int)) := by rw [hE8]; exact a7_0
  have a8_1 : E8 1 = .lit (.int .u64 ((lo : Nat) : Int)) := by rw [hE8]; exact a7_1
  have a8_2 : E8 2 = .lit (.int .u64 ((Y : Nat) : Int)) := by rw [hE8]; exact a7_2
  have a8_8 : E8 8 = .lit (.int .u64 ((s : Nat) : Int)) := by rw [hE8]; exact a7_8
  have a8_9 : E8 9 = .lit (.int .u64 ((yn1 : Nat) : Int)) := by rw [hE8]; exact a7_9
  have a8_10 : E8 10 = .lit (.int .u64 ((yn0 : Nat) : Int)) := by rw [hE8]; exact a7_10
  have a8_11 : E8 11 = .lit (.int .u64 ((U : Nat) : Int)) := by rw [hE8]; exact a7_11
  have a8_12 : E8 12 = .lit (.int .u64 ((V : Nat) : Int)) := by rw [hE8]; exact a7_12
  have a8_13 : E8 13 = .lit (.int .u64 ((u1 : Nat) : Int)) := by rw [hE8]; exact a7_13
  have a8_14 : E8 14 = .lit (.int .u64 ((u0 : Nat) : Int)) := by rw [hE8]; rfl
  clear hE8
  have C0 : TrialC Y yn1 yn0 U u1 := ⟨by omega, by omega, by omega, by omega, UY, by omega⟩
  obtain ⟨T0, hq0, hr0⟩ := C0.init
  have dm0 := T0.eq
  obtain ⟨q0, eq0⟩ : ∃ z, z = U / yn1 := ⟨_, rfl⟩
  obtain ⟨r0, er0⟩ : ∃ z, z = U % yn1 := ⟨_, rfl⟩
  rw [← eq0] at T0 hq0 dm0
  rw [← er0] at T0 hr0 dm0
  have td0 : (U : Int).tdiv (yn1 : Int) = (q0 : Int) := by rw [Int.tdiv_eq_ediv_of_nonneg (by omega), eq0]; rfl
  have nz0 : ¬ (yn1 : Int) = 0 := by omega
  have wq0 := IntWalk.u64_in (q0 : Int) (by omega)
  refine W.seq (vc_sound _ _ _ (by rfl) ?_)
  simp (config := { maxSteps := 1000000 }) only [go_sem, Int.reduceToNat, Int.reduceLE, Int.reduceLT, Int.reduceAdd, Int.reduceSub, Int.reduceMul, Int.reduceEq, Int.reduceNe, Nat.reduceEqDiff, Nat.reducePow, Nat.reduceDiv, Nat.reduceMod, Nat.reduceAdd, Nat.reduceMul, Nat.reduceSub, Nat.reduceLT, Nat.reduceLeDiff, reduceIte, reduceCtorEq, a8_0, a8_1, a8_2, a8_8, a8_9, a8_10, a8_11, a8_12, a8_13, a8_14, td0, nz0, wq0, appendA_U]
  refine W.env fun E9 hE9 => ?_
  have a9_0 : E9 0 = .lit (.int .u64 ((hi : Nat) : Int)) := by rw [hE9]; exact a8_0
  have a9_1 : E9 1 = .lit (.int .u64 ((lo : Nat) : Int)) := by rw [hE9]; exact a8_1
  have a9_2 : E9 2 = .lit (.int .u64 ((Y : Nat) : Int)) := by rw [hE9]; exact a8_2
  have a9_8 : E9 8 = .lit (.int .u64 ((s : Nat) : Int)) := by rw [hE9]; exact a8_8
  have a9_9 : E9 9 = .lit (.int .u64 ((yn1 : Nat) : Int)) := by rw [hE9]; exact a8_9
  have a9_10 : E9 10 = .lit (.int .u64 ((yn0 : Nat) : Int)) := by rw [hE9]; exact a8_10
  have a9_11 : E9 11 = .lit (.int .u64 ((U : Nat) : Int)) := by rw [hE9]; exact a8_11
  have a9_12 : E9 12 = .lit (.int .u64 ((V : Nat) : Int)) := by rw [hE9]; exact a8_12
  have a9_13 : E9 13 = .lit (.int .u64 ((u1 : Nat) : Int)) := by rw [hE9]; exact a8_13
  have a9_14 : E9 14 = .lit (.int .u64 ((u0 : Nat) : Int)) := by rw [hE9]; exact a8_14
  have a9_15 : E9 15 = .lit (.int .u64 ((q0 : Nat) : Int)) := by rw [hE9]; rfl
  clear hE9
  have mp0 : (q0 : Int) * (yn1 : Int) = ((q0 * yn1 : Nat) : Int) := (Int.natCast_mul _ _).symm
  have wm0 := IntWalk.u64_in ((q0 * yn1 : Nat) : Int) (by omega)
  have sb0 : (U : Int) - ((q0 * yn1 : Nat) : Int) = (r0 : Int) := by omega
  have wr0 := IntWalk.u64_in (r0 : Int) (by omega)
  refine W.seq (vc_sound _ _ _ (by rfl) ?_)
  simp (config := { maxSteps := 1000000 }) only [go_sem, Int.reduceToNat, Int.reduceLE, Int.reduceLT, Int.reduceAdd, Int.reduceSub, Int.reduceMul, Int.reduceEq, Int.reduceNe, Nat.reduceEqDiff, Nat.reducePow, Nat.reduceDiv, Nat.reduceMod, Nat.reduceAdd, Nat.reduceMul, Nat.reduceSub, Nat.reduceLT, Nat.reduceLeDiff, reduceIte, reduceCtorEq, a9_0, a9_1, a9_2, a9_8, a9_9, a9_10, a9_11, a9_12, a9_13, a9_14, a9_15, mp0, wm0, sb0, wr0, appendA_U]
  refine W.env fun E10 hE10 => ?_
  have a10_0 : E10 0 = .lit (.int .u64 ((hi : Nat) : Int)) := by rw [hE10]; exact a9_0
  have a10_1 : E10 1 = .lit (.int .u64 ((lo : Nat) : Int)) := by rw [hE10]; exact a9_1
  have a10_2 : E10 2 = .lit (.int .u64 ((Y : Nat) : Int)) := by rw [hE10]; exact a9_2
  have a10_8 : E10 8 = .lit (.int .u64 ((s : Nat) : Int)) := by rw [hE10]; exact a9_8
  have a10_9 : E10 9 = .lit (.int .u64 ((yn1 : Nat) : Int)) := by rw [hE10]; exact a9_9
  have a10_10 : E10 10 = .lit (.int .u64 ((yn0 : Nat) : Int)) := by rw [hE10]; exact a9_10
  have a10_11 : E10 11 = .lit (.int .u64 ((U : Nat) : Int)) := by rw [hE10]; exact a9_11
  have a10_12 : E10 12 = .lit (.int .u64 ((V : Nat) : Int)) := by rw [hE10]; exact a9_12
  have a10_13 : E10 13 = .lit (.int .u64 ((u1 : Nat) : Int)) := by rw [hE10]; exact a9_13
  have a10_14 : E10 14 = .lit (.int .u64 ((u0 : Nat) : Int)) := by rw [hE10]; exact a9_14
  have a10_15 : E10 15 = .lit (.int .u64 ((q0 : Nat) : Int)) := by rw [hE10]; exact a9_15
  have a10_16 : E10 16 = .lit (.int .u64 ((r0 : Nat) : Int)) := by rw [hE10]; rfl
  clear hE10
  obtain ⟨Q1, hQ1⟩ : ∃ z, z = (U * 4294967296 + u1) / Y := ⟨_, rfl⟩
  refine W.mid (fun s' => s'.H = H ∧ s'.ρ 0 = .lit (.int .u64 ((hi : Nat) : Int)) ∧ s'.ρ 1 = .lit (.int .u64 ((lo : Nat) : Int)) ∧ s'.ρ 2 = .lit (.int .u64 ((Y : Nat) : Int)) ∧ s'.ρ 8 = .lit (.int .u64 ((s : Nat) : Int)) ∧ s'.ρ 9 = .lit (.int .u64 ((yn1 : Nat) : Int)) ∧ s'.ρ 10 = .lit (.int .u64 ((yn0 : Nat) : Int)) ∧ s'.ρ 11 = .lit (.int .u64 ((U : Nat) : Int)) ∧ s'.ρ 12 = .lit (.int .u64 ((V : Nat) : Int)) ∧ s'.ρ 13 = .lit (.int .u64 ((u1 : Nat) : Int)) ∧ s'.ρ 14 = .lit (.int .u64 ((u0 : Nat) : Int)) ∧ s'.ρ 15 = .lit (.int .u64 ((Q1 : Nat) : Int))) ?_ ?_
  · refine W.block ?_
    refine W.loop0 77371104881383677504880640 (by rfl) (fun ρ' H' => ∃ q r : Nat, ρ' 15 = .lit (.int .u64 (q : Int)) ∧ ρ' 16 = .lit (.int .u64 (r : Int)) ∧ H' = H ∧ Trial Y yn1 yn0 U u1 q r ∧ q ≤ 4294967297 ∧ r < 4294967296) (fun ρ' H => (iv (ρ' 15)).toNat) ?_ ?_
    · exact ⟨q0, r0, by simp (config := { maxSteps := 1000000 }) only [go_sem, Int.reduceToNat, Int.reduceLE, Int.reduceLT, Int.reduceAdd, Int.reduceSub, Int.reduceMul, Int.reduceEq, Int.reduceNe, Nat.reduceEqDiff, Nat.reducePow, Nat.reduceDiv, Nat.reduceMod, Nat.reduceAdd, Nat.reduceMul, Nat.reduceSub, Nat.reduceLT, Nat.reduceLeDiff, reduceIte, reduceCtorEq, a10_15, appendA_U], by simp (config := { maxSteps := 1000000 }) only [go_sem, Int.reduceToNat, Int.reduceLE, Int.reduceLT, Int.reduceAdd, Int.reduceSub, Int.reduceMul, Int.reduceEq, Int.reduceNe, Nat.reduceEqDiff, Nat.reducePow, Nat.reduceDiv, Nat.reduceMod, Nat.reduceAdd, Nat.reduceMul, Nat.reduceSub, Nat.reduceLT, Nat.reduceLeDiff, reduceIte, reduceCtorEq, a10_16, appendA_U], rfl, T0, hq0, hr0⟩
    rintro ρ' H' ⟨q, r, g1, g2, rfl, T, hq, hr⟩
    refine vc_sound _ _ _ (by rfl) ?_
    have hu0b := C0.hu
    have hy1b := C0.h1'
    have hy0b := C0.h0
    have wr2 := IntWalk.u64_in ((r : Int) + (yn1 : Int)) (by omega)
    have step : 4294967296 ≤ q ∨ 4294967296 * r + u1 < q * yn0 → 1 ≤ q ∧ Trial Y yn1 yn0 U u1 (q - 1) (r + yn1) := fun h => C0.step T h
    by_cases hqB : (4294967296 : Int) ≤ (q : Int)
    · obtain ⟨p1, T2⟩ := step (.inl (by omega))
      have wq2 := IntWalk.u64_in ((q : Int) - 1) (by omega)
      have eq2 : (q : Int) - 1 = ((q - 1 : Nat) : Int) := by omega
      have er2 : (r : Int) + (yn1 : Int) = ((r + yn1 : Nat) : Int) := by omega
      by_cases hb : (4294967296 : Int) ≤ (r : Int) + (yn1 : Int)
      · have hfin := C0.brk T2 (by omega) (by omega)
        rw [← hQ1] at hfin
        have eq3 : (q : Int) - 1 = (Q1 : Int) := by omega
        have wQ := IntWalk.u64_in (Q1 : Int) (by omega)
        simp (config := { maxSteps := 1000000 }) only [go_sem, Int.reduceToNat, Int.reduceLE, Int.reduceLT, Int.reduceAdd, Int.reduceSub, Int.reduceMul, Int.reduceEq, Int.reduceNe, Nat.reduceEqDiff, Nat.reducePow, Nat.reduceDiv, Nat.reduceMod, Nat.reduceAdd, Nat.reduceMul, Nat.reduceSub, Nat.reduceLT, Nat.reduceLeDiff, reduceIte, reduceCtorEq, wQ, g1, g2, hqB, wq2, wr2, hb, a10_0, a10_1, a10_2, a10_8, a10_9, a10_10, a10_11, a10_12, a10_13, a10_14, a10_15, a10_16, eq3, guardA_undef, appendA_U]
      · simp (config := { maxSteps := 1000000 }) only [go_sem, Int.reduceToNat, Int.reduceLE, Int.reduceLT, Int.reduceAdd, Int.reduceSub, Int.reduceMul, Int.reduceEq, Int.reduceNe, Nat.reduceEqDiff, Nat.reducePow, Nat.reduceDiv, Nat.reduceMod, Nat.reduceAdd, Nat.reduceMul, Nat.reduceSub, Nat.reduceLT, Nat.reduceLeDiff, reduceIte, reduceCtorEq, g1, g2, hqB, wq2, wr2, hb, a10_0, a10_1, a10_2, a10_8, a10_9, a10_10, a10_11, a10_12, a10_13, a10_14, a10_15, a10_16, guardA_undef, appendA_U]
        exact ⟨⟨q - 1, r + yn1, by simp; omega, by simp, T2, by omega, by omega⟩, by omega⟩
    · have my : (q : Int) * (yn0 : Int) = ((q * yn0 : Nat) : Int) := (Int.natCast_mul _ _).symm
      have mb : q * yn0 ≤ 4294967295 * 4294967295 := Nat.mul_le_mul (by omega) (by omega)
      have wy := IntWalk.u64_in ((q * yn0 : Nat) : Int) (by omega)
      have wb := IntWalk.u64_in (4294967296 * (r : Int)) (by omega)
      have wb2 := IntWalk.u64_in (4294967296 * (r : Int) + (u1 : Int)) (by omega)
      by_cases hc : 4294967296 * (r : Int) + (u1 : Int) < ((q * yn0 : Nat) : Int)
      · obtain ⟨p1, T2⟩ := step (.inr (by omega))
        have wq2 := IntWalk.u64_in ((q : Int) - 1) (by omega)
        have eq2 : (q : Int) - 1 = ((q - 1 : Nat) : Int) := by omega
        by_cases hb : (4294967296 : Int) ≤ (r : Int) + (yn1 : Int)
        · have hfin := C0.brk T2 (by omega) (by omega)
          rw [← hQ1] at hfin
          have eq3 : (q : Int) - 1 = (Q1 : Int) := by omega
          have wQ := IntWalk.u64_in (Q1 : Int) (by omega)
          simp (config := { maxSteps := 1000000 }) only [go_sem, Int.reduceToNat, Int.reduceLE, Int.reduceLT, Int.reduceAdd, Int.reduceSub, Int.reduceMul, Int.reduceEq, Int.reduceNe, Nat.reduceEqDiff, Nat.reducePow, Nat.reduceDiv, Nat.reduceMod, Nat.reduceAdd, Nat.reduceMul, Nat.reduceSub, Nat.reduceLT, Nat.reduceLeDiff, reduceIte, reduceCtorEq, wQ, g1, g2, hqB, my, wy, wb, wb2, hc, wq2, wr2, hb, a10_0, a10_1, a10_2, a10_8, a10_9, a10_10, a10_11, a10_12, a10_13, a10_14, a10_15, a10_16, eq3, guardA_undef, appendA_U]
        · simp (config := { maxSteps := 1000000 }) only [go_sem, Int.reduceToNat, Int.reduceLE, Int.reduceLT, Int.reduceAdd, Int.reduceSub, Int.reduceMul, Int.reduceEq, Int.reduceNe, Nat.reduceEqDiff, Nat.reducePow, Nat.reduceDiv, Nat.reduceMod, Nat.reduceAdd, Nat.reduceMul, Nat.reduceSub, Nat.reduceLT, Nat.reduceLeDiff, reduceIte, reduceCtorEq, g1, g2, hqB, my, wy, wb, wb2, hc, wq2, wr2, hb, a10_0, a10_1, a10_2, a10_8, a10_9, a10_10, a10_11, a10_12, a10_13, a10_14, a10_15, a10_16, guardA_undef, appendA_U]
          exact ⟨⟨q - 1, r + yn1, by simp; omega, by simp, T2, by omega, by omega⟩, by omega⟩
      · have hfin := C0.stop T (by omega)
        rw [← hQ1] at hfin
        subst hfin
        simp (config := { maxSteps := 1000000 }) only [go_sem, Int.reduceToNat, Int.reduceLE, Int.reduceLT, Int.reduceAdd, Int.reduceSub, Int.reduceMul, Int.reduceEq, Int.reduceNe, Nat.reduceEqDiff, Nat.reducePow, Nat.reduceDiv, Nat.reduceMod, Nat.reduceAdd, Nat.reduceMul, Nat.reduceSub, Nat.reduceLT, Nat.reduceLeDiff, reduceIte, reduceCtorEq, g1, g2, hqB, my, wy, wb, wb2, hc, a10_0, a10_1, a10_2, a10_8, a10_9, a10_10, a10_11, a10_12, a10_13, a10_14, a10_15, a10_16, guardA_undef, appendA_U]
  rintro ⟨E11, HX0⟩ ⟨hH0, b11_0, b11_1, b11_2, b11_8, b11_9, b11_10, b11_11, b11_12, b11_13, b11_14, b11_15⟩
  have a11_0 : E11 0 = .lit (.int .u64 ((hi : Nat) : Int)) := b11_0
  have a11_1 : E11 1 = .lit (.int .u64 ((lo : Nat) : Int)) := b11_1
  have a11_2 : E11 2 = .lit (.int .u64 ((Y : Nat) : Int)) := b11_2
  have a11_8 : E11 8 = .lit (.int .u64 ((s : Nat) : Int)) := b11_8
  have a11_9 : E11 9 = .lit (.int .u64 ((yn1 : Nat) : Int)) := b11_9
  have a11_10 : E11 10 = .lit (.int .u64 ((yn0 : Nat) : Int)) := b11_10
  have a11_11 : E11 11 = .lit (.int .u64 ((U : Nat) : Int)) := b11_11
  have a11_12 : E11 12 = .lit (.int .u64 ((V : Nat) : Int)) := b11_12
  have a11_13 : E11 13 = .lit (.int .u64 ((u1 : Nat) : Int)) := b11_13
  have a11_14 : E11 14 = .lit (.int .u64 ((u0 : Nat) : Int)) := b11_14
  have a11_15 : E11 15 = .lit (.int .u64 ((Q1 : Nat) : Int)) := b11_15
  simp only at hH0
  have hH0s := hH0.symm
  subst hH0s
  have Ypos : 0 < Y := by omega
  obtain ⟨R1, hR1⟩ : ∃ z, z = (U * 4294967296 + u1) % Y := ⟨_, rfl⟩
  have RY : R1 < Y := by rw [hR1]; exact Nat.mod_lt _ Ypos
  have dv1 : Y * Q1 + R1 = U * 4294967296 + u1 := by rw [hQ1, hR1]; exact Nat.div_add_mod _ _
  have Q1lt : Q1 < 4294967296 := by
    rw [hQ1]
    exact Nat.div_lt_of_lt_mul (by omega)
  obtain ⟨c1, hc1⟩ : ∃ c1 : Nat, c1 = U * 4294967296 % 18446744073709551616 := ⟨_, rfl⟩
  obtain ⟨c2, hc2⟩ : ∃ c2 : Nat, c2 = (c1 + u1) % 18446744073709551616 := ⟨_, rfl⟩
  obtain ⟨c3, hc3⟩ : ∃ c3 : Nat, c3 = Q1 * Y % 18446744073709551616 := ⟨_, rfl⟩
  have x1 : IntKind.u64.wrap ((U : Int) * 4294967296) = (c1 : Int) := by rw [wrapU64]; omega
  have x2 : IntKind.u64.wrap ((c1 : Int) + (u1 : Int)) = (c2 : Int) := by rw [wrapU64]; omega
  have x3 : IntKind.u64.wrap ((Q1 : Int) * (Y : Int)) = (c3 : Int) := by rw [wrapU64, ← Int.natCast_mul]; omega
  have x4 : IntKind.u64.wrap ((c2 : Int) - (c3 : Int)) = (R1 : Int) := by
    rw [Nat.mul_comm] at dv1
    rw [wrapU64]
    generalize Q1 * Y = z at *
    omega
  refine W.seq (vc_sound _ _ _ (by rfl) ?_)
  simp (config := { maxSteps := 1000000 }) only [go_sem, Int.reduceToNat, Int.reduceLE, Int.reduceLT, Int.reduceAdd, Int.reduceSub, Int.reduceMul, Int.reduceEq, Int.reduceNe, Nat.reduceEqDiff, Nat.reducePow, Nat.reduceDiv, Nat.reduceMod, Nat.reduceAdd, Nat.reduceMul, Nat.reduceSub, Nat.reduceLT, Nat.reduceLeDiff, reduceIte, reduceCtorEq, a11_0, a11_1, a11_2, a11_8, a11_9, a11_10, a11_11, a11_12, a11_13, a11_14, a11_15, x1, x2, x3, x4, appendA_U]
  refine W.env fun E12 hE12 => ?_
  have a12_0 : E12 0 = .lit (.int .u64 ((hi : Nat) : Int)) := by rw [hE12]; exact a11_0
  have a12_1 : E12 1 = .lit (.int .u64 ((lo : Nat) : Int)) := by rw [hE12]; exact a11_1
  have a12_2 : E12 2 = .lit (.int .u64 ((Y : Nat) : Int)) := by rw [hE12]; exact a11_2
  have a12_8 : E12 8 = .lit (.int .u64 ((s : Nat) : Int)) := by rw [hE12]; exact a11_8
  have a12_9 : E12 9 = .lit (.int .u64 ((yn1 : Nat) : Int)) := by rw [hE12]; exact a11_9
  have a12_10 : E12 10 = .lit (.int .u64 ((yn0 : Nat) : Int)) := by rw [hE12]; exact a11_10
  have a12_11 : E12 11 = .lit (.int .u64 ((U : Nat) : Int)) := by rw [hE12]; exact a11_11
  have a12_12 : E12 12 = .lit (.int .u64 ((V : Nat) : Int)) := by rw [hE12]; exact a11_12
  have a12_13 : E12 13 = .lit (.int .u64 ((u1 : Nat) : Int)) := by rw [hE12]; exact a11_13
  have a12_14 : E12 14 = .lit (.int .u64 ((u0 : Nat) : Int)) := by rw [hE12]; exact a11_14
  have a12_15 : E12 15 = .lit (.int .u64 ((Q1 : Nat) : Int)) := by rw [hE12]; exact a11_15
  have a12_17 : E12 17 = .lit (.int .u64 ((R1 : Nat) : Int)) := by rw [hE12]; rfl
  clear hE12
  have C1 : TrialC Y yn1 yn0 R1 u0 := ⟨by omega, by omega, by omega, by omega, RY, by omega⟩
  obtain ⟨T1, hq1, hr1⟩ := C1.init
  have dm1 := T1.eq
  obtain ⟨q1, eq1⟩ : ∃ z, z = R1 / yn1 := ⟨_, rfl⟩
  obtain ⟨r1, er1⟩ : ∃ z, z = R1 % yn1 := ⟨_, rfl⟩
  rw [← eq1] at T1 hq1 dm1
  rw [← er1] at T1 hr1 dm1
  have td1 : (R1 : Int).tdiv (yn1 : Int) = (q1 : Int) := by rw [Int.tdiv_eq_ediv_of_nonneg (by omega), eq1]; rfl
  have nz1 : ¬ (yn1 : Int) = 0 := by omega
  have wq1 := IntWalk.u64_in (q1 : Int) (by omega)
  refine W.seq (vc_sound _ _ _ (by rfl) ?_)
  simp (config := { maxSteps := 1000000 }) only [go_sem, Int.reduceToNat, Int.reduceLE, Int.reduceLT, Int.reduceAdd, Int.reduceSub, Int.reduceMul, Int.reduceEq, Int.reduceNe, Nat.reduceEqDiff, Nat.reducePow, Nat.reduceDiv, Nat.reduceMod, Nat.reduceAdd, Nat.reduceMul, Nat.reduceSub, Nat.reduceLT, Nat.reduceLeDiff, reduceIte, reduceCtorEq, a12_0, a12_1, a12_2, a12_8, a12_9, a12_10, a12_11, a12_12, a12_13, a12_14, a12_15, a12_17, td1, nz1, wq1, appendA_U]
  refine W.env fun E13 hE13 => ?_
  have a13_0 : E13 0 = .lit (.int .u64 ((hi : Nat) : Int)) := by rw [hE13]; exact a12_0
  have a13_1 : E13 1 = .lit (.int .u64 ((lo : Nat) : Int)) := by rw [hE13]; exact a12_1
  have a13_2 : E13 2 = .lit (.int .u64 ((Y : Nat) : Int)) := by rw [hE13]; exact a12_2
  have a13_8 : E13 8 = .lit (.int .u64 ((s : Nat) : Int)) := by rw [hE13]; exact a12_8
  have a13_9 : E13 9 = .lit (.int .u64 ((yn1 : Nat) : Int)) := by rw [hE13]; exact a12_9
  have a13_10 : E13 10 = .lit (.int .u64 ((yn0 : Nat) : Int)) := by rw [hE13]; exact a12_10
  have a13_11 : E13 11 = .lit (.int .u64 ((U : Nat) : Int)) := by rw [hE13]; exact a12_11
  have a13_12 : E13 12 = .lit (.int .u64 ((V : Nat) : Int)) := by rw [hE13]; exact a12_12
  have a13_13 : E13 13 = .lit (.int .u64 ((u1 : Nat) : Int)) := by rw [hE13]; exact a12_13
  have a13_14 : E13 14 = .lit (.int .u64 ((u0 : Nat) : Int)) := by rw [hE13]; exact a12_14
  have a13_15 : E13 15 = .lit (.int .u64 ((Q1 : Nat) : Int)) := by rw [hE13]; exact a12_15
  have a13_17 : E13 17 = .lit (.int .u64 ((R1 : Nat) : Int)) := by rw [hE13]; exact a12_17
  have a13_18 : E13 18 = .lit (.int .u64 ((q1 : Nat) : Int)) := by rw [hE13]; rfl
  clear hE13
  have mp1 : (q1 : Int) * (yn1 : Int) = ((q1 * yn1 : Nat) : Int) := (Int.natCast_mul _ _).symm
  have wm1 := IntWalk.u64_in ((q1 * yn1 : Nat) : Int) (by omega)
  have sb1 : (R1 : Int) - ((q1 * yn1 : Nat) : Int) = (r1 : Int) := by omega
  have wr1 := IntWalk.u64_in (r1 : Int) (by omega)
  refine W.seq (vc_sound _ _ _ (by rfl) ?_)
  simp (config := { maxSteps := 1000000 }) only [go_sem, Int.reduceToNat, Int.reduceLE, Int.reduceLT, Int.reduceAdd, Int.reduceSub, Int.reduceMul, Int.reduceEq, Int.reduceNe, Nat.reduceEqDiff, Nat.reducePow, Nat.reduceDiv, Nat.reduceMod, Nat.reduceAdd, Nat.reduceMul, Nat.reduceSub, Nat.reduceLT, Nat.reduceLeDiff, reduceIte, reduceCtorEq, a13_0, a13_1, a13_2, a13_8, a13_9, a13_10, a13_11, a13_12, a13_13, a13_14, a13_15, a13_17, a13_18, mp1, wm1, sb1, wr1, appendA_U]
  refine W.env fun E14 hE14 => ?_
  have a14_0 : E14 0 = .lit (.int .u64 ((hi : Nat) : Int)) := by rw [hE14]; exact a13_0
  have a14_1 : E14 1 = .lit (.int .u64 ((lo : Nat) : Int)) := by rw [hE14]; exact a13_1
  have a14_2 : E14 2 = .lit (.int .u64 ((Y : Nat) : Int)) := by rw [hE14]; exact a13_2
  have a14_8 : E14 8 = .lit (.int .u64 ((s : Nat) : Int)) := by rw [hE14]; exact a13_8
  have a14_9 : E14 9 = .lit (.int .u64 ((yn1 : Nat) : Int)) := by rw [hE14]; exact a13_9
  have a14_10 : E14 10 = .lit (.int .u64 ((yn0 : Nat) : Int)) := by rw [hE14]; exact a13_10
  have a14_11 : E14 11 = .lit (.int .u64 ((U : Nat) : Int)) := by rw [hE14]; exact a13_11
  have a14_12 : E14 12 = .lit (.int .u64 ((V : Nat) : Int)) := by rw [hE14]; exact a13_12
  have a14_13 : E14 13 = .lit (.int .u64 ((u1 : Nat) : Int)) := by rw [hE14]; exact a13_13
  have a14_14 : E14 14 = .lit (.int .u64 ((u0 : Nat) : Int)) := by rw [hE14]; exact a13_14
  have a14_15 : E14 15 = .lit (.int .u64 ((Q1 : Nat) : Int)) := by rw [hE14]; exact a13_15
  have a14_17 : E14 17 = .lit (.int .u64 ((R1 : Nat) : Int)) := by rw [hE14]; exact a13_17
  have a14_18 : E14 18 = .lit (.int .u64 ((q1 : Nat) : Int)) := by rw [hE14]; exact a13_18
  have a14_16 : E14 16 = .lit (.int .u64 ((r1 : Nat) : Int)) := by rw [hE14]; rfl
  clear hE14
  obtain ⟨Q0, hQ0⟩ : ∃ z, z = (R1 * 4294967296 + u0) / Y := ⟨_, rfl⟩
  refine W.mid (fun s' => s'.H = H ∧ s'.ρ 0 = .lit (.int .u64 ((hi : Nat) : Int)) ∧ s'.ρ 1 = .lit (.int .u64 ((lo : Nat) : Int)) ∧ s'.ρ 2 = .lit (.int .u64 ((Y : Nat) : Int)) ∧ s'.ρ 8 = .lit (.int .u64 ((s : Nat) : Int)) ∧ s'.ρ 9 = .lit (.int .u64 ((yn1 : Nat) : Int)) ∧ s'.ρ 10 = .lit (.int .u64 ((yn0 : Nat) : Int)) ∧ s'.ρ 11 = .lit (.int .u64 ((U : Nat) : Int)) ∧ s'.ρ 12 = .lit (.int .u64 ((V : Nat) : Int)) ∧ s'.ρ 13 = .lit (.int .u64 ((u1 : Nat) : Int)) ∧ s'.ρ 14 = .lit (.int .u64 ((u0 : Nat) : Int)) ∧ s'.ρ 15 = .lit (.int .u64 ((Q1 : Nat) : Int)) ∧ s'.ρ 17 = .lit (.int .u64 ((R1 : Nat) : Int)) ∧ s'.ρ 18 = .lit (.int .u64 ((Q0 : Nat) : Int))) ?_ ?_
  · refine W.block ?_
    refine W.loop0 2658450920967430832890008133748195328 (by rfl) (fun ρ' H' => ∃ q r : Nat, ρ' 18 = .lit (.int .u64 (q : Int)) ∧ ρ' 16 = .lit (.int .u64 (r : Int)) ∧ H' = H ∧ Trial Y yn1 yn0 R1 u0 q r ∧ q ≤ 4294967297 ∧ r < 4294967296) (fun ρ' H => (iv (ρ' 18)).toNat) ?_ ?_
    · exact ⟨q1, r1, by simp (config := { maxSteps := 1000000 }) only [go_sem, Int.reduceToNat, Int.reduceLE, Int.reduceLT, Int.reduceAdd, Int.reduceSub, Int.reduceMul, Int.reduceEq, Int.reduceNe, Nat.reduceEqDiff, Nat.reducePow, Nat.reduceDiv, Nat.reduceMod, Nat.reduceAdd, Nat.reduceMul, Nat.reduceSub, Nat.reduceLT, Nat.reduceLeDiff, reduceIte, reduceCtorEq, a14_18, appendA_U], by simp (config := { maxSteps := 1000000 }) only [go_sem, Int.reduceToNat, Int.reduceLE, Int.reduceLT, Int.reduceAdd, Int.reduceSub, Int.reduceMul, Int.reduceEq, Int.reduceNe, Nat.reduceEqDiff, Nat.reducePow, Nat.reduceDiv, Nat.reduceMod, Nat.reduceAdd, Nat.reduceMul, Nat.reduceSub, Nat.reduceLT, Nat.reduceLeDiff, reduceIte, reduceCtorEq, a14_16, appendA_U], rfl, T1, hq1, hr1⟩
    rintro ρ' H' ⟨q, r, g1, g2, rfl, T, hq, hr⟩
    refine vc_sound _ _ _ (by rfl) ?_
    have hu1b := C1.hu
    have hy1b := C1.h1'
    have hy0b := C1.h0
    have wr2 := IntWalk.u64_in ((r : Int) + (yn1 : Int)) (by omega)
    have step : 4294967296 ≤ q ∨ 4294967296 * r + u0 < q * yn0 → 1 ≤ q ∧ Trial Y yn1 yn0 R1 u0 (q - 1) (r + yn1) := fun h => C1.step T h
    by_cases hqB : (4294967296 : Int) ≤ (q : Int)
    · obtain ⟨p1, T2⟩ := step (.inl (by omega))
      have wq2 := IntWalk.u64_in ((q : Int) - 1) (by omega)
      have eq2 : (q : Int) - 1 = ((q - 1 : Nat) : Int) := by omega
      have er2 : (r : Int) + (yn1 : Int) = ((r + yn1 : Nat) : Int) := by omega
      by_cases hb : (4294967296 : Int) ≤ (r : Int) + (yn1 : Int)
      · have hfin := C1.brk T2 (by omega) (by omega)
        rw [← hQ0] at hfin
        have eq3 : (q : Int) - 1 = (Q0 : Int) := by omega
        have wQ := IntWalk.u64_in (Q0 : Int) (by omega)
        simp (config := { maxSteps := 1000000 }) only [go_sem, Int.reduceToNat, Int.reduceLE, Int.reduceLT, Int.reduceAdd, Int.reduceSub, Int.reduceMul, Int.reduceEq, Int.reduceNe, Nat.reduceEqDiff, Nat.reducePow, Nat.reduceDiv, Nat.reduceMod, Nat.reduceAdd, Nat.reduceMul, Nat.reduceSub, Nat.reduceLT, Nat.reduceLeDiff, reduceIte, reduceCtorEq, wQ, g1, g2, hqB, wq2, wr2, hb, a14_0, a14_1, a14_2, a14_8, a14_9, a14_10, a14_11, a14_12, a14_13, a14_14, a14_15, a14_17, a14_18, a14_16, eq3, guardA_undef, appendA_U]
      · simp (config := { maxSteps := 1000000 }) only [go_sem, Int.reduceToNat, Int.reduceLE, Int.reduceLT, Int.reduceAdd, Int.reduceSub, Int.reduceMul, Int.reduceEq, Int.reduceNe, Nat.reduceEqDiff, Nat.reducePow, Nat.reduceDiv, Nat.reduceMod, Nat.reduceAdd, Nat.reduceMul, Nat.reduceSub, Nat.reduceLT, Nat.reduceLeDiff, reduceIte, reduceCtorEq, g1, g2, hqB, wq2, wr2, hb, a14_0, a14_1, a14_2, a14_8, a14_9, a14_10, a14_11, a14_12, a14_13, a14_14, a14_15, a14_17, a14_18, a14_16, guardA_undef, appendA_U]
        exact ⟨⟨q - 1, r + yn1, by simp; omega, by simp, T2, by omega, by omega⟩, by omega⟩
    · have my : (q : Int) * (yn0 : Int) = ((q * yn0 : Nat) : Int) := (Int.natCast_mul _ _).symm
      have mb : q * yn0 ≤ 4294967295 * 4294967295 := Nat.mul_le_mul (by omega) (by omega)
      have wy := IntWalk.u64_in ((q * yn0 : Nat) : Int) (by omega)
      have wb := IntWalk.u64_in (4294967296 * (r : Int)) (by omega)
      have wb2 := IntWalk.u64_in (4294967296 * (r : Int) + (u0 : Int)) (by omega)
      by_cases hc : 4294967296 * (r : Int) + (u0 : Int) < ((q * yn0 : Nat) : Int)
      · obtain ⟨p1, T2⟩ := step (.inr (by omega))
        have wq2 := IntWalk.u64_in ((q : Int) - 1) (by omega)
        have eq2 : (q : Int) - 1 = ((q - 1 : Nat) : Int) := by omega
        by_cases hb : (4294967296 : Int) ≤ (r : Int) + (yn1 : Int)
        · have hfin := C1.brk T2 (by omega) (by omega)
          rw [← hQ0] at hfin
          have eq3 : (q : Int) - 1 = (Q0 : Int) := by omega
          have wQ := IntWalk.u64_in (Q0 : Int) (by omega)
          simp (config := { maxSteps := 1000000 }) only [go_sem, Int.reduceToNat, Int.reduceLE, Int.reduceLT, Int.reduceAdd, Int.reduceSub, Int.reduceMul, Int.reduceEq, Int.reduceNe, Nat.reduceEqDiff, Nat.reducePow, Nat.reduceDiv, Nat.reduceMod, Nat.reduceAdd, Nat.reduceMul, Nat.reduceSub, Nat.reduceLT, Nat.reduceLeDiff, reduceIte, reduceCtorEq, wQ, g1, g2, hqB, my, wy, wb, wb2, hc, wq2, wr2, hb, a14_0, a14_1, a14_2, a14_8, a14_9, a14_10, a14_11, a14_12, a14_13, a14_14, a14_15, a14_17, a14_18, a14_16, eq3, guardA_undef, appendA_U]
        · simp (config := { maxSteps := 1000000 }) only [go_sem, Int.reduceToNat, Int.reduceLE, Int.reduceLT, Int.reduceAdd, Int.reduceSub, Int.reduceMul, Int.reduceEq, Int.reduceNe, Nat.reduceEqDiff, Nat.reducePow, Nat.reduceDiv, Nat.reduceMod, Nat.reduceAdd, Nat.reduceMul, Nat.reduceSub, Nat.reduceLT, Nat.reduceLeDiff, reduceIte, reduceCtorEq, g1, g2, hqB, my, wy, wb, wb2, hc, wq2, wr2, hb, a14_0, a14_1, a14_2, a14_8, a14_9, a14_10, a14_11, a14_12, a14_13, a14_14, a14_15, a14_17, a14_18, a14_16, guardA_undef, appendA_U]
          exact ⟨⟨q - 1, r + yn1, by simp; omega, by simp, T2, by omega, by omega⟩, by omega⟩
      · have hfin := C1.stop T (by omega)
        rw [← hQ0] at hfin
        subst hfin
        simp (config := { maxSteps := 1000000 }) only [go_sem, Int.reduceToNat, Int.reduceLE, Int.reduceLT, Int.reduceAdd, Int.reduceSub, Int.reduceMul, Int.reduceEq, Int.reduceNe, Nat.reduceEqDiff, Nat.reducePow, Nat.reduceDiv, Nat.reduceMod, Nat.reduceAdd, Nat.reduceMul, Nat.reduceSub, Nat.reduceLT, Nat.reduceLeDiff, reduceIte, reduceCtorEq, g1, g2, hqB, my, wy, wb, wb2, hc, a14_0, a14_1, a14_2, a14_8, a14_9, a14_10, a14_11, a14_12, a14_13, a14_14, a14_15, a14_17, a14_18, a14_16, guardA_undef, appendA_U]
  rintro ⟨E15, HX1⟩ ⟨hH1, b15_0, b15_1, b15_2, b15_8, b15_9, b15_10, b15_11, b15_12, b15_13, b15_14, b15_15, b15_17, b15_18⟩
  have a15_0 : E15 0 = .lit (.int .u64 ((hi : Nat) : Int)) := b15_0
  have a15_1 : E15 1 = .lit (.int .u64 ((lo : Nat) : Int)) := b15_1
  have a15_2 : E15 2 = .lit (.int .u64 ((Y : Nat) : Int)) := b15_2
  have a15_8 : E15 8 = .lit (.int .u64 ((s : Nat) : Int)) := b15_8
  have a15_9 : E15 9 = .lit (.int .u64 ((yn1 : Nat) : Int)) := b15_9
  have a15_10 : E15 10 = .lit (.int .u64 ((yn0 : Nat) : Int)) := b15_10
  have a15_11 : E15 11 = .lit (.int .u64 ((U : Nat) : Int)) := b15_11
  have a15_12 : E15 12 = .lit (.int .u64 ((V : Nat) : Int)) := b15_12
  have a15_13 : E15 13 = .lit (.int .u64 ((u1 : Nat) : Int)) := b15_13
  have a15_14 : E15 14 = .lit (.int .u64 ((u0 : Nat) : Int)) := b15_14
  have a15_15 : E15 15 = .lit (.int .u64 ((Q1 : Nat) : Int)) := b15_15
  have a15_17 : E15 17 = .lit (.int .u64 ((R1 : Nat) : Int)) := b15_17
  have a15_18 : E15 18 = .lit (.int .u64 ((Q0 : Nat) : Int)) := b15_18
  simp only at hH1
  have hH1s := hH1.symm
  subst hH1s
  obtain ⟨R0, hR0⟩ : ∃ z, z = (R1 * 4294967296 + u0) % Y := ⟨_, rfl⟩
  have R0Y : R0 < Y := by rw [hR0]; exact Nat.mod_lt _ Ypos
  have dv0 : Y * Q0 + R0 = R1 * 4294967296 + u0 := by rw [hQ0, hR0]; exact Nat.div_add_mod _ _
  have Q0lt : Q0 < 4294967296 := by
    rw [hQ0]
    exact Nat.div_lt_of_lt_mul (by omega)
  obtain ⟨y1, y2⟩ := div_fin s64 hy hY (by rw [← hsr]; exact hU) hV hu1 hu0 hQ1 hR1
  rw [← hQ0] at y1
  rw [← hR0] at y2
  rw [← y1, ← y2] at hK
  obtain ⟨d1, hd1⟩ : ∃ c1 : Nat, c1 = R1 * 4294967296 % 18446744073709551616 := ⟨_, rfl⟩
  obtain ⟨d2, hd2⟩ : ∃ c2 : Nat, c2 = (d1 + u0) % 18446744073709551616 := ⟨_, rfl⟩
  obtain ⟨d3, hd3⟩ : ∃ c3 : Nat, c3 = Q0 * Y % 18446744073709551616 := ⟨_, rfl⟩
  have x5 : IntKind.u64.wrap ((Q1 : Int) * 4294967296) = ((Q1 * 4294967296 : Nat) : Int) := by rw [wrapU64]; omega
  have x6 : IntKind.u64.wrap (((Q1 * 4294967296 : Nat) : Int) + (Q0 : Int)) = ((Q1 * 4294967296 + Q0 : Nat) : Int) := by rw [wrapU64]; omega
  have x7 : IntKind.u64.wrap ((R1 : Int) * 4294967296) = (d1 : Int) := by rw [wrapU64]; omega
  have x8 : IntKind.u64.wrap ((d1 : Int) + (u0 : Int)) = (d2 : Int) := by rw [wrapU64]; omega
  have x9 : IntKind.u64.wrap ((Q0 : Int) * (Y : Int)) = (d3 : Int) := by rw [wrapU64, ← Int.natCast_mul]; omega
  have x10 : IntKind.u64.wrap ((d2 : Int) - (d3 : Int)) = (R0 : Int) := by
    rw [Nat.mul_comm] at dv0
    rw [wrapU64]
    generalize Q0 * Y = z at *
    omega
  have x11 : ∀ {t : TypeId} {o1 o2 : Operand}, binA Tryd.prog .shr t o1 o2 (.lit (.int .u64 (R0 : Int))) (.lit (.int .u64 (s : Int))) = some (.lit (.int .u64 ((R0 / 2 ^ s : Nat) : Int))) := fun {t o1 o2} => by
    rw [shrN s64]
  refine vc_sound _ _ _ (by rfl) ?_
  simp (config := { maxSteps := 1000000 }) only [go_sem, Int.reduceToNat, Int.reduceLE, Int.reduceLT, Int.reduceAdd, Int.reduceSub, Int.reduceMul, Int.reduceEq, Int.reduceNe, Nat.reduceEqDiff, Nat.reducePow, Nat.reduceDiv, Nat.reduceMod, Nat.reduceAdd, Nat.reduceMul, Nat.reduceSub, Nat.reduceLT, Nat.reduceLeDiff, reduceIte, reduceCtorEq, a15_0, a15_1, a15_2, a15_8, a15_9, a15_10, a15_11, a15_12, a15_13, a15_14, a15_15, a15_17, a15_18, x5, x6, x7, x8, x9, x10, x11, appendA_U]
  exact FinV.dropO (v' := .tup [.lit (.int .u64 ((Q1 * 4294967296 + Q0 : Nat) : Int)), .lit (.int .u64 ((R0 / 2 ^ s : Nat) : Int))]) G0_ok hcl (.refl _) (.tup rfl fun i hi _ => match i, hi with | 0, _ => .lit _ | 1, _ => .lit _) hK
end Go.Proofs
set_option linter.unusedSimpArgs false
set_option maxRecDepth 100000
namespace Go.Proofs
open Go.Hx
/-! Rem64, over, plus, minus. -/
theorem rem_wide (hi lo y : Nat) : (hi % y * 18446744073709551616 + lo) % y = (hi * 18446744073709551616 + lo) % y := by
  rw [Nat.add_mod, Nat.mod_mul_mod, ← Nat.add_mod]
theorem div64_named (hi lo y q r : Nat) (hy : y ≠ 0) (hh : hi < y) (hl : lo < 18446744073709551616) (hyW : y < 18446744073709551616) (hq : q = (hi * 18446744073709551616 + lo) / y) (hr : r = (hi * 18446744073709551616 + lo) % y) (H : AHeap) (K : ARes → AHeap → Prop)
    (hK : K (.ret (.tup [.lit (.int .u64 (q : Int)), .lit (.int .u64 (r : Int))])) H) : ACall Tryd.prog G0 87 [.lit (.int .u64 (hi : Int)), .lit (.int .u64 (lo : Int)), .lit (.int .u64 (y : Int))] H K := by
  subst hq
  subst hr
  exact div64_spec hi lo y hy hh hl hyW H K hK
theorem rem64_spec (hi lo y rr : Nat) (hy : y ≠ 0) (hl : lo < 18446744073709551616) (hyW : y < 18446744073709551616) (hrr : rr = (hi * 18446744073709551616 + lo) % y) (H : AHeap) (K : ARes → AHeap → Prop)
    (hK : K (.ret (.lit (.int .u64 (rr : Int)))) H) : ACall Tryd.prog G0 76 [.lit (.int .u64 (hi : Int)), .lit (.int .u64 (lo : Int)), .lit (.int .u64 (y : Int))] H K := by
  refine ACall.clo ⟨_, Tryd.func76, rfl, rfl⟩ fun hcl => ?_
  have hm : hi % y < y := Nat.mod_lt _ (Nat.pos_of_ne_zero hy)
  have q2 : (hi : Int).tmod (y : Int) = ((hi % y : Nat) : Int) := by rw [Int.tmod_eq_emod_of_nonneg (Int.natCast_nonneg _)]; rfl
  have n1 : ¬ (y : Int) = 0 := by omega
  rw [← rem_wide] at hrr
  have dv : ∀ qq, qq = (hi % y * 18446744073709551616 + lo) / y → ∀ H K, K (.ret (.tup [.lit (.int .u64 (qq : Int)), .lit (.int .u64 (rr : Int))])) H → ACall Tryd.prog G0 87 [.lit (.int .u64 ((hi % y : Nat) : Int)), .lit (.int .u64 (lo : Int)), .lit (.int .u64 (y : Int))] H K := fun qq hqq => div64_named (hi % y) lo y qq rr hy hm hl hyW hqq hrr
  clear hrr
  obtain ⟨qq, hqq⟩ : ∃ qq, qq = (hi % y * 18446744073709551616 + lo) / y := ⟨_, rfl⟩
  have dv2 := dv qq hqq
  clear dv hqq
  obtain ⟨m, em⟩ : ∃ m, m = hi % y := ⟨_, rfl⟩
  rw [← em] at q2 hm dv2
  clear em
  have w1 := IntWalk.u64_in (m : Int) (by omega)
  refine ACall.of_body (n := 19) (rs := [.tmp 6]) Tryd.func76 rfl rfl rfl (by decide) (by kernel_rfl) (by simp) ?_
  simp (config := { maxSteps := 1000000 }) only [go_sem, Int.reduceToNat, Int.reduceLE, Int.reduceLT, Int.reduceAdd, Int.reduceSub, Int.reduceMul, Int.reduceEq, Int.reduceNe, Nat.reduceEqDiff, Nat.reducePow, Nat.reduceDiv, Nat.reduceMod, Nat.reduceAdd, Nat.reduceMul, Nat.reduceSub, Nat.reduceLT, Nat.reduceLeDiff, reduceIte, reduceCtorEq, q2, w1, n1, appendA_U]
  refine AApply.clo (dv2 _ _ ⟨trivial, ?_⟩)
  simp (config := { maxSteps := 1000000 }) only [go_sem, Int.reduceToNat, Int.reduceLE, Int.reduceLT, Int.reduceAdd, Int.reduceSub, Int.reduceMul, Int.reduceEq, Int.reduceNe, Nat.reduceEqDiff, Nat.reducePow, Nat.reduceDiv, Nat.reduceMod, Nat.reduceAdd, Nat.reduceMul, Nat.reduceSub, Nat.reduceLT, Nat.reduceLeDiff, reduceIte, reduceCtorEq, appendA_U]
  exact FinV.dropO G0_ok hcl (.refl _) (.lit _) hK
theorem wide_two {hi lo : Nat} (hl : lo < 18446744073709551616) : wideV (hi * 18446744073709551616 + lo) = .agg [.lit (.int .u64 (hi : Int)), .lit (.int .u64 (lo : Int))] := by
  unfold wideV
  have e1 : (hi * 18446744073709551616 + lo) / 18446744073709551616 = hi := by omega
  have e2 : (hi * 18446744073709551616 + lo) % 18446744073709551616 = lo := by omega
  rw [e1, e2]
theorem fz_u64s {S : Nat → Prop} {H : AHeap} {nx : Nat} {a b : Int} : Fz S H nx (.agg [.lit (.int .u64 a), .lit (.int .u64 b)]) (.agg [.lit (.int .u64 a), .lit (.int .u64 b)]) := .agg rfl fun i hi _ => match i, hi with
  | 0, _ => .lit _
  | 1, _ => .lit _
theorem two_of (x : Nat) (hx : x < 18446744073709551616 * 18446744073709551616) : ∃ hi lo : Nat, x = hi * 18446744073709551616 + lo ∧ hi < 18446744073709551616 ∧ lo < 18446744073709551616 := ⟨x / 18446744073709551616, x % 18446744073709551616, by omega, by omega, by omega⟩
theorem wide_lt {m lo d : Nat} (hm : m < d) (hl : lo < 18446744073709551616) : (m * 18446744073709551616 + lo) / d < 18446744073709551616 := by
  refine (Nat.div_lt_iff_lt_mul (by omega)).2 ?_
  have : (m + 1) * 18446744073709551616 ≤ d * 18446744073709551616 := Nat.mul_le_mul_right _ hm
  rw [Nat.add_mul, Nat.one_mul, Nat.mul_comm d] at this
  exact Nat.lt_of_lt_of_le (Nat.add_lt_add_left hl _) this
theorem wide_div {hi lo d : Nat} (hd : d ≠ 0) : (hi * 18446744073709551616 + lo) / d = hi / d * 18446744073709551616 + (hi % d * 18446744073709551616 + lo) / d := by
  have dm := Nat.div_add_mod hi d
  have e : hi * 18446744073709551616 + lo = (hi % d * 18446744073709551616 + lo) + d * (hi / d * 18446744073709551616) := by
    rw [← Nat.mul_assoc]
    generalize d * (hi / d) = z at *
    generalize hi % d = w at *
    omega
  rw [e, Nat.add_mul_div_left _ _ (Nat.pos_of_ne_zero hd), Nat.add_comm]
theorem over_spec (x d : Nat) (hx : x < 18446744073709551616 * 18446744073709551616) (hd : d ≠ 0) (hdW : d < 18446744073709551616) (H : AHeap) (K : ARes → AHeap → Prop) (hK : K (.ret (wideV (x / d))) H) :
    ACall Tryd.prog G0 77 [wideV x, .lit (.int .u64 (d : Int))] H K := by
  refine ACall.clo ⟨_, Tryd.func77, rfl, rfl⟩ fun hcl => ?_
  obtain ⟨hi, lo, rfl, hh, hl⟩ := two_of x hx
  obtain ⟨m, em⟩ : ∃ m, m = hi % d := ⟨_, rfl⟩
  obtain ⟨h2, eh⟩ : ∃ z, z = hi / d := ⟨_, rfl⟩
  have hm : m < d := by rw [em]; exact Nat.mod_lt _ (by omega)
  have h2le : h2 ≤ hi := by rw [eh]; exact Nat.div_le_self _ _
  have eq : (hi * 18446744073709551616 + lo) / d = h2 * 18446744073709551616 + (m * 18446744073709551616 + lo) / d := by rw [em, eh]; exact wide_div hd
  have ql := wide_lt (lo := lo) hm hl
  rw [eq, wide_two ql] at hK
  rw [wide_two hl]
  have q1 : (hi : Int).tdiv (d : Int) = (h2 : Int) := by rw [Int.tdiv_eq_ediv_of_nonneg (by omega), eh]; rfl
  have q2 : (hi : Int).tmod (d : Int) = (m : Int) := by rw [Int.tmod_eq_emod_of_nonneg (by omega), em]; rfl
  have w1 := IntWalk.u64_in (m : Int) (by omega)
  have w2 := IntWalk.u64_in (h2 : Int) (by omega)
  have n1 : ¬ (d : Int) = 0 := by omega
  obtain ⟨qq, hqq⟩ : ∃ z, z = (m * 18446744073709551616 + lo) / d := ⟨_, rfl⟩
  obtain ⟨rr, hrr⟩ : ∃ z, z = (m * 18446744073709551616 + lo) % d := ⟨_, rfl⟩
  have dv := div64_named m lo d qq rr hd hm hl hdW hqq hrr
  rw [← hqq] at hK
  clear hqq hrr eq ql em eh hx
  refine ACall.of_body (n := 24) (rs := [.cell 4 79]) Tryd.func77 rfl rfl rfl (by decide) (by kernel_rfl) (by simp) ?_
  simp (config := { maxSteps := 1000000 }) only [go_sem, Int.reduceToNat, Int.reduceLE, Int.reduceLT, Int.reduceAdd, Int.reduceSub, Int.reduceMul, Int.reduceEq, Int.reduceNe, Nat.reduceEqDiff, Nat.reducePow, Nat.reduceDiv, Nat.reduceMod, Nat.reduceAdd, Nat.reduceMul, Nat.reduceSub, Nat.reduceLT, Nat.reduceLeDiff, reduceIte, reduceCtorEq, appendA_U]
  refine W.draw 12 [0, 1, 0, 7, 0, 16, 0, 127, 255, 511, 511, 1023] Tryd.mixed (by kernel_rfl) (by kernel_rfl) ?_
  simp (config := { maxSteps := 1000000 }) only [go_sem, Int.reduceToNat, Int.reduceLE, Int.reduceLT, Int.reduceAdd, Int.reduceSub, Int.reduceMul, Int.reduceEq, Int.reduceNe, Nat.reduceEqDiff, Nat.reducePow, Nat.reduceDiv, Nat.reduceMod, Nat.reduceAdd, Nat.reduceMul, Nat.reduceSub, Nat.reduceLT, Nat.reduceLeDiff, reduceIte, reduceCtorEq, q2, w1, n1, appendA_U]
  refine ⟨_, [], PCall.pure fun H2 => dv H2 _ ⟨rfl, rfl⟩, ?_⟩
  simp (config := { maxSteps := 1000000 }) only [go_sem, Int.reduceToNat, Int.reduceLE, Int.reduceLT, Int.reduceAdd, Int.reduceSub, Int.reduceMul, Int.reduceEq, Int.reduceNe, Nat.reduceEqDiff, Nat.reducePow, Nat.reduceDiv, Nat.reduceMod, Nat.reduceAdd, Nat.reduceMul, Nat.reduceSub, Nat.reduceLT, Nat.reduceLeDiff, reduceIte, reduceCtorEq, q1, w2, n1, appendA_U]
  exact FinV.drop G0_ok hcl fz_u64s hK
theorem addF_nat (a b c : Nat) (hc : c ≤ 1) {u v : Nat} (hu : u = (a + b + c) % 18446744073709551616) (hv : v = (a + b + c) / 18446744073709551616) : addF [.lit (.int .u64 (a : Int)), .lit (.int .u64 (b : Int)), .lit (.int .u64 (c : Int))] = some (.tup [.lit (.int .u64 (u : Int)), .lit (.int .u64 (v : Int))]) := by
  have h : Nat.ble c 1 = true := Nat.ble_eq_true_of_le hc
  simp only [addF, Int.toNat_natCast, h, cond_true, Int.ofNat_eq_natCast, ← hu, ← hv]
theorem subF_nat (a b c : Nat) (hc : c ≤ 1) {u v : Nat} (hu : u = (a + 18446744073709551616 - b - c) % 18446744073709551616) (hv : v = bif Nat.blt a (b + c) then 1 else 0) : subF [.lit (.int .u64 (a : Int)), .lit (.int .u64 (b : Int)), .lit (.int .u64 (c : Int))] = some (.tup [.lit (.int .u64 (u : Int)), .lit (.int .u64 (v : Int))]) := by
  have h : Nat.ble c 1 = true := Nat.ble_eq_true_of_le hc
  simp only [subF, Int.toNat_natCast, h, cond_true, Int.ofNat_eq_natCast, ← hu, ← hv]
theorem fplus_spec (x y : Nat) (hxy : x + y < 18446744073709551616 * 18446744073709551616) (H : AHeap) (K : ARes → AHeap → Prop) (hK : K (.ret (wideV (x + y))) H) : ACall Tryd.prog G0 74 [wideV x, wideV y] H K := by
  refine ACall.clo ⟨_, Tryd.func74, rfl, rfl⟩ fun hcl => ?_
  obtain ⟨h1, l1, rfl, b1, b2⟩ := two_of x (by omega)
  obtain ⟨h2, l2, rfl, b3, b4⟩ := two_of y (by omega)
  obtain ⟨u, hu⟩ : ∃ u, u = (l1 + l2 + 0) % 18446744073709551616 := ⟨_, rfl⟩
  obtain ⟨c, hc⟩ : ∃ c, c = (l1 + l2 + 0) / 18446744073709551616 := ⟨_, rfl⟩
  obtain ⟨v, hv⟩ : ∃ v, v = h1 + h2 + c := ⟨_, rfl⟩
  have eq : h1 * 18446744073709551616 + l1 + (h2 * 18446744073709551616 + l2) = v * 18446744073709551616 + u := by omega
  have ul : u < 18446744073709551616 := by omega
  rw [eq, wide_two ul] at hK
  rw [wide_two b2, wide_two b4]
  have k1 := addF_nat l1 l2 0 (by decide) hu hc
  have k2 := addF_nat h1 h2 c (by omega) (u := v) (v := 0) (by omega) (by omega)
  clear eq hu hc hv hxy
  refine ACall.of_body (n := 29) (rs := [.cell 4 79]) Tryd.func74 rfl rfl rfl (by decide) (by kernel_rfl) (by simp) ?_
  simp (config := { maxSteps := 1000000 }) only [go_sem, Int.reduceToNat, Int.reduceLE, Int.reduceLT, Int.reduceAdd, Int.reduceSub, Int.reduceMul, Int.reduceEq, Int.reduceNe, Nat.reduceEqDiff, Nat.reducePow, Nat.reduceDiv, Nat.reduceMod, Nat.reduceAdd, Nat.reduceMul, Nat.reduceSub, Nat.reduceLT, Nat.reduceLeDiff, reduceIte, reduceCtorEq, appendA_U]
  refine add_ext k1 ⟨trivial, ?_⟩
  simp (config := { maxSteps := 1000000 }) only [go_sem, Int.reduceToNat, Int.reduceLE, Int.reduceLT, Int.reduceAdd, Int.reduceSub, Int.reduceMul, Int.reduceEq, Int.reduceNe, Nat.reduceEqDiff, Nat.reducePow, Nat.reduceDiv, Nat.reduceMod, Nat.reduceAdd, Nat.reduceMul, Nat.reduceSub, Nat.reduceLT, Nat.reduceLeDiff, reduceIte, reduceCtorEq, appendA_U]
  refine add_ext k2 ⟨trivial, ?_⟩
  simp (config := { maxSteps := 1000000 }) only [go_sem, Int.reduceToNat, Int.reduceLE, Int.reduceLT, Int.reduceAdd, Int.reduceSub, Int.reduceMul, Int.reduceEq, Int.reduceNe, Nat.reduceEqDiff, Nat.reducePow, Nat.reduceDiv, Nat.reduceMod, Nat.reduceAdd, Nat.reduceMul, Nat.reduceSub, Nat.reduceLT, Nat.reduceLeDiff, reduceIte, reduceCtorEq, appendA_U]
  exact FinV.drop G0_ok hcl fz_u64s hK
theorem fminus_spec (x y : Nat) (hxy : y ≤ x) (hx : x < 18446744073709551616 * 18446744073709551616) (H : AHeap) (K : ARes → AHeap → Prop) (hK : K (.ret (wideV (x - y))) H) : ACall Tryd.prog G0 75 [wideV x, wideV y] H K := by
  refine ACall.clo ⟨_, Tryd.func75, rfl, rfl⟩ fun hcl => ?_
  obtain ⟨h1, l1, rfl, b1, b2⟩ := two_of x hx
  obtain ⟨h2, l2, rfl, b3, b4⟩ := two_of y (by omega)
  obtain ⟨c, hc⟩ : ∃ c : Nat, c = bif Nat.blt l1 (l2 + 0) then 1 else 0 := ⟨_, rfl⟩
  have hc2 : (l1 < l2 ∧ c = 1) ∨ (l2 ≤ l1 ∧ c = 0) := by
    by_cases h : l1 < l2
    · exact .inl ⟨h, by rw [hc, show Nat.blt l1 (l2 + 0) = true from Nat.ble_eq_true_of_le h]; rfl⟩
    · exact .inr ⟨by omega, by rw [hc, show Nat.blt l1 (l2 + 0) = false from Bool.eq_false_iff.2 fun h' => h (Nat.le_of_ble_eq_true h')]; rfl⟩
  obtain ⟨u, hu⟩ : ∃ u, u = (l1 + 18446744073709551616 - l2 - 0) % 18446744073709551616 := ⟨_, rfl⟩
  obtain ⟨v, hv⟩ : ∃ v, v = h1 - h2 - c := ⟨_, rfl⟩
  have ul : u < 18446744073709551616 := by omega
  have hle : h2 + c ≤ h1 := by rcases hc2 with ⟨_, h⟩ | ⟨_, h⟩ <;> subst h <;> omega
  have eq : h1 * 18446744073709551616 + l1 - (h2 * 18446744073709551616 + l2) = v * 18446744073709551616 + u := by
    rcases hc2 with ⟨_, h⟩ | ⟨_, h⟩ <;> subst h <;> omega
  rw [eq, wide_two ul] at hK
  rw [wide_two b2, wide_two b4]
  have k1 := subF_nat l1 l2 0 (by decide) hu hc
  have hb : Nat.blt h1 (h2 + c) = false := Bool.eq_false_iff.2 fun h' => by
    have := Nat.le_of_ble_eq_true h'
    omega
  have k2 := subF_nat h1 h2 c (by omega) (u := v) (v := 0) (by omega) (by rw [hb]; rfl)
  clear eq hu hc hv hxy hx
  refine ACall.of_body (n := 29) (rs := [.cell 4 79]) Tryd.func75 rfl rfl rfl (by decide) (by kernel_rfl) (by simp) ?_
  simp (config := { maxSteps := 1000000 }) only [go_sem, Int.reduceToNat, Int.reduceLE, Int.reduceLT, Int.reduceAdd, Int.reduceSub, Int.reduceMul, Int.reduceEq, Int.reduceNe, Nat.reduceEqDiff, Nat.reducePow, Nat.reduceDiv, Nat.reduceMod, Nat.reduceAdd, Nat.reduceMul, Nat.reduceSub, Nat.reduceLT, Nat.reduceLeDiff, reduceIte, reduceCtorEq, appendA_U]
  refine sub_ext k1 ⟨trivial, ?_⟩
  simp (config := { maxSteps := 1000000 }) only [go_sem, Int.reduceToNat, Int.reduceLE, Int.reduceLT, Int.reduceAdd, Int.reduceSub, Int.reduceMul, Int.reduceEq, Int.reduceNe, Nat.reduceEqDiff, Nat.reducePow, Nat.reduceDiv, Nat.reduceMod, Nat.reduceAdd, Nat.reduceMul, Nat.reduceSub, Nat.reduceLT, Nat.reduceLeDiff, reduceIte, reduceCtorEq, appendA_U]
  refine sub_ext k2 ⟨trivial, ?_⟩
  simp (config := { maxSteps := 1000000 }) only [go_sem, Int.reduceToNat, Int.reduceLE, Int.reduceLT, Int.reduceAdd, Int.reduceSub, Int.reduceMul, Int.reduceEq, Int.reduceNe, Nat.reduceEqDiff, Nat.reducePow, Nat.reduceDiv, Nat.reduceMod, Nat.reduceAdd, Nat.reduceMul, Nat.reduceSub, Nat.reduceLT, Nat.reduceLeDiff, reduceIte, reduceCtorEq, appendA_U]
  exact FinV.drop G0_ok hcl fz_u64s hK
end Go.Proofs
set_option linter.unusedSimpArgs false
set_option maxRecDepth 100000
namespace Go.Proofs
open Go.Hx
/-! The law of sums. -/
theorem sum_gcd {b' d' g T : Nat} (h1 : Nat.Coprime T b') (h2 : Nat.Coprime T d') (hg : 0 < g) :
    Nat.gcd (g * T) ((g * b') * (g * d')) = g * Nat.gcd T g ∧ g * T / (g * Nat.gcd T g) = T / Nat.gcd T g ∧ (g * b') * (g * d') / (g * Nat.gcd T g) = b' * (g * d' / Nat.gcd T g) := by
  have e : (g * b') * (g * d') = g * (b' * (d' * g)) := by ac_rfl
  have k : Nat.gcd T (b' * (d' * g)) = Nat.gcd T g := by
    rw [Nat.Coprime.gcd_mul_left_cancel_right _ (Nat.Coprime.symm h1), Nat.Coprime.gcd_mul_left_cancel_right _ (Nat.Coprime.symm h2)]
  refine ⟨?_, ?_, ?_⟩
  · rw [e, Nat.gcd_mul_left, k]
  · rw [Nat.mul_div_mul_left _ _ hg]
  · rw [e, Nat.mul_div_mul_left _ _ hg, Nat.mul_comm d' g]
    exact Nat.mul_div_assoc _ (Nat.dvd_trans (Nat.gcd_dvd_right T g) (Nat.dvd_mul_right g d'))
/-- What is added or taken away: coprime to both denominators. -/
theorem cop_of {z p q b' : Nat} (h : Nat.Coprime p b') (e : ∀ k, k ∣ z → k ∣ b' → k ∣ p) : Nat.Coprime z b' := by
  have hd : Nat.gcd z b' ∣ Nat.gcd p b' := Nat.dvd_gcd (e _ (Nat.gcd_dvd_left z b') (Nat.gcd_dvd_right z b')) (Nat.gcd_dvd_right z b')
  rw [show Nat.gcd p b' = 1 from h] at hd
  exact Nat.dvd_one.1 hd
theorem cop_add {p q b' : Nat} (h : Nat.Coprime p b') : Nat.Coprime (p + q * b') b' := cop_of (q := q) h fun k h1 h2 => (Nat.dvd_add_left (Nat.dvd_trans h2 (Nat.dvd_mul_left b' q))).1 h1
theorem cop_sub1 {z p q b' : Nat} (h : Nat.Coprime p b') (e : p = z + q * b') : Nat.Coprime z b' := cop_of (q := q) h fun k h1 h2 => by rw [e]; exact Nat.dvd_add h1 (Nat.dvd_trans h2 (Nat.dvd_mul_left b' q))
theorem cop_sub2 {z p q b' : Nat} (h : Nat.Coprime p b') (e : q * b' = z + p) : Nat.Coprime z b' := cop_of (q := q) h fun k h1 h2 => (Nat.dvd_add_right h1).1 (by rw [← e]; exact Nat.dvd_trans h2 (Nat.dvd_mul_left b' q))
theorem sum_cop {A C b' d' T : Nat} (hA : Nat.Coprime A b') (hC : Nat.Coprime C d') (hbd : Nat.Coprime b' d') (hT : T = A * d' + C * b' ∨ A * d' = T + C * b' ∨ C * b' = T + A * d') : Nat.Coprime T b' ∧ Nat.Coprime T d' := by
  have x1 : Nat.Coprime (A * d') b' := Nat.Coprime.mul_left hA hbd.symm
  have y1 : Nat.Coprime (C * b') d' := Nat.Coprime.mul_left hC hbd
  rcases hT with hT | hT | hT
  · exact ⟨by rw [hT]; exact cop_add x1, by rw [hT, Nat.add_comm]; exact cop_add y1⟩
  · exact ⟨cop_sub1 x1 hT, cop_sub2 y1 hT⟩
  · exact ⟨cop_sub2 x1 hT, cop_sub1 y1 hT⟩
/-- A sum over the least denominator, in lowest terms. -/
theorem sum_low {A B C D g b' d' T TR : Nat} (hAB : Nat.gcd A B = 1) (hCD : Nat.gcd C D = 1) (hB : 0 < B) (hg : g = Nat.gcd B D) (hb' : b' = B / g) (hd' : d' = D / g)
    (hT : T = A * d' + C * b' ∨ A * d' = T + C * b' ∨ C * b' = T + A * d') (hTR : TR = g * T) :
    TR / Nat.gcd TR (B * D) = T / Nat.gcd T g ∧ B * D / Nat.gcd TR (B * D) = b' * (D / Nat.gcd T g) := by
  have pg : 0 < g := by rw [hg]; exact Nat.gcd_pos_of_pos_left _ hB
  have eB : B = g * b' := by rw [hb', Nat.mul_div_cancel' (by rw [hg]; exact Nat.gcd_dvd_left B D)]
  have eD : D = g * d' := by rw [hd', Nat.mul_div_cancel' (by rw [hg]; exact Nat.gcd_dvd_right B D)]
  have k : Nat.Coprime b' d' := by rw [hb', hd', hg]; exact Nat.coprime_div_gcd_div_gcd (by rw [← hg]; exact pg)
  have kA : Nat.Coprime A b' := Nat.Coprime.coprime_dvd_right ⟨g, by rw [eB, Nat.mul_comm]⟩ hAB
  have kC : Nat.Coprime C d' := Nat.Coprime.coprime_dvd_right ⟨g, by rw [eD, Nat.mul_comm]⟩ hCD
  obtain ⟨c1, c2⟩ := sum_cop kA kC k hT
  obtain ⟨e1, e2, e3⟩ := sum_gcd c1 c2 pg
  clear hb' hd' hg
  subst hTR
  rw [eB, eD, e1]
  exact ⟨e2, e3⟩
end Go.Proofs
set_option linter.unusedSimpArgs false
set_option maxRecDepth 100000
namespace Go.Proofs
open Go.Hx
/-! sum. -/
def sumX (a b d : Int) : Nat := a.natAbs * (d.natAbs / Int.gcd b d)
def sumY (b c d : Int) : Nat := c.natAbs * (b.natAbs / Int.gcd b d)
def sumT (a b c d : Int) : Nat := if (a < 0 ↔ c < 0) then sumX a b d + sumY b c d else if sumX a b d < sumY b c d then sumY b c d - sumX a b d else sumX a b d - sumY b c d
def sumS (a b c d : Int) : Bool := if (a < 0 ↔ c < 0) then decide (a < 0) else if sumX a b d < sumY b c d then !decide (a < 0) else decide (a < 0)
def sumO (a b c d : Int) : Option AVal := fitO (sumS a b c d) (sumT a b c d / Nat.gcd (sumT a b c d) (Int.gcd b d)) (b.natAbs / Int.gcd b d * (d.natAbs / Nat.gcd (sumT a b c d) (Int.gcd b d)))
def wideL (n : Nat) : List AVal := [.lit (.int .u64 (n / 18446744073709551616 : Nat)), .lit (.int .u64 (n % 18446744073709551616 : Nat))]
theorem wideL_len (n : Nat) : (wideL n).length = 2 := rfl
theorem wideL_V (n : Nat) : wideV n = .agg (wideL n) := rfl
set_option maxHeartbeats 2000000 in
theorem sum_spec (a b c d : Int) (ha : -4611686018427387903 ≤ a ∧ a ≤ 4611686018427387903) (hb : 1 ≤ b ∧ b ≤ 4611686018427387903) (hc : -4611686018427387903 ≤ c ∧ c ≤ 4611686018427387903) (hd : 1 ≤ d ∧ d ≤ 4611686018427387903)
    (H : AHeap) (K : ARes → AHeap → Prop) (hK : OutK (sumO a b c d) H K) : ACall Tryd.prog G0 52 [qV a b, qV c d] H K := by
  refine ACall.clo ⟨_, Tryd.func52, rfl, rfl⟩ fun hcl => ?_
  have wb := IntWalk.u64_in b (by omega)
  have wd := IntWalk.u64_in d (by omega)
  have g0 : 0 < Int.gcd b d := Int.gcd_pos_of_ne_zero_right _ (by omega)
  obtain ⟨B, hB⟩ : ∃ B : Nat, (B : Int) = b := ⟨b.natAbs, by omega⟩
  obtain ⟨D, hD⟩ : ∃ D : Nat, (D : Int) = d := ⟨d.natAbs, by omega⟩
  have hBn : b.natAbs = B := by omega
  have hDn : d.natAbs = D := by omega
  have hgB : Int.gcd b d ≤ B := by rw [← hBn]; exact Nat.le_of_dvd (by omega) (Nat.gcd_dvd_left _ _)
  unfold sumO at hK
  have eX : sumX a b d = a.natAbs * (D / Int.gcd b d) := by unfold sumX; rw [hDn]
  have eY : sumY b c d = c.natAbs * (B / Int.gcd b d) := by unfold sumY; rw [hBn]
  have eT : sumT a b c d = if (a < 0 ↔ c < 0) then sumX a b d + sumY b c d else if sumX a b d < sumY b c d then sumY b c d - sumX a b d else sumX a b d - sumY b c d := rfl
  have eS : sumS a b c d = if (a < 0 ↔ c < 0) then decide (a < 0) else if sumX a b d < sumY b c d then !decide (a < 0) else decide (a < 0) := rfl
  rw [hBn, hDn] at hK
  have cm1 := fun H2 K h => common_spec b d (by omega) (by omega) H2 K h
  generalize sumT a b c d = T at *
  generalize sumS a b c d = S at *
  generalize sumX a b d = X at *
  generalize sumY b c d = Y at *
  generalize Int.gcd b d = g at *
  have gne : ¬ (g : Int) = 0 := by omega
  have q1 := tdivN D g
  have q2 := tdivN B g
  have b1 : D / g ≤ D := Nat.div_le_self _ _
  have b2 : B / g ≤ B := Nat.div_le_self _ _
  have bX : X ≤ 4611686018427387903 * 4611686018427387903 := by rw [eX]; exact Nat.mul_le_mul (by omega) (by omega)
  have bY : Y ≤ 4611686018427387903 * 4611686018427387903 := by rw [eY]; exact Nat.mul_le_mul (by omega) (by omega)
  obtain ⟨xh, exh⟩ : ∃ z, z = X / 18446744073709551616 := ⟨_, rfl⟩
  obtain ⟨xl, exl⟩ : ∃ z, z = X % 18446744073709551616 := ⟨_, rfl⟩
  obtain ⟨yh, eyh⟩ : ∃ z, z = Y / 18446744073709551616 := ⟨_, rfl⟩
  obtain ⟨yl, eyl⟩ : ∃ z, z = Y % 18446744073709551616 := ⟨_, rfl⟩
  obtain ⟨th, eth⟩ : ∃ z, z = T / 18446744073709551616 := ⟨_, rfl⟩
  obtain ⟨tl, etl⟩ : ∃ z, z = T % 18446744073709551616 := ⟨_, rfl⟩
  have wX : wideV X = .agg [.lit (.int .u64 (xh : Int)), .lit (.int .u64 (xl : Int))] := by unfold wideV; rw [← exh, ← exl]
  have wY : wideV Y = .agg [.lit (.int .u64 (yh : Int)), .lit (.int .u64 (yl : Int))] := by unfold wideV; rw [← eyh, ← eyl]
  have wT : wideV T = .agg [.lit (.int .u64 (th : Int)), .lit (.int .u64 (tl : Int))] := by unfold wideV; rw [← eth, ← etl]
  have eT2 : T = th * 18446744073709551616 + tl := by omega
  have btl : tl < 18446744073709551616 := by omega
  clear exh exl eyh eyl eth etl
  have tx : ∀ H2 K, K (.ret (.agg [.lit (.int .u64 (xh : Int)), .lit (.int .u64 (xl : Int))])) H2 → ACall Tryd.prog G0 61 [.lit (.int .u64 (a.natAbs : Int)), .lit (.int .u64 ((D / g : Nat) : Int))] H2 K := fun H2 K h => tmN _ _ (by omega) (by omega) H2 K (by rw [← eX, wX]; exact h)
  have ty : ∀ H2 K, K (.ret (.agg [.lit (.int .u64 (yh : Int)), .lit (.int .u64 (yl : Int))])) H2 → ACall Tryd.prog G0 61 [.lit (.int .u64 (c.natAbs : Int)), .lit (.int .u64 ((B / g : Nat) : Int))] H2 K := fun H2 K h => tmN _ _ (by omega) (by omega) H2 K (by rw [← eY, wY]; exact h)
  clear eX eY
  generalize D / g = p1 at *
  generalize B / g = p2 at *
  have u1 := IntWalk.u64_in (p1 : Int) (by omega)
  have u2 := IntWalk.u64_in (p2 : Int) (by omega)
  have u3 := IntWalk.u64_in (g : Int) (by omega)
  rw [hD] at q1
  rw [hB] at q2
  have ls : ∀ H2 K, K (.ret (.lit (.bool (decide (X < Y))))) H2 → ACall Tryd.prog G0 62 [.agg [.lit (.int .u64 (xh : Int)), .lit (.int .u64 (xl : Int))], .agg [.lit (.int .u64 (yh : Int)), .lit (.int .u64 (yl : Int))]] H2 K := fun H2 K h => by rw [← wX, ← wY]; exact less_spec X Y H2 K h
  have ps : (a < 0 ↔ c < 0) → ∀ H2 K, K (.ret (.agg [.lit (.int .u64 (th : Int)), .lit (.int .u64 (tl : Int))])) H2 → ACall Tryd.prog G0 74 [.agg [.lit (.int .u64 (xh : Int)), .lit (.int .u64 (xl : Int))], .agg [.lit (.int .u64 (yh : Int)), .lit (.int .u64 (yl : Int))]] H2 K := fun h0 H2 K h => by
    rw [if_pos h0] at eT
    rw [← wX, ← wY]
    exact fplus_spec X Y (by omega) H2 K (by rw [← eT, wT]; exact h)
  have m1 : ¬ (a < 0 ↔ c < 0) → X < Y → ∀ H2 K, K (.ret (.agg [.lit (.int .u64 (th : Int)), .lit (.int .u64 (tl : Int))])) H2 → ACall Tryd.prog G0 75 [.agg [.lit (.int .u64 (yh : Int)), .lit (.int .u64 (yl : Int))], .agg [.lit (.int .u64 (xh : Int)), .lit (.int .u64 (xl : Int))]] H2 K := fun h0 h1 H2 K h => by
    rw [if_neg h0, if_pos h1] at eT
    rw [← wX, ← wY]
    exact fminus_spec Y X (by omega) (by omega) H2 K (by rw [← eT, wT]; exact h)
  have m2 : ¬ (a < 0 ↔ c < 0) → ¬ X < Y → ∀ H2 K, K (.ret (.agg [.lit (.int .u64 (th : Int)), .lit (.int .u64 (tl : Int))])) H2 → ACall Tryd.prog G0 75 [.agg [.lit (.int .u64 (xh : Int)), .lit (.int .u64 (xl : Int))], .agg [.lit (.int .u64 (yh : Int)), .lit (.int .u64 (yl : Int))]] H2 K := fun h0 h1 H2 K h => by
    rw [if_neg h0, if_neg h1] at eT
    rw [← wX, ← wY]
    exact fminus_spec X Y (by omega) (by omega) H2 K (by rw [← eT, wT]; exact h)
  have bT : T < 18446744073709551616 * 18446744073709551616 := by
    rw [eT]
    split
    · omega
    · split <;> omega
  have hh0 : 0 < Nat.gcd T g := Nat.gcd_pos_of_pos_right _ g0
  have hhg : Nat.gcd T g ≤ g := Nat.le_of_dvd g0 (Nat.gcd_dvd_right _ _)
  have e9 : Nat.gcd (T % g) g = Nat.gcd T g := by rw [← Nat.gcd_rec, Nat.gcd_comm]
  obtain ⟨rr, err⟩ : ∃ z, z = T % g := ⟨_, rfl⟩
  have rm : ∀ H2 K, K (.ret (.lit (.int .u64 (rr : Int)))) H2 → ACall Tryd.prog G0 76 [.lit (.int .u64 (th : Int)), .lit (.int .u64 (tl : Int)), .lit (.int .u64 (g : Int))] H2 K := fun H2 K h => rem64_spec th tl g rr (by omega) btl (by omega) (by rw [err, eT2]) H2 K h
  have cm2 : ∀ H2 K, K (.ret (.lit (.int .u64 ((Nat.gcd T g : Nat) : Int)))) H2 → ACall Tryd.prog G0 42 [.lit (.int .u64 (rr : Int)), .lit (.int .u64 (g : Int))] H2 K := fun H2 K h => common_spec _ _ (by omega) (by omega) H2 K (by
    have : Int.gcd (rr : Int) (g : Int) = Nat.gcd T g := by rw [Int.gcd_natCast_natCast, err, e9]
    rw [this]; exact h)
  have ov := fun (h : Nat) (h1 : h ≠ 0) (h2 : h < 18446744073709551616) H2 K hk => over_spec T h bT h1 h2 H2 K hk
  rw [wT] at ov
  generalize Nat.gcd T g = h at *
  have q3 := tdivN D h
  have b3 : D / h ≤ D := Nat.div_le_self _ _
  have b4 : T / h ≤ T := Nat.div_le_self _ _
  have ov1 := ov h (by omega) (by omega)
  have hne : ¬ (h : Int) = 0 := by omega
  rw [hD] at q3
  clear ov err e9 eT2
  generalize D / h = p3 at *
  generalize T / h = T2 at *
  have u4 := IntWalk.u64_in (p3 : Int) (by omega)
  have bR : p2 * p3 ≤ 4611686018427387903 * 4611686018427387903 := Nat.mul_le_mul (by omega) (by omega)
  have ft := fit_spec S T2 (p2 * p3) (by omega) (by omega)
  have tm := tmN p2 p3 (by omega) (by omega)
  obtain ⟨zh, ezh⟩ : ∃ z, z = T2 / 18446744073709551616 := ⟨_, rfl⟩
  obtain ⟨zl, ezl⟩ : ∃ z, z = T2 % 18446744073709551616 := ⟨_, rfl⟩
  have wZ : wideV T2 = .agg [.lit (.int .u64 (zh : Int)), .lit (.int .u64 (zl : Int))] := by unfold wideV; rw [← ezh, ← ezl]
  obtain ⟨R, eR⟩ : ∃ z, z = p2 * p3 := ⟨_, rfl⟩
  rw [← eR] at ft tm hK
  obtain ⟨rh, erh⟩ : ∃ z, z = R / 18446744073709551616 := ⟨_, rfl⟩
  obtain ⟨rl, erl⟩ : ∃ z, z = R % 18446744073709551616 := ⟨_, rfl⟩
  have wR : wideV R = .agg [.lit (.int .u64 (rh : Int)), .lit (.int .u64 (rl : Int))] := by unfold wideV; rw [← erh, ← erl]
  rw [wZ] at ov1
  rw [wR] at tm
  rw [wZ, wR] at ft
  have fO : ∀ v, fitO S T2 R = some v → ∃ x y, v = qV x y := fun v hv => fitO_form hv
  generalize fitO S T2 R = O at *
  clear ezh ezl eR erh erl wX wY wZ wR wT bR bT
  refine ACall.of_bodyW (n := 85) (rs := [.cell 4 23]) Tryd.func52 rfl rfl rfl (by decide) (by simp) ?_
  refine W.seq (vc_sound _ _ _ (by rfl) ?_)
  simp (config := { maxSteps := 1000000 }) only [go_sem, Int.reduceToNat, Int.reduceLE, Int.reduceLT, Int.reduceAdd, Int.reduceSub, Int.reduceMul, Int.reduceEq, Int.reduceNe, Nat.reduceEqDiff, Nat.reducePow, Nat.reduceDiv, Nat.reduceMod, Nat.reduceAdd, Nat.reduceMul, Nat.reduceSub, Nat.reduceLT, Nat.reduceLeDiff, reduceIte, reduceCtorEq, qV, appendA_U]
  refine W.seq (vc_sound _ _ _ (by rfl) ?_)
  simp (config := { maxSteps := 1000000 }) only [go_sem, Int.reduceToNat, Int.reduceLE, Int.reduceLT, Int.reduceAdd, Int.reduceSub, Int.reduceMul, Int.reduceEq, Int.reduceNe, Nat.reduceEqDiff, Nat.reducePow, Nat.reduceDiv, Nat.reduceMod, Nat.reduceAdd, Nat.reduceMul, Nat.reduceSub, Nat.reduceLT, Nat.reduceLeDiff, reduceIte, reduceCtorEq, wb, wd, appendA_U]
  refine AApply.clo (cm1 _ _ ⟨trivial, ?_⟩)
  simp (config := { maxSteps := 1000000 }) only [go_sem, Int.reduceToNat, Int.reduceLE, Int.reduceLT, Int.reduceAdd, Int.reduceSub, Int.reduceMul, Int.reduceEq, Int.reduceNe, Nat.reduceEqDiff, Nat.reducePow, Nat.reduceDiv, Nat.reduceMod, Nat.reduceAdd, Nat.reduceMul, Nat.reduceSub, Nat.reduceLT, Nat.reduceLeDiff, reduceIte, reduceCtorEq, appendA_U]
  refine W.seq ?_
  refine W.draw 20 [0, 1, 3, 0, 8, 24, 0, 120, 255, 0, 512, 2047, 0, 4096, 12288, 0, 61440, 131071, 0, 0] Tryd.mixed (by kernel_rfl) (by kernel_rfl) ?_
  simp (config := { maxSteps := 1000000 }) only [go_sem, Int.reduceToNat, Int.reduceLE, Int.reduceLT, Int.reduceAdd, Int.reduceSub, Int.reduceMul, Int.reduceEq, Int.reduceNe, Nat.reduceEqDiff, Nat.reducePow, Nat.reduceDiv, Nat.reduceMod, Nat.reduceAdd, Nat.reduceMul, Nat.reduceSub, Nat.reduceLT, Nat.reduceLeDiff, reduceIte, reduceCtorEq, wb, wd, appendA_U]
  refine ⟨_, [], PCall.pure fun H2 => szN a (by omega) H2 _ ⟨rfl, rfl⟩, ?_⟩
  simp (config := { maxSteps := 1000000 }) only [go_sem, Int.reduceToNat, Int.reduceLE, Int.reduceLT, Int.reduceAdd, Int.reduceSub, Int.reduceMul, Int.reduceEq, Int.reduceNe, Nat.reduceEqDiff, Nat.reducePow, Nat.reduceDiv, Nat.reduceMod, Nat.reduceAdd, Nat.reduceMul, Nat.reduceSub, Nat.reduceLT, Nat.reduceLeDiff, reduceIte, reduceCtorEq, wd, gne, q1, u1, appendA_U]
  refine ⟨_, [], PCall.pure fun H2 => tx H2 _ ⟨rfl, rfl⟩, ?_⟩
  simp (config := { maxSteps := 1000000 }) only [go_sem, Int.reduceToNat, Int.reduceLE, Int.reduceLT, Int.reduceAdd, Int.reduceSub, Int.reduceMul, Int.reduceEq, Int.reduceNe, Nat.reduceEqDiff, Nat.reducePow, Nat.reduceDiv, Nat.reduceMod, Nat.reduceAdd, Nat.reduceMul, Nat.reduceSub, Nat.reduceLT, Nat.reduceLeDiff, reduceIte, reduceCtorEq, appendA_U]
  refine ⟨_, [], PCall.pure fun H2 => szN c (by omega) H2 _ ⟨rfl, rfl⟩, ?_⟩
  simp (config := { maxSteps := 1000000 }) only [go_sem, Int.reduceToNat, Int.reduceLE, Int.reduceLT, Int.reduceAdd, Int.reduceSub, Int.reduceMul, Int.reduceEq, Int.reduceNe, Nat.reduceEqDiff, Nat.reducePow, Nat.reduceDiv, Nat.reduceMod, Nat.reduceAdd, Nat.reduceMul, Nat.reduceSub, Nat.reduceLT, Nat.reduceLeDiff, reduceIte, reduceCtorEq, wb, gne, q2, u2, appendA_U]
  refine ⟨_, [], PCall.pure fun H2 => ty H2 _ ⟨rfl, rfl⟩, ?_⟩
  simp (config := { maxSteps := 1000000 }) only [go_sem, Int.reduceToNat, Int.reduceLE, Int.reduceLT, Int.reduceAdd, Int.reduceSub, Int.reduceMul, Int.reduceEq, Int.reduceNe, Nat.reduceEqDiff, Nat.reducePow, Nat.reduceDiv, Nat.reduceMod, Nat.reduceAdd, Nat.reduceMul, Nat.reduceSub, Nat.reduceLT, Nat.reduceLeDiff, reduceIte, reduceCtorEq, appendA_U]
  refine ⟨by repeat' (first | refine And.intro ?_ ?_ | (intro x hx; omega)), ?_⟩
  refine ⟨by repeat' (first | refine And.intro ?_ ?_ | (intro x hx; omega)), ?_⟩
  have n4 : H.next + 3 + 1 = H.next + 4 := rfl
  simp (config := { maxSteps := 1000000 }) only [go_sem, Int.reduceToNat, Int.reduceLE, Int.reduceLT, Int.reduceAdd, Int.reduceSub, Int.reduceMul, Int.reduceEq, Int.reduceNe, Nat.reduceEqDiff, Nat.reducePow, Nat.reduceDiv, Nat.reduceMod, Nat.reduceAdd, Nat.reduceMul, Nat.reduceSub, Nat.reduceLT, Nat.reduceLeDiff, reduceIte, reduceCtorEq, ext_ext, List.cons_append, List.nil_append, n4, appendA_U]
  refine W.env fun E hE => ?_
  have a2 : E 2 = .ptr H.next 0 0 := by rw [hE]; rfl
  have a3 : E 3 = .ptr (H.next + 1) 0 0 := by rw [hE]; rfl
  have a4 : E 4 = .ptr (H.next + 2) 0 0 := by rw [hE]; rfl
  have a5 : E 5 = .lit (.int .u64 (g : Int)) := by rw [hE]; rfl
  have a6 : E 6 = .ptr (H.next + 3) 0 0 := by rw [hE]; rfl
  have a7 : E 7 = .ptr (H.next + 4) 0 0 := by rw [hE]; rfl
  clear hE
  refine W.seq (vc_sound _ _ _ (by rfl) ?_)
  simp (config := { maxSteps := 1000000 }) only [go_sem, Int.reduceToNat, Int.reduceLE, Int.reduceLT, Int.reduceAdd, Int.reduceSub, Int.reduceMul, Int.reduceEq, Int.reduceNe, Nat.reduceEqDiff, Nat.reducePow, Nat.reduceDiv, Nat.reduceMod, Nat.reduceAdd, Nat.reduceMul, Nat.reduceSub, Nat.reduceLT, Nat.reduceLeDiff, reduceIte, reduceCtorEq, a2, a3, a4, a5, a6, a7, ext_ext, List.cons_append, List.nil_append, appendA_U]
  refine W.env fun F hF => ?_
  have b2 : F 2 = .ptr H.next 0 0 := by rw [hF]; exact a2
  have b3 : F 3 = .ptr (H.next + 1) 0 0 := by rw [hF]; exact a3
  have b4 : F 4 = .ptr (H.next + 2) 0 0 := by rw [hF]; exact a4
  have b5 : F 5 = .lit (.int .u64 (g : Int)) := by rw [hF]; exact a5
  have b6 : F 6 = .ptr (H.next + 3) 0 0 := by rw [hF]; exact a6
  have b7 : F 7 = .ptr (H.next + 4) 0 0 := by rw [hF]; exact a7
  have b8 : F 8 = .lit (.bool (decide (a < 0))) := by rw [hF]; rfl
  have b9 : F 9 = .ptr (H.next + 5) 0 0 := by rw [hF]; rfl
  clear hF a2 a3 a4 a5 a6 a7
  refine W.mid (fun s' => s'.H = ext H [.arr 0 23 [.lit (.int .i64 a), .lit (.int .i64 b)], .arr 0 23 [.lit (.int .i64 c), .lit (.int .i64 d)], .arr 0 23 [.lit (.int .i64 0), .lit (.int .i64 0)], .arr 0 79 [.lit (.int .u64 (xh : Int)), .lit (.int .u64 (xl : Int))], .arr 0 79 [.lit (.int .u64 (yh : Int)), .lit (.int .u64 (yl : Int))], .arr 0 79 [.lit (.int .u64 (th : Int)), .lit (.int .u64 (tl : Int))]] ∧ s'.ρ 2 = .ptr H.next 0 0 ∧ s'.ρ 3 = .ptr (H.next + 1) 0 0 ∧ s'.ρ 4 = .ptr (H.next + 2) 0 0 ∧ s'.ρ 5 = .lit (.int .u64 (g : Int)) ∧ s'.ρ 8 = .lit (.bool S) ∧ s'.ρ 9 = .ptr (H.next + 5) 0 0) ?_ ?_
  · refine W.block ?_
    refine vc_sound _ _ _ (by rfl) ?_
    by_cases hs : a < 0 ↔ c < 0
    · have e1 : (decide (a < 0) == decide (c < 0)) = true := by simp [hs]
      rw [if_pos hs] at eS
      simp (config := { maxSteps := 1000000 }) only [go_sem, Int.reduceToNat, Int.reduceLE, Int.reduceLT, Int.reduceAdd, Int.reduceSub, Int.reduceMul, Int.reduceEq, Int.reduceNe, Nat.reduceEqDiff, Nat.reducePow, Nat.reduceDiv, Nat.reduceMod, Nat.reduceAdd, Nat.reduceMul, Nat.reduceSub, Nat.reduceLT, Nat.reduceLeDiff, reduceIte, reduceCtorEq, b2, b3, b4, b5, b6, b7, b8, b9, bin_eql_bool Tryd.underlying4, e1, appendA_U]
      refine AApply.clo (ps hs _ _ ⟨trivial, ?_⟩)
      simp (config := { maxSteps := 1000000 }) only [go_sem, Int.reduceToNat, Int.reduceLE, Int.reduceLT, Int.reduceAdd, Int.reduceSub, Int.reduceMul, Int.reduceEq, Int.reduceNe, Nat.reduceEqDiff, Nat.reducePow, Nat.reduceDiv, Nat.reduceMod, Nat.reduceAdd, Nat.reduceMul, Nat.reduceSub, Nat.reduceLT, Nat.reduceLeDiff, reduceIte, reduceCtorEq, b2, b3, b4, b5, b6, b7, b8, b9, eS, appendA_U]
    · have e1 : (decide (a < 0) == decide (c < 0)) = false := by
        by_cases q1 : a < 0 <;> by_cases q2 : c < 0 <;> simp [q1, q2] at hs ⊢
      rw [if_neg hs] at eS
      simp (config := { maxSteps := 1000000 }) only [go_sem, Int.reduceToNat, Int.reduceLE, Int.reduceLT, Int.reduceAdd, Int.reduceSub, Int.reduceMul, Int.reduceEq, Int.reduceNe, Nat.reduceEqDiff, Nat.reducePow, Nat.reduceDiv, Nat.reduceMod, Nat.reduceAdd, Nat.reduceMul, Nat.reduceSub, Nat.reduceLT, Nat.reduceLeDiff, reduceIte, reduceCtorEq, b2, b3, b4, b5, b6, b7, b8, b9, bin_eql_bool Tryd.underlying4, e1, appendA_U]
      refine AApply.clo (ls _ _ ⟨trivial, ?_⟩)
      by_cases hl : X < Y
      · rw [if_pos hl] at eS
        rw [decide_eq_true hl]
        simp (config := { maxSteps := 1000000 }) only [go_sem, Int.reduceToNat, Int.reduceLE, Int.reduceLT, Int.reduceAdd, Int.reduceSub, Int.reduceMul, Int.reduceEq, Int.reduceNe, Nat.reduceEqDiff, Nat.reducePow, Nat.reduceDiv, Nat.reduceMod, Nat.reduceAdd, Nat.reduceMul, Nat.reduceSub, Nat.reduceLT, Nat.reduceLeDiff, reduceIte, reduceCtorEq, b2, b3, b4, b5, b6, b7, b8, b9, appendA_U]
        refine AApply.clo (m1 hs hl _ _ ⟨trivial, ?_⟩)
        simp (config := { maxSteps := 1000000 }) only [go_sem, Int.reduceToNat, Int.reduceLE, Int.reduceLT, Int.reduceAdd, Int.reduceSub, Int.reduceMul, Int.reduceEq, Int.reduceNe, Nat.reduceEqDiff, Nat.reducePow, Nat.reduceDiv, Nat.reduceMod, Nat.reduceAdd, Nat.reduceMul, Nat.reduceSub, Nat.reduceLT, Nat.reduceLeDiff, reduceIte, reduceCtorEq, b2, b3, b4, b5, b6, b7, b8, b9, eS, appendA_U]
      · rw [if_neg hl] at eS
        rw [decide_eq_false hl]
        simp (config := { maxSteps := 1000000 }) only [go_sem, Int.reduceToNat, Int.reduceLE, Int.reduceLT, Int.reduceAdd, Int.reduceSub, Int.reduceMul, Int.reduceEq, Int.reduceNe, Nat.reduceEqDiff, Nat.reducePow, Nat.reduceDiv, Nat.reduceMod, Nat.reduceAdd, Nat.reduceMul, Nat.reduceSub, Nat.reduceLT, Nat.reduceLeDiff, reduceIte, reduceCtorEq, b2, b3, b4, b5, b6, b7, b8, b9, appendA_U]
        refine AApply.clo (m2 hs hl _ _ ⟨trivial, ?_⟩)
        simp (config := { maxSteps := 1000000 }) only [go_sem, Int.reduceToNat, Int.reduceLE, Int.reduceLT, Int.reduceAdd, Int.reduceSub, Int.reduceMul, Int.reduceEq, Int.reduceNe, Nat.reduceEqDiff, Nat.reducePow, Nat.reduceDiv, Nat.reduceMod, Nat.reduceAdd, Nat.reduceMul, Nat.reduceSub, Nat.reduceLT, Nat.reduceLeDiff, reduceIte, reduceCtorEq, b2, b3, b4, b5, b6, b7, b8, b9, eS, appendA_U]
  rintro ⟨E2, H2⟩ ⟨eH, a2, a3, a4, a5, a8, a9⟩
  simp only at eH a2 a3 a4 a5 a8 a9
  subst eH
  clear b2 b3 b4 b5 b6 b7 b8 b9 ps m1 m2 ls eT eS
  refine W.seq (vc_sound _ _ _ (by rfl) ?_)
  simp (config := { maxSteps := 1000000 }) only [go_sem, Int.reduceToNat, Int.reduceLE, Int.reduceLT, Int.reduceAdd, Int.reduceSub, Int.reduceMul, Int.reduceEq, Int.reduceNe, Nat.reduceEqDiff, Nat.reducePow, Nat.reduceDiv, Nat.reduceMod, Nat.reduceAdd, Nat.reduceMul, Nat.reduceSub, Nat.reduceLT, Nat.reduceLeDiff, reduceIte, reduceCtorEq, a2, a3, a4, a5, a8, a9, appendA_U]
  refine AApply.clo (rm _ _ ⟨trivial, ?_⟩)
  simp (config := { maxSteps := 1000000 }) only [go_sem, Int.reduceToNat, Int.reduceLE, Int.reduceLT, Int.reduceAdd, Int.reduceSub, Int.reduceMul, Int.reduceEq, Int.reduceNe, Nat.reduceEqDiff, Nat.reducePow, Nat.reduceDiv, Nat.reduceMod, Nat.reduceAdd, Nat.reduceMul, Nat.reduceSub, Nat.reduceLT, Nat.reduceLeDiff, reduceIte, reduceCtorEq, a2, a3, a4, a5, a8, a9, appendA_U]
  refine AApply.clo (cm2 _ _ ⟨trivial, ?_⟩)
  simp (config := { maxSteps := 1000000 }) only [go_sem, Int.reduceToNat, Int.reduceLE, Int.reduceLT, Int.reduceAdd, Int.reduceSub, Int.reduceMul, Int.reduceEq, Int.reduceNe, Nat.reduceEqDiff, Nat.reducePow, Nat.reduceDiv, Nat.reduceMod, Nat.reduceAdd, Nat.reduceMul, Nat.reduceSub, Nat.reduceLT, Nat.reduceLeDiff, reduceIte, reduceCtorEq, a2, a3, a4, a5, a8, a9, appendA_U]
  refine W.env fun F hF => ?_
  have b2 : F 2 = .ptr H.next 0 0 := by rw [hF]; exact a2
  have b3 : F 3 = .ptr (H.next + 1) 0 0 := by rw [hF]; exact a3
  have b4 : F 4 = .ptr (H.next + 2) 0 0 := by rw [hF]; exact a4
  have b5 : F 5 = .lit (.int .u64 (g : Int)) := by rw [hF]; exact a5
  have b8 : F 8 = .lit (.bool S) := by rw [hF]; exact a8
  have b9 : F 9 = .ptr (H.next + 5) 0 0 := by rw [hF]; exact a9
  have b10 : F 10 = .lit (.int .u64 (h : Int)) := by rw [hF]; rfl
  clear hF a2 a3 a4 a5 a8 a9
  refine W.seq ?_
  refine W.draw 15 [0, 0, 0, 6, 0, 16, 48, 0, 240, 0, 512, 1536, 0, 7680, 16382] Tryd.mixed (by kernel_rfl) (by kernel_rfl) ?_
  simp (config := { maxSteps := 1000000 }) only [go_sem, Int.reduceToNat, Int.reduceLE, Int.reduceLT, Int.reduceAdd, Int.reduceSub, Int.reduceMul, Int.reduceEq, Int.reduceNe, Nat.reduceEqDiff, Nat.reducePow, Nat.reduceDiv, Nat.reduceMod, Nat.reduceAdd, Nat.reduceMul, Nat.reduceSub, Nat.reduceLT, Nat.reduceLeDiff, reduceIte, reduceCtorEq, b2, b3, b4, b5, b8, b9, b10, appendA_U]
  refine ⟨_, [], PCall.pure fun H2 => ov1 H2 _ ⟨rfl, rfl⟩, ?_⟩
  simp (config := { maxSteps := 1000000 }) only [go_sem, Int.reduceToNat, Int.reduceLE, Int.reduceLT, Int.reduceAdd, Int.reduceSub, Int.reduceMul, Int.reduceEq, Int.reduceNe, Nat.reduceEqDiff, Nat.reducePow, Nat.reduceDiv, Nat.reduceMod, Nat.reduceAdd, Nat.reduceMul, Nat.reduceSub, Nat.reduceLT, Nat.reduceLeDiff, reduceIte, reduceCtorEq, b2, b3, b4, b5, b8, b9, b10, wb, wd, q2, u2, q3, u4, gne, hne, appendA_U]
  refine ⟨_, [], PCall.pure fun H2 => tm H2 _ ⟨rfl, rfl⟩, ?_⟩
  refine AApply.clo (ft _ _ ⟨fun v hv => ⟨trivial, ?_⟩, fun ho H' hn => ⟨trivial, ?_⟩⟩)
  · have hk := hK.1 v hv
    obtain ⟨x, y, rfl⟩ := fO v hv
    simp (config := { maxSteps := 1000000 }) only [go_sem, Int.reduceToNat, Int.reduceLE, Int.reduceLT, Int.reduceAdd, Int.reduceSub, Int.reduceMul, Int.reduceEq, Int.reduceNe, Nat.reduceEqDiff, Nat.reducePow, Nat.reduceDiv, Nat.reduceMod, Nat.reduceAdd, Nat.reduceMul, Nat.reduceSub, Nat.reduceLT, Nat.reduceLeDiff, reduceIte, reduceCtorEq, b2, b3, b4, b5, b8, b9, b10, qV, appendA_U]
    refine vc_sound _ _ _ (by rfl) ?_
    simp (config := { maxSteps := 1000000 }) only [go_sem, Int.reduceToNat, Int.reduceLE, Int.reduceLT, Int.reduceAdd, Int.reduceSub, Int.reduceMul, Int.reduceEq, Int.reduceNe, Nat.reduceEqDiff, Nat.reducePow, Nat.reduceDiv, Nat.reduceMod, Nat.reduceAdd, Nat.reduceMul, Nat.reduceSub, Nat.reduceLT, Nat.reduceLeDiff, reduceIte, reduceCtorEq, b4, appendA_U]
    exact FinV.drop G0_ok hcl (fz_lits _ _) hk
  · simp only [ext_next, List.length_cons, List.length_nil] at hn
    exact ⟨H', WeakV.refl _ _, by omega, hK.2 ho H' (by omega)⟩
end Go.Proofs
set_option linter.unusedSimpArgs false
set_option maxRecDepth 100000
namespace Go.Proofs
open Go.Hx
/-! Add, Sub, and the reference's. -/
theorem add_spec (a b c d : Int) (ra : (-9223372036854775808 ≤ a ∧ a ≤ 9223372036854775807) ∧ (-9223372036854775808 ≤ b ∧ b ≤ 9223372036854775807)) (rc : (-9223372036854775808 ≤ c ∧ c ≤ 9223372036854775807) ∧ (-9223372036854775808 ≤ d ∧ d ≤ 9223372036854775807))
    (H : AHeap) (K : ARes → AHeap → Prop) (hK : K (.ret (bothR a b c d (sumO a b c d))) H) : ACall Tryd.prog G0 20 [qV a b, qV c d] H K := by
  refine ACall.clo ⟨_, Tryd.func20, rfl, rfl⟩ fun hcl => ?_
  refine ACall.of_body (n := 11) (rs := [.cell 4 23, .tmp 5]) Tryd.func20 rfl rfl rfl (by decide) (by kernel_rfl) (by simp) ?_
  simp (config := { maxSteps := 1000000 }) only [go_sem, Int.reduceToNat, Int.reduceLE, Int.reduceLT, Int.reduceAdd, Int.reduceSub, Int.reduceMul, Int.reduceEq, Int.reduceNe, Nat.reduceEqDiff, Nat.reducePow, Nat.reduceDiv, Nat.reduceMod, Nat.reduceAdd, Nat.reduceMul, Nat.reduceSub, Nat.reduceLT, Nat.reduceLeDiff, reduceIte, reduceCtorEq, qV, appendA_U]
  refine AApply.clo (both_spec (a := a) (b := b) (c := c) (d := d) (o := sumO a b c d) ra rc (fun u hu => fitO_form hu) (fun h1 h2 => ?_) _ _ ⟨trivial, ?_⟩)
  · obtain ⟨p1, p2, _⟩ := checkQ_range h1
    obtain ⟨p3, p4, _⟩ := checkQ_range h2
    exact (sum_spec a b c d p1 p2 p3 p4 noH _ outK_g).mono fun r H' h => gres_of (fun u hu => fitO_form hu) h
  · obtain ⟨x, y, e, he⟩ := bothR_form (a := a) (b := b) (c := c) (d := d) (o := sumO a b c d) fun u hu => fitO_form hu
    rw [he] at hK ⊢
    simp (config := { maxSteps := 1000000 }) only [go_sem, Int.reduceToNat, Int.reduceLE, Int.reduceLT, Int.reduceAdd, Int.reduceSub, Int.reduceMul, Int.reduceEq, Int.reduceNe, Nat.reduceEqDiff, Nat.reducePow, Nat.reduceDiv, Nat.reduceMod, Nat.reduceAdd, Nat.reduceMul, Nat.reduceSub, Nat.reduceLT, Nat.reduceLeDiff, reduceIte, reduceCtorEq, appendA_U]
    exact FinV.drop G0_ok hcl (fz_tq x y e) hK
theorem sub1_spec (a b c d : Int) (ha : -4611686018427387903 ≤ a ∧ a ≤ 4611686018427387903) (hb : 1 ≤ b ∧ b ≤ 4611686018427387903) (hc : -4611686018427387903 ≤ c ∧ c ≤ 4611686018427387903) (hd : 1 ≤ d ∧ d ≤ 4611686018427387903) :
    ACall Tryd.prog G0 53 [qV a b, qV c d] noH (GRes (sumO a b (-c) d)) := by
  refine ACall.clo ⟨_, Tryd.func53, rfl, rfl⟩ fun hcl => ?_
  have w1 := IntWalk.i64_in (-c) (by omega)
  have e1 : 0 - c = -c := by omega
  refine ACall.of_body (n := 13) (rs := [.cell 4 23]) Tryd.func53 rfl rfl rfl (by decide) (by kernel_rfl) (by simp) ?_
  simp (config := { maxSteps := 1000000 }) only [go_sem, Int.reduceToNat, Int.reduceLE, Int.reduceLT, Int.reduceAdd, Int.reduceSub, Int.reduceMul, Int.reduceEq, Int.reduceNe, Nat.reduceEqDiff, Nat.reducePow, Nat.reduceDiv, Nat.reduceMod, Nat.reduceAdd, Nat.reduceMul, Nat.reduceSub, Nat.reduceLT, Nat.reduceLeDiff, reduceIte, reduceCtorEq, qV, w1, e1, appendA_U]
  refine AApply.clo (sum_spec a b (-c) d ha hb (by omega) hd _ _ ⟨fun v hv => ⟨trivial, ?_⟩, fun ho H' hh => ⟨trivial, ?_⟩⟩)
  · obtain ⟨x, y, rfl⟩ := fitO_form hv
    rw [hv]
    simp (config := { maxSteps := 1000000 }) only [go_sem, Int.reduceToNat, Int.reduceLE, Int.reduceLT, Int.reduceAdd, Int.reduceSub, Int.reduceMul, Int.reduceEq, Int.reduceNe, Nat.reduceEqDiff, Nat.reducePow, Nat.reduceDiv, Nat.reduceMod, Nat.reduceAdd, Nat.reduceMul, Nat.reduceSub, Nat.reduceLT, Nat.reduceLeDiff, reduceIte, reduceCtorEq, qV, appendA_U]
    exact FinV.mk (Nat.zero_le _) ⟨_, rfl, fresh_q x y⟩
  · rw [ho]
    exact ⟨H', WeakV.refl _ _, Nat.zero_le _, rfl⟩
theorem sub_spec (a b c d : Int) (ra : (-9223372036854775808 ≤ a ∧ a ≤ 9223372036854775807) ∧ (-9223372036854775808 ≤ b ∧ b ≤ 9223372036854775807)) (rc : (-9223372036854775808 ≤ c ∧ c ≤ 9223372036854775807) ∧ (-9223372036854775808 ≤ d ∧ d ≤ 9223372036854775807))
    (H : AHeap) (K : ARes → AHeap → Prop) (hK : K (.ret (bothR a b c d (sumO a b (-c) d))) H) : ACall Tryd.prog G0 21 [qV a b, qV c d] H K := by
  refine ACall.clo ⟨_, Tryd.func21, rfl, rfl⟩ fun hcl => ?_
  refine ACall.of_body (n := 11) (rs := [.cell 4 23, .tmp 5]) Tryd.func21 rfl rfl rfl (by decide) (by kernel_rfl) (by simp) ?_
  simp (config := { maxSteps := 1000000 }) only [go_sem, Int.reduceToNat, Int.reduceLE, Int.reduceLT, Int.reduceAdd, Int.reduceSub, Int.reduceMul, Int.reduceEq, Int.reduceNe, Nat.reduceEqDiff, Nat.reducePow, Nat.reduceDiv, Nat.reduceMod, Nat.reduceAdd, Nat.reduceMul, Nat.reduceSub, Nat.reduceLT, Nat.reduceLeDiff, reduceIte, reduceCtorEq, qV, appendA_U]
  refine AApply.clo (both_spec (a := a) (b := b) (c := c) (d := d) (o := sumO a b (-c) d) ra rc (fun u hu => fitO_form hu) (fun h1 h2 => ?_) _ _ ⟨trivial, ?_⟩)
  · obtain ⟨p1, p2, _⟩ := checkQ_range h1
    obtain ⟨p3, p4, _⟩ := checkQ_range h2
    exact sub1_spec a b c d p1 p2 p3 p4
  · obtain ⟨x, y, e, he⟩ := bothR_form (a := a) (b := b) (c := c) (d := d) (o := sumO a b (-c) d) fun u hu => fitO_form hu
    rw [he] at hK ⊢
    simp (config := { maxSteps := 1000000 }) only [go_sem, Int.reduceToNat, Int.reduceLE, Int.reduceLT, Int.reduceAdd, Int.reduceSub, Int.reduceMul, Int.reduceEq, Int.reduceNe, Nat.reduceEqDiff, Nat.reducePow, Nat.reduceDiv, Nat.reduceMod, Nat.reduceAdd, Nat.reduceMul, Nat.reduceSub, Nat.reduceLT, Nat.reduceLeDiff, reduceIte, reduceCtorEq, appendA_U]
    exact FinV.drop G0_ok hcl (fz_tq x y e) hK
def totT (a c : Int) (X Y : Nat) : Nat := if (a < 0 ↔ c < 0) then X + Y else if X < Y then Y - X else X - Y
def totS (a c : Int) (X Y : Nat) : Bool := if (a < 0 ↔ c < 0) then decide (a < 0) else if X < Y then !decide (a < 0) else decide (a < 0)
theorem rNeg_spec (a b : Int) (ha : I64 (-a)) (H : AHeap) (K : ARes → AHeap → Prop) (hK : K (.ret (qV (-a) b)) H) : ACall Tryd.prog G0 23 [qV a b] H K := by
  refine ACall.clo ⟨_, Tryd.func23, rfl, rfl⟩ fun hcl => ?_
  have w1 := IntWalk.i64_in (-a) ha
  have e1 : 0 - a = -a := by omega
  refine ACall.of_body (n := 9) (rs := [.cell 2 23]) Tryd.func23 rfl rfl rfl (by decide) (by kernel_rfl) (by simp) ?_
  simp (config := { maxSteps := 1000000 }) only [go_sem, Int.reduceToNat, Int.reduceLE, Int.reduceLT, Int.reduceAdd, Int.reduceSub, Int.reduceMul, Int.reduceEq, Int.reduceNe, Nat.reduceEqDiff, Nat.reducePow, Nat.reduceDiv, Nat.reduceMod, Nat.reduceAdd, Nat.reduceMul, Nat.reduceSub, Nat.reduceLT, Nat.reduceLeDiff, reduceIte, reduceCtorEq, qV, w1, e1, appendA_U]
  exact FinV.drop G0_ok hcl (fz_lits _ _) hK
theorem dl11 {X : Nat} (h : X < 10000 ^ 10 + 10000 ^ 10) : (dig X).length ≤ 11 := dig_len (by
  have e : (10000 : Nat) ^ 11 = 10000 * 10000 ^ 10 := by decide
  rw [e]
  omega)
set_option maxHeartbeats 2000000 in
theorem rAdd_spec (a b c d : Int) (ha : I64 a) (hb : I64 b) (hc : I64 c) (hd : I64 d) (hb0 : b ≠ 0) (hd0 : d ≠ 0) (H : AHeap) (K : ARes → AHeap → Prop)
    (hK : K (.ret (madeR (totS a c (a.natAbs * d.natAbs) (c.natAbs * b.natAbs)) (totT a c (a.natAbs * d.natAbs) (c.natAbs * b.natAbs)) (b.natAbs * d.natAbs))) H) :
    ACall Tryd.prog G0 22 [qV a b, qV c d] H K := by
  refine ACall.clo ⟨_, Tryd.func22, rfl, rfl⟩ fun hcl => ?_
  have la := dl5 ha
  have lb := dl5 hb
  have lc := dl5 hc
  have ld := dl5 hd
  have l1 := dl10 ha hd
  have l2 := dl10 hc hb
  have l3 := dl10 hb hd
  have nz : b.natAbs * d.natAbs ≠ 0 := Nat.mul_ne_zero (natAbs0 hb0) (natAbs0 hd0)
  have t1 := fun H2 K h => dtimes_dig a.natAbs d.natAbs (by omega) (by omega) H2 K h
  have t2 := fun H2 K h => dtimes_dig c.natAbs b.natAbs (by omega) (by omega) H2 K h
  have t3 := fun H2 K h => dtimes_dig b.natAbs d.natAbs (by omega) (by omega) H2 K h
  generalize a.natAbs * d.natAbs = X at *
  generalize c.natAbs * b.natAbs = Y at *
  generalize b.natAbs * d.natAbs = D at *
  have lx := len_of_dig l1
  have ly := len_of_dig l2
  obtain ⟨x, y, f, e⟩ := madeR_form (totS a c X Y) (totT a c X Y) D
  have fin : ∀ L, FinV Tryd.prog G0 H K (.tup [.agg [.lit (.int .i64 x), .lit (.int .i64 y)], .lit (.bool f)]) (ext H L) := fun L => FinV.drop G0_ok hcl fz_qb (by rw [e] at hK; exact hK)
  have mk : ∀ (S : Bool) (T : Nat), S = totS a c X Y → T = totT a c X Y → ∀ H2 K, K (.ret (.tup [.agg [.lit (.int .i64 x), .lit (.int .i64 y)], .lit (.bool f)])) H2 → ACall Tryd.prog G0 50 [.lit (.bool S), vecI (dig T), vecI (dig D)] H2 K := fun S T hS hT H2 K h => by
    subst hS hT
    have lT : (dig (totT a c X Y)).length ≤ 11 := dl11 (by unfold totT; split; · omega
                                                           · split <;> omega)
    exact made_spec _ _ D nz (by omega) (by omega) H2 K (by rw [e]; exact h)
  clear hK e
  refine ACall.of_body (n := 71) (rs := [.cell 4 23, .tmp 5]) Tryd.func22 rfl rfl rfl (by decide) (by kernel_rfl) (by simp) ?_
  simp (config := { maxSteps := 1000000 }) only [go_sem, Int.reduceToNat, Int.reduceLE, Int.reduceLT, Int.reduceAdd, Int.reduceSub, Int.reduceMul, Int.reduceEq, Int.reduceNe, Nat.reduceEqDiff, Nat.reducePow, Nat.reduceDiv, Nat.reduceMod, Nat.reduceAdd, Nat.reduceMul, Nat.reduceSub, Nat.reduceLT, Nat.reduceLeDiff, reduceIte, reduceCtorEq, qV, appendA_U]
  refine W.draw 12 [0, 1, 3, 0, 8, 31, 63, 0, 128, 511, 0, 1024] Tryd.mixed (by kernel_rfl) (by kernel_rfl) ?_
  simp (config := { maxSteps := 1000000 }) only [go_sem, Int.reduceToNat, Int.reduceLE, Int.reduceLT, Int.reduceAdd, Int.reduceSub, Int.reduceMul, Int.reduceEq, Int.reduceNe, Nat.reduceEqDiff, Nat.reducePow, Nat.reduceDiv, Nat.reduceMod, Nat.reduceAdd, Nat.reduceMul, Nat.reduceSub, Nat.reduceLT, Nat.reduceLeDiff, reduceIte, reduceCtorEq, appendA_U]
  refine ⟨_, [], PCall.pure fun H2 => digits_spec a ha H2 _ ⟨rfl, rfl⟩, ?_⟩
  simp (config := { maxSteps := 1000000 }) only [go_sem, Int.reduceToNat, Int.reduceLE, Int.reduceLT, Int.reduceAdd, Int.reduceSub, Int.reduceMul, Int.reduceEq, Int.reduceNe, Nat.reduceEqDiff, Nat.reducePow, Nat.reduceDiv, Nat.reduceMod, Nat.reduceAdd, Nat.reduceMul, Nat.reduceSub, Nat.reduceLT, Nat.reduceLeDiff, reduceIte, reduceCtorEq, appendA_U]
  refine ⟨_, [], PCall.pure fun H2 => digits_spec d hd H2 _ ⟨rfl, rfl⟩, ?_⟩
  simp (config := { maxSteps := 1000000 }) only [go_sem, Int.reduceToNat, Int.reduceLE, Int.reduceLT, Int.reduceAdd, Int.reduceSub, Int.reduceMul, Int.reduceEq, Int.reduceNe, Nat.reduceEqDiff, Nat.reducePow, Nat.reduceDiv, Nat.reduceMod, Nat.reduceAdd, Nat.reduceMul, Nat.reduceSub, Nat.reduceLT, Nat.reduceLeDiff, reduceIte, reduceCtorEq, appendA_U]
  refine ⟨_, [], PCall.pure fun H2 => t1 H2 _ ⟨rfl, rfl⟩, ?_⟩
  simp (config := { maxSteps := 1000000 }) only [go_sem, Int.reduceToNat, Int.reduceLE, Int.reduceLT, Int.reduceAdd, Int.reduceSub, Int.reduceMul, Int.reduceEq, Int.reduceNe, Nat.reduceEqDiff, Nat.reducePow, Nat.reduceDiv, Nat.reduceMod, Nat.reduceAdd, Nat.reduceMul, Nat.reduceSub, Nat.reduceLT, Nat.reduceLeDiff, reduceIte, reduceCtorEq, appendA_U]
  refine ⟨_, [], PCall.pure fun H2 => digits_spec c hc H2 _ ⟨rfl, rfl⟩, ?_⟩
  simp (config := { maxSteps := 1000000 }) only [go_sem, Int.reduceToNat, Int.reduceLE, Int.reduceLT, Int.reduceAdd, Int.reduceSub, Int.reduceMul, Int.reduceEq, Int.reduceNe, Nat.reduceEqDiff, Nat.reducePow, Nat.reduceDiv, Nat.reduceMod, Nat.reduceAdd, Nat.reduceMul, Nat.reduceSub, Nat.reduceLT, Nat.reduceLeDiff, reduceIte, reduceCtorEq, appendA_U]
  refine AApply.clo (digits_spec b hb _ _ ⟨trivial, ?_⟩)
  simp (config := { maxSteps := 1000000 }) only [go_sem, Int.reduceToNat, Int.reduceLE, Int.reduceLT, Int.reduceAdd, Int.reduceSub, Int.reduceMul, Int.reduceEq, Int.reduceNe, Nat.reduceEqDiff, Nat.reducePow, Nat.reduceDiv, Nat.reduceMod, Nat.reduceAdd, Nat.reduceMul, Nat.reduceSub, Nat.reduceLT, Nat.reduceLeDiff, reduceIte, reduceCtorEq, appendA_U]
  refine AApply.clo (t2 _ _ ⟨trivial, ?_⟩)
  simp (config := { maxSteps := 1000000 }) only [go_sem, Int.reduceToNat, Int.reduceLE, Int.reduceLT, Int.reduceAdd, Int.reduceSub, Int.reduceMul, Int.reduceEq, Int.reduceNe, Nat.reduceEqDiff, Nat.reducePow, Nat.reduceDiv, Nat.reduceMod, Nat.reduceAdd, Nat.reduceMul, Nat.reduceSub, Nat.reduceLT, Nat.reduceLeDiff, reduceIte, reduceCtorEq, appendA_U]
  refine W.draw 5 [0, 1, 3, 0, 8] Tryd.mixed (by kernel_rfl) (by kernel_rfl) ?_
  simp (config := { maxSteps := 1000000 }) only [go_sem, Int.reduceToNat, Int.reduceLE, Int.reduceLT, Int.reduceAdd, Int.reduceSub, Int.reduceMul, Int.reduceEq, Int.reduceNe, Nat.reduceEqDiff, Nat.reducePow, Nat.reduceDiv, Nat.reduceMod, Nat.reduceAdd, Nat.reduceMul, Nat.reduceSub, Nat.reduceLT, Nat.reduceLeDiff, reduceIte, reduceCtorEq, appendA_U]
  refine ⟨_, [], PCall.pure fun H2 => digits_spec b hb H2 _ ⟨rfl, rfl⟩, ?_⟩
  simp (config := { maxSteps := 1000000 }) only [go_sem, Int.reduceToNat, Int.reduceLE, Int.reduceLT, Int.reduceAdd, Int.reduceSub, Int.reduceMul, Int.reduceEq, Int.reduceNe, Nat.reduceEqDiff, Nat.reducePow, Nat.reduceDiv, Nat.reduceMod, Nat.reduceAdd, Nat.reduceMul, Nat.reduceSub, Nat.reduceLT, Nat.reduceLeDiff, reduceIte, reduceCtorEq, appendA_U]
  refine AApply.clo (digits_spec d hd _ _ ⟨trivial, ?_⟩)
  simp (config := { maxSteps := 1000000 }) only [go_sem, Int.reduceToNat, Int.reduceLE, Int.reduceLT, Int.reduceAdd, Int.reduceSub, Int.reduceMul, Int.reduceEq, Int.reduceNe, Nat.reduceEqDiff, Nat.reducePow, Nat.reduceDiv, Nat.reduceMod, Nat.reduceAdd, Nat.reduceMul, Nat.reduceSub, Nat.reduceLT, Nat.reduceLeDiff, reduceIte, reduceCtorEq, appendA_U]
  refine AApply.clo (t3 _ _ ⟨trivial, ?_⟩)
  by_cases hs : a < 0 ↔ c < 0
  · have e1 : (decide (a < 0) == decide (c < 0)) = true := by simp [hs]
    simp (config := { maxSteps := 1000000 }) only [go_sem, Int.reduceToNat, Int.reduceLE, Int.reduceLT, Int.reduceAdd, Int.reduceSub, Int.reduceMul, Int.reduceEq, Int.reduceNe, Nat.reduceEqDiff, Nat.reducePow, Nat.reduceDiv, Nat.reduceMod, Nat.reduceAdd, Nat.reduceMul, Nat.reduceSub, Nat.reduceLT, Nat.reduceLeDiff, reduceIte, reduceCtorEq, bin_eql_bool Tryd.underlying4, e1, appendA_U]
    refine W.draw 10 [0, 1, 3, 0, 0, 24, 0, 127, 255, 255] Tryd.mixed (by kernel_rfl) (by kernel_rfl) ?_
    simp (config := { maxSteps := 1000000 }) only [go_sem, Int.reduceToNat, Int.reduceLE, Int.reduceLT, Int.reduceAdd, Int.reduceSub, Int.reduceMul, Int.reduceEq, Int.reduceNe, Nat.reduceEqDiff, Nat.reducePow, Nat.reduceDiv, Nat.reduceMod, Nat.reduceAdd, Nat.reduceMul, Nat.reduceSub, Nat.reduceLT, Nat.reduceLeDiff, reduceIte, reduceCtorEq, appendA_U]
    refine ⟨_, [], PCall.pure fun H2 => plus_spec X Y (by omega) (by omega) H2 _ ⟨rfl, rfl⟩, ?_⟩
    simp (config := { maxSteps := 1000000 }) only [go_sem, Int.reduceToNat, Int.reduceLE, Int.reduceLT, Int.reduceAdd, Int.reduceSub, Int.reduceMul, Int.reduceEq, Int.reduceNe, Nat.reduceEqDiff, Nat.reducePow, Nat.reduceDiv, Nat.reduceMod, Nat.reduceAdd, Nat.reduceMul, Nat.reduceSub, Nat.reduceLT, Nat.reduceLeDiff, reduceIte, reduceCtorEq, appendA_U]
    refine ⟨_, [], PCall.pure fun H2 => mk (decide (a < 0)) (X + Y) (by unfold totS; rw [if_pos hs]) (by unfold totT; rw [if_pos hs]) H2 _ ⟨rfl, rfl⟩, ?_⟩
    simp (config := { maxSteps := 1000000 }) only [go_sem, Int.reduceToNat, Int.reduceLE, Int.reduceLT, Int.reduceAdd, Int.reduceSub, Int.reduceMul, Int.reduceEq, Int.reduceNe, Nat.reduceEqDiff, Nat.reducePow, Nat.reduceDiv, Nat.reduceMod, Nat.reduceAdd, Nat.reduceMul, Nat.reduceSub, Nat.reduceLT, Nat.reduceLeDiff, reduceIte, reduceCtorEq, appendA_U]
    exact fin _
  · have e1 : (decide (a < 0) == decide (c < 0)) = false := by
      by_cases q1 : a < 0 <;> by_cases q2 : c < 0 <;> simp [q1, q2] at hs ⊢
    simp (config := { maxSteps := 1000000 }) only [go_sem, Int.reduceToNat, Int.reduceLE, Int.reduceLT, Int.reduceAdd, Int.reduceSub, Int.reduceMul, Int.reduceEq, Int.reduceNe, Nat.reduceEqDiff, Nat.reducePow, Nat.reduceDiv, Nat.reduceMod, Nat.reduceAdd, Nat.reduceMul, Nat.reduceSub, Nat.reduceLT, Nat.reduceLeDiff, reduceIte, reduceCtorEq, bin_eql_bool Tryd.underlying4, e1, appendA_U]
    refine AApply.clo (compare_spec X Y (by omega) _ _ ⟨trivial, ?_⟩)
    by_cases hl : X < Y
    · have c1 : cmpI (X : Int) (Y : Int) = -1 := by unfold cmpI; rw [if_pos (by omega)]
      rw [c1]
      simp (config := { maxSteps := 1000000 }) only [go_sem, Int.reduceToNat, Int.reduceLE, Int.reduceLT, Int.reduceAdd, Int.reduceSub, Int.reduceMul, Int.reduceEq, Int.reduceNe, Nat.reduceEqDiff, Nat.reducePow, Nat.reduceDiv, Nat.reduceMod, Nat.reduceAdd, Nat.reduceMul, Nat.reduceSub, Nat.reduceLT, Nat.reduceLeDiff, reduceIte, reduceCtorEq, appendA_U]
      refine W.draw 10 [0, 1, 3, 0, 0, 24, 0, 127, 255, 255] Tryd.mixed (by kernel_rfl) (by kernel_rfl) ?_
      simp (config := { maxSteps := 1000000 }) only [go_sem, Int.reduceToNat, Int.reduceLE, Int.reduceLT, Int.reduceAdd, Int.reduceSub, Int.reduceMul, Int.reduceEq, Int.reduceNe, Nat.reduceEqDiff, Nat.reducePow, Nat.reduceDiv, Nat.reduceMod, Nat.reduceAdd, Nat.reduceMul, Nat.reduceSub, Nat.reduceLT, Nat.reduceLeDiff, reduceIte, reduceCtorEq, appendA_U]
      refine ⟨_, [], PCall.pure fun H2 => minus_spec Y X (by omega) (by omega) H2 _ ⟨rfl, rfl⟩, ?_⟩
      simp (config := { maxSteps := 1000000 }) only [go_sem, Int.reduceToNat, Int.reduceLE, Int.reduceLT, Int.reduceAdd, Int.reduceSub, Int.reduceMul, Int.reduceEq, Int.reduceNe, Nat.reduceEqDiff, Nat.reducePow, Nat.reduceDiv, Nat.reduceMod, Nat.reduceAdd, Nat.reduceMul, Nat.reduceSub, Nat.reduceLT, Nat.reduceLeDiff, reduceIte, reduceCtorEq, appendA_U]
      refine ⟨_, [], PCall.pure fun H2 => mk (decide (c < 0)) (Y - X) (by unfold totS; rw [if_neg hs, if_pos hl]; by_cases q1 : a < 0 <;> by_cases q2 : c < 0 <;> simp [q1, q2] at hs ⊢) (by unfold totT; rw [if_neg hs, if_pos hl]) H2 _ ⟨rfl, rfl⟩, ?_⟩
      simp (config := { maxSteps := 1000000 }) only [go_sem, Int.reduceToNat, Int.reduceLE, Int.reduceLT, Int.reduceAdd, Int.reduceSub, Int.reduceMul, Int.reduceEq, Int.reduceNe, Nat.reduceEqDiff, Nat.reducePow, Nat.reduceDiv, Nat.reduceMod, Nat.reduceAdd, Nat.reduceMul, Nat.reduceSub, Nat.reduceLT, Nat.reduceLeDiff, reduceIte, reduceCtorEq, appendA_U]
      exact fin _
    · have c1 : 0 ≤ cmpI (X : Int) (Y : Int) := by
        unfold cmpI
        rw [if_neg (by omega)]
        split <;> omega
      obtain ⟨z, hz⟩ : ∃ z, z = cmpI (X : Int) (Y : Int) := ⟨_, rfl⟩
      rw [← hz] at c1 ⊢
      simp (config := { maxSteps := 1000000 }) only [go_sem, Int.reduceToNat, Int.reduceLE, Int.reduceLT, Int.reduceAdd, Int.reduceSub, Int.reduceMul, Int.reduceEq, Int.reduceNe, Nat.reduceEqDiff, Nat.reducePow, Nat.reduceDiv, Nat.reduceMod, Nat.reduceAdd, Nat.reduceMul, Nat.reduceSub, Nat.reduceLT, Nat.reduceLeDiff, reduceIte, reduceCtorEq, c1, appendA_U]
      refine W.draw 10 [0, 1, 3, 0, 0, 24, 0, 127, 255, 255] Tryd.mixed (by kernel_rfl) (by kernel_rfl) ?_
      simp (config := { maxSteps := 1000000 }) only [go_sem, Int.reduceToNat, Int.reduceLE, Int.reduceLT, Int.reduceAdd, Int.reduceSub, Int.reduceMul, Int.reduceEq, Int.reduceNe, Nat.reduceEqDiff, Nat.reducePow, Nat.reduceDiv, Nat.reduceMod, Nat.reduceAdd, Nat.reduceMul, Nat.reduceSub, Nat.reduceLT, Nat.reduceLeDiff, reduceIte, reduceCtorEq, appendA_U]
      refine ⟨_, [], PCall.pure fun H2 => minus_spec X Y (by omega) (by omega) H2 _ ⟨rfl, rfl⟩, ?_⟩
      simp (config := { maxSteps := 1000000 }) only [go_sem, Int.reduceToNat, Int.reduceLE, Int.reduceLT, Int.reduceAdd, Int.reduceSub, Int.reduceMul, Int.reduceEq, Int.reduceNe, Nat.reduceEqDiff, Nat.reducePow, Nat.reduceDiv, Nat.reduceMod, Nat.reduceAdd, Nat.reduceMul, Nat.reduceSub, Nat.reduceLT, Nat.reduceLeDiff, reduceIte, reduceCtorEq, appendA_U]
      refine ⟨_, [], PCall.pure fun H2 => mk (decide (a < 0)) (X - Y) (by unfold totS; rw [if_neg hs, if_neg hl]) (by unfold totT; rw [if_neg hs, if_neg hl]) H2 _ ⟨rfl, rfl⟩, ?_⟩
      simp (config := { maxSteps := 1000000 }) only [go_sem, Int.reduceToNat, Int.reduceLE, Int.reduceLT, Int.reduceAdd, Int.reduceSub, Int.reduceMul, Int.reduceEq, Int.reduceNe, Nat.reduceEqDiff, Nat.reducePow, Nat.reduceDiv, Nat.reduceMod, Nat.reduceAdd, Nat.reduceMul, Nat.reduceSub, Nat.reduceLT, Nat.reduceLeDiff, reduceIte, reduceCtorEq, appendA_U]
      exact fin _
theorem tot_mul (a c : Int) (g x y : Nat) (hg : 0 < g) : totT a c (g * x) (g * y) = g * totT a c x y ∧ totS a c (g * x) (g * y) = totS a c x y := by
  have hl : g * x < g * y ↔ x < y := Nat.mul_lt_mul_left hg
  unfold totT totS
  by_cases hs : a < 0 ↔ c < 0
  · rw [if_pos hs, if_pos hs, if_pos hs, if_pos hs]
    exact ⟨(Nat.mul_add _ _ _).symm, rfl⟩
  · rw [if_neg hs, if_neg hs, if_neg hs, if_neg hs]
    by_cases h : x < y
    · rw [if_pos h, if_pos (hl.2 h), if_pos h, if_pos (hl.2 h)]
      exact ⟨(Nat.mul_sub _ _ _).symm, rfl⟩
    · rw [if_neg h, if_neg (fun k => h (hl.1 k)), if_neg h, if_neg (fun k => h (hl.1 k))]
      exact ⟨(Nat.mul_sub _ _ _).symm, rfl⟩
theorem tot_or (a c : Int) (x y : Nat) : totT a c x y = x + y ∨ x = totT a c x y + y ∨ y = totT a c x y + x := by
  unfold totT
  split
  · exact .inl rfl
  · split <;> omega
/-- The sum of two fractions, in both programs. -/
theorem sum_made {a b c d : Int} (h1 : checkQ a b = 0) (h2 : checkQ c d = 0) : sumO a b c d = fitO (totS a c (a.natAbs * d.natAbs) (c.natAbs * b.natAbs))
    (totT a c (a.natAbs * d.natAbs) (c.natAbs * b.natAbs) / Nat.gcd (totT a c (a.natAbs * d.natAbs) (c.natAbs * b.natAbs)) (b.natAbs * d.natAbs))
    (b.natAbs * d.natAbs / Nat.gcd (totT a c (a.natAbs * d.natAbs) (c.natAbs * b.natAbs)) (b.natAbs * d.natAbs)) := by
  obtain ⟨_, pb, _⟩ := checkQ_range h1
  obtain ⟨_, pd, _⟩ := checkQ_range h2
  have g0 : 0 < Int.gcd b d := Int.gcd_pos_of_ne_zero_right _ (by omega)
  have eg : Int.gcd b d = Nat.gcd b.natAbs d.natAbs := rfl
  have k1 : a.natAbs * d.natAbs = Int.gcd b d * (a.natAbs * (d.natAbs / Int.gcd b d)) := by
    rw [Nat.mul_left_comm, Nat.mul_div_cancel' (by rw [eg]; exact Nat.gcd_dvd_right _ _)]
  have k2 : c.natAbs * b.natAbs = Int.gcd b d * (c.natAbs * (b.natAbs / Int.gcd b d)) := by
    rw [Nat.mul_left_comm, Nat.mul_div_cancel' (by rw [eg]; exact Nat.gcd_dvd_left _ _)]
  obtain ⟨m1, m2⟩ := tot_mul a c (Int.gcd b d) (a.natAbs * (d.natAbs / Int.gcd b d)) (c.natAbs * (b.natAbs / Int.gcd b d)) g0
  rw [← k1, ← k2] at m1 m2
  obtain ⟨e1, e2⟩ := sum_low (T := totT a c (a.natAbs * (d.natAbs / Int.gcd b d)) (c.natAbs * (b.natAbs / Int.gcd b d))) (checkQ_gcd h1) (checkQ_gcd h2) (by omega) eg rfl rfl (tot_or _ _ _ _) m1
  rw [e1, e2, m2]
  rfl
end Go.Proofs
set_option linter.unusedSimpArgs false
set_option maxRecDepth 100000
namespace Go.Proofs
open Go.Hx
theorem checkQ_neg (a b : Int) : checkQ (-a) b = checkQ a b := by
  unfold checkQ maxN
  have e : Int.gcd (-a) b = Int.gcd a b := Int.neg_gcd
  rw [e]
  by_cases h : b < 1 ∨ b > 4611686018427387903 ∨ a < -4611686018427387903 ∨ a > 4611686018427387903
  · rw [if_pos h, if_pos (by omega)]
  · rw [if_neg h, if_neg (by omega)]
set_option maxHeartbeats 2000000 in
theorem sums_spec (a b c d n0 n1 n2 n3 : Int) (ha : I64 a) (hb : I64 b) (hc : I64 c) (hd : I64 d) (h0 : I64 n0) (h1 : I64 n1) (h2 : I64 n2) (h3 : I64 n3) (H : AHeap) (K : ARes → AHeap → Prop)
    (hK : K (.ret (.lit (.bool true))) H) : ACall Tryd.prog G0 4 [qV a b, qV c d, .agg (ints [n0, n1, n2, n3])] H K := by
  refine ACall.clo ⟨_, Tryd.func4, rfl, rfl⟩ fun hcl => ?_
  refine ACall.of_body (n := 94) (rs := [.tmp 6]) Tryd.func4 rfl rfl rfl (by decide) (by kernel_rfl) (by simp) ?_
  simp (config := { maxSteps := 1000000 }) only [go_sem, Int.reduceToNat, Int.reduceLE, Int.reduceLT, Int.reduceAdd, Int.reduceSub, Int.reduceMul, Int.reduceEq, Int.reduceNe, Nat.reduceEqDiff, Nat.reducePow, Nat.reduceDiv, Nat.reduceMod, Nat.reduceAdd, Nat.reduceMul, Nat.reduceSub, Nat.reduceLT, Nat.reduceLeDiff, reduceIte, reduceCtorEq, qV, appendA_U]
  refine AApply.clo (works_ok _ _ ⟨trivial, ?_⟩)
  simp (config := { maxSteps := 1000000 }) only [go_sem, Int.reduceToNat, Int.reduceLE, Int.reduceLT, Int.reduceAdd, Int.reduceSub, Int.reduceMul, Int.reduceEq, Int.reduceNe, Nat.reduceEqDiff, Nat.reducePow, Nat.reduceDiv, Nat.reduceMod, Nat.reduceAdd, Nat.reduceMul, Nat.reduceSub, Nat.reduceLT, Nat.reduceLeDiff, reduceIte, reduceCtorEq, qV, ints, lin, appendA_U]
  refine AApply.clo (some_spec a b c d n0 n1 n2 n3 h0 h1 h2 h3 _ _ fun x y u v hx hy hu hv => ⟨trivial, ?_⟩)
  unfold someV
  have hp := pair_of a b c d x y u v ha hb hc hd hx hy hu hv
  obtain ⟨S, hS⟩ : ∃ S, S = ints [a, b, c, d, a, b, u, v, x, y, c, d, x, y, u, v] := ⟨_, rfl⟩
  have Sl : S.length = 16 := by rw [hS]; rfl
  rw [← hS] at hp ⊢
  simp (config := { maxSteps := 1000000 }) only [go_sem, Int.reduceToNat, Int.reduceLE, Int.reduceLT, Int.reduceAdd, Int.reduceSub, Int.reduceMul, Int.reduceEq, Int.reduceNe, Nat.reduceEqDiff, Nat.reducePow, Nat.reduceDiv, Nat.reduceMod, Nat.reduceAdd, Nat.reduceMul, Nat.reduceSub, Nat.reduceLT, Nat.reduceLeDiff, reduceIte, reduceCtorEq, appendA_U]
  obtain ⟨H1, hH1⟩ : ∃ H1, H1 = ext H [.arr 0 23 [.lit (.int .i64 a), .lit (.int .i64 b)], .arr 0 23 [.lit (.int .i64 c), .lit (.int .i64 d)], .arr 0 35 [.lit (.int .i64 n0), .lit (.int .i64 n1), .lit (.int .i64 n2), .lit (.int .i64 n3)]] := ⟨_, rfl⟩
  have ov1 : Over H H1 := by rw [hH1]; exact .ext _ _
  rw [← hH1]
  refine W.env fun E hE => ?_
  have e22 : E 22 = .agg S := by rw [hE]; rfl
  have e23 : E 23 = lin 0 := by rw [hE]; rfl
  clear hE hH1
  refine W.loop0 19807040628566084398377729856 (by rfl) (fun ρ H' => ∃ k : Nat, ρ 23 = lin k ∧ k ≤ 4 ∧ Over H1 H') (fun ρ H => 4 - (iv (ρ 23)).toNat) ?_ ?_
  · simp (config := { maxSteps := 1000000 }) only [go_sem, Int.reduceToNat, Int.reduceLE, Int.reduceLT, Int.reduceAdd, Int.reduceSub, Int.reduceMul, Int.reduceEq, Int.reduceNe, Nat.reduceEqDiff, Nat.reducePow, Nat.reduceDiv, Nat.reduceMod, Nat.reduceAdd, Nat.reduceMul, Nat.reduceSub, Nat.reduceLT, Nat.reduceLeDiff, reduceIte, reduceCtorEq, e23, appendA_U]
    exact ⟨0, rfl, by omega, .refl _⟩
  rintro ρ H' ⟨k, h23, hk, ov⟩
  refine vc_sound _ _ _ (by rfl) ?_
  by_cases hk4 : k = 4
  · have z1 : ¬ (k : Int) < 4 := by omega
    simp (config := { maxSteps := 1000000 }) only [go_sem, Int.reduceToNat, Int.reduceLE, Int.reduceLT, Int.reduceAdd, Int.reduceSub, Int.reduceMul, Int.reduceEq, Int.reduceNe, Nat.reduceEqDiff, Nat.reducePow, Nat.reduceDiv, Nat.reduceMod, Nat.reduceAdd, Nat.reduceMul, Nat.reduceSub, Nat.reduceLT, Nat.reduceLeDiff, reduceIte, reduceCtorEq, h23, z1, appendA_U]
    exact FinV.dropO G0_ok hcl (ov1.trans ov) (.lit _) hK
  have z1 : (k : Int) < 4 := by omega
  obtain ⟨p, q, r, s, hp, hq, hr, hs, hpair⟩ := hp k (by omega)
  have w1 := IntWalk.i64_in ((k : Int) + 1) (by omega)
  simp (config := { maxSteps := 1000000 }) only [go_sem, Int.reduceToNat, Int.reduceLE, Int.reduceLT, Int.reduceAdd, Int.reduceSub, Int.reduceMul, Int.reduceEq, Int.reduceNe, Nat.reduceEqDiff, Nat.reducePow, Nat.reduceDiv, Nat.reduceMod, Nat.reduceAdd, Nat.reduceMul, Nat.reduceSub, Nat.reduceLT, Nat.reduceLeDiff, reduceIte, reduceCtorEq, h23, z1, e22, Sl, hpair, appendA_U]
  refine ⟨by omega, ?_⟩
  refine AApply.clo (add_spec p q r s ⟨hp, hq⟩ ⟨hr, hs⟩ _ _ ⟨trivial, ?_⟩)
  have ov2 : ∀ L, Over H1 (ext H' L) := fun L => ov.trans (.ext _ _)
  have c1 := checkQ_cases p q
  have c2 := checkQ_cases r s
  by_cases both : checkQ p q = 0 ∧ checkQ r s = 0
  rotate_left
  · have b1 : bothR p q r s (sumO p q r s) = .tup [qV 0 0, .lit (.int .i64 5)] := by unfold bothR; rw [if_neg both]
    have b2 : bothR p q r s (sumO p q (-r) s) = .tup [qV 0 0, .lit (.int .i64 5)] := by unfold bothR; rw [if_neg both]
    rw [b1]
    simp (config := { maxSteps := 1000000 }) only [go_sem, Int.reduceToNat, Int.reduceLE, Int.reduceLT, Int.reduceAdd, Int.reduceSub, Int.reduceMul, Int.reduceEq, Int.reduceNe, Nat.reduceEqDiff, Nat.reducePow, Nat.reduceDiv, Nat.reduceMod, Nat.reduceAdd, Nat.reduceMul, Nat.reduceSub, Nat.reduceLT, Nat.reduceLeDiff, reduceIte, reduceCtorEq, h23, qV, appendA_U]
    refine AApply.clo (sub_spec p q r s ⟨hp, hq⟩ ⟨hr, hs⟩ _ _ ⟨trivial, ?_⟩)
    rw [b2]
    simp (config := { maxSteps := 1000000 }) only [go_sem, Int.reduceToNat, Int.reduceLE, Int.reduceLT, Int.reduceAdd, Int.reduceSub, Int.reduceMul, Int.reduceEq, Int.reduceNe, Nat.reduceEqDiff, Nat.reducePow, Nat.reduceDiv, Nat.reduceMod, Nat.reduceAdd, Nat.reduceMul, Nat.reduceSub, Nat.reduceLT, Nat.reduceLeDiff, reduceIte, reduceCtorEq, h23, qV, appendA_U]
    rcases c1 with c1 | c1
    · rcases c2 with c2 | c2
      · exact absurd ⟨c1, c2⟩ both
      have d1 : decide (checkQ p q = 0) = true := by rw [c1]; rfl
      have d2 : decide (checkQ r s = 0) = false := by rw [c2]; rfl
      refine AApply.clo (Right_spec p q hp hq _ _ ⟨trivial, ?_⟩)
      rw [d1]
      simp (config := { maxSteps := 1000000 }) only [go_sem, Int.reduceToNat, Int.reduceLE, Int.reduceLT, Int.reduceAdd, Int.reduceSub, Int.reduceMul, Int.reduceEq, Int.reduceNe, Nat.reduceEqDiff, Nat.reducePow, Nat.reduceDiv, Nat.reduceMod, Nat.reduceAdd, Nat.reduceMul, Nat.reduceSub, Nat.reduceLT, Nat.reduceLeDiff, reduceIte, reduceCtorEq, h23, qV, guardA_undef, appendA_U]
      refine AApply.clo (Right_spec r s hr hs _ _ ⟨trivial, ?_⟩)
      rw [d2]
      simp (config := { maxSteps := 1000000 }) only [go_sem, Int.reduceToNat, Int.reduceLE, Int.reduceLT, Int.reduceAdd, Int.reduceSub, Int.reduceMul, Int.reduceEq, Int.reduceNe, Nat.reduceEqDiff, Nat.reducePow, Nat.reduceDiv, Nat.reduceMod, Nat.reduceAdd, Nat.reduceMul, Nat.reduceSub, Nat.reduceLT, Nat.reduceLeDiff, reduceIte, reduceCtorEq, h23, qV, guardA_undef, appendA_U]
      refine AApply.clo (failed_spec 0 0 5 5 _ _ ⟨trivial, ?_⟩)
      simp (config := { maxSteps := 1000000 }) only [go_sem, Int.reduceToNat, Int.reduceLE, Int.reduceLT, Int.reduceAdd, Int.reduceSub, Int.reduceMul, Int.reduceEq, Int.reduceNe, Nat.reduceEqDiff, Nat.reducePow, Nat.reduceDiv, Nat.reduceMod, Nat.reduceAdd, Nat.reduceMul, Nat.reduceSub, Nat.reduceLT, Nat.reduceLeDiff, reduceIte, reduceCtorEq, h23, qV, guardA_undef, appendA_U]
      refine AApply.clo (failed_spec 0 0 5 5 _ _ ⟨trivial, ?_⟩)
      simp (config := { maxSteps := 1000000 }) only [go_sem, Int.reduceToNat, Int.reduceLE, Int.reduceLT, Int.reduceAdd, Int.reduceSub, Int.reduceMul, Int.reduceEq, Int.reduceNe, Nat.reduceEqDiff, Nat.reducePow, Nat.reduceDiv, Nat.reduceMod, Nat.reduceAdd, Nat.reduceMul, Nat.reduceSub, Nat.reduceLT, Nat.reduceLeDiff, reduceIte, reduceCtorEq, h23, qV, guardA_undef, w1, appendA_U]
      exact ⟨Nat.le_trans ov.next (by omega), ⟨k + 1, by simp, by omega, ov2 _⟩, by omega⟩
    · have d1 : decide (checkQ p q = 0) = false := by rw [c1]; rfl
      refine AApply.clo (Right_spec p q hp hq _ _ ⟨trivial, ?_⟩)
      rw [d1]
      simp (config := { maxSteps := 1000000 }) only [go_sem, Int.reduceToNat, Int.reduceLE, Int.reduceLT, Int.reduceAdd, Int.reduceSub, Int.reduceMul, Int.reduceEq, Int.reduceNe, Nat.reduceEqDiff, Nat.reducePow, Nat.reduceDiv, Nat.reduceMod, Nat.reduceAdd, Nat.reduceMul, Nat.reduceSub, Nat.reduceLT, Nat.reduceLeDiff, reduceIte, reduceCtorEq, h23, qV, guardA_undef, appendA_U]
      refine AApply.clo (failed_spec 0 0 5 5 _ _ ⟨trivial, ?_⟩)
      simp (config := { maxSteps := 1000000 }) only [go_sem, Int.reduceToNat, Int.reduceLE, Int.reduceLT, Int.reduceAdd, Int.reduceSub, Int.reduceMul, Int.reduceEq, Int.reduceNe, Nat.reduceEqDiff, Nat.reducePow, Nat.reduceDiv, Nat.reduceMod, Nat.reduceAdd, Nat.reduceMul, Nat.reduceSub, Nat.reduceLT, Nat.reduceLeDiff, reduceIte, reduceCtorEq, h23, qV, guardA_undef, appendA_U]
      refine AApply.clo (failed_spec 0 0 5 5 _ _ ⟨trivial, ?_⟩)
      simp (config := { maxSteps := 1000000 }) only [go_sem, Int.reduceToNat, Int.reduceLE, Int.reduceLT, Int.reduceAdd, Int.reduceSub, Int.reduceMul, Int.reduceEq, Int.reduceNe, Nat.reduceEqDiff, Nat.reducePow, Nat.reduceDiv, Nat.reduceMod, Nat.reduceAdd, Nat.reduceMul, Nat.reduceSub, Nat.reduceLT, Nat.reduceLeDiff, reduceIte, reduceCtorEq, h23, qV, guardA_undef, w1, appendA_U]
      exact ⟨Nat.le_trans ov.next (by omega), ⟨k + 1, by simp, by omega, ov2 _⟩, by omega⟩
  have d1 : decide (checkQ p q = 0) = true := by rw [both.1]; rfl
  have d2 : decide (checkQ r s = 0) = true := by rw [both.2]; rfl
  obtain ⟨rp, rq, _⟩ := checkQ_range both.1
  obtain ⟨rr, rs, _⟩ := checkQ_range both.2
  have hnr : I64 (-r) := by unfold I64; omega
  have m1 := sum_made both.1 both.2
  have m2 := sum_made both.1 (show checkQ (-r) s = 0 by rw [checkQ_neg]; exact both.2)
  have b1 : bothR p q r s (sumO p q r s) = gdOut gdQ (sumO p q r s) := by unfold bothR; rw [if_pos both]
  have b2 : bothR p q r s (sumO p q (-r) s) = gdOut gdQ (sumO p q (-r) s) := by unfold bothR; rw [if_pos both]
  obtain ⟨x1, y1, e1, f1, k1, x2, y2, k2, k3⟩ := fit_made (totS p r (p.natAbs * s.natAbs) (r.natAbs * q.natAbs)) (totT p r (p.natAbs * s.natAbs) (r.natAbs * q.natAbs)) (q.natAbs * s.natAbs)
  obtain ⟨x3, y3, e3, f3, k4, x4, y4, k5, k6⟩ := fit_made (totS p (-r) (p.natAbs * s.natAbs) ((-r).natAbs * q.natAbs)) (totT p (-r) (p.natAbs * s.natAbs) ((-r).natAbs * q.natAbs)) (q.natAbs * s.natAbs)
  rw [b1, m1, k1]
  simp (config := { maxSteps := 1000000 }) only [go_sem, Int.reduceToNat, Int.reduceLE, Int.reduceLT, Int.reduceAdd, Int.reduceSub, Int.reduceMul, Int.reduceEq, Int.reduceNe, Nat.reduceEqDiff, Nat.reducePow, Nat.reduceDiv, Nat.reduceMod, Nat.reduceAdd, Nat.reduceMul, Nat.reduceSub, Nat.reduceLT, Nat.reduceLeDiff, reduceIte, reduceCtorEq, h23, qV, appendA_U]
  refine AApply.clo (sub_spec p q r s ⟨hp, hq⟩ ⟨hr, hs⟩ _ _ ⟨trivial, ?_⟩)
  rw [b2, m2, k4]
  simp (config := { maxSteps := 1000000 }) only [go_sem, Int.reduceToNat, Int.reduceLE, Int.reduceLT, Int.reduceAdd, Int.reduceSub, Int.reduceMul, Int.reduceEq, Int.reduceNe, Nat.reduceEqDiff, Nat.reducePow, Nat.reduceDiv, Nat.reduceMod, Nat.reduceAdd, Nat.reduceMul, Nat.reduceSub, Nat.reduceLT, Nat.reduceLeDiff, reduceIte, reduceCtorEq, h23, qV, appendA_U]
  refine AApply.clo (Right_spec p q hp hq _ _ ⟨trivial, ?_⟩)
  rw [d1]
  simp (config := { maxSteps := 1000000 }) only [go_sem, Int.reduceToNat, Int.reduceLE, Int.reduceLT, Int.reduceAdd, Int.reduceSub, Int.reduceMul, Int.reduceEq, Int.reduceNe, Nat.reduceEqDiff, Nat.reducePow, Nat.reduceDiv, Nat.reduceMod, Nat.reduceAdd, Nat.reduceMul, Nat.reduceSub, Nat.reduceLT, Nat.reduceLeDiff, reduceIte, reduceCtorEq, h23, qV, guardA_undef, appendA_U]
  refine AApply.clo (Right_spec r s hr hs _ _ ⟨trivial, ?_⟩)
  rw [d2]
  simp (config := { maxSteps := 1000000 }) only [go_sem, Int.reduceToNat, Int.reduceLE, Int.reduceLT, Int.reduceAdd, Int.reduceSub, Int.reduceMul, Int.reduceEq, Int.reduceNe, Nat.reduceEqDiff, Nat.reducePow, Nat.reduceDiv, Nat.reduceMod, Nat.reduceAdd, Nat.reduceMul, Nat.reduceSub, Nat.reduceLT, Nat.reduceLeDiff, reduceIte, reduceCtorEq, h23, qV, guardA_undef, appendA_U]
  refine AApply.clo (rAdd_spec p q r s hp hq hr hs (by omega) (by omega) _ _ ⟨trivial, ?_⟩)
  rw [k2]
  simp (config := { maxSteps := 1000000 }) only [go_sem, Int.reduceToNat, Int.reduceLE, Int.reduceLT, Int.reduceAdd, Int.reduceSub, Int.reduceMul, Int.reduceEq, Int.reduceNe, Nat.reduceEqDiff, Nat.reducePow, Nat.reduceDiv, Nat.reduceMod, Nat.reduceAdd, Nat.reduceMul, Nat.reduceSub, Nat.reduceLT, Nat.reduceLeDiff, reduceIte, reduceCtorEq, h23, qV, guardA_undef, appendA_U]
  
  refine W.draw 11 [0, 1, 0, 4, 12, 31, 63, 127, 127, 0, 767] Tryd.mixed (by kernel_rfl) (by kernel_rfl) ?_
  simp (config := { maxSteps := 1000000 }) only [go_sem, Int.reduceToNat, Int.reduceLE, Int.reduceLT, Int.reduceAdd, Int.reduceSub, Int.reduceMul, Int.reduceEq, Int.reduceNe, Nat.reduceEqDiff, Nat.reducePow, Nat.reduceDiv, Nat.reduceMod, Nat.reduceAdd, Nat.reduceMul, Nat.reduceSub, Nat.reduceLT, Nat.reduceLeDiff, reduceIte, reduceCtorEq, h23, qV, guardA_undef, appendA_U]
  refine ⟨_, [], PCall.pure fun H2 => rNeg_spec r s hnr H2 _ ⟨rfl, rfl⟩, ?_⟩
  simp (config := { maxSteps := 1000000 }) only [go_sem, Int.reduceToNat, Int.reduceLE, Int.reduceLT, Int.reduceAdd, Int.reduceSub, Int.reduceMul, Int.reduceEq, Int.reduceNe, Nat.reduceEqDiff, Nat.reducePow, Nat.reduceDiv, Nat.reduceMod, Nat.reduceAdd, Nat.reduceMul, Nat.reduceSub, Nat.reduceLT, Nat.reduceLeDiff, reduceIte, reduceCtorEq, h23, qV, guardA_undef, appendA_U]
  refine ⟨_, [], PCall.pure fun H2 => rAdd_spec p q (-r) s hp hq hnr hs (by omega) (by omega) H2 _ ⟨rfl, rfl⟩, ?_⟩
  rw [k5]
  simp (config := { maxSteps := 1000000 }) only [go_sem, Int.reduceToNat, Int.reduceLE, Int.reduceLT, Int.reduceAdd, Int.reduceSub, Int.reduceMul, Int.reduceEq, Int.reduceNe, Nat.reduceEqDiff, Nat.reducePow, Nat.reduceDiv, Nat.reduceMod, Nat.reduceAdd, Nat.reduceMul, Nat.reduceSub, Nat.reduceLT, Nat.reduceLeDiff, reduceIte, reduceCtorEq, h23, qV, guardA_undef, appendA_U]
  refine ⟨by repeat' (first | refine And.intro ?_ ?_ | (intro x hx; omega)), ?_⟩
  simp (config := { maxSteps := 1000000 }) only [go_sem, Int.reduceToNat, Int.reduceLE, Int.reduceLT, Int.reduceAdd, Int.reduceSub, Int.reduceMul, Int.reduceEq, Int.reduceNe, Nat.reduceEqDiff, Nat.reducePow, Nat.reduceDiv, Nat.reduceMod, Nat.reduceAdd, Nat.reduceMul, Nat.reduceSub, Nat.reduceLT, Nat.reduceLeDiff, reduceIte, reduceCtorEq, h23, qV, guardA_undef, ext_ext, List.cons_append, List.nil_append, appendA_U]
  refine AApply.clo (told_spec x1 y1 e1 x2 y2 f1 k3 _ _ ⟨trivial, ?_⟩)
  simp (config := { maxSteps := 1000000 }) only [go_sem, Int.reduceToNat, Int.reduceLE, Int.reduceLT, Int.reduceAdd, Int.reduceSub, Int.reduceMul, Int.reduceEq, Int.reduceNe, Nat.reduceEqDiff, Nat.reducePow, Nat.reduceDiv, Nat.reduceMod, Nat.reduceAdd, Nat.reduceMul, Nat.reduceSub, Nat.reduceLT, Nat.reduceLeDiff, reduceIte, reduceCtorEq, h23, qV, guardA_undef, appendA_U]
  refine AApply.clo (told_spec x3 y3 e3 x4 y4 f3 k6 _ _ ⟨trivial, ?_⟩)
  simp (config := { maxSteps := 1000000 }) only [go_sem, Int.reduceToNat, Int.reduceLE, Int.reduceLT, Int.reduceAdd, Int.reduceSub, Int.reduceMul, Int.reduceEq, Int.reduceNe, Nat.reduceEqDiff, Nat.reducePow, Nat.reduceDiv, Nat.reduceMod, Nat.reduceAdd, Nat.reduceMul, Nat.reduceSub, Nat.reduceLT, Nat.reduceLeDiff, reduceIte, reduceCtorEq, h23, qV, guardA_undef, w1, appendA_U]
  exact ⟨Nat.le_trans ov.next (by omega), ⟨k + 1, by simp, by omega, ov2 _⟩, by omega⟩
end Go.Proofs
